import Derived.Test.YtoiphmpjiobaiaaM8d
namespace Go.Av
open Go Go.Proofs
set_option linter.unusedVariables false
set_option linter.unusedSimpArgs false

set_option maxRecDepth 100000 in
theorem freshetlaw04_MomentAdvanced_ok {fuel : Nat} {p0 : Time} {p1 : List Time} {p2 : Time} {q : Bool} (h : freshetlaw04_MomentAdvanced fuel p0 p1 p2 = some q) :
    Summ Try.prog 9 [.agg (cTime p0), cD (lD 3 encTime p1), .agg (cTime p2)] [] (cD (.bool q)) [] := by
  refine Summ.intro Try.func9 rfl (by kernel_rfl) (by kernel_rfl) [] rfl ?_
  rintro ⟨P, w0, G0, V, LL, lk, N, φ0, fx⟩ rfl rfl rfl rfl
  unfold freshetlaw04_MomentAdvanced at h
  refine Tri.seqS ?_
  refine Tri.reg ?_
  refine At.seg 3 [1, 3, 5] [3, 5] (s' := ⟨[(1, cD (lD 3 encTime p1)), (3, .c (.ptr 3 0)), (5, .c (.ptr 5 0))], [(3, .box (cTime p0)), (5, .box (cTime p2))]⟩) (c := True ∧ True ∧ True ∧ True) (by kernel_rfl) ⟨trivial, trivial, trivial, trivial⟩ ?_
  refine At.done rfl ?_
  show Tri _ _ _ _
  refine Tri.seqS ?_
  refine Tri.seqJ (fun (a1 : Bool) => ⟨[(1, cD (lD 3 encTime p1)), (3, .c (.ptr 3 0)), (5, .c (.ptr 5 0)), (13, cD (.bool a1))], [(3, .box (cTime p0)), (5, .box (cTime p2))]⟩) h (fun a1 h => ?_) (fun j2 h => ?_)
  ·show Tri _ _ ⟨[(1, cD (lD 3 encTime p1)), (3, .c (.ptr 3 0)), (5, .c (.ptr 5 0)), (13, cD (.bool a1))], [(3, .box (cTime p0)), (5, .box (cTime p2))]⟩ _
   refine Tri.condP (b := a1) rfl h (fun h => ?_) (fun h => ?_)
   ·refine Tri.seqS ?_
    refine Tri.reg ?_
    refine At.seg 1 [6] [] (s' := ⟨[(6, cD (.bool false))], []⟩) (c := True ∧ True) (by kernel_rfl) ⟨trivial, trivial⟩ ?_
    refine At.done rfl ?_
    show Tri _ _ _ _
    refine Tri.keep [6] [] (s' := ⟨[(6, cD (.bool false))], []⟩) (by kernel_rfl) ?_
    refine Tri.ret ?_
    cases h
    refine ⟨_, _, rfl, ⟨trivial, trivial⟩, rfl, rfl, ?_⟩
    intro k c h
    cases h
   ·refine Tri.skip ?_
    show Tri _ _ _ _
    refine Tri.seqS ?_
    refine Tri.reg ?_
    refine At.seg 2 [1, 3, 5, 14, 15] [3, 5] (s' := ⟨[(1, cD (lD 3 encTime p1)), (3, .c (.ptr 3 0)), (5, .c (.ptr 5 0)), (14, .agg (cTime p0)), (15, cD (lD 3 encTime p1))], [(3, .box (cTime p0)), (5, .box (cTime p2))]⟩) (c := True ∧ True ∧ True) (by kernel_rfl) ⟨trivial, trivial, trivial⟩ ?_
    obtain ⟨r3, hr3, h⟩ := bind_elim h
    refine At.callA (caps := []) (xs := [.agg (cTime p0), cD (lD 3 encTime p1)]) (moment_Advance_ok hr3) rfl rfl rfl rfl rfl rfl (.cons (.refl _) (.cons (.refl _) .nil)) rfl rfl ?_
    refine At.seg 2 [1, 3, 5, 7] [3, 5, 7] (s' := ⟨[(1, cD (lD 3 encTime p1)), (3, .c (.ptr 3 0)), (5, .c (.ptr 5 0)), (7, .c (.ptr 7 0))], [(3, .box (cTime p0)), (5, .box (cTime p2)), (7, .box (cTime r3))]⟩) (c := True ∧ True ∧ True) (by kernel_rfl) ⟨trivial, trivial, trivial⟩ ?_
    refine At.done rfl ?_
    show Tri _ _ _ _
    refine Tri.seqS ?_
    refine Tri.seqJ (fun (a4 : Bool) => ⟨[(1, cD (lD 3 encTime p1)), (3, .c (.ptr 3 0)), (7, .c (.ptr 7 0)), (28, cD (.bool a4))], [(3, .box (cTime p0)), (7, .box (cTime r3))]⟩) h (fun a4 h => ?_) (fun j5 h => ?_)
    ·show Tri _ _ ⟨[(1, cD (lD 3 encTime p1)), (3, .c (.ptr 3 0)), (7, .c (.ptr 7 0)), (28, cD (.bool a4))], [(3, .box (cTime p0)), (7, .box (cTime r3))]⟩ _
     refine Tri.condP (b := a4) rfl h (fun h => ?_) (fun h => ?_)
     ·refine Tri.seqS ?_
      refine Tri.reg ?_
      refine At.seg 1 [6] [] (s' := ⟨[(6, cD (.bool false))], []⟩) (c := True ∧ True) (by kernel_rfl) ⟨trivial, trivial⟩ ?_
      refine At.done rfl ?_
      show Tri _ _ _ _
      refine Tri.keep [6] [] (s' := ⟨[(6, cD (.bool false))], []⟩) (by kernel_rfl) ?_
      refine Tri.ret ?_
      cases h
      refine ⟨_, _, rfl, ⟨trivial, trivial⟩, rfl, rfl, ?_⟩
      intro k c h
      cases h
     ·refine Tri.skip ?_
      show Tri _ _ _ _
      refine Tri.seqJ (fun (a6 : Bool) => ⟨[(6, cD (.bool a6))], []⟩) h (fun a6 h => ?_) (fun j7 h => ?_)
      ·show Tri _ _ ⟨[(6, cD (.bool a6))], []⟩ _
       refine Tri.keep [6] [] (s' := ⟨[(6, cD (.bool a6))], []⟩) (by kernel_rfl) ?_
       refine Tri.ret ?_
       cases h
       refine ⟨_, _, rfl, ⟨trivial, trivial⟩, rfl, rfl, ?_⟩
       intro k c h
       cases h
      ·obtain ⟨r8, hr8, h⟩ := bind_elim h
       rcases bf_cases h with ⟨hp9, h⟩ | ⟨hp9, h⟩
       ·obtain ⟨r10, hr10, h⟩ := bind_elim h
        rcases bf_cases h with ⟨hp11, h⟩ | ⟨hp11, h⟩
        ·obtain ⟨r12, hr12, h⟩ := bind_elim h
         obtain ⟨r13, hr13, h⟩ := bind_elim h
         refine Tri.drawn (specs := [⟨⟨[(3, .c (.ptr 3 0))], [(3, .box (cTime p0))]⟩, ⟨[(29, .agg (cTime p0))], []⟩, [], [], []⟩, ⟨⟨[(7, .c (.ptr 7 0))], [(7, .box (cTime r3))]⟩, ⟨[(30, .agg (cTime r3))], []⟩, [], [], []⟩, ⟨⟨[(29, .agg (cTime p0)), (30, .agg (cTime r3))], []⟩, ⟨[(31, cD (.bool r8))], []⟩, [], [], []⟩, ⟨⟨[(31, cD (.bool r8))], []⟩, ⟨[(32, .c (.d (.bool true)))], []⟩, [], [], []⟩, ⟨⟨[(7, .c (.ptr 7 0)), (32, cD (.bool true))], [(7, .box (cTime r3))]⟩, ⟨[(33, .agg (cTime r3))], []⟩, [], [], []⟩, ⟨⟨[(1, cD (lD 3 encTime p1)), (32, cD (.bool true))], []⟩, ⟨[(34, cD (lD 3 encTime p1))], []⟩, [], [], []⟩, ⟨⟨[(32, cD (.bool true)), (33, .agg (cTime r3)), (34, cD (lD 3 encTime p1))], []⟩, ⟨[(35, .agg (cTime r10))], []⟩, [], [], []⟩, ⟨⟨[(7, .c (.ptr 7 0)), (32, cD (.bool true))], [(7, .box (cTime r3))]⟩, ⟨[(36, .agg (cTime r3))], []⟩, [], [], []⟩, ⟨⟨[(32, cD (.bool true)), (35, .agg (cTime r10)), (36, .agg (cTime r3))], []⟩, ⟨[(37, cD (.bool (eqTime r10 r3)))], []⟩, [], [], []⟩, ⟨⟨[(32, cD (.bool true)), (37, cD (.bool (eqTime r10 r3)))], []⟩, ⟨[(38, cD (.bool (eqTime r10 r3)))], []⟩, [], [], []⟩, ⟨⟨[(38, cD (.bool (eqTime r10 r3)))], []⟩, ⟨[(39, .c (.d (.bool true)))], []⟩, [], [], []⟩, ⟨⟨[(3, .c (.ptr 3 0)), (39, cD (.bool true))], [(3, .box (cTime p0))]⟩, ⟨[(40, .agg (cTime p0))], []⟩, [], [], []⟩, ⟨⟨[(1, cD (lD 3 encTime p1)), (39, cD (.bool true))], []⟩, ⟨[(41, cD (lD 3 encTime p1))], []⟩, [], [], []⟩, ⟨⟨[(39, cD (.bool true)), (41, cD (lD 3 encTime p1))], []⟩, ⟨[(42, cD (lD 3 encTime r12))], []⟩, [], [], []⟩, ⟨⟨[(39, cD (.bool true)), (40, .agg (cTime p0)), (42, cD (lD 3 encTime r12))], []⟩, ⟨[(43, .agg (cTime r13))], []⟩, [], [], []⟩, ⟨⟨[(7, .c (.ptr 7 0)), (39, cD (.bool true))], [(7, .box (cTime r3))]⟩, ⟨[(44, .agg (cTime r3))], []⟩, [], [], []⟩, ⟨⟨[(39, cD (.bool true)), (43, .agg (cTime r13)), (44, .agg (cTime r3))], []⟩, ⟨[(45, cD (.bool (eqTime r13 r3)))], []⟩, [], [], []⟩, ⟨⟨[(39, cD (.bool true)), (45, cD (.bool (eqTime r13 r3)))], []⟩, ⟨[(46, cD (.bool (eqTime r13 r3)))], []⟩, [], [], []⟩, ⟨⟨[(46, cD (.bool (eqTime r13 r3)))], []⟩, ⟨[(6, cD (.bool (eqTime r13 r3)))], []⟩, [], [], []⟩]) (bef := [[], [], [0, 1], [0, 1, 2], [0, 1, 2, 3], [0, 1, 2, 3], [0, 1, 2, 3, 4, 5], [0, 1, 2, 3], [0, 1, 2, 3, 4, 5, 6, 7], [0, 1, 2, 3, 4, 5, 6, 7, 8], [0, 1, 2, 3, 4, 5, 6, 7, 8, 9], [0, 1, 2, 3, 4, 5, 6, 7, 8, 9, 10], [0, 1, 2, 3, 4, 5, 6, 7, 8, 9, 10], [0, 1, 2, 3, 4, 5, 6, 7, 8, 9, 10, 12], [0, 1, 2, 3, 4, 5, 6, 7, 8, 9, 10, 11, 12, 13], [0, 1, 2, 3, 4, 5, 6, 7, 8, 9, 10], [0, 1, 2, 3, 4, 5, 6, 7, 8, 9, 10, 11, 12, 13, 14, 15], [0, 1, 2, 3, 4, 5, 6, 7, 8, 9, 10, 11, 12, 13, 14, 15, 16], [0, 1, 2, 3, 4, 5, 6, 7, 8, 9, 10, 11, 12, 13, 14, 15, 16, 17]]) (tk := [6]) (sk := []) (s' := ⟨[(6, cD (.bool (eqTime r13 r3)))], []⟩) (by kernel_rfl) (by kernel_rfl) (by kernel_rfl) ⟨?_, ?_, ?_, ?_, ?_, ?_, ?_, ?_, ?_, ?_, ?_, ?_, ?_, ?_, ?_, ?_, ?_, ?_, ?_, trivial⟩ (by kernel_rfl) ?_
         · exact DOk.t rfl rfl (by kernel_rfl) (by kernel_rfl) (by kernel_rfl) (by kernel_rfl)
         · exact DOk.t rfl rfl (by kernel_rfl) (by kernel_rfl) (by kernel_rfl) (by kernel_rfl)
         · exact DOk.callA (caps := []) (xs := [.agg (cTime p0), .agg (cTime r3)]) (moment_Ahead_ok hr8) rfl (fun r => by kernel_rfl) rfl (fun r => by kernel_rfl) (fun r => by kernel_rfl) (fun r => (.cons (.refl _) (.cons (.refl _) .nil))) rfl rfl (fun r => rfl)
         · exact DOk.stepP (fun b => .val (.c (.d (.bool b))) (True)) (p := r8) hp9 (fun r => by kernel_rfl) (fun r => by kernel_rfl) trivial (by kernel_rfl) (by kernel_rfl) (fun r => rfl)
         · exact DOk.t rfl rfl (by kernel_rfl) (by kernel_rfl) (by kernel_rfl) (by kernel_rfl)
         · exact DOk.t rfl rfl (by kernel_rfl) (by kernel_rfl) (by kernel_rfl) (by kernel_rfl)
         · exact DOk.callA (caps := []) (xs := [.agg (cTime r3), cD (lD 3 encTime p1)]) (moment_Advance_ok hr10) rfl (fun r => by kernel_rfl) rfl (fun r => by kernel_rfl) (fun r => by kernel_rfl) (fun r => (.cons (.refl _) (.cons (.refl _) .nil))) rfl rfl (fun r => rfl)
         · exact DOk.t rfl rfl (by kernel_rfl) (by kernel_rfl) (by kernel_rfl) (by kernel_rfl)
         · exact DOk.one fun r _ => One.eql (b := (eqTime r10 r3)) (d := 9) rfl (by kernel_rfl) rfl (.inl rfl) rfl rfl (by kernel_rfl) rfl (by kernel_rfl)
         · exact DOk.t rfl rfl (by kernel_rfl) (by kernel_rfl) (by kernel_rfl) (by kernel_rfl)
         · exact DOk.stepP (fun b => .val (.c (.d (.bool b))) (True)) (p := (eqTime r10 r3)) hp11 (fun r => by kernel_rfl) (fun r => by kernel_rfl) trivial (by kernel_rfl) (by kernel_rfl) (fun r => rfl)
         · exact DOk.t rfl rfl (by kernel_rfl) (by kernel_rfl) (by kernel_rfl) (by kernel_rfl)
         · exact DOk.t rfl rfl (by kernel_rfl) (by kernel_rfl) (by kernel_rfl) (by kernel_rfl)
         · exact DOk.callA (caps := []) (xs := [cD (lD 3 encTime p1)]) (moment_Front_ok hr12) rfl (fun r => by kernel_rfl) rfl (fun r => by kernel_rfl) (fun r => by kernel_rfl) (fun r => (.cons (.refl _) .nil)) rfl rfl (fun r => rfl)
         · exact DOk.callA (caps := []) (xs := [.agg (cTime p0), cD (lD 3 encTime r12)]) (moment_Advance_ok hr13) rfl (fun r => by kernel_rfl) rfl (fun r => by kernel_rfl) (fun r => by kernel_rfl) (fun r => (.cons (.refl _) (.cons (.refl _) .nil))) rfl rfl (fun r => rfl)
         · exact DOk.t rfl rfl (by kernel_rfl) (by kernel_rfl) (by kernel_rfl) (by kernel_rfl)
         · exact DOk.one fun r _ => One.eql (b := (eqTime r13 r3)) (d := 9) rfl (by kernel_rfl) rfl (.inl rfl) rfl rfl (by kernel_rfl) rfl (by kernel_rfl)
         · exact DOk.t rfl rfl (by kernel_rfl) (by kernel_rfl) (by kernel_rfl) (by kernel_rfl)
         · exact DOk.t rfl rfl (by kernel_rfl) (by kernel_rfl) (by kernel_rfl) (by kernel_rfl)
         exact ⟨_, h, rfl⟩
        ·refine Tri.drawn (specs := [⟨⟨[(3, .c (.ptr 3 0))], [(3, .box (cTime p0))]⟩, ⟨[(29, .agg (cTime p0))], []⟩, [], [], []⟩, ⟨⟨[(7, .c (.ptr 7 0))], [(7, .box (cTime r3))]⟩, ⟨[(30, .agg (cTime r3))], []⟩, [], [], []⟩, ⟨⟨[(29, .agg (cTime p0)), (30, .agg (cTime r3))], []⟩, ⟨[(31, cD (.bool r8))], []⟩, [], [], []⟩, ⟨⟨[(31, cD (.bool r8))], []⟩, ⟨[(32, .c (.d (.bool true)))], []⟩, [], [], []⟩, ⟨⟨[(7, .c (.ptr 7 0)), (32, cD (.bool true))], [(7, .box (cTime r3))]⟩, ⟨[(33, .agg (cTime r3))], []⟩, [], [], []⟩, ⟨⟨[(1, cD (lD 3 encTime p1)), (32, cD (.bool true))], []⟩, ⟨[(34, cD (lD 3 encTime p1))], []⟩, [], [], []⟩, ⟨⟨[(32, cD (.bool true)), (33, .agg (cTime r3)), (34, cD (lD 3 encTime p1))], []⟩, ⟨[(35, .agg (cTime r10))], []⟩, [], [], []⟩, ⟨⟨[(7, .c (.ptr 7 0)), (32, cD (.bool true))], [(7, .box (cTime r3))]⟩, ⟨[(36, .agg (cTime r3))], []⟩, [], [], []⟩, ⟨⟨[(32, cD (.bool true)), (35, .agg (cTime r10)), (36, .agg (cTime r3))], []⟩, ⟨[(37, cD (.bool (eqTime r10 r3)))], []⟩, [], [], []⟩, ⟨⟨[(32, cD (.bool true)), (37, cD (.bool (eqTime r10 r3)))], []⟩, ⟨[(38, cD (.bool (eqTime r10 r3)))], []⟩, [], [], []⟩, ⟨⟨[(38, cD (.bool (eqTime r10 r3)))], []⟩, ⟨[(39, .c (.d (.bool false)))], []⟩, [], [], []⟩, ⟨⟨[(3, .c (.ptr 3 0)), (39, cD (.bool false))], [(3, .box (cTime p0))]⟩, ⟨[(40, .tup [])], []⟩, [], [], []⟩, ⟨⟨[(1, cD (lD 3 encTime p1)), (39, cD (.bool false))], []⟩, ⟨[(41, .tup [])], []⟩, [], [], []⟩, ⟨⟨[(39, cD (.bool false)), (41, .tup [])], []⟩, ⟨[(42, .tup [])], []⟩, [], [], []⟩, ⟨⟨[(39, cD (.bool false)), (40, .tup []), (42, .tup [])], []⟩, ⟨[(43, .tup [])], []⟩, [], [], []⟩, ⟨⟨[(7, .c (.ptr 7 0)), (39, cD (.bool false))], [(7, .box (cTime r3))]⟩, ⟨[(44, .tup [])], []⟩, [], [], []⟩, ⟨⟨[(39, cD (.bool false)), (43, .tup []), (44, .tup [])], []⟩, ⟨[(45, .tup [])], []⟩, [], [], []⟩, ⟨⟨[(39, cD (.bool false)), (45, .tup [])], []⟩, ⟨[(46, cD (.bool false))], []⟩, [], [], []⟩, ⟨⟨[(46, cD (.bool false))], []⟩, ⟨[(6, cD (.bool false))], []⟩, [], [], []⟩]) (bef := [[], [], [0, 1], [0, 1, 2], [0, 1, 2, 3], [0, 1, 2, 3], [0, 1, 2, 3, 4, 5], [0, 1, 2, 3], [0, 1, 2, 3, 4, 5, 6, 7], [0, 1, 2, 3, 4, 5, 6, 7, 8], [0, 1, 2, 3, 4, 5, 6, 7, 8, 9], [0, 1, 2, 3, 4, 5, 6, 7, 8, 9, 10], [0, 1, 2, 3, 4, 5, 6, 7, 8, 9, 10], [0, 1, 2, 3, 4, 5, 6, 7, 8, 9, 10, 12], [0, 1, 2, 3, 4, 5, 6, 7, 8, 9, 10, 11, 12, 13], [0, 1, 2, 3, 4, 5, 6, 7, 8, 9, 10], [0, 1, 2, 3, 4, 5, 6, 7, 8, 9, 10, 11, 12, 13, 14, 15], [0, 1, 2, 3, 4, 5, 6, 7, 8, 9, 10, 11, 12, 13, 14, 15, 16], [0, 1, 2, 3, 4, 5, 6, 7, 8, 9, 10, 11, 12, 13, 14, 15, 16, 17]]) (tk := [6]) (sk := []) (s' := ⟨[(6, cD (.bool false))], []⟩) (by kernel_rfl) (by kernel_rfl) (by kernel_rfl) ⟨?_, ?_, ?_, ?_, ?_, ?_, ?_, ?_, ?_, ?_, ?_, ?_, ?_, ?_, ?_, ?_, ?_, ?_, ?_, trivial⟩ (by kernel_rfl) ?_
         · exact DOk.t rfl rfl (by kernel_rfl) (by kernel_rfl) (by kernel_rfl) (by kernel_rfl)
         · exact DOk.t rfl rfl (by kernel_rfl) (by kernel_rfl) (by kernel_rfl) (by kernel_rfl)
         · exact DOk.callA (caps := []) (xs := [.agg (cTime p0), .agg (cTime r3)]) (moment_Ahead_ok hr8) rfl (fun r => by kernel_rfl) rfl (fun r => by kernel_rfl) (fun r => by kernel_rfl) (fun r => (.cons (.refl _) (.cons (.refl _) .nil))) rfl rfl (fun r => rfl)
         · exact DOk.stepP (fun b => .val (.c (.d (.bool b))) (True)) (p := r8) hp9 (fun r => by kernel_rfl) (fun r => by kernel_rfl) trivial (by kernel_rfl) (by kernel_rfl) (fun r => rfl)
         · exact DOk.t rfl rfl (by kernel_rfl) (by kernel_rfl) (by kernel_rfl) (by kernel_rfl)
         · exact DOk.t rfl rfl (by kernel_rfl) (by kernel_rfl) (by kernel_rfl) (by kernel_rfl)
         · exact DOk.callA (caps := []) (xs := [.agg (cTime r3), cD (lD 3 encTime p1)]) (moment_Advance_ok hr10) rfl (fun r => by kernel_rfl) rfl (fun r => by kernel_rfl) (fun r => by kernel_rfl) (fun r => (.cons (.refl _) (.cons (.refl _) .nil))) rfl rfl (fun r => rfl)
         · exact DOk.t rfl rfl (by kernel_rfl) (by kernel_rfl) (by kernel_rfl) (by kernel_rfl)
         · exact DOk.one fun r _ => One.eql (b := (eqTime r10 r3)) (d := 9) rfl (by kernel_rfl) rfl (.inl rfl) rfl rfl (by kernel_rfl) rfl (by kernel_rfl)
         · exact DOk.t rfl rfl (by kernel_rfl) (by kernel_rfl) (by kernel_rfl) (by kernel_rfl)
         · exact DOk.stepP (fun b => .val (.c (.d (.bool b))) (True)) (p := (eqTime r10 r3)) hp11 (fun r => by kernel_rfl) (fun r => by kernel_rfl) trivial (by kernel_rfl) (by kernel_rfl) (fun r => rfl)
         · exact DOk.skip (fun r => by kernel_rfl) rfl rfl (fun r => rfl)
         · exact DOk.skip (fun r => by kernel_rfl) rfl rfl (fun r => rfl)
         · exact DOk.skip (fun r => by kernel_rfl) rfl rfl (fun r => rfl)
         · exact DOk.skip (fun r => by kernel_rfl) rfl rfl (fun r => rfl)
         · exact DOk.skip (fun r => by kernel_rfl) rfl rfl (fun r => rfl)
         · exact DOk.skip (fun r => by kernel_rfl) rfl rfl (fun r => rfl)
         · exact DOk.t rfl rfl (by kernel_rfl) (by kernel_rfl) (by kernel_rfl) (by kernel_rfl)
         · exact DOk.t rfl rfl (by kernel_rfl) (by kernel_rfl) (by kernel_rfl) (by kernel_rfl)
         exact ⟨_, h, rfl⟩
       ·refine Tri.drawn (specs := [⟨⟨[(3, .c (.ptr 3 0))], [(3, .box (cTime p0))]⟩, ⟨[(29, .agg (cTime p0))], []⟩, [], [], []⟩, ⟨⟨[(7, .c (.ptr 7 0))], [(7, .box (cTime r3))]⟩, ⟨[(30, .agg (cTime r3))], []⟩, [], [], []⟩, ⟨⟨[(29, .agg (cTime p0)), (30, .agg (cTime r3))], []⟩, ⟨[(31, cD (.bool r8))], []⟩, [], [], []⟩, ⟨⟨[(31, cD (.bool r8))], []⟩, ⟨[(32, .c (.d (.bool false)))], []⟩, [], [], []⟩, ⟨⟨[(7, .c (.ptr 7 0)), (32, cD (.bool false))], [(7, .box (cTime r3))]⟩, ⟨[(33, .tup [])], []⟩, [], [], []⟩, ⟨⟨[(1, cD (lD 3 encTime p1)), (32, cD (.bool false))], []⟩, ⟨[(34, .tup [])], []⟩, [], [], []⟩, ⟨⟨[(32, cD (.bool false)), (33, .tup []), (34, .tup [])], []⟩, ⟨[(35, .tup [])], []⟩, [], [], []⟩, ⟨⟨[(7, .c (.ptr 7 0)), (32, cD (.bool false))], [(7, .box (cTime r3))]⟩, ⟨[(36, .tup [])], []⟩, [], [], []⟩, ⟨⟨[(32, cD (.bool false)), (35, .tup []), (36, .tup [])], []⟩, ⟨[(37, .tup [])], []⟩, [], [], []⟩, ⟨⟨[(32, cD (.bool false)), (37, .tup [])], []⟩, ⟨[(38, cD (.bool false))], []⟩, [], [], []⟩, ⟨⟨[(38, cD (.bool false))], []⟩, ⟨[(39, cD (.bool false))], []⟩, [], [], []⟩, ⟨⟨[(3, .c (.ptr 3 0)), (39, cD (.bool false))], [(3, .box (cTime p0))]⟩, ⟨[(40, .tup [])], []⟩, [], [], []⟩, ⟨⟨[(1, cD (lD 3 encTime p1)), (39, cD (.bool false))], []⟩, ⟨[(41, .tup [])], []⟩, [], [], []⟩, ⟨⟨[(39, cD (.bool false)), (41, .tup [])], []⟩, ⟨[(42, .tup [])], []⟩, [], [], []⟩, ⟨⟨[(39, cD (.bool false)), (40, .tup []), (42, .tup [])], []⟩, ⟨[(43, .tup [])], []⟩, [], [], []⟩, ⟨⟨[(7, .c (.ptr 7 0)), (39, cD (.bool false))], [(7, .box (cTime r3))]⟩, ⟨[(44, .tup [])], []⟩, [], [], []⟩, ⟨⟨[(39, cD (.bool false)), (43, .tup []), (44, .tup [])], []⟩, ⟨[(45, .tup [])], []⟩, [], [], []⟩, ⟨⟨[(39, cD (.bool false)), (45, .tup [])], []⟩, ⟨[(46, cD (.bool false))], []⟩, [], [], []⟩, ⟨⟨[(46, cD (.bool false))], []⟩, ⟨[(6, cD (.bool false))], []⟩, [], [], []⟩]) (bef := [[], [], [0, 1], [0, 1, 2], [0, 1, 2, 3], [0, 1, 2, 3], [0, 1, 2, 3, 4, 5], [0, 1, 2, 3], [0, 1, 2, 3, 4, 5, 6, 7], [0, 1, 2, 3, 4, 5, 6, 7, 8], [0, 1, 2, 3, 4, 5, 6, 7, 8, 9], [0, 1, 2, 3, 4, 5, 6, 7, 8, 9, 10], [0, 1, 2, 3, 4, 5, 6, 7, 8, 9, 10], [0, 1, 2, 3, 4, 5, 6, 7, 8, 9, 10, 12], [0, 1, 2, 3, 4, 5, 6, 7, 8, 9, 10, 11, 12, 13], [0, 1, 2, 3, 4, 5, 6, 7, 8, 9, 10], [0, 1, 2, 3, 4, 5, 6, 7, 8, 9, 10, 11, 12, 13, 14, 15], [0, 1, 2, 3, 4, 5, 6, 7, 8, 9, 10, 11, 12, 13, 14, 15, 16], [0, 1, 2, 3, 4, 5, 6, 7, 8, 9, 10, 11, 12, 13, 14, 15, 16, 17]]) (tk := [6]) (sk := []) (s' := ⟨[(6, cD (.bool false))], []⟩) (by kernel_rfl) (by kernel_rfl) (by kernel_rfl) ⟨?_, ?_, ?_, ?_, ?_, ?_, ?_, ?_, ?_, ?_, ?_, ?_, ?_, ?_, ?_, ?_, ?_, ?_, ?_, trivial⟩ (by kernel_rfl) ?_
        · exact DOk.t rfl rfl (by kernel_rfl) (by kernel_rfl) (by kernel_rfl) (by kernel_rfl)
        · exact DOk.t rfl rfl (by kernel_rfl) (by kernel_rfl) (by kernel_rfl) (by kernel_rfl)
        · exact DOk.callA (caps := []) (xs := [.agg (cTime p0), .agg (cTime r3)]) (moment_Ahead_ok hr8) rfl (fun r => by kernel_rfl) rfl (fun r => by kernel_rfl) (fun r => by kernel_rfl) (fun r => (.cons (.refl _) (.cons (.refl _) .nil))) rfl rfl (fun r => rfl)
        · exact DOk.stepP (fun b => .val (.c (.d (.bool b))) (True)) (p := r8) hp9 (fun r => by kernel_rfl) (fun r => by kernel_rfl) trivial (by kernel_rfl) (by kernel_rfl) (fun r => rfl)
        · exact DOk.skip (fun r => by kernel_rfl) rfl rfl (fun r => rfl)
        · exact DOk.skip (fun r => by kernel_rfl) rfl rfl (fun r => rfl)
        · exact DOk.skip (fun r => by kernel_rfl) rfl rfl (fun r => rfl)
        · exact DOk.skip (fun r => by kernel_rfl) rfl rfl (fun r => rfl)
        · exact DOk.skip (fun r => by kernel_rfl) rfl rfl (fun r => rfl)
        · exact DOk.t rfl rfl (by kernel_rfl) (by kernel_rfl) (by kernel_rfl) (by kernel_rfl)
        · exact DOk.t rfl rfl (by kernel_rfl) (by kernel_rfl) (by kernel_rfl) (by kernel_rfl)
        · exact DOk.skip (fun r => by kernel_rfl) rfl rfl (fun r => rfl)
        · exact DOk.skip (fun r => by kernel_rfl) rfl rfl (fun r => rfl)
        · exact DOk.skip (fun r => by kernel_rfl) rfl rfl (fun r => rfl)
        · exact DOk.skip (fun r => by kernel_rfl) rfl rfl (fun r => rfl)
        · exact DOk.skip (fun r => by kernel_rfl) rfl rfl (fun r => rfl)
        · exact DOk.skip (fun r => by kernel_rfl) rfl rfl (fun r => rfl)
        · exact DOk.t rfl rfl (by kernel_rfl) (by kernel_rfl) (by kernel_rfl) (by kernel_rfl)
        · exact DOk.t rfl rfl (by kernel_rfl) (by kernel_rfl) (by kernel_rfl) (by kernel_rfl)
        exact ⟨_, h, rfl⟩
    ·obtain ⟨r14, hr14, h⟩ := bind_elim h
     rcases bf_cases h with ⟨hp15, h⟩ | ⟨hp15, h⟩
     ·obtain ⟨r16, hr16, h⟩ := bind_elim h
      obtain ⟨r17, hr17, h⟩ := bind_elim h
      refine Tri.drawn (specs := [⟨⟨[(1, cD (lD 3 encTime p1))], []⟩, ⟨[(17, cD (lD 3 encTime p1))], []⟩, [], [], []⟩, ⟨⟨[(5, .c (.ptr 5 0))], [(5, .box (cTime p2))]⟩, ⟨[(18, .agg (cTime p2))], []⟩, [], [], []⟩, ⟨⟨[(17, cD (lD 3 encTime p1)), (18, .agg (cTime p2))], []⟩, ⟨[(19, cD (.bool r14))], []⟩, [], [], []⟩, ⟨⟨[(19, cD (.bool r14))], []⟩, ⟨[(20, .c (.d (.bool true)))], []⟩, [], [], []⟩, ⟨⟨[(3, .c (.ptr 3 0)), (20, cD (.bool true))], [(3, .box (cTime p0))]⟩, ⟨[(21, .agg (cTime p0))], []⟩, [], [], []⟩, ⟨⟨[(5, .c (.ptr 5 0)), (20, cD (.bool true))], [(5, .box (cTime p2))]⟩, ⟨[(22, .agg (cTime p2))], []⟩, [], [], []⟩, ⟨⟨[(20, cD (.bool true)), (21, .agg (cTime p0)), (22, .agg (cTime p2))], []⟩, ⟨[(23, cD (.bool r16))], []⟩, [], [], []⟩, ⟨⟨[(7, .c (.ptr 7 0)), (20, cD (.bool true))], [(7, .box (cTime r3))]⟩, ⟨[(24, .agg (cTime r3))], []⟩, [], [], []⟩, ⟨⟨[(5, .c (.ptr 5 0)), (20, cD (.bool true))], [(5, .box (cTime p2))]⟩, ⟨[(25, .agg (cTime p2))], []⟩, [], [], []⟩, ⟨⟨[(20, cD (.bool true)), (24, .agg (cTime r3)), (25, .agg (cTime p2))], []⟩, ⟨[(26, cD (.bool r17))], []⟩, [], [], []⟩, ⟨⟨[(20, cD (.bool true)), (23, cD (.bool r16)), (26, cD (.bool r17))], []⟩, ⟨[(27, cD (.bool (!(r16 == r17))))], []⟩, [], [], []⟩, ⟨⟨[(20, cD (.bool true)), (27, cD (.bool (!(r16 == r17))))], []⟩, ⟨[(28, cD (.bool (!(r16 == r17))))], []⟩, [], [], []⟩]) (bef := [[], [], [0, 1], [0, 1, 2], [0, 1, 2, 3], [0, 1, 2, 3], [0, 1, 2, 3, 4, 5], [0, 1, 2, 3], [0, 1, 2, 3], [0, 1, 2, 3, 4, 5, 6, 7, 8], [0, 1, 2, 3, 4, 5, 6, 7, 8, 9], [0, 1, 2, 3, 4, 5, 6, 7, 8, 9, 10]]) (tk := [1, 3, 7, 28]) (sk := [3, 7]) (s' := ⟨[(1, cD (lD 3 encTime p1)), (3, .c (.ptr 3 0)), (7, .c (.ptr 7 0)), (28, cD (.bool (!(r16 == r17))))], [(3, .box (cTime p0)), (7, .box (cTime r3))]⟩) (by kernel_rfl) (by kernel_rfl) (by kernel_rfl) ⟨?_, ?_, ?_, ?_, ?_, ?_, ?_, ?_, ?_, ?_, ?_, ?_, trivial⟩ (by kernel_rfl) ?_
      · exact DOk.t rfl rfl (by kernel_rfl) (by kernel_rfl) (by kernel_rfl) (by kernel_rfl)
      · exact DOk.t rfl rfl (by kernel_rfl) (by kernel_rfl) (by kernel_rfl) (by kernel_rfl)
      · exact DOk.callA (caps := []) (xs := [cD (lD 3 encTime p1), .agg (cTime p2)]) (moment_Beyond_ok hr14) rfl (fun r => by kernel_rfl) rfl (fun r => by kernel_rfl) (fun r => by kernel_rfl) (fun r => (.cons (.refl _) (.cons (.refl _) .nil))) rfl rfl (fun r => rfl)
      · exact DOk.stepP (fun b => .val (.c (.d (.bool b))) (True)) (p := r14) hp15 (fun r => by kernel_rfl) (fun r => by kernel_rfl) trivial (by kernel_rfl) (by kernel_rfl) (fun r => rfl)
      · exact DOk.t rfl rfl (by kernel_rfl) (by kernel_rfl) (by kernel_rfl) (by kernel_rfl)
      · exact DOk.t rfl rfl (by kernel_rfl) (by kernel_rfl) (by kernel_rfl) (by kernel_rfl)
      · exact DOk.callA (caps := []) (xs := [.agg (cTime p0), .agg (cTime p2)]) (moment_Ahead_ok hr16) rfl (fun r => by kernel_rfl) rfl (fun r => by kernel_rfl) (fun r => by kernel_rfl) (fun r => (.cons (.refl _) (.cons (.refl _) .nil))) rfl rfl (fun r => rfl)
      · exact DOk.t rfl rfl (by kernel_rfl) (by kernel_rfl) (by kernel_rfl) (by kernel_rfl)
      · exact DOk.t rfl rfl (by kernel_rfl) (by kernel_rfl) (by kernel_rfl) (by kernel_rfl)
      · exact DOk.callA (caps := []) (xs := [.agg (cTime r3), .agg (cTime p2)]) (moment_Ahead_ok hr17) rfl (fun r => by kernel_rfl) rfl (fun r => by kernel_rfl) (fun r => by kernel_rfl) (fun r => (.cons (.refl _) (.cons (.refl _) .nil))) rfl rfl (fun r => rfl)
      · exact DOk.t rfl rfl (by kernel_rfl) (by kernel_rfl) (by kernel_rfl) (by kernel_rfl)
      · exact DOk.t rfl rfl (by kernel_rfl) (by kernel_rfl) (by kernel_rfl) (by kernel_rfl)
      exact ⟨_, h, rfl⟩
     ·refine Tri.drawn (specs := [⟨⟨[(1, cD (lD 3 encTime p1))], []⟩, ⟨[(17, cD (lD 3 encTime p1))], []⟩, [], [], []⟩, ⟨⟨[(5, .c (.ptr 5 0))], [(5, .box (cTime p2))]⟩, ⟨[(18, .agg (cTime p2))], []⟩, [], [], []⟩, ⟨⟨[(17, cD (lD 3 encTime p1)), (18, .agg (cTime p2))], []⟩, ⟨[(19, cD (.bool r14))], []⟩, [], [], []⟩, ⟨⟨[(19, cD (.bool r14))], []⟩, ⟨[(20, .c (.d (.bool false)))], []⟩, [], [], []⟩, ⟨⟨[(3, .c (.ptr 3 0)), (20, cD (.bool false))], [(3, .box (cTime p0))]⟩, ⟨[(21, .tup [])], []⟩, [], [], []⟩, ⟨⟨[(5, .c (.ptr 5 0)), (20, cD (.bool false))], [(5, .box (cTime p2))]⟩, ⟨[(22, .tup [])], []⟩, [], [], []⟩, ⟨⟨[(20, cD (.bool false)), (21, .tup []), (22, .tup [])], []⟩, ⟨[(23, .tup [])], []⟩, [], [], []⟩, ⟨⟨[(7, .c (.ptr 7 0)), (20, cD (.bool false))], [(7, .box (cTime r3))]⟩, ⟨[(24, .tup [])], []⟩, [], [], []⟩, ⟨⟨[(5, .c (.ptr 5 0)), (20, cD (.bool false))], [(5, .box (cTime p2))]⟩, ⟨[(25, .tup [])], []⟩, [], [], []⟩, ⟨⟨[(20, cD (.bool false)), (24, .tup []), (25, .tup [])], []⟩, ⟨[(26, .tup [])], []⟩, [], [], []⟩, ⟨⟨[(20, cD (.bool false)), (23, .tup []), (26, .tup [])], []⟩, ⟨[(27, .tup [])], []⟩, [], [], []⟩, ⟨⟨[(20, cD (.bool false)), (27, .tup [])], []⟩, ⟨[(28, cD (.bool false))], []⟩, [], [], []⟩]) (bef := [[], [], [0, 1], [0, 1, 2], [0, 1, 2, 3], [0, 1, 2, 3], [0, 1, 2, 3, 4, 5], [0, 1, 2, 3], [0, 1, 2, 3], [0, 1, 2, 3, 4, 5, 6, 7, 8], [0, 1, 2, 3, 4, 5, 6, 7, 8, 9], [0, 1, 2, 3, 4, 5, 6, 7, 8, 9, 10]]) (tk := [1, 3, 7, 28]) (sk := [3, 7]) (s' := ⟨[(1, cD (lD 3 encTime p1)), (3, .c (.ptr 3 0)), (7, .c (.ptr 7 0)), (28, cD (.bool false))], [(3, .box (cTime p0)), (7, .box (cTime r3))]⟩) (by kernel_rfl) (by kernel_rfl) (by kernel_rfl) ⟨?_, ?_, ?_, ?_, ?_, ?_, ?_, ?_, ?_, ?_, ?_, ?_, trivial⟩ (by kernel_rfl) ?_
      · exact DOk.t rfl rfl (by kernel_rfl) (by kernel_rfl) (by kernel_rfl) (by kernel_rfl)
      · exact DOk.t rfl rfl (by kernel_rfl) (by kernel_rfl) (by kernel_rfl) (by kernel_rfl)
      · exact DOk.callA (caps := []) (xs := [cD (lD 3 encTime p1), .agg (cTime p2)]) (moment_Beyond_ok hr14) rfl (fun r => by kernel_rfl) rfl (fun r => by kernel_rfl) (fun r => by kernel_rfl) (fun r => (.cons (.refl _) (.cons (.refl _) .nil))) rfl rfl (fun r => rfl)
      · exact DOk.stepP (fun b => .val (.c (.d (.bool b))) (True)) (p := r14) hp15 (fun r => by kernel_rfl) (fun r => by kernel_rfl) trivial (by kernel_rfl) (by kernel_rfl) (fun r => rfl)
      · exact DOk.skip (fun r => by kernel_rfl) rfl rfl (fun r => rfl)
      · exact DOk.skip (fun r => by kernel_rfl) rfl rfl (fun r => rfl)
      · exact DOk.skip (fun r => by kernel_rfl) rfl rfl (fun r => rfl)
      · exact DOk.skip (fun r => by kernel_rfl) rfl rfl (fun r => rfl)
      · exact DOk.skip (fun r => by kernel_rfl) rfl rfl (fun r => rfl)
      · exact DOk.skip (fun r => by kernel_rfl) rfl rfl (fun r => rfl)
      · exact DOk.skip (fun r => by kernel_rfl) rfl rfl (fun r => rfl)
      · exact DOk.t rfl rfl (by kernel_rfl) (by kernel_rfl) (by kernel_rfl) (by kernel_rfl)
      exact ⟨_, h, rfl⟩
  ·refine Tri.reg ?_
   obtain ⟨r18, hr18, h⟩ := bind_elim h
   refine At.callA (caps := []) (xs := []) (freshetlaw04_orders_ok hr18) rfl rfl rfl rfl rfl rfl .nil rfl rfl ?_
   refine At.seg 2 [1, 3, 5, 10] [3, 5] (s' := ⟨[(1, cD (lD 3 encTime p1)), (3, .c (.ptr 3 0)), (5, .c (.ptr 5 0)), (10, cD (.bool (!r18)))], [(3, .box (cTime p0)), (5, .box (cTime p2))]⟩) (c := True ∧ True ∧ True) (by kernel_rfl) ⟨trivial, trivial, trivial⟩ ?_
   refine At.case (fun b => ⟨[(1, cD (lD 3 encTime p1)), (3, .c (.ptr 3 0)), (5, .c (.ptr 5 0)), (10, cD (.bool b))], [(3, .box (cTime p0)), (5, .box (cTime p2))]⟩) (b := (!r18)) h (fun h => ?_) (fun h => ?_)
   ·refine At.seg 3 [1, 3, 5, 13] [3, 5] (s' := ⟨[(1, cD (lD 3 encTime p1)), (3, .c (.ptr 3 0)), (5, .c (.ptr 5 0)), (13, cD (.bool true))], [(3, .box (cTime p0)), (5, .box (cTime p2))]⟩) (c := True ∧ True) (by kernel_rfl) ⟨trivial, trivial⟩ ?_
    refine At.done rfl ?_
    exact ⟨_, h, rfl⟩
   ·obtain ⟨r19, hr19, h⟩ := bind_elim h
    refine At.callA (caps := []) (xs := []) (freshetlaw04_fronts_ok hr19) rfl rfl rfl rfl rfl rfl .nil rfl rfl ?_
    refine At.seg 2 [1, 3, 5, 13] [3, 5] (s' := ⟨[(1, cD (lD 3 encTime p1)), (3, .c (.ptr 3 0)), (5, .c (.ptr 5 0)), (13, cD (.bool (!r19)))], [(3, .box (cTime p0)), (5, .box (cTime p2))]⟩) (c := True ∧ True ∧ True) (by kernel_rfl) ⟨trivial, trivial, trivial⟩ ?_
    refine At.done rfl ?_
    exact ⟨_, h, rfl⟩

end Go.Av