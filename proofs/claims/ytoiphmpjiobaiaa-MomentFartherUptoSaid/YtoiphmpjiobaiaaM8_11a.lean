import Derived.Test.YtoiphmpjiobaiaaM8d
namespace Go.Av
open Go Go.Proofs
set_option linter.unusedVariables false
set_option linter.unusedSimpArgs false

set_option maxRecDepth 100000 in
theorem freshetlaw04_MomentFarther_ok {fuel : Nat} {p0 : Time} {p1 : List Time} {p2 : List Time} {q : Bool} (h : freshetlaw04_MomentFarther fuel p0 p1 p2 = some q) :
    Summ Try.prog 11 [.agg (cTime p0), cD (lD 3 encTime p1), cD (lD 3 encTime p2)] [] (cD (.bool q)) [] := by
  refine Summ.intro Try.func11 rfl (by kernel_rfl) (by kernel_rfl) [] rfl ?_
  rintro ⟨P, w0, G0, V, LL, lk, N, φ0, fx⟩ rfl rfl rfl rfl
  unfold freshetlaw04_MomentFarther at h
  refine Tri.seqS ?_
  refine Tri.reg ?_
  refine At.seg 2 [1, 2, 3] [3] (s' := ⟨[(1, cD (lD 3 encTime p1)), (2, cD (lD 3 encTime p2)), (3, .c (.ptr 3 0))], [(3, .box (cTime p0))]⟩) (c := True ∧ True ∧ True) (by kernel_rfl) ⟨trivial, trivial, trivial⟩ ?_
  refine At.done rfl ?_
  show Tri _ _ _ _
  refine Tri.seqS ?_
  refine Tri.seqS ?_
  refine Tri.reg ?_
  obtain ⟨r1, hr1, h⟩ := bind_elim h
  refine At.callA (caps := []) (xs := []) (freshetlaw04_fronts_ok hr1) rfl rfl rfl rfl rfl rfl .nil rfl rfl ?_
  refine At.seg 1 [1, 2, 3, 10] [3] (s' := ⟨[(1, cD (lD 3 encTime p1)), (2, cD (lD 3 encTime p2)), (3, .c (.ptr 3 0)), (10, cD (.bool (!r1)))], [(3, .box (cTime p0))]⟩) (c := True ∧ True) (by kernel_rfl) ⟨trivial, trivial⟩ ?_
  refine At.done rfl ?_
  show Tri _ _ _ _
  refine Tri.condP (b := (!r1)) rfl h (fun h => ?_) (fun h => ?_)
  ·refine Tri.seqS ?_
   refine Tri.reg ?_
   refine At.seg 1 [6] [] (s' := ⟨[(6, cD (.bool false))], []⟩) (c := True ∧ True) (by kernel_rfl) ⟨trivial, trivial⟩ ?_
   refine At.done rfl ?_
   show Tri _ _ _ _
   refine Tri.keep [6] [] (s' := ⟨[(6, cD (.bool false))], []⟩) (by kernel_rfl) ?_
   refine Tri.ret ?_
   cases h
   refine ⟨_, _, rfl, ⟨trivial, trivial⟩, rfl, rfl, ?_⟩
   intro k c h
   cases h
  ·refine Tri.skip ?_
   show Tri _ _ _ _
   refine Tri.seqS ?_
   refine Tri.seqS ?_
   refine Tri.reg ?_
   refine At.seg 3 [1, 2, 3, 11, 12, 13] [3] (s' := ⟨[(1, cD (lD 3 encTime p1)), (2, cD (lD 3 encTime p2)), (3, .c (.ptr 3 0)), (11, cD (lD 3 encTime p2)), (12, cD (i6 (p2.length : Int))), (13, cD (i6 0))], [(3, .box (cTime p0))]⟩) (c := True ∧ True ∧ True ∧ True) (by kernel_rfl) ⟨trivial, trivial, trivial, trivial⟩ ?_
   refine At.done rfl ?_
   show Tri _ _ _ _
   refine Tri.lenOf (t := 11) rfl fun hlena3 => ?_
   refine Tri.keep [13, 1, 2, 3, 11, 12] [3] (s' := idx 13 0 ⟨[(1, cD (lD 3 encTime p1)), (2, cD (lD 3 encTime p2)), (3, .c (.ptr 3 0)), (11, cD (lD 3 encTime p2)), (12, cD (i6 (p2.length : Int)))], [(3, .box (cTime p0))]⟩) (by kernel_rfl) ?_
   refine Tri.range (n := p2.length) (st0 := ()) (fun (x : Bool) s => RetAt Try.prog Try.f11 (cD (.bool x)) [] s) (fun (a3 : Unit) => ⟨[(1, cD (lD 3 encTime p1)), (2, cD (lD 3 encTime p2)), (3, .c (.ptr 3 0)), (11, cD (lD 3 encTime p2)), (12, cD (i6 (p2.length : Int)))], [(3, .box (cTime p0))]⟩) (fun (a3 : Unit) => ⟨[(1, cD (lD 3 encTime p1)), (2, cD (lD 3 encTime p2)), (3, .c (.ptr 3 0)), (11, cD (lD 3 encTime p2)), (12, cD (i6 (p2.length : Int)))], [(3, .box (cTime p0))]⟩) (fun i => decide ((i : Int) < (p2.length : Int))) [14, 13, 1, 2, 3, 11, 12] [3] [1, 2, 3, 11, 12] [3] [13, 1, 2, 3, 11, 12] [3] h hlena3 rfl ?_ ?_ ?_ ?_ ?_ ?_ ?_ ?_
   · exact fun i a => ⟨True ∧ True, by kernel_rfl, ⟨trivial, trivial⟩⟩
   · exact fun i hi => decide_eq_true (by omega)
   · exact decide_eq_false (by omega)
   · exact fun a => by kernel_rfl
   · exact fun i a => ⟨True ∧ True ∧ True, by kernel_rfl, ⟨trivial, trivial, trivial⟩⟩
   ·intro i2 a3 c hii2 h
    refine Tri.seqS ?_
    refine Tri.reg ?_
    refine At.seg 4 [1, 2, 3, 8, 11, 12, 13] [3, 8] (s' := ⟨[(1, cD (lD 3 encTime p1)), (2, cD (lD 3 encTime p2)), (3, .c (.ptr 3 0)), (8, .c (.ptr 8 0)), (11, cD (lD 3 encTime p2)), (12, cD (i6 (p2.length : Int))), (13, cD (i6 ((i2 : Nat) : Int)))], [(3, .box (cTime p0)), (8, .box (cTime (p2.getD i2 default)))]⟩) (c := ((0 : Int) ≤ ((i2 : Nat) : Int) ∧ ((i2 : Nat) : Int) < (p2.length : Int)) ∧ True ∧ True ∧ True ∧ True) (by kernel_rfl) ⟨⟨by omega, by omega⟩, trivial, trivial, trivial, trivial⟩ ?_
    refine At.done rfl ?_
    show Tri _ _ _ _
    refine Tri.seqS ?_
    refine Tri.reg ?_
    refine At.seg 2 [1, 2, 3, 11, 12, 13, 17, 18] [3] (s' := ⟨[(1, cD (lD 3 encTime p1)), (2, cD (lD 3 encTime p2)), (3, .c (.ptr 3 0)), (11, cD (lD 3 encTime p2)), (12, cD (i6 (p2.length : Int))), (13, cD (i6 ((i2 : Nat) : Int))), (17, cD (lD 3 encTime p1)), (18, .agg (cTime (p2.getD i2 default)))], [(3, .box (cTime p0))]⟩) (c := True ∧ True ∧ True) (by kernel_rfl) ⟨trivial, trivial, trivial⟩ ?_
    obtain ⟨r9, hr9, h⟩ := bind_elim h
    refine At.callA (caps := []) (xs := [cD (lD 3 encTime p1), .agg (cTime (p2.getD i2 default))]) (moment_Beyond_ok hr9) rfl rfl rfl rfl rfl rfl (.cons (.refl _) (.cons (.refl _) .nil)) rfl rfl ?_
    refine At.seg 1 [1, 2, 3, 11, 12, 13, 20] [3] (s' := ⟨[(1, cD (lD 3 encTime p1)), (2, cD (lD 3 encTime p2)), (3, .c (.ptr 3 0)), (11, cD (lD 3 encTime p2)), (12, cD (i6 (p2.length : Int))), (13, cD (i6 ((i2 : Nat) : Int))), (20, cD (.bool (!r9)))], [(3, .box (cTime p0))]⟩) (c := True ∧ True) (by kernel_rfl) ⟨trivial, trivial⟩ ?_
    refine At.done rfl ?_
    show Tri _ _ _ _
    refine Tri.condP (b := (!r9)) rfl h (fun h => ?_) (fun h => ?_)
    ·refine Tri.seqS ?_
     refine Tri.reg ?_
     refine At.seg 1 [6] [] (s' := ⟨[(6, cD (.bool true))], []⟩) (c := True ∧ True) (by kernel_rfl) ⟨trivial, trivial⟩ ?_
     refine At.done rfl ?_
     show Tri _ _ _ _
     refine Tri.keep [6] [] (s' := ⟨[(6, cD (.bool true))], []⟩) (by kernel_rfl) ?_
     refine Tri.ret ?_
     cases h
     refine ⟨_, _, rfl, ⟨trivial, trivial⟩, rfl, rfl, ?_⟩
     intro k c h
     cases h
    ·refine Tri.keep [13, 1, 2, 3, 11, 12] [3] (s' := ⟨[(13, cD (i6 ((i2 : Nat) : Int))), (1, cD (lD 3 encTime p1)), (2, cD (lD 3 encTime p2)), (3, .c (.ptr 3 0)), (11, cD (lD 3 encTime p2)), (12, cD (i6 (p2.length : Int)))], [(3, .box (cTime p0))]⟩) (by kernel_rfl) ?_
     refine Tri.skip ?_
     cases h
     exact rfl
   ·intro a4 h
    show Tri _ _ _ _
    refine Tri.seqS ?_
    refine Tri.seqS ?_
    refine Tri.reg ?_
    refine At.seg 3 [1, 2, 3, 24] [3] (s' := ⟨[(1, cD (lD 3 encTime p1)), (2, cD (lD 3 encTime p2)), (3, .c (.ptr 3 0)), (24, cD (.bool (decide ((p2.length : Int) = 0))))], [(3, .box (cTime p0))]⟩) (c := True ∧ True ∧ True ∧ True) (by kernel_rfl) ⟨trivial, trivial, trivial, trivial⟩ ?_
    refine At.done rfl ?_
    show Tri _ _ _ _
    refine Tri.condP (b := (decide ((p2.length : Int) = 0))) rfl h (fun h => ?_) (fun h => ?_)
    ·refine Tri.seqS ?_
     obtain ⟨r5, hr5, h⟩ := bind_elim h
     refine Tri.drawn (specs := [⟨⟨[(3, .c (.ptr 3 0))], [(3, .box (cTime p0))]⟩, ⟨[(25, .agg (cTime p0))], []⟩, [], [], []⟩, ⟨⟨[(2, cD (lD 3 encTime p2))], []⟩, ⟨[(26, cD (lD 3 encTime p2))], []⟩, [], [], []⟩, ⟨⟨[(25, .agg (cTime p0)), (26, cD (lD 3 encTime p2))], []⟩, ⟨[(27, .agg (cTime r5))], []⟩, [], [], []⟩, ⟨⟨[(3, .c (.ptr 3 0))], [(3, .box (cTime p0))]⟩, ⟨[(28, .agg (cTime p0))], []⟩, [], [], []⟩, ⟨⟨[(27, .agg (cTime r5)), (28, .agg (cTime p0))], []⟩, ⟨[(29, cD (.bool (eqTime r5 p0)))], []⟩, [], [], []⟩, ⟨⟨[(29, cD (.bool (eqTime r5 p0)))], []⟩, ⟨[(6, cD (.bool (eqTime r5 p0)))], []⟩, [], [], []⟩]) (bef := [[], [], [0, 1], [], [0, 1, 2, 3], [0, 1, 2, 3, 4]]) (tk := [6]) (sk := []) (s' := ⟨[(6, cD (.bool (eqTime r5 p0)))], []⟩) (by kernel_rfl) (by kernel_rfl) (by kernel_rfl) ⟨?_, ?_, ?_, ?_, ?_, ?_, trivial⟩ (by kernel_rfl) ?_
     · exact DOk.t rfl rfl (by kernel_rfl) (by kernel_rfl)
     · exact DOk.t rfl rfl (by kernel_rfl) (by kernel_rfl)
     · exact DOk.callA (caps := []) (xs := [.agg (cTime p0), cD (lD 3 encTime p2)]) (moment_Advance_ok hr5) rfl (fun r => by kernel_rfl) rfl (fun r => by kernel_rfl) (fun r => by kernel_rfl) (fun r => (.cons (.refl _) (.cons (.refl _) .nil))) rfl rfl (fun r => rfl)
     · exact DOk.t rfl rfl (by kernel_rfl) (by kernel_rfl)
     · exact DOk.one fun r _ => One.eql (b := (eqTime r5 p0)) (d := 9) rfl (by kernel_rfl) rfl (.inl rfl) rfl rfl (by kernel_rfl) rfl (by kernel_rfl)
     · exact DOk.t rfl rfl (by kernel_rfl) (by kernel_rfl)
     show Tri _ _ _ _
     refine Tri.keep [6] [] (s' := ⟨[(6, cD (.bool (eqTime r5 p0)))], []⟩) (by kernel_rfl) ?_
     refine Tri.ret ?_
     cases h
     refine ⟨_, _, rfl, ⟨trivial, trivial⟩, rfl, rfl, ?_⟩
     intro k c h
     cases h
    ·refine Tri.skip ?_
     show Tri _ _ _ _
     refine Tri.seqS ?_
     obtain ⟨r6, hr6, h⟩ := bind_elim h
     obtain ⟨r7, hr7, h⟩ := bind_elim h
     obtain ⟨r8, hr8, h⟩ := bind_elim h
     refine Tri.drawn (specs := [⟨⟨[(3, .c (.ptr 3 0))], [(3, .box (cTime p0))]⟩, ⟨[(30, .agg (cTime p0))], []⟩, [], [], []⟩, ⟨⟨[(1, cD (lD 3 encTime p1))], []⟩, ⟨[(31, cD (lD 3 encTime p1))], []⟩, [], [], []⟩, ⟨⟨[(30, .agg (cTime p0)), (31, cD (lD 3 encTime p1))], []⟩, ⟨[(32, .agg (cTime r6))], []⟩, [], [], []⟩, ⟨⟨[(2, cD (lD 3 encTime p2))], []⟩, ⟨[(33, cD (lD 3 encTime p2))], []⟩, [], [], []⟩, ⟨⟨[(32, .agg (cTime r6)), (33, cD (lD 3 encTime p2))], []⟩, ⟨[(34, .agg (cTime r7))], []⟩, [], [], []⟩, ⟨⟨[(3, .c (.ptr 3 0))], [(3, .box (cTime p0))]⟩, ⟨[(35, .agg (cTime p0))], []⟩, [], [], []⟩, ⟨⟨[(2, cD (lD 3 encTime p2))], []⟩, ⟨[(36, cD (lD 3 encTime p2))], []⟩, [], [], []⟩, ⟨⟨[(35, .agg (cTime p0)), (36, cD (lD 3 encTime p2))], []⟩, ⟨[(37, .agg (cTime r8))], []⟩, [], [], []⟩, ⟨⟨[(34, .agg (cTime r7)), (37, .agg (cTime r8))], []⟩, ⟨[(38, cD (.bool (eqTime r7 r8)))], []⟩, [], [], []⟩, ⟨⟨[(38, cD (.bool (eqTime r7 r8)))], []⟩, ⟨[(6, cD (.bool (eqTime r7 r8)))], []⟩, [], [], []⟩]) (bef := [[], [], [0, 1], [], [0, 1, 2, 3], [], [], [0, 1, 2, 3, 4, 5, 6], [0, 1, 2, 3, 4, 5, 6, 7], [0, 1, 2, 3, 4, 5, 6, 7, 8]]) (tk := [6]) (sk := []) (s' := ⟨[(6, cD (.bool (eqTime r7 r8)))], []⟩) (by kernel_rfl) (by kernel_rfl) (by kernel_rfl) ⟨?_, ?_, ?_, ?_, ?_, ?_, ?_, ?_, ?_, ?_, trivial⟩ (by kernel_rfl) ?_
     · exact DOk.t rfl rfl (by kernel_rfl) (by kernel_rfl)
     · exact DOk.t rfl rfl (by kernel_rfl) (by kernel_rfl)
     · exact DOk.callA (caps := []) (xs := [.agg (cTime p0), cD (lD 3 encTime p1)]) (moment_Advance_ok hr6) rfl (fun r => by kernel_rfl) rfl (fun r => by kernel_rfl) (fun r => by kernel_rfl) (fun r => (.cons (.refl _) (.cons (.refl _) .nil))) rfl rfl (fun r => rfl)
     · exact DOk.t rfl rfl (by kernel_rfl) (by kernel_rfl)
     · exact DOk.callA (caps := []) (xs := [.agg (cTime r6), cD (lD 3 encTime p2)]) (moment_Advance_ok hr7) rfl (fun r => by kernel_rfl) rfl (fun r => by kernel_rfl) (fun r => by kernel_rfl) (fun r => (.cons (.refl _) (.cons (.refl _) .nil))) rfl rfl (fun r => rfl)
     · exact DOk.t rfl rfl (by kernel_rfl) (by kernel_rfl)
     · exact DOk.t rfl rfl (by kernel_rfl) (by kernel_rfl)
     · exact DOk.callA (caps := []) (xs := [.agg (cTime p0), cD (lD 3 encTime p2)]) (moment_Advance_ok hr8) rfl (fun r => by kernel_rfl) rfl (fun r => by kernel_rfl) (fun r => by kernel_rfl) (fun r => (.cons (.refl _) (.cons (.refl _) .nil))) rfl rfl (fun r => rfl)
     · exact DOk.one fun r _ => One.eql (b := (eqTime r7 r8)) (d := 9) rfl (by kernel_rfl) rfl (.inl rfl) rfl rfl (by kernel_rfl) rfl (by kernel_rfl)
     · exact DOk.t rfl rfl (by kernel_rfl) (by kernel_rfl)
     show Tri _ _ _ _
     refine Tri.keep [6] [] (s' := ⟨[(6, cD (.bool (eqTime r7 r8)))], []⟩) (by kernel_rfl) ?_
     refine Tri.ret ?_
     cases h
     refine ⟨_, _, rfl, ⟨trivial, trivial⟩, rfl, rfl, ?_⟩
     intro k c h
     cases h
   · exact fun x s hx hr => by cases hx; exact hr

end Go.Av