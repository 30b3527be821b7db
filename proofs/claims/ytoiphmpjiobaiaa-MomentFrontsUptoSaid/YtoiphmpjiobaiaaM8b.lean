import Derived.Test.YtoiphmpjiobaiaaM8a
namespace Go.Av
open Go Go.Proofs
set_option linter.unusedVariables false
set_option linter.unusedSimpArgs false

set_option maxRecDepth 100000 in
theorem slices_partialInsertionSortCmpFunc_Time__Compare_w_ok {fuel : Nat} {p1 : Int} {p2 : Int} {l0 : List Time} {q : Bool × (List Time)} (h : slices_partialInsertionSortCmpFunc_Time__Compare_w fuel p1 p2 l0 = some q) :
    Summ Try.prog 54 [.c (oC 5000 3 l0), cD (i6 p1), cD (i6 p2), cD (.fn 20 [])] [(5000, vL 3 encTime l0)] (cD (.bool q.1)) [(5000, vL 3 encTime q.2)] := by
  refine Summ.intro Try.func54 rfl (by kernel_rfl) (by kernel_rfl) [] rfl ?_
  rintro ⟨P, w0, G0, V, LL, lk, N, φ0, fx⟩ rfl rfl rfl rfl
  unfold slices_partialInsertionSortCmpFunc_Time__Compare_w at h
  refine Tri.seqS ?_
  refine Tri.reg ?_
  refine At.seg 1 [0, 1, 2, 3] [5000] (s' := ⟨[(0, .c (oC 5000 3 l0)), (1, cD (i6 p1)), (2, cD (i6 p2)), (3, cD (.fn 20 []))], [(5000, vL 3 encTime l0)]⟩) (c := True ∧ True) (by kernel_rfl) ⟨trivial, trivial⟩ ?_
  refine At.done rfl ?_
  show Tri _ _ _ _
  refine Tri.seqS ?_
  refine Tri.reg ?_
  refine At.seg 3 [0, 1, 2, 3, 9] [5000] (s' := ⟨[(0, .c (oC 5000 3 l0)), (1, cD (i6 p1)), (2, cD (i6 p2)), (3, cD (.fn 20 [])), (9, cD (i6 (IntKind.i64.wrap (p1 + 1))))], [(5000, vL 3 encTime l0)]⟩) (c := True ∧ True ∧ True ∧ True) (by kernel_rfl) ⟨trivial, trivial, trivial, trivial⟩ ?_
  refine At.done rfl ?_
  show Tri _ _ _ _
  refine Tri.seqS ?_
  refine Tri.seqS ?_
  refine Tri.reg ?_
  refine At.seg 1 [0, 1, 2, 3, 9, 10] [5000] (s' := ⟨[(0, .c (oC 5000 3 l0)), (1, cD (i6 p1)), (2, cD (i6 p2)), (3, cD (.fn 20 [])), (9, cD (i6 (IntKind.i64.wrap (p1 + 1)))), (10, cD (i6 0))], [(5000, vL 3 encTime l0)]⟩) (c := True ∧ True) (by kernel_rfl) ⟨trivial, trivial⟩ ?_
  refine At.done rfl ?_
  show Tri _ _ _ _
  refine Tri.keep [0, 1, 2, 3, 9, 10] [5000] (s' := ⟨[(0, .c (oC 5000 3 l0)), (1, cD (i6 p1)), (2, cD (i6 p2)), (3, cD (.fn 20 [])), (9, cD (i6 (IntKind.i64.wrap (p1 + 1)))), (10, cD (i6 0))], [(5000, vL 3 encTime l0)]⟩) (by kernel_rfl) ?_
  refine Tri.loopK (fuel := fuel) (st0 := ((IntKind.i64.wrap (p1 + 1)), 0, l0)) (fun (x : Bool × (List Time)) s => RetAt Try.prog Try.f54 (cD (.bool x.1)) [(5000, vL 3 encTime x.2)] s) (fun (a1 : Int × Int × (List Time)) => ⟨[(0, .c (oC 5000 3 a1.2.2)), (1, cD (i6 p1)), (2, cD (i6 p2)), (3, cD (.fn 20 [])), (9, cD (i6 a1.1)), (10, cD (i6 a1.2.1))], [(5000, vL 3 encTime a1.2.2)]⟩) (fun (a1 : Int × Int × (List Time)) => ⟨[(0, .c (oC 5000 3 a1.2.2)), (1, cD (i6 p1)), (2, cD (i6 p2)), (3, cD (.fn 20 [])), (9, cD (i6 a1.1)), (10, cD (i6 a1.2.1))], [(5000, vL 3 encTime a1.2.2)]⟩) h ?_ ?_ ?_
  ·intro a1 c h
   show Tri _ _ ⟨[(0, .c (oC 5000 3 a1.2.2)), (1, cD (i6 p1)), (2, cD (i6 p2)), (3, cD (.fn 20 [])), (9, cD (i6 a1.1)), (10, cD (i6 a1.2.1))], [(5000, vL 3 encTime a1.2.2)]⟩ _
   refine Tri.seqS ?_
   refine Tri.seqS ?_
   refine Tri.reg ?_
   refine At.seg 2 [0, 1, 2, 3, 9, 10, 16] [5000] (s' := ⟨[(0, .c (oC 5000 3 a1.2.2)), (1, cD (i6 p1)), (2, cD (i6 p2)), (3, cD (.fn 20 [])), (9, cD (i6 a1.1)), (10, cD (i6 a1.2.1)), (16, cD (.bool (decide (a1.2.1 < 5))))], [(5000, vL 3 encTime a1.2.2)]⟩) (c := True ∧ True ∧ True) (by kernel_rfl) ⟨trivial, trivial, trivial⟩ ?_
   refine At.done rfl ?_
   show Tri _ _ _ _
   refine Tri.condP (b := (decide (a1.2.1 < 5))) rfl h (fun h => ?_) (fun h => ?_)
   ·refine Tri.skip ?_
    show Tri _ _ _ _
    refine Tri.seqJ (fun (a3 : Int × (List Time)) => ⟨[(0, .c (oC 5000 3 a3.2)), (1, cD (i6 p1)), (2, cD (i6 p2)), (3, cD (.fn 20 [])), (9, cD (i6 a3.1)), (10, cD (i6 a1.2.1))], [(5000, vL 3 encTime a3.2)]⟩) h (fun a3 h => ?_) (fun j4 h => ?_)
    ·show Tri _ _ ⟨[(0, .c (oC 5000 3 a3.2)), (1, cD (i6 p1)), (2, cD (i6 p2)), (3, cD (.fn 20 [])), (9, cD (i6 a3.1)), (10, cD (i6 a1.2.1))], [(5000, vL 3 encTime a3.2)]⟩ _
     refine Tri.reg ?_
     refine At.seg 3 [0, 1, 2, 3, 9, 10] [5000] (s' := ⟨[(0, .c (oC 5000 3 a3.2)), (1, cD (i6 p1)), (2, cD (i6 p2)), (3, cD (.fn 20 [])), (9, cD (i6 a3.1)), (10, cD (i6 (IntKind.i64.wrap (a1.2.1 + 1))))], [(5000, vL 3 encTime a3.2)]⟩) (c := True ∧ True ∧ True ∧ True) (by kernel_rfl) ⟨trivial, trivial, trivial, trivial⟩ ?_
     refine At.done rfl ?_
     cases h
     exact rfl
    ·refine Tri.blockB ?_
     refine Tri.seqS ?_
     refine Tri.keep [0, 1, 2, 3, 9, 10] [5000] (s' := ⟨[(0, .c (oC 5000 3 a1.2.2)), (1, cD (i6 p1)), (2, cD (i6 p2)), (3, cD (.fn 20 [])), (9, cD (i6 a1.1)), (10, cD (i6 a1.2.1))], [(5000, vL 3 encTime a1.2.2)]⟩) (by kernel_rfl) ?_
     refine Tri.loopK (fuel := fuel) (st0 := a1.1) (fun (x : Empty) s => False) (fun (a5 : Int) => ⟨[(0, .c (oC 5000 3 a1.2.2)), (1, cD (i6 p1)), (2, cD (i6 p2)), (3, cD (.fn 20 [])), (9, cD (i6 a5)), (10, cD (i6 a1.2.1))], [(5000, vL 3 encTime a1.2.2)]⟩) (fun (a5 : Int) => ⟨[(0, .c (oC 5000 3 a1.2.2)), (1, cD (i6 p1)), (2, cD (i6 p2)), (3, cD (.fn 20 [])), (9, cD (i6 a5)), (10, cD (i6 a1.2.1))], [(5000, vL 3 encTime a1.2.2)]⟩) h ?_ ?_ ?_
     ·intro a5 c h
      show Tri _ _ ⟨[(0, .c (oC 5000 3 a1.2.2)), (1, cD (i6 p1)), (2, cD (i6 p2)), (3, cD (.fn 20 [])), (9, cD (i6 a5)), (10, cD (i6 a1.2.1))], [(5000, vL 3 encTime a1.2.2)]⟩ _
      refine Tri.seqS ?_
      refine Tri.seqJ (fun (a47 : Bool) => ⟨[(0, .c (oC 5000 3 a1.2.2)), (1, cD (i6 p1)), (2, cD (i6 p2)), (3, cD (.fn 20 [])), (9, cD (i6 a5)), (10, cD (i6 a1.2.1)), (36, cD (.bool a47))], [(5000, vL 3 encTime a1.2.2)]⟩) h (fun a47 h => ?_) (fun j48 h => ?_)
      ·show Tri _ _ ⟨[(0, .c (oC 5000 3 a1.2.2)), (1, cD (i6 p1)), (2, cD (i6 p2)), (3, cD (.fn 20 [])), (9, cD (i6 a5)), (10, cD (i6 a1.2.1)), (36, cD (.bool a47))], [(5000, vL 3 encTime a1.2.2)]⟩ _
       refine Tri.condP (b := a47) rfl h (fun h => ?_) (fun h => ?_)
       ·refine Tri.skip ?_
        show Tri _ _ _ _
        refine Tri.blockB ?_
        refine Tri.reg ?_
        refine At.seg 3 [0, 1, 2, 3, 9, 10] [5000] (s' := ⟨[(0, .c (oC 5000 3 a1.2.2)), (1, cD (i6 p1)), (2, cD (i6 p2)), (3, cD (.fn 20 [])), (9, cD (i6 (IntKind.i64.wrap (a5 + 1)))), (10, cD (i6 a1.2.1))], [(5000, vL 3 encTime a1.2.2)]⟩) (c := True ∧ True ∧ True ∧ True) (by kernel_rfl) ⟨trivial, trivial, trivial, trivial⟩ ?_
        refine At.done rfl ?_
        cases h
        exact rfl
       ·refine Tri.keep [0, 1, 2, 3, 9, 10] [5000] (s' := ⟨[(0, .c (oC 5000 3 a1.2.2)), (1, cD (i6 p1)), (2, cD (i6 p2)), (3, cD (.fn 20 [])), (9, cD (i6 a5)), (10, cD (i6 a1.2.1))], [(5000, vL 3 encTime a1.2.2)]⟩) (by kernel_rfl) ?_
        refine Tri.exit ?_
        cases h
        exact ⟨rfl, rfl⟩
      ·rcases bf_cases h with ⟨hp49, h⟩ | ⟨hp49, h⟩
       ·obtain ⟨hc50, h⟩ := need_elim h
        obtain ⟨hc51, h⟩ := need_elim h
        obtain ⟨hc52, h⟩ := need_elim h
        obtain ⟨hc53, h⟩ := need_elim h
        obtain ⟨r54, hr54, h⟩ := bind_elim h
        refine Tri.drawn (specs := [⟨⟨[(9, cD (i6 a5))], []⟩, ⟨[(19, cD (i6 a5))], []⟩, [], [], []⟩, ⟨⟨[(2, cD (i6 p2))], []⟩, ⟨[(20, cD (i6 p2))], []⟩, [], [], []⟩, ⟨⟨[(19, cD (i6 a5)), (20, cD (i6 p2))], []⟩, ⟨[(21, cD (.bool (decide (a5 < p2))))], []⟩, [], [], []⟩, ⟨⟨[(21, cD (.bool (decide (a5 < p2))))], []⟩, ⟨[(22, .c (.d (.bool true)))], []⟩, [], [], []⟩, ⟨⟨[(3, cD (.fn 20 [])), (22, cD (.bool true))], []⟩, ⟨[(23, cD (.fn 20 []))], []⟩, [], [], []⟩, ⟨⟨[(0, .c (oC 5000 3 a1.2.2)), (22, cD (.bool true))], []⟩, ⟨[(24, .c (oC 5000 3 a1.2.2))], []⟩, [], [], []⟩, ⟨⟨[(9, cD (i6 a5)), (22, cD (.bool true))], []⟩, ⟨[(25, cD (i6 a5))], []⟩, [], [], []⟩, ⟨⟨[(22, cD (.bool true)), (24, .c (oC 5000 3 a1.2.2)), (25, cD (i6 a5))], [(5000, vL 3 encTime a1.2.2)]⟩, ⟨[(26, .c (.vptr 5000 3 (0 + a5.toNat) 0))], []⟩, [], [], []⟩, ⟨⟨[(22, cD (.bool true)), (26, .c (.vptr 5000 3 (0 + a5.toNat) 0))], [(5000, vL 3 encTime a1.2.2)]⟩, ⟨[(27, .agg (cTime (a1.2.2.getD (0 + a5.toNat) default)))], []⟩, [], [], []⟩, ⟨⟨[(0, .c (oC 5000 3 a1.2.2)), (22, cD (.bool true))], []⟩, ⟨[(28, .c (oC 5000 3 a1.2.2))], []⟩, [], [], []⟩, ⟨⟨[(9, cD (i6 a5)), (22, cD (.bool true))], []⟩, ⟨[(29, cD (i6 a5))], []⟩, [], [], []⟩, ⟨⟨[(22, cD (.bool true)), (29, cD (i6 a5))], []⟩, ⟨[(30, cD (i6 (IntKind.i64.wrap (a5 - 1))))], []⟩, [], [], []⟩, ⟨⟨[(22, cD (.bool true)), (28, .c (oC 5000 3 a1.2.2)), (30, cD (i6 (IntKind.i64.wrap (a5 - 1))))], [(5000, vL 3 encTime a1.2.2)]⟩, ⟨[(31, .c (.vptr 5000 3 (0 + (IntKind.i64.wrap (a5 - 1)).toNat) 0))], []⟩, [], [], []⟩, ⟨⟨[(22, cD (.bool true)), (31, .c (.vptr 5000 3 (0 + (IntKind.i64.wrap (a5 - 1)).toNat) 0))], [(5000, vL 3 encTime a1.2.2)]⟩, ⟨[(32, .agg (cTime (a1.2.2.getD (0 + (IntKind.i64.wrap (a5 - 1)).toNat) default)))], []⟩, [], [], []⟩, ⟨⟨[(22, cD (.bool true)), (23, cD (.fn 20 [])), (27, .agg (cTime (a1.2.2.getD (0 + a5.toNat) default))), (32, .agg (cTime (a1.2.2.getD (0 + (IntKind.i64.wrap (a5 - 1)).toNat) default)))], []⟩, ⟨[(33, cD (i6 r54))], []⟩, [], [], []⟩, ⟨⟨[(22, cD (.bool true)), (33, cD (i6 r54))], []⟩, ⟨[(34, cD (.bool (decide (r54 < 0))))], []⟩, [], [], []⟩, ⟨⟨[(22, cD (.bool true)), (34, cD (.bool (decide (r54 < 0))))], []⟩, ⟨[(35, cD (.bool (!(decide (r54 < 0)))))], []⟩, [], [], []⟩, ⟨⟨[(22, cD (.bool true)), (35, cD (.bool (!(decide (r54 < 0)))))], []⟩, ⟨[(36, cD (.bool (!(decide (r54 < 0)))))], []⟩, [], [], []⟩]) (bef := [[], [], [0, 1], [0, 1, 2], [0, 1, 2, 3], [0, 1, 2, 3], [0, 1, 2, 3], [0, 1, 2, 3, 5, 6], [0, 1, 2, 3, 5, 6, 7], [0, 1, 2, 3], [0, 1, 2, 3], [0, 1, 2, 3, 10], [0, 1, 2, 3, 9, 10, 11], [0, 1, 2, 3, 9, 10, 11, 12], [0, 1, 2, 3, 4, 5, 6, 7, 8, 9, 10, 11, 12, 13], [0, 1, 2, 3, 4, 5, 6, 7, 8, 9, 10, 11, 12, 13, 14], [0, 1, 2, 3, 4, 5, 6, 7, 8, 9, 10, 11, 12, 13, 14, 15], [0, 1, 2, 3, 4, 5, 6, 7, 8, 9, 10, 11, 12, 13, 14, 15, 16]]) (tk := [0, 1, 2, 3, 9, 10, 36]) (sk := [5000]) (s' := ⟨[(0, .c (oC 5000 3 a1.2.2)), (1, cD (i6 p1)), (2, cD (i6 p2)), (3, cD (.fn 20 [])), (9, cD (i6 a5)), (10, cD (i6 a1.2.1)), (36, cD (.bool (!(decide (r54 < 0)))))], [(5000, vL 3 encTime a1.2.2)]⟩) (by kernel_rfl) (by kernel_rfl) (by kernel_rfl) ⟨?_, ?_, ?_, ?_, ?_, ?_, ?_, ?_, ?_, ?_, ?_, ?_, ?_, ?_, ?_, ?_, ?_, ?_, trivial⟩ (by kernel_rfl) ?_
        · exact DOk.t rfl rfl (by kernel_rfl) (by kernel_rfl)
        · exact DOk.t rfl rfl (by kernel_rfl) (by kernel_rfl)
        · exact DOk.t rfl rfl (by kernel_rfl) (by kernel_rfl)
        · exact DOk.stepP (fun b => .val (.c (.d (.bool b))) (True)) (p := (decide (a5 < p2))) hp49 (fun r => by kernel_rfl) (fun r => by kernel_rfl) trivial (by kernel_rfl) (by kernel_rfl) (fun r => rfl)
        · exact DOk.t rfl rfl (by kernel_rfl) (by kernel_rfl)
        · exact DOk.t rfl rfl (by kernel_rfl) (by kernel_rfl)
        · exact DOk.t rfl rfl (by kernel_rfl) (by kernel_rfl)
        · exact DOk.step (.val (.c (.vptr 5000 3 (0 + a5.toNat) 0)) ((0 : Int) ≤ a5 ∧ a5 < (a1.2.2.length : Int))) (fun r => by kernel_rfl) (fun r => by kernel_rfl) hc50 (by kernel_rfl) (by kernel_rfl) (fun r => rfl)
        · exact DOk.step (.val (.agg (cTime (a1.2.2.getD (0 + a5.toNat) default))) ((0 + a5.toNat) < a1.2.2.length)) (fun r => by kernel_rfl) (fun r => by kernel_rfl) hc51 (by kernel_rfl) (by kernel_rfl) (fun r => rfl)
        · exact DOk.t rfl rfl (by kernel_rfl) (by kernel_rfl)
        · exact DOk.t rfl rfl (by kernel_rfl) (by kernel_rfl)
        · exact DOk.t rfl rfl (by kernel_rfl) (by kernel_rfl)
        · exact DOk.step (.val (.c (.vptr 5000 3 (0 + (IntKind.i64.wrap (a5 - 1)).toNat) 0)) ((0 : Int) ≤ (IntKind.i64.wrap (a5 - 1)) ∧ (IntKind.i64.wrap (a5 - 1)) < (a1.2.2.length : Int))) (fun r => by kernel_rfl) (fun r => by kernel_rfl) hc52 (by kernel_rfl) (by kernel_rfl) (fun r => rfl)
        · exact DOk.step (.val (.agg (cTime (a1.2.2.getD (0 + (IntKind.i64.wrap (a5 - 1)).toNat) default))) ((0 + (IntKind.i64.wrap (a5 - 1)).toNat) < a1.2.2.length)) (fun r => by kernel_rfl) (fun r => by kernel_rfl) hc53 (by kernel_rfl) (by kernel_rfl) (fun r => rfl)
        · exact DOk.callA (caps := []) (xs := [.agg (cTime (a1.2.2.getD (0 + a5.toNat) default)), .agg (cTime (a1.2.2.getD (0 + (IntKind.i64.wrap (a5 - 1)).toNat) default))]) (moment_Compare_ok hr54) rfl (fun r => by kernel_rfl) rfl (fun r => by kernel_rfl) (fun r => by kernel_rfl) (fun r => (.cons (.refl _) (.cons (.refl _) .nil))) rfl rfl (fun r => rfl)
        · exact DOk.t rfl rfl (by kernel_rfl) (by kernel_rfl)
        · exact DOk.t rfl rfl (by kernel_rfl) (by kernel_rfl)
        · exact DOk.t rfl rfl (by kernel_rfl) (by kernel_rfl)
        exact ⟨_, h, rfl⟩
       ·refine Tri.drawn (specs := [⟨⟨[(9, cD (i6 a5))], []⟩, ⟨[(19, cD (i6 a5))], []⟩, [], [], []⟩, ⟨⟨[(2, cD (i6 p2))], []⟩, ⟨[(20, cD (i6 p2))], []⟩, [], [], []⟩, ⟨⟨[(19, cD (i6 a5)), (20, cD (i6 p2))], []⟩, ⟨[(21, cD (.bool (decide (a5 < p2))))], []⟩, [], [], []⟩, ⟨⟨[(21, cD (.bool (decide (a5 < p2))))], []⟩, ⟨[(22, .c (.d (.bool false)))], []⟩, [], [], []⟩, ⟨⟨[(3, cD (.fn 20 [])), (22, cD (.bool false))], []⟩, ⟨[(23, .tup [])], []⟩, [], [], []⟩, ⟨⟨[(0, .c (oC 5000 3 a1.2.2)), (22, cD (.bool false))], []⟩, ⟨[(24, .tup [])], []⟩, [], [], []⟩, ⟨⟨[(9, cD (i6 a5)), (22, cD (.bool false))], []⟩, ⟨[(25, .tup [])], []⟩, [], [], []⟩, ⟨⟨[(22, cD (.bool false)), (24, .tup []), (25, .tup [])], []⟩, ⟨[(26, .tup [])], []⟩, [], [], []⟩, ⟨⟨[(22, cD (.bool false)), (26, .tup [])], []⟩, ⟨[(27, .tup [])], []⟩, [], [], []⟩, ⟨⟨[(0, .c (oC 5000 3 a1.2.2)), (22, cD (.bool false))], []⟩, ⟨[(28, .tup [])], []⟩, [], [], []⟩, ⟨⟨[(9, cD (i6 a5)), (22, cD (.bool false))], []⟩, ⟨[(29, .tup [])], []⟩, [], [], []⟩, ⟨⟨[(22, cD (.bool false)), (29, .tup [])], []⟩, ⟨[(30, .tup [])], []⟩, [], [], []⟩, ⟨⟨[(22, cD (.bool false)), (28, .tup []), (30, .tup [])], []⟩, ⟨[(31, .tup [])], []⟩, [], [], []⟩, ⟨⟨[(22, cD (.bool false)), (31, .tup [])], []⟩, ⟨[(32, .tup [])], []⟩, [], [], []⟩, ⟨⟨[(22, cD (.bool false)), (23, .tup []), (27, .tup []), (32, .tup [])], []⟩, ⟨[(33, .tup [])], []⟩, [], [], []⟩, ⟨⟨[(22, cD (.bool false)), (33, .tup [])], []⟩, ⟨[(34, .tup [])], []⟩, [], [], []⟩, ⟨⟨[(22, cD (.bool false)), (34, .tup [])], []⟩, ⟨[(35, .tup [])], []⟩, [], [], []⟩, ⟨⟨[(22, cD (.bool false)), (35, .tup [])], []⟩, ⟨[(36, cD (.bool false))], []⟩, [], [], []⟩]) (bef := [[], [], [0, 1], [0, 1, 2], [0, 1, 2, 3], [0, 1, 2, 3], [0, 1, 2, 3], [0, 1, 2, 3, 5, 6], [0, 1, 2, 3, 5, 6, 7], [0, 1, 2, 3], [0, 1, 2, 3], [0, 1, 2, 3, 10], [0, 1, 2, 3, 9, 10, 11], [0, 1, 2, 3, 9, 10, 11, 12], [0, 1, 2, 3, 4, 5, 6, 7, 8, 9, 10, 11, 12, 13], [0, 1, 2, 3, 4, 5, 6, 7, 8, 9, 10, 11, 12, 13, 14], [0, 1, 2, 3, 4, 5, 6, 7, 8, 9, 10, 11, 12, 13, 14, 15], [0, 1, 2, 3, 4, 5, 6, 7, 8, 9, 10, 11, 12, 13, 14, 15, 16]]) (tk := [0, 1, 2, 3, 9, 10, 36]) (sk := [5000]) (s' := ⟨[(0, .c (oC 5000 3 a1.2.2)), (1, cD (i6 p1)), (2, cD (i6 p2)), (3, cD (.fn 20 [])), (9, cD (i6 a5)), (10, cD (i6 a1.2.1)), (36, cD (.bool false))], [(5000, vL 3 encTime a1.2.2)]⟩) (by kernel_rfl) (by kernel_rfl) (by kernel_rfl) ⟨?_, ?_, ?_, ?_, ?_, ?_, ?_, ?_, ?_, ?_, ?_, ?_, ?_, ?_, ?_, ?_, ?_, ?_, trivial⟩ (by kernel_rfl) ?_
        · exact DOk.t rfl rfl (by kernel_rfl) (by kernel_rfl)
        · exact DOk.t rfl rfl (by kernel_rfl) (by kernel_rfl)
        · exact DOk.t rfl rfl (by kernel_rfl) (by kernel_rfl)
        · exact DOk.stepP (fun b => .val (.c (.d (.bool b))) (True)) (p := (decide (a5 < p2))) hp49 (fun r => by kernel_rfl) (fun r => by kernel_rfl) trivial (by kernel_rfl) (by kernel_rfl) (fun r => rfl)
        · exact DOk.skip (fun r => by kernel_rfl) rfl rfl (fun r => rfl)
        · exact DOk.skip (fun r => by kernel_rfl) rfl rfl (fun r => rfl)
        · exact DOk.skip (fun r => by kernel_rfl) rfl rfl (fun r => rfl)
        · exact DOk.skip (fun r => by kernel_rfl) rfl rfl (fun r => rfl)
        · exact DOk.skip (fun r => by kernel_rfl) rfl rfl (fun r => rfl)
        · exact DOk.skip (fun r => by kernel_rfl) rfl rfl (fun r => rfl)
        · exact DOk.skip (fun r => by kernel_rfl) rfl rfl (fun r => rfl)
        · exact DOk.skip (fun r => by kernel_rfl) rfl rfl (fun r => rfl)
        · exact DOk.skip (fun r => by kernel_rfl) rfl rfl (fun r => rfl)
        · exact DOk.skip (fun r => by kernel_rfl) rfl rfl (fun r => rfl)
        · exact DOk.skip (fun r => by kernel_rfl) rfl rfl (fun r => rfl)
        · exact DOk.skip (fun r => by kernel_rfl) rfl rfl (fun r => rfl)
        · exact DOk.skip (fun r => by kernel_rfl) rfl rfl (fun r => rfl)
        · exact DOk.t rfl rfl (by kernel_rfl) (by kernel_rfl)
        exact ⟨_, h, rfl⟩
     ·intro a6 h
      show Tri _ _ _ _
      refine Tri.seqS ?_
      refine Tri.seqS ?_
      refine Tri.reg ?_
      refine At.seg 3 [0, 1, 2, 3, 9, 10, 41] [5000] (s' := ⟨[(0, .c (oC 5000 3 a1.2.2)), (1, cD (i6 p1)), (2, cD (i6 p2)), (3, cD (.fn 20 [])), (9, cD (i6 a6)), (10, cD (i6 a1.2.1)), (41, cD (.bool (decide (a6 = p2))))], [(5000, vL 3 encTime a1.2.2)]⟩) (c := True ∧ True ∧ True ∧ True) (by kernel_rfl) ⟨trivial, trivial, trivial, trivial⟩ ?_
      refine At.done rfl ?_
      show Tri _ _ _ _
      refine Tri.condP (b := (decide (a6 = p2))) rfl h (fun h => ?_) (fun h => ?_)
      ·refine Tri.seqS ?_
       refine Tri.reg ?_
       refine At.seg 1 [8] [5000] (s' := ⟨[(8, cD (.bool true))], [(5000, vL 3 encTime a1.2.2)]⟩) (c := True ∧ True) (by kernel_rfl) ⟨trivial, trivial⟩ ?_
       refine At.done rfl ?_
       show Tri _ _ _ _
       refine Tri.keep [8] [5000] (s' := ⟨[(8, cD (.bool true))], [(5000, vL 3 encTime a1.2.2)]⟩) (by kernel_rfl) ?_
       refine Tri.ret ?_
       cases h
       refine ⟨_, _, rfl, ⟨trivial, trivial⟩, rfl, rfl, ?_⟩
       exact SubS.out ⟨⟨rfl, rfl⟩, trivial⟩
      ·refine Tri.skip ?_
       show Tri _ _ _ _
       refine Tri.seqS ?_
       refine Tri.seqS ?_
       refine Tri.reg ?_
       refine At.seg 4 [0, 1, 2, 3, 9, 10, 45] [5000] (s' := ⟨[(0, .c (oC 5000 3 a1.2.2)), (1, cD (i6 p1)), (2, cD (i6 p2)), (3, cD (.fn 20 [])), (9, cD (i6 a6)), (10, cD (i6 a1.2.1)), (45, cD (.bool (decide ((IntKind.i64.wrap (p2 - p1)) < 50))))], [(5000, vL 3 encTime a1.2.2)]⟩) (c := True ∧ True ∧ True ∧ True ∧ True) (by kernel_rfl) ⟨trivial, trivial, trivial, trivial, trivial⟩ ?_
       refine At.done rfl ?_
       show Tri _ _ _ _
       refine Tri.condP (b := (decide ((IntKind.i64.wrap (p2 - p1)) < 50))) rfl h (fun h => ?_) (fun h => ?_)
       ·refine Tri.seqS ?_
        refine Tri.reg ?_
        refine At.seg 1 [8] [5000] (s' := ⟨[(8, cD (.bool false))], [(5000, vL 3 encTime a1.2.2)]⟩) (c := True ∧ True) (by kernel_rfl) ⟨trivial, trivial⟩ ?_
        refine At.done rfl ?_
        show Tri _ _ _ _
        refine Tri.keep [8] [5000] (s' := ⟨[(8, cD (.bool false))], [(5000, vL 3 encTime a1.2.2)]⟩) (by kernel_rfl) ?_
        refine Tri.ret ?_
        cases h
        refine ⟨_, _, rfl, ⟨trivial, trivial⟩, rfl, rfl, ?_⟩
        exact SubS.out ⟨⟨rfl, rfl⟩, trivial⟩
       ·refine Tri.skip ?_
        show Tri _ _ _ _
        refine Tri.seqS ?_
        obtain ⟨hc7, h⟩ := need_elim h
        obtain ⟨hc8, h⟩ := need_elim h
        obtain ⟨hc9, h⟩ := need_elim h
        obtain ⟨hc10, h⟩ := need_elim h
        obtain ⟨hc11, h⟩ := need_elim h
        obtain ⟨hc12, h⟩ := need_elim h
        obtain ⟨hc13, h⟩ := need_elim h
        obtain ⟨hc14, h⟩ := need_elim h
        refine Tri.afterA ⟨[(0, .c (oC 5000 3 a1.2.2)), (1, cD (i6 p1)), (2, cD (i6 p2)), (3, cD (.fn 20 [])), (9, cD (i6 a6)), (10, cD (i6 a1.2.1))], [(5000, vL 3 encTime ((a1.2.2.set (0 + a6.toNat) (a1.2.2.getD (0 + (IntKind.i64.wrap (a6 - 1)).toNat) default)).set (0 + (IntKind.i64.wrap (a6 - 1)).toNat) (a1.2.2.getD (0 + a6.toNat) default)))]⟩ ?_ ?_
        ·refine Tri.drawn (specs := [⟨⟨[(0, .c (oC 5000 3 a1.2.2))], []⟩, ⟨[(46, .c (oC 5000 3 a1.2.2))], []⟩, [], [], []⟩, ⟨⟨[(9, cD (i6 a6))], []⟩, ⟨[(47, cD (i6 a6))], []⟩, [], [], []⟩, ⟨⟨[(0, .c (oC 5000 3 a1.2.2))], []⟩, ⟨[(48, .c (oC 5000 3 a1.2.2))], []⟩, [], [], []⟩, ⟨⟨[(9, cD (i6 a6))], []⟩, ⟨[(49, cD (i6 a6))], []⟩, [], [], []⟩, ⟨⟨[(49, cD (i6 a6))], []⟩, ⟨[(50, cD (i6 (IntKind.i64.wrap (a6 - 1))))], []⟩, [], [], []⟩, ⟨⟨[(0, .c (oC 5000 3 a1.2.2))], []⟩, ⟨[(51, .c (oC 5000 3 a1.2.2))], []⟩, [], [], []⟩, ⟨⟨[(9, cD (i6 a6))], []⟩, ⟨[(52, cD (i6 a6))], []⟩, [], [], []⟩, ⟨⟨[(52, cD (i6 a6))], []⟩, ⟨[(53, cD (i6 (IntKind.i64.wrap (a6 - 1))))], []⟩, [], [], []⟩, ⟨⟨[(51, .c (oC 5000 3 a1.2.2)), (53, cD (i6 (IntKind.i64.wrap (a6 - 1))))], [(5000, vL 3 encTime a1.2.2)]⟩, ⟨[(54, .c (.vptr 5000 3 (0 + (IntKind.i64.wrap (a6 - 1)).toNat) 0))], []⟩, [], [], []⟩, ⟨⟨[(54, .c (.vptr 5000 3 (0 + (IntKind.i64.wrap (a6 - 1)).toNat) 0))], [(5000, vL 3 encTime a1.2.2)]⟩, ⟨[(55, .agg (cTime (a1.2.2.getD (0 + (IntKind.i64.wrap (a6 - 1)).toNat) default)))], []⟩, [], [], []⟩, ⟨⟨[(0, .c (oC 5000 3 a1.2.2))], []⟩, ⟨[(56, .c (oC 5000 3 a1.2.2))], []⟩, [], [], []⟩, ⟨⟨[(9, cD (i6 a6))], []⟩, ⟨[(57, cD (i6 a6))], []⟩, [], [], []⟩, ⟨⟨[(56, .c (oC 5000 3 a1.2.2)), (57, cD (i6 a6))], [(5000, vL 3 encTime a1.2.2)]⟩, ⟨[(58, .c (.vptr 5000 3 (0 + a6.toNat) 0))], []⟩, [], [], []⟩, ⟨⟨[(58, .c (.vptr 5000 3 (0 + a6.toNat) 0))], [(5000, vL 3 encTime a1.2.2)]⟩, ⟨[(59, .agg (cTime (a1.2.2.getD (0 + a6.toNat) default)))], []⟩, [], [], []⟩, ⟨⟨[(46, .c (oC 5000 3 a1.2.2)), (47, cD (i6 a6))], [(5000, vL 3 encTime a1.2.2)]⟩, ⟨[(60, .c (.vptr 5000 3 (0 + a6.toNat) 0))], []⟩, [], [], []⟩, ⟨⟨[(55, .agg (cTime (a1.2.2.getD (0 + (IntKind.i64.wrap (a6 - 1)).toNat) default))), (60, .c (.vptr 5000 3 (0 + a6.toNat) 0))], [(5000, vL 3 encTime a1.2.2)]⟩, ⟨[], [(5000, vL 3 encTime (a1.2.2.set (0 + a6.toNat) (a1.2.2.getD (0 + (IntKind.i64.wrap (a6 - 1)).toNat) default)))]⟩, [], [], []⟩, ⟨⟨[(48, .c (oC 5000 3 a1.2.2)), (50, cD (i6 (IntKind.i64.wrap (a6 - 1))))], [(5000, vL 3 encTime (a1.2.2.set (0 + a6.toNat) (a1.2.2.getD (0 + (IntKind.i64.wrap (a6 - 1)).toNat) default)))]⟩, ⟨[(61, .c (.vptr 5000 3 (0 + (IntKind.i64.wrap (a6 - 1)).toNat) 0))], []⟩, [], [], []⟩, ⟨⟨[(59, .agg (cTime (a1.2.2.getD (0 + a6.toNat) default))), (61, .c (.vptr 5000 3 (0 + (IntKind.i64.wrap (a6 - 1)).toNat) 0))], [(5000, vL 3 encTime (a1.2.2.set (0 + a6.toNat) (a1.2.2.getD (0 + (IntKind.i64.wrap (a6 - 1)).toNat) default)))]⟩, ⟨[], [(5000, vL 3 encTime ((a1.2.2.set (0 + a6.toNat) (a1.2.2.getD (0 + (IntKind.i64.wrap (a6 - 1)).toNat) default)).set (0 + (IntKind.i64.wrap (a6 - 1)).toNat) (a1.2.2.getD (0 + a6.toNat) default)))]⟩, [], [], []⟩]) (bef := [[], [], [], [], [3], [], [], [6], [5, 6, 7], [5, 6, 7, 8], [], [], [10, 11], [10, 11, 12], [0, 1, 5, 6, 7, 8, 9, 10, 11, 12, 13], [0, 1, 5, 6, 7, 8, 9, 10, 11, 12, 13, 14], [0, 1, 2, 3, 4, 5, 6, 7, 8, 9, 10, 11, 12, 13, 14, 15], [0, 1, 2, 3, 4, 5, 6, 7, 8, 9, 10, 11, 12, 13, 14, 15, 16]]) (tk := [0, 1, 2, 3, 9, 10]) (sk := [5000]) (s' := ⟨[(0, .c (oC 5000 3 a1.2.2)), (1, cD (i6 p1)), (2, cD (i6 p2)), (3, cD (.fn 20 [])), (9, cD (i6 a6)), (10, cD (i6 a1.2.1))], [(5000, vL 3 encTime ((a1.2.2.set (0 + a6.toNat) (a1.2.2.getD (0 + (IntKind.i64.wrap (a6 - 1)).toNat) default)).set (0 + (IntKind.i64.wrap (a6 - 1)).toNat) (a1.2.2.getD (0 + a6.toNat) default)))]⟩) (by kernel_rfl) (by kernel_rfl) (by kernel_rfl) ⟨?_, ?_, ?_, ?_, ?_, ?_, ?_, ?_, ?_, ?_, ?_, ?_, ?_, ?_, ?_, ?_, ?_, ?_, trivial⟩ (by kernel_rfl) ?_
         · exact DOk.t rfl rfl (by kernel_rfl) (by kernel_rfl)
         · exact DOk.t rfl rfl (by kernel_rfl) (by kernel_rfl)
         · exact DOk.t rfl rfl (by kernel_rfl) (by kernel_rfl)
         · exact DOk.t rfl rfl (by kernel_rfl) (by kernel_rfl)
         · exact DOk.t rfl rfl (by kernel_rfl) (by kernel_rfl)
         · exact DOk.t rfl rfl (by kernel_rfl) (by kernel_rfl)
         · exact DOk.t rfl rfl (by kernel_rfl) (by kernel_rfl)
         · exact DOk.t rfl rfl (by kernel_rfl) (by kernel_rfl)
         · exact DOk.step (.val (.c (.vptr 5000 3 (0 + (IntKind.i64.wrap (a6 - 1)).toNat) 0)) ((0 : Int) ≤ (IntKind.i64.wrap (a6 - 1)) ∧ (IntKind.i64.wrap (a6 - 1)) < (a1.2.2.length : Int))) (fun r => by kernel_rfl) (fun r => by kernel_rfl) hc7 (by kernel_rfl) (by kernel_rfl) (fun r => rfl)
         · exact DOk.step (.val (.agg (cTime (a1.2.2.getD (0 + (IntKind.i64.wrap (a6 - 1)).toNat) default))) ((0 + (IntKind.i64.wrap (a6 - 1)).toNat) < a1.2.2.length)) (fun r => by kernel_rfl) (fun r => by kernel_rfl) hc8 (by kernel_rfl) (by kernel_rfl) (fun r => rfl)
         · exact DOk.t rfl rfl (by kernel_rfl) (by kernel_rfl)
         · exact DOk.t rfl rfl (by kernel_rfl) (by kernel_rfl)
         · exact DOk.step (.val (.c (.vptr 5000 3 (0 + a6.toNat) 0)) ((0 : Int) ≤ a6 ∧ a6 < (a1.2.2.length : Int))) (fun r => by kernel_rfl) (fun r => by kernel_rfl) hc9 (by kernel_rfl) (by kernel_rfl) (fun r => rfl)
         · exact DOk.step (.val (.agg (cTime (a1.2.2.getD (0 + a6.toNat) default))) ((0 + a6.toNat) < a1.2.2.length)) (fun r => by kernel_rfl) (fun r => by kernel_rfl) hc10 (by kernel_rfl) (by kernel_rfl) (fun r => rfl)
         · exact DOk.step (.val (.c (.vptr 5000 3 (0 + a6.toNat) 0)) ((0 : Int) ≤ a6 ∧ a6 < (a1.2.2.length : Int))) (fun r => by kernel_rfl) (fun r => by kernel_rfl) hc11 (by kernel_rfl) (by kernel_rfl) (fun r => rfl)
         · exact DOk.one fun r hr => One.storeT (xs := [.d (u6 ((a1.2.2.getD (0 + (IntKind.i64.wrap (a6 - 1)).toNat) default).epoch)), .d (u6 ((a1.2.2.getD (0 + (IntKind.i64.wrap (a6 - 1)).toNat) default).loop.1)), .d (u6 ((a1.2.2.getD (0 + (IntKind.i64.wrap (a6 - 1)).toNat) default).loop.2))]) (ds := [u6 ((a1.2.2.getD (0 + (IntKind.i64.wrap (a6 - 1)).toNat) default).epoch), u6 ((a1.2.2.getD (0 + (IntKind.i64.wrap (a6 - 1)).toNat) default).loop.1), u6 ((a1.2.2.getD (0 + (IntKind.i64.wrap (a6 - 1)).toNat) default).loop.2)]) (encTime) a1.2.2 (a1.2.2.getD (0 + (IntKind.i64.wrap (a6 - 1)).toNat) default) rfl (by kernel_rfl) rfl rfl rfl hc12 rfl rfl (.refl _) rfl rfl rfl rfl
         · exact DOk.step (.val (.c (.vptr 5000 3 (0 + (IntKind.i64.wrap (a6 - 1)).toNat) 0)) ((0 : Int) ≤ (IntKind.i64.wrap (a6 - 1)) ∧ (IntKind.i64.wrap (a6 - 1)) < (a1.2.2.length : Int))) (fun r => by kernel_rfl) (fun r => by kernel_rfl) hc13 (by kernel_rfl) (by kernel_rfl) (fun r => rfl)
         · exact DOk.one fun r hr => One.storeT (xs := [.d (u6 ((a1.2.2.getD (0 + a6.toNat) default).epoch)), .d (u6 ((a1.2.2.getD (0 + a6.toNat) default).loop.1)), .d (u6 ((a1.2.2.getD (0 + a6.toNat) default).loop.2))]) (ds := [u6 ((a1.2.2.getD (0 + a6.toNat) default).epoch), u6 ((a1.2.2.getD (0 + a6.toNat) default).loop.1), u6 ((a1.2.2.getD (0 + a6.toNat) default).loop.2)]) (encTime) (a1.2.2.set (0 + a6.toNat) (a1.2.2.getD (0 + (IntKind.i64.wrap (a6 - 1)).toNat) default)) (a1.2.2.getD (0 + a6.toNat) default) rfl (by kernel_rfl) rfl rfl rfl hc14 rfl rfl (.refl _) rfl rfl rfl rfl
         exact ⟨rfl, rfl⟩
        ·refine At.eqS (s' := ⟨[(0, .c (oC 5000 3 ((a1.2.2.set (0 + a6.toNat) (a1.2.2.getD (0 + (IntKind.i64.wrap (a6 - 1)).toNat) default)).set (0 + (IntKind.i64.wrap (a6 - 1)).toNat) (a1.2.2.getD (0 + a6.toNat) default)))), (1, cD (i6 p1)), (2, cD (i6 p2)), (3, cD (.fn 20 [])), (9, cD (i6 a6)), (10, cD (i6 a1.2.1))], [(5000, vL 3 encTime ((a1.2.2.set (0 + a6.toNat) (a1.2.2.getD (0 + (IntKind.i64.wrap (a6 - 1)).toNat) default)).set (0 + (IntKind.i64.wrap (a6 - 1)).toNat) (a1.2.2.getD (0 + a6.toNat) default)))]⟩) (by simp only [oC, vL, List.length_set]) ?_
         refine At.done rfl ?_
         show Tri _ _ _ _
         refine Tri.seqJ (fun (a15 : List Time) => ⟨[(0, .c (oC 5000 3 a15)), (1, cD (i6 p1)), (2, cD (i6 p2)), (3, cD (.fn 20 [])), (9, cD (i6 a6)), (10, cD (i6 a1.2.1))], [(5000, vL 3 encTime a15)]⟩) h (fun a15 h => ?_) (fun j16 h => ?_)
         ·show Tri _ _ ⟨[(0, .c (oC 5000 3 a15)), (1, cD (i6 p1)), (2, cD (i6 p2)), (3, cD (.fn 20 [])), (9, cD (i6 a6)), (10, cD (i6 a1.2.1))], [(5000, vL 3 encTime a15)]⟩ _
          refine Tri.seqS ?_
          refine Tri.reg ?_
          refine At.seg 4 [0, 1, 2, 3, 9, 10, 104] [5000] (s' := ⟨[(0, .c (oC 5000 3 a15)), (1, cD (i6 p1)), (2, cD (i6 p2)), (3, cD (.fn 20 [])), (9, cD (i6 a6)), (10, cD (i6 a1.2.1)), (104, cD (.bool (decide (2 ≤ (IntKind.i64.wrap (p2 - a6))))))], [(5000, vL 3 encTime a15)]⟩) (c := True ∧ True ∧ True ∧ True ∧ True) (by kernel_rfl) ⟨trivial, trivial, trivial, trivial, trivial⟩ ?_
          refine At.done rfl ?_
          show Tri _ _ _ _
          refine Tri.condP (b := (decide (2 ≤ (IntKind.i64.wrap (p2 - a6))))) rfl h (fun h => ?_) (fun h => ?_)
          ·refine Tri.seqS ?_
           refine Tri.reg ?_
           refine At.seg 3 [0, 1, 2, 3, 9, 10, 12] [5000] (s' := ⟨[(0, .c (oC 5000 3 a15)), (1, cD (i6 p1)), (2, cD (i6 p2)), (3, cD (.fn 20 [])), (9, cD (i6 a6)), (10, cD (i6 a1.2.1)), (12, cD (i6 (IntKind.i64.wrap (a6 + 1))))], [(5000, vL 3 encTime a15)]⟩) (c := True ∧ True ∧ True ∧ True) (by kernel_rfl) ⟨trivial, trivial, trivial, trivial⟩ ?_
           refine At.done rfl ?_
           show Tri _ _ _ _
           refine Tri.keep [0, 1, 2, 3, 9, 10, 12] [5000] (s' := ⟨[(0, .c (oC 5000 3 a15)), (1, cD (i6 p1)), (2, cD (i6 p2)), (3, cD (.fn 20 [])), (9, cD (i6 a6)), (10, cD (i6 a1.2.1)), (12, cD (i6 (IntKind.i64.wrap (a6 + 1))))], [(5000, vL 3 encTime a15)]⟩) (by kernel_rfl) ?_
           refine Tri.loopK (fuel := fuel) (st0 := ((IntKind.i64.wrap (a6 + 1)), a15)) (fun (x : Empty) s => False) (fun (a17 : Int × (List Time)) => ⟨[(0, .c (oC 5000 3 a17.2)), (1, cD (i6 p1)), (2, cD (i6 p2)), (3, cD (.fn 20 [])), (9, cD (i6 a6)), (10, cD (i6 a1.2.1)), (12, cD (i6 a17.1))], [(5000, vL 3 encTime a17.2)]⟩) (fun (a17 : Int × (List Time)) => ⟨[(0, .c (oC 5000 3 a17.2)), (1, cD (i6 p1)), (2, cD (i6 p2)), (3, cD (.fn 20 [])), (9, cD (i6 a6)), (10, cD (i6 a1.2.1))], [(5000, vL 3 encTime a17.2)]⟩) h ?_ ?_ ?_
           ·intro a17 c h
            show Tri _ _ ⟨[(0, .c (oC 5000 3 a17.2)), (1, cD (i6 p1)), (2, cD (i6 p2)), (3, cD (.fn 20 [])), (9, cD (i6 a6)), (10, cD (i6 a1.2.1)), (12, cD (i6 a17.1))], [(5000, vL 3 encTime a17.2)]⟩ _
            refine Tri.seqS ?_
            refine Tri.seqS ?_
            refine Tri.reg ?_
            refine At.seg 3 [0, 1, 2, 3, 9, 10, 12, 109] [5000] (s' := ⟨[(0, .c (oC 5000 3 a17.2)), (1, cD (i6 p1)), (2, cD (i6 p2)), (3, cD (.fn 20 [])), (9, cD (i6 a6)), (10, cD (i6 a1.2.1)), (12, cD (i6 a17.1)), (109, cD (.bool (decide (a17.1 < p2))))], [(5000, vL 3 encTime a17.2)]⟩) (c := True ∧ True ∧ True ∧ True) (by kernel_rfl) ⟨trivial, trivial, trivial, trivial⟩ ?_
            refine At.done rfl ?_
            show Tri _ _ _ _
            refine Tri.condP (b := (decide (a17.1 < p2))) rfl h (fun h => ?_) (fun h => ?_)
            ·refine Tri.skip ?_
             show Tri _ _ _ _
             refine Tri.seqS ?_
             refine Tri.blockB ?_
             refine Tri.seqS ?_
             refine Tri.seqS ?_
             obtain ⟨hc19, h⟩ := need_elim h
             obtain ⟨hc20, h⟩ := need_elim h
             obtain ⟨hc21, h⟩ := need_elim h
             obtain ⟨hc22, h⟩ := need_elim h
             obtain ⟨r23, hr23, h⟩ := bind_elim h
             refine Tri.drawn (specs := [⟨⟨[(3, cD (.fn 20 []))], []⟩, ⟨[(112, cD (.fn 20 []))], []⟩, [], [], []⟩, ⟨⟨[(0, .c (oC 5000 3 a17.2))], []⟩, ⟨[(113, .c (oC 5000 3 a17.2))], []⟩, [], [], []⟩, ⟨⟨[(12, cD (i6 a17.1))], []⟩, ⟨[(114, cD (i6 a17.1))], []⟩, [], [], []⟩, ⟨⟨[(113, .c (oC 5000 3 a17.2)), (114, cD (i6 a17.1))], [(5000, vL 3 encTime a17.2)]⟩, ⟨[(115, .c (.vptr 5000 3 (0 + a17.1.toNat) 0))], []⟩, [], [], []⟩, ⟨⟨[(115, .c (.vptr 5000 3 (0 + a17.1.toNat) 0))], [(5000, vL 3 encTime a17.2)]⟩, ⟨[(116, .agg (cTime (a17.2.getD (0 + a17.1.toNat) default)))], []⟩, [], [], []⟩, ⟨⟨[(0, .c (oC 5000 3 a17.2))], []⟩, ⟨[(117, .c (oC 5000 3 a17.2))], []⟩, [], [], []⟩, ⟨⟨[(12, cD (i6 a17.1))], []⟩, ⟨[(118, cD (i6 a17.1))], []⟩, [], [], []⟩, ⟨⟨[(118, cD (i6 a17.1))], []⟩, ⟨[(119, cD (i6 (IntKind.i64.wrap (a17.1 - 1))))], []⟩, [], [], []⟩, ⟨⟨[(117, .c (oC 5000 3 a17.2)), (119, cD (i6 (IntKind.i64.wrap (a17.1 - 1))))], [(5000, vL 3 encTime a17.2)]⟩, ⟨[(120, .c (.vptr 5000 3 (0 + (IntKind.i64.wrap (a17.1 - 1)).toNat) 0))], []⟩, [], [], []⟩, ⟨⟨[(120, .c (.vptr 5000 3 (0 + (IntKind.i64.wrap (a17.1 - 1)).toNat) 0))], [(5000, vL 3 encTime a17.2)]⟩, ⟨[(121, .agg (cTime (a17.2.getD (0 + (IntKind.i64.wrap (a17.1 - 1)).toNat) default)))], []⟩, [], [], []⟩, ⟨⟨[(112, cD (.fn 20 [])), (116, .agg (cTime (a17.2.getD (0 + a17.1.toNat) default))), (121, .agg (cTime (a17.2.getD (0 + (IntKind.i64.wrap (a17.1 - 1)).toNat) default)))], []⟩, ⟨[(122, cD (i6 r23))], []⟩, [], [], []⟩, ⟨⟨[(122, cD (i6 r23))], []⟩, ⟨[(123, cD (.bool (decide (r23 < 0))))], []⟩, [], [], []⟩, ⟨⟨[(123, cD (.bool (decide (r23 < 0))))], []⟩, ⟨[(124, cD (.bool (!(decide (r23 < 0)))))], []⟩, [], [], []⟩]) (bef := [[], [], [], [1, 2], [1, 2, 3], [], [], [6], [5, 6, 7], [5, 6, 7, 8], [0, 1, 2, 3, 4, 5, 6, 7, 8, 9], [0, 1, 2, 3, 4, 5, 6, 7, 8, 9, 10], [0, 1, 2, 3, 4, 5, 6, 7, 8, 9, 10, 11]]) (tk := [0, 1, 2, 3, 9, 10, 12, 124]) (sk := [5000]) (s' := ⟨[(0, .c (oC 5000 3 a17.2)), (1, cD (i6 p1)), (2, cD (i6 p2)), (3, cD (.fn 20 [])), (9, cD (i6 a6)), (10, cD (i6 a1.2.1)), (12, cD (i6 a17.1)), (124, cD (.bool (!(decide (r23 < 0)))))], [(5000, vL 3 encTime a17.2)]⟩) (by kernel_rfl) (by kernel_rfl) (by kernel_rfl) ⟨?_, ?_, ?_, ?_, ?_, ?_, ?_, ?_, ?_, ?_, ?_, ?_, ?_, trivial⟩ (by kernel_rfl) ?_
             · exact DOk.t rfl rfl (by kernel_rfl) (by kernel_rfl)
             · exact DOk.t rfl rfl (by kernel_rfl) (by kernel_rfl)
             · exact DOk.t rfl rfl (by kernel_rfl) (by kernel_rfl)
             · exact DOk.step (.val (.c (.vptr 5000 3 (0 + a17.1.toNat) 0)) ((0 : Int) ≤ a17.1 ∧ a17.1 < (a17.2.length : Int))) (fun r => by kernel_rfl) (fun r => by kernel_rfl) hc19 (by kernel_rfl) (by kernel_rfl) (fun r => rfl)
             · exact DOk.step (.val (.agg (cTime (a17.2.getD (0 + a17.1.toNat) default))) ((0 + a17.1.toNat) < a17.2.length)) (fun r => by kernel_rfl) (fun r => by kernel_rfl) hc20 (by kernel_rfl) (by kernel_rfl) (fun r => rfl)
             · exact DOk.t rfl rfl (by kernel_rfl) (by kernel_rfl)
             · exact DOk.t rfl rfl (by kernel_rfl) (by kernel_rfl)
             · exact DOk.t rfl rfl (by kernel_rfl) (by kernel_rfl)
             · exact DOk.step (.val (.c (.vptr 5000 3 (0 + (IntKind.i64.wrap (a17.1 - 1)).toNat) 0)) ((0 : Int) ≤ (IntKind.i64.wrap (a17.1 - 1)) ∧ (IntKind.i64.wrap (a17.1 - 1)) < (a17.2.length : Int))) (fun r => by kernel_rfl) (fun r => by kernel_rfl) hc21 (by kernel_rfl) (by kernel_rfl) (fun r => rfl)
             · exact DOk.step (.val (.agg (cTime (a17.2.getD (0 + (IntKind.i64.wrap (a17.1 - 1)).toNat) default))) ((0 + (IntKind.i64.wrap (a17.1 - 1)).toNat) < a17.2.length)) (fun r => by kernel_rfl) (fun r => by kernel_rfl) hc22 (by kernel_rfl) (by kernel_rfl) (fun r => rfl)
             · exact DOk.callA (caps := []) (xs := [.agg (cTime (a17.2.getD (0 + a17.1.toNat) default)), .agg (cTime (a17.2.getD (0 + (IntKind.i64.wrap (a17.1 - 1)).toNat) default))]) (moment_Compare_ok hr23) rfl (fun r => by kernel_rfl) rfl (fun r => by kernel_rfl) (fun r => by kernel_rfl) (fun r => (.cons (.refl _) (.cons (.refl _) .nil))) rfl rfl (fun r => rfl)
             · exact DOk.t rfl rfl (by kernel_rfl) (by kernel_rfl)
             · exact DOk.t rfl rfl (by kernel_rfl) (by kernel_rfl)
             show Tri _ _ _ _
             refine Tri.condP (b := (!(decide (r23 < 0)))) rfl h (fun h => ?_) (fun h => ?_)
             ·refine Tri.keep [0, 1, 2, 3, 9, 10] [5000] (s' := ⟨[(0, .c (oC 5000 3 a17.2)), (1, cD (i6 p1)), (2, cD (i6 p2)), (3, cD (.fn 20 [])), (9, cD (i6 a6)), (10, cD (i6 a1.2.1))], [(5000, vL 3 encTime a17.2)]⟩) (by kernel_rfl) ?_
              refine Tri.exit ?_
              cases h
              exact ⟨rfl, rfl⟩
             ·refine Tri.skip ?_
              show Tri _ _ _ _
              obtain ⟨hc24, h⟩ := need_elim h
              obtain ⟨hc25, h⟩ := need_elim h
              obtain ⟨hc26, h⟩ := need_elim h
              obtain ⟨hc27, h⟩ := need_elim h
              obtain ⟨hc28, h⟩ := need_elim h
              obtain ⟨hc29, h⟩ := need_elim h
              obtain ⟨hc30, h⟩ := need_elim h
              obtain ⟨hc31, h⟩ := need_elim h
              refine Tri.afterA ⟨[(0, .c (oC 5000 3 a17.2)), (1, cD (i6 p1)), (2, cD (i6 p2)), (3, cD (.fn 20 [])), (9, cD (i6 a6)), (10, cD (i6 a1.2.1)), (12, cD (i6 a17.1))], [(5000, vL 3 encTime ((a17.2.set (0 + a17.1.toNat) (a17.2.getD (0 + (IntKind.i64.wrap (a17.1 - 1)).toNat) default)).set (0 + (IntKind.i64.wrap (a17.1 - 1)).toNat) (a17.2.getD (0 + a17.1.toNat) default)))]⟩ ?_ ?_
              ·refine Tri.drawn (specs := [⟨⟨[(0, .c (oC 5000 3 a17.2))], []⟩, ⟨[(125, .c (oC 5000 3 a17.2))], []⟩, [], [], []⟩, ⟨⟨[(12, cD (i6 a17.1))], []⟩, ⟨[(126, cD (i6 a17.1))], []⟩, [], [], []⟩, ⟨⟨[(0, .c (oC 5000 3 a17.2))], []⟩, ⟨[(127, .c (oC 5000 3 a17.2))], []⟩, [], [], []⟩, ⟨⟨[(12, cD (i6 a17.1))], []⟩, ⟨[(128, cD (i6 a17.1))], []⟩, [], [], []⟩, ⟨⟨[(128, cD (i6 a17.1))], []⟩, ⟨[(129, cD (i6 (IntKind.i64.wrap (a17.1 - 1))))], []⟩, [], [], []⟩, ⟨⟨[(0, .c (oC 5000 3 a17.2))], []⟩, ⟨[(130, .c (oC 5000 3 a17.2))], []⟩, [], [], []⟩, ⟨⟨[(12, cD (i6 a17.1))], []⟩, ⟨[(131, cD (i6 a17.1))], []⟩, [], [], []⟩, ⟨⟨[(131, cD (i6 a17.1))], []⟩, ⟨[(132, cD (i6 (IntKind.i64.wrap (a17.1 - 1))))], []⟩, [], [], []⟩, ⟨⟨[(130, .c (oC 5000 3 a17.2)), (132, cD (i6 (IntKind.i64.wrap (a17.1 - 1))))], [(5000, vL 3 encTime a17.2)]⟩, ⟨[(133, .c (.vptr 5000 3 (0 + (IntKind.i64.wrap (a17.1 - 1)).toNat) 0))], []⟩, [], [], []⟩, ⟨⟨[(133, .c (.vptr 5000 3 (0 + (IntKind.i64.wrap (a17.1 - 1)).toNat) 0))], [(5000, vL 3 encTime a17.2)]⟩, ⟨[(134, .agg (cTime (a17.2.getD (0 + (IntKind.i64.wrap (a17.1 - 1)).toNat) default)))], []⟩, [], [], []⟩, ⟨⟨[(0, .c (oC 5000 3 a17.2))], []⟩, ⟨[(135, .c (oC 5000 3 a17.2))], []⟩, [], [], []⟩, ⟨⟨[(12, cD (i6 a17.1))], []⟩, ⟨[(136, cD (i6 a17.1))], []⟩, [], [], []⟩, ⟨⟨[(135, .c (oC 5000 3 a17.2)), (136, cD (i6 a17.1))], [(5000, vL 3 encTime a17.2)]⟩, ⟨[(137, .c (.vptr 5000 3 (0 + a17.1.toNat) 0))], []⟩, [], [], []⟩, ⟨⟨[(137, .c (.vptr 5000 3 (0 + a17.1.toNat) 0))], [(5000, vL 3 encTime a17.2)]⟩, ⟨[(138, .agg (cTime (a17.2.getD (0 + a17.1.toNat) default)))], []⟩, [], [], []⟩, ⟨⟨[(125, .c (oC 5000 3 a17.2)), (126, cD (i6 a17.1))], [(5000, vL 3 encTime a17.2)]⟩, ⟨[(139, .c (.vptr 5000 3 (0 + a17.1.toNat) 0))], []⟩, [], [], []⟩, ⟨⟨[(134, .agg (cTime (a17.2.getD (0 + (IntKind.i64.wrap (a17.1 - 1)).toNat) default))), (139, .c (.vptr 5000 3 (0 + a17.1.toNat) 0))], [(5000, vL 3 encTime a17.2)]⟩, ⟨[], [(5000, vL 3 encTime (a17.2.set (0 + a17.1.toNat) (a17.2.getD (0 + (IntKind.i64.wrap (a17.1 - 1)).toNat) default)))]⟩, [], [], []⟩, ⟨⟨[(127, .c (oC 5000 3 a17.2)), (129, cD (i6 (IntKind.i64.wrap (a17.1 - 1))))], [(5000, vL 3 encTime (a17.2.set (0 + a17.1.toNat) (a17.2.getD (0 + (IntKind.i64.wrap (a17.1 - 1)).toNat) default)))]⟩, ⟨[(140, .c (.vptr 5000 3 (0 + (IntKind.i64.wrap (a17.1 - 1)).toNat) 0))], []⟩, [], [], []⟩, ⟨⟨[(138, .agg (cTime (a17.2.getD (0 + a17.1.toNat) default))), (140, .c (.vptr 5000 3 (0 + (IntKind.i64.wrap (a17.1 - 1)).toNat) 0))], [(5000, vL 3 encTime (a17.2.set (0 + a17.1.toNat) (a17.2.getD (0 + (IntKind.i64.wrap (a17.1 - 1)).toNat) default)))]⟩, ⟨[], [(5000, vL 3 encTime ((a17.2.set (0 + a17.1.toNat) (a17.2.getD (0 + (IntKind.i64.wrap (a17.1 - 1)).toNat) default)).set (0 + (IntKind.i64.wrap (a17.1 - 1)).toNat) (a17.2.getD (0 + a17.1.toNat) default)))]⟩, [], [], []⟩]) (bef := [[], [], [], [], [3], [], [], [6], [5, 6, 7], [5, 6, 7, 8], [], [], [10, 11], [10, 11, 12], [0, 1, 5, 6, 7, 8, 9, 10, 11, 12, 13], [0, 1, 5, 6, 7, 8, 9, 10, 11, 12, 13, 14], [0, 1, 2, 3, 4, 5, 6, 7, 8, 9, 10, 11, 12, 13, 14, 15], [0, 1, 2, 3, 4, 5, 6, 7, 8, 9, 10, 11, 12, 13, 14, 15, 16]]) (tk := [0, 1, 2, 3, 9, 10, 12]) (sk := [5000]) (s' := ⟨[(0, .c (oC 5000 3 a17.2)), (1, cD (i6 p1)), (2, cD (i6 p2)), (3, cD (.fn 20 [])), (9, cD (i6 a6)), (10, cD (i6 a1.2.1)), (12, cD (i6 a17.1))], [(5000, vL 3 encTime ((a17.2.set (0 + a17.1.toNat) (a17.2.getD (0 + (IntKind.i64.wrap (a17.1 - 1)).toNat) default)).set (0 + (IntKind.i64.wrap (a17.1 - 1)).toNat) (a17.2.getD (0 + a17.1.toNat) default)))]⟩) (by kernel_rfl) (by kernel_rfl) (by kernel_rfl) ⟨?_, ?_, ?_, ?_, ?_, ?_, ?_, ?_, ?_, ?_, ?_, ?_, ?_, ?_, ?_, ?_, ?_, ?_, trivial⟩ (by kernel_rfl) ?_
               · exact DOk.t rfl rfl (by kernel_rfl) (by kernel_rfl)
               · exact DOk.t rfl rfl (by kernel_rfl) (by kernel_rfl)
               · exact DOk.t rfl rfl (by kernel_rfl) (by kernel_rfl)
               · exact DOk.t rfl rfl (by kernel_rfl) (by kernel_rfl)
               · exact DOk.t rfl rfl (by kernel_rfl) (by kernel_rfl)
               · exact DOk.t rfl rfl (by kernel_rfl) (by kernel_rfl)
               · exact DOk.t rfl rfl (by kernel_rfl) (by kernel_rfl)
               · exact DOk.t rfl rfl (by kernel_rfl) (by kernel_rfl)
               · exact DOk.step (.val (.c (.vptr 5000 3 (0 + (IntKind.i64.wrap (a17.1 - 1)).toNat) 0)) ((0 : Int) ≤ (IntKind.i64.wrap (a17.1 - 1)) ∧ (IntKind.i64.wrap (a17.1 - 1)) < (a17.2.length : Int))) (fun r => by kernel_rfl) (fun r => by kernel_rfl) hc24 (by kernel_rfl) (by kernel_rfl) (fun r => rfl)
               · exact DOk.step (.val (.agg (cTime (a17.2.getD (0 + (IntKind.i64.wrap (a17.1 - 1)).toNat) default))) ((0 + (IntKind.i64.wrap (a17.1 - 1)).toNat) < a17.2.length)) (fun r => by kernel_rfl) (fun r => by kernel_rfl) hc25 (by kernel_rfl) (by kernel_rfl) (fun r => rfl)
               · exact DOk.t rfl rfl (by kernel_rfl) (by kernel_rfl)
               · exact DOk.t rfl rfl (by kernel_rfl) (by kernel_rfl)
               · exact DOk.step (.val (.c (.vptr 5000 3 (0 + a17.1.toNat) 0)) ((0 : Int) ≤ a17.1 ∧ a17.1 < (a17.2.length : Int))) (fun r => by kernel_rfl) (fun r => by kernel_rfl) hc26 (by kernel_rfl) (by kernel_rfl) (fun r => rfl)
               · exact DOk.step (.val (.agg (cTime (a17.2.getD (0 + a17.1.toNat) default))) ((0 + a17.1.toNat) < a17.2.length)) (fun r => by kernel_rfl) (fun r => by kernel_rfl) hc27 (by kernel_rfl) (by kernel_rfl) (fun r => rfl)
               · exact DOk.step (.val (.c (.vptr 5000 3 (0 + a17.1.toNat) 0)) ((0 : Int) ≤ a17.1 ∧ a17.1 < (a17.2.length : Int))) (fun r => by kernel_rfl) (fun r => by kernel_rfl) hc28 (by kernel_rfl) (by kernel_rfl) (fun r => rfl)
               · exact DOk.one fun r hr => One.storeT (xs := [.d (u6 ((a17.2.getD (0 + (IntKind.i64.wrap (a17.1 - 1)).toNat) default).epoch)), .d (u6 ((a17.2.getD (0 + (IntKind.i64.wrap (a17.1 - 1)).toNat) default).loop.1)), .d (u6 ((a17.2.getD (0 + (IntKind.i64.wrap (a17.1 - 1)).toNat) default).loop.2))]) (ds := [u6 ((a17.2.getD (0 + (IntKind.i64.wrap (a17.1 - 1)).toNat) default).epoch), u6 ((a17.2.getD (0 + (IntKind.i64.wrap (a17.1 - 1)).toNat) default).loop.1), u6 ((a17.2.getD (0 + (IntKind.i64.wrap (a17.1 - 1)).toNat) default).loop.2)]) (encTime) a17.2 (a17.2.getD (0 + (IntKind.i64.wrap (a17.1 - 1)).toNat) default) rfl (by kernel_rfl) rfl rfl rfl hc29 rfl rfl (.refl _) rfl rfl rfl rfl
               · exact DOk.step (.val (.c (.vptr 5000 3 (0 + (IntKind.i64.wrap (a17.1 - 1)).toNat) 0)) ((0 : Int) ≤ (IntKind.i64.wrap (a17.1 - 1)) ∧ (IntKind.i64.wrap (a17.1 - 1)) < (a17.2.length : Int))) (fun r => by kernel_rfl) (fun r => by kernel_rfl) hc30 (by kernel_rfl) (by kernel_rfl) (fun r => rfl)
               · exact DOk.one fun r hr => One.storeT (xs := [.d (u6 ((a17.2.getD (0 + a17.1.toNat) default).epoch)), .d (u6 ((a17.2.getD (0 + a17.1.toNat) default).loop.1)), .d (u6 ((a17.2.getD (0 + a17.1.toNat) default).loop.2))]) (ds := [u6 ((a17.2.getD (0 + a17.1.toNat) default).epoch), u6 ((a17.2.getD (0 + a17.1.toNat) default).loop.1), u6 ((a17.2.getD (0 + a17.1.toNat) default).loop.2)]) (encTime) (a17.2.set (0 + a17.1.toNat) (a17.2.getD (0 + (IntKind.i64.wrap (a17.1 - 1)).toNat) default)) (a17.2.getD (0 + a17.1.toNat) default) rfl (by kernel_rfl) rfl rfl rfl hc31 rfl rfl (.refl _) rfl rfl rfl rfl
               exact ⟨rfl, rfl⟩
              ·refine At.eqS (s' := ⟨[(0, .c (oC 5000 3 ((a17.2.set (0 + a17.1.toNat) (a17.2.getD (0 + (IntKind.i64.wrap (a17.1 - 1)).toNat) default)).set (0 + (IntKind.i64.wrap (a17.1 - 1)).toNat) (a17.2.getD (0 + a17.1.toNat) default)))), (1, cD (i6 p1)), (2, cD (i6 p2)), (3, cD (.fn 20 [])), (9, cD (i6 a6)), (10, cD (i6 a1.2.1)), (12, cD (i6 a17.1))], [(5000, vL 3 encTime ((a17.2.set (0 + a17.1.toNat) (a17.2.getD (0 + (IntKind.i64.wrap (a17.1 - 1)).toNat) default)).set (0 + (IntKind.i64.wrap (a17.1 - 1)).toNat) (a17.2.getD (0 + a17.1.toNat) default)))]⟩) (by simp only [oC, vL, List.length_set]) ?_
               refine At.done rfl ?_
               show Tri _ _ _ _
               refine Tri.reg ?_
               refine At.seg 3 [0, 1, 2, 3, 9, 10, 12] [5000] (s' := ⟨[(0, .c (oC 5000 3 ((a17.2.set (0 + a17.1.toNat) (a17.2.getD (0 + (IntKind.i64.wrap (a17.1 - 1)).toNat) default)).set (0 + (IntKind.i64.wrap (a17.1 - 1)).toNat) (a17.2.getD (0 + a17.1.toNat) default)))), (1, cD (i6 p1)), (2, cD (i6 p2)), (3, cD (.fn 20 [])), (9, cD (i6 a6)), (10, cD (i6 a1.2.1)), (12, cD (i6 (IntKind.i64.wrap (a17.1 + 1))))], [(5000, vL 3 encTime ((a17.2.set (0 + a17.1.toNat) (a17.2.getD (0 + (IntKind.i64.wrap (a17.1 - 1)).toNat) default)).set (0 + (IntKind.i64.wrap (a17.1 - 1)).toNat) (a17.2.getD (0 + a17.1.toNat) default)))]⟩) (c := True ∧ True ∧ True ∧ True) (by kernel_rfl) ⟨trivial, trivial, trivial, trivial⟩ ?_
               refine At.done rfl ?_
               cases h
               exact rfl
            ·refine Tri.keep [0, 1, 2, 3, 9, 10] [5000] (s' := ⟨[(0, .c (oC 5000 3 a17.2)), (1, cD (i6 p1)), (2, cD (i6 p2)), (3, cD (.fn 20 [])), (9, cD (i6 a6)), (10, cD (i6 a1.2.1))], [(5000, vL 3 encTime a17.2)]⟩) (by kernel_rfl) ?_
             refine Tri.exit ?_
             cases h
             exact ⟨rfl, rfl⟩
           ·intro a18 h
            exact ⟨_, h, rfl⟩
           · exact fun x => x.elim
          ·refine Tri.keep [0, 1, 2, 3, 9, 10] [5000] (s' := ⟨[(0, .c (oC 5000 3 a15)), (1, cD (i6 p1)), (2, cD (i6 p2)), (3, cD (.fn 20 [])), (9, cD (i6 a6)), (10, cD (i6 a1.2.1))], [(5000, vL 3 encTime a15)]⟩) (by kernel_rfl) ?_
           refine Tri.skip ?_
           exact ⟨_, h, rfl⟩
         ·refine Tri.seqS ?_
          refine Tri.reg ?_
          refine At.seg 4 [0, 1, 2, 3, 9, 10, 65] [5000] (s' := ⟨[(0, .c (oC 5000 3 ((a1.2.2.set (0 + a6.toNat) (a1.2.2.getD (0 + (IntKind.i64.wrap (a6 - 1)).toNat) default)).set (0 + (IntKind.i64.wrap (a6 - 1)).toNat) (a1.2.2.getD (0 + a6.toNat) default)))), (1, cD (i6 p1)), (2, cD (i6 p2)), (3, cD (.fn 20 [])), (9, cD (i6 a6)), (10, cD (i6 a1.2.1)), (65, cD (.bool (decide (2 ≤ (IntKind.i64.wrap (a6 - p1))))))], [(5000, vL 3 encTime ((a1.2.2.set (0 + a6.toNat) (a1.2.2.getD (0 + (IntKind.i64.wrap (a6 - 1)).toNat) default)).set (0 + (IntKind.i64.wrap (a6 - 1)).toNat) (a1.2.2.getD (0 + a6.toNat) default)))]⟩) (c := True ∧ True ∧ True ∧ True ∧ True) (by kernel_rfl) ⟨trivial, trivial, trivial, trivial, trivial⟩ ?_
          refine At.done rfl ?_
          show Tri _ _ _ _
          refine Tri.condP (b := (decide (2 ≤ (IntKind.i64.wrap (a6 - p1))))) rfl h (fun h => ?_) (fun h => ?_)
          ·refine Tri.seqS ?_
           refine Tri.reg ?_
           refine At.seg 3 [0, 1, 2, 3, 9, 10, 11] [5000] (s' := ⟨[(0, .c (oC 5000 3 ((a1.2.2.set (0 + a6.toNat) (a1.2.2.getD (0 + (IntKind.i64.wrap (a6 - 1)).toNat) default)).set (0 + (IntKind.i64.wrap (a6 - 1)).toNat) (a1.2.2.getD (0 + a6.toNat) default)))), (1, cD (i6 p1)), (2, cD (i6 p2)), (3, cD (.fn 20 [])), (9, cD (i6 a6)), (10, cD (i6 a1.2.1)), (11, cD (i6 (IntKind.i64.wrap (a6 - 1))))], [(5000, vL 3 encTime ((a1.2.2.set (0 + a6.toNat) (a1.2.2.getD (0 + (IntKind.i64.wrap (a6 - 1)).toNat) default)).set (0 + (IntKind.i64.wrap (a6 - 1)).toNat) (a1.2.2.getD (0 + a6.toNat) default)))]⟩) (c := True ∧ True ∧ True ∧ True) (by kernel_rfl) ⟨trivial, trivial, trivial, trivial⟩ ?_
           refine At.done rfl ?_
           show Tri _ _ _ _
           refine Tri.keep [0, 1, 2, 3, 9, 10, 11] [5000] (s' := ⟨[(0, .c (oC 5000 3 ((a1.2.2.set (0 + a6.toNat) (a1.2.2.getD (0 + (IntKind.i64.wrap (a6 - 1)).toNat) default)).set (0 + (IntKind.i64.wrap (a6 - 1)).toNat) (a1.2.2.getD (0 + a6.toNat) default)))), (1, cD (i6 p1)), (2, cD (i6 p2)), (3, cD (.fn 20 [])), (9, cD (i6 a6)), (10, cD (i6 a1.2.1)), (11, cD (i6 (IntKind.i64.wrap (a6 - 1))))], [(5000, vL 3 encTime ((a1.2.2.set (0 + a6.toNat) (a1.2.2.getD (0 + (IntKind.i64.wrap (a6 - 1)).toNat) default)).set (0 + (IntKind.i64.wrap (a6 - 1)).toNat) (a1.2.2.getD (0 + a6.toNat) default)))]⟩) (by kernel_rfl) ?_
           refine Tri.loopK (fuel := fuel) (st0 := ((IntKind.i64.wrap (a6 - 1)), ((a1.2.2.set (0 + a6.toNat) (a1.2.2.getD (0 + (IntKind.i64.wrap (a6 - 1)).toNat) default)).set (0 + (IntKind.i64.wrap (a6 - 1)).toNat) (a1.2.2.getD (0 + a6.toNat) default)))) (fun (x : Empty) s => False) (fun (a32 : Int × (List Time)) => ⟨[(0, .c (oC 5000 3 a32.2)), (1, cD (i6 p1)), (2, cD (i6 p2)), (3, cD (.fn 20 [])), (9, cD (i6 a6)), (10, cD (i6 a1.2.1)), (11, cD (i6 a32.1))], [(5000, vL 3 encTime a32.2)]⟩) (fun (a32 : Int × (List Time)) => ⟨[(0, .c (oC 5000 3 a32.2)), (1, cD (i6 p1)), (2, cD (i6 p2)), (3, cD (.fn 20 [])), (9, cD (i6 a6)), (10, cD (i6 a1.2.1))], [(5000, vL 3 encTime a32.2)]⟩) h ?_ ?_ ?_
           ·intro a32 c h
            show Tri _ _ ⟨[(0, .c (oC 5000 3 a32.2)), (1, cD (i6 p1)), (2, cD (i6 p2)), (3, cD (.fn 20 [])), (9, cD (i6 a6)), (10, cD (i6 a1.2.1)), (11, cD (i6 a32.1))], [(5000, vL 3 encTime a32.2)]⟩ _
            refine Tri.seqS ?_
            refine Tri.seqS ?_
            refine Tri.reg ?_
            refine At.seg 2 [0, 1, 2, 3, 9, 10, 11, 69] [5000] (s' := ⟨[(0, .c (oC 5000 3 a32.2)), (1, cD (i6 p1)), (2, cD (i6 p2)), (3, cD (.fn 20 [])), (9, cD (i6 a6)), (10, cD (i6 a1.2.1)), (11, cD (i6 a32.1)), (69, cD (.bool (decide (1 ≤ a32.1))))], [(5000, vL 3 encTime a32.2)]⟩) (c := True ∧ True ∧ True) (by kernel_rfl) ⟨trivial, trivial, trivial⟩ ?_
            refine At.done rfl ?_
            show Tri _ _ _ _
            refine Tri.condP (b := (decide (1 ≤ a32.1))) rfl h (fun h => ?_) (fun h => ?_)
            ·refine Tri.skip ?_
             show Tri _ _ _ _
             refine Tri.seqS ?_
             refine Tri.blockB ?_
             refine Tri.seqS ?_
             refine Tri.seqS ?_
             obtain ⟨hc34, h⟩ := need_elim h
             obtain ⟨hc35, h⟩ := need_elim h
             obtain ⟨hc36, h⟩ := need_elim h
             obtain ⟨hc37, h⟩ := need_elim h
             obtain ⟨r38, hr38, h⟩ := bind_elim h
             refine Tri.drawn (specs := [⟨⟨[(3, cD (.fn 20 []))], []⟩, ⟨[(72, cD (.fn 20 []))], []⟩, [], [], []⟩, ⟨⟨[(0, .c (oC 5000 3 a32.2))], []⟩, ⟨[(73, .c (oC 5000 3 a32.2))], []⟩, [], [], []⟩, ⟨⟨[(11, cD (i6 a32.1))], []⟩, ⟨[(74, cD (i6 a32.1))], []⟩, [], [], []⟩, ⟨⟨[(73, .c (oC 5000 3 a32.2)), (74, cD (i6 a32.1))], [(5000, vL 3 encTime a32.2)]⟩, ⟨[(75, .c (.vptr 5000 3 (0 + a32.1.toNat) 0))], []⟩, [], [], []⟩, ⟨⟨[(75, .c (.vptr 5000 3 (0 + a32.1.toNat) 0))], [(5000, vL 3 encTime a32.2)]⟩, ⟨[(76, .agg (cTime (a32.2.getD (0 + a32.1.toNat) default)))], []⟩, [], [], []⟩, ⟨⟨[(0, .c (oC 5000 3 a32.2))], []⟩, ⟨[(77, .c (oC 5000 3 a32.2))], []⟩, [], [], []⟩, ⟨⟨[(11, cD (i6 a32.1))], []⟩, ⟨[(78, cD (i6 a32.1))], []⟩, [], [], []⟩, ⟨⟨[(78, cD (i6 a32.1))], []⟩, ⟨[(79, cD (i6 (IntKind.i64.wrap (a32.1 - 1))))], []⟩, [], [], []⟩, ⟨⟨[(77, .c (oC 5000 3 a32.2)), (79, cD (i6 (IntKind.i64.wrap (a32.1 - 1))))], [(5000, vL 3 encTime a32.2)]⟩, ⟨[(80, .c (.vptr 5000 3 (0 + (IntKind.i64.wrap (a32.1 - 1)).toNat) 0))], []⟩, [], [], []⟩, ⟨⟨[(80, .c (.vptr 5000 3 (0 + (IntKind.i64.wrap (a32.1 - 1)).toNat) 0))], [(5000, vL 3 encTime a32.2)]⟩, ⟨[(81, .agg (cTime (a32.2.getD (0 + (IntKind.i64.wrap (a32.1 - 1)).toNat) default)))], []⟩, [], [], []⟩, ⟨⟨[(72, cD (.fn 20 [])), (76, .agg (cTime (a32.2.getD (0 + a32.1.toNat) default))), (81, .agg (cTime (a32.2.getD (0 + (IntKind.i64.wrap (a32.1 - 1)).toNat) default)))], []⟩, ⟨[(82, cD (i6 r38))], []⟩, [], [], []⟩, ⟨⟨[(82, cD (i6 r38))], []⟩, ⟨[(83, cD (.bool (decide (r38 < 0))))], []⟩, [], [], []⟩, ⟨⟨[(83, cD (.bool (decide (r38 < 0))))], []⟩, ⟨[(84, cD (.bool (!(decide (r38 < 0)))))], []⟩, [], [], []⟩]) (bef := [[], [], [], [1, 2], [1, 2, 3], [], [], [6], [5, 6, 7], [5, 6, 7, 8], [0, 1, 2, 3, 4, 5, 6, 7, 8, 9], [0, 1, 2, 3, 4, 5, 6, 7, 8, 9, 10], [0, 1, 2, 3, 4, 5, 6, 7, 8, 9, 10, 11]]) (tk := [0, 1, 2, 3, 9, 10, 11, 84]) (sk := [5000]) (s' := ⟨[(0, .c (oC 5000 3 a32.2)), (1, cD (i6 p1)), (2, cD (i6 p2)), (3, cD (.fn 20 [])), (9, cD (i6 a6)), (10, cD (i6 a1.2.1)), (11, cD (i6 a32.1)), (84, cD (.bool (!(decide (r38 < 0)))))], [(5000, vL 3 encTime a32.2)]⟩) (by kernel_rfl) (by kernel_rfl) (by kernel_rfl) ⟨?_, ?_, ?_, ?_, ?_, ?_, ?_, ?_, ?_, ?_, ?_, ?_, ?_, trivial⟩ (by kernel_rfl) ?_
             · exact DOk.t rfl rfl (by kernel_rfl) (by kernel_rfl)
             · exact DOk.t rfl rfl (by kernel_rfl) (by kernel_rfl)
             · exact DOk.t rfl rfl (by kernel_rfl) (by kernel_rfl)
             · exact DOk.step (.val (.c (.vptr 5000 3 (0 + a32.1.toNat) 0)) ((0 : Int) ≤ a32.1 ∧ a32.1 < (a32.2.length : Int))) (fun r => by kernel_rfl) (fun r => by kernel_rfl) hc34 (by kernel_rfl) (by kernel_rfl) (fun r => rfl)
             · exact DOk.step (.val (.agg (cTime (a32.2.getD (0 + a32.1.toNat) default))) ((0 + a32.1.toNat) < a32.2.length)) (fun r => by kernel_rfl) (fun r => by kernel_rfl) hc35 (by kernel_rfl) (by kernel_rfl) (fun r => rfl)
             · exact DOk.t rfl rfl (by kernel_rfl) (by kernel_rfl)
             · exact DOk.t rfl rfl (by kernel_rfl) (by kernel_rfl)
             · exact DOk.t rfl rfl (by kernel_rfl) (by kernel_rfl)
             · exact DOk.step (.val (.c (.vptr 5000 3 (0 + (IntKind.i64.wrap (a32.1 - 1)).toNat) 0)) ((0 : Int) ≤ (IntKind.i64.wrap (a32.1 - 1)) ∧ (IntKind.i64.wrap (a32.1 - 1)) < (a32.2.length : Int))) (fun r => by kernel_rfl) (fun r => by kernel_rfl) hc36 (by kernel_rfl) (by kernel_rfl) (fun r => rfl)
             · exact DOk.step (.val (.agg (cTime (a32.2.getD (0 + (IntKind.i64.wrap (a32.1 - 1)).toNat) default))) ((0 + (IntKind.i64.wrap (a32.1 - 1)).toNat) < a32.2.length)) (fun r => by kernel_rfl) (fun r => by kernel_rfl) hc37 (by kernel_rfl) (by kernel_rfl) (fun r => rfl)
             · exact DOk.callA (caps := []) (xs := [.agg (cTime (a32.2.getD (0 + a32.1.toNat) default)), .agg (cTime (a32.2.getD (0 + (IntKind.i64.wrap (a32.1 - 1)).toNat) default))]) (moment_Compare_ok hr38) rfl (fun r => by kernel_rfl) rfl (fun r => by kernel_rfl) (fun r => by kernel_rfl) (fun r => (.cons (.refl _) (.cons (.refl _) .nil))) rfl rfl (fun r => rfl)
             · exact DOk.t rfl rfl (by kernel_rfl) (by kernel_rfl)
             · exact DOk.t rfl rfl (by kernel_rfl) (by kernel_rfl)
             show Tri _ _ _ _
             refine Tri.condP (b := (!(decide (r38 < 0)))) rfl h (fun h => ?_) (fun h => ?_)
             ·refine Tri.keep [0, 1, 2, 3, 9, 10] [5000] (s' := ⟨[(0, .c (oC 5000 3 a32.2)), (1, cD (i6 p1)), (2, cD (i6 p2)), (3, cD (.fn 20 [])), (9, cD (i6 a6)), (10, cD (i6 a1.2.1))], [(5000, vL 3 encTime a32.2)]⟩) (by kernel_rfl) ?_
              refine Tri.exit ?_
              cases h
              exact ⟨rfl, rfl⟩
             ·refine Tri.skip ?_
              show Tri _ _ _ _
              obtain ⟨hc39, h⟩ := need_elim h
              obtain ⟨hc40, h⟩ := need_elim h
              obtain ⟨hc41, h⟩ := need_elim h
              obtain ⟨hc42, h⟩ := need_elim h
              obtain ⟨hc43, h⟩ := need_elim h
              obtain ⟨hc44, h⟩ := need_elim h
              obtain ⟨hc45, h⟩ := need_elim h
              obtain ⟨hc46, h⟩ := need_elim h
              refine Tri.afterA ⟨[(0, .c (oC 5000 3 a32.2)), (1, cD (i6 p1)), (2, cD (i6 p2)), (3, cD (.fn 20 [])), (9, cD (i6 a6)), (10, cD (i6 a1.2.1)), (11, cD (i6 a32.1))], [(5000, vL 3 encTime ((a32.2.set (0 + a32.1.toNat) (a32.2.getD (0 + (IntKind.i64.wrap (a32.1 - 1)).toNat) default)).set (0 + (IntKind.i64.wrap (a32.1 - 1)).toNat) (a32.2.getD (0 + a32.1.toNat) default)))]⟩ ?_ ?_
              ·refine Tri.drawn (specs := [⟨⟨[(0, .c (oC 5000 3 a32.2))], []⟩, ⟨[(85, .c (oC 5000 3 a32.2))], []⟩, [], [], []⟩, ⟨⟨[(11, cD (i6 a32.1))], []⟩, ⟨[(86, cD (i6 a32.1))], []⟩, [], [], []⟩, ⟨⟨[(0, .c (oC 5000 3 a32.2))], []⟩, ⟨[(87, .c (oC 5000 3 a32.2))], []⟩, [], [], []⟩, ⟨⟨[(11, cD (i6 a32.1))], []⟩, ⟨[(88, cD (i6 a32.1))], []⟩, [], [], []⟩, ⟨⟨[(88, cD (i6 a32.1))], []⟩, ⟨[(89, cD (i6 (IntKind.i64.wrap (a32.1 - 1))))], []⟩, [], [], []⟩, ⟨⟨[(0, .c (oC 5000 3 a32.2))], []⟩, ⟨[(90, .c (oC 5000 3 a32.2))], []⟩, [], [], []⟩, ⟨⟨[(11, cD (i6 a32.1))], []⟩, ⟨[(91, cD (i6 a32.1))], []⟩, [], [], []⟩, ⟨⟨[(91, cD (i6 a32.1))], []⟩, ⟨[(92, cD (i6 (IntKind.i64.wrap (a32.1 - 1))))], []⟩, [], [], []⟩, ⟨⟨[(90, .c (oC 5000 3 a32.2)), (92, cD (i6 (IntKind.i64.wrap (a32.1 - 1))))], [(5000, vL 3 encTime a32.2)]⟩, ⟨[(93, .c (.vptr 5000 3 (0 + (IntKind.i64.wrap (a32.1 - 1)).toNat) 0))], []⟩, [], [], []⟩, ⟨⟨[(93, .c (.vptr 5000 3 (0 + (IntKind.i64.wrap (a32.1 - 1)).toNat) 0))], [(5000, vL 3 encTime a32.2)]⟩, ⟨[(94, .agg (cTime (a32.2.getD (0 + (IntKind.i64.wrap (a32.1 - 1)).toNat) default)))], []⟩, [], [], []⟩, ⟨⟨[(0, .c (oC 5000 3 a32.2))], []⟩, ⟨[(95, .c (oC 5000 3 a32.2))], []⟩, [], [], []⟩, ⟨⟨[(11, cD (i6 a32.1))], []⟩, ⟨[(96, cD (i6 a32.1))], []⟩, [], [], []⟩, ⟨⟨[(95, .c (oC 5000 3 a32.2)), (96, cD (i6 a32.1))], [(5000, vL 3 encTime a32.2)]⟩, ⟨[(97, .c (.vptr 5000 3 (0 + a32.1.toNat) 0))], []⟩, [], [], []⟩, ⟨⟨[(97, .c (.vptr 5000 3 (0 + a32.1.toNat) 0))], [(5000, vL 3 encTime a32.2)]⟩, ⟨[(98, .agg (cTime (a32.2.getD (0 + a32.1.toNat) default)))], []⟩, [], [], []⟩, ⟨⟨[(85, .c (oC 5000 3 a32.2)), (86, cD (i6 a32.1))], [(5000, vL 3 encTime a32.2)]⟩, ⟨[(99, .c (.vptr 5000 3 (0 + a32.1.toNat) 0))], []⟩, [], [], []⟩, ⟨⟨[(94, .agg (cTime (a32.2.getD (0 + (IntKind.i64.wrap (a32.1 - 1)).toNat) default))), (99, .c (.vptr 5000 3 (0 + a32.1.toNat) 0))], [(5000, vL 3 encTime a32.2)]⟩, ⟨[], [(5000, vL 3 encTime (a32.2.set (0 + a32.1.toNat) (a32.2.getD (0 + (IntKind.i64.wrap (a32.1 - 1)).toNat) default)))]⟩, [], [], []⟩, ⟨⟨[(87, .c (oC 5000 3 a32.2)), (89, cD (i6 (IntKind.i64.wrap (a32.1 - 1))))], [(5000, vL 3 encTime (a32.2.set (0 + a32.1.toNat) (a32.2.getD (0 + (IntKind.i64.wrap (a32.1 - 1)).toNat) default)))]⟩, ⟨[(100, .c (.vptr 5000 3 (0 + (IntKind.i64.wrap (a32.1 - 1)).toNat) 0))], []⟩, [], [], []⟩, ⟨⟨[(98, .agg (cTime (a32.2.getD (0 + a32.1.toNat) default))), (100, .c (.vptr 5000 3 (0 + (IntKind.i64.wrap (a32.1 - 1)).toNat) 0))], [(5000, vL 3 encTime (a32.2.set (0 + a32.1.toNat) (a32.2.getD (0 + (IntKind.i64.wrap (a32.1 - 1)).toNat) default)))]⟩, ⟨[], [(5000, vL 3 encTime ((a32.2.set (0 + a32.1.toNat) (a32.2.getD (0 + (IntKind.i64.wrap (a32.1 - 1)).toNat) default)).set (0 + (IntKind.i64.wrap (a32.1 - 1)).toNat) (a32.2.getD (0 + a32.1.toNat) default)))]⟩, [], [], []⟩]) (bef := [[], [], [], [], [3], [], [], [6], [5, 6, 7], [5, 6, 7, 8], [], [], [10, 11], [10, 11, 12], [0, 1, 5, 6, 7, 8, 9, 10, 11, 12, 13], [0, 1, 5, 6, 7, 8, 9, 10, 11, 12, 13, 14], [0, 1, 2, 3, 4, 5, 6, 7, 8, 9, 10, 11, 12, 13, 14, 15], [0, 1, 2, 3, 4, 5, 6, 7, 8, 9, 10, 11, 12, 13, 14, 15, 16]]) (tk := [0, 1, 2, 3, 9, 10, 11]) (sk := [5000]) (s' := ⟨[(0, .c (oC 5000 3 a32.2)), (1, cD (i6 p1)), (2, cD (i6 p2)), (3, cD (.fn 20 [])), (9, cD (i6 a6)), (10, cD (i6 a1.2.1)), (11, cD (i6 a32.1))], [(5000, vL 3 encTime ((a32.2.set (0 + a32.1.toNat) (a32.2.getD (0 + (IntKind.i64.wrap (a32.1 - 1)).toNat) default)).set (0 + (IntKind.i64.wrap (a32.1 - 1)).toNat) (a32.2.getD (0 + a32.1.toNat) default)))]⟩) (by kernel_rfl) (by kernel_rfl) (by kernel_rfl) ⟨?_, ?_, ?_, ?_, ?_, ?_, ?_, ?_, ?_, ?_, ?_, ?_, ?_, ?_, ?_, ?_, ?_, ?_, trivial⟩ (by kernel_rfl) ?_
               · exact DOk.t rfl rfl (by kernel_rfl) (by kernel_rfl)
               · exact DOk.t rfl rfl (by kernel_rfl) (by kernel_rfl)
               · exact DOk.t rfl rfl (by kernel_rfl) (by kernel_rfl)
               · exact DOk.t rfl rfl (by kernel_rfl) (by kernel_rfl)
               · exact DOk.t rfl rfl (by kernel_rfl) (by kernel_rfl)
               · exact DOk.t rfl rfl (by kernel_rfl) (by kernel_rfl)
               · exact DOk.t rfl rfl (by kernel_rfl) (by kernel_rfl)
               · exact DOk.t rfl rfl (by kernel_rfl) (by kernel_rfl)
               · exact DOk.step (.val (.c (.vptr 5000 3 (0 + (IntKind.i64.wrap (a32.1 - 1)).toNat) 0)) ((0 : Int) ≤ (IntKind.i64.wrap (a32.1 - 1)) ∧ (IntKind.i64.wrap (a32.1 - 1)) < (a32.2.length : Int))) (fun r => by kernel_rfl) (fun r => by kernel_rfl) hc39 (by kernel_rfl) (by kernel_rfl) (fun r => rfl)
               · exact DOk.step (.val (.agg (cTime (a32.2.getD (0 + (IntKind.i64.wrap (a32.1 - 1)).toNat) default))) ((0 + (IntKind.i64.wrap (a32.1 - 1)).toNat) < a32.2.length)) (fun r => by kernel_rfl) (fun r => by kernel_rfl) hc40 (by kernel_rfl) (by kernel_rfl) (fun r => rfl)
               · exact DOk.t rfl rfl (by kernel_rfl) (by kernel_rfl)
               · exact DOk.t rfl rfl (by kernel_rfl) (by kernel_rfl)
               · exact DOk.step (.val (.c (.vptr 5000 3 (0 + a32.1.toNat) 0)) ((0 : Int) ≤ a32.1 ∧ a32.1 < (a32.2.length : Int))) (fun r => by kernel_rfl) (fun r => by kernel_rfl) hc41 (by kernel_rfl) (by kernel_rfl) (fun r => rfl)
               · exact DOk.step (.val (.agg (cTime (a32.2.getD (0 + a32.1.toNat) default))) ((0 + a32.1.toNat) < a32.2.length)) (fun r => by kernel_rfl) (fun r => by kernel_rfl) hc42 (by kernel_rfl) (by kernel_rfl) (fun r => rfl)
               · exact DOk.step (.val (.c (.vptr 5000 3 (0 + a32.1.toNat) 0)) ((0 : Int) ≤ a32.1 ∧ a32.1 < (a32.2.length : Int))) (fun r => by kernel_rfl) (fun r => by kernel_rfl) hc43 (by kernel_rfl) (by kernel_rfl) (fun r => rfl)
               · exact DOk.one fun r hr => One.storeT (xs := [.d (u6 ((a32.2.getD (0 + (IntKind.i64.wrap (a32.1 - 1)).toNat) default).epoch)), .d (u6 ((a32.2.getD (0 + (IntKind.i64.wrap (a32.1 - 1)).toNat) default).loop.1)), .d (u6 ((a32.2.getD (0 + (IntKind.i64.wrap (a32.1 - 1)).toNat) default).loop.2))]) (ds := [u6 ((a32.2.getD (0 + (IntKind.i64.wrap (a32.1 - 1)).toNat) default).epoch), u6 ((a32.2.getD (0 + (IntKind.i64.wrap (a32.1 - 1)).toNat) default).loop.1), u6 ((a32.2.getD (0 + (IntKind.i64.wrap (a32.1 - 1)).toNat) default).loop.2)]) (encTime) a32.2 (a32.2.getD (0 + (IntKind.i64.wrap (a32.1 - 1)).toNat) default) rfl (by kernel_rfl) rfl rfl rfl hc44 rfl rfl (.refl _) rfl rfl rfl rfl
               · exact DOk.step (.val (.c (.vptr 5000 3 (0 + (IntKind.i64.wrap (a32.1 - 1)).toNat) 0)) ((0 : Int) ≤ (IntKind.i64.wrap (a32.1 - 1)) ∧ (IntKind.i64.wrap (a32.1 - 1)) < (a32.2.length : Int))) (fun r => by kernel_rfl) (fun r => by kernel_rfl) hc45 (by kernel_rfl) (by kernel_rfl) (fun r => rfl)
               · exact DOk.one fun r hr => One.storeT (xs := [.d (u6 ((a32.2.getD (0 + a32.1.toNat) default).epoch)), .d (u6 ((a32.2.getD (0 + a32.1.toNat) default).loop.1)), .d (u6 ((a32.2.getD (0 + a32.1.toNat) default).loop.2))]) (ds := [u6 ((a32.2.getD (0 + a32.1.toNat) default).epoch), u6 ((a32.2.getD (0 + a32.1.toNat) default).loop.1), u6 ((a32.2.getD (0 + a32.1.toNat) default).loop.2)]) (encTime) (a32.2.set (0 + a32.1.toNat) (a32.2.getD (0 + (IntKind.i64.wrap (a32.1 - 1)).toNat) default)) (a32.2.getD (0 + a32.1.toNat) default) rfl (by kernel_rfl) rfl rfl rfl hc46 rfl rfl (.refl _) rfl rfl rfl rfl
               exact ⟨rfl, rfl⟩
              ·refine At.eqS (s' := ⟨[(0, .c (oC 5000 3 ((a32.2.set (0 + a32.1.toNat) (a32.2.getD (0 + (IntKind.i64.wrap (a32.1 - 1)).toNat) default)).set (0 + (IntKind.i64.wrap (a32.1 - 1)).toNat) (a32.2.getD (0 + a32.1.toNat) default)))), (1, cD (i6 p1)), (2, cD (i6 p2)), (3, cD (.fn 20 [])), (9, cD (i6 a6)), (10, cD (i6 a1.2.1)), (11, cD (i6 a32.1))], [(5000, vL 3 encTime ((a32.2.set (0 + a32.1.toNat) (a32.2.getD (0 + (IntKind.i64.wrap (a32.1 - 1)).toNat) default)).set (0 + (IntKind.i64.wrap (a32.1 - 1)).toNat) (a32.2.getD (0 + a32.1.toNat) default)))]⟩) (by simp only [oC, vL, List.length_set]) ?_
               refine At.done rfl ?_
               show Tri _ _ _ _
               refine Tri.reg ?_
               refine At.seg 3 [0, 1, 2, 3, 9, 10, 11] [5000] (s' := ⟨[(0, .c (oC 5000 3 ((a32.2.set (0 + a32.1.toNat) (a32.2.getD (0 + (IntKind.i64.wrap (a32.1 - 1)).toNat) default)).set (0 + (IntKind.i64.wrap (a32.1 - 1)).toNat) (a32.2.getD (0 + a32.1.toNat) default)))), (1, cD (i6 p1)), (2, cD (i6 p2)), (3, cD (.fn 20 [])), (9, cD (i6 a6)), (10, cD (i6 a1.2.1)), (11, cD (i6 (IntKind.i64.wrap (a32.1 - 1))))], [(5000, vL 3 encTime ((a32.2.set (0 + a32.1.toNat) (a32.2.getD (0 + (IntKind.i64.wrap (a32.1 - 1)).toNat) default)).set (0 + (IntKind.i64.wrap (a32.1 - 1)).toNat) (a32.2.getD (0 + a32.1.toNat) default)))]⟩) (c := True ∧ True ∧ True ∧ True) (by kernel_rfl) ⟨trivial, trivial, trivial, trivial⟩ ?_
               refine At.done rfl ?_
               cases h
               exact rfl
            ·refine Tri.keep [0, 1, 2, 3, 9, 10] [5000] (s' := ⟨[(0, .c (oC 5000 3 a32.2)), (1, cD (i6 p1)), (2, cD (i6 p2)), (3, cD (.fn 20 [])), (9, cD (i6 a6)), (10, cD (i6 a1.2.1))], [(5000, vL 3 encTime a32.2)]⟩) (by kernel_rfl) ?_
             refine Tri.exit ?_
             cases h
             exact ⟨rfl, rfl⟩
           ·intro a33 h
            exact ⟨_, h, rfl⟩
           · exact fun x => x.elim
          ·refine Tri.keep [0, 1, 2, 3, 9, 10] [5000] (s' := ⟨[(0, .c (oC 5000 3 ((a1.2.2.set (0 + a6.toNat) (a1.2.2.getD (0 + (IntKind.i64.wrap (a6 - 1)).toNat) default)).set (0 + (IntKind.i64.wrap (a6 - 1)).toNat) (a1.2.2.getD (0 + a6.toNat) default)))), (1, cD (i6 p1)), (2, cD (i6 p2)), (3, cD (.fn 20 [])), (9, cD (i6 a6)), (10, cD (i6 a1.2.1))], [(5000, vL 3 encTime ((a1.2.2.set (0 + a6.toNat) (a1.2.2.getD (0 + (IntKind.i64.wrap (a6 - 1)).toNat) default)).set (0 + (IntKind.i64.wrap (a6 - 1)).toNat) (a1.2.2.getD (0 + a6.toNat) default)))]⟩) (by kernel_rfl) ?_
           refine Tri.skip ?_
           exact ⟨_, h, rfl⟩
     · exact fun x => x.elim
   ·refine Tri.keep [0, 1, 2, 3, 9, 10] [5000] (s' := ⟨[(0, .c (oC 5000 3 a1.2.2)), (1, cD (i6 p1)), (2, cD (i6 p2)), (3, cD (.fn 20 [])), (9, cD (i6 a1.1)), (10, cD (i6 a1.2.1))], [(5000, vL 3 encTime a1.2.2)]⟩) (by kernel_rfl) ?_
    refine Tri.exit ?_
    cases h
    exact ⟨rfl, rfl⟩
  ·intro a2 h
   show Tri _ _ _ _
   refine Tri.seqS ?_
   refine Tri.reg ?_
   refine At.seg 1 [8] [5000] (s' := ⟨[(8, cD (.bool false))], [(5000, vL 3 encTime a2.2.2)]⟩) (c := True ∧ True) (by kernel_rfl) ⟨trivial, trivial⟩ ?_
   refine At.done rfl ?_
   show Tri _ _ _ _
   refine Tri.keep [8] [5000] (s' := ⟨[(8, cD (.bool false))], [(5000, vL 3 encTime a2.2.2)]⟩) (by kernel_rfl) ?_
   refine Tri.ret ?_
   cases h
   refine ⟨_, _, rfl, ⟨trivial, trivial⟩, rfl, rfl, ?_⟩
   exact SubS.out ⟨⟨rfl, rfl⟩, trivial⟩
  · exact fun x s hx hr => by cases hx; exact hr

set_option maxRecDepth 100000 in
theorem slices_partitionEqualCmpFunc_Time__Compare_w_ok {fuel : Nat} {p1 : Int} {p2 : Int} {p3 : Int} {l0 : List Time} {q : Int × (List Time)} (h : slices_partitionEqualCmpFunc_Time__Compare_w fuel p1 p2 p3 l0 = some q) :
    Summ Try.prog 55 [.c (oC 5000 3 l0), cD (i6 p1), cD (i6 p2), cD (i6 p3), cD (.fn 20 [])] [(5000, vL 3 encTime l0)] (cD (i6 q.1)) [(5000, vL 3 encTime q.2)] := by
  refine Summ.intro Try.func55 rfl (by kernel_rfl) (by kernel_rfl) [] rfl ?_
  rintro ⟨P, w0, G0, V, LL, lk, N, φ0, fx⟩ rfl rfl rfl rfl
  unfold slices_partitionEqualCmpFunc_Time__Compare_w at h
  refine Tri.seqS ?_
  refine Tri.reg ?_
  refine At.seg 1 [0, 1, 2, 3, 4] [5000] (s' := ⟨[(0, .c (oC 5000 3 l0)), (1, cD (i6 p1)), (2, cD (i6 p2)), (3, cD (i6 p3)), (4, cD (.fn 20 []))], [(5000, vL 3 encTime l0)]⟩) (c := True ∧ True) (by kernel_rfl) ⟨trivial, trivial⟩ ?_
  refine At.done rfl ?_
  show Tri _ _ _ _
  refine Tri.seqS ?_
  obtain ⟨hc1, h⟩ := need_elim h
  obtain ⟨hc2, h⟩ := need_elim h
  obtain ⟨hc3, h⟩ := need_elim h
  obtain ⟨hc4, h⟩ := need_elim h
  obtain ⟨hc5, h⟩ := need_elim h
  obtain ⟨hc6, h⟩ := need_elim h
  obtain ⟨hc7, h⟩ := need_elim h
  obtain ⟨hc8, h⟩ := need_elim h
  refine Tri.afterA ⟨[(0, .c (oC 5000 3 l0)), (1, cD (i6 p1)), (2, cD (i6 p2)), (4, cD (.fn 20 []))], [(5000, vL 3 encTime ((l0.set (0 + p1.toNat) (l0.getD (0 + p3.toNat) default)).set (0 + p3.toNat) (l0.getD (0 + p1.toNat) default)))]⟩ ?_ ?_
  ·refine Tri.drawn (specs := [⟨⟨[(0, .c (oC 5000 3 l0))], []⟩, ⟨[(13, .c (oC 5000 3 l0))], []⟩, [], [], []⟩, ⟨⟨[(1, cD (i6 p1))], []⟩, ⟨[(14, cD (i6 p1))], []⟩, [], [], []⟩, ⟨⟨[(0, .c (oC 5000 3 l0))], []⟩, ⟨[(15, .c (oC 5000 3 l0))], []⟩, [], [], []⟩, ⟨⟨[(3, cD (i6 p3))], []⟩, ⟨[(16, cD (i6 p3))], []⟩, [], [], []⟩, ⟨⟨[(0, .c (oC 5000 3 l0))], []⟩, ⟨[(17, .c (oC 5000 3 l0))], []⟩, [], [], []⟩, ⟨⟨[(3, cD (i6 p3))], []⟩, ⟨[(18, cD (i6 p3))], []⟩, [], [], []⟩, ⟨⟨[(17, .c (oC 5000 3 l0)), (18, cD (i6 p3))], [(5000, vL 3 encTime l0)]⟩, ⟨[(19, .c (.vptr 5000 3 (0 + p3.toNat) 0))], []⟩, [], [], []⟩, ⟨⟨[(19, .c (.vptr 5000 3 (0 + p3.toNat) 0))], [(5000, vL 3 encTime l0)]⟩, ⟨[(20, .agg (cTime (l0.getD (0 + p3.toNat) default)))], []⟩, [], [], []⟩, ⟨⟨[(0, .c (oC 5000 3 l0))], []⟩, ⟨[(21, .c (oC 5000 3 l0))], []⟩, [], [], []⟩, ⟨⟨[(1, cD (i6 p1))], []⟩, ⟨[(22, cD (i6 p1))], []⟩, [], [], []⟩, ⟨⟨[(21, .c (oC 5000 3 l0)), (22, cD (i6 p1))], [(5000, vL 3 encTime l0)]⟩, ⟨[(23, .c (.vptr 5000 3 (0 + p1.toNat) 0))], []⟩, [], [], []⟩, ⟨⟨[(23, .c (.vptr 5000 3 (0 + p1.toNat) 0))], [(5000, vL 3 encTime l0)]⟩, ⟨[(24, .agg (cTime (l0.getD (0 + p1.toNat) default)))], []⟩, [], [], []⟩, ⟨⟨[(13, .c (oC 5000 3 l0)), (14, cD (i6 p1))], [(5000, vL 3 encTime l0)]⟩, ⟨[(25, .c (.vptr 5000 3 (0 + p1.toNat) 0))], []⟩, [], [], []⟩, ⟨⟨[(20, .agg (cTime (l0.getD (0 + p3.toNat) default))), (25, .c (.vptr 5000 3 (0 + p1.toNat) 0))], [(5000, vL 3 encTime l0)]⟩, ⟨[], [(5000, vL 3 encTime (l0.set (0 + p1.toNat) (l0.getD (0 + p3.toNat) default)))]⟩, [], [], []⟩, ⟨⟨[(15, .c (oC 5000 3 l0)), (16, cD (i6 p3))], [(5000, vL 3 encTime (l0.set (0 + p1.toNat) (l0.getD (0 + p3.toNat) default)))]⟩, ⟨[(26, .c (.vptr 5000 3 (0 + p3.toNat) 0))], []⟩, [], [], []⟩, ⟨⟨[(24, .agg (cTime (l0.getD (0 + p1.toNat) default))), (26, .c (.vptr 5000 3 (0 + p3.toNat) 0))], [(5000, vL 3 encTime (l0.set (0 + p1.toNat) (l0.getD (0 + p3.toNat) default)))]⟩, ⟨[], [(5000, vL 3 encTime ((l0.set (0 + p1.toNat) (l0.getD (0 + p3.toNat) default)).set (0 + p3.toNat) (l0.getD (0 + p1.toNat) default)))]⟩, [], [], []⟩]) (bef := [[], [], [], [], [], [], [4, 5], [4, 5, 6], [], [], [8, 9], [8, 9, 10], [0, 1, 4, 5, 6, 7, 8, 9, 10, 11], [0, 1, 4, 5, 6, 7, 8, 9, 10, 11, 12], [0, 1, 2, 3, 4, 5, 6, 7, 8, 9, 10, 11, 12, 13], [0, 1, 2, 3, 4, 5, 6, 7, 8, 9, 10, 11, 12, 13, 14]]) (tk := [0, 1, 2, 4]) (sk := [5000]) (s' := ⟨[(0, .c (oC 5000 3 l0)), (1, cD (i6 p1)), (2, cD (i6 p2)), (4, cD (.fn 20 []))], [(5000, vL 3 encTime ((l0.set (0 + p1.toNat) (l0.getD (0 + p3.toNat) default)).set (0 + p3.toNat) (l0.getD (0 + p1.toNat) default)))]⟩) (by kernel_rfl) (by kernel_rfl) (by kernel_rfl) ⟨?_, ?_, ?_, ?_, ?_, ?_, ?_, ?_, ?_, ?_, ?_, ?_, ?_, ?_, ?_, ?_, trivial⟩ (by kernel_rfl) ?_
   · exact DOk.t rfl rfl (by kernel_rfl) (by kernel_rfl)
   · exact DOk.t rfl rfl (by kernel_rfl) (by kernel_rfl)
   · exact DOk.t rfl rfl (by kernel_rfl) (by kernel_rfl)
   · exact DOk.t rfl rfl (by kernel_rfl) (by kernel_rfl)
   · exact DOk.t rfl rfl (by kernel_rfl) (by kernel_rfl)
   · exact DOk.t rfl rfl (by kernel_rfl) (by kernel_rfl)
   · exact DOk.step (.val (.c (.vptr 5000 3 (0 + p3.toNat) 0)) ((0 : Int) ≤ p3 ∧ p3 < (l0.length : Int))) (fun r => by kernel_rfl) (fun r => by kernel_rfl) hc1 (by kernel_rfl) (by kernel_rfl) (fun r => rfl)
   · exact DOk.step (.val (.agg (cTime (l0.getD (0 + p3.toNat) default))) ((0 + p3.toNat) < l0.length)) (fun r => by kernel_rfl) (fun r => by kernel_rfl) hc2 (by kernel_rfl) (by kernel_rfl) (fun r => rfl)
   · exact DOk.t rfl rfl (by kernel_rfl) (by kernel_rfl)
   · exact DOk.t rfl rfl (by kernel_rfl) (by kernel_rfl)
   · exact DOk.step (.val (.c (.vptr 5000 3 (0 + p1.toNat) 0)) ((0 : Int) ≤ p1 ∧ p1 < (l0.length : Int))) (fun r => by kernel_rfl) (fun r => by kernel_rfl) hc3 (by kernel_rfl) (by kernel_rfl) (fun r => rfl)
   · exact DOk.step (.val (.agg (cTime (l0.getD (0 + p1.toNat) default))) ((0 + p1.toNat) < l0.length)) (fun r => by kernel_rfl) (fun r => by kernel_rfl) hc4 (by kernel_rfl) (by kernel_rfl) (fun r => rfl)
   · exact DOk.step (.val (.c (.vptr 5000 3 (0 + p1.toNat) 0)) ((0 : Int) ≤ p1 ∧ p1 < (l0.length : Int))) (fun r => by kernel_rfl) (fun r => by kernel_rfl) hc5 (by kernel_rfl) (by kernel_rfl) (fun r => rfl)
   · exact DOk.one fun r hr => One.storeT (xs := [.d (u6 ((l0.getD (0 + p3.toNat) default).epoch)), .d (u6 ((l0.getD (0 + p3.toNat) default).loop.1)), .d (u6 ((l0.getD (0 + p3.toNat) default).loop.2))]) (ds := [u6 ((l0.getD (0 + p3.toNat) default).epoch), u6 ((l0.getD (0 + p3.toNat) default).loop.1), u6 ((l0.getD (0 + p3.toNat) default).loop.2)]) (encTime) l0 (l0.getD (0 + p3.toNat) default) rfl (by kernel_rfl) rfl rfl rfl hc6 rfl rfl (.refl _) rfl rfl rfl rfl
   · exact DOk.step (.val (.c (.vptr 5000 3 (0 + p3.toNat) 0)) ((0 : Int) ≤ p3 ∧ p3 < (l0.length : Int))) (fun r => by kernel_rfl) (fun r => by kernel_rfl) hc7 (by kernel_rfl) (by kernel_rfl) (fun r => rfl)
   · exact DOk.one fun r hr => One.storeT (xs := [.d (u6 ((l0.getD (0 + p1.toNat) default).epoch)), .d (u6 ((l0.getD (0 + p1.toNat) default).loop.1)), .d (u6 ((l0.getD (0 + p1.toNat) default).loop.2))]) (ds := [u6 ((l0.getD (0 + p1.toNat) default).epoch), u6 ((l0.getD (0 + p1.toNat) default).loop.1), u6 ((l0.getD (0 + p1.toNat) default).loop.2)]) (encTime) (l0.set (0 + p1.toNat) (l0.getD (0 + p3.toNat) default)) (l0.getD (0 + p1.toNat) default) rfl (by kernel_rfl) rfl rfl rfl hc8 rfl rfl (.refl _) rfl rfl rfl rfl
   exact ⟨rfl, rfl⟩
  ·refine At.eqS (s' := ⟨[(0, .c (oC 5000 3 ((l0.set (0 + p1.toNat) (l0.getD (0 + p3.toNat) default)).set (0 + p3.toNat) (l0.getD (0 + p1.toNat) default)))), (1, cD (i6 p1)), (2, cD (i6 p2)), (4, cD (.fn 20 []))], [(5000, vL 3 encTime ((l0.set (0 + p1.toNat) (l0.getD (0 + p3.toNat) default)).set (0 + p3.toNat) (l0.getD (0 + p1.toNat) default)))]⟩) (by simp only [oC, vL, List.length_set]) ?_
   refine At.done rfl ?_
   show Tri _ _ _ _
   refine Tri.seqS ?_
   refine Tri.reg ?_
   refine At.seg 6 [0, 1, 4, 11, 12] [5000] (s' := ⟨[(0, .c (oC 5000 3 ((l0.set (0 + p1.toNat) (l0.getD (0 + p3.toNat) default)).set (0 + p3.toNat) (l0.getD (0 + p1.toNat) default)))), (1, cD (i6 p1)), (4, cD (.fn 20 [])), (11, cD (i6 (IntKind.i64.wrap (p1 + 1)))), (12, cD (i6 (IntKind.i64.wrap (p2 - 1))))], [(5000, vL 3 encTime ((l0.set (0 + p1.toNat) (l0.getD (0 + p3.toNat) default)).set (0 + p3.toNat) (l0.getD (0 + p1.toNat) default)))]⟩) (c := True ∧ True ∧ True ∧ True ∧ True ∧ True ∧ True) (by kernel_rfl) ⟨trivial, trivial, trivial, trivial, trivial, trivial, trivial⟩ ?_
   refine At.done rfl ?_
   show Tri _ _ _ _
   refine Tri.seqS ?_
   refine Tri.keep [0, 1, 4, 11, 12] [5000] (s' := ⟨[(0, .c (oC 5000 3 ((l0.set (0 + p1.toNat) (l0.getD (0 + p3.toNat) default)).set (0 + p3.toNat) (l0.getD (0 + p1.toNat) default)))), (1, cD (i6 p1)), (4, cD (.fn 20 [])), (11, cD (i6 (IntKind.i64.wrap (p1 + 1)))), (12, cD (i6 (IntKind.i64.wrap (p2 - 1))))], [(5000, vL 3 encTime ((l0.set (0 + p1.toNat) (l0.getD (0 + p3.toNat) default)).set (0 + p3.toNat) (l0.getD (0 + p1.toNat) default)))]⟩) (by kernel_rfl) ?_
   refine Tri.loopK (fuel := fuel) (st0 := ((IntKind.i64.wrap (p1 + 1)), (IntKind.i64.wrap (p2 - 1)), ((l0.set (0 + p1.toNat) (l0.getD (0 + p3.toNat) default)).set (0 + p3.toNat) (l0.getD (0 + p1.toNat) default)))) (fun (x : Empty) s => False) (fun (a9 : Int × Int × (List Time)) => ⟨[(0, .c (oC 5000 3 a9.2.2)), (1, cD (i6 p1)), (4, cD (.fn 20 [])), (11, cD (i6 a9.1)), (12, cD (i6 a9.2.1))], [(5000, vL 3 encTime a9.2.2)]⟩) (fun (a9 : Int × Int × (List Time)) => ⟨[(0, .c (oC 5000 3 a9.2.2)), (1, cD (i6 p1)), (4, cD (.fn 20 [])), (11, cD (i6 a9.1)), (12, cD (i6 a9.2.1))], [(5000, vL 3 encTime a9.2.2)]⟩) h ?_ ?_ ?_
   ·intro a9 c h
    show Tri _ _ ⟨[(0, .c (oC 5000 3 a9.2.2)), (1, cD (i6 p1)), (4, cD (.fn 20 [])), (11, cD (i6 a9.1)), (12, cD (i6 a9.2.1))], [(5000, vL 3 encTime a9.2.2)]⟩ _
    refine Tri.blockB ?_
    refine Tri.seqS ?_
    refine Tri.keep [0, 1, 4, 11, 12] [5000] (s' := ⟨[(0, .c (oC 5000 3 a9.2.2)), (1, cD (i6 p1)), (4, cD (.fn 20 [])), (11, cD (i6 a9.1)), (12, cD (i6 a9.2.1))], [(5000, vL 3 encTime a9.2.2)]⟩) (by kernel_rfl) ?_
    refine Tri.loopK (fuel := fuel) (st0 := a9.1) (fun (x : Empty) s => False) (fun (a11 : Int) => ⟨[(0, .c (oC 5000 3 a9.2.2)), (1, cD (i6 p1)), (4, cD (.fn 20 [])), (11, cD (i6 a11)), (12, cD (i6 a9.2.1))], [(5000, vL 3 encTime a9.2.2)]⟩) (fun (a11 : Int) => ⟨[(0, .c (oC 5000 3 a9.2.2)), (1, cD (i6 p1)), (4, cD (.fn 20 [])), (11, cD (i6 a11)), (12, cD (i6 a9.2.1))], [(5000, vL 3 encTime a9.2.2)]⟩) h ?_ ?_ ?_
    ·intro a11 c h
     show Tri _ _ ⟨[(0, .c (oC 5000 3 a9.2.2)), (1, cD (i6 p1)), (4, cD (.fn 20 [])), (11, cD (i6 a11)), (12, cD (i6 a9.2.1))], [(5000, vL 3 encTime a9.2.2)]⟩ _
     refine Tri.seqS ?_
     refine Tri.seqJ (fun (a31 : Bool) => ⟨[(0, .c (oC 5000 3 a9.2.2)), (1, cD (i6 p1)), (4, cD (.fn 20 [])), (11, cD (i6 a11)), (12, cD (i6 a9.2.1)), (47, cD (.bool a31))], [(5000, vL 3 encTime a9.2.2)]⟩) h (fun a31 h => ?_) (fun j32 h => ?_)
     ·show Tri _ _ ⟨[(0, .c (oC 5000 3 a9.2.2)), (1, cD (i6 p1)), (4, cD (.fn 20 [])), (11, cD (i6 a11)), (12, cD (i6 a9.2.1)), (47, cD (.bool a31))], [(5000, vL 3 encTime a9.2.2)]⟩ _
      refine Tri.condP (b := a31) rfl h (fun h => ?_) (fun h => ?_)
      ·refine Tri.skip ?_
       show Tri _ _ _ _
       refine Tri.blockB ?_
       refine Tri.reg ?_
       refine At.seg 3 [0, 1, 4, 11, 12] [5000] (s' := ⟨[(0, .c (oC 5000 3 a9.2.2)), (1, cD (i6 p1)), (4, cD (.fn 20 [])), (11, cD (i6 (IntKind.i64.wrap (a11 + 1)))), (12, cD (i6 a9.2.1))], [(5000, vL 3 encTime a9.2.2)]⟩) (c := True ∧ True ∧ True ∧ True) (by kernel_rfl) ⟨trivial, trivial, trivial, trivial⟩ ?_
       refine At.done rfl ?_
       cases h
       exact rfl
      ·refine Tri.keep [0, 1, 4, 11, 12] [5000] (s' := ⟨[(0, .c (oC 5000 3 a9.2.2)), (1, cD (i6 p1)), (4, cD (.fn 20 [])), (11, cD (i6 a11)), (12, cD (i6 a9.2.1))], [(5000, vL 3 encTime a9.2.2)]⟩) (by kernel_rfl) ?_
       refine Tri.exit ?_
       cases h
       exact ⟨rfl, rfl⟩
     ·rcases bf_cases h with ⟨hp33, h⟩ | ⟨hp33, h⟩
      ·obtain ⟨hc34, h⟩ := need_elim h
       obtain ⟨hc35, h⟩ := need_elim h
       obtain ⟨hc36, h⟩ := need_elim h
       obtain ⟨hc37, h⟩ := need_elim h
       obtain ⟨r38, hr38, h⟩ := bind_elim h
       refine Tri.drawn (specs := [⟨⟨[(11, cD (i6 a11))], []⟩, ⟨[(31, cD (i6 a11))], []⟩, [], [], []⟩, ⟨⟨[(12, cD (i6 a9.2.1))], []⟩, ⟨[(32, cD (i6 a9.2.1))], []⟩, [], [], []⟩, ⟨⟨[(31, cD (i6 a11)), (32, cD (i6 a9.2.1))], []⟩, ⟨[(33, cD (.bool (decide (a11 ≤ a9.2.1))))], []⟩, [], [], []⟩, ⟨⟨[(33, cD (.bool (decide (a11 ≤ a9.2.1))))], []⟩, ⟨[(34, .c (.d (.bool true)))], []⟩, [], [], []⟩, ⟨⟨[(4, cD (.fn 20 [])), (34, cD (.bool true))], []⟩, ⟨[(35, cD (.fn 20 []))], []⟩, [], [], []⟩, ⟨⟨[(0, .c (oC 5000 3 a9.2.2)), (34, cD (.bool true))], []⟩, ⟨[(36, .c (oC 5000 3 a9.2.2))], []⟩, [], [], []⟩, ⟨⟨[(1, cD (i6 p1)), (34, cD (.bool true))], []⟩, ⟨[(37, cD (i6 p1))], []⟩, [], [], []⟩, ⟨⟨[(34, cD (.bool true)), (36, .c (oC 5000 3 a9.2.2)), (37, cD (i6 p1))], [(5000, vL 3 encTime a9.2.2)]⟩, ⟨[(38, .c (.vptr 5000 3 (0 + p1.toNat) 0))], []⟩, [], [], []⟩, ⟨⟨[(34, cD (.bool true)), (38, .c (.vptr 5000 3 (0 + p1.toNat) 0))], [(5000, vL 3 encTime a9.2.2)]⟩, ⟨[(39, .agg (cTime (a9.2.2.getD (0 + p1.toNat) default)))], []⟩, [], [], []⟩, ⟨⟨[(0, .c (oC 5000 3 a9.2.2)), (34, cD (.bool true))], []⟩, ⟨[(40, .c (oC 5000 3 a9.2.2))], []⟩, [], [], []⟩, ⟨⟨[(11, cD (i6 a11)), (34, cD (.bool true))], []⟩, ⟨[(41, cD (i6 a11))], []⟩, [], [], []⟩, ⟨⟨[(34, cD (.bool true)), (40, .c (oC 5000 3 a9.2.2)), (41, cD (i6 a11))], [(5000, vL 3 encTime a9.2.2)]⟩, ⟨[(42, .c (.vptr 5000 3 (0 + a11.toNat) 0))], []⟩, [], [], []⟩, ⟨⟨[(34, cD (.bool true)), (42, .c (.vptr 5000 3 (0 + a11.toNat) 0))], [(5000, vL 3 encTime a9.2.2)]⟩, ⟨[(43, .agg (cTime (a9.2.2.getD (0 + a11.toNat) default)))], []⟩, [], [], []⟩, ⟨⟨[(34, cD (.bool true)), (35, cD (.fn 20 [])), (39, .agg (cTime (a9.2.2.getD (0 + p1.toNat) default))), (43, .agg (cTime (a9.2.2.getD (0 + a11.toNat) default)))], []⟩, ⟨[(44, cD (i6 r38))], []⟩, [], [], []⟩, ⟨⟨[(34, cD (.bool true)), (44, cD (i6 r38))], []⟩, ⟨[(45, cD (.bool (decide (r38 < 0))))], []⟩, [], [], []⟩, ⟨⟨[(34, cD (.bool true)), (45, cD (.bool (decide (r38 < 0))))], []⟩, ⟨[(46, cD (.bool (!(decide (r38 < 0)))))], []⟩, [], [], []⟩, ⟨⟨[(34, cD (.bool true)), (46, cD (.bool (!(decide (r38 < 0)))))], []⟩, ⟨[(47, cD (.bool (!(decide (r38 < 0)))))], []⟩, [], [], []⟩]) (bef := [[], [], [0, 1], [0, 1, 2], [0, 1, 2, 3], [0, 1, 2, 3], [0, 1, 2, 3], [0, 1, 2, 3, 5, 6], [0, 1, 2, 3, 5, 6, 7], [0, 1, 2, 3], [0, 1, 2, 3], [0, 1, 2, 3, 9, 10], [0, 1, 2, 3, 9, 10, 11], [0, 1, 2, 3, 4, 5, 6, 7, 8, 9, 10, 11, 12], [0, 1, 2, 3, 4, 5, 6, 7, 8, 9, 10, 11, 12, 13], [0, 1, 2, 3, 4, 5, 6, 7, 8, 9, 10, 11, 12, 13, 14], [0, 1, 2, 3, 4, 5, 6, 7, 8, 9, 10, 11, 12, 13, 14, 15]]) (tk := [0, 1, 4, 11, 12, 47]) (sk := [5000]) (s' := ⟨[(0, .c (oC 5000 3 a9.2.2)), (1, cD (i6 p1)), (4, cD (.fn 20 [])), (11, cD (i6 a11)), (12, cD (i6 a9.2.1)), (47, cD (.bool (!(decide (r38 < 0)))))], [(5000, vL 3 encTime a9.2.2)]⟩) (by kernel_rfl) (by kernel_rfl) (by kernel_rfl) ⟨?_, ?_, ?_, ?_, ?_, ?_, ?_, ?_, ?_, ?_, ?_, ?_, ?_, ?_, ?_, ?_, ?_, trivial⟩ (by kernel_rfl) ?_
       · exact DOk.t rfl rfl (by kernel_rfl) (by kernel_rfl)
       · exact DOk.t rfl rfl (by kernel_rfl) (by kernel_rfl)
       · exact DOk.t rfl rfl (by kernel_rfl) (by kernel_rfl)
       · exact DOk.stepP (fun b => .val (.c (.d (.bool b))) (True)) (p := (decide (a11 ≤ a9.2.1))) hp33 (fun r => by kernel_rfl) (fun r => by kernel_rfl) trivial (by kernel_rfl) (by kernel_rfl) (fun r => rfl)
       · exact DOk.t rfl rfl (by kernel_rfl) (by kernel_rfl)
       · exact DOk.t rfl rfl (by kernel_rfl) (by kernel_rfl)
       · exact DOk.t rfl rfl (by kernel_rfl) (by kernel_rfl)
       · exact DOk.step (.val (.c (.vptr 5000 3 (0 + p1.toNat) 0)) ((0 : Int) ≤ p1 ∧ p1 < (a9.2.2.length : Int))) (fun r => by kernel_rfl) (fun r => by kernel_rfl) hc34 (by kernel_rfl) (by kernel_rfl) (fun r => rfl)
       · exact DOk.step (.val (.agg (cTime (a9.2.2.getD (0 + p1.toNat) default))) ((0 + p1.toNat) < a9.2.2.length)) (fun r => by kernel_rfl) (fun r => by kernel_rfl) hc35 (by kernel_rfl) (by kernel_rfl) (fun r => rfl)
       · exact DOk.t rfl rfl (by kernel_rfl) (by kernel_rfl)
       · exact DOk.t rfl rfl (by kernel_rfl) (by kernel_rfl)
       · exact DOk.step (.val (.c (.vptr 5000 3 (0 + a11.toNat) 0)) ((0 : Int) ≤ a11 ∧ a11 < (a9.2.2.length : Int))) (fun r => by kernel_rfl) (fun r => by kernel_rfl) hc36 (by kernel_rfl) (by kernel_rfl) (fun r => rfl)
       · exact DOk.step (.val (.agg (cTime (a9.2.2.getD (0 + a11.toNat) default))) ((0 + a11.toNat) < a9.2.2.length)) (fun r => by kernel_rfl) (fun r => by kernel_rfl) hc37 (by kernel_rfl) (by kernel_rfl) (fun r => rfl)
       · exact DOk.callA (caps := []) (xs := [.agg (cTime (a9.2.2.getD (0 + p1.toNat) default)), .agg (cTime (a9.2.2.getD (0 + a11.toNat) default))]) (moment_Compare_ok hr38) rfl (fun r => by kernel_rfl) rfl (fun r => by kernel_rfl) (fun r => by kernel_rfl) (fun r => (.cons (.refl _) (.cons (.refl _) .nil))) rfl rfl (fun r => rfl)
       · exact DOk.t rfl rfl (by kernel_rfl) (by kernel_rfl)
       · exact DOk.t rfl rfl (by kernel_rfl) (by kernel_rfl)
       · exact DOk.t rfl rfl (by kernel_rfl) (by kernel_rfl)
       exact ⟨_, h, rfl⟩
      ·refine Tri.drawn (specs := [⟨⟨[(11, cD (i6 a11))], []⟩, ⟨[(31, cD (i6 a11))], []⟩, [], [], []⟩, ⟨⟨[(12, cD (i6 a9.2.1))], []⟩, ⟨[(32, cD (i6 a9.2.1))], []⟩, [], [], []⟩, ⟨⟨[(31, cD (i6 a11)), (32, cD (i6 a9.2.1))], []⟩, ⟨[(33, cD (.bool (decide (a11 ≤ a9.2.1))))], []⟩, [], [], []⟩, ⟨⟨[(33, cD (.bool (decide (a11 ≤ a9.2.1))))], []⟩, ⟨[(34, .c (.d (.bool false)))], []⟩, [], [], []⟩, ⟨⟨[(4, cD (.fn 20 [])), (34, cD (.bool false))], []⟩, ⟨[(35, .tup [])], []⟩, [], [], []⟩, ⟨⟨[(0, .c (oC 5000 3 a9.2.2)), (34, cD (.bool false))], []⟩, ⟨[(36, .tup [])], []⟩, [], [], []⟩, ⟨⟨[(1, cD (i6 p1)), (34, cD (.bool false))], []⟩, ⟨[(37, .tup [])], []⟩, [], [], []⟩, ⟨⟨[(34, cD (.bool false)), (36, .tup []), (37, .tup [])], []⟩, ⟨[(38, .tup [])], []⟩, [], [], []⟩, ⟨⟨[(34, cD (.bool false)), (38, .tup [])], []⟩, ⟨[(39, .tup [])], []⟩, [], [], []⟩, ⟨⟨[(0, .c (oC 5000 3 a9.2.2)), (34, cD (.bool false))], []⟩, ⟨[(40, .tup [])], []⟩, [], [], []⟩, ⟨⟨[(11, cD (i6 a11)), (34, cD (.bool false))], []⟩, ⟨[(41, .tup [])], []⟩, [], [], []⟩, ⟨⟨[(34, cD (.bool false)), (40, .tup []), (41, .tup [])], []⟩, ⟨[(42, .tup [])], []⟩, [], [], []⟩, ⟨⟨[(34, cD (.bool false)), (42, .tup [])], []⟩, ⟨[(43, .tup [])], []⟩, [], [], []⟩, ⟨⟨[(34, cD (.bool false)), (35, .tup []), (39, .tup []), (43, .tup [])], []⟩, ⟨[(44, .tup [])], []⟩, [], [], []⟩, ⟨⟨[(34, cD (.bool false)), (44, .tup [])], []⟩, ⟨[(45, .tup [])], []⟩, [], [], []⟩, ⟨⟨[(34, cD (.bool false)), (45, .tup [])], []⟩, ⟨[(46, .tup [])], []⟩, [], [], []⟩, ⟨⟨[(34, cD (.bool false)), (46, .tup [])], []⟩, ⟨[(47, cD (.bool false))], []⟩, [], [], []⟩]) (bef := [[], [], [0, 1], [0, 1, 2], [0, 1, 2, 3], [0, 1, 2, 3], [0, 1, 2, 3], [0, 1, 2, 3, 5, 6], [0, 1, 2, 3, 5, 6, 7], [0, 1, 2, 3], [0, 1, 2, 3], [0, 1, 2, 3, 9, 10], [0, 1, 2, 3, 9, 10, 11], [0, 1, 2, 3, 4, 5, 6, 7, 8, 9, 10, 11, 12], [0, 1, 2, 3, 4, 5, 6, 7, 8, 9, 10, 11, 12, 13], [0, 1, 2, 3, 4, 5, 6, 7, 8, 9, 10, 11, 12, 13, 14], [0, 1, 2, 3, 4, 5, 6, 7, 8, 9, 10, 11, 12, 13, 14, 15]]) (tk := [0, 1, 4, 11, 12, 47]) (sk := [5000]) (s' := ⟨[(0, .c (oC 5000 3 a9.2.2)), (1, cD (i6 p1)), (4, cD (.fn 20 [])), (11, cD (i6 a11)), (12, cD (i6 a9.2.1)), (47, cD (.bool false))], [(5000, vL 3 encTime a9.2.2)]⟩) (by kernel_rfl) (by kernel_rfl) (by kernel_rfl) ⟨?_, ?_, ?_, ?_, ?_, ?_, ?_, ?_, ?_, ?_, ?_, ?_, ?_, ?_, ?_, ?_, ?_, trivial⟩ (by kernel_rfl) ?_
       · exact DOk.t rfl rfl (by kernel_rfl) (by kernel_rfl)
       · exact DOk.t rfl rfl (by kernel_rfl) (by kernel_rfl)
       · exact DOk.t rfl rfl (by kernel_rfl) (by kernel_rfl)
       · exact DOk.stepP (fun b => .val (.c (.d (.bool b))) (True)) (p := (decide (a11 ≤ a9.2.1))) hp33 (fun r => by kernel_rfl) (fun r => by kernel_rfl) trivial (by kernel_rfl) (by kernel_rfl) (fun r => rfl)
       · exact DOk.skip (fun r => by kernel_rfl) rfl rfl (fun r => rfl)
       · exact DOk.skip (fun r => by kernel_rfl) rfl rfl (fun r => rfl)
       · exact DOk.skip (fun r => by kernel_rfl) rfl rfl (fun r => rfl)
       · exact DOk.skip (fun r => by kernel_rfl) rfl rfl (fun r => rfl)
       · exact DOk.skip (fun r => by kernel_rfl) rfl rfl (fun r => rfl)
       · exact DOk.skip (fun r => by kernel_rfl) rfl rfl (fun r => rfl)
       · exact DOk.skip (fun r => by kernel_rfl) rfl rfl (fun r => rfl)
       · exact DOk.skip (fun r => by kernel_rfl) rfl rfl (fun r => rfl)
       · exact DOk.skip (fun r => by kernel_rfl) rfl rfl (fun r => rfl)
       · exact DOk.skip (fun r => by kernel_rfl) rfl rfl (fun r => rfl)
       · exact DOk.skip (fun r => by kernel_rfl) rfl rfl (fun r => rfl)
       · exact DOk.skip (fun r => by kernel_rfl) rfl rfl (fun r => rfl)
       · exact DOk.t rfl rfl (by kernel_rfl) (by kernel_rfl)
       exact ⟨_, h, rfl⟩
    ·intro a12 h
     show Tri _ _ _ _
     refine Tri.seqS ?_
     refine Tri.keep [0, 1, 4, 11, 12] [5000] (s' := ⟨[(0, .c (oC 5000 3 a9.2.2)), (1, cD (i6 p1)), (4, cD (.fn 20 [])), (11, cD (i6 a12)), (12, cD (i6 a9.2.1))], [(5000, vL 3 encTime a9.2.2)]⟩) (by kernel_rfl) ?_
     refine Tri.loopK (fuel := fuel) (st0 := a9.2.1) (fun (x : Empty) s => False) (fun (a13 : Int) => ⟨[(0, .c (oC 5000 3 a9.2.2)), (1, cD (i6 p1)), (4, cD (.fn 20 [])), (11, cD (i6 a12)), (12, cD (i6 a13))], [(5000, vL 3 encTime a9.2.2)]⟩) (fun (a13 : Int) => ⟨[(0, .c (oC 5000 3 a9.2.2)), (1, cD (i6 p1)), (4, cD (.fn 20 [])), (11, cD (i6 a12)), (12, cD (i6 a13))], [(5000, vL 3 encTime a9.2.2)]⟩) h ?_ ?_ ?_
     ·intro a13 c h
      show Tri _ _ ⟨[(0, .c (oC 5000 3 a9.2.2)), (1, cD (i6 p1)), (4, cD (.fn 20 [])), (11, cD (i6 a12)), (12, cD (i6 a13))], [(5000, vL 3 encTime a9.2.2)]⟩ _
      refine Tri.seqS ?_
      refine Tri.seqJ (fun (a23 : Bool) => ⟨[(0, .c (oC 5000 3 a9.2.2)), (1, cD (i6 p1)), (4, cD (.fn 20 [])), (11, cD (i6 a12)), (12, cD (i6 a13)), (65, cD (.bool a23))], [(5000, vL 3 encTime a9.2.2)]⟩) h (fun a23 h => ?_) (fun j24 h => ?_)
      ·show Tri _ _ ⟨[(0, .c (oC 5000 3 a9.2.2)), (1, cD (i6 p1)), (4, cD (.fn 20 [])), (11, cD (i6 a12)), (12, cD (i6 a13)), (65, cD (.bool a23))], [(5000, vL 3 encTime a9.2.2)]⟩ _
       refine Tri.condP (b := a23) rfl h (fun h => ?_) (fun h => ?_)
       ·refine Tri.skip ?_
        show Tri _ _ _ _
        refine Tri.blockB ?_
        refine Tri.reg ?_
        refine At.seg 3 [0, 1, 4, 11, 12] [5000] (s' := ⟨[(0, .c (oC 5000 3 a9.2.2)), (1, cD (i6 p1)), (4, cD (.fn 20 [])), (11, cD (i6 a12)), (12, cD (i6 (IntKind.i64.wrap (a13 - 1))))], [(5000, vL 3 encTime a9.2.2)]⟩) (c := True ∧ True ∧ True ∧ True) (by kernel_rfl) ⟨trivial, trivial, trivial, trivial⟩ ?_
        refine At.done rfl ?_
        cases h
        exact rfl
       ·refine Tri.keep [0, 1, 4, 11, 12] [5000] (s' := ⟨[(0, .c (oC 5000 3 a9.2.2)), (1, cD (i6 p1)), (4, cD (.fn 20 [])), (11, cD (i6 a12)), (12, cD (i6 a13))], [(5000, vL 3 encTime a9.2.2)]⟩) (by kernel_rfl) ?_
        refine Tri.exit ?_
        cases h
        exact ⟨rfl, rfl⟩
      ·rcases bf_cases h with ⟨hp25, h⟩ | ⟨hp25, h⟩
       ·obtain ⟨hc26, h⟩ := need_elim h
        obtain ⟨hc27, h⟩ := need_elim h
        obtain ⟨hc28, h⟩ := need_elim h
        obtain ⟨hc29, h⟩ := need_elim h
        obtain ⟨r30, hr30, h⟩ := bind_elim h
        refine Tri.drawn (specs := [⟨⟨[(11, cD (i6 a12))], []⟩, ⟨[(50, cD (i6 a12))], []⟩, [], [], []⟩, ⟨⟨[(12, cD (i6 a13))], []⟩, ⟨[(51, cD (i6 a13))], []⟩, [], [], []⟩, ⟨⟨[(50, cD (i6 a12)), (51, cD (i6 a13))], []⟩, ⟨[(52, cD (.bool (decide (a12 ≤ a13))))], []⟩, [], [], []⟩, ⟨⟨[(52, cD (.bool (decide (a12 ≤ a13))))], []⟩, ⟨[(53, .c (.d (.bool true)))], []⟩, [], [], []⟩, ⟨⟨[(4, cD (.fn 20 [])), (53, cD (.bool true))], []⟩, ⟨[(54, cD (.fn 20 []))], []⟩, [], [], []⟩, ⟨⟨[(0, .c (oC 5000 3 a9.2.2)), (53, cD (.bool true))], []⟩, ⟨[(55, .c (oC 5000 3 a9.2.2))], []⟩, [], [], []⟩, ⟨⟨[(1, cD (i6 p1)), (53, cD (.bool true))], []⟩, ⟨[(56, cD (i6 p1))], []⟩, [], [], []⟩, ⟨⟨[(53, cD (.bool true)), (55, .c (oC 5000 3 a9.2.2)), (56, cD (i6 p1))], [(5000, vL 3 encTime a9.2.2)]⟩, ⟨[(57, .c (.vptr 5000 3 (0 + p1.toNat) 0))], []⟩, [], [], []⟩, ⟨⟨[(53, cD (.bool true)), (57, .c (.vptr 5000 3 (0 + p1.toNat) 0))], [(5000, vL 3 encTime a9.2.2)]⟩, ⟨[(58, .agg (cTime (a9.2.2.getD (0 + p1.toNat) default)))], []⟩, [], [], []⟩, ⟨⟨[(0, .c (oC 5000 3 a9.2.2)), (53, cD (.bool true))], []⟩, ⟨[(59, .c (oC 5000 3 a9.2.2))], []⟩, [], [], []⟩, ⟨⟨[(12, cD (i6 a13)), (53, cD (.bool true))], []⟩, ⟨[(60, cD (i6 a13))], []⟩, [], [], []⟩, ⟨⟨[(53, cD (.bool true)), (59, .c (oC 5000 3 a9.2.2)), (60, cD (i6 a13))], [(5000, vL 3 encTime a9.2.2)]⟩, ⟨[(61, .c (.vptr 5000 3 (0 + a13.toNat) 0))], []⟩, [], [], []⟩, ⟨⟨[(53, cD (.bool true)), (61, .c (.vptr 5000 3 (0 + a13.toNat) 0))], [(5000, vL 3 encTime a9.2.2)]⟩, ⟨[(62, .agg (cTime (a9.2.2.getD (0 + a13.toNat) default)))], []⟩, [], [], []⟩, ⟨⟨[(53, cD (.bool true)), (54, cD (.fn 20 [])), (58, .agg (cTime (a9.2.2.getD (0 + p1.toNat) default))), (62, .agg (cTime (a9.2.2.getD (0 + a13.toNat) default)))], []⟩, ⟨[(63, cD (i6 r30))], []⟩, [], [], []⟩, ⟨⟨[(53, cD (.bool true)), (63, cD (i6 r30))], []⟩, ⟨[(64, cD (.bool (decide (r30 < 0))))], []⟩, [], [], []⟩, ⟨⟨[(53, cD (.bool true)), (64, cD (.bool (decide (r30 < 0))))], []⟩, ⟨[(65, cD (.bool (decide (r30 < 0))))], []⟩, [], [], []⟩]) (bef := [[], [], [0, 1], [0, 1, 2], [0, 1, 2, 3], [0, 1, 2, 3], [0, 1, 2, 3], [0, 1, 2, 3, 5, 6], [0, 1, 2, 3, 5, 6, 7], [0, 1, 2, 3], [0, 1, 2, 3], [0, 1, 2, 3, 9, 10], [0, 1, 2, 3, 9, 10, 11], [0, 1, 2, 3, 4, 5, 6, 7, 8, 9, 10, 11, 12], [0, 1, 2, 3, 4, 5, 6, 7, 8, 9, 10, 11, 12, 13], [0, 1, 2, 3, 4, 5, 6, 7, 8, 9, 10, 11, 12, 13, 14]]) (tk := [0, 1, 4, 11, 12, 65]) (sk := [5000]) (s' := ⟨[(0, .c (oC 5000 3 a9.2.2)), (1, cD (i6 p1)), (4, cD (.fn 20 [])), (11, cD (i6 a12)), (12, cD (i6 a13)), (65, cD (.bool (decide (r30 < 0))))], [(5000, vL 3 encTime a9.2.2)]⟩) (by kernel_rfl) (by kernel_rfl) (by kernel_rfl) ⟨?_, ?_, ?_, ?_, ?_, ?_, ?_, ?_, ?_, ?_, ?_, ?_, ?_, ?_, ?_, ?_, trivial⟩ (by kernel_rfl) ?_
        · exact DOk.t rfl rfl (by kernel_rfl) (by kernel_rfl)
        · exact DOk.t rfl rfl (by kernel_rfl) (by kernel_rfl)
        · exact DOk.t rfl rfl (by kernel_rfl) (by kernel_rfl)
        · exact DOk.stepP (fun b => .val (.c (.d (.bool b))) (True)) (p := (decide (a12 ≤ a13))) hp25 (fun r => by kernel_rfl) (fun r => by kernel_rfl) trivial (by kernel_rfl) (by kernel_rfl) (fun r => rfl)
        · exact DOk.t rfl rfl (by kernel_rfl) (by kernel_rfl)
        · exact DOk.t rfl rfl (by kernel_rfl) (by kernel_rfl)
        · exact DOk.t rfl rfl (by kernel_rfl) (by kernel_rfl)
        · exact DOk.step (.val (.c (.vptr 5000 3 (0 + p1.toNat) 0)) ((0 : Int) ≤ p1 ∧ p1 < (a9.2.2.length : Int))) (fun r => by kernel_rfl) (fun r => by kernel_rfl) hc26 (by kernel_rfl) (by kernel_rfl) (fun r => rfl)
        · exact DOk.step (.val (.agg (cTime (a9.2.2.getD (0 + p1.toNat) default))) ((0 + p1.toNat) < a9.2.2.length)) (fun r => by kernel_rfl) (fun r => by kernel_rfl) hc27 (by kernel_rfl) (by kernel_rfl) (fun r => rfl)
        · exact DOk.t rfl rfl (by kernel_rfl) (by kernel_rfl)
        · exact DOk.t rfl rfl (by kernel_rfl) (by kernel_rfl)
        · exact DOk.step (.val (.c (.vptr 5000 3 (0 + a13.toNat) 0)) ((0 : Int) ≤ a13 ∧ a13 < (a9.2.2.length : Int))) (fun r => by kernel_rfl) (fun r => by kernel_rfl) hc28 (by kernel_rfl) (by kernel_rfl) (fun r => rfl)
        · exact DOk.step (.val (.agg (cTime (a9.2.2.getD (0 + a13.toNat) default))) ((0 + a13.toNat) < a9.2.2.length)) (fun r => by kernel_rfl) (fun r => by kernel_rfl) hc29 (by kernel_rfl) (by kernel_rfl) (fun r => rfl)
        · exact DOk.callA (caps := []) (xs := [.agg (cTime (a9.2.2.getD (0 + p1.toNat) default)), .agg (cTime (a9.2.2.getD (0 + a13.toNat) default))]) (moment_Compare_ok hr30) rfl (fun r => by kernel_rfl) rfl (fun r => by kernel_rfl) (fun r => by kernel_rfl) (fun r => (.cons (.refl _) (.cons (.refl _) .nil))) rfl rfl (fun r => rfl)
        · exact DOk.t rfl rfl (by kernel_rfl) (by kernel_rfl)
        · exact DOk.t rfl rfl (by kernel_rfl) (by kernel_rfl)
        exact ⟨_, h, rfl⟩
       ·refine Tri.drawn (specs := [⟨⟨[(11, cD (i6 a12))], []⟩, ⟨[(50, cD (i6 a12))], []⟩, [], [], []⟩, ⟨⟨[(12, cD (i6 a13))], []⟩, ⟨[(51, cD (i6 a13))], []⟩, [], [], []⟩, ⟨⟨[(50, cD (i6 a12)), (51, cD (i6 a13))], []⟩, ⟨[(52, cD (.bool (decide (a12 ≤ a13))))], []⟩, [], [], []⟩, ⟨⟨[(52, cD (.bool (decide (a12 ≤ a13))))], []⟩, ⟨[(53, .c (.d (.bool false)))], []⟩, [], [], []⟩, ⟨⟨[(4, cD (.fn 20 [])), (53, cD (.bool false))], []⟩, ⟨[(54, .tup [])], []⟩, [], [], []⟩, ⟨⟨[(0, .c (oC 5000 3 a9.2.2)), (53, cD (.bool false))], []⟩, ⟨[(55, .tup [])], []⟩, [], [], []⟩, ⟨⟨[(1, cD (i6 p1)), (53, cD (.bool false))], []⟩, ⟨[(56, .tup [])], []⟩, [], [], []⟩, ⟨⟨[(53, cD (.bool false)), (55, .tup []), (56, .tup [])], []⟩, ⟨[(57, .tup [])], []⟩, [], [], []⟩, ⟨⟨[(53, cD (.bool false)), (57, .tup [])], []⟩, ⟨[(58, .tup [])], []⟩, [], [], []⟩, ⟨⟨[(0, .c (oC 5000 3 a9.2.2)), (53, cD (.bool false))], []⟩, ⟨[(59, .tup [])], []⟩, [], [], []⟩, ⟨⟨[(12, cD (i6 a13)), (53, cD (.bool false))], []⟩, ⟨[(60, .tup [])], []⟩, [], [], []⟩, ⟨⟨[(53, cD (.bool false)), (59, .tup []), (60, .tup [])], []⟩, ⟨[(61, .tup [])], []⟩, [], [], []⟩, ⟨⟨[(53, cD (.bool false)), (61, .tup [])], []⟩, ⟨[(62, .tup [])], []⟩, [], [], []⟩, ⟨⟨[(53, cD (.bool false)), (54, .tup []), (58, .tup []), (62, .tup [])], []⟩, ⟨[(63, .tup [])], []⟩, [], [], []⟩, ⟨⟨[(53, cD (.bool false)), (63, .tup [])], []⟩, ⟨[(64, .tup [])], []⟩, [], [], []⟩, ⟨⟨[(53, cD (.bool false)), (64, .tup [])], []⟩, ⟨[(65, cD (.bool false))], []⟩, [], [], []⟩]) (bef := [[], [], [0, 1], [0, 1, 2], [0, 1, 2, 3], [0, 1, 2, 3], [0, 1, 2, 3], [0, 1, 2, 3, 5, 6], [0, 1, 2, 3, 5, 6, 7], [0, 1, 2, 3], [0, 1, 2, 3], [0, 1, 2, 3, 9, 10], [0, 1, 2, 3, 9, 10, 11], [0, 1, 2, 3, 4, 5, 6, 7, 8, 9, 10, 11, 12], [0, 1, 2, 3, 4, 5, 6, 7, 8, 9, 10, 11, 12, 13], [0, 1, 2, 3, 4, 5, 6, 7, 8, 9, 10, 11, 12, 13, 14]]) (tk := [0, 1, 4, 11, 12, 65]) (sk := [5000]) (s' := ⟨[(0, .c (oC 5000 3 a9.2.2)), (1, cD (i6 p1)), (4, cD (.fn 20 [])), (11, cD (i6 a12)), (12, cD (i6 a13)), (65, cD (.bool false))], [(5000, vL 3 encTime a9.2.2)]⟩) (by kernel_rfl) (by kernel_rfl) (by kernel_rfl) ⟨?_, ?_, ?_, ?_, ?_, ?_, ?_, ?_, ?_, ?_, ?_, ?_, ?_, ?_, ?_, ?_, trivial⟩ (by kernel_rfl) ?_
        · exact DOk.t rfl rfl (by kernel_rfl) (by kernel_rfl)
        · exact DOk.t rfl rfl (by kernel_rfl) (by kernel_rfl)
        · exact DOk.t rfl rfl (by kernel_rfl) (by kernel_rfl)
        · exact DOk.stepP (fun b => .val (.c (.d (.bool b))) (True)) (p := (decide (a12 ≤ a13))) hp25 (fun r => by kernel_rfl) (fun r => by kernel_rfl) trivial (by kernel_rfl) (by kernel_rfl) (fun r => rfl)
        · exact DOk.skip (fun r => by kernel_rfl) rfl rfl (fun r => rfl)
        · exact DOk.skip (fun r => by kernel_rfl) rfl rfl (fun r => rfl)
        · exact DOk.skip (fun r => by kernel_rfl) rfl rfl (fun r => rfl)
        · exact DOk.skip (fun r => by kernel_rfl) rfl rfl (fun r => rfl)
        · exact DOk.skip (fun r => by kernel_rfl) rfl rfl (fun r => rfl)
        · exact DOk.skip (fun r => by kernel_rfl) rfl rfl (fun r => rfl)
        · exact DOk.skip (fun r => by kernel_rfl) rfl rfl (fun r => rfl)
        · exact DOk.skip (fun r => by kernel_rfl) rfl rfl (fun r => rfl)
        · exact DOk.skip (fun r => by kernel_rfl) rfl rfl (fun r => rfl)
        · exact DOk.skip (fun r => by kernel_rfl) rfl rfl (fun r => rfl)
        · exact DOk.skip (fun r => by kernel_rfl) rfl rfl (fun r => rfl)
        · exact DOk.t rfl rfl (by kernel_rfl) (by kernel_rfl)
        exact ⟨_, h, rfl⟩
     ·intro a14 h
      show Tri _ _ _ _
      refine Tri.seqS ?_
      refine Tri.seqS ?_
      refine Tri.reg ?_
      refine At.seg 3 [0, 1, 4, 11, 12, 70] [5000] (s' := ⟨[(0, .c (oC 5000 3 a9.2.2)), (1, cD (i6 p1)), (4, cD (.fn 20 [])), (11, cD (i6 a12)), (12, cD (i6 a14)), (70, cD (.bool (decide (a14 < a12))))], [(5000, vL 3 encTime a9.2.2)]⟩) (c := True ∧ True ∧ True ∧ True) (by kernel_rfl) ⟨trivial, trivial, trivial, trivial⟩ ?_
      refine At.done rfl ?_
      show Tri _ _ _ _
      refine Tri.condP (b := (decide (a14 < a12))) rfl h (fun h => ?_) (fun h => ?_)
      ·refine Tri.keep [0, 1, 4, 11, 12] [5000] (s' := ⟨[(0, .c (oC 5000 3 a9.2.2)), (1, cD (i6 p1)), (4, cD (.fn 20 [])), (11, cD (i6 a12)), (12, cD (i6 a14))], [(5000, vL 3 encTime a9.2.2)]⟩) (by kernel_rfl) ?_
       refine Tri.exit ?_
       cases h
       exact ⟨rfl, rfl⟩
      ·refine Tri.skip ?_
       show Tri _ _ _ _
       refine Tri.seqS ?_
       obtain ⟨hc15, h⟩ := need_elim h
       obtain ⟨hc16, h⟩ := need_elim h
       obtain ⟨hc17, h⟩ := need_elim h
       obtain ⟨hc18, h⟩ := need_elim h
       obtain ⟨hc19, h⟩ := need_elim h
       obtain ⟨hc20, h⟩ := need_elim h
       obtain ⟨hc21, h⟩ := need_elim h
       obtain ⟨hc22, h⟩ := need_elim h
       refine Tri.afterA ⟨[(0, .c (oC 5000 3 a9.2.2)), (1, cD (i6 p1)), (4, cD (.fn 20 [])), (11, cD (i6 a12)), (12, cD (i6 a14))], [(5000, vL 3 encTime ((a9.2.2.set (0 + a12.toNat) (a9.2.2.getD (0 + a14.toNat) default)).set (0 + a14.toNat) (a9.2.2.getD (0 + a12.toNat) default)))]⟩ ?_ ?_
       ·refine Tri.drawn (specs := [⟨⟨[(0, .c (oC 5000 3 a9.2.2))], []⟩, ⟨[(71, .c (oC 5000 3 a9.2.2))], []⟩, [], [], []⟩, ⟨⟨[(11, cD (i6 a12))], []⟩, ⟨[(72, cD (i6 a12))], []⟩, [], [], []⟩, ⟨⟨[(0, .c (oC 5000 3 a9.2.2))], []⟩, ⟨[(73, .c (oC 5000 3 a9.2.2))], []⟩, [], [], []⟩, ⟨⟨[(12, cD (i6 a14))], []⟩, ⟨[(74, cD (i6 a14))], []⟩, [], [], []⟩, ⟨⟨[(0, .c (oC 5000 3 a9.2.2))], []⟩, ⟨[(75, .c (oC 5000 3 a9.2.2))], []⟩, [], [], []⟩, ⟨⟨[(12, cD (i6 a14))], []⟩, ⟨[(76, cD (i6 a14))], []⟩, [], [], []⟩, ⟨⟨[(75, .c (oC 5000 3 a9.2.2)), (76, cD (i6 a14))], [(5000, vL 3 encTime a9.2.2)]⟩, ⟨[(77, .c (.vptr 5000 3 (0 + a14.toNat) 0))], []⟩, [], [], []⟩, ⟨⟨[(77, .c (.vptr 5000 3 (0 + a14.toNat) 0))], [(5000, vL 3 encTime a9.2.2)]⟩, ⟨[(78, .agg (cTime (a9.2.2.getD (0 + a14.toNat) default)))], []⟩, [], [], []⟩, ⟨⟨[(0, .c (oC 5000 3 a9.2.2))], []⟩, ⟨[(79, .c (oC 5000 3 a9.2.2))], []⟩, [], [], []⟩, ⟨⟨[(11, cD (i6 a12))], []⟩, ⟨[(80, cD (i6 a12))], []⟩, [], [], []⟩, ⟨⟨[(79, .c (oC 5000 3 a9.2.2)), (80, cD (i6 a12))], [(5000, vL 3 encTime a9.2.2)]⟩, ⟨[(81, .c (.vptr 5000 3 (0 + a12.toNat) 0))], []⟩, [], [], []⟩, ⟨⟨[(81, .c (.vptr 5000 3 (0 + a12.toNat) 0))], [(5000, vL 3 encTime a9.2.2)]⟩, ⟨[(82, .agg (cTime (a9.2.2.getD (0 + a12.toNat) default)))], []⟩, [], [], []⟩, ⟨⟨[(71, .c (oC 5000 3 a9.2.2)), (72, cD (i6 a12))], [(5000, vL 3 encTime a9.2.2)]⟩, ⟨[(83, .c (.vptr 5000 3 (0 + a12.toNat) 0))], []⟩, [], [], []⟩, ⟨⟨[(78, .agg (cTime (a9.2.2.getD (0 + a14.toNat) default))), (83, .c (.vptr 5000 3 (0 + a12.toNat) 0))], [(5000, vL 3 encTime a9.2.2)]⟩, ⟨[], [(5000, vL 3 encTime (a9.2.2.set (0 + a12.toNat) (a9.2.2.getD (0 + a14.toNat) default)))]⟩, [], [], []⟩, ⟨⟨[(73, .c (oC 5000 3 a9.2.2)), (74, cD (i6 a14))], [(5000, vL 3 encTime (a9.2.2.set (0 + a12.toNat) (a9.2.2.getD (0 + a14.toNat) default)))]⟩, ⟨[(84, .c (.vptr 5000 3 (0 + a14.toNat) 0))], []⟩, [], [], []⟩, ⟨⟨[(82, .agg (cTime (a9.2.2.getD (0 + a12.toNat) default))), (84, .c (.vptr 5000 3 (0 + a14.toNat) 0))], [(5000, vL 3 encTime (a9.2.2.set (0 + a12.toNat) (a9.2.2.getD (0 + a14.toNat) default)))]⟩, ⟨[], [(5000, vL 3 encTime ((a9.2.2.set (0 + a12.toNat) (a9.2.2.getD (0 + a14.toNat) default)).set (0 + a14.toNat) (a9.2.2.getD (0 + a12.toNat) default)))]⟩, [], [], []⟩]) (bef := [[], [], [], [], [], [], [4, 5], [4, 5, 6], [], [], [8, 9], [8, 9, 10], [0, 1, 4, 5, 6, 7, 8, 9, 10, 11], [0, 1, 4, 5, 6, 7, 8, 9, 10, 11, 12], [0, 1, 2, 3, 4, 5, 6, 7, 8, 9, 10, 11, 12, 13], [0, 1, 2, 3, 4, 5, 6, 7, 8, 9, 10, 11, 12, 13, 14]]) (tk := [0, 1, 4, 11, 12]) (sk := [5000]) (s' := ⟨[(0, .c (oC 5000 3 a9.2.2)), (1, cD (i6 p1)), (4, cD (.fn 20 [])), (11, cD (i6 a12)), (12, cD (i6 a14))], [(5000, vL 3 encTime ((a9.2.2.set (0 + a12.toNat) (a9.2.2.getD (0 + a14.toNat) default)).set (0 + a14.toNat) (a9.2.2.getD (0 + a12.toNat) default)))]⟩) (by kernel_rfl) (by kernel_rfl) (by kernel_rfl) ⟨?_, ?_, ?_, ?_, ?_, ?_, ?_, ?_, ?_, ?_, ?_, ?_, ?_, ?_, ?_, ?_, trivial⟩ (by kernel_rfl) ?_
        · exact DOk.t rfl rfl (by kernel_rfl) (by kernel_rfl)
        · exact DOk.t rfl rfl (by kernel_rfl) (by kernel_rfl)
        · exact DOk.t rfl rfl (by kernel_rfl) (by kernel_rfl)
        · exact DOk.t rfl rfl (by kernel_rfl) (by kernel_rfl)
        · exact DOk.t rfl rfl (by kernel_rfl) (by kernel_rfl)
        · exact DOk.t rfl rfl (by kernel_rfl) (by kernel_rfl)
        · exact DOk.step (.val (.c (.vptr 5000 3 (0 + a14.toNat) 0)) ((0 : Int) ≤ a14 ∧ a14 < (a9.2.2.length : Int))) (fun r => by kernel_rfl) (fun r => by kernel_rfl) hc15 (by kernel_rfl) (by kernel_rfl) (fun r => rfl)
        · exact DOk.step (.val (.agg (cTime (a9.2.2.getD (0 + a14.toNat) default))) ((0 + a14.toNat) < a9.2.2.length)) (fun r => by kernel_rfl) (fun r => by kernel_rfl) hc16 (by kernel_rfl) (by kernel_rfl) (fun r => rfl)
        · exact DOk.t rfl rfl (by kernel_rfl) (by kernel_rfl)
        · exact DOk.t rfl rfl (by kernel_rfl) (by kernel_rfl)
        · exact DOk.step (.val (.c (.vptr 5000 3 (0 + a12.toNat) 0)) ((0 : Int) ≤ a12 ∧ a12 < (a9.2.2.length : Int))) (fun r => by kernel_rfl) (fun r => by kernel_rfl) hc17 (by kernel_rfl) (by kernel_rfl) (fun r => rfl)
        · exact DOk.step (.val (.agg (cTime (a9.2.2.getD (0 + a12.toNat) default))) ((0 + a12.toNat) < a9.2.2.length)) (fun r => by kernel_rfl) (fun r => by kernel_rfl) hc18 (by kernel_rfl) (by kernel_rfl) (fun r => rfl)
        · exact DOk.step (.val (.c (.vptr 5000 3 (0 + a12.toNat) 0)) ((0 : Int) ≤ a12 ∧ a12 < (a9.2.2.length : Int))) (fun r => by kernel_rfl) (fun r => by kernel_rfl) hc19 (by kernel_rfl) (by kernel_rfl) (fun r => rfl)
        · exact DOk.one fun r hr => One.storeT (xs := [.d (u6 ((a9.2.2.getD (0 + a14.toNat) default).epoch)), .d (u6 ((a9.2.2.getD (0 + a14.toNat) default).loop.1)), .d (u6 ((a9.2.2.getD (0 + a14.toNat) default).loop.2))]) (ds := [u6 ((a9.2.2.getD (0 + a14.toNat) default).epoch), u6 ((a9.2.2.getD (0 + a14.toNat) default).loop.1), u6 ((a9.2.2.getD (0 + a14.toNat) default).loop.2)]) (encTime) a9.2.2 (a9.2.2.getD (0 + a14.toNat) default) rfl (by kernel_rfl) rfl rfl rfl hc20 rfl rfl (.refl _) rfl rfl rfl rfl
        · exact DOk.step (.val (.c (.vptr 5000 3 (0 + a14.toNat) 0)) ((0 : Int) ≤ a14 ∧ a14 < (a9.2.2.length : Int))) (fun r => by kernel_rfl) (fun r => by kernel_rfl) hc21 (by kernel_rfl) (by kernel_rfl) (fun r => rfl)
        · exact DOk.one fun r hr => One.storeT (xs := [.d (u6 ((a9.2.2.getD (0 + a12.toNat) default).epoch)), .d (u6 ((a9.2.2.getD (0 + a12.toNat) default).loop.1)), .d (u6 ((a9.2.2.getD (0 + a12.toNat) default).loop.2))]) (ds := [u6 ((a9.2.2.getD (0 + a12.toNat) default).epoch), u6 ((a9.2.2.getD (0 + a12.toNat) default).loop.1), u6 ((a9.2.2.getD (0 + a12.toNat) default).loop.2)]) (encTime) (a9.2.2.set (0 + a12.toNat) (a9.2.2.getD (0 + a14.toNat) default)) (a9.2.2.getD (0 + a12.toNat) default) rfl (by kernel_rfl) rfl rfl rfl hc22 rfl rfl (.refl _) rfl rfl rfl rfl
        exact ⟨rfl, rfl⟩
       ·refine At.eqS (s' := ⟨[(0, .c (oC 5000 3 ((a9.2.2.set (0 + a12.toNat) (a9.2.2.getD (0 + a14.toNat) default)).set (0 + a14.toNat) (a9.2.2.getD (0 + a12.toNat) default)))), (1, cD (i6 p1)), (4, cD (.fn 20 [])), (11, cD (i6 a12)), (12, cD (i6 a14))], [(5000, vL 3 encTime ((a9.2.2.set (0 + a12.toNat) (a9.2.2.getD (0 + a14.toNat) default)).set (0 + a14.toNat) (a9.2.2.getD (0 + a12.toNat) default)))]⟩) (by simp only [oC, vL, List.length_set]) ?_
        refine At.done rfl ?_
        show Tri _ _ _ _
        refine Tri.seqS ?_
        refine Tri.reg ?_
        refine At.seg 3 [0, 1, 4, 11, 12] [5000] (s' := ⟨[(0, .c (oC 5000 3 ((a9.2.2.set (0 + a12.toNat) (a9.2.2.getD (0 + a14.toNat) default)).set (0 + a14.toNat) (a9.2.2.getD (0 + a12.toNat) default)))), (1, cD (i6 p1)), (4, cD (.fn 20 [])), (11, cD (i6 (IntKind.i64.wrap (a12 + 1)))), (12, cD (i6 a14))], [(5000, vL 3 encTime ((a9.2.2.set (0 + a12.toNat) (a9.2.2.getD (0 + a14.toNat) default)).set (0 + a14.toNat) (a9.2.2.getD (0 + a12.toNat) default)))]⟩) (c := True ∧ True ∧ True ∧ True) (by kernel_rfl) ⟨trivial, trivial, trivial, trivial⟩ ?_
        refine At.done rfl ?_
        show Tri _ _ _ _
        refine Tri.reg ?_
        refine At.seg 3 [0, 1, 4, 11, 12] [5000] (s' := ⟨[(0, .c (oC 5000 3 ((a9.2.2.set (0 + a12.toNat) (a9.2.2.getD (0 + a14.toNat) default)).set (0 + a14.toNat) (a9.2.2.getD (0 + a12.toNat) default)))), (1, cD (i6 p1)), (4, cD (.fn 20 [])), (11, cD (i6 (IntKind.i64.wrap (a12 + 1)))), (12, cD (i6 (IntKind.i64.wrap (a14 - 1))))], [(5000, vL 3 encTime ((a9.2.2.set (0 + a12.toNat) (a9.2.2.getD (0 + a14.toNat) default)).set (0 + a14.toNat) (a9.2.2.getD (0 + a12.toNat) default)))]⟩) (c := True ∧ True ∧ True ∧ True) (by kernel_rfl) ⟨trivial, trivial, trivial, trivial⟩ ?_
        refine At.done rfl ?_
        cases h
        exact rfl
     · exact fun x => x.elim
    · exact fun x => x.elim
   ·intro a10 h
    show Tri _ _ _ _
    refine Tri.seqS ?_
    refine Tri.reg ?_
    refine At.seg 2 [10] [5000] (s' := ⟨[(10, cD (i6 a10.1))], [(5000, vL 3 encTime a10.2.2)]⟩) (c := True ∧ True ∧ True) (by kernel_rfl) ⟨trivial, trivial, trivial⟩ ?_
    refine At.done rfl ?_
    show Tri _ _ _ _
    refine Tri.keep [10] [5000] (s' := ⟨[(10, cD (i6 a10.1))], [(5000, vL 3 encTime a10.2.2)]⟩) (by kernel_rfl) ?_
    refine Tri.ret ?_
    cases h
    refine ⟨_, _, rfl, ⟨trivial, trivial⟩, rfl, rfl, ?_⟩
    exact SubS.out ⟨⟨rfl, rfl⟩, trivial⟩
   · exact fun x => x.elim

set_option maxRecDepth 100000 in
theorem slices_partitionCmpFunc_Time__Compare_w_ok {fuel : Nat} {p1 : Int} {p2 : Int} {p3 : Int} {l0 : List Time} {q : Int × Bool × (List Time)} (h : slices_partitionCmpFunc_Time__Compare_w fuel p1 p2 p3 l0 = some q) :
    Summ Try.prog 56 [.c (oC 5000 3 l0), cD (i6 p1), cD (i6 p2), cD (i6 p3), cD (.fn 20 [])] [(5000, vL 3 encTime l0)] (.tup [(false, [.d (i6 q.1)]), (false, [.d (.bool q.2.1)])]) [(5000, vL 3 encTime q.2.2)] := by
  refine Summ.intro Try.func56 rfl (by kernel_rfl) (by kernel_rfl) [] rfl ?_
  rintro ⟨P, w0, G0, V, LL, lk, N, φ0, fx⟩ rfl rfl rfl rfl
  unfold slices_partitionCmpFunc_Time__Compare_w at h
  refine Tri.seqS ?_
  refine Tri.reg ?_
  refine At.seg 2 [0, 1, 2, 3, 4] [5000] (s' := ⟨[(0, .c (oC 5000 3 l0)), (1, cD (i6 p1)), (2, cD (i6 p2)), (3, cD (i6 p3)), (4, cD (.fn 20 []))], [(5000, vL 3 encTime l0)]⟩) (c := True ∧ True ∧ True) (by kernel_rfl) ⟨trivial, trivial, trivial⟩ ?_
  refine At.done rfl ?_
  show Tri _ _ _ _
  refine Tri.seqS ?_
  obtain ⟨hc1, h⟩ := need_elim h
  obtain ⟨hc2, h⟩ := need_elim h
  obtain ⟨hc3, h⟩ := need_elim h
  obtain ⟨hc4, h⟩ := need_elim h
  obtain ⟨hc5, h⟩ := need_elim h
  obtain ⟨hc6, h⟩ := need_elim h
  obtain ⟨hc7, h⟩ := need_elim h
  obtain ⟨hc8, h⟩ := need_elim h
  refine Tri.afterA ⟨[(0, .c (oC 5000 3 l0)), (1, cD (i6 p1)), (2, cD (i6 p2)), (4, cD (.fn 20 []))], [(5000, vL 3 encTime ((l0.set (0 + p1.toNat) (l0.getD (0 + p3.toNat) default)).set (0 + p3.toNat) (l0.getD (0 + p1.toNat) default)))]⟩ ?_ ?_
  ·refine Tri.drawn (specs := [⟨⟨[(0, .c (oC 5000 3 l0))], []⟩, ⟨[(14, .c (oC 5000 3 l0))], []⟩, [], [], []⟩, ⟨⟨[(1, cD (i6 p1))], []⟩, ⟨[(15, cD (i6 p1))], []⟩, [], [], []⟩, ⟨⟨[(0, .c (oC 5000 3 l0))], []⟩, ⟨[(16, .c (oC 5000 3 l0))], []⟩, [], [], []⟩, ⟨⟨[(3, cD (i6 p3))], []⟩, ⟨[(17, cD (i6 p3))], []⟩, [], [], []⟩, ⟨⟨[(0, .c (oC 5000 3 l0))], []⟩, ⟨[(18, .c (oC 5000 3 l0))], []⟩, [], [], []⟩, ⟨⟨[(3, cD (i6 p3))], []⟩, ⟨[(19, cD (i6 p3))], []⟩, [], [], []⟩, ⟨⟨[(18, .c (oC 5000 3 l0)), (19, cD (i6 p3))], [(5000, vL 3 encTime l0)]⟩, ⟨[(20, .c (.vptr 5000 3 (0 + p3.toNat) 0))], []⟩, [], [], []⟩, ⟨⟨[(20, .c (.vptr 5000 3 (0 + p3.toNat) 0))], [(5000, vL 3 encTime l0)]⟩, ⟨[(21, .agg (cTime (l0.getD (0 + p3.toNat) default)))], []⟩, [], [], []⟩, ⟨⟨[(0, .c (oC 5000 3 l0))], []⟩, ⟨[(22, .c (oC 5000 3 l0))], []⟩, [], [], []⟩, ⟨⟨[(1, cD (i6 p1))], []⟩, ⟨[(23, cD (i6 p1))], []⟩, [], [], []⟩, ⟨⟨[(22, .c (oC 5000 3 l0)), (23, cD (i6 p1))], [(5000, vL 3 encTime l0)]⟩, ⟨[(24, .c (.vptr 5000 3 (0 + p1.toNat) 0))], []⟩, [], [], []⟩, ⟨⟨[(24, .c (.vptr 5000 3 (0 + p1.toNat) 0))], [(5000, vL 3 encTime l0)]⟩, ⟨[(25, .agg (cTime (l0.getD (0 + p1.toNat) default)))], []⟩, [], [], []⟩, ⟨⟨[(14, .c (oC 5000 3 l0)), (15, cD (i6 p1))], [(5000, vL 3 encTime l0)]⟩, ⟨[(26, .c (.vptr 5000 3 (0 + p1.toNat) 0))], []⟩, [], [], []⟩, ⟨⟨[(21, .agg (cTime (l0.getD (0 + p3.toNat) default))), (26, .c (.vptr 5000 3 (0 + p1.toNat) 0))], [(5000, vL 3 encTime l0)]⟩, ⟨[], [(5000, vL 3 encTime (l0.set (0 + p1.toNat) (l0.getD (0 + p3.toNat) default)))]⟩, [], [], []⟩, ⟨⟨[(16, .c (oC 5000 3 l0)), (17, cD (i6 p3))], [(5000, vL 3 encTime (l0.set (0 + p1.toNat) (l0.getD (0 + p3.toNat) default)))]⟩, ⟨[(27, .c (.vptr 5000 3 (0 + p3.toNat) 0))], []⟩, [], [], []⟩, ⟨⟨[(25, .agg (cTime (l0.getD (0 + p1.toNat) default))), (27, .c (.vptr 5000 3 (0 + p3.toNat) 0))], [(5000, vL 3 encTime (l0.set (0 + p1.toNat) (l0.getD (0 + p3.toNat) default)))]⟩, ⟨[], [(5000, vL 3 encTime ((l0.set (0 + p1.toNat) (l0.getD (0 + p3.toNat) default)).set (0 + p3.toNat) (l0.getD (0 + p1.toNat) default)))]⟩, [], [], []⟩]) (bef := [[], [], [], [], [], [], [4, 5], [4, 5, 6], [], [], [8, 9], [8, 9, 10], [0, 1, 4, 5, 6, 7, 8, 9, 10, 11], [0, 1, 4, 5, 6, 7, 8, 9, 10, 11, 12], [0, 1, 2, 3, 4, 5, 6, 7, 8, 9, 10, 11, 12, 13], [0, 1, 2, 3, 4, 5, 6, 7, 8, 9, 10, 11, 12, 13, 14]]) (tk := [0, 1, 2, 4]) (sk := [5000]) (s' := ⟨[(0, .c (oC 5000 3 l0)), (1, cD (i6 p1)), (2, cD (i6 p2)), (4, cD (.fn 20 []))], [(5000, vL 3 encTime ((l0.set (0 + p1.toNat) (l0.getD (0 + p3.toNat) default)).set (0 + p3.toNat) (l0.getD (0 + p1.toNat) default)))]⟩) (by kernel_rfl) (by kernel_rfl) (by kernel_rfl) ⟨?_, ?_, ?_, ?_, ?_, ?_, ?_, ?_, ?_, ?_, ?_, ?_, ?_, ?_, ?_, ?_, trivial⟩ (by kernel_rfl) ?_
   · exact DOk.t rfl rfl (by kernel_rfl) (by kernel_rfl)
   · exact DOk.t rfl rfl (by kernel_rfl) (by kernel_rfl)
   · exact DOk.t rfl rfl (by kernel_rfl) (by kernel_rfl)
   · exact DOk.t rfl rfl (by kernel_rfl) (by kernel_rfl)
   · exact DOk.t rfl rfl (by kernel_rfl) (by kernel_rfl)
   · exact DOk.t rfl rfl (by kernel_rfl) (by kernel_rfl)
   · exact DOk.step (.val (.c (.vptr 5000 3 (0 + p3.toNat) 0)) ((0 : Int) ≤ p3 ∧ p3 < (l0.length : Int))) (fun r => by kernel_rfl) (fun r => by kernel_rfl) hc1 (by kernel_rfl) (by kernel_rfl) (fun r => rfl)
   · exact DOk.step (.val (.agg (cTime (l0.getD (0 + p3.toNat) default))) ((0 + p3.toNat) < l0.length)) (fun r => by kernel_rfl) (fun r => by kernel_rfl) hc2 (by kernel_rfl) (by kernel_rfl) (fun r => rfl)
   · exact DOk.t rfl rfl (by kernel_rfl) (by kernel_rfl)
   · exact DOk.t rfl rfl (by kernel_rfl) (by kernel_rfl)
   · exact DOk.step (.val (.c (.vptr 5000 3 (0 + p1.toNat) 0)) ((0 : Int) ≤ p1 ∧ p1 < (l0.length : Int))) (fun r => by kernel_rfl) (fun r => by kernel_rfl) hc3 (by kernel_rfl) (by kernel_rfl) (fun r => rfl)
   · exact DOk.step (.val (.agg (cTime (l0.getD (0 + p1.toNat) default))) ((0 + p1.toNat) < l0.length)) (fun r => by kernel_rfl) (fun r => by kernel_rfl) hc4 (by kernel_rfl) (by kernel_rfl) (fun r => rfl)
   · exact DOk.step (.val (.c (.vptr 5000 3 (0 + p1.toNat) 0)) ((0 : Int) ≤ p1 ∧ p1 < (l0.length : Int))) (fun r => by kernel_rfl) (fun r => by kernel_rfl) hc5 (by kernel_rfl) (by kernel_rfl) (fun r => rfl)
   · exact DOk.one fun r hr => One.storeT (xs := [.d (u6 ((l0.getD (0 + p3.toNat) default).epoch)), .d (u6 ((l0.getD (0 + p3.toNat) default).loop.1)), .d (u6 ((l0.getD (0 + p3.toNat) default).loop.2))]) (ds := [u6 ((l0.getD (0 + p3.toNat) default).epoch), u6 ((l0.getD (0 + p3.toNat) default).loop.1), u6 ((l0.getD (0 + p3.toNat) default).loop.2)]) (encTime) l0 (l0.getD (0 + p3.toNat) default) rfl (by kernel_rfl) rfl rfl rfl hc6 rfl rfl (.refl _) rfl rfl rfl rfl
   · exact DOk.step (.val (.c (.vptr 5000 3 (0 + p3.toNat) 0)) ((0 : Int) ≤ p3 ∧ p3 < (l0.length : Int))) (fun r => by kernel_rfl) (fun r => by kernel_rfl) hc7 (by kernel_rfl) (by kernel_rfl) (fun r => rfl)
   · exact DOk.one fun r hr => One.storeT (xs := [.d (u6 ((l0.getD (0 + p1.toNat) default).epoch)), .d (u6 ((l0.getD (0 + p1.toNat) default).loop.1)), .d (u6 ((l0.getD (0 + p1.toNat) default).loop.2))]) (ds := [u6 ((l0.getD (0 + p1.toNat) default).epoch), u6 ((l0.getD (0 + p1.toNat) default).loop.1), u6 ((l0.getD (0 + p1.toNat) default).loop.2)]) (encTime) (l0.set (0 + p1.toNat) (l0.getD (0 + p3.toNat) default)) (l0.getD (0 + p1.toNat) default) rfl (by kernel_rfl) rfl rfl rfl hc8 rfl rfl (.refl _) rfl rfl rfl rfl
   exact ⟨rfl, rfl⟩
  ·refine At.eqS (s' := ⟨[(0, .c (oC 5000 3 ((l0.set (0 + p1.toNat) (l0.getD (0 + p3.toNat) default)).set (0 + p3.toNat) (l0.getD (0 + p1.toNat) default)))), (1, cD (i6 p1)), (2, cD (i6 p2)), (4, cD (.fn 20 []))], [(5000, vL 3 encTime ((l0.set (0 + p1.toNat) (l0.getD (0 + p3.toNat) default)).set (0 + p3.toNat) (l0.getD (0 + p1.toNat) default)))]⟩) (by simp only [oC, vL, List.length_set]) ?_
   refine At.done rfl ?_
   show Tri _ _ _ _
   refine Tri.seqS ?_
   refine Tri.reg ?_
   refine At.seg 6 [0, 1, 4, 12, 13] [5000] (s' := ⟨[(0, .c (oC 5000 3 ((l0.set (0 + p1.toNat) (l0.getD (0 + p3.toNat) default)).set (0 + p3.toNat) (l0.getD (0 + p1.toNat) default)))), (1, cD (i6 p1)), (4, cD (.fn 20 [])), (12, cD (i6 (IntKind.i64.wrap (p1 + 1)))), (13, cD (i6 (IntKind.i64.wrap (p2 - 1))))], [(5000, vL 3 encTime ((l0.set (0 + p1.toNat) (l0.getD (0 + p3.toNat) default)).set (0 + p3.toNat) (l0.getD (0 + p1.toNat) default)))]⟩) (c := True ∧ True ∧ True ∧ True ∧ True ∧ True ∧ True) (by kernel_rfl) ⟨trivial, trivial, trivial, trivial, trivial, trivial, trivial⟩ ?_
   refine At.done rfl ?_
   show Tri _ _ _ _
   refine Tri.seqS ?_
   refine Tri.keep [0, 1, 4, 12, 13] [5000] (s' := ⟨[(0, .c (oC 5000 3 ((l0.set (0 + p1.toNat) (l0.getD (0 + p3.toNat) default)).set (0 + p3.toNat) (l0.getD (0 + p1.toNat) default)))), (1, cD (i6 p1)), (4, cD (.fn 20 [])), (12, cD (i6 (IntKind.i64.wrap (p1 + 1)))), (13, cD (i6 (IntKind.i64.wrap (p2 - 1))))], [(5000, vL 3 encTime ((l0.set (0 + p1.toNat) (l0.getD (0 + p3.toNat) default)).set (0 + p3.toNat) (l0.getD (0 + p1.toNat) default)))]⟩) (by kernel_rfl) ?_
   refine Tri.loopK (fuel := fuel) (st0 := ((IntKind.i64.wrap (p1 + 1)), (IntKind.i64.wrap (p2 - 1)))) (fun (x : Empty) s => False) (fun (a9 : Int × Int) => ⟨[(0, .c (oC 5000 3 ((l0.set (0 + p1.toNat) (l0.getD (0 + p3.toNat) default)).set (0 + p3.toNat) (l0.getD (0 + p1.toNat) default)))), (1, cD (i6 p1)), (4, cD (.fn 20 [])), (12, cD (i6 a9.1)), (13, cD (i6 a9.2))], [(5000, vL 3 encTime ((l0.set (0 + p1.toNat) (l0.getD (0 + p3.toNat) default)).set (0 + p3.toNat) (l0.getD (0 + p1.toNat) default)))]⟩) (fun (a9 : Int × Int) => ⟨[(0, .c (oC 5000 3 ((l0.set (0 + p1.toNat) (l0.getD (0 + p3.toNat) default)).set (0 + p3.toNat) (l0.getD (0 + p1.toNat) default)))), (1, cD (i6 p1)), (4, cD (.fn 20 [])), (12, cD (i6 a9.1)), (13, cD (i6 a9.2))], [(5000, vL 3 encTime ((l0.set (0 + p1.toNat) (l0.getD (0 + p3.toNat) default)).set (0 + p3.toNat) (l0.getD (0 + p1.toNat) default)))]⟩) h ?_ ?_ ?_
   ·intro a9 c h
    show Tri _ _ ⟨[(0, .c (oC 5000 3 ((l0.set (0 + p1.toNat) (l0.getD (0 + p3.toNat) default)).set (0 + p3.toNat) (l0.getD (0 + p1.toNat) default)))), (1, cD (i6 p1)), (4, cD (.fn 20 [])), (12, cD (i6 a9.1)), (13, cD (i6 a9.2))], [(5000, vL 3 encTime ((l0.set (0 + p1.toNat) (l0.getD (0 + p3.toNat) default)).set (0 + p3.toNat) (l0.getD (0 + p1.toNat) default)))]⟩ _
    refine Tri.seqS ?_
    refine Tri.seqJ (fun (a75 : Bool) => ⟨[(0, .c (oC 5000 3 ((l0.set (0 + p1.toNat) (l0.getD (0 + p3.toNat) default)).set (0 + p3.toNat) (l0.getD (0 + p1.toNat) default)))), (1, cD (i6 p1)), (4, cD (.fn 20 [])), (12, cD (i6 a9.1)), (13, cD (i6 a9.2)), (47, cD (.bool a75))], [(5000, vL 3 encTime ((l0.set (0 + p1.toNat) (l0.getD (0 + p3.toNat) default)).set (0 + p3.toNat) (l0.getD (0 + p1.toNat) default)))]⟩) h (fun a75 h => ?_) (fun j76 h => ?_)
    ·show Tri _ _ ⟨[(0, .c (oC 5000 3 ((l0.set (0 + p1.toNat) (l0.getD (0 + p3.toNat) default)).set (0 + p3.toNat) (l0.getD (0 + p1.toNat) default)))), (1, cD (i6 p1)), (4, cD (.fn 20 [])), (12, cD (i6 a9.1)), (13, cD (i6 a9.2)), (47, cD (.bool a75))], [(5000, vL 3 encTime ((l0.set (0 + p1.toNat) (l0.getD (0 + p3.toNat) default)).set (0 + p3.toNat) (l0.getD (0 + p1.toNat) default)))]⟩ _
     refine Tri.condP (b := a75) rfl h (fun h => ?_) (fun h => ?_)
     ·refine Tri.skip ?_
      show Tri _ _ _ _
      refine Tri.blockB ?_
      refine Tri.reg ?_
      refine At.seg 3 [0, 1, 4, 12, 13] [5000] (s' := ⟨[(0, .c (oC 5000 3 ((l0.set (0 + p1.toNat) (l0.getD (0 + p3.toNat) default)).set (0 + p3.toNat) (l0.getD (0 + p1.toNat) default)))), (1, cD (i6 p1)), (4, cD (.fn 20 [])), (12, cD (i6 (IntKind.i64.wrap (a9.1 + 1)))), (13, cD (i6 a9.2))], [(5000, vL 3 encTime ((l0.set (0 + p1.toNat) (l0.getD (0 + p3.toNat) default)).set (0 + p3.toNat) (l0.getD (0 + p1.toNat) default)))]⟩) (c := True ∧ True ∧ True ∧ True) (by kernel_rfl) ⟨trivial, trivial, trivial, trivial⟩ ?_
      refine At.done rfl ?_
      cases h
      exact rfl
     ·refine Tri.keep [0, 1, 4, 12, 13] [5000] (s' := ⟨[(0, .c (oC 5000 3 ((l0.set (0 + p1.toNat) (l0.getD (0 + p3.toNat) default)).set (0 + p3.toNat) (l0.getD (0 + p1.toNat) default)))), (1, cD (i6 p1)), (4, cD (.fn 20 [])), (12, cD (i6 a9.1)), (13, cD (i6 a9.2))], [(5000, vL 3 encTime ((l0.set (0 + p1.toNat) (l0.getD (0 + p3.toNat) default)).set (0 + p3.toNat) (l0.getD (0 + p1.toNat) default)))]⟩) (by kernel_rfl) ?_
      refine Tri.exit ?_
      cases h
      exact ⟨rfl, rfl⟩
    ·rcases bf_cases h with ⟨hp77, h⟩ | ⟨hp77, h⟩
     ·obtain ⟨hc78, h⟩ := need_elim h
      obtain ⟨hc79, h⟩ := need_elim h
      obtain ⟨hc80, h⟩ := need_elim h
      obtain ⟨hc81, h⟩ := need_elim h
      obtain ⟨r82, hr82, h⟩ := bind_elim h
      refine Tri.drawn (specs := [⟨⟨[(12, cD (i6 a9.1))], []⟩, ⟨[(32, cD (i6 a9.1))], []⟩, [], [], []⟩, ⟨⟨[(13, cD (i6 a9.2))], []⟩, ⟨[(33, cD (i6 a9.2))], []⟩, [], [], []⟩, ⟨⟨[(32, cD (i6 a9.1)), (33, cD (i6 a9.2))], []⟩, ⟨[(34, cD (.bool (decide (a9.1 ≤ a9.2))))], []⟩, [], [], []⟩, ⟨⟨[(34, cD (.bool (decide (a9.1 ≤ a9.2))))], []⟩, ⟨[(35, .c (.d (.bool true)))], []⟩, [], [], []⟩, ⟨⟨[(4, cD (.fn 20 [])), (35, cD (.bool true))], []⟩, ⟨[(36, cD (.fn 20 []))], []⟩, [], [], []⟩, ⟨⟨[(0, .c (oC 5000 3 ((l0.set (0 + p1.toNat) (l0.getD (0 + p3.toNat) default)).set (0 + p3.toNat) (l0.getD (0 + p1.toNat) default)))), (35, cD (.bool true))], []⟩, ⟨[(37, .c (oC 5000 3 ((l0.set (0 + p1.toNat) (l0.getD (0 + p3.toNat) default)).set (0 + p3.toNat) (l0.getD (0 + p1.toNat) default))))], []⟩, [], [], []⟩, ⟨⟨[(12, cD (i6 a9.1)), (35, cD (.bool true))], []⟩, ⟨[(38, cD (i6 a9.1))], []⟩, [], [], []⟩, ⟨⟨[(35, cD (.bool true)), (37, .c (oC 5000 3 ((l0.set (0 + p1.toNat) (l0.getD (0 + p3.toNat) default)).set (0 + p3.toNat) (l0.getD (0 + p1.toNat) default)))), (38, cD (i6 a9.1))], [(5000, vL 3 encTime ((l0.set (0 + p1.toNat) (l0.getD (0 + p3.toNat) default)).set (0 + p3.toNat) (l0.getD (0 + p1.toNat) default)))]⟩, ⟨[(39, .c (.vptr 5000 3 (0 + a9.1.toNat) 0))], []⟩, [], [], []⟩, ⟨⟨[(35, cD (.bool true)), (39, .c (.vptr 5000 3 (0 + a9.1.toNat) 0))], [(5000, vL 3 encTime ((l0.set (0 + p1.toNat) (l0.getD (0 + p3.toNat) default)).set (0 + p3.toNat) (l0.getD (0 + p1.toNat) default)))]⟩, ⟨[(40, .agg (cTime (((l0.set (0 + p1.toNat) (l0.getD (0 + p3.toNat) default)).set (0 + p3.toNat) (l0.getD (0 + p1.toNat) default)).getD (0 + a9.1.toNat) default)))], []⟩, [], [], []⟩, ⟨⟨[(0, .c (oC 5000 3 ((l0.set (0 + p1.toNat) (l0.getD (0 + p3.toNat) default)).set (0 + p3.toNat) (l0.getD (0 + p1.toNat) default)))), (35, cD (.bool true))], []⟩, ⟨[(41, .c (oC 5000 3 ((l0.set (0 + p1.toNat) (l0.getD (0 + p3.toNat) default)).set (0 + p3.toNat) (l0.getD (0 + p1.toNat) default))))], []⟩, [], [], []⟩, ⟨⟨[(1, cD (i6 p1)), (35, cD (.bool true))], []⟩, ⟨[(42, cD (i6 p1))], []⟩, [], [], []⟩, ⟨⟨[(35, cD (.bool true)), (41, .c (oC 5000 3 ((l0.set (0 + p1.toNat) (l0.getD (0 + p3.toNat) default)).set (0 + p3.toNat) (l0.getD (0 + p1.toNat) default)))), (42, cD (i6 p1))], [(5000, vL 3 encTime ((l0.set (0 + p1.toNat) (l0.getD (0 + p3.toNat) default)).set (0 + p3.toNat) (l0.getD (0 + p1.toNat) default)))]⟩, ⟨[(43, .c (.vptr 5000 3 (0 + p1.toNat) 0))], []⟩, [], [], []⟩, ⟨⟨[(35, cD (.bool true)), (43, .c (.vptr 5000 3 (0 + p1.toNat) 0))], [(5000, vL 3 encTime ((l0.set (0 + p1.toNat) (l0.getD (0 + p3.toNat) default)).set (0 + p3.toNat) (l0.getD (0 + p1.toNat) default)))]⟩, ⟨[(44, .agg (cTime (((l0.set (0 + p1.toNat) (l0.getD (0 + p3.toNat) default)).set (0 + p3.toNat) (l0.getD (0 + p1.toNat) default)).getD (0 + p1.toNat) default)))], []⟩, [], [], []⟩, ⟨⟨[(35, cD (.bool true)), (36, cD (.fn 20 [])), (40, .agg (cTime (((l0.set (0 + p1.toNat) (l0.getD (0 + p3.toNat) default)).set (0 + p3.toNat) (l0.getD (0 + p1.toNat) default)).getD (0 + a9.1.toNat) default))), (44, .agg (cTime (((l0.set (0 + p1.toNat) (l0.getD (0 + p3.toNat) default)).set (0 + p3.toNat) (l0.getD (0 + p1.toNat) default)).getD (0 + p1.toNat) default)))], []⟩, ⟨[(45, cD (i6 r82))], []⟩, [], [], []⟩, ⟨⟨[(35, cD (.bool true)), (45, cD (i6 r82))], []⟩, ⟨[(46, cD (.bool (decide (r82 < 0))))], []⟩, [], [], []⟩, ⟨⟨[(35, cD (.bool true)), (46, cD (.bool (decide (r82 < 0))))], []⟩, ⟨[(47, cD (.bool (decide (r82 < 0))))], []⟩, [], [], []⟩]) (bef := [[], [], [0, 1], [0, 1, 2], [0, 1, 2, 3], [0, 1, 2, 3], [0, 1, 2, 3], [0, 1, 2, 3, 5, 6], [0, 1, 2, 3, 5, 6, 7], [0, 1, 2, 3], [0, 1, 2, 3], [0, 1, 2, 3, 9, 10], [0, 1, 2, 3, 9, 10, 11], [0, 1, 2, 3, 4, 5, 6, 7, 8, 9, 10, 11, 12], [0, 1, 2, 3, 4, 5, 6, 7, 8, 9, 10, 11, 12, 13], [0, 1, 2, 3, 4, 5, 6, 7, 8, 9, 10, 11, 12, 13, 14]]) (tk := [0, 1, 4, 12, 13, 47]) (sk := [5000]) (s' := ⟨[(0, .c (oC 5000 3 ((l0.set (0 + p1.toNat) (l0.getD (0 + p3.toNat) default)).set (0 + p3.toNat) (l0.getD (0 + p1.toNat) default)))), (1, cD (i6 p1)), (4, cD (.fn 20 [])), (12, cD (i6 a9.1)), (13, cD (i6 a9.2)), (47, cD (.bool (decide (r82 < 0))))], [(5000, vL 3 encTime ((l0.set (0 + p1.toNat) (l0.getD (0 + p3.toNat) default)).set (0 + p3.toNat) (l0.getD (0 + p1.toNat) default)))]⟩) (by kernel_rfl) (by kernel_rfl) (by kernel_rfl) ⟨?_, ?_, ?_, ?_, ?_, ?_, ?_, ?_, ?_, ?_, ?_, ?_, ?_, ?_, ?_, ?_, trivial⟩ (by kernel_rfl) ?_
      · exact DOk.t rfl rfl (by kernel_rfl) (by kernel_rfl)
      · exact DOk.t rfl rfl (by kernel_rfl) (by kernel_rfl)
      · exact DOk.t rfl rfl (by kernel_rfl) (by kernel_rfl)
      · exact DOk.stepP (fun b => .val (.c (.d (.bool b))) (True)) (p := (decide (a9.1 ≤ a9.2))) hp77 (fun r => by kernel_rfl) (fun r => by kernel_rfl) trivial (by kernel_rfl) (by kernel_rfl) (fun r => rfl)
      · exact DOk.t rfl rfl (by kernel_rfl) (by kernel_rfl)
      · exact DOk.t rfl rfl (by kernel_rfl) (by kernel_rfl)
      · exact DOk.t rfl rfl (by kernel_rfl) (by kernel_rfl)
      · exact DOk.step (.val (.c (.vptr 5000 3 (0 + a9.1.toNat) 0)) ((0 : Int) ≤ a9.1 ∧ a9.1 < (((l0.set (0 + p1.toNat) (l0.getD (0 + p3.toNat) default)).set (0 + p3.toNat) (l0.getD (0 + p1.toNat) default)).length : Int))) (fun r => by kernel_rfl) (fun r => by kernel_rfl) hc78 (by kernel_rfl) (by kernel_rfl) (fun r => rfl)
      · exact DOk.step (.val (.agg (cTime (((l0.set (0 + p1.toNat) (l0.getD (0 + p3.toNat) default)).set (0 + p3.toNat) (l0.getD (0 + p1.toNat) default)).getD (0 + a9.1.toNat) default))) ((0 + a9.1.toNat) < ((l0.set (0 + p1.toNat) (l0.getD (0 + p3.toNat) default)).set (0 + p3.toNat) (l0.getD (0 + p1.toNat) default)).length)) (fun r => by kernel_rfl) (fun r => by kernel_rfl) hc79 (by kernel_rfl) (by kernel_rfl) (fun r => rfl)
      · exact DOk.t rfl rfl (by kernel_rfl) (by kernel_rfl)
      · exact DOk.t rfl rfl (by kernel_rfl) (by kernel_rfl)
      · exact DOk.step (.val (.c (.vptr 5000 3 (0 + p1.toNat) 0)) ((0 : Int) ≤ p1 ∧ p1 < (((l0.set (0 + p1.toNat) (l0.getD (0 + p3.toNat) default)).set (0 + p3.toNat) (l0.getD (0 + p1.toNat) default)).length : Int))) (fun r => by kernel_rfl) (fun r => by kernel_rfl) hc80 (by kernel_rfl) (by kernel_rfl) (fun r => rfl)
      · exact DOk.step (.val (.agg (cTime (((l0.set (0 + p1.toNat) (l0.getD (0 + p3.toNat) default)).set (0 + p3.toNat) (l0.getD (0 + p1.toNat) default)).getD (0 + p1.toNat) default))) ((0 + p1.toNat) < ((l0.set (0 + p1.toNat) (l0.getD (0 + p3.toNat) default)).set (0 + p3.toNat) (l0.getD (0 + p1.toNat) default)).length)) (fun r => by kernel_rfl) (fun r => by kernel_rfl) hc81 (by kernel_rfl) (by kernel_rfl) (fun r => rfl)
      · exact DOk.callA (caps := []) (xs := [.agg (cTime (((l0.set (0 + p1.toNat) (l0.getD (0 + p3.toNat) default)).set (0 + p3.toNat) (l0.getD (0 + p1.toNat) default)).getD (0 + a9.1.toNat) default)), .agg (cTime (((l0.set (0 + p1.toNat) (l0.getD (0 + p3.toNat) default)).set (0 + p3.toNat) (l0.getD (0 + p1.toNat) default)).getD (0 + p1.toNat) default))]) (moment_Compare_ok hr82) rfl (fun r => by kernel_rfl) rfl (fun r => by kernel_rfl) (fun r => by kernel_rfl) (fun r => (.cons (.refl _) (.cons (.refl _) .nil))) rfl rfl (fun r => rfl)
      · exact DOk.t rfl rfl (by kernel_rfl) (by kernel_rfl)
      · exact DOk.t rfl rfl (by kernel_rfl) (by kernel_rfl)
      exact ⟨_, h, rfl⟩
     ·refine Tri.drawn (specs := [⟨⟨[(12, cD (i6 a9.1))], []⟩, ⟨[(32, cD (i6 a9.1))], []⟩, [], [], []⟩, ⟨⟨[(13, cD (i6 a9.2))], []⟩, ⟨[(33, cD (i6 a9.2))], []⟩, [], [], []⟩, ⟨⟨[(32, cD (i6 a9.1)), (33, cD (i6 a9.2))], []⟩, ⟨[(34, cD (.bool (decide (a9.1 ≤ a9.2))))], []⟩, [], [], []⟩, ⟨⟨[(34, cD (.bool (decide (a9.1 ≤ a9.2))))], []⟩, ⟨[(35, .c (.d (.bool false)))], []⟩, [], [], []⟩, ⟨⟨[(4, cD (.fn 20 [])), (35, cD (.bool false))], []⟩, ⟨[(36, .tup [])], []⟩, [], [], []⟩, ⟨⟨[(0, .c (oC 5000 3 ((l0.set (0 + p1.toNat) (l0.getD (0 + p3.toNat) default)).set (0 + p3.toNat) (l0.getD (0 + p1.toNat) default)))), (35, cD (.bool false))], []⟩, ⟨[(37, .tup [])], []⟩, [], [], []⟩, ⟨⟨[(12, cD (i6 a9.1)), (35, cD (.bool false))], []⟩, ⟨[(38, .tup [])], []⟩, [], [], []⟩, ⟨⟨[(35, cD (.bool false)), (37, .tup []), (38, .tup [])], []⟩, ⟨[(39, .tup [])], []⟩, [], [], []⟩, ⟨⟨[(35, cD (.bool false)), (39, .tup [])], []⟩, ⟨[(40, .tup [])], []⟩, [], [], []⟩, ⟨⟨[(0, .c (oC 5000 3 ((l0.set (0 + p1.toNat) (l0.getD (0 + p3.toNat) default)).set (0 + p3.toNat) (l0.getD (0 + p1.toNat) default)))), (35, cD (.bool false))], []⟩, ⟨[(41, .tup [])], []⟩, [], [], []⟩, ⟨⟨[(1, cD (i6 p1)), (35, cD (.bool false))], []⟩, ⟨[(42, .tup [])], []⟩, [], [], []⟩, ⟨⟨[(35, cD (.bool false)), (41, .tup []), (42, .tup [])], []⟩, ⟨[(43, .tup [])], []⟩, [], [], []⟩, ⟨⟨[(35, cD (.bool false)), (43, .tup [])], []⟩, ⟨[(44, .tup [])], []⟩, [], [], []⟩, ⟨⟨[(35, cD (.bool false)), (36, .tup []), (40, .tup []), (44, .tup [])], []⟩, ⟨[(45, .tup [])], []⟩, [], [], []⟩, ⟨⟨[(35, cD (.bool false)), (45, .tup [])], []⟩, ⟨[(46, .tup [])], []⟩, [], [], []⟩, ⟨⟨[(35, cD (.bool false)), (46, .tup [])], []⟩, ⟨[(47, cD (.bool false))], []⟩, [], [], []⟩]) (bef := [[], [], [0, 1], [0, 1, 2], [0, 1, 2, 3], [0, 1, 2, 3], [0, 1, 2, 3], [0, 1, 2, 3, 5, 6], [0, 1, 2, 3, 5, 6, 7], [0, 1, 2, 3], [0, 1, 2, 3], [0, 1, 2, 3, 9, 10], [0, 1, 2, 3, 9, 10, 11], [0, 1, 2, 3, 4, 5, 6, 7, 8, 9, 10, 11, 12], [0, 1, 2, 3, 4, 5, 6, 7, 8, 9, 10, 11, 12, 13], [0, 1, 2, 3, 4, 5, 6, 7, 8, 9, 10, 11, 12, 13, 14]]) (tk := [0, 1, 4, 12, 13, 47]) (sk := [5000]) (s' := ⟨[(0, .c (oC 5000 3 ((l0.set (0 + p1.toNat) (l0.getD (0 + p3.toNat) default)).set (0 + p3.toNat) (l0.getD (0 + p1.toNat) default)))), (1, cD (i6 p1)), (4, cD (.fn 20 [])), (12, cD (i6 a9.1)), (13, cD (i6 a9.2)), (47, cD (.bool false))], [(5000, vL 3 encTime ((l0.set (0 + p1.toNat) (l0.getD (0 + p3.toNat) default)).set (0 + p3.toNat) (l0.getD (0 + p1.toNat) default)))]⟩) (by kernel_rfl) (by kernel_rfl) (by kernel_rfl) ⟨?_, ?_, ?_, ?_, ?_, ?_, ?_, ?_, ?_, ?_, ?_, ?_, ?_, ?_, ?_, ?_, trivial⟩ (by kernel_rfl) ?_
      · exact DOk.t rfl rfl (by kernel_rfl) (by kernel_rfl)
      · exact DOk.t rfl rfl (by kernel_rfl) (by kernel_rfl)
      · exact DOk.t rfl rfl (by kernel_rfl) (by kernel_rfl)
      · exact DOk.stepP (fun b => .val (.c (.d (.bool b))) (True)) (p := (decide (a9.1 ≤ a9.2))) hp77 (fun r => by kernel_rfl) (fun r => by kernel_rfl) trivial (by kernel_rfl) (by kernel_rfl) (fun r => rfl)
      · exact DOk.skip (fun r => by kernel_rfl) rfl rfl (fun r => rfl)
      · exact DOk.skip (fun r => by kernel_rfl) rfl rfl (fun r => rfl)
      · exact DOk.skip (fun r => by kernel_rfl) rfl rfl (fun r => rfl)
      · exact DOk.skip (fun r => by kernel_rfl) rfl rfl (fun r => rfl)
      · exact DOk.skip (fun r => by kernel_rfl) rfl rfl (fun r => rfl)
      · exact DOk.skip (fun r => by kernel_rfl) rfl rfl (fun r => rfl)
      · exact DOk.skip (fun r => by kernel_rfl) rfl rfl (fun r => rfl)
      · exact DOk.skip (fun r => by kernel_rfl) rfl rfl (fun r => rfl)
      · exact DOk.skip (fun r => by kernel_rfl) rfl rfl (fun r => rfl)
      · exact DOk.skip (fun r => by kernel_rfl) rfl rfl (fun r => rfl)
      · exact DOk.skip (fun r => by kernel_rfl) rfl rfl (fun r => rfl)
      · exact DOk.t rfl rfl (by kernel_rfl) (by kernel_rfl)
      exact ⟨_, h, rfl⟩
   ·intro a10 h
    show Tri _ _ _ _
    refine Tri.seqS ?_
    refine Tri.keep [0, 1, 4, 12, 13] [5000] (s' := ⟨[(0, .c (oC 5000 3 ((l0.set (0 + p1.toNat) (l0.getD (0 + p3.toNat) default)).set (0 + p3.toNat) (l0.getD (0 + p1.toNat) default)))), (1, cD (i6 p1)), (4, cD (.fn 20 [])), (12, cD (i6 a10.1)), (13, cD (i6 a10.2))], [(5000, vL 3 encTime ((l0.set (0 + p1.toNat) (l0.getD (0 + p3.toNat) default)).set (0 + p3.toNat) (l0.getD (0 + p1.toNat) default)))]⟩) (by kernel_rfl) ?_
    refine Tri.loopK (fuel := fuel) (st0 := a10.2) (fun (x : Empty) s => False) (fun (a11 : Int) => ⟨[(0, .c (oC 5000 3 ((l0.set (0 + p1.toNat) (l0.getD (0 + p3.toNat) default)).set (0 + p3.toNat) (l0.getD (0 + p1.toNat) default)))), (1, cD (i6 p1)), (4, cD (.fn 20 [])), (12, cD (i6 a10.1)), (13, cD (i6 a11))], [(5000, vL 3 encTime ((l0.set (0 + p1.toNat) (l0.getD (0 + p3.toNat) default)).set (0 + p3.toNat) (l0.getD (0 + p1.toNat) default)))]⟩) (fun (a11 : Int) => ⟨[(0, .c (oC 5000 3 ((l0.set (0 + p1.toNat) (l0.getD (0 + p3.toNat) default)).set (0 + p3.toNat) (l0.getD (0 + p1.toNat) default)))), (1, cD (i6 p1)), (4, cD (.fn 20 [])), (12, cD (i6 a10.1)), (13, cD (i6 a11))], [(5000, vL 3 encTime ((l0.set (0 + p1.toNat) (l0.getD (0 + p3.toNat) default)).set (0 + p3.toNat) (l0.getD (0 + p1.toNat) default)))]⟩) h ?_ ?_ ?_
    ·intro a11 c h
     show Tri _ _ ⟨[(0, .c (oC 5000 3 ((l0.set (0 + p1.toNat) (l0.getD (0 + p3.toNat) default)).set (0 + p3.toNat) (l0.getD (0 + p1.toNat) default)))), (1, cD (i6 p1)), (4, cD (.fn 20 [])), (12, cD (i6 a10.1)), (13, cD (i6 a11))], [(5000, vL 3 encTime ((l0.set (0 + p1.toNat) (l0.getD (0 + p3.toNat) default)).set (0 + p3.toNat) (l0.getD (0 + p1.toNat) default)))]⟩ _
     refine Tri.seqS ?_
     refine Tri.seqJ (fun (a67 : Bool) => ⟨[(0, .c (oC 5000 3 ((l0.set (0 + p1.toNat) (l0.getD (0 + p3.toNat) default)).set (0 + p3.toNat) (l0.getD (0 + p1.toNat) default)))), (1, cD (i6 p1)), (4, cD (.fn 20 [])), (12, cD (i6 a10.1)), (13, cD (i6 a11)), (66, cD (.bool a67))], [(5000, vL 3 encTime ((l0.set (0 + p1.toNat) (l0.getD (0 + p3.toNat) default)).set (0 + p3.toNat) (l0.getD (0 + p1.toNat) default)))]⟩) h (fun a67 h => ?_) (fun j68 h => ?_)
     ·show Tri _ _ ⟨[(0, .c (oC 5000 3 ((l0.set (0 + p1.toNat) (l0.getD (0 + p3.toNat) default)).set (0 + p3.toNat) (l0.getD (0 + p1.toNat) default)))), (1, cD (i6 p1)), (4, cD (.fn 20 [])), (12, cD (i6 a10.1)), (13, cD (i6 a11)), (66, cD (.bool a67))], [(5000, vL 3 encTime ((l0.set (0 + p1.toNat) (l0.getD (0 + p3.toNat) default)).set (0 + p3.toNat) (l0.getD (0 + p1.toNat) default)))]⟩ _
      refine Tri.condP (b := a67) rfl h (fun h => ?_) (fun h => ?_)
      ·refine Tri.skip ?_
       show Tri _ _ _ _
       refine Tri.blockB ?_
       refine Tri.reg ?_
       refine At.seg 3 [0, 1, 4, 12, 13] [5000] (s' := ⟨[(0, .c (oC 5000 3 ((l0.set (0 + p1.toNat) (l0.getD (0 + p3.toNat) default)).set (0 + p3.toNat) (l0.getD (0 + p1.toNat) default)))), (1, cD (i6 p1)), (4, cD (.fn 20 [])), (12, cD (i6 a10.1)), (13, cD (i6 (IntKind.i64.wrap (a11 - 1))))], [(5000, vL 3 encTime ((l0.set (0 + p1.toNat) (l0.getD (0 + p3.toNat) default)).set (0 + p3.toNat) (l0.getD (0 + p1.toNat) default)))]⟩) (c := True ∧ True ∧ True ∧ True) (by kernel_rfl) ⟨trivial, trivial, trivial, trivial⟩ ?_
       refine At.done rfl ?_
       cases h
       exact rfl
      ·refine Tri.keep [0, 1, 4, 12, 13] [5000] (s' := ⟨[(0, .c (oC 5000 3 ((l0.set (0 + p1.toNat) (l0.getD (0 + p3.toNat) default)).set (0 + p3.toNat) (l0.getD (0 + p1.toNat) default)))), (1, cD (i6 p1)), (4, cD (.fn 20 [])), (12, cD (i6 a10.1)), (13, cD (i6 a11))], [(5000, vL 3 encTime ((l0.set (0 + p1.toNat) (l0.getD (0 + p3.toNat) default)).set (0 + p3.toNat) (l0.getD (0 + p1.toNat) default)))]⟩) (by kernel_rfl) ?_
       refine Tri.exit ?_
       cases h
       exact ⟨rfl, rfl⟩
     ·rcases bf_cases h with ⟨hp69, h⟩ | ⟨hp69, h⟩
      ·obtain ⟨hc70, h⟩ := need_elim h
       obtain ⟨hc71, h⟩ := need_elim h
       obtain ⟨hc72, h⟩ := need_elim h
       obtain ⟨hc73, h⟩ := need_elim h
       obtain ⟨r74, hr74, h⟩ := bind_elim h
       refine Tri.drawn (specs := [⟨⟨[(12, cD (i6 a10.1))], []⟩, ⟨[(50, cD (i6 a10.1))], []⟩, [], [], []⟩, ⟨⟨[(13, cD (i6 a11))], []⟩, ⟨[(51, cD (i6 a11))], []⟩, [], [], []⟩, ⟨⟨[(50, cD (i6 a10.1)), (51, cD (i6 a11))], []⟩, ⟨[(52, cD (.bool (decide (a10.1 ≤ a11))))], []⟩, [], [], []⟩, ⟨⟨[(52, cD (.bool (decide (a10.1 ≤ a11))))], []⟩, ⟨[(53, .c (.d (.bool true)))], []⟩, [], [], []⟩, ⟨⟨[(4, cD (.fn 20 [])), (53, cD (.bool true))], []⟩, ⟨[(54, cD (.fn 20 []))], []⟩, [], [], []⟩, ⟨⟨[(0, .c (oC 5000 3 ((l0.set (0 + p1.toNat) (l0.getD (0 + p3.toNat) default)).set (0 + p3.toNat) (l0.getD (0 + p1.toNat) default)))), (53, cD (.bool true))], []⟩, ⟨[(55, .c (oC 5000 3 ((l0.set (0 + p1.toNat) (l0.getD (0 + p3.toNat) default)).set (0 + p3.toNat) (l0.getD (0 + p1.toNat) default))))], []⟩, [], [], []⟩, ⟨⟨[(13, cD (i6 a11)), (53, cD (.bool true))], []⟩, ⟨[(56, cD (i6 a11))], []⟩, [], [], []⟩, ⟨⟨[(53, cD (.bool true)), (55, .c (oC 5000 3 ((l0.set (0 + p1.toNat) (l0.getD (0 + p3.toNat) default)).set (0 + p3.toNat) (l0.getD (0 + p1.toNat) default)))), (56, cD (i6 a11))], [(5000, vL 3 encTime ((l0.set (0 + p1.toNat) (l0.getD (0 + p3.toNat) default)).set (0 + p3.toNat) (l0.getD (0 + p1.toNat) default)))]⟩, ⟨[(57, .c (.vptr 5000 3 (0 + a11.toNat) 0))], []⟩, [], [], []⟩, ⟨⟨[(53, cD (.bool true)), (57, .c (.vptr 5000 3 (0 + a11.toNat) 0))], [(5000, vL 3 encTime ((l0.set (0 + p1.toNat) (l0.getD (0 + p3.toNat) default)).set (0 + p3.toNat) (l0.getD (0 + p1.toNat) default)))]⟩, ⟨[(58, .agg (cTime (((l0.set (0 + p1.toNat) (l0.getD (0 + p3.toNat) default)).set (0 + p3.toNat) (l0.getD (0 + p1.toNat) default)).getD (0 + a11.toNat) default)))], []⟩, [], [], []⟩, ⟨⟨[(0, .c (oC 5000 3 ((l0.set (0 + p1.toNat) (l0.getD (0 + p3.toNat) default)).set (0 + p3.toNat) (l0.getD (0 + p1.toNat) default)))), (53, cD (.bool true))], []⟩, ⟨[(59, .c (oC 5000 3 ((l0.set (0 + p1.toNat) (l0.getD (0 + p3.toNat) default)).set (0 + p3.toNat) (l0.getD (0 + p1.toNat) default))))], []⟩, [], [], []⟩, ⟨⟨[(1, cD (i6 p1)), (53, cD (.bool true))], []⟩, ⟨[(60, cD (i6 p1))], []⟩, [], [], []⟩, ⟨⟨[(53, cD (.bool true)), (59, .c (oC 5000 3 ((l0.set (0 + p1.toNat) (l0.getD (0 + p3.toNat) default)).set (0 + p3.toNat) (l0.getD (0 + p1.toNat) default)))), (60, cD (i6 p1))], [(5000, vL 3 encTime ((l0.set (0 + p1.toNat) (l0.getD (0 + p3.toNat) default)).set (0 + p3.toNat) (l0.getD (0 + p1.toNat) default)))]⟩, ⟨[(61, .c (.vptr 5000 3 (0 + p1.toNat) 0))], []⟩, [], [], []⟩, ⟨⟨[(53, cD (.bool true)), (61, .c (.vptr 5000 3 (0 + p1.toNat) 0))], [(5000, vL 3 encTime ((l0.set (0 + p1.toNat) (l0.getD (0 + p3.toNat) default)).set (0 + p3.toNat) (l0.getD (0 + p1.toNat) default)))]⟩, ⟨[(62, .agg (cTime (((l0.set (0 + p1.toNat) (l0.getD (0 + p3.toNat) default)).set (0 + p3.toNat) (l0.getD (0 + p1.toNat) default)).getD (0 + p1.toNat) default)))], []⟩, [], [], []⟩, ⟨⟨[(53, cD (.bool true)), (54, cD (.fn 20 [])), (58, .agg (cTime (((l0.set (0 + p1.toNat) (l0.getD (0 + p3.toNat) default)).set (0 + p3.toNat) (l0.getD (0 + p1.toNat) default)).getD (0 + a11.toNat) default))), (62, .agg (cTime (((l0.set (0 + p1.toNat) (l0.getD (0 + p3.toNat) default)).set (0 + p3.toNat) (l0.getD (0 + p1.toNat) default)).getD (0 + p1.toNat) default)))], []⟩, ⟨[(63, cD (i6 r74))], []⟩, [], [], []⟩, ⟨⟨[(53, cD (.bool true)), (63, cD (i6 r74))], []⟩, ⟨[(64, cD (.bool (decide (r74 < 0))))], []⟩, [], [], []⟩, ⟨⟨[(53, cD (.bool true)), (64, cD (.bool (decide (r74 < 0))))], []⟩, ⟨[(65, cD (.bool (!(decide (r74 < 0)))))], []⟩, [], [], []⟩, ⟨⟨[(53, cD (.bool true)), (65, cD (.bool (!(decide (r74 < 0)))))], []⟩, ⟨[(66, cD (.bool (!(decide (r74 < 0)))))], []⟩, [], [], []⟩]) (bef := [[], [], [0, 1], [0, 1, 2], [0, 1, 2, 3], [0, 1, 2, 3], [0, 1, 2, 3], [0, 1, 2, 3, 5, 6], [0, 1, 2, 3, 5, 6, 7], [0, 1, 2, 3], [0, 1, 2, 3], [0, 1, 2, 3, 9, 10], [0, 1, 2, 3, 9, 10, 11], [0, 1, 2, 3, 4, 5, 6, 7, 8, 9, 10, 11, 12], [0, 1, 2, 3, 4, 5, 6, 7, 8, 9, 10, 11, 12, 13], [0, 1, 2, 3, 4, 5, 6, 7, 8, 9, 10, 11, 12, 13, 14], [0, 1, 2, 3, 4, 5, 6, 7, 8, 9, 10, 11, 12, 13, 14, 15]]) (tk := [0, 1, 4, 12, 13, 66]) (sk := [5000]) (s' := ⟨[(0, .c (oC 5000 3 ((l0.set (0 + p1.toNat) (l0.getD (0 + p3.toNat) default)).set (0 + p3.toNat) (l0.getD (0 + p1.toNat) default)))), (1, cD (i6 p1)), (4, cD (.fn 20 [])), (12, cD (i6 a10.1)), (13, cD (i6 a11)), (66, cD (.bool (!(decide (r74 < 0)))))], [(5000, vL 3 encTime ((l0.set (0 + p1.toNat) (l0.getD (0 + p3.toNat) default)).set (0 + p3.toNat) (l0.getD (0 + p1.toNat) default)))]⟩) (by kernel_rfl) (by kernel_rfl) (by kernel_rfl) ⟨?_, ?_, ?_, ?_, ?_, ?_, ?_, ?_, ?_, ?_, ?_, ?_, ?_, ?_, ?_, ?_, ?_, trivial⟩ (by kernel_rfl) ?_
       · exact DOk.t rfl rfl (by kernel_rfl) (by kernel_rfl)
       · exact DOk.t rfl rfl (by kernel_rfl) (by kernel_rfl)
       · exact DOk.t rfl rfl (by kernel_rfl) (by kernel_rfl)
       · exact DOk.stepP (fun b => .val (.c (.d (.bool b))) (True)) (p := (decide (a10.1 ≤ a11))) hp69 (fun r => by kernel_rfl) (fun r => by kernel_rfl) trivial (by kernel_rfl) (by kernel_rfl) (fun r => rfl)
       · exact DOk.t rfl rfl (by kernel_rfl) (by kernel_rfl)
       · exact DOk.t rfl rfl (by kernel_rfl) (by kernel_rfl)
       · exact DOk.t rfl rfl (by kernel_rfl) (by kernel_rfl)
       · exact DOk.step (.val (.c (.vptr 5000 3 (0 + a11.toNat) 0)) ((0 : Int) ≤ a11 ∧ a11 < (((l0.set (0 + p1.toNat) (l0.getD (0 + p3.toNat) default)).set (0 + p3.toNat) (l0.getD (0 + p1.toNat) default)).length : Int))) (fun r => by kernel_rfl) (fun r => by kernel_rfl) hc70 (by kernel_rfl) (by kernel_rfl) (fun r => rfl)
       · exact DOk.step (.val (.agg (cTime (((l0.set (0 + p1.toNat) (l0.getD (0 + p3.toNat) default)).set (0 + p3.toNat) (l0.getD (0 + p1.toNat) default)).getD (0 + a11.toNat) default))) ((0 + a11.toNat) < ((l0.set (0 + p1.toNat) (l0.getD (0 + p3.toNat) default)).set (0 + p3.toNat) (l0.getD (0 + p1.toNat) default)).length)) (fun r => by kernel_rfl) (fun r => by kernel_rfl) hc71 (by kernel_rfl) (by kernel_rfl) (fun r => rfl)
       · exact DOk.t rfl rfl (by kernel_rfl) (by kernel_rfl)
       · exact DOk.t rfl rfl (by kernel_rfl) (by kernel_rfl)
       · exact DOk.step (.val (.c (.vptr 5000 3 (0 + p1.toNat) 0)) ((0 : Int) ≤ p1 ∧ p1 < (((l0.set (0 + p1.toNat) (l0.getD (0 + p3.toNat) default)).set (0 + p3.toNat) (l0.getD (0 + p1.toNat) default)).length : Int))) (fun r => by kernel_rfl) (fun r => by kernel_rfl) hc72 (by kernel_rfl) (by kernel_rfl) (fun r => rfl)
       · exact DOk.step (.val (.agg (cTime (((l0.set (0 + p1.toNat) (l0.getD (0 + p3.toNat) default)).set (0 + p3.toNat) (l0.getD (0 + p1.toNat) default)).getD (0 + p1.toNat) default))) ((0 + p1.toNat) < ((l0.set (0 + p1.toNat) (l0.getD (0 + p3.toNat) default)).set (0 + p3.toNat) (l0.getD (0 + p1.toNat) default)).length)) (fun r => by kernel_rfl) (fun r => by kernel_rfl) hc73 (by kernel_rfl) (by kernel_rfl) (fun r => rfl)
       · exact DOk.callA (caps := []) (xs := [.agg (cTime (((l0.set (0 + p1.toNat) (l0.getD (0 + p3.toNat) default)).set (0 + p3.toNat) (l0.getD (0 + p1.toNat) default)).getD (0 + a11.toNat) default)), .agg (cTime (((l0.set (0 + p1.toNat) (l0.getD (0 + p3.toNat) default)).set (0 + p3.toNat) (l0.getD (0 + p1.toNat) default)).getD (0 + p1.toNat) default))]) (moment_Compare_ok hr74) rfl (fun r => by kernel_rfl) rfl (fun r => by kernel_rfl) (fun r => by kernel_rfl) (fun r => (.cons (.refl _) (.cons (.refl _) .nil))) rfl rfl (fun r => rfl)
       · exact DOk.t rfl rfl (by kernel_rfl) (by kernel_rfl)
       · exact DOk.t rfl rfl (by kernel_rfl) (by kernel_rfl)
       · exact DOk.t rfl rfl (by kernel_rfl) (by kernel_rfl)
       exact ⟨_, h, rfl⟩
      ·refine Tri.drawn (specs := [⟨⟨[(12, cD (i6 a10.1))], []⟩, ⟨[(50, cD (i6 a10.1))], []⟩, [], [], []⟩, ⟨⟨[(13, cD (i6 a11))], []⟩, ⟨[(51, cD (i6 a11))], []⟩, [], [], []⟩, ⟨⟨[(50, cD (i6 a10.1)), (51, cD (i6 a11))], []⟩, ⟨[(52, cD (.bool (decide (a10.1 ≤ a11))))], []⟩, [], [], []⟩, ⟨⟨[(52, cD (.bool (decide (a10.1 ≤ a11))))], []⟩, ⟨[(53, .c (.d (.bool false)))], []⟩, [], [], []⟩, ⟨⟨[(4, cD (.fn 20 [])), (53, cD (.bool false))], []⟩, ⟨[(54, .tup [])], []⟩, [], [], []⟩, ⟨⟨[(0, .c (oC 5000 3 ((l0.set (0 + p1.toNat) (l0.getD (0 + p3.toNat) default)).set (0 + p3.toNat) (l0.getD (0 + p1.toNat) default)))), (53, cD (.bool false))], []⟩, ⟨[(55, .tup [])], []⟩, [], [], []⟩, ⟨⟨[(13, cD (i6 a11)), (53, cD (.bool false))], []⟩, ⟨[(56, .tup [])], []⟩, [], [], []⟩, ⟨⟨[(53, cD (.bool false)), (55, .tup []), (56, .tup [])], []⟩, ⟨[(57, .tup [])], []⟩, [], [], []⟩, ⟨⟨[(53, cD (.bool false)), (57, .tup [])], []⟩, ⟨[(58, .tup [])], []⟩, [], [], []⟩, ⟨⟨[(0, .c (oC 5000 3 ((l0.set (0 + p1.toNat) (l0.getD (0 + p3.toNat) default)).set (0 + p3.toNat) (l0.getD (0 + p1.toNat) default)))), (53, cD (.bool false))], []⟩, ⟨[(59, .tup [])], []⟩, [], [], []⟩, ⟨⟨[(1, cD (i6 p1)), (53, cD (.bool false))], []⟩, ⟨[(60, .tup [])], []⟩, [], [], []⟩, ⟨⟨[(53, cD (.bool false)), (59, .tup []), (60, .tup [])], []⟩, ⟨[(61, .tup [])], []⟩, [], [], []⟩, ⟨⟨[(53, cD (.bool false)), (61, .tup [])], []⟩, ⟨[(62, .tup [])], []⟩, [], [], []⟩, ⟨⟨[(53, cD (.bool false)), (54, .tup []), (58, .tup []), (62, .tup [])], []⟩, ⟨[(63, .tup [])], []⟩, [], [], []⟩, ⟨⟨[(53, cD (.bool false)), (63, .tup [])], []⟩, ⟨[(64, .tup [])], []⟩, [], [], []⟩, ⟨⟨[(53, cD (.bool false)), (64, .tup [])], []⟩, ⟨[(65, .tup [])], []⟩, [], [], []⟩, ⟨⟨[(53, cD (.bool false)), (65, .tup [])], []⟩, ⟨[(66, cD (.bool false))], []⟩, [], [], []⟩]) (bef := [[], [], [0, 1], [0, 1, 2], [0, 1, 2, 3], [0, 1, 2, 3], [0, 1, 2, 3], [0, 1, 2, 3, 5, 6], [0, 1, 2, 3, 5, 6, 7], [0, 1, 2, 3], [0, 1, 2, 3], [0, 1, 2, 3, 9, 10], [0, 1, 2, 3, 9, 10, 11], [0, 1, 2, 3, 4, 5, 6, 7, 8, 9, 10, 11, 12], [0, 1, 2, 3, 4, 5, 6, 7, 8, 9, 10, 11, 12, 13], [0, 1, 2, 3, 4, 5, 6, 7, 8, 9, 10, 11, 12, 13, 14], [0, 1, 2, 3, 4, 5, 6, 7, 8, 9, 10, 11, 12, 13, 14, 15]]) (tk := [0, 1, 4, 12, 13, 66]) (sk := [5000]) (s' := ⟨[(0, .c (oC 5000 3 ((l0.set (0 + p1.toNat) (l0.getD (0 + p3.toNat) default)).set (0 + p3.toNat) (l0.getD (0 + p1.toNat) default)))), (1, cD (i6 p1)), (4, cD (.fn 20 [])), (12, cD (i6 a10.1)), (13, cD (i6 a11)), (66, cD (.bool false))], [(5000, vL 3 encTime ((l0.set (0 + p1.toNat) (l0.getD (0 + p3.toNat) default)).set (0 + p3.toNat) (l0.getD (0 + p1.toNat) default)))]⟩) (by kernel_rfl) (by kernel_rfl) (by kernel_rfl) ⟨?_, ?_, ?_, ?_, ?_, ?_, ?_, ?_, ?_, ?_, ?_, ?_, ?_, ?_, ?_, ?_, ?_, trivial⟩ (by kernel_rfl) ?_
       · exact DOk.t rfl rfl (by kernel_rfl) (by kernel_rfl)
       · exact DOk.t rfl rfl (by kernel_rfl) (by kernel_rfl)
       · exact DOk.t rfl rfl (by kernel_rfl) (by kernel_rfl)
       · exact DOk.stepP (fun b => .val (.c (.d (.bool b))) (True)) (p := (decide (a10.1 ≤ a11))) hp69 (fun r => by kernel_rfl) (fun r => by kernel_rfl) trivial (by kernel_rfl) (by kernel_rfl) (fun r => rfl)
       · exact DOk.skip (fun r => by kernel_rfl) rfl rfl (fun r => rfl)
       · exact DOk.skip (fun r => by kernel_rfl) rfl rfl (fun r => rfl)
       · exact DOk.skip (fun r => by kernel_rfl) rfl rfl (fun r => rfl)
       · exact DOk.skip (fun r => by kernel_rfl) rfl rfl (fun r => rfl)
       · exact DOk.skip (fun r => by kernel_rfl) rfl rfl (fun r => rfl)
       · exact DOk.skip (fun r => by kernel_rfl) rfl rfl (fun r => rfl)
       · exact DOk.skip (fun r => by kernel_rfl) rfl rfl (fun r => rfl)
       · exact DOk.skip (fun r => by kernel_rfl) rfl rfl (fun r => rfl)
       · exact DOk.skip (fun r => by kernel_rfl) rfl rfl (fun r => rfl)
       · exact DOk.skip (fun r => by kernel_rfl) rfl rfl (fun r => rfl)
       · exact DOk.skip (fun r => by kernel_rfl) rfl rfl (fun r => rfl)
       · exact DOk.skip (fun r => by kernel_rfl) rfl rfl (fun r => rfl)
       · exact DOk.t rfl rfl (by kernel_rfl) (by kernel_rfl)
       exact ⟨_, h, rfl⟩
    ·intro a12 h
     show Tri _ _ _ _
     refine Tri.seqS ?_
     refine Tri.seqS ?_
     refine Tri.reg ?_
     refine At.seg 3 [0, 1, 4, 12, 13, 71] [5000] (s' := ⟨[(0, .c (oC 5000 3 ((l0.set (0 + p1.toNat) (l0.getD (0 + p3.toNat) default)).set (0 + p3.toNat) (l0.getD (0 + p1.toNat) default)))), (1, cD (i6 p1)), (4, cD (.fn 20 [])), (12, cD (i6 a10.1)), (13, cD (i6 a12)), (71, cD (.bool (decide (a12 < a10.1))))], [(5000, vL 3 encTime ((l0.set (0 + p1.toNat) (l0.getD (0 + p3.toNat) default)).set (0 + p3.toNat) (l0.getD (0 + p1.toNat) default)))]⟩) (c := True ∧ True ∧ True ∧ True) (by kernel_rfl) ⟨trivial, trivial, trivial, trivial⟩ ?_
     refine At.done rfl ?_
     show Tri _ _ _ _
     refine Tri.condP (b := (decide (a12 < a10.1))) rfl h (fun h => ?_) (fun h => ?_)
     ·refine Tri.seqS ?_
      obtain ⟨hc13, h⟩ := need_elim h
      obtain ⟨hc14, h⟩ := need_elim h
      obtain ⟨hc15, h⟩ := need_elim h
      obtain ⟨hc16, h⟩ := need_elim h
      obtain ⟨hc17, h⟩ := need_elim h
      obtain ⟨hc18, h⟩ := need_elim h
      obtain ⟨hc19, h⟩ := need_elim h
      obtain ⟨hc20, h⟩ := need_elim h
      refine Tri.drawn (specs := [⟨⟨[(0, .c (oC 5000 3 ((l0.set (0 + p1.toNat) (l0.getD (0 + p3.toNat) default)).set (0 + p3.toNat) (l0.getD (0 + p1.toNat) default))))], []⟩, ⟨[(72, .c (oC 5000 3 ((l0.set (0 + p1.toNat) (l0.getD (0 + p3.toNat) default)).set (0 + p3.toNat) (l0.getD (0 + p1.toNat) default))))], []⟩, [], [], []⟩, ⟨⟨[(13, cD (i6 a12))], []⟩, ⟨[(73, cD (i6 a12))], []⟩, [], [], []⟩, ⟨⟨[(0, .c (oC 5000 3 ((l0.set (0 + p1.toNat) (l0.getD (0 + p3.toNat) default)).set (0 + p3.toNat) (l0.getD (0 + p1.toNat) default))))], []⟩, ⟨[(74, .c (oC 5000 3 ((l0.set (0 + p1.toNat) (l0.getD (0 + p3.toNat) default)).set (0 + p3.toNat) (l0.getD (0 + p1.toNat) default))))], []⟩, [], [], []⟩, ⟨⟨[(1, cD (i6 p1))], []⟩, ⟨[(75, cD (i6 p1))], []⟩, [], [], []⟩, ⟨⟨[(0, .c (oC 5000 3 ((l0.set (0 + p1.toNat) (l0.getD (0 + p3.toNat) default)).set (0 + p3.toNat) (l0.getD (0 + p1.toNat) default))))], []⟩, ⟨[(76, .c (oC 5000 3 ((l0.set (0 + p1.toNat) (l0.getD (0 + p3.toNat) default)).set (0 + p3.toNat) (l0.getD (0 + p1.toNat) default))))], []⟩, [], [], []⟩, ⟨⟨[(1, cD (i6 p1))], []⟩, ⟨[(77, cD (i6 p1))], []⟩, [], [], []⟩, ⟨⟨[(76, .c (oC 5000 3 ((l0.set (0 + p1.toNat) (l0.getD (0 + p3.toNat) default)).set (0 + p3.toNat) (l0.getD (0 + p1.toNat) default)))), (77, cD (i6 p1))], [(5000, vL 3 encTime ((l0.set (0 + p1.toNat) (l0.getD (0 + p3.toNat) default)).set (0 + p3.toNat) (l0.getD (0 + p1.toNat) default)))]⟩, ⟨[(78, .c (.vptr 5000 3 (0 + p1.toNat) 0))], []⟩, [], [], []⟩, ⟨⟨[(78, .c (.vptr 5000 3 (0 + p1.toNat) 0))], [(5000, vL 3 encTime ((l0.set (0 + p1.toNat) (l0.getD (0 + p3.toNat) default)).set (0 + p3.toNat) (l0.getD (0 + p1.toNat) default)))]⟩, ⟨[(79, .agg (cTime (((l0.set (0 + p1.toNat) (l0.getD (0 + p3.toNat) default)).set (0 + p3.toNat) (l0.getD (0 + p1.toNat) default)).getD (0 + p1.toNat) default)))], []⟩, [], [], []⟩, ⟨⟨[(0, .c (oC 5000 3 ((l0.set (0 + p1.toNat) (l0.getD (0 + p3.toNat) default)).set (0 + p3.toNat) (l0.getD (0 + p1.toNat) default))))], []⟩, ⟨[(80, .c (oC 5000 3 ((l0.set (0 + p1.toNat) (l0.getD (0 + p3.toNat) default)).set (0 + p3.toNat) (l0.getD (0 + p1.toNat) default))))], []⟩, [], [], []⟩, ⟨⟨[(13, cD (i6 a12))], []⟩, ⟨[(81, cD (i6 a12))], []⟩, [], [], []⟩, ⟨⟨[(80, .c (oC 5000 3 ((l0.set (0 + p1.toNat) (l0.getD (0 + p3.toNat) default)).set (0 + p3.toNat) (l0.getD (0 + p1.toNat) default)))), (81, cD (i6 a12))], [(5000, vL 3 encTime ((l0.set (0 + p1.toNat) (l0.getD (0 + p3.toNat) default)).set (0 + p3.toNat) (l0.getD (0 + p1.toNat) default)))]⟩, ⟨[(82, .c (.vptr 5000 3 (0 + a12.toNat) 0))], []⟩, [], [], []⟩, ⟨⟨[(82, .c (.vptr 5000 3 (0 + a12.toNat) 0))], [(5000, vL 3 encTime ((l0.set (0 + p1.toNat) (l0.getD (0 + p3.toNat) default)).set (0 + p3.toNat) (l0.getD (0 + p1.toNat) default)))]⟩, ⟨[(83, .agg (cTime (((l0.set (0 + p1.toNat) (l0.getD (0 + p3.toNat) default)).set (0 + p3.toNat) (l0.getD (0 + p1.toNat) default)).getD (0 + a12.toNat) default)))], []⟩, [], [], []⟩, ⟨⟨[(72, .c (oC 5000 3 ((l0.set (0 + p1.toNat) (l0.getD (0 + p3.toNat) default)).set (0 + p3.toNat) (l0.getD (0 + p1.toNat) default)))), (73, cD (i6 a12))], [(5000, vL 3 encTime ((l0.set (0 + p1.toNat) (l0.getD (0 + p3.toNat) default)).set (0 + p3.toNat) (l0.getD (0 + p1.toNat) default)))]⟩, ⟨[(84, .c (.vptr 5000 3 (0 + a12.toNat) 0))], []⟩, [], [], []⟩, ⟨⟨[(79, .agg (cTime (((l0.set (0 + p1.toNat) (l0.getD (0 + p3.toNat) default)).set (0 + p3.toNat) (l0.getD (0 + p1.toNat) default)).getD (0 + p1.toNat) default))), (84, .c (.vptr 5000 3 (0 + a12.toNat) 0))], [(5000, vL 3 encTime ((l0.set (0 + p1.toNat) (l0.getD (0 + p3.toNat) default)).set (0 + p3.toNat) (l0.getD (0 + p1.toNat) default)))]⟩, ⟨[], [(5000, vL 3 encTime (((l0.set (0 + p1.toNat) (l0.getD (0 + p3.toNat) default)).set (0 + p3.toNat) (l0.getD (0 + p1.toNat) default)).set (0 + a12.toNat) (((l0.set (0 + p1.toNat) (l0.getD (0 + p3.toNat) default)).set (0 + p3.toNat) (l0.getD (0 + p1.toNat) default)).getD (0 + p1.toNat) default)))]⟩, [], [], []⟩, ⟨⟨[(74, .c (oC 5000 3 ((l0.set (0 + p1.toNat) (l0.getD (0 + p3.toNat) default)).set (0 + p3.toNat) (l0.getD (0 + p1.toNat) default)))), (75, cD (i6 p1))], [(5000, vL 3 encTime (((l0.set (0 + p1.toNat) (l0.getD (0 + p3.toNat) default)).set (0 + p3.toNat) (l0.getD (0 + p1.toNat) default)).set (0 + a12.toNat) (((l0.set (0 + p1.toNat) (l0.getD (0 + p3.toNat) default)).set (0 + p3.toNat) (l0.getD (0 + p1.toNat) default)).getD (0 + p1.toNat) default)))]⟩, ⟨[(85, .c (.vptr 5000 3 (0 + p1.toNat) 0))], []⟩, [], [], []⟩, ⟨⟨[(83, .agg (cTime (((l0.set (0 + p1.toNat) (l0.getD (0 + p3.toNat) default)).set (0 + p3.toNat) (l0.getD (0 + p1.toNat) default)).getD (0 + a12.toNat) default))), (85, .c (.vptr 5000 3 (0 + p1.toNat) 0))], [(5000, vL 3 encTime (((l0.set (0 + p1.toNat) (l0.getD (0 + p3.toNat) default)).set (0 + p3.toNat) (l0.getD (0 + p1.toNat) default)).set (0 + a12.toNat) (((l0.set (0 + p1.toNat) (l0.getD (0 + p3.toNat) default)).set (0 + p3.toNat) (l0.getD (0 + p1.toNat) default)).getD (0 + p1.toNat) default)))]⟩, ⟨[], [(5000, vL 3 encTime ((((l0.set (0 + p1.toNat) (l0.getD (0 + p3.toNat) default)).set (0 + p3.toNat) (l0.getD (0 + p1.toNat) default)).set (0 + a12.toNat) (((l0.set (0 + p1.toNat) (l0.getD (0 + p3.toNat) default)).set (0 + p3.toNat) (l0.getD (0 + p1.toNat) default)).getD (0 + p1.toNat) default)).set (0 + p1.toNat) (((l0.set (0 + p1.toNat) (l0.getD (0 + p3.toNat) default)).set (0 + p3.toNat) (l0.getD (0 + p1.toNat) default)).getD (0 + a12.toNat) default)))]⟩, [], [], []⟩]) (bef := [[], [], [], [], [], [], [4, 5], [4, 5, 6], [], [], [8, 9], [8, 9, 10], [0, 1, 4, 5, 6, 7, 8, 9, 10, 11], [0, 1, 4, 5, 6, 7, 8, 9, 10, 11, 12], [0, 1, 2, 3, 4, 5, 6, 7, 8, 9, 10, 11, 12, 13], [0, 1, 2, 3, 4, 5, 6, 7, 8, 9, 10, 11, 12, 13, 14]]) (tk := [13]) (sk := [5000]) (s' := ⟨[(13, cD (i6 a12))], [(5000, vL 3 encTime ((((l0.set (0 + p1.toNat) (l0.getD (0 + p3.toNat) default)).set (0 + p3.toNat) (l0.getD (0 + p1.toNat) default)).set (0 + a12.toNat) (((l0.set (0 + p1.toNat) (l0.getD (0 + p3.toNat) default)).set (0 + p3.toNat) (l0.getD (0 + p1.toNat) default)).getD (0 + p1.toNat) default)).set (0 + p1.toNat) (((l0.set (0 + p1.toNat) (l0.getD (0 + p3.toNat) default)).set (0 + p3.toNat) (l0.getD (0 + p1.toNat) default)).getD (0 + a12.toNat) default)))]⟩) (by kernel_rfl) (by kernel_rfl) (by kernel_rfl) ⟨?_, ?_, ?_, ?_, ?_, ?_, ?_, ?_, ?_, ?_, ?_, ?_, ?_, ?_, ?_, ?_, trivial⟩ (by kernel_rfl) ?_
      · exact DOk.t rfl rfl (by kernel_rfl) (by kernel_rfl)
      · exact DOk.t rfl rfl (by kernel_rfl) (by kernel_rfl)
      · exact DOk.t rfl rfl (by kernel_rfl) (by kernel_rfl)
      · exact DOk.t rfl rfl (by kernel_rfl) (by kernel_rfl)
      · exact DOk.t rfl rfl (by kernel_rfl) (by kernel_rfl)
      · exact DOk.t rfl rfl (by kernel_rfl) (by kernel_rfl)
      · exact DOk.step (.val (.c (.vptr 5000 3 (0 + p1.toNat) 0)) ((0 : Int) ≤ p1 ∧ p1 < (((l0.set (0 + p1.toNat) (l0.getD (0 + p3.toNat) default)).set (0 + p3.toNat) (l0.getD (0 + p1.toNat) default)).length : Int))) (fun r => by kernel_rfl) (fun r => by kernel_rfl) hc13 (by kernel_rfl) (by kernel_rfl) (fun r => rfl)
      · exact DOk.step (.val (.agg (cTime (((l0.set (0 + p1.toNat) (l0.getD (0 + p3.toNat) default)).set (0 + p3.toNat) (l0.getD (0 + p1.toNat) default)).getD (0 + p1.toNat) default))) ((0 + p1.toNat) < ((l0.set (0 + p1.toNat) (l0.getD (0 + p3.toNat) default)).set (0 + p3.toNat) (l0.getD (0 + p1.toNat) default)).length)) (fun r => by kernel_rfl) (fun r => by kernel_rfl) hc14 (by kernel_rfl) (by kernel_rfl) (fun r => rfl)
      · exact DOk.t rfl rfl (by kernel_rfl) (by kernel_rfl)
      · exact DOk.t rfl rfl (by kernel_rfl) (by kernel_rfl)
      · exact DOk.step (.val (.c (.vptr 5000 3 (0 + a12.toNat) 0)) ((0 : Int) ≤ a12 ∧ a12 < (((l0.set (0 + p1.toNat) (l0.getD (0 + p3.toNat) default)).set (0 + p3.toNat) (l0.getD (0 + p1.toNat) default)).length : Int))) (fun r => by kernel_rfl) (fun r => by kernel_rfl) hc15 (by kernel_rfl) (by kernel_rfl) (fun r => rfl)
      · exact DOk.step (.val (.agg (cTime (((l0.set (0 + p1.toNat) (l0.getD (0 + p3.toNat) default)).set (0 + p3.toNat) (l0.getD (0 + p1.toNat) default)).getD (0 + a12.toNat) default))) ((0 + a12.toNat) < ((l0.set (0 + p1.toNat) (l0.getD (0 + p3.toNat) default)).set (0 + p3.toNat) (l0.getD (0 + p1.toNat) default)).length)) (fun r => by kernel_rfl) (fun r => by kernel_rfl) hc16 (by kernel_rfl) (by kernel_rfl) (fun r => rfl)
      · exact DOk.step (.val (.c (.vptr 5000 3 (0 + a12.toNat) 0)) ((0 : Int) ≤ a12 ∧ a12 < (((l0.set (0 + p1.toNat) (l0.getD (0 + p3.toNat) default)).set (0 + p3.toNat) (l0.getD (0 + p1.toNat) default)).length : Int))) (fun r => by kernel_rfl) (fun r => by kernel_rfl) hc17 (by kernel_rfl) (by kernel_rfl) (fun r => rfl)
      · exact DOk.one fun r hr => One.storeT (xs := [.d (u6 ((((l0.set (0 + p1.toNat) (l0.getD (0 + p3.toNat) default)).set (0 + p3.toNat) (l0.getD (0 + p1.toNat) default)).getD (0 + p1.toNat) default).epoch)), .d (u6 ((((l0.set (0 + p1.toNat) (l0.getD (0 + p3.toNat) default)).set (0 + p3.toNat) (l0.getD (0 + p1.toNat) default)).getD (0 + p1.toNat) default).loop.1)), .d (u6 ((((l0.set (0 + p1.toNat) (l0.getD (0 + p3.toNat) default)).set (0 + p3.toNat) (l0.getD (0 + p1.toNat) default)).getD (0 + p1.toNat) default).loop.2))]) (ds := [u6 ((((l0.set (0 + p1.toNat) (l0.getD (0 + p3.toNat) default)).set (0 + p3.toNat) (l0.getD (0 + p1.toNat) default)).getD (0 + p1.toNat) default).epoch), u6 ((((l0.set (0 + p1.toNat) (l0.getD (0 + p3.toNat) default)).set (0 + p3.toNat) (l0.getD (0 + p1.toNat) default)).getD (0 + p1.toNat) default).loop.1), u6 ((((l0.set (0 + p1.toNat) (l0.getD (0 + p3.toNat) default)).set (0 + p3.toNat) (l0.getD (0 + p1.toNat) default)).getD (0 + p1.toNat) default).loop.2)]) (encTime) ((l0.set (0 + p1.toNat) (l0.getD (0 + p3.toNat) default)).set (0 + p3.toNat) (l0.getD (0 + p1.toNat) default)) (((l0.set (0 + p1.toNat) (l0.getD (0 + p3.toNat) default)).set (0 + p3.toNat) (l0.getD (0 + p1.toNat) default)).getD (0 + p1.toNat) default) rfl (by kernel_rfl) rfl rfl rfl hc18 rfl rfl (.refl _) rfl rfl rfl rfl
      · exact DOk.step (.val (.c (.vptr 5000 3 (0 + p1.toNat) 0)) ((0 : Int) ≤ p1 ∧ p1 < (((l0.set (0 + p1.toNat) (l0.getD (0 + p3.toNat) default)).set (0 + p3.toNat) (l0.getD (0 + p1.toNat) default)).length : Int))) (fun r => by kernel_rfl) (fun r => by kernel_rfl) hc19 (by kernel_rfl) (by kernel_rfl) (fun r => rfl)
      · exact DOk.one fun r hr => One.storeT (xs := [.d (u6 ((((l0.set (0 + p1.toNat) (l0.getD (0 + p3.toNat) default)).set (0 + p3.toNat) (l0.getD (0 + p1.toNat) default)).getD (0 + a12.toNat) default).epoch)), .d (u6 ((((l0.set (0 + p1.toNat) (l0.getD (0 + p3.toNat) default)).set (0 + p3.toNat) (l0.getD (0 + p1.toNat) default)).getD (0 + a12.toNat) default).loop.1)), .d (u6 ((((l0.set (0 + p1.toNat) (l0.getD (0 + p3.toNat) default)).set (0 + p3.toNat) (l0.getD (0 + p1.toNat) default)).getD (0 + a12.toNat) default).loop.2))]) (ds := [u6 ((((l0.set (0 + p1.toNat) (l0.getD (0 + p3.toNat) default)).set (0 + p3.toNat) (l0.getD (0 + p1.toNat) default)).getD (0 + a12.toNat) default).epoch), u6 ((((l0.set (0 + p1.toNat) (l0.getD (0 + p3.toNat) default)).set (0 + p3.toNat) (l0.getD (0 + p1.toNat) default)).getD (0 + a12.toNat) default).loop.1), u6 ((((l0.set (0 + p1.toNat) (l0.getD (0 + p3.toNat) default)).set (0 + p3.toNat) (l0.getD (0 + p1.toNat) default)).getD (0 + a12.toNat) default).loop.2)]) (encTime) (((l0.set (0 + p1.toNat) (l0.getD (0 + p3.toNat) default)).set (0 + p3.toNat) (l0.getD (0 + p1.toNat) default)).set (0 + a12.toNat) (((l0.set (0 + p1.toNat) (l0.getD (0 + p3.toNat) default)).set (0 + p3.toNat) (l0.getD (0 + p1.toNat) default)).getD (0 + p1.toNat) default)) (((l0.set (0 + p1.toNat) (l0.getD (0 + p3.toNat) default)).set (0 + p3.toNat) (l0.getD (0 + p1.toNat) default)).getD (0 + a12.toNat) default) rfl (by kernel_rfl) rfl rfl rfl hc20 rfl rfl (.refl _) rfl rfl rfl rfl
      show Tri _ _ _ _
      refine Tri.seqS ?_
      refine Tri.reg ?_
      refine At.seg 3 [10, 11] [5000] (s' := ⟨[(10, cD (i6 a12)), (11, cD (.bool true))], [(5000, vL 3 encTime ((((l0.set (0 + p1.toNat) (l0.getD (0 + p3.toNat) default)).set (0 + p3.toNat) (l0.getD (0 + p1.toNat) default)).set (0 + a12.toNat) (((l0.set (0 + p1.toNat) (l0.getD (0 + p3.toNat) default)).set (0 + p3.toNat) (l0.getD (0 + p1.toNat) default)).getD (0 + p1.toNat) default)).set (0 + p1.toNat) (((l0.set (0 + p1.toNat) (l0.getD (0 + p3.toNat) default)).set (0 + p3.toNat) (l0.getD (0 + p1.toNat) default)).getD (0 + a12.toNat) default)))]⟩) (c := True ∧ True ∧ True ∧ True) (by kernel_rfl) ⟨trivial, trivial, trivial, trivial⟩ ?_
      refine At.done rfl ?_
      show Tri _ _ _ _
      refine Tri.keep [10, 11] [5000] (s' := ⟨[(10, cD (i6 a12)), (11, cD (.bool true))], [(5000, vL 3 encTime ((((l0.set (0 + p1.toNat) (l0.getD (0 + p3.toNat) default)).set (0 + p3.toNat) (l0.getD (0 + p1.toNat) default)).set (0 + a12.toNat) (((l0.set (0 + p1.toNat) (l0.getD (0 + p3.toNat) default)).set (0 + p3.toNat) (l0.getD (0 + p1.toNat) default)).getD (0 + p1.toNat) default)).set (0 + p1.toNat) (((l0.set (0 + p1.toNat) (l0.getD (0 + p3.toNat) default)).set (0 + p3.toNat) (l0.getD (0 + p1.toNat) default)).getD (0 + a12.toNat) default)))]⟩) (by kernel_rfl) ?_
      refine Tri.ret ?_
      cases h
      refine ⟨_, _, rfl, ⟨trivial, ⟨trivial, trivial⟩⟩, rfl, rfl, ?_⟩
      exact SubS.out ⟨⟨rfl, rfl⟩, trivial⟩
     ·refine Tri.skip ?_
      show Tri _ _ _ _
      refine Tri.seqS ?_
      obtain ⟨hc21, h⟩ := need_elim h
      obtain ⟨hc22, h⟩ := need_elim h
      obtain ⟨hc23, h⟩ := need_elim h
      obtain ⟨hc24, h⟩ := need_elim h
      obtain ⟨hc25, h⟩ := need_elim h
      obtain ⟨hc26, h⟩ := need_elim h
      obtain ⟨hc27, h⟩ := need_elim h
      obtain ⟨hc28, h⟩ := need_elim h
      refine Tri.afterA ⟨[(0, .c (oC 5000 3 ((l0.set (0 + p1.toNat) (l0.getD (0 + p3.toNat) default)).set (0 + p3.toNat) (l0.getD (0 + p1.toNat) default)))), (1, cD (i6 p1)), (4, cD (.fn 20 [])), (12, cD (i6 a10.1)), (13, cD (i6 a12))], [(5000, vL 3 encTime ((((l0.set (0 + p1.toNat) (l0.getD (0 + p3.toNat) default)).set (0 + p3.toNat) (l0.getD (0 + p1.toNat) default)).set (0 + a10.1.toNat) (((l0.set (0 + p1.toNat) (l0.getD (0 + p3.toNat) default)).set (0 + p3.toNat) (l0.getD (0 + p1.toNat) default)).getD (0 + a12.toNat) default)).set (0 + a12.toNat) (((l0.set (0 + p1.toNat) (l0.getD (0 + p3.toNat) default)).set (0 + p3.toNat) (l0.getD (0 + p1.toNat) default)).getD (0 + a10.1.toNat) default)))]⟩ ?_ ?_
      ·refine Tri.drawn (specs := [⟨⟨[(0, .c (oC 5000 3 ((l0.set (0 + p1.toNat) (l0.getD (0 + p3.toNat) default)).set (0 + p3.toNat) (l0.getD (0 + p1.toNat) default))))], []⟩, ⟨[(87, .c (oC 5000 3 ((l0.set (0 + p1.toNat) (l0.getD (0 + p3.toNat) default)).set (0 + p3.toNat) (l0.getD (0 + p1.toNat) default))))], []⟩, [], [], []⟩, ⟨⟨[(12, cD (i6 a10.1))], []⟩, ⟨[(88, cD (i6 a10.1))], []⟩, [], [], []⟩, ⟨⟨[(0, .c (oC 5000 3 ((l0.set (0 + p1.toNat) (l0.getD (0 + p3.toNat) default)).set (0 + p3.toNat) (l0.getD (0 + p1.toNat) default))))], []⟩, ⟨[(89, .c (oC 5000 3 ((l0.set (0 + p1.toNat) (l0.getD (0 + p3.toNat) default)).set (0 + p3.toNat) (l0.getD (0 + p1.toNat) default))))], []⟩, [], [], []⟩, ⟨⟨[(13, cD (i6 a12))], []⟩, ⟨[(90, cD (i6 a12))], []⟩, [], [], []⟩, ⟨⟨[(0, .c (oC 5000 3 ((l0.set (0 + p1.toNat) (l0.getD (0 + p3.toNat) default)).set (0 + p3.toNat) (l0.getD (0 + p1.toNat) default))))], []⟩, ⟨[(91, .c (oC 5000 3 ((l0.set (0 + p1.toNat) (l0.getD (0 + p3.toNat) default)).set (0 + p3.toNat) (l0.getD (0 + p1.toNat) default))))], []⟩, [], [], []⟩, ⟨⟨[(13, cD (i6 a12))], []⟩, ⟨[(92, cD (i6 a12))], []⟩, [], [], []⟩, ⟨⟨[(91, .c (oC 5000 3 ((l0.set (0 + p1.toNat) (l0.getD (0 + p3.toNat) default)).set (0 + p3.toNat) (l0.getD (0 + p1.toNat) default)))), (92, cD (i6 a12))], [(5000, vL 3 encTime ((l0.set (0 + p1.toNat) (l0.getD (0 + p3.toNat) default)).set (0 + p3.toNat) (l0.getD (0 + p1.toNat) default)))]⟩, ⟨[(93, .c (.vptr 5000 3 (0 + a12.toNat) 0))], []⟩, [], [], []⟩, ⟨⟨[(93, .c (.vptr 5000 3 (0 + a12.toNat) 0))], [(5000, vL 3 encTime ((l0.set (0 + p1.toNat) (l0.getD (0 + p3.toNat) default)).set (0 + p3.toNat) (l0.getD (0 + p1.toNat) default)))]⟩, ⟨[(94, .agg (cTime (((l0.set (0 + p1.toNat) (l0.getD (0 + p3.toNat) default)).set (0 + p3.toNat) (l0.getD (0 + p1.toNat) default)).getD (0 + a12.toNat) default)))], []⟩, [], [], []⟩, ⟨⟨[(0, .c (oC 5000 3 ((l0.set (0 + p1.toNat) (l0.getD (0 + p3.toNat) default)).set (0 + p3.toNat) (l0.getD (0 + p1.toNat) default))))], []⟩, ⟨[(95, .c (oC 5000 3 ((l0.set (0 + p1.toNat) (l0.getD (0 + p3.toNat) default)).set (0 + p3.toNat) (l0.getD (0 + p1.toNat) default))))], []⟩, [], [], []⟩, ⟨⟨[(12, cD (i6 a10.1))], []⟩, ⟨[(96, cD (i6 a10.1))], []⟩, [], [], []⟩, ⟨⟨[(95, .c (oC 5000 3 ((l0.set (0 + p1.toNat) (l0.getD (0 + p3.toNat) default)).set (0 + p3.toNat) (l0.getD (0 + p1.toNat) default)))), (96, cD (i6 a10.1))], [(5000, vL 3 encTime ((l0.set (0 + p1.toNat) (l0.getD (0 + p3.toNat) default)).set (0 + p3.toNat) (l0.getD (0 + p1.toNat) default)))]⟩, ⟨[(97, .c (.vptr 5000 3 (0 + a10.1.toNat) 0))], []⟩, [], [], []⟩, ⟨⟨[(97, .c (.vptr 5000 3 (0 + a10.1.toNat) 0))], [(5000, vL 3 encTime ((l0.set (0 + p1.toNat) (l0.getD (0 + p3.toNat) default)).set (0 + p3.toNat) (l0.getD (0 + p1.toNat) default)))]⟩, ⟨[(98, .agg (cTime (((l0.set (0 + p1.toNat) (l0.getD (0 + p3.toNat) default)).set (0 + p3.toNat) (l0.getD (0 + p1.toNat) default)).getD (0 + a10.1.toNat) default)))], []⟩, [], [], []⟩, ⟨⟨[(87, .c (oC 5000 3 ((l0.set (0 + p1.toNat) (l0.getD (0 + p3.toNat) default)).set (0 + p3.toNat) (l0.getD (0 + p1.toNat) default)))), (88, cD (i6 a10.1))], [(5000, vL 3 encTime ((l0.set (0 + p1.toNat) (l0.getD (0 + p3.toNat) default)).set (0 + p3.toNat) (l0.getD (0 + p1.toNat) default)))]⟩, ⟨[(99, .c (.vptr 5000 3 (0 + a10.1.toNat) 0))], []⟩, [], [], []⟩, ⟨⟨[(94, .agg (cTime (((l0.set (0 + p1.toNat) (l0.getD (0 + p3.toNat) default)).set (0 + p3.toNat) (l0.getD (0 + p1.toNat) default)).getD (0 + a12.toNat) default))), (99, .c (.vptr 5000 3 (0 + a10.1.toNat) 0))], [(5000, vL 3 encTime ((l0.set (0 + p1.toNat) (l0.getD (0 + p3.toNat) default)).set (0 + p3.toNat) (l0.getD (0 + p1.toNat) default)))]⟩, ⟨[], [(5000, vL 3 encTime (((l0.set (0 + p1.toNat) (l0.getD (0 + p3.toNat) default)).set (0 + p3.toNat) (l0.getD (0 + p1.toNat) default)).set (0 + a10.1.toNat) (((l0.set (0 + p1.toNat) (l0.getD (0 + p3.toNat) default)).set (0 + p3.toNat) (l0.getD (0 + p1.toNat) default)).getD (0 + a12.toNat) default)))]⟩, [], [], []⟩, ⟨⟨[(89, .c (oC 5000 3 ((l0.set (0 + p1.toNat) (l0.getD (0 + p3.toNat) default)).set (0 + p3.toNat) (l0.getD (0 + p1.toNat) default)))), (90, cD (i6 a12))], [(5000, vL 3 encTime (((l0.set (0 + p1.toNat) (l0.getD (0 + p3.toNat) default)).set (0 + p3.toNat) (l0.getD (0 + p1.toNat) default)).set (0 + a10.1.toNat) (((l0.set (0 + p1.toNat) (l0.getD (0 + p3.toNat) default)).set (0 + p3.toNat) (l0.getD (0 + p1.toNat) default)).getD (0 + a12.toNat) default)))]⟩, ⟨[(100, .c (.vptr 5000 3 (0 + a12.toNat) 0))], []⟩, [], [], []⟩, ⟨⟨[(98, .agg (cTime (((l0.set (0 + p1.toNat) (l0.getD (0 + p3.toNat) default)).set (0 + p3.toNat) (l0.getD (0 + p1.toNat) default)).getD (0 + a10.1.toNat) default))), (100, .c (.vptr 5000 3 (0 + a12.toNat) 0))], [(5000, vL 3 encTime (((l0.set (0 + p1.toNat) (l0.getD (0 + p3.toNat) default)).set (0 + p3.toNat) (l0.getD (0 + p1.toNat) default)).set (0 + a10.1.toNat) (((l0.set (0 + p1.toNat) (l0.getD (0 + p3.toNat) default)).set (0 + p3.toNat) (l0.getD (0 + p1.toNat) default)).getD (0 + a12.toNat) default)))]⟩, ⟨[], [(5000, vL 3 encTime ((((l0.set (0 + p1.toNat) (l0.getD (0 + p3.toNat) default)).set (0 + p3.toNat) (l0.getD (0 + p1.toNat) default)).set (0 + a10.1.toNat) (((l0.set (0 + p1.toNat) (l0.getD (0 + p3.toNat) default)).set (0 + p3.toNat) (l0.getD (0 + p1.toNat) default)).getD (0 + a12.toNat) default)).set (0 + a12.toNat) (((l0.set (0 + p1.toNat) (l0.getD (0 + p3.toNat) default)).set (0 + p3.toNat) (l0.getD (0 + p1.toNat) default)).getD (0 + a10.1.toNat) default)))]⟩, [], [], []⟩]) (bef := [[], [], [], [], [], [], [4, 5], [4, 5, 6], [], [], [8, 9], [8, 9, 10], [0, 1, 4, 5, 6, 7, 8, 9, 10, 11], [0, 1, 4, 5, 6, 7, 8, 9, 10, 11, 12], [0, 1, 2, 3, 4, 5, 6, 7, 8, 9, 10, 11, 12, 13], [0, 1, 2, 3, 4, 5, 6, 7, 8, 9, 10, 11, 12, 13, 14]]) (tk := [0, 1, 4, 12, 13]) (sk := [5000]) (s' := ⟨[(0, .c (oC 5000 3 ((l0.set (0 + p1.toNat) (l0.getD (0 + p3.toNat) default)).set (0 + p3.toNat) (l0.getD (0 + p1.toNat) default)))), (1, cD (i6 p1)), (4, cD (.fn 20 [])), (12, cD (i6 a10.1)), (13, cD (i6 a12))], [(5000, vL 3 encTime ((((l0.set (0 + p1.toNat) (l0.getD (0 + p3.toNat) default)).set (0 + p3.toNat) (l0.getD (0 + p1.toNat) default)).set (0 + a10.1.toNat) (((l0.set (0 + p1.toNat) (l0.getD (0 + p3.toNat) default)).set (0 + p3.toNat) (l0.getD (0 + p1.toNat) default)).getD (0 + a12.toNat) default)).set (0 + a12.toNat) (((l0.set (0 + p1.toNat) (l0.getD (0 + p3.toNat) default)).set (0 + p3.toNat) (l0.getD (0 + p1.toNat) default)).getD (0 + a10.1.toNat) default)))]⟩) (by kernel_rfl) (by kernel_rfl) (by kernel_rfl) ⟨?_, ?_, ?_, ?_, ?_, ?_, ?_, ?_, ?_, ?_, ?_, ?_, ?_, ?_, ?_, ?_, trivial⟩ (by kernel_rfl) ?_
       · exact DOk.t rfl rfl (by kernel_rfl) (by kernel_rfl)
       · exact DOk.t rfl rfl (by kernel_rfl) (by kernel_rfl)
       · exact DOk.t rfl rfl (by kernel_rfl) (by kernel_rfl)
       · exact DOk.t rfl rfl (by kernel_rfl) (by kernel_rfl)
       · exact DOk.t rfl rfl (by kernel_rfl) (by kernel_rfl)
       · exact DOk.t rfl rfl (by kernel_rfl) (by kernel_rfl)
       · exact DOk.step (.val (.c (.vptr 5000 3 (0 + a12.toNat) 0)) ((0 : Int) ≤ a12 ∧ a12 < (((l0.set (0 + p1.toNat) (l0.getD (0 + p3.toNat) default)).set (0 + p3.toNat) (l0.getD (0 + p1.toNat) default)).length : Int))) (fun r => by kernel_rfl) (fun r => by kernel_rfl) hc21 (by kernel_rfl) (by kernel_rfl) (fun r => rfl)
       · exact DOk.step (.val (.agg (cTime (((l0.set (0 + p1.toNat) (l0.getD (0 + p3.toNat) default)).set (0 + p3.toNat) (l0.getD (0 + p1.toNat) default)).getD (0 + a12.toNat) default))) ((0 + a12.toNat) < ((l0.set (0 + p1.toNat) (l0.getD (0 + p3.toNat) default)).set (0 + p3.toNat) (l0.getD (0 + p1.toNat) default)).length)) (fun r => by kernel_rfl) (fun r => by kernel_rfl) hc22 (by kernel_rfl) (by kernel_rfl) (fun r => rfl)
       · exact DOk.t rfl rfl (by kernel_rfl) (by kernel_rfl)
       · exact DOk.t rfl rfl (by kernel_rfl) (by kernel_rfl)
       · exact DOk.step (.val (.c (.vptr 5000 3 (0 + a10.1.toNat) 0)) ((0 : Int) ≤ a10.1 ∧ a10.1 < (((l0.set (0 + p1.toNat) (l0.getD (0 + p3.toNat) default)).set (0 + p3.toNat) (l0.getD (0 + p1.toNat) default)).length : Int))) (fun r => by kernel_rfl) (fun r => by kernel_rfl) hc23 (by kernel_rfl) (by kernel_rfl) (fun r => rfl)
       · exact DOk.step (.val (.agg (cTime (((l0.set (0 + p1.toNat) (l0.getD (0 + p3.toNat) default)).set (0 + p3.toNat) (l0.getD (0 + p1.toNat) default)).getD (0 + a10.1.toNat) default))) ((0 + a10.1.toNat) < ((l0.set (0 + p1.toNat) (l0.getD (0 + p3.toNat) default)).set (0 + p3.toNat) (l0.getD (0 + p1.toNat) default)).length)) (fun r => by kernel_rfl) (fun r => by kernel_rfl) hc24 (by kernel_rfl) (by kernel_rfl) (fun r => rfl)
       · exact DOk.step (.val (.c (.vptr 5000 3 (0 + a10.1.toNat) 0)) ((0 : Int) ≤ a10.1 ∧ a10.1 < (((l0.set (0 + p1.toNat) (l0.getD (0 + p3.toNat) default)).set (0 + p3.toNat) (l0.getD (0 + p1.toNat) default)).length : Int))) (fun r => by kernel_rfl) (fun r => by kernel_rfl) hc25 (by kernel_rfl) (by kernel_rfl) (fun r => rfl)
       · exact DOk.one fun r hr => One.storeT (xs := [.d (u6 ((((l0.set (0 + p1.toNat) (l0.getD (0 + p3.toNat) default)).set (0 + p3.toNat) (l0.getD (0 + p1.toNat) default)).getD (0 + a12.toNat) default).epoch)), .d (u6 ((((l0.set (0 + p1.toNat) (l0.getD (0 + p3.toNat) default)).set (0 + p3.toNat) (l0.getD (0 + p1.toNat) default)).getD (0 + a12.toNat) default).loop.1)), .d (u6 ((((l0.set (0 + p1.toNat) (l0.getD (0 + p3.toNat) default)).set (0 + p3.toNat) (l0.getD (0 + p1.toNat) default)).getD (0 + a12.toNat) default).loop.2))]) (ds := [u6 ((((l0.set (0 + p1.toNat) (l0.getD (0 + p3.toNat) default)).set (0 + p3.toNat) (l0.getD (0 + p1.toNat) default)).getD (0 + a12.toNat) default).epoch), u6 ((((l0.set (0 + p1.toNat) (l0.getD (0 + p3.toNat) default)).set (0 + p3.toNat) (l0.getD (0 + p1.toNat) default)).getD (0 + a12.toNat) default).loop.1), u6 ((((l0.set (0 + p1.toNat) (l0.getD (0 + p3.toNat) default)).set (0 + p3.toNat) (l0.getD (0 + p1.toNat) default)).getD (0 + a12.toNat) default).loop.2)]) (encTime) ((l0.set (0 + p1.toNat) (l0.getD (0 + p3.toNat) default)).set (0 + p3.toNat) (l0.getD (0 + p1.toNat) default)) (((l0.set (0 + p1.toNat) (l0.getD (0 + p3.toNat) default)).set (0 + p3.toNat) (l0.getD (0 + p1.toNat) default)).getD (0 + a12.toNat) default) rfl (by kernel_rfl) rfl rfl rfl hc26 rfl rfl (.refl _) rfl rfl rfl rfl
       · exact DOk.step (.val (.c (.vptr 5000 3 (0 + a12.toNat) 0)) ((0 : Int) ≤ a12 ∧ a12 < (((l0.set (0 + p1.toNat) (l0.getD (0 + p3.toNat) default)).set (0 + p3.toNat) (l0.getD (0 + p1.toNat) default)).length : Int))) (fun r => by kernel_rfl) (fun r => by kernel_rfl) hc27 (by kernel_rfl) (by kernel_rfl) (fun r => rfl)
       · exact DOk.one fun r hr => One.storeT (xs := [.d (u6 ((((l0.set (0 + p1.toNat) (l0.getD (0 + p3.toNat) default)).set (0 + p3.toNat) (l0.getD (0 + p1.toNat) default)).getD (0 + a10.1.toNat) default).epoch)), .d (u6 ((((l0.set (0 + p1.toNat) (l0.getD (0 + p3.toNat) default)).set (0 + p3.toNat) (l0.getD (0 + p1.toNat) default)).getD (0 + a10.1.toNat) default).loop.1)), .d (u6 ((((l0.set (0 + p1.toNat) (l0.getD (0 + p3.toNat) default)).set (0 + p3.toNat) (l0.getD (0 + p1.toNat) default)).getD (0 + a10.1.toNat) default).loop.2))]) (ds := [u6 ((((l0.set (0 + p1.toNat) (l0.getD (0 + p3.toNat) default)).set (0 + p3.toNat) (l0.getD (0 + p1.toNat) default)).getD (0 + a10.1.toNat) default).epoch), u6 ((((l0.set (0 + p1.toNat) (l0.getD (0 + p3.toNat) default)).set (0 + p3.toNat) (l0.getD (0 + p1.toNat) default)).getD (0 + a10.1.toNat) default).loop.1), u6 ((((l0.set (0 + p1.toNat) (l0.getD (0 + p3.toNat) default)).set (0 + p3.toNat) (l0.getD (0 + p1.toNat) default)).getD (0 + a10.1.toNat) default).loop.2)]) (encTime) (((l0.set (0 + p1.toNat) (l0.getD (0 + p3.toNat) default)).set (0 + p3.toNat) (l0.getD (0 + p1.toNat) default)).set (0 + a10.1.toNat) (((l0.set (0 + p1.toNat) (l0.getD (0 + p3.toNat) default)).set (0 + p3.toNat) (l0.getD (0 + p1.toNat) default)).getD (0 + a12.toNat) default)) (((l0.set (0 + p1.toNat) (l0.getD (0 + p3.toNat) default)).set (0 + p3.toNat) (l0.getD (0 + p1.toNat) default)).getD (0 + a10.1.toNat) default) rfl (by kernel_rfl) rfl rfl rfl hc28 rfl rfl (.refl _) rfl rfl rfl rfl
       exact ⟨rfl, rfl⟩
      ·refine At.eqS (s' := ⟨[(0, .c (oC 5000 3 ((((l0.set (0 + p1.toNat) (l0.getD (0 + p3.toNat) default)).set (0 + p3.toNat) (l0.getD (0 + p1.toNat) default)).set (0 + a10.1.toNat) (((l0.set (0 + p1.toNat) (l0.getD (0 + p3.toNat) default)).set (0 + p3.toNat) (l0.getD (0 + p1.toNat) default)).getD (0 + a12.toNat) default)).set (0 + a12.toNat) (((l0.set (0 + p1.toNat) (l0.getD (0 + p3.toNat) default)).set (0 + p3.toNat) (l0.getD (0 + p1.toNat) default)).getD (0 + a10.1.toNat) default)))), (1, cD (i6 p1)), (4, cD (.fn 20 [])), (12, cD (i6 a10.1)), (13, cD (i6 a12))], [(5000, vL 3 encTime ((((l0.set (0 + p1.toNat) (l0.getD (0 + p3.toNat) default)).set (0 + p3.toNat) (l0.getD (0 + p1.toNat) default)).set (0 + a10.1.toNat) (((l0.set (0 + p1.toNat) (l0.getD (0 + p3.toNat) default)).set (0 + p3.toNat) (l0.getD (0 + p1.toNat) default)).getD (0 + a12.toNat) default)).set (0 + a12.toNat) (((l0.set (0 + p1.toNat) (l0.getD (0 + p3.toNat) default)).set (0 + p3.toNat) (l0.getD (0 + p1.toNat) default)).getD (0 + a10.1.toNat) default)))]⟩) (by simp only [oC, vL, List.length_set]) ?_
       refine At.done rfl ?_
       show Tri _ _ _ _
       refine Tri.seqS ?_
       refine Tri.reg ?_
       refine At.seg 3 [0, 1, 4, 12, 13] [5000] (s' := ⟨[(0, .c (oC 5000 3 ((((l0.set (0 + p1.toNat) (l0.getD (0 + p3.toNat) default)).set (0 + p3.toNat) (l0.getD (0 + p1.toNat) default)).set (0 + a10.1.toNat) (((l0.set (0 + p1.toNat) (l0.getD (0 + p3.toNat) default)).set (0 + p3.toNat) (l0.getD (0 + p1.toNat) default)).getD (0 + a12.toNat) default)).set (0 + a12.toNat) (((l0.set (0 + p1.toNat) (l0.getD (0 + p3.toNat) default)).set (0 + p3.toNat) (l0.getD (0 + p1.toNat) default)).getD (0 + a10.1.toNat) default)))), (1, cD (i6 p1)), (4, cD (.fn 20 [])), (12, cD (i6 (IntKind.i64.wrap (a10.1 + 1)))), (13, cD (i6 a12))], [(5000, vL 3 encTime ((((l0.set (0 + p1.toNat) (l0.getD (0 + p3.toNat) default)).set (0 + p3.toNat) (l0.getD (0 + p1.toNat) default)).set (0 + a10.1.toNat) (((l0.set (0 + p1.toNat) (l0.getD (0 + p3.toNat) default)).set (0 + p3.toNat) (l0.getD (0 + p1.toNat) default)).getD (0 + a12.toNat) default)).set (0 + a12.toNat) (((l0.set (0 + p1.toNat) (l0.getD (0 + p3.toNat) default)).set (0 + p3.toNat) (l0.getD (0 + p1.toNat) default)).getD (0 + a10.1.toNat) default)))]⟩) (c := True ∧ True ∧ True ∧ True) (by kernel_rfl) ⟨trivial, trivial, trivial, trivial⟩ ?_
       refine At.done rfl ?_
       show Tri _ _ _ _
       refine Tri.seqS ?_
       refine Tri.reg ?_
       refine At.seg 3 [0, 1, 4, 12, 13] [5000] (s' := ⟨[(0, .c (oC 5000 3 ((((l0.set (0 + p1.toNat) (l0.getD (0 + p3.toNat) default)).set (0 + p3.toNat) (l0.getD (0 + p1.toNat) default)).set (0 + a10.1.toNat) (((l0.set (0 + p1.toNat) (l0.getD (0 + p3.toNat) default)).set (0 + p3.toNat) (l0.getD (0 + p1.toNat) default)).getD (0 + a12.toNat) default)).set (0 + a12.toNat) (((l0.set (0 + p1.toNat) (l0.getD (0 + p3.toNat) default)).set (0 + p3.toNat) (l0.getD (0 + p1.toNat) default)).getD (0 + a10.1.toNat) default)))), (1, cD (i6 p1)), (4, cD (.fn 20 [])), (12, cD (i6 (IntKind.i64.wrap (a10.1 + 1)))), (13, cD (i6 (IntKind.i64.wrap (a12 - 1))))], [(5000, vL 3 encTime ((((l0.set (0 + p1.toNat) (l0.getD (0 + p3.toNat) default)).set (0 + p3.toNat) (l0.getD (0 + p1.toNat) default)).set (0 + a10.1.toNat) (((l0.set (0 + p1.toNat) (l0.getD (0 + p3.toNat) default)).set (0 + p3.toNat) (l0.getD (0 + p1.toNat) default)).getD (0 + a12.toNat) default)).set (0 + a12.toNat) (((l0.set (0 + p1.toNat) (l0.getD (0 + p3.toNat) default)).set (0 + p3.toNat) (l0.getD (0 + p1.toNat) default)).getD (0 + a10.1.toNat) default)))]⟩) (c := True ∧ True ∧ True ∧ True) (by kernel_rfl) ⟨trivial, trivial, trivial, trivial⟩ ?_
       refine At.done rfl ?_
       show Tri _ _ _ _
       refine Tri.seqS ?_
       refine Tri.keep [0, 1, 4, 12, 13] [5000] (s' := ⟨[(0, .c (oC 5000 3 ((((l0.set (0 + p1.toNat) (l0.getD (0 + p3.toNat) default)).set (0 + p3.toNat) (l0.getD (0 + p1.toNat) default)).set (0 + a10.1.toNat) (((l0.set (0 + p1.toNat) (l0.getD (0 + p3.toNat) default)).set (0 + p3.toNat) (l0.getD (0 + p1.toNat) default)).getD (0 + a12.toNat) default)).set (0 + a12.toNat) (((l0.set (0 + p1.toNat) (l0.getD (0 + p3.toNat) default)).set (0 + p3.toNat) (l0.getD (0 + p1.toNat) default)).getD (0 + a10.1.toNat) default)))), (1, cD (i6 p1)), (4, cD (.fn 20 [])), (12, cD (i6 (IntKind.i64.wrap (a10.1 + 1)))), (13, cD (i6 (IntKind.i64.wrap (a12 - 1))))], [(5000, vL 3 encTime ((((l0.set (0 + p1.toNat) (l0.getD (0 + p3.toNat) default)).set (0 + p3.toNat) (l0.getD (0 + p1.toNat) default)).set (0 + a10.1.toNat) (((l0.set (0 + p1.toNat) (l0.getD (0 + p3.toNat) default)).set (0 + p3.toNat) (l0.getD (0 + p1.toNat) default)).getD (0 + a12.toNat) default)).set (0 + a12.toNat) (((l0.set (0 + p1.toNat) (l0.getD (0 + p3.toNat) default)).set (0 + p3.toNat) (l0.getD (0 + p1.toNat) default)).getD (0 + a10.1.toNat) default)))]⟩) (by kernel_rfl) ?_
       refine Tri.loopK (fuel := fuel) (st0 := ((IntKind.i64.wrap (a10.1 + 1)), (IntKind.i64.wrap (a12 - 1)), ((((l0.set (0 + p1.toNat) (l0.getD (0 + p3.toNat) default)).set (0 + p3.toNat) (l0.getD (0 + p1.toNat) default)).set (0 + a10.1.toNat) (((l0.set (0 + p1.toNat) (l0.getD (0 + p3.toNat) default)).set (0 + p3.toNat) (l0.getD (0 + p1.toNat) default)).getD (0 + a12.toNat) default)).set (0 + a12.toNat) (((l0.set (0 + p1.toNat) (l0.getD (0 + p3.toNat) default)).set (0 + p3.toNat) (l0.getD (0 + p1.toNat) default)).getD (0 + a10.1.toNat) default)))) (fun (x : Empty) s => False) (fun (a29 : Int × Int × (List Time)) => ⟨[(0, .c (oC 5000 3 a29.2.2)), (1, cD (i6 p1)), (4, cD (.fn 20 [])), (12, cD (i6 a29.1)), (13, cD (i6 a29.2.1))], [(5000, vL 3 encTime a29.2.2)]⟩) (fun (a29 : Int × Int × (List Time)) => ⟨[(0, .c (oC 5000 3 a29.2.2)), (1, cD (i6 p1)), (4, cD (.fn 20 [])), (12, cD (i6 a29.1)), (13, cD (i6 a29.2.1))], [(5000, vL 3 encTime a29.2.2)]⟩) h ?_ ?_ ?_
       ·intro a29 c h
        show Tri _ _ ⟨[(0, .c (oC 5000 3 a29.2.2)), (1, cD (i6 p1)), (4, cD (.fn 20 [])), (12, cD (i6 a29.1)), (13, cD (i6 a29.2.1))], [(5000, vL 3 encTime a29.2.2)]⟩ _
        refine Tri.blockB ?_
        refine Tri.seqS ?_
        refine Tri.keep [0, 1, 4, 12, 13] [5000] (s' := ⟨[(0, .c (oC 5000 3 a29.2.2)), (1, cD (i6 p1)), (4, cD (.fn 20 [])), (12, cD (i6 a29.1)), (13, cD (i6 a29.2.1))], [(5000, vL 3 encTime a29.2.2)]⟩) (by kernel_rfl) ?_
        refine Tri.loopK (fuel := fuel) (st0 := a29.1) (fun (x : Empty) s => False) (fun (a39 : Int) => ⟨[(0, .c (oC 5000 3 a29.2.2)), (1, cD (i6 p1)), (4, cD (.fn 20 [])), (12, cD (i6 a39)), (13, cD (i6 a29.2.1))], [(5000, vL 3 encTime a29.2.2)]⟩) (fun (a39 : Int) => ⟨[(0, .c (oC 5000 3 a29.2.2)), (1, cD (i6 p1)), (4, cD (.fn 20 [])), (12, cD (i6 a39)), (13, cD (i6 a29.2.1))], [(5000, vL 3 encTime a29.2.2)]⟩) h ?_ ?_ ?_
        ·intro a39 c h
         show Tri _ _ ⟨[(0, .c (oC 5000 3 a29.2.2)), (1, cD (i6 p1)), (4, cD (.fn 20 [])), (12, cD (i6 a39)), (13, cD (i6 a29.2.1))], [(5000, vL 3 encTime a29.2.2)]⟩ _
         refine Tri.seqS ?_
         refine Tri.seqJ (fun (a59 : Bool) => ⟨[(0, .c (oC 5000 3 a29.2.2)), (1, cD (i6 p1)), (4, cD (.fn 20 [])), (12, cD (i6 a39)), (13, cD (i6 a29.2.1)), (120, cD (.bool a59))], [(5000, vL 3 encTime a29.2.2)]⟩) h (fun a59 h => ?_) (fun j60 h => ?_)
         ·show Tri _ _ ⟨[(0, .c (oC 5000 3 a29.2.2)), (1, cD (i6 p1)), (4, cD (.fn 20 [])), (12, cD (i6 a39)), (13, cD (i6 a29.2.1)), (120, cD (.bool a59))], [(5000, vL 3 encTime a29.2.2)]⟩ _
          refine Tri.condP (b := a59) rfl h (fun h => ?_) (fun h => ?_)
          ·refine Tri.skip ?_
           show Tri _ _ _ _
           refine Tri.blockB ?_
           refine Tri.reg ?_
           refine At.seg 3 [0, 1, 4, 12, 13] [5000] (s' := ⟨[(0, .c (oC 5000 3 a29.2.2)), (1, cD (i6 p1)), (4, cD (.fn 20 [])), (12, cD (i6 (IntKind.i64.wrap (a39 + 1)))), (13, cD (i6 a29.2.1))], [(5000, vL 3 encTime a29.2.2)]⟩) (c := True ∧ True ∧ True ∧ True) (by kernel_rfl) ⟨trivial, trivial, trivial, trivial⟩ ?_
           refine At.done rfl ?_
           cases h
           exact rfl
          ·refine Tri.keep [0, 1, 4, 12, 13] [5000] (s' := ⟨[(0, .c (oC 5000 3 a29.2.2)), (1, cD (i6 p1)), (4, cD (.fn 20 [])), (12, cD (i6 a39)), (13, cD (i6 a29.2.1))], [(5000, vL 3 encTime a29.2.2)]⟩) (by kernel_rfl) ?_
           refine Tri.exit ?_
           cases h
           exact ⟨rfl, rfl⟩
         ·rcases bf_cases h with ⟨hp61, h⟩ | ⟨hp61, h⟩
          ·obtain ⟨hc62, h⟩ := need_elim h
           obtain ⟨hc63, h⟩ := need_elim h
           obtain ⟨hc64, h⟩ := need_elim h
           obtain ⟨hc65, h⟩ := need_elim h
           obtain ⟨r66, hr66, h⟩ := bind_elim h
           refine Tri.drawn (specs := [⟨⟨[(12, cD (i6 a39))], []⟩, ⟨[(105, cD (i6 a39))], []⟩, [], [], []⟩, ⟨⟨[(13, cD (i6 a29.2.1))], []⟩, ⟨[(106, cD (i6 a29.2.1))], []⟩, [], [], []⟩, ⟨⟨[(105, cD (i6 a39)), (106, cD (i6 a29.2.1))], []⟩, ⟨[(107, cD (.bool (decide (a39 ≤ a29.2.1))))], []⟩, [], [], []⟩, ⟨⟨[(107, cD (.bool (decide (a39 ≤ a29.2.1))))], []⟩, ⟨[(108, .c (.d (.bool true)))], []⟩, [], [], []⟩, ⟨⟨[(4, cD (.fn 20 [])), (108, cD (.bool true))], []⟩, ⟨[(109, cD (.fn 20 []))], []⟩, [], [], []⟩, ⟨⟨[(0, .c (oC 5000 3 a29.2.2)), (108, cD (.bool true))], []⟩, ⟨[(110, .c (oC 5000 3 a29.2.2))], []⟩, [], [], []⟩, ⟨⟨[(12, cD (i6 a39)), (108, cD (.bool true))], []⟩, ⟨[(111, cD (i6 a39))], []⟩, [], [], []⟩, ⟨⟨[(108, cD (.bool true)), (110, .c (oC 5000 3 a29.2.2)), (111, cD (i6 a39))], [(5000, vL 3 encTime a29.2.2)]⟩, ⟨[(112, .c (.vptr 5000 3 (0 + a39.toNat) 0))], []⟩, [], [], []⟩, ⟨⟨[(108, cD (.bool true)), (112, .c (.vptr 5000 3 (0 + a39.toNat) 0))], [(5000, vL 3 encTime a29.2.2)]⟩, ⟨[(113, .agg (cTime (a29.2.2.getD (0 + a39.toNat) default)))], []⟩, [], [], []⟩, ⟨⟨[(0, .c (oC 5000 3 a29.2.2)), (108, cD (.bool true))], []⟩, ⟨[(114, .c (oC 5000 3 a29.2.2))], []⟩, [], [], []⟩, ⟨⟨[(1, cD (i6 p1)), (108, cD (.bool true))], []⟩, ⟨[(115, cD (i6 p1))], []⟩, [], [], []⟩, ⟨⟨[(108, cD (.bool true)), (114, .c (oC 5000 3 a29.2.2)), (115, cD (i6 p1))], [(5000, vL 3 encTime a29.2.2)]⟩, ⟨[(116, .c (.vptr 5000 3 (0 + p1.toNat) 0))], []⟩, [], [], []⟩, ⟨⟨[(108, cD (.bool true)), (116, .c (.vptr 5000 3 (0 + p1.toNat) 0))], [(5000, vL 3 encTime a29.2.2)]⟩, ⟨[(117, .agg (cTime (a29.2.2.getD (0 + p1.toNat) default)))], []⟩, [], [], []⟩, ⟨⟨[(108, cD (.bool true)), (109, cD (.fn 20 [])), (113, .agg (cTime (a29.2.2.getD (0 + a39.toNat) default))), (117, .agg (cTime (a29.2.2.getD (0 + p1.toNat) default)))], []⟩, ⟨[(118, cD (i6 r66))], []⟩, [], [], []⟩, ⟨⟨[(108, cD (.bool true)), (118, cD (i6 r66))], []⟩, ⟨[(119, cD (.bool (decide (r66 < 0))))], []⟩, [], [], []⟩, ⟨⟨[(108, cD (.bool true)), (119, cD (.bool (decide (r66 < 0))))], []⟩, ⟨[(120, cD (.bool (decide (r66 < 0))))], []⟩, [], [], []⟩]) (bef := [[], [], [0, 1], [0, 1, 2], [0, 1, 2, 3], [0, 1, 2, 3], [0, 1, 2, 3], [0, 1, 2, 3, 5, 6], [0, 1, 2, 3, 5, 6, 7], [0, 1, 2, 3], [0, 1, 2, 3], [0, 1, 2, 3, 9, 10], [0, 1, 2, 3, 9, 10, 11], [0, 1, 2, 3, 4, 5, 6, 7, 8, 9, 10, 11, 12], [0, 1, 2, 3, 4, 5, 6, 7, 8, 9, 10, 11, 12, 13], [0, 1, 2, 3, 4, 5, 6, 7, 8, 9, 10, 11, 12, 13, 14]]) (tk := [0, 1, 4, 12, 13, 120]) (sk := [5000]) (s' := ⟨[(0, .c (oC 5000 3 a29.2.2)), (1, cD (i6 p1)), (4, cD (.fn 20 [])), (12, cD (i6 a39)), (13, cD (i6 a29.2.1)), (120, cD (.bool (decide (r66 < 0))))], [(5000, vL 3 encTime a29.2.2)]⟩) (by kernel_rfl) (by kernel_rfl) (by kernel_rfl) ⟨?_, ?_, ?_, ?_, ?_, ?_, ?_, ?_, ?_, ?_, ?_, ?_, ?_, ?_, ?_, ?_, trivial⟩ (by kernel_rfl) ?_
           · exact DOk.t rfl rfl (by kernel_rfl) (by kernel_rfl)
           · exact DOk.t rfl rfl (by kernel_rfl) (by kernel_rfl)
           · exact DOk.t rfl rfl (by kernel_rfl) (by kernel_rfl)
           · exact DOk.stepP (fun b => .val (.c (.d (.bool b))) (True)) (p := (decide (a39 ≤ a29.2.1))) hp61 (fun r => by kernel_rfl) (fun r => by kernel_rfl) trivial (by kernel_rfl) (by kernel_rfl) (fun r => rfl)
           · exact DOk.t rfl rfl (by kernel_rfl) (by kernel_rfl)
           · exact DOk.t rfl rfl (by kernel_rfl) (by kernel_rfl)
           · exact DOk.t rfl rfl (by kernel_rfl) (by kernel_rfl)
           · exact DOk.step (.val (.c (.vptr 5000 3 (0 + a39.toNat) 0)) ((0 : Int) ≤ a39 ∧ a39 < (a29.2.2.length : Int))) (fun r => by kernel_rfl) (fun r => by kernel_rfl) hc62 (by kernel_rfl) (by kernel_rfl) (fun r => rfl)
           · exact DOk.step (.val (.agg (cTime (a29.2.2.getD (0 + a39.toNat) default))) ((0 + a39.toNat) < a29.2.2.length)) (fun r => by kernel_rfl) (fun r => by kernel_rfl) hc63 (by kernel_rfl) (by kernel_rfl) (fun r => rfl)
           · exact DOk.t rfl rfl (by kernel_rfl) (by kernel_rfl)
           · exact DOk.t rfl rfl (by kernel_rfl) (by kernel_rfl)
           · exact DOk.step (.val (.c (.vptr 5000 3 (0 + p1.toNat) 0)) ((0 : Int) ≤ p1 ∧ p1 < (a29.2.2.length : Int))) (fun r => by kernel_rfl) (fun r => by kernel_rfl) hc64 (by kernel_rfl) (by kernel_rfl) (fun r => rfl)
           · exact DOk.step (.val (.agg (cTime (a29.2.2.getD (0 + p1.toNat) default))) ((0 + p1.toNat) < a29.2.2.length)) (fun r => by kernel_rfl) (fun r => by kernel_rfl) hc65 (by kernel_rfl) (by kernel_rfl) (fun r => rfl)
           · exact DOk.callA (caps := []) (xs := [.agg (cTime (a29.2.2.getD (0 + a39.toNat) default)), .agg (cTime (a29.2.2.getD (0 + p1.toNat) default))]) (moment_Compare_ok hr66) rfl (fun r => by kernel_rfl) rfl (fun r => by kernel_rfl) (fun r => by kernel_rfl) (fun r => (.cons (.refl _) (.cons (.refl _) .nil))) rfl rfl (fun r => rfl)
           · exact DOk.t rfl rfl (by kernel_rfl) (by kernel_rfl)
           · exact DOk.t rfl rfl (by kernel_rfl) (by kernel_rfl)
           exact ⟨_, h, rfl⟩
          ·refine Tri.drawn (specs := [⟨⟨[(12, cD (i6 a39))], []⟩, ⟨[(105, cD (i6 a39))], []⟩, [], [], []⟩, ⟨⟨[(13, cD (i6 a29.2.1))], []⟩, ⟨[(106, cD (i6 a29.2.1))], []⟩, [], [], []⟩, ⟨⟨[(105, cD (i6 a39)), (106, cD (i6 a29.2.1))], []⟩, ⟨[(107, cD (.bool (decide (a39 ≤ a29.2.1))))], []⟩, [], [], []⟩, ⟨⟨[(107, cD (.bool (decide (a39 ≤ a29.2.1))))], []⟩, ⟨[(108, .c (.d (.bool false)))], []⟩, [], [], []⟩, ⟨⟨[(4, cD (.fn 20 [])), (108, cD (.bool false))], []⟩, ⟨[(109, .tup [])], []⟩, [], [], []⟩, ⟨⟨[(0, .c (oC 5000 3 a29.2.2)), (108, cD (.bool false))], []⟩, ⟨[(110, .tup [])], []⟩, [], [], []⟩, ⟨⟨[(12, cD (i6 a39)), (108, cD (.bool false))], []⟩, ⟨[(111, .tup [])], []⟩, [], [], []⟩, ⟨⟨[(108, cD (.bool false)), (110, .tup []), (111, .tup [])], []⟩, ⟨[(112, .tup [])], []⟩, [], [], []⟩, ⟨⟨[(108, cD (.bool false)), (112, .tup [])], []⟩, ⟨[(113, .tup [])], []⟩, [], [], []⟩, ⟨⟨[(0, .c (oC 5000 3 a29.2.2)), (108, cD (.bool false))], []⟩, ⟨[(114, .tup [])], []⟩, [], [], []⟩, ⟨⟨[(1, cD (i6 p1)), (108, cD (.bool false))], []⟩, ⟨[(115, .tup [])], []⟩, [], [], []⟩, ⟨⟨[(108, cD (.bool false)), (114, .tup []), (115, .tup [])], []⟩, ⟨[(116, .tup [])], []⟩, [], [], []⟩, ⟨⟨[(108, cD (.bool false)), (116, .tup [])], []⟩, ⟨[(117, .tup [])], []⟩, [], [], []⟩, ⟨⟨[(108, cD (.bool false)), (109, .tup []), (113, .tup []), (117, .tup [])], []⟩, ⟨[(118, .tup [])], []⟩, [], [], []⟩, ⟨⟨[(108, cD (.bool false)), (118, .tup [])], []⟩, ⟨[(119, .tup [])], []⟩, [], [], []⟩, ⟨⟨[(108, cD (.bool false)), (119, .tup [])], []⟩, ⟨[(120, cD (.bool false))], []⟩, [], [], []⟩]) (bef := [[], [], [0, 1], [0, 1, 2], [0, 1, 2, 3], [0, 1, 2, 3], [0, 1, 2, 3], [0, 1, 2, 3, 5, 6], [0, 1, 2, 3, 5, 6, 7], [0, 1, 2, 3], [0, 1, 2, 3], [0, 1, 2, 3, 9, 10], [0, 1, 2, 3, 9, 10, 11], [0, 1, 2, 3, 4, 5, 6, 7, 8, 9, 10, 11, 12], [0, 1, 2, 3, 4, 5, 6, 7, 8, 9, 10, 11, 12, 13], [0, 1, 2, 3, 4, 5, 6, 7, 8, 9, 10, 11, 12, 13, 14]]) (tk := [0, 1, 4, 12, 13, 120]) (sk := [5000]) (s' := ⟨[(0, .c (oC 5000 3 a29.2.2)), (1, cD (i6 p1)), (4, cD (.fn 20 [])), (12, cD (i6 a39)), (13, cD (i6 a29.2.1)), (120, cD (.bool false))], [(5000, vL 3 encTime a29.2.2)]⟩) (by kernel_rfl) (by kernel_rfl) (by kernel_rfl) ⟨?_, ?_, ?_, ?_, ?_, ?_, ?_, ?_, ?_, ?_, ?_, ?_, ?_, ?_, ?_, ?_, trivial⟩ (by kernel_rfl) ?_
           · exact DOk.t rfl rfl (by kernel_rfl) (by kernel_rfl)
           · exact DOk.t rfl rfl (by kernel_rfl) (by kernel_rfl)
           · exact DOk.t rfl rfl (by kernel_rfl) (by kernel_rfl)
           · exact DOk.stepP (fun b => .val (.c (.d (.bool b))) (True)) (p := (decide (a39 ≤ a29.2.1))) hp61 (fun r => by kernel_rfl) (fun r => by kernel_rfl) trivial (by kernel_rfl) (by kernel_rfl) (fun r => rfl)
           · exact DOk.skip (fun r => by kernel_rfl) rfl rfl (fun r => rfl)
           · exact DOk.skip (fun r => by kernel_rfl) rfl rfl (fun r => rfl)
           · exact DOk.skip (fun r => by kernel_rfl) rfl rfl (fun r => rfl)
           · exact DOk.skip (fun r => by kernel_rfl) rfl rfl (fun r => rfl)
           · exact DOk.skip (fun r => by kernel_rfl) rfl rfl (fun r => rfl)
           · exact DOk.skip (fun r => by kernel_rfl) rfl rfl (fun r => rfl)
           · exact DOk.skip (fun r => by kernel_rfl) rfl rfl (fun r => rfl)
           · exact DOk.skip (fun r => by kernel_rfl) rfl rfl (fun r => rfl)
           · exact DOk.skip (fun r => by kernel_rfl) rfl rfl (fun r => rfl)
           · exact DOk.skip (fun r => by kernel_rfl) rfl rfl (fun r => rfl)
           · exact DOk.skip (fun r => by kernel_rfl) rfl rfl (fun r => rfl)
           · exact DOk.t rfl rfl (by kernel_rfl) (by kernel_rfl)
           exact ⟨_, h, rfl⟩
        ·intro a40 h
         show Tri _ _ _ _
         refine Tri.seqS ?_
         refine Tri.keep [0, 1, 4, 12, 13] [5000] (s' := ⟨[(0, .c (oC 5000 3 a29.2.2)), (1, cD (i6 p1)), (4, cD (.fn 20 [])), (12, cD (i6 a40)), (13, cD (i6 a29.2.1))], [(5000, vL 3 encTime a29.2.2)]⟩) (by kernel_rfl) ?_
         refine Tri.loopK (fuel := fuel) (st0 := a29.2.1) (fun (x : Empty) s => False) (fun (a41 : Int) => ⟨[(0, .c (oC 5000 3 a29.2.2)), (1, cD (i6 p1)), (4, cD (.fn 20 [])), (12, cD (i6 a40)), (13, cD (i6 a41))], [(5000, vL 3 encTime a29.2.2)]⟩) (fun (a41 : Int) => ⟨[(0, .c (oC 5000 3 a29.2.2)), (1, cD (i6 p1)), (4, cD (.fn 20 [])), (12, cD (i6 a40)), (13, cD (i6 a41))], [(5000, vL 3 encTime a29.2.2)]⟩) h ?_ ?_ ?_
         ·intro a41 c h
          show Tri _ _ ⟨[(0, .c (oC 5000 3 a29.2.2)), (1, cD (i6 p1)), (4, cD (.fn 20 [])), (12, cD (i6 a40)), (13, cD (i6 a41))], [(5000, vL 3 encTime a29.2.2)]⟩ _
          refine Tri.seqS ?_
          refine Tri.seqJ (fun (a51 : Bool) => ⟨[(0, .c (oC 5000 3 a29.2.2)), (1, cD (i6 p1)), (4, cD (.fn 20 [])), (12, cD (i6 a40)), (13, cD (i6 a41)), (139, cD (.bool a51))], [(5000, vL 3 encTime a29.2.2)]⟩) h (fun a51 h => ?_) (fun j52 h => ?_)
          ·show Tri _ _ ⟨[(0, .c (oC 5000 3 a29.2.2)), (1, cD (i6 p1)), (4, cD (.fn 20 [])), (12, cD (i6 a40)), (13, cD (i6 a41)), (139, cD (.bool a51))], [(5000, vL 3 encTime a29.2.2)]⟩ _
           refine Tri.condP (b := a51) rfl h (fun h => ?_) (fun h => ?_)
           ·refine Tri.skip ?_
            show Tri _ _ _ _
            refine Tri.blockB ?_
            refine Tri.reg ?_
            refine At.seg 3 [0, 1, 4, 12, 13] [5000] (s' := ⟨[(0, .c (oC 5000 3 a29.2.2)), (1, cD (i6 p1)), (4, cD (.fn 20 [])), (12, cD (i6 a40)), (13, cD (i6 (IntKind.i64.wrap (a41 - 1))))], [(5000, vL 3 encTime a29.2.2)]⟩) (c := True ∧ True ∧ True ∧ True) (by kernel_rfl) ⟨trivial, trivial, trivial, trivial⟩ ?_
            refine At.done rfl ?_
            cases h
            exact rfl
           ·refine Tri.keep [0, 1, 4, 12, 13] [5000] (s' := ⟨[(0, .c (oC 5000 3 a29.2.2)), (1, cD (i6 p1)), (4, cD (.fn 20 [])), (12, cD (i6 a40)), (13, cD (i6 a41))], [(5000, vL 3 encTime a29.2.2)]⟩) (by kernel_rfl) ?_
            refine Tri.exit ?_
            cases h
            exact ⟨rfl, rfl⟩
          ·rcases bf_cases h with ⟨hp53, h⟩ | ⟨hp53, h⟩
           ·obtain ⟨hc54, h⟩ := need_elim h
            obtain ⟨hc55, h⟩ := need_elim h
            obtain ⟨hc56, h⟩ := need_elim h
            obtain ⟨hc57, h⟩ := need_elim h
            obtain ⟨r58, hr58, h⟩ := bind_elim h
            refine Tri.drawn (specs := [⟨⟨[(12, cD (i6 a40))], []⟩, ⟨[(123, cD (i6 a40))], []⟩, [], [], []⟩, ⟨⟨[(13, cD (i6 a41))], []⟩, ⟨[(124, cD (i6 a41))], []⟩, [], [], []⟩, ⟨⟨[(123, cD (i6 a40)), (124, cD (i6 a41))], []⟩, ⟨[(125, cD (.bool (decide (a40 ≤ a41))))], []⟩, [], [], []⟩, ⟨⟨[(125, cD (.bool (decide (a40 ≤ a41))))], []⟩, ⟨[(126, .c (.d (.bool true)))], []⟩, [], [], []⟩, ⟨⟨[(4, cD (.fn 20 [])), (126, cD (.bool true))], []⟩, ⟨[(127, cD (.fn 20 []))], []⟩, [], [], []⟩, ⟨⟨[(0, .c (oC 5000 3 a29.2.2)), (126, cD (.bool true))], []⟩, ⟨[(128, .c (oC 5000 3 a29.2.2))], []⟩, [], [], []⟩, ⟨⟨[(13, cD (i6 a41)), (126, cD (.bool true))], []⟩, ⟨[(129, cD (i6 a41))], []⟩, [], [], []⟩, ⟨⟨[(126, cD (.bool true)), (128, .c (oC 5000 3 a29.2.2)), (129, cD (i6 a41))], [(5000, vL 3 encTime a29.2.2)]⟩, ⟨[(130, .c (.vptr 5000 3 (0 + a41.toNat) 0))], []⟩, [], [], []⟩, ⟨⟨[(126, cD (.bool true)), (130, .c (.vptr 5000 3 (0 + a41.toNat) 0))], [(5000, vL 3 encTime a29.2.2)]⟩, ⟨[(131, .agg (cTime (a29.2.2.getD (0 + a41.toNat) default)))], []⟩, [], [], []⟩, ⟨⟨[(0, .c (oC 5000 3 a29.2.2)), (126, cD (.bool true))], []⟩, ⟨[(132, .c (oC 5000 3 a29.2.2))], []⟩, [], [], []⟩, ⟨⟨[(1, cD (i6 p1)), (126, cD (.bool true))], []⟩, ⟨[(133, cD (i6 p1))], []⟩, [], [], []⟩, ⟨⟨[(126, cD (.bool true)), (132, .c (oC 5000 3 a29.2.2)), (133, cD (i6 p1))], [(5000, vL 3 encTime a29.2.2)]⟩, ⟨[(134, .c (.vptr 5000 3 (0 + p1.toNat) 0))], []⟩, [], [], []⟩, ⟨⟨[(126, cD (.bool true)), (134, .c (.vptr 5000 3 (0 + p1.toNat) 0))], [(5000, vL 3 encTime a29.2.2)]⟩, ⟨[(135, .agg (cTime (a29.2.2.getD (0 + p1.toNat) default)))], []⟩, [], [], []⟩, ⟨⟨[(126, cD (.bool true)), (127, cD (.fn 20 [])), (131, .agg (cTime (a29.2.2.getD (0 + a41.toNat) default))), (135, .agg (cTime (a29.2.2.getD (0 + p1.toNat) default)))], []⟩, ⟨[(136, cD (i6 r58))], []⟩, [], [], []⟩, ⟨⟨[(126, cD (.bool true)), (136, cD (i6 r58))], []⟩, ⟨[(137, cD (.bool (decide (r58 < 0))))], []⟩, [], [], []⟩, ⟨⟨[(126, cD (.bool true)), (137, cD (.bool (decide (r58 < 0))))], []⟩, ⟨[(138, cD (.bool (!(decide (r58 < 0)))))], []⟩, [], [], []⟩, ⟨⟨[(126, cD (.bool true)), (138, cD (.bool (!(decide (r58 < 0)))))], []⟩, ⟨[(139, cD (.bool (!(decide (r58 < 0)))))], []⟩, [], [], []⟩]) (bef := [[], [], [0, 1], [0, 1, 2], [0, 1, 2, 3], [0, 1, 2, 3], [0, 1, 2, 3], [0, 1, 2, 3, 5, 6], [0, 1, 2, 3, 5, 6, 7], [0, 1, 2, 3], [0, 1, 2, 3], [0, 1, 2, 3, 9, 10], [0, 1, 2, 3, 9, 10, 11], [0, 1, 2, 3, 4, 5, 6, 7, 8, 9, 10, 11, 12], [0, 1, 2, 3, 4, 5, 6, 7, 8, 9, 10, 11, 12, 13], [0, 1, 2, 3, 4, 5, 6, 7, 8, 9, 10, 11, 12, 13, 14], [0, 1, 2, 3, 4, 5, 6, 7, 8, 9, 10, 11, 12, 13, 14, 15]]) (tk := [0, 1, 4, 12, 13, 139]) (sk := [5000]) (s' := ⟨[(0, .c (oC 5000 3 a29.2.2)), (1, cD (i6 p1)), (4, cD (.fn 20 [])), (12, cD (i6 a40)), (13, cD (i6 a41)), (139, cD (.bool (!(decide (r58 < 0)))))], [(5000, vL 3 encTime a29.2.2)]⟩) (by kernel_rfl) (by kernel_rfl) (by kernel_rfl) ⟨?_, ?_, ?_, ?_, ?_, ?_, ?_, ?_, ?_, ?_, ?_, ?_, ?_, ?_, ?_, ?_, ?_, trivial⟩ (by kernel_rfl) ?_
            · exact DOk.t rfl rfl (by kernel_rfl) (by kernel_rfl)
            · exact DOk.t rfl rfl (by kernel_rfl) (by kernel_rfl)
            · exact DOk.t rfl rfl (by kernel_rfl) (by kernel_rfl)
            · exact DOk.stepP (fun b => .val (.c (.d (.bool b))) (True)) (p := (decide (a40 ≤ a41))) hp53 (fun r => by kernel_rfl) (fun r => by kernel_rfl) trivial (by kernel_rfl) (by kernel_rfl) (fun r => rfl)
            · exact DOk.t rfl rfl (by kernel_rfl) (by kernel_rfl)
            · exact DOk.t rfl rfl (by kernel_rfl) (by kernel_rfl)
            · exact DOk.t rfl rfl (by kernel_rfl) (by kernel_rfl)
            · exact DOk.step (.val (.c (.vptr 5000 3 (0 + a41.toNat) 0)) ((0 : Int) ≤ a41 ∧ a41 < (a29.2.2.length : Int))) (fun r => by kernel_rfl) (fun r => by kernel_rfl) hc54 (by kernel_rfl) (by kernel_rfl) (fun r => rfl)
            · exact DOk.step (.val (.agg (cTime (a29.2.2.getD (0 + a41.toNat) default))) ((0 + a41.toNat) < a29.2.2.length)) (fun r => by kernel_rfl) (fun r => by kernel_rfl) hc55 (by kernel_rfl) (by kernel_rfl) (fun r => rfl)
            · exact DOk.t rfl rfl (by kernel_rfl) (by kernel_rfl)
            · exact DOk.t rfl rfl (by kernel_rfl) (by kernel_rfl)
            · exact DOk.step (.val (.c (.vptr 5000 3 (0 + p1.toNat) 0)) ((0 : Int) ≤ p1 ∧ p1 < (a29.2.2.length : Int))) (fun r => by kernel_rfl) (fun r => by kernel_rfl) hc56 (by kernel_rfl) (by kernel_rfl) (fun r => rfl)
            · exact DOk.step (.val (.agg (cTime (a29.2.2.getD (0 + p1.toNat) default))) ((0 + p1.toNat) < a29.2.2.length)) (fun r => by kernel_rfl) (fun r => by kernel_rfl) hc57 (by kernel_rfl) (by kernel_rfl) (fun r => rfl)
            · exact DOk.callA (caps := []) (xs := [.agg (cTime (a29.2.2.getD (0 + a41.toNat) default)), .agg (cTime (a29.2.2.getD (0 + p1.toNat) default))]) (moment_Compare_ok hr58) rfl (fun r => by kernel_rfl) rfl (fun r => by kernel_rfl) (fun r => by kernel_rfl) (fun r => (.cons (.refl _) (.cons (.refl _) .nil))) rfl rfl (fun r => rfl)
            · exact DOk.t rfl rfl (by kernel_rfl) (by kernel_rfl)
            · exact DOk.t rfl rfl (by kernel_rfl) (by kernel_rfl)
            · exact DOk.t rfl rfl (by kernel_rfl) (by kernel_rfl)
            exact ⟨_, h, rfl⟩
           ·refine Tri.drawn (specs := [⟨⟨[(12, cD (i6 a40))], []⟩, ⟨[(123, cD (i6 a40))], []⟩, [], [], []⟩, ⟨⟨[(13, cD (i6 a41))], []⟩, ⟨[(124, cD (i6 a41))], []⟩, [], [], []⟩, ⟨⟨[(123, cD (i6 a40)), (124, cD (i6 a41))], []⟩, ⟨[(125, cD (.bool (decide (a40 ≤ a41))))], []⟩, [], [], []⟩, ⟨⟨[(125, cD (.bool (decide (a40 ≤ a41))))], []⟩, ⟨[(126, .c (.d (.bool false)))], []⟩, [], [], []⟩, ⟨⟨[(4, cD (.fn 20 [])), (126, cD (.bool false))], []⟩, ⟨[(127, .tup [])], []⟩, [], [], []⟩, ⟨⟨[(0, .c (oC 5000 3 a29.2.2)), (126, cD (.bool false))], []⟩, ⟨[(128, .tup [])], []⟩, [], [], []⟩, ⟨⟨[(13, cD (i6 a41)), (126, cD (.bool false))], []⟩, ⟨[(129, .tup [])], []⟩, [], [], []⟩, ⟨⟨[(126, cD (.bool false)), (128, .tup []), (129, .tup [])], []⟩, ⟨[(130, .tup [])], []⟩, [], [], []⟩, ⟨⟨[(126, cD (.bool false)), (130, .tup [])], []⟩, ⟨[(131, .tup [])], []⟩, [], [], []⟩, ⟨⟨[(0, .c (oC 5000 3 a29.2.2)), (126, cD (.bool false))], []⟩, ⟨[(132, .tup [])], []⟩, [], [], []⟩, ⟨⟨[(1, cD (i6 p1)), (126, cD (.bool false))], []⟩, ⟨[(133, .tup [])], []⟩, [], [], []⟩, ⟨⟨[(126, cD (.bool false)), (132, .tup []), (133, .tup [])], []⟩, ⟨[(134, .tup [])], []⟩, [], [], []⟩, ⟨⟨[(126, cD (.bool false)), (134, .tup [])], []⟩, ⟨[(135, .tup [])], []⟩, [], [], []⟩, ⟨⟨[(126, cD (.bool false)), (127, .tup []), (131, .tup []), (135, .tup [])], []⟩, ⟨[(136, .tup [])], []⟩, [], [], []⟩, ⟨⟨[(126, cD (.bool false)), (136, .tup [])], []⟩, ⟨[(137, .tup [])], []⟩, [], [], []⟩, ⟨⟨[(126, cD (.bool false)), (137, .tup [])], []⟩, ⟨[(138, .tup [])], []⟩, [], [], []⟩, ⟨⟨[(126, cD (.bool false)), (138, .tup [])], []⟩, ⟨[(139, cD (.bool false))], []⟩, [], [], []⟩]) (bef := [[], [], [0, 1], [0, 1, 2], [0, 1, 2, 3], [0, 1, 2, 3], [0, 1, 2, 3], [0, 1, 2, 3, 5, 6], [0, 1, 2, 3, 5, 6, 7], [0, 1, 2, 3], [0, 1, 2, 3], [0, 1, 2, 3, 9, 10], [0, 1, 2, 3, 9, 10, 11], [0, 1, 2, 3, 4, 5, 6, 7, 8, 9, 10, 11, 12], [0, 1, 2, 3, 4, 5, 6, 7, 8, 9, 10, 11, 12, 13], [0, 1, 2, 3, 4, 5, 6, 7, 8, 9, 10, 11, 12, 13, 14], [0, 1, 2, 3, 4, 5, 6, 7, 8, 9, 10, 11, 12, 13, 14, 15]]) (tk := [0, 1, 4, 12, 13, 139]) (sk := [5000]) (s' := ⟨[(0, .c (oC 5000 3 a29.2.2)), (1, cD (i6 p1)), (4, cD (.fn 20 [])), (12, cD (i6 a40)), (13, cD (i6 a41)), (139, cD (.bool false))], [(5000, vL 3 encTime a29.2.2)]⟩) (by kernel_rfl) (by kernel_rfl) (by kernel_rfl) ⟨?_, ?_, ?_, ?_, ?_, ?_, ?_, ?_, ?_, ?_, ?_, ?_, ?_, ?_, ?_, ?_, ?_, trivial⟩ (by kernel_rfl) ?_
            · exact DOk.t rfl rfl (by kernel_rfl) (by kernel_rfl)
            · exact DOk.t rfl rfl (by kernel_rfl) (by kernel_rfl)
            · exact DOk.t rfl rfl (by kernel_rfl) (by kernel_rfl)
            · exact DOk.stepP (fun b => .val (.c (.d (.bool b))) (True)) (p := (decide (a40 ≤ a41))) hp53 (fun r => by kernel_rfl) (fun r => by kernel_rfl) trivial (by kernel_rfl) (by kernel_rfl) (fun r => rfl)
            · exact DOk.skip (fun r => by kernel_rfl) rfl rfl (fun r => rfl)
            · exact DOk.skip (fun r => by kernel_rfl) rfl rfl (fun r => rfl)
            · exact DOk.skip (fun r => by kernel_rfl) rfl rfl (fun r => rfl)
            · exact DOk.skip (fun r => by kernel_rfl) rfl rfl (fun r => rfl)
            · exact DOk.skip (fun r => by kernel_rfl) rfl rfl (fun r => rfl)
            · exact DOk.skip (fun r => by kernel_rfl) rfl rfl (fun r => rfl)
            · exact DOk.skip (fun r => by kernel_rfl) rfl rfl (fun r => rfl)
            · exact DOk.skip (fun r => by kernel_rfl) rfl rfl (fun r => rfl)
            · exact DOk.skip (fun r => by kernel_rfl) rfl rfl (fun r => rfl)
            · exact DOk.skip (fun r => by kernel_rfl) rfl rfl (fun r => rfl)
            · exact DOk.skip (fun r => by kernel_rfl) rfl rfl (fun r => rfl)
            · exact DOk.skip (fun r => by kernel_rfl) rfl rfl (fun r => rfl)
            · exact DOk.t rfl rfl (by kernel_rfl) (by kernel_rfl)
            exact ⟨_, h, rfl⟩
         ·intro a42 h
          show Tri _ _ _ _
          refine Tri.seqS ?_
          refine Tri.seqS ?_
          refine Tri.reg ?_
          refine At.seg 3 [0, 1, 4, 12, 13, 144] [5000] (s' := ⟨[(0, .c (oC 5000 3 a29.2.2)), (1, cD (i6 p1)), (4, cD (.fn 20 [])), (12, cD (i6 a40)), (13, cD (i6 a42)), (144, cD (.bool (decide (a42 < a40))))], [(5000, vL 3 encTime a29.2.2)]⟩) (c := True ∧ True ∧ True ∧ True) (by kernel_rfl) ⟨trivial, trivial, trivial, trivial⟩ ?_
          refine At.done rfl ?_
          show Tri _ _ _ _
          refine Tri.condP (b := (decide (a42 < a40))) rfl h (fun h => ?_) (fun h => ?_)
          ·refine Tri.keep [0, 1, 4, 12, 13] [5000] (s' := ⟨[(0, .c (oC 5000 3 a29.2.2)), (1, cD (i6 p1)), (4, cD (.fn 20 [])), (12, cD (i6 a40)), (13, cD (i6 a42))], [(5000, vL 3 encTime a29.2.2)]⟩) (by kernel_rfl) ?_
           refine Tri.exit ?_
           cases h
           exact ⟨rfl, rfl⟩
          ·refine Tri.skip ?_
           show Tri _ _ _ _
           refine Tri.seqS ?_
           obtain ⟨hc43, h⟩ := need_elim h
           obtain ⟨hc44, h⟩ := need_elim h
           obtain ⟨hc45, h⟩ := need_elim h
           obtain ⟨hc46, h⟩ := need_elim h
           obtain ⟨hc47, h⟩ := need_elim h
           obtain ⟨hc48, h⟩ := need_elim h
           obtain ⟨hc49, h⟩ := need_elim h
           obtain ⟨hc50, h⟩ := need_elim h
           refine Tri.afterA ⟨[(0, .c (oC 5000 3 a29.2.2)), (1, cD (i6 p1)), (4, cD (.fn 20 [])), (12, cD (i6 a40)), (13, cD (i6 a42))], [(5000, vL 3 encTime ((a29.2.2.set (0 + a40.toNat) (a29.2.2.getD (0 + a42.toNat) default)).set (0 + a42.toNat) (a29.2.2.getD (0 + a40.toNat) default)))]⟩ ?_ ?_
           ·refine Tri.drawn (specs := [⟨⟨[(0, .c (oC 5000 3 a29.2.2))], []⟩, ⟨[(145, .c (oC 5000 3 a29.2.2))], []⟩, [], [], []⟩, ⟨⟨[(12, cD (i6 a40))], []⟩, ⟨[(146, cD (i6 a40))], []⟩, [], [], []⟩, ⟨⟨[(0, .c (oC 5000 3 a29.2.2))], []⟩, ⟨[(147, .c (oC 5000 3 a29.2.2))], []⟩, [], [], []⟩, ⟨⟨[(13, cD (i6 a42))], []⟩, ⟨[(148, cD (i6 a42))], []⟩, [], [], []⟩, ⟨⟨[(0, .c (oC 5000 3 a29.2.2))], []⟩, ⟨[(149, .c (oC 5000 3 a29.2.2))], []⟩, [], [], []⟩, ⟨⟨[(13, cD (i6 a42))], []⟩, ⟨[(150, cD (i6 a42))], []⟩, [], [], []⟩, ⟨⟨[(149, .c (oC 5000 3 a29.2.2)), (150, cD (i6 a42))], [(5000, vL 3 encTime a29.2.2)]⟩, ⟨[(151, .c (.vptr 5000 3 (0 + a42.toNat) 0))], []⟩, [], [], []⟩, ⟨⟨[(151, .c (.vptr 5000 3 (0 + a42.toNat) 0))], [(5000, vL 3 encTime a29.2.2)]⟩, ⟨[(152, .agg (cTime (a29.2.2.getD (0 + a42.toNat) default)))], []⟩, [], [], []⟩, ⟨⟨[(0, .c (oC 5000 3 a29.2.2))], []⟩, ⟨[(153, .c (oC 5000 3 a29.2.2))], []⟩, [], [], []⟩, ⟨⟨[(12, cD (i6 a40))], []⟩, ⟨[(154, cD (i6 a40))], []⟩, [], [], []⟩, ⟨⟨[(153, .c (oC 5000 3 a29.2.2)), (154, cD (i6 a40))], [(5000, vL 3 encTime a29.2.2)]⟩, ⟨[(155, .c (.vptr 5000 3 (0 + a40.toNat) 0))], []⟩, [], [], []⟩, ⟨⟨[(155, .c (.vptr 5000 3 (0 + a40.toNat) 0))], [(5000, vL 3 encTime a29.2.2)]⟩, ⟨[(156, .agg (cTime (a29.2.2.getD (0 + a40.toNat) default)))], []⟩, [], [], []⟩, ⟨⟨[(145, .c (oC 5000 3 a29.2.2)), (146, cD (i6 a40))], [(5000, vL 3 encTime a29.2.2)]⟩, ⟨[(157, .c (.vptr 5000 3 (0 + a40.toNat) 0))], []⟩, [], [], []⟩, ⟨⟨[(152, .agg (cTime (a29.2.2.getD (0 + a42.toNat) default))), (157, .c (.vptr 5000 3 (0 + a40.toNat) 0))], [(5000, vL 3 encTime a29.2.2)]⟩, ⟨[], [(5000, vL 3 encTime (a29.2.2.set (0 + a40.toNat) (a29.2.2.getD (0 + a42.toNat) default)))]⟩, [], [], []⟩, ⟨⟨[(147, .c (oC 5000 3 a29.2.2)), (148, cD (i6 a42))], [(5000, vL 3 encTime (a29.2.2.set (0 + a40.toNat) (a29.2.2.getD (0 + a42.toNat) default)))]⟩, ⟨[(158, .c (.vptr 5000 3 (0 + a42.toNat) 0))], []⟩, [], [], []⟩, ⟨⟨[(156, .agg (cTime (a29.2.2.getD (0 + a40.toNat) default))), (158, .c (.vptr 5000 3 (0 + a42.toNat) 0))], [(5000, vL 3 encTime (a29.2.2.set (0 + a40.toNat) (a29.2.2.getD (0 + a42.toNat) default)))]⟩, ⟨[], [(5000, vL 3 encTime ((a29.2.2.set (0 + a40.toNat) (a29.2.2.getD (0 + a42.toNat) default)).set (0 + a42.toNat) (a29.2.2.getD (0 + a40.toNat) default)))]⟩, [], [], []⟩]) (bef := [[], [], [], [], [], [], [4, 5], [4, 5, 6], [], [], [8, 9], [8, 9, 10], [0, 1, 4, 5, 6, 7, 8, 9, 10, 11], [0, 1, 4, 5, 6, 7, 8, 9, 10, 11, 12], [0, 1, 2, 3, 4, 5, 6, 7, 8, 9, 10, 11, 12, 13], [0, 1, 2, 3, 4, 5, 6, 7, 8, 9, 10, 11, 12, 13, 14]]) (tk := [0, 1, 4, 12, 13]) (sk := [5000]) (s' := ⟨[(0, .c (oC 5000 3 a29.2.2)), (1, cD (i6 p1)), (4, cD (.fn 20 [])), (12, cD (i6 a40)), (13, cD (i6 a42))], [(5000, vL 3 encTime ((a29.2.2.set (0 + a40.toNat) (a29.2.2.getD (0 + a42.toNat) default)).set (0 + a42.toNat) (a29.2.2.getD (0 + a40.toNat) default)))]⟩) (by kernel_rfl) (by kernel_rfl) (by kernel_rfl) ⟨?_, ?_, ?_, ?_, ?_, ?_, ?_, ?_, ?_, ?_, ?_, ?_, ?_, ?_, ?_, ?_, trivial⟩ (by kernel_rfl) ?_
            · exact DOk.t rfl rfl (by kernel_rfl) (by kernel_rfl)
            · exact DOk.t rfl rfl (by kernel_rfl) (by kernel_rfl)
            · exact DOk.t rfl rfl (by kernel_rfl) (by kernel_rfl)
            · exact DOk.t rfl rfl (by kernel_rfl) (by kernel_rfl)
            · exact DOk.t rfl rfl (by kernel_rfl) (by kernel_rfl)
            · exact DOk.t rfl rfl (by kernel_rfl) (by kernel_rfl)
            · exact DOk.step (.val (.c (.vptr 5000 3 (0 + a42.toNat) 0)) ((0 : Int) ≤ a42 ∧ a42 < (a29.2.2.length : Int))) (fun r => by kernel_rfl) (fun r => by kernel_rfl) hc43 (by kernel_rfl) (by kernel_rfl) (fun r => rfl)
            · exact DOk.step (.val (.agg (cTime (a29.2.2.getD (0 + a42.toNat) default))) ((0 + a42.toNat) < a29.2.2.length)) (fun r => by kernel_rfl) (fun r => by kernel_rfl) hc44 (by kernel_rfl) (by kernel_rfl) (fun r => rfl)
            · exact DOk.t rfl rfl (by kernel_rfl) (by kernel_rfl)
            · exact DOk.t rfl rfl (by kernel_rfl) (by kernel_rfl)
            · exact DOk.step (.val (.c (.vptr 5000 3 (0 + a40.toNat) 0)) ((0 : Int) ≤ a40 ∧ a40 < (a29.2.2.length : Int))) (fun r => by kernel_rfl) (fun r => by kernel_rfl) hc45 (by kernel_rfl) (by kernel_rfl) (fun r => rfl)
            · exact DOk.step (.val (.agg (cTime (a29.2.2.getD (0 + a40.toNat) default))) ((0 + a40.toNat) < a29.2.2.length)) (fun r => by kernel_rfl) (fun r => by kernel_rfl) hc46 (by kernel_rfl) (by kernel_rfl) (fun r => rfl)
            · exact DOk.step (.val (.c (.vptr 5000 3 (0 + a40.toNat) 0)) ((0 : Int) ≤ a40 ∧ a40 < (a29.2.2.length : Int))) (fun r => by kernel_rfl) (fun r => by kernel_rfl) hc47 (by kernel_rfl) (by kernel_rfl) (fun r => rfl)
            · exact DOk.one fun r hr => One.storeT (xs := [.d (u6 ((a29.2.2.getD (0 + a42.toNat) default).epoch)), .d (u6 ((a29.2.2.getD (0 + a42.toNat) default).loop.1)), .d (u6 ((a29.2.2.getD (0 + a42.toNat) default).loop.2))]) (ds := [u6 ((a29.2.2.getD (0 + a42.toNat) default).epoch), u6 ((a29.2.2.getD (0 + a42.toNat) default).loop.1), u6 ((a29.2.2.getD (0 + a42.toNat) default).loop.2)]) (encTime) a29.2.2 (a29.2.2.getD (0 + a42.toNat) default) rfl (by kernel_rfl) rfl rfl rfl hc48 rfl rfl (.refl _) rfl rfl rfl rfl
            · exact DOk.step (.val (.c (.vptr 5000 3 (0 + a42.toNat) 0)) ((0 : Int) ≤ a42 ∧ a42 < (a29.2.2.length : Int))) (fun r => by kernel_rfl) (fun r => by kernel_rfl) hc49 (by kernel_rfl) (by kernel_rfl) (fun r => rfl)
            · exact DOk.one fun r hr => One.storeT (xs := [.d (u6 ((a29.2.2.getD (0 + a40.toNat) default).epoch)), .d (u6 ((a29.2.2.getD (0 + a40.toNat) default).loop.1)), .d (u6 ((a29.2.2.getD (0 + a40.toNat) default).loop.2))]) (ds := [u6 ((a29.2.2.getD (0 + a40.toNat) default).epoch), u6 ((a29.2.2.getD (0 + a40.toNat) default).loop.1), u6 ((a29.2.2.getD (0 + a40.toNat) default).loop.2)]) (encTime) (a29.2.2.set (0 + a40.toNat) (a29.2.2.getD (0 + a42.toNat) default)) (a29.2.2.getD (0 + a40.toNat) default) rfl (by kernel_rfl) rfl rfl rfl hc50 rfl rfl (.refl _) rfl rfl rfl rfl
            exact ⟨rfl, rfl⟩
           ·refine At.eqS (s' := ⟨[(0, .c (oC 5000 3 ((a29.2.2.set (0 + a40.toNat) (a29.2.2.getD (0 + a42.toNat) default)).set (0 + a42.toNat) (a29.2.2.getD (0 + a40.toNat) default)))), (1, cD (i6 p1)), (4, cD (.fn 20 [])), (12, cD (i6 a40)), (13, cD (i6 a42))], [(5000, vL 3 encTime ((a29.2.2.set (0 + a40.toNat) (a29.2.2.getD (0 + a42.toNat) default)).set (0 + a42.toNat) (a29.2.2.getD (0 + a40.toNat) default)))]⟩) (by simp only [oC, vL, List.length_set]) ?_
            refine At.done rfl ?_
            show Tri _ _ _ _
            refine Tri.seqS ?_
            refine Tri.reg ?_
            refine At.seg 3 [0, 1, 4, 12, 13] [5000] (s' := ⟨[(0, .c (oC 5000 3 ((a29.2.2.set (0 + a40.toNat) (a29.2.2.getD (0 + a42.toNat) default)).set (0 + a42.toNat) (a29.2.2.getD (0 + a40.toNat) default)))), (1, cD (i6 p1)), (4, cD (.fn 20 [])), (12, cD (i6 (IntKind.i64.wrap (a40 + 1)))), (13, cD (i6 a42))], [(5000, vL 3 encTime ((a29.2.2.set (0 + a40.toNat) (a29.2.2.getD (0 + a42.toNat) default)).set (0 + a42.toNat) (a29.2.2.getD (0 + a40.toNat) default)))]⟩) (c := True ∧ True ∧ True ∧ True) (by kernel_rfl) ⟨trivial, trivial, trivial, trivial⟩ ?_
            refine At.done rfl ?_
            show Tri _ _ _ _
            refine Tri.reg ?_
            refine At.seg 3 [0, 1, 4, 12, 13] [5000] (s' := ⟨[(0, .c (oC 5000 3 ((a29.2.2.set (0 + a40.toNat) (a29.2.2.getD (0 + a42.toNat) default)).set (0 + a42.toNat) (a29.2.2.getD (0 + a40.toNat) default)))), (1, cD (i6 p1)), (4, cD (.fn 20 [])), (12, cD (i6 (IntKind.i64.wrap (a40 + 1)))), (13, cD (i6 (IntKind.i64.wrap (a42 - 1))))], [(5000, vL 3 encTime ((a29.2.2.set (0 + a40.toNat) (a29.2.2.getD (0 + a42.toNat) default)).set (0 + a42.toNat) (a29.2.2.getD (0 + a40.toNat) default)))]⟩) (c := True ∧ True ∧ True ∧ True) (by kernel_rfl) ⟨trivial, trivial, trivial, trivial⟩ ?_
            refine At.done rfl ?_
            cases h
            exact rfl
         · exact fun x => x.elim
        · exact fun x => x.elim
       ·intro a30 h
        show Tri _ _ _ _
        refine Tri.seqS ?_
        obtain ⟨hc31, h⟩ := need_elim h
        obtain ⟨hc32, h⟩ := need_elim h
        obtain ⟨hc33, h⟩ := need_elim h
        obtain ⟨hc34, h⟩ := need_elim h
        obtain ⟨hc35, h⟩ := need_elim h
        obtain ⟨hc36, h⟩ := need_elim h
        obtain ⟨hc37, h⟩ := need_elim h
        obtain ⟨hc38, h⟩ := need_elim h
        refine Tri.drawn (specs := [⟨⟨[(0, .c (oC 5000 3 a30.2.2))], []⟩, ⟨[(163, .c (oC 5000 3 a30.2.2))], []⟩, [], [], []⟩, ⟨⟨[(13, cD (i6 a30.2.1))], []⟩, ⟨[(164, cD (i6 a30.2.1))], []⟩, [], [], []⟩, ⟨⟨[(0, .c (oC 5000 3 a30.2.2))], []⟩, ⟨[(165, .c (oC 5000 3 a30.2.2))], []⟩, [], [], []⟩, ⟨⟨[(1, cD (i6 p1))], []⟩, ⟨[(166, cD (i6 p1))], []⟩, [], [], []⟩, ⟨⟨[(0, .c (oC 5000 3 a30.2.2))], []⟩, ⟨[(167, .c (oC 5000 3 a30.2.2))], []⟩, [], [], []⟩, ⟨⟨[(1, cD (i6 p1))], []⟩, ⟨[(168, cD (i6 p1))], []⟩, [], [], []⟩, ⟨⟨[(167, .c (oC 5000 3 a30.2.2)), (168, cD (i6 p1))], [(5000, vL 3 encTime a30.2.2)]⟩, ⟨[(169, .c (.vptr 5000 3 (0 + p1.toNat) 0))], []⟩, [], [], []⟩, ⟨⟨[(169, .c (.vptr 5000 3 (0 + p1.toNat) 0))], [(5000, vL 3 encTime a30.2.2)]⟩, ⟨[(170, .agg (cTime (a30.2.2.getD (0 + p1.toNat) default)))], []⟩, [], [], []⟩, ⟨⟨[(0, .c (oC 5000 3 a30.2.2))], []⟩, ⟨[(171, .c (oC 5000 3 a30.2.2))], []⟩, [], [], []⟩, ⟨⟨[(13, cD (i6 a30.2.1))], []⟩, ⟨[(172, cD (i6 a30.2.1))], []⟩, [], [], []⟩, ⟨⟨[(171, .c (oC 5000 3 a30.2.2)), (172, cD (i6 a30.2.1))], [(5000, vL 3 encTime a30.2.2)]⟩, ⟨[(173, .c (.vptr 5000 3 (0 + a30.2.1.toNat) 0))], []⟩, [], [], []⟩, ⟨⟨[(173, .c (.vptr 5000 3 (0 + a30.2.1.toNat) 0))], [(5000, vL 3 encTime a30.2.2)]⟩, ⟨[(174, .agg (cTime (a30.2.2.getD (0 + a30.2.1.toNat) default)))], []⟩, [], [], []⟩, ⟨⟨[(163, .c (oC 5000 3 a30.2.2)), (164, cD (i6 a30.2.1))], [(5000, vL 3 encTime a30.2.2)]⟩, ⟨[(175, .c (.vptr 5000 3 (0 + a30.2.1.toNat) 0))], []⟩, [], [], []⟩, ⟨⟨[(170, .agg (cTime (a30.2.2.getD (0 + p1.toNat) default))), (175, .c (.vptr 5000 3 (0 + a30.2.1.toNat) 0))], [(5000, vL 3 encTime a30.2.2)]⟩, ⟨[], [(5000, vL 3 encTime (a30.2.2.set (0 + a30.2.1.toNat) (a30.2.2.getD (0 + p1.toNat) default)))]⟩, [], [], []⟩, ⟨⟨[(165, .c (oC 5000 3 a30.2.2)), (166, cD (i6 p1))], [(5000, vL 3 encTime (a30.2.2.set (0 + a30.2.1.toNat) (a30.2.2.getD (0 + p1.toNat) default)))]⟩, ⟨[(176, .c (.vptr 5000 3 (0 + p1.toNat) 0))], []⟩, [], [], []⟩, ⟨⟨[(174, .agg (cTime (a30.2.2.getD (0 + a30.2.1.toNat) default))), (176, .c (.vptr 5000 3 (0 + p1.toNat) 0))], [(5000, vL 3 encTime (a30.2.2.set (0 + a30.2.1.toNat) (a30.2.2.getD (0 + p1.toNat) default)))]⟩, ⟨[], [(5000, vL 3 encTime ((a30.2.2.set (0 + a30.2.1.toNat) (a30.2.2.getD (0 + p1.toNat) default)).set (0 + p1.toNat) (a30.2.2.getD (0 + a30.2.1.toNat) default)))]⟩, [], [], []⟩]) (bef := [[], [], [], [], [], [], [4, 5], [4, 5, 6], [], [], [8, 9], [8, 9, 10], [0, 1, 4, 5, 6, 7, 8, 9, 10, 11], [0, 1, 4, 5, 6, 7, 8, 9, 10, 11, 12], [0, 1, 2, 3, 4, 5, 6, 7, 8, 9, 10, 11, 12, 13], [0, 1, 2, 3, 4, 5, 6, 7, 8, 9, 10, 11, 12, 13, 14]]) (tk := [13]) (sk := [5000]) (s' := ⟨[(13, cD (i6 a30.2.1))], [(5000, vL 3 encTime ((a30.2.2.set (0 + a30.2.1.toNat) (a30.2.2.getD (0 + p1.toNat) default)).set (0 + p1.toNat) (a30.2.2.getD (0 + a30.2.1.toNat) default)))]⟩) (by kernel_rfl) (by kernel_rfl) (by kernel_rfl) ⟨?_, ?_, ?_, ?_, ?_, ?_, ?_, ?_, ?_, ?_, ?_, ?_, ?_, ?_, ?_, ?_, trivial⟩ (by kernel_rfl) ?_
        · exact DOk.t rfl rfl (by kernel_rfl) (by kernel_rfl)
        · exact DOk.t rfl rfl (by kernel_rfl) (by kernel_rfl)
        · exact DOk.t rfl rfl (by kernel_rfl) (by kernel_rfl)
        · exact DOk.t rfl rfl (by kernel_rfl) (by kernel_rfl)
        · exact DOk.t rfl rfl (by kernel_rfl) (by kernel_rfl)
        · exact DOk.t rfl rfl (by kernel_rfl) (by kernel_rfl)
        · exact DOk.step (.val (.c (.vptr 5000 3 (0 + p1.toNat) 0)) ((0 : Int) ≤ p1 ∧ p1 < (a30.2.2.length : Int))) (fun r => by kernel_rfl) (fun r => by kernel_rfl) hc31 (by kernel_rfl) (by kernel_rfl) (fun r => rfl)
        · exact DOk.step (.val (.agg (cTime (a30.2.2.getD (0 + p1.toNat) default))) ((0 + p1.toNat) < a30.2.2.length)) (fun r => by kernel_rfl) (fun r => by kernel_rfl) hc32 (by kernel_rfl) (by kernel_rfl) (fun r => rfl)
        · exact DOk.t rfl rfl (by kernel_rfl) (by kernel_rfl)
        · exact DOk.t rfl rfl (by kernel_rfl) (by kernel_rfl)
        · exact DOk.step (.val (.c (.vptr 5000 3 (0 + a30.2.1.toNat) 0)) ((0 : Int) ≤ a30.2.1 ∧ a30.2.1 < (a30.2.2.length : Int))) (fun r => by kernel_rfl) (fun r => by kernel_rfl) hc33 (by kernel_rfl) (by kernel_rfl) (fun r => rfl)
        · exact DOk.step (.val (.agg (cTime (a30.2.2.getD (0 + a30.2.1.toNat) default))) ((0 + a30.2.1.toNat) < a30.2.2.length)) (fun r => by kernel_rfl) (fun r => by kernel_rfl) hc34 (by kernel_rfl) (by kernel_rfl) (fun r => rfl)
        · exact DOk.step (.val (.c (.vptr 5000 3 (0 + a30.2.1.toNat) 0)) ((0 : Int) ≤ a30.2.1 ∧ a30.2.1 < (a30.2.2.length : Int))) (fun r => by kernel_rfl) (fun r => by kernel_rfl) hc35 (by kernel_rfl) (by kernel_rfl) (fun r => rfl)
        · exact DOk.one fun r hr => One.storeT (xs := [.d (u6 ((a30.2.2.getD (0 + p1.toNat) default).epoch)), .d (u6 ((a30.2.2.getD (0 + p1.toNat) default).loop.1)), .d (u6 ((a30.2.2.getD (0 + p1.toNat) default).loop.2))]) (ds := [u6 ((a30.2.2.getD (0 + p1.toNat) default).epoch), u6 ((a30.2.2.getD (0 + p1.toNat) default).loop.1), u6 ((a30.2.2.getD (0 + p1.toNat) default).loop.2)]) (encTime) a30.2.2 (a30.2.2.getD (0 + p1.toNat) default) rfl (by kernel_rfl) rfl rfl rfl hc36 rfl rfl (.refl _) rfl rfl rfl rfl
        · exact DOk.step (.val (.c (.vptr 5000 3 (0 + p1.toNat) 0)) ((0 : Int) ≤ p1 ∧ p1 < (a30.2.2.length : Int))) (fun r => by kernel_rfl) (fun r => by kernel_rfl) hc37 (by kernel_rfl) (by kernel_rfl) (fun r => rfl)
        · exact DOk.one fun r hr => One.storeT (xs := [.d (u6 ((a30.2.2.getD (0 + a30.2.1.toNat) default).epoch)), .d (u6 ((a30.2.2.getD (0 + a30.2.1.toNat) default).loop.1)), .d (u6 ((a30.2.2.getD (0 + a30.2.1.toNat) default).loop.2))]) (ds := [u6 ((a30.2.2.getD (0 + a30.2.1.toNat) default).epoch), u6 ((a30.2.2.getD (0 + a30.2.1.toNat) default).loop.1), u6 ((a30.2.2.getD (0 + a30.2.1.toNat) default).loop.2)]) (encTime) (a30.2.2.set (0 + a30.2.1.toNat) (a30.2.2.getD (0 + p1.toNat) default)) (a30.2.2.getD (0 + a30.2.1.toNat) default) rfl (by kernel_rfl) rfl rfl rfl hc38 rfl rfl (.refl _) rfl rfl rfl rfl
        show Tri _ _ _ _
        refine Tri.seqS ?_
        refine Tri.reg ?_
        refine At.seg 3 [10, 11] [5000] (s' := ⟨[(10, cD (i6 a30.2.1)), (11, cD (.bool false))], [(5000, vL 3 encTime ((a30.2.2.set (0 + a30.2.1.toNat) (a30.2.2.getD (0 + p1.toNat) default)).set (0 + p1.toNat) (a30.2.2.getD (0 + a30.2.1.toNat) default)))]⟩) (c := True ∧ True ∧ True ∧ True) (by kernel_rfl) ⟨trivial, trivial, trivial, trivial⟩ ?_
        refine At.done rfl ?_
        show Tri _ _ _ _
        refine Tri.keep [10, 11] [5000] (s' := ⟨[(10, cD (i6 a30.2.1)), (11, cD (.bool false))], [(5000, vL 3 encTime ((a30.2.2.set (0 + a30.2.1.toNat) (a30.2.2.getD (0 + p1.toNat) default)).set (0 + p1.toNat) (a30.2.2.getD (0 + a30.2.1.toNat) default)))]⟩) (by kernel_rfl) ?_
        refine Tri.ret ?_
        cases h
        refine ⟨_, _, rfl, ⟨trivial, ⟨trivial, trivial⟩⟩, rfl, rfl, ?_⟩
        exact SubS.out ⟨⟨rfl, rfl⟩, trivial⟩
       · exact fun x => x.elim
    · exact fun x => x.elim
   · exact fun x => x.elim

set_option maxRecDepth 100000 in
theorem slices_nextPowerOfTwo_ok {p0 : Int} {q : Int} (h : slices_nextPowerOfTwo p0 = some q) :
    Summ Try.prog 60 [cD (i6 p0)] [] (cD (u6 q)) [] := by
  refine Summ.intro Try.func60 rfl (by kernel_rfl) (by kernel_rfl) [] rfl ?_
  rintro ⟨P, w0, G0, V, LL, lk, N, φ0, fx⟩ rfl rfl rfl rfl
  unfold slices_nextPowerOfTwo at h
  refine Tri.seqS ?_
  refine Tri.reg ?_
  refine At.seg 1 [0] [] (s' := ⟨[(0, cD (i6 p0))], []⟩) (c := True ∧ True) (by kernel_rfl) ⟨trivial, trivial⟩ ?_
  refine At.done rfl ?_
  show Tri _ _ _ _
  refine Tri.seqS ?_
  refine Tri.reg ?_
  refine At.seg 2 [4] [] (s' := ⟨[(4, cD (u6 (IntKind.u64.wrap p0)))], []⟩) (c := True ∧ True ∧ True) (by kernel_rfl) ⟨trivial, trivial, trivial⟩ ?_
  obtain ⟨r1, hr1, h⟩ := bind_elim h
  refine At.callA (caps := []) (xs := [cD (u6 (IntKind.u64.wrap p0))]) (math_bits_Len_ok hr1) rfl rfl rfl rfl rfl rfl (.cons (.refl _) .nil) rfl rfl ?_
  obtain ⟨hc2, h⟩ := need_elim h
  refine At.seg 2 [2] [] (s' := ⟨[(2, cD (u6 (shlOp .u64 (1 : Int) r1)))], []⟩) (c := ((0 : Int) ≤ r1) ∧ True ∧ True) (by kernel_rfl) ⟨hc2, trivial, trivial⟩ ?_
  refine At.done rfl ?_
  show Tri _ _ _ _
  refine Tri.keep [2] [] (s' := ⟨[(2, cD (u6 (shlOp .u64 (1 : Int) r1)))], []⟩) (by kernel_rfl) ?_
  refine Tri.ret ?_
  cases h
  refine ⟨_, _, rfl, ⟨trivial, trivial⟩, rfl, rfl, ?_⟩
  intro k c h
  cases h

end Go.Av