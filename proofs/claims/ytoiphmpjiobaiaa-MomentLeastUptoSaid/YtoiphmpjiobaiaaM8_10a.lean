import Derived.Test.YtoiphmpjiobaiaaM8d
namespace Go.Av
open Go Go.Proofs
set_option linter.unusedVariables false
set_option linter.unusedSimpArgs false

set_option maxRecDepth 100000 in
theorem freshetlaw04_MomentLeast_ok {fuel : Nat} {p0 : List Time} {p1 : Time} {q : Bool} (h : freshetlaw04_MomentLeast fuel p0 p1 = some q) :
    Summ Try.prog 10 [cD (lD 3 encTime p0), .agg (cTime p1)] [] (cD (.bool q)) [] := by
  refine Summ.intro Try.func10 rfl (by kernel_rfl) (by kernel_rfl) [] rfl ?_
  rintro ⟨P, w0, G0, V, LL, lk, N, φ0, fx⟩ rfl rfl rfl rfl
  unfold freshetlaw04_MomentLeast at h
  refine Tri.seqS ?_
  refine Tri.reg ?_
  refine At.seg 2 [0, 3] [3] (s' := ⟨[(0, cD (lD 3 encTime p0)), (3, .c (.ptr 3 0))], [(3, .box (cTime p1))]⟩) (c := True ∧ True ∧ True) (by kernel_rfl) ⟨trivial, trivial, trivial⟩ ?_
  refine At.done rfl ?_
  show Tri _ _ _ _
  refine Tri.seqS ?_
  refine Tri.seqJ (fun (a1 : Bool) => ⟨[(0, cD (lD 3 encTime p0)), (3, .c (.ptr 3 0)), (13, cD (.bool a1))], [(3, .box (cTime p1))]⟩) h (fun a1 h => ?_) (fun j2 h => ?_)
  ·show Tri _ _ ⟨[(0, cD (lD 3 encTime p0)), (3, .c (.ptr 3 0)), (13, cD (.bool a1))], [(3, .box (cTime p1))]⟩ _
   refine Tri.condP (b := a1) rfl h (fun h => ?_) (fun h => ?_)
   ·refine Tri.seqS ?_
    refine Tri.reg ?_
    refine At.seg 1 [4] [] (s' := ⟨[(4, cD (.bool false))], []⟩) (c := True ∧ True) (by kernel_rfl) ⟨trivial, trivial⟩ ?_
    refine At.done rfl ?_
    show Tri _ _ _ _
    refine Tri.keep [4] [] (s' := ⟨[(4, cD (.bool false))], []⟩) (by kernel_rfl) ?_
    refine Tri.ret ?_
    cases h
    refine ⟨_, _, rfl, ⟨trivial, trivial⟩, rfl, rfl, ?_⟩
    intro k c h
    cases h
   ·refine Tri.skip ?_
    show Tri _ _ _ _
    refine Tri.seqS ?_
    refine Tri.reg ?_
    refine At.seg 1 [0, 3, 14] [3] (s' := ⟨[(0, cD (lD 3 encTime p0)), (3, .c (.ptr 3 0)), (14, cD (lD 3 encTime p0))], [(3, .box (cTime p1))]⟩) (c := True ∧ True) (by kernel_rfl) ⟨trivial, trivial⟩ ?_
    obtain ⟨r3, hr3, h⟩ := bind_elim h
    refine At.callA (caps := []) (xs := [cD (lD 3 encTime p0)]) (moment_Front_ok hr3) rfl rfl rfl rfl rfl rfl (.cons (.refl _) .nil) rfl rfl ?_
    refine At.seg 1 [0, 3, 5] [3] (s' := ⟨[(0, cD (lD 3 encTime p0)), (3, .c (.ptr 3 0)), (5, cD (lD 3 encTime r3))], [(3, .box (cTime p1))]⟩) (c := True ∧ True) (by kernel_rfl) ⟨trivial, trivial⟩ ?_
    refine At.done rfl ?_
    show Tri _ _ _ _
    refine Tri.seqS ?_
    refine Tri.seqS ?_
    refine Tri.reg ?_
    refine At.seg 3 [0, 3, 5, 17, 18] [3] (s' := ⟨[(0, cD (lD 3 encTime p0)), (3, .c (.ptr 3 0)), (5, cD (lD 3 encTime r3)), (17, cD (i6 (r3.length : Int))), (18, cD (i6 0))], [(3, .box (cTime p1))]⟩) (c := True ∧ True ∧ True ∧ True) (by kernel_rfl) ⟨trivial, trivial, trivial, trivial⟩ ?_
    refine At.done rfl ?_
    show Tri _ _ _ _
    refine Tri.lenOf (t := 5) rfl fun hlena5 => ?_
    refine Tri.keep [18, 0, 3, 5, 17] [3] (s' := idx 18 0 ⟨[(0, cD (lD 3 encTime p0)), (3, .c (.ptr 3 0)), (5, cD (lD 3 encTime r3)), (17, cD (i6 (r3.length : Int)))], [(3, .box (cTime p1))]⟩) (by kernel_rfl) ?_
    refine Tri.range (n := r3.length) (st0 := ()) (fun (x : Bool) s => RetAt Try.prog Try.f10 (cD (.bool x)) [] s) (fun (a5 : Unit) => ⟨[(0, cD (lD 3 encTime p0)), (3, .c (.ptr 3 0)), (5, cD (lD 3 encTime r3)), (17, cD (i6 (r3.length : Int)))], [(3, .box (cTime p1))]⟩) (fun (a5 : Unit) => ⟨[(0, cD (lD 3 encTime p0)), (3, .c (.ptr 3 0)), (5, cD (lD 3 encTime r3)), (17, cD (i6 (r3.length : Int)))], [(3, .box (cTime p1))]⟩) (fun i => decide ((i : Int) < (r3.length : Int))) [19, 18, 0, 3, 5, 17] [3] [0, 3, 5, 17] [3] [18, 0, 3, 5, 17] [3] h hlena5 rfl ?_ ?_ ?_ ?_ ?_ ?_ ?_ ?_
    · exact fun i a => ⟨True ∧ True, by kernel_rfl, ⟨trivial, trivial⟩⟩
    · exact fun i hi => decide_eq_true (by omega)
    · exact decide_eq_false (by omega)
    · exact fun a => by kernel_rfl
    · exact fun i a => ⟨True ∧ True ∧ True, by kernel_rfl, ⟨trivial, trivial, trivial⟩⟩
    ·intro i4 a5 c hii4 h
     refine Tri.seqS ?_
     refine Tri.reg ?_
     refine At.seg 2 [0, 3, 5, 6, 17, 18] [3] (s' := ⟨[(0, cD (lD 3 encTime p0)), (3, .c (.ptr 3 0)), (5, cD (lD 3 encTime r3)), (6, cD (i6 ((i4 : Nat) : Int))), (17, cD (i6 (r3.length : Int))), (18, cD (i6 ((i4 : Nat) : Int)))], [(3, .box (cTime p1))]⟩) (c := True ∧ True ∧ True) (by kernel_rfl) ⟨trivial, trivial, trivial⟩ ?_
     refine At.done rfl ?_
     show Tri _ _ _ _
     refine Tri.seqS ?_
     refine Tri.reg ?_
     refine At.seg 3 [0, 3, 5, 6, 17, 18, 22, 23] [3] (s' := ⟨[(0, cD (lD 3 encTime p0)), (3, .c (.ptr 3 0)), (5, cD (lD 3 encTime r3)), (6, cD (i6 ((i4 : Nat) : Int))), (17, cD (i6 (r3.length : Int))), (18, cD (i6 ((i4 : Nat) : Int))), (22, cD (i6 (r3.length : Int))), (23, cD (i6 0))], [(3, .box (cTime p1))]⟩) (c := True ∧ True ∧ True ∧ True) (by kernel_rfl) ⟨trivial, trivial, trivial, trivial⟩ ?_
     refine At.done rfl ?_
     show Tri _ _ _ _
     refine Tri.lenOf (t := 5) rfl fun hlena15 => ?_
     refine Tri.keep [23, 0, 3, 5, 6, 17, 18, 22] [3] (s' := idx 23 0 ⟨[(0, cD (lD 3 encTime p0)), (3, .c (.ptr 3 0)), (5, cD (lD 3 encTime r3)), (6, cD (i6 ((i4 : Nat) : Int))), (17, cD (i6 (r3.length : Int))), (18, cD (i6 ((i4 : Nat) : Int))), (22, cD (i6 (r3.length : Int)))], [(3, .box (cTime p1))]⟩) (by kernel_rfl) ?_
     refine Tri.range (n := r3.length) (st0 := ()) (fun (x : Bool) s => RetAt Try.prog Try.f10 (cD (.bool x)) [] s) (fun (a15 : Unit) => ⟨[(0, cD (lD 3 encTime p0)), (3, .c (.ptr 3 0)), (5, cD (lD 3 encTime r3)), (6, cD (i6 ((i4 : Nat) : Int))), (17, cD (i6 (r3.length : Int))), (18, cD (i6 ((i4 : Nat) : Int))), (22, cD (i6 (r3.length : Int)))], [(3, .box (cTime p1))]⟩) (fun (a15 : Unit) => ⟨[(18, cD (i6 ((i4 : Nat) : Int))), (0, cD (lD 3 encTime p0)), (3, .c (.ptr 3 0)), (5, cD (lD 3 encTime r3)), (17, cD (i6 (r3.length : Int)))], [(3, .box (cTime p1))]⟩) (fun i => decide ((i : Int) < (r3.length : Int))) [24, 23, 0, 3, 5, 6, 17, 18, 22] [3] [18, 0, 3, 5, 17] [3] [23, 0, 3, 5, 6, 17, 18, 22] [3] h hlena15 rfl ?_ ?_ ?_ ?_ ?_ ?_ ?_ ?_
     · exact fun i a => ⟨True ∧ True, by kernel_rfl, ⟨trivial, trivial⟩⟩
     · exact fun i hi => decide_eq_true (by omega)
     · exact decide_eq_false (by omega)
     · exact fun a => by kernel_rfl
     · exact fun i a => ⟨True ∧ True ∧ True, by kernel_rfl, ⟨trivial, trivial, trivial⟩⟩
     ·intro i14 a15 c hii14 h
      refine Tri.seqS ?_
      refine Tri.reg ?_
      refine At.seg 2 [0, 3, 5, 6, 7, 17, 18, 22, 23] [3] (s' := ⟨[(0, cD (lD 3 encTime p0)), (3, .c (.ptr 3 0)), (5, cD (lD 3 encTime r3)), (6, cD (i6 ((i4 : Nat) : Int))), (7, cD (i6 ((i14 : Nat) : Int))), (17, cD (i6 (r3.length : Int))), (18, cD (i6 ((i4 : Nat) : Int))), (22, cD (i6 (r3.length : Int))), (23, cD (i6 ((i14 : Nat) : Int)))], [(3, .box (cTime p1))]⟩) (c := True ∧ True ∧ True) (by kernel_rfl) ⟨trivial, trivial, trivial⟩ ?_
      refine At.done rfl ?_
      show Tri _ _ _ _
      refine Tri.seqJ (fun (a17 : Bool) => ⟨[(0, cD (lD 3 encTime p0)), (3, .c (.ptr 3 0)), (5, cD (lD 3 encTime r3)), (6, cD (i6 ((i4 : Nat) : Int))), (17, cD (i6 (r3.length : Int))), (18, cD (i6 ((i4 : Nat) : Int))), (22, cD (i6 (r3.length : Int))), (23, cD (i6 ((i14 : Nat) : Int))), (56, cD (.bool a17))], [(3, .box (cTime p1))]⟩) h (fun a17 h => ?_) (fun j18 h => ?_)
      ·show Tri _ _ ⟨[(0, cD (lD 3 encTime p0)), (3, .c (.ptr 3 0)), (5, cD (lD 3 encTime r3)), (6, cD (i6 ((i4 : Nat) : Int))), (17, cD (i6 (r3.length : Int))), (18, cD (i6 ((i4 : Nat) : Int))), (22, cD (i6 (r3.length : Int))), (23, cD (i6 ((i14 : Nat) : Int))), (56, cD (.bool a17))], [(3, .box (cTime p1))]⟩ _
       refine Tri.condP (b := a17) rfl h (fun h => ?_) (fun h => ?_)
       ·refine Tri.seqS ?_
        refine Tri.reg ?_
        refine At.seg 1 [4] [] (s' := ⟨[(4, cD (.bool false))], []⟩) (c := True ∧ True) (by kernel_rfl) ⟨trivial, trivial⟩ ?_
        refine At.done rfl ?_
        show Tri _ _ _ _
        refine Tri.keep [4] [] (s' := ⟨[(4, cD (.bool false))], []⟩) (by kernel_rfl) ?_
        refine Tri.ret ?_
        cases h
        refine ⟨_, _, rfl, ⟨trivial, trivial⟩, rfl, rfl, ?_⟩
        intro k c h
        cases h
       ·refine Tri.keep [23, 0, 3, 5, 6, 17, 18, 22] [3] (s' := ⟨[(23, cD (i6 ((i14 : Nat) : Int))), (0, cD (lD 3 encTime p0)), (3, .c (.ptr 3 0)), (5, cD (lD 3 encTime r3)), (6, cD (i6 ((i4 : Nat) : Int))), (17, cD (i6 (r3.length : Int))), (18, cD (i6 ((i4 : Nat) : Int))), (22, cD (i6 (r3.length : Int)))], [(3, .box (cTime p1))]⟩) (by kernel_rfl) ?_
        refine Tri.skip ?_
        cases h
        exact rfl
      ·rcases bf_cases h with ⟨hp19, h⟩ | ⟨hp19, h⟩
       ·obtain ⟨r20, hr20, h⟩ := bind_elim h
        rcases bf_cases h with ⟨hp21, h⟩ | ⟨hp21, h⟩
        ·refine Tri.drawn (specs := [⟨⟨[(6, cD (i6 ((i4 : Nat) : Int)))], []⟩, ⟨[(26, cD (i6 ((i4 : Nat) : Int)))], []⟩, [], [], []⟩, ⟨⟨[(7, cD (i6 ((i14 : Nat) : Int)))], []⟩, ⟨[(27, cD (i6 ((i14 : Nat) : Int)))], []⟩, [], [], []⟩, ⟨⟨[(26, cD (i6 ((i4 : Nat) : Int))), (27, cD (i6 ((i14 : Nat) : Int)))], []⟩, ⟨[(28, cD (.bool (!decide (((i4 : Nat) : Int) = ((i14 : Nat) : Int)))))], []⟩, [], [], []⟩, ⟨⟨[(28, cD (.bool (!decide (((i4 : Nat) : Int) = ((i14 : Nat) : Int)))))], []⟩, ⟨[(29, .c (.d (.bool true)))], []⟩, [], [], []⟩, ⟨⟨[(5, cD (lD 3 encTime r3)), (29, cD (.bool true))], []⟩, ⟨[(30, cD (lD 3 encTime r3))], []⟩, [], [], []⟩, ⟨⟨[(6, cD (i6 ((i4 : Nat) : Int))), (29, cD (.bool true))], []⟩, ⟨[(31, cD (i6 ((i4 : Nat) : Int)))], []⟩, [], [], []⟩, ⟨⟨[(29, cD (.bool true)), (30, cD (lD 3 encTime r3)), (31, cD (i6 ((i4 : Nat) : Int)))], []⟩, ⟨[(32, .c (.eptr [u6 ((r3.getD i4 default).epoch), u6 ((r3.getD i4 default).loop.1), u6 ((r3.getD i4 default).loop.2)]))], []⟩, [], [], []⟩, ⟨⟨[(29, cD (.bool true)), (32, .c (.eptr [u6 ((r3.getD i4 default).epoch), u6 ((r3.getD i4 default).loop.1), u6 ((r3.getD i4 default).loop.2)]))], []⟩, ⟨[(33, .agg (cTime (r3.getD i4 default)))], []⟩, [], [], []⟩, ⟨⟨[(5, cD (lD 3 encTime r3)), (29, cD (.bool true))], []⟩, ⟨[(34, cD (lD 3 encTime r3))], []⟩, [], [], []⟩, ⟨⟨[(7, cD (i6 ((i14 : Nat) : Int))), (29, cD (.bool true))], []⟩, ⟨[(35, cD (i6 ((i14 : Nat) : Int)))], []⟩, [], [], []⟩, ⟨⟨[(29, cD (.bool true)), (34, cD (lD 3 encTime r3)), (35, cD (i6 ((i14 : Nat) : Int)))], []⟩, ⟨[(36, .c (.eptr [u6 ((r3.getD i14 default).epoch), u6 ((r3.getD i14 default).loop.1), u6 ((r3.getD i14 default).loop.2)]))], []⟩, [], [], []⟩, ⟨⟨[(29, cD (.bool true)), (36, .c (.eptr [u6 ((r3.getD i14 default).epoch), u6 ((r3.getD i14 default).loop.1), u6 ((r3.getD i14 default).loop.2)]))], []⟩, ⟨[(37, .agg (cTime (r3.getD i14 default)))], []⟩, [], [], []⟩, ⟨⟨[(29, cD (.bool true)), (33, .agg (cTime (r3.getD i4 default))), (37, .agg (cTime (r3.getD i14 default)))], []⟩, ⟨[(38, cD (.bool r20))], []⟩, [], [], []⟩, ⟨⟨[(29, cD (.bool true)), (38, cD (.bool r20))], []⟩, ⟨[(39, cD (.bool r20))], []⟩, [], [], []⟩, ⟨⟨[(39, cD (.bool r20))], []⟩, ⟨[(40, .c (.d (.bool true)))], []⟩, [], [], []⟩, ⟨⟨[(6, cD (i6 ((i4 : Nat) : Int))), (40, cD (.bool true))], []⟩, ⟨[(41, .tup [])], []⟩, [], [], []⟩, ⟨⟨[(7, cD (i6 ((i14 : Nat) : Int))), (40, cD (.bool true))], []⟩, ⟨[(42, .tup [])], []⟩, [], [], []⟩, ⟨⟨[(40, cD (.bool true)), (41, .tup []), (42, .tup [])], []⟩, ⟨[(43, .tup [])], []⟩, [], [], []⟩, ⟨⟨[(40, cD (.bool true)), (43, .tup [])], []⟩, ⟨[(44, .tup [])], []⟩, [], [], []⟩, ⟨⟨[(5, cD (lD 3 encTime r3)), (44, .tup [])], []⟩, ⟨[(45, .tup [])], []⟩, [], [], []⟩, ⟨⟨[(6, cD (i6 ((i4 : Nat) : Int))), (44, .tup [])], []⟩, ⟨[(46, .tup [])], []⟩, [], [], []⟩, ⟨⟨[(44, .tup []), (45, .tup []), (46, .tup [])], []⟩, ⟨[(47, .tup [])], []⟩, [], [], []⟩, ⟨⟨[(44, .tup []), (47, .tup [])], []⟩, ⟨[(48, .tup [])], []⟩, [], [], []⟩, ⟨⟨[(5, cD (lD 3 encTime r3)), (44, .tup [])], []⟩, ⟨[(49, .tup [])], []⟩, [], [], []⟩, ⟨⟨[(7, cD (i6 ((i14 : Nat) : Int))), (44, .tup [])], []⟩, ⟨[(50, .tup [])], []⟩, [], [], []⟩, ⟨⟨[(44, .tup []), (49, .tup []), (50, .tup [])], []⟩, ⟨[(51, .tup [])], []⟩, [], [], []⟩, ⟨⟨[(44, .tup []), (51, .tup [])], []⟩, ⟨[(52, .tup [])], []⟩, [], [], []⟩, ⟨⟨[(44, .tup []), (48, .tup []), (52, .tup [])], []⟩, ⟨[(53, .tup [])], []⟩, [], [], []⟩, ⟨⟨[(44, .tup []), (53, .tup [])], []⟩, ⟨[(54, .tup [])], []⟩, [], [], []⟩, ⟨⟨[(40, cD (.bool true)), (44, .tup []), (54, .tup [])], []⟩, ⟨[(55, .tup [])], []⟩, [], [], []⟩, ⟨⟨[(40, cD (.bool true)), (55, .tup [])], []⟩, ⟨[(56, cD (.bool true))], []⟩, [], [], []⟩]) (bef := [[], [], [0, 1], [0, 1, 2], [0, 1, 2, 3], [0, 1, 2, 3], [0, 1, 2, 3, 4, 5], [0, 1, 2, 3, 4, 5, 6], [0, 1, 2, 3], [0, 1, 2, 3], [0, 1, 2, 3, 8, 9], [0, 1, 2, 3, 8, 9, 10], [0, 1, 2, 3, 4, 5, 6, 7, 8, 9, 10, 11], [0, 1, 2, 3, 4, 5, 6, 7, 8, 9, 10, 11, 12], [0, 1, 2, 3, 4, 5, 6, 7, 8, 9, 10, 11, 12, 13], [0, 1, 2, 3, 4, 5, 6, 7, 8, 9, 10, 11, 12, 13, 14], [0, 1, 2, 3, 4, 5, 6, 7, 8, 9, 10, 11, 12, 13, 14], [0, 1, 2, 3, 4, 5, 6, 7, 8, 9, 10, 11, 12, 13, 14, 15, 16], [0, 1, 2, 3, 4, 5, 6, 7, 8, 9, 10, 11, 12, 13, 14, 15, 16, 17], [0, 1, 2, 3, 4, 5, 6, 7, 8, 9, 10, 11, 12, 13, 14, 15, 16, 17, 18], [0, 1, 2, 3, 4, 5, 6, 7, 8, 9, 10, 11, 12, 13, 14, 15, 16, 17, 18], [0, 1, 2, 3, 4, 5, 6, 7, 8, 9, 10, 11, 12, 13, 14, 15, 16, 17, 18, 19, 20], [0, 1, 2, 3, 4, 5, 6, 7, 8, 9, 10, 11, 12, 13, 14, 15, 16, 17, 18, 19, 20, 21], [0, 1, 2, 3, 4, 5, 6, 7, 8, 9, 10, 11, 12, 13, 14, 15, 16, 17, 18], [0, 1, 2, 3, 4, 5, 6, 7, 8, 9, 10, 11, 12, 13, 14, 15, 16, 17, 18], [0, 1, 2, 3, 4, 5, 6, 7, 8, 9, 10, 11, 12, 13, 14, 15, 16, 17, 18, 23, 24], [0, 1, 2, 3, 4, 5, 6, 7, 8, 9, 10, 11, 12, 13, 14, 15, 16, 17, 18, 23, 24, 25], [0, 1, 2, 3, 4, 5, 6, 7, 8, 9, 10, 11, 12, 13, 14, 15, 16, 17, 18, 19, 20, 21, 22, 23, 24, 25, 26], [0, 1, 2, 3, 4, 5, 6, 7, 8, 9, 10, 11, 12, 13, 14, 15, 16, 17, 18, 19, 20, 21, 22, 23, 24, 25, 26, 27], [0, 1, 2, 3, 4, 5, 6, 7, 8, 9, 10, 11, 12, 13, 14, 15, 16, 17, 18, 19, 20, 21, 22, 23, 24, 25, 26, 27, 28], [0, 1, 2, 3, 4, 5, 6, 7, 8, 9, 10, 11, 12, 13, 14, 15, 16, 17, 18, 19, 20, 21, 22, 23, 24, 25, 26, 27, 28, 29]]) (tk := [0, 3, 5, 6, 17, 18, 22, 23, 56]) (sk := [3]) (s' := ⟨[(0, cD (lD 3 encTime p0)), (3, .c (.ptr 3 0)), (5, cD (lD 3 encTime r3)), (6, cD (i6 ((i4 : Nat) : Int))), (17, cD (i6 (r3.length : Int))), (18, cD (i6 ((i4 : Nat) : Int))), (22, cD (i6 (r3.length : Int))), (23, cD (i6 ((i14 : Nat) : Int))), (56, cD (.bool true))], [(3, .box (cTime p1))]⟩) (by kernel_rfl) (by kernel_rfl) (by kernel_rfl) ⟨?_, ?_, ?_, ?_, ?_, ?_, ?_, ?_, ?_, ?_, ?_, ?_, ?_, ?_, ?_, ?_, ?_, ?_, ?_, ?_, ?_, ?_, ?_, ?_, ?_, ?_, ?_, ?_, ?_, ?_, ?_, trivial⟩ (by kernel_rfl) ?_
         · exact DOk.t rfl rfl (by kernel_rfl) (by kernel_rfl)
         · exact DOk.t rfl rfl (by kernel_rfl) (by kernel_rfl)
         · exact DOk.t rfl rfl (by kernel_rfl) (by kernel_rfl)
         · exact DOk.stepP (fun b => .val (.c (.d (.bool b))) (True)) (p := (!decide (((i4 : Nat) : Int) = ((i14 : Nat) : Int)))) hp19 (fun r => by kernel_rfl) (fun r => by kernel_rfl) trivial (by kernel_rfl) (by kernel_rfl) (fun r => rfl)
         · exact DOk.t rfl rfl (by kernel_rfl) (by kernel_rfl)
         · exact DOk.t rfl rfl (by kernel_rfl) (by kernel_rfl)
         · exact DOk.step (.val (.c (.eptr [u6 ((r3.getD i4 default).epoch), u6 ((r3.getD i4 default).loop.1), u6 ((r3.getD i4 default).loop.2)])) ((0 : Int) ≤ ((i4 : Nat) : Int) ∧ ((i4 : Nat) : Int) < (r3.length : Int))) (fun r => by kernel_rfl) (fun r => by kernel_rfl) ⟨by omega, by omega⟩ (by kernel_rfl) (by kernel_rfl) (fun r => rfl)
         · exact DOk.t rfl rfl (by kernel_rfl) (by kernel_rfl)
         · exact DOk.t rfl rfl (by kernel_rfl) (by kernel_rfl)
         · exact DOk.t rfl rfl (by kernel_rfl) (by kernel_rfl)
         · exact DOk.step (.val (.c (.eptr [u6 ((r3.getD i14 default).epoch), u6 ((r3.getD i14 default).loop.1), u6 ((r3.getD i14 default).loop.2)])) ((0 : Int) ≤ ((i14 : Nat) : Int) ∧ ((i14 : Nat) : Int) < (r3.length : Int))) (fun r => by kernel_rfl) (fun r => by kernel_rfl) ⟨by omega, by omega⟩ (by kernel_rfl) (by kernel_rfl) (fun r => rfl)
         · exact DOk.t rfl rfl (by kernel_rfl) (by kernel_rfl)
         · exact DOk.callA (caps := []) (xs := [.agg (cTime (r3.getD i4 default)), .agg (cTime (r3.getD i14 default))]) (moment_Ahead_ok hr20) rfl (fun r => by kernel_rfl) rfl (fun r => by kernel_rfl) (fun r => by kernel_rfl) (fun r => (.cons (.refl _) (.cons (.refl _) .nil))) rfl rfl (fun r => rfl)
         · exact DOk.t rfl rfl (by kernel_rfl) (by kernel_rfl)
         · exact DOk.stepP (fun b => .val (.c (.d (.bool b))) (True)) (p := r20) hp21 (fun r => by kernel_rfl) (fun r => by kernel_rfl) trivial (by kernel_rfl) (by kernel_rfl) (fun r => rfl)
         · exact DOk.skip (fun r => by kernel_rfl) rfl rfl (fun r => rfl)
         · exact DOk.skip (fun r => by kernel_rfl) rfl rfl (fun r => rfl)
         · exact DOk.skip (fun r => by kernel_rfl) rfl rfl (fun r => rfl)
         · exact DOk.skip (fun r => by kernel_rfl) rfl rfl (fun r => rfl)
         · exact DOk.skip (fun r => by kernel_rfl) rfl rfl (fun r => rfl)
         · exact DOk.skip (fun r => by kernel_rfl) rfl rfl (fun r => rfl)
         · exact DOk.skip (fun r => by kernel_rfl) rfl rfl (fun r => rfl)
         · exact DOk.skip (fun r => by kernel_rfl) rfl rfl (fun r => rfl)
         · exact DOk.skip (fun r => by kernel_rfl) rfl rfl (fun r => rfl)
         · exact DOk.skip (fun r => by kernel_rfl) rfl rfl (fun r => rfl)
         · exact DOk.skip (fun r => by kernel_rfl) rfl rfl (fun r => rfl)
         · exact DOk.skip (fun r => by kernel_rfl) rfl rfl (fun r => rfl)
         · exact DOk.skip (fun r => by kernel_rfl) rfl rfl (fun r => rfl)
         · exact DOk.skip (fun r => by kernel_rfl) rfl rfl (fun r => rfl)
         · exact DOk.skip (fun r => by kernel_rfl) rfl rfl (fun r => rfl)
         · exact DOk.t rfl rfl (by kernel_rfl) (by kernel_rfl)
         exact ⟨_, h, rfl⟩
        ·rcases bf_cases h with ⟨hp22, h⟩ | ⟨hp22, h⟩
         ·obtain ⟨r23, hr23, h⟩ := bind_elim h
          refine Tri.drawn (specs := [⟨⟨[(6, cD (i6 ((i4 : Nat) : Int)))], []⟩, ⟨[(26, cD (i6 ((i4 : Nat) : Int)))], []⟩, [], [], []⟩, ⟨⟨[(7, cD (i6 ((i14 : Nat) : Int)))], []⟩, ⟨[(27, cD (i6 ((i14 : Nat) : Int)))], []⟩, [], [], []⟩, ⟨⟨[(26, cD (i6 ((i4 : Nat) : Int))), (27, cD (i6 ((i14 : Nat) : Int)))], []⟩, ⟨[(28, cD (.bool (!decide (((i4 : Nat) : Int) = ((i14 : Nat) : Int)))))], []⟩, [], [], []⟩, ⟨⟨[(28, cD (.bool (!decide (((i4 : Nat) : Int) = ((i14 : Nat) : Int)))))], []⟩, ⟨[(29, .c (.d (.bool true)))], []⟩, [], [], []⟩, ⟨⟨[(5, cD (lD 3 encTime r3)), (29, cD (.bool true))], []⟩, ⟨[(30, cD (lD 3 encTime r3))], []⟩, [], [], []⟩, ⟨⟨[(6, cD (i6 ((i4 : Nat) : Int))), (29, cD (.bool true))], []⟩, ⟨[(31, cD (i6 ((i4 : Nat) : Int)))], []⟩, [], [], []⟩, ⟨⟨[(29, cD (.bool true)), (30, cD (lD 3 encTime r3)), (31, cD (i6 ((i4 : Nat) : Int)))], []⟩, ⟨[(32, .c (.eptr [u6 ((r3.getD i4 default).epoch), u6 ((r3.getD i4 default).loop.1), u6 ((r3.getD i4 default).loop.2)]))], []⟩, [], [], []⟩, ⟨⟨[(29, cD (.bool true)), (32, .c (.eptr [u6 ((r3.getD i4 default).epoch), u6 ((r3.getD i4 default).loop.1), u6 ((r3.getD i4 default).loop.2)]))], []⟩, ⟨[(33, .agg (cTime (r3.getD i4 default)))], []⟩, [], [], []⟩, ⟨⟨[(5, cD (lD 3 encTime r3)), (29, cD (.bool true))], []⟩, ⟨[(34, cD (lD 3 encTime r3))], []⟩, [], [], []⟩, ⟨⟨[(7, cD (i6 ((i14 : Nat) : Int))), (29, cD (.bool true))], []⟩, ⟨[(35, cD (i6 ((i14 : Nat) : Int)))], []⟩, [], [], []⟩, ⟨⟨[(29, cD (.bool true)), (34, cD (lD 3 encTime r3)), (35, cD (i6 ((i14 : Nat) : Int)))], []⟩, ⟨[(36, .c (.eptr [u6 ((r3.getD i14 default).epoch), u6 ((r3.getD i14 default).loop.1), u6 ((r3.getD i14 default).loop.2)]))], []⟩, [], [], []⟩, ⟨⟨[(29, cD (.bool true)), (36, .c (.eptr [u6 ((r3.getD i14 default).epoch), u6 ((r3.getD i14 default).loop.1), u6 ((r3.getD i14 default).loop.2)]))], []⟩, ⟨[(37, .agg (cTime (r3.getD i14 default)))], []⟩, [], [], []⟩, ⟨⟨[(29, cD (.bool true)), (33, .agg (cTime (r3.getD i4 default))), (37, .agg (cTime (r3.getD i14 default)))], []⟩, ⟨[(38, cD (.bool r20))], []⟩, [], [], []⟩, ⟨⟨[(29, cD (.bool true)), (38, cD (.bool r20))], []⟩, ⟨[(39, cD (.bool r20))], []⟩, [], [], []⟩, ⟨⟨[(39, cD (.bool r20))], []⟩, ⟨[(40, .c (.d (.bool false)))], []⟩, [], [], []⟩, ⟨⟨[(6, cD (i6 ((i4 : Nat) : Int))), (40, cD (.bool false))], []⟩, ⟨[(41, cD (i6 ((i4 : Nat) : Int)))], []⟩, [], [], []⟩, ⟨⟨[(7, cD (i6 ((i14 : Nat) : Int))), (40, cD (.bool false))], []⟩, ⟨[(42, cD (i6 ((i14 : Nat) : Int)))], []⟩, [], [], []⟩, ⟨⟨[(40, cD (.bool false)), (41, cD (i6 ((i4 : Nat) : Int))), (42, cD (i6 ((i14 : Nat) : Int)))], []⟩, ⟨[(43, cD (.bool (decide (((i4 : Nat) : Int) < ((i14 : Nat) : Int)))))], []⟩, [], [], []⟩, ⟨⟨[(40, cD (.bool false)), (43, cD (.bool (decide (((i4 : Nat) : Int) < ((i14 : Nat) : Int)))))], []⟩, ⟨[(44, .c (.d (.bool true)))], []⟩, [], [], []⟩, ⟨⟨[(5, cD (lD 3 encTime r3)), (44, cD (.bool true))], []⟩, ⟨[(45, cD (lD 3 encTime r3))], []⟩, [], [], []⟩, ⟨⟨[(6, cD (i6 ((i4 : Nat) : Int))), (44, cD (.bool true))], []⟩, ⟨[(46, cD (i6 ((i4 : Nat) : Int)))], []⟩, [], [], []⟩, ⟨⟨[(44, cD (.bool true)), (45, cD (lD 3 encTime r3)), (46, cD (i6 ((i4 : Nat) : Int)))], []⟩, ⟨[(47, .c (.eptr [u6 ((r3.getD i4 default).epoch), u6 ((r3.getD i4 default).loop.1), u6 ((r3.getD i4 default).loop.2)]))], []⟩, [], [], []⟩, ⟨⟨[(44, cD (.bool true)), (47, .c (.eptr [u6 ((r3.getD i4 default).epoch), u6 ((r3.getD i4 default).loop.1), u6 ((r3.getD i4 default).loop.2)]))], []⟩, ⟨[(48, .agg (cTime (r3.getD i4 default)))], []⟩, [], [], []⟩, ⟨⟨[(5, cD (lD 3 encTime r3)), (44, cD (.bool true))], []⟩, ⟨[(49, cD (lD 3 encTime r3))], []⟩, [], [], []⟩, ⟨⟨[(7, cD (i6 ((i14 : Nat) : Int))), (44, cD (.bool true))], []⟩, ⟨[(50, cD (i6 ((i14 : Nat) : Int)))], []⟩, [], [], []⟩, ⟨⟨[(44, cD (.bool true)), (49, cD (lD 3 encTime r3)), (50, cD (i6 ((i14 : Nat) : Int)))], []⟩, ⟨[(51, .c (.eptr [u6 ((r3.getD i14 default).epoch), u6 ((r3.getD i14 default).loop.1), u6 ((r3.getD i14 default).loop.2)]))], []⟩, [], [], []⟩, ⟨⟨[(44, cD (.bool true)), (51, .c (.eptr [u6 ((r3.getD i14 default).epoch), u6 ((r3.getD i14 default).loop.1), u6 ((r3.getD i14 default).loop.2)]))], []⟩, ⟨[(52, .agg (cTime (r3.getD i14 default)))], []⟩, [], [], []⟩, ⟨⟨[(44, cD (.bool true)), (48, .agg (cTime (r3.getD i4 default))), (52, .agg (cTime (r3.getD i14 default)))], []⟩, ⟨[(53, cD (i6 r23))], []⟩, [], [], []⟩, ⟨⟨[(44, cD (.bool true)), (53, cD (i6 r23))], []⟩, ⟨[(54, cD (.bool (decide (0 ≤ r23))))], []⟩, [], [], []⟩, ⟨⟨[(40, cD (.bool false)), (44, cD (.bool true)), (54, cD (.bool (decide (0 ≤ r23))))], []⟩, ⟨[(55, cD (.bool (decide (0 ≤ r23))))], []⟩, [], [], []⟩, ⟨⟨[(40, cD (.bool false)), (55, cD (.bool (decide (0 ≤ r23))))], []⟩, ⟨[(56, cD (.bool (decide (0 ≤ r23))))], []⟩, [], [], []⟩]) (bef := [[], [], [0, 1], [0, 1, 2], [0, 1, 2, 3], [0, 1, 2, 3], [0, 1, 2, 3, 4, 5], [0, 1, 2, 3, 4, 5, 6], [0, 1, 2, 3], [0, 1, 2, 3], [0, 1, 2, 3, 8, 9], [0, 1, 2, 3, 8, 9, 10], [0, 1, 2, 3, 4, 5, 6, 7, 8, 9, 10, 11], [0, 1, 2, 3, 4, 5, 6, 7, 8, 9, 10, 11, 12], [0, 1, 2, 3, 4, 5, 6, 7, 8, 9, 10, 11, 12, 13], [0, 1, 2, 3, 4, 5, 6, 7, 8, 9, 10, 11, 12, 13, 14], [0, 1, 2, 3, 4, 5, 6, 7, 8, 9, 10, 11, 12, 13, 14], [0, 1, 2, 3, 4, 5, 6, 7, 8, 9, 10, 11, 12, 13, 14, 15, 16], [0, 1, 2, 3, 4, 5, 6, 7, 8, 9, 10, 11, 12, 13, 14, 15, 16, 17], [0, 1, 2, 3, 4, 5, 6, 7, 8, 9, 10, 11, 12, 13, 14, 15, 16, 17, 18], [0, 1, 2, 3, 4, 5, 6, 7, 8, 9, 10, 11, 12, 13, 14, 15, 16, 17, 18], [0, 1, 2, 3, 4, 5, 6, 7, 8, 9, 10, 11, 12, 13, 14, 15, 16, 17, 18, 19, 20], [0, 1, 2, 3, 4, 5, 6, 7, 8, 9, 10, 11, 12, 13, 14, 15, 16, 17, 18, 19, 20, 21], [0, 1, 2, 3, 4, 5, 6, 7, 8, 9, 10, 11, 12, 13, 14, 15, 16, 17, 18], [0, 1, 2, 3, 4, 5, 6, 7, 8, 9, 10, 11, 12, 13, 14, 15, 16, 17, 18], [0, 1, 2, 3, 4, 5, 6, 7, 8, 9, 10, 11, 12, 13, 14, 15, 16, 17, 18, 23, 24], [0, 1, 2, 3, 4, 5, 6, 7, 8, 9, 10, 11, 12, 13, 14, 15, 16, 17, 18, 23, 24, 25], [0, 1, 2, 3, 4, 5, 6, 7, 8, 9, 10, 11, 12, 13, 14, 15, 16, 17, 18, 19, 20, 21, 22, 23, 24, 25, 26], [0, 1, 2, 3, 4, 5, 6, 7, 8, 9, 10, 11, 12, 13, 14, 15, 16, 17, 18, 19, 20, 21, 22, 23, 24, 25, 26, 27], [0, 1, 2, 3, 4, 5, 6, 7, 8, 9, 10, 11, 12, 13, 14, 15, 16, 17, 18, 19, 20, 21, 22, 23, 24, 25, 26, 27, 28], [0, 1, 2, 3, 4, 5, 6, 7, 8, 9, 10, 11, 12, 13, 14, 15, 16, 17, 18, 19, 20, 21, 22, 23, 24, 25, 26, 27, 28, 29]]) (tk := [0, 3, 5, 6, 17, 18, 22, 23, 56]) (sk := [3]) (s' := ⟨[(0, cD (lD 3 encTime p0)), (3, .c (.ptr 3 0)), (5, cD (lD 3 encTime r3)), (6, cD (i6 ((i4 : Nat) : Int))), (17, cD (i6 (r3.length : Int))), (18, cD (i6 ((i4 : Nat) : Int))), (22, cD (i6 (r3.length : Int))), (23, cD (i6 ((i14 : Nat) : Int))), (56, cD (.bool (decide (0 ≤ r23))))], [(3, .box (cTime p1))]⟩) (by kernel_rfl) (by kernel_rfl) (by kernel_rfl) ⟨?_, ?_, ?_, ?_, ?_, ?_, ?_, ?_, ?_, ?_, ?_, ?_, ?_, ?_, ?_, ?_, ?_, ?_, ?_, ?_, ?_, ?_, ?_, ?_, ?_, ?_, ?_, ?_, ?_, ?_, ?_, trivial⟩ (by kernel_rfl) ?_
          · exact DOk.t rfl rfl (by kernel_rfl) (by kernel_rfl)
          · exact DOk.t rfl rfl (by kernel_rfl) (by kernel_rfl)
          · exact DOk.t rfl rfl (by kernel_rfl) (by kernel_rfl)
          · exact DOk.stepP (fun b => .val (.c (.d (.bool b))) (True)) (p := (!decide (((i4 : Nat) : Int) = ((i14 : Nat) : Int)))) hp19 (fun r => by kernel_rfl) (fun r => by kernel_rfl) trivial (by kernel_rfl) (by kernel_rfl) (fun r => rfl)
          · exact DOk.t rfl rfl (by kernel_rfl) (by kernel_rfl)
          · exact DOk.t rfl rfl (by kernel_rfl) (by kernel_rfl)
          · exact DOk.step (.val (.c (.eptr [u6 ((r3.getD i4 default).epoch), u6 ((r3.getD i4 default).loop.1), u6 ((r3.getD i4 default).loop.2)])) ((0 : Int) ≤ ((i4 : Nat) : Int) ∧ ((i4 : Nat) : Int) < (r3.length : Int))) (fun r => by kernel_rfl) (fun r => by kernel_rfl) ⟨by omega, by omega⟩ (by kernel_rfl) (by kernel_rfl) (fun r => rfl)
          · exact DOk.t rfl rfl (by kernel_rfl) (by kernel_rfl)
          · exact DOk.t rfl rfl (by kernel_rfl) (by kernel_rfl)
          · exact DOk.t rfl rfl (by kernel_rfl) (by kernel_rfl)
          · exact DOk.step (.val (.c (.eptr [u6 ((r3.getD i14 default).epoch), u6 ((r3.getD i14 default).loop.1), u6 ((r3.getD i14 default).loop.2)])) ((0 : Int) ≤ ((i14 : Nat) : Int) ∧ ((i14 : Nat) : Int) < (r3.length : Int))) (fun r => by kernel_rfl) (fun r => by kernel_rfl) ⟨by omega, by omega⟩ (by kernel_rfl) (by kernel_rfl) (fun r => rfl)
          · exact DOk.t rfl rfl (by kernel_rfl) (by kernel_rfl)
          · exact DOk.callA (caps := []) (xs := [.agg (cTime (r3.getD i4 default)), .agg (cTime (r3.getD i14 default))]) (moment_Ahead_ok hr20) rfl (fun r => by kernel_rfl) rfl (fun r => by kernel_rfl) (fun r => by kernel_rfl) (fun r => (.cons (.refl _) (.cons (.refl _) .nil))) rfl rfl (fun r => rfl)
          · exact DOk.t rfl rfl (by kernel_rfl) (by kernel_rfl)
          · exact DOk.stepP (fun b => .val (.c (.d (.bool b))) (True)) (p := r20) hp21 (fun r => by kernel_rfl) (fun r => by kernel_rfl) trivial (by kernel_rfl) (by kernel_rfl) (fun r => rfl)
          · exact DOk.t rfl rfl (by kernel_rfl) (by kernel_rfl)
          · exact DOk.t rfl rfl (by kernel_rfl) (by kernel_rfl)
          · exact DOk.t rfl rfl (by kernel_rfl) (by kernel_rfl)
          · exact DOk.stepP (fun b => .val (.c (.d (.bool b))) (True)) (p := (decide (((i4 : Nat) : Int) < ((i14 : Nat) : Int)))) hp22 (fun r => by kernel_rfl) (fun r => by kernel_rfl) trivial (by kernel_rfl) (by kernel_rfl) (fun r => rfl)
          · exact DOk.t rfl rfl (by kernel_rfl) (by kernel_rfl)
          · exact DOk.t rfl rfl (by kernel_rfl) (by kernel_rfl)
          · exact DOk.step (.val (.c (.eptr [u6 ((r3.getD i4 default).epoch), u6 ((r3.getD i4 default).loop.1), u6 ((r3.getD i4 default).loop.2)])) ((0 : Int) ≤ ((i4 : Nat) : Int) ∧ ((i4 : Nat) : Int) < (r3.length : Int))) (fun r => by kernel_rfl) (fun r => by kernel_rfl) ⟨by omega, by omega⟩ (by kernel_rfl) (by kernel_rfl) (fun r => rfl)
          · exact DOk.t rfl rfl (by kernel_rfl) (by kernel_rfl)
          · exact DOk.t rfl rfl (by kernel_rfl) (by kernel_rfl)
          · exact DOk.t rfl rfl (by kernel_rfl) (by kernel_rfl)
          · exact DOk.step (.val (.c (.eptr [u6 ((r3.getD i14 default).epoch), u6 ((r3.getD i14 default).loop.1), u6 ((r3.getD i14 default).loop.2)])) ((0 : Int) ≤ ((i14 : Nat) : Int) ∧ ((i14 : Nat) : Int) < (r3.length : Int))) (fun r => by kernel_rfl) (fun r => by kernel_rfl) ⟨by omega, by omega⟩ (by kernel_rfl) (by kernel_rfl) (fun r => rfl)
          · exact DOk.t rfl rfl (by kernel_rfl) (by kernel_rfl)
          · exact DOk.callA (caps := []) (xs := [.agg (cTime (r3.getD i4 default)), .agg (cTime (r3.getD i14 default))]) (moment_Compare_ok hr23) rfl (fun r => by kernel_rfl) rfl (fun r => by kernel_rfl) (fun r => by kernel_rfl) (fun r => (.cons (.refl _) (.cons (.refl _) .nil))) rfl rfl (fun r => rfl)
          · exact DOk.t rfl rfl (by kernel_rfl) (by kernel_rfl)
          · exact DOk.t rfl rfl (by kernel_rfl) (by kernel_rfl)
          · exact DOk.t rfl rfl (by kernel_rfl) (by kernel_rfl)
          exact ⟨_, h, rfl⟩
         ·refine Tri.drawn (specs := [⟨⟨[(6, cD (i6 ((i4 : Nat) : Int)))], []⟩, ⟨[(26, cD (i6 ((i4 : Nat) : Int)))], []⟩, [], [], []⟩, ⟨⟨[(7, cD (i6 ((i14 : Nat) : Int)))], []⟩, ⟨[(27, cD (i6 ((i14 : Nat) : Int)))], []⟩, [], [], []⟩, ⟨⟨[(26, cD (i6 ((i4 : Nat) : Int))), (27, cD (i6 ((i14 : Nat) : Int)))], []⟩, ⟨[(28, cD (.bool (!decide (((i4 : Nat) : Int) = ((i14 : Nat) : Int)))))], []⟩, [], [], []⟩, ⟨⟨[(28, cD (.bool (!decide (((i4 : Nat) : Int) = ((i14 : Nat) : Int)))))], []⟩, ⟨[(29, .c (.d (.bool true)))], []⟩, [], [], []⟩, ⟨⟨[(5, cD (lD 3 encTime r3)), (29, cD (.bool true))], []⟩, ⟨[(30, cD (lD 3 encTime r3))], []⟩, [], [], []⟩, ⟨⟨[(6, cD (i6 ((i4 : Nat) : Int))), (29, cD (.bool true))], []⟩, ⟨[(31, cD (i6 ((i4 : Nat) : Int)))], []⟩, [], [], []⟩, ⟨⟨[(29, cD (.bool true)), (30, cD (lD 3 encTime r3)), (31, cD (i6 ((i4 : Nat) : Int)))], []⟩, ⟨[(32, .c (.eptr [u6 ((r3.getD i4 default).epoch), u6 ((r3.getD i4 default).loop.1), u6 ((r3.getD i4 default).loop.2)]))], []⟩, [], [], []⟩, ⟨⟨[(29, cD (.bool true)), (32, .c (.eptr [u6 ((r3.getD i4 default).epoch), u6 ((r3.getD i4 default).loop.1), u6 ((r3.getD i4 default).loop.2)]))], []⟩, ⟨[(33, .agg (cTime (r3.getD i4 default)))], []⟩, [], [], []⟩, ⟨⟨[(5, cD (lD 3 encTime r3)), (29, cD (.bool true))], []⟩, ⟨[(34, cD (lD 3 encTime r3))], []⟩, [], [], []⟩, ⟨⟨[(7, cD (i6 ((i14 : Nat) : Int))), (29, cD (.bool true))], []⟩, ⟨[(35, cD (i6 ((i14 : Nat) : Int)))], []⟩, [], [], []⟩, ⟨⟨[(29, cD (.bool true)), (34, cD (lD 3 encTime r3)), (35, cD (i6 ((i14 : Nat) : Int)))], []⟩, ⟨[(36, .c (.eptr [u6 ((r3.getD i14 default).epoch), u6 ((r3.getD i14 default).loop.1), u6 ((r3.getD i14 default).loop.2)]))], []⟩, [], [], []⟩, ⟨⟨[(29, cD (.bool true)), (36, .c (.eptr [u6 ((r3.getD i14 default).epoch), u6 ((r3.getD i14 default).loop.1), u6 ((r3.getD i14 default).loop.2)]))], []⟩, ⟨[(37, .agg (cTime (r3.getD i14 default)))], []⟩, [], [], []⟩, ⟨⟨[(29, cD (.bool true)), (33, .agg (cTime (r3.getD i4 default))), (37, .agg (cTime (r3.getD i14 default)))], []⟩, ⟨[(38, cD (.bool r20))], []⟩, [], [], []⟩, ⟨⟨[(29, cD (.bool true)), (38, cD (.bool r20))], []⟩, ⟨[(39, cD (.bool r20))], []⟩, [], [], []⟩, ⟨⟨[(39, cD (.bool r20))], []⟩, ⟨[(40, .c (.d (.bool false)))], []⟩, [], [], []⟩, ⟨⟨[(6, cD (i6 ((i4 : Nat) : Int))), (40, cD (.bool false))], []⟩, ⟨[(41, cD (i6 ((i4 : Nat) : Int)))], []⟩, [], [], []⟩, ⟨⟨[(7, cD (i6 ((i14 : Nat) : Int))), (40, cD (.bool false))], []⟩, ⟨[(42, cD (i6 ((i14 : Nat) : Int)))], []⟩, [], [], []⟩, ⟨⟨[(40, cD (.bool false)), (41, cD (i6 ((i4 : Nat) : Int))), (42, cD (i6 ((i14 : Nat) : Int)))], []⟩, ⟨[(43, cD (.bool (decide (((i4 : Nat) : Int) < ((i14 : Nat) : Int)))))], []⟩, [], [], []⟩, ⟨⟨[(40, cD (.bool false)), (43, cD (.bool (decide (((i4 : Nat) : Int) < ((i14 : Nat) : Int)))))], []⟩, ⟨[(44, .c (.d (.bool false)))], []⟩, [], [], []⟩, ⟨⟨[(5, cD (lD 3 encTime r3)), (44, cD (.bool false))], []⟩, ⟨[(45, .tup [])], []⟩, [], [], []⟩, ⟨⟨[(6, cD (i6 ((i4 : Nat) : Int))), (44, cD (.bool false))], []⟩, ⟨[(46, .tup [])], []⟩, [], [], []⟩, ⟨⟨[(44, cD (.bool false)), (45, .tup []), (46, .tup [])], []⟩, ⟨[(47, .tup [])], []⟩, [], [], []⟩, ⟨⟨[(44, cD (.bool false)), (47, .tup [])], []⟩, ⟨[(48, .tup [])], []⟩, [], [], []⟩, ⟨⟨[(5, cD (lD 3 encTime r3)), (44, cD (.bool false))], []⟩, ⟨[(49, .tup [])], []⟩, [], [], []⟩, ⟨⟨[(7, cD (i6 ((i14 : Nat) : Int))), (44, cD (.bool false))], []⟩, ⟨[(50, .tup [])], []⟩, [], [], []⟩, ⟨⟨[(44, cD (.bool false)), (49, .tup []), (50, .tup [])], []⟩, ⟨[(51, .tup [])], []⟩, [], [], []⟩, ⟨⟨[(44, cD (.bool false)), (51, .tup [])], []⟩, ⟨[(52, .tup [])], []⟩, [], [], []⟩, ⟨⟨[(44, cD (.bool false)), (48, .tup []), (52, .tup [])], []⟩, ⟨[(53, .tup [])], []⟩, [], [], []⟩, ⟨⟨[(44, cD (.bool false)), (53, .tup [])], []⟩, ⟨[(54, .tup [])], []⟩, [], [], []⟩, ⟨⟨[(40, cD (.bool false)), (44, cD (.bool false)), (54, .tup [])], []⟩, ⟨[(55, cD (.bool false))], []⟩, [], [], []⟩, ⟨⟨[(40, cD (.bool false)), (55, cD (.bool false))], []⟩, ⟨[(56, cD (.bool false))], []⟩, [], [], []⟩]) (bef := [[], [], [0, 1], [0, 1, 2], [0, 1, 2, 3], [0, 1, 2, 3], [0, 1, 2, 3, 4, 5], [0, 1, 2, 3, 4, 5, 6], [0, 1, 2, 3], [0, 1, 2, 3], [0, 1, 2, 3, 8, 9], [0, 1, 2, 3, 8, 9, 10], [0, 1, 2, 3, 4, 5, 6, 7, 8, 9, 10, 11], [0, 1, 2, 3, 4, 5, 6, 7, 8, 9, 10, 11, 12], [0, 1, 2, 3, 4, 5, 6, 7, 8, 9, 10, 11, 12, 13], [0, 1, 2, 3, 4, 5, 6, 7, 8, 9, 10, 11, 12, 13, 14], [0, 1, 2, 3, 4, 5, 6, 7, 8, 9, 10, 11, 12, 13, 14], [0, 1, 2, 3, 4, 5, 6, 7, 8, 9, 10, 11, 12, 13, 14, 15, 16], [0, 1, 2, 3, 4, 5, 6, 7, 8, 9, 10, 11, 12, 13, 14, 15, 16, 17], [0, 1, 2, 3, 4, 5, 6, 7, 8, 9, 10, 11, 12, 13, 14, 15, 16, 17, 18], [0, 1, 2, 3, 4, 5, 6, 7, 8, 9, 10, 11, 12, 13, 14, 15, 16, 17, 18], [0, 1, 2, 3, 4, 5, 6, 7, 8, 9, 10, 11, 12, 13, 14, 15, 16, 17, 18, 19, 20], [0, 1, 2, 3, 4, 5, 6, 7, 8, 9, 10, 11, 12, 13, 14, 15, 16, 17, 18, 19, 20, 21], [0, 1, 2, 3, 4, 5, 6, 7, 8, 9, 10, 11, 12, 13, 14, 15, 16, 17, 18], [0, 1, 2, 3, 4, 5, 6, 7, 8, 9, 10, 11, 12, 13, 14, 15, 16, 17, 18], [0, 1, 2, 3, 4, 5, 6, 7, 8, 9, 10, 11, 12, 13, 14, 15, 16, 17, 18, 23, 24], [0, 1, 2, 3, 4, 5, 6, 7, 8, 9, 10, 11, 12, 13, 14, 15, 16, 17, 18, 23, 24, 25], [0, 1, 2, 3, 4, 5, 6, 7, 8, 9, 10, 11, 12, 13, 14, 15, 16, 17, 18, 19, 20, 21, 22, 23, 24, 25, 26], [0, 1, 2, 3, 4, 5, 6, 7, 8, 9, 10, 11, 12, 13, 14, 15, 16, 17, 18, 19, 20, 21, 22, 23, 24, 25, 26, 27], [0, 1, 2, 3, 4, 5, 6, 7, 8, 9, 10, 11, 12, 13, 14, 15, 16, 17, 18, 19, 20, 21, 22, 23, 24, 25, 26, 27, 28], [0, 1, 2, 3, 4, 5, 6, 7, 8, 9, 10, 11, 12, 13, 14, 15, 16, 17, 18, 19, 20, 21, 22, 23, 24, 25, 26, 27, 28, 29]]) (tk := [0, 3, 5, 6, 17, 18, 22, 23, 56]) (sk := [3]) (s' := ⟨[(0, cD (lD 3 encTime p0)), (3, .c (.ptr 3 0)), (5, cD (lD 3 encTime r3)), (6, cD (i6 ((i4 : Nat) : Int))), (17, cD (i6 (r3.length : Int))), (18, cD (i6 ((i4 : Nat) : Int))), (22, cD (i6 (r3.length : Int))), (23, cD (i6 ((i14 : Nat) : Int))), (56, cD (.bool false))], [(3, .box (cTime p1))]⟩) (by kernel_rfl) (by kernel_rfl) (by kernel_rfl) ⟨?_, ?_, ?_, ?_, ?_, ?_, ?_, ?_, ?_, ?_, ?_, ?_, ?_, ?_, ?_, ?_, ?_, ?_, ?_, ?_, ?_, ?_, ?_, ?_, ?_, ?_, ?_, ?_, ?_, ?_, ?_, trivial⟩ (by kernel_rfl) ?_
          · exact DOk.t rfl rfl (by kernel_rfl) (by kernel_rfl)
          · exact DOk.t rfl rfl (by kernel_rfl) (by kernel_rfl)
          · exact DOk.t rfl rfl (by kernel_rfl) (by kernel_rfl)
          · exact DOk.stepP (fun b => .val (.c (.d (.bool b))) (True)) (p := (!decide (((i4 : Nat) : Int) = ((i14 : Nat) : Int)))) hp19 (fun r => by kernel_rfl) (fun r => by kernel_rfl) trivial (by kernel_rfl) (by kernel_rfl) (fun r => rfl)
          · exact DOk.t rfl rfl (by kernel_rfl) (by kernel_rfl)
          · exact DOk.t rfl rfl (by kernel_rfl) (by kernel_rfl)
          · exact DOk.step (.val (.c (.eptr [u6 ((r3.getD i4 default).epoch), u6 ((r3.getD i4 default).loop.1), u6 ((r3.getD i4 default).loop.2)])) ((0 : Int) ≤ ((i4 : Nat) : Int) ∧ ((i4 : Nat) : Int) < (r3.length : Int))) (fun r => by kernel_rfl) (fun r => by kernel_rfl) ⟨by omega, by omega⟩ (by kernel_rfl) (by kernel_rfl) (fun r => rfl)
          · exact DOk.t rfl rfl (by kernel_rfl) (by kernel_rfl)
          · exact DOk.t rfl rfl (by kernel_rfl) (by kernel_rfl)
          · exact DOk.t rfl rfl (by kernel_rfl) (by kernel_rfl)
          · exact DOk.step (.val (.c (.eptr [u6 ((r3.getD i14 default).epoch), u6 ((r3.getD i14 default).loop.1), u6 ((r3.getD i14 default).loop.2)])) ((0 : Int) ≤ ((i14 : Nat) : Int) ∧ ((i14 : Nat) : Int) < (r3.length : Int))) (fun r => by kernel_rfl) (fun r => by kernel_rfl) ⟨by omega, by omega⟩ (by kernel_rfl) (by kernel_rfl) (fun r => rfl)
          · exact DOk.t rfl rfl (by kernel_rfl) (by kernel_rfl)
          · exact DOk.callA (caps := []) (xs := [.agg (cTime (r3.getD i4 default)), .agg (cTime (r3.getD i14 default))]) (moment_Ahead_ok hr20) rfl (fun r => by kernel_rfl) rfl (fun r => by kernel_rfl) (fun r => by kernel_rfl) (fun r => (.cons (.refl _) (.cons (.refl _) .nil))) rfl rfl (fun r => rfl)
          · exact DOk.t rfl rfl (by kernel_rfl) (by kernel_rfl)
          · exact DOk.stepP (fun b => .val (.c (.d (.bool b))) (True)) (p := r20) hp21 (fun r => by kernel_rfl) (fun r => by kernel_rfl) trivial (by kernel_rfl) (by kernel_rfl) (fun r => rfl)
          · exact DOk.t rfl rfl (by kernel_rfl) (by kernel_rfl)
          · exact DOk.t rfl rfl (by kernel_rfl) (by kernel_rfl)
          · exact DOk.t rfl rfl (by kernel_rfl) (by kernel_rfl)
          · exact DOk.stepP (fun b => .val (.c (.d (.bool b))) (True)) (p := (decide (((i4 : Nat) : Int) < ((i14 : Nat) : Int)))) hp22 (fun r => by kernel_rfl) (fun r => by kernel_rfl) trivial (by kernel_rfl) (by kernel_rfl) (fun r => rfl)
          · exact DOk.skip (fun r => by kernel_rfl) rfl rfl (fun r => rfl)
          · exact DOk.skip (fun r => by kernel_rfl) rfl rfl (fun r => rfl)
          · exact DOk.skip (fun r => by kernel_rfl) rfl rfl (fun r => rfl)
          · exact DOk.skip (fun r => by kernel_rfl) rfl rfl (fun r => rfl)
          · exact DOk.skip (fun r => by kernel_rfl) rfl rfl (fun r => rfl)
          · exact DOk.skip (fun r => by kernel_rfl) rfl rfl (fun r => rfl)
          · exact DOk.skip (fun r => by kernel_rfl) rfl rfl (fun r => rfl)
          · exact DOk.skip (fun r => by kernel_rfl) rfl rfl (fun r => rfl)
          · exact DOk.skip (fun r => by kernel_rfl) rfl rfl (fun r => rfl)
          · exact DOk.skip (fun r => by kernel_rfl) rfl rfl (fun r => rfl)
          · exact DOk.t rfl rfl (by kernel_rfl) (by kernel_rfl)
          · exact DOk.t rfl rfl (by kernel_rfl) (by kernel_rfl)
          exact ⟨_, h, rfl⟩
       ·rcases bf_cases h with ⟨hp24, h⟩ | ⟨hp24, h⟩
        ·obtain ⟨r25, hr25, h⟩ := bind_elim h
         refine Tri.drawn (specs := [⟨⟨[(6, cD (i6 ((i4 : Nat) : Int)))], []⟩, ⟨[(26, cD (i6 ((i4 : Nat) : Int)))], []⟩, [], [], []⟩, ⟨⟨[(7, cD (i6 ((i14 : Nat) : Int)))], []⟩, ⟨[(27, cD (i6 ((i14 : Nat) : Int)))], []⟩, [], [], []⟩, ⟨⟨[(26, cD (i6 ((i4 : Nat) : Int))), (27, cD (i6 ((i14 : Nat) : Int)))], []⟩, ⟨[(28, cD (.bool (!decide (((i4 : Nat) : Int) = ((i14 : Nat) : Int)))))], []⟩, [], [], []⟩, ⟨⟨[(28, cD (.bool (!decide (((i4 : Nat) : Int) = ((i14 : Nat) : Int)))))], []⟩, ⟨[(29, .c (.d (.bool false)))], []⟩, [], [], []⟩, ⟨⟨[(5, cD (lD 3 encTime r3)), (29, cD (.bool false))], []⟩, ⟨[(30, .tup [])], []⟩, [], [], []⟩, ⟨⟨[(6, cD (i6 ((i4 : Nat) : Int))), (29, cD (.bool false))], []⟩, ⟨[(31, .tup [])], []⟩, [], [], []⟩, ⟨⟨[(29, cD (.bool false)), (30, .tup []), (31, .tup [])], []⟩, ⟨[(32, .tup [])], []⟩, [], [], []⟩, ⟨⟨[(29, cD (.bool false)), (32, .tup [])], []⟩, ⟨[(33, .tup [])], []⟩, [], [], []⟩, ⟨⟨[(5, cD (lD 3 encTime r3)), (29, cD (.bool false))], []⟩, ⟨[(34, .tup [])], []⟩, [], [], []⟩, ⟨⟨[(7, cD (i6 ((i14 : Nat) : Int))), (29, cD (.bool false))], []⟩, ⟨[(35, .tup [])], []⟩, [], [], []⟩, ⟨⟨[(29, cD (.bool false)), (34, .tup []), (35, .tup [])], []⟩, ⟨[(36, .tup [])], []⟩, [], [], []⟩, ⟨⟨[(29, cD (.bool false)), (36, .tup [])], []⟩, ⟨[(37, .tup [])], []⟩, [], [], []⟩, ⟨⟨[(29, cD (.bool false)), (33, .tup []), (37, .tup [])], []⟩, ⟨[(38, .tup [])], []⟩, [], [], []⟩, ⟨⟨[(29, cD (.bool false)), (38, .tup [])], []⟩, ⟨[(39, cD (.bool false))], []⟩, [], [], []⟩, ⟨⟨[(39, cD (.bool false))], []⟩, ⟨[(40, cD (.bool false))], []⟩, [], [], []⟩, ⟨⟨[(6, cD (i6 ((i4 : Nat) : Int))), (40, cD (.bool false))], []⟩, ⟨[(41, cD (i6 ((i4 : Nat) : Int)))], []⟩, [], [], []⟩, ⟨⟨[(7, cD (i6 ((i14 : Nat) : Int))), (40, cD (.bool false))], []⟩, ⟨[(42, cD (i6 ((i14 : Nat) : Int)))], []⟩, [], [], []⟩, ⟨⟨[(40, cD (.bool false)), (41, cD (i6 ((i4 : Nat) : Int))), (42, cD (i6 ((i14 : Nat) : Int)))], []⟩, ⟨[(43, cD (.bool (decide (((i4 : Nat) : Int) < ((i14 : Nat) : Int)))))], []⟩, [], [], []⟩, ⟨⟨[(40, cD (.bool false)), (43, cD (.bool (decide (((i4 : Nat) : Int) < ((i14 : Nat) : Int)))))], []⟩, ⟨[(44, .c (.d (.bool true)))], []⟩, [], [], []⟩, ⟨⟨[(5, cD (lD 3 encTime r3)), (44, cD (.bool true))], []⟩, ⟨[(45, cD (lD 3 encTime r3))], []⟩, [], [], []⟩, ⟨⟨[(6, cD (i6 ((i4 : Nat) : Int))), (44, cD (.bool true))], []⟩, ⟨[(46, cD (i6 ((i4 : Nat) : Int)))], []⟩, [], [], []⟩, ⟨⟨[(44, cD (.bool true)), (45, cD (lD 3 encTime r3)), (46, cD (i6 ((i4 : Nat) : Int)))], []⟩, ⟨[(47, .c (.eptr [u6 ((r3.getD i4 default).epoch), u6 ((r3.getD i4 default).loop.1), u6 ((r3.getD i4 default).loop.2)]))], []⟩, [], [], []⟩, ⟨⟨[(44, cD (.bool true)), (47, .c (.eptr [u6 ((r3.getD i4 default).epoch), u6 ((r3.getD i4 default).loop.1), u6 ((r3.getD i4 default).loop.2)]))], []⟩, ⟨[(48, .agg (cTime (r3.getD i4 default)))], []⟩, [], [], []⟩, ⟨⟨[(5, cD (lD 3 encTime r3)), (44, cD (.bool true))], []⟩, ⟨[(49, cD (lD 3 encTime r3))], []⟩, [], [], []⟩, ⟨⟨[(7, cD (i6 ((i14 : Nat) : Int))), (44, cD (.bool true))], []⟩, ⟨[(50, cD (i6 ((i14 : Nat) : Int)))], []⟩, [], [], []⟩, ⟨⟨[(44, cD (.bool true)), (49, cD (lD 3 encTime r3)), (50, cD (i6 ((i14 : Nat) : Int)))], []⟩, ⟨[(51, .c (.eptr [u6 ((r3.getD i14 default).epoch), u6 ((r3.getD i14 default).loop.1), u6 ((r3.getD i14 default).loop.2)]))], []⟩, [], [], []⟩, ⟨⟨[(44, cD (.bool true)), (51, .c (.eptr [u6 ((r3.getD i14 default).epoch), u6 ((r3.getD i14 default).loop.1), u6 ((r3.getD i14 default).loop.2)]))], []⟩, ⟨[(52, .agg (cTime (r3.getD i14 default)))], []⟩, [], [], []⟩, ⟨⟨[(44, cD (.bool true)), (48, .agg (cTime (r3.getD i4 default))), (52, .agg (cTime (r3.getD i14 default)))], []⟩, ⟨[(53, cD (i6 r25))], []⟩, [], [], []⟩, ⟨⟨[(44, cD (.bool true)), (53, cD (i6 r25))], []⟩, ⟨[(54, cD (.bool (decide (0 ≤ r25))))], []⟩, [], [], []⟩, ⟨⟨[(40, cD (.bool false)), (44, cD (.bool true)), (54, cD (.bool (decide (0 ≤ r25))))], []⟩, ⟨[(55, cD (.bool (decide (0 ≤ r25))))], []⟩, [], [], []⟩, ⟨⟨[(40, cD (.bool false)), (55, cD (.bool (decide (0 ≤ r25))))], []⟩, ⟨[(56, cD (.bool (decide (0 ≤ r25))))], []⟩, [], [], []⟩]) (bef := [[], [], [0, 1], [0, 1, 2], [0, 1, 2, 3], [0, 1, 2, 3], [0, 1, 2, 3, 4, 5], [0, 1, 2, 3, 4, 5, 6], [0, 1, 2, 3], [0, 1, 2, 3], [0, 1, 2, 3, 8, 9], [0, 1, 2, 3, 8, 9, 10], [0, 1, 2, 3, 4, 5, 6, 7, 8, 9, 10, 11], [0, 1, 2, 3, 4, 5, 6, 7, 8, 9, 10, 11, 12], [0, 1, 2, 3, 4, 5, 6, 7, 8, 9, 10, 11, 12, 13], [0, 1, 2, 3, 4, 5, 6, 7, 8, 9, 10, 11, 12, 13, 14], [0, 1, 2, 3, 4, 5, 6, 7, 8, 9, 10, 11, 12, 13, 14], [0, 1, 2, 3, 4, 5, 6, 7, 8, 9, 10, 11, 12, 13, 14, 15, 16], [0, 1, 2, 3, 4, 5, 6, 7, 8, 9, 10, 11, 12, 13, 14, 15, 16, 17], [0, 1, 2, 3, 4, 5, 6, 7, 8, 9, 10, 11, 12, 13, 14, 15, 16, 17, 18], [0, 1, 2, 3, 4, 5, 6, 7, 8, 9, 10, 11, 12, 13, 14, 15, 16, 17, 18], [0, 1, 2, 3, 4, 5, 6, 7, 8, 9, 10, 11, 12, 13, 14, 15, 16, 17, 18, 19, 20], [0, 1, 2, 3, 4, 5, 6, 7, 8, 9, 10, 11, 12, 13, 14, 15, 16, 17, 18, 19, 20, 21], [0, 1, 2, 3, 4, 5, 6, 7, 8, 9, 10, 11, 12, 13, 14, 15, 16, 17, 18], [0, 1, 2, 3, 4, 5, 6, 7, 8, 9, 10, 11, 12, 13, 14, 15, 16, 17, 18], [0, 1, 2, 3, 4, 5, 6, 7, 8, 9, 10, 11, 12, 13, 14, 15, 16, 17, 18, 23, 24], [0, 1, 2, 3, 4, 5, 6, 7, 8, 9, 10, 11, 12, 13, 14, 15, 16, 17, 18, 23, 24, 25], [0, 1, 2, 3, 4, 5, 6, 7, 8, 9, 10, 11, 12, 13, 14, 15, 16, 17, 18, 19, 20, 21, 22, 23, 24, 25, 26], [0, 1, 2, 3, 4, 5, 6, 7, 8, 9, 10, 11, 12, 13, 14, 15, 16, 17, 18, 19, 20, 21, 22, 23, 24, 25, 26, 27], [0, 1, 2, 3, 4, 5, 6, 7, 8, 9, 10, 11, 12, 13, 14, 15, 16, 17, 18, 19, 20, 21, 22, 23, 24, 25, 26, 27, 28], [0, 1, 2, 3, 4, 5, 6, 7, 8, 9, 10, 11, 12, 13, 14, 15, 16, 17, 18, 19, 20, 21, 22, 23, 24, 25, 26, 27, 28, 29]]) (tk := [0, 3, 5, 6, 17, 18, 22, 23, 56]) (sk := [3]) (s' := ⟨[(0, cD (lD 3 encTime p0)), (3, .c (.ptr 3 0)), (5, cD (lD 3 encTime r3)), (6, cD (i6 ((i4 : Nat) : Int))), (17, cD (i6 (r3.length : Int))), (18, cD (i6 ((i4 : Nat) : Int))), (22, cD (i6 (r3.length : Int))), (23, cD (i6 ((i14 : Nat) : Int))), (56, cD (.bool (decide (0 ≤ r25))))], [(3, .box (cTime p1))]⟩) (by kernel_rfl) (by kernel_rfl) (by kernel_rfl) ⟨?_, ?_, ?_, ?_, ?_, ?_, ?_, ?_, ?_, ?_, ?_, ?_, ?_, ?_, ?_, ?_, ?_, ?_, ?_, ?_, ?_, ?_, ?_, ?_, ?_, ?_, ?_, ?_, ?_, ?_, ?_, trivial⟩ (by kernel_rfl) ?_
         · exact DOk.t rfl rfl (by kernel_rfl) (by kernel_rfl)
         · exact DOk.t rfl rfl (by kernel_rfl) (by kernel_rfl)
         · exact DOk.t rfl rfl (by kernel_rfl) (by kernel_rfl)
         · exact DOk.stepP (fun b => .val (.c (.d (.bool b))) (True)) (p := (!decide (((i4 : Nat) : Int) = ((i14 : Nat) : Int)))) hp19 (fun r => by kernel_rfl) (fun r => by kernel_rfl) trivial (by kernel_rfl) (by kernel_rfl) (fun r => rfl)
         · exact DOk.skip (fun r => by kernel_rfl) rfl rfl (fun r => rfl)
         · exact DOk.skip (fun r => by kernel_rfl) rfl rfl (fun r => rfl)
         · exact DOk.skip (fun r => by kernel_rfl) rfl rfl (fun r => rfl)
         · exact DOk.skip (fun r => by kernel_rfl) rfl rfl (fun r => rfl)
         · exact DOk.skip (fun r => by kernel_rfl) rfl rfl (fun r => rfl)
         · exact DOk.skip (fun r => by kernel_rfl) rfl rfl (fun r => rfl)
         · exact DOk.skip (fun r => by kernel_rfl) rfl rfl (fun r => rfl)
         · exact DOk.skip (fun r => by kernel_rfl) rfl rfl (fun r => rfl)
         · exact DOk.skip (fun r => by kernel_rfl) rfl rfl (fun r => rfl)
         · exact DOk.t rfl rfl (by kernel_rfl) (by kernel_rfl)
         · exact DOk.t rfl rfl (by kernel_rfl) (by kernel_rfl)
         · exact DOk.t rfl rfl (by kernel_rfl) (by kernel_rfl)
         · exact DOk.t rfl rfl (by kernel_rfl) (by kernel_rfl)
         · exact DOk.t rfl rfl (by kernel_rfl) (by kernel_rfl)
         · exact DOk.stepP (fun b => .val (.c (.d (.bool b))) (True)) (p := (decide (((i4 : Nat) : Int) < ((i14 : Nat) : Int)))) hp24 (fun r => by kernel_rfl) (fun r => by kernel_rfl) trivial (by kernel_rfl) (by kernel_rfl) (fun r => rfl)
         · exact DOk.t rfl rfl (by kernel_rfl) (by kernel_rfl)
         · exact DOk.t rfl rfl (by kernel_rfl) (by kernel_rfl)
         · exact DOk.step (.val (.c (.eptr [u6 ((r3.getD i4 default).epoch), u6 ((r3.getD i4 default).loop.1), u6 ((r3.getD i4 default).loop.2)])) ((0 : Int) ≤ ((i4 : Nat) : Int) ∧ ((i4 : Nat) : Int) < (r3.length : Int))) (fun r => by kernel_rfl) (fun r => by kernel_rfl) ⟨by omega, by omega⟩ (by kernel_rfl) (by kernel_rfl) (fun r => rfl)
         · exact DOk.t rfl rfl (by kernel_rfl) (by kernel_rfl)
         · exact DOk.t rfl rfl (by kernel_rfl) (by kernel_rfl)
         · exact DOk.t rfl rfl (by kernel_rfl) (by kernel_rfl)
         · exact DOk.step (.val (.c (.eptr [u6 ((r3.getD i14 default).epoch), u6 ((r3.getD i14 default).loop.1), u6 ((r3.getD i14 default).loop.2)])) ((0 : Int) ≤ ((i14 : Nat) : Int) ∧ ((i14 : Nat) : Int) < (r3.length : Int))) (fun r => by kernel_rfl) (fun r => by kernel_rfl) ⟨by omega, by omega⟩ (by kernel_rfl) (by kernel_rfl) (fun r => rfl)
         · exact DOk.t rfl rfl (by kernel_rfl) (by kernel_rfl)
         · exact DOk.callA (caps := []) (xs := [.agg (cTime (r3.getD i4 default)), .agg (cTime (r3.getD i14 default))]) (moment_Compare_ok hr25) rfl (fun r => by kernel_rfl) rfl (fun r => by kernel_rfl) (fun r => by kernel_rfl) (fun r => (.cons (.refl _) (.cons (.refl _) .nil))) rfl rfl (fun r => rfl)
         · exact DOk.t rfl rfl (by kernel_rfl) (by kernel_rfl)
         · exact DOk.t rfl rfl (by kernel_rfl) (by kernel_rfl)
         · exact DOk.t rfl rfl (by kernel_rfl) (by kernel_rfl)
         exact ⟨_, h, rfl⟩
        ·refine Tri.drawn (specs := [⟨⟨[(6, cD (i6 ((i4 : Nat) : Int)))], []⟩, ⟨[(26, cD (i6 ((i4 : Nat) : Int)))], []⟩, [], [], []⟩, ⟨⟨[(7, cD (i6 ((i14 : Nat) : Int)))], []⟩, ⟨[(27, cD (i6 ((i14 : Nat) : Int)))], []⟩, [], [], []⟩, ⟨⟨[(26, cD (i6 ((i4 : Nat) : Int))), (27, cD (i6 ((i14 : Nat) : Int)))], []⟩, ⟨[(28, cD (.bool (!decide (((i4 : Nat) : Int) = ((i14 : Nat) : Int)))))], []⟩, [], [], []⟩, ⟨⟨[(28, cD (.bool (!decide (((i4 : Nat) : Int) = ((i14 : Nat) : Int)))))], []⟩, ⟨[(29, .c (.d (.bool false)))], []⟩, [], [], []⟩, ⟨⟨[(5, cD (lD 3 encTime r3)), (29, cD (.bool false))], []⟩, ⟨[(30, .tup [])], []⟩, [], [], []⟩, ⟨⟨[(6, cD (i6 ((i4 : Nat) : Int))), (29, cD (.bool false))], []⟩, ⟨[(31, .tup [])], []⟩, [], [], []⟩, ⟨⟨[(29, cD (.bool false)), (30, .tup []), (31, .tup [])], []⟩, ⟨[(32, .tup [])], []⟩, [], [], []⟩, ⟨⟨[(29, cD (.bool false)), (32, .tup [])], []⟩, ⟨[(33, .tup [])], []⟩, [], [], []⟩, ⟨⟨[(5, cD (lD 3 encTime r3)), (29, cD (.bool false))], []⟩, ⟨[(34, .tup [])], []⟩, [], [], []⟩, ⟨⟨[(7, cD (i6 ((i14 : Nat) : Int))), (29, cD (.bool false))], []⟩, ⟨[(35, .tup [])], []⟩, [], [], []⟩, ⟨⟨[(29, cD (.bool false)), (34, .tup []), (35, .tup [])], []⟩, ⟨[(36, .tup [])], []⟩, [], [], []⟩, ⟨⟨[(29, cD (.bool false)), (36, .tup [])], []⟩, ⟨[(37, .tup [])], []⟩, [], [], []⟩, ⟨⟨[(29, cD (.bool false)), (33, .tup []), (37, .tup [])], []⟩, ⟨[(38, .tup [])], []⟩, [], [], []⟩, ⟨⟨[(29, cD (.bool false)), (38, .tup [])], []⟩, ⟨[(39, cD (.bool false))], []⟩, [], [], []⟩, ⟨⟨[(39, cD (.bool false))], []⟩, ⟨[(40, cD (.bool false))], []⟩, [], [], []⟩, ⟨⟨[(6, cD (i6 ((i4 : Nat) : Int))), (40, cD (.bool false))], []⟩, ⟨[(41, cD (i6 ((i4 : Nat) : Int)))], []⟩, [], [], []⟩, ⟨⟨[(7, cD (i6 ((i14 : Nat) : Int))), (40, cD (.bool false))], []⟩, ⟨[(42, cD (i6 ((i14 : Nat) : Int)))], []⟩, [], [], []⟩, ⟨⟨[(40, cD (.bool false)), (41, cD (i6 ((i4 : Nat) : Int))), (42, cD (i6 ((i14 : Nat) : Int)))], []⟩, ⟨[(43, cD (.bool (decide (((i4 : Nat) : Int) < ((i14 : Nat) : Int)))))], []⟩, [], [], []⟩, ⟨⟨[(40, cD (.bool false)), (43, cD (.bool (decide (((i4 : Nat) : Int) < ((i14 : Nat) : Int)))))], []⟩, ⟨[(44, .c (.d (.bool false)))], []⟩, [], [], []⟩, ⟨⟨[(5, cD (lD 3 encTime r3)), (44, cD (.bool false))], []⟩, ⟨[(45, .tup [])], []⟩, [], [], []⟩, ⟨⟨[(6, cD (i6 ((i4 : Nat) : Int))), (44, cD (.bool false))], []⟩, ⟨[(46, .tup [])], []⟩, [], [], []⟩, ⟨⟨[(44, cD (.bool false)), (45, .tup []), (46, .tup [])], []⟩, ⟨[(47, .tup [])], []⟩, [], [], []⟩, ⟨⟨[(44, cD (.bool false)), (47, .tup [])], []⟩, ⟨[(48, .tup [])], []⟩, [], [], []⟩, ⟨⟨[(5, cD (lD 3 encTime r3)), (44, cD (.bool false))], []⟩, ⟨[(49, .tup [])], []⟩, [], [], []⟩, ⟨⟨[(7, cD (i6 ((i14 : Nat) : Int))), (44, cD (.bool false))], []⟩, ⟨[(50, .tup [])], []⟩, [], [], []⟩, ⟨⟨[(44, cD (.bool false)), (49, .tup []), (50, .tup [])], []⟩, ⟨[(51, .tup [])], []⟩, [], [], []⟩, ⟨⟨[(44, cD (.bool false)), (51, .tup [])], []⟩, ⟨[(52, .tup [])], []⟩, [], [], []⟩, ⟨⟨[(44, cD (.bool false)), (48, .tup []), (52, .tup [])], []⟩, ⟨[(53, .tup [])], []⟩, [], [], []⟩, ⟨⟨[(44, cD (.bool false)), (53, .tup [])], []⟩, ⟨[(54, .tup [])], []⟩, [], [], []⟩, ⟨⟨[(40, cD (.bool false)), (44, cD (.bool false)), (54, .tup [])], []⟩, ⟨[(55, cD (.bool false))], []⟩, [], [], []⟩, ⟨⟨[(40, cD (.bool false)), (55, cD (.bool false))], []⟩, ⟨[(56, cD (.bool false))], []⟩, [], [], []⟩]) (bef := [[], [], [0, 1], [0, 1, 2], [0, 1, 2, 3], [0, 1, 2, 3], [0, 1, 2, 3, 4, 5], [0, 1, 2, 3, 4, 5, 6], [0, 1, 2, 3], [0, 1, 2, 3], [0, 1, 2, 3, 8, 9], [0, 1, 2, 3, 8, 9, 10], [0, 1, 2, 3, 4, 5, 6, 7, 8, 9, 10, 11], [0, 1, 2, 3, 4, 5, 6, 7, 8, 9, 10, 11, 12], [0, 1, 2, 3, 4, 5, 6, 7, 8, 9, 10, 11, 12, 13], [0, 1, 2, 3, 4, 5, 6, 7, 8, 9, 10, 11, 12, 13, 14], [0, 1, 2, 3, 4, 5, 6, 7, 8, 9, 10, 11, 12, 13, 14], [0, 1, 2, 3, 4, 5, 6, 7, 8, 9, 10, 11, 12, 13, 14, 15, 16], [0, 1, 2, 3, 4, 5, 6, 7, 8, 9, 10, 11, 12, 13, 14, 15, 16, 17], [0, 1, 2, 3, 4, 5, 6, 7, 8, 9, 10, 11, 12, 13, 14, 15, 16, 17, 18], [0, 1, 2, 3, 4, 5, 6, 7, 8, 9, 10, 11, 12, 13, 14, 15, 16, 17, 18], [0, 1, 2, 3, 4, 5, 6, 7, 8, 9, 10, 11, 12, 13, 14, 15, 16, 17, 18, 19, 20], [0, 1, 2, 3, 4, 5, 6, 7, 8, 9, 10, 11, 12, 13, 14, 15, 16, 17, 18, 19, 20, 21], [0, 1, 2, 3, 4, 5, 6, 7, 8, 9, 10, 11, 12, 13, 14, 15, 16, 17, 18], [0, 1, 2, 3, 4, 5, 6, 7, 8, 9, 10, 11, 12, 13, 14, 15, 16, 17, 18], [0, 1, 2, 3, 4, 5, 6, 7, 8, 9, 10, 11, 12, 13, 14, 15, 16, 17, 18, 23, 24], [0, 1, 2, 3, 4, 5, 6, 7, 8, 9, 10, 11, 12, 13, 14, 15, 16, 17, 18, 23, 24, 25], [0, 1, 2, 3, 4, 5, 6, 7, 8, 9, 10, 11, 12, 13, 14, 15, 16, 17, 18, 19, 20, 21, 22, 23, 24, 25, 26], [0, 1, 2, 3, 4, 5, 6, 7, 8, 9, 10, 11, 12, 13, 14, 15, 16, 17, 18, 19, 20, 21, 22, 23, 24, 25, 26, 27], [0, 1, 2, 3, 4, 5, 6, 7, 8, 9, 10, 11, 12, 13, 14, 15, 16, 17, 18, 19, 20, 21, 22, 23, 24, 25, 26, 27, 28], [0, 1, 2, 3, 4, 5, 6, 7, 8, 9, 10, 11, 12, 13, 14, 15, 16, 17, 18, 19, 20, 21, 22, 23, 24, 25, 26, 27, 28, 29]]) (tk := [0, 3, 5, 6, 17, 18, 22, 23, 56]) (sk := [3]) (s' := ⟨[(0, cD (lD 3 encTime p0)), (3, .c (.ptr 3 0)), (5, cD (lD 3 encTime r3)), (6, cD (i6 ((i4 : Nat) : Int))), (17, cD (i6 (r3.length : Int))), (18, cD (i6 ((i4 : Nat) : Int))), (22, cD (i6 (r3.length : Int))), (23, cD (i6 ((i14 : Nat) : Int))), (56, cD (.bool false))], [(3, .box (cTime p1))]⟩) (by kernel_rfl) (by kernel_rfl) (by kernel_rfl) ⟨?_, ?_, ?_, ?_, ?_, ?_, ?_, ?_, ?_, ?_, ?_, ?_, ?_, ?_, ?_, ?_, ?_, ?_, ?_, ?_, ?_, ?_, ?_, ?_, ?_, ?_, ?_, ?_, ?_, ?_, ?_, trivial⟩ (by kernel_rfl) ?_
         · exact DOk.t rfl rfl (by kernel_rfl) (by kernel_rfl)
         · exact DOk.t rfl rfl (by kernel_rfl) (by kernel_rfl)
         · exact DOk.t rfl rfl (by kernel_rfl) (by kernel_rfl)
         · exact DOk.stepP (fun b => .val (.c (.d (.bool b))) (True)) (p := (!decide (((i4 : Nat) : Int) = ((i14 : Nat) : Int)))) hp19 (fun r => by kernel_rfl) (fun r => by kernel_rfl) trivial (by kernel_rfl) (by kernel_rfl) (fun r => rfl)
         · exact DOk.skip (fun r => by kernel_rfl) rfl rfl (fun r => rfl)
         · exact DOk.skip (fun r => by kernel_rfl) rfl rfl (fun r => rfl)
         · exact DOk.skip (fun r => by kernel_rfl) rfl rfl (fun r => rfl)
         · exact DOk.skip (fun r => by kernel_rfl) rfl rfl (fun r => rfl)
         · exact DOk.skip (fun r => by kernel_rfl) rfl rfl (fun r => rfl)
         · exact DOk.skip (fun r => by kernel_rfl) rfl rfl (fun r => rfl)
         · exact DOk.skip (fun r => by kernel_rfl) rfl rfl (fun r => rfl)
         · exact DOk.skip (fun r => by kernel_rfl) rfl rfl (fun r => rfl)
         · exact DOk.skip (fun r => by kernel_rfl) rfl rfl (fun r => rfl)
         · exact DOk.t rfl rfl (by kernel_rfl) (by kernel_rfl)
         · exact DOk.t rfl rfl (by kernel_rfl) (by kernel_rfl)
         · exact DOk.t rfl rfl (by kernel_rfl) (by kernel_rfl)
         · exact DOk.t rfl rfl (by kernel_rfl) (by kernel_rfl)
         · exact DOk.t rfl rfl (by kernel_rfl) (by kernel_rfl)
         · exact DOk.stepP (fun b => .val (.c (.d (.bool b))) (True)) (p := (decide (((i4 : Nat) : Int) < ((i14 : Nat) : Int)))) hp24 (fun r => by kernel_rfl) (fun r => by kernel_rfl) trivial (by kernel_rfl) (by kernel_rfl) (fun r => rfl)
         · exact DOk.skip (fun r => by kernel_rfl) rfl rfl (fun r => rfl)
         · exact DOk.skip (fun r => by kernel_rfl) rfl rfl (fun r => rfl)
         · exact DOk.skip (fun r => by kernel_rfl) rfl rfl (fun r => rfl)
         · exact DOk.skip (fun r => by kernel_rfl) rfl rfl (fun r => rfl)
         · exact DOk.skip (fun r => by kernel_rfl) rfl rfl (fun r => rfl)
         · exact DOk.skip (fun r => by kernel_rfl) rfl rfl (fun r => rfl)
         · exact DOk.skip (fun r => by kernel_rfl) rfl rfl (fun r => rfl)
         · exact DOk.skip (fun r => by kernel_rfl) rfl rfl (fun r => rfl)
         · exact DOk.skip (fun r => by kernel_rfl) rfl rfl (fun r => rfl)
         · exact DOk.skip (fun r => by kernel_rfl) rfl rfl (fun r => rfl)
         · exact DOk.t rfl rfl (by kernel_rfl) (by kernel_rfl)
         · exact DOk.t rfl rfl (by kernel_rfl) (by kernel_rfl)
         exact ⟨_, h, rfl⟩
     ·intro a16 h
      cases h
      exact rfl
     · exact fun x s hx hr => by cases hx; exact hr
    ·intro a6 h
     show Tri _ _ _ _
     refine Tri.seqJ (fun (a7 : Bool) => ⟨[(4, cD (.bool a7))], []⟩) h (fun a7 h => ?_) (fun j8 h => ?_)
     ·show Tri _ _ ⟨[(4, cD (.bool a7))], []⟩ _
      refine Tri.keep [4] [] (s' := ⟨[(4, cD (.bool a7))], []⟩) (by kernel_rfl) ?_
      refine Tri.ret ?_
      cases h
      refine ⟨_, _, rfl, ⟨trivial, trivial⟩, rfl, rfl, ?_⟩
      intro k c h
      cases h
     ·obtain ⟨r9, hr9, h⟩ := bind_elim h
      obtain ⟨r10, hr10, h⟩ := bind_elim h
      rcases bf_cases h with ⟨hp11, h⟩ | ⟨hp11, h⟩
      ·obtain ⟨r12, hr12, h⟩ := bind_elim h
       obtain ⟨r13, hr13, h⟩ := bind_elim h
       refine Tri.drawn (specs := [⟨⟨[(5, cD (lD 3 encTime r3))], []⟩, ⟨[(59, cD (lD 3 encTime r3))], []⟩, [], [], []⟩, ⟨⟨[(3, .c (.ptr 3 0))], [(3, .box (cTime p1))]⟩, ⟨[(60, .agg (cTime p1))], []⟩, [], [], []⟩, ⟨⟨[(59, cD (lD 3 encTime r3)), (60, .agg (cTime p1))], []⟩, ⟨[(61, cD (.bool r9))], []⟩, [], [], []⟩, ⟨⟨[(0, cD (lD 3 encTime p0))], []⟩, ⟨[(62, cD (lD 3 encTime p0))], []⟩, [], [], []⟩, ⟨⟨[(3, .c (.ptr 3 0))], [(3, .box (cTime p1))]⟩, ⟨[(63, .agg (cTime p1))], []⟩, [], [], []⟩, ⟨⟨[(62, cD (lD 3 encTime p0)), (63, .agg (cTime p1))], []⟩, ⟨[(64, cD (.bool r10))], []⟩, [], [], []⟩, ⟨⟨[(61, cD (.bool r9)), (64, cD (.bool r10))], []⟩, ⟨[(65, cD (.bool (r9 == r10)))], []⟩, [], [], []⟩, ⟨⟨[(65, cD (.bool (r9 == r10)))], []⟩, ⟨[(66, .c (.d (.bool true)))], []⟩, [], [], []⟩, ⟨⟨[(5, cD (lD 3 encTime r3)), (66, cD (.bool true))], []⟩, ⟨[(67, cD (lD 3 encTime r3))], []⟩, [], [], []⟩, ⟨⟨[(66, cD (.bool true)), (67, cD (lD 3 encTime r3))], []⟩, ⟨[(68, cD (lD 3 encTime r12))], []⟩, [], [], []⟩, ⟨⟨[(5, cD (lD 3 encTime r3)), (66, cD (.bool true))], []⟩, ⟨[(69, cD (lD 3 encTime r3))], []⟩, [], [], []⟩, ⟨⟨[(66, cD (.bool true)), (68, cD (lD 3 encTime r12)), (69, cD (lD 3 encTime r3))], []⟩, ⟨[(70, cD (.bool r13))], []⟩, [], [], []⟩, ⟨⟨[(66, cD (.bool true)), (70, cD (.bool r13))], []⟩, ⟨[(71, cD (.bool r13))], []⟩, [], [], []⟩, ⟨⟨[(71, cD (.bool r13))], []⟩, ⟨[(4, cD (.bool r13))], []⟩, [], [], []⟩]) (bef := [[], [], [0, 1], [], [], [0, 1, 2, 3, 4], [0, 1, 2, 3, 4, 5], [0, 1, 2, 3, 4, 5, 6], [0, 1, 2, 3, 4, 5, 6, 7], [0, 1, 2, 3, 4, 5, 6, 7, 8], [0, 1, 2, 3, 4, 5, 6, 7], [0, 1, 2, 3, 4, 5, 6, 7, 8, 9, 10], [0, 1, 2, 3, 4, 5, 6, 7, 8, 9, 10, 11], [0, 1, 2, 3, 4, 5, 6, 7, 8, 9, 10, 11, 12]]) (tk := [4]) (sk := []) (s' := ⟨[(4, cD (.bool r13))], []⟩) (by kernel_rfl) (by kernel_rfl) (by kernel_rfl) ⟨?_, ?_, ?_, ?_, ?_, ?_, ?_, ?_, ?_, ?_, ?_, ?_, ?_, ?_, trivial⟩ (by kernel_rfl) ?_
       · exact DOk.t rfl rfl (by kernel_rfl) (by kernel_rfl)
       · exact DOk.t rfl rfl (by kernel_rfl) (by kernel_rfl)
       · exact DOk.callA (caps := []) (xs := [cD (lD 3 encTime r3), .agg (cTime p1)]) (moment_Beyond_ok hr9) rfl (fun r => by kernel_rfl) rfl (fun r => by kernel_rfl) (fun r => by kernel_rfl) (fun r => (.cons (.refl _) (.cons (.refl _) .nil))) rfl rfl (fun r => rfl)
       · exact DOk.t rfl rfl (by kernel_rfl) (by kernel_rfl)
       · exact DOk.t rfl rfl (by kernel_rfl) (by kernel_rfl)
       · exact DOk.callA (caps := []) (xs := [cD (lD 3 encTime p0), .agg (cTime p1)]) (moment_Beyond_ok hr10) rfl (fun r => by kernel_rfl) rfl (fun r => by kernel_rfl) (fun r => by kernel_rfl) (fun r => (.cons (.refl _) (.cons (.refl _) .nil))) rfl rfl (fun r => rfl)
       · exact DOk.t rfl rfl (by kernel_rfl) (by kernel_rfl)
       · exact DOk.stepP (fun b => .val (.c (.d (.bool b))) (True)) (p := (r9 == r10)) hp11 (fun r => by kernel_rfl) (fun r => by kernel_rfl) trivial (by kernel_rfl) (by kernel_rfl) (fun r => rfl)
       · exact DOk.t rfl rfl (by kernel_rfl) (by kernel_rfl)
       · exact DOk.callA (caps := []) (xs := [cD (lD 3 encTime r3)]) (moment_Front_ok hr12) rfl (fun r => by kernel_rfl) rfl (fun r => by kernel_rfl) (fun r => by kernel_rfl) (fun r => (.cons (.refl _) .nil)) rfl rfl (fun r => rfl)
       · exact DOk.t rfl rfl (by kernel_rfl) (by kernel_rfl)
       · exact DOk.callA (caps := []) (xs := [cD (lD 3 encTime r12), cD (lD 3 encTime r3)]) (freshetref04_Same_ok hr13) rfl (fun r => by kernel_rfl) rfl (fun r => by kernel_rfl) (fun r => by kernel_rfl) (fun r => (.cons (.refl _) (.cons (.refl _) .nil))) rfl rfl (fun r => rfl)
       · exact DOk.t rfl rfl (by kernel_rfl) (by kernel_rfl)
       · exact DOk.t rfl rfl (by kernel_rfl) (by kernel_rfl)
       exact ⟨_, h, rfl⟩
      ·refine Tri.drawn (specs := [⟨⟨[(5, cD (lD 3 encTime r3))], []⟩, ⟨[(59, cD (lD 3 encTime r3))], []⟩, [], [], []⟩, ⟨⟨[(3, .c (.ptr 3 0))], [(3, .box (cTime p1))]⟩, ⟨[(60, .agg (cTime p1))], []⟩, [], [], []⟩, ⟨⟨[(59, cD (lD 3 encTime r3)), (60, .agg (cTime p1))], []⟩, ⟨[(61, cD (.bool r9))], []⟩, [], [], []⟩, ⟨⟨[(0, cD (lD 3 encTime p0))], []⟩, ⟨[(62, cD (lD 3 encTime p0))], []⟩, [], [], []⟩, ⟨⟨[(3, .c (.ptr 3 0))], [(3, .box (cTime p1))]⟩, ⟨[(63, .agg (cTime p1))], []⟩, [], [], []⟩, ⟨⟨[(62, cD (lD 3 encTime p0)), (63, .agg (cTime p1))], []⟩, ⟨[(64, cD (.bool r10))], []⟩, [], [], []⟩, ⟨⟨[(61, cD (.bool r9)), (64, cD (.bool r10))], []⟩, ⟨[(65, cD (.bool (r9 == r10)))], []⟩, [], [], []⟩, ⟨⟨[(65, cD (.bool (r9 == r10)))], []⟩, ⟨[(66, .c (.d (.bool false)))], []⟩, [], [], []⟩, ⟨⟨[(5, cD (lD 3 encTime r3)), (66, cD (.bool false))], []⟩, ⟨[(67, .tup [])], []⟩, [], [], []⟩, ⟨⟨[(66, cD (.bool false)), (67, .tup [])], []⟩, ⟨[(68, .tup [])], []⟩, [], [], []⟩, ⟨⟨[(5, cD (lD 3 encTime r3)), (66, cD (.bool false))], []⟩, ⟨[(69, .tup [])], []⟩, [], [], []⟩, ⟨⟨[(66, cD (.bool false)), (68, .tup []), (69, .tup [])], []⟩, ⟨[(70, .tup [])], []⟩, [], [], []⟩, ⟨⟨[(66, cD (.bool false)), (70, .tup [])], []⟩, ⟨[(71, cD (.bool false))], []⟩, [], [], []⟩, ⟨⟨[(71, cD (.bool false))], []⟩, ⟨[(4, cD (.bool false))], []⟩, [], [], []⟩]) (bef := [[], [], [0, 1], [], [], [0, 1, 2, 3, 4], [0, 1, 2, 3, 4, 5], [0, 1, 2, 3, 4, 5, 6], [0, 1, 2, 3, 4, 5, 6, 7], [0, 1, 2, 3, 4, 5, 6, 7, 8], [0, 1, 2, 3, 4, 5, 6, 7], [0, 1, 2, 3, 4, 5, 6, 7, 8, 9, 10], [0, 1, 2, 3, 4, 5, 6, 7, 8, 9, 10, 11], [0, 1, 2, 3, 4, 5, 6, 7, 8, 9, 10, 11, 12]]) (tk := [4]) (sk := []) (s' := ⟨[(4, cD (.bool false))], []⟩) (by kernel_rfl) (by kernel_rfl) (by kernel_rfl) ⟨?_, ?_, ?_, ?_, ?_, ?_, ?_, ?_, ?_, ?_, ?_, ?_, ?_, ?_, trivial⟩ (by kernel_rfl) ?_
       · exact DOk.t rfl rfl (by kernel_rfl) (by kernel_rfl)
       · exact DOk.t rfl rfl (by kernel_rfl) (by kernel_rfl)
       · exact DOk.callA (caps := []) (xs := [cD (lD 3 encTime r3), .agg (cTime p1)]) (moment_Beyond_ok hr9) rfl (fun r => by kernel_rfl) rfl (fun r => by kernel_rfl) (fun r => by kernel_rfl) (fun r => (.cons (.refl _) (.cons (.refl _) .nil))) rfl rfl (fun r => rfl)
       · exact DOk.t rfl rfl (by kernel_rfl) (by kernel_rfl)
       · exact DOk.t rfl rfl (by kernel_rfl) (by kernel_rfl)
       · exact DOk.callA (caps := []) (xs := [cD (lD 3 encTime p0), .agg (cTime p1)]) (moment_Beyond_ok hr10) rfl (fun r => by kernel_rfl) rfl (fun r => by kernel_rfl) (fun r => by kernel_rfl) (fun r => (.cons (.refl _) (.cons (.refl _) .nil))) rfl rfl (fun r => rfl)
       · exact DOk.t rfl rfl (by kernel_rfl) (by kernel_rfl)
       · exact DOk.stepP (fun b => .val (.c (.d (.bool b))) (True)) (p := (r9 == r10)) hp11 (fun r => by kernel_rfl) (fun r => by kernel_rfl) trivial (by kernel_rfl) (by kernel_rfl) (fun r => rfl)
       · exact DOk.skip (fun r => by kernel_rfl) rfl rfl (fun r => rfl)
       · exact DOk.skip (fun r => by kernel_rfl) rfl rfl (fun r => rfl)
       · exact DOk.skip (fun r => by kernel_rfl) rfl rfl (fun r => rfl)
       · exact DOk.skip (fun r => by kernel_rfl) rfl rfl (fun r => rfl)
       · exact DOk.t rfl rfl (by kernel_rfl) (by kernel_rfl)
       · exact DOk.t rfl rfl (by kernel_rfl) (by kernel_rfl)
       exact ⟨_, h, rfl⟩
    · exact fun x s hx hr => by cases hx; exact hr
  ·refine Tri.reg ?_
   obtain ⟨r26, hr26, h⟩ := bind_elim h
   refine At.callA (caps := []) (xs := []) (freshetlaw04_orders_ok hr26) rfl rfl rfl rfl rfl rfl .nil rfl rfl ?_
   refine At.seg 2 [0, 3, 10] [3] (s' := ⟨[(0, cD (lD 3 encTime p0)), (3, .c (.ptr 3 0)), (10, cD (.bool (!r26)))], [(3, .box (cTime p1))]⟩) (c := True ∧ True ∧ True) (by kernel_rfl) ⟨trivial, trivial, trivial⟩ ?_
   refine At.case (fun b => ⟨[(0, cD (lD 3 encTime p0)), (3, .c (.ptr 3 0)), (10, cD (.bool b))], [(3, .box (cTime p1))]⟩) (b := (!r26)) h (fun h => ?_) (fun h => ?_)
   ·refine At.seg 3 [0, 3, 13] [3] (s' := ⟨[(0, cD (lD 3 encTime p0)), (3, .c (.ptr 3 0)), (13, cD (.bool true))], [(3, .box (cTime p1))]⟩) (c := True ∧ True) (by kernel_rfl) ⟨trivial, trivial⟩ ?_
    refine At.done rfl ?_
    exact ⟨_, h, rfl⟩
   ·obtain ⟨r27, hr27, h⟩ := bind_elim h
    refine At.callA (caps := []) (xs := []) (freshetlaw04_fronts_ok hr27) rfl rfl rfl rfl rfl rfl .nil rfl rfl ?_
    refine At.seg 2 [0, 3, 13] [3] (s' := ⟨[(0, cD (lD 3 encTime p0)), (3, .c (.ptr 3 0)), (13, cD (.bool (!r27)))], [(3, .box (cTime p1))]⟩) (c := True ∧ True ∧ True) (by kernel_rfl) ⟨trivial, trivial, trivial⟩ ?_
    refine At.done rfl ?_
    exact ⟨_, h, rfl⟩

end Go.Av