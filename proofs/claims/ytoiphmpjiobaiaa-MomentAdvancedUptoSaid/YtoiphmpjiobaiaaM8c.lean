import Derived.Test.YtoiphmpjiobaiaaM8b
namespace Go.Av
open Go Go.Proofs
set_option linter.unusedVariables false
set_option linter.unusedSimpArgs false

set_option maxRecDepth 100000 in
theorem slices_partitionCmpFunc_Time__Compare_w_ok {fuel : Nat} {p1 : Int} {p2 : Int} {p3 : Int} {l0 : List Time} {q : Int × Bool × (List Time)} (h : slices_partitionCmpFunc_Time__Compare_w fuel p1 p2 p3 l0 = some q) :
    Summ Try.prog 56 [.c (oC 5000 3 l0), cD (i6 p1), cD (i6 p2), cD (i6 p3), cD (.fn 20 [])] [(5000, vL 3 encTime l0)] (.tup [(false, [.d (i6 q.1)]), (false, [.d (.bool q.2.1)])]) [(5000, vL 3 encTime q.2.2)] := by
  refine Summ.intro Try.func56 rfl (by kernel_rfl) (by kernel_rfl) [] rfl ?_
  rintro ⟨P, w0, G0, V, LL, lk, N, φ0, fx⟩ rfl rfl rfl rfl
  unfold slices_partitionCmpFunc_Time__Compare_w at h
  refine Tri.seqS ?_
  refine Tri.reg ?_
  refine At.seg 2 [0, 1, 2, 3, 4] [5000] (s' := ⟨[(0, .c (oC 5000 3 l0)), (1, cD (i6 p1)), (2, cD (i6 p2)), (3, cD (i6 p3)), (4, cD (.fn 20 []))], [(5000, vL 3 encTime l0)]⟩) (c := True ∧ True ∧ True) (by kernel_rfl) ⟨trivial, trivial, trivial⟩ ?_
  refine At.done rfl ?_
  show Tri _ _ _ _
  refine Tri.seqS ?_
  obtain ⟨hc1, h⟩ := need_elim h
  obtain ⟨hc2, h⟩ := need_elim h
  obtain ⟨hc3, h⟩ := need_elim h
  obtain ⟨hc4, h⟩ := need_elim h
  obtain ⟨hc5, h⟩ := need_elim h
  obtain ⟨hc6, h⟩ := need_elim h
  obtain ⟨hc7, h⟩ := need_elim h
  obtain ⟨hc8, h⟩ := need_elim h
  refine Tri.afterA ⟨[(0, .c (oC 5000 3 l0)), (1, cD (i6 p1)), (2, cD (i6 p2)), (4, cD (.fn 20 []))], [(5000, vL 3 encTime ((l0.set (0 + p1.toNat) (l0.getD (0 + p3.toNat) default)).set (0 + p3.toNat) (l0.getD (0 + p1.toNat) default)))]⟩ ?_ ?_
  ·refine Tri.drawn (specs := [⟨⟨[(0, .c (oC 5000 3 l0))], []⟩, ⟨[(14, .c (oC 5000 3 l0))], []⟩, [], [], []⟩, ⟨⟨[(1, cD (i6 p1))], []⟩, ⟨[(15, cD (i6 p1))], []⟩, [], [], []⟩, ⟨⟨[(0, .c (oC 5000 3 l0))], []⟩, ⟨[(16, .c (oC 5000 3 l0))], []⟩, [], [], []⟩, ⟨⟨[(3, cD (i6 p3))], []⟩, ⟨[(17, cD (i6 p3))], []⟩, [], [], []⟩, ⟨⟨[(0, .c (oC 5000 3 l0))], []⟩, ⟨[(18, .c (oC 5000 3 l0))], []⟩, [], [], []⟩, ⟨⟨[(3, cD (i6 p3))], []⟩, ⟨[(19, cD (i6 p3))], []⟩, [], [], []⟩, ⟨⟨[(18, .c (oC 5000 3 l0)), (19, cD (i6 p3))], [(5000, vL 3 encTime l0)]⟩, ⟨[(20, .c (.vptr 5000 3 (0 + p3.toNat) 0))], []⟩, [], [], []⟩, ⟨⟨[(20, .c (.vptr 5000 3 (0 + p3.toNat) 0))], [(5000, vL 3 encTime l0)]⟩, ⟨[(21, .agg (cTime (l0.getD (0 + p3.toNat) default)))], []⟩, [], [], []⟩, ⟨⟨[(0, .c (oC 5000 3 l0))], []⟩, ⟨[(22, .c (oC 5000 3 l0))], []⟩, [], [], []⟩, ⟨⟨[(1, cD (i6 p1))], []⟩, ⟨[(23, cD (i6 p1))], []⟩, [], [], []⟩, ⟨⟨[(22, .c (oC 5000 3 l0)), (23, cD (i6 p1))], [(5000, vL 3 encTime l0)]⟩, ⟨[(24, .c (.vptr 5000 3 (0 + p1.toNat) 0))], []⟩, [], [], []⟩, ⟨⟨[(24, .c (.vptr 5000 3 (0 + p1.toNat) 0))], [(5000, vL 3 encTime l0)]⟩, ⟨[(25, .agg (cTime (l0.getD (0 + p1.toNat) default)))], []⟩, [], [], []⟩, ⟨⟨[(14, .c (oC 5000 3 l0)), (15, cD (i6 p1))], [(5000, vL 3 encTime l0)]⟩, ⟨[(26, .c (.vptr 5000 3 (0 + p1.toNat) 0))], []⟩, [], [], []⟩, ⟨⟨[(21, .agg (cTime (l0.getD (0 + p3.toNat) default))), (26, .c (.vptr 5000 3 (0 + p1.toNat) 0))], [(5000, vL 3 encTime l0)]⟩, ⟨[], [(5000, vL 3 encTime (l0.set (0 + p1.toNat) (l0.getD (0 + p3.toNat) default)))]⟩, [], [], []⟩, ⟨⟨[(16, .c (oC 5000 3 l0)), (17, cD (i6 p3))], [(5000, vL 3 encTime (l0.set (0 + p1.toNat) (l0.getD (0 + p3.toNat) default)))]⟩, ⟨[(27, .c (.vptr 5000 3 (0 + p3.toNat) 0))], []⟩, [], [], []⟩, ⟨⟨[(25, .agg (cTime (l0.getD (0 + p1.toNat) default))), (27, .c (.vptr 5000 3 (0 + p3.toNat) 0))], [(5000, vL 3 encTime (l0.set (0 + p1.toNat) (l0.getD (0 + p3.toNat) default)))]⟩, ⟨[], [(5000, vL 3 encTime ((l0.set (0 + p1.toNat) (l0.getD (0 + p3.toNat) default)).set (0 + p3.toNat) (l0.getD (0 + p1.toNat) default)))]⟩, [], [], []⟩]) (bef := [[], [], [], [], [], [], [4, 5], [4, 5, 6], [], [], [8, 9], [8, 9, 10], [0, 1, 4, 5, 6, 7, 8, 9, 10, 11], [0, 1, 4, 5, 6, 7, 8, 9, 10, 11, 12], [0, 1, 2, 3, 4, 5, 6, 7, 8, 9, 10, 11, 12, 13], [0, 1, 2, 3, 4, 5, 6, 7, 8, 9, 10, 11, 12, 13, 14]]) (tk := [0, 1, 2, 4]) (sk := [5000]) (s' := ⟨[(0, .c (oC 5000 3 l0)), (1, cD (i6 p1)), (2, cD (i6 p2)), (4, cD (.fn 20 []))], [(5000, vL 3 encTime ((l0.set (0 + p1.toNat) (l0.getD (0 + p3.toNat) default)).set (0 + p3.toNat) (l0.getD (0 + p1.toNat) default)))]⟩) (by kernel_rfl) (by kernel_rfl) (by kernel_rfl) ⟨?_, ?_, ?_, ?_, ?_, ?_, ?_, ?_, ?_, ?_, ?_, ?_, ?_, ?_, ?_, ?_, trivial⟩ (by kernel_rfl) ?_
   · exact DOk.t rfl rfl (by kernel_rfl) (by kernel_rfl) (by kernel_rfl) (by kernel_rfl)
   · exact DOk.t rfl rfl (by kernel_rfl) (by kernel_rfl) (by kernel_rfl) (by kernel_rfl)
   · exact DOk.t rfl rfl (by kernel_rfl) (by kernel_rfl) (by kernel_rfl) (by kernel_rfl)
   · exact DOk.t rfl rfl (by kernel_rfl) (by kernel_rfl) (by kernel_rfl) (by kernel_rfl)
   · exact DOk.t rfl rfl (by kernel_rfl) (by kernel_rfl) (by kernel_rfl) (by kernel_rfl)
   · exact DOk.t rfl rfl (by kernel_rfl) (by kernel_rfl) (by kernel_rfl) (by kernel_rfl)
   · exact DOk.step (.val (.c (.vptr 5000 3 (0 + p3.toNat) 0)) ((0 : Int) ≤ p3 ∧ p3 < (l0.length : Int))) (fun r => by kernel_rfl) (fun r => by kernel_rfl) hc1 (by kernel_rfl) (by kernel_rfl) (fun r => rfl)
   · exact DOk.step (.val (.agg (cTime (l0.getD (0 + p3.toNat) default))) ((0 + p3.toNat) < l0.length)) (fun r => by kernel_rfl) (fun r => by kernel_rfl) hc2 (by kernel_rfl) (by kernel_rfl) (fun r => rfl)
   · exact DOk.t rfl rfl (by kernel_rfl) (by kernel_rfl) (by kernel_rfl) (by kernel_rfl)
   · exact DOk.t rfl rfl (by kernel_rfl) (by kernel_rfl) (by kernel_rfl) (by kernel_rfl)
   · exact DOk.step (.val (.c (.vptr 5000 3 (0 + p1.toNat) 0)) ((0 : Int) ≤ p1 ∧ p1 < (l0.length : Int))) (fun r => by kernel_rfl) (fun r => by kernel_rfl) hc3 (by kernel_rfl) (by kernel_rfl) (fun r => rfl)
   · exact DOk.step (.val (.agg (cTime (l0.getD (0 + p1.toNat) default))) ((0 + p1.toNat) < l0.length)) (fun r => by kernel_rfl) (fun r => by kernel_rfl) hc4 (by kernel_rfl) (by kernel_rfl) (fun r => rfl)
   · exact DOk.step (.val (.c (.vptr 5000 3 (0 + p1.toNat) 0)) ((0 : Int) ≤ p1 ∧ p1 < (l0.length : Int))) (fun r => by kernel_rfl) (fun r => by kernel_rfl) hc5 (by kernel_rfl) (by kernel_rfl) (fun r => rfl)
   · exact DOk.one fun r hr => One.storeT (xs := [.d (u6 ((l0.getD (0 + p3.toNat) default).epoch)), .d (u6 ((l0.getD (0 + p3.toNat) default).loop.1)), .d (u6 ((l0.getD (0 + p3.toNat) default).loop.2))]) (ds := [u6 ((l0.getD (0 + p3.toNat) default).epoch), u6 ((l0.getD (0 + p3.toNat) default).loop.1), u6 ((l0.getD (0 + p3.toNat) default).loop.2)]) (encTime) l0 (l0.getD (0 + p3.toNat) default) rfl (by kernel_rfl) rfl rfl rfl hc6 rfl rfl (.refl _) rfl rfl rfl rfl
   · exact DOk.step (.val (.c (.vptr 5000 3 (0 + p3.toNat) 0)) ((0 : Int) ≤ p3 ∧ p3 < (l0.length : Int))) (fun r => by kernel_rfl) (fun r => by kernel_rfl) hc7 (by kernel_rfl) (by kernel_rfl) (fun r => rfl)
   · exact DOk.one fun r hr => One.storeT (xs := [.d (u6 ((l0.getD (0 + p1.toNat) default).epoch)), .d (u6 ((l0.getD (0 + p1.toNat) default).loop.1)), .d (u6 ((l0.getD (0 + p1.toNat) default).loop.2))]) (ds := [u6 ((l0.getD (0 + p1.toNat) default).epoch), u6 ((l0.getD (0 + p1.toNat) default).loop.1), u6 ((l0.getD (0 + p1.toNat) default).loop.2)]) (encTime) (l0.set (0 + p1.toNat) (l0.getD (0 + p3.toNat) default)) (l0.getD (0 + p1.toNat) default) rfl (by kernel_rfl) rfl rfl rfl hc8 rfl rfl (.refl _) rfl rfl rfl rfl
   exact ⟨rfl, rfl⟩
  ·refine At.eqS (s' := ⟨[(0, .c (oC 5000 3 ((l0.set (0 + p1.toNat) (l0.getD (0 + p3.toNat) default)).set (0 + p3.toNat) (l0.getD (0 + p1.toNat) default)))), (1, cD (i6 p1)), (2, cD (i6 p2)), (4, cD (.fn 20 []))], [(5000, vL 3 encTime ((l0.set (0 + p1.toNat) (l0.getD (0 + p3.toNat) default)).set (0 + p3.toNat) (l0.getD (0 + p1.toNat) default)))]⟩) (by simp only [oC, vL, List.length_set]) ?_
   refine At.done rfl ?_
   show Tri _ _ _ _
   refine Tri.seqS ?_
   refine Tri.reg ?_
   refine At.seg 6 [0, 1, 4, 12, 13] [5000] (s' := ⟨[(0, .c (oC 5000 3 ((l0.set (0 + p1.toNat) (l0.getD (0 + p3.toNat) default)).set (0 + p3.toNat) (l0.getD (0 + p1.toNat) default)))), (1, cD (i6 p1)), (4, cD (.fn 20 [])), (12, cD (i6 (IntKind.i64.wrap (p1 + 1)))), (13, cD (i6 (IntKind.i64.wrap (p2 - 1))))], [(5000, vL 3 encTime ((l0.set (0 + p1.toNat) (l0.getD (0 + p3.toNat) default)).set (0 + p3.toNat) (l0.getD (0 + p1.toNat) default)))]⟩) (c := True ∧ True ∧ True ∧ True ∧ True ∧ True ∧ True) (by kernel_rfl) ⟨trivial, trivial, trivial, trivial, trivial, trivial, trivial⟩ ?_
   refine At.done rfl ?_
   show Tri _ _ _ _
   refine Tri.seqS ?_
   refine Tri.keep [0, 1, 4, 12, 13] [5000] (s' := ⟨[(0, .c (oC 5000 3 ((l0.set (0 + p1.toNat) (l0.getD (0 + p3.toNat) default)).set (0 + p3.toNat) (l0.getD (0 + p1.toNat) default)))), (1, cD (i6 p1)), (4, cD (.fn 20 [])), (12, cD (i6 (IntKind.i64.wrap (p1 + 1)))), (13, cD (i6 (IntKind.i64.wrap (p2 - 1))))], [(5000, vL 3 encTime ((l0.set (0 + p1.toNat) (l0.getD (0 + p3.toNat) default)).set (0 + p3.toNat) (l0.getD (0 + p1.toNat) default)))]⟩) (by kernel_rfl) ?_
   refine Tri.loopK (fuel := fuel) (st0 := ((IntKind.i64.wrap (p1 + 1)), (IntKind.i64.wrap (p2 - 1)))) (fun (x : Empty) s => False) (fun (a9 : Int × Int) => ⟨[(0, .c (oC 5000 3 ((l0.set (0 + p1.toNat) (l0.getD (0 + p3.toNat) default)).set (0 + p3.toNat) (l0.getD (0 + p1.toNat) default)))), (1, cD (i6 p1)), (4, cD (.fn 20 [])), (12, cD (i6 a9.1)), (13, cD (i6 a9.2))], [(5000, vL 3 encTime ((l0.set (0 + p1.toNat) (l0.getD (0 + p3.toNat) default)).set (0 + p3.toNat) (l0.getD (0 + p1.toNat) default)))]⟩) (fun (a9 : Int × Int) => ⟨[(0, .c (oC 5000 3 ((l0.set (0 + p1.toNat) (l0.getD (0 + p3.toNat) default)).set (0 + p3.toNat) (l0.getD (0 + p1.toNat) default)))), (1, cD (i6 p1)), (4, cD (.fn 20 [])), (12, cD (i6 a9.1)), (13, cD (i6 a9.2))], [(5000, vL 3 encTime ((l0.set (0 + p1.toNat) (l0.getD (0 + p3.toNat) default)).set (0 + p3.toNat) (l0.getD (0 + p1.toNat) default)))]⟩) h ?_ ?_ ?_
   ·intro a9 c h
    show Tri _ _ ⟨[(0, .c (oC 5000 3 ((l0.set (0 + p1.toNat) (l0.getD (0 + p3.toNat) default)).set (0 + p3.toNat) (l0.getD (0 + p1.toNat) default)))), (1, cD (i6 p1)), (4, cD (.fn 20 [])), (12, cD (i6 a9.1)), (13, cD (i6 a9.2))], [(5000, vL 3 encTime ((l0.set (0 + p1.toNat) (l0.getD (0 + p3.toNat) default)).set (0 + p3.toNat) (l0.getD (0 + p1.toNat) default)))]⟩ _
    refine Tri.seqS ?_
    refine Tri.seqJ (fun (a75 : Bool) => ⟨[(0, .c (oC 5000 3 ((l0.set (0 + p1.toNat) (l0.getD (0 + p3.toNat) default)).set (0 + p3.toNat) (l0.getD (0 + p1.toNat) default)))), (1, cD (i6 p1)), (4, cD (.fn 20 [])), (12, cD (i6 a9.1)), (13, cD (i6 a9.2)), (47, cD (.bool a75))], [(5000, vL 3 encTime ((l0.set (0 + p1.toNat) (l0.getD (0 + p3.toNat) default)).set (0 + p3.toNat) (l0.getD (0 + p1.toNat) default)))]⟩) h (fun a75 h => ?_) (fun j76 h => ?_)
    ·show Tri _ _ ⟨[(0, .c (oC 5000 3 ((l0.set (0 + p1.toNat) (l0.getD (0 + p3.toNat) default)).set (0 + p3.toNat) (l0.getD (0 + p1.toNat) default)))), (1, cD (i6 p1)), (4, cD (.fn 20 [])), (12, cD (i6 a9.1)), (13, cD (i6 a9.2)), (47, cD (.bool a75))], [(5000, vL 3 encTime ((l0.set (0 + p1.toNat) (l0.getD (0 + p3.toNat) default)).set (0 + p3.toNat) (l0.getD (0 + p1.toNat) default)))]⟩ _
     refine Tri.condP (b := a75) rfl h (fun h => ?_) (fun h => ?_)
     ·refine Tri.skip ?_
      show Tri _ _ _ _
      refine Tri.blockB ?_
      refine Tri.reg ?_
      refine At.seg 3 [0, 1, 4, 12, 13] [5000] (s' := ⟨[(0, .c (oC 5000 3 ((l0.set (0 + p1.toNat) (l0.getD (0 + p3.toNat) default)).set (0 + p3.toNat) (l0.getD (0 + p1.toNat) default)))), (1, cD (i6 p1)), (4, cD (.fn 20 [])), (12, cD (i6 (IntKind.i64.wrap (a9.1 + 1)))), (13, cD (i6 a9.2))], [(5000, vL 3 encTime ((l0.set (0 + p1.toNat) (l0.getD (0 + p3.toNat) default)).set (0 + p3.toNat) (l0.getD (0 + p1.toNat) default)))]⟩) (c := True ∧ True ∧ True ∧ True) (by kernel_rfl) ⟨trivial, trivial, trivial, trivial⟩ ?_
      refine At.done rfl ?_
      cases h
      exact rfl
     ·refine Tri.keep [0, 1, 4, 12, 13] [5000] (s' := ⟨[(0, .c (oC 5000 3 ((l0.set (0 + p1.toNat) (l0.getD (0 + p3.toNat) default)).set (0 + p3.toNat) (l0.getD (0 + p1.toNat) default)))), (1, cD (i6 p1)), (4, cD (.fn 20 [])), (12, cD (i6 a9.1)), (13, cD (i6 a9.2))], [(5000, vL 3 encTime ((l0.set (0 + p1.toNat) (l0.getD (0 + p3.toNat) default)).set (0 + p3.toNat) (l0.getD (0 + p1.toNat) default)))]⟩) (by kernel_rfl) ?_
      refine Tri.exit ?_
      cases h
      exact ⟨rfl, rfl⟩
    ·rcases bf_cases h with ⟨hp77, h⟩ | ⟨hp77, h⟩
     ·obtain ⟨hc78, h⟩ := need_elim h
      obtain ⟨hc79, h⟩ := need_elim h
      obtain ⟨hc80, h⟩ := need_elim h
      obtain ⟨hc81, h⟩ := need_elim h
      obtain ⟨r82, hr82, h⟩ := bind_elim h
      refine Tri.drawn (specs := [⟨⟨[(12, cD (i6 a9.1))], []⟩, ⟨[(32, cD (i6 a9.1))], []⟩, [], [], []⟩, ⟨⟨[(13, cD (i6 a9.2))], []⟩, ⟨[(33, cD (i6 a9.2))], []⟩, [], [], []⟩, ⟨⟨[(32, cD (i6 a9.1)), (33, cD (i6 a9.2))], []⟩, ⟨[(34, cD (.bool (decide (a9.1 ≤ a9.2))))], []⟩, [], [], []⟩, ⟨⟨[(34, cD (.bool (decide (a9.1 ≤ a9.2))))], []⟩, ⟨[(35, .c (.d (.bool true)))], []⟩, [], [], []⟩, ⟨⟨[(4, cD (.fn 20 [])), (35, cD (.bool true))], []⟩, ⟨[(36, cD (.fn 20 []))], []⟩, [], [], []⟩, ⟨⟨[(0, .c (oC 5000 3 ((l0.set (0 + p1.toNat) (l0.getD (0 + p3.toNat) default)).set (0 + p3.toNat) (l0.getD (0 + p1.toNat) default)))), (35, cD (.bool true))], []⟩, ⟨[(37, .c (oC 5000 3 ((l0.set (0 + p1.toNat) (l0.getD (0 + p3.toNat) default)).set (0 + p3.toNat) (l0.getD (0 + p1.toNat) default))))], []⟩, [], [], []⟩, ⟨⟨[(12, cD (i6 a9.1)), (35, cD (.bool true))], []⟩, ⟨[(38, cD (i6 a9.1))], []⟩, [], [], []⟩, ⟨⟨[(35, cD (.bool true)), (37, .c (oC 5000 3 ((l0.set (0 + p1.toNat) (l0.getD (0 + p3.toNat) default)).set (0 + p3.toNat) (l0.getD (0 + p1.toNat) default)))), (38, cD (i6 a9.1))], [(5000, vL 3 encTime ((l0.set (0 + p1.toNat) (l0.getD (0 + p3.toNat) default)).set (0 + p3.toNat) (l0.getD (0 + p1.toNat) default)))]⟩, ⟨[(39, .c (.vptr 5000 3 (0 + a9.1.toNat) 0))], []⟩, [], [], []⟩, ⟨⟨[(35, cD (.bool true)), (39, .c (.vptr 5000 3 (0 + a9.1.toNat) 0))], [(5000, vL 3 encTime ((l0.set (0 + p1.toNat) (l0.getD (0 + p3.toNat) default)).set (0 + p3.toNat) (l0.getD (0 + p1.toNat) default)))]⟩, ⟨[(40, .agg (cTime (((l0.set (0 + p1.toNat) (l0.getD (0 + p3.toNat) default)).set (0 + p3.toNat) (l0.getD (0 + p1.toNat) default)).getD (0 + a9.1.toNat) default)))], []⟩, [], [], []⟩, ⟨⟨[(0, .c (oC 5000 3 ((l0.set (0 + p1.toNat) (l0.getD (0 + p3.toNat) default)).set (0 + p3.toNat) (l0.getD (0 + p1.toNat) default)))), (35, cD (.bool true))], []⟩, ⟨[(41, .c (oC 5000 3 ((l0.set (0 + p1.toNat) (l0.getD (0 + p3.toNat) default)).set (0 + p3.toNat) (l0.getD (0 + p1.toNat) default))))], []⟩, [], [], []⟩, ⟨⟨[(1, cD (i6 p1)), (35, cD (.bool true))], []⟩, ⟨[(42, cD (i6 p1))], []⟩, [], [], []⟩, ⟨⟨[(35, cD (.bool true)), (41, .c (oC 5000 3 ((l0.set (0 + p1.toNat) (l0.getD (0 + p3.toNat) default)).set (0 + p3.toNat) (l0.getD (0 + p1.toNat) default)))), (42, cD (i6 p1))], [(5000, vL 3 encTime ((l0.set (0 + p1.toNat) (l0.getD (0 + p3.toNat) default)).set (0 + p3.toNat) (l0.getD (0 + p1.toNat) default)))]⟩, ⟨[(43, .c (.vptr 5000 3 (0 + p1.toNat) 0))], []⟩, [], [], []⟩, ⟨⟨[(35, cD (.bool true)), (43, .c (.vptr 5000 3 (0 + p1.toNat) 0))], [(5000, vL 3 encTime ((l0.set (0 + p1.toNat) (l0.getD (0 + p3.toNat) default)).set (0 + p3.toNat) (l0.getD (0 + p1.toNat) default)))]⟩, ⟨[(44, .agg (cTime (((l0.set (0 + p1.toNat) (l0.getD (0 + p3.toNat) default)).set (0 + p3.toNat) (l0.getD (0 + p1.toNat) default)).getD (0 + p1.toNat) default)))], []⟩, [], [], []⟩, ⟨⟨[(35, cD (.bool true)), (36, cD (.fn 20 [])), (40, .agg (cTime (((l0.set (0 + p1.toNat) (l0.getD (0 + p3.toNat) default)).set (0 + p3.toNat) (l0.getD (0 + p1.toNat) default)).getD (0 + a9.1.toNat) default))), (44, .agg (cTime (((l0.set (0 + p1.toNat) (l0.getD (0 + p3.toNat) default)).set (0 + p3.toNat) (l0.getD (0 + p1.toNat) default)).getD (0 + p1.toNat) default)))], []⟩, ⟨[(45, cD (i6 r82))], []⟩, [], [], []⟩, ⟨⟨[(35, cD (.bool true)), (45, cD (i6 r82))], []⟩, ⟨[(46, cD (.bool (decide (r82 < 0))))], []⟩, [], [], []⟩, ⟨⟨[(35, cD (.bool true)), (46, cD (.bool (decide (r82 < 0))))], []⟩, ⟨[(47, cD (.bool (decide (r82 < 0))))], []⟩, [], [], []⟩]) (bef := [[], [], [0, 1], [0, 1, 2], [0, 1, 2, 3], [0, 1, 2, 3], [0, 1, 2, 3], [0, 1, 2, 3, 5, 6], [0, 1, 2, 3, 5, 6, 7], [0, 1, 2, 3], [0, 1, 2, 3], [0, 1, 2, 3, 9, 10], [0, 1, 2, 3, 9, 10, 11], [0, 1, 2, 3, 4, 5, 6, 7, 8, 9, 10, 11, 12], [0, 1, 2, 3, 4, 5, 6, 7, 8, 9, 10, 11, 12, 13], [0, 1, 2, 3, 4, 5, 6, 7, 8, 9, 10, 11, 12, 13, 14]]) (tk := [0, 1, 4, 12, 13, 47]) (sk := [5000]) (s' := ⟨[(0, .c (oC 5000 3 ((l0.set (0 + p1.toNat) (l0.getD (0 + p3.toNat) default)).set (0 + p3.toNat) (l0.getD (0 + p1.toNat) default)))), (1, cD (i6 p1)), (4, cD (.fn 20 [])), (12, cD (i6 a9.1)), (13, cD (i6 a9.2)), (47, cD (.bool (decide (r82 < 0))))], [(5000, vL 3 encTime ((l0.set (0 + p1.toNat) (l0.getD (0 + p3.toNat) default)).set (0 + p3.toNat) (l0.getD (0 + p1.toNat) default)))]⟩) (by kernel_rfl) (by kernel_rfl) (by kernel_rfl) ⟨?_, ?_, ?_, ?_, ?_, ?_, ?_, ?_, ?_, ?_, ?_, ?_, ?_, ?_, ?_, ?_, trivial⟩ (by kernel_rfl) ?_
      · exact DOk.t rfl rfl (by kernel_rfl) (by kernel_rfl) (by kernel_rfl) (by kernel_rfl)
      · exact DOk.t rfl rfl (by kernel_rfl) (by kernel_rfl) (by kernel_rfl) (by kernel_rfl)
      · exact DOk.t rfl rfl (by kernel_rfl) (by kernel_rfl) (by kernel_rfl) (by kernel_rfl)
      · exact DOk.stepP (fun b => .val (.c (.d (.bool b))) (True)) (p := (decide (a9.1 ≤ a9.2))) hp77 (fun r => by kernel_rfl) (fun r => by kernel_rfl) trivial (by kernel_rfl) (by kernel_rfl) (fun r => rfl)
      · exact DOk.t rfl rfl (by kernel_rfl) (by kernel_rfl) (by kernel_rfl) (by kernel_rfl)
      · exact DOk.t rfl rfl (by kernel_rfl) (by kernel_rfl) (by kernel_rfl) (by kernel_rfl)
      · exact DOk.t rfl rfl (by kernel_rfl) (by kernel_rfl) (by kernel_rfl) (by kernel_rfl)
      · exact DOk.step (.val (.c (.vptr 5000 3 (0 + a9.1.toNat) 0)) ((0 : Int) ≤ a9.1 ∧ a9.1 < (((l0.set (0 + p1.toNat) (l0.getD (0 + p3.toNat) default)).set (0 + p3.toNat) (l0.getD (0 + p1.toNat) default)).length : Int))) (fun r => by kernel_rfl) (fun r => by kernel_rfl) hc78 (by kernel_rfl) (by kernel_rfl) (fun r => rfl)
      · exact DOk.step (.val (.agg (cTime (((l0.set (0 + p1.toNat) (l0.getD (0 + p3.toNat) default)).set (0 + p3.toNat) (l0.getD (0 + p1.toNat) default)).getD (0 + a9.1.toNat) default))) ((0 + a9.1.toNat) < ((l0.set (0 + p1.toNat) (l0.getD (0 + p3.toNat) default)).set (0 + p3.toNat) (l0.getD (0 + p1.toNat) default)).length)) (fun r => by kernel_rfl) (fun r => by kernel_rfl) hc79 (by kernel_rfl) (by kernel_rfl) (fun r => rfl)
      · exact DOk.t rfl rfl (by kernel_rfl) (by kernel_rfl) (by kernel_rfl) (by kernel_rfl)
      · exact DOk.t rfl rfl (by kernel_rfl) (by kernel_rfl) (by kernel_rfl) (by kernel_rfl)
      · exact DOk.step (.val (.c (.vptr 5000 3 (0 + p1.toNat) 0)) ((0 : Int) ≤ p1 ∧ p1 < (((l0.set (0 + p1.toNat) (l0.getD (0 + p3.toNat) default)).set (0 + p3.toNat) (l0.getD (0 + p1.toNat) default)).length : Int))) (fun r => by kernel_rfl) (fun r => by kernel_rfl) hc80 (by kernel_rfl) (by kernel_rfl) (fun r => rfl)
      · exact DOk.step (.val (.agg (cTime (((l0.set (0 + p1.toNat) (l0.getD (0 + p3.toNat) default)).set (0 + p3.toNat) (l0.getD (0 + p1.toNat) default)).getD (0 + p1.toNat) default))) ((0 + p1.toNat) < ((l0.set (0 + p1.toNat) (l0.getD (0 + p3.toNat) default)).set (0 + p3.toNat) (l0.getD (0 + p1.toNat) default)).length)) (fun r => by kernel_rfl) (fun r => by kernel_rfl) hc81 (by kernel_rfl) (by kernel_rfl) (fun r => rfl)
      · exact DOk.callA (caps := []) (xs := [.agg (cTime (((l0.set (0 + p1.toNat) (l0.getD (0 + p3.toNat) default)).set (0 + p3.toNat) (l0.getD (0 + p1.toNat) default)).getD (0 + a9.1.toNat) default)), .agg (cTime (((l0.set (0 + p1.toNat) (l0.getD (0 + p3.toNat) default)).set (0 + p3.toNat) (l0.getD (0 + p1.toNat) default)).getD (0 + p1.toNat) default))]) (moment_Compare_ok hr82) rfl (fun r => by kernel_rfl) rfl (fun r => by kernel_rfl) (fun r => by kernel_rfl) (fun r => (.cons (.refl _) (.cons (.refl _) .nil))) rfl rfl (fun r => rfl)
      · exact DOk.t rfl rfl (by kernel_rfl) (by kernel_rfl) (by kernel_rfl) (by kernel_rfl)
      · exact DOk.t rfl rfl (by kernel_rfl) (by kernel_rfl) (by kernel_rfl) (by kernel_rfl)
      exact ⟨_, h, rfl⟩
     ·refine Tri.drawn (specs := [⟨⟨[(12, cD (i6 a9.1))], []⟩, ⟨[(32, cD (i6 a9.1))], []⟩, [], [], []⟩, ⟨⟨[(13, cD (i6 a9.2))], []⟩, ⟨[(33, cD (i6 a9.2))], []⟩, [], [], []⟩, ⟨⟨[(32, cD (i6 a9.1)), (33, cD (i6 a9.2))], []⟩, ⟨[(34, cD (.bool (decide (a9.1 ≤ a9.2))))], []⟩, [], [], []⟩, ⟨⟨[(34, cD (.bool (decide (a9.1 ≤ a9.2))))], []⟩, ⟨[(35, .c (.d (.bool false)))], []⟩, [], [], []⟩, ⟨⟨[(4, cD (.fn 20 [])), (35, cD (.bool false))], []⟩, ⟨[(36, .tup [])], []⟩, [], [], []⟩, ⟨⟨[(0, .c (oC 5000 3 ((l0.set (0 + p1.toNat) (l0.getD (0 + p3.toNat) default)).set (0 + p3.toNat) (l0.getD (0 + p1.toNat) default)))), (35, cD (.bool false))], []⟩, ⟨[(37, .tup [])], []⟩, [], [], []⟩, ⟨⟨[(12, cD (i6 a9.1)), (35, cD (.bool false))], []⟩, ⟨[(38, .tup [])], []⟩, [], [], []⟩, ⟨⟨[(35, cD (.bool false)), (37, .tup []), (38, .tup [])], []⟩, ⟨[(39, .tup [])], []⟩, [], [], []⟩, ⟨⟨[(35, cD (.bool false)), (39, .tup [])], []⟩, ⟨[(40, .tup [])], []⟩, [], [], []⟩, ⟨⟨[(0, .c (oC 5000 3 ((l0.set (0 + p1.toNat) (l0.getD (0 + p3.toNat) default)).set (0 + p3.toNat) (l0.getD (0 + p1.toNat) default)))), (35, cD (.bool false))], []⟩, ⟨[(41, .tup [])], []⟩, [], [], []⟩, ⟨⟨[(1, cD (i6 p1)), (35, cD (.bool false))], []⟩, ⟨[(42, .tup [])], []⟩, [], [], []⟩, ⟨⟨[(35, cD (.bool false)), (41, .tup []), (42, .tup [])], []⟩, ⟨[(43, .tup [])], []⟩, [], [], []⟩, ⟨⟨[(35, cD (.bool false)), (43, .tup [])], []⟩, ⟨[(44, .tup [])], []⟩, [], [], []⟩, ⟨⟨[(35, cD (.bool false)), (36, .tup []), (40, .tup []), (44, .tup [])], []⟩, ⟨[(45, .tup [])], []⟩, [], [], []⟩, ⟨⟨[(35, cD (.bool false)), (45, .tup [])], []⟩, ⟨[(46, .tup [])], []⟩, [], [], []⟩, ⟨⟨[(35, cD (.bool false)), (46, .tup [])], []⟩, ⟨[(47, cD (.bool false))], []⟩, [], [], []⟩]) (bef := [[], [], [0, 1], [0, 1, 2], [0, 1, 2, 3], [0, 1, 2, 3], [0, 1, 2, 3], [0, 1, 2, 3, 5, 6], [0, 1, 2, 3, 5, 6, 7], [0, 1, 2, 3], [0, 1, 2, 3], [0, 1, 2, 3, 9, 10], [0, 1, 2, 3, 9, 10, 11], [0, 1, 2, 3, 4, 5, 6, 7, 8, 9, 10, 11, 12], [0, 1, 2, 3, 4, 5, 6, 7, 8, 9, 10, 11, 12, 13], [0, 1, 2, 3, 4, 5, 6, 7, 8, 9, 10, 11, 12, 13, 14]]) (tk := [0, 1, 4, 12, 13, 47]) (sk := [5000]) (s' := ⟨[(0, .c (oC 5000 3 ((l0.set (0 + p1.toNat) (l0.getD (0 + p3.toNat) default)).set (0 + p3.toNat) (l0.getD (0 + p1.toNat) default)))), (1, cD (i6 p1)), (4, cD (.fn 20 [])), (12, cD (i6 a9.1)), (13, cD (i6 a9.2)), (47, cD (.bool false))], [(5000, vL 3 encTime ((l0.set (0 + p1.toNat) (l0.getD (0 + p3.toNat) default)).set (0 + p3.toNat) (l0.getD (0 + p1.toNat) default)))]⟩) (by kernel_rfl) (by kernel_rfl) (by kernel_rfl) ⟨?_, ?_, ?_, ?_, ?_, ?_, ?_, ?_, ?_, ?_, ?_, ?_, ?_, ?_, ?_, ?_, trivial⟩ (by kernel_rfl) ?_
      · exact DOk.t rfl rfl (by kernel_rfl) (by kernel_rfl) (by kernel_rfl) (by kernel_rfl)
      · exact DOk.t rfl rfl (by kernel_rfl) (by kernel_rfl) (by kernel_rfl) (by kernel_rfl)
      · exact DOk.t rfl rfl (by kernel_rfl) (by kernel_rfl) (by kernel_rfl) (by kernel_rfl)
      · exact DOk.stepP (fun b => .val (.c (.d (.bool b))) (True)) (p := (decide (a9.1 ≤ a9.2))) hp77 (fun r => by kernel_rfl) (fun r => by kernel_rfl) trivial (by kernel_rfl) (by kernel_rfl) (fun r => rfl)
      · exact DOk.skip (fun r => by kernel_rfl) rfl rfl (fun r => rfl)
      · exact DOk.skip (fun r => by kernel_rfl) rfl rfl (fun r => rfl)
      · exact DOk.skip (fun r => by kernel_rfl) rfl rfl (fun r => rfl)
      · exact DOk.skip (fun r => by kernel_rfl) rfl rfl (fun r => rfl)
      · exact DOk.skip (fun r => by kernel_rfl) rfl rfl (fun r => rfl)
      · exact DOk.skip (fun r => by kernel_rfl) rfl rfl (fun r => rfl)
      · exact DOk.skip (fun r => by kernel_rfl) rfl rfl (fun r => rfl)
      · exact DOk.skip (fun r => by kernel_rfl) rfl rfl (fun r => rfl)
      · exact DOk.skip (fun r => by kernel_rfl) rfl rfl (fun r => rfl)
      · exact DOk.skip (fun r => by kernel_rfl) rfl rfl (fun r => rfl)
      · exact DOk.skip (fun r => by kernel_rfl) rfl rfl (fun r => rfl)
      · exact DOk.t rfl rfl (by kernel_rfl) (by kernel_rfl) (by kernel_rfl) (by kernel_rfl)
      exact ⟨_, h, rfl⟩
   ·intro a10 h
    show Tri _ _ _ _
    refine Tri.seqS ?_
    refine Tri.keep [0, 1, 4, 12, 13] [5000] (s' := ⟨[(0, .c (oC 5000 3 ((l0.set (0 + p1.toNat) (l0.getD (0 + p3.toNat) default)).set (0 + p3.toNat) (l0.getD (0 + p1.toNat) default)))), (1, cD (i6 p1)), (4, cD (.fn 20 [])), (12, cD (i6 a10.1)), (13, cD (i6 a10.2))], [(5000, vL 3 encTime ((l0.set (0 + p1.toNat) (l0.getD (0 + p3.toNat) default)).set (0 + p3.toNat) (l0.getD (0 + p1.toNat) default)))]⟩) (by kernel_rfl) ?_
    refine Tri.loopK (fuel := fuel) (st0 := a10.2) (fun (x : Empty) s => False) (fun (a11 : Int) => ⟨[(0, .c (oC 5000 3 ((l0.set (0 + p1.toNat) (l0.getD (0 + p3.toNat) default)).set (0 + p3.toNat) (l0.getD (0 + p1.toNat) default)))), (1, cD (i6 p1)), (4, cD (.fn 20 [])), (12, cD (i6 a10.1)), (13, cD (i6 a11))], [(5000, vL 3 encTime ((l0.set (0 + p1.toNat) (l0.getD (0 + p3.toNat) default)).set (0 + p3.toNat) (l0.getD (0 + p1.toNat) default)))]⟩) (fun (a11 : Int) => ⟨[(0, .c (oC 5000 3 ((l0.set (0 + p1.toNat) (l0.getD (0 + p3.toNat) default)).set (0 + p3.toNat) (l0.getD (0 + p1.toNat) default)))), (1, cD (i6 p1)), (4, cD (.fn 20 [])), (12, cD (i6 a10.1)), (13, cD (i6 a11))], [(5000, vL 3 encTime ((l0.set (0 + p1.toNat) (l0.getD (0 + p3.toNat) default)).set (0 + p3.toNat) (l0.getD (0 + p1.toNat) default)))]⟩) h ?_ ?_ ?_
    ·intro a11 c h
     show Tri _ _ ⟨[(0, .c (oC 5000 3 ((l0.set (0 + p1.toNat) (l0.getD (0 + p3.toNat) default)).set (0 + p3.toNat) (l0.getD (0 + p1.toNat) default)))), (1, cD (i6 p1)), (4, cD (.fn 20 [])), (12, cD (i6 a10.1)), (13, cD (i6 a11))], [(5000, vL 3 encTime ((l0.set (0 + p1.toNat) (l0.getD (0 + p3.toNat) default)).set (0 + p3.toNat) (l0.getD (0 + p1.toNat) default)))]⟩ _
     refine Tri.seqS ?_
     refine Tri.seqJ (fun (a67 : Bool) => ⟨[(0, .c (oC 5000 3 ((l0.set (0 + p1.toNat) (l0.getD (0 + p3.toNat) default)).set (0 + p3.toNat) (l0.getD (0 + p1.toNat) default)))), (1, cD (i6 p1)), (4, cD (.fn 20 [])), (12, cD (i6 a10.1)), (13, cD (i6 a11)), (66, cD (.bool a67))], [(5000, vL 3 encTime ((l0.set (0 + p1.toNat) (l0.getD (0 + p3.toNat) default)).set (0 + p3.toNat) (l0.getD (0 + p1.toNat) default)))]⟩) h (fun a67 h => ?_) (fun j68 h => ?_)
     ·show Tri _ _ ⟨[(0, .c (oC 5000 3 ((l0.set (0 + p1.toNat) (l0.getD (0 + p3.toNat) default)).set (0 + p3.toNat) (l0.getD (0 + p1.toNat) default)))), (1, cD (i6 p1)), (4, cD (.fn 20 [])), (12, cD (i6 a10.1)), (13, cD (i6 a11)), (66, cD (.bool a67))], [(5000, vL 3 encTime ((l0.set (0 + p1.toNat) (l0.getD (0 + p3.toNat) default)).set (0 + p3.toNat) (l0.getD (0 + p1.toNat) default)))]⟩ _
      refine Tri.condP (b := a67) rfl h (fun h => ?_) (fun h => ?_)
      ·refine Tri.skip ?_
       show Tri _ _ _ _
       refine Tri.blockB ?_
       refine Tri.reg ?_
       refine At.seg 3 [0, 1, 4, 12, 13] [5000] (s' := ⟨[(0, .c (oC 5000 3 ((l0.set (0 + p1.toNat) (l0.getD (0 + p3.toNat) default)).set (0 + p3.toNat) (l0.getD (0 + p1.toNat) default)))), (1, cD (i6 p1)), (4, cD (.fn 20 [])), (12, cD (i6 a10.1)), (13, cD (i6 (IntKind.i64.wrap (a11 - 1))))], [(5000, vL 3 encTime ((l0.set (0 + p1.toNat) (l0.getD (0 + p3.toNat) default)).set (0 + p3.toNat) (l0.getD (0 + p1.toNat) default)))]⟩) (c := True ∧ True ∧ True ∧ True) (by kernel_rfl) ⟨trivial, trivial, trivial, trivial⟩ ?_
       refine At.done rfl ?_
       cases h
       exact rfl
      ·refine Tri.keep [0, 1, 4, 12, 13] [5000] (s' := ⟨[(0, .c (oC 5000 3 ((l0.set (0 + p1.toNat) (l0.getD (0 + p3.toNat) default)).set (0 + p3.toNat) (l0.getD (0 + p1.toNat) default)))), (1, cD (i6 p1)), (4, cD (.fn 20 [])), (12, cD (i6 a10.1)), (13, cD (i6 a11))], [(5000, vL 3 encTime ((l0.set (0 + p1.toNat) (l0.getD (0 + p3.toNat) default)).set (0 + p3.toNat) (l0.getD (0 + p1.toNat) default)))]⟩) (by kernel_rfl) ?_
       refine Tri.exit ?_
       cases h
       exact ⟨rfl, rfl⟩
     ·rcases bf_cases h with ⟨hp69, h⟩ | ⟨hp69, h⟩
      ·obtain ⟨hc70, h⟩ := need_elim h
       obtain ⟨hc71, h⟩ := need_elim h
       obtain ⟨hc72, h⟩ := need_elim h
       obtain ⟨hc73, h⟩ := need_elim h
       obtain ⟨r74, hr74, h⟩ := bind_elim h
       refine Tri.drawn (specs := [⟨⟨[(12, cD (i6 a10.1))], []⟩, ⟨[(50, cD (i6 a10.1))], []⟩, [], [], []⟩, ⟨⟨[(13, cD (i6 a11))], []⟩, ⟨[(51, cD (i6 a11))], []⟩, [], [], []⟩, ⟨⟨[(50, cD (i6 a10.1)), (51, cD (i6 a11))], []⟩, ⟨[(52, cD (.bool (decide (a10.1 ≤ a11))))], []⟩, [], [], []⟩, ⟨⟨[(52, cD (.bool (decide (a10.1 ≤ a11))))], []⟩, ⟨[(53, .c (.d (.bool true)))], []⟩, [], [], []⟩, ⟨⟨[(4, cD (.fn 20 [])), (53, cD (.bool true))], []⟩, ⟨[(54, cD (.fn 20 []))], []⟩, [], [], []⟩, ⟨⟨[(0, .c (oC 5000 3 ((l0.set (0 + p1.toNat) (l0.getD (0 + p3.toNat) default)).set (0 + p3.toNat) (l0.getD (0 + p1.toNat) default)))), (53, cD (.bool true))], []⟩, ⟨[(55, .c (oC 5000 3 ((l0.set (0 + p1.toNat) (l0.getD (0 + p3.toNat) default)).set (0 + p3.toNat) (l0.getD (0 + p1.toNat) default))))], []⟩, [], [], []⟩, ⟨⟨[(13, cD (i6 a11)), (53, cD (.bool true))], []⟩, ⟨[(56, cD (i6 a11))], []⟩, [], [], []⟩, ⟨⟨[(53, cD (.bool true)), (55, .c (oC 5000 3 ((l0.set (0 + p1.toNat) (l0.getD (0 + p3.toNat) default)).set (0 + p3.toNat) (l0.getD (0 + p1.toNat) default)))), (56, cD (i6 a11))], [(5000, vL 3 encTime ((l0.set (0 + p1.toNat) (l0.getD (0 + p3.toNat) default)).set (0 + p3.toNat) (l0.getD (0 + p1.toNat) default)))]⟩, ⟨[(57, .c (.vptr 5000 3 (0 + a11.toNat) 0))], []⟩, [], [], []⟩, ⟨⟨[(53, cD (.bool true)), (57, .c (.vptr 5000 3 (0 + a11.toNat) 0))], [(5000, vL 3 encTime ((l0.set (0 + p1.toNat) (l0.getD (0 + p3.toNat) default)).set (0 + p3.toNat) (l0.getD (0 + p1.toNat) default)))]⟩, ⟨[(58, .agg (cTime (((l0.set (0 + p1.toNat) (l0.getD (0 + p3.toNat) default)).set (0 + p3.toNat) (l0.getD (0 + p1.toNat) default)).getD (0 + a11.toNat) default)))], []⟩, [], [], []⟩, ⟨⟨[(0, .c (oC 5000 3 ((l0.set (0 + p1.toNat) (l0.getD (0 + p3.toNat) default)).set (0 + p3.toNat) (l0.getD (0 + p1.toNat) default)))), (53, cD (.bool true))], []⟩, ⟨[(59, .c (oC 5000 3 ((l0.set (0 + p1.toNat) (l0.getD (0 + p3.toNat) default)).set (0 + p3.toNat) (l0.getD (0 + p1.toNat) default))))], []⟩, [], [], []⟩, ⟨⟨[(1, cD (i6 p1)), (53, cD (.bool true))], []⟩, ⟨[(60, cD (i6 p1))], []⟩, [], [], []⟩, ⟨⟨[(53, cD (.bool true)), (59, .c (oC 5000 3 ((l0.set (0 + p1.toNat) (l0.getD (0 + p3.toNat) default)).set (0 + p3.toNat) (l0.getD (0 + p1.toNat) default)))), (60, cD (i6 p1))], [(5000, vL 3 encTime ((l0.set (0 + p1.toNat) (l0.getD (0 + p3.toNat) default)).set (0 + p3.toNat) (l0.getD (0 + p1.toNat) default)))]⟩, ⟨[(61, .c (.vptr 5000 3 (0 + p1.toNat) 0))], []⟩, [], [], []⟩, ⟨⟨[(53, cD (.bool true)), (61, .c (.vptr 5000 3 (0 + p1.toNat) 0))], [(5000, vL 3 encTime ((l0.set (0 + p1.toNat) (l0.getD (0 + p3.toNat) default)).set (0 + p3.toNat) (l0.getD (0 + p1.toNat) default)))]⟩, ⟨[(62, .agg (cTime (((l0.set (0 + p1.toNat) (l0.getD (0 + p3.toNat) default)).set (0 + p3.toNat) (l0.getD (0 + p1.toNat) default)).getD (0 + p1.toNat) default)))], []⟩, [], [], []⟩, ⟨⟨[(53, cD (.bool true)), (54, cD (.fn 20 [])), (58, .agg (cTime (((l0.set (0 + p1.toNat) (l0.getD (0 + p3.toNat) default)).set (0 + p3.toNat) (l0.getD (0 + p1.toNat) default)).getD (0 + a11.toNat) default))), (62, .agg (cTime (((l0.set (0 + p1.toNat) (l0.getD (0 + p3.toNat) default)).set (0 + p3.toNat) (l0.getD (0 + p1.toNat) default)).getD (0 + p1.toNat) default)))], []⟩, ⟨[(63, cD (i6 r74))], []⟩, [], [], []⟩, ⟨⟨[(53, cD (.bool true)), (63, cD (i6 r74))], []⟩, ⟨[(64, cD (.bool (decide (r74 < 0))))], []⟩, [], [], []⟩, ⟨⟨[(53, cD (.bool true)), (64, cD (.bool (decide (r74 < 0))))], []⟩, ⟨[(65, cD (.bool (!(decide (r74 < 0)))))], []⟩, [], [], []⟩, ⟨⟨[(53, cD (.bool true)), (65, cD (.bool (!(decide (r74 < 0)))))], []⟩, ⟨[(66, cD (.bool (!(decide (r74 < 0)))))], []⟩, [], [], []⟩]) (bef := [[], [], [0, 1], [0, 1, 2], [0, 1, 2, 3], [0, 1, 2, 3], [0, 1, 2, 3], [0, 1, 2, 3, 5, 6], [0, 1, 2, 3, 5, 6, 7], [0, 1, 2, 3], [0, 1, 2, 3], [0, 1, 2, 3, 9, 10], [0, 1, 2, 3, 9, 10, 11], [0, 1, 2, 3, 4, 5, 6, 7, 8, 9, 10, 11, 12], [0, 1, 2, 3, 4, 5, 6, 7, 8, 9, 10, 11, 12, 13], [0, 1, 2, 3, 4, 5, 6, 7, 8, 9, 10, 11, 12, 13, 14], [0, 1, 2, 3, 4, 5, 6, 7, 8, 9, 10, 11, 12, 13, 14, 15]]) (tk := [0, 1, 4, 12, 13, 66]) (sk := [5000]) (s' := ⟨[(0, .c (oC 5000 3 ((l0.set (0 + p1.toNat) (l0.getD (0 + p3.toNat) default)).set (0 + p3.toNat) (l0.getD (0 + p1.toNat) default)))), (1, cD (i6 p1)), (4, cD (.fn 20 [])), (12, cD (i6 a10.1)), (13, cD (i6 a11)), (66, cD (.bool (!(decide (r74 < 0)))))], [(5000, vL 3 encTime ((l0.set (0 + p1.toNat) (l0.getD (0 + p3.toNat) default)).set (0 + p3.toNat) (l0.getD (0 + p1.toNat) default)))]⟩) (by kernel_rfl) (by kernel_rfl) (by kernel_rfl) ⟨?_, ?_, ?_, ?_, ?_, ?_, ?_, ?_, ?_, ?_, ?_, ?_, ?_, ?_, ?_, ?_, ?_, trivial⟩ (by kernel_rfl) ?_
       · exact DOk.t rfl rfl (by kernel_rfl) (by kernel_rfl) (by kernel_rfl) (by kernel_rfl)
       · exact DOk.t rfl rfl (by kernel_rfl) (by kernel_rfl) (by kernel_rfl) (by kernel_rfl)
       · exact DOk.t rfl rfl (by kernel_rfl) (by kernel_rfl) (by kernel_rfl) (by kernel_rfl)
       · exact DOk.stepP (fun b => .val (.c (.d (.bool b))) (True)) (p := (decide (a10.1 ≤ a11))) hp69 (fun r => by kernel_rfl) (fun r => by kernel_rfl) trivial (by kernel_rfl) (by kernel_rfl) (fun r => rfl)
       · exact DOk.t rfl rfl (by kernel_rfl) (by kernel_rfl) (by kernel_rfl) (by kernel_rfl)
       · exact DOk.t rfl rfl (by kernel_rfl) (by kernel_rfl) (by kernel_rfl) (by kernel_rfl)
       · exact DOk.t rfl rfl (by kernel_rfl) (by kernel_rfl) (by kernel_rfl) (by kernel_rfl)
       · exact DOk.step (.val (.c (.vptr 5000 3 (0 + a11.toNat) 0)) ((0 : Int) ≤ a11 ∧ a11 < (((l0.set (0 + p1.toNat) (l0.getD (0 + p3.toNat) default)).set (0 + p3.toNat) (l0.getD (0 + p1.toNat) default)).length : Int))) (fun r => by kernel_rfl) (fun r => by kernel_rfl) hc70 (by kernel_rfl) (by kernel_rfl) (fun r => rfl)
       · exact DOk.step (.val (.agg (cTime (((l0.set (0 + p1.toNat) (l0.getD (0 + p3.toNat) default)).set (0 + p3.toNat) (l0.getD (0 + p1.toNat) default)).getD (0 + a11.toNat) default))) ((0 + a11.toNat) < ((l0.set (0 + p1.toNat) (l0.getD (0 + p3.toNat) default)).set (0 + p3.toNat) (l0.getD (0 + p1.toNat) default)).length)) (fun r => by kernel_rfl) (fun r => by kernel_rfl) hc71 (by kernel_rfl) (by kernel_rfl) (fun r => rfl)
       · exact DOk.t rfl rfl (by kernel_rfl) (by kernel_rfl) (by kernel_rfl) (by kernel_rfl)
       · exact DOk.t rfl rfl (by kernel_rfl) (by kernel_rfl) (by kernel_rfl) (by kernel_rfl)
       · exact DOk.step (.val (.c (.vptr 5000 3 (0 + p1.toNat) 0)) ((0 : Int) ≤ p1 ∧ p1 < (((l0.set (0 + p1.toNat) (l0.getD (0 + p3.toNat) default)).set (0 + p3.toNat) (l0.getD (0 + p1.toNat) default)).length : Int))) (fun r => by kernel_rfl) (fun r => by kernel_rfl) hc72 (by kernel_rfl) (by kernel_rfl) (fun r => rfl)
       · exact DOk.step (.val (.agg (cTime (((l0.set (0 + p1.toNat) (l0.getD (0 + p3.toNat) default)).set (0 + p3.toNat) (l0.getD (0 + p1.toNat) default)).getD (0 + p1.toNat) default))) ((0 + p1.toNat) < ((l0.set (0 + p1.toNat) (l0.getD (0 + p3.toNat) default)).set (0 + p3.toNat) (l0.getD (0 + p1.toNat) default)).length)) (fun r => by kernel_rfl) (fun r => by kernel_rfl) hc73 (by kernel_rfl) (by kernel_rfl) (fun r => rfl)
       · exact DOk.callA (caps := []) (xs := [.agg (cTime (((l0.set (0 + p1.toNat) (l0.getD (0 + p3.toNat) default)).set (0 + p3.toNat) (l0.getD (0 + p1.toNat) default)).getD (0 + a11.toNat) default)), .agg (cTime (((l0.set (0 + p1.toNat) (l0.getD (0 + p3.toNat) default)).set (0 + p3.toNat) (l0.getD (0 + p1.toNat) default)).getD (0 + p1.toNat) default))]) (moment_Compare_ok hr74) rfl (fun r => by kernel_rfl) rfl (fun r => by kernel_rfl) (fun r => by kernel_rfl) (fun r => (.cons (.refl _) (.cons (.refl _) .nil))) rfl rfl (fun r => rfl)
       · exact DOk.t rfl rfl (by kernel_rfl) (by kernel_rfl) (by kernel_rfl) (by kernel_rfl)
       · exact DOk.t rfl rfl (by kernel_rfl) (by kernel_rfl) (by kernel_rfl) (by kernel_rfl)
       · exact DOk.t rfl rfl (by kernel_rfl) (by kernel_rfl) (by kernel_rfl) (by kernel_rfl)
       exact ⟨_, h, rfl⟩
      ·refine Tri.drawn (specs := [⟨⟨[(12, cD (i6 a10.1))], []⟩, ⟨[(50, cD (i6 a10.1))], []⟩, [], [], []⟩, ⟨⟨[(13, cD (i6 a11))], []⟩, ⟨[(51, cD (i6 a11))], []⟩, [], [], []⟩, ⟨⟨[(50, cD (i6 a10.1)), (51, cD (i6 a11))], []⟩, ⟨[(52, cD (.bool (decide (a10.1 ≤ a11))))], []⟩, [], [], []⟩, ⟨⟨[(52, cD (.bool (decide (a10.1 ≤ a11))))], []⟩, ⟨[(53, .c (.d (.bool false)))], []⟩, [], [], []⟩, ⟨⟨[(4, cD (.fn 20 [])), (53, cD (.bool false))], []⟩, ⟨[(54, .tup [])], []⟩, [], [], []⟩, ⟨⟨[(0, .c (oC 5000 3 ((l0.set (0 + p1.toNat) (l0.getD (0 + p3.toNat) default)).set (0 + p3.toNat) (l0.getD (0 + p1.toNat) default)))), (53, cD (.bool false))], []⟩, ⟨[(55, .tup [])], []⟩, [], [], []⟩, ⟨⟨[(13, cD (i6 a11)), (53, cD (.bool false))], []⟩, ⟨[(56, .tup [])], []⟩, [], [], []⟩, ⟨⟨[(53, cD (.bool false)), (55, .tup []), (56, .tup [])], []⟩, ⟨[(57, .tup [])], []⟩, [], [], []⟩, ⟨⟨[(53, cD (.bool false)), (57, .tup [])], []⟩, ⟨[(58, .tup [])], []⟩, [], [], []⟩, ⟨⟨[(0, .c (oC 5000 3 ((l0.set (0 + p1.toNat) (l0.getD (0 + p3.toNat) default)).set (0 + p3.toNat) (l0.getD (0 + p1.toNat) default)))), (53, cD (.bool false))], []⟩, ⟨[(59, .tup [])], []⟩, [], [], []⟩, ⟨⟨[(1, cD (i6 p1)), (53, cD (.bool false))], []⟩, ⟨[(60, .tup [])], []⟩, [], [], []⟩, ⟨⟨[(53, cD (.bool false)), (59, .tup []), (60, .tup [])], []⟩, ⟨[(61, .tup [])], []⟩, [], [], []⟩, ⟨⟨[(53, cD (.bool false)), (61, .tup [])], []⟩, ⟨[(62, .tup [])], []⟩, [], [], []⟩, ⟨⟨[(53, cD (.bool false)), (54, .tup []), (58, .tup []), (62, .tup [])], []⟩, ⟨[(63, .tup [])], []⟩, [], [], []⟩, ⟨⟨[(53, cD (.bool false)), (63, .tup [])], []⟩, ⟨[(64, .tup [])], []⟩, [], [], []⟩, ⟨⟨[(53, cD (.bool false)), (64, .tup [])], []⟩, ⟨[(65, .tup [])], []⟩, [], [], []⟩, ⟨⟨[(53, cD (.bool false)), (65, .tup [])], []⟩, ⟨[(66, cD (.bool false))], []⟩, [], [], []⟩]) (bef := [[], [], [0, 1], [0, 1, 2], [0, 1, 2, 3], [0, 1, 2, 3], [0, 1, 2, 3], [0, 1, 2, 3, 5, 6], [0, 1, 2, 3, 5, 6, 7], [0, 1, 2, 3], [0, 1, 2, 3], [0, 1, 2, 3, 9, 10], [0, 1, 2, 3, 9, 10, 11], [0, 1, 2, 3, 4, 5, 6, 7, 8, 9, 10, 11, 12], [0, 1, 2, 3, 4, 5, 6, 7, 8, 9, 10, 11, 12, 13], [0, 1, 2, 3, 4, 5, 6, 7, 8, 9, 10, 11, 12, 13, 14], [0, 1, 2, 3, 4, 5, 6, 7, 8, 9, 10, 11, 12, 13, 14, 15]]) (tk := [0, 1, 4, 12, 13, 66]) (sk := [5000]) (s' := ⟨[(0, .c (oC 5000 3 ((l0.set (0 + p1.toNat) (l0.getD (0 + p3.toNat) default)).set (0 + p3.toNat) (l0.getD (0 + p1.toNat) default)))), (1, cD (i6 p1)), (4, cD (.fn 20 [])), (12, cD (i6 a10.1)), (13, cD (i6 a11)), (66, cD (.bool false))], [(5000, vL 3 encTime ((l0.set (0 + p1.toNat) (l0.getD (0 + p3.toNat) default)).set (0 + p3.toNat) (l0.getD (0 + p1.toNat) default)))]⟩) (by kernel_rfl) (by kernel_rfl) (by kernel_rfl) ⟨?_, ?_, ?_, ?_, ?_, ?_, ?_, ?_, ?_, ?_, ?_, ?_, ?_, ?_, ?_, ?_, ?_, trivial⟩ (by kernel_rfl) ?_
       · exact DOk.t rfl rfl (by kernel_rfl) (by kernel_rfl) (by kernel_rfl) (by kernel_rfl)
       · exact DOk.t rfl rfl (by kernel_rfl) (by kernel_rfl) (by kernel_rfl) (by kernel_rfl)
       · exact DOk.t rfl rfl (by kernel_rfl) (by kernel_rfl) (by kernel_rfl) (by kernel_rfl)
       · exact DOk.stepP (fun b => .val (.c (.d (.bool b))) (True)) (p := (decide (a10.1 ≤ a11))) hp69 (fun r => by kernel_rfl) (fun r => by kernel_rfl) trivial (by kernel_rfl) (by kernel_rfl) (fun r => rfl)
       · exact DOk.skip (fun r => by kernel_rfl) rfl rfl (fun r => rfl)
       · exact DOk.skip (fun r => by kernel_rfl) rfl rfl (fun r => rfl)
       · exact DOk.skip (fun r => by kernel_rfl) rfl rfl (fun r => rfl)
       · exact DOk.skip (fun r => by kernel_rfl) rfl rfl (fun r => rfl)
       · exact DOk.skip (fun r => by kernel_rfl) rfl rfl (fun r => rfl)
       · exact DOk.skip (fun r => by kernel_rfl) rfl rfl (fun r => rfl)
       · exact DOk.skip (fun r => by kernel_rfl) rfl rfl (fun r => rfl)
       · exact DOk.skip (fun r => by kernel_rfl) rfl rfl (fun r => rfl)
       · exact DOk.skip (fun r => by kernel_rfl) rfl rfl (fun r => rfl)
       · exact DOk.skip (fun r => by kernel_rfl) rfl rfl (fun r => rfl)
       · exact DOk.skip (fun r => by kernel_rfl) rfl rfl (fun r => rfl)
       · exact DOk.skip (fun r => by kernel_rfl) rfl rfl (fun r => rfl)
       · exact DOk.t rfl rfl (by kernel_rfl) (by kernel_rfl) (by kernel_rfl) (by kernel_rfl)
       exact ⟨_, h, rfl⟩
    ·intro a12 h
     show Tri _ _ _ _
     refine Tri.seqS ?_
     refine Tri.seqS ?_
     refine Tri.reg ?_
     refine At.seg 3 [0, 1, 4, 12, 13, 71] [5000] (s' := ⟨[(0, .c (oC 5000 3 ((l0.set (0 + p1.toNat) (l0.getD (0 + p3.toNat) default)).set (0 + p3.toNat) (l0.getD (0 + p1.toNat) default)))), (1, cD (i6 p1)), (4, cD (.fn 20 [])), (12, cD (i6 a10.1)), (13, cD (i6 a12)), (71, cD (.bool (decide (a12 < a10.1))))], [(5000, vL 3 encTime ((l0.set (0 + p1.toNat) (l0.getD (0 + p3.toNat) default)).set (0 + p3.toNat) (l0.getD (0 + p1.toNat) default)))]⟩) (c := True ∧ True ∧ True ∧ True) (by kernel_rfl) ⟨trivial, trivial, trivial, trivial⟩ ?_
     refine At.done rfl ?_
     show Tri _ _ _ _
     refine Tri.condP (b := (decide (a12 < a10.1))) rfl h (fun h => ?_) (fun h => ?_)
     ·refine Tri.seqS ?_
      obtain ⟨hc13, h⟩ := need_elim h
      obtain ⟨hc14, h⟩ := need_elim h
      obtain ⟨hc15, h⟩ := need_elim h
      obtain ⟨hc16, h⟩ := need_elim h
      obtain ⟨hc17, h⟩ := need_elim h
      obtain ⟨hc18, h⟩ := need_elim h
      obtain ⟨hc19, h⟩ := need_elim h
      obtain ⟨hc20, h⟩ := need_elim h
      refine Tri.drawn (specs := [⟨⟨[(0, .c (oC 5000 3 ((l0.set (0 + p1.toNat) (l0.getD (0 + p3.toNat) default)).set (0 + p3.toNat) (l0.getD (0 + p1.toNat) default))))], []⟩, ⟨[(72, .c (oC 5000 3 ((l0.set (0 + p1.toNat) (l0.getD (0 + p3.toNat) default)).set (0 + p3.toNat) (l0.getD (0 + p1.toNat) default))))], []⟩, [], [], []⟩, ⟨⟨[(13, cD (i6 a12))], []⟩, ⟨[(73, cD (i6 a12))], []⟩, [], [], []⟩, ⟨⟨[(0, .c (oC 5000 3 ((l0.set (0 + p1.toNat) (l0.getD (0 + p3.toNat) default)).set (0 + p3.toNat) (l0.getD (0 + p1.toNat) default))))], []⟩, ⟨[(74, .c (oC 5000 3 ((l0.set (0 + p1.toNat) (l0.getD (0 + p3.toNat) default)).set (0 + p3.toNat) (l0.getD (0 + p1.toNat) default))))], []⟩, [], [], []⟩, ⟨⟨[(1, cD (i6 p1))], []⟩, ⟨[(75, cD (i6 p1))], []⟩, [], [], []⟩, ⟨⟨[(0, .c (oC 5000 3 ((l0.set (0 + p1.toNat) (l0.getD (0 + p3.toNat) default)).set (0 + p3.toNat) (l0.getD (0 + p1.toNat) default))))], []⟩, ⟨[(76, .c (oC 5000 3 ((l0.set (0 + p1.toNat) (l0.getD (0 + p3.toNat) default)).set (0 + p3.toNat) (l0.getD (0 + p1.toNat) default))))], []⟩, [], [], []⟩, ⟨⟨[(1, cD (i6 p1))], []⟩, ⟨[(77, cD (i6 p1))], []⟩, [], [], []⟩, ⟨⟨[(76, .c (oC 5000 3 ((l0.set (0 + p1.toNat) (l0.getD (0 + p3.toNat) default)).set (0 + p3.toNat) (l0.getD (0 + p1.toNat) default)))), (77, cD (i6 p1))], [(5000, vL 3 encTime ((l0.set (0 + p1.toNat) (l0.getD (0 + p3.toNat) default)).set (0 + p3.toNat) (l0.getD (0 + p1.toNat) default)))]⟩, ⟨[(78, .c (.vptr 5000 3 (0 + p1.toNat) 0))], []⟩, [], [], []⟩, ⟨⟨[(78, .c (.vptr 5000 3 (0 + p1.toNat) 0))], [(5000, vL 3 encTime ((l0.set (0 + p1.toNat) (l0.getD (0 + p3.toNat) default)).set (0 + p3.toNat) (l0.getD (0 + p1.toNat) default)))]⟩, ⟨[(79, .agg (cTime (((l0.set (0 + p1.toNat) (l0.getD (0 + p3.toNat) default)).set (0 + p3.toNat) (l0.getD (0 + p1.toNat) default)).getD (0 + p1.toNat) default)))], []⟩, [], [], []⟩, ⟨⟨[(0, .c (oC 5000 3 ((l0.set (0 + p1.toNat) (l0.getD (0 + p3.toNat) default)).set (0 + p3.toNat) (l0.getD (0 + p1.toNat) default))))], []⟩, ⟨[(80, .c (oC 5000 3 ((l0.set (0 + p1.toNat) (l0.getD (0 + p3.toNat) default)).set (0 + p3.toNat) (l0.getD (0 + p1.toNat) default))))], []⟩, [], [], []⟩, ⟨⟨[(13, cD (i6 a12))], []⟩, ⟨[(81, cD (i6 a12))], []⟩, [], [], []⟩, ⟨⟨[(80, .c (oC 5000 3 ((l0.set (0 + p1.toNat) (l0.getD (0 + p3.toNat) default)).set (0 + p3.toNat) (l0.getD (0 + p1.toNat) default)))), (81, cD (i6 a12))], [(5000, vL 3 encTime ((l0.set (0 + p1.toNat) (l0.getD (0 + p3.toNat) default)).set (0 + p3.toNat) (l0.getD (0 + p1.toNat) default)))]⟩, ⟨[(82, .c (.vptr 5000 3 (0 + a12.toNat) 0))], []⟩, [], [], []⟩, ⟨⟨[(82, .c (.vptr 5000 3 (0 + a12.toNat) 0))], [(5000, vL 3 encTime ((l0.set (0 + p1.toNat) (l0.getD (0 + p3.toNat) default)).set (0 + p3.toNat) (l0.getD (0 + p1.toNat) default)))]⟩, ⟨[(83, .agg (cTime (((l0.set (0 + p1.toNat) (l0.getD (0 + p3.toNat) default)).set (0 + p3.toNat) (l0.getD (0 + p1.toNat) default)).getD (0 + a12.toNat) default)))], []⟩, [], [], []⟩, ⟨⟨[(72, .c (oC 5000 3 ((l0.set (0 + p1.toNat) (l0.getD (0 + p3.toNat) default)).set (0 + p3.toNat) (l0.getD (0 + p1.toNat) default)))), (73, cD (i6 a12))], [(5000, vL 3 encTime ((l0.set (0 + p1.toNat) (l0.getD (0 + p3.toNat) default)).set (0 + p3.toNat) (l0.getD (0 + p1.toNat) default)))]⟩, ⟨[(84, .c (.vptr 5000 3 (0 + a12.toNat) 0))], []⟩, [], [], []⟩, ⟨⟨[(79, .agg (cTime (((l0.set (0 + p1.toNat) (l0.getD (0 + p3.toNat) default)).set (0 + p3.toNat) (l0.getD (0 + p1.toNat) default)).getD (0 + p1.toNat) default))), (84, .c (.vptr 5000 3 (0 + a12.toNat) 0))], [(5000, vL 3 encTime ((l0.set (0 + p1.toNat) (l0.getD (0 + p3.toNat) default)).set (0 + p3.toNat) (l0.getD (0 + p1.toNat) default)))]⟩, ⟨[], [(5000, vL 3 encTime (((l0.set (0 + p1.toNat) (l0.getD (0 + p3.toNat) default)).set (0 + p3.toNat) (l0.getD (0 + p1.toNat) default)).set (0 + a12.toNat) (((l0.set (0 + p1.toNat) (l0.getD (0 + p3.toNat) default)).set (0 + p3.toNat) (l0.getD (0 + p1.toNat) default)).getD (0 + p1.toNat) default)))]⟩, [], [], []⟩, ⟨⟨[(74, .c (oC 5000 3 ((l0.set (0 + p1.toNat) (l0.getD (0 + p3.toNat) default)).set (0 + p3.toNat) (l0.getD (0 + p1.toNat) default)))), (75, cD (i6 p1))], [(5000, vL 3 encTime (((l0.set (0 + p1.toNat) (l0.getD (0 + p3.toNat) default)).set (0 + p3.toNat) (l0.getD (0 + p1.toNat) default)).set (0 + a12.toNat) (((l0.set (0 + p1.toNat) (l0.getD (0 + p3.toNat) default)).set (0 + p3.toNat) (l0.getD (0 + p1.toNat) default)).getD (0 + p1.toNat) default)))]⟩, ⟨[(85, .c (.vptr 5000 3 (0 + p1.toNat) 0))], []⟩, [], [], []⟩, ⟨⟨[(83, .agg (cTime (((l0.set (0 + p1.toNat) (l0.getD (0 + p3.toNat) default)).set (0 + p3.toNat) (l0.getD (0 + p1.toNat) default)).getD (0 + a12.toNat) default))), (85, .c (.vptr 5000 3 (0 + p1.toNat) 0))], [(5000, vL 3 encTime (((l0.set (0 + p1.toNat) (l0.getD (0 + p3.toNat) default)).set (0 + p3.toNat) (l0.getD (0 + p1.toNat) default)).set (0 + a12.toNat) (((l0.set (0 + p1.toNat) (l0.getD (0 + p3.toNat) default)).set (0 + p3.toNat) (l0.getD (0 + p1.toNat) default)).getD (0 + p1.toNat) default)))]⟩, ⟨[], [(5000, vL 3 encTime ((((l0.set (0 + p1.toNat) (l0.getD (0 + p3.toNat) default)).set (0 + p3.toNat) (l0.getD (0 + p1.toNat) default)).set (0 + a12.toNat) (((l0.set (0 + p1.toNat) (l0.getD (0 + p3.toNat) default)).set (0 + p3.toNat) (l0.getD (0 + p1.toNat) default)).getD (0 + p1.toNat) default)).set (0 + p1.toNat) (((l0.set (0 + p1.toNat) (l0.getD (0 + p3.toNat) default)).set (0 + p3.toNat) (l0.getD (0 + p1.toNat) default)).getD (0 + a12.toNat) default)))]⟩, [], [], []⟩]) (bef := [[], [], [], [], [], [], [4, 5], [4, 5, 6], [], [], [8, 9], [8, 9, 10], [0, 1, 4, 5, 6, 7, 8, 9, 10, 11], [0, 1, 4, 5, 6, 7, 8, 9, 10, 11, 12], [0, 1, 2, 3, 4, 5, 6, 7, 8, 9, 10, 11, 12, 13], [0, 1, 2, 3, 4, 5, 6, 7, 8, 9, 10, 11, 12, 13, 14]]) (tk := [13]) (sk := [5000]) (s' := ⟨[(13, cD (i6 a12))], [(5000, vL 3 encTime ((((l0.set (0 + p1.toNat) (l0.getD (0 + p3.toNat) default)).set (0 + p3.toNat) (l0.getD (0 + p1.toNat) default)).set (0 + a12.toNat) (((l0.set (0 + p1.toNat) (l0.getD (0 + p3.toNat) default)).set (0 + p3.toNat) (l0.getD (0 + p1.toNat) default)).getD (0 + p1.toNat) default)).set (0 + p1.toNat) (((l0.set (0 + p1.toNat) (l0.getD (0 + p3.toNat) default)).set (0 + p3.toNat) (l0.getD (0 + p1.toNat) default)).getD (0 + a12.toNat) default)))]⟩) (by kernel_rfl) (by kernel_rfl) (by kernel_rfl) ⟨?_, ?_, ?_, ?_, ?_, ?_, ?_, ?_, ?_, ?_, ?_, ?_, ?_, ?_, ?_, ?_, trivial⟩ (by kernel_rfl) ?_
      · exact DOk.t rfl rfl (by kernel_rfl) (by kernel_rfl) (by kernel_rfl) (by kernel_rfl)
      · exact DOk.t rfl rfl (by kernel_rfl) (by kernel_rfl) (by kernel_rfl) (by kernel_rfl)
      · exact DOk.t rfl rfl (by kernel_rfl) (by kernel_rfl) (by kernel_rfl) (by kernel_rfl)
      · exact DOk.t rfl rfl (by kernel_rfl) (by kernel_rfl) (by kernel_rfl) (by kernel_rfl)
      · exact DOk.t rfl rfl (by kernel_rfl) (by kernel_rfl) (by kernel_rfl) (by kernel_rfl)
      · exact DOk.t rfl rfl (by kernel_rfl) (by kernel_rfl) (by kernel_rfl) (by kernel_rfl)
      · exact DOk.step (.val (.c (.vptr 5000 3 (0 + p1.toNat) 0)) ((0 : Int) ≤ p1 ∧ p1 < (((l0.set (0 + p1.toNat) (l0.getD (0 + p3.toNat) default)).set (0 + p3.toNat) (l0.getD (0 + p1.toNat) default)).length : Int))) (fun r => by kernel_rfl) (fun r => by kernel_rfl) hc13 (by kernel_rfl) (by kernel_rfl) (fun r => rfl)
      · exact DOk.step (.val (.agg (cTime (((l0.set (0 + p1.toNat) (l0.getD (0 + p3.toNat) default)).set (0 + p3.toNat) (l0.getD (0 + p1.toNat) default)).getD (0 + p1.toNat) default))) ((0 + p1.toNat) < ((l0.set (0 + p1.toNat) (l0.getD (0 + p3.toNat) default)).set (0 + p3.toNat) (l0.getD (0 + p1.toNat) default)).length)) (fun r => by kernel_rfl) (fun r => by kernel_rfl) hc14 (by kernel_rfl) (by kernel_rfl) (fun r => rfl)
      · exact DOk.t rfl rfl (by kernel_rfl) (by kernel_rfl) (by kernel_rfl) (by kernel_rfl)
      · exact DOk.t rfl rfl (by kernel_rfl) (by kernel_rfl) (by kernel_rfl) (by kernel_rfl)
      · exact DOk.step (.val (.c (.vptr 5000 3 (0 + a12.toNat) 0)) ((0 : Int) ≤ a12 ∧ a12 < (((l0.set (0 + p1.toNat) (l0.getD (0 + p3.toNat) default)).set (0 + p3.toNat) (l0.getD (0 + p1.toNat) default)).length : Int))) (fun r => by kernel_rfl) (fun r => by kernel_rfl) hc15 (by kernel_rfl) (by kernel_rfl) (fun r => rfl)
      · exact DOk.step (.val (.agg (cTime (((l0.set (0 + p1.toNat) (l0.getD (0 + p3.toNat) default)).set (0 + p3.toNat) (l0.getD (0 + p1.toNat) default)).getD (0 + a12.toNat) default))) ((0 + a12.toNat) < ((l0.set (0 + p1.toNat) (l0.getD (0 + p3.toNat) default)).set (0 + p3.toNat) (l0.getD (0 + p1.toNat) default)).length)) (fun r => by kernel_rfl) (fun r => by kernel_rfl) hc16 (by kernel_rfl) (by kernel_rfl) (fun r => rfl)
      · exact DOk.step (.val (.c (.vptr 5000 3 (0 + a12.toNat) 0)) ((0 : Int) ≤ a12 ∧ a12 < (((l0.set (0 + p1.toNat) (l0.getD (0 + p3.toNat) default)).set (0 + p3.toNat) (l0.getD (0 + p1.toNat) default)).length : Int))) (fun r => by kernel_rfl) (fun r => by kernel_rfl) hc17 (by kernel_rfl) (by kernel_rfl) (fun r => rfl)
      · exact DOk.one fun r hr => One.storeT (xs := [.d (u6 ((((l0.set (0 + p1.toNat) (l0.getD (0 + p3.toNat) default)).set (0 + p3.toNat) (l0.getD (0 + p1.toNat) default)).getD (0 + p1.toNat) default).epoch)), .d (u6 ((((l0.set (0 + p1.toNat) (l0.getD (0 + p3.toNat) default)).set (0 + p3.toNat) (l0.getD (0 + p1.toNat) default)).getD (0 + p1.toNat) default).loop.1)), .d (u6 ((((l0.set (0 + p1.toNat) (l0.getD (0 + p3.toNat) default)).set (0 + p3.toNat) (l0.getD (0 + p1.toNat) default)).getD (0 + p1.toNat) default).loop.2))]) (ds := [u6 ((((l0.set (0 + p1.toNat) (l0.getD (0 + p3.toNat) default)).set (0 + p3.toNat) (l0.getD (0 + p1.toNat) default)).getD (0 + p1.toNat) default).epoch), u6 ((((l0.set (0 + p1.toNat) (l0.getD (0 + p3.toNat) default)).set (0 + p3.toNat) (l0.getD (0 + p1.toNat) default)).getD (0 + p1.toNat) default).loop.1), u6 ((((l0.set (0 + p1.toNat) (l0.getD (0 + p3.toNat) default)).set (0 + p3.toNat) (l0.getD (0 + p1.toNat) default)).getD (0 + p1.toNat) default).loop.2)]) (encTime) ((l0.set (0 + p1.toNat) (l0.getD (0 + p3.toNat) default)).set (0 + p3.toNat) (l0.getD (0 + p1.toNat) default)) (((l0.set (0 + p1.toNat) (l0.getD (0 + p3.toNat) default)).set (0 + p3.toNat) (l0.getD (0 + p1.toNat) default)).getD (0 + p1.toNat) default) rfl (by kernel_rfl) rfl rfl rfl hc18 rfl rfl (.refl _) rfl rfl rfl rfl
      · exact DOk.step (.val (.c (.vptr 5000 3 (0 + p1.toNat) 0)) ((0 : Int) ≤ p1 ∧ p1 < (((l0.set (0 + p1.toNat) (l0.getD (0 + p3.toNat) default)).set (0 + p3.toNat) (l0.getD (0 + p1.toNat) default)).length : Int))) (fun r => by kernel_rfl) (fun r => by kernel_rfl) hc19 (by kernel_rfl) (by kernel_rfl) (fun r => rfl)
      · exact DOk.one fun r hr => One.storeT (xs := [.d (u6 ((((l0.set (0 + p1.toNat) (l0.getD (0 + p3.toNat) default)).set (0 + p3.toNat) (l0.getD (0 + p1.toNat) default)).getD (0 + a12.toNat) default).epoch)), .d (u6 ((((l0.set (0 + p1.toNat) (l0.getD (0 + p3.toNat) default)).set (0 + p3.toNat) (l0.getD (0 + p1.toNat) default)).getD (0 + a12.toNat) default).loop.1)), .d (u6 ((((l0.set (0 + p1.toNat) (l0.getD (0 + p3.toNat) default)).set (0 + p3.toNat) (l0.getD (0 + p1.toNat) default)).getD (0 + a12.toNat) default).loop.2))]) (ds := [u6 ((((l0.set (0 + p1.toNat) (l0.getD (0 + p3.toNat) default)).set (0 + p3.toNat) (l0.getD (0 + p1.toNat) default)).getD (0 + a12.toNat) default).epoch), u6 ((((l0.set (0 + p1.toNat) (l0.getD (0 + p3.toNat) default)).set (0 + p3.toNat) (l0.getD (0 + p1.toNat) default)).getD (0 + a12.toNat) default).loop.1), u6 ((((l0.set (0 + p1.toNat) (l0.getD (0 + p3.toNat) default)).set (0 + p3.toNat) (l0.getD (0 + p1.toNat) default)).getD (0 + a12.toNat) default).loop.2)]) (encTime) (((l0.set (0 + p1.toNat) (l0.getD (0 + p3.toNat) default)).set (0 + p3.toNat) (l0.getD (0 + p1.toNat) default)).set (0 + a12.toNat) (((l0.set (0 + p1.toNat) (l0.getD (0 + p3.toNat) default)).set (0 + p3.toNat) (l0.getD (0 + p1.toNat) default)).getD (0 + p1.toNat) default)) (((l0.set (0 + p1.toNat) (l0.getD (0 + p3.toNat) default)).set (0 + p3.toNat) (l0.getD (0 + p1.toNat) default)).getD (0 + a12.toNat) default) rfl (by kernel_rfl) rfl rfl rfl hc20 rfl rfl (.refl _) rfl rfl rfl rfl
      show Tri _ _ _ _
      refine Tri.seqS ?_
      refine Tri.reg ?_
      refine At.seg 3 [10, 11] [5000] (s' := ⟨[(10, cD (i6 a12)), (11, cD (.bool true))], [(5000, vL 3 encTime ((((l0.set (0 + p1.toNat) (l0.getD (0 + p3.toNat) default)).set (0 + p3.toNat) (l0.getD (0 + p1.toNat) default)).set (0 + a12.toNat) (((l0.set (0 + p1.toNat) (l0.getD (0 + p3.toNat) default)).set (0 + p3.toNat) (l0.getD (0 + p1.toNat) default)).getD (0 + p1.toNat) default)).set (0 + p1.toNat) (((l0.set (0 + p1.toNat) (l0.getD (0 + p3.toNat) default)).set (0 + p3.toNat) (l0.getD (0 + p1.toNat) default)).getD (0 + a12.toNat) default)))]⟩) (c := True ∧ True ∧ True ∧ True) (by kernel_rfl) ⟨trivial, trivial, trivial, trivial⟩ ?_
      refine At.done rfl ?_
      show Tri _ _ _ _
      refine Tri.keep [10, 11] [5000] (s' := ⟨[(10, cD (i6 a12)), (11, cD (.bool true))], [(5000, vL 3 encTime ((((l0.set (0 + p1.toNat) (l0.getD (0 + p3.toNat) default)).set (0 + p3.toNat) (l0.getD (0 + p1.toNat) default)).set (0 + a12.toNat) (((l0.set (0 + p1.toNat) (l0.getD (0 + p3.toNat) default)).set (0 + p3.toNat) (l0.getD (0 + p1.toNat) default)).getD (0 + p1.toNat) default)).set (0 + p1.toNat) (((l0.set (0 + p1.toNat) (l0.getD (0 + p3.toNat) default)).set (0 + p3.toNat) (l0.getD (0 + p1.toNat) default)).getD (0 + a12.toNat) default)))]⟩) (by kernel_rfl) ?_
      refine Tri.ret ?_
      cases h
      refine ⟨_, _, rfl, ⟨trivial, ⟨trivial, trivial⟩⟩, rfl, rfl, ?_⟩
      exact SubS.out ⟨⟨rfl, rfl⟩, trivial⟩
     ·refine Tri.skip ?_
      show Tri _ _ _ _
      refine Tri.seqS ?_
      obtain ⟨hc21, h⟩ := need_elim h
      obtain ⟨hc22, h⟩ := need_elim h
      obtain ⟨hc23, h⟩ := need_elim h
      obtain ⟨hc24, h⟩ := need_elim h
      obtain ⟨hc25, h⟩ := need_elim h
      obtain ⟨hc26, h⟩ := need_elim h
      obtain ⟨hc27, h⟩ := need_elim h
      obtain ⟨hc28, h⟩ := need_elim h
      refine Tri.afterA ⟨[(0, .c (oC 5000 3 ((l0.set (0 + p1.toNat) (l0.getD (0 + p3.toNat) default)).set (0 + p3.toNat) (l0.getD (0 + p1.toNat) default)))), (1, cD (i6 p1)), (4, cD (.fn 20 [])), (12, cD (i6 a10.1)), (13, cD (i6 a12))], [(5000, vL 3 encTime ((((l0.set (0 + p1.toNat) (l0.getD (0 + p3.toNat) default)).set (0 + p3.toNat) (l0.getD (0 + p1.toNat) default)).set (0 + a10.1.toNat) (((l0.set (0 + p1.toNat) (l0.getD (0 + p3.toNat) default)).set (0 + p3.toNat) (l0.getD (0 + p1.toNat) default)).getD (0 + a12.toNat) default)).set (0 + a12.toNat) (((l0.set (0 + p1.toNat) (l0.getD (0 + p3.toNat) default)).set (0 + p3.toNat) (l0.getD (0 + p1.toNat) default)).getD (0 + a10.1.toNat) default)))]⟩ ?_ ?_
      ·refine Tri.drawn (specs := [⟨⟨[(0, .c (oC 5000 3 ((l0.set (0 + p1.toNat) (l0.getD (0 + p3.toNat) default)).set (0 + p3.toNat) (l0.getD (0 + p1.toNat) default))))], []⟩, ⟨[(87, .c (oC 5000 3 ((l0.set (0 + p1.toNat) (l0.getD (0 + p3.toNat) default)).set (0 + p3.toNat) (l0.getD (0 + p1.toNat) default))))], []⟩, [], [], []⟩, ⟨⟨[(12, cD (i6 a10.1))], []⟩, ⟨[(88, cD (i6 a10.1))], []⟩, [], [], []⟩, ⟨⟨[(0, .c (oC 5000 3 ((l0.set (0 + p1.toNat) (l0.getD (0 + p3.toNat) default)).set (0 + p3.toNat) (l0.getD (0 + p1.toNat) default))))], []⟩, ⟨[(89, .c (oC 5000 3 ((l0.set (0 + p1.toNat) (l0.getD (0 + p3.toNat) default)).set (0 + p3.toNat) (l0.getD (0 + p1.toNat) default))))], []⟩, [], [], []⟩, ⟨⟨[(13, cD (i6 a12))], []⟩, ⟨[(90, cD (i6 a12))], []⟩, [], [], []⟩, ⟨⟨[(0, .c (oC 5000 3 ((l0.set (0 + p1.toNat) (l0.getD (0 + p3.toNat) default)).set (0 + p3.toNat) (l0.getD (0 + p1.toNat) default))))], []⟩, ⟨[(91, .c (oC 5000 3 ((l0.set (0 + p1.toNat) (l0.getD (0 + p3.toNat) default)).set (0 + p3.toNat) (l0.getD (0 + p1.toNat) default))))], []⟩, [], [], []⟩, ⟨⟨[(13, cD (i6 a12))], []⟩, ⟨[(92, cD (i6 a12))], []⟩, [], [], []⟩, ⟨⟨[(91, .c (oC 5000 3 ((l0.set (0 + p1.toNat) (l0.getD (0 + p3.toNat) default)).set (0 + p3.toNat) (l0.getD (0 + p1.toNat) default)))), (92, cD (i6 a12))], [(5000, vL 3 encTime ((l0.set (0 + p1.toNat) (l0.getD (0 + p3.toNat) default)).set (0 + p3.toNat) (l0.getD (0 + p1.toNat) default)))]⟩, ⟨[(93, .c (.vptr 5000 3 (0 + a12.toNat) 0))], []⟩, [], [], []⟩, ⟨⟨[(93, .c (.vptr 5000 3 (0 + a12.toNat) 0))], [(5000, vL 3 encTime ((l0.set (0 + p1.toNat) (l0.getD (0 + p3.toNat) default)).set (0 + p3.toNat) (l0.getD (0 + p1.toNat) default)))]⟩, ⟨[(94, .agg (cTime (((l0.set (0 + p1.toNat) (l0.getD (0 + p3.toNat) default)).set (0 + p3.toNat) (l0.getD (0 + p1.toNat) default)).getD (0 + a12.toNat) default)))], []⟩, [], [], []⟩, ⟨⟨[(0, .c (oC 5000 3 ((l0.set (0 + p1.toNat) (l0.getD (0 + p3.toNat) default)).set (0 + p3.toNat) (l0.getD (0 + p1.toNat) default))))], []⟩, ⟨[(95, .c (oC 5000 3 ((l0.set (0 + p1.toNat) (l0.getD (0 + p3.toNat) default)).set (0 + p3.toNat) (l0.getD (0 + p1.toNat) default))))], []⟩, [], [], []⟩, ⟨⟨[(12, cD (i6 a10.1))], []⟩, ⟨[(96, cD (i6 a10.1))], []⟩, [], [], []⟩, ⟨⟨[(95, .c (oC 5000 3 ((l0.set (0 + p1.toNat) (l0.getD (0 + p3.toNat) default)).set (0 + p3.toNat) (l0.getD (0 + p1.toNat) default)))), (96, cD (i6 a10.1))], [(5000, vL 3 encTime ((l0.set (0 + p1.toNat) (l0.getD (0 + p3.toNat) default)).set (0 + p3.toNat) (l0.getD (0 + p1.toNat) default)))]⟩, ⟨[(97, .c (.vptr 5000 3 (0 + a10.1.toNat) 0))], []⟩, [], [], []⟩, ⟨⟨[(97, .c (.vptr 5000 3 (0 + a10.1.toNat) 0))], [(5000, vL 3 encTime ((l0.set (0 + p1.toNat) (l0.getD (0 + p3.toNat) default)).set (0 + p3.toNat) (l0.getD (0 + p1.toNat) default)))]⟩, ⟨[(98, .agg (cTime (((l0.set (0 + p1.toNat) (l0.getD (0 + p3.toNat) default)).set (0 + p3.toNat) (l0.getD (0 + p1.toNat) default)).getD (0 + a10.1.toNat) default)))], []⟩, [], [], []⟩, ⟨⟨[(87, .c (oC 5000 3 ((l0.set (0 + p1.toNat) (l0.getD (0 + p3.toNat) default)).set (0 + p3.toNat) (l0.getD (0 + p1.toNat) default)))), (88, cD (i6 a10.1))], [(5000, vL 3 encTime ((l0.set (0 + p1.toNat) (l0.getD (0 + p3.toNat) default)).set (0 + p3.toNat) (l0.getD (0 + p1.toNat) default)))]⟩, ⟨[(99, .c (.vptr 5000 3 (0 + a10.1.toNat) 0))], []⟩, [], [], []⟩, ⟨⟨[(94, .agg (cTime (((l0.set (0 + p1.toNat) (l0.getD (0 + p3.toNat) default)).set (0 + p3.toNat) (l0.getD (0 + p1.toNat) default)).getD (0 + a12.toNat) default))), (99, .c (.vptr 5000 3 (0 + a10.1.toNat) 0))], [(5000, vL 3 encTime ((l0.set (0 + p1.toNat) (l0.getD (0 + p3.toNat) default)).set (0 + p3.toNat) (l0.getD (0 + p1.toNat) default)))]⟩, ⟨[], [(5000, vL 3 encTime (((l0.set (0 + p1.toNat) (l0.getD (0 + p3.toNat) default)).set (0 + p3.toNat) (l0.getD (0 + p1.toNat) default)).set (0 + a10.1.toNat) (((l0.set (0 + p1.toNat) (l0.getD (0 + p3.toNat) default)).set (0 + p3.toNat) (l0.getD (0 + p1.toNat) default)).getD (0 + a12.toNat) default)))]⟩, [], [], []⟩, ⟨⟨[(89, .c (oC 5000 3 ((l0.set (0 + p1.toNat) (l0.getD (0 + p3.toNat) default)).set (0 + p3.toNat) (l0.getD (0 + p1.toNat) default)))), (90, cD (i6 a12))], [(5000, vL 3 encTime (((l0.set (0 + p1.toNat) (l0.getD (0 + p3.toNat) default)).set (0 + p3.toNat) (l0.getD (0 + p1.toNat) default)).set (0 + a10.1.toNat) (((l0.set (0 + p1.toNat) (l0.getD (0 + p3.toNat) default)).set (0 + p3.toNat) (l0.getD (0 + p1.toNat) default)).getD (0 + a12.toNat) default)))]⟩, ⟨[(100, .c (.vptr 5000 3 (0 + a12.toNat) 0))], []⟩, [], [], []⟩, ⟨⟨[(98, .agg (cTime (((l0.set (0 + p1.toNat) (l0.getD (0 + p3.toNat) default)).set (0 + p3.toNat) (l0.getD (0 + p1.toNat) default)).getD (0 + a10.1.toNat) default))), (100, .c (.vptr 5000 3 (0 + a12.toNat) 0))], [(5000, vL 3 encTime (((l0.set (0 + p1.toNat) (l0.getD (0 + p3.toNat) default)).set (0 + p3.toNat) (l0.getD (0 + p1.toNat) default)).set (0 + a10.1.toNat) (((l0.set (0 + p1.toNat) (l0.getD (0 + p3.toNat) default)).set (0 + p3.toNat) (l0.getD (0 + p1.toNat) default)).getD (0 + a12.toNat) default)))]⟩, ⟨[], [(5000, vL 3 encTime ((((l0.set (0 + p1.toNat) (l0.getD (0 + p3.toNat) default)).set (0 + p3.toNat) (l0.getD (0 + p1.toNat) default)).set (0 + a10.1.toNat) (((l0.set (0 + p1.toNat) (l0.getD (0 + p3.toNat) default)).set (0 + p3.toNat) (l0.getD (0 + p1.toNat) default)).getD (0 + a12.toNat) default)).set (0 + a12.toNat) (((l0.set (0 + p1.toNat) (l0.getD (0 + p3.toNat) default)).set (0 + p3.toNat) (l0.getD (0 + p1.toNat) default)).getD (0 + a10.1.toNat) default)))]⟩, [], [], []⟩]) (bef := [[], [], [], [], [], [], [4, 5], [4, 5, 6], [], [], [8, 9], [8, 9, 10], [0, 1, 4, 5, 6, 7, 8, 9, 10, 11], [0, 1, 4, 5, 6, 7, 8, 9, 10, 11, 12], [0, 1, 2, 3, 4, 5, 6, 7, 8, 9, 10, 11, 12, 13], [0, 1, 2, 3, 4, 5, 6, 7, 8, 9, 10, 11, 12, 13, 14]]) (tk := [0, 1, 4, 12, 13]) (sk := [5000]) (s' := ⟨[(0, .c (oC 5000 3 ((l0.set (0 + p1.toNat) (l0.getD (0 + p3.toNat) default)).set (0 + p3.toNat) (l0.getD (0 + p1.toNat) default)))), (1, cD (i6 p1)), (4, cD (.fn 20 [])), (12, cD (i6 a10.1)), (13, cD (i6 a12))], [(5000, vL 3 encTime ((((l0.set (0 + p1.toNat) (l0.getD (0 + p3.toNat) default)).set (0 + p3.toNat) (l0.getD (0 + p1.toNat) default)).set (0 + a10.1.toNat) (((l0.set (0 + p1.toNat) (l0.getD (0 + p3.toNat) default)).set (0 + p3.toNat) (l0.getD (0 + p1.toNat) default)).getD (0 + a12.toNat) default)).set (0 + a12.toNat) (((l0.set (0 + p1.toNat) (l0.getD (0 + p3.toNat) default)).set (0 + p3.toNat) (l0.getD (0 + p1.toNat) default)).getD (0 + a10.1.toNat) default)))]⟩) (by kernel_rfl) (by kernel_rfl) (by kernel_rfl) ⟨?_, ?_, ?_, ?_, ?_, ?_, ?_, ?_, ?_, ?_, ?_, ?_, ?_, ?_, ?_, ?_, trivial⟩ (by kernel_rfl) ?_
       · exact DOk.t rfl rfl (by kernel_rfl) (by kernel_rfl) (by kernel_rfl) (by kernel_rfl)
       · exact DOk.t rfl rfl (by kernel_rfl) (by kernel_rfl) (by kernel_rfl) (by kernel_rfl)
       · exact DOk.t rfl rfl (by kernel_rfl) (by kernel_rfl) (by kernel_rfl) (by kernel_rfl)
       · exact DOk.t rfl rfl (by kernel_rfl) (by kernel_rfl) (by kernel_rfl) (by kernel_rfl)
       · exact DOk.t rfl rfl (by kernel_rfl) (by kernel_rfl) (by kernel_rfl) (by kernel_rfl)
       · exact DOk.t rfl rfl (by kernel_rfl) (by kernel_rfl) (by kernel_rfl) (by kernel_rfl)
       · exact DOk.step (.val (.c (.vptr 5000 3 (0 + a12.toNat) 0)) ((0 : Int) ≤ a12 ∧ a12 < (((l0.set (0 + p1.toNat) (l0.getD (0 + p3.toNat) default)).set (0 + p3.toNat) (l0.getD (0 + p1.toNat) default)).length : Int))) (fun r => by kernel_rfl) (fun r => by kernel_rfl) hc21 (by kernel_rfl) (by kernel_rfl) (fun r => rfl)
       · exact DOk.step (.val (.agg (cTime (((l0.set (0 + p1.toNat) (l0.getD (0 + p3.toNat) default)).set (0 + p3.toNat) (l0.getD (0 + p1.toNat) default)).getD (0 + a12.toNat) default))) ((0 + a12.toNat) < ((l0.set (0 + p1.toNat) (l0.getD (0 + p3.toNat) default)).set (0 + p3.toNat) (l0.getD (0 + p1.toNat) default)).length)) (fun r => by kernel_rfl) (fun r => by kernel_rfl) hc22 (by kernel_rfl) (by kernel_rfl) (fun r => rfl)
       · exact DOk.t rfl rfl (by kernel_rfl) (by kernel_rfl) (by kernel_rfl) (by kernel_rfl)
       · exact DOk.t rfl rfl (by kernel_rfl) (by kernel_rfl) (by kernel_rfl) (by kernel_rfl)
       · exact DOk.step (.val (.c (.vptr 5000 3 (0 + a10.1.toNat) 0)) ((0 : Int) ≤ a10.1 ∧ a10.1 < (((l0.set (0 + p1.toNat) (l0.getD (0 + p3.toNat) default)).set (0 + p3.toNat) (l0.getD (0 + p1.toNat) default)).length : Int))) (fun r => by kernel_rfl) (fun r => by kernel_rfl) hc23 (by kernel_rfl) (by kernel_rfl) (fun r => rfl)
       · exact DOk.step (.val (.agg (cTime (((l0.set (0 + p1.toNat) (l0.getD (0 + p3.toNat) default)).set (0 + p3.toNat) (l0.getD (0 + p1.toNat) default)).getD (0 + a10.1.toNat) default))) ((0 + a10.1.toNat) < ((l0.set (0 + p1.toNat) (l0.getD (0 + p3.toNat) default)).set (0 + p3.toNat) (l0.getD (0 + p1.toNat) default)).length)) (fun r => by kernel_rfl) (fun r => by kernel_rfl) hc24 (by kernel_rfl) (by kernel_rfl) (fun r => rfl)
       · exact DOk.step (.val (.c (.vptr 5000 3 (0 + a10.1.toNat) 0)) ((0 : Int) ≤ a10.1 ∧ a10.1 < (((l0.set (0 + p1.toNat) (l0.getD (0 + p3.toNat) default)).set (0 + p3.toNat) (l0.getD (0 + p1.toNat) default)).length : Int))) (fun r => by kernel_rfl) (fun r => by kernel_rfl) hc25 (by kernel_rfl) (by kernel_rfl) (fun r => rfl)
       · exact DOk.one fun r hr => One.storeT (xs := [.d (u6 ((((l0.set (0 + p1.toNat) (l0.getD (0 + p3.toNat) default)).set (0 + p3.toNat) (l0.getD (0 + p1.toNat) default)).getD (0 + a12.toNat) default).epoch)), .d (u6 ((((l0.set (0 + p1.toNat) (l0.getD (0 + p3.toNat) default)).set (0 + p3.toNat) (l0.getD (0 + p1.toNat) default)).getD (0 + a12.toNat) default).loop.1)), .d (u6 ((((l0.set (0 + p1.toNat) (l0.getD (0 + p3.toNat) default)).set (0 + p3.toNat) (l0.getD (0 + p1.toNat) default)).getD (0 + a12.toNat) default).loop.2))]) (ds := [u6 ((((l0.set (0 + p1.toNat) (l0.getD (0 + p3.toNat) default)).set (0 + p3.toNat) (l0.getD (0 + p1.toNat) default)).getD (0 + a12.toNat) default).epoch), u6 ((((l0.set (0 + p1.toNat) (l0.getD (0 + p3.toNat) default)).set (0 + p3.toNat) (l0.getD (0 + p1.toNat) default)).getD (0 + a12.toNat) default).loop.1), u6 ((((l0.set (0 + p1.toNat) (l0.getD (0 + p3.toNat) default)).set (0 + p3.toNat) (l0.getD (0 + p1.toNat) default)).getD (0 + a12.toNat) default).loop.2)]) (encTime) ((l0.set (0 + p1.toNat) (l0.getD (0 + p3.toNat) default)).set (0 + p3.toNat) (l0.getD (0 + p1.toNat) default)) (((l0.set (0 + p1.toNat) (l0.getD (0 + p3.toNat) default)).set (0 + p3.toNat) (l0.getD (0 + p1.toNat) default)).getD (0 + a12.toNat) default) rfl (by kernel_rfl) rfl rfl rfl hc26 rfl rfl (.refl _) rfl rfl rfl rfl
       · exact DOk.step (.val (.c (.vptr 5000 3 (0 + a12.toNat) 0)) ((0 : Int) ≤ a12 ∧ a12 < (((l0.set (0 + p1.toNat) (l0.getD (0 + p3.toNat) default)).set (0 + p3.toNat) (l0.getD (0 + p1.toNat) default)).length : Int))) (fun r => by kernel_rfl) (fun r => by kernel_rfl) hc27 (by kernel_rfl) (by kernel_rfl) (fun r => rfl)
       · exact DOk.one fun r hr => One.storeT (xs := [.d (u6 ((((l0.set (0 + p1.toNat) (l0.getD (0 + p3.toNat) default)).set (0 + p3.toNat) (l0.getD (0 + p1.toNat) default)).getD (0 + a10.1.toNat) default).epoch)), .d (u6 ((((l0.set (0 + p1.toNat) (l0.getD (0 + p3.toNat) default)).set (0 + p3.toNat) (l0.getD (0 + p1.toNat) default)).getD (0 + a10.1.toNat) default).loop.1)), .d (u6 ((((l0.set (0 + p1.toNat) (l0.getD (0 + p3.toNat) default)).set (0 + p3.toNat) (l0.getD (0 + p1.toNat) default)).getD (0 + a10.1.toNat) default).loop.2))]) (ds := [u6 ((((l0.set (0 + p1.toNat) (l0.getD (0 + p3.toNat) default)).set (0 + p3.toNat) (l0.getD (0 + p1.toNat) default)).getD (0 + a10.1.toNat) default).epoch), u6 ((((l0.set (0 + p1.toNat) (l0.getD (0 + p3.toNat) default)).set (0 + p3.toNat) (l0.getD (0 + p1.toNat) default)).getD (0 + a10.1.toNat) default).loop.1), u6 ((((l0.set (0 + p1.toNat) (l0.getD (0 + p3.toNat) default)).set (0 + p3.toNat) (l0.getD (0 + p1.toNat) default)).getD (0 + a10.1.toNat) default).loop.2)]) (encTime) (((l0.set (0 + p1.toNat) (l0.getD (0 + p3.toNat) default)).set (0 + p3.toNat) (l0.getD (0 + p1.toNat) default)).set (0 + a10.1.toNat) (((l0.set (0 + p1.toNat) (l0.getD (0 + p3.toNat) default)).set (0 + p3.toNat) (l0.getD (0 + p1.toNat) default)).getD (0 + a12.toNat) default)) (((l0.set (0 + p1.toNat) (l0.getD (0 + p3.toNat) default)).set (0 + p3.toNat) (l0.getD (0 + p1.toNat) default)).getD (0 + a10.1.toNat) default) rfl (by kernel_rfl) rfl rfl rfl hc28 rfl rfl (.refl _) rfl rfl rfl rfl
       exact ⟨rfl, rfl⟩
      ·refine At.eqS (s' := ⟨[(0, .c (oC 5000 3 ((((l0.set (0 + p1.toNat) (l0.getD (0 + p3.toNat) default)).set (0 + p3.toNat) (l0.getD (0 + p1.toNat) default)).set (0 + a10.1.toNat) (((l0.set (0 + p1.toNat) (l0.getD (0 + p3.toNat) default)).set (0 + p3.toNat) (l0.getD (0 + p1.toNat) default)).getD (0 + a12.toNat) default)).set (0 + a12.toNat) (((l0.set (0 + p1.toNat) (l0.getD (0 + p3.toNat) default)).set (0 + p3.toNat) (l0.getD (0 + p1.toNat) default)).getD (0 + a10.1.toNat) default)))), (1, cD (i6 p1)), (4, cD (.fn 20 [])), (12, cD (i6 a10.1)), (13, cD (i6 a12))], [(5000, vL 3 encTime ((((l0.set (0 + p1.toNat) (l0.getD (0 + p3.toNat) default)).set (0 + p3.toNat) (l0.getD (0 + p1.toNat) default)).set (0 + a10.1.toNat) (((l0.set (0 + p1.toNat) (l0.getD (0 + p3.toNat) default)).set (0 + p3.toNat) (l0.getD (0 + p1.toNat) default)).getD (0 + a12.toNat) default)).set (0 + a12.toNat) (((l0.set (0 + p1.toNat) (l0.getD (0 + p3.toNat) default)).set (0 + p3.toNat) (l0.getD (0 + p1.toNat) default)).getD (0 + a10.1.toNat) default)))]⟩) (by simp only [oC, vL, List.length_set]) ?_
       refine At.done rfl ?_
       show Tri _ _ _ _
       refine Tri.seqS ?_
       refine Tri.reg ?_
       refine At.seg 3 [0, 1, 4, 12, 13] [5000] (s' := ⟨[(0, .c (oC 5000 3 ((((l0.set (0 + p1.toNat) (l0.getD (0 + p3.toNat) default)).set (0 + p3.toNat) (l0.getD (0 + p1.toNat) default)).set (0 + a10.1.toNat) (((l0.set (0 + p1.toNat) (l0.getD (0 + p3.toNat) default)).set (0 + p3.toNat) (l0.getD (0 + p1.toNat) default)).getD (0 + a12.toNat) default)).set (0 + a12.toNat) (((l0.set (0 + p1.toNat) (l0.getD (0 + p3.toNat) default)).set (0 + p3.toNat) (l0.getD (0 + p1.toNat) default)).getD (0 + a10.1.toNat) default)))), (1, cD (i6 p1)), (4, cD (.fn 20 [])), (12, cD (i6 (IntKind.i64.wrap (a10.1 + 1)))), (13, cD (i6 a12))], [(5000, vL 3 encTime ((((l0.set (0 + p1.toNat) (l0.getD (0 + p3.toNat) default)).set (0 + p3.toNat) (l0.getD (0 + p1.toNat) default)).set (0 + a10.1.toNat) (((l0.set (0 + p1.toNat) (l0.getD (0 + p3.toNat) default)).set (0 + p3.toNat) (l0.getD (0 + p1.toNat) default)).getD (0 + a12.toNat) default)).set (0 + a12.toNat) (((l0.set (0 + p1.toNat) (l0.getD (0 + p3.toNat) default)).set (0 + p3.toNat) (l0.getD (0 + p1.toNat) default)).getD (0 + a10.1.toNat) default)))]⟩) (c := True ∧ True ∧ True ∧ True) (by kernel_rfl) ⟨trivial, trivial, trivial, trivial⟩ ?_
       refine At.done rfl ?_
       show Tri _ _ _ _
       refine Tri.seqS ?_
       refine Tri.reg ?_
       refine At.seg 3 [0, 1, 4, 12, 13] [5000] (s' := ⟨[(0, .c (oC 5000 3 ((((l0.set (0 + p1.toNat) (l0.getD (0 + p3.toNat) default)).set (0 + p3.toNat) (l0.getD (0 + p1.toNat) default)).set (0 + a10.1.toNat) (((l0.set (0 + p1.toNat) (l0.getD (0 + p3.toNat) default)).set (0 + p3.toNat) (l0.getD (0 + p1.toNat) default)).getD (0 + a12.toNat) default)).set (0 + a12.toNat) (((l0.set (0 + p1.toNat) (l0.getD (0 + p3.toNat) default)).set (0 + p3.toNat) (l0.getD (0 + p1.toNat) default)).getD (0 + a10.1.toNat) default)))), (1, cD (i6 p1)), (4, cD (.fn 20 [])), (12, cD (i6 (IntKind.i64.wrap (a10.1 + 1)))), (13, cD (i6 (IntKind.i64.wrap (a12 - 1))))], [(5000, vL 3 encTime ((((l0.set (0 + p1.toNat) (l0.getD (0 + p3.toNat) default)).set (0 + p3.toNat) (l0.getD (0 + p1.toNat) default)).set (0 + a10.1.toNat) (((l0.set (0 + p1.toNat) (l0.getD (0 + p3.toNat) default)).set (0 + p3.toNat) (l0.getD (0 + p1.toNat) default)).getD (0 + a12.toNat) default)).set (0 + a12.toNat) (((l0.set (0 + p1.toNat) (l0.getD (0 + p3.toNat) default)).set (0 + p3.toNat) (l0.getD (0 + p1.toNat) default)).getD (0 + a10.1.toNat) default)))]⟩) (c := True ∧ True ∧ True ∧ True) (by kernel_rfl) ⟨trivial, trivial, trivial, trivial⟩ ?_
       refine At.done rfl ?_
       show Tri _ _ _ _
       refine Tri.seqS ?_
       refine Tri.keep [0, 1, 4, 12, 13] [5000] (s' := ⟨[(0, .c (oC 5000 3 ((((l0.set (0 + p1.toNat) (l0.getD (0 + p3.toNat) default)).set (0 + p3.toNat) (l0.getD (0 + p1.toNat) default)).set (0 + a10.1.toNat) (((l0.set (0 + p1.toNat) (l0.getD (0 + p3.toNat) default)).set (0 + p3.toNat) (l0.getD (0 + p1.toNat) default)).getD (0 + a12.toNat) default)).set (0 + a12.toNat) (((l0.set (0 + p1.toNat) (l0.getD (0 + p3.toNat) default)).set (0 + p3.toNat) (l0.getD (0 + p1.toNat) default)).getD (0 + a10.1.toNat) default)))), (1, cD (i6 p1)), (4, cD (.fn 20 [])), (12, cD (i6 (IntKind.i64.wrap (a10.1 + 1)))), (13, cD (i6 (IntKind.i64.wrap (a12 - 1))))], [(5000, vL 3 encTime ((((l0.set (0 + p1.toNat) (l0.getD (0 + p3.toNat) default)).set (0 + p3.toNat) (l0.getD (0 + p1.toNat) default)).set (0 + a10.1.toNat) (((l0.set (0 + p1.toNat) (l0.getD (0 + p3.toNat) default)).set (0 + p3.toNat) (l0.getD (0 + p1.toNat) default)).getD (0 + a12.toNat) default)).set (0 + a12.toNat) (((l0.set (0 + p1.toNat) (l0.getD (0 + p3.toNat) default)).set (0 + p3.toNat) (l0.getD (0 + p1.toNat) default)).getD (0 + a10.1.toNat) default)))]⟩) (by kernel_rfl) ?_
       refine Tri.loopK (fuel := fuel) (st0 := ((IntKind.i64.wrap (a10.1 + 1)), (IntKind.i64.wrap (a12 - 1)), ((((l0.set (0 + p1.toNat) (l0.getD (0 + p3.toNat) default)).set (0 + p3.toNat) (l0.getD (0 + p1.toNat) default)).set (0 + a10.1.toNat) (((l0.set (0 + p1.toNat) (l0.getD (0 + p3.toNat) default)).set (0 + p3.toNat) (l0.getD (0 + p1.toNat) default)).getD (0 + a12.toNat) default)).set (0 + a12.toNat) (((l0.set (0 + p1.toNat) (l0.getD (0 + p3.toNat) default)).set (0 + p3.toNat) (l0.getD (0 + p1.toNat) default)).getD (0 + a10.1.toNat) default)))) (fun (x : Empty) s => False) (fun (a29 : Int × Int × (List Time)) => ⟨[(0, .c (oC 5000 3 a29.2.2)), (1, cD (i6 p1)), (4, cD (.fn 20 [])), (12, cD (i6 a29.1)), (13, cD (i6 a29.2.1))], [(5000, vL 3 encTime a29.2.2)]⟩) (fun (a29 : Int × Int × (List Time)) => ⟨[(0, .c (oC 5000 3 a29.2.2)), (1, cD (i6 p1)), (4, cD (.fn 20 [])), (12, cD (i6 a29.1)), (13, cD (i6 a29.2.1))], [(5000, vL 3 encTime a29.2.2)]⟩) h ?_ ?_ ?_
       ·intro a29 c h
        show Tri _ _ ⟨[(0, .c (oC 5000 3 a29.2.2)), (1, cD (i6 p1)), (4, cD (.fn 20 [])), (12, cD (i6 a29.1)), (13, cD (i6 a29.2.1))], [(5000, vL 3 encTime a29.2.2)]⟩ _
        refine Tri.blockB ?_
        refine Tri.seqS ?_
        refine Tri.keep [0, 1, 4, 12, 13] [5000] (s' := ⟨[(0, .c (oC 5000 3 a29.2.2)), (1, cD (i6 p1)), (4, cD (.fn 20 [])), (12, cD (i6 a29.1)), (13, cD (i6 a29.2.1))], [(5000, vL 3 encTime a29.2.2)]⟩) (by kernel_rfl) ?_
        refine Tri.loopK (fuel := fuel) (st0 := a29.1) (fun (x : Empty) s => False) (fun (a39 : Int) => ⟨[(0, .c (oC 5000 3 a29.2.2)), (1, cD (i6 p1)), (4, cD (.fn 20 [])), (12, cD (i6 a39)), (13, cD (i6 a29.2.1))], [(5000, vL 3 encTime a29.2.2)]⟩) (fun (a39 : Int) => ⟨[(0, .c (oC 5000 3 a29.2.2)), (1, cD (i6 p1)), (4, cD (.fn 20 [])), (12, cD (i6 a39)), (13, cD (i6 a29.2.1))], [(5000, vL 3 encTime a29.2.2)]⟩) h ?_ ?_ ?_
        ·intro a39 c h
         show Tri _ _ ⟨[(0, .c (oC 5000 3 a29.2.2)), (1, cD (i6 p1)), (4, cD (.fn 20 [])), (12, cD (i6 a39)), (13, cD (i6 a29.2.1))], [(5000, vL 3 encTime a29.2.2)]⟩ _
         refine Tri.seqS ?_
         refine Tri.seqJ (fun (a59 : Bool) => ⟨[(0, .c (oC 5000 3 a29.2.2)), (1, cD (i6 p1)), (4, cD (.fn 20 [])), (12, cD (i6 a39)), (13, cD (i6 a29.2.1)), (120, cD (.bool a59))], [(5000, vL 3 encTime a29.2.2)]⟩) h (fun a59 h => ?_) (fun j60 h => ?_)
         ·show Tri _ _ ⟨[(0, .c (oC 5000 3 a29.2.2)), (1, cD (i6 p1)), (4, cD (.fn 20 [])), (12, cD (i6 a39)), (13, cD (i6 a29.2.1)), (120, cD (.bool a59))], [(5000, vL 3 encTime a29.2.2)]⟩ _
          refine Tri.condP (b := a59) rfl h (fun h => ?_) (fun h => ?_)
          ·refine Tri.skip ?_
           show Tri _ _ _ _
           refine Tri.blockB ?_
           refine Tri.reg ?_
           refine At.seg 3 [0, 1, 4, 12, 13] [5000] (s' := ⟨[(0, .c (oC 5000 3 a29.2.2)), (1, cD (i6 p1)), (4, cD (.fn 20 [])), (12, cD (i6 (IntKind.i64.wrap (a39 + 1)))), (13, cD (i6 a29.2.1))], [(5000, vL 3 encTime a29.2.2)]⟩) (c := True ∧ True ∧ True ∧ True) (by kernel_rfl) ⟨trivial, trivial, trivial, trivial⟩ ?_
           refine At.done rfl ?_
           cases h
           exact rfl
          ·refine Tri.keep [0, 1, 4, 12, 13] [5000] (s' := ⟨[(0, .c (oC 5000 3 a29.2.2)), (1, cD (i6 p1)), (4, cD (.fn 20 [])), (12, cD (i6 a39)), (13, cD (i6 a29.2.1))], [(5000, vL 3 encTime a29.2.2)]⟩) (by kernel_rfl) ?_
           refine Tri.exit ?_
           cases h
           exact ⟨rfl, rfl⟩
         ·rcases bf_cases h with ⟨hp61, h⟩ | ⟨hp61, h⟩
          ·obtain ⟨hc62, h⟩ := need_elim h
           obtain ⟨hc63, h⟩ := need_elim h
           obtain ⟨hc64, h⟩ := need_elim h
           obtain ⟨hc65, h⟩ := need_elim h
           obtain ⟨r66, hr66, h⟩ := bind_elim h
           refine Tri.drawn (specs := [⟨⟨[(12, cD (i6 a39))], []⟩, ⟨[(105, cD (i6 a39))], []⟩, [], [], []⟩, ⟨⟨[(13, cD (i6 a29.2.1))], []⟩, ⟨[(106, cD (i6 a29.2.1))], []⟩, [], [], []⟩, ⟨⟨[(105, cD (i6 a39)), (106, cD (i6 a29.2.1))], []⟩, ⟨[(107, cD (.bool (decide (a39 ≤ a29.2.1))))], []⟩, [], [], []⟩, ⟨⟨[(107, cD (.bool (decide (a39 ≤ a29.2.1))))], []⟩, ⟨[(108, .c (.d (.bool true)))], []⟩, [], [], []⟩, ⟨⟨[(4, cD (.fn 20 [])), (108, cD (.bool true))], []⟩, ⟨[(109, cD (.fn 20 []))], []⟩, [], [], []⟩, ⟨⟨[(0, .c (oC 5000 3 a29.2.2)), (108, cD (.bool true))], []⟩, ⟨[(110, .c (oC 5000 3 a29.2.2))], []⟩, [], [], []⟩, ⟨⟨[(12, cD (i6 a39)), (108, cD (.bool true))], []⟩, ⟨[(111, cD (i6 a39))], []⟩, [], [], []⟩, ⟨⟨[(108, cD (.bool true)), (110, .c (oC 5000 3 a29.2.2)), (111, cD (i6 a39))], [(5000, vL 3 encTime a29.2.2)]⟩, ⟨[(112, .c (.vptr 5000 3 (0 + a39.toNat) 0))], []⟩, [], [], []⟩, ⟨⟨[(108, cD (.bool true)), (112, .c (.vptr 5000 3 (0 + a39.toNat) 0))], [(5000, vL 3 encTime a29.2.2)]⟩, ⟨[(113, .agg (cTime (a29.2.2.getD (0 + a39.toNat) default)))], []⟩, [], [], []⟩, ⟨⟨[(0, .c (oC 5000 3 a29.2.2)), (108, cD (.bool true))], []⟩, ⟨[(114, .c (oC 5000 3 a29.2.2))], []⟩, [], [], []⟩, ⟨⟨[(1, cD (i6 p1)), (108, cD (.bool true))], []⟩, ⟨[(115, cD (i6 p1))], []⟩, [], [], []⟩, ⟨⟨[(108, cD (.bool true)), (114, .c (oC 5000 3 a29.2.2)), (115, cD (i6 p1))], [(5000, vL 3 encTime a29.2.2)]⟩, ⟨[(116, .c (.vptr 5000 3 (0 + p1.toNat) 0))], []⟩, [], [], []⟩, ⟨⟨[(108, cD (.bool true)), (116, .c (.vptr 5000 3 (0 + p1.toNat) 0))], [(5000, vL 3 encTime a29.2.2)]⟩, ⟨[(117, .agg (cTime (a29.2.2.getD (0 + p1.toNat) default)))], []⟩, [], [], []⟩, ⟨⟨[(108, cD (.bool true)), (109, cD (.fn 20 [])), (113, .agg (cTime (a29.2.2.getD (0 + a39.toNat) default))), (117, .agg (cTime (a29.2.2.getD (0 + p1.toNat) default)))], []⟩, ⟨[(118, cD (i6 r66))], []⟩, [], [], []⟩, ⟨⟨[(108, cD (.bool true)), (118, cD (i6 r66))], []⟩, ⟨[(119, cD (.bool (decide (r66 < 0))))], []⟩, [], [], []⟩, ⟨⟨[(108, cD (.bool true)), (119, cD (.bool (decide (r66 < 0))))], []⟩, ⟨[(120, cD (.bool (decide (r66 < 0))))], []⟩, [], [], []⟩]) (bef := [[], [], [0, 1], [0, 1, 2], [0, 1, 2, 3], [0, 1, 2, 3], [0, 1, 2, 3], [0, 1, 2, 3, 5, 6], [0, 1, 2, 3, 5, 6, 7], [0, 1, 2, 3], [0, 1, 2, 3], [0, 1, 2, 3, 9, 10], [0, 1, 2, 3, 9, 10, 11], [0, 1, 2, 3, 4, 5, 6, 7, 8, 9, 10, 11, 12], [0, 1, 2, 3, 4, 5, 6, 7, 8, 9, 10, 11, 12, 13], [0, 1, 2, 3, 4, 5, 6, 7, 8, 9, 10, 11, 12, 13, 14]]) (tk := [0, 1, 4, 12, 13, 120]) (sk := [5000]) (s' := ⟨[(0, .c (oC 5000 3 a29.2.2)), (1, cD (i6 p1)), (4, cD (.fn 20 [])), (12, cD (i6 a39)), (13, cD (i6 a29.2.1)), (120, cD (.bool (decide (r66 < 0))))], [(5000, vL 3 encTime a29.2.2)]⟩) (by kernel_rfl) (by kernel_rfl) (by kernel_rfl) ⟨?_, ?_, ?_, ?_, ?_, ?_, ?_, ?_, ?_, ?_, ?_, ?_, ?_, ?_, ?_, ?_, trivial⟩ (by kernel_rfl) ?_
           · exact DOk.t rfl rfl (by kernel_rfl) (by kernel_rfl) (by kernel_rfl) (by kernel_rfl)
           · exact DOk.t rfl rfl (by kernel_rfl) (by kernel_rfl) (by kernel_rfl) (by kernel_rfl)
           · exact DOk.t rfl rfl (by kernel_rfl) (by kernel_rfl) (by kernel_rfl) (by kernel_rfl)
           · exact DOk.stepP (fun b => .val (.c (.d (.bool b))) (True)) (p := (decide (a39 ≤ a29.2.1))) hp61 (fun r => by kernel_rfl) (fun r => by kernel_rfl) trivial (by kernel_rfl) (by kernel_rfl) (fun r => rfl)
           · exact DOk.t rfl rfl (by kernel_rfl) (by kernel_rfl) (by kernel_rfl) (by kernel_rfl)
           · exact DOk.t rfl rfl (by kernel_rfl) (by kernel_rfl) (by kernel_rfl) (by kernel_rfl)
           · exact DOk.t rfl rfl (by kernel_rfl) (by kernel_rfl) (by kernel_rfl) (by kernel_rfl)
           · exact DOk.step (.val (.c (.vptr 5000 3 (0 + a39.toNat) 0)) ((0 : Int) ≤ a39 ∧ a39 < (a29.2.2.length : Int))) (fun r => by kernel_rfl) (fun r => by kernel_rfl) hc62 (by kernel_rfl) (by kernel_rfl) (fun r => rfl)
           · exact DOk.step (.val (.agg (cTime (a29.2.2.getD (0 + a39.toNat) default))) ((0 + a39.toNat) < a29.2.2.length)) (fun r => by kernel_rfl) (fun r => by kernel_rfl) hc63 (by kernel_rfl) (by kernel_rfl) (fun r => rfl)
           · exact DOk.t rfl rfl (by kernel_rfl) (by kernel_rfl) (by kernel_rfl) (by kernel_rfl)
           · exact DOk.t rfl rfl (by kernel_rfl) (by kernel_rfl) (by kernel_rfl) (by kernel_rfl)
           · exact DOk.step (.val (.c (.vptr 5000 3 (0 + p1.toNat) 0)) ((0 : Int) ≤ p1 ∧ p1 < (a29.2.2.length : Int))) (fun r => by kernel_rfl) (fun r => by kernel_rfl) hc64 (by kernel_rfl) (by kernel_rfl) (fun r => rfl)
           · exact DOk.step (.val (.agg (cTime (a29.2.2.getD (0 + p1.toNat) default))) ((0 + p1.toNat) < a29.2.2.length)) (fun r => by kernel_rfl) (fun r => by kernel_rfl) hc65 (by kernel_rfl) (by kernel_rfl) (fun r => rfl)
           · exact DOk.callA (caps := []) (xs := [.agg (cTime (a29.2.2.getD (0 + a39.toNat) default)), .agg (cTime (a29.2.2.getD (0 + p1.toNat) default))]) (moment_Compare_ok hr66) rfl (fun r => by kernel_rfl) rfl (fun r => by kernel_rfl) (fun r => by kernel_rfl) (fun r => (.cons (.refl _) (.cons (.refl _) .nil))) rfl rfl (fun r => rfl)
           · exact DOk.t rfl rfl (by kernel_rfl) (by kernel_rfl) (by kernel_rfl) (by kernel_rfl)
           · exact DOk.t rfl rfl (by kernel_rfl) (by kernel_rfl) (by kernel_rfl) (by kernel_rfl)
           exact ⟨_, h, rfl⟩
          ·refine Tri.drawn (specs := [⟨⟨[(12, cD (i6 a39))], []⟩, ⟨[(105, cD (i6 a39))], []⟩, [], [], []⟩, ⟨⟨[(13, cD (i6 a29.2.1))], []⟩, ⟨[(106, cD (i6 a29.2.1))], []⟩, [], [], []⟩, ⟨⟨[(105, cD (i6 a39)), (106, cD (i6 a29.2.1))], []⟩, ⟨[(107, cD (.bool (decide (a39 ≤ a29.2.1))))], []⟩, [], [], []⟩, ⟨⟨[(107, cD (.bool (decide (a39 ≤ a29.2.1))))], []⟩, ⟨[(108, .c (.d (.bool false)))], []⟩, [], [], []⟩, ⟨⟨[(4, cD (.fn 20 [])), (108, cD (.bool false))], []⟩, ⟨[(109, .tup [])], []⟩, [], [], []⟩, ⟨⟨[(0, .c (oC 5000 3 a29.2.2)), (108, cD (.bool false))], []⟩, ⟨[(110, .tup [])], []⟩, [], [], []⟩, ⟨⟨[(12, cD (i6 a39)), (108, cD (.bool false))], []⟩, ⟨[(111, .tup [])], []⟩, [], [], []⟩, ⟨⟨[(108, cD (.bool false)), (110, .tup []), (111, .tup [])], []⟩, ⟨[(112, .tup [])], []⟩, [], [], []⟩, ⟨⟨[(108, cD (.bool false)), (112, .tup [])], []⟩, ⟨[(113, .tup [])], []⟩, [], [], []⟩, ⟨⟨[(0, .c (oC 5000 3 a29.2.2)), (108, cD (.bool false))], []⟩, ⟨[(114, .tup [])], []⟩, [], [], []⟩, ⟨⟨[(1, cD (i6 p1)), (108, cD (.bool false))], []⟩, ⟨[(115, .tup [])], []⟩, [], [], []⟩, ⟨⟨[(108, cD (.bool false)), (114, .tup []), (115, .tup [])], []⟩, ⟨[(116, .tup [])], []⟩, [], [], []⟩, ⟨⟨[(108, cD (.bool false)), (116, .tup [])], []⟩, ⟨[(117, .tup [])], []⟩, [], [], []⟩, ⟨⟨[(108, cD (.bool false)), (109, .tup []), (113, .tup []), (117, .tup [])], []⟩, ⟨[(118, .tup [])], []⟩, [], [], []⟩, ⟨⟨[(108, cD (.bool false)), (118, .tup [])], []⟩, ⟨[(119, .tup [])], []⟩, [], [], []⟩, ⟨⟨[(108, cD (.bool false)), (119, .tup [])], []⟩, ⟨[(120, cD (.bool false))], []⟩, [], [], []⟩]) (bef := [[], [], [0, 1], [0, 1, 2], [0, 1, 2, 3], [0, 1, 2, 3], [0, 1, 2, 3], [0, 1, 2, 3, 5, 6], [0, 1, 2, 3, 5, 6, 7], [0, 1, 2, 3], [0, 1, 2, 3], [0, 1, 2, 3, 9, 10], [0, 1, 2, 3, 9, 10, 11], [0, 1, 2, 3, 4, 5, 6, 7, 8, 9, 10, 11, 12], [0, 1, 2, 3, 4, 5, 6, 7, 8, 9, 10, 11, 12, 13], [0, 1, 2, 3, 4, 5, 6, 7, 8, 9, 10, 11, 12, 13, 14]]) (tk := [0, 1, 4, 12, 13, 120]) (sk := [5000]) (s' := ⟨[(0, .c (oC 5000 3 a29.2.2)), (1, cD (i6 p1)), (4, cD (.fn 20 [])), (12, cD (i6 a39)), (13, cD (i6 a29.2.1)), (120, cD (.bool false))], [(5000, vL 3 encTime a29.2.2)]⟩) (by kernel_rfl) (by kernel_rfl) (by kernel_rfl) ⟨?_, ?_, ?_, ?_, ?_, ?_, ?_, ?_, ?_, ?_, ?_, ?_, ?_, ?_, ?_, ?_, trivial⟩ (by kernel_rfl) ?_
           · exact DOk.t rfl rfl (by kernel_rfl) (by kernel_rfl) (by kernel_rfl) (by kernel_rfl)
           · exact DOk.t rfl rfl (by kernel_rfl) (by kernel_rfl) (by kernel_rfl) (by kernel_rfl)
           · exact DOk.t rfl rfl (by kernel_rfl) (by kernel_rfl) (by kernel_rfl) (by kernel_rfl)
           · exact DOk.stepP (fun b => .val (.c (.d (.bool b))) (True)) (p := (decide (a39 ≤ a29.2.1))) hp61 (fun r => by kernel_rfl) (fun r => by kernel_rfl) trivial (by kernel_rfl) (by kernel_rfl) (fun r => rfl)
           · exact DOk.skip (fun r => by kernel_rfl) rfl rfl (fun r => rfl)
           · exact DOk.skip (fun r => by kernel_rfl) rfl rfl (fun r => rfl)
           · exact DOk.skip (fun r => by kernel_rfl) rfl rfl (fun r => rfl)
           · exact DOk.skip (fun r => by kernel_rfl) rfl rfl (fun r => rfl)
           · exact DOk.skip (fun r => by kernel_rfl) rfl rfl (fun r => rfl)
           · exact DOk.skip (fun r => by kernel_rfl) rfl rfl (fun r => rfl)
           · exact DOk.skip (fun r => by kernel_rfl) rfl rfl (fun r => rfl)
           · exact DOk.skip (fun r => by kernel_rfl) rfl rfl (fun r => rfl)
           · exact DOk.skip (fun r => by kernel_rfl) rfl rfl (fun r => rfl)
           · exact DOk.skip (fun r => by kernel_rfl) rfl rfl (fun r => rfl)
           · exact DOk.skip (fun r => by kernel_rfl) rfl rfl (fun r => rfl)
           · exact DOk.t rfl rfl (by kernel_rfl) (by kernel_rfl) (by kernel_rfl) (by kernel_rfl)
           exact ⟨_, h, rfl⟩
        ·intro a40 h
         show Tri _ _ _ _
         refine Tri.seqS ?_
         refine Tri.keep [0, 1, 4, 12, 13] [5000] (s' := ⟨[(0, .c (oC 5000 3 a29.2.2)), (1, cD (i6 p1)), (4, cD (.fn 20 [])), (12, cD (i6 a40)), (13, cD (i6 a29.2.1))], [(5000, vL 3 encTime a29.2.2)]⟩) (by kernel_rfl) ?_
         refine Tri.loopK (fuel := fuel) (st0 := a29.2.1) (fun (x : Empty) s => False) (fun (a41 : Int) => ⟨[(0, .c (oC 5000 3 a29.2.2)), (1, cD (i6 p1)), (4, cD (.fn 20 [])), (12, cD (i6 a40)), (13, cD (i6 a41))], [(5000, vL 3 encTime a29.2.2)]⟩) (fun (a41 : Int) => ⟨[(0, .c (oC 5000 3 a29.2.2)), (1, cD (i6 p1)), (4, cD (.fn 20 [])), (12, cD (i6 a40)), (13, cD (i6 a41))], [(5000, vL 3 encTime a29.2.2)]⟩) h ?_ ?_ ?_
         ·intro a41 c h
          show Tri _ _ ⟨[(0, .c (oC 5000 3 a29.2.2)), (1, cD (i6 p1)), (4, cD (.fn 20 [])), (12, cD (i6 a40)), (13, cD (i6 a41))], [(5000, vL 3 encTime a29.2.2)]⟩ _
          refine Tri.seqS ?_
          refine Tri.seqJ (fun (a51 : Bool) => ⟨[(0, .c (oC 5000 3 a29.2.2)), (1, cD (i6 p1)), (4, cD (.fn 20 [])), (12, cD (i6 a40)), (13, cD (i6 a41)), (139, cD (.bool a51))], [(5000, vL 3 encTime a29.2.2)]⟩) h (fun a51 h => ?_) (fun j52 h => ?_)
          ·show Tri _ _ ⟨[(0, .c (oC 5000 3 a29.2.2)), (1, cD (i6 p1)), (4, cD (.fn 20 [])), (12, cD (i6 a40)), (13, cD (i6 a41)), (139, cD (.bool a51))], [(5000, vL 3 encTime a29.2.2)]⟩ _
           refine Tri.condP (b := a51) rfl h (fun h => ?_) (fun h => ?_)
           ·refine Tri.skip ?_
            show Tri _ _ _ _
            refine Tri.blockB ?_
            refine Tri.reg ?_
            refine At.seg 3 [0, 1, 4, 12, 13] [5000] (s' := ⟨[(0, .c (oC 5000 3 a29.2.2)), (1, cD (i6 p1)), (4, cD (.fn 20 [])), (12, cD (i6 a40)), (13, cD (i6 (IntKind.i64.wrap (a41 - 1))))], [(5000, vL 3 encTime a29.2.2)]⟩) (c := True ∧ True ∧ True ∧ True) (by kernel_rfl) ⟨trivial, trivial, trivial, trivial⟩ ?_
            refine At.done rfl ?_
            cases h
            exact rfl
           ·refine Tri.keep [0, 1, 4, 12, 13] [5000] (s' := ⟨[(0, .c (oC 5000 3 a29.2.2)), (1, cD (i6 p1)), (4, cD (.fn 20 [])), (12, cD (i6 a40)), (13, cD (i6 a41))], [(5000, vL 3 encTime a29.2.2)]⟩) (by kernel_rfl) ?_
            refine Tri.exit ?_
            cases h
            exact ⟨rfl, rfl⟩
          ·rcases bf_cases h with ⟨hp53, h⟩ | ⟨hp53, h⟩
           ·obtain ⟨hc54, h⟩ := need_elim h
            obtain ⟨hc55, h⟩ := need_elim h
            obtain ⟨hc56, h⟩ := need_elim h
            obtain ⟨hc57, h⟩ := need_elim h
            obtain ⟨r58, hr58, h⟩ := bind_elim h
            refine Tri.drawn (specs := [⟨⟨[(12, cD (i6 a40))], []⟩, ⟨[(123, cD (i6 a40))], []⟩, [], [], []⟩, ⟨⟨[(13, cD (i6 a41))], []⟩, ⟨[(124, cD (i6 a41))], []⟩, [], [], []⟩, ⟨⟨[(123, cD (i6 a40)), (124, cD (i6 a41))], []⟩, ⟨[(125, cD (.bool (decide (a40 ≤ a41))))], []⟩, [], [], []⟩, ⟨⟨[(125, cD (.bool (decide (a40 ≤ a41))))], []⟩, ⟨[(126, .c (.d (.bool true)))], []⟩, [], [], []⟩, ⟨⟨[(4, cD (.fn 20 [])), (126, cD (.bool true))], []⟩, ⟨[(127, cD (.fn 20 []))], []⟩, [], [], []⟩, ⟨⟨[(0, .c (oC 5000 3 a29.2.2)), (126, cD (.bool true))], []⟩, ⟨[(128, .c (oC 5000 3 a29.2.2))], []⟩, [], [], []⟩, ⟨⟨[(13, cD (i6 a41)), (126, cD (.bool true))], []⟩, ⟨[(129, cD (i6 a41))], []⟩, [], [], []⟩, ⟨⟨[(126, cD (.bool true)), (128, .c (oC 5000 3 a29.2.2)), (129, cD (i6 a41))], [(5000, vL 3 encTime a29.2.2)]⟩, ⟨[(130, .c (.vptr 5000 3 (0 + a41.toNat) 0))], []⟩, [], [], []⟩, ⟨⟨[(126, cD (.bool true)), (130, .c (.vptr 5000 3 (0 + a41.toNat) 0))], [(5000, vL 3 encTime a29.2.2)]⟩, ⟨[(131, .agg (cTime (a29.2.2.getD (0 + a41.toNat) default)))], []⟩, [], [], []⟩, ⟨⟨[(0, .c (oC 5000 3 a29.2.2)), (126, cD (.bool true))], []⟩, ⟨[(132, .c (oC 5000 3 a29.2.2))], []⟩, [], [], []⟩, ⟨⟨[(1, cD (i6 p1)), (126, cD (.bool true))], []⟩, ⟨[(133, cD (i6 p1))], []⟩, [], [], []⟩, ⟨⟨[(126, cD (.bool true)), (132, .c (oC 5000 3 a29.2.2)), (133, cD (i6 p1))], [(5000, vL 3 encTime a29.2.2)]⟩, ⟨[(134, .c (.vptr 5000 3 (0 + p1.toNat) 0))], []⟩, [], [], []⟩, ⟨⟨[(126, cD (.bool true)), (134, .c (.vptr 5000 3 (0 + p1.toNat) 0))], [(5000, vL 3 encTime a29.2.2)]⟩, ⟨[(135, .agg (cTime (a29.2.2.getD (0 + p1.toNat) default)))], []⟩, [], [], []⟩, ⟨⟨[(126, cD (.bool true)), (127, cD (.fn 20 [])), (131, .agg (cTime (a29.2.2.getD (0 + a41.toNat) default))), (135, .agg (cTime (a29.2.2.getD (0 + p1.toNat) default)))], []⟩, ⟨[(136, cD (i6 r58))], []⟩, [], [], []⟩, ⟨⟨[(126, cD (.bool true)), (136, cD (i6 r58))], []⟩, ⟨[(137, cD (.bool (decide (r58 < 0))))], []⟩, [], [], []⟩, ⟨⟨[(126, cD (.bool true)), (137, cD (.bool (decide (r58 < 0))))], []⟩, ⟨[(138, cD (.bool (!(decide (r58 < 0)))))], []⟩, [], [], []⟩, ⟨⟨[(126, cD (.bool true)), (138, cD (.bool (!(decide (r58 < 0)))))], []⟩, ⟨[(139, cD (.bool (!(decide (r58 < 0)))))], []⟩, [], [], []⟩]) (bef := [[], [], [0, 1], [0, 1, 2], [0, 1, 2, 3], [0, 1, 2, 3], [0, 1, 2, 3], [0, 1, 2, 3, 5, 6], [0, 1, 2, 3, 5, 6, 7], [0, 1, 2, 3], [0, 1, 2, 3], [0, 1, 2, 3, 9, 10], [0, 1, 2, 3, 9, 10, 11], [0, 1, 2, 3, 4, 5, 6, 7, 8, 9, 10, 11, 12], [0, 1, 2, 3, 4, 5, 6, 7, 8, 9, 10, 11, 12, 13], [0, 1, 2, 3, 4, 5, 6, 7, 8, 9, 10, 11, 12, 13, 14], [0, 1, 2, 3, 4, 5, 6, 7, 8, 9, 10, 11, 12, 13, 14, 15]]) (tk := [0, 1, 4, 12, 13, 139]) (sk := [5000]) (s' := ⟨[(0, .c (oC 5000 3 a29.2.2)), (1, cD (i6 p1)), (4, cD (.fn 20 [])), (12, cD (i6 a40)), (13, cD (i6 a41)), (139, cD (.bool (!(decide (r58 < 0)))))], [(5000, vL 3 encTime a29.2.2)]⟩) (by kernel_rfl) (by kernel_rfl) (by kernel_rfl) ⟨?_, ?_, ?_, ?_, ?_, ?_, ?_, ?_, ?_, ?_, ?_, ?_, ?_, ?_, ?_, ?_, ?_, trivial⟩ (by kernel_rfl) ?_
            · exact DOk.t rfl rfl (by kernel_rfl) (by kernel_rfl) (by kernel_rfl) (by kernel_rfl)
            · exact DOk.t rfl rfl (by kernel_rfl) (by kernel_rfl) (by kernel_rfl) (by kernel_rfl)
            · exact DOk.t rfl rfl (by kernel_rfl) (by kernel_rfl) (by kernel_rfl) (by kernel_rfl)
            · exact DOk.stepP (fun b => .val (.c (.d (.bool b))) (True)) (p := (decide (a40 ≤ a41))) hp53 (fun r => by kernel_rfl) (fun r => by kernel_rfl) trivial (by kernel_rfl) (by kernel_rfl) (fun r => rfl)
            · exact DOk.t rfl rfl (by kernel_rfl) (by kernel_rfl) (by kernel_rfl) (by kernel_rfl)
            · exact DOk.t rfl rfl (by kernel_rfl) (by kernel_rfl) (by kernel_rfl) (by kernel_rfl)
            · exact DOk.t rfl rfl (by kernel_rfl) (by kernel_rfl) (by kernel_rfl) (by kernel_rfl)
            · exact DOk.step (.val (.c (.vptr 5000 3 (0 + a41.toNat) 0)) ((0 : Int) ≤ a41 ∧ a41 < (a29.2.2.length : Int))) (fun r => by kernel_rfl) (fun r => by kernel_rfl) hc54 (by kernel_rfl) (by kernel_rfl) (fun r => rfl)
            · exact DOk.step (.val (.agg (cTime (a29.2.2.getD (0 + a41.toNat) default))) ((0 + a41.toNat) < a29.2.2.length)) (fun r => by kernel_rfl) (fun r => by kernel_rfl) hc55 (by kernel_rfl) (by kernel_rfl) (fun r => rfl)
            · exact DOk.t rfl rfl (by kernel_rfl) (by kernel_rfl) (by kernel_rfl) (by kernel_rfl)
            · exact DOk.t rfl rfl (by kernel_rfl) (by kernel_rfl) (by kernel_rfl) (by kernel_rfl)
            · exact DOk.step (.val (.c (.vptr 5000 3 (0 + p1.toNat) 0)) ((0 : Int) ≤ p1 ∧ p1 < (a29.2.2.length : Int))) (fun r => by kernel_rfl) (fun r => by kernel_rfl) hc56 (by kernel_rfl) (by kernel_rfl) (fun r => rfl)
            · exact DOk.step (.val (.agg (cTime (a29.2.2.getD (0 + p1.toNat) default))) ((0 + p1.toNat) < a29.2.2.length)) (fun r => by kernel_rfl) (fun r => by kernel_rfl) hc57 (by kernel_rfl) (by kernel_rfl) (fun r => rfl)
            · exact DOk.callA (caps := []) (xs := [.agg (cTime (a29.2.2.getD (0 + a41.toNat) default)), .agg (cTime (a29.2.2.getD (0 + p1.toNat) default))]) (moment_Compare_ok hr58) rfl (fun r => by kernel_rfl) rfl (fun r => by kernel_rfl) (fun r => by kernel_rfl) (fun r => (.cons (.refl _) (.cons (.refl _) .nil))) rfl rfl (fun r => rfl)
            · exact DOk.t rfl rfl (by kernel_rfl) (by kernel_rfl) (by kernel_rfl) (by kernel_rfl)
            · exact DOk.t rfl rfl (by kernel_rfl) (by kernel_rfl) (by kernel_rfl) (by kernel_rfl)
            · exact DOk.t rfl rfl (by kernel_rfl) (by kernel_rfl) (by kernel_rfl) (by kernel_rfl)
            exact ⟨_, h, rfl⟩
           ·refine Tri.drawn (specs := [⟨⟨[(12, cD (i6 a40))], []⟩, ⟨[(123, cD (i6 a40))], []⟩, [], [], []⟩, ⟨⟨[(13, cD (i6 a41))], []⟩, ⟨[(124, cD (i6 a41))], []⟩, [], [], []⟩, ⟨⟨[(123, cD (i6 a40)), (124, cD (i6 a41))], []⟩, ⟨[(125, cD (.bool (decide (a40 ≤ a41))))], []⟩, [], [], []⟩, ⟨⟨[(125, cD (.bool (decide (a40 ≤ a41))))], []⟩, ⟨[(126, .c (.d (.bool false)))], []⟩, [], [], []⟩, ⟨⟨[(4, cD (.fn 20 [])), (126, cD (.bool false))], []⟩, ⟨[(127, .tup [])], []⟩, [], [], []⟩, ⟨⟨[(0, .c (oC 5000 3 a29.2.2)), (126, cD (.bool false))], []⟩, ⟨[(128, .tup [])], []⟩, [], [], []⟩, ⟨⟨[(13, cD (i6 a41)), (126, cD (.bool false))], []⟩, ⟨[(129, .tup [])], []⟩, [], [], []⟩, ⟨⟨[(126, cD (.bool false)), (128, .tup []), (129, .tup [])], []⟩, ⟨[(130, .tup [])], []⟩, [], [], []⟩, ⟨⟨[(126, cD (.bool false)), (130, .tup [])], []⟩, ⟨[(131, .tup [])], []⟩, [], [], []⟩, ⟨⟨[(0, .c (oC 5000 3 a29.2.2)), (126, cD (.bool false))], []⟩, ⟨[(132, .tup [])], []⟩, [], [], []⟩, ⟨⟨[(1, cD (i6 p1)), (126, cD (.bool false))], []⟩, ⟨[(133, .tup [])], []⟩, [], [], []⟩, ⟨⟨[(126, cD (.bool false)), (132, .tup []), (133, .tup [])], []⟩, ⟨[(134, .tup [])], []⟩, [], [], []⟩, ⟨⟨[(126, cD (.bool false)), (134, .tup [])], []⟩, ⟨[(135, .tup [])], []⟩, [], [], []⟩, ⟨⟨[(126, cD (.bool false)), (127, .tup []), (131, .tup []), (135, .tup [])], []⟩, ⟨[(136, .tup [])], []⟩, [], [], []⟩, ⟨⟨[(126, cD (.bool false)), (136, .tup [])], []⟩, ⟨[(137, .tup [])], []⟩, [], [], []⟩, ⟨⟨[(126, cD (.bool false)), (137, .tup [])], []⟩, ⟨[(138, .tup [])], []⟩, [], [], []⟩, ⟨⟨[(126, cD (.bool false)), (138, .tup [])], []⟩, ⟨[(139, cD (.bool false))], []⟩, [], [], []⟩]) (bef := [[], [], [0, 1], [0, 1, 2], [0, 1, 2, 3], [0, 1, 2, 3], [0, 1, 2, 3], [0, 1, 2, 3, 5, 6], [0, 1, 2, 3, 5, 6, 7], [0, 1, 2, 3], [0, 1, 2, 3], [0, 1, 2, 3, 9, 10], [0, 1, 2, 3, 9, 10, 11], [0, 1, 2, 3, 4, 5, 6, 7, 8, 9, 10, 11, 12], [0, 1, 2, 3, 4, 5, 6, 7, 8, 9, 10, 11, 12, 13], [0, 1, 2, 3, 4, 5, 6, 7, 8, 9, 10, 11, 12, 13, 14], [0, 1, 2, 3, 4, 5, 6, 7, 8, 9, 10, 11, 12, 13, 14, 15]]) (tk := [0, 1, 4, 12, 13, 139]) (sk := [5000]) (s' := ⟨[(0, .c (oC 5000 3 a29.2.2)), (1, cD (i6 p1)), (4, cD (.fn 20 [])), (12, cD (i6 a40)), (13, cD (i6 a41)), (139, cD (.bool false))], [(5000, vL 3 encTime a29.2.2)]⟩) (by kernel_rfl) (by kernel_rfl) (by kernel_rfl) ⟨?_, ?_, ?_, ?_, ?_, ?_, ?_, ?_, ?_, ?_, ?_, ?_, ?_, ?_, ?_, ?_, ?_, trivial⟩ (by kernel_rfl) ?_
            · exact DOk.t rfl rfl (by kernel_rfl) (by kernel_rfl) (by kernel_rfl) (by kernel_rfl)
            · exact DOk.t rfl rfl (by kernel_rfl) (by kernel_rfl) (by kernel_rfl) (by kernel_rfl)
            · exact DOk.t rfl rfl (by kernel_rfl) (by kernel_rfl) (by kernel_rfl) (by kernel_rfl)
            · exact DOk.stepP (fun b => .val (.c (.d (.bool b))) (True)) (p := (decide (a40 ≤ a41))) hp53 (fun r => by kernel_rfl) (fun r => by kernel_rfl) trivial (by kernel_rfl) (by kernel_rfl) (fun r => rfl)
            · exact DOk.skip (fun r => by kernel_rfl) rfl rfl (fun r => rfl)
            · exact DOk.skip (fun r => by kernel_rfl) rfl rfl (fun r => rfl)
            · exact DOk.skip (fun r => by kernel_rfl) rfl rfl (fun r => rfl)
            · exact DOk.skip (fun r => by kernel_rfl) rfl rfl (fun r => rfl)
            · exact DOk.skip (fun r => by kernel_rfl) rfl rfl (fun r => rfl)
            · exact DOk.skip (fun r => by kernel_rfl) rfl rfl (fun r => rfl)
            · exact DOk.skip (fun r => by kernel_rfl) rfl rfl (fun r => rfl)
            · exact DOk.skip (fun r => by kernel_rfl) rfl rfl (fun r => rfl)
            · exact DOk.skip (fun r => by kernel_rfl) rfl rfl (fun r => rfl)
            · exact DOk.skip (fun r => by kernel_rfl) rfl rfl (fun r => rfl)
            · exact DOk.skip (fun r => by kernel_rfl) rfl rfl (fun r => rfl)
            · exact DOk.skip (fun r => by kernel_rfl) rfl rfl (fun r => rfl)
            · exact DOk.t rfl rfl (by kernel_rfl) (by kernel_rfl) (by kernel_rfl) (by kernel_rfl)
            exact ⟨_, h, rfl⟩
         ·intro a42 h
          show Tri _ _ _ _
          refine Tri.seqS ?_
          refine Tri.seqS ?_
          refine Tri.reg ?_
          refine At.seg 3 [0, 1, 4, 12, 13, 144] [5000] (s' := ⟨[(0, .c (oC 5000 3 a29.2.2)), (1, cD (i6 p1)), (4, cD (.fn 20 [])), (12, cD (i6 a40)), (13, cD (i6 a42)), (144, cD (.bool (decide (a42 < a40))))], [(5000, vL 3 encTime a29.2.2)]⟩) (c := True ∧ True ∧ True ∧ True) (by kernel_rfl) ⟨trivial, trivial, trivial, trivial⟩ ?_
          refine At.done rfl ?_
          show Tri _ _ _ _
          refine Tri.condP (b := (decide (a42 < a40))) rfl h (fun h => ?_) (fun h => ?_)
          ·refine Tri.keep [0, 1, 4, 12, 13] [5000] (s' := ⟨[(0, .c (oC 5000 3 a29.2.2)), (1, cD (i6 p1)), (4, cD (.fn 20 [])), (12, cD (i6 a40)), (13, cD (i6 a42))], [(5000, vL 3 encTime a29.2.2)]⟩) (by kernel_rfl) ?_
           refine Tri.exit ?_
           cases h
           exact ⟨rfl, rfl⟩
          ·refine Tri.skip ?_
           show Tri _ _ _ _
           refine Tri.seqS ?_
           obtain ⟨hc43, h⟩ := need_elim h
           obtain ⟨hc44, h⟩ := need_elim h
           obtain ⟨hc45, h⟩ := need_elim h
           obtain ⟨hc46, h⟩ := need_elim h
           obtain ⟨hc47, h⟩ := need_elim h
           obtain ⟨hc48, h⟩ := need_elim h
           obtain ⟨hc49, h⟩ := need_elim h
           obtain ⟨hc50, h⟩ := need_elim h
           refine Tri.afterA ⟨[(0, .c (oC 5000 3 a29.2.2)), (1, cD (i6 p1)), (4, cD (.fn 20 [])), (12, cD (i6 a40)), (13, cD (i6 a42))], [(5000, vL 3 encTime ((a29.2.2.set (0 + a40.toNat) (a29.2.2.getD (0 + a42.toNat) default)).set (0 + a42.toNat) (a29.2.2.getD (0 + a40.toNat) default)))]⟩ ?_ ?_
           ·refine Tri.drawn (specs := [⟨⟨[(0, .c (oC 5000 3 a29.2.2))], []⟩, ⟨[(145, .c (oC 5000 3 a29.2.2))], []⟩, [], [], []⟩, ⟨⟨[(12, cD (i6 a40))], []⟩, ⟨[(146, cD (i6 a40))], []⟩, [], [], []⟩, ⟨⟨[(0, .c (oC 5000 3 a29.2.2))], []⟩, ⟨[(147, .c (oC 5000 3 a29.2.2))], []⟩, [], [], []⟩, ⟨⟨[(13, cD (i6 a42))], []⟩, ⟨[(148, cD (i6 a42))], []⟩, [], [], []⟩, ⟨⟨[(0, .c (oC 5000 3 a29.2.2))], []⟩, ⟨[(149, .c (oC 5000 3 a29.2.2))], []⟩, [], [], []⟩, ⟨⟨[(13, cD (i6 a42))], []⟩, ⟨[(150, cD (i6 a42))], []⟩, [], [], []⟩, ⟨⟨[(149, .c (oC 5000 3 a29.2.2)), (150, cD (i6 a42))], [(5000, vL 3 encTime a29.2.2)]⟩, ⟨[(151, .c (.vptr 5000 3 (0 + a42.toNat) 0))], []⟩, [], [], []⟩, ⟨⟨[(151, .c (.vptr 5000 3 (0 + a42.toNat) 0))], [(5000, vL 3 encTime a29.2.2)]⟩, ⟨[(152, .agg (cTime (a29.2.2.getD (0 + a42.toNat) default)))], []⟩, [], [], []⟩, ⟨⟨[(0, .c (oC 5000 3 a29.2.2))], []⟩, ⟨[(153, .c (oC 5000 3 a29.2.2))], []⟩, [], [], []⟩, ⟨⟨[(12, cD (i6 a40))], []⟩, ⟨[(154, cD (i6 a40))], []⟩, [], [], []⟩, ⟨⟨[(153, .c (oC 5000 3 a29.2.2)), (154, cD (i6 a40))], [(5000, vL 3 encTime a29.2.2)]⟩, ⟨[(155, .c (.vptr 5000 3 (0 + a40.toNat) 0))], []⟩, [], [], []⟩, ⟨⟨[(155, .c (.vptr 5000 3 (0 + a40.toNat) 0))], [(5000, vL 3 encTime a29.2.2)]⟩, ⟨[(156, .agg (cTime (a29.2.2.getD (0 + a40.toNat) default)))], []⟩, [], [], []⟩, ⟨⟨[(145, .c (oC 5000 3 a29.2.2)), (146, cD (i6 a40))], [(5000, vL 3 encTime a29.2.2)]⟩, ⟨[(157, .c (.vptr 5000 3 (0 + a40.toNat) 0))], []⟩, [], [], []⟩, ⟨⟨[(152, .agg (cTime (a29.2.2.getD (0 + a42.toNat) default))), (157, .c (.vptr 5000 3 (0 + a40.toNat) 0))], [(5000, vL 3 encTime a29.2.2)]⟩, ⟨[], [(5000, vL 3 encTime (a29.2.2.set (0 + a40.toNat) (a29.2.2.getD (0 + a42.toNat) default)))]⟩, [], [], []⟩, ⟨⟨[(147, .c (oC 5000 3 a29.2.2)), (148, cD (i6 a42))], [(5000, vL 3 encTime (a29.2.2.set (0 + a40.toNat) (a29.2.2.getD (0 + a42.toNat) default)))]⟩, ⟨[(158, .c (.vptr 5000 3 (0 + a42.toNat) 0))], []⟩, [], [], []⟩, ⟨⟨[(156, .agg (cTime (a29.2.2.getD (0 + a40.toNat) default))), (158, .c (.vptr 5000 3 (0 + a42.toNat) 0))], [(5000, vL 3 encTime (a29.2.2.set (0 + a40.toNat) (a29.2.2.getD (0 + a42.toNat) default)))]⟩, ⟨[], [(5000, vL 3 encTime ((a29.2.2.set (0 + a40.toNat) (a29.2.2.getD (0 + a42.toNat) default)).set (0 + a42.toNat) (a29.2.2.getD (0 + a40.toNat) default)))]⟩, [], [], []⟩]) (bef := [[], [], [], [], [], [], [4, 5], [4, 5, 6], [], [], [8, 9], [8, 9, 10], [0, 1, 4, 5, 6, 7, 8, 9, 10, 11], [0, 1, 4, 5, 6, 7, 8, 9, 10, 11, 12], [0, 1, 2, 3, 4, 5, 6, 7, 8, 9, 10, 11, 12, 13], [0, 1, 2, 3, 4, 5, 6, 7, 8, 9, 10, 11, 12, 13, 14]]) (tk := [0, 1, 4, 12, 13]) (sk := [5000]) (s' := ⟨[(0, .c (oC 5000 3 a29.2.2)), (1, cD (i6 p1)), (4, cD (.fn 20 [])), (12, cD (i6 a40)), (13, cD (i6 a42))], [(5000, vL 3 encTime ((a29.2.2.set (0 + a40.toNat) (a29.2.2.getD (0 + a42.toNat) default)).set (0 + a42.toNat) (a29.2.2.getD (0 + a40.toNat) default)))]⟩) (by kernel_rfl) (by kernel_rfl) (by kernel_rfl) ⟨?_, ?_, ?_, ?_, ?_, ?_, ?_, ?_, ?_, ?_, ?_, ?_, ?_, ?_, ?_, ?_, trivial⟩ (by kernel_rfl) ?_
            · exact DOk.t rfl rfl (by kernel_rfl) (by kernel_rfl) (by kernel_rfl) (by kernel_rfl)
            · exact DOk.t rfl rfl (by kernel_rfl) (by kernel_rfl) (by kernel_rfl) (by kernel_rfl)
            · exact DOk.t rfl rfl (by kernel_rfl) (by kernel_rfl) (by kernel_rfl) (by kernel_rfl)
            · exact DOk.t rfl rfl (by kernel_rfl) (by kernel_rfl) (by kernel_rfl) (by kernel_rfl)
            · exact DOk.t rfl rfl (by kernel_rfl) (by kernel_rfl) (by kernel_rfl) (by kernel_rfl)
            · exact DOk.t rfl rfl (by kernel_rfl) (by kernel_rfl) (by kernel_rfl) (by kernel_rfl)
            · exact DOk.step (.val (.c (.vptr 5000 3 (0 + a42.toNat) 0)) ((0 : Int) ≤ a42 ∧ a42 < (a29.2.2.length : Int))) (fun r => by kernel_rfl) (fun r => by kernel_rfl) hc43 (by kernel_rfl) (by kernel_rfl) (fun r => rfl)
            · exact DOk.step (.val (.agg (cTime (a29.2.2.getD (0 + a42.toNat) default))) ((0 + a42.toNat) < a29.2.2.length)) (fun r => by kernel_rfl) (fun r => by kernel_rfl) hc44 (by kernel_rfl) (by kernel_rfl) (fun r => rfl)
            · exact DOk.t rfl rfl (by kernel_rfl) (by kernel_rfl) (by kernel_rfl) (by kernel_rfl)
            · exact DOk.t rfl rfl (by kernel_rfl) (by kernel_rfl) (by kernel_rfl) (by kernel_rfl)
            · exact DOk.step (.val (.c (.vptr 5000 3 (0 + a40.toNat) 0)) ((0 : Int) ≤ a40 ∧ a40 < (a29.2.2.length : Int))) (fun r => by kernel_rfl) (fun r => by kernel_rfl) hc45 (by kernel_rfl) (by kernel_rfl) (fun r => rfl)
            · exact DOk.step (.val (.agg (cTime (a29.2.2.getD (0 + a40.toNat) default))) ((0 + a40.toNat) < a29.2.2.length)) (fun r => by kernel_rfl) (fun r => by kernel_rfl) hc46 (by kernel_rfl) (by kernel_rfl) (fun r => rfl)
            · exact DOk.step (.val (.c (.vptr 5000 3 (0 + a40.toNat) 0)) ((0 : Int) ≤ a40 ∧ a40 < (a29.2.2.length : Int))) (fun r => by kernel_rfl) (fun r => by kernel_rfl) hc47 (by kernel_rfl) (by kernel_rfl) (fun r => rfl)
            · exact DOk.one fun r hr => One.storeT (xs := [.d (u6 ((a29.2.2.getD (0 + a42.toNat) default).epoch)), .d (u6 ((a29.2.2.getD (0 + a42.toNat) default).loop.1)), .d (u6 ((a29.2.2.getD (0 + a42.toNat) default).loop.2))]) (ds := [u6 ((a29.2.2.getD (0 + a42.toNat) default).epoch), u6 ((a29.2.2.getD (0 + a42.toNat) default).loop.1), u6 ((a29.2.2.getD (0 + a42.toNat) default).loop.2)]) (encTime) a29.2.2 (a29.2.2.getD (0 + a42.toNat) default) rfl (by kernel_rfl) rfl rfl rfl hc48 rfl rfl (.refl _) rfl rfl rfl rfl
            · exact DOk.step (.val (.c (.vptr 5000 3 (0 + a42.toNat) 0)) ((0 : Int) ≤ a42 ∧ a42 < (a29.2.2.length : Int))) (fun r => by kernel_rfl) (fun r => by kernel_rfl) hc49 (by kernel_rfl) (by kernel_rfl) (fun r => rfl)
            · exact DOk.one fun r hr => One.storeT (xs := [.d (u6 ((a29.2.2.getD (0 + a40.toNat) default).epoch)), .d (u6 ((a29.2.2.getD (0 + a40.toNat) default).loop.1)), .d (u6 ((a29.2.2.getD (0 + a40.toNat) default).loop.2))]) (ds := [u6 ((a29.2.2.getD (0 + a40.toNat) default).epoch), u6 ((a29.2.2.getD (0 + a40.toNat) default).loop.1), u6 ((a29.2.2.getD (0 + a40.toNat) default).loop.2)]) (encTime) (a29.2.2.set (0 + a40.toNat) (a29.2.2.getD (0 + a42.toNat) default)) (a29.2.2.getD (0 + a40.toNat) default) rfl (by kernel_rfl) rfl rfl rfl hc50 rfl rfl (.refl _) rfl rfl rfl rfl
            exact ⟨rfl, rfl⟩
           ·refine At.eqS (s' := ⟨[(0, .c (oC 5000 3 ((a29.2.2.set (0 + a40.toNat) (a29.2.2.getD (0 + a42.toNat) default)).set (0 + a42.toNat) (a29.2.2.getD (0 + a40.toNat) default)))), (1, cD (i6 p1)), (4, cD (.fn 20 [])), (12, cD (i6 a40)), (13, cD (i6 a42))], [(5000, vL 3 encTime ((a29.2.2.set (0 + a40.toNat) (a29.2.2.getD (0 + a42.toNat) default)).set (0 + a42.toNat) (a29.2.2.getD (0 + a40.toNat) default)))]⟩) (by simp only [oC, vL, List.length_set]) ?_
            refine At.done rfl ?_
            show Tri _ _ _ _
            refine Tri.seqS ?_
            refine Tri.reg ?_
            refine At.seg 3 [0, 1, 4, 12, 13] [5000] (s' := ⟨[(0, .c (oC 5000 3 ((a29.2.2.set (0 + a40.toNat) (a29.2.2.getD (0 + a42.toNat) default)).set (0 + a42.toNat) (a29.2.2.getD (0 + a40.toNat) default)))), (1, cD (i6 p1)), (4, cD (.fn 20 [])), (12, cD (i6 (IntKind.i64.wrap (a40 + 1)))), (13, cD (i6 a42))], [(5000, vL 3 encTime ((a29.2.2.set (0 + a40.toNat) (a29.2.2.getD (0 + a42.toNat) default)).set (0 + a42.toNat) (a29.2.2.getD (0 + a40.toNat) default)))]⟩) (c := True ∧ True ∧ True ∧ True) (by kernel_rfl) ⟨trivial, trivial, trivial, trivial⟩ ?_
            refine At.done rfl ?_
            show Tri _ _ _ _
            refine Tri.reg ?_
            refine At.seg 3 [0, 1, 4, 12, 13] [5000] (s' := ⟨[(0, .c (oC 5000 3 ((a29.2.2.set (0 + a40.toNat) (a29.2.2.getD (0 + a42.toNat) default)).set (0 + a42.toNat) (a29.2.2.getD (0 + a40.toNat) default)))), (1, cD (i6 p1)), (4, cD (.fn 20 [])), (12, cD (i6 (IntKind.i64.wrap (a40 + 1)))), (13, cD (i6 (IntKind.i64.wrap (a42 - 1))))], [(5000, vL 3 encTime ((a29.2.2.set (0 + a40.toNat) (a29.2.2.getD (0 + a42.toNat) default)).set (0 + a42.toNat) (a29.2.2.getD (0 + a40.toNat) default)))]⟩) (c := True ∧ True ∧ True ∧ True) (by kernel_rfl) ⟨trivial, trivial, trivial, trivial⟩ ?_
            refine At.done rfl ?_
            cases h
            exact rfl
         · exact fun x => x.elim
        · exact fun x => x.elim
       ·intro a30 h
        show Tri _ _ _ _
        refine Tri.seqS ?_
        obtain ⟨hc31, h⟩ := need_elim h
        obtain ⟨hc32, h⟩ := need_elim h
        obtain ⟨hc33, h⟩ := need_elim h
        obtain ⟨hc34, h⟩ := need_elim h
        obtain ⟨hc35, h⟩ := need_elim h
        obtain ⟨hc36, h⟩ := need_elim h
        obtain ⟨hc37, h⟩ := need_elim h
        obtain ⟨hc38, h⟩ := need_elim h
        refine Tri.drawn (specs := [⟨⟨[(0, .c (oC 5000 3 a30.2.2))], []⟩, ⟨[(163, .c (oC 5000 3 a30.2.2))], []⟩, [], [], []⟩, ⟨⟨[(13, cD (i6 a30.2.1))], []⟩, ⟨[(164, cD (i6 a30.2.1))], []⟩, [], [], []⟩, ⟨⟨[(0, .c (oC 5000 3 a30.2.2))], []⟩, ⟨[(165, .c (oC 5000 3 a30.2.2))], []⟩, [], [], []⟩, ⟨⟨[(1, cD (i6 p1))], []⟩, ⟨[(166, cD (i6 p1))], []⟩, [], [], []⟩, ⟨⟨[(0, .c (oC 5000 3 a30.2.2))], []⟩, ⟨[(167, .c (oC 5000 3 a30.2.2))], []⟩, [], [], []⟩, ⟨⟨[(1, cD (i6 p1))], []⟩, ⟨[(168, cD (i6 p1))], []⟩, [], [], []⟩, ⟨⟨[(167, .c (oC 5000 3 a30.2.2)), (168, cD (i6 p1))], [(5000, vL 3 encTime a30.2.2)]⟩, ⟨[(169, .c (.vptr 5000 3 (0 + p1.toNat) 0))], []⟩, [], [], []⟩, ⟨⟨[(169, .c (.vptr 5000 3 (0 + p1.toNat) 0))], [(5000, vL 3 encTime a30.2.2)]⟩, ⟨[(170, .agg (cTime (a30.2.2.getD (0 + p1.toNat) default)))], []⟩, [], [], []⟩, ⟨⟨[(0, .c (oC 5000 3 a30.2.2))], []⟩, ⟨[(171, .c (oC 5000 3 a30.2.2))], []⟩, [], [], []⟩, ⟨⟨[(13, cD (i6 a30.2.1))], []⟩, ⟨[(172, cD (i6 a30.2.1))], []⟩, [], [], []⟩, ⟨⟨[(171, .c (oC 5000 3 a30.2.2)), (172, cD (i6 a30.2.1))], [(5000, vL 3 encTime a30.2.2)]⟩, ⟨[(173, .c (.vptr 5000 3 (0 + a30.2.1.toNat) 0))], []⟩, [], [], []⟩, ⟨⟨[(173, .c (.vptr 5000 3 (0 + a30.2.1.toNat) 0))], [(5000, vL 3 encTime a30.2.2)]⟩, ⟨[(174, .agg (cTime (a30.2.2.getD (0 + a30.2.1.toNat) default)))], []⟩, [], [], []⟩, ⟨⟨[(163, .c (oC 5000 3 a30.2.2)), (164, cD (i6 a30.2.1))], [(5000, vL 3 encTime a30.2.2)]⟩, ⟨[(175, .c (.vptr 5000 3 (0 + a30.2.1.toNat) 0))], []⟩, [], [], []⟩, ⟨⟨[(170, .agg (cTime (a30.2.2.getD (0 + p1.toNat) default))), (175, .c (.vptr 5000 3 (0 + a30.2.1.toNat) 0))], [(5000, vL 3 encTime a30.2.2)]⟩, ⟨[], [(5000, vL 3 encTime (a30.2.2.set (0 + a30.2.1.toNat) (a30.2.2.getD (0 + p1.toNat) default)))]⟩, [], [], []⟩, ⟨⟨[(165, .c (oC 5000 3 a30.2.2)), (166, cD (i6 p1))], [(5000, vL 3 encTime (a30.2.2.set (0 + a30.2.1.toNat) (a30.2.2.getD (0 + p1.toNat) default)))]⟩, ⟨[(176, .c (.vptr 5000 3 (0 + p1.toNat) 0))], []⟩, [], [], []⟩, ⟨⟨[(174, .agg (cTime (a30.2.2.getD (0 + a30.2.1.toNat) default))), (176, .c (.vptr 5000 3 (0 + p1.toNat) 0))], [(5000, vL 3 encTime (a30.2.2.set (0 + a30.2.1.toNat) (a30.2.2.getD (0 + p1.toNat) default)))]⟩, ⟨[], [(5000, vL 3 encTime ((a30.2.2.set (0 + a30.2.1.toNat) (a30.2.2.getD (0 + p1.toNat) default)).set (0 + p1.toNat) (a30.2.2.getD (0 + a30.2.1.toNat) default)))]⟩, [], [], []⟩]) (bef := [[], [], [], [], [], [], [4, 5], [4, 5, 6], [], [], [8, 9], [8, 9, 10], [0, 1, 4, 5, 6, 7, 8, 9, 10, 11], [0, 1, 4, 5, 6, 7, 8, 9, 10, 11, 12], [0, 1, 2, 3, 4, 5, 6, 7, 8, 9, 10, 11, 12, 13], [0, 1, 2, 3, 4, 5, 6, 7, 8, 9, 10, 11, 12, 13, 14]]) (tk := [13]) (sk := [5000]) (s' := ⟨[(13, cD (i6 a30.2.1))], [(5000, vL 3 encTime ((a30.2.2.set (0 + a30.2.1.toNat) (a30.2.2.getD (0 + p1.toNat) default)).set (0 + p1.toNat) (a30.2.2.getD (0 + a30.2.1.toNat) default)))]⟩) (by kernel_rfl) (by kernel_rfl) (by kernel_rfl) ⟨?_, ?_, ?_, ?_, ?_, ?_, ?_, ?_, ?_, ?_, ?_, ?_, ?_, ?_, ?_, ?_, trivial⟩ (by kernel_rfl) ?_
        · exact DOk.t rfl rfl (by kernel_rfl) (by kernel_rfl) (by kernel_rfl) (by kernel_rfl)
        · exact DOk.t rfl rfl (by kernel_rfl) (by kernel_rfl) (by kernel_rfl) (by kernel_rfl)
        · exact DOk.t rfl rfl (by kernel_rfl) (by kernel_rfl) (by kernel_rfl) (by kernel_rfl)
        · exact DOk.t rfl rfl (by kernel_rfl) (by kernel_rfl) (by kernel_rfl) (by kernel_rfl)
        · exact DOk.t rfl rfl (by kernel_rfl) (by kernel_rfl) (by kernel_rfl) (by kernel_rfl)
        · exact DOk.t rfl rfl (by kernel_rfl) (by kernel_rfl) (by kernel_rfl) (by kernel_rfl)
        · exact DOk.step (.val (.c (.vptr 5000 3 (0 + p1.toNat) 0)) ((0 : Int) ≤ p1 ∧ p1 < (a30.2.2.length : Int))) (fun r => by kernel_rfl) (fun r => by kernel_rfl) hc31 (by kernel_rfl) (by kernel_rfl) (fun r => rfl)
        · exact DOk.step (.val (.agg (cTime (a30.2.2.getD (0 + p1.toNat) default))) ((0 + p1.toNat) < a30.2.2.length)) (fun r => by kernel_rfl) (fun r => by kernel_rfl) hc32 (by kernel_rfl) (by kernel_rfl) (fun r => rfl)
        · exact DOk.t rfl rfl (by kernel_rfl) (by kernel_rfl) (by kernel_rfl) (by kernel_rfl)
        · exact DOk.t rfl rfl (by kernel_rfl) (by kernel_rfl) (by kernel_rfl) (by kernel_rfl)
        · exact DOk.step (.val (.c (.vptr 5000 3 (0 + a30.2.1.toNat) 0)) ((0 : Int) ≤ a30.2.1 ∧ a30.2.1 < (a30.2.2.length : Int))) (fun r => by kernel_rfl) (fun r => by kernel_rfl) hc33 (by kernel_rfl) (by kernel_rfl) (fun r => rfl)
        · exact DOk.step (.val (.agg (cTime (a30.2.2.getD (0 + a30.2.1.toNat) default))) ((0 + a30.2.1.toNat) < a30.2.2.length)) (fun r => by kernel_rfl) (fun r => by kernel_rfl) hc34 (by kernel_rfl) (by kernel_rfl) (fun r => rfl)
        · exact DOk.step (.val (.c (.vptr 5000 3 (0 + a30.2.1.toNat) 0)) ((0 : Int) ≤ a30.2.1 ∧ a30.2.1 < (a30.2.2.length : Int))) (fun r => by kernel_rfl) (fun r => by kernel_rfl) hc35 (by kernel_rfl) (by kernel_rfl) (fun r => rfl)
        · exact DOk.one fun r hr => One.storeT (xs := [.d (u6 ((a30.2.2.getD (0 + p1.toNat) default).epoch)), .d (u6 ((a30.2.2.getD (0 + p1.toNat) default).loop.1)), .d (u6 ((a30.2.2.getD (0 + p1.toNat) default).loop.2))]) (ds := [u6 ((a30.2.2.getD (0 + p1.toNat) default).epoch), u6 ((a30.2.2.getD (0 + p1.toNat) default).loop.1), u6 ((a30.2.2.getD (0 + p1.toNat) default).loop.2)]) (encTime) a30.2.2 (a30.2.2.getD (0 + p1.toNat) default) rfl (by kernel_rfl) rfl rfl rfl hc36 rfl rfl (.refl _) rfl rfl rfl rfl
        · exact DOk.step (.val (.c (.vptr 5000 3 (0 + p1.toNat) 0)) ((0 : Int) ≤ p1 ∧ p1 < (a30.2.2.length : Int))) (fun r => by kernel_rfl) (fun r => by kernel_rfl) hc37 (by kernel_rfl) (by kernel_rfl) (fun r => rfl)
        · exact DOk.one fun r hr => One.storeT (xs := [.d (u6 ((a30.2.2.getD (0 + a30.2.1.toNat) default).epoch)), .d (u6 ((a30.2.2.getD (0 + a30.2.1.toNat) default).loop.1)), .d (u6 ((a30.2.2.getD (0 + a30.2.1.toNat) default).loop.2))]) (ds := [u6 ((a30.2.2.getD (0 + a30.2.1.toNat) default).epoch), u6 ((a30.2.2.getD (0 + a30.2.1.toNat) default).loop.1), u6 ((a30.2.2.getD (0 + a30.2.1.toNat) default).loop.2)]) (encTime) (a30.2.2.set (0 + a30.2.1.toNat) (a30.2.2.getD (0 + p1.toNat) default)) (a30.2.2.getD (0 + a30.2.1.toNat) default) rfl (by kernel_rfl) rfl rfl rfl hc38 rfl rfl (.refl _) rfl rfl rfl rfl
        show Tri _ _ _ _
        refine Tri.seqS ?_
        refine Tri.reg ?_
        refine At.seg 3 [10, 11] [5000] (s' := ⟨[(10, cD (i6 a30.2.1)), (11, cD (.bool false))], [(5000, vL 3 encTime ((a30.2.2.set (0 + a30.2.1.toNat) (a30.2.2.getD (0 + p1.toNat) default)).set (0 + p1.toNat) (a30.2.2.getD (0 + a30.2.1.toNat) default)))]⟩) (c := True ∧ True ∧ True ∧ True) (by kernel_rfl) ⟨trivial, trivial, trivial, trivial⟩ ?_
        refine At.done rfl ?_
        show Tri _ _ _ _
        refine Tri.keep [10, 11] [5000] (s' := ⟨[(10, cD (i6 a30.2.1)), (11, cD (.bool false))], [(5000, vL 3 encTime ((a30.2.2.set (0 + a30.2.1.toNat) (a30.2.2.getD (0 + p1.toNat) default)).set (0 + p1.toNat) (a30.2.2.getD (0 + a30.2.1.toNat) default)))]⟩) (by kernel_rfl) ?_
        refine Tri.ret ?_
        cases h
        refine ⟨_, _, rfl, ⟨trivial, ⟨trivial, trivial⟩⟩, rfl, rfl, ?_⟩
        exact SubS.out ⟨⟨rfl, rfl⟩, trivial⟩
       · exact fun x => x.elim
    · exact fun x => x.elim
   · exact fun x => x.elim

set_option maxRecDepth 100000 in
theorem slices_nextPowerOfTwo_ok {p0 : Int} {q : Int} (h : slices_nextPowerOfTwo p0 = some q) :
    Summ Try.prog 60 [cD (i6 p0)] [] (cD (u6 q)) [] := by
  refine Summ.intro Try.func60 rfl (by kernel_rfl) (by kernel_rfl) [] rfl ?_
  rintro ⟨P, w0, G0, V, LL, lk, N, φ0, fx⟩ rfl rfl rfl rfl
  unfold slices_nextPowerOfTwo at h
  refine Tri.seqS ?_
  refine Tri.reg ?_
  refine At.seg 1 [0] [] (s' := ⟨[(0, cD (i6 p0))], []⟩) (c := True ∧ True) (by kernel_rfl) ⟨trivial, trivial⟩ ?_
  refine At.done rfl ?_
  show Tri _ _ _ _
  refine Tri.seqS ?_
  refine Tri.reg ?_
  refine At.seg 2 [4] [] (s' := ⟨[(4, cD (u6 (IntKind.u64.wrap p0)))], []⟩) (c := True ∧ True ∧ True) (by kernel_rfl) ⟨trivial, trivial, trivial⟩ ?_
  obtain ⟨r1, hr1, h⟩ := bind_elim h
  refine At.callA (caps := []) (xs := [cD (u6 (IntKind.u64.wrap p0))]) (math_bits_Len_ok hr1) rfl rfl rfl rfl rfl rfl (.cons (.refl _) .nil) rfl rfl ?_
  obtain ⟨hc2, h⟩ := need_elim h
  refine At.seg 2 [2] [] (s' := ⟨[(2, cD (u6 (shlOp .u64 (1 : Int) r1)))], []⟩) (c := ((0 : Int) ≤ r1) ∧ True ∧ True) (by kernel_rfl) ⟨hc2, trivial, trivial⟩ ?_
  refine At.done rfl ?_
  show Tri _ _ _ _
  refine Tri.keep [2] [] (s' := ⟨[(2, cD (u6 (shlOp .u64 (1 : Int) r1)))], []⟩) (by kernel_rfl) ?_
  refine Tri.ret ?_
  cases h
  refine ⟨_, _, rfl, ⟨trivial, trivial⟩, rfl, rfl, ?_⟩
  intro k c h
  cases h

set_option maxRecDepth 100000 in
theorem slices_xorshift_Next_w_ok {l0 : Int} {q : Int × Int} (h : slices_xorshift_Next_w l0 = some q) :
    Summ Try.prog 61 [.c (.ptr 5000 0)] [(5000, .box [.d (u6 l0)])] (cD (u6 q.1)) [(5000, .box [.d (u6 q.2)])] := by
  refine Summ.intro Try.func61 rfl (by kernel_rfl) (by kernel_rfl) [] rfl ?_
  rintro ⟨P, w0, G0, V, LL, lk, N, φ0, fx⟩ rfl rfl rfl rfl
  unfold slices_xorshift_Next_w at h
  refine Tri.seqS ?_
  refine Tri.reg ?_
  refine At.seg 1 [0] [5000] (s' := ⟨[(0, .c (.ptr 5000 0))], [(5000, .box [.d (u6 l0)])]⟩) (c := True ∧ True) (by kernel_rfl) ⟨trivial, trivial⟩ ?_
  refine At.done rfl ?_
  show Tri _ _ _ _
  refine Tri.seqS ?_
  refine Tri.drawn (specs := [⟨⟨[(0, .c (.ptr 5000 0))], []⟩, ⟨[(3, .c (.ptr 5000 0))], []⟩, [], [], []⟩, ⟨⟨[(3, .c (.ptr 5000 0))], []⟩, ⟨[(4, .c (.ptr 5000 0))], []⟩, [], [], []⟩, ⟨⟨[(4, .c (.ptr 5000 0))], [(5000, .box [.d (u6 l0)])]⟩, ⟨[(5, cD (u6 l0))], []⟩, [], [], []⟩, ⟨⟨[(0, .c (.ptr 5000 0))], []⟩, ⟨[(6, .c (.ptr 5000 0))], []⟩, [], [], []⟩, ⟨⟨[(6, .c (.ptr 5000 0))], []⟩, ⟨[(7, .c (.ptr 5000 0))], []⟩, [], [], []⟩, ⟨⟨[(7, .c (.ptr 5000 0))], [(5000, .box [.d (u6 l0)])]⟩, ⟨[(8, cD (u6 l0))], []⟩, [], [], []⟩, ⟨⟨[(8, cD (u6 l0))], []⟩, ⟨[(9, cD (u6 (shlOp .u64 l0 13)))], []⟩, [], [], []⟩, ⟨⟨[(5, cD (u6 l0)), (9, cD (u6 (shlOp .u64 l0 13)))], []⟩, ⟨[(10, cD (u6 (bitsOp .xor .u64 l0 (shlOp .u64 l0 13))))], []⟩, [], [], []⟩, ⟨⟨[(3, .c (.ptr 5000 0))], []⟩, ⟨[(11, .c (.ptr 5000 0))], []⟩, [], [], []⟩, ⟨⟨[(10, cD (u6 (bitsOp .xor .u64 l0 (shlOp .u64 l0 13)))), (11, .c (.ptr 5000 0))], [(5000, .box [.d (u6 l0)])]⟩, ⟨[], [(5000, .box [.d (u6 (bitsOp .xor .u64 l0 (shlOp .u64 l0 13)))])]⟩, [], [], []⟩]) (bef := [[], [0], [0, 1], [], [3], [3, 4], [3, 4, 5], [0, 1, 2, 3, 4, 5, 6], [0, 1, 2, 3, 4, 5, 6, 7], [0, 1, 2, 3, 4, 5, 6, 7, 8]]) (tk := [0]) (sk := [5000]) (s' := ⟨[(0, .c (.ptr 5000 0))], [(5000, .box [.d (u6 (bitsOp .xor .u64 l0 (shlOp .u64 l0 13)))])]⟩) (by kernel_rfl) (by kernel_rfl) (by kernel_rfl) ⟨?_, ?_, ?_, ?_, ?_, ?_, ?_, ?_, ?_, ?_, trivial⟩ (by kernel_rfl) ?_
  · exact DOk.t rfl rfl (by kernel_rfl) (by kernel_rfl) (by kernel_rfl) (by kernel_rfl)
  · exact DOk.t rfl rfl (by kernel_rfl) (by kernel_rfl) (by kernel_rfl) (by kernel_rfl)
  · exact DOk.t rfl rfl (by kernel_rfl) (by kernel_rfl) (by kernel_rfl) (by kernel_rfl)
  · exact DOk.t rfl rfl (by kernel_rfl) (by kernel_rfl) (by kernel_rfl) (by kernel_rfl)
  · exact DOk.t rfl rfl (by kernel_rfl) (by kernel_rfl) (by kernel_rfl) (by kernel_rfl)
  · exact DOk.t rfl rfl (by kernel_rfl) (by kernel_rfl) (by kernel_rfl) (by kernel_rfl)
  · exact DOk.step (.val (cD (u6 (shlOp .u64 l0 13))) ((0 : Int) ≤ 13)) (fun r => by kernel_rfl) (fun r => by kernel_rfl) (by decide : (0 : Int) ≤ 13) (by kernel_rfl) (by kernel_rfl) (fun r => rfl)
  · exact DOk.t rfl rfl (by kernel_rfl) (by kernel_rfl) (by kernel_rfl) (by kernel_rfl)
  · exact DOk.t rfl rfl (by kernel_rfl) (by kernel_rfl) (by kernel_rfl) (by kernel_rfl)
  · exact DOk.step (.turn 5000 (.box [.d (u6 (bitsOp .xor .u64 l0 (shlOp .u64 l0 13)))])) (fun r => by kernel_rfl) (fun r => by kernel_rfl) trivial (by kernel_rfl) (by kernel_rfl) (fun r => rfl)
  show Tri _ _ _ _
  refine Tri.seqS ?_
  refine Tri.drawn (specs := [⟨⟨[(0, .c (.ptr 5000 0))], []⟩, ⟨[(12, .c (.ptr 5000 0))], []⟩, [], [], []⟩, ⟨⟨[(12, .c (.ptr 5000 0))], []⟩, ⟨[(13, .c (.ptr 5000 0))], []⟩, [], [], []⟩, ⟨⟨[(13, .c (.ptr 5000 0))], [(5000, .box [.d (u6 (bitsOp .xor .u64 l0 (shlOp .u64 l0 13)))])]⟩, ⟨[(14, cD (u6 (bitsOp .xor .u64 l0 (shlOp .u64 l0 13))))], []⟩, [], [], []⟩, ⟨⟨[(0, .c (.ptr 5000 0))], []⟩, ⟨[(15, .c (.ptr 5000 0))], []⟩, [], [], []⟩, ⟨⟨[(15, .c (.ptr 5000 0))], []⟩, ⟨[(16, .c (.ptr 5000 0))], []⟩, [], [], []⟩, ⟨⟨[(16, .c (.ptr 5000 0))], [(5000, .box [.d (u6 (bitsOp .xor .u64 l0 (shlOp .u64 l0 13)))])]⟩, ⟨[(17, cD (u6 (bitsOp .xor .u64 l0 (shlOp .u64 l0 13))))], []⟩, [], [], []⟩, ⟨⟨[(17, cD (u6 (bitsOp .xor .u64 l0 (shlOp .u64 l0 13))))], []⟩, ⟨[(18, cD (u6 (shrOp .u64 (bitsOp .xor .u64 l0 (shlOp .u64 l0 13)) 7)))], []⟩, [], [], []⟩, ⟨⟨[(14, cD (u6 (bitsOp .xor .u64 l0 (shlOp .u64 l0 13)))), (18, cD (u6 (shrOp .u64 (bitsOp .xor .u64 l0 (shlOp .u64 l0 13)) 7)))], []⟩, ⟨[(19, cD (u6 (bitsOp .xor .u64 (bitsOp .xor .u64 l0 (shlOp .u64 l0 13)) (shrOp .u64 (bitsOp .xor .u64 l0 (shlOp .u64 l0 13)) 7))))], []⟩, [], [], []⟩, ⟨⟨[(12, .c (.ptr 5000 0))], []⟩, ⟨[(20, .c (.ptr 5000 0))], []⟩, [], [], []⟩, ⟨⟨[(19, cD (u6 (bitsOp .xor .u64 (bitsOp .xor .u64 l0 (shlOp .u64 l0 13)) (shrOp .u64 (bitsOp .xor .u64 l0 (shlOp .u64 l0 13)) 7)))), (20, .c (.ptr 5000 0))], [(5000, .box [.d (u6 (bitsOp .xor .u64 l0 (shlOp .u64 l0 13)))])]⟩, ⟨[], [(5000, .box [.d (u6 (bitsOp .xor .u64 (bitsOp .xor .u64 l0 (shlOp .u64 l0 13)) (shrOp .u64 (bitsOp .xor .u64 l0 (shlOp .u64 l0 13)) 7)))])]⟩, [], [], []⟩]) (bef := [[], [0], [0, 1], [], [3], [3, 4], [3, 4, 5], [0, 1, 2, 3, 4, 5, 6], [0, 1, 2, 3, 4, 5, 6, 7], [0, 1, 2, 3, 4, 5, 6, 7, 8]]) (tk := [0]) (sk := [5000]) (s' := ⟨[(0, .c (.ptr 5000 0))], [(5000, .box [.d (u6 (bitsOp .xor .u64 (bitsOp .xor .u64 l0 (shlOp .u64 l0 13)) (shrOp .u64 (bitsOp .xor .u64 l0 (shlOp .u64 l0 13)) 7)))])]⟩) (by kernel_rfl) (by kernel_rfl) (by kernel_rfl) ⟨?_, ?_, ?_, ?_, ?_, ?_, ?_, ?_, ?_, ?_, trivial⟩ (by kernel_rfl) ?_
  · exact DOk.t rfl rfl (by kernel_rfl) (by kernel_rfl) (by kernel_rfl) (by kernel_rfl)
  · exact DOk.t rfl rfl (by kernel_rfl) (by kernel_rfl) (by kernel_rfl) (by kernel_rfl)
  · exact DOk.t rfl rfl (by kernel_rfl) (by kernel_rfl) (by kernel_rfl) (by kernel_rfl)
  · exact DOk.t rfl rfl (by kernel_rfl) (by kernel_rfl) (by kernel_rfl) (by kernel_rfl)
  · exact DOk.t rfl rfl (by kernel_rfl) (by kernel_rfl) (by kernel_rfl) (by kernel_rfl)
  · exact DOk.t rfl rfl (by kernel_rfl) (by kernel_rfl) (by kernel_rfl) (by kernel_rfl)
  · exact DOk.step (.val (cD (u6 (shrOp .u64 (bitsOp .xor .u64 l0 (shlOp .u64 l0 13)) 7))) ((0 : Int) ≤ 7)) (fun r => by kernel_rfl) (fun r => by kernel_rfl) (by decide : (0 : Int) ≤ 7) (by kernel_rfl) (by kernel_rfl) (fun r => rfl)
  · exact DOk.t rfl rfl (by kernel_rfl) (by kernel_rfl) (by kernel_rfl) (by kernel_rfl)
  · exact DOk.t rfl rfl (by kernel_rfl) (by kernel_rfl) (by kernel_rfl) (by kernel_rfl)
  · exact DOk.step (.turn 5000 (.box [.d (u6 (bitsOp .xor .u64 (bitsOp .xor .u64 l0 (shlOp .u64 l0 13)) (shrOp .u64 (bitsOp .xor .u64 l0 (shlOp .u64 l0 13)) 7)))])) (fun r => by kernel_rfl) (fun r => by kernel_rfl) trivial (by kernel_rfl) (by kernel_rfl) (fun r => rfl)
  show Tri _ _ _ _
  refine Tri.seqS ?_
  refine Tri.drawn (specs := [⟨⟨[(0, .c (.ptr 5000 0))], []⟩, ⟨[(21, .c (.ptr 5000 0))], []⟩, [], [], []⟩, ⟨⟨[(21, .c (.ptr 5000 0))], []⟩, ⟨[(22, .c (.ptr 5000 0))], []⟩, [], [], []⟩, ⟨⟨[(22, .c (.ptr 5000 0))], [(5000, .box [.d (u6 (bitsOp .xor .u64 (bitsOp .xor .u64 l0 (shlOp .u64 l0 13)) (shrOp .u64 (bitsOp .xor .u64 l0 (shlOp .u64 l0 13)) 7)))])]⟩, ⟨[(23, cD (u6 (bitsOp .xor .u64 (bitsOp .xor .u64 l0 (shlOp .u64 l0 13)) (shrOp .u64 (bitsOp .xor .u64 l0 (shlOp .u64 l0 13)) 7))))], []⟩, [], [], []⟩, ⟨⟨[(0, .c (.ptr 5000 0))], []⟩, ⟨[(24, .c (.ptr 5000 0))], []⟩, [], [], []⟩, ⟨⟨[(24, .c (.ptr 5000 0))], []⟩, ⟨[(25, .c (.ptr 5000 0))], []⟩, [], [], []⟩, ⟨⟨[(25, .c (.ptr 5000 0))], [(5000, .box [.d (u6 (bitsOp .xor .u64 (bitsOp .xor .u64 l0 (shlOp .u64 l0 13)) (shrOp .u64 (bitsOp .xor .u64 l0 (shlOp .u64 l0 13)) 7)))])]⟩, ⟨[(26, cD (u6 (bitsOp .xor .u64 (bitsOp .xor .u64 l0 (shlOp .u64 l0 13)) (shrOp .u64 (bitsOp .xor .u64 l0 (shlOp .u64 l0 13)) 7))))], []⟩, [], [], []⟩, ⟨⟨[(26, cD (u6 (bitsOp .xor .u64 (bitsOp .xor .u64 l0 (shlOp .u64 l0 13)) (shrOp .u64 (bitsOp .xor .u64 l0 (shlOp .u64 l0 13)) 7))))], []⟩, ⟨[(27, cD (u6 (shlOp .u64 (bitsOp .xor .u64 (bitsOp .xor .u64 l0 (shlOp .u64 l0 13)) (shrOp .u64 (bitsOp .xor .u64 l0 (shlOp .u64 l0 13)) 7)) 17)))], []⟩, [], [], []⟩, ⟨⟨[(23, cD (u6 (bitsOp .xor .u64 (bitsOp .xor .u64 l0 (shlOp .u64 l0 13)) (shrOp .u64 (bitsOp .xor .u64 l0 (shlOp .u64 l0 13)) 7)))), (27, cD (u6 (shlOp .u64 (bitsOp .xor .u64 (bitsOp .xor .u64 l0 (shlOp .u64 l0 13)) (shrOp .u64 (bitsOp .xor .u64 l0 (shlOp .u64 l0 13)) 7)) 17)))], []⟩, ⟨[(28, cD (u6 (bitsOp .xor .u64 (bitsOp .xor .u64 (bitsOp .xor .u64 l0 (shlOp .u64 l0 13)) (shrOp .u64 (bitsOp .xor .u64 l0 (shlOp .u64 l0 13)) 7)) (shlOp .u64 (bitsOp .xor .u64 (bitsOp .xor .u64 l0 (shlOp .u64 l0 13)) (shrOp .u64 (bitsOp .xor .u64 l0 (shlOp .u64 l0 13)) 7)) 17))))], []⟩, [], [], []⟩, ⟨⟨[(21, .c (.ptr 5000 0))], []⟩, ⟨[(29, .c (.ptr 5000 0))], []⟩, [], [], []⟩, ⟨⟨[(28, cD (u6 (bitsOp .xor .u64 (bitsOp .xor .u64 (bitsOp .xor .u64 l0 (shlOp .u64 l0 13)) (shrOp .u64 (bitsOp .xor .u64 l0 (shlOp .u64 l0 13)) 7)) (shlOp .u64 (bitsOp .xor .u64 (bitsOp .xor .u64 l0 (shlOp .u64 l0 13)) (shrOp .u64 (bitsOp .xor .u64 l0 (shlOp .u64 l0 13)) 7)) 17)))), (29, .c (.ptr 5000 0))], [(5000, .box [.d (u6 (bitsOp .xor .u64 (bitsOp .xor .u64 l0 (shlOp .u64 l0 13)) (shrOp .u64 (bitsOp .xor .u64 l0 (shlOp .u64 l0 13)) 7)))])]⟩, ⟨[], [(5000, .box [.d (u6 (bitsOp .xor .u64 (bitsOp .xor .u64 (bitsOp .xor .u64 l0 (shlOp .u64 l0 13)) (shrOp .u64 (bitsOp .xor .u64 l0 (shlOp .u64 l0 13)) 7)) (shlOp .u64 (bitsOp .xor .u64 (bitsOp .xor .u64 l0 (shlOp .u64 l0 13)) (shrOp .u64 (bitsOp .xor .u64 l0 (shlOp .u64 l0 13)) 7)) 17)))])]⟩, [], [], []⟩]) (bef := [[], [0], [0, 1], [], [3], [3, 4], [3, 4, 5], [0, 1, 2, 3, 4, 5, 6], [0, 1, 2, 3, 4, 5, 6, 7], [0, 1, 2, 3, 4, 5, 6, 7, 8]]) (tk := [0]) (sk := [5000]) (s' := ⟨[(0, .c (.ptr 5000 0))], [(5000, .box [.d (u6 (bitsOp .xor .u64 (bitsOp .xor .u64 (bitsOp .xor .u64 l0 (shlOp .u64 l0 13)) (shrOp .u64 (bitsOp .xor .u64 l0 (shlOp .u64 l0 13)) 7)) (shlOp .u64 (bitsOp .xor .u64 (bitsOp .xor .u64 l0 (shlOp .u64 l0 13)) (shrOp .u64 (bitsOp .xor .u64 l0 (shlOp .u64 l0 13)) 7)) 17)))])]⟩) (by kernel_rfl) (by kernel_rfl) (by kernel_rfl) ⟨?_, ?_, ?_, ?_, ?_, ?_, ?_, ?_, ?_, ?_, trivial⟩ (by kernel_rfl) ?_
  · exact DOk.t rfl rfl (by kernel_rfl) (by kernel_rfl) (by kernel_rfl) (by kernel_rfl)
  · exact DOk.t rfl rfl (by kernel_rfl) (by kernel_rfl) (by kernel_rfl) (by kernel_rfl)
  · exact DOk.t rfl rfl (by kernel_rfl) (by kernel_rfl) (by kernel_rfl) (by kernel_rfl)
  · exact DOk.t rfl rfl (by kernel_rfl) (by kernel_rfl) (by kernel_rfl) (by kernel_rfl)
  · exact DOk.t rfl rfl (by kernel_rfl) (by kernel_rfl) (by kernel_rfl) (by kernel_rfl)
  · exact DOk.t rfl rfl (by kernel_rfl) (by kernel_rfl) (by kernel_rfl) (by kernel_rfl)
  · exact DOk.step (.val (cD (u6 (shlOp .u64 (bitsOp .xor .u64 (bitsOp .xor .u64 l0 (shlOp .u64 l0 13)) (shrOp .u64 (bitsOp .xor .u64 l0 (shlOp .u64 l0 13)) 7)) 17))) ((0 : Int) ≤ 17)) (fun r => by kernel_rfl) (fun r => by kernel_rfl) (by decide : (0 : Int) ≤ 17) (by kernel_rfl) (by kernel_rfl) (fun r => rfl)
  · exact DOk.t rfl rfl (by kernel_rfl) (by kernel_rfl) (by kernel_rfl) (by kernel_rfl)
  · exact DOk.t rfl rfl (by kernel_rfl) (by kernel_rfl) (by kernel_rfl) (by kernel_rfl)
  · exact DOk.step (.turn 5000 (.box [.d (u6 (bitsOp .xor .u64 (bitsOp .xor .u64 (bitsOp .xor .u64 l0 (shlOp .u64 l0 13)) (shrOp .u64 (bitsOp .xor .u64 l0 (shlOp .u64 l0 13)) 7)) (shlOp .u64 (bitsOp .xor .u64 (bitsOp .xor .u64 l0 (shlOp .u64 l0 13)) (shrOp .u64 (bitsOp .xor .u64 l0 (shlOp .u64 l0 13)) 7)) 17)))])) (fun r => by kernel_rfl) (fun r => by kernel_rfl) trivial (by kernel_rfl) (by kernel_rfl) (fun r => rfl)
  show Tri _ _ _ _
  refine Tri.seqS ?_
  refine Tri.reg ?_
  refine At.seg 4 [2] [5000] (s' := ⟨[(2, cD (u6 (bitsOp .xor .u64 (bitsOp .xor .u64 (bitsOp .xor .u64 l0 (shlOp .u64 l0 13)) (shrOp .u64 (bitsOp .xor .u64 l0 (shlOp .u64 l0 13)) 7)) (shlOp .u64 (bitsOp .xor .u64 (bitsOp .xor .u64 l0 (shlOp .u64 l0 13)) (shrOp .u64 (bitsOp .xor .u64 l0 (shlOp .u64 l0 13)) 7)) 17))))], [(5000, .box [.d (u6 (bitsOp .xor .u64 (bitsOp .xor .u64 (bitsOp .xor .u64 l0 (shlOp .u64 l0 13)) (shrOp .u64 (bitsOp .xor .u64 l0 (shlOp .u64 l0 13)) 7)) (shlOp .u64 (bitsOp .xor .u64 (bitsOp .xor .u64 l0 (shlOp .u64 l0 13)) (shrOp .u64 (bitsOp .xor .u64 l0 (shlOp .u64 l0 13)) 7)) 17)))])]⟩) (c := True ∧ True ∧ True ∧ True ∧ True) (by kernel_rfl) ⟨trivial, trivial, trivial, trivial, trivial⟩ ?_
  refine At.done rfl ?_
  show Tri _ _ _ _
  refine Tri.keep [2] [5000] (s' := ⟨[(2, cD (u6 (bitsOp .xor .u64 (bitsOp .xor .u64 (bitsOp .xor .u64 l0 (shlOp .u64 l0 13)) (shrOp .u64 (bitsOp .xor .u64 l0 (shlOp .u64 l0 13)) 7)) (shlOp .u64 (bitsOp .xor .u64 (bitsOp .xor .u64 l0 (shlOp .u64 l0 13)) (shrOp .u64 (bitsOp .xor .u64 l0 (shlOp .u64 l0 13)) 7)) 17))))], [(5000, .box [.d (u6 (bitsOp .xor .u64 (bitsOp .xor .u64 (bitsOp .xor .u64 l0 (shlOp .u64 l0 13)) (shrOp .u64 (bitsOp .xor .u64 l0 (shlOp .u64 l0 13)) 7)) (shlOp .u64 (bitsOp .xor .u64 (bitsOp .xor .u64 l0 (shlOp .u64 l0 13)) (shrOp .u64 (bitsOp .xor .u64 l0 (shlOp .u64 l0 13)) 7)) 17)))])]⟩) (by kernel_rfl) ?_
  refine Tri.ret ?_
  cases h
  refine ⟨_, _, rfl, ⟨trivial, trivial⟩, rfl, rfl, ?_⟩
  exact SubS.out ⟨⟨rfl, rfl⟩, trivial⟩

set_option maxRecDepth 100000 in
theorem slices_breakPatternsCmpFunc_Time__Compare_w_ok {fuel : Nat} {p1 : Int} {p2 : Int} {l0 : List Time} {q : List Time} (h : slices_breakPatternsCmpFunc_Time__Compare_w fuel p1 p2 l0 = some q) :
    Summ Try.prog 51 [.c (oC 5000 3 l0), cD (i6 p1), cD (i6 p2), cD (.fn 20 [])] [(5000, vL 3 encTime l0)] (.tup []) [(5000, vL 3 encTime q)] := by
  refine Summ.intro Try.func51 rfl (by kernel_rfl) (by kernel_rfl) [] rfl ?_
  rintro ⟨P, w0, G0, V, LL, lk, N, φ0, fx⟩ rfl rfl rfl rfl
  unfold slices_breakPatternsCmpFunc_Time__Compare_w at h
  refine Tri.seqS ?_
  refine Tri.reg ?_
  refine At.seg 4 [0, 1, 8] [5000] (s' := ⟨[(0, .c (oC 5000 3 l0)), (1, cD (i6 p1)), (8, cD (i6 (IntKind.i64.wrap (p2 - p1))))], [(5000, vL 3 encTime l0)]⟩) (c := True ∧ True ∧ True ∧ True ∧ True) (by kernel_rfl) ⟨trivial, trivial, trivial, trivial, trivial⟩ ?_
  refine At.done rfl ?_
  show Tri _ _ _ _
  refine Tri.seqS ?_
  refine Tri.reg ?_
  refine At.seg 2 [0, 1, 8, 17] [5000] (s' := ⟨[(0, .c (oC 5000 3 l0)), (1, cD (i6 p1)), (8, cD (i6 (IntKind.i64.wrap (p2 - p1)))), (17, cD (.bool (decide (8 ≤ (IntKind.i64.wrap (p2 - p1))))))], [(5000, vL 3 encTime l0)]⟩) (c := True ∧ True ∧ True) (by kernel_rfl) ⟨trivial, trivial, trivial⟩ ?_
  refine At.done rfl ?_
  show Tri _ _ _ _
  refine Tri.condP (b := (decide (8 ≤ (IntKind.i64.wrap (p2 - p1))))) rfl h (fun h => ?_) (fun h => ?_)
  ·refine Tri.seqS ?_
   refine Tri.reg ?_
   refine At.seg 4 [0, 1, 8, 9] [9, 5000] (s' := ⟨[(0, .c (oC 5000 3 l0)), (1, cD (i6 p1)), (8, cD (i6 (IntKind.i64.wrap (p2 - p1)))), (9, .c (.ptr 9 0))], [(9, .box [.d (u6 (IntKind.u64.wrap (IntKind.i64.wrap (p2 - p1))))]), (5000, vL 3 encTime l0)]⟩) (c := True ∧ True ∧ True ∧ True ∧ True) (by kernel_rfl) ⟨trivial, trivial, trivial, trivial, trivial⟩ ?_
   refine At.done rfl ?_
   show Tri _ _ _ _
   refine Tri.seqS ?_
   refine Tri.reg ?_
   refine At.seg 1 [0, 1, 8, 9, 20] [9, 5000] (s' := ⟨[(0, .c (oC 5000 3 l0)), (1, cD (i6 p1)), (8, cD (i6 (IntKind.i64.wrap (p2 - p1)))), (9, .c (.ptr 9 0)), (20, cD (i6 (IntKind.i64.wrap (p2 - p1))))], [(9, .box [.d (u6 (IntKind.u64.wrap (IntKind.i64.wrap (p2 - p1))))]), (5000, vL 3 encTime l0)]⟩) (c := True ∧ True) (by kernel_rfl) ⟨trivial, trivial⟩ ?_
   obtain ⟨r1, hr1, h⟩ := bind_elim h
   refine At.callA (caps := []) (xs := [cD (i6 (IntKind.i64.wrap (p2 - p1)))]) (slices_nextPowerOfTwo_ok hr1) rfl rfl rfl rfl rfl rfl (.cons (.refl _) .nil) rfl rfl ?_
   refine At.seg 1 [0, 1, 8, 9, 10] [9, 5000] (s' := ⟨[(0, .c (oC 5000 3 l0)), (1, cD (i6 p1)), (8, cD (i6 (IntKind.i64.wrap (p2 - p1)))), (9, .c (.ptr 9 0)), (10, cD (u6 r1))], [(9, .box [.d (u6 (IntKind.u64.wrap (IntKind.i64.wrap (p2 - p1))))]), (5000, vL 3 encTime l0)]⟩) (c := True ∧ True) (by kernel_rfl) ⟨trivial, trivial⟩ ?_
   refine At.done rfl ?_
   show Tri _ _ _ _
   refine Tri.seqS ?_
   refine Tri.reg ?_
   refine At.seg 7 [0, 1, 8, 9, 10, 11] [9, 5000] (s' := ⟨[(0, .c (oC 5000 3 l0)), (1, cD (i6 p1)), (8, cD (i6 (IntKind.i64.wrap (p2 - p1)))), (9, .c (.ptr 9 0)), (10, cD (u6 r1)), (11, cD (i6 (IntKind.i64.wrap ((IntKind.i64.wrap (p1 + (IntKind.i64.wrap ((IntKind.i64.wrap ((IntKind.i64.wrap (p2 - p1)).tdiv 4)) * 2)))) - 1))))], [(9, .box [.d (u6 (IntKind.u64.wrap (IntKind.i64.wrap (p2 - p1))))]), (5000, vL 3 encTime l0)]⟩) (c := True ∧ True ∧ ((4 : Int) ≠ 0) ∧ True ∧ True ∧ True ∧ True ∧ True) (by kernel_rfl) ⟨trivial, trivial, (by decide : (4 : Int) ≠ 0), trivial, trivial, trivial, trivial, trivial⟩ ?_
   refine At.done rfl ?_
   show Tri _ _ _ _
   refine Tri.keep [0, 1, 8, 9, 10, 11] [9, 5000] (s' := ⟨[(0, .c (oC 5000 3 l0)), (1, cD (i6 p1)), (8, cD (i6 (IntKind.i64.wrap (p2 - p1)))), (9, .c (.ptr 9 0)), (10, cD (u6 r1)), (11, cD (i6 (IntKind.i64.wrap ((IntKind.i64.wrap (p1 + (IntKind.i64.wrap ((IntKind.i64.wrap ((IntKind.i64.wrap (p2 - p1)).tdiv 4)) * 2)))) - 1))))], [(9, .box [.d (u6 (IntKind.u64.wrap (IntKind.i64.wrap (p2 - p1))))]), (5000, vL 3 encTime l0)]⟩) (by kernel_rfl) ?_
   refine Tri.loopK (fuel := fuel) (st0 := ((IntKind.i64.wrap (p2 - p1)), (IntKind.i64.wrap ((IntKind.i64.wrap (p1 + (IntKind.i64.wrap ((IntKind.i64.wrap ((IntKind.i64.wrap (p2 - p1)).tdiv 4)) * 2)))) - 1)), (IntKind.u64.wrap (IntKind.i64.wrap (p2 - p1))), l0)) (fun (x : Empty) s => False) (fun (a2 : Int × Int × Int × (List Time)) => ⟨[(0, .c (oC 5000 3 a2.2.2.2)), (1, cD (i6 p1)), (8, cD (i6 a2.1)), (9, .c (.ptr 9 0)), (10, cD (u6 r1)), (11, cD (i6 a2.2.1))], [(9, .box [.d (u6 a2.2.2.1)]), (5000, vL 3 encTime a2.2.2.2)]⟩) (fun (a2 : Int × Int × Int × (List Time)) => ⟨[], [(5000, vL 3 encTime a2.2.2.2)]⟩) h ?_ ?_ ?_
   ·intro a2 c h
    show Tri _ _ ⟨[(0, .c (oC 5000 3 a2.2.2.2)), (1, cD (i6 p1)), (8, cD (i6 a2.1)), (9, .c (.ptr 9 0)), (10, cD (u6 r1)), (11, cD (i6 a2.2.1))], [(9, .box [.d (u6 a2.2.2.1)]), (5000, vL 3 encTime a2.2.2.2)]⟩ _
    refine Tri.seqS ?_
    refine Tri.seqS ?_
    refine Tri.reg ?_
    refine At.seg 8 [0, 1, 8, 9, 10, 11, 35] [9, 5000] (s' := ⟨[(0, .c (oC 5000 3 a2.2.2.2)), (1, cD (i6 p1)), (8, cD (i6 a2.1)), (9, .c (.ptr 9 0)), (10, cD (u6 r1)), (11, cD (i6 a2.2.1)), (35, cD (.bool (decide (a2.2.1 ≤ (IntKind.i64.wrap ((IntKind.i64.wrap (p1 + (IntKind.i64.wrap ((IntKind.i64.wrap (a2.1.tdiv 4)) * 2)))) + 1))))))], [(9, .box [.d (u6 a2.2.2.1)]), (5000, vL 3 encTime a2.2.2.2)]⟩) (c := True ∧ True ∧ True ∧ ((4 : Int) ≠ 0) ∧ True ∧ True ∧ True ∧ True ∧ True) (by kernel_rfl) ⟨trivial, trivial, trivial, (by decide : (4 : Int) ≠ 0), trivial, trivial, trivial, trivial, trivial⟩ ?_
    refine At.done rfl ?_
    show Tri _ _ _ _
    refine Tri.condP (b := (decide (a2.2.1 ≤ (IntKind.i64.wrap ((IntKind.i64.wrap (p1 + (IntKind.i64.wrap ((IntKind.i64.wrap (a2.1.tdiv 4)) * 2)))) + 1))))) rfl h (fun h => ?_) (fun h => ?_)
    ·refine Tri.skip ?_
     show Tri _ _ _ _
     refine Tri.seqS ?_
     refine Tri.blockB ?_
     refine Tri.seqS ?_
     refine Tri.reg ?_
     obtain ⟨r4, hr4, h⟩ := bind_elim h
     refine At.callL (nf := 0) (caps := []) (xs := [.c (.ptr 9 0)]) [(5000, 9)] [0, 1, 8, 9, 10, 11] [5000] (s0 := ⟨[(0, .c (oC 5000 3 a2.2.2.2)), (1, cD (i6 p1)), (8, cD (i6 a2.1)), (9, .c (.ptr 9 0)), (10, cD (u6 r1)), (11, cD (i6 a2.2.1))], [(5000, vL 3 encTime a2.2.2.2)]⟩) (slices_xorshift_Next_w_ok hr4) rfl rfl (by kernel_rfl) rfl (by kernel_rfl) (by kernel_rfl) (.ren rfl rfl .nil) ⟨⟨by kernel_rfl, by kernel_rfl⟩, trivial⟩ (by kernel_rfl) (by kernel_rfl) (by kernel_rfl) (by kernel_rfl) (by kernel_rfl) (by kernel_rfl) (by kernel_rfl) (by kernel_rfl) (by kernel_rfl) ⟨[(38, cD (u6 r4.1)), (0, .c (oC 5000 3 a2.2.2.2)), (1, cD (i6 p1)), (8, cD (i6 a2.1)), (9, .c (.ptr 9 0)), (10, cD (u6 r1)), (11, cD (i6 a2.2.1))], [(9, .box [.d (u6 r4.2)]), (5000, vL 3 encTime a2.2.2.2)]⟩ (by kernel_rfl) ?_
     refine At.seg 5 [0, 1, 8, 9, 10, 11, 12] [9, 5000] (s' := ⟨[(0, .c (oC 5000 3 a2.2.2.2)), (1, cD (i6 p1)), (8, cD (i6 a2.1)), (9, .c (.ptr 9 0)), (10, cD (u6 r1)), (11, cD (i6 a2.2.1)), (12, cD (i6 (IntKind.i64.wrap (bitsOp .and .u64 r4.1 (IntKind.u64.wrap (r1 - 1))))))], [(9, .box [.d (u6 r4.2)]), (5000, vL 3 encTime a2.2.2.2)]⟩) (c := True ∧ True ∧ True ∧ True ∧ True ∧ True) (by kernel_rfl) ⟨trivial, trivial, trivial, trivial, trivial, trivial⟩ ?_
     refine At.done rfl ?_
     show Tri _ _ _ _
     refine Tri.seqJ (fun (a5 : Int) => ⟨[(0, .c (oC 5000 3 a2.2.2.2)), (1, cD (i6 p1)), (8, cD (i6 a2.1)), (9, .c (.ptr 9 0)), (10, cD (u6 r1)), (11, cD (i6 a2.2.1)), (12, cD (i6 a5))], [(9, .box [.d (u6 r4.2)]), (5000, vL 3 encTime a2.2.2.2)]⟩) h (fun a5 h => ?_) (fun j6 h => ?_)
     ·show Tri _ _ ⟨[(0, .c (oC 5000 3 a2.2.2.2)), (1, cD (i6 p1)), (8, cD (i6 a2.1)), (9, .c (.ptr 9 0)), (10, cD (u6 r1)), (11, cD (i6 a2.2.1)), (12, cD (i6 a5))], [(9, .box [.d (u6 r4.2)]), (5000, vL 3 encTime a2.2.2.2)]⟩ _
      obtain ⟨hc7, h⟩ := need_elim h
      obtain ⟨hc8, h⟩ := need_elim h
      obtain ⟨hc9, h⟩ := need_elim h
      obtain ⟨hc10, h⟩ := need_elim h
      obtain ⟨hc11, h⟩ := need_elim h
      obtain ⟨hc12, h⟩ := need_elim h
      obtain ⟨hc13, h⟩ := need_elim h
      obtain ⟨hc14, h⟩ := need_elim h
      refine Tri.afterA ⟨[(0, .c (oC 5000 3 a2.2.2.2)), (1, cD (i6 p1)), (8, cD (i6 a2.1)), (9, .c (.ptr 9 0)), (10, cD (u6 r1)), (11, cD (i6 a2.2.1))], [(9, .box [.d (u6 r4.2)]), (5000, vL 3 encTime ((a2.2.2.2.set (0 + a2.2.1.toNat) (a2.2.2.2.getD (0 + (IntKind.i64.wrap (p1 + a5)).toNat) default)).set (0 + (IntKind.i64.wrap (p1 + a5)).toNat) (a2.2.2.2.getD (0 + a2.2.1.toNat) default)))]⟩ ?_ ?_
      ·refine Tri.drawn (specs := [⟨⟨[(0, .c (oC 5000 3 a2.2.2.2))], []⟩, ⟨[(49, .c (oC 5000 3 a2.2.2.2))], []⟩, [], [], []⟩, ⟨⟨[(11, cD (i6 a2.2.1))], []⟩, ⟨[(50, cD (i6 a2.2.1))], []⟩, [], [], []⟩, ⟨⟨[(0, .c (oC 5000 3 a2.2.2.2))], []⟩, ⟨[(51, .c (oC 5000 3 a2.2.2.2))], []⟩, [], [], []⟩, ⟨⟨[(1, cD (i6 p1))], []⟩, ⟨[(52, cD (i6 p1))], []⟩, [], [], []⟩, ⟨⟨[(12, cD (i6 a5))], []⟩, ⟨[(53, cD (i6 a5))], []⟩, [], [], []⟩, ⟨⟨[(52, cD (i6 p1)), (53, cD (i6 a5))], []⟩, ⟨[(54, cD (i6 (IntKind.i64.wrap (p1 + a5))))], []⟩, [], [], []⟩, ⟨⟨[(0, .c (oC 5000 3 a2.2.2.2))], []⟩, ⟨[(55, .c (oC 5000 3 a2.2.2.2))], []⟩, [], [], []⟩, ⟨⟨[(1, cD (i6 p1))], []⟩, ⟨[(56, cD (i6 p1))], []⟩, [], [], []⟩, ⟨⟨[(12, cD (i6 a5))], []⟩, ⟨[(57, cD (i6 a5))], []⟩, [], [], []⟩, ⟨⟨[(56, cD (i6 p1)), (57, cD (i6 a5))], []⟩, ⟨[(58, cD (i6 (IntKind.i64.wrap (p1 + a5))))], []⟩, [], [], []⟩, ⟨⟨[(55, .c (oC 5000 3 a2.2.2.2)), (58, cD (i6 (IntKind.i64.wrap (p1 + a5))))], [(5000, vL 3 encTime a2.2.2.2)]⟩, ⟨[(59, .c (.vptr 5000 3 (0 + (IntKind.i64.wrap (p1 + a5)).toNat) 0))], []⟩, [], [], []⟩, ⟨⟨[(59, .c (.vptr 5000 3 (0 + (IntKind.i64.wrap (p1 + a5)).toNat) 0))], [(5000, vL 3 encTime a2.2.2.2)]⟩, ⟨[(60, .agg (cTime (a2.2.2.2.getD (0 + (IntKind.i64.wrap (p1 + a5)).toNat) default)))], []⟩, [], [], []⟩, ⟨⟨[(0, .c (oC 5000 3 a2.2.2.2))], []⟩, ⟨[(61, .c (oC 5000 3 a2.2.2.2))], []⟩, [], [], []⟩, ⟨⟨[(11, cD (i6 a2.2.1))], []⟩, ⟨[(62, cD (i6 a2.2.1))], []⟩, [], [], []⟩, ⟨⟨[(61, .c (oC 5000 3 a2.2.2.2)), (62, cD (i6 a2.2.1))], [(5000, vL 3 encTime a2.2.2.2)]⟩, ⟨[(63, .c (.vptr 5000 3 (0 + a2.2.1.toNat) 0))], []⟩, [], [], []⟩, ⟨⟨[(63, .c (.vptr 5000 3 (0 + a2.2.1.toNat) 0))], [(5000, vL 3 encTime a2.2.2.2)]⟩, ⟨[(64, .agg (cTime (a2.2.2.2.getD (0 + a2.2.1.toNat) default)))], []⟩, [], [], []⟩, ⟨⟨[(49, .c (oC 5000 3 a2.2.2.2)), (50, cD (i6 a2.2.1))], [(5000, vL 3 encTime a2.2.2.2)]⟩, ⟨[(65, .c (.vptr 5000 3 (0 + a2.2.1.toNat) 0))], []⟩, [], [], []⟩, ⟨⟨[(60, .agg (cTime (a2.2.2.2.getD (0 + (IntKind.i64.wrap (p1 + a5)).toNat) default))), (65, .c (.vptr 5000 3 (0 + a2.2.1.toNat) 0))], [(5000, vL 3 encTime a2.2.2.2)]⟩, ⟨[], [(5000, vL 3 encTime (a2.2.2.2.set (0 + a2.2.1.toNat) (a2.2.2.2.getD (0 + (IntKind.i64.wrap (p1 + a5)).toNat) default)))]⟩, [], [], []⟩, ⟨⟨[(51, .c (oC 5000 3 a2.2.2.2)), (54, cD (i6 (IntKind.i64.wrap (p1 + a5))))], [(5000, vL 3 encTime (a2.2.2.2.set (0 + a2.2.1.toNat) (a2.2.2.2.getD (0 + (IntKind.i64.wrap (p1 + a5)).toNat) default)))]⟩, ⟨[(66, .c (.vptr 5000 3 (0 + (IntKind.i64.wrap (p1 + a5)).toNat) 0))], []⟩, [], [], []⟩, ⟨⟨[(64, .agg (cTime (a2.2.2.2.getD (0 + a2.2.1.toNat) default))), (66, .c (.vptr 5000 3 (0 + (IntKind.i64.wrap (p1 + a5)).toNat) 0))], [(5000, vL 3 encTime (a2.2.2.2.set (0 + a2.2.1.toNat) (a2.2.2.2.getD (0 + (IntKind.i64.wrap (p1 + a5)).toNat) default)))]⟩, ⟨[], [(5000, vL 3 encTime ((a2.2.2.2.set (0 + a2.2.1.toNat) (a2.2.2.2.getD (0 + (IntKind.i64.wrap (p1 + a5)).toNat) default)).set (0 + (IntKind.i64.wrap (p1 + a5)).toNat) (a2.2.2.2.getD (0 + a2.2.1.toNat) default)))]⟩, [], [], []⟩]) (bef := [[], [], [], [], [], [3, 4], [], [], [], [7, 8], [6, 7, 8, 9], [6, 7, 8, 9, 10], [], [], [12, 13], [12, 13, 14], [0, 1, 6, 7, 8, 9, 10, 11, 12, 13, 14, 15], [0, 1, 6, 7, 8, 9, 10, 11, 12, 13, 14, 15, 16], [0, 1, 2, 3, 4, 5, 6, 7, 8, 9, 10, 11, 12, 13, 14, 15, 16, 17], [0, 1, 2, 3, 4, 5, 6, 7, 8, 9, 10, 11, 12, 13, 14, 15, 16, 17, 18]]) (tk := [0, 1, 8, 9, 10, 11]) (sk := [9, 5000]) (s' := ⟨[(0, .c (oC 5000 3 a2.2.2.2)), (1, cD (i6 p1)), (8, cD (i6 a2.1)), (9, .c (.ptr 9 0)), (10, cD (u6 r1)), (11, cD (i6 a2.2.1))], [(9, .box [.d (u6 r4.2)]), (5000, vL 3 encTime ((a2.2.2.2.set (0 + a2.2.1.toNat) (a2.2.2.2.getD (0 + (IntKind.i64.wrap (p1 + a5)).toNat) default)).set (0 + (IntKind.i64.wrap (p1 + a5)).toNat) (a2.2.2.2.getD (0 + a2.2.1.toNat) default)))]⟩) (by kernel_rfl) (by kernel_rfl) (by kernel_rfl) ⟨?_, ?_, ?_, ?_, ?_, ?_, ?_, ?_, ?_, ?_, ?_, ?_, ?_, ?_, ?_, ?_, ?_, ?_, ?_, ?_, trivial⟩ (by kernel_rfl) ?_
       · exact DOk.t rfl rfl (by kernel_rfl) (by kernel_rfl) (by kernel_rfl) (by kernel_rfl)
       · exact DOk.t rfl rfl (by kernel_rfl) (by kernel_rfl) (by kernel_rfl) (by kernel_rfl)
       · exact DOk.t rfl rfl (by kernel_rfl) (by kernel_rfl) (by kernel_rfl) (by kernel_rfl)
       · exact DOk.t rfl rfl (by kernel_rfl) (by kernel_rfl) (by kernel_rfl) (by kernel_rfl)
       · exact DOk.t rfl rfl (by kernel_rfl) (by kernel_rfl) (by kernel_rfl) (by kernel_rfl)
       · exact DOk.t rfl rfl (by kernel_rfl) (by kernel_rfl) (by kernel_rfl) (by kernel_rfl)
       · exact DOk.t rfl rfl (by kernel_rfl) (by kernel_rfl) (by kernel_rfl) (by kernel_rfl)
       · exact DOk.t rfl rfl (by kernel_rfl) (by kernel_rfl) (by kernel_rfl) (by kernel_rfl)
       · exact DOk.t rfl rfl (by kernel_rfl) (by kernel_rfl) (by kernel_rfl) (by kernel_rfl)
       · exact DOk.t rfl rfl (by kernel_rfl) (by kernel_rfl) (by kernel_rfl) (by kernel_rfl)
       · exact DOk.step (.val (.c (.vptr 5000 3 (0 + (IntKind.i64.wrap (p1 + a5)).toNat) 0)) ((0 : Int) ≤ (IntKind.i64.wrap (p1 + a5)) ∧ (IntKind.i64.wrap (p1 + a5)) < (a2.2.2.2.length : Int))) (fun r => by kernel_rfl) (fun r => by kernel_rfl) hc7 (by kernel_rfl) (by kernel_rfl) (fun r => rfl)
       · exact DOk.step (.val (.agg (cTime (a2.2.2.2.getD (0 + (IntKind.i64.wrap (p1 + a5)).toNat) default))) ((0 + (IntKind.i64.wrap (p1 + a5)).toNat) < a2.2.2.2.length)) (fun r => by kernel_rfl) (fun r => by kernel_rfl) hc8 (by kernel_rfl) (by kernel_rfl) (fun r => rfl)
       · exact DOk.t rfl rfl (by kernel_rfl) (by kernel_rfl) (by kernel_rfl) (by kernel_rfl)
       · exact DOk.t rfl rfl (by kernel_rfl) (by kernel_rfl) (by kernel_rfl) (by kernel_rfl)
       · exact DOk.step (.val (.c (.vptr 5000 3 (0 + a2.2.1.toNat) 0)) ((0 : Int) ≤ a2.2.1 ∧ a2.2.1 < (a2.2.2.2.length : Int))) (fun r => by kernel_rfl) (fun r => by kernel_rfl) hc9 (by kernel_rfl) (by kernel_rfl) (fun r => rfl)
       · exact DOk.step (.val (.agg (cTime (a2.2.2.2.getD (0 + a2.2.1.toNat) default))) ((0 + a2.2.1.toNat) < a2.2.2.2.length)) (fun r => by kernel_rfl) (fun r => by kernel_rfl) hc10 (by kernel_rfl) (by kernel_rfl) (fun r => rfl)
       · exact DOk.step (.val (.c (.vptr 5000 3 (0 + a2.2.1.toNat) 0)) ((0 : Int) ≤ a2.2.1 ∧ a2.2.1 < (a2.2.2.2.length : Int))) (fun r => by kernel_rfl) (fun r => by kernel_rfl) hc11 (by kernel_rfl) (by kernel_rfl) (fun r => rfl)
       · exact DOk.one fun r hr => One.storeT (xs := [.d (u6 ((a2.2.2.2.getD (0 + (IntKind.i64.wrap (p1 + a5)).toNat) default).epoch)), .d (u6 ((a2.2.2.2.getD (0 + (IntKind.i64.wrap (p1 + a5)).toNat) default).loop.1)), .d (u6 ((a2.2.2.2.getD (0 + (IntKind.i64.wrap (p1 + a5)).toNat) default).loop.2))]) (ds := [u6 ((a2.2.2.2.getD (0 + (IntKind.i64.wrap (p1 + a5)).toNat) default).epoch), u6 ((a2.2.2.2.getD (0 + (IntKind.i64.wrap (p1 + a5)).toNat) default).loop.1), u6 ((a2.2.2.2.getD (0 + (IntKind.i64.wrap (p1 + a5)).toNat) default).loop.2)]) (encTime) a2.2.2.2 (a2.2.2.2.getD (0 + (IntKind.i64.wrap (p1 + a5)).toNat) default) rfl (by kernel_rfl) rfl rfl rfl hc12 rfl rfl (.refl _) rfl rfl rfl rfl
       · exact DOk.step (.val (.c (.vptr 5000 3 (0 + (IntKind.i64.wrap (p1 + a5)).toNat) 0)) ((0 : Int) ≤ (IntKind.i64.wrap (p1 + a5)) ∧ (IntKind.i64.wrap (p1 + a5)) < (a2.2.2.2.length : Int))) (fun r => by kernel_rfl) (fun r => by kernel_rfl) hc13 (by kernel_rfl) (by kernel_rfl) (fun r => rfl)
       · exact DOk.one fun r hr => One.storeT (xs := [.d (u6 ((a2.2.2.2.getD (0 + a2.2.1.toNat) default).epoch)), .d (u6 ((a2.2.2.2.getD (0 + a2.2.1.toNat) default).loop.1)), .d (u6 ((a2.2.2.2.getD (0 + a2.2.1.toNat) default).loop.2))]) (ds := [u6 ((a2.2.2.2.getD (0 + a2.2.1.toNat) default).epoch), u6 ((a2.2.2.2.getD (0 + a2.2.1.toNat) default).loop.1), u6 ((a2.2.2.2.getD (0 + a2.2.1.toNat) default).loop.2)]) (encTime) (a2.2.2.2.set (0 + a2.2.1.toNat) (a2.2.2.2.getD (0 + (IntKind.i64.wrap (p1 + a5)).toNat) default)) (a2.2.2.2.getD (0 + a2.2.1.toNat) default) rfl (by kernel_rfl) rfl rfl rfl hc14 rfl rfl (.refl _) rfl rfl rfl rfl
       exact ⟨rfl, rfl⟩
      ·refine At.eqS (s' := ⟨[(0, .c (oC 5000 3 ((a2.2.2.2.set (0 + a2.2.1.toNat) (a2.2.2.2.getD (0 + (IntKind.i64.wrap (p1 + a5)).toNat) default)).set (0 + (IntKind.i64.wrap (p1 + a5)).toNat) (a2.2.2.2.getD (0 + a2.2.1.toNat) default)))), (1, cD (i6 p1)), (8, cD (i6 a2.1)), (9, .c (.ptr 9 0)), (10, cD (u6 r1)), (11, cD (i6 a2.2.1))], [(9, .box [.d (u6 r4.2)]), (5000, vL 3 encTime ((a2.2.2.2.set (0 + a2.2.1.toNat) (a2.2.2.2.getD (0 + (IntKind.i64.wrap (p1 + a5)).toNat) default)).set (0 + (IntKind.i64.wrap (p1 + a5)).toNat) (a2.2.2.2.getD (0 + a2.2.1.toNat) default)))]⟩) (by simp only [oC, vL, List.length_set]) ?_
       refine At.done rfl ?_
       show Tri _ _ _ _
       refine Tri.reg ?_
       refine At.seg 3 [0, 1, 8, 9, 10, 11] [9, 5000] (s' := ⟨[(0, .c (oC 5000 3 ((a2.2.2.2.set (0 + a2.2.1.toNat) (a2.2.2.2.getD (0 + (IntKind.i64.wrap (p1 + a5)).toNat) default)).set (0 + (IntKind.i64.wrap (p1 + a5)).toNat) (a2.2.2.2.getD (0 + a2.2.1.toNat) default)))), (1, cD (i6 p1)), (8, cD (i6 a2.1)), (9, .c (.ptr 9 0)), (10, cD (u6 r1)), (11, cD (i6 (IntKind.i64.wrap (a2.2.1 + 1))))], [(9, .box [.d (u6 r4.2)]), (5000, vL 3 encTime ((a2.2.2.2.set (0 + a2.2.1.toNat) (a2.2.2.2.getD (0 + (IntKind.i64.wrap (p1 + a5)).toNat) default)).set (0 + (IntKind.i64.wrap (p1 + a5)).toNat) (a2.2.2.2.getD (0 + a2.2.1.toNat) default)))]⟩) (c := True ∧ True ∧ True ∧ True) (by kernel_rfl) ⟨trivial, trivial, trivial, trivial⟩ ?_
       refine At.done rfl ?_
       cases h
       exact rfl
     ·refine Tri.seqS ?_
      refine Tri.reg ?_
      refine At.seg 3 [0, 1, 8, 9, 10, 11, 12, 45] [9, 5000] (s' := ⟨[(0, .c (oC 5000 3 a2.2.2.2)), (1, cD (i6 p1)), (8, cD (i6 a2.1)), (9, .c (.ptr 9 0)), (10, cD (u6 r1)), (11, cD (i6 a2.2.1)), (12, cD (i6 (IntKind.i64.wrap (bitsOp .and .u64 r4.1 (IntKind.u64.wrap (r1 - 1)))))), (45, cD (.bool (decide (a2.1 ≤ (IntKind.i64.wrap (bitsOp .and .u64 r4.1 (IntKind.u64.wrap (r1 - 1))))))))], [(9, .box [.d (u6 r4.2)]), (5000, vL 3 encTime a2.2.2.2)]⟩) (c := True ∧ True ∧ True ∧ True) (by kernel_rfl) ⟨trivial, trivial, trivial, trivial⟩ ?_
      refine At.done rfl ?_
      show Tri _ _ _ _
      refine Tri.condP (b := (decide (a2.1 ≤ (IntKind.i64.wrap (bitsOp .and .u64 r4.1 (IntKind.u64.wrap (r1 - 1))))))) rfl h (fun h => ?_) (fun h => ?_)
      ·refine Tri.reg ?_
       refine At.seg 4 [0, 1, 8, 9, 10, 11, 12] [9, 5000] (s' := ⟨[(0, .c (oC 5000 3 a2.2.2.2)), (1, cD (i6 p1)), (8, cD (i6 a2.1)), (9, .c (.ptr 9 0)), (10, cD (u6 r1)), (11, cD (i6 a2.2.1)), (12, cD (i6 (IntKind.i64.wrap ((IntKind.i64.wrap (bitsOp .and .u64 r4.1 (IntKind.u64.wrap (r1 - 1)))) - a2.1))))], [(9, .box [.d (u6 r4.2)]), (5000, vL 3 encTime a2.2.2.2)]⟩) (c := True ∧ True ∧ True ∧ True ∧ True) (by kernel_rfl) ⟨trivial, trivial, trivial, trivial, trivial⟩ ?_
       refine At.done rfl ?_
       exact ⟨_, h, rfl⟩
      ·refine Tri.keep [0, 1, 8, 9, 10, 11, 12] [9, 5000] (s' := ⟨[(0, .c (oC 5000 3 a2.2.2.2)), (1, cD (i6 p1)), (8, cD (i6 a2.1)), (9, .c (.ptr 9 0)), (10, cD (u6 r1)), (11, cD (i6 a2.2.1)), (12, cD (i6 (IntKind.i64.wrap (bitsOp .and .u64 r4.1 (IntKind.u64.wrap (r1 - 1))))))], [(9, .box [.d (u6 r4.2)]), (5000, vL 3 encTime a2.2.2.2)]⟩) (by kernel_rfl) ?_
       refine Tri.skip ?_
       exact ⟨_, h, rfl⟩
    ·refine Tri.keep [] [5000] (s' := ⟨[], [(5000, vL 3 encTime a2.2.2.2)]⟩) (by kernel_rfl) ?_
     refine Tri.exit ?_
     cases h
     exact ⟨rfl, rfl⟩
   ·intro a3 h
    cases h
    refine ⟨_, _, rfl, trivial, rfl, rfl, ?_⟩
    exact SubS.out ⟨⟨rfl, rfl⟩, trivial⟩
   · exact fun x => x.elim
  ·refine Tri.keep [] [5000] (s' := ⟨[], [(5000, vL 3 encTime l0)]⟩) (by kernel_rfl) ?_
   refine Tri.skip ?_
   cases h
   refine ⟨_, _, rfl, trivial, rfl, rfl, ?_⟩
   exact SubS.out ⟨⟨rfl, rfl⟩, trivial⟩

set_option maxRecDepth 100000 in
theorem slices_pdqsortCmpFunc_Time__Compare_w_ok {fuel : Nat} {p1 : Int} {p2 : Int} {p3 : Int} {l0 : List Time} {q : List Time} (h : slices_pdqsortCmpFunc_Time__Compare_w fuel p1 p2 p3 l0 = some q) :
    Summ Try.prog 46 [.c (oC 5000 3 l0), cD (i6 p1), cD (i6 p2), cD (i6 p3), cD (.fn 20 [])] [(5000, vL 3 encTime l0)] (.tup []) [(5000, vL 3 encTime q)] := by
  induction fuel generalizing p1 p2 p3 l0 q with
  | zero => rw [slices_pdqsortCmpFunc_Time__Compare_w.eq_1] at h; cases h
  | succ fuel ih =>
    refine Summ.intro Try.func46 rfl (by kernel_rfl) (by kernel_rfl) [] rfl ?_
    rintro ⟨P, w0, G0, V, LL, lk, N, φ0, fx⟩ rfl rfl rfl rfl
    rw [slices_pdqsortCmpFunc_Time__Compare_w.eq_2] at h
    refine Tri.seqS ?_
    refine Tri.reg ?_
    refine At.seg 1 [0, 1, 2, 3, 4, 10] [5000] (s' := ⟨[(0, .c (oC 5000 3 l0)), (1, cD (i6 p1)), (2, cD (i6 p2)), (3, cD (i6 p3)), (4, cD (.fn 20 [])), (10, cD (.bool true))], [(5000, vL 3 encTime l0)]⟩) (c := True ∧ True) (by kernel_rfl) ⟨trivial, trivial⟩ ?_
    refine At.done rfl ?_
    show Tri _ _ _ _
    refine Tri.seqS ?_
    refine Tri.reg ?_
    refine At.seg 1 [0, 1, 2, 3, 4, 10, 11] [5000] (s' := ⟨[(0, .c (oC 5000 3 l0)), (1, cD (i6 p1)), (2, cD (i6 p2)), (3, cD (i6 p3)), (4, cD (.fn 20 [])), (10, cD (.bool true)), (11, cD (.bool true))], [(5000, vL 3 encTime l0)]⟩) (c := True ∧ True) (by kernel_rfl) ⟨trivial, trivial⟩ ?_
    refine At.done rfl ?_
    show Tri _ _ _ _
    refine Tri.keep [0, 1, 2, 3, 4, 10, 11] [5000] (s' := ⟨[(0, .c (oC 5000 3 l0)), (1, cD (i6 p1)), (2, cD (i6 p2)), (3, cD (i6 p3)), (4, cD (.fn 20 [])), (10, cD (.bool true)), (11, cD (.bool true))], [(5000, vL 3 encTime l0)]⟩) (by kernel_rfl) ?_
    refine Tri.loopK (fuel := fuel) (st0 := (p1, p2, p3, true, true, l0)) (fun (x : List Time) s => RetAt Try.prog Try.f46 (.tup []) [(5000, vL 3 encTime x)] s) (fun (a1 : Int × Int × Int × Bool × Bool × (List Time)) => ⟨[(0, .c (oC 5000 3 a1.2.2.2.2.2)), (1, cD (i6 a1.1)), (2, cD (i6 a1.2.1)), (3, cD (i6 a1.2.2.1)), (4, cD (.fn 20 [])), (10, cD (.bool a1.2.2.2.1)), (11, cD (.bool a1.2.2.2.2.1))], [(5000, vL 3 encTime a1.2.2.2.2.2)]⟩) (fun (a1 : Int × Int × Int × Bool × Bool × (List Time)) => ⟨[(0, .c (oC 5000 3 a1.2.2.2.2.2)), (1, cD (i6 a1.1)), (2, cD (i6 a1.2.1)), (3, cD (i6 a1.2.2.1)), (4, cD (.fn 20 [])), (10, cD (.bool a1.2.2.2.1)), (11, cD (.bool a1.2.2.2.2.1))], [(5000, vL 3 encTime a1.2.2.2.2.2)]⟩) h ?_ ?_ ?_
    ·intro a1 c h
     show Tri _ _ ⟨[(0, .c (oC 5000 3 a1.2.2.2.2.2)), (1, cD (i6 a1.1)), (2, cD (i6 a1.2.1)), (3, cD (i6 a1.2.2.1)), (4, cD (.fn 20 [])), (10, cD (.bool a1.2.2.2.1)), (11, cD (.bool a1.2.2.2.2.1))], [(5000, vL 3 encTime a1.2.2.2.2.2)]⟩ _
     refine Tri.blockB ?_
     refine Tri.seqS ?_
     refine Tri.reg ?_
     refine At.seg 4 [0, 1, 2, 3, 4, 10, 11, 12] [5000] (s' := ⟨[(0, .c (oC 5000 3 a1.2.2.2.2.2)), (1, cD (i6 a1.1)), (2, cD (i6 a1.2.1)), (3, cD (i6 a1.2.2.1)), (4, cD (.fn 20 [])), (10, cD (.bool a1.2.2.2.1)), (11, cD (.bool a1.2.2.2.2.1)), (12, cD (i6 (IntKind.i64.wrap (a1.2.1 - a1.1))))], [(5000, vL 3 encTime a1.2.2.2.2.2)]⟩) (c := True ∧ True ∧ True ∧ True ∧ True) (by kernel_rfl) ⟨trivial, trivial, trivial, trivial, trivial⟩ ?_
     refine At.done rfl ?_
     show Tri _ _ _ _
     refine Tri.seqS ?_
     refine Tri.seqS ?_
     refine Tri.reg ?_
     refine At.seg 2 [0, 1, 2, 3, 4, 10, 11, 12, 25] [5000] (s' := ⟨[(0, .c (oC 5000 3 a1.2.2.2.2.2)), (1, cD (i6 a1.1)), (2, cD (i6 a1.2.1)), (3, cD (i6 a1.2.2.1)), (4, cD (.fn 20 [])), (10, cD (.bool a1.2.2.2.1)), (11, cD (.bool a1.2.2.2.2.1)), (12, cD (i6 (IntKind.i64.wrap (a1.2.1 - a1.1)))), (25, cD (.bool (decide ((IntKind.i64.wrap (a1.2.1 - a1.1)) ≤ 12))))], [(5000, vL 3 encTime a1.2.2.2.2.2)]⟩) (c := True ∧ True ∧ True) (by kernel_rfl) ⟨trivial, trivial, trivial⟩ ?_
     refine At.done rfl ?_
     show Tri _ _ _ _
     refine Tri.condP (b := (decide ((IntKind.i64.wrap (a1.2.1 - a1.1)) ≤ 12))) rfl h (fun h => ?_) (fun h => ?_)
     ·refine Tri.seqS ?_
      refine Tri.reg ?_
      refine At.seg 4 [26, 27, 28, 29] [5000] (s' := ⟨[(26, .c (oC 5000 3 a1.2.2.2.2.2)), (27, cD (i6 a1.1)), (28, cD (i6 a1.2.1)), (29, cD (.fn 20 []))], [(5000, vL 3 encTime a1.2.2.2.2.2)]⟩) (c := True ∧ True ∧ True ∧ True ∧ True) (by kernel_rfl) ⟨trivial, trivial, trivial, trivial, trivial⟩ ?_
      obtain ⟨r3, hr3, h⟩ := bind_elim h
      refine At.callL (nf := 0) (caps := []) (xs := [.c (oC 5000 3 a1.2.2.2.2.2), cD (i6 a1.1), cD (i6 a1.2.1), cD (.fn 20 [])]) [(5000, 5000)] [] [] (s0 := ⟨[], []⟩) (slices_insertionSortCmpFunc_Time__Compare_w_ok hr3) rfl rfl (by kernel_rfl) rfl (by kernel_rfl) (by kernel_rfl) (.ren rfl rfl (.flat (.refl _) rfl rfl (.flat (.refl _) rfl rfl (.flat (.refl _) rfl rfl .nil)))) ⟨⟨by kernel_rfl, by kernel_rfl⟩, trivial⟩ (by kernel_rfl) (by kernel_rfl) (by kernel_rfl) (by kernel_rfl) (by kernel_rfl) (by kernel_rfl) (by kernel_rfl) (by kernel_rfl) (by kernel_rfl) ⟨[(30, .tup [])], [(5000, vL 3 encTime r3)]⟩ (by kernel_rfl) ?_
      refine At.done rfl ?_
      show Tri _ _ _ _
      refine Tri.keep [] [5000] (s' := ⟨[], [(5000, vL 3 encTime r3)]⟩) (by kernel_rfl) ?_
      refine Tri.ret ?_
      cases h
      refine ⟨_, _, rfl, trivial, rfl, rfl, ?_⟩
      exact SubS.out ⟨⟨rfl, rfl⟩, trivial⟩
     ·refine Tri.skip ?_
      show Tri _ _ _ _
      refine Tri.seqS ?_
      refine Tri.seqS ?_
      refine Tri.reg ?_
      refine At.seg 2 [0, 1, 2, 3, 4, 10, 11, 12, 32] [5000] (s' := ⟨[(0, .c (oC 5000 3 a1.2.2.2.2.2)), (1, cD (i6 a1.1)), (2, cD (i6 a1.2.1)), (3, cD (i6 a1.2.2.1)), (4, cD (.fn 20 [])), (10, cD (.bool a1.2.2.2.1)), (11, cD (.bool a1.2.2.2.2.1)), (12, cD (i6 (IntKind.i64.wrap (a1.2.1 - a1.1)))), (32, cD (.bool (decide (a1.2.2.1 = 0))))], [(5000, vL 3 encTime a1.2.2.2.2.2)]⟩) (c := True ∧ True ∧ True) (by kernel_rfl) ⟨trivial, trivial, trivial⟩ ?_
      refine At.done rfl ?_
      show Tri _ _ _ _
      refine Tri.condP (b := (decide (a1.2.2.1 = 0))) rfl h (fun h => ?_) (fun h => ?_)
      ·refine Tri.seqS ?_
       refine Tri.reg ?_
       refine At.seg 4 [33, 34, 35, 36] [5000] (s' := ⟨[(33, .c (oC 5000 3 a1.2.2.2.2.2)), (34, cD (i6 a1.1)), (35, cD (i6 a1.2.1)), (36, cD (.fn 20 []))], [(5000, vL 3 encTime a1.2.2.2.2.2)]⟩) (c := True ∧ True ∧ True ∧ True ∧ True) (by kernel_rfl) ⟨trivial, trivial, trivial, trivial, trivial⟩ ?_
       obtain ⟨r4, hr4, h⟩ := bind_elim h
       refine At.callL (nf := 0) (caps := []) (xs := [.c (oC 5000 3 a1.2.2.2.2.2), cD (i6 a1.1), cD (i6 a1.2.1), cD (.fn 20 [])]) [(5000, 5000)] [] [] (s0 := ⟨[], []⟩) (slices_heapSortCmpFunc_Time__Compare_w_ok hr4) rfl rfl (by kernel_rfl) rfl (by kernel_rfl) (by kernel_rfl) (.ren rfl rfl (.flat (.refl _) rfl rfl (.flat (.refl _) rfl rfl (.flat (.refl _) rfl rfl .nil)))) ⟨⟨by kernel_rfl, by kernel_rfl⟩, trivial⟩ (by kernel_rfl) (by kernel_rfl) (by kernel_rfl) (by kernel_rfl) (by kernel_rfl) (by kernel_rfl) (by kernel_rfl) (by kernel_rfl) (by kernel_rfl) ⟨[(37, .tup [])], [(5000, vL 3 encTime r4)]⟩ (by kernel_rfl) ?_
       refine At.done rfl ?_
       show Tri _ _ _ _
       refine Tri.keep [] [5000] (s' := ⟨[], [(5000, vL 3 encTime r4)]⟩) (by kernel_rfl) ?_
       refine Tri.ret ?_
       cases h
       refine ⟨_, _, rfl, trivial, rfl, rfl, ?_⟩
       exact SubS.out ⟨⟨rfl, rfl⟩, trivial⟩
      ·refine Tri.skip ?_
       show Tri _ _ _ _
       refine Tri.seqJ (fun (a5 : Int × Int × (List Time)) => ⟨[(0, .c (oC 5000 3 a5.2.2)), (1, cD (i6 a1.1)), (2, cD (i6 a1.2.1)), (3, cD (i6 a5.1)), (4, cD (.fn 20 [])), (10, cD (.bool a1.2.2.2.1)), (11, cD (.bool a1.2.2.2.2.1)), (12, cD (i6 a5.2.1))], [(5000, vL 3 encTime a5.2.2)]⟩) h (fun a5 h => ?_) (fun j6 h => ?_)
       ·show Tri _ _ ⟨[(0, .c (oC 5000 3 a5.2.2)), (1, cD (i6 a1.1)), (2, cD (i6 a1.2.1)), (3, cD (i6 a5.1)), (4, cD (.fn 20 [])), (10, cD (.bool a1.2.2.2.1)), (11, cD (.bool a1.2.2.2.2.1)), (12, cD (i6 a5.2.1))], [(5000, vL 3 encTime a5.2.2)]⟩ _
        refine Tri.seqS ?_
        refine Tri.reg ?_
        refine At.seg 4 [0, 1, 2, 3, 4, 10, 11, 12, 48, 49, 50, 51] [5000] (s' := ⟨[(0, .c (oC 5000 3 a5.2.2)), (1, cD (i6 a1.1)), (2, cD (i6 a1.2.1)), (3, cD (i6 a5.1)), (4, cD (.fn 20 [])), (10, cD (.bool a1.2.2.2.1)), (11, cD (.bool a1.2.2.2.2.1)), (12, cD (i6 a5.2.1)), (48, .c (oC 5000 3 a5.2.2)), (49, cD (i6 a1.1)), (50, cD (i6 a1.2.1)), (51, cD (.fn 20 []))], [(5000, vL 3 encTime a5.2.2)]⟩) (c := True ∧ True ∧ True ∧ True ∧ True) (by kernel_rfl) ⟨trivial, trivial, trivial, trivial, trivial⟩ ?_
        obtain ⟨r7, hr7, h⟩ := bind_elim h
        refine At.callA (caps := []) (xs := [.c (oC 5000 3 a5.2.2), cD (i6 a1.1), cD (i6 a1.2.1), cD (.fn 20 [])]) (slices_choosePivotCmpFunc_Time__Compare_ok_v0 hr7) rfl rfl rfl rfl rfl rfl (.cons (AVArg.view (encTime) a5.2.2 rfl) (.cons (.refl _) (.cons (.refl _) (.cons (.refl _) .nil)))) rfl rfl ?_
        refine At.seg 5 [0, 1, 2, 3, 4, 10, 11, 12, 13, 14] [5000] (s' := ⟨[(0, .c (oC 5000 3 a5.2.2)), (1, cD (i6 a1.1)), (2, cD (i6 a1.2.1)), (3, cD (i6 a5.1)), (4, cD (.fn 20 [])), (10, cD (.bool a1.2.2.2.1)), (11, cD (.bool a1.2.2.2.2.1)), (12, cD (i6 a5.2.1)), (13, cD (i6 r7.1)), (14, cD (i6 r7.2))], [(5000, vL 3 encTime a5.2.2)]⟩) (c := True ∧ True ∧ True ∧ True ∧ True ∧ True) (by kernel_rfl) ⟨trivial, trivial, trivial, trivial, trivial, trivial⟩ ?_
        refine At.done rfl ?_
        show Tri _ _ _ _
        refine Tri.seqJ (fun (a8 : Int × Int × (List Time)) => ⟨[(0, .c (oC 5000 3 a8.2.2)), (1, cD (i6 a1.1)), (2, cD (i6 a1.2.1)), (3, cD (i6 a5.1)), (4, cD (.fn 20 [])), (10, cD (.bool a1.2.2.2.1)), (11, cD (.bool a1.2.2.2.2.1)), (12, cD (i6 a5.2.1)), (13, cD (i6 a8.1)), (14, cD (i6 a8.2.1))], [(5000, vL 3 encTime a8.2.2)]⟩) h (fun a8 h => ?_) (fun j9 h => ?_)
        ·show Tri _ _ ⟨[(0, .c (oC 5000 3 a8.2.2)), (1, cD (i6 a1.1)), (2, cD (i6 a1.2.1)), (3, cD (i6 a5.1)), (4, cD (.fn 20 [])), (10, cD (.bool a1.2.2.2.1)), (11, cD (.bool a1.2.2.2.2.1)), (12, cD (i6 a5.2.1)), (13, cD (i6 a8.1)), (14, cD (i6 a8.2.1))], [(5000, vL 3 encTime a8.2.2)]⟩ _
         refine Tri.seqJ (fun (a10 : Bool × Bool × (List Time)) => ⟨[(0, .c (oC 5000 3 a10.2.2)), (1, cD (i6 a1.1)), (2, cD (i6 a1.2.1)), (3, cD (i6 a5.1)), (4, cD (.fn 20 [])), (10, cD (.bool a10.1)), (11, cD (.bool a10.2.1)), (12, cD (i6 a5.2.1)), (13, cD (i6 a8.1))], [(5000, vL 3 encTime a10.2.2)]⟩) h (fun a10 h => ?_) (fun j11 h => ?_)
         ·show Tri _ _ ⟨[(0, .c (oC 5000 3 a10.2.2)), (1, cD (i6 a1.1)), (2, cD (i6 a1.2.1)), (3, cD (i6 a5.1)), (4, cD (.fn 20 [])), (10, cD (.bool a10.1)), (11, cD (.bool a10.2.1)), (12, cD (i6 a5.2.1)), (13, cD (i6 a8.1))], [(5000, vL 3 encTime a10.2.2)]⟩ _
          refine Tri.seqS ?_
          refine Tri.seqJ (fun (a12 : Bool) => ⟨[(0, .c (oC 5000 3 a10.2.2)), (1, cD (i6 a1.1)), (2, cD (i6 a1.2.1)), (3, cD (i6 a5.1)), (4, cD (.fn 20 [])), (10, cD (.bool a10.1)), (11, cD (.bool a10.2.1)), (12, cD (i6 a5.2.1)), (13, cD (i6 a8.1)), (97, cD (.bool a12))], [(5000, vL 3 encTime a10.2.2)]⟩) h (fun a12 h => ?_) (fun j13 h => ?_)
          ·show Tri _ _ ⟨[(0, .c (oC 5000 3 a10.2.2)), (1, cD (i6 a1.1)), (2, cD (i6 a1.2.1)), (3, cD (i6 a5.1)), (4, cD (.fn 20 [])), (10, cD (.bool a10.1)), (11, cD (.bool a10.2.1)), (12, cD (i6 a5.2.1)), (13, cD (i6 a8.1)), (97, cD (.bool a12))], [(5000, vL 3 encTime a10.2.2)]⟩ _
           refine Tri.condP (b := a12) rfl h (fun h => ?_) (fun h => ?_)
           ·refine Tri.seqS ?_
            refine Tri.reg ?_
            refine At.seg 5 [0, 2, 3, 4, 10, 11, 98, 99, 100, 101, 102] [5000] (s' := ⟨[(0, .c (oC 5000 3 a10.2.2)), (2, cD (i6 a1.2.1)), (3, cD (i6 a5.1)), (4, cD (.fn 20 [])), (10, cD (.bool a10.1)), (11, cD (.bool a10.2.1)), (98, .c (oC 5000 3 a10.2.2)), (99, cD (i6 a1.1)), (100, cD (i6 a1.2.1)), (101, cD (i6 a8.1)), (102, cD (.fn 20 []))], [(5000, vL 3 encTime a10.2.2)]⟩) (c := True ∧ True ∧ True ∧ True ∧ True ∧ True) (by kernel_rfl) ⟨trivial, trivial, trivial, trivial, trivial, trivial⟩ ?_
            obtain ⟨r14, hr14, h⟩ := bind_elim h
            refine At.callL (nf := 0) (caps := []) (xs := [.c (oC 5000 3 a10.2.2), cD (i6 a1.1), cD (i6 a1.2.1), cD (i6 a8.1), cD (.fn 20 [])]) [(5000, 5000)] [0, 2, 3, 4, 10, 11] [] (s0 := ⟨[(0, .c (oC 5000 3 a10.2.2)), (2, cD (i6 a1.2.1)), (3, cD (i6 a5.1)), (4, cD (.fn 20 [])), (10, cD (.bool a10.1)), (11, cD (.bool a10.2.1))], []⟩) (slices_partitionEqualCmpFunc_Time__Compare_w_ok hr14) rfl rfl (by kernel_rfl) rfl (by kernel_rfl) (by kernel_rfl) (.ren rfl rfl (.flat (.refl _) rfl rfl (.flat (.refl _) rfl rfl (.flat (.refl _) rfl rfl (.flat (.refl _) rfl rfl .nil))))) ⟨⟨by kernel_rfl, by kernel_rfl⟩, trivial⟩ (by kernel_rfl) (by kernel_rfl) (by kernel_rfl) (by kernel_rfl) (by kernel_rfl) (by kernel_rfl) (by kernel_rfl) (by kernel_rfl) (by kernel_rfl) ⟨[(103, cD (i6 r14.1)), (0, .c (oC 5000 3 a10.2.2)), (2, cD (i6 a1.2.1)), (3, cD (i6 a5.1)), (4, cD (.fn 20 [])), (10, cD (.bool a10.1)), (11, cD (.bool a10.2.1))], [(5000, vL 3 encTime r14.2)]⟩ (by kernel_rfl) ?_
            obtain ⟨hc15, h⟩ := need_elim h
            refine At.eqS ⟨[(103, cD (i6 r14.1)), (0, .c (oC 5000 3 r14.2)), (2, cD (i6 a1.2.1)), (3, cD (i6 a5.1)), (4, cD (.fn 20 [])), (10, cD (.bool a10.1)), (11, cD (.bool a10.2.1))], [(5000, vL 3 encTime r14.2)]⟩ (by simp only [oC, vL, hc15]) ?_
            refine At.seg 1 [0, 2, 3, 4, 10, 11, 15] [5000] (s' := ⟨[(0, .c (oC 5000 3 r14.2)), (2, cD (i6 a1.2.1)), (3, cD (i6 a5.1)), (4, cD (.fn 20 [])), (10, cD (.bool a10.1)), (11, cD (.bool a10.2.1)), (15, cD (i6 r14.1))], [(5000, vL 3 encTime r14.2)]⟩) (c := True ∧ True) (by kernel_rfl) ⟨trivial, trivial⟩ ?_
            refine At.done rfl ?_
            show Tri _ _ _ _
            refine Tri.seqS ?_
            refine Tri.reg ?_
            refine At.seg 2 [0, 1, 2, 3, 4, 10, 11] [5000] (s' := ⟨[(0, .c (oC 5000 3 r14.2)), (1, cD (i6 r14.1)), (2, cD (i6 a1.2.1)), (3, cD (i6 a5.1)), (4, cD (.fn 20 [])), (10, cD (.bool a10.1)), (11, cD (.bool a10.2.1))], [(5000, vL 3 encTime r14.2)]⟩) (c := True ∧ True ∧ True) (by kernel_rfl) ⟨trivial, trivial, trivial⟩ ?_
            refine At.done rfl ?_
            show Tri _ _ _ _
            refine Tri.keep [0, 1, 2, 3, 4, 10, 11] [5000] (s' := ⟨[(0, .c (oC 5000 3 r14.2)), (1, cD (i6 r14.1)), (2, cD (i6 a1.2.1)), (3, cD (i6 a5.1)), (4, cD (.fn 20 [])), (10, cD (.bool a10.1)), (11, cD (.bool a10.2.1))], [(5000, vL 3 encTime r14.2)]⟩) (by kernel_rfl) ?_
            refine Tri.exit ?_
            cases h
            exact rfl
           ·refine Tri.skip ?_
            show Tri _ _ _ _
            refine Tri.seqS ?_
            refine Tri.reg ?_
            refine At.seg 5 [0, 1, 2, 3, 4, 12, 106, 107, 108, 109, 110] [5000] (s' := ⟨[(0, .c (oC 5000 3 a10.2.2)), (1, cD (i6 a1.1)), (2, cD (i6 a1.2.1)), (3, cD (i6 a5.1)), (4, cD (.fn 20 [])), (12, cD (i6 a5.2.1)), (106, .c (oC 5000 3 a10.2.2)), (107, cD (i6 a1.1)), (108, cD (i6 a1.2.1)), (109, cD (i6 a8.1)), (110, cD (.fn 20 []))], [(5000, vL 3 encTime a10.2.2)]⟩) (c := True ∧ True ∧ True ∧ True ∧ True ∧ True) (by kernel_rfl) ⟨trivial, trivial, trivial, trivial, trivial, trivial⟩ ?_
            obtain ⟨r16, hr16, h⟩ := bind_elim h
            refine At.callL (nf := 0) (caps := []) (xs := [.c (oC 5000 3 a10.2.2), cD (i6 a1.1), cD (i6 a1.2.1), cD (i6 a8.1), cD (.fn 20 [])]) [(5000, 5000)] [0, 1, 2, 3, 4, 12] [] (s0 := ⟨[(0, .c (oC 5000 3 a10.2.2)), (1, cD (i6 a1.1)), (2, cD (i6 a1.2.1)), (3, cD (i6 a5.1)), (4, cD (.fn 20 [])), (12, cD (i6 a5.2.1))], []⟩) (slices_partitionCmpFunc_Time__Compare_w_ok hr16) rfl rfl (by kernel_rfl) rfl (by kernel_rfl) (by kernel_rfl) (.ren rfl rfl (.flat (.refl _) rfl rfl (.flat (.refl _) rfl rfl (.flat (.refl _) rfl rfl (.flat (.refl _) rfl rfl .nil))))) ⟨⟨by kernel_rfl, by kernel_rfl⟩, trivial⟩ (by kernel_rfl) (by kernel_rfl) (by kernel_rfl) (by kernel_rfl) (by kernel_rfl) (by kernel_rfl) (by kernel_rfl) (by kernel_rfl) (by kernel_rfl) ⟨[(111, .tup [(false, [.d (i6 r16.1)]), (false, [.d (.bool r16.2.1)])]), (0, .c (oC 5000 3 a10.2.2)), (1, cD (i6 a1.1)), (2, cD (i6 a1.2.1)), (3, cD (i6 a5.1)), (4, cD (.fn 20 [])), (12, cD (i6 a5.2.1))], [(5000, vL 3 encTime r16.2.2)]⟩ (by kernel_rfl) ?_
            obtain ⟨hc17, h⟩ := need_elim h
            refine At.eqS ⟨[(111, .tup [(false, [.d (i6 r16.1)]), (false, [.d (.bool r16.2.1)])]), (0, .c (oC 5000 3 r16.2.2)), (1, cD (i6 a1.1)), (2, cD (i6 a1.2.1)), (3, cD (i6 a5.1)), (4, cD (.fn 20 [])), (12, cD (i6 a5.2.1))], [(5000, vL 3 encTime r16.2.2)]⟩ (by simp only [oC, vL, hc17]) ?_
            refine At.seg 5 [0, 1, 2, 3, 4, 12, 16, 17] [5000] (s' := ⟨[(0, .c (oC 5000 3 r16.2.2)), (1, cD (i6 a1.1)), (2, cD (i6 a1.2.1)), (3, cD (i6 a5.1)), (4, cD (.fn 20 [])), (12, cD (i6 a5.2.1)), (16, cD (i6 r16.1)), (17, cD (.bool r16.2.1))], [(5000, vL 3 encTime r16.2.2)]⟩) (c := True ∧ True ∧ True ∧ True ∧ True ∧ True) (by kernel_rfl) ⟨trivial, trivial, trivial, trivial, trivial, trivial⟩ ?_
            refine At.done rfl ?_
            show Tri _ _ _ _
            refine Tri.seqS ?_
            refine Tri.reg ?_
            refine At.seg 2 [0, 1, 2, 3, 4, 11, 12, 16] [5000] (s' := ⟨[(0, .c (oC 5000 3 r16.2.2)), (1, cD (i6 a1.1)), (2, cD (i6 a1.2.1)), (3, cD (i6 a5.1)), (4, cD (.fn 20 [])), (11, cD (.bool r16.2.1)), (12, cD (i6 a5.2.1)), (16, cD (i6 r16.1))], [(5000, vL 3 encTime r16.2.2)]⟩) (c := True ∧ True ∧ True) (by kernel_rfl) ⟨trivial, trivial, trivial⟩ ?_
            refine At.done rfl ?_
            show Tri _ _ _ _
            refine Tri.seqS ?_
            refine Tri.reg ?_
            refine At.seg 8 [0, 1, 2, 3, 4, 11, 12, 16, 18, 19] [5000] (s' := ⟨[(0, .c (oC 5000 3 r16.2.2)), (1, cD (i6 a1.1)), (2, cD (i6 a1.2.1)), (3, cD (i6 a5.1)), (4, cD (.fn 20 [])), (11, cD (.bool r16.2.1)), (12, cD (i6 a5.2.1)), (16, cD (i6 r16.1)), (18, cD (i6 (IntKind.i64.wrap (r16.1 - a1.1)))), (19, cD (i6 (IntKind.i64.wrap (a1.2.1 - r16.1))))], [(5000, vL 3 encTime r16.2.2)]⟩) (c := True ∧ True ∧ True ∧ True ∧ True ∧ True ∧ True ∧ True ∧ True) (by kernel_rfl) ⟨trivial, trivial, trivial, trivial, trivial, trivial, trivial, trivial, trivial⟩ ?_
            refine At.done rfl ?_
            show Tri _ _ _ _
            refine Tri.seqS ?_
            refine Tri.reg ?_
            refine At.seg 3 [0, 1, 2, 3, 4, 11, 16, 18, 19, 20] [5000] (s' := ⟨[(0, .c (oC 5000 3 r16.2.2)), (1, cD (i6 a1.1)), (2, cD (i6 a1.2.1)), (3, cD (i6 a5.1)), (4, cD (.fn 20 [])), (11, cD (.bool r16.2.1)), (16, cD (i6 r16.1)), (18, cD (i6 (IntKind.i64.wrap (r16.1 - a1.1)))), (19, cD (i6 (IntKind.i64.wrap (a1.2.1 - r16.1)))), (20, cD (i6 (IntKind.i64.wrap (a5.2.1.tdiv 8))))], [(5000, vL 3 encTime r16.2.2)]⟩) (c := True ∧ ((8 : Int) ≠ 0) ∧ True ∧ True) (by kernel_rfl) ⟨trivial, (by decide : (8 : Int) ≠ 0), trivial, trivial⟩ ?_
            refine At.done rfl ?_
            show Tri _ _ _ _
            refine Tri.seqS ?_
            refine Tri.reg ?_
            refine At.seg 3 [0, 1, 2, 3, 4, 11, 16, 18, 19, 20, 125] [5000] (s' := ⟨[(0, .c (oC 5000 3 r16.2.2)), (1, cD (i6 a1.1)), (2, cD (i6 a1.2.1)), (3, cD (i6 a5.1)), (4, cD (.fn 20 [])), (11, cD (.bool r16.2.1)), (16, cD (i6 r16.1)), (18, cD (i6 (IntKind.i64.wrap (r16.1 - a1.1)))), (19, cD (i6 (IntKind.i64.wrap (a1.2.1 - r16.1)))), (20, cD (i6 (IntKind.i64.wrap (a5.2.1.tdiv 8)))), (125, cD (.bool (decide ((IntKind.i64.wrap (r16.1 - a1.1)) < (IntKind.i64.wrap (a1.2.1 - r16.1))))))], [(5000, vL 3 encTime r16.2.2)]⟩) (c := True ∧ True ∧ True ∧ True) (by kernel_rfl) ⟨trivial, trivial, trivial, trivial⟩ ?_
            refine At.done rfl ?_
            show Tri _ _ _ _
            refine Tri.condP (b := (decide ((IntKind.i64.wrap (r16.1 - a1.1)) < (IntKind.i64.wrap (a1.2.1 - r16.1))))) rfl h (fun h => ?_) (fun h => ?_)
            ·refine Tri.seqS ?_
             refine Tri.reg ?_
             refine At.seg 4 [0, 1, 2, 3, 4, 10, 11, 16] [5000] (s' := ⟨[(0, .c (oC 5000 3 r16.2.2)), (1, cD (i6 a1.1)), (2, cD (i6 a1.2.1)), (3, cD (i6 a5.1)), (4, cD (.fn 20 [])), (10, cD (.bool (decide ((IntKind.i64.wrap (a5.2.1.tdiv 8)) ≤ (IntKind.i64.wrap (r16.1 - a1.1)))))), (11, cD (.bool r16.2.1)), (16, cD (i6 r16.1))], [(5000, vL 3 encTime r16.2.2)]⟩) (c := True ∧ True ∧ True ∧ True ∧ True) (by kernel_rfl) ⟨trivial, trivial, trivial, trivial, trivial⟩ ?_
             refine At.done rfl ?_
             show Tri _ _ _ _
             refine Tri.seqS ?_
             refine Tri.reg ?_
             refine At.seg 5 [0, 2, 3, 4, 10, 11, 16, 129, 130, 131, 132, 133] [5000] (s' := ⟨[(0, .c (oC 5000 3 r16.2.2)), (2, cD (i6 a1.2.1)), (3, cD (i6 a5.1)), (4, cD (.fn 20 [])), (10, cD (.bool (decide ((IntKind.i64.wrap (a5.2.1.tdiv 8)) ≤ (IntKind.i64.wrap (r16.1 - a1.1)))))), (11, cD (.bool r16.2.1)), (16, cD (i6 r16.1)), (129, .c (oC 5000 3 r16.2.2)), (130, cD (i6 a1.1)), (131, cD (i6 r16.1)), (132, cD (i6 a5.1)), (133, cD (.fn 20 []))], [(5000, vL 3 encTime r16.2.2)]⟩) (c := True ∧ True ∧ True ∧ True ∧ True ∧ True) (by kernel_rfl) ⟨trivial, trivial, trivial, trivial, trivial, trivial⟩ ?_
             obtain ⟨r18, hr18, h⟩ := bind_elim h
             refine At.callL (nf := 0) (caps := []) (xs := [.c (oC 5000 3 r16.2.2), cD (i6 a1.1), cD (i6 r16.1), cD (i6 a5.1), cD (.fn 20 [])]) [(5000, 5000)] [0, 2, 3, 4, 10, 11, 16] [] (s0 := ⟨[(0, .c (oC 5000 3 r16.2.2)), (2, cD (i6 a1.2.1)), (3, cD (i6 a5.1)), (4, cD (.fn 20 [])), (10, cD (.bool (decide ((IntKind.i64.wrap (a5.2.1.tdiv 8)) ≤ (IntKind.i64.wrap (r16.1 - a1.1)))))), (11, cD (.bool r16.2.1)), (16, cD (i6 r16.1))], []⟩) (ih hr18) rfl rfl (by kernel_rfl) rfl (by kernel_rfl) (by kernel_rfl) (.ren rfl rfl (.flat (.refl _) rfl rfl (.flat (.refl _) rfl rfl (.flat (.refl _) rfl rfl (.flat (.refl _) rfl rfl .nil))))) ⟨⟨by kernel_rfl, by kernel_rfl⟩, trivial⟩ (by kernel_rfl) (by kernel_rfl) (by kernel_rfl) (by kernel_rfl) (by kernel_rfl) (by kernel_rfl) (by kernel_rfl) (by kernel_rfl) (by kernel_rfl) ⟨[(134, .tup []), (0, .c (oC 5000 3 r16.2.2)), (2, cD (i6 a1.2.1)), (3, cD (i6 a5.1)), (4, cD (.fn 20 [])), (10, cD (.bool (decide ((IntKind.i64.wrap (a5.2.1.tdiv 8)) ≤ (IntKind.i64.wrap (r16.1 - a1.1)))))), (11, cD (.bool r16.2.1)), (16, cD (i6 r16.1))], [(5000, vL 3 encTime r18)]⟩ (by kernel_rfl) ?_
             obtain ⟨hc19, h⟩ := need_elim h
             refine At.eqS ⟨[(134, .tup []), (0, .c (oC 5000 3 r18)), (2, cD (i6 a1.2.1)), (3, cD (i6 a5.1)), (4, cD (.fn 20 [])), (10, cD (.bool (decide ((IntKind.i64.wrap (a5.2.1.tdiv 8)) ≤ (IntKind.i64.wrap (r16.1 - a1.1)))))), (11, cD (.bool r16.2.1)), (16, cD (i6 r16.1))], [(5000, vL 3 encTime r18)]⟩ (by simp only [oC, vL, hc19]) ?_
             refine At.done rfl ?_
             show Tri _ _ _ _
             refine Tri.reg ?_
             refine At.seg 3 [0, 1, 2, 3, 4, 10, 11] [5000] (s' := ⟨[(0, .c (oC 5000 3 r18)), (1, cD (i6 (IntKind.i64.wrap (r16.1 + 1)))), (2, cD (i6 a1.2.1)), (3, cD (i6 a5.1)), (4, cD (.fn 20 [])), (10, cD (.bool (decide ((IntKind.i64.wrap (a5.2.1.tdiv 8)) ≤ (IntKind.i64.wrap (r16.1 - a1.1)))))), (11, cD (.bool r16.2.1))], [(5000, vL 3 encTime r18)]⟩) (c := True ∧ True ∧ True ∧ True) (by kernel_rfl) ⟨trivial, trivial, trivial, trivial⟩ ?_
             refine At.done rfl ?_
             cases h
             exact rfl
            ·refine Tri.seqS ?_
             refine Tri.reg ?_
             refine At.seg 4 [0, 1, 2, 3, 4, 10, 11, 16] [5000] (s' := ⟨[(0, .c (oC 5000 3 r16.2.2)), (1, cD (i6 a1.1)), (2, cD (i6 a1.2.1)), (3, cD (i6 a5.1)), (4, cD (.fn 20 [])), (10, cD (.bool (decide ((IntKind.i64.wrap (a5.2.1.tdiv 8)) ≤ (IntKind.i64.wrap (a1.2.1 - r16.1)))))), (11, cD (.bool r16.2.1)), (16, cD (i6 r16.1))], [(5000, vL 3 encTime r16.2.2)]⟩) (c := True ∧ True ∧ True ∧ True ∧ True) (by kernel_rfl) ⟨trivial, trivial, trivial, trivial, trivial⟩ ?_
             refine At.done rfl ?_
             show Tri _ _ _ _
             refine Tri.seqS ?_
             refine Tri.reg ?_
             refine At.seg 6 [0, 1, 3, 4, 10, 11, 16, 140, 142, 143, 144, 145] [5000] (s' := ⟨[(0, .c (oC 5000 3 r16.2.2)), (1, cD (i6 a1.1)), (3, cD (i6 a5.1)), (4, cD (.fn 20 [])), (10, cD (.bool (decide ((IntKind.i64.wrap (a5.2.1.tdiv 8)) ≤ (IntKind.i64.wrap (a1.2.1 - r16.1)))))), (11, cD (.bool r16.2.1)), (16, cD (i6 r16.1)), (140, .c (oC 5000 3 r16.2.2)), (142, cD (i6 (IntKind.i64.wrap (r16.1 + 1)))), (143, cD (i6 a1.2.1)), (144, cD (i6 a5.1)), (145, cD (.fn 20 []))], [(5000, vL 3 encTime r16.2.2)]⟩) (c := True ∧ True ∧ True ∧ True ∧ True ∧ True ∧ True) (by kernel_rfl) ⟨trivial, trivial, trivial, trivial, trivial, trivial, trivial⟩ ?_
             obtain ⟨r20, hr20, h⟩ := bind_elim h
             refine At.callL (nf := 0) (caps := []) (xs := [.c (oC 5000 3 r16.2.2), cD (i6 (IntKind.i64.wrap (r16.1 + 1))), cD (i6 a1.2.1), cD (i6 a5.1), cD (.fn 20 [])]) [(5000, 5000)] [0, 1, 3, 4, 10, 11, 16] [] (s0 := ⟨[(0, .c (oC 5000 3 r16.2.2)), (1, cD (i6 a1.1)), (3, cD (i6 a5.1)), (4, cD (.fn 20 [])), (10, cD (.bool (decide ((IntKind.i64.wrap (a5.2.1.tdiv 8)) ≤ (IntKind.i64.wrap (a1.2.1 - r16.1)))))), (11, cD (.bool r16.2.1)), (16, cD (i6 r16.1))], []⟩) (ih hr20) rfl rfl (by kernel_rfl) rfl (by kernel_rfl) (by kernel_rfl) (.ren rfl rfl (.flat (.refl _) rfl rfl (.flat (.refl _) rfl rfl (.flat (.refl _) rfl rfl (.flat (.refl _) rfl rfl .nil))))) ⟨⟨by kernel_rfl, by kernel_rfl⟩, trivial⟩ (by kernel_rfl) (by kernel_rfl) (by kernel_rfl) (by kernel_rfl) (by kernel_rfl) (by kernel_rfl) (by kernel_rfl) (by kernel_rfl) (by kernel_rfl) ⟨[(146, .tup []), (0, .c (oC 5000 3 r16.2.2)), (1, cD (i6 a1.1)), (3, cD (i6 a5.1)), (4, cD (.fn 20 [])), (10, cD (.bool (decide ((IntKind.i64.wrap (a5.2.1.tdiv 8)) ≤ (IntKind.i64.wrap (a1.2.1 - r16.1)))))), (11, cD (.bool r16.2.1)), (16, cD (i6 r16.1))], [(5000, vL 3 encTime r20)]⟩ (by kernel_rfl) ?_
             obtain ⟨hc21, h⟩ := need_elim h
             refine At.eqS ⟨[(146, .tup []), (0, .c (oC 5000 3 r20)), (1, cD (i6 a1.1)), (3, cD (i6 a5.1)), (4, cD (.fn 20 [])), (10, cD (.bool (decide ((IntKind.i64.wrap (a5.2.1.tdiv 8)) ≤ (IntKind.i64.wrap (a1.2.1 - r16.1)))))), (11, cD (.bool r16.2.1)), (16, cD (i6 r16.1))], [(5000, vL 3 encTime r20)]⟩ (by simp only [oC, vL, hc21]) ?_
             refine At.done rfl ?_
             show Tri _ _ _ _
             refine Tri.reg ?_
             refine At.seg 2 [0, 1, 2, 3, 4, 10, 11] [5000] (s' := ⟨[(0, .c (oC 5000 3 r20)), (1, cD (i6 a1.1)), (2, cD (i6 r16.1)), (3, cD (i6 a5.1)), (4, cD (.fn 20 [])), (10, cD (.bool (decide ((IntKind.i64.wrap (a5.2.1.tdiv 8)) ≤ (IntKind.i64.wrap (a1.2.1 - r16.1)))))), (11, cD (.bool r16.2.1))], [(5000, vL 3 encTime r20)]⟩) (c := True ∧ True ∧ True) (by kernel_rfl) ⟨trivial, trivial, trivial⟩ ?_
             refine At.done rfl ?_
             cases h
             exact rfl
          ·rcases bf_cases h with ⟨hp22, h⟩ | ⟨hp22, h⟩
           ·obtain ⟨hc23, h⟩ := need_elim h
            obtain ⟨hc24, h⟩ := need_elim h
            obtain ⟨hc25, h⟩ := need_elim h
            obtain ⟨hc26, h⟩ := need_elim h
            obtain ⟨r27, hr27, h⟩ := bind_elim h
            refine Tri.drawn (specs := [⟨⟨[(1, cD (i6 a1.1))], []⟩, ⟨[(81, cD (i6 a1.1))], []⟩, [], [], []⟩, ⟨⟨[(81, cD (i6 a1.1))], []⟩, ⟨[(82, cD (.bool (decide (0 < a1.1))))], []⟩, [], [], []⟩, ⟨⟨[(82, cD (.bool (decide (0 < a1.1))))], []⟩, ⟨[(83, .c (.d (.bool true)))], []⟩, [], [], []⟩, ⟨⟨[(4, cD (.fn 20 [])), (83, cD (.bool true))], []⟩, ⟨[(84, cD (.fn 20 []))], []⟩, [], [], []⟩, ⟨⟨[(0, .c (oC 5000 3 a10.2.2)), (83, cD (.bool true))], []⟩, ⟨[(85, .c (oC 5000 3 a10.2.2))], []⟩, [], [], []⟩, ⟨⟨[(1, cD (i6 a1.1)), (83, cD (.bool true))], []⟩, ⟨[(86, cD (i6 a1.1))], []⟩, [], [], []⟩, ⟨⟨[(83, cD (.bool true)), (86, cD (i6 a1.1))], []⟩, ⟨[(87, cD (i6 (IntKind.i64.wrap (a1.1 - 1))))], []⟩, [], [], []⟩, ⟨⟨[(83, cD (.bool true)), (85, .c (oC 5000 3 a10.2.2)), (87, cD (i6 (IntKind.i64.wrap (a1.1 - 1))))], [(5000, vL 3 encTime a10.2.2)]⟩, ⟨[(88, .c (.vptr 5000 3 (0 + (IntKind.i64.wrap (a1.1 - 1)).toNat) 0))], []⟩, [], [], []⟩, ⟨⟨[(83, cD (.bool true)), (88, .c (.vptr 5000 3 (0 + (IntKind.i64.wrap (a1.1 - 1)).toNat) 0))], [(5000, vL 3 encTime a10.2.2)]⟩, ⟨[(89, .agg (cTime (a10.2.2.getD (0 + (IntKind.i64.wrap (a1.1 - 1)).toNat) default)))], []⟩, [], [], []⟩, ⟨⟨[(0, .c (oC 5000 3 a10.2.2)), (83, cD (.bool true))], []⟩, ⟨[(90, .c (oC 5000 3 a10.2.2))], []⟩, [], [], []⟩, ⟨⟨[(13, cD (i6 a8.1)), (83, cD (.bool true))], []⟩, ⟨[(91, cD (i6 a8.1))], []⟩, [], [], []⟩, ⟨⟨[(83, cD (.bool true)), (90, .c (oC 5000 3 a10.2.2)), (91, cD (i6 a8.1))], [(5000, vL 3 encTime a10.2.2)]⟩, ⟨[(92, .c (.vptr 5000 3 (0 + a8.1.toNat) 0))], []⟩, [], [], []⟩, ⟨⟨[(83, cD (.bool true)), (92, .c (.vptr 5000 3 (0 + a8.1.toNat) 0))], [(5000, vL 3 encTime a10.2.2)]⟩, ⟨[(93, .agg (cTime (a10.2.2.getD (0 + a8.1.toNat) default)))], []⟩, [], [], []⟩, ⟨⟨[(83, cD (.bool true)), (84, cD (.fn 20 [])), (89, .agg (cTime (a10.2.2.getD (0 + (IntKind.i64.wrap (a1.1 - 1)).toNat) default))), (93, .agg (cTime (a10.2.2.getD (0 + a8.1.toNat) default)))], []⟩, ⟨[(94, cD (i6 r27))], []⟩, [], [], []⟩, ⟨⟨[(83, cD (.bool true)), (94, cD (i6 r27))], []⟩, ⟨[(95, cD (.bool (decide (r27 < 0))))], []⟩, [], [], []⟩, ⟨⟨[(83, cD (.bool true)), (95, cD (.bool (decide (r27 < 0))))], []⟩, ⟨[(96, cD (.bool (!(decide (r27 < 0)))))], []⟩, [], [], []⟩, ⟨⟨[(83, cD (.bool true)), (96, cD (.bool (!(decide (r27 < 0)))))], []⟩, ⟨[(97, cD (.bool (!(decide (r27 < 0)))))], []⟩, [], [], []⟩]) (bef := [[], [0], [0, 1], [0, 1, 2], [0, 1, 2], [0, 1, 2], [0, 1, 2, 5], [0, 1, 2, 4, 5, 6], [0, 1, 2, 4, 5, 6, 7], [0, 1, 2], [0, 1, 2], [0, 1, 2, 9, 10], [0, 1, 2, 9, 10, 11], [0, 1, 2, 3, 4, 5, 6, 7, 8, 9, 10, 11, 12], [0, 1, 2, 3, 4, 5, 6, 7, 8, 9, 10, 11, 12, 13], [0, 1, 2, 3, 4, 5, 6, 7, 8, 9, 10, 11, 12, 13, 14], [0, 1, 2, 3, 4, 5, 6, 7, 8, 9, 10, 11, 12, 13, 14, 15]]) (tk := [0, 1, 2, 3, 4, 10, 11, 12, 13, 97]) (sk := [5000]) (s' := ⟨[(0, .c (oC 5000 3 a10.2.2)), (1, cD (i6 a1.1)), (2, cD (i6 a1.2.1)), (3, cD (i6 a5.1)), (4, cD (.fn 20 [])), (10, cD (.bool a10.1)), (11, cD (.bool a10.2.1)), (12, cD (i6 a5.2.1)), (13, cD (i6 a8.1)), (97, cD (.bool (!(decide (r27 < 0)))))], [(5000, vL 3 encTime a10.2.2)]⟩) (by kernel_rfl) (by kernel_rfl) (by kernel_rfl) ⟨?_, ?_, ?_, ?_, ?_, ?_, ?_, ?_, ?_, ?_, ?_, ?_, ?_, ?_, ?_, ?_, ?_, trivial⟩ (by kernel_rfl) ?_
            · exact DOk.t rfl rfl (by kernel_rfl) (by kernel_rfl) (by kernel_rfl) (by kernel_rfl)
            · exact DOk.t rfl rfl (by kernel_rfl) (by kernel_rfl) (by kernel_rfl) (by kernel_rfl)
            · exact DOk.stepP (fun b => .val (.c (.d (.bool b))) (True)) (p := (decide (0 < a1.1))) hp22 (fun r => by kernel_rfl) (fun r => by kernel_rfl) trivial (by kernel_rfl) (by kernel_rfl) (fun r => rfl)
            · exact DOk.t rfl rfl (by kernel_rfl) (by kernel_rfl) (by kernel_rfl) (by kernel_rfl)
            · exact DOk.t rfl rfl (by kernel_rfl) (by kernel_rfl) (by kernel_rfl) (by kernel_rfl)
            · exact DOk.t rfl rfl (by kernel_rfl) (by kernel_rfl) (by kernel_rfl) (by kernel_rfl)
            · exact DOk.t rfl rfl (by kernel_rfl) (by kernel_rfl) (by kernel_rfl) (by kernel_rfl)
            · exact DOk.step (.val (.c (.vptr 5000 3 (0 + (IntKind.i64.wrap (a1.1 - 1)).toNat) 0)) ((0 : Int) ≤ (IntKind.i64.wrap (a1.1 - 1)) ∧ (IntKind.i64.wrap (a1.1 - 1)) < (a10.2.2.length : Int))) (fun r => by kernel_rfl) (fun r => by kernel_rfl) hc23 (by kernel_rfl) (by kernel_rfl) (fun r => rfl)
            · exact DOk.step (.val (.agg (cTime (a10.2.2.getD (0 + (IntKind.i64.wrap (a1.1 - 1)).toNat) default))) ((0 + (IntKind.i64.wrap (a1.1 - 1)).toNat) < a10.2.2.length)) (fun r => by kernel_rfl) (fun r => by kernel_rfl) hc24 (by kernel_rfl) (by kernel_rfl) (fun r => rfl)
            · exact DOk.t rfl rfl (by kernel_rfl) (by kernel_rfl) (by kernel_rfl) (by kernel_rfl)
            · exact DOk.t rfl rfl (by kernel_rfl) (by kernel_rfl) (by kernel_rfl) (by kernel_rfl)
            · exact DOk.step (.val (.c (.vptr 5000 3 (0 + a8.1.toNat) 0)) ((0 : Int) ≤ a8.1 ∧ a8.1 < (a10.2.2.length : Int))) (fun r => by kernel_rfl) (fun r => by kernel_rfl) hc25 (by kernel_rfl) (by kernel_rfl) (fun r => rfl)
            · exact DOk.step (.val (.agg (cTime (a10.2.2.getD (0 + a8.1.toNat) default))) ((0 + a8.1.toNat) < a10.2.2.length)) (fun r => by kernel_rfl) (fun r => by kernel_rfl) hc26 (by kernel_rfl) (by kernel_rfl) (fun r => rfl)
            · exact DOk.callA (caps := []) (xs := [.agg (cTime (a10.2.2.getD (0 + (IntKind.i64.wrap (a1.1 - 1)).toNat) default)), .agg (cTime (a10.2.2.getD (0 + a8.1.toNat) default))]) (moment_Compare_ok hr27) rfl (fun r => by kernel_rfl) rfl (fun r => by kernel_rfl) (fun r => by kernel_rfl) (fun r => (.cons (.refl _) (.cons (.refl _) .nil))) rfl rfl (fun r => rfl)
            · exact DOk.t rfl rfl (by kernel_rfl) (by kernel_rfl) (by kernel_rfl) (by kernel_rfl)
            · exact DOk.t rfl rfl (by kernel_rfl) (by kernel_rfl) (by kernel_rfl) (by kernel_rfl)
            · exact DOk.t rfl rfl (by kernel_rfl) (by kernel_rfl) (by kernel_rfl) (by kernel_rfl)
            exact ⟨_, h, rfl⟩
           ·refine Tri.drawn (specs := [⟨⟨[(1, cD (i6 a1.1))], []⟩, ⟨[(81, cD (i6 a1.1))], []⟩, [], [], []⟩, ⟨⟨[(81, cD (i6 a1.1))], []⟩, ⟨[(82, cD (.bool (decide (0 < a1.1))))], []⟩, [], [], []⟩, ⟨⟨[(82, cD (.bool (decide (0 < a1.1))))], []⟩, ⟨[(83, .c (.d (.bool false)))], []⟩, [], [], []⟩, ⟨⟨[(4, cD (.fn 20 [])), (83, cD (.bool false))], []⟩, ⟨[(84, .tup [])], []⟩, [], [], []⟩, ⟨⟨[(0, .c (oC 5000 3 a10.2.2)), (83, cD (.bool false))], []⟩, ⟨[(85, .tup [])], []⟩, [], [], []⟩, ⟨⟨[(1, cD (i6 a1.1)), (83, cD (.bool false))], []⟩, ⟨[(86, .tup [])], []⟩, [], [], []⟩, ⟨⟨[(83, cD (.bool false)), (86, .tup [])], []⟩, ⟨[(87, .tup [])], []⟩, [], [], []⟩, ⟨⟨[(83, cD (.bool false)), (85, .tup []), (87, .tup [])], []⟩, ⟨[(88, .tup [])], []⟩, [], [], []⟩, ⟨⟨[(83, cD (.bool false)), (88, .tup [])], []⟩, ⟨[(89, .tup [])], []⟩, [], [], []⟩, ⟨⟨[(0, .c (oC 5000 3 a10.2.2)), (83, cD (.bool false))], []⟩, ⟨[(90, .tup [])], []⟩, [], [], []⟩, ⟨⟨[(13, cD (i6 a8.1)), (83, cD (.bool false))], []⟩, ⟨[(91, .tup [])], []⟩, [], [], []⟩, ⟨⟨[(83, cD (.bool false)), (90, .tup []), (91, .tup [])], []⟩, ⟨[(92, .tup [])], []⟩, [], [], []⟩, ⟨⟨[(83, cD (.bool false)), (92, .tup [])], []⟩, ⟨[(93, .tup [])], []⟩, [], [], []⟩, ⟨⟨[(83, cD (.bool false)), (84, .tup []), (89, .tup []), (93, .tup [])], []⟩, ⟨[(94, .tup [])], []⟩, [], [], []⟩, ⟨⟨[(83, cD (.bool false)), (94, .tup [])], []⟩, ⟨[(95, .tup [])], []⟩, [], [], []⟩, ⟨⟨[(83, cD (.bool false)), (95, .tup [])], []⟩, ⟨[(96, .tup [])], []⟩, [], [], []⟩, ⟨⟨[(83, cD (.bool false)), (96, .tup [])], []⟩, ⟨[(97, cD (.bool false))], []⟩, [], [], []⟩]) (bef := [[], [0], [0, 1], [0, 1, 2], [0, 1, 2], [0, 1, 2], [0, 1, 2, 5], [0, 1, 2, 4, 5, 6], [0, 1, 2, 4, 5, 6, 7], [0, 1, 2], [0, 1, 2], [0, 1, 2, 9, 10], [0, 1, 2, 9, 10, 11], [0, 1, 2, 3, 4, 5, 6, 7, 8, 9, 10, 11, 12], [0, 1, 2, 3, 4, 5, 6, 7, 8, 9, 10, 11, 12, 13], [0, 1, 2, 3, 4, 5, 6, 7, 8, 9, 10, 11, 12, 13, 14], [0, 1, 2, 3, 4, 5, 6, 7, 8, 9, 10, 11, 12, 13, 14, 15]]) (tk := [0, 1, 2, 3, 4, 10, 11, 12, 13, 97]) (sk := [5000]) (s' := ⟨[(0, .c (oC 5000 3 a10.2.2)), (1, cD (i6 a1.1)), (2, cD (i6 a1.2.1)), (3, cD (i6 a5.1)), (4, cD (.fn 20 [])), (10, cD (.bool a10.1)), (11, cD (.bool a10.2.1)), (12, cD (i6 a5.2.1)), (13, cD (i6 a8.1)), (97, cD (.bool false))], [(5000, vL 3 encTime a10.2.2)]⟩) (by kernel_rfl) (by kernel_rfl) (by kernel_rfl) ⟨?_, ?_, ?_, ?_, ?_, ?_, ?_, ?_, ?_, ?_, ?_, ?_, ?_, ?_, ?_, ?_, ?_, trivial⟩ (by kernel_rfl) ?_
            · exact DOk.t rfl rfl (by kernel_rfl) (by kernel_rfl) (by kernel_rfl) (by kernel_rfl)
            · exact DOk.t rfl rfl (by kernel_rfl) (by kernel_rfl) (by kernel_rfl) (by kernel_rfl)
            · exact DOk.stepP (fun b => .val (.c (.d (.bool b))) (True)) (p := (decide (0 < a1.1))) hp22 (fun r => by kernel_rfl) (fun r => by kernel_rfl) trivial (by kernel_rfl) (by kernel_rfl) (fun r => rfl)
            · exact DOk.skip (fun r => by kernel_rfl) rfl rfl (fun r => rfl)
            · exact DOk.skip (fun r => by kernel_rfl) rfl rfl (fun r => rfl)
            · exact DOk.skip (fun r => by kernel_rfl) rfl rfl (fun r => rfl)
            · exact DOk.skip (fun r => by kernel_rfl) rfl rfl (fun r => rfl)
            · exact DOk.skip (fun r => by kernel_rfl) rfl rfl (fun r => rfl)
            · exact DOk.skip (fun r => by kernel_rfl) rfl rfl (fun r => rfl)
            · exact DOk.skip (fun r => by kernel_rfl) rfl rfl (fun r => rfl)
            · exact DOk.skip (fun r => by kernel_rfl) rfl rfl (fun r => rfl)
            · exact DOk.skip (fun r => by kernel_rfl) rfl rfl (fun r => rfl)
            · exact DOk.skip (fun r => by kernel_rfl) rfl rfl (fun r => rfl)
            · exact DOk.skip (fun r => by kernel_rfl) rfl rfl (fun r => rfl)
            · exact DOk.skip (fun r => by kernel_rfl) rfl rfl (fun r => rfl)
            · exact DOk.skip (fun r => by kernel_rfl) rfl rfl (fun r => rfl)
            · exact DOk.t rfl rfl (by kernel_rfl) (by kernel_rfl) (by kernel_rfl) (by kernel_rfl)
            exact ⟨_, h, rfl⟩
         ·refine Tri.seqJ (fun (a28 : Bool × Bool × Bool) => ⟨[(0, .c (oC 5000 3 a8.2.2)), (1, cD (i6 a1.1)), (2, cD (i6 a1.2.1)), (3, cD (i6 a5.1)), (4, cD (.fn 20 [])), (10, cD (.bool a28.1)), (11, cD (.bool a28.2.1)), (12, cD (i6 a5.2.1)), (13, cD (i6 a8.1)), (75, cD (.bool a28.2.2))], [(5000, vL 3 encTime a8.2.2)]⟩) h (fun a28 h => ?_) (fun j29 h => ?_)
          ·show Tri _ _ ⟨[(0, .c (oC 5000 3 a8.2.2)), (1, cD (i6 a1.1)), (2, cD (i6 a1.2.1)), (3, cD (i6 a5.1)), (4, cD (.fn 20 [])), (10, cD (.bool a28.1)), (11, cD (.bool a28.2.1)), (12, cD (i6 a5.2.1)), (13, cD (i6 a8.1)), (75, cD (.bool a28.2.2))], [(5000, vL 3 encTime a8.2.2)]⟩ _
           refine Tri.condP (b := a28.2.2) rfl h (fun h => ?_) (fun h => ?_)
           ·refine Tri.seqS ?_
            refine Tri.reg ?_
            refine At.seg 4 [0, 1, 2, 3, 4, 10, 11, 12, 13, 76, 77, 78, 79] [5000] (s' := ⟨[(0, .c (oC 5000 3 a8.2.2)), (1, cD (i6 a1.1)), (2, cD (i6 a1.2.1)), (3, cD (i6 a5.1)), (4, cD (.fn 20 [])), (10, cD (.bool a28.1)), (11, cD (.bool a28.2.1)), (12, cD (i6 a5.2.1)), (13, cD (i6 a8.1)), (76, .c (oC 5000 3 a8.2.2)), (77, cD (i6 a1.1)), (78, cD (i6 a1.2.1)), (79, cD (.fn 20 []))], [(5000, vL 3 encTime a8.2.2)]⟩) (c := True ∧ True ∧ True ∧ True ∧ True) (by kernel_rfl) ⟨trivial, trivial, trivial, trivial, trivial⟩ ?_
            obtain ⟨r30, hr30, h⟩ := bind_elim h
            refine At.callL (nf := 0) (caps := []) (xs := [.c (oC 5000 3 a8.2.2), cD (i6 a1.1), cD (i6 a1.2.1), cD (.fn 20 [])]) [(5000, 5000)] [0, 1, 2, 3, 4, 10, 11, 12, 13] [] (s0 := ⟨[(0, .c (oC 5000 3 a8.2.2)), (1, cD (i6 a1.1)), (2, cD (i6 a1.2.1)), (3, cD (i6 a5.1)), (4, cD (.fn 20 [])), (10, cD (.bool a28.1)), (11, cD (.bool a28.2.1)), (12, cD (i6 a5.2.1)), (13, cD (i6 a8.1))], []⟩) (slices_partialInsertionSortCmpFunc_Time__Compare_w_ok hr30) rfl rfl (by kernel_rfl) rfl (by kernel_rfl) (by kernel_rfl) (.ren rfl rfl (.flat (.refl _) rfl rfl (.flat (.refl _) rfl rfl (.flat (.refl _) rfl rfl .nil)))) ⟨⟨by kernel_rfl, by kernel_rfl⟩, trivial⟩ (by kernel_rfl) (by kernel_rfl) (by kernel_rfl) (by kernel_rfl) (by kernel_rfl) (by kernel_rfl) (by kernel_rfl) (by kernel_rfl) (by kernel_rfl) ⟨[(80, cD (.bool r30.1)), (0, .c (oC 5000 3 a8.2.2)), (1, cD (i6 a1.1)), (2, cD (i6 a1.2.1)), (3, cD (i6 a5.1)), (4, cD (.fn 20 [])), (10, cD (.bool a28.1)), (11, cD (.bool a28.2.1)), (12, cD (i6 a5.2.1)), (13, cD (i6 a8.1))], [(5000, vL 3 encTime r30.2)]⟩ (by kernel_rfl) ?_
            obtain ⟨hc31, h⟩ := need_elim h
            refine At.eqS ⟨[(80, cD (.bool r30.1)), (0, .c (oC 5000 3 r30.2)), (1, cD (i6 a1.1)), (2, cD (i6 a1.2.1)), (3, cD (i6 a5.1)), (4, cD (.fn 20 [])), (10, cD (.bool a28.1)), (11, cD (.bool a28.2.1)), (12, cD (i6 a5.2.1)), (13, cD (i6 a8.1))], [(5000, vL 3 encTime r30.2)]⟩ (by simp only [oC, vL, hc31]) ?_
            refine At.done rfl ?_
            show Tri _ _ _ _
            refine Tri.condP (b := r30.1) rfl h (fun h => ?_) (fun h => ?_)
            ·refine Tri.keep [] [5000] (s' := ⟨[], [(5000, vL 3 encTime r30.2)]⟩) (by kernel_rfl) ?_
             refine Tri.ret ?_
             cases h
             refine ⟨_, _, rfl, trivial, rfl, rfl, ?_⟩
             exact SubS.out ⟨⟨rfl, rfl⟩, trivial⟩
            ·refine Tri.keep [0, 1, 2, 3, 4, 10, 11, 12, 13] [5000] (s' := ⟨[(0, .c (oC 5000 3 r30.2)), (1, cD (i6 a1.1)), (2, cD (i6 a1.2.1)), (3, cD (i6 a5.1)), (4, cD (.fn 20 [])), (10, cD (.bool a28.1)), (11, cD (.bool a28.2.1)), (12, cD (i6 a5.2.1)), (13, cD (i6 a8.1))], [(5000, vL 3 encTime r30.2)]⟩) (by kernel_rfl) ?_
             refine Tri.skip ?_
             exact ⟨_, h, rfl⟩
           ·refine Tri.keep [0, 1, 2, 3, 4, 10, 11, 12, 13] [5000] (s' := ⟨[(0, .c (oC 5000 3 a8.2.2)), (1, cD (i6 a1.1)), (2, cD (i6 a1.2.1)), (3, cD (i6 a5.1)), (4, cD (.fn 20 [])), (10, cD (.bool a28.1)), (11, cD (.bool a28.2.1)), (12, cD (i6 a5.2.1)), (13, cD (i6 a8.1))], [(5000, vL 3 encTime a8.2.2)]⟩) (by kernel_rfl) ?_
            refine Tri.skip ?_
            exact ⟨_, h, rfl⟩
          ·refine Tri.reg ?_
           refine At.seg 2 [0, 1, 2, 3, 4, 10, 11, 12, 13, 14, 69] [5000] (s' := ⟨[(0, .c (oC 5000 3 a8.2.2)), (1, cD (i6 a1.1)), (2, cD (i6 a1.2.1)), (3, cD (i6 a5.1)), (4, cD (.fn 20 [])), (10, cD (.bool a1.2.2.2.1)), (11, cD (.bool a1.2.2.2.2.1)), (12, cD (i6 a5.2.1)), (13, cD (i6 a8.1)), (14, cD (i6 a8.2.1)), (69, cD (.bool a1.2.2.2.1))], [(5000, vL 3 encTime a8.2.2)]⟩) (c := True ∧ True ∧ True) (by kernel_rfl) ⟨trivial, trivial, trivial⟩ ?_
           refine At.case (fun b => ⟨[(0, .c (oC 5000 3 a8.2.2)), (1, cD (i6 a1.1)), (2, cD (i6 a1.2.1)), (3, cD (i6 a5.1)), (4, cD (.fn 20 [])), (10, cD (.bool b)), (11, cD (.bool a1.2.2.2.2.1)), (12, cD (i6 a5.2.1)), (13, cD (i6 a8.1)), (14, cD (i6 a8.2.1)), (69, cD (.bool b))], [(5000, vL 3 encTime a8.2.2)]⟩) (b := a1.2.2.2.1) h (fun h => ?_) (fun h => ?_)
           ·refine At.seg 3 [0, 1, 2, 3, 4, 10, 11, 12, 13, 14, 72] [5000] (s' := ⟨[(0, .c (oC 5000 3 a8.2.2)), (1, cD (i6 a1.1)), (2, cD (i6 a1.2.1)), (3, cD (i6 a5.1)), (4, cD (.fn 20 [])), (10, cD (.bool true)), (11, cD (.bool a1.2.2.2.2.1)), (12, cD (i6 a5.2.1)), (13, cD (i6 a8.1)), (14, cD (i6 a8.2.1)), (72, cD (.bool a1.2.2.2.2.1))], [(5000, vL 3 encTime a8.2.2)]⟩) (c := True ∧ True ∧ True ∧ True) (by kernel_rfl) ⟨trivial, trivial, trivial, trivial⟩ ?_
            refine At.case (fun b => ⟨[(0, .c (oC 5000 3 a8.2.2)), (1, cD (i6 a1.1)), (2, cD (i6 a1.2.1)), (3, cD (i6 a5.1)), (4, cD (.fn 20 [])), (10, cD (.bool true)), (11, cD (.bool b)), (12, cD (i6 a5.2.1)), (13, cD (i6 a8.1)), (14, cD (i6 a8.2.1)), (72, cD (.bool b))], [(5000, vL 3 encTime a8.2.2)]⟩) (b := a1.2.2.2.2.1) h (fun h => ?_) (fun h => ?_)
            ·refine At.seg 3 [0, 1, 2, 3, 4, 10, 11, 12, 13, 75] [5000] (s' := ⟨[(0, .c (oC 5000 3 a8.2.2)), (1, cD (i6 a1.1)), (2, cD (i6 a1.2.1)), (3, cD (i6 a5.1)), (4, cD (.fn 20 [])), (10, cD (.bool true)), (11, cD (.bool true)), (12, cD (i6 a5.2.1)), (13, cD (i6 a8.1)), (75, cD (.bool (decide (a8.2.1 = 1))))], [(5000, vL 3 encTime a8.2.2)]⟩) (c := True ∧ True ∧ True ∧ True) (by kernel_rfl) ⟨trivial, trivial, trivial, trivial⟩ ?_
             refine At.done rfl ?_
             exact ⟨_, h, rfl⟩
            ·refine At.seg 3 [0, 1, 2, 3, 4, 10, 11, 12, 13, 75] [5000] (s' := ⟨[(0, .c (oC 5000 3 a8.2.2)), (1, cD (i6 a1.1)), (2, cD (i6 a1.2.1)), (3, cD (i6 a5.1)), (4, cD (.fn 20 [])), (10, cD (.bool true)), (11, cD (.bool false)), (12, cD (i6 a5.2.1)), (13, cD (i6 a8.1)), (75, cD (.bool false))], [(5000, vL 3 encTime a8.2.2)]⟩) (c := True ∧ True) (by kernel_rfl) ⟨trivial, trivial⟩ ?_
             refine At.done rfl ?_
             exact ⟨_, h, rfl⟩
           ·refine At.seg 6 [0, 1, 2, 3, 4, 10, 11, 12, 13, 75] [5000] (s' := ⟨[(0, .c (oC 5000 3 a8.2.2)), (1, cD (i6 a1.1)), (2, cD (i6 a1.2.1)), (3, cD (i6 a5.1)), (4, cD (.fn 20 [])), (10, cD (.bool false)), (11, cD (.bool a1.2.2.2.2.1)), (12, cD (i6 a5.2.1)), (13, cD (i6 a8.1)), (75, cD (.bool false))], [(5000, vL 3 encTime a8.2.2)]⟩) (c := True ∧ True ∧ True ∧ True) (by kernel_rfl) ⟨trivial, trivial, trivial, trivial⟩ ?_
            refine At.done rfl ?_
            exact ⟨_, h, rfl⟩
        ·refine Tri.seqS ?_
         refine Tri.reg ?_
         refine At.seg 2 [0, 1, 2, 3, 4, 10, 11, 12, 13, 14, 56] [5000] (s' := ⟨[(0, .c (oC 5000 3 a5.2.2)), (1, cD (i6 a1.1)), (2, cD (i6 a1.2.1)), (3, cD (i6 a5.1)), (4, cD (.fn 20 [])), (10, cD (.bool a1.2.2.2.1)), (11, cD (.bool a1.2.2.2.2.1)), (12, cD (i6 a5.2.1)), (13, cD (i6 r7.1)), (14, cD (i6 r7.2)), (56, cD (.bool (decide (r7.2 = 2))))], [(5000, vL 3 encTime a5.2.2)]⟩) (c := True ∧ True ∧ True) (by kernel_rfl) ⟨trivial, trivial, trivial⟩ ?_
         refine At.done rfl ?_
         show Tri _ _ _ _
         refine Tri.condP (b := (decide (r7.2 = 2))) rfl h (fun h => ?_) (fun h => ?_)
         ·refine Tri.seqS ?_
          refine Tri.reg ?_
          refine At.seg 4 [0, 1, 2, 3, 4, 10, 11, 12, 13, 57, 58, 59, 60] [5000] (s' := ⟨[(0, .c (oC 5000 3 a5.2.2)), (1, cD (i6 a1.1)), (2, cD (i6 a1.2.1)), (3, cD (i6 a5.1)), (4, cD (.fn 20 [])), (10, cD (.bool a1.2.2.2.1)), (11, cD (.bool a1.2.2.2.2.1)), (12, cD (i6 a5.2.1)), (13, cD (i6 r7.1)), (57, .c (oC 5000 3 a5.2.2)), (58, cD (i6 a1.1)), (59, cD (i6 a1.2.1)), (60, cD (.fn 20 []))], [(5000, vL 3 encTime a5.2.2)]⟩) (c := True ∧ True ∧ True ∧ True ∧ True) (by kernel_rfl) ⟨trivial, trivial, trivial, trivial, trivial⟩ ?_
          obtain ⟨r32, hr32, h⟩ := bind_elim h
          refine At.callL (nf := 0) (caps := []) (xs := [.c (oC 5000 3 a5.2.2), cD (i6 a1.1), cD (i6 a1.2.1), cD (.fn 20 [])]) [(5000, 5000)] [0, 1, 2, 3, 4, 10, 11, 12, 13] [] (s0 := ⟨[(0, .c (oC 5000 3 a5.2.2)), (1, cD (i6 a1.1)), (2, cD (i6 a1.2.1)), (3, cD (i6 a5.1)), (4, cD (.fn 20 [])), (10, cD (.bool a1.2.2.2.1)), (11, cD (.bool a1.2.2.2.2.1)), (12, cD (i6 a5.2.1)), (13, cD (i6 r7.1))], []⟩) (slices_reverseRangeCmpFunc_Time__Compare_w_ok hr32) rfl rfl (by kernel_rfl) rfl (by kernel_rfl) (by kernel_rfl) (.ren rfl rfl (.flat (.refl _) rfl rfl (.flat (.refl _) rfl rfl (.flat (.refl _) rfl rfl .nil)))) ⟨⟨by kernel_rfl, by kernel_rfl⟩, trivial⟩ (by kernel_rfl) (by kernel_rfl) (by kernel_rfl) (by kernel_rfl) (by kernel_rfl) (by kernel_rfl) (by kernel_rfl) (by kernel_rfl) (by kernel_rfl) ⟨[(61, .tup []), (0, .c (oC 5000 3 a5.2.2)), (1, cD (i6 a1.1)), (2, cD (i6 a1.2.1)), (3, cD (i6 a5.1)), (4, cD (.fn 20 [])), (10, cD (.bool a1.2.2.2.1)), (11, cD (.bool a1.2.2.2.2.1)), (12, cD (i6 a5.2.1)), (13, cD (i6 r7.1))], [(5000, vL 3 encTime r32)]⟩ (by kernel_rfl) ?_
          obtain ⟨hc33, h⟩ := need_elim h
          refine At.eqS ⟨[(61, .tup []), (0, .c (oC 5000 3 r32)), (1, cD (i6 a1.1)), (2, cD (i6 a1.2.1)), (3, cD (i6 a5.1)), (4, cD (.fn 20 [])), (10, cD (.bool a1.2.2.2.1)), (11, cD (.bool a1.2.2.2.2.1)), (12, cD (i6 a5.2.1)), (13, cD (i6 r7.1))], [(5000, vL 3 encTime r32)]⟩ (by simp only [oC, vL, hc33]) ?_
          refine At.done rfl ?_
          show Tri _ _ _ _
          refine Tri.seqS ?_
          refine Tri.reg ?_
          refine At.seg 7 [0, 1, 2, 3, 4, 10, 11, 12, 13] [5000] (s' := ⟨[(0, .c (oC 5000 3 r32)), (1, cD (i6 a1.1)), (2, cD (i6 a1.2.1)), (3, cD (i6 a5.1)), (4, cD (.fn 20 [])), (10, cD (.bool a1.2.2.2.1)), (11, cD (.bool a1.2.2.2.2.1)), (12, cD (i6 a5.2.1)), (13, cD (i6 (IntKind.i64.wrap ((IntKind.i64.wrap (a1.2.1 - 1)) - (IntKind.i64.wrap (r7.1 - a1.1))))))], [(5000, vL 3 encTime r32)]⟩) (c := True ∧ True ∧ True ∧ True ∧ True ∧ True ∧ True ∧ True) (by kernel_rfl) ⟨trivial, trivial, trivial, trivial, trivial, trivial, trivial, trivial⟩ ?_
          refine At.done rfl ?_
          show Tri _ _ _ _
          refine Tri.reg ?_
          refine At.seg 1 [0, 1, 2, 3, 4, 10, 11, 12, 13, 14] [5000] (s' := ⟨[(0, .c (oC 5000 3 r32)), (1, cD (i6 a1.1)), (2, cD (i6 a1.2.1)), (3, cD (i6 a5.1)), (4, cD (.fn 20 [])), (10, cD (.bool a1.2.2.2.1)), (11, cD (.bool a1.2.2.2.2.1)), (12, cD (i6 a5.2.1)), (13, cD (i6 (IntKind.i64.wrap ((IntKind.i64.wrap (a1.2.1 - 1)) - (IntKind.i64.wrap (r7.1 - a1.1)))))), (14, cD (i6 1))], [(5000, vL 3 encTime r32)]⟩) (c := True ∧ True) (by kernel_rfl) ⟨trivial, trivial⟩ ?_
          refine At.done rfl ?_
          exact ⟨_, h, rfl⟩
         ·refine Tri.keep [0, 1, 2, 3, 4, 10, 11, 12, 13, 14] [5000] (s' := ⟨[(0, .c (oC 5000 3 a5.2.2)), (1, cD (i6 a1.1)), (2, cD (i6 a1.2.1)), (3, cD (i6 a5.1)), (4, cD (.fn 20 [])), (10, cD (.bool a1.2.2.2.1)), (11, cD (.bool a1.2.2.2.2.1)), (12, cD (i6 a5.2.1)), (13, cD (i6 r7.1)), (14, cD (i6 r7.2))], [(5000, vL 3 encTime a5.2.2)]⟩) (by kernel_rfl) ?_
          refine Tri.skip ?_
          exact ⟨_, h, rfl⟩
       ·refine Tri.seqS ?_
        refine Tri.reg ?_
        refine At.seg 2 [0, 1, 2, 3, 4, 10, 11, 12, 39] [5000] (s' := ⟨[(0, .c (oC 5000 3 a1.2.2.2.2.2)), (1, cD (i6 a1.1)), (2, cD (i6 a1.2.1)), (3, cD (i6 a1.2.2.1)), (4, cD (.fn 20 [])), (10, cD (.bool a1.2.2.2.1)), (11, cD (.bool a1.2.2.2.2.1)), (12, cD (i6 (IntKind.i64.wrap (a1.2.1 - a1.1)))), (39, cD (.bool (!a1.2.2.2.1)))], [(5000, vL 3 encTime a1.2.2.2.2.2)]⟩) (c := True ∧ True ∧ True) (by kernel_rfl) ⟨trivial, trivial, trivial⟩ ?_
        refine At.done rfl ?_
        show Tri _ _ _ _
        refine Tri.condP (b := (!a1.2.2.2.1)) rfl h (fun h => ?_) (fun h => ?_)
        ·refine Tri.seqS ?_
         refine Tri.reg ?_
         refine At.seg 4 [0, 1, 2, 3, 4, 10, 11, 12, 40, 41, 42, 43] [5000] (s' := ⟨[(0, .c (oC 5000 3 a1.2.2.2.2.2)), (1, cD (i6 a1.1)), (2, cD (i6 a1.2.1)), (3, cD (i6 a1.2.2.1)), (4, cD (.fn 20 [])), (10, cD (.bool a1.2.2.2.1)), (11, cD (.bool a1.2.2.2.2.1)), (12, cD (i6 (IntKind.i64.wrap (a1.2.1 - a1.1)))), (40, .c (oC 5000 3 a1.2.2.2.2.2)), (41, cD (i6 a1.1)), (42, cD (i6 a1.2.1)), (43, cD (.fn 20 []))], [(5000, vL 3 encTime a1.2.2.2.2.2)]⟩) (c := True ∧ True ∧ True ∧ True ∧ True) (by kernel_rfl) ⟨trivial, trivial, trivial, trivial, trivial⟩ ?_
         obtain ⟨r34, hr34, h⟩ := bind_elim h
         refine At.callL (nf := 0) (caps := []) (xs := [.c (oC 5000 3 a1.2.2.2.2.2), cD (i6 a1.1), cD (i6 a1.2.1), cD (.fn 20 [])]) [(5000, 5000)] [0, 1, 2, 3, 4, 10, 11, 12] [] (s0 := ⟨[(0, .c (oC 5000 3 a1.2.2.2.2.2)), (1, cD (i6 a1.1)), (2, cD (i6 a1.2.1)), (3, cD (i6 a1.2.2.1)), (4, cD (.fn 20 [])), (10, cD (.bool a1.2.2.2.1)), (11, cD (.bool a1.2.2.2.2.1)), (12, cD (i6 (IntKind.i64.wrap (a1.2.1 - a1.1))))], []⟩) (slices_breakPatternsCmpFunc_Time__Compare_w_ok hr34) rfl rfl (by kernel_rfl) rfl (by kernel_rfl) (by kernel_rfl) (.ren rfl rfl (.flat (.refl _) rfl rfl (.flat (.refl _) rfl rfl (.flat (.refl _) rfl rfl .nil)))) ⟨⟨by kernel_rfl, by kernel_rfl⟩, trivial⟩ (by kernel_rfl) (by kernel_rfl) (by kernel_rfl) (by kernel_rfl) (by kernel_rfl) (by kernel_rfl) (by kernel_rfl) (by kernel_rfl) (by kernel_rfl) ⟨[(44, .tup []), (0, .c (oC 5000 3 a1.2.2.2.2.2)), (1, cD (i6 a1.1)), (2, cD (i6 a1.2.1)), (3, cD (i6 a1.2.2.1)), (4, cD (.fn 20 [])), (10, cD (.bool a1.2.2.2.1)), (11, cD (.bool a1.2.2.2.2.1)), (12, cD (i6 (IntKind.i64.wrap (a1.2.1 - a1.1))))], [(5000, vL 3 encTime r34)]⟩ (by kernel_rfl) ?_
         obtain ⟨hc35, h⟩ := need_elim h
         refine At.eqS ⟨[(44, .tup []), (0, .c (oC 5000 3 r34)), (1, cD (i6 a1.1)), (2, cD (i6 a1.2.1)), (3, cD (i6 a1.2.2.1)), (4, cD (.fn 20 [])), (10, cD (.bool a1.2.2.2.1)), (11, cD (.bool a1.2.2.2.2.1)), (12, cD (i6 (IntKind.i64.wrap (a1.2.1 - a1.1))))], [(5000, vL 3 encTime r34)]⟩ (by simp only [oC, vL, hc35]) ?_
         refine At.done rfl ?_
         show Tri _ _ _ _
         refine Tri.reg ?_
         refine At.seg 3 [0, 1, 2, 3, 4, 10, 11, 12] [5000] (s' := ⟨[(0, .c (oC 5000 3 r34)), (1, cD (i6 a1.1)), (2, cD (i6 a1.2.1)), (3, cD (i6 (IntKind.i64.wrap (a1.2.2.1 - 1)))), (4, cD (.fn 20 [])), (10, cD (.bool a1.2.2.2.1)), (11, cD (.bool a1.2.2.2.2.1)), (12, cD (i6 (IntKind.i64.wrap (a1.2.1 - a1.1))))], [(5000, vL 3 encTime r34)]⟩) (c := True ∧ True ∧ True ∧ True) (by kernel_rfl) ⟨trivial, trivial, trivial, trivial⟩ ?_
         refine At.done rfl ?_
         exact ⟨_, h, rfl⟩
        ·refine Tri.keep [0, 1, 2, 3, 4, 10, 11, 12] [5000] (s' := ⟨[(0, .c (oC 5000 3 a1.2.2.2.2.2)), (1, cD (i6 a1.1)), (2, cD (i6 a1.2.1)), (3, cD (i6 a1.2.2.1)), (4, cD (.fn 20 [])), (10, cD (.bool a1.2.2.2.1)), (11, cD (.bool a1.2.2.2.2.1)), (12, cD (i6 (IntKind.i64.wrap (a1.2.1 - a1.1))))], [(5000, vL 3 encTime a1.2.2.2.2.2)]⟩) (by kernel_rfl) ?_
         refine Tri.skip ?_
         exact ⟨_, h, rfl⟩
    ·intro a2 h
     cases h
    · exact fun x s hx hr => by cases hx; exact hr

set_option maxRecDepth 100000 in
theorem slices_SortFuncfreshet_api_Time_freshet_api_Time_Time__Compare_w_ok {fuel : Nat} {l0 : List Time} {q : List Time} (h : slices_SortFuncfreshet_api_Time_freshet_api_Time_Time__Compare_w fuel l0 = some q) :
    Summ Try.prog 42 [.c (oC 5000 3 l0), cD (.fn 20 [])] [(5000, vL 3 encTime l0)] (.tup []) [(5000, vL 3 encTime q)] := by
  refine Summ.intro Try.func42 rfl (by kernel_rfl) (by kernel_rfl) [] rfl ?_
  rintro ⟨P, w0, G0, V, LL, lk, N, φ0, fx⟩ rfl rfl rfl rfl
  unfold slices_SortFuncfreshet_api_Time_freshet_api_Time_Time__Compare_w at h
  refine Tri.seqS ?_
  refine Tri.reg ?_
  refine At.seg 3 [0, 1, 4] [5000] (s' := ⟨[(0, .c (oC 5000 3 l0)), (1, cD (.fn 20 [])), (4, cD (i6 (l0.length : Int)))], [(5000, vL 3 encTime l0)]⟩) (c := True ∧ True ∧ True ∧ True) (by kernel_rfl) ⟨trivial, trivial, trivial, trivial⟩ ?_
  refine At.done rfl ?_
  show Tri _ _ _ _
  refine Tri.reg ?_
  refine At.seg 4 [1, 7, 8, 10] [5000] (s' := ⟨[(1, cD (.fn 20 [])), (7, .c (oC 5000 3 l0)), (8, cD (i6 (l0.length : Int))), (10, cD (u6 (IntKind.u64.wrap (l0.length : Int))))], [(5000, vL 3 encTime l0)]⟩) (c := True ∧ True ∧ True ∧ True ∧ True) (by kernel_rfl) ⟨trivial, trivial, trivial, trivial, trivial⟩ ?_
  obtain ⟨r1, hr1, h⟩ := bind_elim h
  refine At.callA (caps := []) (xs := [cD (u6 (IntKind.u64.wrap (l0.length : Int)))]) (math_bits_Len_ok hr1) rfl rfl rfl rfl rfl rfl (.cons (.refl _) .nil) rfl rfl ?_
  refine At.seg 1 [7, 8, 11, 12] [5000] (s' := ⟨[(7, .c (oC 5000 3 l0)), (8, cD (i6 (l0.length : Int))), (11, cD (i6 r1)), (12, cD (.fn 20 []))], [(5000, vL 3 encTime l0)]⟩) (c := True ∧ True) (by kernel_rfl) ⟨trivial, trivial⟩ ?_
  obtain ⟨r2, hr2, h⟩ := bind_elim h
  refine At.callL (nf := 0) (caps := []) (xs := [.c (oC 5000 3 l0), cD (i6 0), cD (i6 (l0.length : Int)), cD (i6 r1), cD (.fn 20 [])]) [(5000, 5000)] [] [] (s0 := ⟨[], []⟩) (slices_pdqsortCmpFunc_Time__Compare_w_ok hr2) rfl rfl (by kernel_rfl) rfl (by kernel_rfl) (by kernel_rfl) (.ren rfl rfl (.flat (.refl _) rfl rfl (.flat (.refl _) rfl rfl (.flat (.refl _) rfl rfl (.flat (.refl _) rfl rfl .nil))))) ⟨⟨by kernel_rfl, by kernel_rfl⟩, trivial⟩ (by kernel_rfl) (by kernel_rfl) (by kernel_rfl) (by kernel_rfl) (by kernel_rfl) (by kernel_rfl) (by kernel_rfl) (by kernel_rfl) (by kernel_rfl) ⟨[(13, .tup [])], [(5000, vL 3 encTime r2)]⟩ (by kernel_rfl) ?_
  refine At.keep [] [5000] (s' := ⟨[], [(5000, vL 3 encTime r2)]⟩) (by kernel_rfl) ?_
  refine At.done rfl ?_
  cases h
  refine ⟨_, _, rfl, trivial, rfl, rfl, ?_⟩
  exact SubS.out ⟨⟨rfl, rfl⟩, trivial⟩

set_option maxRecDepth 100000 in
theorem moment_greatest_ok {p0 : Int} {p1 : Int} {q : Int} (h : moment_greatest p0 p1 = some q) :
    Summ Try.prog 35 [cD (u6 p0), cD (u6 p1)] [] (cD (u6 q)) [] := by
  refine Summ.intro Try.func35 rfl (by kernel_rfl) (by kernel_rfl) [] rfl ?_
  rintro ⟨P, w0, G0, V, LL, lk, N, φ0, fx⟩ rfl rfl rfl rfl
  unfold moment_greatest at h
  refine Tri.seqS ?_
  refine Tri.reg ?_
  refine At.seg 1 [0, 1] [] (s' := ⟨[(0, cD (u6 p0)), (1, cD (u6 p1))], []⟩) (c := True ∧ True) (by kernel_rfl) ⟨trivial, trivial⟩ ?_
  refine At.done rfl ?_
  show Tri _ _ _ _
  refine Tri.seqS ?_
  refine Tri.reg ?_
  refine At.seg 4 [4] [] (s' := ⟨[(4, cD (u6 (if p0 < p1 then p1 else p0)))], []⟩) (c := True ∧ True ∧ True ∧ True ∧ True) (by kernel_rfl) ⟨trivial, trivial, trivial, trivial, trivial⟩ ?_
  refine At.done rfl ?_
  show Tri _ _ _ _
  refine Tri.keep [4] [] (s' := ⟨[(4, cD (u6 (if p0 < p1 then p1 else p0)))], []⟩) (by kernel_rfl) ?_
  refine Tri.ret ?_
  cases h
  refine ⟨_, _, rfl, ⟨trivial, trivial⟩, rfl, rfl, ?_⟩
  intro k c h
  cases h

end Go.Av