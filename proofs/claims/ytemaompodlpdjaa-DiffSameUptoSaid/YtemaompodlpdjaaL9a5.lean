import Derived.Test.YtemaompodlpdjaaL9a4
namespace Go.Av
open Go Go.Proofs
set_option linter.unusedVariables false
set_option linter.unusedSimpArgs false
set_option maxRecDepth 100000 in
theorem slices_SortStableFuncfreshet_api_Update_freshet_api_Update_Update__diff_Compare_w_ok {fuel : Nat} {l0 : List Update} {q : List Update} (h : slices_SortStableFuncfreshet_api_Update_freshet_api_Update_Update__diff_Compare_w fuel l0 = some q) :
    Summ Try.prog 61 [.c (oC 5000 6 l0), cD (.fn 24 [])] [(5000, vL 6 encUpdate l0)] (.tup []) [(5000, vL 6 encUpdate q)] := by
  refine Summ.intro Try.func61 rfl (by kernel_rfl) (by kernel_rfl) [] rfl ?_
  rintro ⟨P, w0, G0, V, LL, lk, N, φ0, fx⟩ rfl rfl rfl rfl
  unfold slices_SortStableFuncfreshet_api_Update_freshet_api_Update_Update__diff_Compare_w at h
  refine Tri.reg ?_
  refine At.seg 4 [4, 6, 7] [5000] (s' := ⟨[(4, .c (oC 5000 6 l0)), (6, cD (dI (l0.length : Int))), (7, cD (.fn 24 []))], [(5000, vL 6 encUpdate l0)]⟩) (c := True ∧ True ∧ True ∧ True ∧ True) (by kernel_rfl) ⟨trivial, trivial, trivial, trivial, trivial⟩ ?_
  obtain ⟨r1, hr1, h⟩ := bind_elim h
  refine At.callL (nf := 0) (caps := []) (xs := [.c (oC 5000 6 l0), cD (dI (l0.length : Int)), cD (.fn 24 [])]) [(5000, 5000)] [] [] (s0 := ⟨[], []⟩) (slices_stableCmpFunc_Update__diff_Compare_w_ok hr1) rfl rfl (by kernel_rfl) rfl (by kernel_rfl) (by kernel_rfl) (.ren rfl rfl (.flat (.refl _) rfl rfl (.flat (.refl _) rfl rfl .nil))) ⟨⟨by kernel_rfl, by kernel_rfl⟩, trivial⟩ (by kernel_rfl) (by kernel_rfl) (by kernel_rfl) (by kernel_rfl) (by kernel_rfl) (by kernel_rfl) (by kernel_rfl) (by kernel_rfl) (by kernel_rfl) ⟨[(8, .tup [])], [(5000, vL 6 encUpdate r1)]⟩ (by kernel_rfl) ?_
  refine At.keep [] [5000] (s' := ⟨[], [(5000, vL 6 encUpdate r1)]⟩) (by kernel_rfl) ?_
  refine At.done rfl ?_
  cases h
  refine ⟨_, _, rfl, trivial, rfl, rfl, ?_⟩
  exact SubS.out ⟨⟨rfl, rfl⟩, trivial⟩
set_option maxRecDepth 100000 in
theorem diff_Consolidate_1_ok {p0 : Update} {q : Int} (h : diff_Consolidate_1 p0 = some q) :
    Summ Try.prog 39 [.agg (cUpdate p0)] [] (cD (dI q)) [] := by
  refine Summ.intro Try.func39 rfl (by kernel_rfl) (by kernel_rfl) [] rfl ?_
  rintro ⟨P, w0, G0, V, LL, lk, N, φ0, fx⟩ rfl rfl rfl rfl
  unfold diff_Consolidate_1 at h
  refine Tri.segC [1] [1] (allT 2) (by kernel_rfl) (by kernel_rfl) (allT_ok 2) ?_
  refine Tri.segC [2] [] (allT 3) (by kernel_rfl) (by kernel_rfl) (allT_ok 3) ?_
  refine Tri.keep [2] [] (s' := ⟨[(2, cD (dI p0.diff))], []⟩) (by kernel_rfl) ?_
  refine Tri.ret ?_
  cases h
  refine ⟨_, _, rfl, ⟨trivial, trivial⟩, rfl, rfl, ?_⟩
  intro k c h
  cases h
set_option maxRecDepth 100000 in
theorem freshet_diff_tally_add_w_ok {p0 : Nat} {p1 : Int} {l0 : List Line_Update} {q : List Line_Update} (h : freshet_diff_tally_add_w p0 p1 l0 = some q) :
    Summ Try.prog 31 [.c (.vptr 5000 8 p0 0), cD (dI p1)] [(5000, vL 8 encLine_Update l0)] (.tup []) [(5000, vL 8 encLine_Update q)] := by
  refine Summ.intro Try.func31 rfl (by kernel_rfl) (by kernel_rfl) [] rfl ?_
  rintro ⟨P, w0, G0, V, LL, lk, N, φ0, fx⟩ rfl rfl rfl rfl
  unfold freshet_diff_tally_add_w at h
  refine Tri.segL [0, 1] [5000] ⟨[(0, .c (.vptr 5000 8 p0 0)), (1, cD (dI p1))], [(5000, vL 8 encLine_Update l0)]⟩ (allT 1) (by kernel_rfl) (allT_ok 1) ?_
  refine Tri.seqS ?_
  refine Tri.reg ?_
  obtain ⟨hc1, h⟩ := need_elim h
  refine At.seg 7 [0, 1, 6, 10, 12] [5000] (s' := ⟨[(0, .c (.vptr 5000 8 p0 0)), (1, cD (dI p1)), (6, .c (.vptr 5000 8 p0 0)), (10, cD (dU ((l0.getD p0 default).tally.low))), (12, cD (dU (IntKind.u64.wrap p1)))], [(5000, vL 8 encLine_Update l0)]⟩) (c := True ∧ True ∧ True ∧ True ∧ (p0 < l0.length) ∧ True ∧ True ∧ True) (by kernel_rfl) ⟨trivial, trivial, trivial, trivial, hc1, trivial, trivial, trivial⟩ ?_
  obtain ⟨r2, hr2, h⟩ := bind_elim h
  refine At.callA (caps := []) (xs := [cD (dU ((l0.getD p0 default).tally.low)), cD (dU (IntKind.u64.wrap p1)), cD (dU 0)]) (bits_Add64_ok (fn := Try.f60) Try.func60 rfl rfl (by kernel_rfl) (by kernel_rfl) hr2) rfl rfl rfl rfl rfl rfl (.cons (.refl _) (.cons (.refl _) (.cons (.refl _) .nil))) rfl rfl ?_
  refine At.seg 5 [0, 1, 14, 15, 17] [5000] (s' := ⟨[(0, .c (.vptr 5000 8 p0 0)), (1, cD (dI p1)), (14, cD (dU r2.1)), (15, cD (dU r2.2)), (17, .c (.vptr 5000 8 p0 1))], [(5000, vL 8 encLine_Update l0)]⟩) (c := True ∧ True ∧ True ∧ True ∧ True ∧ True) (by kernel_rfl) ⟨trivial, trivial, trivial, trivial, trivial, trivial⟩ ?_
  obtain ⟨hc3, h⟩ := need_elim h
  refine At.one rfl (One.storeT (xs := [.d (dU r2.1)]) (ds := [dU r2.1]) (encLine_Update) l0 (⟨(⟨(l0.getD p0 default).tally.high, r2.1⟩ : Tally), (l0.getD p0 default).of⟩ : Line_Update) rfl rfl rfl rfl rfl hc3 rfl rfl (.refl _) rfl rfl rfl rfl) ?_
  refine At.seg 1 [0, 1, 4] [5000] (s' := ⟨[(0, .c (.vptr 5000 8 p0 0)), (1, cD (dI p1)), (4, cD (dU r2.2))], [(5000, vL 8 encLine_Update (l0.set p0 (⟨(⟨(l0.getD p0 default).tally.high, r2.1⟩ : Tally), (l0.getD p0 default).of⟩ : Line_Update)))]⟩) (c := True ∧ True) (by kernel_rfl) ⟨trivial, trivial⟩ ?_
  refine At.done rfl ?_
  show Tri _ _ _ _
  refine Tri.reg ?_
  obtain ⟨hc4, h⟩ := need_elim h
  refine At.seg 9 [19, 23, 26, 27] [5000] (s' := ⟨[(19, .c (.vptr 5000 8 p0 0)), (23, cD (dU (((l0.set p0 (⟨(⟨(l0.getD p0 default).tally.high, r2.1⟩ : Tally), (l0.getD p0 default).of⟩ : Line_Update)).getD p0 default).tally.high))), (26, cD (dU (IntKind.u64.wrap (shrOp .i64 p1 63)))), (27, cD (dU r2.2))], [(5000, vL 8 encLine_Update (l0.set p0 (⟨(⟨(l0.getD p0 default).tally.high, r2.1⟩ : Tally), (l0.getD p0 default).of⟩ : Line_Update)))]⟩) (c := True ∧ True ∧ True ∧ True ∧ (p0 < (l0.set p0 (⟨(⟨(l0.getD p0 default).tally.high, r2.1⟩ : Tally), (l0.getD p0 default).of⟩ : Line_Update)).length) ∧ True ∧ ((0 : Int) ≤ 63) ∧ True ∧ True ∧ True) (by kernel_rfl) ⟨trivial, trivial, trivial, trivial, hc4, trivial, (by decide : (0 : Int) ≤ 63), trivial, trivial, trivial⟩ ?_
  obtain ⟨r5, hr5, h⟩ := bind_elim h
  refine At.callA (caps := []) (xs := [cD (dU (((l0.set p0 (⟨(⟨(l0.getD p0 default).tally.high, r2.1⟩ : Tally), (l0.getD p0 default).of⟩ : Line_Update)).getD p0 default).tally.high)), cD (dU (IntKind.u64.wrap (shrOp .i64 p1 63))), cD (dU r2.2)]) (bits_Add64_ok (fn := Try.f60) Try.func60 rfl rfl (by kernel_rfl) (by kernel_rfl) hr5) rfl rfl rfl rfl rfl rfl (.cons (.refl _) (.cons (.refl _) (.cons (.refl _) .nil))) rfl rfl ?_
  refine At.seg 5 [29, 32] [5000] (s' := ⟨[(29, cD (dU r5.1)), (32, .c (.vptr 5000 8 p0 0))], [(5000, vL 8 encLine_Update (l0.set p0 (⟨(⟨(l0.getD p0 default).tally.high, r2.1⟩ : Tally), (l0.getD p0 default).of⟩ : Line_Update)))]⟩) (c := True ∧ True ∧ True ∧ True ∧ True ∧ True) (by kernel_rfl) ⟨trivial, trivial, trivial, trivial, trivial, trivial⟩ ?_
  obtain ⟨hc6, h⟩ := need_elim h
  refine At.one rfl (One.storeT (xs := [.d (dU r5.1)]) (ds := [dU r5.1]) (encLine_Update) (l0.set p0 (⟨(⟨(l0.getD p0 default).tally.high, r2.1⟩ : Tally), (l0.getD p0 default).of⟩ : Line_Update)) (⟨(⟨r5.1, ((l0.set p0 (⟨(⟨(l0.getD p0 default).tally.high, r2.1⟩ : Tally), (l0.getD p0 default).of⟩ : Line_Update)).getD p0 default).tally.low⟩ : Tally), ((l0.set p0 (⟨(⟨(l0.getD p0 default).tally.high, r2.1⟩ : Tally), (l0.getD p0 default).of⟩ : Line_Update)).getD p0 default).of⟩ : Line_Update) rfl rfl rfl rfl rfl hc6 rfl rfl (.refl _) rfl rfl rfl rfl) ?_
  refine At.keep [] [5000] (s' := ⟨[], [(5000, vL 8 encLine_Update ((l0.set p0 (⟨(⟨(l0.getD p0 default).tally.high, r2.1⟩ : Tally), (l0.getD p0 default).of⟩ : Line_Update)).set p0 (⟨(⟨r5.1, ((l0.set p0 (⟨(⟨(l0.getD p0 default).tally.high, r2.1⟩ : Tally), (l0.getD p0 default).of⟩ : Line_Update)).getD p0 default).tally.low⟩ : Tally), ((l0.set p0 (⟨(⟨(l0.getD p0 default).tally.high, r2.1⟩ : Tally), (l0.getD p0 default).of⟩ : Line_Update)).getD p0 default).of⟩ : Line_Update)))]⟩) (by kernel_rfl) ?_
  refine At.done rfl ?_
  cases h
  refine ⟨_, _, rfl, trivial, rfl, rfl, ?_⟩
  exact SubS.out ⟨⟨rfl, rfl⟩, trivial⟩
set_option maxRecDepth 100000 in
theorem freshet_diff_tally_fit_w_ok {l0 : Line_Update} {q : Int × Int × Line_Update} (h : freshet_diff_tally_fit_w l0 = some q) :
    Summ Try.prog 32 [.c (.ptr 5000 0)] [(5000, .box (cLine_Update l0))] (.tup [(false, [.d (dI q.1)]), (false, [.d (dI q.2.1)])]) [(5000, .box (cLine_Update q.2.2))] := by
  refine Summ.intro Try.func32 rfl (by kernel_rfl) (by kernel_rfl) [] rfl ?_
  rintro ⟨P, w0, G0, V, LL, lk, N, φ0, fx⟩ rfl rfl rfl rfl
  unfold freshet_diff_tally_fit_w at h
  refine Tri.segL [0] [5000] ⟨[(0, .c (.ptr 5000 0))], [(5000, .box (cLine_Update l0))]⟩ (allT 2) (by kernel_rfl) (allT_ok 2) ?_
  refine Tri.seqS ?_
  refine Tri.seqS ?_
  refine Tri.drawnS (s' := ⟨[(0, .c (.ptr 5000 0)), (15, cD (.bool (!decide (l0.tally.high = (IntKind.u64.wrap (shrOp .i64 (IntKind.i64.wrap l0.tally.low) 63))))))], [(5000, .box (cLine_Update l0))]⟩) (cs := True ∧ True ∧ True ∧ True ∧ True ∧ True ∧ True ∧ True ∧ True ∧ ((0 : Int) ≤ 63) ∧ True ∧ True ∧ True) [.a [0] [], .a [4] [], .a [5] [], .a [6] [5000], .a [0] [], .a [8] [], .a [9] [], .a [10] [5000], .a [11] [], .a [12] [], .a [13] [], .a [7, 14] []] [[], [0], [0, 1], [0, 1, 2], [], [4], [4, 5], [4, 5, 6], [4, 5, 6, 7], [4, 5, 6, 7, 8], [4, 5, 6, 7, 8, 9], [0, 1, 2, 3, 4, 5, 6, 7, 8, 9, 10]] [0, 15] [5000] (by kernel_rfl) (by kernel_rfl) (by kernel_rfl) (by kernel_rfl) (by kernel_rfl) ⟨trivial, trivial, trivial, trivial, trivial, trivial, trivial, trivial, trivial, (by decide : (0 : Int) ≤ 63), trivial, trivial, trivial⟩ (.a (.a (.a (.a (.a (.a (.a (.a (.a (.a (.a (.a .z)))))))))))) (by kernel_rfl) ?_
  show Tri _ _ _ _
  refine Tri.condP (b := (!decide (l0.tally.high = (IntKind.u64.wrap (shrOp .i64 (IntKind.i64.wrap l0.tally.low) 63))))) rfl h (fun h => ?_) (fun h => ?_)
  ·refine Tri.segC [2, 3] [5000] (allT 2) (by kernel_rfl) (by kernel_rfl) (allT_ok 2) ?_
   refine Tri.keep [2, 3] [5000] (s' := ⟨[(2, cD (dI 0)), (3, cD (dI 10))], [(5000, .box (cLine_Update l0))]⟩) (by kernel_rfl) ?_
   refine Tri.ret ?_
   cases h
   refine ⟨_, _, rfl, ⟨trivial, ⟨trivial, trivial⟩⟩, rfl, rfl, ?_⟩
   exact SubS.out ⟨⟨rfl, rfl⟩, trivial⟩
  ·refine Tri.skip ?_
   show Tri _ _ _ _
   refine Tri.segC [2, 3] [5000] (allT 7) (by kernel_rfl) (by kernel_rfl) (allT_ok 7) ?_
   refine Tri.keep [2, 3] [5000] (s' := ⟨[(2, cD (dI (IntKind.i64.wrap l0.tally.low))), (3, cD (dI 0))], [(5000, .box (cLine_Update l0))]⟩) (by kernel_rfl) ?_
   refine Tri.ret ?_
   cases h
   refine ⟨_, _, rfl, ⟨trivial, ⟨trivial, trivial⟩⟩, rfl, rfl, ?_⟩
   exact SubS.out ⟨⟨rfl, rfl⟩, trivial⟩
set_option maxRecDepth 100000 in
theorem diff_Consolidate_2_ok {p0 : Update} {p1 : Int} {q : Update} (h : diff_Consolidate_2 p0 p1 = some q) :
    Summ Try.prog 40 [.agg (cUpdate p0), cD (dI p1)] [] (.agg (cUpdate q)) [] := by
  refine Summ.intro Try.func40 rfl (by kernel_rfl) (by kernel_rfl) [] rfl ?_
  rintro ⟨P, w0, G0, V, LL, lk, N, φ0, fx⟩ rfl rfl rfl rfl
  unfold diff_Consolidate_2 at h
  refine Tri.segC [1, 2, 4] [2, 4] (allT 2) (by kernel_rfl) (by kernel_rfl) (allT_ok 2) ?_
  refine Tri.segC [2, 4] [2, 4] (allT 3) (by kernel_rfl) (by kernel_rfl) (allT_ok 3) ?_
  refine Tri.segC [4] [4] (allT 2) (by kernel_rfl) (by kernel_rfl) (allT_ok 2) ?_
  refine Tri.keep [4] [4] (s' := ⟨[(4, .c (.ptr 4 0))], [(4, .box [.d (lD 3 encValue p0.key), .d (lD 3 encValue p0.row), .d (dU p0.time.epoch), .d (dU p0.time.loop.1), .d (dU p0.time.loop.2), .d (dI p1)])]⟩) (by kernel_rfl) ?_
  refine Tri.ret ?_
  cases h
  refine ⟨_, _, rfl, ⟨trivial, trivial⟩, rfl, rfl, ?_⟩
  intro k c h
  cases h
set_option maxRecDepth 100000 in
theorem diff_total_Update__diff_Compare__diff_Consolidate_1__diff_Consolidate_2_w_ok {fuel : Nat} {l0 : List Update} {q : (List Update) × Int × (List Update)} (h : diff_total_Update__diff_Compare__diff_Consolidate_1__diff_Consolidate_2_w fuel l0 = some q) :
    Summ Try.prog 37 [.c (oC 5000 6 l0), cD (.fn 24 []), cD (.fn 39 []), cD (.fn 40 [])] [(5000, vL 6 encUpdate l0)] (.tup [(false, [.d (lD 6 encUpdate q.1)]), (false, [.d (dI q.2.1)])]) [(5000, vL 6 encUpdate q.2.2)] := by
  refine Summ.intro Try.func37 rfl (by kernel_rfl) (by kernel_rfl) [] rfl ?_
  rintro ⟨P, w0, G0, V, LL, lk, N, φ0, fx⟩ rfl rfl rfl rfl
  unfold diff_total_Update__diff_Compare__diff_Consolidate_1__diff_Consolidate_2_w at h
  refine Tri.segL [0, 1, 2, 3] [5000] ⟨[(0, .c (oC 5000 6 l0)), (1, cD (.fn 24 [])), (2, cD (.fn 39 [])), (3, cD (.fn 40 []))], [(5000, vL 6 encUpdate l0)]⟩ (allT 2) (by kernel_rfl) (allT_ok 2) ?_
  refine Tri.seqS ?_
  refine Tri.reg ?_
  refine At.seg 2 [0, 1, 2, 3, 19, 20] [5000] (s' := ⟨[(0, .c (oC 5000 6 l0)), (1, cD (.fn 24 [])), (2, cD (.fn 39 [])), (3, cD (.fn 40 [])), (19, .c (oC 5000 6 l0)), (20, cD (.fn 24 []))], [(5000, vL 6 encUpdate l0)]⟩) (c := True ∧ True ∧ True) (by kernel_rfl) ⟨trivial, trivial, trivial⟩ ?_
  obtain ⟨r1, hr1, h⟩ := bind_elim h
  refine At.callL (nf := 0) (caps := []) (xs := [.c (oC 5000 6 l0), cD (.fn 24 [])]) [(5000, 5000)] [0, 1, 2, 3] [] (s0 := ⟨[(0, .c (oC 5000 6 l0)), (1, cD (.fn 24 [])), (2, cD (.fn 39 [])), (3, cD (.fn 40 []))], []⟩) (slices_SortStableFuncfreshet_api_Update_freshet_api_Update_Update__diff_Compare_w_ok hr1) rfl rfl (by kernel_rfl) rfl (by kernel_rfl) (by kernel_rfl) (.ren rfl rfl (.flat (.refl _) rfl rfl .nil)) ⟨⟨by kernel_rfl, by kernel_rfl⟩, trivial⟩ (by kernel_rfl) (by kernel_rfl) (by kernel_rfl) (by kernel_rfl) (by kernel_rfl) (by kernel_rfl) (by kernel_rfl) (by kernel_rfl) (by kernel_rfl) ⟨[(21, .tup []), (0, .c (oC 5000 6 l0)), (1, cD (.fn 24 [])), (2, cD (.fn 39 [])), (3, cD (.fn 40 []))], [(5000, vL 6 encUpdate r1)]⟩ (by kernel_rfl) ?_
  obtain ⟨hc2, h⟩ := need_elim h
  refine At.eqS ⟨[(21, .tup []), (0, .c (oC 5000 6 r1)), (1, cD (.fn 24 [])), (2, cD (.fn 39 [])), (3, cD (.fn 40 []))], [(5000, vL 6 encUpdate r1)]⟩ (by simp only [oC, vL, hc2]) ?_
  refine At.done rfl ?_
  show Tri _ _ _ _
  refine Tri.segL [0, 1, 2, 3, 10] [5000] ⟨[(0, .c (oC 5000 6 r1)), (1, cD (.fn 24 [])), (2, cD (.fn 39 [])), (3, cD (.fn 40 [])), (10, .c (.zero))], [(5000, vL 6 encUpdate r1)]⟩ (allT 1) (by kernel_rfl) (allT_ok 1) ?_
  refine Tri.seqS ?_
  refine Tri.segL [1, 2, 3, 10, 22, 23, 24] [5000] ⟨[(1, cD (.fn 24 [])), (2, cD (.fn 39 [])), (3, cD (.fn 40 [])), (10, .c (.zero)), (22, .c (oC 5000 6 r1)), (23, cD (dI (r1.length : Int))), (24, cD (dI 0))], [(5000, vL 6 encUpdate r1)]⟩ (allT 3) (by kernel_rfl) (allT_ok 3) ?_
  refine Tri.newOwn (t := 10) (k := 1010) (es := 8) (fun i => encLine_Update (([] : List Line_Update).getD i default)) rfl rfl rfl ?_
  refine Tri.lenOfO (t := 22) rfl rfl (Nat.le_refl _) fun hlena4 => ?_
  refine Tri.keep [24, 1, 2, 3, 10, 22, 23] [1010, 5000] (s' := idx 24 0 ⟨[(1, cD (.fn 24 [])), (2, cD (.fn 39 [])), (3, cD (.fn 40 [])), (10, .c (oC 1010 8 ([] : List Line_Update))), (22, .c (oC 5000 6 r1)), (23, cD (dI (r1.length : Int)))], [(1010, vL 8 encLine_Update ([] : List Line_Update)), (5000, vL 6 encUpdate r1)]⟩) (by kernel_rfl) ?_
  refine Tri.range (n := r1.length) (st0 := ([] : List Line_Update)) (fun (x : Empty) s => False) (fun (a4 : List Line_Update) => ⟨[(1, cD (.fn 24 [])), (2, cD (.fn 39 [])), (3, cD (.fn 40 [])), (10, .c (oC 1010 8 a4)), (22, .c (oC 5000 6 r1)), (23, cD (dI (r1.length : Int)))], [(1010, vL 8 encLine_Update a4), (5000, vL 6 encUpdate r1)]⟩) (fun (a4 : List Line_Update) => ⟨[(1, cD (.fn 24 [])), (2, cD (.fn 39 [])), (3, cD (.fn 40 [])), (10, .c (oC 1010 8 a4)), (22, .c (oC 5000 6 r1)), (23, cD (dI (r1.length : Int)))], [(1010, vL 8 encLine_Update a4), (5000, vL 6 encUpdate r1)]⟩) (fun i => decide ((i : Int) < (r1.length : Int))) [25, 24, 1, 2, 3, 10, 22, 23] [1010, 5000] [1, 2, 3, 10, 22, 23] [1010, 5000] [24, 1, 2, 3, 10, 22, 23] [1010, 5000] h hlena4 rfl ?_ ?_ ?_ ?_ ?_ ?_ ?_ ?_
  · exact fun i a => ⟨True ∧ True, by kernel_rfl, ⟨trivial, trivial⟩⟩
  · exact fun i hi => decide_eq_true (by omega)
  · exact decide_eq_false (by omega)
  · exact fun a => by kernel_rfl
  · exact fun i a => ⟨True ∧ True ∧ True, by kernel_rfl, ⟨trivial, trivial, trivial⟩⟩
  ·intro i3 a4 c hii3 h
   obtain ⟨hc13, h⟩ := need_elim h
   refine Tri.segL [1, 2, 3, 10, 12, 22, 23, 24] [12, 1010, 5000] ⟨[(1, cD (.fn 24 [])), (2, cD (.fn 39 [])), (3, cD (.fn 40 [])), (10, .c (oC 1010 8 a4)), (12, .c (.ptr 12 0)), (22, .c (oC 5000 6 r1)), (23, cD (dI (r1.length : Int))), (24, cD (dI ((i3 : Nat) : Int)))], [(12, .box (cUpdate (r1.getD (0 + i3) default))), (1010, vL 8 encLine_Update a4), (5000, vL 6 encUpdate r1)]⟩ (((0 : Int) ≤ ((i3 : Nat) : Int) ∧ ((i3 : Nat) : Int) < (r1.length : Int)) ∧ ((0 + i3) < r1.length) ∧ True ∧ True ∧ True) (by kernel_rfl) ⟨⟨by omega, by omega⟩, hc13, trivial, trivial, trivial⟩ ?_
   refine Tri.seqJ (fun (a14 : List Line_Update) => ⟨[(1, cD (.fn 24 [])), (2, cD (.fn 39 [])), (3, cD (.fn 40 [])), (10, .c (oC 1010 8 a14)), (12, .c (.ptr 12 0)), (22, .c (oC 5000 6 r1)), (23, cD (dI (r1.length : Int))), (24, cD (dI ((i3 : Nat) : Int)))], [(12, .box (cUpdate (r1.getD (0 + i3) default))), (1010, vL 8 encLine_Update a14), (5000, vL 6 encUpdate r1)]⟩) h (fun a14 h => ?_) (fun j15 h => ?_)
   ·show Tri _ _ ⟨[(1, cD (.fn 24 [])), (2, cD (.fn 39 [])), (3, cD (.fn 40 [])), (10, .c (oC 1010 8 a14)), (12, .c (.ptr 12 0)), (22, .c (oC 5000 6 r1)), (23, cD (dI (r1.length : Int))), (24, cD (dI ((i3 : Nat) : Int)))], [(12, .box (cUpdate (r1.getD (0 + i3) default))), (1010, vL 8 encLine_Update a14), (5000, vL 6 encUpdate r1)]⟩ _
    obtain ⟨hc16, h⟩ := need_elim h
    obtain ⟨r17, hr17, h⟩ := bind_elim h
    obtain ⟨r18, hr18, h⟩ := bind_elim h
    obtain ⟨hc19, h⟩ := need_elim h
    refine Tri.afterA ⟨[(1, cD (.fn 24 [])), (2, cD (.fn 39 [])), (3, cD (.fn 40 [])), (10, .c (oC 1010 8 a14)), (22, .c (oC 5000 6 r1)), (23, cD (dI (r1.length : Int))), (24, cD (dI ((i3 : Nat) : Int)))], [(1010, vL 8 encLine_Update r18), (5000, vL 6 encUpdate r1)]⟩ ?_ ?_
    ·refine Tri.drawnS (s' := ⟨[(1, cD (.fn 24 [])), (2, cD (.fn 39 [])), (3, cD (.fn 40 [])), (10, .c (oC 1010 8 a14)), (22, .c (oC 5000 6 r1)), (23, cD (dI (r1.length : Int))), (24, cD (dI ((i3 : Nat) : Int)))], [(1010, vL 8 encLine_Update r18), (5000, vL 6 encUpdate r1)]⟩) (cs := True ∧ True ∧ True ∧ True ∧ ((0 : Int) ≤ (IntKind.i64.wrap ((a14.length : Int) - 1)) ∧ (IntKind.i64.wrap ((a14.length : Int) - 1)) < (a14.length : Int)) ∧ True ∧ True ∧ True ∧ True) [.a [10] [], .a [10] [], .a [50] [1010], .a [51] [], .a [49, 52] [1010], .a [53] [], .a [2] [], .a [12] [12], .m ⟨[(55, cD (.fn 39 [])), (56, .agg (cUpdate (r1.getD (0 + i3) default)))], []⟩ ⟨[(57, cD (dI r17))], []⟩ [] [] [], .m ⟨[(54, .c (.vptr 1010 8 (0 + (IntKind.i64.wrap ((a14.length : Int) - 1)).toNat) 0)), (57, cD (dI r17))], [(1010, vL 8 encLine_Update a14)]⟩ ⟨[(58, .tup [])], [(1010, vL 8 encLine_Update r18)]⟩ [] [] []] [[], [], [1], [1, 2], [0, 1, 2, 3], [0, 1, 2, 3, 4], [], [], [6, 7], [0, 1, 2, 3, 4, 5, 6, 7, 8]] [1, 2, 3, 10, 22, 23, 24] [1010, 5000] (by kernel_rfl) (by kernel_rfl) (by kernel_rfl) (by kernel_rfl) (by kernel_rfl) ⟨trivial, trivial, trivial, trivial, hc16, trivial, trivial, trivial, trivial⟩ (.a (.a (.a (.a (.a (.a (.a (.a (.m ?_ (.m ?_ .z)))))))))) (by kernel_rfl) ?_
     · exact DOk.callA (caps := []) (xs := [.agg (cUpdate (r1.getD (0 + i3) default))]) (diff_Consolidate_1_ok hr17) rfl (fun r => by kernel_rfl) rfl (fun r => by kernel_rfl) (fun r => by kernel_rfl) (fun r => (.cons (.refl _) .nil)) rfl rfl (fun r => rfl)
     · exact DOk.callL (nf := 0) (caps := []) (xs := [.c (.vptr 1010 8 (0 + (IntKind.i64.wrap ((a14.length : Int) - 1)).toNat) 0), cD (dI r17)]) [(5000, 1010)] (freshet_diff_tally_add_w_ok hr18) rfl (fun r => by kernel_rfl) rfl (fun r => by kernel_rfl) (fun r => by kernel_rfl) (fun r => (.ren rfl rfl (.flat (.refl _) rfl rfl .nil))) (fun r => ⟨⟨by kernel_rfl, by kernel_rfl⟩, trivial⟩) (by kernel_rfl) (by kernel_rfl) (by kernel_rfl) (by kernel_rfl) (by kernel_rfl) (by kernel_rfl) (by kernel_rfl) (by kernel_rfl) (by kernel_rfl) (by kernel_rfl) (by first | kernel_rfl | (show _ = _; kernel_rfl))
     exact ⟨rfl, rfl⟩
    ·refine At.eqS (s' := ⟨[(1, cD (.fn 24 [])), (2, cD (.fn 39 [])), (3, cD (.fn 40 [])), (10, .c (oC 1010 8 r18)), (22, .c (oC 5000 6 r1)), (23, cD (dI (r1.length : Int))), (24, cD (dI ((i3 : Nat) : Int)))], [(1010, vL 8 encLine_Update r18), (5000, vL 6 encUpdate r1)]⟩) (by simp only [oC, vL, List.length_set, hc19]) ?_
     refine At.keep [24, 1, 2, 3, 10, 22, 23] [1010, 5000] (s' := ⟨[(24, cD (dI ((i3 : Nat) : Int))), (1, cD (.fn 24 [])), (2, cD (.fn 39 [])), (3, cD (.fn 40 [])), (10, .c (oC 1010 8 r18)), (22, .c (oC 5000 6 r1)), (23, cD (dI (r1.length : Int)))], [(1010, vL 8 encLine_Update r18), (5000, vL 6 encUpdate r1)]⟩) (by kernel_rfl) ?_
     refine At.done rfl ?_
     cases h
     exact rfl
   ·refine Tri.segL [1, 2, 3, 10, 12, 13, 22, 23, 24] [12, 1010, 5000] ⟨[(1, cD (.fn 24 [])), (2, cD (.fn 39 [])), (3, cD (.fn 40 [])), (10, .c (oC 1010 8 a4)), (12, .c (.ptr 12 0)), (13, cD (dI (a4.length : Int))), (22, .c (oC 5000 6 r1)), (23, cD (dI (r1.length : Int))), (24, cD (dI ((i3 : Nat) : Int)))], [(12, .box (cUpdate (r1.getD (0 + i3) default))), (1010, vL 8 encLine_Update a4), (5000, vL 6 encUpdate r1)]⟩ (allT 3) (by kernel_rfl) (allT_ok 3) ?_
    refine Tri.seqJ (fun (a20 : Bool) => ⟨[(1, cD (.fn 24 [])), (2, cD (.fn 39 [])), (3, cD (.fn 40 [])), (10, .c (oC 1010 8 a4)), (12, .c (.ptr 12 0)), (22, .c (oC 5000 6 r1)), (23, cD (dI (r1.length : Int))), (24, cD (dI ((i3 : Nat) : Int))), (43, cD (.bool a20))], [(12, .box (cUpdate (r1.getD (0 + i3) default))), (1010, vL 8 encLine_Update a4), (5000, vL 6 encUpdate r1)]⟩) h (fun a20 h => ?_) (fun j21 h => ?_)
    ·show Tri _ _ ⟨[(1, cD (.fn 24 [])), (2, cD (.fn 39 [])), (3, cD (.fn 40 [])), (10, .c (oC 1010 8 a4)), (12, .c (.ptr 12 0)), (22, .c (oC 5000 6 r1)), (23, cD (dI (r1.length : Int))), (24, cD (dI ((i3 : Nat) : Int))), (43, cD (.bool a20))], [(12, .box (cUpdate (r1.getD (0 + i3) default))), (1010, vL 8 encLine_Update a4), (5000, vL 6 encUpdate r1)]⟩ _
     refine Tri.condP (b := a20) rfl h (fun h => ?_) (fun h => ?_)
     ·refine Tri.reg ?_
      refine At.seg 3 [1, 2, 3, 12, 22, 23, 24, 44, 46] [12, 1010, 5000] (s' := ⟨[(1, cD (.fn 24 [])), (2, cD (.fn 39 [])), (3, cD (.fn 40 [])), (12, .c (.ptr 12 0)), (22, .c (oC 5000 6 r1)), (23, cD (dI (r1.length : Int))), (24, cD (dI ((i3 : Nat) : Int))), (44, .c (oC 1010 8 a4)), (46, .agg [.d (dU 0), .d (dU 0), .d (lD 3 encValue ((r1.getD (0 + i3) default).key)), .d (lD 3 encValue ((r1.getD (0 + i3) default).row)), .d (dU ((r1.getD (0 + i3) default).time.epoch)), .d (dU ((r1.getD (0 + i3) default).time.loop.1)), .d (dU ((r1.getD (0 + i3) default).time.loop.2)), .d (dI ((r1.getD (0 + i3) default).diff))])], [(12, .box (cUpdate (r1.getD (0 + i3) default))), (1010, vL 8 encLine_Update a4), (5000, vL 6 encUpdate r1)]⟩) (c := True ∧ True ∧ True ∧ True) (by kernel_rfl) ⟨trivial, trivial, trivial, trivial⟩ ?_
      refine At.one rfl (One.buildSlice (z := [.d (dU 0), .d (dU 0), .zero, .zero, .d (dU 0), .d (dU 0), .d (dU 0), .d (dI 0)]) (cells := [.d (dU 0), .d (dU 0), .d (lD 3 encValue ((r1.getD (0 + i3) default).key)), .d (lD 3 encValue ((r1.getD (0 + i3) default).row)), .d (dU ((r1.getD (0 + i3) default).time.epoch)), .d (dU ((r1.getD (0 + i3) default).time.loop.1)), .d (dU ((r1.getD (0 + i3) default).time.loop.2)), .d (dI ((r1.getD (0 + i3) default).diff))]) (xs := List.map (encLine_Update) ([(⟨(⟨0, 0⟩ : Tally), (r1.getD (0 + i3) default)⟩ : Line_Update)] : List Line_Update)) rfl rfl rfl rfl (by kernel_rfl) rfl rfl (by kernel_rfl) rfl rfl rfl (by kernel_rfl) rfl ⟨⟨rfl, .refl _⟩, trivial⟩) ?_
      refine At.le [47] (fun k hk h => by first | (cases h; done) | (simp at hk h; omega)) ⟨[(47, cD (lD 8 encLine_Update ([(⟨(⟨0, 0⟩ : Tally), (r1.getD (0 + i3) default)⟩ : Line_Update)] : List Line_Update))), (1, cD (.fn 24 [])), (2, cD (.fn 39 [])), (3, cD (.fn 40 [])), (12, .c (.ptr 12 0)), (22, .c (oC 5000 6 r1)), (23, cD (dI (r1.length : Int))), (24, cD (dI ((i3 : Nat) : Int))), (44, .c (oC 1010 8 a4)), (46, .agg [.d (dU 0), .d (dU 0), .d (lD 3 encValue ((r1.getD (0 + i3) default).key)), .d (lD 3 encValue ((r1.getD (0 + i3) default).row)), .d (dU ((r1.getD (0 + i3) default).time.epoch)), .d (dU ((r1.getD (0 + i3) default).time.loop.1)), .d (dU ((r1.getD (0 + i3) default).time.loop.2)), .d (dI ((r1.getD (0 + i3) default).diff))])], [(12, .box (cUpdate (r1.getD (0 + i3) default))), (1010, vL 8 encLine_Update a4), (5000, vL 6 encUpdate r1)]⟩ ⟨⟨_, rfl, .c (.own rfl (List.mem_singleton.2 rfl) (Nat.le_of_ble_eq_true rfl) rfl (encs_getD (encLine_Update) ([(⟨(⟨0, 0⟩ : Tally), (r1.getD (0 + i3) default)⟩ : Line_Update)] : List Line_Update)))⟩, ⟨_, rfl, .refl _⟩, ⟨_, rfl, .refl _⟩, ⟨_, rfl, .refl _⟩, ⟨_, rfl, .refl _⟩, ⟨_, rfl, .refl _⟩, ⟨_, rfl, .refl _⟩, ⟨_, rfl, .refl _⟩, ⟨_, rfl, .refl _⟩, ⟨_, rfl, .refl _⟩, trivial⟩ ⟨⟨_, rfl, .refl _, (by simp)⟩, ⟨_, rfl, .refl _, (by simp)⟩, ⟨_, rfl, .refl _, (by simp)⟩, trivial⟩ ?_
      obtain ⟨hc22, h⟩ := need_elim h
      refine At.one rfl (One.appendT (e := 91) (es := 8) (encLine_Update) a4 ([(⟨(⟨0, 0⟩ : Tally), (r1.getD (0 + i3) default)⟩ : Line_Update)] : List Line_Update) rfl rfl rfl rfl rfl (.of 91 96 [.d (dU 0), .d (dU 0), .zero, .zero, .d (dU 0), .d (dU 0), .d (dU 0), .d (dI 0)] (by kernel_rfl) (by kernel_rfl) (by kernel_rfl) (by kernel_rfl) rfl (by kernel_rfl) rfl) rfl rfl rfl (.list rfl (fun _ _ => rfl)) hc22) ?_
      refine At.seg 1 [1, 2, 3, 10, 12, 22, 23, 24] [12, 1010, 5000] (s' := ⟨[(1, cD (.fn 24 [])), (2, cD (.fn 39 [])), (3, cD (.fn 40 [])), (10, .c (oC 1010 8 (a4 ++ ([(⟨(⟨0, 0⟩ : Tally), (r1.getD (0 + i3) default)⟩ : Line_Update)] : List Line_Update)))), (12, .c (.ptr 12 0)), (22, .c (oC 5000 6 r1)), (23, cD (dI (r1.length : Int))), (24, cD (dI ((i3 : Nat) : Int)))], [(12, .box (cUpdate (r1.getD (0 + i3) default))), (1010, vL 8 encLine_Update (a4 ++ ([(⟨(⟨0, 0⟩ : Tally), (r1.getD (0 + i3) default)⟩ : Line_Update)] : List Line_Update))), (5000, vL 6 encUpdate r1)]⟩) (c := True ∧ True) (by kernel_rfl) ⟨trivial, trivial⟩ ?_
      refine At.done rfl ?_
      exact ⟨_, h, rfl⟩
     ·refine Tri.keep [1, 2, 3, 10, 12, 22, 23, 24] [12, 1010, 5000] (s' := ⟨[(1, cD (.fn 24 [])), (2, cD (.fn 39 [])), (3, cD (.fn 40 [])), (10, .c (oC 1010 8 a4)), (12, .c (.ptr 12 0)), (22, .c (oC 5000 6 r1)), (23, cD (dI (r1.length : Int))), (24, cD (dI ((i3 : Nat) : Int)))], [(12, .box (cUpdate (r1.getD (0 + i3) default))), (1010, vL 8 encLine_Update a4), (5000, vL 6 encUpdate r1)]⟩) (by kernel_rfl) ?_
      refine Tri.skip ?_
      exact ⟨_, h, rfl⟩
    ·rcases bf_cases h with ⟨hp23, h⟩ | ⟨hp23, h⟩
     ·refine Tri.drawnS (s' := ⟨[(1, cD (.fn 24 [])), (2, cD (.fn 39 [])), (3, cD (.fn 40 [])), (10, .c (oC 1010 8 a4)), (12, .c (.ptr 12 0)), (22, .c (oC 5000 6 r1)), (23, cD (dI (r1.length : Int))), (24, cD (dI ((i3 : Nat) : Int))), (43, cD (.bool true))], [(12, .box (cUpdate (r1.getD (0 + i3) default))), (1010, vL 8 encLine_Update a4), (5000, vL 6 encUpdate r1)]⟩) (cs := True ∧ True ∧ True ∧ True) [.a [13] [], .a [30] [], .m ⟨[(31, cD (.bool (decide ((a4.length : Int) = 0))))], []⟩ ⟨[(32, .c (.d (.bool true)))], []⟩ [] [] [], .a [1, 32] [], .a [10, 32] [], .a [13, 32] [], .a [32, 35] [], .a [32, 34, 36] [], .a [32, 37] [], .a [32, 38] [], .a [12, 32] [12], .a [32, 33, 39, 40] [], .a [32, 41] [], .a [32, 42] []] [[], [0], [0, 1], [0, 1, 2], [0, 1, 2], [0, 1, 2], [0, 1, 2, 5], [0, 1, 2, 4, 5, 6], [0, 1, 2, 4, 5, 6, 7], [0, 1, 2, 4, 5, 6, 7, 8], [0, 1, 2], [0, 1, 2, 3, 4, 5, 6, 7, 8, 9, 10], [0, 1, 2, 3, 4, 5, 6, 7, 8, 9, 10, 11], [0, 1, 2, 3, 4, 5, 6, 7, 8, 9, 10, 11, 12]] [1, 2, 3, 10, 12, 22, 23, 24, 43] [12, 1010, 5000] (by kernel_rfl) (by kernel_rfl) (by kernel_rfl) (by kernel_rfl) (by kernel_rfl) ⟨trivial, trivial, trivial, trivial⟩ (.a (.a (.m ?_ (.a (.a (.a (.a (.a (.a (.a (.a (.a (.a (.a .z)))))))))))))) (by kernel_rfl) ?_
      · exact DOk.stepP (fun b => .val (.c (.d (.bool b))) (True)) (p := (decide ((a4.length : Int) = 0))) hp23 (fun r => by kernel_rfl) (fun r => by kernel_rfl) trivial (by kernel_rfl) (by kernel_rfl) (fun r => rfl)
      exact ⟨_, h, rfl⟩
     ·obtain ⟨hc24, h⟩ := need_elim h
      obtain ⟨hc25, h⟩ := need_elim h
      obtain ⟨r26, hr26, h⟩ := bind_elim h
      refine Tri.drawnS (s' := ⟨[(1, cD (.fn 24 [])), (2, cD (.fn 39 [])), (3, cD (.fn 40 [])), (10, .c (oC 1010 8 a4)), (12, .c (.ptr 12 0)), (22, .c (oC 5000 6 r1)), (23, cD (dI (r1.length : Int))), (24, cD (dI ((i3 : Nat) : Int))), (43, cD (.bool (!decide (r26 = 0))))], [(12, .box (cUpdate (r1.getD (0 + i3) default))), (1010, vL 8 encLine_Update a4), (5000, vL 6 encUpdate r1)]⟩) (cs := True ∧ True ∧ True ∧ True ∧ True ∧ True ∧ ((0 : Int) ≤ (IntKind.i64.wrap ((a4.length : Int) - 1)) ∧ (IntKind.i64.wrap ((a4.length : Int) - 1)) < (a4.length : Int)) ∧ True ∧ ((0 + (IntKind.i64.wrap ((a4.length : Int) - 1)).toNat) < a4.length) ∧ True ∧ True ∧ True ∧ True) [.a [13] [], .a [30] [], .m ⟨[(31, cD (.bool (decide ((a4.length : Int) = 0))))], []⟩ ⟨[(32, .c (.d (.bool false)))], []⟩ [] [] [], .a [1, 32] [], .a [10, 32] [], .a [13, 32] [], .a [32, 35] [], .a [32, 34, 36] [1010], .a [32, 37] [], .a [32, 38] [1010], .a [12, 32] [12], .m ⟨[(32, cD (.bool false)), (33, cD (.fn 24 [])), (39, .agg [.d (lD 3 encValue ((a4.getD (0 + (IntKind.i64.wrap ((a4.length : Int) - 1)).toNat) default).of.key)), .d (lD 3 encValue ((a4.getD (0 + (IntKind.i64.wrap ((a4.length : Int) - 1)).toNat) default).of.row)), .d (dU ((a4.getD (0 + (IntKind.i64.wrap ((a4.length : Int) - 1)).toNat) default).of.time.epoch)), .d (dU ((a4.getD (0 + (IntKind.i64.wrap ((a4.length : Int) - 1)).toNat) default).of.time.loop.1)), .d (dU ((a4.getD (0 + (IntKind.i64.wrap ((a4.length : Int) - 1)).toNat) default).of.time.loop.2)), .d (dI ((a4.getD (0 + (IntKind.i64.wrap ((a4.length : Int) - 1)).toNat) default).of.diff))]), (40, .agg (cUpdate (r1.getD (0 + i3) default)))], []⟩ ⟨[(41, cD (dI r26))], []⟩ [] [] [], .a [32, 41] [], .a [32, 42] []] [[], [0], [0, 1], [0, 1, 2], [0, 1, 2], [0, 1, 2], [0, 1, 2, 5], [0, 1, 2, 4, 5, 6], [0, 1, 2, 4, 5, 6, 7], [0, 1, 2, 4, 5, 6, 7, 8], [0, 1, 2], [0, 1, 2, 3, 4, 5, 6, 7, 8, 9, 10], [0, 1, 2, 3, 4, 5, 6, 7, 8, 9, 10, 11], [0, 1, 2, 3, 4, 5, 6, 7, 8, 9, 10, 11, 12]] [1, 2, 3, 10, 12, 22, 23, 24, 43] [12, 1010, 5000] (by kernel_rfl) (by kernel_rfl) (by kernel_rfl) (by kernel_rfl) (by kernel_rfl) ⟨trivial, trivial, trivial, trivial, trivial, trivial, hc24, trivial, hc25, trivial, trivial, trivial, trivial⟩ (.a (.a (.m ?_ (.a (.a (.a (.a (.a (.a (.a (.a (.m ?_ (.a (.a .z)))))))))))))) (by kernel_rfl) ?_
      · exact DOk.stepP (fun b => .val (.c (.d (.bool b))) (True)) (p := (decide ((a4.length : Int) = 0))) hp23 (fun r => by kernel_rfl) (fun r => by kernel_rfl) trivial (by kernel_rfl) (by kernel_rfl) (fun r => rfl)
      · exact DOk.callA (caps := []) (xs := [.agg [.d (lD 3 encValue ((a4.getD (0 + (IntKind.i64.wrap ((a4.length : Int) - 1)).toNat) default).of.key)), .d (lD 3 encValue ((a4.getD (0 + (IntKind.i64.wrap ((a4.length : Int) - 1)).toNat) default).of.row)), .d (dU ((a4.getD (0 + (IntKind.i64.wrap ((a4.length : Int) - 1)).toNat) default).of.time.epoch)), .d (dU ((a4.getD (0 + (IntKind.i64.wrap ((a4.length : Int) - 1)).toNat) default).of.time.loop.1)), .d (dU ((a4.getD (0 + (IntKind.i64.wrap ((a4.length : Int) - 1)).toNat) default).of.time.loop.2)), .d (dI ((a4.getD (0 + (IntKind.i64.wrap ((a4.length : Int) - 1)).toNat) default).of.diff))], .agg (cUpdate (r1.getD (0 + i3) default))]) (diff_Compare_ok hr26) rfl (fun r => by kernel_rfl) rfl (fun r => by kernel_rfl) (fun r => by kernel_rfl) (fun r => (.cons (.refl _) (.cons (.refl _) .nil))) rfl rfl (fun r => rfl)
      exact ⟨_, h, rfl⟩
  ·intro a5 h
   show Tri _ _ _ _
   refine Tri.segL [3, 10, 14] [1010, 5000] ⟨[(3, cD (.fn 40 [])), (10, .c (oC 1010 8 a5)), (14, .c (.zero))], [(1010, vL 8 encLine_Update a5), (5000, vL 6 encUpdate r1)]⟩ (allT 1) (by kernel_rfl) (allT_ok 1) ?_
   refine Tri.seqS ?_
   refine Tri.segL [3, 14, 60, 61, 62] [1010, 5000] ⟨[(3, cD (.fn 40 [])), (14, .c (.zero)), (60, .c (oC 1010 8 a5)), (61, cD (dI (a5.length : Int))), (62, cD (dI 0))], [(1010, vL 8 encLine_Update a5), (5000, vL 6 encUpdate r1)]⟩ (allT 3) (by kernel_rfl) (allT_ok 3) ?_
   refine Tri.lenOfO (t := 60) rfl rfl (Nat.le_refl _) fun hlena7 => ?_
   refine Tri.newOwn (t := 14) (k := 1014) (es := 6) (fun i => encUpdate (([] : List Update).getD i default)) rfl rfl rfl ?_
   refine Tri.keep [62, 3, 14, 60, 61] [1010, 1014, 5000] (s' := idx 62 0 ⟨[(3, cD (.fn 40 [])), (14, .c (oC 1014 6 ([] : List Update))), (60, .c (oC 1010 8 a5)), (61, cD (dI (a5.length : Int)))], [(1010, vL 8 encLine_Update a5), (1014, vL 6 encUpdate ([] : List Update)), (5000, vL 6 encUpdate r1)]⟩) (by kernel_rfl) ?_
   refine Tri.range (n := a5.length) (st0 := ([] : List Update)) (fun (x : (List Update) × Int × (List Update)) s => RetAt Try.prog Try.f37 (.tup [(false, [.d (lD 6 encUpdate x.1)]), (false, [.d (dI x.2.1)])]) [(5000, vL 6 encUpdate x.2.2)] s) (fun (a7 : List Update) => ⟨[(3, cD (.fn 40 [])), (14, .c (oC 1014 6 a7)), (60, .c (oC 1010 8 a5)), (61, cD (dI (a5.length : Int)))], [(1010, vL 8 encLine_Update a5), (1014, vL 6 encUpdate a7), (5000, vL 6 encUpdate r1)]⟩) (fun (a7 : List Update) => ⟨[(3, cD (.fn 40 [])), (14, .c (oC 1014 6 a7)), (60, .c (oC 1010 8 a5)), (61, cD (dI (a5.length : Int)))], [(1010, vL 8 encLine_Update a5), (1014, vL 6 encUpdate a7), (5000, vL 6 encUpdate r1)]⟩) (fun i => decide ((i : Int) < (a5.length : Int))) [63, 62, 3, 14, 60, 61] [1010, 1014, 5000] [3, 14, 60, 61] [1010, 1014, 5000] [62, 3, 14, 60, 61] [1010, 1014, 5000] h hlena7 rfl ?_ ?_ ?_ ?_ ?_ ?_ ?_ ?_
   · exact fun i a => ⟨True ∧ True, by kernel_rfl, ⟨trivial, trivial⟩⟩
   · exact fun i hi => decide_eq_true (by omega)
   · exact decide_eq_false (by omega)
   · exact fun a => by kernel_rfl
   · exact fun i a => ⟨True ∧ True ∧ True, by kernel_rfl, ⟨trivial, trivial, trivial⟩⟩
   ·intro i6 a7 c hii6 h
    obtain ⟨hc9, h⟩ := need_elim h
    refine Tri.segL [3, 14, 16, 60, 61, 62] [16, 1010, 1014, 5000] ⟨[(3, cD (.fn 40 [])), (14, .c (oC 1014 6 a7)), (16, .c (.ptr 16 0)), (60, .c (oC 1010 8 a5)), (61, cD (dI (a5.length : Int))), (62, cD (dI ((i6 : Nat) : Int)))], [(16, .box (cLine_Update (a5.getD (0 + i6) default))), (1010, vL 8 encLine_Update a5), (1014, vL 6 encUpdate a7), (5000, vL 6 encUpdate r1)]⟩ (((0 : Int) ≤ ((i6 : Nat) : Int) ∧ ((i6 : Nat) : Int) < (a5.length : Int)) ∧ ((0 + i6) < a5.length) ∧ True ∧ True ∧ True) (by kernel_rfl) ⟨⟨by omega, by omega⟩, hc9, trivial, trivial, trivial⟩ ?_
    refine Tri.seqS ?_
    refine Tri.reg ?_
    refine At.seg 1 [3, 14, 16, 60, 61, 62, 67] [16, 1010, 1014, 5000] (s' := ⟨[(3, cD (.fn 40 [])), (14, .c (oC 1014 6 a7)), (16, .c (.ptr 16 0)), (60, .c (oC 1010 8 a5)), (61, cD (dI (a5.length : Int))), (62, cD (dI ((i6 : Nat) : Int))), (67, .c (.ptr 16 0))], [(16, .box (cLine_Update (a5.getD (0 + i6) default))), (1010, vL 8 encLine_Update a5), (1014, vL 6 encUpdate a7), (5000, vL 6 encUpdate r1)]⟩) (c := True ∧ True) (by kernel_rfl) ⟨trivial, trivial⟩ ?_
    obtain ⟨r10, hr10, h⟩ := bind_elim h
    refine At.callL (nf := 0) (caps := []) (xs := [.c (.ptr 16 0)]) [(5000, 16)] [3, 14, 16, 60, 61, 62] [1010, 1014, 5000] (s0 := ⟨[(3, cD (.fn 40 [])), (14, .c (oC 1014 6 a7)), (16, .c (.ptr 16 0)), (60, .c (oC 1010 8 a5)), (61, cD (dI (a5.length : Int))), (62, cD (dI ((i6 : Nat) : Int)))], [(1010, vL 8 encLine_Update a5), (1014, vL 6 encUpdate a7), (5000, vL 6 encUpdate r1)]⟩) (freshet_diff_tally_fit_w_ok hr10) rfl rfl (by kernel_rfl) rfl (by kernel_rfl) (by kernel_rfl) (.ren rfl rfl .nil) ⟨⟨by kernel_rfl, by kernel_rfl⟩, trivial⟩ (by kernel_rfl) (by kernel_rfl) (by kernel_rfl) (by kernel_rfl) (by kernel_rfl) (by kernel_rfl) (by kernel_rfl) (by kernel_rfl) (by kernel_rfl) ⟨[(68, .tup [(false, [.d (dI r10.1)]), (false, [.d (dI r10.2.1)])]), (3, cD (.fn 40 [])), (14, .c (oC 1014 6 a7)), (16, .c (.ptr 16 0)), (60, .c (oC 1010 8 a5)), (61, cD (dI (a5.length : Int))), (62, cD (dI ((i6 : Nat) : Int)))], [(16, .box (cLine_Update r10.2.2)), (1010, vL 8 encLine_Update a5), (1014, vL 6 encUpdate a7), (5000, vL 6 encUpdate r1)]⟩ (by kernel_rfl) ?_
    refine At.seg 5 [3, 14, 16, 17, 18, 60, 61, 62] [16, 1010, 1014, 5000] (s' := ⟨[(3, cD (.fn 40 [])), (14, .c (oC 1014 6 a7)), (16, .c (.ptr 16 0)), (17, cD (dI r10.1)), (18, cD (dI r10.2.1)), (60, .c (oC 1010 8 a5)), (61, cD (dI (a5.length : Int))), (62, cD (dI ((i6 : Nat) : Int)))], [(16, .box (cLine_Update r10.2.2)), (1010, vL 8 encLine_Update a5), (1014, vL 6 encUpdate a7), (5000, vL 6 encUpdate r1)]⟩) (c := True ∧ True ∧ True ∧ True ∧ True ∧ True) (by kernel_rfl) ⟨trivial, trivial, trivial, trivial, trivial, trivial⟩ ?_
    refine At.done rfl ?_
    show Tri _ _ _ _
    refine Tri.seqS ?_
    refine Tri.segL [3, 14, 16, 17, 18, 60, 61, 62, 72] [16, 1010, 1014, 5000] ⟨[(3, cD (.fn 40 [])), (14, .c (oC 1014 6 a7)), (16, .c (.ptr 16 0)), (17, cD (dI r10.1)), (18, cD (dI r10.2.1)), (60, .c (oC 1010 8 a5)), (61, cD (dI (a5.length : Int))), (62, cD (dI ((i6 : Nat) : Int))), (72, cD (.bool (!decide (r10.2.1 = 0))))], [(16, .box (cLine_Update r10.2.2)), (1010, vL 8 encLine_Update a5), (1014, vL 6 encUpdate a7), (5000, vL 6 encUpdate r1)]⟩ (allT 2) (by kernel_rfl) (allT_ok 2) ?_
    refine Tri.condP (b := (!decide (r10.2.1 = 0))) rfl h (fun h => ?_) (fun h => ?_)
    ·refine Tri.segC [8, 9] [5000] (allT 3) (by kernel_rfl) (by kernel_rfl) (allT_ok 3) ?_
     refine Tri.keep [8, 9] [5000] (s' := ⟨[(8, .c (.zero)), (9, cD (dI r10.2.1))], [(5000, vL 6 encUpdate r1)]⟩) (by kernel_rfl) ?_
     refine Tri.le [] (fun k hk => by cases hk) ⟨[(8, cD (lD 6 encUpdate ([] : List Update))), (9, cD (dI r10.2.1))], [(5000, vL 6 encUpdate r1)]⟩ ⟨⟨_, rfl, .c (.zero _ _)⟩, ⟨_, rfl, .refl _⟩, trivial⟩ ⟨⟨_, rfl, .refl _, (by simp)⟩, trivial⟩ ?_
     refine Tri.ret ?_
     cases h
     refine ⟨_, _, rfl, ⟨trivial, ⟨trivial, trivial⟩⟩, rfl, rfl, ?_⟩
     exact SubS.out ⟨⟨rfl, rfl⟩, trivial⟩
    ·refine Tri.skip ?_
     show Tri _ _ _ _
     refine Tri.segL [3, 14, 16, 17, 60, 61, 62, 75] [16, 1010, 1014, 5000] ⟨[(3, cD (.fn 40 [])), (14, .c (oC 1014 6 a7)), (16, .c (.ptr 16 0)), (17, cD (dI r10.1)), (60, .c (oC 1010 8 a5)), (61, cD (dI (a5.length : Int))), (62, cD (dI ((i6 : Nat) : Int))), (75, cD (.bool (!decide (r10.1 = 0))))], [(16, .box (cLine_Update r10.2.2)), (1010, vL 8 encLine_Update a5), (1014, vL 6 encUpdate a7), (5000, vL 6 encUpdate r1)]⟩ (allT 2) (by kernel_rfl) (allT_ok 2) ?_
     refine Tri.condP (b := (!decide (r10.1 = 0))) rfl h (fun h => ?_) (fun h => ?_)
     ·refine Tri.reg ?_
      refine At.seg 5 [3, 60, 61, 62, 76, 77, 79, 80] [1010, 1014, 5000] (s' := ⟨[(3, cD (.fn 40 [])), (60, .c (oC 1010 8 a5)), (61, cD (dI (a5.length : Int))), (62, cD (dI ((i6 : Nat) : Int))), (76, .c (oC 1014 6 a7)), (77, cD (.fn 40 [])), (79, .agg (cUpdate r10.2.2.of)), (80, cD (dI r10.1))], [(1010, vL 8 encLine_Update a5), (1014, vL 6 encUpdate a7), (5000, vL 6 encUpdate r1)]⟩) (c := True ∧ True ∧ True ∧ True ∧ True ∧ True) (by kernel_rfl) ⟨trivial, trivial, trivial, trivial, trivial, trivial⟩ ?_
      obtain ⟨r11, hr11, h⟩ := bind_elim h
      refine At.callA (caps := []) (xs := [.agg (cUpdate r10.2.2.of), cD (dI r10.1)]) (diff_Consolidate_2_ok hr11) rfl rfl rfl rfl rfl rfl (.cons (.refl _) (.cons (.refl _) .nil)) rfl rfl ?_
      refine At.one rfl (One.buildSlice (z := [.zero, .zero, .d (dU 0), .d (dU 0), .d (dU 0), .d (dI 0)]) (cells := [.d (lD 3 encValue r11.key), .d (lD 3 encValue r11.row), .d (dU r11.time.epoch), .d (dU r11.time.loop.1), .d (dU r11.time.loop.2), .d (dI r11.diff)]) (xs := List.map (encUpdate) ([r11] : List Update)) rfl rfl rfl rfl (by kernel_rfl) rfl rfl (by kernel_rfl) rfl rfl rfl (by kernel_rfl) rfl ⟨⟨rfl, .refl _⟩, trivial⟩) ?_
      refine At.le [82] (fun k hk h => by first | (cases h; done) | (simp at hk h; omega)) ⟨[(82, cD (lD 6 encUpdate ([r11] : List Update))), (3, cD (.fn 40 [])), (60, .c (oC 1010 8 a5)), (61, cD (dI (a5.length : Int))), (62, cD (dI ((i6 : Nat) : Int))), (76, .c (oC 1014 6 a7)), (81, .agg (cUpdate r11))], [(1010, vL 8 encLine_Update a5), (1014, vL 6 encUpdate a7), (5000, vL 6 encUpdate r1)]⟩ ⟨⟨_, rfl, .c (.own rfl (List.mem_singleton.2 rfl) (Nat.le_of_ble_eq_true rfl) rfl (encs_getD (encUpdate) ([r11] : List Update)))⟩, ⟨_, rfl, .refl _⟩, ⟨_, rfl, .refl _⟩, ⟨_, rfl, .refl _⟩, ⟨_, rfl, .refl _⟩, ⟨_, rfl, .refl _⟩, ⟨_, rfl, .refl _⟩, trivial⟩ ⟨⟨_, rfl, .refl _, (by simp)⟩, ⟨_, rfl, .refl _, (by simp)⟩, ⟨_, rfl, .refl _, (by simp)⟩, trivial⟩ ?_
      obtain ⟨hc12, h⟩ := need_elim h
      refine At.one rfl (One.appendT (e := 44) (es := 6) (encUpdate) a7 ([r11] : List Update) rfl rfl rfl rfl rfl (.of 44 80 [.zero, .zero, .d (dU 0), .d (dU 0), .d (dU 0), .d (dI 0)] (by kernel_rfl) (by kernel_rfl) (by kernel_rfl) (by kernel_rfl) rfl (by kernel_rfl) rfl) rfl rfl rfl (.list rfl (fun _ _ => rfl)) hc12) ?_
      refine At.seg 1 [62, 3, 14, 60, 61] [1010, 1014, 5000] (s' := ⟨[(62, cD (dI ((i6 : Nat) : Int))), (3, cD (.fn 40 [])), (14, .c (oC 1014 6 (a7 ++ ([r11] : List Update)))), (60, .c (oC 1010 8 a5)), (61, cD (dI (a5.length : Int)))], [(1010, vL 8 encLine_Update a5), (1014, vL 6 encUpdate (a7 ++ ([r11] : List Update))), (5000, vL 6 encUpdate r1)]⟩) (c := True ∧ True) (by kernel_rfl) ⟨trivial, trivial⟩ ?_
      refine At.done rfl ?_
      cases h
      exact rfl
     ·refine Tri.keep [62, 3, 14, 60, 61] [1010, 1014, 5000] (s' := ⟨[(62, cD (dI ((i6 : Nat) : Int))), (3, cD (.fn 40 [])), (14, .c (oC 1014 6 a7)), (60, .c (oC 1010 8 a5)), (61, cD (dI (a5.length : Int)))], [(1010, vL 8 encLine_Update a5), (1014, vL 6 encUpdate a7), (5000, vL 6 encUpdate r1)]⟩) (by kernel_rfl) ?_
      refine Tri.skip ?_
      cases h
      exact rfl
   ·intro a8 h
    show Tri _ _ _ _
    refine Tri.segC [8, 9] [1014, 5000] (allT 3) (by kernel_rfl) (by kernel_rfl) (allT_ok 3) ?_
    refine Tri.keep [8, 9] [1014, 5000] (s' := ⟨[(8, .c (oC 1014 6 a8)), (9, cD (dI 0))], [(1014, vL 6 encUpdate a8), (5000, vL 6 encUpdate r1)]⟩) (by kernel_rfl) ?_
    refine Tri.le [1014] (fun k hk h => by first | (cases h; done) | (simp at hk h; omega)) ⟨[(8, cD (lD 6 encUpdate a8)), (9, cD (dI 0))], [(5000, vL 6 encUpdate r1)]⟩ ⟨⟨_, rfl, .c (CLe.frozen (encUpdate) a8 rfl (by simp))⟩, ⟨_, rfl, .refl _⟩, trivial⟩ ⟨⟨_, rfl, .refl _, (by simp)⟩, trivial⟩ ?_
    refine Tri.ret ?_
    cases h
    refine ⟨_, _, rfl, ⟨trivial, ⟨trivial, trivial⟩⟩, rfl, rfl, ?_⟩
    exact SubS.out ⟨⟨rfl, rfl⟩, trivial⟩
   · exact fun x s hx hr => by cases hx; exact hr
  · exact fun x => x.elim
set_option maxRecDepth 100000 in
theorem slices_Clonefreshet_api_Value_freshet_api_Value_Value_ok {p0 : List Value} {q : List Value} (h : slices_Clonefreshet_api_Value_freshet_api_Value_Value p0 = some q) :
    Summ Try.prog 63 [cD (lD 3 encValue p0)] [] (cD (lD 3 encValue q)) [] := by
  refine Summ.intro Try.func63 rfl (by kernel_rfl) (by kernel_rfl) [] rfl ?_
  rintro ⟨P, w0, G0, V, LL, lk, N, φ0, fx⟩ rfl rfl rfl rfl
  unfold slices_Clonefreshet_api_Value_freshet_api_Value_Value at h
  refine Tri.segL [0] [] ⟨[(0, cD (lD 3 encValue p0))], []⟩ (allT 1) (by kernel_rfl) (allT_ok 1) ?_
  refine Tri.seqS ?_
  refine Tri.seqS ?_
  refine Tri.reg ?_
  refine At.seg 1 [0, 3] [] (s' := ⟨[(0, cD (lD 3 encValue p0)), (3, cD (lD 3 encValue p0))], []⟩) (c := True ∧ True) (by kernel_rfl) ⟨trivial, trivial⟩ ?_
  have hnil : p0.length = 0 → (some ([] : List Value)) = (need (p0.length ≤ 274877906944) <| some p0) := by intro h0; obtain rfl := List.eq_nil_of_length_eq_zero h0; rfl
  refine At.nilCase (e := 95) rfl rfl rfl rfl rfl (by kernel_rfl) rfl (fun h0 => ?_) ?_
  ·replace h := (hnil h0).trans h
   refine At.done rfl ?_
   show Tri _ _ _ _
   refine Tri.cond (b := true) rfl (fun _ => ?_) (fun e => by cases e)
   refine Tri.segC [2] [] (allT 1) (by kernel_rfl) (by kernel_rfl) (allT_ok 1) ?_
   refine Tri.keep [2] [] (s' := ⟨[(2, .c (.zero))], []⟩) (by kernel_rfl) ?_
   refine Tri.le [] (fun k hk => by cases hk) ⟨[(2, cD (lD 3 encValue ([] : List Value)))], []⟩ ⟨⟨_, rfl, .c (.zero _ _)⟩, trivial⟩ trivial ?_
   refine Tri.ret ?_
   cases h
   refine ⟨_, _, rfl, ⟨trivial, trivial⟩, rfl, rfl, ?_⟩
   intro k c h
   cases h
  ·refine At.done rfl ?_
   show Tri _ _ _ _
   refine Tri.cond (b := false) rfl (fun e => by cases e) (fun _ => ?_)
   refine Tri.skip ?_
   show Tri _ _ _ _
   refine Tri.seqS ?_
   refine Tri.reg ?_
   refine At.one rfl (One.build0 (e := 95) (es := 3) rfl rfl rfl rfl (by kernel_rfl) rfl) ?_
   refine At.seg 1 [5, 6] [] (s' := ⟨[(5, .c (.zero)), (6, cD (lD 3 encValue p0))], []⟩) (c := True ∧ True) (by kernel_rfl) ⟨trivial, trivial⟩ ?_
   obtain ⟨hc1, h⟩ := need_elim h
   refine At.one rfl (One.append0 (e := 95) (es := 3) (m := p0.length) (get := fun i => encValue (p0.getD i default)) rfl rfl rfl rfl (by kernel_rfl) (.of 95 32 [.d (.bool false), .d (dI 0), .d (.str (bs []))] (by kernel_rfl) (by kernel_rfl) (by kernel_rfl) (by kernel_rfl) rfl (by kernel_rfl) rfl) rfl rfl (.list rfl (fun _ _ => rfl)) hc1) ?_
   refine At.seg 1 [2] [7] (s' := ⟨[(2, .c (oC 7 3 p0))], [(7, vL 3 encValue p0)]⟩) (c := True ∧ True) (by kernel_rfl) ⟨trivial, trivial⟩ ?_
   refine At.done rfl ?_
   show Tri _ _ _ _
   refine Tri.keep [2] [7] (s' := ⟨[(2, .c (oC 7 3 p0))], [(7, vL 3 encValue p0)]⟩) (by kernel_rfl) ?_
   refine Tri.le [7] (fun k hk h => by first | (cases h; done) | (simp at hk h; omega)) ⟨[(2, cD (lD 3 encValue p0))], []⟩ ⟨⟨_, rfl, .c (CLe.frozen (encValue) p0 rfl (by simp))⟩, trivial⟩ trivial ?_
   refine Tri.ret ?_
   cases h
   refine ⟨_, _, rfl, ⟨trivial, trivial⟩, rfl, rfl, ?_⟩
   intro k c h
   cases h
set_option maxRecDepth 100000 in
theorem diff_Own_ok {p0 : List Update} {q : List Update} (h : diff_Own p0 = some q) :
    Summ Try.prog 41 [cD (lD 6 encUpdate p0)] [] (cD (lD 6 encUpdate q)) [] := by
  refine Summ.intro Try.func41 rfl (by kernel_rfl) (by kernel_rfl) [] rfl ?_
  rintro ⟨P, w0, G0, V, LL, lk, N, φ0, fx⟩ rfl rfl rfl rfl
  unfold diff_Own at h
  refine Tri.segL [0] [] ⟨[(0, cD (lD 6 encUpdate p0))], []⟩ (allT 1) (by kernel_rfl) (allT_ok 1) ?_
  refine Tri.seqS ?_
  refine Tri.reg ?_
  refine At.seg 2 [0, 6] [] (s' := ⟨[(0, cD (lD 6 encUpdate p0)), (6, cD (dI (p0.length : Int)))], []⟩) (c := True ∧ True ∧ True) (by kernel_rfl) ⟨trivial, trivial, trivial⟩ ?_
  obtain ⟨hc1, h⟩ := need_elim h
  refine At.one rfl (One.makeT (e := 44) (es := 6) (bs := 80) (n := (p0.length : Int)) (c := (p0.length : Int)) (z := [.zero, .zero, .d (dU 0), .d (dU 0), .d (dU 0), .d (dI 0)]) (encUpdate) ((⟨([] : List Value), ([] : List Value), (⟨0, (0, 0)⟩ : Time), 0⟩ : Update) : Update) rfl rfl rfl rfl (by kernel_rfl) rfl rfl rfl (by kernel_rfl) rfl (by kernel_rfl) rfl (.cons (.zero _ _) (.cons (.zero _ _) (.cons (.refl _) (.cons (.refl _) (.cons (.refl _) (.cons (.refl _) .nil)))))) rfl rfl rfl hc1.1 hc1.2.1 hc1.2.2 rfl) ?_
  refine At.seg 1 [0, 3] [7] (s' := ⟨[(0, cD (lD 6 encUpdate p0)), (3, .c (oC 7 6 (List.replicate p0.length ((⟨([] : List Value), ([] : List Value), (⟨0, (0, 0)⟩ : Time), 0⟩ : Update) : Update))))], [(7, vL 6 encUpdate (List.replicate p0.length ((⟨([] : List Value), ([] : List Value), (⟨0, (0, 0)⟩ : Time), 0⟩ : Update) : Update)))]⟩) (c := True ∧ True) (by kernel_rfl) ⟨trivial, trivial⟩ ?_
  refine At.done rfl ?_
  show Tri _ _ _ _
  refine Tri.seqS ?_
  refine Tri.reg ?_
  refine At.seg 2 [3, 8, 9] [7] (s' := ⟨[(3, .c (oC 7 6 (List.replicate p0.length ((⟨([] : List Value), ([] : List Value), (⟨0, (0, 0)⟩ : Time), 0⟩ : Update) : Update)))), (8, .c (oC 7 6 (List.replicate p0.length ((⟨([] : List Value), ([] : List Value), (⟨0, (0, 0)⟩ : Time), 0⟩ : Update) : Update)))), (9, cD (lD 6 encUpdate p0))], [(7, vL 6 encUpdate (List.replicate p0.length ((⟨([] : List Value), ([] : List Value), (⟨0, (0, 0)⟩ : Time), 0⟩ : Update) : Update)))]⟩) (c := True ∧ True ∧ True) (by kernel_rfl) ⟨trivial, trivial, trivial⟩ ?_
  obtain ⟨hc2, h⟩ := need_elim h
  refine At.one rfl (One.copyT (e := 44) (es := 6) (encUpdate) (List.replicate p0.length ((⟨([] : List Value), ([] : List Value), (⟨0, (0, 0)⟩ : Time), 0⟩ : Update) : Update)) p0 rfl rfl rfl rfl rfl rfl rfl rfl (.list rfl (fun _ _ => rfl)) hc2) ?_
  refine At.keep [3, 10] [7] (s' := ⟨[(3, .c (oC 7 6 (List.replicate p0.length ((⟨([] : List Value), ([] : List Value), (⟨0, (0, 0)⟩ : Time), 0⟩ : Update) : Update)))), (10, cD (dI ((p0.length : Nat) : Int)))], [(7, vL 6 encUpdate (copyL (List.replicate p0.length ((⟨([] : List Value), ([] : List Value), (⟨0, (0, 0)⟩ : Time), 0⟩ : Update) : Update)) p0))]⟩) (by kernel_rfl) ?_
  refine At.eqS (s' := ⟨[(3, .c (oC 7 6 (copyL (List.replicate p0.length ((⟨([] : List Value), ([] : List Value), (⟨0, (0, 0)⟩ : Time), 0⟩ : Update) : Update)) p0))), (10, cD (dI ((p0.length : Nat) : Int)))], [(7, vL 6 encUpdate (copyL (List.replicate p0.length ((⟨([] : List Value), ([] : List Value), (⟨0, (0, 0)⟩ : Time), 0⟩ : Update) : Update)) p0))]⟩) (by simp only [oC, vL, copyL_length hc2]) ?_
  refine At.done rfl ?_
  show Tri _ _ _ _
  refine Tri.seqS ?_
  refine Tri.segL [3, 12, 13] [7] ⟨[(3, .c (oC 7 6 (copyL (List.replicate p0.length ((⟨([] : List Value), ([] : List Value), (⟨0, (0, 0)⟩ : Time), 0⟩ : Update) : Update)) p0))), (12, cD (dI ((copyL (List.replicate p0.length ((⟨([] : List Value), ([] : List Value), (⟨0, (0, 0)⟩ : Time), 0⟩ : Update) : Update)) p0).length : Int))), (13, cD (dI 0))], [(7, vL 6 encUpdate (copyL (List.replicate p0.length ((⟨([] : List Value), ([] : List Value), (⟨0, (0, 0)⟩ : Time), 0⟩ : Update) : Update)) p0))]⟩ (allT 3) (by kernel_rfl) (allT_ok 3) ?_
  refine Tri.lenOfO (t := 3) rfl rfl (Nat.le_refl _) fun hlena4 => ?_
  refine Tri.keep [13, 3, 12] [7] (s' := idx 13 0 ⟨[(3, .c (oC 7 6 (copyL (List.replicate p0.length ((⟨([] : List Value), ([] : List Value), (⟨0, (0, 0)⟩ : Time), 0⟩ : Update) : Update)) p0))), (12, cD (dI ((copyL (List.replicate p0.length ((⟨([] : List Value), ([] : List Value), (⟨0, (0, 0)⟩ : Time), 0⟩ : Update) : Update)) p0).length : Int)))], [(7, vL 6 encUpdate (copyL (List.replicate p0.length ((⟨([] : List Value), ([] : List Value), (⟨0, (0, 0)⟩ : Time), 0⟩ : Update) : Update)) p0))]⟩) (by kernel_rfl) ?_
  refine Tri.range (n := (copyL (List.replicate p0.length ((⟨([] : List Value), ([] : List Value), (⟨0, (0, 0)⟩ : Time), 0⟩ : Update) : Update)) p0).length) (st0 := (copyL (List.replicate p0.length ((⟨([] : List Value), ([] : List Value), (⟨0, (0, 0)⟩ : Time), 0⟩ : Update) : Update)) p0)) (fun (x : Empty) s => False) (fun (a4 : List Update) => ⟨[(3, .c (oC 7 6 a4)), (12, cD (dI ((copyL (List.replicate p0.length ((⟨([] : List Value), ([] : List Value), (⟨0, (0, 0)⟩ : Time), 0⟩ : Update) : Update)) p0).length : Int)))], [(7, vL 6 encUpdate a4)]⟩) (fun (a4 : List Update) => ⟨[(3, .c (oC 7 6 a4)), (12, cD (dI ((copyL (List.replicate p0.length ((⟨([] : List Value), ([] : List Value), (⟨0, (0, 0)⟩ : Time), 0⟩ : Update) : Update)) p0).length : Int)))], [(7, vL 6 encUpdate a4)]⟩) (fun i => decide ((i : Int) < ((copyL (List.replicate p0.length ((⟨([] : List Value), ([] : List Value), (⟨0, (0, 0)⟩ : Time), 0⟩ : Update) : Update)) p0).length : Int))) [14, 13, 3, 12] [7] [3, 12] [7] [13, 3, 12] [7] h hlena4 rfl ?_ ?_ ?_ ?_ ?_ ?_ ?_ ?_
  · exact fun i a => ⟨True ∧ True, by kernel_rfl, ⟨trivial, trivial⟩⟩
  · exact fun i hi => decide_eq_true (by omega)
  · exact decide_eq_false (by omega)
  · exact fun a => by kernel_rfl
  · exact fun i a => ⟨True ∧ True ∧ True, by kernel_rfl, ⟨trivial, trivial, trivial⟩⟩
  ·intro i3 a4 c hii3 h
   refine Tri.segL [3, 4, 12, 13] [7] ⟨[(3, .c (oC 7 6 a4)), (4, cD (dI ((i3 : Nat) : Int))), (12, cD (dI ((copyL (List.replicate p0.length ((⟨([] : List Value), ([] : List Value), (⟨0, (0, 0)⟩ : Time), 0⟩ : Update) : Update)) p0).length : Int))), (13, cD (dI ((i3 : Nat) : Int)))], [(7, vL 6 encUpdate a4)]⟩ (allT 2) (by kernel_rfl) (allT_ok 2) ?_
   obtain ⟨hc6, h⟩ := need_elim h
   obtain ⟨hc7, h⟩ := need_elim h
   obtain ⟨r8, hr8, h⟩ := bind_elim h
   obtain ⟨hc9, h⟩ := need_elim h
   obtain ⟨hc10, h⟩ := need_elim h
   obtain ⟨r11, hr11, h⟩ := bind_elim h
   obtain ⟨hc12, h⟩ := need_elim h
   obtain ⟨hc13, h⟩ := need_elim h
   obtain ⟨hc14, h⟩ := need_elim h
   obtain ⟨hc15, h⟩ := need_elim h
   refine Tri.afterA ⟨[(3, .c (oC 7 6 a4)), (12, cD (dI ((copyL (List.replicate p0.length ((⟨([] : List Value), ([] : List Value), (⟨0, (0, 0)⟩ : Time), 0⟩ : Update) : Update)) p0).length : Int))), (13, cD (dI ((i3 : Nat) : Int)))], [(7, vL 6 encUpdate ((a4.set (0 + i3) (⟨r8, (a4.getD (0 + i3) default).row, (a4.getD (0 + i3) default).time, (a4.getD (0 + i3) default).diff⟩ : Update)).set (0 + i3) (⟨((a4.set (0 + i3) (⟨r8, (a4.getD (0 + i3) default).row, (a4.getD (0 + i3) default).time, (a4.getD (0 + i3) default).diff⟩ : Update)).getD (0 + i3) default).key, r11, ((a4.set (0 + i3) (⟨r8, (a4.getD (0 + i3) default).row, (a4.getD (0 + i3) default).time, (a4.getD (0 + i3) default).diff⟩ : Update)).getD (0 + i3) default).time, ((a4.set (0 + i3) (⟨r8, (a4.getD (0 + i3) default).row, (a4.getD (0 + i3) default).time, (a4.getD (0 + i3) default).diff⟩ : Update)).getD (0 + i3) default).diff⟩ : Update)))]⟩ ?_ ?_
   ·refine Tri.drawnS (s' := ⟨[(3, .c (oC 7 6 a4)), (12, cD (dI ((copyL (List.replicate p0.length ((⟨([] : List Value), ([] : List Value), (⟨0, (0, 0)⟩ : Time), 0⟩ : Update) : Update)) p0).length : Int))), (13, cD (dI ((i3 : Nat) : Int)))], [(7, vL 6 encUpdate ((a4.set (0 + i3) (⟨r8, (a4.getD (0 + i3) default).row, (a4.getD (0 + i3) default).time, (a4.getD (0 + i3) default).diff⟩ : Update)).set (0 + i3) (⟨((a4.set (0 + i3) (⟨r8, (a4.getD (0 + i3) default).row, (a4.getD (0 + i3) default).time, (a4.getD (0 + i3) default).diff⟩ : Update)).getD (0 + i3) default).key, r11, ((a4.set (0 + i3) (⟨r8, (a4.getD (0 + i3) default).row, (a4.getD (0 + i3) default).time, (a4.getD (0 + i3) default).diff⟩ : Update)).getD (0 + i3) default).time, ((a4.set (0 + i3) (⟨r8, (a4.getD (0 + i3) default).row, (a4.getD (0 + i3) default).time, (a4.getD (0 + i3) default).diff⟩ : Update)).getD (0 + i3) default).diff⟩ : Update)))]⟩) (cs := True ∧ True ∧ True ∧ True ∧ True ∧ True ∧ ((0 : Int) ≤ ((i3 : Nat) : Int) ∧ ((i3 : Nat) : Int) < (a4.length : Int)) ∧ True ∧ ((0 + i3) < a4.length) ∧ True ∧ True ∧ ((0 : Int) ≤ ((i3 : Nat) : Int) ∧ ((i3 : Nat) : Int) < (a4.length : Int)) ∧ True ∧ ((0 + i3) < a4.length) ∧ ((0 : Int) ≤ ((i3 : Nat) : Int) ∧ ((i3 : Nat) : Int) < (a4.length : Int)) ∧ True ∧ ((0 : Int) ≤ ((i3 : Nat) : Int) ∧ ((i3 : Nat) : Int) < (a4.length : Int)) ∧ True ∧ True) [.a [3] [], .a [4] [], .a [3] [], .a [4] [], .a [3] [], .a [4] [], .a [20, 21] [7], .a [22] [], .a [23] [7], .m ⟨[(24, cD (lD 3 encValue ((a4.getD (0 + i3) default).key)))], []⟩ ⟨[(25, cD (lD 3 encValue r8))], []⟩ [] [] [], .a [3] [], .a [4] [], .a [26, 27] [7], .a [28] [], .a [29] [7], .m ⟨[(30, cD (lD 3 encValue ((a4.getD (0 + i3) default).row)))], []⟩ ⟨[(31, cD (lD 3 encValue r11))], []⟩ [] [] [], .a [16, 17] [7], .a [32] [], .m ⟨[(25, cD (lD 3 encValue r8)), (33, .c (.vptr 7 6 (0 + i3) 0))], [(7, vL 6 encUpdate a4)]⟩ ⟨[], [(7, vL 6 encUpdate (a4.set (0 + i3) (⟨r8, (a4.getD (0 + i3) default).row, (a4.getD (0 + i3) default).time, (a4.getD (0 + i3) default).diff⟩ : Update)))]⟩ [] [] [], .a [18, 19] [7], .a [34] [], .m ⟨[(31, cD (lD 3 encValue r11)), (35, .c (.vptr 7 6 (0 + i3) 1))], [(7, vL 6 encUpdate (a4.set (0 + i3) (⟨r8, (a4.getD (0 + i3) default).row, (a4.getD (0 + i3) default).time, (a4.getD (0 + i3) default).diff⟩ : Update)))]⟩ ⟨[], [(7, vL 6 encUpdate ((a4.set (0 + i3) (⟨r8, (a4.getD (0 + i3) default).row, (a4.getD (0 + i3) default).time, (a4.getD (0 + i3) default).diff⟩ : Update)).set (0 + i3) (⟨((a4.set (0 + i3) (⟨r8, (a4.getD (0 + i3) default).row, (a4.getD (0 + i3) default).time, (a4.getD (0 + i3) default).diff⟩ : Update)).getD (0 + i3) default).key, r11, ((a4.set (0 + i3) (⟨r8, (a4.getD (0 + i3) default).row, (a4.getD (0 + i3) default).time, (a4.getD (0 + i3) default).diff⟩ : Update)).getD (0 + i3) default).time, ((a4.set (0 + i3) (⟨r8, (a4.getD (0 + i3) default).row, (a4.getD (0 + i3) default).time, (a4.getD (0 + i3) default).diff⟩ : Update)).getD (0 + i3) default).diff⟩ : Update)))]⟩ [] [] []] [[], [], [], [], [], [], [4, 5], [4, 5, 6], [4, 5, 6, 7], [4, 5, 6, 7, 8], [], [], [10, 11], [10, 11, 12], [10, 11, 12, 13], [4, 5, 6, 7, 8, 9, 10, 11, 12, 13, 14], [0, 1, 4, 5, 6, 7, 8, 9, 10, 11, 12, 13, 14, 15], [0, 1, 4, 5, 6, 7, 8, 9, 10, 11, 12, 13, 14, 15, 16], [0, 1, 4, 5, 6, 7, 8, 9, 10, 11, 12, 13, 14, 15, 16, 17], [0, 1, 2, 3, 4, 5, 6, 7, 8, 9, 10, 11, 12, 13, 14, 15, 16, 17, 18], [0, 1, 2, 3, 4, 5, 6, 7, 8, 9, 10, 11, 12, 13, 14, 15, 16, 17, 18, 19], [0, 1, 2, 3, 4, 5, 6, 7, 8, 9, 10, 11, 12, 13, 14, 15, 16, 17, 18, 19, 20]] [3, 12, 13] [7] (by kernel_rfl) (by kernel_rfl) (by kernel_rfl) (by kernel_rfl) (by kernel_rfl) ⟨trivial, trivial, trivial, trivial, trivial, trivial, hc6, trivial, hc7, trivial, trivial, hc9, trivial, hc10, hc12, trivial, hc14, trivial, trivial⟩ (.a (.a (.a (.a (.a (.a (.a (.a (.a (.m ?_ (.a (.a (.a (.a (.a (.m ?_ (.a (.a (.m ?_ (.a (.a (.m ?_ .z)))))))))))))))))))))) (by kernel_rfl) ?_
    · exact DOk.callA (caps := []) (xs := [cD (lD 3 encValue ((a4.getD (0 + i3) default).key))]) (slices_Clonefreshet_api_Value_freshet_api_Value_Value_ok hr8) rfl (fun r => by kernel_rfl) rfl (fun r => by kernel_rfl) (fun r => by kernel_rfl) (fun r => (.cons (.refl _) .nil)) rfl rfl (fun r => rfl)
    · exact DOk.callA (caps := []) (xs := [cD (lD 3 encValue ((a4.getD (0 + i3) default).row))]) (slices_Clonefreshet_api_Value_freshet_api_Value_Value_ok hr11) rfl (fun r => by kernel_rfl) rfl (fun r => by kernel_rfl) (fun r => by kernel_rfl) (fun r => (.cons (.refl _) .nil)) rfl rfl (fun r => rfl)
    · exact DOk.one fun r hr => One.storeT (xs := [.d (lD 3 encValue r8)]) (ds := [lD 3 encValue r8]) (encUpdate) a4 (⟨r8, (a4.getD (0 + i3) default).row, (a4.getD (0 + i3) default).time, (a4.getD (0 + i3) default).diff⟩ : Update) rfl (by kernel_rfl) rfl rfl rfl hc13 rfl rfl (.refl _) rfl rfl rfl rfl
    · exact DOk.one fun r hr => One.storeT (xs := [.d (lD 3 encValue r11)]) (ds := [lD 3 encValue r11]) (encUpdate) (a4.set (0 + i3) (⟨r8, (a4.getD (0 + i3) default).row, (a4.getD (0 + i3) default).time, (a4.getD (0 + i3) default).diff⟩ : Update)) (⟨((a4.set (0 + i3) (⟨r8, (a4.getD (0 + i3) default).row, (a4.getD (0 + i3) default).time, (a4.getD (0 + i3) default).diff⟩ : Update)).getD (0 + i3) default).key, r11, ((a4.set (0 + i3) (⟨r8, (a4.getD (0 + i3) default).row, (a4.getD (0 + i3) default).time, (a4.getD (0 + i3) default).diff⟩ : Update)).getD (0 + i3) default).time, ((a4.set (0 + i3) (⟨r8, (a4.getD (0 + i3) default).row, (a4.getD (0 + i3) default).time, (a4.getD (0 + i3) default).diff⟩ : Update)).getD (0 + i3) default).diff⟩ : Update) rfl (by kernel_rfl) rfl rfl rfl hc15 rfl rfl (.refl _) rfl rfl rfl rfl
    exact ⟨rfl, rfl⟩
   ·refine At.eqS (s' := ⟨[(3, .c (oC 7 6 ((a4.set (0 + i3) (⟨r8, (a4.getD (0 + i3) default).row, (a4.getD (0 + i3) default).time, (a4.getD (0 + i3) default).diff⟩ : Update)).set (0 + i3) (⟨((a4.set (0 + i3) (⟨r8, (a4.getD (0 + i3) default).row, (a4.getD (0 + i3) default).time, (a4.getD (0 + i3) default).diff⟩ : Update)).getD (0 + i3) default).key, r11, ((a4.set (0 + i3) (⟨r8, (a4.getD (0 + i3) default).row, (a4.getD (0 + i3) default).time, (a4.getD (0 + i3) default).diff⟩ : Update)).getD (0 + i3) default).time, ((a4.set (0 + i3) (⟨r8, (a4.getD (0 + i3) default).row, (a4.getD (0 + i3) default).time, (a4.getD (0 + i3) default).diff⟩ : Update)).getD (0 + i3) default).diff⟩ : Update)))), (12, cD (dI ((copyL (List.replicate p0.length ((⟨([] : List Value), ([] : List Value), (⟨0, (0, 0)⟩ : Time), 0⟩ : Update) : Update)) p0).length : Int))), (13, cD (dI ((i3 : Nat) : Int)))], [(7, vL 6 encUpdate ((a4.set (0 + i3) (⟨r8, (a4.getD (0 + i3) default).row, (a4.getD (0 + i3) default).time, (a4.getD (0 + i3) default).diff⟩ : Update)).set (0 + i3) (⟨((a4.set (0 + i3) (⟨r8, (a4.getD (0 + i3) default).row, (a4.getD (0 + i3) default).time, (a4.getD (0 + i3) default).diff⟩ : Update)).getD (0 + i3) default).key, r11, ((a4.set (0 + i3) (⟨r8, (a4.getD (0 + i3) default).row, (a4.getD (0 + i3) default).time, (a4.getD (0 + i3) default).diff⟩ : Update)).getD (0 + i3) default).time, ((a4.set (0 + i3) (⟨r8, (a4.getD (0 + i3) default).row, (a4.getD (0 + i3) default).time, (a4.getD (0 + i3) default).diff⟩ : Update)).getD (0 + i3) default).diff⟩ : Update)))]⟩) (by simp only [oC, vL, List.length_set]) ?_
    refine At.keep [13, 3, 12] [7] (s' := ⟨[(13, cD (dI ((i3 : Nat) : Int))), (3, .c (oC 7 6 ((a4.set (0 + i3) (⟨r8, (a4.getD (0 + i3) default).row, (a4.getD (0 + i3) default).time, (a4.getD (0 + i3) default).diff⟩ : Update)).set (0 + i3) (⟨((a4.set (0 + i3) (⟨r8, (a4.getD (0 + i3) default).row, (a4.getD (0 + i3) default).time, (a4.getD (0 + i3) default).diff⟩ : Update)).getD (0 + i3) default).key, r11, ((a4.set (0 + i3) (⟨r8, (a4.getD (0 + i3) default).row, (a4.getD (0 + i3) default).time, (a4.getD (0 + i3) default).diff⟩ : Update)).getD (0 + i3) default).time, ((a4.set (0 + i3) (⟨r8, (a4.getD (0 + i3) default).row, (a4.getD (0 + i3) default).time, (a4.getD (0 + i3) default).diff⟩ : Update)).getD (0 + i3) default).diff⟩ : Update)))), (12, cD (dI ((copyL (List.replicate p0.length ((⟨([] : List Value), ([] : List Value), (⟨0, (0, 0)⟩ : Time), 0⟩ : Update) : Update)) p0).length : Int)))], [(7, vL 6 encUpdate ((a4.set (0 + i3) (⟨r8, (a4.getD (0 + i3) default).row, (a4.getD (0 + i3) default).time, (a4.getD (0 + i3) default).diff⟩ : Update)).set (0 + i3) (⟨((a4.set (0 + i3) (⟨r8, (a4.getD (0 + i3) default).row, (a4.getD (0 + i3) default).time, (a4.getD (0 + i3) default).diff⟩ : Update)).getD (0 + i3) default).key, r11, ((a4.set (0 + i3) (⟨r8, (a4.getD (0 + i3) default).row, (a4.getD (0 + i3) default).time, (a4.getD (0 + i3) default).diff⟩ : Update)).getD (0 + i3) default).time, ((a4.set (0 + i3) (⟨r8, (a4.getD (0 + i3) default).row, (a4.getD (0 + i3) default).time, (a4.getD (0 + i3) default).diff⟩ : Update)).getD (0 + i3) default).diff⟩ : Update)))]⟩) (by kernel_rfl) ?_
    refine At.done rfl ?_
    cases h
    exact rfl
  ·intro a5 h
   show Tri _ _ _ _
   refine Tri.segC [2] [7] (allT 2) (by kernel_rfl) (by kernel_rfl) (allT_ok 2) ?_
   refine Tri.keep [2] [7] (s' := ⟨[(2, .c (oC 7 6 a5))], [(7, vL 6 encUpdate a5)]⟩) (by kernel_rfl) ?_
   refine Tri.le [7] (fun k hk h => by first | (cases h; done) | (simp at hk h; omega)) ⟨[(2, cD (lD 6 encUpdate a5))], []⟩ ⟨⟨_, rfl, .c (CLe.frozen (encUpdate) a5 rfl (by simp))⟩, trivial⟩ trivial ?_
   refine Tri.ret ?_
   cases h
   refine ⟨_, _, rfl, ⟨trivial, trivial⟩, rfl, rfl, ?_⟩
   intro k c h
   cases h
  · exact fun x => x.elim
set_option maxRecDepth 100000 in
theorem diff_Consolidate_ok {fuel : Nat} {p0 : List (List Update)} {q : (List Update) × Int} (h : diff_Consolidate fuel p0 = some q) :
    Summ Try.prog 16 [cD (lD 1 (fun xs => [encL 6 encUpdate xs]) p0)] [] (.tup [(false, [.d (lD 6 encUpdate q.1)]), (false, [.d (dI q.2)])]) [] := by
  refine Summ.intro Try.func16 rfl (by kernel_rfl) (by kernel_rfl) [] rfl ?_
  rintro ⟨P, w0, G0, V, LL, lk, N, φ0, fx⟩ rfl rfl rfl rfl
  unfold diff_Consolidate at h
  refine Tri.segL [0] [] ⟨[(0, cD (lD 1 (fun xs => [encL 6 encUpdate xs]) p0))], []⟩ (allT 2) (by kernel_rfl) (allT_ok 2) ?_
  refine Tri.seqS ?_
  refine Tri.segL [0, 9, 10, 11] [] ⟨[(0, cD (lD 1 (fun xs => [encL 6 encUpdate xs]) p0)), (9, cD (lD 1 (fun xs => [encL 6 encUpdate xs]) p0)), (10, cD (dI (p0.length : Int))), (11, cD (dI 0))], []⟩ (allT 3) (by kernel_rfl) (allT_ok 3) ?_
  refine Tri.lenOf (t := 9) rfl fun hlena2 => ?_
  refine Tri.keep [11, 0, 9, 10] [] (s' := idx 11 0 ⟨[(0, cD (lD 1 (fun xs => [encL 6 encUpdate xs]) p0)), (9, cD (lD 1 (fun xs => [encL 6 encUpdate xs]) p0)), (10, cD (dI (p0.length : Int)))], []⟩) (by kernel_rfl) ?_
  refine Tri.range (n := p0.length) (st0 := ()) (fun (x : (List Update) × Int) s => RetAt Try.prog Try.f16 (.tup [(false, [.d (lD 6 encUpdate x.1)]), (false, [.d (dI x.2)])]) [] s) (fun (a2 : Unit) => ⟨[(0, cD (lD 1 (fun xs => [encL 6 encUpdate xs]) p0)), (9, cD (lD 1 (fun xs => [encL 6 encUpdate xs]) p0)), (10, cD (dI (p0.length : Int)))], []⟩) (fun (a2 : Unit) => ⟨[(0, cD (lD 1 (fun xs => [encL 6 encUpdate xs]) p0)), (9, cD (lD 1 (fun xs => [encL 6 encUpdate xs]) p0)), (10, cD (dI (p0.length : Int)))], []⟩) (fun i => decide ((i : Int) < (p0.length : Int))) [12, 11, 0, 9, 10] [] [0, 9, 10] [] [11, 0, 9, 10] [] h hlena2 rfl ?_ ?_ ?_ ?_ ?_ ?_ ?_ ?_
  · exact fun i a => ⟨True ∧ True, by kernel_rfl, ⟨trivial, trivial⟩⟩
  · exact fun i hi => decide_eq_true (by omega)
  · exact decide_eq_false (by omega)
  · exact fun a => by kernel_rfl
  · exact fun i a => ⟨True ∧ True ∧ True, by kernel_rfl, ⟨trivial, trivial, trivial⟩⟩
  ·intro i1 a2 c hii1 h
   refine Tri.segL [0, 5, 9, 10, 11] [] ⟨[(0, cD (lD 1 (fun xs => [encL 6 encUpdate xs]) p0)), (5, cD (lD 6 encUpdate (p0.getD i1 default))), (9, cD (lD 1 (fun xs => [encL 6 encUpdate xs]) p0)), (10, cD (dI (p0.length : Int))), (11, cD (dI ((i1 : Nat) : Int)))], []⟩ (((0 : Int) ≤ ((i1 : Nat) : Int) ∧ ((i1 : Nat) : Int) < (p0.length : Int)) ∧ True ∧ True ∧ True) (by kernel_rfl) ⟨⟨by omega, by omega⟩, trivial, trivial, trivial⟩ ?_
   refine Tri.seqS ?_
   refine Tri.reg ?_
   refine At.seg 1 [0, 9, 10, 11, 15] [] (s' := ⟨[(0, cD (lD 1 (fun xs => [encL 6 encUpdate xs]) p0)), (9, cD (lD 1 (fun xs => [encL 6 encUpdate xs]) p0)), (10, cD (dI (p0.length : Int))), (11, cD (dI ((i1 : Nat) : Int))), (15, cD (lD 6 encUpdate (p0.getD i1 default)))], []⟩) (c := True ∧ True) (by kernel_rfl) ⟨trivial, trivial⟩ ?_
   obtain ⟨r7, hr7, h⟩ := bind_elim h
   refine At.callA (caps := []) (xs := [cD (lD 6 encUpdate (p0.getD i1 default))]) (diff_Check_ok hr7) rfl rfl rfl rfl rfl rfl (.cons (.refl _) .nil) rfl rfl ?_
   refine At.seg 1 [0, 6, 9, 10, 11] [] (s' := ⟨[(0, cD (lD 1 (fun xs => [encL 6 encUpdate xs]) p0)), (6, cD (dI r7)), (9, cD (lD 1 (fun xs => [encL 6 encUpdate xs]) p0)), (10, cD (dI (p0.length : Int))), (11, cD (dI ((i1 : Nat) : Int)))], []⟩) (c := True ∧ True) (by kernel_rfl) ⟨trivial, trivial⟩ ?_
   refine At.done rfl ?_
   show Tri _ _ _ _
   refine Tri.segL [0, 6, 9, 10, 11, 18] [] ⟨[(0, cD (lD 1 (fun xs => [encL 6 encUpdate xs]) p0)), (6, cD (dI r7)), (9, cD (lD 1 (fun xs => [encL 6 encUpdate xs]) p0)), (10, cD (dI (p0.length : Int))), (11, cD (dI ((i1 : Nat) : Int))), (18, cD (.bool (!decide (r7 = 0))))], []⟩ (allT 2) (by kernel_rfl) (allT_ok 2) ?_
   refine Tri.condP (b := (!decide (r7 = 0))) rfl h (fun h => ?_) (fun h => ?_)
   ·refine Tri.segC [2, 3] [] (allT 3) (by kernel_rfl) (by kernel_rfl) (allT_ok 3) ?_
    refine Tri.keep [2, 3] [] (s' := ⟨[(2, .c (.zero)), (3, cD (dI r7))], []⟩) (by kernel_rfl) ?_
    refine Tri.le [] (fun k hk => by cases hk) ⟨[(2, cD (lD 6 encUpdate ([] : List Update))), (3, cD (dI r7))], []⟩ ⟨⟨_, rfl, .c (.zero _ _)⟩, ⟨_, rfl, .refl _⟩, trivial⟩ trivial ?_
    refine Tri.ret ?_
    cases h
    refine ⟨_, _, rfl, ⟨trivial, ⟨trivial, trivial⟩⟩, rfl, rfl, ?_⟩
    intro k c h
    cases h
   ·refine Tri.keep [11, 0, 9, 10] [] (s' := ⟨[(11, cD (dI ((i1 : Nat) : Int))), (0, cD (lD 1 (fun xs => [encL 6 encUpdate xs]) p0)), (9, cD (lD 1 (fun xs => [encL 6 encUpdate xs]) p0)), (10, cD (dI (p0.length : Int)))], []⟩) (by kernel_rfl) ?_
    refine Tri.skip ?_
    cases h
    exact rfl
  ·intro a3 h
   show Tri _ _ _ _
   refine Tri.seqS ?_
   refine Tri.reg ?_
   refine At.seg 1 [22] [] (s' := ⟨[(22, cD (lD 1 (fun xs => [encL 6 encUpdate xs]) p0))], []⟩) (c := True ∧ True) (by kernel_rfl) ⟨trivial, trivial⟩ ?_
   obtain ⟨r4, hr4, h⟩ := bind_elim h
   refine At.callL (nf := 0) (caps := []) (xs := [cD (lD 1 (fun xs => [encL 6 encUpdate xs]) p0)]) [(6000, 30092)] [] [] (s0 := ⟨[], []⟩) (slices_Concatfreshet_api_Update_freshet_api_Update_Update_ok_o hr4) rfl rfl (by kernel_rfl) rfl (by kernel_rfl) (by kernel_rfl) (.flat (.refl _) rfl rfl .nil) trivial (by kernel_rfl) (by kernel_rfl) (by kernel_rfl) (by kernel_rfl) (by kernel_rfl) (by kernel_rfl) (by kernel_rfl) (by kernel_rfl) (by kernel_rfl) ⟨[(23, .c (oC 30092 6 r4))], [(30092, vL 6 encUpdate r4)]⟩ (by kernel_rfl) ?_
   obtain ⟨r5, hr5, h⟩ := bind_elim h
   refine At.callL (nf := 0) (caps := []) (xs := [.c (oC 30092 6 r4), cD (.fn 24 []), cD (.fn 39 []), cD (.fn 40 [])]) [(5000, 30092)] [] [] (s0 := ⟨[], []⟩) (diff_total_Update__diff_Compare__diff_Consolidate_1__diff_Consolidate_2_w_ok hr5) rfl rfl (by kernel_rfl) rfl (by kernel_rfl) (by kernel_rfl) (.ren rfl rfl (.flat (.refl _) rfl rfl (.flat (.refl _) rfl rfl (.flat (.refl _) rfl rfl .nil)))) ⟨⟨by kernel_rfl, by kernel_rfl⟩, trivial⟩ (by kernel_rfl) (by kernel_rfl) (by kernel_rfl) (by kernel_rfl) (by kernel_rfl) (by kernel_rfl) (by kernel_rfl) (by kernel_rfl) (by kernel_rfl) ⟨[(24, .tup [(false, [.d (lD 6 encUpdate r5.1)]), (false, [.d (dI r5.2.1)])])], [(30092, vL 6 encUpdate r5.2.2)]⟩ (by kernel_rfl) ?_
   refine At.seg 5 [7, 8] [] (s' := ⟨[(7, cD (lD 6 encUpdate r5.1)), (8, cD (dI r5.2.1))], []⟩) (c := True ∧ True ∧ True ∧ True ∧ True ∧ True) (by kernel_rfl) ⟨trivial, trivial, trivial, trivial, trivial, trivial⟩ ?_
   refine At.done rfl ?_
   show Tri _ _ _ _
   refine Tri.seqS ?_
   refine Tri.reg ?_
   refine At.seg 1 [8, 27] [] (s' := ⟨[(8, cD (dI r5.2.1)), (27, cD (lD 6 encUpdate r5.1))], []⟩) (c := True ∧ True) (by kernel_rfl) ⟨trivial, trivial⟩ ?_
   obtain ⟨r6, hr6, h⟩ := bind_elim h
   refine At.callA (caps := []) (xs := [cD (lD 6 encUpdate r5.1)]) (diff_Own_ok hr6) rfl rfl rfl rfl rfl rfl (.cons (.refl _) .nil) rfl rfl ?_
   refine At.seg 3 [2, 3] [] (s' := ⟨[(2, cD (lD 6 encUpdate r6)), (3, cD (dI r5.2.1))], []⟩) (c := True ∧ True ∧ True ∧ True) (by kernel_rfl) ⟨trivial, trivial, trivial, trivial⟩ ?_
   refine At.done rfl ?_
   show Tri _ _ _ _
   refine Tri.keep [2, 3] [] (s' := ⟨[(2, cD (lD 6 encUpdate r6)), (3, cD (dI r5.2.1))], []⟩) (by kernel_rfl) ?_
   refine Tri.ret ?_
   cases h
   refine ⟨_, _, rfl, ⟨trivial, ⟨trivial, trivial⟩⟩, rfl, rfl, ?_⟩
   intro k c h
   cases h
  · exact fun x s hx hr => by cases hx; exact hr
set_option maxRecDepth 100000 in
theorem freshetlaw05_row_ok {p0 : Int} {q : List Value} (h : freshetlaw05_row p0 = some q) :
    Summ Try.prog 43 [cD (dI p0)] [] (cD (lD 3 encValue q)) [] := by
  refine Summ.intro Try.func43 rfl (by kernel_rfl) (by kernel_rfl) [] rfl ?_
  rintro ⟨P, w0, G0, V, LL, lk, N, φ0, fx⟩ rfl rfl rfl rfl
  unfold freshetlaw05_row at h
  refine Tri.segL [0] [] ⟨[(0, cD (dI p0))], []⟩ (allT 1) (by kernel_rfl) (allT_ok 1) ?_
  refine Tri.seqS ?_
  refine Tri.reg ?_
  refine At.seg 2 [4] [] (s' := ⟨[(4, .agg [.d (.bool false), .d (dI p0), .d (.str (bs []))])], []⟩) (c := True ∧ True ∧ True) (by kernel_rfl) ⟨trivial, trivial, trivial⟩ ?_
  refine At.one rfl (One.buildSlice (z := [.d (.bool false), .d (dI 0), .d (.str (bs []))]) (cells := [.d (.bool false), .d (dI p0), .d (.str (bs []))]) (xs := List.map (encValue) ([(⟨false, p0, (bs [])⟩ : Value)] : List Value)) rfl rfl rfl rfl (by kernel_rfl) rfl rfl (by kernel_rfl) rfl rfl rfl (by kernel_rfl) rfl ⟨⟨rfl, .refl _⟩, trivial⟩) ?_
  refine At.le [5] (fun k hk h => by first | (cases h; done) | (simp at hk h; omega)) ⟨[(5, cD (lD 3 encValue ([(⟨false, p0, (bs [])⟩ : Value)] : List Value))), (4, .agg [.d (.bool false), .d (dI p0), .d (.str (bs []))])], []⟩ ⟨⟨_, rfl, .c (.own rfl (List.mem_singleton.2 rfl) (Nat.le_of_ble_eq_true rfl) rfl (encs_getD (encValue) ([(⟨false, p0, (bs [])⟩ : Value)] : List Value)))⟩, ⟨_, rfl, .refl _⟩, trivial⟩ trivial ?_
  refine At.seg 1 [2] [] (s' := ⟨[(2, cD (lD 3 encValue ([(⟨false, p0, (bs [])⟩ : Value)] : List Value)))], []⟩) (c := True ∧ True) (by kernel_rfl) ⟨trivial, trivial⟩ ?_
  refine At.done rfl ?_
  show Tri _ _ _ _
  refine Tri.keep [2] [] (s' := ⟨[(2, cD (lD 3 encValue ([(⟨false, p0, (bs [])⟩ : Value)] : List Value)))], []⟩) (by kernel_rfl) ?_
  refine Tri.ret ?_
  cases h
  refine ⟨_, _, rfl, ⟨trivial, trivial⟩, rfl, rfl, ?_⟩
  intro k c h
  cases h
set_option maxRecDepth 100000 in
theorem moment_greatest_ok {p0 : Int} {p1 : Int} {q : Int} (h : moment_greatest p0 p1 = some q) :
    Summ Try.prog 89 [cD (dU p0), cD (dU p1)] [] (cD (dU q)) [] := by
  refine Summ.intro Try.func89 rfl (by kernel_rfl) (by kernel_rfl) [] rfl ?_
  rintro ⟨P, w0, G0, V, LL, lk, N, φ0, fx⟩ rfl rfl rfl rfl
  unfold moment_greatest at h
  refine Tri.segC [0, 1] [] (allT 1) (by kernel_rfl) (by kernel_rfl) (allT_ok 1) ?_
  refine Tri.segC [4] [] (allT 4) (by kernel_rfl) (by kernel_rfl) (allT_ok 4) ?_
  refine Tri.keep [4] [] (s' := ⟨[(4, cD (dU (if p0 < p1 then p1 else p0)))], []⟩) (by kernel_rfl) ?_
  refine Tri.ret ?_
  cases h
  refine ⟨_, _, rfl, ⟨trivial, trivial⟩, rfl, rfl, ?_⟩
  intro k c h
  cases h
set_option maxRecDepth 100000 in
theorem moment_fold__greatest_ok_v1 {p1 : List Time} {q : Time} (h : moment_fold__greatest p1 = some q) :
    Summ Try.prog 88 [cD (.fn 89 []), .c (wC 3 encTime p1)] [] (.agg (cTime q)) [] := by
  refine Summ.intro Try.func88 rfl (by kernel_rfl) (by kernel_rfl) [] rfl ?_
  rintro ⟨P, w0, G0, V, LL, lk, N, φ0, fx⟩ rfl rfl rfl rfl
  unfold moment_fold__greatest at h
  refine Tri.segL [0, 1, 4] [4] ⟨[(0, cD (.fn 89 [])), (1, .c (wC 3 encTime p1)), (4, .c (.ptr 4 0))], [(4, .box [.d (dU 0), .d (dU 0), .d (dU 0)])]⟩ (allT 1) (by kernel_rfl) (allT_ok 1) ?_
  refine Tri.seqS ?_
  refine Tri.segL [0, 4, 8, 9, 10] [4] ⟨[(0, cD (.fn 89 [])), (4, .c (.ptr 4 0)), (8, .c (wC 3 encTime p1)), (9, cD (dI (p1.length : Int))), (10, cD (dI 0))], [(4, .box [.d (dU 0), .d (dU 0), .d (dU 0)])]⟩ (allT 3) (by kernel_rfl) (allT_ok 3) ?_
  refine Tri.lenOfV (t := 8) rfl fun hlena2 => ?_
  refine Tri.keep [10, 0, 4, 8, 9] [4] (s' := idx 10 0 ⟨[(0, cD (.fn 89 [])), (4, .c (.ptr 4 0)), (8, .c (wC 3 encTime p1)), (9, cD (dI (p1.length : Int)))], [(4, .box (cTime (⟨0, (0, 0)⟩ : Time)))]⟩) (by kernel_rfl) ?_
  refine Tri.range (n := p1.length) (st0 := (⟨0, (0, 0)⟩ : Time)) (fun (x : Empty) s => False) (fun (a2 : Time) => ⟨[(0, cD (.fn 89 [])), (4, .c (.ptr 4 0)), (8, .c (wC 3 encTime p1)), (9, cD (dI (p1.length : Int)))], [(4, .box (cTime a2))]⟩) (fun (a2 : Time) => ⟨[(0, cD (.fn 89 [])), (4, .c (.ptr 4 0)), (8, .c (wC 3 encTime p1)), (9, cD (dI (p1.length : Int)))], [(4, .box (cTime a2))]⟩) (fun i => decide ((i : Int) < (p1.length : Int))) [11, 10, 0, 4, 8, 9] [4] [0, 4, 8, 9] [4] [10, 0, 4, 8, 9] [4] h hlena2 rfl ?_ ?_ ?_ ?_ ?_ ?_ ?_ ?_
  · exact fun i a => ⟨True ∧ True, by kernel_rfl, ⟨trivial, trivial⟩⟩
  · exact fun i hi => decide_eq_true (by omega)
  · exact decide_eq_false (by omega)
  · exact fun a => by kernel_rfl
  · exact fun i a => ⟨True ∧ True ∧ True, by kernel_rfl, ⟨trivial, trivial, trivial⟩⟩
  ·intro i1 a2 c hii1 h
   refine Tri.segL [0, 4, 5, 6, 8, 9, 10] [4, 6] ⟨[(0, cD (.fn 89 [])), (4, .c (.ptr 4 0)), (5, cD (dI ((i1 : Nat) : Int))), (6, .c (.ptr 6 0)), (8, .c (wC 3 encTime p1)), (9, cD (dI (p1.length : Int))), (10, cD (dI ((i1 : Nat) : Int)))], [(4, .box (cTime a2)), (6, .box (cTime (p1.getD i1 default)))]⟩ (True ∧ ((0 : Int) ≤ ((i1 : Nat) : Int) ∧ ((i1 : Nat) : Int) < (p1.length : Int)) ∧ True ∧ True ∧ True ∧ True ∧ True) (by kernel_rfl) ⟨trivial, ⟨by omega, by omega⟩, trivial, trivial, trivial, trivial, trivial⟩ ?_
   refine Tri.seqJ (fun (a4 : Time) => ⟨[(0, cD (.fn 89 [])), (4, .c (.ptr 4 0)), (6, .c (.ptr 6 0)), (8, .c (wC 3 encTime p1)), (9, cD (dI (p1.length : Int))), (10, cD (dI ((i1 : Nat) : Int)))], [(4, .box (cTime a4)), (6, .box (cTime (p1.getD i1 default)))]⟩) h (fun a4 h => ?_) (fun j5 h => ?_)
   ·show Tri _ _ ⟨[(0, cD (.fn 89 [])), (4, .c (.ptr 4 0)), (6, .c (.ptr 6 0)), (8, .c (wC 3 encTime p1)), (9, cD (dI (p1.length : Int))), (10, cD (dI ((i1 : Nat) : Int)))], [(4, .box (cTime a4)), (6, .box (cTime (p1.getD i1 default)))]⟩ _
    refine Tri.seqS ?_
    refine Tri.reg ?_
    refine At.seg 5 [0, 4, 6, 8, 9, 10, 18, 20, 22] [4, 6] (s' := ⟨[(0, cD (.fn 89 [])), (4, .c (.ptr 4 0)), (6, .c (.ptr 6 0)), (8, .c (wC 3 encTime p1)), (9, cD (dI (p1.length : Int))), (10, cD (dI ((i1 : Nat) : Int))), (18, cD (.fn 89 [])), (20, cD (dU a4.epoch)), (22, cD (dU ((p1.getD i1 default).epoch)))], [(4, .box (cTime a4)), (6, .box (cTime (p1.getD i1 default)))]⟩) (c := True ∧ True ∧ True ∧ True ∧ True ∧ True) (by kernel_rfl) ⟨trivial, trivial, trivial, trivial, trivial, trivial⟩ ?_
    obtain ⟨r6, hr6, h⟩ := bind_elim h
    refine At.callA (caps := []) (xs := [cD (dU a4.epoch), cD (dU ((p1.getD i1 default).epoch))]) (moment_greatest_ok hr6) rfl rfl rfl rfl rfl rfl (.cons (.refl _) (.cons (.refl _) .nil)) rfl rfl ?_
    refine At.seg 2 [0, 4, 6, 8, 9, 10] [4, 6] (s' := ⟨[(0, cD (.fn 89 [])), (4, .c (.ptr 4 0)), (6, .c (.ptr 6 0)), (8, .c (wC 3 encTime p1)), (9, cD (dI (p1.length : Int))), (10, cD (dI ((i1 : Nat) : Int)))], [(4, .box [.d (dU r6), .d (dU a4.loop.1), .d (dU a4.loop.2)]), (6, .box (cTime (p1.getD i1 default)))]⟩) (c := True ∧ True ∧ True) (by kernel_rfl) ⟨trivial, trivial, trivial⟩ ?_
    refine At.done rfl ?_
    show Tri _ _ _ _
    refine Tri.segC [0, 4, 6, 8, 9, 10, 25] [4, 6] (allT 1) (by kernel_rfl) (by kernel_rfl) (allT_ok 1) ?_
    refine Tri.keep [25, 0, 4, 6, 8, 9, 10] [4, 6] (s' := idx 25 0 ⟨[(0, cD (.fn 89 [])), (4, .c (.ptr 4 0)), (6, .c (.ptr 6 0)), (8, .c (wC 3 encTime p1)), (9, cD (dI (p1.length : Int))), (10, cD (dI ((i1 : Nat) : Int)))], [(4, .box (cTime (⟨r6, a4.loop⟩ : Time))), (6, .box (cTime (p1.getD i1 default)))]⟩) (by kernel_rfl) ?_
    refine Tri.range (n := 2) (st0 := (⟨r6, a4.loop⟩ : Time)) (fun (x : Empty) s => False) (fun (a8 : Time) => ⟨[(0, cD (.fn 89 [])), (4, .c (.ptr 4 0)), (6, .c (.ptr 6 0)), (8, .c (wC 3 encTime p1)), (9, cD (dI (p1.length : Int))), (10, cD (dI ((i1 : Nat) : Int)))], [(4, .box (cTime a8)), (6, .box (cTime (p1.getD i1 default)))]⟩) (fun (a8 : Time) => ⟨[(10, cD (dI ((i1 : Nat) : Int))), (0, cD (.fn 89 [])), (4, .c (.ptr 4 0)), (8, .c (wC 3 encTime p1)), (9, cD (dI (p1.length : Int)))], [(4, .box (cTime a8))]⟩) (fun i => decide ((i : Int) < (2 : Int))) [26, 25, 0, 4, 6, 8, 9, 10] [4, 6] [10, 0, 4, 8, 9] [4] [25, 0, 4, 6, 8, 9, 10] [4, 6] h (by unfold maxN; omega) rfl ?_ ?_ ?_ ?_ ?_ ?_ ?_ ?_
    · exact fun i a => ⟨True ∧ True, by kernel_rfl, ⟨trivial, trivial⟩⟩
    · exact fun i hi => decide_eq_true (by omega)
    · exact decide_eq_false (by omega)
    · exact fun a => by kernel_rfl
    · exact fun i a => ⟨True ∧ True ∧ True, by kernel_rfl, ⟨trivial, trivial, trivial⟩⟩
    ·intro i7 a8 c hii7 h
     rcases i7 with _ | i7
     ·refine Tri.segL [0, 4, 6, 7, 8, 9, 10, 25] [4, 6] ⟨[(0, cD (.fn 89 [])), (4, .c (.ptr 4 0)), (6, .c (.ptr 6 0)), (7, cD (dI ((0 : Nat) : Int))), (8, .c (wC 3 encTime p1)), (9, cD (dI (p1.length : Int))), (10, cD (dI ((i1 : Nat) : Int))), (25, cD (dI ((0 : Nat) : Int)))], [(4, .box (cTime a8)), (6, .box (cTime (p1.getD i1 default)))]⟩ (allT 2) (by kernel_rfl) (allT_ok 2) ?_
      obtain ⟨r10, hr10, h⟩ := bind_elim h
      refine Tri.drawnS (s' := ⟨[(25, cD (dI ((0 : Nat) : Int))), (0, cD (.fn 89 [])), (4, .c (.ptr 4 0)), (6, .c (.ptr 6 0)), (8, .c (wC 3 encTime p1)), (9, cD (dI (p1.length : Int))), (10, cD (dI ((i1 : Nat) : Int)))], [(4, .box [.d (dU a8.epoch), .d (dU r10), .d (dU a8.loop.2)]), (6, .box (cTime (p1.getD i1 default)))]⟩) (cs := True ∧ True ∧ True ∧ True ∧ True ∧ True ∧ True ∧ True ∧ True ∧ True ∧ True ∧ True ∧ True) [.a [7] [], .a [0] [], .a [7] [], .a [4] [], .a [30, 31] [4], .a [32] [4], .a [7] [], .a [6] [], .a [34, 35] [6], .a [36] [6], .m ⟨[(29, cD (.fn 89 [])), (33, cD (dU a8.loop.1)), (37, cD (dU ((p1.getD i1 default).loop.1)))], []⟩ ⟨[(38, cD (dU r10))], []⟩ [] [] [], .a [4] [], .a [28, 39] [4], .m ⟨[(38, cD (dU r10)), (40, .c (.ptr 4 1))], [(4, .box (cTime a8))]⟩ ⟨[], [(4, .box [.d (dU a8.epoch), .d (dU r10), .d (dU a8.loop.2)])]⟩ [] [] []] [[], [], [], [], [2, 3], [2, 3, 4], [], [], [6, 7], [6, 7, 8], [1, 2, 3, 4, 5, 6, 7, 8, 9], [], [0, 1, 2, 3, 4, 5, 6, 7, 8, 9, 10, 11], [0, 1, 2, 3, 4, 5, 6, 7, 8, 9, 10, 11, 12]] [25, 0, 4, 6, 8, 9, 10] [4, 6] (by kernel_rfl) (by kernel_rfl) (by kernel_rfl) (by kernel_rfl) (by kernel_rfl) ⟨trivial, trivial, trivial, trivial, trivial, trivial, trivial, trivial, trivial, trivial, trivial, trivial, trivial⟩ (.a (.a (.a (.a (.a (.a (.a (.a (.a (.a (.m ?_ (.a (.a (.m ?_ .z)))))))))))))) (by kernel_rfl) ?_
      · exact DOk.callA (caps := []) (xs := [cD (dU a8.loop.1), cD (dU ((p1.getD i1 default).loop.1))]) (moment_greatest_ok hr10) rfl (fun r => by kernel_rfl) rfl (fun r => by kernel_rfl) (fun r => by kernel_rfl) (fun r => (.cons (.refl _) (.cons (.refl _) .nil))) rfl rfl (fun r => rfl)
      · exact DOk.step (.turn 4 (.box [.d (dU a8.epoch), .d (dU r10), .d (dU a8.loop.2)])) (fun r => by kernel_rfl) (fun r => by kernel_rfl) trivial (by kernel_rfl) (by kernel_rfl) (fun r => rfl)
      cases h
      exact rfl
     rcases i7 with _ | i7
     ·refine Tri.segL [0, 4, 6, 7, 8, 9, 10, 25] [4, 6] ⟨[(0, cD (.fn 89 [])), (4, .c (.ptr 4 0)), (6, .c (.ptr 6 0)), (7, cD (dI ((1 : Nat) : Int))), (8, .c (wC 3 encTime p1)), (9, cD (dI (p1.length : Int))), (10, cD (dI ((i1 : Nat) : Int))), (25, cD (dI ((1 : Nat) : Int)))], [(4, .box (cTime a8)), (6, .box (cTime (p1.getD i1 default)))]⟩ (allT 2) (by kernel_rfl) (allT_ok 2) ?_
      obtain ⟨r11, hr11, h⟩ := bind_elim h
      refine Tri.drawnS (s' := ⟨[(25, cD (dI ((1 : Nat) : Int))), (0, cD (.fn 89 [])), (4, .c (.ptr 4 0)), (6, .c (.ptr 6 0)), (8, .c (wC 3 encTime p1)), (9, cD (dI (p1.length : Int))), (10, cD (dI ((i1 : Nat) : Int)))], [(4, .box [.d (dU a8.epoch), .d (dU a8.loop.1), .d (dU r11)]), (6, .box (cTime (p1.getD i1 default)))]⟩) (cs := True ∧ True ∧ True ∧ True ∧ True ∧ True ∧ True ∧ True ∧ True ∧ True ∧ True ∧ True ∧ True) [.a [7] [], .a [0] [], .a [7] [], .a [4] [], .a [30, 31] [4], .a [32] [4], .a [7] [], .a [6] [], .a [34, 35] [6], .a [36] [6], .m ⟨[(29, cD (.fn 89 [])), (33, cD (dU a8.loop.2)), (37, cD (dU ((p1.getD i1 default).loop.2)))], []⟩ ⟨[(38, cD (dU r11))], []⟩ [] [] [], .a [4] [], .a [28, 39] [4], .m ⟨[(38, cD (dU r11)), (40, .c (.ptr 4 2))], [(4, .box (cTime a8))]⟩ ⟨[], [(4, .box [.d (dU a8.epoch), .d (dU a8.loop.1), .d (dU r11)])]⟩ [] [] []] [[], [], [], [], [2, 3], [2, 3, 4], [], [], [6, 7], [6, 7, 8], [1, 2, 3, 4, 5, 6, 7, 8, 9], [], [0, 1, 2, 3, 4, 5, 6, 7, 8, 9, 10, 11], [0, 1, 2, 3, 4, 5, 6, 7, 8, 9, 10, 11, 12]] [25, 0, 4, 6, 8, 9, 10] [4, 6] (by kernel_rfl) (by kernel_rfl) (by kernel_rfl) (by kernel_rfl) (by kernel_rfl) ⟨trivial, trivial, trivial, trivial, trivial, trivial, trivial, trivial, trivial, trivial, trivial, trivial, trivial⟩ (.a (.a (.a (.a (.a (.a (.a (.a (.a (.a (.m ?_ (.a (.a (.m ?_ .z)))))))))))))) (by kernel_rfl) ?_
      · exact DOk.callA (caps := []) (xs := [cD (dU a8.loop.2), cD (dU ((p1.getD i1 default).loop.2))]) (moment_greatest_ok hr11) rfl (fun r => by kernel_rfl) rfl (fun r => by kernel_rfl) (fun r => by kernel_rfl) (fun r => (.cons (.refl _) (.cons (.refl _) .nil))) rfl rfl (fun r => rfl)
      · exact DOk.step (.turn 4 (.box [.d (dU a8.epoch), .d (dU a8.loop.1), .d (dU r11)])) (fun r => by kernel_rfl) (fun r => by kernel_rfl) trivial (by kernel_rfl) (by kernel_rfl) (fun r => rfl)
      cases h
      exact rfl
     exact absurd hii7 (by omega)
    ·intro a9 h
     cases h
     exact rfl
    · exact fun x => x.elim
   ·refine Tri.segL [0, 4, 6, 8, 9, 10, 16] [4, 6] ⟨[(0, cD (.fn 89 [])), (4, .c (.ptr 4 0)), (6, .c (.ptr 6 0)), (8, .c (wC 3 encTime p1)), (9, cD (dI (p1.length : Int))), (10, cD (dI ((i1 : Nat) : Int))), (16, cD (.bool (decide (((i1 : Nat) : Int) = 0))))], [(4, .box (cTime a2)), (6, .box (cTime (p1.getD i1 default)))]⟩ (allT 2) (by kernel_rfl) (allT_ok 2) ?_
    refine Tri.condP (b := (decide (((i1 : Nat) : Int) = 0))) rfl h (fun h => ?_) (fun h => ?_)
    ·refine Tri.reg ?_
     refine At.seg 2 [0, 4, 6, 8, 9, 10] [4, 6] (s' := ⟨[(0, cD (.fn 89 [])), (4, .c (.ptr 4 0)), (6, .c (.ptr 6 0)), (8, .c (wC 3 encTime p1)), (9, cD (dI (p1.length : Int))), (10, cD (dI ((i1 : Nat) : Int)))], [(4, .box (cTime (p1.getD i1 default))), (6, .box (cTime (p1.getD i1 default)))]⟩) (c := True ∧ True ∧ True) (by kernel_rfl) ⟨trivial, trivial, trivial⟩ ?_
     refine At.done rfl ?_
     exact ⟨_, h, rfl⟩
    ·refine Tri.keep [0, 4, 6, 8, 9, 10] [4, 6] (s' := ⟨[(0, cD (.fn 89 [])), (4, .c (.ptr 4 0)), (6, .c (.ptr 6 0)), (8, .c (wC 3 encTime p1)), (9, cD (dI (p1.length : Int))), (10, cD (dI ((i1 : Nat) : Int)))], [(4, .box (cTime a2)), (6, .box (cTime (p1.getD i1 default)))]⟩) (by kernel_rfl) ?_
     refine Tri.skip ?_
     exact ⟨_, h, rfl⟩
  ·intro a3 h
   show Tri _ _ _ _
   refine Tri.segC [4] [4] (allT 2) (by kernel_rfl) (by kernel_rfl) (allT_ok 2) ?_
   refine Tri.keep [4] [4] (s' := ⟨[(4, .c (.ptr 4 0))], [(4, .box (cTime a3))]⟩) (by kernel_rfl) ?_
   refine Tri.ret ?_
   cases h
   refine ⟨_, _, rfl, ⟨trivial, trivial⟩, rfl, rfl, ?_⟩
   intro k c h
   cases h
  · exact fun x => x.elim
set_option maxRecDepth 100000 in
theorem moment_Lub_ok_v0 {p0 : List Time} {q : Time} (h : moment_Lub p0 = some q) :
    Summ Try.prog 75 [.c (wC 3 encTime p0)] [] (.agg (cTime q)) [] := by
  refine Summ.intro Try.func75 rfl (by kernel_rfl) (by kernel_rfl) [] rfl ?_
  rintro ⟨P, w0, G0, V, LL, lk, N, φ0, fx⟩ rfl rfl rfl rfl
  unfold moment_Lub at h
  refine Tri.segL [0, 2] [2] ⟨[(0, .c (wC 3 encTime p0)), (2, .c (.ptr 2 0))], [(2, .box [.d (dU 0), .d (dU 0), .d (dU 0)])]⟩ (allT 1) (by kernel_rfl) (allT_ok 1) ?_
  refine Tri.seqS ?_
  refine Tri.reg ?_
  refine At.seg 1 [2, 3] [2] (s' := ⟨[(2, .c (.ptr 2 0)), (3, .c (wC 3 encTime p0))], [(2, .box [.d (dU 0), .d (dU 0), .d (dU 0)])]⟩) (c := True ∧ True) (by kernel_rfl) ⟨trivial, trivial⟩ ?_
  obtain ⟨r1, hr1, h⟩ := bind_elim h
  refine At.callA (caps := []) (xs := [cD (.fn 89 []), .c (wC 3 encTime p0)]) (moment_fold__greatest_ok_v1 hr1) rfl rfl rfl rfl rfl rfl (.cons (.refl _) (.cons (.refl _) .nil)) rfl rfl ?_
  refine At.seg 1 [2] [2] (s' := ⟨[(2, .c (.ptr 2 0))], [(2, .box (cTime r1))]⟩) (c := True ∧ True) (by kernel_rfl) ⟨trivial, trivial⟩ ?_
  refine At.done rfl ?_
  show Tri _ _ _ _
  refine Tri.keep [2] [2] (s' := ⟨[(2, .c (.ptr 2 0))], [(2, .box (cTime r1))]⟩) (by kernel_rfl) ?_
  refine Tri.ret ?_
  cases h
  refine ⟨_, _, rfl, ⟨trivial, trivial⟩, rfl, rfl, ?_⟩
  intro k c h
  cases h
set_option maxRecDepth 100000 in
theorem moment_Ahead_ok {p0 : Time} {p1 : Time} {q : Bool} (h : moment_Ahead p0 p1 = some q) :
    Summ Try.prog 55 [.agg (cTime p0), .agg (cTime p1)] [] (cD (.bool q)) [] := by
  refine Summ.intro Try.func55 rfl (by kernel_rfl) (by kernel_rfl) [] rfl ?_
  rintro ⟨P, w0, G0, V, LL, lk, N, φ0, fx⟩ rfl rfl rfl rfl
  unfold moment_Ahead at h
  refine Tri.segL [2, 3] [2, 3] ⟨[(2, .c (.ptr 2 0)), (3, .c (.ptr 3 0))], [(2, .box (cTime p0)), (3, .box (cTime p1))]⟩ (allT 3) (by kernel_rfl) (allT_ok 3) ?_
  refine Tri.seqS ?_
  obtain ⟨r1, hr1, h⟩ := bind_elim h
  refine Tri.drawnS (s' := ⟨[(4, cD (.bool (eqTime r1 p1)))], []⟩) (cs := True ∧ True ∧ True ∧ True ∧ True) [.a [2] [2], .a [3] [3], .m ⟨[(5, .agg (cTime p0)), (6, .agg (cTime p1))], []⟩ ⟨[(7, .c (oC 7 3 ([p0, p1] : List Time)))], [(7, vL 3 encTime ([p0, p1] : List Time))]⟩ [7] [] [], .m ⟨[(7, .c (oC 7 3 ([p0, p1] : List Time)))], [(7, vL 3 encTime ([p0, p1] : List Time))]⟩ ⟨[(8, .agg (cTime r1))], []⟩ [] [] [], .a [3] [3], .m ⟨[(8, .agg (cTime r1)), (9, .agg (cTime p1))], []⟩ ⟨[(10, cD (.bool (eqTime r1 p1)))], []⟩ [] [] [], .a [10] []] [[], [], [0, 1], [0, 1, 2], [], [0, 1, 2, 3, 4], [0, 1, 2, 3, 4, 5]] [4] [] (by kernel_rfl) (by kernel_rfl) (by kernel_rfl) (by kernel_rfl) (by kernel_rfl) ⟨trivial, trivial, trivial, trivial, trivial⟩ (.a (.a (.m ?_ (.m ?_ (.a (.m ?_ (.a .z))))))) (by kernel_rfl) ?_
  · exact DOk.one fun r hr => One.buildT (e := 42) (es := 3) (z := [.d (dU 0), .d (dU 0), .d (dU 0)]) (cells := [.d (dU p0.epoch), .d (dU p0.loop.1), .d (dU p0.loop.2), .d (dU p1.epoch), .d (dU p1.loop.1), .d (dU p1.loop.2)]) (encTime) ([p0, p1] : List Time) rfl (by kernel_rfl) rfl rfl (St.noRef_app (by kernel_rfl) (hr 7 (by simp))) (by kernel_rfl) rfl (by kernel_rfl) rfl rfl rfl (by kernel_rfl) rfl ⟨⟨rfl, .refl _⟩, ⟨rfl, .refl _⟩, trivial⟩
  · exact DOk.callA (caps := []) (xs := [.c (oC 7 3 ([p0, p1] : List Time))]) (moment_Lub_ok_v0 hr1) rfl (fun r => by kernel_rfl) rfl (fun r => by kernel_rfl) (fun r => by kernel_rfl) (fun r => (.cons (AVArg.view (encTime) ([p0, p1] : List Time) rfl) .nil)) rfl rfl (fun r => rfl)
  · exact DOk.one fun r _ => One.eql (b := (eqTime r1 p1)) (d := 9) rfl (by kernel_rfl) rfl (.inl rfl) rfl rfl (by kernel_rfl) rfl (by kernel_rfl)
  show Tri _ _ _ _
  refine Tri.keep [4] [] (s' := ⟨[(4, cD (.bool (eqTime r1 p1)))], []⟩) (by kernel_rfl) ?_
  refine Tri.ret ?_
  cases h
  refine ⟨_, _, rfl, ⟨trivial, trivial⟩, rfl, rfl, ?_⟩
  intro k c h
  cases h
set_option maxRecDepth 100000 in
theorem diff_added_1_ok {p0 : Count} {p1 : Count} {q : Int} (h : diff_added_1 p0 p1 = some q) :
    Summ Try.prog 77 [.agg (cCount p0), .agg (cCount p1)] [] (cD (dI q)) [] := by
  refine Summ.intro Try.func77 rfl (by kernel_rfl) (by kernel_rfl) [] rfl ?_
  rintro ⟨P, w0, G0, V, LL, lk, N, φ0, fx⟩ rfl rfl rfl rfl
  unfold diff_added_1 at h
  refine Tri.segL [2, 3] [2, 3] ⟨[(2, .c (.ptr 2 0)), (3, .c (.ptr 3 0))], [(2, .box (cCount p0)), (3, .box (cCount p1))]⟩ (allT 3) (by kernel_rfl) (allT_ok 3) ?_
  refine Tri.seqS ?_
  refine Tri.reg ?_
  refine At.seg 4 [6, 8] [] (s' := ⟨[(6, cD (lD 3 encValue p0.row)), (8, cD (lD 3 encValue p1.row))], []⟩) (c := True ∧ True ∧ True ∧ True ∧ True) (by kernel_rfl) ⟨trivial, trivial, trivial, trivial, trivial⟩ ?_
  obtain ⟨r1, hr1, h⟩ := bind_elim h
  refine At.callA (caps := []) (xs := [cD (lD 3 encValue p0.row), cD (lD 3 encValue p1.row)]) (value_Rows_ok hr1) rfl rfl rfl rfl rfl rfl (.cons (.refl _) (.cons (.refl _) .nil)) rfl rfl ?_
  refine At.seg 1 [4] [] (s' := ⟨[(4, cD (dI r1))], []⟩) (c := True ∧ True) (by kernel_rfl) ⟨trivial, trivial⟩ ?_
  refine At.done rfl ?_
  show Tri _ _ _ _
  refine Tri.keep [4] [] (s' := ⟨[(4, cD (dI r1))], []⟩) (by kernel_rfl) ?_
  refine Tri.ret ?_
  cases h
  refine ⟨_, _, rfl, ⟨trivial, trivial⟩, rfl, rfl, ?_⟩
  intro k c h
  cases h
set_option maxRecDepth 100000 in
theorem slices_insertionSortCmpFunc_Count__diff_added_1_w_ok {fuel : Nat} {p1 : Int} {p2 : Int} {l0 : List Count} {q : List Count} (h : slices_insertionSortCmpFunc_Count__diff_added_1_w fuel p1 p2 l0 = some q) :
    Summ Try.prog 98 [.c (oC 5000 2 l0), cD (dI p1), cD (dI p2), cD (.fn 77 [])] [(5000, vL 2 encCount l0)] (.tup []) [(5000, vL 2 encCount q)] := by
  refine Summ.intro Try.func98 rfl (by kernel_rfl) (by kernel_rfl) [] rfl ?_
  rintro ⟨P, w0, G0, V, LL, lk, N, φ0, fx⟩ rfl rfl rfl rfl
  unfold slices_insertionSortCmpFunc_Count__diff_added_1_w at h
  refine Tri.segC [0, 1, 2, 3, 8] [5000] (allT 3) (by kernel_rfl) (by kernel_rfl) (allT_ok 3) ?_
  refine Tri.keep [0, 1, 2, 3, 8] [5000] (s' := ⟨[(0, .c (oC 5000 2 l0)), (1, cD (dI p1)), (2, cD (dI p2)), (3, cD (.fn 77 [])), (8, cD (dI (IntKind.i64.wrap (p1 + 1))))], [(5000, vL 2 encCount l0)]⟩) (by kernel_rfl) ?_
  refine Tri.loopK (fuel := fuel) (st0 := ((IntKind.i64.wrap (p1 + 1)), l0)) (fun (x : Empty) s => False) (fun (a1 : Int × (List Count)) => ⟨[(0, .c (oC 5000 2 a1.2)), (1, cD (dI p1)), (2, cD (dI p2)), (3, cD (.fn 77 [])), (8, cD (dI a1.1))], [(5000, vL 2 encCount a1.2)]⟩) (fun (a1 : Int × (List Count)) => ⟨[], [(5000, vL 2 encCount a1.2)]⟩) h ?_ ?_ ?_
  ·intro a1 c h
   show Tri _ _ ⟨[(0, .c (oC 5000 2 a1.2)), (1, cD (dI p1)), (2, cD (dI p2)), (3, cD (.fn 77 [])), (8, cD (dI a1.1))], [(5000, vL 2 encCount a1.2)]⟩ _
   refine Tri.seqS ?_
   refine Tri.segL [0, 1, 2, 3, 8, 14] [5000] ⟨[(0, .c (oC 5000 2 a1.2)), (1, cD (dI p1)), (2, cD (dI p2)), (3, cD (.fn 77 [])), (8, cD (dI a1.1)), (14, cD (.bool (decide (a1.1 < p2))))], [(5000, vL 2 encCount a1.2)]⟩ (allT 3) (by kernel_rfl) (allT_ok 3) ?_
   refine Tri.condP (b := (decide (a1.1 < p2))) rfl h (fun h => ?_) (fun h => ?_)
   ·refine Tri.skip ?_
    show Tri _ _ _ _
    refine Tri.seqS ?_
    refine Tri.blockB ?_
    refine Tri.segC [0, 1, 2, 3, 8, 9] [5000] (allT 2) (by kernel_rfl) (by kernel_rfl) (allT_ok 2) ?_
    refine Tri.keep [0, 1, 2, 3, 8, 9] [5000] (s' := ⟨[(0, .c (oC 5000 2 a1.2)), (1, cD (dI p1)), (2, cD (dI p2)), (3, cD (.fn 77 [])), (8, cD (dI a1.1)), (9, cD (dI a1.1))], [(5000, vL 2 encCount a1.2)]⟩) (by kernel_rfl) ?_
    refine Tri.loopK (fuel := fuel) (st0 := (a1.1, a1.2)) (fun (x : Empty) s => False) (fun (a3 : Int × (List Count)) => ⟨[(0, .c (oC 5000 2 a3.2)), (1, cD (dI p1)), (2, cD (dI p2)), (3, cD (.fn 77 [])), (8, cD (dI a1.1)), (9, cD (dI a3.1))], [(5000, vL 2 encCount a3.2)]⟩) (fun (a3 : Int × (List Count)) => ⟨[(0, .c (oC 5000 2 a3.2)), (1, cD (dI p1)), (2, cD (dI p2)), (3, cD (.fn 77 [])), (8, cD (dI a1.1)), (9, cD (dI a3.1))], [(5000, vL 2 encCount a3.2)]⟩) h ?_ ?_ ?_
    ·intro a3 c h
     show Tri _ _ ⟨[(0, .c (oC 5000 2 a3.2)), (1, cD (dI p1)), (2, cD (dI p2)), (3, cD (.fn 77 [])), (8, cD (dI a1.1)), (9, cD (dI a3.1))], [(5000, vL 2 encCount a3.2)]⟩ _
     refine Tri.seqS ?_
     refine Tri.seqJ (fun (a5 : Bool) => ⟨[(0, .c (oC 5000 2 a3.2)), (1, cD (dI p1)), (2, cD (dI p2)), (3, cD (.fn 77 [])), (8, cD (dI a1.1)), (9, cD (dI a3.1)), (34, cD (.bool a5))], [(5000, vL 2 encCount a3.2)]⟩) h (fun a5 h => ?_) (fun j6 h => ?_)
     ·show Tri _ _ ⟨[(0, .c (oC 5000 2 a3.2)), (1, cD (dI p1)), (2, cD (dI p2)), (3, cD (.fn 77 [])), (8, cD (dI a1.1)), (9, cD (dI a3.1)), (34, cD (.bool a5))], [(5000, vL 2 encCount a3.2)]⟩ _
      refine Tri.condP (b := a5) rfl h (fun h => ?_) (fun h => ?_)
      ·refine Tri.skip ?_
       show Tri _ _ _ _
       refine Tri.seqS ?_
       refine Tri.blockB ?_
       obtain ⟨hc7, h⟩ := need_elim h
       obtain ⟨hc8, h⟩ := need_elim h
       obtain ⟨hc9, h⟩ := need_elim h
       obtain ⟨hc10, h⟩ := need_elim h
       obtain ⟨hc11, h⟩ := need_elim h
       obtain ⟨hc12, h⟩ := need_elim h
       obtain ⟨hc13, h⟩ := need_elim h
       obtain ⟨hc14, h⟩ := need_elim h
       refine Tri.afterA ⟨[(0, .c (oC 5000 2 a3.2)), (1, cD (dI p1)), (2, cD (dI p2)), (3, cD (.fn 77 [])), (8, cD (dI a1.1)), (9, cD (dI a3.1))], [(5000, vL 2 encCount ((a3.2.set (0 + a3.1.toNat) (a3.2.getD (0 + (IntKind.i64.wrap (a3.1 - 1)).toNat) default)).set (0 + (IntKind.i64.wrap (a3.1 - 1)).toNat) (a3.2.getD (0 + a3.1.toNat) default)))]⟩ ?_ ?_
       ·refine Tri.drawnS (s' := ⟨[(0, .c (oC 5000 2 a3.2)), (1, cD (dI p1)), (2, cD (dI p2)), (3, cD (.fn 77 [])), (8, cD (dI a1.1)), (9, cD (dI a3.1))], [(5000, vL 2 encCount ((a3.2.set (0 + a3.1.toNat) (a3.2.getD (0 + (IntKind.i64.wrap (a3.1 - 1)).toNat) default)).set (0 + (IntKind.i64.wrap (a3.1 - 1)).toNat) (a3.2.getD (0 + a3.1.toNat) default)))]⟩) (cs := True ∧ True ∧ True ∧ True ∧ True ∧ True ∧ True ∧ True ∧ ((0 : Int) ≤ (IntKind.i64.wrap (a3.1 - 1)) ∧ (IntKind.i64.wrap (a3.1 - 1)) < (a3.2.length : Int)) ∧ ((0 + (IntKind.i64.wrap (a3.1 - 1)).toNat) < a3.2.length) ∧ True ∧ True ∧ ((0 : Int) ≤ a3.1 ∧ a3.1 < (a3.2.length : Int)) ∧ ((0 + a3.1.toNat) < a3.2.length) ∧ ((0 : Int) ≤ a3.1 ∧ a3.1 < (a3.2.length : Int)) ∧ ((0 : Int) ≤ (IntKind.i64.wrap (a3.1 - 1)) ∧ (IntKind.i64.wrap (a3.1 - 1)) < (a3.2.length : Int)) ∧ True) [.a [0] [], .a [9] [], .a [0] [], .a [9] [], .a [40] [], .a [0] [], .a [9] [], .a [43] [], .a [42, 44] [5000], .a [45] [5000], .a [0] [], .a [9] [], .a [47, 48] [5000], .a [49] [5000], .a [37, 38] [5000], .m ⟨[(46, .agg (cCount (a3.2.getD (0 + (IntKind.i64.wrap (a3.1 - 1)).toNat) default))), (51, .c (.vptr 5000 2 (0 + a3.1.toNat) 0))], [(5000, vL 2 encCount a3.2)]⟩ ⟨[], [(5000, vL 2 encCount (a3.2.set (0 + a3.1.toNat) (a3.2.getD (0 + (IntKind.i64.wrap (a3.1 - 1)).toNat) default)))]⟩ [] [] [], .a [39, 41] [5000], .m ⟨[(50, .agg (cCount (a3.2.getD (0 + a3.1.toNat) default))), (52, .c (.vptr 5000 2 (0 + (IntKind.i64.wrap (a3.1 - 1)).toNat) 0))], [(5000, vL 2 encCount (a3.2.set (0 + a3.1.toNat) (a3.2.getD (0 + (IntKind.i64.wrap (a3.1 - 1)).toNat) default)))]⟩ ⟨[], [(5000, vL 2 encCount ((a3.2.set (0 + a3.1.toNat) (a3.2.getD (0 + (IntKind.i64.wrap (a3.1 - 1)).toNat) default)).set (0 + (IntKind.i64.wrap (a3.1 - 1)).toNat) (a3.2.getD (0 + a3.1.toNat) default)))]⟩ [] [] []] [[], [], [], [], [3], [], [], [6], [5, 6, 7], [5, 6, 7, 8], [], [], [10, 11], [10, 11, 12], [0, 1, 5, 6, 7, 8, 9, 10, 11, 12, 13], [0, 1, 5, 6, 7, 8, 9, 10, 11, 12, 13, 14], [0, 1, 2, 3, 4, 5, 6, 7, 8, 9, 10, 11, 12, 13, 14, 15], [0, 1, 2, 3, 4, 5, 6, 7, 8, 9, 10, 11, 12, 13, 14, 15, 16]] [0, 1, 2, 3, 8, 9] [5000] (by kernel_rfl) (by kernel_rfl) (by kernel_rfl) (by kernel_rfl) (by kernel_rfl) ⟨trivial, trivial, trivial, trivial, trivial, trivial, trivial, trivial, hc7, hc8, trivial, trivial, hc9, hc10, hc11, hc13, trivial⟩ (.a (.a (.a (.a (.a (.a (.a (.a (.a (.a (.a (.a (.a (.a (.a (.m ?_ (.a (.m ?_ .z)))))))))))))))))) (by kernel_rfl) ?_
        · exact DOk.one fun r hr => One.storeT (xs := [.d (lD 3 encValue ((a3.2.getD (0 + (IntKind.i64.wrap (a3.1 - 1)).toNat) default).row)), .d (dI ((a3.2.getD (0 + (IntKind.i64.wrap (a3.1 - 1)).toNat) default).n))]) (ds := [lD 3 encValue ((a3.2.getD (0 + (IntKind.i64.wrap (a3.1 - 1)).toNat) default).row), dI ((a3.2.getD (0 + (IntKind.i64.wrap (a3.1 - 1)).toNat) default).n)]) (encCount) a3.2 (a3.2.getD (0 + (IntKind.i64.wrap (a3.1 - 1)).toNat) default) rfl (by kernel_rfl) rfl rfl rfl hc12 rfl rfl (.refl _) rfl rfl rfl rfl
        · exact DOk.one fun r hr => One.storeT (xs := [.d (lD 3 encValue ((a3.2.getD (0 + a3.1.toNat) default).row)), .d (dI ((a3.2.getD (0 + a3.1.toNat) default).n))]) (ds := [lD 3 encValue ((a3.2.getD (0 + a3.1.toNat) default).row), dI ((a3.2.getD (0 + a3.1.toNat) default).n)]) (encCount) (a3.2.set (0 + a3.1.toNat) (a3.2.getD (0 + (IntKind.i64.wrap (a3.1 - 1)).toNat) default)) (a3.2.getD (0 + a3.1.toNat) default) rfl (by kernel_rfl) rfl rfl rfl hc14 rfl rfl (.refl _) rfl rfl rfl rfl
        exact ⟨rfl, rfl⟩
       ·refine At.eqS (s' := ⟨[(0, .c (oC 5000 2 ((a3.2.set (0 + a3.1.toNat) (a3.2.getD (0 + (IntKind.i64.wrap (a3.1 - 1)).toNat) default)).set (0 + (IntKind.i64.wrap (a3.1 - 1)).toNat) (a3.2.getD (0 + a3.1.toNat) default)))), (1, cD (dI p1)), (2, cD (dI p2)), (3, cD (.fn 77 [])), (8, cD (dI a1.1)), (9, cD (dI a3.1))], [(5000, vL 2 encCount ((a3.2.set (0 + a3.1.toNat) (a3.2.getD (0 + (IntKind.i64.wrap (a3.1 - 1)).toNat) default)).set (0 + (IntKind.i64.wrap (a3.1 - 1)).toNat) (a3.2.getD (0 + a3.1.toNat) default)))]⟩) (by simp only [oC, vL, List.length_set]) ?_
        refine At.done rfl ?_
        show Tri _ _ _ _
        refine Tri.reg ?_
        refine At.seg 3 [0, 1, 2, 3, 8, 9] [5000] (s' := ⟨[(0, .c (oC 5000 2 ((a3.2.set (0 + a3.1.toNat) (a3.2.getD (0 + (IntKind.i64.wrap (a3.1 - 1)).toNat) default)).set (0 + (IntKind.i64.wrap (a3.1 - 1)).toNat) (a3.2.getD (0 + a3.1.toNat) default)))), (1, cD (dI p1)), (2, cD (dI p2)), (3, cD (.fn 77 [])), (8, cD (dI a1.1)), (9, cD (dI (IntKind.i64.wrap (a3.1 - 1))))], [(5000, vL 2 encCount ((a3.2.set (0 + a3.1.toNat) (a3.2.getD (0 + (IntKind.i64.wrap (a3.1 - 1)).toNat) default)).set (0 + (IntKind.i64.wrap (a3.1 - 1)).toNat) (a3.2.getD (0 + a3.1.toNat) default)))]⟩) (c := True ∧ True ∧ True ∧ True) (by kernel_rfl) ⟨trivial, trivial, trivial, trivial⟩ ?_
        refine At.done rfl ?_
        cases h
        exact rfl
      ·refine Tri.keep [0, 1, 2, 3, 8, 9] [5000] (s' := ⟨[(0, .c (oC 5000 2 a3.2)), (1, cD (dI p1)), (2, cD (dI p2)), (3, cD (.fn 77 [])), (8, cD (dI a1.1)), (9, cD (dI a3.1))], [(5000, vL 2 encCount a3.2)]⟩) (by kernel_rfl) ?_
       refine Tri.exit ?_
       cases h
       exact ⟨rfl, rfl⟩
     ·rcases bf_cases h with ⟨hp15, h⟩ | ⟨hp15, h⟩
      ·obtain ⟨hc16, h⟩ := need_elim h
       obtain ⟨hc17, h⟩ := need_elim h
       obtain ⟨hc18, h⟩ := need_elim h
       obtain ⟨hc19, h⟩ := need_elim h
       obtain ⟨r20, hr20, h⟩ := bind_elim h
       refine Tri.drawnS (s' := ⟨[(0, .c (oC 5000 2 a3.2)), (1, cD (dI p1)), (2, cD (dI p2)), (3, cD (.fn 77 [])), (8, cD (dI a1.1)), (9, cD (dI a3.1)), (34, cD (.bool (decide (r20 < 0))))], [(5000, vL 2 encCount a3.2)]⟩) (cs := True ∧ True ∧ True ∧ True ∧ True ∧ True ∧ ((0 : Int) ≤ a3.1 ∧ a3.1 < (a3.2.length : Int)) ∧ ((0 + a3.1.toNat) < a3.2.length) ∧ True ∧ True ∧ True ∧ ((0 : Int) ≤ (IntKind.i64.wrap (a3.1 - 1)) ∧ (IntKind.i64.wrap (a3.1 - 1)) < (a3.2.length : Int)) ∧ ((0 + (IntKind.i64.wrap (a3.1 - 1)).toNat) < a3.2.length) ∧ True ∧ True ∧ True) [.a [9] [], .a [1] [], .a [18, 19] [], .m ⟨[(20, cD (.bool (decide (p1 < a3.1))))], []⟩ ⟨[(21, .c (.d (.bool true)))], []⟩ [] [] [], .a [3, 21] [], .a [0, 21] [], .a [9, 21] [], .a [21, 23, 24] [5000], .a [21, 25] [5000], .a [0, 21] [], .a [9, 21] [], .a [21, 28] [], .a [21, 27, 29] [5000], .a [21, 30] [5000], .m ⟨[(21, cD (.bool true)), (22, cD (.fn 77 [])), (26, .agg (cCount (a3.2.getD (0 + a3.1.toNat) default))), (31, .agg (cCount (a3.2.getD (0 + (IntKind.i64.wrap (a3.1 - 1)).toNat) default)))], []⟩ ⟨[(32, cD (dI r20))], []⟩ [] [] [], .a [21, 32] [], .a [21, 33] []] [[], [], [0, 1], [0, 1, 2], [0, 1, 2, 3], [0, 1, 2, 3], [0, 1, 2, 3], [0, 1, 2, 3, 5, 6], [0, 1, 2, 3, 5, 6, 7], [0, 1, 2, 3], [0, 1, 2, 3], [0, 1, 2, 3, 10], [0, 1, 2, 3, 9, 10, 11], [0, 1, 2, 3, 9, 10, 11, 12], [0, 1, 2, 3, 4, 5, 6, 7, 8, 9, 10, 11, 12, 13], [0, 1, 2, 3, 4, 5, 6, 7, 8, 9, 10, 11, 12, 13, 14], [0, 1, 2, 3, 4, 5, 6, 7, 8, 9, 10, 11, 12, 13, 14, 15]] [0, 1, 2, 3, 8, 9, 34] [5000] (by kernel_rfl) (by kernel_rfl) (by kernel_rfl) (by kernel_rfl) (by kernel_rfl) ⟨trivial, trivial, trivial, trivial, trivial, trivial, hc16, hc17, trivial, trivial, trivial, hc18, hc19, trivial, trivial, trivial⟩ (.a (.a (.a (.m ?_ (.a (.a (.a (.a (.a (.a (.a (.a (.a (.a (.m ?_ (.a (.a .z))))))))))))))))) (by kernel_rfl) ?_
       · exact DOk.stepP (fun b => .val (.c (.d (.bool b))) (True)) (p := (decide (p1 < a3.1))) hp15 (fun r => by kernel_rfl) (fun r => by kernel_rfl) trivial (by kernel_rfl) (by kernel_rfl) (fun r => rfl)
       · exact DOk.callA (caps := []) (xs := [.agg (cCount (a3.2.getD (0 + a3.1.toNat) default)), .agg (cCount (a3.2.getD (0 + (IntKind.i64.wrap (a3.1 - 1)).toNat) default))]) (diff_added_1_ok hr20) rfl (fun r => by kernel_rfl) rfl (fun r => by kernel_rfl) (fun r => by kernel_rfl) (fun r => (.cons (.refl _) (.cons (.refl _) .nil))) rfl rfl (fun r => rfl)
       exact ⟨_, h, rfl⟩
      ·refine Tri.drawnS (s' := ⟨[(0, .c (oC 5000 2 a3.2)), (1, cD (dI p1)), (2, cD (dI p2)), (3, cD (.fn 77 [])), (8, cD (dI a1.1)), (9, cD (dI a3.1)), (34, cD (.bool false))], [(5000, vL 2 encCount a3.2)]⟩) (cs := True ∧ True ∧ True ∧ True ∧ True) [.a [9] [], .a [1] [], .a [18, 19] [], .m ⟨[(20, cD (.bool (decide (p1 < a3.1))))], []⟩ ⟨[(21, .c (.d (.bool false)))], []⟩ [] [] [], .a [3, 21] [], .a [0, 21] [], .a [9, 21] [], .a [21, 23, 24] [], .a [21, 25] [], .a [0, 21] [], .a [9, 21] [], .a [21, 28] [], .a [21, 27, 29] [], .a [21, 30] [], .a [21, 22, 26, 31] [], .a [21, 32] [], .a [21, 33] []] [[], [], [0, 1], [0, 1, 2], [0, 1, 2, 3], [0, 1, 2, 3], [0, 1, 2, 3], [0, 1, 2, 3, 5, 6], [0, 1, 2, 3, 5, 6, 7], [0, 1, 2, 3], [0, 1, 2, 3], [0, 1, 2, 3, 10], [0, 1, 2, 3, 9, 10, 11], [0, 1, 2, 3, 9, 10, 11, 12], [0, 1, 2, 3, 4, 5, 6, 7, 8, 9, 10, 11, 12, 13], [0, 1, 2, 3, 4, 5, 6, 7, 8, 9, 10, 11, 12, 13, 14], [0, 1, 2, 3, 4, 5, 6, 7, 8, 9, 10, 11, 12, 13, 14, 15]] [0, 1, 2, 3, 8, 9, 34] [5000] (by kernel_rfl) (by kernel_rfl) (by kernel_rfl) (by kernel_rfl) (by kernel_rfl) ⟨trivial, trivial, trivial, trivial, trivial⟩ (.a (.a (.a (.m ?_ (.a (.a (.a (.a (.a (.a (.a (.a (.a (.a (.a (.a (.a .z))))))))))))))))) (by kernel_rfl) ?_
       · exact DOk.stepP (fun b => .val (.c (.d (.bool b))) (True)) (p := (decide (p1 < a3.1))) hp15 (fun r => by kernel_rfl) (fun r => by kernel_rfl) trivial (by kernel_rfl) (by kernel_rfl) (fun r => rfl)
       exact ⟨_, h, rfl⟩
    ·intro a4 h
     show Tri _ _ _ _
     refine Tri.reg ?_
     refine At.seg 3 [0, 1, 2, 3, 8] [5000] (s' := ⟨[(0, .c (oC 5000 2 a4.2)), (1, cD (dI p1)), (2, cD (dI p2)), (3, cD (.fn 77 [])), (8, cD (dI (IntKind.i64.wrap (a1.1 + 1))))], [(5000, vL 2 encCount a4.2)]⟩) (c := True ∧ True ∧ True ∧ True) (by kernel_rfl) ⟨trivial, trivial, trivial, trivial⟩ ?_
     refine At.done rfl ?_
     cases h
     exact rfl
    · exact fun x => x.elim
   ·refine Tri.keep [] [5000] (s' := ⟨[], [(5000, vL 2 encCount a1.2)]⟩) (by kernel_rfl) ?_
    refine Tri.exit ?_
    cases h
    exact ⟨rfl, rfl⟩
  ·intro a2 h
   cases h
   refine ⟨_, _, rfl, trivial, rfl, rfl, ?_⟩
   exact SubS.out ⟨⟨rfl, rfl⟩, trivial⟩
  · exact fun x => x.elim
set_option maxRecDepth 100000 in
theorem slices_swapRangeCmpFunc_Count__diff_added_1_w_ok {fuel : Nat} {p1 : Int} {p2 : Int} {p3 : Int} {l0 : List Count} {q : List Count} (h : slices_swapRangeCmpFunc_Count__diff_added_1_w fuel p1 p2 p3 l0 = some q) :
    Summ Try.prog 102 [.c (oC 5000 2 l0), cD (dI p1), cD (dI p2), cD (dI p3), cD (.fn 77 [])] [(5000, vL 2 encCount l0)] (.tup []) [(5000, vL 2 encCount q)] := by
  refine Summ.intro Try.func102 rfl (by kernel_rfl) (by kernel_rfl) [] rfl ?_
  rintro ⟨P, w0, G0, V, LL, lk, N, φ0, fx⟩ rfl rfl rfl rfl
  unfold slices_swapRangeCmpFunc_Count__diff_added_1_w at h
  refine Tri.segC [0, 1, 2, 3, 10] [5000] (allT 1) (by kernel_rfl) (by kernel_rfl) (allT_ok 1) ?_
  refine Tri.keep [0, 1, 2, 3, 10] [5000] (s' := ⟨[(0, .c (oC 5000 2 l0)), (1, cD (dI p1)), (2, cD (dI p2)), (3, cD (dI p3)), (10, cD (dI 0))], [(5000, vL 2 encCount l0)]⟩) (by kernel_rfl) ?_
  refine Tri.loopK (fuel := fuel) (st0 := (0, l0)) (fun (x : Empty) s => False) (fun (a1 : Int × (List Count)) => ⟨[(0, .c (oC 5000 2 a1.2)), (1, cD (dI p1)), (2, cD (dI p2)), (3, cD (dI p3)), (10, cD (dI a1.1))], [(5000, vL 2 encCount a1.2)]⟩) (fun (a1 : Int × (List Count)) => ⟨[], [(5000, vL 2 encCount a1.2)]⟩) h ?_ ?_ ?_
  ·intro a1 c h
   show Tri _ _ ⟨[(0, .c (oC 5000 2 a1.2)), (1, cD (dI p1)), (2, cD (dI p2)), (3, cD (dI p3)), (10, cD (dI a1.1))], [(5000, vL 2 encCount a1.2)]⟩ _
   refine Tri.seqS ?_
   refine Tri.segL [0, 1, 2, 3, 10, 13] [5000] ⟨[(0, .c (oC 5000 2 a1.2)), (1, cD (dI p1)), (2, cD (dI p2)), (3, cD (dI p3)), (10, cD (dI a1.1)), (13, cD (.bool (decide (a1.1 < p3))))], [(5000, vL 2 encCount a1.2)]⟩ (allT 3) (by kernel_rfl) (allT_ok 3) ?_
   refine Tri.condP (b := (decide (a1.1 < p3))) rfl h (fun h => ?_) (fun h => ?_)
   ·refine Tri.skip ?_
    show Tri _ _ _ _
    refine Tri.seqS ?_
    refine Tri.blockB ?_
    obtain ⟨hc3, h⟩ := need_elim h
    obtain ⟨hc4, h⟩ := need_elim h
    obtain ⟨hc5, h⟩ := need_elim h
    obtain ⟨hc6, h⟩ := need_elim h
    obtain ⟨hc7, h⟩ := need_elim h
    obtain ⟨hc8, h⟩ := need_elim h
    obtain ⟨hc9, h⟩ := need_elim h
    obtain ⟨hc10, h⟩ := need_elim h
    refine Tri.afterA ⟨[(0, .c (oC 5000 2 a1.2)), (1, cD (dI p1)), (2, cD (dI p2)), (3, cD (dI p3)), (10, cD (dI a1.1))], [(5000, vL 2 encCount ((a1.2.set (0 + (IntKind.i64.wrap (p1 + a1.1)).toNat) (a1.2.getD (0 + (IntKind.i64.wrap (p2 + a1.1)).toNat) default)).set (0 + (IntKind.i64.wrap (p2 + a1.1)).toNat) (a1.2.getD (0 + (IntKind.i64.wrap (p1 + a1.1)).toNat) default)))]⟩ ?_ ?_
    ·refine Tri.drawnS (s' := ⟨[(0, .c (oC 5000 2 a1.2)), (1, cD (dI p1)), (2, cD (dI p2)), (3, cD (dI p3)), (10, cD (dI a1.1))], [(5000, vL 2 encCount ((a1.2.set (0 + (IntKind.i64.wrap (p1 + a1.1)).toNat) (a1.2.getD (0 + (IntKind.i64.wrap (p2 + a1.1)).toNat) default)).set (0 + (IntKind.i64.wrap (p2 + a1.1)).toNat) (a1.2.getD (0 + (IntKind.i64.wrap (p1 + a1.1)).toNat) default)))]⟩) (cs := True ∧ True ∧ True ∧ True ∧ True ∧ True ∧ True ∧ True ∧ True ∧ True ∧ True ∧ True ∧ ((0 : Int) ≤ (IntKind.i64.wrap (p2 + a1.1)) ∧ (IntKind.i64.wrap (p2 + a1.1)) < (a1.2.length : Int)) ∧ ((0 + (IntKind.i64.wrap (p2 + a1.1)).toNat) < a1.2.length) ∧ True ∧ True ∧ True ∧ True ∧ ((0 : Int) ≤ (IntKind.i64.wrap (p1 + a1.1)) ∧ (IntKind.i64.wrap (p1 + a1.1)) < (a1.2.length : Int)) ∧ ((0 + (IntKind.i64.wrap (p1 + a1.1)).toNat) < a1.2.length) ∧ ((0 : Int) ≤ (IntKind.i64.wrap (p1 + a1.1)) ∧ (IntKind.i64.wrap (p1 + a1.1)) < (a1.2.length : Int)) ∧ ((0 : Int) ≤ (IntKind.i64.wrap (p2 + a1.1)) ∧ (IntKind.i64.wrap (p2 + a1.1)) < (a1.2.length : Int)) ∧ True) [.a [0] [], .a [1] [], .a [10] [], .a [17, 18] [], .a [0] [], .a [2] [], .a [10] [], .a [21, 22] [], .a [0] [], .a [2] [], .a [10] [], .a [25, 26] [], .a [24, 27] [5000], .a [28] [5000], .a [0] [], .a [1] [], .a [10] [], .a [31, 32] [], .a [30, 33] [5000], .a [34] [5000], .a [16, 19] [5000], .m ⟨[(29, .agg (cCount (a1.2.getD (0 + (IntKind.i64.wrap (p2 + a1.1)).toNat) default))), (36, .c (.vptr 5000 2 (0 + (IntKind.i64.wrap (p1 + a1.1)).toNat) 0))], [(5000, vL 2 encCount a1.2)]⟩ ⟨[], [(5000, vL 2 encCount (a1.2.set (0 + (IntKind.i64.wrap (p1 + a1.1)).toNat) (a1.2.getD (0 + (IntKind.i64.wrap (p2 + a1.1)).toNat) default)))]⟩ [] [] [], .a [20, 23] [5000], .m ⟨[(35, .agg (cCount (a1.2.getD (0 + (IntKind.i64.wrap (p1 + a1.1)).toNat) default))), (37, .c (.vptr 5000 2 (0 + (IntKind.i64.wrap (p2 + a1.1)).toNat) 0))], [(5000, vL 2 encCount (a1.2.set (0 + (IntKind.i64.wrap (p1 + a1.1)).toNat) (a1.2.getD (0 + (IntKind.i64.wrap (p2 + a1.1)).toNat) default)))]⟩ ⟨[], [(5000, vL 2 encCount ((a1.2.set (0 + (IntKind.i64.wrap (p1 + a1.1)).toNat) (a1.2.getD (0 + (IntKind.i64.wrap (p2 + a1.1)).toNat) default)).set (0 + (IntKind.i64.wrap (p2 + a1.1)).toNat) (a1.2.getD (0 + (IntKind.i64.wrap (p1 + a1.1)).toNat) default)))]⟩ [] [] []] [[], [], [], [1, 2], [], [], [], [5, 6], [], [], [], [9, 10], [8, 9, 10, 11], [8, 9, 10, 11, 12], [], [], [], [15, 16], [14, 15, 16, 17], [14, 15, 16, 17, 18], [0, 1, 2, 3, 8, 9, 10, 11, 12, 13, 14, 15, 16, 17, 18, 19], [0, 1, 2, 3, 8, 9, 10, 11, 12, 13, 14, 15, 16, 17, 18, 19, 20], [0, 1, 2, 3, 4, 5, 6, 7, 8, 9, 10, 11, 12, 13, 14, 15, 16, 17, 18, 19, 20, 21], [0, 1, 2, 3, 4, 5, 6, 7, 8, 9, 10, 11, 12, 13, 14, 15, 16, 17, 18, 19, 20, 21, 22]] [0, 1, 2, 3, 10] [5000] (by kernel_rfl) (by kernel_rfl) (by kernel_rfl) (by kernel_rfl) (by kernel_rfl) ⟨trivial, trivial, trivial, trivial, trivial, trivial, trivial, trivial, trivial, trivial, trivial, trivial, hc3, hc4, trivial, trivial, trivial, trivial, hc5, hc6, hc7, hc9, trivial⟩ (.a (.a (.a (.a (.a (.a (.a (.a (.a (.a (.a (.a (.a (.a (.a (.a (.a (.a (.a (.a (.a (.m ?_ (.a (.m ?_ .z)))))))))))))))))))))))) (by kernel_rfl) ?_
     · exact DOk.one fun r hr => One.storeT (xs := [.d (lD 3 encValue ((a1.2.getD (0 + (IntKind.i64.wrap (p2 + a1.1)).toNat) default).row)), .d (dI ((a1.2.getD (0 + (IntKind.i64.wrap (p2 + a1.1)).toNat) default).n))]) (ds := [lD 3 encValue ((a1.2.getD (0 + (IntKind.i64.wrap (p2 + a1.1)).toNat) default).row), dI ((a1.2.getD (0 + (IntKind.i64.wrap (p2 + a1.1)).toNat) default).n)]) (encCount) a1.2 (a1.2.getD (0 + (IntKind.i64.wrap (p2 + a1.1)).toNat) default) rfl (by kernel_rfl) rfl rfl rfl hc8 rfl rfl (.refl _) rfl rfl rfl rfl
     · exact DOk.one fun r hr => One.storeT (xs := [.d (lD 3 encValue ((a1.2.getD (0 + (IntKind.i64.wrap (p1 + a1.1)).toNat) default).row)), .d (dI ((a1.2.getD (0 + (IntKind.i64.wrap (p1 + a1.1)).toNat) default).n))]) (ds := [lD 3 encValue ((a1.2.getD (0 + (IntKind.i64.wrap (p1 + a1.1)).toNat) default).row), dI ((a1.2.getD (0 + (IntKind.i64.wrap (p1 + a1.1)).toNat) default).n)]) (encCount) (a1.2.set (0 + (IntKind.i64.wrap (p1 + a1.1)).toNat) (a1.2.getD (0 + (IntKind.i64.wrap (p2 + a1.1)).toNat) default)) (a1.2.getD (0 + (IntKind.i64.wrap (p1 + a1.1)).toNat) default) rfl (by kernel_rfl) rfl rfl rfl hc10 rfl rfl (.refl _) rfl rfl rfl rfl
     exact ⟨rfl, rfl⟩
    ·refine At.eqS (s' := ⟨[(0, .c (oC 5000 2 ((a1.2.set (0 + (IntKind.i64.wrap (p1 + a1.1)).toNat) (a1.2.getD (0 + (IntKind.i64.wrap (p2 + a1.1)).toNat) default)).set (0 + (IntKind.i64.wrap (p2 + a1.1)).toNat) (a1.2.getD (0 + (IntKind.i64.wrap (p1 + a1.1)).toNat) default)))), (1, cD (dI p1)), (2, cD (dI p2)), (3, cD (dI p3)), (10, cD (dI a1.1))], [(5000, vL 2 encCount ((a1.2.set (0 + (IntKind.i64.wrap (p1 + a1.1)).toNat) (a1.2.getD (0 + (IntKind.i64.wrap (p2 + a1.1)).toNat) default)).set (0 + (IntKind.i64.wrap (p2 + a1.1)).toNat) (a1.2.getD (0 + (IntKind.i64.wrap (p1 + a1.1)).toNat) default)))]⟩) (by simp only [oC, vL, List.length_set]) ?_
     refine At.done rfl ?_
     show Tri _ _ _ _
     refine Tri.reg ?_
     refine At.seg 3 [0, 1, 2, 3, 10] [5000] (s' := ⟨[(0, .c (oC 5000 2 ((a1.2.set (0 + (IntKind.i64.wrap (p1 + a1.1)).toNat) (a1.2.getD (0 + (IntKind.i64.wrap (p2 + a1.1)).toNat) default)).set (0 + (IntKind.i64.wrap (p2 + a1.1)).toNat) (a1.2.getD (0 + (IntKind.i64.wrap (p1 + a1.1)).toNat) default)))), (1, cD (dI p1)), (2, cD (dI p2)), (3, cD (dI p3)), (10, cD (dI (IntKind.i64.wrap (a1.1 + 1))))], [(5000, vL 2 encCount ((a1.2.set (0 + (IntKind.i64.wrap (p1 + a1.1)).toNat) (a1.2.getD (0 + (IntKind.i64.wrap (p2 + a1.1)).toNat) default)).set (0 + (IntKind.i64.wrap (p2 + a1.1)).toNat) (a1.2.getD (0 + (IntKind.i64.wrap (p1 + a1.1)).toNat) default)))]⟩) (c := True ∧ True ∧ True ∧ True) (by kernel_rfl) ⟨trivial, trivial, trivial, trivial⟩ ?_
     refine At.done rfl ?_
     cases h
     exact rfl
   ·refine Tri.keep [] [5000] (s' := ⟨[], [(5000, vL 2 encCount a1.2)]⟩) (by kernel_rfl) ?_
    refine Tri.exit ?_
    cases h
    exact ⟨rfl, rfl⟩
  ·intro a2 h
   cases h
   refine ⟨_, _, rfl, trivial, rfl, rfl, ?_⟩
   exact SubS.out ⟨⟨rfl, rfl⟩, trivial⟩
  · exact fun x => x.elim
set_option maxRecDepth 100000 in
theorem slices_rotateCmpFunc_Count__diff_added_1_w_ok {fuel : Nat} {p1 : Int} {p2 : Int} {p3 : Int} {l0 : List Count} {q : List Count} (h : slices_rotateCmpFunc_Count__diff_added_1_w fuel p1 p2 p3 l0 = some q) :
    Summ Try.prog 101 [.c (oC 5000 2 l0), cD (dI p1), cD (dI p2), cD (dI p3), cD (.fn 77 [])] [(5000, vL 2 encCount l0)] (.tup []) [(5000, vL 2 encCount q)] := by
  refine Summ.intro Try.func101 rfl (by kernel_rfl) (by kernel_rfl) [] rfl ?_
  rintro ⟨P, w0, G0, V, LL, lk, N, φ0, fx⟩ rfl rfl rfl rfl
  unfold slices_rotateCmpFunc_Count__diff_added_1_w at h
  refine Tri.segC [0, 2, 3, 4, 10] [5000] (allT 4) (by kernel_rfl) (by kernel_rfl) (allT_ok 4) ?_
  refine Tri.segC [0, 2, 4, 10, 11] [5000] (allT 4) (by kernel_rfl) (by kernel_rfl) (allT_ok 4) ?_
  refine Tri.seqS ?_
  refine Tri.keep [0, 2, 4, 10, 11] [5000] (s' := ⟨[(0, .c (oC 5000 2 l0)), (2, cD (dI p2)), (4, cD (.fn 77 [])), (10, cD (dI (IntKind.i64.wrap (p2 - p1)))), (11, cD (dI (IntKind.i64.wrap (p3 - p2))))], [(5000, vL 2 encCount l0)]⟩) (by kernel_rfl) ?_
  refine Tri.loopK (fuel := fuel) (st0 := ((IntKind.i64.wrap (p2 - p1)), (IntKind.i64.wrap (p3 - p2)), l0)) (fun (x : Empty) s => False) (fun (a1 : Int × Int × (List Count)) => ⟨[(0, .c (oC 5000 2 a1.2.2)), (2, cD (dI p2)), (4, cD (.fn 77 [])), (10, cD (dI a1.1)), (11, cD (dI a1.2.1))], [(5000, vL 2 encCount a1.2.2)]⟩) (fun (a1 : Int × Int × (List Count)) => ⟨[(0, .c (oC 5000 2 a1.2.2)), (2, cD (dI p2)), (4, cD (.fn 77 [])), (10, cD (dI a1.1)), (11, cD (dI a1.2.1))], [(5000, vL 2 encCount a1.2.2)]⟩) h ?_ ?_ ?_
  ·intro a1 c h
   show Tri _ _ ⟨[(0, .c (oC 5000 2 a1.2.2)), (2, cD (dI p2)), (4, cD (.fn 77 [])), (10, cD (dI a1.1)), (11, cD (dI a1.2.1))], [(5000, vL 2 encCount a1.2.2)]⟩ _
   refine Tri.seqS ?_
   refine Tri.segL [0, 2, 4, 10, 11, 20] [5000] ⟨[(0, .c (oC 5000 2 a1.2.2)), (2, cD (dI p2)), (4, cD (.fn 77 [])), (10, cD (dI a1.1)), (11, cD (dI a1.2.1)), (20, cD (.bool (!decide (a1.1 = a1.2.1))))], [(5000, vL 2 encCount a1.2.2)]⟩ (allT 3) (by kernel_rfl) (allT_ok 3) ?_
   refine Tri.condP (b := (!decide (a1.1 = a1.2.1))) rfl h (fun h => ?_) (fun h => ?_)
   ·refine Tri.skip ?_
    show Tri _ _ _ _
    refine Tri.blockB ?_
    refine Tri.segL [0, 2, 4, 10, 11, 23] [5000] ⟨[(0, .c (oC 5000 2 a1.2.2)), (2, cD (dI p2)), (4, cD (.fn 77 [])), (10, cD (dI a1.1)), (11, cD (dI a1.2.1)), (23, cD (.bool (decide (a1.2.1 < a1.1))))], [(5000, vL 2 encCount a1.2.2)]⟩ (allT 3) (by kernel_rfl) (allT_ok 3) ?_
    refine Tri.condP (b := (decide (a1.2.1 < a1.1))) rfl h (fun h => ?_) (fun h => ?_)
    ·refine Tri.seqS ?_
     refine Tri.reg ?_
     refine At.seg 7 [0, 2, 4, 10, 11, 24, 27, 28, 29, 30] [5000] (s' := ⟨[(0, .c (oC 5000 2 a1.2.2)), (2, cD (dI p2)), (4, cD (.fn 77 [])), (10, cD (dI a1.1)), (11, cD (dI a1.2.1)), (24, .c (oC 5000 2 a1.2.2)), (27, cD (dI (IntKind.i64.wrap (p2 - a1.1)))), (28, cD (dI p2)), (29, cD (dI a1.2.1)), (30, cD (.fn 77 []))], [(5000, vL 2 encCount a1.2.2)]⟩) (c := True ∧ True ∧ True ∧ True ∧ True ∧ True ∧ True ∧ True) (by kernel_rfl) ⟨trivial, trivial, trivial, trivial, trivial, trivial, trivial, trivial⟩ ?_
     obtain ⟨r4, hr4, h⟩ := bind_elim h
     refine At.callL (nf := 0) (caps := []) (xs := [.c (oC 5000 2 a1.2.2), cD (dI (IntKind.i64.wrap (p2 - a1.1))), cD (dI p2), cD (dI a1.2.1), cD (.fn 77 [])]) [(5000, 5000)] [0, 2, 4, 10, 11] [] (s0 := ⟨[(0, .c (oC 5000 2 a1.2.2)), (2, cD (dI p2)), (4, cD (.fn 77 [])), (10, cD (dI a1.1)), (11, cD (dI a1.2.1))], []⟩) (slices_swapRangeCmpFunc_Count__diff_added_1_w_ok hr4) rfl rfl (by kernel_rfl) rfl (by kernel_rfl) (by kernel_rfl) (.ren rfl rfl (.flat (.refl _) rfl rfl (.flat (.refl _) rfl rfl (.flat (.refl _) rfl rfl (.flat (.refl _) rfl rfl .nil))))) ⟨⟨by kernel_rfl, by kernel_rfl⟩, trivial⟩ (by kernel_rfl) (by kernel_rfl) (by kernel_rfl) (by kernel_rfl) (by kernel_rfl) (by kernel_rfl) (by kernel_rfl) (by kernel_rfl) (by kernel_rfl) ⟨[(31, .tup []), (0, .c (oC 5000 2 a1.2.2)), (2, cD (dI p2)), (4, cD (.fn 77 [])), (10, cD (dI a1.1)), (11, cD (dI a1.2.1))], [(5000, vL 2 encCount r4)]⟩ (by kernel_rfl) ?_
     obtain ⟨hc5, h⟩ := need_elim h
     refine At.eqS ⟨[(31, .tup []), (0, .c (oC 5000 2 r4)), (2, cD (dI p2)), (4, cD (.fn 77 [])), (10, cD (dI a1.1)), (11, cD (dI a1.2.1))], [(5000, vL 2 encCount r4)]⟩ (by simp only [oC, vL, hc5]) ?_
     refine At.done rfl ?_
     show Tri _ _ _ _
     refine Tri.reg ?_
     refine At.seg 4 [0, 2, 4, 10, 11] [5000] (s' := ⟨[(0, .c (oC 5000 2 r4)), (2, cD (dI p2)), (4, cD (.fn 77 [])), (10, cD (dI (IntKind.i64.wrap (a1.1 - a1.2.1)))), (11, cD (dI a1.2.1))], [(5000, vL 2 encCount r4)]⟩) (c := True ∧ True ∧ True ∧ True ∧ True) (by kernel_rfl) ⟨trivial, trivial, trivial, trivial, trivial⟩ ?_
     refine At.done rfl ?_
     cases h
     exact rfl
    ·refine Tri.seqS ?_
     refine Tri.reg ?_
     refine At.seg 11 [0, 2, 4, 10, 11, 35, 38, 43, 44, 45] [5000] (s' := ⟨[(0, .c (oC 5000 2 a1.2.2)), (2, cD (dI p2)), (4, cD (.fn 77 [])), (10, cD (dI a1.1)), (11, cD (dI a1.2.1)), (35, .c (oC 5000 2 a1.2.2)), (38, cD (dI (IntKind.i64.wrap (p2 - a1.1)))), (43, cD (dI (IntKind.i64.wrap ((IntKind.i64.wrap (p2 + a1.2.1)) - a1.1)))), (44, cD (dI a1.1)), (45, cD (.fn 77 []))], [(5000, vL 2 encCount a1.2.2)]⟩) (c := True ∧ True ∧ True ∧ True ∧ True ∧ True ∧ True ∧ True ∧ True ∧ True ∧ True ∧ True) (by kernel_rfl) ⟨trivial, trivial, trivial, trivial, trivial, trivial, trivial, trivial, trivial, trivial, trivial, trivial⟩ ?_
     obtain ⟨r6, hr6, h⟩ := bind_elim h
     refine At.callL (nf := 0) (caps := []) (xs := [.c (oC 5000 2 a1.2.2), cD (dI (IntKind.i64.wrap (p2 - a1.1))), cD (dI (IntKind.i64.wrap ((IntKind.i64.wrap (p2 + a1.2.1)) - a1.1))), cD (dI a1.1), cD (.fn 77 [])]) [(5000, 5000)] [0, 2, 4, 10, 11] [] (s0 := ⟨[(0, .c (oC 5000 2 a1.2.2)), (2, cD (dI p2)), (4, cD (.fn 77 [])), (10, cD (dI a1.1)), (11, cD (dI a1.2.1))], []⟩) (slices_swapRangeCmpFunc_Count__diff_added_1_w_ok hr6) rfl rfl (by kernel_rfl) rfl (by kernel_rfl) (by kernel_rfl) (.ren rfl rfl (.flat (.refl _) rfl rfl (.flat (.refl _) rfl rfl (.flat (.refl _) rfl rfl (.flat (.refl _) rfl rfl .nil))))) ⟨⟨by kernel_rfl, by kernel_rfl⟩, trivial⟩ (by kernel_rfl) (by kernel_rfl) (by kernel_rfl) (by kernel_rfl) (by kernel_rfl) (by kernel_rfl) (by kernel_rfl) (by kernel_rfl) (by kernel_rfl) ⟨[(46, .tup []), (0, .c (oC 5000 2 a1.2.2)), (2, cD (dI p2)), (4, cD (.fn 77 [])), (10, cD (dI a1.1)), (11, cD (dI a1.2.1))], [(5000, vL 2 encCount r6)]⟩ (by kernel_rfl) ?_
     obtain ⟨hc7, h⟩ := need_elim h
     refine At.eqS ⟨[(46, .tup []), (0, .c (oC 5000 2 r6)), (2, cD (dI p2)), (4, cD (.fn 77 [])), (10, cD (dI a1.1)), (11, cD (dI a1.2.1))], [(5000, vL 2 encCount r6)]⟩ (by simp only [oC, vL, hc7]) ?_
     refine At.done rfl ?_
     show Tri _ _ _ _
     refine Tri.reg ?_
     refine At.seg 4 [0, 2, 4, 10, 11] [5000] (s' := ⟨[(0, .c (oC 5000 2 r6)), (2, cD (dI p2)), (4, cD (.fn 77 [])), (10, cD (dI a1.1)), (11, cD (dI (IntKind.i64.wrap (a1.2.1 - a1.1))))], [(5000, vL 2 encCount r6)]⟩) (c := True ∧ True ∧ True ∧ True ∧ True) (by kernel_rfl) ⟨trivial, trivial, trivial, trivial, trivial⟩ ?_
     refine At.done rfl ?_
     cases h
     exact rfl
   ·refine Tri.keep [0, 2, 4, 10, 11] [5000] (s' := ⟨[(0, .c (oC 5000 2 a1.2.2)), (2, cD (dI p2)), (4, cD (.fn 77 [])), (10, cD (dI a1.1)), (11, cD (dI a1.2.1))], [(5000, vL 2 encCount a1.2.2)]⟩) (by kernel_rfl) ?_
    refine Tri.exit ?_
    cases h
    exact ⟨rfl, rfl⟩
  ·intro a2 h
   show Tri _ _ _ _
   refine Tri.reg ?_
   refine At.seg 7 [50, 53, 54, 55, 56] [5000] (s' := ⟨[(50, .c (oC 5000 2 a2.2.2)), (53, cD (dI (IntKind.i64.wrap (p2 - a2.1)))), (54, cD (dI p2)), (55, cD (dI a2.1)), (56, cD (.fn 77 []))], [(5000, vL 2 encCount a2.2.2)]⟩) (c := True ∧ True ∧ True ∧ True ∧ True ∧ True ∧ True ∧ True) (by kernel_rfl) ⟨trivial, trivial, trivial, trivial, trivial, trivial, trivial, trivial⟩ ?_
   obtain ⟨r3, hr3, h⟩ := bind_elim h
   refine At.callL (nf := 0) (caps := []) (xs := [.c (oC 5000 2 a2.2.2), cD (dI (IntKind.i64.wrap (p2 - a2.1))), cD (dI p2), cD (dI a2.1), cD (.fn 77 [])]) [(5000, 5000)] [] [] (s0 := ⟨[], []⟩) (slices_swapRangeCmpFunc_Count__diff_added_1_w_ok hr3) rfl rfl (by kernel_rfl) rfl (by kernel_rfl) (by kernel_rfl) (.ren rfl rfl (.flat (.refl _) rfl rfl (.flat (.refl _) rfl rfl (.flat (.refl _) rfl rfl (.flat (.refl _) rfl rfl .nil))))) ⟨⟨by kernel_rfl, by kernel_rfl⟩, trivial⟩ (by kernel_rfl) (by kernel_rfl) (by kernel_rfl) (by kernel_rfl) (by kernel_rfl) (by kernel_rfl) (by kernel_rfl) (by kernel_rfl) (by kernel_rfl) ⟨[(57, .tup [])], [(5000, vL 2 encCount r3)]⟩ (by kernel_rfl) ?_
   refine At.keep [] [5000] (s' := ⟨[], [(5000, vL 2 encCount r3)]⟩) (by kernel_rfl) ?_
   refine At.done rfl ?_
   cases h
   refine ⟨_, _, rfl, trivial, rfl, rfl, ?_⟩
   exact SubS.out ⟨⟨rfl, rfl⟩, trivial⟩
  · exact fun x => x.elim
end Go.Av
