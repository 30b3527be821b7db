import Derived.Test.YtoiphmpjiobaiaaM8d
namespace Go.Av
open Go Go.Proofs
set_option linter.unusedVariables false
set_option linter.unusedSimpArgs false

set_option maxRecDepth 100000 in
theorem moment_Front_ok_o {fuel : Nat} {p0 : List Time} {q : List Time} (h : moment_Front fuel p0 = some q) :
    Summ Try.prog 27 [cD (lD 3 encTime p0)] [] (.c (oC 6000 3 q)) [(6000, vL 3 encTime q)] := by
  refine Summ.intro Try.func27 rfl (by kernel_rfl) (by kernel_rfl) [6000] rfl ?_
  rintro ⟨P, w0, G0, V, LL, lk, N, φ0, fx⟩ rfl rfl rfl rfl
  unfold moment_Front at h
  refine Tri.seqS ?_
  refine Tri.reg ?_
  refine At.seg 1 [0] [] (s' := ⟨[(0, cD (lD 3 encTime p0))], []⟩) (c := True ∧ True) (by kernel_rfl) ⟨trivial, trivial⟩ ?_
  refine At.done rfl ?_
  show Tri _ _ _ _
  refine Tri.seqS ?_
  refine Tri.reg ?_
  refine At.seg 1 [6] [] (s' := ⟨[(6, cD (lD 3 encTime p0))], []⟩) (c := True ∧ True) (by kernel_rfl) ⟨trivial, trivial⟩ ?_
  obtain ⟨r1, hr1, h⟩ := bind_elim h
  refine At.callL (nf := 0) (caps := []) (xs := [cD (lD 3 encTime p0)]) [(6000, 30028)] [] [] (s0 := ⟨[], []⟩) (slices_Clonefreshet_api_Time_freshet_api_Time_Time_ok_o hr1) rfl rfl (by kernel_rfl) rfl (by kernel_rfl) (by kernel_rfl) (.flat (.refl _) rfl rfl .nil) trivial (by kernel_rfl) (by kernel_rfl) (by kernel_rfl) (by kernel_rfl) (by kernel_rfl) (by kernel_rfl) (by kernel_rfl) (by kernel_rfl) (by kernel_rfl) ⟨[(7, .c (oC 30028 3 r1))], [(30028, vL 3 encTime r1)]⟩ (by kernel_rfl) ?_
  refine At.seg 1 [0] [30028] (s' := ⟨[(0, .c (oC 30028 3 r1))], [(30028, vL 3 encTime r1)]⟩) (c := True ∧ True) (by kernel_rfl) ⟨trivial, trivial⟩ ?_
  refine At.done rfl ?_
  show Tri _ _ _ _
  refine Tri.seqS ?_
  refine Tri.reg ?_
  refine At.seg 1 [0, 8] [30028] (s' := ⟨[(0, .c (oC 30028 3 r1)), (8, .c (oC 30028 3 r1))], [(30028, vL 3 encTime r1)]⟩) (c := True ∧ True) (by kernel_rfl) ⟨trivial, trivial⟩ ?_
  obtain ⟨r2, hr2, h⟩ := bind_elim h
  refine At.callL (nf := 0) (caps := []) (xs := [.c (oC 30028 3 r1), cD (.fn 20 [])]) [(5000, 30028)] [0] [] (s0 := ⟨[(0, .c (oC 30028 3 r1))], []⟩) (slices_SortFuncfreshet_api_Time_freshet_api_Time_Time__Compare_w_ok hr2) rfl rfl (by kernel_rfl) rfl (by kernel_rfl) (by kernel_rfl) (.ren rfl rfl (.flat (.refl _) rfl rfl .nil)) ⟨⟨by kernel_rfl, by kernel_rfl⟩, trivial⟩ (by kernel_rfl) (by kernel_rfl) (by kernel_rfl) (by kernel_rfl) (by kernel_rfl) (by kernel_rfl) (by kernel_rfl) (by kernel_rfl) (by kernel_rfl) ⟨[(9, .tup []), (0, .c (oC 30028 3 r1))], [(30028, vL 3 encTime r2)]⟩ (by kernel_rfl) ?_
  obtain ⟨hc3, h⟩ := need_elim h
  refine At.eqS ⟨[(9, .tup []), (0, .c (oC 30028 3 r2))], [(30028, vL 3 encTime r2)]⟩ (by simp only [oC, vL, hc3]) ?_
  refine At.done rfl ?_
  show Tri _ _ _ _
  refine Tri.seqS ?_
  refine Tri.reg ?_
  refine At.seg 1 [0, 3] [30028] (s' := ⟨[(0, .c (oC 30028 3 r2)), (3, .c (.zero))], [(30028, vL 3 encTime r2)]⟩) (c := True ∧ True) (by kernel_rfl) ⟨trivial, trivial⟩ ?_
  refine At.done rfl ?_
  show Tri _ _ _ _
  refine Tri.seqS ?_
  refine Tri.seqS ?_
  refine Tri.reg ?_
  refine At.seg 3 [3, 10, 11, 12] [30028] (s' := ⟨[(3, .c (.zero)), (10, .c (oC 30028 3 r2)), (11, cD (i6 (r2.length : Int))), (12, cD (i6 0))], [(30028, vL 3 encTime r2)]⟩) (c := True ∧ True ∧ True ∧ True) (by kernel_rfl) ⟨trivial, trivial, trivial, trivial⟩ ?_
  refine At.done rfl ?_
  show Tri _ _ _ _
  refine Tri.lenOfO (t := 10) rfl rfl (Nat.le_refl _) fun hlena5 => ?_
  refine Tri.newOwn (t := 3) (k := 1003) (es := 3) (fun i => encTime (([] : List Time).getD i default)) rfl rfl rfl ?_
  refine Tri.keep [12, 3, 10, 11] [1003, 30028] (s' := idx 12 0 ⟨[(3, .c (oC 1003 3 ([] : List Time))), (10, .c (oC 30028 3 r2)), (11, cD (i6 (r2.length : Int)))], [(1003, vL 3 encTime ([] : List Time)), (30028, vL 3 encTime r2)]⟩) (by kernel_rfl) ?_
  refine Tri.range (n := r2.length) (st0 := ([] : List Time)) (fun (x : Empty) s => False) (fun (a5 : List Time) => ⟨[(3, .c (oC 1003 3 a5)), (10, .c (oC 30028 3 r2)), (11, cD (i6 (r2.length : Int)))], [(1003, vL 3 encTime a5), (30028, vL 3 encTime r2)]⟩) (fun (a5 : List Time) => ⟨[(3, .c (oC 1003 3 a5)), (10, .c (oC 30028 3 r2)), (11, cD (i6 (r2.length : Int)))], [(1003, vL 3 encTime a5), (30028, vL 3 encTime r2)]⟩) (fun i => decide ((i : Int) < (r2.length : Int))) [13, 12, 3, 10, 11] [1003, 30028] [3, 10, 11] [1003, 30028] [12, 3, 10, 11] [1003, 30028] h hlena5 rfl ?_ ?_ ?_ ?_ ?_ ?_ ?_ ?_
  · exact fun i a => ⟨True ∧ True, by kernel_rfl, ⟨trivial, trivial⟩⟩
  · exact fun i hi => decide_eq_true (by omega)
  · exact decide_eq_false (by omega)
  · exact fun a => by kernel_rfl
  · exact fun i a => ⟨True ∧ True ∧ True, by kernel_rfl, ⟨trivial, trivial, trivial⟩⟩
  ·intro i4 a5 c hii4 h
   refine Tri.seqS ?_
   refine Tri.reg ?_
   obtain ⟨hc7, h⟩ := need_elim h
   refine At.seg 4 [3, 5, 10, 11, 12] [5, 1003, 30028] (s' := ⟨[(3, .c (oC 1003 3 a5)), (5, .c (.ptr 5 0)), (10, .c (oC 30028 3 r2)), (11, cD (i6 (r2.length : Int))), (12, cD (i6 ((i4 : Nat) : Int)))], [(5, .box (cTime (r2.getD (0 + i4) default))), (1003, vL 3 encTime a5), (30028, vL 3 encTime r2)]⟩) (c := ((0 : Int) ≤ ((i4 : Nat) : Int) ∧ ((i4 : Nat) : Int) < (r2.length : Int)) ∧ ((0 + i4) < r2.length) ∧ True ∧ True ∧ True) (by kernel_rfl) ⟨⟨by omega, by omega⟩, hc7, trivial, trivial, trivial⟩ ?_
   refine At.done rfl ?_
   show Tri _ _ _ _
   refine Tri.seqS ?_
   refine Tri.reg ?_
   refine At.seg 2 [3, 5, 10, 11, 12, 16, 17] [5, 1003, 30028] (s' := ⟨[(3, .c (oC 1003 3 a5)), (5, .c (.ptr 5 0)), (10, .c (oC 30028 3 r2)), (11, cD (i6 (r2.length : Int))), (12, cD (i6 ((i4 : Nat) : Int))), (16, .c (oC 1003 3 a5)), (17, .agg (cTime (r2.getD (0 + i4) default)))], [(5, .box (cTime (r2.getD (0 + i4) default))), (1003, vL 3 encTime a5), (30028, vL 3 encTime r2)]⟩) (c := True ∧ True ∧ True) (by kernel_rfl) ⟨trivial, trivial, trivial⟩ ?_
   obtain ⟨r8, hr8, h⟩ := bind_elim h
   refine At.callA (caps := []) (xs := [.c (oC 1003 3 a5), .agg (cTime (r2.getD (0 + i4) default))]) (moment_Beyond_ok_v0 hr8) rfl rfl rfl rfl rfl rfl (.cons (AVArg.view (encTime) a5 rfl) (.cons (.refl _) .nil)) rfl rfl ?_
   refine At.seg 1 [3, 5, 10, 11, 12, 19] [5, 1003, 30028] (s' := ⟨[(3, .c (oC 1003 3 a5)), (5, .c (.ptr 5 0)), (10, .c (oC 30028 3 r2)), (11, cD (i6 (r2.length : Int))), (12, cD (i6 ((i4 : Nat) : Int))), (19, cD (.bool (!r8)))], [(5, .box (cTime (r2.getD (0 + i4) default))), (1003, vL 3 encTime a5), (30028, vL 3 encTime r2)]⟩) (c := True ∧ True) (by kernel_rfl) ⟨trivial, trivial⟩ ?_
   refine At.done rfl ?_
   show Tri _ _ _ _
   refine Tri.condP (b := (!r8)) rfl h (fun h => ?_) (fun h => ?_)
   ·refine Tri.reg ?_
    refine At.seg 2 [10, 11, 12, 20, 21] [1003, 30028] (s' := ⟨[(10, .c (oC 30028 3 r2)), (11, cD (i6 (r2.length : Int))), (12, cD (i6 ((i4 : Nat) : Int))), (20, .c (oC 1003 3 a5)), (21, .agg (cTime (r2.getD (0 + i4) default)))], [(1003, vL 3 encTime a5), (30028, vL 3 encTime r2)]⟩) (c := True ∧ True ∧ True) (by kernel_rfl) ⟨trivial, trivial, trivial⟩ ?_
    refine At.one rfl (One.buildSlice (z := [.d (u6 0), .d (u6 0), .d (u6 0)]) (cells := [.d (u6 ((r2.getD (0 + i4) default).epoch)), .d (u6 ((r2.getD (0 + i4) default).loop.1)), .d (u6 ((r2.getD (0 + i4) default).loop.2))]) (xs := List.map (encTime) ([(r2.getD (0 + i4) default)] : List Time)) rfl rfl rfl rfl (by kernel_rfl) rfl rfl (by kernel_rfl) rfl rfl rfl (by kernel_rfl) rfl ⟨⟨rfl, .refl _⟩, trivial⟩) ?_
    refine At.le [22] (fun k hk h => by first | (cases h; done) | (simp at hk h; omega)) ⟨[(22, cD (lD 3 encTime ([(r2.getD (0 + i4) default)] : List Time))), (10, .c (oC 30028 3 r2)), (11, cD (i6 (r2.length : Int))), (12, cD (i6 ((i4 : Nat) : Int))), (20, .c (oC 1003 3 a5)), (21, .agg (cTime (r2.getD (0 + i4) default)))], [(1003, vL 3 encTime a5), (30028, vL 3 encTime r2)]⟩ ⟨⟨_, rfl, .c (.own rfl (List.mem_singleton.2 rfl) (Nat.le_of_ble_eq_true rfl) rfl (encs_getD (encTime) ([(r2.getD (0 + i4) default)] : List Time)))⟩, ⟨_, rfl, .refl _⟩, ⟨_, rfl, .refl _⟩, ⟨_, rfl, .refl _⟩, ⟨_, rfl, .refl _⟩, ⟨_, rfl, .refl _⟩, trivial⟩ ⟨⟨_, rfl, .refl _, (by simp)⟩, ⟨_, rfl, .refl _, (by simp)⟩, trivial⟩ ?_
    obtain ⟨hc9, h⟩ := need_elim h
    refine At.one rfl (One.appendT (e := 27) (es := 3) (encTime) a5 ([(r2.getD (0 + i4) default)] : List Time) rfl rfl rfl rfl rfl (.of 27 24 [.d (u6 0), .d (u6 0), .d (u6 0)] (by kernel_rfl) (by kernel_rfl) (by kernel_rfl) (by kernel_rfl) rfl (by kernel_rfl) rfl) rfl rfl rfl (.list rfl (fun _ _ => rfl)) hc9) ?_
    refine At.seg 1 [12, 3, 10, 11] [1003, 30028] (s' := ⟨[(12, cD (i6 ((i4 : Nat) : Int))), (3, .c (oC 1003 3 (a5 ++ ([(r2.getD (0 + i4) default)] : List Time)))), (10, .c (oC 30028 3 r2)), (11, cD (i6 (r2.length : Int)))], [(1003, vL 3 encTime (a5 ++ ([(r2.getD (0 + i4) default)] : List Time))), (30028, vL 3 encTime r2)]⟩) (c := True ∧ True) (by kernel_rfl) ⟨trivial, trivial⟩ ?_
    refine At.done rfl ?_
    cases h
    exact rfl
   ·refine Tri.keep [12, 3, 10, 11] [1003, 30028] (s' := ⟨[(12, cD (i6 ((i4 : Nat) : Int))), (3, .c (oC 1003 3 a5)), (10, .c (oC 30028 3 r2)), (11, cD (i6 (r2.length : Int)))], [(1003, vL 3 encTime a5), (30028, vL 3 encTime r2)]⟩) (by kernel_rfl) ?_
    refine Tri.skip ?_
    cases h
    exact rfl
  ·intro a6 h
   show Tri _ _ _ _
   refine Tri.seqS ?_
   refine Tri.reg ?_
   refine At.seg 2 [2] [1003] (s' := ⟨[(2, .c (oC 1003 3 a6))], [(1003, vL 3 encTime a6)]⟩) (c := True ∧ True ∧ True) (by kernel_rfl) ⟨trivial, trivial, trivial⟩ ?_
   refine At.done rfl ?_
   show Tri _ _ _ _
   refine Tri.keep [2] [1003] (s' := ⟨[(2, .c (oC 1003 3 a6))], [(1003, vL 3 encTime a6)]⟩) (by kernel_rfl) ?_
   refine Tri.rename 1003 6000 ⟨[(2, .c (oC 6000 3 a6))], [(6000, vL 3 encTime a6)]⟩ (by kernel_rfl) rfl rfl rfl ?_
   refine Tri.keep [2] [6000] (s' := ⟨[(2, .c (oC 6000 3 a6))], [(6000, vL 3 encTime a6)]⟩) (by kernel_rfl) ?_
   refine Tri.ret ?_
   cases h
   refine ⟨_, _, rfl, ⟨trivial, trivial⟩, rfl, rfl, ?_⟩
   exact SubS.out ⟨⟨rfl, rfl⟩, trivial⟩
  · exact fun x => x.elim

set_option maxRecDepth 100000 in
theorem freshetlaw04_MomentLeft_ok {fuel : Nat} {p0 : List Time} {p1 : List Time} {p2 : Time} {q : Bool} (h : freshetlaw04_MomentLeft fuel p0 p1 p2 = some q) :
    Summ Try.prog 12 [cD (lD 3 encTime p0), cD (lD 3 encTime p1), .agg (cTime p2)] [] (cD (.bool q)) [] := by
  refine Summ.intro Try.func12 rfl (by kernel_rfl) (by kernel_rfl) [] rfl ?_
  rintro ⟨P, w0, G0, V, LL, lk, N, φ0, fx⟩ rfl rfl rfl rfl
  unfold freshetlaw04_MomentLeft at h
  refine Tri.seqS ?_
  refine Tri.reg ?_
  refine At.seg 2 [0, 1, 5] [5] (s' := ⟨[(0, cD (lD 3 encTime p0)), (1, cD (lD 3 encTime p1)), (5, .c (.ptr 5 0))], [(5, .box (cTime p2))]⟩) (c := True ∧ True ∧ True) (by kernel_rfl) ⟨trivial, trivial, trivial⟩ ?_
  refine At.done rfl ?_
  show Tri _ _ _ _
  refine Tri.seqS ?_
  refine Tri.seqS ?_
  refine Tri.reg ?_
  obtain ⟨r1, hr1, h⟩ := bind_elim h
  refine At.callA (caps := []) (xs := []) (freshetlaw04_fronts_ok hr1) rfl rfl rfl rfl rfl rfl .nil rfl rfl ?_
  refine At.seg 1 [0, 1, 5, 10] [5] (s' := ⟨[(0, cD (lD 3 encTime p0)), (1, cD (lD 3 encTime p1)), (5, .c (.ptr 5 0)), (10, cD (.bool (!r1)))], [(5, .box (cTime p2))]⟩) (c := True ∧ True) (by kernel_rfl) ⟨trivial, trivial⟩ ?_
  refine At.done rfl ?_
  show Tri _ _ _ _
  refine Tri.condP (b := (!r1)) rfl h (fun h => ?_) (fun h => ?_)
  ·refine Tri.seqS ?_
   refine Tri.reg ?_
   refine At.seg 1 [6] [] (s' := ⟨[(6, cD (.bool false))], []⟩) (c := True ∧ True) (by kernel_rfl) ⟨trivial, trivial⟩ ?_
   refine At.done rfl ?_
   show Tri _ _ _ _
   refine Tri.keep [6] [] (s' := ⟨[(6, cD (.bool false))], []⟩) (by kernel_rfl) ?_
   refine Tri.ret ?_
   cases h
   refine ⟨_, _, rfl, ⟨trivial, trivial⟩, rfl, rfl, ?_⟩
   intro k c h
   cases h
  ·refine Tri.skip ?_
   show Tri _ _ _ _
   refine Tri.seqS ?_
   refine Tri.reg ?_
   refine At.seg 1 [0, 1, 5, 11] [5] (s' := ⟨[(0, cD (lD 3 encTime p0)), (1, cD (lD 3 encTime p1)), (5, .c (.ptr 5 0)), (11, cD (lD 3 encTime p0))], [(5, .box (cTime p2))]⟩) (c := True ∧ True) (by kernel_rfl) ⟨trivial, trivial⟩ ?_
   obtain ⟨r2, hr2, h⟩ := bind_elim h
   refine At.callL (nf := 0) (caps := []) (xs := [cD (lD 3 encTime p0)]) [(6000, 30048)] [0, 1, 5] [5] (s0 := ⟨[(0, cD (lD 3 encTime p0)), (1, cD (lD 3 encTime p1)), (5, .c (.ptr 5 0))], [(5, .box (cTime p2))]⟩) (moment_Front_ok_o hr2) rfl rfl (by kernel_rfl) rfl (by kernel_rfl) (by kernel_rfl) (.flat (.refl _) rfl rfl .nil) trivial (by kernel_rfl) (by kernel_rfl) (by kernel_rfl) (by kernel_rfl) (by kernel_rfl) (by kernel_rfl) (by kernel_rfl) (by kernel_rfl) (by kernel_rfl) ⟨[(12, .c (oC 30048 3 r2)), (0, cD (lD 3 encTime p0)), (1, cD (lD 3 encTime p1)), (5, .c (.ptr 5 0))], [(30048, vL 3 encTime r2), (5, .box (cTime p2))]⟩ (by kernel_rfl) ?_
   refine At.seg 1 [0, 1, 5, 12, 13] [5, 30048] (s' := ⟨[(0, cD (lD 3 encTime p0)), (1, cD (lD 3 encTime p1)), (5, .c (.ptr 5 0)), (12, .c (oC 30048 3 r2)), (13, cD (lD 3 encTime p1))], [(5, .box (cTime p2)), (30048, vL 3 encTime r2)]⟩) (c := True ∧ True) (by kernel_rfl) ⟨trivial, trivial⟩ ?_
   obtain ⟨r3, hr3, h⟩ := bind_elim h
   refine At.callA (caps := []) (xs := [cD (lD 3 encTime p1)]) (moment_Front_ok hr3) rfl rfl rfl rfl rfl rfl (.cons (.refl _) .nil) rfl rfl ?_
   obtain ⟨hc4, h⟩ := need_elim h
   refine At.one rfl (One.appendT (e := 27) (es := 3) (encTime) r2 r3 rfl rfl rfl rfl rfl (.of 27 24 [.d (u6 0), .d (u6 0), .d (u6 0)] (by kernel_rfl) (by kernel_rfl) (by kernel_rfl) (by kernel_rfl) rfl (by kernel_rfl) rfl) rfl rfl rfl (.list rfl (fun _ _ => rfl)) hc4) ?_
   obtain ⟨r5, hr5, h⟩ := bind_elim h
   refine At.le [30048] (fun k hk h => by first | (cases h; done) | (simp at hk h; omega)) ⟨[(0, cD (lD 3 encTime p0)), (1, cD (lD 3 encTime p1)), (5, .c (.ptr 5 0)), (15, cD (lD 3 encTime (r2 ++ r3)))], [(5, .box (cTime p2))]⟩ ⟨⟨_, rfl, .refl _⟩, ⟨_, rfl, .refl _⟩, ⟨_, rfl, .refl _⟩, ⟨_, rfl, .c (CLe.frozen (encTime) (r2 ++ r3) rfl (by simp))⟩, trivial⟩ ⟨⟨_, rfl, .refl _, (by simp)⟩, trivial⟩ ?_
   refine At.callA (caps := []) (xs := [cD (lD 3 encTime (r2 ++ r3))]) (moment_Front_ok hr5) rfl rfl rfl rfl rfl rfl (.cons (.refl _) .nil) rfl rfl ?_
   refine At.seg 1 [0, 1, 5, 7] [5] (s' := ⟨[(0, cD (lD 3 encTime p0)), (1, cD (lD 3 encTime p1)), (5, .c (.ptr 5 0)), (7, cD (lD 3 encTime r5))], [(5, .box (cTime p2))]⟩) (c := True ∧ True) (by kernel_rfl) ⟨trivial, trivial⟩ ?_
   refine At.done rfl ?_
   show Tri _ _ _ _
   refine Tri.seqS ?_
   refine Tri.reg ?_
   refine At.one rfl (One.build0 (e := 27) (es := 3) rfl rfl rfl rfl (by kernel_rfl) rfl) ?_
   refine At.seg 1 [0, 1, 5, 7, 17, 18] [5] (s' := ⟨[(0, cD (lD 3 encTime p0)), (1, cD (lD 3 encTime p1)), (5, .c (.ptr 5 0)), (7, cD (lD 3 encTime r5)), (17, .c (.zero)), (18, cD (lD 3 encTime p0))], [(5, .box (cTime p2))]⟩) (c := True ∧ True) (by kernel_rfl) ⟨trivial, trivial⟩ ?_
   obtain ⟨hc6, h⟩ := need_elim h
   refine At.one rfl (One.append0 (e := 27) (es := 3) (m := p0.length) (get := fun i => encTime (p0.getD i default)) rfl rfl rfl rfl (by kernel_rfl) (.of 27 24 [.d (u6 0), .d (u6 0), .d (u6 0)] (by kernel_rfl) (by kernel_rfl) (by kernel_rfl) (by kernel_rfl) rfl (by kernel_rfl) rfl) rfl rfl (.list rfl (fun _ _ => rfl)) hc6) ?_
   refine At.seg 1 [0, 1, 5, 7, 19, 20] [5, 19] (s' := ⟨[(0, cD (lD 3 encTime p0)), (1, cD (lD 3 encTime p1)), (5, .c (.ptr 5 0)), (7, cD (lD 3 encTime r5)), (19, .c (oC 19 3 p0)), (20, cD (lD 3 encTime p1))], [(5, .box (cTime p2)), (19, vL 3 encTime p0)]⟩) (c := True ∧ True) (by kernel_rfl) ⟨trivial, trivial⟩ ?_
   obtain ⟨hc7, h⟩ := need_elim h
   refine At.one rfl (One.appendT (e := 27) (es := 3) (encTime) p0 p1 rfl rfl rfl rfl rfl (.of 27 24 [.d (u6 0), .d (u6 0), .d (u6 0)] (by kernel_rfl) (by kernel_rfl) (by kernel_rfl) (by kernel_rfl) rfl (by kernel_rfl) rfl) rfl rfl rfl (.list rfl (fun _ _ => rfl)) hc7) ?_
   obtain ⟨r8, hr8, h⟩ := bind_elim h
   refine At.le [19] (fun k hk h => by first | (cases h; done) | (simp at hk h; omega)) ⟨[(0, cD (lD 3 encTime p0)), (1, cD (lD 3 encTime p1)), (5, .c (.ptr 5 0)), (7, cD (lD 3 encTime r5)), (21, cD (lD 3 encTime (p0 ++ p1)))], [(5, .box (cTime p2))]⟩ ⟨⟨_, rfl, .refl _⟩, ⟨_, rfl, .refl _⟩, ⟨_, rfl, .refl _⟩, ⟨_, rfl, .refl _⟩, ⟨_, rfl, .c (CLe.frozen (encTime) (p0 ++ p1) rfl (by simp))⟩, trivial⟩ ⟨⟨_, rfl, .refl _, (by simp)⟩, trivial⟩ ?_
   refine At.callA (caps := []) (xs := [cD (lD 3 encTime (p0 ++ p1))]) (moment_Front_ok hr8) rfl rfl rfl rfl rfl rfl (.cons (.refl _) .nil) rfl rfl ?_
   refine At.seg 1 [0, 1, 5, 7, 8] [5] (s' := ⟨[(0, cD (lD 3 encTime p0)), (1, cD (lD 3 encTime p1)), (5, .c (.ptr 5 0)), (7, cD (lD 3 encTime r5)), (8, cD (lD 3 encTime r8))], [(5, .box (cTime p2))]⟩) (c := True ∧ True) (by kernel_rfl) ⟨trivial, trivial⟩ ?_
   refine At.done rfl ?_
   show Tri _ _ _ _
   refine Tri.seqJ (fun (a9 : Bool) => ⟨[(6, cD (.bool a9))], []⟩) h (fun a9 h => ?_) (fun j10 h => ?_)
   ·show Tri _ _ ⟨[(6, cD (.bool a9))], []⟩ _
    refine Tri.keep [6] [] (s' := ⟨[(6, cD (.bool a9))], []⟩) (by kernel_rfl) ?_
    refine Tri.ret ?_
    cases h
    refine ⟨_, _, rfl, ⟨trivial, trivial⟩, rfl, rfl, ?_⟩
    intro k c h
    cases h
   ·obtain ⟨r11, hr11, h⟩ := bind_elim h
    rcases bf_cases h with ⟨hp12, h⟩ | ⟨hp12, h⟩
    ·obtain ⟨r13, hr13, h⟩ := bind_elim h
     obtain ⟨r14, hr14, h⟩ := bind_elim h
     rcases bf_cases h with ⟨hp15, h⟩ | ⟨hp15, h⟩
     ·refine Tri.drawn (specs := [⟨⟨[(7, cD (lD 3 encTime r5))], []⟩, ⟨[(23, cD (lD 3 encTime r5))], []⟩, [], [], []⟩, ⟨⟨[(8, cD (lD 3 encTime r8))], []⟩, ⟨[(24, cD (lD 3 encTime r8))], []⟩, [], [], []⟩, ⟨⟨[(23, cD (lD 3 encTime r5)), (24, cD (lD 3 encTime r8))], []⟩, ⟨[(25, cD (.bool r11))], []⟩, [], [], []⟩, ⟨⟨[(25, cD (.bool r11))], []⟩, ⟨[(26, .c (.d (.bool true)))], []⟩, [], [], []⟩, ⟨⟨[(8, cD (lD 3 encTime r8)), (26, cD (.bool true))], []⟩, ⟨[(27, cD (lD 3 encTime r8))], []⟩, [], [], []⟩, ⟨⟨[(5, .c (.ptr 5 0)), (26, cD (.bool true))], [(5, .box (cTime p2))]⟩, ⟨[(28, .agg (cTime p2))], []⟩, [], [], []⟩, ⟨⟨[(26, cD (.bool true)), (27, cD (lD 3 encTime r8)), (28, .agg (cTime p2))], []⟩, ⟨[(29, cD (.bool r13))], []⟩, [], [], []⟩, ⟨⟨[(0, cD (lD 3 encTime p0)), (26, cD (.bool true))], []⟩, ⟨[(30, cD (lD 3 encTime p0))], []⟩, [], [], []⟩, ⟨⟨[(5, .c (.ptr 5 0)), (26, cD (.bool true))], [(5, .box (cTime p2))]⟩, ⟨[(31, .agg (cTime p2))], []⟩, [], [], []⟩, ⟨⟨[(26, cD (.bool true)), (30, cD (lD 3 encTime p0)), (31, .agg (cTime p2))], []⟩, ⟨[(32, cD (.bool r14))], []⟩, [], [], []⟩, ⟨⟨[(26, cD (.bool true)), (32, cD (.bool r14))], []⟩, ⟨[(33, .c (.d (.bool true)))], []⟩, [], [], []⟩, ⟨⟨[(1, cD (lD 3 encTime p1)), (33, cD (.bool true))], []⟩, ⟨[(34, .tup [])], []⟩, [], [], []⟩, ⟨⟨[(5, .c (.ptr 5 0)), (33, cD (.bool true))], [(5, .box (cTime p2))]⟩, ⟨[(35, .tup [])], []⟩, [], [], []⟩, ⟨⟨[(33, cD (.bool true)), (34, .tup []), (35, .tup [])], []⟩, ⟨[(36, .tup [])], []⟩, [], [], []⟩, ⟨⟨[(26, cD (.bool true)), (33, cD (.bool true)), (36, .tup [])], []⟩, ⟨[(37, cD (.bool true))], []⟩, [], [], []⟩, ⟨⟨[(26, cD (.bool true)), (29, cD (.bool r13)), (37, cD (.bool true))], []⟩, ⟨[(38, cD (.bool (r13 == true)))], []⟩, [], [], []⟩, ⟨⟨[(26, cD (.bool true)), (38, cD (.bool (r13 == true)))], []⟩, ⟨[(39, cD (.bool (r13 == true)))], []⟩, [], [], []⟩, ⟨⟨[(39, cD (.bool (r13 == true)))], []⟩, ⟨[(6, cD (.bool (r13 == true)))], []⟩, [], [], []⟩]) (bef := [[], [], [0, 1], [0, 1, 2], [0, 1, 2, 3], [0, 1, 2, 3], [0, 1, 2, 3, 4, 5], [0, 1, 2, 3], [0, 1, 2, 3], [0, 1, 2, 3, 4, 5, 6, 7, 8], [0, 1, 2, 3, 4, 5, 6, 7, 8, 9], [0, 1, 2, 3, 4, 5, 6, 7, 8, 9, 10], [0, 1, 2, 3, 4, 5, 6, 7, 8, 9, 10], [0, 1, 2, 3, 4, 5, 6, 7, 8, 9, 10, 11, 12], [0, 1, 2, 3, 4, 5, 6, 7, 8, 9, 10, 11, 12, 13], [0, 1, 2, 3, 4, 5, 6, 7, 8, 9, 10, 11, 12, 13, 14], [0, 1, 2, 3, 4, 5, 6, 7, 8, 9, 10, 11, 12, 13, 14, 15], [0, 1, 2, 3, 4, 5, 6, 7, 8, 9, 10, 11, 12, 13, 14, 15, 16]]) (tk := [6]) (sk := []) (s' := ⟨[(6, cD (.bool (r13 == true)))], []⟩) (by kernel_rfl) (by kernel_rfl) (by kernel_rfl) ⟨?_, ?_, ?_, ?_, ?_, ?_, ?_, ?_, ?_, ?_, ?_, ?_, ?_, ?_, ?_, ?_, ?_, ?_, trivial⟩ (by kernel_rfl) ?_
      · exact DOk.t rfl rfl (by kernel_rfl) (by kernel_rfl)
      · exact DOk.t rfl rfl (by kernel_rfl) (by kernel_rfl)
      · exact DOk.callA (caps := []) (xs := [cD (lD 3 encTime r5), cD (lD 3 encTime r8)]) (freshetref04_Same_ok hr11) rfl (fun r => by kernel_rfl) rfl (fun r => by kernel_rfl) (fun r => by kernel_rfl) (fun r => (.cons (.refl _) (.cons (.refl _) .nil))) rfl rfl (fun r => rfl)
      · exact DOk.stepP (fun b => .val (.c (.d (.bool b))) (True)) (p := r11) hp12 (fun r => by kernel_rfl) (fun r => by kernel_rfl) trivial (by kernel_rfl) (by kernel_rfl) (fun r => rfl)
      · exact DOk.t rfl rfl (by kernel_rfl) (by kernel_rfl)
      · exact DOk.t rfl rfl (by kernel_rfl) (by kernel_rfl)
      · exact DOk.callA (caps := []) (xs := [cD (lD 3 encTime r8), .agg (cTime p2)]) (moment_Beyond_ok hr13) rfl (fun r => by kernel_rfl) rfl (fun r => by kernel_rfl) (fun r => by kernel_rfl) (fun r => (.cons (.refl _) (.cons (.refl _) .nil))) rfl rfl (fun r => rfl)
      · exact DOk.t rfl rfl (by kernel_rfl) (by kernel_rfl)
      · exact DOk.t rfl rfl (by kernel_rfl) (by kernel_rfl)
      · exact DOk.callA (caps := []) (xs := [cD (lD 3 encTime p0), .agg (cTime p2)]) (moment_Beyond_ok hr14) rfl (fun r => by kernel_rfl) rfl (fun r => by kernel_rfl) (fun r => by kernel_rfl) (fun r => (.cons (.refl _) (.cons (.refl _) .nil))) rfl rfl (fun r => rfl)
      · exact DOk.stepP (fun b => .val (.c (.d (.bool b))) (True)) (p := r14) hp15 (fun r => by kernel_rfl) (fun r => by kernel_rfl) trivial (by kernel_rfl) (by kernel_rfl) (fun r => rfl)
      · exact DOk.skip (fun r => by kernel_rfl) rfl rfl (fun r => rfl)
      · exact DOk.skip (fun r => by kernel_rfl) rfl rfl (fun r => rfl)
      · exact DOk.skip (fun r => by kernel_rfl) rfl rfl (fun r => rfl)
      · exact DOk.t rfl rfl (by kernel_rfl) (by kernel_rfl)
      · exact DOk.t rfl rfl (by kernel_rfl) (by kernel_rfl)
      · exact DOk.t rfl rfl (by kernel_rfl) (by kernel_rfl)
      · exact DOk.t rfl rfl (by kernel_rfl) (by kernel_rfl)
      exact ⟨_, h, rfl⟩
     ·obtain ⟨r16, hr16, h⟩ := bind_elim h
      refine Tri.drawn (specs := [⟨⟨[(7, cD (lD 3 encTime r5))], []⟩, ⟨[(23, cD (lD 3 encTime r5))], []⟩, [], [], []⟩, ⟨⟨[(8, cD (lD 3 encTime r8))], []⟩, ⟨[(24, cD (lD 3 encTime r8))], []⟩, [], [], []⟩, ⟨⟨[(23, cD (lD 3 encTime r5)), (24, cD (lD 3 encTime r8))], []⟩, ⟨[(25, cD (.bool r11))], []⟩, [], [], []⟩, ⟨⟨[(25, cD (.bool r11))], []⟩, ⟨[(26, .c (.d (.bool true)))], []⟩, [], [], []⟩, ⟨⟨[(8, cD (lD 3 encTime r8)), (26, cD (.bool true))], []⟩, ⟨[(27, cD (lD 3 encTime r8))], []⟩, [], [], []⟩, ⟨⟨[(5, .c (.ptr 5 0)), (26, cD (.bool true))], [(5, .box (cTime p2))]⟩, ⟨[(28, .agg (cTime p2))], []⟩, [], [], []⟩, ⟨⟨[(26, cD (.bool true)), (27, cD (lD 3 encTime r8)), (28, .agg (cTime p2))], []⟩, ⟨[(29, cD (.bool r13))], []⟩, [], [], []⟩, ⟨⟨[(0, cD (lD 3 encTime p0)), (26, cD (.bool true))], []⟩, ⟨[(30, cD (lD 3 encTime p0))], []⟩, [], [], []⟩, ⟨⟨[(5, .c (.ptr 5 0)), (26, cD (.bool true))], [(5, .box (cTime p2))]⟩, ⟨[(31, .agg (cTime p2))], []⟩, [], [], []⟩, ⟨⟨[(26, cD (.bool true)), (30, cD (lD 3 encTime p0)), (31, .agg (cTime p2))], []⟩, ⟨[(32, cD (.bool r14))], []⟩, [], [], []⟩, ⟨⟨[(26, cD (.bool true)), (32, cD (.bool r14))], []⟩, ⟨[(33, .c (.d (.bool false)))], []⟩, [], [], []⟩, ⟨⟨[(1, cD (lD 3 encTime p1)), (33, cD (.bool false))], []⟩, ⟨[(34, cD (lD 3 encTime p1))], []⟩, [], [], []⟩, ⟨⟨[(5, .c (.ptr 5 0)), (33, cD (.bool false))], [(5, .box (cTime p2))]⟩, ⟨[(35, .agg (cTime p2))], []⟩, [], [], []⟩, ⟨⟨[(33, cD (.bool false)), (34, cD (lD 3 encTime p1)), (35, .agg (cTime p2))], []⟩, ⟨[(36, cD (.bool r16))], []⟩, [], [], []⟩, ⟨⟨[(26, cD (.bool true)), (33, cD (.bool false)), (36, cD (.bool r16))], []⟩, ⟨[(37, cD (.bool r16))], []⟩, [], [], []⟩, ⟨⟨[(26, cD (.bool true)), (29, cD (.bool r13)), (37, cD (.bool r16))], []⟩, ⟨[(38, cD (.bool (r13 == r16)))], []⟩, [], [], []⟩, ⟨⟨[(26, cD (.bool true)), (38, cD (.bool (r13 == r16)))], []⟩, ⟨[(39, cD (.bool (r13 == r16)))], []⟩, [], [], []⟩, ⟨⟨[(39, cD (.bool (r13 == r16)))], []⟩, ⟨[(6, cD (.bool (r13 == r16)))], []⟩, [], [], []⟩]) (bef := [[], [], [0, 1], [0, 1, 2], [0, 1, 2, 3], [0, 1, 2, 3], [0, 1, 2, 3, 4, 5], [0, 1, 2, 3], [0, 1, 2, 3], [0, 1, 2, 3, 4, 5, 6, 7, 8], [0, 1, 2, 3, 4, 5, 6, 7, 8, 9], [0, 1, 2, 3, 4, 5, 6, 7, 8, 9, 10], [0, 1, 2, 3, 4, 5, 6, 7, 8, 9, 10], [0, 1, 2, 3, 4, 5, 6, 7, 8, 9, 10, 11, 12], [0, 1, 2, 3, 4, 5, 6, 7, 8, 9, 10, 11, 12, 13], [0, 1, 2, 3, 4, 5, 6, 7, 8, 9, 10, 11, 12, 13, 14], [0, 1, 2, 3, 4, 5, 6, 7, 8, 9, 10, 11, 12, 13, 14, 15], [0, 1, 2, 3, 4, 5, 6, 7, 8, 9, 10, 11, 12, 13, 14, 15, 16]]) (tk := [6]) (sk := []) (s' := ⟨[(6, cD (.bool (r13 == r16)))], []⟩) (by kernel_rfl) (by kernel_rfl) (by kernel_rfl) ⟨?_, ?_, ?_, ?_, ?_, ?_, ?_, ?_, ?_, ?_, ?_, ?_, ?_, ?_, ?_, ?_, ?_, ?_, trivial⟩ (by kernel_rfl) ?_
      · exact DOk.t rfl rfl (by kernel_rfl) (by kernel_rfl)
      · exact DOk.t rfl rfl (by kernel_rfl) (by kernel_rfl)
      · exact DOk.callA (caps := []) (xs := [cD (lD 3 encTime r5), cD (lD 3 encTime r8)]) (freshetref04_Same_ok hr11) rfl (fun r => by kernel_rfl) rfl (fun r => by kernel_rfl) (fun r => by kernel_rfl) (fun r => (.cons (.refl _) (.cons (.refl _) .nil))) rfl rfl (fun r => rfl)
      · exact DOk.stepP (fun b => .val (.c (.d (.bool b))) (True)) (p := r11) hp12 (fun r => by kernel_rfl) (fun r => by kernel_rfl) trivial (by kernel_rfl) (by kernel_rfl) (fun r => rfl)
      · exact DOk.t rfl rfl (by kernel_rfl) (by kernel_rfl)
      · exact DOk.t rfl rfl (by kernel_rfl) (by kernel_rfl)
      · exact DOk.callA (caps := []) (xs := [cD (lD 3 encTime r8), .agg (cTime p2)]) (moment_Beyond_ok hr13) rfl (fun r => by kernel_rfl) rfl (fun r => by kernel_rfl) (fun r => by kernel_rfl) (fun r => (.cons (.refl _) (.cons (.refl _) .nil))) rfl rfl (fun r => rfl)
      · exact DOk.t rfl rfl (by kernel_rfl) (by kernel_rfl)
      · exact DOk.t rfl rfl (by kernel_rfl) (by kernel_rfl)
      · exact DOk.callA (caps := []) (xs := [cD (lD 3 encTime p0), .agg (cTime p2)]) (moment_Beyond_ok hr14) rfl (fun r => by kernel_rfl) rfl (fun r => by kernel_rfl) (fun r => by kernel_rfl) (fun r => (.cons (.refl _) (.cons (.refl _) .nil))) rfl rfl (fun r => rfl)
      · exact DOk.stepP (fun b => .val (.c (.d (.bool b))) (True)) (p := r14) hp15 (fun r => by kernel_rfl) (fun r => by kernel_rfl) trivial (by kernel_rfl) (by kernel_rfl) (fun r => rfl)
      · exact DOk.t rfl rfl (by kernel_rfl) (by kernel_rfl)
      · exact DOk.t rfl rfl (by kernel_rfl) (by kernel_rfl)
      · exact DOk.callA (caps := []) (xs := [cD (lD 3 encTime p1), .agg (cTime p2)]) (moment_Beyond_ok hr16) rfl (fun r => by kernel_rfl) rfl (fun r => by kernel_rfl) (fun r => by kernel_rfl) (fun r => (.cons (.refl _) (.cons (.refl _) .nil))) rfl rfl (fun r => rfl)
      · exact DOk.t rfl rfl (by kernel_rfl) (by kernel_rfl)
      · exact DOk.t rfl rfl (by kernel_rfl) (by kernel_rfl)
      · exact DOk.t rfl rfl (by kernel_rfl) (by kernel_rfl)
      · exact DOk.t rfl rfl (by kernel_rfl) (by kernel_rfl)
      exact ⟨_, h, rfl⟩
    ·refine Tri.drawn (specs := [⟨⟨[(7, cD (lD 3 encTime r5))], []⟩, ⟨[(23, cD (lD 3 encTime r5))], []⟩, [], [], []⟩, ⟨⟨[(8, cD (lD 3 encTime r8))], []⟩, ⟨[(24, cD (lD 3 encTime r8))], []⟩, [], [], []⟩, ⟨⟨[(23, cD (lD 3 encTime r5)), (24, cD (lD 3 encTime r8))], []⟩, ⟨[(25, cD (.bool r11))], []⟩, [], [], []⟩, ⟨⟨[(25, cD (.bool r11))], []⟩, ⟨[(26, .c (.d (.bool false)))], []⟩, [], [], []⟩, ⟨⟨[(8, cD (lD 3 encTime r8)), (26, cD (.bool false))], []⟩, ⟨[(27, .tup [])], []⟩, [], [], []⟩, ⟨⟨[(5, .c (.ptr 5 0)), (26, cD (.bool false))], [(5, .box (cTime p2))]⟩, ⟨[(28, .tup [])], []⟩, [], [], []⟩, ⟨⟨[(26, cD (.bool false)), (27, .tup []), (28, .tup [])], []⟩, ⟨[(29, .tup [])], []⟩, [], [], []⟩, ⟨⟨[(0, cD (lD 3 encTime p0)), (26, cD (.bool false))], []⟩, ⟨[(30, .tup [])], []⟩, [], [], []⟩, ⟨⟨[(5, .c (.ptr 5 0)), (26, cD (.bool false))], [(5, .box (cTime p2))]⟩, ⟨[(31, .tup [])], []⟩, [], [], []⟩, ⟨⟨[(26, cD (.bool false)), (30, .tup []), (31, .tup [])], []⟩, ⟨[(32, .tup [])], []⟩, [], [], []⟩, ⟨⟨[(26, cD (.bool false)), (32, .tup [])], []⟩, ⟨[(33, .tup [])], []⟩, [], [], []⟩, ⟨⟨[(1, cD (lD 3 encTime p1)), (33, .tup [])], []⟩, ⟨[(34, .tup [])], []⟩, [], [], []⟩, ⟨⟨[(5, .c (.ptr 5 0)), (33, .tup [])], [(5, .box (cTime p2))]⟩, ⟨[(35, .tup [])], []⟩, [], [], []⟩, ⟨⟨[(33, .tup []), (34, .tup []), (35, .tup [])], []⟩, ⟨[(36, .tup [])], []⟩, [], [], []⟩, ⟨⟨[(26, cD (.bool false)), (33, .tup []), (36, .tup [])], []⟩, ⟨[(37, .tup [])], []⟩, [], [], []⟩, ⟨⟨[(26, cD (.bool false)), (29, .tup []), (37, .tup [])], []⟩, ⟨[(38, .tup [])], []⟩, [], [], []⟩, ⟨⟨[(26, cD (.bool false)), (38, .tup [])], []⟩, ⟨[(39, cD (.bool false))], []⟩, [], [], []⟩, ⟨⟨[(39, cD (.bool false))], []⟩, ⟨[(6, cD (.bool false))], []⟩, [], [], []⟩]) (bef := [[], [], [0, 1], [0, 1, 2], [0, 1, 2, 3], [0, 1, 2, 3], [0, 1, 2, 3, 4, 5], [0, 1, 2, 3], [0, 1, 2, 3], [0, 1, 2, 3, 4, 5, 6, 7, 8], [0, 1, 2, 3, 4, 5, 6, 7, 8, 9], [0, 1, 2, 3, 4, 5, 6, 7, 8, 9, 10], [0, 1, 2, 3, 4, 5, 6, 7, 8, 9, 10], [0, 1, 2, 3, 4, 5, 6, 7, 8, 9, 10, 11, 12], [0, 1, 2, 3, 4, 5, 6, 7, 8, 9, 10, 11, 12, 13], [0, 1, 2, 3, 4, 5, 6, 7, 8, 9, 10, 11, 12, 13, 14], [0, 1, 2, 3, 4, 5, 6, 7, 8, 9, 10, 11, 12, 13, 14, 15], [0, 1, 2, 3, 4, 5, 6, 7, 8, 9, 10, 11, 12, 13, 14, 15, 16]]) (tk := [6]) (sk := []) (s' := ⟨[(6, cD (.bool false))], []⟩) (by kernel_rfl) (by kernel_rfl) (by kernel_rfl) ⟨?_, ?_, ?_, ?_, ?_, ?_, ?_, ?_, ?_, ?_, ?_, ?_, ?_, ?_, ?_, ?_, ?_, ?_, trivial⟩ (by kernel_rfl) ?_
     · exact DOk.t rfl rfl (by kernel_rfl) (by kernel_rfl)
     · exact DOk.t rfl rfl (by kernel_rfl) (by kernel_rfl)
     · exact DOk.callA (caps := []) (xs := [cD (lD 3 encTime r5), cD (lD 3 encTime r8)]) (freshetref04_Same_ok hr11) rfl (fun r => by kernel_rfl) rfl (fun r => by kernel_rfl) (fun r => by kernel_rfl) (fun r => (.cons (.refl _) (.cons (.refl _) .nil))) rfl rfl (fun r => rfl)
     · exact DOk.stepP (fun b => .val (.c (.d (.bool b))) (True)) (p := r11) hp12 (fun r => by kernel_rfl) (fun r => by kernel_rfl) trivial (by kernel_rfl) (by kernel_rfl) (fun r => rfl)
     · exact DOk.skip (fun r => by kernel_rfl) rfl rfl (fun r => rfl)
     · exact DOk.skip (fun r => by kernel_rfl) rfl rfl (fun r => rfl)
     · exact DOk.skip (fun r => by kernel_rfl) rfl rfl (fun r => rfl)
     · exact DOk.skip (fun r => by kernel_rfl) rfl rfl (fun r => rfl)
     · exact DOk.skip (fun r => by kernel_rfl) rfl rfl (fun r => rfl)
     · exact DOk.skip (fun r => by kernel_rfl) rfl rfl (fun r => rfl)
     · exact DOk.skip (fun r => by kernel_rfl) rfl rfl (fun r => rfl)
     · exact DOk.skip (fun r => by kernel_rfl) rfl rfl (fun r => rfl)
     · exact DOk.skip (fun r => by kernel_rfl) rfl rfl (fun r => rfl)
     · exact DOk.skip (fun r => by kernel_rfl) rfl rfl (fun r => rfl)
     · exact DOk.skip (fun r => by kernel_rfl) rfl rfl (fun r => rfl)
     · exact DOk.skip (fun r => by kernel_rfl) rfl rfl (fun r => rfl)
     · exact DOk.t rfl rfl (by kernel_rfl) (by kernel_rfl)
     · exact DOk.t rfl rfl (by kernel_rfl) (by kernel_rfl)
     exact ⟨_, h, rfl⟩

end Go.Av