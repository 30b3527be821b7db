import Derived.Test.YtoiphmpjiobaiaaM8c
namespace Go.Av
open Go Go.Proofs
set_option linter.unusedVariables false
set_option linter.unusedSimpArgs false

set_option maxRecDepth 100000 in
theorem freshetlaw04_fronts_ok {fuel : Nat} {q : Bool} (h : freshetlaw04_fronts fuel = some q) :
    Summ Try.prog 25 [] [] (cD (.bool q)) [] := by
  refine Summ.intro Try.func25 rfl (by kernel_rfl) (by kernel_rfl) [] rfl ?_
  rintro ⟨P, w0, G0, V, LL, lk, N, φ0, fx⟩ rfl rfl rfl rfl
  unfold freshetlaw04_fronts at h
  refine Tri.seqS ?_
  refine Tri.reg ?_
  refine At.seg 1 [] [] (s' := ⟨[], []⟩) (c := True ∧ True) (by kernel_rfl) ⟨trivial, trivial⟩ ?_
  refine At.done rfl ?_
  show Tri _ _ _ _
  refine Tri.seqS ?_
  refine Tri.reg ?_
  obtain ⟨r1, hr1, h⟩ := bind_elim h
  refine At.callA (caps := []) (xs := [cD (u6 2), cD (u6 0), cD (u6 1)]) (freshetlaw04_at_ok hr1) rfl rfl rfl rfl rfl rfl (.cons (.refl _) (.cons (.refl _) (.cons (.refl _) .nil))) rfl rfl ?_
  obtain ⟨r2, hr2, h⟩ := bind_elim h
  refine At.callA (caps := []) (xs := [cD (u6 1), cD (u6 0), cD (u6 2)]) (freshetlaw04_at_ok hr2) rfl rfl rfl rfl rfl rfl (.cons (.refl _) (.cons (.refl _) (.cons (.refl _) .nil))) rfl rfl ?_
  obtain ⟨r3, hr3, h⟩ := bind_elim h
  refine At.callA (caps := []) (xs := [cD (u6 3), cD (u6 0), cD (u6 2)]) (freshetlaw04_at_ok hr3) rfl rfl rfl rfl rfl rfl (.cons (.refl _) (.cons (.refl _) (.cons (.refl _) .nil))) rfl rfl ?_
  refine At.one rfl (One.buildSlice (z := [.d (u6 0), .d (u6 0), .d (u6 0)]) (cells := [.d (u6 r1.epoch), .d (u6 r1.loop.1), .d (u6 r1.loop.2), .d (u6 r2.epoch), .d (u6 r2.loop.1), .d (u6 r2.loop.2), .d (u6 r3.epoch), .d (u6 r3.loop.1), .d (u6 r3.loop.2)]) (xs := List.map (encTime) ([r1, r2, r3] : List Time)) rfl rfl rfl rfl (by kernel_rfl) rfl rfl (by kernel_rfl) rfl rfl rfl (by kernel_rfl) rfl ⟨⟨rfl, .refl _⟩, ⟨rfl, .refl _⟩, ⟨rfl, .refl _⟩, trivial⟩) ?_
  refine At.le [5] (fun k hk h => by first | (cases h; done) | (simp at hk h; omega)) ⟨[(5, cD (lD 3 encTime ([r1, r2, r3] : List Time))), (2, .agg (cTime r1)), (3, .agg (cTime r2)), (4, .agg (cTime r3))], []⟩ ⟨⟨_, rfl, .c (.own rfl (List.mem_singleton.2 rfl) (Nat.le_of_ble_eq_true rfl) rfl (encs_getD (encTime) ([r1, r2, r3] : List Time)))⟩, ⟨_, rfl, .refl _⟩, ⟨_, rfl, .refl _⟩, ⟨_, rfl, .refl _⟩, trivial⟩ trivial ?_
  obtain ⟨r4, hr4, h⟩ := bind_elim h
  refine At.callA (caps := []) (xs := [cD (lD 3 encTime ([r1, r2, r3] : List Time))]) (moment_Front_ok hr4) rfl rfl rfl rfl rfl rfl (.cons (.refl _) .nil) rfl rfl ?_
  refine At.seg 1 [1] [] (s' := ⟨[(1, cD (lD 3 encTime r4))], []⟩) (c := True ∧ True) (by kernel_rfl) ⟨trivial, trivial⟩ ?_
  refine At.done rfl ?_
  show Tri _ _ _ _
  refine Tri.seqJ (fun (a5 : Bool) => ⟨[(0, cD (.bool a5))], []⟩) h (fun a5 h => ?_) (fun j6 h => ?_)
  ·show Tri _ _ ⟨[(0, cD (.bool a5))], []⟩ _
   refine Tri.keep [0] [] (s' := ⟨[(0, cD (.bool a5))], []⟩) (by kernel_rfl) ?_
   refine Tri.ret ?_
   cases h
   refine ⟨_, _, rfl, ⟨trivial, trivial⟩, rfl, rfl, ?_⟩
   intro k c h
   cases h
  ·rcases bf_cases h with ⟨hp7, h⟩ | ⟨hp7, h⟩
   ·obtain ⟨hc8, h⟩ := need_elim h
    obtain ⟨r9, hr9, h⟩ := bind_elim h
    rcases bf_cases h with ⟨hp10, h⟩ | ⟨hp10, h⟩
    ·obtain ⟨r11, hr11, h⟩ := bind_elim h
     obtain ⟨r12, hr12, h⟩ := bind_elim h
     rcases bf_cases h with ⟨hp13, h⟩ | ⟨hp13, h⟩
     ·obtain ⟨r14, hr14, h⟩ := bind_elim h
      obtain ⟨r15, hr15, h⟩ := bind_elim h
      rcases bf_cases h with ⟨hp16, h⟩ | ⟨hp16, h⟩
      ·obtain ⟨r17, hr17, h⟩ := bind_elim h
       obtain ⟨r18, hr18, h⟩ := bind_elim h
       obtain ⟨r19, hr19, h⟩ := bind_elim h
       obtain ⟨r20, hr20, h⟩ := bind_elim h
       refine Tri.drawn (specs := [⟨⟨[(1, cD (lD 3 encTime r4))], []⟩, ⟨[(7, cD (lD 3 encTime r4))], []⟩, [], [], []⟩, ⟨⟨[(7, cD (lD 3 encTime r4))], []⟩, ⟨[(8, cD (i6 (r4.length : Int)))], []⟩, [], [], []⟩, ⟨⟨[(8, cD (i6 (r4.length : Int)))], []⟩, ⟨[(9, cD (.bool (decide ((r4.length : Int) = 2))))], []⟩, [], [], []⟩, ⟨⟨[(9, cD (.bool (decide ((r4.length : Int) = 2))))], []⟩, ⟨[(10, .c (.d (.bool true)))], []⟩, [], [], []⟩, ⟨⟨[(1, cD (lD 3 encTime r4)), (10, cD (.bool true))], []⟩, ⟨[(11, cD (lD 3 encTime r4))], []⟩, [], [], []⟩, ⟨⟨[(10, cD (.bool true)), (11, cD (lD 3 encTime r4))], []⟩, ⟨[(12, .c (.eptr [u6 ((r4.getD 0 default).epoch), u6 ((r4.getD 0 default).loop.1), u6 ((r4.getD 0 default).loop.2)]))], []⟩, [], [], []⟩, ⟨⟨[(10, cD (.bool true)), (12, .c (.eptr [u6 ((r4.getD 0 default).epoch), u6 ((r4.getD 0 default).loop.1), u6 ((r4.getD 0 default).loop.2)]))], []⟩, ⟨[(13, .agg (cTime (r4.getD 0 default)))], []⟩, [], [], []⟩, ⟨⟨[(10, cD (.bool true))], []⟩, ⟨[(14, .agg (cTime r9))], []⟩, [], [], []⟩, ⟨⟨[(10, cD (.bool true)), (13, .agg (cTime (r4.getD 0 default))), (14, .agg (cTime r9))], []⟩, ⟨[(15, cD (.bool (eqTime (r4.getD 0 default) r9)))], []⟩, [], [], []⟩, ⟨⟨[(10, cD (.bool true)), (15, cD (.bool (eqTime (r4.getD 0 default) r9)))], []⟩, ⟨[(16, cD (.bool (eqTime (r4.getD 0 default) r9)))], []⟩, [], [], []⟩, ⟨⟨[(16, cD (.bool (eqTime (r4.getD 0 default) r9)))], []⟩, ⟨[(17, .c (.d (.bool true)))], []⟩, [], [], []⟩, ⟨⟨[(1, cD (lD 3 encTime r4)), (17, cD (.bool true))], []⟩, ⟨[(18, cD (lD 3 encTime r4))], []⟩, [], [], []⟩, ⟨⟨[(17, cD (.bool true))], []⟩, ⟨[(19, .agg (cTime r11))], []⟩, [], [], []⟩, ⟨⟨[(17, cD (.bool true)), (18, cD (lD 3 encTime r4)), (19, .agg (cTime r11))], []⟩, ⟨[(20, cD (.bool r12))], []⟩, [], [], []⟩, ⟨⟨[(17, cD (.bool true)), (20, cD (.bool r12))], []⟩, ⟨[(21, cD (.bool r12))], []⟩, [], [], []⟩, ⟨⟨[(21, cD (.bool r12))], []⟩, ⟨[(22, .c (.d (.bool true)))], []⟩, [], [], []⟩, ⟨⟨[(1, cD (lD 3 encTime r4)), (22, cD (.bool true))], []⟩, ⟨[(23, cD (lD 3 encTime r4))], []⟩, [], [], []⟩, ⟨⟨[(22, cD (.bool true))], []⟩, ⟨[(24, .agg (cTime r14))], []⟩, [], [], []⟩, ⟨⟨[(22, cD (.bool true)), (23, cD (lD 3 encTime r4)), (24, .agg (cTime r14))], []⟩, ⟨[(25, cD (.bool r15))], []⟩, [], [], []⟩, ⟨⟨[(22, cD (.bool true)), (25, cD (.bool r15))], []⟩, ⟨[(26, cD (.bool (!r15)))], []⟩, [], [], []⟩, ⟨⟨[(22, cD (.bool true)), (26, cD (.bool (!r15)))], []⟩, ⟨[(27, cD (.bool (!r15)))], []⟩, [], [], []⟩, ⟨⟨[(27, cD (.bool (!r15)))], []⟩, ⟨[(28, .c (.d (.bool true)))], []⟩, [], [], []⟩, ⟨⟨[(28, cD (.bool true))], []⟩, ⟨[(29, .agg (cTime r17))], []⟩, [], [], []⟩, ⟨⟨[(28, cD (.bool true))], []⟩, ⟨[(30, .agg (cTime r18))], []⟩, [], [], []⟩, ⟨⟨[(28, cD (.bool true)), (30, .agg (cTime r18))], []⟩, ⟨[(31, .c (oC 31 3 ([r18] : List Time)))], [(31, vL 3 encTime ([r18] : List Time))]⟩, [31], [], []⟩, ⟨⟨[(28, cD (.bool true)), (29, .agg (cTime r17)), (31, .c (oC 31 3 ([r18] : List Time)))], [(31, vL 3 encTime ([r18] : List Time))]⟩, ⟨[(32, .agg (cTime r19))], []⟩, [], [], []⟩, ⟨⟨[(28, cD (.bool true))], []⟩, ⟨[(33, .agg (cTime r20))], []⟩, [], [], []⟩, ⟨⟨[(28, cD (.bool true)), (32, .agg (cTime r19)), (33, .agg (cTime r20))], []⟩, ⟨[(34, cD (.bool (eqTime r19 r20)))], []⟩, [], [], []⟩, ⟨⟨[(28, cD (.bool true)), (34, cD (.bool (eqTime r19 r20)))], []⟩, ⟨[(35, cD (.bool (eqTime r19 r20)))], []⟩, [], [], []⟩, ⟨⟨[(35, cD (.bool (eqTime r19 r20)))], []⟩, ⟨[(0, cD (.bool (eqTime r19 r20)))], []⟩, [], [], []⟩]) (bef := [[], [0], [0, 1], [0, 1, 2], [0, 1, 2, 3], [0, 1, 2, 3, 4], [0, 1, 2, 3, 4, 5], [0, 1, 2, 3], [0, 1, 2, 3, 4, 5, 6, 7], [0, 1, 2, 3, 4, 5, 6, 7, 8], [0, 1, 2, 3, 4, 5, 6, 7, 8, 9], [0, 1, 2, 3, 4, 5, 6, 7, 8, 9, 10], [0, 1, 2, 3, 4, 5, 6, 7, 8, 9, 10], [0, 1, 2, 3, 4, 5, 6, 7, 8, 9, 10, 11, 12], [0, 1, 2, 3, 4, 5, 6, 7, 8, 9, 10, 11, 12, 13], [0, 1, 2, 3, 4, 5, 6, 7, 8, 9, 10, 11, 12, 13, 14], [0, 1, 2, 3, 4, 5, 6, 7, 8, 9, 10, 11, 12, 13, 14, 15], [0, 1, 2, 3, 4, 5, 6, 7, 8, 9, 10, 11, 12, 13, 14, 15], [0, 1, 2, 3, 4, 5, 6, 7, 8, 9, 10, 11, 12, 13, 14, 15, 16, 17], [0, 1, 2, 3, 4, 5, 6, 7, 8, 9, 10, 11, 12, 13, 14, 15, 16, 17, 18], [0, 1, 2, 3, 4, 5, 6, 7, 8, 9, 10, 11, 12, 13, 14, 15, 16, 17, 18, 19], [0, 1, 2, 3, 4, 5, 6, 7, 8, 9, 10, 11, 12, 13, 14, 15, 16, 17, 18, 19, 20], [0, 1, 2, 3, 4, 5, 6, 7, 8, 9, 10, 11, 12, 13, 14, 15, 16, 17, 18, 19, 20, 21], [0, 1, 2, 3, 4, 5, 6, 7, 8, 9, 10, 11, 12, 13, 14, 15, 16, 17, 18, 19, 20, 21, 22], [0, 1, 2, 3, 4, 5, 6, 7, 8, 9, 10, 11, 12, 13, 14, 15, 16, 17, 18, 19, 20, 21, 22, 23], [0, 1, 2, 3, 4, 5, 6, 7, 8, 9, 10, 11, 12, 13, 14, 15, 16, 17, 18, 19, 20, 21, 22, 23, 24], [0, 1, 2, 3, 4, 5, 6, 7, 8, 9, 10, 11, 12, 13, 14, 15, 16, 17, 18, 19, 20, 21, 22, 23, 24, 25], [0, 1, 2, 3, 4, 5, 6, 7, 8, 9, 10, 11, 12, 13, 14, 15, 16, 17, 18, 19, 20, 21, 22, 23, 24, 25, 26], [0, 1, 2, 3, 4, 5, 6, 7, 8, 9, 10, 11, 12, 13, 14, 15, 16, 17, 18, 19, 20, 21, 22, 23, 24, 25, 26, 27], [0, 1, 2, 3, 4, 5, 6, 7, 8, 9, 10, 11, 12, 13, 14, 15, 16, 17, 18, 19, 20, 21, 22, 23, 24, 25, 26, 27, 28]]) (tk := [0]) (sk := []) (s' := ⟨[(0, cD (.bool (eqTime r19 r20)))], []⟩) (by kernel_rfl) (by kernel_rfl) (by kernel_rfl) ⟨?_, ?_, ?_, ?_, ?_, ?_, ?_, ?_, ?_, ?_, ?_, ?_, ?_, ?_, ?_, ?_, ?_, ?_, ?_, ?_, ?_, ?_, ?_, ?_, ?_, ?_, ?_, ?_, ?_, ?_, trivial⟩ (by kernel_rfl) ?_
       · exact DOk.t rfl rfl (by kernel_rfl) (by kernel_rfl)
       · exact DOk.t rfl rfl (by kernel_rfl) (by kernel_rfl)
       · exact DOk.t rfl rfl (by kernel_rfl) (by kernel_rfl)
       · exact DOk.stepP (fun b => .val (.c (.d (.bool b))) (True)) (p := (decide ((r4.length : Int) = 2))) hp7 (fun r => by kernel_rfl) (fun r => by kernel_rfl) trivial (by kernel_rfl) (by kernel_rfl) (fun r => rfl)
       · exact DOk.t rfl rfl (by kernel_rfl) (by kernel_rfl)
       · exact DOk.step (.val (.c (.eptr [u6 ((r4.getD 0 default).epoch), u6 ((r4.getD 0 default).loop.1), u6 ((r4.getD 0 default).loop.2)])) ((0 : Int) ≤ 0 ∧ 0 < (r4.length : Int))) (fun r => by kernel_rfl) (fun r => by kernel_rfl) hc8 (by kernel_rfl) (by kernel_rfl) (fun r => rfl)
       · exact DOk.t rfl rfl (by kernel_rfl) (by kernel_rfl)
       · exact DOk.callA (caps := []) (xs := [cD (u6 1), cD (u6 0), cD (u6 2)]) (freshetlaw04_at_ok hr9) rfl (fun r => by kernel_rfl) rfl (fun r => by kernel_rfl) (fun r => by kernel_rfl) (fun r => (.cons (.refl _) (.cons (.refl _) (.cons (.refl _) .nil)))) rfl rfl (fun r => rfl)
       · exact DOk.one fun r _ => One.eql (b := (eqTime (r4.getD 0 default) r9)) (d := 9) rfl (by kernel_rfl) rfl (.inl rfl) rfl rfl (by kernel_rfl) rfl (by kernel_rfl)
       · exact DOk.t rfl rfl (by kernel_rfl) (by kernel_rfl)
       · exact DOk.stepP (fun b => .val (.c (.d (.bool b))) (True)) (p := (eqTime (r4.getD 0 default) r9)) hp10 (fun r => by kernel_rfl) (fun r => by kernel_rfl) trivial (by kernel_rfl) (by kernel_rfl) (fun r => rfl)
       · exact DOk.t rfl rfl (by kernel_rfl) (by kernel_rfl)
       · exact DOk.callA (caps := []) (xs := [cD (u6 2), cD (u6 0), cD (u6 2)]) (freshetlaw04_at_ok hr11) rfl (fun r => by kernel_rfl) rfl (fun r => by kernel_rfl) (fun r => by kernel_rfl) (fun r => (.cons (.refl _) (.cons (.refl _) (.cons (.refl _) .nil)))) rfl rfl (fun r => rfl)
       · exact DOk.callA (caps := []) (xs := [cD (lD 3 encTime r4), .agg (cTime r11)]) (moment_Beyond_ok hr12) rfl (fun r => by kernel_rfl) rfl (fun r => by kernel_rfl) (fun r => by kernel_rfl) (fun r => (.cons (.refl _) (.cons (.refl _) .nil))) rfl rfl (fun r => rfl)
       · exact DOk.t rfl rfl (by kernel_rfl) (by kernel_rfl)
       · exact DOk.stepP (fun b => .val (.c (.d (.bool b))) (True)) (p := r12) hp13 (fun r => by kernel_rfl) (fun r => by kernel_rfl) trivial (by kernel_rfl) (by kernel_rfl) (fun r => rfl)
       · exact DOk.t rfl rfl (by kernel_rfl) (by kernel_rfl)
       · exact DOk.callA (caps := []) (xs := [cD (u6 1), cD (u6 9), cD (u6 0)]) (freshetlaw04_at_ok hr14) rfl (fun r => by kernel_rfl) rfl (fun r => by kernel_rfl) (fun r => by kernel_rfl) (fun r => (.cons (.refl _) (.cons (.refl _) (.cons (.refl _) .nil)))) rfl rfl (fun r => rfl)
       · exact DOk.callA (caps := []) (xs := [cD (lD 3 encTime r4), .agg (cTime r14)]) (moment_Beyond_ok hr15) rfl (fun r => by kernel_rfl) rfl (fun r => by kernel_rfl) (fun r => by kernel_rfl) (fun r => (.cons (.refl _) (.cons (.refl _) .nil))) rfl rfl (fun r => rfl)
       · exact DOk.t rfl rfl (by kernel_rfl) (by kernel_rfl)
       · exact DOk.t rfl rfl (by kernel_rfl) (by kernel_rfl)
       · exact DOk.stepP (fun b => .val (.c (.d (.bool b))) (True)) (p := (!r15)) hp16 (fun r => by kernel_rfl) (fun r => by kernel_rfl) trivial (by kernel_rfl) (by kernel_rfl) (fun r => rfl)
       · exact DOk.callA (caps := []) (xs := [cD (u6 1), cD (u6 0), cD (u6 0)]) (freshetlaw04_at_ok hr17) rfl (fun r => by kernel_rfl) rfl (fun r => by kernel_rfl) (fun r => by kernel_rfl) (fun r => (.cons (.refl _) (.cons (.refl _) (.cons (.refl _) .nil)))) rfl rfl (fun r => rfl)
       · exact DOk.callA (caps := []) (xs := [cD (u6 3), cD (u6 0), cD (u6 0)]) (freshetlaw04_at_ok hr18) rfl (fun r => by kernel_rfl) rfl (fun r => by kernel_rfl) (fun r => by kernel_rfl) (fun r => (.cons (.refl _) (.cons (.refl _) (.cons (.refl _) .nil)))) rfl rfl (fun r => rfl)
       · exact DOk.one fun r hr => One.buildT (e := 27) (es := 3) (z := [.d (u6 0), .d (u6 0), .d (u6 0)]) (cells := [.d (u6 r18.epoch), .d (u6 r18.loop.1), .d (u6 r18.loop.2)]) (encTime) ([r18] : List Time) rfl (by kernel_rfl) rfl rfl (St.noRef_app (by kernel_rfl) (hr 31 (by simp))) (by kernel_rfl) rfl (by kernel_rfl) rfl rfl rfl (by kernel_rfl) rfl ⟨⟨rfl, .refl _⟩, trivial⟩
       · exact DOk.callA (caps := []) (xs := [.agg (cTime r17), .c (oC 31 3 ([r18] : List Time))]) (moment_Advance_ok_v1 hr19) rfl (fun r => by kernel_rfl) rfl (fun r => by kernel_rfl) (fun r => by kernel_rfl) (fun r => (.cons (.refl _) (.cons (AVArg.view (encTime) ([r18] : List Time) rfl) .nil))) rfl rfl (fun r => rfl)
       · exact DOk.callA (caps := []) (xs := [cD (u6 3), cD (u6 0), cD (u6 0)]) (freshetlaw04_at_ok hr20) rfl (fun r => by kernel_rfl) rfl (fun r => by kernel_rfl) (fun r => by kernel_rfl) (fun r => (.cons (.refl _) (.cons (.refl _) (.cons (.refl _) .nil)))) rfl rfl (fun r => rfl)
       · exact DOk.one fun r _ => One.eql (b := (eqTime r19 r20)) (d := 9) rfl (by kernel_rfl) rfl (.inl rfl) rfl rfl (by kernel_rfl) rfl (by kernel_rfl)
       · exact DOk.t rfl rfl (by kernel_rfl) (by kernel_rfl)
       · exact DOk.t rfl rfl (by kernel_rfl) (by kernel_rfl)
       exact ⟨_, h, rfl⟩
      ·refine Tri.drawn (specs := [⟨⟨[(1, cD (lD 3 encTime r4))], []⟩, ⟨[(7, cD (lD 3 encTime r4))], []⟩, [], [], []⟩, ⟨⟨[(7, cD (lD 3 encTime r4))], []⟩, ⟨[(8, cD (i6 (r4.length : Int)))], []⟩, [], [], []⟩, ⟨⟨[(8, cD (i6 (r4.length : Int)))], []⟩, ⟨[(9, cD (.bool (decide ((r4.length : Int) = 2))))], []⟩, [], [], []⟩, ⟨⟨[(9, cD (.bool (decide ((r4.length : Int) = 2))))], []⟩, ⟨[(10, .c (.d (.bool true)))], []⟩, [], [], []⟩, ⟨⟨[(1, cD (lD 3 encTime r4)), (10, cD (.bool true))], []⟩, ⟨[(11, cD (lD 3 encTime r4))], []⟩, [], [], []⟩, ⟨⟨[(10, cD (.bool true)), (11, cD (lD 3 encTime r4))], []⟩, ⟨[(12, .c (.eptr [u6 ((r4.getD 0 default).epoch), u6 ((r4.getD 0 default).loop.1), u6 ((r4.getD 0 default).loop.2)]))], []⟩, [], [], []⟩, ⟨⟨[(10, cD (.bool true)), (12, .c (.eptr [u6 ((r4.getD 0 default).epoch), u6 ((r4.getD 0 default).loop.1), u6 ((r4.getD 0 default).loop.2)]))], []⟩, ⟨[(13, .agg (cTime (r4.getD 0 default)))], []⟩, [], [], []⟩, ⟨⟨[(10, cD (.bool true))], []⟩, ⟨[(14, .agg (cTime r9))], []⟩, [], [], []⟩, ⟨⟨[(10, cD (.bool true)), (13, .agg (cTime (r4.getD 0 default))), (14, .agg (cTime r9))], []⟩, ⟨[(15, cD (.bool (eqTime (r4.getD 0 default) r9)))], []⟩, [], [], []⟩, ⟨⟨[(10, cD (.bool true)), (15, cD (.bool (eqTime (r4.getD 0 default) r9)))], []⟩, ⟨[(16, cD (.bool (eqTime (r4.getD 0 default) r9)))], []⟩, [], [], []⟩, ⟨⟨[(16, cD (.bool (eqTime (r4.getD 0 default) r9)))], []⟩, ⟨[(17, .c (.d (.bool true)))], []⟩, [], [], []⟩, ⟨⟨[(1, cD (lD 3 encTime r4)), (17, cD (.bool true))], []⟩, ⟨[(18, cD (lD 3 encTime r4))], []⟩, [], [], []⟩, ⟨⟨[(17, cD (.bool true))], []⟩, ⟨[(19, .agg (cTime r11))], []⟩, [], [], []⟩, ⟨⟨[(17, cD (.bool true)), (18, cD (lD 3 encTime r4)), (19, .agg (cTime r11))], []⟩, ⟨[(20, cD (.bool r12))], []⟩, [], [], []⟩, ⟨⟨[(17, cD (.bool true)), (20, cD (.bool r12))], []⟩, ⟨[(21, cD (.bool r12))], []⟩, [], [], []⟩, ⟨⟨[(21, cD (.bool r12))], []⟩, ⟨[(22, .c (.d (.bool true)))], []⟩, [], [], []⟩, ⟨⟨[(1, cD (lD 3 encTime r4)), (22, cD (.bool true))], []⟩, ⟨[(23, cD (lD 3 encTime r4))], []⟩, [], [], []⟩, ⟨⟨[(22, cD (.bool true))], []⟩, ⟨[(24, .agg (cTime r14))], []⟩, [], [], []⟩, ⟨⟨[(22, cD (.bool true)), (23, cD (lD 3 encTime r4)), (24, .agg (cTime r14))], []⟩, ⟨[(25, cD (.bool r15))], []⟩, [], [], []⟩, ⟨⟨[(22, cD (.bool true)), (25, cD (.bool r15))], []⟩, ⟨[(26, cD (.bool (!r15)))], []⟩, [], [], []⟩, ⟨⟨[(22, cD (.bool true)), (26, cD (.bool (!r15)))], []⟩, ⟨[(27, cD (.bool (!r15)))], []⟩, [], [], []⟩, ⟨⟨[(27, cD (.bool (!r15)))], []⟩, ⟨[(28, .c (.d (.bool false)))], []⟩, [], [], []⟩, ⟨⟨[(28, cD (.bool false))], []⟩, ⟨[(29, .tup [])], []⟩, [], [], []⟩, ⟨⟨[(28, cD (.bool false))], []⟩, ⟨[(30, .tup [])], []⟩, [], [], []⟩, ⟨⟨[(28, cD (.bool false)), (30, .tup [])], []⟩, ⟨[(31, .tup [])], []⟩, [], [], []⟩, ⟨⟨[(28, cD (.bool false)), (29, .tup []), (31, .tup [])], []⟩, ⟨[(32, .tup [])], []⟩, [], [], []⟩, ⟨⟨[(28, cD (.bool false))], []⟩, ⟨[(33, .tup [])], []⟩, [], [], []⟩, ⟨⟨[(28, cD (.bool false)), (32, .tup []), (33, .tup [])], []⟩, ⟨[(34, .tup [])], []⟩, [], [], []⟩, ⟨⟨[(28, cD (.bool false)), (34, .tup [])], []⟩, ⟨[(35, cD (.bool false))], []⟩, [], [], []⟩, ⟨⟨[(35, cD (.bool false))], []⟩, ⟨[(0, cD (.bool false))], []⟩, [], [], []⟩]) (bef := [[], [0], [0, 1], [0, 1, 2], [0, 1, 2, 3], [0, 1, 2, 3, 4], [0, 1, 2, 3, 4, 5], [0, 1, 2, 3], [0, 1, 2, 3, 4, 5, 6, 7], [0, 1, 2, 3, 4, 5, 6, 7, 8], [0, 1, 2, 3, 4, 5, 6, 7, 8, 9], [0, 1, 2, 3, 4, 5, 6, 7, 8, 9, 10], [0, 1, 2, 3, 4, 5, 6, 7, 8, 9, 10], [0, 1, 2, 3, 4, 5, 6, 7, 8, 9, 10, 11, 12], [0, 1, 2, 3, 4, 5, 6, 7, 8, 9, 10, 11, 12, 13], [0, 1, 2, 3, 4, 5, 6, 7, 8, 9, 10, 11, 12, 13, 14], [0, 1, 2, 3, 4, 5, 6, 7, 8, 9, 10, 11, 12, 13, 14, 15], [0, 1, 2, 3, 4, 5, 6, 7, 8, 9, 10, 11, 12, 13, 14, 15], [0, 1, 2, 3, 4, 5, 6, 7, 8, 9, 10, 11, 12, 13, 14, 15, 16, 17], [0, 1, 2, 3, 4, 5, 6, 7, 8, 9, 10, 11, 12, 13, 14, 15, 16, 17, 18], [0, 1, 2, 3, 4, 5, 6, 7, 8, 9, 10, 11, 12, 13, 14, 15, 16, 17, 18, 19], [0, 1, 2, 3, 4, 5, 6, 7, 8, 9, 10, 11, 12, 13, 14, 15, 16, 17, 18, 19, 20], [0, 1, 2, 3, 4, 5, 6, 7, 8, 9, 10, 11, 12, 13, 14, 15, 16, 17, 18, 19, 20, 21], [0, 1, 2, 3, 4, 5, 6, 7, 8, 9, 10, 11, 12, 13, 14, 15, 16, 17, 18, 19, 20, 21, 22], [0, 1, 2, 3, 4, 5, 6, 7, 8, 9, 10, 11, 12, 13, 14, 15, 16, 17, 18, 19, 20, 21, 22, 23], [0, 1, 2, 3, 4, 5, 6, 7, 8, 9, 10, 11, 12, 13, 14, 15, 16, 17, 18, 19, 20, 21, 22, 23, 24], [0, 1, 2, 3, 4, 5, 6, 7, 8, 9, 10, 11, 12, 13, 14, 15, 16, 17, 18, 19, 20, 21, 22, 23, 24, 25], [0, 1, 2, 3, 4, 5, 6, 7, 8, 9, 10, 11, 12, 13, 14, 15, 16, 17, 18, 19, 20, 21, 22, 23, 24, 25, 26], [0, 1, 2, 3, 4, 5, 6, 7, 8, 9, 10, 11, 12, 13, 14, 15, 16, 17, 18, 19, 20, 21, 22, 23, 24, 25, 26, 27], [0, 1, 2, 3, 4, 5, 6, 7, 8, 9, 10, 11, 12, 13, 14, 15, 16, 17, 18, 19, 20, 21, 22, 23, 24, 25, 26, 27, 28]]) (tk := [0]) (sk := []) (s' := ⟨[(0, cD (.bool false))], []⟩) (by kernel_rfl) (by kernel_rfl) (by kernel_rfl) ⟨?_, ?_, ?_, ?_, ?_, ?_, ?_, ?_, ?_, ?_, ?_, ?_, ?_, ?_, ?_, ?_, ?_, ?_, ?_, ?_, ?_, ?_, ?_, ?_, ?_, ?_, ?_, ?_, ?_, ?_, trivial⟩ (by kernel_rfl) ?_
       · exact DOk.t rfl rfl (by kernel_rfl) (by kernel_rfl)
       · exact DOk.t rfl rfl (by kernel_rfl) (by kernel_rfl)
       · exact DOk.t rfl rfl (by kernel_rfl) (by kernel_rfl)
       · exact DOk.stepP (fun b => .val (.c (.d (.bool b))) (True)) (p := (decide ((r4.length : Int) = 2))) hp7 (fun r => by kernel_rfl) (fun r => by kernel_rfl) trivial (by kernel_rfl) (by kernel_rfl) (fun r => rfl)
       · exact DOk.t rfl rfl (by kernel_rfl) (by kernel_rfl)
       · exact DOk.step (.val (.c (.eptr [u6 ((r4.getD 0 default).epoch), u6 ((r4.getD 0 default).loop.1), u6 ((r4.getD 0 default).loop.2)])) ((0 : Int) ≤ 0 ∧ 0 < (r4.length : Int))) (fun r => by kernel_rfl) (fun r => by kernel_rfl) hc8 (by kernel_rfl) (by kernel_rfl) (fun r => rfl)
       · exact DOk.t rfl rfl (by kernel_rfl) (by kernel_rfl)
       · exact DOk.callA (caps := []) (xs := [cD (u6 1), cD (u6 0), cD (u6 2)]) (freshetlaw04_at_ok hr9) rfl (fun r => by kernel_rfl) rfl (fun r => by kernel_rfl) (fun r => by kernel_rfl) (fun r => (.cons (.refl _) (.cons (.refl _) (.cons (.refl _) .nil)))) rfl rfl (fun r => rfl)
       · exact DOk.one fun r _ => One.eql (b := (eqTime (r4.getD 0 default) r9)) (d := 9) rfl (by kernel_rfl) rfl (.inl rfl) rfl rfl (by kernel_rfl) rfl (by kernel_rfl)
       · exact DOk.t rfl rfl (by kernel_rfl) (by kernel_rfl)
       · exact DOk.stepP (fun b => .val (.c (.d (.bool b))) (True)) (p := (eqTime (r4.getD 0 default) r9)) hp10 (fun r => by kernel_rfl) (fun r => by kernel_rfl) trivial (by kernel_rfl) (by kernel_rfl) (fun r => rfl)
       · exact DOk.t rfl rfl (by kernel_rfl) (by kernel_rfl)
       · exact DOk.callA (caps := []) (xs := [cD (u6 2), cD (u6 0), cD (u6 2)]) (freshetlaw04_at_ok hr11) rfl (fun r => by kernel_rfl) rfl (fun r => by kernel_rfl) (fun r => by kernel_rfl) (fun r => (.cons (.refl _) (.cons (.refl _) (.cons (.refl _) .nil)))) rfl rfl (fun r => rfl)
       · exact DOk.callA (caps := []) (xs := [cD (lD 3 encTime r4), .agg (cTime r11)]) (moment_Beyond_ok hr12) rfl (fun r => by kernel_rfl) rfl (fun r => by kernel_rfl) (fun r => by kernel_rfl) (fun r => (.cons (.refl _) (.cons (.refl _) .nil))) rfl rfl (fun r => rfl)
       · exact DOk.t rfl rfl (by kernel_rfl) (by kernel_rfl)
       · exact DOk.stepP (fun b => .val (.c (.d (.bool b))) (True)) (p := r12) hp13 (fun r => by kernel_rfl) (fun r => by kernel_rfl) trivial (by kernel_rfl) (by kernel_rfl) (fun r => rfl)
       · exact DOk.t rfl rfl (by kernel_rfl) (by kernel_rfl)
       · exact DOk.callA (caps := []) (xs := [cD (u6 1), cD (u6 9), cD (u6 0)]) (freshetlaw04_at_ok hr14) rfl (fun r => by kernel_rfl) rfl (fun r => by kernel_rfl) (fun r => by kernel_rfl) (fun r => (.cons (.refl _) (.cons (.refl _) (.cons (.refl _) .nil)))) rfl rfl (fun r => rfl)
       · exact DOk.callA (caps := []) (xs := [cD (lD 3 encTime r4), .agg (cTime r14)]) (moment_Beyond_ok hr15) rfl (fun r => by kernel_rfl) rfl (fun r => by kernel_rfl) (fun r => by kernel_rfl) (fun r => (.cons (.refl _) (.cons (.refl _) .nil))) rfl rfl (fun r => rfl)
       · exact DOk.t rfl rfl (by kernel_rfl) (by kernel_rfl)
       · exact DOk.t rfl rfl (by kernel_rfl) (by kernel_rfl)
       · exact DOk.stepP (fun b => .val (.c (.d (.bool b))) (True)) (p := (!r15)) hp16 (fun r => by kernel_rfl) (fun r => by kernel_rfl) trivial (by kernel_rfl) (by kernel_rfl) (fun r => rfl)
       · exact DOk.skip (fun r => by kernel_rfl) rfl rfl (fun r => rfl)
       · exact DOk.skip (fun r => by kernel_rfl) rfl rfl (fun r => rfl)
       · exact DOk.skip (fun r => by kernel_rfl) rfl rfl (fun r => rfl)
       · exact DOk.skip (fun r => by kernel_rfl) rfl rfl (fun r => rfl)
       · exact DOk.skip (fun r => by kernel_rfl) rfl rfl (fun r => rfl)
       · exact DOk.skip (fun r => by kernel_rfl) rfl rfl (fun r => rfl)
       · exact DOk.t rfl rfl (by kernel_rfl) (by kernel_rfl)
       · exact DOk.t rfl rfl (by kernel_rfl) (by kernel_rfl)
       exact ⟨_, h, rfl⟩
     ·refine Tri.drawn (specs := [⟨⟨[(1, cD (lD 3 encTime r4))], []⟩, ⟨[(7, cD (lD 3 encTime r4))], []⟩, [], [], []⟩, ⟨⟨[(7, cD (lD 3 encTime r4))], []⟩, ⟨[(8, cD (i6 (r4.length : Int)))], []⟩, [], [], []⟩, ⟨⟨[(8, cD (i6 (r4.length : Int)))], []⟩, ⟨[(9, cD (.bool (decide ((r4.length : Int) = 2))))], []⟩, [], [], []⟩, ⟨⟨[(9, cD (.bool (decide ((r4.length : Int) = 2))))], []⟩, ⟨[(10, .c (.d (.bool true)))], []⟩, [], [], []⟩, ⟨⟨[(1, cD (lD 3 encTime r4)), (10, cD (.bool true))], []⟩, ⟨[(11, cD (lD 3 encTime r4))], []⟩, [], [], []⟩, ⟨⟨[(10, cD (.bool true)), (11, cD (lD 3 encTime r4))], []⟩, ⟨[(12, .c (.eptr [u6 ((r4.getD 0 default).epoch), u6 ((r4.getD 0 default).loop.1), u6 ((r4.getD 0 default).loop.2)]))], []⟩, [], [], []⟩, ⟨⟨[(10, cD (.bool true)), (12, .c (.eptr [u6 ((r4.getD 0 default).epoch), u6 ((r4.getD 0 default).loop.1), u6 ((r4.getD 0 default).loop.2)]))], []⟩, ⟨[(13, .agg (cTime (r4.getD 0 default)))], []⟩, [], [], []⟩, ⟨⟨[(10, cD (.bool true))], []⟩, ⟨[(14, .agg (cTime r9))], []⟩, [], [], []⟩, ⟨⟨[(10, cD (.bool true)), (13, .agg (cTime (r4.getD 0 default))), (14, .agg (cTime r9))], []⟩, ⟨[(15, cD (.bool (eqTime (r4.getD 0 default) r9)))], []⟩, [], [], []⟩, ⟨⟨[(10, cD (.bool true)), (15, cD (.bool (eqTime (r4.getD 0 default) r9)))], []⟩, ⟨[(16, cD (.bool (eqTime (r4.getD 0 default) r9)))], []⟩, [], [], []⟩, ⟨⟨[(16, cD (.bool (eqTime (r4.getD 0 default) r9)))], []⟩, ⟨[(17, .c (.d (.bool true)))], []⟩, [], [], []⟩, ⟨⟨[(1, cD (lD 3 encTime r4)), (17, cD (.bool true))], []⟩, ⟨[(18, cD (lD 3 encTime r4))], []⟩, [], [], []⟩, ⟨⟨[(17, cD (.bool true))], []⟩, ⟨[(19, .agg (cTime r11))], []⟩, [], [], []⟩, ⟨⟨[(17, cD (.bool true)), (18, cD (lD 3 encTime r4)), (19, .agg (cTime r11))], []⟩, ⟨[(20, cD (.bool r12))], []⟩, [], [], []⟩, ⟨⟨[(17, cD (.bool true)), (20, cD (.bool r12))], []⟩, ⟨[(21, cD (.bool r12))], []⟩, [], [], []⟩, ⟨⟨[(21, cD (.bool r12))], []⟩, ⟨[(22, .c (.d (.bool false)))], []⟩, [], [], []⟩, ⟨⟨[(1, cD (lD 3 encTime r4)), (22, cD (.bool false))], []⟩, ⟨[(23, .tup [])], []⟩, [], [], []⟩, ⟨⟨[(22, cD (.bool false))], []⟩, ⟨[(24, .tup [])], []⟩, [], [], []⟩, ⟨⟨[(22, cD (.bool false)), (23, .tup []), (24, .tup [])], []⟩, ⟨[(25, .tup [])], []⟩, [], [], []⟩, ⟨⟨[(22, cD (.bool false)), (25, .tup [])], []⟩, ⟨[(26, .tup [])], []⟩, [], [], []⟩, ⟨⟨[(22, cD (.bool false)), (26, .tup [])], []⟩, ⟨[(27, cD (.bool false))], []⟩, [], [], []⟩, ⟨⟨[(27, cD (.bool false))], []⟩, ⟨[(28, cD (.bool false))], []⟩, [], [], []⟩, ⟨⟨[(28, cD (.bool false))], []⟩, ⟨[(29, .tup [])], []⟩, [], [], []⟩, ⟨⟨[(28, cD (.bool false))], []⟩, ⟨[(30, .tup [])], []⟩, [], [], []⟩, ⟨⟨[(28, cD (.bool false)), (30, .tup [])], []⟩, ⟨[(31, .tup [])], []⟩, [], [], []⟩, ⟨⟨[(28, cD (.bool false)), (29, .tup []), (31, .tup [])], []⟩, ⟨[(32, .tup [])], []⟩, [], [], []⟩, ⟨⟨[(28, cD (.bool false))], []⟩, ⟨[(33, .tup [])], []⟩, [], [], []⟩, ⟨⟨[(28, cD (.bool false)), (32, .tup []), (33, .tup [])], []⟩, ⟨[(34, .tup [])], []⟩, [], [], []⟩, ⟨⟨[(28, cD (.bool false)), (34, .tup [])], []⟩, ⟨[(35, cD (.bool false))], []⟩, [], [], []⟩, ⟨⟨[(35, cD (.bool false))], []⟩, ⟨[(0, cD (.bool false))], []⟩, [], [], []⟩]) (bef := [[], [0], [0, 1], [0, 1, 2], [0, 1, 2, 3], [0, 1, 2, 3, 4], [0, 1, 2, 3, 4, 5], [0, 1, 2, 3], [0, 1, 2, 3, 4, 5, 6, 7], [0, 1, 2, 3, 4, 5, 6, 7, 8], [0, 1, 2, 3, 4, 5, 6, 7, 8, 9], [0, 1, 2, 3, 4, 5, 6, 7, 8, 9, 10], [0, 1, 2, 3, 4, 5, 6, 7, 8, 9, 10], [0, 1, 2, 3, 4, 5, 6, 7, 8, 9, 10, 11, 12], [0, 1, 2, 3, 4, 5, 6, 7, 8, 9, 10, 11, 12, 13], [0, 1, 2, 3, 4, 5, 6, 7, 8, 9, 10, 11, 12, 13, 14], [0, 1, 2, 3, 4, 5, 6, 7, 8, 9, 10, 11, 12, 13, 14, 15], [0, 1, 2, 3, 4, 5, 6, 7, 8, 9, 10, 11, 12, 13, 14, 15], [0, 1, 2, 3, 4, 5, 6, 7, 8, 9, 10, 11, 12, 13, 14, 15, 16, 17], [0, 1, 2, 3, 4, 5, 6, 7, 8, 9, 10, 11, 12, 13, 14, 15, 16, 17, 18], [0, 1, 2, 3, 4, 5, 6, 7, 8, 9, 10, 11, 12, 13, 14, 15, 16, 17, 18, 19], [0, 1, 2, 3, 4, 5, 6, 7, 8, 9, 10, 11, 12, 13, 14, 15, 16, 17, 18, 19, 20], [0, 1, 2, 3, 4, 5, 6, 7, 8, 9, 10, 11, 12, 13, 14, 15, 16, 17, 18, 19, 20, 21], [0, 1, 2, 3, 4, 5, 6, 7, 8, 9, 10, 11, 12, 13, 14, 15, 16, 17, 18, 19, 20, 21, 22], [0, 1, 2, 3, 4, 5, 6, 7, 8, 9, 10, 11, 12, 13, 14, 15, 16, 17, 18, 19, 20, 21, 22, 23], [0, 1, 2, 3, 4, 5, 6, 7, 8, 9, 10, 11, 12, 13, 14, 15, 16, 17, 18, 19, 20, 21, 22, 23, 24], [0, 1, 2, 3, 4, 5, 6, 7, 8, 9, 10, 11, 12, 13, 14, 15, 16, 17, 18, 19, 20, 21, 22, 23, 24, 25], [0, 1, 2, 3, 4, 5, 6, 7, 8, 9, 10, 11, 12, 13, 14, 15, 16, 17, 18, 19, 20, 21, 22, 23, 24, 25, 26], [0, 1, 2, 3, 4, 5, 6, 7, 8, 9, 10, 11, 12, 13, 14, 15, 16, 17, 18, 19, 20, 21, 22, 23, 24, 25, 26, 27], [0, 1, 2, 3, 4, 5, 6, 7, 8, 9, 10, 11, 12, 13, 14, 15, 16, 17, 18, 19, 20, 21, 22, 23, 24, 25, 26, 27, 28]]) (tk := [0]) (sk := []) (s' := ⟨[(0, cD (.bool false))], []⟩) (by kernel_rfl) (by kernel_rfl) (by kernel_rfl) ⟨?_, ?_, ?_, ?_, ?_, ?_, ?_, ?_, ?_, ?_, ?_, ?_, ?_, ?_, ?_, ?_, ?_, ?_, ?_, ?_, ?_, ?_, ?_, ?_, ?_, ?_, ?_, ?_, ?_, ?_, trivial⟩ (by kernel_rfl) ?_
      · exact DOk.t rfl rfl (by kernel_rfl) (by kernel_rfl)
      · exact DOk.t rfl rfl (by kernel_rfl) (by kernel_rfl)
      · exact DOk.t rfl rfl (by kernel_rfl) (by kernel_rfl)
      · exact DOk.stepP (fun b => .val (.c (.d (.bool b))) (True)) (p := (decide ((r4.length : Int) = 2))) hp7 (fun r => by kernel_rfl) (fun r => by kernel_rfl) trivial (by kernel_rfl) (by kernel_rfl) (fun r => rfl)
      · exact DOk.t rfl rfl (by kernel_rfl) (by kernel_rfl)
      · exact DOk.step (.val (.c (.eptr [u6 ((r4.getD 0 default).epoch), u6 ((r4.getD 0 default).loop.1), u6 ((r4.getD 0 default).loop.2)])) ((0 : Int) ≤ 0 ∧ 0 < (r4.length : Int))) (fun r => by kernel_rfl) (fun r => by kernel_rfl) hc8 (by kernel_rfl) (by kernel_rfl) (fun r => rfl)
      · exact DOk.t rfl rfl (by kernel_rfl) (by kernel_rfl)
      · exact DOk.callA (caps := []) (xs := [cD (u6 1), cD (u6 0), cD (u6 2)]) (freshetlaw04_at_ok hr9) rfl (fun r => by kernel_rfl) rfl (fun r => by kernel_rfl) (fun r => by kernel_rfl) (fun r => (.cons (.refl _) (.cons (.refl _) (.cons (.refl _) .nil)))) rfl rfl (fun r => rfl)
      · exact DOk.one fun r _ => One.eql (b := (eqTime (r4.getD 0 default) r9)) (d := 9) rfl (by kernel_rfl) rfl (.inl rfl) rfl rfl (by kernel_rfl) rfl (by kernel_rfl)
      · exact DOk.t rfl rfl (by kernel_rfl) (by kernel_rfl)
      · exact DOk.stepP (fun b => .val (.c (.d (.bool b))) (True)) (p := (eqTime (r4.getD 0 default) r9)) hp10 (fun r => by kernel_rfl) (fun r => by kernel_rfl) trivial (by kernel_rfl) (by kernel_rfl) (fun r => rfl)
      · exact DOk.t rfl rfl (by kernel_rfl) (by kernel_rfl)
      · exact DOk.callA (caps := []) (xs := [cD (u6 2), cD (u6 0), cD (u6 2)]) (freshetlaw04_at_ok hr11) rfl (fun r => by kernel_rfl) rfl (fun r => by kernel_rfl) (fun r => by kernel_rfl) (fun r => (.cons (.refl _) (.cons (.refl _) (.cons (.refl _) .nil)))) rfl rfl (fun r => rfl)
      · exact DOk.callA (caps := []) (xs := [cD (lD 3 encTime r4), .agg (cTime r11)]) (moment_Beyond_ok hr12) rfl (fun r => by kernel_rfl) rfl (fun r => by kernel_rfl) (fun r => by kernel_rfl) (fun r => (.cons (.refl _) (.cons (.refl _) .nil))) rfl rfl (fun r => rfl)
      · exact DOk.t rfl rfl (by kernel_rfl) (by kernel_rfl)
      · exact DOk.stepP (fun b => .val (.c (.d (.bool b))) (True)) (p := r12) hp13 (fun r => by kernel_rfl) (fun r => by kernel_rfl) trivial (by kernel_rfl) (by kernel_rfl) (fun r => rfl)
      · exact DOk.skip (fun r => by kernel_rfl) rfl rfl (fun r => rfl)
      · exact DOk.skip (fun r => by kernel_rfl) rfl rfl (fun r => rfl)
      · exact DOk.skip (fun r => by kernel_rfl) rfl rfl (fun r => rfl)
      · exact DOk.skip (fun r => by kernel_rfl) rfl rfl (fun r => rfl)
      · exact DOk.t rfl rfl (by kernel_rfl) (by kernel_rfl)
      · exact DOk.t rfl rfl (by kernel_rfl) (by kernel_rfl)
      · exact DOk.skip (fun r => by kernel_rfl) rfl rfl (fun r => rfl)
      · exact DOk.skip (fun r => by kernel_rfl) rfl rfl (fun r => rfl)
      · exact DOk.skip (fun r => by kernel_rfl) rfl rfl (fun r => rfl)
      · exact DOk.skip (fun r => by kernel_rfl) rfl rfl (fun r => rfl)
      · exact DOk.skip (fun r => by kernel_rfl) rfl rfl (fun r => rfl)
      · exact DOk.skip (fun r => by kernel_rfl) rfl rfl (fun r => rfl)
      · exact DOk.t rfl rfl (by kernel_rfl) (by kernel_rfl)
      · exact DOk.t rfl rfl (by kernel_rfl) (by kernel_rfl)
      exact ⟨_, h, rfl⟩
    ·refine Tri.drawn (specs := [⟨⟨[(1, cD (lD 3 encTime r4))], []⟩, ⟨[(7, cD (lD 3 encTime r4))], []⟩, [], [], []⟩, ⟨⟨[(7, cD (lD 3 encTime r4))], []⟩, ⟨[(8, cD (i6 (r4.length : Int)))], []⟩, [], [], []⟩, ⟨⟨[(8, cD (i6 (r4.length : Int)))], []⟩, ⟨[(9, cD (.bool (decide ((r4.length : Int) = 2))))], []⟩, [], [], []⟩, ⟨⟨[(9, cD (.bool (decide ((r4.length : Int) = 2))))], []⟩, ⟨[(10, .c (.d (.bool true)))], []⟩, [], [], []⟩, ⟨⟨[(1, cD (lD 3 encTime r4)), (10, cD (.bool true))], []⟩, ⟨[(11, cD (lD 3 encTime r4))], []⟩, [], [], []⟩, ⟨⟨[(10, cD (.bool true)), (11, cD (lD 3 encTime r4))], []⟩, ⟨[(12, .c (.eptr [u6 ((r4.getD 0 default).epoch), u6 ((r4.getD 0 default).loop.1), u6 ((r4.getD 0 default).loop.2)]))], []⟩, [], [], []⟩, ⟨⟨[(10, cD (.bool true)), (12, .c (.eptr [u6 ((r4.getD 0 default).epoch), u6 ((r4.getD 0 default).loop.1), u6 ((r4.getD 0 default).loop.2)]))], []⟩, ⟨[(13, .agg (cTime (r4.getD 0 default)))], []⟩, [], [], []⟩, ⟨⟨[(10, cD (.bool true))], []⟩, ⟨[(14, .agg (cTime r9))], []⟩, [], [], []⟩, ⟨⟨[(10, cD (.bool true)), (13, .agg (cTime (r4.getD 0 default))), (14, .agg (cTime r9))], []⟩, ⟨[(15, cD (.bool (eqTime (r4.getD 0 default) r9)))], []⟩, [], [], []⟩, ⟨⟨[(10, cD (.bool true)), (15, cD (.bool (eqTime (r4.getD 0 default) r9)))], []⟩, ⟨[(16, cD (.bool (eqTime (r4.getD 0 default) r9)))], []⟩, [], [], []⟩, ⟨⟨[(16, cD (.bool (eqTime (r4.getD 0 default) r9)))], []⟩, ⟨[(17, .c (.d (.bool false)))], []⟩, [], [], []⟩, ⟨⟨[(1, cD (lD 3 encTime r4)), (17, cD (.bool false))], []⟩, ⟨[(18, .tup [])], []⟩, [], [], []⟩, ⟨⟨[(17, cD (.bool false))], []⟩, ⟨[(19, .tup [])], []⟩, [], [], []⟩, ⟨⟨[(17, cD (.bool false)), (18, .tup []), (19, .tup [])], []⟩, ⟨[(20, .tup [])], []⟩, [], [], []⟩, ⟨⟨[(17, cD (.bool false)), (20, .tup [])], []⟩, ⟨[(21, cD (.bool false))], []⟩, [], [], []⟩, ⟨⟨[(21, cD (.bool false))], []⟩, ⟨[(22, cD (.bool false))], []⟩, [], [], []⟩, ⟨⟨[(1, cD (lD 3 encTime r4)), (22, cD (.bool false))], []⟩, ⟨[(23, .tup [])], []⟩, [], [], []⟩, ⟨⟨[(22, cD (.bool false))], []⟩, ⟨[(24, .tup [])], []⟩, [], [], []⟩, ⟨⟨[(22, cD (.bool false)), (23, .tup []), (24, .tup [])], []⟩, ⟨[(25, .tup [])], []⟩, [], [], []⟩, ⟨⟨[(22, cD (.bool false)), (25, .tup [])], []⟩, ⟨[(26, .tup [])], []⟩, [], [], []⟩, ⟨⟨[(22, cD (.bool false)), (26, .tup [])], []⟩, ⟨[(27, cD (.bool false))], []⟩, [], [], []⟩, ⟨⟨[(27, cD (.bool false))], []⟩, ⟨[(28, cD (.bool false))], []⟩, [], [], []⟩, ⟨⟨[(28, cD (.bool false))], []⟩, ⟨[(29, .tup [])], []⟩, [], [], []⟩, ⟨⟨[(28, cD (.bool false))], []⟩, ⟨[(30, .tup [])], []⟩, [], [], []⟩, ⟨⟨[(28, cD (.bool false)), (30, .tup [])], []⟩, ⟨[(31, .tup [])], []⟩, [], [], []⟩, ⟨⟨[(28, cD (.bool false)), (29, .tup []), (31, .tup [])], []⟩, ⟨[(32, .tup [])], []⟩, [], [], []⟩, ⟨⟨[(28, cD (.bool false))], []⟩, ⟨[(33, .tup [])], []⟩, [], [], []⟩, ⟨⟨[(28, cD (.bool false)), (32, .tup []), (33, .tup [])], []⟩, ⟨[(34, .tup [])], []⟩, [], [], []⟩, ⟨⟨[(28, cD (.bool false)), (34, .tup [])], []⟩, ⟨[(35, cD (.bool false))], []⟩, [], [], []⟩, ⟨⟨[(35, cD (.bool false))], []⟩, ⟨[(0, cD (.bool false))], []⟩, [], [], []⟩]) (bef := [[], [0], [0, 1], [0, 1, 2], [0, 1, 2, 3], [0, 1, 2, 3, 4], [0, 1, 2, 3, 4, 5], [0, 1, 2, 3], [0, 1, 2, 3, 4, 5, 6, 7], [0, 1, 2, 3, 4, 5, 6, 7, 8], [0, 1, 2, 3, 4, 5, 6, 7, 8, 9], [0, 1, 2, 3, 4, 5, 6, 7, 8, 9, 10], [0, 1, 2, 3, 4, 5, 6, 7, 8, 9, 10], [0, 1, 2, 3, 4, 5, 6, 7, 8, 9, 10, 11, 12], [0, 1, 2, 3, 4, 5, 6, 7, 8, 9, 10, 11, 12, 13], [0, 1, 2, 3, 4, 5, 6, 7, 8, 9, 10, 11, 12, 13, 14], [0, 1, 2, 3, 4, 5, 6, 7, 8, 9, 10, 11, 12, 13, 14, 15], [0, 1, 2, 3, 4, 5, 6, 7, 8, 9, 10, 11, 12, 13, 14, 15], [0, 1, 2, 3, 4, 5, 6, 7, 8, 9, 10, 11, 12, 13, 14, 15, 16, 17], [0, 1, 2, 3, 4, 5, 6, 7, 8, 9, 10, 11, 12, 13, 14, 15, 16, 17, 18], [0, 1, 2, 3, 4, 5, 6, 7, 8, 9, 10, 11, 12, 13, 14, 15, 16, 17, 18, 19], [0, 1, 2, 3, 4, 5, 6, 7, 8, 9, 10, 11, 12, 13, 14, 15, 16, 17, 18, 19, 20], [0, 1, 2, 3, 4, 5, 6, 7, 8, 9, 10, 11, 12, 13, 14, 15, 16, 17, 18, 19, 20, 21], [0, 1, 2, 3, 4, 5, 6, 7, 8, 9, 10, 11, 12, 13, 14, 15, 16, 17, 18, 19, 20, 21, 22], [0, 1, 2, 3, 4, 5, 6, 7, 8, 9, 10, 11, 12, 13, 14, 15, 16, 17, 18, 19, 20, 21, 22, 23], [0, 1, 2, 3, 4, 5, 6, 7, 8, 9, 10, 11, 12, 13, 14, 15, 16, 17, 18, 19, 20, 21, 22, 23, 24], [0, 1, 2, 3, 4, 5, 6, 7, 8, 9, 10, 11, 12, 13, 14, 15, 16, 17, 18, 19, 20, 21, 22, 23, 24, 25], [0, 1, 2, 3, 4, 5, 6, 7, 8, 9, 10, 11, 12, 13, 14, 15, 16, 17, 18, 19, 20, 21, 22, 23, 24, 25, 26], [0, 1, 2, 3, 4, 5, 6, 7, 8, 9, 10, 11, 12, 13, 14, 15, 16, 17, 18, 19, 20, 21, 22, 23, 24, 25, 26, 27], [0, 1, 2, 3, 4, 5, 6, 7, 8, 9, 10, 11, 12, 13, 14, 15, 16, 17, 18, 19, 20, 21, 22, 23, 24, 25, 26, 27, 28]]) (tk := [0]) (sk := []) (s' := ⟨[(0, cD (.bool false))], []⟩) (by kernel_rfl) (by kernel_rfl) (by kernel_rfl) ⟨?_, ?_, ?_, ?_, ?_, ?_, ?_, ?_, ?_, ?_, ?_, ?_, ?_, ?_, ?_, ?_, ?_, ?_, ?_, ?_, ?_, ?_, ?_, ?_, ?_, ?_, ?_, ?_, ?_, ?_, trivial⟩ (by kernel_rfl) ?_
     · exact DOk.t rfl rfl (by kernel_rfl) (by kernel_rfl)
     · exact DOk.t rfl rfl (by kernel_rfl) (by kernel_rfl)
     · exact DOk.t rfl rfl (by kernel_rfl) (by kernel_rfl)
     · exact DOk.stepP (fun b => .val (.c (.d (.bool b))) (True)) (p := (decide ((r4.length : Int) = 2))) hp7 (fun r => by kernel_rfl) (fun r => by kernel_rfl) trivial (by kernel_rfl) (by kernel_rfl) (fun r => rfl)
     · exact DOk.t rfl rfl (by kernel_rfl) (by kernel_rfl)
     · exact DOk.step (.val (.c (.eptr [u6 ((r4.getD 0 default).epoch), u6 ((r4.getD 0 default).loop.1), u6 ((r4.getD 0 default).loop.2)])) ((0 : Int) ≤ 0 ∧ 0 < (r4.length : Int))) (fun r => by kernel_rfl) (fun r => by kernel_rfl) hc8 (by kernel_rfl) (by kernel_rfl) (fun r => rfl)
     · exact DOk.t rfl rfl (by kernel_rfl) (by kernel_rfl)
     · exact DOk.callA (caps := []) (xs := [cD (u6 1), cD (u6 0), cD (u6 2)]) (freshetlaw04_at_ok hr9) rfl (fun r => by kernel_rfl) rfl (fun r => by kernel_rfl) (fun r => by kernel_rfl) (fun r => (.cons (.refl _) (.cons (.refl _) (.cons (.refl _) .nil)))) rfl rfl (fun r => rfl)
     · exact DOk.one fun r _ => One.eql (b := (eqTime (r4.getD 0 default) r9)) (d := 9) rfl (by kernel_rfl) rfl (.inl rfl) rfl rfl (by kernel_rfl) rfl (by kernel_rfl)
     · exact DOk.t rfl rfl (by kernel_rfl) (by kernel_rfl)
     · exact DOk.stepP (fun b => .val (.c (.d (.bool b))) (True)) (p := (eqTime (r4.getD 0 default) r9)) hp10 (fun r => by kernel_rfl) (fun r => by kernel_rfl) trivial (by kernel_rfl) (by kernel_rfl) (fun r => rfl)
     · exact DOk.skip (fun r => by kernel_rfl) rfl rfl (fun r => rfl)
     · exact DOk.skip (fun r => by kernel_rfl) rfl rfl (fun r => rfl)
     · exact DOk.skip (fun r => by kernel_rfl) rfl rfl (fun r => rfl)
     · exact DOk.t rfl rfl (by kernel_rfl) (by kernel_rfl)
     · exact DOk.t rfl rfl (by kernel_rfl) (by kernel_rfl)
     · exact DOk.skip (fun r => by kernel_rfl) rfl rfl (fun r => rfl)
     · exact DOk.skip (fun r => by kernel_rfl) rfl rfl (fun r => rfl)
     · exact DOk.skip (fun r => by kernel_rfl) rfl rfl (fun r => rfl)
     · exact DOk.skip (fun r => by kernel_rfl) rfl rfl (fun r => rfl)
     · exact DOk.t rfl rfl (by kernel_rfl) (by kernel_rfl)
     · exact DOk.t rfl rfl (by kernel_rfl) (by kernel_rfl)
     · exact DOk.skip (fun r => by kernel_rfl) rfl rfl (fun r => rfl)
     · exact DOk.skip (fun r => by kernel_rfl) rfl rfl (fun r => rfl)
     · exact DOk.skip (fun r => by kernel_rfl) rfl rfl (fun r => rfl)
     · exact DOk.skip (fun r => by kernel_rfl) rfl rfl (fun r => rfl)
     · exact DOk.skip (fun r => by kernel_rfl) rfl rfl (fun r => rfl)
     · exact DOk.skip (fun r => by kernel_rfl) rfl rfl (fun r => rfl)
     · exact DOk.t rfl rfl (by kernel_rfl) (by kernel_rfl)
     · exact DOk.t rfl rfl (by kernel_rfl) (by kernel_rfl)
     exact ⟨_, h, rfl⟩
   ·refine Tri.drawn (specs := [⟨⟨[(1, cD (lD 3 encTime r4))], []⟩, ⟨[(7, cD (lD 3 encTime r4))], []⟩, [], [], []⟩, ⟨⟨[(7, cD (lD 3 encTime r4))], []⟩, ⟨[(8, cD (i6 (r4.length : Int)))], []⟩, [], [], []⟩, ⟨⟨[(8, cD (i6 (r4.length : Int)))], []⟩, ⟨[(9, cD (.bool (decide ((r4.length : Int) = 2))))], []⟩, [], [], []⟩, ⟨⟨[(9, cD (.bool (decide ((r4.length : Int) = 2))))], []⟩, ⟨[(10, .c (.d (.bool false)))], []⟩, [], [], []⟩, ⟨⟨[(1, cD (lD 3 encTime r4)), (10, cD (.bool false))], []⟩, ⟨[(11, .tup [])], []⟩, [], [], []⟩, ⟨⟨[(10, cD (.bool false)), (11, .tup [])], []⟩, ⟨[(12, .tup [])], []⟩, [], [], []⟩, ⟨⟨[(10, cD (.bool false)), (12, .tup [])], []⟩, ⟨[(13, .tup [])], []⟩, [], [], []⟩, ⟨⟨[(10, cD (.bool false))], []⟩, ⟨[(14, .tup [])], []⟩, [], [], []⟩, ⟨⟨[(10, cD (.bool false)), (13, .tup []), (14, .tup [])], []⟩, ⟨[(15, .tup [])], []⟩, [], [], []⟩, ⟨⟨[(10, cD (.bool false)), (15, .tup [])], []⟩, ⟨[(16, cD (.bool false))], []⟩, [], [], []⟩, ⟨⟨[(16, cD (.bool false))], []⟩, ⟨[(17, cD (.bool false))], []⟩, [], [], []⟩, ⟨⟨[(1, cD (lD 3 encTime r4)), (17, cD (.bool false))], []⟩, ⟨[(18, .tup [])], []⟩, [], [], []⟩, ⟨⟨[(17, cD (.bool false))], []⟩, ⟨[(19, .tup [])], []⟩, [], [], []⟩, ⟨⟨[(17, cD (.bool false)), (18, .tup []), (19, .tup [])], []⟩, ⟨[(20, .tup [])], []⟩, [], [], []⟩, ⟨⟨[(17, cD (.bool false)), (20, .tup [])], []⟩, ⟨[(21, cD (.bool false))], []⟩, [], [], []⟩, ⟨⟨[(21, cD (.bool false))], []⟩, ⟨[(22, cD (.bool false))], []⟩, [], [], []⟩, ⟨⟨[(1, cD (lD 3 encTime r4)), (22, cD (.bool false))], []⟩, ⟨[(23, .tup [])], []⟩, [], [], []⟩, ⟨⟨[(22, cD (.bool false))], []⟩, ⟨[(24, .tup [])], []⟩, [], [], []⟩, ⟨⟨[(22, cD (.bool false)), (23, .tup []), (24, .tup [])], []⟩, ⟨[(25, .tup [])], []⟩, [], [], []⟩, ⟨⟨[(22, cD (.bool false)), (25, .tup [])], []⟩, ⟨[(26, .tup [])], []⟩, [], [], []⟩, ⟨⟨[(22, cD (.bool false)), (26, .tup [])], []⟩, ⟨[(27, cD (.bool false))], []⟩, [], [], []⟩, ⟨⟨[(27, cD (.bool false))], []⟩, ⟨[(28, cD (.bool false))], []⟩, [], [], []⟩, ⟨⟨[(28, cD (.bool false))], []⟩, ⟨[(29, .tup [])], []⟩, [], [], []⟩, ⟨⟨[(28, cD (.bool false))], []⟩, ⟨[(30, .tup [])], []⟩, [], [], []⟩, ⟨⟨[(28, cD (.bool false)), (30, .tup [])], []⟩, ⟨[(31, .tup [])], []⟩, [], [], []⟩, ⟨⟨[(28, cD (.bool false)), (29, .tup []), (31, .tup [])], []⟩, ⟨[(32, .tup [])], []⟩, [], [], []⟩, ⟨⟨[(28, cD (.bool false))], []⟩, ⟨[(33, .tup [])], []⟩, [], [], []⟩, ⟨⟨[(28, cD (.bool false)), (32, .tup []), (33, .tup [])], []⟩, ⟨[(34, .tup [])], []⟩, [], [], []⟩, ⟨⟨[(28, cD (.bool false)), (34, .tup [])], []⟩, ⟨[(35, cD (.bool false))], []⟩, [], [], []⟩, ⟨⟨[(35, cD (.bool false))], []⟩, ⟨[(0, cD (.bool false))], []⟩, [], [], []⟩]) (bef := [[], [0], [0, 1], [0, 1, 2], [0, 1, 2, 3], [0, 1, 2, 3, 4], [0, 1, 2, 3, 4, 5], [0, 1, 2, 3], [0, 1, 2, 3, 4, 5, 6, 7], [0, 1, 2, 3, 4, 5, 6, 7, 8], [0, 1, 2, 3, 4, 5, 6, 7, 8, 9], [0, 1, 2, 3, 4, 5, 6, 7, 8, 9, 10], [0, 1, 2, 3, 4, 5, 6, 7, 8, 9, 10], [0, 1, 2, 3, 4, 5, 6, 7, 8, 9, 10, 11, 12], [0, 1, 2, 3, 4, 5, 6, 7, 8, 9, 10, 11, 12, 13], [0, 1, 2, 3, 4, 5, 6, 7, 8, 9, 10, 11, 12, 13, 14], [0, 1, 2, 3, 4, 5, 6, 7, 8, 9, 10, 11, 12, 13, 14, 15], [0, 1, 2, 3, 4, 5, 6, 7, 8, 9, 10, 11, 12, 13, 14, 15], [0, 1, 2, 3, 4, 5, 6, 7, 8, 9, 10, 11, 12, 13, 14, 15, 16, 17], [0, 1, 2, 3, 4, 5, 6, 7, 8, 9, 10, 11, 12, 13, 14, 15, 16, 17, 18], [0, 1, 2, 3, 4, 5, 6, 7, 8, 9, 10, 11, 12, 13, 14, 15, 16, 17, 18, 19], [0, 1, 2, 3, 4, 5, 6, 7, 8, 9, 10, 11, 12, 13, 14, 15, 16, 17, 18, 19, 20], [0, 1, 2, 3, 4, 5, 6, 7, 8, 9, 10, 11, 12, 13, 14, 15, 16, 17, 18, 19, 20, 21], [0, 1, 2, 3, 4, 5, 6, 7, 8, 9, 10, 11, 12, 13, 14, 15, 16, 17, 18, 19, 20, 21, 22], [0, 1, 2, 3, 4, 5, 6, 7, 8, 9, 10, 11, 12, 13, 14, 15, 16, 17, 18, 19, 20, 21, 22, 23], [0, 1, 2, 3, 4, 5, 6, 7, 8, 9, 10, 11, 12, 13, 14, 15, 16, 17, 18, 19, 20, 21, 22, 23, 24], [0, 1, 2, 3, 4, 5, 6, 7, 8, 9, 10, 11, 12, 13, 14, 15, 16, 17, 18, 19, 20, 21, 22, 23, 24, 25], [0, 1, 2, 3, 4, 5, 6, 7, 8, 9, 10, 11, 12, 13, 14, 15, 16, 17, 18, 19, 20, 21, 22, 23, 24, 25, 26], [0, 1, 2, 3, 4, 5, 6, 7, 8, 9, 10, 11, 12, 13, 14, 15, 16, 17, 18, 19, 20, 21, 22, 23, 24, 25, 26, 27], [0, 1, 2, 3, 4, 5, 6, 7, 8, 9, 10, 11, 12, 13, 14, 15, 16, 17, 18, 19, 20, 21, 22, 23, 24, 25, 26, 27, 28]]) (tk := [0]) (sk := []) (s' := ⟨[(0, cD (.bool false))], []⟩) (by kernel_rfl) (by kernel_rfl) (by kernel_rfl) ⟨?_, ?_, ?_, ?_, ?_, ?_, ?_, ?_, ?_, ?_, ?_, ?_, ?_, ?_, ?_, ?_, ?_, ?_, ?_, ?_, ?_, ?_, ?_, ?_, ?_, ?_, ?_, ?_, ?_, ?_, trivial⟩ (by kernel_rfl) ?_
    · exact DOk.t rfl rfl (by kernel_rfl) (by kernel_rfl)
    · exact DOk.t rfl rfl (by kernel_rfl) (by kernel_rfl)
    · exact DOk.t rfl rfl (by kernel_rfl) (by kernel_rfl)
    · exact DOk.stepP (fun b => .val (.c (.d (.bool b))) (True)) (p := (decide ((r4.length : Int) = 2))) hp7 (fun r => by kernel_rfl) (fun r => by kernel_rfl) trivial (by kernel_rfl) (by kernel_rfl) (fun r => rfl)
    · exact DOk.skip (fun r => by kernel_rfl) rfl rfl (fun r => rfl)
    · exact DOk.skip (fun r => by kernel_rfl) rfl rfl (fun r => rfl)
    · exact DOk.skip (fun r => by kernel_rfl) rfl rfl (fun r => rfl)
    · exact DOk.skip (fun r => by kernel_rfl) rfl rfl (fun r => rfl)
    · exact DOk.skip (fun r => by kernel_rfl) rfl rfl (fun r => rfl)
    · exact DOk.t rfl rfl (by kernel_rfl) (by kernel_rfl)
    · exact DOk.t rfl rfl (by kernel_rfl) (by kernel_rfl)
    · exact DOk.skip (fun r => by kernel_rfl) rfl rfl (fun r => rfl)
    · exact DOk.skip (fun r => by kernel_rfl) rfl rfl (fun r => rfl)
    · exact DOk.skip (fun r => by kernel_rfl) rfl rfl (fun r => rfl)
    · exact DOk.t rfl rfl (by kernel_rfl) (by kernel_rfl)
    · exact DOk.t rfl rfl (by kernel_rfl) (by kernel_rfl)
    · exact DOk.skip (fun r => by kernel_rfl) rfl rfl (fun r => rfl)
    · exact DOk.skip (fun r => by kernel_rfl) rfl rfl (fun r => rfl)
    · exact DOk.skip (fun r => by kernel_rfl) rfl rfl (fun r => rfl)
    · exact DOk.skip (fun r => by kernel_rfl) rfl rfl (fun r => rfl)
    · exact DOk.t rfl rfl (by kernel_rfl) (by kernel_rfl)
    · exact DOk.t rfl rfl (by kernel_rfl) (by kernel_rfl)
    · exact DOk.skip (fun r => by kernel_rfl) rfl rfl (fun r => rfl)
    · exact DOk.skip (fun r => by kernel_rfl) rfl rfl (fun r => rfl)
    · exact DOk.skip (fun r => by kernel_rfl) rfl rfl (fun r => rfl)
    · exact DOk.skip (fun r => by kernel_rfl) rfl rfl (fun r => rfl)
    · exact DOk.skip (fun r => by kernel_rfl) rfl rfl (fun r => rfl)
    · exact DOk.skip (fun r => by kernel_rfl) rfl rfl (fun r => rfl)
    · exact DOk.t rfl rfl (by kernel_rfl) (by kernel_rfl)
    · exact DOk.t rfl rfl (by kernel_rfl) (by kernel_rfl)
    exact ⟨_, h, rfl⟩

set_option maxRecDepth 100000 in
theorem freshetref04_Same_ok {p0 : List Time} {p1 : List Time} {q : Bool} (h : freshetref04_Same p0 p1 = some q) :
    Summ Try.prog 26 [cD (lD 3 encTime p0), cD (lD 3 encTime p1)] [] (cD (.bool q)) [] := by
  refine Summ.intro Try.func26 rfl (by kernel_rfl) (by kernel_rfl) [] rfl ?_
  rintro ⟨P, w0, G0, V, LL, lk, N, φ0, fx⟩ rfl rfl rfl rfl
  unfold freshetref04_Same at h
  refine Tri.seqS ?_
  refine Tri.reg ?_
  refine At.seg 1 [0, 1] [] (s' := ⟨[(0, cD (lD 3 encTime p0)), (1, cD (lD 3 encTime p1))], []⟩) (c := True ∧ True) (by kernel_rfl) ⟨trivial, trivial⟩ ?_
  refine At.done rfl ?_
  show Tri _ _ _ _
  refine Tri.seqS ?_
  refine Tri.seqS ?_
  refine Tri.reg ?_
  refine At.seg 5 [0, 1, 10] [] (s' := ⟨[(0, cD (lD 3 encTime p0)), (1, cD (lD 3 encTime p1)), (10, cD (.bool (!decide ((p0.length : Int) = (p1.length : Int)))))], []⟩) (c := True ∧ True ∧ True ∧ True ∧ True ∧ True) (by kernel_rfl) ⟨trivial, trivial, trivial, trivial, trivial, trivial⟩ ?_
  refine At.done rfl ?_
  show Tri _ _ _ _
  refine Tri.condP (b := (!decide ((p0.length : Int) = (p1.length : Int)))) rfl h (fun h => ?_) (fun h => ?_)
  ·refine Tri.seqS ?_
   refine Tri.reg ?_
   refine At.seg 1 [4] [] (s' := ⟨[(4, cD (.bool false))], []⟩) (c := True ∧ True) (by kernel_rfl) ⟨trivial, trivial⟩ ?_
   refine At.done rfl ?_
   show Tri _ _ _ _
   refine Tri.keep [4] [] (s' := ⟨[(4, cD (.bool false))], []⟩) (by kernel_rfl) ?_
   refine Tri.ret ?_
   cases h
   refine ⟨_, _, rfl, ⟨trivial, trivial⟩, rfl, rfl, ?_⟩
   intro k c h
   cases h
  ·refine Tri.skip ?_
   show Tri _ _ _ _
   refine Tri.seqS ?_
   refine Tri.seqS ?_
   refine Tri.reg ?_
   refine At.seg 3 [0, 1, 12, 13] [] (s' := ⟨[(0, cD (lD 3 encTime p0)), (1, cD (lD 3 encTime p1)), (12, cD (i6 (p0.length : Int))), (13, cD (i6 0))], []⟩) (c := True ∧ True ∧ True ∧ True) (by kernel_rfl) ⟨trivial, trivial, trivial, trivial⟩ ?_
   refine At.done rfl ?_
   show Tri _ _ _ _
   refine Tri.lenOf (t := 0) rfl fun hlena2 => ?_
   refine Tri.keep [13, 0, 1, 12] [] (s' := idx 13 0 ⟨[(0, cD (lD 3 encTime p0)), (1, cD (lD 3 encTime p1)), (12, cD (i6 (p0.length : Int)))], []⟩) (by kernel_rfl) ?_
   refine Tri.range (n := p0.length) (st0 := ()) (fun (x : Bool) s => RetAt Try.prog Try.f26 (cD (.bool x)) [] s) (fun (a2 : Unit) => ⟨[(0, cD (lD 3 encTime p0)), (1, cD (lD 3 encTime p1)), (12, cD (i6 (p0.length : Int)))], []⟩) (fun (a2 : Unit) => ⟨[(0, cD (lD 3 encTime p0)), (1, cD (lD 3 encTime p1)), (12, cD (i6 (p0.length : Int)))], []⟩) (fun i => decide ((i : Int) < (p0.length : Int))) [14, 13, 0, 1, 12] [] [0, 1, 12] [] [13, 0, 1, 12] [] h hlena2 rfl ?_ ?_ ?_ ?_ ?_ ?_ ?_ ?_
   · exact fun i a => ⟨True ∧ True, by kernel_rfl, ⟨trivial, trivial⟩⟩
   · exact fun i hi => decide_eq_true (by omega)
   · exact decide_eq_false (by omega)
   · exact fun a => by kernel_rfl
   · exact fun i a => ⟨True ∧ True ∧ True, by kernel_rfl, ⟨trivial, trivial, trivial⟩⟩
   ·intro i1 a2 c hii1 h
    refine Tri.seqS ?_
    refine Tri.reg ?_
    refine At.seg 2 [0, 1, 5, 12, 13] [] (s' := ⟨[(0, cD (lD 3 encTime p0)), (1, cD (lD 3 encTime p1)), (5, cD (i6 ((i1 : Nat) : Int))), (12, cD (i6 (p0.length : Int))), (13, cD (i6 ((i1 : Nat) : Int)))], []⟩) (c := True ∧ True ∧ True) (by kernel_rfl) ⟨trivial, trivial, trivial⟩ ?_
    refine At.done rfl ?_
    show Tri _ _ _ _
    refine Tri.seqS ?_
    obtain ⟨hc4, h⟩ := need_elim h
    refine Tri.drawn (specs := [⟨⟨[(0, cD (lD 3 encTime p0))], []⟩, ⟨[(16, cD (lD 3 encTime p0))], []⟩, [], [], []⟩, ⟨⟨[(5, cD (i6 ((i1 : Nat) : Int)))], []⟩, ⟨[(17, cD (i6 ((i1 : Nat) : Int)))], []⟩, [], [], []⟩, ⟨⟨[(16, cD (lD 3 encTime p0)), (17, cD (i6 ((i1 : Nat) : Int)))], []⟩, ⟨[(18, .c (.eptr [u6 ((p0.getD i1 default).epoch), u6 ((p0.getD i1 default).loop.1), u6 ((p0.getD i1 default).loop.2)]))], []⟩, [], [], []⟩, ⟨⟨[(18, .c (.eptr [u6 ((p0.getD i1 default).epoch), u6 ((p0.getD i1 default).loop.1), u6 ((p0.getD i1 default).loop.2)]))], []⟩, ⟨[(19, .agg (cTime (p0.getD i1 default)))], []⟩, [], [], []⟩, ⟨⟨[(1, cD (lD 3 encTime p1))], []⟩, ⟨[(20, cD (lD 3 encTime p1))], []⟩, [], [], []⟩, ⟨⟨[(5, cD (i6 ((i1 : Nat) : Int)))], []⟩, ⟨[(21, cD (i6 ((i1 : Nat) : Int)))], []⟩, [], [], []⟩, ⟨⟨[(20, cD (lD 3 encTime p1)), (21, cD (i6 ((i1 : Nat) : Int)))], []⟩, ⟨[(22, .c (.eptr [u6 ((p1.getD i1 default).epoch), u6 ((p1.getD i1 default).loop.1), u6 ((p1.getD i1 default).loop.2)]))], []⟩, [], [], []⟩, ⟨⟨[(22, .c (.eptr [u6 ((p1.getD i1 default).epoch), u6 ((p1.getD i1 default).loop.1), u6 ((p1.getD i1 default).loop.2)]))], []⟩, ⟨[(23, .agg (cTime (p1.getD i1 default)))], []⟩, [], [], []⟩, ⟨⟨[(19, .agg (cTime (p0.getD i1 default))), (23, .agg (cTime (p1.getD i1 default)))], []⟩, ⟨[(24, cD (.bool (!(eqTime (p0.getD i1 default) (p1.getD i1 default)))))], []⟩, [], [], []⟩]) (bef := [[], [], [0, 1], [0, 1, 2], [], [], [4, 5], [4, 5, 6], [0, 1, 2, 3, 4, 5, 6, 7]]) (tk := [0, 1, 12, 13, 24]) (sk := []) (s' := ⟨[(0, cD (lD 3 encTime p0)), (1, cD (lD 3 encTime p1)), (12, cD (i6 (p0.length : Int))), (13, cD (i6 ((i1 : Nat) : Int))), (24, cD (.bool (!(eqTime (p0.getD i1 default) (p1.getD i1 default)))))], []⟩) (by kernel_rfl) (by kernel_rfl) (by kernel_rfl) ⟨?_, ?_, ?_, ?_, ?_, ?_, ?_, ?_, ?_, trivial⟩ (by kernel_rfl) ?_
    · exact DOk.t rfl rfl (by kernel_rfl) (by kernel_rfl)
    · exact DOk.t rfl rfl (by kernel_rfl) (by kernel_rfl)
    · exact DOk.step (.val (.c (.eptr [u6 ((p0.getD i1 default).epoch), u6 ((p0.getD i1 default).loop.1), u6 ((p0.getD i1 default).loop.2)])) ((0 : Int) ≤ ((i1 : Nat) : Int) ∧ ((i1 : Nat) : Int) < (p0.length : Int))) (fun r => by kernel_rfl) (fun r => by kernel_rfl) ⟨by omega, by omega⟩ (by kernel_rfl) (by kernel_rfl) (fun r => rfl)
    · exact DOk.t rfl rfl (by kernel_rfl) (by kernel_rfl)
    · exact DOk.t rfl rfl (by kernel_rfl) (by kernel_rfl)
    · exact DOk.t rfl rfl (by kernel_rfl) (by kernel_rfl)
    · exact DOk.step (.val (.c (.eptr [u6 ((p1.getD i1 default).epoch), u6 ((p1.getD i1 default).loop.1), u6 ((p1.getD i1 default).loop.2)])) ((0 : Int) ≤ ((i1 : Nat) : Int) ∧ ((i1 : Nat) : Int) < (p1.length : Int))) (fun r => by kernel_rfl) (fun r => by kernel_rfl) hc4 (by kernel_rfl) (by kernel_rfl) (fun r => rfl)
    · exact DOk.t rfl rfl (by kernel_rfl) (by kernel_rfl)
    · exact DOk.one fun r _ => One.eql (b := (eqTime (p0.getD i1 default) (p1.getD i1 default))) (d := 9) rfl (by kernel_rfl) rfl (.inr rfl) rfl rfl (by kernel_rfl) rfl (by kernel_rfl)
    show Tri _ _ _ _
    refine Tri.condP (b := (!(eqTime (p0.getD i1 default) (p1.getD i1 default)))) rfl h (fun h => ?_) (fun h => ?_)
    ·refine Tri.seqS ?_
     refine Tri.reg ?_
     refine At.seg 1 [4] [] (s' := ⟨[(4, cD (.bool false))], []⟩) (c := True ∧ True) (by kernel_rfl) ⟨trivial, trivial⟩ ?_
     refine At.done rfl ?_
     show Tri _ _ _ _
     refine Tri.keep [4] [] (s' := ⟨[(4, cD (.bool false))], []⟩) (by kernel_rfl) ?_
     refine Tri.ret ?_
     cases h
     refine ⟨_, _, rfl, ⟨trivial, trivial⟩, rfl, rfl, ?_⟩
     intro k c h
     cases h
    ·refine Tri.keep [13, 0, 1, 12] [] (s' := ⟨[(13, cD (i6 ((i1 : Nat) : Int))), (0, cD (lD 3 encTime p0)), (1, cD (lD 3 encTime p1)), (12, cD (i6 (p0.length : Int)))], []⟩) (by kernel_rfl) ?_
     refine Tri.skip ?_
     cases h
     exact rfl
   ·intro a3 h
    show Tri _ _ _ _
    refine Tri.seqS ?_
    refine Tri.reg ?_
    refine At.seg 1 [4] [] (s' := ⟨[(4, cD (.bool true))], []⟩) (c := True ∧ True) (by kernel_rfl) ⟨trivial, trivial⟩ ?_
    refine At.done rfl ?_
    show Tri _ _ _ _
    refine Tri.keep [4] [] (s' := ⟨[(4, cD (.bool true))], []⟩) (by kernel_rfl) ?_
    refine Tri.ret ?_
    cases h
    refine ⟨_, _, rfl, ⟨trivial, trivial⟩, rfl, rfl, ?_⟩
    intro k c h
    cases h
   · exact fun x s hx hr => by cases hx; exact hr

set_option maxRecDepth 100000 in
theorem moment_Advance_ok {p0 : Time} {p1 : List Time} {q : Time} (h : moment_Advance p0 p1 = some q) :
    Summ Try.prog 31 [.agg (cTime p0), cD (lD 3 encTime p1)] [] (.agg (cTime q)) [] := by
  refine Summ.intro Try.func31 rfl (by kernel_rfl) (by kernel_rfl) [] rfl ?_
  rintro ⟨P, w0, G0, V, LL, lk, N, φ0, fx⟩ rfl rfl rfl rfl
  unfold moment_Advance at h
  refine Tri.seqS ?_
  refine Tri.reg ?_
  refine At.seg 2 [1, 2, 4] [2, 4] (s' := ⟨[(1, cD (lD 3 encTime p1)), (2, .c (.ptr 2 0)), (4, .c (.ptr 4 0))], [(2, .box (cTime p0)), (4, .box [.d (u6 0), .d (u6 0), .d (u6 0)])]⟩) (c := True ∧ True ∧ True) (by kernel_rfl) ⟨trivial, trivial, trivial⟩ ?_
  refine At.done rfl ?_
  show Tri _ _ _ _
  refine Tri.seqS ?_
  refine Tri.seqS ?_
  refine Tri.reg ?_
  refine At.seg 3 [1, 2, 4, 10] [2, 4] (s' := ⟨[(1, cD (lD 3 encTime p1)), (2, .c (.ptr 2 0)), (4, .c (.ptr 4 0)), (10, cD (.bool (decide ((p1.length : Int) = 0))))], [(2, .box (cTime p0)), (4, .box [.d (u6 0), .d (u6 0), .d (u6 0)])]⟩) (c := True ∧ True ∧ True ∧ True) (by kernel_rfl) ⟨trivial, trivial, trivial, trivial⟩ ?_
  refine At.done rfl ?_
  show Tri _ _ _ _
  refine Tri.condP (b := (decide ((p1.length : Int) = 0))) rfl h (fun h => ?_) (fun h => ?_)
  ·refine Tri.seqS ?_
   refine Tri.reg ?_
   refine At.seg 2 [4] [4] (s' := ⟨[(4, .c (.ptr 4 0))], [(4, .box (cTime p0))]⟩) (c := True ∧ True ∧ True) (by kernel_rfl) ⟨trivial, trivial, trivial⟩ ?_
   refine At.done rfl ?_
   show Tri _ _ _ _
   refine Tri.keep [4] [4] (s' := ⟨[(4, .c (.ptr 4 0))], [(4, .box (cTime p0))]⟩) (by kernel_rfl) ?_
   refine Tri.ret ?_
   cases h
   refine ⟨_, _, rfl, ⟨trivial, trivial⟩, rfl, rfl, ?_⟩
   intro k c h
   cases h
  ·refine Tri.skip ?_
   show Tri _ _ _ _
   refine Tri.seqS ?_
   refine Tri.reg ?_
   refine At.seg 2 [1, 2, 4, 13] [2, 4] (s' := ⟨[(1, cD (lD 3 encTime p1)), (2, .c (.ptr 2 0)), (4, .c (.ptr 4 0)), (13, cD (i6 (p1.length : Int)))], [(2, .box (cTime p0)), (4, .box [.d (u6 0), .d (u6 0), .d (u6 0)])]⟩) (c := True ∧ True ∧ True) (by kernel_rfl) ⟨trivial, trivial, trivial⟩ ?_
   obtain ⟨hc1, h⟩ := need_elim h
   refine At.one rfl (One.makeT (e := 27) (es := 3) (bs := 24) (n := (p1.length : Int)) (c := (p1.length : Int)) (z := [.d (u6 0), .d (u6 0), .d (u6 0)]) (encTime) ((⟨0, (0, 0)⟩ : Time) : Time) rfl rfl rfl rfl (by kernel_rfl) rfl rfl rfl (by kernel_rfl) rfl (by kernel_rfl) rfl (.refl _) rfl rfl rfl hc1.1 hc1.2.1 hc1.2.2 rfl) ?_
   refine At.seg 1 [1, 2, 4, 5] [2, 4, 14] (s' := ⟨[(1, cD (lD 3 encTime p1)), (2, .c (.ptr 2 0)), (4, .c (.ptr 4 0)), (5, .c (oC 14 3 (List.replicate p1.length ((⟨0, (0, 0)⟩ : Time) : Time))))], [(2, .box (cTime p0)), (4, .box [.d (u6 0), .d (u6 0), .d (u6 0)]), (14, vL 3 encTime (List.replicate p1.length ((⟨0, (0, 0)⟩ : Time) : Time)))]⟩) (c := True ∧ True) (by kernel_rfl) ⟨trivial, trivial⟩ ?_
   refine At.done rfl ?_
   show Tri _ _ _ _
   refine Tri.seqS ?_
   refine Tri.seqS ?_
   refine Tri.reg ?_
   refine At.seg 3 [2, 4, 5, 15, 16, 17] [2, 4, 14] (s' := ⟨[(2, .c (.ptr 2 0)), (4, .c (.ptr 4 0)), (5, .c (oC 14 3 (List.replicate p1.length ((⟨0, (0, 0)⟩ : Time) : Time)))), (15, cD (lD 3 encTime p1)), (16, cD (i6 (p1.length : Int))), (17, cD (i6 0))], [(2, .box (cTime p0)), (4, .box [.d (u6 0), .d (u6 0), .d (u6 0)]), (14, vL 3 encTime (List.replicate p1.length ((⟨0, (0, 0)⟩ : Time) : Time)))]⟩) (c := True ∧ True ∧ True ∧ True) (by kernel_rfl) ⟨trivial, trivial, trivial, trivial⟩ ?_
   refine At.done rfl ?_
   show Tri _ _ _ _
   refine Tri.lenOf (t := 15) rfl fun hlena3 => ?_
   refine Tri.keep [17, 2, 4, 5, 15, 16] [2, 4, 14] (s' := idx 17 0 ⟨[(2, .c (.ptr 2 0)), (4, .c (.ptr 4 0)), (5, .c (oC 14 3 (List.replicate p1.length ((⟨0, (0, 0)⟩ : Time) : Time)))), (15, cD (lD 3 encTime p1)), (16, cD (i6 (p1.length : Int)))], [(2, .box (cTime p0)), (4, .box [.d (u6 0), .d (u6 0), .d (u6 0)]), (14, vL 3 encTime (List.replicate p1.length ((⟨0, (0, 0)⟩ : Time) : Time)))]⟩) (by kernel_rfl) ?_
   refine Tri.range (n := p1.length) (st0 := (List.replicate p1.length ((⟨0, (0, 0)⟩ : Time) : Time))) (fun (x : Empty) s => False) (fun (a3 : List Time) => ⟨[(2, .c (.ptr 2 0)), (4, .c (.ptr 4 0)), (5, .c (oC 14 3 a3)), (15, cD (lD 3 encTime p1)), (16, cD (i6 (p1.length : Int)))], [(2, .box (cTime p0)), (4, .box [.d (u6 0), .d (u6 0), .d (u6 0)]), (14, vL 3 encTime a3)]⟩) (fun (a3 : List Time) => ⟨[(2, .c (.ptr 2 0)), (4, .c (.ptr 4 0)), (5, .c (oC 14 3 a3)), (15, cD (lD 3 encTime p1)), (16, cD (i6 (p1.length : Int)))], [(2, .box (cTime p0)), (4, .box [.d (u6 0), .d (u6 0), .d (u6 0)]), (14, vL 3 encTime a3)]⟩) (fun i => decide ((i : Int) < (p1.length : Int))) [18, 17, 2, 4, 5, 15, 16] [2, 4, 14] [2, 4, 5, 15, 16] [2, 4, 14] [17, 2, 4, 5, 15, 16] [2, 4, 14] h hlena3 rfl ?_ ?_ ?_ ?_ ?_ ?_ ?_ ?_
   · exact fun i a => ⟨True ∧ True, by kernel_rfl, ⟨trivial, trivial⟩⟩
   · exact fun i hi => decide_eq_true (by omega)
   · exact decide_eq_false (by omega)
   · exact fun a => by kernel_rfl
   · exact fun i a => ⟨True ∧ True ∧ True, by kernel_rfl, ⟨trivial, trivial, trivial⟩⟩
   ·intro i2 a3 c hii2 h
    refine Tri.seqS ?_
    refine Tri.reg ?_
    refine At.seg 6 [2, 4, 5, 6, 7, 15, 16, 17] [2, 4, 7, 14] (s' := ⟨[(2, .c (.ptr 2 0)), (4, .c (.ptr 4 0)), (5, .c (oC 14 3 a3)), (6, cD (i6 ((i2 : Nat) : Int))), (7, .c (.ptr 7 0)), (15, cD (lD 3 encTime p1)), (16, cD (i6 (p1.length : Int))), (17, cD (i6 ((i2 : Nat) : Int)))], [(2, .box (cTime p0)), (4, .box [.d (u6 0), .d (u6 0), .d (u6 0)]), (7, .box (cTime (p1.getD i2 default))), (14, vL 3 encTime a3)]⟩) (c := True ∧ ((0 : Int) ≤ ((i2 : Nat) : Int) ∧ ((i2 : Nat) : Int) < (p1.length : Int)) ∧ True ∧ True ∧ True ∧ True ∧ True) (by kernel_rfl) ⟨trivial, ⟨by omega, by omega⟩, trivial, trivial, trivial, trivial, trivial⟩ ?_
    refine At.done rfl ?_
    show Tri _ _ _ _
    refine Tri.reg ?_
    refine At.seg 4 [2, 4, 5, 15, 16, 17, 22, 23, 24, 25] [2, 4, 14] (s' := ⟨[(2, .c (.ptr 2 0)), (4, .c (.ptr 4 0)), (5, .c (oC 14 3 a3)), (15, cD (lD 3 encTime p1)), (16, cD (i6 (p1.length : Int))), (17, cD (i6 ((i2 : Nat) : Int))), (22, .c (oC 14 3 a3)), (23, cD (i6 ((i2 : Nat) : Int))), (24, .agg (cTime p0)), (25, .agg (cTime (p1.getD i2 default)))], [(2, .box (cTime p0)), (4, .box [.d (u6 0), .d (u6 0), .d (u6 0)]), (14, vL 3 encTime a3)]⟩) (c := True ∧ True ∧ True ∧ True ∧ True) (by kernel_rfl) ⟨trivial, trivial, trivial, trivial, trivial⟩ ?_
    refine At.one rfl (One.buildSlice (z := [.d (u6 0), .d (u6 0), .d (u6 0)]) (cells := [.d (u6 p0.epoch), .d (u6 p0.loop.1), .d (u6 p0.loop.2), .d (u6 ((p1.getD i2 default).epoch)), .d (u6 ((p1.getD i2 default).loop.1)), .d (u6 ((p1.getD i2 default).loop.2))]) (xs := List.map (encTime) ([p0, (p1.getD i2 default)] : List Time)) rfl rfl rfl rfl (by kernel_rfl) rfl rfl (by kernel_rfl) rfl rfl rfl (by kernel_rfl) rfl ⟨⟨rfl, .refl _⟩, ⟨rfl, .refl _⟩, trivial⟩) ?_
    refine At.le [26] (fun k hk h => by first | (cases h; done) | (simp at hk h; omega)) ⟨[(26, cD (lD 3 encTime ([p0, (p1.getD i2 default)] : List Time))), (2, .c (.ptr 2 0)), (4, .c (.ptr 4 0)), (5, .c (oC 14 3 a3)), (15, cD (lD 3 encTime p1)), (16, cD (i6 (p1.length : Int))), (17, cD (i6 ((i2 : Nat) : Int))), (22, .c (oC 14 3 a3)), (23, cD (i6 ((i2 : Nat) : Int))), (24, .agg (cTime p0)), (25, .agg (cTime (p1.getD i2 default)))], [(2, .box (cTime p0)), (4, .box [.d (u6 0), .d (u6 0), .d (u6 0)]), (14, vL 3 encTime a3)]⟩ ⟨⟨_, rfl, .c (.own rfl (List.mem_singleton.2 rfl) (Nat.le_of_ble_eq_true rfl) rfl (encs_getD (encTime) ([p0, (p1.getD i2 default)] : List Time)))⟩, ⟨_, rfl, .refl _⟩, ⟨_, rfl, .refl _⟩, ⟨_, rfl, .refl _⟩, ⟨_, rfl, .refl _⟩, ⟨_, rfl, .refl _⟩, ⟨_, rfl, .refl _⟩, ⟨_, rfl, .refl _⟩, ⟨_, rfl, .refl _⟩, ⟨_, rfl, .refl _⟩, ⟨_, rfl, .refl _⟩, trivial⟩ ⟨⟨_, rfl, .refl _, (by simp)⟩, ⟨_, rfl, .refl _, (by simp)⟩, ⟨_, rfl, .refl _, (by simp)⟩, trivial⟩ ?_
    obtain ⟨r6, hr6, h⟩ := bind_elim h
    refine At.callA (caps := []) (xs := [cD (lD 3 encTime ([p0, (p1.getD i2 default)] : List Time))]) (moment_Lub_ok hr6) rfl rfl rfl rfl rfl rfl (.cons (.refl _) .nil) rfl rfl ?_
    obtain ⟨hc7, h⟩ := need_elim h
    refine At.seg 1 [2, 4, 5, 15, 16, 17, 27, 28] [2, 4, 14] (s' := ⟨[(2, .c (.ptr 2 0)), (4, .c (.ptr 4 0)), (5, .c (oC 14 3 a3)), (15, cD (lD 3 encTime p1)), (16, cD (i6 (p1.length : Int))), (17, cD (i6 ((i2 : Nat) : Int))), (27, .agg (cTime r6)), (28, .c (.vptr 14 3 (0 + i2) 0))], [(2, .box (cTime p0)), (4, .box [.d (u6 0), .d (u6 0), .d (u6 0)]), (14, vL 3 encTime a3)]⟩) (c := ((0 : Int) ≤ ((i2 : Nat) : Int) ∧ ((i2 : Nat) : Int) < (a3.length : Int)) ∧ True) (by kernel_rfl) ⟨hc7, trivial⟩ ?_
    obtain ⟨hc8, h⟩ := need_elim h
    refine At.one rfl (One.storeT (xs := [.d (u6 r6.epoch), .d (u6 r6.loop.1), .d (u6 r6.loop.2)]) (ds := [u6 r6.epoch, u6 r6.loop.1, u6 r6.loop.2]) (encTime) a3 r6 rfl rfl rfl rfl rfl hc8 rfl rfl (.refl _) rfl rfl rfl rfl) ?_
    refine At.keep [2, 4, 5, 15, 16, 17] [2, 4, 14] (s' := ⟨[(2, .c (.ptr 2 0)), (4, .c (.ptr 4 0)), (5, .c (oC 14 3 a3)), (15, cD (lD 3 encTime p1)), (16, cD (i6 (p1.length : Int))), (17, cD (i6 ((i2 : Nat) : Int)))], [(2, .box (cTime p0)), (4, .box [.d (u6 0), .d (u6 0), .d (u6 0)]), (14, vL 3 encTime (a3.set (0 + i2) r6))]⟩) (by kernel_rfl) ?_
    refine At.eqS (s' := ⟨[(2, .c (.ptr 2 0)), (4, .c (.ptr 4 0)), (5, .c (oC 14 3 (a3.set (0 + i2) r6))), (15, cD (lD 3 encTime p1)), (16, cD (i6 (p1.length : Int))), (17, cD (i6 ((i2 : Nat) : Int)))], [(2, .box (cTime p0)), (4, .box [.d (u6 0), .d (u6 0), .d (u6 0)]), (14, vL 3 encTime (a3.set (0 + i2) r6))]⟩) (by simp only [oC, vL, List.length_set]) ?_
    refine At.keep [17, 2, 4, 5, 15, 16] [2, 4, 14] (s' := ⟨[(17, cD (i6 ((i2 : Nat) : Int))), (2, .c (.ptr 2 0)), (4, .c (.ptr 4 0)), (5, .c (oC 14 3 (a3.set (0 + i2) r6))), (15, cD (lD 3 encTime p1)), (16, cD (i6 (p1.length : Int)))], [(2, .box (cTime p0)), (4, .box [.d (u6 0), .d (u6 0), .d (u6 0)]), (14, vL 3 encTime (a3.set (0 + i2) r6))]⟩) (by kernel_rfl) ?_
    refine At.done rfl ?_
    cases h
    exact rfl
   ·intro a4 h
    show Tri _ _ _ _
    refine Tri.seqS ?_
    refine Tri.reg ?_
    refine At.seg 1 [4, 30] [4, 14] (s' := ⟨[(4, .c (.ptr 4 0)), (30, .c (oC 14 3 a4))], [(4, .box [.d (u6 0), .d (u6 0), .d (u6 0)]), (14, vL 3 encTime a4)]⟩) (c := True ∧ True) (by kernel_rfl) ⟨trivial, trivial⟩ ?_
    obtain ⟨r5, hr5, h⟩ := bind_elim h
    refine At.callA (caps := []) (xs := [.c (oC 14 3 a4)]) (moment_Glb_ok_v0 hr5) rfl rfl rfl rfl rfl rfl (.cons (AVArg.view (encTime) a4 rfl) .nil) rfl rfl ?_
    refine At.seg 1 [4] [4] (s' := ⟨[(4, .c (.ptr 4 0))], [(4, .box (cTime r5))]⟩) (c := True ∧ True) (by kernel_rfl) ⟨trivial, trivial⟩ ?_
    refine At.done rfl ?_
    show Tri _ _ _ _
    refine Tri.keep [4] [4] (s' := ⟨[(4, .c (.ptr 4 0))], [(4, .box (cTime r5))]⟩) (by kernel_rfl) ?_
    refine Tri.ret ?_
    cases h
    refine ⟨_, _, rfl, ⟨trivial, trivial⟩, rfl, rfl, ?_⟩
    intro k c h
    cases h
   · exact fun x => x.elim

set_option maxRecDepth 100000 in
theorem freshetlaw04_orders_ok  {q : Bool} (h : freshetlaw04_orders = some q) :
    Summ Try.prog 18 [] [] (cD (.bool q)) [] := by
  refine Summ.intro Try.func18 rfl (by kernel_rfl) (by kernel_rfl) [] rfl ?_
  rintro ⟨P, w0, G0, V, LL, lk, N, φ0, fx⟩ rfl rfl rfl rfl
  unfold freshetlaw04_orders at h
  refine Tri.seqS ?_
  refine Tri.reg ?_
  refine At.seg 1 [] [] (s' := ⟨[], []⟩) (c := True ∧ True) (by kernel_rfl) ⟨trivial, trivial⟩ ?_
  refine At.done rfl ?_
  show Tri _ _ _ _
  refine Tri.seqJ (fun (a1 : Bool) => ⟨[(0, cD (.bool a1))], []⟩) h (fun a1 h => ?_) (fun j2 h => ?_)
  ·show Tri _ _ ⟨[(0, cD (.bool a1))], []⟩ _
   refine Tri.keep [0] [] (s' := ⟨[(0, cD (.bool a1))], []⟩) (by kernel_rfl) ?_
   refine Tri.ret ?_
   cases h
   refine ⟨_, _, rfl, ⟨trivial, trivial⟩, rfl, rfl, ?_⟩
   intro k c h
   cases h
  ·refine Tri.reg ?_
   obtain ⟨r3, hr3, h⟩ := bind_elim h
   refine At.callA (caps := []) (xs := [cD (u6 1), cD (u6 0), cD (u6 2)]) (freshetlaw04_at_ok hr3) rfl rfl rfl rfl rfl rfl (.cons (.refl _) (.cons (.refl _) (.cons (.refl _) .nil))) rfl rfl ?_
   obtain ⟨r4, hr4, h⟩ := bind_elim h
   refine At.callA (caps := []) (xs := [cD (u6 1), cD (u6 1), cD (u6 2)]) (freshetlaw04_at_ok hr4) rfl rfl rfl rfl rfl rfl (.cons (.refl _) (.cons (.refl _) (.cons (.refl _) .nil))) rfl rfl ?_
   obtain ⟨r5, hr5, h⟩ := bind_elim h
   refine At.callA (caps := []) (xs := [.agg (cTime r3), .agg (cTime r4)]) (moment_Ahead_ok hr5) rfl rfl rfl rfl rfl rfl (.cons (.refl _) (.cons (.refl _) .nil)) rfl rfl ?_
   refine At.seg 1 [4] [] (s' := ⟨[(4, cD (.bool r5))], []⟩) (c := True ∧ True) (by kernel_rfl) ⟨trivial, trivial⟩ ?_
   refine At.case (fun b => ⟨[(4, cD (.bool b))], []⟩) (b := r5) h (fun h => ?_) (fun h => ?_)
   ·obtain ⟨r6, hr6, h⟩ := bind_elim h
    refine At.callA (caps := []) (xs := [cD (u6 1), cD (u6 0), cD (u6 2)]) (freshetlaw04_at_ok hr6) rfl rfl rfl rfl rfl rfl (.cons (.refl _) (.cons (.refl _) (.cons (.refl _) .nil))) rfl rfl ?_
    obtain ⟨r7, hr7, h⟩ := bind_elim h
    refine At.callA (caps := []) (xs := [cD (u6 2), cD (u6 0), cD (u6 1)]) (freshetlaw04_at_ok hr7) rfl rfl rfl rfl rfl rfl (.cons (.refl _) (.cons (.refl _) (.cons (.refl _) .nil))) rfl rfl ?_
    obtain ⟨r8, hr8, h⟩ := bind_elim h
    refine At.callA (caps := []) (xs := [.agg (cTime r6), .agg (cTime r7)]) (moment_Ahead_ok hr8) rfl rfl rfl rfl rfl rfl (.cons (.refl _) (.cons (.refl _) .nil)) rfl rfl ?_
    refine At.seg 3 [10] [] (s' := ⟨[(10, cD (.bool (!r8)))], []⟩) (c := True ∧ True ∧ True ∧ True) (by kernel_rfl) ⟨trivial, trivial, trivial, trivial⟩ ?_
    refine At.case (fun b => ⟨[(10, cD (.bool b))], []⟩) (b := (!r8)) h (fun h => ?_) (fun h => ?_)
    ·obtain ⟨r9, hr9, h⟩ := bind_elim h
     refine At.callA (caps := []) (xs := [cD (u6 1), cD (u6 0), cD (u6 2)]) (freshetlaw04_at_ok hr9) rfl rfl rfl rfl rfl rfl (.cons (.refl _) (.cons (.refl _) (.cons (.refl _) .nil))) rfl rfl ?_
     obtain ⟨r10, hr10, h⟩ := bind_elim h
     refine At.callA (caps := []) (xs := [cD (u6 2), cD (u6 0), cD (u6 1)]) (freshetlaw04_at_ok hr10) rfl rfl rfl rfl rfl rfl (.cons (.refl _) (.cons (.refl _) (.cons (.refl _) .nil))) rfl rfl ?_
     obtain ⟨r11, hr11, h⟩ := bind_elim h
     refine At.callA (caps := []) (xs := [.agg (cTime r9), .agg (cTime r10)]) (moment_Compare_ok hr11) rfl rfl rfl rfl rfl rfl (.cons (.refl _) (.cons (.refl _) .nil)) rfl rfl ?_
     refine At.seg 3 [0] [] (s' := ⟨[(0, cD (.bool (decide (r11 = (-1)))))], []⟩) (c := True ∧ True ∧ True ∧ True) (by kernel_rfl) ⟨trivial, trivial, trivial, trivial⟩ ?_
     refine At.done rfl ?_
     exact ⟨_, h, rfl⟩
    ·refine At.seg 6 [0] [] (s' := ⟨[(0, cD (.bool false))], []⟩) (c := True ∧ True ∧ True) (by kernel_rfl) ⟨trivial, trivial, trivial⟩ ?_
     refine At.done rfl ?_
     exact ⟨_, h, rfl⟩
   ·refine At.seg 12 [0] [] (s' := ⟨[(0, cD (.bool false))], []⟩) (c := True ∧ True ∧ True ∧ True ∧ True) (by kernel_rfl) ⟨trivial, trivial, trivial, trivial, trivial⟩ ?_
    refine At.done rfl ?_
    exact ⟨_, h, rfl⟩

end Go.Av