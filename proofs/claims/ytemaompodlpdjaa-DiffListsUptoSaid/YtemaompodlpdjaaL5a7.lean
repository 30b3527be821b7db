import Derived.Test.YtemaompodlpdjaaL5a6
import Derived.Test.YtemaompodlpdjaaProg
namespace Go.Av
open Go Go.Proofs
set_option linter.unusedVariables false
set_option linter.unusedSimpArgs false
set_option maxRecDepth 100000 in
theorem freshetref04_Compare_ok {p0 : Time} {p1 : Time} {q : Int} (h : freshetref04_Compare p0 p1 = some q) :
    Summ Try.prog 54 [.agg (cTime p0), .agg (cTime p1)] [] (cD (dI q)) [] := by
  refine Summ.intro Try.func54 rfl (by kernel_rfl) (by kernel_rfl) [] rfl ?_
  rintro ⟨P, w0, G0, V, LL, lk, N, φ0, fx⟩ rfl rfl rfl rfl
  unfold freshetref04_Compare at h
  refine Tri.segL [2, 3] [2, 3] ⟨[(2, .c (.ptr 2 0)), (3, .c (.ptr 3 0))], [(2, .box (cTime p0)), (3, .box (cTime p1))]⟩ (allT 3) (by kernel_rfl) (allT_ok 3) ?_
  refine Tri.seqS ?_
  refine Tri.segL [2, 3, 11] [2, 3] ⟨[(2, .c (.ptr 2 0)), (3, .c (.ptr 3 0)), (11, cD (.bool (!decide (p0.epoch = p1.epoch))))], [(2, .box (cTime p0)), (3, .box (cTime p1))]⟩ (allT 5) (by kernel_rfl) (allT_ok 5) ?_
  refine Tri.condP (b := (!decide (p0.epoch = p1.epoch))) rfl h (fun h => ?_) (fun h => ?_)
  ·refine Tri.seqS ?_
   refine Tri.segL [16] [] ⟨[(16, cD (.bool (decide (p0.epoch < p1.epoch))))], []⟩ (allT 5) (by kernel_rfl) (allT_ok 5) ?_
   refine Tri.condP (b := (decide (p0.epoch < p1.epoch))) rfl h (fun h => ?_) (fun h => ?_)
   ·refine Tri.segC [4] [] (allT 1) (by kernel_rfl) (by kernel_rfl) (allT_ok 1) ?_
    refine Tri.keep [4] [] (s' := ⟨[(4, cD (dI (-1)))], []⟩) (by kernel_rfl) ?_
    refine Tri.ret ?_
    cases h
    refine ⟨_, _, rfl, ⟨trivial, trivial⟩, rfl, rfl, ?_⟩
    intro k c h
    cases h
   ·refine Tri.skip ?_
    show Tri _ _ _ _
    refine Tri.segC [4] [] (allT 1) (by kernel_rfl) (by kernel_rfl) (allT_ok 1) ?_
    refine Tri.keep [4] [] (s' := ⟨[(4, cD (dI 1))], []⟩) (by kernel_rfl) ?_
    refine Tri.ret ?_
    cases h
    refine ⟨_, _, rfl, ⟨trivial, trivial⟩, rfl, rfl, ?_⟩
    intro k c h
    cases h
  ·refine Tri.skip ?_
   show Tri _ _ _ _
   refine Tri.seqS ?_
   refine Tri.segC [3, 18, 19] [3] (allT 3) (by kernel_rfl) (by kernel_rfl) (allT_ok 3) ?_
   refine Tri.keep [19, 3, 18] [3] (s' := idx 19 0 ⟨[(3, .c (.ptr 3 0)), (18, .agg [.d (dU p0.loop.1), .d (dU p0.loop.2)])], [(3, .box (cTime p1))]⟩) (by kernel_rfl) ?_
   refine Tri.range (n := 2) (st0 := ()) (fun (x : Int) s => RetAt Try.prog Try.f54 (cD (dI x)) [] s) (fun (a2 : Unit) => ⟨[(3, .c (.ptr 3 0)), (18, .agg [.d (dU p0.loop.1), .d (dU p0.loop.2)])], [(3, .box (cTime p1))]⟩) (fun (a2 : Unit) => ⟨[(3, .c (.ptr 3 0)), (18, .agg [.d (dU p0.loop.1), .d (dU p0.loop.2)])], [(3, .box (cTime p1))]⟩) (fun i => decide ((i : Int) < (2 : Int))) [20, 19, 3, 18] [3] [3, 18] [3] [19, 3, 18] [3] h (by unfold maxN; omega) rfl ?_ ?_ ?_ ?_ ?_ ?_ ?_ ?_
   · exact fun i a => ⟨True ∧ True, by kernel_rfl, ⟨trivial, trivial⟩⟩
   · exact fun i hi => decide_eq_true (by omega)
   · exact decide_eq_false (by omega)
   · exact fun a => by kernel_rfl
   · exact fun i a => ⟨True ∧ True ∧ True, by kernel_rfl, ⟨trivial, trivial, trivial⟩⟩
   ·intro i1 a2 c hii1 h
    rcases i1 with _ | i1
    ·refine Tri.segL [3, 5, 6, 18, 19] [3] ⟨[(3, .c (.ptr 3 0)), (5, cD (dI ((0 : Nat) : Int))), (6, cD (dU p0.loop.1)), (18, .agg [.d (dU p0.loop.1), .d (dU p0.loop.2)]), (19, cD (dI ((0 : Nat) : Int)))], [(3, .box (cTime p1))]⟩ (allT 4) (by kernel_rfl) (allT_ok 4) ?_
     refine Tri.seqS ?_
     refine Tri.segL [3, 5, 6, 18, 19, 28] [3] ⟨[(3, .c (.ptr 3 0)), (5, cD (dI ((0 : Nat) : Int))), (6, cD (dU p0.loop.1)), (18, .agg [.d (dU p0.loop.1), .d (dU p0.loop.2)]), (19, cD (dI ((0 : Nat) : Int))), (28, cD (.bool (decide (p0.loop.1 < p1.loop.1))))], [(3, .box (cTime p1))]⟩ (allT 6) (by kernel_rfl) (allT_ok 6) ?_
     refine Tri.condP (b := (decide (p0.loop.1 < p1.loop.1))) rfl h (fun h => ?_) (fun h => ?_)
     ·refine Tri.segC [4] [] (allT 1) (by kernel_rfl) (by kernel_rfl) (allT_ok 1) ?_
      refine Tri.keep [4] [] (s' := ⟨[(4, cD (dI (-1)))], []⟩) (by kernel_rfl) ?_
      refine Tri.ret ?_
      cases h
      refine ⟨_, _, rfl, ⟨trivial, trivial⟩, rfl, rfl, ?_⟩
      intro k c h
      cases h
     ·refine Tri.skip ?_
      show Tri _ _ _ _
      refine Tri.segL [3, 18, 19, 34] [3] ⟨[(3, .c (.ptr 3 0)), (18, .agg [.d (dU p0.loop.1), .d (dU p0.loop.2)]), (19, cD (dI ((0 : Nat) : Int))), (34, cD (.bool (decide (p1.loop.1 < p0.loop.1))))], [(3, .box (cTime p1))]⟩ (allT 6) (by kernel_rfl) (allT_ok 6) ?_
      refine Tri.condP (b := (decide (p1.loop.1 < p0.loop.1))) rfl h (fun h => ?_) (fun h => ?_)
      ·refine Tri.segC [4] [] (allT 1) (by kernel_rfl) (by kernel_rfl) (allT_ok 1) ?_
       refine Tri.keep [4] [] (s' := ⟨[(4, cD (dI 1))], []⟩) (by kernel_rfl) ?_
       refine Tri.ret ?_
       cases h
       refine ⟨_, _, rfl, ⟨trivial, trivial⟩, rfl, rfl, ?_⟩
       intro k c h
       cases h
      ·refine Tri.keep [19, 3, 18] [3] (s' := ⟨[(19, cD (dI ((0 : Nat) : Int))), (3, .c (.ptr 3 0)), (18, .agg [.d (dU p0.loop.1), .d (dU p0.loop.2)])], [(3, .box (cTime p1))]⟩) (by kernel_rfl) ?_
       refine Tri.skip ?_
       cases h
       exact rfl
    rcases i1 with _ | i1
    ·refine Tri.segL [3, 5, 6, 18, 19] [3] ⟨[(3, .c (.ptr 3 0)), (5, cD (dI ((1 : Nat) : Int))), (6, cD (dU p0.loop.2)), (18, .agg [.d (dU p0.loop.1), .d (dU p0.loop.2)]), (19, cD (dI ((1 : Nat) : Int)))], [(3, .box (cTime p1))]⟩ (allT 4) (by kernel_rfl) (allT_ok 4) ?_
     refine Tri.seqS ?_
     refine Tri.segL [3, 5, 6, 18, 19, 28] [3] ⟨[(3, .c (.ptr 3 0)), (5, cD (dI ((1 : Nat) : Int))), (6, cD (dU p0.loop.2)), (18, .agg [.d (dU p0.loop.1), .d (dU p0.loop.2)]), (19, cD (dI ((1 : Nat) : Int))), (28, cD (.bool (decide (p0.loop.2 < p1.loop.2))))], [(3, .box (cTime p1))]⟩ (allT 6) (by kernel_rfl) (allT_ok 6) ?_
     refine Tri.condP (b := (decide (p0.loop.2 < p1.loop.2))) rfl h (fun h => ?_) (fun h => ?_)
     ·refine Tri.segC [4] [] (allT 1) (by kernel_rfl) (by kernel_rfl) (allT_ok 1) ?_
      refine Tri.keep [4] [] (s' := ⟨[(4, cD (dI (-1)))], []⟩) (by kernel_rfl) ?_
      refine Tri.ret ?_
      cases h
      refine ⟨_, _, rfl, ⟨trivial, trivial⟩, rfl, rfl, ?_⟩
      intro k c h
      cases h
     ·refine Tri.skip ?_
      show Tri _ _ _ _
      refine Tri.segL [3, 18, 19, 34] [3] ⟨[(3, .c (.ptr 3 0)), (18, .agg [.d (dU p0.loop.1), .d (dU p0.loop.2)]), (19, cD (dI ((1 : Nat) : Int))), (34, cD (.bool (decide (p1.loop.2 < p0.loop.2))))], [(3, .box (cTime p1))]⟩ (allT 6) (by kernel_rfl) (allT_ok 6) ?_
      refine Tri.condP (b := (decide (p1.loop.2 < p0.loop.2))) rfl h (fun h => ?_) (fun h => ?_)
      ·refine Tri.segC [4] [] (allT 1) (by kernel_rfl) (by kernel_rfl) (allT_ok 1) ?_
       refine Tri.keep [4] [] (s' := ⟨[(4, cD (dI 1))], []⟩) (by kernel_rfl) ?_
       refine Tri.ret ?_
       cases h
       refine ⟨_, _, rfl, ⟨trivial, trivial⟩, rfl, rfl, ?_⟩
       intro k c h
       cases h
      ·refine Tri.keep [19, 3, 18] [3] (s' := ⟨[(19, cD (dI ((1 : Nat) : Int))), (3, .c (.ptr 3 0)), (18, .agg [.d (dU p0.loop.1), .d (dU p0.loop.2)])], [(3, .box (cTime p1))]⟩) (by kernel_rfl) ?_
       refine Tri.skip ?_
       cases h
       exact rfl
    exact absurd hii1 (by omega)
   ·intro a3 h
    show Tri _ _ _ _
    refine Tri.segC [4] [] (allT 1) (by kernel_rfl) (by kernel_rfl) (allT_ok 1) ?_
    refine Tri.keep [4] [] (s' := ⟨[(4, cD (dI 0))], []⟩) (by kernel_rfl) ?_
    refine Tri.ret ?_
    cases h
    refine ⟨_, _, rfl, ⟨trivial, trivial⟩, rfl, rfl, ?_⟩
    intro k c h
    cases h
   · exact fun x s hx hr => by cases hx; exact hr
set_option maxRecDepth 100000 in
theorem freshetref05_Compare_ok {fuel : Nat} {p0 : Update} {p1 : Update} {q : Int} (h : freshetref05_Compare fuel p0 p1 = some q) :
    Summ Try.prog 25 [.agg (cUpdate p0), .agg (cUpdate p1)] [] (cD (dI q)) [] := by
  refine Summ.intro Try.func25 rfl (by kernel_rfl) (by kernel_rfl) [] rfl ?_
  rintro ⟨P, w0, G0, V, LL, lk, N, φ0, fx⟩ rfl rfl rfl rfl
  unfold freshetref05_Compare at h
  refine Tri.segL [2, 3] [2, 3] ⟨[(2, .c (.ptr 2 0)), (3, .c (.ptr 3 0))], [(2, .box (cUpdate p0)), (3, .box (cUpdate p1))]⟩ (allT 3) (by kernel_rfl) (allT_ok 3) ?_
  refine Tri.seqS ?_
  refine Tri.reg ?_
  refine At.seg 4 [2, 3, 7, 9] [2, 3] (s' := ⟨[(2, .c (.ptr 2 0)), (3, .c (.ptr 3 0)), (7, cD (lD 3 encValue p0.key)), (9, cD (lD 3 encValue p1.key))], [(2, .box (cUpdate p0)), (3, .box (cUpdate p1))]⟩) (c := True ∧ True ∧ True ∧ True ∧ True) (by kernel_rfl) ⟨trivial, trivial, trivial, trivial, trivial⟩ ?_
  obtain ⟨r1, hr1, h⟩ := bind_elim h
  refine At.callA (caps := []) (xs := [cD (lD 3 encValue p0.key), cD (lD 3 encValue p1.key)]) (freshetref03_Rows_ok hr1) rfl rfl rfl rfl rfl rfl (.cons (.refl _) (.cons (.refl _) .nil)) rfl rfl ?_
  refine At.seg 1 [2, 3, 5] [2, 3] (s' := ⟨[(2, .c (.ptr 2 0)), (3, .c (.ptr 3 0)), (5, cD (dI r1))], [(2, .box (cUpdate p0)), (3, .box (cUpdate p1))]⟩) (c := True ∧ True) (by kernel_rfl) ⟨trivial, trivial⟩ ?_
  refine At.done rfl ?_
  show Tri _ _ _ _
  refine Tri.seqJ (fun (a2 : Int) => ⟨[(2, .c (.ptr 2 0)), (3, .c (.ptr 3 0)), (5, cD (dI a2))], [(2, .box (cUpdate p0)), (3, .box (cUpdate p1))]⟩) h (fun a2 h => ?_) (fun j3 h => ?_)
  ·show Tri _ _ ⟨[(2, .c (.ptr 2 0)), (3, .c (.ptr 3 0)), (5, cD (dI a2))], [(2, .box (cUpdate p0)), (3, .box (cUpdate p1))]⟩ _
   refine Tri.seqJ (fun (a4 : Int) => ⟨[(5, cD (dI a4))], []⟩) h (fun a4 h => ?_) (fun j5 h => ?_)
   ·show Tri _ _ ⟨[(5, cD (dI a4))], []⟩ _
    refine Tri.segC [4] [] (allT 2) (by kernel_rfl) (by kernel_rfl) (allT_ok 2) ?_
    refine Tri.keep [4] [] (s' := ⟨[(4, cD (dI a4))], []⟩) (by kernel_rfl) ?_
    refine Tri.ret ?_
    cases h
    refine ⟨_, _, rfl, ⟨trivial, trivial⟩, rfl, rfl, ?_⟩
    intro k c h
    cases h
   ·refine Tri.segL [2, 3, 5, 19] [2, 3] ⟨[(2, .c (.ptr 2 0)), (3, .c (.ptr 3 0)), (5, cD (dI a2)), (19, cD (.bool (decide (a2 = 0))))], [(2, .box (cUpdate p0)), (3, .box (cUpdate p1))]⟩ (allT 2) (by kernel_rfl) (allT_ok 2) ?_
    refine Tri.condP (b := (decide (a2 = 0))) rfl h (fun h => ?_) (fun h => ?_)
    ·refine Tri.reg ?_
     refine At.seg 4 [21, 23] [] (s' := ⟨[(21, .agg (cTime p0.time)), (23, .agg (cTime p1.time))], []⟩) (c := True ∧ True ∧ True ∧ True ∧ True) (by kernel_rfl) ⟨trivial, trivial, trivial, trivial, trivial⟩ ?_
     obtain ⟨r6, hr6, h⟩ := bind_elim h
     refine At.callA (caps := []) (xs := [.agg (cTime p0.time), .agg (cTime p1.time)]) (freshetref04_Compare_ok hr6) rfl rfl rfl rfl rfl rfl (.cons (.refl _) (.cons (.refl _) .nil)) rfl rfl ?_
     refine At.seg 1 [5] [] (s' := ⟨[(5, cD (dI r6))], []⟩) (c := True ∧ True) (by kernel_rfl) ⟨trivial, trivial⟩ ?_
     refine At.done rfl ?_
     exact ⟨_, h, rfl⟩
    ·refine Tri.keep [5] [] (s' := ⟨[(5, cD (dI a2))], []⟩) (by kernel_rfl) ?_
     refine Tri.skip ?_
     exact ⟨_, h, rfl⟩
  ·refine Tri.segL [2, 3, 5, 12] [2, 3] ⟨[(2, .c (.ptr 2 0)), (3, .c (.ptr 3 0)), (5, cD (dI r1)), (12, cD (.bool (decide (r1 = 0))))], [(2, .box (cUpdate p0)), (3, .box (cUpdate p1))]⟩ (allT 2) (by kernel_rfl) (allT_ok 2) ?_
   refine Tri.condP (b := (decide (r1 = 0))) rfl h (fun h => ?_) (fun h => ?_)
   ·refine Tri.reg ?_
    refine At.seg 4 [2, 3, 14, 16] [2, 3] (s' := ⟨[(2, .c (.ptr 2 0)), (3, .c (.ptr 3 0)), (14, cD (lD 3 encValue p0.row)), (16, cD (lD 3 encValue p1.row))], [(2, .box (cUpdate p0)), (3, .box (cUpdate p1))]⟩) (c := True ∧ True ∧ True ∧ True ∧ True) (by kernel_rfl) ⟨trivial, trivial, trivial, trivial, trivial⟩ ?_
    obtain ⟨r7, hr7, h⟩ := bind_elim h
    refine At.callA (caps := []) (xs := [cD (lD 3 encValue p0.row), cD (lD 3 encValue p1.row)]) (freshetref03_Rows_ok hr7) rfl rfl rfl rfl rfl rfl (.cons (.refl _) (.cons (.refl _) .nil)) rfl rfl ?_
    refine At.seg 1 [2, 3, 5] [2, 3] (s' := ⟨[(2, .c (.ptr 2 0)), (3, .c (.ptr 3 0)), (5, cD (dI r7))], [(2, .box (cUpdate p0)), (3, .box (cUpdate p1))]⟩) (c := True ∧ True) (by kernel_rfl) ⟨trivial, trivial⟩ ?_
    refine At.done rfl ?_
    exact ⟨_, h, rfl⟩
   ·refine Tri.keep [2, 3, 5] [2, 3] (s' := ⟨[(2, .c (.ptr 2 0)), (3, .c (.ptr 3 0)), (5, cD (dI r1))], [(2, .box (cUpdate p0)), (3, .box (cUpdate p1))]⟩) (by kernel_rfl) ?_
    refine Tri.skip ?_
    exact ⟨_, h, rfl⟩
set_option maxRecDepth 100000 in
theorem freshetref05_Copy_ok_v0 {p0 : List Update} {q : List Update} (h : freshetref05_Copy p0 = some q) :
    Summ Try.prog 42 [.c (wC 6 encUpdate p0)] [] (cD (lD 6 encUpdate q)) [] := by
  refine Summ.intro Try.func42 rfl (by kernel_rfl) (by kernel_rfl) [] rfl ?_
  rintro ⟨P, w0, G0, V, LL, lk, N, φ0, fx⟩ rfl rfl rfl rfl
  unfold freshetref05_Copy at h
  refine Tri.segC [0] [] (allT 1) (by kernel_rfl) (by kernel_rfl) (allT_ok 1) ?_
  refine Tri.segL [0, 3] [] ⟨[(0, .c (wC 6 encUpdate p0)), (3, .c (.zero))], []⟩ (allT 1) (by kernel_rfl) (allT_ok 1) ?_
  refine Tri.seqS ?_
  refine Tri.segL [3, 6, 7, 8] [] ⟨[(3, .c (.zero)), (6, .c (wC 6 encUpdate p0)), (7, cD (dI (p0.length : Int))), (8, cD (dI 0))], []⟩ (allT 3) (by kernel_rfl) (allT_ok 3) ?_
  refine Tri.lenOfV (t := 6) rfl fun hlena2 => ?_
  refine Tri.newOwn (t := 3) (k := 1003) (es := 6) (fun i => encUpdate (([] : List Update).getD i default)) rfl rfl rfl ?_
  refine Tri.keep [8, 3, 6, 7] [1003] (s' := idx 8 0 ⟨[(3, .c (oC 1003 6 ([] : List Update))), (6, .c (wC 6 encUpdate p0)), (7, cD (dI (p0.length : Int)))], [(1003, vL 6 encUpdate ([] : List Update))]⟩) (by kernel_rfl) ?_
  refine Tri.range (n := p0.length) (st0 := ([] : List Update)) (fun (x : Empty) s => False) (fun (a2 : List Update) => ⟨[(3, .c (oC 1003 6 a2)), (6, .c (wC 6 encUpdate p0)), (7, cD (dI (p0.length : Int)))], [(1003, vL 6 encUpdate a2)]⟩) (fun (a2 : List Update) => ⟨[(3, .c (oC 1003 6 a2)), (6, .c (wC 6 encUpdate p0)), (7, cD (dI (p0.length : Int)))], [(1003, vL 6 encUpdate a2)]⟩) (fun i => decide ((i : Int) < (p0.length : Int))) [9, 8, 3, 6, 7] [1003] [3, 6, 7] [1003] [8, 3, 6, 7] [1003] h hlena2 rfl ?_ ?_ ?_ ?_ ?_ ?_ ?_ ?_
  · exact fun i a => ⟨True ∧ True, by kernel_rfl, ⟨trivial, trivial⟩⟩
  · exact fun i hi => decide_eq_true (by omega)
  · exact decide_eq_false (by omega)
  · exact fun a => by kernel_rfl
  · exact fun i a => ⟨True ∧ True ∧ True, by kernel_rfl, ⟨trivial, trivial, trivial⟩⟩
  ·intro i1 a2 c hii1 h
   refine Tri.segL [3, 5, 6, 7, 8] [5, 1003] ⟨[(3, .c (oC 1003 6 a2)), (5, .c (.ptr 5 0)), (6, .c (wC 6 encUpdate p0)), (7, cD (dI (p0.length : Int))), (8, cD (dI ((i1 : Nat) : Int)))], [(5, .box (cUpdate (p0.getD i1 default))), (1003, vL 6 encUpdate a2)]⟩ (((0 : Int) ≤ ((i1 : Nat) : Int) ∧ ((i1 : Nat) : Int) < (p0.length : Int)) ∧ True ∧ True ∧ True ∧ True) (by kernel_rfl) ⟨⟨by omega, by omega⟩, trivial, trivial, trivial, trivial⟩ ?_
   refine Tri.seqS ?_
   refine Tri.reg ?_
   refine At.seg 2 [3, 5, 6, 7, 8, 13] [5, 1003] (s' := ⟨[(3, .c (oC 1003 6 a2)), (5, .c (.ptr 5 0)), (6, .c (wC 6 encUpdate p0)), (7, cD (dI (p0.length : Int))), (8, cD (dI ((i1 : Nat) : Int))), (13, cD (lD 3 encValue ((p0.getD i1 default).key)))], [(5, .box (cUpdate (p0.getD i1 default))), (1003, vL 6 encUpdate a2)]⟩) (c := True ∧ True ∧ True) (by kernel_rfl) ⟨trivial, trivial, trivial⟩ ?_
   obtain ⟨r4, hr4, h⟩ := bind_elim h
   refine At.callA (caps := []) (xs := [cD (lD 3 encValue ((p0.getD i1 default).key))]) (freshetref03_Copy_ok hr4) rfl rfl rfl rfl rfl rfl (.cons (.refl _) .nil) rfl rfl ?_
   refine At.seg 2 [3, 5, 6, 7, 8] [5, 1003] (s' := ⟨[(3, .c (oC 1003 6 a2)), (5, .c (.ptr 5 0)), (6, .c (wC 6 encUpdate p0)), (7, cD (dI (p0.length : Int))), (8, cD (dI ((i1 : Nat) : Int)))], [(5, .box [.d (lD 3 encValue r4), .d (lD 3 encValue ((p0.getD i1 default).row)), .d (dU ((p0.getD i1 default).time.epoch)), .d (dU ((p0.getD i1 default).time.loop.1)), .d (dU ((p0.getD i1 default).time.loop.2)), .d (dI ((p0.getD i1 default).diff))]), (1003, vL 6 encUpdate a2)]⟩) (c := True ∧ True ∧ True) (by kernel_rfl) ⟨trivial, trivial, trivial⟩ ?_
   refine At.done rfl ?_
   show Tri _ _ _ _
   refine Tri.seqS ?_
   refine Tri.reg ?_
   refine At.seg 2 [3, 5, 6, 7, 8, 17] [5, 1003] (s' := ⟨[(3, .c (oC 1003 6 a2)), (5, .c (.ptr 5 0)), (6, .c (wC 6 encUpdate p0)), (7, cD (dI (p0.length : Int))), (8, cD (dI ((i1 : Nat) : Int))), (17, cD (lD 3 encValue ((p0.getD i1 default).row)))], [(5, .box [.d (lD 3 encValue r4), .d (lD 3 encValue ((p0.getD i1 default).row)), .d (dU ((p0.getD i1 default).time.epoch)), .d (dU ((p0.getD i1 default).time.loop.1)), .d (dU ((p0.getD i1 default).time.loop.2)), .d (dI ((p0.getD i1 default).diff))]), (1003, vL 6 encUpdate a2)]⟩) (c := True ∧ True ∧ True) (by kernel_rfl) ⟨trivial, trivial, trivial⟩ ?_
   obtain ⟨r5, hr5, h⟩ := bind_elim h
   refine At.callA (caps := []) (xs := [cD (lD 3 encValue ((p0.getD i1 default).row))]) (freshetref03_Copy_ok hr5) rfl rfl rfl rfl rfl rfl (.cons (.refl _) .nil) rfl rfl ?_
   refine At.seg 2 [3, 5, 6, 7, 8] [5, 1003] (s' := ⟨[(3, .c (oC 1003 6 a2)), (5, .c (.ptr 5 0)), (6, .c (wC 6 encUpdate p0)), (7, cD (dI (p0.length : Int))), (8, cD (dI ((i1 : Nat) : Int)))], [(5, .box [.d (lD 3 encValue r4), .d (lD 3 encValue r5), .d (dU ((p0.getD i1 default).time.epoch)), .d (dU ((p0.getD i1 default).time.loop.1)), .d (dU ((p0.getD i1 default).time.loop.2)), .d (dI ((p0.getD i1 default).diff))]), (1003, vL 6 encUpdate a2)]⟩) (c := True ∧ True ∧ True) (by kernel_rfl) ⟨trivial, trivial, trivial⟩ ?_
   refine At.done rfl ?_
   show Tri _ _ _ _
   refine Tri.reg ?_
   refine At.seg 2 [6, 7, 8, 20, 21] [1003] (s' := ⟨[(6, .c (wC 6 encUpdate p0)), (7, cD (dI (p0.length : Int))), (8, cD (dI ((i1 : Nat) : Int))), (20, .c (oC 1003 6 a2)), (21, .agg [.d (lD 3 encValue r4), .d (lD 3 encValue r5), .d (dU ((p0.getD i1 default).time.epoch)), .d (dU ((p0.getD i1 default).time.loop.1)), .d (dU ((p0.getD i1 default).time.loop.2)), .d (dI ((p0.getD i1 default).diff))])], [(1003, vL 6 encUpdate a2)]⟩) (c := True ∧ True ∧ True) (by kernel_rfl) ⟨trivial, trivial, trivial⟩ ?_
   refine At.one rfl (One.buildSlice (z := [.zero, .zero, .d (dU 0), .d (dU 0), .d (dU 0), .d (dI 0)]) (cells := [.d (lD 3 encValue r4), .d (lD 3 encValue r5), .d (dU ((p0.getD i1 default).time.epoch)), .d (dU ((p0.getD i1 default).time.loop.1)), .d (dU ((p0.getD i1 default).time.loop.2)), .d (dI ((p0.getD i1 default).diff))]) (xs := List.map (encUpdate) ([(⟨r4, r5, (p0.getD i1 default).time, (p0.getD i1 default).diff⟩ : Update)] : List Update)) rfl rfl rfl rfl (by kernel_rfl) rfl rfl (by kernel_rfl) rfl rfl rfl (by kernel_rfl) rfl ⟨⟨rfl, .refl _⟩, trivial⟩) ?_
   refine At.le [22] (fun k hk h => by first | (cases h; done) | (simp at hk h; omega)) ⟨[(22, cD (lD 6 encUpdate ([(⟨r4, r5, (p0.getD i1 default).time, (p0.getD i1 default).diff⟩ : Update)] : List Update))), (6, .c (wC 6 encUpdate p0)), (7, cD (dI (p0.length : Int))), (8, cD (dI ((i1 : Nat) : Int))), (20, .c (oC 1003 6 a2)), (21, .agg [.d (lD 3 encValue r4), .d (lD 3 encValue r5), .d (dU ((p0.getD i1 default).time.epoch)), .d (dU ((p0.getD i1 default).time.loop.1)), .d (dU ((p0.getD i1 default).time.loop.2)), .d (dI ((p0.getD i1 default).diff))])], [(1003, vL 6 encUpdate a2)]⟩ ⟨⟨_, rfl, .c (.own rfl (List.mem_singleton.2 rfl) (Nat.le_of_ble_eq_true rfl) rfl (encs_getD (encUpdate) ([(⟨r4, r5, (p0.getD i1 default).time, (p0.getD i1 default).diff⟩ : Update)] : List Update)))⟩, ⟨_, rfl, .refl _⟩, ⟨_, rfl, .refl _⟩, ⟨_, rfl, .refl _⟩, ⟨_, rfl, .refl _⟩, ⟨_, rfl, .refl _⟩, trivial⟩ ⟨⟨_, rfl, .refl _, (by simp)⟩, trivial⟩ ?_
   obtain ⟨hc6, h⟩ := need_elim h
   refine At.one rfl (One.appendT (e := 44) (es := 6) (encUpdate) a2 ([(⟨r4, r5, (p0.getD i1 default).time, (p0.getD i1 default).diff⟩ : Update)] : List Update) rfl rfl rfl rfl rfl (.of 44 80 [.zero, .zero, .d (dU 0), .d (dU 0), .d (dU 0), .d (dI 0)] (by kernel_rfl) (by kernel_rfl) (by kernel_rfl) (by kernel_rfl) rfl (by kernel_rfl) rfl) rfl rfl rfl (.list rfl (fun _ _ => rfl)) hc6) ?_
   refine At.seg 1 [8, 3, 6, 7] [1003] (s' := ⟨[(8, cD (dI ((i1 : Nat) : Int))), (3, .c (oC 1003 6 (a2 ++ ([(⟨r4, r5, (p0.getD i1 default).time, (p0.getD i1 default).diff⟩ : Update)] : List Update)))), (6, .c (wC 6 encUpdate p0)), (7, cD (dI (p0.length : Int)))], [(1003, vL 6 encUpdate (a2 ++ ([(⟨r4, r5, (p0.getD i1 default).time, (p0.getD i1 default).diff⟩ : Update)] : List Update)))]⟩) (c := True ∧ True) (by kernel_rfl) ⟨trivial, trivial⟩ ?_
   refine At.done rfl ?_
   cases h
   exact rfl
  ·intro a3 h
   show Tri _ _ _ _
   refine Tri.segC [2] [1003] (allT 2) (by kernel_rfl) (by kernel_rfl) (allT_ok 2) ?_
   refine Tri.keep [2] [1003] (s' := ⟨[(2, .c (oC 1003 6 a3))], [(1003, vL 6 encUpdate a3)]⟩) (by kernel_rfl) ?_
   refine Tri.le [1003] (fun k hk h => by first | (cases h; done) | (simp at hk h; omega)) ⟨[(2, cD (lD 6 encUpdate a3))], []⟩ ⟨⟨_, rfl, .c (CLe.frozen (encUpdate) a3 rfl (by simp))⟩, trivial⟩ trivial ?_
   refine Tri.ret ?_
   cases h
   refine ⟨_, _, rfl, ⟨trivial, trivial⟩, rfl, rfl, ?_⟩
   intro k c h
   cases h
  · exact fun x => x.elim
set_option maxRecDepth 100000 in
theorem freshetref05_Consolidate_ok {fuel : Nat} {p0 : List (List Update)} {q : (List Update) × Int} (h : freshetref05_Consolidate fuel p0 = some q) :
    Summ Try.prog 17 [cD (lD 1 (fun xs => [encL 6 encUpdate xs]) p0)] [] (.tup [(false, [.d (lD 6 encUpdate q.1)]), (false, [.d (dI q.2)])]) [] := by
  refine Summ.intro Try.func17 rfl (by kernel_rfl) (by kernel_rfl) [] rfl ?_
  rintro ⟨P, w0, G0, V, LL, lk, N, φ0, fx⟩ rfl rfl rfl rfl
  unfold freshetref05_Consolidate at h
  refine Tri.segC [0] [] (allT 2) (by kernel_rfl) (by kernel_rfl) (allT_ok 2) ?_
  refine Tri.segL [0, 4] [] ⟨[(0, cD (lD 1 (fun xs => [encL 6 encUpdate xs]) p0)), (4, .c (.zero))], []⟩ (allT 1) (by kernel_rfl) (allT_ok 1) ?_
  refine Tri.seqS ?_
  refine Tri.segL [4, 18, 19, 20] [] ⟨[(4, .c (.zero)), (18, cD (lD 1 (fun xs => [encL 6 encUpdate xs]) p0)), (19, cD (dI (p0.length : Int))), (20, cD (dI 0))], []⟩ (allT 3) (by kernel_rfl) (allT_ok 3) ?_
  refine Tri.lenOf (t := 18) rfl fun hlena2 => ?_
  refine Tri.newOwn (t := 4) (k := 1004) (es := 6) (fun i => encUpdate (([] : List Update).getD i default)) rfl rfl rfl ?_
  refine Tri.keep [20, 4, 18, 19] [1004] (s' := idx 20 0 ⟨[(4, .c (oC 1004 6 ([] : List Update))), (18, cD (lD 1 (fun xs => [encL 6 encUpdate xs]) p0)), (19, cD (dI (p0.length : Int)))], [(1004, vL 6 encUpdate ([] : List Update))]⟩) (by kernel_rfl) ?_
  refine Tri.range (n := p0.length) (st0 := ([] : List Update)) (fun (x : (List Update) × Int) s => RetAt Try.prog Try.f17 (.tup [(false, [.d (lD 6 encUpdate x.1)]), (false, [.d (dI x.2)])]) [] s) (fun (a2 : List Update) => ⟨[(4, .c (oC 1004 6 a2)), (18, cD (lD 1 (fun xs => [encL 6 encUpdate xs]) p0)), (19, cD (dI (p0.length : Int)))], [(1004, vL 6 encUpdate a2)]⟩) (fun (a2 : List Update) => ⟨[(4, .c (oC 1004 6 a2)), (18, cD (lD 1 (fun xs => [encL 6 encUpdate xs]) p0)), (19, cD (dI (p0.length : Int)))], [(1004, vL 6 encUpdate a2)]⟩) (fun i => decide ((i : Int) < (p0.length : Int))) [21, 20, 4, 18, 19] [1004] [4, 18, 19] [1004] [20, 4, 18, 19] [1004] h hlena2 rfl ?_ ?_ ?_ ?_ ?_ ?_ ?_ ?_
  · exact fun i a => ⟨True ∧ True, by kernel_rfl, ⟨trivial, trivial⟩⟩
  · exact fun i hi => decide_eq_true (by omega)
  · exact decide_eq_false (by omega)
  · exact fun a => by kernel_rfl
  · exact fun i a => ⟨True ∧ True ∧ True, by kernel_rfl, ⟨trivial, trivial, trivial⟩⟩
  ·intro i1 a2 c hii1 h
   refine Tri.segL [4, 6, 18, 19, 20] [1004] ⟨[(4, .c (oC 1004 6 a2)), (6, cD (lD 6 encUpdate (p0.getD i1 default))), (18, cD (lD 1 (fun xs => [encL 6 encUpdate xs]) p0)), (19, cD (dI (p0.length : Int))), (20, cD (dI ((i1 : Nat) : Int)))], [(1004, vL 6 encUpdate a2)]⟩ (((0 : Int) ≤ ((i1 : Nat) : Int) ∧ ((i1 : Nat) : Int) < (p0.length : Int)) ∧ True ∧ True ∧ True) (by kernel_rfl) ⟨⟨by omega, by omega⟩, trivial, trivial, trivial⟩ ?_
   refine Tri.seqS ?_
   refine Tri.reg ?_
   refine At.seg 1 [4, 6, 18, 19, 20, 24] [1004] (s' := ⟨[(4, .c (oC 1004 6 a2)), (6, cD (lD 6 encUpdate (p0.getD i1 default))), (18, cD (lD 1 (fun xs => [encL 6 encUpdate xs]) p0)), (19, cD (dI (p0.length : Int))), (20, cD (dI ((i1 : Nat) : Int))), (24, cD (lD 6 encUpdate (p0.getD i1 default)))], [(1004, vL 6 encUpdate a2)]⟩) (c := True ∧ True) (by kernel_rfl) ⟨trivial, trivial⟩ ?_
   obtain ⟨r48, hr48, h⟩ := bind_elim h
   refine At.callA (caps := []) (xs := [cD (lD 6 encUpdate (p0.getD i1 default))]) (freshetref05_Check_ok hr48) rfl rfl rfl rfl rfl rfl (.cons (.refl _) .nil) rfl rfl ?_
   refine At.seg 1 [4, 6, 7, 18, 19, 20] [1004] (s' := ⟨[(4, .c (oC 1004 6 a2)), (6, cD (lD 6 encUpdate (p0.getD i1 default))), (7, cD (dI r48)), (18, cD (lD 1 (fun xs => [encL 6 encUpdate xs]) p0)), (19, cD (dI (p0.length : Int))), (20, cD (dI ((i1 : Nat) : Int)))], [(1004, vL 6 encUpdate a2)]⟩) (c := True ∧ True) (by kernel_rfl) ⟨trivial, trivial⟩ ?_
   refine At.done rfl ?_
   show Tri _ _ _ _
   refine Tri.seqS ?_
   refine Tri.segL [4, 6, 7, 18, 19, 20, 27] [1004] ⟨[(4, .c (oC 1004 6 a2)), (6, cD (lD 6 encUpdate (p0.getD i1 default))), (7, cD (dI r48)), (18, cD (lD 1 (fun xs => [encL 6 encUpdate xs]) p0)), (19, cD (dI (p0.length : Int))), (20, cD (dI ((i1 : Nat) : Int))), (27, cD (.bool (!decide (r48 = 0))))], [(1004, vL 6 encUpdate a2)]⟩ (allT 2) (by kernel_rfl) (allT_ok 2) ?_
   refine Tri.condP (b := (!decide (r48 = 0))) rfl h (fun h => ?_) (fun h => ?_)
   ·refine Tri.segC [2, 3] [] (allT 3) (by kernel_rfl) (by kernel_rfl) (allT_ok 3) ?_
    refine Tri.keep [2, 3] [] (s' := ⟨[(2, .c (.zero)), (3, cD (dI r48))], []⟩) (by kernel_rfl) ?_
    refine Tri.le [] (fun k hk => by cases hk) ⟨[(2, cD (lD 6 encUpdate ([] : List Update))), (3, cD (dI r48))], []⟩ ⟨⟨_, rfl, .c (.zero _ _)⟩, ⟨_, rfl, .refl _⟩, trivial⟩ trivial ?_
    refine Tri.ret ?_
    cases h
    refine ⟨_, _, rfl, ⟨trivial, ⟨trivial, trivial⟩⟩, rfl, rfl, ?_⟩
    intro k c h
    cases h
   ·refine Tri.skip ?_
    show Tri _ _ _ _
    refine Tri.reg ?_
    refine At.seg 2 [18, 19, 20, 29, 30] [1004] (s' := ⟨[(18, cD (lD 1 (fun xs => [encL 6 encUpdate xs]) p0)), (19, cD (dI (p0.length : Int))), (20, cD (dI ((i1 : Nat) : Int))), (29, .c (oC 1004 6 a2)), (30, cD (lD 6 encUpdate (p0.getD i1 default)))], [(1004, vL 6 encUpdate a2)]⟩) (c := True ∧ True ∧ True) (by kernel_rfl) ⟨trivial, trivial, trivial⟩ ?_
    obtain ⟨hc49, h⟩ := need_elim h
    refine At.one rfl (One.appendT (e := 44) (es := 6) (encUpdate) a2 (p0.getD i1 default) rfl rfl rfl rfl rfl (.of 44 80 [.zero, .zero, .d (dU 0), .d (dU 0), .d (dU 0), .d (dI 0)] (by kernel_rfl) (by kernel_rfl) (by kernel_rfl) (by kernel_rfl) rfl (by kernel_rfl) rfl) rfl rfl rfl (.list rfl (fun _ _ => rfl)) hc49) ?_
    refine At.seg 1 [20, 4, 18, 19] [1004] (s' := ⟨[(20, cD (dI ((i1 : Nat) : Int))), (4, .c (oC 1004 6 (a2 ++ (p0.getD i1 default)))), (18, cD (lD 1 (fun xs => [encL 6 encUpdate xs]) p0)), (19, cD (dI (p0.length : Int)))], [(1004, vL 6 encUpdate (a2 ++ (p0.getD i1 default)))]⟩) (c := True ∧ True) (by kernel_rfl) ⟨trivial, trivial⟩ ?_
    refine At.done rfl ?_
    cases h
    exact rfl
  ·intro a3 h
   show Tri _ _ _ _
   refine Tri.segC [4, 8] [1004] (allT 1) (by kernel_rfl) (by kernel_rfl) (allT_ok 1) ?_
   refine Tri.segL [4, 8, 9] [1004] ⟨[(4, .c (oC 1004 6 a3)), (8, .c (.zero)), (9, .c (.zero))], [(1004, vL 6 encUpdate a3)]⟩ (allT 1) (by kernel_rfl) (allT_ok 1) ?_
   refine Tri.seqS ?_
   refine Tri.segL [8, 9, 33, 34, 35] [1004] ⟨[(8, .c (.zero)), (9, .c (.zero)), (33, .c (oC 1004 6 a3)), (34, cD (dI (a3.length : Int))), (35, cD (dI 0))], [(1004, vL 6 encUpdate a3)]⟩ (allT 3) (by kernel_rfl) (allT_ok 3) ?_
   refine Tri.newOwn (t := 8) (k := 1008) (es := 6) (fun i => encUpdate (([] : List Update).getD i default)) rfl rfl rfl ?_
   refine Tri.newOwn (t := 9) (k := 1009) (es := 2) (fun i => encWide (([] : List Wide).getD i default)) rfl rfl rfl ?_
   refine Tri.lenOfO (t := 33) rfl rfl (Nat.le_refl _) fun hlena5 => ?_
   refine Tri.keep [35, 8, 9, 33, 34] [1004, 1008, 1009] (s' := idx 35 0 ⟨[(8, .c (oC 1008 6 ([] : List Update))), (9, .c (oC 1009 2 ([] : List Wide))), (33, .c (oC 1004 6 a3)), (34, cD (dI (a3.length : Int)))], [(1004, vL 6 encUpdate a3), (1008, vL 6 encUpdate ([] : List Update)), (1009, vL 2 encWide ([] : List Wide))]⟩) (by kernel_rfl) ?_
   refine Tri.range (n := a3.length) (st0 := (([] : List Update), ([] : List Wide))) (fun (x : Empty) s => False) (fun (a5 : (List Update) × (List Wide)) => ⟨[(8, .c (oC 1008 6 a5.1)), (9, .c (oC 1009 2 a5.2)), (33, .c (oC 1004 6 a3)), (34, cD (dI (a3.length : Int)))], [(1004, vL 6 encUpdate a3), (1008, vL 6 encUpdate a5.1), (1009, vL 2 encWide a5.2)]⟩) (fun (a5 : (List Update) × (List Wide)) => ⟨[(8, .c (oC 1008 6 a5.1)), (9, .c (oC 1009 2 a5.2)), (33, .c (oC 1004 6 a3)), (34, cD (dI (a3.length : Int)))], [(1004, vL 6 encUpdate a3), (1008, vL 6 encUpdate a5.1), (1009, vL 2 encWide a5.2)]⟩) (fun i => decide ((i : Int) < (a3.length : Int))) [36, 35, 8, 9, 33, 34] [1004, 1008, 1009] [8, 9, 33, 34] [1004, 1008, 1009] [35, 8, 9, 33, 34] [1004, 1008, 1009] h hlena5 rfl ?_ ?_ ?_ ?_ ?_ ?_ ?_ ?_
   · exact fun i a => ⟨True ∧ True, by kernel_rfl, ⟨trivial, trivial⟩⟩
   · exact fun i hi => decide_eq_true (by omega)
   · exact decide_eq_false (by omega)
   · exact fun a => by kernel_rfl
   · exact fun i a => ⟨True ∧ True ∧ True, by kernel_rfl, ⟨trivial, trivial, trivial⟩⟩
   ·intro i4 a5 c hii4 h
    obtain ⟨hc16, h⟩ := need_elim h
    refine Tri.segC [8, 9, 11, 33, 34, 35] [11, 1004, 1008, 1009] (((0 : Int) ≤ ((i4 : Nat) : Int) ∧ ((i4 : Nat) : Int) < (a3.length : Int)) ∧ ((0 + i4) < a3.length) ∧ True ∧ True ∧ True) (by kernel_rfl) (by kernel_rfl) ⟨⟨by omega, by omega⟩, hc16, trivial, trivial, trivial⟩ ?_
    refine Tri.segC [8, 9, 11, 12, 33, 34, 35] [11, 1004, 1008, 1009] (allT 1) (by kernel_rfl) (by kernel_rfl) (allT_ok 1) ?_
    refine Tri.seqS ?_
    refine Tri.keep [8, 9, 11, 12, 33, 34, 35] [11, 1004, 1008, 1009] (s' := ⟨[(8, .c (oC 1008 6 a5.1)), (9, .c (oC 1009 2 a5.2)), (11, .c (.ptr 11 0)), (12, cD (dI 0)), (33, .c (oC 1004 6 a3)), (34, cD (dI (a3.length : Int))), (35, cD (dI ((i4 : Nat) : Int)))], [(11, .box (cUpdate (a3.getD (0 + i4) default))), (1004, vL 6 encUpdate a3), (1008, vL 6 encUpdate a5.1), (1009, vL 2 encWide a5.2)]⟩) (by kernel_rfl) ?_
    refine Tri.loopK (fuel := fuel) (st0 := 0) (fun (x : Empty) s => False) (fun (a17 : Int) => ⟨[(8, .c (oC 1008 6 a5.1)), (9, .c (oC 1009 2 a5.2)), (11, .c (.ptr 11 0)), (12, cD (dI a17)), (33, .c (oC 1004 6 a3)), (34, cD (dI (a3.length : Int))), (35, cD (dI ((i4 : Nat) : Int)))], [(11, .box (cUpdate (a3.getD (0 + i4) default))), (1004, vL 6 encUpdate a3), (1008, vL 6 encUpdate a5.1), (1009, vL 2 encWide a5.2)]⟩) (fun (a17 : Int) => ⟨[(8, .c (oC 1008 6 a5.1)), (9, .c (oC 1009 2 a5.2)), (11, .c (.ptr 11 0)), (12, cD (dI a17)), (33, .c (oC 1004 6 a3)), (34, cD (dI (a3.length : Int))), (35, cD (dI ((i4 : Nat) : Int)))], [(11, .box (cUpdate (a3.getD (0 + i4) default))), (1004, vL 6 encUpdate a3), (1008, vL 6 encUpdate a5.1), (1009, vL 2 encWide a5.2)]⟩) h ?_ ?_ ?_
    ·intro a17 c h
     show Tri _ _ ⟨[(8, .c (oC 1008 6 a5.1)), (9, .c (oC 1009 2 a5.2)), (11, .c (.ptr 11 0)), (12, cD (dI a17)), (33, .c (oC 1004 6 a3)), (34, cD (dI (a3.length : Int))), (35, cD (dI ((i4 : Nat) : Int)))], [(11, .box (cUpdate (a3.getD (0 + i4) default))), (1004, vL 6 encUpdate a3), (1008, vL 6 encUpdate a5.1), (1009, vL 2 encWide a5.2)]⟩ _
     refine Tri.seqS ?_
     refine Tri.seqJ (fun (a42 : Bool) => ⟨[(8, .c (oC 1008 6 a5.1)), (9, .c (oC 1009 2 a5.2)), (11, .c (.ptr 11 0)), (12, cD (dI a17)), (33, .c (oC 1004 6 a3)), (34, cD (dI (a3.length : Int))), (35, cD (dI ((i4 : Nat) : Int))), (51, cD (.bool a42))], [(11, .box (cUpdate (a3.getD (0 + i4) default))), (1004, vL 6 encUpdate a3), (1008, vL 6 encUpdate a5.1), (1009, vL 2 encWide a5.2)]⟩) h (fun a42 h => ?_) (fun j43 h => ?_)
     ·show Tri _ _ ⟨[(8, .c (oC 1008 6 a5.1)), (9, .c (oC 1009 2 a5.2)), (11, .c (.ptr 11 0)), (12, cD (dI a17)), (33, .c (oC 1004 6 a3)), (34, cD (dI (a3.length : Int))), (35, cD (dI ((i4 : Nat) : Int))), (51, cD (.bool a42))], [(11, .box (cUpdate (a3.getD (0 + i4) default))), (1004, vL 6 encUpdate a3), (1008, vL 6 encUpdate a5.1), (1009, vL 2 encWide a5.2)]⟩ _
      refine Tri.condP (b := a42) rfl h (fun h => ?_) (fun h => ?_)
      ·refine Tri.skip ?_
       show Tri _ _ _ _
       refine Tri.blockB ?_
       refine Tri.reg ?_
       refine At.seg 3 [8, 9, 11, 12, 33, 34, 35] [11, 1004, 1008, 1009] (s' := ⟨[(8, .c (oC 1008 6 a5.1)), (9, .c (oC 1009 2 a5.2)), (11, .c (.ptr 11 0)), (12, cD (dI (IntKind.i64.wrap (a17 + 1)))), (33, .c (oC 1004 6 a3)), (34, cD (dI (a3.length : Int))), (35, cD (dI ((i4 : Nat) : Int)))], [(11, .box (cUpdate (a3.getD (0 + i4) default))), (1004, vL 6 encUpdate a3), (1008, vL 6 encUpdate a5.1), (1009, vL 2 encWide a5.2)]⟩) (c := True ∧ True ∧ True ∧ True) (by kernel_rfl) ⟨trivial, trivial, trivial, trivial⟩ ?_
       refine At.done rfl ?_
       cases h
       exact rfl
      ·refine Tri.keep [8, 9, 11, 12, 33, 34, 35] [11, 1004, 1008, 1009] (s' := ⟨[(8, .c (oC 1008 6 a5.1)), (9, .c (oC 1009 2 a5.2)), (11, .c (.ptr 11 0)), (12, cD (dI a17)), (33, .c (oC 1004 6 a3)), (34, cD (dI (a3.length : Int))), (35, cD (dI ((i4 : Nat) : Int)))], [(11, .box (cUpdate (a3.getD (0 + i4) default))), (1004, vL 6 encUpdate a3), (1008, vL 6 encUpdate a5.1), (1009, vL 2 encWide a5.2)]⟩) (by kernel_rfl) ?_
       refine Tri.exit ?_
       cases h
       exact ⟨rfl, rfl⟩
     ·rcases bf_cases h with ⟨hp44, h⟩ | ⟨hp44, h⟩
      ·obtain ⟨hc45, h⟩ := need_elim h
       obtain ⟨hc46, h⟩ := need_elim h
       obtain ⟨r47, hr47, h⟩ := bind_elim h
       refine Tri.drawnS (s' := ⟨[(8, .c (oC 1008 6 a5.1)), (9, .c (oC 1009 2 a5.2)), (11, .c (.ptr 11 0)), (12, cD (dI a17)), (33, .c (oC 1004 6 a3)), (34, cD (dI (a3.length : Int))), (35, cD (dI ((i4 : Nat) : Int))), (51, cD (.bool (decide (r47 < 0))))], [(11, .box (cUpdate (a3.getD (0 + i4) default))), (1004, vL 6 encUpdate a3), (1008, vL 6 encUpdate a5.1), (1009, vL 2 encWide a5.2)]⟩) (cs := True ∧ True ∧ True ∧ True ∧ True ∧ True ∧ ((0 : Int) ≤ a17 ∧ a17 < (a5.1.length : Int)) ∧ ((0 + a17.toNat) < a5.1.length) ∧ True ∧ True ∧ True ∧ True) [.a [12] [], .a [8] [], .a [40] [1008], .a [39, 41] [], .m ⟨[(42, cD (.bool (decide (a17 < (a5.1.length : Int)))))], []⟩ ⟨[(43, .c (.d (.bool true)))], []⟩ [] [] [], .a [8, 43] [], .a [12, 43] [], .a [43, 44, 45] [1008], .a [43, 46] [1008], .a [11, 43] [11], .m ⟨[(43, cD (.bool true)), (47, .agg (cUpdate (a5.1.getD (0 + a17.toNat) default))), (48, .agg (cUpdate (a3.getD (0 + i4) default)))], []⟩ ⟨[(49, cD (dI r47))], []⟩ [] [] [], .a [43, 49] [], .a [43, 50] []] [[], [], [1], [0, 1, 2], [0, 1, 2, 3], [0, 1, 2, 3, 4], [0, 1, 2, 3, 4], [0, 1, 2, 3, 4, 5, 6], [0, 1, 2, 3, 4, 5, 6, 7], [0, 1, 2, 3, 4], [0, 1, 2, 3, 4, 5, 6, 7, 8, 9], [0, 1, 2, 3, 4, 5, 6, 7, 8, 9, 10], [0, 1, 2, 3, 4, 5, 6, 7, 8, 9, 10, 11]] [8, 9, 11, 12, 33, 34, 35, 51] [11, 1004, 1008, 1009] (by kernel_rfl) (by kernel_rfl) (by kernel_rfl) (by kernel_rfl) (by kernel_rfl) ⟨trivial, trivial, trivial, trivial, trivial, trivial, hc45, hc46, trivial, trivial, trivial, trivial⟩ (.a (.a (.a (.a (.m ?_ (.a (.a (.a (.a (.a (.m ?_ (.a (.a .z))))))))))))) (by kernel_rfl) ?_
       · exact DOk.stepP (fun b => .val (.c (.d (.bool b))) (True)) (p := (decide (a17 < (a5.1.length : Int)))) hp44 (fun r => by kernel_rfl) (fun r => by kernel_rfl) trivial (by kernel_rfl) (by kernel_rfl) (fun r => rfl)
       · exact DOk.callA (caps := []) (xs := [.agg (cUpdate (a5.1.getD (0 + a17.toNat) default)), .agg (cUpdate (a3.getD (0 + i4) default))]) (freshetref05_Compare_ok hr47) rfl (fun r => by kernel_rfl) rfl (fun r => by kernel_rfl) (fun r => by kernel_rfl) (fun r => (.cons (.refl _) (.cons (.refl _) .nil))) rfl rfl (fun r => rfl)
       exact ⟨_, h, rfl⟩
      ·refine Tri.drawnS (s' := ⟨[(8, .c (oC 1008 6 a5.1)), (9, .c (oC 1009 2 a5.2)), (11, .c (.ptr 11 0)), (12, cD (dI a17)), (33, .c (oC 1004 6 a3)), (34, cD (dI (a3.length : Int))), (35, cD (dI ((i4 : Nat) : Int))), (51, cD (.bool false))], [(11, .box (cUpdate (a3.getD (0 + i4) default))), (1004, vL 6 encUpdate a3), (1008, vL 6 encUpdate a5.1), (1009, vL 2 encWide a5.2)]⟩) (cs := True ∧ True ∧ True ∧ True ∧ True ∧ True) [.a [12] [], .a [8] [], .a [40] [1008], .a [39, 41] [], .m ⟨[(42, cD (.bool (decide (a17 < (a5.1.length : Int)))))], []⟩ ⟨[(43, .c (.d (.bool false)))], []⟩ [] [] [], .a [8, 43] [], .a [12, 43] [], .a [43, 44, 45] [], .a [43, 46] [], .a [11, 43] [11], .a [43, 47, 48] [], .a [43, 49] [], .a [43, 50] []] [[], [], [1], [0, 1, 2], [0, 1, 2, 3], [0, 1, 2, 3, 4], [0, 1, 2, 3, 4], [0, 1, 2, 3, 4, 5, 6], [0, 1, 2, 3, 4, 5, 6, 7], [0, 1, 2, 3, 4], [0, 1, 2, 3, 4, 5, 6, 7, 8, 9], [0, 1, 2, 3, 4, 5, 6, 7, 8, 9, 10], [0, 1, 2, 3, 4, 5, 6, 7, 8, 9, 10, 11]] [8, 9, 11, 12, 33, 34, 35, 51] [11, 1004, 1008, 1009] (by kernel_rfl) (by kernel_rfl) (by kernel_rfl) (by kernel_rfl) (by kernel_rfl) ⟨trivial, trivial, trivial, trivial, trivial, trivial⟩ (.a (.a (.a (.a (.m ?_ (.a (.a (.a (.a (.a (.a (.a (.a .z))))))))))))) (by kernel_rfl) ?_
       · exact DOk.stepP (fun b => .val (.c (.d (.bool b))) (True)) (p := (decide (a17 < (a5.1.length : Int)))) hp44 (fun r => by kernel_rfl) (fun r => by kernel_rfl) trivial (by kernel_rfl) (by kernel_rfl) (fun r => rfl)
       exact ⟨_, h, rfl⟩
    ·intro a18 h
     show Tri _ _ _ _
     refine Tri.seqJ (fun (a19 : (List Update) × (List Wide)) => ⟨[(8, .c (oC 71 6 a19.1)), (9, .c (oC 83 2 a19.2)), (11, .c (.ptr 11 0)), (12, cD (dI a18)), (33, .c (oC 1004 6 a3)), (34, cD (dI (a3.length : Int))), (35, cD (dI ((i4 : Nat) : Int)))], [(11, .box (cUpdate (a3.getD (0 + i4) default))), (71, vL 6 encUpdate a19.1), (83, vL 2 encWide a19.2), (1004, vL 6 encUpdate a3)]⟩) h (fun a19 h => ?_) (fun j20 h => ?_)
     ·show Tri _ _ ⟨[(8, .c (oC 71 6 a19.1)), (9, .c (oC 83 2 a19.2)), (11, .c (.ptr 11 0)), (12, cD (dI a18)), (33, .c (oC 1004 6 a3)), (34, cD (dI (a3.length : Int))), (35, cD (dI ((i4 : Nat) : Int)))], [(11, .box (cUpdate (a3.getD (0 + i4) default))), (71, vL 6 encUpdate a19.1), (83, vL 2 encWide a19.2), (1004, vL 6 encUpdate a3)]⟩ _
      obtain ⟨hc21, h⟩ := need_elim h
      obtain ⟨hc22, h⟩ := need_elim h
      obtain ⟨r23, hr23, h⟩ := bind_elim h
      obtain ⟨hc24, h⟩ := need_elim h
      obtain ⟨hc25, h⟩ := need_elim h
      refine Tri.afterA ⟨[(8, .c (oC 71 6 a19.1)), (9, .c (oC 83 2 a19.2)), (33, .c (oC 1004 6 a3)), (34, cD (dI (a3.length : Int))), (35, cD (dI ((i4 : Nat) : Int)))], [(71, vL 6 encUpdate a19.1), (83, vL 2 encWide (a19.2.set (0 + a18.toNat) r23)), (1004, vL 6 encUpdate a3)]⟩ ?_ ?_
      ·refine Tri.drawnS (s' := ⟨[(8, .c (oC 71 6 a19.1)), (9, .c (oC 83 2 a19.2)), (33, .c (oC 1004 6 a3)), (34, cD (dI (a3.length : Int))), (35, cD (dI ((i4 : Nat) : Int)))], [(71, vL 6 encUpdate a19.1), (83, vL 2 encWide (a19.2.set (0 + a18.toNat) r23)), (1004, vL 6 encUpdate a3)]⟩) (cs := True ∧ True ∧ True ∧ True ∧ ((0 : Int) ≤ a18 ∧ a18 < (a19.2.length : Int)) ∧ ((0 + a18.toNat) < a19.2.length) ∧ True ∧ True ∧ ((0 : Int) ≤ a18 ∧ a18 < (a19.2.length : Int)) ∧ True) [.a [9] [], .a [12] [], .a [9] [], .a [12] [], .a [93, 94] [83], .a [95] [83], .a [11] [], .a [97] [11], .m ⟨[(96, .agg (cWide (a19.2.getD (0 + a18.toNat) default))), (98, cD (dI ((a3.getD (0 + i4) default).diff)))], []⟩ ⟨[(99, .agg (cWide r23))], []⟩ [] [] [], .a [91, 92] [83], .m ⟨[(99, .agg (cWide r23)), (100, .c (.vptr 83 2 (0 + a18.toNat) 0))], [(83, vL 2 encWide a19.2)]⟩ ⟨[], [(83, vL 2 encWide (a19.2.set (0 + a18.toNat) r23))]⟩ [] [] []] [[], [], [], [], [2, 3], [2, 3, 4], [], [6], [2, 3, 4, 5, 6, 7], [0, 1, 2, 3, 4, 5, 6, 7, 8], [0, 1, 2, 3, 4, 5, 6, 7, 8, 9]] [8, 9, 33, 34, 35] [71, 83, 1004] (by kernel_rfl) (by kernel_rfl) (by kernel_rfl) (by kernel_rfl) (by kernel_rfl) ⟨trivial, trivial, trivial, trivial, hc21, hc22, trivial, trivial, hc24, trivial⟩ (.a (.a (.a (.a (.a (.a (.a (.a (.m ?_ (.a (.m ?_ .z))))))))))) (by kernel_rfl) ?_
       · exact DOk.callA (caps := []) (xs := [.agg (cWide (a19.2.getD (0 + a18.toNat) default)), cD (dI ((a3.getD (0 + i4) default).diff))]) (freshet_freshetref05_Wide_Plus_ok hr23) rfl (fun r => by kernel_rfl) rfl (fun r => by kernel_rfl) (fun r => by kernel_rfl) (fun r => (.cons (.refl _) (.cons (.refl _) .nil))) rfl rfl (fun r => rfl)
       · exact DOk.one fun r hr => One.storeT (xs := [.d (dI r23.high), .d (dU r23.low)]) (ds := [dI r23.high, dU r23.low]) (encWide) a19.2 r23 rfl (by kernel_rfl) rfl rfl rfl hc25 rfl rfl (.refl _) rfl rfl rfl rfl
       exact ⟨rfl, rfl⟩
      ·refine At.eqS (s' := ⟨[(8, .c (oC 71 6 a19.1)), (9, .c (oC 83 2 (a19.2.set (0 + a18.toNat) r23))), (33, .c (oC 1004 6 a3)), (34, cD (dI (a3.length : Int))), (35, cD (dI ((i4 : Nat) : Int)))], [(71, vL 6 encUpdate a19.1), (83, vL 2 encWide (a19.2.set (0 + a18.toNat) r23)), (1004, vL 6 encUpdate a3)]⟩) (by simp only [oC, vL, List.length_set]) ?_
       refine At.keep [8, 9, 33, 34, 35] [71, 83, 1004] (s' := ⟨[(8, .c (oC 71 6 a19.1)), (9, .c (oC 83 2 (a19.2.set (0 + a18.toNat) r23))), (33, .c (oC 1004 6 a3)), (34, cD (dI (a3.length : Int))), (35, cD (dI ((i4 : Nat) : Int)))], [(71, vL 6 encUpdate a19.1), (83, vL 2 encWide (a19.2.set (0 + a18.toNat) r23)), (1004, vL 6 encUpdate a3)]⟩) (by kernel_rfl) ?_
       refine At.rename 71 1008 ⟨[(8, .c (oC 1008 6 a19.1)), (9, .c (oC 83 2 (a19.2.set (0 + a18.toNat) r23))), (33, .c (oC 1004 6 a3)), (34, cD (dI (a3.length : Int))), (35, cD (dI ((i4 : Nat) : Int)))], [(1008, vL 6 encUpdate a19.1), (83, vL 2 encWide (a19.2.set (0 + a18.toNat) r23)), (1004, vL 6 encUpdate a3)]⟩ (by kernel_rfl) rfl rfl rfl ?_
       refine At.keep [8, 9, 33, 34, 35] [1008, 83, 1004] (s' := ⟨[(8, .c (oC 1008 6 a19.1)), (9, .c (oC 83 2 (a19.2.set (0 + a18.toNat) r23))), (33, .c (oC 1004 6 a3)), (34, cD (dI (a3.length : Int))), (35, cD (dI ((i4 : Nat) : Int)))], [(1008, vL 6 encUpdate a19.1), (83, vL 2 encWide (a19.2.set (0 + a18.toNat) r23)), (1004, vL 6 encUpdate a3)]⟩) (by kernel_rfl) ?_
       refine At.rename 83 1009 ⟨[(8, .c (oC 1008 6 a19.1)), (9, .c (oC 1009 2 (a19.2.set (0 + a18.toNat) r23))), (33, .c (oC 1004 6 a3)), (34, cD (dI (a3.length : Int))), (35, cD (dI ((i4 : Nat) : Int)))], [(1008, vL 6 encUpdate a19.1), (1009, vL 2 encWide (a19.2.set (0 + a18.toNat) r23)), (1004, vL 6 encUpdate a3)]⟩ (by kernel_rfl) rfl rfl rfl ?_
       refine At.keep [35, 8, 9, 33, 34] [1004, 1008, 1009] (s' := ⟨[(35, cD (dI ((i4 : Nat) : Int))), (8, .c (oC 1008 6 a19.1)), (9, .c (oC 1009 2 (a19.2.set (0 + a18.toNat) r23))), (33, .c (oC 1004 6 a3)), (34, cD (dI (a3.length : Int)))], [(1004, vL 6 encUpdate a3), (1008, vL 6 encUpdate a19.1), (1009, vL 2 encWide (a19.2.set (0 + a18.toNat) r23))]⟩) (by kernel_rfl) ?_
       refine At.done rfl ?_
       cases h
       exact rfl
     ·refine Tri.seqJ (fun (a26 : Bool) => ⟨[(8, .c (oC 1008 6 a5.1)), (9, .c (oC 1009 2 a5.2)), (11, .c (.ptr 11 0)), (12, cD (dI a18)), (33, .c (oC 1004 6 a3)), (34, cD (dI (a3.length : Int))), (35, cD (dI ((i4 : Nat) : Int))), (66, cD (.bool a26))], [(11, .box (cUpdate (a3.getD (0 + i4) default))), (1004, vL 6 encUpdate a3), (1008, vL 6 encUpdate a5.1), (1009, vL 2 encWide a5.2)]⟩) h (fun a26 h => ?_) (fun j27 h => ?_)
      ·show Tri _ _ ⟨[(8, .c (oC 1008 6 a5.1)), (9, .c (oC 1009 2 a5.2)), (11, .c (.ptr 11 0)), (12, cD (dI a18)), (33, .c (oC 1004 6 a3)), (34, cD (dI (a3.length : Int))), (35, cD (dI ((i4 : Nat) : Int))), (66, cD (.bool a26))], [(11, .box (cUpdate (a3.getD (0 + i4) default))), (1004, vL 6 encUpdate a3), (1008, vL 6 encUpdate a5.1), (1009, vL 2 encWide a5.2)]⟩ _
       refine Tri.condP (b := a26) rfl h (fun h => ?_) (fun h => ?_)
       ·refine Tri.seqS ?_
        obtain ⟨hc28, h⟩ := need_elim h
        obtain ⟨hc29, h⟩ := need_elim h
        obtain ⟨hc30, h⟩ := need_elim h
        obtain ⟨hc31, h⟩ := need_elim h
        obtain ⟨hc32, h⟩ := need_elim h
        refine Tri.drawnS (s' := ⟨[(8, .c (oC 71 6 (((sub a5.1 (0 : Int) a18) ++ ([(a3.getD (0 + i4) default)] : List Update)) ++ (sub a5.1 a18 (a5.1.length : Int))))), (9, .c (oC 1009 2 a5.2)), (11, .c (.ptr 11 0)), (12, cD (dI a18)), (33, .c (oC 1004 6 a3)), (34, cD (dI (a3.length : Int))), (35, cD (dI ((i4 : Nat) : Int)))], [(11, .box (cUpdate (a3.getD (0 + i4) default))), (71, vL 6 encUpdate (((sub a5.1 (0 : Int) a18) ++ ([(a3.getD (0 + i4) default)] : List Update)) ++ (sub a5.1 a18 (a5.1.length : Int)))), (1004, vL 6 encUpdate a3), (1009, vL 2 encWide a5.2)]⟩) (cs := True ∧ True ∧ ((0 : Int) ≤ 0 ∧ (0 : Int) ≤ a18 ∧ a18 ≤ (a5.1.length : Int)) ∧ True ∧ True ∧ True ∧ ((0 : Int) ≤ a18 ∧ a18 ≤ (a5.1.length : Int) ∧ (a5.1.length : Int) ≤ (a5.1.length : Int)) ∧ True ∧ True) [.m ⟨[], []⟩ ⟨[(67, .c (.zero))], []⟩ [] [] [], .a [8] [], .a [12] [], .a [68, 69] [1008], .m ⟨[(67, .c (.zero)), (70, .c (.own 1008 6 (0 + (0 : Int).toNat) (a18.toNat - (0 : Int).toNat)))], [(1008, vL 6 encUpdate a5.1)]⟩ ⟨[(71, .c (oC 71 6 (sub a5.1 (0 : Int) a18)))], [(71, vL 6 encUpdate (sub a5.1 (0 : Int) a18))]⟩ [71] [] [], .a [11] [11], .m ⟨[(72, .agg (cUpdate (a3.getD (0 + i4) default)))], []⟩ ⟨[(73, .c (oC 73 6 ([(a3.getD (0 + i4) default)] : List Update)))], [(73, vL 6 encUpdate ([(a3.getD (0 + i4) default)] : List Update))]⟩ [73] [] [], .m ⟨[(71, .c (oC 71 6 (sub a5.1 (0 : Int) a18))), (73, .c (oC 73 6 ([(a3.getD (0 + i4) default)] : List Update)))], [(71, vL 6 encUpdate (sub a5.1 (0 : Int) a18)), (73, vL 6 encUpdate ([(a3.getD (0 + i4) default)] : List Update))]⟩ ⟨[(74, .c (oC 71 6 ((sub a5.1 (0 : Int) a18) ++ ([(a3.getD (0 + i4) default)] : List Update)))), (71, .c (.any))], [(71, vL 6 encUpdate ((sub a5.1 (0 : Int) a18) ++ ([(a3.getD (0 + i4) default)] : List Update)))]⟩ [71] [71] [], .a [8] [], .a [12] [], .a [75, 76] [1008], .m ⟨[(71, .c (.any)), (74, .c (oC 71 6 ((sub a5.1 (0 : Int) a18) ++ ([(a3.getD (0 + i4) default)] : List Update)))), (77, .c (.own 1008 6 (0 + a18.toNat) ((a5.1.length : Int).toNat - a18.toNat)))], [(71, vL 6 encUpdate ((sub a5.1 (0 : Int) a18) ++ ([(a3.getD (0 + i4) default)] : List Update))), (1008, vL 6 encUpdate a5.1)]⟩ ⟨[(78, .c (oC 71 6 (((sub a5.1 (0 : Int) a18) ++ ([(a3.getD (0 + i4) default)] : List Update)) ++ (sub a5.1 a18 (a5.1.length : Int))))), (71, .c (.any)), (74, .c (.any))], [(71, vL 6 encUpdate (((sub a5.1 (0 : Int) a18) ++ ([(a3.getD (0 + i4) default)] : List Update)) ++ (sub a5.1 a18 (a5.1.length : Int))))]⟩ [71] [71, 74] [], .a [78] []] [[], [], [], [1, 2], [0, 1, 2, 3], [], [5], [0, 1, 2, 3, 4, 5, 6], [], [], [8, 9], [0, 1, 2, 3, 4, 5, 6, 7, 8, 9, 10], [0, 1, 2, 3, 4, 5, 6, 7, 8, 9, 10, 11]] [8, 9, 11, 12, 33, 34, 35] [11, 71, 1004, 1009] (by kernel_rfl) (by kernel_rfl) (by kernel_rfl) (by kernel_rfl) (by kernel_rfl) ⟨trivial, trivial, hc28, trivial, trivial, trivial, hc31, trivial, trivial⟩ (.m ?_ (.a (.a (.a (.m ?_ (.a (.m ?_ (.m ?_ (.a (.a (.a (.m ?_ (.a .z))))))))))))) (by kernel_rfl) ?_
        · exact DOk.one fun r _ => One.build0 (e := 44) (es := 6) rfl (by kernel_rfl) rfl rfl (by kernel_rfl) rfl
        · exact DOk.one fun r hr => One.append0 (e := 44) (es := 6) (m := (sub a5.1 (0 : Int) a18).length) (get := fun i => encUpdate ((sub a5.1 (0 : Int) a18).getD i default)) rfl (by kernel_rfl) rfl rfl (St.noRef_app (by kernel_rfl) (hr 71 (by simp))) (.of 44 80 [.zero, .zero, .d (dU 0), .d (dU 0), .d (dU 0), .d (dI 0)] (by kernel_rfl) (by kernel_rfl) (by kernel_rfl) (by kernel_rfl) rfl (by kernel_rfl) rfl) rfl rfl (.subO (encUpdate) rfl hc28.1 hc28.2.1 hc28.2.2) hc29
        · exact DOk.one fun r hr => One.buildT (e := 44) (es := 6) (z := [.zero, .zero, .d (dU 0), .d (dU 0), .d (dU 0), .d (dI 0)]) (cells := [.d (lD 3 encValue ((a3.getD (0 + i4) default).key)), .d (lD 3 encValue ((a3.getD (0 + i4) default).row)), .d (dU ((a3.getD (0 + i4) default).time.epoch)), .d (dU ((a3.getD (0 + i4) default).time.loop.1)), .d (dU ((a3.getD (0 + i4) default).time.loop.2)), .d (dI ((a3.getD (0 + i4) default).diff))]) (encUpdate) ([(a3.getD (0 + i4) default)] : List Update) rfl (by kernel_rfl) rfl rfl (St.noRef_app (by kernel_rfl) (hr 73 (by simp))) (by kernel_rfl) rfl (by kernel_rfl) rfl rfl rfl (by kernel_rfl) rfl ⟨⟨rfl, .refl _⟩, trivial⟩
        · exact DOk.drop (k := 71) (d := 74) (v := vL 6 encUpdate ((sub a5.1 (0 : Int) a18) ++ ([(a3.getD (0 + i4) default)] : List Update))) (av := .c (oC 71 6 ((sub a5.1 (0 : Int) a18) ++ ([(a3.getD (0 + i4) default)] : List Update)))) rfl (fun r hr => One.appendT (e := 44) (es := 6) (encUpdate) (sub a5.1 (0 : Int) a18) ([(a3.getD (0 + i4) default)] : List Update) rfl rfl (by kernel_rfl) rfl rfl (.of 44 80 [.zero, .zero, .d (dU 0), .d (dU 0), .d (dU 0), .d (dI 0)] (by kernel_rfl) (by kernel_rfl) (by kernel_rfl) (by kernel_rfl) rfl (by kernel_rfl) rfl) rfl rfl rfl (.own rfl (by simp) rfl (shift0 (encUpdate) ([(a3.getD (0 + i4) default)] : List Update) _)) hc30) (by kernel_rfl) (by kernel_rfl) (by kernel_rfl) (by kernel_rfl)
        · exact DOk.drop (k := 71) (d := 78) (v := vL 6 encUpdate (((sub a5.1 (0 : Int) a18) ++ ([(a3.getD (0 + i4) default)] : List Update)) ++ (sub a5.1 a18 (a5.1.length : Int)))) (av := .c (oC 71 6 (((sub a5.1 (0 : Int) a18) ++ ([(a3.getD (0 + i4) default)] : List Update)) ++ (sub a5.1 a18 (a5.1.length : Int))))) rfl (fun r hr => One.appendT (e := 44) (es := 6) (encUpdate) ((sub a5.1 (0 : Int) a18) ++ ([(a3.getD (0 + i4) default)] : List Update)) (sub a5.1 a18 (a5.1.length : Int)) rfl rfl (by kernel_rfl) rfl rfl (.of 44 80 [.zero, .zero, .d (dU 0), .d (dU 0), .d (dU 0), .d (dI 0)] (by kernel_rfl) (by kernel_rfl) (by kernel_rfl) (by kernel_rfl) rfl (by kernel_rfl) rfl) rfl rfl rfl (.subO (encUpdate) rfl hc31.1 hc31.2.1 hc31.2.2) hc32) (by kernel_rfl) (by kernel_rfl) (by kernel_rfl) (by kernel_rfl)
        show Tri _ _ _ _
        obtain ⟨hc33, h⟩ := need_elim h
        obtain ⟨hc34, h⟩ := need_elim h
        obtain ⟨hc35, h⟩ := need_elim h
        obtain ⟨hc36, h⟩ := need_elim h
        obtain ⟨hc37, h⟩ := need_elim h
        refine Tri.drawnS (s' := ⟨[(8, .c (oC 71 6 (((sub a5.1 (0 : Int) a18) ++ ([(a3.getD (0 + i4) default)] : List Update)) ++ (sub a5.1 a18 (a5.1.length : Int))))), (9, .c (oC 83 2 (((sub a5.2 (0 : Int) a18) ++ ([(⟨0, 0⟩ : Wide)] : List Wide)) ++ (sub a5.2 a18 (a5.2.length : Int))))), (11, .c (.ptr 11 0)), (12, cD (dI a18)), (33, .c (oC 1004 6 a3)), (34, cD (dI (a3.length : Int))), (35, cD (dI ((i4 : Nat) : Int)))], [(11, .box (cUpdate (a3.getD (0 + i4) default))), (71, vL 6 encUpdate (((sub a5.1 (0 : Int) a18) ++ ([(a3.getD (0 + i4) default)] : List Update)) ++ (sub a5.1 a18 (a5.1.length : Int)))), (83, vL 2 encWide (((sub a5.2 (0 : Int) a18) ++ ([(⟨0, 0⟩ : Wide)] : List Wide)) ++ (sub a5.2 a18 (a5.2.length : Int)))), (1004, vL 6 encUpdate a3)]⟩) (cs := True ∧ True ∧ ((0 : Int) ≤ 0 ∧ (0 : Int) ≤ a18 ∧ a18 ≤ (a5.2.length : Int)) ∧ True ∧ True ∧ True ∧ ((0 : Int) ≤ a18 ∧ a18 ≤ (a5.2.length : Int) ∧ (a5.2.length : Int) ≤ (a5.2.length : Int)) ∧ True ∧ True) [.m ⟨[], []⟩ ⟨[(79, .c (.zero))], []⟩ [] [] [], .a [9] [], .a [12] [], .a [80, 81] [1009], .m ⟨[(79, .c (.zero)), (82, .c (.own 1009 2 (0 + (0 : Int).toNat) (a18.toNat - (0 : Int).toNat)))], [(1009, vL 2 encWide a5.2)]⟩ ⟨[(83, .c (oC 83 2 (sub a5.2 (0 : Int) a18)))], [(83, vL 2 encWide (sub a5.2 (0 : Int) a18))]⟩ [83] [] [], .a [] [], .m ⟨[(84, .agg [.d (dI 0), .d (dU 0)])], []⟩ ⟨[(85, .c (oC 85 2 ([(⟨0, 0⟩ : Wide)] : List Wide)))], [(85, vL 2 encWide ([(⟨0, 0⟩ : Wide)] : List Wide))]⟩ [85] [] [], .m ⟨[(83, .c (oC 83 2 (sub a5.2 (0 : Int) a18))), (85, .c (oC 85 2 ([(⟨0, 0⟩ : Wide)] : List Wide)))], [(83, vL 2 encWide (sub a5.2 (0 : Int) a18)), (85, vL 2 encWide ([(⟨0, 0⟩ : Wide)] : List Wide))]⟩ ⟨[(86, .c (oC 83 2 ((sub a5.2 (0 : Int) a18) ++ ([(⟨0, 0⟩ : Wide)] : List Wide)))), (83, .c (.any))], [(83, vL 2 encWide ((sub a5.2 (0 : Int) a18) ++ ([(⟨0, 0⟩ : Wide)] : List Wide)))]⟩ [83] [83] [], .a [9] [], .a [12] [], .a [87, 88] [1009], .m ⟨[(83, .c (.any)), (86, .c (oC 83 2 ((sub a5.2 (0 : Int) a18) ++ ([(⟨0, 0⟩ : Wide)] : List Wide)))), (89, .c (.own 1009 2 (0 + a18.toNat) ((a5.2.length : Int).toNat - a18.toNat)))], [(83, vL 2 encWide ((sub a5.2 (0 : Int) a18) ++ ([(⟨0, 0⟩ : Wide)] : List Wide))), (1009, vL 2 encWide a5.2)]⟩ ⟨[(90, .c (oC 83 2 (((sub a5.2 (0 : Int) a18) ++ ([(⟨0, 0⟩ : Wide)] : List Wide)) ++ (sub a5.2 a18 (a5.2.length : Int))))), (83, .c (.any)), (86, .c (.any))], [(83, vL 2 encWide (((sub a5.2 (0 : Int) a18) ++ ([(⟨0, 0⟩ : Wide)] : List Wide)) ++ (sub a5.2 a18 (a5.2.length : Int))))]⟩ [83] [83, 86] [], .a [90] []] [[], [], [], [1, 2], [0, 1, 2, 3], [], [5], [0, 1, 2, 3, 4, 5, 6], [], [], [8, 9], [0, 1, 2, 3, 4, 5, 6, 7, 8, 9, 10], [0, 1, 2, 3, 4, 5, 6, 7, 8, 9, 10, 11]] [8, 9, 11, 12, 33, 34, 35] [11, 71, 83, 1004] (by kernel_rfl) (by kernel_rfl) (by kernel_rfl) (by kernel_rfl) (by kernel_rfl) ⟨trivial, trivial, hc33, trivial, trivial, trivial, hc36, trivial, trivial⟩ (.m ?_ (.a (.a (.a (.m ?_ (.a (.m ?_ (.m ?_ (.a (.a (.a (.m ?_ (.a .z))))))))))))) (by kernel_rfl) ?_
        · exact DOk.one fun r _ => One.build0 (e := 60) (es := 2) rfl (by kernel_rfl) rfl rfl (by kernel_rfl) rfl
        · exact DOk.one fun r hr => One.append0 (e := 60) (es := 2) (m := (sub a5.2 (0 : Int) a18).length) (get := fun i => encWide ((sub a5.2 (0 : Int) a18).getD i default)) rfl (by kernel_rfl) rfl rfl (St.noRef_app (by kernel_rfl) (hr 83 (by simp))) (.of 60 16 [.d (dI 0), .d (dU 0)] (by kernel_rfl) (by kernel_rfl) (by kernel_rfl) (by kernel_rfl) rfl (by kernel_rfl) rfl) rfl rfl (.subO (encWide) rfl hc33.1 hc33.2.1 hc33.2.2) hc34
        · exact DOk.one fun r hr => One.buildT (e := 60) (es := 2) (z := [.d (dI 0), .d (dU 0)]) (cells := [.d (dI 0), .d (dU 0)]) (encWide) ([(⟨0, 0⟩ : Wide)] : List Wide) rfl (by kernel_rfl) rfl rfl (St.noRef_app (by kernel_rfl) (hr 85 (by simp))) (by kernel_rfl) rfl (by kernel_rfl) rfl rfl rfl (by kernel_rfl) rfl ⟨⟨rfl, .refl _⟩, trivial⟩
        · exact DOk.drop (k := 83) (d := 86) (v := vL 2 encWide ((sub a5.2 (0 : Int) a18) ++ ([(⟨0, 0⟩ : Wide)] : List Wide))) (av := .c (oC 83 2 ((sub a5.2 (0 : Int) a18) ++ ([(⟨0, 0⟩ : Wide)] : List Wide)))) rfl (fun r hr => One.appendT (e := 60) (es := 2) (encWide) (sub a5.2 (0 : Int) a18) ([(⟨0, 0⟩ : Wide)] : List Wide) rfl rfl (by kernel_rfl) rfl rfl (.of 60 16 [.d (dI 0), .d (dU 0)] (by kernel_rfl) (by kernel_rfl) (by kernel_rfl) (by kernel_rfl) rfl (by kernel_rfl) rfl) rfl rfl rfl (.own rfl (by simp) rfl (shift0 (encWide) ([(⟨0, 0⟩ : Wide)] : List Wide) _)) hc35) (by kernel_rfl) (by kernel_rfl) (by kernel_rfl) (by kernel_rfl)
        · exact DOk.drop (k := 83) (d := 90) (v := vL 2 encWide (((sub a5.2 (0 : Int) a18) ++ ([(⟨0, 0⟩ : Wide)] : List Wide)) ++ (sub a5.2 a18 (a5.2.length : Int)))) (av := .c (oC 83 2 (((sub a5.2 (0 : Int) a18) ++ ([(⟨0, 0⟩ : Wide)] : List Wide)) ++ (sub a5.2 a18 (a5.2.length : Int))))) rfl (fun r hr => One.appendT (e := 60) (es := 2) (encWide) ((sub a5.2 (0 : Int) a18) ++ ([(⟨0, 0⟩ : Wide)] : List Wide)) (sub a5.2 a18 (a5.2.length : Int)) rfl rfl (by kernel_rfl) rfl rfl (.of 60 16 [.d (dI 0), .d (dU 0)] (by kernel_rfl) (by kernel_rfl) (by kernel_rfl) (by kernel_rfl) rfl (by kernel_rfl) rfl) rfl rfl rfl (.subO (encWide) rfl hc36.1 hc36.2.1 hc36.2.2) hc37) (by kernel_rfl) (by kernel_rfl) (by kernel_rfl) (by kernel_rfl)
        exact ⟨_, h, rfl⟩
       ·refine Tri.keep [8, 9, 11, 12, 33, 34, 35] [11, 1004, 1008, 1009] (s' := ⟨[(8, .c (oC 1008 6 a5.1)), (9, .c (oC 1009 2 a5.2)), (11, .c (.ptr 11 0)), (12, cD (dI a18)), (33, .c (oC 1004 6 a3)), (34, cD (dI (a3.length : Int))), (35, cD (dI ((i4 : Nat) : Int)))], [(11, .box (cUpdate (a3.getD (0 + i4) default))), (1004, vL 6 encUpdate a3), (1008, vL 6 encUpdate a5.1), (1009, vL 2 encWide a5.2)]⟩) (by kernel_rfl) ?_
        refine Tri.rename 1008 71 ⟨[(8, .c (oC 71 6 a5.1)), (9, .c (oC 1009 2 a5.2)), (11, .c (.ptr 11 0)), (12, cD (dI a18)), (33, .c (oC 1004 6 a3)), (34, cD (dI (a3.length : Int))), (35, cD (dI ((i4 : Nat) : Int)))], [(11, .box (cUpdate (a3.getD (0 + i4) default))), (1004, vL 6 encUpdate a3), (71, vL 6 encUpdate a5.1), (1009, vL 2 encWide a5.2)]⟩ (by kernel_rfl) rfl rfl rfl ?_
        refine Tri.keep [8, 9, 11, 12, 33, 34, 35] [11, 1004, 71, 1009] (s' := ⟨[(8, .c (oC 71 6 a5.1)), (9, .c (oC 1009 2 a5.2)), (11, .c (.ptr 11 0)), (12, cD (dI a18)), (33, .c (oC 1004 6 a3)), (34, cD (dI (a3.length : Int))), (35, cD (dI ((i4 : Nat) : Int)))], [(11, .box (cUpdate (a3.getD (0 + i4) default))), (1004, vL 6 encUpdate a3), (71, vL 6 encUpdate a5.1), (1009, vL 2 encWide a5.2)]⟩) (by kernel_rfl) ?_
        refine Tri.rename 1009 83 ⟨[(8, .c (oC 71 6 a5.1)), (9, .c (oC 83 2 a5.2)), (11, .c (.ptr 11 0)), (12, cD (dI a18)), (33, .c (oC 1004 6 a3)), (34, cD (dI (a3.length : Int))), (35, cD (dI ((i4 : Nat) : Int)))], [(11, .box (cUpdate (a3.getD (0 + i4) default))), (1004, vL 6 encUpdate a3), (71, vL 6 encUpdate a5.1), (83, vL 2 encWide a5.2)]⟩ (by kernel_rfl) rfl rfl rfl ?_
        refine Tri.keep [8, 9, 11, 12, 33, 34, 35] [11, 71, 83, 1004] (s' := ⟨[(8, .c (oC 71 6 a5.1)), (9, .c (oC 83 2 a5.2)), (11, .c (.ptr 11 0)), (12, cD (dI a18)), (33, .c (oC 1004 6 a3)), (34, cD (dI (a3.length : Int))), (35, cD (dI ((i4 : Nat) : Int)))], [(11, .box (cUpdate (a3.getD (0 + i4) default))), (71, vL 6 encUpdate a5.1), (83, vL 2 encWide a5.2), (1004, vL 6 encUpdate a3)]⟩) (by kernel_rfl) ?_
        refine Tri.skip ?_
        exact ⟨_, h, rfl⟩
      ·rcases bf_cases h with ⟨hp38, h⟩ | ⟨hp38, h⟩
       ·refine Tri.drawnS (s' := ⟨[(8, .c (oC 1008 6 a5.1)), (9, .c (oC 1009 2 a5.2)), (11, .c (.ptr 11 0)), (12, cD (dI a18)), (33, .c (oC 1004 6 a3)), (34, cD (dI (a3.length : Int))), (35, cD (dI ((i4 : Nat) : Int))), (66, cD (.bool true))], [(11, .box (cUpdate (a3.getD (0 + i4) default))), (1004, vL 6 encUpdate a3), (1008, vL 6 encUpdate a5.1), (1009, vL 2 encWide a5.2)]⟩) (cs := True ∧ True ∧ True ∧ True ∧ True ∧ True) [.a [12] [], .a [8] [], .a [55] [1008], .a [54, 56] [], .m ⟨[(57, cD (.bool (decide (a18 = (a5.1.length : Int)))))], []⟩ ⟨[(58, .c (.d (.bool true)))], []⟩ [] [] [], .a [8, 58] [], .a [12, 58] [], .a [58, 59, 60] [], .a [58, 61] [], .a [11, 58] [11], .a [58, 62, 63] [], .a [58, 64] [], .a [58, 65] []] [[], [], [1], [0, 1, 2], [0, 1, 2, 3], [0, 1, 2, 3, 4], [0, 1, 2, 3, 4], [0, 1, 2, 3, 4, 5, 6], [0, 1, 2, 3, 4, 5, 6, 7], [0, 1, 2, 3, 4], [0, 1, 2, 3, 4, 5, 6, 7, 8, 9], [0, 1, 2, 3, 4, 5, 6, 7, 8, 9, 10], [0, 1, 2, 3, 4, 5, 6, 7, 8, 9, 10, 11]] [8, 9, 11, 12, 33, 34, 35, 66] [11, 1004, 1008, 1009] (by kernel_rfl) (by kernel_rfl) (by kernel_rfl) (by kernel_rfl) (by kernel_rfl) ⟨trivial, trivial, trivial, trivial, trivial, trivial⟩ (.a (.a (.a (.a (.m ?_ (.a (.a (.a (.a (.a (.a (.a (.a .z))))))))))))) (by kernel_rfl) ?_
        · exact DOk.stepP (fun b => .val (.c (.d (.bool b))) (True)) (p := (decide (a18 = (a5.1.length : Int)))) hp38 (fun r => by kernel_rfl) (fun r => by kernel_rfl) trivial (by kernel_rfl) (by kernel_rfl) (fun r => rfl)
        exact ⟨_, h, rfl⟩
       ·obtain ⟨hc39, h⟩ := need_elim h
        obtain ⟨hc40, h⟩ := need_elim h
        obtain ⟨r41, hr41, h⟩ := bind_elim h
        refine Tri.drawnS (s' := ⟨[(8, .c (oC 1008 6 a5.1)), (9, .c (oC 1009 2 a5.2)), (11, .c (.ptr 11 0)), (12, cD (dI a18)), (33, .c (oC 1004 6 a3)), (34, cD (dI (a3.length : Int))), (35, cD (dI ((i4 : Nat) : Int))), (66, cD (.bool (decide (0 < r41))))], [(11, .box (cUpdate (a3.getD (0 + i4) default))), (1004, vL 6 encUpdate a3), (1008, vL 6 encUpdate a5.1), (1009, vL 2 encWide a5.2)]⟩) (cs := True ∧ True ∧ True ∧ True ∧ True ∧ True ∧ ((0 : Int) ≤ a18 ∧ a18 < (a5.1.length : Int)) ∧ ((0 + a18.toNat) < a5.1.length) ∧ True ∧ True ∧ True ∧ True) [.a [12] [], .a [8] [], .a [55] [1008], .a [54, 56] [], .m ⟨[(57, cD (.bool (decide (a18 = (a5.1.length : Int)))))], []⟩ ⟨[(58, .c (.d (.bool false)))], []⟩ [] [] [], .a [8, 58] [], .a [12, 58] [], .a [58, 59, 60] [1008], .a [58, 61] [1008], .a [11, 58] [11], .m ⟨[(58, cD (.bool false)), (62, .agg (cUpdate (a5.1.getD (0 + a18.toNat) default))), (63, .agg (cUpdate (a3.getD (0 + i4) default)))], []⟩ ⟨[(64, cD (dI r41))], []⟩ [] [] [], .a [58, 64] [], .a [58, 65] []] [[], [], [1], [0, 1, 2], [0, 1, 2, 3], [0, 1, 2, 3, 4], [0, 1, 2, 3, 4], [0, 1, 2, 3, 4, 5, 6], [0, 1, 2, 3, 4, 5, 6, 7], [0, 1, 2, 3, 4], [0, 1, 2, 3, 4, 5, 6, 7, 8, 9], [0, 1, 2, 3, 4, 5, 6, 7, 8, 9, 10], [0, 1, 2, 3, 4, 5, 6, 7, 8, 9, 10, 11]] [8, 9, 11, 12, 33, 34, 35, 66] [11, 1004, 1008, 1009] (by kernel_rfl) (by kernel_rfl) (by kernel_rfl) (by kernel_rfl) (by kernel_rfl) ⟨trivial, trivial, trivial, trivial, trivial, trivial, hc39, hc40, trivial, trivial, trivial, trivial⟩ (.a (.a (.a (.a (.m ?_ (.a (.a (.a (.a (.a (.m ?_ (.a (.a .z))))))))))))) (by kernel_rfl) ?_
        · exact DOk.stepP (fun b => .val (.c (.d (.bool b))) (True)) (p := (decide (a18 = (a5.1.length : Int)))) hp38 (fun r => by kernel_rfl) (fun r => by kernel_rfl) trivial (by kernel_rfl) (by kernel_rfl) (fun r => rfl)
        · exact DOk.callA (caps := []) (xs := [.agg (cUpdate (a5.1.getD (0 + a18.toNat) default)), .agg (cUpdate (a3.getD (0 + i4) default))]) (freshetref05_Compare_ok hr41) rfl (fun r => by kernel_rfl) rfl (fun r => by kernel_rfl) (fun r => by kernel_rfl) (fun r => (.cons (.refl _) (.cons (.refl _) .nil))) rfl rfl (fun r => rfl)
        exact ⟨_, h, rfl⟩
    · exact fun x => x.elim
   ·intro a6 h
    show Tri _ _ _ _
    refine Tri.segL [8, 9, 13] [1008, 1009] ⟨[(8, .c (oC 1008 6 a6.1)), (9, .c (oC 1009 2 a6.2)), (13, .c (.zero))], [(1008, vL 6 encUpdate a6.1), (1009, vL 2 encWide a6.2)]⟩ (allT 1) (by kernel_rfl) (allT_ok 1) ?_
    refine Tri.seqS ?_
    refine Tri.segL [9, 13, 102, 103, 104] [1008, 1009] ⟨[(9, .c (oC 1009 2 a6.2)), (13, .c (.zero)), (102, .c (oC 1008 6 a6.1)), (103, cD (dI (a6.1.length : Int))), (104, cD (dI 0))], [(1008, vL 6 encUpdate a6.1), (1009, vL 2 encWide a6.2)]⟩ (allT 3) (by kernel_rfl) (allT_ok 3) ?_
    refine Tri.lenOfO (t := 102) rfl rfl (Nat.le_refl _) fun hlena8 => ?_
    refine Tri.newOwn (t := 13) (k := 1013) (es := 6) (fun i => encUpdate (([] : List Update).getD i default)) rfl rfl rfl ?_
    refine Tri.keep [104, 9, 13, 102, 103] [1008, 1009, 1013] (s' := idx 104 0 ⟨[(9, .c (oC 1009 2 a6.2)), (13, .c (oC 1013 6 ([] : List Update))), (102, .c (oC 1008 6 a6.1)), (103, cD (dI (a6.1.length : Int)))], [(1008, vL 6 encUpdate a6.1), (1009, vL 2 encWide a6.2), (1013, vL 6 encUpdate ([] : List Update))]⟩) (by kernel_rfl) ?_
    refine Tri.range (n := a6.1.length) (st0 := ([] : List Update)) (fun (x : (List Update) × Int) s => RetAt Try.prog Try.f17 (.tup [(false, [.d (lD 6 encUpdate x.1)]), (false, [.d (dI x.2)])]) [] s) (fun (a8 : List Update) => ⟨[(9, .c (oC 1009 2 a6.2)), (13, .c (oC 1013 6 a8)), (102, .c (oC 1008 6 a6.1)), (103, cD (dI (a6.1.length : Int)))], [(1008, vL 6 encUpdate a6.1), (1009, vL 2 encWide a6.2), (1013, vL 6 encUpdate a8)]⟩) (fun (a8 : List Update) => ⟨[(9, .c (oC 1009 2 a6.2)), (13, .c (oC 1013 6 a8)), (102, .c (oC 1008 6 a6.1)), (103, cD (dI (a6.1.length : Int)))], [(1008, vL 6 encUpdate a6.1), (1009, vL 2 encWide a6.2), (1013, vL 6 encUpdate a8)]⟩) (fun i => decide ((i : Int) < (a6.1.length : Int))) [105, 104, 9, 13, 102, 103] [1008, 1009, 1013] [9, 13, 102, 103] [1008, 1009, 1013] [104, 9, 13, 102, 103] [1008, 1009, 1013] h hlena8 rfl ?_ ?_ ?_ ?_ ?_ ?_ ?_ ?_
    · exact fun i a => ⟨True ∧ True, by kernel_rfl, ⟨trivial, trivial⟩⟩
    · exact fun i hi => decide_eq_true (by omega)
    · exact decide_eq_false (by omega)
    · exact fun a => by kernel_rfl
    · exact fun i a => ⟨True ∧ True ∧ True, by kernel_rfl, ⟨trivial, trivial, trivial⟩⟩
    ·intro i7 a8 c hii7 h
     obtain ⟨hc11, h⟩ := need_elim h
     refine Tri.segL [9, 13, 14, 15, 102, 103, 104] [15, 1008, 1009, 1013] ⟨[(9, .c (oC 1009 2 a6.2)), (13, .c (oC 1013 6 a8)), (14, cD (dI ((i7 : Nat) : Int))), (15, .c (.ptr 15 0)), (102, .c (oC 1008 6 a6.1)), (103, cD (dI (a6.1.length : Int))), (104, cD (dI ((i7 : Nat) : Int)))], [(15, .box (cUpdate (a6.1.getD (0 + i7) default))), (1008, vL 6 encUpdate a6.1), (1009, vL 2 encWide a6.2), (1013, vL 6 encUpdate a8)]⟩ (True ∧ ((0 : Int) ≤ ((i7 : Nat) : Int) ∧ ((i7 : Nat) : Int) < (a6.1.length : Int)) ∧ ((0 + i7) < a6.1.length) ∧ True ∧ True ∧ True ∧ True) (by kernel_rfl) ⟨trivial, ⟨by omega, by omega⟩, hc11, trivial, trivial, trivial, trivial⟩ ?_
     refine Tri.seqS ?_
     refine Tri.reg ?_
     obtain ⟨hc12, h⟩ := need_elim h
     obtain ⟨hc13, h⟩ := need_elim h
     refine At.seg 4 [9, 13, 15, 102, 103, 104, 113] [15, 1008, 1009, 1013] (s' := ⟨[(9, .c (oC 1009 2 a6.2)), (13, .c (oC 1013 6 a8)), (15, .c (.ptr 15 0)), (102, .c (oC 1008 6 a6.1)), (103, cD (dI (a6.1.length : Int))), (104, cD (dI ((i7 : Nat) : Int))), (113, .agg (cWide (a6.2.getD (0 + i7) default)))], [(15, .box (cUpdate (a6.1.getD (0 + i7) default))), (1008, vL 6 encUpdate a6.1), (1009, vL 2 encWide a6.2), (1013, vL 6 encUpdate a8)]⟩) (c := True ∧ True ∧ ((0 : Int) ≤ ((i7 : Nat) : Int) ∧ ((i7 : Nat) : Int) < (a6.2.length : Int)) ∧ ((0 + i7) < a6.2.length) ∧ True) (by kernel_rfl) ⟨trivial, trivial, hc12, hc13, trivial⟩ ?_
     obtain ⟨r14, hr14, h⟩ := bind_elim h
     refine At.callA (caps := []) (xs := [.agg (cWide (a6.2.getD (0 + i7) default))]) (freshet_freshetref05_Wide_Fit_ok hr14) rfl rfl rfl rfl rfl rfl (.cons (.refl _) .nil) rfl rfl ?_
     refine At.seg 5 [9, 13, 15, 16, 17, 102, 103, 104] [15, 1008, 1009, 1013] (s' := ⟨[(9, .c (oC 1009 2 a6.2)), (13, .c (oC 1013 6 a8)), (15, .c (.ptr 15 0)), (16, cD (dI r14.1)), (17, cD (dI r14.2)), (102, .c (oC 1008 6 a6.1)), (103, cD (dI (a6.1.length : Int))), (104, cD (dI ((i7 : Nat) : Int)))], [(15, .box (cUpdate (a6.1.getD (0 + i7) default))), (1008, vL 6 encUpdate a6.1), (1009, vL 2 encWide a6.2), (1013, vL 6 encUpdate a8)]⟩) (c := True ∧ True ∧ True ∧ True ∧ True ∧ True) (by kernel_rfl) ⟨trivial, trivial, trivial, trivial, trivial, trivial⟩ ?_
     refine At.done rfl ?_
     show Tri _ _ _ _
     refine Tri.seqS ?_
     refine Tri.segL [9, 13, 15, 16, 17, 102, 103, 104, 118] [15, 1008, 1009, 1013] ⟨[(9, .c (oC 1009 2 a6.2)), (13, .c (oC 1013 6 a8)), (15, .c (.ptr 15 0)), (16, cD (dI r14.1)), (17, cD (dI r14.2)), (102, .c (oC 1008 6 a6.1)), (103, cD (dI (a6.1.length : Int))), (104, cD (dI ((i7 : Nat) : Int))), (118, cD (.bool (!decide (r14.2 = 0))))], [(15, .box (cUpdate (a6.1.getD (0 + i7) default))), (1008, vL 6 encUpdate a6.1), (1009, vL 2 encWide a6.2), (1013, vL 6 encUpdate a8)]⟩ (allT 2) (by kernel_rfl) (allT_ok 2) ?_
     refine Tri.condP (b := (!decide (r14.2 = 0))) rfl h (fun h => ?_) (fun h => ?_)
     ·refine Tri.segC [2, 3] [] (allT 3) (by kernel_rfl) (by kernel_rfl) (allT_ok 3) ?_
      refine Tri.keep [2, 3] [] (s' := ⟨[(2, .c (.zero)), (3, cD (dI r14.2))], []⟩) (by kernel_rfl) ?_
      refine Tri.le [] (fun k hk => by cases hk) ⟨[(2, cD (lD 6 encUpdate ([] : List Update))), (3, cD (dI r14.2))], []⟩ ⟨⟨_, rfl, .c (.zero _ _)⟩, ⟨_, rfl, .refl _⟩, trivial⟩ trivial ?_
      refine Tri.ret ?_
      cases h
      refine ⟨_, _, rfl, ⟨trivial, ⟨trivial, trivial⟩⟩, rfl, rfl, ?_⟩
      intro k c h
      cases h
     ·refine Tri.skip ?_
      show Tri _ _ _ _
      refine Tri.segC [9, 13, 15, 16, 102, 103, 104] [15, 1008, 1009, 1013] (allT 3) (by kernel_rfl) (by kernel_rfl) (allT_ok 3) ?_
      refine Tri.segL [9, 13, 15, 102, 103, 104, 123] [15, 1008, 1009, 1013] ⟨[(9, .c (oC 1009 2 a6.2)), (13, .c (oC 1013 6 a8)), (15, .c (.ptr 15 0)), (102, .c (oC 1008 6 a6.1)), (103, cD (dI (a6.1.length : Int))), (104, cD (dI ((i7 : Nat) : Int))), (123, cD (.bool (!decide (r14.1 = 0))))], [(15, .box [.d (lD 3 encValue ((a6.1.getD (0 + i7) default).key)), .d (lD 3 encValue ((a6.1.getD (0 + i7) default).row)), .d (dU ((a6.1.getD (0 + i7) default).time.epoch)), .d (dU ((a6.1.getD (0 + i7) default).time.loop.1)), .d (dU ((a6.1.getD (0 + i7) default).time.loop.2)), .d (dI r14.1)]), (1008, vL 6 encUpdate a6.1), (1009, vL 2 encWide a6.2), (1013, vL 6 encUpdate a8)]⟩ (allT 2) (by kernel_rfl) (allT_ok 2) ?_
      refine Tri.condP (b := (!decide (r14.1 = 0))) rfl h (fun h => ?_) (fun h => ?_)
      ·refine Tri.reg ?_
       refine At.seg 2 [9, 102, 103, 104, 124, 125] [1008, 1009, 1013] (s' := ⟨[(9, .c (oC 1009 2 a6.2)), (102, .c (oC 1008 6 a6.1)), (103, cD (dI (a6.1.length : Int))), (104, cD (dI ((i7 : Nat) : Int))), (124, .c (oC 1013 6 a8)), (125, .agg [.d (lD 3 encValue ((a6.1.getD (0 + i7) default).key)), .d (lD 3 encValue ((a6.1.getD (0 + i7) default).row)), .d (dU ((a6.1.getD (0 + i7) default).time.epoch)), .d (dU ((a6.1.getD (0 + i7) default).time.loop.1)), .d (dU ((a6.1.getD (0 + i7) default).time.loop.2)), .d (dI r14.1)])], [(1008, vL 6 encUpdate a6.1), (1009, vL 2 encWide a6.2), (1013, vL 6 encUpdate a8)]⟩) (c := True ∧ True ∧ True) (by kernel_rfl) ⟨trivial, trivial, trivial⟩ ?_
       refine At.one rfl (One.buildSlice (z := [.zero, .zero, .d (dU 0), .d (dU 0), .d (dU 0), .d (dI 0)]) (cells := [.d (lD 3 encValue ((a6.1.getD (0 + i7) default).key)), .d (lD 3 encValue ((a6.1.getD (0 + i7) default).row)), .d (dU ((a6.1.getD (0 + i7) default).time.epoch)), .d (dU ((a6.1.getD (0 + i7) default).time.loop.1)), .d (dU ((a6.1.getD (0 + i7) default).time.loop.2)), .d (dI r14.1)]) (xs := List.map (encUpdate) ([(⟨(a6.1.getD (0 + i7) default).key, (a6.1.getD (0 + i7) default).row, (a6.1.getD (0 + i7) default).time, r14.1⟩ : Update)] : List Update)) rfl rfl rfl rfl (by kernel_rfl) rfl rfl (by kernel_rfl) rfl rfl rfl (by kernel_rfl) rfl ⟨⟨rfl, .refl _⟩, trivial⟩) ?_
       refine At.le [126] (fun k hk h => by first | (cases h; done) | (simp at hk h; omega)) ⟨[(126, cD (lD 6 encUpdate ([(⟨(a6.1.getD (0 + i7) default).key, (a6.1.getD (0 + i7) default).row, (a6.1.getD (0 + i7) default).time, r14.1⟩ : Update)] : List Update))), (9, .c (oC 1009 2 a6.2)), (102, .c (oC 1008 6 a6.1)), (103, cD (dI (a6.1.length : Int))), (104, cD (dI ((i7 : Nat) : Int))), (124, .c (oC 1013 6 a8)), (125, .agg [.d (lD 3 encValue ((a6.1.getD (0 + i7) default).key)), .d (lD 3 encValue ((a6.1.getD (0 + i7) default).row)), .d (dU ((a6.1.getD (0 + i7) default).time.epoch)), .d (dU ((a6.1.getD (0 + i7) default).time.loop.1)), .d (dU ((a6.1.getD (0 + i7) default).time.loop.2)), .d (dI r14.1)])], [(1008, vL 6 encUpdate a6.1), (1009, vL 2 encWide a6.2), (1013, vL 6 encUpdate a8)]⟩ ⟨⟨_, rfl, .c (.own rfl (List.mem_singleton.2 rfl) (Nat.le_of_ble_eq_true rfl) rfl (encs_getD (encUpdate) ([(⟨(a6.1.getD (0 + i7) default).key, (a6.1.getD (0 + i7) default).row, (a6.1.getD (0 + i7) default).time, r14.1⟩ : Update)] : List Update)))⟩, ⟨_, rfl, .refl _⟩, ⟨_, rfl, .refl _⟩, ⟨_, rfl, .refl _⟩, ⟨_, rfl, .refl _⟩, ⟨_, rfl, .refl _⟩, ⟨_, rfl, .refl _⟩, trivial⟩ ⟨⟨_, rfl, .refl _, (by simp)⟩, ⟨_, rfl, .refl _, (by simp)⟩, ⟨_, rfl, .refl _, (by simp)⟩, trivial⟩ ?_
       obtain ⟨hc15, h⟩ := need_elim h
       refine At.one rfl (One.appendT (e := 44) (es := 6) (encUpdate) a8 ([(⟨(a6.1.getD (0 + i7) default).key, (a6.1.getD (0 + i7) default).row, (a6.1.getD (0 + i7) default).time, r14.1⟩ : Update)] : List Update) rfl rfl rfl rfl rfl (.of 44 80 [.zero, .zero, .d (dU 0), .d (dU 0), .d (dU 0), .d (dI 0)] (by kernel_rfl) (by kernel_rfl) (by kernel_rfl) (by kernel_rfl) rfl (by kernel_rfl) rfl) rfl rfl rfl (.list rfl (fun _ _ => rfl)) hc15) ?_
       refine At.seg 1 [104, 9, 13, 102, 103] [1008, 1009, 1013] (s' := ⟨[(104, cD (dI ((i7 : Nat) : Int))), (9, .c (oC 1009 2 a6.2)), (13, .c (oC 1013 6 (a8 ++ ([(⟨(a6.1.getD (0 + i7) default).key, (a6.1.getD (0 + i7) default).row, (a6.1.getD (0 + i7) default).time, r14.1⟩ : Update)] : List Update)))), (102, .c (oC 1008 6 a6.1)), (103, cD (dI (a6.1.length : Int)))], [(1008, vL 6 encUpdate a6.1), (1009, vL 2 encWide a6.2), (1013, vL 6 encUpdate (a8 ++ ([(⟨(a6.1.getD (0 + i7) default).key, (a6.1.getD (0 + i7) default).row, (a6.1.getD (0 + i7) default).time, r14.1⟩ : Update)] : List Update)))]⟩) (c := True ∧ True) (by kernel_rfl) ⟨trivial, trivial⟩ ?_
       refine At.done rfl ?_
       cases h
       exact rfl
      ·refine Tri.keep [104, 9, 13, 102, 103] [1008, 1009, 1013] (s' := ⟨[(104, cD (dI ((i7 : Nat) : Int))), (9, .c (oC 1009 2 a6.2)), (13, .c (oC 1013 6 a8)), (102, .c (oC 1008 6 a6.1)), (103, cD (dI (a6.1.length : Int)))], [(1008, vL 6 encUpdate a6.1), (1009, vL 2 encWide a6.2), (1013, vL 6 encUpdate a8)]⟩) (by kernel_rfl) ?_
       refine Tri.skip ?_
       cases h
       exact rfl
    ·intro a9 h
     show Tri _ _ _ _
     refine Tri.seqS ?_
     refine Tri.reg ?_
     refine At.seg 1 [129] [1013] (s' := ⟨[(129, .c (oC 1013 6 a9))], [(1013, vL 6 encUpdate a9)]⟩) (c := True ∧ True) (by kernel_rfl) ⟨trivial, trivial⟩ ?_
     obtain ⟨r10, hr10, h⟩ := bind_elim h
     refine At.callA (caps := []) (xs := [.c (oC 1013 6 a9)]) (freshetref05_Copy_ok_v0 hr10) rfl rfl rfl rfl rfl rfl (.cons (AVArg.view (encUpdate) a9 rfl) .nil) rfl rfl ?_
     refine At.seg 2 [2, 3] [] (s' := ⟨[(2, cD (lD 6 encUpdate r10)), (3, cD (dI 0))], []⟩) (c := True ∧ True ∧ True) (by kernel_rfl) ⟨trivial, trivial, trivial⟩ ?_
     refine At.done rfl ?_
     show Tri _ _ _ _
     refine Tri.keep [2, 3] [] (s' := ⟨[(2, cD (lD 6 encUpdate r10)), (3, cD (dI 0))], []⟩) (by kernel_rfl) ?_
     refine Tri.ret ?_
     cases h
     refine ⟨_, _, rfl, ⟨trivial, ⟨trivial, trivial⟩⟩, rfl, rfl, ?_⟩
     intro k c h
     cases h
    · exact fun x s hx hr => by cases hx; exact hr
   · exact fun x => x.elim
  · exact fun x s hx hr => by cases hx; exact hr
set_option maxRecDepth 100000 in
theorem freshetref05_Even_ok {fuel : Nat} {p0 : List Update} {q : Bool} (h : freshetref05_Even fuel p0 = some q) :
    Summ Try.prog 23 [cD (lD 6 encUpdate p0)] [] (cD (.bool q)) [] := by
  refine Summ.intro Try.func23 rfl (by kernel_rfl) (by kernel_rfl) [] rfl ?_
  rintro ⟨P, w0, G0, V, LL, lk, N, φ0, fx⟩ rfl rfl rfl rfl
  unfold freshetref05_Even at h
  refine Tri.segL [0] [] ⟨[(0, cD (lD 6 encUpdate p0))], []⟩ (allT 1) (by kernel_rfl) (allT_ok 1) ?_
  refine Tri.seqS ?_
  refine Tri.segL [0, 5, 6, 7] [] ⟨[(0, cD (lD 6 encUpdate p0)), (5, cD (lD 6 encUpdate p0)), (6, cD (dI (p0.length : Int))), (7, cD (dI 0))], []⟩ (allT 3) (by kernel_rfl) (allT_ok 3) ?_
  refine Tri.lenOf (t := 5) rfl fun hlena2 => ?_
  refine Tri.keep [7, 0, 5, 6] [] (s' := idx 7 0 ⟨[(0, cD (lD 6 encUpdate p0)), (5, cD (lD 6 encUpdate p0)), (6, cD (dI (p0.length : Int)))], []⟩) (by kernel_rfl) ?_
  refine Tri.range (n := p0.length) (st0 := ()) (fun (x : Bool) s => RetAt Try.prog Try.f23 (cD (.bool x)) [] s) (fun (a2 : Unit) => ⟨[(0, cD (lD 6 encUpdate p0)), (5, cD (lD 6 encUpdate p0)), (6, cD (dI (p0.length : Int)))], []⟩) (fun (a2 : Unit) => ⟨[(0, cD (lD 6 encUpdate p0)), (5, cD (lD 6 encUpdate p0)), (6, cD (dI (p0.length : Int)))], []⟩) (fun i => decide ((i : Int) < (p0.length : Int))) [8, 7, 0, 5, 6] [] [0, 5, 6] [] [7, 0, 5, 6] [] h hlena2 rfl ?_ ?_ ?_ ?_ ?_ ?_ ?_ ?_
  · exact fun i a => ⟨True ∧ True, by kernel_rfl, ⟨trivial, trivial⟩⟩
  · exact fun i hi => decide_eq_true (by omega)
  · exact decide_eq_false (by omega)
  · exact fun a => by kernel_rfl
  · exact fun i a => ⟨True ∧ True ∧ True, by kernel_rfl, ⟨trivial, trivial, trivial⟩⟩
  ·intro i1 a2 c hii1 h
   refine Tri.segL [0, 3, 4, 5, 6, 7] [4] ⟨[(0, cD (lD 6 encUpdate p0)), (3, cD (dI ((i1 : Nat) : Int))), (4, .c (.ptr 4 0)), (5, cD (lD 6 encUpdate p0)), (6, cD (dI (p0.length : Int))), (7, cD (dI ((i1 : Nat) : Int)))], [(4, .box (cUpdate (p0.getD i1 default)))]⟩ (True ∧ ((0 : Int) ≤ ((i1 : Nat) : Int) ∧ ((i1 : Nat) : Int) < (p0.length : Int)) ∧ True ∧ True ∧ True ∧ True ∧ True) (by kernel_rfl) ⟨trivial, ⟨by omega, by omega⟩, trivial, trivial, trivial, trivial, trivial⟩ ?_
   refine Tri.seqJ (fun (a5 : Bool) => ⟨[(0, cD (lD 6 encUpdate p0)), (5, cD (lD 6 encUpdate p0)), (6, cD (dI (p0.length : Int))), (7, cD (dI ((i1 : Nat) : Int))), (28, cD (.bool a5))], []⟩) h (fun a5 h => ?_) (fun j6 h => ?_)
   ·show Tri _ _ ⟨[(0, cD (lD 6 encUpdate p0)), (5, cD (lD 6 encUpdate p0)), (6, cD (dI (p0.length : Int))), (7, cD (dI ((i1 : Nat) : Int))), (28, cD (.bool a5))], []⟩ _
    refine Tri.condP (b := a5) rfl h (fun h => ?_) (fun h => ?_)
    ·refine Tri.segC [2] [] (allT 1) (by kernel_rfl) (by kernel_rfl) (allT_ok 1) ?_
     refine Tri.keep [2] [] (s' := ⟨[(2, cD (.bool false))], []⟩) (by kernel_rfl) ?_
     refine Tri.ret ?_
     cases h
     refine ⟨_, _, rfl, ⟨trivial, trivial⟩, rfl, rfl, ?_⟩
     intro k c h
     cases h
    ·refine Tri.keep [7, 0, 5, 6] [] (s' := ⟨[(7, cD (dI ((i1 : Nat) : Int))), (0, cD (lD 6 encUpdate p0)), (5, cD (lD 6 encUpdate p0)), (6, cD (dI (p0.length : Int)))], []⟩) (by kernel_rfl) ?_
     refine Tri.skip ?_
     cases h
     exact rfl
   ·rcases bf_cases h with ⟨hp7, h⟩ | ⟨hp7, h⟩
    ·refine Tri.drawnS (s' := ⟨[(0, cD (lD 6 encUpdate p0)), (5, cD (lD 6 encUpdate p0)), (6, cD (dI (p0.length : Int))), (7, cD (dI ((i1 : Nat) : Int))), (28, cD (.bool true))], []⟩) (cs := True ∧ True ∧ True ∧ True ∧ True) [.a [4] [], .a [12] [4], .a [13] [], .m ⟨[(14, cD (.bool (decide ((p0.getD i1 default).diff = 0))))], []⟩ ⟨[(15, .c (.d (.bool true)))], []⟩ [] [] [], .a [3, 15] [], .a [15, 16] [], .a [15, 17] [], .a [0, 18] [], .a [3, 18] [], .a [18, 20] [], .a [18, 19, 21] [], .a [18, 22] [], .a [4, 18] [4], .a [18, 23, 24] [], .a [18, 25] [], .a [15, 18, 26] [], .a [15, 27] []] [[], [0], [0, 1], [0, 1, 2], [0, 1, 2, 3], [0, 1, 2, 3, 4], [0, 1, 2, 3, 4, 5], [0, 1, 2, 3, 4, 5, 6], [0, 1, 2, 3, 4, 5, 6], [0, 1, 2, 3, 4, 5, 6, 8], [0, 1, 2, 3, 4, 5, 6, 7, 8, 9], [0, 1, 2, 3, 4, 5, 6, 7, 8, 9, 10], [0, 1, 2, 3, 4, 5, 6], [0, 1, 2, 3, 4, 5, 6, 7, 8, 9, 10, 11, 12], [0, 1, 2, 3, 4, 5, 6, 7, 8, 9, 10, 11, 12, 13], [0, 1, 2, 3, 4, 5, 6, 7, 8, 9, 10, 11, 12, 13, 14], [0, 1, 2, 3, 4, 5, 6, 7, 8, 9, 10, 11, 12, 13, 14, 15]] [0, 5, 6, 7, 28] [] (by kernel_rfl) (by kernel_rfl) (by kernel_rfl) (by kernel_rfl) (by kernel_rfl) ⟨trivial, trivial, trivial, trivial, trivial⟩ (.a (.a (.a (.m ?_ (.a (.a (.a (.a (.a (.a (.a (.a (.a (.a (.a (.a (.a .z))))))))))))))))) (by kernel_rfl) ?_
     · exact DOk.stepP (fun b => .val (.c (.d (.bool b))) (True)) (p := (decide ((p0.getD i1 default).diff = 0))) hp7 (fun r => by kernel_rfl) (fun r => by kernel_rfl) trivial (by kernel_rfl) (by kernel_rfl) (fun r => rfl)
     exact ⟨_, h, rfl⟩
    ·rcases bf_cases h with ⟨hp8, h⟩ | ⟨hp8, h⟩
     ·obtain ⟨hc9, h⟩ := need_elim h
      obtain ⟨r10, hr10, h⟩ := bind_elim h
      refine Tri.drawnS (s' := ⟨[(0, cD (lD 6 encUpdate p0)), (5, cD (lD 6 encUpdate p0)), (6, cD (dI (p0.length : Int))), (7, cD (dI ((i1 : Nat) : Int))), (28, cD (.bool (decide (0 ≤ r10))))], []⟩) (cs := True ∧ True ∧ True ∧ True ∧ True ∧ True ∧ True ∧ True ∧ ((0 : Int) ≤ (IntKind.i64.wrap (((i1 : Nat) : Int) - 1)) ∧ (IntKind.i64.wrap (((i1 : Nat) : Int) - 1)) < (p0.length : Int)) ∧ True ∧ True ∧ True ∧ True ∧ True ∧ True) [.a [4] [], .a [12] [4], .a [13] [], .m ⟨[(14, cD (.bool (decide ((p0.getD i1 default).diff = 0))))], []⟩ ⟨[(15, .c (.d (.bool false)))], []⟩ [] [] [], .a [3, 15] [], .a [15, 16] [], .m ⟨[(15, cD (.bool false)), (17, cD (.bool (decide (0 < ((i1 : Nat) : Int)))))], []⟩ ⟨[(18, .c (.d (.bool true)))], []⟩ [] [] [], .a [0, 18] [], .a [3, 18] [], .a [18, 20] [], .a [18, 19, 21] [], .a [18, 22] [], .a [4, 18] [4], .m ⟨[(18, cD (.bool true)), (23, .agg (cUpdate (p0.getD ((IntKind.i64.wrap (((i1 : Nat) : Int) - 1)).toNat) default))), (24, .agg (cUpdate (p0.getD i1 default)))], []⟩ ⟨[(25, cD (dI r10))], []⟩ [] [] [], .a [18, 25] [], .a [15, 18, 26] [], .a [15, 27] []] [[], [0], [0, 1], [0, 1, 2], [0, 1, 2, 3], [0, 1, 2, 3, 4], [0, 1, 2, 3, 4, 5], [0, 1, 2, 3, 4, 5, 6], [0, 1, 2, 3, 4, 5, 6], [0, 1, 2, 3, 4, 5, 6, 8], [0, 1, 2, 3, 4, 5, 6, 7, 8, 9], [0, 1, 2, 3, 4, 5, 6, 7, 8, 9, 10], [0, 1, 2, 3, 4, 5, 6], [0, 1, 2, 3, 4, 5, 6, 7, 8, 9, 10, 11, 12], [0, 1, 2, 3, 4, 5, 6, 7, 8, 9, 10, 11, 12, 13], [0, 1, 2, 3, 4, 5, 6, 7, 8, 9, 10, 11, 12, 13, 14], [0, 1, 2, 3, 4, 5, 6, 7, 8, 9, 10, 11, 12, 13, 14, 15]] [0, 5, 6, 7, 28] [] (by kernel_rfl) (by kernel_rfl) (by kernel_rfl) (by kernel_rfl) (by kernel_rfl) ⟨trivial, trivial, trivial, trivial, trivial, trivial, trivial, trivial, hc9, trivial, trivial, trivial, trivial, trivial, trivial⟩ (.a (.a (.a (.m ?_ (.a (.a (.m ?_ (.a (.a (.a (.a (.a (.a (.m ?_ (.a (.a (.a .z))))))))))))))))) (by kernel_rfl) ?_
      · exact DOk.stepP (fun b => .val (.c (.d (.bool b))) (True)) (p := (decide ((p0.getD i1 default).diff = 0))) hp7 (fun r => by kernel_rfl) (fun r => by kernel_rfl) trivial (by kernel_rfl) (by kernel_rfl) (fun r => rfl)
      · exact DOk.stepP (fun b => .val (.c (.d (.bool b))) (True)) (p := (decide (0 < ((i1 : Nat) : Int)))) hp8 (fun r => by kernel_rfl) (fun r => by kernel_rfl) trivial (by kernel_rfl) (by kernel_rfl) (fun r => rfl)
      · exact DOk.callA (caps := []) (xs := [.agg (cUpdate (p0.getD ((IntKind.i64.wrap (((i1 : Nat) : Int) - 1)).toNat) default)), .agg (cUpdate (p0.getD i1 default))]) (freshetref05_Compare_ok hr10) rfl (fun r => by kernel_rfl) rfl (fun r => by kernel_rfl) (fun r => by kernel_rfl) (fun r => (.cons (.refl _) (.cons (.refl _) .nil))) rfl rfl (fun r => rfl)
      exact ⟨_, h, rfl⟩
     ·refine Tri.drawnS (s' := ⟨[(0, cD (lD 6 encUpdate p0)), (5, cD (lD 6 encUpdate p0)), (6, cD (dI (p0.length : Int))), (7, cD (dI ((i1 : Nat) : Int))), (28, cD (.bool false))], []⟩) (cs := True ∧ True ∧ True ∧ True ∧ True ∧ True ∧ True ∧ True) [.a [4] [], .a [12] [4], .a [13] [], .m ⟨[(14, cD (.bool (decide ((p0.getD i1 default).diff = 0))))], []⟩ ⟨[(15, .c (.d (.bool false)))], []⟩ [] [] [], .a [3, 15] [], .a [15, 16] [], .m ⟨[(15, cD (.bool false)), (17, cD (.bool (decide (0 < ((i1 : Nat) : Int)))))], []⟩ ⟨[(18, .c (.d (.bool false)))], []⟩ [] [] [], .a [0, 18] [], .a [3, 18] [], .a [18, 20] [], .a [18, 19, 21] [], .a [18, 22] [], .a [4, 18] [4], .a [18, 23, 24] [], .a [18, 25] [], .a [15, 18, 26] [], .a [15, 27] []] [[], [0], [0, 1], [0, 1, 2], [0, 1, 2, 3], [0, 1, 2, 3, 4], [0, 1, 2, 3, 4, 5], [0, 1, 2, 3, 4, 5, 6], [0, 1, 2, 3, 4, 5, 6], [0, 1, 2, 3, 4, 5, 6, 8], [0, 1, 2, 3, 4, 5, 6, 7, 8, 9], [0, 1, 2, 3, 4, 5, 6, 7, 8, 9, 10], [0, 1, 2, 3, 4, 5, 6], [0, 1, 2, 3, 4, 5, 6, 7, 8, 9, 10, 11, 12], [0, 1, 2, 3, 4, 5, 6, 7, 8, 9, 10, 11, 12, 13], [0, 1, 2, 3, 4, 5, 6, 7, 8, 9, 10, 11, 12, 13, 14], [0, 1, 2, 3, 4, 5, 6, 7, 8, 9, 10, 11, 12, 13, 14, 15]] [0, 5, 6, 7, 28] [] (by kernel_rfl) (by kernel_rfl) (by kernel_rfl) (by kernel_rfl) (by kernel_rfl) ⟨trivial, trivial, trivial, trivial, trivial, trivial, trivial, trivial⟩ (.a (.a (.a (.m ?_ (.a (.a (.m ?_ (.a (.a (.a (.a (.a (.a (.a (.a (.a (.a .z))))))))))))))))) (by kernel_rfl) ?_
      · exact DOk.stepP (fun b => .val (.c (.d (.bool b))) (True)) (p := (decide ((p0.getD i1 default).diff = 0))) hp7 (fun r => by kernel_rfl) (fun r => by kernel_rfl) trivial (by kernel_rfl) (by kernel_rfl) (fun r => rfl)
      · exact DOk.stepP (fun b => .val (.c (.d (.bool b))) (True)) (p := (decide (0 < ((i1 : Nat) : Int)))) hp8 (fun r => by kernel_rfl) (fun r => by kernel_rfl) trivial (by kernel_rfl) (by kernel_rfl) (fun r => rfl)
      exact ⟨_, h, rfl⟩
  ·intro a3 h
   show Tri _ _ _ _
   refine Tri.seqS ?_
   refine Tri.reg ?_
   refine At.seg 1 [30] [] (s' := ⟨[(30, cD (lD 6 encUpdate p0))], []⟩) (c := True ∧ True) (by kernel_rfl) ⟨trivial, trivial⟩ ?_
   obtain ⟨r4, hr4, h⟩ := bind_elim h
   refine At.callA (caps := []) (xs := [cD (lD 6 encUpdate p0)]) (freshetref05_Check_ok hr4) rfl rfl rfl rfl rfl rfl (.cons (.refl _) .nil) rfl rfl ?_
   refine At.seg 2 [2] [] (s' := ⟨[(2, cD (.bool (decide (r4 = 0))))], []⟩) (c := True ∧ True ∧ True) (by kernel_rfl) ⟨trivial, trivial, trivial⟩ ?_
   refine At.done rfl ?_
   show Tri _ _ _ _
   refine Tri.keep [2] [] (s' := ⟨[(2, cD (.bool (decide (r4 = 0))))], []⟩) (by kernel_rfl) ?_
   refine Tri.ret ?_
   cases h
   refine ⟨_, _, rfl, ⟨trivial, trivial⟩, rfl, rfl, ?_⟩
   intro k c h
   cases h
  · exact fun x s hx hr => by cases hx; exact hr
set_option maxRecDepth 100000 in
theorem freshetlaw05_DiffLists_ok {fuel : Nat} {p0 : List (List Update)} {q : Bool} (h : freshetlaw05_DiffLists fuel p0 = some q) :
    Summ Try.prog 5 [cD (lD 1 (fun xs => [encL 6 encUpdate xs]) p0)] [] (cD (.bool q)) [] := by
  refine Summ.intro Try.func5 rfl (by kernel_rfl) (by kernel_rfl) [] rfl ?_
  rintro ⟨P, w0, G0, V, LL, lk, N, φ0, fx⟩ rfl rfl rfl rfl
  unfold freshetlaw05_DiffLists at h
  refine Tri.segL [0] [] ⟨[(0, cD (lD 1 (fun xs => [encL 6 encUpdate xs]) p0))], []⟩ (allT 1) (by kernel_rfl) (allT_ok 1) ?_
  refine Tri.seqS ?_
  refine Tri.reg ?_
  refine At.seg 1 [0, 10] [] (s' := ⟨[(0, cD (lD 1 (fun xs => [encL 6 encUpdate xs]) p0)), (10, cD (lD 1 (fun xs => [encL 6 encUpdate xs]) p0))], []⟩) (c := True ∧ True) (by kernel_rfl) ⟨trivial, trivial⟩ ?_
  obtain ⟨r1, hr1, h⟩ := bind_elim h
  refine At.callA (caps := []) (xs := [cD (lD 1 (fun xs => [encL 6 encUpdate xs]) p0)]) (diff_Consolidate_ok hr1) rfl rfl rfl rfl rfl rfl (.cons (.refl _) .nil) rfl rfl ?_
  refine At.seg 5 [0, 3, 4] [] (s' := ⟨[(0, cD (lD 1 (fun xs => [encL 6 encUpdate xs]) p0)), (3, cD (lD 6 encUpdate r1.1)), (4, cD (dI r1.2))], []⟩) (c := True ∧ True ∧ True ∧ True ∧ True ∧ True) (by kernel_rfl) ⟨trivial, trivial, trivial, trivial, trivial, trivial⟩ ?_
  refine At.done rfl ?_
  show Tri _ _ _ _
  refine Tri.seqS ?_
  refine Tri.reg ?_
  refine At.seg 1 [0, 3, 4, 15] [] (s' := ⟨[(0, cD (lD 1 (fun xs => [encL 6 encUpdate xs]) p0)), (3, cD (lD 6 encUpdate r1.1)), (4, cD (dI r1.2)), (15, cD (lD 1 (fun xs => [encL 6 encUpdate xs]) p0))], []⟩) (c := True ∧ True) (by kernel_rfl) ⟨trivial, trivial⟩ ?_
  obtain ⟨r2, hr2, h⟩ := bind_elim h
  refine At.callA (caps := []) (xs := [cD (lD 1 (fun xs => [encL 6 encUpdate xs]) p0)]) (freshetref05_Consolidate_ok hr2) rfl rfl rfl rfl rfl rfl (.cons (.refl _) .nil) rfl rfl ?_
  refine At.seg 5 [0, 3, 4, 5, 6] [] (s' := ⟨[(0, cD (lD 1 (fun xs => [encL 6 encUpdate xs]) p0)), (3, cD (lD 6 encUpdate r1.1)), (4, cD (dI r1.2)), (5, cD (lD 6 encUpdate r2.1)), (6, cD (dI r2.2))], []⟩) (c := True ∧ True ∧ True ∧ True ∧ True ∧ True) (by kernel_rfl) ⟨trivial, trivial, trivial, trivial, trivial, trivial⟩ ?_
  refine At.done rfl ?_
  show Tri _ _ _ _
  refine Tri.seqS ?_
  refine Tri.seqJ (fun (a3 : Bool) => ⟨[(0, cD (lD 1 (fun xs => [encL 6 encUpdate xs]) p0)), (31, cD (.bool a3))], []⟩) h (fun a3 h => ?_) (fun j4 h => ?_)
  ·show Tri _ _ ⟨[(0, cD (lD 1 (fun xs => [encL 6 encUpdate xs]) p0)), (31, cD (.bool a3))], []⟩ _
   refine Tri.condP (b := a3) rfl h (fun h => ?_) (fun h => ?_)
   ·refine Tri.segC [2] [] (allT 1) (by kernel_rfl) (by kernel_rfl) (allT_ok 1) ?_
    refine Tri.keep [2] [] (s' := ⟨[(2, cD (.bool false))], []⟩) (by kernel_rfl) ?_
    refine Tri.ret ?_
    cases h
    refine ⟨_, _, rfl, ⟨trivial, trivial⟩, rfl, rfl, ?_⟩
    intro k c h
    cases h
   ·refine Tri.skip ?_
    show Tri _ _ _ _
    refine Tri.seqS ?_
    refine Tri.segL [32, 33, 34] [] ⟨[(32, cD (lD 1 (fun xs => [encL 6 encUpdate xs]) p0)), (33, cD (dI (p0.length : Int))), (34, cD (dI 0))], []⟩ (allT 3) (by kernel_rfl) (allT_ok 3) ?_
    refine Tri.lenOf (t := 32) rfl fun hlena6 => ?_
    refine Tri.keep [34, 32, 33] [] (s' := idx 34 0 ⟨[(32, cD (lD 1 (fun xs => [encL 6 encUpdate xs]) p0)), (33, cD (dI (p0.length : Int)))], []⟩) (by kernel_rfl) ?_
    refine Tri.range (n := p0.length) (st0 := ()) (fun (x : Bool) s => RetAt Try.prog Try.f5 (cD (.bool x)) [] s) (fun (a6 : Unit) => ⟨[(32, cD (lD 1 (fun xs => [encL 6 encUpdate xs]) p0)), (33, cD (dI (p0.length : Int)))], []⟩) (fun (a6 : Unit) => ⟨[(32, cD (lD 1 (fun xs => [encL 6 encUpdate xs]) p0)), (33, cD (dI (p0.length : Int)))], []⟩) (fun i => decide ((i : Int) < (p0.length : Int))) [35, 34, 32, 33] [] [32, 33] [] [34, 32, 33] [] h hlena6 rfl ?_ ?_ ?_ ?_ ?_ ?_ ?_ ?_
    · exact fun i a => ⟨True ∧ True, by kernel_rfl, ⟨trivial, trivial⟩⟩
    · exact fun i hi => decide_eq_true (by omega)
    · exact decide_eq_false (by omega)
    · exact fun a => by kernel_rfl
    · exact fun i a => ⟨True ∧ True ∧ True, by kernel_rfl, ⟨trivial, trivial, trivial⟩⟩
    ·intro i5 a6 c hii5 h
     refine Tri.segL [7, 8, 32, 33, 34] [] ⟨[(7, cD (dI ((i5 : Nat) : Int))), (8, cD (lD 6 encUpdate (p0.getD i5 default))), (32, cD (lD 1 (fun xs => [encL 6 encUpdate xs]) p0)), (33, cD (dI (p0.length : Int))), (34, cD (dI ((i5 : Nat) : Int)))], []⟩ (True ∧ ((0 : Int) ≤ ((i5 : Nat) : Int) ∧ ((i5 : Nat) : Int) < (p0.length : Int)) ∧ True ∧ True ∧ True ∧ True) (by kernel_rfl) ⟨trivial, ⟨by omega, by omega⟩, trivial, trivial, trivial, trivial⟩ ?_
     refine Tri.seqS ?_
     refine Tri.seqJ (fun (a8 : Bool) => ⟨[(7, cD (dI ((i5 : Nat) : Int))), (32, cD (lD 1 (fun xs => [encL 6 encUpdate xs]) p0)), (33, cD (dI (p0.length : Int))), (34, cD (dI ((i5 : Nat) : Int))), (72, cD (.bool a8))], []⟩) h (fun a8 h => ?_) (fun j9 h => ?_)
     ·show Tri _ _ ⟨[(7, cD (dI ((i5 : Nat) : Int))), (32, cD (lD 1 (fun xs => [encL 6 encUpdate xs]) p0)), (33, cD (dI (p0.length : Int))), (34, cD (dI ((i5 : Nat) : Int))), (72, cD (.bool a8))], []⟩ _
      refine Tri.condP (b := a8) rfl h (fun h => ?_) (fun h => ?_)
      ·refine Tri.segC [2] [] (allT 1) (by kernel_rfl) (by kernel_rfl) (allT_ok 1) ?_
       refine Tri.keep [2] [] (s' := ⟨[(2, cD (.bool false))], []⟩) (by kernel_rfl) ?_
       refine Tri.ret ?_
       cases h
       refine ⟨_, _, rfl, ⟨trivial, trivial⟩, rfl, rfl, ?_⟩
       intro k c h
       cases h
      ·refine Tri.skip ?_
       show Tri _ _ _ _
       refine Tri.segL [32, 33, 34, 74] [] ⟨[(32, cD (lD 1 (fun xs => [encL 6 encUpdate xs]) p0)), (33, cD (dI (p0.length : Int))), (34, cD (dI ((i5 : Nat) : Int))), (74, cD (.bool (decide (((i5 : Nat) : Int) = 9))))], []⟩ (allT 2) (by kernel_rfl) (allT_ok 2) ?_
       refine Tri.condP (b := (decide (((i5 : Nat) : Int) = 9))) rfl h (fun h => ?_) (fun h => ?_)
       ·refine Tri.keep [32, 33] [] (s' := ⟨[(32, cD (lD 1 (fun xs => [encL 6 encUpdate xs]) p0)), (33, cD (dI (p0.length : Int)))], []⟩) (by kernel_rfl) ?_
        refine Tri.exit ?_
        cases h
        exact ⟨rfl, rfl⟩
       ·refine Tri.keep [34, 32, 33] [] (s' := ⟨[(34, cD (dI ((i5 : Nat) : Int))), (32, cD (lD 1 (fun xs => [encL 6 encUpdate xs]) p0)), (33, cD (dI (p0.length : Int)))], []⟩) (by kernel_rfl) ?_
        refine Tri.skip ?_
        cases h
        exact rfl
     ·obtain ⟨r10, hr10, h⟩ := bind_elim h
      obtain ⟨r11, hr11, h⟩ := bind_elim h
      rcases bf_cases h with ⟨hp12, h⟩ | ⟨hp12, h⟩
      ·refine Tri.drawnS (s' := ⟨[(7, cD (dI ((i5 : Nat) : Int))), (32, cD (lD 1 (fun xs => [encL 6 encUpdate xs]) p0)), (33, cD (dI (p0.length : Int))), (34, cD (dI ((i5 : Nat) : Int))), (72, cD (.bool true))], []⟩) (cs := True ∧ True ∧ True ∧ True ∧ True ∧ True ∧ True) [.a [8] [], .m ⟨[(39, cD (lD 6 encUpdate (p0.getD i5 default)))], []⟩ ⟨[(40, cD (dI r10))], []⟩ [] [] [], .a [8] [], .m ⟨[(41, cD (lD 6 encUpdate (p0.getD i5 default)))], []⟩ ⟨[(42, cD (dI r11))], []⟩ [] [] [], .a [40, 42] [], .m ⟨[(43, cD (.bool (!decide (r10 = r11))))], []⟩ ⟨[(44, .c (.d (.bool true)))], []⟩ [] [] [], .a [8, 44] [], .a [44, 45] [], .a [8, 44] [], .a [44, 47] [], .a [44, 46, 48] [], .a [44, 49] [], .a [50] [], .a [8, 51] [], .a [51, 52] [], .a [51, 53] [], .a [51, 54] [], .a [8, 55] [], .a [55, 56] [], .a [55, 57] [], .a [8, 55] [], .a [55, 59] [], .a [55, 60] [], .a [55, 58, 61] [], .a [8, 55] [], .a [55, 63] [], .a [55, 64] [], .a [8, 55] [], .a [55, 66] [], .a [55, 67] [], .a [55, 65, 68] [], .a [55, 62, 69] [], .a [51, 55, 70] [], .a [51, 71] []] [[], [0], [], [0, 1, 2], [0, 1, 2, 3], [0, 1, 2, 3, 4], [0, 1, 2, 3, 4, 5], [0, 1, 2, 3, 4, 5, 6], [0, 1, 2, 3, 4, 5], [0, 1, 2, 3, 4, 5, 6, 7, 8], [0, 1, 2, 3, 4, 5, 6, 7, 8, 9], [0, 1, 2, 3, 4, 5, 6, 7, 8, 9, 10], [0, 1, 2, 3, 4, 5, 6, 7, 8, 9, 10, 11], [0, 1, 2, 3, 4, 5, 6, 7, 8, 9, 10, 11, 12], [0, 1, 2, 3, 4, 5, 6, 7, 8, 9, 10, 11, 12, 13], [0, 1, 2, 3, 4, 5, 6, 7, 8, 9, 10, 11, 12, 13, 14], [0, 1, 2, 3, 4, 5, 6, 7, 8, 9, 10, 11, 12, 13, 14, 15], [0, 1, 2, 3, 4, 5, 6, 7, 8, 9, 10, 11, 12, 13, 14, 15, 16], [0, 1, 2, 3, 4, 5, 6, 7, 8, 9, 10, 11, 12, 13, 14, 15, 16, 17], [0, 1, 2, 3, 4, 5, 6, 7, 8, 9, 10, 11, 12, 13, 14, 15, 16, 17, 18], [0, 1, 2, 3, 4, 5, 6, 7, 8, 9, 10, 11, 12, 13, 14, 15, 16], [0, 1, 2, 3, 4, 5, 6, 7, 8, 9, 10, 11, 12, 13, 14, 15, 16, 20], [0, 1, 2, 3, 4, 5, 6, 7, 8, 9, 10, 11, 12, 13, 14, 15, 16, 20, 21], [0, 1, 2, 3, 4, 5, 6, 7, 8, 9, 10, 11, 12, 13, 14, 15, 16, 17, 18, 19, 20, 21, 22], [0, 1, 2, 3, 4, 5, 6, 7, 8, 9, 10, 11, 12, 13, 14, 15, 16], [0, 1, 2, 3, 4, 5, 6, 7, 8, 9, 10, 11, 12, 13, 14, 15, 16, 24], [0, 1, 2, 3, 4, 5, 6, 7, 8, 9, 10, 11, 12, 13, 14, 15, 16, 24, 25], [0, 1, 2, 3, 4, 5, 6, 7, 8, 9, 10, 11, 12, 13, 14, 15, 16], [0, 1, 2, 3, 4, 5, 6, 7, 8, 9, 10, 11, 12, 13, 14, 15, 16, 27], [0, 1, 2, 3, 4, 5, 6, 7, 8, 9, 10, 11, 12, 13, 14, 15, 16, 27, 28], [0, 1, 2, 3, 4, 5, 6, 7, 8, 9, 10, 11, 12, 13, 14, 15, 16, 17, 18, 19, 20, 21, 22, 23, 24, 25, 26, 27, 28, 29], [0, 1, 2, 3, 4, 5, 6, 7, 8, 9, 10, 11, 12, 13, 14, 15, 16, 17, 18, 19, 20, 21, 22, 23, 24, 25, 26, 27, 28, 29, 30], [0, 1, 2, 3, 4, 5, 6, 7, 8, 9, 10, 11, 12, 13, 14, 15, 16, 17, 18, 19, 20, 21, 22, 23, 24, 25, 26, 27, 28, 29, 30, 31], [0, 1, 2, 3, 4, 5, 6, 7, 8, 9, 10, 11, 12, 13, 14, 15, 16, 17, 18, 19, 20, 21, 22, 23, 24, 25, 26, 27, 28, 29, 30, 31, 32]] [7, 32, 33, 34, 72] [] (by kernel_rfl) (by kernel_rfl) (by kernel_rfl) (by kernel_rfl) (by kernel_rfl) ⟨trivial, trivial, trivial, trivial, trivial, trivial, trivial⟩ (.a (.m ?_ (.a (.m ?_ (.a (.m ?_ (.a (.a (.a (.a (.a (.a (.a (.a (.a (.a (.a (.a (.a (.a (.a (.a (.a (.a (.a (.a (.a (.a (.a (.a (.a (.a (.a (.a .z)))))))))))))))))))))))))))))))))) (by kernel_rfl) ?_
       · exact DOk.callA (caps := []) (xs := [cD (lD 6 encUpdate (p0.getD i5 default))]) (diff_Check_ok hr10) rfl (fun r => by kernel_rfl) rfl (fun r => by kernel_rfl) (fun r => by kernel_rfl) (fun r => (.cons (.refl _) .nil)) rfl rfl (fun r => rfl)
       · exact DOk.callA (caps := []) (xs := [cD (lD 6 encUpdate (p0.getD i5 default))]) (freshetref05_Check_ok hr11) rfl (fun r => by kernel_rfl) rfl (fun r => by kernel_rfl) (fun r => by kernel_rfl) (fun r => (.cons (.refl _) .nil)) rfl rfl (fun r => rfl)
       · exact DOk.stepP (fun b => .val (.c (.d (.bool b))) (True)) (p := (!decide (r10 = r11))) hp12 (fun r => by kernel_rfl) (fun r => by kernel_rfl) trivial (by kernel_rfl) (by kernel_rfl) (fun r => rfl)
       exact ⟨_, h, rfl⟩
      ·obtain ⟨r13, hr13, h⟩ := bind_elim h
       obtain ⟨r14, hr14, h⟩ := bind_elim h
       rcases bf_cases h with ⟨hp15, h⟩ | ⟨hp15, h⟩
       ·refine Tri.drawnS (s' := ⟨[(7, cD (dI ((i5 : Nat) : Int))), (32, cD (lD 1 (fun xs => [encL 6 encUpdate xs]) p0)), (33, cD (dI (p0.length : Int))), (34, cD (dI ((i5 : Nat) : Int))), (72, cD (.bool true))], []⟩) (cs := True ∧ True ∧ True ∧ True ∧ True ∧ True ∧ True ∧ True ∧ True) [.a [8] [], .m ⟨[(39, cD (lD 6 encUpdate (p0.getD i5 default)))], []⟩ ⟨[(40, cD (dI r10))], []⟩ [] [] [], .a [8] [], .m ⟨[(41, cD (lD 6 encUpdate (p0.getD i5 default)))], []⟩ ⟨[(42, cD (dI r11))], []⟩ [] [] [], .a [40, 42] [], .m ⟨[(43, cD (.bool (!decide (r10 = r11))))], []⟩ ⟨[(44, .c (.d (.bool false)))], []⟩ [] [] [], .a [8, 44] [], .m ⟨[(44, cD (.bool false)), (45, cD (lD 6 encUpdate (p0.getD i5 default)))], []⟩ ⟨[(46, cD (.bool r13))], []⟩ [] [] [], .a [8, 44] [], .m ⟨[(44, cD (.bool false)), (47, cD (lD 6 encUpdate (p0.getD i5 default)))], []⟩ ⟨[(48, cD (.bool r14))], []⟩ [] [] [], .a [44, 46, 48] [], .a [44, 49] [], .m ⟨[(50, cD (.bool (!(r13 == r14))))], []⟩ ⟨[(51, .c (.d (.bool true)))], []⟩ [] [] [], .a [8, 51] [], .a [51, 52] [], .a [51, 53] [], .a [51, 54] [], .a [8, 55] [], .a [55, 56] [], .a [55, 57] [], .a [8, 55] [], .a [55, 59] [], .a [55, 60] [], .a [55, 58, 61] [], .a [8, 55] [], .a [55, 63] [], .a [55, 64] [], .a [8, 55] [], .a [55, 66] [], .a [55, 67] [], .a [55, 65, 68] [], .a [55, 62, 69] [], .a [51, 55, 70] [], .a [51, 71] []] [[], [0], [], [0, 1, 2], [0, 1, 2, 3], [0, 1, 2, 3, 4], [0, 1, 2, 3, 4, 5], [0, 1, 2, 3, 4, 5, 6], [0, 1, 2, 3, 4, 5], [0, 1, 2, 3, 4, 5, 6, 7, 8], [0, 1, 2, 3, 4, 5, 6, 7, 8, 9], [0, 1, 2, 3, 4, 5, 6, 7, 8, 9, 10], [0, 1, 2, 3, 4, 5, 6, 7, 8, 9, 10, 11], [0, 1, 2, 3, 4, 5, 6, 7, 8, 9, 10, 11, 12], [0, 1, 2, 3, 4, 5, 6, 7, 8, 9, 10, 11, 12, 13], [0, 1, 2, 3, 4, 5, 6, 7, 8, 9, 10, 11, 12, 13, 14], [0, 1, 2, 3, 4, 5, 6, 7, 8, 9, 10, 11, 12, 13, 14, 15], [0, 1, 2, 3, 4, 5, 6, 7, 8, 9, 10, 11, 12, 13, 14, 15, 16], [0, 1, 2, 3, 4, 5, 6, 7, 8, 9, 10, 11, 12, 13, 14, 15, 16, 17], [0, 1, 2, 3, 4, 5, 6, 7, 8, 9, 10, 11, 12, 13, 14, 15, 16, 17, 18], [0, 1, 2, 3, 4, 5, 6, 7, 8, 9, 10, 11, 12, 13, 14, 15, 16], [0, 1, 2, 3, 4, 5, 6, 7, 8, 9, 10, 11, 12, 13, 14, 15, 16, 20], [0, 1, 2, 3, 4, 5, 6, 7, 8, 9, 10, 11, 12, 13, 14, 15, 16, 20, 21], [0, 1, 2, 3, 4, 5, 6, 7, 8, 9, 10, 11, 12, 13, 14, 15, 16, 17, 18, 19, 20, 21, 22], [0, 1, 2, 3, 4, 5, 6, 7, 8, 9, 10, 11, 12, 13, 14, 15, 16], [0, 1, 2, 3, 4, 5, 6, 7, 8, 9, 10, 11, 12, 13, 14, 15, 16, 24], [0, 1, 2, 3, 4, 5, 6, 7, 8, 9, 10, 11, 12, 13, 14, 15, 16, 24, 25], [0, 1, 2, 3, 4, 5, 6, 7, 8, 9, 10, 11, 12, 13, 14, 15, 16], [0, 1, 2, 3, 4, 5, 6, 7, 8, 9, 10, 11, 12, 13, 14, 15, 16, 27], [0, 1, 2, 3, 4, 5, 6, 7, 8, 9, 10, 11, 12, 13, 14, 15, 16, 27, 28], [0, 1, 2, 3, 4, 5, 6, 7, 8, 9, 10, 11, 12, 13, 14, 15, 16, 17, 18, 19, 20, 21, 22, 23, 24, 25, 26, 27, 28, 29], [0, 1, 2, 3, 4, 5, 6, 7, 8, 9, 10, 11, 12, 13, 14, 15, 16, 17, 18, 19, 20, 21, 22, 23, 24, 25, 26, 27, 28, 29, 30], [0, 1, 2, 3, 4, 5, 6, 7, 8, 9, 10, 11, 12, 13, 14, 15, 16, 17, 18, 19, 20, 21, 22, 23, 24, 25, 26, 27, 28, 29, 30, 31], [0, 1, 2, 3, 4, 5, 6, 7, 8, 9, 10, 11, 12, 13, 14, 15, 16, 17, 18, 19, 20, 21, 22, 23, 24, 25, 26, 27, 28, 29, 30, 31, 32]] [7, 32, 33, 34, 72] [] (by kernel_rfl) (by kernel_rfl) (by kernel_rfl) (by kernel_rfl) (by kernel_rfl) ⟨trivial, trivial, trivial, trivial, trivial, trivial, trivial, trivial, trivial⟩ (.a (.m ?_ (.a (.m ?_ (.a (.m ?_ (.a (.m ?_ (.a (.m ?_ (.a (.a (.m ?_ (.a (.a (.a (.a (.a (.a (.a (.a (.a (.a (.a (.a (.a (.a (.a (.a (.a (.a (.a (.a (.a .z)))))))))))))))))))))))))))))))))) (by kernel_rfl) ?_
        · exact DOk.callA (caps := []) (xs := [cD (lD 6 encUpdate (p0.getD i5 default))]) (diff_Check_ok hr10) rfl (fun r => by kernel_rfl) rfl (fun r => by kernel_rfl) (fun r => by kernel_rfl) (fun r => (.cons (.refl _) .nil)) rfl rfl (fun r => rfl)
        · exact DOk.callA (caps := []) (xs := [cD (lD 6 encUpdate (p0.getD i5 default))]) (freshetref05_Check_ok hr11) rfl (fun r => by kernel_rfl) rfl (fun r => by kernel_rfl) (fun r => by kernel_rfl) (fun r => (.cons (.refl _) .nil)) rfl rfl (fun r => rfl)
        · exact DOk.stepP (fun b => .val (.c (.d (.bool b))) (True)) (p := (!decide (r10 = r11))) hp12 (fun r => by kernel_rfl) (fun r => by kernel_rfl) trivial (by kernel_rfl) (by kernel_rfl) (fun r => rfl)
        · exact DOk.callA (caps := []) (xs := [cD (lD 6 encUpdate (p0.getD i5 default))]) (diff_Even_ok hr13) rfl (fun r => by kernel_rfl) rfl (fun r => by kernel_rfl) (fun r => by kernel_rfl) (fun r => (.cons (.refl _) .nil)) rfl rfl (fun r => rfl)
        · exact DOk.callA (caps := []) (xs := [cD (lD 6 encUpdate (p0.getD i5 default))]) (freshetref05_Even_ok hr14) rfl (fun r => by kernel_rfl) rfl (fun r => by kernel_rfl) (fun r => by kernel_rfl) (fun r => (.cons (.refl _) .nil)) rfl rfl (fun r => rfl)
        · exact DOk.stepP (fun b => .val (.c (.d (.bool b))) (True)) (p := (!(r13 == r14))) hp15 (fun r => by kernel_rfl) (fun r => by kernel_rfl) trivial (by kernel_rfl) (by kernel_rfl) (fun r => rfl)
        exact ⟨_, h, rfl⟩
       ·rcases bf_cases h with ⟨hp16, h⟩ | ⟨hp16, h⟩
        ·obtain ⟨hc17, h⟩ := need_elim h
         obtain ⟨hc18, h⟩ := need_elim h
         obtain ⟨r19, hr19, h⟩ := bind_elim h
         obtain ⟨hc20, h⟩ := need_elim h
         obtain ⟨hc21, h⟩ := need_elim h
         obtain ⟨r22, hr22, h⟩ := bind_elim h
         refine Tri.drawnS (s' := ⟨[(7, cD (dI ((i5 : Nat) : Int))), (32, cD (lD 1 (fun xs => [encL 6 encUpdate xs]) p0)), (33, cD (dI (p0.length : Int))), (34, cD (dI ((i5 : Nat) : Int))), (72, cD (.bool (!decide (r19 = r22))))], []⟩) (cs := True ∧ True ∧ True ∧ True ∧ True ∧ True ∧ True ∧ True ∧ True ∧ True ∧ True ∧ ((0 : Int) ≤ 0 ∧ 0 < ((p0.getD i5 default).length : Int)) ∧ True ∧ True ∧ ((0 : Int) ≤ 1 ∧ 1 < ((p0.getD i5 default).length : Int)) ∧ True ∧ True ∧ ((0 : Int) ≤ 0 ∧ 0 < ((p0.getD i5 default).length : Int)) ∧ True ∧ True ∧ ((0 : Int) ≤ 1 ∧ 1 < ((p0.getD i5 default).length : Int)) ∧ True ∧ True ∧ True ∧ True ∧ True) [.a [8] [], .m ⟨[(39, cD (lD 6 encUpdate (p0.getD i5 default)))], []⟩ ⟨[(40, cD (dI r10))], []⟩ [] [] [], .a [8] [], .m ⟨[(41, cD (lD 6 encUpdate (p0.getD i5 default)))], []⟩ ⟨[(42, cD (dI r11))], []⟩ [] [] [], .a [40, 42] [], .m ⟨[(43, cD (.bool (!decide (r10 = r11))))], []⟩ ⟨[(44, .c (.d (.bool false)))], []⟩ [] [] [], .a [8, 44] [], .m ⟨[(44, cD (.bool false)), (45, cD (lD 6 encUpdate (p0.getD i5 default)))], []⟩ ⟨[(46, cD (.bool r13))], []⟩ [] [] [], .a [8, 44] [], .m ⟨[(44, cD (.bool false)), (47, cD (lD 6 encUpdate (p0.getD i5 default)))], []⟩ ⟨[(48, cD (.bool r14))], []⟩ [] [] [], .a [44, 46, 48] [], .a [44, 49] [], .m ⟨[(50, cD (.bool (!(r13 == r14))))], []⟩ ⟨[(51, .c (.d (.bool false)))], []⟩ [] [] [], .a [8, 51] [], .a [51, 52] [], .a [51, 53] [], .m ⟨[(51, cD (.bool false)), (54, cD (.bool (decide (1 < ((p0.getD i5 default).length : Int)))))], []⟩ ⟨[(55, .c (.d (.bool true)))], []⟩ [] [] [], .a [8, 55] [], .a [55, 56] [], .a [55, 57] [], .a [8, 55] [], .a [55, 59] [], .a [55, 60] [], .m ⟨[(55, cD (.bool true)), (58, .agg (cUpdate ((p0.getD i5 default).getD 0 default))), (61, .agg (cUpdate ((p0.getD i5 default).getD 1 default)))], []⟩ ⟨[(62, cD (dI r19))], []⟩ [] [] [], .a [8, 55] [], .a [55, 63] [], .a [55, 64] [], .a [8, 55] [], .a [55, 66] [], .a [55, 67] [], .m ⟨[(55, cD (.bool true)), (65, .agg (cUpdate ((p0.getD i5 default).getD 0 default))), (68, .agg (cUpdate ((p0.getD i5 default).getD 1 default)))], []⟩ ⟨[(69, cD (dI r22))], []⟩ [] [] [], .a [55, 62, 69] [], .a [51, 55, 70] [], .a [51, 71] []] [[], [0], [], [0, 1, 2], [0, 1, 2, 3], [0, 1, 2, 3, 4], [0, 1, 2, 3, 4, 5], [0, 1, 2, 3, 4, 5, 6], [0, 1, 2, 3, 4, 5], [0, 1, 2, 3, 4, 5, 6, 7, 8], [0, 1, 2, 3, 4, 5, 6, 7, 8, 9], [0, 1, 2, 3, 4, 5, 6, 7, 8, 9, 10], [0, 1, 2, 3, 4, 5, 6, 7, 8, 9, 10, 11], [0, 1, 2, 3, 4, 5, 6, 7, 8, 9, 10, 11, 12], [0, 1, 2, 3, 4, 5, 6, 7, 8, 9, 10, 11, 12, 13], [0, 1, 2, 3, 4, 5, 6, 7, 8, 9, 10, 11, 12, 13, 14], [0, 1, 2, 3, 4, 5, 6, 7, 8, 9, 10, 11, 12, 13, 14, 15], [0, 1, 2, 3, 4, 5, 6, 7, 8, 9, 10, 11, 12, 13, 14, 15, 16], [0, 1, 2, 3, 4, 5, 6, 7, 8, 9, 10, 11, 12, 13, 14, 15, 16, 17], [0, 1, 2, 3, 4, 5, 6, 7, 8, 9, 10, 11, 12, 13, 14, 15, 16, 17, 18], [0, 1, 2, 3, 4, 5, 6, 7, 8, 9, 10, 11, 12, 13, 14, 15, 16], [0, 1, 2, 3, 4, 5, 6, 7, 8, 9, 10, 11, 12, 13, 14, 15, 16, 20], [0, 1, 2, 3, 4, 5, 6, 7, 8, 9, 10, 11, 12, 13, 14, 15, 16, 20, 21], [0, 1, 2, 3, 4, 5, 6, 7, 8, 9, 10, 11, 12, 13, 14, 15, 16, 17, 18, 19, 20, 21, 22], [0, 1, 2, 3, 4, 5, 6, 7, 8, 9, 10, 11, 12, 13, 14, 15, 16], [0, 1, 2, 3, 4, 5, 6, 7, 8, 9, 10, 11, 12, 13, 14, 15, 16, 24], [0, 1, 2, 3, 4, 5, 6, 7, 8, 9, 10, 11, 12, 13, 14, 15, 16, 24, 25], [0, 1, 2, 3, 4, 5, 6, 7, 8, 9, 10, 11, 12, 13, 14, 15, 16], [0, 1, 2, 3, 4, 5, 6, 7, 8, 9, 10, 11, 12, 13, 14, 15, 16, 27], [0, 1, 2, 3, 4, 5, 6, 7, 8, 9, 10, 11, 12, 13, 14, 15, 16, 27, 28], [0, 1, 2, 3, 4, 5, 6, 7, 8, 9, 10, 11, 12, 13, 14, 15, 16, 17, 18, 19, 20, 21, 22, 23, 24, 25, 26, 27, 28, 29], [0, 1, 2, 3, 4, 5, 6, 7, 8, 9, 10, 11, 12, 13, 14, 15, 16, 17, 18, 19, 20, 21, 22, 23, 24, 25, 26, 27, 28, 29, 30], [0, 1, 2, 3, 4, 5, 6, 7, 8, 9, 10, 11, 12, 13, 14, 15, 16, 17, 18, 19, 20, 21, 22, 23, 24, 25, 26, 27, 28, 29, 30, 31], [0, 1, 2, 3, 4, 5, 6, 7, 8, 9, 10, 11, 12, 13, 14, 15, 16, 17, 18, 19, 20, 21, 22, 23, 24, 25, 26, 27, 28, 29, 30, 31, 32]] [7, 32, 33, 34, 72] [] (by kernel_rfl) (by kernel_rfl) (by kernel_rfl) (by kernel_rfl) (by kernel_rfl) ⟨trivial, trivial, trivial, trivial, trivial, trivial, trivial, trivial, trivial, trivial, trivial, hc17, trivial, trivial, hc18, trivial, trivial, hc20, trivial, trivial, hc21, trivial, trivial, trivial, trivial, trivial⟩ (.a (.m ?_ (.a (.m ?_ (.a (.m ?_ (.a (.m ?_ (.a (.m ?_ (.a (.a (.m ?_ (.a (.a (.a (.m ?_ (.a (.a (.a (.a (.a (.a (.m ?_ (.a (.a (.a (.a (.a (.a (.m ?_ (.a (.a (.a .z)))))))))))))))))))))))))))))))))) (by kernel_rfl) ?_
         · exact DOk.callA (caps := []) (xs := [cD (lD 6 encUpdate (p0.getD i5 default))]) (diff_Check_ok hr10) rfl (fun r => by kernel_rfl) rfl (fun r => by kernel_rfl) (fun r => by kernel_rfl) (fun r => (.cons (.refl _) .nil)) rfl rfl (fun r => rfl)
         · exact DOk.callA (caps := []) (xs := [cD (lD 6 encUpdate (p0.getD i5 default))]) (freshetref05_Check_ok hr11) rfl (fun r => by kernel_rfl) rfl (fun r => by kernel_rfl) (fun r => by kernel_rfl) (fun r => (.cons (.refl _) .nil)) rfl rfl (fun r => rfl)
         · exact DOk.stepP (fun b => .val (.c (.d (.bool b))) (True)) (p := (!decide (r10 = r11))) hp12 (fun r => by kernel_rfl) (fun r => by kernel_rfl) trivial (by kernel_rfl) (by kernel_rfl) (fun r => rfl)
         · exact DOk.callA (caps := []) (xs := [cD (lD 6 encUpdate (p0.getD i5 default))]) (diff_Even_ok hr13) rfl (fun r => by kernel_rfl) rfl (fun r => by kernel_rfl) (fun r => by kernel_rfl) (fun r => (.cons (.refl _) .nil)) rfl rfl (fun r => rfl)
         · exact DOk.callA (caps := []) (xs := [cD (lD 6 encUpdate (p0.getD i5 default))]) (freshetref05_Even_ok hr14) rfl (fun r => by kernel_rfl) rfl (fun r => by kernel_rfl) (fun r => by kernel_rfl) (fun r => (.cons (.refl _) .nil)) rfl rfl (fun r => rfl)
         · exact DOk.stepP (fun b => .val (.c (.d (.bool b))) (True)) (p := (!(r13 == r14))) hp15 (fun r => by kernel_rfl) (fun r => by kernel_rfl) trivial (by kernel_rfl) (by kernel_rfl) (fun r => rfl)
         · exact DOk.stepP (fun b => .val (.c (.d (.bool b))) (True)) (p := (decide (1 < ((p0.getD i5 default).length : Int)))) hp16 (fun r => by kernel_rfl) (fun r => by kernel_rfl) trivial (by kernel_rfl) (by kernel_rfl) (fun r => rfl)
         · exact DOk.callA (caps := []) (xs := [.agg (cUpdate ((p0.getD i5 default).getD 0 default)), .agg (cUpdate ((p0.getD i5 default).getD 1 default))]) (diff_Compare_ok hr19) rfl (fun r => by kernel_rfl) rfl (fun r => by kernel_rfl) (fun r => by kernel_rfl) (fun r => (.cons (.refl _) (.cons (.refl _) .nil))) rfl rfl (fun r => rfl)
         · exact DOk.callA (caps := []) (xs := [.agg (cUpdate ((p0.getD i5 default).getD 0 default)), .agg (cUpdate ((p0.getD i5 default).getD 1 default))]) (freshetref05_Compare_ok hr22) rfl (fun r => by kernel_rfl) rfl (fun r => by kernel_rfl) (fun r => by kernel_rfl) (fun r => (.cons (.refl _) (.cons (.refl _) .nil))) rfl rfl (fun r => rfl)
         exact ⟨_, h, rfl⟩
        ·refine Tri.drawnS (s' := ⟨[(7, cD (dI ((i5 : Nat) : Int))), (32, cD (lD 1 (fun xs => [encL 6 encUpdate xs]) p0)), (33, cD (dI (p0.length : Int))), (34, cD (dI ((i5 : Nat) : Int))), (72, cD (.bool false))], []⟩) (cs := True ∧ True ∧ True ∧ True ∧ True ∧ True ∧ True ∧ True ∧ True ∧ True ∧ True ∧ True ∧ True) [.a [8] [], .m ⟨[(39, cD (lD 6 encUpdate (p0.getD i5 default)))], []⟩ ⟨[(40, cD (dI r10))], []⟩ [] [] [], .a [8] [], .m ⟨[(41, cD (lD 6 encUpdate (p0.getD i5 default)))], []⟩ ⟨[(42, cD (dI r11))], []⟩ [] [] [], .a [40, 42] [], .m ⟨[(43, cD (.bool (!decide (r10 = r11))))], []⟩ ⟨[(44, .c (.d (.bool false)))], []⟩ [] [] [], .a [8, 44] [], .m ⟨[(44, cD (.bool false)), (45, cD (lD 6 encUpdate (p0.getD i5 default)))], []⟩ ⟨[(46, cD (.bool r13))], []⟩ [] [] [], .a [8, 44] [], .m ⟨[(44, cD (.bool false)), (47, cD (lD 6 encUpdate (p0.getD i5 default)))], []⟩ ⟨[(48, cD (.bool r14))], []⟩ [] [] [], .a [44, 46, 48] [], .a [44, 49] [], .m ⟨[(50, cD (.bool (!(r13 == r14))))], []⟩ ⟨[(51, .c (.d (.bool false)))], []⟩ [] [] [], .a [8, 51] [], .a [51, 52] [], .a [51, 53] [], .m ⟨[(51, cD (.bool false)), (54, cD (.bool (decide (1 < ((p0.getD i5 default).length : Int)))))], []⟩ ⟨[(55, .c (.d (.bool false)))], []⟩ [] [] [], .a [8, 55] [], .a [55, 56] [], .a [55, 57] [], .a [8, 55] [], .a [55, 59] [], .a [55, 60] [], .a [55, 58, 61] [], .a [8, 55] [], .a [55, 63] [], .a [55, 64] [], .a [8, 55] [], .a [55, 66] [], .a [55, 67] [], .a [55, 65, 68] [], .a [55, 62, 69] [], .a [51, 55, 70] [], .a [51, 71] []] [[], [0], [], [0, 1, 2], [0, 1, 2, 3], [0, 1, 2, 3, 4], [0, 1, 2, 3, 4, 5], [0, 1, 2, 3, 4, 5, 6], [0, 1, 2, 3, 4, 5], [0, 1, 2, 3, 4, 5, 6, 7, 8], [0, 1, 2, 3, 4, 5, 6, 7, 8, 9], [0, 1, 2, 3, 4, 5, 6, 7, 8, 9, 10], [0, 1, 2, 3, 4, 5, 6, 7, 8, 9, 10, 11], [0, 1, 2, 3, 4, 5, 6, 7, 8, 9, 10, 11, 12], [0, 1, 2, 3, 4, 5, 6, 7, 8, 9, 10, 11, 12, 13], [0, 1, 2, 3, 4, 5, 6, 7, 8, 9, 10, 11, 12, 13, 14], [0, 1, 2, 3, 4, 5, 6, 7, 8, 9, 10, 11, 12, 13, 14, 15], [0, 1, 2, 3, 4, 5, 6, 7, 8, 9, 10, 11, 12, 13, 14, 15, 16], [0, 1, 2, 3, 4, 5, 6, 7, 8, 9, 10, 11, 12, 13, 14, 15, 16, 17], [0, 1, 2, 3, 4, 5, 6, 7, 8, 9, 10, 11, 12, 13, 14, 15, 16, 17, 18], [0, 1, 2, 3, 4, 5, 6, 7, 8, 9, 10, 11, 12, 13, 14, 15, 16], [0, 1, 2, 3, 4, 5, 6, 7, 8, 9, 10, 11, 12, 13, 14, 15, 16, 20], [0, 1, 2, 3, 4, 5, 6, 7, 8, 9, 10, 11, 12, 13, 14, 15, 16, 20, 21], [0, 1, 2, 3, 4, 5, 6, 7, 8, 9, 10, 11, 12, 13, 14, 15, 16, 17, 18, 19, 20, 21, 22], [0, 1, 2, 3, 4, 5, 6, 7, 8, 9, 10, 11, 12, 13, 14, 15, 16], [0, 1, 2, 3, 4, 5, 6, 7, 8, 9, 10, 11, 12, 13, 14, 15, 16, 24], [0, 1, 2, 3, 4, 5, 6, 7, 8, 9, 10, 11, 12, 13, 14, 15, 16, 24, 25], [0, 1, 2, 3, 4, 5, 6, 7, 8, 9, 10, 11, 12, 13, 14, 15, 16], [0, 1, 2, 3, 4, 5, 6, 7, 8, 9, 10, 11, 12, 13, 14, 15, 16, 27], [0, 1, 2, 3, 4, 5, 6, 7, 8, 9, 10, 11, 12, 13, 14, 15, 16, 27, 28], [0, 1, 2, 3, 4, 5, 6, 7, 8, 9, 10, 11, 12, 13, 14, 15, 16, 17, 18, 19, 20, 21, 22, 23, 24, 25, 26, 27, 28, 29], [0, 1, 2, 3, 4, 5, 6, 7, 8, 9, 10, 11, 12, 13, 14, 15, 16, 17, 18, 19, 20, 21, 22, 23, 24, 25, 26, 27, 28, 29, 30], [0, 1, 2, 3, 4, 5, 6, 7, 8, 9, 10, 11, 12, 13, 14, 15, 16, 17, 18, 19, 20, 21, 22, 23, 24, 25, 26, 27, 28, 29, 30, 31], [0, 1, 2, 3, 4, 5, 6, 7, 8, 9, 10, 11, 12, 13, 14, 15, 16, 17, 18, 19, 20, 21, 22, 23, 24, 25, 26, 27, 28, 29, 30, 31, 32]] [7, 32, 33, 34, 72] [] (by kernel_rfl) (by kernel_rfl) (by kernel_rfl) (by kernel_rfl) (by kernel_rfl) ⟨trivial, trivial, trivial, trivial, trivial, trivial, trivial, trivial, trivial, trivial, trivial, trivial, trivial⟩ (.a (.m ?_ (.a (.m ?_ (.a (.m ?_ (.a (.m ?_ (.a (.m ?_ (.a (.a (.m ?_ (.a (.a (.a (.m ?_ (.a (.a (.a (.a (.a (.a (.a (.a (.a (.a (.a (.a (.a (.a (.a (.a (.a .z)))))))))))))))))))))))))))))))))) (by kernel_rfl) ?_
         · exact DOk.callA (caps := []) (xs := [cD (lD 6 encUpdate (p0.getD i5 default))]) (diff_Check_ok hr10) rfl (fun r => by kernel_rfl) rfl (fun r => by kernel_rfl) (fun r => by kernel_rfl) (fun r => (.cons (.refl _) .nil)) rfl rfl (fun r => rfl)
         · exact DOk.callA (caps := []) (xs := [cD (lD 6 encUpdate (p0.getD i5 default))]) (freshetref05_Check_ok hr11) rfl (fun r => by kernel_rfl) rfl (fun r => by kernel_rfl) (fun r => by kernel_rfl) (fun r => (.cons (.refl _) .nil)) rfl rfl (fun r => rfl)
         · exact DOk.stepP (fun b => .val (.c (.d (.bool b))) (True)) (p := (!decide (r10 = r11))) hp12 (fun r => by kernel_rfl) (fun r => by kernel_rfl) trivial (by kernel_rfl) (by kernel_rfl) (fun r => rfl)
         · exact DOk.callA (caps := []) (xs := [cD (lD 6 encUpdate (p0.getD i5 default))]) (diff_Even_ok hr13) rfl (fun r => by kernel_rfl) rfl (fun r => by kernel_rfl) (fun r => by kernel_rfl) (fun r => (.cons (.refl _) .nil)) rfl rfl (fun r => rfl)
         · exact DOk.callA (caps := []) (xs := [cD (lD 6 encUpdate (p0.getD i5 default))]) (freshetref05_Even_ok hr14) rfl (fun r => by kernel_rfl) rfl (fun r => by kernel_rfl) (fun r => by kernel_rfl) (fun r => (.cons (.refl _) .nil)) rfl rfl (fun r => rfl)
         · exact DOk.stepP (fun b => .val (.c (.d (.bool b))) (True)) (p := (!(r13 == r14))) hp15 (fun r => by kernel_rfl) (fun r => by kernel_rfl) trivial (by kernel_rfl) (by kernel_rfl) (fun r => rfl)
         · exact DOk.stepP (fun b => .val (.c (.d (.bool b))) (True)) (p := (decide (1 < ((p0.getD i5 default).length : Int)))) hp16 (fun r => by kernel_rfl) (fun r => by kernel_rfl) trivial (by kernel_rfl) (by kernel_rfl) (fun r => rfl)
         exact ⟨_, h, rfl⟩
    ·intro a7 h
     show Tri _ _ _ _
     refine Tri.segC [2] [] (allT 1) (by kernel_rfl) (by kernel_rfl) (allT_ok 1) ?_
     refine Tri.keep [2] [] (s' := ⟨[(2, cD (.bool true))], []⟩) (by kernel_rfl) ?_
     refine Tri.ret ?_
     cases h
     refine ⟨_, _, rfl, ⟨trivial, trivial⟩, rfl, rfl, ?_⟩
     intro k c h
     cases h
    · exact fun x s hx hr => by cases hx; exact hr
  ·refine Tri.reg ?_
   obtain ⟨r23, hr23, h⟩ := bind_elim h
   refine At.callA (caps := []) (xs := []) (freshetlaw05_lists_ok hr23) rfl rfl rfl rfl rfl rfl .nil rfl rfl ?_
   refine At.seg 2 [0, 3, 4, 5, 6, 21] [] (s' := ⟨[(0, cD (lD 1 (fun xs => [encL 6 encUpdate xs]) p0)), (3, cD (lD 6 encUpdate r1.1)), (4, cD (dI r1.2)), (5, cD (lD 6 encUpdate r2.1)), (6, cD (dI r2.2)), (21, cD (.bool (!r23)))], []⟩) (c := True ∧ True ∧ True) (by kernel_rfl) ⟨trivial, trivial, trivial⟩ ?_
   refine At.case (fun b => ⟨[(0, cD (lD 1 (fun xs => [encL 6 encUpdate xs]) p0)), (3, cD (lD 6 encUpdate r1.1)), (4, cD (dI r1.2)), (5, cD (lD 6 encUpdate r2.1)), (6, cD (dI r2.2)), (21, cD (.bool b))], []⟩) (b := (!r23)) h (fun h => ?_) (fun h => ?_)
   ·refine At.seg 10 [0, 31] [] (s' := ⟨[(0, cD (lD 1 (fun xs => [encL 6 encUpdate xs]) p0)), (31, cD (.bool true))], []⟩) (c := True ∧ True ∧ True ∧ True) (by kernel_rfl) ⟨trivial, trivial, trivial, trivial⟩ ?_
    refine At.done rfl ?_
    exact ⟨_, h, rfl⟩
   ·refine At.seg 2 [0, 4, 6, 21, 22, 23] [] (s' := ⟨[(0, cD (lD 1 (fun xs => [encL 6 encUpdate xs]) p0)), (4, cD (dI r1.2)), (6, cD (dI r2.2)), (21, cD (.bool false)), (22, cD (lD 6 encUpdate r1.1)), (23, cD (lD 6 encUpdate r2.1))], []⟩) (c := True ∧ True ∧ True) (by kernel_rfl) ⟨trivial, trivial, trivial⟩ ?_
    obtain ⟨r24, hr24, h⟩ := bind_elim h
    refine At.callA (caps := []) (xs := [cD (lD 6 encUpdate r1.1), cD (lD 6 encUpdate r2.1)]) (freshetref05_Same_ok hr24) rfl rfl rfl rfl rfl rfl (.cons (.refl _) (.cons (.refl _) .nil)) rfl rfl ?_
    refine At.seg 3 [0, 4, 6, 27] [] (s' := ⟨[(0, cD (lD 1 (fun xs => [encL 6 encUpdate xs]) p0)), (4, cD (dI r1.2)), (6, cD (dI r2.2)), (27, cD (.bool (!r24)))], []⟩) (c := True ∧ True ∧ True ∧ True) (by kernel_rfl) ⟨trivial, trivial, trivial, trivial⟩ ?_
    refine At.case (fun b => ⟨[(0, cD (lD 1 (fun xs => [encL 6 encUpdate xs]) p0)), (4, cD (dI r1.2)), (6, cD (dI r2.2)), (27, cD (.bool b))], []⟩) (b := (!r24)) h (fun h => ?_) (fun h => ?_)
    ·refine At.seg 4 [0, 31] [] (s' := ⟨[(0, cD (lD 1 (fun xs => [encL 6 encUpdate xs]) p0)), (31, cD (.bool true))], []⟩) (c := True ∧ True) (by kernel_rfl) ⟨trivial, trivial⟩ ?_
     refine At.done rfl ?_
     exact ⟨_, h, rfl⟩
    ·refine At.seg 4 [0, 31] [] (s' := ⟨[(0, cD (lD 1 (fun xs => [encL 6 encUpdate xs]) p0)), (31, cD (.bool (!decide (r1.2 = r2.2))))], []⟩) (c := True ∧ True ∧ True ∧ True ∧ True) (by kernel_rfl) ⟨trivial, trivial, trivial, trivial, trivial⟩ ?_
     refine At.done rfl ?_
     exact ⟨_, h, rfl⟩
end Go.Av
namespace Go.Av
open Go Go.Proofs
set_option linter.unusedVariables false
set_option linter.unusedSimpArgs false
def okValue (x : Value) : Prop := (fun _ => True) x.isText ∧ (okInt .i64) x.n ∧ (fun s => s.size ≤ maxN) x.s ∧ True
def bulkValue (x : Value) : Nat := ((fun _ => 1) x.isText + ((fun _ => 1) x.n + ((fun s => s.size + 1) x.s + 0))) + 1
def okTime (x : Time) : Prop := (okInt .u64) x.epoch ∧ (fun p => (okInt .u64) p.1 ∧ (okInt .u64) p.2) x.loop ∧ True
def bulkTime (x : Time) : Nat := ((fun _ => 1) x.epoch + ((fun p => (fun _ => 1) p.1 + (fun _ => 1) p.2 + 1) x.loop + 0)) + 1
def okUpdate (x : Update) : Prop := (fun xs => xs.length ≤ maxN ∧ ∀ x ∈ xs, (okValue) x) x.key ∧ (fun xs => xs.length ≤ maxN ∧ ∀ x ∈ xs, (okValue) x) x.row ∧ (okTime) x.time ∧ (okInt .i64) x.diff ∧ True
def bulkUpdate (x : Update) : Nat := ((fun xs => (xs.map (bulkValue)).sum + 1) x.key + ((fun xs => (xs.map (bulkValue)).sum + 1) x.row + ((bulkTime) x.time + ((fun _ => 1) x.diff + 0)))) + 1
def okWide (x : Wide) : Prop := (okInt .i64) x.high ∧ (okInt .u64) x.low ∧ True
theorem readsValue {H : Type} {enc : TypeId × Go.Value → H} {W : World} {Z : TypeId → DataW H → Prop} {B : DataW H → Nat} (hZ : Fine Try.prog Z) (hB : BulkOk B) : Reads enc Try.prog W Z B 95 encValue okValue bulkValue := fun n => by
  have h := ReadsAt.struct (n := n) (enc := enc) (W := W) (tot := 3) hZ hB Try.underlying95 (by kernel_rfl) (fun m _ => (ReadsF.cons (k := 1) (ReadsAt.bool hB Try.underlying4) rfl (by kernel_rfl) (ReadsF.cons (k := 1) (ReadsAt.int hB Try.underlying2) rfl (by kernel_rfl) (ReadsF.cons (k := 1) (ReadsAt.string hZ hB Try.underlying9) rfl (by kernel_rfl) (ReadsF.nil (off := 3))))))
  exact h.map (fun (p : Bool × Int × ByteArray × Unit) => (⟨p.1, p.2.1, p.2.2.1⟩ : Value)) (fun _ _ => rfl) (fun _ h => h) (fun _ _ => Nat.le_refl _)
theorem readsTime {H : Type} {enc : TypeId × Go.Value → H} {W : World} {Z : TypeId → DataW H → Prop} {B : DataW H → Nat} (hZ : Fine Try.prog Z) (hB : BulkOk B) : Reads enc Try.prog W Z B 42 encTime okTime bulkTime := fun n => by
  have h := ReadsAt.struct (n := n) (enc := enc) (W := W) (tot := 3) hZ hB Try.underlying42 (by kernel_rfl) (fun m _ => (ReadsF.cons (k := 1) (ReadsAt.int hB Try.underlying39) rfl (by kernel_rfl) (ReadsF.cons (k := 2) (ReadsAt.pair hZ hB Try.underlying40 (k := 1) (by kernel_rfl) (by kernel_rfl) (fun m _ => (ReadsAt.int hB Try.underlying39))) rfl (by kernel_rfl) (ReadsF.nil (off := 3)))))
  exact h.map (fun (p : Int × (Int × Int) × Unit) => (⟨p.1, p.2.1⟩ : Time)) (fun _ _ => rfl) (fun _ h => h) (fun _ _ => Nat.le_refl _)
theorem readsUpdate {H : Type} {enc : TypeId × Go.Value → H} {W : World} {Z : TypeId → DataW H → Prop} {B : DataW H → Nat} (hZ : Fine Try.prog Z) (hB : BulkOk B) : Reads enc Try.prog W Z B 44 encUpdate okUpdate bulkUpdate := fun n => by
  have h := ReadsAt.struct (n := n) (enc := enc) (W := W) (tot := 6) hZ hB Try.underlying44 (by kernel_rfl) (fun m _ => (ReadsF.cons (k := 1) (ReadsAt.slice (es := 3) (e := encValue) (ok := okValue) (bulk := bulkValue) hZ hB Try.underlying38 (by kernel_rfl) (by kernel_rfl) rfl (fun _ _ => rfl) (fun m _ => (readsValue hZ hB m))) rfl (by kernel_rfl) (ReadsF.cons (k := 1) (ReadsAt.slice (es := 3) (e := encValue) (ok := okValue) (bulk := bulkValue) hZ hB Try.underlying38 (by kernel_rfl) (by kernel_rfl) rfl (fun _ _ => rfl) (fun m _ => (readsValue hZ hB m))) rfl (by kernel_rfl) (ReadsF.cons (k := 3) (readsTime hZ hB m) rfl (by kernel_rfl) (ReadsF.cons (k := 1) (ReadsAt.int hB Try.underlying2) rfl (by kernel_rfl) (ReadsF.nil (off := 6)))))))
  exact h.map (fun (p : (List Value) × (List Value) × Time × Int × Unit) => (⟨p.1, p.2.1, p.2.2.1, p.2.2.2.1⟩ : Update)) (fun _ _ => rfl) (fun _ h => h) (fun _ _ => Nat.le_refl _)
end Go.Av
namespace Go.Av
open Go
set_option linter.unusedVariables false
theorem in64_of {n : Int} (h : okInt .i64 n) : in64 n := by
  have := Go.bounds_i64 h
  unfold in64
  omega
abbrev okUs (l : List Update) : Prop := l.length ≤ maxN ∧ ∀ x ∈ l, okUpdate x
theorem us_in {l : List Update} (h : okUs l) : ∀ u ∈ l, in64 u.diff := fun u hu => in64_of (h.2 u hu).2.2.2.1
theorem us_len (l : List Update) : l.length ≤ (l.map bulkUpdate).sum := length_le_sum (f := bulkUpdate) (fun x => by unfold bulkUpdate; omega) l
theorem flat_len {α : Type} (f : α → Nat) (hf : ∀ l : List α, l.length ≤ (l.map f).sum) : ∀ ls : List (List α), ls.flatten.length ≤ (ls.map fun l => (l.map f).sum + 1).sum
  | [] => by simp
  | l :: ls => by
    have := hf l
    have := flat_len f hf ls
    simp only [List.flatten_cons, List.length_append, List.map_cons, List.sum_cons]
    omega
theorem le_sum_of {α : Type} {f : α → Nat} : ∀ {l : List α} {x : α}, x ∈ l → f x ≤ (l.map f).sum
  | y :: l, x, h => by
    simp only [List.map_cons, List.sum_cons]
    rcases List.mem_cons.1 h with rfl | h
    · omega
    · have := le_sum_of (f := f) h; omega
theorem vs_len (l : List Value) : l.length ≤ (l.map bulkValue).sum := length_le_sum (f := bulkValue) (fun x => by unfold bulkValue; omega) l
theorem short_of {u : Update} (h : bulkUpdate u ≤ 1048576) : shortU u := by
  unfold bulkUpdate at h
  have := vs_len u.key
  have := vs_len u.row
  simp only at h
  exact ⟨by omega, by omega⟩
theorem DiffLists_row {l : List (List Update)} (hl : l.length ≤ maxN ∧ ∀ x ∈ l, okUs x) (hb : (l.map fun xs => (xs.map bulkUpdate).sum + 1).sum + 1 + 0 ≤ 1048576) : freshetlaw05_DiffLists 100000000 l = some true := by
  have := flat_len bulkUpdate us_len l
  refine DiffLists_true lists_eq (by omega) (by omega) (fun u hu => ?_) (fun u hu => ?_)
  · obtain ⟨x, h1, h2⟩ := List.mem_flatten.1 hu
    exact us_in (hl.2 x h1) u h2
  · obtain ⟨x, h1, h2⟩ := List.mem_flatten.1 hu
    have g1 := le_sum_of (f := fun xs => (xs.map bulkUpdate).sum + 1) h1
    have g2 := le_sum_of (f := bulkUpdate) h2
    exact short_of (by omega)
end Go.Av
