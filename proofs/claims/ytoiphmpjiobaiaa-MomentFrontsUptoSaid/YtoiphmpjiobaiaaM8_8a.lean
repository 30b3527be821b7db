import Derived.Test.YtoiphmpjiobaiaaM8d
namespace Go.Av
open Go Go.Proofs
set_option linter.unusedVariables false
set_option linter.unusedSimpArgs false

set_option maxRecDepth 100000 in
theorem freshetref04_Ahead_ok {p0 : Time} {p1 : Time} {q : Bool} (h : freshetref04_Ahead p0 p1 = some q) :
    Summ Try.prog 21 [.agg (cTime p0), .agg (cTime p1)] [] (cD (.bool q)) [] := by
  refine Summ.intro Try.func21 rfl (by kernel_rfl) (by kernel_rfl) [] rfl ?_
  rintro ⟨P, w0, G0, V, LL, lk, N, φ0, fx⟩ rfl rfl rfl rfl
  unfold freshetref04_Ahead at h
  refine Tri.seqS ?_
  refine Tri.reg ?_
  refine At.seg 3 [2, 3] [2, 3] (s' := ⟨[(2, .c (.ptr 2 0)), (3, .c (.ptr 3 0))], [(2, .box (cTime p0)), (3, .box (cTime p1))]⟩) (c := True ∧ True ∧ True ∧ True) (by kernel_rfl) ⟨trivial, trivial, trivial, trivial⟩ ?_
  refine At.done rfl ?_
  show Tri _ _ _ _
  refine Tri.seqS ?_
  refine Tri.seqS ?_
  refine Tri.reg ?_
  refine At.seg 3 [2, 3, 8, 9] [2, 3] (s' := ⟨[(2, .c (.ptr 2 0)), (3, .c (.ptr 3 0)), (8, .agg [.d (u6 p0.loop.1), .d (u6 p0.loop.2)]), (9, cD (i6 0))], [(2, .box (cTime p0)), (3, .box (cTime p1))]⟩) (c := True ∧ True ∧ True ∧ True) (by kernel_rfl) ⟨trivial, trivial, trivial, trivial⟩ ?_
  refine At.done rfl ?_
  show Tri _ _ _ _
  refine Tri.keep [9, 2, 3, 8] [2, 3] (s' := idx 9 0 ⟨[(2, .c (.ptr 2 0)), (3, .c (.ptr 3 0)), (8, .agg [.d (u6 p0.loop.1), .d (u6 p0.loop.2)])], [(2, .box (cTime p0)), (3, .box (cTime p1))]⟩) (by kernel_rfl) ?_
  refine Tri.range (n := 2) (st0 := ()) (fun (x : Bool) s => RetAt Try.prog Try.f21 (cD (.bool x)) [] s) (fun (a2 : Unit) => ⟨[(2, .c (.ptr 2 0)), (3, .c (.ptr 3 0)), (8, .agg [.d (u6 p0.loop.1), .d (u6 p0.loop.2)])], [(2, .box (cTime p0)), (3, .box (cTime p1))]⟩) (fun (a2 : Unit) => ⟨[(2, .c (.ptr 2 0)), (3, .c (.ptr 3 0)), (8, .agg [.d (u6 p0.loop.1), .d (u6 p0.loop.2)])], [(2, .box (cTime p0)), (3, .box (cTime p1))]⟩) (fun i => decide ((i : Int) < (2 : Int))) [10, 9, 2, 3, 8] [2, 3] [2, 3, 8] [2, 3] [9, 2, 3, 8] [2, 3] h (by unfold maxN; omega) rfl ?_ ?_ ?_ ?_ ?_ ?_ ?_ ?_
  · exact fun i a => ⟨True ∧ True, by kernel_rfl, ⟨trivial, trivial⟩⟩
  · exact fun i hi => decide_eq_true (by omega)
  · exact decide_eq_false (by omega)
  · exact fun a => by kernel_rfl
  · exact fun i a => ⟨True ∧ True ∧ True, by kernel_rfl, ⟨trivial, trivial, trivial⟩⟩
  ·intro i1 a2 c hii1 h
   rcases i1 with _ | i1
   ·refine Tri.seqS ?_
    refine Tri.reg ?_
    refine At.seg 4 [2, 3, 5, 6, 8, 9] [2, 3] (s' := ⟨[(2, .c (.ptr 2 0)), (3, .c (.ptr 3 0)), (5, cD (i6 ((0 : Nat) : Int))), (6, cD (u6 p0.loop.1)), (8, .agg [.d (u6 p0.loop.1), .d (u6 p0.loop.2)]), (9, cD (i6 ((0 : Nat) : Int)))], [(2, .box (cTime p0)), (3, .box (cTime p1))]⟩) (c := True ∧ True ∧ True ∧ True ∧ True) (by kernel_rfl) ⟨trivial, trivial, trivial, trivial, trivial⟩ ?_
    refine At.done rfl ?_
    show Tri _ _ _ _
    refine Tri.seqS ?_
    refine Tri.reg ?_
    refine At.seg 6 [2, 3, 8, 9, 18] [2, 3] (s' := ⟨[(2, .c (.ptr 2 0)), (3, .c (.ptr 3 0)), (8, .agg [.d (u6 p0.loop.1), .d (u6 p0.loop.2)]), (9, cD (i6 ((0 : Nat) : Int))), (18, cD (.bool (decide (p1.loop.1 < p0.loop.1))))], [(2, .box (cTime p0)), (3, .box (cTime p1))]⟩) (c := True ∧ True ∧ True ∧ True ∧ True ∧ True ∧ True) (by kernel_rfl) ⟨trivial, trivial, trivial, trivial, trivial, trivial, trivial⟩ ?_
    refine At.done rfl ?_
    show Tri _ _ _ _
    refine Tri.condP (b := (decide (p1.loop.1 < p0.loop.1))) rfl h (fun h => ?_) (fun h => ?_)
    ·refine Tri.seqS ?_
     refine Tri.reg ?_
     refine At.seg 1 [4] [] (s' := ⟨[(4, cD (.bool false))], []⟩) (c := True ∧ True) (by kernel_rfl) ⟨trivial, trivial⟩ ?_
     refine At.done rfl ?_
     show Tri _ _ _ _
     refine Tri.keep [4] [] (s' := ⟨[(4, cD (.bool false))], []⟩) (by kernel_rfl) ?_
     refine Tri.ret ?_
     cases h
     refine ⟨_, _, rfl, ⟨trivial, trivial⟩, rfl, rfl, ?_⟩
     intro k c h
     cases h
    ·refine Tri.keep [9, 2, 3, 8] [2, 3] (s' := ⟨[(9, cD (i6 ((0 : Nat) : Int))), (2, .c (.ptr 2 0)), (3, .c (.ptr 3 0)), (8, .agg [.d (u6 p0.loop.1), .d (u6 p0.loop.2)])], [(2, .box (cTime p0)), (3, .box (cTime p1))]⟩) (by kernel_rfl) ?_
     refine Tri.skip ?_
     cases h
     exact rfl
   rcases i1 with _ | i1
   ·refine Tri.seqS ?_
    refine Tri.reg ?_
    refine At.seg 4 [2, 3, 5, 6, 8, 9] [2, 3] (s' := ⟨[(2, .c (.ptr 2 0)), (3, .c (.ptr 3 0)), (5, cD (i6 ((1 : Nat) : Int))), (6, cD (u6 p0.loop.2)), (8, .agg [.d (u6 p0.loop.1), .d (u6 p0.loop.2)]), (9, cD (i6 ((1 : Nat) : Int)))], [(2, .box (cTime p0)), (3, .box (cTime p1))]⟩) (c := True ∧ True ∧ True ∧ True ∧ True) (by kernel_rfl) ⟨trivial, trivial, trivial, trivial, trivial⟩ ?_
    refine At.done rfl ?_
    show Tri _ _ _ _
    refine Tri.seqS ?_
    refine Tri.reg ?_
    refine At.seg 6 [2, 3, 8, 9, 18] [2, 3] (s' := ⟨[(2, .c (.ptr 2 0)), (3, .c (.ptr 3 0)), (8, .agg [.d (u6 p0.loop.1), .d (u6 p0.loop.2)]), (9, cD (i6 ((1 : Nat) : Int))), (18, cD (.bool (decide (p1.loop.2 < p0.loop.2))))], [(2, .box (cTime p0)), (3, .box (cTime p1))]⟩) (c := True ∧ True ∧ True ∧ True ∧ True ∧ True ∧ True) (by kernel_rfl) ⟨trivial, trivial, trivial, trivial, trivial, trivial, trivial⟩ ?_
    refine At.done rfl ?_
    show Tri _ _ _ _
    refine Tri.condP (b := (decide (p1.loop.2 < p0.loop.2))) rfl h (fun h => ?_) (fun h => ?_)
    ·refine Tri.seqS ?_
     refine Tri.reg ?_
     refine At.seg 1 [4] [] (s' := ⟨[(4, cD (.bool false))], []⟩) (c := True ∧ True) (by kernel_rfl) ⟨trivial, trivial⟩ ?_
     refine At.done rfl ?_
     show Tri _ _ _ _
     refine Tri.keep [4] [] (s' := ⟨[(4, cD (.bool false))], []⟩) (by kernel_rfl) ?_
     refine Tri.ret ?_
     cases h
     refine ⟨_, _, rfl, ⟨trivial, trivial⟩, rfl, rfl, ?_⟩
     intro k c h
     cases h
    ·refine Tri.keep [9, 2, 3, 8] [2, 3] (s' := ⟨[(9, cD (i6 ((1 : Nat) : Int))), (2, .c (.ptr 2 0)), (3, .c (.ptr 3 0)), (8, .agg [.d (u6 p0.loop.1), .d (u6 p0.loop.2)])], [(2, .box (cTime p0)), (3, .box (cTime p1))]⟩) (by kernel_rfl) ?_
     refine Tri.skip ?_
     cases h
     exact rfl
   exact absurd hii1 (by omega)
  ·intro a3 h
   show Tri _ _ _ _
   refine Tri.seqS ?_
   refine Tri.reg ?_
   refine At.seg 6 [4] [] (s' := ⟨[(4, cD (.bool (decide (p0.epoch ≤ p1.epoch))))], []⟩) (c := True ∧ True ∧ True ∧ True ∧ True ∧ True ∧ True) (by kernel_rfl) ⟨trivial, trivial, trivial, trivial, trivial, trivial, trivial⟩ ?_
   refine At.done rfl ?_
   show Tri _ _ _ _
   refine Tri.keep [4] [] (s' := ⟨[(4, cD (.bool (decide (p0.epoch ≤ p1.epoch))))], []⟩) (by kernel_rfl) ?_
   refine Tri.ret ?_
   cases h
   refine ⟨_, _, rfl, ⟨trivial, trivial⟩, rfl, rfl, ?_⟩
   intro k c h
   cases h
  · exact fun x s hx hr => by cases hx; exact hr

set_option maxRecDepth 100000 in
theorem freshetref04_Compare_ok {p0 : Time} {p1 : Time} {q : Int} (h : freshetref04_Compare p0 p1 = some q) :
    Summ Try.prog 22 [.agg (cTime p0), .agg (cTime p1)] [] (cD (i6 q)) [] := by
  refine Summ.intro Try.func22 rfl (by kernel_rfl) (by kernel_rfl) [] rfl ?_
  rintro ⟨P, w0, G0, V, LL, lk, N, φ0, fx⟩ rfl rfl rfl rfl
  unfold freshetref04_Compare at h
  refine Tri.seqS ?_
  refine Tri.reg ?_
  refine At.seg 3 [2, 3] [2, 3] (s' := ⟨[(2, .c (.ptr 2 0)), (3, .c (.ptr 3 0))], [(2, .box (cTime p0)), (3, .box (cTime p1))]⟩) (c := True ∧ True ∧ True ∧ True) (by kernel_rfl) ⟨trivial, trivial, trivial, trivial⟩ ?_
  refine At.done rfl ?_
  show Tri _ _ _ _
  refine Tri.seqS ?_
  refine Tri.seqS ?_
  refine Tri.reg ?_
  refine At.seg 5 [2, 3, 11] [2, 3] (s' := ⟨[(2, .c (.ptr 2 0)), (3, .c (.ptr 3 0)), (11, cD (.bool (!decide (p0.epoch = p1.epoch))))], [(2, .box (cTime p0)), (3, .box (cTime p1))]⟩) (c := True ∧ True ∧ True ∧ True ∧ True ∧ True) (by kernel_rfl) ⟨trivial, trivial, trivial, trivial, trivial, trivial⟩ ?_
  refine At.done rfl ?_
  show Tri _ _ _ _
  refine Tri.condP (b := (!decide (p0.epoch = p1.epoch))) rfl h (fun h => ?_) (fun h => ?_)
  ·refine Tri.seqS ?_
   refine Tri.seqS ?_
   refine Tri.reg ?_
   refine At.seg 5 [16] [] (s' := ⟨[(16, cD (.bool (decide (p0.epoch < p1.epoch))))], []⟩) (c := True ∧ True ∧ True ∧ True ∧ True ∧ True) (by kernel_rfl) ⟨trivial, trivial, trivial, trivial, trivial, trivial⟩ ?_
   refine At.done rfl ?_
   show Tri _ _ _ _
   refine Tri.condP (b := (decide (p0.epoch < p1.epoch))) rfl h (fun h => ?_) (fun h => ?_)
   ·refine Tri.seqS ?_
    refine Tri.reg ?_
    refine At.seg 1 [4] [] (s' := ⟨[(4, cD (i6 (-1)))], []⟩) (c := True ∧ True) (by kernel_rfl) ⟨trivial, trivial⟩ ?_
    refine At.done rfl ?_
    show Tri _ _ _ _
    refine Tri.keep [4] [] (s' := ⟨[(4, cD (i6 (-1)))], []⟩) (by kernel_rfl) ?_
    refine Tri.ret ?_
    cases h
    refine ⟨_, _, rfl, ⟨trivial, trivial⟩, rfl, rfl, ?_⟩
    intro k c h
    cases h
   ·refine Tri.skip ?_
    show Tri _ _ _ _
    refine Tri.seqS ?_
    refine Tri.reg ?_
    refine At.seg 1 [4] [] (s' := ⟨[(4, cD (i6 1))], []⟩) (c := True ∧ True) (by kernel_rfl) ⟨trivial, trivial⟩ ?_
    refine At.done rfl ?_
    show Tri _ _ _ _
    refine Tri.keep [4] [] (s' := ⟨[(4, cD (i6 1))], []⟩) (by kernel_rfl) ?_
    refine Tri.ret ?_
    cases h
    refine ⟨_, _, rfl, ⟨trivial, trivial⟩, rfl, rfl, ?_⟩
    intro k c h
    cases h
  ·refine Tri.skip ?_
   show Tri _ _ _ _
   refine Tri.seqS ?_
   refine Tri.seqS ?_
   refine Tri.reg ?_
   refine At.seg 3 [3, 18, 19] [3] (s' := ⟨[(3, .c (.ptr 3 0)), (18, .agg [.d (u6 p0.loop.1), .d (u6 p0.loop.2)]), (19, cD (i6 0))], [(3, .box (cTime p1))]⟩) (c := True ∧ True ∧ True ∧ True) (by kernel_rfl) ⟨trivial, trivial, trivial, trivial⟩ ?_
   refine At.done rfl ?_
   show Tri _ _ _ _
   refine Tri.keep [19, 3, 18] [3] (s' := idx 19 0 ⟨[(3, .c (.ptr 3 0)), (18, .agg [.d (u6 p0.loop.1), .d (u6 p0.loop.2)])], [(3, .box (cTime p1))]⟩) (by kernel_rfl) ?_
   refine Tri.range (n := 2) (st0 := ()) (fun (x : Int) s => RetAt Try.prog Try.f22 (cD (i6 x)) [] s) (fun (a2 : Unit) => ⟨[(3, .c (.ptr 3 0)), (18, .agg [.d (u6 p0.loop.1), .d (u6 p0.loop.2)])], [(3, .box (cTime p1))]⟩) (fun (a2 : Unit) => ⟨[(3, .c (.ptr 3 0)), (18, .agg [.d (u6 p0.loop.1), .d (u6 p0.loop.2)])], [(3, .box (cTime p1))]⟩) (fun i => decide ((i : Int) < (2 : Int))) [20, 19, 3, 18] [3] [3, 18] [3] [19, 3, 18] [3] h (by unfold maxN; omega) rfl ?_ ?_ ?_ ?_ ?_ ?_ ?_ ?_
   · exact fun i a => ⟨True ∧ True, by kernel_rfl, ⟨trivial, trivial⟩⟩
   · exact fun i hi => decide_eq_true (by omega)
   · exact decide_eq_false (by omega)
   · exact fun a => by kernel_rfl
   · exact fun i a => ⟨True ∧ True ∧ True, by kernel_rfl, ⟨trivial, trivial, trivial⟩⟩
   ·intro i1 a2 c hii1 h
    rcases i1 with _ | i1
    ·refine Tri.seqS ?_
     refine Tri.reg ?_
     refine At.seg 4 [3, 5, 6, 18, 19] [3] (s' := ⟨[(3, .c (.ptr 3 0)), (5, cD (i6 ((0 : Nat) : Int))), (6, cD (u6 p0.loop.1)), (18, .agg [.d (u6 p0.loop.1), .d (u6 p0.loop.2)]), (19, cD (i6 ((0 : Nat) : Int)))], [(3, .box (cTime p1))]⟩) (c := True ∧ True ∧ True ∧ True ∧ True) (by kernel_rfl) ⟨trivial, trivial, trivial, trivial, trivial⟩ ?_
     refine At.done rfl ?_
     show Tri _ _ _ _
     refine Tri.seqS ?_
     refine Tri.seqS ?_
     refine Tri.reg ?_
     refine At.seg 6 [3, 5, 6, 18, 19, 28] [3] (s' := ⟨[(3, .c (.ptr 3 0)), (5, cD (i6 ((0 : Nat) : Int))), (6, cD (u6 p0.loop.1)), (18, .agg [.d (u6 p0.loop.1), .d (u6 p0.loop.2)]), (19, cD (i6 ((0 : Nat) : Int))), (28, cD (.bool (decide (p0.loop.1 < p1.loop.1))))], [(3, .box (cTime p1))]⟩) (c := True ∧ True ∧ True ∧ True ∧ True ∧ True ∧ True) (by kernel_rfl) ⟨trivial, trivial, trivial, trivial, trivial, trivial, trivial⟩ ?_
     refine At.done rfl ?_
     show Tri _ _ _ _
     refine Tri.condP (b := (decide (p0.loop.1 < p1.loop.1))) rfl h (fun h => ?_) (fun h => ?_)
     ·refine Tri.seqS ?_
      refine Tri.reg ?_
      refine At.seg 1 [4] [] (s' := ⟨[(4, cD (i6 (-1)))], []⟩) (c := True ∧ True) (by kernel_rfl) ⟨trivial, trivial⟩ ?_
      refine At.done rfl ?_
      show Tri _ _ _ _
      refine Tri.keep [4] [] (s' := ⟨[(4, cD (i6 (-1)))], []⟩) (by kernel_rfl) ?_
      refine Tri.ret ?_
      cases h
      refine ⟨_, _, rfl, ⟨trivial, trivial⟩, rfl, rfl, ?_⟩
      intro k c h
      cases h
     ·refine Tri.skip ?_
      show Tri _ _ _ _
      refine Tri.seqS ?_
      refine Tri.reg ?_
      refine At.seg 6 [3, 18, 19, 34] [3] (s' := ⟨[(3, .c (.ptr 3 0)), (18, .agg [.d (u6 p0.loop.1), .d (u6 p0.loop.2)]), (19, cD (i6 ((0 : Nat) : Int))), (34, cD (.bool (decide (p1.loop.1 < p0.loop.1))))], [(3, .box (cTime p1))]⟩) (c := True ∧ True ∧ True ∧ True ∧ True ∧ True ∧ True) (by kernel_rfl) ⟨trivial, trivial, trivial, trivial, trivial, trivial, trivial⟩ ?_
      refine At.done rfl ?_
      show Tri _ _ _ _
      refine Tri.condP (b := (decide (p1.loop.1 < p0.loop.1))) rfl h (fun h => ?_) (fun h => ?_)
      ·refine Tri.seqS ?_
       refine Tri.reg ?_
       refine At.seg 1 [4] [] (s' := ⟨[(4, cD (i6 1))], []⟩) (c := True ∧ True) (by kernel_rfl) ⟨trivial, trivial⟩ ?_
       refine At.done rfl ?_
       show Tri _ _ _ _
       refine Tri.keep [4] [] (s' := ⟨[(4, cD (i6 1))], []⟩) (by kernel_rfl) ?_
       refine Tri.ret ?_
       cases h
       refine ⟨_, _, rfl, ⟨trivial, trivial⟩, rfl, rfl, ?_⟩
       intro k c h
       cases h
      ·refine Tri.keep [19, 3, 18] [3] (s' := ⟨[(19, cD (i6 ((0 : Nat) : Int))), (3, .c (.ptr 3 0)), (18, .agg [.d (u6 p0.loop.1), .d (u6 p0.loop.2)])], [(3, .box (cTime p1))]⟩) (by kernel_rfl) ?_
       refine Tri.skip ?_
       cases h
       exact rfl
    rcases i1 with _ | i1
    ·refine Tri.seqS ?_
     refine Tri.reg ?_
     refine At.seg 4 [3, 5, 6, 18, 19] [3] (s' := ⟨[(3, .c (.ptr 3 0)), (5, cD (i6 ((1 : Nat) : Int))), (6, cD (u6 p0.loop.2)), (18, .agg [.d (u6 p0.loop.1), .d (u6 p0.loop.2)]), (19, cD (i6 ((1 : Nat) : Int)))], [(3, .box (cTime p1))]⟩) (c := True ∧ True ∧ True ∧ True ∧ True) (by kernel_rfl) ⟨trivial, trivial, trivial, trivial, trivial⟩ ?_
     refine At.done rfl ?_
     show Tri _ _ _ _
     refine Tri.seqS ?_
     refine Tri.seqS ?_
     refine Tri.reg ?_
     refine At.seg 6 [3, 5, 6, 18, 19, 28] [3] (s' := ⟨[(3, .c (.ptr 3 0)), (5, cD (i6 ((1 : Nat) : Int))), (6, cD (u6 p0.loop.2)), (18, .agg [.d (u6 p0.loop.1), .d (u6 p0.loop.2)]), (19, cD (i6 ((1 : Nat) : Int))), (28, cD (.bool (decide (p0.loop.2 < p1.loop.2))))], [(3, .box (cTime p1))]⟩) (c := True ∧ True ∧ True ∧ True ∧ True ∧ True ∧ True) (by kernel_rfl) ⟨trivial, trivial, trivial, trivial, trivial, trivial, trivial⟩ ?_
     refine At.done rfl ?_
     show Tri _ _ _ _
     refine Tri.condP (b := (decide (p0.loop.2 < p1.loop.2))) rfl h (fun h => ?_) (fun h => ?_)
     ·refine Tri.seqS ?_
      refine Tri.reg ?_
      refine At.seg 1 [4] [] (s' := ⟨[(4, cD (i6 (-1)))], []⟩) (c := True ∧ True) (by kernel_rfl) ⟨trivial, trivial⟩ ?_
      refine At.done rfl ?_
      show Tri _ _ _ _
      refine Tri.keep [4] [] (s' := ⟨[(4, cD (i6 (-1)))], []⟩) (by kernel_rfl) ?_
      refine Tri.ret ?_
      cases h
      refine ⟨_, _, rfl, ⟨trivial, trivial⟩, rfl, rfl, ?_⟩
      intro k c h
      cases h
     ·refine Tri.skip ?_
      show Tri _ _ _ _
      refine Tri.seqS ?_
      refine Tri.reg ?_
      refine At.seg 6 [3, 18, 19, 34] [3] (s' := ⟨[(3, .c (.ptr 3 0)), (18, .agg [.d (u6 p0.loop.1), .d (u6 p0.loop.2)]), (19, cD (i6 ((1 : Nat) : Int))), (34, cD (.bool (decide (p1.loop.2 < p0.loop.2))))], [(3, .box (cTime p1))]⟩) (c := True ∧ True ∧ True ∧ True ∧ True ∧ True ∧ True) (by kernel_rfl) ⟨trivial, trivial, trivial, trivial, trivial, trivial, trivial⟩ ?_
      refine At.done rfl ?_
      show Tri _ _ _ _
      refine Tri.condP (b := (decide (p1.loop.2 < p0.loop.2))) rfl h (fun h => ?_) (fun h => ?_)
      ·refine Tri.seqS ?_
       refine Tri.reg ?_
       refine At.seg 1 [4] [] (s' := ⟨[(4, cD (i6 1))], []⟩) (c := True ∧ True) (by kernel_rfl) ⟨trivial, trivial⟩ ?_
       refine At.done rfl ?_
       show Tri _ _ _ _
       refine Tri.keep [4] [] (s' := ⟨[(4, cD (i6 1))], []⟩) (by kernel_rfl) ?_
       refine Tri.ret ?_
       cases h
       refine ⟨_, _, rfl, ⟨trivial, trivial⟩, rfl, rfl, ?_⟩
       intro k c h
       cases h
      ·refine Tri.keep [19, 3, 18] [3] (s' := ⟨[(19, cD (i6 ((1 : Nat) : Int))), (3, .c (.ptr 3 0)), (18, .agg [.d (u6 p0.loop.1), .d (u6 p0.loop.2)])], [(3, .box (cTime p1))]⟩) (by kernel_rfl) ?_
       refine Tri.skip ?_
       cases h
       exact rfl
    exact absurd hii1 (by omega)
   ·intro a3 h
    show Tri _ _ _ _
    refine Tri.seqS ?_
    refine Tri.reg ?_
    refine At.seg 1 [4] [] (s' := ⟨[(4, cD (i6 0))], []⟩) (c := True ∧ True) (by kernel_rfl) ⟨trivial, trivial⟩ ?_
    refine At.done rfl ?_
    show Tri _ _ _ _
    refine Tri.keep [4] [] (s' := ⟨[(4, cD (i6 0))], []⟩) (by kernel_rfl) ?_
    refine Tri.ret ?_
    cases h
    refine ⟨_, _, rfl, ⟨trivial, trivial⟩, rfl, rfl, ?_⟩
    intro k c h
    cases h
   · exact fun x s hx hr => by cases hx; exact hr

set_option maxRecDepth 100000 in
theorem freshetref04_Front_ok {fuel : Nat} {p0 : List Time} {q : List Time} (h : freshetref04_Front fuel p0 = some q) :
    Summ Try.prog 28 [cD (lD 3 encTime p0)] [] (cD (lD 3 encTime q)) [] := by
  refine Summ.intro Try.func28 rfl (by kernel_rfl) (by kernel_rfl) [] rfl ?_
  rintro ⟨P, w0, G0, V, LL, lk, N, φ0, fx⟩ rfl rfl rfl rfl
  unfold freshetref04_Front at h
  refine Tri.seqS ?_
  refine Tri.reg ?_
  refine At.seg 1 [0] [] (s' := ⟨[(0, cD (lD 3 encTime p0))], []⟩) (c := True ∧ True) (by kernel_rfl) ⟨trivial, trivial⟩ ?_
  refine At.done rfl ?_
  show Tri _ _ _ _
  refine Tri.seqS ?_
  refine Tri.reg ?_
  refine At.seg 1 [0, 3] [] (s' := ⟨[(0, cD (lD 3 encTime p0)), (3, .c (.zero))], []⟩) (c := True ∧ True) (by kernel_rfl) ⟨trivial, trivial⟩ ?_
  refine At.done rfl ?_
  show Tri _ _ _ _
  refine Tri.seqS ?_
  refine Tri.seqS ?_
  refine Tri.reg ?_
  refine At.seg 3 [0, 3, 12, 13, 14] [] (s' := ⟨[(0, cD (lD 3 encTime p0)), (3, .c (.zero)), (12, cD (lD 3 encTime p0)), (13, cD (i6 (p0.length : Int))), (14, cD (i6 0))], []⟩) (c := True ∧ True ∧ True ∧ True) (by kernel_rfl) ⟨trivial, trivial, trivial, trivial⟩ ?_
  refine At.done rfl ?_
  show Tri _ _ _ _
  refine Tri.newOwn (t := 3) (k := 1003) (es := 3) (fun i => encTime (([] : List Time).getD i default)) rfl rfl rfl ?_
  refine Tri.lenOf (t := 12) rfl fun hlena2 => ?_
  refine Tri.keep [14, 0, 3, 12, 13] [1003] (s' := idx 14 0 ⟨[(0, cD (lD 3 encTime p0)), (3, .c (oC 1003 3 ([] : List Time))), (12, cD (lD 3 encTime p0)), (13, cD (i6 (p0.length : Int)))], [(1003, vL 3 encTime ([] : List Time))]⟩) (by kernel_rfl) ?_
  refine Tri.range (n := p0.length) (st0 := ([] : List Time)) (fun (x : Empty) s => False) (fun (a2 : List Time) => ⟨[(0, cD (lD 3 encTime p0)), (3, .c (oC 1003 3 a2)), (12, cD (lD 3 encTime p0)), (13, cD (i6 (p0.length : Int)))], [(1003, vL 3 encTime a2)]⟩) (fun (a2 : List Time) => ⟨[(0, cD (lD 3 encTime p0)), (3, .c (oC 1003 3 a2)), (12, cD (lD 3 encTime p0)), (13, cD (i6 (p0.length : Int)))], [(1003, vL 3 encTime a2)]⟩) (fun i => decide ((i : Int) < (p0.length : Int))) [15, 14, 0, 3, 12, 13] [1003] [0, 3, 12, 13] [1003] [14, 0, 3, 12, 13] [1003] h hlena2 rfl ?_ ?_ ?_ ?_ ?_ ?_ ?_ ?_
  · exact fun i a => ⟨True ∧ True, by kernel_rfl, ⟨trivial, trivial⟩⟩
  · exact fun i hi => decide_eq_true (by omega)
  · exact decide_eq_false (by omega)
  · exact fun a => by kernel_rfl
  · exact fun i a => ⟨True ∧ True ∧ True, by kernel_rfl, ⟨trivial, trivial, trivial⟩⟩
  ·intro i1 a2 c hii1 h
   refine Tri.seqS ?_
   refine Tri.reg ?_
   refine At.seg 4 [0, 3, 5, 12, 13, 14] [5, 1003] (s' := ⟨[(0, cD (lD 3 encTime p0)), (3, .c (oC 1003 3 a2)), (5, .c (.ptr 5 0)), (12, cD (lD 3 encTime p0)), (13, cD (i6 (p0.length : Int))), (14, cD (i6 ((i1 : Nat) : Int)))], [(5, .box (cTime (p0.getD i1 default))), (1003, vL 3 encTime a2)]⟩) (c := ((0 : Int) ≤ ((i1 : Nat) : Int) ∧ ((i1 : Nat) : Int) < (p0.length : Int)) ∧ True ∧ True ∧ True ∧ True) (by kernel_rfl) ⟨⟨by omega, by omega⟩, trivial, trivial, trivial, trivial⟩ ?_
   refine At.done rfl ?_
   show Tri _ _ _ _
   refine Tri.seqS ?_
   refine Tri.reg ?_
   refine At.seg 1 [0, 3, 5, 6, 12, 13, 14] [5, 1003] (s' := ⟨[(0, cD (lD 3 encTime p0)), (3, .c (oC 1003 3 a2)), (5, .c (.ptr 5 0)), (6, cD (.bool true)), (12, cD (lD 3 encTime p0)), (13, cD (i6 (p0.length : Int))), (14, cD (i6 ((i1 : Nat) : Int)))], [(5, .box (cTime (p0.getD i1 default))), (1003, vL 3 encTime a2)]⟩) (c := True ∧ True) (by kernel_rfl) ⟨trivial, trivial⟩ ?_
   refine At.done rfl ?_
   show Tri _ _ _ _
   refine Tri.seqS ?_
   refine Tri.seqS ?_
   refine Tri.reg ?_
   refine At.seg 3 [0, 3, 5, 6, 12, 13, 14, 18, 19, 20] [5, 1003] (s' := ⟨[(0, cD (lD 3 encTime p0)), (3, .c (oC 1003 3 a2)), (5, .c (.ptr 5 0)), (6, cD (.bool true)), (12, cD (lD 3 encTime p0)), (13, cD (i6 (p0.length : Int))), (14, cD (i6 ((i1 : Nat) : Int))), (18, cD (lD 3 encTime p0)), (19, cD (i6 (p0.length : Int))), (20, cD (i6 0))], [(5, .box (cTime (p0.getD i1 default))), (1003, vL 3 encTime a2)]⟩) (c := True ∧ True ∧ True ∧ True) (by kernel_rfl) ⟨trivial, trivial, trivial, trivial⟩ ?_
   refine At.done rfl ?_
   show Tri _ _ _ _
   refine Tri.lenOf (t := 18) rfl fun hlena5 => ?_
   refine Tri.keep [20, 0, 3, 5, 6, 12, 13, 14, 18, 19] [5, 1003] (s' := idx 20 0 ⟨[(0, cD (lD 3 encTime p0)), (3, .c (oC 1003 3 a2)), (5, .c (.ptr 5 0)), (6, cD (.bool true)), (12, cD (lD 3 encTime p0)), (13, cD (i6 (p0.length : Int))), (14, cD (i6 ((i1 : Nat) : Int))), (18, cD (lD 3 encTime p0)), (19, cD (i6 (p0.length : Int)))], [(5, .box (cTime (p0.getD i1 default))), (1003, vL 3 encTime a2)]⟩) (by kernel_rfl) ?_
   refine Tri.range (n := p0.length) (st0 := true) (fun (x : Empty) s => False) (fun (a5 : Bool) => ⟨[(0, cD (lD 3 encTime p0)), (3, .c (oC 1003 3 a2)), (5, .c (.ptr 5 0)), (6, cD (.bool a5)), (12, cD (lD 3 encTime p0)), (13, cD (i6 (p0.length : Int))), (14, cD (i6 ((i1 : Nat) : Int))), (18, cD (lD 3 encTime p0)), (19, cD (i6 (p0.length : Int)))], [(5, .box (cTime (p0.getD i1 default))), (1003, vL 3 encTime a2)]⟩) (fun (a5 : Bool) => ⟨[(0, cD (lD 3 encTime p0)), (3, .c (oC 1003 3 a2)), (5, .c (.ptr 5 0)), (6, cD (.bool a5)), (12, cD (lD 3 encTime p0)), (13, cD (i6 (p0.length : Int))), (14, cD (i6 ((i1 : Nat) : Int))), (18, cD (lD 3 encTime p0)), (19, cD (i6 (p0.length : Int)))], [(5, .box (cTime (p0.getD i1 default))), (1003, vL 3 encTime a2)]⟩) (fun i => decide ((i : Int) < (p0.length : Int))) [21, 20, 0, 3, 5, 6, 12, 13, 14, 18, 19] [5, 1003] [0, 3, 5, 6, 12, 13, 14, 18, 19] [5, 1003] [20, 0, 3, 5, 6, 12, 13, 14, 18, 19] [5, 1003] h hlena5 rfl ?_ ?_ ?_ ?_ ?_ ?_ ?_ ?_
   · exact fun i a => ⟨True ∧ True, by kernel_rfl, ⟨trivial, trivial⟩⟩
   · exact fun i hi => decide_eq_true (by omega)
   · exact decide_eq_false (by omega)
   · exact fun a => by kernel_rfl
   · exact fun i a => ⟨True ∧ True ∧ True, by kernel_rfl, ⟨trivial, trivial, trivial⟩⟩
   ·intro i4 a5 c hii4 h
    refine Tri.seqS ?_
    refine Tri.reg ?_
    refine At.seg 4 [0, 3, 5, 6, 8, 12, 13, 14, 18, 19, 20] [5, 8, 1003] (s' := ⟨[(0, cD (lD 3 encTime p0)), (3, .c (oC 1003 3 a2)), (5, .c (.ptr 5 0)), (6, cD (.bool a5)), (8, .c (.ptr 8 0)), (12, cD (lD 3 encTime p0)), (13, cD (i6 (p0.length : Int))), (14, cD (i6 ((i1 : Nat) : Int))), (18, cD (lD 3 encTime p0)), (19, cD (i6 (p0.length : Int))), (20, cD (i6 ((i4 : Nat) : Int)))], [(5, .box (cTime (p0.getD i1 default))), (8, .box (cTime (p0.getD i4 default))), (1003, vL 3 encTime a2)]⟩) (c := ((0 : Int) ≤ ((i4 : Nat) : Int) ∧ ((i4 : Nat) : Int) < (p0.length : Int)) ∧ True ∧ True ∧ True ∧ True) (by kernel_rfl) ⟨⟨by omega, by omega⟩, trivial, trivial, trivial, trivial⟩ ?_
    refine At.done rfl ?_
    show Tri _ _ _ _
    refine Tri.seqJ (fun (a24 : Bool) => ⟨[(0, cD (lD 3 encTime p0)), (3, .c (oC 1003 3 a2)), (5, .c (.ptr 5 0)), (6, cD (.bool a5)), (12, cD (lD 3 encTime p0)), (13, cD (i6 (p0.length : Int))), (14, cD (i6 ((i1 : Nat) : Int))), (18, cD (lD 3 encTime p0)), (19, cD (i6 (p0.length : Int))), (20, cD (i6 ((i4 : Nat) : Int))), (31, cD (.bool a24))], [(5, .box (cTime (p0.getD i1 default))), (1003, vL 3 encTime a2)]⟩) h (fun a24 h => ?_) (fun j25 h => ?_)
    ·show Tri _ _ ⟨[(0, cD (lD 3 encTime p0)), (3, .c (oC 1003 3 a2)), (5, .c (.ptr 5 0)), (6, cD (.bool a5)), (12, cD (lD 3 encTime p0)), (13, cD (i6 (p0.length : Int))), (14, cD (i6 ((i1 : Nat) : Int))), (18, cD (lD 3 encTime p0)), (19, cD (i6 (p0.length : Int))), (20, cD (i6 ((i4 : Nat) : Int))), (31, cD (.bool a24))], [(5, .box (cTime (p0.getD i1 default))), (1003, vL 3 encTime a2)]⟩ _
     refine Tri.condP (b := a24) rfl h (fun h => ?_) (fun h => ?_)
     ·refine Tri.reg ?_
      refine At.seg 1 [20, 0, 3, 5, 6, 12, 13, 14, 18, 19] [5, 1003] (s' := ⟨[(20, cD (i6 ((i4 : Nat) : Int))), (0, cD (lD 3 encTime p0)), (3, .c (oC 1003 3 a2)), (5, .c (.ptr 5 0)), (6, cD (.bool false)), (12, cD (lD 3 encTime p0)), (13, cD (i6 (p0.length : Int))), (14, cD (i6 ((i1 : Nat) : Int))), (18, cD (lD 3 encTime p0)), (19, cD (i6 (p0.length : Int)))], [(5, .box (cTime (p0.getD i1 default))), (1003, vL 3 encTime a2)]⟩) (c := True ∧ True) (by kernel_rfl) ⟨trivial, trivial⟩ ?_
      refine At.done rfl ?_
      cases h
      exact rfl
     ·refine Tri.keep [20, 0, 3, 5, 6, 12, 13, 14, 18, 19] [5, 1003] (s' := ⟨[(20, cD (i6 ((i4 : Nat) : Int))), (0, cD (lD 3 encTime p0)), (3, .c (oC 1003 3 a2)), (5, .c (.ptr 5 0)), (6, cD (.bool a5)), (12, cD (lD 3 encTime p0)), (13, cD (i6 (p0.length : Int))), (14, cD (i6 ((i1 : Nat) : Int))), (18, cD (lD 3 encTime p0)), (19, cD (i6 (p0.length : Int)))], [(5, .box (cTime (p0.getD i1 default))), (1003, vL 3 encTime a2)]⟩) (by kernel_rfl) ?_
      refine Tri.skip ?_
      cases h
      exact rfl
    ·refine Tri.reg ?_
     refine At.seg 2 [0, 3, 5, 6, 8, 12, 13, 14, 18, 19, 20, 24, 25] [5, 8, 1003] (s' := ⟨[(0, cD (lD 3 encTime p0)), (3, .c (oC 1003 3 a2)), (5, .c (.ptr 5 0)), (6, cD (.bool a5)), (8, .c (.ptr 8 0)), (12, cD (lD 3 encTime p0)), (13, cD (i6 (p0.length : Int))), (14, cD (i6 ((i1 : Nat) : Int))), (18, cD (lD 3 encTime p0)), (19, cD (i6 (p0.length : Int))), (20, cD (i6 ((i4 : Nat) : Int))), (24, .agg (cTime (p0.getD i4 default))), (25, .agg (cTime (p0.getD i1 default)))], [(5, .box (cTime (p0.getD i1 default))), (8, .box (cTime (p0.getD i4 default))), (1003, vL 3 encTime a2)]⟩) (c := True ∧ True ∧ True) (by kernel_rfl) ⟨trivial, trivial, trivial⟩ ?_
     refine At.one rfl (One.eql (b := (eqTime (p0.getD i4 default) (p0.getD i1 default))) (d := 9) rfl rfl rfl (.inr rfl) rfl rfl (by kernel_rfl) rfl (by kernel_rfl)) ?_
     refine At.seg 1 [0, 3, 5, 6, 8, 12, 13, 14, 18, 19, 20, 27] [5, 8, 1003] (s' := ⟨[(0, cD (lD 3 encTime p0)), (3, .c (oC 1003 3 a2)), (5, .c (.ptr 5 0)), (6, cD (.bool a5)), (8, .c (.ptr 8 0)), (12, cD (lD 3 encTime p0)), (13, cD (i6 (p0.length : Int))), (14, cD (i6 ((i1 : Nat) : Int))), (18, cD (lD 3 encTime p0)), (19, cD (i6 (p0.length : Int))), (20, cD (i6 ((i4 : Nat) : Int))), (27, cD (.bool (!(eqTime (p0.getD i4 default) (p0.getD i1 default)))))], [(5, .box (cTime (p0.getD i1 default))), (8, .box (cTime (p0.getD i4 default))), (1003, vL 3 encTime a2)]⟩) (c := True ∧ True) (by kernel_rfl) ⟨trivial, trivial⟩ ?_
     refine At.case (fun b => ⟨[(0, cD (lD 3 encTime p0)), (3, .c (oC 1003 3 a2)), (5, .c (.ptr 5 0)), (6, cD (.bool a5)), (8, .c (.ptr 8 0)), (12, cD (lD 3 encTime p0)), (13, cD (i6 (p0.length : Int))), (14, cD (i6 ((i1 : Nat) : Int))), (18, cD (lD 3 encTime p0)), (19, cD (i6 (p0.length : Int))), (20, cD (i6 ((i4 : Nat) : Int))), (27, cD (.bool b))], [(5, .box (cTime (p0.getD i1 default))), (8, .box (cTime (p0.getD i4 default))), (1003, vL 3 encTime a2)]⟩) (b := (!(eqTime (p0.getD i4 default) (p0.getD i1 default)))) h (fun h => ?_) (fun h => ?_)
     ·refine At.seg 2 [0, 3, 5, 6, 12, 13, 14, 18, 19, 20, 27, 28, 29] [5, 1003] (s' := ⟨[(0, cD (lD 3 encTime p0)), (3, .c (oC 1003 3 a2)), (5, .c (.ptr 5 0)), (6, cD (.bool a5)), (12, cD (lD 3 encTime p0)), (13, cD (i6 (p0.length : Int))), (14, cD (i6 ((i1 : Nat) : Int))), (18, cD (lD 3 encTime p0)), (19, cD (i6 (p0.length : Int))), (20, cD (i6 ((i4 : Nat) : Int))), (27, cD (.bool true)), (28, .agg (cTime (p0.getD i4 default))), (29, .agg (cTime (p0.getD i1 default)))], [(5, .box (cTime (p0.getD i1 default))), (1003, vL 3 encTime a2)]⟩) (c := True ∧ True ∧ True) (by kernel_rfl) ⟨trivial, trivial, trivial⟩ ?_
      obtain ⟨r26, hr26, h⟩ := bind_elim h
      refine At.callA (caps := []) (xs := [.agg (cTime (p0.getD i4 default)), .agg (cTime (p0.getD i1 default))]) (freshetref04_Ahead_ok hr26) rfl rfl rfl rfl rfl rfl (.cons (.refl _) (.cons (.refl _) .nil)) rfl rfl ?_
      refine At.seg 1 [0, 3, 5, 6, 12, 13, 14, 18, 19, 20, 31] [5, 1003] (s' := ⟨[(0, cD (lD 3 encTime p0)), (3, .c (oC 1003 3 a2)), (5, .c (.ptr 5 0)), (6, cD (.bool a5)), (12, cD (lD 3 encTime p0)), (13, cD (i6 (p0.length : Int))), (14, cD (i6 ((i1 : Nat) : Int))), (18, cD (lD 3 encTime p0)), (19, cD (i6 (p0.length : Int))), (20, cD (i6 ((i4 : Nat) : Int))), (31, cD (.bool r26))], [(5, .box (cTime (p0.getD i1 default))), (1003, vL 3 encTime a2)]⟩) (c := True ∧ True) (by kernel_rfl) ⟨trivial, trivial⟩ ?_
      refine At.done rfl ?_
      exact ⟨_, h, rfl⟩
     ·refine At.seg 4 [0, 3, 5, 6, 12, 13, 14, 18, 19, 20, 31] [5, 1003] (s' := ⟨[(0, cD (lD 3 encTime p0)), (3, .c (oC 1003 3 a2)), (5, .c (.ptr 5 0)), (6, cD (.bool a5)), (12, cD (lD 3 encTime p0)), (13, cD (i6 (p0.length : Int))), (14, cD (i6 ((i1 : Nat) : Int))), (18, cD (lD 3 encTime p0)), (19, cD (i6 (p0.length : Int))), (20, cD (i6 ((i4 : Nat) : Int))), (31, cD (.bool false))], [(5, .box (cTime (p0.getD i1 default))), (1003, vL 3 encTime a2)]⟩) (c := True ∧ True) (by kernel_rfl) ⟨trivial, trivial⟩ ?_
      refine At.done rfl ?_
      exact ⟨_, h, rfl⟩
   ·intro a6 h
    show Tri _ _ _ _
    refine Tri.seqS ?_
    refine Tri.seqS ?_
    refine Tri.reg ?_
    refine At.seg 3 [0, 3, 5, 6, 12, 13, 14, 33, 34, 35] [5, 1003] (s' := ⟨[(0, cD (lD 3 encTime p0)), (3, .c (oC 1003 3 a2)), (5, .c (.ptr 5 0)), (6, cD (.bool a6)), (12, cD (lD 3 encTime p0)), (13, cD (i6 (p0.length : Int))), (14, cD (i6 ((i1 : Nat) : Int))), (33, .c (oC 1003 3 a2)), (34, cD (i6 (a2.length : Int))), (35, cD (i6 0))], [(5, .box (cTime (p0.getD i1 default))), (1003, vL 3 encTime a2)]⟩) (c := True ∧ True ∧ True ∧ True) (by kernel_rfl) ⟨trivial, trivial, trivial, trivial⟩ ?_
    refine At.done rfl ?_
    show Tri _ _ _ _
    refine Tri.lenOfO (t := 3) rfl rfl (Nat.le_refl _) fun hlena8 => ?_
    refine Tri.keep [35, 0, 3, 5, 6, 12, 13, 14, 33, 34] [5, 1003] (s' := idx 35 0 ⟨[(0, cD (lD 3 encTime p0)), (3, .c (oC 1003 3 a2)), (5, .c (.ptr 5 0)), (6, cD (.bool a6)), (12, cD (lD 3 encTime p0)), (13, cD (i6 (p0.length : Int))), (14, cD (i6 ((i1 : Nat) : Int))), (33, .c (oC 1003 3 a2)), (34, cD (i6 (a2.length : Int)))], [(5, .box (cTime (p0.getD i1 default))), (1003, vL 3 encTime a2)]⟩) (by kernel_rfl) ?_
    refine Tri.range (n := a2.length) (st0 := a6) (fun (x : Empty) s => False) (fun (a8 : Bool) => ⟨[(0, cD (lD 3 encTime p0)), (3, .c (oC 1003 3 a2)), (5, .c (.ptr 5 0)), (6, cD (.bool a8)), (12, cD (lD 3 encTime p0)), (13, cD (i6 (p0.length : Int))), (14, cD (i6 ((i1 : Nat) : Int))), (33, .c (oC 1003 3 a2)), (34, cD (i6 (a2.length : Int)))], [(5, .box (cTime (p0.getD i1 default))), (1003, vL 3 encTime a2)]⟩) (fun (a8 : Bool) => ⟨[(0, cD (lD 3 encTime p0)), (3, .c (oC 1003 3 a2)), (5, .c (.ptr 5 0)), (6, cD (.bool a8)), (12, cD (lD 3 encTime p0)), (13, cD (i6 (p0.length : Int))), (14, cD (i6 ((i1 : Nat) : Int))), (33, .c (oC 1003 3 a2)), (34, cD (i6 (a2.length : Int)))], [(5, .box (cTime (p0.getD i1 default))), (1003, vL 3 encTime a2)]⟩) (fun i => decide ((i : Int) < (a2.length : Int))) [36, 35, 0, 3, 5, 6, 12, 13, 14, 33, 34] [5, 1003] [0, 3, 5, 6, 12, 13, 14, 33, 34] [5, 1003] [35, 0, 3, 5, 6, 12, 13, 14, 33, 34] [5, 1003] h hlena8 rfl ?_ ?_ ?_ ?_ ?_ ?_ ?_ ?_
    · exact fun i a => ⟨True ∧ True, by kernel_rfl, ⟨trivial, trivial⟩⟩
    · exact fun i hi => decide_eq_true (by omega)
    · exact decide_eq_false (by omega)
    · exact fun a => by kernel_rfl
    · exact fun i a => ⟨True ∧ True ∧ True, by kernel_rfl, ⟨trivial, trivial, trivial⟩⟩
    ·intro i7 a8 c hii7 h
     refine Tri.seqS ?_
     refine Tri.reg ?_
     obtain ⟨hc23, h⟩ := need_elim h
     refine At.seg 4 [0, 3, 5, 6, 10, 12, 13, 14, 33, 34, 35] [5, 10, 1003] (s' := ⟨[(0, cD (lD 3 encTime p0)), (3, .c (oC 1003 3 a2)), (5, .c (.ptr 5 0)), (6, cD (.bool a8)), (10, .c (.ptr 10 0)), (12, cD (lD 3 encTime p0)), (13, cD (i6 (p0.length : Int))), (14, cD (i6 ((i1 : Nat) : Int))), (33, .c (oC 1003 3 a2)), (34, cD (i6 (a2.length : Int))), (35, cD (i6 ((i7 : Nat) : Int)))], [(5, .box (cTime (p0.getD i1 default))), (10, .box (cTime (a2.getD (0 + i7) default))), (1003, vL 3 encTime a2)]⟩) (c := ((0 : Int) ≤ ((i7 : Nat) : Int) ∧ ((i7 : Nat) : Int) < (a2.length : Int)) ∧ ((0 + i7) < a2.length) ∧ True ∧ True ∧ True) (by kernel_rfl) ⟨⟨by omega, by omega⟩, hc23, trivial, trivial, trivial⟩ ?_
     refine At.done rfl ?_
     show Tri _ _ _ _
     refine Tri.seqS ?_
     refine Tri.reg ?_
     refine At.seg 2 [0, 3, 5, 6, 12, 13, 14, 33, 34, 35, 39, 40] [5, 1003] (s' := ⟨[(0, cD (lD 3 encTime p0)), (3, .c (oC 1003 3 a2)), (5, .c (.ptr 5 0)), (6, cD (.bool a8)), (12, cD (lD 3 encTime p0)), (13, cD (i6 (p0.length : Int))), (14, cD (i6 ((i1 : Nat) : Int))), (33, .c (oC 1003 3 a2)), (34, cD (i6 (a2.length : Int))), (35, cD (i6 ((i7 : Nat) : Int))), (39, .agg (cTime (a2.getD (0 + i7) default))), (40, .agg (cTime (p0.getD i1 default)))], [(5, .box (cTime (p0.getD i1 default))), (1003, vL 3 encTime a2)]⟩) (c := True ∧ True ∧ True) (by kernel_rfl) ⟨trivial, trivial, trivial⟩ ?_
     refine At.one rfl (One.eql (b := (eqTime (a2.getD (0 + i7) default) (p0.getD i1 default))) (d := 9) rfl rfl rfl (.inl rfl) rfl rfl (by kernel_rfl) rfl (by kernel_rfl)) ?_
     refine At.done rfl ?_
     show Tri _ _ _ _
     refine Tri.condP (b := (eqTime (a2.getD (0 + i7) default) (p0.getD i1 default))) rfl h (fun h => ?_) (fun h => ?_)
     ·refine Tri.reg ?_
      refine At.seg 1 [35, 0, 3, 5, 6, 12, 13, 14, 33, 34] [5, 1003] (s' := ⟨[(35, cD (i6 ((i7 : Nat) : Int))), (0, cD (lD 3 encTime p0)), (3, .c (oC 1003 3 a2)), (5, .c (.ptr 5 0)), (6, cD (.bool false)), (12, cD (lD 3 encTime p0)), (13, cD (i6 (p0.length : Int))), (14, cD (i6 ((i1 : Nat) : Int))), (33, .c (oC 1003 3 a2)), (34, cD (i6 (a2.length : Int)))], [(5, .box (cTime (p0.getD i1 default))), (1003, vL 3 encTime a2)]⟩) (c := True ∧ True) (by kernel_rfl) ⟨trivial, trivial⟩ ?_
      refine At.done rfl ?_
      cases h
      exact rfl
     ·refine Tri.keep [35, 0, 3, 5, 6, 12, 13, 14, 33, 34] [5, 1003] (s' := ⟨[(35, cD (i6 ((i7 : Nat) : Int))), (0, cD (lD 3 encTime p0)), (3, .c (oC 1003 3 a2)), (5, .c (.ptr 5 0)), (6, cD (.bool a8)), (12, cD (lD 3 encTime p0)), (13, cD (i6 (p0.length : Int))), (14, cD (i6 ((i1 : Nat) : Int))), (33, .c (oC 1003 3 a2)), (34, cD (i6 (a2.length : Int)))], [(5, .box (cTime (p0.getD i1 default))), (1003, vL 3 encTime a2)]⟩) (by kernel_rfl) ?_
      refine Tri.skip ?_
      cases h
      exact rfl
    ·intro a9 h
     show Tri _ _ _ _
     refine Tri.seqS ?_
     refine Tri.seqS ?_
     refine Tri.reg ?_
     refine At.seg 2 [0, 3, 5, 12, 13, 14, 44] [5, 1003] (s' := ⟨[(0, cD (lD 3 encTime p0)), (3, .c (oC 1003 3 a2)), (5, .c (.ptr 5 0)), (12, cD (lD 3 encTime p0)), (13, cD (i6 (p0.length : Int))), (14, cD (i6 ((i1 : Nat) : Int))), (44, cD (.bool (!a9)))], [(5, .box (cTime (p0.getD i1 default))), (1003, vL 3 encTime a2)]⟩) (c := True ∧ True ∧ True) (by kernel_rfl) ⟨trivial, trivial, trivial⟩ ?_
     refine At.done rfl ?_
     show Tri _ _ _ _
     refine Tri.condP (b := (!a9)) rfl h (fun h => ?_) (fun h => ?_)
     ·refine Tri.keep [14, 0, 3, 12, 13] [1003] (s' := ⟨[(14, cD (i6 ((i1 : Nat) : Int))), (0, cD (lD 3 encTime p0)), (3, .c (oC 1003 3 a2)), (12, cD (lD 3 encTime p0)), (13, cD (i6 (p0.length : Int)))], [(1003, vL 3 encTime a2)]⟩) (by kernel_rfl) ?_
      refine Tri.exit ?_
      cases h
      exact ⟨rfl, rfl⟩
     ·refine Tri.skip ?_
      show Tri _ _ _ _
      refine Tri.seqS ?_
      refine Tri.reg ?_
      refine At.seg 1 [0, 3, 5, 11, 12, 13, 14] [5, 1003] (s' := ⟨[(0, cD (lD 3 encTime p0)), (3, .c (oC 1003 3 a2)), (5, .c (.ptr 5 0)), (11, cD (i6 0)), (12, cD (lD 3 encTime p0)), (13, cD (i6 (p0.length : Int))), (14, cD (i6 ((i1 : Nat) : Int)))], [(5, .box (cTime (p0.getD i1 default))), (1003, vL 3 encTime a2)]⟩) (c := True ∧ True) (by kernel_rfl) ⟨trivial, trivial⟩ ?_
      refine At.done rfl ?_
      show Tri _ _ _ _
      refine Tri.seqS ?_
      refine Tri.keep [0, 3, 5, 11, 12, 13, 14] [5, 1003] (s' := ⟨[(0, cD (lD 3 encTime p0)), (3, .c (oC 1003 3 a2)), (5, .c (.ptr 5 0)), (11, cD (i6 0)), (12, cD (lD 3 encTime p0)), (13, cD (i6 (p0.length : Int))), (14, cD (i6 ((i1 : Nat) : Int)))], [(5, .box (cTime (p0.getD i1 default))), (1003, vL 3 encTime a2)]⟩) (by kernel_rfl) ?_
      refine Tri.loopK (fuel := fuel) (st0 := 0) (fun (x : Empty) s => False) (fun (a10 : Int) => ⟨[(0, cD (lD 3 encTime p0)), (3, .c (oC 1003 3 a2)), (5, .c (.ptr 5 0)), (11, cD (i6 a10)), (12, cD (lD 3 encTime p0)), (13, cD (i6 (p0.length : Int))), (14, cD (i6 ((i1 : Nat) : Int)))], [(5, .box (cTime (p0.getD i1 default))), (1003, vL 3 encTime a2)]⟩) (fun (a10 : Int) => ⟨[(0, cD (lD 3 encTime p0)), (3, .c (oC 1003 3 a2)), (5, .c (.ptr 5 0)), (11, cD (i6 a10)), (12, cD (lD 3 encTime p0)), (13, cD (i6 (p0.length : Int))), (14, cD (i6 ((i1 : Nat) : Int)))], [(5, .box (cTime (p0.getD i1 default))), (1003, vL 3 encTime a2)]⟩) h ?_ ?_ ?_
      ·intro a10 c h
       show Tri _ _ ⟨[(0, cD (lD 3 encTime p0)), (3, .c (oC 1003 3 a2)), (5, .c (.ptr 5 0)), (11, cD (i6 a10)), (12, cD (lD 3 encTime p0)), (13, cD (i6 (p0.length : Int))), (14, cD (i6 ((i1 : Nat) : Int)))], [(5, .box (cTime (p0.getD i1 default))), (1003, vL 3 encTime a2)]⟩ _
       refine Tri.seqS ?_
       refine Tri.seqJ (fun (a17 : Bool) => ⟨[(0, cD (lD 3 encTime p0)), (3, .c (oC 1003 3 a2)), (5, .c (.ptr 5 0)), (11, cD (i6 a10)), (12, cD (lD 3 encTime p0)), (13, cD (i6 (p0.length : Int))), (14, cD (i6 ((i1 : Nat) : Int))), (57, cD (.bool a17))], [(5, .box (cTime (p0.getD i1 default))), (1003, vL 3 encTime a2)]⟩) h (fun a17 h => ?_) (fun j18 h => ?_)
       ·show Tri _ _ ⟨[(0, cD (lD 3 encTime p0)), (3, .c (oC 1003 3 a2)), (5, .c (.ptr 5 0)), (11, cD (i6 a10)), (12, cD (lD 3 encTime p0)), (13, cD (i6 (p0.length : Int))), (14, cD (i6 ((i1 : Nat) : Int))), (57, cD (.bool a17))], [(5, .box (cTime (p0.getD i1 default))), (1003, vL 3 encTime a2)]⟩ _
        refine Tri.condP (b := a17) rfl h (fun h => ?_) (fun h => ?_)
        ·refine Tri.skip ?_
         show Tri _ _ _ _
         refine Tri.blockB ?_
         refine Tri.reg ?_
         refine At.seg 3 [0, 3, 5, 11, 12, 13, 14] [5, 1003] (s' := ⟨[(0, cD (lD 3 encTime p0)), (3, .c (oC 1003 3 a2)), (5, .c (.ptr 5 0)), (11, cD (i6 (IntKind.i64.wrap (a10 + 1)))), (12, cD (lD 3 encTime p0)), (13, cD (i6 (p0.length : Int))), (14, cD (i6 ((i1 : Nat) : Int)))], [(5, .box (cTime (p0.getD i1 default))), (1003, vL 3 encTime a2)]⟩) (c := True ∧ True ∧ True ∧ True) (by kernel_rfl) ⟨trivial, trivial, trivial, trivial⟩ ?_
         refine At.done rfl ?_
         cases h
         exact rfl
        ·refine Tri.keep [0, 3, 5, 11, 12, 13, 14] [5, 1003] (s' := ⟨[(0, cD (lD 3 encTime p0)), (3, .c (oC 1003 3 a2)), (5, .c (.ptr 5 0)), (11, cD (i6 a10)), (12, cD (lD 3 encTime p0)), (13, cD (i6 (p0.length : Int))), (14, cD (i6 ((i1 : Nat) : Int)))], [(5, .box (cTime (p0.getD i1 default))), (1003, vL 3 encTime a2)]⟩) (by kernel_rfl) ?_
         refine Tri.exit ?_
         cases h
         exact ⟨rfl, rfl⟩
       ·rcases bf_cases h with ⟨hp19, h⟩ | ⟨hp19, h⟩
        ·obtain ⟨hc20, h⟩ := need_elim h
         obtain ⟨hc21, h⟩ := need_elim h
         obtain ⟨r22, hr22, h⟩ := bind_elim h
         refine Tri.drawn (specs := [⟨⟨[(11, cD (i6 a10))], []⟩, ⟨[(45, cD (i6 a10))], []⟩, [], [], []⟩, ⟨⟨[(3, .c (oC 1003 3 a2))], []⟩, ⟨[(46, .c (oC 1003 3 a2))], []⟩, [], [], []⟩, ⟨⟨[(46, .c (oC 1003 3 a2))], [(1003, vL 3 encTime a2)]⟩, ⟨[(47, cD (i6 (a2.length : Int)))], []⟩, [], [], []⟩, ⟨⟨[(45, cD (i6 a10)), (47, cD (i6 (a2.length : Int)))], []⟩, ⟨[(48, cD (.bool (decide (a10 < (a2.length : Int)))))], []⟩, [], [], []⟩, ⟨⟨[(48, cD (.bool (decide (a10 < (a2.length : Int)))))], []⟩, ⟨[(49, .c (.d (.bool true)))], []⟩, [], [], []⟩, ⟨⟨[(3, .c (oC 1003 3 a2)), (49, cD (.bool true))], []⟩, ⟨[(50, .c (oC 1003 3 a2))], []⟩, [], [], []⟩, ⟨⟨[(11, cD (i6 a10)), (49, cD (.bool true))], []⟩, ⟨[(51, cD (i6 a10))], []⟩, [], [], []⟩, ⟨⟨[(49, cD (.bool true)), (50, .c (oC 1003 3 a2)), (51, cD (i6 a10))], [(1003, vL 3 encTime a2)]⟩, ⟨[(52, .c (.vptr 1003 3 (0 + a10.toNat) 0))], []⟩, [], [], []⟩, ⟨⟨[(49, cD (.bool true)), (52, .c (.vptr 1003 3 (0 + a10.toNat) 0))], [(1003, vL 3 encTime a2)]⟩, ⟨[(53, .agg (cTime (a2.getD (0 + a10.toNat) default)))], []⟩, [], [], []⟩, ⟨⟨[(5, .c (.ptr 5 0)), (49, cD (.bool true))], [(5, .box (cTime (p0.getD i1 default)))]⟩, ⟨[(54, .agg (cTime (p0.getD i1 default)))], []⟩, [], [], []⟩, ⟨⟨[(49, cD (.bool true)), (53, .agg (cTime (a2.getD (0 + a10.toNat) default))), (54, .agg (cTime (p0.getD i1 default)))], []⟩, ⟨[(55, cD (i6 r22))], []⟩, [], [], []⟩, ⟨⟨[(49, cD (.bool true)), (55, cD (i6 r22))], []⟩, ⟨[(56, cD (.bool (decide (r22 < 0))))], []⟩, [], [], []⟩, ⟨⟨[(49, cD (.bool true)), (56, cD (.bool (decide (r22 < 0))))], []⟩, ⟨[(57, cD (.bool (decide (r22 < 0))))], []⟩, [], [], []⟩]) (bef := [[], [], [1], [0, 1, 2], [0, 1, 2, 3], [0, 1, 2, 3, 4], [0, 1, 2, 3, 4], [0, 1, 2, 3, 4, 5, 6], [0, 1, 2, 3, 4, 5, 6, 7], [0, 1, 2, 3, 4], [0, 1, 2, 3, 4, 5, 6, 7, 8, 9], [0, 1, 2, 3, 4, 5, 6, 7, 8, 9, 10], [0, 1, 2, 3, 4, 5, 6, 7, 8, 9, 10, 11]]) (tk := [0, 3, 5, 11, 12, 13, 14, 57]) (sk := [5, 1003]) (s' := ⟨[(0, cD (lD 3 encTime p0)), (3, .c (oC 1003 3 a2)), (5, .c (.ptr 5 0)), (11, cD (i6 a10)), (12, cD (lD 3 encTime p0)), (13, cD (i6 (p0.length : Int))), (14, cD (i6 ((i1 : Nat) : Int))), (57, cD (.bool (decide (r22 < 0))))], [(5, .box (cTime (p0.getD i1 default))), (1003, vL 3 encTime a2)]⟩) (by kernel_rfl) (by kernel_rfl) (by kernel_rfl) ⟨?_, ?_, ?_, ?_, ?_, ?_, ?_, ?_, ?_, ?_, ?_, ?_, ?_, trivial⟩ (by kernel_rfl) ?_
         · exact DOk.t rfl rfl (by kernel_rfl) (by kernel_rfl)
         · exact DOk.t rfl rfl (by kernel_rfl) (by kernel_rfl)
         · exact DOk.t rfl rfl (by kernel_rfl) (by kernel_rfl)
         · exact DOk.t rfl rfl (by kernel_rfl) (by kernel_rfl)
         · exact DOk.stepP (fun b => .val (.c (.d (.bool b))) (True)) (p := (decide (a10 < (a2.length : Int)))) hp19 (fun r => by kernel_rfl) (fun r => by kernel_rfl) trivial (by kernel_rfl) (by kernel_rfl) (fun r => rfl)
         · exact DOk.t rfl rfl (by kernel_rfl) (by kernel_rfl)
         · exact DOk.t rfl rfl (by kernel_rfl) (by kernel_rfl)
         · exact DOk.step (.val (.c (.vptr 1003 3 (0 + a10.toNat) 0)) ((0 : Int) ≤ a10 ∧ a10 < (a2.length : Int))) (fun r => by kernel_rfl) (fun r => by kernel_rfl) hc20 (by kernel_rfl) (by kernel_rfl) (fun r => rfl)
         · exact DOk.step (.val (.agg (cTime (a2.getD (0 + a10.toNat) default))) ((0 + a10.toNat) < a2.length)) (fun r => by kernel_rfl) (fun r => by kernel_rfl) hc21 (by kernel_rfl) (by kernel_rfl) (fun r => rfl)
         · exact DOk.t rfl rfl (by kernel_rfl) (by kernel_rfl)
         · exact DOk.callA (caps := []) (xs := [.agg (cTime (a2.getD (0 + a10.toNat) default)), .agg (cTime (p0.getD i1 default))]) (freshetref04_Compare_ok hr22) rfl (fun r => by kernel_rfl) rfl (fun r => by kernel_rfl) (fun r => by kernel_rfl) (fun r => (.cons (.refl _) (.cons (.refl _) .nil))) rfl rfl (fun r => rfl)
         · exact DOk.t rfl rfl (by kernel_rfl) (by kernel_rfl)
         · exact DOk.t rfl rfl (by kernel_rfl) (by kernel_rfl)
         exact ⟨_, h, rfl⟩
        ·refine Tri.drawn (specs := [⟨⟨[(11, cD (i6 a10))], []⟩, ⟨[(45, cD (i6 a10))], []⟩, [], [], []⟩, ⟨⟨[(3, .c (oC 1003 3 a2))], []⟩, ⟨[(46, .c (oC 1003 3 a2))], []⟩, [], [], []⟩, ⟨⟨[(46, .c (oC 1003 3 a2))], [(1003, vL 3 encTime a2)]⟩, ⟨[(47, cD (i6 (a2.length : Int)))], []⟩, [], [], []⟩, ⟨⟨[(45, cD (i6 a10)), (47, cD (i6 (a2.length : Int)))], []⟩, ⟨[(48, cD (.bool (decide (a10 < (a2.length : Int)))))], []⟩, [], [], []⟩, ⟨⟨[(48, cD (.bool (decide (a10 < (a2.length : Int)))))], []⟩, ⟨[(49, .c (.d (.bool false)))], []⟩, [], [], []⟩, ⟨⟨[(3, .c (oC 1003 3 a2)), (49, cD (.bool false))], []⟩, ⟨[(50, .tup [])], []⟩, [], [], []⟩, ⟨⟨[(11, cD (i6 a10)), (49, cD (.bool false))], []⟩, ⟨[(51, .tup [])], []⟩, [], [], []⟩, ⟨⟨[(49, cD (.bool false)), (50, .tup []), (51, .tup [])], []⟩, ⟨[(52, .tup [])], []⟩, [], [], []⟩, ⟨⟨[(49, cD (.bool false)), (52, .tup [])], []⟩, ⟨[(53, .tup [])], []⟩, [], [], []⟩, ⟨⟨[(5, .c (.ptr 5 0)), (49, cD (.bool false))], [(5, .box (cTime (p0.getD i1 default)))]⟩, ⟨[(54, .tup [])], []⟩, [], [], []⟩, ⟨⟨[(49, cD (.bool false)), (53, .tup []), (54, .tup [])], []⟩, ⟨[(55, .tup [])], []⟩, [], [], []⟩, ⟨⟨[(49, cD (.bool false)), (55, .tup [])], []⟩, ⟨[(56, .tup [])], []⟩, [], [], []⟩, ⟨⟨[(49, cD (.bool false)), (56, .tup [])], []⟩, ⟨[(57, cD (.bool false))], []⟩, [], [], []⟩]) (bef := [[], [], [1], [0, 1, 2], [0, 1, 2, 3], [0, 1, 2, 3, 4], [0, 1, 2, 3, 4], [0, 1, 2, 3, 4, 5, 6], [0, 1, 2, 3, 4, 5, 6, 7], [0, 1, 2, 3, 4], [0, 1, 2, 3, 4, 5, 6, 7, 8, 9], [0, 1, 2, 3, 4, 5, 6, 7, 8, 9, 10], [0, 1, 2, 3, 4, 5, 6, 7, 8, 9, 10, 11]]) (tk := [0, 3, 5, 11, 12, 13, 14, 57]) (sk := [5, 1003]) (s' := ⟨[(0, cD (lD 3 encTime p0)), (3, .c (oC 1003 3 a2)), (5, .c (.ptr 5 0)), (11, cD (i6 a10)), (12, cD (lD 3 encTime p0)), (13, cD (i6 (p0.length : Int))), (14, cD (i6 ((i1 : Nat) : Int))), (57, cD (.bool false))], [(5, .box (cTime (p0.getD i1 default))), (1003, vL 3 encTime a2)]⟩) (by kernel_rfl) (by kernel_rfl) (by kernel_rfl) ⟨?_, ?_, ?_, ?_, ?_, ?_, ?_, ?_, ?_, ?_, ?_, ?_, ?_, trivial⟩ (by kernel_rfl) ?_
         · exact DOk.t rfl rfl (by kernel_rfl) (by kernel_rfl)
         · exact DOk.t rfl rfl (by kernel_rfl) (by kernel_rfl)
         · exact DOk.t rfl rfl (by kernel_rfl) (by kernel_rfl)
         · exact DOk.t rfl rfl (by kernel_rfl) (by kernel_rfl)
         · exact DOk.stepP (fun b => .val (.c (.d (.bool b))) (True)) (p := (decide (a10 < (a2.length : Int)))) hp19 (fun r => by kernel_rfl) (fun r => by kernel_rfl) trivial (by kernel_rfl) (by kernel_rfl) (fun r => rfl)
         · exact DOk.skip (fun r => by kernel_rfl) rfl rfl (fun r => rfl)
         · exact DOk.skip (fun r => by kernel_rfl) rfl rfl (fun r => rfl)
         · exact DOk.skip (fun r => by kernel_rfl) rfl rfl (fun r => rfl)
         · exact DOk.skip (fun r => by kernel_rfl) rfl rfl (fun r => rfl)
         · exact DOk.skip (fun r => by kernel_rfl) rfl rfl (fun r => rfl)
         · exact DOk.skip (fun r => by kernel_rfl) rfl rfl (fun r => rfl)
         · exact DOk.skip (fun r => by kernel_rfl) rfl rfl (fun r => rfl)
         · exact DOk.t rfl rfl (by kernel_rfl) (by kernel_rfl)
         exact ⟨_, h, rfl⟩
      ·intro a11 h
       show Tri _ _ _ _
       obtain ⟨hc12, h⟩ := need_elim h
       obtain ⟨hc13, h⟩ := need_elim h
       obtain ⟨hc14, h⟩ := need_elim h
       obtain ⟨hc15, h⟩ := need_elim h
       obtain ⟨hc16, h⟩ := need_elim h
       refine Tri.afterA ⟨[(0, cD (lD 3 encTime p0)), (3, .c (oC 64 3 (((sub a2 (0 : Int) a11) ++ ([(p0.getD i1 default)] : List Time)) ++ (sub a2 a11 (a2.length : Int))))), (12, cD (lD 3 encTime p0)), (13, cD (i6 (p0.length : Int))), (14, cD (i6 ((i1 : Nat) : Int)))], [(64, vL 3 encTime (((sub a2 (0 : Int) a11) ++ ([(p0.getD i1 default)] : List Time)) ++ (sub a2 a11 (a2.length : Int))))]⟩ ?_ ?_
       ·refine Tri.drawn (specs := [⟨⟨[], []⟩, ⟨[(60, .c (.zero))], []⟩, [], [], []⟩, ⟨⟨[(3, .c (oC 1003 3 a2))], []⟩, ⟨[(61, .c (oC 1003 3 a2))], []⟩, [], [], []⟩, ⟨⟨[(11, cD (i6 a11))], []⟩, ⟨[(62, cD (i6 a11))], []⟩, [], [], []⟩, ⟨⟨[(61, .c (oC 1003 3 a2)), (62, cD (i6 a11))], [(1003, vL 3 encTime a2)]⟩, ⟨[(63, .c (.own 1003 3 (0 + (0 : Int).toNat) (a11.toNat - (0 : Int).toNat)))], []⟩, [], [], []⟩, ⟨⟨[(60, .c (.zero)), (63, .c (.own 1003 3 (0 + (0 : Int).toNat) (a11.toNat - (0 : Int).toNat)))], [(1003, vL 3 encTime a2)]⟩, ⟨[(64, .c (oC 64 3 (sub a2 (0 : Int) a11)))], [(64, vL 3 encTime (sub a2 (0 : Int) a11))]⟩, [64], [], []⟩, ⟨⟨[(5, .c (.ptr 5 0))], [(5, .box (cTime (p0.getD i1 default)))]⟩, ⟨[(65, .agg (cTime (p0.getD i1 default)))], []⟩, [], [], []⟩, ⟨⟨[(65, .agg (cTime (p0.getD i1 default)))], []⟩, ⟨[(66, .c (oC 66 3 ([(p0.getD i1 default)] : List Time)))], [(66, vL 3 encTime ([(p0.getD i1 default)] : List Time))]⟩, [66], [], []⟩, ⟨⟨[(64, .c (oC 64 3 (sub a2 (0 : Int) a11))), (66, .c (oC 66 3 ([(p0.getD i1 default)] : List Time)))], [(64, vL 3 encTime (sub a2 (0 : Int) a11)), (66, vL 3 encTime ([(p0.getD i1 default)] : List Time))]⟩, ⟨[(67, .c (oC 64 3 ((sub a2 (0 : Int) a11) ++ ([(p0.getD i1 default)] : List Time)))), (64, .c (.any))], [(64, vL 3 encTime ((sub a2 (0 : Int) a11) ++ ([(p0.getD i1 default)] : List Time)))]⟩, [64], [64], []⟩, ⟨⟨[(3, .c (oC 1003 3 a2))], []⟩, ⟨[(68, .c (oC 1003 3 a2))], []⟩, [], [], []⟩, ⟨⟨[(11, cD (i6 a11))], []⟩, ⟨[(69, cD (i6 a11))], []⟩, [], [], []⟩, ⟨⟨[(68, .c (oC 1003 3 a2)), (69, cD (i6 a11))], [(1003, vL 3 encTime a2)]⟩, ⟨[(70, .c (.own 1003 3 (0 + a11.toNat) ((a2.length : Int).toNat - a11.toNat)))], []⟩, [], [], []⟩, ⟨⟨[(64, .c (.any)), (67, .c (oC 64 3 ((sub a2 (0 : Int) a11) ++ ([(p0.getD i1 default)] : List Time)))), (70, .c (.own 1003 3 (0 + a11.toNat) ((a2.length : Int).toNat - a11.toNat)))], [(64, vL 3 encTime ((sub a2 (0 : Int) a11) ++ ([(p0.getD i1 default)] : List Time))), (1003, vL 3 encTime a2)]⟩, ⟨[(71, .c (oC 64 3 (((sub a2 (0 : Int) a11) ++ ([(p0.getD i1 default)] : List Time)) ++ (sub a2 a11 (a2.length : Int))))), (64, .c (.any)), (67, .c (.any))], [(64, vL 3 encTime (((sub a2 (0 : Int) a11) ++ ([(p0.getD i1 default)] : List Time)) ++ (sub a2 a11 (a2.length : Int))))]⟩, [64], [64, 67], []⟩, ⟨⟨[(71, .c (oC 64 3 (((sub a2 (0 : Int) a11) ++ ([(p0.getD i1 default)] : List Time)) ++ (sub a2 a11 (a2.length : Int)))))], []⟩, ⟨[(3, .c (oC 64 3 (((sub a2 (0 : Int) a11) ++ ([(p0.getD i1 default)] : List Time)) ++ (sub a2 a11 (a2.length : Int)))))], []⟩, [], [], []⟩]) (bef := [[], [], [], [1, 2], [0, 1, 2, 3], [], [5], [0, 1, 2, 3, 4, 5, 6], [], [], [8, 9], [0, 1, 2, 3, 4, 5, 6, 7, 8, 9, 10], [0, 1, 2, 3, 4, 5, 6, 7, 8, 9, 10, 11]]) (tk := [0, 3, 12, 13, 14]) (sk := [64]) (s' := ⟨[(0, cD (lD 3 encTime p0)), (3, .c (oC 64 3 (((sub a2 (0 : Int) a11) ++ ([(p0.getD i1 default)] : List Time)) ++ (sub a2 a11 (a2.length : Int))))), (12, cD (lD 3 encTime p0)), (13, cD (i6 (p0.length : Int))), (14, cD (i6 ((i1 : Nat) : Int)))], [(64, vL 3 encTime (((sub a2 (0 : Int) a11) ++ ([(p0.getD i1 default)] : List Time)) ++ (sub a2 a11 (a2.length : Int))))]⟩) (by kernel_rfl) (by kernel_rfl) (by kernel_rfl) ⟨?_, ?_, ?_, ?_, ?_, ?_, ?_, ?_, ?_, ?_, ?_, ?_, ?_, trivial⟩ (by kernel_rfl) ?_
        · exact DOk.one fun r _ => One.build0 (e := 27) (es := 3) rfl (by kernel_rfl) rfl rfl (by kernel_rfl) rfl
        · exact DOk.t rfl rfl (by kernel_rfl) (by kernel_rfl)
        · exact DOk.t rfl rfl (by kernel_rfl) (by kernel_rfl)
        · exact DOk.step (.val (.c (.own 1003 3 (0 + (0 : Int).toNat) (a11.toNat - (0 : Int).toNat))) ((0 : Int) ≤ 0 ∧ (0 : Int) ≤ a11 ∧ a11 ≤ (a2.length : Int))) (fun r => by kernel_rfl) (fun r => by kernel_rfl) hc12 (by kernel_rfl) (by kernel_rfl) (fun r => rfl)
        · exact DOk.one fun r hr => One.append0 (e := 27) (es := 3) (m := (sub a2 (0 : Int) a11).length) (get := fun i => encTime ((sub a2 (0 : Int) a11).getD i default)) rfl (by kernel_rfl) rfl rfl (St.noRef_app (by kernel_rfl) (hr 64 (by simp))) (.of 27 24 [.d (u6 0), .d (u6 0), .d (u6 0)] (by kernel_rfl) (by kernel_rfl) (by kernel_rfl) (by kernel_rfl) rfl (by kernel_rfl) rfl) rfl rfl (.subO (encTime) rfl hc12.1 hc12.2.1 hc12.2.2) hc13
        · exact DOk.t rfl rfl (by kernel_rfl) (by kernel_rfl)
        · exact DOk.one fun r hr => One.buildT (e := 27) (es := 3) (z := [.d (u6 0), .d (u6 0), .d (u6 0)]) (cells := [.d (u6 ((p0.getD i1 default).epoch)), .d (u6 ((p0.getD i1 default).loop.1)), .d (u6 ((p0.getD i1 default).loop.2))]) (encTime) ([(p0.getD i1 default)] : List Time) rfl (by kernel_rfl) rfl rfl (St.noRef_app (by kernel_rfl) (hr 66 (by simp))) (by kernel_rfl) rfl (by kernel_rfl) rfl rfl rfl (by kernel_rfl) rfl ⟨⟨rfl, .refl _⟩, trivial⟩
        · exact DOk.drop (k := 64) (d := 67) (v := vL 3 encTime ((sub a2 (0 : Int) a11) ++ ([(p0.getD i1 default)] : List Time))) (av := .c (oC 64 3 ((sub a2 (0 : Int) a11) ++ ([(p0.getD i1 default)] : List Time)))) rfl (fun r hr => One.appendT (e := 27) (es := 3) (encTime) (sub a2 (0 : Int) a11) ([(p0.getD i1 default)] : List Time) rfl rfl (by kernel_rfl) rfl rfl (.of 27 24 [.d (u6 0), .d (u6 0), .d (u6 0)] (by kernel_rfl) (by kernel_rfl) (by kernel_rfl) (by kernel_rfl) rfl (by kernel_rfl) rfl) rfl rfl rfl (.own rfl (by simp) rfl (shift0 (encTime) ([(p0.getD i1 default)] : List Time) _)) hc14) (by kernel_rfl) (by kernel_rfl) (by kernel_rfl) (by kernel_rfl)
        · exact DOk.t rfl rfl (by kernel_rfl) (by kernel_rfl)
        · exact DOk.t rfl rfl (by kernel_rfl) (by kernel_rfl)
        · exact DOk.step (.val (.c (.own 1003 3 (0 + a11.toNat) ((a2.length : Int).toNat - a11.toNat))) ((0 : Int) ≤ a11 ∧ a11 ≤ (a2.length : Int) ∧ (a2.length : Int) ≤ (a2.length : Int))) (fun r => by kernel_rfl) (fun r => by kernel_rfl) hc15 (by kernel_rfl) (by kernel_rfl) (fun r => rfl)
        · exact DOk.drop (k := 64) (d := 71) (v := vL 3 encTime (((sub a2 (0 : Int) a11) ++ ([(p0.getD i1 default)] : List Time)) ++ (sub a2 a11 (a2.length : Int)))) (av := .c (oC 64 3 (((sub a2 (0 : Int) a11) ++ ([(p0.getD i1 default)] : List Time)) ++ (sub a2 a11 (a2.length : Int))))) rfl (fun r hr => One.appendT (e := 27) (es := 3) (encTime) ((sub a2 (0 : Int) a11) ++ ([(p0.getD i1 default)] : List Time)) (sub a2 a11 (a2.length : Int)) rfl rfl (by kernel_rfl) rfl rfl (.of 27 24 [.d (u6 0), .d (u6 0), .d (u6 0)] (by kernel_rfl) (by kernel_rfl) (by kernel_rfl) (by kernel_rfl) rfl (by kernel_rfl) rfl) rfl rfl rfl (.subO (encTime) rfl hc15.1 hc15.2.1 hc15.2.2) hc16) (by kernel_rfl) (by kernel_rfl) (by kernel_rfl) (by kernel_rfl)
        · exact DOk.t rfl rfl (by kernel_rfl) (by kernel_rfl)
        exact ⟨rfl, rfl⟩
       ·refine At.keep [0, 3, 12, 13, 14] [64] (s' := ⟨[(0, cD (lD 3 encTime p0)), (3, .c (oC 64 3 (((sub a2 (0 : Int) a11) ++ ([(p0.getD i1 default)] : List Time)) ++ (sub a2 a11 (a2.length : Int))))), (12, cD (lD 3 encTime p0)), (13, cD (i6 (p0.length : Int))), (14, cD (i6 ((i1 : Nat) : Int)))], [(64, vL 3 encTime (((sub a2 (0 : Int) a11) ++ ([(p0.getD i1 default)] : List Time)) ++ (sub a2 a11 (a2.length : Int))))]⟩) (by kernel_rfl) ?_
        refine At.rename 64 1003 ⟨[(0, cD (lD 3 encTime p0)), (3, .c (oC 1003 3 (((sub a2 (0 : Int) a11) ++ ([(p0.getD i1 default)] : List Time)) ++ (sub a2 a11 (a2.length : Int))))), (12, cD (lD 3 encTime p0)), (13, cD (i6 (p0.length : Int))), (14, cD (i6 ((i1 : Nat) : Int)))], [(1003, vL 3 encTime (((sub a2 (0 : Int) a11) ++ ([(p0.getD i1 default)] : List Time)) ++ (sub a2 a11 (a2.length : Int))))]⟩ (by kernel_rfl) rfl rfl rfl ?_
        refine At.keep [14, 0, 3, 12, 13] [1003] (s' := ⟨[(14, cD (i6 ((i1 : Nat) : Int))), (0, cD (lD 3 encTime p0)), (3, .c (oC 1003 3 (((sub a2 (0 : Int) a11) ++ ([(p0.getD i1 default)] : List Time)) ++ (sub a2 a11 (a2.length : Int))))), (12, cD (lD 3 encTime p0)), (13, cD (i6 (p0.length : Int)))], [(1003, vL 3 encTime (((sub a2 (0 : Int) a11) ++ ([(p0.getD i1 default)] : List Time)) ++ (sub a2 a11 (a2.length : Int))))]⟩) (by kernel_rfl) ?_
        refine At.done rfl ?_
        cases h
        exact rfl
      · exact fun x => x.elim
    · exact fun x => x.elim
   · exact fun x => x.elim
  ·intro a3 h
   show Tri _ _ _ _
   refine Tri.seqS ?_
   refine Tri.reg ?_
   refine At.seg 2 [2] [1003] (s' := ⟨[(2, .c (oC 1003 3 a3))], [(1003, vL 3 encTime a3)]⟩) (c := True ∧ True ∧ True) (by kernel_rfl) ⟨trivial, trivial, trivial⟩ ?_
   refine At.done rfl ?_
   show Tri _ _ _ _
   refine Tri.keep [2] [1003] (s' := ⟨[(2, .c (oC 1003 3 a3))], [(1003, vL 3 encTime a3)]⟩) (by kernel_rfl) ?_
   refine Tri.le [1003] (fun k hk h => by first | (cases h; done) | (simp at hk h; omega)) ⟨[(2, cD (lD 3 encTime a3))], []⟩ ⟨⟨_, rfl, .c (CLe.frozen (encTime) a3 rfl (by simp))⟩, trivial⟩ trivial ?_
   refine Tri.ret ?_
   cases h
   refine ⟨_, _, rfl, ⟨trivial, trivial⟩, rfl, rfl, ?_⟩
   intro k c h
   cases h
  · exact fun x => x.elim

set_option maxRecDepth 100000 in
theorem freshetref04_Beyond_ok {p0 : List Time} {p1 : Time} {q : Bool} (h : freshetref04_Beyond p0 p1 = some q) :
    Summ Try.prog 30 [cD (lD 3 encTime p0), .agg (cTime p1)] [] (cD (.bool q)) [] := by
  refine Summ.intro Try.func30 rfl (by kernel_rfl) (by kernel_rfl) [] rfl ?_
  rintro ⟨P, w0, G0, V, LL, lk, N, φ0, fx⟩ rfl rfl rfl rfl
  unfold freshetref04_Beyond at h
  refine Tri.seqS ?_
  refine Tri.reg ?_
  refine At.seg 2 [0, 3] [3] (s' := ⟨[(0, cD (lD 3 encTime p0)), (3, .c (.ptr 3 0))], [(3, .box (cTime p1))]⟩) (c := True ∧ True ∧ True) (by kernel_rfl) ⟨trivial, trivial, trivial⟩ ?_
  refine At.done rfl ?_
  show Tri _ _ _ _
  refine Tri.seqS ?_
  refine Tri.seqS ?_
  refine Tri.reg ?_
  refine At.seg 3 [3, 7, 8, 9] [3] (s' := ⟨[(3, .c (.ptr 3 0)), (7, cD (lD 3 encTime p0)), (8, cD (i6 (p0.length : Int))), (9, cD (i6 0))], [(3, .box (cTime p1))]⟩) (c := True ∧ True ∧ True ∧ True) (by kernel_rfl) ⟨trivial, trivial, trivial, trivial⟩ ?_
  refine At.done rfl ?_
  show Tri _ _ _ _
  refine Tri.lenOf (t := 7) rfl fun hlena2 => ?_
  refine Tri.keep [9, 3, 7, 8] [3] (s' := idx 9 0 ⟨[(3, .c (.ptr 3 0)), (7, cD (lD 3 encTime p0)), (8, cD (i6 (p0.length : Int)))], [(3, .box (cTime p1))]⟩) (by kernel_rfl) ?_
  refine Tri.range (n := p0.length) (st0 := ()) (fun (x : Bool) s => RetAt Try.prog Try.f30 (cD (.bool x)) [] s) (fun (a2 : Unit) => ⟨[(3, .c (.ptr 3 0)), (7, cD (lD 3 encTime p0)), (8, cD (i6 (p0.length : Int)))], [(3, .box (cTime p1))]⟩) (fun (a2 : Unit) => ⟨[(3, .c (.ptr 3 0)), (7, cD (lD 3 encTime p0)), (8, cD (i6 (p0.length : Int)))], [(3, .box (cTime p1))]⟩) (fun i => decide ((i : Int) < (p0.length : Int))) [10, 9, 3, 7, 8] [3] [3, 7, 8] [3] [9, 3, 7, 8] [3] h hlena2 rfl ?_ ?_ ?_ ?_ ?_ ?_ ?_ ?_
  · exact fun i a => ⟨True ∧ True, by kernel_rfl, ⟨trivial, trivial⟩⟩
  · exact fun i hi => decide_eq_true (by omega)
  · exact decide_eq_false (by omega)
  · exact fun a => by kernel_rfl
  · exact fun i a => ⟨True ∧ True ∧ True, by kernel_rfl, ⟨trivial, trivial, trivial⟩⟩
  ·intro i1 a2 c hii1 h
   refine Tri.seqS ?_
   refine Tri.reg ?_
   refine At.seg 4 [3, 6, 7, 8, 9] [3, 6] (s' := ⟨[(3, .c (.ptr 3 0)), (6, .c (.ptr 6 0)), (7, cD (lD 3 encTime p0)), (8, cD (i6 (p0.length : Int))), (9, cD (i6 ((i1 : Nat) : Int)))], [(3, .box (cTime p1)), (6, .box (cTime (p0.getD i1 default)))]⟩) (c := ((0 : Int) ≤ ((i1 : Nat) : Int) ∧ ((i1 : Nat) : Int) < (p0.length : Int)) ∧ True ∧ True ∧ True ∧ True) (by kernel_rfl) ⟨⟨by omega, by omega⟩, trivial, trivial, trivial, trivial⟩ ?_
   refine At.done rfl ?_
   show Tri _ _ _ _
   refine Tri.seqS ?_
   refine Tri.reg ?_
   refine At.seg 2 [3, 7, 8, 9, 13, 14] [3] (s' := ⟨[(3, .c (.ptr 3 0)), (7, cD (lD 3 encTime p0)), (8, cD (i6 (p0.length : Int))), (9, cD (i6 ((i1 : Nat) : Int))), (13, .agg (cTime (p0.getD i1 default))), (14, .agg (cTime p1))], [(3, .box (cTime p1))]⟩) (c := True ∧ True ∧ True) (by kernel_rfl) ⟨trivial, trivial, trivial⟩ ?_
   obtain ⟨r4, hr4, h⟩ := bind_elim h
   refine At.callA (caps := []) (xs := [.agg (cTime (p0.getD i1 default)), .agg (cTime p1)]) (freshetref04_Ahead_ok hr4) rfl rfl rfl rfl rfl rfl (.cons (.refl _) (.cons (.refl _) .nil)) rfl rfl ?_
   refine At.done rfl ?_
   show Tri _ _ _ _
   refine Tri.condP (b := r4) rfl h (fun h => ?_) (fun h => ?_)
   ·refine Tri.seqS ?_
    refine Tri.reg ?_
    refine At.seg 1 [4] [] (s' := ⟨[(4, cD (.bool true))], []⟩) (c := True ∧ True) (by kernel_rfl) ⟨trivial, trivial⟩ ?_
    refine At.done rfl ?_
    show Tri _ _ _ _
    refine Tri.keep [4] [] (s' := ⟨[(4, cD (.bool true))], []⟩) (by kernel_rfl) ?_
    refine Tri.ret ?_
    cases h
    refine ⟨_, _, rfl, ⟨trivial, trivial⟩, rfl, rfl, ?_⟩
    intro k c h
    cases h
   ·refine Tri.keep [9, 3, 7, 8] [3] (s' := ⟨[(9, cD (i6 ((i1 : Nat) : Int))), (3, .c (.ptr 3 0)), (7, cD (lD 3 encTime p0)), (8, cD (i6 (p0.length : Int)))], [(3, .box (cTime p1))]⟩) (by kernel_rfl) ?_
    refine Tri.skip ?_
    cases h
    exact rfl
  ·intro a3 h
   show Tri _ _ _ _
   refine Tri.seqS ?_
   refine Tri.reg ?_
   refine At.seg 1 [4] [] (s' := ⟨[(4, cD (.bool false))], []⟩) (c := True ∧ True) (by kernel_rfl) ⟨trivial, trivial⟩ ?_
   refine At.done rfl ?_
   show Tri _ _ _ _
   refine Tri.keep [4] [] (s' := ⟨[(4, cD (.bool false))], []⟩) (by kernel_rfl) ?_
   refine Tri.ret ?_
   cases h
   refine ⟨_, _, rfl, ⟨trivial, trivial⟩, rfl, rfl, ?_⟩
   intro k c h
   cases h
  · exact fun x s hx hr => by cases hx; exact hr

set_option maxRecDepth 100000 in
theorem freshetref04_Lub_ok {p0 : List Time} {q : Time} (h : freshetref04_Lub p0 = some q) :
    Summ Try.prog 15 [cD (lD 3 encTime p0)] [] (.agg (cTime q)) [] := by
  refine Summ.intro Try.func15 rfl (by kernel_rfl) (by kernel_rfl) [] rfl ?_
  rintro ⟨P, w0, G0, V, LL, lk, N, φ0, fx⟩ rfl rfl rfl rfl
  unfold freshetref04_Lub at h
  refine Tri.seqS ?_
  refine Tri.reg ?_
  refine At.seg 1 [0, 2] [2] (s' := ⟨[(0, cD (lD 3 encTime p0)), (2, .c (.ptr 2 0))], [(2, .box [.d (u6 0), .d (u6 0), .d (u6 0)])]⟩) (c := True ∧ True) (by kernel_rfl) ⟨trivial, trivial⟩ ?_
  refine At.done rfl ?_
  show Tri _ _ _ _
  refine Tri.seqS ?_
  refine Tri.reg ?_
  refine At.seg 3 [0, 2, 3] [2, 3] (s' := ⟨[(0, cD (lD 3 encTime p0)), (2, .c (.ptr 2 0)), (3, .c (.ptr 3 0))], [(2, .box [.d (u6 0), .d (u6 0), .d (u6 0)]), (3, .box [.d (u6 0), .d (u6 0), .d (u6 0)])]⟩) (c := True ∧ True ∧ True ∧ True) (by kernel_rfl) ⟨trivial, trivial, trivial, trivial⟩ ?_
  refine At.done rfl ?_
  show Tri _ _ _ _
  refine Tri.seqS ?_
  refine Tri.seqS ?_
  refine Tri.reg ?_
  refine At.seg 3 [2, 3, 9, 10, 11] [2, 3] (s' := ⟨[(2, .c (.ptr 2 0)), (3, .c (.ptr 3 0)), (9, cD (lD 3 encTime p0)), (10, cD (i6 (p0.length : Int))), (11, cD (i6 0))], [(2, .box [.d (u6 0), .d (u6 0), .d (u6 0)]), (3, .box [.d (u6 0), .d (u6 0), .d (u6 0)])]⟩) (c := True ∧ True ∧ True ∧ True) (by kernel_rfl) ⟨trivial, trivial, trivial, trivial⟩ ?_
  refine At.done rfl ?_
  show Tri _ _ _ _
  refine Tri.lenOf (t := 9) rfl fun hlena2 => ?_
  refine Tri.keep [11, 2, 3, 9, 10] [2, 3] (s' := idx 11 0 ⟨[(2, .c (.ptr 2 0)), (3, .c (.ptr 3 0)), (9, cD (lD 3 encTime p0)), (10, cD (i6 (p0.length : Int)))], [(2, .box [.d (u6 0), .d (u6 0), .d (u6 0)]), (3, .box (cTime (⟨0, (0, 0)⟩ : Time)))]⟩) (by kernel_rfl) ?_
  refine Tri.range (n := p0.length) (st0 := (⟨0, (0, 0)⟩ : Time)) (fun (x : Empty) s => False) (fun (a2 : Time) => ⟨[(2, .c (.ptr 2 0)), (3, .c (.ptr 3 0)), (9, cD (lD 3 encTime p0)), (10, cD (i6 (p0.length : Int)))], [(2, .box [.d (u6 0), .d (u6 0), .d (u6 0)]), (3, .box (cTime a2))]⟩) (fun (a2 : Time) => ⟨[(2, .c (.ptr 2 0)), (3, .c (.ptr 3 0)), (9, cD (lD 3 encTime p0)), (10, cD (i6 (p0.length : Int)))], [(2, .box [.d (u6 0), .d (u6 0), .d (u6 0)]), (3, .box (cTime a2))]⟩) (fun i => decide ((i : Int) < (p0.length : Int))) [12, 11, 2, 3, 9, 10] [2, 3] [2, 3, 9, 10] [2, 3] [11, 2, 3, 9, 10] [2, 3] h hlena2 rfl ?_ ?_ ?_ ?_ ?_ ?_ ?_ ?_
  · exact fun i a => ⟨True ∧ True, by kernel_rfl, ⟨trivial, trivial⟩⟩
  · exact fun i hi => decide_eq_true (by omega)
  · exact decide_eq_false (by omega)
  · exact fun a => by kernel_rfl
  · exact fun i a => ⟨True ∧ True ∧ True, by kernel_rfl, ⟨trivial, trivial, trivial⟩⟩
  ·intro i1 a2 c hii1 h
   refine Tri.seqS ?_
   refine Tri.reg ?_
   refine At.seg 4 [2, 3, 5, 9, 10, 11] [2, 3, 5] (s' := ⟨[(2, .c (.ptr 2 0)), (3, .c (.ptr 3 0)), (5, .c (.ptr 5 0)), (9, cD (lD 3 encTime p0)), (10, cD (i6 (p0.length : Int))), (11, cD (i6 ((i1 : Nat) : Int)))], [(2, .box [.d (u6 0), .d (u6 0), .d (u6 0)]), (3, .box (cTime a2)), (5, .box (cTime (p0.getD i1 default)))]⟩) (c := ((0 : Int) ≤ ((i1 : Nat) : Int) ∧ ((i1 : Nat) : Int) < (p0.length : Int)) ∧ True ∧ True ∧ True ∧ True) (by kernel_rfl) ⟨⟨by omega, by omega⟩, trivial, trivial, trivial, trivial⟩ ?_
   refine At.done rfl ?_
   show Tri _ _ _ _
   refine Tri.seqJ (fun (a4 : Time) => ⟨[(2, .c (.ptr 2 0)), (3, .c (.ptr 3 0)), (5, .c (.ptr 5 0)), (9, cD (lD 3 encTime p0)), (10, cD (i6 (p0.length : Int))), (11, cD (i6 ((i1 : Nat) : Int)))], [(2, .box [.d (u6 0), .d (u6 0), .d (u6 0)]), (3, .box (cTime a4)), (5, .box (cTime (p0.getD i1 default)))]⟩) h (fun a4 h => ?_) (fun j5 h => ?_)
   ·show Tri _ _ ⟨[(2, .c (.ptr 2 0)), (3, .c (.ptr 3 0)), (5, .c (.ptr 5 0)), (9, cD (lD 3 encTime p0)), (10, cD (i6 (p0.length : Int))), (11, cD (i6 ((i1 : Nat) : Int)))], [(2, .box [.d (u6 0), .d (u6 0), .d (u6 0)]), (3, .box (cTime a4)), (5, .box (cTime (p0.getD i1 default)))]⟩ _
    refine Tri.seqS ?_
    refine Tri.reg ?_
    refine At.seg 3 [2, 3, 9, 10, 11, 24, 25] [2, 3] (s' := ⟨[(2, .c (.ptr 2 0)), (3, .c (.ptr 3 0)), (9, cD (lD 3 encTime p0)), (10, cD (i6 (p0.length : Int))), (11, cD (i6 ((i1 : Nat) : Int))), (24, .agg [.d (u6 ((p0.getD i1 default).loop.1)), .d (u6 ((p0.getD i1 default).loop.2))]), (25, cD (i6 0))], [(2, .box [.d (u6 0), .d (u6 0), .d (u6 0)]), (3, .box (cTime a4))]⟩) (c := True ∧ True ∧ True ∧ True) (by kernel_rfl) ⟨trivial, trivial, trivial, trivial⟩ ?_
    refine At.done rfl ?_
    show Tri _ _ _ _
    refine Tri.keep [25, 2, 3, 9, 10, 11, 24] [2, 3] (s' := idx 25 0 ⟨[(2, .c (.ptr 2 0)), (3, .c (.ptr 3 0)), (9, cD (lD 3 encTime p0)), (10, cD (i6 (p0.length : Int))), (11, cD (i6 ((i1 : Nat) : Int))), (24, .agg [.d (u6 ((p0.getD i1 default).loop.1)), .d (u6 ((p0.getD i1 default).loop.2))])], [(2, .box [.d (u6 0), .d (u6 0), .d (u6 0)]), (3, .box (cTime a4))]⟩) (by kernel_rfl) ?_
    refine Tri.range (n := 2) (st0 := a4) (fun (x : Empty) s => False) (fun (a7 : Time) => ⟨[(2, .c (.ptr 2 0)), (3, .c (.ptr 3 0)), (9, cD (lD 3 encTime p0)), (10, cD (i6 (p0.length : Int))), (11, cD (i6 ((i1 : Nat) : Int))), (24, .agg [.d (u6 ((p0.getD i1 default).loop.1)), .d (u6 ((p0.getD i1 default).loop.2))])], [(2, .box [.d (u6 0), .d (u6 0), .d (u6 0)]), (3, .box (cTime a7))]⟩) (fun (a7 : Time) => ⟨[(11, cD (i6 ((i1 : Nat) : Int))), (2, .c (.ptr 2 0)), (3, .c (.ptr 3 0)), (9, cD (lD 3 encTime p0)), (10, cD (i6 (p0.length : Int)))], [(2, .box [.d (u6 0), .d (u6 0), .d (u6 0)]), (3, .box (cTime a7))]⟩) (fun i => decide ((i : Int) < (2 : Int))) [26, 25, 2, 3, 9, 10, 11, 24] [2, 3] [11, 2, 3, 9, 10] [2, 3] [25, 2, 3, 9, 10, 11, 24] [2, 3] h (by unfold maxN; omega) rfl ?_ ?_ ?_ ?_ ?_ ?_ ?_ ?_
    · exact fun i a => ⟨True ∧ True, by kernel_rfl, ⟨trivial, trivial⟩⟩
    · exact fun i hi => decide_eq_true (by omega)
    · exact decide_eq_false (by omega)
    · exact fun a => by kernel_rfl
    · exact fun i a => ⟨True ∧ True ∧ True, by kernel_rfl, ⟨trivial, trivial, trivial⟩⟩
    ·intro i6 a7 c hii6 h
     rcases i6 with _ | i6
     ·refine Tri.seqS ?_
      refine Tri.reg ?_
      refine At.seg 4 [2, 3, 6, 7, 9, 10, 11, 24, 25] [2, 3] (s' := ⟨[(2, .c (.ptr 2 0)), (3, .c (.ptr 3 0)), (6, cD (i6 ((0 : Nat) : Int))), (7, cD (u6 ((p0.getD i1 default).loop.1))), (9, cD (lD 3 encTime p0)), (10, cD (i6 (p0.length : Int))), (11, cD (i6 ((i1 : Nat) : Int))), (24, .agg [.d (u6 ((p0.getD i1 default).loop.1)), .d (u6 ((p0.getD i1 default).loop.2))]), (25, cD (i6 ((0 : Nat) : Int)))], [(2, .box [.d (u6 0), .d (u6 0), .d (u6 0)]), (3, .box (cTime a7))]⟩) (c := True ∧ True ∧ True ∧ True ∧ True) (by kernel_rfl) ⟨trivial, trivial, trivial, trivial, trivial⟩ ?_
      refine At.done rfl ?_
      show Tri _ _ _ _
      refine Tri.seqS ?_
      refine Tri.reg ?_
      refine At.seg 6 [2, 3, 6, 7, 9, 10, 11, 24, 25, 34] [2, 3] (s' := ⟨[(2, .c (.ptr 2 0)), (3, .c (.ptr 3 0)), (6, cD (i6 ((0 : Nat) : Int))), (7, cD (u6 ((p0.getD i1 default).loop.1))), (9, cD (lD 3 encTime p0)), (10, cD (i6 (p0.length : Int))), (11, cD (i6 ((i1 : Nat) : Int))), (24, .agg [.d (u6 ((p0.getD i1 default).loop.1)), .d (u6 ((p0.getD i1 default).loop.2))]), (25, cD (i6 ((0 : Nat) : Int))), (34, cD (.bool (decide (a7.loop.1 < (p0.getD i1 default).loop.1))))], [(2, .box [.d (u6 0), .d (u6 0), .d (u6 0)]), (3, .box (cTime a7))]⟩) (c := True ∧ True ∧ True ∧ True ∧ True ∧ True ∧ True) (by kernel_rfl) ⟨trivial, trivial, trivial, trivial, trivial, trivial, trivial⟩ ?_
      refine At.done rfl ?_
      show Tri _ _ _ _
      refine Tri.condP (b := (decide (a7.loop.1 < (p0.getD i1 default).loop.1))) rfl h (fun h => ?_) (fun h => ?_)
      ·refine Tri.reg ?_
       refine At.seg 5 [25, 2, 3, 9, 10, 11, 24] [2, 3] (s' := ⟨[(25, cD (i6 ((0 : Nat) : Int))), (2, .c (.ptr 2 0)), (3, .c (.ptr 3 0)), (9, cD (lD 3 encTime p0)), (10, cD (i6 (p0.length : Int))), (11, cD (i6 ((i1 : Nat) : Int))), (24, .agg [.d (u6 ((p0.getD i1 default).loop.1)), .d (u6 ((p0.getD i1 default).loop.2))])], [(2, .box [.d (u6 0), .d (u6 0), .d (u6 0)]), (3, .box [.d (u6 a7.epoch), .d (u6 ((p0.getD i1 default).loop.1)), .d (u6 a7.loop.2)])]⟩) (c := True ∧ True ∧ True ∧ True ∧ True ∧ True) (by kernel_rfl) ⟨trivial, trivial, trivial, trivial, trivial, trivial⟩ ?_
       refine At.done rfl ?_
       cases h
       exact rfl
      ·refine Tri.keep [25, 2, 3, 9, 10, 11, 24] [2, 3] (s' := ⟨[(25, cD (i6 ((0 : Nat) : Int))), (2, .c (.ptr 2 0)), (3, .c (.ptr 3 0)), (9, cD (lD 3 encTime p0)), (10, cD (i6 (p0.length : Int))), (11, cD (i6 ((i1 : Nat) : Int))), (24, .agg [.d (u6 ((p0.getD i1 default).loop.1)), .d (u6 ((p0.getD i1 default).loop.2))])], [(2, .box [.d (u6 0), .d (u6 0), .d (u6 0)]), (3, .box (cTime a7))]⟩) (by kernel_rfl) ?_
       refine Tri.skip ?_
       cases h
       exact rfl
     rcases i6 with _ | i6
     ·refine Tri.seqS ?_
      refine Tri.reg ?_
      refine At.seg 4 [2, 3, 6, 7, 9, 10, 11, 24, 25] [2, 3] (s' := ⟨[(2, .c (.ptr 2 0)), (3, .c (.ptr 3 0)), (6, cD (i6 ((1 : Nat) : Int))), (7, cD (u6 ((p0.getD i1 default).loop.2))), (9, cD (lD 3 encTime p0)), (10, cD (i6 (p0.length : Int))), (11, cD (i6 ((i1 : Nat) : Int))), (24, .agg [.d (u6 ((p0.getD i1 default).loop.1)), .d (u6 ((p0.getD i1 default).loop.2))]), (25, cD (i6 ((1 : Nat) : Int)))], [(2, .box [.d (u6 0), .d (u6 0), .d (u6 0)]), (3, .box (cTime a7))]⟩) (c := True ∧ True ∧ True ∧ True ∧ True) (by kernel_rfl) ⟨trivial, trivial, trivial, trivial, trivial⟩ ?_
      refine At.done rfl ?_
      show Tri _ _ _ _
      refine Tri.seqS ?_
      refine Tri.reg ?_
      refine At.seg 6 [2, 3, 6, 7, 9, 10, 11, 24, 25, 34] [2, 3] (s' := ⟨[(2, .c (.ptr 2 0)), (3, .c (.ptr 3 0)), (6, cD (i6 ((1 : Nat) : Int))), (7, cD (u6 ((p0.getD i1 default).loop.2))), (9, cD (lD 3 encTime p0)), (10, cD (i6 (p0.length : Int))), (11, cD (i6 ((i1 : Nat) : Int))), (24, .agg [.d (u6 ((p0.getD i1 default).loop.1)), .d (u6 ((p0.getD i1 default).loop.2))]), (25, cD (i6 ((1 : Nat) : Int))), (34, cD (.bool (decide (a7.loop.2 < (p0.getD i1 default).loop.2))))], [(2, .box [.d (u6 0), .d (u6 0), .d (u6 0)]), (3, .box (cTime a7))]⟩) (c := True ∧ True ∧ True ∧ True ∧ True ∧ True ∧ True) (by kernel_rfl) ⟨trivial, trivial, trivial, trivial, trivial, trivial, trivial⟩ ?_
      refine At.done rfl ?_
      show Tri _ _ _ _
      refine Tri.condP (b := (decide (a7.loop.2 < (p0.getD i1 default).loop.2))) rfl h (fun h => ?_) (fun h => ?_)
      ·refine Tri.reg ?_
       refine At.seg 5 [25, 2, 3, 9, 10, 11, 24] [2, 3] (s' := ⟨[(25, cD (i6 ((1 : Nat) : Int))), (2, .c (.ptr 2 0)), (3, .c (.ptr 3 0)), (9, cD (lD 3 encTime p0)), (10, cD (i6 (p0.length : Int))), (11, cD (i6 ((i1 : Nat) : Int))), (24, .agg [.d (u6 ((p0.getD i1 default).loop.1)), .d (u6 ((p0.getD i1 default).loop.2))])], [(2, .box [.d (u6 0), .d (u6 0), .d (u6 0)]), (3, .box [.d (u6 a7.epoch), .d (u6 a7.loop.1), .d (u6 ((p0.getD i1 default).loop.2))])]⟩) (c := True ∧ True ∧ True ∧ True ∧ True ∧ True) (by kernel_rfl) ⟨trivial, trivial, trivial, trivial, trivial, trivial⟩ ?_
       refine At.done rfl ?_
       cases h
       exact rfl
      ·refine Tri.keep [25, 2, 3, 9, 10, 11, 24] [2, 3] (s' := ⟨[(25, cD (i6 ((1 : Nat) : Int))), (2, .c (.ptr 2 0)), (3, .c (.ptr 3 0)), (9, cD (lD 3 encTime p0)), (10, cD (i6 (p0.length : Int))), (11, cD (i6 ((i1 : Nat) : Int))), (24, .agg [.d (u6 ((p0.getD i1 default).loop.1)), .d (u6 ((p0.getD i1 default).loop.2))])], [(2, .box [.d (u6 0), .d (u6 0), .d (u6 0)]), (3, .box (cTime a7))]⟩) (by kernel_rfl) ?_
       refine Tri.skip ?_
       cases h
       exact rfl
     exact absurd hii6 (by omega)
    ·intro a8 h
     cases h
     exact rfl
    · exact fun x => x.elim
   ·refine Tri.seqS ?_
    refine Tri.reg ?_
    refine At.seg 5 [2, 3, 5, 9, 10, 11, 19] [2, 3, 5] (s' := ⟨[(2, .c (.ptr 2 0)), (3, .c (.ptr 3 0)), (5, .c (.ptr 5 0)), (9, cD (lD 3 encTime p0)), (10, cD (i6 (p0.length : Int))), (11, cD (i6 ((i1 : Nat) : Int))), (19, cD (.bool (decide (a2.epoch < (p0.getD i1 default).epoch))))], [(2, .box [.d (u6 0), .d (u6 0), .d (u6 0)]), (3, .box (cTime a2)), (5, .box (cTime (p0.getD i1 default)))]⟩) (c := True ∧ True ∧ True ∧ True ∧ True ∧ True) (by kernel_rfl) ⟨trivial, trivial, trivial, trivial, trivial, trivial⟩ ?_
    refine At.done rfl ?_
    show Tri _ _ _ _
    refine Tri.condP (b := (decide (a2.epoch < (p0.getD i1 default).epoch))) rfl h (fun h => ?_) (fun h => ?_)
    ·refine Tri.reg ?_
     refine At.seg 4 [2, 3, 5, 9, 10, 11] [2, 3, 5] (s' := ⟨[(2, .c (.ptr 2 0)), (3, .c (.ptr 3 0)), (5, .c (.ptr 5 0)), (9, cD (lD 3 encTime p0)), (10, cD (i6 (p0.length : Int))), (11, cD (i6 ((i1 : Nat) : Int)))], [(2, .box [.d (u6 0), .d (u6 0), .d (u6 0)]), (3, .box [.d (u6 ((p0.getD i1 default).epoch)), .d (u6 a2.loop.1), .d (u6 a2.loop.2)]), (5, .box (cTime (p0.getD i1 default)))]⟩) (c := True ∧ True ∧ True ∧ True ∧ True) (by kernel_rfl) ⟨trivial, trivial, trivial, trivial, trivial⟩ ?_
     refine At.done rfl ?_
     exact ⟨_, h, rfl⟩
    ·refine Tri.keep [2, 3, 5, 9, 10, 11] [2, 3, 5] (s' := ⟨[(2, .c (.ptr 2 0)), (3, .c (.ptr 3 0)), (5, .c (.ptr 5 0)), (9, cD (lD 3 encTime p0)), (10, cD (i6 (p0.length : Int))), (11, cD (i6 ((i1 : Nat) : Int)))], [(2, .box [.d (u6 0), .d (u6 0), .d (u6 0)]), (3, .box (cTime a2)), (5, .box (cTime (p0.getD i1 default)))]⟩) (by kernel_rfl) ?_
     refine Tri.skip ?_
     exact ⟨_, h, rfl⟩
  ·intro a3 h
   show Tri _ _ _ _
   refine Tri.seqS ?_
   refine Tri.reg ?_
   refine At.seg 2 [2] [2] (s' := ⟨[(2, .c (.ptr 2 0))], [(2, .box (cTime a3))]⟩) (c := True ∧ True ∧ True) (by kernel_rfl) ⟨trivial, trivial, trivial⟩ ?_
   refine At.done rfl ?_
   show Tri _ _ _ _
   refine Tri.keep [2] [2] (s' := ⟨[(2, .c (.ptr 2 0))], [(2, .box (cTime a3))]⟩) (by kernel_rfl) ?_
   refine Tri.ret ?_
   cases h
   refine ⟨_, _, rfl, ⟨trivial, trivial⟩, rfl, rfl, ?_⟩
   intro k c h
   cases h
  · exact fun x => x.elim

set_option maxRecDepth 100000 in
theorem freshetref04_Glb_ok_v0 {p0 : List Time} {q : Time} (h : freshetref04_Glb p0 = some q) :
    Summ Try.prog 17 [.c (wC 3 encTime p0)] [] (.agg (cTime q)) [] := by
  refine Summ.intro Try.func17 rfl (by kernel_rfl) (by kernel_rfl) [] rfl ?_
  rintro ⟨P, w0, G0, V, LL, lk, N, φ0, fx⟩ rfl rfl rfl rfl
  unfold freshetref04_Glb at h
  refine Tri.seqS ?_
  refine Tri.reg ?_
  refine At.seg 1 [0, 2] [2] (s' := ⟨[(0, .c (wC 3 encTime p0)), (2, .c (.ptr 2 0))], [(2, .box [.d (u6 0), .d (u6 0), .d (u6 0)])]⟩) (c := True ∧ True) (by kernel_rfl) ⟨trivial, trivial⟩ ?_
  refine At.done rfl ?_
  show Tri _ _ _ _
  refine Tri.seqS ?_
  refine Tri.seqS ?_
  refine Tri.reg ?_
  refine At.seg 3 [0, 2, 10] [2] (s' := ⟨[(0, .c (wC 3 encTime p0)), (2, .c (.ptr 2 0)), (10, cD (.bool (decide ((p0.length : Int) = 0))))], [(2, .box [.d (u6 0), .d (u6 0), .d (u6 0)])]⟩) (c := True ∧ True ∧ True ∧ True) (by kernel_rfl) ⟨trivial, trivial, trivial, trivial⟩ ?_
  refine At.done rfl ?_
  show Tri _ _ _ _
  refine Tri.condP (b := (decide ((p0.length : Int) = 0))) rfl h (fun h => ?_) (fun h => ?_)
  ·refine Tri.seqS ?_
   refine Tri.reg ?_
   refine At.seg 2 [2] [2] (s' := ⟨[(2, .c (.ptr 2 0))], [(2, .box [.d (u6 0), .d (u6 0), .d (u6 0)])]⟩) (c := True ∧ True ∧ True) (by kernel_rfl) ⟨trivial, trivial, trivial⟩ ?_
   refine At.done rfl ?_
   show Tri _ _ _ _
   refine Tri.keep [2] [2] (s' := ⟨[(2, .c (.ptr 2 0))], [(2, .box [.d (u6 0), .d (u6 0), .d (u6 0)])]⟩) (by kernel_rfl) ?_
   refine Tri.ret ?_
   cases h
   refine ⟨_, _, rfl, ⟨trivial, trivial⟩, rfl, rfl, ?_⟩
   intro k c h
   cases h
  ·refine Tri.skip ?_
   show Tri _ _ _ _
   refine Tri.seqS ?_
   refine Tri.reg ?_
   obtain ⟨hc1, h⟩ := need_elim h
   refine At.seg 5 [0, 2, 3] [2, 3] (s' := ⟨[(0, .c (wC 3 encTime p0)), (2, .c (.ptr 2 0)), (3, .c (.ptr 3 0))], [(2, .box [.d (u6 0), .d (u6 0), .d (u6 0)]), (3, .box (cTime (p0.getD 0 default)))]⟩) (c := True ∧ ((0 : Int) ≤ 0 ∧ 0 < (p0.length : Int)) ∧ True ∧ True ∧ True ∧ True) (by kernel_rfl) ⟨trivial, hc1, trivial, trivial, trivial, trivial⟩ ?_
   refine At.done rfl ?_
   show Tri _ _ _ _
   refine Tri.seqS ?_
   refine Tri.seqS ?_
   refine Tri.reg ?_
   refine At.seg 3 [2, 3, 15, 16, 17] [2, 3] (s' := ⟨[(2, .c (.ptr 2 0)), (3, .c (.ptr 3 0)), (15, .c (wC 3 encTime p0)), (16, cD (i6 (p0.length : Int))), (17, cD (i6 0))], [(2, .box [.d (u6 0), .d (u6 0), .d (u6 0)]), (3, .box (cTime (p0.getD 0 default)))]⟩) (c := True ∧ True ∧ True ∧ True) (by kernel_rfl) ⟨trivial, trivial, trivial, trivial⟩ ?_
   refine At.done rfl ?_
   show Tri _ _ _ _
   refine Tri.lenOfV (t := 15) rfl fun hlena3 => ?_
   refine Tri.keep [17, 2, 3, 15, 16] [2, 3] (s' := idx 17 0 ⟨[(2, .c (.ptr 2 0)), (3, .c (.ptr 3 0)), (15, .c (wC 3 encTime p0)), (16, cD (i6 (p0.length : Int)))], [(2, .box [.d (u6 0), .d (u6 0), .d (u6 0)]), (3, .box (cTime (p0.getD 0 default)))]⟩) (by kernel_rfl) ?_
   refine Tri.range (n := p0.length) (st0 := (p0.getD 0 default)) (fun (x : Empty) s => False) (fun (a3 : Time) => ⟨[(2, .c (.ptr 2 0)), (3, .c (.ptr 3 0)), (15, .c (wC 3 encTime p0)), (16, cD (i6 (p0.length : Int)))], [(2, .box [.d (u6 0), .d (u6 0), .d (u6 0)]), (3, .box (cTime a3))]⟩) (fun (a3 : Time) => ⟨[(2, .c (.ptr 2 0)), (3, .c (.ptr 3 0)), (15, .c (wC 3 encTime p0)), (16, cD (i6 (p0.length : Int)))], [(2, .box [.d (u6 0), .d (u6 0), .d (u6 0)]), (3, .box (cTime a3))]⟩) (fun i => decide ((i : Int) < (p0.length : Int))) [18, 17, 2, 3, 15, 16] [2, 3] [2, 3, 15, 16] [2, 3] [17, 2, 3, 15, 16] [2, 3] h hlena3 rfl ?_ ?_ ?_ ?_ ?_ ?_ ?_ ?_
   · exact fun i a => ⟨True ∧ True, by kernel_rfl, ⟨trivial, trivial⟩⟩
   · exact fun i hi => decide_eq_true (by omega)
   · exact decide_eq_false (by omega)
   · exact fun a => by kernel_rfl
   · exact fun i a => ⟨True ∧ True ∧ True, by kernel_rfl, ⟨trivial, trivial, trivial⟩⟩
   ·intro i2 a3 c hii2 h
    refine Tri.seqS ?_
    refine Tri.reg ?_
    refine At.seg 4 [2, 3, 5, 15, 16, 17] [2, 3, 5] (s' := ⟨[(2, .c (.ptr 2 0)), (3, .c (.ptr 3 0)), (5, .c (.ptr 5 0)), (15, .c (wC 3 encTime p0)), (16, cD (i6 (p0.length : Int))), (17, cD (i6 ((i2 : Nat) : Int)))], [(2, .box [.d (u6 0), .d (u6 0), .d (u6 0)]), (3, .box (cTime a3)), (5, .box (cTime (p0.getD i2 default)))]⟩) (c := ((0 : Int) ≤ ((i2 : Nat) : Int) ∧ ((i2 : Nat) : Int) < (p0.length : Int)) ∧ True ∧ True ∧ True ∧ True) (by kernel_rfl) ⟨⟨by omega, by omega⟩, trivial, trivial, trivial, trivial⟩ ?_
    refine At.done rfl ?_
    show Tri _ _ _ _
    refine Tri.seqJ (fun (a5 : Time) => ⟨[(2, .c (.ptr 2 0)), (3, .c (.ptr 3 0)), (5, .c (.ptr 5 0)), (15, .c (wC 3 encTime p0)), (16, cD (i6 (p0.length : Int))), (17, cD (i6 ((i2 : Nat) : Int)))], [(2, .box [.d (u6 0), .d (u6 0), .d (u6 0)]), (3, .box (cTime a5)), (5, .box (cTime (p0.getD i2 default)))]⟩) h (fun a5 h => ?_) (fun j6 h => ?_)
    ·show Tri _ _ ⟨[(2, .c (.ptr 2 0)), (3, .c (.ptr 3 0)), (5, .c (.ptr 5 0)), (15, .c (wC 3 encTime p0)), (16, cD (i6 (p0.length : Int))), (17, cD (i6 ((i2 : Nat) : Int)))], [(2, .box [.d (u6 0), .d (u6 0), .d (u6 0)]), (3, .box (cTime a5)), (5, .box (cTime (p0.getD i2 default)))]⟩ _
     refine Tri.seqS ?_
     refine Tri.reg ?_
     refine At.seg 3 [2, 3, 15, 16, 17, 30, 31] [2, 3] (s' := ⟨[(2, .c (.ptr 2 0)), (3, .c (.ptr 3 0)), (15, .c (wC 3 encTime p0)), (16, cD (i6 (p0.length : Int))), (17, cD (i6 ((i2 : Nat) : Int))), (30, .agg [.d (u6 ((p0.getD i2 default).loop.1)), .d (u6 ((p0.getD i2 default).loop.2))]), (31, cD (i6 0))], [(2, .box [.d (u6 0), .d (u6 0), .d (u6 0)]), (3, .box (cTime a5))]⟩) (c := True ∧ True ∧ True ∧ True) (by kernel_rfl) ⟨trivial, trivial, trivial, trivial⟩ ?_
     refine At.done rfl ?_
     show Tri _ _ _ _
     refine Tri.keep [31, 2, 3, 15, 16, 17, 30] [2, 3] (s' := idx 31 0 ⟨[(2, .c (.ptr 2 0)), (3, .c (.ptr 3 0)), (15, .c (wC 3 encTime p0)), (16, cD (i6 (p0.length : Int))), (17, cD (i6 ((i2 : Nat) : Int))), (30, .agg [.d (u6 ((p0.getD i2 default).loop.1)), .d (u6 ((p0.getD i2 default).loop.2))])], [(2, .box [.d (u6 0), .d (u6 0), .d (u6 0)]), (3, .box (cTime a5))]⟩) (by kernel_rfl) ?_
     refine Tri.range (n := 2) (st0 := a5) (fun (x : Empty) s => False) (fun (a8 : Time) => ⟨[(2, .c (.ptr 2 0)), (3, .c (.ptr 3 0)), (15, .c (wC 3 encTime p0)), (16, cD (i6 (p0.length : Int))), (17, cD (i6 ((i2 : Nat) : Int))), (30, .agg [.d (u6 ((p0.getD i2 default).loop.1)), .d (u6 ((p0.getD i2 default).loop.2))])], [(2, .box [.d (u6 0), .d (u6 0), .d (u6 0)]), (3, .box (cTime a8))]⟩) (fun (a8 : Time) => ⟨[(17, cD (i6 ((i2 : Nat) : Int))), (2, .c (.ptr 2 0)), (3, .c (.ptr 3 0)), (15, .c (wC 3 encTime p0)), (16, cD (i6 (p0.length : Int)))], [(2, .box [.d (u6 0), .d (u6 0), .d (u6 0)]), (3, .box (cTime a8))]⟩) (fun i => decide ((i : Int) < (2 : Int))) [32, 31, 2, 3, 15, 16, 17, 30] [2, 3] [17, 2, 3, 15, 16] [2, 3] [31, 2, 3, 15, 16, 17, 30] [2, 3] h (by unfold maxN; omega) rfl ?_ ?_ ?_ ?_ ?_ ?_ ?_ ?_
     · exact fun i a => ⟨True ∧ True, by kernel_rfl, ⟨trivial, trivial⟩⟩
     · exact fun i hi => decide_eq_true (by omega)
     · exact decide_eq_false (by omega)
     · exact fun a => by kernel_rfl
     · exact fun i a => ⟨True ∧ True ∧ True, by kernel_rfl, ⟨trivial, trivial, trivial⟩⟩
     ·intro i7 a8 c hii7 h
      rcases i7 with _ | i7
      ·refine Tri.seqS ?_
       refine Tri.reg ?_
       refine At.seg 4 [2, 3, 6, 7, 15, 16, 17, 30, 31] [2, 3] (s' := ⟨[(2, .c (.ptr 2 0)), (3, .c (.ptr 3 0)), (6, cD (i6 ((0 : Nat) : Int))), (7, cD (u6 ((p0.getD i2 default).loop.1))), (15, .c (wC 3 encTime p0)), (16, cD (i6 (p0.length : Int))), (17, cD (i6 ((i2 : Nat) : Int))), (30, .agg [.d (u6 ((p0.getD i2 default).loop.1)), .d (u6 ((p0.getD i2 default).loop.2))]), (31, cD (i6 ((0 : Nat) : Int)))], [(2, .box [.d (u6 0), .d (u6 0), .d (u6 0)]), (3, .box (cTime a8))]⟩) (c := True ∧ True ∧ True ∧ True ∧ True) (by kernel_rfl) ⟨trivial, trivial, trivial, trivial, trivial⟩ ?_
       refine At.done rfl ?_
       show Tri _ _ _ _
       refine Tri.seqS ?_
       refine Tri.reg ?_
       refine At.seg 6 [2, 3, 6, 7, 15, 16, 17, 30, 31, 40] [2, 3] (s' := ⟨[(2, .c (.ptr 2 0)), (3, .c (.ptr 3 0)), (6, cD (i6 ((0 : Nat) : Int))), (7, cD (u6 ((p0.getD i2 default).loop.1))), (15, .c (wC 3 encTime p0)), (16, cD (i6 (p0.length : Int))), (17, cD (i6 ((i2 : Nat) : Int))), (30, .agg [.d (u6 ((p0.getD i2 default).loop.1)), .d (u6 ((p0.getD i2 default).loop.2))]), (31, cD (i6 ((0 : Nat) : Int))), (40, cD (.bool (decide ((p0.getD i2 default).loop.1 < a8.loop.1))))], [(2, .box [.d (u6 0), .d (u6 0), .d (u6 0)]), (3, .box (cTime a8))]⟩) (c := True ∧ True ∧ True ∧ True ∧ True ∧ True ∧ True) (by kernel_rfl) ⟨trivial, trivial, trivial, trivial, trivial, trivial, trivial⟩ ?_
       refine At.done rfl ?_
       show Tri _ _ _ _
       refine Tri.condP (b := (decide ((p0.getD i2 default).loop.1 < a8.loop.1))) rfl h (fun h => ?_) (fun h => ?_)
       ·refine Tri.reg ?_
        refine At.seg 5 [31, 2, 3, 15, 16, 17, 30] [2, 3] (s' := ⟨[(31, cD (i6 ((0 : Nat) : Int))), (2, .c (.ptr 2 0)), (3, .c (.ptr 3 0)), (15, .c (wC 3 encTime p0)), (16, cD (i6 (p0.length : Int))), (17, cD (i6 ((i2 : Nat) : Int))), (30, .agg [.d (u6 ((p0.getD i2 default).loop.1)), .d (u6 ((p0.getD i2 default).loop.2))])], [(2, .box [.d (u6 0), .d (u6 0), .d (u6 0)]), (3, .box [.d (u6 a8.epoch), .d (u6 ((p0.getD i2 default).loop.1)), .d (u6 a8.loop.2)])]⟩) (c := True ∧ True ∧ True ∧ True ∧ True ∧ True) (by kernel_rfl) ⟨trivial, trivial, trivial, trivial, trivial, trivial⟩ ?_
        refine At.done rfl ?_
        cases h
        exact rfl
       ·refine Tri.keep [31, 2, 3, 15, 16, 17, 30] [2, 3] (s' := ⟨[(31, cD (i6 ((0 : Nat) : Int))), (2, .c (.ptr 2 0)), (3, .c (.ptr 3 0)), (15, .c (wC 3 encTime p0)), (16, cD (i6 (p0.length : Int))), (17, cD (i6 ((i2 : Nat) : Int))), (30, .agg [.d (u6 ((p0.getD i2 default).loop.1)), .d (u6 ((p0.getD i2 default).loop.2))])], [(2, .box [.d (u6 0), .d (u6 0), .d (u6 0)]), (3, .box (cTime a8))]⟩) (by kernel_rfl) ?_
        refine Tri.skip ?_
        cases h
        exact rfl
      rcases i7 with _ | i7
      ·refine Tri.seqS ?_
       refine Tri.reg ?_
       refine At.seg 4 [2, 3, 6, 7, 15, 16, 17, 30, 31] [2, 3] (s' := ⟨[(2, .c (.ptr 2 0)), (3, .c (.ptr 3 0)), (6, cD (i6 ((1 : Nat) : Int))), (7, cD (u6 ((p0.getD i2 default).loop.2))), (15, .c (wC 3 encTime p0)), (16, cD (i6 (p0.length : Int))), (17, cD (i6 ((i2 : Nat) : Int))), (30, .agg [.d (u6 ((p0.getD i2 default).loop.1)), .d (u6 ((p0.getD i2 default).loop.2))]), (31, cD (i6 ((1 : Nat) : Int)))], [(2, .box [.d (u6 0), .d (u6 0), .d (u6 0)]), (3, .box (cTime a8))]⟩) (c := True ∧ True ∧ True ∧ True ∧ True) (by kernel_rfl) ⟨trivial, trivial, trivial, trivial, trivial⟩ ?_
       refine At.done rfl ?_
       show Tri _ _ _ _
       refine Tri.seqS ?_
       refine Tri.reg ?_
       refine At.seg 6 [2, 3, 6, 7, 15, 16, 17, 30, 31, 40] [2, 3] (s' := ⟨[(2, .c (.ptr 2 0)), (3, .c (.ptr 3 0)), (6, cD (i6 ((1 : Nat) : Int))), (7, cD (u6 ((p0.getD i2 default).loop.2))), (15, .c (wC 3 encTime p0)), (16, cD (i6 (p0.length : Int))), (17, cD (i6 ((i2 : Nat) : Int))), (30, .agg [.d (u6 ((p0.getD i2 default).loop.1)), .d (u6 ((p0.getD i2 default).loop.2))]), (31, cD (i6 ((1 : Nat) : Int))), (40, cD (.bool (decide ((p0.getD i2 default).loop.2 < a8.loop.2))))], [(2, .box [.d (u6 0), .d (u6 0), .d (u6 0)]), (3, .box (cTime a8))]⟩) (c := True ∧ True ∧ True ∧ True ∧ True ∧ True ∧ True) (by kernel_rfl) ⟨trivial, trivial, trivial, trivial, trivial, trivial, trivial⟩ ?_
       refine At.done rfl ?_
       show Tri _ _ _ _
       refine Tri.condP (b := (decide ((p0.getD i2 default).loop.2 < a8.loop.2))) rfl h (fun h => ?_) (fun h => ?_)
       ·refine Tri.reg ?_
        refine At.seg 5 [31, 2, 3, 15, 16, 17, 30] [2, 3] (s' := ⟨[(31, cD (i6 ((1 : Nat) : Int))), (2, .c (.ptr 2 0)), (3, .c (.ptr 3 0)), (15, .c (wC 3 encTime p0)), (16, cD (i6 (p0.length : Int))), (17, cD (i6 ((i2 : Nat) : Int))), (30, .agg [.d (u6 ((p0.getD i2 default).loop.1)), .d (u6 ((p0.getD i2 default).loop.2))])], [(2, .box [.d (u6 0), .d (u6 0), .d (u6 0)]), (3, .box [.d (u6 a8.epoch), .d (u6 a8.loop.1), .d (u6 ((p0.getD i2 default).loop.2))])]⟩) (c := True ∧ True ∧ True ∧ True ∧ True ∧ True) (by kernel_rfl) ⟨trivial, trivial, trivial, trivial, trivial, trivial⟩ ?_
        refine At.done rfl ?_
        cases h
        exact rfl
       ·refine Tri.keep [31, 2, 3, 15, 16, 17, 30] [2, 3] (s' := ⟨[(31, cD (i6 ((1 : Nat) : Int))), (2, .c (.ptr 2 0)), (3, .c (.ptr 3 0)), (15, .c (wC 3 encTime p0)), (16, cD (i6 (p0.length : Int))), (17, cD (i6 ((i2 : Nat) : Int))), (30, .agg [.d (u6 ((p0.getD i2 default).loop.1)), .d (u6 ((p0.getD i2 default).loop.2))])], [(2, .box [.d (u6 0), .d (u6 0), .d (u6 0)]), (3, .box (cTime a8))]⟩) (by kernel_rfl) ?_
        refine Tri.skip ?_
        cases h
        exact rfl
      exact absurd hii7 (by omega)
     ·intro a9 h
      cases h
      exact rfl
     · exact fun x => x.elim
    ·refine Tri.seqS ?_
     refine Tri.reg ?_
     refine At.seg 5 [2, 3, 5, 15, 16, 17, 25] [2, 3, 5] (s' := ⟨[(2, .c (.ptr 2 0)), (3, .c (.ptr 3 0)), (5, .c (.ptr 5 0)), (15, .c (wC 3 encTime p0)), (16, cD (i6 (p0.length : Int))), (17, cD (i6 ((i2 : Nat) : Int))), (25, cD (.bool (decide ((p0.getD i2 default).epoch < a3.epoch))))], [(2, .box [.d (u6 0), .d (u6 0), .d (u6 0)]), (3, .box (cTime a3)), (5, .box (cTime (p0.getD i2 default)))]⟩) (c := True ∧ True ∧ True ∧ True ∧ True ∧ True) (by kernel_rfl) ⟨trivial, trivial, trivial, trivial, trivial, trivial⟩ ?_
     refine At.done rfl ?_
     show Tri _ _ _ _
     refine Tri.condP (b := (decide ((p0.getD i2 default).epoch < a3.epoch))) rfl h (fun h => ?_) (fun h => ?_)
     ·refine Tri.reg ?_
      refine At.seg 4 [2, 3, 5, 15, 16, 17] [2, 3, 5] (s' := ⟨[(2, .c (.ptr 2 0)), (3, .c (.ptr 3 0)), (5, .c (.ptr 5 0)), (15, .c (wC 3 encTime p0)), (16, cD (i6 (p0.length : Int))), (17, cD (i6 ((i2 : Nat) : Int)))], [(2, .box [.d (u6 0), .d (u6 0), .d (u6 0)]), (3, .box [.d (u6 ((p0.getD i2 default).epoch)), .d (u6 a3.loop.1), .d (u6 a3.loop.2)]), (5, .box (cTime (p0.getD i2 default)))]⟩) (c := True ∧ True ∧ True ∧ True ∧ True) (by kernel_rfl) ⟨trivial, trivial, trivial, trivial, trivial⟩ ?_
      refine At.done rfl ?_
      exact ⟨_, h, rfl⟩
     ·refine Tri.keep [2, 3, 5, 15, 16, 17] [2, 3, 5] (s' := ⟨[(2, .c (.ptr 2 0)), (3, .c (.ptr 3 0)), (5, .c (.ptr 5 0)), (15, .c (wC 3 encTime p0)), (16, cD (i6 (p0.length : Int))), (17, cD (i6 ((i2 : Nat) : Int)))], [(2, .box [.d (u6 0), .d (u6 0), .d (u6 0)]), (3, .box (cTime a3)), (5, .box (cTime (p0.getD i2 default)))]⟩) (by kernel_rfl) ?_
      refine Tri.skip ?_
      exact ⟨_, h, rfl⟩
   ·intro a4 h
    show Tri _ _ _ _
    refine Tri.seqS ?_
    refine Tri.reg ?_
    refine At.seg 2 [2] [2] (s' := ⟨[(2, .c (.ptr 2 0))], [(2, .box (cTime a4))]⟩) (c := True ∧ True ∧ True) (by kernel_rfl) ⟨trivial, trivial, trivial⟩ ?_
    refine At.done rfl ?_
    show Tri _ _ _ _
    refine Tri.keep [2] [2] (s' := ⟨[(2, .c (.ptr 2 0))], [(2, .box (cTime a4))]⟩) (by kernel_rfl) ?_
    refine Tri.ret ?_
    cases h
    refine ⟨_, _, rfl, ⟨trivial, trivial⟩, rfl, rfl, ?_⟩
    intro k c h
    cases h
   · exact fun x => x.elim

set_option maxRecDepth 100000 in
theorem freshetref04_Advance_ok {p0 : Time} {p1 : List Time} {q : Time} (h : freshetref04_Advance p0 p1 = some q) :
    Summ Try.prog 32 [.agg (cTime p0), cD (lD 3 encTime p1)] [] (.agg (cTime q)) [] := by
  refine Summ.intro Try.func32 rfl (by kernel_rfl) (by kernel_rfl) [] rfl ?_
  rintro ⟨P, w0, G0, V, LL, lk, N, φ0, fx⟩ rfl rfl rfl rfl
  unfold freshetref04_Advance at h
  refine Tri.seqS ?_
  refine Tri.reg ?_
  refine At.seg 2 [1, 2, 4] [2, 4] (s' := ⟨[(1, cD (lD 3 encTime p1)), (2, .c (.ptr 2 0)), (4, .c (.ptr 4 0))], [(2, .box (cTime p0)), (4, .box [.d (u6 0), .d (u6 0), .d (u6 0)])]⟩) (c := True ∧ True ∧ True) (by kernel_rfl) ⟨trivial, trivial, trivial⟩ ?_
  refine At.done rfl ?_
  show Tri _ _ _ _
  refine Tri.seqS ?_
  refine Tri.seqS ?_
  refine Tri.reg ?_
  refine At.seg 3 [1, 2, 4, 10] [2, 4] (s' := ⟨[(1, cD (lD 3 encTime p1)), (2, .c (.ptr 2 0)), (4, .c (.ptr 4 0)), (10, cD (.bool (decide ((p1.length : Int) = 0))))], [(2, .box (cTime p0)), (4, .box [.d (u6 0), .d (u6 0), .d (u6 0)])]⟩) (c := True ∧ True ∧ True ∧ True) (by kernel_rfl) ⟨trivial, trivial, trivial, trivial⟩ ?_
  refine At.done rfl ?_
  show Tri _ _ _ _
  refine Tri.condP (b := (decide ((p1.length : Int) = 0))) rfl h (fun h => ?_) (fun h => ?_)
  ·refine Tri.seqS ?_
   refine Tri.reg ?_
   refine At.seg 2 [4] [4] (s' := ⟨[(4, .c (.ptr 4 0))], [(4, .box (cTime p0))]⟩) (c := True ∧ True ∧ True) (by kernel_rfl) ⟨trivial, trivial, trivial⟩ ?_
   refine At.done rfl ?_
   show Tri _ _ _ _
   refine Tri.keep [4] [4] (s' := ⟨[(4, .c (.ptr 4 0))], [(4, .box (cTime p0))]⟩) (by kernel_rfl) ?_
   refine Tri.ret ?_
   cases h
   refine ⟨_, _, rfl, ⟨trivial, trivial⟩, rfl, rfl, ?_⟩
   intro k c h
   cases h
  ·refine Tri.skip ?_
   show Tri _ _ _ _
   refine Tri.seqS ?_
   refine Tri.reg ?_
   refine At.seg 1 [1, 2, 4, 5] [2, 4] (s' := ⟨[(1, cD (lD 3 encTime p1)), (2, .c (.ptr 2 0)), (4, .c (.ptr 4 0)), (5, .c (.zero))], [(2, .box (cTime p0)), (4, .box [.d (u6 0), .d (u6 0), .d (u6 0)])]⟩) (c := True ∧ True) (by kernel_rfl) ⟨trivial, trivial⟩ ?_
   refine At.done rfl ?_
   show Tri _ _ _ _
   refine Tri.seqS ?_
   refine Tri.seqS ?_
   refine Tri.reg ?_
   refine At.seg 3 [2, 4, 5, 12, 13, 14] [2, 4] (s' := ⟨[(2, .c (.ptr 2 0)), (4, .c (.ptr 4 0)), (5, .c (.zero)), (12, cD (lD 3 encTime p1)), (13, cD (i6 (p1.length : Int))), (14, cD (i6 0))], [(2, .box (cTime p0)), (4, .box [.d (u6 0), .d (u6 0), .d (u6 0)])]⟩) (c := True ∧ True ∧ True ∧ True) (by kernel_rfl) ⟨trivial, trivial, trivial, trivial⟩ ?_
   refine At.done rfl ?_
   show Tri _ _ _ _
   refine Tri.lenOf (t := 12) rfl fun hlena2 => ?_
   refine Tri.newOwn (t := 5) (k := 1005) (es := 3) (fun i => encTime (([] : List Time).getD i default)) rfl rfl rfl ?_
   refine Tri.keep [14, 2, 4, 5, 12, 13] [2, 4, 1005] (s' := idx 14 0 ⟨[(2, .c (.ptr 2 0)), (4, .c (.ptr 4 0)), (5, .c (oC 1005 3 ([] : List Time))), (12, cD (lD 3 encTime p1)), (13, cD (i6 (p1.length : Int)))], [(2, .box (cTime p0)), (4, .box [.d (u6 0), .d (u6 0), .d (u6 0)]), (1005, vL 3 encTime ([] : List Time))]⟩) (by kernel_rfl) ?_
   refine Tri.range (n := p1.length) (st0 := ([] : List Time)) (fun (x : Empty) s => False) (fun (a2 : List Time) => ⟨[(2, .c (.ptr 2 0)), (4, .c (.ptr 4 0)), (5, .c (oC 1005 3 a2)), (12, cD (lD 3 encTime p1)), (13, cD (i6 (p1.length : Int)))], [(2, .box (cTime p0)), (4, .box [.d (u6 0), .d (u6 0), .d (u6 0)]), (1005, vL 3 encTime a2)]⟩) (fun (a2 : List Time) => ⟨[(2, .c (.ptr 2 0)), (4, .c (.ptr 4 0)), (5, .c (oC 1005 3 a2)), (12, cD (lD 3 encTime p1)), (13, cD (i6 (p1.length : Int)))], [(2, .box (cTime p0)), (4, .box [.d (u6 0), .d (u6 0), .d (u6 0)]), (1005, vL 3 encTime a2)]⟩) (fun i => decide ((i : Int) < (p1.length : Int))) [15, 14, 2, 4, 5, 12, 13] [2, 4, 1005] [2, 4, 5, 12, 13] [2, 4, 1005] [14, 2, 4, 5, 12, 13] [2, 4, 1005] h hlena2 rfl ?_ ?_ ?_ ?_ ?_ ?_ ?_ ?_
   · exact fun i a => ⟨True ∧ True, by kernel_rfl, ⟨trivial, trivial⟩⟩
   · exact fun i hi => decide_eq_true (by omega)
   · exact decide_eq_false (by omega)
   · exact fun a => by kernel_rfl
   · exact fun i a => ⟨True ∧ True ∧ True, by kernel_rfl, ⟨trivial, trivial, trivial⟩⟩
   ·intro i1 a2 c hii1 h
    refine Tri.seqS ?_
    refine Tri.reg ?_
    refine At.seg 4 [2, 4, 5, 7, 12, 13, 14] [2, 4, 7, 1005] (s' := ⟨[(2, .c (.ptr 2 0)), (4, .c (.ptr 4 0)), (5, .c (oC 1005 3 a2)), (7, .c (.ptr 7 0)), (12, cD (lD 3 encTime p1)), (13, cD (i6 (p1.length : Int))), (14, cD (i6 ((i1 : Nat) : Int)))], [(2, .box (cTime p0)), (4, .box [.d (u6 0), .d (u6 0), .d (u6 0)]), (7, .box (cTime (p1.getD i1 default))), (1005, vL 3 encTime a2)]⟩) (c := ((0 : Int) ≤ ((i1 : Nat) : Int) ∧ ((i1 : Nat) : Int) < (p1.length : Int)) ∧ True ∧ True ∧ True ∧ True) (by kernel_rfl) ⟨⟨by omega, by omega⟩, trivial, trivial, trivial, trivial⟩ ?_
    refine At.done rfl ?_
    show Tri _ _ _ _
    refine Tri.reg ?_
    refine At.seg 3 [2, 4, 12, 13, 14, 18, 19, 20] [2, 4, 1005] (s' := ⟨[(2, .c (.ptr 2 0)), (4, .c (.ptr 4 0)), (12, cD (lD 3 encTime p1)), (13, cD (i6 (p1.length : Int))), (14, cD (i6 ((i1 : Nat) : Int))), (18, .c (oC 1005 3 a2)), (19, .agg (cTime p0)), (20, .agg (cTime (p1.getD i1 default)))], [(2, .box (cTime p0)), (4, .box [.d (u6 0), .d (u6 0), .d (u6 0)]), (1005, vL 3 encTime a2)]⟩) (c := True ∧ True ∧ True ∧ True) (by kernel_rfl) ⟨trivial, trivial, trivial, trivial⟩ ?_
    refine At.one rfl (One.buildSlice (z := [.d (u6 0), .d (u6 0), .d (u6 0)]) (cells := [.d (u6 p0.epoch), .d (u6 p0.loop.1), .d (u6 p0.loop.2), .d (u6 ((p1.getD i1 default).epoch)), .d (u6 ((p1.getD i1 default).loop.1)), .d (u6 ((p1.getD i1 default).loop.2))]) (xs := List.map (encTime) ([p0, (p1.getD i1 default)] : List Time)) rfl rfl rfl rfl (by kernel_rfl) rfl rfl (by kernel_rfl) rfl rfl rfl (by kernel_rfl) rfl ⟨⟨rfl, .refl _⟩, ⟨rfl, .refl _⟩, trivial⟩) ?_
    refine At.le [21] (fun k hk h => by first | (cases h; done) | (simp at hk h; omega)) ⟨[(21, cD (lD 3 encTime ([p0, (p1.getD i1 default)] : List Time))), (2, .c (.ptr 2 0)), (4, .c (.ptr 4 0)), (12, cD (lD 3 encTime p1)), (13, cD (i6 (p1.length : Int))), (14, cD (i6 ((i1 : Nat) : Int))), (18, .c (oC 1005 3 a2)), (19, .agg (cTime p0)), (20, .agg (cTime (p1.getD i1 default)))], [(2, .box (cTime p0)), (4, .box [.d (u6 0), .d (u6 0), .d (u6 0)]), (1005, vL 3 encTime a2)]⟩ ⟨⟨_, rfl, .c (.own rfl (List.mem_singleton.2 rfl) (Nat.le_of_ble_eq_true rfl) rfl (encs_getD (encTime) ([p0, (p1.getD i1 default)] : List Time)))⟩, ⟨_, rfl, .refl _⟩, ⟨_, rfl, .refl _⟩, ⟨_, rfl, .refl _⟩, ⟨_, rfl, .refl _⟩, ⟨_, rfl, .refl _⟩, ⟨_, rfl, .refl _⟩, ⟨_, rfl, .refl _⟩, ⟨_, rfl, .refl _⟩, trivial⟩ ⟨⟨_, rfl, .refl _, (by simp)⟩, ⟨_, rfl, .refl _, (by simp)⟩, ⟨_, rfl, .refl _, (by simp)⟩, trivial⟩ ?_
    obtain ⟨r5, hr5, h⟩ := bind_elim h
    refine At.callA (caps := []) (xs := [cD (lD 3 encTime ([p0, (p1.getD i1 default)] : List Time))]) (freshetref04_Lub_ok hr5) rfl rfl rfl rfl rfl rfl (.cons (.refl _) .nil) rfl rfl ?_
    refine At.one rfl (One.buildSlice (z := [.d (u6 0), .d (u6 0), .d (u6 0)]) (cells := [.d (u6 r5.epoch), .d (u6 r5.loop.1), .d (u6 r5.loop.2)]) (xs := List.map (encTime) ([r5] : List Time)) rfl rfl rfl rfl (by kernel_rfl) rfl rfl (by kernel_rfl) rfl rfl rfl (by kernel_rfl) rfl ⟨⟨rfl, .refl _⟩, trivial⟩) ?_
    refine At.le [23] (fun k hk h => by first | (cases h; done) | (simp at hk h; omega)) ⟨[(23, cD (lD 3 encTime ([r5] : List Time))), (2, .c (.ptr 2 0)), (4, .c (.ptr 4 0)), (12, cD (lD 3 encTime p1)), (13, cD (i6 (p1.length : Int))), (14, cD (i6 ((i1 : Nat) : Int))), (18, .c (oC 1005 3 a2)), (22, .agg (cTime r5))], [(2, .box (cTime p0)), (4, .box [.d (u6 0), .d (u6 0), .d (u6 0)]), (1005, vL 3 encTime a2)]⟩ ⟨⟨_, rfl, .c (.own rfl (List.mem_singleton.2 rfl) (Nat.le_of_ble_eq_true rfl) rfl (encs_getD (encTime) ([r5] : List Time)))⟩, ⟨_, rfl, .refl _⟩, ⟨_, rfl, .refl _⟩, ⟨_, rfl, .refl _⟩, ⟨_, rfl, .refl _⟩, ⟨_, rfl, .refl _⟩, ⟨_, rfl, .refl _⟩, ⟨_, rfl, .refl _⟩, trivial⟩ ⟨⟨_, rfl, .refl _, (by simp)⟩, ⟨_, rfl, .refl _, (by simp)⟩, ⟨_, rfl, .refl _, (by simp)⟩, trivial⟩ ?_
    obtain ⟨hc6, h⟩ := need_elim h
    refine At.one rfl (One.appendT (e := 27) (es := 3) (encTime) a2 ([r5] : List Time) rfl rfl rfl rfl rfl (.of 27 24 [.d (u6 0), .d (u6 0), .d (u6 0)] (by kernel_rfl) (by kernel_rfl) (by kernel_rfl) (by kernel_rfl) rfl (by kernel_rfl) rfl) rfl rfl rfl (.list rfl (fun _ _ => rfl)) hc6) ?_
    refine At.seg 1 [14, 2, 4, 5, 12, 13] [2, 4, 1005] (s' := ⟨[(14, cD (i6 ((i1 : Nat) : Int))), (2, .c (.ptr 2 0)), (4, .c (.ptr 4 0)), (5, .c (oC 1005 3 (a2 ++ ([r5] : List Time)))), (12, cD (lD 3 encTime p1)), (13, cD (i6 (p1.length : Int)))], [(2, .box (cTime p0)), (4, .box [.d (u6 0), .d (u6 0), .d (u6 0)]), (1005, vL 3 encTime (a2 ++ ([r5] : List Time)))]⟩) (c := True ∧ True) (by kernel_rfl) ⟨trivial, trivial⟩ ?_
    refine At.done rfl ?_
    cases h
    exact rfl
   ·intro a3 h
    show Tri _ _ _ _
    refine Tri.seqS ?_
    refine Tri.reg ?_
    refine At.seg 1 [4, 26] [4, 1005] (s' := ⟨[(4, .c (.ptr 4 0)), (26, .c (oC 1005 3 a3))], [(4, .box [.d (u6 0), .d (u6 0), .d (u6 0)]), (1005, vL 3 encTime a3)]⟩) (c := True ∧ True) (by kernel_rfl) ⟨trivial, trivial⟩ ?_
    obtain ⟨r4, hr4, h⟩ := bind_elim h
    refine At.callA (caps := []) (xs := [.c (oC 1005 3 a3)]) (freshetref04_Glb_ok_v0 hr4) rfl rfl rfl rfl rfl rfl (.cons (AVArg.view (encTime) a3 rfl) .nil) rfl rfl ?_
    refine At.seg 1 [4] [4] (s' := ⟨[(4, .c (.ptr 4 0))], [(4, .box (cTime r4))]⟩) (c := True ∧ True) (by kernel_rfl) ⟨trivial, trivial⟩ ?_
    refine At.done rfl ?_
    show Tri _ _ _ _
    refine Tri.keep [4] [4] (s' := ⟨[(4, .c (.ptr 4 0))], [(4, .box (cTime r4))]⟩) (by kernel_rfl) ?_
    refine Tri.ret ?_
    cases h
    refine ⟨_, _, rfl, ⟨trivial, trivial⟩, rfl, rfl, ?_⟩
    intro k c h
    cases h
   · exact fun x => x.elim

set_option maxRecDepth 100000 in
theorem freshetlaw04_MomentFronts_ok {fuel : Nat} {p0 : List Time} {p1 : Time} {q : Bool} (h : freshetlaw04_MomentFronts fuel p0 p1 = some q) :
    Summ Try.prog 8 [cD (lD 3 encTime p0), .agg (cTime p1)] [] (cD (.bool q)) [] := by
  refine Summ.intro Try.func8 rfl (by kernel_rfl) (by kernel_rfl) [] rfl ?_
  rintro ⟨P, w0, G0, V, LL, lk, N, φ0, fx⟩ rfl rfl rfl rfl
  unfold freshetlaw04_MomentFronts at h
  refine Tri.seqS ?_
  refine Tri.reg ?_
  refine At.seg 2 [0, 3] [3] (s' := ⟨[(0, cD (lD 3 encTime p0)), (3, .c (.ptr 3 0))], [(3, .box (cTime p1))]⟩) (c := True ∧ True ∧ True) (by kernel_rfl) ⟨trivial, trivial, trivial⟩ ?_
  refine At.done rfl ?_
  show Tri _ _ _ _
  refine Tri.seqJ (fun (a1 : Bool) => ⟨[(4, cD (.bool a1))], []⟩) h (fun a1 h => ?_) (fun j2 h => ?_)
  ·show Tri _ _ ⟨[(4, cD (.bool a1))], []⟩ _
   refine Tri.keep [4] [] (s' := ⟨[(4, cD (.bool a1))], []⟩) (by kernel_rfl) ?_
   refine Tri.ret ?_
   cases h
   refine ⟨_, _, rfl, ⟨trivial, trivial⟩, rfl, rfl, ?_⟩
   intro k c h
   cases h
  ·obtain ⟨r3, hr3, h⟩ := bind_elim h
   rcases bf_cases h with ⟨hp4, h⟩ | ⟨hp4, h⟩
   ·obtain ⟨r5, hr5, h⟩ := bind_elim h
    obtain ⟨r6, hr6, h⟩ := bind_elim h
    obtain ⟨r7, hr7, h⟩ := bind_elim h
    rcases bf_cases h with ⟨hp8, h⟩ | ⟨hp8, h⟩
    ·obtain ⟨r9, hr9, h⟩ := bind_elim h
     obtain ⟨r10, hr10, h⟩ := bind_elim h
     rcases bf_cases h with ⟨hp11, h⟩ | ⟨hp11, h⟩
     ·obtain ⟨r12, hr12, h⟩ := bind_elim h
      obtain ⟨r13, hr13, h⟩ := bind_elim h
      refine Tri.drawn (specs := [⟨⟨[], []⟩, ⟨[(5, cD (.bool r3))], []⟩, [], [], []⟩, ⟨⟨[(5, cD (.bool r3))], []⟩, ⟨[(6, .c (.d (.bool true)))], []⟩, [], [], []⟩, ⟨⟨[(0, cD (lD 3 encTime p0)), (6, cD (.bool true))], []⟩, ⟨[(7, cD (lD 3 encTime p0))], []⟩, [], [], []⟩, ⟨⟨[(6, cD (.bool true)), (7, cD (lD 3 encTime p0))], []⟩, ⟨[(8, cD (lD 3 encTime r5))], []⟩, [], [], []⟩, ⟨⟨[(0, cD (lD 3 encTime p0)), (6, cD (.bool true))], []⟩, ⟨[(9, cD (lD 3 encTime p0))], []⟩, [], [], []⟩, ⟨⟨[(6, cD (.bool true)), (9, cD (lD 3 encTime p0))], []⟩, ⟨[(10, cD (lD 3 encTime r6))], []⟩, [], [], []⟩, ⟨⟨[(6, cD (.bool true)), (8, cD (lD 3 encTime r5)), (10, cD (lD 3 encTime r6))], []⟩, ⟨[(11, cD (.bool r7))], []⟩, [], [], []⟩, ⟨⟨[(6, cD (.bool true)), (11, cD (.bool r7))], []⟩, ⟨[(12, cD (.bool r7))], []⟩, [], [], []⟩, ⟨⟨[(12, cD (.bool r7))], []⟩, ⟨[(13, .c (.d (.bool true)))], []⟩, [], [], []⟩, ⟨⟨[(0, cD (lD 3 encTime p0)), (13, cD (.bool true))], []⟩, ⟨[(14, cD (lD 3 encTime p0))], []⟩, [], [], []⟩, ⟨⟨[(3, .c (.ptr 3 0)), (13, cD (.bool true))], [(3, .box (cTime p1))]⟩, ⟨[(15, .agg (cTime p1))], []⟩, [], [], []⟩, ⟨⟨[(13, cD (.bool true)), (14, cD (lD 3 encTime p0)), (15, .agg (cTime p1))], []⟩, ⟨[(16, cD (.bool r9))], []⟩, [], [], []⟩, ⟨⟨[(0, cD (lD 3 encTime p0)), (13, cD (.bool true))], []⟩, ⟨[(17, cD (lD 3 encTime p0))], []⟩, [], [], []⟩, ⟨⟨[(3, .c (.ptr 3 0)), (13, cD (.bool true))], [(3, .box (cTime p1))]⟩, ⟨[(18, .agg (cTime p1))], []⟩, [], [], []⟩, ⟨⟨[(13, cD (.bool true)), (17, cD (lD 3 encTime p0)), (18, .agg (cTime p1))], []⟩, ⟨[(19, cD (.bool r10))], []⟩, [], [], []⟩, ⟨⟨[(13, cD (.bool true)), (16, cD (.bool r9)), (19, cD (.bool r10))], []⟩, ⟨[(20, cD (.bool (r9 == r10)))], []⟩, [], [], []⟩, ⟨⟨[(13, cD (.bool true)), (20, cD (.bool (r9 == r10)))], []⟩, ⟨[(21, cD (.bool (r9 == r10)))], []⟩, [], [], []⟩, ⟨⟨[(21, cD (.bool (r9 == r10)))], []⟩, ⟨[(22, .c (.d (.bool true)))], []⟩, [], [], []⟩, ⟨⟨[(3, .c (.ptr 3 0)), (22, cD (.bool true))], [(3, .box (cTime p1))]⟩, ⟨[(23, .agg (cTime p1))], []⟩, [], [], []⟩, ⟨⟨[(0, cD (lD 3 encTime p0)), (22, cD (.bool true))], []⟩, ⟨[(24, cD (lD 3 encTime p0))], []⟩, [], [], []⟩, ⟨⟨[(22, cD (.bool true)), (23, .agg (cTime p1)), (24, cD (lD 3 encTime p0))], []⟩, ⟨[(25, .agg (cTime r12))], []⟩, [], [], []⟩, ⟨⟨[(3, .c (.ptr 3 0)), (22, cD (.bool true))], [(3, .box (cTime p1))]⟩, ⟨[(26, .agg (cTime p1))], []⟩, [], [], []⟩, ⟨⟨[(0, cD (lD 3 encTime p0)), (22, cD (.bool true))], []⟩, ⟨[(27, cD (lD 3 encTime p0))], []⟩, [], [], []⟩, ⟨⟨[(22, cD (.bool true)), (26, .agg (cTime p1)), (27, cD (lD 3 encTime p0))], []⟩, ⟨[(28, .agg (cTime r13))], []⟩, [], [], []⟩, ⟨⟨[(22, cD (.bool true)), (25, .agg (cTime r12)), (28, .agg (cTime r13))], []⟩, ⟨[(29, cD (.bool (eqTime r12 r13)))], []⟩, [], [], []⟩, ⟨⟨[(22, cD (.bool true)), (29, cD (.bool (eqTime r12 r13)))], []⟩, ⟨[(30, cD (.bool (eqTime r12 r13)))], []⟩, [], [], []⟩, ⟨⟨[(30, cD (.bool (eqTime r12 r13)))], []⟩, ⟨[(4, cD (.bool (eqTime r12 r13)))], []⟩, [], [], []⟩]) (bef := [[], [0], [0, 1], [0, 1, 2], [0, 1], [0, 1, 2, 3, 4], [0, 1, 2, 3, 4, 5], [0, 1, 2, 3, 4, 5, 6], [0, 1, 2, 3, 4, 5, 6, 7], [0, 1, 2, 3, 4, 5, 6, 7, 8], [0, 1, 2, 3, 4, 5, 6, 7, 8], [0, 1, 2, 3, 4, 5, 6, 7, 8, 9, 10], [0, 1, 2, 3, 4, 5, 6, 7, 8], [0, 1, 2, 3, 4, 5, 6, 7, 8], [0, 1, 2, 3, 4, 5, 6, 7, 8, 9, 10, 11, 12, 13], [0, 1, 2, 3, 4, 5, 6, 7, 8, 9, 10, 11, 12, 13, 14], [0, 1, 2, 3, 4, 5, 6, 7, 8, 9, 10, 11, 12, 13, 14, 15], [0, 1, 2, 3, 4, 5, 6, 7, 8, 9, 10, 11, 12, 13, 14, 15, 16], [0, 1, 2, 3, 4, 5, 6, 7, 8, 9, 10, 11, 12, 13, 14, 15, 16, 17], [0, 1, 2, 3, 4, 5, 6, 7, 8, 9, 10, 11, 12, 13, 14, 15, 16, 17], [0, 1, 2, 3, 4, 5, 6, 7, 8, 9, 10, 11, 12, 13, 14, 15, 16, 17, 18, 19], [0, 1, 2, 3, 4, 5, 6, 7, 8, 9, 10, 11, 12, 13, 14, 15, 16, 17], [0, 1, 2, 3, 4, 5, 6, 7, 8, 9, 10, 11, 12, 13, 14, 15, 16, 17], [0, 1, 2, 3, 4, 5, 6, 7, 8, 9, 10, 11, 12, 13, 14, 15, 16, 17, 18, 19, 20, 21, 22], [0, 1, 2, 3, 4, 5, 6, 7, 8, 9, 10, 11, 12, 13, 14, 15, 16, 17, 18, 19, 20, 21, 22, 23], [0, 1, 2, 3, 4, 5, 6, 7, 8, 9, 10, 11, 12, 13, 14, 15, 16, 17, 18, 19, 20, 21, 22, 23, 24], [0, 1, 2, 3, 4, 5, 6, 7, 8, 9, 10, 11, 12, 13, 14, 15, 16, 17, 18, 19, 20, 21, 22, 23, 24, 25]]) (tk := [4]) (sk := []) (s' := ⟨[(4, cD (.bool (eqTime r12 r13)))], []⟩) (by kernel_rfl) (by kernel_rfl) (by kernel_rfl) ⟨?_, ?_, ?_, ?_, ?_, ?_, ?_, ?_, ?_, ?_, ?_, ?_, ?_, ?_, ?_, ?_, ?_, ?_, ?_, ?_, ?_, ?_, ?_, ?_, ?_, ?_, ?_, trivial⟩ (by kernel_rfl) ?_
      · exact DOk.callA (caps := []) (xs := []) (freshetlaw04_fronts_ok hr3) rfl (fun r => by kernel_rfl) rfl (fun r => by kernel_rfl) (fun r => by kernel_rfl) (fun r => .nil) rfl rfl (fun r => rfl)
      · exact DOk.stepP (fun b => .val (.c (.d (.bool b))) (True)) (p := r3) hp4 (fun r => by kernel_rfl) (fun r => by kernel_rfl) trivial (by kernel_rfl) (by kernel_rfl) (fun r => rfl)
      · exact DOk.t rfl rfl (by kernel_rfl) (by kernel_rfl)
      · exact DOk.callA (caps := []) (xs := [cD (lD 3 encTime p0)]) (moment_Front_ok hr5) rfl (fun r => by kernel_rfl) rfl (fun r => by kernel_rfl) (fun r => by kernel_rfl) (fun r => (.cons (.refl _) .nil)) rfl rfl (fun r => rfl)
      · exact DOk.t rfl rfl (by kernel_rfl) (by kernel_rfl)
      · exact DOk.callA (caps := []) (xs := [cD (lD 3 encTime p0)]) (freshetref04_Front_ok hr6) rfl (fun r => by kernel_rfl) rfl (fun r => by kernel_rfl) (fun r => by kernel_rfl) (fun r => (.cons (.refl _) .nil)) rfl rfl (fun r => rfl)
      · exact DOk.callA (caps := []) (xs := [cD (lD 3 encTime r5), cD (lD 3 encTime r6)]) (freshetref04_Same_ok hr7) rfl (fun r => by kernel_rfl) rfl (fun r => by kernel_rfl) (fun r => by kernel_rfl) (fun r => (.cons (.refl _) (.cons (.refl _) .nil))) rfl rfl (fun r => rfl)
      · exact DOk.t rfl rfl (by kernel_rfl) (by kernel_rfl)
      · exact DOk.stepP (fun b => .val (.c (.d (.bool b))) (True)) (p := r7) hp8 (fun r => by kernel_rfl) (fun r => by kernel_rfl) trivial (by kernel_rfl) (by kernel_rfl) (fun r => rfl)
      · exact DOk.t rfl rfl (by kernel_rfl) (by kernel_rfl)
      · exact DOk.t rfl rfl (by kernel_rfl) (by kernel_rfl)
      · exact DOk.callA (caps := []) (xs := [cD (lD 3 encTime p0), .agg (cTime p1)]) (moment_Beyond_ok hr9) rfl (fun r => by kernel_rfl) rfl (fun r => by kernel_rfl) (fun r => by kernel_rfl) (fun r => (.cons (.refl _) (.cons (.refl _) .nil))) rfl rfl (fun r => rfl)
      · exact DOk.t rfl rfl (by kernel_rfl) (by kernel_rfl)
      · exact DOk.t rfl rfl (by kernel_rfl) (by kernel_rfl)
      · exact DOk.callA (caps := []) (xs := [cD (lD 3 encTime p0), .agg (cTime p1)]) (freshetref04_Beyond_ok hr10) rfl (fun r => by kernel_rfl) rfl (fun r => by kernel_rfl) (fun r => by kernel_rfl) (fun r => (.cons (.refl _) (.cons (.refl _) .nil))) rfl rfl (fun r => rfl)
      · exact DOk.t rfl rfl (by kernel_rfl) (by kernel_rfl)
      · exact DOk.t rfl rfl (by kernel_rfl) (by kernel_rfl)
      · exact DOk.stepP (fun b => .val (.c (.d (.bool b))) (True)) (p := (r9 == r10)) hp11 (fun r => by kernel_rfl) (fun r => by kernel_rfl) trivial (by kernel_rfl) (by kernel_rfl) (fun r => rfl)
      · exact DOk.t rfl rfl (by kernel_rfl) (by kernel_rfl)
      · exact DOk.t rfl rfl (by kernel_rfl) (by kernel_rfl)
      · exact DOk.callA (caps := []) (xs := [.agg (cTime p1), cD (lD 3 encTime p0)]) (moment_Advance_ok hr12) rfl (fun r => by kernel_rfl) rfl (fun r => by kernel_rfl) (fun r => by kernel_rfl) (fun r => (.cons (.refl _) (.cons (.refl _) .nil))) rfl rfl (fun r => rfl)
      · exact DOk.t rfl rfl (by kernel_rfl) (by kernel_rfl)
      · exact DOk.t rfl rfl (by kernel_rfl) (by kernel_rfl)
      · exact DOk.callA (caps := []) (xs := [.agg (cTime p1), cD (lD 3 encTime p0)]) (freshetref04_Advance_ok hr13) rfl (fun r => by kernel_rfl) rfl (fun r => by kernel_rfl) (fun r => by kernel_rfl) (fun r => (.cons (.refl _) (.cons (.refl _) .nil))) rfl rfl (fun r => rfl)
      · exact DOk.one fun r _ => One.eql (b := (eqTime r12 r13)) (d := 9) rfl (by kernel_rfl) rfl (.inl rfl) rfl rfl (by kernel_rfl) rfl (by kernel_rfl)
      · exact DOk.t rfl rfl (by kernel_rfl) (by kernel_rfl)
      · exact DOk.t rfl rfl (by kernel_rfl) (by kernel_rfl)
      exact ⟨_, h, rfl⟩
     ·refine Tri.drawn (specs := [⟨⟨[], []⟩, ⟨[(5, cD (.bool r3))], []⟩, [], [], []⟩, ⟨⟨[(5, cD (.bool r3))], []⟩, ⟨[(6, .c (.d (.bool true)))], []⟩, [], [], []⟩, ⟨⟨[(0, cD (lD 3 encTime p0)), (6, cD (.bool true))], []⟩, ⟨[(7, cD (lD 3 encTime p0))], []⟩, [], [], []⟩, ⟨⟨[(6, cD (.bool true)), (7, cD (lD 3 encTime p0))], []⟩, ⟨[(8, cD (lD 3 encTime r5))], []⟩, [], [], []⟩, ⟨⟨[(0, cD (lD 3 encTime p0)), (6, cD (.bool true))], []⟩, ⟨[(9, cD (lD 3 encTime p0))], []⟩, [], [], []⟩, ⟨⟨[(6, cD (.bool true)), (9, cD (lD 3 encTime p0))], []⟩, ⟨[(10, cD (lD 3 encTime r6))], []⟩, [], [], []⟩, ⟨⟨[(6, cD (.bool true)), (8, cD (lD 3 encTime r5)), (10, cD (lD 3 encTime r6))], []⟩, ⟨[(11, cD (.bool r7))], []⟩, [], [], []⟩, ⟨⟨[(6, cD (.bool true)), (11, cD (.bool r7))], []⟩, ⟨[(12, cD (.bool r7))], []⟩, [], [], []⟩, ⟨⟨[(12, cD (.bool r7))], []⟩, ⟨[(13, .c (.d (.bool true)))], []⟩, [], [], []⟩, ⟨⟨[(0, cD (lD 3 encTime p0)), (13, cD (.bool true))], []⟩, ⟨[(14, cD (lD 3 encTime p0))], []⟩, [], [], []⟩, ⟨⟨[(3, .c (.ptr 3 0)), (13, cD (.bool true))], [(3, .box (cTime p1))]⟩, ⟨[(15, .agg (cTime p1))], []⟩, [], [], []⟩, ⟨⟨[(13, cD (.bool true)), (14, cD (lD 3 encTime p0)), (15, .agg (cTime p1))], []⟩, ⟨[(16, cD (.bool r9))], []⟩, [], [], []⟩, ⟨⟨[(0, cD (lD 3 encTime p0)), (13, cD (.bool true))], []⟩, ⟨[(17, cD (lD 3 encTime p0))], []⟩, [], [], []⟩, ⟨⟨[(3, .c (.ptr 3 0)), (13, cD (.bool true))], [(3, .box (cTime p1))]⟩, ⟨[(18, .agg (cTime p1))], []⟩, [], [], []⟩, ⟨⟨[(13, cD (.bool true)), (17, cD (lD 3 encTime p0)), (18, .agg (cTime p1))], []⟩, ⟨[(19, cD (.bool r10))], []⟩, [], [], []⟩, ⟨⟨[(13, cD (.bool true)), (16, cD (.bool r9)), (19, cD (.bool r10))], []⟩, ⟨[(20, cD (.bool (r9 == r10)))], []⟩, [], [], []⟩, ⟨⟨[(13, cD (.bool true)), (20, cD (.bool (r9 == r10)))], []⟩, ⟨[(21, cD (.bool (r9 == r10)))], []⟩, [], [], []⟩, ⟨⟨[(21, cD (.bool (r9 == r10)))], []⟩, ⟨[(22, .c (.d (.bool false)))], []⟩, [], [], []⟩, ⟨⟨[(3, .c (.ptr 3 0)), (22, cD (.bool false))], [(3, .box (cTime p1))]⟩, ⟨[(23, .tup [])], []⟩, [], [], []⟩, ⟨⟨[(0, cD (lD 3 encTime p0)), (22, cD (.bool false))], []⟩, ⟨[(24, .tup [])], []⟩, [], [], []⟩, ⟨⟨[(22, cD (.bool false)), (23, .tup []), (24, .tup [])], []⟩, ⟨[(25, .tup [])], []⟩, [], [], []⟩, ⟨⟨[(3, .c (.ptr 3 0)), (22, cD (.bool false))], [(3, .box (cTime p1))]⟩, ⟨[(26, .tup [])], []⟩, [], [], []⟩, ⟨⟨[(0, cD (lD 3 encTime p0)), (22, cD (.bool false))], []⟩, ⟨[(27, .tup [])], []⟩, [], [], []⟩, ⟨⟨[(22, cD (.bool false)), (26, .tup []), (27, .tup [])], []⟩, ⟨[(28, .tup [])], []⟩, [], [], []⟩, ⟨⟨[(22, cD (.bool false)), (25, .tup []), (28, .tup [])], []⟩, ⟨[(29, .tup [])], []⟩, [], [], []⟩, ⟨⟨[(22, cD (.bool false)), (29, .tup [])], []⟩, ⟨[(30, cD (.bool false))], []⟩, [], [], []⟩, ⟨⟨[(30, cD (.bool false))], []⟩, ⟨[(4, cD (.bool false))], []⟩, [], [], []⟩]) (bef := [[], [0], [0, 1], [0, 1, 2], [0, 1], [0, 1, 2, 3, 4], [0, 1, 2, 3, 4, 5], [0, 1, 2, 3, 4, 5, 6], [0, 1, 2, 3, 4, 5, 6, 7], [0, 1, 2, 3, 4, 5, 6, 7, 8], [0, 1, 2, 3, 4, 5, 6, 7, 8], [0, 1, 2, 3, 4, 5, 6, 7, 8, 9, 10], [0, 1, 2, 3, 4, 5, 6, 7, 8], [0, 1, 2, 3, 4, 5, 6, 7, 8], [0, 1, 2, 3, 4, 5, 6, 7, 8, 9, 10, 11, 12, 13], [0, 1, 2, 3, 4, 5, 6, 7, 8, 9, 10, 11, 12, 13, 14], [0, 1, 2, 3, 4, 5, 6, 7, 8, 9, 10, 11, 12, 13, 14, 15], [0, 1, 2, 3, 4, 5, 6, 7, 8, 9, 10, 11, 12, 13, 14, 15, 16], [0, 1, 2, 3, 4, 5, 6, 7, 8, 9, 10, 11, 12, 13, 14, 15, 16, 17], [0, 1, 2, 3, 4, 5, 6, 7, 8, 9, 10, 11, 12, 13, 14, 15, 16, 17], [0, 1, 2, 3, 4, 5, 6, 7, 8, 9, 10, 11, 12, 13, 14, 15, 16, 17, 18, 19], [0, 1, 2, 3, 4, 5, 6, 7, 8, 9, 10, 11, 12, 13, 14, 15, 16, 17], [0, 1, 2, 3, 4, 5, 6, 7, 8, 9, 10, 11, 12, 13, 14, 15, 16, 17], [0, 1, 2, 3, 4, 5, 6, 7, 8, 9, 10, 11, 12, 13, 14, 15, 16, 17, 18, 19, 20, 21, 22], [0, 1, 2, 3, 4, 5, 6, 7, 8, 9, 10, 11, 12, 13, 14, 15, 16, 17, 18, 19, 20, 21, 22, 23], [0, 1, 2, 3, 4, 5, 6, 7, 8, 9, 10, 11, 12, 13, 14, 15, 16, 17, 18, 19, 20, 21, 22, 23, 24], [0, 1, 2, 3, 4, 5, 6, 7, 8, 9, 10, 11, 12, 13, 14, 15, 16, 17, 18, 19, 20, 21, 22, 23, 24, 25]]) (tk := [4]) (sk := []) (s' := ⟨[(4, cD (.bool false))], []⟩) (by kernel_rfl) (by kernel_rfl) (by kernel_rfl) ⟨?_, ?_, ?_, ?_, ?_, ?_, ?_, ?_, ?_, ?_, ?_, ?_, ?_, ?_, ?_, ?_, ?_, ?_, ?_, ?_, ?_, ?_, ?_, ?_, ?_, ?_, ?_, trivial⟩ (by kernel_rfl) ?_
      · exact DOk.callA (caps := []) (xs := []) (freshetlaw04_fronts_ok hr3) rfl (fun r => by kernel_rfl) rfl (fun r => by kernel_rfl) (fun r => by kernel_rfl) (fun r => .nil) rfl rfl (fun r => rfl)
      · exact DOk.stepP (fun b => .val (.c (.d (.bool b))) (True)) (p := r3) hp4 (fun r => by kernel_rfl) (fun r => by kernel_rfl) trivial (by kernel_rfl) (by kernel_rfl) (fun r => rfl)
      · exact DOk.t rfl rfl (by kernel_rfl) (by kernel_rfl)
      · exact DOk.callA (caps := []) (xs := [cD (lD 3 encTime p0)]) (moment_Front_ok hr5) rfl (fun r => by kernel_rfl) rfl (fun r => by kernel_rfl) (fun r => by kernel_rfl) (fun r => (.cons (.refl _) .nil)) rfl rfl (fun r => rfl)
      · exact DOk.t rfl rfl (by kernel_rfl) (by kernel_rfl)
      · exact DOk.callA (caps := []) (xs := [cD (lD 3 encTime p0)]) (freshetref04_Front_ok hr6) rfl (fun r => by kernel_rfl) rfl (fun r => by kernel_rfl) (fun r => by kernel_rfl) (fun r => (.cons (.refl _) .nil)) rfl rfl (fun r => rfl)
      · exact DOk.callA (caps := []) (xs := [cD (lD 3 encTime r5), cD (lD 3 encTime r6)]) (freshetref04_Same_ok hr7) rfl (fun r => by kernel_rfl) rfl (fun r => by kernel_rfl) (fun r => by kernel_rfl) (fun r => (.cons (.refl _) (.cons (.refl _) .nil))) rfl rfl (fun r => rfl)
      · exact DOk.t rfl rfl (by kernel_rfl) (by kernel_rfl)
      · exact DOk.stepP (fun b => .val (.c (.d (.bool b))) (True)) (p := r7) hp8 (fun r => by kernel_rfl) (fun r => by kernel_rfl) trivial (by kernel_rfl) (by kernel_rfl) (fun r => rfl)
      · exact DOk.t rfl rfl (by kernel_rfl) (by kernel_rfl)
      · exact DOk.t rfl rfl (by kernel_rfl) (by kernel_rfl)
      · exact DOk.callA (caps := []) (xs := [cD (lD 3 encTime p0), .agg (cTime p1)]) (moment_Beyond_ok hr9) rfl (fun r => by kernel_rfl) rfl (fun r => by kernel_rfl) (fun r => by kernel_rfl) (fun r => (.cons (.refl _) (.cons (.refl _) .nil))) rfl rfl (fun r => rfl)
      · exact DOk.t rfl rfl (by kernel_rfl) (by kernel_rfl)
      · exact DOk.t rfl rfl (by kernel_rfl) (by kernel_rfl)
      · exact DOk.callA (caps := []) (xs := [cD (lD 3 encTime p0), .agg (cTime p1)]) (freshetref04_Beyond_ok hr10) rfl (fun r => by kernel_rfl) rfl (fun r => by kernel_rfl) (fun r => by kernel_rfl) (fun r => (.cons (.refl _) (.cons (.refl _) .nil))) rfl rfl (fun r => rfl)
      · exact DOk.t rfl rfl (by kernel_rfl) (by kernel_rfl)
      · exact DOk.t rfl rfl (by kernel_rfl) (by kernel_rfl)
      · exact DOk.stepP (fun b => .val (.c (.d (.bool b))) (True)) (p := (r9 == r10)) hp11 (fun r => by kernel_rfl) (fun r => by kernel_rfl) trivial (by kernel_rfl) (by kernel_rfl) (fun r => rfl)
      · exact DOk.skip (fun r => by kernel_rfl) rfl rfl (fun r => rfl)
      · exact DOk.skip (fun r => by kernel_rfl) rfl rfl (fun r => rfl)
      · exact DOk.skip (fun r => by kernel_rfl) rfl rfl (fun r => rfl)
      · exact DOk.skip (fun r => by kernel_rfl) rfl rfl (fun r => rfl)
      · exact DOk.skip (fun r => by kernel_rfl) rfl rfl (fun r => rfl)
      · exact DOk.skip (fun r => by kernel_rfl) rfl rfl (fun r => rfl)
      · exact DOk.skip (fun r => by kernel_rfl) rfl rfl (fun r => rfl)
      · exact DOk.t rfl rfl (by kernel_rfl) (by kernel_rfl)
      · exact DOk.t rfl rfl (by kernel_rfl) (by kernel_rfl)
      exact ⟨_, h, rfl⟩
    ·refine Tri.drawn (specs := [⟨⟨[], []⟩, ⟨[(5, cD (.bool r3))], []⟩, [], [], []⟩, ⟨⟨[(5, cD (.bool r3))], []⟩, ⟨[(6, .c (.d (.bool true)))], []⟩, [], [], []⟩, ⟨⟨[(0, cD (lD 3 encTime p0)), (6, cD (.bool true))], []⟩, ⟨[(7, cD (lD 3 encTime p0))], []⟩, [], [], []⟩, ⟨⟨[(6, cD (.bool true)), (7, cD (lD 3 encTime p0))], []⟩, ⟨[(8, cD (lD 3 encTime r5))], []⟩, [], [], []⟩, ⟨⟨[(0, cD (lD 3 encTime p0)), (6, cD (.bool true))], []⟩, ⟨[(9, cD (lD 3 encTime p0))], []⟩, [], [], []⟩, ⟨⟨[(6, cD (.bool true)), (9, cD (lD 3 encTime p0))], []⟩, ⟨[(10, cD (lD 3 encTime r6))], []⟩, [], [], []⟩, ⟨⟨[(6, cD (.bool true)), (8, cD (lD 3 encTime r5)), (10, cD (lD 3 encTime r6))], []⟩, ⟨[(11, cD (.bool r7))], []⟩, [], [], []⟩, ⟨⟨[(6, cD (.bool true)), (11, cD (.bool r7))], []⟩, ⟨[(12, cD (.bool r7))], []⟩, [], [], []⟩, ⟨⟨[(12, cD (.bool r7))], []⟩, ⟨[(13, .c (.d (.bool false)))], []⟩, [], [], []⟩, ⟨⟨[(0, cD (lD 3 encTime p0)), (13, cD (.bool false))], []⟩, ⟨[(14, .tup [])], []⟩, [], [], []⟩, ⟨⟨[(3, .c (.ptr 3 0)), (13, cD (.bool false))], [(3, .box (cTime p1))]⟩, ⟨[(15, .tup [])], []⟩, [], [], []⟩, ⟨⟨[(13, cD (.bool false)), (14, .tup []), (15, .tup [])], []⟩, ⟨[(16, .tup [])], []⟩, [], [], []⟩, ⟨⟨[(0, cD (lD 3 encTime p0)), (13, cD (.bool false))], []⟩, ⟨[(17, .tup [])], []⟩, [], [], []⟩, ⟨⟨[(3, .c (.ptr 3 0)), (13, cD (.bool false))], [(3, .box (cTime p1))]⟩, ⟨[(18, .tup [])], []⟩, [], [], []⟩, ⟨⟨[(13, cD (.bool false)), (17, .tup []), (18, .tup [])], []⟩, ⟨[(19, .tup [])], []⟩, [], [], []⟩, ⟨⟨[(13, cD (.bool false)), (16, .tup []), (19, .tup [])], []⟩, ⟨[(20, .tup [])], []⟩, [], [], []⟩, ⟨⟨[(13, cD (.bool false)), (20, .tup [])], []⟩, ⟨[(21, cD (.bool false))], []⟩, [], [], []⟩, ⟨⟨[(21, cD (.bool false))], []⟩, ⟨[(22, cD (.bool false))], []⟩, [], [], []⟩, ⟨⟨[(3, .c (.ptr 3 0)), (22, cD (.bool false))], [(3, .box (cTime p1))]⟩, ⟨[(23, .tup [])], []⟩, [], [], []⟩, ⟨⟨[(0, cD (lD 3 encTime p0)), (22, cD (.bool false))], []⟩, ⟨[(24, .tup [])], []⟩, [], [], []⟩, ⟨⟨[(22, cD (.bool false)), (23, .tup []), (24, .tup [])], []⟩, ⟨[(25, .tup [])], []⟩, [], [], []⟩, ⟨⟨[(3, .c (.ptr 3 0)), (22, cD (.bool false))], [(3, .box (cTime p1))]⟩, ⟨[(26, .tup [])], []⟩, [], [], []⟩, ⟨⟨[(0, cD (lD 3 encTime p0)), (22, cD (.bool false))], []⟩, ⟨[(27, .tup [])], []⟩, [], [], []⟩, ⟨⟨[(22, cD (.bool false)), (26, .tup []), (27, .tup [])], []⟩, ⟨[(28, .tup [])], []⟩, [], [], []⟩, ⟨⟨[(22, cD (.bool false)), (25, .tup []), (28, .tup [])], []⟩, ⟨[(29, .tup [])], []⟩, [], [], []⟩, ⟨⟨[(22, cD (.bool false)), (29, .tup [])], []⟩, ⟨[(30, cD (.bool false))], []⟩, [], [], []⟩, ⟨⟨[(30, cD (.bool false))], []⟩, ⟨[(4, cD (.bool false))], []⟩, [], [], []⟩]) (bef := [[], [0], [0, 1], [0, 1, 2], [0, 1], [0, 1, 2, 3, 4], [0, 1, 2, 3, 4, 5], [0, 1, 2, 3, 4, 5, 6], [0, 1, 2, 3, 4, 5, 6, 7], [0, 1, 2, 3, 4, 5, 6, 7, 8], [0, 1, 2, 3, 4, 5, 6, 7, 8], [0, 1, 2, 3, 4, 5, 6, 7, 8, 9, 10], [0, 1, 2, 3, 4, 5, 6, 7, 8], [0, 1, 2, 3, 4, 5, 6, 7, 8], [0, 1, 2, 3, 4, 5, 6, 7, 8, 9, 10, 11, 12, 13], [0, 1, 2, 3, 4, 5, 6, 7, 8, 9, 10, 11, 12, 13, 14], [0, 1, 2, 3, 4, 5, 6, 7, 8, 9, 10, 11, 12, 13, 14, 15], [0, 1, 2, 3, 4, 5, 6, 7, 8, 9, 10, 11, 12, 13, 14, 15, 16], [0, 1, 2, 3, 4, 5, 6, 7, 8, 9, 10, 11, 12, 13, 14, 15, 16, 17], [0, 1, 2, 3, 4, 5, 6, 7, 8, 9, 10, 11, 12, 13, 14, 15, 16, 17], [0, 1, 2, 3, 4, 5, 6, 7, 8, 9, 10, 11, 12, 13, 14, 15, 16, 17, 18, 19], [0, 1, 2, 3, 4, 5, 6, 7, 8, 9, 10, 11, 12, 13, 14, 15, 16, 17], [0, 1, 2, 3, 4, 5, 6, 7, 8, 9, 10, 11, 12, 13, 14, 15, 16, 17], [0, 1, 2, 3, 4, 5, 6, 7, 8, 9, 10, 11, 12, 13, 14, 15, 16, 17, 18, 19, 20, 21, 22], [0, 1, 2, 3, 4, 5, 6, 7, 8, 9, 10, 11, 12, 13, 14, 15, 16, 17, 18, 19, 20, 21, 22, 23], [0, 1, 2, 3, 4, 5, 6, 7, 8, 9, 10, 11, 12, 13, 14, 15, 16, 17, 18, 19, 20, 21, 22, 23, 24], [0, 1, 2, 3, 4, 5, 6, 7, 8, 9, 10, 11, 12, 13, 14, 15, 16, 17, 18, 19, 20, 21, 22, 23, 24, 25]]) (tk := [4]) (sk := []) (s' := ⟨[(4, cD (.bool false))], []⟩) (by kernel_rfl) (by kernel_rfl) (by kernel_rfl) ⟨?_, ?_, ?_, ?_, ?_, ?_, ?_, ?_, ?_, ?_, ?_, ?_, ?_, ?_, ?_, ?_, ?_, ?_, ?_, ?_, ?_, ?_, ?_, ?_, ?_, ?_, ?_, trivial⟩ (by kernel_rfl) ?_
     · exact DOk.callA (caps := []) (xs := []) (freshetlaw04_fronts_ok hr3) rfl (fun r => by kernel_rfl) rfl (fun r => by kernel_rfl) (fun r => by kernel_rfl) (fun r => .nil) rfl rfl (fun r => rfl)
     · exact DOk.stepP (fun b => .val (.c (.d (.bool b))) (True)) (p := r3) hp4 (fun r => by kernel_rfl) (fun r => by kernel_rfl) trivial (by kernel_rfl) (by kernel_rfl) (fun r => rfl)
     · exact DOk.t rfl rfl (by kernel_rfl) (by kernel_rfl)
     · exact DOk.callA (caps := []) (xs := [cD (lD 3 encTime p0)]) (moment_Front_ok hr5) rfl (fun r => by kernel_rfl) rfl (fun r => by kernel_rfl) (fun r => by kernel_rfl) (fun r => (.cons (.refl _) .nil)) rfl rfl (fun r => rfl)
     · exact DOk.t rfl rfl (by kernel_rfl) (by kernel_rfl)
     · exact DOk.callA (caps := []) (xs := [cD (lD 3 encTime p0)]) (freshetref04_Front_ok hr6) rfl (fun r => by kernel_rfl) rfl (fun r => by kernel_rfl) (fun r => by kernel_rfl) (fun r => (.cons (.refl _) .nil)) rfl rfl (fun r => rfl)
     · exact DOk.callA (caps := []) (xs := [cD (lD 3 encTime r5), cD (lD 3 encTime r6)]) (freshetref04_Same_ok hr7) rfl (fun r => by kernel_rfl) rfl (fun r => by kernel_rfl) (fun r => by kernel_rfl) (fun r => (.cons (.refl _) (.cons (.refl _) .nil))) rfl rfl (fun r => rfl)
     · exact DOk.t rfl rfl (by kernel_rfl) (by kernel_rfl)
     · exact DOk.stepP (fun b => .val (.c (.d (.bool b))) (True)) (p := r7) hp8 (fun r => by kernel_rfl) (fun r => by kernel_rfl) trivial (by kernel_rfl) (by kernel_rfl) (fun r => rfl)
     · exact DOk.skip (fun r => by kernel_rfl) rfl rfl (fun r => rfl)
     · exact DOk.skip (fun r => by kernel_rfl) rfl rfl (fun r => rfl)
     · exact DOk.skip (fun r => by kernel_rfl) rfl rfl (fun r => rfl)
     · exact DOk.skip (fun r => by kernel_rfl) rfl rfl (fun r => rfl)
     · exact DOk.skip (fun r => by kernel_rfl) rfl rfl (fun r => rfl)
     · exact DOk.skip (fun r => by kernel_rfl) rfl rfl (fun r => rfl)
     · exact DOk.skip (fun r => by kernel_rfl) rfl rfl (fun r => rfl)
     · exact DOk.t rfl rfl (by kernel_rfl) (by kernel_rfl)
     · exact DOk.t rfl rfl (by kernel_rfl) (by kernel_rfl)
     · exact DOk.skip (fun r => by kernel_rfl) rfl rfl (fun r => rfl)
     · exact DOk.skip (fun r => by kernel_rfl) rfl rfl (fun r => rfl)
     · exact DOk.skip (fun r => by kernel_rfl) rfl rfl (fun r => rfl)
     · exact DOk.skip (fun r => by kernel_rfl) rfl rfl (fun r => rfl)
     · exact DOk.skip (fun r => by kernel_rfl) rfl rfl (fun r => rfl)
     · exact DOk.skip (fun r => by kernel_rfl) rfl rfl (fun r => rfl)
     · exact DOk.skip (fun r => by kernel_rfl) rfl rfl (fun r => rfl)
     · exact DOk.t rfl rfl (by kernel_rfl) (by kernel_rfl)
     · exact DOk.t rfl rfl (by kernel_rfl) (by kernel_rfl)
     exact ⟨_, h, rfl⟩
   ·refine Tri.drawn (specs := [⟨⟨[], []⟩, ⟨[(5, cD (.bool r3))], []⟩, [], [], []⟩, ⟨⟨[(5, cD (.bool r3))], []⟩, ⟨[(6, .c (.d (.bool false)))], []⟩, [], [], []⟩, ⟨⟨[(0, cD (lD 3 encTime p0)), (6, cD (.bool false))], []⟩, ⟨[(7, .tup [])], []⟩, [], [], []⟩, ⟨⟨[(6, cD (.bool false)), (7, .tup [])], []⟩, ⟨[(8, .tup [])], []⟩, [], [], []⟩, ⟨⟨[(0, cD (lD 3 encTime p0)), (6, cD (.bool false))], []⟩, ⟨[(9, .tup [])], []⟩, [], [], []⟩, ⟨⟨[(6, cD (.bool false)), (9, .tup [])], []⟩, ⟨[(10, .tup [])], []⟩, [], [], []⟩, ⟨⟨[(6, cD (.bool false)), (8, .tup []), (10, .tup [])], []⟩, ⟨[(11, .tup [])], []⟩, [], [], []⟩, ⟨⟨[(6, cD (.bool false)), (11, .tup [])], []⟩, ⟨[(12, cD (.bool false))], []⟩, [], [], []⟩, ⟨⟨[(12, cD (.bool false))], []⟩, ⟨[(13, cD (.bool false))], []⟩, [], [], []⟩, ⟨⟨[(0, cD (lD 3 encTime p0)), (13, cD (.bool false))], []⟩, ⟨[(14, .tup [])], []⟩, [], [], []⟩, ⟨⟨[(3, .c (.ptr 3 0)), (13, cD (.bool false))], [(3, .box (cTime p1))]⟩, ⟨[(15, .tup [])], []⟩, [], [], []⟩, ⟨⟨[(13, cD (.bool false)), (14, .tup []), (15, .tup [])], []⟩, ⟨[(16, .tup [])], []⟩, [], [], []⟩, ⟨⟨[(0, cD (lD 3 encTime p0)), (13, cD (.bool false))], []⟩, ⟨[(17, .tup [])], []⟩, [], [], []⟩, ⟨⟨[(3, .c (.ptr 3 0)), (13, cD (.bool false))], [(3, .box (cTime p1))]⟩, ⟨[(18, .tup [])], []⟩, [], [], []⟩, ⟨⟨[(13, cD (.bool false)), (17, .tup []), (18, .tup [])], []⟩, ⟨[(19, .tup [])], []⟩, [], [], []⟩, ⟨⟨[(13, cD (.bool false)), (16, .tup []), (19, .tup [])], []⟩, ⟨[(20, .tup [])], []⟩, [], [], []⟩, ⟨⟨[(13, cD (.bool false)), (20, .tup [])], []⟩, ⟨[(21, cD (.bool false))], []⟩, [], [], []⟩, ⟨⟨[(21, cD (.bool false))], []⟩, ⟨[(22, cD (.bool false))], []⟩, [], [], []⟩, ⟨⟨[(3, .c (.ptr 3 0)), (22, cD (.bool false))], [(3, .box (cTime p1))]⟩, ⟨[(23, .tup [])], []⟩, [], [], []⟩, ⟨⟨[(0, cD (lD 3 encTime p0)), (22, cD (.bool false))], []⟩, ⟨[(24, .tup [])], []⟩, [], [], []⟩, ⟨⟨[(22, cD (.bool false)), (23, .tup []), (24, .tup [])], []⟩, ⟨[(25, .tup [])], []⟩, [], [], []⟩, ⟨⟨[(3, .c (.ptr 3 0)), (22, cD (.bool false))], [(3, .box (cTime p1))]⟩, ⟨[(26, .tup [])], []⟩, [], [], []⟩, ⟨⟨[(0, cD (lD 3 encTime p0)), (22, cD (.bool false))], []⟩, ⟨[(27, .tup [])], []⟩, [], [], []⟩, ⟨⟨[(22, cD (.bool false)), (26, .tup []), (27, .tup [])], []⟩, ⟨[(28, .tup [])], []⟩, [], [], []⟩, ⟨⟨[(22, cD (.bool false)), (25, .tup []), (28, .tup [])], []⟩, ⟨[(29, .tup [])], []⟩, [], [], []⟩, ⟨⟨[(22, cD (.bool false)), (29, .tup [])], []⟩, ⟨[(30, cD (.bool false))], []⟩, [], [], []⟩, ⟨⟨[(30, cD (.bool false))], []⟩, ⟨[(4, cD (.bool false))], []⟩, [], [], []⟩]) (bef := [[], [0], [0, 1], [0, 1, 2], [0, 1], [0, 1, 2, 3, 4], [0, 1, 2, 3, 4, 5], [0, 1, 2, 3, 4, 5, 6], [0, 1, 2, 3, 4, 5, 6, 7], [0, 1, 2, 3, 4, 5, 6, 7, 8], [0, 1, 2, 3, 4, 5, 6, 7, 8], [0, 1, 2, 3, 4, 5, 6, 7, 8, 9, 10], [0, 1, 2, 3, 4, 5, 6, 7, 8], [0, 1, 2, 3, 4, 5, 6, 7, 8], [0, 1, 2, 3, 4, 5, 6, 7, 8, 9, 10, 11, 12, 13], [0, 1, 2, 3, 4, 5, 6, 7, 8, 9, 10, 11, 12, 13, 14], [0, 1, 2, 3, 4, 5, 6, 7, 8, 9, 10, 11, 12, 13, 14, 15], [0, 1, 2, 3, 4, 5, 6, 7, 8, 9, 10, 11, 12, 13, 14, 15, 16], [0, 1, 2, 3, 4, 5, 6, 7, 8, 9, 10, 11, 12, 13, 14, 15, 16, 17], [0, 1, 2, 3, 4, 5, 6, 7, 8, 9, 10, 11, 12, 13, 14, 15, 16, 17], [0, 1, 2, 3, 4, 5, 6, 7, 8, 9, 10, 11, 12, 13, 14, 15, 16, 17, 18, 19], [0, 1, 2, 3, 4, 5, 6, 7, 8, 9, 10, 11, 12, 13, 14, 15, 16, 17], [0, 1, 2, 3, 4, 5, 6, 7, 8, 9, 10, 11, 12, 13, 14, 15, 16, 17], [0, 1, 2, 3, 4, 5, 6, 7, 8, 9, 10, 11, 12, 13, 14, 15, 16, 17, 18, 19, 20, 21, 22], [0, 1, 2, 3, 4, 5, 6, 7, 8, 9, 10, 11, 12, 13, 14, 15, 16, 17, 18, 19, 20, 21, 22, 23], [0, 1, 2, 3, 4, 5, 6, 7, 8, 9, 10, 11, 12, 13, 14, 15, 16, 17, 18, 19, 20, 21, 22, 23, 24], [0, 1, 2, 3, 4, 5, 6, 7, 8, 9, 10, 11, 12, 13, 14, 15, 16, 17, 18, 19, 20, 21, 22, 23, 24, 25]]) (tk := [4]) (sk := []) (s' := ⟨[(4, cD (.bool false))], []⟩) (by kernel_rfl) (by kernel_rfl) (by kernel_rfl) ⟨?_, ?_, ?_, ?_, ?_, ?_, ?_, ?_, ?_, ?_, ?_, ?_, ?_, ?_, ?_, ?_, ?_, ?_, ?_, ?_, ?_, ?_, ?_, ?_, ?_, ?_, ?_, trivial⟩ (by kernel_rfl) ?_
    · exact DOk.callA (caps := []) (xs := []) (freshetlaw04_fronts_ok hr3) rfl (fun r => by kernel_rfl) rfl (fun r => by kernel_rfl) (fun r => by kernel_rfl) (fun r => .nil) rfl rfl (fun r => rfl)
    · exact DOk.stepP (fun b => .val (.c (.d (.bool b))) (True)) (p := r3) hp4 (fun r => by kernel_rfl) (fun r => by kernel_rfl) trivial (by kernel_rfl) (by kernel_rfl) (fun r => rfl)
    · exact DOk.skip (fun r => by kernel_rfl) rfl rfl (fun r => rfl)
    · exact DOk.skip (fun r => by kernel_rfl) rfl rfl (fun r => rfl)
    · exact DOk.skip (fun r => by kernel_rfl) rfl rfl (fun r => rfl)
    · exact DOk.skip (fun r => by kernel_rfl) rfl rfl (fun r => rfl)
    · exact DOk.skip (fun r => by kernel_rfl) rfl rfl (fun r => rfl)
    · exact DOk.t rfl rfl (by kernel_rfl) (by kernel_rfl)
    · exact DOk.t rfl rfl (by kernel_rfl) (by kernel_rfl)
    · exact DOk.skip (fun r => by kernel_rfl) rfl rfl (fun r => rfl)
    · exact DOk.skip (fun r => by kernel_rfl) rfl rfl (fun r => rfl)
    · exact DOk.skip (fun r => by kernel_rfl) rfl rfl (fun r => rfl)
    · exact DOk.skip (fun r => by kernel_rfl) rfl rfl (fun r => rfl)
    · exact DOk.skip (fun r => by kernel_rfl) rfl rfl (fun r => rfl)
    · exact DOk.skip (fun r => by kernel_rfl) rfl rfl (fun r => rfl)
    · exact DOk.skip (fun r => by kernel_rfl) rfl rfl (fun r => rfl)
    · exact DOk.t rfl rfl (by kernel_rfl) (by kernel_rfl)
    · exact DOk.t rfl rfl (by kernel_rfl) (by kernel_rfl)
    · exact DOk.skip (fun r => by kernel_rfl) rfl rfl (fun r => rfl)
    · exact DOk.skip (fun r => by kernel_rfl) rfl rfl (fun r => rfl)
    · exact DOk.skip (fun r => by kernel_rfl) rfl rfl (fun r => rfl)
    · exact DOk.skip (fun r => by kernel_rfl) rfl rfl (fun r => rfl)
    · exact DOk.skip (fun r => by kernel_rfl) rfl rfl (fun r => rfl)
    · exact DOk.skip (fun r => by kernel_rfl) rfl rfl (fun r => rfl)
    · exact DOk.skip (fun r => by kernel_rfl) rfl rfl (fun r => rfl)
    · exact DOk.t rfl rfl (by kernel_rfl) (by kernel_rfl)
    · exact DOk.t rfl rfl (by kernel_rfl) (by kernel_rfl)
    exact ⟨_, h, rfl⟩

end Go.Av