import Derived.Test.YtoiphmpjiobaiaaM5p
import Derived.Test.YtoiphmpjiobaiaaProg
namespace Go.Av
open Go Go.Proofs
set_option linter.unusedVariables false
set_option linter.unusedSimpArgs false

set_option maxRecDepth 100000 in
theorem freshetlaw04_at_ok {p0 : Int} {p1 : Int} {p2 : Int} {q : Time} (h : freshetlaw04_at p0 p1 p2 = some q) :
    Summ Try.prog 33 [.c (.d (.int .u64 p0)), .c (.d (.int .u64 p1)), .c (.d (.int .u64 p2))] [] (.agg [.d (.int .u64 q.epoch), .d (.int .u64 q.loop.1), .d (.int .u64 q.loop.2)]) [] := by
  refine Summ.intro Try.func33 rfl (by kernel_rfl) (by kernel_rfl) ?_
  rintro ⟨P, w0, G0, V, LL, lk, N⟩ rfl rfl rfl
  unfold freshetlaw04_at at h
  refine Tri.seqS ?_
  refine Tri.reg ?_
  refine At.seg 1 [0, 1, 2, 6] [6] (s' := ⟨[(0, .c (.d (.int .u64 p0))), (1, .c (.d (.int .u64 p1))), (2, .c (.d (.int .u64 p2))), (6, .c (.ptr 6 0))], [(6, .box [.d (.int .u64 0), .d (.int .u64 0), .d (.int .u64 0)])]⟩) (c := True ∧ True) (by kernel_rfl) ⟨trivial, trivial⟩ ?_
  refine At.done rfl ?_
  show Tri _ _ _ _
  refine Tri.seqS ?_
  refine Tri.reg ?_
  refine At.seg 6 [6] [6] (s' := ⟨[(6, .c (.ptr 6 0))], [(6, .box [.d (.int .u64 p0), .d (.int .u64 p1), .d (.int .u64 p2)])]⟩) (c := True ∧ True ∧ True ∧ True ∧ True ∧ True ∧ True) (by kernel_rfl) ⟨trivial, trivial, trivial, trivial, trivial, trivial, trivial⟩ ?_
  refine At.done rfl ?_
  show Tri _ _ _ _
  refine Tri.keep [6] [6] (s' := ⟨[(6, .c (.ptr 6 0))], [(6, .box [.d (.int .u64 p0), .d (.int .u64 p1), .d (.int .u64 p2)])]⟩) (by kernel_rfl) ?_
  refine Tri.ret ?_
  cases h
  refine ⟨_, _, rfl, ⟨trivial, trivial⟩, rfl, rfl, ?_⟩
  intro k c h
  cases h

set_option maxRecDepth 100000 in
theorem moment_greatest_ok {p0 : Int} {p1 : Int} {q : Int} (h : moment_greatest p0 p1 = some q) :
    Summ Try.prog 35 [.c (.d (.int .u64 p0)), .c (.d (.int .u64 p1))] [] (.c (.d (.int .u64 q))) [] := by
  refine Summ.intro Try.func35 rfl (by kernel_rfl) (by kernel_rfl) ?_
  rintro ⟨P, w0, G0, V, LL, lk, N⟩ rfl rfl rfl
  unfold moment_greatest at h
  refine Tri.seqS ?_
  refine Tri.reg ?_
  refine At.seg 1 [0, 1] [] (s' := ⟨[(0, .c (.d (.int .u64 p0))), (1, .c (.d (.int .u64 p1)))], []⟩) (c := True ∧ True) (by kernel_rfl) ⟨trivial, trivial⟩ ?_
  refine At.done rfl ?_
  show Tri _ _ _ _
  refine Tri.seqS ?_
  refine Tri.reg ?_
  refine At.seg 4 [4] [] (s' := ⟨[(4, .c (.d (.int .u64 (if p0 < p1 then p1 else p0))))], []⟩) (c := True ∧ True ∧ True ∧ True ∧ True) (by kernel_rfl) ⟨trivial, trivial, trivial, trivial, trivial⟩ ?_
  refine At.done rfl ?_
  show Tri _ _ _ _
  refine Tri.keep [4] [] (s' := ⟨[(4, .c (.d (.int .u64 (if p0 < p1 then p1 else p0))))], []⟩) (by kernel_rfl) ?_
  refine Tri.ret ?_
  cases h
  refine ⟨_, _, rfl, ⟨trivial, trivial⟩, rfl, rfl, ?_⟩
  intro k c h
  cases h

set_option maxRecDepth 100000 in
theorem moment_fold__greatest_ok_v1 {p1 : List Time} {q : Time} (h : moment_fold__greatest p1 = some q) :
    Summ Try.prog 34 [.c (.d (.fn 35 [])), .c (.view 3 p1.length (fun i => encTime (p1.getD i default)))] [] (.agg [.d (.int .u64 q.epoch), .d (.int .u64 q.loop.1), .d (.int .u64 q.loop.2)]) [] := by
  refine Summ.intro Try.func34 rfl (by kernel_rfl) (by kernel_rfl) ?_
  rintro ⟨P, w0, G0, V, LL, lk, N⟩ rfl rfl rfl
  unfold moment_fold__greatest at h
  refine Tri.seqS ?_
  refine Tri.reg ?_
  refine At.seg 1 [0, 1, 4] [4] (s' := ⟨[(0, .c (.d (.fn 35 []))), (1, .c (.view 3 p1.length (fun i => encTime (p1.getD i default)))), (4, .c (.ptr 4 0))], [(4, .box [.d (.int .u64 0), .d (.int .u64 0), .d (.int .u64 0)])]⟩) (c := True ∧ True) (by kernel_rfl) ⟨trivial, trivial⟩ ?_
  refine At.done rfl ?_
  show Tri _ _ _ _
  refine Tri.seqS ?_
  refine Tri.seqS ?_
  refine Tri.reg ?_
  refine At.seg 3 [0, 4, 8, 9, 10] [4] (s' := ⟨[(0, .c (.d (.fn 35 []))), (4, .c (.ptr 4 0)), (8, .c (.view 3 p1.length (fun i => encTime (p1.getD i default)))), (9, .c (.d (.int .i64 (p1.length : Int)))), (10, .c (.d (.int .i64 0)))], [(4, .box [.d (.int .u64 0), .d (.int .u64 0), .d (.int .u64 0)])]⟩) (c := True ∧ True ∧ True ∧ True) (by kernel_rfl) ⟨trivial, trivial, trivial, trivial⟩ ?_
  refine At.done rfl ?_
  show Tri _ _ _ _
  refine Tri.lenOfV (t := 8) rfl fun hlena2 => ?_
  refine Tri.keep [10, 0, 4, 8, 9] [4] (s' := idx 10 0 ⟨[(0, .c (.d (.fn 35 []))), (4, .c (.ptr 4 0)), (8, .c (.view 3 p1.length (fun i => encTime (p1.getD i default)))), (9, .c (.d (.int .i64 (p1.length : Int))))], [(4, .box [.d (.int .u64 ((⟨0, (0, 0)⟩ : Time).epoch)), .d (.int .u64 ((⟨0, (0, 0)⟩ : Time).loop.1)), .d (.int .u64 ((⟨0, (0, 0)⟩ : Time).loop.2))])]⟩) (by kernel_rfl) ?_
  refine Tri.range (n := p1.length) (st0 := (⟨0, (0, 0)⟩ : Time)) (fun (x : Empty) s => False) (fun (a2 : Time) => ⟨[(0, .c (.d (.fn 35 []))), (4, .c (.ptr 4 0)), (8, .c (.view 3 p1.length (fun i => encTime (p1.getD i default)))), (9, .c (.d (.int .i64 (p1.length : Int))))], [(4, .box [.d (.int .u64 a2.epoch), .d (.int .u64 a2.loop.1), .d (.int .u64 a2.loop.2)])]⟩) (fun (a2 : Time) => ⟨[(0, .c (.d (.fn 35 []))), (4, .c (.ptr 4 0)), (8, .c (.view 3 p1.length (fun i => encTime (p1.getD i default)))), (9, .c (.d (.int .i64 (p1.length : Int))))], [(4, .box [.d (.int .u64 a2.epoch), .d (.int .u64 a2.loop.1), .d (.int .u64 a2.loop.2)])]⟩) (fun i => decide ((i : Int) < (p1.length : Int))) [11, 10, 0, 4, 8, 9] [4] [0, 4, 8, 9] [4] [10, 0, 4, 8, 9] [4] h hlena2 rfl ?_ ?_ ?_ ?_ ?_ ?_ ?_ ?_
  · exact fun i a => ⟨True ∧ True, by kernel_rfl, ⟨trivial, trivial⟩⟩
  · exact fun i hi => decide_eq_true (by omega)
  · exact decide_eq_false (by omega)
  · exact fun a => by kernel_rfl
  · exact fun i a => ⟨True ∧ True ∧ True, by kernel_rfl, ⟨trivial, trivial, trivial⟩⟩
  · intro i1 a2 c hii1 h
    refine Tri.seqS ?_
    refine Tri.reg ?_
    refine At.seg 6 [0, 4, 5, 6, 8, 9, 10] [4, 6] (s' := ⟨[(0, .c (.d (.fn 35 []))), (4, .c (.ptr 4 0)), (5, .c (.d (.int .i64 ((i1 : Nat) : Int)))), (6, .c (.ptr 6 0)), (8, .c (.view 3 p1.length (fun i => encTime (p1.getD i default)))), (9, .c (.d (.int .i64 (p1.length : Int)))), (10, .c (.d (.int .i64 ((i1 : Nat) : Int))))], [(4, .box [.d (.int .u64 a2.epoch), .d (.int .u64 a2.loop.1), .d (.int .u64 a2.loop.2)]), (6, .box [.d (.int .u64 ((p1.getD i1 default).epoch)), .d (.int .u64 ((p1.getD i1 default).loop.1)), .d (.int .u64 ((p1.getD i1 default).loop.2))])]⟩) (c := True ∧ ((0 : Int) ≤ ((i1 : Nat) : Int) ∧ ((i1 : Nat) : Int) < (p1.length : Int)) ∧ True ∧ True ∧ True ∧ True ∧ True) (by kernel_rfl) ⟨trivial, ⟨by omega, by omega⟩, trivial, trivial, trivial, trivial, trivial⟩ ?_
    refine At.done rfl ?_
    show Tri _ _ _ _
    refine Tri.seqJ (fun (a4 : Time) => ⟨[(0, .c (.d (.fn 35 []))), (4, .c (.ptr 4 0)), (6, .c (.ptr 6 0)), (8, .c (.view 3 p1.length (fun i => encTime (p1.getD i default)))), (9, .c (.d (.int .i64 (p1.length : Int)))), (10, .c (.d (.int .i64 ((i1 : Nat) : Int))))], [(4, .box [.d (.int .u64 a4.epoch), .d (.int .u64 a4.loop.1), .d (.int .u64 a4.loop.2)]), (6, .box [.d (.int .u64 ((p1.getD i1 default).epoch)), .d (.int .u64 ((p1.getD i1 default).loop.1)), .d (.int .u64 ((p1.getD i1 default).loop.2))])]⟩) h (fun a4 h => ?_) (fun j5 h => ?_)
    · show Tri _ _ ⟨[(0, .c (.d (.fn 35 []))), (4, .c (.ptr 4 0)), (6, .c (.ptr 6 0)), (8, .c (.view 3 p1.length (fun i => encTime (p1.getD i default)))), (9, .c (.d (.int .i64 (p1.length : Int)))), (10, .c (.d (.int .i64 ((i1 : Nat) : Int))))], [(4, .box [.d (.int .u64 a4.epoch), .d (.int .u64 a4.loop.1), .d (.int .u64 a4.loop.2)]), (6, .box [.d (.int .u64 ((p1.getD i1 default).epoch)), .d (.int .u64 ((p1.getD i1 default).loop.1)), .d (.int .u64 ((p1.getD i1 default).loop.2))])]⟩ _
      refine Tri.seqS ?_
      refine Tri.reg ?_
      refine At.seg 5 [0, 4, 6, 8, 9, 10, 18, 20, 22] [4, 6] (s' := ⟨[(0, .c (.d (.fn 35 []))), (4, .c (.ptr 4 0)), (6, .c (.ptr 6 0)), (8, .c (.view 3 p1.length (fun i => encTime (p1.getD i default)))), (9, .c (.d (.int .i64 (p1.length : Int)))), (10, .c (.d (.int .i64 ((i1 : Nat) : Int)))), (18, .c (.d (.fn 35 []))), (20, .c (.d (.int .u64 a4.epoch))), (22, .c (.d (.int .u64 ((p1.getD i1 default).epoch))))], [(4, .box [.d (.int .u64 a4.epoch), .d (.int .u64 a4.loop.1), .d (.int .u64 a4.loop.2)]), (6, .box [.d (.int .u64 ((p1.getD i1 default).epoch)), .d (.int .u64 ((p1.getD i1 default).loop.1)), .d (.int .u64 ((p1.getD i1 default).loop.2))])]⟩) (c := True ∧ True ∧ True ∧ True ∧ True ∧ True) (by kernel_rfl) ⟨trivial, trivial, trivial, trivial, trivial, trivial⟩ ?_
      obtain ⟨r6, hr6, h⟩ := bind_elim h
      refine At.callA (caps := []) (xs := [.c (.d (.int .u64 a4.epoch)), .c (.d (.int .u64 ((p1.getD i1 default).epoch)))]) (moment_greatest_ok hr6) rfl rfl rfl rfl rfl rfl (.cons (.refl _) (.cons (.refl _) .nil)) rfl rfl ?_
      refine At.seg 2 [0, 4, 6, 8, 9, 10] [4, 6] (s' := ⟨[(0, .c (.d (.fn 35 []))), (4, .c (.ptr 4 0)), (6, .c (.ptr 6 0)), (8, .c (.view 3 p1.length (fun i => encTime (p1.getD i default)))), (9, .c (.d (.int .i64 (p1.length : Int)))), (10, .c (.d (.int .i64 ((i1 : Nat) : Int))))], [(4, .box [.d (.int .u64 r6), .d (.int .u64 a4.loop.1), .d (.int .u64 a4.loop.2)]), (6, .box [.d (.int .u64 ((p1.getD i1 default).epoch)), .d (.int .u64 ((p1.getD i1 default).loop.1)), .d (.int .u64 ((p1.getD i1 default).loop.2))])]⟩) (c := True ∧ True ∧ True) (by kernel_rfl) ⟨trivial, trivial, trivial⟩ ?_
      refine At.done rfl ?_
      show Tri _ _ _ _
      refine Tri.seqS ?_
      refine Tri.reg ?_
      refine At.seg 1 [0, 4, 6, 8, 9, 10, 25] [4, 6] (s' := ⟨[(0, .c (.d (.fn 35 []))), (4, .c (.ptr 4 0)), (6, .c (.ptr 6 0)), (8, .c (.view 3 p1.length (fun i => encTime (p1.getD i default)))), (9, .c (.d (.int .i64 (p1.length : Int)))), (10, .c (.d (.int .i64 ((i1 : Nat) : Int)))), (25, .c (.d (.int .i64 0)))], [(4, .box [.d (.int .u64 r6), .d (.int .u64 a4.loop.1), .d (.int .u64 a4.loop.2)]), (6, .box [.d (.int .u64 ((p1.getD i1 default).epoch)), .d (.int .u64 ((p1.getD i1 default).loop.1)), .d (.int .u64 ((p1.getD i1 default).loop.2))])]⟩) (c := True ∧ True) (by kernel_rfl) ⟨trivial, trivial⟩ ?_
      refine At.done rfl ?_
      show Tri _ _ _ _
      refine Tri.keep [25, 0, 4, 6, 8, 9, 10] [4, 6] (s' := idx 25 0 ⟨[(0, .c (.d (.fn 35 []))), (4, .c (.ptr 4 0)), (6, .c (.ptr 6 0)), (8, .c (.view 3 p1.length (fun i => encTime (p1.getD i default)))), (9, .c (.d (.int .i64 (p1.length : Int)))), (10, .c (.d (.int .i64 ((i1 : Nat) : Int))))], [(4, .box [.d (.int .u64 ((⟨r6, a4.loop⟩ : Time).epoch)), .d (.int .u64 ((⟨r6, a4.loop⟩ : Time).loop.1)), .d (.int .u64 ((⟨r6, a4.loop⟩ : Time).loop.2))]), (6, .box [.d (.int .u64 ((p1.getD i1 default).epoch)), .d (.int .u64 ((p1.getD i1 default).loop.1)), .d (.int .u64 ((p1.getD i1 default).loop.2))])]⟩) (by kernel_rfl) ?_
      refine Tri.range (n := 2) (st0 := (⟨r6, a4.loop⟩ : Time)) (fun (x : Empty) s => False) (fun (a8 : Time) => ⟨[(0, .c (.d (.fn 35 []))), (4, .c (.ptr 4 0)), (6, .c (.ptr 6 0)), (8, .c (.view 3 p1.length (fun i => encTime (p1.getD i default)))), (9, .c (.d (.int .i64 (p1.length : Int)))), (10, .c (.d (.int .i64 ((i1 : Nat) : Int))))], [(4, .box [.d (.int .u64 a8.epoch), .d (.int .u64 a8.loop.1), .d (.int .u64 a8.loop.2)]), (6, .box [.d (.int .u64 ((p1.getD i1 default).epoch)), .d (.int .u64 ((p1.getD i1 default).loop.1)), .d (.int .u64 ((p1.getD i1 default).loop.2))])]⟩) (fun (a8 : Time) => ⟨[(10, .c (.d (.int .i64 ((i1 : Nat) : Int)))), (0, .c (.d (.fn 35 []))), (4, .c (.ptr 4 0)), (8, .c (.view 3 p1.length (fun i => encTime (p1.getD i default)))), (9, .c (.d (.int .i64 (p1.length : Int))))], [(4, .box [.d (.int .u64 a8.epoch), .d (.int .u64 a8.loop.1), .d (.int .u64 a8.loop.2)])]⟩) (fun i => decide ((i : Int) < (2 : Int))) [26, 25, 0, 4, 6, 8, 9, 10] [4, 6] [10, 0, 4, 8, 9] [4] [25, 0, 4, 6, 8, 9, 10] [4, 6] h (by unfold maxN; omega) rfl ?_ ?_ ?_ ?_ ?_ ?_ ?_ ?_
      · exact fun i a => ⟨True ∧ True, by kernel_rfl, ⟨trivial, trivial⟩⟩
      · exact fun i hi => decide_eq_true (by omega)
      · exact decide_eq_false (by omega)
      · exact fun a => by kernel_rfl
      · exact fun i a => ⟨True ∧ True ∧ True, by kernel_rfl, ⟨trivial, trivial, trivial⟩⟩
      · intro i7 a8 c hii7 h
        rcases i7 with _ | i7
        · refine Tri.seqS ?_
          refine Tri.reg ?_
          refine At.seg 2 [0, 4, 6, 7, 8, 9, 10, 25] [4, 6] (s' := ⟨[(0, .c (.d (.fn 35 []))), (4, .c (.ptr 4 0)), (6, .c (.ptr 6 0)), (7, .c (.d (.int .i64 ((0 : Nat) : Int)))), (8, .c (.view 3 p1.length (fun i => encTime (p1.getD i default)))), (9, .c (.d (.int .i64 (p1.length : Int)))), (10, .c (.d (.int .i64 ((i1 : Nat) : Int)))), (25, .c (.d (.int .i64 ((0 : Nat) : Int))))], [(4, .box [.d (.int .u64 a8.epoch), .d (.int .u64 a8.loop.1), .d (.int .u64 a8.loop.2)]), (6, .box [.d (.int .u64 ((p1.getD i1 default).epoch)), .d (.int .u64 ((p1.getD i1 default).loop.1)), .d (.int .u64 ((p1.getD i1 default).loop.2))])]⟩) (c := True ∧ True ∧ True) (by kernel_rfl) ⟨trivial, trivial, trivial⟩ ?_
          refine At.done rfl ?_
          show Tri _ _ _ _
          obtain ⟨r10, hr10, h⟩ := bind_elim h
          refine Tri.drawn (specs := [⟨⟨[(7, .c (.d (.int .i64 ((0 : Nat) : Int))))], []⟩, ⟨[(28, .c (.d (.int .i64 ((0 : Nat) : Int))))], []⟩, [], []⟩, ⟨⟨[(0, .c (.d (.fn 35 [])))], []⟩, ⟨[(29, .c (.d (.fn 35 [])))], []⟩, [], []⟩, ⟨⟨[(7, .c (.d (.int .i64 ((0 : Nat) : Int))))], []⟩, ⟨[(30, .c (.d (.int .i64 ((0 : Nat) : Int))))], []⟩, [], []⟩, ⟨⟨[(4, .c (.ptr 4 0))], []⟩, ⟨[(31, .c (.ptr 4 1))], []⟩, [], []⟩, ⟨⟨[(30, .c (.d (.int .i64 ((0 : Nat) : Int)))), (31, .c (.ptr 4 1))], [(4, .box [.d (.int .u64 a8.epoch), .d (.int .u64 a8.loop.1), .d (.int .u64 a8.loop.2)])]⟩, ⟨[(32, .c (.ptr 4 1))], []⟩, [], []⟩, ⟨⟨[(32, .c (.ptr 4 1))], [(4, .box [.d (.int .u64 a8.epoch), .d (.int .u64 a8.loop.1), .d (.int .u64 a8.loop.2)])]⟩, ⟨[(33, .c (.d (.int .u64 a8.loop.1)))], []⟩, [], []⟩, ⟨⟨[(7, .c (.d (.int .i64 ((0 : Nat) : Int))))], []⟩, ⟨[(34, .c (.d (.int .i64 ((0 : Nat) : Int))))], []⟩, [], []⟩, ⟨⟨[(6, .c (.ptr 6 0))], []⟩, ⟨[(35, .c (.ptr 6 1))], []⟩, [], []⟩, ⟨⟨[(34, .c (.d (.int .i64 ((0 : Nat) : Int)))), (35, .c (.ptr 6 1))], [(6, .box [.d (.int .u64 ((p1.getD i1 default).epoch)), .d (.int .u64 ((p1.getD i1 default).loop.1)), .d (.int .u64 ((p1.getD i1 default).loop.2))])]⟩, ⟨[(36, .c (.ptr 6 1))], []⟩, [], []⟩, ⟨⟨[(36, .c (.ptr 6 1))], [(6, .box [.d (.int .u64 ((p1.getD i1 default).epoch)), .d (.int .u64 ((p1.getD i1 default).loop.1)), .d (.int .u64 ((p1.getD i1 default).loop.2))])]⟩, ⟨[(37, .c (.d (.int .u64 ((p1.getD i1 default).loop.1))))], []⟩, [], []⟩, ⟨⟨[(29, .c (.d (.fn 35 []))), (33, .c (.d (.int .u64 a8.loop.1))), (37, .c (.d (.int .u64 ((p1.getD i1 default).loop.1))))], []⟩, ⟨[(38, .c (.d (.int .u64 r10)))], []⟩, [], []⟩, ⟨⟨[(4, .c (.ptr 4 0))], []⟩, ⟨[(39, .c (.ptr 4 1))], []⟩, [], []⟩, ⟨⟨[(28, .c (.d (.int .i64 ((0 : Nat) : Int)))), (39, .c (.ptr 4 1))], [(4, .box [.d (.int .u64 a8.epoch), .d (.int .u64 a8.loop.1), .d (.int .u64 a8.loop.2)])]⟩, ⟨[(40, .c (.ptr 4 1))], []⟩, [], []⟩, ⟨⟨[(38, .c (.d (.int .u64 r10))), (40, .c (.ptr 4 1))], [(4, .box [.d (.int .u64 a8.epoch), .d (.int .u64 a8.loop.1), .d (.int .u64 a8.loop.2)])]⟩, ⟨[], [(4, .box [.d (.int .u64 a8.epoch), .d (.int .u64 r10), .d (.int .u64 a8.loop.2)])]⟩, [], []⟩]) (bef := [[], [], [], [], [2, 3], [2, 3, 4], [], [], [6, 7], [6, 7, 8], [1, 2, 3, 4, 5, 6, 7, 8, 9], [], [0, 1, 2, 3, 4, 5, 6, 7, 8, 9, 10, 11], [0, 1, 2, 3, 4, 5, 6, 7, 8, 9, 10, 11, 12]]) (tk := [25, 0, 4, 6, 8, 9, 10]) (sk := [4, 6]) (s' := ⟨[(25, .c (.d (.int .i64 ((0 : Nat) : Int)))), (0, .c (.d (.fn 35 []))), (4, .c (.ptr 4 0)), (6, .c (.ptr 6 0)), (8, .c (.view 3 p1.length (fun i => encTime (p1.getD i default)))), (9, .c (.d (.int .i64 (p1.length : Int)))), (10, .c (.d (.int .i64 ((i1 : Nat) : Int))))], [(4, .box [.d (.int .u64 a8.epoch), .d (.int .u64 r10), .d (.int .u64 a8.loop.2)]), (6, .box [.d (.int .u64 ((p1.getD i1 default).epoch)), .d (.int .u64 ((p1.getD i1 default).loop.1)), .d (.int .u64 ((p1.getD i1 default).loop.2))])]⟩) (by kernel_rfl) (by kernel_rfl) (by kernel_rfl) ⟨?_, ?_, ?_, ?_, ?_, ?_, ?_, ?_, ?_, ?_, ?_, ?_, ?_, ?_, trivial⟩ (by kernel_rfl) ?_
          · exact DOk.step (.val (.c (.d (.int .i64 ((0 : Nat) : Int)))) (True)) (fun r => by kernel_rfl) (fun r => by kernel_rfl) trivial (by kernel_rfl) (by kernel_rfl) (fun r => rfl)
          · exact DOk.step (.val (.c (.d (.fn 35 []))) (True)) (fun r => by kernel_rfl) (fun r => by kernel_rfl) trivial (by kernel_rfl) (by kernel_rfl) (fun r => rfl)
          · exact DOk.step (.val (.c (.d (.int .i64 ((0 : Nat) : Int)))) (True)) (fun r => by kernel_rfl) (fun r => by kernel_rfl) trivial (by kernel_rfl) (by kernel_rfl) (fun r => rfl)
          · exact DOk.step (.val (.c (.ptr 4 1)) (True)) (fun r => by kernel_rfl) (fun r => by kernel_rfl) trivial (by kernel_rfl) (by kernel_rfl) (fun r => rfl)
          · exact DOk.step (.val (.c (.ptr 4 1)) (True)) (fun r => by kernel_rfl) (fun r => by kernel_rfl) trivial (by kernel_rfl) (by kernel_rfl) (fun r => rfl)
          · exact DOk.step (.val (.c (.d (.int .u64 a8.loop.1))) (True)) (fun r => by kernel_rfl) (fun r => by kernel_rfl) trivial (by kernel_rfl) (by kernel_rfl) (fun r => rfl)
          · exact DOk.step (.val (.c (.d (.int .i64 ((0 : Nat) : Int)))) (True)) (fun r => by kernel_rfl) (fun r => by kernel_rfl) trivial (by kernel_rfl) (by kernel_rfl) (fun r => rfl)
          · exact DOk.step (.val (.c (.ptr 6 1)) (True)) (fun r => by kernel_rfl) (fun r => by kernel_rfl) trivial (by kernel_rfl) (by kernel_rfl) (fun r => rfl)
          · exact DOk.step (.val (.c (.ptr 6 1)) (True)) (fun r => by kernel_rfl) (fun r => by kernel_rfl) trivial (by kernel_rfl) (by kernel_rfl) (fun r => rfl)
          · exact DOk.step (.val (.c (.d (.int .u64 ((p1.getD i1 default).loop.1)))) (True)) (fun r => by kernel_rfl) (fun r => by kernel_rfl) trivial (by kernel_rfl) (by kernel_rfl) (fun r => rfl)
          · exact DOk.callA (caps := []) (xs := [.c (.d (.int .u64 a8.loop.1)), .c (.d (.int .u64 ((p1.getD i1 default).loop.1)))]) (moment_greatest_ok hr10) rfl (fun r => by kernel_rfl) rfl (fun r => by kernel_rfl) (fun r => by kernel_rfl) (fun r => (.cons (.refl _) (.cons (.refl _) .nil))) rfl rfl (fun r => rfl)
          · exact DOk.step (.val (.c (.ptr 4 1)) (True)) (fun r => by kernel_rfl) (fun r => by kernel_rfl) trivial (by kernel_rfl) (by kernel_rfl) (fun r => rfl)
          · exact DOk.step (.val (.c (.ptr 4 1)) (True)) (fun r => by kernel_rfl) (fun r => by kernel_rfl) trivial (by kernel_rfl) (by kernel_rfl) (fun r => rfl)
          · exact DOk.step (.turn 4 (.box [.d (.int .u64 a8.epoch), .d (.int .u64 r10), .d (.int .u64 a8.loop.2)])) (fun r => by kernel_rfl) (fun r => by kernel_rfl) trivial (by kernel_rfl) (by kernel_rfl) (fun r => rfl)
          cases h
          exact rfl
        rcases i7 with _ | i7
        · refine Tri.seqS ?_
          refine Tri.reg ?_
          refine At.seg 2 [0, 4, 6, 7, 8, 9, 10, 25] [4, 6] (s' := ⟨[(0, .c (.d (.fn 35 []))), (4, .c (.ptr 4 0)), (6, .c (.ptr 6 0)), (7, .c (.d (.int .i64 ((1 : Nat) : Int)))), (8, .c (.view 3 p1.length (fun i => encTime (p1.getD i default)))), (9, .c (.d (.int .i64 (p1.length : Int)))), (10, .c (.d (.int .i64 ((i1 : Nat) : Int)))), (25, .c (.d (.int .i64 ((1 : Nat) : Int))))], [(4, .box [.d (.int .u64 a8.epoch), .d (.int .u64 a8.loop.1), .d (.int .u64 a8.loop.2)]), (6, .box [.d (.int .u64 ((p1.getD i1 default).epoch)), .d (.int .u64 ((p1.getD i1 default).loop.1)), .d (.int .u64 ((p1.getD i1 default).loop.2))])]⟩) (c := True ∧ True ∧ True) (by kernel_rfl) ⟨trivial, trivial, trivial⟩ ?_
          refine At.done rfl ?_
          show Tri _ _ _ _
          obtain ⟨r11, hr11, h⟩ := bind_elim h
          refine Tri.drawn (specs := [⟨⟨[(7, .c (.d (.int .i64 ((1 : Nat) : Int))))], []⟩, ⟨[(28, .c (.d (.int .i64 ((1 : Nat) : Int))))], []⟩, [], []⟩, ⟨⟨[(0, .c (.d (.fn 35 [])))], []⟩, ⟨[(29, .c (.d (.fn 35 [])))], []⟩, [], []⟩, ⟨⟨[(7, .c (.d (.int .i64 ((1 : Nat) : Int))))], []⟩, ⟨[(30, .c (.d (.int .i64 ((1 : Nat) : Int))))], []⟩, [], []⟩, ⟨⟨[(4, .c (.ptr 4 0))], []⟩, ⟨[(31, .c (.ptr 4 1))], []⟩, [], []⟩, ⟨⟨[(30, .c (.d (.int .i64 ((1 : Nat) : Int)))), (31, .c (.ptr 4 1))], [(4, .box [.d (.int .u64 a8.epoch), .d (.int .u64 a8.loop.1), .d (.int .u64 a8.loop.2)])]⟩, ⟨[(32, .c (.ptr 4 2))], []⟩, [], []⟩, ⟨⟨[(32, .c (.ptr 4 2))], [(4, .box [.d (.int .u64 a8.epoch), .d (.int .u64 a8.loop.1), .d (.int .u64 a8.loop.2)])]⟩, ⟨[(33, .c (.d (.int .u64 a8.loop.2)))], []⟩, [], []⟩, ⟨⟨[(7, .c (.d (.int .i64 ((1 : Nat) : Int))))], []⟩, ⟨[(34, .c (.d (.int .i64 ((1 : Nat) : Int))))], []⟩, [], []⟩, ⟨⟨[(6, .c (.ptr 6 0))], []⟩, ⟨[(35, .c (.ptr 6 1))], []⟩, [], []⟩, ⟨⟨[(34, .c (.d (.int .i64 ((1 : Nat) : Int)))), (35, .c (.ptr 6 1))], [(6, .box [.d (.int .u64 ((p1.getD i1 default).epoch)), .d (.int .u64 ((p1.getD i1 default).loop.1)), .d (.int .u64 ((p1.getD i1 default).loop.2))])]⟩, ⟨[(36, .c (.ptr 6 2))], []⟩, [], []⟩, ⟨⟨[(36, .c (.ptr 6 2))], [(6, .box [.d (.int .u64 ((p1.getD i1 default).epoch)), .d (.int .u64 ((p1.getD i1 default).loop.1)), .d (.int .u64 ((p1.getD i1 default).loop.2))])]⟩, ⟨[(37, .c (.d (.int .u64 ((p1.getD i1 default).loop.2))))], []⟩, [], []⟩, ⟨⟨[(29, .c (.d (.fn 35 []))), (33, .c (.d (.int .u64 a8.loop.2))), (37, .c (.d (.int .u64 ((p1.getD i1 default).loop.2))))], []⟩, ⟨[(38, .c (.d (.int .u64 r11)))], []⟩, [], []⟩, ⟨⟨[(4, .c (.ptr 4 0))], []⟩, ⟨[(39, .c (.ptr 4 1))], []⟩, [], []⟩, ⟨⟨[(28, .c (.d (.int .i64 ((1 : Nat) : Int)))), (39, .c (.ptr 4 1))], [(4, .box [.d (.int .u64 a8.epoch), .d (.int .u64 a8.loop.1), .d (.int .u64 a8.loop.2)])]⟩, ⟨[(40, .c (.ptr 4 2))], []⟩, [], []⟩, ⟨⟨[(38, .c (.d (.int .u64 r11))), (40, .c (.ptr 4 2))], [(4, .box [.d (.int .u64 a8.epoch), .d (.int .u64 a8.loop.1), .d (.int .u64 a8.loop.2)])]⟩, ⟨[], [(4, .box [.d (.int .u64 a8.epoch), .d (.int .u64 a8.loop.1), .d (.int .u64 r11)])]⟩, [], []⟩]) (bef := [[], [], [], [], [2, 3], [2, 3, 4], [], [], [6, 7], [6, 7, 8], [1, 2, 3, 4, 5, 6, 7, 8, 9], [], [0, 1, 2, 3, 4, 5, 6, 7, 8, 9, 10, 11], [0, 1, 2, 3, 4, 5, 6, 7, 8, 9, 10, 11, 12]]) (tk := [25, 0, 4, 6, 8, 9, 10]) (sk := [4, 6]) (s' := ⟨[(25, .c (.d (.int .i64 ((1 : Nat) : Int)))), (0, .c (.d (.fn 35 []))), (4, .c (.ptr 4 0)), (6, .c (.ptr 6 0)), (8, .c (.view 3 p1.length (fun i => encTime (p1.getD i default)))), (9, .c (.d (.int .i64 (p1.length : Int)))), (10, .c (.d (.int .i64 ((i1 : Nat) : Int))))], [(4, .box [.d (.int .u64 a8.epoch), .d (.int .u64 a8.loop.1), .d (.int .u64 r11)]), (6, .box [.d (.int .u64 ((p1.getD i1 default).epoch)), .d (.int .u64 ((p1.getD i1 default).loop.1)), .d (.int .u64 ((p1.getD i1 default).loop.2))])]⟩) (by kernel_rfl) (by kernel_rfl) (by kernel_rfl) ⟨?_, ?_, ?_, ?_, ?_, ?_, ?_, ?_, ?_, ?_, ?_, ?_, ?_, ?_, trivial⟩ (by kernel_rfl) ?_
          · exact DOk.step (.val (.c (.d (.int .i64 ((1 : Nat) : Int)))) (True)) (fun r => by kernel_rfl) (fun r => by kernel_rfl) trivial (by kernel_rfl) (by kernel_rfl) (fun r => rfl)
          · exact DOk.step (.val (.c (.d (.fn 35 []))) (True)) (fun r => by kernel_rfl) (fun r => by kernel_rfl) trivial (by kernel_rfl) (by kernel_rfl) (fun r => rfl)
          · exact DOk.step (.val (.c (.d (.int .i64 ((1 : Nat) : Int)))) (True)) (fun r => by kernel_rfl) (fun r => by kernel_rfl) trivial (by kernel_rfl) (by kernel_rfl) (fun r => rfl)
          · exact DOk.step (.val (.c (.ptr 4 1)) (True)) (fun r => by kernel_rfl) (fun r => by kernel_rfl) trivial (by kernel_rfl) (by kernel_rfl) (fun r => rfl)
          · exact DOk.step (.val (.c (.ptr 4 2)) (True)) (fun r => by kernel_rfl) (fun r => by kernel_rfl) trivial (by kernel_rfl) (by kernel_rfl) (fun r => rfl)
          · exact DOk.step (.val (.c (.d (.int .u64 a8.loop.2))) (True)) (fun r => by kernel_rfl) (fun r => by kernel_rfl) trivial (by kernel_rfl) (by kernel_rfl) (fun r => rfl)
          · exact DOk.step (.val (.c (.d (.int .i64 ((1 : Nat) : Int)))) (True)) (fun r => by kernel_rfl) (fun r => by kernel_rfl) trivial (by kernel_rfl) (by kernel_rfl) (fun r => rfl)
          · exact DOk.step (.val (.c (.ptr 6 1)) (True)) (fun r => by kernel_rfl) (fun r => by kernel_rfl) trivial (by kernel_rfl) (by kernel_rfl) (fun r => rfl)
          · exact DOk.step (.val (.c (.ptr 6 2)) (True)) (fun r => by kernel_rfl) (fun r => by kernel_rfl) trivial (by kernel_rfl) (by kernel_rfl) (fun r => rfl)
          · exact DOk.step (.val (.c (.d (.int .u64 ((p1.getD i1 default).loop.2)))) (True)) (fun r => by kernel_rfl) (fun r => by kernel_rfl) trivial (by kernel_rfl) (by kernel_rfl) (fun r => rfl)
          · exact DOk.callA (caps := []) (xs := [.c (.d (.int .u64 a8.loop.2)), .c (.d (.int .u64 ((p1.getD i1 default).loop.2)))]) (moment_greatest_ok hr11) rfl (fun r => by kernel_rfl) rfl (fun r => by kernel_rfl) (fun r => by kernel_rfl) (fun r => (.cons (.refl _) (.cons (.refl _) .nil))) rfl rfl (fun r => rfl)
          · exact DOk.step (.val (.c (.ptr 4 1)) (True)) (fun r => by kernel_rfl) (fun r => by kernel_rfl) trivial (by kernel_rfl) (by kernel_rfl) (fun r => rfl)
          · exact DOk.step (.val (.c (.ptr 4 2)) (True)) (fun r => by kernel_rfl) (fun r => by kernel_rfl) trivial (by kernel_rfl) (by kernel_rfl) (fun r => rfl)
          · exact DOk.step (.turn 4 (.box [.d (.int .u64 a8.epoch), .d (.int .u64 a8.loop.1), .d (.int .u64 r11)])) (fun r => by kernel_rfl) (fun r => by kernel_rfl) trivial (by kernel_rfl) (by kernel_rfl) (fun r => rfl)
          cases h
          exact rfl
        exact absurd hii7 (by omega)
      · intro a9 h
        cases h
        exact rfl
      · exact fun x => x.elim
    · refine Tri.seqS ?_
      refine Tri.reg ?_
      refine At.seg 2 [0, 4, 6, 8, 9, 10, 16] [4, 6] (s' := ⟨[(0, .c (.d (.fn 35 []))), (4, .c (.ptr 4 0)), (6, .c (.ptr 6 0)), (8, .c (.view 3 p1.length (fun i => encTime (p1.getD i default)))), (9, .c (.d (.int .i64 (p1.length : Int)))), (10, .c (.d (.int .i64 ((i1 : Nat) : Int)))), (16, .c (.d (.bool (decide (((i1 : Nat) : Int) = 0)))))], [(4, .box [.d (.int .u64 a2.epoch), .d (.int .u64 a2.loop.1), .d (.int .u64 a2.loop.2)]), (6, .box [.d (.int .u64 ((p1.getD i1 default).epoch)), .d (.int .u64 ((p1.getD i1 default).loop.1)), .d (.int .u64 ((p1.getD i1 default).loop.2))])]⟩) (c := True ∧ True ∧ True) (by kernel_rfl) ⟨trivial, trivial, trivial⟩ ?_
      refine At.done rfl ?_
      show Tri _ _ _ _
      refine Tri.condP (b := (decide (((i1 : Nat) : Int) = 0))) rfl h (fun h => ?_) (fun h => ?_)
      · refine Tri.reg ?_
        refine At.seg 2 [0, 4, 6, 8, 9, 10] [4, 6] (s' := ⟨[(0, .c (.d (.fn 35 []))), (4, .c (.ptr 4 0)), (6, .c (.ptr 6 0)), (8, .c (.view 3 p1.length (fun i => encTime (p1.getD i default)))), (9, .c (.d (.int .i64 (p1.length : Int)))), (10, .c (.d (.int .i64 ((i1 : Nat) : Int))))], [(4, .box [.d (.int .u64 ((p1.getD i1 default).epoch)), .d (.int .u64 ((p1.getD i1 default).loop.1)), .d (.int .u64 ((p1.getD i1 default).loop.2))]), (6, .box [.d (.int .u64 ((p1.getD i1 default).epoch)), .d (.int .u64 ((p1.getD i1 default).loop.1)), .d (.int .u64 ((p1.getD i1 default).loop.2))])]⟩) (c := True ∧ True ∧ True) (by kernel_rfl) ⟨trivial, trivial, trivial⟩ ?_
        refine At.done rfl ?_
        exact ⟨_, h, rfl⟩
      · refine Tri.keep [0, 4, 6, 8, 9, 10] [4, 6] (s' := ⟨[(0, .c (.d (.fn 35 []))), (4, .c (.ptr 4 0)), (6, .c (.ptr 6 0)), (8, .c (.view 3 p1.length (fun i => encTime (p1.getD i default)))), (9, .c (.d (.int .i64 (p1.length : Int)))), (10, .c (.d (.int .i64 ((i1 : Nat) : Int))))], [(4, .box [.d (.int .u64 a2.epoch), .d (.int .u64 a2.loop.1), .d (.int .u64 a2.loop.2)]), (6, .box [.d (.int .u64 ((p1.getD i1 default).epoch)), .d (.int .u64 ((p1.getD i1 default).loop.1)), .d (.int .u64 ((p1.getD i1 default).loop.2))])]⟩) (by kernel_rfl) ?_
        refine Tri.skip ?_
        exact ⟨_, h, rfl⟩
  · intro a3 h
    show Tri _ _ _ _
    refine Tri.seqS ?_
    refine Tri.reg ?_
    refine At.seg 2 [4] [4] (s' := ⟨[(4, .c (.ptr 4 0))], [(4, .box [.d (.int .u64 a3.epoch), .d (.int .u64 a3.loop.1), .d (.int .u64 a3.loop.2)])]⟩) (c := True ∧ True ∧ True) (by kernel_rfl) ⟨trivial, trivial, trivial⟩ ?_
    refine At.done rfl ?_
    show Tri _ _ _ _
    refine Tri.keep [4] [4] (s' := ⟨[(4, .c (.ptr 4 0))], [(4, .box [.d (.int .u64 a3.epoch), .d (.int .u64 a3.loop.1), .d (.int .u64 a3.loop.2)])]⟩) (by kernel_rfl) ?_
    refine Tri.ret ?_
    cases h
    refine ⟨_, _, rfl, ⟨trivial, trivial⟩, rfl, rfl, ?_⟩
    intro k c h
    cases h
  · exact fun x => x.elim

set_option maxRecDepth 100000 in
theorem moment_Lub_ok_v0 {p0 : List Time} {q : Time} (h : moment_Lub p0 = some q) :
    Summ Try.prog 14 [.c (.view 3 p0.length (fun i => encTime (p0.getD i default)))] [] (.agg [.d (.int .u64 q.epoch), .d (.int .u64 q.loop.1), .d (.int .u64 q.loop.2)]) [] := by
  refine Summ.intro Try.func14 rfl (by kernel_rfl) (by kernel_rfl) ?_
  rintro ⟨P, w0, G0, V, LL, lk, N⟩ rfl rfl rfl
  unfold moment_Lub at h
  refine Tri.seqS ?_
  refine Tri.reg ?_
  refine At.seg 1 [0, 2] [2] (s' := ⟨[(0, .c (.view 3 p0.length (fun i => encTime (p0.getD i default)))), (2, .c (.ptr 2 0))], [(2, .box [.d (.int .u64 0), .d (.int .u64 0), .d (.int .u64 0)])]⟩) (c := True ∧ True) (by kernel_rfl) ⟨trivial, trivial⟩ ?_
  refine At.done rfl ?_
  show Tri _ _ _ _
  refine Tri.seqS ?_
  refine Tri.reg ?_
  refine At.seg 1 [2, 3] [2] (s' := ⟨[(2, .c (.ptr 2 0)), (3, .c (.view 3 p0.length (fun i => encTime (p0.getD i default))))], [(2, .box [.d (.int .u64 0), .d (.int .u64 0), .d (.int .u64 0)])]⟩) (c := True ∧ True) (by kernel_rfl) ⟨trivial, trivial⟩ ?_
  obtain ⟨r1, hr1, h⟩ := bind_elim h
  refine At.callA (caps := []) (xs := [.c (.d (.fn 35 [])), .c (.view 3 p0.length (fun i => encTime (p0.getD i default)))]) (moment_fold__greatest_ok_v1 hr1) rfl rfl rfl rfl rfl rfl (.cons (.refl _) (.cons (.refl _) .nil)) rfl rfl ?_
  refine At.seg 1 [2] [2] (s' := ⟨[(2, .c (.ptr 2 0))], [(2, .box [.d (.int .u64 r1.epoch), .d (.int .u64 r1.loop.1), .d (.int .u64 r1.loop.2)])]⟩) (c := True ∧ True) (by kernel_rfl) ⟨trivial, trivial⟩ ?_
  refine At.done rfl ?_
  show Tri _ _ _ _
  refine Tri.keep [2] [2] (s' := ⟨[(2, .c (.ptr 2 0))], [(2, .box [.d (.int .u64 r1.epoch), .d (.int .u64 r1.loop.1), .d (.int .u64 r1.loop.2)])]⟩) (by kernel_rfl) ?_
  refine Tri.ret ?_
  cases h
  refine ⟨_, _, rfl, ⟨trivial, trivial⟩, rfl, rfl, ?_⟩
  intro k c h
  cases h

set_option maxRecDepth 100000 in
theorem moment_Ahead_ok {p0 : Time} {p1 : Time} {q : Bool} (h : moment_Ahead p0 p1 = some q) :
    Summ Try.prog 19 [.agg [.d (.int .u64 p0.epoch), .d (.int .u64 p0.loop.1), .d (.int .u64 p0.loop.2)], .agg [.d (.int .u64 p1.epoch), .d (.int .u64 p1.loop.1), .d (.int .u64 p1.loop.2)]] [] (.c (.d (.bool q))) [] := by
  refine Summ.intro Try.func19 rfl (by kernel_rfl) (by kernel_rfl) ?_
  rintro ⟨P, w0, G0, V, LL, lk, N⟩ rfl rfl rfl
  unfold moment_Ahead at h
  refine Tri.seqS ?_
  refine Tri.reg ?_
  refine At.seg 3 [2, 3] [2, 3] (s' := ⟨[(2, .c (.ptr 2 0)), (3, .c (.ptr 3 0))], [(2, .box [.d (.int .u64 p0.epoch), .d (.int .u64 p0.loop.1), .d (.int .u64 p0.loop.2)]), (3, .box [.d (.int .u64 p1.epoch), .d (.int .u64 p1.loop.1), .d (.int .u64 p1.loop.2)])]⟩) (c := True ∧ True ∧ True ∧ True) (by kernel_rfl) ⟨trivial, trivial, trivial, trivial⟩ ?_
  refine At.done rfl ?_
  show Tri _ _ _ _
  refine Tri.seqS ?_
  obtain ⟨r1, hr1, h⟩ := bind_elim h
  refine Tri.drawn (specs := [⟨⟨[(2, .c (.ptr 2 0))], [(2, .box [.d (.int .u64 p0.epoch), .d (.int .u64 p0.loop.1), .d (.int .u64 p0.loop.2)])]⟩, ⟨[(5, .agg [.d (.int .u64 p0.epoch), .d (.int .u64 p0.loop.1), .d (.int .u64 p0.loop.2)])], []⟩, [], []⟩, ⟨⟨[(3, .c (.ptr 3 0))], [(3, .box [.d (.int .u64 p1.epoch), .d (.int .u64 p1.loop.1), .d (.int .u64 p1.loop.2)])]⟩, ⟨[(6, .agg [.d (.int .u64 p1.epoch), .d (.int .u64 p1.loop.1), .d (.int .u64 p1.loop.2)])], []⟩, [], []⟩, ⟨⟨[(5, .agg [.d (.int .u64 p0.epoch), .d (.int .u64 p0.loop.1), .d (.int .u64 p0.loop.2)]), (6, .agg [.d (.int .u64 p1.epoch), .d (.int .u64 p1.loop.1), .d (.int .u64 p1.loop.2)])], []⟩, ⟨[(7, .c (.own 7 3 0 (([p0, p1] : List Time).length)))], [(7, .vec 3 ([p0, p1] : List Time).length (fun i => encTime (([p0, p1] : List Time).getD i default)))]⟩, [7], []⟩, ⟨⟨[(7, .c (.own 7 3 0 (([p0, p1] : List Time).length)))], [(7, .vec 3 ([p0, p1] : List Time).length (fun i => encTime (([p0, p1] : List Time).getD i default)))]⟩, ⟨[(8, .agg [.d (.int .u64 r1.epoch), .d (.int .u64 r1.loop.1), .d (.int .u64 r1.loop.2)])], []⟩, [], []⟩, ⟨⟨[(3, .c (.ptr 3 0))], [(3, .box [.d (.int .u64 p1.epoch), .d (.int .u64 p1.loop.1), .d (.int .u64 p1.loop.2)])]⟩, ⟨[(9, .agg [.d (.int .u64 p1.epoch), .d (.int .u64 p1.loop.1), .d (.int .u64 p1.loop.2)])], []⟩, [], []⟩, ⟨⟨[(8, .agg [.d (.int .u64 r1.epoch), .d (.int .u64 r1.loop.1), .d (.int .u64 r1.loop.2)]), (9, .agg [.d (.int .u64 p1.epoch), .d (.int .u64 p1.loop.1), .d (.int .u64 p1.loop.2)])], []⟩, ⟨[(10, .c (.d (.bool (eqTime r1 p1))))], []⟩, [], []⟩, ⟨⟨[(10, .c (.d (.bool (eqTime r1 p1))))], []⟩, ⟨[(4, .c (.d (.bool (eqTime r1 p1))))], []⟩, [], []⟩]) (bef := [[], [], [0, 1], [0, 1, 2], [], [0, 1, 2, 3, 4], [0, 1, 2, 3, 4, 5]]) (tk := [4]) (sk := []) (s' := ⟨[(4, .c (.d (.bool (eqTime r1 p1))))], []⟩) (by kernel_rfl) (by kernel_rfl) (by kernel_rfl) ⟨?_, ?_, ?_, ?_, ?_, ?_, ?_, trivial⟩ (by kernel_rfl) ?_
  · exact DOk.step (.val (.agg [.d (.int .u64 p0.epoch), .d (.int .u64 p0.loop.1), .d (.int .u64 p0.loop.2)]) (True)) (fun r => by kernel_rfl) (fun r => by kernel_rfl) trivial (by kernel_rfl) (by kernel_rfl) (fun r => rfl)
  · exact DOk.step (.val (.agg [.d (.int .u64 p1.epoch), .d (.int .u64 p1.loop.1), .d (.int .u64 p1.loop.2)]) (True)) (fun r => by kernel_rfl) (fun r => by kernel_rfl) trivial (by kernel_rfl) (by kernel_rfl) (fun r => rfl)
  · exact DOk.one fun r hr => One.buildT (e := 27) (es := 3) (z := [.d (.int .u64 0), .d (.int .u64 0), .d (.int .u64 0)]) (cells := [.d (.int .u64 p0.epoch), .d (.int .u64 p0.loop.1), .d (.int .u64 p0.loop.2), .d (.int .u64 p1.epoch), .d (.int .u64 p1.loop.1), .d (.int .u64 p1.loop.2)]) (encTime) ([p0, p1] : List Time) rfl (by kernel_rfl) rfl rfl (St.noRef_app (by kernel_rfl) (hr 7 (by simp))) (by kernel_rfl) rfl (by kernel_rfl) rfl rfl rfl (by kernel_rfl) rfl ⟨⟨rfl, .refl _⟩, ⟨rfl, .refl _⟩, trivial⟩
  · exact DOk.callA (caps := []) (xs := [.c (.own 7 3 0 (([p0, p1] : List Time).length))]) (moment_Lub_ok_v0 hr1) rfl (fun r => by kernel_rfl) rfl (fun r => by kernel_rfl) (fun r => by kernel_rfl) (fun r => (.cons (AVArg.view (encTime) ([p0, p1] : List Time) rfl) .nil)) rfl rfl (fun r => rfl)
  · exact DOk.step (.val (.agg [.d (.int .u64 p1.epoch), .d (.int .u64 p1.loop.1), .d (.int .u64 p1.loop.2)]) (True)) (fun r => by kernel_rfl) (fun r => by kernel_rfl) trivial (by kernel_rfl) (by kernel_rfl) (fun r => rfl)
  · exact DOk.one fun r _ => One.eql (b := (eqTime r1 p1)) (d := 9) rfl (by kernel_rfl) rfl (.inl rfl) rfl rfl (by kernel_rfl) rfl (by kernel_rfl)
  · exact DOk.step (.val (.c (.d (.bool (eqTime r1 p1)))) (True)) (fun r => by kernel_rfl) (fun r => by kernel_rfl) trivial (by kernel_rfl) (by kernel_rfl) (fun r => rfl)
  show Tri _ _ _ _
  refine Tri.keep [4] [] (s' := ⟨[(4, .c (.d (.bool (eqTime r1 p1))))], []⟩) (by kernel_rfl) ?_
  refine Tri.ret ?_
  cases h
  refine ⟨_, _, rfl, ⟨trivial, trivial⟩, rfl, rfl, ?_⟩
  intro k c h
  cases h

set_option maxRecDepth 100000 in
theorem cmp_isNaN_uint64_ok {p0 : Int} {q : Bool} (h : cmp_isNaN_uint64 p0 = some q) :
    Summ Try.prog 45 [.c (.d (.int .u64 p0))] [] (.c (.d (.bool q))) [] := by
  refine Summ.intro Try.func45 rfl (by kernel_rfl) (by kernel_rfl) ?_
  rintro ⟨P, w0, G0, V, LL, lk, N⟩ rfl rfl rfl
  unfold cmp_isNaN_uint64 at h
  refine Tri.seqS ?_
  refine Tri.reg ?_
  refine At.seg 1 [0] [] (s' := ⟨[(0, .c (.d (.int .u64 p0)))], []⟩) (c := True ∧ True) (by kernel_rfl) ⟨trivial, trivial⟩ ?_
  refine At.done rfl ?_
  show Tri _ _ _ _
  refine Tri.seqS ?_
  refine Tri.reg ?_
  refine At.seg 4 [2] [] (s' := ⟨[(2, .c (.d (.bool (!decide (p0 = p0)))))], []⟩) (c := True ∧ True ∧ True ∧ True ∧ True) (by kernel_rfl) ⟨trivial, trivial, trivial, trivial, trivial⟩ ?_
  refine At.done rfl ?_
  show Tri _ _ _ _
  refine Tri.keep [2] [] (s' := ⟨[(2, .c (.d (.bool (!decide (p0 = p0)))))], []⟩) (by kernel_rfl) ?_
  refine Tri.ret ?_
  cases h
  refine ⟨_, _, rfl, ⟨trivial, trivial⟩, rfl, rfl, ?_⟩
  intro k c h
  cases h

set_option maxRecDepth 100000 in
theorem cmp_Compare_uint64_ok {p0 : Int} {p1 : Int} {q : Int} (h : cmp_Compare_uint64 p0 p1 = some q) :
    Summ Try.prog 37 [.c (.d (.int .u64 p0)), .c (.d (.int .u64 p1))] [] (.c (.d (.int .i64 q))) [] := by
  refine Summ.intro Try.func37 rfl (by kernel_rfl) (by kernel_rfl) ?_
  rintro ⟨P, w0, G0, V, LL, lk, N⟩ rfl rfl rfl
  unfold cmp_Compare_uint64 at h
  refine Tri.seqS ?_
  refine Tri.reg ?_
  refine At.seg 1 [0, 1] [] (s' := ⟨[(0, .c (.d (.int .u64 p0))), (1, .c (.d (.int .u64 p1)))], []⟩) (c := True ∧ True) (by kernel_rfl) ⟨trivial, trivial⟩ ?_
  refine At.done rfl ?_
  show Tri _ _ _ _
  refine Tri.seqS ?_
  refine Tri.reg ?_
  refine At.seg 1 [0, 1, 7] [] (s' := ⟨[(0, .c (.d (.int .u64 p0))), (1, .c (.d (.int .u64 p1))), (7, .c (.d (.int .u64 p0)))], []⟩) (c := True ∧ True) (by kernel_rfl) ⟨trivial, trivial⟩ ?_
  obtain ⟨r1, hr1, h⟩ := bind_elim h
  refine At.callA (caps := []) (xs := [.c (.d (.int .u64 p0))]) (cmp_isNaN_uint64_ok hr1) rfl rfl rfl rfl rfl rfl (.cons (.refl _) .nil) rfl rfl ?_
  refine At.seg 1 [0, 1, 5] [] (s' := ⟨[(0, .c (.d (.int .u64 p0))), (1, .c (.d (.int .u64 p1))), (5, .c (.d (.bool r1)))], []⟩) (c := True ∧ True) (by kernel_rfl) ⟨trivial, trivial⟩ ?_
  refine At.done rfl ?_
  show Tri _ _ _ _
  refine Tri.seqS ?_
  refine Tri.reg ?_
  refine At.seg 1 [0, 1, 5, 9] [] (s' := ⟨[(0, .c (.d (.int .u64 p0))), (1, .c (.d (.int .u64 p1))), (5, .c (.d (.bool r1))), (9, .c (.d (.int .u64 p1)))], []⟩) (c := True ∧ True) (by kernel_rfl) ⟨trivial, trivial⟩ ?_
  obtain ⟨r2, hr2, h⟩ := bind_elim h
  refine At.callA (caps := []) (xs := [.c (.d (.int .u64 p1))]) (cmp_isNaN_uint64_ok hr2) rfl rfl rfl rfl rfl rfl (.cons (.refl _) .nil) rfl rfl ?_
  refine At.seg 1 [0, 1, 5, 6] [] (s' := ⟨[(0, .c (.d (.int .u64 p0))), (1, .c (.d (.int .u64 p1))), (5, .c (.d (.bool r1))), (6, .c (.d (.bool r2)))], []⟩) (c := True ∧ True) (by kernel_rfl) ⟨trivial, trivial⟩ ?_
  refine At.done rfl ?_
  show Tri _ _ _ _
  refine Tri.seqS ?_
  refine Tri.seqS ?_
  refine Tri.reg ?_
  refine At.seg 1 [0, 1, 6, 11] [] (s' := ⟨[(0, .c (.d (.int .u64 p0))), (1, .c (.d (.int .u64 p1))), (6, .c (.d (.bool r2))), (11, .c (.d (.bool r1)))], []⟩) (c := True ∧ True) (by kernel_rfl) ⟨trivial, trivial⟩ ?_
  refine At.done rfl ?_
  show Tri _ _ _ _
  refine Tri.condP (b := r1) rfl h (fun h => ?_) (fun h => ?_)
  · refine Tri.seqS ?_
    refine Tri.seqS ?_
    refine Tri.reg ?_
    refine At.seg 1 [12] [] (s' := ⟨[(12, .c (.d (.bool r2)))], []⟩) (c := True ∧ True) (by kernel_rfl) ⟨trivial, trivial⟩ ?_
    refine At.done rfl ?_
    show Tri _ _ _ _
    refine Tri.condP (b := r2) rfl h (fun h => ?_) (fun h => ?_)
    · refine Tri.seqS ?_
      refine Tri.reg ?_
      refine At.seg 1 [4] [] (s' := ⟨[(4, .c (.d (.int .i64 0)))], []⟩) (c := True ∧ True) (by kernel_rfl) ⟨trivial, trivial⟩ ?_
      refine At.done rfl ?_
      show Tri _ _ _ _
      refine Tri.keep [4] [] (s' := ⟨[(4, .c (.d (.int .i64 0)))], []⟩) (by kernel_rfl) ?_
      refine Tri.ret ?_
      cases h
      refine ⟨_, _, rfl, ⟨trivial, trivial⟩, rfl, rfl, ?_⟩
      intro k c h
      cases h
    · refine Tri.skip ?_
      show Tri _ _ _ _
      refine Tri.seqS ?_
      refine Tri.reg ?_
      refine At.seg 1 [4] [] (s' := ⟨[(4, .c (.d (.int .i64 (-1))))], []⟩) (c := True ∧ True) (by kernel_rfl) ⟨trivial, trivial⟩ ?_
      refine At.done rfl ?_
      show Tri _ _ _ _
      refine Tri.keep [4] [] (s' := ⟨[(4, .c (.d (.int .i64 (-1))))], []⟩) (by kernel_rfl) ?_
      refine Tri.ret ?_
      cases h
      refine ⟨_, _, rfl, ⟨trivial, trivial⟩, rfl, rfl, ?_⟩
      intro k c h
      cases h
  · refine Tri.skip ?_
    show Tri _ _ _ _
    refine Tri.seqS ?_
    refine Tri.seqS ?_
    refine Tri.reg ?_
    refine At.seg 1 [0, 1, 13] [] (s' := ⟨[(0, .c (.d (.int .u64 p0))), (1, .c (.d (.int .u64 p1))), (13, .c (.d (.bool r2)))], []⟩) (c := True ∧ True) (by kernel_rfl) ⟨trivial, trivial⟩ ?_
    refine At.done rfl ?_
    show Tri _ _ _ _
    refine Tri.condP (b := r2) rfl h (fun h => ?_) (fun h => ?_)
    · refine Tri.seqS ?_
      refine Tri.reg ?_
      refine At.seg 1 [4] [] (s' := ⟨[(4, .c (.d (.int .i64 1)))], []⟩) (c := True ∧ True) (by kernel_rfl) ⟨trivial, trivial⟩ ?_
      refine At.done rfl ?_
      show Tri _ _ _ _
      refine Tri.keep [4] [] (s' := ⟨[(4, .c (.d (.int .i64 1)))], []⟩) (by kernel_rfl) ?_
      refine Tri.ret ?_
      cases h
      refine ⟨_, _, rfl, ⟨trivial, trivial⟩, rfl, rfl, ?_⟩
      intro k c h
      cases h
    · refine Tri.skip ?_
      show Tri _ _ _ _
      refine Tri.seqS ?_
      refine Tri.seqS ?_
      refine Tri.reg ?_
      refine At.seg 3 [0, 1, 16] [] (s' := ⟨[(0, .c (.d (.int .u64 p0))), (1, .c (.d (.int .u64 p1))), (16, .c (.d (.bool (decide (p0 < p1)))))], []⟩) (c := True ∧ True ∧ True ∧ True) (by kernel_rfl) ⟨trivial, trivial, trivial, trivial⟩ ?_
      refine At.done rfl ?_
      show Tri _ _ _ _
      refine Tri.condP (b := (decide (p0 < p1))) rfl h (fun h => ?_) (fun h => ?_)
      · refine Tri.seqS ?_
        refine Tri.reg ?_
        refine At.seg 1 [4] [] (s' := ⟨[(4, .c (.d (.int .i64 (-1))))], []⟩) (c := True ∧ True) (by kernel_rfl) ⟨trivial, trivial⟩ ?_
        refine At.done rfl ?_
        show Tri _ _ _ _
        refine Tri.keep [4] [] (s' := ⟨[(4, .c (.d (.int .i64 (-1))))], []⟩) (by kernel_rfl) ?_
        refine Tri.ret ?_
        cases h
        refine ⟨_, _, rfl, ⟨trivial, trivial⟩, rfl, rfl, ?_⟩
        intro k c h
        cases h
      · refine Tri.skip ?_
        show Tri _ _ _ _
        refine Tri.seqS ?_
        refine Tri.seqS ?_
        refine Tri.reg ?_
        refine At.seg 3 [19] [] (s' := ⟨[(19, .c (.d (.bool (decide (p1 < p0)))))], []⟩) (c := True ∧ True ∧ True ∧ True) (by kernel_rfl) ⟨trivial, trivial, trivial, trivial⟩ ?_
        refine At.done rfl ?_
        show Tri _ _ _ _
        refine Tri.condP (b := (decide (p1 < p0))) rfl h (fun h => ?_) (fun h => ?_)
        · refine Tri.seqS ?_
          refine Tri.reg ?_
          refine At.seg 1 [4] [] (s' := ⟨[(4, .c (.d (.int .i64 1)))], []⟩) (c := True ∧ True) (by kernel_rfl) ⟨trivial, trivial⟩ ?_
          refine At.done rfl ?_
          show Tri _ _ _ _
          refine Tri.keep [4] [] (s' := ⟨[(4, .c (.d (.int .i64 1)))], []⟩) (by kernel_rfl) ?_
          refine Tri.ret ?_
          cases h
          refine ⟨_, _, rfl, ⟨trivial, trivial⟩, rfl, rfl, ?_⟩
          intro k c h
          cases h
        · refine Tri.skip ?_
          show Tri _ _ _ _
          refine Tri.seqS ?_
          refine Tri.reg ?_
          refine At.seg 1 [4] [] (s' := ⟨[(4, .c (.d (.int .i64 0)))], []⟩) (c := True ∧ True) (by kernel_rfl) ⟨trivial, trivial⟩ ?_
          refine At.done rfl ?_
          show Tri _ _ _ _
          refine Tri.keep [4] [] (s' := ⟨[(4, .c (.d (.int .i64 0)))], []⟩) (by kernel_rfl) ?_
          refine Tri.ret ?_
          cases h
          refine ⟨_, _, rfl, ⟨trivial, trivial⟩, rfl, rfl, ?_⟩
          intro k c h
          cases h

set_option maxRecDepth 100000 in
theorem slices_Compareuint64_uint64_uint64_ok_v0v1 {p0 : List Int} {p1 : List Int} {q : Int} (h : slices_Compareuint64_uint64_uint64 p0 p1 = some q) :
    Summ Try.prog 39 [.c (.view 1 p0.length (fun i => encInt .u64 (p0.getD i default))), .c (.view 1 p1.length (fun i => encInt .u64 (p1.getD i default)))] [] (.c (.d (.int .i64 q))) [] := by
  refine Summ.intro Try.func39 rfl (by kernel_rfl) (by kernel_rfl) ?_
  rintro ⟨P, w0, G0, V, LL, lk, N⟩ rfl rfl rfl
  unfold slices_Compareuint64_uint64_uint64 at h
  refine Tri.seqS ?_
  refine Tri.reg ?_
  refine At.seg 1 [0, 1] [] (s' := ⟨[(0, .c (.view 1 p0.length (fun i => encInt .u64 (p0.getD i default)))), (1, .c (.view 1 p1.length (fun i => encInt .u64 (p1.getD i default))))], []⟩) (c := True ∧ True) (by kernel_rfl) ⟨trivial, trivial⟩ ?_
  refine At.done rfl ?_
  show Tri _ _ _ _
  refine Tri.seqS ?_
  refine Tri.seqS ?_
  refine Tri.reg ?_
  refine At.seg 3 [0, 1, 9, 10, 11] [] (s' := ⟨[(0, .c (.view 1 p0.length (fun i => encInt .u64 (p0.getD i default)))), (1, .c (.view 1 p1.length (fun i => encInt .u64 (p1.getD i default)))), (9, .c (.view 1 p0.length (fun i => encInt .u64 (p0.getD i default)))), (10, .c (.d (.int .i64 (p0.length : Int)))), (11, .c (.d (.int .i64 0)))], []⟩) (c := True ∧ True ∧ True ∧ True) (by kernel_rfl) ⟨trivial, trivial, trivial, trivial⟩ ?_
  refine At.done rfl ?_
  show Tri _ _ _ _
  refine Tri.lenOfV (t := 9) rfl fun hlena2 => ?_
  refine Tri.keep [11, 0, 1, 9, 10] [] (s' := idx 11 0 ⟨[(0, .c (.view 1 p0.length (fun i => encInt .u64 (p0.getD i default)))), (1, .c (.view 1 p1.length (fun i => encInt .u64 (p1.getD i default)))), (9, .c (.view 1 p0.length (fun i => encInt .u64 (p0.getD i default)))), (10, .c (.d (.int .i64 (p0.length : Int))))], []⟩) (by kernel_rfl) ?_
  refine Tri.range (n := p0.length) (st0 := ()) (fun (x : Int) s => RetAt Try.prog Try.f39 (.c (.d (.int .i64 x))) [] s) (fun (a2 : Unit) => ⟨[(0, .c (.view 1 p0.length (fun i => encInt .u64 (p0.getD i default)))), (1, .c (.view 1 p1.length (fun i => encInt .u64 (p1.getD i default)))), (9, .c (.view 1 p0.length (fun i => encInt .u64 (p0.getD i default)))), (10, .c (.d (.int .i64 (p0.length : Int))))], []⟩) (fun (a2 : Unit) => ⟨[(0, .c (.view 1 p0.length (fun i => encInt .u64 (p0.getD i default)))), (1, .c (.view 1 p1.length (fun i => encInt .u64 (p1.getD i default)))), (9, .c (.view 1 p0.length (fun i => encInt .u64 (p0.getD i default)))), (10, .c (.d (.int .i64 (p0.length : Int))))], []⟩) (fun i => decide ((i : Int) < (p0.length : Int))) [12, 11, 0, 1, 9, 10] [] [0, 1, 9, 10] [] [11, 0, 1, 9, 10] [] h hlena2 rfl ?_ ?_ ?_ ?_ ?_ ?_ ?_ ?_
  · exact fun i a => ⟨True ∧ True, by kernel_rfl, ⟨trivial, trivial⟩⟩
  · exact fun i hi => decide_eq_true (by omega)
  · exact decide_eq_false (by omega)
  · exact fun a => by kernel_rfl
  · exact fun i a => ⟨True ∧ True ∧ True, by kernel_rfl, ⟨trivial, trivial, trivial⟩⟩
  · intro i1 a2 c hii1 h
    refine Tri.seqS ?_
    refine Tri.reg ?_
    refine At.seg 5 [0, 1, 5, 6, 9, 10, 11] [] (s' := ⟨[(0, .c (.view 1 p0.length (fun i => encInt .u64 (p0.getD i default)))), (1, .c (.view 1 p1.length (fun i => encInt .u64 (p1.getD i default)))), (5, .c (.d (.int .i64 ((i1 : Nat) : Int)))), (6, .c (.d (.int .u64 (p0.getD i1 default)))), (9, .c (.view 1 p0.length (fun i => encInt .u64 (p0.getD i default)))), (10, .c (.d (.int .i64 (p0.length : Int)))), (11, .c (.d (.int .i64 ((i1 : Nat) : Int))))], []⟩) (c := True ∧ ((0 : Int) ≤ ((i1 : Nat) : Int) ∧ ((i1 : Nat) : Int) < (p0.length : Int)) ∧ True ∧ True ∧ True ∧ True) (by kernel_rfl) ⟨trivial, ⟨by omega, by omega⟩, trivial, trivial, trivial, trivial⟩ ?_
    refine At.done rfl ?_
    show Tri _ _ _ _
    refine Tri.seqS ?_
    refine Tri.seqS ?_
    refine Tri.reg ?_
    refine At.seg 4 [0, 1, 5, 6, 9, 10, 11, 19] [] (s' := ⟨[(0, .c (.view 1 p0.length (fun i => encInt .u64 (p0.getD i default)))), (1, .c (.view 1 p1.length (fun i => encInt .u64 (p1.getD i default)))), (5, .c (.d (.int .i64 ((i1 : Nat) : Int)))), (6, .c (.d (.int .u64 (p0.getD i1 default)))), (9, .c (.view 1 p0.length (fun i => encInt .u64 (p0.getD i default)))), (10, .c (.d (.int .i64 (p0.length : Int)))), (11, .c (.d (.int .i64 ((i1 : Nat) : Int)))), (19, .c (.d (.bool (decide ((p1.length : Int) ≤ ((i1 : Nat) : Int))))))], []⟩) (c := True ∧ True ∧ True ∧ True ∧ True) (by kernel_rfl) ⟨trivial, trivial, trivial, trivial, trivial⟩ ?_
    refine At.done rfl ?_
    show Tri _ _ _ _
    refine Tri.condP (b := (decide ((p1.length : Int) ≤ ((i1 : Nat) : Int)))) rfl h (fun h => ?_) (fun h => ?_)
    · refine Tri.seqS ?_
      refine Tri.reg ?_
      refine At.seg 1 [4] [] (s' := ⟨[(4, .c (.d (.int .i64 1)))], []⟩) (c := True ∧ True) (by kernel_rfl) ⟨trivial, trivial⟩ ?_
      refine At.done rfl ?_
      show Tri _ _ _ _
      refine Tri.keep [4] [] (s' := ⟨[(4, .c (.d (.int .i64 1)))], []⟩) (by kernel_rfl) ?_
      refine Tri.ret ?_
      cases h
      refine ⟨_, _, rfl, ⟨trivial, trivial⟩, rfl, rfl, ?_⟩
      intro k c h
      cases h
    · refine Tri.skip ?_
      show Tri _ _ _ _
      refine Tri.seqS ?_
      refine Tri.reg ?_
      obtain ⟨hc4, h⟩ := need_elim h
      refine At.seg 5 [0, 1, 6, 7, 9, 10, 11] [] (s' := ⟨[(0, .c (.view 1 p0.length (fun i => encInt .u64 (p0.getD i default)))), (1, .c (.view 1 p1.length (fun i => encInt .u64 (p1.getD i default)))), (6, .c (.d (.int .u64 (p0.getD i1 default)))), (7, .c (.d (.int .u64 (p1.getD i1 default)))), (9, .c (.view 1 p0.length (fun i => encInt .u64 (p0.getD i default)))), (10, .c (.d (.int .i64 (p0.length : Int)))), (11, .c (.d (.int .i64 ((i1 : Nat) : Int))))], []⟩) (c := True ∧ True ∧ ((0 : Int) ≤ ((i1 : Nat) : Int) ∧ ((i1 : Nat) : Int) < (p1.length : Int)) ∧ True ∧ True ∧ True) (by kernel_rfl) ⟨trivial, trivial, hc4, trivial, trivial, trivial⟩ ?_
      refine At.done rfl ?_
      show Tri _ _ _ _
      refine Tri.seqS ?_
      refine Tri.reg ?_
      refine At.seg 2 [0, 1, 9, 10, 11, 24, 25] [] (s' := ⟨[(0, .c (.view 1 p0.length (fun i => encInt .u64 (p0.getD i default)))), (1, .c (.view 1 p1.length (fun i => encInt .u64 (p1.getD i default)))), (9, .c (.view 1 p0.length (fun i => encInt .u64 (p0.getD i default)))), (10, .c (.d (.int .i64 (p0.length : Int)))), (11, .c (.d (.int .i64 ((i1 : Nat) : Int)))), (24, .c (.d (.int .u64 (p0.getD i1 default)))), (25, .c (.d (.int .u64 (p1.getD i1 default))))], []⟩) (c := True ∧ True ∧ True) (by kernel_rfl) ⟨trivial, trivial, trivial⟩ ?_
      obtain ⟨r5, hr5, h⟩ := bind_elim h
      refine At.callA (caps := []) (xs := [.c (.d (.int .u64 (p0.getD i1 default))), .c (.d (.int .u64 (p1.getD i1 default)))]) (cmp_Compare_uint64_ok hr5) rfl rfl rfl rfl rfl rfl (.cons (.refl _) (.cons (.refl _) .nil)) rfl rfl ?_
      refine At.seg 1 [0, 1, 8, 9, 10, 11] [] (s' := ⟨[(0, .c (.view 1 p0.length (fun i => encInt .u64 (p0.getD i default)))), (1, .c (.view 1 p1.length (fun i => encInt .u64 (p1.getD i default)))), (8, .c (.d (.int .i64 r5))), (9, .c (.view 1 p0.length (fun i => encInt .u64 (p0.getD i default)))), (10, .c (.d (.int .i64 (p0.length : Int)))), (11, .c (.d (.int .i64 ((i1 : Nat) : Int))))], []⟩) (c := True ∧ True) (by kernel_rfl) ⟨trivial, trivial⟩ ?_
      refine At.done rfl ?_
      show Tri _ _ _ _
      refine Tri.seqS ?_
      refine Tri.reg ?_
      refine At.seg 2 [0, 1, 8, 9, 10, 11, 28] [] (s' := ⟨[(0, .c (.view 1 p0.length (fun i => encInt .u64 (p0.getD i default)))), (1, .c (.view 1 p1.length (fun i => encInt .u64 (p1.getD i default)))), (8, .c (.d (.int .i64 r5))), (9, .c (.view 1 p0.length (fun i => encInt .u64 (p0.getD i default)))), (10, .c (.d (.int .i64 (p0.length : Int)))), (11, .c (.d (.int .i64 ((i1 : Nat) : Int)))), (28, .c (.d (.bool (!decide (r5 = 0)))))], []⟩) (c := True ∧ True ∧ True) (by kernel_rfl) ⟨trivial, trivial, trivial⟩ ?_
      refine At.done rfl ?_
      show Tri _ _ _ _
      refine Tri.condP (b := (!decide (r5 = 0))) rfl h (fun h => ?_) (fun h => ?_)
      · refine Tri.seqS ?_
        refine Tri.reg ?_
        refine At.seg 2 [4] [] (s' := ⟨[(4, .c (.d (.int .i64 r5)))], []⟩) (c := True ∧ True ∧ True) (by kernel_rfl) ⟨trivial, trivial, trivial⟩ ?_
        refine At.done rfl ?_
        show Tri _ _ _ _
        refine Tri.keep [4] [] (s' := ⟨[(4, .c (.d (.int .i64 r5)))], []⟩) (by kernel_rfl) ?_
        refine Tri.ret ?_
        cases h
        refine ⟨_, _, rfl, ⟨trivial, trivial⟩, rfl, rfl, ?_⟩
        intro k c h
        cases h
      · refine Tri.keep [11, 0, 1, 9, 10] [] (s' := ⟨[(11, .c (.d (.int .i64 ((i1 : Nat) : Int)))), (0, .c (.view 1 p0.length (fun i => encInt .u64 (p0.getD i default)))), (1, .c (.view 1 p1.length (fun i => encInt .u64 (p1.getD i default)))), (9, .c (.view 1 p0.length (fun i => encInt .u64 (p0.getD i default)))), (10, .c (.d (.int .i64 (p0.length : Int))))], []⟩) (by kernel_rfl) ?_
        refine Tri.skip ?_
        cases h
        exact rfl
  · intro a3 h
    show Tri _ _ _ _
    refine Tri.seqS ?_
    refine Tri.seqS ?_
    refine Tri.reg ?_
    refine At.seg 5 [35] [] (s' := ⟨[(35, .c (.d (.bool (decide ((p0.length : Int) < (p1.length : Int))))))], []⟩) (c := True ∧ True ∧ True ∧ True ∧ True ∧ True) (by kernel_rfl) ⟨trivial, trivial, trivial, trivial, trivial, trivial⟩ ?_
    refine At.done rfl ?_
    show Tri _ _ _ _
    refine Tri.condP (b := (decide ((p0.length : Int) < (p1.length : Int)))) rfl h (fun h => ?_) (fun h => ?_)
    · refine Tri.seqS ?_
      refine Tri.reg ?_
      refine At.seg 1 [4] [] (s' := ⟨[(4, .c (.d (.int .i64 (-1))))], []⟩) (c := True ∧ True) (by kernel_rfl) ⟨trivial, trivial⟩ ?_
      refine At.done rfl ?_
      show Tri _ _ _ _
      refine Tri.keep [4] [] (s' := ⟨[(4, .c (.d (.int .i64 (-1))))], []⟩) (by kernel_rfl) ?_
      refine Tri.ret ?_
      cases h
      refine ⟨_, _, rfl, ⟨trivial, trivial⟩, rfl, rfl, ?_⟩
      intro k c h
      cases h
    · refine Tri.skip ?_
      show Tri _ _ _ _
      refine Tri.seqS ?_
      refine Tri.reg ?_
      refine At.seg 1 [4] [] (s' := ⟨[(4, .c (.d (.int .i64 0)))], []⟩) (c := True ∧ True) (by kernel_rfl) ⟨trivial, trivial⟩ ?_
      refine At.done rfl ?_
      show Tri _ _ _ _
      refine Tri.keep [4] [] (s' := ⟨[(4, .c (.d (.int .i64 0)))], []⟩) (by kernel_rfl) ?_
      refine Tri.ret ?_
      cases h
      refine ⟨_, _, rfl, ⟨trivial, trivial⟩, rfl, rfl, ?_⟩
      intro k c h
      cases h
  · exact fun x s hx hr => by cases hx; exact hr

set_option maxRecDepth 100000 in
theorem cmp_Or_int_ok_v0 {p0 : List Int} {q : Int} (h : cmp_Or_int p0 = some q) :
    Summ Try.prog 38 [.c (.view 1 p0.length (fun i => encInt .i64 (p0.getD i default)))] [] (.c (.d (.int .i64 q))) [] := by
  refine Summ.intro Try.func38 rfl (by kernel_rfl) (by kernel_rfl) ?_
  rintro ⟨P, w0, G0, V, LL, lk, N⟩ rfl rfl rfl
  unfold cmp_Or_int at h
  refine Tri.seqS ?_
  refine Tri.reg ?_
  refine At.seg 1 [0] [] (s' := ⟨[(0, .c (.view 1 p0.length (fun i => encInt .i64 (p0.getD i default))))], []⟩) (c := True ∧ True) (by kernel_rfl) ⟨trivial, trivial⟩ ?_
  refine At.done rfl ?_
  show Tri _ _ _ _
  refine Tri.seqS ?_
  refine Tri.reg ?_
  refine At.seg 1 [0, 3] [] (s' := ⟨[(0, .c (.view 1 p0.length (fun i => encInt .i64 (p0.getD i default)))), (3, .c (.d (.int .i64 0)))], []⟩) (c := True ∧ True) (by kernel_rfl) ⟨trivial, trivial⟩ ?_
  refine At.done rfl ?_
  show Tri _ _ _ _
  refine Tri.seqS ?_
  refine Tri.seqS ?_
  refine Tri.reg ?_
  refine At.seg 3 [3, 6, 7, 8] [] (s' := ⟨[(3, .c (.d (.int .i64 0))), (6, .c (.view 1 p0.length (fun i => encInt .i64 (p0.getD i default)))), (7, .c (.d (.int .i64 (p0.length : Int)))), (8, .c (.d (.int .i64 0)))], []⟩) (c := True ∧ True ∧ True ∧ True) (by kernel_rfl) ⟨trivial, trivial, trivial, trivial⟩ ?_
  refine At.done rfl ?_
  show Tri _ _ _ _
  refine Tri.lenOfV (t := 6) rfl fun hlena2 => ?_
  refine Tri.keep [8, 3, 6, 7] [] (s' := idx 8 0 ⟨[(3, .c (.d (.int .i64 0))), (6, .c (.view 1 p0.length (fun i => encInt .i64 (p0.getD i default)))), (7, .c (.d (.int .i64 (p0.length : Int))))], []⟩) (by kernel_rfl) ?_
  refine Tri.range (n := p0.length) (st0 := ()) (fun (x : Int) s => RetAt Try.prog Try.f38 (.c (.d (.int .i64 x))) [] s) (fun (a2 : Unit) => ⟨[(3, .c (.d (.int .i64 0))), (6, .c (.view 1 p0.length (fun i => encInt .i64 (p0.getD i default)))), (7, .c (.d (.int .i64 (p0.length : Int))))], []⟩) (fun (a2 : Unit) => ⟨[(3, .c (.d (.int .i64 0))), (6, .c (.view 1 p0.length (fun i => encInt .i64 (p0.getD i default)))), (7, .c (.d (.int .i64 (p0.length : Int))))], []⟩) (fun i => decide ((i : Int) < (p0.length : Int))) [9, 8, 3, 6, 7] [] [3, 6, 7] [] [8, 3, 6, 7] [] h hlena2 rfl ?_ ?_ ?_ ?_ ?_ ?_ ?_ ?_
  · exact fun i a => ⟨True ∧ True, by kernel_rfl, ⟨trivial, trivial⟩⟩
  · exact fun i hi => decide_eq_true (by omega)
  · exact decide_eq_false (by omega)
  · exact fun a => by kernel_rfl
  · exact fun i a => ⟨True ∧ True ∧ True, by kernel_rfl, ⟨trivial, trivial, trivial⟩⟩
  · intro i1 a2 c hii1 h
    refine Tri.seqS ?_
    refine Tri.reg ?_
    refine At.seg 3 [3, 5, 6, 7, 8] [] (s' := ⟨[(3, .c (.d (.int .i64 0))), (5, .c (.d (.int .i64 (p0.getD i1 default)))), (6, .c (.view 1 p0.length (fun i => encInt .i64 (p0.getD i default)))), (7, .c (.d (.int .i64 (p0.length : Int)))), (8, .c (.d (.int .i64 ((i1 : Nat) : Int))))], []⟩) (c := ((0 : Int) ≤ ((i1 : Nat) : Int) ∧ ((i1 : Nat) : Int) < (p0.length : Int)) ∧ True ∧ True ∧ True) (by kernel_rfl) ⟨⟨by omega, by omega⟩, trivial, trivial, trivial⟩ ?_
    refine At.done rfl ?_
    show Tri _ _ _ _
    refine Tri.seqS ?_
    refine Tri.reg ?_
    refine At.seg 3 [3, 5, 6, 7, 8, 14] [] (s' := ⟨[(3, .c (.d (.int .i64 0))), (5, .c (.d (.int .i64 (p0.getD i1 default)))), (6, .c (.view 1 p0.length (fun i => encInt .i64 (p0.getD i default)))), (7, .c (.d (.int .i64 (p0.length : Int)))), (8, .c (.d (.int .i64 ((i1 : Nat) : Int)))), (14, .c (.d (.bool (!decide ((p0.getD i1 default) = 0)))))], []⟩) (c := True ∧ True ∧ True ∧ True) (by kernel_rfl) ⟨trivial, trivial, trivial, trivial⟩ ?_
    refine At.done rfl ?_
    show Tri _ _ _ _
    refine Tri.condP (b := (!decide ((p0.getD i1 default) = 0))) rfl h (fun h => ?_) (fun h => ?_)
    · refine Tri.seqS ?_
      refine Tri.reg ?_
      refine At.seg 2 [2] [] (s' := ⟨[(2, .c (.d (.int .i64 (p0.getD i1 default))))], []⟩) (c := True ∧ True ∧ True) (by kernel_rfl) ⟨trivial, trivial, trivial⟩ ?_
      refine At.done rfl ?_
      show Tri _ _ _ _
      refine Tri.keep [2] [] (s' := ⟨[(2, .c (.d (.int .i64 (p0.getD i1 default))))], []⟩) (by kernel_rfl) ?_
      refine Tri.ret ?_
      cases h
      refine ⟨_, _, rfl, ⟨trivial, trivial⟩, rfl, rfl, ?_⟩
      intro k c h
      cases h
    · refine Tri.keep [8, 3, 6, 7] [] (s' := ⟨[(8, .c (.d (.int .i64 ((i1 : Nat) : Int)))), (3, .c (.d (.int .i64 0))), (6, .c (.view 1 p0.length (fun i => encInt .i64 (p0.getD i default)))), (7, .c (.d (.int .i64 (p0.length : Int))))], []⟩) (by kernel_rfl) ?_
      refine Tri.skip ?_
      cases h
      exact rfl
  · intro a3 h
    show Tri _ _ _ _
    refine Tri.seqS ?_
    refine Tri.reg ?_
    refine At.seg 2 [2] [] (s' := ⟨[(2, .c (.d (.int .i64 0)))], []⟩) (c := True ∧ True ∧ True) (by kernel_rfl) ⟨trivial, trivial, trivial⟩ ?_
    refine At.done rfl ?_
    show Tri _ _ _ _
    refine Tri.keep [2] [] (s' := ⟨[(2, .c (.d (.int .i64 0)))], []⟩) (by kernel_rfl) ?_
    refine Tri.ret ?_
    cases h
    refine ⟨_, _, rfl, ⟨trivial, trivial⟩, rfl, rfl, ?_⟩
    intro k c h
    cases h
  · exact fun x s hx hr => by cases hx; exact hr

set_option maxRecDepth 100000 in
theorem moment_Compare_ok {p0 : Time} {p1 : Time} {q : Int} (h : moment_Compare p0 p1 = some q) :
    Summ Try.prog 20 [.agg [.d (.int .u64 p0.epoch), .d (.int .u64 p0.loop.1), .d (.int .u64 p0.loop.2)], .agg [.d (.int .u64 p1.epoch), .d (.int .u64 p1.loop.1), .d (.int .u64 p1.loop.2)]] [] (.c (.d (.int .i64 q))) [] := by
  refine Summ.intro Try.func20 rfl (by kernel_rfl) (by kernel_rfl) ?_
  rintro ⟨P, w0, G0, V, LL, lk, N⟩ rfl rfl rfl
  unfold moment_Compare at h
  refine Tri.seqS ?_
  refine Tri.reg ?_
  refine At.seg 3 [2, 3] [2, 3] (s' := ⟨[(2, .c (.ptr 2 0)), (3, .c (.ptr 3 0))], [(2, .box [.d (.int .u64 p0.epoch), .d (.int .u64 p0.loop.1), .d (.int .u64 p0.loop.2)]), (3, .box [.d (.int .u64 p1.epoch), .d (.int .u64 p1.loop.1), .d (.int .u64 p1.loop.2)])]⟩) (c := True ∧ True ∧ True ∧ True) (by kernel_rfl) ⟨trivial, trivial, trivial, trivial⟩ ?_
  refine At.done rfl ?_
  show Tri _ _ _ _
  refine Tri.seqS ?_
  refine Tri.seqS ?_
  refine Tri.reg ?_
  refine At.seg 4 [2, 3, 6, 8] [2, 3] (s' := ⟨[(2, .c (.ptr 2 0)), (3, .c (.ptr 3 0)), (6, .agg [.d (.int .u64 p0.loop.1), .d (.int .u64 p0.loop.2)]), (8, .agg [.d (.int .u64 p1.loop.1), .d (.int .u64 p1.loop.2)])], [(2, .box [.d (.int .u64 p0.epoch), .d (.int .u64 p0.loop.1), .d (.int .u64 p0.loop.2)]), (3, .box [.d (.int .u64 p1.epoch), .d (.int .u64 p1.loop.1), .d (.int .u64 p1.loop.2)])]⟩) (c := True ∧ True ∧ True ∧ True ∧ True) (by kernel_rfl) ⟨trivial, trivial, trivial, trivial, trivial⟩ ?_
  refine At.one rfl (One.eql (b := (decide (p0.loop.1 = p1.loop.1) && (decide (p0.loop.2 = p1.loop.2) && true))) (d := 9) rfl rfl rfl (.inl rfl) rfl rfl (by kernel_rfl) rfl (by kernel_rfl)) ?_
  refine At.done rfl ?_
  show Tri _ _ _ _
  refine Tri.condP (b := (decide (p0.loop.1 = p1.loop.1) && (decide (p0.loop.2 = p1.loop.2) && true))) rfl h (fun h => ?_) (fun h => ?_)
  · refine Tri.seqS ?_
    refine Tri.reg ?_
    refine At.seg 4 [11, 13] [] (s' := ⟨[(11, .c (.d (.int .u64 p0.epoch))), (13, .c (.d (.int .u64 p1.epoch)))], []⟩) (c := True ∧ True ∧ True ∧ True ∧ True) (by kernel_rfl) ⟨trivial, trivial, trivial, trivial, trivial⟩ ?_
    obtain ⟨r1, hr1, h⟩ := bind_elim h
    refine At.callA (caps := []) (xs := [.c (.d (.int .u64 p0.epoch)), .c (.d (.int .u64 p1.epoch))]) (cmp_Compare_uint64_ok hr1) rfl rfl rfl rfl rfl rfl (.cons (.refl _) (.cons (.refl _) .nil)) rfl rfl ?_
    refine At.seg 1 [4] [] (s' := ⟨[(4, .c (.d (.int .i64 r1)))], []⟩) (c := True ∧ True) (by kernel_rfl) ⟨trivial, trivial⟩ ?_
    refine At.done rfl ?_
    show Tri _ _ _ _
    refine Tri.keep [4] [] (s' := ⟨[(4, .c (.d (.int .i64 r1)))], []⟩) (by kernel_rfl) ?_
    refine Tri.ret ?_
    cases h
    refine ⟨_, _, rfl, ⟨trivial, trivial⟩, rfl, rfl, ?_⟩
    intro k c h
    cases h
  · refine Tri.skip ?_
    show Tri _ _ _ _
    refine Tri.seqS ?_
    obtain ⟨r2, hr2, h⟩ := bind_elim h
    obtain ⟨r3, hr3, h⟩ := bind_elim h
    obtain ⟨r4, hr4, h⟩ := bind_elim h
    refine Tri.drawn (specs := [⟨⟨[(2, .c (.ptr 2 0))], []⟩, ⟨[(15, .c (.ptr 2 0))], []⟩, [], []⟩, ⟨⟨[(15, .c (.ptr 2 0))], [(2, .box [.d (.int .u64 p0.epoch), .d (.int .u64 p0.loop.1), .d (.int .u64 p0.loop.2)])]⟩, ⟨[(16, .c (.d (.int .u64 p0.epoch)))], []⟩, [], []⟩, ⟨⟨[(3, .c (.ptr 3 0))], []⟩, ⟨[(17, .c (.ptr 3 0))], []⟩, [], []⟩, ⟨⟨[(17, .c (.ptr 3 0))], [(3, .box [.d (.int .u64 p1.epoch), .d (.int .u64 p1.loop.1), .d (.int .u64 p1.loop.2)])]⟩, ⟨[(18, .c (.d (.int .u64 p1.epoch)))], []⟩, [], []⟩, ⟨⟨[(16, .c (.d (.int .u64 p0.epoch))), (18, .c (.d (.int .u64 p1.epoch)))], []⟩, ⟨[(19, .c (.d (.int .i64 r2)))], []⟩, [], []⟩, ⟨⟨[(2, .c (.ptr 2 0))], []⟩, ⟨[(20, .c (.ptr 2 1))], []⟩, [], []⟩, ⟨⟨[(20, .c (.ptr 2 1))], [(2, .box [.d (.int .u64 p0.epoch), .d (.int .u64 p0.loop.1), .d (.int .u64 p0.loop.2)])]⟩, ⟨[(21, .c (.bsl 2 1 1 2))], []⟩, [], []⟩, ⟨⟨[(3, .c (.ptr 3 0))], []⟩, ⟨[(22, .c (.ptr 3 1))], []⟩, [], []⟩, ⟨⟨[(22, .c (.ptr 3 1))], [(3, .box [.d (.int .u64 p1.epoch), .d (.int .u64 p1.loop.1), .d (.int .u64 p1.loop.2)])]⟩, ⟨[(23, .c (.bsl 3 1 1 2))], []⟩, [], []⟩, ⟨⟨[(21, .c (.bsl 2 1 1 2)), (23, .c (.bsl 3 1 1 2))], [(2, .box [.d (.int .u64 p0.epoch), .d (.int .u64 p0.loop.1), .d (.int .u64 p0.loop.2)]), (3, .box [.d (.int .u64 p1.epoch), .d (.int .u64 p1.loop.1), .d (.int .u64 p1.loop.2)])]⟩, ⟨[(24, .c (.d (.int .i64 r3)))], []⟩, [], []⟩, ⟨⟨[(19, .c (.d (.int .i64 r2))), (24, .c (.d (.int .i64 r3)))], []⟩, ⟨[(25, .c (.own 25 1 0 (([r2, r3] : List Int).length)))], [(25, .vec 1 ([r2, r3] : List Int).length (fun i => encInt .i64 (([r2, r3] : List Int).getD i default)))]⟩, [25], []⟩, ⟨⟨[(25, .c (.own 25 1 0 (([r2, r3] : List Int).length)))], [(25, .vec 1 ([r2, r3] : List Int).length (fun i => encInt .i64 (([r2, r3] : List Int).getD i default)))]⟩, ⟨[(26, .c (.d (.int .i64 r4)))], []⟩, [], []⟩, ⟨⟨[(26, .c (.d (.int .i64 r4)))], []⟩, ⟨[(4, .c (.d (.int .i64 r4)))], []⟩, [], []⟩]) (bef := [[], [0], [], [2], [0, 1, 2, 3], [], [5], [], [7], [0, 1, 2, 3, 4, 5, 6, 7, 8], [0, 1, 2, 3, 4, 5, 6, 7, 8, 9], [0, 1, 2, 3, 4, 5, 6, 7, 8, 9, 10], [0, 1, 2, 3, 4, 5, 6, 7, 8, 9, 10, 11]]) (tk := [4]) (sk := []) (s' := ⟨[(4, .c (.d (.int .i64 r4)))], []⟩) (by kernel_rfl) (by kernel_rfl) (by kernel_rfl) ⟨?_, ?_, ?_, ?_, ?_, ?_, ?_, ?_, ?_, ?_, ?_, ?_, ?_, trivial⟩ (by kernel_rfl) ?_
    · exact DOk.step (.val (.c (.ptr 2 0)) (True)) (fun r => by kernel_rfl) (fun r => by kernel_rfl) trivial (by kernel_rfl) (by kernel_rfl) (fun r => rfl)
    · exact DOk.step (.val (.c (.d (.int .u64 p0.epoch))) (True)) (fun r => by kernel_rfl) (fun r => by kernel_rfl) trivial (by kernel_rfl) (by kernel_rfl) (fun r => rfl)
    · exact DOk.step (.val (.c (.ptr 3 0)) (True)) (fun r => by kernel_rfl) (fun r => by kernel_rfl) trivial (by kernel_rfl) (by kernel_rfl) (fun r => rfl)
    · exact DOk.step (.val (.c (.d (.int .u64 p1.epoch))) (True)) (fun r => by kernel_rfl) (fun r => by kernel_rfl) trivial (by kernel_rfl) (by kernel_rfl) (fun r => rfl)
    · exact DOk.callA (caps := []) (xs := [.c (.d (.int .u64 p0.epoch)), .c (.d (.int .u64 p1.epoch))]) (cmp_Compare_uint64_ok hr2) rfl (fun r => by kernel_rfl) rfl (fun r => by kernel_rfl) (fun r => by kernel_rfl) (fun r => (.cons (.refl _) (.cons (.refl _) .nil))) rfl rfl (fun r => rfl)
    · exact DOk.step (.val (.c (.ptr 2 1)) (True)) (fun r => by kernel_rfl) (fun r => by kernel_rfl) trivial (by kernel_rfl) (by kernel_rfl) (fun r => rfl)
    · exact DOk.step (.val (.c (.bsl 2 1 1 2)) (((0 : Int) ≤ 0 ∧ (0 : Int) ≤ 2 ∧ (2 : Int) ≤ 2) ∧ (0 : Int) < 2)) (fun r => by kernel_rfl) (fun r => by kernel_rfl) ⟨⟨by decide, by decide, by decide⟩, by decide⟩ (by kernel_rfl) (by kernel_rfl) (fun r => rfl)
    · exact DOk.step (.val (.c (.ptr 3 1)) (True)) (fun r => by kernel_rfl) (fun r => by kernel_rfl) trivial (by kernel_rfl) (by kernel_rfl) (fun r => rfl)
    · exact DOk.step (.val (.c (.bsl 3 1 1 2)) (((0 : Int) ≤ 0 ∧ (0 : Int) ≤ 2 ∧ (2 : Int) ≤ 2) ∧ (0 : Int) < 2)) (fun r => by kernel_rfl) (fun r => by kernel_rfl) ⟨⟨by decide, by decide, by decide⟩, by decide⟩ (by kernel_rfl) (by kernel_rfl) (fun r => rfl)
    · exact DOk.callA (caps := []) (xs := [.c (.bsl 2 1 1 2), .c (.bsl 3 1 1 2)]) (slices_Compareuint64_uint64_uint64_ok_v0v1 hr3) rfl (fun r => by kernel_rfl) rfl (fun r => by kernel_rfl) (fun r => by kernel_rfl) (fun r => (.cons (.c (.bsl (cs := [.d (.int .u64 p0.epoch), .d (.int .u64 p0.loop.1), .d (.int .u64 p0.loop.2)]) (ds := [.int .u64 p0.loop.1, .int .u64 p0.loop.2]) rfl rfl rfl rfl (by unfold maxN; omega) (fun i hi => by match i, hi with | 0, _ => rfl | 1, _ => rfl))) (.cons (.c (.bsl (cs := [.d (.int .u64 p1.epoch), .d (.int .u64 p1.loop.1), .d (.int .u64 p1.loop.2)]) (ds := [.int .u64 p1.loop.1, .int .u64 p1.loop.2]) rfl rfl rfl rfl (by unfold maxN; omega) (fun i hi => by match i, hi with | 0, _ => rfl | 1, _ => rfl))) .nil))) rfl rfl (fun r => rfl)
    · exact DOk.one fun r hr => One.buildT (e := 3) (es := 1) (z := [.d (.int .i64 0)]) (cells := [.d (.int .i64 r2), .d (.int .i64 r3)]) (encInt .i64) ([r2, r3] : List Int) rfl (by kernel_rfl) rfl rfl (St.noRef_app (by kernel_rfl) (hr 25 (by simp))) (by kernel_rfl) rfl (by kernel_rfl) rfl rfl rfl (by kernel_rfl) rfl ⟨⟨rfl, .refl _⟩, ⟨rfl, .refl _⟩, trivial⟩
    · exact DOk.callA (caps := []) (xs := [.c (.own 25 1 0 (([r2, r3] : List Int).length))]) (cmp_Or_int_ok_v0 hr4) rfl (fun r => by kernel_rfl) rfl (fun r => by kernel_rfl) (fun r => by kernel_rfl) (fun r => (.cons (AVArg.view (encInt .i64) ([r2, r3] : List Int) rfl) .nil)) rfl rfl (fun r => rfl)
    · exact DOk.step (.val (.c (.d (.int .i64 r4))) (True)) (fun r => by kernel_rfl) (fun r => by kernel_rfl) trivial (by kernel_rfl) (by kernel_rfl) (fun r => rfl)
    show Tri _ _ _ _
    refine Tri.keep [4] [] (s' := ⟨[(4, .c (.d (.int .i64 r4)))], []⟩) (by kernel_rfl) ?_
    refine Tri.ret ?_
    cases h
    refine ⟨_, _, rfl, ⟨trivial, trivial⟩, rfl, rfl, ?_⟩
    intro k c h
    cases h

set_option maxRecDepth 100000 in
theorem freshetlaw04_orders_ok  {q : Bool} (h : freshetlaw04_orders = some q) :
    Summ Try.prog 18 [] [] (.c (.d (.bool q))) [] := by
  refine Summ.intro Try.func18 rfl (by kernel_rfl) (by kernel_rfl) ?_
  rintro ⟨P, w0, G0, V, LL, lk, N⟩ rfl rfl rfl
  unfold freshetlaw04_orders at h
  refine Tri.seqS ?_
  refine Tri.reg ?_
  refine At.seg 1 [] [] (s' := ⟨[], []⟩) (c := True ∧ True) (by kernel_rfl) ⟨trivial, trivial⟩ ?_
  refine At.done rfl ?_
  show Tri _ _ _ _
  refine Tri.seqJ (fun (a1 : Bool) => ⟨[(0, .c (.d (.bool a1)))], []⟩) h (fun a1 h => ?_) (fun j2 h => ?_)
  · show Tri _ _ ⟨[(0, .c (.d (.bool a1)))], []⟩ _
    refine Tri.keep [0] [] (s' := ⟨[(0, .c (.d (.bool a1)))], []⟩) (by kernel_rfl) ?_
    refine Tri.ret ?_
    cases h
    refine ⟨_, _, rfl, ⟨trivial, trivial⟩, rfl, rfl, ?_⟩
    intro k c h
    cases h
  · refine Tri.reg ?_
    obtain ⟨r3, hr3, h⟩ := bind_elim h
    refine At.callA (caps := []) (xs := [.c (.d (.int .u64 1)), .c (.d (.int .u64 0)), .c (.d (.int .u64 2))]) (freshetlaw04_at_ok hr3) rfl rfl rfl rfl rfl rfl (.cons (.refl _) (.cons (.refl _) (.cons (.refl _) .nil))) rfl rfl ?_
    obtain ⟨r4, hr4, h⟩ := bind_elim h
    refine At.callA (caps := []) (xs := [.c (.d (.int .u64 1)), .c (.d (.int .u64 1)), .c (.d (.int .u64 2))]) (freshetlaw04_at_ok hr4) rfl rfl rfl rfl rfl rfl (.cons (.refl _) (.cons (.refl _) (.cons (.refl _) .nil))) rfl rfl ?_
    obtain ⟨r5, hr5, h⟩ := bind_elim h
    refine At.callA (caps := []) (xs := [.agg [.d (.int .u64 r3.epoch), .d (.int .u64 r3.loop.1), .d (.int .u64 r3.loop.2)], .agg [.d (.int .u64 r4.epoch), .d (.int .u64 r4.loop.1), .d (.int .u64 r4.loop.2)]]) (moment_Ahead_ok hr5) rfl rfl rfl rfl rfl rfl (.cons (.refl _) (.cons (.refl _) .nil)) rfl rfl ?_
    refine At.seg 1 [4] [] (s' := ⟨[(4, .c (.d (.bool r5)))], []⟩) (c := True ∧ True) (by kernel_rfl) ⟨trivial, trivial⟩ ?_
    refine At.case (fun b => ⟨[(4, .c (.d (.bool b)))], []⟩) (b := r5) h (fun h => ?_) (fun h => ?_)
    · obtain ⟨r6, hr6, h⟩ := bind_elim h
      refine At.callA (caps := []) (xs := [.c (.d (.int .u64 1)), .c (.d (.int .u64 0)), .c (.d (.int .u64 2))]) (freshetlaw04_at_ok hr6) rfl rfl rfl rfl rfl rfl (.cons (.refl _) (.cons (.refl _) (.cons (.refl _) .nil))) rfl rfl ?_
      obtain ⟨r7, hr7, h⟩ := bind_elim h
      refine At.callA (caps := []) (xs := [.c (.d (.int .u64 2)), .c (.d (.int .u64 0)), .c (.d (.int .u64 1))]) (freshetlaw04_at_ok hr7) rfl rfl rfl rfl rfl rfl (.cons (.refl _) (.cons (.refl _) (.cons (.refl _) .nil))) rfl rfl ?_
      obtain ⟨r8, hr8, h⟩ := bind_elim h
      refine At.callA (caps := []) (xs := [.agg [.d (.int .u64 r6.epoch), .d (.int .u64 r6.loop.1), .d (.int .u64 r6.loop.2)], .agg [.d (.int .u64 r7.epoch), .d (.int .u64 r7.loop.1), .d (.int .u64 r7.loop.2)]]) (moment_Ahead_ok hr8) rfl rfl rfl rfl rfl rfl (.cons (.refl _) (.cons (.refl _) .nil)) rfl rfl ?_
      refine At.seg 3 [10] [] (s' := ⟨[(10, .c (.d (.bool (!r8))))], []⟩) (c := True ∧ True ∧ True ∧ True) (by kernel_rfl) ⟨trivial, trivial, trivial, trivial⟩ ?_
      refine At.case (fun b => ⟨[(10, .c (.d (.bool b)))], []⟩) (b := (!r8)) h (fun h => ?_) (fun h => ?_)
      · obtain ⟨r9, hr9, h⟩ := bind_elim h
        refine At.callA (caps := []) (xs := [.c (.d (.int .u64 1)), .c (.d (.int .u64 0)), .c (.d (.int .u64 2))]) (freshetlaw04_at_ok hr9) rfl rfl rfl rfl rfl rfl (.cons (.refl _) (.cons (.refl _) (.cons (.refl _) .nil))) rfl rfl ?_
        obtain ⟨r10, hr10, h⟩ := bind_elim h
        refine At.callA (caps := []) (xs := [.c (.d (.int .u64 2)), .c (.d (.int .u64 0)), .c (.d (.int .u64 1))]) (freshetlaw04_at_ok hr10) rfl rfl rfl rfl rfl rfl (.cons (.refl _) (.cons (.refl _) (.cons (.refl _) .nil))) rfl rfl ?_
        obtain ⟨r11, hr11, h⟩ := bind_elim h
        refine At.callA (caps := []) (xs := [.agg [.d (.int .u64 r9.epoch), .d (.int .u64 r9.loop.1), .d (.int .u64 r9.loop.2)], .agg [.d (.int .u64 r10.epoch), .d (.int .u64 r10.loop.1), .d (.int .u64 r10.loop.2)]]) (moment_Compare_ok hr11) rfl rfl rfl rfl rfl rfl (.cons (.refl _) (.cons (.refl _) .nil)) rfl rfl ?_
        refine At.seg 3 [0] [] (s' := ⟨[(0, .c (.d (.bool (decide (r11 = (-1))))))], []⟩) (c := True ∧ True ∧ True ∧ True) (by kernel_rfl) ⟨trivial, trivial, trivial, trivial⟩ ?_
        refine At.done rfl ?_
        exact ⟨_, h, rfl⟩
      · refine At.seg 6 [0] [] (s' := ⟨[(0, .c (.d (.bool false)))], []⟩) (c := True ∧ True ∧ True) (by kernel_rfl) ⟨trivial, trivial, trivial⟩ ?_
        refine At.done rfl ?_
        exact ⟨_, h, rfl⟩
    · refine At.seg 12 [0] [] (s' := ⟨[(0, .c (.d (.bool false)))], []⟩) (c := True ∧ True ∧ True ∧ True ∧ True) (by kernel_rfl) ⟨trivial, trivial, trivial, trivial, trivial⟩ ?_
      refine At.done rfl ?_
      exact ⟨_, h, rfl⟩

end Go.Av