import Derived.Test.YtoiphmpjiobaiaaM5b
namespace Go.Av
open Go Go.Proofs
set_option linter.unusedVariables false
set_option linter.unusedSimpArgs false

set_option maxRecDepth 100000 in
theorem moment_fold__greatest_ok {p1 : List Time} {q : Time} (h : moment_fold__greatest p1 = some q) :
    Summ Try.prog 34 [.c (.d (.fn 35 [])), .c (.d (.list 3 p1.length (fun i => encTime (p1.getD i default))))] [] (.agg [.d (.int .u64 q.epoch), .d (.int .u64 q.loop.1), .d (.int .u64 q.loop.2)]) [] := by
  refine Summ.intro Try.func34 rfl (by kernel_rfl) (by kernel_rfl) ?_
  rintro ⟨P, w0, G0, V, LL, lk, N⟩ rfl rfl rfl
  unfold moment_fold__greatest at h
  refine Tri.seqS ?_
  refine Tri.reg ?_
  refine At.seg 1 [0, 1, 4] [4] (s' := ⟨[(0, .c (.d (.fn 35 []))), (1, .c (.d (.list 3 p1.length (fun i => encTime (p1.getD i default))))), (4, .c (.ptr 4 0))], [(4, .box [.d (.int .u64 0), .d (.int .u64 0), .d (.int .u64 0)])]⟩) (c := True ∧ True) (by kernel_rfl) ⟨trivial, trivial⟩ ?_
  refine At.done rfl ?_
  show Tri _ _ _ _
  refine Tri.seqS ?_
  refine Tri.seqS ?_
  refine Tri.reg ?_
  refine At.seg 3 [0, 4, 8, 9, 10] [4] (s' := ⟨[(0, .c (.d (.fn 35 []))), (4, .c (.ptr 4 0)), (8, .c (.d (.list 3 p1.length (fun i => encTime (p1.getD i default))))), (9, .c (.d (.int .i64 (p1.length : Int)))), (10, .c (.d (.int .i64 0)))], [(4, .box [.d (.int .u64 0), .d (.int .u64 0), .d (.int .u64 0)])]⟩) (c := True ∧ True ∧ True ∧ True) (by kernel_rfl) ⟨trivial, trivial, trivial, trivial⟩ ?_
  refine At.done rfl ?_
  show Tri _ _ _ _
  refine Tri.lenOf (t := 8) rfl fun hlena2 => ?_
  refine Tri.keep [10, 0, 4, 8, 9] [4] (s' := idx 10 0 ⟨[(0, .c (.d (.fn 35 []))), (4, .c (.ptr 4 0)), (8, .c (.d (.list 3 p1.length (fun i => encTime (p1.getD i default))))), (9, .c (.d (.int .i64 (p1.length : Int))))], [(4, .box [.d (.int .u64 ((⟨0, (0, 0)⟩ : Time).epoch)), .d (.int .u64 ((⟨0, (0, 0)⟩ : Time).loop.1)), .d (.int .u64 ((⟨0, (0, 0)⟩ : Time).loop.2))])]⟩) (by kernel_rfl) ?_
  refine Tri.range (n := p1.length) (st0 := (⟨0, (0, 0)⟩ : Time)) (fun (x : Empty) s => False) (fun (a2 : Time) => ⟨[(0, .c (.d (.fn 35 []))), (4, .c (.ptr 4 0)), (8, .c (.d (.list 3 p1.length (fun i => encTime (p1.getD i default))))), (9, .c (.d (.int .i64 (p1.length : Int))))], [(4, .box [.d (.int .u64 a2.epoch), .d (.int .u64 a2.loop.1), .d (.int .u64 a2.loop.2)])]⟩) (fun (a2 : Time) => ⟨[(0, .c (.d (.fn 35 []))), (4, .c (.ptr 4 0)), (8, .c (.d (.list 3 p1.length (fun i => encTime (p1.getD i default))))), (9, .c (.d (.int .i64 (p1.length : Int))))], [(4, .box [.d (.int .u64 a2.epoch), .d (.int .u64 a2.loop.1), .d (.int .u64 a2.loop.2)])]⟩) (fun i => decide ((i : Int) < (p1.length : Int))) [11, 10, 0, 4, 8, 9] [4] [0, 4, 8, 9] [4] [10, 0, 4, 8, 9] [4] h hlena2 rfl ?_ ?_ ?_ ?_ ?_ ?_ ?_ ?_
  · exact fun i a => ⟨True ∧ True, by kernel_rfl, ⟨trivial, trivial⟩⟩
  · exact fun i hi => decide_eq_true (by omega)
  · exact decide_eq_false (by omega)
  · exact fun a => by kernel_rfl
  · exact fun i a => ⟨True ∧ True ∧ True, by kernel_rfl, ⟨trivial, trivial, trivial⟩⟩
  · intro i1 a2 c hii1 h
    refine Tri.seqS ?_
    refine Tri.reg ?_
    refine At.seg 6 [0, 4, 5, 6, 8, 9, 10] [4, 6] (s' := ⟨[(0, .c (.d (.fn 35 []))), (4, .c (.ptr 4 0)), (5, .c (.d (.int .i64 ((i1 : Nat) : Int)))), (6, .c (.ptr 6 0)), (8, .c (.d (.list 3 p1.length (fun i => encTime (p1.getD i default))))), (9, .c (.d (.int .i64 (p1.length : Int)))), (10, .c (.d (.int .i64 ((i1 : Nat) : Int))))], [(4, .box [.d (.int .u64 a2.epoch), .d (.int .u64 a2.loop.1), .d (.int .u64 a2.loop.2)]), (6, .box [.d (.int .u64 ((p1.getD i1 default).epoch)), .d (.int .u64 ((p1.getD i1 default).loop.1)), .d (.int .u64 ((p1.getD i1 default).loop.2))])]⟩) (c := True ∧ ((0 : Int) ≤ ((i1 : Nat) : Int) ∧ ((i1 : Nat) : Int) < (p1.length : Int)) ∧ True ∧ True ∧ True ∧ True ∧ True) (by kernel_rfl) ⟨trivial, ⟨by omega, by omega⟩, trivial, trivial, trivial, trivial, trivial⟩ ?_
    refine At.done rfl ?_
    show Tri _ _ _ _
    refine Tri.seqJ (fun (a4 : Time) => ⟨[(0, .c (.d (.fn 35 []))), (4, .c (.ptr 4 0)), (6, .c (.ptr 6 0)), (8, .c (.d (.list 3 p1.length (fun i => encTime (p1.getD i default))))), (9, .c (.d (.int .i64 (p1.length : Int)))), (10, .c (.d (.int .i64 ((i1 : Nat) : Int))))], [(4, .box [.d (.int .u64 a4.epoch), .d (.int .u64 a4.loop.1), .d (.int .u64 a4.loop.2)]), (6, .box [.d (.int .u64 ((p1.getD i1 default).epoch)), .d (.int .u64 ((p1.getD i1 default).loop.1)), .d (.int .u64 ((p1.getD i1 default).loop.2))])]⟩) h (fun a4 h => ?_) (fun j5 h => ?_)
    · show Tri _ _ ⟨[(0, .c (.d (.fn 35 []))), (4, .c (.ptr 4 0)), (6, .c (.ptr 6 0)), (8, .c (.d (.list 3 p1.length (fun i => encTime (p1.getD i default))))), (9, .c (.d (.int .i64 (p1.length : Int)))), (10, .c (.d (.int .i64 ((i1 : Nat) : Int))))], [(4, .box [.d (.int .u64 a4.epoch), .d (.int .u64 a4.loop.1), .d (.int .u64 a4.loop.2)]), (6, .box [.d (.int .u64 ((p1.getD i1 default).epoch)), .d (.int .u64 ((p1.getD i1 default).loop.1)), .d (.int .u64 ((p1.getD i1 default).loop.2))])]⟩ _
      refine Tri.seqS ?_
      refine Tri.reg ?_
      refine At.seg 5 [0, 4, 6, 8, 9, 10, 18, 20, 22] [4, 6] (s' := ⟨[(0, .c (.d (.fn 35 []))), (4, .c (.ptr 4 0)), (6, .c (.ptr 6 0)), (8, .c (.d (.list 3 p1.length (fun i => encTime (p1.getD i default))))), (9, .c (.d (.int .i64 (p1.length : Int)))), (10, .c (.d (.int .i64 ((i1 : Nat) : Int)))), (18, .c (.d (.fn 35 []))), (20, .c (.d (.int .u64 a4.epoch))), (22, .c (.d (.int .u64 ((p1.getD i1 default).epoch))))], [(4, .box [.d (.int .u64 a4.epoch), .d (.int .u64 a4.loop.1), .d (.int .u64 a4.loop.2)]), (6, .box [.d (.int .u64 ((p1.getD i1 default).epoch)), .d (.int .u64 ((p1.getD i1 default).loop.1)), .d (.int .u64 ((p1.getD i1 default).loop.2))])]⟩) (c := True ∧ True ∧ True ∧ True ∧ True ∧ True) (by kernel_rfl) ⟨trivial, trivial, trivial, trivial, trivial, trivial⟩ ?_
      obtain ⟨r6, hr6, h⟩ := bind_elim h
      refine At.callA (caps := []) (xs := [.c (.d (.int .u64 a4.epoch)), .c (.d (.int .u64 ((p1.getD i1 default).epoch)))]) (moment_greatest_ok hr6) rfl rfl rfl rfl rfl rfl (.cons (.refl _) (.cons (.refl _) .nil)) rfl rfl ?_
      refine At.seg 2 [0, 4, 6, 8, 9, 10] [4, 6] (s' := ⟨[(0, .c (.d (.fn 35 []))), (4, .c (.ptr 4 0)), (6, .c (.ptr 6 0)), (8, .c (.d (.list 3 p1.length (fun i => encTime (p1.getD i default))))), (9, .c (.d (.int .i64 (p1.length : Int)))), (10, .c (.d (.int .i64 ((i1 : Nat) : Int))))], [(4, .box [.d (.int .u64 r6), .d (.int .u64 a4.loop.1), .d (.int .u64 a4.loop.2)]), (6, .box [.d (.int .u64 ((p1.getD i1 default).epoch)), .d (.int .u64 ((p1.getD i1 default).loop.1)), .d (.int .u64 ((p1.getD i1 default).loop.2))])]⟩) (c := True ∧ True ∧ True) (by kernel_rfl) ⟨trivial, trivial, trivial⟩ ?_
      refine At.done rfl ?_
      show Tri _ _ _ _
      refine Tri.seqS ?_
      refine Tri.reg ?_
      refine At.seg 1 [0, 4, 6, 8, 9, 10, 25] [4, 6] (s' := ⟨[(0, .c (.d (.fn 35 []))), (4, .c (.ptr 4 0)), (6, .c (.ptr 6 0)), (8, .c (.d (.list 3 p1.length (fun i => encTime (p1.getD i default))))), (9, .c (.d (.int .i64 (p1.length : Int)))), (10, .c (.d (.int .i64 ((i1 : Nat) : Int)))), (25, .c (.d (.int .i64 0)))], [(4, .box [.d (.int .u64 r6), .d (.int .u64 a4.loop.1), .d (.int .u64 a4.loop.2)]), (6, .box [.d (.int .u64 ((p1.getD i1 default).epoch)), .d (.int .u64 ((p1.getD i1 default).loop.1)), .d (.int .u64 ((p1.getD i1 default).loop.2))])]⟩) (c := True ∧ True) (by kernel_rfl) ⟨trivial, trivial⟩ ?_
      refine At.done rfl ?_
      show Tri _ _ _ _
      refine Tri.keep [25, 0, 4, 6, 8, 9, 10] [4, 6] (s' := idx 25 0 ⟨[(0, .c (.d (.fn 35 []))), (4, .c (.ptr 4 0)), (6, .c (.ptr 6 0)), (8, .c (.d (.list 3 p1.length (fun i => encTime (p1.getD i default))))), (9, .c (.d (.int .i64 (p1.length : Int)))), (10, .c (.d (.int .i64 ((i1 : Nat) : Int))))], [(4, .box [.d (.int .u64 ((⟨r6, a4.loop⟩ : Time).epoch)), .d (.int .u64 ((⟨r6, a4.loop⟩ : Time).loop.1)), .d (.int .u64 ((⟨r6, a4.loop⟩ : Time).loop.2))]), (6, .box [.d (.int .u64 ((p1.getD i1 default).epoch)), .d (.int .u64 ((p1.getD i1 default).loop.1)), .d (.int .u64 ((p1.getD i1 default).loop.2))])]⟩) (by kernel_rfl) ?_
      refine Tri.range (n := 2) (st0 := (⟨r6, a4.loop⟩ : Time)) (fun (x : Empty) s => False) (fun (a8 : Time) => ⟨[(0, .c (.d (.fn 35 []))), (4, .c (.ptr 4 0)), (6, .c (.ptr 6 0)), (8, .c (.d (.list 3 p1.length (fun i => encTime (p1.getD i default))))), (9, .c (.d (.int .i64 (p1.length : Int)))), (10, .c (.d (.int .i64 ((i1 : Nat) : Int))))], [(4, .box [.d (.int .u64 a8.epoch), .d (.int .u64 a8.loop.1), .d (.int .u64 a8.loop.2)]), (6, .box [.d (.int .u64 ((p1.getD i1 default).epoch)), .d (.int .u64 ((p1.getD i1 default).loop.1)), .d (.int .u64 ((p1.getD i1 default).loop.2))])]⟩) (fun (a8 : Time) => ⟨[(10, .c (.d (.int .i64 ((i1 : Nat) : Int)))), (0, .c (.d (.fn 35 []))), (4, .c (.ptr 4 0)), (8, .c (.d (.list 3 p1.length (fun i => encTime (p1.getD i default))))), (9, .c (.d (.int .i64 (p1.length : Int))))], [(4, .box [.d (.int .u64 a8.epoch), .d (.int .u64 a8.loop.1), .d (.int .u64 a8.loop.2)])]⟩) (fun i => decide ((i : Int) < (2 : Int))) [26, 25, 0, 4, 6, 8, 9, 10] [4, 6] [10, 0, 4, 8, 9] [4] [25, 0, 4, 6, 8, 9, 10] [4, 6] h (by unfold maxN; omega) rfl ?_ ?_ ?_ ?_ ?_ ?_ ?_ ?_
      · exact fun i a => ⟨True ∧ True, by kernel_rfl, ⟨trivial, trivial⟩⟩
      · exact fun i hi => decide_eq_true (by omega)
      · exact decide_eq_false (by omega)
      · exact fun a => by kernel_rfl
      · exact fun i a => ⟨True ∧ True ∧ True, by kernel_rfl, ⟨trivial, trivial, trivial⟩⟩
      · intro i7 a8 c hii7 h
        rcases i7 with _ | i7
        · refine Tri.seqS ?_
          refine Tri.reg ?_
          refine At.seg 2 [0, 4, 6, 7, 8, 9, 10, 25] [4, 6] (s' := ⟨[(0, .c (.d (.fn 35 []))), (4, .c (.ptr 4 0)), (6, .c (.ptr 6 0)), (7, .c (.d (.int .i64 ((0 : Nat) : Int)))), (8, .c (.d (.list 3 p1.length (fun i => encTime (p1.getD i default))))), (9, .c (.d (.int .i64 (p1.length : Int)))), (10, .c (.d (.int .i64 ((i1 : Nat) : Int)))), (25, .c (.d (.int .i64 ((0 : Nat) : Int))))], [(4, .box [.d (.int .u64 a8.epoch), .d (.int .u64 a8.loop.1), .d (.int .u64 a8.loop.2)]), (6, .box [.d (.int .u64 ((p1.getD i1 default).epoch)), .d (.int .u64 ((p1.getD i1 default).loop.1)), .d (.int .u64 ((p1.getD i1 default).loop.2))])]⟩) (c := True ∧ True ∧ True) (by kernel_rfl) ⟨trivial, trivial, trivial⟩ ?_
          refine At.done rfl ?_
          show Tri _ _ _ _
          obtain ⟨r10, hr10, h⟩ := bind_elim h
          refine Tri.drawn (specs := [⟨⟨[(7, .c (.d (.int .i64 ((0 : Nat) : Int))))], []⟩, ⟨[(28, .c (.d (.int .i64 ((0 : Nat) : Int))))], []⟩, [], []⟩, ⟨⟨[(0, .c (.d (.fn 35 [])))], []⟩, ⟨[(29, .c (.d (.fn 35 [])))], []⟩, [], []⟩, ⟨⟨[(7, .c (.d (.int .i64 ((0 : Nat) : Int))))], []⟩, ⟨[(30, .c (.d (.int .i64 ((0 : Nat) : Int))))], []⟩, [], []⟩, ⟨⟨[(4, .c (.ptr 4 0))], []⟩, ⟨[(31, .c (.ptr 4 1))], []⟩, [], []⟩, ⟨⟨[(30, .c (.d (.int .i64 ((0 : Nat) : Int)))), (31, .c (.ptr 4 1))], [(4, .box [.d (.int .u64 a8.epoch), .d (.int .u64 a8.loop.1), .d (.int .u64 a8.loop.2)])]⟩, ⟨[(32, .c (.ptr 4 1))], []⟩, [], []⟩, ⟨⟨[(32, .c (.ptr 4 1))], [(4, .box [.d (.int .u64 a8.epoch), .d (.int .u64 a8.loop.1), .d (.int .u64 a8.loop.2)])]⟩, ⟨[(33, .c (.d (.int .u64 a8.loop.1)))], []⟩, [], []⟩, ⟨⟨[(7, .c (.d (.int .i64 ((0 : Nat) : Int))))], []⟩, ⟨[(34, .c (.d (.int .i64 ((0 : Nat) : Int))))], []⟩, [], []⟩, ⟨⟨[(6, .c (.ptr 6 0))], []⟩, ⟨[(35, .c (.ptr 6 1))], []⟩, [], []⟩, ⟨⟨[(34, .c (.d (.int .i64 ((0 : Nat) : Int)))), (35, .c (.ptr 6 1))], [(6, .box [.d (.int .u64 ((p1.getD i1 default).epoch)), .d (.int .u64 ((p1.getD i1 default).loop.1)), .d (.int .u64 ((p1.getD i1 default).loop.2))])]⟩, ⟨[(36, .c (.ptr 6 1))], []⟩, [], []⟩, ⟨⟨[(36, .c (.ptr 6 1))], [(6, .box [.d (.int .u64 ((p1.getD i1 default).epoch)), .d (.int .u64 ((p1.getD i1 default).loop.1)), .d (.int .u64 ((p1.getD i1 default).loop.2))])]⟩, ⟨[(37, .c (.d (.int .u64 ((p1.getD i1 default).loop.1))))], []⟩, [], []⟩, ⟨⟨[(29, .c (.d (.fn 35 []))), (33, .c (.d (.int .u64 a8.loop.1))), (37, .c (.d (.int .u64 ((p1.getD i1 default).loop.1))))], []⟩, ⟨[(38, .c (.d (.int .u64 r10)))], []⟩, [], []⟩, ⟨⟨[(4, .c (.ptr 4 0))], []⟩, ⟨[(39, .c (.ptr 4 1))], []⟩, [], []⟩, ⟨⟨[(28, .c (.d (.int .i64 ((0 : Nat) : Int)))), (39, .c (.ptr 4 1))], [(4, .box [.d (.int .u64 a8.epoch), .d (.int .u64 a8.loop.1), .d (.int .u64 a8.loop.2)])]⟩, ⟨[(40, .c (.ptr 4 1))], []⟩, [], []⟩, ⟨⟨[(38, .c (.d (.int .u64 r10))), (40, .c (.ptr 4 1))], [(4, .box [.d (.int .u64 a8.epoch), .d (.int .u64 a8.loop.1), .d (.int .u64 a8.loop.2)])]⟩, ⟨[], [(4, .box [.d (.int .u64 a8.epoch), .d (.int .u64 r10), .d (.int .u64 a8.loop.2)])]⟩, [], []⟩]) (bef := [[], [], [], [], [2, 3], [2, 3, 4], [], [], [6, 7], [6, 7, 8], [1, 2, 3, 4, 5, 6, 7, 8, 9], [], [0, 1, 2, 3, 4, 5, 6, 7, 8, 9, 10, 11], [0, 1, 2, 3, 4, 5, 6, 7, 8, 9, 10, 11, 12]]) (tk := [25, 0, 4, 6, 8, 9, 10]) (sk := [4, 6]) (s' := ⟨[(25, .c (.d (.int .i64 ((0 : Nat) : Int)))), (0, .c (.d (.fn 35 []))), (4, .c (.ptr 4 0)), (6, .c (.ptr 6 0)), (8, .c (.d (.list 3 p1.length (fun i => encTime (p1.getD i default))))), (9, .c (.d (.int .i64 (p1.length : Int)))), (10, .c (.d (.int .i64 ((i1 : Nat) : Int))))], [(4, .box [.d (.int .u64 a8.epoch), .d (.int .u64 r10), .d (.int .u64 a8.loop.2)]), (6, .box [.d (.int .u64 ((p1.getD i1 default).epoch)), .d (.int .u64 ((p1.getD i1 default).loop.1)), .d (.int .u64 ((p1.getD i1 default).loop.2))])]⟩) (by kernel_rfl) (by kernel_rfl) (by kernel_rfl) ⟨?_, ?_, ?_, ?_, ?_, ?_, ?_, ?_, ?_, ?_, ?_, ?_, ?_, ?_, trivial⟩ (by kernel_rfl) ?_
          · exact DOk.step (.val (.c (.d (.int .i64 ((0 : Nat) : Int)))) (True)) (fun r => by kernel_rfl) (fun r => by kernel_rfl) trivial (by kernel_rfl) (by kernel_rfl) (fun r => rfl)
          · exact DOk.step (.val (.c (.d (.fn 35 []))) (True)) (fun r => by kernel_rfl) (fun r => by kernel_rfl) trivial (by kernel_rfl) (by kernel_rfl) (fun r => rfl)
          · exact DOk.step (.val (.c (.d (.int .i64 ((0 : Nat) : Int)))) (True)) (fun r => by kernel_rfl) (fun r => by kernel_rfl) trivial (by kernel_rfl) (by kernel_rfl) (fun r => rfl)
          · exact DOk.step (.val (.c (.ptr 4 1)) (True)) (fun r => by kernel_rfl) (fun r => by kernel_rfl) trivial (by kernel_rfl) (by kernel_rfl) (fun r => rfl)
          · exact DOk.step (.val (.c (.ptr 4 1)) (True)) (fun r => by kernel_rfl) (fun r => by kernel_rfl) trivial (by kernel_rfl) (by kernel_rfl) (fun r => rfl)
          · exact DOk.step (.val (.c (.d (.int .u64 a8.loop.1))) (True)) (fun r => by kernel_rfl) (fun r => by kernel_rfl) trivial (by kernel_rfl) (by kernel_rfl) (fun r => rfl)
          · exact DOk.step (.val (.c (.d (.int .i64 ((0 : Nat) : Int)))) (True)) (fun r => by kernel_rfl) (fun r => by kernel_rfl) trivial (by kernel_rfl) (by kernel_rfl) (fun r => rfl)
          · exact DOk.step (.val (.c (.ptr 6 1)) (True)) (fun r => by kernel_rfl) (fun r => by kernel_rfl) trivial (by kernel_rfl) (by kernel_rfl) (fun r => rfl)
          · exact DOk.step (.val (.c (.ptr 6 1)) (True)) (fun r => by kernel_rfl) (fun r => by kernel_rfl) trivial (by kernel_rfl) (by kernel_rfl) (fun r => rfl)
          · exact DOk.step (.val (.c (.d (.int .u64 ((p1.getD i1 default).loop.1)))) (True)) (fun r => by kernel_rfl) (fun r => by kernel_rfl) trivial (by kernel_rfl) (by kernel_rfl) (fun r => rfl)
          · exact DOk.callA (caps := []) (xs := [.c (.d (.int .u64 a8.loop.1)), .c (.d (.int .u64 ((p1.getD i1 default).loop.1)))]) (moment_greatest_ok hr10) rfl (fun r => by kernel_rfl) rfl (fun r => by kernel_rfl) (fun r => by kernel_rfl) (fun r => (.cons (.refl _) (.cons (.refl _) .nil))) rfl rfl (fun r => rfl)
          · exact DOk.step (.val (.c (.ptr 4 1)) (True)) (fun r => by kernel_rfl) (fun r => by kernel_rfl) trivial (by kernel_rfl) (by kernel_rfl) (fun r => rfl)
          · exact DOk.step (.val (.c (.ptr 4 1)) (True)) (fun r => by kernel_rfl) (fun r => by kernel_rfl) trivial (by kernel_rfl) (by kernel_rfl) (fun r => rfl)
          · exact DOk.step (.turn 4 (.box [.d (.int .u64 a8.epoch), .d (.int .u64 r10), .d (.int .u64 a8.loop.2)])) (fun r => by kernel_rfl) (fun r => by kernel_rfl) trivial (by kernel_rfl) (by kernel_rfl) (fun r => rfl)
          cases h
          exact rfl
        rcases i7 with _ | i7
        · refine Tri.seqS ?_
          refine Tri.reg ?_
          refine At.seg 2 [0, 4, 6, 7, 8, 9, 10, 25] [4, 6] (s' := ⟨[(0, .c (.d (.fn 35 []))), (4, .c (.ptr 4 0)), (6, .c (.ptr 6 0)), (7, .c (.d (.int .i64 ((1 : Nat) : Int)))), (8, .c (.d (.list 3 p1.length (fun i => encTime (p1.getD i default))))), (9, .c (.d (.int .i64 (p1.length : Int)))), (10, .c (.d (.int .i64 ((i1 : Nat) : Int)))), (25, .c (.d (.int .i64 ((1 : Nat) : Int))))], [(4, .box [.d (.int .u64 a8.epoch), .d (.int .u64 a8.loop.1), .d (.int .u64 a8.loop.2)]), (6, .box [.d (.int .u64 ((p1.getD i1 default).epoch)), .d (.int .u64 ((p1.getD i1 default).loop.1)), .d (.int .u64 ((p1.getD i1 default).loop.2))])]⟩) (c := True ∧ True ∧ True) (by kernel_rfl) ⟨trivial, trivial, trivial⟩ ?_
          refine At.done rfl ?_
          show Tri _ _ _ _
          obtain ⟨r11, hr11, h⟩ := bind_elim h
          refine Tri.drawn (specs := [⟨⟨[(7, .c (.d (.int .i64 ((1 : Nat) : Int))))], []⟩, ⟨[(28, .c (.d (.int .i64 ((1 : Nat) : Int))))], []⟩, [], []⟩, ⟨⟨[(0, .c (.d (.fn 35 [])))], []⟩, ⟨[(29, .c (.d (.fn 35 [])))], []⟩, [], []⟩, ⟨⟨[(7, .c (.d (.int .i64 ((1 : Nat) : Int))))], []⟩, ⟨[(30, .c (.d (.int .i64 ((1 : Nat) : Int))))], []⟩, [], []⟩, ⟨⟨[(4, .c (.ptr 4 0))], []⟩, ⟨[(31, .c (.ptr 4 1))], []⟩, [], []⟩, ⟨⟨[(30, .c (.d (.int .i64 ((1 : Nat) : Int)))), (31, .c (.ptr 4 1))], [(4, .box [.d (.int .u64 a8.epoch), .d (.int .u64 a8.loop.1), .d (.int .u64 a8.loop.2)])]⟩, ⟨[(32, .c (.ptr 4 2))], []⟩, [], []⟩, ⟨⟨[(32, .c (.ptr 4 2))], [(4, .box [.d (.int .u64 a8.epoch), .d (.int .u64 a8.loop.1), .d (.int .u64 a8.loop.2)])]⟩, ⟨[(33, .c (.d (.int .u64 a8.loop.2)))], []⟩, [], []⟩, ⟨⟨[(7, .c (.d (.int .i64 ((1 : Nat) : Int))))], []⟩, ⟨[(34, .c (.d (.int .i64 ((1 : Nat) : Int))))], []⟩, [], []⟩, ⟨⟨[(6, .c (.ptr 6 0))], []⟩, ⟨[(35, .c (.ptr 6 1))], []⟩, [], []⟩, ⟨⟨[(34, .c (.d (.int .i64 ((1 : Nat) : Int)))), (35, .c (.ptr 6 1))], [(6, .box [.d (.int .u64 ((p1.getD i1 default).epoch)), .d (.int .u64 ((p1.getD i1 default).loop.1)), .d (.int .u64 ((p1.getD i1 default).loop.2))])]⟩, ⟨[(36, .c (.ptr 6 2))], []⟩, [], []⟩, ⟨⟨[(36, .c (.ptr 6 2))], [(6, .box [.d (.int .u64 ((p1.getD i1 default).epoch)), .d (.int .u64 ((p1.getD i1 default).loop.1)), .d (.int .u64 ((p1.getD i1 default).loop.2))])]⟩, ⟨[(37, .c (.d (.int .u64 ((p1.getD i1 default).loop.2))))], []⟩, [], []⟩, ⟨⟨[(29, .c (.d (.fn 35 []))), (33, .c (.d (.int .u64 a8.loop.2))), (37, .c (.d (.int .u64 ((p1.getD i1 default).loop.2))))], []⟩, ⟨[(38, .c (.d (.int .u64 r11)))], []⟩, [], []⟩, ⟨⟨[(4, .c (.ptr 4 0))], []⟩, ⟨[(39, .c (.ptr 4 1))], []⟩, [], []⟩, ⟨⟨[(28, .c (.d (.int .i64 ((1 : Nat) : Int)))), (39, .c (.ptr 4 1))], [(4, .box [.d (.int .u64 a8.epoch), .d (.int .u64 a8.loop.1), .d (.int .u64 a8.loop.2)])]⟩, ⟨[(40, .c (.ptr 4 2))], []⟩, [], []⟩, ⟨⟨[(38, .c (.d (.int .u64 r11))), (40, .c (.ptr 4 2))], [(4, .box [.d (.int .u64 a8.epoch), .d (.int .u64 a8.loop.1), .d (.int .u64 a8.loop.2)])]⟩, ⟨[], [(4, .box [.d (.int .u64 a8.epoch), .d (.int .u64 a8.loop.1), .d (.int .u64 r11)])]⟩, [], []⟩]) (bef := [[], [], [], [], [2, 3], [2, 3, 4], [], [], [6, 7], [6, 7, 8], [1, 2, 3, 4, 5, 6, 7, 8, 9], [], [0, 1, 2, 3, 4, 5, 6, 7, 8, 9, 10, 11], [0, 1, 2, 3, 4, 5, 6, 7, 8, 9, 10, 11, 12]]) (tk := [25, 0, 4, 6, 8, 9, 10]) (sk := [4, 6]) (s' := ⟨[(25, .c (.d (.int .i64 ((1 : Nat) : Int)))), (0, .c (.d (.fn 35 []))), (4, .c (.ptr 4 0)), (6, .c (.ptr 6 0)), (8, .c (.d (.list 3 p1.length (fun i => encTime (p1.getD i default))))), (9, .c (.d (.int .i64 (p1.length : Int)))), (10, .c (.d (.int .i64 ((i1 : Nat) : Int))))], [(4, .box [.d (.int .u64 a8.epoch), .d (.int .u64 a8.loop.1), .d (.int .u64 r11)]), (6, .box [.d (.int .u64 ((p1.getD i1 default).epoch)), .d (.int .u64 ((p1.getD i1 default).loop.1)), .d (.int .u64 ((p1.getD i1 default).loop.2))])]⟩) (by kernel_rfl) (by kernel_rfl) (by kernel_rfl) ⟨?_, ?_, ?_, ?_, ?_, ?_, ?_, ?_, ?_, ?_, ?_, ?_, ?_, ?_, trivial⟩ (by kernel_rfl) ?_
          · exact DOk.step (.val (.c (.d (.int .i64 ((1 : Nat) : Int)))) (True)) (fun r => by kernel_rfl) (fun r => by kernel_rfl) trivial (by kernel_rfl) (by kernel_rfl) (fun r => rfl)
          · exact DOk.step (.val (.c (.d (.fn 35 []))) (True)) (fun r => by kernel_rfl) (fun r => by kernel_rfl) trivial (by kernel_rfl) (by kernel_rfl) (fun r => rfl)
          · exact DOk.step (.val (.c (.d (.int .i64 ((1 : Nat) : Int)))) (True)) (fun r => by kernel_rfl) (fun r => by kernel_rfl) trivial (by kernel_rfl) (by kernel_rfl) (fun r => rfl)
          · exact DOk.step (.val (.c (.ptr 4 1)) (True)) (fun r => by kernel_rfl) (fun r => by kernel_rfl) trivial (by kernel_rfl) (by kernel_rfl) (fun r => rfl)
          · exact DOk.step (.val (.c (.ptr 4 2)) (True)) (fun r => by kernel_rfl) (fun r => by kernel_rfl) trivial (by kernel_rfl) (by kernel_rfl) (fun r => rfl)
          · exact DOk.step (.val (.c (.d (.int .u64 a8.loop.2))) (True)) (fun r => by kernel_rfl) (fun r => by kernel_rfl) trivial (by kernel_rfl) (by kernel_rfl) (fun r => rfl)
          · exact DOk.step (.val (.c (.d (.int .i64 ((1 : Nat) : Int)))) (True)) (fun r => by kernel_rfl) (fun r => by kernel_rfl) trivial (by kernel_rfl) (by kernel_rfl) (fun r => rfl)
          · exact DOk.step (.val (.c (.ptr 6 1)) (True)) (fun r => by kernel_rfl) (fun r => by kernel_rfl) trivial (by kernel_rfl) (by kernel_rfl) (fun r => rfl)
          · exact DOk.step (.val (.c (.ptr 6 2)) (True)) (fun r => by kernel_rfl) (fun r => by kernel_rfl) trivial (by kernel_rfl) (by kernel_rfl) (fun r => rfl)
          · exact DOk.step (.val (.c (.d (.int .u64 ((p1.getD i1 default).loop.2)))) (True)) (fun r => by kernel_rfl) (fun r => by kernel_rfl) trivial (by kernel_rfl) (by kernel_rfl) (fun r => rfl)
          · exact DOk.callA (caps := []) (xs := [.c (.d (.int .u64 a8.loop.2)), .c (.d (.int .u64 ((p1.getD i1 default).loop.2)))]) (moment_greatest_ok hr11) rfl (fun r => by kernel_rfl) rfl (fun r => by kernel_rfl) (fun r => by kernel_rfl) (fun r => (.cons (.refl _) (.cons (.refl _) .nil))) rfl rfl (fun r => rfl)
          · exact DOk.step (.val (.c (.ptr 4 1)) (True)) (fun r => by kernel_rfl) (fun r => by kernel_rfl) trivial (by kernel_rfl) (by kernel_rfl) (fun r => rfl)
          · exact DOk.step (.val (.c (.ptr 4 2)) (True)) (fun r => by kernel_rfl) (fun r => by kernel_rfl) trivial (by kernel_rfl) (by kernel_rfl) (fun r => rfl)
          · exact DOk.step (.turn 4 (.box [.d (.int .u64 a8.epoch), .d (.int .u64 a8.loop.1), .d (.int .u64 r11)])) (fun r => by kernel_rfl) (fun r => by kernel_rfl) trivial (by kernel_rfl) (by kernel_rfl) (fun r => rfl)
          cases h
          exact rfl
        exact absurd hii7 (by omega)
      · intro a9 h
        cases h
        exact rfl
      · exact fun x => x.elim
    · refine Tri.seqS ?_
      refine Tri.reg ?_
      refine At.seg 2 [0, 4, 6, 8, 9, 10, 16] [4, 6] (s' := ⟨[(0, .c (.d (.fn 35 []))), (4, .c (.ptr 4 0)), (6, .c (.ptr 6 0)), (8, .c (.d (.list 3 p1.length (fun i => encTime (p1.getD i default))))), (9, .c (.d (.int .i64 (p1.length : Int)))), (10, .c (.d (.int .i64 ((i1 : Nat) : Int)))), (16, .c (.d (.bool (decide (((i1 : Nat) : Int) = 0)))))], [(4, .box [.d (.int .u64 a2.epoch), .d (.int .u64 a2.loop.1), .d (.int .u64 a2.loop.2)]), (6, .box [.d (.int .u64 ((p1.getD i1 default).epoch)), .d (.int .u64 ((p1.getD i1 default).loop.1)), .d (.int .u64 ((p1.getD i1 default).loop.2))])]⟩) (c := True ∧ True ∧ True) (by kernel_rfl) ⟨trivial, trivial, trivial⟩ ?_
      refine At.done rfl ?_
      show Tri _ _ _ _
      refine Tri.condP (b := (decide (((i1 : Nat) : Int) = 0))) rfl h (fun h => ?_) (fun h => ?_)
      · refine Tri.reg ?_
        refine At.seg 2 [0, 4, 6, 8, 9, 10] [4, 6] (s' := ⟨[(0, .c (.d (.fn 35 []))), (4, .c (.ptr 4 0)), (6, .c (.ptr 6 0)), (8, .c (.d (.list 3 p1.length (fun i => encTime (p1.getD i default))))), (9, .c (.d (.int .i64 (p1.length : Int)))), (10, .c (.d (.int .i64 ((i1 : Nat) : Int))))], [(4, .box [.d (.int .u64 ((p1.getD i1 default).epoch)), .d (.int .u64 ((p1.getD i1 default).loop.1)), .d (.int .u64 ((p1.getD i1 default).loop.2))]), (6, .box [.d (.int .u64 ((p1.getD i1 default).epoch)), .d (.int .u64 ((p1.getD i1 default).loop.1)), .d (.int .u64 ((p1.getD i1 default).loop.2))])]⟩) (c := True ∧ True ∧ True) (by kernel_rfl) ⟨trivial, trivial, trivial⟩ ?_
        refine At.done rfl ?_
        exact ⟨_, h, rfl⟩
      · refine Tri.keep [0, 4, 6, 8, 9, 10] [4, 6] (s' := ⟨[(0, .c (.d (.fn 35 []))), (4, .c (.ptr 4 0)), (6, .c (.ptr 6 0)), (8, .c (.d (.list 3 p1.length (fun i => encTime (p1.getD i default))))), (9, .c (.d (.int .i64 (p1.length : Int)))), (10, .c (.d (.int .i64 ((i1 : Nat) : Int))))], [(4, .box [.d (.int .u64 a2.epoch), .d (.int .u64 a2.loop.1), .d (.int .u64 a2.loop.2)]), (6, .box [.d (.int .u64 ((p1.getD i1 default).epoch)), .d (.int .u64 ((p1.getD i1 default).loop.1)), .d (.int .u64 ((p1.getD i1 default).loop.2))])]⟩) (by kernel_rfl) ?_
        refine Tri.skip ?_
        exact ⟨_, h, rfl⟩
  · intro a3 h
    show Tri _ _ _ _
    refine Tri.seqS ?_
    refine Tri.reg ?_
    refine At.seg 2 [4] [4] (s' := ⟨[(4, .c (.ptr 4 0))], [(4, .box [.d (.int .u64 a3.epoch), .d (.int .u64 a3.loop.1), .d (.int .u64 a3.loop.2)])]⟩) (c := True ∧ True ∧ True) (by kernel_rfl) ⟨trivial, trivial, trivial⟩ ?_
    refine At.done rfl ?_
    show Tri _ _ _ _
    refine Tri.keep [4] [4] (s' := ⟨[(4, .c (.ptr 4 0))], [(4, .box [.d (.int .u64 a3.epoch), .d (.int .u64 a3.loop.1), .d (.int .u64 a3.loop.2)])]⟩) (by kernel_rfl) ?_
    refine Tri.ret ?_
    cases h
    refine ⟨_, _, rfl, ⟨trivial, trivial⟩, rfl, rfl, ?_⟩
    intro k c h
    cases h
  · exact fun x => x.elim

set_option maxRecDepth 100000 in
theorem moment_Lub_ok {p0 : List Time} {q : Time} (h : moment_Lub p0 = some q) :
    Summ Try.prog 14 [.c (.d (.list 3 p0.length (fun i => encTime (p0.getD i default))))] [] (.agg [.d (.int .u64 q.epoch), .d (.int .u64 q.loop.1), .d (.int .u64 q.loop.2)]) [] := by
  refine Summ.intro Try.func14 rfl (by kernel_rfl) (by kernel_rfl) ?_
  rintro ⟨P, w0, G0, V, LL, lk, N⟩ rfl rfl rfl
  unfold moment_Lub at h
  refine Tri.seqS ?_
  refine Tri.reg ?_
  refine At.seg 1 [0, 2] [2] (s' := ⟨[(0, .c (.d (.list 3 p0.length (fun i => encTime (p0.getD i default))))), (2, .c (.ptr 2 0))], [(2, .box [.d (.int .u64 0), .d (.int .u64 0), .d (.int .u64 0)])]⟩) (c := True ∧ True) (by kernel_rfl) ⟨trivial, trivial⟩ ?_
  refine At.done rfl ?_
  show Tri _ _ _ _
  refine Tri.seqS ?_
  refine Tri.reg ?_
  refine At.seg 1 [2, 3] [2] (s' := ⟨[(2, .c (.ptr 2 0)), (3, .c (.d (.list 3 p0.length (fun i => encTime (p0.getD i default)))))], [(2, .box [.d (.int .u64 0), .d (.int .u64 0), .d (.int .u64 0)])]⟩) (c := True ∧ True) (by kernel_rfl) ⟨trivial, trivial⟩ ?_
  obtain ⟨r1, hr1, h⟩ := bind_elim h
  refine At.callA (caps := []) (xs := [.c (.d (.fn 35 [])), .c (.d (.list 3 p0.length (fun i => encTime (p0.getD i default))))]) (moment_fold__greatest_ok hr1) rfl rfl rfl rfl rfl rfl (.cons (.refl _) (.cons (.refl _) .nil)) rfl rfl ?_
  refine At.seg 1 [2] [2] (s' := ⟨[(2, .c (.ptr 2 0))], [(2, .box [.d (.int .u64 r1.epoch), .d (.int .u64 r1.loop.1), .d (.int .u64 r1.loop.2)])]⟩) (c := True ∧ True) (by kernel_rfl) ⟨trivial, trivial⟩ ?_
  refine At.done rfl ?_
  show Tri _ _ _ _
  refine Tri.keep [2] [2] (s' := ⟨[(2, .c (.ptr 2 0))], [(2, .box [.d (.int .u64 r1.epoch), .d (.int .u64 r1.loop.1), .d (.int .u64 r1.loop.2)])]⟩) (by kernel_rfl) ?_
  refine Tri.ret ?_
  cases h
  refine ⟨_, _, rfl, ⟨trivial, trivial⟩, rfl, rfl, ?_⟩
  intro k c h
  cases h

set_option maxRecDepth 100000 in
theorem moment_least_ok {p0 : Int} {p1 : Int} {q : Int} (h : moment_least p0 p1 = some q) :
    Summ Try.prog 36 [.c (.d (.int .u64 p0)), .c (.d (.int .u64 p1))] [] (.c (.d (.int .u64 q))) [] := by
  refine Summ.intro Try.func36 rfl (by kernel_rfl) (by kernel_rfl) ?_
  rintro ⟨P, w0, G0, V, LL, lk, N⟩ rfl rfl rfl
  unfold moment_least at h
  refine Tri.seqS ?_
  refine Tri.reg ?_
  refine At.seg 1 [0, 1] [] (s' := ⟨[(0, .c (.d (.int .u64 p0))), (1, .c (.d (.int .u64 p1)))], []⟩) (c := True ∧ True) (by kernel_rfl) ⟨trivial, trivial⟩ ?_
  refine At.done rfl ?_
  show Tri _ _ _ _
  refine Tri.seqS ?_
  refine Tri.reg ?_
  refine At.seg 4 [4] [] (s' := ⟨[(4, .c (.d (.int .u64 (if p1 < p0 then p1 else p0))))], []⟩) (c := True ∧ True ∧ True ∧ True ∧ True) (by kernel_rfl) ⟨trivial, trivial, trivial, trivial, trivial⟩ ?_
  refine At.done rfl ?_
  show Tri _ _ _ _
  refine Tri.keep [4] [] (s' := ⟨[(4, .c (.d (.int .u64 (if p1 < p0 then p1 else p0))))], []⟩) (by kernel_rfl) ?_
  refine Tri.ret ?_
  cases h
  refine ⟨_, _, rfl, ⟨trivial, trivial⟩, rfl, rfl, ?_⟩
  intro k c h
  cases h

set_option maxRecDepth 100000 in
theorem moment_fold__least_ok {p1 : List Time} {q : Time} (h : moment_fold__least p1 = some q) :
    Summ Try.prog 34 [.c (.d (.fn 36 [])), .c (.d (.list 3 p1.length (fun i => encTime (p1.getD i default))))] [] (.agg [.d (.int .u64 q.epoch), .d (.int .u64 q.loop.1), .d (.int .u64 q.loop.2)]) [] := by
  refine Summ.intro Try.func34 rfl (by kernel_rfl) (by kernel_rfl) ?_
  rintro ⟨P, w0, G0, V, LL, lk, N⟩ rfl rfl rfl
  unfold moment_fold__least at h
  refine Tri.seqS ?_
  refine Tri.reg ?_
  refine At.seg 1 [0, 1, 4] [4] (s' := ⟨[(0, .c (.d (.fn 36 []))), (1, .c (.d (.list 3 p1.length (fun i => encTime (p1.getD i default))))), (4, .c (.ptr 4 0))], [(4, .box [.d (.int .u64 0), .d (.int .u64 0), .d (.int .u64 0)])]⟩) (c := True ∧ True) (by kernel_rfl) ⟨trivial, trivial⟩ ?_
  refine At.done rfl ?_
  show Tri _ _ _ _
  refine Tri.seqS ?_
  refine Tri.seqS ?_
  refine Tri.reg ?_
  refine At.seg 3 [0, 4, 8, 9, 10] [4] (s' := ⟨[(0, .c (.d (.fn 36 []))), (4, .c (.ptr 4 0)), (8, .c (.d (.list 3 p1.length (fun i => encTime (p1.getD i default))))), (9, .c (.d (.int .i64 (p1.length : Int)))), (10, .c (.d (.int .i64 0)))], [(4, .box [.d (.int .u64 0), .d (.int .u64 0), .d (.int .u64 0)])]⟩) (c := True ∧ True ∧ True ∧ True) (by kernel_rfl) ⟨trivial, trivial, trivial, trivial⟩ ?_
  refine At.done rfl ?_
  show Tri _ _ _ _
  refine Tri.lenOf (t := 8) rfl fun hlena2 => ?_
  refine Tri.keep [10, 0, 4, 8, 9] [4] (s' := idx 10 0 ⟨[(0, .c (.d (.fn 36 []))), (4, .c (.ptr 4 0)), (8, .c (.d (.list 3 p1.length (fun i => encTime (p1.getD i default))))), (9, .c (.d (.int .i64 (p1.length : Int))))], [(4, .box [.d (.int .u64 ((⟨0, (0, 0)⟩ : Time).epoch)), .d (.int .u64 ((⟨0, (0, 0)⟩ : Time).loop.1)), .d (.int .u64 ((⟨0, (0, 0)⟩ : Time).loop.2))])]⟩) (by kernel_rfl) ?_
  refine Tri.range (n := p1.length) (st0 := (⟨0, (0, 0)⟩ : Time)) (fun (x : Empty) s => False) (fun (a2 : Time) => ⟨[(0, .c (.d (.fn 36 []))), (4, .c (.ptr 4 0)), (8, .c (.d (.list 3 p1.length (fun i => encTime (p1.getD i default))))), (9, .c (.d (.int .i64 (p1.length : Int))))], [(4, .box [.d (.int .u64 a2.epoch), .d (.int .u64 a2.loop.1), .d (.int .u64 a2.loop.2)])]⟩) (fun (a2 : Time) => ⟨[(0, .c (.d (.fn 36 []))), (4, .c (.ptr 4 0)), (8, .c (.d (.list 3 p1.length (fun i => encTime (p1.getD i default))))), (9, .c (.d (.int .i64 (p1.length : Int))))], [(4, .box [.d (.int .u64 a2.epoch), .d (.int .u64 a2.loop.1), .d (.int .u64 a2.loop.2)])]⟩) (fun i => decide ((i : Int) < (p1.length : Int))) [11, 10, 0, 4, 8, 9] [4] [0, 4, 8, 9] [4] [10, 0, 4, 8, 9] [4] h hlena2 rfl ?_ ?_ ?_ ?_ ?_ ?_ ?_ ?_
  · exact fun i a => ⟨True ∧ True, by kernel_rfl, ⟨trivial, trivial⟩⟩
  · exact fun i hi => decide_eq_true (by omega)
  · exact decide_eq_false (by omega)
  · exact fun a => by kernel_rfl
  · exact fun i a => ⟨True ∧ True ∧ True, by kernel_rfl, ⟨trivial, trivial, trivial⟩⟩
  · intro i1 a2 c hii1 h
    refine Tri.seqS ?_
    refine Tri.reg ?_
    refine At.seg 6 [0, 4, 5, 6, 8, 9, 10] [4, 6] (s' := ⟨[(0, .c (.d (.fn 36 []))), (4, .c (.ptr 4 0)), (5, .c (.d (.int .i64 ((i1 : Nat) : Int)))), (6, .c (.ptr 6 0)), (8, .c (.d (.list 3 p1.length (fun i => encTime (p1.getD i default))))), (9, .c (.d (.int .i64 (p1.length : Int)))), (10, .c (.d (.int .i64 ((i1 : Nat) : Int))))], [(4, .box [.d (.int .u64 a2.epoch), .d (.int .u64 a2.loop.1), .d (.int .u64 a2.loop.2)]), (6, .box [.d (.int .u64 ((p1.getD i1 default).epoch)), .d (.int .u64 ((p1.getD i1 default).loop.1)), .d (.int .u64 ((p1.getD i1 default).loop.2))])]⟩) (c := True ∧ ((0 : Int) ≤ ((i1 : Nat) : Int) ∧ ((i1 : Nat) : Int) < (p1.length : Int)) ∧ True ∧ True ∧ True ∧ True ∧ True) (by kernel_rfl) ⟨trivial, ⟨by omega, by omega⟩, trivial, trivial, trivial, trivial, trivial⟩ ?_
    refine At.done rfl ?_
    show Tri _ _ _ _
    refine Tri.seqJ (fun (a4 : Time) => ⟨[(0, .c (.d (.fn 36 []))), (4, .c (.ptr 4 0)), (6, .c (.ptr 6 0)), (8, .c (.d (.list 3 p1.length (fun i => encTime (p1.getD i default))))), (9, .c (.d (.int .i64 (p1.length : Int)))), (10, .c (.d (.int .i64 ((i1 : Nat) : Int))))], [(4, .box [.d (.int .u64 a4.epoch), .d (.int .u64 a4.loop.1), .d (.int .u64 a4.loop.2)]), (6, .box [.d (.int .u64 ((p1.getD i1 default).epoch)), .d (.int .u64 ((p1.getD i1 default).loop.1)), .d (.int .u64 ((p1.getD i1 default).loop.2))])]⟩) h (fun a4 h => ?_) (fun j5 h => ?_)
    · show Tri _ _ ⟨[(0, .c (.d (.fn 36 []))), (4, .c (.ptr 4 0)), (6, .c (.ptr 6 0)), (8, .c (.d (.list 3 p1.length (fun i => encTime (p1.getD i default))))), (9, .c (.d (.int .i64 (p1.length : Int)))), (10, .c (.d (.int .i64 ((i1 : Nat) : Int))))], [(4, .box [.d (.int .u64 a4.epoch), .d (.int .u64 a4.loop.1), .d (.int .u64 a4.loop.2)]), (6, .box [.d (.int .u64 ((p1.getD i1 default).epoch)), .d (.int .u64 ((p1.getD i1 default).loop.1)), .d (.int .u64 ((p1.getD i1 default).loop.2))])]⟩ _
      refine Tri.seqS ?_
      refine Tri.reg ?_
      refine At.seg 5 [0, 4, 6, 8, 9, 10, 18, 20, 22] [4, 6] (s' := ⟨[(0, .c (.d (.fn 36 []))), (4, .c (.ptr 4 0)), (6, .c (.ptr 6 0)), (8, .c (.d (.list 3 p1.length (fun i => encTime (p1.getD i default))))), (9, .c (.d (.int .i64 (p1.length : Int)))), (10, .c (.d (.int .i64 ((i1 : Nat) : Int)))), (18, .c (.d (.fn 36 []))), (20, .c (.d (.int .u64 a4.epoch))), (22, .c (.d (.int .u64 ((p1.getD i1 default).epoch))))], [(4, .box [.d (.int .u64 a4.epoch), .d (.int .u64 a4.loop.1), .d (.int .u64 a4.loop.2)]), (6, .box [.d (.int .u64 ((p1.getD i1 default).epoch)), .d (.int .u64 ((p1.getD i1 default).loop.1)), .d (.int .u64 ((p1.getD i1 default).loop.2))])]⟩) (c := True ∧ True ∧ True ∧ True ∧ True ∧ True) (by kernel_rfl) ⟨trivial, trivial, trivial, trivial, trivial, trivial⟩ ?_
      obtain ⟨r6, hr6, h⟩ := bind_elim h
      refine At.callA (caps := []) (xs := [.c (.d (.int .u64 a4.epoch)), .c (.d (.int .u64 ((p1.getD i1 default).epoch)))]) (moment_least_ok hr6) rfl rfl rfl rfl rfl rfl (.cons (.refl _) (.cons (.refl _) .nil)) rfl rfl ?_
      refine At.seg 2 [0, 4, 6, 8, 9, 10] [4, 6] (s' := ⟨[(0, .c (.d (.fn 36 []))), (4, .c (.ptr 4 0)), (6, .c (.ptr 6 0)), (8, .c (.d (.list 3 p1.length (fun i => encTime (p1.getD i default))))), (9, .c (.d (.int .i64 (p1.length : Int)))), (10, .c (.d (.int .i64 ((i1 : Nat) : Int))))], [(4, .box [.d (.int .u64 r6), .d (.int .u64 a4.loop.1), .d (.int .u64 a4.loop.2)]), (6, .box [.d (.int .u64 ((p1.getD i1 default).epoch)), .d (.int .u64 ((p1.getD i1 default).loop.1)), .d (.int .u64 ((p1.getD i1 default).loop.2))])]⟩) (c := True ∧ True ∧ True) (by kernel_rfl) ⟨trivial, trivial, trivial⟩ ?_
      refine At.done rfl ?_
      show Tri _ _ _ _
      refine Tri.seqS ?_
      refine Tri.reg ?_
      refine At.seg 1 [0, 4, 6, 8, 9, 10, 25] [4, 6] (s' := ⟨[(0, .c (.d (.fn 36 []))), (4, .c (.ptr 4 0)), (6, .c (.ptr 6 0)), (8, .c (.d (.list 3 p1.length (fun i => encTime (p1.getD i default))))), (9, .c (.d (.int .i64 (p1.length : Int)))), (10, .c (.d (.int .i64 ((i1 : Nat) : Int)))), (25, .c (.d (.int .i64 0)))], [(4, .box [.d (.int .u64 r6), .d (.int .u64 a4.loop.1), .d (.int .u64 a4.loop.2)]), (6, .box [.d (.int .u64 ((p1.getD i1 default).epoch)), .d (.int .u64 ((p1.getD i1 default).loop.1)), .d (.int .u64 ((p1.getD i1 default).loop.2))])]⟩) (c := True ∧ True) (by kernel_rfl) ⟨trivial, trivial⟩ ?_
      refine At.done rfl ?_
      show Tri _ _ _ _
      refine Tri.keep [25, 0, 4, 6, 8, 9, 10] [4, 6] (s' := idx 25 0 ⟨[(0, .c (.d (.fn 36 []))), (4, .c (.ptr 4 0)), (6, .c (.ptr 6 0)), (8, .c (.d (.list 3 p1.length (fun i => encTime (p1.getD i default))))), (9, .c (.d (.int .i64 (p1.length : Int)))), (10, .c (.d (.int .i64 ((i1 : Nat) : Int))))], [(4, .box [.d (.int .u64 ((⟨r6, a4.loop⟩ : Time).epoch)), .d (.int .u64 ((⟨r6, a4.loop⟩ : Time).loop.1)), .d (.int .u64 ((⟨r6, a4.loop⟩ : Time).loop.2))]), (6, .box [.d (.int .u64 ((p1.getD i1 default).epoch)), .d (.int .u64 ((p1.getD i1 default).loop.1)), .d (.int .u64 ((p1.getD i1 default).loop.2))])]⟩) (by kernel_rfl) ?_
      refine Tri.range (n := 2) (st0 := (⟨r6, a4.loop⟩ : Time)) (fun (x : Empty) s => False) (fun (a8 : Time) => ⟨[(0, .c (.d (.fn 36 []))), (4, .c (.ptr 4 0)), (6, .c (.ptr 6 0)), (8, .c (.d (.list 3 p1.length (fun i => encTime (p1.getD i default))))), (9, .c (.d (.int .i64 (p1.length : Int)))), (10, .c (.d (.int .i64 ((i1 : Nat) : Int))))], [(4, .box [.d (.int .u64 a8.epoch), .d (.int .u64 a8.loop.1), .d (.int .u64 a8.loop.2)]), (6, .box [.d (.int .u64 ((p1.getD i1 default).epoch)), .d (.int .u64 ((p1.getD i1 default).loop.1)), .d (.int .u64 ((p1.getD i1 default).loop.2))])]⟩) (fun (a8 : Time) => ⟨[(10, .c (.d (.int .i64 ((i1 : Nat) : Int)))), (0, .c (.d (.fn 36 []))), (4, .c (.ptr 4 0)), (8, .c (.d (.list 3 p1.length (fun i => encTime (p1.getD i default))))), (9, .c (.d (.int .i64 (p1.length : Int))))], [(4, .box [.d (.int .u64 a8.epoch), .d (.int .u64 a8.loop.1), .d (.int .u64 a8.loop.2)])]⟩) (fun i => decide ((i : Int) < (2 : Int))) [26, 25, 0, 4, 6, 8, 9, 10] [4, 6] [10, 0, 4, 8, 9] [4] [25, 0, 4, 6, 8, 9, 10] [4, 6] h (by unfold maxN; omega) rfl ?_ ?_ ?_ ?_ ?_ ?_ ?_ ?_
      · exact fun i a => ⟨True ∧ True, by kernel_rfl, ⟨trivial, trivial⟩⟩
      · exact fun i hi => decide_eq_true (by omega)
      · exact decide_eq_false (by omega)
      · exact fun a => by kernel_rfl
      · exact fun i a => ⟨True ∧ True ∧ True, by kernel_rfl, ⟨trivial, trivial, trivial⟩⟩
      · intro i7 a8 c hii7 h
        rcases i7 with _ | i7
        · refine Tri.seqS ?_
          refine Tri.reg ?_
          refine At.seg 2 [0, 4, 6, 7, 8, 9, 10, 25] [4, 6] (s' := ⟨[(0, .c (.d (.fn 36 []))), (4, .c (.ptr 4 0)), (6, .c (.ptr 6 0)), (7, .c (.d (.int .i64 ((0 : Nat) : Int)))), (8, .c (.d (.list 3 p1.length (fun i => encTime (p1.getD i default))))), (9, .c (.d (.int .i64 (p1.length : Int)))), (10, .c (.d (.int .i64 ((i1 : Nat) : Int)))), (25, .c (.d (.int .i64 ((0 : Nat) : Int))))], [(4, .box [.d (.int .u64 a8.epoch), .d (.int .u64 a8.loop.1), .d (.int .u64 a8.loop.2)]), (6, .box [.d (.int .u64 ((p1.getD i1 default).epoch)), .d (.int .u64 ((p1.getD i1 default).loop.1)), .d (.int .u64 ((p1.getD i1 default).loop.2))])]⟩) (c := True ∧ True ∧ True) (by kernel_rfl) ⟨trivial, trivial, trivial⟩ ?_
          refine At.done rfl ?_
          show Tri _ _ _ _
          obtain ⟨r10, hr10, h⟩ := bind_elim h
          refine Tri.drawn (specs := [⟨⟨[(7, .c (.d (.int .i64 ((0 : Nat) : Int))))], []⟩, ⟨[(28, .c (.d (.int .i64 ((0 : Nat) : Int))))], []⟩, [], []⟩, ⟨⟨[(0, .c (.d (.fn 36 [])))], []⟩, ⟨[(29, .c (.d (.fn 36 [])))], []⟩, [], []⟩, ⟨⟨[(7, .c (.d (.int .i64 ((0 : Nat) : Int))))], []⟩, ⟨[(30, .c (.d (.int .i64 ((0 : Nat) : Int))))], []⟩, [], []⟩, ⟨⟨[(4, .c (.ptr 4 0))], []⟩, ⟨[(31, .c (.ptr 4 1))], []⟩, [], []⟩, ⟨⟨[(30, .c (.d (.int .i64 ((0 : Nat) : Int)))), (31, .c (.ptr 4 1))], [(4, .box [.d (.int .u64 a8.epoch), .d (.int .u64 a8.loop.1), .d (.int .u64 a8.loop.2)])]⟩, ⟨[(32, .c (.ptr 4 1))], []⟩, [], []⟩, ⟨⟨[(32, .c (.ptr 4 1))], [(4, .box [.d (.int .u64 a8.epoch), .d (.int .u64 a8.loop.1), .d (.int .u64 a8.loop.2)])]⟩, ⟨[(33, .c (.d (.int .u64 a8.loop.1)))], []⟩, [], []⟩, ⟨⟨[(7, .c (.d (.int .i64 ((0 : Nat) : Int))))], []⟩, ⟨[(34, .c (.d (.int .i64 ((0 : Nat) : Int))))], []⟩, [], []⟩, ⟨⟨[(6, .c (.ptr 6 0))], []⟩, ⟨[(35, .c (.ptr 6 1))], []⟩, [], []⟩, ⟨⟨[(34, .c (.d (.int .i64 ((0 : Nat) : Int)))), (35, .c (.ptr 6 1))], [(6, .box [.d (.int .u64 ((p1.getD i1 default).epoch)), .d (.int .u64 ((p1.getD i1 default).loop.1)), .d (.int .u64 ((p1.getD i1 default).loop.2))])]⟩, ⟨[(36, .c (.ptr 6 1))], []⟩, [], []⟩, ⟨⟨[(36, .c (.ptr 6 1))], [(6, .box [.d (.int .u64 ((p1.getD i1 default).epoch)), .d (.int .u64 ((p1.getD i1 default).loop.1)), .d (.int .u64 ((p1.getD i1 default).loop.2))])]⟩, ⟨[(37, .c (.d (.int .u64 ((p1.getD i1 default).loop.1))))], []⟩, [], []⟩, ⟨⟨[(29, .c (.d (.fn 36 []))), (33, .c (.d (.int .u64 a8.loop.1))), (37, .c (.d (.int .u64 ((p1.getD i1 default).loop.1))))], []⟩, ⟨[(38, .c (.d (.int .u64 r10)))], []⟩, [], []⟩, ⟨⟨[(4, .c (.ptr 4 0))], []⟩, ⟨[(39, .c (.ptr 4 1))], []⟩, [], []⟩, ⟨⟨[(28, .c (.d (.int .i64 ((0 : Nat) : Int)))), (39, .c (.ptr 4 1))], [(4, .box [.d (.int .u64 a8.epoch), .d (.int .u64 a8.loop.1), .d (.int .u64 a8.loop.2)])]⟩, ⟨[(40, .c (.ptr 4 1))], []⟩, [], []⟩, ⟨⟨[(38, .c (.d (.int .u64 r10))), (40, .c (.ptr 4 1))], [(4, .box [.d (.int .u64 a8.epoch), .d (.int .u64 a8.loop.1), .d (.int .u64 a8.loop.2)])]⟩, ⟨[], [(4, .box [.d (.int .u64 a8.epoch), .d (.int .u64 r10), .d (.int .u64 a8.loop.2)])]⟩, [], []⟩]) (bef := [[], [], [], [], [2, 3], [2, 3, 4], [], [], [6, 7], [6, 7, 8], [1, 2, 3, 4, 5, 6, 7, 8, 9], [], [0, 1, 2, 3, 4, 5, 6, 7, 8, 9, 10, 11], [0, 1, 2, 3, 4, 5, 6, 7, 8, 9, 10, 11, 12]]) (tk := [25, 0, 4, 6, 8, 9, 10]) (sk := [4, 6]) (s' := ⟨[(25, .c (.d (.int .i64 ((0 : Nat) : Int)))), (0, .c (.d (.fn 36 []))), (4, .c (.ptr 4 0)), (6, .c (.ptr 6 0)), (8, .c (.d (.list 3 p1.length (fun i => encTime (p1.getD i default))))), (9, .c (.d (.int .i64 (p1.length : Int)))), (10, .c (.d (.int .i64 ((i1 : Nat) : Int))))], [(4, .box [.d (.int .u64 a8.epoch), .d (.int .u64 r10), .d (.int .u64 a8.loop.2)]), (6, .box [.d (.int .u64 ((p1.getD i1 default).epoch)), .d (.int .u64 ((p1.getD i1 default).loop.1)), .d (.int .u64 ((p1.getD i1 default).loop.2))])]⟩) (by kernel_rfl) (by kernel_rfl) (by kernel_rfl) ⟨?_, ?_, ?_, ?_, ?_, ?_, ?_, ?_, ?_, ?_, ?_, ?_, ?_, ?_, trivial⟩ (by kernel_rfl) ?_
          · exact DOk.step (.val (.c (.d (.int .i64 ((0 : Nat) : Int)))) (True)) (fun r => by kernel_rfl) (fun r => by kernel_rfl) trivial (by kernel_rfl) (by kernel_rfl) (fun r => rfl)
          · exact DOk.step (.val (.c (.d (.fn 36 []))) (True)) (fun r => by kernel_rfl) (fun r => by kernel_rfl) trivial (by kernel_rfl) (by kernel_rfl) (fun r => rfl)
          · exact DOk.step (.val (.c (.d (.int .i64 ((0 : Nat) : Int)))) (True)) (fun r => by kernel_rfl) (fun r => by kernel_rfl) trivial (by kernel_rfl) (by kernel_rfl) (fun r => rfl)
          · exact DOk.step (.val (.c (.ptr 4 1)) (True)) (fun r => by kernel_rfl) (fun r => by kernel_rfl) trivial (by kernel_rfl) (by kernel_rfl) (fun r => rfl)
          · exact DOk.step (.val (.c (.ptr 4 1)) (True)) (fun r => by kernel_rfl) (fun r => by kernel_rfl) trivial (by kernel_rfl) (by kernel_rfl) (fun r => rfl)
          · exact DOk.step (.val (.c (.d (.int .u64 a8.loop.1))) (True)) (fun r => by kernel_rfl) (fun r => by kernel_rfl) trivial (by kernel_rfl) (by kernel_rfl) (fun r => rfl)
          · exact DOk.step (.val (.c (.d (.int .i64 ((0 : Nat) : Int)))) (True)) (fun r => by kernel_rfl) (fun r => by kernel_rfl) trivial (by kernel_rfl) (by kernel_rfl) (fun r => rfl)
          · exact DOk.step (.val (.c (.ptr 6 1)) (True)) (fun r => by kernel_rfl) (fun r => by kernel_rfl) trivial (by kernel_rfl) (by kernel_rfl) (fun r => rfl)
          · exact DOk.step (.val (.c (.ptr 6 1)) (True)) (fun r => by kernel_rfl) (fun r => by kernel_rfl) trivial (by kernel_rfl) (by kernel_rfl) (fun r => rfl)
          · exact DOk.step (.val (.c (.d (.int .u64 ((p1.getD i1 default).loop.1)))) (True)) (fun r => by kernel_rfl) (fun r => by kernel_rfl) trivial (by kernel_rfl) (by kernel_rfl) (fun r => rfl)
          · exact DOk.callA (caps := []) (xs := [.c (.d (.int .u64 a8.loop.1)), .c (.d (.int .u64 ((p1.getD i1 default).loop.1)))]) (moment_least_ok hr10) rfl (fun r => by kernel_rfl) rfl (fun r => by kernel_rfl) (fun r => by kernel_rfl) (fun r => (.cons (.refl _) (.cons (.refl _) .nil))) rfl rfl (fun r => rfl)
          · exact DOk.step (.val (.c (.ptr 4 1)) (True)) (fun r => by kernel_rfl) (fun r => by kernel_rfl) trivial (by kernel_rfl) (by kernel_rfl) (fun r => rfl)
          · exact DOk.step (.val (.c (.ptr 4 1)) (True)) (fun r => by kernel_rfl) (fun r => by kernel_rfl) trivial (by kernel_rfl) (by kernel_rfl) (fun r => rfl)
          · exact DOk.step (.turn 4 (.box [.d (.int .u64 a8.epoch), .d (.int .u64 r10), .d (.int .u64 a8.loop.2)])) (fun r => by kernel_rfl) (fun r => by kernel_rfl) trivial (by kernel_rfl) (by kernel_rfl) (fun r => rfl)
          cases h
          exact rfl
        rcases i7 with _ | i7
        · refine Tri.seqS ?_
          refine Tri.reg ?_
          refine At.seg 2 [0, 4, 6, 7, 8, 9, 10, 25] [4, 6] (s' := ⟨[(0, .c (.d (.fn 36 []))), (4, .c (.ptr 4 0)), (6, .c (.ptr 6 0)), (7, .c (.d (.int .i64 ((1 : Nat) : Int)))), (8, .c (.d (.list 3 p1.length (fun i => encTime (p1.getD i default))))), (9, .c (.d (.int .i64 (p1.length : Int)))), (10, .c (.d (.int .i64 ((i1 : Nat) : Int)))), (25, .c (.d (.int .i64 ((1 : Nat) : Int))))], [(4, .box [.d (.int .u64 a8.epoch), .d (.int .u64 a8.loop.1), .d (.int .u64 a8.loop.2)]), (6, .box [.d (.int .u64 ((p1.getD i1 default).epoch)), .d (.int .u64 ((p1.getD i1 default).loop.1)), .d (.int .u64 ((p1.getD i1 default).loop.2))])]⟩) (c := True ∧ True ∧ True) (by kernel_rfl) ⟨trivial, trivial, trivial⟩ ?_
          refine At.done rfl ?_
          show Tri _ _ _ _
          obtain ⟨r11, hr11, h⟩ := bind_elim h
          refine Tri.drawn (specs := [⟨⟨[(7, .c (.d (.int .i64 ((1 : Nat) : Int))))], []⟩, ⟨[(28, .c (.d (.int .i64 ((1 : Nat) : Int))))], []⟩, [], []⟩, ⟨⟨[(0, .c (.d (.fn 36 [])))], []⟩, ⟨[(29, .c (.d (.fn 36 [])))], []⟩, [], []⟩, ⟨⟨[(7, .c (.d (.int .i64 ((1 : Nat) : Int))))], []⟩, ⟨[(30, .c (.d (.int .i64 ((1 : Nat) : Int))))], []⟩, [], []⟩, ⟨⟨[(4, .c (.ptr 4 0))], []⟩, ⟨[(31, .c (.ptr 4 1))], []⟩, [], []⟩, ⟨⟨[(30, .c (.d (.int .i64 ((1 : Nat) : Int)))), (31, .c (.ptr 4 1))], [(4, .box [.d (.int .u64 a8.epoch), .d (.int .u64 a8.loop.1), .d (.int .u64 a8.loop.2)])]⟩, ⟨[(32, .c (.ptr 4 2))], []⟩, [], []⟩, ⟨⟨[(32, .c (.ptr 4 2))], [(4, .box [.d (.int .u64 a8.epoch), .d (.int .u64 a8.loop.1), .d (.int .u64 a8.loop.2)])]⟩, ⟨[(33, .c (.d (.int .u64 a8.loop.2)))], []⟩, [], []⟩, ⟨⟨[(7, .c (.d (.int .i64 ((1 : Nat) : Int))))], []⟩, ⟨[(34, .c (.d (.int .i64 ((1 : Nat) : Int))))], []⟩, [], []⟩, ⟨⟨[(6, .c (.ptr 6 0))], []⟩, ⟨[(35, .c (.ptr 6 1))], []⟩, [], []⟩, ⟨⟨[(34, .c (.d (.int .i64 ((1 : Nat) : Int)))), (35, .c (.ptr 6 1))], [(6, .box [.d (.int .u64 ((p1.getD i1 default).epoch)), .d (.int .u64 ((p1.getD i1 default).loop.1)), .d (.int .u64 ((p1.getD i1 default).loop.2))])]⟩, ⟨[(36, .c (.ptr 6 2))], []⟩, [], []⟩, ⟨⟨[(36, .c (.ptr 6 2))], [(6, .box [.d (.int .u64 ((p1.getD i1 default).epoch)), .d (.int .u64 ((p1.getD i1 default).loop.1)), .d (.int .u64 ((p1.getD i1 default).loop.2))])]⟩, ⟨[(37, .c (.d (.int .u64 ((p1.getD i1 default).loop.2))))], []⟩, [], []⟩, ⟨⟨[(29, .c (.d (.fn 36 []))), (33, .c (.d (.int .u64 a8.loop.2))), (37, .c (.d (.int .u64 ((p1.getD i1 default).loop.2))))], []⟩, ⟨[(38, .c (.d (.int .u64 r11)))], []⟩, [], []⟩, ⟨⟨[(4, .c (.ptr 4 0))], []⟩, ⟨[(39, .c (.ptr 4 1))], []⟩, [], []⟩, ⟨⟨[(28, .c (.d (.int .i64 ((1 : Nat) : Int)))), (39, .c (.ptr 4 1))], [(4, .box [.d (.int .u64 a8.epoch), .d (.int .u64 a8.loop.1), .d (.int .u64 a8.loop.2)])]⟩, ⟨[(40, .c (.ptr 4 2))], []⟩, [], []⟩, ⟨⟨[(38, .c (.d (.int .u64 r11))), (40, .c (.ptr 4 2))], [(4, .box [.d (.int .u64 a8.epoch), .d (.int .u64 a8.loop.1), .d (.int .u64 a8.loop.2)])]⟩, ⟨[], [(4, .box [.d (.int .u64 a8.epoch), .d (.int .u64 a8.loop.1), .d (.int .u64 r11)])]⟩, [], []⟩]) (bef := [[], [], [], [], [2, 3], [2, 3, 4], [], [], [6, 7], [6, 7, 8], [1, 2, 3, 4, 5, 6, 7, 8, 9], [], [0, 1, 2, 3, 4, 5, 6, 7, 8, 9, 10, 11], [0, 1, 2, 3, 4, 5, 6, 7, 8, 9, 10, 11, 12]]) (tk := [25, 0, 4, 6, 8, 9, 10]) (sk := [4, 6]) (s' := ⟨[(25, .c (.d (.int .i64 ((1 : Nat) : Int)))), (0, .c (.d (.fn 36 []))), (4, .c (.ptr 4 0)), (6, .c (.ptr 6 0)), (8, .c (.d (.list 3 p1.length (fun i => encTime (p1.getD i default))))), (9, .c (.d (.int .i64 (p1.length : Int)))), (10, .c (.d (.int .i64 ((i1 : Nat) : Int))))], [(4, .box [.d (.int .u64 a8.epoch), .d (.int .u64 a8.loop.1), .d (.int .u64 r11)]), (6, .box [.d (.int .u64 ((p1.getD i1 default).epoch)), .d (.int .u64 ((p1.getD i1 default).loop.1)), .d (.int .u64 ((p1.getD i1 default).loop.2))])]⟩) (by kernel_rfl) (by kernel_rfl) (by kernel_rfl) ⟨?_, ?_, ?_, ?_, ?_, ?_, ?_, ?_, ?_, ?_, ?_, ?_, ?_, ?_, trivial⟩ (by kernel_rfl) ?_
          · exact DOk.step (.val (.c (.d (.int .i64 ((1 : Nat) : Int)))) (True)) (fun r => by kernel_rfl) (fun r => by kernel_rfl) trivial (by kernel_rfl) (by kernel_rfl) (fun r => rfl)
          · exact DOk.step (.val (.c (.d (.fn 36 []))) (True)) (fun r => by kernel_rfl) (fun r => by kernel_rfl) trivial (by kernel_rfl) (by kernel_rfl) (fun r => rfl)
          · exact DOk.step (.val (.c (.d (.int .i64 ((1 : Nat) : Int)))) (True)) (fun r => by kernel_rfl) (fun r => by kernel_rfl) trivial (by kernel_rfl) (by kernel_rfl) (fun r => rfl)
          · exact DOk.step (.val (.c (.ptr 4 1)) (True)) (fun r => by kernel_rfl) (fun r => by kernel_rfl) trivial (by kernel_rfl) (by kernel_rfl) (fun r => rfl)
          · exact DOk.step (.val (.c (.ptr 4 2)) (True)) (fun r => by kernel_rfl) (fun r => by kernel_rfl) trivial (by kernel_rfl) (by kernel_rfl) (fun r => rfl)
          · exact DOk.step (.val (.c (.d (.int .u64 a8.loop.2))) (True)) (fun r => by kernel_rfl) (fun r => by kernel_rfl) trivial (by kernel_rfl) (by kernel_rfl) (fun r => rfl)
          · exact DOk.step (.val (.c (.d (.int .i64 ((1 : Nat) : Int)))) (True)) (fun r => by kernel_rfl) (fun r => by kernel_rfl) trivial (by kernel_rfl) (by kernel_rfl) (fun r => rfl)
          · exact DOk.step (.val (.c (.ptr 6 1)) (True)) (fun r => by kernel_rfl) (fun r => by kernel_rfl) trivial (by kernel_rfl) (by kernel_rfl) (fun r => rfl)
          · exact DOk.step (.val (.c (.ptr 6 2)) (True)) (fun r => by kernel_rfl) (fun r => by kernel_rfl) trivial (by kernel_rfl) (by kernel_rfl) (fun r => rfl)
          · exact DOk.step (.val (.c (.d (.int .u64 ((p1.getD i1 default).loop.2)))) (True)) (fun r => by kernel_rfl) (fun r => by kernel_rfl) trivial (by kernel_rfl) (by kernel_rfl) (fun r => rfl)
          · exact DOk.callA (caps := []) (xs := [.c (.d (.int .u64 a8.loop.2)), .c (.d (.int .u64 ((p1.getD i1 default).loop.2)))]) (moment_least_ok hr11) rfl (fun r => by kernel_rfl) rfl (fun r => by kernel_rfl) (fun r => by kernel_rfl) (fun r => (.cons (.refl _) (.cons (.refl _) .nil))) rfl rfl (fun r => rfl)
          · exact DOk.step (.val (.c (.ptr 4 1)) (True)) (fun r => by kernel_rfl) (fun r => by kernel_rfl) trivial (by kernel_rfl) (by kernel_rfl) (fun r => rfl)
          · exact DOk.step (.val (.c (.ptr 4 2)) (True)) (fun r => by kernel_rfl) (fun r => by kernel_rfl) trivial (by kernel_rfl) (by kernel_rfl) (fun r => rfl)
          · exact DOk.step (.turn 4 (.box [.d (.int .u64 a8.epoch), .d (.int .u64 a8.loop.1), .d (.int .u64 r11)])) (fun r => by kernel_rfl) (fun r => by kernel_rfl) trivial (by kernel_rfl) (by kernel_rfl) (fun r => rfl)
          cases h
          exact rfl
        exact absurd hii7 (by omega)
      · intro a9 h
        cases h
        exact rfl
      · exact fun x => x.elim
    · refine Tri.seqS ?_
      refine Tri.reg ?_
      refine At.seg 2 [0, 4, 6, 8, 9, 10, 16] [4, 6] (s' := ⟨[(0, .c (.d (.fn 36 []))), (4, .c (.ptr 4 0)), (6, .c (.ptr 6 0)), (8, .c (.d (.list 3 p1.length (fun i => encTime (p1.getD i default))))), (9, .c (.d (.int .i64 (p1.length : Int)))), (10, .c (.d (.int .i64 ((i1 : Nat) : Int)))), (16, .c (.d (.bool (decide (((i1 : Nat) : Int) = 0)))))], [(4, .box [.d (.int .u64 a2.epoch), .d (.int .u64 a2.loop.1), .d (.int .u64 a2.loop.2)]), (6, .box [.d (.int .u64 ((p1.getD i1 default).epoch)), .d (.int .u64 ((p1.getD i1 default).loop.1)), .d (.int .u64 ((p1.getD i1 default).loop.2))])]⟩) (c := True ∧ True ∧ True) (by kernel_rfl) ⟨trivial, trivial, trivial⟩ ?_
      refine At.done rfl ?_
      show Tri _ _ _ _
      refine Tri.condP (b := (decide (((i1 : Nat) : Int) = 0))) rfl h (fun h => ?_) (fun h => ?_)
      · refine Tri.reg ?_
        refine At.seg 2 [0, 4, 6, 8, 9, 10] [4, 6] (s' := ⟨[(0, .c (.d (.fn 36 []))), (4, .c (.ptr 4 0)), (6, .c (.ptr 6 0)), (8, .c (.d (.list 3 p1.length (fun i => encTime (p1.getD i default))))), (9, .c (.d (.int .i64 (p1.length : Int)))), (10, .c (.d (.int .i64 ((i1 : Nat) : Int))))], [(4, .box [.d (.int .u64 ((p1.getD i1 default).epoch)), .d (.int .u64 ((p1.getD i1 default).loop.1)), .d (.int .u64 ((p1.getD i1 default).loop.2))]), (6, .box [.d (.int .u64 ((p1.getD i1 default).epoch)), .d (.int .u64 ((p1.getD i1 default).loop.1)), .d (.int .u64 ((p1.getD i1 default).loop.2))])]⟩) (c := True ∧ True ∧ True) (by kernel_rfl) ⟨trivial, trivial, trivial⟩ ?_
        refine At.done rfl ?_
        exact ⟨_, h, rfl⟩
      · refine Tri.keep [0, 4, 6, 8, 9, 10] [4, 6] (s' := ⟨[(0, .c (.d (.fn 36 []))), (4, .c (.ptr 4 0)), (6, .c (.ptr 6 0)), (8, .c (.d (.list 3 p1.length (fun i => encTime (p1.getD i default))))), (9, .c (.d (.int .i64 (p1.length : Int)))), (10, .c (.d (.int .i64 ((i1 : Nat) : Int))))], [(4, .box [.d (.int .u64 a2.epoch), .d (.int .u64 a2.loop.1), .d (.int .u64 a2.loop.2)]), (6, .box [.d (.int .u64 ((p1.getD i1 default).epoch)), .d (.int .u64 ((p1.getD i1 default).loop.1)), .d (.int .u64 ((p1.getD i1 default).loop.2))])]⟩) (by kernel_rfl) ?_
        refine Tri.skip ?_
        exact ⟨_, h, rfl⟩
  · intro a3 h
    show Tri _ _ _ _
    refine Tri.seqS ?_
    refine Tri.reg ?_
    refine At.seg 2 [4] [4] (s' := ⟨[(4, .c (.ptr 4 0))], [(4, .box [.d (.int .u64 a3.epoch), .d (.int .u64 a3.loop.1), .d (.int .u64 a3.loop.2)])]⟩) (c := True ∧ True ∧ True) (by kernel_rfl) ⟨trivial, trivial, trivial⟩ ?_
    refine At.done rfl ?_
    show Tri _ _ _ _
    refine Tri.keep [4] [4] (s' := ⟨[(4, .c (.ptr 4 0))], [(4, .box [.d (.int .u64 a3.epoch), .d (.int .u64 a3.loop.1), .d (.int .u64 a3.loop.2)])]⟩) (by kernel_rfl) ?_
    refine Tri.ret ?_
    cases h
    refine ⟨_, _, rfl, ⟨trivial, trivial⟩, rfl, rfl, ?_⟩
    intro k c h
    cases h
  · exact fun x => x.elim

set_option maxRecDepth 100000 in
theorem moment_Glb_ok {p0 : List Time} {q : Time} (h : moment_Glb p0 = some q) :
    Summ Try.prog 16 [.c (.d (.list 3 p0.length (fun i => encTime (p0.getD i default))))] [] (.agg [.d (.int .u64 q.epoch), .d (.int .u64 q.loop.1), .d (.int .u64 q.loop.2)]) [] := by
  refine Summ.intro Try.func16 rfl (by kernel_rfl) (by kernel_rfl) ?_
  rintro ⟨P, w0, G0, V, LL, lk, N⟩ rfl rfl rfl
  unfold moment_Glb at h
  refine Tri.seqS ?_
  refine Tri.reg ?_
  refine At.seg 1 [0, 2] [2] (s' := ⟨[(0, .c (.d (.list 3 p0.length (fun i => encTime (p0.getD i default))))), (2, .c (.ptr 2 0))], [(2, .box [.d (.int .u64 0), .d (.int .u64 0), .d (.int .u64 0)])]⟩) (c := True ∧ True) (by kernel_rfl) ⟨trivial, trivial⟩ ?_
  refine At.done rfl ?_
  show Tri _ _ _ _
  refine Tri.seqS ?_
  refine Tri.reg ?_
  refine At.seg 1 [2, 3] [2] (s' := ⟨[(2, .c (.ptr 2 0)), (3, .c (.d (.list 3 p0.length (fun i => encTime (p0.getD i default)))))], [(2, .box [.d (.int .u64 0), .d (.int .u64 0), .d (.int .u64 0)])]⟩) (c := True ∧ True) (by kernel_rfl) ⟨trivial, trivial⟩ ?_
  obtain ⟨r1, hr1, h⟩ := bind_elim h
  refine At.callA (caps := []) (xs := [.c (.d (.fn 36 [])), .c (.d (.list 3 p0.length (fun i => encTime (p0.getD i default))))]) (moment_fold__least_ok hr1) rfl rfl rfl rfl rfl rfl (.cons (.refl _) (.cons (.refl _) .nil)) rfl rfl ?_
  refine At.seg 1 [2] [2] (s' := ⟨[(2, .c (.ptr 2 0))], [(2, .box [.d (.int .u64 r1.epoch), .d (.int .u64 r1.loop.1), .d (.int .u64 r1.loop.2)])]⟩) (c := True ∧ True) (by kernel_rfl) ⟨trivial, trivial⟩ ?_
  refine At.done rfl ?_
  show Tri _ _ _ _
  refine Tri.keep [2] [2] (s' := ⟨[(2, .c (.ptr 2 0))], [(2, .box [.d (.int .u64 r1.epoch), .d (.int .u64 r1.loop.1), .d (.int .u64 r1.loop.2)])]⟩) (by kernel_rfl) ?_
  refine Tri.ret ?_
  cases h
  refine ⟨_, _, rfl, ⟨trivial, trivial⟩, rfl, rfl, ?_⟩
  intro k c h
  cases h

set_option maxRecDepth 100000 in
theorem freshetlaw04_bounds_ok  {q : Bool} (h : freshetlaw04_bounds = some q) :
    Summ Try.prog 13 [] [] (.c (.d (.bool q))) [] := by
  refine Summ.intro Try.func13 rfl (by kernel_rfl) (by kernel_rfl) ?_
  rintro ⟨P, w0, G0, V, LL, lk, N⟩ rfl rfl rfl
  unfold freshetlaw04_bounds at h
  refine Tri.seqS ?_
  refine Tri.reg ?_
  refine At.seg 1 [] [] (s' := ⟨[], []⟩) (c := True ∧ True) (by kernel_rfl) ⟨trivial, trivial⟩ ?_
  refine At.done rfl ?_
  show Tri _ _ _ _
  refine Tri.seqJ (fun (a1 : Bool) => ⟨[(0, .c (.d (.bool a1)))], []⟩) h (fun a1 h => ?_) (fun j2 h => ?_)
  · show Tri _ _ ⟨[(0, .c (.d (.bool a1)))], []⟩ _
    refine Tri.keep [0] [] (s' := ⟨[(0, .c (.d (.bool a1)))], []⟩) (by kernel_rfl) ?_
    refine Tri.ret ?_
    cases h
    refine ⟨_, _, rfl, ⟨trivial, trivial⟩, rfl, rfl, ?_⟩
    intro k c h
    cases h
  · refine Tri.reg ?_
    obtain ⟨r3, hr3, h⟩ := bind_elim h
    refine At.callA (caps := []) (xs := [.c (.d (.int .u64 1)), .c (.d (.int .u64 0)), .c (.d (.int .u64 2))]) (freshetlaw04_at_ok hr3) rfl rfl rfl rfl rfl rfl (.cons (.refl _) (.cons (.refl _) (.cons (.refl _) .nil))) rfl rfl ?_
    obtain ⟨r4, hr4, h⟩ := bind_elim h
    refine At.callA (caps := []) (xs := [.c (.d (.int .u64 2)), .c (.d (.int .u64 0)), .c (.d (.int .u64 1))]) (freshetlaw04_at_ok hr4) rfl rfl rfl rfl rfl rfl (.cons (.refl _) (.cons (.refl _) (.cons (.refl _) .nil))) rfl rfl ?_
    refine At.one rfl (One.buildSlice (z := [.d (.int .u64 0), .d (.int .u64 0), .d (.int .u64 0)]) (cells := [.d (.int .u64 r3.epoch), .d (.int .u64 r3.loop.1), .d (.int .u64 r3.loop.2), .d (.int .u64 r4.epoch), .d (.int .u64 r4.loop.1), .d (.int .u64 r4.loop.2)]) (xs := List.map (encTime) ([r3, r4] : List Time)) rfl rfl rfl rfl (by kernel_rfl) rfl rfl (by kernel_rfl) rfl rfl rfl (by kernel_rfl) rfl ⟨⟨rfl, .refl _⟩, ⟨rfl, .refl _⟩, trivial⟩) ?_
    refine At.le [3] (fun k _ h => by cases h) ⟨[(3, .c (.d (.list 3 ([r3, r4] : List Time).length (fun i => encTime (([r3, r4] : List Time).getD i default))))), (1, .agg [.d (.int .u64 r3.epoch), .d (.int .u64 r3.loop.1), .d (.int .u64 r3.loop.2)]), (2, .agg [.d (.int .u64 r4.epoch), .d (.int .u64 r4.loop.1), .d (.int .u64 r4.loop.2)])], []⟩ ⟨⟨_, rfl, .c (.own rfl (List.mem_singleton.2 rfl) (Nat.le_of_ble_eq_true rfl) rfl (encs_getD (encTime) ([r3, r4] : List Time)))⟩, ⟨_, rfl, .refl _⟩, ⟨_, rfl, .refl _⟩, trivial⟩ trivial ?_
    obtain ⟨r5, hr5, h⟩ := bind_elim h
    refine At.callA (caps := []) (xs := [.c (.d (.list 3 ([r3, r4] : List Time).length (fun i => encTime (([r3, r4] : List Time).getD i default))))]) (moment_Lub_ok hr5) rfl rfl rfl rfl rfl rfl (.cons (.refl _) .nil) rfl rfl ?_
    obtain ⟨r6, hr6, h⟩ := bind_elim h
    refine At.callA (caps := []) (xs := [.c (.d (.int .u64 2)), .c (.d (.int .u64 0)), .c (.d (.int .u64 2))]) (freshetlaw04_at_ok hr6) rfl rfl rfl rfl rfl rfl (.cons (.refl _) (.cons (.refl _) (.cons (.refl _) .nil))) rfl rfl ?_
    refine At.one rfl (One.eql (b := (eqTime r5 r6)) (d := 9) rfl rfl rfl (.inl rfl) rfl rfl (by kernel_rfl) rfl (by kernel_rfl)) ?_
    refine At.seg 1 [7] [] (s' := ⟨[(7, .c (.d (.bool (eqTime r5 r6))))], []⟩) (c := True ∧ True) (by kernel_rfl) ⟨trivial, trivial⟩ ?_
    refine At.case (fun b => ⟨[(7, .c (.d (.bool b)))], []⟩) (b := (eqTime r5 r6)) h (fun h => ?_) (fun h => ?_)
    · obtain ⟨r7, hr7, h⟩ := bind_elim h
      refine At.callA (caps := []) (xs := [.c (.d (.int .u64 1)), .c (.d (.int .u64 0)), .c (.d (.int .u64 2))]) (freshetlaw04_at_ok hr7) rfl rfl rfl rfl rfl rfl (.cons (.refl _) (.cons (.refl _) (.cons (.refl _) .nil))) rfl rfl ?_
      obtain ⟨r8, hr8, h⟩ := bind_elim h
      refine At.callA (caps := []) (xs := [.c (.d (.int .u64 2)), .c (.d (.int .u64 0)), .c (.d (.int .u64 1))]) (freshetlaw04_at_ok hr8) rfl rfl rfl rfl rfl rfl (.cons (.refl _) (.cons (.refl _) (.cons (.refl _) .nil))) rfl rfl ?_
      refine At.one rfl (One.buildSlice (z := [.d (.int .u64 0), .d (.int .u64 0), .d (.int .u64 0)]) (cells := [.d (.int .u64 r7.epoch), .d (.int .u64 r7.loop.1), .d (.int .u64 r7.loop.2), .d (.int .u64 r8.epoch), .d (.int .u64 r8.loop.1), .d (.int .u64 r8.loop.2)]) (xs := List.map (encTime) ([r7, r8] : List Time)) rfl rfl rfl rfl (by kernel_rfl) rfl rfl (by kernel_rfl) rfl rfl rfl (by kernel_rfl) rfl ⟨⟨rfl, .refl _⟩, ⟨rfl, .refl _⟩, trivial⟩) ?_
      refine At.le [10] (fun k _ h => by cases h) ⟨[(10, .c (.d (.list 3 ([r7, r8] : List Time).length (fun i => encTime (([r7, r8] : List Time).getD i default))))), (7, .c (.d (.bool true))), (8, .agg [.d (.int .u64 r7.epoch), .d (.int .u64 r7.loop.1), .d (.int .u64 r7.loop.2)]), (9, .agg [.d (.int .u64 r8.epoch), .d (.int .u64 r8.loop.1), .d (.int .u64 r8.loop.2)])], []⟩ ⟨⟨_, rfl, .c (.own rfl (List.mem_singleton.2 rfl) (Nat.le_of_ble_eq_true rfl) rfl (encs_getD (encTime) ([r7, r8] : List Time)))⟩, ⟨_, rfl, .refl _⟩, ⟨_, rfl, .refl _⟩, ⟨_, rfl, .refl _⟩, trivial⟩ trivial ?_
      obtain ⟨r9, hr9, h⟩ := bind_elim h
      refine At.callA (caps := []) (xs := [.c (.d (.list 3 ([r7, r8] : List Time).length (fun i => encTime (([r7, r8] : List Time).getD i default))))]) (moment_Glb_ok hr9) rfl rfl rfl rfl rfl rfl (.cons (.refl _) .nil) rfl rfl ?_
      obtain ⟨r10, hr10, h⟩ := bind_elim h
      refine At.callA (caps := []) (xs := [.c (.d (.int .u64 1)), .c (.d (.int .u64 0)), .c (.d (.int .u64 1))]) (freshetlaw04_at_ok hr10) rfl rfl rfl rfl rfl rfl (.cons (.refl _) (.cons (.refl _) (.cons (.refl _) .nil))) rfl rfl ?_
      refine At.one rfl (One.eql (b := (eqTime r9 r10)) (d := 9) rfl rfl rfl (.inl rfl) rfl rfl (by kernel_rfl) rfl (by kernel_rfl)) ?_
      refine At.seg 2 [0] [] (s' := ⟨[(0, .c (.d (.bool (eqTime r9 r10))))], []⟩) (c := True ∧ True ∧ True) (by kernel_rfl) ⟨trivial, trivial, trivial⟩ ?_
      refine At.done rfl ?_
      exact ⟨_, h, rfl⟩
    · refine At.seg 8 [0] [] (s' := ⟨[(0, .c (.d (.bool false)))], []⟩) (c := True ∧ True ∧ True) (by kernel_rfl) ⟨trivial, trivial, trivial⟩ ?_
      refine At.done rfl ?_
      exact ⟨_, h, rfl⟩

set_option maxRecDepth 100000 in
theorem freshetlaw04_MomentLattice_ok {p0 : List Time} {p1 : Time} {q : Bool} (h : freshetlaw04_MomentLattice p0 p1 = some q) :
    Summ Try.prog 6 [.c (.d (.list 3 p0.length (fun i => encTime (p0.getD i default)))), .agg [.d (.int .u64 p1.epoch), .d (.int .u64 p1.loop.1), .d (.int .u64 p1.loop.2)]] [] (.c (.d (.bool q))) [] := by
  refine Summ.intro Try.func6 rfl (by kernel_rfl) (by kernel_rfl) ?_
  rintro ⟨P, w0, G0, V, LL, lk, N⟩ rfl rfl rfl
  unfold freshetlaw04_MomentLattice at h
  refine Tri.seqS ?_
  refine Tri.reg ?_
  refine At.seg 2 [0, 3] [3] (s' := ⟨[(0, .c (.d (.list 3 p0.length (fun i => encTime (p0.getD i default))))), (3, .c (.ptr 3 0))], [(3, .box [.d (.int .u64 p1.epoch), .d (.int .u64 p1.loop.1), .d (.int .u64 p1.loop.2)])]⟩) (c := True ∧ True ∧ True) (by kernel_rfl) ⟨trivial, trivial, trivial⟩ ?_
  refine At.done rfl ?_
  show Tri _ _ _ _
  refine Tri.seqS ?_
  refine Tri.seqJ (fun (a1 : Bool) => ⟨[(0, .c (.d (.list 3 p0.length (fun i => encTime (p0.getD i default))))), (3, .c (.ptr 3 0)), (16, .c (.d (.bool a1)))], [(3, .box [.d (.int .u64 p1.epoch), .d (.int .u64 p1.loop.1), .d (.int .u64 p1.loop.2)])]⟩) h (fun a1 h => ?_) (fun j2 h => ?_)
  · show Tri _ _ ⟨[(0, .c (.d (.list 3 p0.length (fun i => encTime (p0.getD i default))))), (3, .c (.ptr 3 0)), (16, .c (.d (.bool a1)))], [(3, .box [.d (.int .u64 p1.epoch), .d (.int .u64 p1.loop.1), .d (.int .u64 p1.loop.2)])]⟩ _
    refine Tri.condP (b := a1) rfl h (fun h => ?_) (fun h => ?_)
    · refine Tri.seqS ?_
      refine Tri.reg ?_
      refine At.seg 1 [4] [] (s' := ⟨[(4, .c (.d (.bool false)))], []⟩) (c := True ∧ True) (by kernel_rfl) ⟨trivial, trivial⟩ ?_
      refine At.done rfl ?_
      show Tri _ _ _ _
      refine Tri.keep [4] [] (s' := ⟨[(4, .c (.d (.bool false)))], []⟩) (by kernel_rfl) ?_
      refine Tri.ret ?_
      cases h
      refine ⟨_, _, rfl, ⟨trivial, trivial⟩, rfl, rfl, ?_⟩
      intro k c h
      cases h
    · refine Tri.skip ?_
      show Tri _ _ _ _
      refine Tri.seqS ?_
      refine Tri.reg ?_
      refine At.seg 1 [0, 3, 17] [3] (s' := ⟨[(0, .c (.d (.list 3 p0.length (fun i => encTime (p0.getD i default))))), (3, .c (.ptr 3 0)), (17, .c (.d (.list 3 p0.length (fun i => encTime (p0.getD i default)))))], [(3, .box [.d (.int .u64 p1.epoch), .d (.int .u64 p1.loop.1), .d (.int .u64 p1.loop.2)])]⟩) (c := True ∧ True) (by kernel_rfl) ⟨trivial, trivial⟩ ?_
      obtain ⟨r3, hr3, h⟩ := bind_elim h
      refine At.callA (caps := []) (xs := [.c (.d (.list 3 p0.length (fun i => encTime (p0.getD i default))))]) (moment_Lub_ok hr3) rfl rfl rfl rfl rfl rfl (.cons (.refl _) .nil) rfl rfl ?_
      refine At.seg 1 [0, 3, 18, 19] [3] (s' := ⟨[(0, .c (.d (.list 3 p0.length (fun i => encTime (p0.getD i default))))), (3, .c (.ptr 3 0)), (18, .agg [.d (.int .u64 r3.epoch), .d (.int .u64 r3.loop.1), .d (.int .u64 r3.loop.2)]), (19, .c (.d (.list 3 p0.length (fun i => encTime (p0.getD i default)))))], [(3, .box [.d (.int .u64 p1.epoch), .d (.int .u64 p1.loop.1), .d (.int .u64 p1.loop.2)])]⟩) (c := True ∧ True) (by kernel_rfl) ⟨trivial, trivial⟩ ?_
      obtain ⟨r4, hr4, h⟩ := bind_elim h
      refine At.callA (caps := []) (xs := [.c (.d (.list 3 p0.length (fun i => encTime (p0.getD i default))))]) (moment_Glb_ok hr4) rfl rfl rfl rfl rfl rfl (.cons (.refl _) .nil) rfl rfl ?_
      refine At.seg 4 [0, 3, 5, 6] [3, 5, 6] (s' := ⟨[(0, .c (.d (.list 3 p0.length (fun i => encTime (p0.getD i default))))), (3, .c (.ptr 3 0)), (5, .c (.ptr 5 0)), (6, .c (.ptr 6 0))], [(3, .box [.d (.int .u64 p1.epoch), .d (.int .u64 p1.loop.1), .d (.int .u64 p1.loop.2)]), (5, .box [.d (.int .u64 r3.epoch), .d (.int .u64 r3.loop.1), .d (.int .u64 r3.loop.2)]), (6, .box [.d (.int .u64 r4.epoch), .d (.int .u64 r4.loop.1), .d (.int .u64 r4.loop.2)])]⟩) (c := True ∧ True ∧ True ∧ True ∧ True) (by kernel_rfl) ⟨trivial, trivial, trivial, trivial, trivial⟩ ?_
      refine At.done rfl ?_
      show Tri _ _ _ _
      refine Tri.seqS ?_
      refine Tri.reg ?_
      refine At.seg 2 [0, 3, 5, 6, 7, 8] [3, 5, 6] (s' := ⟨[(0, .c (.d (.list 3 p0.length (fun i => encTime (p0.getD i default))))), (3, .c (.ptr 3 0)), (5, .c (.ptr 5 0)), (6, .c (.ptr 6 0)), (7, .c (.d (.bool true))), (8, .c (.d (.bool true)))], [(3, .box [.d (.int .u64 p1.epoch), .d (.int .u64 p1.loop.1), .d (.int .u64 p1.loop.2)]), (5, .box [.d (.int .u64 r3.epoch), .d (.int .u64 r3.loop.1), .d (.int .u64 r3.loop.2)]), (6, .box [.d (.int .u64 r4.epoch), .d (.int .u64 r4.loop.1), .d (.int .u64 r4.loop.2)])]⟩) (c := True ∧ True ∧ True) (by kernel_rfl) ⟨trivial, trivial, trivial⟩ ?_
      refine At.done rfl ?_
      show Tri _ _ _ _
      refine Tri.seqS ?_
      refine Tri.seqS ?_
      refine Tri.reg ?_
      refine At.seg 3 [0, 3, 5, 6, 7, 8, 21, 22, 23] [3, 5, 6] (s' := ⟨[(0, .c (.d (.list 3 p0.length (fun i => encTime (p0.getD i default))))), (3, .c (.ptr 3 0)), (5, .c (.ptr 5 0)), (6, .c (.ptr 6 0)), (7, .c (.d (.bool true))), (8, .c (.d (.bool true))), (21, .c (.d (.list 3 p0.length (fun i => encTime (p0.getD i default))))), (22, .c (.d (.int .i64 (p0.length : Int)))), (23, .c (.d (.int .i64 0)))], [(3, .box [.d (.int .u64 p1.epoch), .d (.int .u64 p1.loop.1), .d (.int .u64 p1.loop.2)]), (5, .box [.d (.int .u64 r3.epoch), .d (.int .u64 r3.loop.1), .d (.int .u64 r3.loop.2)]), (6, .box [.d (.int .u64 r4.epoch), .d (.int .u64 r4.loop.1), .d (.int .u64 r4.loop.2)])]⟩) (c := True ∧ True ∧ True ∧ True) (by kernel_rfl) ⟨trivial, trivial, trivial, trivial⟩ ?_
      refine At.done rfl ?_
      show Tri _ _ _ _
      refine Tri.lenOf (t := 21) rfl fun hlena6 => ?_
      refine Tri.keep [23, 0, 3, 5, 6, 7, 8, 21, 22] [3, 5, 6] (s' := idx 23 0 ⟨[(0, .c (.d (.list 3 p0.length (fun i => encTime (p0.getD i default))))), (3, .c (.ptr 3 0)), (5, .c (.ptr 5 0)), (6, .c (.ptr 6 0)), (7, .c (.d (.bool true))), (8, .c (.d (.bool true))), (21, .c (.d (.list 3 p0.length (fun i => encTime (p0.getD i default))))), (22, .c (.d (.int .i64 (p0.length : Int))))], [(3, .box [.d (.int .u64 p1.epoch), .d (.int .u64 p1.loop.1), .d (.int .u64 p1.loop.2)]), (5, .box [.d (.int .u64 r3.epoch), .d (.int .u64 r3.loop.1), .d (.int .u64 r3.loop.2)]), (6, .box [.d (.int .u64 r4.epoch), .d (.int .u64 r4.loop.1), .d (.int .u64 r4.loop.2)])]⟩) (by kernel_rfl) ?_
      refine Tri.range (n := p0.length) (st0 := (true, true)) (fun (x : Bool) s => RetAt Try.prog Try.f6 (.c (.d (.bool x))) [] s) (fun (a6 : Bool × Bool) => ⟨[(0, .c (.d (.list 3 p0.length (fun i => encTime (p0.getD i default))))), (3, .c (.ptr 3 0)), (5, .c (.ptr 5 0)), (6, .c (.ptr 6 0)), (7, .c (.d (.bool a6.1))), (8, .c (.d (.bool a6.2))), (21, .c (.d (.list 3 p0.length (fun i => encTime (p0.getD i default))))), (22, .c (.d (.int .i64 (p0.length : Int))))], [(3, .box [.d (.int .u64 p1.epoch), .d (.int .u64 p1.loop.1), .d (.int .u64 p1.loop.2)]), (5, .box [.d (.int .u64 r3.epoch), .d (.int .u64 r3.loop.1), .d (.int .u64 r3.loop.2)]), (6, .box [.d (.int .u64 r4.epoch), .d (.int .u64 r4.loop.1), .d (.int .u64 r4.loop.2)])]⟩) (fun (a6 : Bool × Bool) => ⟨[(0, .c (.d (.list 3 p0.length (fun i => encTime (p0.getD i default))))), (3, .c (.ptr 3 0)), (5, .c (.ptr 5 0)), (6, .c (.ptr 6 0)), (7, .c (.d (.bool a6.1))), (8, .c (.d (.bool a6.2))), (21, .c (.d (.list 3 p0.length (fun i => encTime (p0.getD i default))))), (22, .c (.d (.int .i64 (p0.length : Int))))], [(3, .box [.d (.int .u64 p1.epoch), .d (.int .u64 p1.loop.1), .d (.int .u64 p1.loop.2)]), (5, .box [.d (.int .u64 r3.epoch), .d (.int .u64 r3.loop.1), .d (.int .u64 r3.loop.2)]), (6, .box [.d (.int .u64 r4.epoch), .d (.int .u64 r4.loop.1), .d (.int .u64 r4.loop.2)])]⟩) (fun i => decide ((i : Int) < (p0.length : Int))) [24, 23, 0, 3, 5, 6, 7, 8, 21, 22] [3, 5, 6] [0, 3, 5, 6, 7, 8, 21, 22] [3, 5, 6] [23, 0, 3, 5, 6, 7, 8, 21, 22] [3, 5, 6] h hlena6 rfl ?_ ?_ ?_ ?_ ?_ ?_ ?_ ?_
      · exact fun i a => ⟨True ∧ True, by kernel_rfl, ⟨trivial, trivial⟩⟩
      · exact fun i hi => decide_eq_true (by omega)
      · exact decide_eq_false (by omega)
      · exact fun a => by kernel_rfl
      · exact fun i a => ⟨True ∧ True ∧ True, by kernel_rfl, ⟨trivial, trivial, trivial⟩⟩
      · intro i5 a6 c hii5 h
        refine Tri.seqS ?_
        refine Tri.reg ?_
        refine At.seg 4 [0, 3, 5, 6, 7, 8, 10, 21, 22, 23] [3, 5, 6, 10] (s' := ⟨[(0, .c (.d (.list 3 p0.length (fun i => encTime (p0.getD i default))))), (3, .c (.ptr 3 0)), (5, .c (.ptr 5 0)), (6, .c (.ptr 6 0)), (7, .c (.d (.bool a6.1))), (8, .c (.d (.bool a6.2))), (10, .c (.ptr 10 0)), (21, .c (.d (.list 3 p0.length (fun i => encTime (p0.getD i default))))), (22, .c (.d (.int .i64 (p0.length : Int)))), (23, .c (.d (.int .i64 ((i5 : Nat) : Int))))], [(3, .box [.d (.int .u64 p1.epoch), .d (.int .u64 p1.loop.1), .d (.int .u64 p1.loop.2)]), (5, .box [.d (.int .u64 r3.epoch), .d (.int .u64 r3.loop.1), .d (.int .u64 r3.loop.2)]), (6, .box [.d (.int .u64 r4.epoch), .d (.int .u64 r4.loop.1), .d (.int .u64 r4.loop.2)]), (10, .box [.d (.int .u64 ((p0.getD i5 default).epoch)), .d (.int .u64 ((p0.getD i5 default).loop.1)), .d (.int .u64 ((p0.getD i5 default).loop.2))])]⟩) (c := ((0 : Int) ≤ ((i5 : Nat) : Int) ∧ ((i5 : Nat) : Int) < (p0.length : Int)) ∧ True ∧ True ∧ True ∧ True) (by kernel_rfl) ⟨⟨by omega, by omega⟩, trivial, trivial, trivial, trivial⟩ ?_
        refine At.done rfl ?_
        show Tri _ _ _ _
        refine Tri.seqS ?_
        refine Tri.seqJ (fun (a13 : Bool) => ⟨[(0, .c (.d (.list 3 p0.length (fun i => encTime (p0.getD i default))))), (3, .c (.ptr 3 0)), (5, .c (.ptr 5 0)), (6, .c (.ptr 6 0)), (7, .c (.d (.bool a6.1))), (8, .c (.d (.bool a6.2))), (10, .c (.ptr 10 0)), (21, .c (.d (.list 3 p0.length (fun i => encTime (p0.getD i default))))), (22, .c (.d (.int .i64 (p0.length : Int)))), (23, .c (.d (.int .i64 ((i5 : Nat) : Int)))), (36, .c (.d (.bool a13)))], [(3, .box [.d (.int .u64 p1.epoch), .d (.int .u64 p1.loop.1), .d (.int .u64 p1.loop.2)]), (5, .box [.d (.int .u64 r3.epoch), .d (.int .u64 r3.loop.1), .d (.int .u64 r3.loop.2)]), (6, .box [.d (.int .u64 r4.epoch), .d (.int .u64 r4.loop.1), .d (.int .u64 r4.loop.2)]), (10, .box [.d (.int .u64 ((p0.getD i5 default).epoch)), .d (.int .u64 ((p0.getD i5 default).loop.1)), .d (.int .u64 ((p0.getD i5 default).loop.2))])]⟩) h (fun a13 h => ?_) (fun j14 h => ?_)
        · show Tri _ _ ⟨[(0, .c (.d (.list 3 p0.length (fun i => encTime (p0.getD i default))))), (3, .c (.ptr 3 0)), (5, .c (.ptr 5 0)), (6, .c (.ptr 6 0)), (7, .c (.d (.bool a6.1))), (8, .c (.d (.bool a6.2))), (10, .c (.ptr 10 0)), (21, .c (.d (.list 3 p0.length (fun i => encTime (p0.getD i default))))), (22, .c (.d (.int .i64 (p0.length : Int)))), (23, .c (.d (.int .i64 ((i5 : Nat) : Int)))), (36, .c (.d (.bool a13)))], [(3, .box [.d (.int .u64 p1.epoch), .d (.int .u64 p1.loop.1), .d (.int .u64 p1.loop.2)]), (5, .box [.d (.int .u64 r3.epoch), .d (.int .u64 r3.loop.1), .d (.int .u64 r3.loop.2)]), (6, .box [.d (.int .u64 r4.epoch), .d (.int .u64 r4.loop.1), .d (.int .u64 r4.loop.2)]), (10, .box [.d (.int .u64 ((p0.getD i5 default).epoch)), .d (.int .u64 ((p0.getD i5 default).loop.1)), .d (.int .u64 ((p0.getD i5 default).loop.2))])]⟩ _
          refine Tri.condP (b := a13) rfl h (fun h => ?_) (fun h => ?_)
          · refine Tri.seqS ?_
            refine Tri.reg ?_
            refine At.seg 1 [4] [] (s' := ⟨[(4, .c (.d (.bool false)))], []⟩) (c := True ∧ True) (by kernel_rfl) ⟨trivial, trivial⟩ ?_
            refine At.done rfl ?_
            show Tri _ _ _ _
            refine Tri.keep [4] [] (s' := ⟨[(4, .c (.d (.bool false)))], []⟩) (by kernel_rfl) ?_
            refine Tri.ret ?_
            cases h
            refine ⟨_, _, rfl, ⟨trivial, trivial⟩, rfl, rfl, ?_⟩
            intro k c h
            cases h
          · refine Tri.skip ?_
            show Tri _ _ _ _
            refine Tri.reg ?_
            refine At.seg 2 [0, 3, 5, 6, 8, 10, 21, 22, 23, 38] [3, 5, 6, 10] (s' := ⟨[(0, .c (.d (.list 3 p0.length (fun i => encTime (p0.getD i default))))), (3, .c (.ptr 3 0)), (5, .c (.ptr 5 0)), (6, .c (.ptr 6 0)), (8, .c (.d (.bool a6.2))), (10, .c (.ptr 10 0)), (21, .c (.d (.list 3 p0.length (fun i => encTime (p0.getD i default))))), (22, .c (.d (.int .i64 (p0.length : Int)))), (23, .c (.d (.int .i64 ((i5 : Nat) : Int)))), (38, .c (.d (.bool a6.1)))], [(3, .box [.d (.int .u64 p1.epoch), .d (.int .u64 p1.loop.1), .d (.int .u64 p1.loop.2)]), (5, .box [.d (.int .u64 r3.epoch), .d (.int .u64 r3.loop.1), .d (.int .u64 r3.loop.2)]), (6, .box [.d (.int .u64 r4.epoch), .d (.int .u64 r4.loop.1), .d (.int .u64 r4.loop.2)]), (10, .box [.d (.int .u64 ((p0.getD i5 default).epoch)), .d (.int .u64 ((p0.getD i5 default).loop.1)), .d (.int .u64 ((p0.getD i5 default).loop.2))])]⟩) (c := True ∧ True ∧ True) (by kernel_rfl) ⟨trivial, trivial, trivial⟩ ?_
            refine At.case (fun b => ⟨[(0, .c (.d (.list 3 p0.length (fun i => encTime (p0.getD i default))))), (3, .c (.ptr 3 0)), (5, .c (.ptr 5 0)), (6, .c (.ptr 6 0)), (8, .c (.d (.bool a6.2))), (10, .c (.ptr 10 0)), (21, .c (.d (.list 3 p0.length (fun i => encTime (p0.getD i default))))), (22, .c (.d (.int .i64 (p0.length : Int)))), (23, .c (.d (.int .i64 ((i5 : Nat) : Int)))), (38, .c (.d (.bool b)))], [(3, .box [.d (.int .u64 p1.epoch), .d (.int .u64 p1.loop.1), .d (.int .u64 p1.loop.2)]), (5, .box [.d (.int .u64 r3.epoch), .d (.int .u64 r3.loop.1), .d (.int .u64 r3.loop.2)]), (6, .box [.d (.int .u64 r4.epoch), .d (.int .u64 r4.loop.1), .d (.int .u64 r4.loop.2)]), (10, .box [.d (.int .u64 ((p0.getD i5 default).epoch)), .d (.int .u64 ((p0.getD i5 default).loop.1)), .d (.int .u64 ((p0.getD i5 default).loop.2))])]⟩) (b := a6.1) h (fun h => ?_) (fun h => ?_)
            · refine At.seg 2 [0, 3, 5, 6, 8, 10, 21, 22, 23, 38, 39, 40] [3, 5, 6, 10] (s' := ⟨[(0, .c (.d (.list 3 p0.length (fun i => encTime (p0.getD i default))))), (3, .c (.ptr 3 0)), (5, .c (.ptr 5 0)), (6, .c (.ptr 6 0)), (8, .c (.d (.bool a6.2))), (10, .c (.ptr 10 0)), (21, .c (.d (.list 3 p0.length (fun i => encTime (p0.getD i default))))), (22, .c (.d (.int .i64 (p0.length : Int)))), (23, .c (.d (.int .i64 ((i5 : Nat) : Int)))), (38, .c (.d (.bool true))), (39, .agg [.d (.int .u64 ((p0.getD i5 default).epoch)), .d (.int .u64 ((p0.getD i5 default).loop.1)), .d (.int .u64 ((p0.getD i5 default).loop.2))]), (40, .agg [.d (.int .u64 p1.epoch), .d (.int .u64 p1.loop.1), .d (.int .u64 p1.loop.2)])], [(3, .box [.d (.int .u64 p1.epoch), .d (.int .u64 p1.loop.1), .d (.int .u64 p1.loop.2)]), (5, .box [.d (.int .u64 r3.epoch), .d (.int .u64 r3.loop.1), .d (.int .u64 r3.loop.2)]), (6, .box [.d (.int .u64 r4.epoch), .d (.int .u64 r4.loop.1), .d (.int .u64 r4.loop.2)]), (10, .box [.d (.int .u64 ((p0.getD i5 default).epoch)), .d (.int .u64 ((p0.getD i5 default).loop.1)), .d (.int .u64 ((p0.getD i5 default).loop.2))])]⟩) (c := True ∧ True ∧ True) (by kernel_rfl) ⟨trivial, trivial, trivial⟩ ?_
              obtain ⟨r15, hr15, h⟩ := bind_elim h
              refine At.callA (caps := []) (xs := [.agg [.d (.int .u64 ((p0.getD i5 default).epoch)), .d (.int .u64 ((p0.getD i5 default).loop.1)), .d (.int .u64 ((p0.getD i5 default).loop.2))], .agg [.d (.int .u64 p1.epoch), .d (.int .u64 p1.loop.1), .d (.int .u64 p1.loop.2)]]) (moment_Ahead_ok hr15) rfl rfl rfl rfl rfl rfl (.cons (.refl _) (.cons (.refl _) .nil)) rfl rfl ?_
              refine At.seg 3 [0, 3, 5, 6, 10, 21, 22, 23, 42, 44] [3, 5, 6, 10] (s' := ⟨[(0, .c (.d (.list 3 p0.length (fun i => encTime (p0.getD i default))))), (3, .c (.ptr 3 0)), (5, .c (.ptr 5 0)), (6, .c (.ptr 6 0)), (10, .c (.ptr 10 0)), (21, .c (.d (.list 3 p0.length (fun i => encTime (p0.getD i default))))), (22, .c (.d (.int .i64 (p0.length : Int)))), (23, .c (.d (.int .i64 ((i5 : Nat) : Int)))), (42, .c (.d (.bool r15))), (44, .c (.d (.bool a6.2)))], [(3, .box [.d (.int .u64 p1.epoch), .d (.int .u64 p1.loop.1), .d (.int .u64 p1.loop.2)]), (5, .box [.d (.int .u64 r3.epoch), .d (.int .u64 r3.loop.1), .d (.int .u64 r3.loop.2)]), (6, .box [.d (.int .u64 r4.epoch), .d (.int .u64 r4.loop.1), .d (.int .u64 r4.loop.2)]), (10, .box [.d (.int .u64 ((p0.getD i5 default).epoch)), .d (.int .u64 ((p0.getD i5 default).loop.1)), .d (.int .u64 ((p0.getD i5 default).loop.2))])]⟩) (c := True ∧ True ∧ True ∧ True) (by kernel_rfl) ⟨trivial, trivial, trivial, trivial⟩ ?_
              refine At.case (fun b => ⟨[(0, .c (.d (.list 3 p0.length (fun i => encTime (p0.getD i default))))), (3, .c (.ptr 3 0)), (5, .c (.ptr 5 0)), (6, .c (.ptr 6 0)), (10, .c (.ptr 10 0)), (21, .c (.d (.list 3 p0.length (fun i => encTime (p0.getD i default))))), (22, .c (.d (.int .i64 (p0.length : Int)))), (23, .c (.d (.int .i64 ((i5 : Nat) : Int)))), (42, .c (.d (.bool r15))), (44, .c (.d (.bool b)))], [(3, .box [.d (.int .u64 p1.epoch), .d (.int .u64 p1.loop.1), .d (.int .u64 p1.loop.2)]), (5, .box [.d (.int .u64 r3.epoch), .d (.int .u64 r3.loop.1), .d (.int .u64 r3.loop.2)]), (6, .box [.d (.int .u64 r4.epoch), .d (.int .u64 r4.loop.1), .d (.int .u64 r4.loop.2)]), (10, .box [.d (.int .u64 ((p0.getD i5 default).epoch)), .d (.int .u64 ((p0.getD i5 default).loop.1)), .d (.int .u64 ((p0.getD i5 default).loop.2))])]⟩) (b := a6.2) h (fun h => ?_) (fun h => ?_)
              · refine At.seg 2 [0, 3, 5, 6, 21, 22, 23, 42, 44, 45, 46] [3, 5, 6] (s' := ⟨[(0, .c (.d (.list 3 p0.length (fun i => encTime (p0.getD i default))))), (3, .c (.ptr 3 0)), (5, .c (.ptr 5 0)), (6, .c (.ptr 6 0)), (21, .c (.d (.list 3 p0.length (fun i => encTime (p0.getD i default))))), (22, .c (.d (.int .i64 (p0.length : Int)))), (23, .c (.d (.int .i64 ((i5 : Nat) : Int)))), (42, .c (.d (.bool r15))), (44, .c (.d (.bool true))), (45, .agg [.d (.int .u64 p1.epoch), .d (.int .u64 p1.loop.1), .d (.int .u64 p1.loop.2)]), (46, .agg [.d (.int .u64 ((p0.getD i5 default).epoch)), .d (.int .u64 ((p0.getD i5 default).loop.1)), .d (.int .u64 ((p0.getD i5 default).loop.2))])], [(3, .box [.d (.int .u64 p1.epoch), .d (.int .u64 p1.loop.1), .d (.int .u64 p1.loop.2)]), (5, .box [.d (.int .u64 r3.epoch), .d (.int .u64 r3.loop.1), .d (.int .u64 r3.loop.2)]), (6, .box [.d (.int .u64 r4.epoch), .d (.int .u64 r4.loop.1), .d (.int .u64 r4.loop.2)])]⟩) (c := True ∧ True ∧ True) (by kernel_rfl) ⟨trivial, trivial, trivial⟩ ?_
                obtain ⟨r16, hr16, h⟩ := bind_elim h
                refine At.callA (caps := []) (xs := [.agg [.d (.int .u64 p1.epoch), .d (.int .u64 p1.loop.1), .d (.int .u64 p1.loop.2)], .agg [.d (.int .u64 ((p0.getD i5 default).epoch)), .d (.int .u64 ((p0.getD i5 default).loop.1)), .d (.int .u64 ((p0.getD i5 default).loop.2))]]) (moment_Ahead_ok hr16) rfl rfl rfl rfl rfl rfl (.cons (.refl _) (.cons (.refl _) .nil)) rfl rfl ?_
                refine At.seg 3 [23, 0, 3, 5, 6, 7, 8, 21, 22] [3, 5, 6] (s' := ⟨[(23, .c (.d (.int .i64 ((i5 : Nat) : Int)))), (0, .c (.d (.list 3 p0.length (fun i => encTime (p0.getD i default))))), (3, .c (.ptr 3 0)), (5, .c (.ptr 5 0)), (6, .c (.ptr 6 0)), (7, .c (.d (.bool r15))), (8, .c (.d (.bool r16))), (21, .c (.d (.list 3 p0.length (fun i => encTime (p0.getD i default))))), (22, .c (.d (.int .i64 (p0.length : Int))))], [(3, .box [.d (.int .u64 p1.epoch), .d (.int .u64 p1.loop.1), .d (.int .u64 p1.loop.2)]), (5, .box [.d (.int .u64 r3.epoch), .d (.int .u64 r3.loop.1), .d (.int .u64 r3.loop.2)]), (6, .box [.d (.int .u64 r4.epoch), .d (.int .u64 r4.loop.1), .d (.int .u64 r4.loop.2)])]⟩) (c := True ∧ True ∧ True ∧ True) (by kernel_rfl) ⟨trivial, trivial, trivial, trivial⟩ ?_
                refine At.done rfl ?_
                cases h
                exact rfl
              · refine At.seg 6 [23, 0, 3, 5, 6, 7, 8, 21, 22] [3, 5, 6] (s' := ⟨[(23, .c (.d (.int .i64 ((i5 : Nat) : Int)))), (0, .c (.d (.list 3 p0.length (fun i => encTime (p0.getD i default))))), (3, .c (.ptr 3 0)), (5, .c (.ptr 5 0)), (6, .c (.ptr 6 0)), (7, .c (.d (.bool r15))), (8, .c (.d (.bool false))), (21, .c (.d (.list 3 p0.length (fun i => encTime (p0.getD i default))))), (22, .c (.d (.int .i64 (p0.length : Int))))], [(3, .box [.d (.int .u64 p1.epoch), .d (.int .u64 p1.loop.1), .d (.int .u64 p1.loop.2)]), (5, .box [.d (.int .u64 r3.epoch), .d (.int .u64 r3.loop.1), .d (.int .u64 r3.loop.2)]), (6, .box [.d (.int .u64 r4.epoch), .d (.int .u64 r4.loop.1), .d (.int .u64 r4.loop.2)])]⟩) (c := True ∧ True ∧ True ∧ True) (by kernel_rfl) ⟨trivial, trivial, trivial, trivial⟩ ?_
                refine At.done rfl ?_
                cases h
                exact rfl
            · refine At.seg 6 [0, 3, 5, 6, 10, 21, 22, 23, 42, 44] [3, 5, 6, 10] (s' := ⟨[(0, .c (.d (.list 3 p0.length (fun i => encTime (p0.getD i default))))), (3, .c (.ptr 3 0)), (5, .c (.ptr 5 0)), (6, .c (.ptr 6 0)), (10, .c (.ptr 10 0)), (21, .c (.d (.list 3 p0.length (fun i => encTime (p0.getD i default))))), (22, .c (.d (.int .i64 (p0.length : Int)))), (23, .c (.d (.int .i64 ((i5 : Nat) : Int)))), (42, .c (.d (.bool false))), (44, .c (.d (.bool a6.2)))], [(3, .box [.d (.int .u64 p1.epoch), .d (.int .u64 p1.loop.1), .d (.int .u64 p1.loop.2)]), (5, .box [.d (.int .u64 r3.epoch), .d (.int .u64 r3.loop.1), .d (.int .u64 r3.loop.2)]), (6, .box [.d (.int .u64 r4.epoch), .d (.int .u64 r4.loop.1), .d (.int .u64 r4.loop.2)]), (10, .box [.d (.int .u64 ((p0.getD i5 default).epoch)), .d (.int .u64 ((p0.getD i5 default).loop.1)), .d (.int .u64 ((p0.getD i5 default).loop.2))])]⟩) (c := True ∧ True ∧ True ∧ True) (by kernel_rfl) ⟨trivial, trivial, trivial, trivial⟩ ?_
              refine At.case (fun b => ⟨[(0, .c (.d (.list 3 p0.length (fun i => encTime (p0.getD i default))))), (3, .c (.ptr 3 0)), (5, .c (.ptr 5 0)), (6, .c (.ptr 6 0)), (10, .c (.ptr 10 0)), (21, .c (.d (.list 3 p0.length (fun i => encTime (p0.getD i default))))), (22, .c (.d (.int .i64 (p0.length : Int)))), (23, .c (.d (.int .i64 ((i5 : Nat) : Int)))), (42, .c (.d (.bool false))), (44, .c (.d (.bool b)))], [(3, .box [.d (.int .u64 p1.epoch), .d (.int .u64 p1.loop.1), .d (.int .u64 p1.loop.2)]), (5, .box [.d (.int .u64 r3.epoch), .d (.int .u64 r3.loop.1), .d (.int .u64 r3.loop.2)]), (6, .box [.d (.int .u64 r4.epoch), .d (.int .u64 r4.loop.1), .d (.int .u64 r4.loop.2)]), (10, .box [.d (.int .u64 ((p0.getD i5 default).epoch)), .d (.int .u64 ((p0.getD i5 default).loop.1)), .d (.int .u64 ((p0.getD i5 default).loop.2))])]⟩) (b := a6.2) h (fun h => ?_) (fun h => ?_)
              · refine At.seg 2 [0, 3, 5, 6, 21, 22, 23, 42, 44, 45, 46] [3, 5, 6] (s' := ⟨[(0, .c (.d (.list 3 p0.length (fun i => encTime (p0.getD i default))))), (3, .c (.ptr 3 0)), (5, .c (.ptr 5 0)), (6, .c (.ptr 6 0)), (21, .c (.d (.list 3 p0.length (fun i => encTime (p0.getD i default))))), (22, .c (.d (.int .i64 (p0.length : Int)))), (23, .c (.d (.int .i64 ((i5 : Nat) : Int)))), (42, .c (.d (.bool false))), (44, .c (.d (.bool true))), (45, .agg [.d (.int .u64 p1.epoch), .d (.int .u64 p1.loop.1), .d (.int .u64 p1.loop.2)]), (46, .agg [.d (.int .u64 ((p0.getD i5 default).epoch)), .d (.int .u64 ((p0.getD i5 default).loop.1)), .d (.int .u64 ((p0.getD i5 default).loop.2))])], [(3, .box [.d (.int .u64 p1.epoch), .d (.int .u64 p1.loop.1), .d (.int .u64 p1.loop.2)]), (5, .box [.d (.int .u64 r3.epoch), .d (.int .u64 r3.loop.1), .d (.int .u64 r3.loop.2)]), (6, .box [.d (.int .u64 r4.epoch), .d (.int .u64 r4.loop.1), .d (.int .u64 r4.loop.2)])]⟩) (c := True ∧ True ∧ True) (by kernel_rfl) ⟨trivial, trivial, trivial⟩ ?_
                obtain ⟨r17, hr17, h⟩ := bind_elim h
                refine At.callA (caps := []) (xs := [.agg [.d (.int .u64 p1.epoch), .d (.int .u64 p1.loop.1), .d (.int .u64 p1.loop.2)], .agg [.d (.int .u64 ((p0.getD i5 default).epoch)), .d (.int .u64 ((p0.getD i5 default).loop.1)), .d (.int .u64 ((p0.getD i5 default).loop.2))]]) (moment_Ahead_ok hr17) rfl rfl rfl rfl rfl rfl (.cons (.refl _) (.cons (.refl _) .nil)) rfl rfl ?_
                refine At.seg 3 [23, 0, 3, 5, 6, 7, 8, 21, 22] [3, 5, 6] (s' := ⟨[(23, .c (.d (.int .i64 ((i5 : Nat) : Int)))), (0, .c (.d (.list 3 p0.length (fun i => encTime (p0.getD i default))))), (3, .c (.ptr 3 0)), (5, .c (.ptr 5 0)), (6, .c (.ptr 6 0)), (7, .c (.d (.bool false))), (8, .c (.d (.bool r17))), (21, .c (.d (.list 3 p0.length (fun i => encTime (p0.getD i default))))), (22, .c (.d (.int .i64 (p0.length : Int))))], [(3, .box [.d (.int .u64 p1.epoch), .d (.int .u64 p1.loop.1), .d (.int .u64 p1.loop.2)]), (5, .box [.d (.int .u64 r3.epoch), .d (.int .u64 r3.loop.1), .d (.int .u64 r3.loop.2)]), (6, .box [.d (.int .u64 r4.epoch), .d (.int .u64 r4.loop.1), .d (.int .u64 r4.loop.2)])]⟩) (c := True ∧ True ∧ True ∧ True) (by kernel_rfl) ⟨trivial, trivial, trivial, trivial⟩ ?_
                refine At.done rfl ?_
                cases h
                exact rfl
              · refine At.seg 6 [23, 0, 3, 5, 6, 7, 8, 21, 22] [3, 5, 6] (s' := ⟨[(23, .c (.d (.int .i64 ((i5 : Nat) : Int)))), (0, .c (.d (.list 3 p0.length (fun i => encTime (p0.getD i default))))), (3, .c (.ptr 3 0)), (5, .c (.ptr 5 0)), (6, .c (.ptr 6 0)), (7, .c (.d (.bool false))), (8, .c (.d (.bool false))), (21, .c (.d (.list 3 p0.length (fun i => encTime (p0.getD i default))))), (22, .c (.d (.int .i64 (p0.length : Int))))], [(3, .box [.d (.int .u64 p1.epoch), .d (.int .u64 p1.loop.1), .d (.int .u64 p1.loop.2)]), (5, .box [.d (.int .u64 r3.epoch), .d (.int .u64 r3.loop.1), .d (.int .u64 r3.loop.2)]), (6, .box [.d (.int .u64 r4.epoch), .d (.int .u64 r4.loop.1), .d (.int .u64 r4.loop.2)])]⟩) (c := True ∧ True ∧ True ∧ True) (by kernel_rfl) ⟨trivial, trivial, trivial, trivial⟩ ?_
                refine At.done rfl ?_
                cases h
                exact rfl
        · refine Tri.reg ?_
          refine At.seg 2 [0, 3, 5, 6, 7, 8, 10, 21, 22, 23, 27, 28] [3, 5, 6, 10] (s' := ⟨[(0, .c (.d (.list 3 p0.length (fun i => encTime (p0.getD i default))))), (3, .c (.ptr 3 0)), (5, .c (.ptr 5 0)), (6, .c (.ptr 6 0)), (7, .c (.d (.bool a6.1))), (8, .c (.d (.bool a6.2))), (10, .c (.ptr 10 0)), (21, .c (.d (.list 3 p0.length (fun i => encTime (p0.getD i default))))), (22, .c (.d (.int .i64 (p0.length : Int)))), (23, .c (.d (.int .i64 ((i5 : Nat) : Int)))), (27, .agg [.d (.int .u64 ((p0.getD i5 default).epoch)), .d (.int .u64 ((p0.getD i5 default).loop.1)), .d (.int .u64 ((p0.getD i5 default).loop.2))]), (28, .agg [.d (.int .u64 r3.epoch), .d (.int .u64 r3.loop.1), .d (.int .u64 r3.loop.2)])], [(3, .box [.d (.int .u64 p1.epoch), .d (.int .u64 p1.loop.1), .d (.int .u64 p1.loop.2)]), (5, .box [.d (.int .u64 r3.epoch), .d (.int .u64 r3.loop.1), .d (.int .u64 r3.loop.2)]), (6, .box [.d (.int .u64 r4.epoch), .d (.int .u64 r4.loop.1), .d (.int .u64 r4.loop.2)]), (10, .box [.d (.int .u64 ((p0.getD i5 default).epoch)), .d (.int .u64 ((p0.getD i5 default).loop.1)), .d (.int .u64 ((p0.getD i5 default).loop.2))])]⟩) (c := True ∧ True ∧ True) (by kernel_rfl) ⟨trivial, trivial, trivial⟩ ?_
          obtain ⟨r18, hr18, h⟩ := bind_elim h
          refine At.callA (caps := []) (xs := [.agg [.d (.int .u64 ((p0.getD i5 default).epoch)), .d (.int .u64 ((p0.getD i5 default).loop.1)), .d (.int .u64 ((p0.getD i5 default).loop.2))], .agg [.d (.int .u64 r3.epoch), .d (.int .u64 r3.loop.1), .d (.int .u64 r3.loop.2)]]) (moment_Ahead_ok hr18) rfl rfl rfl rfl rfl rfl (.cons (.refl _) (.cons (.refl _) .nil)) rfl rfl ?_
          refine At.seg 2 [0, 3, 5, 6, 7, 8, 10, 21, 22, 23, 31] [3, 5, 6, 10] (s' := ⟨[(0, .c (.d (.list 3 p0.length (fun i => encTime (p0.getD i default))))), (3, .c (.ptr 3 0)), (5, .c (.ptr 5 0)), (6, .c (.ptr 6 0)), (7, .c (.d (.bool a6.1))), (8, .c (.d (.bool a6.2))), (10, .c (.ptr 10 0)), (21, .c (.d (.list 3 p0.length (fun i => encTime (p0.getD i default))))), (22, .c (.d (.int .i64 (p0.length : Int)))), (23, .c (.d (.int .i64 ((i5 : Nat) : Int)))), (31, .c (.d (.bool (!r18))))], [(3, .box [.d (.int .u64 p1.epoch), .d (.int .u64 p1.loop.1), .d (.int .u64 p1.loop.2)]), (5, .box [.d (.int .u64 r3.epoch), .d (.int .u64 r3.loop.1), .d (.int .u64 r3.loop.2)]), (6, .box [.d (.int .u64 r4.epoch), .d (.int .u64 r4.loop.1), .d (.int .u64 r4.loop.2)]), (10, .box [.d (.int .u64 ((p0.getD i5 default).epoch)), .d (.int .u64 ((p0.getD i5 default).loop.1)), .d (.int .u64 ((p0.getD i5 default).loop.2))])]⟩) (c := True ∧ True ∧ True) (by kernel_rfl) ⟨trivial, trivial, trivial⟩ ?_
          refine At.case (fun b => ⟨[(0, .c (.d (.list 3 p0.length (fun i => encTime (p0.getD i default))))), (3, .c (.ptr 3 0)), (5, .c (.ptr 5 0)), (6, .c (.ptr 6 0)), (7, .c (.d (.bool a6.1))), (8, .c (.d (.bool a6.2))), (10, .c (.ptr 10 0)), (21, .c (.d (.list 3 p0.length (fun i => encTime (p0.getD i default))))), (22, .c (.d (.int .i64 (p0.length : Int)))), (23, .c (.d (.int .i64 ((i5 : Nat) : Int)))), (31, .c (.d (.bool b)))], [(3, .box [.d (.int .u64 p1.epoch), .d (.int .u64 p1.loop.1), .d (.int .u64 p1.loop.2)]), (5, .box [.d (.int .u64 r3.epoch), .d (.int .u64 r3.loop.1), .d (.int .u64 r3.loop.2)]), (6, .box [.d (.int .u64 r4.epoch), .d (.int .u64 r4.loop.1), .d (.int .u64 r4.loop.2)]), (10, .box [.d (.int .u64 ((p0.getD i5 default).epoch)), .d (.int .u64 ((p0.getD i5 default).loop.1)), .d (.int .u64 ((p0.getD i5 default).loop.2))])]⟩) (b := (!r18)) h (fun h => ?_) (fun h => ?_)
          · refine At.seg 5 [0, 3, 5, 6, 7, 8, 10, 21, 22, 23, 36] [3, 5, 6, 10] (s' := ⟨[(0, .c (.d (.list 3 p0.length (fun i => encTime (p0.getD i default))))), (3, .c (.ptr 3 0)), (5, .c (.ptr 5 0)), (6, .c (.ptr 6 0)), (7, .c (.d (.bool a6.1))), (8, .c (.d (.bool a6.2))), (10, .c (.ptr 10 0)), (21, .c (.d (.list 3 p0.length (fun i => encTime (p0.getD i default))))), (22, .c (.d (.int .i64 (p0.length : Int)))), (23, .c (.d (.int .i64 ((i5 : Nat) : Int)))), (36, .c (.d (.bool true)))], [(3, .box [.d (.int .u64 p1.epoch), .d (.int .u64 p1.loop.1), .d (.int .u64 p1.loop.2)]), (5, .box [.d (.int .u64 r3.epoch), .d (.int .u64 r3.loop.1), .d (.int .u64 r3.loop.2)]), (6, .box [.d (.int .u64 r4.epoch), .d (.int .u64 r4.loop.1), .d (.int .u64 r4.loop.2)]), (10, .box [.d (.int .u64 ((p0.getD i5 default).epoch)), .d (.int .u64 ((p0.getD i5 default).loop.1)), .d (.int .u64 ((p0.getD i5 default).loop.2))])]⟩) (c := True ∧ True) (by kernel_rfl) ⟨trivial, trivial⟩ ?_
            refine At.done rfl ?_
            exact ⟨_, h, rfl⟩
          · refine At.seg 2 [0, 3, 5, 6, 7, 8, 10, 21, 22, 23, 31, 32, 33] [3, 5, 6, 10] (s' := ⟨[(0, .c (.d (.list 3 p0.length (fun i => encTime (p0.getD i default))))), (3, .c (.ptr 3 0)), (5, .c (.ptr 5 0)), (6, .c (.ptr 6 0)), (7, .c (.d (.bool a6.1))), (8, .c (.d (.bool a6.2))), (10, .c (.ptr 10 0)), (21, .c (.d (.list 3 p0.length (fun i => encTime (p0.getD i default))))), (22, .c (.d (.int .i64 (p0.length : Int)))), (23, .c (.d (.int .i64 ((i5 : Nat) : Int)))), (31, .c (.d (.bool false))), (32, .agg [.d (.int .u64 r4.epoch), .d (.int .u64 r4.loop.1), .d (.int .u64 r4.loop.2)]), (33, .agg [.d (.int .u64 ((p0.getD i5 default).epoch)), .d (.int .u64 ((p0.getD i5 default).loop.1)), .d (.int .u64 ((p0.getD i5 default).loop.2))])], [(3, .box [.d (.int .u64 p1.epoch), .d (.int .u64 p1.loop.1), .d (.int .u64 p1.loop.2)]), (5, .box [.d (.int .u64 r3.epoch), .d (.int .u64 r3.loop.1), .d (.int .u64 r3.loop.2)]), (6, .box [.d (.int .u64 r4.epoch), .d (.int .u64 r4.loop.1), .d (.int .u64 r4.loop.2)]), (10, .box [.d (.int .u64 ((p0.getD i5 default).epoch)), .d (.int .u64 ((p0.getD i5 default).loop.1)), .d (.int .u64 ((p0.getD i5 default).loop.2))])]⟩) (c := True ∧ True ∧ True) (by kernel_rfl) ⟨trivial, trivial, trivial⟩ ?_
            obtain ⟨r19, hr19, h⟩ := bind_elim h
            refine At.callA (caps := []) (xs := [.agg [.d (.int .u64 r4.epoch), .d (.int .u64 r4.loop.1), .d (.int .u64 r4.loop.2)], .agg [.d (.int .u64 ((p0.getD i5 default).epoch)), .d (.int .u64 ((p0.getD i5 default).loop.1)), .d (.int .u64 ((p0.getD i5 default).loop.2))]]) (moment_Ahead_ok hr19) rfl rfl rfl rfl rfl rfl (.cons (.refl _) (.cons (.refl _) .nil)) rfl rfl ?_
            refine At.seg 2 [0, 3, 5, 6, 7, 8, 10, 21, 22, 23, 36] [3, 5, 6, 10] (s' := ⟨[(0, .c (.d (.list 3 p0.length (fun i => encTime (p0.getD i default))))), (3, .c (.ptr 3 0)), (5, .c (.ptr 5 0)), (6, .c (.ptr 6 0)), (7, .c (.d (.bool a6.1))), (8, .c (.d (.bool a6.2))), (10, .c (.ptr 10 0)), (21, .c (.d (.list 3 p0.length (fun i => encTime (p0.getD i default))))), (22, .c (.d (.int .i64 (p0.length : Int)))), (23, .c (.d (.int .i64 ((i5 : Nat) : Int)))), (36, .c (.d (.bool (!r19))))], [(3, .box [.d (.int .u64 p1.epoch), .d (.int .u64 p1.loop.1), .d (.int .u64 p1.loop.2)]), (5, .box [.d (.int .u64 r3.epoch), .d (.int .u64 r3.loop.1), .d (.int .u64 r3.loop.2)]), (6, .box [.d (.int .u64 r4.epoch), .d (.int .u64 r4.loop.1), .d (.int .u64 r4.loop.2)]), (10, .box [.d (.int .u64 ((p0.getD i5 default).epoch)), .d (.int .u64 ((p0.getD i5 default).loop.1)), .d (.int .u64 ((p0.getD i5 default).loop.2))])]⟩) (c := True ∧ True ∧ True) (by kernel_rfl) ⟨trivial, trivial, trivial⟩ ?_
            refine At.done rfl ?_
            exact ⟨_, h, rfl⟩
      · intro a7 h
        show Tri _ _ _ _
        refine Tri.seqJ (fun (a8 : Bool) => ⟨[(4, .c (.d (.bool a8)))], []⟩) h (fun a8 h => ?_) (fun j9 h => ?_)
        · show Tri _ _ ⟨[(4, .c (.d (.bool a8)))], []⟩ _
          refine Tri.keep [4] [] (s' := ⟨[(4, .c (.d (.bool a8)))], []⟩) (by kernel_rfl) ?_
          refine Tri.ret ?_
          cases h
          refine ⟨_, _, rfl, ⟨trivial, trivial⟩, rfl, rfl, ?_⟩
          intro k c h
          cases h
        · refine Tri.reg ?_
          refine At.seg 4 [3, 5, 6, 7, 8, 53] [3, 5, 6] (s' := ⟨[(3, .c (.ptr 3 0)), (5, .c (.ptr 5 0)), (6, .c (.ptr 6 0)), (7, .c (.d (.bool a7.1))), (8, .c (.d (.bool a7.2))), (53, .c (.d (.bool (decide ((p0.length : Int) = 0)))))], [(3, .box [.d (.int .u64 p1.epoch), .d (.int .u64 p1.loop.1), .d (.int .u64 p1.loop.2)]), (5, .box [.d (.int .u64 r3.epoch), .d (.int .u64 r3.loop.1), .d (.int .u64 r3.loop.2)]), (6, .box [.d (.int .u64 r4.epoch), .d (.int .u64 r4.loop.1), .d (.int .u64 r4.loop.2)])]⟩) (c := True ∧ True ∧ True ∧ True ∧ True) (by kernel_rfl) ⟨trivial, trivial, trivial, trivial, trivial⟩ ?_
          refine At.case (fun b => ⟨[(3, .c (.ptr 3 0)), (5, .c (.ptr 5 0)), (6, .c (.ptr 6 0)), (7, .c (.d (.bool a7.1))), (8, .c (.d (.bool a7.2))), (53, .c (.d (.bool b)))], [(3, .box [.d (.int .u64 p1.epoch), .d (.int .u64 p1.loop.1), .d (.int .u64 p1.loop.2)]), (5, .box [.d (.int .u64 r3.epoch), .d (.int .u64 r3.loop.1), .d (.int .u64 r3.loop.2)]), (6, .box [.d (.int .u64 r4.epoch), .d (.int .u64 r4.loop.1), .d (.int .u64 r4.loop.2)])]⟩) (b := (decide ((p0.length : Int) = 0))) h (fun h => ?_) (fun h => ?_)
          · refine At.seg 18 [4] [] (s' := ⟨[(4, .c (.d (.bool true)))], []⟩) (c := True ∧ True ∧ True) (by kernel_rfl) ⟨trivial, trivial, trivial⟩ ?_
            refine At.done rfl ?_
            exact ⟨_, h, rfl⟩
          · refine At.seg 3 [3, 5, 6, 8, 53, 56] [3, 5, 6] (s' := ⟨[(3, .c (.ptr 3 0)), (5, .c (.ptr 5 0)), (6, .c (.ptr 6 0)), (8, .c (.d (.bool a7.2))), (53, .c (.d (.bool false))), (56, .c (.d (.bool (!a7.1))))], [(3, .box [.d (.int .u64 p1.epoch), .d (.int .u64 p1.loop.1), .d (.int .u64 p1.loop.2)]), (5, .box [.d (.int .u64 r3.epoch), .d (.int .u64 r3.loop.1), .d (.int .u64 r3.loop.2)]), (6, .box [.d (.int .u64 r4.epoch), .d (.int .u64 r4.loop.1), .d (.int .u64 r4.loop.2)])]⟩) (c := True ∧ True ∧ True ∧ True) (by kernel_rfl) ⟨trivial, trivial, trivial, trivial⟩ ?_
            refine At.case (fun b => ⟨[(3, .c (.ptr 3 0)), (5, .c (.ptr 5 0)), (6, .c (.ptr 6 0)), (8, .c (.d (.bool a7.2))), (53, .c (.d (.bool false))), (56, .c (.d (.bool b)))], [(3, .box [.d (.int .u64 p1.epoch), .d (.int .u64 p1.loop.1), .d (.int .u64 p1.loop.2)]), (5, .box [.d (.int .u64 r3.epoch), .d (.int .u64 r3.loop.1), .d (.int .u64 r3.loop.2)]), (6, .box [.d (.int .u64 r4.epoch), .d (.int .u64 r4.loop.1), .d (.int .u64 r4.loop.2)])]⟩) (b := (!a7.1)) h (fun h => ?_) (fun h => ?_)
            · refine At.seg 8 [3, 6, 53, 61, 64] [3, 6] (s' := ⟨[(3, .c (.ptr 3 0)), (6, .c (.ptr 6 0)), (53, .c (.d (.bool false))), (61, .c (.d (.bool true))), (64, .c (.d (.bool (!a7.2))))], [(3, .box [.d (.int .u64 p1.epoch), .d (.int .u64 p1.loop.1), .d (.int .u64 p1.loop.2)]), (6, .box [.d (.int .u64 r4.epoch), .d (.int .u64 r4.loop.1), .d (.int .u64 r4.loop.2)])]⟩) (c := True ∧ True ∧ True ∧ True ∧ True ∧ True) (by kernel_rfl) ⟨trivial, trivial, trivial, trivial, trivial, trivial⟩ ?_
              refine At.case (fun b => ⟨[(3, .c (.ptr 3 0)), (6, .c (.ptr 6 0)), (53, .c (.d (.bool false))), (61, .c (.d (.bool true))), (64, .c (.d (.bool b)))], [(3, .box [.d (.int .u64 p1.epoch), .d (.int .u64 p1.loop.1), .d (.int .u64 p1.loop.2)]), (6, .box [.d (.int .u64 r4.epoch), .d (.int .u64 r4.loop.1), .d (.int .u64 r4.loop.2)])]⟩) (b := (!a7.2)) h (fun h => ?_) (fun h => ?_)
              · refine At.seg 7 [4] [] (s' := ⟨[(4, .c (.d (.bool true)))], []⟩) (c := True ∧ True ∧ True ∧ True ∧ True) (by kernel_rfl) ⟨trivial, trivial, trivial, trivial, trivial⟩ ?_
                refine At.done rfl ?_
                exact ⟨_, h, rfl⟩
              · refine At.seg 2 [53, 61, 64, 65, 66] [] (s' := ⟨[(53, .c (.d (.bool false))), (61, .c (.d (.bool true))), (64, .c (.d (.bool false))), (65, .agg [.d (.int .u64 p1.epoch), .d (.int .u64 p1.loop.1), .d (.int .u64 p1.loop.2)]), (66, .agg [.d (.int .u64 r4.epoch), .d (.int .u64 r4.loop.1), .d (.int .u64 r4.loop.2)])], []⟩) (c := True ∧ True ∧ True) (by kernel_rfl) ⟨trivial, trivial, trivial⟩ ?_
                obtain ⟨r10, hr10, h⟩ := bind_elim h
                refine At.callA (caps := []) (xs := [.agg [.d (.int .u64 p1.epoch), .d (.int .u64 p1.loop.1), .d (.int .u64 p1.loop.2)], .agg [.d (.int .u64 r4.epoch), .d (.int .u64 r4.loop.1), .d (.int .u64 r4.loop.2)]]) (moment_Ahead_ok hr10) rfl rfl rfl rfl rfl rfl (.cons (.refl _) (.cons (.refl _) .nil)) rfl rfl ?_
                refine At.seg 4 [4] [] (s' := ⟨[(4, .c (.d (.bool r10)))], []⟩) (c := True ∧ True ∧ True ∧ True ∧ True) (by kernel_rfl) ⟨trivial, trivial, trivial, trivial, trivial⟩ ?_
                refine At.done rfl ?_
                exact ⟨_, h, rfl⟩
            · refine At.seg 2 [3, 6, 8, 53, 56, 57, 58] [3, 6] (s' := ⟨[(3, .c (.ptr 3 0)), (6, .c (.ptr 6 0)), (8, .c (.d (.bool a7.2))), (53, .c (.d (.bool false))), (56, .c (.d (.bool false))), (57, .agg [.d (.int .u64 r3.epoch), .d (.int .u64 r3.loop.1), .d (.int .u64 r3.loop.2)]), (58, .agg [.d (.int .u64 p1.epoch), .d (.int .u64 p1.loop.1), .d (.int .u64 p1.loop.2)])], [(3, .box [.d (.int .u64 p1.epoch), .d (.int .u64 p1.loop.1), .d (.int .u64 p1.loop.2)]), (6, .box [.d (.int .u64 r4.epoch), .d (.int .u64 r4.loop.1), .d (.int .u64 r4.loop.2)])]⟩) (c := True ∧ True ∧ True) (by kernel_rfl) ⟨trivial, trivial, trivial⟩ ?_
              obtain ⟨r11, hr11, h⟩ := bind_elim h
              refine At.callA (caps := []) (xs := [.agg [.d (.int .u64 r3.epoch), .d (.int .u64 r3.loop.1), .d (.int .u64 r3.loop.2)], .agg [.d (.int .u64 p1.epoch), .d (.int .u64 p1.loop.1), .d (.int .u64 p1.loop.2)]]) (moment_Ahead_ok hr11) rfl rfl rfl rfl rfl rfl (.cons (.refl _) (.cons (.refl _) .nil)) rfl rfl ?_
              refine At.seg 2 [3, 6, 8, 53, 61] [3, 6] (s' := ⟨[(3, .c (.ptr 3 0)), (6, .c (.ptr 6 0)), (8, .c (.d (.bool a7.2))), (53, .c (.d (.bool false))), (61, .c (.d (.bool r11)))], [(3, .box [.d (.int .u64 p1.epoch), .d (.int .u64 p1.loop.1), .d (.int .u64 p1.loop.2)]), (6, .box [.d (.int .u64 r4.epoch), .d (.int .u64 r4.loop.1), .d (.int .u64 r4.loop.2)])]⟩) (c := True ∧ True ∧ True) (by kernel_rfl) ⟨trivial, trivial, trivial⟩ ?_
              refine At.case (fun b => ⟨[(3, .c (.ptr 3 0)), (6, .c (.ptr 6 0)), (8, .c (.d (.bool a7.2))), (53, .c (.d (.bool false))), (61, .c (.d (.bool b)))], [(3, .box [.d (.int .u64 p1.epoch), .d (.int .u64 p1.loop.1), .d (.int .u64 p1.loop.2)]), (6, .box [.d (.int .u64 r4.epoch), .d (.int .u64 r4.loop.1), .d (.int .u64 r4.loop.2)])]⟩) (b := r11) h (fun h => ?_) (fun h => ?_)
              · refine At.seg 3 [3, 6, 53, 61, 64] [3, 6] (s' := ⟨[(3, .c (.ptr 3 0)), (6, .c (.ptr 6 0)), (53, .c (.d (.bool false))), (61, .c (.d (.bool true))), (64, .c (.d (.bool (!a7.2))))], [(3, .box [.d (.int .u64 p1.epoch), .d (.int .u64 p1.loop.1), .d (.int .u64 p1.loop.2)]), (6, .box [.d (.int .u64 r4.epoch), .d (.int .u64 r4.loop.1), .d (.int .u64 r4.loop.2)])]⟩) (c := True ∧ True ∧ True ∧ True) (by kernel_rfl) ⟨trivial, trivial, trivial, trivial⟩ ?_
                refine At.case (fun b => ⟨[(3, .c (.ptr 3 0)), (6, .c (.ptr 6 0)), (53, .c (.d (.bool false))), (61, .c (.d (.bool true))), (64, .c (.d (.bool b)))], [(3, .box [.d (.int .u64 p1.epoch), .d (.int .u64 p1.loop.1), .d (.int .u64 p1.loop.2)]), (6, .box [.d (.int .u64 r4.epoch), .d (.int .u64 r4.loop.1), .d (.int .u64 r4.loop.2)])]⟩) (b := (!a7.2)) h (fun h => ?_) (fun h => ?_)
                · refine At.seg 7 [4] [] (s' := ⟨[(4, .c (.d (.bool true)))], []⟩) (c := True ∧ True ∧ True ∧ True ∧ True) (by kernel_rfl) ⟨trivial, trivial, trivial, trivial, trivial⟩ ?_
                  refine At.done rfl ?_
                  exact ⟨_, h, rfl⟩
                · refine At.seg 2 [53, 61, 64, 65, 66] [] (s' := ⟨[(53, .c (.d (.bool false))), (61, .c (.d (.bool true))), (64, .c (.d (.bool false))), (65, .agg [.d (.int .u64 p1.epoch), .d (.int .u64 p1.loop.1), .d (.int .u64 p1.loop.2)]), (66, .agg [.d (.int .u64 r4.epoch), .d (.int .u64 r4.loop.1), .d (.int .u64 r4.loop.2)])], []⟩) (c := True ∧ True ∧ True) (by kernel_rfl) ⟨trivial, trivial, trivial⟩ ?_
                  obtain ⟨r12, hr12, h⟩ := bind_elim h
                  refine At.callA (caps := []) (xs := [.agg [.d (.int .u64 p1.epoch), .d (.int .u64 p1.loop.1), .d (.int .u64 p1.loop.2)], .agg [.d (.int .u64 r4.epoch), .d (.int .u64 r4.loop.1), .d (.int .u64 r4.loop.2)]]) (moment_Ahead_ok hr12) rfl rfl rfl rfl rfl rfl (.cons (.refl _) (.cons (.refl _) .nil)) rfl rfl ?_
                  refine At.seg 4 [4] [] (s' := ⟨[(4, .c (.d (.bool r12)))], []⟩) (c := True ∧ True ∧ True ∧ True ∧ True) (by kernel_rfl) ⟨trivial, trivial, trivial, trivial, trivial⟩ ?_
                  refine At.done rfl ?_
                  exact ⟨_, h, rfl⟩
              · refine At.seg 10 [4] [] (s' := ⟨[(4, .c (.d (.bool false)))], []⟩) (c := True ∧ True ∧ True ∧ True) (by kernel_rfl) ⟨trivial, trivial, trivial, trivial⟩ ?_
                refine At.done rfl ?_
                exact ⟨_, h, rfl⟩
      · exact fun x s hx hr => by cases hx; exact hr
  · refine Tri.reg ?_
    obtain ⟨r20, hr20, h⟩ := bind_elim h
    refine At.callA (caps := []) (xs := []) (freshetlaw04_orders_ok hr20) rfl rfl rfl rfl rfl rfl .nil rfl rfl ?_
    refine At.seg 2 [0, 3, 13] [3] (s' := ⟨[(0, .c (.d (.list 3 p0.length (fun i => encTime (p0.getD i default))))), (3, .c (.ptr 3 0)), (13, .c (.d (.bool (!r20))))], [(3, .box [.d (.int .u64 p1.epoch), .d (.int .u64 p1.loop.1), .d (.int .u64 p1.loop.2)])]⟩) (c := True ∧ True ∧ True) (by kernel_rfl) ⟨trivial, trivial, trivial⟩ ?_
    refine At.case (fun b => ⟨[(0, .c (.d (.list 3 p0.length (fun i => encTime (p0.getD i default))))), (3, .c (.ptr 3 0)), (13, .c (.d (.bool b)))], [(3, .box [.d (.int .u64 p1.epoch), .d (.int .u64 p1.loop.1), .d (.int .u64 p1.loop.2)])]⟩) (b := (!r20)) h (fun h => ?_) (fun h => ?_)
    · refine At.seg 3 [0, 3, 16] [3] (s' := ⟨[(0, .c (.d (.list 3 p0.length (fun i => encTime (p0.getD i default))))), (3, .c (.ptr 3 0)), (16, .c (.d (.bool true)))], [(3, .box [.d (.int .u64 p1.epoch), .d (.int .u64 p1.loop.1), .d (.int .u64 p1.loop.2)])]⟩) (c := True ∧ True) (by kernel_rfl) ⟨trivial, trivial⟩ ?_
      refine At.done rfl ?_
      exact ⟨_, h, rfl⟩
    · obtain ⟨r21, hr21, h⟩ := bind_elim h
      refine At.callA (caps := []) (xs := []) (freshetlaw04_bounds_ok hr21) rfl rfl rfl rfl rfl rfl .nil rfl rfl ?_
      refine At.seg 2 [0, 3, 16] [3] (s' := ⟨[(0, .c (.d (.list 3 p0.length (fun i => encTime (p0.getD i default))))), (3, .c (.ptr 3 0)), (16, .c (.d (.bool (!r21))))], [(3, .box [.d (.int .u64 p1.epoch), .d (.int .u64 p1.loop.1), .d (.int .u64 p1.loop.2)])]⟩) (c := True ∧ True ∧ True) (by kernel_rfl) ⟨trivial, trivial, trivial⟩ ?_
      refine At.done rfl ?_
      exact ⟨_, h, rfl⟩

set_option maxRecDepth 100000 in
theorem freshetref04_Ahead_ok {p0 : Time} {p1 : Time} {q : Bool} (h : freshetref04_Ahead p0 p1 = some q) :
    Summ Try.prog 21 [.agg [.d (.int .u64 p0.epoch), .d (.int .u64 p0.loop.1), .d (.int .u64 p0.loop.2)], .agg [.d (.int .u64 p1.epoch), .d (.int .u64 p1.loop.1), .d (.int .u64 p1.loop.2)]] [] (.c (.d (.bool q))) [] := by
  refine Summ.intro Try.func21 rfl (by kernel_rfl) (by kernel_rfl) ?_
  rintro ⟨P, w0, G0, V, LL, lk, N⟩ rfl rfl rfl
  unfold freshetref04_Ahead at h
  refine Tri.seqS ?_
  refine Tri.reg ?_
  refine At.seg 3 [2, 3] [2, 3] (s' := ⟨[(2, .c (.ptr 2 0)), (3, .c (.ptr 3 0))], [(2, .box [.d (.int .u64 p0.epoch), .d (.int .u64 p0.loop.1), .d (.int .u64 p0.loop.2)]), (3, .box [.d (.int .u64 p1.epoch), .d (.int .u64 p1.loop.1), .d (.int .u64 p1.loop.2)])]⟩) (c := True ∧ True ∧ True ∧ True) (by kernel_rfl) ⟨trivial, trivial, trivial, trivial⟩ ?_
  refine At.done rfl ?_
  show Tri _ _ _ _
  refine Tri.seqS ?_
  refine Tri.seqS ?_
  refine Tri.reg ?_
  refine At.seg 3 [2, 3, 8, 9] [2, 3] (s' := ⟨[(2, .c (.ptr 2 0)), (3, .c (.ptr 3 0)), (8, .agg [.d (.int .u64 p0.loop.1), .d (.int .u64 p0.loop.2)]), (9, .c (.d (.int .i64 0)))], [(2, .box [.d (.int .u64 p0.epoch), .d (.int .u64 p0.loop.1), .d (.int .u64 p0.loop.2)]), (3, .box [.d (.int .u64 p1.epoch), .d (.int .u64 p1.loop.1), .d (.int .u64 p1.loop.2)])]⟩) (c := True ∧ True ∧ True ∧ True) (by kernel_rfl) ⟨trivial, trivial, trivial, trivial⟩ ?_
  refine At.done rfl ?_
  show Tri _ _ _ _
  refine Tri.keep [9, 2, 3, 8] [2, 3] (s' := idx 9 0 ⟨[(2, .c (.ptr 2 0)), (3, .c (.ptr 3 0)), (8, .agg [.d (.int .u64 p0.loop.1), .d (.int .u64 p0.loop.2)])], [(2, .box [.d (.int .u64 p0.epoch), .d (.int .u64 p0.loop.1), .d (.int .u64 p0.loop.2)]), (3, .box [.d (.int .u64 p1.epoch), .d (.int .u64 p1.loop.1), .d (.int .u64 p1.loop.2)])]⟩) (by kernel_rfl) ?_
  refine Tri.range (n := 2) (st0 := ()) (fun (x : Bool) s => RetAt Try.prog Try.f21 (.c (.d (.bool x))) [] s) (fun (a2 : Unit) => ⟨[(2, .c (.ptr 2 0)), (3, .c (.ptr 3 0)), (8, .agg [.d (.int .u64 p0.loop.1), .d (.int .u64 p0.loop.2)])], [(2, .box [.d (.int .u64 p0.epoch), .d (.int .u64 p0.loop.1), .d (.int .u64 p0.loop.2)]), (3, .box [.d (.int .u64 p1.epoch), .d (.int .u64 p1.loop.1), .d (.int .u64 p1.loop.2)])]⟩) (fun (a2 : Unit) => ⟨[(2, .c (.ptr 2 0)), (3, .c (.ptr 3 0)), (8, .agg [.d (.int .u64 p0.loop.1), .d (.int .u64 p0.loop.2)])], [(2, .box [.d (.int .u64 p0.epoch), .d (.int .u64 p0.loop.1), .d (.int .u64 p0.loop.2)]), (3, .box [.d (.int .u64 p1.epoch), .d (.int .u64 p1.loop.1), .d (.int .u64 p1.loop.2)])]⟩) (fun i => decide ((i : Int) < (2 : Int))) [10, 9, 2, 3, 8] [2, 3] [2, 3, 8] [2, 3] [9, 2, 3, 8] [2, 3] h (by unfold maxN; omega) rfl ?_ ?_ ?_ ?_ ?_ ?_ ?_ ?_
  · exact fun i a => ⟨True ∧ True, by kernel_rfl, ⟨trivial, trivial⟩⟩
  · exact fun i hi => decide_eq_true (by omega)
  · exact decide_eq_false (by omega)
  · exact fun a => by kernel_rfl
  · exact fun i a => ⟨True ∧ True ∧ True, by kernel_rfl, ⟨trivial, trivial, trivial⟩⟩
  · intro i1 a2 c hii1 h
    rcases i1 with _ | i1
    · refine Tri.seqS ?_
      refine Tri.reg ?_
      refine At.seg 4 [2, 3, 5, 6, 8, 9] [2, 3] (s' := ⟨[(2, .c (.ptr 2 0)), (3, .c (.ptr 3 0)), (5, .c (.d (.int .i64 ((0 : Nat) : Int)))), (6, .c (.d (.int .u64 p0.loop.1))), (8, .agg [.d (.int .u64 p0.loop.1), .d (.int .u64 p0.loop.2)]), (9, .c (.d (.int .i64 ((0 : Nat) : Int))))], [(2, .box [.d (.int .u64 p0.epoch), .d (.int .u64 p0.loop.1), .d (.int .u64 p0.loop.2)]), (3, .box [.d (.int .u64 p1.epoch), .d (.int .u64 p1.loop.1), .d (.int .u64 p1.loop.2)])]⟩) (c := True ∧ True ∧ True ∧ True ∧ True) (by kernel_rfl) ⟨trivial, trivial, trivial, trivial, trivial⟩ ?_
      refine At.done rfl ?_
      show Tri _ _ _ _
      refine Tri.seqS ?_
      refine Tri.reg ?_
      refine At.seg 6 [2, 3, 8, 9, 18] [2, 3] (s' := ⟨[(2, .c (.ptr 2 0)), (3, .c (.ptr 3 0)), (8, .agg [.d (.int .u64 p0.loop.1), .d (.int .u64 p0.loop.2)]), (9, .c (.d (.int .i64 ((0 : Nat) : Int)))), (18, .c (.d (.bool (decide (p1.loop.1 < p0.loop.1)))))], [(2, .box [.d (.int .u64 p0.epoch), .d (.int .u64 p0.loop.1), .d (.int .u64 p0.loop.2)]), (3, .box [.d (.int .u64 p1.epoch), .d (.int .u64 p1.loop.1), .d (.int .u64 p1.loop.2)])]⟩) (c := True ∧ True ∧ True ∧ True ∧ True ∧ True ∧ True) (by kernel_rfl) ⟨trivial, trivial, trivial, trivial, trivial, trivial, trivial⟩ ?_
      refine At.done rfl ?_
      show Tri _ _ _ _
      refine Tri.condP (b := (decide (p1.loop.1 < p0.loop.1))) rfl h (fun h => ?_) (fun h => ?_)
      · refine Tri.seqS ?_
        refine Tri.reg ?_
        refine At.seg 1 [4] [] (s' := ⟨[(4, .c (.d (.bool false)))], []⟩) (c := True ∧ True) (by kernel_rfl) ⟨trivial, trivial⟩ ?_
        refine At.done rfl ?_
        show Tri _ _ _ _
        refine Tri.keep [4] [] (s' := ⟨[(4, .c (.d (.bool false)))], []⟩) (by kernel_rfl) ?_
        refine Tri.ret ?_
        cases h
        refine ⟨_, _, rfl, ⟨trivial, trivial⟩, rfl, rfl, ?_⟩
        intro k c h
        cases h
      · refine Tri.keep [9, 2, 3, 8] [2, 3] (s' := ⟨[(9, .c (.d (.int .i64 ((0 : Nat) : Int)))), (2, .c (.ptr 2 0)), (3, .c (.ptr 3 0)), (8, .agg [.d (.int .u64 p0.loop.1), .d (.int .u64 p0.loop.2)])], [(2, .box [.d (.int .u64 p0.epoch), .d (.int .u64 p0.loop.1), .d (.int .u64 p0.loop.2)]), (3, .box [.d (.int .u64 p1.epoch), .d (.int .u64 p1.loop.1), .d (.int .u64 p1.loop.2)])]⟩) (by kernel_rfl) ?_
        refine Tri.skip ?_
        cases h
        exact rfl
    rcases i1 with _ | i1
    · refine Tri.seqS ?_
      refine Tri.reg ?_
      refine At.seg 4 [2, 3, 5, 6, 8, 9] [2, 3] (s' := ⟨[(2, .c (.ptr 2 0)), (3, .c (.ptr 3 0)), (5, .c (.d (.int .i64 ((1 : Nat) : Int)))), (6, .c (.d (.int .u64 p0.loop.2))), (8, .agg [.d (.int .u64 p0.loop.1), .d (.int .u64 p0.loop.2)]), (9, .c (.d (.int .i64 ((1 : Nat) : Int))))], [(2, .box [.d (.int .u64 p0.epoch), .d (.int .u64 p0.loop.1), .d (.int .u64 p0.loop.2)]), (3, .box [.d (.int .u64 p1.epoch), .d (.int .u64 p1.loop.1), .d (.int .u64 p1.loop.2)])]⟩) (c := True ∧ True ∧ True ∧ True ∧ True) (by kernel_rfl) ⟨trivial, trivial, trivial, trivial, trivial⟩ ?_
      refine At.done rfl ?_
      show Tri _ _ _ _
      refine Tri.seqS ?_
      refine Tri.reg ?_
      refine At.seg 6 [2, 3, 8, 9, 18] [2, 3] (s' := ⟨[(2, .c (.ptr 2 0)), (3, .c (.ptr 3 0)), (8, .agg [.d (.int .u64 p0.loop.1), .d (.int .u64 p0.loop.2)]), (9, .c (.d (.int .i64 ((1 : Nat) : Int)))), (18, .c (.d (.bool (decide (p1.loop.2 < p0.loop.2)))))], [(2, .box [.d (.int .u64 p0.epoch), .d (.int .u64 p0.loop.1), .d (.int .u64 p0.loop.2)]), (3, .box [.d (.int .u64 p1.epoch), .d (.int .u64 p1.loop.1), .d (.int .u64 p1.loop.2)])]⟩) (c := True ∧ True ∧ True ∧ True ∧ True ∧ True ∧ True) (by kernel_rfl) ⟨trivial, trivial, trivial, trivial, trivial, trivial, trivial⟩ ?_
      refine At.done rfl ?_
      show Tri _ _ _ _
      refine Tri.condP (b := (decide (p1.loop.2 < p0.loop.2))) rfl h (fun h => ?_) (fun h => ?_)
      · refine Tri.seqS ?_
        refine Tri.reg ?_
        refine At.seg 1 [4] [] (s' := ⟨[(4, .c (.d (.bool false)))], []⟩) (c := True ∧ True) (by kernel_rfl) ⟨trivial, trivial⟩ ?_
        refine At.done rfl ?_
        show Tri _ _ _ _
        refine Tri.keep [4] [] (s' := ⟨[(4, .c (.d (.bool false)))], []⟩) (by kernel_rfl) ?_
        refine Tri.ret ?_
        cases h
        refine ⟨_, _, rfl, ⟨trivial, trivial⟩, rfl, rfl, ?_⟩
        intro k c h
        cases h
      · refine Tri.keep [9, 2, 3, 8] [2, 3] (s' := ⟨[(9, .c (.d (.int .i64 ((1 : Nat) : Int)))), (2, .c (.ptr 2 0)), (3, .c (.ptr 3 0)), (8, .agg [.d (.int .u64 p0.loop.1), .d (.int .u64 p0.loop.2)])], [(2, .box [.d (.int .u64 p0.epoch), .d (.int .u64 p0.loop.1), .d (.int .u64 p0.loop.2)]), (3, .box [.d (.int .u64 p1.epoch), .d (.int .u64 p1.loop.1), .d (.int .u64 p1.loop.2)])]⟩) (by kernel_rfl) ?_
        refine Tri.skip ?_
        cases h
        exact rfl
    exact absurd hii1 (by omega)
  · intro a3 h
    show Tri _ _ _ _
    refine Tri.seqS ?_
    refine Tri.reg ?_
    refine At.seg 6 [4] [] (s' := ⟨[(4, .c (.d (.bool (decide (p0.epoch ≤ p1.epoch)))))], []⟩) (c := True ∧ True ∧ True ∧ True ∧ True ∧ True ∧ True) (by kernel_rfl) ⟨trivial, trivial, trivial, trivial, trivial, trivial, trivial⟩ ?_
    refine At.done rfl ?_
    show Tri _ _ _ _
    refine Tri.keep [4] [] (s' := ⟨[(4, .c (.d (.bool (decide (p0.epoch ≤ p1.epoch)))))], []⟩) (by kernel_rfl) ?_
    refine Tri.ret ?_
    cases h
    refine ⟨_, _, rfl, ⟨trivial, trivial⟩, rfl, rfl, ?_⟩
    intro k c h
    cases h
  · exact fun x s hx hr => by cases hx; exact hr

set_option maxRecDepth 100000 in
theorem freshetref04_Compare_ok {p0 : Time} {p1 : Time} {q : Int} (h : freshetref04_Compare p0 p1 = some q) :
    Summ Try.prog 22 [.agg [.d (.int .u64 p0.epoch), .d (.int .u64 p0.loop.1), .d (.int .u64 p0.loop.2)], .agg [.d (.int .u64 p1.epoch), .d (.int .u64 p1.loop.1), .d (.int .u64 p1.loop.2)]] [] (.c (.d (.int .i64 q))) [] := by
  refine Summ.intro Try.func22 rfl (by kernel_rfl) (by kernel_rfl) ?_
  rintro ⟨P, w0, G0, V, LL, lk, N⟩ rfl rfl rfl
  unfold freshetref04_Compare at h
  refine Tri.seqS ?_
  refine Tri.reg ?_
  refine At.seg 3 [2, 3] [2, 3] (s' := ⟨[(2, .c (.ptr 2 0)), (3, .c (.ptr 3 0))], [(2, .box [.d (.int .u64 p0.epoch), .d (.int .u64 p0.loop.1), .d (.int .u64 p0.loop.2)]), (3, .box [.d (.int .u64 p1.epoch), .d (.int .u64 p1.loop.1), .d (.int .u64 p1.loop.2)])]⟩) (c := True ∧ True ∧ True ∧ True) (by kernel_rfl) ⟨trivial, trivial, trivial, trivial⟩ ?_
  refine At.done rfl ?_
  show Tri _ _ _ _
  refine Tri.seqS ?_
  refine Tri.seqS ?_
  refine Tri.reg ?_
  refine At.seg 5 [2, 3, 11] [2, 3] (s' := ⟨[(2, .c (.ptr 2 0)), (3, .c (.ptr 3 0)), (11, .c (.d (.bool (!decide (p0.epoch = p1.epoch)))))], [(2, .box [.d (.int .u64 p0.epoch), .d (.int .u64 p0.loop.1), .d (.int .u64 p0.loop.2)]), (3, .box [.d (.int .u64 p1.epoch), .d (.int .u64 p1.loop.1), .d (.int .u64 p1.loop.2)])]⟩) (c := True ∧ True ∧ True ∧ True ∧ True ∧ True) (by kernel_rfl) ⟨trivial, trivial, trivial, trivial, trivial, trivial⟩ ?_
  refine At.done rfl ?_
  show Tri _ _ _ _
  refine Tri.condP (b := (!decide (p0.epoch = p1.epoch))) rfl h (fun h => ?_) (fun h => ?_)
  · refine Tri.seqS ?_
    refine Tri.seqS ?_
    refine Tri.reg ?_
    refine At.seg 5 [16] [] (s' := ⟨[(16, .c (.d (.bool (decide (p0.epoch < p1.epoch)))))], []⟩) (c := True ∧ True ∧ True ∧ True ∧ True ∧ True) (by kernel_rfl) ⟨trivial, trivial, trivial, trivial, trivial, trivial⟩ ?_
    refine At.done rfl ?_
    show Tri _ _ _ _
    refine Tri.condP (b := (decide (p0.epoch < p1.epoch))) rfl h (fun h => ?_) (fun h => ?_)
    · refine Tri.seqS ?_
      refine Tri.reg ?_
      refine At.seg 1 [4] [] (s' := ⟨[(4, .c (.d (.int .i64 (-1))))], []⟩) (c := True ∧ True) (by kernel_rfl) ⟨trivial, trivial⟩ ?_
      refine At.done rfl ?_
      show Tri _ _ _ _
      refine Tri.keep [4] [] (s' := ⟨[(4, .c (.d (.int .i64 (-1))))], []⟩) (by kernel_rfl) ?_
      refine Tri.ret ?_
      cases h
      refine ⟨_, _, rfl, ⟨trivial, trivial⟩, rfl, rfl, ?_⟩
      intro k c h
      cases h
    · refine Tri.skip ?_
      show Tri _ _ _ _
      refine Tri.seqS ?_
      refine Tri.reg ?_
      refine At.seg 1 [4] [] (s' := ⟨[(4, .c (.d (.int .i64 1)))], []⟩) (c := True ∧ True) (by kernel_rfl) ⟨trivial, trivial⟩ ?_
      refine At.done rfl ?_
      show Tri _ _ _ _
      refine Tri.keep [4] [] (s' := ⟨[(4, .c (.d (.int .i64 1)))], []⟩) (by kernel_rfl) ?_
      refine Tri.ret ?_
      cases h
      refine ⟨_, _, rfl, ⟨trivial, trivial⟩, rfl, rfl, ?_⟩
      intro k c h
      cases h
  · refine Tri.skip ?_
    show Tri _ _ _ _
    refine Tri.seqS ?_
    refine Tri.seqS ?_
    refine Tri.reg ?_
    refine At.seg 3 [3, 18, 19] [3] (s' := ⟨[(3, .c (.ptr 3 0)), (18, .agg [.d (.int .u64 p0.loop.1), .d (.int .u64 p0.loop.2)]), (19, .c (.d (.int .i64 0)))], [(3, .box [.d (.int .u64 p1.epoch), .d (.int .u64 p1.loop.1), .d (.int .u64 p1.loop.2)])]⟩) (c := True ∧ True ∧ True ∧ True) (by kernel_rfl) ⟨trivial, trivial, trivial, trivial⟩ ?_
    refine At.done rfl ?_
    show Tri _ _ _ _
    refine Tri.keep [19, 3, 18] [3] (s' := idx 19 0 ⟨[(3, .c (.ptr 3 0)), (18, .agg [.d (.int .u64 p0.loop.1), .d (.int .u64 p0.loop.2)])], [(3, .box [.d (.int .u64 p1.epoch), .d (.int .u64 p1.loop.1), .d (.int .u64 p1.loop.2)])]⟩) (by kernel_rfl) ?_
    refine Tri.range (n := 2) (st0 := ()) (fun (x : Int) s => RetAt Try.prog Try.f22 (.c (.d (.int .i64 x))) [] s) (fun (a2 : Unit) => ⟨[(3, .c (.ptr 3 0)), (18, .agg [.d (.int .u64 p0.loop.1), .d (.int .u64 p0.loop.2)])], [(3, .box [.d (.int .u64 p1.epoch), .d (.int .u64 p1.loop.1), .d (.int .u64 p1.loop.2)])]⟩) (fun (a2 : Unit) => ⟨[(3, .c (.ptr 3 0)), (18, .agg [.d (.int .u64 p0.loop.1), .d (.int .u64 p0.loop.2)])], [(3, .box [.d (.int .u64 p1.epoch), .d (.int .u64 p1.loop.1), .d (.int .u64 p1.loop.2)])]⟩) (fun i => decide ((i : Int) < (2 : Int))) [20, 19, 3, 18] [3] [3, 18] [3] [19, 3, 18] [3] h (by unfold maxN; omega) rfl ?_ ?_ ?_ ?_ ?_ ?_ ?_ ?_
    · exact fun i a => ⟨True ∧ True, by kernel_rfl, ⟨trivial, trivial⟩⟩
    · exact fun i hi => decide_eq_true (by omega)
    · exact decide_eq_false (by omega)
    · exact fun a => by kernel_rfl
    · exact fun i a => ⟨True ∧ True ∧ True, by kernel_rfl, ⟨trivial, trivial, trivial⟩⟩
    · intro i1 a2 c hii1 h
      rcases i1 with _ | i1
      · refine Tri.seqS ?_
        refine Tri.reg ?_
        refine At.seg 4 [3, 5, 6, 18, 19] [3] (s' := ⟨[(3, .c (.ptr 3 0)), (5, .c (.d (.int .i64 ((0 : Nat) : Int)))), (6, .c (.d (.int .u64 p0.loop.1))), (18, .agg [.d (.int .u64 p0.loop.1), .d (.int .u64 p0.loop.2)]), (19, .c (.d (.int .i64 ((0 : Nat) : Int))))], [(3, .box [.d (.int .u64 p1.epoch), .d (.int .u64 p1.loop.1), .d (.int .u64 p1.loop.2)])]⟩) (c := True ∧ True ∧ True ∧ True ∧ True) (by kernel_rfl) ⟨trivial, trivial, trivial, trivial, trivial⟩ ?_
        refine At.done rfl ?_
        show Tri _ _ _ _
        refine Tri.seqS ?_
        refine Tri.seqS ?_
        refine Tri.reg ?_
        refine At.seg 6 [3, 5, 6, 18, 19, 28] [3] (s' := ⟨[(3, .c (.ptr 3 0)), (5, .c (.d (.int .i64 ((0 : Nat) : Int)))), (6, .c (.d (.int .u64 p0.loop.1))), (18, .agg [.d (.int .u64 p0.loop.1), .d (.int .u64 p0.loop.2)]), (19, .c (.d (.int .i64 ((0 : Nat) : Int)))), (28, .c (.d (.bool (decide (p0.loop.1 < p1.loop.1)))))], [(3, .box [.d (.int .u64 p1.epoch), .d (.int .u64 p1.loop.1), .d (.int .u64 p1.loop.2)])]⟩) (c := True ∧ True ∧ True ∧ True ∧ True ∧ True ∧ True) (by kernel_rfl) ⟨trivial, trivial, trivial, trivial, trivial, trivial, trivial⟩ ?_
        refine At.done rfl ?_
        show Tri _ _ _ _
        refine Tri.condP (b := (decide (p0.loop.1 < p1.loop.1))) rfl h (fun h => ?_) (fun h => ?_)
        · refine Tri.seqS ?_
          refine Tri.reg ?_
          refine At.seg 1 [4] [] (s' := ⟨[(4, .c (.d (.int .i64 (-1))))], []⟩) (c := True ∧ True) (by kernel_rfl) ⟨trivial, trivial⟩ ?_
          refine At.done rfl ?_
          show Tri _ _ _ _
          refine Tri.keep [4] [] (s' := ⟨[(4, .c (.d (.int .i64 (-1))))], []⟩) (by kernel_rfl) ?_
          refine Tri.ret ?_
          cases h
          refine ⟨_, _, rfl, ⟨trivial, trivial⟩, rfl, rfl, ?_⟩
          intro k c h
          cases h
        · refine Tri.skip ?_
          show Tri _ _ _ _
          refine Tri.seqS ?_
          refine Tri.reg ?_
          refine At.seg 6 [3, 18, 19, 34] [3] (s' := ⟨[(3, .c (.ptr 3 0)), (18, .agg [.d (.int .u64 p0.loop.1), .d (.int .u64 p0.loop.2)]), (19, .c (.d (.int .i64 ((0 : Nat) : Int)))), (34, .c (.d (.bool (decide (p1.loop.1 < p0.loop.1)))))], [(3, .box [.d (.int .u64 p1.epoch), .d (.int .u64 p1.loop.1), .d (.int .u64 p1.loop.2)])]⟩) (c := True ∧ True ∧ True ∧ True ∧ True ∧ True ∧ True) (by kernel_rfl) ⟨trivial, trivial, trivial, trivial, trivial, trivial, trivial⟩ ?_
          refine At.done rfl ?_
          show Tri _ _ _ _
          refine Tri.condP (b := (decide (p1.loop.1 < p0.loop.1))) rfl h (fun h => ?_) (fun h => ?_)
          · refine Tri.seqS ?_
            refine Tri.reg ?_
            refine At.seg 1 [4] [] (s' := ⟨[(4, .c (.d (.int .i64 1)))], []⟩) (c := True ∧ True) (by kernel_rfl) ⟨trivial, trivial⟩ ?_
            refine At.done rfl ?_
            show Tri _ _ _ _
            refine Tri.keep [4] [] (s' := ⟨[(4, .c (.d (.int .i64 1)))], []⟩) (by kernel_rfl) ?_
            refine Tri.ret ?_
            cases h
            refine ⟨_, _, rfl, ⟨trivial, trivial⟩, rfl, rfl, ?_⟩
            intro k c h
            cases h
          · refine Tri.keep [19, 3, 18] [3] (s' := ⟨[(19, .c (.d (.int .i64 ((0 : Nat) : Int)))), (3, .c (.ptr 3 0)), (18, .agg [.d (.int .u64 p0.loop.1), .d (.int .u64 p0.loop.2)])], [(3, .box [.d (.int .u64 p1.epoch), .d (.int .u64 p1.loop.1), .d (.int .u64 p1.loop.2)])]⟩) (by kernel_rfl) ?_
            refine Tri.skip ?_
            cases h
            exact rfl
      rcases i1 with _ | i1
      · refine Tri.seqS ?_
        refine Tri.reg ?_
        refine At.seg 4 [3, 5, 6, 18, 19] [3] (s' := ⟨[(3, .c (.ptr 3 0)), (5, .c (.d (.int .i64 ((1 : Nat) : Int)))), (6, .c (.d (.int .u64 p0.loop.2))), (18, .agg [.d (.int .u64 p0.loop.1), .d (.int .u64 p0.loop.2)]), (19, .c (.d (.int .i64 ((1 : Nat) : Int))))], [(3, .box [.d (.int .u64 p1.epoch), .d (.int .u64 p1.loop.1), .d (.int .u64 p1.loop.2)])]⟩) (c := True ∧ True ∧ True ∧ True ∧ True) (by kernel_rfl) ⟨trivial, trivial, trivial, trivial, trivial⟩ ?_
        refine At.done rfl ?_
        show Tri _ _ _ _
        refine Tri.seqS ?_
        refine Tri.seqS ?_
        refine Tri.reg ?_
        refine At.seg 6 [3, 5, 6, 18, 19, 28] [3] (s' := ⟨[(3, .c (.ptr 3 0)), (5, .c (.d (.int .i64 ((1 : Nat) : Int)))), (6, .c (.d (.int .u64 p0.loop.2))), (18, .agg [.d (.int .u64 p0.loop.1), .d (.int .u64 p0.loop.2)]), (19, .c (.d (.int .i64 ((1 : Nat) : Int)))), (28, .c (.d (.bool (decide (p0.loop.2 < p1.loop.2)))))], [(3, .box [.d (.int .u64 p1.epoch), .d (.int .u64 p1.loop.1), .d (.int .u64 p1.loop.2)])]⟩) (c := True ∧ True ∧ True ∧ True ∧ True ∧ True ∧ True) (by kernel_rfl) ⟨trivial, trivial, trivial, trivial, trivial, trivial, trivial⟩ ?_
        refine At.done rfl ?_
        show Tri _ _ _ _
        refine Tri.condP (b := (decide (p0.loop.2 < p1.loop.2))) rfl h (fun h => ?_) (fun h => ?_)
        · refine Tri.seqS ?_
          refine Tri.reg ?_
          refine At.seg 1 [4] [] (s' := ⟨[(4, .c (.d (.int .i64 (-1))))], []⟩) (c := True ∧ True) (by kernel_rfl) ⟨trivial, trivial⟩ ?_
          refine At.done rfl ?_
          show Tri _ _ _ _
          refine Tri.keep [4] [] (s' := ⟨[(4, .c (.d (.int .i64 (-1))))], []⟩) (by kernel_rfl) ?_
          refine Tri.ret ?_
          cases h
          refine ⟨_, _, rfl, ⟨trivial, trivial⟩, rfl, rfl, ?_⟩
          intro k c h
          cases h
        · refine Tri.skip ?_
          show Tri _ _ _ _
          refine Tri.seqS ?_
          refine Tri.reg ?_
          refine At.seg 6 [3, 18, 19, 34] [3] (s' := ⟨[(3, .c (.ptr 3 0)), (18, .agg [.d (.int .u64 p0.loop.1), .d (.int .u64 p0.loop.2)]), (19, .c (.d (.int .i64 ((1 : Nat) : Int)))), (34, .c (.d (.bool (decide (p1.loop.2 < p0.loop.2)))))], [(3, .box [.d (.int .u64 p1.epoch), .d (.int .u64 p1.loop.1), .d (.int .u64 p1.loop.2)])]⟩) (c := True ∧ True ∧ True ∧ True ∧ True ∧ True ∧ True) (by kernel_rfl) ⟨trivial, trivial, trivial, trivial, trivial, trivial, trivial⟩ ?_
          refine At.done rfl ?_
          show Tri _ _ _ _
          refine Tri.condP (b := (decide (p1.loop.2 < p0.loop.2))) rfl h (fun h => ?_) (fun h => ?_)
          · refine Tri.seqS ?_
            refine Tri.reg ?_
            refine At.seg 1 [4] [] (s' := ⟨[(4, .c (.d (.int .i64 1)))], []⟩) (c := True ∧ True) (by kernel_rfl) ⟨trivial, trivial⟩ ?_
            refine At.done rfl ?_
            show Tri _ _ _ _
            refine Tri.keep [4] [] (s' := ⟨[(4, .c (.d (.int .i64 1)))], []⟩) (by kernel_rfl) ?_
            refine Tri.ret ?_
            cases h
            refine ⟨_, _, rfl, ⟨trivial, trivial⟩, rfl, rfl, ?_⟩
            intro k c h
            cases h
          · refine Tri.keep [19, 3, 18] [3] (s' := ⟨[(19, .c (.d (.int .i64 ((1 : Nat) : Int)))), (3, .c (.ptr 3 0)), (18, .agg [.d (.int .u64 p0.loop.1), .d (.int .u64 p0.loop.2)])], [(3, .box [.d (.int .u64 p1.epoch), .d (.int .u64 p1.loop.1), .d (.int .u64 p1.loop.2)])]⟩) (by kernel_rfl) ?_
            refine Tri.skip ?_
            cases h
            exact rfl
      exact absurd hii1 (by omega)
    · intro a3 h
      show Tri _ _ _ _
      refine Tri.seqS ?_
      refine Tri.reg ?_
      refine At.seg 1 [4] [] (s' := ⟨[(4, .c (.d (.int .i64 0)))], []⟩) (c := True ∧ True) (by kernel_rfl) ⟨trivial, trivial⟩ ?_
      refine At.done rfl ?_
      show Tri _ _ _ _
      refine Tri.keep [4] [] (s' := ⟨[(4, .c (.d (.int .i64 0)))], []⟩) (by kernel_rfl) ?_
      refine Tri.ret ?_
      cases h
      refine ⟨_, _, rfl, ⟨trivial, trivial⟩, rfl, rfl, ?_⟩
      intro k c h
      cases h
    · exact fun x s hx hr => by cases hx; exact hr

set_option maxRecDepth 100000 in
theorem slices_Maxuint64_uint64_uint64_ok_v0 {fuel : Nat} {p0 : List Int} {q : Int} (h : slices_Maxuint64_uint64_uint64 fuel p0 = some q) :
    Summ Try.prog 40 [.c (.view 1 p0.length (fun i => encInt .u64 (p0.getD i default)))] [] (.c (.d (.int .u64 q))) [] := by
  refine Summ.intro Try.func40 rfl (by kernel_rfl) (by kernel_rfl) ?_
  rintro ⟨P, w0, G0, V, LL, lk, N⟩ rfl rfl rfl
  unfold slices_Maxuint64_uint64_uint64 at h
  refine Tri.seqS ?_
  refine Tri.reg ?_
  refine At.seg 1 [0] [] (s' := ⟨[(0, .c (.view 1 p0.length (fun i => encInt .u64 (p0.getD i default))))], []⟩) (c := True ∧ True) (by kernel_rfl) ⟨trivial, trivial⟩ ?_
  refine At.done rfl ?_
  show Tri _ _ _ _
  refine Tri.seqS ?_
  refine Tri.seqS ?_
  refine Tri.reg ?_
  refine At.seg 3 [0, 7] [] (s' := ⟨[(0, .c (.view 1 p0.length (fun i => encInt .u64 (p0.getD i default)))), (7, .c (.d (.bool (decide ((p0.length : Int) < 1)))))], []⟩) (c := True ∧ True ∧ True ∧ True) (by kernel_rfl) ⟨trivial, trivial, trivial, trivial⟩ ?_
  refine At.done rfl ?_
  show Tri _ _ _ _
  refine Tri.condP (b := (decide ((p0.length : Int) < 1))) rfl h (fun h => ?_) (fun h => ?_)
  · refine Tri.reg ?_
    cases h
  · refine Tri.skip ?_
    show Tri _ _ _ _
    refine Tri.seqS ?_
    refine Tri.reg ?_
    obtain ⟨hc1, h⟩ := need_elim h
    refine At.seg 4 [0, 3] [] (s' := ⟨[(0, .c (.view 1 p0.length (fun i => encInt .u64 (p0.getD i default)))), (3, .c (.d (.int .u64 (p0.getD 0 default))))], []⟩) (c := True ∧ ((0 : Int) ≤ 0 ∧ 0 < (p0.length : Int)) ∧ True ∧ True ∧ True) (by kernel_rfl) ⟨trivial, hc1, trivial, trivial, trivial⟩ ?_
    refine At.done rfl ?_
    show Tri _ _ _ _
    refine Tri.seqS ?_
    refine Tri.seqS ?_
    refine Tri.reg ?_
    refine At.seg 1 [0, 3, 4] [] (s' := ⟨[(0, .c (.view 1 p0.length (fun i => encInt .u64 (p0.getD i default)))), (3, .c (.d (.int .u64 (p0.getD 0 default)))), (4, .c (.d (.int .i64 1)))], []⟩) (c := True ∧ True) (by kernel_rfl) ⟨trivial, trivial⟩ ?_
    refine At.done rfl ?_
    show Tri _ _ _ _
    refine Tri.keep [0, 3, 4] [] (s' := ⟨[(0, .c (.view 1 p0.length (fun i => encInt .u64 (p0.getD i default)))), (3, .c (.d (.int .u64 (p0.getD 0 default)))), (4, .c (.d (.int .i64 1)))], []⟩) (by kernel_rfl) ?_
    refine Tri.loopK (fuel := fuel) (st0 := ((p0.getD 0 default), 1)) (fun (x : Empty) s => False) (fun (a2 : Int × Int) => ⟨[(0, .c (.view 1 p0.length (fun i => encInt .u64 (p0.getD i default)))), (3, .c (.d (.int .u64 a2.1))), (4, .c (.d (.int .i64 a2.2)))], []⟩) (fun (a2 : Int × Int) => ⟨[(0, .c (.view 1 p0.length (fun i => encInt .u64 (p0.getD i default)))), (3, .c (.d (.int .u64 a2.1))), (4, .c (.d (.int .i64 a2.2)))], []⟩) h ?_ ?_ ?_
    · intro a2 c h
      show Tri _ _ ⟨[(0, .c (.view 1 p0.length (fun i => encInt .u64 (p0.getD i default)))), (3, .c (.d (.int .u64 a2.1))), (4, .c (.d (.int .i64 a2.2)))], []⟩ _
      refine Tri.seqS ?_
      refine Tri.seqS ?_
      refine Tri.reg ?_
      refine At.seg 4 [0, 3, 4, 15] [] (s' := ⟨[(0, .c (.view 1 p0.length (fun i => encInt .u64 (p0.getD i default)))), (3, .c (.d (.int .u64 a2.1))), (4, .c (.d (.int .i64 a2.2))), (15, .c (.d (.bool (decide (a2.2 < (p0.length : Int))))))], []⟩) (c := True ∧ True ∧ True ∧ True ∧ True) (by kernel_rfl) ⟨trivial, trivial, trivial, trivial, trivial⟩ ?_
      refine At.done rfl ?_
      show Tri _ _ _ _
      refine Tri.condP (b := (decide (a2.2 < (p0.length : Int)))) rfl h (fun h => ?_) (fun h => ?_)
      · refine Tri.skip ?_
        show Tri _ _ _ _
        refine Tri.seqS ?_
        refine Tri.blockB ?_
        refine Tri.reg ?_
        obtain ⟨hc4, h⟩ := need_elim h
        refine At.seg 7 [0, 3, 4] [] (s' := ⟨[(0, .c (.view 1 p0.length (fun i => encInt .u64 (p0.getD i default)))), (3, .c (.d (.int .u64 (if a2.1 < (p0.getD a2.2.toNat default) then (p0.getD a2.2.toNat default) else a2.1)))), (4, .c (.d (.int .i64 a2.2)))], []⟩) (c := True ∧ True ∧ True ∧ ((0 : Int) ≤ a2.2 ∧ a2.2 < (p0.length : Int)) ∧ True ∧ True ∧ True ∧ True) (by kernel_rfl) ⟨trivial, trivial, trivial, hc4, trivial, trivial, trivial, trivial⟩ ?_
        refine At.done rfl ?_
        show Tri _ _ _ _
        refine Tri.reg ?_
        refine At.seg 3 [0, 3, 4] [] (s' := ⟨[(0, .c (.view 1 p0.length (fun i => encInt .u64 (p0.getD i default)))), (3, .c (.d (.int .u64 (if a2.1 < (p0.getD a2.2.toNat default) then (p0.getD a2.2.toNat default) else a2.1)))), (4, .c (.d (.int .i64 (IntKind.i64.wrap (a2.2 + 1)))))], []⟩) (c := True ∧ True ∧ True ∧ True) (by kernel_rfl) ⟨trivial, trivial, trivial, trivial⟩ ?_
        refine At.done rfl ?_
        cases h
        exact rfl
      · refine Tri.keep [0, 3, 4] [] (s' := ⟨[(0, .c (.view 1 p0.length (fun i => encInt .u64 (p0.getD i default)))), (3, .c (.d (.int .u64 a2.1))), (4, .c (.d (.int .i64 a2.2)))], []⟩) (by kernel_rfl) ?_
        refine Tri.exit ?_
        cases h
        exact ⟨rfl, rfl⟩
    · intro a3 h
      show Tri _ _ _ _
      refine Tri.seqS ?_
      refine Tri.reg ?_
      refine At.seg 2 [2] [] (s' := ⟨[(2, .c (.d (.int .u64 a3.1)))], []⟩) (c := True ∧ True ∧ True) (by kernel_rfl) ⟨trivial, trivial, trivial⟩ ?_
      refine At.done rfl ?_
      show Tri _ _ _ _
      refine Tri.keep [2] [] (s' := ⟨[(2, .c (.d (.int .u64 a3.1)))], []⟩) (by kernel_rfl) ?_
      refine Tri.ret ?_
      cases h
      refine ⟨_, _, rfl, ⟨trivial, trivial⟩, rfl, rfl, ?_⟩
      intro k c h
      cases h
    · exact fun x => x.elim

set_option maxRecDepth 100000 in
theorem moment_Check_ok {fuel : Nat} {p0 : List Time} {q : Int} (h : moment_Check fuel p0 = some q) :
    Summ Try.prog 23 [.c (.d (.list 3 p0.length (fun i => encTime (p0.getD i default))))] [] (.c (.d (.int .i64 q))) [] := by
  refine Summ.intro Try.func23 rfl (by kernel_rfl) (by kernel_rfl) ?_
  rintro ⟨P, w0, G0, V, LL, lk, N⟩ rfl rfl rfl
  unfold moment_Check at h
  refine Tri.seqS ?_
  refine Tri.reg ?_
  refine At.seg 1 [0] [] (s' := ⟨[(0, .c (.d (.list 3 p0.length (fun i => encTime (p0.getD i default)))))], []⟩) (c := True ∧ True) (by kernel_rfl) ⟨trivial, trivial⟩ ?_
  refine At.done rfl ?_
  show Tri _ _ _ _
  refine Tri.seqS ?_
  refine Tri.seqS ?_
  refine Tri.reg ?_
  refine At.seg 3 [5, 6, 7] [] (s' := ⟨[(5, .c (.d (.list 3 p0.length (fun i => encTime (p0.getD i default))))), (6, .c (.d (.int .i64 (p0.length : Int)))), (7, .c (.d (.int .i64 0)))], []⟩) (c := True ∧ True ∧ True ∧ True) (by kernel_rfl) ⟨trivial, trivial, trivial, trivial⟩ ?_
  refine At.done rfl ?_
  show Tri _ _ _ _
  refine Tri.lenOf (t := 5) rfl fun hlena2 => ?_
  refine Tri.keep [7, 5, 6] [] (s' := idx 7 0 ⟨[(5, .c (.d (.list 3 p0.length (fun i => encTime (p0.getD i default))))), (6, .c (.d (.int .i64 (p0.length : Int))))], []⟩) (by kernel_rfl) ?_
  refine Tri.range (n := p0.length) (st0 := ()) (fun (x : Int) s => RetAt Try.prog Try.f23 (.c (.d (.int .i64 x))) [] s) (fun (a2 : Unit) => ⟨[(5, .c (.d (.list 3 p0.length (fun i => encTime (p0.getD i default))))), (6, .c (.d (.int .i64 (p0.length : Int))))], []⟩) (fun (a2 : Unit) => ⟨[(5, .c (.d (.list 3 p0.length (fun i => encTime (p0.getD i default))))), (6, .c (.d (.int .i64 (p0.length : Int))))], []⟩) (fun i => decide ((i : Int) < (p0.length : Int))) [8, 7, 5, 6] [] [5, 6] [] [7, 5, 6] [] h hlena2 rfl ?_ ?_ ?_ ?_ ?_ ?_ ?_ ?_
  · exact fun i a => ⟨True ∧ True, by kernel_rfl, ⟨trivial, trivial⟩⟩
  · exact fun i hi => decide_eq_true (by omega)
  · exact decide_eq_false (by omega)
  · exact fun a => by kernel_rfl
  · exact fun i a => ⟨True ∧ True ∧ True, by kernel_rfl, ⟨trivial, trivial, trivial⟩⟩
  · intro i1 a2 c hii1 h
    refine Tri.seqS ?_
    refine Tri.reg ?_
    refine At.seg 4 [4, 5, 6, 7] [4] (s' := ⟨[(4, .c (.ptr 4 0)), (5, .c (.d (.list 3 p0.length (fun i => encTime (p0.getD i default))))), (6, .c (.d (.int .i64 (p0.length : Int)))), (7, .c (.d (.int .i64 ((i1 : Nat) : Int))))], [(4, .box [.d (.int .u64 ((p0.getD i1 default).epoch)), .d (.int .u64 ((p0.getD i1 default).loop.1)), .d (.int .u64 ((p0.getD i1 default).loop.2))])]⟩) (c := ((0 : Int) ≤ ((i1 : Nat) : Int) ∧ ((i1 : Nat) : Int) < (p0.length : Int)) ∧ True ∧ True ∧ True ∧ True) (by kernel_rfl) ⟨⟨by omega, by omega⟩, trivial, trivial, trivial, trivial⟩ ?_
    refine At.done rfl ?_
    show Tri _ _ _ _
    refine Tri.seqS ?_
    obtain ⟨r4, hr4, h⟩ := bind_elim h
    refine Tri.drawn (specs := [⟨⟨[(4, .c (.ptr 4 0))], []⟩, ⟨[(11, .c (.ptr 4 0))], []⟩, [], []⟩, ⟨⟨[(11, .c (.ptr 4 0))], [(4, .box [.d (.int .u64 ((p0.getD i1 default).epoch)), .d (.int .u64 ((p0.getD i1 default).loop.1)), .d (.int .u64 ((p0.getD i1 default).loop.2))])]⟩, ⟨[(12, .c (.d (.int .u64 ((p0.getD i1 default).epoch))))], []⟩, [], []⟩, ⟨⟨[(4, .c (.ptr 4 0))], []⟩, ⟨[(13, .c (.ptr 4 1))], []⟩, [], []⟩, ⟨⟨[(13, .c (.ptr 4 1))], [(4, .box [.d (.int .u64 ((p0.getD i1 default).epoch)), .d (.int .u64 ((p0.getD i1 default).loop.1)), .d (.int .u64 ((p0.getD i1 default).loop.2))])]⟩, ⟨[(14, .c (.bsl 4 1 1 2))], []⟩, [], []⟩, ⟨⟨[(14, .c (.bsl 4 1 1 2))], [(4, .box [.d (.int .u64 ((p0.getD i1 default).epoch)), .d (.int .u64 ((p0.getD i1 default).loop.1)), .d (.int .u64 ((p0.getD i1 default).loop.2))])]⟩, ⟨[(15, .c (.d (.int .u64 r4)))], []⟩, [], []⟩, ⟨⟨[(12, .c (.d (.int .u64 ((p0.getD i1 default).epoch)))), (15, .c (.d (.int .u64 r4)))], []⟩, ⟨[(16, .c (.d (.int .u64 (if (p0.getD i1 default).epoch < r4 then r4 else (p0.getD i1 default).epoch))))], []⟩, [], []⟩, ⟨⟨[(16, .c (.d (.int .u64 (if (p0.getD i1 default).epoch < r4 then r4 else (p0.getD i1 default).epoch))))], []⟩, ⟨[(17, .c (.d (.bool (decide (4611686018427387904 < (if (p0.getD i1 default).epoch < r4 then r4 else (p0.getD i1 default).epoch))))))], []⟩, [], []⟩]) (bef := [[], [0], [], [2], [2, 3], [0, 1, 2, 3, 4], [0, 1, 2, 3, 4, 5]]) (tk := [5, 6, 7, 17]) (sk := []) (s' := ⟨[(5, .c (.d (.list 3 p0.length (fun i => encTime (p0.getD i default))))), (6, .c (.d (.int .i64 (p0.length : Int)))), (7, .c (.d (.int .i64 ((i1 : Nat) : Int)))), (17, .c (.d (.bool (decide (4611686018427387904 < (if (p0.getD i1 default).epoch < r4 then r4 else (p0.getD i1 default).epoch))))))], []⟩) (by kernel_rfl) (by kernel_rfl) (by kernel_rfl) ⟨?_, ?_, ?_, ?_, ?_, ?_, ?_, trivial⟩ (by kernel_rfl) ?_
    · exact DOk.step (.val (.c (.ptr 4 0)) (True)) (fun r => by kernel_rfl) (fun r => by kernel_rfl) trivial (by kernel_rfl) (by kernel_rfl) (fun r => rfl)
    · exact DOk.step (.val (.c (.d (.int .u64 ((p0.getD i1 default).epoch)))) (True)) (fun r => by kernel_rfl) (fun r => by kernel_rfl) trivial (by kernel_rfl) (by kernel_rfl) (fun r => rfl)
    · exact DOk.step (.val (.c (.ptr 4 1)) (True)) (fun r => by kernel_rfl) (fun r => by kernel_rfl) trivial (by kernel_rfl) (by kernel_rfl) (fun r => rfl)
    · exact DOk.step (.val (.c (.bsl 4 1 1 2)) (((0 : Int) ≤ 0 ∧ (0 : Int) ≤ 2 ∧ (2 : Int) ≤ 2) ∧ (0 : Int) < 2)) (fun r => by kernel_rfl) (fun r => by kernel_rfl) ⟨⟨by decide, by decide, by decide⟩, by decide⟩ (by kernel_rfl) (by kernel_rfl) (fun r => rfl)
    · exact DOk.callA (caps := []) (xs := [.c (.bsl 4 1 1 2)]) (slices_Maxuint64_uint64_uint64_ok_v0 hr4) rfl (fun r => by kernel_rfl) rfl (fun r => by kernel_rfl) (fun r => by kernel_rfl) (fun r => (.cons (.c (.bsl (cs := [.d (.int .u64 ((p0.getD i1 default).epoch)), .d (.int .u64 ((p0.getD i1 default).loop.1)), .d (.int .u64 ((p0.getD i1 default).loop.2))]) (ds := [.int .u64 ((p0.getD i1 default).loop.1), .int .u64 ((p0.getD i1 default).loop.2)]) rfl rfl rfl rfl (by unfold maxN; omega) (fun i hi => by match i, hi with | 0, _ => rfl | 1, _ => rfl))) .nil)) rfl rfl (fun r => rfl)
    · exact DOk.step (.val (.c (.d (.int .u64 (if (p0.getD i1 default).epoch < r4 then r4 else (p0.getD i1 default).epoch)))) (True)) (fun r => by kernel_rfl) (fun r => by kernel_rfl) trivial (by kernel_rfl) (by kernel_rfl) (fun r => rfl)
    · exact DOk.step (.val (.c (.d (.bool (decide (4611686018427387904 < (if (p0.getD i1 default).epoch < r4 then r4 else (p0.getD i1 default).epoch)))))) (True)) (fun r => by kernel_rfl) (fun r => by kernel_rfl) trivial (by kernel_rfl) (by kernel_rfl) (fun r => rfl)
    show Tri _ _ _ _
    refine Tri.condP (b := (decide (4611686018427387904 < (if (p0.getD i1 default).epoch < r4 then r4 else (p0.getD i1 default).epoch)))) rfl h (fun h => ?_) (fun h => ?_)
    · refine Tri.seqS ?_
      refine Tri.reg ?_
      refine At.seg 1 [2] [] (s' := ⟨[(2, .c (.d (.int .i64 1)))], []⟩) (c := True ∧ True) (by kernel_rfl) ⟨trivial, trivial⟩ ?_
      refine At.done rfl ?_
      show Tri _ _ _ _
      refine Tri.keep [2] [] (s' := ⟨[(2, .c (.d (.int .i64 1)))], []⟩) (by kernel_rfl) ?_
      refine Tri.ret ?_
      cases h
      refine ⟨_, _, rfl, ⟨trivial, trivial⟩, rfl, rfl, ?_⟩
      intro k c h
      cases h
    · refine Tri.keep [7, 5, 6] [] (s' := ⟨[(7, .c (.d (.int .i64 ((i1 : Nat) : Int)))), (5, .c (.d (.list 3 p0.length (fun i => encTime (p0.getD i default))))), (6, .c (.d (.int .i64 (p0.length : Int))))], []⟩) (by kernel_rfl) ?_
      refine Tri.skip ?_
      cases h
      exact rfl
  · intro a3 h
    show Tri _ _ _ _
    refine Tri.seqS ?_
    refine Tri.reg ?_
    refine At.seg 1 [2] [] (s' := ⟨[(2, .c (.d (.int .i64 0)))], []⟩) (c := True ∧ True) (by kernel_rfl) ⟨trivial, trivial⟩ ?_
    refine At.done rfl ?_
    show Tri _ _ _ _
    refine Tri.keep [2] [] (s' := ⟨[(2, .c (.d (.int .i64 0)))], []⟩) (by kernel_rfl) ?_
    refine Tri.ret ?_
    cases h
    refine ⟨_, _, rfl, ⟨trivial, trivial⟩, rfl, rfl, ?_⟩
    intro k c h
    cases h
  · exact fun x s hx hr => by cases hx; exact hr

set_option maxRecDepth 100000 in
theorem freshetref04_Check_ok {p0 : List Time} {q : Int} (h : freshetref04_Check p0 = some q) :
    Summ Try.prog 24 [.c (.d (.list 3 p0.length (fun i => encTime (p0.getD i default))))] [] (.c (.d (.int .i64 q))) [] := by
  refine Summ.intro Try.func24 rfl (by kernel_rfl) (by kernel_rfl) ?_
  rintro ⟨P, w0, G0, V, LL, lk, N⟩ rfl rfl rfl
  unfold freshetref04_Check at h
  refine Tri.seqS ?_
  refine Tri.reg ?_
  refine At.seg 1 [0] [] (s' := ⟨[(0, .c (.d (.list 3 p0.length (fun i => encTime (p0.getD i default)))))], []⟩) (c := True ∧ True) (by kernel_rfl) ⟨trivial, trivial⟩ ?_
  refine At.done rfl ?_
  show Tri _ _ _ _
  refine Tri.seqS ?_
  refine Tri.seqS ?_
  refine Tri.reg ?_
  refine At.seg 3 [7, 8, 9] [] (s' := ⟨[(7, .c (.d (.list 3 p0.length (fun i => encTime (p0.getD i default))))), (8, .c (.d (.int .i64 (p0.length : Int)))), (9, .c (.d (.int .i64 0)))], []⟩) (c := True ∧ True ∧ True ∧ True) (by kernel_rfl) ⟨trivial, trivial, trivial, trivial⟩ ?_
  refine At.done rfl ?_
  show Tri _ _ _ _
  refine Tri.lenOf (t := 7) rfl fun hlena2 => ?_
  refine Tri.keep [9, 7, 8] [] (s' := idx 9 0 ⟨[(7, .c (.d (.list 3 p0.length (fun i => encTime (p0.getD i default))))), (8, .c (.d (.int .i64 (p0.length : Int))))], []⟩) (by kernel_rfl) ?_
  refine Tri.range (n := p0.length) (st0 := ()) (fun (x : Int) s => RetAt Try.prog Try.f24 (.c (.d (.int .i64 x))) [] s) (fun (a2 : Unit) => ⟨[(7, .c (.d (.list 3 p0.length (fun i => encTime (p0.getD i default))))), (8, .c (.d (.int .i64 (p0.length : Int))))], []⟩) (fun (a2 : Unit) => ⟨[(7, .c (.d (.list 3 p0.length (fun i => encTime (p0.getD i default))))), (8, .c (.d (.int .i64 (p0.length : Int))))], []⟩) (fun i => decide ((i : Int) < (p0.length : Int))) [10, 9, 7, 8] [] [7, 8] [] [9, 7, 8] [] h hlena2 rfl ?_ ?_ ?_ ?_ ?_ ?_ ?_ ?_
  · exact fun i a => ⟨True ∧ True, by kernel_rfl, ⟨trivial, trivial⟩⟩
  · exact fun i hi => decide_eq_true (by omega)
  · exact decide_eq_false (by omega)
  · exact fun a => by kernel_rfl
  · exact fun i a => ⟨True ∧ True ∧ True, by kernel_rfl, ⟨trivial, trivial, trivial⟩⟩
  · intro i1 a2 c hii1 h
    refine Tri.seqS ?_
    refine Tri.reg ?_
    refine At.seg 4 [4, 7, 8, 9] [4] (s' := ⟨[(4, .c (.ptr 4 0)), (7, .c (.d (.list 3 p0.length (fun i => encTime (p0.getD i default))))), (8, .c (.d (.int .i64 (p0.length : Int)))), (9, .c (.d (.int .i64 ((i1 : Nat) : Int))))], [(4, .box [.d (.int .u64 ((p0.getD i1 default).epoch)), .d (.int .u64 ((p0.getD i1 default).loop.1)), .d (.int .u64 ((p0.getD i1 default).loop.2))])]⟩) (c := ((0 : Int) ≤ ((i1 : Nat) : Int) ∧ ((i1 : Nat) : Int) < (p0.length : Int)) ∧ True ∧ True ∧ True ∧ True) (by kernel_rfl) ⟨⟨by omega, by omega⟩, trivial, trivial, trivial, trivial⟩ ?_
    refine At.done rfl ?_
    show Tri _ _ _ _
    refine Tri.seqS ?_
    refine Tri.seqS ?_
    refine Tri.reg ?_
    refine At.seg 3 [4, 7, 8, 9, 15] [4] (s' := ⟨[(4, .c (.ptr 4 0)), (7, .c (.d (.list 3 p0.length (fun i => encTime (p0.getD i default))))), (8, .c (.d (.int .i64 (p0.length : Int)))), (9, .c (.d (.int .i64 ((i1 : Nat) : Int)))), (15, .c (.d (.bool (decide (4611686018427387904 < (p0.getD i1 default).epoch)))))], [(4, .box [.d (.int .u64 ((p0.getD i1 default).epoch)), .d (.int .u64 ((p0.getD i1 default).loop.1)), .d (.int .u64 ((p0.getD i1 default).loop.2))])]⟩) (c := True ∧ True ∧ True ∧ True) (by kernel_rfl) ⟨trivial, trivial, trivial, trivial⟩ ?_
    refine At.done rfl ?_
    show Tri _ _ _ _
    refine Tri.condP (b := (decide (4611686018427387904 < (p0.getD i1 default).epoch))) rfl h (fun h => ?_) (fun h => ?_)
    · refine Tri.seqS ?_
      refine Tri.reg ?_
      refine At.seg 1 [2] [] (s' := ⟨[(2, .c (.d (.int .i64 1)))], []⟩) (c := True ∧ True) (by kernel_rfl) ⟨trivial, trivial⟩ ?_
      refine At.done rfl ?_
      show Tri _ _ _ _
      refine Tri.keep [2] [] (s' := ⟨[(2, .c (.d (.int .i64 1)))], []⟩) (by kernel_rfl) ?_
      refine Tri.ret ?_
      cases h
      refine ⟨_, _, rfl, ⟨trivial, trivial⟩, rfl, rfl, ?_⟩
      intro k c h
      cases h
    · refine Tri.skip ?_
      show Tri _ _ _ _
      refine Tri.seqS ?_
      refine Tri.reg ?_
      refine At.seg 3 [7, 8, 9, 17, 18] [] (s' := ⟨[(7, .c (.d (.list 3 p0.length (fun i => encTime (p0.getD i default))))), (8, .c (.d (.int .i64 (p0.length : Int)))), (9, .c (.d (.int .i64 ((i1 : Nat) : Int)))), (17, .agg [.d (.int .u64 ((p0.getD i1 default).loop.1)), .d (.int .u64 ((p0.getD i1 default).loop.2))]), (18, .c (.d (.int .i64 0)))], []⟩) (c := True ∧ True ∧ True ∧ True) (by kernel_rfl) ⟨trivial, trivial, trivial, trivial⟩ ?_
      refine At.done rfl ?_
      show Tri _ _ _ _
      refine Tri.keep [18, 7, 8, 9, 17] [] (s' := idx 18 0 ⟨[(7, .c (.d (.list 3 p0.length (fun i => encTime (p0.getD i default))))), (8, .c (.d (.int .i64 (p0.length : Int)))), (9, .c (.d (.int .i64 ((i1 : Nat) : Int)))), (17, .agg [.d (.int .u64 ((p0.getD i1 default).loop.1)), .d (.int .u64 ((p0.getD i1 default).loop.2))])], []⟩) (by kernel_rfl) ?_
      refine Tri.range (n := 2) (st0 := ()) (fun (x : Int) s => RetAt Try.prog Try.f24 (.c (.d (.int .i64 x))) [] s) (fun (a5 : Unit) => ⟨[(7, .c (.d (.list 3 p0.length (fun i => encTime (p0.getD i default))))), (8, .c (.d (.int .i64 (p0.length : Int)))), (9, .c (.d (.int .i64 ((i1 : Nat) : Int)))), (17, .agg [.d (.int .u64 ((p0.getD i1 default).loop.1)), .d (.int .u64 ((p0.getD i1 default).loop.2))])], []⟩) (fun (a5 : Unit) => ⟨[(9, .c (.d (.int .i64 ((i1 : Nat) : Int)))), (7, .c (.d (.list 3 p0.length (fun i => encTime (p0.getD i default))))), (8, .c (.d (.int .i64 (p0.length : Int))))], []⟩) (fun i => decide ((i : Int) < (2 : Int))) [19, 18, 7, 8, 9, 17] [] [9, 7, 8] [] [18, 7, 8, 9, 17] [] h (by unfold maxN; omega) rfl ?_ ?_ ?_ ?_ ?_ ?_ ?_ ?_
      · exact fun i a => ⟨True ∧ True, by kernel_rfl, ⟨trivial, trivial⟩⟩
      · exact fun i hi => decide_eq_true (by omega)
      · exact decide_eq_false (by omega)
      · exact fun a => by kernel_rfl
      · exact fun i a => ⟨True ∧ True ∧ True, by kernel_rfl, ⟨trivial, trivial, trivial⟩⟩
      · intro i4 a5 c hii4 h
        rcases i4 with _ | i4
        · refine Tri.seqS ?_
          refine Tri.reg ?_
          refine At.seg 2 [6, 7, 8, 9, 17, 18] [] (s' := ⟨[(6, .c (.d (.int .u64 ((p0.getD i1 default).loop.1)))), (7, .c (.d (.list 3 p0.length (fun i => encTime (p0.getD i default))))), (8, .c (.d (.int .i64 (p0.length : Int)))), (9, .c (.d (.int .i64 ((i1 : Nat) : Int)))), (17, .agg [.d (.int .u64 ((p0.getD i1 default).loop.1)), .d (.int .u64 ((p0.getD i1 default).loop.2))]), (18, .c (.d (.int .i64 ((0 : Nat) : Int))))], []⟩) (c := True ∧ True ∧ True) (by kernel_rfl) ⟨trivial, trivial, trivial⟩ ?_
          refine At.done rfl ?_
          show Tri _ _ _ _
          refine Tri.seqS ?_
          refine Tri.reg ?_
          refine At.seg 2 [7, 8, 9, 17, 18, 22] [] (s' := ⟨[(7, .c (.d (.list 3 p0.length (fun i => encTime (p0.getD i default))))), (8, .c (.d (.int .i64 (p0.length : Int)))), (9, .c (.d (.int .i64 ((i1 : Nat) : Int)))), (17, .agg [.d (.int .u64 ((p0.getD i1 default).loop.1)), .d (.int .u64 ((p0.getD i1 default).loop.2))]), (18, .c (.d (.int .i64 ((0 : Nat) : Int)))), (22, .c (.d (.bool (decide (4611686018427387904 < (p0.getD i1 default).loop.1)))))], []⟩) (c := True ∧ True ∧ True) (by kernel_rfl) ⟨trivial, trivial, trivial⟩ ?_
          refine At.done rfl ?_
          show Tri _ _ _ _
          refine Tri.condP (b := (decide (4611686018427387904 < (p0.getD i1 default).loop.1))) rfl h (fun h => ?_) (fun h => ?_)
          · refine Tri.seqS ?_
            refine Tri.reg ?_
            refine At.seg 1 [2] [] (s' := ⟨[(2, .c (.d (.int .i64 1)))], []⟩) (c := True ∧ True) (by kernel_rfl) ⟨trivial, trivial⟩ ?_
            refine At.done rfl ?_
            show Tri _ _ _ _
            refine Tri.keep [2] [] (s' := ⟨[(2, .c (.d (.int .i64 1)))], []⟩) (by kernel_rfl) ?_
            refine Tri.ret ?_
            cases h
            refine ⟨_, _, rfl, ⟨trivial, trivial⟩, rfl, rfl, ?_⟩
            intro k c h
            cases h
          · refine Tri.keep [18, 7, 8, 9, 17] [] (s' := ⟨[(18, .c (.d (.int .i64 ((0 : Nat) : Int)))), (7, .c (.d (.list 3 p0.length (fun i => encTime (p0.getD i default))))), (8, .c (.d (.int .i64 (p0.length : Int)))), (9, .c (.d (.int .i64 ((i1 : Nat) : Int)))), (17, .agg [.d (.int .u64 ((p0.getD i1 default).loop.1)), .d (.int .u64 ((p0.getD i1 default).loop.2))])], []⟩) (by kernel_rfl) ?_
            refine Tri.skip ?_
            cases h
            exact rfl
        rcases i4 with _ | i4
        · refine Tri.seqS ?_
          refine Tri.reg ?_
          refine At.seg 2 [6, 7, 8, 9, 17, 18] [] (s' := ⟨[(6, .c (.d (.int .u64 ((p0.getD i1 default).loop.2)))), (7, .c (.d (.list 3 p0.length (fun i => encTime (p0.getD i default))))), (8, .c (.d (.int .i64 (p0.length : Int)))), (9, .c (.d (.int .i64 ((i1 : Nat) : Int)))), (17, .agg [.d (.int .u64 ((p0.getD i1 default).loop.1)), .d (.int .u64 ((p0.getD i1 default).loop.2))]), (18, .c (.d (.int .i64 ((1 : Nat) : Int))))], []⟩) (c := True ∧ True ∧ True) (by kernel_rfl) ⟨trivial, trivial, trivial⟩ ?_
          refine At.done rfl ?_
          show Tri _ _ _ _
          refine Tri.seqS ?_
          refine Tri.reg ?_
          refine At.seg 2 [7, 8, 9, 17, 18, 22] [] (s' := ⟨[(7, .c (.d (.list 3 p0.length (fun i => encTime (p0.getD i default))))), (8, .c (.d (.int .i64 (p0.length : Int)))), (9, .c (.d (.int .i64 ((i1 : Nat) : Int)))), (17, .agg [.d (.int .u64 ((p0.getD i1 default).loop.1)), .d (.int .u64 ((p0.getD i1 default).loop.2))]), (18, .c (.d (.int .i64 ((1 : Nat) : Int)))), (22, .c (.d (.bool (decide (4611686018427387904 < (p0.getD i1 default).loop.2)))))], []⟩) (c := True ∧ True ∧ True) (by kernel_rfl) ⟨trivial, trivial, trivial⟩ ?_
          refine At.done rfl ?_
          show Tri _ _ _ _
          refine Tri.condP (b := (decide (4611686018427387904 < (p0.getD i1 default).loop.2))) rfl h (fun h => ?_) (fun h => ?_)
          · refine Tri.seqS ?_
            refine Tri.reg ?_
            refine At.seg 1 [2] [] (s' := ⟨[(2, .c (.d (.int .i64 1)))], []⟩) (c := True ∧ True) (by kernel_rfl) ⟨trivial, trivial⟩ ?_
            refine At.done rfl ?_
            show Tri _ _ _ _
            refine Tri.keep [2] [] (s' := ⟨[(2, .c (.d (.int .i64 1)))], []⟩) (by kernel_rfl) ?_
            refine Tri.ret ?_
            cases h
            refine ⟨_, _, rfl, ⟨trivial, trivial⟩, rfl, rfl, ?_⟩
            intro k c h
            cases h
          · refine Tri.keep [18, 7, 8, 9, 17] [] (s' := ⟨[(18, .c (.d (.int .i64 ((1 : Nat) : Int)))), (7, .c (.d (.list 3 p0.length (fun i => encTime (p0.getD i default))))), (8, .c (.d (.int .i64 (p0.length : Int)))), (9, .c (.d (.int .i64 ((i1 : Nat) : Int)))), (17, .agg [.d (.int .u64 ((p0.getD i1 default).loop.1)), .d (.int .u64 ((p0.getD i1 default).loop.2))])], []⟩) (by kernel_rfl) ?_
            refine Tri.skip ?_
            cases h
            exact rfl
        exact absurd hii4 (by omega)
      · intro a6 h
        cases h
        exact rfl
      · exact fun x s hx hr => by cases hx; exact hr
  · intro a3 h
    show Tri _ _ _ _
    refine Tri.seqS ?_
    refine Tri.reg ?_
    refine At.seg 1 [2] [] (s' := ⟨[(2, .c (.d (.int .i64 0)))], []⟩) (c := True ∧ True) (by kernel_rfl) ⟨trivial, trivial⟩ ?_
    refine At.done rfl ?_
    show Tri _ _ _ _
    refine Tri.keep [2] [] (s' := ⟨[(2, .c (.d (.int .i64 0)))], []⟩) (by kernel_rfl) ?_
    refine Tri.ret ?_
    cases h
    refine ⟨_, _, rfl, ⟨trivial, trivial⟩, rfl, rfl, ?_⟩
    intro k c h
    cases h
  · exact fun x s hx hr => by cases hx; exact hr

set_option maxRecDepth 100000 in
theorem freshetlaw04_MomentOrders_ok {fuel : Nat} {p0 : Time} {p1 : Time} {p2 : List Time} {q : Bool} (h : freshetlaw04_MomentOrders fuel p0 p1 p2 = some q) :
    Summ Try.prog 7 [.agg [.d (.int .u64 p0.epoch), .d (.int .u64 p0.loop.1), .d (.int .u64 p0.loop.2)], .agg [.d (.int .u64 p1.epoch), .d (.int .u64 p1.loop.1), .d (.int .u64 p1.loop.2)], .c (.d (.list 3 p2.length (fun i => encTime (p2.getD i default))))] [] (.c (.d (.bool q))) [] := by
  refine Summ.intro Try.func7 rfl (by kernel_rfl) (by kernel_rfl) ?_
  rintro ⟨P, w0, G0, V, LL, lk, N⟩ rfl rfl rfl
  unfold freshetlaw04_MomentOrders at h
  refine Tri.seqS ?_
  refine Tri.reg ?_
  refine At.seg 3 [2, 3, 4] [3, 4] (s' := ⟨[(2, .c (.d (.list 3 p2.length (fun i => encTime (p2.getD i default))))), (3, .c (.ptr 3 0)), (4, .c (.ptr 4 0))], [(3, .box [.d (.int .u64 p0.epoch), .d (.int .u64 p0.loop.1), .d (.int .u64 p0.loop.2)]), (4, .box [.d (.int .u64 p1.epoch), .d (.int .u64 p1.loop.1), .d (.int .u64 p1.loop.2)])]⟩) (c := True ∧ True ∧ True ∧ True) (by kernel_rfl) ⟨trivial, trivial, trivial, trivial⟩ ?_
  refine At.done rfl ?_
  show Tri _ _ _ _
  refine Tri.seqJ (fun (a1 : Bool) => ⟨[(6, .c (.d (.bool a1)))], []⟩) h (fun a1 h => ?_) (fun j2 h => ?_)
  · show Tri _ _ ⟨[(6, .c (.d (.bool a1)))], []⟩ _
    refine Tri.keep [6] [] (s' := ⟨[(6, .c (.d (.bool a1)))], []⟩) (by kernel_rfl) ?_
    refine Tri.ret ?_
    cases h
    refine ⟨_, _, rfl, ⟨trivial, trivial⟩, rfl, rfl, ?_⟩
    intro k c h
    cases h
  · obtain ⟨r3, hr3, h⟩ := bind_elim h
    rcases bf_cases h with ⟨hp4, h⟩ | ⟨hp4, h⟩
    · obtain ⟨r5, hr5, h⟩ := bind_elim h
      obtain ⟨r6, hr6, h⟩ := bind_elim h
      rcases bf_cases h with ⟨hp7, h⟩ | ⟨hp7, h⟩
      · obtain ⟨r8, hr8, h⟩ := bind_elim h
        obtain ⟨r9, hr9, h⟩ := bind_elim h
        rcases bf_cases h with ⟨hp10, h⟩ | ⟨hp10, h⟩
        · obtain ⟨r11, hr11, h⟩ := bind_elim h
          obtain ⟨r12, hr12, h⟩ := bind_elim h
          refine Tri.drawn (specs := [⟨⟨[], []⟩, ⟨[(7, .c (.d (.bool r3)))], []⟩, [], []⟩, ⟨⟨[(7, .c (.d (.bool r3)))], []⟩, ⟨[(8, .c (.d (.bool true)))], []⟩, [], []⟩, ⟨⟨[(3, .c (.ptr 3 0)), (8, .c (.d (.bool true)))], [(3, .box [.d (.int .u64 p0.epoch), .d (.int .u64 p0.loop.1), .d (.int .u64 p0.loop.2)])]⟩, ⟨[(9, .agg [.d (.int .u64 p0.epoch), .d (.int .u64 p0.loop.1), .d (.int .u64 p0.loop.2)])], []⟩, [], []⟩, ⟨⟨[(4, .c (.ptr 4 0)), (8, .c (.d (.bool true)))], [(4, .box [.d (.int .u64 p1.epoch), .d (.int .u64 p1.loop.1), .d (.int .u64 p1.loop.2)])]⟩, ⟨[(10, .agg [.d (.int .u64 p1.epoch), .d (.int .u64 p1.loop.1), .d (.int .u64 p1.loop.2)])], []⟩, [], []⟩, ⟨⟨[(8, .c (.d (.bool true))), (9, .agg [.d (.int .u64 p0.epoch), .d (.int .u64 p0.loop.1), .d (.int .u64 p0.loop.2)]), (10, .agg [.d (.int .u64 p1.epoch), .d (.int .u64 p1.loop.1), .d (.int .u64 p1.loop.2)])], []⟩, ⟨[(11, .c (.d (.bool r5)))], []⟩, [], []⟩, ⟨⟨[(3, .c (.ptr 3 0)), (8, .c (.d (.bool true)))], [(3, .box [.d (.int .u64 p0.epoch), .d (.int .u64 p0.loop.1), .d (.int .u64 p0.loop.2)])]⟩, ⟨[(12, .agg [.d (.int .u64 p0.epoch), .d (.int .u64 p0.loop.1), .d (.int .u64 p0.loop.2)])], []⟩, [], []⟩, ⟨⟨[(4, .c (.ptr 4 0)), (8, .c (.d (.bool true)))], [(4, .box [.d (.int .u64 p1.epoch), .d (.int .u64 p1.loop.1), .d (.int .u64 p1.loop.2)])]⟩, ⟨[(13, .agg [.d (.int .u64 p1.epoch), .d (.int .u64 p1.loop.1), .d (.int .u64 p1.loop.2)])], []⟩, [], []⟩, ⟨⟨[(8, .c (.d (.bool true))), (12, .agg [.d (.int .u64 p0.epoch), .d (.int .u64 p0.loop.1), .d (.int .u64 p0.loop.2)]), (13, .agg [.d (.int .u64 p1.epoch), .d (.int .u64 p1.loop.1), .d (.int .u64 p1.loop.2)])], []⟩, ⟨[(14, .c (.d (.bool r6)))], []⟩, [], []⟩, ⟨⟨[(8, .c (.d (.bool true))), (11, .c (.d (.bool r5))), (14, .c (.d (.bool r6)))], []⟩, ⟨[(15, .c (.d (.bool (r5 == r6))))], []⟩, [], []⟩, ⟨⟨[(8, .c (.d (.bool true))), (15, .c (.d (.bool (r5 == r6))))], []⟩, ⟨[(16, .c (.d (.bool (r5 == r6))))], []⟩, [], []⟩, ⟨⟨[(16, .c (.d (.bool (r5 == r6))))], []⟩, ⟨[(17, .c (.d (.bool true)))], []⟩, [], []⟩, ⟨⟨[(3, .c (.ptr 3 0)), (17, .c (.d (.bool true)))], [(3, .box [.d (.int .u64 p0.epoch), .d (.int .u64 p0.loop.1), .d (.int .u64 p0.loop.2)])]⟩, ⟨[(18, .agg [.d (.int .u64 p0.epoch), .d (.int .u64 p0.loop.1), .d (.int .u64 p0.loop.2)])], []⟩, [], []⟩, ⟨⟨[(4, .c (.ptr 4 0)), (17, .c (.d (.bool true)))], [(4, .box [.d (.int .u64 p1.epoch), .d (.int .u64 p1.loop.1), .d (.int .u64 p1.loop.2)])]⟩, ⟨[(19, .agg [.d (.int .u64 p1.epoch), .d (.int .u64 p1.loop.1), .d (.int .u64 p1.loop.2)])], []⟩, [], []⟩, ⟨⟨[(17, .c (.d (.bool true))), (18, .agg [.d (.int .u64 p0.epoch), .d (.int .u64 p0.loop.1), .d (.int .u64 p0.loop.2)]), (19, .agg [.d (.int .u64 p1.epoch), .d (.int .u64 p1.loop.1), .d (.int .u64 p1.loop.2)])], []⟩, ⟨[(20, .c (.d (.int .i64 r8)))], []⟩, [], []⟩, ⟨⟨[(3, .c (.ptr 3 0)), (17, .c (.d (.bool true)))], [(3, .box [.d (.int .u64 p0.epoch), .d (.int .u64 p0.loop.1), .d (.int .u64 p0.loop.2)])]⟩, ⟨[(21, .agg [.d (.int .u64 p0.epoch), .d (.int .u64 p0.loop.1), .d (.int .u64 p0.loop.2)])], []⟩, [], []⟩, ⟨⟨[(4, .c (.ptr 4 0)), (17, .c (.d (.bool true)))], [(4, .box [.d (.int .u64 p1.epoch), .d (.int .u64 p1.loop.1), .d (.int .u64 p1.loop.2)])]⟩, ⟨[(22, .agg [.d (.int .u64 p1.epoch), .d (.int .u64 p1.loop.1), .d (.int .u64 p1.loop.2)])], []⟩, [], []⟩, ⟨⟨[(17, .c (.d (.bool true))), (21, .agg [.d (.int .u64 p0.epoch), .d (.int .u64 p0.loop.1), .d (.int .u64 p0.loop.2)]), (22, .agg [.d (.int .u64 p1.epoch), .d (.int .u64 p1.loop.1), .d (.int .u64 p1.loop.2)])], []⟩, ⟨[(23, .c (.d (.int .i64 r9)))], []⟩, [], []⟩, ⟨⟨[(17, .c (.d (.bool true))), (20, .c (.d (.int .i64 r8))), (23, .c (.d (.int .i64 r9)))], []⟩, ⟨[(24, .c (.d (.bool (decide (r8 = r9)))))], []⟩, [], []⟩, ⟨⟨[(17, .c (.d (.bool true))), (24, .c (.d (.bool (decide (r8 = r9)))))], []⟩, ⟨[(25, .c (.d (.bool (decide (r8 = r9)))))], []⟩, [], []⟩, ⟨⟨[(25, .c (.d (.bool (decide (r8 = r9)))))], []⟩, ⟨[(26, .c (.d (.bool true)))], []⟩, [], []⟩, ⟨⟨[(2, .c (.d (.list 3 p2.length (fun i => encTime (p2.getD i default))))), (26, .c (.d (.bool true)))], []⟩, ⟨[(27, .c (.d (.list 3 p2.length (fun i => encTime (p2.getD i default)))))], []⟩, [], []⟩, ⟨⟨[(26, .c (.d (.bool true))), (27, .c (.d (.list 3 p2.length (fun i => encTime (p2.getD i default)))))], []⟩, ⟨[(28, .c (.d (.int .i64 r11)))], []⟩, [], []⟩, ⟨⟨[(2, .c (.d (.list 3 p2.length (fun i => encTime (p2.getD i default))))), (26, .c (.d (.bool true)))], []⟩, ⟨[(29, .c (.d (.list 3 p2.length (fun i => encTime (p2.getD i default)))))], []⟩, [], []⟩, ⟨⟨[(26, .c (.d (.bool true))), (29, .c (.d (.list 3 p2.length (fun i => encTime (p2.getD i default)))))], []⟩, ⟨[(30, .c (.d (.int .i64 r12)))], []⟩, [], []⟩, ⟨⟨[(26, .c (.d (.bool true))), (28, .c (.d (.int .i64 r11))), (30, .c (.d (.int .i64 r12)))], []⟩, ⟨[(31, .c (.d (.bool (decide (r11 = r12)))))], []⟩, [], []⟩, ⟨⟨[(26, .c (.d (.bool true))), (31, .c (.d (.bool (decide (r11 = r12)))))], []⟩, ⟨[(32, .c (.d (.bool (decide (r11 = r12)))))], []⟩, [], []⟩, ⟨⟨[(32, .c (.d (.bool (decide (r11 = r12)))))], []⟩, ⟨[(6, .c (.d (.bool (decide (r11 = r12)))))], []⟩, [], []⟩]) (bef := [[], [0], [0, 1], [0, 1], [0, 1, 2, 3], [0, 1], [0, 1], [0, 1, 2, 3, 4, 5, 6], [0, 1, 2, 3, 4, 5, 6, 7], [0, 1, 2, 3, 4, 5, 6, 7, 8], [0, 1, 2, 3, 4, 5, 6, 7, 8, 9], [0, 1, 2, 3, 4, 5, 6, 7, 8, 9, 10], [0, 1, 2, 3, 4, 5, 6, 7, 8, 9, 10], [0, 1, 2, 3, 4, 5, 6, 7, 8, 9, 10, 11, 12], [0, 1, 2, 3, 4, 5, 6, 7, 8, 9, 10], [0, 1, 2, 3, 4, 5, 6, 7, 8, 9, 10], [0, 1, 2, 3, 4, 5, 6, 7, 8, 9, 10, 11, 12, 13, 14, 15], [0, 1, 2, 3, 4, 5, 6, 7, 8, 9, 10, 11, 12, 13, 14, 15, 16], [0, 1, 2, 3, 4, 5, 6, 7, 8, 9, 10, 11, 12, 13, 14, 15, 16, 17], [0, 1, 2, 3, 4, 5, 6, 7, 8, 9, 10, 11, 12, 13, 14, 15, 16, 17, 18], [0, 1, 2, 3, 4, 5, 6, 7, 8, 9, 10, 11, 12, 13, 14, 15, 16, 17, 18, 19], [0, 1, 2, 3, 4, 5, 6, 7, 8, 9, 10, 11, 12, 13, 14, 15, 16, 17, 18, 19, 20], [0, 1, 2, 3, 4, 5, 6, 7, 8, 9, 10, 11, 12, 13, 14, 15, 16, 17, 18, 19], [0, 1, 2, 3, 4, 5, 6, 7, 8, 9, 10, 11, 12, 13, 14, 15, 16, 17, 18, 19, 20, 21, 22], [0, 1, 2, 3, 4, 5, 6, 7, 8, 9, 10, 11, 12, 13, 14, 15, 16, 17, 18, 19, 20, 21, 22, 23], [0, 1, 2, 3, 4, 5, 6, 7, 8, 9, 10, 11, 12, 13, 14, 15, 16, 17, 18, 19, 20, 21, 22, 23, 24], [0, 1, 2, 3, 4, 5, 6, 7, 8, 9, 10, 11, 12, 13, 14, 15, 16, 17, 18, 19, 20, 21, 22, 23, 24, 25]]) (tk := [6]) (sk := []) (s' := ⟨[(6, .c (.d (.bool (decide (r11 = r12)))))], []⟩) (by kernel_rfl) (by kernel_rfl) (by kernel_rfl) ⟨?_, ?_, ?_, ?_, ?_, ?_, ?_, ?_, ?_, ?_, ?_, ?_, ?_, ?_, ?_, ?_, ?_, ?_, ?_, ?_, ?_, ?_, ?_, ?_, ?_, ?_, ?_, trivial⟩ (by kernel_rfl) ?_
          · exact DOk.callA (caps := []) (xs := []) (freshetlaw04_orders_ok hr3) rfl (fun r => by kernel_rfl) rfl (fun r => by kernel_rfl) (fun r => by kernel_rfl) (fun r => .nil) rfl rfl (fun r => rfl)
          · exact DOk.stepP (fun b => .val (.c (.d (.bool b))) (True)) (p := r3) hp4 (fun r => by kernel_rfl) (fun r => by kernel_rfl) trivial (by kernel_rfl) (by kernel_rfl) (fun r => rfl)
          · exact DOk.step (.val (.agg [.d (.int .u64 p0.epoch), .d (.int .u64 p0.loop.1), .d (.int .u64 p0.loop.2)]) (True)) (fun r => by kernel_rfl) (fun r => by kernel_rfl) trivial (by kernel_rfl) (by kernel_rfl) (fun r => rfl)
          · exact DOk.step (.val (.agg [.d (.int .u64 p1.epoch), .d (.int .u64 p1.loop.1), .d (.int .u64 p1.loop.2)]) (True)) (fun r => by kernel_rfl) (fun r => by kernel_rfl) trivial (by kernel_rfl) (by kernel_rfl) (fun r => rfl)
          · exact DOk.callA (caps := []) (xs := [.agg [.d (.int .u64 p0.epoch), .d (.int .u64 p0.loop.1), .d (.int .u64 p0.loop.2)], .agg [.d (.int .u64 p1.epoch), .d (.int .u64 p1.loop.1), .d (.int .u64 p1.loop.2)]]) (moment_Ahead_ok hr5) rfl (fun r => by kernel_rfl) rfl (fun r => by kernel_rfl) (fun r => by kernel_rfl) (fun r => (.cons (.refl _) (.cons (.refl _) .nil))) rfl rfl (fun r => rfl)
          · exact DOk.step (.val (.agg [.d (.int .u64 p0.epoch), .d (.int .u64 p0.loop.1), .d (.int .u64 p0.loop.2)]) (True)) (fun r => by kernel_rfl) (fun r => by kernel_rfl) trivial (by kernel_rfl) (by kernel_rfl) (fun r => rfl)
          · exact DOk.step (.val (.agg [.d (.int .u64 p1.epoch), .d (.int .u64 p1.loop.1), .d (.int .u64 p1.loop.2)]) (True)) (fun r => by kernel_rfl) (fun r => by kernel_rfl) trivial (by kernel_rfl) (by kernel_rfl) (fun r => rfl)
          · exact DOk.callA (caps := []) (xs := [.agg [.d (.int .u64 p0.epoch), .d (.int .u64 p0.loop.1), .d (.int .u64 p0.loop.2)], .agg [.d (.int .u64 p1.epoch), .d (.int .u64 p1.loop.1), .d (.int .u64 p1.loop.2)]]) (freshetref04_Ahead_ok hr6) rfl (fun r => by kernel_rfl) rfl (fun r => by kernel_rfl) (fun r => by kernel_rfl) (fun r => (.cons (.refl _) (.cons (.refl _) .nil))) rfl rfl (fun r => rfl)
          · exact DOk.step (.val (.c (.d (.bool (r5 == r6)))) (True)) (fun r => by kernel_rfl) (fun r => by kernel_rfl) trivial (by kernel_rfl) (by kernel_rfl) (fun r => rfl)
          · exact DOk.step (.val (.c (.d (.bool (r5 == r6)))) (True)) (fun r => by kernel_rfl) (fun r => by kernel_rfl) trivial (by kernel_rfl) (by kernel_rfl) (fun r => rfl)
          · exact DOk.stepP (fun b => .val (.c (.d (.bool b))) (True)) (p := (r5 == r6)) hp7 (fun r => by kernel_rfl) (fun r => by kernel_rfl) trivial (by kernel_rfl) (by kernel_rfl) (fun r => rfl)
          · exact DOk.step (.val (.agg [.d (.int .u64 p0.epoch), .d (.int .u64 p0.loop.1), .d (.int .u64 p0.loop.2)]) (True)) (fun r => by kernel_rfl) (fun r => by kernel_rfl) trivial (by kernel_rfl) (by kernel_rfl) (fun r => rfl)
          · exact DOk.step (.val (.agg [.d (.int .u64 p1.epoch), .d (.int .u64 p1.loop.1), .d (.int .u64 p1.loop.2)]) (True)) (fun r => by kernel_rfl) (fun r => by kernel_rfl) trivial (by kernel_rfl) (by kernel_rfl) (fun r => rfl)
          · exact DOk.callA (caps := []) (xs := [.agg [.d (.int .u64 p0.epoch), .d (.int .u64 p0.loop.1), .d (.int .u64 p0.loop.2)], .agg [.d (.int .u64 p1.epoch), .d (.int .u64 p1.loop.1), .d (.int .u64 p1.loop.2)]]) (moment_Compare_ok hr8) rfl (fun r => by kernel_rfl) rfl (fun r => by kernel_rfl) (fun r => by kernel_rfl) (fun r => (.cons (.refl _) (.cons (.refl _) .nil))) rfl rfl (fun r => rfl)
          · exact DOk.step (.val (.agg [.d (.int .u64 p0.epoch), .d (.int .u64 p0.loop.1), .d (.int .u64 p0.loop.2)]) (True)) (fun r => by kernel_rfl) (fun r => by kernel_rfl) trivial (by kernel_rfl) (by kernel_rfl) (fun r => rfl)
          · exact DOk.step (.val (.agg [.d (.int .u64 p1.epoch), .d (.int .u64 p1.loop.1), .d (.int .u64 p1.loop.2)]) (True)) (fun r => by kernel_rfl) (fun r => by kernel_rfl) trivial (by kernel_rfl) (by kernel_rfl) (fun r => rfl)
          · exact DOk.callA (caps := []) (xs := [.agg [.d (.int .u64 p0.epoch), .d (.int .u64 p0.loop.1), .d (.int .u64 p0.loop.2)], .agg [.d (.int .u64 p1.epoch), .d (.int .u64 p1.loop.1), .d (.int .u64 p1.loop.2)]]) (freshetref04_Compare_ok hr9) rfl (fun r => by kernel_rfl) rfl (fun r => by kernel_rfl) (fun r => by kernel_rfl) (fun r => (.cons (.refl _) (.cons (.refl _) .nil))) rfl rfl (fun r => rfl)
          · exact DOk.step (.val (.c (.d (.bool (decide (r8 = r9))))) (True)) (fun r => by kernel_rfl) (fun r => by kernel_rfl) trivial (by kernel_rfl) (by kernel_rfl) (fun r => rfl)
          · exact DOk.step (.val (.c (.d (.bool (decide (r8 = r9))))) (True)) (fun r => by kernel_rfl) (fun r => by kernel_rfl) trivial (by kernel_rfl) (by kernel_rfl) (fun r => rfl)
          · exact DOk.stepP (fun b => .val (.c (.d (.bool b))) (True)) (p := (decide (r8 = r9))) hp10 (fun r => by kernel_rfl) (fun r => by kernel_rfl) trivial (by kernel_rfl) (by kernel_rfl) (fun r => rfl)
          · exact DOk.step (.val (.c (.d (.list 3 p2.length (fun i => encTime (p2.getD i default))))) (True)) (fun r => by kernel_rfl) (fun r => by kernel_rfl) trivial (by kernel_rfl) (by kernel_rfl) (fun r => rfl)
          · exact DOk.callA (caps := []) (xs := [.c (.d (.list 3 p2.length (fun i => encTime (p2.getD i default))))]) (moment_Check_ok hr11) rfl (fun r => by kernel_rfl) rfl (fun r => by kernel_rfl) (fun r => by kernel_rfl) (fun r => (.cons (.refl _) .nil)) rfl rfl (fun r => rfl)
          · exact DOk.step (.val (.c (.d (.list 3 p2.length (fun i => encTime (p2.getD i default))))) (True)) (fun r => by kernel_rfl) (fun r => by kernel_rfl) trivial (by kernel_rfl) (by kernel_rfl) (fun r => rfl)
          · exact DOk.callA (caps := []) (xs := [.c (.d (.list 3 p2.length (fun i => encTime (p2.getD i default))))]) (freshetref04_Check_ok hr12) rfl (fun r => by kernel_rfl) rfl (fun r => by kernel_rfl) (fun r => by kernel_rfl) (fun r => (.cons (.refl _) .nil)) rfl rfl (fun r => rfl)
          · exact DOk.step (.val (.c (.d (.bool (decide (r11 = r12))))) (True)) (fun r => by kernel_rfl) (fun r => by kernel_rfl) trivial (by kernel_rfl) (by kernel_rfl) (fun r => rfl)
          · exact DOk.step (.val (.c (.d (.bool (decide (r11 = r12))))) (True)) (fun r => by kernel_rfl) (fun r => by kernel_rfl) trivial (by kernel_rfl) (by kernel_rfl) (fun r => rfl)
          · exact DOk.step (.val (.c (.d (.bool (decide (r11 = r12))))) (True)) (fun r => by kernel_rfl) (fun r => by kernel_rfl) trivial (by kernel_rfl) (by kernel_rfl) (fun r => rfl)
          exact ⟨_, h, rfl⟩
        · refine Tri.drawn (specs := [⟨⟨[], []⟩, ⟨[(7, .c (.d (.bool r3)))], []⟩, [], []⟩, ⟨⟨[(7, .c (.d (.bool r3)))], []⟩, ⟨[(8, .c (.d (.bool true)))], []⟩, [], []⟩, ⟨⟨[(3, .c (.ptr 3 0)), (8, .c (.d (.bool true)))], [(3, .box [.d (.int .u64 p0.epoch), .d (.int .u64 p0.loop.1), .d (.int .u64 p0.loop.2)])]⟩, ⟨[(9, .agg [.d (.int .u64 p0.epoch), .d (.int .u64 p0.loop.1), .d (.int .u64 p0.loop.2)])], []⟩, [], []⟩, ⟨⟨[(4, .c (.ptr 4 0)), (8, .c (.d (.bool true)))], [(4, .box [.d (.int .u64 p1.epoch), .d (.int .u64 p1.loop.1), .d (.int .u64 p1.loop.2)])]⟩, ⟨[(10, .agg [.d (.int .u64 p1.epoch), .d (.int .u64 p1.loop.1), .d (.int .u64 p1.loop.2)])], []⟩, [], []⟩, ⟨⟨[(8, .c (.d (.bool true))), (9, .agg [.d (.int .u64 p0.epoch), .d (.int .u64 p0.loop.1), .d (.int .u64 p0.loop.2)]), (10, .agg [.d (.int .u64 p1.epoch), .d (.int .u64 p1.loop.1), .d (.int .u64 p1.loop.2)])], []⟩, ⟨[(11, .c (.d (.bool r5)))], []⟩, [], []⟩, ⟨⟨[(3, .c (.ptr 3 0)), (8, .c (.d (.bool true)))], [(3, .box [.d (.int .u64 p0.epoch), .d (.int .u64 p0.loop.1), .d (.int .u64 p0.loop.2)])]⟩, ⟨[(12, .agg [.d (.int .u64 p0.epoch), .d (.int .u64 p0.loop.1), .d (.int .u64 p0.loop.2)])], []⟩, [], []⟩, ⟨⟨[(4, .c (.ptr 4 0)), (8, .c (.d (.bool true)))], [(4, .box [.d (.int .u64 p1.epoch), .d (.int .u64 p1.loop.1), .d (.int .u64 p1.loop.2)])]⟩, ⟨[(13, .agg [.d (.int .u64 p1.epoch), .d (.int .u64 p1.loop.1), .d (.int .u64 p1.loop.2)])], []⟩, [], []⟩, ⟨⟨[(8, .c (.d (.bool true))), (12, .agg [.d (.int .u64 p0.epoch), .d (.int .u64 p0.loop.1), .d (.int .u64 p0.loop.2)]), (13, .agg [.d (.int .u64 p1.epoch), .d (.int .u64 p1.loop.1), .d (.int .u64 p1.loop.2)])], []⟩, ⟨[(14, .c (.d (.bool r6)))], []⟩, [], []⟩, ⟨⟨[(8, .c (.d (.bool true))), (11, .c (.d (.bool r5))), (14, .c (.d (.bool r6)))], []⟩, ⟨[(15, .c (.d (.bool (r5 == r6))))], []⟩, [], []⟩, ⟨⟨[(8, .c (.d (.bool true))), (15, .c (.d (.bool (r5 == r6))))], []⟩, ⟨[(16, .c (.d (.bool (r5 == r6))))], []⟩, [], []⟩, ⟨⟨[(16, .c (.d (.bool (r5 == r6))))], []⟩, ⟨[(17, .c (.d (.bool true)))], []⟩, [], []⟩, ⟨⟨[(3, .c (.ptr 3 0)), (17, .c (.d (.bool true)))], [(3, .box [.d (.int .u64 p0.epoch), .d (.int .u64 p0.loop.1), .d (.int .u64 p0.loop.2)])]⟩, ⟨[(18, .agg [.d (.int .u64 p0.epoch), .d (.int .u64 p0.loop.1), .d (.int .u64 p0.loop.2)])], []⟩, [], []⟩, ⟨⟨[(4, .c (.ptr 4 0)), (17, .c (.d (.bool true)))], [(4, .box [.d (.int .u64 p1.epoch), .d (.int .u64 p1.loop.1), .d (.int .u64 p1.loop.2)])]⟩, ⟨[(19, .agg [.d (.int .u64 p1.epoch), .d (.int .u64 p1.loop.1), .d (.int .u64 p1.loop.2)])], []⟩, [], []⟩, ⟨⟨[(17, .c (.d (.bool true))), (18, .agg [.d (.int .u64 p0.epoch), .d (.int .u64 p0.loop.1), .d (.int .u64 p0.loop.2)]), (19, .agg [.d (.int .u64 p1.epoch), .d (.int .u64 p1.loop.1), .d (.int .u64 p1.loop.2)])], []⟩, ⟨[(20, .c (.d (.int .i64 r8)))], []⟩, [], []⟩, ⟨⟨[(3, .c (.ptr 3 0)), (17, .c (.d (.bool true)))], [(3, .box [.d (.int .u64 p0.epoch), .d (.int .u64 p0.loop.1), .d (.int .u64 p0.loop.2)])]⟩, ⟨[(21, .agg [.d (.int .u64 p0.epoch), .d (.int .u64 p0.loop.1), .d (.int .u64 p0.loop.2)])], []⟩, [], []⟩, ⟨⟨[(4, .c (.ptr 4 0)), (17, .c (.d (.bool true)))], [(4, .box [.d (.int .u64 p1.epoch), .d (.int .u64 p1.loop.1), .d (.int .u64 p1.loop.2)])]⟩, ⟨[(22, .agg [.d (.int .u64 p1.epoch), .d (.int .u64 p1.loop.1), .d (.int .u64 p1.loop.2)])], []⟩, [], []⟩, ⟨⟨[(17, .c (.d (.bool true))), (21, .agg [.d (.int .u64 p0.epoch), .d (.int .u64 p0.loop.1), .d (.int .u64 p0.loop.2)]), (22, .agg [.d (.int .u64 p1.epoch), .d (.int .u64 p1.loop.1), .d (.int .u64 p1.loop.2)])], []⟩, ⟨[(23, .c (.d (.int .i64 r9)))], []⟩, [], []⟩, ⟨⟨[(17, .c (.d (.bool true))), (20, .c (.d (.int .i64 r8))), (23, .c (.d (.int .i64 r9)))], []⟩, ⟨[(24, .c (.d (.bool (decide (r8 = r9)))))], []⟩, [], []⟩, ⟨⟨[(17, .c (.d (.bool true))), (24, .c (.d (.bool (decide (r8 = r9)))))], []⟩, ⟨[(25, .c (.d (.bool (decide (r8 = r9)))))], []⟩, [], []⟩, ⟨⟨[(25, .c (.d (.bool (decide (r8 = r9)))))], []⟩, ⟨[(26, .c (.d (.bool false)))], []⟩, [], []⟩, ⟨⟨[(2, .c (.d (.list 3 p2.length (fun i => encTime (p2.getD i default))))), (26, .c (.d (.bool false)))], []⟩, ⟨[(27, .tup [])], []⟩, [], []⟩, ⟨⟨[(26, .c (.d (.bool false))), (27, .tup [])], []⟩, ⟨[(28, .tup [])], []⟩, [], []⟩, ⟨⟨[(2, .c (.d (.list 3 p2.length (fun i => encTime (p2.getD i default))))), (26, .c (.d (.bool false)))], []⟩, ⟨[(29, .tup [])], []⟩, [], []⟩, ⟨⟨[(26, .c (.d (.bool false))), (29, .tup [])], []⟩, ⟨[(30, .tup [])], []⟩, [], []⟩, ⟨⟨[(26, .c (.d (.bool false))), (28, .tup []), (30, .tup [])], []⟩, ⟨[(31, .tup [])], []⟩, [], []⟩, ⟨⟨[(26, .c (.d (.bool false))), (31, .tup [])], []⟩, ⟨[(32, .c (.d (.bool false)))], []⟩, [], []⟩, ⟨⟨[(32, .c (.d (.bool false)))], []⟩, ⟨[(6, .c (.d (.bool false)))], []⟩, [], []⟩]) (bef := [[], [0], [0, 1], [0, 1], [0, 1, 2, 3], [0, 1], [0, 1], [0, 1, 2, 3, 4, 5, 6], [0, 1, 2, 3, 4, 5, 6, 7], [0, 1, 2, 3, 4, 5, 6, 7, 8], [0, 1, 2, 3, 4, 5, 6, 7, 8, 9], [0, 1, 2, 3, 4, 5, 6, 7, 8, 9, 10], [0, 1, 2, 3, 4, 5, 6, 7, 8, 9, 10], [0, 1, 2, 3, 4, 5, 6, 7, 8, 9, 10, 11, 12], [0, 1, 2, 3, 4, 5, 6, 7, 8, 9, 10], [0, 1, 2, 3, 4, 5, 6, 7, 8, 9, 10], [0, 1, 2, 3, 4, 5, 6, 7, 8, 9, 10, 11, 12, 13, 14, 15], [0, 1, 2, 3, 4, 5, 6, 7, 8, 9, 10, 11, 12, 13, 14, 15, 16], [0, 1, 2, 3, 4, 5, 6, 7, 8, 9, 10, 11, 12, 13, 14, 15, 16, 17], [0, 1, 2, 3, 4, 5, 6, 7, 8, 9, 10, 11, 12, 13, 14, 15, 16, 17, 18], [0, 1, 2, 3, 4, 5, 6, 7, 8, 9, 10, 11, 12, 13, 14, 15, 16, 17, 18, 19], [0, 1, 2, 3, 4, 5, 6, 7, 8, 9, 10, 11, 12, 13, 14, 15, 16, 17, 18, 19, 20], [0, 1, 2, 3, 4, 5, 6, 7, 8, 9, 10, 11, 12, 13, 14, 15, 16, 17, 18, 19], [0, 1, 2, 3, 4, 5, 6, 7, 8, 9, 10, 11, 12, 13, 14, 15, 16, 17, 18, 19, 20, 21, 22], [0, 1, 2, 3, 4, 5, 6, 7, 8, 9, 10, 11, 12, 13, 14, 15, 16, 17, 18, 19, 20, 21, 22, 23], [0, 1, 2, 3, 4, 5, 6, 7, 8, 9, 10, 11, 12, 13, 14, 15, 16, 17, 18, 19, 20, 21, 22, 23, 24], [0, 1, 2, 3, 4, 5, 6, 7, 8, 9, 10, 11, 12, 13, 14, 15, 16, 17, 18, 19, 20, 21, 22, 23, 24, 25]]) (tk := [6]) (sk := []) (s' := ⟨[(6, .c (.d (.bool false)))], []⟩) (by kernel_rfl) (by kernel_rfl) (by kernel_rfl) ⟨?_, ?_, ?_, ?_, ?_, ?_, ?_, ?_, ?_, ?_, ?_, ?_, ?_, ?_, ?_, ?_, ?_, ?_, ?_, ?_, ?_, ?_, ?_, ?_, ?_, ?_, ?_, trivial⟩ (by kernel_rfl) ?_
          · exact DOk.callA (caps := []) (xs := []) (freshetlaw04_orders_ok hr3) rfl (fun r => by kernel_rfl) rfl (fun r => by kernel_rfl) (fun r => by kernel_rfl) (fun r => .nil) rfl rfl (fun r => rfl)
          · exact DOk.stepP (fun b => .val (.c (.d (.bool b))) (True)) (p := r3) hp4 (fun r => by kernel_rfl) (fun r => by kernel_rfl) trivial (by kernel_rfl) (by kernel_rfl) (fun r => rfl)
          · exact DOk.step (.val (.agg [.d (.int .u64 p0.epoch), .d (.int .u64 p0.loop.1), .d (.int .u64 p0.loop.2)]) (True)) (fun r => by kernel_rfl) (fun r => by kernel_rfl) trivial (by kernel_rfl) (by kernel_rfl) (fun r => rfl)
          · exact DOk.step (.val (.agg [.d (.int .u64 p1.epoch), .d (.int .u64 p1.loop.1), .d (.int .u64 p1.loop.2)]) (True)) (fun r => by kernel_rfl) (fun r => by kernel_rfl) trivial (by kernel_rfl) (by kernel_rfl) (fun r => rfl)
          · exact DOk.callA (caps := []) (xs := [.agg [.d (.int .u64 p0.epoch), .d (.int .u64 p0.loop.1), .d (.int .u64 p0.loop.2)], .agg [.d (.int .u64 p1.epoch), .d (.int .u64 p1.loop.1), .d (.int .u64 p1.loop.2)]]) (moment_Ahead_ok hr5) rfl (fun r => by kernel_rfl) rfl (fun r => by kernel_rfl) (fun r => by kernel_rfl) (fun r => (.cons (.refl _) (.cons (.refl _) .nil))) rfl rfl (fun r => rfl)
          · exact DOk.step (.val (.agg [.d (.int .u64 p0.epoch), .d (.int .u64 p0.loop.1), .d (.int .u64 p0.loop.2)]) (True)) (fun r => by kernel_rfl) (fun r => by kernel_rfl) trivial (by kernel_rfl) (by kernel_rfl) (fun r => rfl)
          · exact DOk.step (.val (.agg [.d (.int .u64 p1.epoch), .d (.int .u64 p1.loop.1), .d (.int .u64 p1.loop.2)]) (True)) (fun r => by kernel_rfl) (fun r => by kernel_rfl) trivial (by kernel_rfl) (by kernel_rfl) (fun r => rfl)
          · exact DOk.callA (caps := []) (xs := [.agg [.d (.int .u64 p0.epoch), .d (.int .u64 p0.loop.1), .d (.int .u64 p0.loop.2)], .agg [.d (.int .u64 p1.epoch), .d (.int .u64 p1.loop.1), .d (.int .u64 p1.loop.2)]]) (freshetref04_Ahead_ok hr6) rfl (fun r => by kernel_rfl) rfl (fun r => by kernel_rfl) (fun r => by kernel_rfl) (fun r => (.cons (.refl _) (.cons (.refl _) .nil))) rfl rfl (fun r => rfl)
          · exact DOk.step (.val (.c (.d (.bool (r5 == r6)))) (True)) (fun r => by kernel_rfl) (fun r => by kernel_rfl) trivial (by kernel_rfl) (by kernel_rfl) (fun r => rfl)
          · exact DOk.step (.val (.c (.d (.bool (r5 == r6)))) (True)) (fun r => by kernel_rfl) (fun r => by kernel_rfl) trivial (by kernel_rfl) (by kernel_rfl) (fun r => rfl)
          · exact DOk.stepP (fun b => .val (.c (.d (.bool b))) (True)) (p := (r5 == r6)) hp7 (fun r => by kernel_rfl) (fun r => by kernel_rfl) trivial (by kernel_rfl) (by kernel_rfl) (fun r => rfl)
          · exact DOk.step (.val (.agg [.d (.int .u64 p0.epoch), .d (.int .u64 p0.loop.1), .d (.int .u64 p0.loop.2)]) (True)) (fun r => by kernel_rfl) (fun r => by kernel_rfl) trivial (by kernel_rfl) (by kernel_rfl) (fun r => rfl)
          · exact DOk.step (.val (.agg [.d (.int .u64 p1.epoch), .d (.int .u64 p1.loop.1), .d (.int .u64 p1.loop.2)]) (True)) (fun r => by kernel_rfl) (fun r => by kernel_rfl) trivial (by kernel_rfl) (by kernel_rfl) (fun r => rfl)
          · exact DOk.callA (caps := []) (xs := [.agg [.d (.int .u64 p0.epoch), .d (.int .u64 p0.loop.1), .d (.int .u64 p0.loop.2)], .agg [.d (.int .u64 p1.epoch), .d (.int .u64 p1.loop.1), .d (.int .u64 p1.loop.2)]]) (moment_Compare_ok hr8) rfl (fun r => by kernel_rfl) rfl (fun r => by kernel_rfl) (fun r => by kernel_rfl) (fun r => (.cons (.refl _) (.cons (.refl _) .nil))) rfl rfl (fun r => rfl)
          · exact DOk.step (.val (.agg [.d (.int .u64 p0.epoch), .d (.int .u64 p0.loop.1), .d (.int .u64 p0.loop.2)]) (True)) (fun r => by kernel_rfl) (fun r => by kernel_rfl) trivial (by kernel_rfl) (by kernel_rfl) (fun r => rfl)
          · exact DOk.step (.val (.agg [.d (.int .u64 p1.epoch), .d (.int .u64 p1.loop.1), .d (.int .u64 p1.loop.2)]) (True)) (fun r => by kernel_rfl) (fun r => by kernel_rfl) trivial (by kernel_rfl) (by kernel_rfl) (fun r => rfl)
          · exact DOk.callA (caps := []) (xs := [.agg [.d (.int .u64 p0.epoch), .d (.int .u64 p0.loop.1), .d (.int .u64 p0.loop.2)], .agg [.d (.int .u64 p1.epoch), .d (.int .u64 p1.loop.1), .d (.int .u64 p1.loop.2)]]) (freshetref04_Compare_ok hr9) rfl (fun r => by kernel_rfl) rfl (fun r => by kernel_rfl) (fun r => by kernel_rfl) (fun r => (.cons (.refl _) (.cons (.refl _) .nil))) rfl rfl (fun r => rfl)
          · exact DOk.step (.val (.c (.d (.bool (decide (r8 = r9))))) (True)) (fun r => by kernel_rfl) (fun r => by kernel_rfl) trivial (by kernel_rfl) (by kernel_rfl) (fun r => rfl)
          · exact DOk.step (.val (.c (.d (.bool (decide (r8 = r9))))) (True)) (fun r => by kernel_rfl) (fun r => by kernel_rfl) trivial (by kernel_rfl) (by kernel_rfl) (fun r => rfl)
          · exact DOk.stepP (fun b => .val (.c (.d (.bool b))) (True)) (p := (decide (r8 = r9))) hp10 (fun r => by kernel_rfl) (fun r => by kernel_rfl) trivial (by kernel_rfl) (by kernel_rfl) (fun r => rfl)
          · exact DOk.skip (fun r => by kernel_rfl) rfl rfl (fun r => rfl)
          · exact DOk.skip (fun r => by kernel_rfl) rfl rfl (fun r => rfl)
          · exact DOk.skip (fun r => by kernel_rfl) rfl rfl (fun r => rfl)
          · exact DOk.skip (fun r => by kernel_rfl) rfl rfl (fun r => rfl)
          · exact DOk.skip (fun r => by kernel_rfl) rfl rfl (fun r => rfl)
          · exact DOk.step (.val (.c (.d (.bool false))) (True)) (fun r => by kernel_rfl) (fun r => by kernel_rfl) trivial (by kernel_rfl) (by kernel_rfl) (fun r => rfl)
          · exact DOk.step (.val (.c (.d (.bool false))) (True)) (fun r => by kernel_rfl) (fun r => by kernel_rfl) trivial (by kernel_rfl) (by kernel_rfl) (fun r => rfl)
          exact ⟨_, h, rfl⟩
      · refine Tri.drawn (specs := [⟨⟨[], []⟩, ⟨[(7, .c (.d (.bool r3)))], []⟩, [], []⟩, ⟨⟨[(7, .c (.d (.bool r3)))], []⟩, ⟨[(8, .c (.d (.bool true)))], []⟩, [], []⟩, ⟨⟨[(3, .c (.ptr 3 0)), (8, .c (.d (.bool true)))], [(3, .box [.d (.int .u64 p0.epoch), .d (.int .u64 p0.loop.1), .d (.int .u64 p0.loop.2)])]⟩, ⟨[(9, .agg [.d (.int .u64 p0.epoch), .d (.int .u64 p0.loop.1), .d (.int .u64 p0.loop.2)])], []⟩, [], []⟩, ⟨⟨[(4, .c (.ptr 4 0)), (8, .c (.d (.bool true)))], [(4, .box [.d (.int .u64 p1.epoch), .d (.int .u64 p1.loop.1), .d (.int .u64 p1.loop.2)])]⟩, ⟨[(10, .agg [.d (.int .u64 p1.epoch), .d (.int .u64 p1.loop.1), .d (.int .u64 p1.loop.2)])], []⟩, [], []⟩, ⟨⟨[(8, .c (.d (.bool true))), (9, .agg [.d (.int .u64 p0.epoch), .d (.int .u64 p0.loop.1), .d (.int .u64 p0.loop.2)]), (10, .agg [.d (.int .u64 p1.epoch), .d (.int .u64 p1.loop.1), .d (.int .u64 p1.loop.2)])], []⟩, ⟨[(11, .c (.d (.bool r5)))], []⟩, [], []⟩, ⟨⟨[(3, .c (.ptr 3 0)), (8, .c (.d (.bool true)))], [(3, .box [.d (.int .u64 p0.epoch), .d (.int .u64 p0.loop.1), .d (.int .u64 p0.loop.2)])]⟩, ⟨[(12, .agg [.d (.int .u64 p0.epoch), .d (.int .u64 p0.loop.1), .d (.int .u64 p0.loop.2)])], []⟩, [], []⟩, ⟨⟨[(4, .c (.ptr 4 0)), (8, .c (.d (.bool true)))], [(4, .box [.d (.int .u64 p1.epoch), .d (.int .u64 p1.loop.1), .d (.int .u64 p1.loop.2)])]⟩, ⟨[(13, .agg [.d (.int .u64 p1.epoch), .d (.int .u64 p1.loop.1), .d (.int .u64 p1.loop.2)])], []⟩, [], []⟩, ⟨⟨[(8, .c (.d (.bool true))), (12, .agg [.d (.int .u64 p0.epoch), .d (.int .u64 p0.loop.1), .d (.int .u64 p0.loop.2)]), (13, .agg [.d (.int .u64 p1.epoch), .d (.int .u64 p1.loop.1), .d (.int .u64 p1.loop.2)])], []⟩, ⟨[(14, .c (.d (.bool r6)))], []⟩, [], []⟩, ⟨⟨[(8, .c (.d (.bool true))), (11, .c (.d (.bool r5))), (14, .c (.d (.bool r6)))], []⟩, ⟨[(15, .c (.d (.bool (r5 == r6))))], []⟩, [], []⟩, ⟨⟨[(8, .c (.d (.bool true))), (15, .c (.d (.bool (r5 == r6))))], []⟩, ⟨[(16, .c (.d (.bool (r5 == r6))))], []⟩, [], []⟩, ⟨⟨[(16, .c (.d (.bool (r5 == r6))))], []⟩, ⟨[(17, .c (.d (.bool false)))], []⟩, [], []⟩, ⟨⟨[(3, .c (.ptr 3 0)), (17, .c (.d (.bool false)))], [(3, .box [.d (.int .u64 p0.epoch), .d (.int .u64 p0.loop.1), .d (.int .u64 p0.loop.2)])]⟩, ⟨[(18, .tup [])], []⟩, [], []⟩, ⟨⟨[(4, .c (.ptr 4 0)), (17, .c (.d (.bool false)))], [(4, .box [.d (.int .u64 p1.epoch), .d (.int .u64 p1.loop.1), .d (.int .u64 p1.loop.2)])]⟩, ⟨[(19, .tup [])], []⟩, [], []⟩, ⟨⟨[(17, .c (.d (.bool false))), (18, .tup []), (19, .tup [])], []⟩, ⟨[(20, .tup [])], []⟩, [], []⟩, ⟨⟨[(3, .c (.ptr 3 0)), (17, .c (.d (.bool false)))], [(3, .box [.d (.int .u64 p0.epoch), .d (.int .u64 p0.loop.1), .d (.int .u64 p0.loop.2)])]⟩, ⟨[(21, .tup [])], []⟩, [], []⟩, ⟨⟨[(4, .c (.ptr 4 0)), (17, .c (.d (.bool false)))], [(4, .box [.d (.int .u64 p1.epoch), .d (.int .u64 p1.loop.1), .d (.int .u64 p1.loop.2)])]⟩, ⟨[(22, .tup [])], []⟩, [], []⟩, ⟨⟨[(17, .c (.d (.bool false))), (21, .tup []), (22, .tup [])], []⟩, ⟨[(23, .tup [])], []⟩, [], []⟩, ⟨⟨[(17, .c (.d (.bool false))), (20, .tup []), (23, .tup [])], []⟩, ⟨[(24, .tup [])], []⟩, [], []⟩, ⟨⟨[(17, .c (.d (.bool false))), (24, .tup [])], []⟩, ⟨[(25, .c (.d (.bool false)))], []⟩, [], []⟩, ⟨⟨[(25, .c (.d (.bool false)))], []⟩, ⟨[(26, .c (.d (.bool false)))], []⟩, [], []⟩, ⟨⟨[(2, .c (.d (.list 3 p2.length (fun i => encTime (p2.getD i default))))), (26, .c (.d (.bool false)))], []⟩, ⟨[(27, .tup [])], []⟩, [], []⟩, ⟨⟨[(26, .c (.d (.bool false))), (27, .tup [])], []⟩, ⟨[(28, .tup [])], []⟩, [], []⟩, ⟨⟨[(2, .c (.d (.list 3 p2.length (fun i => encTime (p2.getD i default))))), (26, .c (.d (.bool false)))], []⟩, ⟨[(29, .tup [])], []⟩, [], []⟩, ⟨⟨[(26, .c (.d (.bool false))), (29, .tup [])], []⟩, ⟨[(30, .tup [])], []⟩, [], []⟩, ⟨⟨[(26, .c (.d (.bool false))), (28, .tup []), (30, .tup [])], []⟩, ⟨[(31, .tup [])], []⟩, [], []⟩, ⟨⟨[(26, .c (.d (.bool false))), (31, .tup [])], []⟩, ⟨[(32, .c (.d (.bool false)))], []⟩, [], []⟩, ⟨⟨[(32, .c (.d (.bool false)))], []⟩, ⟨[(6, .c (.d (.bool false)))], []⟩, [], []⟩]) (bef := [[], [0], [0, 1], [0, 1], [0, 1, 2, 3], [0, 1], [0, 1], [0, 1, 2, 3, 4, 5, 6], [0, 1, 2, 3, 4, 5, 6, 7], [0, 1, 2, 3, 4, 5, 6, 7, 8], [0, 1, 2, 3, 4, 5, 6, 7, 8, 9], [0, 1, 2, 3, 4, 5, 6, 7, 8, 9, 10], [0, 1, 2, 3, 4, 5, 6, 7, 8, 9, 10], [0, 1, 2, 3, 4, 5, 6, 7, 8, 9, 10, 11, 12], [0, 1, 2, 3, 4, 5, 6, 7, 8, 9, 10], [0, 1, 2, 3, 4, 5, 6, 7, 8, 9, 10], [0, 1, 2, 3, 4, 5, 6, 7, 8, 9, 10, 11, 12, 13, 14, 15], [0, 1, 2, 3, 4, 5, 6, 7, 8, 9, 10, 11, 12, 13, 14, 15, 16], [0, 1, 2, 3, 4, 5, 6, 7, 8, 9, 10, 11, 12, 13, 14, 15, 16, 17], [0, 1, 2, 3, 4, 5, 6, 7, 8, 9, 10, 11, 12, 13, 14, 15, 16, 17, 18], [0, 1, 2, 3, 4, 5, 6, 7, 8, 9, 10, 11, 12, 13, 14, 15, 16, 17, 18, 19], [0, 1, 2, 3, 4, 5, 6, 7, 8, 9, 10, 11, 12, 13, 14, 15, 16, 17, 18, 19, 20], [0, 1, 2, 3, 4, 5, 6, 7, 8, 9, 10, 11, 12, 13, 14, 15, 16, 17, 18, 19], [0, 1, 2, 3, 4, 5, 6, 7, 8, 9, 10, 11, 12, 13, 14, 15, 16, 17, 18, 19, 20, 21, 22], [0, 1, 2, 3, 4, 5, 6, 7, 8, 9, 10, 11, 12, 13, 14, 15, 16, 17, 18, 19, 20, 21, 22, 23], [0, 1, 2, 3, 4, 5, 6, 7, 8, 9, 10, 11, 12, 13, 14, 15, 16, 17, 18, 19, 20, 21, 22, 23, 24], [0, 1, 2, 3, 4, 5, 6, 7, 8, 9, 10, 11, 12, 13, 14, 15, 16, 17, 18, 19, 20, 21, 22, 23, 24, 25]]) (tk := [6]) (sk := []) (s' := ⟨[(6, .c (.d (.bool false)))], []⟩) (by kernel_rfl) (by kernel_rfl) (by kernel_rfl) ⟨?_, ?_, ?_, ?_, ?_, ?_, ?_, ?_, ?_, ?_, ?_, ?_, ?_, ?_, ?_, ?_, ?_, ?_, ?_, ?_, ?_, ?_, ?_, ?_, ?_, ?_, ?_, trivial⟩ (by kernel_rfl) ?_
        · exact DOk.callA (caps := []) (xs := []) (freshetlaw04_orders_ok hr3) rfl (fun r => by kernel_rfl) rfl (fun r => by kernel_rfl) (fun r => by kernel_rfl) (fun r => .nil) rfl rfl (fun r => rfl)
        · exact DOk.stepP (fun b => .val (.c (.d (.bool b))) (True)) (p := r3) hp4 (fun r => by kernel_rfl) (fun r => by kernel_rfl) trivial (by kernel_rfl) (by kernel_rfl) (fun r => rfl)
        · exact DOk.step (.val (.agg [.d (.int .u64 p0.epoch), .d (.int .u64 p0.loop.1), .d (.int .u64 p0.loop.2)]) (True)) (fun r => by kernel_rfl) (fun r => by kernel_rfl) trivial (by kernel_rfl) (by kernel_rfl) (fun r => rfl)
        · exact DOk.step (.val (.agg [.d (.int .u64 p1.epoch), .d (.int .u64 p1.loop.1), .d (.int .u64 p1.loop.2)]) (True)) (fun r => by kernel_rfl) (fun r => by kernel_rfl) trivial (by kernel_rfl) (by kernel_rfl) (fun r => rfl)
        · exact DOk.callA (caps := []) (xs := [.agg [.d (.int .u64 p0.epoch), .d (.int .u64 p0.loop.1), .d (.int .u64 p0.loop.2)], .agg [.d (.int .u64 p1.epoch), .d (.int .u64 p1.loop.1), .d (.int .u64 p1.loop.2)]]) (moment_Ahead_ok hr5) rfl (fun r => by kernel_rfl) rfl (fun r => by kernel_rfl) (fun r => by kernel_rfl) (fun r => (.cons (.refl _) (.cons (.refl _) .nil))) rfl rfl (fun r => rfl)
        · exact DOk.step (.val (.agg [.d (.int .u64 p0.epoch), .d (.int .u64 p0.loop.1), .d (.int .u64 p0.loop.2)]) (True)) (fun r => by kernel_rfl) (fun r => by kernel_rfl) trivial (by kernel_rfl) (by kernel_rfl) (fun r => rfl)
        · exact DOk.step (.val (.agg [.d (.int .u64 p1.epoch), .d (.int .u64 p1.loop.1), .d (.int .u64 p1.loop.2)]) (True)) (fun r => by kernel_rfl) (fun r => by kernel_rfl) trivial (by kernel_rfl) (by kernel_rfl) (fun r => rfl)
        · exact DOk.callA (caps := []) (xs := [.agg [.d (.int .u64 p0.epoch), .d (.int .u64 p0.loop.1), .d (.int .u64 p0.loop.2)], .agg [.d (.int .u64 p1.epoch), .d (.int .u64 p1.loop.1), .d (.int .u64 p1.loop.2)]]) (freshetref04_Ahead_ok hr6) rfl (fun r => by kernel_rfl) rfl (fun r => by kernel_rfl) (fun r => by kernel_rfl) (fun r => (.cons (.refl _) (.cons (.refl _) .nil))) rfl rfl (fun r => rfl)
        · exact DOk.step (.val (.c (.d (.bool (r5 == r6)))) (True)) (fun r => by kernel_rfl) (fun r => by kernel_rfl) trivial (by kernel_rfl) (by kernel_rfl) (fun r => rfl)
        · exact DOk.step (.val (.c (.d (.bool (r5 == r6)))) (True)) (fun r => by kernel_rfl) (fun r => by kernel_rfl) trivial (by kernel_rfl) (by kernel_rfl) (fun r => rfl)
        · exact DOk.stepP (fun b => .val (.c (.d (.bool b))) (True)) (p := (r5 == r6)) hp7 (fun r => by kernel_rfl) (fun r => by kernel_rfl) trivial (by kernel_rfl) (by kernel_rfl) (fun r => rfl)
        · exact DOk.skip (fun r => by kernel_rfl) rfl rfl (fun r => rfl)
        · exact DOk.skip (fun r => by kernel_rfl) rfl rfl (fun r => rfl)
        · exact DOk.skip (fun r => by kernel_rfl) rfl rfl (fun r => rfl)
        · exact DOk.skip (fun r => by kernel_rfl) rfl rfl (fun r => rfl)
        · exact DOk.skip (fun r => by kernel_rfl) rfl rfl (fun r => rfl)
        · exact DOk.skip (fun r => by kernel_rfl) rfl rfl (fun r => rfl)
        · exact DOk.skip (fun r => by kernel_rfl) rfl rfl (fun r => rfl)
        · exact DOk.step (.val (.c (.d (.bool false))) (True)) (fun r => by kernel_rfl) (fun r => by kernel_rfl) trivial (by kernel_rfl) (by kernel_rfl) (fun r => rfl)
        · exact DOk.step (.val (.c (.d (.bool false))) (True)) (fun r => by kernel_rfl) (fun r => by kernel_rfl) trivial (by kernel_rfl) (by kernel_rfl) (fun r => rfl)
        · exact DOk.skip (fun r => by kernel_rfl) rfl rfl (fun r => rfl)
        · exact DOk.skip (fun r => by kernel_rfl) rfl rfl (fun r => rfl)
        · exact DOk.skip (fun r => by kernel_rfl) rfl rfl (fun r => rfl)
        · exact DOk.skip (fun r => by kernel_rfl) rfl rfl (fun r => rfl)
        · exact DOk.skip (fun r => by kernel_rfl) rfl rfl (fun r => rfl)
        · exact DOk.step (.val (.c (.d (.bool false))) (True)) (fun r => by kernel_rfl) (fun r => by kernel_rfl) trivial (by kernel_rfl) (by kernel_rfl) (fun r => rfl)
        · exact DOk.step (.val (.c (.d (.bool false))) (True)) (fun r => by kernel_rfl) (fun r => by kernel_rfl) trivial (by kernel_rfl) (by kernel_rfl) (fun r => rfl)
        exact ⟨_, h, rfl⟩
    · refine Tri.drawn (specs := [⟨⟨[], []⟩, ⟨[(7, .c (.d (.bool r3)))], []⟩, [], []⟩, ⟨⟨[(7, .c (.d (.bool r3)))], []⟩, ⟨[(8, .c (.d (.bool false)))], []⟩, [], []⟩, ⟨⟨[(3, .c (.ptr 3 0)), (8, .c (.d (.bool false)))], [(3, .box [.d (.int .u64 p0.epoch), .d (.int .u64 p0.loop.1), .d (.int .u64 p0.loop.2)])]⟩, ⟨[(9, .tup [])], []⟩, [], []⟩, ⟨⟨[(4, .c (.ptr 4 0)), (8, .c (.d (.bool false)))], [(4, .box [.d (.int .u64 p1.epoch), .d (.int .u64 p1.loop.1), .d (.int .u64 p1.loop.2)])]⟩, ⟨[(10, .tup [])], []⟩, [], []⟩, ⟨⟨[(8, .c (.d (.bool false))), (9, .tup []), (10, .tup [])], []⟩, ⟨[(11, .tup [])], []⟩, [], []⟩, ⟨⟨[(3, .c (.ptr 3 0)), (8, .c (.d (.bool false)))], [(3, .box [.d (.int .u64 p0.epoch), .d (.int .u64 p0.loop.1), .d (.int .u64 p0.loop.2)])]⟩, ⟨[(12, .tup [])], []⟩, [], []⟩, ⟨⟨[(4, .c (.ptr 4 0)), (8, .c (.d (.bool false)))], [(4, .box [.d (.int .u64 p1.epoch), .d (.int .u64 p1.loop.1), .d (.int .u64 p1.loop.2)])]⟩, ⟨[(13, .tup [])], []⟩, [], []⟩, ⟨⟨[(8, .c (.d (.bool false))), (12, .tup []), (13, .tup [])], []⟩, ⟨[(14, .tup [])], []⟩, [], []⟩, ⟨⟨[(8, .c (.d (.bool false))), (11, .tup []), (14, .tup [])], []⟩, ⟨[(15, .tup [])], []⟩, [], []⟩, ⟨⟨[(8, .c (.d (.bool false))), (15, .tup [])], []⟩, ⟨[(16, .c (.d (.bool false)))], []⟩, [], []⟩, ⟨⟨[(16, .c (.d (.bool false)))], []⟩, ⟨[(17, .c (.d (.bool false)))], []⟩, [], []⟩, ⟨⟨[(3, .c (.ptr 3 0)), (17, .c (.d (.bool false)))], [(3, .box [.d (.int .u64 p0.epoch), .d (.int .u64 p0.loop.1), .d (.int .u64 p0.loop.2)])]⟩, ⟨[(18, .tup [])], []⟩, [], []⟩, ⟨⟨[(4, .c (.ptr 4 0)), (17, .c (.d (.bool false)))], [(4, .box [.d (.int .u64 p1.epoch), .d (.int .u64 p1.loop.1), .d (.int .u64 p1.loop.2)])]⟩, ⟨[(19, .tup [])], []⟩, [], []⟩, ⟨⟨[(17, .c (.d (.bool false))), (18, .tup []), (19, .tup [])], []⟩, ⟨[(20, .tup [])], []⟩, [], []⟩, ⟨⟨[(3, .c (.ptr 3 0)), (17, .c (.d (.bool false)))], [(3, .box [.d (.int .u64 p0.epoch), .d (.int .u64 p0.loop.1), .d (.int .u64 p0.loop.2)])]⟩, ⟨[(21, .tup [])], []⟩, [], []⟩, ⟨⟨[(4, .c (.ptr 4 0)), (17, .c (.d (.bool false)))], [(4, .box [.d (.int .u64 p1.epoch), .d (.int .u64 p1.loop.1), .d (.int .u64 p1.loop.2)])]⟩, ⟨[(22, .tup [])], []⟩, [], []⟩, ⟨⟨[(17, .c (.d (.bool false))), (21, .tup []), (22, .tup [])], []⟩, ⟨[(23, .tup [])], []⟩, [], []⟩, ⟨⟨[(17, .c (.d (.bool false))), (20, .tup []), (23, .tup [])], []⟩, ⟨[(24, .tup [])], []⟩, [], []⟩, ⟨⟨[(17, .c (.d (.bool false))), (24, .tup [])], []⟩, ⟨[(25, .c (.d (.bool false)))], []⟩, [], []⟩, ⟨⟨[(25, .c (.d (.bool false)))], []⟩, ⟨[(26, .c (.d (.bool false)))], []⟩, [], []⟩, ⟨⟨[(2, .c (.d (.list 3 p2.length (fun i => encTime (p2.getD i default))))), (26, .c (.d (.bool false)))], []⟩, ⟨[(27, .tup [])], []⟩, [], []⟩, ⟨⟨[(26, .c (.d (.bool false))), (27, .tup [])], []⟩, ⟨[(28, .tup [])], []⟩, [], []⟩, ⟨⟨[(2, .c (.d (.list 3 p2.length (fun i => encTime (p2.getD i default))))), (26, .c (.d (.bool false)))], []⟩, ⟨[(29, .tup [])], []⟩, [], []⟩, ⟨⟨[(26, .c (.d (.bool false))), (29, .tup [])], []⟩, ⟨[(30, .tup [])], []⟩, [], []⟩, ⟨⟨[(26, .c (.d (.bool false))), (28, .tup []), (30, .tup [])], []⟩, ⟨[(31, .tup [])], []⟩, [], []⟩, ⟨⟨[(26, .c (.d (.bool false))), (31, .tup [])], []⟩, ⟨[(32, .c (.d (.bool false)))], []⟩, [], []⟩, ⟨⟨[(32, .c (.d (.bool false)))], []⟩, ⟨[(6, .c (.d (.bool false)))], []⟩, [], []⟩]) (bef := [[], [0], [0, 1], [0, 1], [0, 1, 2, 3], [0, 1], [0, 1], [0, 1, 2, 3, 4, 5, 6], [0, 1, 2, 3, 4, 5, 6, 7], [0, 1, 2, 3, 4, 5, 6, 7, 8], [0, 1, 2, 3, 4, 5, 6, 7, 8, 9], [0, 1, 2, 3, 4, 5, 6, 7, 8, 9, 10], [0, 1, 2, 3, 4, 5, 6, 7, 8, 9, 10], [0, 1, 2, 3, 4, 5, 6, 7, 8, 9, 10, 11, 12], [0, 1, 2, 3, 4, 5, 6, 7, 8, 9, 10], [0, 1, 2, 3, 4, 5, 6, 7, 8, 9, 10], [0, 1, 2, 3, 4, 5, 6, 7, 8, 9, 10, 11, 12, 13, 14, 15], [0, 1, 2, 3, 4, 5, 6, 7, 8, 9, 10, 11, 12, 13, 14, 15, 16], [0, 1, 2, 3, 4, 5, 6, 7, 8, 9, 10, 11, 12, 13, 14, 15, 16, 17], [0, 1, 2, 3, 4, 5, 6, 7, 8, 9, 10, 11, 12, 13, 14, 15, 16, 17, 18], [0, 1, 2, 3, 4, 5, 6, 7, 8, 9, 10, 11, 12, 13, 14, 15, 16, 17, 18, 19], [0, 1, 2, 3, 4, 5, 6, 7, 8, 9, 10, 11, 12, 13, 14, 15, 16, 17, 18, 19, 20], [0, 1, 2, 3, 4, 5, 6, 7, 8, 9, 10, 11, 12, 13, 14, 15, 16, 17, 18, 19], [0, 1, 2, 3, 4, 5, 6, 7, 8, 9, 10, 11, 12, 13, 14, 15, 16, 17, 18, 19, 20, 21, 22], [0, 1, 2, 3, 4, 5, 6, 7, 8, 9, 10, 11, 12, 13, 14, 15, 16, 17, 18, 19, 20, 21, 22, 23], [0, 1, 2, 3, 4, 5, 6, 7, 8, 9, 10, 11, 12, 13, 14, 15, 16, 17, 18, 19, 20, 21, 22, 23, 24], [0, 1, 2, 3, 4, 5, 6, 7, 8, 9, 10, 11, 12, 13, 14, 15, 16, 17, 18, 19, 20, 21, 22, 23, 24, 25]]) (tk := [6]) (sk := []) (s' := ⟨[(6, .c (.d (.bool false)))], []⟩) (by kernel_rfl) (by kernel_rfl) (by kernel_rfl) ⟨?_, ?_, ?_, ?_, ?_, ?_, ?_, ?_, ?_, ?_, ?_, ?_, ?_, ?_, ?_, ?_, ?_, ?_, ?_, ?_, ?_, ?_, ?_, ?_, ?_, ?_, ?_, trivial⟩ (by kernel_rfl) ?_
      · exact DOk.callA (caps := []) (xs := []) (freshetlaw04_orders_ok hr3) rfl (fun r => by kernel_rfl) rfl (fun r => by kernel_rfl) (fun r => by kernel_rfl) (fun r => .nil) rfl rfl (fun r => rfl)
      · exact DOk.stepP (fun b => .val (.c (.d (.bool b))) (True)) (p := r3) hp4 (fun r => by kernel_rfl) (fun r => by kernel_rfl) trivial (by kernel_rfl) (by kernel_rfl) (fun r => rfl)
      · exact DOk.skip (fun r => by kernel_rfl) rfl rfl (fun r => rfl)
      · exact DOk.skip (fun r => by kernel_rfl) rfl rfl (fun r => rfl)
      · exact DOk.skip (fun r => by kernel_rfl) rfl rfl (fun r => rfl)
      · exact DOk.skip (fun r => by kernel_rfl) rfl rfl (fun r => rfl)
      · exact DOk.skip (fun r => by kernel_rfl) rfl rfl (fun r => rfl)
      · exact DOk.skip (fun r => by kernel_rfl) rfl rfl (fun r => rfl)
      · exact DOk.skip (fun r => by kernel_rfl) rfl rfl (fun r => rfl)
      · exact DOk.step (.val (.c (.d (.bool false))) (True)) (fun r => by kernel_rfl) (fun r => by kernel_rfl) trivial (by kernel_rfl) (by kernel_rfl) (fun r => rfl)
      · exact DOk.step (.val (.c (.d (.bool false))) (True)) (fun r => by kernel_rfl) (fun r => by kernel_rfl) trivial (by kernel_rfl) (by kernel_rfl) (fun r => rfl)
      · exact DOk.skip (fun r => by kernel_rfl) rfl rfl (fun r => rfl)
      · exact DOk.skip (fun r => by kernel_rfl) rfl rfl (fun r => rfl)
      · exact DOk.skip (fun r => by kernel_rfl) rfl rfl (fun r => rfl)
      · exact DOk.skip (fun r => by kernel_rfl) rfl rfl (fun r => rfl)
      · exact DOk.skip (fun r => by kernel_rfl) rfl rfl (fun r => rfl)
      · exact DOk.skip (fun r => by kernel_rfl) rfl rfl (fun r => rfl)
      · exact DOk.skip (fun r => by kernel_rfl) rfl rfl (fun r => rfl)
      · exact DOk.step (.val (.c (.d (.bool false))) (True)) (fun r => by kernel_rfl) (fun r => by kernel_rfl) trivial (by kernel_rfl) (by kernel_rfl) (fun r => rfl)
      · exact DOk.step (.val (.c (.d (.bool false))) (True)) (fun r => by kernel_rfl) (fun r => by kernel_rfl) trivial (by kernel_rfl) (by kernel_rfl) (fun r => rfl)
      · exact DOk.skip (fun r => by kernel_rfl) rfl rfl (fun r => rfl)
      · exact DOk.skip (fun r => by kernel_rfl) rfl rfl (fun r => rfl)
      · exact DOk.skip (fun r => by kernel_rfl) rfl rfl (fun r => rfl)
      · exact DOk.skip (fun r => by kernel_rfl) rfl rfl (fun r => rfl)
      · exact DOk.skip (fun r => by kernel_rfl) rfl rfl (fun r => rfl)
      · exact DOk.step (.val (.c (.d (.bool false))) (True)) (fun r => by kernel_rfl) (fun r => by kernel_rfl) trivial (by kernel_rfl) (by kernel_rfl) (fun r => rfl)
      · exact DOk.step (.val (.c (.d (.bool false))) (True)) (fun r => by kernel_rfl) (fun r => by kernel_rfl) trivial (by kernel_rfl) (by kernel_rfl) (fun r => rfl)
      exact ⟨_, h, rfl⟩

end Go.Av