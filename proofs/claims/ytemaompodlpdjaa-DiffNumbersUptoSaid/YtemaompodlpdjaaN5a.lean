import Derived.Test.YtemaompodlpdjaaN5p
import Derived.Test.YtemaompodlpdjaaProg
namespace Go.Av
open Go Go.Proofs
set_option linter.unusedVariables false
set_option linter.unusedSimpArgs false

set_option maxRecDepth 100000 in
theorem freshet_diff_tally_add_w_ok {p1 : Int} {l0 : Tally} {q : Tally} (h : freshet_diff_tally_add_w p1 l0 = some q) :
    Summ Try.prog 31 [.c (.ptr 5000 0), .c (.d (.int .i64 p1))] [(5000, .box [.d (.int .u64 l0.high), .d (.int .u64 l0.low)])] (.tup []) [(5000, .box [.d (.int .u64 q.high), .d (.int .u64 q.low)])] := by
  refine Summ.intro Try.func31 rfl (by kernel_rfl) (by kernel_rfl) [] rfl ?_
  rintro ⟨P, w0, G0, V, LL, lk, N, φ0, fx⟩ rfl rfl rfl rfl
  unfold freshet_diff_tally_add_w at h
  refine Tri.seqS ?_
  refine Tri.reg ?_
  refine At.seg 1 [0, 1] [5000] (s' := ⟨[(0, .c (.ptr 5000 0)), (1, .c (.d (.int .i64 p1)))], [(5000, .box [.d (.int .u64 l0.high), .d (.int .u64 l0.low)])]⟩) (c := True ∧ True) (by kernel_rfl) ⟨trivial, trivial⟩ ?_
  refine At.done rfl ?_
  show Tri _ _ _ _
  refine Tri.seqS ?_
  refine Tri.reg ?_
  refine At.seg 7 [0, 1, 6, 10, 12] [5000] (s' := ⟨[(0, .c (.ptr 5000 0)), (1, .c (.d (.int .i64 p1))), (6, .c (.ptr 5000 0)), (10, .c (.d (.int .u64 l0.low))), (12, .c (.d (.int .u64 (IntKind.u64.wrap p1))))], [(5000, .box [.d (.int .u64 l0.high), .d (.int .u64 l0.low)])]⟩) (c := True ∧ True ∧ True ∧ True ∧ True ∧ True ∧ True ∧ True) (by kernel_rfl) ⟨trivial, trivial, trivial, trivial, trivial, trivial, trivial, trivial⟩ ?_
  obtain ⟨r1, hr1, h⟩ := bind_elim h
  refine At.callA (caps := []) (xs := [.c (.d (.int .u64 l0.low)), .c (.d (.int .u64 (IntKind.u64.wrap p1))), .c (.d (.int .u64 0))]) (bits_Add64_ok (fn := Try.f60) Try.func60 rfl rfl (by kernel_rfl) (by kernel_rfl) hr1) rfl rfl rfl rfl rfl rfl (.cons (.refl _) (.cons (.refl _) (.cons (.refl _) .nil))) rfl rfl ?_
  refine At.seg 7 [0, 1, 4] [5000] (s' := ⟨[(0, .c (.ptr 5000 0)), (1, .c (.d (.int .i64 p1))), (4, .c (.d (.int .u64 r1.2)))], [(5000, .box [.d (.int .u64 l0.high), .d (.int .u64 r1.1)])]⟩) (c := True ∧ True ∧ True ∧ True ∧ True ∧ True ∧ True ∧ True) (by kernel_rfl) ⟨trivial, trivial, trivial, trivial, trivial, trivial, trivial, trivial⟩ ?_
  refine At.done rfl ?_
  show Tri _ _ _ _
  refine Tri.reg ?_
  refine At.seg 9 [19, 23, 26, 27] [5000] (s' := ⟨[(19, .c (.ptr 5000 0)), (23, .c (.d (.int .u64 l0.high))), (26, .c (.d (.int .u64 (IntKind.u64.wrap (shrOp .i64 p1 63))))), (27, .c (.d (.int .u64 r1.2)))], [(5000, .box [.d (.int .u64 l0.high), .d (.int .u64 r1.1)])]⟩) (c := True ∧ True ∧ True ∧ True ∧ True ∧ True ∧ ((0 : Int) ≤ 63) ∧ True ∧ True ∧ True) (by kernel_rfl) ⟨trivial, trivial, trivial, trivial, trivial, trivial, (by decide : (0 : Int) ≤ 63), trivial, trivial, trivial⟩ ?_
  obtain ⟨r2, hr2, h⟩ := bind_elim h
  refine At.callA (caps := []) (xs := [.c (.d (.int .u64 l0.high)), .c (.d (.int .u64 (IntKind.u64.wrap (shrOp .i64 p1 63)))), .c (.d (.int .u64 r1.2))]) (bits_Add64_ok (fn := Try.f60) Try.func60 rfl rfl (by kernel_rfl) (by kernel_rfl) hr2) rfl rfl rfl rfl rfl rfl (.cons (.refl _) (.cons (.refl _) (.cons (.refl _) .nil))) rfl rfl ?_
  refine At.seg 6 [] [5000] (s' := ⟨[], [(5000, .box [.d (.int .u64 r2.1), .d (.int .u64 r1.1)])]⟩) (c := True ∧ True ∧ True ∧ True ∧ True ∧ True ∧ True) (by kernel_rfl) ⟨trivial, trivial, trivial, trivial, trivial, trivial, trivial⟩ ?_
  refine At.done rfl ?_
  cases h
  refine ⟨_, _, rfl, trivial, rfl, rfl, ?_⟩
  exact SubS.out ⟨⟨rfl, rfl⟩, trivial⟩

set_option maxRecDepth 100000 in
theorem freshet_diff_tally_fit_w_ok {l0 : Tally} {q : Int × Int × Tally} (h : freshet_diff_tally_fit_w l0 = some q) :
    Summ Try.prog 32 [.c (.ptr 5000 0)] [(5000, .box [.d (.int .u64 l0.high), .d (.int .u64 l0.low)])] (.tup [(false, [.d (.int .i64 q.1)]), (false, [.d (.int .i64 q.2.1)])]) [(5000, .box [.d (.int .u64 q.2.2.high), .d (.int .u64 q.2.2.low)])] := by
  refine Summ.intro Try.func32 rfl (by kernel_rfl) (by kernel_rfl) [] rfl ?_
  rintro ⟨P, w0, G0, V, LL, lk, N, φ0, fx⟩ rfl rfl rfl rfl
  unfold freshet_diff_tally_fit_w at h
  refine Tri.seqS ?_
  refine Tri.reg ?_
  refine At.seg 2 [0] [5000] (s' := ⟨[(0, .c (.ptr 5000 0))], [(5000, .box [.d (.int .u64 l0.high), .d (.int .u64 l0.low)])]⟩) (c := True ∧ True ∧ True) (by kernel_rfl) ⟨trivial, trivial, trivial⟩ ?_
  refine At.done rfl ?_
  show Tri _ _ _ _
  refine Tri.seqS ?_
  refine Tri.seqS ?_
  refine Tri.drawn (specs := [⟨⟨[(0, .c (.ptr 5000 0))], []⟩, ⟨[(4, .c (.ptr 5000 0))], []⟩, [], [], []⟩, ⟨⟨[(4, .c (.ptr 5000 0))], []⟩, ⟨[(5, .c (.ptr 5000 0))], []⟩, [], [], []⟩, ⟨⟨[(5, .c (.ptr 5000 0))], []⟩, ⟨[(6, .c (.ptr 5000 0))], []⟩, [], [], []⟩, ⟨⟨[(6, .c (.ptr 5000 0))], [(5000, .box [.d (.int .u64 l0.high), .d (.int .u64 l0.low)])]⟩, ⟨[(7, .c (.d (.int .u64 l0.high)))], []⟩, [], [], []⟩, ⟨⟨[(0, .c (.ptr 5000 0))], []⟩, ⟨[(8, .c (.ptr 5000 0))], []⟩, [], [], []⟩, ⟨⟨[(8, .c (.ptr 5000 0))], []⟩, ⟨[(9, .c (.ptr 5000 0))], []⟩, [], [], []⟩, ⟨⟨[(9, .c (.ptr 5000 0))], []⟩, ⟨[(10, .c (.ptr 5000 1))], []⟩, [], [], []⟩, ⟨⟨[(10, .c (.ptr 5000 1))], [(5000, .box [.d (.int .u64 l0.high), .d (.int .u64 l0.low)])]⟩, ⟨[(11, .c (.d (.int .u64 l0.low)))], []⟩, [], [], []⟩, ⟨⟨[(11, .c (.d (.int .u64 l0.low)))], []⟩, ⟨[(12, .c (.d (.int .i64 (IntKind.i64.wrap l0.low))))], []⟩, [], [], []⟩, ⟨⟨[(12, .c (.d (.int .i64 (IntKind.i64.wrap l0.low))))], []⟩, ⟨[(13, .c (.d (.int .i64 (shrOp .i64 (IntKind.i64.wrap l0.low) 63))))], []⟩, [], [], []⟩, ⟨⟨[(13, .c (.d (.int .i64 (shrOp .i64 (IntKind.i64.wrap l0.low) 63))))], []⟩, ⟨[(14, .c (.d (.int .u64 (IntKind.u64.wrap (shrOp .i64 (IntKind.i64.wrap l0.low) 63)))))], []⟩, [], [], []⟩, ⟨⟨[(7, .c (.d (.int .u64 l0.high))), (14, .c (.d (.int .u64 (IntKind.u64.wrap (shrOp .i64 (IntKind.i64.wrap l0.low) 63)))))], []⟩, ⟨[(15, .c (.d (.bool (!decide (l0.high = (IntKind.u64.wrap (shrOp .i64 (IntKind.i64.wrap l0.low) 63)))))))], []⟩, [], [], []⟩]) (bef := [[], [0], [0, 1], [0, 1, 2], [], [4], [4, 5], [4, 5, 6], [4, 5, 6, 7], [4, 5, 6, 7, 8], [4, 5, 6, 7, 8, 9], [0, 1, 2, 3, 4, 5, 6, 7, 8, 9, 10]]) (tk := [0, 15]) (sk := [5000]) (s' := ⟨[(0, .c (.ptr 5000 0)), (15, .c (.d (.bool (!decide (l0.high = (IntKind.u64.wrap (shrOp .i64 (IntKind.i64.wrap l0.low) 63)))))))], [(5000, .box [.d (.int .u64 l0.high), .d (.int .u64 l0.low)])]⟩) (by kernel_rfl) (by kernel_rfl) (by kernel_rfl) ⟨?_, ?_, ?_, ?_, ?_, ?_, ?_, ?_, ?_, ?_, ?_, ?_, trivial⟩ (by kernel_rfl) ?_
  · exact DOk.step (.val (.c (.ptr 5000 0)) (True)) (fun r => by kernel_rfl) (fun r => by kernel_rfl) trivial (by kernel_rfl) (by kernel_rfl) (fun r => rfl)
  · exact DOk.step (.val (.c (.ptr 5000 0)) (True)) (fun r => by kernel_rfl) (fun r => by kernel_rfl) trivial (by kernel_rfl) (by kernel_rfl) (fun r => rfl)
  · exact DOk.step (.val (.c (.ptr 5000 0)) (True)) (fun r => by kernel_rfl) (fun r => by kernel_rfl) trivial (by kernel_rfl) (by kernel_rfl) (fun r => rfl)
  · exact DOk.step (.val (.c (.d (.int .u64 l0.high))) (True)) (fun r => by kernel_rfl) (fun r => by kernel_rfl) trivial (by kernel_rfl) (by kernel_rfl) (fun r => rfl)
  · exact DOk.step (.val (.c (.ptr 5000 0)) (True)) (fun r => by kernel_rfl) (fun r => by kernel_rfl) trivial (by kernel_rfl) (by kernel_rfl) (fun r => rfl)
  · exact DOk.step (.val (.c (.ptr 5000 0)) (True)) (fun r => by kernel_rfl) (fun r => by kernel_rfl) trivial (by kernel_rfl) (by kernel_rfl) (fun r => rfl)
  · exact DOk.step (.val (.c (.ptr 5000 1)) (True)) (fun r => by kernel_rfl) (fun r => by kernel_rfl) trivial (by kernel_rfl) (by kernel_rfl) (fun r => rfl)
  · exact DOk.step (.val (.c (.d (.int .u64 l0.low))) (True)) (fun r => by kernel_rfl) (fun r => by kernel_rfl) trivial (by kernel_rfl) (by kernel_rfl) (fun r => rfl)
  · exact DOk.step (.val (.c (.d (.int .i64 (IntKind.i64.wrap l0.low)))) (True)) (fun r => by kernel_rfl) (fun r => by kernel_rfl) trivial (by kernel_rfl) (by kernel_rfl) (fun r => rfl)
  · exact DOk.step (.val (.c (.d (.int .i64 (shrOp .i64 (IntKind.i64.wrap l0.low) 63)))) ((0 : Int) ≤ 63)) (fun r => by kernel_rfl) (fun r => by kernel_rfl) (by decide : (0 : Int) ≤ 63) (by kernel_rfl) (by kernel_rfl) (fun r => rfl)
  · exact DOk.step (.val (.c (.d (.int .u64 (IntKind.u64.wrap (shrOp .i64 (IntKind.i64.wrap l0.low) 63))))) (True)) (fun r => by kernel_rfl) (fun r => by kernel_rfl) trivial (by kernel_rfl) (by kernel_rfl) (fun r => rfl)
  · exact DOk.step (.val (.c (.d (.bool (!decide (l0.high = (IntKind.u64.wrap (shrOp .i64 (IntKind.i64.wrap l0.low) 63))))))) (True)) (fun r => by kernel_rfl) (fun r => by kernel_rfl) trivial (by kernel_rfl) (by kernel_rfl) (fun r => rfl)
  show Tri _ _ _ _
  refine Tri.condP (b := (!decide (l0.high = (IntKind.u64.wrap (shrOp .i64 (IntKind.i64.wrap l0.low) 63))))) rfl h (fun h => ?_) (fun h => ?_)
  · refine Tri.seqS ?_
    refine Tri.reg ?_
    refine At.seg 2 [2, 3] [5000] (s' := ⟨[(2, .c (.d (.int .i64 0))), (3, .c (.d (.int .i64 10)))], [(5000, .box [.d (.int .u64 l0.high), .d (.int .u64 l0.low)])]⟩) (c := True ∧ True ∧ True) (by kernel_rfl) ⟨trivial, trivial, trivial⟩ ?_
    refine At.done rfl ?_
    show Tri _ _ _ _
    refine Tri.keep [2, 3] [5000] (s' := ⟨[(2, .c (.d (.int .i64 0))), (3, .c (.d (.int .i64 10)))], [(5000, .box [.d (.int .u64 l0.high), .d (.int .u64 l0.low)])]⟩) (by kernel_rfl) ?_
    refine Tri.ret ?_
    cases h
    refine ⟨_, _, rfl, ⟨trivial, ⟨trivial, trivial⟩⟩, rfl, rfl, ?_⟩
    exact SubS.out ⟨⟨rfl, rfl⟩, trivial⟩
  · refine Tri.skip ?_
    show Tri _ _ _ _
    refine Tri.seqS ?_
    refine Tri.reg ?_
    refine At.seg 7 [2, 3] [5000] (s' := ⟨[(2, .c (.d (.int .i64 (IntKind.i64.wrap l0.low)))), (3, .c (.d (.int .i64 0)))], [(5000, .box [.d (.int .u64 l0.high), .d (.int .u64 l0.low)])]⟩) (c := True ∧ True ∧ True ∧ True ∧ True ∧ True ∧ True ∧ True) (by kernel_rfl) ⟨trivial, trivial, trivial, trivial, trivial, trivial, trivial, trivial⟩ ?_
    refine At.done rfl ?_
    show Tri _ _ _ _
    refine Tri.keep [2, 3] [5000] (s' := ⟨[(2, .c (.d (.int .i64 (IntKind.i64.wrap l0.low)))), (3, .c (.d (.int .i64 0)))], [(5000, .box [.d (.int .u64 l0.high), .d (.int .u64 l0.low)])]⟩) (by kernel_rfl) ?_
    refine Tri.ret ?_
    cases h
    refine ⟨_, _, rfl, ⟨trivial, ⟨trivial, trivial⟩⟩, rfl, rfl, ?_⟩
    exact SubS.out ⟨⟨rfl, rfl⟩, trivial⟩

set_option maxRecDepth 100000 in
theorem diff_Sum_ok {p0 : List Int} {q : Int × Int} (h : diff_Sum p0 = some q) :
    Summ Try.prog 11 [.c (.d (.list 1 p0.length (fun i => encInt .i64 (p0.getD i default))))] [] (.tup [(false, [.d (.int .i64 q.1)]), (false, [.d (.int .i64 q.2)])]) [] := by
  refine Summ.intro Try.func11 rfl (by kernel_rfl) (by kernel_rfl) [] rfl ?_
  rintro ⟨P, w0, G0, V, LL, lk, N, φ0, fx⟩ rfl rfl rfl rfl
  unfold diff_Sum at h
  refine Tri.seqS ?_
  refine Tri.reg ?_
  refine At.seg 2 [0] [] (s' := ⟨[(0, .c (.d (.list 1 p0.length (fun i => encInt .i64 (p0.getD i default)))))], []⟩) (c := True ∧ True ∧ True) (by kernel_rfl) ⟨trivial, trivial, trivial⟩ ?_
  refine At.done rfl ?_
  show Tri _ _ _ _
  refine Tri.seqS ?_
  refine Tri.reg ?_
  refine At.seg 1 [0, 4] [4] (s' := ⟨[(0, .c (.d (.list 1 p0.length (fun i => encInt .i64 (p0.getD i default))))), (4, .c (.ptr 4 0))], [(4, .box [.d (.int .u64 0), .d (.int .u64 0)])]⟩) (c := True ∧ True) (by kernel_rfl) ⟨trivial, trivial⟩ ?_
  refine At.done rfl ?_
  show Tri _ _ _ _
  refine Tri.seqS ?_
  refine Tri.seqS ?_
  refine Tri.reg ?_
  refine At.seg 3 [4, 7, 8, 9] [4] (s' := ⟨[(4, .c (.ptr 4 0)), (7, .c (.d (.list 1 p0.length (fun i => encInt .i64 (p0.getD i default))))), (8, .c (.d (.int .i64 (p0.length : Int)))), (9, .c (.d (.int .i64 0)))], [(4, .box [.d (.int .u64 0), .d (.int .u64 0)])]⟩) (c := True ∧ True ∧ True ∧ True) (by kernel_rfl) ⟨trivial, trivial, trivial, trivial⟩ ?_
  refine At.done rfl ?_
  show Tri _ _ _ _
  refine Tri.lenOf (t := 7) rfl fun hlena2 => ?_
  refine Tri.keep [9, 4, 7, 8] [4] (s' := idx 9 0 ⟨[(4, .c (.ptr 4 0)), (7, .c (.d (.list 1 p0.length (fun i => encInt .i64 (p0.getD i default))))), (8, .c (.d (.int .i64 (p0.length : Int))))], [(4, .box [.d (.int .u64 ((⟨0, 0⟩ : Tally).high)), .d (.int .u64 ((⟨0, 0⟩ : Tally).low))])]⟩) (by kernel_rfl) ?_
  refine Tri.range (n := p0.length) (st0 := (⟨0, 0⟩ : Tally)) (fun (x : Empty) s => False) (fun (a2 : Tally) => ⟨[(4, .c (.ptr 4 0)), (7, .c (.d (.list 1 p0.length (fun i => encInt .i64 (p0.getD i default))))), (8, .c (.d (.int .i64 (p0.length : Int))))], [(4, .box [.d (.int .u64 a2.high), .d (.int .u64 a2.low)])]⟩) (fun (a2 : Tally) => ⟨[(4, .c (.ptr 4 0)), (7, .c (.d (.list 1 p0.length (fun i => encInt .i64 (p0.getD i default))))), (8, .c (.d (.int .i64 (p0.length : Int))))], [(4, .box [.d (.int .u64 a2.high), .d (.int .u64 a2.low)])]⟩) (fun i => decide ((i : Int) < (p0.length : Int))) [10, 9, 4, 7, 8] [4] [4, 7, 8] [4] [9, 4, 7, 8] [4] h hlena2 rfl ?_ ?_ ?_ ?_ ?_ ?_ ?_ ?_
  · exact fun i a => ⟨True ∧ True, by kernel_rfl, ⟨trivial, trivial⟩⟩
  · exact fun i hi => decide_eq_true (by omega)
  · exact decide_eq_false (by omega)
  · exact fun a => by kernel_rfl
  · exact fun i a => ⟨True ∧ True ∧ True, by kernel_rfl, ⟨trivial, trivial, trivial⟩⟩
  · intro i1 a2 c hii1 h
    refine Tri.seqS ?_
    refine Tri.reg ?_
    refine At.seg 3 [4, 6, 7, 8, 9] [4] (s' := ⟨[(4, .c (.ptr 4 0)), (6, .c (.d (.int .i64 (p0.getD i1 default)))), (7, .c (.d (.list 1 p0.length (fun i => encInt .i64 (p0.getD i default))))), (8, .c (.d (.int .i64 (p0.length : Int)))), (9, .c (.d (.int .i64 ((i1 : Nat) : Int))))], [(4, .box [.d (.int .u64 a2.high), .d (.int .u64 a2.low)])]⟩) (c := ((0 : Int) ≤ ((i1 : Nat) : Int) ∧ ((i1 : Nat) : Int) < (p0.length : Int)) ∧ True ∧ True ∧ True) (by kernel_rfl) ⟨⟨by omega, by omega⟩, trivial, trivial, trivial⟩ ?_
    refine At.done rfl ?_
    show Tri _ _ _ _
    refine Tri.reg ?_
    refine At.seg 1 [4, 7, 8, 9, 13] [4] (s' := ⟨[(4, .c (.ptr 4 0)), (7, .c (.d (.list 1 p0.length (fun i => encInt .i64 (p0.getD i default))))), (8, .c (.d (.int .i64 (p0.length : Int)))), (9, .c (.d (.int .i64 ((i1 : Nat) : Int)))), (13, .c (.d (.int .i64 (p0.getD i1 default))))], [(4, .box [.d (.int .u64 a2.high), .d (.int .u64 a2.low)])]⟩) (c := True ∧ True) (by kernel_rfl) ⟨trivial, trivial⟩ ?_
    obtain ⟨r5, hr5, h⟩ := bind_elim h
    refine At.callL (nf := 0) (caps := []) (xs := [.c (.ptr 4 0), .c (.d (.int .i64 (p0.getD i1 default)))]) [(5000, 4)] [4, 7, 8, 9] [] (s0 := ⟨[(4, .c (.ptr 4 0)), (7, .c (.d (.list 1 p0.length (fun i => encInt .i64 (p0.getD i default))))), (8, .c (.d (.int .i64 (p0.length : Int)))), (9, .c (.d (.int .i64 ((i1 : Nat) : Int))))], []⟩) (freshet_diff_tally_add_w_ok hr5) rfl rfl (by kernel_rfl) rfl (by kernel_rfl) (by kernel_rfl) (.ren rfl rfl (.flat (.refl _) rfl rfl .nil)) ⟨⟨by kernel_rfl, by kernel_rfl⟩, trivial⟩ (by kernel_rfl) (by kernel_rfl) (by kernel_rfl) (by kernel_rfl) (by kernel_rfl) (by kernel_rfl) (by kernel_rfl) (by kernel_rfl) (by kernel_rfl) ⟨[(14, .tup []), (4, .c (.ptr 4 0)), (7, .c (.d (.list 1 p0.length (fun i => encInt .i64 (p0.getD i default))))), (8, .c (.d (.int .i64 (p0.length : Int)))), (9, .c (.d (.int .i64 ((i1 : Nat) : Int))))], [(4, .box [.d (.int .u64 r5.high), .d (.int .u64 r5.low)])]⟩ (by kernel_rfl) ?_
    refine At.keep [9, 4, 7, 8] [4] (s' := ⟨[(9, .c (.d (.int .i64 ((i1 : Nat) : Int)))), (4, .c (.ptr 4 0)), (7, .c (.d (.list 1 p0.length (fun i => encInt .i64 (p0.getD i default))))), (8, .c (.d (.int .i64 (p0.length : Int))))], [(4, .box [.d (.int .u64 r5.high), .d (.int .u64 r5.low)])]⟩) (by kernel_rfl) ?_
    refine At.done rfl ?_
    cases h
    exact rfl
  · intro a3 h
    show Tri _ _ _ _
    refine Tri.seqS ?_
    refine Tri.reg ?_
    obtain ⟨r4, hr4, h⟩ := bind_elim h
    refine At.callL (nf := 0) (caps := []) (xs := [.c (.ptr 4 0)]) [(5000, 4)] [] [] (s0 := ⟨[], []⟩) (freshet_diff_tally_fit_w_ok hr4) rfl rfl (by kernel_rfl) rfl (by kernel_rfl) (by kernel_rfl) (.ren rfl rfl .nil) ⟨⟨by kernel_rfl, by kernel_rfl⟩, trivial⟩ (by kernel_rfl) (by kernel_rfl) (by kernel_rfl) (by kernel_rfl) (by kernel_rfl) (by kernel_rfl) (by kernel_rfl) (by kernel_rfl) (by kernel_rfl) ⟨[(16, .tup [(false, [.d (.int .i64 r4.1)]), (false, [.d (.int .i64 r4.2.1)])])], [(4, .box [.d (.int .u64 r4.2.2.high), .d (.int .u64 r4.2.2.low)])]⟩ (by kernel_rfl) ?_
    refine At.seg 4 [2, 3] [] (s' := ⟨[(2, .c (.d (.int .i64 r4.1))), (3, .c (.d (.int .i64 r4.2.1)))], []⟩) (c := True ∧ True ∧ True ∧ True ∧ True) (by kernel_rfl) ⟨trivial, trivial, trivial, trivial, trivial⟩ ?_
    refine At.done rfl ?_
    show Tri _ _ _ _
    refine Tri.keep [2, 3] [] (s' := ⟨[(2, .c (.d (.int .i64 r4.1))), (3, .c (.d (.int .i64 r4.2.1)))], []⟩) (by kernel_rfl) ?_
    refine Tri.ret ?_
    cases h
    refine ⟨_, _, rfl, ⟨trivial, ⟨trivial, trivial⟩⟩, rfl, rfl, ?_⟩
    intro k c h
    cases h
  · exact fun x => x.elim

set_option maxRecDepth 100000 in
theorem freshet_freshetref05_Wide_Plus_ok {p0 : Wide} {p1 : Int} {q : Wide} (h : freshet_freshetref05_Wide_Plus p0 p1 = some q) :
    Summ Try.prog 33 [.agg [.d (.int .i64 p0.high), .d (.int .u64 p0.low)], .c (.d (.int .i64 p1))] [] (.agg [.d (.int .i64 q.high), .d (.int .u64 q.low)]) [] := by
  refine Summ.intro Try.func33 rfl (by kernel_rfl) (by kernel_rfl) [] rfl ?_
  rintro ⟨P, w0, G0, V, LL, lk, N, φ0, fx⟩ rfl rfl rfl rfl
  unfold freshet_freshetref05_Wide_Plus at h
  refine Tri.seqS ?_
  refine Tri.reg ?_
  refine At.seg 2 [1, 2, 4] [2, 4] (s' := ⟨[(1, .c (.d (.int .i64 p1))), (2, .c (.ptr 2 0)), (4, .c (.ptr 4 0))], [(2, .box [.d (.int .i64 p0.high), .d (.int .u64 p0.low)]), (4, .box [.d (.int .i64 0), .d (.int .u64 0)])]⟩) (c := True ∧ True ∧ True) (by kernel_rfl) ⟨trivial, trivial, trivial⟩ ?_
  refine At.done rfl ?_
  show Tri _ _ _ _
  refine Tri.seqS ?_
  refine Tri.reg ?_
  refine At.seg 6 [1, 2, 4, 5] [2, 4] (s' := ⟨[(1, .c (.d (.int .i64 p1))), (2, .c (.ptr 2 0)), (4, .c (.ptr 4 0)), (5, .c (.d (.int .u64 (IntKind.u64.wrap (p0.low + (IntKind.u64.wrap p1))))))], [(2, .box [.d (.int .i64 p0.high), .d (.int .u64 p0.low)]), (4, .box [.d (.int .i64 0), .d (.int .u64 0)])]⟩) (c := True ∧ True ∧ True ∧ True ∧ True ∧ True ∧ True) (by kernel_rfl) ⟨trivial, trivial, trivial, trivial, trivial, trivial, trivial⟩ ?_
  refine At.done rfl ?_
  show Tri _ _ _ _
  refine Tri.seqJ (fun (a1 : Wide) => ⟨[(1, .c (.d (.int .i64 p1))), (2, .c (.ptr 2 0)), (4, .c (.ptr 4 0)), (5, .c (.d (.int .u64 (IntKind.u64.wrap (p0.low + (IntKind.u64.wrap p1))))))], [(2, .box [.d (.int .i64 a1.high), .d (.int .u64 a1.low)]), (4, .box [.d (.int .i64 0), .d (.int .u64 0)])]⟩) h (fun a1 h => ?_) (fun j2 h => ?_)
  · show Tri _ _ ⟨[(1, .c (.d (.int .i64 p1))), (2, .c (.ptr 2 0)), (4, .c (.ptr 4 0)), (5, .c (.d (.int .u64 (IntKind.u64.wrap (p0.low + (IntKind.u64.wrap p1))))))], [(2, .box [.d (.int .i64 a1.high), .d (.int .u64 a1.low)]), (4, .box [.d (.int .i64 0), .d (.int .u64 0)])]⟩ _
    refine Tri.seqJ (fun (a3 : Wide) => ⟨[(2, .c (.ptr 2 0)), (4, .c (.ptr 4 0)), (5, .c (.d (.int .u64 (IntKind.u64.wrap (p0.low + (IntKind.u64.wrap p1))))))], [(2, .box [.d (.int .i64 a3.high), .d (.int .u64 a3.low)]), (4, .box [.d (.int .i64 0), .d (.int .u64 0)])]⟩) h (fun a3 h => ?_) (fun j4 h => ?_)
    · show Tri _ _ ⟨[(2, .c (.ptr 2 0)), (4, .c (.ptr 4 0)), (5, .c (.d (.int .u64 (IntKind.u64.wrap (p0.low + (IntKind.u64.wrap p1))))))], [(2, .box [.d (.int .i64 a3.high), .d (.int .u64 a3.low)]), (4, .box [.d (.int .i64 0), .d (.int .u64 0)])]⟩ _
      refine Tri.seqS ?_
      refine Tri.reg ?_
      refine At.seg 3 [2, 4] [2, 4] (s' := ⟨[(2, .c (.ptr 2 0)), (4, .c (.ptr 4 0))], [(2, .box [.d (.int .i64 a3.high), .d (.int .u64 (IntKind.u64.wrap (p0.low + (IntKind.u64.wrap p1))))]), (4, .box [.d (.int .i64 0), .d (.int .u64 0)])]⟩) (c := True ∧ True ∧ True ∧ True) (by kernel_rfl) ⟨trivial, trivial, trivial, trivial⟩ ?_
      refine At.done rfl ?_
      show Tri _ _ _ _
      refine Tri.seqS ?_
      refine Tri.reg ?_
      refine At.seg 2 [4] [4] (s' := ⟨[(4, .c (.ptr 4 0))], [(4, .box [.d (.int .i64 a3.high), .d (.int .u64 (IntKind.u64.wrap (p0.low + (IntKind.u64.wrap p1))))])]⟩) (c := True ∧ True ∧ True) (by kernel_rfl) ⟨trivial, trivial, trivial⟩ ?_
      refine At.done rfl ?_
      show Tri _ _ _ _
      refine Tri.keep [4] [4] (s' := ⟨[(4, .c (.ptr 4 0))], [(4, .box [.d (.int .i64 a3.high), .d (.int .u64 (IntKind.u64.wrap (p0.low + (IntKind.u64.wrap p1))))])]⟩) (by kernel_rfl) ?_
      refine Tri.ret ?_
      cases h
      refine ⟨_, _, rfl, ⟨trivial, trivial⟩, rfl, rfl, ?_⟩
      intro k c h
      cases h
    · refine Tri.seqS ?_
      refine Tri.reg ?_
      refine At.seg 2 [2, 4, 5, 20] [2, 4] (s' := ⟨[(2, .c (.ptr 2 0)), (4, .c (.ptr 4 0)), (5, .c (.d (.int .u64 (IntKind.u64.wrap (p0.low + (IntKind.u64.wrap p1)))))), (20, .c (.d (.bool (decide (p1 < 0)))))], [(2, .box [.d (.int .i64 a1.high), .d (.int .u64 a1.low)]), (4, .box [.d (.int .i64 0), .d (.int .u64 0)])]⟩) (c := True ∧ True ∧ True) (by kernel_rfl) ⟨trivial, trivial, trivial⟩ ?_
      refine At.done rfl ?_
      show Tri _ _ _ _
      refine Tri.condP (b := (decide (p1 < 0))) rfl h (fun h => ?_) (fun h => ?_)
      · refine Tri.reg ?_
        refine At.seg 5 [2, 4, 5] [2, 4] (s' := ⟨[(2, .c (.ptr 2 0)), (4, .c (.ptr 4 0)), (5, .c (.d (.int .u64 (IntKind.u64.wrap (p0.low + (IntKind.u64.wrap p1))))))], [(2, .box [.d (.int .i64 (IntKind.i64.wrap (a1.high - 1))), .d (.int .u64 a1.low)]), (4, .box [.d (.int .i64 0), .d (.int .u64 0)])]⟩) (c := True ∧ True ∧ True ∧ True ∧ True ∧ True) (by kernel_rfl) ⟨trivial, trivial, trivial, trivial, trivial, trivial⟩ ?_
        refine At.done rfl ?_
        exact ⟨_, h, rfl⟩
      · refine Tri.keep [2, 4, 5] [2, 4] (s' := ⟨[(2, .c (.ptr 2 0)), (4, .c (.ptr 4 0)), (5, .c (.d (.int .u64 (IntKind.u64.wrap (p0.low + (IntKind.u64.wrap p1))))))], [(2, .box [.d (.int .i64 a1.high), .d (.int .u64 a1.low)]), (4, .box [.d (.int .i64 0), .d (.int .u64 0)])]⟩) (by kernel_rfl) ?_
        refine Tri.skip ?_
        exact ⟨_, h, rfl⟩
  · refine Tri.seqS ?_
    refine Tri.reg ?_
    refine At.seg 4 [1, 2, 4, 5, 14] [2, 4] (s' := ⟨[(1, .c (.d (.int .i64 p1))), (2, .c (.ptr 2 0)), (4, .c (.ptr 4 0)), (5, .c (.d (.int .u64 (IntKind.u64.wrap (p0.low + (IntKind.u64.wrap p1)))))), (14, .c (.d (.bool (decide ((IntKind.u64.wrap (p0.low + (IntKind.u64.wrap p1))) < p0.low)))))], [(2, .box [.d (.int .i64 p0.high), .d (.int .u64 p0.low)]), (4, .box [.d (.int .i64 0), .d (.int .u64 0)])]⟩) (c := True ∧ True ∧ True ∧ True ∧ True) (by kernel_rfl) ⟨trivial, trivial, trivial, trivial, trivial⟩ ?_
    refine At.done rfl ?_
    show Tri _ _ _ _
    refine Tri.condP (b := (decide ((IntKind.u64.wrap (p0.low + (IntKind.u64.wrap p1))) < p0.low))) rfl h (fun h => ?_) (fun h => ?_)
    · refine Tri.reg ?_
      refine At.seg 5 [1, 2, 4, 5] [2, 4] (s' := ⟨[(1, .c (.d (.int .i64 p1))), (2, .c (.ptr 2 0)), (4, .c (.ptr 4 0)), (5, .c (.d (.int .u64 (IntKind.u64.wrap (p0.low + (IntKind.u64.wrap p1))))))], [(2, .box [.d (.int .i64 (IntKind.i64.wrap (p0.high + 1))), .d (.int .u64 p0.low)]), (4, .box [.d (.int .i64 0), .d (.int .u64 0)])]⟩) (c := True ∧ True ∧ True ∧ True ∧ True ∧ True) (by kernel_rfl) ⟨trivial, trivial, trivial, trivial, trivial, trivial⟩ ?_
      refine At.done rfl ?_
      exact ⟨_, h, rfl⟩
    · refine Tri.keep [1, 2, 4, 5] [2, 4] (s' := ⟨[(1, .c (.d (.int .i64 p1))), (2, .c (.ptr 2 0)), (4, .c (.ptr 4 0)), (5, .c (.d (.int .u64 (IntKind.u64.wrap (p0.low + (IntKind.u64.wrap p1))))))], [(2, .box [.d (.int .i64 p0.high), .d (.int .u64 p0.low)]), (4, .box [.d (.int .i64 0), .d (.int .u64 0)])]⟩) (by kernel_rfl) ?_
      refine Tri.skip ?_
      exact ⟨_, h, rfl⟩

set_option maxRecDepth 100000 in
theorem freshet_freshetref05_Wide_Fit_ok {p0 : Wide} {q : Int × Int} (h : freshet_freshetref05_Wide_Fit p0 = some q) :
    Summ Try.prog 34 [.agg [.d (.int .i64 p0.high), .d (.int .u64 p0.low)]] [] (.tup [(false, [.d (.int .i64 q.1)]), (false, [.d (.int .i64 q.2)])]) [] := by
  refine Summ.intro Try.func34 rfl (by kernel_rfl) (by kernel_rfl) [] rfl ?_
  rintro ⟨P, w0, G0, V, LL, lk, N, φ0, fx⟩ rfl rfl rfl rfl
  unfold freshet_freshetref05_Wide_Fit at h
  refine Tri.seqS ?_
  refine Tri.reg ?_
  refine At.seg 3 [1] [1] (s' := ⟨[(1, .c (.ptr 1 0))], [(1, .box [.d (.int .i64 p0.high), .d (.int .u64 p0.low)])]⟩) (c := True ∧ True ∧ True ∧ True) (by kernel_rfl) ⟨trivial, trivial, trivial, trivial⟩ ?_
  refine At.done rfl ?_
  show Tri _ _ _ _
  refine Tri.seqS ?_
  refine Tri.reg ?_
  refine At.seg 4 [1, 4] [1] (s' := ⟨[(1, .c (.ptr 1 0)), (4, .c (.d (.int .i64 (IntKind.i64.wrap p0.low))))], [(1, .box [.d (.int .i64 p0.high), .d (.int .u64 p0.low)])]⟩) (c := True ∧ True ∧ True ∧ True ∧ True) (by kernel_rfl) ⟨trivial, trivial, trivial, trivial, trivial⟩ ?_
  refine At.done rfl ?_
  show Tri _ _ _ _
  refine Tri.seqS ?_
  refine Tri.seqJ (fun (a1 : Bool) => ⟨[(4, .c (.d (.int .i64 (IntKind.i64.wrap p0.low)))), (23, .c (.d (.bool a1)))], []⟩) h (fun a1 h => ?_) (fun j2 h => ?_)
  · show Tri _ _ ⟨[(4, .c (.d (.int .i64 (IntKind.i64.wrap p0.low)))), (23, .c (.d (.bool a1)))], []⟩ _
    refine Tri.condP (b := a1) rfl h (fun h => ?_) (fun h => ?_)
    · refine Tri.seqS ?_
      refine Tri.reg ?_
      refine At.seg 3 [2, 3] [] (s' := ⟨[(2, .c (.d (.int .i64 (IntKind.i64.wrap p0.low)))), (3, .c (.d (.int .i64 0)))], []⟩) (c := True ∧ True ∧ True ∧ True) (by kernel_rfl) ⟨trivial, trivial, trivial, trivial⟩ ?_
      refine At.done rfl ?_
      show Tri _ _ _ _
      refine Tri.keep [2, 3] [] (s' := ⟨[(2, .c (.d (.int .i64 (IntKind.i64.wrap p0.low)))), (3, .c (.d (.int .i64 0)))], []⟩) (by kernel_rfl) ?_
      refine Tri.ret ?_
      cases h
      refine ⟨_, _, rfl, ⟨trivial, ⟨trivial, trivial⟩⟩, rfl, rfl, ?_⟩
      intro k c h
      cases h
    · refine Tri.skip ?_
      show Tri _ _ _ _
      refine Tri.seqS ?_
      refine Tri.reg ?_
      refine At.seg 2 [2, 3] [] (s' := ⟨[(2, .c (.d (.int .i64 0))), (3, .c (.d (.int .i64 10)))], []⟩) (c := True ∧ True ∧ True) (by kernel_rfl) ⟨trivial, trivial, trivial⟩ ?_
      refine At.done rfl ?_
      show Tri _ _ _ _
      refine Tri.keep [2, 3] [] (s' := ⟨[(2, .c (.d (.int .i64 0))), (3, .c (.d (.int .i64 10)))], []⟩) (by kernel_rfl) ?_
      refine Tri.ret ?_
      cases h
      refine ⟨_, _, rfl, ⟨trivial, ⟨trivial, trivial⟩⟩, rfl, rfl, ?_⟩
      intro k c h
      cases h
  · refine Tri.reg ?_
    refine At.seg 4 [1, 4, 11] [1] (s' := ⟨[(1, .c (.ptr 1 0)), (4, .c (.d (.int .i64 (IntKind.i64.wrap p0.low)))), (11, .c (.d (.bool (decide (p0.high = 0)))))], [(1, .box [.d (.int .i64 p0.high), .d (.int .u64 p0.low)])]⟩) (c := True ∧ True ∧ True ∧ True ∧ True) (by kernel_rfl) ⟨trivial, trivial, trivial, trivial, trivial⟩ ?_
    refine At.case (fun b => ⟨[(1, .c (.ptr 1 0)), (4, .c (.d (.int .i64 (IntKind.i64.wrap p0.low)))), (11, .c (.d (.bool b)))], [(1, .box [.d (.int .i64 p0.high), .d (.int .u64 p0.low)])]⟩) (b := (decide (p0.high = 0))) h (fun h => ?_) (fun h => ?_)
    · refine At.seg 4 [1, 4, 15] [1] (s' := ⟨[(1, .c (.ptr 1 0)), (4, .c (.d (.int .i64 (IntKind.i64.wrap p0.low)))), (15, .c (.d (.bool (decide (0 ≤ (IntKind.i64.wrap p0.low))))))], [(1, .box [.d (.int .i64 p0.high), .d (.int .u64 p0.low)])]⟩) (c := True ∧ True ∧ True ∧ True ∧ True) (by kernel_rfl) ⟨trivial, trivial, trivial, trivial, trivial⟩ ?_
      refine At.case (fun b => ⟨[(1, .c (.ptr 1 0)), (4, .c (.d (.int .i64 (IntKind.i64.wrap p0.low)))), (15, .c (.d (.bool b)))], [(1, .box [.d (.int .i64 p0.high), .d (.int .u64 p0.low)])]⟩) (b := (decide (0 ≤ (IntKind.i64.wrap p0.low)))) h (fun h => ?_) (fun h => ?_)
      · refine At.seg 8 [4, 23] [] (s' := ⟨[(4, .c (.d (.int .i64 (IntKind.i64.wrap p0.low)))), (23, .c (.d (.bool true)))], []⟩) (c := True ∧ True) (by kernel_rfl) ⟨trivial, trivial⟩ ?_
        refine At.done rfl ?_
        exact ⟨_, h, rfl⟩
      · refine At.seg 4 [4, 15, 19] [] (s' := ⟨[(4, .c (.d (.int .i64 (IntKind.i64.wrap p0.low)))), (15, .c (.d (.bool false))), (19, .c (.d (.bool (decide (p0.high = (-1))))))], []⟩) (c := True ∧ True ∧ True ∧ True ∧ True) (by kernel_rfl) ⟨trivial, trivial, trivial, trivial, trivial⟩ ?_
        refine At.case (fun b => ⟨[(4, .c (.d (.int .i64 (IntKind.i64.wrap p0.low)))), (15, .c (.d (.bool false))), (19, .c (.d (.bool b)))], []⟩) (b := (decide (p0.high = (-1)))) h (fun h => ?_) (fun h => ?_)
        · refine At.seg 4 [4, 23] [] (s' := ⟨[(4, .c (.d (.int .i64 (IntKind.i64.wrap p0.low)))), (23, .c (.d (.bool (decide ((IntKind.i64.wrap p0.low) < 0)))))], []⟩) (c := True ∧ True ∧ True ∧ True ∧ True) (by kernel_rfl) ⟨trivial, trivial, trivial, trivial, trivial⟩ ?_
          refine At.done rfl ?_
          exact ⟨_, h, rfl⟩
        · refine At.seg 4 [4, 23] [] (s' := ⟨[(4, .c (.d (.int .i64 (IntKind.i64.wrap p0.low)))), (23, .c (.d (.bool false)))], []⟩) (c := True ∧ True ∧ True) (by kernel_rfl) ⟨trivial, trivial, trivial⟩ ?_
          refine At.done rfl ?_
          exact ⟨_, h, rfl⟩
    · refine At.seg 8 [4, 15, 19] [] (s' := ⟨[(4, .c (.d (.int .i64 (IntKind.i64.wrap p0.low)))), (15, .c (.d (.bool false))), (19, .c (.d (.bool (decide (p0.high = (-1))))))], []⟩) (c := True ∧ True ∧ True ∧ True ∧ True ∧ True ∧ True) (by kernel_rfl) ⟨trivial, trivial, trivial, trivial, trivial, trivial, trivial⟩ ?_
      refine At.case (fun b => ⟨[(4, .c (.d (.int .i64 (IntKind.i64.wrap p0.low)))), (15, .c (.d (.bool false))), (19, .c (.d (.bool b)))], []⟩) (b := (decide (p0.high = (-1)))) h (fun h => ?_) (fun h => ?_)
      · refine At.seg 4 [4, 23] [] (s' := ⟨[(4, .c (.d (.int .i64 (IntKind.i64.wrap p0.low)))), (23, .c (.d (.bool (decide ((IntKind.i64.wrap p0.low) < 0)))))], []⟩) (c := True ∧ True ∧ True ∧ True ∧ True) (by kernel_rfl) ⟨trivial, trivial, trivial, trivial, trivial⟩ ?_
        refine At.done rfl ?_
        exact ⟨_, h, rfl⟩
      · refine At.seg 4 [4, 23] [] (s' := ⟨[(4, .c (.d (.int .i64 (IntKind.i64.wrap p0.low)))), (23, .c (.d (.bool false)))], []⟩) (c := True ∧ True ∧ True) (by kernel_rfl) ⟨trivial, trivial, trivial⟩ ?_
        refine At.done rfl ?_
        exact ⟨_, h, rfl⟩

set_option maxRecDepth 100000 in
theorem freshetref05_Sum_ok {p0 : List Int} {q : Int × Int} (h : freshetref05_Sum p0 = some q) :
    Summ Try.prog 12 [.c (.d (.list 1 p0.length (fun i => encInt .i64 (p0.getD i default))))] [] (.tup [(false, [.d (.int .i64 q.1)]), (false, [.d (.int .i64 q.2)])]) [] := by
  refine Summ.intro Try.func12 rfl (by kernel_rfl) (by kernel_rfl) [] rfl ?_
  rintro ⟨P, w0, G0, V, LL, lk, N, φ0, fx⟩ rfl rfl rfl rfl
  unfold freshetref05_Sum at h
  refine Tri.seqS ?_
  refine Tri.reg ?_
  refine At.seg 2 [0] [] (s' := ⟨[(0, .c (.d (.list 1 p0.length (fun i => encInt .i64 (p0.getD i default)))))], []⟩) (c := True ∧ True ∧ True) (by kernel_rfl) ⟨trivial, trivial, trivial⟩ ?_
  refine At.done rfl ?_
  show Tri _ _ _ _
  refine Tri.seqS ?_
  refine Tri.reg ?_
  refine At.seg 3 [0, 4] [4] (s' := ⟨[(0, .c (.d (.list 1 p0.length (fun i => encInt .i64 (p0.getD i default))))), (4, .c (.ptr 4 0))], [(4, .box [.d (.int .i64 0), .d (.int .u64 0)])]⟩) (c := True ∧ True ∧ True ∧ True) (by kernel_rfl) ⟨trivial, trivial, trivial, trivial⟩ ?_
  refine At.done rfl ?_
  show Tri _ _ _ _
  refine Tri.seqS ?_
  refine Tri.seqS ?_
  refine Tri.reg ?_
  refine At.seg 3 [4, 8, 9, 10] [4] (s' := ⟨[(4, .c (.ptr 4 0)), (8, .c (.d (.list 1 p0.length (fun i => encInt .i64 (p0.getD i default))))), (9, .c (.d (.int .i64 (p0.length : Int)))), (10, .c (.d (.int .i64 0)))], [(4, .box [.d (.int .i64 0), .d (.int .u64 0)])]⟩) (c := True ∧ True ∧ True ∧ True) (by kernel_rfl) ⟨trivial, trivial, trivial, trivial⟩ ?_
  refine At.done rfl ?_
  show Tri _ _ _ _
  refine Tri.lenOf (t := 8) rfl fun hlena2 => ?_
  refine Tri.keep [10, 4, 8, 9] [4] (s' := idx 10 0 ⟨[(4, .c (.ptr 4 0)), (8, .c (.d (.list 1 p0.length (fun i => encInt .i64 (p0.getD i default))))), (9, .c (.d (.int .i64 (p0.length : Int))))], [(4, .box [.d (.int .i64 ((⟨0, 0⟩ : Wide).high)), .d (.int .u64 ((⟨0, 0⟩ : Wide).low))])]⟩) (by kernel_rfl) ?_
  refine Tri.range (n := p0.length) (st0 := (⟨0, 0⟩ : Wide)) (fun (x : Empty) s => False) (fun (a2 : Wide) => ⟨[(4, .c (.ptr 4 0)), (8, .c (.d (.list 1 p0.length (fun i => encInt .i64 (p0.getD i default))))), (9, .c (.d (.int .i64 (p0.length : Int))))], [(4, .box [.d (.int .i64 a2.high), .d (.int .u64 a2.low)])]⟩) (fun (a2 : Wide) => ⟨[(4, .c (.ptr 4 0)), (8, .c (.d (.list 1 p0.length (fun i => encInt .i64 (p0.getD i default))))), (9, .c (.d (.int .i64 (p0.length : Int))))], [(4, .box [.d (.int .i64 a2.high), .d (.int .u64 a2.low)])]⟩) (fun i => decide ((i : Int) < (p0.length : Int))) [11, 10, 4, 8, 9] [4] [4, 8, 9] [4] [10, 4, 8, 9] [4] h hlena2 rfl ?_ ?_ ?_ ?_ ?_ ?_ ?_ ?_
  · exact fun i a => ⟨True ∧ True, by kernel_rfl, ⟨trivial, trivial⟩⟩
  · exact fun i hi => decide_eq_true (by omega)
  · exact decide_eq_false (by omega)
  · exact fun a => by kernel_rfl
  · exact fun i a => ⟨True ∧ True ∧ True, by kernel_rfl, ⟨trivial, trivial, trivial⟩⟩
  · intro i1 a2 c hii1 h
    refine Tri.seqS ?_
    refine Tri.reg ?_
    refine At.seg 3 [4, 6, 8, 9, 10] [4] (s' := ⟨[(4, .c (.ptr 4 0)), (6, .c (.d (.int .i64 (p0.getD i1 default)))), (8, .c (.d (.list 1 p0.length (fun i => encInt .i64 (p0.getD i default))))), (9, .c (.d (.int .i64 (p0.length : Int)))), (10, .c (.d (.int .i64 ((i1 : Nat) : Int))))], [(4, .box [.d (.int .i64 a2.high), .d (.int .u64 a2.low)])]⟩) (c := ((0 : Int) ≤ ((i1 : Nat) : Int) ∧ ((i1 : Nat) : Int) < (p0.length : Int)) ∧ True ∧ True ∧ True) (by kernel_rfl) ⟨⟨by omega, by omega⟩, trivial, trivial, trivial⟩ ?_
    refine At.done rfl ?_
    show Tri _ _ _ _
    refine Tri.reg ?_
    refine At.seg 2 [4, 8, 9, 10, 14, 15] [4] (s' := ⟨[(4, .c (.ptr 4 0)), (8, .c (.d (.list 1 p0.length (fun i => encInt .i64 (p0.getD i default))))), (9, .c (.d (.int .i64 (p0.length : Int)))), (10, .c (.d (.int .i64 ((i1 : Nat) : Int)))), (14, .agg [.d (.int .i64 a2.high), .d (.int .u64 a2.low)]), (15, .c (.d (.int .i64 (p0.getD i1 default))))], [(4, .box [.d (.int .i64 a2.high), .d (.int .u64 a2.low)])]⟩) (c := True ∧ True ∧ True) (by kernel_rfl) ⟨trivial, trivial, trivial⟩ ?_
    obtain ⟨r5, hr5, h⟩ := bind_elim h
    refine At.callA (caps := []) (xs := [.agg [.d (.int .i64 a2.high), .d (.int .u64 a2.low)], .c (.d (.int .i64 (p0.getD i1 default)))]) (freshet_freshetref05_Wide_Plus_ok hr5) rfl rfl rfl rfl rfl rfl (.cons (.refl _) (.cons (.refl _) .nil)) rfl rfl ?_
    refine At.seg 1 [10, 4, 8, 9] [4] (s' := ⟨[(10, .c (.d (.int .i64 ((i1 : Nat) : Int)))), (4, .c (.ptr 4 0)), (8, .c (.d (.list 1 p0.length (fun i => encInt .i64 (p0.getD i default))))), (9, .c (.d (.int .i64 (p0.length : Int))))], [(4, .box [.d (.int .i64 r5.high), .d (.int .u64 r5.low)])]⟩) (c := True ∧ True) (by kernel_rfl) ⟨trivial, trivial⟩ ?_
    refine At.done rfl ?_
    cases h
    exact rfl
  · intro a3 h
    show Tri _ _ _ _
    refine Tri.seqS ?_
    refine Tri.reg ?_
    refine At.seg 1 [18] [] (s' := ⟨[(18, .agg [.d (.int .i64 a3.high), .d (.int .u64 a3.low)])], []⟩) (c := True ∧ True) (by kernel_rfl) ⟨trivial, trivial⟩ ?_
    obtain ⟨r4, hr4, h⟩ := bind_elim h
    refine At.callA (caps := []) (xs := [.agg [.d (.int .i64 a3.high), .d (.int .u64 a3.low)]]) (freshet_freshetref05_Wide_Fit_ok hr4) rfl rfl rfl rfl rfl rfl (.cons (.refl _) .nil) rfl rfl ?_
    refine At.seg 4 [2, 3] [] (s' := ⟨[(2, .c (.d (.int .i64 r4.1))), (3, .c (.d (.int .i64 r4.2)))], []⟩) (c := True ∧ True ∧ True ∧ True ∧ True) (by kernel_rfl) ⟨trivial, trivial, trivial, trivial, trivial⟩ ?_
    refine At.done rfl ?_
    show Tri _ _ _ _
    refine Tri.keep [2, 3] [] (s' := ⟨[(2, .c (.d (.int .i64 r4.1))), (3, .c (.d (.int .i64 r4.2)))], []⟩) (by kernel_rfl) ?_
    refine Tri.ret ?_
    cases h
    refine ⟨_, _, rfl, ⟨trivial, ⟨trivial, trivial⟩⟩, rfl, rfl, ?_⟩
    intro k c h
    cases h
  · exact fun x => x.elim

set_option maxRecDepth 100000 in
theorem diff_size_ok {p0 : Int} {q : Int} (h : diff_size p0 = some q) :
    Summ Try.prog 36 [.c (.d (.int .i64 p0))] [] (.c (.d (.int .u64 q))) [] := by
  refine Summ.intro Try.func36 rfl (by kernel_rfl) (by kernel_rfl) [] rfl ?_
  rintro ⟨P, w0, G0, V, LL, lk, N, φ0, fx⟩ rfl rfl rfl rfl
  unfold diff_size at h
  refine Tri.seqS ?_
  refine Tri.reg ?_
  refine At.seg 1 [0] [] (s' := ⟨[(0, .c (.d (.int .i64 p0)))], []⟩) (c := True ∧ True) (by kernel_rfl) ⟨trivial, trivial⟩ ?_
  refine At.done rfl ?_
  show Tri _ _ _ _
  refine Tri.seqS ?_
  refine Tri.seqS ?_
  refine Tri.reg ?_
  refine At.seg 2 [0, 4] [] (s' := ⟨[(0, .c (.d (.int .i64 p0))), (4, .c (.d (.bool (decide (p0 < 0)))))], []⟩) (c := True ∧ True ∧ True) (by kernel_rfl) ⟨trivial, trivial, trivial⟩ ?_
  refine At.done rfl ?_
  show Tri _ _ _ _
  refine Tri.condP (b := (decide (p0 < 0))) rfl h (fun h => ?_) (fun h => ?_)
  · refine Tri.seqS ?_
    refine Tri.reg ?_
    refine At.seg 4 [2] [] (s' := ⟨[(2, .c (.d (.int .u64 (IntKind.u64.wrap (0 - (IntKind.u64.wrap p0))))))], []⟩) (c := True ∧ True ∧ True ∧ True ∧ True) (by kernel_rfl) ⟨trivial, trivial, trivial, trivial, trivial⟩ ?_
    refine At.done rfl ?_
    show Tri _ _ _ _
    refine Tri.keep [2] [] (s' := ⟨[(2, .c (.d (.int .u64 (IntKind.u64.wrap (0 - (IntKind.u64.wrap p0))))))], []⟩) (by kernel_rfl) ?_
    refine Tri.ret ?_
    cases h
    refine ⟨_, _, rfl, ⟨trivial, trivial⟩, rfl, rfl, ?_⟩
    intro k c h
    cases h
  · refine Tri.skip ?_
    show Tri _ _ _ _
    refine Tri.seqS ?_
    refine Tri.reg ?_
    refine At.seg 3 [2] [] (s' := ⟨[(2, .c (.d (.int .u64 (IntKind.u64.wrap p0))))], []⟩) (c := True ∧ True ∧ True ∧ True) (by kernel_rfl) ⟨trivial, trivial, trivial, trivial⟩ ?_
    refine At.done rfl ?_
    show Tri _ _ _ _
    refine Tri.keep [2] [] (s' := ⟨[(2, .c (.d (.int .u64 (IntKind.u64.wrap p0))))], []⟩) (by kernel_rfl) ?_
    refine Tri.ret ?_
    cases h
    refine ⟨_, _, rfl, ⟨trivial, trivial⟩, rfl, rfl, ?_⟩
    intro k c h
    cases h

set_option maxRecDepth 100000 in
theorem math_bits_Mul64_ok {p0 : Int} {p1 : Int} {q : Int × Int} (h : math_bits_Mul64 p0 p1 = some q) :
    Summ Try.prog 35 [.c (.d (.int .u64 p0)), .c (.d (.int .u64 p1))] [] (.tup [(false, [.d (.int .u64 q.1)]), (false, [.d (.int .u64 q.2)])]) [] := by
  refine Summ.intro Try.func35 rfl (by kernel_rfl) (by kernel_rfl) [] rfl ?_
  rintro ⟨P, w0, G0, V, LL, lk, N, φ0, fx⟩ rfl rfl rfl rfl
  unfold math_bits_Mul64 at h
  refine Tri.seqS ?_
  refine Tri.reg ?_
  refine At.seg 2 [0, 1] [] (s' := ⟨[(0, .c (.d (.int .u64 p0))), (1, .c (.d (.int .u64 p1)))], []⟩) (c := True ∧ True ∧ True) (by kernel_rfl) ⟨trivial, trivial, trivial⟩ ?_
  refine At.done rfl ?_
  show Tri _ _ _ _
  refine Tri.seqS ?_
  refine Tri.reg ?_
  refine At.seg 3 [0, 1, 6] [] (s' := ⟨[(0, .c (.d (.int .u64 p0))), (1, .c (.d (.int .u64 p1))), (6, .c (.d (.int .u64 (bitsOp .and .u64 p0 4294967295))))], []⟩) (c := True ∧ True ∧ True ∧ True) (by kernel_rfl) ⟨trivial, trivial, trivial, trivial⟩ ?_
  refine At.done rfl ?_
  show Tri _ _ _ _
  refine Tri.seqS ?_
  refine Tri.reg ?_
  refine At.seg 3 [0, 1, 6, 7] [] (s' := ⟨[(0, .c (.d (.int .u64 p0))), (1, .c (.d (.int .u64 p1))), (6, .c (.d (.int .u64 (bitsOp .and .u64 p0 4294967295)))), (7, .c (.d (.int .u64 (shrOp .u64 p0 32))))], []⟩) (c := True ∧ ((0 : Int) ≤ 32) ∧ True ∧ True) (by kernel_rfl) ⟨trivial, (by decide : (0 : Int) ≤ 32), trivial, trivial⟩ ?_
  refine At.done rfl ?_
  show Tri _ _ _ _
  refine Tri.seqS ?_
  refine Tri.reg ?_
  refine At.seg 3 [0, 1, 6, 7, 8] [] (s' := ⟨[(0, .c (.d (.int .u64 p0))), (1, .c (.d (.int .u64 p1))), (6, .c (.d (.int .u64 (bitsOp .and .u64 p0 4294967295)))), (7, .c (.d (.int .u64 (shrOp .u64 p0 32)))), (8, .c (.d (.int .u64 (bitsOp .and .u64 p1 4294967295))))], []⟩) (c := True ∧ True ∧ True ∧ True) (by kernel_rfl) ⟨trivial, trivial, trivial, trivial⟩ ?_
  refine At.done rfl ?_
  show Tri _ _ _ _
  refine Tri.seqS ?_
  refine Tri.reg ?_
  refine At.seg 3 [0, 1, 6, 7, 8, 9] [] (s' := ⟨[(0, .c (.d (.int .u64 p0))), (1, .c (.d (.int .u64 p1))), (6, .c (.d (.int .u64 (bitsOp .and .u64 p0 4294967295)))), (7, .c (.d (.int .u64 (shrOp .u64 p0 32)))), (8, .c (.d (.int .u64 (bitsOp .and .u64 p1 4294967295)))), (9, .c (.d (.int .u64 (shrOp .u64 p1 32))))], []⟩) (c := True ∧ ((0 : Int) ≤ 32) ∧ True ∧ True) (by kernel_rfl) ⟨trivial, (by decide : (0 : Int) ≤ 32), trivial, trivial⟩ ?_
  refine At.done rfl ?_
  show Tri _ _ _ _
  refine Tri.seqS ?_
  refine Tri.reg ?_
  refine At.seg 4 [0, 1, 6, 7, 8, 9, 10] [] (s' := ⟨[(0, .c (.d (.int .u64 p0))), (1, .c (.d (.int .u64 p1))), (6, .c (.d (.int .u64 (bitsOp .and .u64 p0 4294967295)))), (7, .c (.d (.int .u64 (shrOp .u64 p0 32)))), (8, .c (.d (.int .u64 (bitsOp .and .u64 p1 4294967295)))), (9, .c (.d (.int .u64 (shrOp .u64 p1 32)))), (10, .c (.d (.int .u64 (IntKind.u64.wrap ((bitsOp .and .u64 p0 4294967295) * (bitsOp .and .u64 p1 4294967295))))))], []⟩) (c := True ∧ True ∧ True ∧ True ∧ True) (by kernel_rfl) ⟨trivial, trivial, trivial, trivial, trivial⟩ ?_
  refine At.done rfl ?_
  show Tri _ _ _ _
  refine Tri.seqS ?_
  refine Tri.reg ?_
  refine At.seg 7 [0, 1, 6, 7, 9, 11] [] (s' := ⟨[(0, .c (.d (.int .u64 p0))), (1, .c (.d (.int .u64 p1))), (6, .c (.d (.int .u64 (bitsOp .and .u64 p0 4294967295)))), (7, .c (.d (.int .u64 (shrOp .u64 p0 32)))), (9, .c (.d (.int .u64 (shrOp .u64 p1 32)))), (11, .c (.d (.int .u64 (IntKind.u64.wrap ((IntKind.u64.wrap ((shrOp .u64 p0 32) * (bitsOp .and .u64 p1 4294967295))) + (shrOp .u64 (IntKind.u64.wrap ((bitsOp .and .u64 p0 4294967295) * (bitsOp .and .u64 p1 4294967295))) 32))))))], []⟩) (c := True ∧ True ∧ True ∧ True ∧ ((0 : Int) ≤ 32) ∧ True ∧ True ∧ True) (by kernel_rfl) ⟨trivial, trivial, trivial, trivial, (by decide : (0 : Int) ≤ 32), trivial, trivial, trivial⟩ ?_
  refine At.done rfl ?_
  show Tri _ _ _ _
  refine Tri.seqS ?_
  refine Tri.reg ?_
  refine At.seg 3 [0, 1, 6, 7, 9, 11, 12] [] (s' := ⟨[(0, .c (.d (.int .u64 p0))), (1, .c (.d (.int .u64 p1))), (6, .c (.d (.int .u64 (bitsOp .and .u64 p0 4294967295)))), (7, .c (.d (.int .u64 (shrOp .u64 p0 32)))), (9, .c (.d (.int .u64 (shrOp .u64 p1 32)))), (11, .c (.d (.int .u64 (IntKind.u64.wrap ((IntKind.u64.wrap ((shrOp .u64 p0 32) * (bitsOp .and .u64 p1 4294967295))) + (shrOp .u64 (IntKind.u64.wrap ((bitsOp .and .u64 p0 4294967295) * (bitsOp .and .u64 p1 4294967295))) 32)))))), (12, .c (.d (.int .u64 (bitsOp .and .u64 (IntKind.u64.wrap ((IntKind.u64.wrap ((shrOp .u64 p0 32) * (bitsOp .and .u64 p1 4294967295))) + (shrOp .u64 (IntKind.u64.wrap ((bitsOp .and .u64 p0 4294967295) * (bitsOp .and .u64 p1 4294967295))) 32))) 4294967295))))], []⟩) (c := True ∧ True ∧ True ∧ True) (by kernel_rfl) ⟨trivial, trivial, trivial, trivial⟩ ?_
  refine At.done rfl ?_
  show Tri _ _ _ _
  refine Tri.seqS ?_
  refine Tri.reg ?_
  refine At.seg 3 [0, 1, 6, 7, 9, 12, 13] [] (s' := ⟨[(0, .c (.d (.int .u64 p0))), (1, .c (.d (.int .u64 p1))), (6, .c (.d (.int .u64 (bitsOp .and .u64 p0 4294967295)))), (7, .c (.d (.int .u64 (shrOp .u64 p0 32)))), (9, .c (.d (.int .u64 (shrOp .u64 p1 32)))), (12, .c (.d (.int .u64 (bitsOp .and .u64 (IntKind.u64.wrap ((IntKind.u64.wrap ((shrOp .u64 p0 32) * (bitsOp .and .u64 p1 4294967295))) + (shrOp .u64 (IntKind.u64.wrap ((bitsOp .and .u64 p0 4294967295) * (bitsOp .and .u64 p1 4294967295))) 32))) 4294967295)))), (13, .c (.d (.int .u64 (shrOp .u64 (IntKind.u64.wrap ((IntKind.u64.wrap ((shrOp .u64 p0 32) * (bitsOp .and .u64 p1 4294967295))) + (shrOp .u64 (IntKind.u64.wrap ((bitsOp .and .u64 p0 4294967295) * (bitsOp .and .u64 p1 4294967295))) 32))) 32))))], []⟩) (c := True ∧ ((0 : Int) ≤ 32) ∧ True ∧ True) (by kernel_rfl) ⟨trivial, (by decide : (0 : Int) ≤ 32), trivial, trivial⟩ ?_
  refine At.done rfl ?_
  show Tri _ _ _ _
  refine Tri.seqS ?_
  refine Tri.reg ?_
  refine At.seg 6 [0, 1, 7, 9, 12, 13] [] (s' := ⟨[(0, .c (.d (.int .u64 p0))), (1, .c (.d (.int .u64 p1))), (7, .c (.d (.int .u64 (shrOp .u64 p0 32)))), (9, .c (.d (.int .u64 (shrOp .u64 p1 32)))), (12, .c (.d (.int .u64 (IntKind.u64.wrap ((bitsOp .and .u64 (IntKind.u64.wrap ((IntKind.u64.wrap ((shrOp .u64 p0 32) * (bitsOp .and .u64 p1 4294967295))) + (shrOp .u64 (IntKind.u64.wrap ((bitsOp .and .u64 p0 4294967295) * (bitsOp .and .u64 p1 4294967295))) 32))) 4294967295) + (IntKind.u64.wrap ((bitsOp .and .u64 p0 4294967295) * (shrOp .u64 p1 32)))))))), (13, .c (.d (.int .u64 (shrOp .u64 (IntKind.u64.wrap ((IntKind.u64.wrap ((shrOp .u64 p0 32) * (bitsOp .and .u64 p1 4294967295))) + (shrOp .u64 (IntKind.u64.wrap ((bitsOp .and .u64 p0 4294967295) * (bitsOp .and .u64 p1 4294967295))) 32))) 32))))], []⟩) (c := True ∧ True ∧ True ∧ True ∧ True ∧ True ∧ True) (by kernel_rfl) ⟨trivial, trivial, trivial, trivial, trivial, trivial, trivial⟩ ?_
  refine At.done rfl ?_
  show Tri _ _ _ _
  refine Tri.seqS ?_
  refine Tri.reg ?_
  refine At.seg 9 [0, 1, 4] [] (s' := ⟨[(0, .c (.d (.int .u64 p0))), (1, .c (.d (.int .u64 p1))), (4, .c (.d (.int .u64 (IntKind.u64.wrap ((IntKind.u64.wrap ((IntKind.u64.wrap ((shrOp .u64 p0 32) * (shrOp .u64 p1 32))) + (shrOp .u64 (IntKind.u64.wrap ((IntKind.u64.wrap ((shrOp .u64 p0 32) * (bitsOp .and .u64 p1 4294967295))) + (shrOp .u64 (IntKind.u64.wrap ((bitsOp .and .u64 p0 4294967295) * (bitsOp .and .u64 p1 4294967295))) 32))) 32))) + (shrOp .u64 (IntKind.u64.wrap ((bitsOp .and .u64 (IntKind.u64.wrap ((IntKind.u64.wrap ((shrOp .u64 p0 32) * (bitsOp .and .u64 p1 4294967295))) + (shrOp .u64 (IntKind.u64.wrap ((bitsOp .and .u64 p0 4294967295) * (bitsOp .and .u64 p1 4294967295))) 32))) 4294967295) + (IntKind.u64.wrap ((bitsOp .and .u64 p0 4294967295) * (shrOp .u64 p1 32))))) 32))))))], []⟩) (c := True ∧ True ∧ True ∧ True ∧ True ∧ True ∧ ((0 : Int) ≤ 32) ∧ True ∧ True ∧ True) (by kernel_rfl) ⟨trivial, trivial, trivial, trivial, trivial, trivial, (by decide : (0 : Int) ≤ 32), trivial, trivial, trivial⟩ ?_
  refine At.done rfl ?_
  show Tri _ _ _ _
  refine Tri.seqS ?_
  refine Tri.reg ?_
  refine At.seg 4 [4, 5] [] (s' := ⟨[(4, .c (.d (.int .u64 (IntKind.u64.wrap ((IntKind.u64.wrap ((IntKind.u64.wrap ((shrOp .u64 p0 32) * (shrOp .u64 p1 32))) + (shrOp .u64 (IntKind.u64.wrap ((IntKind.u64.wrap ((shrOp .u64 p0 32) * (bitsOp .and .u64 p1 4294967295))) + (shrOp .u64 (IntKind.u64.wrap ((bitsOp .and .u64 p0 4294967295) * (bitsOp .and .u64 p1 4294967295))) 32))) 32))) + (shrOp .u64 (IntKind.u64.wrap ((bitsOp .and .u64 (IntKind.u64.wrap ((IntKind.u64.wrap ((shrOp .u64 p0 32) * (bitsOp .and .u64 p1 4294967295))) + (shrOp .u64 (IntKind.u64.wrap ((bitsOp .and .u64 p0 4294967295) * (bitsOp .and .u64 p1 4294967295))) 32))) 4294967295) + (IntKind.u64.wrap ((bitsOp .and .u64 p0 4294967295) * (shrOp .u64 p1 32))))) 32)))))), (5, .c (.d (.int .u64 (IntKind.u64.wrap (p0 * p1)))))], []⟩) (c := True ∧ True ∧ True ∧ True ∧ True) (by kernel_rfl) ⟨trivial, trivial, trivial, trivial, trivial⟩ ?_
  refine At.done rfl ?_
  show Tri _ _ _ _
  refine Tri.keep [4, 5] [] (s' := ⟨[(4, .c (.d (.int .u64 (IntKind.u64.wrap ((IntKind.u64.wrap ((IntKind.u64.wrap ((shrOp .u64 p0 32) * (shrOp .u64 p1 32))) + (shrOp .u64 (IntKind.u64.wrap ((IntKind.u64.wrap ((shrOp .u64 p0 32) * (bitsOp .and .u64 p1 4294967295))) + (shrOp .u64 (IntKind.u64.wrap ((bitsOp .and .u64 p0 4294967295) * (bitsOp .and .u64 p1 4294967295))) 32))) 32))) + (shrOp .u64 (IntKind.u64.wrap ((bitsOp .and .u64 (IntKind.u64.wrap ((IntKind.u64.wrap ((shrOp .u64 p0 32) * (bitsOp .and .u64 p1 4294967295))) + (shrOp .u64 (IntKind.u64.wrap ((bitsOp .and .u64 p0 4294967295) * (bitsOp .and .u64 p1 4294967295))) 32))) 4294967295) + (IntKind.u64.wrap ((bitsOp .and .u64 p0 4294967295) * (shrOp .u64 p1 32))))) 32)))))), (5, .c (.d (.int .u64 (IntKind.u64.wrap (p0 * p1)))))], []⟩) (by kernel_rfl) ?_
  refine Tri.ret ?_
  cases h
  refine ⟨_, _, rfl, ⟨trivial, ⟨trivial, trivial⟩⟩, rfl, rfl, ?_⟩
  intro k c h
  cases h

set_option maxRecDepth 100000 in
theorem diff_Times_ok {p0 : Int} {p1 : Int} {q : Int × Int} (h : diff_Times p0 p1 = some q) :
    Summ Try.prog 13 [.c (.d (.int .i64 p0)), .c (.d (.int .i64 p1))] [] (.tup [(false, [.d (.int .i64 q.1)]), (false, [.d (.int .i64 q.2)])]) [] := by
  refine Summ.intro Try.func13 rfl (by kernel_rfl) (by kernel_rfl) [] rfl ?_
  rintro ⟨P, w0, G0, V, LL, lk, N, φ0, fx⟩ rfl rfl rfl rfl
  unfold diff_Times at h
  refine Tri.seqS ?_
  refine Tri.reg ?_
  refine At.seg 2 [0, 1] [] (s' := ⟨[(0, .c (.d (.int .i64 p0))), (1, .c (.d (.int .i64 p1)))], []⟩) (c := True ∧ True ∧ True) (by kernel_rfl) ⟨trivial, trivial, trivial⟩ ?_
  refine At.done rfl ?_
  show Tri _ _ _ _
  refine Tri.seqS ?_
  refine Tri.reg ?_
  refine At.seg 1 [0, 1, 10] [] (s' := ⟨[(0, .c (.d (.int .i64 p0))), (1, .c (.d (.int .i64 p1))), (10, .c (.d (.int .i64 p0)))], []⟩) (c := True ∧ True) (by kernel_rfl) ⟨trivial, trivial⟩ ?_
  obtain ⟨r1, hr1, h⟩ := bind_elim h
  refine At.callA (caps := []) (xs := [.c (.d (.int .i64 p0))]) (diff_size_ok hr1) rfl rfl rfl rfl rfl rfl (.cons (.refl _) .nil) rfl rfl ?_
  refine At.seg 1 [0, 1, 11, 12] [] (s' := ⟨[(0, .c (.d (.int .i64 p0))), (1, .c (.d (.int .i64 p1))), (11, .c (.d (.int .u64 r1))), (12, .c (.d (.int .i64 p1)))], []⟩) (c := True ∧ True) (by kernel_rfl) ⟨trivial, trivial⟩ ?_
  obtain ⟨r2, hr2, h⟩ := bind_elim h
  refine At.callA (caps := []) (xs := [.c (.d (.int .i64 p1))]) (diff_size_ok hr2) rfl rfl rfl rfl rfl rfl (.cons (.refl _) .nil) rfl rfl ?_
  obtain ⟨r3, hr3, h⟩ := bind_elim h
  refine At.callA (caps := []) (xs := [.c (.d (.int .u64 r1)), .c (.d (.int .u64 r2))]) (math_bits_Mul64_ok hr3) rfl rfl rfl rfl rfl rfl (.cons (.refl _) (.cons (.refl _) .nil)) rfl rfl ?_
  refine At.seg 5 [0, 1, 6, 7] [] (s' := ⟨[(0, .c (.d (.int .i64 p0))), (1, .c (.d (.int .i64 p1))), (6, .c (.d (.int .u64 r3.1))), (7, .c (.d (.int .u64 r3.2)))], []⟩) (c := True ∧ True ∧ True ∧ True ∧ True ∧ True) (by kernel_rfl) ⟨trivial, trivial, trivial, trivial, trivial, trivial⟩ ?_
  refine At.done rfl ?_
  show Tri _ _ _ _
  refine Tri.seqS ?_
  refine Tri.reg ?_
  refine At.seg 1 [0, 1, 6, 7, 8] [] (s' := ⟨[(0, .c (.d (.int .i64 p0))), (1, .c (.d (.int .i64 p1))), (6, .c (.d (.int .u64 r3.1))), (7, .c (.d (.int .u64 r3.2))), (8, .c (.d (.int .u64 9223372036854775808)))], []⟩) (c := True ∧ True) (by kernel_rfl) ⟨trivial, trivial⟩ ?_
  refine At.done rfl ?_
  show Tri _ _ _ _
  refine Tri.seqJ (fun (a4 : Int) => ⟨[(0, .c (.d (.int .i64 p0))), (1, .c (.d (.int .i64 p1))), (6, .c (.d (.int .u64 r3.1))), (7, .c (.d (.int .u64 r3.2))), (8, .c (.d (.int .u64 a4)))], []⟩) h (fun a4 h => ?_) (fun j5 h => ?_)
  · show Tri _ _ ⟨[(0, .c (.d (.int .i64 p0))), (1, .c (.d (.int .i64 p1))), (6, .c (.d (.int .u64 r3.1))), (7, .c (.d (.int .u64 r3.2))), (8, .c (.d (.int .u64 a4)))], []⟩ _
    refine Tri.seqS ?_
    refine Tri.seqJ (fun (a6 : Bool) => ⟨[(0, .c (.d (.int .i64 p0))), (1, .c (.d (.int .i64 p1))), (30, .c (.d (.bool a6)))], []⟩) h (fun a6 h => ?_) (fun j7 h => ?_)
    · show Tri _ _ ⟨[(0, .c (.d (.int .i64 p0))), (1, .c (.d (.int .i64 p1))), (30, .c (.d (.bool a6)))], []⟩ _
      refine Tri.condP (b := a6) rfl h (fun h => ?_) (fun h => ?_)
      · refine Tri.seqS ?_
        refine Tri.reg ?_
        refine At.seg 2 [4, 5] [] (s' := ⟨[(4, .c (.d (.int .i64 0))), (5, .c (.d (.int .i64 10)))], []⟩) (c := True ∧ True ∧ True) (by kernel_rfl) ⟨trivial, trivial, trivial⟩ ?_
        refine At.done rfl ?_
        show Tri _ _ _ _
        refine Tri.keep [4, 5] [] (s' := ⟨[(4, .c (.d (.int .i64 0))), (5, .c (.d (.int .i64 10)))], []⟩) (by kernel_rfl) ?_
        refine Tri.ret ?_
        cases h
        refine ⟨_, _, rfl, ⟨trivial, ⟨trivial, trivial⟩⟩, rfl, rfl, ?_⟩
        intro k c h
        cases h
      · refine Tri.skip ?_
        show Tri _ _ _ _
        refine Tri.seqS ?_
        refine Tri.reg ?_
        refine At.seg 5 [4, 5] [] (s' := ⟨[(4, .c (.d (.int .i64 (IntKind.i64.wrap (p0 * p1))))), (5, .c (.d (.int .i64 0)))], []⟩) (c := True ∧ True ∧ True ∧ True ∧ True ∧ True) (by kernel_rfl) ⟨trivial, trivial, trivial, trivial, trivial, trivial⟩ ?_
        refine At.done rfl ?_
        show Tri _ _ _ _
        refine Tri.keep [4, 5] [] (s' := ⟨[(4, .c (.d (.int .i64 (IntKind.i64.wrap (p0 * p1))))), (5, .c (.d (.int .i64 0)))], []⟩) (by kernel_rfl) ?_
        refine Tri.ret ?_
        cases h
        refine ⟨_, _, rfl, ⟨trivial, ⟨trivial, trivial⟩⟩, rfl, rfl, ?_⟩
        intro k c h
        cases h
    · refine Tri.reg ?_
      refine At.seg 3 [0, 1, 7, 8, 26] [] (s' := ⟨[(0, .c (.d (.int .i64 p0))), (1, .c (.d (.int .i64 p1))), (7, .c (.d (.int .u64 r3.2))), (8, .c (.d (.int .u64 a4))), (26, .c (.d (.bool (!decide (r3.1 = 0)))))], []⟩) (c := True ∧ True ∧ True ∧ True) (by kernel_rfl) ⟨trivial, trivial, trivial, trivial⟩ ?_
      refine At.case (fun b => ⟨[(0, .c (.d (.int .i64 p0))), (1, .c (.d (.int .i64 p1))), (7, .c (.d (.int .u64 r3.2))), (8, .c (.d (.int .u64 a4))), (26, .c (.d (.bool b)))], []⟩) (b := (!decide (r3.1 = 0))) h (fun h => ?_) (fun h => ?_)
      · refine At.seg 4 [0, 1, 30] [] (s' := ⟨[(0, .c (.d (.int .i64 p0))), (1, .c (.d (.int .i64 p1))), (30, .c (.d (.bool true)))], []⟩) (c := True ∧ True) (by kernel_rfl) ⟨trivial, trivial⟩ ?_
        refine At.done rfl ?_
        exact ⟨_, h, rfl⟩
      · refine At.seg 4 [0, 1, 30] [] (s' := ⟨[(0, .c (.d (.int .i64 p0))), (1, .c (.d (.int .i64 p1))), (30, .c (.d (.bool (decide (a4 < r3.2)))))], []⟩) (c := True ∧ True ∧ True ∧ True ∧ True) (by kernel_rfl) ⟨trivial, trivial, trivial, trivial, trivial⟩ ?_
        refine At.done rfl ?_
        exact ⟨_, h, rfl⟩
  · refine Tri.seqS ?_
    refine Tri.reg ?_
    refine At.seg 5 [0, 1, 6, 7, 8, 21] [] (s' := ⟨[(0, .c (.d (.int .i64 p0))), (1, .c (.d (.int .i64 p1))), (6, .c (.d (.int .u64 r3.1))), (7, .c (.d (.int .u64 r3.2))), (8, .c (.d (.int .u64 9223372036854775808))), (21, .c (.d (.bool ((decide (p0 < 0)) == (decide (p1 < 0))))))], []⟩) (c := True ∧ True ∧ True ∧ True ∧ True ∧ True) (by kernel_rfl) ⟨trivial, trivial, trivial, trivial, trivial, trivial⟩ ?_
    refine At.done rfl ?_
    show Tri _ _ _ _
    refine Tri.condP (b := ((decide (p0 < 0)) == (decide (p1 < 0)))) rfl h (fun h => ?_) (fun h => ?_)
    · refine Tri.reg ?_
      refine At.seg 3 [0, 1, 6, 7, 8] [] (s' := ⟨[(0, .c (.d (.int .i64 p0))), (1, .c (.d (.int .i64 p1))), (6, .c (.d (.int .u64 r3.1))), (7, .c (.d (.int .u64 r3.2))), (8, .c (.d (.int .u64 (IntKind.u64.wrap ((9223372036854775808 : Int) - 1)))))], []⟩) (c := True ∧ True ∧ True ∧ True) (by kernel_rfl) ⟨trivial, trivial, trivial, trivial⟩ ?_
      refine At.done rfl ?_
      exact ⟨_, h, rfl⟩
    · refine Tri.keep [0, 1, 6, 7, 8] [] (s' := ⟨[(0, .c (.d (.int .i64 p0))), (1, .c (.d (.int .i64 p1))), (6, .c (.d (.int .u64 r3.1))), (7, .c (.d (.int .u64 r3.2))), (8, .c (.d (.int .u64 9223372036854775808)))], []⟩) (by kernel_rfl) ?_
      refine Tri.skip ?_
      exact ⟨_, h, rfl⟩

set_option maxRecDepth 100000 in
theorem freshetref05_Times_ok {p0 : Int} {p1 : Int} {q : Int × Int} (h : freshetref05_Times p0 p1 = some q) :
    Summ Try.prog 14 [.c (.d (.int .i64 p0)), .c (.d (.int .i64 p1))] [] (.tup [(false, [.d (.int .i64 q.1)]), (false, [.d (.int .i64 q.2)])]) [] := by
  refine Summ.intro Try.func14 rfl (by kernel_rfl) (by kernel_rfl) [] rfl ?_
  rintro ⟨P, w0, G0, V, LL, lk, N, φ0, fx⟩ rfl rfl rfl rfl
  unfold freshetref05_Times at h
  refine Tri.seqS ?_
  refine Tri.reg ?_
  refine At.seg 2 [0, 1] [] (s' := ⟨[(0, .c (.d (.int .i64 p0))), (1, .c (.d (.int .i64 p1)))], []⟩) (c := True ∧ True ∧ True) (by kernel_rfl) ⟨trivial, trivial, trivial⟩ ?_
  refine At.done rfl ?_
  show Tri _ _ _ _
  refine Tri.seqS ?_
  refine Tri.seqJ (fun (a1 : Bool) => ⟨[(0, .c (.d (.int .i64 p0))), (1, .c (.d (.int .i64 p1))), (12, .c (.d (.bool a1)))], []⟩) h (fun a1 h => ?_) (fun j2 h => ?_)
  · show Tri _ _ ⟨[(0, .c (.d (.int .i64 p0))), (1, .c (.d (.int .i64 p1))), (12, .c (.d (.bool a1)))], []⟩ _
    refine Tri.condP (b := a1) rfl h (fun h => ?_) (fun h => ?_)
    · refine Tri.seqS ?_
      refine Tri.reg ?_
      refine At.seg 2 [4, 5] [] (s' := ⟨[(4, .c (.d (.int .i64 0))), (5, .c (.d (.int .i64 0)))], []⟩) (c := True ∧ True ∧ True) (by kernel_rfl) ⟨trivial, trivial, trivial⟩ ?_
      refine At.done rfl ?_
      show Tri _ _ _ _
      refine Tri.keep [4, 5] [] (s' := ⟨[(4, .c (.d (.int .i64 0))), (5, .c (.d (.int .i64 0)))], []⟩) (by kernel_rfl) ?_
      refine Tri.ret ?_
      cases h
      refine ⟨_, _, rfl, ⟨trivial, ⟨trivial, trivial⟩⟩, rfl, rfl, ?_⟩
      intro k c h
      cases h
    · refine Tri.skip ?_
      show Tri _ _ _ _
      refine Tri.seqS ?_
      refine Tri.reg ?_
      refine At.seg 4 [0, 1, 6] [] (s' := ⟨[(0, .c (.d (.int .i64 p0))), (1, .c (.d (.int .i64 p1))), (6, .c (.d (.int .i64 (IntKind.i64.wrap (p0 * p1)))))], []⟩) (c := True ∧ True ∧ True ∧ True ∧ True) (by kernel_rfl) ⟨trivial, trivial, trivial, trivial, trivial⟩ ?_
      refine At.done rfl ?_
      show Tri _ _ _ _
      refine Tri.seqS ?_
      refine Tri.seqJ (fun (a3 : Bool) => ⟨[(6, .c (.d (.int .i64 (IntKind.i64.wrap (p0 * p1))))), (63, .c (.d (.bool a3)))], []⟩) h (fun a3 h => ?_) (fun j4 h => ?_)
      · show Tri _ _ ⟨[(6, .c (.d (.int .i64 (IntKind.i64.wrap (p0 * p1))))), (63, .c (.d (.bool a3)))], []⟩ _
        refine Tri.condP (b := a3) rfl h (fun h => ?_) (fun h => ?_)
        · refine Tri.seqS ?_
          refine Tri.reg ?_
          refine At.seg 2 [4, 5] [] (s' := ⟨[(4, .c (.d (.int .i64 0))), (5, .c (.d (.int .i64 10)))], []⟩) (c := True ∧ True ∧ True) (by kernel_rfl) ⟨trivial, trivial, trivial⟩ ?_
          refine At.done rfl ?_
          show Tri _ _ _ _
          refine Tri.keep [4, 5] [] (s' := ⟨[(4, .c (.d (.int .i64 0))), (5, .c (.d (.int .i64 10)))], []⟩) (by kernel_rfl) ?_
          refine Tri.ret ?_
          cases h
          refine ⟨_, _, rfl, ⟨trivial, ⟨trivial, trivial⟩⟩, rfl, rfl, ?_⟩
          intro k c h
          cases h
        · refine Tri.skip ?_
          show Tri _ _ _ _
          refine Tri.seqS ?_
          refine Tri.reg ?_
          refine At.seg 3 [4, 5] [] (s' := ⟨[(4, .c (.d (.int .i64 (IntKind.i64.wrap (p0 * p1))))), (5, .c (.d (.int .i64 0)))], []⟩) (c := True ∧ True ∧ True ∧ True) (by kernel_rfl) ⟨trivial, trivial, trivial, trivial⟩ ?_
          refine At.done rfl ?_
          show Tri _ _ _ _
          refine Tri.keep [4, 5] [] (s' := ⟨[(4, .c (.d (.int .i64 (IntKind.i64.wrap (p0 * p1))))), (5, .c (.d (.int .i64 0)))], []⟩) (by kernel_rfl) ?_
          refine Tri.ret ?_
          cases h
          refine ⟨_, _, rfl, ⟨trivial, ⟨trivial, trivial⟩⟩, rfl, rfl, ?_⟩
          intro k c h
          cases h
      · refine Tri.reg ?_
        refine At.seg 3 [0, 1, 6, 18] [] (s' := ⟨[(0, .c (.d (.int .i64 p0))), (1, .c (.d (.int .i64 p1))), (6, .c (.d (.int .i64 (IntKind.i64.wrap (p0 * p1))))), (18, .c (.d (.bool (decide (p0 = (-1))))))], []⟩) (c := True ∧ True ∧ True ∧ True) (by kernel_rfl) ⟨trivial, trivial, trivial, trivial⟩ ?_
        refine At.case (fun b => ⟨[(0, .c (.d (.int .i64 p0))), (1, .c (.d (.int .i64 p1))), (6, .c (.d (.int .i64 (IntKind.i64.wrap (p0 * p1))))), (18, .c (.d (.bool b)))], []⟩) (b := (decide (p0 = (-1)))) h (fun h => ?_) (fun h => ?_)
        · refine At.seg 5 [0, 1, 6, 23] [] (s' := ⟨[(0, .c (.d (.int .i64 p0))), (1, .c (.d (.int .i64 p1))), (6, .c (.d (.int .i64 (IntKind.i64.wrap (p0 * p1))))), (23, .c (.d (.bool (decide (p1 = (IntKind.i64.wrap (p0 * p1)))))))], []⟩) (c := True ∧ True ∧ True ∧ True ∧ True ∧ True) (by kernel_rfl) ⟨trivial, trivial, trivial, trivial, trivial, trivial⟩ ?_
          refine At.case (fun b => ⟨[(0, .c (.d (.int .i64 p0))), (1, .c (.d (.int .i64 p1))), (6, .c (.d (.int .i64 (IntKind.i64.wrap (p0 * p1))))), (23, .c (.d (.bool b)))], []⟩) (b := (decide (p1 = (IntKind.i64.wrap (p0 * p1))))) h (fun h => ?_) (fun h => ?_)
          · refine At.seg 4 [0, 1, 6, 27] [] (s' := ⟨[(0, .c (.d (.int .i64 p0))), (1, .c (.d (.int .i64 p1))), (6, .c (.d (.int .i64 (IntKind.i64.wrap (p0 * p1))))), (27, .c (.d (.bool (decide (p1 < 0)))))], []⟩) (c := True ∧ True ∧ True ∧ True ∧ True) (by kernel_rfl) ⟨trivial, trivial, trivial, trivial, trivial⟩ ?_
            refine At.case (fun b => ⟨[(0, .c (.d (.int .i64 p0))), (1, .c (.d (.int .i64 p1))), (6, .c (.d (.int .i64 (IntKind.i64.wrap (p0 * p1))))), (27, .c (.d (.bool b)))], []⟩) (b := (decide (p1 < 0))) h (fun h => ?_) (fun h => ?_)
            · refine At.seg 5 [0, 1, 6, 32] [] (s' := ⟨[(0, .c (.d (.int .i64 p0))), (1, .c (.d (.int .i64 p1))), (6, .c (.d (.int .i64 (IntKind.i64.wrap (p0 * p1))))), (32, .c (.d (.bool (decide (0 < (IntKind.i64.wrap (p1 - 1)))))))], []⟩) (c := True ∧ True ∧ True ∧ True ∧ True ∧ True) (by kernel_rfl) ⟨trivial, trivial, trivial, trivial, trivial, trivial⟩ ?_
              refine At.case (fun b => ⟨[(0, .c (.d (.int .i64 p0))), (1, .c (.d (.int .i64 p1))), (6, .c (.d (.int .i64 (IntKind.i64.wrap (p0 * p1))))), (32, .c (.d (.bool b)))], []⟩) (b := (decide (0 < (IntKind.i64.wrap (p1 - 1))))) h (fun h => ?_) (fun h => ?_)
              · refine At.seg 31 [6, 63] [] (s' := ⟨[(6, .c (.d (.int .i64 (IntKind.i64.wrap (p0 * p1))))), (63, .c (.d (.bool true)))], []⟩) (c := True ∧ True ∧ True ∧ True ∧ True ∧ True) (by kernel_rfl) ⟨trivial, trivial, trivial, trivial, trivial, trivial⟩ ?_
                refine At.done rfl ?_
                exact ⟨_, h, rfl⟩
              · refine At.seg 3 [0, 1, 6, 32, 35] [] (s' := ⟨[(0, .c (.d (.int .i64 p0))), (1, .c (.d (.int .i64 p1))), (6, .c (.d (.int .i64 (IntKind.i64.wrap (p0 * p1))))), (32, .c (.d (.bool false))), (35, .c (.d (.bool (decide (p1 = (-1))))))], []⟩) (c := True ∧ True ∧ True ∧ True) (by kernel_rfl) ⟨trivial, trivial, trivial, trivial⟩ ?_
                refine At.case (fun b => ⟨[(0, .c (.d (.int .i64 p0))), (1, .c (.d (.int .i64 p1))), (6, .c (.d (.int .i64 (IntKind.i64.wrap (p0 * p1))))), (32, .c (.d (.bool false))), (35, .c (.d (.bool b)))], []⟩) (b := (decide (p1 = (-1)))) h (fun h => ?_) (fun h => ?_)
                · refine At.seg 5 [0, 1, 6, 32, 40] [] (s' := ⟨[(0, .c (.d (.int .i64 p0))), (1, .c (.d (.int .i64 p1))), (6, .c (.d (.int .i64 (IntKind.i64.wrap (p0 * p1))))), (32, .c (.d (.bool false))), (40, .c (.d (.bool (decide (p0 = (IntKind.i64.wrap (p0 * p1)))))))], []⟩) (c := True ∧ True ∧ True ∧ True ∧ True ∧ True) (by kernel_rfl) ⟨trivial, trivial, trivial, trivial, trivial, trivial⟩ ?_
                  refine At.case (fun b => ⟨[(0, .c (.d (.int .i64 p0))), (1, .c (.d (.int .i64 p1))), (6, .c (.d (.int .i64 (IntKind.i64.wrap (p0 * p1))))), (32, .c (.d (.bool false))), (40, .c (.d (.bool b)))], []⟩) (b := (decide (p0 = (IntKind.i64.wrap (p0 * p1))))) h (fun h => ?_) (fun h => ?_)
                  · refine At.seg 4 [0, 1, 6, 32, 44] [] (s' := ⟨[(0, .c (.d (.int .i64 p0))), (1, .c (.d (.int .i64 p1))), (6, .c (.d (.int .i64 (IntKind.i64.wrap (p0 * p1))))), (32, .c (.d (.bool false))), (44, .c (.d (.bool (decide (p0 < 0)))))], []⟩) (c := True ∧ True ∧ True ∧ True ∧ True) (by kernel_rfl) ⟨trivial, trivial, trivial, trivial, trivial⟩ ?_
                    refine At.case (fun b => ⟨[(0, .c (.d (.int .i64 p0))), (1, .c (.d (.int .i64 p1))), (6, .c (.d (.int .i64 (IntKind.i64.wrap (p0 * p1))))), (32, .c (.d (.bool false))), (44, .c (.d (.bool b)))], []⟩) (b := (decide (p0 < 0))) h (fun h => ?_) (fun h => ?_)
                    · refine At.seg 6 [0, 1, 6, 50] [] (s' := ⟨[(0, .c (.d (.int .i64 p0))), (1, .c (.d (.int .i64 p1))), (6, .c (.d (.int .i64 (IntKind.i64.wrap (p0 * p1))))), (50, .c (.d (.bool (decide (0 < (IntKind.i64.wrap (p0 - 1)))))))], []⟩) (c := True ∧ True ∧ True ∧ True ∧ True ∧ True ∧ True) (by kernel_rfl) ⟨trivial, trivial, trivial, trivial, trivial, trivial, trivial⟩ ?_
                      refine At.case (fun b => ⟨[(0, .c (.d (.int .i64 p0))), (1, .c (.d (.int .i64 p1))), (6, .c (.d (.int .i64 (IntKind.i64.wrap (p0 * p1))))), (50, .c (.d (.bool b)))], []⟩) (b := (decide (0 < (IntKind.i64.wrap (p0 - 1))))) h (fun h => ?_) (fun h => ?_)
                      · refine At.seg 13 [6, 63] [] (s' := ⟨[(6, .c (.d (.int .i64 (IntKind.i64.wrap (p0 * p1))))), (63, .c (.d (.bool true)))], []⟩) (c := True ∧ True ∧ True ∧ True) (by kernel_rfl) ⟨trivial, trivial, trivial, trivial⟩ ?_
                        refine At.done rfl ?_
                        exact ⟨_, h, rfl⟩
                      · obtain ⟨hc5, h⟩ := need_elim h
                        refine At.seg 7 [0, 1, 6, 57] [] (s' := ⟨[(0, .c (.d (.int .i64 p0))), (1, .c (.d (.int .i64 p1))), (6, .c (.d (.int .i64 (IntKind.i64.wrap (p0 * p1))))), (57, .c (.d (.bool (!decide ((IntKind.i64.wrap ((IntKind.i64.wrap (p0 * p1)).tdiv p1)) = p0)))))], []⟩) (c := True ∧ True ∧ (p1 ≠ 0) ∧ True ∧ True ∧ True ∧ True ∧ True) (by kernel_rfl) ⟨trivial, trivial, hc5, trivial, trivial, trivial, trivial, trivial⟩ ?_
                        refine At.case (fun b => ⟨[(0, .c (.d (.int .i64 p0))), (1, .c (.d (.int .i64 p1))), (6, .c (.d (.int .i64 (IntKind.i64.wrap (p0 * p1))))), (57, .c (.d (.bool b)))], []⟩) (b := (!decide ((IntKind.i64.wrap ((IntKind.i64.wrap (p0 * p1)).tdiv p1)) = p0))) h (fun h => ?_) (fun h => ?_)
                        · refine At.seg 6 [6, 63] [] (s' := ⟨[(6, .c (.d (.int .i64 (IntKind.i64.wrap (p0 * p1))))), (63, .c (.d (.bool true)))], []⟩) (c := True ∧ True) (by kernel_rfl) ⟨trivial, trivial⟩ ?_
                          refine At.done rfl ?_
                          exact ⟨_, h, rfl⟩
                        · obtain ⟨hc6, h⟩ := need_elim h
                          refine At.seg 6 [6, 63] [] (s' := ⟨[(6, .c (.d (.int .i64 (IntKind.i64.wrap (p0 * p1))))), (63, .c (.d (.bool (!decide ((IntKind.i64.wrap ((IntKind.i64.wrap (p0 * p1)).tdiv p0)) = p1)))))], []⟩) (c := True ∧ True ∧ (p0 ≠ 0) ∧ True ∧ True ∧ True ∧ True) (by kernel_rfl) ⟨trivial, trivial, hc6, trivial, trivial, trivial, trivial⟩ ?_
                          refine At.done rfl ?_
                          exact ⟨_, h, rfl⟩
                    · obtain ⟨hc7, h⟩ := need_elim h
                      refine At.seg 13 [0, 1, 6, 57] [] (s' := ⟨[(0, .c (.d (.int .i64 p0))), (1, .c (.d (.int .i64 p1))), (6, .c (.d (.int .i64 (IntKind.i64.wrap (p0 * p1))))), (57, .c (.d (.bool (!decide ((IntKind.i64.wrap ((IntKind.i64.wrap (p0 * p1)).tdiv p1)) = p0)))))], []⟩) (c := True ∧ True ∧ True ∧ True ∧ True ∧ (p1 ≠ 0) ∧ True ∧ True ∧ True ∧ True ∧ True) (by kernel_rfl) ⟨trivial, trivial, trivial, trivial, trivial, hc7, trivial, trivial, trivial, trivial, trivial⟩ ?_
                      refine At.case (fun b => ⟨[(0, .c (.d (.int .i64 p0))), (1, .c (.d (.int .i64 p1))), (6, .c (.d (.int .i64 (IntKind.i64.wrap (p0 * p1))))), (57, .c (.d (.bool b)))], []⟩) (b := (!decide ((IntKind.i64.wrap ((IntKind.i64.wrap (p0 * p1)).tdiv p1)) = p0))) h (fun h => ?_) (fun h => ?_)
                      · refine At.seg 6 [6, 63] [] (s' := ⟨[(6, .c (.d (.int .i64 (IntKind.i64.wrap (p0 * p1))))), (63, .c (.d (.bool true)))], []⟩) (c := True ∧ True) (by kernel_rfl) ⟨trivial, trivial⟩ ?_
                        refine At.done rfl ?_
                        exact ⟨_, h, rfl⟩
                      · obtain ⟨hc8, h⟩ := need_elim h
                        refine At.seg 6 [6, 63] [] (s' := ⟨[(6, .c (.d (.int .i64 (IntKind.i64.wrap (p0 * p1))))), (63, .c (.d (.bool (!decide ((IntKind.i64.wrap ((IntKind.i64.wrap (p0 * p1)).tdiv p0)) = p1)))))], []⟩) (c := True ∧ True ∧ (p0 ≠ 0) ∧ True ∧ True ∧ True ∧ True) (by kernel_rfl) ⟨trivial, trivial, hc8, trivial, trivial, trivial, trivial⟩ ?_
                        refine At.done rfl ?_
                        exact ⟨_, h, rfl⟩
                  · obtain ⟨hc9, h⟩ := need_elim h
                    refine At.seg 17 [0, 1, 6, 57] [] (s' := ⟨[(0, .c (.d (.int .i64 p0))), (1, .c (.d (.int .i64 p1))), (6, .c (.d (.int .i64 (IntKind.i64.wrap (p0 * p1))))), (57, .c (.d (.bool (!decide ((IntKind.i64.wrap ((IntKind.i64.wrap (p0 * p1)).tdiv p1)) = p0)))))], []⟩) (c := True ∧ True ∧ True ∧ True ∧ True ∧ True ∧ True ∧ (p1 ≠ 0) ∧ True ∧ True ∧ True ∧ True ∧ True) (by kernel_rfl) ⟨trivial, trivial, trivial, trivial, trivial, trivial, trivial, hc9, trivial, trivial, trivial, trivial, trivial⟩ ?_
                    refine At.case (fun b => ⟨[(0, .c (.d (.int .i64 p0))), (1, .c (.d (.int .i64 p1))), (6, .c (.d (.int .i64 (IntKind.i64.wrap (p0 * p1))))), (57, .c (.d (.bool b)))], []⟩) (b := (!decide ((IntKind.i64.wrap ((IntKind.i64.wrap (p0 * p1)).tdiv p1)) = p0))) h (fun h => ?_) (fun h => ?_)
                    · refine At.seg 6 [6, 63] [] (s' := ⟨[(6, .c (.d (.int .i64 (IntKind.i64.wrap (p0 * p1))))), (63, .c (.d (.bool true)))], []⟩) (c := True ∧ True) (by kernel_rfl) ⟨trivial, trivial⟩ ?_
                      refine At.done rfl ?_
                      exact ⟨_, h, rfl⟩
                    · obtain ⟨hc10, h⟩ := need_elim h
                      refine At.seg 6 [6, 63] [] (s' := ⟨[(6, .c (.d (.int .i64 (IntKind.i64.wrap (p0 * p1))))), (63, .c (.d (.bool (!decide ((IntKind.i64.wrap ((IntKind.i64.wrap (p0 * p1)).tdiv p0)) = p1)))))], []⟩) (c := True ∧ True ∧ (p0 ≠ 0) ∧ True ∧ True ∧ True ∧ True) (by kernel_rfl) ⟨trivial, trivial, hc10, trivial, trivial, trivial, trivial⟩ ?_
                      refine At.done rfl ?_
                      exact ⟨_, h, rfl⟩
                · obtain ⟨hc11, h⟩ := need_elim h
                  refine At.seg 22 [0, 1, 6, 57] [] (s' := ⟨[(0, .c (.d (.int .i64 p0))), (1, .c (.d (.int .i64 p1))), (6, .c (.d (.int .i64 (IntKind.i64.wrap (p0 * p1))))), (57, .c (.d (.bool (!decide ((IntKind.i64.wrap ((IntKind.i64.wrap (p0 * p1)).tdiv p1)) = p0)))))], []⟩) (c := True ∧ True ∧ True ∧ True ∧ True ∧ True ∧ True ∧ True ∧ True ∧ (p1 ≠ 0) ∧ True ∧ True ∧ True ∧ True ∧ True) (by kernel_rfl) ⟨trivial, trivial, trivial, trivial, trivial, trivial, trivial, trivial, trivial, hc11, trivial, trivial, trivial, trivial, trivial⟩ ?_
                  refine At.case (fun b => ⟨[(0, .c (.d (.int .i64 p0))), (1, .c (.d (.int .i64 p1))), (6, .c (.d (.int .i64 (IntKind.i64.wrap (p0 * p1))))), (57, .c (.d (.bool b)))], []⟩) (b := (!decide ((IntKind.i64.wrap ((IntKind.i64.wrap (p0 * p1)).tdiv p1)) = p0))) h (fun h => ?_) (fun h => ?_)
                  · refine At.seg 6 [6, 63] [] (s' := ⟨[(6, .c (.d (.int .i64 (IntKind.i64.wrap (p0 * p1))))), (63, .c (.d (.bool true)))], []⟩) (c := True ∧ True) (by kernel_rfl) ⟨trivial, trivial⟩ ?_
                    refine At.done rfl ?_
                    exact ⟨_, h, rfl⟩
                  · obtain ⟨hc12, h⟩ := need_elim h
                    refine At.seg 6 [6, 63] [] (s' := ⟨[(6, .c (.d (.int .i64 (IntKind.i64.wrap (p0 * p1))))), (63, .c (.d (.bool (!decide ((IntKind.i64.wrap ((IntKind.i64.wrap (p0 * p1)).tdiv p0)) = p1)))))], []⟩) (c := True ∧ True ∧ (p0 ≠ 0) ∧ True ∧ True ∧ True ∧ True) (by kernel_rfl) ⟨trivial, trivial, hc12, trivial, trivial, trivial, trivial⟩ ?_
                    refine At.done rfl ?_
                    exact ⟨_, h, rfl⟩
            · refine At.seg 8 [0, 1, 6, 32, 35] [] (s' := ⟨[(0, .c (.d (.int .i64 p0))), (1, .c (.d (.int .i64 p1))), (6, .c (.d (.int .i64 (IntKind.i64.wrap (p0 * p1))))), (32, .c (.d (.bool false))), (35, .c (.d (.bool (decide (p1 = (-1))))))], []⟩) (c := True ∧ True ∧ True ∧ True ∧ True ∧ True) (by kernel_rfl) ⟨trivial, trivial, trivial, trivial, trivial, trivial⟩ ?_
              refine At.case (fun b => ⟨[(0, .c (.d (.int .i64 p0))), (1, .c (.d (.int .i64 p1))), (6, .c (.d (.int .i64 (IntKind.i64.wrap (p0 * p1))))), (32, .c (.d (.bool false))), (35, .c (.d (.bool b)))], []⟩) (b := (decide (p1 = (-1)))) h (fun h => ?_) (fun h => ?_)
              · refine At.seg 5 [0, 1, 6, 32, 40] [] (s' := ⟨[(0, .c (.d (.int .i64 p0))), (1, .c (.d (.int .i64 p1))), (6, .c (.d (.int .i64 (IntKind.i64.wrap (p0 * p1))))), (32, .c (.d (.bool false))), (40, .c (.d (.bool (decide (p0 = (IntKind.i64.wrap (p0 * p1)))))))], []⟩) (c := True ∧ True ∧ True ∧ True ∧ True ∧ True) (by kernel_rfl) ⟨trivial, trivial, trivial, trivial, trivial, trivial⟩ ?_
                refine At.case (fun b => ⟨[(0, .c (.d (.int .i64 p0))), (1, .c (.d (.int .i64 p1))), (6, .c (.d (.int .i64 (IntKind.i64.wrap (p0 * p1))))), (32, .c (.d (.bool false))), (40, .c (.d (.bool b)))], []⟩) (b := (decide (p0 = (IntKind.i64.wrap (p0 * p1))))) h (fun h => ?_) (fun h => ?_)
                · refine At.seg 4 [0, 1, 6, 32, 44] [] (s' := ⟨[(0, .c (.d (.int .i64 p0))), (1, .c (.d (.int .i64 p1))), (6, .c (.d (.int .i64 (IntKind.i64.wrap (p0 * p1))))), (32, .c (.d (.bool false))), (44, .c (.d (.bool (decide (p0 < 0)))))], []⟩) (c := True ∧ True ∧ True ∧ True ∧ True) (by kernel_rfl) ⟨trivial, trivial, trivial, trivial, trivial⟩ ?_
                  refine At.case (fun b => ⟨[(0, .c (.d (.int .i64 p0))), (1, .c (.d (.int .i64 p1))), (6, .c (.d (.int .i64 (IntKind.i64.wrap (p0 * p1))))), (32, .c (.d (.bool false))), (44, .c (.d (.bool b)))], []⟩) (b := (decide (p0 < 0))) h (fun h => ?_) (fun h => ?_)
                  · refine At.seg 6 [0, 1, 6, 50] [] (s' := ⟨[(0, .c (.d (.int .i64 p0))), (1, .c (.d (.int .i64 p1))), (6, .c (.d (.int .i64 (IntKind.i64.wrap (p0 * p1))))), (50, .c (.d (.bool (decide (0 < (IntKind.i64.wrap (p0 - 1)))))))], []⟩) (c := True ∧ True ∧ True ∧ True ∧ True ∧ True ∧ True) (by kernel_rfl) ⟨trivial, trivial, trivial, trivial, trivial, trivial, trivial⟩ ?_
                    refine At.case (fun b => ⟨[(0, .c (.d (.int .i64 p0))), (1, .c (.d (.int .i64 p1))), (6, .c (.d (.int .i64 (IntKind.i64.wrap (p0 * p1))))), (50, .c (.d (.bool b)))], []⟩) (b := (decide (0 < (IntKind.i64.wrap (p0 - 1))))) h (fun h => ?_) (fun h => ?_)
                    · refine At.seg 13 [6, 63] [] (s' := ⟨[(6, .c (.d (.int .i64 (IntKind.i64.wrap (p0 * p1))))), (63, .c (.d (.bool true)))], []⟩) (c := True ∧ True ∧ True ∧ True) (by kernel_rfl) ⟨trivial, trivial, trivial, trivial⟩ ?_
                      refine At.done rfl ?_
                      exact ⟨_, h, rfl⟩
                    · obtain ⟨hc13, h⟩ := need_elim h
                      refine At.seg 7 [0, 1, 6, 57] [] (s' := ⟨[(0, .c (.d (.int .i64 p0))), (1, .c (.d (.int .i64 p1))), (6, .c (.d (.int .i64 (IntKind.i64.wrap (p0 * p1))))), (57, .c (.d (.bool (!decide ((IntKind.i64.wrap ((IntKind.i64.wrap (p0 * p1)).tdiv p1)) = p0)))))], []⟩) (c := True ∧ True ∧ (p1 ≠ 0) ∧ True ∧ True ∧ True ∧ True ∧ True) (by kernel_rfl) ⟨trivial, trivial, hc13, trivial, trivial, trivial, trivial, trivial⟩ ?_
                      refine At.case (fun b => ⟨[(0, .c (.d (.int .i64 p0))), (1, .c (.d (.int .i64 p1))), (6, .c (.d (.int .i64 (IntKind.i64.wrap (p0 * p1))))), (57, .c (.d (.bool b)))], []⟩) (b := (!decide ((IntKind.i64.wrap ((IntKind.i64.wrap (p0 * p1)).tdiv p1)) = p0))) h (fun h => ?_) (fun h => ?_)
                      · refine At.seg 6 [6, 63] [] (s' := ⟨[(6, .c (.d (.int .i64 (IntKind.i64.wrap (p0 * p1))))), (63, .c (.d (.bool true)))], []⟩) (c := True ∧ True) (by kernel_rfl) ⟨trivial, trivial⟩ ?_
                        refine At.done rfl ?_
                        exact ⟨_, h, rfl⟩
                      · obtain ⟨hc14, h⟩ := need_elim h
                        refine At.seg 6 [6, 63] [] (s' := ⟨[(6, .c (.d (.int .i64 (IntKind.i64.wrap (p0 * p1))))), (63, .c (.d (.bool (!decide ((IntKind.i64.wrap ((IntKind.i64.wrap (p0 * p1)).tdiv p0)) = p1)))))], []⟩) (c := True ∧ True ∧ (p0 ≠ 0) ∧ True ∧ True ∧ True ∧ True) (by kernel_rfl) ⟨trivial, trivial, hc14, trivial, trivial, trivial, trivial⟩ ?_
                        refine At.done rfl ?_
                        exact ⟨_, h, rfl⟩
                  · obtain ⟨hc15, h⟩ := need_elim h
                    refine At.seg 13 [0, 1, 6, 57] [] (s' := ⟨[(0, .c (.d (.int .i64 p0))), (1, .c (.d (.int .i64 p1))), (6, .c (.d (.int .i64 (IntKind.i64.wrap (p0 * p1))))), (57, .c (.d (.bool (!decide ((IntKind.i64.wrap ((IntKind.i64.wrap (p0 * p1)).tdiv p1)) = p0)))))], []⟩) (c := True ∧ True ∧ True ∧ True ∧ True ∧ (p1 ≠ 0) ∧ True ∧ True ∧ True ∧ True ∧ True) (by kernel_rfl) ⟨trivial, trivial, trivial, trivial, trivial, hc15, trivial, trivial, trivial, trivial, trivial⟩ ?_
                    refine At.case (fun b => ⟨[(0, .c (.d (.int .i64 p0))), (1, .c (.d (.int .i64 p1))), (6, .c (.d (.int .i64 (IntKind.i64.wrap (p0 * p1))))), (57, .c (.d (.bool b)))], []⟩) (b := (!decide ((IntKind.i64.wrap ((IntKind.i64.wrap (p0 * p1)).tdiv p1)) = p0))) h (fun h => ?_) (fun h => ?_)
                    · refine At.seg 6 [6, 63] [] (s' := ⟨[(6, .c (.d (.int .i64 (IntKind.i64.wrap (p0 * p1))))), (63, .c (.d (.bool true)))], []⟩) (c := True ∧ True) (by kernel_rfl) ⟨trivial, trivial⟩ ?_
                      refine At.done rfl ?_
                      exact ⟨_, h, rfl⟩
                    · obtain ⟨hc16, h⟩ := need_elim h
                      refine At.seg 6 [6, 63] [] (s' := ⟨[(6, .c (.d (.int .i64 (IntKind.i64.wrap (p0 * p1))))), (63, .c (.d (.bool (!decide ((IntKind.i64.wrap ((IntKind.i64.wrap (p0 * p1)).tdiv p0)) = p1)))))], []⟩) (c := True ∧ True ∧ (p0 ≠ 0) ∧ True ∧ True ∧ True ∧ True) (by kernel_rfl) ⟨trivial, trivial, hc16, trivial, trivial, trivial, trivial⟩ ?_
                      refine At.done rfl ?_
                      exact ⟨_, h, rfl⟩
                · obtain ⟨hc17, h⟩ := need_elim h
                  refine At.seg 17 [0, 1, 6, 57] [] (s' := ⟨[(0, .c (.d (.int .i64 p0))), (1, .c (.d (.int .i64 p1))), (6, .c (.d (.int .i64 (IntKind.i64.wrap (p0 * p1))))), (57, .c (.d (.bool (!decide ((IntKind.i64.wrap ((IntKind.i64.wrap (p0 * p1)).tdiv p1)) = p0)))))], []⟩) (c := True ∧ True ∧ True ∧ True ∧ True ∧ True ∧ True ∧ (p1 ≠ 0) ∧ True ∧ True ∧ True ∧ True ∧ True) (by kernel_rfl) ⟨trivial, trivial, trivial, trivial, trivial, trivial, trivial, hc17, trivial, trivial, trivial, trivial, trivial⟩ ?_
                  refine At.case (fun b => ⟨[(0, .c (.d (.int .i64 p0))), (1, .c (.d (.int .i64 p1))), (6, .c (.d (.int .i64 (IntKind.i64.wrap (p0 * p1))))), (57, .c (.d (.bool b)))], []⟩) (b := (!decide ((IntKind.i64.wrap ((IntKind.i64.wrap (p0 * p1)).tdiv p1)) = p0))) h (fun h => ?_) (fun h => ?_)
                  · refine At.seg 6 [6, 63] [] (s' := ⟨[(6, .c (.d (.int .i64 (IntKind.i64.wrap (p0 * p1))))), (63, .c (.d (.bool true)))], []⟩) (c := True ∧ True) (by kernel_rfl) ⟨trivial, trivial⟩ ?_
                    refine At.done rfl ?_
                    exact ⟨_, h, rfl⟩
                  · obtain ⟨hc18, h⟩ := need_elim h
                    refine At.seg 6 [6, 63] [] (s' := ⟨[(6, .c (.d (.int .i64 (IntKind.i64.wrap (p0 * p1))))), (63, .c (.d (.bool (!decide ((IntKind.i64.wrap ((IntKind.i64.wrap (p0 * p1)).tdiv p0)) = p1)))))], []⟩) (c := True ∧ True ∧ (p0 ≠ 0) ∧ True ∧ True ∧ True ∧ True) (by kernel_rfl) ⟨trivial, trivial, hc18, trivial, trivial, trivial, trivial⟩ ?_
                    refine At.done rfl ?_
                    exact ⟨_, h, rfl⟩
              · obtain ⟨hc19, h⟩ := need_elim h
                refine At.seg 22 [0, 1, 6, 57] [] (s' := ⟨[(0, .c (.d (.int .i64 p0))), (1, .c (.d (.int .i64 p1))), (6, .c (.d (.int .i64 (IntKind.i64.wrap (p0 * p1))))), (57, .c (.d (.bool (!decide ((IntKind.i64.wrap ((IntKind.i64.wrap (p0 * p1)).tdiv p1)) = p0)))))], []⟩) (c := True ∧ True ∧ True ∧ True ∧ True ∧ True ∧ True ∧ True ∧ True ∧ (p1 ≠ 0) ∧ True ∧ True ∧ True ∧ True ∧ True) (by kernel_rfl) ⟨trivial, trivial, trivial, trivial, trivial, trivial, trivial, trivial, trivial, hc19, trivial, trivial, trivial, trivial, trivial⟩ ?_
                refine At.case (fun b => ⟨[(0, .c (.d (.int .i64 p0))), (1, .c (.d (.int .i64 p1))), (6, .c (.d (.int .i64 (IntKind.i64.wrap (p0 * p1))))), (57, .c (.d (.bool b)))], []⟩) (b := (!decide ((IntKind.i64.wrap ((IntKind.i64.wrap (p0 * p1)).tdiv p1)) = p0))) h (fun h => ?_) (fun h => ?_)
                · refine At.seg 6 [6, 63] [] (s' := ⟨[(6, .c (.d (.int .i64 (IntKind.i64.wrap (p0 * p1))))), (63, .c (.d (.bool true)))], []⟩) (c := True ∧ True) (by kernel_rfl) ⟨trivial, trivial⟩ ?_
                  refine At.done rfl ?_
                  exact ⟨_, h, rfl⟩
                · obtain ⟨hc20, h⟩ := need_elim h
                  refine At.seg 6 [6, 63] [] (s' := ⟨[(6, .c (.d (.int .i64 (IntKind.i64.wrap (p0 * p1))))), (63, .c (.d (.bool (!decide ((IntKind.i64.wrap ((IntKind.i64.wrap (p0 * p1)).tdiv p0)) = p1)))))], []⟩) (c := True ∧ True ∧ (p0 ≠ 0) ∧ True ∧ True ∧ True ∧ True) (by kernel_rfl) ⟨trivial, trivial, hc20, trivial, trivial, trivial, trivial⟩ ?_
                  refine At.done rfl ?_
                  exact ⟨_, h, rfl⟩
          · refine At.seg 12 [0, 1, 6, 32, 35] [] (s' := ⟨[(0, .c (.d (.int .i64 p0))), (1, .c (.d (.int .i64 p1))), (6, .c (.d (.int .i64 (IntKind.i64.wrap (p0 * p1))))), (32, .c (.d (.bool false))), (35, .c (.d (.bool (decide (p1 = (-1))))))], []⟩) (c := True ∧ True ∧ True ∧ True ∧ True ∧ True ∧ True ∧ True) (by kernel_rfl) ⟨trivial, trivial, trivial, trivial, trivial, trivial, trivial, trivial⟩ ?_
            refine At.case (fun b => ⟨[(0, .c (.d (.int .i64 p0))), (1, .c (.d (.int .i64 p1))), (6, .c (.d (.int .i64 (IntKind.i64.wrap (p0 * p1))))), (32, .c (.d (.bool false))), (35, .c (.d (.bool b)))], []⟩) (b := (decide (p1 = (-1)))) h (fun h => ?_) (fun h => ?_)
            · refine At.seg 5 [0, 1, 6, 32, 40] [] (s' := ⟨[(0, .c (.d (.int .i64 p0))), (1, .c (.d (.int .i64 p1))), (6, .c (.d (.int .i64 (IntKind.i64.wrap (p0 * p1))))), (32, .c (.d (.bool false))), (40, .c (.d (.bool (decide (p0 = (IntKind.i64.wrap (p0 * p1)))))))], []⟩) (c := True ∧ True ∧ True ∧ True ∧ True ∧ True) (by kernel_rfl) ⟨trivial, trivial, trivial, trivial, trivial, trivial⟩ ?_
              refine At.case (fun b => ⟨[(0, .c (.d (.int .i64 p0))), (1, .c (.d (.int .i64 p1))), (6, .c (.d (.int .i64 (IntKind.i64.wrap (p0 * p1))))), (32, .c (.d (.bool false))), (40, .c (.d (.bool b)))], []⟩) (b := (decide (p0 = (IntKind.i64.wrap (p0 * p1))))) h (fun h => ?_) (fun h => ?_)
              · refine At.seg 4 [0, 1, 6, 32, 44] [] (s' := ⟨[(0, .c (.d (.int .i64 p0))), (1, .c (.d (.int .i64 p1))), (6, .c (.d (.int .i64 (IntKind.i64.wrap (p0 * p1))))), (32, .c (.d (.bool false))), (44, .c (.d (.bool (decide (p0 < 0)))))], []⟩) (c := True ∧ True ∧ True ∧ True ∧ True) (by kernel_rfl) ⟨trivial, trivial, trivial, trivial, trivial⟩ ?_
                refine At.case (fun b => ⟨[(0, .c (.d (.int .i64 p0))), (1, .c (.d (.int .i64 p1))), (6, .c (.d (.int .i64 (IntKind.i64.wrap (p0 * p1))))), (32, .c (.d (.bool false))), (44, .c (.d (.bool b)))], []⟩) (b := (decide (p0 < 0))) h (fun h => ?_) (fun h => ?_)
                · refine At.seg 6 [0, 1, 6, 50] [] (s' := ⟨[(0, .c (.d (.int .i64 p0))), (1, .c (.d (.int .i64 p1))), (6, .c (.d (.int .i64 (IntKind.i64.wrap (p0 * p1))))), (50, .c (.d (.bool (decide (0 < (IntKind.i64.wrap (p0 - 1)))))))], []⟩) (c := True ∧ True ∧ True ∧ True ∧ True ∧ True ∧ True) (by kernel_rfl) ⟨trivial, trivial, trivial, trivial, trivial, trivial, trivial⟩ ?_
                  refine At.case (fun b => ⟨[(0, .c (.d (.int .i64 p0))), (1, .c (.d (.int .i64 p1))), (6, .c (.d (.int .i64 (IntKind.i64.wrap (p0 * p1))))), (50, .c (.d (.bool b)))], []⟩) (b := (decide (0 < (IntKind.i64.wrap (p0 - 1))))) h (fun h => ?_) (fun h => ?_)
                  · refine At.seg 13 [6, 63] [] (s' := ⟨[(6, .c (.d (.int .i64 (IntKind.i64.wrap (p0 * p1))))), (63, .c (.d (.bool true)))], []⟩) (c := True ∧ True ∧ True ∧ True) (by kernel_rfl) ⟨trivial, trivial, trivial, trivial⟩ ?_
                    refine At.done rfl ?_
                    exact ⟨_, h, rfl⟩
                  · obtain ⟨hc21, h⟩ := need_elim h
                    refine At.seg 7 [0, 1, 6, 57] [] (s' := ⟨[(0, .c (.d (.int .i64 p0))), (1, .c (.d (.int .i64 p1))), (6, .c (.d (.int .i64 (IntKind.i64.wrap (p0 * p1))))), (57, .c (.d (.bool (!decide ((IntKind.i64.wrap ((IntKind.i64.wrap (p0 * p1)).tdiv p1)) = p0)))))], []⟩) (c := True ∧ True ∧ (p1 ≠ 0) ∧ True ∧ True ∧ True ∧ True ∧ True) (by kernel_rfl) ⟨trivial, trivial, hc21, trivial, trivial, trivial, trivial, trivial⟩ ?_
                    refine At.case (fun b => ⟨[(0, .c (.d (.int .i64 p0))), (1, .c (.d (.int .i64 p1))), (6, .c (.d (.int .i64 (IntKind.i64.wrap (p0 * p1))))), (57, .c (.d (.bool b)))], []⟩) (b := (!decide ((IntKind.i64.wrap ((IntKind.i64.wrap (p0 * p1)).tdiv p1)) = p0))) h (fun h => ?_) (fun h => ?_)
                    · refine At.seg 6 [6, 63] [] (s' := ⟨[(6, .c (.d (.int .i64 (IntKind.i64.wrap (p0 * p1))))), (63, .c (.d (.bool true)))], []⟩) (c := True ∧ True) (by kernel_rfl) ⟨trivial, trivial⟩ ?_
                      refine At.done rfl ?_
                      exact ⟨_, h, rfl⟩
                    · obtain ⟨hc22, h⟩ := need_elim h
                      refine At.seg 6 [6, 63] [] (s' := ⟨[(6, .c (.d (.int .i64 (IntKind.i64.wrap (p0 * p1))))), (63, .c (.d (.bool (!decide ((IntKind.i64.wrap ((IntKind.i64.wrap (p0 * p1)).tdiv p0)) = p1)))))], []⟩) (c := True ∧ True ∧ (p0 ≠ 0) ∧ True ∧ True ∧ True ∧ True) (by kernel_rfl) ⟨trivial, trivial, hc22, trivial, trivial, trivial, trivial⟩ ?_
                      refine At.done rfl ?_
                      exact ⟨_, h, rfl⟩
                · obtain ⟨hc23, h⟩ := need_elim h
                  refine At.seg 13 [0, 1, 6, 57] [] (s' := ⟨[(0, .c (.d (.int .i64 p0))), (1, .c (.d (.int .i64 p1))), (6, .c (.d (.int .i64 (IntKind.i64.wrap (p0 * p1))))), (57, .c (.d (.bool (!decide ((IntKind.i64.wrap ((IntKind.i64.wrap (p0 * p1)).tdiv p1)) = p0)))))], []⟩) (c := True ∧ True ∧ True ∧ True ∧ True ∧ (p1 ≠ 0) ∧ True ∧ True ∧ True ∧ True ∧ True) (by kernel_rfl) ⟨trivial, trivial, trivial, trivial, trivial, hc23, trivial, trivial, trivial, trivial, trivial⟩ ?_
                  refine At.case (fun b => ⟨[(0, .c (.d (.int .i64 p0))), (1, .c (.d (.int .i64 p1))), (6, .c (.d (.int .i64 (IntKind.i64.wrap (p0 * p1))))), (57, .c (.d (.bool b)))], []⟩) (b := (!decide ((IntKind.i64.wrap ((IntKind.i64.wrap (p0 * p1)).tdiv p1)) = p0))) h (fun h => ?_) (fun h => ?_)
                  · refine At.seg 6 [6, 63] [] (s' := ⟨[(6, .c (.d (.int .i64 (IntKind.i64.wrap (p0 * p1))))), (63, .c (.d (.bool true)))], []⟩) (c := True ∧ True) (by kernel_rfl) ⟨trivial, trivial⟩ ?_
                    refine At.done rfl ?_
                    exact ⟨_, h, rfl⟩
                  · obtain ⟨hc24, h⟩ := need_elim h
                    refine At.seg 6 [6, 63] [] (s' := ⟨[(6, .c (.d (.int .i64 (IntKind.i64.wrap (p0 * p1))))), (63, .c (.d (.bool (!decide ((IntKind.i64.wrap ((IntKind.i64.wrap (p0 * p1)).tdiv p0)) = p1)))))], []⟩) (c := True ∧ True ∧ (p0 ≠ 0) ∧ True ∧ True ∧ True ∧ True) (by kernel_rfl) ⟨trivial, trivial, hc24, trivial, trivial, trivial, trivial⟩ ?_
                    refine At.done rfl ?_
                    exact ⟨_, h, rfl⟩
              · obtain ⟨hc25, h⟩ := need_elim h
                refine At.seg 17 [0, 1, 6, 57] [] (s' := ⟨[(0, .c (.d (.int .i64 p0))), (1, .c (.d (.int .i64 p1))), (6, .c (.d (.int .i64 (IntKind.i64.wrap (p0 * p1))))), (57, .c (.d (.bool (!decide ((IntKind.i64.wrap ((IntKind.i64.wrap (p0 * p1)).tdiv p1)) = p0)))))], []⟩) (c := True ∧ True ∧ True ∧ True ∧ True ∧ True ∧ True ∧ (p1 ≠ 0) ∧ True ∧ True ∧ True ∧ True ∧ True) (by kernel_rfl) ⟨trivial, trivial, trivial, trivial, trivial, trivial, trivial, hc25, trivial, trivial, trivial, trivial, trivial⟩ ?_
                refine At.case (fun b => ⟨[(0, .c (.d (.int .i64 p0))), (1, .c (.d (.int .i64 p1))), (6, .c (.d (.int .i64 (IntKind.i64.wrap (p0 * p1))))), (57, .c (.d (.bool b)))], []⟩) (b := (!decide ((IntKind.i64.wrap ((IntKind.i64.wrap (p0 * p1)).tdiv p1)) = p0))) h (fun h => ?_) (fun h => ?_)
                · refine At.seg 6 [6, 63] [] (s' := ⟨[(6, .c (.d (.int .i64 (IntKind.i64.wrap (p0 * p1))))), (63, .c (.d (.bool true)))], []⟩) (c := True ∧ True) (by kernel_rfl) ⟨trivial, trivial⟩ ?_
                  refine At.done rfl ?_
                  exact ⟨_, h, rfl⟩
                · obtain ⟨hc26, h⟩ := need_elim h
                  refine At.seg 6 [6, 63] [] (s' := ⟨[(6, .c (.d (.int .i64 (IntKind.i64.wrap (p0 * p1))))), (63, .c (.d (.bool (!decide ((IntKind.i64.wrap ((IntKind.i64.wrap (p0 * p1)).tdiv p0)) = p1)))))], []⟩) (c := True ∧ True ∧ (p0 ≠ 0) ∧ True ∧ True ∧ True ∧ True) (by kernel_rfl) ⟨trivial, trivial, hc26, trivial, trivial, trivial, trivial⟩ ?_
                  refine At.done rfl ?_
                  exact ⟨_, h, rfl⟩
            · obtain ⟨hc27, h⟩ := need_elim h
              refine At.seg 22 [0, 1, 6, 57] [] (s' := ⟨[(0, .c (.d (.int .i64 p0))), (1, .c (.d (.int .i64 p1))), (6, .c (.d (.int .i64 (IntKind.i64.wrap (p0 * p1))))), (57, .c (.d (.bool (!decide ((IntKind.i64.wrap ((IntKind.i64.wrap (p0 * p1)).tdiv p1)) = p0)))))], []⟩) (c := True ∧ True ∧ True ∧ True ∧ True ∧ True ∧ True ∧ True ∧ True ∧ (p1 ≠ 0) ∧ True ∧ True ∧ True ∧ True ∧ True) (by kernel_rfl) ⟨trivial, trivial, trivial, trivial, trivial, trivial, trivial, trivial, trivial, hc27, trivial, trivial, trivial, trivial, trivial⟩ ?_
              refine At.case (fun b => ⟨[(0, .c (.d (.int .i64 p0))), (1, .c (.d (.int .i64 p1))), (6, .c (.d (.int .i64 (IntKind.i64.wrap (p0 * p1))))), (57, .c (.d (.bool b)))], []⟩) (b := (!decide ((IntKind.i64.wrap ((IntKind.i64.wrap (p0 * p1)).tdiv p1)) = p0))) h (fun h => ?_) (fun h => ?_)
              · refine At.seg 6 [6, 63] [] (s' := ⟨[(6, .c (.d (.int .i64 (IntKind.i64.wrap (p0 * p1))))), (63, .c (.d (.bool true)))], []⟩) (c := True ∧ True) (by kernel_rfl) ⟨trivial, trivial⟩ ?_
                refine At.done rfl ?_
                exact ⟨_, h, rfl⟩
              · obtain ⟨hc28, h⟩ := need_elim h
                refine At.seg 6 [6, 63] [] (s' := ⟨[(6, .c (.d (.int .i64 (IntKind.i64.wrap (p0 * p1))))), (63, .c (.d (.bool (!decide ((IntKind.i64.wrap ((IntKind.i64.wrap (p0 * p1)).tdiv p0)) = p1)))))], []⟩) (c := True ∧ True ∧ (p0 ≠ 0) ∧ True ∧ True ∧ True ∧ True) (by kernel_rfl) ⟨trivial, trivial, hc28, trivial, trivial, trivial, trivial⟩ ?_
                refine At.done rfl ?_
                exact ⟨_, h, rfl⟩
        · refine At.seg 17 [0, 1, 6, 32, 35] [] (s' := ⟨[(0, .c (.d (.int .i64 p0))), (1, .c (.d (.int .i64 p1))), (6, .c (.d (.int .i64 (IntKind.i64.wrap (p0 * p1))))), (32, .c (.d (.bool false))), (35, .c (.d (.bool (decide (p1 = (-1))))))], []⟩) (c := True ∧ True ∧ True ∧ True ∧ True ∧ True ∧ True ∧ True ∧ True ∧ True) (by kernel_rfl) ⟨trivial, trivial, trivial, trivial, trivial, trivial, trivial, trivial, trivial, trivial⟩ ?_
          refine At.case (fun b => ⟨[(0, .c (.d (.int .i64 p0))), (1, .c (.d (.int .i64 p1))), (6, .c (.d (.int .i64 (IntKind.i64.wrap (p0 * p1))))), (32, .c (.d (.bool false))), (35, .c (.d (.bool b)))], []⟩) (b := (decide (p1 = (-1)))) h (fun h => ?_) (fun h => ?_)
          · refine At.seg 5 [0, 1, 6, 32, 40] [] (s' := ⟨[(0, .c (.d (.int .i64 p0))), (1, .c (.d (.int .i64 p1))), (6, .c (.d (.int .i64 (IntKind.i64.wrap (p0 * p1))))), (32, .c (.d (.bool false))), (40, .c (.d (.bool (decide (p0 = (IntKind.i64.wrap (p0 * p1)))))))], []⟩) (c := True ∧ True ∧ True ∧ True ∧ True ∧ True) (by kernel_rfl) ⟨trivial, trivial, trivial, trivial, trivial, trivial⟩ ?_
            refine At.case (fun b => ⟨[(0, .c (.d (.int .i64 p0))), (1, .c (.d (.int .i64 p1))), (6, .c (.d (.int .i64 (IntKind.i64.wrap (p0 * p1))))), (32, .c (.d (.bool false))), (40, .c (.d (.bool b)))], []⟩) (b := (decide (p0 = (IntKind.i64.wrap (p0 * p1))))) h (fun h => ?_) (fun h => ?_)
            · refine At.seg 4 [0, 1, 6, 32, 44] [] (s' := ⟨[(0, .c (.d (.int .i64 p0))), (1, .c (.d (.int .i64 p1))), (6, .c (.d (.int .i64 (IntKind.i64.wrap (p0 * p1))))), (32, .c (.d (.bool false))), (44, .c (.d (.bool (decide (p0 < 0)))))], []⟩) (c := True ∧ True ∧ True ∧ True ∧ True) (by kernel_rfl) ⟨trivial, trivial, trivial, trivial, trivial⟩ ?_
              refine At.case (fun b => ⟨[(0, .c (.d (.int .i64 p0))), (1, .c (.d (.int .i64 p1))), (6, .c (.d (.int .i64 (IntKind.i64.wrap (p0 * p1))))), (32, .c (.d (.bool false))), (44, .c (.d (.bool b)))], []⟩) (b := (decide (p0 < 0))) h (fun h => ?_) (fun h => ?_)
              · refine At.seg 6 [0, 1, 6, 50] [] (s' := ⟨[(0, .c (.d (.int .i64 p0))), (1, .c (.d (.int .i64 p1))), (6, .c (.d (.int .i64 (IntKind.i64.wrap (p0 * p1))))), (50, .c (.d (.bool (decide (0 < (IntKind.i64.wrap (p0 - 1)))))))], []⟩) (c := True ∧ True ∧ True ∧ True ∧ True ∧ True ∧ True) (by kernel_rfl) ⟨trivial, trivial, trivial, trivial, trivial, trivial, trivial⟩ ?_
                refine At.case (fun b => ⟨[(0, .c (.d (.int .i64 p0))), (1, .c (.d (.int .i64 p1))), (6, .c (.d (.int .i64 (IntKind.i64.wrap (p0 * p1))))), (50, .c (.d (.bool b)))], []⟩) (b := (decide (0 < (IntKind.i64.wrap (p0 - 1))))) h (fun h => ?_) (fun h => ?_)
                · refine At.seg 13 [6, 63] [] (s' := ⟨[(6, .c (.d (.int .i64 (IntKind.i64.wrap (p0 * p1))))), (63, .c (.d (.bool true)))], []⟩) (c := True ∧ True ∧ True ∧ True) (by kernel_rfl) ⟨trivial, trivial, trivial, trivial⟩ ?_
                  refine At.done rfl ?_
                  exact ⟨_, h, rfl⟩
                · obtain ⟨hc29, h⟩ := need_elim h
                  refine At.seg 7 [0, 1, 6, 57] [] (s' := ⟨[(0, .c (.d (.int .i64 p0))), (1, .c (.d (.int .i64 p1))), (6, .c (.d (.int .i64 (IntKind.i64.wrap (p0 * p1))))), (57, .c (.d (.bool (!decide ((IntKind.i64.wrap ((IntKind.i64.wrap (p0 * p1)).tdiv p1)) = p0)))))], []⟩) (c := True ∧ True ∧ (p1 ≠ 0) ∧ True ∧ True ∧ True ∧ True ∧ True) (by kernel_rfl) ⟨trivial, trivial, hc29, trivial, trivial, trivial, trivial, trivial⟩ ?_
                  refine At.case (fun b => ⟨[(0, .c (.d (.int .i64 p0))), (1, .c (.d (.int .i64 p1))), (6, .c (.d (.int .i64 (IntKind.i64.wrap (p0 * p1))))), (57, .c (.d (.bool b)))], []⟩) (b := (!decide ((IntKind.i64.wrap ((IntKind.i64.wrap (p0 * p1)).tdiv p1)) = p0))) h (fun h => ?_) (fun h => ?_)
                  · refine At.seg 6 [6, 63] [] (s' := ⟨[(6, .c (.d (.int .i64 (IntKind.i64.wrap (p0 * p1))))), (63, .c (.d (.bool true)))], []⟩) (c := True ∧ True) (by kernel_rfl) ⟨trivial, trivial⟩ ?_
                    refine At.done rfl ?_
                    exact ⟨_, h, rfl⟩
                  · obtain ⟨hc30, h⟩ := need_elim h
                    refine At.seg 6 [6, 63] [] (s' := ⟨[(6, .c (.d (.int .i64 (IntKind.i64.wrap (p0 * p1))))), (63, .c (.d (.bool (!decide ((IntKind.i64.wrap ((IntKind.i64.wrap (p0 * p1)).tdiv p0)) = p1)))))], []⟩) (c := True ∧ True ∧ (p0 ≠ 0) ∧ True ∧ True ∧ True ∧ True) (by kernel_rfl) ⟨trivial, trivial, hc30, trivial, trivial, trivial, trivial⟩ ?_
                    refine At.done rfl ?_
                    exact ⟨_, h, rfl⟩
              · obtain ⟨hc31, h⟩ := need_elim h
                refine At.seg 13 [0, 1, 6, 57] [] (s' := ⟨[(0, .c (.d (.int .i64 p0))), (1, .c (.d (.int .i64 p1))), (6, .c (.d (.int .i64 (IntKind.i64.wrap (p0 * p1))))), (57, .c (.d (.bool (!decide ((IntKind.i64.wrap ((IntKind.i64.wrap (p0 * p1)).tdiv p1)) = p0)))))], []⟩) (c := True ∧ True ∧ True ∧ True ∧ True ∧ (p1 ≠ 0) ∧ True ∧ True ∧ True ∧ True ∧ True) (by kernel_rfl) ⟨trivial, trivial, trivial, trivial, trivial, hc31, trivial, trivial, trivial, trivial, trivial⟩ ?_
                refine At.case (fun b => ⟨[(0, .c (.d (.int .i64 p0))), (1, .c (.d (.int .i64 p1))), (6, .c (.d (.int .i64 (IntKind.i64.wrap (p0 * p1))))), (57, .c (.d (.bool b)))], []⟩) (b := (!decide ((IntKind.i64.wrap ((IntKind.i64.wrap (p0 * p1)).tdiv p1)) = p0))) h (fun h => ?_) (fun h => ?_)
                · refine At.seg 6 [6, 63] [] (s' := ⟨[(6, .c (.d (.int .i64 (IntKind.i64.wrap (p0 * p1))))), (63, .c (.d (.bool true)))], []⟩) (c := True ∧ True) (by kernel_rfl) ⟨trivial, trivial⟩ ?_
                  refine At.done rfl ?_
                  exact ⟨_, h, rfl⟩
                · obtain ⟨hc32, h⟩ := need_elim h
                  refine At.seg 6 [6, 63] [] (s' := ⟨[(6, .c (.d (.int .i64 (IntKind.i64.wrap (p0 * p1))))), (63, .c (.d (.bool (!decide ((IntKind.i64.wrap ((IntKind.i64.wrap (p0 * p1)).tdiv p0)) = p1)))))], []⟩) (c := True ∧ True ∧ (p0 ≠ 0) ∧ True ∧ True ∧ True ∧ True) (by kernel_rfl) ⟨trivial, trivial, hc32, trivial, trivial, trivial, trivial⟩ ?_
                  refine At.done rfl ?_
                  exact ⟨_, h, rfl⟩
            · obtain ⟨hc33, h⟩ := need_elim h
              refine At.seg 17 [0, 1, 6, 57] [] (s' := ⟨[(0, .c (.d (.int .i64 p0))), (1, .c (.d (.int .i64 p1))), (6, .c (.d (.int .i64 (IntKind.i64.wrap (p0 * p1))))), (57, .c (.d (.bool (!decide ((IntKind.i64.wrap ((IntKind.i64.wrap (p0 * p1)).tdiv p1)) = p0)))))], []⟩) (c := True ∧ True ∧ True ∧ True ∧ True ∧ True ∧ True ∧ (p1 ≠ 0) ∧ True ∧ True ∧ True ∧ True ∧ True) (by kernel_rfl) ⟨trivial, trivial, trivial, trivial, trivial, trivial, trivial, hc33, trivial, trivial, trivial, trivial, trivial⟩ ?_
              refine At.case (fun b => ⟨[(0, .c (.d (.int .i64 p0))), (1, .c (.d (.int .i64 p1))), (6, .c (.d (.int .i64 (IntKind.i64.wrap (p0 * p1))))), (57, .c (.d (.bool b)))], []⟩) (b := (!decide ((IntKind.i64.wrap ((IntKind.i64.wrap (p0 * p1)).tdiv p1)) = p0))) h (fun h => ?_) (fun h => ?_)
              · refine At.seg 6 [6, 63] [] (s' := ⟨[(6, .c (.d (.int .i64 (IntKind.i64.wrap (p0 * p1))))), (63, .c (.d (.bool true)))], []⟩) (c := True ∧ True) (by kernel_rfl) ⟨trivial, trivial⟩ ?_
                refine At.done rfl ?_
                exact ⟨_, h, rfl⟩
              · obtain ⟨hc34, h⟩ := need_elim h
                refine At.seg 6 [6, 63] [] (s' := ⟨[(6, .c (.d (.int .i64 (IntKind.i64.wrap (p0 * p1))))), (63, .c (.d (.bool (!decide ((IntKind.i64.wrap ((IntKind.i64.wrap (p0 * p1)).tdiv p0)) = p1)))))], []⟩) (c := True ∧ True ∧ (p0 ≠ 0) ∧ True ∧ True ∧ True ∧ True) (by kernel_rfl) ⟨trivial, trivial, hc34, trivial, trivial, trivial, trivial⟩ ?_
                refine At.done rfl ?_
                exact ⟨_, h, rfl⟩
          · obtain ⟨hc35, h⟩ := need_elim h
            refine At.seg 22 [0, 1, 6, 57] [] (s' := ⟨[(0, .c (.d (.int .i64 p0))), (1, .c (.d (.int .i64 p1))), (6, .c (.d (.int .i64 (IntKind.i64.wrap (p0 * p1))))), (57, .c (.d (.bool (!decide ((IntKind.i64.wrap ((IntKind.i64.wrap (p0 * p1)).tdiv p1)) = p0)))))], []⟩) (c := True ∧ True ∧ True ∧ True ∧ True ∧ True ∧ True ∧ True ∧ True ∧ (p1 ≠ 0) ∧ True ∧ True ∧ True ∧ True ∧ True) (by kernel_rfl) ⟨trivial, trivial, trivial, trivial, trivial, trivial, trivial, trivial, trivial, hc35, trivial, trivial, trivial, trivial, trivial⟩ ?_
            refine At.case (fun b => ⟨[(0, .c (.d (.int .i64 p0))), (1, .c (.d (.int .i64 p1))), (6, .c (.d (.int .i64 (IntKind.i64.wrap (p0 * p1))))), (57, .c (.d (.bool b)))], []⟩) (b := (!decide ((IntKind.i64.wrap ((IntKind.i64.wrap (p0 * p1)).tdiv p1)) = p0))) h (fun h => ?_) (fun h => ?_)
            · refine At.seg 6 [6, 63] [] (s' := ⟨[(6, .c (.d (.int .i64 (IntKind.i64.wrap (p0 * p1))))), (63, .c (.d (.bool true)))], []⟩) (c := True ∧ True) (by kernel_rfl) ⟨trivial, trivial⟩ ?_
              refine At.done rfl ?_
              exact ⟨_, h, rfl⟩
            · obtain ⟨hc36, h⟩ := need_elim h
              refine At.seg 6 [6, 63] [] (s' := ⟨[(6, .c (.d (.int .i64 (IntKind.i64.wrap (p0 * p1))))), (63, .c (.d (.bool (!decide ((IntKind.i64.wrap ((IntKind.i64.wrap (p0 * p1)).tdiv p0)) = p1)))))], []⟩) (c := True ∧ True ∧ (p0 ≠ 0) ∧ True ∧ True ∧ True ∧ True) (by kernel_rfl) ⟨trivial, trivial, hc36, trivial, trivial, trivial, trivial⟩ ?_
              refine At.done rfl ?_
              exact ⟨_, h, rfl⟩
  · refine Tri.reg ?_
    refine At.seg 3 [0, 1, 9] [] (s' := ⟨[(0, .c (.d (.int .i64 p0))), (1, .c (.d (.int .i64 p1))), (9, .c (.d (.bool (decide (p0 = 0)))))], []⟩) (c := True ∧ True ∧ True ∧ True) (by kernel_rfl) ⟨trivial, trivial, trivial, trivial⟩ ?_
    refine At.case (fun b => ⟨[(0, .c (.d (.int .i64 p0))), (1, .c (.d (.int .i64 p1))), (9, .c (.d (.bool b)))], []⟩) (b := (decide (p0 = 0))) h (fun h => ?_) (fun h => ?_)
    · refine At.seg 3 [0, 1, 12] [] (s' := ⟨[(0, .c (.d (.int .i64 p0))), (1, .c (.d (.int .i64 p1))), (12, .c (.d (.bool true)))], []⟩) (c := True ∧ True) (by kernel_rfl) ⟨trivial, trivial⟩ ?_
      refine At.done rfl ?_
      exact ⟨_, h, rfl⟩
    · refine At.seg 3 [0, 1, 12] [] (s' := ⟨[(0, .c (.d (.int .i64 p0))), (1, .c (.d (.int .i64 p1))), (12, .c (.d (.bool (decide (p1 = 0)))))], []⟩) (c := True ∧ True ∧ True ∧ True) (by kernel_rfl) ⟨trivial, trivial, trivial, trivial⟩ ?_
      refine At.done rfl ?_
      exact ⟨_, h, rfl⟩

set_option maxRecDepth 100000 in
theorem freshetlaw05_sums_ok  {q : Bool} (h : freshetlaw05_sums = some q) :
    Summ Try.prog 15 [] [] (.c (.d (.bool q))) [] := by
  refine Summ.intro Try.func15 rfl (by kernel_rfl) (by kernel_rfl) [] rfl ?_
  rintro ⟨P, w0, G0, V, LL, lk, N, φ0, fx⟩ rfl rfl rfl rfl
  unfold freshetlaw05_sums at h
  refine Tri.seqS ?_
  refine Tri.reg ?_
  refine At.seg 1 [] [] (s' := ⟨[], []⟩) (c := True ∧ True) (by kernel_rfl) ⟨trivial, trivial⟩ ?_
  refine At.done rfl ?_
  show Tri _ _ _ _
  refine Tri.seqS ?_
  refine Tri.reg ?_
  refine At.one rfl (One.buildSlice (z := [.d (.int .i64 0)]) (cells := [.d (.int .i64 9223372036854775807), .d (.int .i64 1), .d (.int .i64 (-1))]) (xs := List.map (encInt .i64) ([9223372036854775807, 1, (-1)] : List Int)) rfl rfl rfl rfl (by kernel_rfl) rfl rfl (by kernel_rfl) rfl rfl rfl (by kernel_rfl) rfl ⟨⟨rfl, .refl _⟩, ⟨rfl, .refl _⟩, ⟨rfl, .refl _⟩, trivial⟩) ?_
  refine At.le [10] (fun k _ h => by cases h) ⟨[(10, .c (.d (.list 1 ([9223372036854775807, 1, (-1)] : List Int).length (fun i => encInt .i64 (([9223372036854775807, 1, (-1)] : List Int).getD i default)))))], []⟩ ⟨⟨_, rfl, .c (.own rfl (List.mem_singleton.2 rfl) (Nat.le_of_ble_eq_true rfl) rfl (encs_getD (encInt .i64) ([9223372036854775807, 1, (-1)] : List Int)))⟩, trivial⟩ trivial ?_
  obtain ⟨r1, hr1, h⟩ := bind_elim h
  refine At.callA (caps := []) (xs := [.c (.d (.list 1 ([9223372036854775807, 1, (-1)] : List Int).length (fun i => encInt .i64 (([9223372036854775807, 1, (-1)] : List Int).getD i default))))]) (diff_Sum_ok hr1) rfl rfl rfl rfl rfl rfl (.cons (.refl _) .nil) rfl rfl ?_
  refine At.seg 5 [1, 2] [] (s' := ⟨[(1, .c (.d (.int .i64 r1.1))), (2, .c (.d (.int .i64 r1.2)))], []⟩) (c := True ∧ True ∧ True ∧ True ∧ True ∧ True) (by kernel_rfl) ⟨trivial, trivial, trivial, trivial, trivial, trivial⟩ ?_
  refine At.done rfl ?_
  show Tri _ _ _ _
  refine Tri.seqS ?_
  refine Tri.reg ?_
  refine At.one rfl (One.buildSlice (z := [.d (.int .i64 0)]) (cells := [.d (.int .i64 9223372036854775807), .d (.int .i64 1)]) (xs := List.map (encInt .i64) ([9223372036854775807, 1] : List Int)) rfl rfl rfl rfl (by kernel_rfl) rfl rfl (by kernel_rfl) rfl rfl rfl (by kernel_rfl) rfl ⟨⟨rfl, .refl _⟩, ⟨rfl, .refl _⟩, trivial⟩) ?_
  refine At.le [15] (fun k _ h => by cases h) ⟨[(15, .c (.d (.list 1 ([9223372036854775807, 1] : List Int).length (fun i => encInt .i64 (([9223372036854775807, 1] : List Int).getD i default))))), (1, .c (.d (.int .i64 r1.1))), (2, .c (.d (.int .i64 r1.2)))], []⟩ ⟨⟨_, rfl, .c (.own rfl (List.mem_singleton.2 rfl) (Nat.le_of_ble_eq_true rfl) rfl (encs_getD (encInt .i64) ([9223372036854775807, 1] : List Int)))⟩, ⟨_, rfl, .refl _⟩, ⟨_, rfl, .refl _⟩, trivial⟩ trivial ?_
  obtain ⟨r2, hr2, h⟩ := bind_elim h
  refine At.callA (caps := []) (xs := [.c (.d (.list 1 ([9223372036854775807, 1] : List Int).length (fun i => encInt .i64 (([9223372036854775807, 1] : List Int).getD i default))))]) (diff_Sum_ok hr2) rfl rfl rfl rfl rfl rfl (.cons (.refl _) .nil) rfl rfl ?_
  refine At.seg 5 [1, 2, 4] [] (s' := ⟨[(1, .c (.d (.int .i64 r1.1))), (2, .c (.d (.int .i64 r1.2))), (4, .c (.d (.int .i64 r2.2)))], []⟩) (c := True ∧ True ∧ True ∧ True ∧ True ∧ True) (by kernel_rfl) ⟨trivial, trivial, trivial, trivial, trivial, trivial⟩ ?_
  refine At.done rfl ?_
  show Tri _ _ _ _
  refine Tri.seqS ?_
  refine Tri.reg ?_
  obtain ⟨r3, hr3, h⟩ := bind_elim h
  refine At.callA (caps := []) (xs := [.c (.d (.int .i64 (-3))), .c (.d (.int .i64 4))]) (diff_Times_ok hr3) rfl rfl rfl rfl rfl rfl (.cons (.refl _) (.cons (.refl _) .nil)) rfl rfl ?_
  refine At.seg 5 [1, 2, 4, 5, 6] [] (s' := ⟨[(1, .c (.d (.int .i64 r1.1))), (2, .c (.d (.int .i64 r1.2))), (4, .c (.d (.int .i64 r2.2))), (5, .c (.d (.int .i64 r3.1))), (6, .c (.d (.int .i64 r3.2)))], []⟩) (c := True ∧ True ∧ True ∧ True ∧ True ∧ True) (by kernel_rfl) ⟨trivial, trivial, trivial, trivial, trivial, trivial⟩ ?_
  refine At.done rfl ?_
  show Tri _ _ _ _
  refine Tri.seqS ?_
  refine Tri.reg ?_
  obtain ⟨r4, hr4, h⟩ := bind_elim h
  refine At.callA (caps := []) (xs := [.c (.d (.int .i64 (-9223372036854775808))), .c (.d (.int .i64 (-1)))]) (diff_Times_ok hr4) rfl rfl rfl rfl rfl rfl (.cons (.refl _) (.cons (.refl _) .nil)) rfl rfl ?_
  refine At.seg 5 [1, 2, 4, 5, 6, 8] [] (s' := ⟨[(1, .c (.d (.int .i64 r1.1))), (2, .c (.d (.int .i64 r1.2))), (4, .c (.d (.int .i64 r2.2))), (5, .c (.d (.int .i64 r3.1))), (6, .c (.d (.int .i64 r3.2))), (8, .c (.d (.int .i64 r4.2)))], []⟩) (c := True ∧ True ∧ True ∧ True ∧ True ∧ True) (by kernel_rfl) ⟨trivial, trivial, trivial, trivial, trivial, trivial⟩ ?_
  refine At.done rfl ?_
  show Tri _ _ _ _
  refine Tri.seqJ (fun (a5 : Bool) => ⟨[(0, .c (.d (.bool a5)))], []⟩) h (fun a5 h => ?_) (fun j6 h => ?_)
  · show Tri _ _ ⟨[(0, .c (.d (.bool a5)))], []⟩ _
    refine Tri.keep [0] [] (s' := ⟨[(0, .c (.d (.bool a5)))], []⟩) (by kernel_rfl) ?_
    refine Tri.ret ?_
    cases h
    refine ⟨_, _, rfl, ⟨trivial, trivial⟩, rfl, rfl, ?_⟩
    intro k c h
    cases h
  · refine Tri.reg ?_
    refine At.seg 3 [2, 4, 5, 6, 8, 29] [] (s' := ⟨[(2, .c (.d (.int .i64 r1.2))), (4, .c (.d (.int .i64 r2.2))), (5, .c (.d (.int .i64 r3.1))), (6, .c (.d (.int .i64 r3.2))), (8, .c (.d (.int .i64 r4.2))), (29, .c (.d (.bool (decide (r1.1 = 9223372036854775807)))))], []⟩) (c := True ∧ True ∧ True ∧ True) (by kernel_rfl) ⟨trivial, trivial, trivial, trivial⟩ ?_
    refine At.case (fun b => ⟨[(2, .c (.d (.int .i64 r1.2))), (4, .c (.d (.int .i64 r2.2))), (5, .c (.d (.int .i64 r3.1))), (6, .c (.d (.int .i64 r3.2))), (8, .c (.d (.int .i64 r4.2))), (29, .c (.d (.bool b)))], []⟩) (b := (decide (r1.1 = 9223372036854775807))) h (fun h => ?_) (fun h => ?_)
    · refine At.seg 4 [4, 5, 6, 8, 33] [] (s' := ⟨[(4, .c (.d (.int .i64 r2.2))), (5, .c (.d (.int .i64 r3.1))), (6, .c (.d (.int .i64 r3.2))), (8, .c (.d (.int .i64 r4.2))), (33, .c (.d (.bool (decide (r1.2 = 0)))))], []⟩) (c := True ∧ True ∧ True ∧ True ∧ True) (by kernel_rfl) ⟨trivial, trivial, trivial, trivial, trivial⟩ ?_
      refine At.case (fun b => ⟨[(4, .c (.d (.int .i64 r2.2))), (5, .c (.d (.int .i64 r3.1))), (6, .c (.d (.int .i64 r3.2))), (8, .c (.d (.int .i64 r4.2))), (33, .c (.d (.bool b)))], []⟩) (b := (decide (r1.2 = 0))) h (fun h => ?_) (fun h => ?_)
      · refine At.seg 4 [5, 6, 8, 37] [] (s' := ⟨[(5, .c (.d (.int .i64 r3.1))), (6, .c (.d (.int .i64 r3.2))), (8, .c (.d (.int .i64 r4.2))), (37, .c (.d (.bool (decide (r2.2 = 10)))))], []⟩) (c := True ∧ True ∧ True ∧ True ∧ True) (by kernel_rfl) ⟨trivial, trivial, trivial, trivial, trivial⟩ ?_
        refine At.case (fun b => ⟨[(5, .c (.d (.int .i64 r3.1))), (6, .c (.d (.int .i64 r3.2))), (8, .c (.d (.int .i64 r4.2))), (37, .c (.d (.bool b)))], []⟩) (b := (decide (r2.2 = 10))) h (fun h => ?_) (fun h => ?_)
        · refine At.seg 4 [6, 8, 41] [] (s' := ⟨[(6, .c (.d (.int .i64 r3.2))), (8, .c (.d (.int .i64 r4.2))), (41, .c (.d (.bool (decide (r3.1 = (-12))))))], []⟩) (c := True ∧ True ∧ True ∧ True ∧ True) (by kernel_rfl) ⟨trivial, trivial, trivial, trivial, trivial⟩ ?_
          refine At.case (fun b => ⟨[(6, .c (.d (.int .i64 r3.2))), (8, .c (.d (.int .i64 r4.2))), (41, .c (.d (.bool b)))], []⟩) (b := (decide (r3.1 = (-12)))) h (fun h => ?_) (fun h => ?_)
          · refine At.seg 4 [8, 45] [] (s' := ⟨[(8, .c (.d (.int .i64 r4.2))), (45, .c (.d (.bool (decide (r3.2 = 0)))))], []⟩) (c := True ∧ True ∧ True ∧ True ∧ True) (by kernel_rfl) ⟨trivial, trivial, trivial, trivial, trivial⟩ ?_
            refine At.case (fun b => ⟨[(8, .c (.d (.int .i64 r4.2))), (45, .c (.d (.bool b)))], []⟩) (b := (decide (r3.2 = 0))) h (fun h => ?_) (fun h => ?_)
            · refine At.seg 4 [0] [] (s' := ⟨[(0, .c (.d (.bool (decide (r4.2 = 10)))))], []⟩) (c := True ∧ True ∧ True ∧ True ∧ True) (by kernel_rfl) ⟨trivial, trivial, trivial, trivial, trivial⟩ ?_
              refine At.done rfl ?_
              exact ⟨_, h, rfl⟩
            · refine At.seg 4 [0] [] (s' := ⟨[(0, .c (.d (.bool false)))], []⟩) (c := True ∧ True ∧ True) (by kernel_rfl) ⟨trivial, trivial, trivial⟩ ?_
              refine At.done rfl ?_
              exact ⟨_, h, rfl⟩
          · refine At.seg 8 [0] [] (s' := ⟨[(0, .c (.d (.bool false)))], []⟩) (c := True ∧ True ∧ True ∧ True ∧ True) (by kernel_rfl) ⟨trivial, trivial, trivial, trivial, trivial⟩ ?_
            refine At.done rfl ?_
            exact ⟨_, h, rfl⟩
        · refine At.seg 12 [0] [] (s' := ⟨[(0, .c (.d (.bool false)))], []⟩) (c := True ∧ True ∧ True ∧ True ∧ True ∧ True ∧ True) (by kernel_rfl) ⟨trivial, trivial, trivial, trivial, trivial, trivial, trivial⟩ ?_
          refine At.done rfl ?_
          exact ⟨_, h, rfl⟩
      · refine At.seg 16 [0] [] (s' := ⟨[(0, .c (.d (.bool false)))], []⟩) (c := True ∧ True ∧ True ∧ True ∧ True ∧ True ∧ True ∧ True ∧ True) (by kernel_rfl) ⟨trivial, trivial, trivial, trivial, trivial, trivial, trivial, trivial, trivial⟩ ?_
        refine At.done rfl ?_
        exact ⟨_, h, rfl⟩
    · refine At.seg 20 [0] [] (s' := ⟨[(0, .c (.d (.bool false)))], []⟩) (c := True ∧ True ∧ True ∧ True ∧ True ∧ True ∧ True ∧ True ∧ True ∧ True ∧ True) (by kernel_rfl) ⟨trivial, trivial, trivial, trivial, trivial, trivial, trivial, trivial, trivial, trivial, trivial⟩ ?_
      refine At.done rfl ?_
      exact ⟨_, h, rfl⟩

set_option maxRecDepth 100000 in
theorem freshetlaw05_DiffSums_ok {p0 : List Int} {p1 : Int} {p2 : Int} {q : Bool} (h : freshetlaw05_DiffSums p0 p1 p2 = some q) :
    Summ Try.prog 3 [.c (.d (.list 1 p0.length (fun i => encInt .i64 (p0.getD i default)))), .c (.d (.int .i64 p1)), .c (.d (.int .i64 p2))] [] (.c (.d (.bool q))) [] := by
  refine Summ.intro Try.func3 rfl (by kernel_rfl) (by kernel_rfl) [] rfl ?_
  rintro ⟨P, w0, G0, V, LL, lk, N, φ0, fx⟩ rfl rfl rfl rfl
  unfold freshetlaw05_DiffSums at h
  refine Tri.seqS ?_
  refine Tri.reg ?_
  refine At.seg 1 [0, 1, 2] [] (s' := ⟨[(0, .c (.d (.list 1 p0.length (fun i => encInt .i64 (p0.getD i default))))), (1, .c (.d (.int .i64 p1))), (2, .c (.d (.int .i64 p2)))], []⟩) (c := True ∧ True) (by kernel_rfl) ⟨trivial, trivial⟩ ?_
  refine At.done rfl ?_
  show Tri _ _ _ _
  refine Tri.seqS ?_
  refine Tri.reg ?_
  refine At.seg 1 [0, 1, 2, 16] [] (s' := ⟨[(0, .c (.d (.list 1 p0.length (fun i => encInt .i64 (p0.getD i default))))), (1, .c (.d (.int .i64 p1))), (2, .c (.d (.int .i64 p2))), (16, .c (.d (.list 1 p0.length (fun i => encInt .i64 (p0.getD i default)))))], []⟩) (c := True ∧ True) (by kernel_rfl) ⟨trivial, trivial⟩ ?_
  obtain ⟨r1, hr1, h⟩ := bind_elim h
  refine At.callA (caps := []) (xs := [.c (.d (.list 1 p0.length (fun i => encInt .i64 (p0.getD i default))))]) (diff_Sum_ok hr1) rfl rfl rfl rfl rfl rfl (.cons (.refl _) .nil) rfl rfl ?_
  refine At.seg 5 [0, 1, 2, 7, 8] [] (s' := ⟨[(0, .c (.d (.list 1 p0.length (fun i => encInt .i64 (p0.getD i default))))), (1, .c (.d (.int .i64 p1))), (2, .c (.d (.int .i64 p2))), (7, .c (.d (.int .i64 r1.1))), (8, .c (.d (.int .i64 r1.2)))], []⟩) (c := True ∧ True ∧ True ∧ True ∧ True ∧ True) (by kernel_rfl) ⟨trivial, trivial, trivial, trivial, trivial, trivial⟩ ?_
  refine At.done rfl ?_
  show Tri _ _ _ _
  refine Tri.seqS ?_
  refine Tri.reg ?_
  refine At.seg 1 [1, 2, 7, 8, 21] [] (s' := ⟨[(1, .c (.d (.int .i64 p1))), (2, .c (.d (.int .i64 p2))), (7, .c (.d (.int .i64 r1.1))), (8, .c (.d (.int .i64 r1.2))), (21, .c (.d (.list 1 p0.length (fun i => encInt .i64 (p0.getD i default)))))], []⟩) (c := True ∧ True) (by kernel_rfl) ⟨trivial, trivial⟩ ?_
  obtain ⟨r2, hr2, h⟩ := bind_elim h
  refine At.callA (caps := []) (xs := [.c (.d (.list 1 p0.length (fun i => encInt .i64 (p0.getD i default))))]) (freshetref05_Sum_ok hr2) rfl rfl rfl rfl rfl rfl (.cons (.refl _) .nil) rfl rfl ?_
  refine At.seg 5 [1, 2, 7, 8, 9, 10] [] (s' := ⟨[(1, .c (.d (.int .i64 p1))), (2, .c (.d (.int .i64 p2))), (7, .c (.d (.int .i64 r1.1))), (8, .c (.d (.int .i64 r1.2))), (9, .c (.d (.int .i64 r2.1))), (10, .c (.d (.int .i64 r2.2)))], []⟩) (c := True ∧ True ∧ True ∧ True ∧ True ∧ True) (by kernel_rfl) ⟨trivial, trivial, trivial, trivial, trivial, trivial⟩ ?_
  refine At.done rfl ?_
  show Tri _ _ _ _
  refine Tri.seqS ?_
  refine Tri.reg ?_
  refine At.seg 2 [1, 2, 7, 8, 9, 10, 26, 27] [] (s' := ⟨[(1, .c (.d (.int .i64 p1))), (2, .c (.d (.int .i64 p2))), (7, .c (.d (.int .i64 r1.1))), (8, .c (.d (.int .i64 r1.2))), (9, .c (.d (.int .i64 r2.1))), (10, .c (.d (.int .i64 r2.2))), (26, .c (.d (.int .i64 p1))), (27, .c (.d (.int .i64 p2)))], []⟩) (c := True ∧ True ∧ True) (by kernel_rfl) ⟨trivial, trivial, trivial⟩ ?_
  obtain ⟨r3, hr3, h⟩ := bind_elim h
  refine At.callA (caps := []) (xs := [.c (.d (.int .i64 p1)), .c (.d (.int .i64 p2))]) (diff_Times_ok hr3) rfl rfl rfl rfl rfl rfl (.cons (.refl _) (.cons (.refl _) .nil)) rfl rfl ?_
  refine At.seg 5 [1, 2, 7, 8, 9, 10, 11, 12] [] (s' := ⟨[(1, .c (.d (.int .i64 p1))), (2, .c (.d (.int .i64 p2))), (7, .c (.d (.int .i64 r1.1))), (8, .c (.d (.int .i64 r1.2))), (9, .c (.d (.int .i64 r2.1))), (10, .c (.d (.int .i64 r2.2))), (11, .c (.d (.int .i64 r3.1))), (12, .c (.d (.int .i64 r3.2)))], []⟩) (c := True ∧ True ∧ True ∧ True ∧ True ∧ True) (by kernel_rfl) ⟨trivial, trivial, trivial, trivial, trivial, trivial⟩ ?_
  refine At.done rfl ?_
  show Tri _ _ _ _
  refine Tri.seqS ?_
  refine Tri.reg ?_
  refine At.seg 2 [7, 8, 9, 10, 11, 12, 32, 33] [] (s' := ⟨[(7, .c (.d (.int .i64 r1.1))), (8, .c (.d (.int .i64 r1.2))), (9, .c (.d (.int .i64 r2.1))), (10, .c (.d (.int .i64 r2.2))), (11, .c (.d (.int .i64 r3.1))), (12, .c (.d (.int .i64 r3.2))), (32, .c (.d (.int .i64 p1))), (33, .c (.d (.int .i64 p2)))], []⟩) (c := True ∧ True ∧ True) (by kernel_rfl) ⟨trivial, trivial, trivial⟩ ?_
  obtain ⟨r4, hr4, h⟩ := bind_elim h
  refine At.callA (caps := []) (xs := [.c (.d (.int .i64 p1)), .c (.d (.int .i64 p2))]) (freshetref05_Times_ok hr4) rfl rfl rfl rfl rfl rfl (.cons (.refl _) (.cons (.refl _) .nil)) rfl rfl ?_
  refine At.seg 5 [7, 8, 9, 10, 11, 12, 13, 14] [] (s' := ⟨[(7, .c (.d (.int .i64 r1.1))), (8, .c (.d (.int .i64 r1.2))), (9, .c (.d (.int .i64 r2.1))), (10, .c (.d (.int .i64 r2.2))), (11, .c (.d (.int .i64 r3.1))), (12, .c (.d (.int .i64 r3.2))), (13, .c (.d (.int .i64 r4.1))), (14, .c (.d (.int .i64 r4.2)))], []⟩) (c := True ∧ True ∧ True ∧ True ∧ True ∧ True) (by kernel_rfl) ⟨trivial, trivial, trivial, trivial, trivial, trivial⟩ ?_
  refine At.done rfl ?_
  show Tri _ _ _ _
  refine Tri.seqJ (fun (a5 : Bool) => ⟨[(6, .c (.d (.bool a5)))], []⟩) h (fun a5 h => ?_) (fun j6 h => ?_)
  · show Tri _ _ ⟨[(6, .c (.d (.bool a5)))], []⟩ _
    refine Tri.keep [6] [] (s' := ⟨[(6, .c (.d (.bool a5)))], []⟩) (by kernel_rfl) ?_
    refine Tri.ret ?_
    cases h
    refine ⟨_, _, rfl, ⟨trivial, trivial⟩, rfl, rfl, ?_⟩
    intro k c h
    cases h
  · refine Tri.reg ?_
    obtain ⟨r7, hr7, h⟩ := bind_elim h
    refine At.callA (caps := []) (xs := []) (freshetlaw05_sums_ok hr7) rfl rfl rfl rfl rfl rfl .nil rfl rfl ?_
    refine At.seg 1 [7, 8, 9, 10, 11, 12, 13, 14, 38] [] (s' := ⟨[(7, .c (.d (.int .i64 r1.1))), (8, .c (.d (.int .i64 r1.2))), (9, .c (.d (.int .i64 r2.1))), (10, .c (.d (.int .i64 r2.2))), (11, .c (.d (.int .i64 r3.1))), (12, .c (.d (.int .i64 r3.2))), (13, .c (.d (.int .i64 r4.1))), (14, .c (.d (.int .i64 r4.2))), (38, .c (.d (.bool r7)))], []⟩) (c := True ∧ True) (by kernel_rfl) ⟨trivial, trivial⟩ ?_
    refine At.case (fun b => ⟨[(7, .c (.d (.int .i64 r1.1))), (8, .c (.d (.int .i64 r1.2))), (9, .c (.d (.int .i64 r2.1))), (10, .c (.d (.int .i64 r2.2))), (11, .c (.d (.int .i64 r3.1))), (12, .c (.d (.int .i64 r3.2))), (13, .c (.d (.int .i64 r4.1))), (14, .c (.d (.int .i64 r4.2))), (38, .c (.d (.bool b)))], []⟩) (b := r7) h (fun h => ?_) (fun h => ?_)
    · refine At.seg 5 [8, 10, 11, 12, 13, 14, 43] [] (s' := ⟨[(8, .c (.d (.int .i64 r1.2))), (10, .c (.d (.int .i64 r2.2))), (11, .c (.d (.int .i64 r3.1))), (12, .c (.d (.int .i64 r3.2))), (13, .c (.d (.int .i64 r4.1))), (14, .c (.d (.int .i64 r4.2))), (43, .c (.d (.bool (decide (r1.1 = r2.1)))))], []⟩) (c := True ∧ True ∧ True ∧ True ∧ True ∧ True) (by kernel_rfl) ⟨trivial, trivial, trivial, trivial, trivial, trivial⟩ ?_
      refine At.case (fun b => ⟨[(8, .c (.d (.int .i64 r1.2))), (10, .c (.d (.int .i64 r2.2))), (11, .c (.d (.int .i64 r3.1))), (12, .c (.d (.int .i64 r3.2))), (13, .c (.d (.int .i64 r4.1))), (14, .c (.d (.int .i64 r4.2))), (43, .c (.d (.bool b)))], []⟩) (b := (decide (r1.1 = r2.1))) h (fun h => ?_) (fun h => ?_)
      · refine At.seg 5 [11, 12, 13, 14, 48] [] (s' := ⟨[(11, .c (.d (.int .i64 r3.1))), (12, .c (.d (.int .i64 r3.2))), (13, .c (.d (.int .i64 r4.1))), (14, .c (.d (.int .i64 r4.2))), (48, .c (.d (.bool (decide (r1.2 = r2.2)))))], []⟩) (c := True ∧ True ∧ True ∧ True ∧ True ∧ True) (by kernel_rfl) ⟨trivial, trivial, trivial, trivial, trivial, trivial⟩ ?_
        refine At.case (fun b => ⟨[(11, .c (.d (.int .i64 r3.1))), (12, .c (.d (.int .i64 r3.2))), (13, .c (.d (.int .i64 r4.1))), (14, .c (.d (.int .i64 r4.2))), (48, .c (.d (.bool b)))], []⟩) (b := (decide (r1.2 = r2.2))) h (fun h => ?_) (fun h => ?_)
        · refine At.seg 5 [12, 14, 53] [] (s' := ⟨[(12, .c (.d (.int .i64 r3.2))), (14, .c (.d (.int .i64 r4.2))), (53, .c (.d (.bool (decide (r3.1 = r4.1)))))], []⟩) (c := True ∧ True ∧ True ∧ True ∧ True ∧ True) (by kernel_rfl) ⟨trivial, trivial, trivial, trivial, trivial, trivial⟩ ?_
          refine At.case (fun b => ⟨[(12, .c (.d (.int .i64 r3.2))), (14, .c (.d (.int .i64 r4.2))), (53, .c (.d (.bool b)))], []⟩) (b := (decide (r3.1 = r4.1))) h (fun h => ?_) (fun h => ?_)
          · refine At.seg 5 [6] [] (s' := ⟨[(6, .c (.d (.bool (decide (r3.2 = r4.2)))))], []⟩) (c := True ∧ True ∧ True ∧ True ∧ True ∧ True) (by kernel_rfl) ⟨trivial, trivial, trivial, trivial, trivial, trivial⟩ ?_
            refine At.done rfl ?_
            exact ⟨_, h, rfl⟩
          · refine At.seg 5 [6] [] (s' := ⟨[(6, .c (.d (.bool false)))], []⟩) (c := True ∧ True ∧ True) (by kernel_rfl) ⟨trivial, trivial, trivial⟩ ?_
            refine At.done rfl ?_
            exact ⟨_, h, rfl⟩
        · refine At.seg 10 [6] [] (s' := ⟨[(6, .c (.d (.bool false)))], []⟩) (c := True ∧ True ∧ True ∧ True ∧ True) (by kernel_rfl) ⟨trivial, trivial, trivial, trivial, trivial⟩ ?_
          refine At.done rfl ?_
          exact ⟨_, h, rfl⟩
      · refine At.seg 15 [6] [] (s' := ⟨[(6, .c (.d (.bool false)))], []⟩) (c := True ∧ True ∧ True ∧ True ∧ True ∧ True ∧ True) (by kernel_rfl) ⟨trivial, trivial, trivial, trivial, trivial, trivial, trivial⟩ ?_
        refine At.done rfl ?_
        exact ⟨_, h, rfl⟩
    · refine At.seg 20 [6] [] (s' := ⟨[(6, .c (.d (.bool false)))], []⟩) (c := True ∧ True ∧ True ∧ True ∧ True ∧ True ∧ True ∧ True ∧ True) (by kernel_rfl) ⟨trivial, trivial, trivial, trivial, trivial, trivial, trivial, trivial, trivial⟩ ?_
      refine At.done rfl ?_
      exact ⟨_, h, rfl⟩

set_option maxRecDepth 100000 in
theorem diff_Sum_ok_v0 {p0 : List Int} {q : Int × Int} (h : diff_Sum p0 = some q) :
    Summ Try.prog 11 [.c (.view 1 p0.length (fun i => encInt .i64 (p0.getD i default)))] [] (.tup [(false, [.d (.int .i64 q.1)]), (false, [.d (.int .i64 q.2)])]) [] := by
  refine Summ.intro Try.func11 rfl (by kernel_rfl) (by kernel_rfl) [] rfl ?_
  rintro ⟨P, w0, G0, V, LL, lk, N, φ0, fx⟩ rfl rfl rfl rfl
  unfold diff_Sum at h
  refine Tri.seqS ?_
  refine Tri.reg ?_
  refine At.seg 2 [0] [] (s' := ⟨[(0, .c (.view 1 p0.length (fun i => encInt .i64 (p0.getD i default))))], []⟩) (c := True ∧ True ∧ True) (by kernel_rfl) ⟨trivial, trivial, trivial⟩ ?_
  refine At.done rfl ?_
  show Tri _ _ _ _
  refine Tri.seqS ?_
  refine Tri.reg ?_
  refine At.seg 1 [0, 4] [4] (s' := ⟨[(0, .c (.view 1 p0.length (fun i => encInt .i64 (p0.getD i default)))), (4, .c (.ptr 4 0))], [(4, .box [.d (.int .u64 0), .d (.int .u64 0)])]⟩) (c := True ∧ True) (by kernel_rfl) ⟨trivial, trivial⟩ ?_
  refine At.done rfl ?_
  show Tri _ _ _ _
  refine Tri.seqS ?_
  refine Tri.seqS ?_
  refine Tri.reg ?_
  refine At.seg 3 [4, 7, 8, 9] [4] (s' := ⟨[(4, .c (.ptr 4 0)), (7, .c (.view 1 p0.length (fun i => encInt .i64 (p0.getD i default)))), (8, .c (.d (.int .i64 (p0.length : Int)))), (9, .c (.d (.int .i64 0)))], [(4, .box [.d (.int .u64 0), .d (.int .u64 0)])]⟩) (c := True ∧ True ∧ True ∧ True) (by kernel_rfl) ⟨trivial, trivial, trivial, trivial⟩ ?_
  refine At.done rfl ?_
  show Tri _ _ _ _
  refine Tri.lenOfV (t := 7) rfl fun hlena2 => ?_
  refine Tri.keep [9, 4, 7, 8] [4] (s' := idx 9 0 ⟨[(4, .c (.ptr 4 0)), (7, .c (.view 1 p0.length (fun i => encInt .i64 (p0.getD i default)))), (8, .c (.d (.int .i64 (p0.length : Int))))], [(4, .box [.d (.int .u64 ((⟨0, 0⟩ : Tally).high)), .d (.int .u64 ((⟨0, 0⟩ : Tally).low))])]⟩) (by kernel_rfl) ?_
  refine Tri.range (n := p0.length) (st0 := (⟨0, 0⟩ : Tally)) (fun (x : Empty) s => False) (fun (a2 : Tally) => ⟨[(4, .c (.ptr 4 0)), (7, .c (.view 1 p0.length (fun i => encInt .i64 (p0.getD i default)))), (8, .c (.d (.int .i64 (p0.length : Int))))], [(4, .box [.d (.int .u64 a2.high), .d (.int .u64 a2.low)])]⟩) (fun (a2 : Tally) => ⟨[(4, .c (.ptr 4 0)), (7, .c (.view 1 p0.length (fun i => encInt .i64 (p0.getD i default)))), (8, .c (.d (.int .i64 (p0.length : Int))))], [(4, .box [.d (.int .u64 a2.high), .d (.int .u64 a2.low)])]⟩) (fun i => decide ((i : Int) < (p0.length : Int))) [10, 9, 4, 7, 8] [4] [4, 7, 8] [4] [9, 4, 7, 8] [4] h hlena2 rfl ?_ ?_ ?_ ?_ ?_ ?_ ?_ ?_
  · exact fun i a => ⟨True ∧ True, by kernel_rfl, ⟨trivial, trivial⟩⟩
  · exact fun i hi => decide_eq_true (by omega)
  · exact decide_eq_false (by omega)
  · exact fun a => by kernel_rfl
  · exact fun i a => ⟨True ∧ True ∧ True, by kernel_rfl, ⟨trivial, trivial, trivial⟩⟩
  · intro i1 a2 c hii1 h
    refine Tri.seqS ?_
    refine Tri.reg ?_
    refine At.seg 3 [4, 6, 7, 8, 9] [4] (s' := ⟨[(4, .c (.ptr 4 0)), (6, .c (.d (.int .i64 (p0.getD i1 default)))), (7, .c (.view 1 p0.length (fun i => encInt .i64 (p0.getD i default)))), (8, .c (.d (.int .i64 (p0.length : Int)))), (9, .c (.d (.int .i64 ((i1 : Nat) : Int))))], [(4, .box [.d (.int .u64 a2.high), .d (.int .u64 a2.low)])]⟩) (c := ((0 : Int) ≤ ((i1 : Nat) : Int) ∧ ((i1 : Nat) : Int) < (p0.length : Int)) ∧ True ∧ True ∧ True) (by kernel_rfl) ⟨⟨by omega, by omega⟩, trivial, trivial, trivial⟩ ?_
    refine At.done rfl ?_
    show Tri _ _ _ _
    refine Tri.reg ?_
    refine At.seg 1 [4, 7, 8, 9, 13] [4] (s' := ⟨[(4, .c (.ptr 4 0)), (7, .c (.view 1 p0.length (fun i => encInt .i64 (p0.getD i default)))), (8, .c (.d (.int .i64 (p0.length : Int)))), (9, .c (.d (.int .i64 ((i1 : Nat) : Int)))), (13, .c (.d (.int .i64 (p0.getD i1 default))))], [(4, .box [.d (.int .u64 a2.high), .d (.int .u64 a2.low)])]⟩) (c := True ∧ True) (by kernel_rfl) ⟨trivial, trivial⟩ ?_
    obtain ⟨r5, hr5, h⟩ := bind_elim h
    refine At.callL (nf := 0) (caps := []) (xs := [.c (.ptr 4 0), .c (.d (.int .i64 (p0.getD i1 default)))]) [(5000, 4)] [4, 7, 8, 9] [] (s0 := ⟨[(4, .c (.ptr 4 0)), (7, .c (.view 1 p0.length (fun i => encInt .i64 (p0.getD i default)))), (8, .c (.d (.int .i64 (p0.length : Int)))), (9, .c (.d (.int .i64 ((i1 : Nat) : Int))))], []⟩) (freshet_diff_tally_add_w_ok hr5) rfl rfl (by kernel_rfl) rfl (by kernel_rfl) (by kernel_rfl) (.ren rfl rfl (.flat (.refl _) rfl rfl .nil)) ⟨⟨by kernel_rfl, by kernel_rfl⟩, trivial⟩ (by kernel_rfl) (by kernel_rfl) (by kernel_rfl) (by kernel_rfl) (by kernel_rfl) (by kernel_rfl) (by kernel_rfl) (by kernel_rfl) (by kernel_rfl) ⟨[(14, .tup []), (4, .c (.ptr 4 0)), (7, .c (.view 1 p0.length (fun i => encInt .i64 (p0.getD i default)))), (8, .c (.d (.int .i64 (p0.length : Int)))), (9, .c (.d (.int .i64 ((i1 : Nat) : Int))))], [(4, .box [.d (.int .u64 r5.high), .d (.int .u64 r5.low)])]⟩ (by kernel_rfl) ?_
    refine At.keep [9, 4, 7, 8] [4] (s' := ⟨[(9, .c (.d (.int .i64 ((i1 : Nat) : Int)))), (4, .c (.ptr 4 0)), (7, .c (.view 1 p0.length (fun i => encInt .i64 (p0.getD i default)))), (8, .c (.d (.int .i64 (p0.length : Int))))], [(4, .box [.d (.int .u64 r5.high), .d (.int .u64 r5.low)])]⟩) (by kernel_rfl) ?_
    refine At.done rfl ?_
    cases h
    exact rfl
  · intro a3 h
    show Tri _ _ _ _
    refine Tri.seqS ?_
    refine Tri.reg ?_
    obtain ⟨r4, hr4, h⟩ := bind_elim h
    refine At.callL (nf := 0) (caps := []) (xs := [.c (.ptr 4 0)]) [(5000, 4)] [] [] (s0 := ⟨[], []⟩) (freshet_diff_tally_fit_w_ok hr4) rfl rfl (by kernel_rfl) rfl (by kernel_rfl) (by kernel_rfl) (.ren rfl rfl .nil) ⟨⟨by kernel_rfl, by kernel_rfl⟩, trivial⟩ (by kernel_rfl) (by kernel_rfl) (by kernel_rfl) (by kernel_rfl) (by kernel_rfl) (by kernel_rfl) (by kernel_rfl) (by kernel_rfl) (by kernel_rfl) ⟨[(16, .tup [(false, [.d (.int .i64 r4.1)]), (false, [.d (.int .i64 r4.2.1)])])], [(4, .box [.d (.int .u64 r4.2.2.high), .d (.int .u64 r4.2.2.low)])]⟩ (by kernel_rfl) ?_
    refine At.seg 4 [2, 3] [] (s' := ⟨[(2, .c (.d (.int .i64 r4.1))), (3, .c (.d (.int .i64 r4.2.1)))], []⟩) (c := True ∧ True ∧ True ∧ True ∧ True) (by kernel_rfl) ⟨trivial, trivial, trivial, trivial, trivial⟩ ?_
    refine At.done rfl ?_
    show Tri _ _ _ _
    refine Tri.keep [2, 3] [] (s' := ⟨[(2, .c (.d (.int .i64 r4.1))), (3, .c (.d (.int .i64 r4.2.1)))], []⟩) (by kernel_rfl) ?_
    refine Tri.ret ?_
    cases h
    refine ⟨_, _, rfl, ⟨trivial, ⟨trivial, trivial⟩⟩, rfl, rfl, ?_⟩
    intro k c h
    cases h
  · exact fun x => x.elim

set_option maxRecDepth 100000 in
theorem freshetlaw05_DiffNumbers_ok {fuel : Nat} {p0 : List Int} {p1 : Int} {p2 : Int} {q : Bool} (h : freshetlaw05_DiffNumbers fuel p0 p1 p2 = some q) :
    Summ Try.prog 4 [.c (.d (.list 1 p0.length (fun i => encInt .i64 (p0.getD i default)))), .c (.d (.int .i64 p1)), .c (.d (.int .u8 p2))] [] (.c (.d (.bool q))) [] := by
  refine Summ.intro Try.func4 rfl (by kernel_rfl) (by kernel_rfl) [] rfl ?_
  rintro ⟨P, w0, G0, V, LL, lk, N, φ0, fx⟩ rfl rfl rfl rfl
  unfold freshetlaw05_DiffNumbers at h
  refine Tri.seqS ?_
  refine Tri.reg ?_
  refine At.seg 1 [0, 1, 2] [] (s' := ⟨[(0, .c (.d (.list 1 p0.length (fun i => encInt .i64 (p0.getD i default))))), (1, .c (.d (.int .i64 p1))), (2, .c (.d (.int .u8 p2)))], []⟩) (c := True ∧ True) (by kernel_rfl) ⟨trivial, trivial⟩ ?_
  refine At.done rfl ?_
  show Tri _ _ _ _
  refine Tri.seqS ?_
  refine Tri.seqS ?_
  refine Tri.reg ?_
  obtain ⟨r1, hr1, h⟩ := bind_elim h
  refine At.callA (caps := []) (xs := []) (freshetlaw05_sums_ok hr1) rfl rfl rfl rfl rfl rfl .nil rfl rfl ?_
  refine At.seg 1 [0, 1, 2, 23] [] (s' := ⟨[(0, .c (.d (.list 1 p0.length (fun i => encInt .i64 (p0.getD i default))))), (1, .c (.d (.int .i64 p1))), (2, .c (.d (.int .u8 p2))), (23, .c (.d (.bool (!r1))))], []⟩) (c := True ∧ True) (by kernel_rfl) ⟨trivial, trivial⟩ ?_
  refine At.done rfl ?_
  show Tri _ _ _ _
  refine Tri.condP (b := (!r1)) rfl h (fun h => ?_) (fun h => ?_)
  · refine Tri.seqS ?_
    refine Tri.reg ?_
    refine At.seg 1 [6] [] (s' := ⟨[(6, .c (.d (.bool false)))], []⟩) (c := True ∧ True) (by kernel_rfl) ⟨trivial, trivial⟩ ?_
    refine At.done rfl ?_
    show Tri _ _ _ _
    refine Tri.keep [6] [] (s' := ⟨[(6, .c (.d (.bool false)))], []⟩) (by kernel_rfl) ?_
    refine Tri.ret ?_
    cases h
    refine ⟨_, _, rfl, ⟨trivial, trivial⟩, rfl, rfl, ?_⟩
    intro k c h
    cases h
  · refine Tri.skip ?_
    show Tri _ _ _ _
    refine Tri.seqS ?_
    refine Tri.reg ?_
    refine At.seg 2 [0, 1, 2, 7, 8] [] (s' := ⟨[(0, .c (.d (.list 1 p0.length (fun i => encInt .i64 (p0.getD i default))))), (1, .c (.d (.int .i64 p1))), (2, .c (.d (.int .u8 p2))), (7, .c (.zero)), (8, .c (.zero))], []⟩) (c := True ∧ True ∧ True) (by kernel_rfl) ⟨trivial, trivial, trivial⟩ ?_
    refine At.done rfl ?_
    show Tri _ _ _ _
    refine Tri.seqS ?_
    refine Tri.seqS ?_
    refine Tri.reg ?_
    refine At.seg 4 [0, 1, 2, 7, 8, 9] [] (s' := ⟨[(0, .c (.d (.list 1 p0.length (fun i => encInt .i64 (p0.getD i default))))), (1, .c (.d (.int .i64 p1))), (2, .c (.d (.int .u8 p2))), (7, .c (.zero)), (8, .c (.zero)), (9, .c (.d (.int .i64 (IntKind.i64.wrap ((p0.length : Int) - 1)))))], []⟩) (c := True ∧ True ∧ True ∧ True ∧ True) (by kernel_rfl) ⟨trivial, trivial, trivial, trivial, trivial⟩ ?_
    refine At.done rfl ?_
    show Tri _ _ _ _
    refine Tri.newOwn (t := 7) (k := 1007) (es := 1) (fun i => encInt .i64 (([] : List Int).getD i default)) rfl rfl rfl ?_
    refine Tri.newOwn (t := 8) (k := 1008) (es := 1) (fun i => encInt .i64 (([] : List Int).getD i default)) rfl rfl rfl ?_
    refine Tri.keep [0, 1, 2, 7, 8, 9] [1007, 1008] (s' := ⟨[(0, .c (.d (.list 1 p0.length (fun i => encInt .i64 (p0.getD i default))))), (1, .c (.d (.int .i64 p1))), (2, .c (.d (.int .u8 p2))), (7, .c (.own 1007 1 0 (([] : List Int).length))), (8, .c (.own 1008 1 0 (([] : List Int).length))), (9, .c (.d (.int .i64 (IntKind.i64.wrap ((p0.length : Int) - 1)))))], [(1007, .vec 1 ([] : List Int).length (fun i => encInt .i64 (([] : List Int).getD i default))), (1008, .vec 1 ([] : List Int).length (fun i => encInt .i64 (([] : List Int).getD i default)))]⟩) (by kernel_rfl) ?_
    refine Tri.loopK (fuel := fuel) (st0 := ((IntKind.i64.wrap ((p0.length : Int) - 1)), ([] : List Int), ([] : List Int))) (fun (x : Empty) s => False) (fun (a2 : Int × (List Int) × (List Int)) => ⟨[(0, .c (.d (.list 1 p0.length (fun i => encInt .i64 (p0.getD i default))))), (1, .c (.d (.int .i64 p1))), (2, .c (.d (.int .u8 p2))), (7, .c (.own 1007 1 0 a2.2.1.length)), (8, .c (.own 1008 1 0 a2.2.2.length)), (9, .c (.d (.int .i64 a2.1)))], [(1007, .vec 1 a2.2.1.length (fun i => encInt .i64 (a2.2.1.getD i default))), (1008, .vec 1 a2.2.2.length (fun i => encInt .i64 (a2.2.2.getD i default)))]⟩) (fun (a2 : Int × (List Int) × (List Int)) => ⟨[(0, .c (.d (.list 1 p0.length (fun i => encInt .i64 (p0.getD i default))))), (1, .c (.d (.int .i64 p1))), (2, .c (.d (.int .u8 p2))), (7, .c (.own 1007 1 0 a2.2.1.length)), (8, .c (.own 1008 1 0 a2.2.2.length)), (9, .c (.d (.int .i64 a2.1)))], [(1007, .vec 1 a2.2.1.length (fun i => encInt .i64 (a2.2.1.getD i default))), (1008, .vec 1 a2.2.2.length (fun i => encInt .i64 (a2.2.2.getD i default)))]⟩) h ?_ ?_ ?_
    · intro a2 c h
      show Tri _ _ ⟨[(0, .c (.d (.list 1 p0.length (fun i => encInt .i64 (p0.getD i default))))), (1, .c (.d (.int .i64 p1))), (2, .c (.d (.int .u8 p2))), (7, .c (.own 1007 1 0 a2.2.1.length)), (8, .c (.own 1008 1 0 a2.2.2.length)), (9, .c (.d (.int .i64 a2.1)))], [(1007, .vec 1 a2.2.1.length (fun i => encInt .i64 (a2.2.1.getD i default))), (1008, .vec 1 a2.2.2.length (fun i => encInt .i64 (a2.2.2.getD i default)))]⟩ _
      refine Tri.seqS ?_
      refine Tri.seqS ?_
      refine Tri.reg ?_
      refine At.seg 2 [0, 1, 2, 7, 8, 9, 28] [1007, 1008] (s' := ⟨[(0, .c (.d (.list 1 p0.length (fun i => encInt .i64 (p0.getD i default))))), (1, .c (.d (.int .i64 p1))), (2, .c (.d (.int .u8 p2))), (7, .c (.own 1007 1 0 a2.2.1.length)), (8, .c (.own 1008 1 0 a2.2.2.length)), (9, .c (.d (.int .i64 a2.1))), (28, .c (.d (.bool (decide (0 ≤ a2.1)))))], [(1007, .vec 1 a2.2.1.length (fun i => encInt .i64 (a2.2.1.getD i default))), (1008, .vec 1 a2.2.2.length (fun i => encInt .i64 (a2.2.2.getD i default)))]⟩) (c := True ∧ True ∧ True) (by kernel_rfl) ⟨trivial, trivial, trivial⟩ ?_
      refine At.done rfl ?_
      show Tri _ _ _ _
      refine Tri.condP (b := (decide (0 ≤ a2.1))) rfl h (fun h => ?_) (fun h => ?_)
      · refine Tri.skip ?_
        show Tri _ _ _ _
        refine Tri.seqJ (fun (a14 : List Int) => ⟨[(0, .c (.d (.list 1 p0.length (fun i => encInt .i64 (p0.getD i default))))), (1, .c (.d (.int .i64 p1))), (2, .c (.d (.int .u8 p2))), (7, .c (.own 1007 1 0 ((a2.2.1 ++ ([(p0.getD a2.1.toNat default)] : List Int)).length))), (8, .c (.own 1008 1 0 a14.length)), (9, .c (.d (.int .i64 a2.1)))], [(1007, .vec 1 (a2.2.1 ++ ([(p0.getD a2.1.toNat default)] : List Int)).length (fun i => encInt .i64 ((a2.2.1 ++ ([(p0.getD a2.1.toNat default)] : List Int)).getD i default))), (1008, .vec 1 a14.length (fun i => encInt .i64 (a14.getD i default)))]⟩) h (fun a14 h => ?_) (fun j15 h => ?_)
        · show Tri _ _ ⟨[(0, .c (.d (.list 1 p0.length (fun i => encInt .i64 (p0.getD i default))))), (1, .c (.d (.int .i64 p1))), (2, .c (.d (.int .u8 p2))), (7, .c (.own 1007 1 0 ((a2.2.1 ++ ([(p0.getD a2.1.toNat default)] : List Int)).length))), (8, .c (.own 1008 1 0 a14.length)), (9, .c (.d (.int .i64 a2.1)))], [(1007, .vec 1 (a2.2.1 ++ ([(p0.getD a2.1.toNat default)] : List Int)).length (fun i => encInt .i64 ((a2.2.1 ++ ([(p0.getD a2.1.toNat default)] : List Int)).getD i default))), (1008, .vec 1 a14.length (fun i => encInt .i64 (a14.getD i default)))]⟩ _
          refine Tri.reg ?_
          refine At.seg 3 [0, 1, 2, 7, 8, 9] [1007, 1008] (s' := ⟨[(0, .c (.d (.list 1 p0.length (fun i => encInt .i64 (p0.getD i default))))), (1, .c (.d (.int .i64 p1))), (2, .c (.d (.int .u8 p2))), (7, .c (.own 1007 1 0 ((a2.2.1 ++ ([(p0.getD a2.1.toNat default)] : List Int)).length))), (8, .c (.own 1008 1 0 a14.length)), (9, .c (.d (.int .i64 (IntKind.i64.wrap (a2.1 - 1)))))], [(1007, .vec 1 (a2.2.1 ++ ([(p0.getD a2.1.toNat default)] : List Int)).length (fun i => encInt .i64 ((a2.2.1 ++ ([(p0.getD a2.1.toNat default)] : List Int)).getD i default))), (1008, .vec 1 a14.length (fun i => encInt .i64 (a14.getD i default)))]⟩) (c := True ∧ True ∧ True ∧ True) (by kernel_rfl) ⟨trivial, trivial, trivial, trivial⟩ ?_
          refine At.done rfl ?_
          cases h
          exact rfl
        · refine Tri.blockB ?_
          refine Tri.seqS ?_
          refine Tri.reg ?_
          obtain ⟨hc16, h⟩ := need_elim h
          refine At.seg 5 [0, 1, 2, 8, 9, 31, 35] [1007, 1008] (s' := ⟨[(0, .c (.d (.list 1 p0.length (fun i => encInt .i64 (p0.getD i default))))), (1, .c (.d (.int .i64 p1))), (2, .c (.d (.int .u8 p2))), (8, .c (.own 1008 1 0 a2.2.2.length)), (9, .c (.d (.int .i64 a2.1))), (31, .c (.own 1007 1 0 a2.2.1.length)), (35, .c (.d (.int .i64 (p0.getD a2.1.toNat default))))], [(1007, .vec 1 a2.2.1.length (fun i => encInt .i64 (a2.2.1.getD i default))), (1008, .vec 1 a2.2.2.length (fun i => encInt .i64 (a2.2.2.getD i default)))]⟩) (c := True ∧ True ∧ True ∧ ((0 : Int) ≤ a2.1 ∧ a2.1 < (p0.length : Int)) ∧ True ∧ True) (by kernel_rfl) ⟨trivial, trivial, trivial, hc16, trivial, trivial⟩ ?_
          refine At.one rfl (One.buildSlice (z := [.d (.int .i64 0)]) (cells := [.d (.int .i64 (p0.getD a2.1.toNat default))]) (xs := List.map (encInt .i64) ([(p0.getD a2.1.toNat default)] : List Int)) rfl rfl rfl rfl (by kernel_rfl) rfl rfl (by kernel_rfl) rfl rfl rfl (by kernel_rfl) rfl ⟨⟨rfl, .refl _⟩, trivial⟩) ?_
          refine At.le [36] (fun k _ h => by cases h) ⟨[(36, .c (.d (.list 1 ([(p0.getD a2.1.toNat default)] : List Int).length (fun i => encInt .i64 (([(p0.getD a2.1.toNat default)] : List Int).getD i default))))), (0, .c (.d (.list 1 p0.length (fun i => encInt .i64 (p0.getD i default))))), (1, .c (.d (.int .i64 p1))), (2, .c (.d (.int .u8 p2))), (8, .c (.own 1008 1 0 a2.2.2.length)), (9, .c (.d (.int .i64 a2.1))), (31, .c (.own 1007 1 0 a2.2.1.length)), (35, .c (.d (.int .i64 (p0.getD a2.1.toNat default))))], [(1007, .vec 1 a2.2.1.length (fun i => encInt .i64 (a2.2.1.getD i default))), (1008, .vec 1 a2.2.2.length (fun i => encInt .i64 (a2.2.2.getD i default)))]⟩ ⟨⟨_, rfl, .c (.own rfl (List.mem_singleton.2 rfl) (Nat.le_of_ble_eq_true rfl) rfl (encs_getD (encInt .i64) ([(p0.getD a2.1.toNat default)] : List Int)))⟩, ⟨_, rfl, .refl _⟩, ⟨_, rfl, .refl _⟩, ⟨_, rfl, .refl _⟩, ⟨_, rfl, .refl _⟩, ⟨_, rfl, .refl _⟩, ⟨_, rfl, .refl _⟩, ⟨_, rfl, .refl _⟩, trivial⟩ ⟨⟨_, rfl, .refl _, (by simp)⟩, ⟨_, rfl, .refl _, (by simp)⟩, trivial⟩ ?_
          obtain ⟨hc17, h⟩ := need_elim h
          refine At.one rfl (One.appendT (e := 2) (es := 1) (encInt .i64) a2.2.1 ([(p0.getD a2.1.toNat default)] : List Int) rfl rfl rfl rfl rfl (.of 2 8 [.d (.int .i64 0)] (by kernel_rfl) (by kernel_rfl) (by kernel_rfl) (by kernel_rfl) rfl (by kernel_rfl) rfl) rfl rfl rfl (.list rfl (fun _ _ => rfl)) hc17) ?_
          refine At.seg 1 [0, 1, 2, 7, 8, 9] [1007, 1008] (s' := ⟨[(0, .c (.d (.list 1 p0.length (fun i => encInt .i64 (p0.getD i default))))), (1, .c (.d (.int .i64 p1))), (2, .c (.d (.int .u8 p2))), (7, .c (.own 1007 1 0 ((a2.2.1 ++ ([(p0.getD a2.1.toNat default)] : List Int)).length))), (8, .c (.own 1008 1 0 a2.2.2.length)), (9, .c (.d (.int .i64 a2.1)))], [(1007, .vec 1 (a2.2.1 ++ ([(p0.getD a2.1.toNat default)] : List Int)).length (fun i => encInt .i64 ((a2.2.1 ++ ([(p0.getD a2.1.toNat default)] : List Int)).getD i default))), (1008, .vec 1 a2.2.2.length (fun i => encInt .i64 (a2.2.2.getD i default)))]⟩) (c := True ∧ True) (by kernel_rfl) ⟨trivial, trivial⟩ ?_
          refine At.done rfl ?_
          show Tri _ _ _ _
          refine Tri.seqS ?_
          refine Tri.reg ?_
          obtain ⟨hc18, h⟩ := need_elim h
          refine At.seg 5 [0, 1, 2, 7, 8, 9, 42] [1007, 1008] (s' := ⟨[(0, .c (.d (.list 1 p0.length (fun i => encInt .i64 (p0.getD i default))))), (1, .c (.d (.int .i64 p1))), (2, .c (.d (.int .u8 p2))), (7, .c (.own 1007 1 0 ((a2.2.1 ++ ([(p0.getD a2.1.toNat default)] : List Int)).length))), (8, .c (.own 1008 1 0 a2.2.2.length)), (9, .c (.d (.int .i64 a2.1))), (42, .c (.d (.bool (decide ((-9223372036854775807) < (p0.getD a2.1.toNat default))))))], [(1007, .vec 1 (a2.2.1 ++ ([(p0.getD a2.1.toNat default)] : List Int)).length (fun i => encInt .i64 ((a2.2.1 ++ ([(p0.getD a2.1.toNat default)] : List Int)).getD i default))), (1008, .vec 1 a2.2.2.length (fun i => encInt .i64 (a2.2.2.getD i default)))]⟩) (c := True ∧ True ∧ ((0 : Int) ≤ a2.1 ∧ a2.1 < (p0.length : Int)) ∧ True ∧ True ∧ True) (by kernel_rfl) ⟨trivial, trivial, hc18, trivial, trivial, trivial⟩ ?_
          refine At.done rfl ?_
          show Tri _ _ _ _
          refine Tri.condP (b := (decide ((-9223372036854775807) < (p0.getD a2.1.toNat default)))) rfl h (fun h => ?_) (fun h => ?_)
          · obtain ⟨hc19, h⟩ := need_elim h
            obtain ⟨hc20, h⟩ := need_elim h
            obtain ⟨hc21, h⟩ := need_elim h
            refine Tri.drawn (specs := [⟨⟨[(8, .c (.own 1008 1 0 a2.2.2.length))], []⟩, ⟨[(43, .c (.own 1008 1 0 a2.2.2.length))], []⟩, [], [], []⟩, ⟨⟨[(0, .c (.d (.list 1 p0.length (fun i => encInt .i64 (p0.getD i default)))))], []⟩, ⟨[(44, .c (.d (.list 1 p0.length (fun i => encInt .i64 (p0.getD i default)))))], []⟩, [], [], []⟩, ⟨⟨[(9, .c (.d (.int .i64 a2.1)))], []⟩, ⟨[(45, .c (.d (.int .i64 a2.1)))], []⟩, [], [], []⟩, ⟨⟨[(44, .c (.d (.list 1 p0.length (fun i => encInt .i64 (p0.getD i default))))), (45, .c (.d (.int .i64 a2.1)))], []⟩, ⟨[(46, .c (.eptr [.int .i64 (p0.getD a2.1.toNat default)]))], []⟩, [], [], []⟩, ⟨⟨[(46, .c (.eptr [.int .i64 (p0.getD a2.1.toNat default)]))], []⟩, ⟨[(47, .c (.d (.int .i64 (p0.getD a2.1.toNat default))))], []⟩, [], [], []⟩, ⟨⟨[(0, .c (.d (.list 1 p0.length (fun i => encInt .i64 (p0.getD i default)))))], []⟩, ⟨[(48, .c (.d (.list 1 p0.length (fun i => encInt .i64 (p0.getD i default)))))], []⟩, [], [], []⟩, ⟨⟨[(9, .c (.d (.int .i64 a2.1)))], []⟩, ⟨[(49, .c (.d (.int .i64 a2.1)))], []⟩, [], [], []⟩, ⟨⟨[(48, .c (.d (.list 1 p0.length (fun i => encInt .i64 (p0.getD i default))))), (49, .c (.d (.int .i64 a2.1)))], []⟩, ⟨[(50, .c (.eptr [.int .i64 (p0.getD a2.1.toNat default)]))], []⟩, [], [], []⟩, ⟨⟨[(50, .c (.eptr [.int .i64 (p0.getD a2.1.toNat default)]))], []⟩, ⟨[(51, .c (.d (.int .i64 (p0.getD a2.1.toNat default))))], []⟩, [], [], []⟩, ⟨⟨[(51, .c (.d (.int .i64 (p0.getD a2.1.toNat default))))], []⟩, ⟨[(52, .c (.d (.int .i64 (IntKind.i64.wrap (0 - (p0.getD a2.1.toNat default))))))], []⟩, [], [], []⟩, ⟨⟨[(47, .c (.d (.int .i64 (p0.getD a2.1.toNat default)))), (52, .c (.d (.int .i64 (IntKind.i64.wrap (0 - (p0.getD a2.1.toNat default))))))], []⟩, ⟨[(53, .c (.own 53 1 0 (([(p0.getD a2.1.toNat default), (IntKind.i64.wrap (0 - (p0.getD a2.1.toNat default)))] : List Int).length)))], [(53, .vec 1 ([(p0.getD a2.1.toNat default), (IntKind.i64.wrap (0 - (p0.getD a2.1.toNat default)))] : List Int).length (fun i => encInt .i64 (([(p0.getD a2.1.toNat default), (IntKind.i64.wrap (0 - (p0.getD a2.1.toNat default)))] : List Int).getD i default)))]⟩, [53], [], []⟩, ⟨⟨[(8, .c (.own 1008 1 0 a2.2.2.length)), (43, .c (.own 1008 1 0 a2.2.2.length)), (53, .c (.own 53 1 0 (([(p0.getD a2.1.toNat default), (IntKind.i64.wrap (0 - (p0.getD a2.1.toNat default)))] : List Int).length)))], [(53, .vec 1 ([(p0.getD a2.1.toNat default), (IntKind.i64.wrap (0 - (p0.getD a2.1.toNat default)))] : List Int).length (fun i => encInt .i64 (([(p0.getD a2.1.toNat default), (IntKind.i64.wrap (0 - (p0.getD a2.1.toNat default)))] : List Int).getD i default))), (1008, .vec 1 a2.2.2.length (fun i => encInt .i64 (a2.2.2.getD i default)))]⟩, ⟨[(54, .c (.own 1008 1 0 ((a2.2.2 ++ ([(p0.getD a2.1.toNat default), (IntKind.i64.wrap (0 - (p0.getD a2.1.toNat default)))] : List Int)).length))), (8, .c (.any)), (43, .c (.any))], [(1008, .vec 1 (a2.2.2 ++ ([(p0.getD a2.1.toNat default), (IntKind.i64.wrap (0 - (p0.getD a2.1.toNat default)))] : List Int)).length (fun i => encInt .i64 ((a2.2.2 ++ ([(p0.getD a2.1.toNat default), (IntKind.i64.wrap (0 - (p0.getD a2.1.toNat default)))] : List Int)).getD i default)))]⟩, [1008], [8, 43], []⟩, ⟨⟨[(54, .c (.own 1008 1 0 ((a2.2.2 ++ ([(p0.getD a2.1.toNat default), (IntKind.i64.wrap (0 - (p0.getD a2.1.toNat default)))] : List Int)).length)))], []⟩, ⟨[(8, .c (.own 1008 1 0 ((a2.2.2 ++ ([(p0.getD a2.1.toNat default), (IntKind.i64.wrap (0 - (p0.getD a2.1.toNat default)))] : List Int)).length)))], []⟩, [], [], []⟩]) (bef := [[], [], [], [1, 2], [1, 2, 3], [], [], [5, 6], [5, 6, 7], [5, 6, 7, 8], [1, 2, 3, 4, 5, 6, 7, 8, 9], [0, 1, 2, 3, 4, 5, 6, 7, 8, 9, 10], [0, 1, 2, 3, 4, 5, 6, 7, 8, 9, 10, 11]]) (tk := [0, 1, 2, 7, 8, 9]) (sk := [1007, 1008]) (s' := ⟨[(0, .c (.d (.list 1 p0.length (fun i => encInt .i64 (p0.getD i default))))), (1, .c (.d (.int .i64 p1))), (2, .c (.d (.int .u8 p2))), (7, .c (.own 1007 1 0 ((a2.2.1 ++ ([(p0.getD a2.1.toNat default)] : List Int)).length))), (8, .c (.own 1008 1 0 ((a2.2.2 ++ ([(p0.getD a2.1.toNat default), (IntKind.i64.wrap (0 - (p0.getD a2.1.toNat default)))] : List Int)).length))), (9, .c (.d (.int .i64 a2.1)))], [(1007, .vec 1 (a2.2.1 ++ ([(p0.getD a2.1.toNat default)] : List Int)).length (fun i => encInt .i64 ((a2.2.1 ++ ([(p0.getD a2.1.toNat default)] : List Int)).getD i default))), (1008, .vec 1 (a2.2.2 ++ ([(p0.getD a2.1.toNat default), (IntKind.i64.wrap (0 - (p0.getD a2.1.toNat default)))] : List Int)).length (fun i => encInt .i64 ((a2.2.2 ++ ([(p0.getD a2.1.toNat default), (IntKind.i64.wrap (0 - (p0.getD a2.1.toNat default)))] : List Int)).getD i default)))]⟩) (by kernel_rfl) (by kernel_rfl) (by kernel_rfl) ⟨?_, ?_, ?_, ?_, ?_, ?_, ?_, ?_, ?_, ?_, ?_, ?_, ?_, trivial⟩ (by kernel_rfl) ?_
            · exact DOk.step (.val (.c (.own 1008 1 0 a2.2.2.length)) (True)) (fun r => by kernel_rfl) (fun r => by kernel_rfl) trivial (by kernel_rfl) (by kernel_rfl) (fun r => rfl)
            · exact DOk.step (.val (.c (.d (.list 1 p0.length (fun i => encInt .i64 (p0.getD i default))))) (True)) (fun r => by kernel_rfl) (fun r => by kernel_rfl) trivial (by kernel_rfl) (by kernel_rfl) (fun r => rfl)
            · exact DOk.step (.val (.c (.d (.int .i64 a2.1))) (True)) (fun r => by kernel_rfl) (fun r => by kernel_rfl) trivial (by kernel_rfl) (by kernel_rfl) (fun r => rfl)
            · exact DOk.step (.val (.c (.eptr [.int .i64 (p0.getD a2.1.toNat default)])) ((0 : Int) ≤ a2.1 ∧ a2.1 < (p0.length : Int))) (fun r => by kernel_rfl) (fun r => by kernel_rfl) hc19 (by kernel_rfl) (by kernel_rfl) (fun r => rfl)
            · exact DOk.step (.val (.c (.d (.int .i64 (p0.getD a2.1.toNat default)))) (True)) (fun r => by kernel_rfl) (fun r => by kernel_rfl) trivial (by kernel_rfl) (by kernel_rfl) (fun r => rfl)
            · exact DOk.step (.val (.c (.d (.list 1 p0.length (fun i => encInt .i64 (p0.getD i default))))) (True)) (fun r => by kernel_rfl) (fun r => by kernel_rfl) trivial (by kernel_rfl) (by kernel_rfl) (fun r => rfl)
            · exact DOk.step (.val (.c (.d (.int .i64 a2.1))) (True)) (fun r => by kernel_rfl) (fun r => by kernel_rfl) trivial (by kernel_rfl) (by kernel_rfl) (fun r => rfl)
            · exact DOk.step (.val (.c (.eptr [.int .i64 (p0.getD a2.1.toNat default)])) ((0 : Int) ≤ a2.1 ∧ a2.1 < (p0.length : Int))) (fun r => by kernel_rfl) (fun r => by kernel_rfl) hc20 (by kernel_rfl) (by kernel_rfl) (fun r => rfl)
            · exact DOk.step (.val (.c (.d (.int .i64 (p0.getD a2.1.toNat default)))) (True)) (fun r => by kernel_rfl) (fun r => by kernel_rfl) trivial (by kernel_rfl) (by kernel_rfl) (fun r => rfl)
            · exact DOk.step (.val (.c (.d (.int .i64 (IntKind.i64.wrap (0 - (p0.getD a2.1.toNat default)))))) (True)) (fun r => by kernel_rfl) (fun r => by kernel_rfl) trivial (by kernel_rfl) (by kernel_rfl) (fun r => rfl)
            · exact DOk.one fun r hr => One.buildT (e := 2) (es := 1) (z := [.d (.int .i64 0)]) (cells := [.d (.int .i64 (p0.getD a2.1.toNat default)), .d (.int .i64 (IntKind.i64.wrap (0 - (p0.getD a2.1.toNat default))))]) (encInt .i64) ([(p0.getD a2.1.toNat default), (IntKind.i64.wrap (0 - (p0.getD a2.1.toNat default)))] : List Int) rfl (by kernel_rfl) rfl rfl (St.noRef_app (by kernel_rfl) (hr 53 (by simp))) (by kernel_rfl) rfl (by kernel_rfl) rfl rfl rfl (by kernel_rfl) rfl ⟨⟨rfl, .refl _⟩, ⟨rfl, .refl _⟩, trivial⟩
            · exact DOk.drop (k := 1008) (d := 54) (v := .vec 1 (a2.2.2 ++ ([(p0.getD a2.1.toNat default), (IntKind.i64.wrap (0 - (p0.getD a2.1.toNat default)))] : List Int)).length (fun i => encInt .i64 ((a2.2.2 ++ ([(p0.getD a2.1.toNat default), (IntKind.i64.wrap (0 - (p0.getD a2.1.toNat default)))] : List Int)).getD i default))) (av := .c (.own 1008 1 0 ((a2.2.2 ++ ([(p0.getD a2.1.toNat default), (IntKind.i64.wrap (0 - (p0.getD a2.1.toNat default)))] : List Int)).length))) rfl (fun r hr => One.appendT (e := 2) (es := 1) (encInt .i64) a2.2.2 ([(p0.getD a2.1.toNat default), (IntKind.i64.wrap (0 - (p0.getD a2.1.toNat default)))] : List Int) rfl rfl (by kernel_rfl) rfl rfl (.of 2 8 [.d (.int .i64 0)] (by kernel_rfl) (by kernel_rfl) (by kernel_rfl) (by kernel_rfl) rfl (by kernel_rfl) rfl) rfl rfl rfl (.own rfl (by simp) rfl (shift0 (encInt .i64) ([(p0.getD a2.1.toNat default), (IntKind.i64.wrap (0 - (p0.getD a2.1.toNat default)))] : List Int) _)) hc21) (by kernel_rfl) (by kernel_rfl) (by kernel_rfl) (by kernel_rfl)
            · exact DOk.step (.val (.c (.own 1008 1 0 ((a2.2.2 ++ ([(p0.getD a2.1.toNat default), (IntKind.i64.wrap (0 - (p0.getD a2.1.toNat default)))] : List Int)).length))) (True)) (fun r => by kernel_rfl) (fun r => by kernel_rfl) trivial (by kernel_rfl) (by kernel_rfl) (fun r => rfl)
            exact ⟨_, h, rfl⟩
          · refine Tri.keep [0, 1, 2, 7, 8, 9] [1007, 1008] (s' := ⟨[(0, .c (.d (.list 1 p0.length (fun i => encInt .i64 (p0.getD i default))))), (1, .c (.d (.int .i64 p1))), (2, .c (.d (.int .u8 p2))), (7, .c (.own 1007 1 0 ((a2.2.1 ++ ([(p0.getD a2.1.toNat default)] : List Int)).length))), (8, .c (.own 1008 1 0 a2.2.2.length)), (9, .c (.d (.int .i64 a2.1)))], [(1007, .vec 1 (a2.2.1 ++ ([(p0.getD a2.1.toNat default)] : List Int)).length (fun i => encInt .i64 ((a2.2.1 ++ ([(p0.getD a2.1.toNat default)] : List Int)).getD i default))), (1008, .vec 1 a2.2.2.length (fun i => encInt .i64 (a2.2.2.getD i default)))]⟩) (by kernel_rfl) ?_
            refine Tri.skip ?_
            exact ⟨_, h, rfl⟩
      · refine Tri.keep [0, 1, 2, 7, 8, 9] [1007, 1008] (s' := ⟨[(0, .c (.d (.list 1 p0.length (fun i => encInt .i64 (p0.getD i default))))), (1, .c (.d (.int .i64 p1))), (2, .c (.d (.int .u8 p2))), (7, .c (.own 1007 1 0 a2.2.1.length)), (8, .c (.own 1008 1 0 a2.2.2.length)), (9, .c (.d (.int .i64 a2.1)))], [(1007, .vec 1 a2.2.1.length (fun i => encInt .i64 (a2.2.1.getD i default))), (1008, .vec 1 a2.2.2.length (fun i => encInt .i64 (a2.2.2.getD i default)))]⟩) (by kernel_rfl) ?_
        refine Tri.exit ?_
        cases h
        exact ⟨rfl, rfl⟩
    · intro a3 h
      show Tri _ _ _ _
      refine Tri.seqS ?_
      refine Tri.reg ?_
      refine At.seg 1 [1, 2, 7, 8, 56] [1007, 1008] (s' := ⟨[(1, .c (.d (.int .i64 p1))), (2, .c (.d (.int .u8 p2))), (7, .c (.own 1007 1 0 a3.2.1.length)), (8, .c (.own 1008 1 0 a3.2.2.length)), (56, .c (.d (.list 1 p0.length (fun i => encInt .i64 (p0.getD i default)))))], [(1007, .vec 1 a3.2.1.length (fun i => encInt .i64 (a3.2.1.getD i default))), (1008, .vec 1 a3.2.2.length (fun i => encInt .i64 (a3.2.2.getD i default)))]⟩) (c := True ∧ True) (by kernel_rfl) ⟨trivial, trivial⟩ ?_
      obtain ⟨r4, hr4, h⟩ := bind_elim h
      refine At.callA (caps := []) (xs := [.c (.d (.list 1 p0.length (fun i => encInt .i64 (p0.getD i default))))]) (diff_Sum_ok hr4) rfl rfl rfl rfl rfl rfl (.cons (.refl _) .nil) rfl rfl ?_
      refine At.seg 5 [1, 2, 7, 8, 10, 11] [1007, 1008] (s' := ⟨[(1, .c (.d (.int .i64 p1))), (2, .c (.d (.int .u8 p2))), (7, .c (.own 1007 1 0 a3.2.1.length)), (8, .c (.own 1008 1 0 a3.2.2.length)), (10, .c (.d (.int .i64 r4.1))), (11, .c (.d (.int .i64 r4.2)))], [(1007, .vec 1 a3.2.1.length (fun i => encInt .i64 (a3.2.1.getD i default))), (1008, .vec 1 a3.2.2.length (fun i => encInt .i64 (a3.2.2.getD i default)))]⟩) (c := True ∧ True ∧ True ∧ True ∧ True ∧ True) (by kernel_rfl) ⟨trivial, trivial, trivial, trivial, trivial, trivial⟩ ?_
      refine At.done rfl ?_
      show Tri _ _ _ _
      refine Tri.seqS ?_
      refine Tri.reg ?_
      refine At.seg 1 [1, 2, 8, 10, 11, 61] [1007, 1008] (s' := ⟨[(1, .c (.d (.int .i64 p1))), (2, .c (.d (.int .u8 p2))), (8, .c (.own 1008 1 0 a3.2.2.length)), (10, .c (.d (.int .i64 r4.1))), (11, .c (.d (.int .i64 r4.2))), (61, .c (.own 1007 1 0 a3.2.1.length))], [(1007, .vec 1 a3.2.1.length (fun i => encInt .i64 (a3.2.1.getD i default))), (1008, .vec 1 a3.2.2.length (fun i => encInt .i64 (a3.2.2.getD i default)))]⟩) (c := True ∧ True) (by kernel_rfl) ⟨trivial, trivial⟩ ?_
      obtain ⟨r5, hr5, h⟩ := bind_elim h
      refine At.callA (caps := []) (xs := [.c (.own 1007 1 0 a3.2.1.length)]) (diff_Sum_ok_v0 hr5) rfl rfl rfl rfl rfl rfl (.cons (AVArg.view (encInt .i64) a3.2.1 rfl) .nil) rfl rfl ?_
      refine At.seg 5 [1, 2, 8, 10, 11, 12, 13] [1008] (s' := ⟨[(1, .c (.d (.int .i64 p1))), (2, .c (.d (.int .u8 p2))), (8, .c (.own 1008 1 0 a3.2.2.length)), (10, .c (.d (.int .i64 r4.1))), (11, .c (.d (.int .i64 r4.2))), (12, .c (.d (.int .i64 r5.1))), (13, .c (.d (.int .i64 r5.2)))], [(1008, .vec 1 a3.2.2.length (fun i => encInt .i64 (a3.2.2.getD i default)))]⟩) (c := True ∧ True ∧ True ∧ True ∧ True ∧ True) (by kernel_rfl) ⟨trivial, trivial, trivial, trivial, trivial, trivial⟩ ?_
      refine At.done rfl ?_
      show Tri _ _ _ _
      refine Tri.seqS ?_
      refine Tri.reg ?_
      refine At.seg 1 [1, 2, 10, 11, 12, 13, 66] [1008] (s' := ⟨[(1, .c (.d (.int .i64 p1))), (2, .c (.d (.int .u8 p2))), (10, .c (.d (.int .i64 r4.1))), (11, .c (.d (.int .i64 r4.2))), (12, .c (.d (.int .i64 r5.1))), (13, .c (.d (.int .i64 r5.2))), (66, .c (.own 1008 1 0 a3.2.2.length))], [(1008, .vec 1 a3.2.2.length (fun i => encInt .i64 (a3.2.2.getD i default)))]⟩) (c := True ∧ True) (by kernel_rfl) ⟨trivial, trivial⟩ ?_
      obtain ⟨r6, hr6, h⟩ := bind_elim h
      refine At.callA (caps := []) (xs := [.c (.own 1008 1 0 a3.2.2.length)]) (diff_Sum_ok_v0 hr6) rfl rfl rfl rfl rfl rfl (.cons (AVArg.view (encInt .i64) a3.2.2 rfl) .nil) rfl rfl ?_
      refine At.seg 5 [1, 2, 10, 11, 12, 13, 14, 15] [] (s' := ⟨[(1, .c (.d (.int .i64 p1))), (2, .c (.d (.int .u8 p2))), (10, .c (.d (.int .i64 r4.1))), (11, .c (.d (.int .i64 r4.2))), (12, .c (.d (.int .i64 r5.1))), (13, .c (.d (.int .i64 r5.2))), (14, .c (.d (.int .i64 r6.1))), (15, .c (.d (.int .i64 r6.2)))], []⟩) (c := True ∧ True ∧ True ∧ True ∧ True ∧ True) (by kernel_rfl) ⟨trivial, trivial, trivial, trivial, trivial, trivial⟩ ?_
      refine At.done rfl ?_
      show Tri _ _ _ _
      refine Tri.seqS ?_
      refine Tri.reg ?_
      refine At.seg 1 [1, 2, 10, 11, 12, 13, 14, 15, 16] [] (s' := ⟨[(1, .c (.d (.int .i64 p1))), (2, .c (.d (.int .u8 p2))), (10, .c (.d (.int .i64 r4.1))), (11, .c (.d (.int .i64 r4.2))), (12, .c (.d (.int .i64 r5.1))), (13, .c (.d (.int .i64 r5.2))), (14, .c (.d (.int .i64 r6.1))), (15, .c (.d (.int .i64 r6.2))), (16, .c (.zero))], []⟩) (c := True ∧ True) (by kernel_rfl) ⟨trivial, trivial⟩ ?_
      refine At.done rfl ?_
      show Tri _ _ _ _
      refine Tri.seqS ?_
      refine Tri.seqS ?_
      refine Tri.reg ?_
      refine At.seg 1 [1, 2, 10, 11, 12, 13, 14, 15, 16, 17] [] (s' := ⟨[(1, .c (.d (.int .i64 p1))), (2, .c (.d (.int .u8 p2))), (10, .c (.d (.int .i64 r4.1))), (11, .c (.d (.int .i64 r4.2))), (12, .c (.d (.int .i64 r5.1))), (13, .c (.d (.int .i64 r5.2))), (14, .c (.d (.int .i64 r6.1))), (15, .c (.d (.int .i64 r6.2))), (16, .c (.zero)), (17, .c (.d (.int .u8 0)))], []⟩) (c := True ∧ True) (by kernel_rfl) ⟨trivial, trivial⟩ ?_
      refine At.done rfl ?_
      show Tri _ _ _ _
      refine Tri.newOwn (t := 16) (k := 1016) (es := 1) (fun i => encInt .i64 (([] : List Int).getD i default)) rfl rfl rfl ?_
      refine Tri.keep [1, 2, 10, 11, 12, 13, 14, 15, 16, 17] [1016] (s' := ⟨[(1, .c (.d (.int .i64 p1))), (2, .c (.d (.int .u8 p2))), (10, .c (.d (.int .i64 r4.1))), (11, .c (.d (.int .i64 r4.2))), (12, .c (.d (.int .i64 r5.1))), (13, .c (.d (.int .i64 r5.2))), (14, .c (.d (.int .i64 r6.1))), (15, .c (.d (.int .i64 r6.2))), (16, .c (.own 1016 1 0 (([] : List Int).length))), (17, .c (.d (.int .u8 0)))], [(1016, .vec 1 ([] : List Int).length (fun i => encInt .i64 (([] : List Int).getD i default)))]⟩) (by kernel_rfl) ?_
      refine Tri.loopK (fuel := fuel) (st0 := (0, ([] : List Int))) (fun (x : Empty) s => False) (fun (a7 : Int × (List Int)) => ⟨[(1, .c (.d (.int .i64 p1))), (2, .c (.d (.int .u8 p2))), (10, .c (.d (.int .i64 r4.1))), (11, .c (.d (.int .i64 r4.2))), (12, .c (.d (.int .i64 r5.1))), (13, .c (.d (.int .i64 r5.2))), (14, .c (.d (.int .i64 r6.1))), (15, .c (.d (.int .i64 r6.2))), (16, .c (.own 1016 1 0 a7.2.length)), (17, .c (.d (.int .u8 a7.1)))], [(1016, .vec 1 a7.2.length (fun i => encInt .i64 (a7.2.getD i default)))]⟩) (fun (a7 : Int × (List Int)) => ⟨[(1, .c (.d (.int .i64 p1))), (2, .c (.d (.int .u8 p2))), (10, .c (.d (.int .i64 r4.1))), (11, .c (.d (.int .i64 r4.2))), (12, .c (.d (.int .i64 r5.1))), (13, .c (.d (.int .i64 r5.2))), (14, .c (.d (.int .i64 r6.1))), (15, .c (.d (.int .i64 r6.2))), (16, .c (.own 1016 1 0 a7.2.length)), (17, .c (.d (.int .u8 a7.1)))], [(1016, .vec 1 a7.2.length (fun i => encInt .i64 (a7.2.getD i default)))]⟩) h ?_ ?_ ?_
      · intro a7 c h
        show Tri _ _ ⟨[(1, .c (.d (.int .i64 p1))), (2, .c (.d (.int .u8 p2))), (10, .c (.d (.int .i64 r4.1))), (11, .c (.d (.int .i64 r4.2))), (12, .c (.d (.int .i64 r5.1))), (13, .c (.d (.int .i64 r5.2))), (14, .c (.d (.int .i64 r6.1))), (15, .c (.d (.int .i64 r6.2))), (16, .c (.own 1016 1 0 a7.2.length)), (17, .c (.d (.int .u8 a7.1)))], [(1016, .vec 1 a7.2.length (fun i => encInt .i64 (a7.2.getD i default)))]⟩ _
        refine Tri.seqS ?_
        refine Tri.seqS ?_
        refine Tri.reg ?_
        refine At.seg 4 [1, 2, 10, 11, 12, 13, 14, 15, 16, 17, 73] [1016] (s' := ⟨[(1, .c (.d (.int .i64 p1))), (2, .c (.d (.int .u8 p2))), (10, .c (.d (.int .i64 r4.1))), (11, .c (.d (.int .i64 r4.2))), (12, .c (.d (.int .i64 r5.1))), (13, .c (.d (.int .i64 r5.2))), (14, .c (.d (.int .i64 r6.1))), (15, .c (.d (.int .i64 r6.2))), (16, .c (.own 1016 1 0 a7.2.length)), (17, .c (.d (.int .u8 a7.1))), (73, .c (.d (.bool (decide (a7.1 < (p2.tmod 20))))))], [(1016, .vec 1 a7.2.length (fun i => encInt .i64 (a7.2.getD i default)))]⟩) (c := True ∧ True ∧ ((20 : Int) ≠ 0) ∧ True ∧ True) (by kernel_rfl) ⟨trivial, trivial, (by decide : (20 : Int) ≠ 0), trivial, trivial⟩ ?_
        refine At.done rfl ?_
        show Tri _ _ _ _
        refine Tri.condP (b := (decide (a7.1 < (p2.tmod 20)))) rfl h (fun h => ?_) (fun h => ?_)
        · refine Tri.skip ?_
          show Tri _ _ _ _
          refine Tri.seqS ?_
          refine Tri.blockB ?_
          refine Tri.reg ?_
          refine At.seg 2 [1, 2, 10, 11, 12, 13, 14, 15, 17, 76, 77] [1016] (s' := ⟨[(1, .c (.d (.int .i64 p1))), (2, .c (.d (.int .u8 p2))), (10, .c (.d (.int .i64 r4.1))), (11, .c (.d (.int .i64 r4.2))), (12, .c (.d (.int .i64 r5.1))), (13, .c (.d (.int .i64 r5.2))), (14, .c (.d (.int .i64 r6.1))), (15, .c (.d (.int .i64 r6.2))), (17, .c (.d (.int .u8 a7.1))), (76, .c (.own 1016 1 0 a7.2.length)), (77, .c (.d (.int .i64 p1)))], [(1016, .vec 1 a7.2.length (fun i => encInt .i64 (a7.2.getD i default)))]⟩) (c := True ∧ True ∧ True) (by kernel_rfl) ⟨trivial, trivial, trivial⟩ ?_
          refine At.one rfl (One.buildSlice (z := [.d (.int .i64 0)]) (cells := [.d (.int .i64 p1)]) (xs := List.map (encInt .i64) ([p1] : List Int)) rfl rfl rfl rfl (by kernel_rfl) rfl rfl (by kernel_rfl) rfl rfl rfl (by kernel_rfl) rfl ⟨⟨rfl, .refl _⟩, trivial⟩) ?_
          refine At.le [78] (fun k _ h => by cases h) ⟨[(78, .c (.d (.list 1 ([p1] : List Int).length (fun i => encInt .i64 (([p1] : List Int).getD i default))))), (1, .c (.d (.int .i64 p1))), (2, .c (.d (.int .u8 p2))), (10, .c (.d (.int .i64 r4.1))), (11, .c (.d (.int .i64 r4.2))), (12, .c (.d (.int .i64 r5.1))), (13, .c (.d (.int .i64 r5.2))), (14, .c (.d (.int .i64 r6.1))), (15, .c (.d (.int .i64 r6.2))), (17, .c (.d (.int .u8 a7.1))), (76, .c (.own 1016 1 0 a7.2.length)), (77, .c (.d (.int .i64 p1)))], [(1016, .vec 1 a7.2.length (fun i => encInt .i64 (a7.2.getD i default)))]⟩ ⟨⟨_, rfl, .c (.own rfl (List.mem_singleton.2 rfl) (Nat.le_of_ble_eq_true rfl) rfl (encs_getD (encInt .i64) ([p1] : List Int)))⟩, ⟨_, rfl, .refl _⟩, ⟨_, rfl, .refl _⟩, ⟨_, rfl, .refl _⟩, ⟨_, rfl, .refl _⟩, ⟨_, rfl, .refl _⟩, ⟨_, rfl, .refl _⟩, ⟨_, rfl, .refl _⟩, ⟨_, rfl, .refl _⟩, ⟨_, rfl, .refl _⟩, ⟨_, rfl, .refl _⟩, ⟨_, rfl, .refl _⟩, trivial⟩ ⟨⟨_, rfl, .refl _, (by simp)⟩, trivial⟩ ?_
          obtain ⟨hc13, h⟩ := need_elim h
          refine At.one rfl (One.appendT (e := 2) (es := 1) (encInt .i64) a7.2 ([p1] : List Int) rfl rfl rfl rfl rfl (.of 2 8 [.d (.int .i64 0)] (by kernel_rfl) (by kernel_rfl) (by kernel_rfl) (by kernel_rfl) rfl (by kernel_rfl) rfl) rfl rfl rfl (.list rfl (fun _ _ => rfl)) hc13) ?_
          refine At.seg 1 [1, 2, 10, 11, 12, 13, 14, 15, 16, 17] [1016] (s' := ⟨[(1, .c (.d (.int .i64 p1))), (2, .c (.d (.int .u8 p2))), (10, .c (.d (.int .i64 r4.1))), (11, .c (.d (.int .i64 r4.2))), (12, .c (.d (.int .i64 r5.1))), (13, .c (.d (.int .i64 r5.2))), (14, .c (.d (.int .i64 r6.1))), (15, .c (.d (.int .i64 r6.2))), (16, .c (.own 1016 1 0 ((a7.2 ++ ([p1] : List Int)).length))), (17, .c (.d (.int .u8 a7.1)))], [(1016, .vec 1 (a7.2 ++ ([p1] : List Int)).length (fun i => encInt .i64 ((a7.2 ++ ([p1] : List Int)).getD i default)))]⟩) (c := True ∧ True) (by kernel_rfl) ⟨trivial, trivial⟩ ?_
          refine At.done rfl ?_
          show Tri _ _ _ _
          refine Tri.reg ?_
          refine At.seg 3 [1, 2, 10, 11, 12, 13, 14, 15, 16, 17] [1016] (s' := ⟨[(1, .c (.d (.int .i64 p1))), (2, .c (.d (.int .u8 p2))), (10, .c (.d (.int .i64 r4.1))), (11, .c (.d (.int .i64 r4.2))), (12, .c (.d (.int .i64 r5.1))), (13, .c (.d (.int .i64 r5.2))), (14, .c (.d (.int .i64 r6.1))), (15, .c (.d (.int .i64 r6.2))), (16, .c (.own 1016 1 0 ((a7.2 ++ ([p1] : List Int)).length))), (17, .c (.d (.int .u8 (IntKind.u8.wrap (a7.1 + 1)))))], [(1016, .vec 1 (a7.2 ++ ([p1] : List Int)).length (fun i => encInt .i64 ((a7.2 ++ ([p1] : List Int)).getD i default)))]⟩) (c := True ∧ True ∧ True ∧ True) (by kernel_rfl) ⟨trivial, trivial, trivial, trivial⟩ ?_
          refine At.done rfl ?_
          cases h
          exact rfl
        · refine Tri.keep [1, 2, 10, 11, 12, 13, 14, 15, 16, 17] [1016] (s' := ⟨[(1, .c (.d (.int .i64 p1))), (2, .c (.d (.int .u8 p2))), (10, .c (.d (.int .i64 r4.1))), (11, .c (.d (.int .i64 r4.2))), (12, .c (.d (.int .i64 r5.1))), (13, .c (.d (.int .i64 r5.2))), (14, .c (.d (.int .i64 r6.1))), (15, .c (.d (.int .i64 r6.2))), (16, .c (.own 1016 1 0 a7.2.length)), (17, .c (.d (.int .u8 a7.1)))], [(1016, .vec 1 a7.2.length (fun i => encInt .i64 (a7.2.getD i default)))]⟩) (by kernel_rfl) ?_
          refine Tri.exit ?_
          cases h
          exact ⟨rfl, rfl⟩
      · intro a8 h
        show Tri _ _ _ _
        refine Tri.seqS ?_
        refine Tri.reg ?_
        refine At.seg 1 [1, 2, 10, 11, 12, 13, 14, 15, 81] [1016] (s' := ⟨[(1, .c (.d (.int .i64 p1))), (2, .c (.d (.int .u8 p2))), (10, .c (.d (.int .i64 r4.1))), (11, .c (.d (.int .i64 r4.2))), (12, .c (.d (.int .i64 r5.1))), (13, .c (.d (.int .i64 r5.2))), (14, .c (.d (.int .i64 r6.1))), (15, .c (.d (.int .i64 r6.2))), (81, .c (.own 1016 1 0 a8.2.length))], [(1016, .vec 1 a8.2.length (fun i => encInt .i64 (a8.2.getD i default)))]⟩) (c := True ∧ True) (by kernel_rfl) ⟨trivial, trivial⟩ ?_
        obtain ⟨r9, hr9, h⟩ := bind_elim h
        refine At.callA (caps := []) (xs := [.c (.own 1016 1 0 a8.2.length)]) (diff_Sum_ok_v0 hr9) rfl rfl rfl rfl rfl rfl (.cons (AVArg.view (encInt .i64) a8.2 rfl) .nil) rfl rfl ?_
        refine At.seg 5 [1, 2, 10, 11, 12, 13, 14, 15, 18, 19] [] (s' := ⟨[(1, .c (.d (.int .i64 p1))), (2, .c (.d (.int .u8 p2))), (10, .c (.d (.int .i64 r4.1))), (11, .c (.d (.int .i64 r4.2))), (12, .c (.d (.int .i64 r5.1))), (13, .c (.d (.int .i64 r5.2))), (14, .c (.d (.int .i64 r6.1))), (15, .c (.d (.int .i64 r6.2))), (18, .c (.d (.int .i64 r9.1))), (19, .c (.d (.int .i64 r9.2)))], []⟩) (c := True ∧ True ∧ True ∧ True ∧ True ∧ True) (by kernel_rfl) ⟨trivial, trivial, trivial, trivial, trivial, trivial⟩ ?_
        refine At.done rfl ?_
        show Tri _ _ _ _
        refine Tri.seqS ?_
        refine Tri.reg ?_
        refine At.seg 4 [10, 11, 12, 13, 14, 15, 18, 19, 86, 89] [] (s' := ⟨[(10, .c (.d (.int .i64 r4.1))), (11, .c (.d (.int .i64 r4.2))), (12, .c (.d (.int .i64 r5.1))), (13, .c (.d (.int .i64 r5.2))), (14, .c (.d (.int .i64 r6.1))), (15, .c (.d (.int .i64 r6.2))), (18, .c (.d (.int .i64 r9.1))), (19, .c (.d (.int .i64 r9.2))), (86, .c (.d (.int .i64 p1))), (89, .c (.d (.int .i64 (IntKind.i64.wrap (p2.tmod 20)))))], []⟩) (c := True ∧ True ∧ ((20 : Int) ≠ 0) ∧ True ∧ True) (by kernel_rfl) ⟨trivial, trivial, (by decide : (20 : Int) ≠ 0), trivial, trivial⟩ ?_
        obtain ⟨r10, hr10, h⟩ := bind_elim h
        refine At.callA (caps := []) (xs := [.c (.d (.int .i64 p1)), .c (.d (.int .i64 (IntKind.i64.wrap (p2.tmod 20))))]) (diff_Times_ok hr10) rfl rfl rfl rfl rfl rfl (.cons (.refl _) (.cons (.refl _) .nil)) rfl rfl ?_
        refine At.seg 5 [10, 11, 12, 13, 14, 15, 18, 19, 20, 21] [] (s' := ⟨[(10, .c (.d (.int .i64 r4.1))), (11, .c (.d (.int .i64 r4.2))), (12, .c (.d (.int .i64 r5.1))), (13, .c (.d (.int .i64 r5.2))), (14, .c (.d (.int .i64 r6.1))), (15, .c (.d (.int .i64 r6.2))), (18, .c (.d (.int .i64 r9.1))), (19, .c (.d (.int .i64 r9.2))), (20, .c (.d (.int .i64 r10.1))), (21, .c (.d (.int .i64 r10.2)))], []⟩) (c := True ∧ True ∧ True ∧ True ∧ True ∧ True) (by kernel_rfl) ⟨trivial, trivial, trivial, trivial, trivial, trivial⟩ ?_
        refine At.done rfl ?_
        show Tri _ _ _ _
        refine Tri.seqJ (fun (a11 : Bool) => ⟨[(6, .c (.d (.bool a11)))], []⟩) h (fun a11 h => ?_) (fun j12 h => ?_)
        · show Tri _ _ ⟨[(6, .c (.d (.bool a11)))], []⟩ _
          refine Tri.keep [6] [] (s' := ⟨[(6, .c (.d (.bool a11)))], []⟩) (by kernel_rfl) ?_
          refine Tri.ret ?_
          cases h
          refine ⟨_, _, rfl, ⟨trivial, trivial⟩, rfl, rfl, ?_⟩
          intro k c h
          cases h
        · refine Tri.reg ?_
          refine At.seg 4 [11, 13, 14, 15, 18, 19, 20, 21, 96] [] (s' := ⟨[(11, .c (.d (.int .i64 r4.2))), (13, .c (.d (.int .i64 r5.2))), (14, .c (.d (.int .i64 r6.1))), (15, .c (.d (.int .i64 r6.2))), (18, .c (.d (.int .i64 r9.1))), (19, .c (.d (.int .i64 r9.2))), (20, .c (.d (.int .i64 r10.1))), (21, .c (.d (.int .i64 r10.2))), (96, .c (.d (.bool (decide (r4.1 = r5.1)))))], []⟩) (c := True ∧ True ∧ True ∧ True ∧ True) (by kernel_rfl) ⟨trivial, trivial, trivial, trivial, trivial⟩ ?_
          refine At.case (fun b => ⟨[(11, .c (.d (.int .i64 r4.2))), (13, .c (.d (.int .i64 r5.2))), (14, .c (.d (.int .i64 r6.1))), (15, .c (.d (.int .i64 r6.2))), (18, .c (.d (.int .i64 r9.1))), (19, .c (.d (.int .i64 r9.2))), (20, .c (.d (.int .i64 r10.1))), (21, .c (.d (.int .i64 r10.2))), (96, .c (.d (.bool b)))], []⟩) (b := (decide (r4.1 = r5.1))) h (fun h => ?_) (fun h => ?_)
          · refine At.seg 5 [14, 15, 18, 19, 20, 21, 101] [] (s' := ⟨[(14, .c (.d (.int .i64 r6.1))), (15, .c (.d (.int .i64 r6.2))), (18, .c (.d (.int .i64 r9.1))), (19, .c (.d (.int .i64 r9.2))), (20, .c (.d (.int .i64 r10.1))), (21, .c (.d (.int .i64 r10.2))), (101, .c (.d (.bool (decide (r4.2 = r5.2)))))], []⟩) (c := True ∧ True ∧ True ∧ True ∧ True ∧ True) (by kernel_rfl) ⟨trivial, trivial, trivial, trivial, trivial, trivial⟩ ?_
            refine At.case (fun b => ⟨[(14, .c (.d (.int .i64 r6.1))), (15, .c (.d (.int .i64 r6.2))), (18, .c (.d (.int .i64 r9.1))), (19, .c (.d (.int .i64 r9.2))), (20, .c (.d (.int .i64 r10.1))), (21, .c (.d (.int .i64 r10.2))), (101, .c (.d (.bool b)))], []⟩) (b := (decide (r4.2 = r5.2))) h (fun h => ?_) (fun h => ?_)
            · refine At.seg 4 [15, 18, 19, 20, 21, 105] [] (s' := ⟨[(15, .c (.d (.int .i64 r6.2))), (18, .c (.d (.int .i64 r9.1))), (19, .c (.d (.int .i64 r9.2))), (20, .c (.d (.int .i64 r10.1))), (21, .c (.d (.int .i64 r10.2))), (105, .c (.d (.bool (decide (r6.1 = 0)))))], []⟩) (c := True ∧ True ∧ True ∧ True ∧ True) (by kernel_rfl) ⟨trivial, trivial, trivial, trivial, trivial⟩ ?_
              refine At.case (fun b => ⟨[(15, .c (.d (.int .i64 r6.2))), (18, .c (.d (.int .i64 r9.1))), (19, .c (.d (.int .i64 r9.2))), (20, .c (.d (.int .i64 r10.1))), (21, .c (.d (.int .i64 r10.2))), (105, .c (.d (.bool b)))], []⟩) (b := (decide (r6.1 = 0))) h (fun h => ?_) (fun h => ?_)
              · refine At.seg 4 [18, 19, 20, 21, 109] [] (s' := ⟨[(18, .c (.d (.int .i64 r9.1))), (19, .c (.d (.int .i64 r9.2))), (20, .c (.d (.int .i64 r10.1))), (21, .c (.d (.int .i64 r10.2))), (109, .c (.d (.bool (decide (r6.2 = 0)))))], []⟩) (c := True ∧ True ∧ True ∧ True ∧ True) (by kernel_rfl) ⟨trivial, trivial, trivial, trivial, trivial⟩ ?_
                refine At.case (fun b => ⟨[(18, .c (.d (.int .i64 r9.1))), (19, .c (.d (.int .i64 r9.2))), (20, .c (.d (.int .i64 r10.1))), (21, .c (.d (.int .i64 r10.2))), (109, .c (.d (.bool b)))], []⟩) (b := (decide (r6.2 = 0))) h (fun h => ?_) (fun h => ?_)
                · refine At.seg 5 [19, 21, 114] [] (s' := ⟨[(19, .c (.d (.int .i64 r9.2))), (21, .c (.d (.int .i64 r10.2))), (114, .c (.d (.bool (decide (r9.1 = r10.1)))))], []⟩) (c := True ∧ True ∧ True ∧ True ∧ True ∧ True) (by kernel_rfl) ⟨trivial, trivial, trivial, trivial, trivial, trivial⟩ ?_
                  refine At.case (fun b => ⟨[(19, .c (.d (.int .i64 r9.2))), (21, .c (.d (.int .i64 r10.2))), (114, .c (.d (.bool b)))], []⟩) (b := (decide (r9.1 = r10.1))) h (fun h => ?_) (fun h => ?_)
                  · refine At.seg 5 [6] [] (s' := ⟨[(6, .c (.d (.bool (decide (r9.2 = r10.2)))))], []⟩) (c := True ∧ True ∧ True ∧ True ∧ True ∧ True) (by kernel_rfl) ⟨trivial, trivial, trivial, trivial, trivial, trivial⟩ ?_
                    refine At.done rfl ?_
                    exact ⟨_, h, rfl⟩
                  · refine At.seg 5 [6] [] (s' := ⟨[(6, .c (.d (.bool false)))], []⟩) (c := True ∧ True ∧ True) (by kernel_rfl) ⟨trivial, trivial, trivial⟩ ?_
                    refine At.done rfl ?_
                    exact ⟨_, h, rfl⟩
                · refine At.seg 10 [6] [] (s' := ⟨[(6, .c (.d (.bool false)))], []⟩) (c := True ∧ True ∧ True ∧ True ∧ True) (by kernel_rfl) ⟨trivial, trivial, trivial, trivial, trivial⟩ ?_
                  refine At.done rfl ?_
                  exact ⟨_, h, rfl⟩
              · refine At.seg 14 [6] [] (s' := ⟨[(6, .c (.d (.bool false)))], []⟩) (c := True ∧ True ∧ True ∧ True ∧ True ∧ True ∧ True) (by kernel_rfl) ⟨trivial, trivial, trivial, trivial, trivial, trivial, trivial⟩ ?_
                refine At.done rfl ?_
                exact ⟨_, h, rfl⟩
            · refine At.seg 18 [6] [] (s' := ⟨[(6, .c (.d (.bool false)))], []⟩) (c := True ∧ True ∧ True ∧ True ∧ True ∧ True ∧ True ∧ True ∧ True) (by kernel_rfl) ⟨trivial, trivial, trivial, trivial, trivial, trivial, trivial, trivial, trivial⟩ ?_
              refine At.done rfl ?_
              exact ⟨_, h, rfl⟩
          · refine At.seg 23 [6] [] (s' := ⟨[(6, .c (.d (.bool false)))], []⟩) (c := True ∧ True ∧ True ∧ True ∧ True ∧ True ∧ True ∧ True ∧ True ∧ True ∧ True) (by kernel_rfl) ⟨trivial, trivial, trivial, trivial, trivial, trivial, trivial, trivial, trivial, trivial, trivial⟩ ?_
            refine At.done rfl ?_
            exact ⟨_, h, rfl⟩
      · exact fun x => x.elim
    · exact fun x => x.elim

end Go.Av