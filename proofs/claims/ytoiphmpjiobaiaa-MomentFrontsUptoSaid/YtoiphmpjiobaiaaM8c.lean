import Derived.Test.YtoiphmpjiobaiaaM8b
namespace Go.Av
open Go Go.Proofs
set_option linter.unusedVariables false
set_option linter.unusedSimpArgs false

set_option maxRecDepth 100000 in
theorem slices_xorshift_Next_w_ok {l0 : Int} {q : Int × Int} (h : slices_xorshift_Next_w l0 = some q) :
    Summ Try.prog 61 [.c (.ptr 5000 0)] [(5000, .box [.d (u6 l0)])] (cD (u6 q.1)) [(5000, .box [.d (u6 q.2)])] := by
  refine Summ.intro Try.func61 rfl (by kernel_rfl) (by kernel_rfl) [] rfl ?_
  rintro ⟨P, w0, G0, V, LL, lk, N, φ0, fx⟩ rfl rfl rfl rfl
  unfold slices_xorshift_Next_w at h
  refine Tri.seqS ?_
  refine Tri.reg ?_
  refine At.seg 1 [0] [5000] (s' := ⟨[(0, .c (.ptr 5000 0))], [(5000, .box [.d (u6 l0)])]⟩) (c := True ∧ True) (by kernel_rfl) ⟨trivial, trivial⟩ ?_
  refine At.done rfl ?_
  show Tri _ _ _ _
  refine Tri.seqS ?_
  refine Tri.drawn (specs := [⟨⟨[(0, .c (.ptr 5000 0))], []⟩, ⟨[(3, .c (.ptr 5000 0))], []⟩, [], [], []⟩, ⟨⟨[(3, .c (.ptr 5000 0))], []⟩, ⟨[(4, .c (.ptr 5000 0))], []⟩, [], [], []⟩, ⟨⟨[(4, .c (.ptr 5000 0))], [(5000, .box [.d (u6 l0)])]⟩, ⟨[(5, cD (u6 l0))], []⟩, [], [], []⟩, ⟨⟨[(0, .c (.ptr 5000 0))], []⟩, ⟨[(6, .c (.ptr 5000 0))], []⟩, [], [], []⟩, ⟨⟨[(6, .c (.ptr 5000 0))], []⟩, ⟨[(7, .c (.ptr 5000 0))], []⟩, [], [], []⟩, ⟨⟨[(7, .c (.ptr 5000 0))], [(5000, .box [.d (u6 l0)])]⟩, ⟨[(8, cD (u6 l0))], []⟩, [], [], []⟩, ⟨⟨[(8, cD (u6 l0))], []⟩, ⟨[(9, cD (u6 (shlOp .u64 l0 13)))], []⟩, [], [], []⟩, ⟨⟨[(5, cD (u6 l0)), (9, cD (u6 (shlOp .u64 l0 13)))], []⟩, ⟨[(10, cD (u6 (bitsOp .xor .u64 l0 (shlOp .u64 l0 13))))], []⟩, [], [], []⟩, ⟨⟨[(3, .c (.ptr 5000 0))], []⟩, ⟨[(11, .c (.ptr 5000 0))], []⟩, [], [], []⟩, ⟨⟨[(10, cD (u6 (bitsOp .xor .u64 l0 (shlOp .u64 l0 13)))), (11, .c (.ptr 5000 0))], [(5000, .box [.d (u6 l0)])]⟩, ⟨[], [(5000, .box [.d (u6 (bitsOp .xor .u64 l0 (shlOp .u64 l0 13)))])]⟩, [], [], []⟩]) (bef := [[], [0], [0, 1], [], [3], [3, 4], [3, 4, 5], [0, 1, 2, 3, 4, 5, 6], [0, 1, 2, 3, 4, 5, 6, 7], [0, 1, 2, 3, 4, 5, 6, 7, 8]]) (tk := [0]) (sk := [5000]) (s' := ⟨[(0, .c (.ptr 5000 0))], [(5000, .box [.d (u6 (bitsOp .xor .u64 l0 (shlOp .u64 l0 13)))])]⟩) (by kernel_rfl) (by kernel_rfl) (by kernel_rfl) ⟨?_, ?_, ?_, ?_, ?_, ?_, ?_, ?_, ?_, ?_, trivial⟩ (by kernel_rfl) ?_
  · exact DOk.t rfl rfl (by kernel_rfl) (by kernel_rfl)
  · exact DOk.t rfl rfl (by kernel_rfl) (by kernel_rfl)
  · exact DOk.t rfl rfl (by kernel_rfl) (by kernel_rfl)
  · exact DOk.t rfl rfl (by kernel_rfl) (by kernel_rfl)
  · exact DOk.t rfl rfl (by kernel_rfl) (by kernel_rfl)
  · exact DOk.t rfl rfl (by kernel_rfl) (by kernel_rfl)
  · exact DOk.step (.val (cD (u6 (shlOp .u64 l0 13))) ((0 : Int) ≤ 13)) (fun r => by kernel_rfl) (fun r => by kernel_rfl) (by decide : (0 : Int) ≤ 13) (by kernel_rfl) (by kernel_rfl) (fun r => rfl)
  · exact DOk.t rfl rfl (by kernel_rfl) (by kernel_rfl)
  · exact DOk.t rfl rfl (by kernel_rfl) (by kernel_rfl)
  · exact DOk.step (.turn 5000 (.box [.d (u6 (bitsOp .xor .u64 l0 (shlOp .u64 l0 13)))])) (fun r => by kernel_rfl) (fun r => by kernel_rfl) trivial (by kernel_rfl) (by kernel_rfl) (fun r => rfl)
  show Tri _ _ _ _
  refine Tri.seqS ?_
  refine Tri.drawn (specs := [⟨⟨[(0, .c (.ptr 5000 0))], []⟩, ⟨[(12, .c (.ptr 5000 0))], []⟩, [], [], []⟩, ⟨⟨[(12, .c (.ptr 5000 0))], []⟩, ⟨[(13, .c (.ptr 5000 0))], []⟩, [], [], []⟩, ⟨⟨[(13, .c (.ptr 5000 0))], [(5000, .box [.d (u6 (bitsOp .xor .u64 l0 (shlOp .u64 l0 13)))])]⟩, ⟨[(14, cD (u6 (bitsOp .xor .u64 l0 (shlOp .u64 l0 13))))], []⟩, [], [], []⟩, ⟨⟨[(0, .c (.ptr 5000 0))], []⟩, ⟨[(15, .c (.ptr 5000 0))], []⟩, [], [], []⟩, ⟨⟨[(15, .c (.ptr 5000 0))], []⟩, ⟨[(16, .c (.ptr 5000 0))], []⟩, [], [], []⟩, ⟨⟨[(16, .c (.ptr 5000 0))], [(5000, .box [.d (u6 (bitsOp .xor .u64 l0 (shlOp .u64 l0 13)))])]⟩, ⟨[(17, cD (u6 (bitsOp .xor .u64 l0 (shlOp .u64 l0 13))))], []⟩, [], [], []⟩, ⟨⟨[(17, cD (u6 (bitsOp .xor .u64 l0 (shlOp .u64 l0 13))))], []⟩, ⟨[(18, cD (u6 (shrOp .u64 (bitsOp .xor .u64 l0 (shlOp .u64 l0 13)) 7)))], []⟩, [], [], []⟩, ⟨⟨[(14, cD (u6 (bitsOp .xor .u64 l0 (shlOp .u64 l0 13)))), (18, cD (u6 (shrOp .u64 (bitsOp .xor .u64 l0 (shlOp .u64 l0 13)) 7)))], []⟩, ⟨[(19, cD (u6 (bitsOp .xor .u64 (bitsOp .xor .u64 l0 (shlOp .u64 l0 13)) (shrOp .u64 (bitsOp .xor .u64 l0 (shlOp .u64 l0 13)) 7))))], []⟩, [], [], []⟩, ⟨⟨[(12, .c (.ptr 5000 0))], []⟩, ⟨[(20, .c (.ptr 5000 0))], []⟩, [], [], []⟩, ⟨⟨[(19, cD (u6 (bitsOp .xor .u64 (bitsOp .xor .u64 l0 (shlOp .u64 l0 13)) (shrOp .u64 (bitsOp .xor .u64 l0 (shlOp .u64 l0 13)) 7)))), (20, .c (.ptr 5000 0))], [(5000, .box [.d (u6 (bitsOp .xor .u64 l0 (shlOp .u64 l0 13)))])]⟩, ⟨[], [(5000, .box [.d (u6 (bitsOp .xor .u64 (bitsOp .xor .u64 l0 (shlOp .u64 l0 13)) (shrOp .u64 (bitsOp .xor .u64 l0 (shlOp .u64 l0 13)) 7)))])]⟩, [], [], []⟩]) (bef := [[], [0], [0, 1], [], [3], [3, 4], [3, 4, 5], [0, 1, 2, 3, 4, 5, 6], [0, 1, 2, 3, 4, 5, 6, 7], [0, 1, 2, 3, 4, 5, 6, 7, 8]]) (tk := [0]) (sk := [5000]) (s' := ⟨[(0, .c (.ptr 5000 0))], [(5000, .box [.d (u6 (bitsOp .xor .u64 (bitsOp .xor .u64 l0 (shlOp .u64 l0 13)) (shrOp .u64 (bitsOp .xor .u64 l0 (shlOp .u64 l0 13)) 7)))])]⟩) (by kernel_rfl) (by kernel_rfl) (by kernel_rfl) ⟨?_, ?_, ?_, ?_, ?_, ?_, ?_, ?_, ?_, ?_, trivial⟩ (by kernel_rfl) ?_
  · exact DOk.t rfl rfl (by kernel_rfl) (by kernel_rfl)
  · exact DOk.t rfl rfl (by kernel_rfl) (by kernel_rfl)
  · exact DOk.t rfl rfl (by kernel_rfl) (by kernel_rfl)
  · exact DOk.t rfl rfl (by kernel_rfl) (by kernel_rfl)
  · exact DOk.t rfl rfl (by kernel_rfl) (by kernel_rfl)
  · exact DOk.t rfl rfl (by kernel_rfl) (by kernel_rfl)
  · exact DOk.step (.val (cD (u6 (shrOp .u64 (bitsOp .xor .u64 l0 (shlOp .u64 l0 13)) 7))) ((0 : Int) ≤ 7)) (fun r => by kernel_rfl) (fun r => by kernel_rfl) (by decide : (0 : Int) ≤ 7) (by kernel_rfl) (by kernel_rfl) (fun r => rfl)
  · exact DOk.t rfl rfl (by kernel_rfl) (by kernel_rfl)
  · exact DOk.t rfl rfl (by kernel_rfl) (by kernel_rfl)
  · exact DOk.step (.turn 5000 (.box [.d (u6 (bitsOp .xor .u64 (bitsOp .xor .u64 l0 (shlOp .u64 l0 13)) (shrOp .u64 (bitsOp .xor .u64 l0 (shlOp .u64 l0 13)) 7)))])) (fun r => by kernel_rfl) (fun r => by kernel_rfl) trivial (by kernel_rfl) (by kernel_rfl) (fun r => rfl)
  show Tri _ _ _ _
  refine Tri.seqS ?_
  refine Tri.drawn (specs := [⟨⟨[(0, .c (.ptr 5000 0))], []⟩, ⟨[(21, .c (.ptr 5000 0))], []⟩, [], [], []⟩, ⟨⟨[(21, .c (.ptr 5000 0))], []⟩, ⟨[(22, .c (.ptr 5000 0))], []⟩, [], [], []⟩, ⟨⟨[(22, .c (.ptr 5000 0))], [(5000, .box [.d (u6 (bitsOp .xor .u64 (bitsOp .xor .u64 l0 (shlOp .u64 l0 13)) (shrOp .u64 (bitsOp .xor .u64 l0 (shlOp .u64 l0 13)) 7)))])]⟩, ⟨[(23, cD (u6 (bitsOp .xor .u64 (bitsOp .xor .u64 l0 (shlOp .u64 l0 13)) (shrOp .u64 (bitsOp .xor .u64 l0 (shlOp .u64 l0 13)) 7))))], []⟩, [], [], []⟩, ⟨⟨[(0, .c (.ptr 5000 0))], []⟩, ⟨[(24, .c (.ptr 5000 0))], []⟩, [], [], []⟩, ⟨⟨[(24, .c (.ptr 5000 0))], []⟩, ⟨[(25, .c (.ptr 5000 0))], []⟩, [], [], []⟩, ⟨⟨[(25, .c (.ptr 5000 0))], [(5000, .box [.d (u6 (bitsOp .xor .u64 (bitsOp .xor .u64 l0 (shlOp .u64 l0 13)) (shrOp .u64 (bitsOp .xor .u64 l0 (shlOp .u64 l0 13)) 7)))])]⟩, ⟨[(26, cD (u6 (bitsOp .xor .u64 (bitsOp .xor .u64 l0 (shlOp .u64 l0 13)) (shrOp .u64 (bitsOp .xor .u64 l0 (shlOp .u64 l0 13)) 7))))], []⟩, [], [], []⟩, ⟨⟨[(26, cD (u6 (bitsOp .xor .u64 (bitsOp .xor .u64 l0 (shlOp .u64 l0 13)) (shrOp .u64 (bitsOp .xor .u64 l0 (shlOp .u64 l0 13)) 7))))], []⟩, ⟨[(27, cD (u6 (shlOp .u64 (bitsOp .xor .u64 (bitsOp .xor .u64 l0 (shlOp .u64 l0 13)) (shrOp .u64 (bitsOp .xor .u64 l0 (shlOp .u64 l0 13)) 7)) 17)))], []⟩, [], [], []⟩, ⟨⟨[(23, cD (u6 (bitsOp .xor .u64 (bitsOp .xor .u64 l0 (shlOp .u64 l0 13)) (shrOp .u64 (bitsOp .xor .u64 l0 (shlOp .u64 l0 13)) 7)))), (27, cD (u6 (shlOp .u64 (bitsOp .xor .u64 (bitsOp .xor .u64 l0 (shlOp .u64 l0 13)) (shrOp .u64 (bitsOp .xor .u64 l0 (shlOp .u64 l0 13)) 7)) 17)))], []⟩, ⟨[(28, cD (u6 (bitsOp .xor .u64 (bitsOp .xor .u64 (bitsOp .xor .u64 l0 (shlOp .u64 l0 13)) (shrOp .u64 (bitsOp .xor .u64 l0 (shlOp .u64 l0 13)) 7)) (shlOp .u64 (bitsOp .xor .u64 (bitsOp .xor .u64 l0 (shlOp .u64 l0 13)) (shrOp .u64 (bitsOp .xor .u64 l0 (shlOp .u64 l0 13)) 7)) 17))))], []⟩, [], [], []⟩, ⟨⟨[(21, .c (.ptr 5000 0))], []⟩, ⟨[(29, .c (.ptr 5000 0))], []⟩, [], [], []⟩, ⟨⟨[(28, cD (u6 (bitsOp .xor .u64 (bitsOp .xor .u64 (bitsOp .xor .u64 l0 (shlOp .u64 l0 13)) (shrOp .u64 (bitsOp .xor .u64 l0 (shlOp .u64 l0 13)) 7)) (shlOp .u64 (bitsOp .xor .u64 (bitsOp .xor .u64 l0 (shlOp .u64 l0 13)) (shrOp .u64 (bitsOp .xor .u64 l0 (shlOp .u64 l0 13)) 7)) 17)))), (29, .c (.ptr 5000 0))], [(5000, .box [.d (u6 (bitsOp .xor .u64 (bitsOp .xor .u64 l0 (shlOp .u64 l0 13)) (shrOp .u64 (bitsOp .xor .u64 l0 (shlOp .u64 l0 13)) 7)))])]⟩, ⟨[], [(5000, .box [.d (u6 (bitsOp .xor .u64 (bitsOp .xor .u64 (bitsOp .xor .u64 l0 (shlOp .u64 l0 13)) (shrOp .u64 (bitsOp .xor .u64 l0 (shlOp .u64 l0 13)) 7)) (shlOp .u64 (bitsOp .xor .u64 (bitsOp .xor .u64 l0 (shlOp .u64 l0 13)) (shrOp .u64 (bitsOp .xor .u64 l0 (shlOp .u64 l0 13)) 7)) 17)))])]⟩, [], [], []⟩]) (bef := [[], [0], [0, 1], [], [3], [3, 4], [3, 4, 5], [0, 1, 2, 3, 4, 5, 6], [0, 1, 2, 3, 4, 5, 6, 7], [0, 1, 2, 3, 4, 5, 6, 7, 8]]) (tk := [0]) (sk := [5000]) (s' := ⟨[(0, .c (.ptr 5000 0))], [(5000, .box [.d (u6 (bitsOp .xor .u64 (bitsOp .xor .u64 (bitsOp .xor .u64 l0 (shlOp .u64 l0 13)) (shrOp .u64 (bitsOp .xor .u64 l0 (shlOp .u64 l0 13)) 7)) (shlOp .u64 (bitsOp .xor .u64 (bitsOp .xor .u64 l0 (shlOp .u64 l0 13)) (shrOp .u64 (bitsOp .xor .u64 l0 (shlOp .u64 l0 13)) 7)) 17)))])]⟩) (by kernel_rfl) (by kernel_rfl) (by kernel_rfl) ⟨?_, ?_, ?_, ?_, ?_, ?_, ?_, ?_, ?_, ?_, trivial⟩ (by kernel_rfl) ?_
  · exact DOk.t rfl rfl (by kernel_rfl) (by kernel_rfl)
  · exact DOk.t rfl rfl (by kernel_rfl) (by kernel_rfl)
  · exact DOk.t rfl rfl (by kernel_rfl) (by kernel_rfl)
  · exact DOk.t rfl rfl (by kernel_rfl) (by kernel_rfl)
  · exact DOk.t rfl rfl (by kernel_rfl) (by kernel_rfl)
  · exact DOk.t rfl rfl (by kernel_rfl) (by kernel_rfl)
  · exact DOk.step (.val (cD (u6 (shlOp .u64 (bitsOp .xor .u64 (bitsOp .xor .u64 l0 (shlOp .u64 l0 13)) (shrOp .u64 (bitsOp .xor .u64 l0 (shlOp .u64 l0 13)) 7)) 17))) ((0 : Int) ≤ 17)) (fun r => by kernel_rfl) (fun r => by kernel_rfl) (by decide : (0 : Int) ≤ 17) (by kernel_rfl) (by kernel_rfl) (fun r => rfl)
  · exact DOk.t rfl rfl (by kernel_rfl) (by kernel_rfl)
  · exact DOk.t rfl rfl (by kernel_rfl) (by kernel_rfl)
  · exact DOk.step (.turn 5000 (.box [.d (u6 (bitsOp .xor .u64 (bitsOp .xor .u64 (bitsOp .xor .u64 l0 (shlOp .u64 l0 13)) (shrOp .u64 (bitsOp .xor .u64 l0 (shlOp .u64 l0 13)) 7)) (shlOp .u64 (bitsOp .xor .u64 (bitsOp .xor .u64 l0 (shlOp .u64 l0 13)) (shrOp .u64 (bitsOp .xor .u64 l0 (shlOp .u64 l0 13)) 7)) 17)))])) (fun r => by kernel_rfl) (fun r => by kernel_rfl) trivial (by kernel_rfl) (by kernel_rfl) (fun r => rfl)
  show Tri _ _ _ _
  refine Tri.seqS ?_
  refine Tri.reg ?_
  refine At.seg 4 [2] [5000] (s' := ⟨[(2, cD (u6 (bitsOp .xor .u64 (bitsOp .xor .u64 (bitsOp .xor .u64 l0 (shlOp .u64 l0 13)) (shrOp .u64 (bitsOp .xor .u64 l0 (shlOp .u64 l0 13)) 7)) (shlOp .u64 (bitsOp .xor .u64 (bitsOp .xor .u64 l0 (shlOp .u64 l0 13)) (shrOp .u64 (bitsOp .xor .u64 l0 (shlOp .u64 l0 13)) 7)) 17))))], [(5000, .box [.d (u6 (bitsOp .xor .u64 (bitsOp .xor .u64 (bitsOp .xor .u64 l0 (shlOp .u64 l0 13)) (shrOp .u64 (bitsOp .xor .u64 l0 (shlOp .u64 l0 13)) 7)) (shlOp .u64 (bitsOp .xor .u64 (bitsOp .xor .u64 l0 (shlOp .u64 l0 13)) (shrOp .u64 (bitsOp .xor .u64 l0 (shlOp .u64 l0 13)) 7)) 17)))])]⟩) (c := True ∧ True ∧ True ∧ True ∧ True) (by kernel_rfl) ⟨trivial, trivial, trivial, trivial, trivial⟩ ?_
  refine At.done rfl ?_
  show Tri _ _ _ _
  refine Tri.keep [2] [5000] (s' := ⟨[(2, cD (u6 (bitsOp .xor .u64 (bitsOp .xor .u64 (bitsOp .xor .u64 l0 (shlOp .u64 l0 13)) (shrOp .u64 (bitsOp .xor .u64 l0 (shlOp .u64 l0 13)) 7)) (shlOp .u64 (bitsOp .xor .u64 (bitsOp .xor .u64 l0 (shlOp .u64 l0 13)) (shrOp .u64 (bitsOp .xor .u64 l0 (shlOp .u64 l0 13)) 7)) 17))))], [(5000, .box [.d (u6 (bitsOp .xor .u64 (bitsOp .xor .u64 (bitsOp .xor .u64 l0 (shlOp .u64 l0 13)) (shrOp .u64 (bitsOp .xor .u64 l0 (shlOp .u64 l0 13)) 7)) (shlOp .u64 (bitsOp .xor .u64 (bitsOp .xor .u64 l0 (shlOp .u64 l0 13)) (shrOp .u64 (bitsOp .xor .u64 l0 (shlOp .u64 l0 13)) 7)) 17)))])]⟩) (by kernel_rfl) ?_
  refine Tri.ret ?_
  cases h
  refine ⟨_, _, rfl, ⟨trivial, trivial⟩, rfl, rfl, ?_⟩
  exact SubS.out ⟨⟨rfl, rfl⟩, trivial⟩

set_option maxRecDepth 100000 in
theorem slices_breakPatternsCmpFunc_Time__Compare_w_ok {fuel : Nat} {p1 : Int} {p2 : Int} {l0 : List Time} {q : List Time} (h : slices_breakPatternsCmpFunc_Time__Compare_w fuel p1 p2 l0 = some q) :
    Summ Try.prog 51 [.c (oC 5000 3 l0), cD (i6 p1), cD (i6 p2), cD (.fn 20 [])] [(5000, vL 3 encTime l0)] (.tup []) [(5000, vL 3 encTime q)] := by
  refine Summ.intro Try.func51 rfl (by kernel_rfl) (by kernel_rfl) [] rfl ?_
  rintro ⟨P, w0, G0, V, LL, lk, N, φ0, fx⟩ rfl rfl rfl rfl
  unfold slices_breakPatternsCmpFunc_Time__Compare_w at h
  refine Tri.seqS ?_
  refine Tri.reg ?_
  refine At.seg 4 [0, 1, 8] [5000] (s' := ⟨[(0, .c (oC 5000 3 l0)), (1, cD (i6 p1)), (8, cD (i6 (IntKind.i64.wrap (p2 - p1))))], [(5000, vL 3 encTime l0)]⟩) (c := True ∧ True ∧ True ∧ True ∧ True) (by kernel_rfl) ⟨trivial, trivial, trivial, trivial, trivial⟩ ?_
  refine At.done rfl ?_
  show Tri _ _ _ _
  refine Tri.seqS ?_
  refine Tri.reg ?_
  refine At.seg 2 [0, 1, 8, 17] [5000] (s' := ⟨[(0, .c (oC 5000 3 l0)), (1, cD (i6 p1)), (8, cD (i6 (IntKind.i64.wrap (p2 - p1)))), (17, cD (.bool (decide (8 ≤ (IntKind.i64.wrap (p2 - p1))))))], [(5000, vL 3 encTime l0)]⟩) (c := True ∧ True ∧ True) (by kernel_rfl) ⟨trivial, trivial, trivial⟩ ?_
  refine At.done rfl ?_
  show Tri _ _ _ _
  refine Tri.condP (b := (decide (8 ≤ (IntKind.i64.wrap (p2 - p1))))) rfl h (fun h => ?_) (fun h => ?_)
  ·refine Tri.seqS ?_
   refine Tri.reg ?_
   refine At.seg 4 [0, 1, 8, 9] [9, 5000] (s' := ⟨[(0, .c (oC 5000 3 l0)), (1, cD (i6 p1)), (8, cD (i6 (IntKind.i64.wrap (p2 - p1)))), (9, .c (.ptr 9 0))], [(9, .box [.d (u6 (IntKind.u64.wrap (IntKind.i64.wrap (p2 - p1))))]), (5000, vL 3 encTime l0)]⟩) (c := True ∧ True ∧ True ∧ True ∧ True) (by kernel_rfl) ⟨trivial, trivial, trivial, trivial, trivial⟩ ?_
   refine At.done rfl ?_
   show Tri _ _ _ _
   refine Tri.seqS ?_
   refine Tri.reg ?_
   refine At.seg 1 [0, 1, 8, 9, 20] [9, 5000] (s' := ⟨[(0, .c (oC 5000 3 l0)), (1, cD (i6 p1)), (8, cD (i6 (IntKind.i64.wrap (p2 - p1)))), (9, .c (.ptr 9 0)), (20, cD (i6 (IntKind.i64.wrap (p2 - p1))))], [(9, .box [.d (u6 (IntKind.u64.wrap (IntKind.i64.wrap (p2 - p1))))]), (5000, vL 3 encTime l0)]⟩) (c := True ∧ True) (by kernel_rfl) ⟨trivial, trivial⟩ ?_
   obtain ⟨r1, hr1, h⟩ := bind_elim h
   refine At.callA (caps := []) (xs := [cD (i6 (IntKind.i64.wrap (p2 - p1)))]) (slices_nextPowerOfTwo_ok hr1) rfl rfl rfl rfl rfl rfl (.cons (.refl _) .nil) rfl rfl ?_
   refine At.seg 1 [0, 1, 8, 9, 10] [9, 5000] (s' := ⟨[(0, .c (oC 5000 3 l0)), (1, cD (i6 p1)), (8, cD (i6 (IntKind.i64.wrap (p2 - p1)))), (9, .c (.ptr 9 0)), (10, cD (u6 r1))], [(9, .box [.d (u6 (IntKind.u64.wrap (IntKind.i64.wrap (p2 - p1))))]), (5000, vL 3 encTime l0)]⟩) (c := True ∧ True) (by kernel_rfl) ⟨trivial, trivial⟩ ?_
   refine At.done rfl ?_
   show Tri _ _ _ _
   refine Tri.seqS ?_
   refine Tri.reg ?_
   refine At.seg 7 [0, 1, 8, 9, 10, 11] [9, 5000] (s' := ⟨[(0, .c (oC 5000 3 l0)), (1, cD (i6 p1)), (8, cD (i6 (IntKind.i64.wrap (p2 - p1)))), (9, .c (.ptr 9 0)), (10, cD (u6 r1)), (11, cD (i6 (IntKind.i64.wrap ((IntKind.i64.wrap (p1 + (IntKind.i64.wrap ((IntKind.i64.wrap ((IntKind.i64.wrap (p2 - p1)).tdiv 4)) * 2)))) - 1))))], [(9, .box [.d (u6 (IntKind.u64.wrap (IntKind.i64.wrap (p2 - p1))))]), (5000, vL 3 encTime l0)]⟩) (c := True ∧ True ∧ ((4 : Int) ≠ 0) ∧ True ∧ True ∧ True ∧ True ∧ True) (by kernel_rfl) ⟨trivial, trivial, (by decide : (4 : Int) ≠ 0), trivial, trivial, trivial, trivial, trivial⟩ ?_
   refine At.done rfl ?_
   show Tri _ _ _ _
   refine Tri.keep [0, 1, 8, 9, 10, 11] [9, 5000] (s' := ⟨[(0, .c (oC 5000 3 l0)), (1, cD (i6 p1)), (8, cD (i6 (IntKind.i64.wrap (p2 - p1)))), (9, .c (.ptr 9 0)), (10, cD (u6 r1)), (11, cD (i6 (IntKind.i64.wrap ((IntKind.i64.wrap (p1 + (IntKind.i64.wrap ((IntKind.i64.wrap ((IntKind.i64.wrap (p2 - p1)).tdiv 4)) * 2)))) - 1))))], [(9, .box [.d (u6 (IntKind.u64.wrap (IntKind.i64.wrap (p2 - p1))))]), (5000, vL 3 encTime l0)]⟩) (by kernel_rfl) ?_
   refine Tri.loopK (fuel := fuel) (st0 := ((IntKind.i64.wrap (p2 - p1)), (IntKind.i64.wrap ((IntKind.i64.wrap (p1 + (IntKind.i64.wrap ((IntKind.i64.wrap ((IntKind.i64.wrap (p2 - p1)).tdiv 4)) * 2)))) - 1)), (IntKind.u64.wrap (IntKind.i64.wrap (p2 - p1))), l0)) (fun (x : Empty) s => False) (fun (a2 : Int × Int × Int × (List Time)) => ⟨[(0, .c (oC 5000 3 a2.2.2.2)), (1, cD (i6 p1)), (8, cD (i6 a2.1)), (9, .c (.ptr 9 0)), (10, cD (u6 r1)), (11, cD (i6 a2.2.1))], [(9, .box [.d (u6 a2.2.2.1)]), (5000, vL 3 encTime a2.2.2.2)]⟩) (fun (a2 : Int × Int × Int × (List Time)) => ⟨[], [(5000, vL 3 encTime a2.2.2.2)]⟩) h ?_ ?_ ?_
   ·intro a2 c h
    show Tri _ _ ⟨[(0, .c (oC 5000 3 a2.2.2.2)), (1, cD (i6 p1)), (8, cD (i6 a2.1)), (9, .c (.ptr 9 0)), (10, cD (u6 r1)), (11, cD (i6 a2.2.1))], [(9, .box [.d (u6 a2.2.2.1)]), (5000, vL 3 encTime a2.2.2.2)]⟩ _
    refine Tri.seqS ?_
    refine Tri.seqS ?_
    refine Tri.reg ?_
    refine At.seg 8 [0, 1, 8, 9, 10, 11, 35] [9, 5000] (s' := ⟨[(0, .c (oC 5000 3 a2.2.2.2)), (1, cD (i6 p1)), (8, cD (i6 a2.1)), (9, .c (.ptr 9 0)), (10, cD (u6 r1)), (11, cD (i6 a2.2.1)), (35, cD (.bool (decide (a2.2.1 ≤ (IntKind.i64.wrap ((IntKind.i64.wrap (p1 + (IntKind.i64.wrap ((IntKind.i64.wrap (a2.1.tdiv 4)) * 2)))) + 1))))))], [(9, .box [.d (u6 a2.2.2.1)]), (5000, vL 3 encTime a2.2.2.2)]⟩) (c := True ∧ True ∧ True ∧ ((4 : Int) ≠ 0) ∧ True ∧ True ∧ True ∧ True ∧ True) (by kernel_rfl) ⟨trivial, trivial, trivial, (by decide : (4 : Int) ≠ 0), trivial, trivial, trivial, trivial, trivial⟩ ?_
    refine At.done rfl ?_
    show Tri _ _ _ _
    refine Tri.condP (b := (decide (a2.2.1 ≤ (IntKind.i64.wrap ((IntKind.i64.wrap (p1 + (IntKind.i64.wrap ((IntKind.i64.wrap (a2.1.tdiv 4)) * 2)))) + 1))))) rfl h (fun h => ?_) (fun h => ?_)
    ·refine Tri.skip ?_
     show Tri _ _ _ _
     refine Tri.seqS ?_
     refine Tri.blockB ?_
     refine Tri.seqS ?_
     refine Tri.reg ?_
     obtain ⟨r4, hr4, h⟩ := bind_elim h
     refine At.callL (nf := 0) (caps := []) (xs := [.c (.ptr 9 0)]) [(5000, 9)] [0, 1, 8, 9, 10, 11] [5000] (s0 := ⟨[(0, .c (oC 5000 3 a2.2.2.2)), (1, cD (i6 p1)), (8, cD (i6 a2.1)), (9, .c (.ptr 9 0)), (10, cD (u6 r1)), (11, cD (i6 a2.2.1))], [(5000, vL 3 encTime a2.2.2.2)]⟩) (slices_xorshift_Next_w_ok hr4) rfl rfl (by kernel_rfl) rfl (by kernel_rfl) (by kernel_rfl) (.ren rfl rfl .nil) ⟨⟨by kernel_rfl, by kernel_rfl⟩, trivial⟩ (by kernel_rfl) (by kernel_rfl) (by kernel_rfl) (by kernel_rfl) (by kernel_rfl) (by kernel_rfl) (by kernel_rfl) (by kernel_rfl) (by kernel_rfl) ⟨[(38, cD (u6 r4.1)), (0, .c (oC 5000 3 a2.2.2.2)), (1, cD (i6 p1)), (8, cD (i6 a2.1)), (9, .c (.ptr 9 0)), (10, cD (u6 r1)), (11, cD (i6 a2.2.1))], [(9, .box [.d (u6 r4.2)]), (5000, vL 3 encTime a2.2.2.2)]⟩ (by kernel_rfl) ?_
     refine At.seg 5 [0, 1, 8, 9, 10, 11, 12] [9, 5000] (s' := ⟨[(0, .c (oC 5000 3 a2.2.2.2)), (1, cD (i6 p1)), (8, cD (i6 a2.1)), (9, .c (.ptr 9 0)), (10, cD (u6 r1)), (11, cD (i6 a2.2.1)), (12, cD (i6 (IntKind.i64.wrap (bitsOp .and .u64 r4.1 (IntKind.u64.wrap (r1 - 1))))))], [(9, .box [.d (u6 r4.2)]), (5000, vL 3 encTime a2.2.2.2)]⟩) (c := True ∧ True ∧ True ∧ True ∧ True ∧ True) (by kernel_rfl) ⟨trivial, trivial, trivial, trivial, trivial, trivial⟩ ?_
     refine At.done rfl ?_
     show Tri _ _ _ _
     refine Tri.seqJ (fun (a5 : Int) => ⟨[(0, .c (oC 5000 3 a2.2.2.2)), (1, cD (i6 p1)), (8, cD (i6 a2.1)), (9, .c (.ptr 9 0)), (10, cD (u6 r1)), (11, cD (i6 a2.2.1)), (12, cD (i6 a5))], [(9, .box [.d (u6 r4.2)]), (5000, vL 3 encTime a2.2.2.2)]⟩) h (fun a5 h => ?_) (fun j6 h => ?_)
     ·show Tri _ _ ⟨[(0, .c (oC 5000 3 a2.2.2.2)), (1, cD (i6 p1)), (8, cD (i6 a2.1)), (9, .c (.ptr 9 0)), (10, cD (u6 r1)), (11, cD (i6 a2.2.1)), (12, cD (i6 a5))], [(9, .box [.d (u6 r4.2)]), (5000, vL 3 encTime a2.2.2.2)]⟩ _
      obtain ⟨hc7, h⟩ := need_elim h
      obtain ⟨hc8, h⟩ := need_elim h
      obtain ⟨hc9, h⟩ := need_elim h
      obtain ⟨hc10, h⟩ := need_elim h
      obtain ⟨hc11, h⟩ := need_elim h
      obtain ⟨hc12, h⟩ := need_elim h
      obtain ⟨hc13, h⟩ := need_elim h
      obtain ⟨hc14, h⟩ := need_elim h
      refine Tri.afterA ⟨[(0, .c (oC 5000 3 a2.2.2.2)), (1, cD (i6 p1)), (8, cD (i6 a2.1)), (9, .c (.ptr 9 0)), (10, cD (u6 r1)), (11, cD (i6 a2.2.1))], [(9, .box [.d (u6 r4.2)]), (5000, vL 3 encTime ((a2.2.2.2.set (0 + a2.2.1.toNat) (a2.2.2.2.getD (0 + (IntKind.i64.wrap (p1 + a5)).toNat) default)).set (0 + (IntKind.i64.wrap (p1 + a5)).toNat) (a2.2.2.2.getD (0 + a2.2.1.toNat) default)))]⟩ ?_ ?_
      ·refine Tri.drawn (specs := [⟨⟨[(0, .c (oC 5000 3 a2.2.2.2))], []⟩, ⟨[(49, .c (oC 5000 3 a2.2.2.2))], []⟩, [], [], []⟩, ⟨⟨[(11, cD (i6 a2.2.1))], []⟩, ⟨[(50, cD (i6 a2.2.1))], []⟩, [], [], []⟩, ⟨⟨[(0, .c (oC 5000 3 a2.2.2.2))], []⟩, ⟨[(51, .c (oC 5000 3 a2.2.2.2))], []⟩, [], [], []⟩, ⟨⟨[(1, cD (i6 p1))], []⟩, ⟨[(52, cD (i6 p1))], []⟩, [], [], []⟩, ⟨⟨[(12, cD (i6 a5))], []⟩, ⟨[(53, cD (i6 a5))], []⟩, [], [], []⟩, ⟨⟨[(52, cD (i6 p1)), (53, cD (i6 a5))], []⟩, ⟨[(54, cD (i6 (IntKind.i64.wrap (p1 + a5))))], []⟩, [], [], []⟩, ⟨⟨[(0, .c (oC 5000 3 a2.2.2.2))], []⟩, ⟨[(55, .c (oC 5000 3 a2.2.2.2))], []⟩, [], [], []⟩, ⟨⟨[(1, cD (i6 p1))], []⟩, ⟨[(56, cD (i6 p1))], []⟩, [], [], []⟩, ⟨⟨[(12, cD (i6 a5))], []⟩, ⟨[(57, cD (i6 a5))], []⟩, [], [], []⟩, ⟨⟨[(56, cD (i6 p1)), (57, cD (i6 a5))], []⟩, ⟨[(58, cD (i6 (IntKind.i64.wrap (p1 + a5))))], []⟩, [], [], []⟩, ⟨⟨[(55, .c (oC 5000 3 a2.2.2.2)), (58, cD (i6 (IntKind.i64.wrap (p1 + a5))))], [(5000, vL 3 encTime a2.2.2.2)]⟩, ⟨[(59, .c (.vptr 5000 3 (0 + (IntKind.i64.wrap (p1 + a5)).toNat) 0))], []⟩, [], [], []⟩, ⟨⟨[(59, .c (.vptr 5000 3 (0 + (IntKind.i64.wrap (p1 + a5)).toNat) 0))], [(5000, vL 3 encTime a2.2.2.2)]⟩, ⟨[(60, .agg (cTime (a2.2.2.2.getD (0 + (IntKind.i64.wrap (p1 + a5)).toNat) default)))], []⟩, [], [], []⟩, ⟨⟨[(0, .c (oC 5000 3 a2.2.2.2))], []⟩, ⟨[(61, .c (oC 5000 3 a2.2.2.2))], []⟩, [], [], []⟩, ⟨⟨[(11, cD (i6 a2.2.1))], []⟩, ⟨[(62, cD (i6 a2.2.1))], []⟩, [], [], []⟩, ⟨⟨[(61, .c (oC 5000 3 a2.2.2.2)), (62, cD (i6 a2.2.1))], [(5000, vL 3 encTime a2.2.2.2)]⟩, ⟨[(63, .c (.vptr 5000 3 (0 + a2.2.1.toNat) 0))], []⟩, [], [], []⟩, ⟨⟨[(63, .c (.vptr 5000 3 (0 + a2.2.1.toNat) 0))], [(5000, vL 3 encTime a2.2.2.2)]⟩, ⟨[(64, .agg (cTime (a2.2.2.2.getD (0 + a2.2.1.toNat) default)))], []⟩, [], [], []⟩, ⟨⟨[(49, .c (oC 5000 3 a2.2.2.2)), (50, cD (i6 a2.2.1))], [(5000, vL 3 encTime a2.2.2.2)]⟩, ⟨[(65, .c (.vptr 5000 3 (0 + a2.2.1.toNat) 0))], []⟩, [], [], []⟩, ⟨⟨[(60, .agg (cTime (a2.2.2.2.getD (0 + (IntKind.i64.wrap (p1 + a5)).toNat) default))), (65, .c (.vptr 5000 3 (0 + a2.2.1.toNat) 0))], [(5000, vL 3 encTime a2.2.2.2)]⟩, ⟨[], [(5000, vL 3 encTime (a2.2.2.2.set (0 + a2.2.1.toNat) (a2.2.2.2.getD (0 + (IntKind.i64.wrap (p1 + a5)).toNat) default)))]⟩, [], [], []⟩, ⟨⟨[(51, .c (oC 5000 3 a2.2.2.2)), (54, cD (i6 (IntKind.i64.wrap (p1 + a5))))], [(5000, vL 3 encTime (a2.2.2.2.set (0 + a2.2.1.toNat) (a2.2.2.2.getD (0 + (IntKind.i64.wrap (p1 + a5)).toNat) default)))]⟩, ⟨[(66, .c (.vptr 5000 3 (0 + (IntKind.i64.wrap (p1 + a5)).toNat) 0))], []⟩, [], [], []⟩, ⟨⟨[(64, .agg (cTime (a2.2.2.2.getD (0 + a2.2.1.toNat) default))), (66, .c (.vptr 5000 3 (0 + (IntKind.i64.wrap (p1 + a5)).toNat) 0))], [(5000, vL 3 encTime (a2.2.2.2.set (0 + a2.2.1.toNat) (a2.2.2.2.getD (0 + (IntKind.i64.wrap (p1 + a5)).toNat) default)))]⟩, ⟨[], [(5000, vL 3 encTime ((a2.2.2.2.set (0 + a2.2.1.toNat) (a2.2.2.2.getD (0 + (IntKind.i64.wrap (p1 + a5)).toNat) default)).set (0 + (IntKind.i64.wrap (p1 + a5)).toNat) (a2.2.2.2.getD (0 + a2.2.1.toNat) default)))]⟩, [], [], []⟩]) (bef := [[], [], [], [], [], [3, 4], [], [], [], [7, 8], [6, 7, 8, 9], [6, 7, 8, 9, 10], [], [], [12, 13], [12, 13, 14], [0, 1, 6, 7, 8, 9, 10, 11, 12, 13, 14, 15], [0, 1, 6, 7, 8, 9, 10, 11, 12, 13, 14, 15, 16], [0, 1, 2, 3, 4, 5, 6, 7, 8, 9, 10, 11, 12, 13, 14, 15, 16, 17], [0, 1, 2, 3, 4, 5, 6, 7, 8, 9, 10, 11, 12, 13, 14, 15, 16, 17, 18]]) (tk := [0, 1, 8, 9, 10, 11]) (sk := [9, 5000]) (s' := ⟨[(0, .c (oC 5000 3 a2.2.2.2)), (1, cD (i6 p1)), (8, cD (i6 a2.1)), (9, .c (.ptr 9 0)), (10, cD (u6 r1)), (11, cD (i6 a2.2.1))], [(9, .box [.d (u6 r4.2)]), (5000, vL 3 encTime ((a2.2.2.2.set (0 + a2.2.1.toNat) (a2.2.2.2.getD (0 + (IntKind.i64.wrap (p1 + a5)).toNat) default)).set (0 + (IntKind.i64.wrap (p1 + a5)).toNat) (a2.2.2.2.getD (0 + a2.2.1.toNat) default)))]⟩) (by kernel_rfl) (by kernel_rfl) (by kernel_rfl) ⟨?_, ?_, ?_, ?_, ?_, ?_, ?_, ?_, ?_, ?_, ?_, ?_, ?_, ?_, ?_, ?_, ?_, ?_, ?_, ?_, trivial⟩ (by kernel_rfl) ?_
       · exact DOk.t rfl rfl (by kernel_rfl) (by kernel_rfl)
       · exact DOk.t rfl rfl (by kernel_rfl) (by kernel_rfl)
       · exact DOk.t rfl rfl (by kernel_rfl) (by kernel_rfl)
       · exact DOk.t rfl rfl (by kernel_rfl) (by kernel_rfl)
       · exact DOk.t rfl rfl (by kernel_rfl) (by kernel_rfl)
       · exact DOk.t rfl rfl (by kernel_rfl) (by kernel_rfl)
       · exact DOk.t rfl rfl (by kernel_rfl) (by kernel_rfl)
       · exact DOk.t rfl rfl (by kernel_rfl) (by kernel_rfl)
       · exact DOk.t rfl rfl (by kernel_rfl) (by kernel_rfl)
       · exact DOk.t rfl rfl (by kernel_rfl) (by kernel_rfl)
       · exact DOk.step (.val (.c (.vptr 5000 3 (0 + (IntKind.i64.wrap (p1 + a5)).toNat) 0)) ((0 : Int) ≤ (IntKind.i64.wrap (p1 + a5)) ∧ (IntKind.i64.wrap (p1 + a5)) < (a2.2.2.2.length : Int))) (fun r => by kernel_rfl) (fun r => by kernel_rfl) hc7 (by kernel_rfl) (by kernel_rfl) (fun r => rfl)
       · exact DOk.step (.val (.agg (cTime (a2.2.2.2.getD (0 + (IntKind.i64.wrap (p1 + a5)).toNat) default))) ((0 + (IntKind.i64.wrap (p1 + a5)).toNat) < a2.2.2.2.length)) (fun r => by kernel_rfl) (fun r => by kernel_rfl) hc8 (by kernel_rfl) (by kernel_rfl) (fun r => rfl)
       · exact DOk.t rfl rfl (by kernel_rfl) (by kernel_rfl)
       · exact DOk.t rfl rfl (by kernel_rfl) (by kernel_rfl)
       · exact DOk.step (.val (.c (.vptr 5000 3 (0 + a2.2.1.toNat) 0)) ((0 : Int) ≤ a2.2.1 ∧ a2.2.1 < (a2.2.2.2.length : Int))) (fun r => by kernel_rfl) (fun r => by kernel_rfl) hc9 (by kernel_rfl) (by kernel_rfl) (fun r => rfl)
       · exact DOk.step (.val (.agg (cTime (a2.2.2.2.getD (0 + a2.2.1.toNat) default))) ((0 + a2.2.1.toNat) < a2.2.2.2.length)) (fun r => by kernel_rfl) (fun r => by kernel_rfl) hc10 (by kernel_rfl) (by kernel_rfl) (fun r => rfl)
       · exact DOk.step (.val (.c (.vptr 5000 3 (0 + a2.2.1.toNat) 0)) ((0 : Int) ≤ a2.2.1 ∧ a2.2.1 < (a2.2.2.2.length : Int))) (fun r => by kernel_rfl) (fun r => by kernel_rfl) hc11 (by kernel_rfl) (by kernel_rfl) (fun r => rfl)
       · exact DOk.one fun r hr => One.storeT (xs := [.d (u6 ((a2.2.2.2.getD (0 + (IntKind.i64.wrap (p1 + a5)).toNat) default).epoch)), .d (u6 ((a2.2.2.2.getD (0 + (IntKind.i64.wrap (p1 + a5)).toNat) default).loop.1)), .d (u6 ((a2.2.2.2.getD (0 + (IntKind.i64.wrap (p1 + a5)).toNat) default).loop.2))]) (ds := [u6 ((a2.2.2.2.getD (0 + (IntKind.i64.wrap (p1 + a5)).toNat) default).epoch), u6 ((a2.2.2.2.getD (0 + (IntKind.i64.wrap (p1 + a5)).toNat) default).loop.1), u6 ((a2.2.2.2.getD (0 + (IntKind.i64.wrap (p1 + a5)).toNat) default).loop.2)]) (encTime) a2.2.2.2 (a2.2.2.2.getD (0 + (IntKind.i64.wrap (p1 + a5)).toNat) default) rfl (by kernel_rfl) rfl rfl rfl hc12 rfl rfl (.refl _) rfl rfl rfl rfl
       · exact DOk.step (.val (.c (.vptr 5000 3 (0 + (IntKind.i64.wrap (p1 + a5)).toNat) 0)) ((0 : Int) ≤ (IntKind.i64.wrap (p1 + a5)) ∧ (IntKind.i64.wrap (p1 + a5)) < (a2.2.2.2.length : Int))) (fun r => by kernel_rfl) (fun r => by kernel_rfl) hc13 (by kernel_rfl) (by kernel_rfl) (fun r => rfl)
       · exact DOk.one fun r hr => One.storeT (xs := [.d (u6 ((a2.2.2.2.getD (0 + a2.2.1.toNat) default).epoch)), .d (u6 ((a2.2.2.2.getD (0 + a2.2.1.toNat) default).loop.1)), .d (u6 ((a2.2.2.2.getD (0 + a2.2.1.toNat) default).loop.2))]) (ds := [u6 ((a2.2.2.2.getD (0 + a2.2.1.toNat) default).epoch), u6 ((a2.2.2.2.getD (0 + a2.2.1.toNat) default).loop.1), u6 ((a2.2.2.2.getD (0 + a2.2.1.toNat) default).loop.2)]) (encTime) (a2.2.2.2.set (0 + a2.2.1.toNat) (a2.2.2.2.getD (0 + (IntKind.i64.wrap (p1 + a5)).toNat) default)) (a2.2.2.2.getD (0 + a2.2.1.toNat) default) rfl (by kernel_rfl) rfl rfl rfl hc14 rfl rfl (.refl _) rfl rfl rfl rfl
       exact ⟨rfl, rfl⟩
      ·refine At.eqS (s' := ⟨[(0, .c (oC 5000 3 ((a2.2.2.2.set (0 + a2.2.1.toNat) (a2.2.2.2.getD (0 + (IntKind.i64.wrap (p1 + a5)).toNat) default)).set (0 + (IntKind.i64.wrap (p1 + a5)).toNat) (a2.2.2.2.getD (0 + a2.2.1.toNat) default)))), (1, cD (i6 p1)), (8, cD (i6 a2.1)), (9, .c (.ptr 9 0)), (10, cD (u6 r1)), (11, cD (i6 a2.2.1))], [(9, .box [.d (u6 r4.2)]), (5000, vL 3 encTime ((a2.2.2.2.set (0 + a2.2.1.toNat) (a2.2.2.2.getD (0 + (IntKind.i64.wrap (p1 + a5)).toNat) default)).set (0 + (IntKind.i64.wrap (p1 + a5)).toNat) (a2.2.2.2.getD (0 + a2.2.1.toNat) default)))]⟩) (by simp only [oC, vL, List.length_set]) ?_
       refine At.done rfl ?_
       show Tri _ _ _ _
       refine Tri.reg ?_
       refine At.seg 3 [0, 1, 8, 9, 10, 11] [9, 5000] (s' := ⟨[(0, .c (oC 5000 3 ((a2.2.2.2.set (0 + a2.2.1.toNat) (a2.2.2.2.getD (0 + (IntKind.i64.wrap (p1 + a5)).toNat) default)).set (0 + (IntKind.i64.wrap (p1 + a5)).toNat) (a2.2.2.2.getD (0 + a2.2.1.toNat) default)))), (1, cD (i6 p1)), (8, cD (i6 a2.1)), (9, .c (.ptr 9 0)), (10, cD (u6 r1)), (11, cD (i6 (IntKind.i64.wrap (a2.2.1 + 1))))], [(9, .box [.d (u6 r4.2)]), (5000, vL 3 encTime ((a2.2.2.2.set (0 + a2.2.1.toNat) (a2.2.2.2.getD (0 + (IntKind.i64.wrap (p1 + a5)).toNat) default)).set (0 + (IntKind.i64.wrap (p1 + a5)).toNat) (a2.2.2.2.getD (0 + a2.2.1.toNat) default)))]⟩) (c := True ∧ True ∧ True ∧ True) (by kernel_rfl) ⟨trivial, trivial, trivial, trivial⟩ ?_
       refine At.done rfl ?_
       cases h
       exact rfl
     ·refine Tri.seqS ?_
      refine Tri.reg ?_
      refine At.seg 3 [0, 1, 8, 9, 10, 11, 12, 45] [9, 5000] (s' := ⟨[(0, .c (oC 5000 3 a2.2.2.2)), (1, cD (i6 p1)), (8, cD (i6 a2.1)), (9, .c (.ptr 9 0)), (10, cD (u6 r1)), (11, cD (i6 a2.2.1)), (12, cD (i6 (IntKind.i64.wrap (bitsOp .and .u64 r4.1 (IntKind.u64.wrap (r1 - 1)))))), (45, cD (.bool (decide (a2.1 ≤ (IntKind.i64.wrap (bitsOp .and .u64 r4.1 (IntKind.u64.wrap (r1 - 1))))))))], [(9, .box [.d (u6 r4.2)]), (5000, vL 3 encTime a2.2.2.2)]⟩) (c := True ∧ True ∧ True ∧ True) (by kernel_rfl) ⟨trivial, trivial, trivial, trivial⟩ ?_
      refine At.done rfl ?_
      show Tri _ _ _ _
      refine Tri.condP (b := (decide (a2.1 ≤ (IntKind.i64.wrap (bitsOp .and .u64 r4.1 (IntKind.u64.wrap (r1 - 1))))))) rfl h (fun h => ?_) (fun h => ?_)
      ·refine Tri.reg ?_
       refine At.seg 4 [0, 1, 8, 9, 10, 11, 12] [9, 5000] (s' := ⟨[(0, .c (oC 5000 3 a2.2.2.2)), (1, cD (i6 p1)), (8, cD (i6 a2.1)), (9, .c (.ptr 9 0)), (10, cD (u6 r1)), (11, cD (i6 a2.2.1)), (12, cD (i6 (IntKind.i64.wrap ((IntKind.i64.wrap (bitsOp .and .u64 r4.1 (IntKind.u64.wrap (r1 - 1)))) - a2.1))))], [(9, .box [.d (u6 r4.2)]), (5000, vL 3 encTime a2.2.2.2)]⟩) (c := True ∧ True ∧ True ∧ True ∧ True) (by kernel_rfl) ⟨trivial, trivial, trivial, trivial, trivial⟩ ?_
       refine At.done rfl ?_
       exact ⟨_, h, rfl⟩
      ·refine Tri.keep [0, 1, 8, 9, 10, 11, 12] [9, 5000] (s' := ⟨[(0, .c (oC 5000 3 a2.2.2.2)), (1, cD (i6 p1)), (8, cD (i6 a2.1)), (9, .c (.ptr 9 0)), (10, cD (u6 r1)), (11, cD (i6 a2.2.1)), (12, cD (i6 (IntKind.i64.wrap (bitsOp .and .u64 r4.1 (IntKind.u64.wrap (r1 - 1))))))], [(9, .box [.d (u6 r4.2)]), (5000, vL 3 encTime a2.2.2.2)]⟩) (by kernel_rfl) ?_
       refine Tri.skip ?_
       exact ⟨_, h, rfl⟩
    ·refine Tri.keep [] [5000] (s' := ⟨[], [(5000, vL 3 encTime a2.2.2.2)]⟩) (by kernel_rfl) ?_
     refine Tri.exit ?_
     cases h
     exact ⟨rfl, rfl⟩
   ·intro a3 h
    cases h
    refine ⟨_, _, rfl, trivial, rfl, rfl, ?_⟩
    exact SubS.out ⟨⟨rfl, rfl⟩, trivial⟩
   · exact fun x => x.elim
  ·refine Tri.keep [] [5000] (s' := ⟨[], [(5000, vL 3 encTime l0)]⟩) (by kernel_rfl) ?_
   refine Tri.skip ?_
   cases h
   refine ⟨_, _, rfl, trivial, rfl, rfl, ?_⟩
   exact SubS.out ⟨⟨rfl, rfl⟩, trivial⟩

set_option maxRecDepth 100000 in
theorem slices_pdqsortCmpFunc_Time__Compare_w_ok {fuel : Nat} {p1 : Int} {p2 : Int} {p3 : Int} {l0 : List Time} {q : List Time} (h : slices_pdqsortCmpFunc_Time__Compare_w fuel p1 p2 p3 l0 = some q) :
    Summ Try.prog 46 [.c (oC 5000 3 l0), cD (i6 p1), cD (i6 p2), cD (i6 p3), cD (.fn 20 [])] [(5000, vL 3 encTime l0)] (.tup []) [(5000, vL 3 encTime q)] := by
  induction fuel generalizing p1 p2 p3 l0 q with
  | zero => rw [slices_pdqsortCmpFunc_Time__Compare_w.eq_1] at h; cases h
  | succ fuel ih =>
    refine Summ.intro Try.func46 rfl (by kernel_rfl) (by kernel_rfl) [] rfl ?_
    rintro ⟨P, w0, G0, V, LL, lk, N, φ0, fx⟩ rfl rfl rfl rfl
    rw [slices_pdqsortCmpFunc_Time__Compare_w.eq_2] at h
    refine Tri.seqS ?_
    refine Tri.reg ?_
    refine At.seg 1 [0, 1, 2, 3, 4, 10] [5000] (s' := ⟨[(0, .c (oC 5000 3 l0)), (1, cD (i6 p1)), (2, cD (i6 p2)), (3, cD (i6 p3)), (4, cD (.fn 20 [])), (10, cD (.bool true))], [(5000, vL 3 encTime l0)]⟩) (c := True ∧ True) (by kernel_rfl) ⟨trivial, trivial⟩ ?_
    refine At.done rfl ?_
    show Tri _ _ _ _
    refine Tri.seqS ?_
    refine Tri.reg ?_
    refine At.seg 1 [0, 1, 2, 3, 4, 10, 11] [5000] (s' := ⟨[(0, .c (oC 5000 3 l0)), (1, cD (i6 p1)), (2, cD (i6 p2)), (3, cD (i6 p3)), (4, cD (.fn 20 [])), (10, cD (.bool true)), (11, cD (.bool true))], [(5000, vL 3 encTime l0)]⟩) (c := True ∧ True) (by kernel_rfl) ⟨trivial, trivial⟩ ?_
    refine At.done rfl ?_
    show Tri _ _ _ _
    refine Tri.keep [0, 1, 2, 3, 4, 10, 11] [5000] (s' := ⟨[(0, .c (oC 5000 3 l0)), (1, cD (i6 p1)), (2, cD (i6 p2)), (3, cD (i6 p3)), (4, cD (.fn 20 [])), (10, cD (.bool true)), (11, cD (.bool true))], [(5000, vL 3 encTime l0)]⟩) (by kernel_rfl) ?_
    refine Tri.loopK (fuel := fuel) (st0 := (p1, p2, p3, true, true, l0)) (fun (x : List Time) s => RetAt Try.prog Try.f46 (.tup []) [(5000, vL 3 encTime x)] s) (fun (a1 : Int × Int × Int × Bool × Bool × (List Time)) => ⟨[(0, .c (oC 5000 3 a1.2.2.2.2.2)), (1, cD (i6 a1.1)), (2, cD (i6 a1.2.1)), (3, cD (i6 a1.2.2.1)), (4, cD (.fn 20 [])), (10, cD (.bool a1.2.2.2.1)), (11, cD (.bool a1.2.2.2.2.1))], [(5000, vL 3 encTime a1.2.2.2.2.2)]⟩) (fun (a1 : Int × Int × Int × Bool × Bool × (List Time)) => ⟨[(0, .c (oC 5000 3 a1.2.2.2.2.2)), (1, cD (i6 a1.1)), (2, cD (i6 a1.2.1)), (3, cD (i6 a1.2.2.1)), (4, cD (.fn 20 [])), (10, cD (.bool a1.2.2.2.1)), (11, cD (.bool a1.2.2.2.2.1))], [(5000, vL 3 encTime a1.2.2.2.2.2)]⟩) h ?_ ?_ ?_
    ·intro a1 c h
     show Tri _ _ ⟨[(0, .c (oC 5000 3 a1.2.2.2.2.2)), (1, cD (i6 a1.1)), (2, cD (i6 a1.2.1)), (3, cD (i6 a1.2.2.1)), (4, cD (.fn 20 [])), (10, cD (.bool a1.2.2.2.1)), (11, cD (.bool a1.2.2.2.2.1))], [(5000, vL 3 encTime a1.2.2.2.2.2)]⟩ _
     refine Tri.blockB ?_
     refine Tri.seqS ?_
     refine Tri.reg ?_
     refine At.seg 4 [0, 1, 2, 3, 4, 10, 11, 12] [5000] (s' := ⟨[(0, .c (oC 5000 3 a1.2.2.2.2.2)), (1, cD (i6 a1.1)), (2, cD (i6 a1.2.1)), (3, cD (i6 a1.2.2.1)), (4, cD (.fn 20 [])), (10, cD (.bool a1.2.2.2.1)), (11, cD (.bool a1.2.2.2.2.1)), (12, cD (i6 (IntKind.i64.wrap (a1.2.1 - a1.1))))], [(5000, vL 3 encTime a1.2.2.2.2.2)]⟩) (c := True ∧ True ∧ True ∧ True ∧ True) (by kernel_rfl) ⟨trivial, trivial, trivial, trivial, trivial⟩ ?_
     refine At.done rfl ?_
     show Tri _ _ _ _
     refine Tri.seqS ?_
     refine Tri.seqS ?_
     refine Tri.reg ?_
     refine At.seg 2 [0, 1, 2, 3, 4, 10, 11, 12, 25] [5000] (s' := ⟨[(0, .c (oC 5000 3 a1.2.2.2.2.2)), (1, cD (i6 a1.1)), (2, cD (i6 a1.2.1)), (3, cD (i6 a1.2.2.1)), (4, cD (.fn 20 [])), (10, cD (.bool a1.2.2.2.1)), (11, cD (.bool a1.2.2.2.2.1)), (12, cD (i6 (IntKind.i64.wrap (a1.2.1 - a1.1)))), (25, cD (.bool (decide ((IntKind.i64.wrap (a1.2.1 - a1.1)) ≤ 12))))], [(5000, vL 3 encTime a1.2.2.2.2.2)]⟩) (c := True ∧ True ∧ True) (by kernel_rfl) ⟨trivial, trivial, trivial⟩ ?_
     refine At.done rfl ?_
     show Tri _ _ _ _
     refine Tri.condP (b := (decide ((IntKind.i64.wrap (a1.2.1 - a1.1)) ≤ 12))) rfl h (fun h => ?_) (fun h => ?_)
     ·refine Tri.seqS ?_
      refine Tri.reg ?_
      refine At.seg 4 [26, 27, 28, 29] [5000] (s' := ⟨[(26, .c (oC 5000 3 a1.2.2.2.2.2)), (27, cD (i6 a1.1)), (28, cD (i6 a1.2.1)), (29, cD (.fn 20 []))], [(5000, vL 3 encTime a1.2.2.2.2.2)]⟩) (c := True ∧ True ∧ True ∧ True ∧ True) (by kernel_rfl) ⟨trivial, trivial, trivial, trivial, trivial⟩ ?_
      obtain ⟨r3, hr3, h⟩ := bind_elim h
      refine At.callL (nf := 0) (caps := []) (xs := [.c (oC 5000 3 a1.2.2.2.2.2), cD (i6 a1.1), cD (i6 a1.2.1), cD (.fn 20 [])]) [(5000, 5000)] [] [] (s0 := ⟨[], []⟩) (slices_insertionSortCmpFunc_Time__Compare_w_ok hr3) rfl rfl (by kernel_rfl) rfl (by kernel_rfl) (by kernel_rfl) (.ren rfl rfl (.flat (.refl _) rfl rfl (.flat (.refl _) rfl rfl (.flat (.refl _) rfl rfl .nil)))) ⟨⟨by kernel_rfl, by kernel_rfl⟩, trivial⟩ (by kernel_rfl) (by kernel_rfl) (by kernel_rfl) (by kernel_rfl) (by kernel_rfl) (by kernel_rfl) (by kernel_rfl) (by kernel_rfl) (by kernel_rfl) ⟨[(30, .tup [])], [(5000, vL 3 encTime r3)]⟩ (by kernel_rfl) ?_
      refine At.done rfl ?_
      show Tri _ _ _ _
      refine Tri.keep [] [5000] (s' := ⟨[], [(5000, vL 3 encTime r3)]⟩) (by kernel_rfl) ?_
      refine Tri.ret ?_
      cases h
      refine ⟨_, _, rfl, trivial, rfl, rfl, ?_⟩
      exact SubS.out ⟨⟨rfl, rfl⟩, trivial⟩
     ·refine Tri.skip ?_
      show Tri _ _ _ _
      refine Tri.seqS ?_
      refine Tri.seqS ?_
      refine Tri.reg ?_
      refine At.seg 2 [0, 1, 2, 3, 4, 10, 11, 12, 32] [5000] (s' := ⟨[(0, .c (oC 5000 3 a1.2.2.2.2.2)), (1, cD (i6 a1.1)), (2, cD (i6 a1.2.1)), (3, cD (i6 a1.2.2.1)), (4, cD (.fn 20 [])), (10, cD (.bool a1.2.2.2.1)), (11, cD (.bool a1.2.2.2.2.1)), (12, cD (i6 (IntKind.i64.wrap (a1.2.1 - a1.1)))), (32, cD (.bool (decide (a1.2.2.1 = 0))))], [(5000, vL 3 encTime a1.2.2.2.2.2)]⟩) (c := True ∧ True ∧ True) (by kernel_rfl) ⟨trivial, trivial, trivial⟩ ?_
      refine At.done rfl ?_
      show Tri _ _ _ _
      refine Tri.condP (b := (decide (a1.2.2.1 = 0))) rfl h (fun h => ?_) (fun h => ?_)
      ·refine Tri.seqS ?_
       refine Tri.reg ?_
       refine At.seg 4 [33, 34, 35, 36] [5000] (s' := ⟨[(33, .c (oC 5000 3 a1.2.2.2.2.2)), (34, cD (i6 a1.1)), (35, cD (i6 a1.2.1)), (36, cD (.fn 20 []))], [(5000, vL 3 encTime a1.2.2.2.2.2)]⟩) (c := True ∧ True ∧ True ∧ True ∧ True) (by kernel_rfl) ⟨trivial, trivial, trivial, trivial, trivial⟩ ?_
       obtain ⟨r4, hr4, h⟩ := bind_elim h
       refine At.callL (nf := 0) (caps := []) (xs := [.c (oC 5000 3 a1.2.2.2.2.2), cD (i6 a1.1), cD (i6 a1.2.1), cD (.fn 20 [])]) [(5000, 5000)] [] [] (s0 := ⟨[], []⟩) (slices_heapSortCmpFunc_Time__Compare_w_ok hr4) rfl rfl (by kernel_rfl) rfl (by kernel_rfl) (by kernel_rfl) (.ren rfl rfl (.flat (.refl _) rfl rfl (.flat (.refl _) rfl rfl (.flat (.refl _) rfl rfl .nil)))) ⟨⟨by kernel_rfl, by kernel_rfl⟩, trivial⟩ (by kernel_rfl) (by kernel_rfl) (by kernel_rfl) (by kernel_rfl) (by kernel_rfl) (by kernel_rfl) (by kernel_rfl) (by kernel_rfl) (by kernel_rfl) ⟨[(37, .tup [])], [(5000, vL 3 encTime r4)]⟩ (by kernel_rfl) ?_
       refine At.done rfl ?_
       show Tri _ _ _ _
       refine Tri.keep [] [5000] (s' := ⟨[], [(5000, vL 3 encTime r4)]⟩) (by kernel_rfl) ?_
       refine Tri.ret ?_
       cases h
       refine ⟨_, _, rfl, trivial, rfl, rfl, ?_⟩
       exact SubS.out ⟨⟨rfl, rfl⟩, trivial⟩
      ·refine Tri.skip ?_
       show Tri _ _ _ _
       refine Tri.seqJ (fun (a5 : Int × Int × (List Time)) => ⟨[(0, .c (oC 5000 3 a5.2.2)), (1, cD (i6 a1.1)), (2, cD (i6 a1.2.1)), (3, cD (i6 a5.1)), (4, cD (.fn 20 [])), (10, cD (.bool a1.2.2.2.1)), (11, cD (.bool a1.2.2.2.2.1)), (12, cD (i6 a5.2.1))], [(5000, vL 3 encTime a5.2.2)]⟩) h (fun a5 h => ?_) (fun j6 h => ?_)
       ·show Tri _ _ ⟨[(0, .c (oC 5000 3 a5.2.2)), (1, cD (i6 a1.1)), (2, cD (i6 a1.2.1)), (3, cD (i6 a5.1)), (4, cD (.fn 20 [])), (10, cD (.bool a1.2.2.2.1)), (11, cD (.bool a1.2.2.2.2.1)), (12, cD (i6 a5.2.1))], [(5000, vL 3 encTime a5.2.2)]⟩ _
        refine Tri.seqS ?_
        refine Tri.reg ?_
        refine At.seg 4 [0, 1, 2, 3, 4, 10, 11, 12, 48, 49, 50, 51] [5000] (s' := ⟨[(0, .c (oC 5000 3 a5.2.2)), (1, cD (i6 a1.1)), (2, cD (i6 a1.2.1)), (3, cD (i6 a5.1)), (4, cD (.fn 20 [])), (10, cD (.bool a1.2.2.2.1)), (11, cD (.bool a1.2.2.2.2.1)), (12, cD (i6 a5.2.1)), (48, .c (oC 5000 3 a5.2.2)), (49, cD (i6 a1.1)), (50, cD (i6 a1.2.1)), (51, cD (.fn 20 []))], [(5000, vL 3 encTime a5.2.2)]⟩) (c := True ∧ True ∧ True ∧ True ∧ True) (by kernel_rfl) ⟨trivial, trivial, trivial, trivial, trivial⟩ ?_
        obtain ⟨r7, hr7, h⟩ := bind_elim h
        refine At.callA (caps := []) (xs := [.c (oC 5000 3 a5.2.2), cD (i6 a1.1), cD (i6 a1.2.1), cD (.fn 20 [])]) (slices_choosePivotCmpFunc_Time__Compare_ok_v0 hr7) rfl rfl rfl rfl rfl rfl (.cons (AVArg.view (encTime) a5.2.2 rfl) (.cons (.refl _) (.cons (.refl _) (.cons (.refl _) .nil)))) rfl rfl ?_
        refine At.seg 5 [0, 1, 2, 3, 4, 10, 11, 12, 13, 14] [5000] (s' := ⟨[(0, .c (oC 5000 3 a5.2.2)), (1, cD (i6 a1.1)), (2, cD (i6 a1.2.1)), (3, cD (i6 a5.1)), (4, cD (.fn 20 [])), (10, cD (.bool a1.2.2.2.1)), (11, cD (.bool a1.2.2.2.2.1)), (12, cD (i6 a5.2.1)), (13, cD (i6 r7.1)), (14, cD (i6 r7.2))], [(5000, vL 3 encTime a5.2.2)]⟩) (c := True ∧ True ∧ True ∧ True ∧ True ∧ True) (by kernel_rfl) ⟨trivial, trivial, trivial, trivial, trivial, trivial⟩ ?_
        refine At.done rfl ?_
        show Tri _ _ _ _
        refine Tri.seqJ (fun (a8 : Int × Int × (List Time)) => ⟨[(0, .c (oC 5000 3 a8.2.2)), (1, cD (i6 a1.1)), (2, cD (i6 a1.2.1)), (3, cD (i6 a5.1)), (4, cD (.fn 20 [])), (10, cD (.bool a1.2.2.2.1)), (11, cD (.bool a1.2.2.2.2.1)), (12, cD (i6 a5.2.1)), (13, cD (i6 a8.1)), (14, cD (i6 a8.2.1))], [(5000, vL 3 encTime a8.2.2)]⟩) h (fun a8 h => ?_) (fun j9 h => ?_)
        ·show Tri _ _ ⟨[(0, .c (oC 5000 3 a8.2.2)), (1, cD (i6 a1.1)), (2, cD (i6 a1.2.1)), (3, cD (i6 a5.1)), (4, cD (.fn 20 [])), (10, cD (.bool a1.2.2.2.1)), (11, cD (.bool a1.2.2.2.2.1)), (12, cD (i6 a5.2.1)), (13, cD (i6 a8.1)), (14, cD (i6 a8.2.1))], [(5000, vL 3 encTime a8.2.2)]⟩ _
         refine Tri.seqJ (fun (a10 : Bool × Bool × (List Time)) => ⟨[(0, .c (oC 5000 3 a10.2.2)), (1, cD (i6 a1.1)), (2, cD (i6 a1.2.1)), (3, cD (i6 a5.1)), (4, cD (.fn 20 [])), (10, cD (.bool a10.1)), (11, cD (.bool a10.2.1)), (12, cD (i6 a5.2.1)), (13, cD (i6 a8.1))], [(5000, vL 3 encTime a10.2.2)]⟩) h (fun a10 h => ?_) (fun j11 h => ?_)
         ·show Tri _ _ ⟨[(0, .c (oC 5000 3 a10.2.2)), (1, cD (i6 a1.1)), (2, cD (i6 a1.2.1)), (3, cD (i6 a5.1)), (4, cD (.fn 20 [])), (10, cD (.bool a10.1)), (11, cD (.bool a10.2.1)), (12, cD (i6 a5.2.1)), (13, cD (i6 a8.1))], [(5000, vL 3 encTime a10.2.2)]⟩ _
          refine Tri.seqS ?_
          refine Tri.seqJ (fun (a12 : Bool) => ⟨[(0, .c (oC 5000 3 a10.2.2)), (1, cD (i6 a1.1)), (2, cD (i6 a1.2.1)), (3, cD (i6 a5.1)), (4, cD (.fn 20 [])), (10, cD (.bool a10.1)), (11, cD (.bool a10.2.1)), (12, cD (i6 a5.2.1)), (13, cD (i6 a8.1)), (97, cD (.bool a12))], [(5000, vL 3 encTime a10.2.2)]⟩) h (fun a12 h => ?_) (fun j13 h => ?_)
          ·show Tri _ _ ⟨[(0, .c (oC 5000 3 a10.2.2)), (1, cD (i6 a1.1)), (2, cD (i6 a1.2.1)), (3, cD (i6 a5.1)), (4, cD (.fn 20 [])), (10, cD (.bool a10.1)), (11, cD (.bool a10.2.1)), (12, cD (i6 a5.2.1)), (13, cD (i6 a8.1)), (97, cD (.bool a12))], [(5000, vL 3 encTime a10.2.2)]⟩ _
           refine Tri.condP (b := a12) rfl h (fun h => ?_) (fun h => ?_)
           ·refine Tri.seqS ?_
            refine Tri.reg ?_
            refine At.seg 5 [0, 2, 3, 4, 10, 11, 98, 99, 100, 101, 102] [5000] (s' := ⟨[(0, .c (oC 5000 3 a10.2.2)), (2, cD (i6 a1.2.1)), (3, cD (i6 a5.1)), (4, cD (.fn 20 [])), (10, cD (.bool a10.1)), (11, cD (.bool a10.2.1)), (98, .c (oC 5000 3 a10.2.2)), (99, cD (i6 a1.1)), (100, cD (i6 a1.2.1)), (101, cD (i6 a8.1)), (102, cD (.fn 20 []))], [(5000, vL 3 encTime a10.2.2)]⟩) (c := True ∧ True ∧ True ∧ True ∧ True ∧ True) (by kernel_rfl) ⟨trivial, trivial, trivial, trivial, trivial, trivial⟩ ?_
            obtain ⟨r14, hr14, h⟩ := bind_elim h
            refine At.callL (nf := 0) (caps := []) (xs := [.c (oC 5000 3 a10.2.2), cD (i6 a1.1), cD (i6 a1.2.1), cD (i6 a8.1), cD (.fn 20 [])]) [(5000, 5000)] [0, 2, 3, 4, 10, 11] [] (s0 := ⟨[(0, .c (oC 5000 3 a10.2.2)), (2, cD (i6 a1.2.1)), (3, cD (i6 a5.1)), (4, cD (.fn 20 [])), (10, cD (.bool a10.1)), (11, cD (.bool a10.2.1))], []⟩) (slices_partitionEqualCmpFunc_Time__Compare_w_ok hr14) rfl rfl (by kernel_rfl) rfl (by kernel_rfl) (by kernel_rfl) (.ren rfl rfl (.flat (.refl _) rfl rfl (.flat (.refl _) rfl rfl (.flat (.refl _) rfl rfl (.flat (.refl _) rfl rfl .nil))))) ⟨⟨by kernel_rfl, by kernel_rfl⟩, trivial⟩ (by kernel_rfl) (by kernel_rfl) (by kernel_rfl) (by kernel_rfl) (by kernel_rfl) (by kernel_rfl) (by kernel_rfl) (by kernel_rfl) (by kernel_rfl) ⟨[(103, cD (i6 r14.1)), (0, .c (oC 5000 3 a10.2.2)), (2, cD (i6 a1.2.1)), (3, cD (i6 a5.1)), (4, cD (.fn 20 [])), (10, cD (.bool a10.1)), (11, cD (.bool a10.2.1))], [(5000, vL 3 encTime r14.2)]⟩ (by kernel_rfl) ?_
            obtain ⟨hc15, h⟩ := need_elim h
            refine At.eqS ⟨[(103, cD (i6 r14.1)), (0, .c (oC 5000 3 r14.2)), (2, cD (i6 a1.2.1)), (3, cD (i6 a5.1)), (4, cD (.fn 20 [])), (10, cD (.bool a10.1)), (11, cD (.bool a10.2.1))], [(5000, vL 3 encTime r14.2)]⟩ (by simp only [oC, vL, hc15]) ?_
            refine At.seg 1 [0, 2, 3, 4, 10, 11, 15] [5000] (s' := ⟨[(0, .c (oC 5000 3 r14.2)), (2, cD (i6 a1.2.1)), (3, cD (i6 a5.1)), (4, cD (.fn 20 [])), (10, cD (.bool a10.1)), (11, cD (.bool a10.2.1)), (15, cD (i6 r14.1))], [(5000, vL 3 encTime r14.2)]⟩) (c := True ∧ True) (by kernel_rfl) ⟨trivial, trivial⟩ ?_
            refine At.done rfl ?_
            show Tri _ _ _ _
            refine Tri.seqS ?_
            refine Tri.reg ?_
            refine At.seg 2 [0, 1, 2, 3, 4, 10, 11] [5000] (s' := ⟨[(0, .c (oC 5000 3 r14.2)), (1, cD (i6 r14.1)), (2, cD (i6 a1.2.1)), (3, cD (i6 a5.1)), (4, cD (.fn 20 [])), (10, cD (.bool a10.1)), (11, cD (.bool a10.2.1))], [(5000, vL 3 encTime r14.2)]⟩) (c := True ∧ True ∧ True) (by kernel_rfl) ⟨trivial, trivial, trivial⟩ ?_
            refine At.done rfl ?_
            show Tri _ _ _ _
            refine Tri.keep [0, 1, 2, 3, 4, 10, 11] [5000] (s' := ⟨[(0, .c (oC 5000 3 r14.2)), (1, cD (i6 r14.1)), (2, cD (i6 a1.2.1)), (3, cD (i6 a5.1)), (4, cD (.fn 20 [])), (10, cD (.bool a10.1)), (11, cD (.bool a10.2.1))], [(5000, vL 3 encTime r14.2)]⟩) (by kernel_rfl) ?_
            refine Tri.exit ?_
            cases h
            exact rfl
           ·refine Tri.skip ?_
            show Tri _ _ _ _
            refine Tri.seqS ?_
            refine Tri.reg ?_
            refine At.seg 5 [0, 1, 2, 3, 4, 12, 106, 107, 108, 109, 110] [5000] (s' := ⟨[(0, .c (oC 5000 3 a10.2.2)), (1, cD (i6 a1.1)), (2, cD (i6 a1.2.1)), (3, cD (i6 a5.1)), (4, cD (.fn 20 [])), (12, cD (i6 a5.2.1)), (106, .c (oC 5000 3 a10.2.2)), (107, cD (i6 a1.1)), (108, cD (i6 a1.2.1)), (109, cD (i6 a8.1)), (110, cD (.fn 20 []))], [(5000, vL 3 encTime a10.2.2)]⟩) (c := True ∧ True ∧ True ∧ True ∧ True ∧ True) (by kernel_rfl) ⟨trivial, trivial, trivial, trivial, trivial, trivial⟩ ?_
            obtain ⟨r16, hr16, h⟩ := bind_elim h
            refine At.callL (nf := 0) (caps := []) (xs := [.c (oC 5000 3 a10.2.2), cD (i6 a1.1), cD (i6 a1.2.1), cD (i6 a8.1), cD (.fn 20 [])]) [(5000, 5000)] [0, 1, 2, 3, 4, 12] [] (s0 := ⟨[(0, .c (oC 5000 3 a10.2.2)), (1, cD (i6 a1.1)), (2, cD (i6 a1.2.1)), (3, cD (i6 a5.1)), (4, cD (.fn 20 [])), (12, cD (i6 a5.2.1))], []⟩) (slices_partitionCmpFunc_Time__Compare_w_ok hr16) rfl rfl (by kernel_rfl) rfl (by kernel_rfl) (by kernel_rfl) (.ren rfl rfl (.flat (.refl _) rfl rfl (.flat (.refl _) rfl rfl (.flat (.refl _) rfl rfl (.flat (.refl _) rfl rfl .nil))))) ⟨⟨by kernel_rfl, by kernel_rfl⟩, trivial⟩ (by kernel_rfl) (by kernel_rfl) (by kernel_rfl) (by kernel_rfl) (by kernel_rfl) (by kernel_rfl) (by kernel_rfl) (by kernel_rfl) (by kernel_rfl) ⟨[(111, .tup [(false, [.d (i6 r16.1)]), (false, [.d (.bool r16.2.1)])]), (0, .c (oC 5000 3 a10.2.2)), (1, cD (i6 a1.1)), (2, cD (i6 a1.2.1)), (3, cD (i6 a5.1)), (4, cD (.fn 20 [])), (12, cD (i6 a5.2.1))], [(5000, vL 3 encTime r16.2.2)]⟩ (by kernel_rfl) ?_
            obtain ⟨hc17, h⟩ := need_elim h
            refine At.eqS ⟨[(111, .tup [(false, [.d (i6 r16.1)]), (false, [.d (.bool r16.2.1)])]), (0, .c (oC 5000 3 r16.2.2)), (1, cD (i6 a1.1)), (2, cD (i6 a1.2.1)), (3, cD (i6 a5.1)), (4, cD (.fn 20 [])), (12, cD (i6 a5.2.1))], [(5000, vL 3 encTime r16.2.2)]⟩ (by simp only [oC, vL, hc17]) ?_
            refine At.seg 5 [0, 1, 2, 3, 4, 12, 16, 17] [5000] (s' := ⟨[(0, .c (oC 5000 3 r16.2.2)), (1, cD (i6 a1.1)), (2, cD (i6 a1.2.1)), (3, cD (i6 a5.1)), (4, cD (.fn 20 [])), (12, cD (i6 a5.2.1)), (16, cD (i6 r16.1)), (17, cD (.bool r16.2.1))], [(5000, vL 3 encTime r16.2.2)]⟩) (c := True ∧ True ∧ True ∧ True ∧ True ∧ True) (by kernel_rfl) ⟨trivial, trivial, trivial, trivial, trivial, trivial⟩ ?_
            refine At.done rfl ?_
            show Tri _ _ _ _
            refine Tri.seqS ?_
            refine Tri.reg ?_
            refine At.seg 2 [0, 1, 2, 3, 4, 11, 12, 16] [5000] (s' := ⟨[(0, .c (oC 5000 3 r16.2.2)), (1, cD (i6 a1.1)), (2, cD (i6 a1.2.1)), (3, cD (i6 a5.1)), (4, cD (.fn 20 [])), (11, cD (.bool r16.2.1)), (12, cD (i6 a5.2.1)), (16, cD (i6 r16.1))], [(5000, vL 3 encTime r16.2.2)]⟩) (c := True ∧ True ∧ True) (by kernel_rfl) ⟨trivial, trivial, trivial⟩ ?_
            refine At.done rfl ?_
            show Tri _ _ _ _
            refine Tri.seqS ?_
            refine Tri.reg ?_
            refine At.seg 8 [0, 1, 2, 3, 4, 11, 12, 16, 18, 19] [5000] (s' := ⟨[(0, .c (oC 5000 3 r16.2.2)), (1, cD (i6 a1.1)), (2, cD (i6 a1.2.1)), (3, cD (i6 a5.1)), (4, cD (.fn 20 [])), (11, cD (.bool r16.2.1)), (12, cD (i6 a5.2.1)), (16, cD (i6 r16.1)), (18, cD (i6 (IntKind.i64.wrap (r16.1 - a1.1)))), (19, cD (i6 (IntKind.i64.wrap (a1.2.1 - r16.1))))], [(5000, vL 3 encTime r16.2.2)]⟩) (c := True ∧ True ∧ True ∧ True ∧ True ∧ True ∧ True ∧ True ∧ True) (by kernel_rfl) ⟨trivial, trivial, trivial, trivial, trivial, trivial, trivial, trivial, trivial⟩ ?_
            refine At.done rfl ?_
            show Tri _ _ _ _
            refine Tri.seqS ?_
            refine Tri.reg ?_
            refine At.seg 3 [0, 1, 2, 3, 4, 11, 16, 18, 19, 20] [5000] (s' := ⟨[(0, .c (oC 5000 3 r16.2.2)), (1, cD (i6 a1.1)), (2, cD (i6 a1.2.1)), (3, cD (i6 a5.1)), (4, cD (.fn 20 [])), (11, cD (.bool r16.2.1)), (16, cD (i6 r16.1)), (18, cD (i6 (IntKind.i64.wrap (r16.1 - a1.1)))), (19, cD (i6 (IntKind.i64.wrap (a1.2.1 - r16.1)))), (20, cD (i6 (IntKind.i64.wrap (a5.2.1.tdiv 8))))], [(5000, vL 3 encTime r16.2.2)]⟩) (c := True ∧ ((8 : Int) ≠ 0) ∧ True ∧ True) (by kernel_rfl) ⟨trivial, (by decide : (8 : Int) ≠ 0), trivial, trivial⟩ ?_
            refine At.done rfl ?_
            show Tri _ _ _ _
            refine Tri.seqS ?_
            refine Tri.reg ?_
            refine At.seg 3 [0, 1, 2, 3, 4, 11, 16, 18, 19, 20, 125] [5000] (s' := ⟨[(0, .c (oC 5000 3 r16.2.2)), (1, cD (i6 a1.1)), (2, cD (i6 a1.2.1)), (3, cD (i6 a5.1)), (4, cD (.fn 20 [])), (11, cD (.bool r16.2.1)), (16, cD (i6 r16.1)), (18, cD (i6 (IntKind.i64.wrap (r16.1 - a1.1)))), (19, cD (i6 (IntKind.i64.wrap (a1.2.1 - r16.1)))), (20, cD (i6 (IntKind.i64.wrap (a5.2.1.tdiv 8)))), (125, cD (.bool (decide ((IntKind.i64.wrap (r16.1 - a1.1)) < (IntKind.i64.wrap (a1.2.1 - r16.1))))))], [(5000, vL 3 encTime r16.2.2)]⟩) (c := True ∧ True ∧ True ∧ True) (by kernel_rfl) ⟨trivial, trivial, trivial, trivial⟩ ?_
            refine At.done rfl ?_
            show Tri _ _ _ _
            refine Tri.condP (b := (decide ((IntKind.i64.wrap (r16.1 - a1.1)) < (IntKind.i64.wrap (a1.2.1 - r16.1))))) rfl h (fun h => ?_) (fun h => ?_)
            ·refine Tri.seqS ?_
             refine Tri.reg ?_
             refine At.seg 4 [0, 1, 2, 3, 4, 10, 11, 16] [5000] (s' := ⟨[(0, .c (oC 5000 3 r16.2.2)), (1, cD (i6 a1.1)), (2, cD (i6 a1.2.1)), (3, cD (i6 a5.1)), (4, cD (.fn 20 [])), (10, cD (.bool (decide ((IntKind.i64.wrap (a5.2.1.tdiv 8)) ≤ (IntKind.i64.wrap (r16.1 - a1.1)))))), (11, cD (.bool r16.2.1)), (16, cD (i6 r16.1))], [(5000, vL 3 encTime r16.2.2)]⟩) (c := True ∧ True ∧ True ∧ True ∧ True) (by kernel_rfl) ⟨trivial, trivial, trivial, trivial, trivial⟩ ?_
             refine At.done rfl ?_
             show Tri _ _ _ _
             refine Tri.seqS ?_
             refine Tri.reg ?_
             refine At.seg 5 [0, 2, 3, 4, 10, 11, 16, 129, 130, 131, 132, 133] [5000] (s' := ⟨[(0, .c (oC 5000 3 r16.2.2)), (2, cD (i6 a1.2.1)), (3, cD (i6 a5.1)), (4, cD (.fn 20 [])), (10, cD (.bool (decide ((IntKind.i64.wrap (a5.2.1.tdiv 8)) ≤ (IntKind.i64.wrap (r16.1 - a1.1)))))), (11, cD (.bool r16.2.1)), (16, cD (i6 r16.1)), (129, .c (oC 5000 3 r16.2.2)), (130, cD (i6 a1.1)), (131, cD (i6 r16.1)), (132, cD (i6 a5.1)), (133, cD (.fn 20 []))], [(5000, vL 3 encTime r16.2.2)]⟩) (c := True ∧ True ∧ True ∧ True ∧ True ∧ True) (by kernel_rfl) ⟨trivial, trivial, trivial, trivial, trivial, trivial⟩ ?_
             obtain ⟨r18, hr18, h⟩ := bind_elim h
             refine At.callL (nf := 0) (caps := []) (xs := [.c (oC 5000 3 r16.2.2), cD (i6 a1.1), cD (i6 r16.1), cD (i6 a5.1), cD (.fn 20 [])]) [(5000, 5000)] [0, 2, 3, 4, 10, 11, 16] [] (s0 := ⟨[(0, .c (oC 5000 3 r16.2.2)), (2, cD (i6 a1.2.1)), (3, cD (i6 a5.1)), (4, cD (.fn 20 [])), (10, cD (.bool (decide ((IntKind.i64.wrap (a5.2.1.tdiv 8)) ≤ (IntKind.i64.wrap (r16.1 - a1.1)))))), (11, cD (.bool r16.2.1)), (16, cD (i6 r16.1))], []⟩) (ih hr18) rfl rfl (by kernel_rfl) rfl (by kernel_rfl) (by kernel_rfl) (.ren rfl rfl (.flat (.refl _) rfl rfl (.flat (.refl _) rfl rfl (.flat (.refl _) rfl rfl (.flat (.refl _) rfl rfl .nil))))) ⟨⟨by kernel_rfl, by kernel_rfl⟩, trivial⟩ (by kernel_rfl) (by kernel_rfl) (by kernel_rfl) (by kernel_rfl) (by kernel_rfl) (by kernel_rfl) (by kernel_rfl) (by kernel_rfl) (by kernel_rfl) ⟨[(134, .tup []), (0, .c (oC 5000 3 r16.2.2)), (2, cD (i6 a1.2.1)), (3, cD (i6 a5.1)), (4, cD (.fn 20 [])), (10, cD (.bool (decide ((IntKind.i64.wrap (a5.2.1.tdiv 8)) ≤ (IntKind.i64.wrap (r16.1 - a1.1)))))), (11, cD (.bool r16.2.1)), (16, cD (i6 r16.1))], [(5000, vL 3 encTime r18)]⟩ (by kernel_rfl) ?_
             obtain ⟨hc19, h⟩ := need_elim h
             refine At.eqS ⟨[(134, .tup []), (0, .c (oC 5000 3 r18)), (2, cD (i6 a1.2.1)), (3, cD (i6 a5.1)), (4, cD (.fn 20 [])), (10, cD (.bool (decide ((IntKind.i64.wrap (a5.2.1.tdiv 8)) ≤ (IntKind.i64.wrap (r16.1 - a1.1)))))), (11, cD (.bool r16.2.1)), (16, cD (i6 r16.1))], [(5000, vL 3 encTime r18)]⟩ (by simp only [oC, vL, hc19]) ?_
             refine At.done rfl ?_
             show Tri _ _ _ _
             refine Tri.reg ?_
             refine At.seg 3 [0, 1, 2, 3, 4, 10, 11] [5000] (s' := ⟨[(0, .c (oC 5000 3 r18)), (1, cD (i6 (IntKind.i64.wrap (r16.1 + 1)))), (2, cD (i6 a1.2.1)), (3, cD (i6 a5.1)), (4, cD (.fn 20 [])), (10, cD (.bool (decide ((IntKind.i64.wrap (a5.2.1.tdiv 8)) ≤ (IntKind.i64.wrap (r16.1 - a1.1)))))), (11, cD (.bool r16.2.1))], [(5000, vL 3 encTime r18)]⟩) (c := True ∧ True ∧ True ∧ True) (by kernel_rfl) ⟨trivial, trivial, trivial, trivial⟩ ?_
             refine At.done rfl ?_
             cases h
             exact rfl
            ·refine Tri.seqS ?_
             refine Tri.reg ?_
             refine At.seg 4 [0, 1, 2, 3, 4, 10, 11, 16] [5000] (s' := ⟨[(0, .c (oC 5000 3 r16.2.2)), (1, cD (i6 a1.1)), (2, cD (i6 a1.2.1)), (3, cD (i6 a5.1)), (4, cD (.fn 20 [])), (10, cD (.bool (decide ((IntKind.i64.wrap (a5.2.1.tdiv 8)) ≤ (IntKind.i64.wrap (a1.2.1 - r16.1)))))), (11, cD (.bool r16.2.1)), (16, cD (i6 r16.1))], [(5000, vL 3 encTime r16.2.2)]⟩) (c := True ∧ True ∧ True ∧ True ∧ True) (by kernel_rfl) ⟨trivial, trivial, trivial, trivial, trivial⟩ ?_
             refine At.done rfl ?_
             show Tri _ _ _ _
             refine Tri.seqS ?_
             refine Tri.reg ?_
             refine At.seg 6 [0, 1, 3, 4, 10, 11, 16, 140, 142, 143, 144, 145] [5000] (s' := ⟨[(0, .c (oC 5000 3 r16.2.2)), (1, cD (i6 a1.1)), (3, cD (i6 a5.1)), (4, cD (.fn 20 [])), (10, cD (.bool (decide ((IntKind.i64.wrap (a5.2.1.tdiv 8)) ≤ (IntKind.i64.wrap (a1.2.1 - r16.1)))))), (11, cD (.bool r16.2.1)), (16, cD (i6 r16.1)), (140, .c (oC 5000 3 r16.2.2)), (142, cD (i6 (IntKind.i64.wrap (r16.1 + 1)))), (143, cD (i6 a1.2.1)), (144, cD (i6 a5.1)), (145, cD (.fn 20 []))], [(5000, vL 3 encTime r16.2.2)]⟩) (c := True ∧ True ∧ True ∧ True ∧ True ∧ True ∧ True) (by kernel_rfl) ⟨trivial, trivial, trivial, trivial, trivial, trivial, trivial⟩ ?_
             obtain ⟨r20, hr20, h⟩ := bind_elim h
             refine At.callL (nf := 0) (caps := []) (xs := [.c (oC 5000 3 r16.2.2), cD (i6 (IntKind.i64.wrap (r16.1 + 1))), cD (i6 a1.2.1), cD (i6 a5.1), cD (.fn 20 [])]) [(5000, 5000)] [0, 1, 3, 4, 10, 11, 16] [] (s0 := ⟨[(0, .c (oC 5000 3 r16.2.2)), (1, cD (i6 a1.1)), (3, cD (i6 a5.1)), (4, cD (.fn 20 [])), (10, cD (.bool (decide ((IntKind.i64.wrap (a5.2.1.tdiv 8)) ≤ (IntKind.i64.wrap (a1.2.1 - r16.1)))))), (11, cD (.bool r16.2.1)), (16, cD (i6 r16.1))], []⟩) (ih hr20) rfl rfl (by kernel_rfl) rfl (by kernel_rfl) (by kernel_rfl) (.ren rfl rfl (.flat (.refl _) rfl rfl (.flat (.refl _) rfl rfl (.flat (.refl _) rfl rfl (.flat (.refl _) rfl rfl .nil))))) ⟨⟨by kernel_rfl, by kernel_rfl⟩, trivial⟩ (by kernel_rfl) (by kernel_rfl) (by kernel_rfl) (by kernel_rfl) (by kernel_rfl) (by kernel_rfl) (by kernel_rfl) (by kernel_rfl) (by kernel_rfl) ⟨[(146, .tup []), (0, .c (oC 5000 3 r16.2.2)), (1, cD (i6 a1.1)), (3, cD (i6 a5.1)), (4, cD (.fn 20 [])), (10, cD (.bool (decide ((IntKind.i64.wrap (a5.2.1.tdiv 8)) ≤ (IntKind.i64.wrap (a1.2.1 - r16.1)))))), (11, cD (.bool r16.2.1)), (16, cD (i6 r16.1))], [(5000, vL 3 encTime r20)]⟩ (by kernel_rfl) ?_
             obtain ⟨hc21, h⟩ := need_elim h
             refine At.eqS ⟨[(146, .tup []), (0, .c (oC 5000 3 r20)), (1, cD (i6 a1.1)), (3, cD (i6 a5.1)), (4, cD (.fn 20 [])), (10, cD (.bool (decide ((IntKind.i64.wrap (a5.2.1.tdiv 8)) ≤ (IntKind.i64.wrap (a1.2.1 - r16.1)))))), (11, cD (.bool r16.2.1)), (16, cD (i6 r16.1))], [(5000, vL 3 encTime r20)]⟩ (by simp only [oC, vL, hc21]) ?_
             refine At.done rfl ?_
             show Tri _ _ _ _
             refine Tri.reg ?_
             refine At.seg 2 [0, 1, 2, 3, 4, 10, 11] [5000] (s' := ⟨[(0, .c (oC 5000 3 r20)), (1, cD (i6 a1.1)), (2, cD (i6 r16.1)), (3, cD (i6 a5.1)), (4, cD (.fn 20 [])), (10, cD (.bool (decide ((IntKind.i64.wrap (a5.2.1.tdiv 8)) ≤ (IntKind.i64.wrap (a1.2.1 - r16.1)))))), (11, cD (.bool r16.2.1))], [(5000, vL 3 encTime r20)]⟩) (c := True ∧ True ∧ True) (by kernel_rfl) ⟨trivial, trivial, trivial⟩ ?_
             refine At.done rfl ?_
             cases h
             exact rfl
          ·rcases bf_cases h with ⟨hp22, h⟩ | ⟨hp22, h⟩
           ·obtain ⟨hc23, h⟩ := need_elim h
            obtain ⟨hc24, h⟩ := need_elim h
            obtain ⟨hc25, h⟩ := need_elim h
            obtain ⟨hc26, h⟩ := need_elim h
            obtain ⟨r27, hr27, h⟩ := bind_elim h
            refine Tri.drawn (specs := [⟨⟨[(1, cD (i6 a1.1))], []⟩, ⟨[(81, cD (i6 a1.1))], []⟩, [], [], []⟩, ⟨⟨[(81, cD (i6 a1.1))], []⟩, ⟨[(82, cD (.bool (decide (0 < a1.1))))], []⟩, [], [], []⟩, ⟨⟨[(82, cD (.bool (decide (0 < a1.1))))], []⟩, ⟨[(83, .c (.d (.bool true)))], []⟩, [], [], []⟩, ⟨⟨[(4, cD (.fn 20 [])), (83, cD (.bool true))], []⟩, ⟨[(84, cD (.fn 20 []))], []⟩, [], [], []⟩, ⟨⟨[(0, .c (oC 5000 3 a10.2.2)), (83, cD (.bool true))], []⟩, ⟨[(85, .c (oC 5000 3 a10.2.2))], []⟩, [], [], []⟩, ⟨⟨[(1, cD (i6 a1.1)), (83, cD (.bool true))], []⟩, ⟨[(86, cD (i6 a1.1))], []⟩, [], [], []⟩, ⟨⟨[(83, cD (.bool true)), (86, cD (i6 a1.1))], []⟩, ⟨[(87, cD (i6 (IntKind.i64.wrap (a1.1 - 1))))], []⟩, [], [], []⟩, ⟨⟨[(83, cD (.bool true)), (85, .c (oC 5000 3 a10.2.2)), (87, cD (i6 (IntKind.i64.wrap (a1.1 - 1))))], [(5000, vL 3 encTime a10.2.2)]⟩, ⟨[(88, .c (.vptr 5000 3 (0 + (IntKind.i64.wrap (a1.1 - 1)).toNat) 0))], []⟩, [], [], []⟩, ⟨⟨[(83, cD (.bool true)), (88, .c (.vptr 5000 3 (0 + (IntKind.i64.wrap (a1.1 - 1)).toNat) 0))], [(5000, vL 3 encTime a10.2.2)]⟩, ⟨[(89, .agg (cTime (a10.2.2.getD (0 + (IntKind.i64.wrap (a1.1 - 1)).toNat) default)))], []⟩, [], [], []⟩, ⟨⟨[(0, .c (oC 5000 3 a10.2.2)), (83, cD (.bool true))], []⟩, ⟨[(90, .c (oC 5000 3 a10.2.2))], []⟩, [], [], []⟩, ⟨⟨[(13, cD (i6 a8.1)), (83, cD (.bool true))], []⟩, ⟨[(91, cD (i6 a8.1))], []⟩, [], [], []⟩, ⟨⟨[(83, cD (.bool true)), (90, .c (oC 5000 3 a10.2.2)), (91, cD (i6 a8.1))], [(5000, vL 3 encTime a10.2.2)]⟩, ⟨[(92, .c (.vptr 5000 3 (0 + a8.1.toNat) 0))], []⟩, [], [], []⟩, ⟨⟨[(83, cD (.bool true)), (92, .c (.vptr 5000 3 (0 + a8.1.toNat) 0))], [(5000, vL 3 encTime a10.2.2)]⟩, ⟨[(93, .agg (cTime (a10.2.2.getD (0 + a8.1.toNat) default)))], []⟩, [], [], []⟩, ⟨⟨[(83, cD (.bool true)), (84, cD (.fn 20 [])), (89, .agg (cTime (a10.2.2.getD (0 + (IntKind.i64.wrap (a1.1 - 1)).toNat) default))), (93, .agg (cTime (a10.2.2.getD (0 + a8.1.toNat) default)))], []⟩, ⟨[(94, cD (i6 r27))], []⟩, [], [], []⟩, ⟨⟨[(83, cD (.bool true)), (94, cD (i6 r27))], []⟩, ⟨[(95, cD (.bool (decide (r27 < 0))))], []⟩, [], [], []⟩, ⟨⟨[(83, cD (.bool true)), (95, cD (.bool (decide (r27 < 0))))], []⟩, ⟨[(96, cD (.bool (!(decide (r27 < 0)))))], []⟩, [], [], []⟩, ⟨⟨[(83, cD (.bool true)), (96, cD (.bool (!(decide (r27 < 0)))))], []⟩, ⟨[(97, cD (.bool (!(decide (r27 < 0)))))], []⟩, [], [], []⟩]) (bef := [[], [0], [0, 1], [0, 1, 2], [0, 1, 2], [0, 1, 2], [0, 1, 2, 5], [0, 1, 2, 4, 5, 6], [0, 1, 2, 4, 5, 6, 7], [0, 1, 2], [0, 1, 2], [0, 1, 2, 9, 10], [0, 1, 2, 9, 10, 11], [0, 1, 2, 3, 4, 5, 6, 7, 8, 9, 10, 11, 12], [0, 1, 2, 3, 4, 5, 6, 7, 8, 9, 10, 11, 12, 13], [0, 1, 2, 3, 4, 5, 6, 7, 8, 9, 10, 11, 12, 13, 14], [0, 1, 2, 3, 4, 5, 6, 7, 8, 9, 10, 11, 12, 13, 14, 15]]) (tk := [0, 1, 2, 3, 4, 10, 11, 12, 13, 97]) (sk := [5000]) (s' := ⟨[(0, .c (oC 5000 3 a10.2.2)), (1, cD (i6 a1.1)), (2, cD (i6 a1.2.1)), (3, cD (i6 a5.1)), (4, cD (.fn 20 [])), (10, cD (.bool a10.1)), (11, cD (.bool a10.2.1)), (12, cD (i6 a5.2.1)), (13, cD (i6 a8.1)), (97, cD (.bool (!(decide (r27 < 0)))))], [(5000, vL 3 encTime a10.2.2)]⟩) (by kernel_rfl) (by kernel_rfl) (by kernel_rfl) ⟨?_, ?_, ?_, ?_, ?_, ?_, ?_, ?_, ?_, ?_, ?_, ?_, ?_, ?_, ?_, ?_, ?_, trivial⟩ (by kernel_rfl) ?_
            · exact DOk.t rfl rfl (by kernel_rfl) (by kernel_rfl)
            · exact DOk.t rfl rfl (by kernel_rfl) (by kernel_rfl)
            · exact DOk.stepP (fun b => .val (.c (.d (.bool b))) (True)) (p := (decide (0 < a1.1))) hp22 (fun r => by kernel_rfl) (fun r => by kernel_rfl) trivial (by kernel_rfl) (by kernel_rfl) (fun r => rfl)
            · exact DOk.t rfl rfl (by kernel_rfl) (by kernel_rfl)
            · exact DOk.t rfl rfl (by kernel_rfl) (by kernel_rfl)
            · exact DOk.t rfl rfl (by kernel_rfl) (by kernel_rfl)
            · exact DOk.t rfl rfl (by kernel_rfl) (by kernel_rfl)
            · exact DOk.step (.val (.c (.vptr 5000 3 (0 + (IntKind.i64.wrap (a1.1 - 1)).toNat) 0)) ((0 : Int) ≤ (IntKind.i64.wrap (a1.1 - 1)) ∧ (IntKind.i64.wrap (a1.1 - 1)) < (a10.2.2.length : Int))) (fun r => by kernel_rfl) (fun r => by kernel_rfl) hc23 (by kernel_rfl) (by kernel_rfl) (fun r => rfl)
            · exact DOk.step (.val (.agg (cTime (a10.2.2.getD (0 + (IntKind.i64.wrap (a1.1 - 1)).toNat) default))) ((0 + (IntKind.i64.wrap (a1.1 - 1)).toNat) < a10.2.2.length)) (fun r => by kernel_rfl) (fun r => by kernel_rfl) hc24 (by kernel_rfl) (by kernel_rfl) (fun r => rfl)
            · exact DOk.t rfl rfl (by kernel_rfl) (by kernel_rfl)
            · exact DOk.t rfl rfl (by kernel_rfl) (by kernel_rfl)
            · exact DOk.step (.val (.c (.vptr 5000 3 (0 + a8.1.toNat) 0)) ((0 : Int) ≤ a8.1 ∧ a8.1 < (a10.2.2.length : Int))) (fun r => by kernel_rfl) (fun r => by kernel_rfl) hc25 (by kernel_rfl) (by kernel_rfl) (fun r => rfl)
            · exact DOk.step (.val (.agg (cTime (a10.2.2.getD (0 + a8.1.toNat) default))) ((0 + a8.1.toNat) < a10.2.2.length)) (fun r => by kernel_rfl) (fun r => by kernel_rfl) hc26 (by kernel_rfl) (by kernel_rfl) (fun r => rfl)
            · exact DOk.callA (caps := []) (xs := [.agg (cTime (a10.2.2.getD (0 + (IntKind.i64.wrap (a1.1 - 1)).toNat) default)), .agg (cTime (a10.2.2.getD (0 + a8.1.toNat) default))]) (moment_Compare_ok hr27) rfl (fun r => by kernel_rfl) rfl (fun r => by kernel_rfl) (fun r => by kernel_rfl) (fun r => (.cons (.refl _) (.cons (.refl _) .nil))) rfl rfl (fun r => rfl)
            · exact DOk.t rfl rfl (by kernel_rfl) (by kernel_rfl)
            · exact DOk.t rfl rfl (by kernel_rfl) (by kernel_rfl)
            · exact DOk.t rfl rfl (by kernel_rfl) (by kernel_rfl)
            exact ⟨_, h, rfl⟩
           ·refine Tri.drawn (specs := [⟨⟨[(1, cD (i6 a1.1))], []⟩, ⟨[(81, cD (i6 a1.1))], []⟩, [], [], []⟩, ⟨⟨[(81, cD (i6 a1.1))], []⟩, ⟨[(82, cD (.bool (decide (0 < a1.1))))], []⟩, [], [], []⟩, ⟨⟨[(82, cD (.bool (decide (0 < a1.1))))], []⟩, ⟨[(83, .c (.d (.bool false)))], []⟩, [], [], []⟩, ⟨⟨[(4, cD (.fn 20 [])), (83, cD (.bool false))], []⟩, ⟨[(84, .tup [])], []⟩, [], [], []⟩, ⟨⟨[(0, .c (oC 5000 3 a10.2.2)), (83, cD (.bool false))], []⟩, ⟨[(85, .tup [])], []⟩, [], [], []⟩, ⟨⟨[(1, cD (i6 a1.1)), (83, cD (.bool false))], []⟩, ⟨[(86, .tup [])], []⟩, [], [], []⟩, ⟨⟨[(83, cD (.bool false)), (86, .tup [])], []⟩, ⟨[(87, .tup [])], []⟩, [], [], []⟩, ⟨⟨[(83, cD (.bool false)), (85, .tup []), (87, .tup [])], []⟩, ⟨[(88, .tup [])], []⟩, [], [], []⟩, ⟨⟨[(83, cD (.bool false)), (88, .tup [])], []⟩, ⟨[(89, .tup [])], []⟩, [], [], []⟩, ⟨⟨[(0, .c (oC 5000 3 a10.2.2)), (83, cD (.bool false))], []⟩, ⟨[(90, .tup [])], []⟩, [], [], []⟩, ⟨⟨[(13, cD (i6 a8.1)), (83, cD (.bool false))], []⟩, ⟨[(91, .tup [])], []⟩, [], [], []⟩, ⟨⟨[(83, cD (.bool false)), (90, .tup []), (91, .tup [])], []⟩, ⟨[(92, .tup [])], []⟩, [], [], []⟩, ⟨⟨[(83, cD (.bool false)), (92, .tup [])], []⟩, ⟨[(93, .tup [])], []⟩, [], [], []⟩, ⟨⟨[(83, cD (.bool false)), (84, .tup []), (89, .tup []), (93, .tup [])], []⟩, ⟨[(94, .tup [])], []⟩, [], [], []⟩, ⟨⟨[(83, cD (.bool false)), (94, .tup [])], []⟩, ⟨[(95, .tup [])], []⟩, [], [], []⟩, ⟨⟨[(83, cD (.bool false)), (95, .tup [])], []⟩, ⟨[(96, .tup [])], []⟩, [], [], []⟩, ⟨⟨[(83, cD (.bool false)), (96, .tup [])], []⟩, ⟨[(97, cD (.bool false))], []⟩, [], [], []⟩]) (bef := [[], [0], [0, 1], [0, 1, 2], [0, 1, 2], [0, 1, 2], [0, 1, 2, 5], [0, 1, 2, 4, 5, 6], [0, 1, 2, 4, 5, 6, 7], [0, 1, 2], [0, 1, 2], [0, 1, 2, 9, 10], [0, 1, 2, 9, 10, 11], [0, 1, 2, 3, 4, 5, 6, 7, 8, 9, 10, 11, 12], [0, 1, 2, 3, 4, 5, 6, 7, 8, 9, 10, 11, 12, 13], [0, 1, 2, 3, 4, 5, 6, 7, 8, 9, 10, 11, 12, 13, 14], [0, 1, 2, 3, 4, 5, 6, 7, 8, 9, 10, 11, 12, 13, 14, 15]]) (tk := [0, 1, 2, 3, 4, 10, 11, 12, 13, 97]) (sk := [5000]) (s' := ⟨[(0, .c (oC 5000 3 a10.2.2)), (1, cD (i6 a1.1)), (2, cD (i6 a1.2.1)), (3, cD (i6 a5.1)), (4, cD (.fn 20 [])), (10, cD (.bool a10.1)), (11, cD (.bool a10.2.1)), (12, cD (i6 a5.2.1)), (13, cD (i6 a8.1)), (97, cD (.bool false))], [(5000, vL 3 encTime a10.2.2)]⟩) (by kernel_rfl) (by kernel_rfl) (by kernel_rfl) ⟨?_, ?_, ?_, ?_, ?_, ?_, ?_, ?_, ?_, ?_, ?_, ?_, ?_, ?_, ?_, ?_, ?_, trivial⟩ (by kernel_rfl) ?_
            · exact DOk.t rfl rfl (by kernel_rfl) (by kernel_rfl)
            · exact DOk.t rfl rfl (by kernel_rfl) (by kernel_rfl)
            · exact DOk.stepP (fun b => .val (.c (.d (.bool b))) (True)) (p := (decide (0 < a1.1))) hp22 (fun r => by kernel_rfl) (fun r => by kernel_rfl) trivial (by kernel_rfl) (by kernel_rfl) (fun r => rfl)
            · exact DOk.skip (fun r => by kernel_rfl) rfl rfl (fun r => rfl)
            · exact DOk.skip (fun r => by kernel_rfl) rfl rfl (fun r => rfl)
            · exact DOk.skip (fun r => by kernel_rfl) rfl rfl (fun r => rfl)
            · exact DOk.skip (fun r => by kernel_rfl) rfl rfl (fun r => rfl)
            · exact DOk.skip (fun r => by kernel_rfl) rfl rfl (fun r => rfl)
            · exact DOk.skip (fun r => by kernel_rfl) rfl rfl (fun r => rfl)
            · exact DOk.skip (fun r => by kernel_rfl) rfl rfl (fun r => rfl)
            · exact DOk.skip (fun r => by kernel_rfl) rfl rfl (fun r => rfl)
            · exact DOk.skip (fun r => by kernel_rfl) rfl rfl (fun r => rfl)
            · exact DOk.skip (fun r => by kernel_rfl) rfl rfl (fun r => rfl)
            · exact DOk.skip (fun r => by kernel_rfl) rfl rfl (fun r => rfl)
            · exact DOk.skip (fun r => by kernel_rfl) rfl rfl (fun r => rfl)
            · exact DOk.skip (fun r => by kernel_rfl) rfl rfl (fun r => rfl)
            · exact DOk.t rfl rfl (by kernel_rfl) (by kernel_rfl)
            exact ⟨_, h, rfl⟩
         ·refine Tri.seqJ (fun (a28 : Bool × Bool × Bool) => ⟨[(0, .c (oC 5000 3 a8.2.2)), (1, cD (i6 a1.1)), (2, cD (i6 a1.2.1)), (3, cD (i6 a5.1)), (4, cD (.fn 20 [])), (10, cD (.bool a28.1)), (11, cD (.bool a28.2.1)), (12, cD (i6 a5.2.1)), (13, cD (i6 a8.1)), (75, cD (.bool a28.2.2))], [(5000, vL 3 encTime a8.2.2)]⟩) h (fun a28 h => ?_) (fun j29 h => ?_)
          ·show Tri _ _ ⟨[(0, .c (oC 5000 3 a8.2.2)), (1, cD (i6 a1.1)), (2, cD (i6 a1.2.1)), (3, cD (i6 a5.1)), (4, cD (.fn 20 [])), (10, cD (.bool a28.1)), (11, cD (.bool a28.2.1)), (12, cD (i6 a5.2.1)), (13, cD (i6 a8.1)), (75, cD (.bool a28.2.2))], [(5000, vL 3 encTime a8.2.2)]⟩ _
           refine Tri.condP (b := a28.2.2) rfl h (fun h => ?_) (fun h => ?_)
           ·refine Tri.seqS ?_
            refine Tri.reg ?_
            refine At.seg 4 [0, 1, 2, 3, 4, 10, 11, 12, 13, 76, 77, 78, 79] [5000] (s' := ⟨[(0, .c (oC 5000 3 a8.2.2)), (1, cD (i6 a1.1)), (2, cD (i6 a1.2.1)), (3, cD (i6 a5.1)), (4, cD (.fn 20 [])), (10, cD (.bool a28.1)), (11, cD (.bool a28.2.1)), (12, cD (i6 a5.2.1)), (13, cD (i6 a8.1)), (76, .c (oC 5000 3 a8.2.2)), (77, cD (i6 a1.1)), (78, cD (i6 a1.2.1)), (79, cD (.fn 20 []))], [(5000, vL 3 encTime a8.2.2)]⟩) (c := True ∧ True ∧ True ∧ True ∧ True) (by kernel_rfl) ⟨trivial, trivial, trivial, trivial, trivial⟩ ?_
            obtain ⟨r30, hr30, h⟩ := bind_elim h
            refine At.callL (nf := 0) (caps := []) (xs := [.c (oC 5000 3 a8.2.2), cD (i6 a1.1), cD (i6 a1.2.1), cD (.fn 20 [])]) [(5000, 5000)] [0, 1, 2, 3, 4, 10, 11, 12, 13] [] (s0 := ⟨[(0, .c (oC 5000 3 a8.2.2)), (1, cD (i6 a1.1)), (2, cD (i6 a1.2.1)), (3, cD (i6 a5.1)), (4, cD (.fn 20 [])), (10, cD (.bool a28.1)), (11, cD (.bool a28.2.1)), (12, cD (i6 a5.2.1)), (13, cD (i6 a8.1))], []⟩) (slices_partialInsertionSortCmpFunc_Time__Compare_w_ok hr30) rfl rfl (by kernel_rfl) rfl (by kernel_rfl) (by kernel_rfl) (.ren rfl rfl (.flat (.refl _) rfl rfl (.flat (.refl _) rfl rfl (.flat (.refl _) rfl rfl .nil)))) ⟨⟨by kernel_rfl, by kernel_rfl⟩, trivial⟩ (by kernel_rfl) (by kernel_rfl) (by kernel_rfl) (by kernel_rfl) (by kernel_rfl) (by kernel_rfl) (by kernel_rfl) (by kernel_rfl) (by kernel_rfl) ⟨[(80, cD (.bool r30.1)), (0, .c (oC 5000 3 a8.2.2)), (1, cD (i6 a1.1)), (2, cD (i6 a1.2.1)), (3, cD (i6 a5.1)), (4, cD (.fn 20 [])), (10, cD (.bool a28.1)), (11, cD (.bool a28.2.1)), (12, cD (i6 a5.2.1)), (13, cD (i6 a8.1))], [(5000, vL 3 encTime r30.2)]⟩ (by kernel_rfl) ?_
            obtain ⟨hc31, h⟩ := need_elim h
            refine At.eqS ⟨[(80, cD (.bool r30.1)), (0, .c (oC 5000 3 r30.2)), (1, cD (i6 a1.1)), (2, cD (i6 a1.2.1)), (3, cD (i6 a5.1)), (4, cD (.fn 20 [])), (10, cD (.bool a28.1)), (11, cD (.bool a28.2.1)), (12, cD (i6 a5.2.1)), (13, cD (i6 a8.1))], [(5000, vL 3 encTime r30.2)]⟩ (by simp only [oC, vL, hc31]) ?_
            refine At.done rfl ?_
            show Tri _ _ _ _
            refine Tri.condP (b := r30.1) rfl h (fun h => ?_) (fun h => ?_)
            ·refine Tri.keep [] [5000] (s' := ⟨[], [(5000, vL 3 encTime r30.2)]⟩) (by kernel_rfl) ?_
             refine Tri.ret ?_
             cases h
             refine ⟨_, _, rfl, trivial, rfl, rfl, ?_⟩
             exact SubS.out ⟨⟨rfl, rfl⟩, trivial⟩
            ·refine Tri.keep [0, 1, 2, 3, 4, 10, 11, 12, 13] [5000] (s' := ⟨[(0, .c (oC 5000 3 r30.2)), (1, cD (i6 a1.1)), (2, cD (i6 a1.2.1)), (3, cD (i6 a5.1)), (4, cD (.fn 20 [])), (10, cD (.bool a28.1)), (11, cD (.bool a28.2.1)), (12, cD (i6 a5.2.1)), (13, cD (i6 a8.1))], [(5000, vL 3 encTime r30.2)]⟩) (by kernel_rfl) ?_
             refine Tri.skip ?_
             exact ⟨_, h, rfl⟩
           ·refine Tri.keep [0, 1, 2, 3, 4, 10, 11, 12, 13] [5000] (s' := ⟨[(0, .c (oC 5000 3 a8.2.2)), (1, cD (i6 a1.1)), (2, cD (i6 a1.2.1)), (3, cD (i6 a5.1)), (4, cD (.fn 20 [])), (10, cD (.bool a28.1)), (11, cD (.bool a28.2.1)), (12, cD (i6 a5.2.1)), (13, cD (i6 a8.1))], [(5000, vL 3 encTime a8.2.2)]⟩) (by kernel_rfl) ?_
            refine Tri.skip ?_
            exact ⟨_, h, rfl⟩
          ·refine Tri.reg ?_
           refine At.seg 2 [0, 1, 2, 3, 4, 10, 11, 12, 13, 14, 69] [5000] (s' := ⟨[(0, .c (oC 5000 3 a8.2.2)), (1, cD (i6 a1.1)), (2, cD (i6 a1.2.1)), (3, cD (i6 a5.1)), (4, cD (.fn 20 [])), (10, cD (.bool a1.2.2.2.1)), (11, cD (.bool a1.2.2.2.2.1)), (12, cD (i6 a5.2.1)), (13, cD (i6 a8.1)), (14, cD (i6 a8.2.1)), (69, cD (.bool a1.2.2.2.1))], [(5000, vL 3 encTime a8.2.2)]⟩) (c := True ∧ True ∧ True) (by kernel_rfl) ⟨trivial, trivial, trivial⟩ ?_
           refine At.case (fun b => ⟨[(0, .c (oC 5000 3 a8.2.2)), (1, cD (i6 a1.1)), (2, cD (i6 a1.2.1)), (3, cD (i6 a5.1)), (4, cD (.fn 20 [])), (10, cD (.bool b)), (11, cD (.bool a1.2.2.2.2.1)), (12, cD (i6 a5.2.1)), (13, cD (i6 a8.1)), (14, cD (i6 a8.2.1)), (69, cD (.bool b))], [(5000, vL 3 encTime a8.2.2)]⟩) (b := a1.2.2.2.1) h (fun h => ?_) (fun h => ?_)
           ·refine At.seg 3 [0, 1, 2, 3, 4, 10, 11, 12, 13, 14, 72] [5000] (s' := ⟨[(0, .c (oC 5000 3 a8.2.2)), (1, cD (i6 a1.1)), (2, cD (i6 a1.2.1)), (3, cD (i6 a5.1)), (4, cD (.fn 20 [])), (10, cD (.bool true)), (11, cD (.bool a1.2.2.2.2.1)), (12, cD (i6 a5.2.1)), (13, cD (i6 a8.1)), (14, cD (i6 a8.2.1)), (72, cD (.bool a1.2.2.2.2.1))], [(5000, vL 3 encTime a8.2.2)]⟩) (c := True ∧ True ∧ True ∧ True) (by kernel_rfl) ⟨trivial, trivial, trivial, trivial⟩ ?_
            refine At.case (fun b => ⟨[(0, .c (oC 5000 3 a8.2.2)), (1, cD (i6 a1.1)), (2, cD (i6 a1.2.1)), (3, cD (i6 a5.1)), (4, cD (.fn 20 [])), (10, cD (.bool true)), (11, cD (.bool b)), (12, cD (i6 a5.2.1)), (13, cD (i6 a8.1)), (14, cD (i6 a8.2.1)), (72, cD (.bool b))], [(5000, vL 3 encTime a8.2.2)]⟩) (b := a1.2.2.2.2.1) h (fun h => ?_) (fun h => ?_)
            ·refine At.seg 3 [0, 1, 2, 3, 4, 10, 11, 12, 13, 75] [5000] (s' := ⟨[(0, .c (oC 5000 3 a8.2.2)), (1, cD (i6 a1.1)), (2, cD (i6 a1.2.1)), (3, cD (i6 a5.1)), (4, cD (.fn 20 [])), (10, cD (.bool true)), (11, cD (.bool true)), (12, cD (i6 a5.2.1)), (13, cD (i6 a8.1)), (75, cD (.bool (decide (a8.2.1 = 1))))], [(5000, vL 3 encTime a8.2.2)]⟩) (c := True ∧ True ∧ True ∧ True) (by kernel_rfl) ⟨trivial, trivial, trivial, trivial⟩ ?_
             refine At.done rfl ?_
             exact ⟨_, h, rfl⟩
            ·refine At.seg 3 [0, 1, 2, 3, 4, 10, 11, 12, 13, 75] [5000] (s' := ⟨[(0, .c (oC 5000 3 a8.2.2)), (1, cD (i6 a1.1)), (2, cD (i6 a1.2.1)), (3, cD (i6 a5.1)), (4, cD (.fn 20 [])), (10, cD (.bool true)), (11, cD (.bool false)), (12, cD (i6 a5.2.1)), (13, cD (i6 a8.1)), (75, cD (.bool false))], [(5000, vL 3 encTime a8.2.2)]⟩) (c := True ∧ True) (by kernel_rfl) ⟨trivial, trivial⟩ ?_
             refine At.done rfl ?_
             exact ⟨_, h, rfl⟩
           ·refine At.seg 6 [0, 1, 2, 3, 4, 10, 11, 12, 13, 75] [5000] (s' := ⟨[(0, .c (oC 5000 3 a8.2.2)), (1, cD (i6 a1.1)), (2, cD (i6 a1.2.1)), (3, cD (i6 a5.1)), (4, cD (.fn 20 [])), (10, cD (.bool false)), (11, cD (.bool a1.2.2.2.2.1)), (12, cD (i6 a5.2.1)), (13, cD (i6 a8.1)), (75, cD (.bool false))], [(5000, vL 3 encTime a8.2.2)]⟩) (c := True ∧ True ∧ True ∧ True) (by kernel_rfl) ⟨trivial, trivial, trivial, trivial⟩ ?_
            refine At.done rfl ?_
            exact ⟨_, h, rfl⟩
        ·refine Tri.seqS ?_
         refine Tri.reg ?_
         refine At.seg 2 [0, 1, 2, 3, 4, 10, 11, 12, 13, 14, 56] [5000] (s' := ⟨[(0, .c (oC 5000 3 a5.2.2)), (1, cD (i6 a1.1)), (2, cD (i6 a1.2.1)), (3, cD (i6 a5.1)), (4, cD (.fn 20 [])), (10, cD (.bool a1.2.2.2.1)), (11, cD (.bool a1.2.2.2.2.1)), (12, cD (i6 a5.2.1)), (13, cD (i6 r7.1)), (14, cD (i6 r7.2)), (56, cD (.bool (decide (r7.2 = 2))))], [(5000, vL 3 encTime a5.2.2)]⟩) (c := True ∧ True ∧ True) (by kernel_rfl) ⟨trivial, trivial, trivial⟩ ?_
         refine At.done rfl ?_
         show Tri _ _ _ _
         refine Tri.condP (b := (decide (r7.2 = 2))) rfl h (fun h => ?_) (fun h => ?_)
         ·refine Tri.seqS ?_
          refine Tri.reg ?_
          refine At.seg 4 [0, 1, 2, 3, 4, 10, 11, 12, 13, 57, 58, 59, 60] [5000] (s' := ⟨[(0, .c (oC 5000 3 a5.2.2)), (1, cD (i6 a1.1)), (2, cD (i6 a1.2.1)), (3, cD (i6 a5.1)), (4, cD (.fn 20 [])), (10, cD (.bool a1.2.2.2.1)), (11, cD (.bool a1.2.2.2.2.1)), (12, cD (i6 a5.2.1)), (13, cD (i6 r7.1)), (57, .c (oC 5000 3 a5.2.2)), (58, cD (i6 a1.1)), (59, cD (i6 a1.2.1)), (60, cD (.fn 20 []))], [(5000, vL 3 encTime a5.2.2)]⟩) (c := True ∧ True ∧ True ∧ True ∧ True) (by kernel_rfl) ⟨trivial, trivial, trivial, trivial, trivial⟩ ?_
          obtain ⟨r32, hr32, h⟩ := bind_elim h
          refine At.callL (nf := 0) (caps := []) (xs := [.c (oC 5000 3 a5.2.2), cD (i6 a1.1), cD (i6 a1.2.1), cD (.fn 20 [])]) [(5000, 5000)] [0, 1, 2, 3, 4, 10, 11, 12, 13] [] (s0 := ⟨[(0, .c (oC 5000 3 a5.2.2)), (1, cD (i6 a1.1)), (2, cD (i6 a1.2.1)), (3, cD (i6 a5.1)), (4, cD (.fn 20 [])), (10, cD (.bool a1.2.2.2.1)), (11, cD (.bool a1.2.2.2.2.1)), (12, cD (i6 a5.2.1)), (13, cD (i6 r7.1))], []⟩) (slices_reverseRangeCmpFunc_Time__Compare_w_ok hr32) rfl rfl (by kernel_rfl) rfl (by kernel_rfl) (by kernel_rfl) (.ren rfl rfl (.flat (.refl _) rfl rfl (.flat (.refl _) rfl rfl (.flat (.refl _) rfl rfl .nil)))) ⟨⟨by kernel_rfl, by kernel_rfl⟩, trivial⟩ (by kernel_rfl) (by kernel_rfl) (by kernel_rfl) (by kernel_rfl) (by kernel_rfl) (by kernel_rfl) (by kernel_rfl) (by kernel_rfl) (by kernel_rfl) ⟨[(61, .tup []), (0, .c (oC 5000 3 a5.2.2)), (1, cD (i6 a1.1)), (2, cD (i6 a1.2.1)), (3, cD (i6 a5.1)), (4, cD (.fn 20 [])), (10, cD (.bool a1.2.2.2.1)), (11, cD (.bool a1.2.2.2.2.1)), (12, cD (i6 a5.2.1)), (13, cD (i6 r7.1))], [(5000, vL 3 encTime r32)]⟩ (by kernel_rfl) ?_
          obtain ⟨hc33, h⟩ := need_elim h
          refine At.eqS ⟨[(61, .tup []), (0, .c (oC 5000 3 r32)), (1, cD (i6 a1.1)), (2, cD (i6 a1.2.1)), (3, cD (i6 a5.1)), (4, cD (.fn 20 [])), (10, cD (.bool a1.2.2.2.1)), (11, cD (.bool a1.2.2.2.2.1)), (12, cD (i6 a5.2.1)), (13, cD (i6 r7.1))], [(5000, vL 3 encTime r32)]⟩ (by simp only [oC, vL, hc33]) ?_
          refine At.done rfl ?_
          show Tri _ _ _ _
          refine Tri.seqS ?_
          refine Tri.reg ?_
          refine At.seg 7 [0, 1, 2, 3, 4, 10, 11, 12, 13] [5000] (s' := ⟨[(0, .c (oC 5000 3 r32)), (1, cD (i6 a1.1)), (2, cD (i6 a1.2.1)), (3, cD (i6 a5.1)), (4, cD (.fn 20 [])), (10, cD (.bool a1.2.2.2.1)), (11, cD (.bool a1.2.2.2.2.1)), (12, cD (i6 a5.2.1)), (13, cD (i6 (IntKind.i64.wrap ((IntKind.i64.wrap (a1.2.1 - 1)) - (IntKind.i64.wrap (r7.1 - a1.1))))))], [(5000, vL 3 encTime r32)]⟩) (c := True ∧ True ∧ True ∧ True ∧ True ∧ True ∧ True ∧ True) (by kernel_rfl) ⟨trivial, trivial, trivial, trivial, trivial, trivial, trivial, trivial⟩ ?_
          refine At.done rfl ?_
          show Tri _ _ _ _
          refine Tri.reg ?_
          refine At.seg 1 [0, 1, 2, 3, 4, 10, 11, 12, 13, 14] [5000] (s' := ⟨[(0, .c (oC 5000 3 r32)), (1, cD (i6 a1.1)), (2, cD (i6 a1.2.1)), (3, cD (i6 a5.1)), (4, cD (.fn 20 [])), (10, cD (.bool a1.2.2.2.1)), (11, cD (.bool a1.2.2.2.2.1)), (12, cD (i6 a5.2.1)), (13, cD (i6 (IntKind.i64.wrap ((IntKind.i64.wrap (a1.2.1 - 1)) - (IntKind.i64.wrap (r7.1 - a1.1)))))), (14, cD (i6 1))], [(5000, vL 3 encTime r32)]⟩) (c := True ∧ True) (by kernel_rfl) ⟨trivial, trivial⟩ ?_
          refine At.done rfl ?_
          exact ⟨_, h, rfl⟩
         ·refine Tri.keep [0, 1, 2, 3, 4, 10, 11, 12, 13, 14] [5000] (s' := ⟨[(0, .c (oC 5000 3 a5.2.2)), (1, cD (i6 a1.1)), (2, cD (i6 a1.2.1)), (3, cD (i6 a5.1)), (4, cD (.fn 20 [])), (10, cD (.bool a1.2.2.2.1)), (11, cD (.bool a1.2.2.2.2.1)), (12, cD (i6 a5.2.1)), (13, cD (i6 r7.1)), (14, cD (i6 r7.2))], [(5000, vL 3 encTime a5.2.2)]⟩) (by kernel_rfl) ?_
          refine Tri.skip ?_
          exact ⟨_, h, rfl⟩
       ·refine Tri.seqS ?_
        refine Tri.reg ?_
        refine At.seg 2 [0, 1, 2, 3, 4, 10, 11, 12, 39] [5000] (s' := ⟨[(0, .c (oC 5000 3 a1.2.2.2.2.2)), (1, cD (i6 a1.1)), (2, cD (i6 a1.2.1)), (3, cD (i6 a1.2.2.1)), (4, cD (.fn 20 [])), (10, cD (.bool a1.2.2.2.1)), (11, cD (.bool a1.2.2.2.2.1)), (12, cD (i6 (IntKind.i64.wrap (a1.2.1 - a1.1)))), (39, cD (.bool (!a1.2.2.2.1)))], [(5000, vL 3 encTime a1.2.2.2.2.2)]⟩) (c := True ∧ True ∧ True) (by kernel_rfl) ⟨trivial, trivial, trivial⟩ ?_
        refine At.done rfl ?_
        show Tri _ _ _ _
        refine Tri.condP (b := (!a1.2.2.2.1)) rfl h (fun h => ?_) (fun h => ?_)
        ·refine Tri.seqS ?_
         refine Tri.reg ?_
         refine At.seg 4 [0, 1, 2, 3, 4, 10, 11, 12, 40, 41, 42, 43] [5000] (s' := ⟨[(0, .c (oC 5000 3 a1.2.2.2.2.2)), (1, cD (i6 a1.1)), (2, cD (i6 a1.2.1)), (3, cD (i6 a1.2.2.1)), (4, cD (.fn 20 [])), (10, cD (.bool a1.2.2.2.1)), (11, cD (.bool a1.2.2.2.2.1)), (12, cD (i6 (IntKind.i64.wrap (a1.2.1 - a1.1)))), (40, .c (oC 5000 3 a1.2.2.2.2.2)), (41, cD (i6 a1.1)), (42, cD (i6 a1.2.1)), (43, cD (.fn 20 []))], [(5000, vL 3 encTime a1.2.2.2.2.2)]⟩) (c := True ∧ True ∧ True ∧ True ∧ True) (by kernel_rfl) ⟨trivial, trivial, trivial, trivial, trivial⟩ ?_
         obtain ⟨r34, hr34, h⟩ := bind_elim h
         refine At.callL (nf := 0) (caps := []) (xs := [.c (oC 5000 3 a1.2.2.2.2.2), cD (i6 a1.1), cD (i6 a1.2.1), cD (.fn 20 [])]) [(5000, 5000)] [0, 1, 2, 3, 4, 10, 11, 12] [] (s0 := ⟨[(0, .c (oC 5000 3 a1.2.2.2.2.2)), (1, cD (i6 a1.1)), (2, cD (i6 a1.2.1)), (3, cD (i6 a1.2.2.1)), (4, cD (.fn 20 [])), (10, cD (.bool a1.2.2.2.1)), (11, cD (.bool a1.2.2.2.2.1)), (12, cD (i6 (IntKind.i64.wrap (a1.2.1 - a1.1))))], []⟩) (slices_breakPatternsCmpFunc_Time__Compare_w_ok hr34) rfl rfl (by kernel_rfl) rfl (by kernel_rfl) (by kernel_rfl) (.ren rfl rfl (.flat (.refl _) rfl rfl (.flat (.refl _) rfl rfl (.flat (.refl _) rfl rfl .nil)))) ⟨⟨by kernel_rfl, by kernel_rfl⟩, trivial⟩ (by kernel_rfl) (by kernel_rfl) (by kernel_rfl) (by kernel_rfl) (by kernel_rfl) (by kernel_rfl) (by kernel_rfl) (by kernel_rfl) (by kernel_rfl) ⟨[(44, .tup []), (0, .c (oC 5000 3 a1.2.2.2.2.2)), (1, cD (i6 a1.1)), (2, cD (i6 a1.2.1)), (3, cD (i6 a1.2.2.1)), (4, cD (.fn 20 [])), (10, cD (.bool a1.2.2.2.1)), (11, cD (.bool a1.2.2.2.2.1)), (12, cD (i6 (IntKind.i64.wrap (a1.2.1 - a1.1))))], [(5000, vL 3 encTime r34)]⟩ (by kernel_rfl) ?_
         obtain ⟨hc35, h⟩ := need_elim h
         refine At.eqS ⟨[(44, .tup []), (0, .c (oC 5000 3 r34)), (1, cD (i6 a1.1)), (2, cD (i6 a1.2.1)), (3, cD (i6 a1.2.2.1)), (4, cD (.fn 20 [])), (10, cD (.bool a1.2.2.2.1)), (11, cD (.bool a1.2.2.2.2.1)), (12, cD (i6 (IntKind.i64.wrap (a1.2.1 - a1.1))))], [(5000, vL 3 encTime r34)]⟩ (by simp only [oC, vL, hc35]) ?_
         refine At.done rfl ?_
         show Tri _ _ _ _
         refine Tri.reg ?_
         refine At.seg 3 [0, 1, 2, 3, 4, 10, 11, 12] [5000] (s' := ⟨[(0, .c (oC 5000 3 r34)), (1, cD (i6 a1.1)), (2, cD (i6 a1.2.1)), (3, cD (i6 (IntKind.i64.wrap (a1.2.2.1 - 1)))), (4, cD (.fn 20 [])), (10, cD (.bool a1.2.2.2.1)), (11, cD (.bool a1.2.2.2.2.1)), (12, cD (i6 (IntKind.i64.wrap (a1.2.1 - a1.1))))], [(5000, vL 3 encTime r34)]⟩) (c := True ∧ True ∧ True ∧ True) (by kernel_rfl) ⟨trivial, trivial, trivial, trivial⟩ ?_
         refine At.done rfl ?_
         exact ⟨_, h, rfl⟩
        ·refine Tri.keep [0, 1, 2, 3, 4, 10, 11, 12] [5000] (s' := ⟨[(0, .c (oC 5000 3 a1.2.2.2.2.2)), (1, cD (i6 a1.1)), (2, cD (i6 a1.2.1)), (3, cD (i6 a1.2.2.1)), (4, cD (.fn 20 [])), (10, cD (.bool a1.2.2.2.1)), (11, cD (.bool a1.2.2.2.2.1)), (12, cD (i6 (IntKind.i64.wrap (a1.2.1 - a1.1))))], [(5000, vL 3 encTime a1.2.2.2.2.2)]⟩) (by kernel_rfl) ?_
         refine Tri.skip ?_
         exact ⟨_, h, rfl⟩
    ·intro a2 h
     cases h
    · exact fun x s hx hr => by cases hx; exact hr

set_option maxRecDepth 100000 in
theorem slices_SortFuncfreshet_api_Time_freshet_api_Time_Time__Compare_w_ok {fuel : Nat} {l0 : List Time} {q : List Time} (h : slices_SortFuncfreshet_api_Time_freshet_api_Time_Time__Compare_w fuel l0 = some q) :
    Summ Try.prog 42 [.c (oC 5000 3 l0), cD (.fn 20 [])] [(5000, vL 3 encTime l0)] (.tup []) [(5000, vL 3 encTime q)] := by
  refine Summ.intro Try.func42 rfl (by kernel_rfl) (by kernel_rfl) [] rfl ?_
  rintro ⟨P, w0, G0, V, LL, lk, N, φ0, fx⟩ rfl rfl rfl rfl
  unfold slices_SortFuncfreshet_api_Time_freshet_api_Time_Time__Compare_w at h
  refine Tri.seqS ?_
  refine Tri.reg ?_
  refine At.seg 3 [0, 1, 4] [5000] (s' := ⟨[(0, .c (oC 5000 3 l0)), (1, cD (.fn 20 [])), (4, cD (i6 (l0.length : Int)))], [(5000, vL 3 encTime l0)]⟩) (c := True ∧ True ∧ True ∧ True) (by kernel_rfl) ⟨trivial, trivial, trivial, trivial⟩ ?_
  refine At.done rfl ?_
  show Tri _ _ _ _
  refine Tri.reg ?_
  refine At.seg 4 [1, 7, 8, 10] [5000] (s' := ⟨[(1, cD (.fn 20 [])), (7, .c (oC 5000 3 l0)), (8, cD (i6 (l0.length : Int))), (10, cD (u6 (IntKind.u64.wrap (l0.length : Int))))], [(5000, vL 3 encTime l0)]⟩) (c := True ∧ True ∧ True ∧ True ∧ True) (by kernel_rfl) ⟨trivial, trivial, trivial, trivial, trivial⟩ ?_
  obtain ⟨r1, hr1, h⟩ := bind_elim h
  refine At.callA (caps := []) (xs := [cD (u6 (IntKind.u64.wrap (l0.length : Int)))]) (math_bits_Len_ok hr1) rfl rfl rfl rfl rfl rfl (.cons (.refl _) .nil) rfl rfl ?_
  refine At.seg 1 [7, 8, 11, 12] [5000] (s' := ⟨[(7, .c (oC 5000 3 l0)), (8, cD (i6 (l0.length : Int))), (11, cD (i6 r1)), (12, cD (.fn 20 []))], [(5000, vL 3 encTime l0)]⟩) (c := True ∧ True) (by kernel_rfl) ⟨trivial, trivial⟩ ?_
  obtain ⟨r2, hr2, h⟩ := bind_elim h
  refine At.callL (nf := 0) (caps := []) (xs := [.c (oC 5000 3 l0), cD (i6 0), cD (i6 (l0.length : Int)), cD (i6 r1), cD (.fn 20 [])]) [(5000, 5000)] [] [] (s0 := ⟨[], []⟩) (slices_pdqsortCmpFunc_Time__Compare_w_ok hr2) rfl rfl (by kernel_rfl) rfl (by kernel_rfl) (by kernel_rfl) (.ren rfl rfl (.flat (.refl _) rfl rfl (.flat (.refl _) rfl rfl (.flat (.refl _) rfl rfl (.flat (.refl _) rfl rfl .nil))))) ⟨⟨by kernel_rfl, by kernel_rfl⟩, trivial⟩ (by kernel_rfl) (by kernel_rfl) (by kernel_rfl) (by kernel_rfl) (by kernel_rfl) (by kernel_rfl) (by kernel_rfl) (by kernel_rfl) (by kernel_rfl) ⟨[(13, .tup [])], [(5000, vL 3 encTime r2)]⟩ (by kernel_rfl) ?_
  refine At.keep [] [5000] (s' := ⟨[], [(5000, vL 3 encTime r2)]⟩) (by kernel_rfl) ?_
  refine At.done rfl ?_
  cases h
  refine ⟨_, _, rfl, trivial, rfl, rfl, ?_⟩
  exact SubS.out ⟨⟨rfl, rfl⟩, trivial⟩

set_option maxRecDepth 100000 in
theorem moment_greatest_ok {p0 : Int} {p1 : Int} {q : Int} (h : moment_greatest p0 p1 = some q) :
    Summ Try.prog 35 [cD (u6 p0), cD (u6 p1)] [] (cD (u6 q)) [] := by
  refine Summ.intro Try.func35 rfl (by kernel_rfl) (by kernel_rfl) [] rfl ?_
  rintro ⟨P, w0, G0, V, LL, lk, N, φ0, fx⟩ rfl rfl rfl rfl
  unfold moment_greatest at h
  refine Tri.seqS ?_
  refine Tri.reg ?_
  refine At.seg 1 [0, 1] [] (s' := ⟨[(0, cD (u6 p0)), (1, cD (u6 p1))], []⟩) (c := True ∧ True) (by kernel_rfl) ⟨trivial, trivial⟩ ?_
  refine At.done rfl ?_
  show Tri _ _ _ _
  refine Tri.seqS ?_
  refine Tri.reg ?_
  refine At.seg 4 [4] [] (s' := ⟨[(4, cD (u6 (if p0 < p1 then p1 else p0)))], []⟩) (c := True ∧ True ∧ True ∧ True ∧ True) (by kernel_rfl) ⟨trivial, trivial, trivial, trivial, trivial⟩ ?_
  refine At.done rfl ?_
  show Tri _ _ _ _
  refine Tri.keep [4] [] (s' := ⟨[(4, cD (u6 (if p0 < p1 then p1 else p0)))], []⟩) (by kernel_rfl) ?_
  refine Tri.ret ?_
  cases h
  refine ⟨_, _, rfl, ⟨trivial, trivial⟩, rfl, rfl, ?_⟩
  intro k c h
  cases h

set_option maxRecDepth 100000 in
theorem moment_fold__greatest_ok_v1 {p1 : List Time} {q : Time} (h : moment_fold__greatest p1 = some q) :
    Summ Try.prog 34 [cD (.fn 35 []), .c (wC 3 encTime p1)] [] (.agg (cTime q)) [] := by
  refine Summ.intro Try.func34 rfl (by kernel_rfl) (by kernel_rfl) [] rfl ?_
  rintro ⟨P, w0, G0, V, LL, lk, N, φ0, fx⟩ rfl rfl rfl rfl
  unfold moment_fold__greatest at h
  refine Tri.seqS ?_
  refine Tri.reg ?_
  refine At.seg 1 [0, 1, 4] [4] (s' := ⟨[(0, cD (.fn 35 [])), (1, .c (wC 3 encTime p1)), (4, .c (.ptr 4 0))], [(4, .box [.d (u6 0), .d (u6 0), .d (u6 0)])]⟩) (c := True ∧ True) (by kernel_rfl) ⟨trivial, trivial⟩ ?_
  refine At.done rfl ?_
  show Tri _ _ _ _
  refine Tri.seqS ?_
  refine Tri.seqS ?_
  refine Tri.reg ?_
  refine At.seg 3 [0, 4, 8, 9, 10] [4] (s' := ⟨[(0, cD (.fn 35 [])), (4, .c (.ptr 4 0)), (8, .c (wC 3 encTime p1)), (9, cD (i6 (p1.length : Int))), (10, cD (i6 0))], [(4, .box [.d (u6 0), .d (u6 0), .d (u6 0)])]⟩) (c := True ∧ True ∧ True ∧ True) (by kernel_rfl) ⟨trivial, trivial, trivial, trivial⟩ ?_
  refine At.done rfl ?_
  show Tri _ _ _ _
  refine Tri.lenOfV (t := 8) rfl fun hlena2 => ?_
  refine Tri.keep [10, 0, 4, 8, 9] [4] (s' := idx 10 0 ⟨[(0, cD (.fn 35 [])), (4, .c (.ptr 4 0)), (8, .c (wC 3 encTime p1)), (9, cD (i6 (p1.length : Int)))], [(4, .box (cTime (⟨0, (0, 0)⟩ : Time)))]⟩) (by kernel_rfl) ?_
  refine Tri.range (n := p1.length) (st0 := (⟨0, (0, 0)⟩ : Time)) (fun (x : Empty) s => False) (fun (a2 : Time) => ⟨[(0, cD (.fn 35 [])), (4, .c (.ptr 4 0)), (8, .c (wC 3 encTime p1)), (9, cD (i6 (p1.length : Int)))], [(4, .box (cTime a2))]⟩) (fun (a2 : Time) => ⟨[(0, cD (.fn 35 [])), (4, .c (.ptr 4 0)), (8, .c (wC 3 encTime p1)), (9, cD (i6 (p1.length : Int)))], [(4, .box (cTime a2))]⟩) (fun i => decide ((i : Int) < (p1.length : Int))) [11, 10, 0, 4, 8, 9] [4] [0, 4, 8, 9] [4] [10, 0, 4, 8, 9] [4] h hlena2 rfl ?_ ?_ ?_ ?_ ?_ ?_ ?_ ?_
  · exact fun i a => ⟨True ∧ True, by kernel_rfl, ⟨trivial, trivial⟩⟩
  · exact fun i hi => decide_eq_true (by omega)
  · exact decide_eq_false (by omega)
  · exact fun a => by kernel_rfl
  · exact fun i a => ⟨True ∧ True ∧ True, by kernel_rfl, ⟨trivial, trivial, trivial⟩⟩
  ·intro i1 a2 c hii1 h
   refine Tri.seqS ?_
   refine Tri.reg ?_
   refine At.seg 6 [0, 4, 5, 6, 8, 9, 10] [4, 6] (s' := ⟨[(0, cD (.fn 35 [])), (4, .c (.ptr 4 0)), (5, cD (i6 ((i1 : Nat) : Int))), (6, .c (.ptr 6 0)), (8, .c (wC 3 encTime p1)), (9, cD (i6 (p1.length : Int))), (10, cD (i6 ((i1 : Nat) : Int)))], [(4, .box (cTime a2)), (6, .box (cTime (p1.getD i1 default)))]⟩) (c := True ∧ ((0 : Int) ≤ ((i1 : Nat) : Int) ∧ ((i1 : Nat) : Int) < (p1.length : Int)) ∧ True ∧ True ∧ True ∧ True ∧ True) (by kernel_rfl) ⟨trivial, ⟨by omega, by omega⟩, trivial, trivial, trivial, trivial, trivial⟩ ?_
   refine At.done rfl ?_
   show Tri _ _ _ _
   refine Tri.seqJ (fun (a4 : Time) => ⟨[(0, cD (.fn 35 [])), (4, .c (.ptr 4 0)), (6, .c (.ptr 6 0)), (8, .c (wC 3 encTime p1)), (9, cD (i6 (p1.length : Int))), (10, cD (i6 ((i1 : Nat) : Int)))], [(4, .box (cTime a4)), (6, .box (cTime (p1.getD i1 default)))]⟩) h (fun a4 h => ?_) (fun j5 h => ?_)
   ·show Tri _ _ ⟨[(0, cD (.fn 35 [])), (4, .c (.ptr 4 0)), (6, .c (.ptr 6 0)), (8, .c (wC 3 encTime p1)), (9, cD (i6 (p1.length : Int))), (10, cD (i6 ((i1 : Nat) : Int)))], [(4, .box (cTime a4)), (6, .box (cTime (p1.getD i1 default)))]⟩ _
    refine Tri.seqS ?_
    refine Tri.reg ?_
    refine At.seg 5 [0, 4, 6, 8, 9, 10, 18, 20, 22] [4, 6] (s' := ⟨[(0, cD (.fn 35 [])), (4, .c (.ptr 4 0)), (6, .c (.ptr 6 0)), (8, .c (wC 3 encTime p1)), (9, cD (i6 (p1.length : Int))), (10, cD (i6 ((i1 : Nat) : Int))), (18, cD (.fn 35 [])), (20, cD (u6 a4.epoch)), (22, cD (u6 ((p1.getD i1 default).epoch)))], [(4, .box (cTime a4)), (6, .box (cTime (p1.getD i1 default)))]⟩) (c := True ∧ True ∧ True ∧ True ∧ True ∧ True) (by kernel_rfl) ⟨trivial, trivial, trivial, trivial, trivial, trivial⟩ ?_
    obtain ⟨r6, hr6, h⟩ := bind_elim h
    refine At.callA (caps := []) (xs := [cD (u6 a4.epoch), cD (u6 ((p1.getD i1 default).epoch))]) (moment_greatest_ok hr6) rfl rfl rfl rfl rfl rfl (.cons (.refl _) (.cons (.refl _) .nil)) rfl rfl ?_
    refine At.seg 2 [0, 4, 6, 8, 9, 10] [4, 6] (s' := ⟨[(0, cD (.fn 35 [])), (4, .c (.ptr 4 0)), (6, .c (.ptr 6 0)), (8, .c (wC 3 encTime p1)), (9, cD (i6 (p1.length : Int))), (10, cD (i6 ((i1 : Nat) : Int)))], [(4, .box [.d (u6 r6), .d (u6 a4.loop.1), .d (u6 a4.loop.2)]), (6, .box (cTime (p1.getD i1 default)))]⟩) (c := True ∧ True ∧ True) (by kernel_rfl) ⟨trivial, trivial, trivial⟩ ?_
    refine At.done rfl ?_
    show Tri _ _ _ _
    refine Tri.seqS ?_
    refine Tri.reg ?_
    refine At.seg 1 [0, 4, 6, 8, 9, 10, 25] [4, 6] (s' := ⟨[(0, cD (.fn 35 [])), (4, .c (.ptr 4 0)), (6, .c (.ptr 6 0)), (8, .c (wC 3 encTime p1)), (9, cD (i6 (p1.length : Int))), (10, cD (i6 ((i1 : Nat) : Int))), (25, cD (i6 0))], [(4, .box [.d (u6 r6), .d (u6 a4.loop.1), .d (u6 a4.loop.2)]), (6, .box (cTime (p1.getD i1 default)))]⟩) (c := True ∧ True) (by kernel_rfl) ⟨trivial, trivial⟩ ?_
    refine At.done rfl ?_
    show Tri _ _ _ _
    refine Tri.keep [25, 0, 4, 6, 8, 9, 10] [4, 6] (s' := idx 25 0 ⟨[(0, cD (.fn 35 [])), (4, .c (.ptr 4 0)), (6, .c (.ptr 6 0)), (8, .c (wC 3 encTime p1)), (9, cD (i6 (p1.length : Int))), (10, cD (i6 ((i1 : Nat) : Int)))], [(4, .box (cTime (⟨r6, a4.loop⟩ : Time))), (6, .box (cTime (p1.getD i1 default)))]⟩) (by kernel_rfl) ?_
    refine Tri.range (n := 2) (st0 := (⟨r6, a4.loop⟩ : Time)) (fun (x : Empty) s => False) (fun (a8 : Time) => ⟨[(0, cD (.fn 35 [])), (4, .c (.ptr 4 0)), (6, .c (.ptr 6 0)), (8, .c (wC 3 encTime p1)), (9, cD (i6 (p1.length : Int))), (10, cD (i6 ((i1 : Nat) : Int)))], [(4, .box (cTime a8)), (6, .box (cTime (p1.getD i1 default)))]⟩) (fun (a8 : Time) => ⟨[(10, cD (i6 ((i1 : Nat) : Int))), (0, cD (.fn 35 [])), (4, .c (.ptr 4 0)), (8, .c (wC 3 encTime p1)), (9, cD (i6 (p1.length : Int)))], [(4, .box (cTime a8))]⟩) (fun i => decide ((i : Int) < (2 : Int))) [26, 25, 0, 4, 6, 8, 9, 10] [4, 6] [10, 0, 4, 8, 9] [4] [25, 0, 4, 6, 8, 9, 10] [4, 6] h (by unfold maxN; omega) rfl ?_ ?_ ?_ ?_ ?_ ?_ ?_ ?_
    · exact fun i a => ⟨True ∧ True, by kernel_rfl, ⟨trivial, trivial⟩⟩
    · exact fun i hi => decide_eq_true (by omega)
    · exact decide_eq_false (by omega)
    · exact fun a => by kernel_rfl
    · exact fun i a => ⟨True ∧ True ∧ True, by kernel_rfl, ⟨trivial, trivial, trivial⟩⟩
    ·intro i7 a8 c hii7 h
     rcases i7 with _ | i7
     ·refine Tri.seqS ?_
      refine Tri.reg ?_
      refine At.seg 2 [0, 4, 6, 7, 8, 9, 10, 25] [4, 6] (s' := ⟨[(0, cD (.fn 35 [])), (4, .c (.ptr 4 0)), (6, .c (.ptr 6 0)), (7, cD (i6 ((0 : Nat) : Int))), (8, .c (wC 3 encTime p1)), (9, cD (i6 (p1.length : Int))), (10, cD (i6 ((i1 : Nat) : Int))), (25, cD (i6 ((0 : Nat) : Int)))], [(4, .box (cTime a8)), (6, .box (cTime (p1.getD i1 default)))]⟩) (c := True ∧ True ∧ True) (by kernel_rfl) ⟨trivial, trivial, trivial⟩ ?_
      refine At.done rfl ?_
      show Tri _ _ _ _
      obtain ⟨r10, hr10, h⟩ := bind_elim h
      refine Tri.drawn (specs := [⟨⟨[(7, cD (i6 ((0 : Nat) : Int)))], []⟩, ⟨[(28, cD (i6 ((0 : Nat) : Int)))], []⟩, [], [], []⟩, ⟨⟨[(0, cD (.fn 35 []))], []⟩, ⟨[(29, cD (.fn 35 []))], []⟩, [], [], []⟩, ⟨⟨[(7, cD (i6 ((0 : Nat) : Int)))], []⟩, ⟨[(30, cD (i6 ((0 : Nat) : Int)))], []⟩, [], [], []⟩, ⟨⟨[(4, .c (.ptr 4 0))], []⟩, ⟨[(31, .c (.ptr 4 1))], []⟩, [], [], []⟩, ⟨⟨[(30, cD (i6 ((0 : Nat) : Int))), (31, .c (.ptr 4 1))], [(4, .box (cTime a8))]⟩, ⟨[(32, .c (.ptr 4 1))], []⟩, [], [], []⟩, ⟨⟨[(32, .c (.ptr 4 1))], [(4, .box (cTime a8))]⟩, ⟨[(33, cD (u6 a8.loop.1))], []⟩, [], [], []⟩, ⟨⟨[(7, cD (i6 ((0 : Nat) : Int)))], []⟩, ⟨[(34, cD (i6 ((0 : Nat) : Int)))], []⟩, [], [], []⟩, ⟨⟨[(6, .c (.ptr 6 0))], []⟩, ⟨[(35, .c (.ptr 6 1))], []⟩, [], [], []⟩, ⟨⟨[(34, cD (i6 ((0 : Nat) : Int))), (35, .c (.ptr 6 1))], [(6, .box (cTime (p1.getD i1 default)))]⟩, ⟨[(36, .c (.ptr 6 1))], []⟩, [], [], []⟩, ⟨⟨[(36, .c (.ptr 6 1))], [(6, .box (cTime (p1.getD i1 default)))]⟩, ⟨[(37, cD (u6 ((p1.getD i1 default).loop.1)))], []⟩, [], [], []⟩, ⟨⟨[(29, cD (.fn 35 [])), (33, cD (u6 a8.loop.1)), (37, cD (u6 ((p1.getD i1 default).loop.1)))], []⟩, ⟨[(38, cD (u6 r10))], []⟩, [], [], []⟩, ⟨⟨[(4, .c (.ptr 4 0))], []⟩, ⟨[(39, .c (.ptr 4 1))], []⟩, [], [], []⟩, ⟨⟨[(28, cD (i6 ((0 : Nat) : Int))), (39, .c (.ptr 4 1))], [(4, .box (cTime a8))]⟩, ⟨[(40, .c (.ptr 4 1))], []⟩, [], [], []⟩, ⟨⟨[(38, cD (u6 r10)), (40, .c (.ptr 4 1))], [(4, .box (cTime a8))]⟩, ⟨[], [(4, .box [.d (u6 a8.epoch), .d (u6 r10), .d (u6 a8.loop.2)])]⟩, [], [], []⟩]) (bef := [[], [], [], [], [2, 3], [2, 3, 4], [], [], [6, 7], [6, 7, 8], [1, 2, 3, 4, 5, 6, 7, 8, 9], [], [0, 1, 2, 3, 4, 5, 6, 7, 8, 9, 10, 11], [0, 1, 2, 3, 4, 5, 6, 7, 8, 9, 10, 11, 12]]) (tk := [25, 0, 4, 6, 8, 9, 10]) (sk := [4, 6]) (s' := ⟨[(25, cD (i6 ((0 : Nat) : Int))), (0, cD (.fn 35 [])), (4, .c (.ptr 4 0)), (6, .c (.ptr 6 0)), (8, .c (wC 3 encTime p1)), (9, cD (i6 (p1.length : Int))), (10, cD (i6 ((i1 : Nat) : Int)))], [(4, .box [.d (u6 a8.epoch), .d (u6 r10), .d (u6 a8.loop.2)]), (6, .box (cTime (p1.getD i1 default)))]⟩) (by kernel_rfl) (by kernel_rfl) (by kernel_rfl) ⟨?_, ?_, ?_, ?_, ?_, ?_, ?_, ?_, ?_, ?_, ?_, ?_, ?_, ?_, trivial⟩ (by kernel_rfl) ?_
      · exact DOk.t rfl rfl (by kernel_rfl) (by kernel_rfl)
      · exact DOk.t rfl rfl (by kernel_rfl) (by kernel_rfl)
      · exact DOk.t rfl rfl (by kernel_rfl) (by kernel_rfl)
      · exact DOk.t rfl rfl (by kernel_rfl) (by kernel_rfl)
      · exact DOk.t rfl rfl (by kernel_rfl) (by kernel_rfl)
      · exact DOk.t rfl rfl (by kernel_rfl) (by kernel_rfl)
      · exact DOk.t rfl rfl (by kernel_rfl) (by kernel_rfl)
      · exact DOk.t rfl rfl (by kernel_rfl) (by kernel_rfl)
      · exact DOk.t rfl rfl (by kernel_rfl) (by kernel_rfl)
      · exact DOk.t rfl rfl (by kernel_rfl) (by kernel_rfl)
      · exact DOk.callA (caps := []) (xs := [cD (u6 a8.loop.1), cD (u6 ((p1.getD i1 default).loop.1))]) (moment_greatest_ok hr10) rfl (fun r => by kernel_rfl) rfl (fun r => by kernel_rfl) (fun r => by kernel_rfl) (fun r => (.cons (.refl _) (.cons (.refl _) .nil))) rfl rfl (fun r => rfl)
      · exact DOk.t rfl rfl (by kernel_rfl) (by kernel_rfl)
      · exact DOk.t rfl rfl (by kernel_rfl) (by kernel_rfl)
      · exact DOk.step (.turn 4 (.box [.d (u6 a8.epoch), .d (u6 r10), .d (u6 a8.loop.2)])) (fun r => by kernel_rfl) (fun r => by kernel_rfl) trivial (by kernel_rfl) (by kernel_rfl) (fun r => rfl)
      cases h
      exact rfl
     rcases i7 with _ | i7
     ·refine Tri.seqS ?_
      refine Tri.reg ?_
      refine At.seg 2 [0, 4, 6, 7, 8, 9, 10, 25] [4, 6] (s' := ⟨[(0, cD (.fn 35 [])), (4, .c (.ptr 4 0)), (6, .c (.ptr 6 0)), (7, cD (i6 ((1 : Nat) : Int))), (8, .c (wC 3 encTime p1)), (9, cD (i6 (p1.length : Int))), (10, cD (i6 ((i1 : Nat) : Int))), (25, cD (i6 ((1 : Nat) : Int)))], [(4, .box (cTime a8)), (6, .box (cTime (p1.getD i1 default)))]⟩) (c := True ∧ True ∧ True) (by kernel_rfl) ⟨trivial, trivial, trivial⟩ ?_
      refine At.done rfl ?_
      show Tri _ _ _ _
      obtain ⟨r11, hr11, h⟩ := bind_elim h
      refine Tri.drawn (specs := [⟨⟨[(7, cD (i6 ((1 : Nat) : Int)))], []⟩, ⟨[(28, cD (i6 ((1 : Nat) : Int)))], []⟩, [], [], []⟩, ⟨⟨[(0, cD (.fn 35 []))], []⟩, ⟨[(29, cD (.fn 35 []))], []⟩, [], [], []⟩, ⟨⟨[(7, cD (i6 ((1 : Nat) : Int)))], []⟩, ⟨[(30, cD (i6 ((1 : Nat) : Int)))], []⟩, [], [], []⟩, ⟨⟨[(4, .c (.ptr 4 0))], []⟩, ⟨[(31, .c (.ptr 4 1))], []⟩, [], [], []⟩, ⟨⟨[(30, cD (i6 ((1 : Nat) : Int))), (31, .c (.ptr 4 1))], [(4, .box (cTime a8))]⟩, ⟨[(32, .c (.ptr 4 2))], []⟩, [], [], []⟩, ⟨⟨[(32, .c (.ptr 4 2))], [(4, .box (cTime a8))]⟩, ⟨[(33, cD (u6 a8.loop.2))], []⟩, [], [], []⟩, ⟨⟨[(7, cD (i6 ((1 : Nat) : Int)))], []⟩, ⟨[(34, cD (i6 ((1 : Nat) : Int)))], []⟩, [], [], []⟩, ⟨⟨[(6, .c (.ptr 6 0))], []⟩, ⟨[(35, .c (.ptr 6 1))], []⟩, [], [], []⟩, ⟨⟨[(34, cD (i6 ((1 : Nat) : Int))), (35, .c (.ptr 6 1))], [(6, .box (cTime (p1.getD i1 default)))]⟩, ⟨[(36, .c (.ptr 6 2))], []⟩, [], [], []⟩, ⟨⟨[(36, .c (.ptr 6 2))], [(6, .box (cTime (p1.getD i1 default)))]⟩, ⟨[(37, cD (u6 ((p1.getD i1 default).loop.2)))], []⟩, [], [], []⟩, ⟨⟨[(29, cD (.fn 35 [])), (33, cD (u6 a8.loop.2)), (37, cD (u6 ((p1.getD i1 default).loop.2)))], []⟩, ⟨[(38, cD (u6 r11))], []⟩, [], [], []⟩, ⟨⟨[(4, .c (.ptr 4 0))], []⟩, ⟨[(39, .c (.ptr 4 1))], []⟩, [], [], []⟩, ⟨⟨[(28, cD (i6 ((1 : Nat) : Int))), (39, .c (.ptr 4 1))], [(4, .box (cTime a8))]⟩, ⟨[(40, .c (.ptr 4 2))], []⟩, [], [], []⟩, ⟨⟨[(38, cD (u6 r11)), (40, .c (.ptr 4 2))], [(4, .box (cTime a8))]⟩, ⟨[], [(4, .box [.d (u6 a8.epoch), .d (u6 a8.loop.1), .d (u6 r11)])]⟩, [], [], []⟩]) (bef := [[], [], [], [], [2, 3], [2, 3, 4], [], [], [6, 7], [6, 7, 8], [1, 2, 3, 4, 5, 6, 7, 8, 9], [], [0, 1, 2, 3, 4, 5, 6, 7, 8, 9, 10, 11], [0, 1, 2, 3, 4, 5, 6, 7, 8, 9, 10, 11, 12]]) (tk := [25, 0, 4, 6, 8, 9, 10]) (sk := [4, 6]) (s' := ⟨[(25, cD (i6 ((1 : Nat) : Int))), (0, cD (.fn 35 [])), (4, .c (.ptr 4 0)), (6, .c (.ptr 6 0)), (8, .c (wC 3 encTime p1)), (9, cD (i6 (p1.length : Int))), (10, cD (i6 ((i1 : Nat) : Int)))], [(4, .box [.d (u6 a8.epoch), .d (u6 a8.loop.1), .d (u6 r11)]), (6, .box (cTime (p1.getD i1 default)))]⟩) (by kernel_rfl) (by kernel_rfl) (by kernel_rfl) ⟨?_, ?_, ?_, ?_, ?_, ?_, ?_, ?_, ?_, ?_, ?_, ?_, ?_, ?_, trivial⟩ (by kernel_rfl) ?_
      · exact DOk.t rfl rfl (by kernel_rfl) (by kernel_rfl)
      · exact DOk.t rfl rfl (by kernel_rfl) (by kernel_rfl)
      · exact DOk.t rfl rfl (by kernel_rfl) (by kernel_rfl)
      · exact DOk.t rfl rfl (by kernel_rfl) (by kernel_rfl)
      · exact DOk.t rfl rfl (by kernel_rfl) (by kernel_rfl)
      · exact DOk.t rfl rfl (by kernel_rfl) (by kernel_rfl)
      · exact DOk.t rfl rfl (by kernel_rfl) (by kernel_rfl)
      · exact DOk.t rfl rfl (by kernel_rfl) (by kernel_rfl)
      · exact DOk.t rfl rfl (by kernel_rfl) (by kernel_rfl)
      · exact DOk.t rfl rfl (by kernel_rfl) (by kernel_rfl)
      · exact DOk.callA (caps := []) (xs := [cD (u6 a8.loop.2), cD (u6 ((p1.getD i1 default).loop.2))]) (moment_greatest_ok hr11) rfl (fun r => by kernel_rfl) rfl (fun r => by kernel_rfl) (fun r => by kernel_rfl) (fun r => (.cons (.refl _) (.cons (.refl _) .nil))) rfl rfl (fun r => rfl)
      · exact DOk.t rfl rfl (by kernel_rfl) (by kernel_rfl)
      · exact DOk.t rfl rfl (by kernel_rfl) (by kernel_rfl)
      · exact DOk.step (.turn 4 (.box [.d (u6 a8.epoch), .d (u6 a8.loop.1), .d (u6 r11)])) (fun r => by kernel_rfl) (fun r => by kernel_rfl) trivial (by kernel_rfl) (by kernel_rfl) (fun r => rfl)
      cases h
      exact rfl
     exact absurd hii7 (by omega)
    ·intro a9 h
     cases h
     exact rfl
    · exact fun x => x.elim
   ·refine Tri.seqS ?_
    refine Tri.reg ?_
    refine At.seg 2 [0, 4, 6, 8, 9, 10, 16] [4, 6] (s' := ⟨[(0, cD (.fn 35 [])), (4, .c (.ptr 4 0)), (6, .c (.ptr 6 0)), (8, .c (wC 3 encTime p1)), (9, cD (i6 (p1.length : Int))), (10, cD (i6 ((i1 : Nat) : Int))), (16, cD (.bool (decide (((i1 : Nat) : Int) = 0))))], [(4, .box (cTime a2)), (6, .box (cTime (p1.getD i1 default)))]⟩) (c := True ∧ True ∧ True) (by kernel_rfl) ⟨trivial, trivial, trivial⟩ ?_
    refine At.done rfl ?_
    show Tri _ _ _ _
    refine Tri.condP (b := (decide (((i1 : Nat) : Int) = 0))) rfl h (fun h => ?_) (fun h => ?_)
    ·refine Tri.reg ?_
     refine At.seg 2 [0, 4, 6, 8, 9, 10] [4, 6] (s' := ⟨[(0, cD (.fn 35 [])), (4, .c (.ptr 4 0)), (6, .c (.ptr 6 0)), (8, .c (wC 3 encTime p1)), (9, cD (i6 (p1.length : Int))), (10, cD (i6 ((i1 : Nat) : Int)))], [(4, .box (cTime (p1.getD i1 default))), (6, .box (cTime (p1.getD i1 default)))]⟩) (c := True ∧ True ∧ True) (by kernel_rfl) ⟨trivial, trivial, trivial⟩ ?_
     refine At.done rfl ?_
     exact ⟨_, h, rfl⟩
    ·refine Tri.keep [0, 4, 6, 8, 9, 10] [4, 6] (s' := ⟨[(0, cD (.fn 35 [])), (4, .c (.ptr 4 0)), (6, .c (.ptr 6 0)), (8, .c (wC 3 encTime p1)), (9, cD (i6 (p1.length : Int))), (10, cD (i6 ((i1 : Nat) : Int)))], [(4, .box (cTime a2)), (6, .box (cTime (p1.getD i1 default)))]⟩) (by kernel_rfl) ?_
     refine Tri.skip ?_
     exact ⟨_, h, rfl⟩
  ·intro a3 h
   show Tri _ _ _ _
   refine Tri.seqS ?_
   refine Tri.reg ?_
   refine At.seg 2 [4] [4] (s' := ⟨[(4, .c (.ptr 4 0))], [(4, .box (cTime a3))]⟩) (c := True ∧ True ∧ True) (by kernel_rfl) ⟨trivial, trivial, trivial⟩ ?_
   refine At.done rfl ?_
   show Tri _ _ _ _
   refine Tri.keep [4] [4] (s' := ⟨[(4, .c (.ptr 4 0))], [(4, .box (cTime a3))]⟩) (by kernel_rfl) ?_
   refine Tri.ret ?_
   cases h
   refine ⟨_, _, rfl, ⟨trivial, trivial⟩, rfl, rfl, ?_⟩
   intro k c h
   cases h
  · exact fun x => x.elim

set_option maxRecDepth 100000 in
theorem moment_Lub_ok_v0 {p0 : List Time} {q : Time} (h : moment_Lub p0 = some q) :
    Summ Try.prog 14 [.c (wC 3 encTime p0)] [] (.agg (cTime q)) [] := by
  refine Summ.intro Try.func14 rfl (by kernel_rfl) (by kernel_rfl) [] rfl ?_
  rintro ⟨P, w0, G0, V, LL, lk, N, φ0, fx⟩ rfl rfl rfl rfl
  unfold moment_Lub at h
  refine Tri.seqS ?_
  refine Tri.reg ?_
  refine At.seg 1 [0, 2] [2] (s' := ⟨[(0, .c (wC 3 encTime p0)), (2, .c (.ptr 2 0))], [(2, .box [.d (u6 0), .d (u6 0), .d (u6 0)])]⟩) (c := True ∧ True) (by kernel_rfl) ⟨trivial, trivial⟩ ?_
  refine At.done rfl ?_
  show Tri _ _ _ _
  refine Tri.seqS ?_
  refine Tri.reg ?_
  refine At.seg 1 [2, 3] [2] (s' := ⟨[(2, .c (.ptr 2 0)), (3, .c (wC 3 encTime p0))], [(2, .box [.d (u6 0), .d (u6 0), .d (u6 0)])]⟩) (c := True ∧ True) (by kernel_rfl) ⟨trivial, trivial⟩ ?_
  obtain ⟨r1, hr1, h⟩ := bind_elim h
  refine At.callA (caps := []) (xs := [cD (.fn 35 []), .c (wC 3 encTime p0)]) (moment_fold__greatest_ok_v1 hr1) rfl rfl rfl rfl rfl rfl (.cons (.refl _) (.cons (.refl _) .nil)) rfl rfl ?_
  refine At.seg 1 [2] [2] (s' := ⟨[(2, .c (.ptr 2 0))], [(2, .box (cTime r1))]⟩) (c := True ∧ True) (by kernel_rfl) ⟨trivial, trivial⟩ ?_
  refine At.done rfl ?_
  show Tri _ _ _ _
  refine Tri.keep [2] [2] (s' := ⟨[(2, .c (.ptr 2 0))], [(2, .box (cTime r1))]⟩) (by kernel_rfl) ?_
  refine Tri.ret ?_
  cases h
  refine ⟨_, _, rfl, ⟨trivial, trivial⟩, rfl, rfl, ?_⟩
  intro k c h
  cases h

set_option maxRecDepth 100000 in
theorem moment_Ahead_ok {p0 : Time} {p1 : Time} {q : Bool} (h : moment_Ahead p0 p1 = some q) :
    Summ Try.prog 19 [.agg (cTime p0), .agg (cTime p1)] [] (cD (.bool q)) [] := by
  refine Summ.intro Try.func19 rfl (by kernel_rfl) (by kernel_rfl) [] rfl ?_
  rintro ⟨P, w0, G0, V, LL, lk, N, φ0, fx⟩ rfl rfl rfl rfl
  unfold moment_Ahead at h
  refine Tri.seqS ?_
  refine Tri.reg ?_
  refine At.seg 3 [2, 3] [2, 3] (s' := ⟨[(2, .c (.ptr 2 0)), (3, .c (.ptr 3 0))], [(2, .box (cTime p0)), (3, .box (cTime p1))]⟩) (c := True ∧ True ∧ True ∧ True) (by kernel_rfl) ⟨trivial, trivial, trivial, trivial⟩ ?_
  refine At.done rfl ?_
  show Tri _ _ _ _
  refine Tri.seqS ?_
  obtain ⟨r1, hr1, h⟩ := bind_elim h
  refine Tri.drawn (specs := [⟨⟨[(2, .c (.ptr 2 0))], [(2, .box (cTime p0))]⟩, ⟨[(5, .agg (cTime p0))], []⟩, [], [], []⟩, ⟨⟨[(3, .c (.ptr 3 0))], [(3, .box (cTime p1))]⟩, ⟨[(6, .agg (cTime p1))], []⟩, [], [], []⟩, ⟨⟨[(5, .agg (cTime p0)), (6, .agg (cTime p1))], []⟩, ⟨[(7, .c (oC 7 3 ([p0, p1] : List Time)))], [(7, vL 3 encTime ([p0, p1] : List Time))]⟩, [7], [], []⟩, ⟨⟨[(7, .c (oC 7 3 ([p0, p1] : List Time)))], [(7, vL 3 encTime ([p0, p1] : List Time))]⟩, ⟨[(8, .agg (cTime r1))], []⟩, [], [], []⟩, ⟨⟨[(3, .c (.ptr 3 0))], [(3, .box (cTime p1))]⟩, ⟨[(9, .agg (cTime p1))], []⟩, [], [], []⟩, ⟨⟨[(8, .agg (cTime r1)), (9, .agg (cTime p1))], []⟩, ⟨[(10, cD (.bool (eqTime r1 p1)))], []⟩, [], [], []⟩, ⟨⟨[(10, cD (.bool (eqTime r1 p1)))], []⟩, ⟨[(4, cD (.bool (eqTime r1 p1)))], []⟩, [], [], []⟩]) (bef := [[], [], [0, 1], [0, 1, 2], [], [0, 1, 2, 3, 4], [0, 1, 2, 3, 4, 5]]) (tk := [4]) (sk := []) (s' := ⟨[(4, cD (.bool (eqTime r1 p1)))], []⟩) (by kernel_rfl) (by kernel_rfl) (by kernel_rfl) ⟨?_, ?_, ?_, ?_, ?_, ?_, ?_, trivial⟩ (by kernel_rfl) ?_
  · exact DOk.t rfl rfl (by kernel_rfl) (by kernel_rfl)
  · exact DOk.t rfl rfl (by kernel_rfl) (by kernel_rfl)
  · exact DOk.one fun r hr => One.buildT (e := 27) (es := 3) (z := [.d (u6 0), .d (u6 0), .d (u6 0)]) (cells := [.d (u6 p0.epoch), .d (u6 p0.loop.1), .d (u6 p0.loop.2), .d (u6 p1.epoch), .d (u6 p1.loop.1), .d (u6 p1.loop.2)]) (encTime) ([p0, p1] : List Time) rfl (by kernel_rfl) rfl rfl (St.noRef_app (by kernel_rfl) (hr 7 (by simp))) (by kernel_rfl) rfl (by kernel_rfl) rfl rfl rfl (by kernel_rfl) rfl ⟨⟨rfl, .refl _⟩, ⟨rfl, .refl _⟩, trivial⟩
  · exact DOk.callA (caps := []) (xs := [.c (oC 7 3 ([p0, p1] : List Time))]) (moment_Lub_ok_v0 hr1) rfl (fun r => by kernel_rfl) rfl (fun r => by kernel_rfl) (fun r => by kernel_rfl) (fun r => (.cons (AVArg.view (encTime) ([p0, p1] : List Time) rfl) .nil)) rfl rfl (fun r => rfl)
  · exact DOk.t rfl rfl (by kernel_rfl) (by kernel_rfl)
  · exact DOk.one fun r _ => One.eql (b := (eqTime r1 p1)) (d := 9) rfl (by kernel_rfl) rfl (.inl rfl) rfl rfl (by kernel_rfl) rfl (by kernel_rfl)
  · exact DOk.t rfl rfl (by kernel_rfl) (by kernel_rfl)
  show Tri _ _ _ _
  refine Tri.keep [4] [] (s' := ⟨[(4, cD (.bool (eqTime r1 p1)))], []⟩) (by kernel_rfl) ?_
  refine Tri.ret ?_
  cases h
  refine ⟨_, _, rfl, ⟨trivial, trivial⟩, rfl, rfl, ?_⟩
  intro k c h
  cases h

set_option maxRecDepth 100000 in
theorem moment_Beyond_1_ok {p0 : Time} {p1 : Time} {q : Bool} (h : moment_Beyond_1 p0 p1 = some q) :
    Summ Try.prog 44 [.agg (cTime p0), cD (.cptr [u6 p1.epoch, u6 p1.loop.1, u6 p1.loop.2])] [] (cD (.bool q)) [] := by
  refine Summ.intro Try.func44 rfl (by kernel_rfl) (by kernel_rfl) [] rfl ?_
  rintro ⟨P, w0, G0, V, LL, lk, N, φ0, fx⟩ rfl rfl rfl rfl
  unfold moment_Beyond_1 at h
  refine Tri.le [] (fun k hk => by cases hk) ⟨[(0, .agg (cTime p0)), (1, .c (.eptr [u6 p1.epoch, u6 p1.loop.1, u6 p1.loop.2]))], []⟩ ⟨⟨_, rfl, .refl _⟩, ⟨_, rfl, .c (.cptrE _)⟩, trivial⟩ trivial ?_
  refine Tri.seqS ?_
  refine Tri.reg ?_
  refine At.seg 2 [1, 2] [2] (s' := ⟨[(1, .c (.eptr [u6 p1.epoch, u6 p1.loop.1, u6 p1.loop.2])), (2, .c (.ptr 2 0))], [(2, .box (cTime p0))]⟩) (c := True ∧ True ∧ True) (by kernel_rfl) ⟨trivial, trivial, trivial⟩ ?_
  refine At.done rfl ?_
  show Tri _ _ _ _
  refine Tri.seqS ?_
  refine Tri.reg ?_
  refine At.seg 2 [4, 5] [] (s' := ⟨[(4, .agg (cTime p0)), (5, .agg (cTime p1))], []⟩) (c := True ∧ True ∧ True) (by kernel_rfl) ⟨trivial, trivial, trivial⟩ ?_
  obtain ⟨r1, hr1, h⟩ := bind_elim h
  refine At.callA (caps := []) (xs := [.agg (cTime p0), .agg (cTime p1)]) (moment_Ahead_ok hr1) rfl rfl rfl rfl rfl rfl (.cons (.refl _) (.cons (.refl _) .nil)) rfl rfl ?_
  refine At.seg 1 [3] [] (s' := ⟨[(3, cD (.bool r1))], []⟩) (c := True ∧ True) (by kernel_rfl) ⟨trivial, trivial⟩ ?_
  refine At.done rfl ?_
  show Tri _ _ _ _
  refine Tri.keep [3] [] (s' := ⟨[(3, cD (.bool r1))], []⟩) (by kernel_rfl) ?_
  refine Tri.ret ?_
  cases h
  refine ⟨_, _, rfl, ⟨trivial, trivial⟩, rfl, rfl, ?_⟩
  intro k c h
  cases h

set_option maxRecDepth 100000 in
theorem slices_IndexFuncfreshet_api_Time_freshet_api_Time_Time__Beyond_1_ok {p0 : List Time} {p1_0 : Time} {q : Int} (h : slices_IndexFuncfreshet_api_Time_freshet_api_Time_Time__Beyond_1 p0 p1_0 = some q) :
    Summ Try.prog 48 [cD (lD 3 encTime p0), cD (.fn 44 [.cptr [u6 p1_0.epoch, u6 p1_0.loop.1, u6 p1_0.loop.2]])] [] (cD (i6 q)) [] := by
  refine Summ.intro Try.func48 rfl (by kernel_rfl) (by kernel_rfl) [] rfl ?_
  rintro ⟨P, w0, G0, V, LL, lk, N, φ0, fx⟩ rfl rfl rfl rfl
  unfold slices_IndexFuncfreshet_api_Time_freshet_api_Time_Time__Beyond_1 at h
  refine Tri.seqS ?_
  refine Tri.reg ?_
  refine At.seg 1 [0, 1] [] (s' := ⟨[(0, cD (lD 3 encTime p0)), (1, cD (.fn 44 [.cptr [u6 p1_0.epoch, u6 p1_0.loop.1, u6 p1_0.loop.2]]))], []⟩) (c := True ∧ True) (by kernel_rfl) ⟨trivial, trivial⟩ ?_
  refine At.done rfl ?_
  show Tri _ _ _ _
  refine Tri.seqS ?_
  refine Tri.seqS ?_
  refine Tri.reg ?_
  refine At.seg 3 [0, 1, 7, 8] [] (s' := ⟨[(0, cD (lD 3 encTime p0)), (1, cD (.fn 44 [.cptr [u6 p1_0.epoch, u6 p1_0.loop.1, u6 p1_0.loop.2]])), (7, cD (i6 (p0.length : Int))), (8, cD (i6 0))], []⟩) (c := True ∧ True ∧ True ∧ True) (by kernel_rfl) ⟨trivial, trivial, trivial, trivial⟩ ?_
  refine At.done rfl ?_
  show Tri _ _ _ _
  refine Tri.lenOf (t := 0) rfl fun hlena2 => ?_
  refine Tri.keep [8, 0, 1, 7] [] (s' := idx 8 0 ⟨[(0, cD (lD 3 encTime p0)), (1, cD (.fn 44 [.cptr [u6 p1_0.epoch, u6 p1_0.loop.1, u6 p1_0.loop.2]])), (7, cD (i6 (p0.length : Int)))], []⟩) (by kernel_rfl) ?_
  refine Tri.range (n := p0.length) (st0 := ()) (fun (x : Int) s => RetAt Try.prog Try.f48 (cD (i6 x)) [] s) (fun (a2 : Unit) => ⟨[(0, cD (lD 3 encTime p0)), (1, cD (.fn 44 [.cptr [u6 p1_0.epoch, u6 p1_0.loop.1, u6 p1_0.loop.2]])), (7, cD (i6 (p0.length : Int)))], []⟩) (fun (a2 : Unit) => ⟨[(0, cD (lD 3 encTime p0)), (1, cD (.fn 44 [.cptr [u6 p1_0.epoch, u6 p1_0.loop.1, u6 p1_0.loop.2]])), (7, cD (i6 (p0.length : Int)))], []⟩) (fun i => decide ((i : Int) < (p0.length : Int))) [9, 8, 0, 1, 7] [] [0, 1, 7] [] [8, 0, 1, 7] [] h hlena2 rfl ?_ ?_ ?_ ?_ ?_ ?_ ?_ ?_
  · exact fun i a => ⟨True ∧ True, by kernel_rfl, ⟨trivial, trivial⟩⟩
  · exact fun i hi => decide_eq_true (by omega)
  · exact decide_eq_false (by omega)
  · exact fun a => by kernel_rfl
  · exact fun i a => ⟨True ∧ True ∧ True, by kernel_rfl, ⟨trivial, trivial, trivial⟩⟩
  ·intro i1 a2 c hii1 h
   refine Tri.seqS ?_
   refine Tri.reg ?_
   refine At.seg 2 [0, 1, 5, 7, 8] [] (s' := ⟨[(0, cD (lD 3 encTime p0)), (1, cD (.fn 44 [.cptr [u6 p1_0.epoch, u6 p1_0.loop.1, u6 p1_0.loop.2]])), (5, cD (i6 ((i1 : Nat) : Int))), (7, cD (i6 (p0.length : Int))), (8, cD (i6 ((i1 : Nat) : Int)))], []⟩) (c := True ∧ True ∧ True) (by kernel_rfl) ⟨trivial, trivial, trivial⟩ ?_
   refine At.done rfl ?_
   show Tri _ _ _ _
   refine Tri.seqS ?_
   refine Tri.reg ?_
   refine At.seg 5 [0, 1, 5, 7, 8, 11, 15] [] (s' := ⟨[(0, cD (lD 3 encTime p0)), (1, cD (.fn 44 [.cptr [u6 p1_0.epoch, u6 p1_0.loop.1, u6 p1_0.loop.2]])), (5, cD (i6 ((i1 : Nat) : Int))), (7, cD (i6 (p0.length : Int))), (8, cD (i6 ((i1 : Nat) : Int))), (11, cD (.fn 44 [.cptr [u6 p1_0.epoch, u6 p1_0.loop.1, u6 p1_0.loop.2]])), (15, .agg (cTime (p0.getD i1 default)))], []⟩) (c := True ∧ True ∧ True ∧ ((0 : Int) ≤ ((i1 : Nat) : Int) ∧ ((i1 : Nat) : Int) < (p0.length : Int)) ∧ True ∧ True) (by kernel_rfl) ⟨trivial, trivial, trivial, ⟨by omega, by omega⟩, trivial, trivial⟩ ?_
   obtain ⟨r4, hr4, h⟩ := bind_elim h
   refine At.callA (caps := [.cptr [u6 p1_0.epoch, u6 p1_0.loop.1, u6 p1_0.loop.2]]) (xs := [.agg (cTime (p0.getD i1 default)), cD (.cptr [u6 p1_0.epoch, u6 p1_0.loop.1, u6 p1_0.loop.2])]) (moment_Beyond_1_ok hr4) rfl rfl rfl rfl rfl rfl (.cons (.refl _) (.cons (.refl _) .nil)) rfl rfl ?_
   refine At.done rfl ?_
   show Tri _ _ _ _
   refine Tri.condP (b := r4) rfl h (fun h => ?_) (fun h => ?_)
   ·refine Tri.seqS ?_
    refine Tri.reg ?_
    refine At.seg 2 [4] [] (s' := ⟨[(4, cD (i6 ((i1 : Nat) : Int)))], []⟩) (c := True ∧ True ∧ True) (by kernel_rfl) ⟨trivial, trivial, trivial⟩ ?_
    refine At.done rfl ?_
    show Tri _ _ _ _
    refine Tri.keep [4] [] (s' := ⟨[(4, cD (i6 ((i1 : Nat) : Int)))], []⟩) (by kernel_rfl) ?_
    refine Tri.ret ?_
    cases h
    refine ⟨_, _, rfl, ⟨trivial, trivial⟩, rfl, rfl, ?_⟩
    intro k c h
    cases h
   ·refine Tri.keep [8, 0, 1, 7] [] (s' := ⟨[(8, cD (i6 ((i1 : Nat) : Int))), (0, cD (lD 3 encTime p0)), (1, cD (.fn 44 [.cptr [u6 p1_0.epoch, u6 p1_0.loop.1, u6 p1_0.loop.2]])), (7, cD (i6 (p0.length : Int)))], []⟩) (by kernel_rfl) ?_
    refine Tri.skip ?_
    cases h
    exact rfl
  ·intro a3 h
   show Tri _ _ _ _
   refine Tri.seqS ?_
   refine Tri.reg ?_
   refine At.seg 1 [4] [] (s' := ⟨[(4, cD (i6 (-1)))], []⟩) (c := True ∧ True) (by kernel_rfl) ⟨trivial, trivial⟩ ?_
   refine At.done rfl ?_
   show Tri _ _ _ _
   refine Tri.keep [4] [] (s' := ⟨[(4, cD (i6 (-1)))], []⟩) (by kernel_rfl) ?_
   refine Tri.ret ?_
   cases h
   refine ⟨_, _, rfl, ⟨trivial, trivial⟩, rfl, rfl, ?_⟩
   intro k c h
   cases h
  · exact fun x s hx hr => by cases hx; exact hr

set_option maxRecDepth 100000 in
theorem slices_ContainsFuncfreshet_api_Time_freshet_api_Time_Time__Beyond_1_ok {p0 : List Time} {p1_0 : Time} {q : Bool} (h : slices_ContainsFuncfreshet_api_Time_freshet_api_Time_Time__Beyond_1 p0 p1_0 = some q) :
    Summ Try.prog 43 [cD (lD 3 encTime p0), cD (.fn 44 [.cptr [u6 p1_0.epoch, u6 p1_0.loop.1, u6 p1_0.loop.2]])] [] (cD (.bool q)) [] := by
  refine Summ.intro Try.func43 rfl (by kernel_rfl) (by kernel_rfl) [] rfl ?_
  rintro ⟨P, w0, G0, V, LL, lk, N, φ0, fx⟩ rfl rfl rfl rfl
  unfold slices_ContainsFuncfreshet_api_Time_freshet_api_Time_Time__Beyond_1 at h
  refine Tri.seqS ?_
  refine Tri.reg ?_
  refine At.seg 1 [0, 1] [] (s' := ⟨[(0, cD (lD 3 encTime p0)), (1, cD (.fn 44 [.cptr [u6 p1_0.epoch, u6 p1_0.loop.1, u6 p1_0.loop.2]]))], []⟩) (c := True ∧ True) (by kernel_rfl) ⟨trivial, trivial⟩ ?_
  refine At.done rfl ?_
  show Tri _ _ _ _
  refine Tri.seqS ?_
  refine Tri.reg ?_
  refine At.seg 2 [5, 6] [] (s' := ⟨[(5, cD (lD 3 encTime p0)), (6, cD (.fn 44 [.cptr [u6 p1_0.epoch, u6 p1_0.loop.1, u6 p1_0.loop.2]]))], []⟩) (c := True ∧ True ∧ True) (by kernel_rfl) ⟨trivial, trivial, trivial⟩ ?_
  obtain ⟨r1, hr1, h⟩ := bind_elim h
  refine At.callA (caps := []) (xs := [cD (lD 3 encTime p0), cD (.fn 44 [.cptr [u6 p1_0.epoch, u6 p1_0.loop.1, u6 p1_0.loop.2]])]) (slices_IndexFuncfreshet_api_Time_freshet_api_Time_Time__Beyond_1_ok hr1) rfl rfl rfl rfl rfl rfl (.cons (.refl _) (.cons (.refl _) .nil)) rfl rfl ?_
  refine At.seg 2 [4] [] (s' := ⟨[(4, cD (.bool (decide (0 ≤ r1))))], []⟩) (c := True ∧ True ∧ True) (by kernel_rfl) ⟨trivial, trivial, trivial⟩ ?_
  refine At.done rfl ?_
  show Tri _ _ _ _
  refine Tri.keep [4] [] (s' := ⟨[(4, cD (.bool (decide (0 ≤ r1))))], []⟩) (by kernel_rfl) ?_
  refine Tri.ret ?_
  cases h
  refine ⟨_, _, rfl, ⟨trivial, trivial⟩, rfl, rfl, ?_⟩
  intro k c h
  cases h

set_option maxRecDepth 100000 in
theorem moment_Beyond_ok {p0 : List Time} {p1 : Time} {q : Bool} (h : moment_Beyond p0 p1 = some q) :
    Summ Try.prog 29 [cD (lD 3 encTime p0), .agg (cTime p1)] [] (cD (.bool q)) [] := by
  refine Summ.intro Try.func29 rfl (by kernel_rfl) (by kernel_rfl) [] rfl ?_
  rintro ⟨P, w0, G0, V, LL, lk, N, φ0, fx⟩ rfl rfl rfl rfl
  unfold moment_Beyond at h
  refine Tri.seqS ?_
  refine Tri.reg ?_
  refine At.seg 2 [0, 3] [3] (s' := ⟨[(0, cD (lD 3 encTime p0)), (3, .c (.ptr 3 0))], [(3, .box (cTime p1))]⟩) (c := True ∧ True ∧ True) (by kernel_rfl) ⟨trivial, trivial, trivial⟩ ?_
  refine At.done rfl ?_
  show Tri _ _ _ _
  refine Tri.seqS ?_
  refine Tri.reg ?_
  refine At.seg 1 [3, 5] [3] (s' := ⟨[(3, .c (.ptr 3 0)), (5, cD (lD 3 encTime p0))], [(3, .box (cTime p1))]⟩) (c := True ∧ True) (by kernel_rfl) ⟨trivial, trivial⟩ ?_
  refine At.le [3] (fun k hk h => by first | (cases h; done) | (simp at hk h; omega)) ⟨[(3, cD (.cptr [u6 p1.epoch, u6 p1.loop.1, u6 p1.loop.2])), (5, cD (lD 3 encTime p0))], []⟩ ⟨⟨_, rfl, .c (.box (ds := [u6 p1.epoch, u6 p1.loop.1, u6 p1.loop.2]) rfl (by simp))⟩, ⟨_, rfl, .refl _⟩, trivial⟩ trivial ?_
  refine At.seg 1 [6, 3, 5] [] (s' := ⟨[(6, cD (.fn 44 [.cptr [u6 p1.epoch, u6 p1.loop.1, u6 p1.loop.2]])), (3, cD (.cptr [u6 p1.epoch, u6 p1.loop.1, u6 p1.loop.2])), (5, cD (lD 3 encTime p0))], []⟩) (c := True ∧ True) (by kernel_rfl) ⟨trivial, trivial⟩ ?_
  refine At.le [] (fun k hk => by cases hk) ⟨[(6, cD (.fn 44 [.cptr [u6 p1.epoch, u6 p1.loop.1, u6 p1.loop.2]])), (3, .c (.eptr [u6 p1.epoch, u6 p1.loop.1, u6 p1.loop.2])), (5, cD (lD 3 encTime p0))], []⟩ ⟨⟨_, rfl, .refl _⟩, ⟨_, rfl, .c (.cptrE _)⟩, ⟨_, rfl, .refl _⟩, trivial⟩ trivial ?_
  obtain ⟨r1, hr1, h⟩ := bind_elim h
  refine At.callA (caps := []) (xs := [cD (lD 3 encTime p0), cD (.fn 44 [.cptr [u6 p1.epoch, u6 p1.loop.1, u6 p1.loop.2]])]) (slices_ContainsFuncfreshet_api_Time_freshet_api_Time_Time__Beyond_1_ok hr1) rfl rfl rfl rfl rfl rfl (.cons (.refl _) (.cons (.refl _) .nil)) rfl rfl ?_
  refine At.seg 1 [4] [] (s' := ⟨[(4, cD (.bool r1))], []⟩) (c := True ∧ True) (by kernel_rfl) ⟨trivial, trivial⟩ ?_
  refine At.done rfl ?_
  show Tri _ _ _ _
  refine Tri.keep [4] [] (s' := ⟨[(4, cD (.bool r1))], []⟩) (by kernel_rfl) ?_
  refine Tri.ret ?_
  cases h
  refine ⟨_, _, rfl, ⟨trivial, trivial⟩, rfl, rfl, ?_⟩
  intro k c h
  cases h

set_option maxRecDepth 100000 in
theorem slices_IndexFuncfreshet_api_Time_freshet_api_Time_Time__Beyond_1_ok_v0 {p0 : List Time} {p1_0 : Time} {q : Int} (h : slices_IndexFuncfreshet_api_Time_freshet_api_Time_Time__Beyond_1 p0 p1_0 = some q) :
    Summ Try.prog 48 [.c (wC 3 encTime p0), cD (.fn 44 [.cptr [u6 p1_0.epoch, u6 p1_0.loop.1, u6 p1_0.loop.2]])] [] (cD (i6 q)) [] := by
  refine Summ.intro Try.func48 rfl (by kernel_rfl) (by kernel_rfl) [] rfl ?_
  rintro ⟨P, w0, G0, V, LL, lk, N, φ0, fx⟩ rfl rfl rfl rfl
  unfold slices_IndexFuncfreshet_api_Time_freshet_api_Time_Time__Beyond_1 at h
  refine Tri.seqS ?_
  refine Tri.reg ?_
  refine At.seg 1 [0, 1] [] (s' := ⟨[(0, .c (wC 3 encTime p0)), (1, cD (.fn 44 [.cptr [u6 p1_0.epoch, u6 p1_0.loop.1, u6 p1_0.loop.2]]))], []⟩) (c := True ∧ True) (by kernel_rfl) ⟨trivial, trivial⟩ ?_
  refine At.done rfl ?_
  show Tri _ _ _ _
  refine Tri.seqS ?_
  refine Tri.seqS ?_
  refine Tri.reg ?_
  refine At.seg 3 [0, 1, 7, 8] [] (s' := ⟨[(0, .c (wC 3 encTime p0)), (1, cD (.fn 44 [.cptr [u6 p1_0.epoch, u6 p1_0.loop.1, u6 p1_0.loop.2]])), (7, cD (i6 (p0.length : Int))), (8, cD (i6 0))], []⟩) (c := True ∧ True ∧ True ∧ True) (by kernel_rfl) ⟨trivial, trivial, trivial, trivial⟩ ?_
  refine At.done rfl ?_
  show Tri _ _ _ _
  refine Tri.lenOfV (t := 0) rfl fun hlena2 => ?_
  refine Tri.keep [8, 0, 1, 7] [] (s' := idx 8 0 ⟨[(0, .c (wC 3 encTime p0)), (1, cD (.fn 44 [.cptr [u6 p1_0.epoch, u6 p1_0.loop.1, u6 p1_0.loop.2]])), (7, cD (i6 (p0.length : Int)))], []⟩) (by kernel_rfl) ?_
  refine Tri.range (n := p0.length) (st0 := ()) (fun (x : Int) s => RetAt Try.prog Try.f48 (cD (i6 x)) [] s) (fun (a2 : Unit) => ⟨[(0, .c (wC 3 encTime p0)), (1, cD (.fn 44 [.cptr [u6 p1_0.epoch, u6 p1_0.loop.1, u6 p1_0.loop.2]])), (7, cD (i6 (p0.length : Int)))], []⟩) (fun (a2 : Unit) => ⟨[(0, .c (wC 3 encTime p0)), (1, cD (.fn 44 [.cptr [u6 p1_0.epoch, u6 p1_0.loop.1, u6 p1_0.loop.2]])), (7, cD (i6 (p0.length : Int)))], []⟩) (fun i => decide ((i : Int) < (p0.length : Int))) [9, 8, 0, 1, 7] [] [0, 1, 7] [] [8, 0, 1, 7] [] h hlena2 rfl ?_ ?_ ?_ ?_ ?_ ?_ ?_ ?_
  · exact fun i a => ⟨True ∧ True, by kernel_rfl, ⟨trivial, trivial⟩⟩
  · exact fun i hi => decide_eq_true (by omega)
  · exact decide_eq_false (by omega)
  · exact fun a => by kernel_rfl
  · exact fun i a => ⟨True ∧ True ∧ True, by kernel_rfl, ⟨trivial, trivial, trivial⟩⟩
  ·intro i1 a2 c hii1 h
   refine Tri.seqS ?_
   refine Tri.reg ?_
   refine At.seg 2 [0, 1, 5, 7, 8] [] (s' := ⟨[(0, .c (wC 3 encTime p0)), (1, cD (.fn 44 [.cptr [u6 p1_0.epoch, u6 p1_0.loop.1, u6 p1_0.loop.2]])), (5, cD (i6 ((i1 : Nat) : Int))), (7, cD (i6 (p0.length : Int))), (8, cD (i6 ((i1 : Nat) : Int)))], []⟩) (c := True ∧ True ∧ True) (by kernel_rfl) ⟨trivial, trivial, trivial⟩ ?_
   refine At.done rfl ?_
   show Tri _ _ _ _
   refine Tri.seqS ?_
   refine Tri.reg ?_
   refine At.seg 5 [0, 1, 5, 7, 8, 11, 15] [] (s' := ⟨[(0, .c (wC 3 encTime p0)), (1, cD (.fn 44 [.cptr [u6 p1_0.epoch, u6 p1_0.loop.1, u6 p1_0.loop.2]])), (5, cD (i6 ((i1 : Nat) : Int))), (7, cD (i6 (p0.length : Int))), (8, cD (i6 ((i1 : Nat) : Int))), (11, cD (.fn 44 [.cptr [u6 p1_0.epoch, u6 p1_0.loop.1, u6 p1_0.loop.2]])), (15, .agg (cTime (p0.getD i1 default)))], []⟩) (c := True ∧ True ∧ True ∧ ((0 : Int) ≤ ((i1 : Nat) : Int) ∧ ((i1 : Nat) : Int) < (p0.length : Int)) ∧ True ∧ True) (by kernel_rfl) ⟨trivial, trivial, trivial, ⟨by omega, by omega⟩, trivial, trivial⟩ ?_
   obtain ⟨r4, hr4, h⟩ := bind_elim h
   refine At.callA (caps := [.cptr [u6 p1_0.epoch, u6 p1_0.loop.1, u6 p1_0.loop.2]]) (xs := [.agg (cTime (p0.getD i1 default)), cD (.cptr [u6 p1_0.epoch, u6 p1_0.loop.1, u6 p1_0.loop.2])]) (moment_Beyond_1_ok hr4) rfl rfl rfl rfl rfl rfl (.cons (.refl _) (.cons (.refl _) .nil)) rfl rfl ?_
   refine At.done rfl ?_
   show Tri _ _ _ _
   refine Tri.condP (b := r4) rfl h (fun h => ?_) (fun h => ?_)
   ·refine Tri.seqS ?_
    refine Tri.reg ?_
    refine At.seg 2 [4] [] (s' := ⟨[(4, cD (i6 ((i1 : Nat) : Int)))], []⟩) (c := True ∧ True ∧ True) (by kernel_rfl) ⟨trivial, trivial, trivial⟩ ?_
    refine At.done rfl ?_
    show Tri _ _ _ _
    refine Tri.keep [4] [] (s' := ⟨[(4, cD (i6 ((i1 : Nat) : Int)))], []⟩) (by kernel_rfl) ?_
    refine Tri.ret ?_
    cases h
    refine ⟨_, _, rfl, ⟨trivial, trivial⟩, rfl, rfl, ?_⟩
    intro k c h
    cases h
   ·refine Tri.keep [8, 0, 1, 7] [] (s' := ⟨[(8, cD (i6 ((i1 : Nat) : Int))), (0, .c (wC 3 encTime p0)), (1, cD (.fn 44 [.cptr [u6 p1_0.epoch, u6 p1_0.loop.1, u6 p1_0.loop.2]])), (7, cD (i6 (p0.length : Int)))], []⟩) (by kernel_rfl) ?_
    refine Tri.skip ?_
    cases h
    exact rfl
  ·intro a3 h
   show Tri _ _ _ _
   refine Tri.seqS ?_
   refine Tri.reg ?_
   refine At.seg 1 [4] [] (s' := ⟨[(4, cD (i6 (-1)))], []⟩) (c := True ∧ True) (by kernel_rfl) ⟨trivial, trivial⟩ ?_
   refine At.done rfl ?_
   show Tri _ _ _ _
   refine Tri.keep [4] [] (s' := ⟨[(4, cD (i6 (-1)))], []⟩) (by kernel_rfl) ?_
   refine Tri.ret ?_
   cases h
   refine ⟨_, _, rfl, ⟨trivial, trivial⟩, rfl, rfl, ?_⟩
   intro k c h
   cases h
  · exact fun x s hx hr => by cases hx; exact hr

set_option maxRecDepth 100000 in
theorem slices_ContainsFuncfreshet_api_Time_freshet_api_Time_Time__Beyond_1_ok_v0 {p0 : List Time} {p1_0 : Time} {q : Bool} (h : slices_ContainsFuncfreshet_api_Time_freshet_api_Time_Time__Beyond_1 p0 p1_0 = some q) :
    Summ Try.prog 43 [.c (wC 3 encTime p0), cD (.fn 44 [.cptr [u6 p1_0.epoch, u6 p1_0.loop.1, u6 p1_0.loop.2]])] [] (cD (.bool q)) [] := by
  refine Summ.intro Try.func43 rfl (by kernel_rfl) (by kernel_rfl) [] rfl ?_
  rintro ⟨P, w0, G0, V, LL, lk, N, φ0, fx⟩ rfl rfl rfl rfl
  unfold slices_ContainsFuncfreshet_api_Time_freshet_api_Time_Time__Beyond_1 at h
  refine Tri.seqS ?_
  refine Tri.reg ?_
  refine At.seg 1 [0, 1] [] (s' := ⟨[(0, .c (wC 3 encTime p0)), (1, cD (.fn 44 [.cptr [u6 p1_0.epoch, u6 p1_0.loop.1, u6 p1_0.loop.2]]))], []⟩) (c := True ∧ True) (by kernel_rfl) ⟨trivial, trivial⟩ ?_
  refine At.done rfl ?_
  show Tri _ _ _ _
  refine Tri.seqS ?_
  refine Tri.reg ?_
  refine At.seg 2 [5, 6] [] (s' := ⟨[(5, .c (wC 3 encTime p0)), (6, cD (.fn 44 [.cptr [u6 p1_0.epoch, u6 p1_0.loop.1, u6 p1_0.loop.2]]))], []⟩) (c := True ∧ True ∧ True) (by kernel_rfl) ⟨trivial, trivial, trivial⟩ ?_
  obtain ⟨r1, hr1, h⟩ := bind_elim h
  refine At.callA (caps := []) (xs := [.c (wC 3 encTime p0), cD (.fn 44 [.cptr [u6 p1_0.epoch, u6 p1_0.loop.1, u6 p1_0.loop.2]])]) (slices_IndexFuncfreshet_api_Time_freshet_api_Time_Time__Beyond_1_ok_v0 hr1) rfl rfl rfl rfl rfl rfl (.cons (.refl _) (.cons (.refl _) .nil)) rfl rfl ?_
  refine At.seg 2 [4] [] (s' := ⟨[(4, cD (.bool (decide (0 ≤ r1))))], []⟩) (c := True ∧ True ∧ True) (by kernel_rfl) ⟨trivial, trivial, trivial⟩ ?_
  refine At.done rfl ?_
  show Tri _ _ _ _
  refine Tri.keep [4] [] (s' := ⟨[(4, cD (.bool (decide (0 ≤ r1))))], []⟩) (by kernel_rfl) ?_
  refine Tri.ret ?_
  cases h
  refine ⟨_, _, rfl, ⟨trivial, trivial⟩, rfl, rfl, ?_⟩
  intro k c h
  cases h

set_option maxRecDepth 100000 in
theorem moment_Beyond_ok_v0 {p0 : List Time} {p1 : Time} {q : Bool} (h : moment_Beyond p0 p1 = some q) :
    Summ Try.prog 29 [.c (wC 3 encTime p0), .agg (cTime p1)] [] (cD (.bool q)) [] := by
  refine Summ.intro Try.func29 rfl (by kernel_rfl) (by kernel_rfl) [] rfl ?_
  rintro ⟨P, w0, G0, V, LL, lk, N, φ0, fx⟩ rfl rfl rfl rfl
  unfold moment_Beyond at h
  refine Tri.seqS ?_
  refine Tri.reg ?_
  refine At.seg 2 [0, 3] [3] (s' := ⟨[(0, .c (wC 3 encTime p0)), (3, .c (.ptr 3 0))], [(3, .box (cTime p1))]⟩) (c := True ∧ True ∧ True) (by kernel_rfl) ⟨trivial, trivial, trivial⟩ ?_
  refine At.done rfl ?_
  show Tri _ _ _ _
  refine Tri.seqS ?_
  refine Tri.reg ?_
  refine At.seg 1 [3, 5] [3] (s' := ⟨[(3, .c (.ptr 3 0)), (5, .c (wC 3 encTime p0))], [(3, .box (cTime p1))]⟩) (c := True ∧ True) (by kernel_rfl) ⟨trivial, trivial⟩ ?_
  refine At.le [3] (fun k hk h => by first | (cases h; done) | (simp at hk h; omega)) ⟨[(3, cD (.cptr [u6 p1.epoch, u6 p1.loop.1, u6 p1.loop.2])), (5, .c (wC 3 encTime p0))], []⟩ ⟨⟨_, rfl, .c (.box (ds := [u6 p1.epoch, u6 p1.loop.1, u6 p1.loop.2]) rfl (by simp))⟩, ⟨_, rfl, .refl _⟩, trivial⟩ trivial ?_
  refine At.seg 1 [6, 3, 5] [] (s' := ⟨[(6, cD (.fn 44 [.cptr [u6 p1.epoch, u6 p1.loop.1, u6 p1.loop.2]])), (3, cD (.cptr [u6 p1.epoch, u6 p1.loop.1, u6 p1.loop.2])), (5, .c (wC 3 encTime p0))], []⟩) (c := True ∧ True) (by kernel_rfl) ⟨trivial, trivial⟩ ?_
  refine At.le [] (fun k hk => by cases hk) ⟨[(6, cD (.fn 44 [.cptr [u6 p1.epoch, u6 p1.loop.1, u6 p1.loop.2]])), (3, .c (.eptr [u6 p1.epoch, u6 p1.loop.1, u6 p1.loop.2])), (5, .c (wC 3 encTime p0))], []⟩ ⟨⟨_, rfl, .refl _⟩, ⟨_, rfl, .c (.cptrE _)⟩, ⟨_, rfl, .refl _⟩, trivial⟩ trivial ?_
  obtain ⟨r1, hr1, h⟩ := bind_elim h
  refine At.callA (caps := []) (xs := [.c (wC 3 encTime p0), cD (.fn 44 [.cptr [u6 p1.epoch, u6 p1.loop.1, u6 p1.loop.2]])]) (slices_ContainsFuncfreshet_api_Time_freshet_api_Time_Time__Beyond_1_ok_v0 hr1) rfl rfl rfl rfl rfl rfl (.cons (.refl _) (.cons (.refl _) .nil)) rfl rfl ?_
  refine At.seg 1 [4] [] (s' := ⟨[(4, cD (.bool r1))], []⟩) (c := True ∧ True) (by kernel_rfl) ⟨trivial, trivial⟩ ?_
  refine At.done rfl ?_
  show Tri _ _ _ _
  refine Tri.keep [4] [] (s' := ⟨[(4, cD (.bool r1))], []⟩) (by kernel_rfl) ?_
  refine Tri.ret ?_
  cases h
  refine ⟨_, _, rfl, ⟨trivial, trivial⟩, rfl, rfl, ?_⟩
  intro k c h
  cases h

set_option maxRecDepth 100000 in
theorem moment_Front_ok {fuel : Nat} {p0 : List Time} {q : List Time} (h : moment_Front fuel p0 = some q) :
    Summ Try.prog 27 [cD (lD 3 encTime p0)] [] (cD (lD 3 encTime q)) [] := by
  refine Summ.intro Try.func27 rfl (by kernel_rfl) (by kernel_rfl) [] rfl ?_
  rintro ⟨P, w0, G0, V, LL, lk, N, φ0, fx⟩ rfl rfl rfl rfl
  unfold moment_Front at h
  refine Tri.seqS ?_
  refine Tri.reg ?_
  refine At.seg 1 [0] [] (s' := ⟨[(0, cD (lD 3 encTime p0))], []⟩) (c := True ∧ True) (by kernel_rfl) ⟨trivial, trivial⟩ ?_
  refine At.done rfl ?_
  show Tri _ _ _ _
  refine Tri.seqS ?_
  refine Tri.reg ?_
  refine At.seg 1 [6] [] (s' := ⟨[(6, cD (lD 3 encTime p0))], []⟩) (c := True ∧ True) (by kernel_rfl) ⟨trivial, trivial⟩ ?_
  obtain ⟨r1, hr1, h⟩ := bind_elim h
  refine At.callL (nf := 0) (caps := []) (xs := [cD (lD 3 encTime p0)]) [(6000, 30028)] [] [] (s0 := ⟨[], []⟩) (slices_Clonefreshet_api_Time_freshet_api_Time_Time_ok_o hr1) rfl rfl (by kernel_rfl) rfl (by kernel_rfl) (by kernel_rfl) (.flat (.refl _) rfl rfl .nil) trivial (by kernel_rfl) (by kernel_rfl) (by kernel_rfl) (by kernel_rfl) (by kernel_rfl) (by kernel_rfl) (by kernel_rfl) (by kernel_rfl) (by kernel_rfl) ⟨[(7, .c (oC 30028 3 r1))], [(30028, vL 3 encTime r1)]⟩ (by kernel_rfl) ?_
  refine At.seg 1 [0] [30028] (s' := ⟨[(0, .c (oC 30028 3 r1))], [(30028, vL 3 encTime r1)]⟩) (c := True ∧ True) (by kernel_rfl) ⟨trivial, trivial⟩ ?_
  refine At.done rfl ?_
  show Tri _ _ _ _
  refine Tri.seqS ?_
  refine Tri.reg ?_
  refine At.seg 1 [0, 8] [30028] (s' := ⟨[(0, .c (oC 30028 3 r1)), (8, .c (oC 30028 3 r1))], [(30028, vL 3 encTime r1)]⟩) (c := True ∧ True) (by kernel_rfl) ⟨trivial, trivial⟩ ?_
  obtain ⟨r2, hr2, h⟩ := bind_elim h
  refine At.callL (nf := 0) (caps := []) (xs := [.c (oC 30028 3 r1), cD (.fn 20 [])]) [(5000, 30028)] [0] [] (s0 := ⟨[(0, .c (oC 30028 3 r1))], []⟩) (slices_SortFuncfreshet_api_Time_freshet_api_Time_Time__Compare_w_ok hr2) rfl rfl (by kernel_rfl) rfl (by kernel_rfl) (by kernel_rfl) (.ren rfl rfl (.flat (.refl _) rfl rfl .nil)) ⟨⟨by kernel_rfl, by kernel_rfl⟩, trivial⟩ (by kernel_rfl) (by kernel_rfl) (by kernel_rfl) (by kernel_rfl) (by kernel_rfl) (by kernel_rfl) (by kernel_rfl) (by kernel_rfl) (by kernel_rfl) ⟨[(9, .tup []), (0, .c (oC 30028 3 r1))], [(30028, vL 3 encTime r2)]⟩ (by kernel_rfl) ?_
  obtain ⟨hc3, h⟩ := need_elim h
  refine At.eqS ⟨[(9, .tup []), (0, .c (oC 30028 3 r2))], [(30028, vL 3 encTime r2)]⟩ (by simp only [oC, vL, hc3]) ?_
  refine At.done rfl ?_
  show Tri _ _ _ _
  refine Tri.seqS ?_
  refine Tri.reg ?_
  refine At.seg 1 [0, 3] [30028] (s' := ⟨[(0, .c (oC 30028 3 r2)), (3, .c (.zero))], [(30028, vL 3 encTime r2)]⟩) (c := True ∧ True) (by kernel_rfl) ⟨trivial, trivial⟩ ?_
  refine At.done rfl ?_
  show Tri _ _ _ _
  refine Tri.seqS ?_
  refine Tri.seqS ?_
  refine Tri.reg ?_
  refine At.seg 3 [3, 10, 11, 12] [30028] (s' := ⟨[(3, .c (.zero)), (10, .c (oC 30028 3 r2)), (11, cD (i6 (r2.length : Int))), (12, cD (i6 0))], [(30028, vL 3 encTime r2)]⟩) (c := True ∧ True ∧ True ∧ True) (by kernel_rfl) ⟨trivial, trivial, trivial, trivial⟩ ?_
  refine At.done rfl ?_
  show Tri _ _ _ _
  refine Tri.lenOfO (t := 10) rfl rfl (Nat.le_refl _) fun hlena5 => ?_
  refine Tri.newOwn (t := 3) (k := 1003) (es := 3) (fun i => encTime (([] : List Time).getD i default)) rfl rfl rfl ?_
  refine Tri.keep [12, 3, 10, 11] [1003, 30028] (s' := idx 12 0 ⟨[(3, .c (oC 1003 3 ([] : List Time))), (10, .c (oC 30028 3 r2)), (11, cD (i6 (r2.length : Int)))], [(1003, vL 3 encTime ([] : List Time)), (30028, vL 3 encTime r2)]⟩) (by kernel_rfl) ?_
  refine Tri.range (n := r2.length) (st0 := ([] : List Time)) (fun (x : Empty) s => False) (fun (a5 : List Time) => ⟨[(3, .c (oC 1003 3 a5)), (10, .c (oC 30028 3 r2)), (11, cD (i6 (r2.length : Int)))], [(1003, vL 3 encTime a5), (30028, vL 3 encTime r2)]⟩) (fun (a5 : List Time) => ⟨[(3, .c (oC 1003 3 a5)), (10, .c (oC 30028 3 r2)), (11, cD (i6 (r2.length : Int)))], [(1003, vL 3 encTime a5), (30028, vL 3 encTime r2)]⟩) (fun i => decide ((i : Int) < (r2.length : Int))) [13, 12, 3, 10, 11] [1003, 30028] [3, 10, 11] [1003, 30028] [12, 3, 10, 11] [1003, 30028] h hlena5 rfl ?_ ?_ ?_ ?_ ?_ ?_ ?_ ?_
  · exact fun i a => ⟨True ∧ True, by kernel_rfl, ⟨trivial, trivial⟩⟩
  · exact fun i hi => decide_eq_true (by omega)
  · exact decide_eq_false (by omega)
  · exact fun a => by kernel_rfl
  · exact fun i a => ⟨True ∧ True ∧ True, by kernel_rfl, ⟨trivial, trivial, trivial⟩⟩
  ·intro i4 a5 c hii4 h
   refine Tri.seqS ?_
   refine Tri.reg ?_
   obtain ⟨hc7, h⟩ := need_elim h
   refine At.seg 4 [3, 5, 10, 11, 12] [5, 1003, 30028] (s' := ⟨[(3, .c (oC 1003 3 a5)), (5, .c (.ptr 5 0)), (10, .c (oC 30028 3 r2)), (11, cD (i6 (r2.length : Int))), (12, cD (i6 ((i4 : Nat) : Int)))], [(5, .box (cTime (r2.getD (0 + i4) default))), (1003, vL 3 encTime a5), (30028, vL 3 encTime r2)]⟩) (c := ((0 : Int) ≤ ((i4 : Nat) : Int) ∧ ((i4 : Nat) : Int) < (r2.length : Int)) ∧ ((0 + i4) < r2.length) ∧ True ∧ True ∧ True) (by kernel_rfl) ⟨⟨by omega, by omega⟩, hc7, trivial, trivial, trivial⟩ ?_
   refine At.done rfl ?_
   show Tri _ _ _ _
   refine Tri.seqS ?_
   refine Tri.reg ?_
   refine At.seg 2 [3, 5, 10, 11, 12, 16, 17] [5, 1003, 30028] (s' := ⟨[(3, .c (oC 1003 3 a5)), (5, .c (.ptr 5 0)), (10, .c (oC 30028 3 r2)), (11, cD (i6 (r2.length : Int))), (12, cD (i6 ((i4 : Nat) : Int))), (16, .c (oC 1003 3 a5)), (17, .agg (cTime (r2.getD (0 + i4) default)))], [(5, .box (cTime (r2.getD (0 + i4) default))), (1003, vL 3 encTime a5), (30028, vL 3 encTime r2)]⟩) (c := True ∧ True ∧ True) (by kernel_rfl) ⟨trivial, trivial, trivial⟩ ?_
   obtain ⟨r8, hr8, h⟩ := bind_elim h
   refine At.callA (caps := []) (xs := [.c (oC 1003 3 a5), .agg (cTime (r2.getD (0 + i4) default))]) (moment_Beyond_ok_v0 hr8) rfl rfl rfl rfl rfl rfl (.cons (AVArg.view (encTime) a5 rfl) (.cons (.refl _) .nil)) rfl rfl ?_
   refine At.seg 1 [3, 5, 10, 11, 12, 19] [5, 1003, 30028] (s' := ⟨[(3, .c (oC 1003 3 a5)), (5, .c (.ptr 5 0)), (10, .c (oC 30028 3 r2)), (11, cD (i6 (r2.length : Int))), (12, cD (i6 ((i4 : Nat) : Int))), (19, cD (.bool (!r8)))], [(5, .box (cTime (r2.getD (0 + i4) default))), (1003, vL 3 encTime a5), (30028, vL 3 encTime r2)]⟩) (c := True ∧ True) (by kernel_rfl) ⟨trivial, trivial⟩ ?_
   refine At.done rfl ?_
   show Tri _ _ _ _
   refine Tri.condP (b := (!r8)) rfl h (fun h => ?_) (fun h => ?_)
   ·refine Tri.reg ?_
    refine At.seg 2 [10, 11, 12, 20, 21] [1003, 30028] (s' := ⟨[(10, .c (oC 30028 3 r2)), (11, cD (i6 (r2.length : Int))), (12, cD (i6 ((i4 : Nat) : Int))), (20, .c (oC 1003 3 a5)), (21, .agg (cTime (r2.getD (0 + i4) default)))], [(1003, vL 3 encTime a5), (30028, vL 3 encTime r2)]⟩) (c := True ∧ True ∧ True) (by kernel_rfl) ⟨trivial, trivial, trivial⟩ ?_
    refine At.one rfl (One.buildSlice (z := [.d (u6 0), .d (u6 0), .d (u6 0)]) (cells := [.d (u6 ((r2.getD (0 + i4) default).epoch)), .d (u6 ((r2.getD (0 + i4) default).loop.1)), .d (u6 ((r2.getD (0 + i4) default).loop.2))]) (xs := List.map (encTime) ([(r2.getD (0 + i4) default)] : List Time)) rfl rfl rfl rfl (by kernel_rfl) rfl rfl (by kernel_rfl) rfl rfl rfl (by kernel_rfl) rfl ⟨⟨rfl, .refl _⟩, trivial⟩) ?_
    refine At.le [22] (fun k hk h => by first | (cases h; done) | (simp at hk h; omega)) ⟨[(22, cD (lD 3 encTime ([(r2.getD (0 + i4) default)] : List Time))), (10, .c (oC 30028 3 r2)), (11, cD (i6 (r2.length : Int))), (12, cD (i6 ((i4 : Nat) : Int))), (20, .c (oC 1003 3 a5)), (21, .agg (cTime (r2.getD (0 + i4) default)))], [(1003, vL 3 encTime a5), (30028, vL 3 encTime r2)]⟩ ⟨⟨_, rfl, .c (.own rfl (List.mem_singleton.2 rfl) (Nat.le_of_ble_eq_true rfl) rfl (encs_getD (encTime) ([(r2.getD (0 + i4) default)] : List Time)))⟩, ⟨_, rfl, .refl _⟩, ⟨_, rfl, .refl _⟩, ⟨_, rfl, .refl _⟩, ⟨_, rfl, .refl _⟩, ⟨_, rfl, .refl _⟩, trivial⟩ ⟨⟨_, rfl, .refl _, (by simp)⟩, ⟨_, rfl, .refl _, (by simp)⟩, trivial⟩ ?_
    obtain ⟨hc9, h⟩ := need_elim h
    refine At.one rfl (One.appendT (e := 27) (es := 3) (encTime) a5 ([(r2.getD (0 + i4) default)] : List Time) rfl rfl rfl rfl rfl (.of 27 24 [.d (u6 0), .d (u6 0), .d (u6 0)] (by kernel_rfl) (by kernel_rfl) (by kernel_rfl) (by kernel_rfl) rfl (by kernel_rfl) rfl) rfl rfl rfl (.list rfl (fun _ _ => rfl)) hc9) ?_
    refine At.seg 1 [12, 3, 10, 11] [1003, 30028] (s' := ⟨[(12, cD (i6 ((i4 : Nat) : Int))), (3, .c (oC 1003 3 (a5 ++ ([(r2.getD (0 + i4) default)] : List Time)))), (10, .c (oC 30028 3 r2)), (11, cD (i6 (r2.length : Int)))], [(1003, vL 3 encTime (a5 ++ ([(r2.getD (0 + i4) default)] : List Time))), (30028, vL 3 encTime r2)]⟩) (c := True ∧ True) (by kernel_rfl) ⟨trivial, trivial⟩ ?_
    refine At.done rfl ?_
    cases h
    exact rfl
   ·refine Tri.keep [12, 3, 10, 11] [1003, 30028] (s' := ⟨[(12, cD (i6 ((i4 : Nat) : Int))), (3, .c (oC 1003 3 a5)), (10, .c (oC 30028 3 r2)), (11, cD (i6 (r2.length : Int)))], [(1003, vL 3 encTime a5), (30028, vL 3 encTime r2)]⟩) (by kernel_rfl) ?_
    refine Tri.skip ?_
    cases h
    exact rfl
  ·intro a6 h
   show Tri _ _ _ _
   refine Tri.seqS ?_
   refine Tri.reg ?_
   refine At.seg 2 [2] [1003] (s' := ⟨[(2, .c (oC 1003 3 a6))], [(1003, vL 3 encTime a6)]⟩) (c := True ∧ True ∧ True) (by kernel_rfl) ⟨trivial, trivial, trivial⟩ ?_
   refine At.done rfl ?_
   show Tri _ _ _ _
   refine Tri.keep [2] [1003] (s' := ⟨[(2, .c (oC 1003 3 a6))], [(1003, vL 3 encTime a6)]⟩) (by kernel_rfl) ?_
   refine Tri.le [1003] (fun k hk h => by first | (cases h; done) | (simp at hk h; omega)) ⟨[(2, cD (lD 3 encTime a6))], []⟩ ⟨⟨_, rfl, .c (CLe.frozen (encTime) a6 rfl (by simp))⟩, trivial⟩ trivial ?_
   refine Tri.ret ?_
   cases h
   refine ⟨_, _, rfl, ⟨trivial, trivial⟩, rfl, rfl, ?_⟩
   intro k c h
   cases h
  · exact fun x => x.elim

set_option maxRecDepth 100000 in
theorem moment_fold__greatest_ok {p1 : List Time} {q : Time} (h : moment_fold__greatest p1 = some q) :
    Summ Try.prog 34 [cD (.fn 35 []), cD (lD 3 encTime p1)] [] (.agg (cTime q)) [] := by
  refine Summ.intro Try.func34 rfl (by kernel_rfl) (by kernel_rfl) [] rfl ?_
  rintro ⟨P, w0, G0, V, LL, lk, N, φ0, fx⟩ rfl rfl rfl rfl
  unfold moment_fold__greatest at h
  refine Tri.seqS ?_
  refine Tri.reg ?_
  refine At.seg 1 [0, 1, 4] [4] (s' := ⟨[(0, cD (.fn 35 [])), (1, cD (lD 3 encTime p1)), (4, .c (.ptr 4 0))], [(4, .box [.d (u6 0), .d (u6 0), .d (u6 0)])]⟩) (c := True ∧ True) (by kernel_rfl) ⟨trivial, trivial⟩ ?_
  refine At.done rfl ?_
  show Tri _ _ _ _
  refine Tri.seqS ?_
  refine Tri.seqS ?_
  refine Tri.reg ?_
  refine At.seg 3 [0, 4, 8, 9, 10] [4] (s' := ⟨[(0, cD (.fn 35 [])), (4, .c (.ptr 4 0)), (8, cD (lD 3 encTime p1)), (9, cD (i6 (p1.length : Int))), (10, cD (i6 0))], [(4, .box [.d (u6 0), .d (u6 0), .d (u6 0)])]⟩) (c := True ∧ True ∧ True ∧ True) (by kernel_rfl) ⟨trivial, trivial, trivial, trivial⟩ ?_
  refine At.done rfl ?_
  show Tri _ _ _ _
  refine Tri.lenOf (t := 8) rfl fun hlena2 => ?_
  refine Tri.keep [10, 0, 4, 8, 9] [4] (s' := idx 10 0 ⟨[(0, cD (.fn 35 [])), (4, .c (.ptr 4 0)), (8, cD (lD 3 encTime p1)), (9, cD (i6 (p1.length : Int)))], [(4, .box (cTime (⟨0, (0, 0)⟩ : Time)))]⟩) (by kernel_rfl) ?_
  refine Tri.range (n := p1.length) (st0 := (⟨0, (0, 0)⟩ : Time)) (fun (x : Empty) s => False) (fun (a2 : Time) => ⟨[(0, cD (.fn 35 [])), (4, .c (.ptr 4 0)), (8, cD (lD 3 encTime p1)), (9, cD (i6 (p1.length : Int)))], [(4, .box (cTime a2))]⟩) (fun (a2 : Time) => ⟨[(0, cD (.fn 35 [])), (4, .c (.ptr 4 0)), (8, cD (lD 3 encTime p1)), (9, cD (i6 (p1.length : Int)))], [(4, .box (cTime a2))]⟩) (fun i => decide ((i : Int) < (p1.length : Int))) [11, 10, 0, 4, 8, 9] [4] [0, 4, 8, 9] [4] [10, 0, 4, 8, 9] [4] h hlena2 rfl ?_ ?_ ?_ ?_ ?_ ?_ ?_ ?_
  · exact fun i a => ⟨True ∧ True, by kernel_rfl, ⟨trivial, trivial⟩⟩
  · exact fun i hi => decide_eq_true (by omega)
  · exact decide_eq_false (by omega)
  · exact fun a => by kernel_rfl
  · exact fun i a => ⟨True ∧ True ∧ True, by kernel_rfl, ⟨trivial, trivial, trivial⟩⟩
  ·intro i1 a2 c hii1 h
   refine Tri.seqS ?_
   refine Tri.reg ?_
   refine At.seg 6 [0, 4, 5, 6, 8, 9, 10] [4, 6] (s' := ⟨[(0, cD (.fn 35 [])), (4, .c (.ptr 4 0)), (5, cD (i6 ((i1 : Nat) : Int))), (6, .c (.ptr 6 0)), (8, cD (lD 3 encTime p1)), (9, cD (i6 (p1.length : Int))), (10, cD (i6 ((i1 : Nat) : Int)))], [(4, .box (cTime a2)), (6, .box (cTime (p1.getD i1 default)))]⟩) (c := True ∧ ((0 : Int) ≤ ((i1 : Nat) : Int) ∧ ((i1 : Nat) : Int) < (p1.length : Int)) ∧ True ∧ True ∧ True ∧ True ∧ True) (by kernel_rfl) ⟨trivial, ⟨by omega, by omega⟩, trivial, trivial, trivial, trivial, trivial⟩ ?_
   refine At.done rfl ?_
   show Tri _ _ _ _
   refine Tri.seqJ (fun (a4 : Time) => ⟨[(0, cD (.fn 35 [])), (4, .c (.ptr 4 0)), (6, .c (.ptr 6 0)), (8, cD (lD 3 encTime p1)), (9, cD (i6 (p1.length : Int))), (10, cD (i6 ((i1 : Nat) : Int)))], [(4, .box (cTime a4)), (6, .box (cTime (p1.getD i1 default)))]⟩) h (fun a4 h => ?_) (fun j5 h => ?_)
   ·show Tri _ _ ⟨[(0, cD (.fn 35 [])), (4, .c (.ptr 4 0)), (6, .c (.ptr 6 0)), (8, cD (lD 3 encTime p1)), (9, cD (i6 (p1.length : Int))), (10, cD (i6 ((i1 : Nat) : Int)))], [(4, .box (cTime a4)), (6, .box (cTime (p1.getD i1 default)))]⟩ _
    refine Tri.seqS ?_
    refine Tri.reg ?_
    refine At.seg 5 [0, 4, 6, 8, 9, 10, 18, 20, 22] [4, 6] (s' := ⟨[(0, cD (.fn 35 [])), (4, .c (.ptr 4 0)), (6, .c (.ptr 6 0)), (8, cD (lD 3 encTime p1)), (9, cD (i6 (p1.length : Int))), (10, cD (i6 ((i1 : Nat) : Int))), (18, cD (.fn 35 [])), (20, cD (u6 a4.epoch)), (22, cD (u6 ((p1.getD i1 default).epoch)))], [(4, .box (cTime a4)), (6, .box (cTime (p1.getD i1 default)))]⟩) (c := True ∧ True ∧ True ∧ True ∧ True ∧ True) (by kernel_rfl) ⟨trivial, trivial, trivial, trivial, trivial, trivial⟩ ?_
    obtain ⟨r6, hr6, h⟩ := bind_elim h
    refine At.callA (caps := []) (xs := [cD (u6 a4.epoch), cD (u6 ((p1.getD i1 default).epoch))]) (moment_greatest_ok hr6) rfl rfl rfl rfl rfl rfl (.cons (.refl _) (.cons (.refl _) .nil)) rfl rfl ?_
    refine At.seg 2 [0, 4, 6, 8, 9, 10] [4, 6] (s' := ⟨[(0, cD (.fn 35 [])), (4, .c (.ptr 4 0)), (6, .c (.ptr 6 0)), (8, cD (lD 3 encTime p1)), (9, cD (i6 (p1.length : Int))), (10, cD (i6 ((i1 : Nat) : Int)))], [(4, .box [.d (u6 r6), .d (u6 a4.loop.1), .d (u6 a4.loop.2)]), (6, .box (cTime (p1.getD i1 default)))]⟩) (c := True ∧ True ∧ True) (by kernel_rfl) ⟨trivial, trivial, trivial⟩ ?_
    refine At.done rfl ?_
    show Tri _ _ _ _
    refine Tri.seqS ?_
    refine Tri.reg ?_
    refine At.seg 1 [0, 4, 6, 8, 9, 10, 25] [4, 6] (s' := ⟨[(0, cD (.fn 35 [])), (4, .c (.ptr 4 0)), (6, .c (.ptr 6 0)), (8, cD (lD 3 encTime p1)), (9, cD (i6 (p1.length : Int))), (10, cD (i6 ((i1 : Nat) : Int))), (25, cD (i6 0))], [(4, .box [.d (u6 r6), .d (u6 a4.loop.1), .d (u6 a4.loop.2)]), (6, .box (cTime (p1.getD i1 default)))]⟩) (c := True ∧ True) (by kernel_rfl) ⟨trivial, trivial⟩ ?_
    refine At.done rfl ?_
    show Tri _ _ _ _
    refine Tri.keep [25, 0, 4, 6, 8, 9, 10] [4, 6] (s' := idx 25 0 ⟨[(0, cD (.fn 35 [])), (4, .c (.ptr 4 0)), (6, .c (.ptr 6 0)), (8, cD (lD 3 encTime p1)), (9, cD (i6 (p1.length : Int))), (10, cD (i6 ((i1 : Nat) : Int)))], [(4, .box (cTime (⟨r6, a4.loop⟩ : Time))), (6, .box (cTime (p1.getD i1 default)))]⟩) (by kernel_rfl) ?_
    refine Tri.range (n := 2) (st0 := (⟨r6, a4.loop⟩ : Time)) (fun (x : Empty) s => False) (fun (a8 : Time) => ⟨[(0, cD (.fn 35 [])), (4, .c (.ptr 4 0)), (6, .c (.ptr 6 0)), (8, cD (lD 3 encTime p1)), (9, cD (i6 (p1.length : Int))), (10, cD (i6 ((i1 : Nat) : Int)))], [(4, .box (cTime a8)), (6, .box (cTime (p1.getD i1 default)))]⟩) (fun (a8 : Time) => ⟨[(10, cD (i6 ((i1 : Nat) : Int))), (0, cD (.fn 35 [])), (4, .c (.ptr 4 0)), (8, cD (lD 3 encTime p1)), (9, cD (i6 (p1.length : Int)))], [(4, .box (cTime a8))]⟩) (fun i => decide ((i : Int) < (2 : Int))) [26, 25, 0, 4, 6, 8, 9, 10] [4, 6] [10, 0, 4, 8, 9] [4] [25, 0, 4, 6, 8, 9, 10] [4, 6] h (by unfold maxN; omega) rfl ?_ ?_ ?_ ?_ ?_ ?_ ?_ ?_
    · exact fun i a => ⟨True ∧ True, by kernel_rfl, ⟨trivial, trivial⟩⟩
    · exact fun i hi => decide_eq_true (by omega)
    · exact decide_eq_false (by omega)
    · exact fun a => by kernel_rfl
    · exact fun i a => ⟨True ∧ True ∧ True, by kernel_rfl, ⟨trivial, trivial, trivial⟩⟩
    ·intro i7 a8 c hii7 h
     rcases i7 with _ | i7
     ·refine Tri.seqS ?_
      refine Tri.reg ?_
      refine At.seg 2 [0, 4, 6, 7, 8, 9, 10, 25] [4, 6] (s' := ⟨[(0, cD (.fn 35 [])), (4, .c (.ptr 4 0)), (6, .c (.ptr 6 0)), (7, cD (i6 ((0 : Nat) : Int))), (8, cD (lD 3 encTime p1)), (9, cD (i6 (p1.length : Int))), (10, cD (i6 ((i1 : Nat) : Int))), (25, cD (i6 ((0 : Nat) : Int)))], [(4, .box (cTime a8)), (6, .box (cTime (p1.getD i1 default)))]⟩) (c := True ∧ True ∧ True) (by kernel_rfl) ⟨trivial, trivial, trivial⟩ ?_
      refine At.done rfl ?_
      show Tri _ _ _ _
      obtain ⟨r10, hr10, h⟩ := bind_elim h
      refine Tri.drawn (specs := [⟨⟨[(7, cD (i6 ((0 : Nat) : Int)))], []⟩, ⟨[(28, cD (i6 ((0 : Nat) : Int)))], []⟩, [], [], []⟩, ⟨⟨[(0, cD (.fn 35 []))], []⟩, ⟨[(29, cD (.fn 35 []))], []⟩, [], [], []⟩, ⟨⟨[(7, cD (i6 ((0 : Nat) : Int)))], []⟩, ⟨[(30, cD (i6 ((0 : Nat) : Int)))], []⟩, [], [], []⟩, ⟨⟨[(4, .c (.ptr 4 0))], []⟩, ⟨[(31, .c (.ptr 4 1))], []⟩, [], [], []⟩, ⟨⟨[(30, cD (i6 ((0 : Nat) : Int))), (31, .c (.ptr 4 1))], [(4, .box (cTime a8))]⟩, ⟨[(32, .c (.ptr 4 1))], []⟩, [], [], []⟩, ⟨⟨[(32, .c (.ptr 4 1))], [(4, .box (cTime a8))]⟩, ⟨[(33, cD (u6 a8.loop.1))], []⟩, [], [], []⟩, ⟨⟨[(7, cD (i6 ((0 : Nat) : Int)))], []⟩, ⟨[(34, cD (i6 ((0 : Nat) : Int)))], []⟩, [], [], []⟩, ⟨⟨[(6, .c (.ptr 6 0))], []⟩, ⟨[(35, .c (.ptr 6 1))], []⟩, [], [], []⟩, ⟨⟨[(34, cD (i6 ((0 : Nat) : Int))), (35, .c (.ptr 6 1))], [(6, .box (cTime (p1.getD i1 default)))]⟩, ⟨[(36, .c (.ptr 6 1))], []⟩, [], [], []⟩, ⟨⟨[(36, .c (.ptr 6 1))], [(6, .box (cTime (p1.getD i1 default)))]⟩, ⟨[(37, cD (u6 ((p1.getD i1 default).loop.1)))], []⟩, [], [], []⟩, ⟨⟨[(29, cD (.fn 35 [])), (33, cD (u6 a8.loop.1)), (37, cD (u6 ((p1.getD i1 default).loop.1)))], []⟩, ⟨[(38, cD (u6 r10))], []⟩, [], [], []⟩, ⟨⟨[(4, .c (.ptr 4 0))], []⟩, ⟨[(39, .c (.ptr 4 1))], []⟩, [], [], []⟩, ⟨⟨[(28, cD (i6 ((0 : Nat) : Int))), (39, .c (.ptr 4 1))], [(4, .box (cTime a8))]⟩, ⟨[(40, .c (.ptr 4 1))], []⟩, [], [], []⟩, ⟨⟨[(38, cD (u6 r10)), (40, .c (.ptr 4 1))], [(4, .box (cTime a8))]⟩, ⟨[], [(4, .box [.d (u6 a8.epoch), .d (u6 r10), .d (u6 a8.loop.2)])]⟩, [], [], []⟩]) (bef := [[], [], [], [], [2, 3], [2, 3, 4], [], [], [6, 7], [6, 7, 8], [1, 2, 3, 4, 5, 6, 7, 8, 9], [], [0, 1, 2, 3, 4, 5, 6, 7, 8, 9, 10, 11], [0, 1, 2, 3, 4, 5, 6, 7, 8, 9, 10, 11, 12]]) (tk := [25, 0, 4, 6, 8, 9, 10]) (sk := [4, 6]) (s' := ⟨[(25, cD (i6 ((0 : Nat) : Int))), (0, cD (.fn 35 [])), (4, .c (.ptr 4 0)), (6, .c (.ptr 6 0)), (8, cD (lD 3 encTime p1)), (9, cD (i6 (p1.length : Int))), (10, cD (i6 ((i1 : Nat) : Int)))], [(4, .box [.d (u6 a8.epoch), .d (u6 r10), .d (u6 a8.loop.2)]), (6, .box (cTime (p1.getD i1 default)))]⟩) (by kernel_rfl) (by kernel_rfl) (by kernel_rfl) ⟨?_, ?_, ?_, ?_, ?_, ?_, ?_, ?_, ?_, ?_, ?_, ?_, ?_, ?_, trivial⟩ (by kernel_rfl) ?_
      · exact DOk.t rfl rfl (by kernel_rfl) (by kernel_rfl)
      · exact DOk.t rfl rfl (by kernel_rfl) (by kernel_rfl)
      · exact DOk.t rfl rfl (by kernel_rfl) (by kernel_rfl)
      · exact DOk.t rfl rfl (by kernel_rfl) (by kernel_rfl)
      · exact DOk.t rfl rfl (by kernel_rfl) (by kernel_rfl)
      · exact DOk.t rfl rfl (by kernel_rfl) (by kernel_rfl)
      · exact DOk.t rfl rfl (by kernel_rfl) (by kernel_rfl)
      · exact DOk.t rfl rfl (by kernel_rfl) (by kernel_rfl)
      · exact DOk.t rfl rfl (by kernel_rfl) (by kernel_rfl)
      · exact DOk.t rfl rfl (by kernel_rfl) (by kernel_rfl)
      · exact DOk.callA (caps := []) (xs := [cD (u6 a8.loop.1), cD (u6 ((p1.getD i1 default).loop.1))]) (moment_greatest_ok hr10) rfl (fun r => by kernel_rfl) rfl (fun r => by kernel_rfl) (fun r => by kernel_rfl) (fun r => (.cons (.refl _) (.cons (.refl _) .nil))) rfl rfl (fun r => rfl)
      · exact DOk.t rfl rfl (by kernel_rfl) (by kernel_rfl)
      · exact DOk.t rfl rfl (by kernel_rfl) (by kernel_rfl)
      · exact DOk.step (.turn 4 (.box [.d (u6 a8.epoch), .d (u6 r10), .d (u6 a8.loop.2)])) (fun r => by kernel_rfl) (fun r => by kernel_rfl) trivial (by kernel_rfl) (by kernel_rfl) (fun r => rfl)
      cases h
      exact rfl
     rcases i7 with _ | i7
     ·refine Tri.seqS ?_
      refine Tri.reg ?_
      refine At.seg 2 [0, 4, 6, 7, 8, 9, 10, 25] [4, 6] (s' := ⟨[(0, cD (.fn 35 [])), (4, .c (.ptr 4 0)), (6, .c (.ptr 6 0)), (7, cD (i6 ((1 : Nat) : Int))), (8, cD (lD 3 encTime p1)), (9, cD (i6 (p1.length : Int))), (10, cD (i6 ((i1 : Nat) : Int))), (25, cD (i6 ((1 : Nat) : Int)))], [(4, .box (cTime a8)), (6, .box (cTime (p1.getD i1 default)))]⟩) (c := True ∧ True ∧ True) (by kernel_rfl) ⟨trivial, trivial, trivial⟩ ?_
      refine At.done rfl ?_
      show Tri _ _ _ _
      obtain ⟨r11, hr11, h⟩ := bind_elim h
      refine Tri.drawn (specs := [⟨⟨[(7, cD (i6 ((1 : Nat) : Int)))], []⟩, ⟨[(28, cD (i6 ((1 : Nat) : Int)))], []⟩, [], [], []⟩, ⟨⟨[(0, cD (.fn 35 []))], []⟩, ⟨[(29, cD (.fn 35 []))], []⟩, [], [], []⟩, ⟨⟨[(7, cD (i6 ((1 : Nat) : Int)))], []⟩, ⟨[(30, cD (i6 ((1 : Nat) : Int)))], []⟩, [], [], []⟩, ⟨⟨[(4, .c (.ptr 4 0))], []⟩, ⟨[(31, .c (.ptr 4 1))], []⟩, [], [], []⟩, ⟨⟨[(30, cD (i6 ((1 : Nat) : Int))), (31, .c (.ptr 4 1))], [(4, .box (cTime a8))]⟩, ⟨[(32, .c (.ptr 4 2))], []⟩, [], [], []⟩, ⟨⟨[(32, .c (.ptr 4 2))], [(4, .box (cTime a8))]⟩, ⟨[(33, cD (u6 a8.loop.2))], []⟩, [], [], []⟩, ⟨⟨[(7, cD (i6 ((1 : Nat) : Int)))], []⟩, ⟨[(34, cD (i6 ((1 : Nat) : Int)))], []⟩, [], [], []⟩, ⟨⟨[(6, .c (.ptr 6 0))], []⟩, ⟨[(35, .c (.ptr 6 1))], []⟩, [], [], []⟩, ⟨⟨[(34, cD (i6 ((1 : Nat) : Int))), (35, .c (.ptr 6 1))], [(6, .box (cTime (p1.getD i1 default)))]⟩, ⟨[(36, .c (.ptr 6 2))], []⟩, [], [], []⟩, ⟨⟨[(36, .c (.ptr 6 2))], [(6, .box (cTime (p1.getD i1 default)))]⟩, ⟨[(37, cD (u6 ((p1.getD i1 default).loop.2)))], []⟩, [], [], []⟩, ⟨⟨[(29, cD (.fn 35 [])), (33, cD (u6 a8.loop.2)), (37, cD (u6 ((p1.getD i1 default).loop.2)))], []⟩, ⟨[(38, cD (u6 r11))], []⟩, [], [], []⟩, ⟨⟨[(4, .c (.ptr 4 0))], []⟩, ⟨[(39, .c (.ptr 4 1))], []⟩, [], [], []⟩, ⟨⟨[(28, cD (i6 ((1 : Nat) : Int))), (39, .c (.ptr 4 1))], [(4, .box (cTime a8))]⟩, ⟨[(40, .c (.ptr 4 2))], []⟩, [], [], []⟩, ⟨⟨[(38, cD (u6 r11)), (40, .c (.ptr 4 2))], [(4, .box (cTime a8))]⟩, ⟨[], [(4, .box [.d (u6 a8.epoch), .d (u6 a8.loop.1), .d (u6 r11)])]⟩, [], [], []⟩]) (bef := [[], [], [], [], [2, 3], [2, 3, 4], [], [], [6, 7], [6, 7, 8], [1, 2, 3, 4, 5, 6, 7, 8, 9], [], [0, 1, 2, 3, 4, 5, 6, 7, 8, 9, 10, 11], [0, 1, 2, 3, 4, 5, 6, 7, 8, 9, 10, 11, 12]]) (tk := [25, 0, 4, 6, 8, 9, 10]) (sk := [4, 6]) (s' := ⟨[(25, cD (i6 ((1 : Nat) : Int))), (0, cD (.fn 35 [])), (4, .c (.ptr 4 0)), (6, .c (.ptr 6 0)), (8, cD (lD 3 encTime p1)), (9, cD (i6 (p1.length : Int))), (10, cD (i6 ((i1 : Nat) : Int)))], [(4, .box [.d (u6 a8.epoch), .d (u6 a8.loop.1), .d (u6 r11)]), (6, .box (cTime (p1.getD i1 default)))]⟩) (by kernel_rfl) (by kernel_rfl) (by kernel_rfl) ⟨?_, ?_, ?_, ?_, ?_, ?_, ?_, ?_, ?_, ?_, ?_, ?_, ?_, ?_, trivial⟩ (by kernel_rfl) ?_
      · exact DOk.t rfl rfl (by kernel_rfl) (by kernel_rfl)
      · exact DOk.t rfl rfl (by kernel_rfl) (by kernel_rfl)
      · exact DOk.t rfl rfl (by kernel_rfl) (by kernel_rfl)
      · exact DOk.t rfl rfl (by kernel_rfl) (by kernel_rfl)
      · exact DOk.t rfl rfl (by kernel_rfl) (by kernel_rfl)
      · exact DOk.t rfl rfl (by kernel_rfl) (by kernel_rfl)
      · exact DOk.t rfl rfl (by kernel_rfl) (by kernel_rfl)
      · exact DOk.t rfl rfl (by kernel_rfl) (by kernel_rfl)
      · exact DOk.t rfl rfl (by kernel_rfl) (by kernel_rfl)
      · exact DOk.t rfl rfl (by kernel_rfl) (by kernel_rfl)
      · exact DOk.callA (caps := []) (xs := [cD (u6 a8.loop.2), cD (u6 ((p1.getD i1 default).loop.2))]) (moment_greatest_ok hr11) rfl (fun r => by kernel_rfl) rfl (fun r => by kernel_rfl) (fun r => by kernel_rfl) (fun r => (.cons (.refl _) (.cons (.refl _) .nil))) rfl rfl (fun r => rfl)
      · exact DOk.t rfl rfl (by kernel_rfl) (by kernel_rfl)
      · exact DOk.t rfl rfl (by kernel_rfl) (by kernel_rfl)
      · exact DOk.step (.turn 4 (.box [.d (u6 a8.epoch), .d (u6 a8.loop.1), .d (u6 r11)])) (fun r => by kernel_rfl) (fun r => by kernel_rfl) trivial (by kernel_rfl) (by kernel_rfl) (fun r => rfl)
      cases h
      exact rfl
     exact absurd hii7 (by omega)
    ·intro a9 h
     cases h
     exact rfl
    · exact fun x => x.elim
   ·refine Tri.seqS ?_
    refine Tri.reg ?_
    refine At.seg 2 [0, 4, 6, 8, 9, 10, 16] [4, 6] (s' := ⟨[(0, cD (.fn 35 [])), (4, .c (.ptr 4 0)), (6, .c (.ptr 6 0)), (8, cD (lD 3 encTime p1)), (9, cD (i6 (p1.length : Int))), (10, cD (i6 ((i1 : Nat) : Int))), (16, cD (.bool (decide (((i1 : Nat) : Int) = 0))))], [(4, .box (cTime a2)), (6, .box (cTime (p1.getD i1 default)))]⟩) (c := True ∧ True ∧ True) (by kernel_rfl) ⟨trivial, trivial, trivial⟩ ?_
    refine At.done rfl ?_
    show Tri _ _ _ _
    refine Tri.condP (b := (decide (((i1 : Nat) : Int) = 0))) rfl h (fun h => ?_) (fun h => ?_)
    ·refine Tri.reg ?_
     refine At.seg 2 [0, 4, 6, 8, 9, 10] [4, 6] (s' := ⟨[(0, cD (.fn 35 [])), (4, .c (.ptr 4 0)), (6, .c (.ptr 6 0)), (8, cD (lD 3 encTime p1)), (9, cD (i6 (p1.length : Int))), (10, cD (i6 ((i1 : Nat) : Int)))], [(4, .box (cTime (p1.getD i1 default))), (6, .box (cTime (p1.getD i1 default)))]⟩) (c := True ∧ True ∧ True) (by kernel_rfl) ⟨trivial, trivial, trivial⟩ ?_
     refine At.done rfl ?_
     exact ⟨_, h, rfl⟩
    ·refine Tri.keep [0, 4, 6, 8, 9, 10] [4, 6] (s' := ⟨[(0, cD (.fn 35 [])), (4, .c (.ptr 4 0)), (6, .c (.ptr 6 0)), (8, cD (lD 3 encTime p1)), (9, cD (i6 (p1.length : Int))), (10, cD (i6 ((i1 : Nat) : Int)))], [(4, .box (cTime a2)), (6, .box (cTime (p1.getD i1 default)))]⟩) (by kernel_rfl) ?_
     refine Tri.skip ?_
     exact ⟨_, h, rfl⟩
  ·intro a3 h
   show Tri _ _ _ _
   refine Tri.seqS ?_
   refine Tri.reg ?_
   refine At.seg 2 [4] [4] (s' := ⟨[(4, .c (.ptr 4 0))], [(4, .box (cTime a3))]⟩) (c := True ∧ True ∧ True) (by kernel_rfl) ⟨trivial, trivial, trivial⟩ ?_
   refine At.done rfl ?_
   show Tri _ _ _ _
   refine Tri.keep [4] [4] (s' := ⟨[(4, .c (.ptr 4 0))], [(4, .box (cTime a3))]⟩) (by kernel_rfl) ?_
   refine Tri.ret ?_
   cases h
   refine ⟨_, _, rfl, ⟨trivial, trivial⟩, rfl, rfl, ?_⟩
   intro k c h
   cases h
  · exact fun x => x.elim

set_option maxRecDepth 100000 in
theorem moment_Lub_ok {p0 : List Time} {q : Time} (h : moment_Lub p0 = some q) :
    Summ Try.prog 14 [cD (lD 3 encTime p0)] [] (.agg (cTime q)) [] := by
  refine Summ.intro Try.func14 rfl (by kernel_rfl) (by kernel_rfl) [] rfl ?_
  rintro ⟨P, w0, G0, V, LL, lk, N, φ0, fx⟩ rfl rfl rfl rfl
  unfold moment_Lub at h
  refine Tri.seqS ?_
  refine Tri.reg ?_
  refine At.seg 1 [0, 2] [2] (s' := ⟨[(0, cD (lD 3 encTime p0)), (2, .c (.ptr 2 0))], [(2, .box [.d (u6 0), .d (u6 0), .d (u6 0)])]⟩) (c := True ∧ True) (by kernel_rfl) ⟨trivial, trivial⟩ ?_
  refine At.done rfl ?_
  show Tri _ _ _ _
  refine Tri.seqS ?_
  refine Tri.reg ?_
  refine At.seg 1 [2, 3] [2] (s' := ⟨[(2, .c (.ptr 2 0)), (3, cD (lD 3 encTime p0))], [(2, .box [.d (u6 0), .d (u6 0), .d (u6 0)])]⟩) (c := True ∧ True) (by kernel_rfl) ⟨trivial, trivial⟩ ?_
  obtain ⟨r1, hr1, h⟩ := bind_elim h
  refine At.callA (caps := []) (xs := [cD (.fn 35 []), cD (lD 3 encTime p0)]) (moment_fold__greatest_ok hr1) rfl rfl rfl rfl rfl rfl (.cons (.refl _) (.cons (.refl _) .nil)) rfl rfl ?_
  refine At.seg 1 [2] [2] (s' := ⟨[(2, .c (.ptr 2 0))], [(2, .box (cTime r1))]⟩) (c := True ∧ True) (by kernel_rfl) ⟨trivial, trivial⟩ ?_
  refine At.done rfl ?_
  show Tri _ _ _ _
  refine Tri.keep [2] [2] (s' := ⟨[(2, .c (.ptr 2 0))], [(2, .box (cTime r1))]⟩) (by kernel_rfl) ?_
  refine Tri.ret ?_
  cases h
  refine ⟨_, _, rfl, ⟨trivial, trivial⟩, rfl, rfl, ?_⟩
  intro k c h
  cases h

set_option maxRecDepth 100000 in
theorem moment_least_ok {p0 : Int} {p1 : Int} {q : Int} (h : moment_least p0 p1 = some q) :
    Summ Try.prog 36 [cD (u6 p0), cD (u6 p1)] [] (cD (u6 q)) [] := by
  refine Summ.intro Try.func36 rfl (by kernel_rfl) (by kernel_rfl) [] rfl ?_
  rintro ⟨P, w0, G0, V, LL, lk, N, φ0, fx⟩ rfl rfl rfl rfl
  unfold moment_least at h
  refine Tri.seqS ?_
  refine Tri.reg ?_
  refine At.seg 1 [0, 1] [] (s' := ⟨[(0, cD (u6 p0)), (1, cD (u6 p1))], []⟩) (c := True ∧ True) (by kernel_rfl) ⟨trivial, trivial⟩ ?_
  refine At.done rfl ?_
  show Tri _ _ _ _
  refine Tri.seqS ?_
  refine Tri.reg ?_
  refine At.seg 4 [4] [] (s' := ⟨[(4, cD (u6 (if p1 < p0 then p1 else p0)))], []⟩) (c := True ∧ True ∧ True ∧ True ∧ True) (by kernel_rfl) ⟨trivial, trivial, trivial, trivial, trivial⟩ ?_
  refine At.done rfl ?_
  show Tri _ _ _ _
  refine Tri.keep [4] [] (s' := ⟨[(4, cD (u6 (if p1 < p0 then p1 else p0)))], []⟩) (by kernel_rfl) ?_
  refine Tri.ret ?_
  cases h
  refine ⟨_, _, rfl, ⟨trivial, trivial⟩, rfl, rfl, ?_⟩
  intro k c h
  cases h

set_option maxRecDepth 100000 in
theorem moment_fold__least_ok_v1 {p1 : List Time} {q : Time} (h : moment_fold__least p1 = some q) :
    Summ Try.prog 34 [cD (.fn 36 []), .c (wC 3 encTime p1)] [] (.agg (cTime q)) [] := by
  refine Summ.intro Try.func34 rfl (by kernel_rfl) (by kernel_rfl) [] rfl ?_
  rintro ⟨P, w0, G0, V, LL, lk, N, φ0, fx⟩ rfl rfl rfl rfl
  unfold moment_fold__least at h
  refine Tri.seqS ?_
  refine Tri.reg ?_
  refine At.seg 1 [0, 1, 4] [4] (s' := ⟨[(0, cD (.fn 36 [])), (1, .c (wC 3 encTime p1)), (4, .c (.ptr 4 0))], [(4, .box [.d (u6 0), .d (u6 0), .d (u6 0)])]⟩) (c := True ∧ True) (by kernel_rfl) ⟨trivial, trivial⟩ ?_
  refine At.done rfl ?_
  show Tri _ _ _ _
  refine Tri.seqS ?_
  refine Tri.seqS ?_
  refine Tri.reg ?_
  refine At.seg 3 [0, 4, 8, 9, 10] [4] (s' := ⟨[(0, cD (.fn 36 [])), (4, .c (.ptr 4 0)), (8, .c (wC 3 encTime p1)), (9, cD (i6 (p1.length : Int))), (10, cD (i6 0))], [(4, .box [.d (u6 0), .d (u6 0), .d (u6 0)])]⟩) (c := True ∧ True ∧ True ∧ True) (by kernel_rfl) ⟨trivial, trivial, trivial, trivial⟩ ?_
  refine At.done rfl ?_
  show Tri _ _ _ _
  refine Tri.lenOfV (t := 8) rfl fun hlena2 => ?_
  refine Tri.keep [10, 0, 4, 8, 9] [4] (s' := idx 10 0 ⟨[(0, cD (.fn 36 [])), (4, .c (.ptr 4 0)), (8, .c (wC 3 encTime p1)), (9, cD (i6 (p1.length : Int)))], [(4, .box (cTime (⟨0, (0, 0)⟩ : Time)))]⟩) (by kernel_rfl) ?_
  refine Tri.range (n := p1.length) (st0 := (⟨0, (0, 0)⟩ : Time)) (fun (x : Empty) s => False) (fun (a2 : Time) => ⟨[(0, cD (.fn 36 [])), (4, .c (.ptr 4 0)), (8, .c (wC 3 encTime p1)), (9, cD (i6 (p1.length : Int)))], [(4, .box (cTime a2))]⟩) (fun (a2 : Time) => ⟨[(0, cD (.fn 36 [])), (4, .c (.ptr 4 0)), (8, .c (wC 3 encTime p1)), (9, cD (i6 (p1.length : Int)))], [(4, .box (cTime a2))]⟩) (fun i => decide ((i : Int) < (p1.length : Int))) [11, 10, 0, 4, 8, 9] [4] [0, 4, 8, 9] [4] [10, 0, 4, 8, 9] [4] h hlena2 rfl ?_ ?_ ?_ ?_ ?_ ?_ ?_ ?_
  · exact fun i a => ⟨True ∧ True, by kernel_rfl, ⟨trivial, trivial⟩⟩
  · exact fun i hi => decide_eq_true (by omega)
  · exact decide_eq_false (by omega)
  · exact fun a => by kernel_rfl
  · exact fun i a => ⟨True ∧ True ∧ True, by kernel_rfl, ⟨trivial, trivial, trivial⟩⟩
  ·intro i1 a2 c hii1 h
   refine Tri.seqS ?_
   refine Tri.reg ?_
   refine At.seg 6 [0, 4, 5, 6, 8, 9, 10] [4, 6] (s' := ⟨[(0, cD (.fn 36 [])), (4, .c (.ptr 4 0)), (5, cD (i6 ((i1 : Nat) : Int))), (6, .c (.ptr 6 0)), (8, .c (wC 3 encTime p1)), (9, cD (i6 (p1.length : Int))), (10, cD (i6 ((i1 : Nat) : Int)))], [(4, .box (cTime a2)), (6, .box (cTime (p1.getD i1 default)))]⟩) (c := True ∧ ((0 : Int) ≤ ((i1 : Nat) : Int) ∧ ((i1 : Nat) : Int) < (p1.length : Int)) ∧ True ∧ True ∧ True ∧ True ∧ True) (by kernel_rfl) ⟨trivial, ⟨by omega, by omega⟩, trivial, trivial, trivial, trivial, trivial⟩ ?_
   refine At.done rfl ?_
   show Tri _ _ _ _
   refine Tri.seqJ (fun (a4 : Time) => ⟨[(0, cD (.fn 36 [])), (4, .c (.ptr 4 0)), (6, .c (.ptr 6 0)), (8, .c (wC 3 encTime p1)), (9, cD (i6 (p1.length : Int))), (10, cD (i6 ((i1 : Nat) : Int)))], [(4, .box (cTime a4)), (6, .box (cTime (p1.getD i1 default)))]⟩) h (fun a4 h => ?_) (fun j5 h => ?_)
   ·show Tri _ _ ⟨[(0, cD (.fn 36 [])), (4, .c (.ptr 4 0)), (6, .c (.ptr 6 0)), (8, .c (wC 3 encTime p1)), (9, cD (i6 (p1.length : Int))), (10, cD (i6 ((i1 : Nat) : Int)))], [(4, .box (cTime a4)), (6, .box (cTime (p1.getD i1 default)))]⟩ _
    refine Tri.seqS ?_
    refine Tri.reg ?_
    refine At.seg 5 [0, 4, 6, 8, 9, 10, 18, 20, 22] [4, 6] (s' := ⟨[(0, cD (.fn 36 [])), (4, .c (.ptr 4 0)), (6, .c (.ptr 6 0)), (8, .c (wC 3 encTime p1)), (9, cD (i6 (p1.length : Int))), (10, cD (i6 ((i1 : Nat) : Int))), (18, cD (.fn 36 [])), (20, cD (u6 a4.epoch)), (22, cD (u6 ((p1.getD i1 default).epoch)))], [(4, .box (cTime a4)), (6, .box (cTime (p1.getD i1 default)))]⟩) (c := True ∧ True ∧ True ∧ True ∧ True ∧ True) (by kernel_rfl) ⟨trivial, trivial, trivial, trivial, trivial, trivial⟩ ?_
    obtain ⟨r6, hr6, h⟩ := bind_elim h
    refine At.callA (caps := []) (xs := [cD (u6 a4.epoch), cD (u6 ((p1.getD i1 default).epoch))]) (moment_least_ok hr6) rfl rfl rfl rfl rfl rfl (.cons (.refl _) (.cons (.refl _) .nil)) rfl rfl ?_
    refine At.seg 2 [0, 4, 6, 8, 9, 10] [4, 6] (s' := ⟨[(0, cD (.fn 36 [])), (4, .c (.ptr 4 0)), (6, .c (.ptr 6 0)), (8, .c (wC 3 encTime p1)), (9, cD (i6 (p1.length : Int))), (10, cD (i6 ((i1 : Nat) : Int)))], [(4, .box [.d (u6 r6), .d (u6 a4.loop.1), .d (u6 a4.loop.2)]), (6, .box (cTime (p1.getD i1 default)))]⟩) (c := True ∧ True ∧ True) (by kernel_rfl) ⟨trivial, trivial, trivial⟩ ?_
    refine At.done rfl ?_
    show Tri _ _ _ _
    refine Tri.seqS ?_
    refine Tri.reg ?_
    refine At.seg 1 [0, 4, 6, 8, 9, 10, 25] [4, 6] (s' := ⟨[(0, cD (.fn 36 [])), (4, .c (.ptr 4 0)), (6, .c (.ptr 6 0)), (8, .c (wC 3 encTime p1)), (9, cD (i6 (p1.length : Int))), (10, cD (i6 ((i1 : Nat) : Int))), (25, cD (i6 0))], [(4, .box [.d (u6 r6), .d (u6 a4.loop.1), .d (u6 a4.loop.2)]), (6, .box (cTime (p1.getD i1 default)))]⟩) (c := True ∧ True) (by kernel_rfl) ⟨trivial, trivial⟩ ?_
    refine At.done rfl ?_
    show Tri _ _ _ _
    refine Tri.keep [25, 0, 4, 6, 8, 9, 10] [4, 6] (s' := idx 25 0 ⟨[(0, cD (.fn 36 [])), (4, .c (.ptr 4 0)), (6, .c (.ptr 6 0)), (8, .c (wC 3 encTime p1)), (9, cD (i6 (p1.length : Int))), (10, cD (i6 ((i1 : Nat) : Int)))], [(4, .box (cTime (⟨r6, a4.loop⟩ : Time))), (6, .box (cTime (p1.getD i1 default)))]⟩) (by kernel_rfl) ?_
    refine Tri.range (n := 2) (st0 := (⟨r6, a4.loop⟩ : Time)) (fun (x : Empty) s => False) (fun (a8 : Time) => ⟨[(0, cD (.fn 36 [])), (4, .c (.ptr 4 0)), (6, .c (.ptr 6 0)), (8, .c (wC 3 encTime p1)), (9, cD (i6 (p1.length : Int))), (10, cD (i6 ((i1 : Nat) : Int)))], [(4, .box (cTime a8)), (6, .box (cTime (p1.getD i1 default)))]⟩) (fun (a8 : Time) => ⟨[(10, cD (i6 ((i1 : Nat) : Int))), (0, cD (.fn 36 [])), (4, .c (.ptr 4 0)), (8, .c (wC 3 encTime p1)), (9, cD (i6 (p1.length : Int)))], [(4, .box (cTime a8))]⟩) (fun i => decide ((i : Int) < (2 : Int))) [26, 25, 0, 4, 6, 8, 9, 10] [4, 6] [10, 0, 4, 8, 9] [4] [25, 0, 4, 6, 8, 9, 10] [4, 6] h (by unfold maxN; omega) rfl ?_ ?_ ?_ ?_ ?_ ?_ ?_ ?_
    · exact fun i a => ⟨True ∧ True, by kernel_rfl, ⟨trivial, trivial⟩⟩
    · exact fun i hi => decide_eq_true (by omega)
    · exact decide_eq_false (by omega)
    · exact fun a => by kernel_rfl
    · exact fun i a => ⟨True ∧ True ∧ True, by kernel_rfl, ⟨trivial, trivial, trivial⟩⟩
    ·intro i7 a8 c hii7 h
     rcases i7 with _ | i7
     ·refine Tri.seqS ?_
      refine Tri.reg ?_
      refine At.seg 2 [0, 4, 6, 7, 8, 9, 10, 25] [4, 6] (s' := ⟨[(0, cD (.fn 36 [])), (4, .c (.ptr 4 0)), (6, .c (.ptr 6 0)), (7, cD (i6 ((0 : Nat) : Int))), (8, .c (wC 3 encTime p1)), (9, cD (i6 (p1.length : Int))), (10, cD (i6 ((i1 : Nat) : Int))), (25, cD (i6 ((0 : Nat) : Int)))], [(4, .box (cTime a8)), (6, .box (cTime (p1.getD i1 default)))]⟩) (c := True ∧ True ∧ True) (by kernel_rfl) ⟨trivial, trivial, trivial⟩ ?_
      refine At.done rfl ?_
      show Tri _ _ _ _
      obtain ⟨r10, hr10, h⟩ := bind_elim h
      refine Tri.drawn (specs := [⟨⟨[(7, cD (i6 ((0 : Nat) : Int)))], []⟩, ⟨[(28, cD (i6 ((0 : Nat) : Int)))], []⟩, [], [], []⟩, ⟨⟨[(0, cD (.fn 36 []))], []⟩, ⟨[(29, cD (.fn 36 []))], []⟩, [], [], []⟩, ⟨⟨[(7, cD (i6 ((0 : Nat) : Int)))], []⟩, ⟨[(30, cD (i6 ((0 : Nat) : Int)))], []⟩, [], [], []⟩, ⟨⟨[(4, .c (.ptr 4 0))], []⟩, ⟨[(31, .c (.ptr 4 1))], []⟩, [], [], []⟩, ⟨⟨[(30, cD (i6 ((0 : Nat) : Int))), (31, .c (.ptr 4 1))], [(4, .box (cTime a8))]⟩, ⟨[(32, .c (.ptr 4 1))], []⟩, [], [], []⟩, ⟨⟨[(32, .c (.ptr 4 1))], [(4, .box (cTime a8))]⟩, ⟨[(33, cD (u6 a8.loop.1))], []⟩, [], [], []⟩, ⟨⟨[(7, cD (i6 ((0 : Nat) : Int)))], []⟩, ⟨[(34, cD (i6 ((0 : Nat) : Int)))], []⟩, [], [], []⟩, ⟨⟨[(6, .c (.ptr 6 0))], []⟩, ⟨[(35, .c (.ptr 6 1))], []⟩, [], [], []⟩, ⟨⟨[(34, cD (i6 ((0 : Nat) : Int))), (35, .c (.ptr 6 1))], [(6, .box (cTime (p1.getD i1 default)))]⟩, ⟨[(36, .c (.ptr 6 1))], []⟩, [], [], []⟩, ⟨⟨[(36, .c (.ptr 6 1))], [(6, .box (cTime (p1.getD i1 default)))]⟩, ⟨[(37, cD (u6 ((p1.getD i1 default).loop.1)))], []⟩, [], [], []⟩, ⟨⟨[(29, cD (.fn 36 [])), (33, cD (u6 a8.loop.1)), (37, cD (u6 ((p1.getD i1 default).loop.1)))], []⟩, ⟨[(38, cD (u6 r10))], []⟩, [], [], []⟩, ⟨⟨[(4, .c (.ptr 4 0))], []⟩, ⟨[(39, .c (.ptr 4 1))], []⟩, [], [], []⟩, ⟨⟨[(28, cD (i6 ((0 : Nat) : Int))), (39, .c (.ptr 4 1))], [(4, .box (cTime a8))]⟩, ⟨[(40, .c (.ptr 4 1))], []⟩, [], [], []⟩, ⟨⟨[(38, cD (u6 r10)), (40, .c (.ptr 4 1))], [(4, .box (cTime a8))]⟩, ⟨[], [(4, .box [.d (u6 a8.epoch), .d (u6 r10), .d (u6 a8.loop.2)])]⟩, [], [], []⟩]) (bef := [[], [], [], [], [2, 3], [2, 3, 4], [], [], [6, 7], [6, 7, 8], [1, 2, 3, 4, 5, 6, 7, 8, 9], [], [0, 1, 2, 3, 4, 5, 6, 7, 8, 9, 10, 11], [0, 1, 2, 3, 4, 5, 6, 7, 8, 9, 10, 11, 12]]) (tk := [25, 0, 4, 6, 8, 9, 10]) (sk := [4, 6]) (s' := ⟨[(25, cD (i6 ((0 : Nat) : Int))), (0, cD (.fn 36 [])), (4, .c (.ptr 4 0)), (6, .c (.ptr 6 0)), (8, .c (wC 3 encTime p1)), (9, cD (i6 (p1.length : Int))), (10, cD (i6 ((i1 : Nat) : Int)))], [(4, .box [.d (u6 a8.epoch), .d (u6 r10), .d (u6 a8.loop.2)]), (6, .box (cTime (p1.getD i1 default)))]⟩) (by kernel_rfl) (by kernel_rfl) (by kernel_rfl) ⟨?_, ?_, ?_, ?_, ?_, ?_, ?_, ?_, ?_, ?_, ?_, ?_, ?_, ?_, trivial⟩ (by kernel_rfl) ?_
      · exact DOk.t rfl rfl (by kernel_rfl) (by kernel_rfl)
      · exact DOk.t rfl rfl (by kernel_rfl) (by kernel_rfl)
      · exact DOk.t rfl rfl (by kernel_rfl) (by kernel_rfl)
      · exact DOk.t rfl rfl (by kernel_rfl) (by kernel_rfl)
      · exact DOk.t rfl rfl (by kernel_rfl) (by kernel_rfl)
      · exact DOk.t rfl rfl (by kernel_rfl) (by kernel_rfl)
      · exact DOk.t rfl rfl (by kernel_rfl) (by kernel_rfl)
      · exact DOk.t rfl rfl (by kernel_rfl) (by kernel_rfl)
      · exact DOk.t rfl rfl (by kernel_rfl) (by kernel_rfl)
      · exact DOk.t rfl rfl (by kernel_rfl) (by kernel_rfl)
      · exact DOk.callA (caps := []) (xs := [cD (u6 a8.loop.1), cD (u6 ((p1.getD i1 default).loop.1))]) (moment_least_ok hr10) rfl (fun r => by kernel_rfl) rfl (fun r => by kernel_rfl) (fun r => by kernel_rfl) (fun r => (.cons (.refl _) (.cons (.refl _) .nil))) rfl rfl (fun r => rfl)
      · exact DOk.t rfl rfl (by kernel_rfl) (by kernel_rfl)
      · exact DOk.t rfl rfl (by kernel_rfl) (by kernel_rfl)
      · exact DOk.step (.turn 4 (.box [.d (u6 a8.epoch), .d (u6 r10), .d (u6 a8.loop.2)])) (fun r => by kernel_rfl) (fun r => by kernel_rfl) trivial (by kernel_rfl) (by kernel_rfl) (fun r => rfl)
      cases h
      exact rfl
     rcases i7 with _ | i7
     ·refine Tri.seqS ?_
      refine Tri.reg ?_
      refine At.seg 2 [0, 4, 6, 7, 8, 9, 10, 25] [4, 6] (s' := ⟨[(0, cD (.fn 36 [])), (4, .c (.ptr 4 0)), (6, .c (.ptr 6 0)), (7, cD (i6 ((1 : Nat) : Int))), (8, .c (wC 3 encTime p1)), (9, cD (i6 (p1.length : Int))), (10, cD (i6 ((i1 : Nat) : Int))), (25, cD (i6 ((1 : Nat) : Int)))], [(4, .box (cTime a8)), (6, .box (cTime (p1.getD i1 default)))]⟩) (c := True ∧ True ∧ True) (by kernel_rfl) ⟨trivial, trivial, trivial⟩ ?_
      refine At.done rfl ?_
      show Tri _ _ _ _
      obtain ⟨r11, hr11, h⟩ := bind_elim h
      refine Tri.drawn (specs := [⟨⟨[(7, cD (i6 ((1 : Nat) : Int)))], []⟩, ⟨[(28, cD (i6 ((1 : Nat) : Int)))], []⟩, [], [], []⟩, ⟨⟨[(0, cD (.fn 36 []))], []⟩, ⟨[(29, cD (.fn 36 []))], []⟩, [], [], []⟩, ⟨⟨[(7, cD (i6 ((1 : Nat) : Int)))], []⟩, ⟨[(30, cD (i6 ((1 : Nat) : Int)))], []⟩, [], [], []⟩, ⟨⟨[(4, .c (.ptr 4 0))], []⟩, ⟨[(31, .c (.ptr 4 1))], []⟩, [], [], []⟩, ⟨⟨[(30, cD (i6 ((1 : Nat) : Int))), (31, .c (.ptr 4 1))], [(4, .box (cTime a8))]⟩, ⟨[(32, .c (.ptr 4 2))], []⟩, [], [], []⟩, ⟨⟨[(32, .c (.ptr 4 2))], [(4, .box (cTime a8))]⟩, ⟨[(33, cD (u6 a8.loop.2))], []⟩, [], [], []⟩, ⟨⟨[(7, cD (i6 ((1 : Nat) : Int)))], []⟩, ⟨[(34, cD (i6 ((1 : Nat) : Int)))], []⟩, [], [], []⟩, ⟨⟨[(6, .c (.ptr 6 0))], []⟩, ⟨[(35, .c (.ptr 6 1))], []⟩, [], [], []⟩, ⟨⟨[(34, cD (i6 ((1 : Nat) : Int))), (35, .c (.ptr 6 1))], [(6, .box (cTime (p1.getD i1 default)))]⟩, ⟨[(36, .c (.ptr 6 2))], []⟩, [], [], []⟩, ⟨⟨[(36, .c (.ptr 6 2))], [(6, .box (cTime (p1.getD i1 default)))]⟩, ⟨[(37, cD (u6 ((p1.getD i1 default).loop.2)))], []⟩, [], [], []⟩, ⟨⟨[(29, cD (.fn 36 [])), (33, cD (u6 a8.loop.2)), (37, cD (u6 ((p1.getD i1 default).loop.2)))], []⟩, ⟨[(38, cD (u6 r11))], []⟩, [], [], []⟩, ⟨⟨[(4, .c (.ptr 4 0))], []⟩, ⟨[(39, .c (.ptr 4 1))], []⟩, [], [], []⟩, ⟨⟨[(28, cD (i6 ((1 : Nat) : Int))), (39, .c (.ptr 4 1))], [(4, .box (cTime a8))]⟩, ⟨[(40, .c (.ptr 4 2))], []⟩, [], [], []⟩, ⟨⟨[(38, cD (u6 r11)), (40, .c (.ptr 4 2))], [(4, .box (cTime a8))]⟩, ⟨[], [(4, .box [.d (u6 a8.epoch), .d (u6 a8.loop.1), .d (u6 r11)])]⟩, [], [], []⟩]) (bef := [[], [], [], [], [2, 3], [2, 3, 4], [], [], [6, 7], [6, 7, 8], [1, 2, 3, 4, 5, 6, 7, 8, 9], [], [0, 1, 2, 3, 4, 5, 6, 7, 8, 9, 10, 11], [0, 1, 2, 3, 4, 5, 6, 7, 8, 9, 10, 11, 12]]) (tk := [25, 0, 4, 6, 8, 9, 10]) (sk := [4, 6]) (s' := ⟨[(25, cD (i6 ((1 : Nat) : Int))), (0, cD (.fn 36 [])), (4, .c (.ptr 4 0)), (6, .c (.ptr 6 0)), (8, .c (wC 3 encTime p1)), (9, cD (i6 (p1.length : Int))), (10, cD (i6 ((i1 : Nat) : Int)))], [(4, .box [.d (u6 a8.epoch), .d (u6 a8.loop.1), .d (u6 r11)]), (6, .box (cTime (p1.getD i1 default)))]⟩) (by kernel_rfl) (by kernel_rfl) (by kernel_rfl) ⟨?_, ?_, ?_, ?_, ?_, ?_, ?_, ?_, ?_, ?_, ?_, ?_, ?_, ?_, trivial⟩ (by kernel_rfl) ?_
      · exact DOk.t rfl rfl (by kernel_rfl) (by kernel_rfl)
      · exact DOk.t rfl rfl (by kernel_rfl) (by kernel_rfl)
      · exact DOk.t rfl rfl (by kernel_rfl) (by kernel_rfl)
      · exact DOk.t rfl rfl (by kernel_rfl) (by kernel_rfl)
      · exact DOk.t rfl rfl (by kernel_rfl) (by kernel_rfl)
      · exact DOk.t rfl rfl (by kernel_rfl) (by kernel_rfl)
      · exact DOk.t rfl rfl (by kernel_rfl) (by kernel_rfl)
      · exact DOk.t rfl rfl (by kernel_rfl) (by kernel_rfl)
      · exact DOk.t rfl rfl (by kernel_rfl) (by kernel_rfl)
      · exact DOk.t rfl rfl (by kernel_rfl) (by kernel_rfl)
      · exact DOk.callA (caps := []) (xs := [cD (u6 a8.loop.2), cD (u6 ((p1.getD i1 default).loop.2))]) (moment_least_ok hr11) rfl (fun r => by kernel_rfl) rfl (fun r => by kernel_rfl) (fun r => by kernel_rfl) (fun r => (.cons (.refl _) (.cons (.refl _) .nil))) rfl rfl (fun r => rfl)
      · exact DOk.t rfl rfl (by kernel_rfl) (by kernel_rfl)
      · exact DOk.t rfl rfl (by kernel_rfl) (by kernel_rfl)
      · exact DOk.step (.turn 4 (.box [.d (u6 a8.epoch), .d (u6 a8.loop.1), .d (u6 r11)])) (fun r => by kernel_rfl) (fun r => by kernel_rfl) trivial (by kernel_rfl) (by kernel_rfl) (fun r => rfl)
      cases h
      exact rfl
     exact absurd hii7 (by omega)
    ·intro a9 h
     cases h
     exact rfl
    · exact fun x => x.elim
   ·refine Tri.seqS ?_
    refine Tri.reg ?_
    refine At.seg 2 [0, 4, 6, 8, 9, 10, 16] [4, 6] (s' := ⟨[(0, cD (.fn 36 [])), (4, .c (.ptr 4 0)), (6, .c (.ptr 6 0)), (8, .c (wC 3 encTime p1)), (9, cD (i6 (p1.length : Int))), (10, cD (i6 ((i1 : Nat) : Int))), (16, cD (.bool (decide (((i1 : Nat) : Int) = 0))))], [(4, .box (cTime a2)), (6, .box (cTime (p1.getD i1 default)))]⟩) (c := True ∧ True ∧ True) (by kernel_rfl) ⟨trivial, trivial, trivial⟩ ?_
    refine At.done rfl ?_
    show Tri _ _ _ _
    refine Tri.condP (b := (decide (((i1 : Nat) : Int) = 0))) rfl h (fun h => ?_) (fun h => ?_)
    ·refine Tri.reg ?_
     refine At.seg 2 [0, 4, 6, 8, 9, 10] [4, 6] (s' := ⟨[(0, cD (.fn 36 [])), (4, .c (.ptr 4 0)), (6, .c (.ptr 6 0)), (8, .c (wC 3 encTime p1)), (9, cD (i6 (p1.length : Int))), (10, cD (i6 ((i1 : Nat) : Int)))], [(4, .box (cTime (p1.getD i1 default))), (6, .box (cTime (p1.getD i1 default)))]⟩) (c := True ∧ True ∧ True) (by kernel_rfl) ⟨trivial, trivial, trivial⟩ ?_
     refine At.done rfl ?_
     exact ⟨_, h, rfl⟩
    ·refine Tri.keep [0, 4, 6, 8, 9, 10] [4, 6] (s' := ⟨[(0, cD (.fn 36 [])), (4, .c (.ptr 4 0)), (6, .c (.ptr 6 0)), (8, .c (wC 3 encTime p1)), (9, cD (i6 (p1.length : Int))), (10, cD (i6 ((i1 : Nat) : Int)))], [(4, .box (cTime a2)), (6, .box (cTime (p1.getD i1 default)))]⟩) (by kernel_rfl) ?_
     refine Tri.skip ?_
     exact ⟨_, h, rfl⟩
  ·intro a3 h
   show Tri _ _ _ _
   refine Tri.seqS ?_
   refine Tri.reg ?_
   refine At.seg 2 [4] [4] (s' := ⟨[(4, .c (.ptr 4 0))], [(4, .box (cTime a3))]⟩) (c := True ∧ True ∧ True) (by kernel_rfl) ⟨trivial, trivial, trivial⟩ ?_
   refine At.done rfl ?_
   show Tri _ _ _ _
   refine Tri.keep [4] [4] (s' := ⟨[(4, .c (.ptr 4 0))], [(4, .box (cTime a3))]⟩) (by kernel_rfl) ?_
   refine Tri.ret ?_
   cases h
   refine ⟨_, _, rfl, ⟨trivial, trivial⟩, rfl, rfl, ?_⟩
   intro k c h
   cases h
  · exact fun x => x.elim

set_option maxRecDepth 100000 in
theorem moment_Glb_ok_v0 {p0 : List Time} {q : Time} (h : moment_Glb p0 = some q) :
    Summ Try.prog 16 [.c (wC 3 encTime p0)] [] (.agg (cTime q)) [] := by
  refine Summ.intro Try.func16 rfl (by kernel_rfl) (by kernel_rfl) [] rfl ?_
  rintro ⟨P, w0, G0, V, LL, lk, N, φ0, fx⟩ rfl rfl rfl rfl
  unfold moment_Glb at h
  refine Tri.seqS ?_
  refine Tri.reg ?_
  refine At.seg 1 [0, 2] [2] (s' := ⟨[(0, .c (wC 3 encTime p0)), (2, .c (.ptr 2 0))], [(2, .box [.d (u6 0), .d (u6 0), .d (u6 0)])]⟩) (c := True ∧ True) (by kernel_rfl) ⟨trivial, trivial⟩ ?_
  refine At.done rfl ?_
  show Tri _ _ _ _
  refine Tri.seqS ?_
  refine Tri.reg ?_
  refine At.seg 1 [2, 3] [2] (s' := ⟨[(2, .c (.ptr 2 0)), (3, .c (wC 3 encTime p0))], [(2, .box [.d (u6 0), .d (u6 0), .d (u6 0)])]⟩) (c := True ∧ True) (by kernel_rfl) ⟨trivial, trivial⟩ ?_
  obtain ⟨r1, hr1, h⟩ := bind_elim h
  refine At.callA (caps := []) (xs := [cD (.fn 36 []), .c (wC 3 encTime p0)]) (moment_fold__least_ok_v1 hr1) rfl rfl rfl rfl rfl rfl (.cons (.refl _) (.cons (.refl _) .nil)) rfl rfl ?_
  refine At.seg 1 [2] [2] (s' := ⟨[(2, .c (.ptr 2 0))], [(2, .box (cTime r1))]⟩) (c := True ∧ True) (by kernel_rfl) ⟨trivial, trivial⟩ ?_
  refine At.done rfl ?_
  show Tri _ _ _ _
  refine Tri.keep [2] [2] (s' := ⟨[(2, .c (.ptr 2 0))], [(2, .box (cTime r1))]⟩) (by kernel_rfl) ?_
  refine Tri.ret ?_
  cases h
  refine ⟨_, _, rfl, ⟨trivial, trivial⟩, rfl, rfl, ?_⟩
  intro k c h
  cases h

set_option maxRecDepth 100000 in
theorem moment_Advance_ok_v1 {p0 : Time} {p1 : List Time} {q : Time} (h : moment_Advance p0 p1 = some q) :
    Summ Try.prog 31 [.agg (cTime p0), .c (wC 3 encTime p1)] [] (.agg (cTime q)) [] := by
  refine Summ.intro Try.func31 rfl (by kernel_rfl) (by kernel_rfl) [] rfl ?_
  rintro ⟨P, w0, G0, V, LL, lk, N, φ0, fx⟩ rfl rfl rfl rfl
  unfold moment_Advance at h
  refine Tri.seqS ?_
  refine Tri.reg ?_
  refine At.seg 2 [1, 2, 4] [2, 4] (s' := ⟨[(1, .c (wC 3 encTime p1)), (2, .c (.ptr 2 0)), (4, .c (.ptr 4 0))], [(2, .box (cTime p0)), (4, .box [.d (u6 0), .d (u6 0), .d (u6 0)])]⟩) (c := True ∧ True ∧ True) (by kernel_rfl) ⟨trivial, trivial, trivial⟩ ?_
  refine At.done rfl ?_
  show Tri _ _ _ _
  refine Tri.seqS ?_
  refine Tri.seqS ?_
  refine Tri.reg ?_
  refine At.seg 3 [1, 2, 4, 10] [2, 4] (s' := ⟨[(1, .c (wC 3 encTime p1)), (2, .c (.ptr 2 0)), (4, .c (.ptr 4 0)), (10, cD (.bool (decide ((p1.length : Int) = 0))))], [(2, .box (cTime p0)), (4, .box [.d (u6 0), .d (u6 0), .d (u6 0)])]⟩) (c := True ∧ True ∧ True ∧ True) (by kernel_rfl) ⟨trivial, trivial, trivial, trivial⟩ ?_
  refine At.done rfl ?_
  show Tri _ _ _ _
  refine Tri.condP (b := (decide ((p1.length : Int) = 0))) rfl h (fun h => ?_) (fun h => ?_)
  ·refine Tri.seqS ?_
   refine Tri.reg ?_
   refine At.seg 2 [4] [4] (s' := ⟨[(4, .c (.ptr 4 0))], [(4, .box (cTime p0))]⟩) (c := True ∧ True ∧ True) (by kernel_rfl) ⟨trivial, trivial, trivial⟩ ?_
   refine At.done rfl ?_
   show Tri _ _ _ _
   refine Tri.keep [4] [4] (s' := ⟨[(4, .c (.ptr 4 0))], [(4, .box (cTime p0))]⟩) (by kernel_rfl) ?_
   refine Tri.ret ?_
   cases h
   refine ⟨_, _, rfl, ⟨trivial, trivial⟩, rfl, rfl, ?_⟩
   intro k c h
   cases h
  ·refine Tri.skip ?_
   show Tri _ _ _ _
   refine Tri.seqS ?_
   refine Tri.reg ?_
   refine At.seg 2 [1, 2, 4, 13] [2, 4] (s' := ⟨[(1, .c (wC 3 encTime p1)), (2, .c (.ptr 2 0)), (4, .c (.ptr 4 0)), (13, cD (i6 (p1.length : Int)))], [(2, .box (cTime p0)), (4, .box [.d (u6 0), .d (u6 0), .d (u6 0)])]⟩) (c := True ∧ True ∧ True) (by kernel_rfl) ⟨trivial, trivial, trivial⟩ ?_
   obtain ⟨hc1, h⟩ := need_elim h
   refine At.one rfl (One.makeT (e := 27) (es := 3) (bs := 24) (n := (p1.length : Int)) (c := (p1.length : Int)) (z := [.d (u6 0), .d (u6 0), .d (u6 0)]) (encTime) ((⟨0, (0, 0)⟩ : Time) : Time) rfl rfl rfl rfl (by kernel_rfl) rfl rfl rfl (by kernel_rfl) rfl (by kernel_rfl) rfl (.refl _) rfl rfl rfl hc1.1 hc1.2.1 hc1.2.2 rfl) ?_
   refine At.seg 1 [1, 2, 4, 5] [2, 4, 14] (s' := ⟨[(1, .c (wC 3 encTime p1)), (2, .c (.ptr 2 0)), (4, .c (.ptr 4 0)), (5, .c (oC 14 3 (List.replicate p1.length ((⟨0, (0, 0)⟩ : Time) : Time))))], [(2, .box (cTime p0)), (4, .box [.d (u6 0), .d (u6 0), .d (u6 0)]), (14, vL 3 encTime (List.replicate p1.length ((⟨0, (0, 0)⟩ : Time) : Time)))]⟩) (c := True ∧ True) (by kernel_rfl) ⟨trivial, trivial⟩ ?_
   refine At.done rfl ?_
   show Tri _ _ _ _
   refine Tri.seqS ?_
   refine Tri.seqS ?_
   refine Tri.reg ?_
   refine At.seg 3 [2, 4, 5, 15, 16, 17] [2, 4, 14] (s' := ⟨[(2, .c (.ptr 2 0)), (4, .c (.ptr 4 0)), (5, .c (oC 14 3 (List.replicate p1.length ((⟨0, (0, 0)⟩ : Time) : Time)))), (15, .c (wC 3 encTime p1)), (16, cD (i6 (p1.length : Int))), (17, cD (i6 0))], [(2, .box (cTime p0)), (4, .box [.d (u6 0), .d (u6 0), .d (u6 0)]), (14, vL 3 encTime (List.replicate p1.length ((⟨0, (0, 0)⟩ : Time) : Time)))]⟩) (c := True ∧ True ∧ True ∧ True) (by kernel_rfl) ⟨trivial, trivial, trivial, trivial⟩ ?_
   refine At.done rfl ?_
   show Tri _ _ _ _
   refine Tri.lenOfV (t := 15) rfl fun hlena3 => ?_
   refine Tri.keep [17, 2, 4, 5, 15, 16] [2, 4, 14] (s' := idx 17 0 ⟨[(2, .c (.ptr 2 0)), (4, .c (.ptr 4 0)), (5, .c (oC 14 3 (List.replicate p1.length ((⟨0, (0, 0)⟩ : Time) : Time)))), (15, .c (wC 3 encTime p1)), (16, cD (i6 (p1.length : Int)))], [(2, .box (cTime p0)), (4, .box [.d (u6 0), .d (u6 0), .d (u6 0)]), (14, vL 3 encTime (List.replicate p1.length ((⟨0, (0, 0)⟩ : Time) : Time)))]⟩) (by kernel_rfl) ?_
   refine Tri.range (n := p1.length) (st0 := (List.replicate p1.length ((⟨0, (0, 0)⟩ : Time) : Time))) (fun (x : Empty) s => False) (fun (a3 : List Time) => ⟨[(2, .c (.ptr 2 0)), (4, .c (.ptr 4 0)), (5, .c (oC 14 3 a3)), (15, .c (wC 3 encTime p1)), (16, cD (i6 (p1.length : Int)))], [(2, .box (cTime p0)), (4, .box [.d (u6 0), .d (u6 0), .d (u6 0)]), (14, vL 3 encTime a3)]⟩) (fun (a3 : List Time) => ⟨[(2, .c (.ptr 2 0)), (4, .c (.ptr 4 0)), (5, .c (oC 14 3 a3)), (15, .c (wC 3 encTime p1)), (16, cD (i6 (p1.length : Int)))], [(2, .box (cTime p0)), (4, .box [.d (u6 0), .d (u6 0), .d (u6 0)]), (14, vL 3 encTime a3)]⟩) (fun i => decide ((i : Int) < (p1.length : Int))) [18, 17, 2, 4, 5, 15, 16] [2, 4, 14] [2, 4, 5, 15, 16] [2, 4, 14] [17, 2, 4, 5, 15, 16] [2, 4, 14] h hlena3 rfl ?_ ?_ ?_ ?_ ?_ ?_ ?_ ?_
   · exact fun i a => ⟨True ∧ True, by kernel_rfl, ⟨trivial, trivial⟩⟩
   · exact fun i hi => decide_eq_true (by omega)
   · exact decide_eq_false (by omega)
   · exact fun a => by kernel_rfl
   · exact fun i a => ⟨True ∧ True ∧ True, by kernel_rfl, ⟨trivial, trivial, trivial⟩⟩
   ·intro i2 a3 c hii2 h
    refine Tri.seqS ?_
    refine Tri.reg ?_
    refine At.seg 6 [2, 4, 5, 6, 7, 15, 16, 17] [2, 4, 7, 14] (s' := ⟨[(2, .c (.ptr 2 0)), (4, .c (.ptr 4 0)), (5, .c (oC 14 3 a3)), (6, cD (i6 ((i2 : Nat) : Int))), (7, .c (.ptr 7 0)), (15, .c (wC 3 encTime p1)), (16, cD (i6 (p1.length : Int))), (17, cD (i6 ((i2 : Nat) : Int)))], [(2, .box (cTime p0)), (4, .box [.d (u6 0), .d (u6 0), .d (u6 0)]), (7, .box (cTime (p1.getD i2 default))), (14, vL 3 encTime a3)]⟩) (c := True ∧ ((0 : Int) ≤ ((i2 : Nat) : Int) ∧ ((i2 : Nat) : Int) < (p1.length : Int)) ∧ True ∧ True ∧ True ∧ True ∧ True) (by kernel_rfl) ⟨trivial, ⟨by omega, by omega⟩, trivial, trivial, trivial, trivial, trivial⟩ ?_
    refine At.done rfl ?_
    show Tri _ _ _ _
    refine Tri.reg ?_
    refine At.seg 4 [2, 4, 5, 15, 16, 17, 22, 23, 24, 25] [2, 4, 14] (s' := ⟨[(2, .c (.ptr 2 0)), (4, .c (.ptr 4 0)), (5, .c (oC 14 3 a3)), (15, .c (wC 3 encTime p1)), (16, cD (i6 (p1.length : Int))), (17, cD (i6 ((i2 : Nat) : Int))), (22, .c (oC 14 3 a3)), (23, cD (i6 ((i2 : Nat) : Int))), (24, .agg (cTime p0)), (25, .agg (cTime (p1.getD i2 default)))], [(2, .box (cTime p0)), (4, .box [.d (u6 0), .d (u6 0), .d (u6 0)]), (14, vL 3 encTime a3)]⟩) (c := True ∧ True ∧ True ∧ True ∧ True) (by kernel_rfl) ⟨trivial, trivial, trivial, trivial, trivial⟩ ?_
    refine At.one rfl (One.buildSlice (z := [.d (u6 0), .d (u6 0), .d (u6 0)]) (cells := [.d (u6 p0.epoch), .d (u6 p0.loop.1), .d (u6 p0.loop.2), .d (u6 ((p1.getD i2 default).epoch)), .d (u6 ((p1.getD i2 default).loop.1)), .d (u6 ((p1.getD i2 default).loop.2))]) (xs := List.map (encTime) ([p0, (p1.getD i2 default)] : List Time)) rfl rfl rfl rfl (by kernel_rfl) rfl rfl (by kernel_rfl) rfl rfl rfl (by kernel_rfl) rfl ⟨⟨rfl, .refl _⟩, ⟨rfl, .refl _⟩, trivial⟩) ?_
    refine At.le [26] (fun k hk h => by first | (cases h; done) | (simp at hk h; omega)) ⟨[(26, cD (lD 3 encTime ([p0, (p1.getD i2 default)] : List Time))), (2, .c (.ptr 2 0)), (4, .c (.ptr 4 0)), (5, .c (oC 14 3 a3)), (15, .c (wC 3 encTime p1)), (16, cD (i6 (p1.length : Int))), (17, cD (i6 ((i2 : Nat) : Int))), (22, .c (oC 14 3 a3)), (23, cD (i6 ((i2 : Nat) : Int))), (24, .agg (cTime p0)), (25, .agg (cTime (p1.getD i2 default)))], [(2, .box (cTime p0)), (4, .box [.d (u6 0), .d (u6 0), .d (u6 0)]), (14, vL 3 encTime a3)]⟩ ⟨⟨_, rfl, .c (.own rfl (List.mem_singleton.2 rfl) (Nat.le_of_ble_eq_true rfl) rfl (encs_getD (encTime) ([p0, (p1.getD i2 default)] : List Time)))⟩, ⟨_, rfl, .refl _⟩, ⟨_, rfl, .refl _⟩, ⟨_, rfl, .refl _⟩, ⟨_, rfl, .refl _⟩, ⟨_, rfl, .refl _⟩, ⟨_, rfl, .refl _⟩, ⟨_, rfl, .refl _⟩, ⟨_, rfl, .refl _⟩, ⟨_, rfl, .refl _⟩, ⟨_, rfl, .refl _⟩, trivial⟩ ⟨⟨_, rfl, .refl _, (by simp)⟩, ⟨_, rfl, .refl _, (by simp)⟩, ⟨_, rfl, .refl _, (by simp)⟩, trivial⟩ ?_
    obtain ⟨r6, hr6, h⟩ := bind_elim h
    refine At.callA (caps := []) (xs := [cD (lD 3 encTime ([p0, (p1.getD i2 default)] : List Time))]) (moment_Lub_ok hr6) rfl rfl rfl rfl rfl rfl (.cons (.refl _) .nil) rfl rfl ?_
    obtain ⟨hc7, h⟩ := need_elim h
    refine At.seg 1 [2, 4, 5, 15, 16, 17, 27, 28] [2, 4, 14] (s' := ⟨[(2, .c (.ptr 2 0)), (4, .c (.ptr 4 0)), (5, .c (oC 14 3 a3)), (15, .c (wC 3 encTime p1)), (16, cD (i6 (p1.length : Int))), (17, cD (i6 ((i2 : Nat) : Int))), (27, .agg (cTime r6)), (28, .c (.vptr 14 3 (0 + i2) 0))], [(2, .box (cTime p0)), (4, .box [.d (u6 0), .d (u6 0), .d (u6 0)]), (14, vL 3 encTime a3)]⟩) (c := ((0 : Int) ≤ ((i2 : Nat) : Int) ∧ ((i2 : Nat) : Int) < (a3.length : Int)) ∧ True) (by kernel_rfl) ⟨hc7, trivial⟩ ?_
    obtain ⟨hc8, h⟩ := need_elim h
    refine At.one rfl (One.storeT (xs := [.d (u6 r6.epoch), .d (u6 r6.loop.1), .d (u6 r6.loop.2)]) (ds := [u6 r6.epoch, u6 r6.loop.1, u6 r6.loop.2]) (encTime) a3 r6 rfl rfl rfl rfl rfl hc8 rfl rfl (.refl _) rfl rfl rfl rfl) ?_
    refine At.keep [2, 4, 5, 15, 16, 17] [2, 4, 14] (s' := ⟨[(2, .c (.ptr 2 0)), (4, .c (.ptr 4 0)), (5, .c (oC 14 3 a3)), (15, .c (wC 3 encTime p1)), (16, cD (i6 (p1.length : Int))), (17, cD (i6 ((i2 : Nat) : Int)))], [(2, .box (cTime p0)), (4, .box [.d (u6 0), .d (u6 0), .d (u6 0)]), (14, vL 3 encTime (a3.set (0 + i2) r6))]⟩) (by kernel_rfl) ?_
    refine At.eqS (s' := ⟨[(2, .c (.ptr 2 0)), (4, .c (.ptr 4 0)), (5, .c (oC 14 3 (a3.set (0 + i2) r6))), (15, .c (wC 3 encTime p1)), (16, cD (i6 (p1.length : Int))), (17, cD (i6 ((i2 : Nat) : Int)))], [(2, .box (cTime p0)), (4, .box [.d (u6 0), .d (u6 0), .d (u6 0)]), (14, vL 3 encTime (a3.set (0 + i2) r6))]⟩) (by simp only [oC, vL, List.length_set]) ?_
    refine At.keep [17, 2, 4, 5, 15, 16] [2, 4, 14] (s' := ⟨[(17, cD (i6 ((i2 : Nat) : Int))), (2, .c (.ptr 2 0)), (4, .c (.ptr 4 0)), (5, .c (oC 14 3 (a3.set (0 + i2) r6))), (15, .c (wC 3 encTime p1)), (16, cD (i6 (p1.length : Int)))], [(2, .box (cTime p0)), (4, .box [.d (u6 0), .d (u6 0), .d (u6 0)]), (14, vL 3 encTime (a3.set (0 + i2) r6))]⟩) (by kernel_rfl) ?_
    refine At.done rfl ?_
    cases h
    exact rfl
   ·intro a4 h
    show Tri _ _ _ _
    refine Tri.seqS ?_
    refine Tri.reg ?_
    refine At.seg 1 [4, 30] [4, 14] (s' := ⟨[(4, .c (.ptr 4 0)), (30, .c (oC 14 3 a4))], [(4, .box [.d (u6 0), .d (u6 0), .d (u6 0)]), (14, vL 3 encTime a4)]⟩) (c := True ∧ True) (by kernel_rfl) ⟨trivial, trivial⟩ ?_
    obtain ⟨r5, hr5, h⟩ := bind_elim h
    refine At.callA (caps := []) (xs := [.c (oC 14 3 a4)]) (moment_Glb_ok_v0 hr5) rfl rfl rfl rfl rfl rfl (.cons (AVArg.view (encTime) a4 rfl) .nil) rfl rfl ?_
    refine At.seg 1 [4] [4] (s' := ⟨[(4, .c (.ptr 4 0))], [(4, .box (cTime r5))]⟩) (c := True ∧ True) (by kernel_rfl) ⟨trivial, trivial⟩ ?_
    refine At.done rfl ?_
    show Tri _ _ _ _
    refine Tri.keep [4] [4] (s' := ⟨[(4, .c (.ptr 4 0))], [(4, .box (cTime r5))]⟩) (by kernel_rfl) ?_
    refine Tri.ret ?_
    cases h
    refine ⟨_, _, rfl, ⟨trivial, trivial⟩, rfl, rfl, ?_⟩
    intro k c h
    cases h
   · exact fun x => x.elim

end Go.Av