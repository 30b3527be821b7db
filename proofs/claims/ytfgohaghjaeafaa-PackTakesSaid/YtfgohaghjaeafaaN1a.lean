import Derived.Test.YtfgohaghjaeafaaN1p
import Derived.Test.YtfgohaghjaeafaaProg
import Derived.Test.YtfgohaghjaeafaaS1
namespace Go.Av
open Go Go.Proofs
set_option linter.unusedVariables false
set_option linter.unusedSimpArgs false

set_option maxRecDepth 100000 in
theorem freshet_pack_register_put_w_ok {p1 : Int} {l0 : Int} {q : Int} (h : freshet_pack_register_put_w p1 l0 = some q) :
    Summ Try.prog 34 [.c (.ptr 5000 0), .c (.d (.int .u8 p1))] [(5000, .box [.d (.int .u32 l0)])] (.tup []) [(5000, .box [.d (.int .u32 q)])] := by
  refine Summ.intro Try.func34 rfl (by kernel_rfl) (by kernel_rfl) [] rfl ?_
  rintro ⟨P, w0, G0, V, LL, lk, N, φ0, fx⟩ rfl rfl rfl rfl
  unfold freshet_pack_register_put_w at h
  refine Tri.seqS ?_
  refine Tri.reg ?_
  refine At.seg 7 [0, 4] [5000] (s' := ⟨[(0, .c (.ptr 5000 0)), (4, .c (.d (.int .u32 (bitsOp .xor .u32 l0 (IntKind.u32.wrap p1)))))], [(5000, .box [.d (.int .u32 l0)])]⟩) (c := True ∧ True ∧ True ∧ True ∧ True ∧ True ∧ True ∧ True) (by kernel_rfl) ⟨trivial, trivial, trivial, trivial, trivial, trivial, trivial, trivial⟩ ?_
  refine At.done rfl ?_
  show Tri _ _ _ _
  refine Tri.seqS ?_
  refine Tri.seqS ?_
  refine Tri.reg ?_
  refine At.seg 1 [0, 4, 11] [5000] (s' := ⟨[(0, .c (.ptr 5000 0)), (4, .c (.d (.int .u32 (bitsOp .xor .u32 l0 (IntKind.u32.wrap p1))))), (11, .c (.d (.int .i64 0)))], [(5000, .box [.d (.int .u32 l0)])]⟩) (c := True ∧ True) (by kernel_rfl) ⟨trivial, trivial⟩ ?_
  refine At.done rfl ?_
  show Tri _ _ _ _
  refine Tri.keep [11, 0, 4] [5000] (s' := idx 11 0 ⟨[(0, .c (.ptr 5000 0)), (4, .c (.d (.int .u32 (bitsOp .xor .u32 l0 (IntKind.u32.wrap p1)))))], [(5000, .box [.d (.int .u32 l0)])]⟩) (by kernel_rfl) ?_
  refine Tri.range (n := 8) (st0 := (bitsOp .xor .u32 l0 (IntKind.u32.wrap p1))) (fun (x : Empty) s => False) (fun (a2 : Int) => ⟨[(0, .c (.ptr 5000 0)), (4, .c (.d (.int .u32 a2)))], [(5000, .box [.d (.int .u32 l0)])]⟩) (fun (a2 : Int) => ⟨[(0, .c (.ptr 5000 0)), (4, .c (.d (.int .u32 a2)))], [(5000, .box [.d (.int .u32 l0)])]⟩) (fun i => decide ((i : Int) < (8 : Int))) [12, 11, 0, 4] [5000] [0, 4] [5000] [11, 0, 4] [5000] h (by unfold maxN; omega) rfl ?_ ?_ ?_ ?_ ?_ ?_ ?_ ?_
  · exact fun i a => ⟨True ∧ True, by kernel_rfl, ⟨trivial, trivial⟩⟩
  · exact fun i hi => decide_eq_true (by omega)
  · exact decide_eq_false (by omega)
  · exact fun a => by kernel_rfl
  · exact fun i a => ⟨True ∧ True ∧ True, by kernel_rfl, ⟨trivial, trivial, trivial⟩⟩
  · intro i1 a2 c hii1 h
    refine Tri.reg ?_
    refine At.seg 8 [11, 0, 4] [5000] (s' := ⟨[(11, .c (.d (.int .i64 ((i1 : Nat) : Int)))), (0, .c (.ptr 5000 0)), (4, .c (.d (.int .u32 (bitsOp .xor .u32 (shrOp .u32 a2 1) (bitsOp .and .u32 (2197175160 : Int) (IntKind.u32.wrap (0 - (bitsOp .and .u32 a2 1))))))))], [(5000, .box [.d (.int .u32 l0)])]⟩) (c := True ∧ ((0 : Int) ≤ 1) ∧ True ∧ True ∧ True ∧ True ∧ True ∧ True ∧ True) (by kernel_rfl) ⟨trivial, (by decide : (0 : Int) ≤ 1), trivial, trivial, trivial, trivial, trivial, trivial, trivial⟩ ?_
    refine At.done rfl ?_
    cases h
    exact rfl
  · intro a3 h
    show Tri _ _ _ _
    refine Tri.reg ?_
    refine At.seg 4 [] [5000] (s' := ⟨[], [(5000, .box [.d (.int .u32 a3)])]⟩) (c := True ∧ True ∧ True ∧ True ∧ True) (by kernel_rfl) ⟨trivial, trivial, trivial, trivial, trivial⟩ ?_
    refine At.done rfl ?_
    cases h
    refine ⟨_, _, rfl, trivial, rfl, rfl, ?_⟩
    exact SubS.out ⟨⟨rfl, rfl⟩, trivial⟩
  · exact fun x => x.elim

set_option maxRecDepth 100000 in
theorem pack_Sum_ok {p0 : ByteArray} {q : Int} (h : pack_Sum p0 = some q) :
    Summ Try.prog 14 [.c (.d (.str p0))] [] (.c (.d (.int .u32 q))) [] := by
  refine Summ.intro Try.func14 rfl (by kernel_rfl) (by kernel_rfl) [] rfl ?_
  rintro ⟨P, w0, G0, V, LL, lk, N, φ0, fx⟩ rfl rfl rfl rfl
  unfold pack_Sum at h
  refine Tri.seqS ?_
  refine Tri.reg ?_
  refine At.seg 1 [0] [] (s' := ⟨[(0, .c (.d (.str p0)))], []⟩) (c := True ∧ True) (by kernel_rfl) ⟨trivial, trivial⟩ ?_
  refine At.done rfl ?_
  show Tri _ _ _ _
  refine Tri.seqS ?_
  refine Tri.reg ?_
  refine At.seg 2 [0, 3] [3] (s' := ⟨[(0, .c (.d (.str p0))), (3, .c (.ptr 3 0))], [(3, .box [.d (.int .u32 4294967295)])]⟩) (c := True ∧ True ∧ True) (by kernel_rfl) ⟨trivial, trivial, trivial⟩ ?_
  refine At.done rfl ?_
  show Tri _ _ _ _
  refine Tri.seqS ?_
  refine Tri.reg ?_
  refine At.seg 1 [6, 0, 3] [3] (s' := ⟨[(6, .c (.clo 34 1 [.ptr 3 0])), (0, .c (.d (.str p0))), (3, .c (.ptr 3 0))], [(3, .box [.d (.int .u32 4294967295)])]⟩) (c := True ∧ True) (by kernel_rfl) ⟨trivial, trivial⟩ ?_
  refine At.seg 1 [0, 3, 4] [3] (s' := ⟨[(0, .c (.d (.str p0))), (3, .c (.ptr 3 0)), (4, .c (.clo 34 1 [.ptr 3 0]))], [(3, .box [.d (.int .u32 4294967295)])]⟩) (c := True ∧ True) (by kernel_rfl) ⟨trivial, trivial⟩ ?_
  refine At.done rfl ?_
  show Tri _ _ _ _
  refine Tri.seqS ?_
  refine Tri.seqS ?_
  refine Tri.reg ?_
  refine At.seg 3 [0, 3, 4, 8, 9] [3] (s' := ⟨[(0, .c (.d (.str p0))), (3, .c (.ptr 3 0)), (4, .c (.clo 34 1 [.ptr 3 0])), (8, .c (.d (.int .i64 (p0.size : Int)))), (9, .c (.d (.int .i64 0)))], [(3, .box [.d (.int .u32 4294967295)])]⟩) (c := True ∧ True ∧ True ∧ True) (by kernel_rfl) ⟨trivial, trivial, trivial, trivial⟩ ?_
  refine At.done rfl ?_
  show Tri _ _ _ _
  obtain ⟨hlena2, h⟩ := need_elim h
  refine Tri.keep [9, 0, 3, 4, 8] [3] (s' := idx 9 0 ⟨[(0, .c (.d (.str p0))), (3, .c (.ptr 3 0)), (4, .c (.clo 34 1 [.ptr 3 0])), (8, .c (.d (.int .i64 (p0.size : Int))))], [(3, .box [.d (.int .u32 4294967295)])]⟩) (by kernel_rfl) ?_
  refine Tri.range (n := p0.size) (st0 := 4294967295) (fun (x : Empty) s => False) (fun (a2 : Int) => ⟨[(0, .c (.d (.str p0))), (3, .c (.ptr 3 0)), (4, .c (.clo 34 1 [.ptr 3 0])), (8, .c (.d (.int .i64 (p0.size : Int))))], [(3, .box [.d (.int .u32 a2)])]⟩) (fun (a2 : Int) => ⟨[(0, .c (.d (.str p0))), (3, .c (.ptr 3 0)), (4, .c (.clo 34 1 [.ptr 3 0])), (8, .c (.d (.int .i64 (p0.size : Int))))], [(3, .box [.d (.int .u32 a2)])]⟩) (fun i => decide ((i : Int) < (p0.size : Int))) [10, 9, 0, 3, 4, 8] [3] [0, 3, 4, 8] [3] [9, 0, 3, 4, 8] [3] h hlena2 rfl ?_ ?_ ?_ ?_ ?_ ?_ ?_ ?_
  · exact fun i a => ⟨True ∧ True, by kernel_rfl, ⟨trivial, trivial⟩⟩
  · exact fun i hi => decide_eq_true (by omega)
  · exact decide_eq_false (by omega)
  · exact fun a => by kernel_rfl
  · exact fun i a => ⟨True ∧ True ∧ True, by kernel_rfl, ⟨trivial, trivial, trivial⟩⟩
  · intro i1 a2 c hii1 h
    refine Tri.seqS ?_
    refine Tri.reg ?_
    refine At.seg 2 [0, 3, 4, 5, 8, 9] [3] (s' := ⟨[(0, .c (.d (.str p0))), (3, .c (.ptr 3 0)), (4, .c (.clo 34 1 [.ptr 3 0])), (5, .c (.d (.int .i64 ((i1 : Nat) : Int)))), (8, .c (.d (.int .i64 (p0.size : Int)))), (9, .c (.d (.int .i64 ((i1 : Nat) : Int))))], [(3, .box [.d (.int .u32 a2)])]⟩) (c := True ∧ True ∧ True) (by kernel_rfl) ⟨trivial, trivial, trivial⟩ ?_
    refine At.done rfl ?_
    show Tri _ _ _ _
    refine Tri.reg ?_
    refine At.seg 4 [0, 3, 4, 8, 9, 12, 15] [3] (s' := ⟨[(0, .c (.d (.str p0))), (3, .c (.ptr 3 0)), (4, .c (.clo 34 1 [.ptr 3 0])), (8, .c (.d (.int .i64 (p0.size : Int)))), (9, .c (.d (.int .i64 ((i1 : Nat) : Int)))), (12, .c (.clo 34 1 [.ptr 3 0])), (15, .c (.d (.int .u8 (bt p0 ((i1 : Nat) : Int)))))], [(3, .box [.d (.int .u32 a2)])]⟩) (c := True ∧ True ∧ True ∧ ((0 : Int) ≤ ((i1 : Nat) : Int) ∧ ((i1 : Nat) : Int) < (p0.size : Int)) ∧ True) (by kernel_rfl) ⟨trivial, trivial, trivial, ⟨by omega, by omega⟩, trivial⟩ ?_
    obtain ⟨r4, hr4, h⟩ := bind_elim h
    refine At.callL (nf := 1) (caps := [.ptr 3 0]) (xs := [.c (.ptr 3 0), .c (.d (.int .u8 (bt p0 ((i1 : Nat) : Int))))]) [(5000, 3)] [0, 3, 4, 8, 9] [] (s0 := ⟨[(0, .c (.d (.str p0))), (3, .c (.ptr 3 0)), (4, .c (.clo 34 1 [.ptr 3 0])), (8, .c (.d (.int .i64 (p0.size : Int)))), (9, .c (.d (.int .i64 ((i1 : Nat) : Int))))], []⟩) (freshet_pack_register_put_w_ok hr4) rfl rfl (by kernel_rfl) rfl (by kernel_rfl) (by kernel_rfl) (.ren rfl rfl (.flat (.refl _) rfl rfl .nil)) ⟨⟨by kernel_rfl, by kernel_rfl⟩, trivial⟩ (by kernel_rfl) (by kernel_rfl) (by kernel_rfl) (by kernel_rfl) (by kernel_rfl) (by kernel_rfl) (by kernel_rfl) (by kernel_rfl) (by kernel_rfl) ⟨[(16, .tup []), (0, .c (.d (.str p0))), (3, .c (.ptr 3 0)), (4, .c (.clo 34 1 [.ptr 3 0])), (8, .c (.d (.int .i64 (p0.size : Int)))), (9, .c (.d (.int .i64 ((i1 : Nat) : Int))))], [(3, .box [.d (.int .u32 r4)])]⟩ (by kernel_rfl) ?_
    refine At.keep [9, 0, 3, 4, 8] [3] (s' := ⟨[(9, .c (.d (.int .i64 ((i1 : Nat) : Int)))), (0, .c (.d (.str p0))), (3, .c (.ptr 3 0)), (4, .c (.clo 34 1 [.ptr 3 0])), (8, .c (.d (.int .i64 (p0.size : Int))))], [(3, .box [.d (.int .u32 r4)])]⟩) (by kernel_rfl) ?_
    refine At.done rfl ?_
    cases h
    exact rfl
  · intro a3 h
    show Tri _ _ _ _
    refine Tri.seqS ?_
    refine Tri.reg ?_
    refine At.seg 3 [2] [] (s' := ⟨[(2, .c (.d (.int .u32 (bitsOp .xor .u32 4294967295 a3))))], []⟩) (c := True ∧ True ∧ True ∧ True) (by kernel_rfl) ⟨trivial, trivial, trivial, trivial⟩ ?_
    refine At.done rfl ?_
    show Tri _ _ _ _
    refine Tri.keep [2] [] (s' := ⟨[(2, .c (.d (.int .u32 (bitsOp .xor .u32 4294967295 a3))))], []⟩) (by kernel_rfl) ?_
    refine Tri.ret ?_
    cases h
    refine ⟨_, _, rfl, ⟨trivial, trivial⟩, rfl, rfl, ?_⟩
    intro k c h
    cases h
  · exact fun x => x.elim

set_option maxRecDepth 100000 in
theorem freshetlaw01_sums_ok  {q : Bool} (h : freshetlaw01_sums = some q) :
    Summ Try.prog 13 [] [] (.c (.d (.bool q))) [] := by
  refine Summ.intro Try.func13 rfl (by kernel_rfl) (by kernel_rfl) [] rfl ?_
  rintro ⟨P, w0, G0, V, LL, lk, N, φ0, fx⟩ rfl rfl rfl rfl
  unfold freshetlaw01_sums at h
  refine Tri.seqS ?_
  refine Tri.reg ?_
  refine At.seg 1 [] [] (s' := ⟨[], []⟩) (c := True ∧ True) (by kernel_rfl) ⟨trivial, trivial⟩ ?_
  refine At.done rfl ?_
  show Tri _ _ _ _
  refine Tri.seqS ?_
  refine Tri.reg ?_
  obtain ⟨r1, hr1, h⟩ := bind_elim h
  refine At.callA (caps := []) (xs := [.c (.d (.str (bs [49, 50, 51, 52, 53, 54, 55, 56, 57])))]) (pack_Sum_ok hr1) rfl rfl rfl rfl rfl rfl (.cons (.refl _) .nil) rfl rfl ?_
  refine At.seg 2 [0] [] (s' := ⟨[(0, .c (.d (.bool (decide (r1 = 3808858755)))))], []⟩) (c := True ∧ True ∧ True) (by kernel_rfl) ⟨trivial, trivial, trivial⟩ ?_
  refine At.done rfl ?_
  show Tri _ _ _ _
  refine Tri.keep [0] [] (s' := ⟨[(0, .c (.d (.bool (decide (r1 = 3808858755)))))], []⟩) (by kernel_rfl) ?_
  refine Tri.ret ?_
  cases h
  refine ⟨_, _, rfl, ⟨trivial, trivial⟩, rfl, rfl, ?_⟩
  intro k c h
  cases h

set_option maxRecDepth 100000 in
theorem freshetref01_Sum_ok {fuel : Nat} {p0 : ByteArray} {q : Int} (h : freshetref01_Sum fuel p0 = some q) :
    Summ Try.prog 15 [.c (.d (.str p0))] [] (.c (.d (.int .u32 q))) [] := by
  refine Summ.intro Try.func15 rfl (by kernel_rfl) (by kernel_rfl) [] rfl ?_
  rintro ⟨P, w0, G0, V, LL, lk, N, φ0, fx⟩ rfl rfl rfl rfl
  unfold freshetref01_Sum at h
  refine Tri.seqS ?_
  refine Tri.reg ?_
  refine At.seg 1 [0] [] (s' := ⟨[(0, .c (.d (.str p0)))], []⟩) (c := True ∧ True) (by kernel_rfl) ⟨trivial, trivial⟩ ?_
  refine At.done rfl ?_
  show Tri _ _ _ _
  refine Tri.seqS ?_
  refine Tri.reg ?_
  refine At.seg 1 [0, 3] [] (s' := ⟨[(0, .c (.d (.str p0))), (3, .c (.d (.int .u32 4294967295)))], []⟩) (c := True ∧ True) (by kernel_rfl) ⟨trivial, trivial⟩ ?_
  refine At.done rfl ?_
  show Tri _ _ _ _
  refine Tri.seqS ?_
  refine Tri.seqS ?_
  refine Tri.reg ?_
  refine At.seg 1 [0, 3, 4] [] (s' := ⟨[(0, .c (.d (.str p0))), (3, .c (.d (.int .u32 4294967295))), (4, .c (.d (.int .i64 0)))], []⟩) (c := True ∧ True) (by kernel_rfl) ⟨trivial, trivial⟩ ?_
  refine At.done rfl ?_
  show Tri _ _ _ _
  refine Tri.keep [0, 3, 4] [] (s' := ⟨[(0, .c (.d (.str p0))), (3, .c (.d (.int .u32 4294967295))), (4, .c (.d (.int .i64 0)))], []⟩) (by kernel_rfl) ?_
  refine Tri.loopK (fuel := fuel) (st0 := (4294967295, 0)) (fun (x : Empty) s => False) (fun (a1 : Int × Int) => ⟨[(0, .c (.d (.str p0))), (3, .c (.d (.int .u32 a1.1))), (4, .c (.d (.int .i64 a1.2)))], []⟩) (fun (a1 : Int × Int) => ⟨[(0, .c (.d (.str p0))), (3, .c (.d (.int .u32 a1.1))), (4, .c (.d (.int .i64 a1.2)))], []⟩) h ?_ ?_ ?_
  · intro a1 c h
    show Tri _ _ ⟨[(0, .c (.d (.str p0))), (3, .c (.d (.int .u32 a1.1))), (4, .c (.d (.int .i64 a1.2)))], []⟩ _
    refine Tri.seqS ?_
    refine Tri.seqS ?_
    refine Tri.reg ?_
    refine At.seg 4 [0, 3, 4, 10] [] (s' := ⟨[(0, .c (.d (.str p0))), (3, .c (.d (.int .u32 a1.1))), (4, .c (.d (.int .i64 a1.2))), (10, .c (.d (.bool (decide (a1.2 < (p0.size : Int))))))], []⟩) (c := True ∧ True ∧ True ∧ True ∧ True) (by kernel_rfl) ⟨trivial, trivial, trivial, trivial, trivial⟩ ?_
    refine At.done rfl ?_
    show Tri _ _ _ _
    refine Tri.condP (b := (decide (a1.2 < (p0.size : Int)))) rfl h (fun h => ?_) (fun h => ?_)
    · refine Tri.skip ?_
      show Tri _ _ _ _
      refine Tri.seqS ?_
      refine Tri.blockB ?_
      refine Tri.seqS ?_
      refine Tri.reg ?_
      obtain ⟨hc3, h⟩ := need_elim h
      refine At.seg 7 [0, 3, 4] [] (s' := ⟨[(0, .c (.d (.str p0))), (3, .c (.d (.int .u32 (bitsOp .xor .u32 a1.1 (IntKind.u32.wrap (bt p0 a1.2)))))), (4, .c (.d (.int .i64 a1.2)))], []⟩) (c := True ∧ True ∧ True ∧ ((0 : Int) ≤ a1.2 ∧ a1.2 < (p0.size : Int)) ∧ True ∧ True ∧ True ∧ True) (by kernel_rfl) ⟨trivial, trivial, trivial, hc3, trivial, trivial, trivial, trivial⟩ ?_
      refine At.done rfl ?_
      show Tri _ _ _ _
      refine Tri.seqS ?_
      refine Tri.reg ?_
      refine At.seg 1 [0, 3, 4, 5] [] (s' := ⟨[(0, .c (.d (.str p0))), (3, .c (.d (.int .u32 (bitsOp .xor .u32 a1.1 (IntKind.u32.wrap (bt p0 a1.2)))))), (4, .c (.d (.int .i64 a1.2))), (5, .c (.d (.int .i64 0)))], []⟩) (c := True ∧ True) (by kernel_rfl) ⟨trivial, trivial⟩ ?_
      refine At.done rfl ?_
      show Tri _ _ _ _
      refine Tri.keep [0, 3, 4, 5] [] (s' := ⟨[(0, .c (.d (.str p0))), (3, .c (.d (.int .u32 (bitsOp .xor .u32 a1.1 (IntKind.u32.wrap (bt p0 a1.2)))))), (4, .c (.d (.int .i64 a1.2))), (5, .c (.d (.int .i64 0)))], []⟩) (by kernel_rfl) ?_
      refine Tri.loopK (fuel := fuel) (st0 := ((bitsOp .xor .u32 a1.1 (IntKind.u32.wrap (bt p0 a1.2))), 0)) (fun (x : Empty) s => False) (fun (a4 : Int × Int) => ⟨[(0, .c (.d (.str p0))), (3, .c (.d (.int .u32 a4.1))), (4, .c (.d (.int .i64 a1.2))), (5, .c (.d (.int .i64 a4.2)))], []⟩) (fun (a4 : Int × Int) => ⟨[(0, .c (.d (.str p0))), (3, .c (.d (.int .u32 a4.1))), (4, .c (.d (.int .i64 a1.2))), (5, .c (.d (.int .i64 a4.2)))], []⟩) h ?_ ?_ ?_
      · intro a4 c h
        show Tri _ _ ⟨[(0, .c (.d (.str p0))), (3, .c (.d (.int .u32 a4.1))), (4, .c (.d (.int .i64 a1.2))), (5, .c (.d (.int .i64 a4.2)))], []⟩ _
        refine Tri.seqS ?_
        refine Tri.seqS ?_
        refine Tri.reg ?_
        refine At.seg 2 [0, 3, 4, 5, 20] [] (s' := ⟨[(0, .c (.d (.str p0))), (3, .c (.d (.int .u32 a4.1))), (4, .c (.d (.int .i64 a1.2))), (5, .c (.d (.int .i64 a4.2))), (20, .c (.d (.bool (decide (a4.2 < 8)))))], []⟩) (c := True ∧ True ∧ True) (by kernel_rfl) ⟨trivial, trivial, trivial⟩ ?_
        refine At.done rfl ?_
        show Tri _ _ _ _
        refine Tri.condP (b := (decide (a4.2 < 8))) rfl h (fun h => ?_) (fun h => ?_)
        · refine Tri.skip ?_
          show Tri _ _ _ _
          refine Tri.seqJ (fun (a6 : Int) => ⟨[(0, .c (.d (.str p0))), (3, .c (.d (.int .u32 a6))), (4, .c (.d (.int .i64 a1.2))), (5, .c (.d (.int .i64 a4.2)))], []⟩) h (fun a6 h => ?_) (fun j7 h => ?_)
          · show Tri _ _ ⟨[(0, .c (.d (.str p0))), (3, .c (.d (.int .u32 a6))), (4, .c (.d (.int .i64 a1.2))), (5, .c (.d (.int .i64 a4.2)))], []⟩ _
            refine Tri.reg ?_
            refine At.seg 3 [0, 3, 4, 5] [] (s' := ⟨[(0, .c (.d (.str p0))), (3, .c (.d (.int .u32 a6))), (4, .c (.d (.int .i64 a1.2))), (5, .c (.d (.int .i64 (IntKind.i64.wrap (a4.2 + 1)))))], []⟩) (c := True ∧ True ∧ True ∧ True) (by kernel_rfl) ⟨trivial, trivial, trivial, trivial⟩ ?_
            refine At.done rfl ?_
            cases h
            exact rfl
          · refine Tri.blockB ?_
            refine Tri.seqS ?_
            refine Tri.reg ?_
            refine At.seg 4 [0, 3, 4, 5, 6] [] (s' := ⟨[(0, .c (.d (.str p0))), (3, .c (.d (.int .u32 a4.1))), (4, .c (.d (.int .i64 a1.2))), (5, .c (.d (.int .i64 a4.2))), (6, .c (.d (.bool (decide ((a4.1.tmod 2) = 1)))))], []⟩) (c := True ∧ ((2 : Int) ≠ 0) ∧ True ∧ True ∧ True) (by kernel_rfl) ⟨trivial, (by decide : (2 : Int) ≠ 0), trivial, trivial, trivial⟩ ?_
            refine At.done rfl ?_
            show Tri _ _ _ _
            refine Tri.seqS ?_
            refine Tri.reg ?_
            refine At.seg 3 [0, 3, 4, 5, 6] [] (s' := ⟨[(0, .c (.d (.str p0))), (3, .c (.d (.int .u32 (IntKind.u32.wrap (a4.1.tdiv 2))))), (4, .c (.d (.int .i64 a1.2))), (5, .c (.d (.int .i64 a4.2))), (6, .c (.d (.bool (decide ((a4.1.tmod 2) = 1)))))], []⟩) (c := True ∧ ((2 : Int) ≠ 0) ∧ True ∧ True) (by kernel_rfl) ⟨trivial, (by decide : (2 : Int) ≠ 0), trivial, trivial⟩ ?_
            refine At.done rfl ?_
            show Tri _ _ _ _
            refine Tri.seqS ?_
            refine Tri.reg ?_
            refine At.seg 1 [0, 3, 4, 5, 28] [] (s' := ⟨[(0, .c (.d (.str p0))), (3, .c (.d (.int .u32 (IntKind.u32.wrap (a4.1.tdiv 2))))), (4, .c (.d (.int .i64 a1.2))), (5, .c (.d (.int .i64 a4.2))), (28, .c (.d (.bool (decide ((a4.1.tmod 2) = 1)))))], []⟩) (c := True ∧ True) (by kernel_rfl) ⟨trivial, trivial⟩ ?_
            refine At.done rfl ?_
            show Tri _ _ _ _
            refine Tri.condP (b := (decide ((a4.1.tmod 2) = 1))) rfl h (fun h => ?_) (fun h => ?_)
            · refine Tri.reg ?_
              refine At.seg 3 [0, 3, 4, 5] [] (s' := ⟨[(0, .c (.d (.str p0))), (3, .c (.d (.int .u32 (bitsOp .xor .u32 (IntKind.u32.wrap (a4.1.tdiv 2)) 2197175160)))), (4, .c (.d (.int .i64 a1.2))), (5, .c (.d (.int .i64 a4.2)))], []⟩) (c := True ∧ True ∧ True ∧ True) (by kernel_rfl) ⟨trivial, trivial, trivial, trivial⟩ ?_
              refine At.done rfl ?_
              exact ⟨_, h, rfl⟩
            · refine Tri.keep [0, 3, 4, 5] [] (s' := ⟨[(0, .c (.d (.str p0))), (3, .c (.d (.int .u32 (IntKind.u32.wrap (a4.1.tdiv 2))))), (4, .c (.d (.int .i64 a1.2))), (5, .c (.d (.int .i64 a4.2)))], []⟩) (by kernel_rfl) ?_
              refine Tri.skip ?_
              exact ⟨_, h, rfl⟩
        · refine Tri.keep [0, 3, 4, 5] [] (s' := ⟨[(0, .c (.d (.str p0))), (3, .c (.d (.int .u32 a4.1))), (4, .c (.d (.int .i64 a1.2))), (5, .c (.d (.int .i64 a4.2)))], []⟩) (by kernel_rfl) ?_
          refine Tri.exit ?_
          cases h
          exact ⟨rfl, rfl⟩
      · intro a5 h
        show Tri _ _ _ _
        refine Tri.reg ?_
        refine At.seg 3 [0, 3, 4] [] (s' := ⟨[(0, .c (.d (.str p0))), (3, .c (.d (.int .u32 a5.1))), (4, .c (.d (.int .i64 (IntKind.i64.wrap (a1.2 + 1)))))], []⟩) (c := True ∧ True ∧ True ∧ True) (by kernel_rfl) ⟨trivial, trivial, trivial, trivial⟩ ?_
        refine At.done rfl ?_
        cases h
        exact rfl
      · exact fun x => x.elim
    · refine Tri.keep [0, 3, 4] [] (s' := ⟨[(0, .c (.d (.str p0))), (3, .c (.d (.int .u32 a1.1))), (4, .c (.d (.int .i64 a1.2)))], []⟩) (by kernel_rfl) ?_
      refine Tri.exit ?_
      cases h
      exact ⟨rfl, rfl⟩
  · intro a2 h
    show Tri _ _ _ _
    refine Tri.seqS ?_
    refine Tri.reg ?_
    refine At.seg 3 [2] [] (s' := ⟨[(2, .c (.d (.int .u32 (IntKind.u32.wrap ((4294967295 : Int) - a2.1)))))], []⟩) (c := True ∧ True ∧ True ∧ True) (by kernel_rfl) ⟨trivial, trivial, trivial, trivial⟩ ?_
    refine At.done rfl ?_
    show Tri _ _ _ _
    refine Tri.keep [2] [] (s' := ⟨[(2, .c (.d (.int .u32 (IntKind.u32.wrap ((4294967295 : Int) - a2.1)))))], []⟩) (by kernel_rfl) ?_
    refine Tri.ret ?_
    cases h
    refine ⟨_, _, rfl, ⟨trivial, trivial⟩, rfl, rfl, ?_⟩
    intro k c h
    cases h
  · exact fun x => x.elim

set_option maxRecDepth 100000 in
theorem freshetlaw01_PackSums_ok {fuel : Nat} {p0 : ByteArray} {q : Bool} (h : freshetlaw01_PackSums fuel p0 = some q) :
    Summ Try.prog 3 [.c (.d (.str p0))] [] (.c (.d (.bool q))) [] := by
  refine Summ.intro Try.func3 rfl (by kernel_rfl) (by kernel_rfl) [] rfl ?_
  rintro ⟨P, w0, G0, V, LL, lk, N, φ0, fx⟩ rfl rfl rfl rfl
  unfold freshetlaw01_PackSums at h
  refine Tri.seqS ?_
  refine Tri.reg ?_
  refine At.seg 1 [0] [] (s' := ⟨[(0, .c (.d (.str p0)))], []⟩) (c := True ∧ True) (by kernel_rfl) ⟨trivial, trivial⟩ ?_
  refine At.done rfl ?_
  show Tri _ _ _ _
  refine Tri.seqJ (fun (a1 : Bool) => ⟨[(2, .c (.d (.bool a1)))], []⟩) h (fun a1 h => ?_) (fun j2 h => ?_)
  · show Tri _ _ ⟨[(2, .c (.d (.bool a1)))], []⟩ _
    refine Tri.keep [2] [] (s' := ⟨[(2, .c (.d (.bool a1)))], []⟩) (by kernel_rfl) ?_
    refine Tri.ret ?_
    cases h
    refine ⟨_, _, rfl, ⟨trivial, trivial⟩, rfl, rfl, ?_⟩
    intro k c h
    cases h
  · refine Tri.reg ?_
    obtain ⟨r3, hr3, h⟩ := bind_elim h
    refine At.callA (caps := []) (xs := []) (freshetlaw01_sums_ok hr3) rfl rfl rfl rfl rfl rfl .nil rfl rfl ?_
    refine At.seg 1 [0, 4] [] (s' := ⟨[(0, .c (.d (.str p0))), (4, .c (.d (.bool r3)))], []⟩) (c := True ∧ True) (by kernel_rfl) ⟨trivial, trivial⟩ ?_
    refine At.case (fun b => ⟨[(0, .c (.d (.str p0))), (4, .c (.d (.bool b)))], []⟩) (b := r3) h (fun h => ?_) (fun h => ?_)
    · refine At.seg 1 [0, 4, 5] [] (s' := ⟨[(0, .c (.d (.str p0))), (4, .c (.d (.bool true))), (5, .c (.d (.str p0)))], []⟩) (c := True ∧ True) (by kernel_rfl) ⟨trivial, trivial⟩ ?_
      obtain ⟨r4, hr4, h⟩ := bind_elim h
      refine At.callA (caps := []) (xs := [.c (.d (.str p0))]) (pack_Sum_ok hr4) rfl rfl rfl rfl rfl rfl (.cons (.refl _) .nil) rfl rfl ?_
      refine At.seg 1 [4, 6, 7] [] (s' := ⟨[(4, .c (.d (.bool true))), (6, .c (.d (.int .u32 r4))), (7, .c (.d (.str p0)))], []⟩) (c := True ∧ True) (by kernel_rfl) ⟨trivial, trivial⟩ ?_
      obtain ⟨r5, hr5, h⟩ := bind_elim h
      refine At.callA (caps := []) (xs := [.c (.d (.str p0))]) (freshetref01_Sum_ok hr5) rfl rfl rfl rfl rfl rfl (.cons (.refl _) .nil) rfl rfl ?_
      refine At.seg 3 [2] [] (s' := ⟨[(2, .c (.d (.bool (decide (r4 = r5)))))], []⟩) (c := True ∧ True ∧ True ∧ True) (by kernel_rfl) ⟨trivial, trivial, trivial, trivial⟩ ?_
      refine At.done rfl ?_
      exact ⟨_, h, rfl⟩
    · refine At.seg 7 [2] [] (s' := ⟨[(2, .c (.d (.bool false)))], []⟩) (c := True ∧ True ∧ True) (by kernel_rfl) ⟨trivial, trivial, trivial⟩ ?_
      refine At.done rfl ?_
      exact ⟨_, h, rfl⟩

set_option maxRecDepth 100000 in
theorem math_bits_Len64_ok {p0 : Int} {q : Int} (h : math_bits_Len64 p0 = some q) :
    Summ Try.prog 35 [.c (.d (.int .u64 p0))] [] (.c (.d (.int .i64 q))) [] := by
  refine Summ.intro Try.func35 rfl (by kernel_rfl) (by kernel_rfl) [] rfl ?_
  rintro ⟨P, w0, G0, V, LL, lk, N, φ0, fx⟩ rfl rfl rfl rfl
  unfold math_bits_Len64 at h
  refine Tri.seqS ?_
  refine Tri.reg ?_
  refine At.seg 1 [0, 2] [] (s' := ⟨[(0, .c (.d (.int .u64 p0))), (2, .c (.d (.int .i64 0)))], []⟩) (c := True ∧ True) (by kernel_rfl) ⟨trivial, trivial⟩ ?_
  refine At.done rfl ?_
  show Tri _ _ _ _
  refine Tri.seqJ (fun (a1 : Int × Int) => ⟨[(0, .c (.d (.int .u64 a1.1))), (2, .c (.d (.int .i64 a1.2)))], []⟩) h (fun a1 h => ?_) (fun j2 h => ?_)
  · show Tri _ _ ⟨[(0, .c (.d (.int .u64 a1.1))), (2, .c (.d (.int .i64 a1.2)))], []⟩ _
    refine Tri.seqJ (fun (a3 : Int × Int) => ⟨[(0, .c (.d (.int .u64 a3.1))), (2, .c (.d (.int .i64 a3.2)))], []⟩) h (fun a3 h => ?_) (fun j4 h => ?_)
    · show Tri _ _ ⟨[(0, .c (.d (.int .u64 a3.1))), (2, .c (.d (.int .i64 a3.2)))], []⟩ _
      refine Tri.seqJ (fun (a5 : Int × Int) => ⟨[(0, .c (.d (.int .u64 a5.1))), (2, .c (.d (.int .i64 a5.2)))], []⟩) h (fun a5 h => ?_) (fun j6 h => ?_)
      · show Tri _ _ ⟨[(0, .c (.d (.int .u64 a5.1))), (2, .c (.d (.int .i64 a5.2)))], []⟩ _
        refine Tri.seqS ?_
        refine Tri.reg ?_
        obtain ⟨hc7, h⟩ := need_elim h
        refine At.seg 7 [2] [] (s' := ⟨[(2, .c (.d (.int .i64 (IntKind.i64.wrap (a5.2 + (IntKind.i64.wrap (bt lit_256_1d3e63 (IntKind.u8.wrap a5.1))))))))], []⟩) (c := True ∧ True ∧ True ∧ ((0 : Int) ≤ (IntKind.u8.wrap a5.1) ∧ (IntKind.u8.wrap a5.1) < (lit_256_1d3e63.size : Int)) ∧ True ∧ True ∧ True ∧ True) (by kernel_rfl) ⟨trivial, trivial, trivial, hc7, trivial, trivial, trivial, trivial⟩ ?_
        refine At.done rfl ?_
        show Tri _ _ _ _
        refine Tri.keep [2] [] (s' := ⟨[(2, .c (.d (.int .i64 (IntKind.i64.wrap (a5.2 + (IntKind.i64.wrap (bt lit_256_1d3e63 (IntKind.u8.wrap a5.1))))))))], []⟩) (by kernel_rfl) ?_
        refine Tri.ret ?_
        cases h
        refine ⟨_, _, rfl, ⟨trivial, trivial⟩, rfl, rfl, ?_⟩
        intro k c h
        cases h
      · refine Tri.seqS ?_
        refine Tri.reg ?_
        refine At.seg 2 [0, 2, 14] [] (s' := ⟨[(0, .c (.d (.int .u64 a3.1))), (2, .c (.d (.int .i64 a3.2))), (14, .c (.d (.bool (decide (256 ≤ a3.1)))))], []⟩) (c := True ∧ True ∧ True) (by kernel_rfl) ⟨trivial, trivial, trivial⟩ ?_
        refine At.done rfl ?_
        show Tri _ _ _ _
        refine Tri.condP (b := (decide (256 ≤ a3.1))) rfl h (fun h => ?_) (fun h => ?_)
        · refine Tri.seqS ?_
          refine Tri.reg ?_
          refine At.seg 3 [0, 2] [] (s' := ⟨[(0, .c (.d (.int .u64 (shrOp .u64 a3.1 8)))), (2, .c (.d (.int .i64 a3.2)))], []⟩) (c := True ∧ ((0 : Int) ≤ 8) ∧ True ∧ True) (by kernel_rfl) ⟨trivial, (by decide : (0 : Int) ≤ 8), trivial, trivial⟩ ?_
          refine At.done rfl ?_
          show Tri _ _ _ _
          refine Tri.reg ?_
          refine At.seg 3 [0, 2] [] (s' := ⟨[(0, .c (.d (.int .u64 (shrOp .u64 a3.1 8)))), (2, .c (.d (.int .i64 (IntKind.i64.wrap (a3.2 + 8)))))], []⟩) (c := True ∧ True ∧ True ∧ True) (by kernel_rfl) ⟨trivial, trivial, trivial, trivial⟩ ?_
          refine At.done rfl ?_
          exact ⟨_, h, rfl⟩
        · refine Tri.keep [0, 2] [] (s' := ⟨[(0, .c (.d (.int .u64 a3.1))), (2, .c (.d (.int .i64 a3.2)))], []⟩) (by kernel_rfl) ?_
          refine Tri.skip ?_
          exact ⟨_, h, rfl⟩
    · refine Tri.seqS ?_
      refine Tri.reg ?_
      refine At.seg 2 [0, 2, 8] [] (s' := ⟨[(0, .c (.d (.int .u64 a1.1))), (2, .c (.d (.int .i64 a1.2))), (8, .c (.d (.bool (decide (65536 ≤ a1.1)))))], []⟩) (c := True ∧ True ∧ True) (by kernel_rfl) ⟨trivial, trivial, trivial⟩ ?_
      refine At.done rfl ?_
      show Tri _ _ _ _
      refine Tri.condP (b := (decide (65536 ≤ a1.1))) rfl h (fun h => ?_) (fun h => ?_)
      · refine Tri.seqS ?_
        refine Tri.reg ?_
        refine At.seg 3 [0, 2] [] (s' := ⟨[(0, .c (.d (.int .u64 (shrOp .u64 a1.1 16)))), (2, .c (.d (.int .i64 a1.2)))], []⟩) (c := True ∧ ((0 : Int) ≤ 16) ∧ True ∧ True) (by kernel_rfl) ⟨trivial, (by decide : (0 : Int) ≤ 16), trivial, trivial⟩ ?_
        refine At.done rfl ?_
        show Tri _ _ _ _
        refine Tri.reg ?_
        refine At.seg 3 [0, 2] [] (s' := ⟨[(0, .c (.d (.int .u64 (shrOp .u64 a1.1 16)))), (2, .c (.d (.int .i64 (IntKind.i64.wrap (a1.2 + 16)))))], []⟩) (c := True ∧ True ∧ True ∧ True) (by kernel_rfl) ⟨trivial, trivial, trivial, trivial⟩ ?_
        refine At.done rfl ?_
        exact ⟨_, h, rfl⟩
      · refine Tri.keep [0, 2] [] (s' := ⟨[(0, .c (.d (.int .u64 a1.1))), (2, .c (.d (.int .i64 a1.2)))], []⟩) (by kernel_rfl) ?_
        refine Tri.skip ?_
        exact ⟨_, h, rfl⟩
  · refine Tri.seqS ?_
    refine Tri.reg ?_
    refine At.seg 2 [0, 2, 4] [] (s' := ⟨[(0, .c (.d (.int .u64 p0))), (2, .c (.d (.int .i64 0))), (4, .c (.d (.bool (decide (4294967296 ≤ p0)))))], []⟩) (c := True ∧ True ∧ True) (by kernel_rfl) ⟨trivial, trivial, trivial⟩ ?_
    refine At.done rfl ?_
    show Tri _ _ _ _
    refine Tri.condP (b := (decide (4294967296 ≤ p0))) rfl h (fun h => ?_) (fun h => ?_)
    · refine Tri.seqS ?_
      refine Tri.reg ?_
      refine At.seg 3 [0] [] (s' := ⟨[(0, .c (.d (.int .u64 (shrOp .u64 p0 32))))], []⟩) (c := True ∧ ((0 : Int) ≤ 32) ∧ True ∧ True) (by kernel_rfl) ⟨trivial, (by decide : (0 : Int) ≤ 32), trivial, trivial⟩ ?_
      refine At.done rfl ?_
      show Tri _ _ _ _
      refine Tri.reg ?_
      refine At.seg 1 [0, 2] [] (s' := ⟨[(0, .c (.d (.int .u64 (shrOp .u64 p0 32)))), (2, .c (.d (.int .i64 32)))], []⟩) (c := True ∧ True) (by kernel_rfl) ⟨trivial, trivial⟩ ?_
      refine At.done rfl ?_
      exact ⟨_, h, rfl⟩
    · refine Tri.keep [0, 2] [] (s' := ⟨[(0, .c (.d (.int .u64 p0))), (2, .c (.d (.int .i64 0)))], []⟩) (by kernel_rfl) ?_
      refine Tri.skip ?_
      exact ⟨_, h, rfl⟩

set_option maxRecDepth 100000 in
theorem pack_Count_ok {p0 : Int} {q : ByteArray} (h : pack_Count p0 = some q) :
    Summ Try.prog 17 [.c (.d (.int .u64 p0))] [] (.c (.d (.str q))) [] := by
  refine Summ.intro Try.func17 rfl (by kernel_rfl) (by kernel_rfl) [] rfl ?_
  rintro ⟨P, w0, G0, V, LL, lk, N, φ0, fx⟩ rfl rfl rfl rfl
  unfold pack_Count at h
  refine Tri.seqS ?_
  refine Tri.reg ?_
  refine At.seg 1 [0] [] (s' := ⟨[(0, .c (.d (.int .u64 p0)))], []⟩) (c := True ∧ True) (by kernel_rfl) ⟨trivial, trivial⟩ ?_
  refine At.done rfl ?_
  show Tri _ _ _ _
  refine Tri.seqS ?_
  refine Tri.reg ?_
  refine At.seg 1 [0, 6] [] (s' := ⟨[(0, .c (.d (.int .u64 p0))), (6, .c (.d (.int .u64 p0)))], []⟩) (c := True ∧ True) (by kernel_rfl) ⟨trivial, trivial⟩ ?_
  obtain ⟨r1, hr1, h⟩ := bind_elim h
  refine At.callA (caps := []) (xs := [.c (.d (.int .u64 p0))]) (math_bits_Len64_ok hr1) rfl rfl rfl rfl rfl rfl (.cons (.refl _) .nil) rfl rfl ?_
  refine At.seg 4 [0, 3] [] (s' := ⟨[(0, .c (.d (.int .u64 p0))), (3, .c (.d (.int .i64 (if 1 < (IntKind.i64.wrap ((IntKind.i64.wrap (r1 + 6)).tdiv 7)) then (IntKind.i64.wrap ((IntKind.i64.wrap (r1 + 6)).tdiv 7)) else 1))))], []⟩) (c := True ∧ ((7 : Int) ≠ 0) ∧ True ∧ True ∧ True) (by kernel_rfl) ⟨trivial, (by decide : (7 : Int) ≠ 0), trivial, trivial, trivial⟩ ?_
  refine At.done rfl ?_
  show Tri _ _ _ _
  refine Tri.seqS ?_
  refine Tri.reg ?_
  refine At.seg 1 [0, 3, 11] [] (s' := ⟨[(0, .c (.d (.int .u64 p0))), (3, .c (.d (.int .i64 (if 1 < (IntKind.i64.wrap ((IntKind.i64.wrap (r1 + 6)).tdiv 7)) then (IntKind.i64.wrap ((IntKind.i64.wrap (r1 + 6)).tdiv 7)) else 1)))), (11, .c (.d (.int .i64 (if 1 < (IntKind.i64.wrap ((IntKind.i64.wrap (r1 + 6)).tdiv 7)) then (IntKind.i64.wrap ((IntKind.i64.wrap (r1 + 6)).tdiv 7)) else 1))))], []⟩) (c := True ∧ True) (by kernel_rfl) ⟨trivial, trivial⟩ ?_
  obtain ⟨hc2, h⟩ := need_elim h
  refine At.one rfl (One.makeT (e := 5) (es := 1) (bs := 1) (n := (if 1 < (IntKind.i64.wrap ((IntKind.i64.wrap (r1 + 6)).tdiv 7)) then (IntKind.i64.wrap ((IntKind.i64.wrap (r1 + 6)).tdiv 7)) else 1)) (c := (if 1 < (IntKind.i64.wrap ((IntKind.i64.wrap (r1 + 6)).tdiv 7)) then (IntKind.i64.wrap ((IntKind.i64.wrap (r1 + 6)).tdiv 7)) else 1)) (z := [.d (.int .u8 0)]) (encInt .u8) (0 : Int) rfl rfl rfl rfl (by kernel_rfl) rfl rfl rfl (by kernel_rfl) rfl (by kernel_rfl) rfl (.refl _) rfl rfl rfl hc2.1 hc2.2.1 hc2.2.2 rfl) ?_
  refine At.seg 1 [0, 3, 4] [12] (s' := ⟨[(0, .c (.d (.int .u64 p0))), (3, .c (.d (.int .i64 (if 1 < (IntKind.i64.wrap ((IntKind.i64.wrap (r1 + 6)).tdiv 7)) then (IntKind.i64.wrap ((IntKind.i64.wrap (r1 + 6)).tdiv 7)) else 1)))), (4, .c (.own 12 1 0 ((List.replicate ((if 1 < (IntKind.i64.wrap ((IntKind.i64.wrap (r1 + 6)).tdiv 7)) then (IntKind.i64.wrap ((IntKind.i64.wrap (r1 + 6)).tdiv 7)) else 1).toNat) (0 : Int)).length)))], [(12, .vec 1 (List.replicate ((if 1 < (IntKind.i64.wrap ((IntKind.i64.wrap (r1 + 6)).tdiv 7)) then (IntKind.i64.wrap ((IntKind.i64.wrap (r1 + 6)).tdiv 7)) else 1).toNat) (0 : Int)).length (fun i => encInt .u8 ((List.replicate ((if 1 < (IntKind.i64.wrap ((IntKind.i64.wrap (r1 + 6)).tdiv 7)) then (IntKind.i64.wrap ((IntKind.i64.wrap (r1 + 6)).tdiv 7)) else 1).toNat) (0 : Int)).getD i default)))]⟩) (c := True ∧ True) (by kernel_rfl) ⟨trivial, trivial⟩ ?_
  refine At.done rfl ?_
  show Tri _ _ _ _
  refine Tri.seqS ?_
  refine Tri.seqS ?_
  refine Tri.reg ?_
  refine At.seg 3 [0, 3, 4, 14, 15] [12] (s' := ⟨[(0, .c (.d (.int .u64 p0))), (3, .c (.d (.int .i64 (if 1 < (IntKind.i64.wrap ((IntKind.i64.wrap (r1 + 6)).tdiv 7)) then (IntKind.i64.wrap ((IntKind.i64.wrap (r1 + 6)).tdiv 7)) else 1)))), (4, .c (.own 12 1 0 ((List.replicate ((if 1 < (IntKind.i64.wrap ((IntKind.i64.wrap (r1 + 6)).tdiv 7)) then (IntKind.i64.wrap ((IntKind.i64.wrap (r1 + 6)).tdiv 7)) else 1).toNat) (0 : Int)).length))), (14, .c (.d (.int .i64 ((List.replicate ((if 1 < (IntKind.i64.wrap ((IntKind.i64.wrap (r1 + 6)).tdiv 7)) then (IntKind.i64.wrap ((IntKind.i64.wrap (r1 + 6)).tdiv 7)) else 1).toNat) (0 : Int)).length : Int)))), (15, .c (.d (.int .i64 0)))], [(12, .vec 1 (List.replicate ((if 1 < (IntKind.i64.wrap ((IntKind.i64.wrap (r1 + 6)).tdiv 7)) then (IntKind.i64.wrap ((IntKind.i64.wrap (r1 + 6)).tdiv 7)) else 1).toNat) (0 : Int)).length (fun i => encInt .u8 ((List.replicate ((if 1 < (IntKind.i64.wrap ((IntKind.i64.wrap (r1 + 6)).tdiv 7)) then (IntKind.i64.wrap ((IntKind.i64.wrap (r1 + 6)).tdiv 7)) else 1).toNat) (0 : Int)).getD i default)))]⟩) (c := True ∧ True ∧ True ∧ True) (by kernel_rfl) ⟨trivial, trivial, trivial, trivial⟩ ?_
  refine At.done rfl ?_
  show Tri _ _ _ _
  refine Tri.lenOfO (t := 4) rfl rfl (Nat.le_refl _) fun hlena4 => ?_
  refine Tri.keep [15, 0, 3, 4, 14] [12] (s' := idx 15 0 ⟨[(0, .c (.d (.int .u64 p0))), (3, .c (.d (.int .i64 (if 1 < (IntKind.i64.wrap ((IntKind.i64.wrap (r1 + 6)).tdiv 7)) then (IntKind.i64.wrap ((IntKind.i64.wrap (r1 + 6)).tdiv 7)) else 1)))), (4, .c (.own 12 1 0 ((List.replicate ((if 1 < (IntKind.i64.wrap ((IntKind.i64.wrap (r1 + 6)).tdiv 7)) then (IntKind.i64.wrap ((IntKind.i64.wrap (r1 + 6)).tdiv 7)) else 1).toNat) (0 : Int)).length))), (14, .c (.d (.int .i64 ((List.replicate ((if 1 < (IntKind.i64.wrap ((IntKind.i64.wrap (r1 + 6)).tdiv 7)) then (IntKind.i64.wrap ((IntKind.i64.wrap (r1 + 6)).tdiv 7)) else 1).toNat) (0 : Int)).length : Int))))], [(12, .vec 1 (List.replicate ((if 1 < (IntKind.i64.wrap ((IntKind.i64.wrap (r1 + 6)).tdiv 7)) then (IntKind.i64.wrap ((IntKind.i64.wrap (r1 + 6)).tdiv 7)) else 1).toNat) (0 : Int)).length (fun i => encInt .u8 ((List.replicate ((if 1 < (IntKind.i64.wrap ((IntKind.i64.wrap (r1 + 6)).tdiv 7)) then (IntKind.i64.wrap ((IntKind.i64.wrap (r1 + 6)).tdiv 7)) else 1).toNat) (0 : Int)).getD i default)))]⟩) (by kernel_rfl) ?_
  refine Tri.range (n := (List.replicate ((if 1 < (IntKind.i64.wrap ((IntKind.i64.wrap (r1 + 6)).tdiv 7)) then (IntKind.i64.wrap ((IntKind.i64.wrap (r1 + 6)).tdiv 7)) else 1).toNat) (0 : Int)).length) (st0 := (List.replicate ((if 1 < (IntKind.i64.wrap ((IntKind.i64.wrap (r1 + 6)).tdiv 7)) then (IntKind.i64.wrap ((IntKind.i64.wrap (r1 + 6)).tdiv 7)) else 1).toNat) (0 : Int))) (fun (x : Empty) s => False) (fun (a4 : List Int) => ⟨[(0, .c (.d (.int .u64 p0))), (3, .c (.d (.int .i64 (if 1 < (IntKind.i64.wrap ((IntKind.i64.wrap (r1 + 6)).tdiv 7)) then (IntKind.i64.wrap ((IntKind.i64.wrap (r1 + 6)).tdiv 7)) else 1)))), (4, .c (.own 12 1 0 a4.length)), (14, .c (.d (.int .i64 ((List.replicate ((if 1 < (IntKind.i64.wrap ((IntKind.i64.wrap (r1 + 6)).tdiv 7)) then (IntKind.i64.wrap ((IntKind.i64.wrap (r1 + 6)).tdiv 7)) else 1).toNat) (0 : Int)).length : Int))))], [(12, .vec 1 a4.length (fun i => encInt .u8 (a4.getD i default)))]⟩) (fun (a4 : List Int) => ⟨[(0, .c (.d (.int .u64 p0))), (3, .c (.d (.int .i64 (if 1 < (IntKind.i64.wrap ((IntKind.i64.wrap (r1 + 6)).tdiv 7)) then (IntKind.i64.wrap ((IntKind.i64.wrap (r1 + 6)).tdiv 7)) else 1)))), (4, .c (.own 12 1 0 a4.length)), (14, .c (.d (.int .i64 ((List.replicate ((if 1 < (IntKind.i64.wrap ((IntKind.i64.wrap (r1 + 6)).tdiv 7)) then (IntKind.i64.wrap ((IntKind.i64.wrap (r1 + 6)).tdiv 7)) else 1).toNat) (0 : Int)).length : Int))))], [(12, .vec 1 a4.length (fun i => encInt .u8 (a4.getD i default)))]⟩) (fun i => decide ((i : Int) < ((List.replicate ((if 1 < (IntKind.i64.wrap ((IntKind.i64.wrap (r1 + 6)).tdiv 7)) then (IntKind.i64.wrap ((IntKind.i64.wrap (r1 + 6)).tdiv 7)) else 1).toNat) (0 : Int)).length : Int))) [16, 15, 0, 3, 4, 14] [12] [0, 3, 4, 14] [12] [15, 0, 3, 4, 14] [12] h hlena4 rfl ?_ ?_ ?_ ?_ ?_ ?_ ?_ ?_
  · exact fun i a => ⟨True ∧ True, by kernel_rfl, ⟨trivial, trivial⟩⟩
  · exact fun i hi => decide_eq_true (by omega)
  · exact decide_eq_false (by omega)
  · exact fun a => by kernel_rfl
  · exact fun i a => ⟨True ∧ True ∧ True, by kernel_rfl, ⟨trivial, trivial, trivial⟩⟩
  · intro i3 a4 c hii3 h
    refine Tri.seqS ?_
    refine Tri.reg ?_
    refine At.seg 2 [0, 3, 4, 5, 14, 15] [12] (s' := ⟨[(0, .c (.d (.int .u64 p0))), (3, .c (.d (.int .i64 (if 1 < (IntKind.i64.wrap ((IntKind.i64.wrap (r1 + 6)).tdiv 7)) then (IntKind.i64.wrap ((IntKind.i64.wrap (r1 + 6)).tdiv 7)) else 1)))), (4, .c (.own 12 1 0 a4.length)), (5, .c (.d (.int .i64 ((i3 : Nat) : Int)))), (14, .c (.d (.int .i64 ((List.replicate ((if 1 < (IntKind.i64.wrap ((IntKind.i64.wrap (r1 + 6)).tdiv 7)) then (IntKind.i64.wrap ((IntKind.i64.wrap (r1 + 6)).tdiv 7)) else 1).toNat) (0 : Int)).length : Int)))), (15, .c (.d (.int .i64 ((i3 : Nat) : Int))))], [(12, .vec 1 a4.length (fun i => encInt .u8 (a4.getD i default)))]⟩) (c := True ∧ True ∧ True) (by kernel_rfl) ⟨trivial, trivial, trivial⟩ ?_
    refine At.done rfl ?_
    show Tri _ _ _ _
    refine Tri.reg ?_
    obtain ⟨hc10, h⟩ := need_elim h
    obtain ⟨hc11, h⟩ := need_elim h
    refine At.seg 9 [0, 3, 4, 14, 15, 25, 26] [12] (s' := ⟨[(0, .c (.d (.int .u64 p0))), (3, .c (.d (.int .i64 (if 1 < (IntKind.i64.wrap ((IntKind.i64.wrap (r1 + 6)).tdiv 7)) then (IntKind.i64.wrap ((IntKind.i64.wrap (r1 + 6)).tdiv 7)) else 1)))), (4, .c (.own 12 1 0 a4.length)), (14, .c (.d (.int .i64 ((List.replicate ((if 1 < (IntKind.i64.wrap ((IntKind.i64.wrap (r1 + 6)).tdiv 7)) then (IntKind.i64.wrap ((IntKind.i64.wrap (r1 + 6)).tdiv 7)) else 1).toNat) (0 : Int)).length : Int)))), (15, .c (.d (.int .i64 ((i3 : Nat) : Int)))), (25, .c (.d (.int .u8 (bitsOp .or .u8 (IntKind.u8.wrap (shrOp .u64 p0 (IntKind.i64.wrap ((7 : Int) * ((i3 : Nat) : Int))))) 128)))), (26, .c (.vptr 12 1 (0 + i3) 0))], [(12, .vec 1 a4.length (fun i => encInt .u8 (a4.getD i default)))]⟩) (c := True ∧ True ∧ True ∧ True ∧ True ∧ ((0 : Int) ≤ (IntKind.i64.wrap ((7 : Int) * ((i3 : Nat) : Int)))) ∧ True ∧ True ∧ ((0 : Int) ≤ ((i3 : Nat) : Int) ∧ ((i3 : Nat) : Int) < (a4.length : Int)) ∧ True) (by kernel_rfl) ⟨trivial, trivial, trivial, trivial, trivial, hc10, trivial, trivial, hc11, trivial⟩ ?_
    obtain ⟨hc12, h⟩ := need_elim h
    refine At.one rfl (One.storeT (xs := [.d (.int .u8 (bitsOp .or .u8 (IntKind.u8.wrap (shrOp .u64 p0 (IntKind.i64.wrap ((7 : Int) * ((i3 : Nat) : Int))))) 128))]) (ds := [.int .u8 (bitsOp .or .u8 (IntKind.u8.wrap (shrOp .u64 p0 (IntKind.i64.wrap ((7 : Int) * ((i3 : Nat) : Int))))) 128)]) (encInt .u8) a4 (bitsOp .or .u8 (IntKind.u8.wrap (shrOp .u64 p0 (IntKind.i64.wrap ((7 : Int) * ((i3 : Nat) : Int))))) 128) rfl rfl rfl rfl rfl hc12 rfl rfl (.refl _) rfl rfl rfl rfl) ?_
    refine At.keep [0, 3, 4, 14, 15] [12] (s' := ⟨[(0, .c (.d (.int .u64 p0))), (3, .c (.d (.int .i64 (if 1 < (IntKind.i64.wrap ((IntKind.i64.wrap (r1 + 6)).tdiv 7)) then (IntKind.i64.wrap ((IntKind.i64.wrap (r1 + 6)).tdiv 7)) else 1)))), (4, .c (.own 12 1 0 a4.length)), (14, .c (.d (.int .i64 ((List.replicate ((if 1 < (IntKind.i64.wrap ((IntKind.i64.wrap (r1 + 6)).tdiv 7)) then (IntKind.i64.wrap ((IntKind.i64.wrap (r1 + 6)).tdiv 7)) else 1).toNat) (0 : Int)).length : Int)))), (15, .c (.d (.int .i64 ((i3 : Nat) : Int))))], [(12, .vec 1 (a4.set (0 + i3) (bitsOp .or .u8 (IntKind.u8.wrap (shrOp .u64 p0 (IntKind.i64.wrap ((7 : Int) * ((i3 : Nat) : Int))))) 128)).length (fun i => encInt .u8 ((a4.set (0 + i3) (bitsOp .or .u8 (IntKind.u8.wrap (shrOp .u64 p0 (IntKind.i64.wrap ((7 : Int) * ((i3 : Nat) : Int))))) 128)).getD i default)))]⟩) (by kernel_rfl) ?_
    refine At.eqS (s' := ⟨[(0, .c (.d (.int .u64 p0))), (3, .c (.d (.int .i64 (if 1 < (IntKind.i64.wrap ((IntKind.i64.wrap (r1 + 6)).tdiv 7)) then (IntKind.i64.wrap ((IntKind.i64.wrap (r1 + 6)).tdiv 7)) else 1)))), (4, .c (.own 12 1 0 ((a4.set (0 + i3) (bitsOp .or .u8 (IntKind.u8.wrap (shrOp .u64 p0 (IntKind.i64.wrap ((7 : Int) * ((i3 : Nat) : Int))))) 128)).length))), (14, .c (.d (.int .i64 ((List.replicate ((if 1 < (IntKind.i64.wrap ((IntKind.i64.wrap (r1 + 6)).tdiv 7)) then (IntKind.i64.wrap ((IntKind.i64.wrap (r1 + 6)).tdiv 7)) else 1).toNat) (0 : Int)).length : Int)))), (15, .c (.d (.int .i64 ((i3 : Nat) : Int))))], [(12, .vec 1 (a4.set (0 + i3) (bitsOp .or .u8 (IntKind.u8.wrap (shrOp .u64 p0 (IntKind.i64.wrap ((7 : Int) * ((i3 : Nat) : Int))))) 128)).length (fun i => encInt .u8 ((a4.set (0 + i3) (bitsOp .or .u8 (IntKind.u8.wrap (shrOp .u64 p0 (IntKind.i64.wrap ((7 : Int) * ((i3 : Nat) : Int))))) 128)).getD i default)))]⟩) (by simp only [List.length_set]) ?_
    refine At.keep [15, 0, 3, 4, 14] [12] (s' := ⟨[(15, .c (.d (.int .i64 ((i3 : Nat) : Int)))), (0, .c (.d (.int .u64 p0))), (3, .c (.d (.int .i64 (if 1 < (IntKind.i64.wrap ((IntKind.i64.wrap (r1 + 6)).tdiv 7)) then (IntKind.i64.wrap ((IntKind.i64.wrap (r1 + 6)).tdiv 7)) else 1)))), (4, .c (.own 12 1 0 ((a4.set (0 + i3) (bitsOp .or .u8 (IntKind.u8.wrap (shrOp .u64 p0 (IntKind.i64.wrap ((7 : Int) * ((i3 : Nat) : Int))))) 128)).length))), (14, .c (.d (.int .i64 ((List.replicate ((if 1 < (IntKind.i64.wrap ((IntKind.i64.wrap (r1 + 6)).tdiv 7)) then (IntKind.i64.wrap ((IntKind.i64.wrap (r1 + 6)).tdiv 7)) else 1).toNat) (0 : Int)).length : Int))))], [(12, .vec 1 (a4.set (0 + i3) (bitsOp .or .u8 (IntKind.u8.wrap (shrOp .u64 p0 (IntKind.i64.wrap ((7 : Int) * ((i3 : Nat) : Int))))) 128)).length (fun i => encInt .u8 ((a4.set (0 + i3) (bitsOp .or .u8 (IntKind.u8.wrap (shrOp .u64 p0 (IntKind.i64.wrap ((7 : Int) * ((i3 : Nat) : Int))))) 128)).getD i default)))]⟩) (by kernel_rfl) ?_
    refine At.done rfl ?_
    cases h
    exact rfl
  · intro a5 h
    show Tri _ _ _ _
    refine Tri.seqS ?_
    refine Tri.reg ?_
    obtain ⟨hc6, h⟩ := need_elim h
    obtain ⟨hc7, h⟩ := need_elim h
    obtain ⟨hc8, h⟩ := need_elim h
    refine At.seg 7 [4, 33, 34] [12] (s' := ⟨[(4, .c (.own 12 1 0 a5.length)), (33, .c (.d (.int .u8 (bitsOp .and .u8 (a5.getD (0 + (IntKind.i64.wrap ((if 1 < (IntKind.i64.wrap ((IntKind.i64.wrap (r1 + 6)).tdiv 7)) then (IntKind.i64.wrap ((IntKind.i64.wrap (r1 + 6)).tdiv 7)) else 1) - 1)).toNat) default) 127)))), (34, .c (.vptr 12 1 (0 + (IntKind.i64.wrap ((if 1 < (IntKind.i64.wrap ((IntKind.i64.wrap (r1 + 6)).tdiv 7)) then (IntKind.i64.wrap ((IntKind.i64.wrap (r1 + 6)).tdiv 7)) else 1) - 1)).toNat) 0))], [(12, .vec 1 a5.length (fun i => encInt .u8 (a5.getD i default)))]⟩) (c := True ∧ True ∧ True ∧ ((0 : Int) ≤ (IntKind.i64.wrap ((if 1 < (IntKind.i64.wrap ((IntKind.i64.wrap (r1 + 6)).tdiv 7)) then (IntKind.i64.wrap ((IntKind.i64.wrap (r1 + 6)).tdiv 7)) else 1) - 1)) ∧ (IntKind.i64.wrap ((if 1 < (IntKind.i64.wrap ((IntKind.i64.wrap (r1 + 6)).tdiv 7)) then (IntKind.i64.wrap ((IntKind.i64.wrap (r1 + 6)).tdiv 7)) else 1) - 1)) < (a5.length : Int)) ∧ ((0 + (IntKind.i64.wrap ((if 1 < (IntKind.i64.wrap ((IntKind.i64.wrap (r1 + 6)).tdiv 7)) then (IntKind.i64.wrap ((IntKind.i64.wrap (r1 + 6)).tdiv 7)) else 1) - 1)).toNat) < a5.length) ∧ True ∧ ((0 : Int) ≤ (IntKind.i64.wrap ((if 1 < (IntKind.i64.wrap ((IntKind.i64.wrap (r1 + 6)).tdiv 7)) then (IntKind.i64.wrap ((IntKind.i64.wrap (r1 + 6)).tdiv 7)) else 1) - 1)) ∧ (IntKind.i64.wrap ((if 1 < (IntKind.i64.wrap ((IntKind.i64.wrap (r1 + 6)).tdiv 7)) then (IntKind.i64.wrap ((IntKind.i64.wrap (r1 + 6)).tdiv 7)) else 1) - 1)) < (a5.length : Int)) ∧ True) (by kernel_rfl) ⟨trivial, trivial, trivial, hc6, hc7, trivial, hc8, trivial⟩ ?_
    obtain ⟨hc9, h⟩ := need_elim h
    refine At.one rfl (One.storeT (xs := [.d (.int .u8 (bitsOp .and .u8 (a5.getD (0 + (IntKind.i64.wrap ((if 1 < (IntKind.i64.wrap ((IntKind.i64.wrap (r1 + 6)).tdiv 7)) then (IntKind.i64.wrap ((IntKind.i64.wrap (r1 + 6)).tdiv 7)) else 1) - 1)).toNat) default) 127))]) (ds := [.int .u8 (bitsOp .and .u8 (a5.getD (0 + (IntKind.i64.wrap ((if 1 < (IntKind.i64.wrap ((IntKind.i64.wrap (r1 + 6)).tdiv 7)) then (IntKind.i64.wrap ((IntKind.i64.wrap (r1 + 6)).tdiv 7)) else 1) - 1)).toNat) default) 127)]) (encInt .u8) a5 (bitsOp .and .u8 (a5.getD (0 + (IntKind.i64.wrap ((if 1 < (IntKind.i64.wrap ((IntKind.i64.wrap (r1 + 6)).tdiv 7)) then (IntKind.i64.wrap ((IntKind.i64.wrap (r1 + 6)).tdiv 7)) else 1) - 1)).toNat) default) 127) rfl rfl rfl rfl rfl hc9 rfl rfl (.refl _) rfl rfl rfl rfl) ?_
    refine At.keep [4] [12] (s' := ⟨[(4, .c (.own 12 1 0 a5.length))], [(12, .vec 1 (a5.set (0 + (IntKind.i64.wrap ((if 1 < (IntKind.i64.wrap ((IntKind.i64.wrap (r1 + 6)).tdiv 7)) then (IntKind.i64.wrap ((IntKind.i64.wrap (r1 + 6)).tdiv 7)) else 1) - 1)).toNat) (bitsOp .and .u8 (a5.getD (0 + (IntKind.i64.wrap ((if 1 < (IntKind.i64.wrap ((IntKind.i64.wrap (r1 + 6)).tdiv 7)) then (IntKind.i64.wrap ((IntKind.i64.wrap (r1 + 6)).tdiv 7)) else 1) - 1)).toNat) default) 127)).length (fun i => encInt .u8 ((a5.set (0 + (IntKind.i64.wrap ((if 1 < (IntKind.i64.wrap ((IntKind.i64.wrap (r1 + 6)).tdiv 7)) then (IntKind.i64.wrap ((IntKind.i64.wrap (r1 + 6)).tdiv 7)) else 1) - 1)).toNat) (bitsOp .and .u8 (a5.getD (0 + (IntKind.i64.wrap ((if 1 < (IntKind.i64.wrap ((IntKind.i64.wrap (r1 + 6)).tdiv 7)) then (IntKind.i64.wrap ((IntKind.i64.wrap (r1 + 6)).tdiv 7)) else 1) - 1)).toNat) default) 127)).getD i default)))]⟩) (by kernel_rfl) ?_
    refine At.eqS (s' := ⟨[(4, .c (.own 12 1 0 ((a5.set (0 + (IntKind.i64.wrap ((if 1 < (IntKind.i64.wrap ((IntKind.i64.wrap (r1 + 6)).tdiv 7)) then (IntKind.i64.wrap ((IntKind.i64.wrap (r1 + 6)).tdiv 7)) else 1) - 1)).toNat) (bitsOp .and .u8 (a5.getD (0 + (IntKind.i64.wrap ((if 1 < (IntKind.i64.wrap ((IntKind.i64.wrap (r1 + 6)).tdiv 7)) then (IntKind.i64.wrap ((IntKind.i64.wrap (r1 + 6)).tdiv 7)) else 1) - 1)).toNat) default) 127)).length)))], [(12, .vec 1 (a5.set (0 + (IntKind.i64.wrap ((if 1 < (IntKind.i64.wrap ((IntKind.i64.wrap (r1 + 6)).tdiv 7)) then (IntKind.i64.wrap ((IntKind.i64.wrap (r1 + 6)).tdiv 7)) else 1) - 1)).toNat) (bitsOp .and .u8 (a5.getD (0 + (IntKind.i64.wrap ((if 1 < (IntKind.i64.wrap ((IntKind.i64.wrap (r1 + 6)).tdiv 7)) then (IntKind.i64.wrap ((IntKind.i64.wrap (r1 + 6)).tdiv 7)) else 1) - 1)).toNat) default) 127)).length (fun i => encInt .u8 ((a5.set (0 + (IntKind.i64.wrap ((if 1 < (IntKind.i64.wrap ((IntKind.i64.wrap (r1 + 6)).tdiv 7)) then (IntKind.i64.wrap ((IntKind.i64.wrap (r1 + 6)).tdiv 7)) else 1) - 1)).toNat) (bitsOp .and .u8 (a5.getD (0 + (IntKind.i64.wrap ((if 1 < (IntKind.i64.wrap ((IntKind.i64.wrap (r1 + 6)).tdiv 7)) then (IntKind.i64.wrap ((IntKind.i64.wrap (r1 + 6)).tdiv 7)) else 1) - 1)).toNat) default) 127)).getD i default)))]⟩) (by simp only [List.length_set]) ?_
    refine At.done rfl ?_
    show Tri _ _ _ _
    refine Tri.seqS ?_
    refine Tri.reg ?_
    refine At.seg 1 [35] [12] (s' := ⟨[(35, .c (.own 12 1 0 ((a5.set (0 + (IntKind.i64.wrap ((if 1 < (IntKind.i64.wrap ((IntKind.i64.wrap (r1 + 6)).tdiv 7)) then (IntKind.i64.wrap ((IntKind.i64.wrap (r1 + 6)).tdiv 7)) else 1) - 1)).toNat) (bitsOp .and .u8 (a5.getD (0 + (IntKind.i64.wrap ((if 1 < (IntKind.i64.wrap ((IntKind.i64.wrap (r1 + 6)).tdiv 7)) then (IntKind.i64.wrap ((IntKind.i64.wrap (r1 + 6)).tdiv 7)) else 1) - 1)).toNat) default) 127)).length)))], [(12, .vec 1 (a5.set (0 + (IntKind.i64.wrap ((if 1 < (IntKind.i64.wrap ((IntKind.i64.wrap (r1 + 6)).tdiv 7)) then (IntKind.i64.wrap ((IntKind.i64.wrap (r1 + 6)).tdiv 7)) else 1) - 1)).toNat) (bitsOp .and .u8 (a5.getD (0 + (IntKind.i64.wrap ((if 1 < (IntKind.i64.wrap ((IntKind.i64.wrap (r1 + 6)).tdiv 7)) then (IntKind.i64.wrap ((IntKind.i64.wrap (r1 + 6)).tdiv 7)) else 1) - 1)).toNat) default) 127)).length (fun i => encInt .u8 ((a5.set (0 + (IntKind.i64.wrap ((if 1 < (IntKind.i64.wrap ((IntKind.i64.wrap (r1 + 6)).tdiv 7)) then (IntKind.i64.wrap ((IntKind.i64.wrap (r1 + 6)).tdiv 7)) else 1) - 1)).toNat) (bitsOp .and .u8 (a5.getD (0 + (IntKind.i64.wrap ((if 1 < (IntKind.i64.wrap ((IntKind.i64.wrap (r1 + 6)).tdiv 7)) then (IntKind.i64.wrap ((IntKind.i64.wrap (r1 + 6)).tdiv 7)) else 1) - 1)).toNat) default) 127)).getD i default)))]⟩) (c := True ∧ True) (by kernel_rfl) ⟨trivial, trivial⟩ ?_
    refine At.one rfl (One.bytesStrT (e := 5) (a5.set (0 + (IntKind.i64.wrap ((if 1 < (IntKind.i64.wrap ((IntKind.i64.wrap (r1 + 6)).tdiv 7)) then (IntKind.i64.wrap ((IntKind.i64.wrap (r1 + 6)).tdiv 7)) else 1) - 1)).toNat) (bitsOp .and .u8 (a5.getD (0 + (IntKind.i64.wrap ((if 1 < (IntKind.i64.wrap ((IntKind.i64.wrap (r1 + 6)).tdiv 7)) then (IntKind.i64.wrap ((IntKind.i64.wrap (r1 + 6)).tdiv 7)) else 1) - 1)).toNat) default) 127)) rfl rfl rfl rfl rfl rfl rfl (.own rfl (by simp) rfl (shift0 (encInt .u8) (a5.set (0 + (IntKind.i64.wrap ((if 1 < (IntKind.i64.wrap ((IntKind.i64.wrap (r1 + 6)).tdiv 7)) then (IntKind.i64.wrap ((IntKind.i64.wrap (r1 + 6)).tdiv 7)) else 1) - 1)).toNat) (bitsOp .and .u8 (a5.getD (0 + (IntKind.i64.wrap ((if 1 < (IntKind.i64.wrap ((IntKind.i64.wrap (r1 + 6)).tdiv 7)) then (IntKind.i64.wrap ((IntKind.i64.wrap (r1 + 6)).tdiv 7)) else 1) - 1)).toNat) default) 127)) _))) ?_
    refine At.seg 1 [2] [] (s' := ⟨[(2, .c (.d (.str (strOfNums (a5.set (0 + (IntKind.i64.wrap ((if 1 < (IntKind.i64.wrap ((IntKind.i64.wrap (r1 + 6)).tdiv 7)) then (IntKind.i64.wrap ((IntKind.i64.wrap (r1 + 6)).tdiv 7)) else 1) - 1)).toNat) (bitsOp .and .u8 (a5.getD (0 + (IntKind.i64.wrap ((if 1 < (IntKind.i64.wrap ((IntKind.i64.wrap (r1 + 6)).tdiv 7)) then (IntKind.i64.wrap ((IntKind.i64.wrap (r1 + 6)).tdiv 7)) else 1) - 1)).toNat) default) 127))))))], []⟩) (c := True ∧ True) (by kernel_rfl) ⟨trivial, trivial⟩ ?_
    refine At.done rfl ?_
    show Tri _ _ _ _
    refine Tri.keep [2] [] (s' := ⟨[(2, .c (.d (.str (strOfNums (a5.set (0 + (IntKind.i64.wrap ((if 1 < (IntKind.i64.wrap ((IntKind.i64.wrap (r1 + 6)).tdiv 7)) then (IntKind.i64.wrap ((IntKind.i64.wrap (r1 + 6)).tdiv 7)) else 1) - 1)).toNat) (bitsOp .and .u8 (a5.getD (0 + (IntKind.i64.wrap ((if 1 < (IntKind.i64.wrap ((IntKind.i64.wrap (r1 + 6)).tdiv 7)) then (IntKind.i64.wrap ((IntKind.i64.wrap (r1 + 6)).tdiv 7)) else 1) - 1)).toNat) default) 127))))))], []⟩) (by kernel_rfl) ?_
    refine Tri.ret ?_
    cases h
    refine ⟨_, _, rfl, ⟨trivial, trivial⟩, rfl, rfl, ?_⟩
    intro k c h
    cases h
  · exact fun x => x.elim

set_option maxRecDepth 100000 in
theorem pack_Number_ok {p0 : Int} {q : ByteArray} (h : pack_Number p0 = some q) :
    Summ Try.prog 18 [.c (.d (.int .i64 p0))] [] (.c (.d (.str q))) [] := by
  refine Summ.intro Try.func18 rfl (by kernel_rfl) (by kernel_rfl) [] rfl ?_
  rintro ⟨P, w0, G0, V, LL, lk, N, φ0, fx⟩ rfl rfl rfl rfl
  unfold pack_Number at h
  refine Tri.seqS ?_
  refine Tri.reg ?_
  refine At.seg 1 [0] [] (s' := ⟨[(0, .c (.d (.int .i64 p0)))], []⟩) (c := True ∧ True) (by kernel_rfl) ⟨trivial, trivial⟩ ?_
  refine At.done rfl ?_
  show Tri _ _ _ _
  refine Tri.seqS ?_
  refine Tri.reg ?_
  refine At.seg 7 [9] [] (s' := ⟨[(9, .c (.d (.int .u64 (bitsOp .xor .u64 (shlOp .u64 (IntKind.u64.wrap p0) 1) (IntKind.u64.wrap (shrOp .i64 p0 63))))))], []⟩) (c := True ∧ True ∧ ((0 : Int) ≤ 1) ∧ True ∧ ((0 : Int) ≤ 63) ∧ True ∧ True ∧ True) (by kernel_rfl) ⟨trivial, trivial, (by decide : (0 : Int) ≤ 1), trivial, (by decide : (0 : Int) ≤ 63), trivial, trivial, trivial⟩ ?_
  obtain ⟨r1, hr1, h⟩ := bind_elim h
  refine At.callA (caps := []) (xs := [.c (.d (.int .u64 (bitsOp .xor .u64 (shlOp .u64 (IntKind.u64.wrap p0) 1) (IntKind.u64.wrap (shrOp .i64 p0 63)))))]) (pack_Count_ok hr1) rfl rfl rfl rfl rfl rfl (.cons (.refl _) .nil) rfl rfl ?_
  refine At.seg 1 [2] [] (s' := ⟨[(2, .c (.d (.str r1)))], []⟩) (c := True ∧ True) (by kernel_rfl) ⟨trivial, trivial⟩ ?_
  refine At.done rfl ?_
  show Tri _ _ _ _
  refine Tri.keep [2] [] (s' := ⟨[(2, .c (.d (.str r1)))], []⟩) (by kernel_rfl) ?_
  refine Tri.ret ?_
  cases h
  refine ⟨_, _, rfl, ⟨trivial, trivial⟩, rfl, rfl, ?_⟩
  intro k c h
  cases h

set_option maxRecDepth 100000 in
theorem freshetlaw01_counts_ok  {q : Bool} (h : freshetlaw01_counts = some q) :
    Summ Try.prog 16 [] [] (.c (.d (.bool q))) [] := by
  refine Summ.intro Try.func16 rfl (by kernel_rfl) (by kernel_rfl) [] rfl ?_
  rintro ⟨P, w0, G0, V, LL, lk, N, φ0, fx⟩ rfl rfl rfl rfl
  unfold freshetlaw01_counts at h
  refine Tri.seqS ?_
  refine Tri.reg ?_
  refine At.seg 1 [] [] (s' := ⟨[], []⟩) (c := True ∧ True) (by kernel_rfl) ⟨trivial, trivial⟩ ?_
  refine At.done rfl ?_
  show Tri _ _ _ _
  refine Tri.seqJ (fun (a1 : Bool) => ⟨[(0, .c (.d (.bool a1)))], []⟩) h (fun a1 h => ?_) (fun j2 h => ?_)
  · show Tri _ _ ⟨[(0, .c (.d (.bool a1)))], []⟩ _
    refine Tri.keep [0] [] (s' := ⟨[(0, .c (.d (.bool a1)))], []⟩) (by kernel_rfl) ?_
    refine Tri.ret ?_
    cases h
    refine ⟨_, _, rfl, ⟨trivial, trivial⟩, rfl, rfl, ?_⟩
    intro k c h
    cases h
  · refine Tri.reg ?_
    obtain ⟨r3, hr3, h⟩ := bind_elim h
    refine At.callA (caps := []) (xs := [.c (.d (.int .u64 300))]) (pack_Count_ok hr3) rfl rfl rfl rfl rfl rfl (.cons (.refl _) .nil) rfl rfl ?_
    refine At.seg 2 [3] [] (s' := ⟨[(3, .c (.d (.bool (strEq r3 (bs [172, 2])))))], []⟩) (c := True ∧ True ∧ True) (by kernel_rfl) ⟨trivial, trivial, trivial⟩ ?_
    refine At.case (fun b => ⟨[(3, .c (.d (.bool b)))], []⟩) (b := (strEq r3 (bs [172, 2]))) h (fun h => ?_) (fun h => ?_)
    · obtain ⟨r4, hr4, h⟩ := bind_elim h
      refine At.callA (caps := []) (xs := [.c (.d (.int .i64 (-1)))]) (pack_Number_ok hr4) rfl rfl rfl rfl rfl rfl (.cons (.refl _) .nil) rfl rfl ?_
      refine At.seg 3 [0] [] (s' := ⟨[(0, .c (.d (.bool (strEq r4 (bs [1])))))], []⟩) (c := True ∧ True ∧ True ∧ True) (by kernel_rfl) ⟨trivial, trivial, trivial, trivial⟩ ?_
      refine At.done rfl ?_
      exact ⟨_, h, rfl⟩
    · refine At.seg 4 [0] [] (s' := ⟨[(0, .c (.d (.bool false)))], []⟩) (c := True ∧ True ∧ True) (by kernel_rfl) ⟨trivial, trivial, trivial⟩ ?_
      refine At.done rfl ?_
      exact ⟨_, h, rfl⟩

set_option maxRecDepth 100000 in
theorem freshetlaw01_PackSizes_ok {fuel : Nat} {p0 : Int} {p1 : Int} {q : Bool} (h : freshetlaw01_PackSizes fuel p0 p1 = some q) :
    Summ Try.prog 4 [.c (.d (.int .u64 p0)), .c (.d (.int .i64 p1))] [] (.c (.d (.bool q))) [] := by
  refine Summ.intro Try.func4 rfl (by kernel_rfl) (by kernel_rfl) [] rfl ?_
  rintro ⟨P, w0, G0, V, LL, lk, N, φ0, fx⟩ rfl rfl rfl rfl
  unfold freshetlaw01_PackSizes at h
  refine Tri.seqS ?_
  refine Tri.reg ?_
  refine At.seg 1 [0, 1] [] (s' := ⟨[(0, .c (.d (.int .u64 p0))), (1, .c (.d (.int .i64 p1)))], []⟩) (c := True ∧ True) (by kernel_rfl) ⟨trivial, trivial⟩ ?_
  refine At.done rfl ?_
  show Tri _ _ _ _
  refine Tri.seqS ?_
  refine Tri.seqS ?_
  refine Tri.reg ?_
  obtain ⟨r1, hr1, h⟩ := bind_elim h
  refine At.callA (caps := []) (xs := []) (freshetlaw01_counts_ok hr1) rfl rfl rfl rfl rfl rfl .nil rfl rfl ?_
  refine At.seg 1 [0, 1, 8] [] (s' := ⟨[(0, .c (.d (.int .u64 p0))), (1, .c (.d (.int .i64 p1))), (8, .c (.d (.bool (!r1))))], []⟩) (c := True ∧ True) (by kernel_rfl) ⟨trivial, trivial⟩ ?_
  refine At.done rfl ?_
  show Tri _ _ _ _
  refine Tri.condP (b := (!r1)) rfl h (fun h => ?_) (fun h => ?_)
  · refine Tri.seqS ?_
    refine Tri.reg ?_
    refine At.seg 1 [4] [] (s' := ⟨[(4, .c (.d (.bool false)))], []⟩) (c := True ∧ True) (by kernel_rfl) ⟨trivial, trivial⟩ ?_
    refine At.done rfl ?_
    show Tri _ _ _ _
    refine Tri.keep [4] [] (s' := ⟨[(4, .c (.d (.bool false)))], []⟩) (by kernel_rfl) ?_
    refine Tri.ret ?_
    cases h
    refine ⟨_, _, rfl, ⟨trivial, trivial⟩, rfl, rfl, ?_⟩
    intro k c h
    cases h
  · refine Tri.skip ?_
    show Tri _ _ _ _
    refine Tri.seqS ?_
    refine Tri.reg ?_
    refine At.seg 1 [0, 1, 5] [] (s' := ⟨[(0, .c (.d (.int .u64 p0))), (1, .c (.d (.int .i64 p1))), (5, .c (.d (.int .i64 1)))], []⟩) (c := True ∧ True) (by kernel_rfl) ⟨trivial, trivial⟩ ?_
    refine At.done rfl ?_
    show Tri _ _ _ _
    refine Tri.seqS ?_
    refine Tri.seqS ?_
    refine Tri.reg ?_
    refine At.seg 2 [0, 1, 5, 6] [] (s' := ⟨[(0, .c (.d (.int .u64 p0))), (1, .c (.d (.int .i64 p1))), (5, .c (.d (.int .i64 1))), (6, .c (.d (.int .u64 p0)))], []⟩) (c := True ∧ True ∧ True) (by kernel_rfl) ⟨trivial, trivial, trivial⟩ ?_
    refine At.done rfl ?_
    show Tri _ _ _ _
    refine Tri.keep [0, 1, 5, 6] [] (s' := ⟨[(0, .c (.d (.int .u64 p0))), (1, .c (.d (.int .i64 p1))), (5, .c (.d (.int .i64 1))), (6, .c (.d (.int .u64 p0)))], []⟩) (by kernel_rfl) ?_
    refine Tri.loopK (fuel := fuel) (st0 := (1, p0)) (fun (x : Empty) s => False) (fun (a2 : Int × Int) => ⟨[(0, .c (.d (.int .u64 p0))), (1, .c (.d (.int .i64 p1))), (5, .c (.d (.int .i64 a2.1))), (6, .c (.d (.int .u64 a2.2)))], []⟩) (fun (a2 : Int × Int) => ⟨[(0, .c (.d (.int .u64 p0))), (1, .c (.d (.int .i64 p1))), (5, .c (.d (.int .i64 a2.1))), (6, .c (.d (.int .u64 a2.2)))], []⟩) h ?_ ?_ ?_
    · intro a2 c h
      show Tri _ _ ⟨[(0, .c (.d (.int .u64 p0))), (1, .c (.d (.int .i64 p1))), (5, .c (.d (.int .i64 a2.1))), (6, .c (.d (.int .u64 a2.2)))], []⟩ _
      refine Tri.seqS ?_
      refine Tri.seqS ?_
      refine Tri.reg ?_
      refine At.seg 2 [0, 1, 5, 6, 11] [] (s' := ⟨[(0, .c (.d (.int .u64 p0))), (1, .c (.d (.int .i64 p1))), (5, .c (.d (.int .i64 a2.1))), (6, .c (.d (.int .u64 a2.2))), (11, .c (.d (.bool (decide (128 ≤ a2.2)))))], []⟩) (c := True ∧ True ∧ True) (by kernel_rfl) ⟨trivial, trivial, trivial⟩ ?_
      refine At.done rfl ?_
      show Tri _ _ _ _
      refine Tri.condP (b := (decide (128 ≤ a2.2))) rfl h (fun h => ?_) (fun h => ?_)
      · refine Tri.skip ?_
        show Tri _ _ _ _
        refine Tri.seqS ?_
        refine Tri.blockB ?_
        refine Tri.reg ?_
        refine At.seg 3 [0, 1, 5, 6] [] (s' := ⟨[(0, .c (.d (.int .u64 p0))), (1, .c (.d (.int .i64 p1))), (5, .c (.d (.int .i64 (IntKind.i64.wrap (a2.1 + 1))))), (6, .c (.d (.int .u64 a2.2)))], []⟩) (c := True ∧ True ∧ True ∧ True) (by kernel_rfl) ⟨trivial, trivial, trivial, trivial⟩ ?_
        refine At.done rfl ?_
        show Tri _ _ _ _
        refine Tri.reg ?_
        refine At.seg 3 [0, 1, 5, 6] [] (s' := ⟨[(0, .c (.d (.int .u64 p0))), (1, .c (.d (.int .i64 p1))), (5, .c (.d (.int .i64 (IntKind.i64.wrap (a2.1 + 1))))), (6, .c (.d (.int .u64 (IntKind.u64.wrap (a2.2.tdiv 128)))))], []⟩) (c := True ∧ ((128 : Int) ≠ 0) ∧ True ∧ True) (by kernel_rfl) ⟨trivial, (by decide : (128 : Int) ≠ 0), trivial, trivial⟩ ?_
        refine At.done rfl ?_
        cases h
        exact rfl
      · refine Tri.keep [0, 1, 5, 6] [] (s' := ⟨[(0, .c (.d (.int .u64 p0))), (1, .c (.d (.int .i64 p1))), (5, .c (.d (.int .i64 a2.1))), (6, .c (.d (.int .u64 a2.2)))], []⟩) (by kernel_rfl) ?_
        refine Tri.exit ?_
        cases h
        exact ⟨rfl, rfl⟩
    · intro a3 h
      show Tri _ _ _ _
      refine Tri.seqJ (fun (a4 : Bool) => ⟨[(4, .c (.d (.bool a4)))], []⟩) h (fun a4 h => ?_) (fun j5 h => ?_)
      · show Tri _ _ ⟨[(4, .c (.d (.bool a4)))], []⟩ _
        refine Tri.keep [4] [] (s' := ⟨[(4, .c (.d (.bool a4)))], []⟩) (by kernel_rfl) ?_
        refine Tri.ret ?_
        cases h
        refine ⟨_, _, rfl, ⟨trivial, trivial⟩, rfl, rfl, ?_⟩
        intro k c h
        cases h
      · refine Tri.reg ?_
        refine At.seg 1 [1, 5, 16] [] (s' := ⟨[(1, .c (.d (.int .i64 p1))), (5, .c (.d (.int .i64 a3.1))), (16, .c (.d (.int .u64 p0)))], []⟩) (c := True ∧ True) (by kernel_rfl) ⟨trivial, trivial⟩ ?_
        obtain ⟨r6, hr6, h⟩ := bind_elim h
        refine At.callA (caps := []) (xs := [.c (.d (.int .u64 p0))]) (pack_Count_ok hr6) rfl rfl rfl rfl rfl rfl (.cons (.refl _) .nil) rfl rfl ?_
        refine At.seg 4 [1, 21] [] (s' := ⟨[(1, .c (.d (.int .i64 p1))), (21, .c (.d (.bool (decide ((r6.size : Int) = a3.1)))))], []⟩) (c := True ∧ True ∧ True ∧ True ∧ True) (by kernel_rfl) ⟨trivial, trivial, trivial, trivial, trivial⟩ ?_
        refine At.case (fun b => ⟨[(1, .c (.d (.int .i64 p1))), (21, .c (.d (.bool b)))], []⟩) (b := (decide ((r6.size : Int) = a3.1))) h (fun h => ?_) (fun h => ?_)
        · refine At.seg 1 [1, 21, 22] [] (s' := ⟨[(1, .c (.d (.int .i64 p1))), (21, .c (.d (.bool true))), (22, .c (.d (.int .i64 p1)))], []⟩) (c := True ∧ True) (by kernel_rfl) ⟨trivial, trivial⟩ ?_
          obtain ⟨r7, hr7, h⟩ := bind_elim h
          refine At.callA (caps := []) (xs := [.c (.d (.int .i64 p1))]) (pack_Number_ok hr7) rfl rfl rfl rfl rfl rfl (.cons (.refl _) .nil) rfl rfl ?_
          refine At.seg 3 [21, 24, 26] [] (s' := ⟨[(21, .c (.d (.bool true))), (24, .c (.d (.int .i64 (r7.size : Int)))), (26, .c (.d (.int .i64 (IntKind.i64.wrap (((-1) : Int) - p1)))))], []⟩) (c := True ∧ True ∧ True ∧ True) (by kernel_rfl) ⟨trivial, trivial, trivial, trivial⟩ ?_
          obtain ⟨r8, hr8, h⟩ := bind_elim h
          refine At.callA (caps := []) (xs := [.c (.d (.int .i64 (IntKind.i64.wrap (((-1) : Int) - p1))))]) (pack_Number_ok hr8) rfl rfl rfl rfl rfl rfl (.cons (.refl _) .nil) rfl rfl ?_
          refine At.seg 4 [4] [] (s' := ⟨[(4, .c (.d (.bool (decide ((r7.size : Int) = (r8.size : Int))))))], []⟩) (c := True ∧ True ∧ True ∧ True ∧ True) (by kernel_rfl) ⟨trivial, trivial, trivial, trivial, trivial⟩ ?_
          refine At.done rfl ?_
          exact ⟨_, h, rfl⟩
        · refine At.seg 10 [4] [] (s' := ⟨[(4, .c (.d (.bool false)))], []⟩) (c := True ∧ True ∧ True) (by kernel_rfl) ⟨trivial, trivial, trivial⟩ ?_
          refine At.done rfl ?_
          exact ⟨_, h, rfl⟩
    · exact fun x => x.elim

set_option maxRecDepth 100000 in
theorem pack_TakeCount_ok {p0 : ByteArray} {q : Int × ByteArray × Int} (h : pack_TakeCount p0 = some q) :
    Summ Try.prog 21 [.c (.d (.str p0))] [] (.tup [(false, [.d (.int .u64 q.1)]), (false, [.d (.str q.2.1)]), (false, [.d (.int .i64 q.2.2)])]) [] := by
  refine Summ.intro Try.func21 rfl (by kernel_rfl) (by kernel_rfl) [] rfl ?_
  rintro ⟨P, w0, G0, V, LL, lk, N, φ0, fx⟩ rfl rfl rfl rfl
  unfold pack_TakeCount at h
  refine Tri.seqS ?_
  refine Tri.reg ?_
  refine At.seg 3 [0] [] (s' := ⟨[(0, .c (.d (.str p0)))], []⟩) (c := True ∧ True ∧ True ∧ True) (by kernel_rfl) ⟨trivial, trivial, trivial, trivial⟩ ?_
  refine At.done rfl ?_
  show Tri _ _ _ _
  refine Tri.seqS ?_
  refine Tri.reg ?_
  refine At.seg 1 [0, 5] [] (s' := ⟨[(0, .c (.d (.str p0))), (5, .c (.d (.int .u64 0)))], []⟩) (c := True ∧ True) (by kernel_rfl) ⟨trivial, trivial⟩ ?_
  refine At.done rfl ?_
  show Tri _ _ _ _
  refine Tri.seqS ?_
  refine Tri.seqS ?_
  refine Tri.reg ?_
  refine At.seg 3 [0, 5, 9, 10] [] (s' := ⟨[(0, .c (.d (.str p0))), (5, .c (.d (.int .u64 0))), (9, .c (.d (.int .i64 (p0.size : Int)))), (10, .c (.d (.int .i64 0)))], []⟩) (c := True ∧ True ∧ True ∧ True) (by kernel_rfl) ⟨trivial, trivial, trivial, trivial⟩ ?_
  refine At.done rfl ?_
  show Tri _ _ _ _
  obtain ⟨hlena2, h⟩ := need_elim h
  refine Tri.keep [10, 0, 5, 9] [] (s' := idx 10 0 ⟨[(0, .c (.d (.str p0))), (5, .c (.d (.int .u64 0))), (9, .c (.d (.int .i64 (p0.size : Int))))], []⟩) (by kernel_rfl) ?_
  refine Tri.range (n := p0.size) (st0 := 0) (fun (x : Int × ByteArray × Int) s => RetAt Try.prog Try.f21 (.tup [(false, [.d (.int .u64 x.1)]), (false, [.d (.str x.2.1)]), (false, [.d (.int .i64 x.2.2)])]) [] s) (fun (a2 : Int) => ⟨[(0, .c (.d (.str p0))), (5, .c (.d (.int .u64 a2))), (9, .c (.d (.int .i64 (p0.size : Int))))], []⟩) (fun (a2 : Int) => ⟨[(0, .c (.d (.str p0))), (5, .c (.d (.int .u64 a2))), (9, .c (.d (.int .i64 (p0.size : Int))))], []⟩) (fun i => decide ((i : Int) < (p0.size : Int))) [11, 10, 0, 5, 9] [] [0, 5, 9] [] [10, 0, 5, 9] [] h hlena2 rfl ?_ ?_ ?_ ?_ ?_ ?_ ?_ ?_
  · exact fun i a => ⟨True ∧ True, by kernel_rfl, ⟨trivial, trivial⟩⟩
  · exact fun i hi => decide_eq_true (by omega)
  · exact decide_eq_false (by omega)
  · exact fun a => by kernel_rfl
  · exact fun i a => ⟨True ∧ True ∧ True, by kernel_rfl, ⟨trivial, trivial, trivial⟩⟩
  · intro i1 a2 c hii1 h
    refine Tri.seqS ?_
    refine Tri.reg ?_
    refine At.seg 2 [0, 5, 6, 9, 10] [] (s' := ⟨[(0, .c (.d (.str p0))), (5, .c (.d (.int .u64 a2))), (6, .c (.d (.int .i64 ((i1 : Nat) : Int)))), (9, .c (.d (.int .i64 (p0.size : Int)))), (10, .c (.d (.int .i64 ((i1 : Nat) : Int))))], []⟩) (c := True ∧ True ∧ True) (by kernel_rfl) ⟨trivial, trivial, trivial⟩ ?_
    refine At.done rfl ?_
    show Tri _ _ _ _
    refine Tri.seqS ?_
    refine Tri.reg ?_
    refine At.seg 4 [0, 5, 6, 7, 9, 10] [] (s' := ⟨[(0, .c (.d (.str p0))), (5, .c (.d (.int .u64 a2))), (6, .c (.d (.int .i64 ((i1 : Nat) : Int)))), (7, .c (.d (.int .u8 (bt p0 ((i1 : Nat) : Int))))), (9, .c (.d (.int .i64 (p0.size : Int)))), (10, .c (.d (.int .i64 ((i1 : Nat) : Int))))], []⟩) (c := True ∧ True ∧ ((0 : Int) ≤ ((i1 : Nat) : Int) ∧ ((i1 : Nat) : Int) < (p0.size : Int)) ∧ True ∧ True) (by kernel_rfl) ⟨trivial, trivial, ⟨by omega, by omega⟩, trivial, trivial⟩ ?_
    refine At.done rfl ?_
    show Tri _ _ _ _
    refine Tri.seqS ?_
    refine Tri.seqJ (fun (a4 : Bool) => ⟨[(0, .c (.d (.str p0))), (5, .c (.d (.int .u64 a2))), (6, .c (.d (.int .i64 ((i1 : Nat) : Int)))), (7, .c (.d (.int .u8 (bt p0 ((i1 : Nat) : Int))))), (9, .c (.d (.int .i64 (p0.size : Int)))), (10, .c (.d (.int .i64 ((i1 : Nat) : Int)))), (29, .c (.d (.bool a4)))], []⟩) h (fun a4 h => ?_) (fun j5 h => ?_)
    · show Tri _ _ ⟨[(0, .c (.d (.str p0))), (5, .c (.d (.int .u64 a2))), (6, .c (.d (.int .i64 ((i1 : Nat) : Int)))), (7, .c (.d (.int .u8 (bt p0 ((i1 : Nat) : Int))))), (9, .c (.d (.int .i64 (p0.size : Int)))), (10, .c (.d (.int .i64 ((i1 : Nat) : Int)))), (29, .c (.d (.bool a4)))], []⟩ _
      refine Tri.condP (b := a4) rfl h (fun h => ?_) (fun h => ?_)
      · refine Tri.seqS ?_
        refine Tri.reg ?_
        refine At.seg 3 [2, 3, 4] [] (s' := ⟨[(2, .c (.d (.int .u64 0))), (3, .c (.d (.str (bs [])))), (4, .c (.d (.int .i64 4)))], []⟩) (c := True ∧ True ∧ True ∧ True) (by kernel_rfl) ⟨trivial, trivial, trivial, trivial⟩ ?_
        refine At.done rfl ?_
        show Tri _ _ _ _
        refine Tri.keep [2, 3, 4] [] (s' := ⟨[(2, .c (.d (.int .u64 0))), (3, .c (.d (.str (bs [])))), (4, .c (.d (.int .i64 4)))], []⟩) (by kernel_rfl) ?_
        refine Tri.ret ?_
        cases h
        refine ⟨_, _, rfl, ⟨trivial, ⟨trivial, ⟨trivial, trivial⟩⟩⟩, rfl, rfl, ?_⟩
        intro k c h
        cases h
      · refine Tri.skip ?_
        show Tri _ _ _ _
        refine Tri.seqS ?_
        refine Tri.reg ?_
        obtain ⟨hc6, h⟩ := need_elim h
        refine At.seg 9 [0, 5, 6, 7, 9, 10] [] (s' := ⟨[(0, .c (.d (.str p0))), (5, .c (.d (.int .u64 (bitsOp .or .u64 a2 (shlOp .u64 (IntKind.u64.wrap (bitsOp .and .u8 (bt p0 ((i1 : Nat) : Int)) 127)) (IntKind.i64.wrap ((7 : Int) * ((i1 : Nat) : Int)))))))), (6, .c (.d (.int .i64 ((i1 : Nat) : Int)))), (7, .c (.d (.int .u8 (bt p0 ((i1 : Nat) : Int))))), (9, .c (.d (.int .i64 (p0.size : Int)))), (10, .c (.d (.int .i64 ((i1 : Nat) : Int))))], []⟩) (c := True ∧ True ∧ True ∧ True ∧ True ∧ True ∧ ((0 : Int) ≤ (IntKind.i64.wrap ((7 : Int) * ((i1 : Nat) : Int)))) ∧ True ∧ True ∧ True) (by kernel_rfl) ⟨trivial, trivial, trivial, trivial, trivial, trivial, hc6, trivial, trivial, trivial⟩ ?_
        refine At.done rfl ?_
        show Tri _ _ _ _
        refine Tri.seqS ?_
        refine Tri.reg ?_
        refine At.seg 2 [0, 5, 6, 9, 10, 39] [] (s' := ⟨[(0, .c (.d (.str p0))), (5, .c (.d (.int .u64 (bitsOp .or .u64 a2 (shlOp .u64 (IntKind.u64.wrap (bitsOp .and .u8 (bt p0 ((i1 : Nat) : Int)) 127)) (IntKind.i64.wrap ((7 : Int) * ((i1 : Nat) : Int)))))))), (6, .c (.d (.int .i64 ((i1 : Nat) : Int)))), (9, .c (.d (.int .i64 (p0.size : Int)))), (10, .c (.d (.int .i64 ((i1 : Nat) : Int)))), (39, .c (.d (.bool (decide ((bt p0 ((i1 : Nat) : Int)) < 128)))))], []⟩) (c := True ∧ True ∧ True) (by kernel_rfl) ⟨trivial, trivial, trivial⟩ ?_
        refine At.done rfl ?_
        show Tri _ _ _ _
        refine Tri.condP (b := (decide ((bt p0 ((i1 : Nat) : Int)) < 128))) rfl h (fun h => ?_) (fun h => ?_)
        · refine Tri.seqS ?_
          obtain ⟨hc7, h⟩ := need_elim h
          refine Tri.drawn (specs := [⟨⟨[(5, .c (.d (.int .u64 (bitsOp .or .u64 a2 (shlOp .u64 (IntKind.u64.wrap (bitsOp .and .u8 (bt p0 ((i1 : Nat) : Int)) 127)) (IntKind.i64.wrap ((7 : Int) * ((i1 : Nat) : Int))))))))], []⟩, ⟨[(40, .c (.d (.int .u64 (bitsOp .or .u64 a2 (shlOp .u64 (IntKind.u64.wrap (bitsOp .and .u8 (bt p0 ((i1 : Nat) : Int)) 127)) (IntKind.i64.wrap ((7 : Int) * ((i1 : Nat) : Int))))))))], []⟩, [], [], []⟩, ⟨⟨[(0, .c (.d (.str p0)))], []⟩, ⟨[(41, .c (.d (.str p0)))], []⟩, [], [], []⟩, ⟨⟨[(6, .c (.d (.int .i64 ((i1 : Nat) : Int))))], []⟩, ⟨[(42, .c (.d (.int .i64 ((i1 : Nat) : Int))))], []⟩, [], [], []⟩, ⟨⟨[(42, .c (.d (.int .i64 ((i1 : Nat) : Int))))], []⟩, ⟨[(43, .c (.d (.int .i64 (IntKind.i64.wrap (((i1 : Nat) : Int) + 1)))))], []⟩, [], [], []⟩, ⟨⟨[(41, .c (.d (.str p0))), (43, .c (.d (.int .i64 (IntKind.i64.wrap (((i1 : Nat) : Int) + 1)))))], []⟩, ⟨[(44, .c (.d (.str (p0.extract ((IntKind.i64.wrap (((i1 : Nat) : Int) + 1)).toNat) p0.size))))], []⟩, [], [], []⟩, ⟨⟨[(40, .c (.d (.int .u64 (bitsOp .or .u64 a2 (shlOp .u64 (IntKind.u64.wrap (bitsOp .and .u8 (bt p0 ((i1 : Nat) : Int)) 127)) (IntKind.i64.wrap ((7 : Int) * ((i1 : Nat) : Int))))))))], []⟩, ⟨[(2, .c (.d (.int .u64 (bitsOp .or .u64 a2 (shlOp .u64 (IntKind.u64.wrap (bitsOp .and .u8 (bt p0 ((i1 : Nat) : Int)) 127)) (IntKind.i64.wrap ((7 : Int) * ((i1 : Nat) : Int))))))))], []⟩, [], [], []⟩, ⟨⟨[(44, .c (.d (.str (p0.extract ((IntKind.i64.wrap (((i1 : Nat) : Int) + 1)).toNat) p0.size))))], []⟩, ⟨[(3, .c (.d (.str (p0.extract ((IntKind.i64.wrap (((i1 : Nat) : Int) + 1)).toNat) p0.size))))], []⟩, [], [], []⟩, ⟨⟨[], []⟩, ⟨[(4, .c (.d (.int .i64 0)))], []⟩, [], [], []⟩]) (bef := [[], [], [], [2], [1, 2, 3], [0], [0, 1, 2, 3, 4, 5], [0, 1, 2, 3, 4, 5, 6]]) (tk := [2, 3, 4]) (sk := []) (s' := ⟨[(2, .c (.d (.int .u64 (bitsOp .or .u64 a2 (shlOp .u64 (IntKind.u64.wrap (bitsOp .and .u8 (bt p0 ((i1 : Nat) : Int)) 127)) (IntKind.i64.wrap ((7 : Int) * ((i1 : Nat) : Int)))))))), (3, .c (.d (.str (p0.extract ((IntKind.i64.wrap (((i1 : Nat) : Int) + 1)).toNat) p0.size)))), (4, .c (.d (.int .i64 0)))], []⟩) (by kernel_rfl) (by kernel_rfl) (by kernel_rfl) ⟨?_, ?_, ?_, ?_, ?_, ?_, ?_, ?_, trivial⟩ (by kernel_rfl) ?_
          · exact DOk.step (.val (.c (.d (.int .u64 (bitsOp .or .u64 a2 (shlOp .u64 (IntKind.u64.wrap (bitsOp .and .u8 (bt p0 ((i1 : Nat) : Int)) 127)) (IntKind.i64.wrap ((7 : Int) * ((i1 : Nat) : Int)))))))) (True)) (fun r => by kernel_rfl) (fun r => by kernel_rfl) trivial (by kernel_rfl) (by kernel_rfl) (fun r => rfl)
          · exact DOk.step (.val (.c (.d (.str p0))) (True)) (fun r => by kernel_rfl) (fun r => by kernel_rfl) trivial (by kernel_rfl) (by kernel_rfl) (fun r => rfl)
          · exact DOk.step (.val (.c (.d (.int .i64 ((i1 : Nat) : Int)))) (True)) (fun r => by kernel_rfl) (fun r => by kernel_rfl) trivial (by kernel_rfl) (by kernel_rfl) (fun r => rfl)
          · exact DOk.step (.val (.c (.d (.int .i64 (IntKind.i64.wrap (((i1 : Nat) : Int) + 1))))) (True)) (fun r => by kernel_rfl) (fun r => by kernel_rfl) trivial (by kernel_rfl) (by kernel_rfl) (fun r => rfl)
          · exact DOk.step (.val (.c (.d (.str (p0.extract ((IntKind.i64.wrap (((i1 : Nat) : Int) + 1)).toNat) p0.size)))) ((0 : Int) ≤ (IntKind.i64.wrap (((i1 : Nat) : Int) + 1)) ∧ (IntKind.i64.wrap (((i1 : Nat) : Int) + 1)) ≤ (p0.size : Int) ∧ (p0.size : Int) ≤ (p0.size : Int))) (fun r => by kernel_rfl) (fun r => by kernel_rfl) hc7 (by kernel_rfl) (by kernel_rfl) (fun r => rfl)
          · exact DOk.step (.val (.c (.d (.int .u64 (bitsOp .or .u64 a2 (shlOp .u64 (IntKind.u64.wrap (bitsOp .and .u8 (bt p0 ((i1 : Nat) : Int)) 127)) (IntKind.i64.wrap ((7 : Int) * ((i1 : Nat) : Int)))))))) (True)) (fun r => by kernel_rfl) (fun r => by kernel_rfl) trivial (by kernel_rfl) (by kernel_rfl) (fun r => rfl)
          · exact DOk.step (.val (.c (.d (.str (p0.extract ((IntKind.i64.wrap (((i1 : Nat) : Int) + 1)).toNat) p0.size)))) (True)) (fun r => by kernel_rfl) (fun r => by kernel_rfl) trivial (by kernel_rfl) (by kernel_rfl) (fun r => rfl)
          · exact DOk.step (.val (.c (.d (.int .i64 0))) (True)) (fun r => by kernel_rfl) (fun r => by kernel_rfl) trivial (by kernel_rfl) (by kernel_rfl) (fun r => rfl)
          show Tri _ _ _ _
          refine Tri.keep [2, 3, 4] [] (s' := ⟨[(2, .c (.d (.int .u64 (bitsOp .or .u64 a2 (shlOp .u64 (IntKind.u64.wrap (bitsOp .and .u8 (bt p0 ((i1 : Nat) : Int)) 127)) (IntKind.i64.wrap ((7 : Int) * ((i1 : Nat) : Int)))))))), (3, .c (.d (.str (p0.extract ((IntKind.i64.wrap (((i1 : Nat) : Int) + 1)).toNat) p0.size)))), (4, .c (.d (.int .i64 0)))], []⟩) (by kernel_rfl) ?_
          refine Tri.ret ?_
          cases h
          refine ⟨_, _, rfl, ⟨trivial, ⟨trivial, ⟨trivial, trivial⟩⟩⟩, rfl, rfl, ?_⟩
          intro k c h
          cases h
        · refine Tri.keep [10, 0, 5, 9] [] (s' := ⟨[(10, .c (.d (.int .i64 ((i1 : Nat) : Int)))), (0, .c (.d (.str p0))), (5, .c (.d (.int .u64 (bitsOp .or .u64 a2 (shlOp .u64 (IntKind.u64.wrap (bitsOp .and .u8 (bt p0 ((i1 : Nat) : Int)) 127)) (IntKind.i64.wrap ((7 : Int) * ((i1 : Nat) : Int)))))))), (9, .c (.d (.int .i64 (p0.size : Int))))], []⟩) (by kernel_rfl) ?_
          refine Tri.skip ?_
          cases h
          exact rfl
    · refine Tri.reg ?_
      refine At.seg 3 [0, 5, 6, 7, 9, 10, 18] [] (s' := ⟨[(0, .c (.d (.str p0))), (5, .c (.d (.int .u64 a2))), (6, .c (.d (.int .i64 ((i1 : Nat) : Int)))), (7, .c (.d (.int .u8 (bt p0 ((i1 : Nat) : Int))))), (9, .c (.d (.int .i64 (p0.size : Int)))), (10, .c (.d (.int .i64 ((i1 : Nat) : Int)))), (18, .c (.d (.bool (decide (0 < ((i1 : Nat) : Int))))))], []⟩) (c := True ∧ True ∧ True ∧ True) (by kernel_rfl) ⟨trivial, trivial, trivial, trivial⟩ ?_
      refine At.case (fun b => ⟨[(0, .c (.d (.str p0))), (5, .c (.d (.int .u64 a2))), (6, .c (.d (.int .i64 ((i1 : Nat) : Int)))), (7, .c (.d (.int .u8 (bt p0 ((i1 : Nat) : Int))))), (9, .c (.d (.int .i64 (p0.size : Int)))), (10, .c (.d (.int .i64 ((i1 : Nat) : Int)))), (18, .c (.d (.bool b)))], []⟩) (b := (decide (0 < ((i1 : Nat) : Int)))) h (fun h => ?_) (fun h => ?_)
      · refine At.seg 4 [0, 5, 6, 7, 9, 10, 22] [] (s' := ⟨[(0, .c (.d (.str p0))), (5, .c (.d (.int .u64 a2))), (6, .c (.d (.int .i64 ((i1 : Nat) : Int)))), (7, .c (.d (.int .u8 (bt p0 ((i1 : Nat) : Int))))), (9, .c (.d (.int .i64 (p0.size : Int)))), (10, .c (.d (.int .i64 ((i1 : Nat) : Int)))), (22, .c (.d (.bool (decide ((bt p0 ((i1 : Nat) : Int)) = 0)))))], []⟩) (c := True ∧ True ∧ True ∧ True ∧ True) (by kernel_rfl) ⟨trivial, trivial, trivial, trivial, trivial⟩ ?_
        refine At.case (fun b => ⟨[(0, .c (.d (.str p0))), (5, .c (.d (.int .u64 a2))), (6, .c (.d (.int .i64 ((i1 : Nat) : Int)))), (7, .c (.d (.int .u8 (bt p0 ((i1 : Nat) : Int))))), (9, .c (.d (.int .i64 (p0.size : Int)))), (10, .c (.d (.int .i64 ((i1 : Nat) : Int)))), (22, .c (.d (.bool b)))], []⟩) (b := (decide ((bt p0 ((i1 : Nat) : Int)) = 0))) h (fun h => ?_) (fun h => ?_)
        · refine At.seg 7 [0, 5, 6, 7, 9, 10, 29] [] (s' := ⟨[(0, .c (.d (.str p0))), (5, .c (.d (.int .u64 a2))), (6, .c (.d (.int .i64 ((i1 : Nat) : Int)))), (7, .c (.d (.int .u8 (bt p0 ((i1 : Nat) : Int))))), (9, .c (.d (.int .i64 (p0.size : Int)))), (10, .c (.d (.int .i64 ((i1 : Nat) : Int)))), (29, .c (.d (.bool true)))], []⟩) (c := True ∧ True) (by kernel_rfl) ⟨trivial, trivial⟩ ?_
          refine At.done rfl ?_
          exact ⟨_, h, rfl⟩
        · refine At.seg 3 [0, 5, 6, 7, 9, 10, 22, 25] [] (s' := ⟨[(0, .c (.d (.str p0))), (5, .c (.d (.int .u64 a2))), (6, .c (.d (.int .i64 ((i1 : Nat) : Int)))), (7, .c (.d (.int .u8 (bt p0 ((i1 : Nat) : Int))))), (9, .c (.d (.int .i64 (p0.size : Int)))), (10, .c (.d (.int .i64 ((i1 : Nat) : Int)))), (22, .c (.d (.bool false))), (25, .c (.d (.bool (decide (((i1 : Nat) : Int) = 9)))))], []⟩) (c := True ∧ True ∧ True ∧ True) (by kernel_rfl) ⟨trivial, trivial, trivial, trivial⟩ ?_
          refine At.case (fun b => ⟨[(0, .c (.d (.str p0))), (5, .c (.d (.int .u64 a2))), (6, .c (.d (.int .i64 ((i1 : Nat) : Int)))), (7, .c (.d (.int .u8 (bt p0 ((i1 : Nat) : Int))))), (9, .c (.d (.int .i64 (p0.size : Int)))), (10, .c (.d (.int .i64 ((i1 : Nat) : Int)))), (22, .c (.d (.bool false))), (25, .c (.d (.bool b)))], []⟩) (b := (decide (((i1 : Nat) : Int) = 9))) h (fun h => ?_) (fun h => ?_)
          · refine At.seg 4 [0, 5, 6, 7, 9, 10, 29] [] (s' := ⟨[(0, .c (.d (.str p0))), (5, .c (.d (.int .u64 a2))), (6, .c (.d (.int .i64 ((i1 : Nat) : Int)))), (7, .c (.d (.int .u8 (bt p0 ((i1 : Nat) : Int))))), (9, .c (.d (.int .i64 (p0.size : Int)))), (10, .c (.d (.int .i64 ((i1 : Nat) : Int)))), (29, .c (.d (.bool (decide (1 < (bt p0 ((i1 : Nat) : Int)))))))], []⟩) (c := True ∧ True ∧ True ∧ True ∧ True) (by kernel_rfl) ⟨trivial, trivial, trivial, trivial, trivial⟩ ?_
            refine At.done rfl ?_
            exact ⟨_, h, rfl⟩
          · refine At.seg 4 [0, 5, 6, 7, 9, 10, 29] [] (s' := ⟨[(0, .c (.d (.str p0))), (5, .c (.d (.int .u64 a2))), (6, .c (.d (.int .i64 ((i1 : Nat) : Int)))), (7, .c (.d (.int .u8 (bt p0 ((i1 : Nat) : Int))))), (9, .c (.d (.int .i64 (p0.size : Int)))), (10, .c (.d (.int .i64 ((i1 : Nat) : Int)))), (29, .c (.d (.bool false)))], []⟩) (c := True ∧ True ∧ True) (by kernel_rfl) ⟨trivial, trivial, trivial⟩ ?_
            refine At.done rfl ?_
            exact ⟨_, h, rfl⟩
      · refine At.seg 7 [0, 5, 6, 7, 9, 10, 22, 25] [] (s' := ⟨[(0, .c (.d (.str p0))), (5, .c (.d (.int .u64 a2))), (6, .c (.d (.int .i64 ((i1 : Nat) : Int)))), (7, .c (.d (.int .u8 (bt p0 ((i1 : Nat) : Int))))), (9, .c (.d (.int .i64 (p0.size : Int)))), (10, .c (.d (.int .i64 ((i1 : Nat) : Int)))), (22, .c (.d (.bool false))), (25, .c (.d (.bool (decide (((i1 : Nat) : Int) = 9)))))], []⟩) (c := True ∧ True ∧ True ∧ True ∧ True ∧ True) (by kernel_rfl) ⟨trivial, trivial, trivial, trivial, trivial, trivial⟩ ?_
        refine At.case (fun b => ⟨[(0, .c (.d (.str p0))), (5, .c (.d (.int .u64 a2))), (6, .c (.d (.int .i64 ((i1 : Nat) : Int)))), (7, .c (.d (.int .u8 (bt p0 ((i1 : Nat) : Int))))), (9, .c (.d (.int .i64 (p0.size : Int)))), (10, .c (.d (.int .i64 ((i1 : Nat) : Int)))), (22, .c (.d (.bool false))), (25, .c (.d (.bool b)))], []⟩) (b := (decide (((i1 : Nat) : Int) = 9))) h (fun h => ?_) (fun h => ?_)
        · refine At.seg 4 [0, 5, 6, 7, 9, 10, 29] [] (s' := ⟨[(0, .c (.d (.str p0))), (5, .c (.d (.int .u64 a2))), (6, .c (.d (.int .i64 ((i1 : Nat) : Int)))), (7, .c (.d (.int .u8 (bt p0 ((i1 : Nat) : Int))))), (9, .c (.d (.int .i64 (p0.size : Int)))), (10, .c (.d (.int .i64 ((i1 : Nat) : Int)))), (29, .c (.d (.bool (decide (1 < (bt p0 ((i1 : Nat) : Int)))))))], []⟩) (c := True ∧ True ∧ True ∧ True ∧ True) (by kernel_rfl) ⟨trivial, trivial, trivial, trivial, trivial⟩ ?_
          refine At.done rfl ?_
          exact ⟨_, h, rfl⟩
        · refine At.seg 4 [0, 5, 6, 7, 9, 10, 29] [] (s' := ⟨[(0, .c (.d (.str p0))), (5, .c (.d (.int .u64 a2))), (6, .c (.d (.int .i64 ((i1 : Nat) : Int)))), (7, .c (.d (.int .u8 (bt p0 ((i1 : Nat) : Int))))), (9, .c (.d (.int .i64 (p0.size : Int)))), (10, .c (.d (.int .i64 ((i1 : Nat) : Int)))), (29, .c (.d (.bool false)))], []⟩) (c := True ∧ True ∧ True) (by kernel_rfl) ⟨trivial, trivial, trivial⟩ ?_
          refine At.done rfl ?_
          exact ⟨_, h, rfl⟩
  · intro a3 h
    show Tri _ _ _ _
    refine Tri.seqS ?_
    refine Tri.reg ?_
    refine At.seg 3 [2, 3, 4] [] (s' := ⟨[(2, .c (.d (.int .u64 0))), (3, .c (.d (.str (bs [])))), (4, .c (.d (.int .i64 3)))], []⟩) (c := True ∧ True ∧ True ∧ True) (by kernel_rfl) ⟨trivial, trivial, trivial, trivial⟩ ?_
    refine At.done rfl ?_
    show Tri _ _ _ _
    refine Tri.keep [2, 3, 4] [] (s' := ⟨[(2, .c (.d (.int .u64 0))), (3, .c (.d (.str (bs [])))), (4, .c (.d (.int .i64 3)))], []⟩) (by kernel_rfl) ?_
    refine Tri.ret ?_
    cases h
    refine ⟨_, _, rfl, ⟨trivial, ⟨trivial, ⟨trivial, trivial⟩⟩⟩, rfl, rfl, ?_⟩
    intro k c h
    cases h
  · exact fun x s hx hr => by cases hx; exact hr

set_option maxRecDepth 100000 in
theorem pack_TakeText_ok {p0 : ByteArray} {q : ByteArray × ByteArray × Int} (h : pack_TakeText p0 = some q) :
    Summ Try.prog 19 [.c (.d (.str p0))] [] (.tup [(false, [.d (.str q.1)]), (false, [.d (.str q.2.1)]), (false, [.d (.int .i64 q.2.2)])]) [] := by
  refine Summ.intro Try.func19 rfl (by kernel_rfl) (by kernel_rfl) [] rfl ?_
  rintro ⟨P, w0, G0, V, LL, lk, N, φ0, fx⟩ rfl rfl rfl rfl
  unfold pack_TakeText at h
  refine Tri.seqS ?_
  refine Tri.reg ?_
  refine At.seg 3 [0] [] (s' := ⟨[(0, .c (.d (.str p0)))], []⟩) (c := True ∧ True ∧ True ∧ True) (by kernel_rfl) ⟨trivial, trivial, trivial, trivial⟩ ?_
  refine At.done rfl ?_
  show Tri _ _ _ _
  refine Tri.seqS ?_
  refine Tri.reg ?_
  refine At.seg 1 [9] [] (s' := ⟨[(9, .c (.d (.str p0)))], []⟩) (c := True ∧ True) (by kernel_rfl) ⟨trivial, trivial⟩ ?_
  obtain ⟨r1, hr1, h⟩ := bind_elim h
  refine At.callA (caps := []) (xs := [.c (.d (.str p0))]) (pack_TakeCount_ok hr1) rfl rfl rfl rfl rfl rfl (.cons (.refl _) .nil) rfl rfl ?_
  refine At.seg 7 [5, 6, 7] [] (s' := ⟨[(5, .c (.d (.int .u64 r1.1))), (6, .c (.d (.str r1.2.1))), (7, .c (.d (.int .i64 r1.2.2)))], []⟩) (c := True ∧ True ∧ True ∧ True ∧ True ∧ True ∧ True ∧ True) (by kernel_rfl) ⟨trivial, trivial, trivial, trivial, trivial, trivial, trivial, trivial⟩ ?_
  refine At.done rfl ?_
  show Tri _ _ _ _
  refine Tri.seqJ (fun (a2 : Int) => ⟨[(5, .c (.d (.int .u64 r1.1))), (6, .c (.d (.str r1.2.1))), (7, .c (.d (.int .i64 a2)))], []⟩) h (fun a2 h => ?_) (fun j3 h => ?_)
  · show Tri _ _ ⟨[(5, .c (.d (.int .u64 r1.1))), (6, .c (.d (.str r1.2.1))), (7, .c (.d (.int .i64 a2)))], []⟩ _
    refine Tri.seqJ (fun (a4 : Int) => ⟨[(5, .c (.d (.int .u64 r1.1))), (6, .c (.d (.str r1.2.1))), (7, .c (.d (.int .i64 a4)))], []⟩) h (fun a4 h => ?_) (fun j5 h => ?_)
    · show Tri _ _ ⟨[(5, .c (.d (.int .u64 r1.1))), (6, .c (.d (.str r1.2.1))), (7, .c (.d (.int .i64 a4)))], []⟩ _
      refine Tri.seqS ?_
      refine Tri.seqS ?_
      refine Tri.reg ?_
      refine At.seg 2 [5, 6, 7, 30] [] (s' := ⟨[(5, .c (.d (.int .u64 r1.1))), (6, .c (.d (.str r1.2.1))), (7, .c (.d (.int .i64 a4))), (30, .c (.d (.bool (!decide (a4 = 0)))))], []⟩) (c := True ∧ True ∧ True) (by kernel_rfl) ⟨trivial, trivial, trivial⟩ ?_
      refine At.done rfl ?_
      show Tri _ _ _ _
      refine Tri.condP (b := (!decide (a4 = 0))) rfl h (fun h => ?_) (fun h => ?_)
      · refine Tri.seqS ?_
        refine Tri.reg ?_
        refine At.seg 4 [2, 3, 4] [] (s' := ⟨[(2, .c (.d (.str (bs [])))), (3, .c (.d (.str (bs [])))), (4, .c (.d (.int .i64 a4)))], []⟩) (c := True ∧ True ∧ True ∧ True ∧ True) (by kernel_rfl) ⟨trivial, trivial, trivial, trivial, trivial⟩ ?_
        refine At.done rfl ?_
        show Tri _ _ _ _
        refine Tri.keep [2, 3, 4] [] (s' := ⟨[(2, .c (.d (.str (bs [])))), (3, .c (.d (.str (bs [])))), (4, .c (.d (.int .i64 a4)))], []⟩) (by kernel_rfl) ?_
        refine Tri.ret ?_
        cases h
        refine ⟨_, _, rfl, ⟨trivial, ⟨trivial, ⟨trivial, trivial⟩⟩⟩, rfl, rfl, ?_⟩
        intro k c h
        cases h
      · refine Tri.skip ?_
        show Tri _ _ _ _
        refine Tri.seqS ?_
        obtain ⟨hc6, h⟩ := need_elim h
        obtain ⟨hc7, h⟩ := need_elim h
        refine Tri.drawn (specs := [⟨⟨[(6, .c (.d (.str r1.2.1)))], []⟩, ⟨[(32, .c (.d (.str r1.2.1)))], []⟩, [], [], []⟩, ⟨⟨[(5, .c (.d (.int .u64 r1.1)))], []⟩, ⟨[(33, .c (.d (.int .u64 r1.1)))], []⟩, [], [], []⟩, ⟨⟨[(32, .c (.d (.str r1.2.1))), (33, .c (.d (.int .u64 r1.1)))], []⟩, ⟨[(34, .c (.d (.str (r1.2.1.extract 0 r1.1.toNat))))], []⟩, [], [], []⟩, ⟨⟨[(6, .c (.d (.str r1.2.1)))], []⟩, ⟨[(35, .c (.d (.str r1.2.1)))], []⟩, [], [], []⟩, ⟨⟨[(5, .c (.d (.int .u64 r1.1)))], []⟩, ⟨[(36, .c (.d (.int .u64 r1.1)))], []⟩, [], [], []⟩, ⟨⟨[(35, .c (.d (.str r1.2.1))), (36, .c (.d (.int .u64 r1.1)))], []⟩, ⟨[(37, .c (.d (.str (r1.2.1.extract r1.1.toNat r1.2.1.size))))], []⟩, [], [], []⟩, ⟨⟨[(34, .c (.d (.str (r1.2.1.extract 0 r1.1.toNat))))], []⟩, ⟨[(2, .c (.d (.str (r1.2.1.extract 0 r1.1.toNat))))], []⟩, [], [], []⟩, ⟨⟨[(37, .c (.d (.str (r1.2.1.extract r1.1.toNat r1.2.1.size))))], []⟩, ⟨[(3, .c (.d (.str (r1.2.1.extract r1.1.toNat r1.2.1.size))))], []⟩, [], [], []⟩, ⟨⟨[], []⟩, ⟨[(4, .c (.d (.int .i64 0)))], []⟩, [], [], []⟩]) (bef := [[], [], [0, 1], [], [], [3, 4], [0, 1, 2], [0, 1, 2, 3, 4, 5, 6], [0, 1, 2, 3, 4, 5, 6, 7]]) (tk := [2, 3, 4]) (sk := []) (s' := ⟨[(2, .c (.d (.str (r1.2.1.extract 0 r1.1.toNat)))), (3, .c (.d (.str (r1.2.1.extract r1.1.toNat r1.2.1.size)))), (4, .c (.d (.int .i64 0)))], []⟩) (by kernel_rfl) (by kernel_rfl) (by kernel_rfl) ⟨?_, ?_, ?_, ?_, ?_, ?_, ?_, ?_, ?_, trivial⟩ (by kernel_rfl) ?_
        · exact DOk.step (.val (.c (.d (.str r1.2.1))) (True)) (fun r => by kernel_rfl) (fun r => by kernel_rfl) trivial (by kernel_rfl) (by kernel_rfl) (fun r => rfl)
        · exact DOk.step (.val (.c (.d (.int .u64 r1.1))) (True)) (fun r => by kernel_rfl) (fun r => by kernel_rfl) trivial (by kernel_rfl) (by kernel_rfl) (fun r => rfl)
        · exact DOk.step (.val (.c (.d (.str (r1.2.1.extract 0 r1.1.toNat)))) ((0 : Int) ≤ 0 ∧ (0 : Int) ≤ r1.1 ∧ r1.1 ≤ (r1.2.1.size : Int))) (fun r => by kernel_rfl) (fun r => by kernel_rfl) hc6 (by kernel_rfl) (by kernel_rfl) (fun r => rfl)
        · exact DOk.step (.val (.c (.d (.str r1.2.1))) (True)) (fun r => by kernel_rfl) (fun r => by kernel_rfl) trivial (by kernel_rfl) (by kernel_rfl) (fun r => rfl)
        · exact DOk.step (.val (.c (.d (.int .u64 r1.1))) (True)) (fun r => by kernel_rfl) (fun r => by kernel_rfl) trivial (by kernel_rfl) (by kernel_rfl) (fun r => rfl)
        · exact DOk.step (.val (.c (.d (.str (r1.2.1.extract r1.1.toNat r1.2.1.size)))) ((0 : Int) ≤ r1.1 ∧ r1.1 ≤ (r1.2.1.size : Int) ∧ (r1.2.1.size : Int) ≤ (r1.2.1.size : Int))) (fun r => by kernel_rfl) (fun r => by kernel_rfl) hc7 (by kernel_rfl) (by kernel_rfl) (fun r => rfl)
        · exact DOk.step (.val (.c (.d (.str (r1.2.1.extract 0 r1.1.toNat)))) (True)) (fun r => by kernel_rfl) (fun r => by kernel_rfl) trivial (by kernel_rfl) (by kernel_rfl) (fun r => rfl)
        · exact DOk.step (.val (.c (.d (.str (r1.2.1.extract r1.1.toNat r1.2.1.size)))) (True)) (fun r => by kernel_rfl) (fun r => by kernel_rfl) trivial (by kernel_rfl) (by kernel_rfl) (fun r => rfl)
        · exact DOk.step (.val (.c (.d (.int .i64 0))) (True)) (fun r => by kernel_rfl) (fun r => by kernel_rfl) trivial (by kernel_rfl) (by kernel_rfl) (fun r => rfl)
        show Tri _ _ _ _
        refine Tri.keep [2, 3, 4] [] (s' := ⟨[(2, .c (.d (.str (r1.2.1.extract 0 r1.1.toNat)))), (3, .c (.d (.str (r1.2.1.extract r1.1.toNat r1.2.1.size)))), (4, .c (.d (.int .i64 0)))], []⟩) (by kernel_rfl) ?_
        refine Tri.ret ?_
        cases h
        refine ⟨_, _, rfl, ⟨trivial, ⟨trivial, ⟨trivial, trivial⟩⟩⟩, rfl, rfl, ?_⟩
        intro k c h
        cases h
    · refine Tri.seqJ (fun (a8 : Bool) => ⟨[(5, .c (.d (.int .u64 r1.1))), (6, .c (.d (.str r1.2.1))), (7, .c (.d (.int .i64 a2))), (28, .c (.d (.bool a8)))], []⟩) h (fun a8 h => ?_) (fun j9 h => ?_)
      · show Tri _ _ ⟨[(5, .c (.d (.int .u64 r1.1))), (6, .c (.d (.str r1.2.1))), (7, .c (.d (.int .i64 a2))), (28, .c (.d (.bool a8)))], []⟩ _
        refine Tri.condP (b := a8) rfl h (fun h => ?_) (fun h => ?_)
        · refine Tri.reg ?_
          refine At.seg 1 [5, 6, 7] [] (s' := ⟨[(5, .c (.d (.int .u64 r1.1))), (6, .c (.d (.str r1.2.1))), (7, .c (.d (.int .i64 3)))], []⟩) (c := True ∧ True) (by kernel_rfl) ⟨trivial, trivial⟩ ?_
          refine At.done rfl ?_
          exact ⟨_, h, rfl⟩
        · refine Tri.keep [5, 6, 7] [] (s' := ⟨[(5, .c (.d (.int .u64 r1.1))), (6, .c (.d (.str r1.2.1))), (7, .c (.d (.int .i64 a2)))], []⟩) (by kernel_rfl) ?_
          refine Tri.skip ?_
          exact ⟨_, h, rfl⟩
      · refine Tri.reg ?_
        refine At.seg 3 [5, 6, 7, 22] [] (s' := ⟨[(5, .c (.d (.int .u64 r1.1))), (6, .c (.d (.str r1.2.1))), (7, .c (.d (.int .i64 a2))), (22, .c (.d (.bool (decide (a2 = 0)))))], []⟩) (c := True ∧ True ∧ True ∧ True) (by kernel_rfl) ⟨trivial, trivial, trivial, trivial⟩ ?_
        refine At.case (fun b => ⟨[(5, .c (.d (.int .u64 r1.1))), (6, .c (.d (.str r1.2.1))), (7, .c (.d (.int .i64 a2))), (22, .c (.d (.bool b)))], []⟩) (b := (decide (a2 = 0))) h (fun h => ?_) (fun h => ?_)
        · refine At.seg 6 [5, 6, 7, 28] [] (s' := ⟨[(5, .c (.d (.int .u64 r1.1))), (6, .c (.d (.str r1.2.1))), (7, .c (.d (.int .i64 a2))), (28, .c (.d (.bool (decide ((IntKind.u64.wrap (r1.2.1.size : Int)) < r1.1)))))], []⟩) (c := True ∧ True ∧ True ∧ True ∧ True ∧ True ∧ True) (by kernel_rfl) ⟨trivial, trivial, trivial, trivial, trivial, trivial, trivial⟩ ?_
          refine At.done rfl ?_
          exact ⟨_, h, rfl⟩
        · refine At.seg 6 [5, 6, 7, 28] [] (s' := ⟨[(5, .c (.d (.int .u64 r1.1))), (6, .c (.d (.str r1.2.1))), (7, .c (.d (.int .i64 a2))), (28, .c (.d (.bool false)))], []⟩) (c := True ∧ True) (by kernel_rfl) ⟨trivial, trivial⟩ ?_
          refine At.done rfl ?_
          exact ⟨_, h, rfl⟩
  · refine Tri.seqJ (fun (a10 : Bool) => ⟨[(5, .c (.d (.int .u64 r1.1))), (6, .c (.d (.str r1.2.1))), (7, .c (.d (.int .i64 r1.2.2))), (19, .c (.d (.bool a10)))], []⟩) h (fun a10 h => ?_) (fun j11 h => ?_)
    · show Tri _ _ ⟨[(5, .c (.d (.int .u64 r1.1))), (6, .c (.d (.str r1.2.1))), (7, .c (.d (.int .i64 r1.2.2))), (19, .c (.d (.bool a10)))], []⟩ _
      refine Tri.condP (b := a10) rfl h (fun h => ?_) (fun h => ?_)
      · refine Tri.reg ?_
        refine At.seg 1 [5, 6, 7] [] (s' := ⟨[(5, .c (.d (.int .u64 r1.1))), (6, .c (.d (.str r1.2.1))), (7, .c (.d (.int .i64 2)))], []⟩) (c := True ∧ True) (by kernel_rfl) ⟨trivial, trivial⟩ ?_
        refine At.done rfl ?_
        exact ⟨_, h, rfl⟩
      · refine Tri.keep [5, 6, 7] [] (s' := ⟨[(5, .c (.d (.int .u64 r1.1))), (6, .c (.d (.str r1.2.1))), (7, .c (.d (.int .i64 r1.2.2)))], []⟩) (by kernel_rfl) ?_
        refine Tri.skip ?_
        exact ⟨_, h, rfl⟩
    · refine Tri.reg ?_
      refine At.seg 3 [5, 6, 7, 16] [] (s' := ⟨[(5, .c (.d (.int .u64 r1.1))), (6, .c (.d (.str r1.2.1))), (7, .c (.d (.int .i64 r1.2.2))), (16, .c (.d (.bool (decide (r1.2.2 = 0)))))], []⟩) (c := True ∧ True ∧ True ∧ True) (by kernel_rfl) ⟨trivial, trivial, trivial, trivial⟩ ?_
      refine At.case (fun b => ⟨[(5, .c (.d (.int .u64 r1.1))), (6, .c (.d (.str r1.2.1))), (7, .c (.d (.int .i64 r1.2.2))), (16, .c (.d (.bool b)))], []⟩) (b := (decide (r1.2.2 = 0))) h (fun h => ?_) (fun h => ?_)
      · refine At.seg 3 [5, 6, 7, 19] [] (s' := ⟨[(5, .c (.d (.int .u64 r1.1))), (6, .c (.d (.str r1.2.1))), (7, .c (.d (.int .i64 r1.2.2))), (19, .c (.d (.bool (decide (65536 < r1.1)))))], []⟩) (c := True ∧ True ∧ True ∧ True) (by kernel_rfl) ⟨trivial, trivial, trivial, trivial⟩ ?_
        refine At.done rfl ?_
        exact ⟨_, h, rfl⟩
      · refine At.seg 3 [5, 6, 7, 19] [] (s' := ⟨[(5, .c (.d (.int .u64 r1.1))), (6, .c (.d (.str r1.2.1))), (7, .c (.d (.int .i64 r1.2.2))), (19, .c (.d (.bool false)))], []⟩) (c := True ∧ True) (by kernel_rfl) ⟨trivial, trivial⟩ ?_
        refine At.done rfl ?_
        exact ⟨_, h, rfl⟩

set_option maxRecDepth 100000 in
theorem freshetref01_TakeCount_ok {fuel : Nat} {p0 : ByteArray} {q : Int × ByteArray × Int} (h : freshetref01_TakeCount fuel p0 = some q) :
    Summ Try.prog 22 [.c (.d (.str p0))] [] (.tup [(false, [.d (.int .u64 q.1)]), (false, [.d (.str q.2.1)]), (false, [.d (.int .i64 q.2.2)])]) [] := by
  refine Summ.intro Try.func22 rfl (by kernel_rfl) (by kernel_rfl) [] rfl ?_
  rintro ⟨P, w0, G0, V, LL, lk, N, φ0, fx⟩ rfl rfl rfl rfl
  unfold freshetref01_TakeCount at h
  refine Tri.seqS ?_
  refine Tri.reg ?_
  refine At.seg 3 [0] [] (s' := ⟨[(0, .c (.d (.str p0)))], []⟩) (c := True ∧ True ∧ True ∧ True) (by kernel_rfl) ⟨trivial, trivial, trivial, trivial⟩ ?_
  refine At.done rfl ?_
  show Tri _ _ _ _
  refine Tri.seqS ?_
  refine Tri.reg ?_
  refine At.seg 1 [0, 5] [] (s' := ⟨[(0, .c (.d (.str p0))), (5, .c (.d (.int .u64 0)))], []⟩) (c := True ∧ True) (by kernel_rfl) ⟨trivial, trivial⟩ ?_
  refine At.done rfl ?_
  show Tri _ _ _ _
  refine Tri.seqS ?_
  refine Tri.reg ?_
  refine At.seg 1 [0, 5, 6] [] (s' := ⟨[(0, .c (.d (.str p0))), (5, .c (.d (.int .u64 0))), (6, .c (.d (.int .u64 1)))], []⟩) (c := True ∧ True) (by kernel_rfl) ⟨trivial, trivial⟩ ?_
  refine At.done rfl ?_
  show Tri _ _ _ _
  refine Tri.seqS ?_
  refine Tri.reg ?_
  refine At.seg 1 [0, 5, 6, 7] [] (s' := ⟨[(0, .c (.d (.str p0))), (5, .c (.d (.int .u64 0))), (6, .c (.d (.int .u64 1))), (7, .c (.d (.int .i64 0)))], []⟩) (c := True ∧ True) (by kernel_rfl) ⟨trivial, trivial⟩ ?_
  refine At.done rfl ?_
  show Tri _ _ _ _
  refine Tri.keep [0, 5, 6, 7] [] (s' := ⟨[(0, .c (.d (.str p0))), (5, .c (.d (.int .u64 0))), (6, .c (.d (.int .u64 1))), (7, .c (.d (.int .i64 0)))], []⟩) (by kernel_rfl) ?_
  refine Tri.loopK (fuel := fuel) (st0 := (0, 1, 0)) (fun (x : Int × ByteArray × Int) s => RetAt Try.prog Try.f22 (.tup [(false, [.d (.int .u64 x.1)]), (false, [.d (.str x.2.1)]), (false, [.d (.int .i64 x.2.2)])]) [] s) (fun (a1 : Int × Int × Int) => ⟨[(0, .c (.d (.str p0))), (5, .c (.d (.int .u64 a1.1))), (6, .c (.d (.int .u64 a1.2.1))), (7, .c (.d (.int .i64 a1.2.2)))], []⟩) (fun (a1 : Int × Int × Int) => ⟨[(0, .c (.d (.str p0))), (5, .c (.d (.int .u64 a1.1))), (6, .c (.d (.int .u64 a1.2.1))), (7, .c (.d (.int .i64 a1.2.2)))], []⟩) h ?_ ?_ ?_
  · intro a1 c h
    show Tri _ _ ⟨[(0, .c (.d (.str p0))), (5, .c (.d (.int .u64 a1.1))), (6, .c (.d (.int .u64 a1.2.1))), (7, .c (.d (.int .i64 a1.2.2)))], []⟩ _
    refine Tri.seqS ?_
    refine Tri.blockB ?_
    refine Tri.seqS ?_
    refine Tri.seqS ?_
    refine Tri.reg ?_
    refine At.seg 4 [0, 5, 6, 7, 14] [] (s' := ⟨[(0, .c (.d (.str p0))), (5, .c (.d (.int .u64 a1.1))), (6, .c (.d (.int .u64 a1.2.1))), (7, .c (.d (.int .i64 a1.2.2))), (14, .c (.d (.bool (decide (a1.2.2 = (p0.size : Int))))))], []⟩) (c := True ∧ True ∧ True ∧ True ∧ True) (by kernel_rfl) ⟨trivial, trivial, trivial, trivial, trivial⟩ ?_
    refine At.done rfl ?_
    show Tri _ _ _ _
    refine Tri.condP (b := (decide (a1.2.2 = (p0.size : Int)))) rfl h (fun h => ?_) (fun h => ?_)
    · refine Tri.seqS ?_
      refine Tri.reg ?_
      refine At.seg 3 [2, 3, 4] [] (s' := ⟨[(2, .c (.d (.int .u64 0))), (3, .c (.d (.str (bs [])))), (4, .c (.d (.int .i64 3)))], []⟩) (c := True ∧ True ∧ True ∧ True) (by kernel_rfl) ⟨trivial, trivial, trivial, trivial⟩ ?_
      refine At.done rfl ?_
      show Tri _ _ _ _
      refine Tri.keep [2, 3, 4] [] (s' := ⟨[(2, .c (.d (.int .u64 0))), (3, .c (.d (.str (bs [])))), (4, .c (.d (.int .i64 3)))], []⟩) (by kernel_rfl) ?_
      refine Tri.ret ?_
      cases h
      refine ⟨_, _, rfl, ⟨trivial, ⟨trivial, ⟨trivial, trivial⟩⟩⟩, rfl, rfl, ?_⟩
      intro k c h
      cases h
    · refine Tri.skip ?_
      show Tri _ _ _ _
      refine Tri.seqS ?_
      refine Tri.reg ?_
      obtain ⟨hc3, h⟩ := need_elim h
      refine At.seg 4 [0, 5, 6, 7, 8] [] (s' := ⟨[(0, .c (.d (.str p0))), (5, .c (.d (.int .u64 a1.1))), (6, .c (.d (.int .u64 a1.2.1))), (7, .c (.d (.int .i64 a1.2.2))), (8, .c (.d (.int .u8 (bt p0 a1.2.2))))], []⟩) (c := True ∧ True ∧ ((0 : Int) ≤ a1.2.2 ∧ a1.2.2 < (p0.size : Int)) ∧ True ∧ True) (by kernel_rfl) ⟨trivial, trivial, hc3, trivial, trivial⟩ ?_
      refine At.done rfl ?_
      show Tri _ _ _ _
      refine Tri.seqS ?_
      refine Tri.seqJ (fun (a4 : Bool) => ⟨[(0, .c (.d (.str p0))), (5, .c (.d (.int .u64 a1.1))), (6, .c (.d (.int .u64 a1.2.1))), (7, .c (.d (.int .i64 a1.2.2))), (8, .c (.d (.int .u8 (bt p0 a1.2.2)))), (31, .c (.d (.bool a4)))], []⟩) h (fun a4 h => ?_) (fun j5 h => ?_)
      · show Tri _ _ ⟨[(0, .c (.d (.str p0))), (5, .c (.d (.int .u64 a1.1))), (6, .c (.d (.int .u64 a1.2.1))), (7, .c (.d (.int .i64 a1.2.2))), (8, .c (.d (.int .u8 (bt p0 a1.2.2)))), (31, .c (.d (.bool a4)))], []⟩ _
        refine Tri.condP (b := a4) rfl h (fun h => ?_) (fun h => ?_)
        · refine Tri.seqS ?_
          refine Tri.reg ?_
          refine At.seg 3 [2, 3, 4] [] (s' := ⟨[(2, .c (.d (.int .u64 0))), (3, .c (.d (.str (bs [])))), (4, .c (.d (.int .i64 4)))], []⟩) (c := True ∧ True ∧ True ∧ True) (by kernel_rfl) ⟨trivial, trivial, trivial, trivial⟩ ?_
          refine At.done rfl ?_
          show Tri _ _ _ _
          refine Tri.keep [2, 3, 4] [] (s' := ⟨[(2, .c (.d (.int .u64 0))), (3, .c (.d (.str (bs [])))), (4, .c (.d (.int .i64 4)))], []⟩) (by kernel_rfl) ?_
          refine Tri.ret ?_
          cases h
          refine ⟨_, _, rfl, ⟨trivial, ⟨trivial, ⟨trivial, trivial⟩⟩⟩, rfl, rfl, ?_⟩
          intro k c h
          cases h
        · refine Tri.skip ?_
          show Tri _ _ _ _
          refine Tri.seqS ?_
          refine Tri.reg ?_
          refine At.seg 8 [0, 5, 6, 7, 8] [] (s' := ⟨[(0, .c (.d (.str p0))), (5, .c (.d (.int .u64 (IntKind.u64.wrap (a1.1 + (IntKind.u64.wrap ((IntKind.u64.wrap ((bt p0 a1.2.2).tmod 128)) * a1.2.1))))))), (6, .c (.d (.int .u64 a1.2.1))), (7, .c (.d (.int .i64 a1.2.2))), (8, .c (.d (.int .u8 (bt p0 a1.2.2))))], []⟩) (c := True ∧ True ∧ ((128 : Int) ≠ 0) ∧ True ∧ True ∧ True ∧ True ∧ True ∧ True) (by kernel_rfl) ⟨trivial, trivial, (by decide : (128 : Int) ≠ 0), trivial, trivial, trivial, trivial, trivial, trivial⟩ ?_
          refine At.done rfl ?_
          show Tri _ _ _ _
          refine Tri.seqS ?_
          refine Tri.reg ?_
          refine At.seg 3 [0, 5, 6, 7, 8] [] (s' := ⟨[(0, .c (.d (.str p0))), (5, .c (.d (.int .u64 (IntKind.u64.wrap (a1.1 + (IntKind.u64.wrap ((IntKind.u64.wrap ((bt p0 a1.2.2).tmod 128)) * a1.2.1))))))), (6, .c (.d (.int .u64 (IntKind.u64.wrap (a1.2.1 * 128))))), (7, .c (.d (.int .i64 a1.2.2))), (8, .c (.d (.int .u8 (bt p0 a1.2.2))))], []⟩) (c := True ∧ True ∧ True ∧ True) (by kernel_rfl) ⟨trivial, trivial, trivial, trivial⟩ ?_
          refine At.done rfl ?_
          show Tri _ _ _ _
          refine Tri.seqS ?_
          refine Tri.reg ?_
          refine At.seg 2 [0, 5, 6, 7, 42] [] (s' := ⟨[(0, .c (.d (.str p0))), (5, .c (.d (.int .u64 (IntKind.u64.wrap (a1.1 + (IntKind.u64.wrap ((IntKind.u64.wrap ((bt p0 a1.2.2).tmod 128)) * a1.2.1))))))), (6, .c (.d (.int .u64 (IntKind.u64.wrap (a1.2.1 * 128))))), (7, .c (.d (.int .i64 a1.2.2))), (42, .c (.d (.bool (decide ((bt p0 a1.2.2) < 128)))))], []⟩) (c := True ∧ True ∧ True) (by kernel_rfl) ⟨trivial, trivial, trivial⟩ ?_
          refine At.done rfl ?_
          show Tri _ _ _ _
          refine Tri.condP (b := (decide ((bt p0 a1.2.2) < 128))) rfl h (fun h => ?_) (fun h => ?_)
          · refine Tri.seqS ?_
            obtain ⟨hc6, h⟩ := need_elim h
            refine Tri.drawn (specs := [⟨⟨[(5, .c (.d (.int .u64 (IntKind.u64.wrap (a1.1 + (IntKind.u64.wrap ((IntKind.u64.wrap ((bt p0 a1.2.2).tmod 128)) * a1.2.1)))))))], []⟩, ⟨[(43, .c (.d (.int .u64 (IntKind.u64.wrap (a1.1 + (IntKind.u64.wrap ((IntKind.u64.wrap ((bt p0 a1.2.2).tmod 128)) * a1.2.1)))))))], []⟩, [], [], []⟩, ⟨⟨[(0, .c (.d (.str p0)))], []⟩, ⟨[(44, .c (.d (.str p0)))], []⟩, [], [], []⟩, ⟨⟨[(7, .c (.d (.int .i64 a1.2.2)))], []⟩, ⟨[(45, .c (.d (.int .i64 a1.2.2)))], []⟩, [], [], []⟩, ⟨⟨[(45, .c (.d (.int .i64 a1.2.2)))], []⟩, ⟨[(46, .c (.d (.int .i64 (IntKind.i64.wrap (a1.2.2 + 1)))))], []⟩, [], [], []⟩, ⟨⟨[(44, .c (.d (.str p0))), (46, .c (.d (.int .i64 (IntKind.i64.wrap (a1.2.2 + 1)))))], []⟩, ⟨[(47, .c (.d (.str (p0.extract ((IntKind.i64.wrap (a1.2.2 + 1)).toNat) p0.size))))], []⟩, [], [], []⟩, ⟨⟨[(43, .c (.d (.int .u64 (IntKind.u64.wrap (a1.1 + (IntKind.u64.wrap ((IntKind.u64.wrap ((bt p0 a1.2.2).tmod 128)) * a1.2.1)))))))], []⟩, ⟨[(2, .c (.d (.int .u64 (IntKind.u64.wrap (a1.1 + (IntKind.u64.wrap ((IntKind.u64.wrap ((bt p0 a1.2.2).tmod 128)) * a1.2.1)))))))], []⟩, [], [], []⟩, ⟨⟨[(47, .c (.d (.str (p0.extract ((IntKind.i64.wrap (a1.2.2 + 1)).toNat) p0.size))))], []⟩, ⟨[(3, .c (.d (.str (p0.extract ((IntKind.i64.wrap (a1.2.2 + 1)).toNat) p0.size))))], []⟩, [], [], []⟩, ⟨⟨[], []⟩, ⟨[(4, .c (.d (.int .i64 0)))], []⟩, [], [], []⟩]) (bef := [[], [], [], [2], [1, 2, 3], [0], [0, 1, 2, 3, 4, 5], [0, 1, 2, 3, 4, 5, 6]]) (tk := [2, 3, 4]) (sk := []) (s' := ⟨[(2, .c (.d (.int .u64 (IntKind.u64.wrap (a1.1 + (IntKind.u64.wrap ((IntKind.u64.wrap ((bt p0 a1.2.2).tmod 128)) * a1.2.1))))))), (3, .c (.d (.str (p0.extract ((IntKind.i64.wrap (a1.2.2 + 1)).toNat) p0.size)))), (4, .c (.d (.int .i64 0)))], []⟩) (by kernel_rfl) (by kernel_rfl) (by kernel_rfl) ⟨?_, ?_, ?_, ?_, ?_, ?_, ?_, ?_, trivial⟩ (by kernel_rfl) ?_
            · exact DOk.step (.val (.c (.d (.int .u64 (IntKind.u64.wrap (a1.1 + (IntKind.u64.wrap ((IntKind.u64.wrap ((bt p0 a1.2.2).tmod 128)) * a1.2.1))))))) (True)) (fun r => by kernel_rfl) (fun r => by kernel_rfl) trivial (by kernel_rfl) (by kernel_rfl) (fun r => rfl)
            · exact DOk.step (.val (.c (.d (.str p0))) (True)) (fun r => by kernel_rfl) (fun r => by kernel_rfl) trivial (by kernel_rfl) (by kernel_rfl) (fun r => rfl)
            · exact DOk.step (.val (.c (.d (.int .i64 a1.2.2))) (True)) (fun r => by kernel_rfl) (fun r => by kernel_rfl) trivial (by kernel_rfl) (by kernel_rfl) (fun r => rfl)
            · exact DOk.step (.val (.c (.d (.int .i64 (IntKind.i64.wrap (a1.2.2 + 1))))) (True)) (fun r => by kernel_rfl) (fun r => by kernel_rfl) trivial (by kernel_rfl) (by kernel_rfl) (fun r => rfl)
            · exact DOk.step (.val (.c (.d (.str (p0.extract ((IntKind.i64.wrap (a1.2.2 + 1)).toNat) p0.size)))) ((0 : Int) ≤ (IntKind.i64.wrap (a1.2.2 + 1)) ∧ (IntKind.i64.wrap (a1.2.2 + 1)) ≤ (p0.size : Int) ∧ (p0.size : Int) ≤ (p0.size : Int))) (fun r => by kernel_rfl) (fun r => by kernel_rfl) hc6 (by kernel_rfl) (by kernel_rfl) (fun r => rfl)
            · exact DOk.step (.val (.c (.d (.int .u64 (IntKind.u64.wrap (a1.1 + (IntKind.u64.wrap ((IntKind.u64.wrap ((bt p0 a1.2.2).tmod 128)) * a1.2.1))))))) (True)) (fun r => by kernel_rfl) (fun r => by kernel_rfl) trivial (by kernel_rfl) (by kernel_rfl) (fun r => rfl)
            · exact DOk.step (.val (.c (.d (.str (p0.extract ((IntKind.i64.wrap (a1.2.2 + 1)).toNat) p0.size)))) (True)) (fun r => by kernel_rfl) (fun r => by kernel_rfl) trivial (by kernel_rfl) (by kernel_rfl) (fun r => rfl)
            · exact DOk.step (.val (.c (.d (.int .i64 0))) (True)) (fun r => by kernel_rfl) (fun r => by kernel_rfl) trivial (by kernel_rfl) (by kernel_rfl) (fun r => rfl)
            show Tri _ _ _ _
            refine Tri.keep [2, 3, 4] [] (s' := ⟨[(2, .c (.d (.int .u64 (IntKind.u64.wrap (a1.1 + (IntKind.u64.wrap ((IntKind.u64.wrap ((bt p0 a1.2.2).tmod 128)) * a1.2.1))))))), (3, .c (.d (.str (p0.extract ((IntKind.i64.wrap (a1.2.2 + 1)).toNat) p0.size)))), (4, .c (.d (.int .i64 0)))], []⟩) (by kernel_rfl) ?_
            refine Tri.ret ?_
            cases h
            refine ⟨_, _, rfl, ⟨trivial, ⟨trivial, ⟨trivial, trivial⟩⟩⟩, rfl, rfl, ?_⟩
            intro k c h
            cases h
          · refine Tri.skip ?_
            show Tri _ _ _ _
            refine Tri.reg ?_
            refine At.seg 3 [0, 5, 6, 7] [] (s' := ⟨[(0, .c (.d (.str p0))), (5, .c (.d (.int .u64 (IntKind.u64.wrap (a1.1 + (IntKind.u64.wrap ((IntKind.u64.wrap ((bt p0 a1.2.2).tmod 128)) * a1.2.1))))))), (6, .c (.d (.int .u64 (IntKind.u64.wrap (a1.2.1 * 128))))), (7, .c (.d (.int .i64 (IntKind.i64.wrap (a1.2.2 + 1)))))], []⟩) (c := True ∧ True ∧ True ∧ True) (by kernel_rfl) ⟨trivial, trivial, trivial, trivial⟩ ?_
            refine At.done rfl ?_
            cases h
            exact rfl
      · refine Tri.reg ?_
        refine At.seg 3 [0, 5, 6, 7, 8, 20] [] (s' := ⟨[(0, .c (.d (.str p0))), (5, .c (.d (.int .u64 a1.1))), (6, .c (.d (.int .u64 a1.2.1))), (7, .c (.d (.int .i64 a1.2.2))), (8, .c (.d (.int .u8 (bt p0 a1.2.2)))), (20, .c (.d (.bool (decide (a1.2.2 = 9)))))], []⟩) (c := True ∧ True ∧ True ∧ True) (by kernel_rfl) ⟨trivial, trivial, trivial, trivial⟩ ?_
        refine At.case (fun b => ⟨[(0, .c (.d (.str p0))), (5, .c (.d (.int .u64 a1.1))), (6, .c (.d (.int .u64 a1.2.1))), (7, .c (.d (.int .i64 a1.2.2))), (8, .c (.d (.int .u8 (bt p0 a1.2.2)))), (20, .c (.d (.bool b)))], []⟩) (b := (decide (a1.2.2 = 9))) h (fun h => ?_) (fun h => ?_)
        · refine At.seg 4 [0, 5, 6, 7, 8, 24] [] (s' := ⟨[(0, .c (.d (.str p0))), (5, .c (.d (.int .u64 a1.1))), (6, .c (.d (.int .u64 a1.2.1))), (7, .c (.d (.int .i64 a1.2.2))), (8, .c (.d (.int .u8 (bt p0 a1.2.2)))), (24, .c (.d (.bool (decide (1 < (bt p0 a1.2.2))))))], []⟩) (c := True ∧ True ∧ True ∧ True ∧ True) (by kernel_rfl) ⟨trivial, trivial, trivial, trivial, trivial⟩ ?_
          refine At.case (fun b => ⟨[(0, .c (.d (.str p0))), (5, .c (.d (.int .u64 a1.1))), (6, .c (.d (.int .u64 a1.2.1))), (7, .c (.d (.int .i64 a1.2.2))), (8, .c (.d (.int .u8 (bt p0 a1.2.2)))), (24, .c (.d (.bool b)))], []⟩) (b := (decide (1 < (bt p0 a1.2.2)))) h (fun h => ?_) (fun h => ?_)
          · refine At.seg 7 [0, 5, 6, 7, 8, 31] [] (s' := ⟨[(0, .c (.d (.str p0))), (5, .c (.d (.int .u64 a1.1))), (6, .c (.d (.int .u64 a1.2.1))), (7, .c (.d (.int .i64 a1.2.2))), (8, .c (.d (.int .u8 (bt p0 a1.2.2)))), (31, .c (.d (.bool true)))], []⟩) (c := True ∧ True) (by kernel_rfl) ⟨trivial, trivial⟩ ?_
            refine At.done rfl ?_
            exact ⟨_, h, rfl⟩
          · refine At.seg 3 [0, 5, 6, 7, 8, 24, 27] [] (s' := ⟨[(0, .c (.d (.str p0))), (5, .c (.d (.int .u64 a1.1))), (6, .c (.d (.int .u64 a1.2.1))), (7, .c (.d (.int .i64 a1.2.2))), (8, .c (.d (.int .u8 (bt p0 a1.2.2)))), (24, .c (.d (.bool false))), (27, .c (.d (.bool (decide (0 < a1.2.2)))))], []⟩) (c := True ∧ True ∧ True ∧ True) (by kernel_rfl) ⟨trivial, trivial, trivial, trivial⟩ ?_
            refine At.case (fun b => ⟨[(0, .c (.d (.str p0))), (5, .c (.d (.int .u64 a1.1))), (6, .c (.d (.int .u64 a1.2.1))), (7, .c (.d (.int .i64 a1.2.2))), (8, .c (.d (.int .u8 (bt p0 a1.2.2)))), (24, .c (.d (.bool false))), (27, .c (.d (.bool b)))], []⟩) (b := (decide (0 < a1.2.2))) h (fun h => ?_) (fun h => ?_)
            · refine At.seg 4 [0, 5, 6, 7, 8, 31] [] (s' := ⟨[(0, .c (.d (.str p0))), (5, .c (.d (.int .u64 a1.1))), (6, .c (.d (.int .u64 a1.2.1))), (7, .c (.d (.int .i64 a1.2.2))), (8, .c (.d (.int .u8 (bt p0 a1.2.2)))), (31, .c (.d (.bool (decide ((bt p0 a1.2.2) = 0)))))], []⟩) (c := True ∧ True ∧ True ∧ True ∧ True) (by kernel_rfl) ⟨trivial, trivial, trivial, trivial, trivial⟩ ?_
              refine At.done rfl ?_
              exact ⟨_, h, rfl⟩
            · refine At.seg 4 [0, 5, 6, 7, 8, 31] [] (s' := ⟨[(0, .c (.d (.str p0))), (5, .c (.d (.int .u64 a1.1))), (6, .c (.d (.int .u64 a1.2.1))), (7, .c (.d (.int .i64 a1.2.2))), (8, .c (.d (.int .u8 (bt p0 a1.2.2)))), (31, .c (.d (.bool false)))], []⟩) (c := True ∧ True ∧ True) (by kernel_rfl) ⟨trivial, trivial, trivial⟩ ?_
              refine At.done rfl ?_
              exact ⟨_, h, rfl⟩
        · refine At.seg 7 [0, 5, 6, 7, 8, 24, 27] [] (s' := ⟨[(0, .c (.d (.str p0))), (5, .c (.d (.int .u64 a1.1))), (6, .c (.d (.int .u64 a1.2.1))), (7, .c (.d (.int .i64 a1.2.2))), (8, .c (.d (.int .u8 (bt p0 a1.2.2)))), (24, .c (.d (.bool false))), (27, .c (.d (.bool (decide (0 < a1.2.2)))))], []⟩) (c := True ∧ True ∧ True ∧ True ∧ True ∧ True) (by kernel_rfl) ⟨trivial, trivial, trivial, trivial, trivial, trivial⟩ ?_
          refine At.case (fun b => ⟨[(0, .c (.d (.str p0))), (5, .c (.d (.int .u64 a1.1))), (6, .c (.d (.int .u64 a1.2.1))), (7, .c (.d (.int .i64 a1.2.2))), (8, .c (.d (.int .u8 (bt p0 a1.2.2)))), (24, .c (.d (.bool false))), (27, .c (.d (.bool b)))], []⟩) (b := (decide (0 < a1.2.2))) h (fun h => ?_) (fun h => ?_)
          · refine At.seg 4 [0, 5, 6, 7, 8, 31] [] (s' := ⟨[(0, .c (.d (.str p0))), (5, .c (.d (.int .u64 a1.1))), (6, .c (.d (.int .u64 a1.2.1))), (7, .c (.d (.int .i64 a1.2.2))), (8, .c (.d (.int .u8 (bt p0 a1.2.2)))), (31, .c (.d (.bool (decide ((bt p0 a1.2.2) = 0)))))], []⟩) (c := True ∧ True ∧ True ∧ True ∧ True) (by kernel_rfl) ⟨trivial, trivial, trivial, trivial, trivial⟩ ?_
            refine At.done rfl ?_
            exact ⟨_, h, rfl⟩
          · refine At.seg 4 [0, 5, 6, 7, 8, 31] [] (s' := ⟨[(0, .c (.d (.str p0))), (5, .c (.d (.int .u64 a1.1))), (6, .c (.d (.int .u64 a1.2.1))), (7, .c (.d (.int .i64 a1.2.2))), (8, .c (.d (.int .u8 (bt p0 a1.2.2)))), (31, .c (.d (.bool false)))], []⟩) (c := True ∧ True ∧ True) (by kernel_rfl) ⟨trivial, trivial, trivial⟩ ?_
            refine At.done rfl ?_
            exact ⟨_, h, rfl⟩
  · intro a2 h
    cases h
  · exact fun x s hx hr => by cases hx; exact hr

set_option maxRecDepth 100000 in
theorem freshetref01_TakeText_ok {fuel : Nat} {p0 : ByteArray} {q : ByteArray × ByteArray × Int} (h : freshetref01_TakeText fuel p0 = some q) :
    Summ Try.prog 20 [.c (.d (.str p0))] [] (.tup [(false, [.d (.str q.1)]), (false, [.d (.str q.2.1)]), (false, [.d (.int .i64 q.2.2)])]) [] := by
  refine Summ.intro Try.func20 rfl (by kernel_rfl) (by kernel_rfl) [] rfl ?_
  rintro ⟨P, w0, G0, V, LL, lk, N, φ0, fx⟩ rfl rfl rfl rfl
  unfold freshetref01_TakeText at h
  refine Tri.seqS ?_
  refine Tri.reg ?_
  refine At.seg 3 [0] [] (s' := ⟨[(0, .c (.d (.str p0)))], []⟩) (c := True ∧ True ∧ True ∧ True) (by kernel_rfl) ⟨trivial, trivial, trivial, trivial⟩ ?_
  refine At.done rfl ?_
  show Tri _ _ _ _
  refine Tri.seqS ?_
  refine Tri.reg ?_
  refine At.seg 1 [9] [] (s' := ⟨[(9, .c (.d (.str p0)))], []⟩) (c := True ∧ True) (by kernel_rfl) ⟨trivial, trivial⟩ ?_
  obtain ⟨r1, hr1, h⟩ := bind_elim h
  refine At.callA (caps := []) (xs := [.c (.d (.str p0))]) (freshetref01_TakeCount_ok hr1) rfl rfl rfl rfl rfl rfl (.cons (.refl _) .nil) rfl rfl ?_
  refine At.seg 7 [5, 6, 7] [] (s' := ⟨[(5, .c (.d (.int .u64 r1.1))), (6, .c (.d (.str r1.2.1))), (7, .c (.d (.int .i64 r1.2.2)))], []⟩) (c := True ∧ True ∧ True ∧ True ∧ True ∧ True ∧ True ∧ True) (by kernel_rfl) ⟨trivial, trivial, trivial, trivial, trivial, trivial, trivial, trivial⟩ ?_
  refine At.done rfl ?_
  show Tri _ _ _ _
  refine Tri.seqS ?_
  refine Tri.blockB ?_
  refine Tri.seqS ?_
  refine Tri.reg ?_
  refine At.seg 3 [5, 6, 7, 14] [] (s' := ⟨[(5, .c (.d (.int .u64 r1.1))), (6, .c (.d (.str r1.2.1))), (7, .c (.d (.int .i64 r1.2.2))), (14, .c (.d (.bool (!decide (r1.2.2 = 0)))))], []⟩) (c := True ∧ True ∧ True ∧ True) (by kernel_rfl) ⟨trivial, trivial, trivial, trivial⟩ ?_
  refine At.done rfl ?_
  show Tri _ _ _ _
  refine Tri.condP (b := (!decide (r1.2.2 = 0))) rfl h (fun h => ?_) (fun h => ?_)
  · refine Tri.seqS ?_
    refine Tri.reg ?_
    refine At.seg 4 [2, 3, 4] [] (s' := ⟨[(2, .c (.d (.str (bs [])))), (3, .c (.d (.str (bs [])))), (4, .c (.d (.int .i64 r1.2.2)))], []⟩) (c := True ∧ True ∧ True ∧ True ∧ True) (by kernel_rfl) ⟨trivial, trivial, trivial, trivial, trivial⟩ ?_
    refine At.done rfl ?_
    show Tri _ _ _ _
    refine Tri.keep [2, 3, 4] [] (s' := ⟨[(2, .c (.d (.str (bs [])))), (3, .c (.d (.str (bs [])))), (4, .c (.d (.int .i64 r1.2.2)))], []⟩) (by kernel_rfl) ?_
    refine Tri.ret ?_
    cases h
    refine ⟨_, _, rfl, ⟨trivial, ⟨trivial, ⟨trivial, trivial⟩⟩⟩, rfl, rfl, ?_⟩
    intro k c h
    cases h
  · refine Tri.seqS ?_
    refine Tri.reg ?_
    refine At.seg 3 [5, 6, 18] [] (s' := ⟨[(5, .c (.d (.int .u64 r1.1))), (6, .c (.d (.str r1.2.1))), (18, .c (.d (.bool (decide (65536 < r1.1)))))], []⟩) (c := True ∧ True ∧ True ∧ True) (by kernel_rfl) ⟨trivial, trivial, trivial, trivial⟩ ?_
    refine At.done rfl ?_
    show Tri _ _ _ _
    refine Tri.condP (b := (decide (65536 < r1.1))) rfl h (fun h => ?_) (fun h => ?_)
    · refine Tri.seqS ?_
      refine Tri.reg ?_
      refine At.seg 3 [2, 3, 4] [] (s' := ⟨[(2, .c (.d (.str (bs [])))), (3, .c (.d (.str (bs [])))), (4, .c (.d (.int .i64 2)))], []⟩) (c := True ∧ True ∧ True ∧ True) (by kernel_rfl) ⟨trivial, trivial, trivial, trivial⟩ ?_
      refine At.done rfl ?_
      show Tri _ _ _ _
      refine Tri.keep [2, 3, 4] [] (s' := ⟨[(2, .c (.d (.str (bs [])))), (3, .c (.d (.str (bs [])))), (4, .c (.d (.int .i64 2)))], []⟩) (by kernel_rfl) ?_
      refine Tri.ret ?_
      cases h
      refine ⟨_, _, rfl, ⟨trivial, ⟨trivial, ⟨trivial, trivial⟩⟩⟩, rfl, rfl, ?_⟩
      intro k c h
      cases h
    · refine Tri.seqS ?_
      refine Tri.reg ?_
      refine At.seg 6 [5, 6, 21] [] (s' := ⟨[(5, .c (.d (.int .u64 r1.1))), (6, .c (.d (.str r1.2.1))), (21, .c (.d (.bool (decide ((r1.2.1.size : Int) < (IntKind.i64.wrap r1.1))))))], []⟩) (c := True ∧ True ∧ True ∧ True ∧ True ∧ True ∧ True) (by kernel_rfl) ⟨trivial, trivial, trivial, trivial, trivial, trivial, trivial⟩ ?_
      refine At.done rfl ?_
      show Tri _ _ _ _
      refine Tri.condP (b := (decide ((r1.2.1.size : Int) < (IntKind.i64.wrap r1.1)))) rfl h (fun h => ?_) (fun h => ?_)
      · refine Tri.seqS ?_
        refine Tri.reg ?_
        refine At.seg 3 [2, 3, 4] [] (s' := ⟨[(2, .c (.d (.str (bs [])))), (3, .c (.d (.str (bs [])))), (4, .c (.d (.int .i64 3)))], []⟩) (c := True ∧ True ∧ True ∧ True) (by kernel_rfl) ⟨trivial, trivial, trivial, trivial⟩ ?_
        refine At.done rfl ?_
        show Tri _ _ _ _
        refine Tri.keep [2, 3, 4] [] (s' := ⟨[(2, .c (.d (.str (bs [])))), (3, .c (.d (.str (bs [])))), (4, .c (.d (.int .i64 3)))], []⟩) (by kernel_rfl) ?_
        refine Tri.ret ?_
        cases h
        refine ⟨_, _, rfl, ⟨trivial, ⟨trivial, ⟨trivial, trivial⟩⟩⟩, rfl, rfl, ?_⟩
        intro k c h
        cases h
      · refine Tri.skip ?_
        show Tri _ _ _ _
        refine Tri.seqS ?_
        obtain ⟨hc2, h⟩ := need_elim h
        obtain ⟨hc3, h⟩ := need_elim h
        refine Tri.drawn (specs := [⟨⟨[(6, .c (.d (.str r1.2.1)))], []⟩, ⟨[(27, .c (.d (.str r1.2.1)))], []⟩, [], [], []⟩, ⟨⟨[(5, .c (.d (.int .u64 r1.1)))], []⟩, ⟨[(28, .c (.d (.int .u64 r1.1)))], []⟩, [], [], []⟩, ⟨⟨[(27, .c (.d (.str r1.2.1))), (28, .c (.d (.int .u64 r1.1)))], []⟩, ⟨[(29, .c (.d (.str (r1.2.1.extract 0 r1.1.toNat))))], []⟩, [], [], []⟩, ⟨⟨[(6, .c (.d (.str r1.2.1)))], []⟩, ⟨[(30, .c (.d (.str r1.2.1)))], []⟩, [], [], []⟩, ⟨⟨[(5, .c (.d (.int .u64 r1.1)))], []⟩, ⟨[(31, .c (.d (.int .u64 r1.1)))], []⟩, [], [], []⟩, ⟨⟨[(30, .c (.d (.str r1.2.1))), (31, .c (.d (.int .u64 r1.1)))], []⟩, ⟨[(32, .c (.d (.str (r1.2.1.extract r1.1.toNat r1.2.1.size))))], []⟩, [], [], []⟩, ⟨⟨[(29, .c (.d (.str (r1.2.1.extract 0 r1.1.toNat))))], []⟩, ⟨[(2, .c (.d (.str (r1.2.1.extract 0 r1.1.toNat))))], []⟩, [], [], []⟩, ⟨⟨[(32, .c (.d (.str (r1.2.1.extract r1.1.toNat r1.2.1.size))))], []⟩, ⟨[(3, .c (.d (.str (r1.2.1.extract r1.1.toNat r1.2.1.size))))], []⟩, [], [], []⟩, ⟨⟨[], []⟩, ⟨[(4, .c (.d (.int .i64 0)))], []⟩, [], [], []⟩]) (bef := [[], [], [0, 1], [], [], [3, 4], [0, 1, 2], [0, 1, 2, 3, 4, 5, 6], [0, 1, 2, 3, 4, 5, 6, 7]]) (tk := [2, 3, 4]) (sk := []) (s' := ⟨[(2, .c (.d (.str (r1.2.1.extract 0 r1.1.toNat)))), (3, .c (.d (.str (r1.2.1.extract r1.1.toNat r1.2.1.size)))), (4, .c (.d (.int .i64 0)))], []⟩) (by kernel_rfl) (by kernel_rfl) (by kernel_rfl) ⟨?_, ?_, ?_, ?_, ?_, ?_, ?_, ?_, ?_, trivial⟩ (by kernel_rfl) ?_
        · exact DOk.step (.val (.c (.d (.str r1.2.1))) (True)) (fun r => by kernel_rfl) (fun r => by kernel_rfl) trivial (by kernel_rfl) (by kernel_rfl) (fun r => rfl)
        · exact DOk.step (.val (.c (.d (.int .u64 r1.1))) (True)) (fun r => by kernel_rfl) (fun r => by kernel_rfl) trivial (by kernel_rfl) (by kernel_rfl) (fun r => rfl)
        · exact DOk.step (.val (.c (.d (.str (r1.2.1.extract 0 r1.1.toNat)))) ((0 : Int) ≤ 0 ∧ (0 : Int) ≤ r1.1 ∧ r1.1 ≤ (r1.2.1.size : Int))) (fun r => by kernel_rfl) (fun r => by kernel_rfl) hc2 (by kernel_rfl) (by kernel_rfl) (fun r => rfl)
        · exact DOk.step (.val (.c (.d (.str r1.2.1))) (True)) (fun r => by kernel_rfl) (fun r => by kernel_rfl) trivial (by kernel_rfl) (by kernel_rfl) (fun r => rfl)
        · exact DOk.step (.val (.c (.d (.int .u64 r1.1))) (True)) (fun r => by kernel_rfl) (fun r => by kernel_rfl) trivial (by kernel_rfl) (by kernel_rfl) (fun r => rfl)
        · exact DOk.step (.val (.c (.d (.str (r1.2.1.extract r1.1.toNat r1.2.1.size)))) ((0 : Int) ≤ r1.1 ∧ r1.1 ≤ (r1.2.1.size : Int) ∧ (r1.2.1.size : Int) ≤ (r1.2.1.size : Int))) (fun r => by kernel_rfl) (fun r => by kernel_rfl) hc3 (by kernel_rfl) (by kernel_rfl) (fun r => rfl)
        · exact DOk.step (.val (.c (.d (.str (r1.2.1.extract 0 r1.1.toNat)))) (True)) (fun r => by kernel_rfl) (fun r => by kernel_rfl) trivial (by kernel_rfl) (by kernel_rfl) (fun r => rfl)
        · exact DOk.step (.val (.c (.d (.str (r1.2.1.extract r1.1.toNat r1.2.1.size)))) (True)) (fun r => by kernel_rfl) (fun r => by kernel_rfl) trivial (by kernel_rfl) (by kernel_rfl) (fun r => rfl)
        · exact DOk.step (.val (.c (.d (.int .i64 0))) (True)) (fun r => by kernel_rfl) (fun r => by kernel_rfl) trivial (by kernel_rfl) (by kernel_rfl) (fun r => rfl)
        show Tri _ _ _ _
        refine Tri.keep [2, 3, 4] [] (s' := ⟨[(2, .c (.d (.str (r1.2.1.extract 0 r1.1.toNat)))), (3, .c (.d (.str (r1.2.1.extract r1.1.toNat r1.2.1.size)))), (4, .c (.d (.int .i64 0)))], []⟩) (by kernel_rfl) ?_
        refine Tri.ret ?_
        cases h
        refine ⟨_, _, rfl, ⟨trivial, ⟨trivial, ⟨trivial, trivial⟩⟩⟩, rfl, rfl, ?_⟩
        intro k c h
        cases h

set_option maxRecDepth 100000 in
theorem freshetlaw01_PackTexts_ok {fuel : Nat} {p0 : ByteArray} {q : Bool} (h : freshetlaw01_PackTexts fuel p0 = some q) :
    Summ Try.prog 5 [.c (.d (.str p0))] [] (.c (.d (.bool q))) [] := by
  refine Summ.intro Try.func5 rfl (by kernel_rfl) (by kernel_rfl) [] rfl ?_
  rintro ⟨P, w0, G0, V, LL, lk, N, φ0, fx⟩ rfl rfl rfl rfl
  unfold freshetlaw01_PackTexts at h
  refine Tri.seqS ?_
  refine Tri.reg ?_
  refine At.seg 1 [0] [] (s' := ⟨[(0, .c (.d (.str p0)))], []⟩) (c := True ∧ True) (by kernel_rfl) ⟨trivial, trivial⟩ ?_
  refine At.done rfl ?_
  show Tri _ _ _ _
  refine Tri.seqS ?_
  refine Tri.reg ?_
  refine At.seg 1 [0, 13] [] (s' := ⟨[(0, .c (.d (.str p0))), (13, .c (.d (.str p0)))], []⟩) (c := True ∧ True) (by kernel_rfl) ⟨trivial, trivial⟩ ?_
  obtain ⟨r1, hr1, h⟩ := bind_elim h
  refine At.callA (caps := []) (xs := [.c (.d (.str p0))]) (pack_TakeText_ok hr1) rfl rfl rfl rfl rfl rfl (.cons (.refl _) .nil) rfl rfl ?_
  refine At.seg 7 [0, 3, 4, 5] [] (s' := ⟨[(0, .c (.d (.str p0))), (3, .c (.d (.str r1.1))), (4, .c (.d (.str r1.2.1))), (5, .c (.d (.int .i64 r1.2.2)))], []⟩) (c := True ∧ True ∧ True ∧ True ∧ True ∧ True ∧ True ∧ True) (by kernel_rfl) ⟨trivial, trivial, trivial, trivial, trivial, trivial, trivial, trivial⟩ ?_
  refine At.done rfl ?_
  show Tri _ _ _ _
  refine Tri.seqS ?_
  refine Tri.reg ?_
  refine At.seg 1 [3, 4, 5, 19] [] (s' := ⟨[(3, .c (.d (.str r1.1))), (4, .c (.d (.str r1.2.1))), (5, .c (.d (.int .i64 r1.2.2))), (19, .c (.d (.str p0)))], []⟩) (c := True ∧ True) (by kernel_rfl) ⟨trivial, trivial⟩ ?_
  obtain ⟨r2, hr2, h⟩ := bind_elim h
  refine At.callA (caps := []) (xs := [.c (.d (.str p0))]) (freshetref01_TakeText_ok hr2) rfl rfl rfl rfl rfl rfl (.cons (.refl _) .nil) rfl rfl ?_
  refine At.seg 7 [3, 4, 5, 6, 7, 8] [] (s' := ⟨[(3, .c (.d (.str r1.1))), (4, .c (.d (.str r1.2.1))), (5, .c (.d (.int .i64 r1.2.2))), (6, .c (.d (.str r2.1))), (7, .c (.d (.str r2.2.1))), (8, .c (.d (.int .i64 r2.2.2)))], []⟩) (c := True ∧ True ∧ True ∧ True ∧ True ∧ True ∧ True ∧ True) (by kernel_rfl) ⟨trivial, trivial, trivial, trivial, trivial, trivial, trivial, trivial⟩ ?_
  refine At.done rfl ?_
  show Tri _ _ _ _
  refine Tri.seqS ?_
  refine Tri.reg ?_
  obtain ⟨r3, hr3, h⟩ := bind_elim h
  refine At.callA (caps := []) (xs := [.c (.d (.str (bs [1, 120, 121])))]) (pack_TakeText_ok hr3) rfl rfl rfl rfl rfl rfl (.cons (.refl _) .nil) rfl rfl ?_
  refine At.seg 7 [3, 4, 5, 6, 7, 8, 9, 10, 11] [] (s' := ⟨[(3, .c (.d (.str r1.1))), (4, .c (.d (.str r1.2.1))), (5, .c (.d (.int .i64 r1.2.2))), (6, .c (.d (.str r2.1))), (7, .c (.d (.str r2.2.1))), (8, .c (.d (.int .i64 r2.2.2))), (9, .c (.d (.str r3.1))), (10, .c (.d (.str r3.2.1))), (11, .c (.d (.int .i64 r3.2.2)))], []⟩) (c := True ∧ True ∧ True ∧ True ∧ True ∧ True ∧ True ∧ True) (by kernel_rfl) ⟨trivial, trivial, trivial, trivial, trivial, trivial, trivial, trivial⟩ ?_
  refine At.done rfl ?_
  show Tri _ _ _ _
  refine Tri.seqJ (fun (a4 : Bool) => ⟨[(2, .c (.d (.bool a4)))], []⟩) h (fun a4 h => ?_) (fun j5 h => ?_)
  · show Tri _ _ ⟨[(2, .c (.d (.bool a4)))], []⟩ _
    refine Tri.keep [2] [] (s' := ⟨[(2, .c (.d (.bool a4)))], []⟩) (by kernel_rfl) ?_
    refine Tri.ret ?_
    cases h
    refine ⟨_, _, rfl, ⟨trivial, trivial⟩, rfl, rfl, ?_⟩
    intro k c h
    cases h
  · refine Tri.reg ?_
    refine At.seg 3 [3, 4, 5, 6, 7, 8, 10, 11, 31] [] (s' := ⟨[(3, .c (.d (.str r1.1))), (4, .c (.d (.str r1.2.1))), (5, .c (.d (.int .i64 r1.2.2))), (6, .c (.d (.str r2.1))), (7, .c (.d (.str r2.2.1))), (8, .c (.d (.int .i64 r2.2.2))), (10, .c (.d (.str r3.2.1))), (11, .c (.d (.int .i64 r3.2.2))), (31, .c (.d (.bool (strEq r3.1 (bs [120])))))], []⟩) (c := True ∧ True ∧ True ∧ True) (by kernel_rfl) ⟨trivial, trivial, trivial, trivial⟩ ?_
    refine At.case (fun b => ⟨[(3, .c (.d (.str r1.1))), (4, .c (.d (.str r1.2.1))), (5, .c (.d (.int .i64 r1.2.2))), (6, .c (.d (.str r2.1))), (7, .c (.d (.str r2.2.1))), (8, .c (.d (.int .i64 r2.2.2))), (10, .c (.d (.str r3.2.1))), (11, .c (.d (.int .i64 r3.2.2))), (31, .c (.d (.bool b)))], []⟩) (b := (strEq r3.1 (bs [120]))) h (fun h => ?_) (fun h => ?_)
    · refine At.seg 4 [3, 4, 5, 6, 7, 8, 11, 35] [] (s' := ⟨[(3, .c (.d (.str r1.1))), (4, .c (.d (.str r1.2.1))), (5, .c (.d (.int .i64 r1.2.2))), (6, .c (.d (.str r2.1))), (7, .c (.d (.str r2.2.1))), (8, .c (.d (.int .i64 r2.2.2))), (11, .c (.d (.int .i64 r3.2.2))), (35, .c (.d (.bool (strEq r3.2.1 (bs [121])))))], []⟩) (c := True ∧ True ∧ True ∧ True ∧ True) (by kernel_rfl) ⟨trivial, trivial, trivial, trivial, trivial⟩ ?_
      refine At.case (fun b => ⟨[(3, .c (.d (.str r1.1))), (4, .c (.d (.str r1.2.1))), (5, .c (.d (.int .i64 r1.2.2))), (6, .c (.d (.str r2.1))), (7, .c (.d (.str r2.2.1))), (8, .c (.d (.int .i64 r2.2.2))), (11, .c (.d (.int .i64 r3.2.2))), (35, .c (.d (.bool b)))], []⟩) (b := (strEq r3.2.1 (bs [121]))) h (fun h => ?_) (fun h => ?_)
      · refine At.seg 4 [3, 4, 5, 6, 7, 8, 39] [] (s' := ⟨[(3, .c (.d (.str r1.1))), (4, .c (.d (.str r1.2.1))), (5, .c (.d (.int .i64 r1.2.2))), (6, .c (.d (.str r2.1))), (7, .c (.d (.str r2.2.1))), (8, .c (.d (.int .i64 r2.2.2))), (39, .c (.d (.bool (decide (r3.2.2 = 0)))))], []⟩) (c := True ∧ True ∧ True ∧ True ∧ True) (by kernel_rfl) ⟨trivial, trivial, trivial, trivial, trivial⟩ ?_
        refine At.case (fun b => ⟨[(3, .c (.d (.str r1.1))), (4, .c (.d (.str r1.2.1))), (5, .c (.d (.int .i64 r1.2.2))), (6, .c (.d (.str r2.1))), (7, .c (.d (.str r2.2.1))), (8, .c (.d (.int .i64 r2.2.2))), (39, .c (.d (.bool b)))], []⟩) (b := (decide (r3.2.2 = 0))) h (fun h => ?_) (fun h => ?_)
        · refine At.seg 5 [4, 5, 7, 8, 44] [] (s' := ⟨[(4, .c (.d (.str r1.2.1))), (5, .c (.d (.int .i64 r1.2.2))), (7, .c (.d (.str r2.2.1))), (8, .c (.d (.int .i64 r2.2.2))), (44, .c (.d (.bool (strEq r1.1 r2.1))))], []⟩) (c := True ∧ True ∧ True ∧ True ∧ True ∧ True) (by kernel_rfl) ⟨trivial, trivial, trivial, trivial, trivial, trivial⟩ ?_
          refine At.case (fun b => ⟨[(4, .c (.d (.str r1.2.1))), (5, .c (.d (.int .i64 r1.2.2))), (7, .c (.d (.str r2.2.1))), (8, .c (.d (.int .i64 r2.2.2))), (44, .c (.d (.bool b)))], []⟩) (b := (strEq r1.1 r2.1)) h (fun h => ?_) (fun h => ?_)
          · refine At.seg 5 [5, 8, 49] [] (s' := ⟨[(5, .c (.d (.int .i64 r1.2.2))), (8, .c (.d (.int .i64 r2.2.2))), (49, .c (.d (.bool (strEq r1.2.1 r2.2.1))))], []⟩) (c := True ∧ True ∧ True ∧ True ∧ True ∧ True) (by kernel_rfl) ⟨trivial, trivial, trivial, trivial, trivial, trivial⟩ ?_
            refine At.case (fun b => ⟨[(5, .c (.d (.int .i64 r1.2.2))), (8, .c (.d (.int .i64 r2.2.2))), (49, .c (.d (.bool b)))], []⟩) (b := (strEq r1.2.1 r2.2.1)) h (fun h => ?_) (fun h => ?_)
            · refine At.seg 5 [2] [] (s' := ⟨[(2, .c (.d (.bool (decide (r1.2.2 = r2.2.2)))))], []⟩) (c := True ∧ True ∧ True ∧ True ∧ True ∧ True) (by kernel_rfl) ⟨trivial, trivial, trivial, trivial, trivial, trivial⟩ ?_
              refine At.done rfl ?_
              exact ⟨_, h, rfl⟩
            · refine At.seg 5 [2] [] (s' := ⟨[(2, .c (.d (.bool false)))], []⟩) (c := True ∧ True ∧ True) (by kernel_rfl) ⟨trivial, trivial, trivial⟩ ?_
              refine At.done rfl ?_
              exact ⟨_, h, rfl⟩
          · refine At.seg 10 [2] [] (s' := ⟨[(2, .c (.d (.bool false)))], []⟩) (c := True ∧ True ∧ True ∧ True ∧ True) (by kernel_rfl) ⟨trivial, trivial, trivial, trivial, trivial⟩ ?_
            refine At.done rfl ?_
            exact ⟨_, h, rfl⟩
        · refine At.seg 15 [2] [] (s' := ⟨[(2, .c (.d (.bool false)))], []⟩) (c := True ∧ True ∧ True ∧ True ∧ True ∧ True ∧ True) (by kernel_rfl) ⟨trivial, trivial, trivial, trivial, trivial, trivial, trivial⟩ ?_
          refine At.done rfl ?_
          exact ⟨_, h, rfl⟩
      · refine At.seg 19 [2] [] (s' := ⟨[(2, .c (.d (.bool false)))], []⟩) (c := True ∧ True ∧ True ∧ True ∧ True ∧ True ∧ True ∧ True ∧ True) (by kernel_rfl) ⟨trivial, trivial, trivial, trivial, trivial, trivial, trivial, trivial, trivial⟩ ?_
        refine At.done rfl ?_
        exact ⟨_, h, rfl⟩
    · refine At.seg 23 [2] [] (s' := ⟨[(2, .c (.d (.bool false)))], []⟩) (c := True ∧ True ∧ True ∧ True ∧ True ∧ True ∧ True ∧ True ∧ True ∧ True ∧ True) (by kernel_rfl) ⟨trivial, trivial, trivial, trivial, trivial, trivial, trivial, trivial, trivial, trivial, trivial⟩ ?_
      refine At.done rfl ?_
      exact ⟨_, h, rfl⟩

set_option maxRecDepth 100000 in
theorem pack_TakeNumber_ok {p0 : ByteArray} {q : Int × ByteArray × Int} (h : pack_TakeNumber p0 = some q) :
    Summ Try.prog 23 [.c (.d (.str p0))] [] (.tup [(false, [.d (.int .i64 q.1)]), (false, [.d (.str q.2.1)]), (false, [.d (.int .i64 q.2.2)])]) [] := by
  refine Summ.intro Try.func23 rfl (by kernel_rfl) (by kernel_rfl) [] rfl ?_
  rintro ⟨P, w0, G0, V, LL, lk, N, φ0, fx⟩ rfl rfl rfl rfl
  unfold pack_TakeNumber at h
  refine Tri.seqS ?_
  refine Tri.reg ?_
  refine At.seg 3 [0] [] (s' := ⟨[(0, .c (.d (.str p0)))], []⟩) (c := True ∧ True ∧ True ∧ True) (by kernel_rfl) ⟨trivial, trivial, trivial, trivial⟩ ?_
  refine At.done rfl ?_
  show Tri _ _ _ _
  refine Tri.seqS ?_
  refine Tri.reg ?_
  refine At.seg 1 [9] [] (s' := ⟨[(9, .c (.d (.str p0)))], []⟩) (c := True ∧ True) (by kernel_rfl) ⟨trivial, trivial⟩ ?_
  obtain ⟨r1, hr1, h⟩ := bind_elim h
  refine At.callA (caps := []) (xs := [.c (.d (.str p0))]) (pack_TakeCount_ok hr1) rfl rfl rfl rfl rfl rfl (.cons (.refl _) .nil) rfl rfl ?_
  refine At.seg 7 [5, 6, 7] [] (s' := ⟨[(5, .c (.d (.int .u64 r1.1))), (6, .c (.d (.str r1.2.1))), (7, .c (.d (.int .i64 r1.2.2)))], []⟩) (c := True ∧ True ∧ True ∧ True ∧ True ∧ True ∧ True ∧ True) (by kernel_rfl) ⟨trivial, trivial, trivial, trivial, trivial, trivial, trivial, trivial⟩ ?_
  refine At.done rfl ?_
  show Tri _ _ _ _
  refine Tri.seqS ?_
  refine Tri.reg ?_
  refine At.seg 13 [2, 3, 4] [] (s' := ⟨[(2, .c (.d (.int .i64 (bitsOp .xor .i64 (IntKind.i64.wrap (shrOp .u64 r1.1 1)) (IntKind.i64.wrap (0 - (IntKind.i64.wrap (bitsOp .and .u64 r1.1 1)))))))), (3, .c (.d (.str r1.2.1))), (4, .c (.d (.int .i64 r1.2.2)))], []⟩) (c := True ∧ ((0 : Int) ≤ 1) ∧ True ∧ True ∧ True ∧ True ∧ True ∧ True ∧ True ∧ True ∧ True ∧ True ∧ True ∧ True) (by kernel_rfl) ⟨trivial, (by decide : (0 : Int) ≤ 1), trivial, trivial, trivial, trivial, trivial, trivial, trivial, trivial, trivial, trivial, trivial, trivial⟩ ?_
  refine At.done rfl ?_
  show Tri _ _ _ _
  refine Tri.keep [2, 3, 4] [] (s' := ⟨[(2, .c (.d (.int .i64 (bitsOp .xor .i64 (IntKind.i64.wrap (shrOp .u64 r1.1 1)) (IntKind.i64.wrap (0 - (IntKind.i64.wrap (bitsOp .and .u64 r1.1 1)))))))), (3, .c (.d (.str r1.2.1))), (4, .c (.d (.int .i64 r1.2.2)))], []⟩) (by kernel_rfl) ?_
  refine Tri.ret ?_
  cases h
  refine ⟨_, _, rfl, ⟨trivial, ⟨trivial, ⟨trivial, trivial⟩⟩⟩, rfl, rfl, ?_⟩
  intro k c h
  cases h

set_option maxRecDepth 100000 in
theorem freshetref01_TakeNumber_ok {fuel : Nat} {p0 : ByteArray} {q : Int × ByteArray × Int} (h : freshetref01_TakeNumber fuel p0 = some q) :
    Summ Try.prog 24 [.c (.d (.str p0))] [] (.tup [(false, [.d (.int .i64 q.1)]), (false, [.d (.str q.2.1)]), (false, [.d (.int .i64 q.2.2)])]) [] := by
  refine Summ.intro Try.func24 rfl (by kernel_rfl) (by kernel_rfl) [] rfl ?_
  rintro ⟨P, w0, G0, V, LL, lk, N, φ0, fx⟩ rfl rfl rfl rfl
  unfold freshetref01_TakeNumber at h
  refine Tri.seqS ?_
  refine Tri.reg ?_
  refine At.seg 3 [0] [] (s' := ⟨[(0, .c (.d (.str p0)))], []⟩) (c := True ∧ True ∧ True ∧ True) (by kernel_rfl) ⟨trivial, trivial, trivial, trivial⟩ ?_
  refine At.done rfl ?_
  show Tri _ _ _ _
  refine Tri.seqS ?_
  refine Tri.reg ?_
  refine At.seg 1 [9] [] (s' := ⟨[(9, .c (.d (.str p0)))], []⟩) (c := True ∧ True) (by kernel_rfl) ⟨trivial, trivial⟩ ?_
  obtain ⟨r1, hr1, h⟩ := bind_elim h
  refine At.callA (caps := []) (xs := [.c (.d (.str p0))]) (freshetref01_TakeCount_ok hr1) rfl rfl rfl rfl rfl rfl (.cons (.refl _) .nil) rfl rfl ?_
  refine At.seg 7 [5, 6, 7] [] (s' := ⟨[(5, .c (.d (.int .u64 r1.1))), (6, .c (.d (.str r1.2.1))), (7, .c (.d (.int .i64 r1.2.2)))], []⟩) (c := True ∧ True ∧ True ∧ True ∧ True ∧ True ∧ True ∧ True) (by kernel_rfl) ⟨trivial, trivial, trivial, trivial, trivial, trivial, trivial, trivial⟩ ?_
  refine At.done rfl ?_
  show Tri _ _ _ _
  refine Tri.seqS ?_
  refine Tri.seqS ?_
  refine Tri.reg ?_
  refine At.seg 2 [5, 6, 7, 15] [] (s' := ⟨[(5, .c (.d (.int .u64 r1.1))), (6, .c (.d (.str r1.2.1))), (7, .c (.d (.int .i64 r1.2.2))), (15, .c (.d (.bool (!decide (r1.2.2 = 0)))))], []⟩) (c := True ∧ True ∧ True) (by kernel_rfl) ⟨trivial, trivial, trivial⟩ ?_
  refine At.done rfl ?_
  show Tri _ _ _ _
  refine Tri.condP (b := (!decide (r1.2.2 = 0))) rfl h (fun h => ?_) (fun h => ?_)
  · refine Tri.seqS ?_
    refine Tri.reg ?_
    refine At.seg 4 [2, 3, 4] [] (s' := ⟨[(2, .c (.d (.int .i64 0))), (3, .c (.d (.str (bs [])))), (4, .c (.d (.int .i64 r1.2.2)))], []⟩) (c := True ∧ True ∧ True ∧ True ∧ True) (by kernel_rfl) ⟨trivial, trivial, trivial, trivial, trivial⟩ ?_
    refine At.done rfl ?_
    show Tri _ _ _ _
    refine Tri.keep [2, 3, 4] [] (s' := ⟨[(2, .c (.d (.int .i64 0))), (3, .c (.d (.str (bs [])))), (4, .c (.d (.int .i64 r1.2.2)))], []⟩) (by kernel_rfl) ?_
    refine Tri.ret ?_
    cases h
    refine ⟨_, _, rfl, ⟨trivial, ⟨trivial, ⟨trivial, trivial⟩⟩⟩, rfl, rfl, ?_⟩
    intro k c h
    cases h
  · refine Tri.skip ?_
    show Tri _ _ _ _
    refine Tri.seqS ?_
    refine Tri.seqS ?_
    refine Tri.reg ?_
    refine At.seg 3 [5, 6, 19] [] (s' := ⟨[(5, .c (.d (.int .u64 r1.1))), (6, .c (.d (.str r1.2.1))), (19, .c (.d (.bool (decide ((r1.1.tmod 2) = 1)))))], []⟩) (c := True ∧ ((2 : Int) ≠ 0) ∧ True ∧ True) (by kernel_rfl) ⟨trivial, (by decide : (2 : Int) ≠ 0), trivial, trivial⟩ ?_
    refine At.done rfl ?_
    show Tri _ _ _ _
    refine Tri.condP (b := (decide ((r1.1.tmod 2) = 1))) rfl h (fun h => ?_) (fun h => ?_)
    · refine Tri.seqS ?_
      refine Tri.reg ?_
      refine At.seg 8 [2, 3, 4] [] (s' := ⟨[(2, .c (.d (.int .i64 (IntKind.i64.wrap (((-1) : Int) - (IntKind.i64.wrap (IntKind.u64.wrap (r1.1.tdiv 2)))))))), (3, .c (.d (.str r1.2.1))), (4, .c (.d (.int .i64 0)))], []⟩) (c := True ∧ ((2 : Int) ≠ 0) ∧ True ∧ True ∧ True ∧ True ∧ True ∧ True ∧ True) (by kernel_rfl) ⟨trivial, (by decide : (2 : Int) ≠ 0), trivial, trivial, trivial, trivial, trivial, trivial, trivial⟩ ?_
      refine At.done rfl ?_
      show Tri _ _ _ _
      refine Tri.keep [2, 3, 4] [] (s' := ⟨[(2, .c (.d (.int .i64 (IntKind.i64.wrap (((-1) : Int) - (IntKind.i64.wrap (IntKind.u64.wrap (r1.1.tdiv 2)))))))), (3, .c (.d (.str r1.2.1))), (4, .c (.d (.int .i64 0)))], []⟩) (by kernel_rfl) ?_
      refine Tri.ret ?_
      cases h
      refine ⟨_, _, rfl, ⟨trivial, ⟨trivial, ⟨trivial, trivial⟩⟩⟩, rfl, rfl, ?_⟩
      intro k c h
      cases h
    · refine Tri.skip ?_
      show Tri _ _ _ _
      refine Tri.seqS ?_
      refine Tri.reg ?_
      refine At.seg 7 [2, 3, 4] [] (s' := ⟨[(2, .c (.d (.int .i64 (IntKind.i64.wrap (IntKind.u64.wrap (r1.1.tdiv 2)))))), (3, .c (.d (.str r1.2.1))), (4, .c (.d (.int .i64 0)))], []⟩) (c := True ∧ ((2 : Int) ≠ 0) ∧ True ∧ True ∧ True ∧ True ∧ True ∧ True) (by kernel_rfl) ⟨trivial, (by decide : (2 : Int) ≠ 0), trivial, trivial, trivial, trivial, trivial, trivial⟩ ?_
      refine At.done rfl ?_
      show Tri _ _ _ _
      refine Tri.keep [2, 3, 4] [] (s' := ⟨[(2, .c (.d (.int .i64 (IntKind.i64.wrap (IntKind.u64.wrap (r1.1.tdiv 2)))))), (3, .c (.d (.str r1.2.1))), (4, .c (.d (.int .i64 0)))], []⟩) (by kernel_rfl) ?_
      refine Tri.ret ?_
      cases h
      refine ⟨_, _, rfl, ⟨trivial, ⟨trivial, ⟨trivial, trivial⟩⟩⟩, rfl, rfl, ?_⟩
      intro k c h
      cases h

set_option maxRecDepth 100000 in
theorem freshetlaw01_PackTakes_ok {fuel : Nat} {p0 : ByteArray} {q : Bool} (h : freshetlaw01_PackTakes fuel p0 = some q) :
    Summ Try.prog 6 [.c (.d (.str p0))] [] (.c (.d (.bool q))) [] := by
  refine Summ.intro Try.func6 rfl (by kernel_rfl) (by kernel_rfl) [] rfl ?_
  rintro ⟨P, w0, G0, V, LL, lk, N, φ0, fx⟩ rfl rfl rfl rfl
  unfold freshetlaw01_PackTakes at h
  refine Tri.seqS ?_
  refine Tri.reg ?_
  refine At.seg 1 [0] [] (s' := ⟨[(0, .c (.d (.str p0)))], []⟩) (c := True ∧ True) (by kernel_rfl) ⟨trivial, trivial⟩ ?_
  refine At.done rfl ?_
  show Tri _ _ _ _
  refine Tri.seqS ?_
  refine Tri.reg ?_
  refine At.seg 1 [0, 16] [] (s' := ⟨[(0, .c (.d (.str p0))), (16, .c (.d (.str p0)))], []⟩) (c := True ∧ True) (by kernel_rfl) ⟨trivial, trivial⟩ ?_
  obtain ⟨r1, hr1, h⟩ := bind_elim h
  refine At.callA (caps := []) (xs := [.c (.d (.str p0))]) (pack_TakeCount_ok hr1) rfl rfl rfl rfl rfl rfl (.cons (.refl _) .nil) rfl rfl ?_
  refine At.seg 7 [0, 3, 4, 5] [] (s' := ⟨[(0, .c (.d (.str p0))), (3, .c (.d (.int .u64 r1.1))), (4, .c (.d (.str r1.2.1))), (5, .c (.d (.int .i64 r1.2.2)))], []⟩) (c := True ∧ True ∧ True ∧ True ∧ True ∧ True ∧ True ∧ True) (by kernel_rfl) ⟨trivial, trivial, trivial, trivial, trivial, trivial, trivial, trivial⟩ ?_
  refine At.done rfl ?_
  show Tri _ _ _ _
  refine Tri.seqS ?_
  refine Tri.reg ?_
  refine At.seg 1 [0, 3, 4, 5, 22] [] (s' := ⟨[(0, .c (.d (.str p0))), (3, .c (.d (.int .u64 r1.1))), (4, .c (.d (.str r1.2.1))), (5, .c (.d (.int .i64 r1.2.2))), (22, .c (.d (.str p0)))], []⟩) (c := True ∧ True) (by kernel_rfl) ⟨trivial, trivial⟩ ?_
  obtain ⟨r2, hr2, h⟩ := bind_elim h
  refine At.callA (caps := []) (xs := [.c (.d (.str p0))]) (freshetref01_TakeCount_ok hr2) rfl rfl rfl rfl rfl rfl (.cons (.refl _) .nil) rfl rfl ?_
  refine At.seg 7 [0, 3, 4, 5, 6, 7, 8] [] (s' := ⟨[(0, .c (.d (.str p0))), (3, .c (.d (.int .u64 r1.1))), (4, .c (.d (.str r1.2.1))), (5, .c (.d (.int .i64 r1.2.2))), (6, .c (.d (.int .u64 r2.1))), (7, .c (.d (.str r2.2.1))), (8, .c (.d (.int .i64 r2.2.2)))], []⟩) (c := True ∧ True ∧ True ∧ True ∧ True ∧ True ∧ True ∧ True) (by kernel_rfl) ⟨trivial, trivial, trivial, trivial, trivial, trivial, trivial, trivial⟩ ?_
  refine At.done rfl ?_
  show Tri _ _ _ _
  refine Tri.seqS ?_
  refine Tri.reg ?_
  refine At.seg 1 [0, 3, 4, 5, 6, 7, 8, 28] [] (s' := ⟨[(0, .c (.d (.str p0))), (3, .c (.d (.int .u64 r1.1))), (4, .c (.d (.str r1.2.1))), (5, .c (.d (.int .i64 r1.2.2))), (6, .c (.d (.int .u64 r2.1))), (7, .c (.d (.str r2.2.1))), (8, .c (.d (.int .i64 r2.2.2))), (28, .c (.d (.str p0)))], []⟩) (c := True ∧ True) (by kernel_rfl) ⟨trivial, trivial⟩ ?_
  obtain ⟨r3, hr3, h⟩ := bind_elim h
  refine At.callA (caps := []) (xs := [.c (.d (.str p0))]) (pack_TakeNumber_ok hr3) rfl rfl rfl rfl rfl rfl (.cons (.refl _) .nil) rfl rfl ?_
  refine At.seg 7 [0, 3, 4, 5, 6, 7, 8, 9, 10, 11] [] (s' := ⟨[(0, .c (.d (.str p0))), (3, .c (.d (.int .u64 r1.1))), (4, .c (.d (.str r1.2.1))), (5, .c (.d (.int .i64 r1.2.2))), (6, .c (.d (.int .u64 r2.1))), (7, .c (.d (.str r2.2.1))), (8, .c (.d (.int .i64 r2.2.2))), (9, .c (.d (.int .i64 r3.1))), (10, .c (.d (.str r3.2.1))), (11, .c (.d (.int .i64 r3.2.2)))], []⟩) (c := True ∧ True ∧ True ∧ True ∧ True ∧ True ∧ True ∧ True) (by kernel_rfl) ⟨trivial, trivial, trivial, trivial, trivial, trivial, trivial, trivial⟩ ?_
  refine At.done rfl ?_
  show Tri _ _ _ _
  refine Tri.seqS ?_
  refine Tri.reg ?_
  refine At.seg 1 [3, 4, 5, 6, 7, 8, 9, 10, 11, 34] [] (s' := ⟨[(3, .c (.d (.int .u64 r1.1))), (4, .c (.d (.str r1.2.1))), (5, .c (.d (.int .i64 r1.2.2))), (6, .c (.d (.int .u64 r2.1))), (7, .c (.d (.str r2.2.1))), (8, .c (.d (.int .i64 r2.2.2))), (9, .c (.d (.int .i64 r3.1))), (10, .c (.d (.str r3.2.1))), (11, .c (.d (.int .i64 r3.2.2))), (34, .c (.d (.str p0)))], []⟩) (c := True ∧ True) (by kernel_rfl) ⟨trivial, trivial⟩ ?_
  obtain ⟨r4, hr4, h⟩ := bind_elim h
  refine At.callA (caps := []) (xs := [.c (.d (.str p0))]) (freshetref01_TakeNumber_ok hr4) rfl rfl rfl rfl rfl rfl (.cons (.refl _) .nil) rfl rfl ?_
  refine At.seg 7 [3, 4, 5, 6, 7, 8, 9, 10, 11, 12, 13, 14] [] (s' := ⟨[(3, .c (.d (.int .u64 r1.1))), (4, .c (.d (.str r1.2.1))), (5, .c (.d (.int .i64 r1.2.2))), (6, .c (.d (.int .u64 r2.1))), (7, .c (.d (.str r2.2.1))), (8, .c (.d (.int .i64 r2.2.2))), (9, .c (.d (.int .i64 r3.1))), (10, .c (.d (.str r3.2.1))), (11, .c (.d (.int .i64 r3.2.2))), (12, .c (.d (.int .i64 r4.1))), (13, .c (.d (.str r4.2.1))), (14, .c (.d (.int .i64 r4.2.2)))], []⟩) (c := True ∧ True ∧ True ∧ True ∧ True ∧ True ∧ True ∧ True) (by kernel_rfl) ⟨trivial, trivial, trivial, trivial, trivial, trivial, trivial, trivial⟩ ?_
  refine At.done rfl ?_
  show Tri _ _ _ _
  refine Tri.seqJ (fun (a5 : Bool) => ⟨[(2, .c (.d (.bool a5)))], []⟩) h (fun a5 h => ?_) (fun j6 h => ?_)
  · show Tri _ _ ⟨[(2, .c (.d (.bool a5)))], []⟩ _
    refine Tri.keep [2] [] (s' := ⟨[(2, .c (.d (.bool a5)))], []⟩) (by kernel_rfl) ?_
    refine Tri.ret ?_
    cases h
    refine ⟨_, _, rfl, ⟨trivial, trivial⟩, rfl, rfl, ?_⟩
    intro k c h
    cases h
  · refine Tri.reg ?_
    obtain ⟨r7, hr7, h⟩ := bind_elim h
    refine At.callA (caps := []) (xs := []) (freshetlaw01_counts_ok hr7) rfl rfl rfl rfl rfl rfl .nil rfl rfl ?_
    refine At.seg 1 [3, 4, 5, 6, 7, 8, 9, 10, 11, 12, 13, 14, 40] [] (s' := ⟨[(3, .c (.d (.int .u64 r1.1))), (4, .c (.d (.str r1.2.1))), (5, .c (.d (.int .i64 r1.2.2))), (6, .c (.d (.int .u64 r2.1))), (7, .c (.d (.str r2.2.1))), (8, .c (.d (.int .i64 r2.2.2))), (9, .c (.d (.int .i64 r3.1))), (10, .c (.d (.str r3.2.1))), (11, .c (.d (.int .i64 r3.2.2))), (12, .c (.d (.int .i64 r4.1))), (13, .c (.d (.str r4.2.1))), (14, .c (.d (.int .i64 r4.2.2))), (40, .c (.d (.bool r7)))], []⟩) (c := True ∧ True) (by kernel_rfl) ⟨trivial, trivial⟩ ?_
    refine At.case (fun b => ⟨[(3, .c (.d (.int .u64 r1.1))), (4, .c (.d (.str r1.2.1))), (5, .c (.d (.int .i64 r1.2.2))), (6, .c (.d (.int .u64 r2.1))), (7, .c (.d (.str r2.2.1))), (8, .c (.d (.int .i64 r2.2.2))), (9, .c (.d (.int .i64 r3.1))), (10, .c (.d (.str r3.2.1))), (11, .c (.d (.int .i64 r3.2.2))), (12, .c (.d (.int .i64 r4.1))), (13, .c (.d (.str r4.2.1))), (14, .c (.d (.int .i64 r4.2.2))), (40, .c (.d (.bool b)))], []⟩) (b := r7) h (fun h => ?_) (fun h => ?_)
    · refine At.seg 5 [4, 5, 7, 8, 9, 10, 11, 12, 13, 14, 45] [] (s' := ⟨[(4, .c (.d (.str r1.2.1))), (5, .c (.d (.int .i64 r1.2.2))), (7, .c (.d (.str r2.2.1))), (8, .c (.d (.int .i64 r2.2.2))), (9, .c (.d (.int .i64 r3.1))), (10, .c (.d (.str r3.2.1))), (11, .c (.d (.int .i64 r3.2.2))), (12, .c (.d (.int .i64 r4.1))), (13, .c (.d (.str r4.2.1))), (14, .c (.d (.int .i64 r4.2.2))), (45, .c (.d (.bool (decide (r1.1 = r2.1)))))], []⟩) (c := True ∧ True ∧ True ∧ True ∧ True ∧ True) (by kernel_rfl) ⟨trivial, trivial, trivial, trivial, trivial, trivial⟩ ?_
      refine At.case (fun b => ⟨[(4, .c (.d (.str r1.2.1))), (5, .c (.d (.int .i64 r1.2.2))), (7, .c (.d (.str r2.2.1))), (8, .c (.d (.int .i64 r2.2.2))), (9, .c (.d (.int .i64 r3.1))), (10, .c (.d (.str r3.2.1))), (11, .c (.d (.int .i64 r3.2.2))), (12, .c (.d (.int .i64 r4.1))), (13, .c (.d (.str r4.2.1))), (14, .c (.d (.int .i64 r4.2.2))), (45, .c (.d (.bool b)))], []⟩) (b := (decide (r1.1 = r2.1))) h (fun h => ?_) (fun h => ?_)
      · refine At.seg 5 [5, 8, 9, 10, 11, 12, 13, 14, 50] [] (s' := ⟨[(5, .c (.d (.int .i64 r1.2.2))), (8, .c (.d (.int .i64 r2.2.2))), (9, .c (.d (.int .i64 r3.1))), (10, .c (.d (.str r3.2.1))), (11, .c (.d (.int .i64 r3.2.2))), (12, .c (.d (.int .i64 r4.1))), (13, .c (.d (.str r4.2.1))), (14, .c (.d (.int .i64 r4.2.2))), (50, .c (.d (.bool (strEq r1.2.1 r2.2.1))))], []⟩) (c := True ∧ True ∧ True ∧ True ∧ True ∧ True) (by kernel_rfl) ⟨trivial, trivial, trivial, trivial, trivial, trivial⟩ ?_
        refine At.case (fun b => ⟨[(5, .c (.d (.int .i64 r1.2.2))), (8, .c (.d (.int .i64 r2.2.2))), (9, .c (.d (.int .i64 r3.1))), (10, .c (.d (.str r3.2.1))), (11, .c (.d (.int .i64 r3.2.2))), (12, .c (.d (.int .i64 r4.1))), (13, .c (.d (.str r4.2.1))), (14, .c (.d (.int .i64 r4.2.2))), (50, .c (.d (.bool b)))], []⟩) (b := (strEq r1.2.1 r2.2.1)) h (fun h => ?_) (fun h => ?_)
        · refine At.seg 5 [9, 10, 11, 12, 13, 14, 55] [] (s' := ⟨[(9, .c (.d (.int .i64 r3.1))), (10, .c (.d (.str r3.2.1))), (11, .c (.d (.int .i64 r3.2.2))), (12, .c (.d (.int .i64 r4.1))), (13, .c (.d (.str r4.2.1))), (14, .c (.d (.int .i64 r4.2.2))), (55, .c (.d (.bool (decide (r1.2.2 = r2.2.2)))))], []⟩) (c := True ∧ True ∧ True ∧ True ∧ True ∧ True) (by kernel_rfl) ⟨trivial, trivial, trivial, trivial, trivial, trivial⟩ ?_
          refine At.case (fun b => ⟨[(9, .c (.d (.int .i64 r3.1))), (10, .c (.d (.str r3.2.1))), (11, .c (.d (.int .i64 r3.2.2))), (12, .c (.d (.int .i64 r4.1))), (13, .c (.d (.str r4.2.1))), (14, .c (.d (.int .i64 r4.2.2))), (55, .c (.d (.bool b)))], []⟩) (b := (decide (r1.2.2 = r2.2.2))) h (fun h => ?_) (fun h => ?_)
          · refine At.seg 5 [10, 11, 13, 14, 60] [] (s' := ⟨[(10, .c (.d (.str r3.2.1))), (11, .c (.d (.int .i64 r3.2.2))), (13, .c (.d (.str r4.2.1))), (14, .c (.d (.int .i64 r4.2.2))), (60, .c (.d (.bool (decide (r3.1 = r4.1)))))], []⟩) (c := True ∧ True ∧ True ∧ True ∧ True ∧ True) (by kernel_rfl) ⟨trivial, trivial, trivial, trivial, trivial, trivial⟩ ?_
            refine At.case (fun b => ⟨[(10, .c (.d (.str r3.2.1))), (11, .c (.d (.int .i64 r3.2.2))), (13, .c (.d (.str r4.2.1))), (14, .c (.d (.int .i64 r4.2.2))), (60, .c (.d (.bool b)))], []⟩) (b := (decide (r3.1 = r4.1))) h (fun h => ?_) (fun h => ?_)
            · refine At.seg 5 [11, 14, 65] [] (s' := ⟨[(11, .c (.d (.int .i64 r3.2.2))), (14, .c (.d (.int .i64 r4.2.2))), (65, .c (.d (.bool (strEq r3.2.1 r4.2.1))))], []⟩) (c := True ∧ True ∧ True ∧ True ∧ True ∧ True) (by kernel_rfl) ⟨trivial, trivial, trivial, trivial, trivial, trivial⟩ ?_
              refine At.case (fun b => ⟨[(11, .c (.d (.int .i64 r3.2.2))), (14, .c (.d (.int .i64 r4.2.2))), (65, .c (.d (.bool b)))], []⟩) (b := (strEq r3.2.1 r4.2.1)) h (fun h => ?_) (fun h => ?_)
              · refine At.seg 5 [2] [] (s' := ⟨[(2, .c (.d (.bool (decide (r3.2.2 = r4.2.2)))))], []⟩) (c := True ∧ True ∧ True ∧ True ∧ True ∧ True) (by kernel_rfl) ⟨trivial, trivial, trivial, trivial, trivial, trivial⟩ ?_
                refine At.done rfl ?_
                exact ⟨_, h, rfl⟩
              · refine At.seg 5 [2] [] (s' := ⟨[(2, .c (.d (.bool false)))], []⟩) (c := True ∧ True ∧ True) (by kernel_rfl) ⟨trivial, trivial, trivial⟩ ?_
                refine At.done rfl ?_
                exact ⟨_, h, rfl⟩
            · refine At.seg 10 [2] [] (s' := ⟨[(2, .c (.d (.bool false)))], []⟩) (c := True ∧ True ∧ True ∧ True ∧ True) (by kernel_rfl) ⟨trivial, trivial, trivial, trivial, trivial⟩ ?_
              refine At.done rfl ?_
              exact ⟨_, h, rfl⟩
          · refine At.seg 15 [2] [] (s' := ⟨[(2, .c (.d (.bool false)))], []⟩) (c := True ∧ True ∧ True ∧ True ∧ True ∧ True ∧ True) (by kernel_rfl) ⟨trivial, trivial, trivial, trivial, trivial, trivial, trivial⟩ ?_
            refine At.done rfl ?_
            exact ⟨_, h, rfl⟩
        · refine At.seg 20 [2] [] (s' := ⟨[(2, .c (.d (.bool false)))], []⟩) (c := True ∧ True ∧ True ∧ True ∧ True ∧ True ∧ True ∧ True ∧ True) (by kernel_rfl) ⟨trivial, trivial, trivial, trivial, trivial, trivial, trivial, trivial, trivial⟩ ?_
          refine At.done rfl ?_
          exact ⟨_, h, rfl⟩
      · refine At.seg 25 [2] [] (s' := ⟨[(2, .c (.d (.bool false)))], []⟩) (c := True ∧ True ∧ True ∧ True ∧ True ∧ True ∧ True ∧ True ∧ True ∧ True ∧ True) (by kernel_rfl) ⟨trivial, trivial, trivial, trivial, trivial, trivial, trivial, trivial, trivial, trivial, trivial⟩ ?_
        refine At.done rfl ?_
        exact ⟨_, h, rfl⟩
    · refine At.seg 30 [2] [] (s' := ⟨[(2, .c (.d (.bool false)))], []⟩) (c := True ∧ True ∧ True ∧ True ∧ True ∧ True ∧ True ∧ True ∧ True ∧ True ∧ True ∧ True ∧ True) (by kernel_rfl) ⟨trivial, trivial, trivial, trivial, trivial, trivial, trivial, trivial, trivial, trivial, trivial, trivial, trivial⟩ ?_
      refine At.done rfl ?_
      exact ⟨_, h, rfl⟩

set_option maxRecDepth 100000 in
theorem freshetref01_Count_ok {fuel : Nat} {p0 : Int} {q : ByteArray} (h : freshetref01_Count fuel p0 = some q) :
    Summ Try.prog 25 [.c (.d (.int .u64 p0))] [] (.c (.d (.str q))) [] := by
  refine Summ.intro Try.func25 rfl (by kernel_rfl) (by kernel_rfl) [] rfl ?_
  rintro ⟨P, w0, G0, V, LL, lk, N, φ0, fx⟩ rfl rfl rfl rfl
  unfold freshetref01_Count at h
  refine Tri.seqS ?_
  refine Tri.reg ?_
  refine At.seg 1 [0] [] (s' := ⟨[(0, .c (.d (.int .u64 p0)))], []⟩) (c := True ∧ True) (by kernel_rfl) ⟨trivial, trivial⟩ ?_
  refine At.done rfl ?_
  show Tri _ _ _ _
  refine Tri.seqS ?_
  refine Tri.reg ?_
  refine At.seg 1 [0, 3] [] (s' := ⟨[(0, .c (.d (.int .u64 p0))), (3, .c (.d (.str (bs []))))], []⟩) (c := True ∧ True) (by kernel_rfl) ⟨trivial, trivial⟩ ?_
  refine At.done rfl ?_
  show Tri _ _ _ _
  refine Tri.seqS ?_
  refine Tri.keep [0, 3] [] (s' := ⟨[(0, .c (.d (.int .u64 p0))), (3, .c (.d (.str (bs []))))], []⟩) (by kernel_rfl) ?_
  refine Tri.loopK (fuel := fuel) (st0 := (p0, (bs []))) (fun (x : Empty) s => False) (fun (a1 : Int × ByteArray) => ⟨[(0, .c (.d (.int .u64 a1.1))), (3, .c (.d (.str a1.2)))], []⟩) (fun (a1 : Int × ByteArray) => ⟨[(0, .c (.d (.int .u64 a1.1))), (3, .c (.d (.str a1.2)))], []⟩) h ?_ ?_ ?_
  · intro a1 c h
    show Tri _ _ ⟨[(0, .c (.d (.int .u64 a1.1))), (3, .c (.d (.str a1.2)))], []⟩ _
    refine Tri.seqS ?_
    refine Tri.seqS ?_
    refine Tri.reg ?_
    refine At.seg 2 [0, 3, 5] [] (s' := ⟨[(0, .c (.d (.int .u64 a1.1))), (3, .c (.d (.str a1.2))), (5, .c (.d (.bool (decide (128 ≤ a1.1)))))], []⟩) (c := True ∧ True ∧ True) (by kernel_rfl) ⟨trivial, trivial, trivial⟩ ?_
    refine At.done rfl ?_
    show Tri _ _ _ _
    refine Tri.condP (b := (decide (128 ≤ a1.1))) rfl h (fun h => ?_) (fun h => ?_)
    · refine Tri.skip ?_
      show Tri _ _ _ _
      refine Tri.blockB ?_
      refine Tri.seqS ?_
      refine Tri.reg ?_
      refine At.seg 5 [0, 6, 10] [] (s' := ⟨[(0, .c (.d (.int .u64 a1.1))), (6, .c (.d (.str a1.2))), (10, .c (.d (.int .u8 (IntKind.u8.wrap (IntKind.u64.wrap ((a1.1.tmod 128) + 128))))))], []⟩) (c := True ∧ True ∧ ((128 : Int) ≠ 0) ∧ True ∧ True ∧ True) (by kernel_rfl) ⟨trivial, trivial, (by decide : (128 : Int) ≠ 0), trivial, trivial, trivial⟩ ?_
      refine At.one rfl (One.buildSlice (z := [.d (.int .u8 0)]) (cells := [.d (.int .u8 (IntKind.u8.wrap (IntKind.u64.wrap ((a1.1.tmod 128) + 128))))]) (xs := List.map (encInt .u8) ([(IntKind.u8.wrap (IntKind.u64.wrap ((a1.1.tmod 128) + 128)))] : List Int)) rfl rfl rfl rfl (by kernel_rfl) rfl rfl (by kernel_rfl) rfl rfl rfl (by kernel_rfl) rfl ⟨⟨rfl, .refl _⟩, trivial⟩) ?_
      refine At.le [11] (fun k _ h => by cases h) ⟨[(11, .c (.d (.list 1 ([(IntKind.u8.wrap (IntKind.u64.wrap ((a1.1.tmod 128) + 128)))] : List Int).length (fun i => encInt .u8 (([(IntKind.u8.wrap (IntKind.u64.wrap ((a1.1.tmod 128) + 128)))] : List Int).getD i default))))), (0, .c (.d (.int .u64 a1.1))), (6, .c (.d (.str a1.2))), (10, .c (.d (.int .u8 (IntKind.u8.wrap (IntKind.u64.wrap ((a1.1.tmod 128) + 128))))))], []⟩ ⟨⟨_, rfl, .c (.own rfl (List.mem_singleton.2 rfl) (Nat.le_of_ble_eq_true rfl) rfl (encs_getD (encInt .u8) ([(IntKind.u8.wrap (IntKind.u64.wrap ((a1.1.tmod 128) + 128)))] : List Int)))⟩, ⟨_, rfl, .refl _⟩, ⟨_, rfl, .refl _⟩, ⟨_, rfl, .refl _⟩, trivial⟩ trivial ?_
      refine At.one rfl (One.bytesStrT (e := 5) ([(IntKind.u8.wrap (IntKind.u64.wrap ((a1.1.tmod 128) + 128)))] : List Int) rfl rfl rfl rfl rfl rfl rfl (.list rfl (fun _ _ => rfl))) ?_
      obtain ⟨hc4, h⟩ := need_elim h
      refine At.seg 2 [0, 3] [] (s' := ⟨[(0, .c (.d (.int .u64 a1.1))), (3, .c (.d (.str (a1.2 ++ (strOfNums ([(IntKind.u8.wrap (IntKind.u64.wrap ((a1.1.tmod 128) + 128)))] : List Int))))))], []⟩) (c := (((a1.2.size + (strOfNums ([(IntKind.u8.wrap (IntKind.u64.wrap ((a1.1.tmod 128) + 128)))] : List Int)).size : Nat) : Int) ≤ 9223372036854775807) ∧ True ∧ True) (by kernel_rfl) ⟨hc4, trivial, trivial⟩ ?_
      refine At.done rfl ?_
      show Tri _ _ _ _
      refine Tri.reg ?_
      refine At.seg 3 [0, 3] [] (s' := ⟨[(0, .c (.d (.int .u64 (IntKind.u64.wrap (a1.1.tdiv 128))))), (3, .c (.d (.str (a1.2 ++ (strOfNums ([(IntKind.u8.wrap (IntKind.u64.wrap ((a1.1.tmod 128) + 128)))] : List Int))))))], []⟩) (c := True ∧ ((128 : Int) ≠ 0) ∧ True ∧ True) (by kernel_rfl) ⟨trivial, (by decide : (128 : Int) ≠ 0), trivial, trivial⟩ ?_
      refine At.done rfl ?_
      cases h
      exact rfl
    · refine Tri.keep [0, 3] [] (s' := ⟨[(0, .c (.d (.int .u64 a1.1))), (3, .c (.d (.str a1.2)))], []⟩) (by kernel_rfl) ?_
      refine Tri.exit ?_
      cases h
      exact ⟨rfl, rfl⟩
  · intro a2 h
    show Tri _ _ _ _
    refine Tri.seqS ?_
    refine Tri.reg ?_
    refine At.seg 3 [16, 18] [] (s' := ⟨[(16, .c (.d (.str a2.2))), (18, .c (.d (.int .u8 (IntKind.u8.wrap a2.1))))], []⟩) (c := True ∧ True ∧ True ∧ True) (by kernel_rfl) ⟨trivial, trivial, trivial, trivial⟩ ?_
    refine At.one rfl (One.buildSlice (z := [.d (.int .u8 0)]) (cells := [.d (.int .u8 (IntKind.u8.wrap a2.1))]) (xs := List.map (encInt .u8) ([(IntKind.u8.wrap a2.1)] : List Int)) rfl rfl rfl rfl (by kernel_rfl) rfl rfl (by kernel_rfl) rfl rfl rfl (by kernel_rfl) rfl ⟨⟨rfl, .refl _⟩, trivial⟩) ?_
    refine At.le [19] (fun k _ h => by cases h) ⟨[(19, .c (.d (.list 1 ([(IntKind.u8.wrap a2.1)] : List Int).length (fun i => encInt .u8 (([(IntKind.u8.wrap a2.1)] : List Int).getD i default))))), (16, .c (.d (.str a2.2))), (18, .c (.d (.int .u8 (IntKind.u8.wrap a2.1))))], []⟩ ⟨⟨_, rfl, .c (.own rfl (List.mem_singleton.2 rfl) (Nat.le_of_ble_eq_true rfl) rfl (encs_getD (encInt .u8) ([(IntKind.u8.wrap a2.1)] : List Int)))⟩, ⟨_, rfl, .refl _⟩, ⟨_, rfl, .refl _⟩, trivial⟩ trivial ?_
    refine At.one rfl (One.bytesStrT (e := 5) ([(IntKind.u8.wrap a2.1)] : List Int) rfl rfl rfl rfl rfl rfl rfl (.list rfl (fun _ _ => rfl))) ?_
    obtain ⟨hc3, h⟩ := need_elim h
    refine At.seg 2 [2] [] (s' := ⟨[(2, .c (.d (.str (a2.2 ++ (strOfNums ([(IntKind.u8.wrap a2.1)] : List Int))))))], []⟩) (c := (((a2.2.size + (strOfNums ([(IntKind.u8.wrap a2.1)] : List Int)).size : Nat) : Int) ≤ 9223372036854775807) ∧ True ∧ True) (by kernel_rfl) ⟨hc3, trivial, trivial⟩ ?_
    refine At.done rfl ?_
    show Tri _ _ _ _
    refine Tri.keep [2] [] (s' := ⟨[(2, .c (.d (.str (a2.2 ++ (strOfNums ([(IntKind.u8.wrap a2.1)] : List Int))))))], []⟩) (by kernel_rfl) ?_
    refine Tri.ret ?_
    cases h
    refine ⟨_, _, rfl, ⟨trivial, trivial⟩, rfl, rfl, ?_⟩
    intro k c h
    cases h
  · exact fun x => x.elim

set_option maxRecDepth 100000 in
theorem freshetref01_Number_ok {fuel : Nat} {p0 : Int} {q : ByteArray} (h : freshetref01_Number fuel p0 = some q) :
    Summ Try.prog 26 [.c (.d (.int .i64 p0))] [] (.c (.d (.str q))) [] := by
  refine Summ.intro Try.func26 rfl (by kernel_rfl) (by kernel_rfl) [] rfl ?_
  rintro ⟨P, w0, G0, V, LL, lk, N, φ0, fx⟩ rfl rfl rfl rfl
  unfold freshetref01_Number at h
  refine Tri.seqS ?_
  refine Tri.reg ?_
  refine At.seg 1 [0] [] (s' := ⟨[(0, .c (.d (.int .i64 p0)))], []⟩) (c := True ∧ True) (by kernel_rfl) ⟨trivial, trivial⟩ ?_
  refine At.done rfl ?_
  show Tri _ _ _ _
  refine Tri.seqS ?_
  refine Tri.seqS ?_
  refine Tri.reg ?_
  refine At.seg 2 [0, 4] [] (s' := ⟨[(0, .c (.d (.int .i64 p0))), (4, .c (.d (.bool (decide (0 ≤ p0)))))], []⟩) (c := True ∧ True ∧ True) (by kernel_rfl) ⟨trivial, trivial, trivial⟩ ?_
  refine At.done rfl ?_
  show Tri _ _ _ _
  refine Tri.condP (b := (decide (0 ≤ p0))) rfl h (fun h => ?_) (fun h => ?_)
  · refine Tri.seqS ?_
    refine Tri.reg ?_
    refine At.seg 3 [7] [] (s' := ⟨[(7, .c (.d (.int .u64 (IntKind.u64.wrap ((2 : Int) * (IntKind.u64.wrap p0))))))], []⟩) (c := True ∧ True ∧ True ∧ True) (by kernel_rfl) ⟨trivial, trivial, trivial, trivial⟩ ?_
    obtain ⟨r1, hr1, h⟩ := bind_elim h
    refine At.callA (caps := []) (xs := [.c (.d (.int .u64 (IntKind.u64.wrap ((2 : Int) * (IntKind.u64.wrap p0)))))]) (freshetref01_Count_ok hr1) rfl rfl rfl rfl rfl rfl (.cons (.refl _) .nil) rfl rfl ?_
    refine At.seg 1 [2] [] (s' := ⟨[(2, .c (.d (.str r1)))], []⟩) (c := True ∧ True) (by kernel_rfl) ⟨trivial, trivial⟩ ?_
    refine At.done rfl ?_
    show Tri _ _ _ _
    refine Tri.keep [2] [] (s' := ⟨[(2, .c (.d (.str r1)))], []⟩) (by kernel_rfl) ?_
    refine Tri.ret ?_
    cases h
    refine ⟨_, _, rfl, ⟨trivial, trivial⟩, rfl, rfl, ?_⟩
    intro k c h
    cases h
  · refine Tri.skip ?_
    show Tri _ _ _ _
    refine Tri.seqS ?_
    refine Tri.reg ?_
    refine At.seg 5 [13] [] (s' := ⟨[(13, .c (.d (.int .u64 (IntKind.u64.wrap ((IntKind.u64.wrap ((2 : Int) * (IntKind.u64.wrap (IntKind.i64.wrap (((-1) : Int) - p0))))) + 1)))))], []⟩) (c := True ∧ True ∧ True ∧ True ∧ True ∧ True) (by kernel_rfl) ⟨trivial, trivial, trivial, trivial, trivial, trivial⟩ ?_
    obtain ⟨r2, hr2, h⟩ := bind_elim h
    refine At.callA (caps := []) (xs := [.c (.d (.int .u64 (IntKind.u64.wrap ((IntKind.u64.wrap ((2 : Int) * (IntKind.u64.wrap (IntKind.i64.wrap (((-1) : Int) - p0))))) + 1))))]) (freshetref01_Count_ok hr2) rfl rfl rfl rfl rfl rfl (.cons (.refl _) .nil) rfl rfl ?_
    refine At.seg 1 [2] [] (s' := ⟨[(2, .c (.d (.str r2)))], []⟩) (c := True ∧ True) (by kernel_rfl) ⟨trivial, trivial⟩ ?_
    refine At.done rfl ?_
    show Tri _ _ _ _
    refine Tri.keep [2] [] (s' := ⟨[(2, .c (.d (.str r2)))], []⟩) (by kernel_rfl) ?_
    refine Tri.ret ?_
    cases h
    refine ⟨_, _, rfl, ⟨trivial, trivial⟩, rfl, rfl, ?_⟩
    intro k c h
    cases h

set_option maxRecDepth 100000 in
theorem pack_join_ok {p0 : List ByteArray} {q : ByteArray} (h : pack_join p0 = some q) :
    Summ Try.prog 36 [.c (.d (.list 1 p0.length (fun i => encStr (p0.getD i default))))] [] (.c (.d (.str q))) [] := by
  refine Summ.intro Try.func36 rfl (by kernel_rfl) (by kernel_rfl) [] rfl ?_
  rintro ⟨P, w0, G0, V, LL, lk, N, φ0, fx⟩ rfl rfl rfl rfl
  unfold pack_join at h
  refine Tri.seqS ?_
  refine Tri.reg ?_
  refine At.seg 1 [0] [] (s' := ⟨[(0, .c (.d (.list 1 p0.length (fun i => encStr (p0.getD i default)))))], []⟩) (c := True ∧ True) (by kernel_rfl) ⟨trivial, trivial⟩ ?_
  refine At.done rfl ?_
  show Tri _ _ _ _
  refine Tri.seqS ?_
  refine Tri.reg ?_
  refine At.seg 1 [3] [] (s' := ⟨[(3, .c (.d (.list 1 p0.length (fun i => encStr (p0.getD i default)))))], []⟩) (c := True ∧ True) (by kernel_rfl) ⟨trivial, trivial⟩ ?_
  obtain ⟨r1, hr1, h⟩ := bind_elim h
  refine At.callA (caps := []) (xs := [.c (.d (.list 1 p0.length (fun i => encStr (p0.getD i default)))), .c (.d (.str (bs [])))]) (join_ok hr1) rfl rfl rfl rfl rfl rfl (.cons (.c (.le (.listV rfl (fun _ _ => rfl)))) (.cons (.refl _) .nil)) rfl rfl ?_
  refine At.seg 1 [2] [] (s' := ⟨[(2, .c (.d (.str r1)))], []⟩) (c := True ∧ True) (by kernel_rfl) ⟨trivial, trivial⟩ ?_
  refine At.done rfl ?_
  show Tri _ _ _ _
  refine Tri.keep [2] [] (s' := ⟨[(2, .c (.d (.str r1)))], []⟩) (by kernel_rfl) ?_
  refine Tri.ret ?_
  cases h
  refine ⟨_, _, rfl, ⟨trivial, trivial⟩, rfl, rfl, ?_⟩
  intro k c h
  cases h

set_option maxRecDepth 100000 in
theorem pack_Text_ok {p0 : ByteArray} {q : ByteArray} (h : pack_Text p0 = some q) :
    Summ Try.prog 27 [.c (.d (.str p0))] [] (.c (.d (.str q))) [] := by
  refine Summ.intro Try.func27 rfl (by kernel_rfl) (by kernel_rfl) [] rfl ?_
  rintro ⟨P, w0, G0, V, LL, lk, N, φ0, fx⟩ rfl rfl rfl rfl
  unfold pack_Text at h
  refine Tri.seqS ?_
  refine Tri.reg ?_
  refine At.seg 1 [0] [] (s' := ⟨[(0, .c (.d (.str p0)))], []⟩) (c := True ∧ True) (by kernel_rfl) ⟨trivial, trivial⟩ ?_
  refine At.done rfl ?_
  show Tri _ _ _ _
  refine Tri.seqS ?_
  refine Tri.reg ?_
  refine At.seg 3 [0, 5] [] (s' := ⟨[(0, .c (.d (.str p0))), (5, .c (.d (.int .u64 (IntKind.u64.wrap (p0.size : Int)))))], []⟩) (c := True ∧ True ∧ True ∧ True) (by kernel_rfl) ⟨trivial, trivial, trivial, trivial⟩ ?_
  obtain ⟨r1, hr1, h⟩ := bind_elim h
  refine At.callA (caps := []) (xs := [.c (.d (.int .u64 (IntKind.u64.wrap (p0.size : Int))))]) (pack_Count_ok hr1) rfl rfl rfl rfl rfl rfl (.cons (.refl _) .nil) rfl rfl ?_
  refine At.seg 1 [6, 7] [] (s' := ⟨[(6, .c (.d (.str r1))), (7, .c (.d (.str p0)))], []⟩) (c := True ∧ True) (by kernel_rfl) ⟨trivial, trivial⟩ ?_
  refine At.one rfl (One.buildSlice (z := [.d (.str (bs []))]) (cells := [.d (.str r1), .d (.str p0)]) (xs := List.map (encStr) ([r1, p0] : List ByteArray)) rfl rfl rfl rfl (by kernel_rfl) rfl rfl (by kernel_rfl) rfl rfl rfl (by kernel_rfl) rfl ⟨⟨rfl, .refl _⟩, ⟨rfl, .refl _⟩, trivial⟩) ?_
  refine At.le [8] (fun k _ h => by cases h) ⟨[(8, .c (.d (.list 1 ([r1, p0] : List ByteArray).length (fun i => encStr (([r1, p0] : List ByteArray).getD i default))))), (6, .c (.d (.str r1))), (7, .c (.d (.str p0)))], []⟩ ⟨⟨_, rfl, .c (.own rfl (List.mem_singleton.2 rfl) (Nat.le_of_ble_eq_true rfl) rfl (encs_getD (encStr) ([r1, p0] : List ByteArray)))⟩, ⟨_, rfl, .refl _⟩, ⟨_, rfl, .refl _⟩, trivial⟩ trivial ?_
  obtain ⟨r2, hr2, h⟩ := bind_elim h
  refine At.callA (caps := []) (xs := [.c (.d (.list 1 ([r1, p0] : List ByteArray).length (fun i => encStr (([r1, p0] : List ByteArray).getD i default))))]) (pack_join_ok hr2) rfl rfl rfl rfl rfl rfl (.cons (.refl _) .nil) rfl rfl ?_
  refine At.seg 1 [2] [] (s' := ⟨[(2, .c (.d (.str r2)))], []⟩) (c := True ∧ True) (by kernel_rfl) ⟨trivial, trivial⟩ ?_
  refine At.done rfl ?_
  show Tri _ _ _ _
  refine Tri.keep [2] [] (s' := ⟨[(2, .c (.d (.str r2)))], []⟩) (by kernel_rfl) ?_
  refine Tri.ret ?_
  cases h
  refine ⟨_, _, rfl, ⟨trivial, trivial⟩, rfl, rfl, ?_⟩
  intro k c h
  cases h

set_option maxRecDepth 100000 in
theorem freshetref01_Text_ok {fuel : Nat} {p0 : ByteArray} {q : ByteArray} (h : freshetref01_Text fuel p0 = some q) :
    Summ Try.prog 28 [.c (.d (.str p0))] [] (.c (.d (.str q))) [] := by
  refine Summ.intro Try.func28 rfl (by kernel_rfl) (by kernel_rfl) [] rfl ?_
  rintro ⟨P, w0, G0, V, LL, lk, N, φ0, fx⟩ rfl rfl rfl rfl
  unfold freshetref01_Text at h
  refine Tri.seqS ?_
  refine Tri.reg ?_
  refine At.seg 1 [0] [] (s' := ⟨[(0, .c (.d (.str p0)))], []⟩) (c := True ∧ True) (by kernel_rfl) ⟨trivial, trivial⟩ ?_
  refine At.done rfl ?_
  show Tri _ _ _ _
  refine Tri.seqS ?_
  refine Tri.reg ?_
  refine At.seg 3 [0, 5] [] (s' := ⟨[(0, .c (.d (.str p0))), (5, .c (.d (.int .u64 (IntKind.u64.wrap (p0.size : Int)))))], []⟩) (c := True ∧ True ∧ True ∧ True) (by kernel_rfl) ⟨trivial, trivial, trivial, trivial⟩ ?_
  obtain ⟨r1, hr1, h⟩ := bind_elim h
  refine At.callA (caps := []) (xs := [.c (.d (.int .u64 (IntKind.u64.wrap (p0.size : Int))))]) (freshetref01_Count_ok hr1) rfl rfl rfl rfl rfl rfl (.cons (.refl _) .nil) rfl rfl ?_
  obtain ⟨hc2, h⟩ := need_elim h
  refine At.seg 3 [2] [] (s' := ⟨[(2, .c (.d (.str (r1 ++ p0))))], []⟩) (c := True ∧ (((r1.size + p0.size : Nat) : Int) ≤ 9223372036854775807) ∧ True ∧ True) (by kernel_rfl) ⟨trivial, hc2, trivial, trivial⟩ ?_
  refine At.done rfl ?_
  show Tri _ _ _ _
  refine Tri.keep [2] [] (s' := ⟨[(2, .c (.d (.str (r1 ++ p0))))], []⟩) (by kernel_rfl) ?_
  refine Tri.ret ?_
  cases h
  refine ⟨_, _, rfl, ⟨trivial, trivial⟩, rfl, rfl, ?_⟩
  intro k c h
  cases h

set_option maxRecDepth 100000 in
theorem freshetlaw01_PackCounts_ok {fuel : Nat} {p0 : Int} {p1 : Int} {p2 : ByteArray} {q : Bool} (h : freshetlaw01_PackCounts fuel p0 p1 p2 = some q) :
    Summ Try.prog 7 [.c (.d (.int .u64 p0)), .c (.d (.int .i64 p1)), .c (.d (.str p2))] [] (.c (.d (.bool q))) [] := by
  refine Summ.intro Try.func7 rfl (by kernel_rfl) (by kernel_rfl) [] rfl ?_
  rintro ⟨P, w0, G0, V, LL, lk, N, φ0, fx⟩ rfl rfl rfl rfl
  unfold freshetlaw01_PackCounts at h
  refine Tri.seqS ?_
  refine Tri.reg ?_
  refine At.seg 1 [0, 1, 2] [] (s' := ⟨[(0, .c (.d (.int .u64 p0))), (1, .c (.d (.int .i64 p1))), (2, .c (.d (.str p2)))], []⟩) (c := True ∧ True) (by kernel_rfl) ⟨trivial, trivial⟩ ?_
  refine At.done rfl ?_
  show Tri _ _ _ _
  refine Tri.seqJ (fun (a1 : Bool) => ⟨[(6, .c (.d (.bool a1)))], []⟩) h (fun a1 h => ?_) (fun j2 h => ?_)
  · show Tri _ _ ⟨[(6, .c (.d (.bool a1)))], []⟩ _
    refine Tri.keep [6] [] (s' := ⟨[(6, .c (.d (.bool a1)))], []⟩) (by kernel_rfl) ?_
    refine Tri.ret ?_
    cases h
    refine ⟨_, _, rfl, ⟨trivial, trivial⟩, rfl, rfl, ?_⟩
    intro k c h
    cases h
  · refine Tri.reg ?_
    obtain ⟨r3, hr3, h⟩ := bind_elim h
    refine At.callA (caps := []) (xs := []) (freshetlaw01_counts_ok hr3) rfl rfl rfl rfl rfl rfl .nil rfl rfl ?_
    refine At.seg 1 [0, 1, 2, 8] [] (s' := ⟨[(0, .c (.d (.int .u64 p0))), (1, .c (.d (.int .i64 p1))), (2, .c (.d (.str p2))), (8, .c (.d (.bool r3)))], []⟩) (c := True ∧ True) (by kernel_rfl) ⟨trivial, trivial⟩ ?_
    refine At.case (fun b => ⟨[(0, .c (.d (.int .u64 p0))), (1, .c (.d (.int .i64 p1))), (2, .c (.d (.str p2))), (8, .c (.d (.bool b)))], []⟩) (b := r3) h (fun h => ?_) (fun h => ?_)
    · refine At.seg 1 [0, 1, 2, 8, 9] [] (s' := ⟨[(0, .c (.d (.int .u64 p0))), (1, .c (.d (.int .i64 p1))), (2, .c (.d (.str p2))), (8, .c (.d (.bool true))), (9, .c (.d (.int .u64 p0)))], []⟩) (c := True ∧ True) (by kernel_rfl) ⟨trivial, trivial⟩ ?_
      obtain ⟨r4, hr4, h⟩ := bind_elim h
      refine At.callA (caps := []) (xs := [.c (.d (.int .u64 p0))]) (pack_Count_ok hr4) rfl rfl rfl rfl rfl rfl (.cons (.refl _) .nil) rfl rfl ?_
      refine At.seg 1 [1, 2, 8, 10, 11] [] (s' := ⟨[(1, .c (.d (.int .i64 p1))), (2, .c (.d (.str p2))), (8, .c (.d (.bool true))), (10, .c (.d (.str r4))), (11, .c (.d (.int .u64 p0)))], []⟩) (c := True ∧ True) (by kernel_rfl) ⟨trivial, trivial⟩ ?_
      obtain ⟨r5, hr5, h⟩ := bind_elim h
      refine At.callA (caps := []) (xs := [.c (.d (.int .u64 p0))]) (freshetref01_Count_ok hr5) rfl rfl rfl rfl rfl rfl (.cons (.refl _) .nil) rfl rfl ?_
      refine At.seg 3 [1, 2, 15] [] (s' := ⟨[(1, .c (.d (.int .i64 p1))), (2, .c (.d (.str p2))), (15, .c (.d (.bool (strEq r4 r5))))], []⟩) (c := True ∧ True ∧ True ∧ True) (by kernel_rfl) ⟨trivial, trivial, trivial, trivial⟩ ?_
      refine At.case (fun b => ⟨[(1, .c (.d (.int .i64 p1))), (2, .c (.d (.str p2))), (15, .c (.d (.bool b)))], []⟩) (b := (strEq r4 r5)) h (fun h => ?_) (fun h => ?_)
      · refine At.seg 1 [1, 2, 15, 16] [] (s' := ⟨[(1, .c (.d (.int .i64 p1))), (2, .c (.d (.str p2))), (15, .c (.d (.bool true))), (16, .c (.d (.int .i64 p1)))], []⟩) (c := True ∧ True) (by kernel_rfl) ⟨trivial, trivial⟩ ?_
        obtain ⟨r6, hr6, h⟩ := bind_elim h
        refine At.callA (caps := []) (xs := [.c (.d (.int .i64 p1))]) (pack_Number_ok hr6) rfl rfl rfl rfl rfl rfl (.cons (.refl _) .nil) rfl rfl ?_
        refine At.seg 1 [2, 15, 17, 18] [] (s' := ⟨[(2, .c (.d (.str p2))), (15, .c (.d (.bool true))), (17, .c (.d (.str r6))), (18, .c (.d (.int .i64 p1)))], []⟩) (c := True ∧ True) (by kernel_rfl) ⟨trivial, trivial⟩ ?_
        obtain ⟨r7, hr7, h⟩ := bind_elim h
        refine At.callA (caps := []) (xs := [.c (.d (.int .i64 p1))]) (freshetref01_Number_ok hr7) rfl rfl rfl rfl rfl rfl (.cons (.refl _) .nil) rfl rfl ?_
        refine At.seg 3 [2, 22] [] (s' := ⟨[(2, .c (.d (.str p2))), (22, .c (.d (.bool (strEq r6 r7))))], []⟩) (c := True ∧ True ∧ True ∧ True) (by kernel_rfl) ⟨trivial, trivial, trivial, trivial⟩ ?_
        refine At.case (fun b => ⟨[(2, .c (.d (.str p2))), (22, .c (.d (.bool b)))], []⟩) (b := (strEq r6 r7)) h (fun h => ?_) (fun h => ?_)
        · refine At.seg 1 [2, 22, 23] [] (s' := ⟨[(2, .c (.d (.str p2))), (22, .c (.d (.bool true))), (23, .c (.d (.str p2)))], []⟩) (c := True ∧ True) (by kernel_rfl) ⟨trivial, trivial⟩ ?_
          obtain ⟨r8, hr8, h⟩ := bind_elim h
          refine At.callA (caps := []) (xs := [.c (.d (.str p2))]) (pack_Text_ok hr8) rfl rfl rfl rfl rfl rfl (.cons (.refl _) .nil) rfl rfl ?_
          refine At.seg 1 [22, 24, 25] [] (s' := ⟨[(22, .c (.d (.bool true))), (24, .c (.d (.str r8))), (25, .c (.d (.str p2)))], []⟩) (c := True ∧ True) (by kernel_rfl) ⟨trivial, trivial⟩ ?_
          obtain ⟨r9, hr9, h⟩ := bind_elim h
          refine At.callA (caps := []) (xs := [.c (.d (.str p2))]) (freshetref01_Text_ok hr9) rfl rfl rfl rfl rfl rfl (.cons (.refl _) .nil) rfl rfl ?_
          refine At.seg 3 [6] [] (s' := ⟨[(6, .c (.d (.bool (strEq r8 r9))))], []⟩) (c := True ∧ True ∧ True ∧ True) (by kernel_rfl) ⟨trivial, trivial, trivial, trivial⟩ ?_
          refine At.done rfl ?_
          exact ⟨_, h, rfl⟩
        · refine At.seg 7 [6] [] (s' := ⟨[(6, .c (.d (.bool false)))], []⟩) (c := True ∧ True ∧ True) (by kernel_rfl) ⟨trivial, trivial, trivial⟩ ?_
          refine At.done rfl ?_
          exact ⟨_, h, rfl⟩
      · refine At.seg 14 [6] [] (s' := ⟨[(6, .c (.d (.bool false)))], []⟩) (c := True ∧ True ∧ True ∧ True ∧ True) (by kernel_rfl) ⟨trivial, trivial, trivial, trivial, trivial⟩ ?_
        refine At.done rfl ?_
        exact ⟨_, h, rfl⟩
    · refine At.seg 21 [6] [] (s' := ⟨[(6, .c (.d (.bool false)))], []⟩) (c := True ∧ True ∧ True ∧ True ∧ True ∧ True ∧ True) (by kernel_rfl) ⟨trivial, trivial, trivial, trivial, trivial, trivial, trivial⟩ ?_
      refine At.done rfl ?_
      exact ⟨_, h, rfl⟩

set_option maxRecDepth 100000 in
theorem pack_closing_ok {p0 : ByteArray} {q : ByteArray} (h : pack_closing p0 = some q) :
    Summ Try.prog 37 [.c (.d (.str p0))] [] (.c (.d (.str q))) [] := by
  refine Summ.intro Try.func37 rfl (by kernel_rfl) (by kernel_rfl) [] rfl ?_
  rintro ⟨P, w0, G0, V, LL, lk, N, φ0, fx⟩ rfl rfl rfl rfl
  unfold pack_closing at h
  refine Tri.seqS ?_
  refine Tri.reg ?_
  refine At.seg 1 [0] [] (s' := ⟨[(0, .c (.d (.str p0)))], []⟩) (c := True ∧ True) (by kernel_rfl) ⟨trivial, trivial⟩ ?_
  refine At.done rfl ?_
  show Tri _ _ _ _
  refine Tri.seqS ?_
  refine Tri.reg ?_
  refine At.seg 1 [6] [] (s' := ⟨[(6, .c (.d (.str p0)))], []⟩) (c := True ∧ True) (by kernel_rfl) ⟨trivial, trivial⟩ ?_
  obtain ⟨r1, hr1, h⟩ := bind_elim h
  refine At.callA (caps := []) (xs := [.c (.d (.str p0))]) (pack_Sum_ok hr1) rfl rfl rfl rfl rfl rfl (.cons (.refl _) .nil) rfl rfl ?_
  refine At.seg 1 [3] [] (s' := ⟨[(3, .c (.d (.int .u32 r1)))], []⟩) (c := True ∧ True) (by kernel_rfl) ⟨trivial, trivial⟩ ?_
  refine At.done rfl ?_
  show Tri _ _ _ _
  refine Tri.seqS ?_
  refine Tri.reg ?_
  obtain ⟨hc2, h⟩ := need_elim h
  refine At.one rfl (One.makeT (e := 5) (es := 1) (bs := 1) (n := 4) (c := 4) (z := [.d (.int .u8 0)]) (encInt .u8) (0 : Int) rfl rfl rfl rfl (by kernel_rfl) rfl rfl rfl (by kernel_rfl) rfl (by kernel_rfl) rfl (.refl _) rfl rfl rfl hc2.1 hc2.2.1 hc2.2.2 rfl) ?_
  refine At.seg 1 [3, 4] [8] (s' := ⟨[(3, .c (.d (.int .u32 r1))), (4, .c (.own 8 1 0 ((List.replicate 4 (0 : Int)).length)))], [(8, .vec 1 (List.replicate 4 (0 : Int)).length (fun i => encInt .u8 ((List.replicate 4 (0 : Int)).getD i default)))]⟩) (c := True ∧ True) (by kernel_rfl) ⟨trivial, trivial⟩ ?_
  refine At.done rfl ?_
  show Tri _ _ _ _
  refine Tri.seqS ?_
  refine Tri.seqS ?_
  refine Tri.reg ?_
  refine At.seg 3 [3, 4, 10, 11] [8] (s' := ⟨[(3, .c (.d (.int .u32 r1))), (4, .c (.own 8 1 0 ((List.replicate 4 (0 : Int)).length))), (10, .c (.d (.int .i64 ((List.replicate 4 (0 : Int)).length : Int)))), (11, .c (.d (.int .i64 0)))], [(8, .vec 1 (List.replicate 4 (0 : Int)).length (fun i => encInt .u8 ((List.replicate 4 (0 : Int)).getD i default)))]⟩) (c := True ∧ True ∧ True ∧ True) (by kernel_rfl) ⟨trivial, trivial, trivial, trivial⟩ ?_
  refine At.done rfl ?_
  show Tri _ _ _ _
  refine Tri.lenOfO (t := 4) rfl rfl (Nat.le_refl _) fun hlena4 => ?_
  refine Tri.keep [11, 3, 4, 10] [8] (s' := idx 11 0 ⟨[(3, .c (.d (.int .u32 r1))), (4, .c (.own 8 1 0 ((List.replicate 4 (0 : Int)).length))), (10, .c (.d (.int .i64 ((List.replicate 4 (0 : Int)).length : Int))))], [(8, .vec 1 (List.replicate 4 (0 : Int)).length (fun i => encInt .u8 ((List.replicate 4 (0 : Int)).getD i default)))]⟩) (by kernel_rfl) ?_
  refine Tri.range (n := (List.replicate 4 (0 : Int)).length) (st0 := (List.replicate 4 (0 : Int))) (fun (x : Empty) s => False) (fun (a4 : List Int) => ⟨[(3, .c (.d (.int .u32 r1))), (4, .c (.own 8 1 0 a4.length)), (10, .c (.d (.int .i64 ((List.replicate 4 (0 : Int)).length : Int))))], [(8, .vec 1 a4.length (fun i => encInt .u8 (a4.getD i default)))]⟩) (fun (a4 : List Int) => ⟨[(3, .c (.d (.int .u32 r1))), (4, .c (.own 8 1 0 a4.length)), (10, .c (.d (.int .i64 ((List.replicate 4 (0 : Int)).length : Int))))], [(8, .vec 1 a4.length (fun i => encInt .u8 (a4.getD i default)))]⟩) (fun i => decide ((i : Int) < ((List.replicate 4 (0 : Int)).length : Int))) [12, 11, 3, 4, 10] [8] [3, 4, 10] [8] [11, 3, 4, 10] [8] h hlena4 rfl ?_ ?_ ?_ ?_ ?_ ?_ ?_ ?_
  · exact fun i a => ⟨True ∧ True, by kernel_rfl, ⟨trivial, trivial⟩⟩
  · exact fun i hi => decide_eq_true (by omega)
  · exact decide_eq_false (by omega)
  · exact fun a => by kernel_rfl
  · exact fun i a => ⟨True ∧ True ∧ True, by kernel_rfl, ⟨trivial, trivial, trivial⟩⟩
  · intro i3 a4 c hii3 h
    refine Tri.seqS ?_
    refine Tri.reg ?_
    refine At.seg 2 [3, 4, 5, 10, 11] [8] (s' := ⟨[(3, .c (.d (.int .u32 r1))), (4, .c (.own 8 1 0 a4.length)), (5, .c (.d (.int .i64 ((i3 : Nat) : Int)))), (10, .c (.d (.int .i64 ((List.replicate 4 (0 : Int)).length : Int)))), (11, .c (.d (.int .i64 ((i3 : Nat) : Int))))], [(8, .vec 1 a4.length (fun i => encInt .u8 (a4.getD i default)))]⟩) (c := True ∧ True ∧ True) (by kernel_rfl) ⟨trivial, trivial, trivial⟩ ?_
    refine At.done rfl ?_
    show Tri _ _ _ _
    refine Tri.reg ?_
    obtain ⟨hc6, h⟩ := need_elim h
    obtain ⟨hc7, h⟩ := need_elim h
    refine At.seg 8 [3, 4, 10, 11, 20, 21] [8] (s' := ⟨[(3, .c (.d (.int .u32 r1))), (4, .c (.own 8 1 0 a4.length)), (10, .c (.d (.int .i64 ((List.replicate 4 (0 : Int)).length : Int)))), (11, .c (.d (.int .i64 ((i3 : Nat) : Int)))), (20, .c (.d (.int .u8 (IntKind.u8.wrap (shrOp .u32 r1 (IntKind.i64.wrap ((8 : Int) * ((i3 : Nat) : Int)))))))), (21, .c (.vptr 8 1 (0 + i3) 0))], [(8, .vec 1 a4.length (fun i => encInt .u8 (a4.getD i default)))]⟩) (c := True ∧ True ∧ True ∧ True ∧ True ∧ ((0 : Int) ≤ (IntKind.i64.wrap ((8 : Int) * ((i3 : Nat) : Int)))) ∧ True ∧ ((0 : Int) ≤ ((i3 : Nat) : Int) ∧ ((i3 : Nat) : Int) < (a4.length : Int)) ∧ True) (by kernel_rfl) ⟨trivial, trivial, trivial, trivial, trivial, hc6, trivial, hc7, trivial⟩ ?_
    obtain ⟨hc8, h⟩ := need_elim h
    refine At.one rfl (One.storeT (xs := [.d (.int .u8 (IntKind.u8.wrap (shrOp .u32 r1 (IntKind.i64.wrap ((8 : Int) * ((i3 : Nat) : Int))))))]) (ds := [.int .u8 (IntKind.u8.wrap (shrOp .u32 r1 (IntKind.i64.wrap ((8 : Int) * ((i3 : Nat) : Int)))))]) (encInt .u8) a4 (IntKind.u8.wrap (shrOp .u32 r1 (IntKind.i64.wrap ((8 : Int) * ((i3 : Nat) : Int))))) rfl rfl rfl rfl rfl hc8 rfl rfl (.refl _) rfl rfl rfl rfl) ?_
    refine At.keep [3, 4, 10, 11] [8] (s' := ⟨[(3, .c (.d (.int .u32 r1))), (4, .c (.own 8 1 0 a4.length)), (10, .c (.d (.int .i64 ((List.replicate 4 (0 : Int)).length : Int)))), (11, .c (.d (.int .i64 ((i3 : Nat) : Int))))], [(8, .vec 1 (a4.set (0 + i3) (IntKind.u8.wrap (shrOp .u32 r1 (IntKind.i64.wrap ((8 : Int) * ((i3 : Nat) : Int)))))).length (fun i => encInt .u8 ((a4.set (0 + i3) (IntKind.u8.wrap (shrOp .u32 r1 (IntKind.i64.wrap ((8 : Int) * ((i3 : Nat) : Int)))))).getD i default)))]⟩) (by kernel_rfl) ?_
    refine At.eqS (s' := ⟨[(3, .c (.d (.int .u32 r1))), (4, .c (.own 8 1 0 ((a4.set (0 + i3) (IntKind.u8.wrap (shrOp .u32 r1 (IntKind.i64.wrap ((8 : Int) * ((i3 : Nat) : Int)))))).length))), (10, .c (.d (.int .i64 ((List.replicate 4 (0 : Int)).length : Int)))), (11, .c (.d (.int .i64 ((i3 : Nat) : Int))))], [(8, .vec 1 (a4.set (0 + i3) (IntKind.u8.wrap (shrOp .u32 r1 (IntKind.i64.wrap ((8 : Int) * ((i3 : Nat) : Int)))))).length (fun i => encInt .u8 ((a4.set (0 + i3) (IntKind.u8.wrap (shrOp .u32 r1 (IntKind.i64.wrap ((8 : Int) * ((i3 : Nat) : Int)))))).getD i default)))]⟩) (by simp only [List.length_set]) ?_
    refine At.keep [11, 3, 4, 10] [8] (s' := ⟨[(11, .c (.d (.int .i64 ((i3 : Nat) : Int)))), (3, .c (.d (.int .u32 r1))), (4, .c (.own 8 1 0 ((a4.set (0 + i3) (IntKind.u8.wrap (shrOp .u32 r1 (IntKind.i64.wrap ((8 : Int) * ((i3 : Nat) : Int)))))).length))), (10, .c (.d (.int .i64 ((List.replicate 4 (0 : Int)).length : Int))))], [(8, .vec 1 (a4.set (0 + i3) (IntKind.u8.wrap (shrOp .u32 r1 (IntKind.i64.wrap ((8 : Int) * ((i3 : Nat) : Int)))))).length (fun i => encInt .u8 ((a4.set (0 + i3) (IntKind.u8.wrap (shrOp .u32 r1 (IntKind.i64.wrap ((8 : Int) * ((i3 : Nat) : Int)))))).getD i default)))]⟩) (by kernel_rfl) ?_
    refine At.done rfl ?_
    cases h
    exact rfl
  · intro a5 h
    show Tri _ _ _ _
    refine Tri.seqS ?_
    refine Tri.reg ?_
    refine At.seg 1 [23] [8] (s' := ⟨[(23, .c (.own 8 1 0 a5.length))], [(8, .vec 1 a5.length (fun i => encInt .u8 (a5.getD i default)))]⟩) (c := True ∧ True) (by kernel_rfl) ⟨trivial, trivial⟩ ?_
    refine At.one rfl (One.bytesStrT (e := 5) a5 rfl rfl rfl rfl rfl rfl rfl (.own rfl (by simp) rfl (shift0 (encInt .u8) a5 _))) ?_
    refine At.seg 1 [2] [] (s' := ⟨[(2, .c (.d (.str (strOfNums a5))))], []⟩) (c := True ∧ True) (by kernel_rfl) ⟨trivial, trivial⟩ ?_
    refine At.done rfl ?_
    show Tri _ _ _ _
    refine Tri.keep [2] [] (s' := ⟨[(2, .c (.d (.str (strOfNums a5))))], []⟩) (by kernel_rfl) ?_
    refine Tri.ret ?_
    cases h
    refine ⟨_, _, rfl, ⟨trivial, trivial⟩, rfl, rfl, ?_⟩
    intro k c h
    cases h
  · exact fun x => x.elim

set_option maxRecDepth 100000 in
theorem pack_Frame_ok {p0 : ByteArray} {q : ByteArray × Int} (h : pack_Frame p0 = some q) :
    Summ Try.prog 29 [.c (.d (.str p0))] [] (.tup [(false, [.d (.str q.1)]), (false, [.d (.int .i64 q.2)])]) [] := by
  refine Summ.intro Try.func29 rfl (by kernel_rfl) (by kernel_rfl) [] rfl ?_
  rintro ⟨P, w0, G0, V, LL, lk, N, φ0, fx⟩ rfl rfl rfl rfl
  unfold pack_Frame at h
  refine Tri.seqS ?_
  refine Tri.reg ?_
  refine At.seg 2 [0] [] (s' := ⟨[(0, .c (.d (.str p0)))], []⟩) (c := True ∧ True ∧ True) (by kernel_rfl) ⟨trivial, trivial, trivial⟩ ?_
  refine At.done rfl ?_
  show Tri _ _ _ _
  refine Tri.seqS ?_
  refine Tri.seqS ?_
  refine Tri.reg ?_
  refine At.seg 3 [0, 6] [] (s' := ⟨[(0, .c (.d (.str p0))), (6, .c (.d (.bool (decide (65536 < (p0.size : Int))))))], []⟩) (c := True ∧ True ∧ True ∧ True) (by kernel_rfl) ⟨trivial, trivial, trivial, trivial⟩ ?_
  refine At.done rfl ?_
  show Tri _ _ _ _
  refine Tri.condP (b := (decide (65536 < (p0.size : Int)))) rfl h (fun h => ?_) (fun h => ?_)
  · refine Tri.seqS ?_
    refine Tri.reg ?_
    refine At.seg 2 [2, 3] [] (s' := ⟨[(2, .c (.d (.str (bs [])))), (3, .c (.d (.int .i64 2)))], []⟩) (c := True ∧ True ∧ True) (by kernel_rfl) ⟨trivial, trivial, trivial⟩ ?_
    refine At.done rfl ?_
    show Tri _ _ _ _
    refine Tri.keep [2, 3] [] (s' := ⟨[(2, .c (.d (.str (bs [])))), (3, .c (.d (.int .i64 2)))], []⟩) (by kernel_rfl) ?_
    refine Tri.ret ?_
    cases h
    refine ⟨_, _, rfl, ⟨trivial, ⟨trivial, trivial⟩⟩, rfl, rfl, ?_⟩
    intro k c h
    cases h
  · refine Tri.skip ?_
    show Tri _ _ _ _
    refine Tri.seqS ?_
    refine Tri.reg ?_
    refine At.seg 1 [0, 7] [] (s' := ⟨[(0, .c (.d (.str p0))), (7, .c (.d (.str p0)))], []⟩) (c := True ∧ True) (by kernel_rfl) ⟨trivial, trivial⟩ ?_
    obtain ⟨r1, hr1, h⟩ := bind_elim h
    refine At.callA (caps := []) (xs := [.c (.d (.str p0))]) (pack_Text_ok hr1) rfl rfl rfl rfl rfl rfl (.cons (.refl _) .nil) rfl rfl ?_
    refine At.seg 1 [8, 9] [] (s' := ⟨[(8, .c (.d (.str r1))), (9, .c (.d (.str p0)))], []⟩) (c := True ∧ True) (by kernel_rfl) ⟨trivial, trivial⟩ ?_
    obtain ⟨r2, hr2, h⟩ := bind_elim h
    refine At.callA (caps := []) (xs := [.c (.d (.str p0))]) (pack_closing_ok hr2) rfl rfl rfl rfl rfl rfl (.cons (.refl _) .nil) rfl rfl ?_
    refine At.one rfl (One.buildSlice (z := [.d (.str (bs []))]) (cells := [.d (.str r1), .d (.str r2)]) (xs := List.map (encStr) ([r1, r2] : List ByteArray)) rfl rfl rfl rfl (by kernel_rfl) rfl rfl (by kernel_rfl) rfl rfl rfl (by kernel_rfl) rfl ⟨⟨rfl, .refl _⟩, ⟨rfl, .refl _⟩, trivial⟩) ?_
    refine At.le [11] (fun k _ h => by cases h) ⟨[(11, .c (.d (.list 1 ([r1, r2] : List ByteArray).length (fun i => encStr (([r1, r2] : List ByteArray).getD i default))))), (8, .c (.d (.str r1))), (10, .c (.d (.str r2)))], []⟩ ⟨⟨_, rfl, .c (.own rfl (List.mem_singleton.2 rfl) (Nat.le_of_ble_eq_true rfl) rfl (encs_getD (encStr) ([r1, r2] : List ByteArray)))⟩, ⟨_, rfl, .refl _⟩, ⟨_, rfl, .refl _⟩, trivial⟩ trivial ?_
    obtain ⟨r3, hr3, h⟩ := bind_elim h
    refine At.callA (caps := []) (xs := [.c (.d (.list 1 ([r1, r2] : List ByteArray).length (fun i => encStr (([r1, r2] : List ByteArray).getD i default))))]) (pack_join_ok hr3) rfl rfl rfl rfl rfl rfl (.cons (.refl _) .nil) rfl rfl ?_
    refine At.seg 2 [2, 3] [] (s' := ⟨[(2, .c (.d (.str r3))), (3, .c (.d (.int .i64 0)))], []⟩) (c := True ∧ True ∧ True) (by kernel_rfl) ⟨trivial, trivial, trivial⟩ ?_
    refine At.done rfl ?_
    show Tri _ _ _ _
    refine Tri.keep [2, 3] [] (s' := ⟨[(2, .c (.d (.str r3))), (3, .c (.d (.int .i64 0)))], []⟩) (by kernel_rfl) ?_
    refine Tri.ret ?_
    cases h
    refine ⟨_, _, rfl, ⟨trivial, ⟨trivial, trivial⟩⟩, rfl, rfl, ?_⟩
    intro k c h
    cases h

set_option maxRecDepth 100000 in
theorem freshetref01_four_ok {p0 : Int} {q : ByteArray} (h : freshetref01_four p0 = some q) :
    Summ Try.prog 38 [.c (.d (.int .u32 p0))] [] (.c (.d (.str q))) [] := by
  refine Summ.intro Try.func38 rfl (by kernel_rfl) (by kernel_rfl) [] rfl ?_
  rintro ⟨P, w0, G0, V, LL, lk, N, φ0, fx⟩ rfl rfl rfl rfl
  unfold freshetref01_four at h
  refine Tri.seqS ?_
  refine Tri.reg ?_
  refine At.seg 1 [0] [] (s' := ⟨[(0, .c (.d (.int .u32 p0)))], []⟩) (c := True ∧ True) (by kernel_rfl) ⟨trivial, trivial⟩ ?_
  refine At.done rfl ?_
  show Tri _ _ _ _
  refine Tri.seqS ?_
  refine Tri.reg ?_
  refine At.seg 11 [4, 7, 10, 13] [] (s' := ⟨[(4, .c (.d (.int .u8 (IntKind.u8.wrap p0)))), (7, .c (.d (.int .u8 (IntKind.u8.wrap (IntKind.u32.wrap (p0.tdiv 256)))))), (10, .c (.d (.int .u8 (IntKind.u8.wrap (IntKind.u32.wrap (p0.tdiv 65536)))))), (13, .c (.d (.int .u8 (IntKind.u8.wrap (IntKind.u32.wrap (p0.tdiv 16777216))))))], []⟩) (c := True ∧ True ∧ True ∧ ((256 : Int) ≠ 0) ∧ True ∧ True ∧ ((65536 : Int) ≠ 0) ∧ True ∧ True ∧ ((16777216 : Int) ≠ 0) ∧ True ∧ True) (by kernel_rfl) ⟨trivial, trivial, trivial, (by decide : (256 : Int) ≠ 0), trivial, trivial, (by decide : (65536 : Int) ≠ 0), trivial, trivial, (by decide : (16777216 : Int) ≠ 0), trivial, trivial⟩ ?_
  refine At.one rfl (One.buildSlice (z := [.d (.int .u8 0)]) (cells := [.d (.int .u8 (IntKind.u8.wrap p0)), .d (.int .u8 (IntKind.u8.wrap (IntKind.u32.wrap (p0.tdiv 256)))), .d (.int .u8 (IntKind.u8.wrap (IntKind.u32.wrap (p0.tdiv 65536)))), .d (.int .u8 (IntKind.u8.wrap (IntKind.u32.wrap (p0.tdiv 16777216))))]) (xs := List.map (encInt .u8) ([(IntKind.u8.wrap p0), (IntKind.u8.wrap (IntKind.u32.wrap (p0.tdiv 256))), (IntKind.u8.wrap (IntKind.u32.wrap (p0.tdiv 65536))), (IntKind.u8.wrap (IntKind.u32.wrap (p0.tdiv 16777216)))] : List Int)) rfl rfl rfl rfl (by kernel_rfl) rfl rfl (by kernel_rfl) rfl rfl rfl (by kernel_rfl) rfl ⟨⟨rfl, .refl _⟩, ⟨rfl, .refl _⟩, ⟨rfl, .refl _⟩, ⟨rfl, .refl _⟩, trivial⟩) ?_
  refine At.le [14] (fun k _ h => by cases h) ⟨[(14, .c (.d (.list 1 ([(IntKind.u8.wrap p0), (IntKind.u8.wrap (IntKind.u32.wrap (p0.tdiv 256))), (IntKind.u8.wrap (IntKind.u32.wrap (p0.tdiv 65536))), (IntKind.u8.wrap (IntKind.u32.wrap (p0.tdiv 16777216)))] : List Int).length (fun i => encInt .u8 (([(IntKind.u8.wrap p0), (IntKind.u8.wrap (IntKind.u32.wrap (p0.tdiv 256))), (IntKind.u8.wrap (IntKind.u32.wrap (p0.tdiv 65536))), (IntKind.u8.wrap (IntKind.u32.wrap (p0.tdiv 16777216)))] : List Int).getD i default))))), (4, .c (.d (.int .u8 (IntKind.u8.wrap p0)))), (7, .c (.d (.int .u8 (IntKind.u8.wrap (IntKind.u32.wrap (p0.tdiv 256)))))), (10, .c (.d (.int .u8 (IntKind.u8.wrap (IntKind.u32.wrap (p0.tdiv 65536)))))), (13, .c (.d (.int .u8 (IntKind.u8.wrap (IntKind.u32.wrap (p0.tdiv 16777216))))))], []⟩ ⟨⟨_, rfl, .c (.own rfl (List.mem_singleton.2 rfl) (Nat.le_of_ble_eq_true rfl) rfl (encs_getD (encInt .u8) ([(IntKind.u8.wrap p0), (IntKind.u8.wrap (IntKind.u32.wrap (p0.tdiv 256))), (IntKind.u8.wrap (IntKind.u32.wrap (p0.tdiv 65536))), (IntKind.u8.wrap (IntKind.u32.wrap (p0.tdiv 16777216)))] : List Int)))⟩, ⟨_, rfl, .refl _⟩, ⟨_, rfl, .refl _⟩, ⟨_, rfl, .refl _⟩, ⟨_, rfl, .refl _⟩, trivial⟩ trivial ?_
  refine At.one rfl (One.bytesStrT (e := 5) ([(IntKind.u8.wrap p0), (IntKind.u8.wrap (IntKind.u32.wrap (p0.tdiv 256))), (IntKind.u8.wrap (IntKind.u32.wrap (p0.tdiv 65536))), (IntKind.u8.wrap (IntKind.u32.wrap (p0.tdiv 16777216)))] : List Int) rfl rfl rfl rfl rfl rfl rfl (.list rfl (fun _ _ => rfl))) ?_
  refine At.seg 1 [2] [] (s' := ⟨[(2, .c (.d (.str (strOfNums ([(IntKind.u8.wrap p0), (IntKind.u8.wrap (IntKind.u32.wrap (p0.tdiv 256))), (IntKind.u8.wrap (IntKind.u32.wrap (p0.tdiv 65536))), (IntKind.u8.wrap (IntKind.u32.wrap (p0.tdiv 16777216)))] : List Int)))))], []⟩) (c := True ∧ True) (by kernel_rfl) ⟨trivial, trivial⟩ ?_
  refine At.done rfl ?_
  show Tri _ _ _ _
  refine Tri.keep [2] [] (s' := ⟨[(2, .c (.d (.str (strOfNums ([(IntKind.u8.wrap p0), (IntKind.u8.wrap (IntKind.u32.wrap (p0.tdiv 256))), (IntKind.u8.wrap (IntKind.u32.wrap (p0.tdiv 65536))), (IntKind.u8.wrap (IntKind.u32.wrap (p0.tdiv 16777216)))] : List Int)))))], []⟩) (by kernel_rfl) ?_
  refine Tri.ret ?_
  cases h
  refine ⟨_, _, rfl, ⟨trivial, trivial⟩, rfl, rfl, ?_⟩
  intro k c h
  cases h

set_option maxRecDepth 100000 in
theorem freshetref01_Frame_ok {fuel : Nat} {p0 : ByteArray} {q : ByteArray × Int} (h : freshetref01_Frame fuel p0 = some q) :
    Summ Try.prog 30 [.c (.d (.str p0))] [] (.tup [(false, [.d (.str q.1)]), (false, [.d (.int .i64 q.2)])]) [] := by
  refine Summ.intro Try.func30 rfl (by kernel_rfl) (by kernel_rfl) [] rfl ?_
  rintro ⟨P, w0, G0, V, LL, lk, N, φ0, fx⟩ rfl rfl rfl rfl
  unfold freshetref01_Frame at h
  refine Tri.seqS ?_
  refine Tri.reg ?_
  refine At.seg 2 [0] [] (s' := ⟨[(0, .c (.d (.str p0)))], []⟩) (c := True ∧ True ∧ True) (by kernel_rfl) ⟨trivial, trivial, trivial⟩ ?_
  refine At.done rfl ?_
  show Tri _ _ _ _
  refine Tri.seqS ?_
  refine Tri.seqS ?_
  refine Tri.reg ?_
  refine At.seg 3 [0, 6] [] (s' := ⟨[(0, .c (.d (.str p0))), (6, .c (.d (.bool (decide (65536 < (p0.size : Int))))))], []⟩) (c := True ∧ True ∧ True ∧ True) (by kernel_rfl) ⟨trivial, trivial, trivial, trivial⟩ ?_
  refine At.done rfl ?_
  show Tri _ _ _ _
  refine Tri.condP (b := (decide (65536 < (p0.size : Int)))) rfl h (fun h => ?_) (fun h => ?_)
  · refine Tri.seqS ?_
    refine Tri.reg ?_
    refine At.seg 2 [2, 3] [] (s' := ⟨[(2, .c (.d (.str (bs [])))), (3, .c (.d (.int .i64 2)))], []⟩) (c := True ∧ True ∧ True) (by kernel_rfl) ⟨trivial, trivial, trivial⟩ ?_
    refine At.done rfl ?_
    show Tri _ _ _ _
    refine Tri.keep [2, 3] [] (s' := ⟨[(2, .c (.d (.str (bs [])))), (3, .c (.d (.int .i64 2)))], []⟩) (by kernel_rfl) ?_
    refine Tri.ret ?_
    cases h
    refine ⟨_, _, rfl, ⟨trivial, ⟨trivial, trivial⟩⟩, rfl, rfl, ?_⟩
    intro k c h
    cases h
  · refine Tri.skip ?_
    show Tri _ _ _ _
    refine Tri.seqS ?_
    refine Tri.reg ?_
    refine At.seg 1 [0, 7] [] (s' := ⟨[(0, .c (.d (.str p0))), (7, .c (.d (.str p0)))], []⟩) (c := True ∧ True) (by kernel_rfl) ⟨trivial, trivial⟩ ?_
    obtain ⟨r1, hr1, h⟩ := bind_elim h
    refine At.callA (caps := []) (xs := [.c (.d (.str p0))]) (freshetref01_Text_ok hr1) rfl rfl rfl rfl rfl rfl (.cons (.refl _) .nil) rfl rfl ?_
    refine At.seg 1 [8, 9] [] (s' := ⟨[(8, .c (.d (.str r1))), (9, .c (.d (.str p0)))], []⟩) (c := True ∧ True) (by kernel_rfl) ⟨trivial, trivial⟩ ?_
    obtain ⟨r2, hr2, h⟩ := bind_elim h
    refine At.callA (caps := []) (xs := [.c (.d (.str p0))]) (freshetref01_Sum_ok hr2) rfl rfl rfl rfl rfl rfl (.cons (.refl _) .nil) rfl rfl ?_
    obtain ⟨r3, hr3, h⟩ := bind_elim h
    refine At.callA (caps := []) (xs := [.c (.d (.int .u32 r2))]) (freshetref01_four_ok hr3) rfl rfl rfl rfl rfl rfl (.cons (.refl _) .nil) rfl rfl ?_
    obtain ⟨hc4, h⟩ := need_elim h
    refine At.seg 3 [2, 3] [] (s' := ⟨[(2, .c (.d (.str (r1 ++ r3)))), (3, .c (.d (.int .i64 0)))], []⟩) (c := (((r1.size + r3.size : Nat) : Int) ≤ 9223372036854775807) ∧ True ∧ True ∧ True) (by kernel_rfl) ⟨hc4, trivial, trivial, trivial⟩ ?_
    refine At.done rfl ?_
    show Tri _ _ _ _
    refine Tri.keep [2, 3] [] (s' := ⟨[(2, .c (.d (.str (r1 ++ r3)))), (3, .c (.d (.int .i64 0)))], []⟩) (by kernel_rfl) ?_
    refine Tri.ret ?_
    cases h
    refine ⟨_, _, rfl, ⟨trivial, ⟨trivial, trivial⟩⟩, rfl, rfl, ?_⟩
    intro k c h
    cases h

set_option maxRecDepth 100000 in
theorem pack_TakeFrame_ok {p0 : ByteArray} {q : ByteArray × ByteArray × Int} (h : pack_TakeFrame p0 = some q) :
    Summ Try.prog 31 [.c (.d (.str p0))] [] (.tup [(false, [.d (.str q.1)]), (false, [.d (.str q.2.1)]), (false, [.d (.int .i64 q.2.2)])]) [] := by
  refine Summ.intro Try.func31 rfl (by kernel_rfl) (by kernel_rfl) [] rfl ?_
  rintro ⟨P, w0, G0, V, LL, lk, N, φ0, fx⟩ rfl rfl rfl rfl
  unfold pack_TakeFrame at h
  refine Tri.seqS ?_
  refine Tri.reg ?_
  refine At.seg 3 [0] [] (s' := ⟨[(0, .c (.d (.str p0)))], []⟩) (c := True ∧ True ∧ True ∧ True) (by kernel_rfl) ⟨trivial, trivial, trivial, trivial⟩ ?_
  refine At.done rfl ?_
  show Tri _ _ _ _
  refine Tri.seqS ?_
  refine Tri.reg ?_
  refine At.seg 1 [9] [] (s' := ⟨[(9, .c (.d (.str p0)))], []⟩) (c := True ∧ True) (by kernel_rfl) ⟨trivial, trivial⟩ ?_
  obtain ⟨r1, hr1, h⟩ := bind_elim h
  refine At.callA (caps := []) (xs := [.c (.d (.str p0))]) (pack_TakeText_ok hr1) rfl rfl rfl rfl rfl rfl (.cons (.refl _) .nil) rfl rfl ?_
  refine At.seg 7 [5, 6, 7] [] (s' := ⟨[(5, .c (.d (.str r1.1))), (6, .c (.d (.str r1.2.1))), (7, .c (.d (.int .i64 r1.2.2)))], []⟩) (c := True ∧ True ∧ True ∧ True ∧ True ∧ True ∧ True ∧ True) (by kernel_rfl) ⟨trivial, trivial, trivial, trivial, trivial, trivial, trivial, trivial⟩ ?_
  refine At.done rfl ?_
  show Tri _ _ _ _
  refine Tri.seqS ?_
  refine Tri.blockB ?_
  refine Tri.seqS ?_
  refine Tri.reg ?_
  refine At.seg 3 [5, 6, 7, 14] [] (s' := ⟨[(5, .c (.d (.str r1.1))), (6, .c (.d (.str r1.2.1))), (7, .c (.d (.int .i64 r1.2.2))), (14, .c (.d (.bool (!decide (r1.2.2 = 0)))))], []⟩) (c := True ∧ True ∧ True ∧ True) (by kernel_rfl) ⟨trivial, trivial, trivial, trivial⟩ ?_
  refine At.done rfl ?_
  show Tri _ _ _ _
  refine Tri.condP (b := (!decide (r1.2.2 = 0))) rfl h (fun h => ?_) (fun h => ?_)
  · refine Tri.seqS ?_
    refine Tri.reg ?_
    refine At.seg 4 [2, 3, 4] [] (s' := ⟨[(2, .c (.d (.str (bs [])))), (3, .c (.d (.str (bs [])))), (4, .c (.d (.int .i64 r1.2.2)))], []⟩) (c := True ∧ True ∧ True ∧ True ∧ True) (by kernel_rfl) ⟨trivial, trivial, trivial, trivial, trivial⟩ ?_
    refine At.done rfl ?_
    show Tri _ _ _ _
    refine Tri.keep [2, 3, 4] [] (s' := ⟨[(2, .c (.d (.str (bs [])))), (3, .c (.d (.str (bs [])))), (4, .c (.d (.int .i64 r1.2.2)))], []⟩) (by kernel_rfl) ?_
    refine Tri.ret ?_
    cases h
    refine ⟨_, _, rfl, ⟨trivial, ⟨trivial, ⟨trivial, trivial⟩⟩⟩, rfl, rfl, ?_⟩
    intro k c h
    cases h
  · refine Tri.seqS ?_
    refine Tri.reg ?_
    refine At.seg 4 [5, 6, 18] [] (s' := ⟨[(5, .c (.d (.str r1.1))), (6, .c (.d (.str r1.2.1))), (18, .c (.d (.bool (decide ((r1.2.1.size : Int) < 4)))))], []⟩) (c := True ∧ True ∧ True ∧ True ∧ True) (by kernel_rfl) ⟨trivial, trivial, trivial, trivial, trivial⟩ ?_
    refine At.done rfl ?_
    show Tri _ _ _ _
    refine Tri.condP (b := (decide ((r1.2.1.size : Int) < 4))) rfl h (fun h => ?_) (fun h => ?_)
    · refine Tri.seqS ?_
      refine Tri.reg ?_
      refine At.seg 3 [2, 3, 4] [] (s' := ⟨[(2, .c (.d (.str (bs [])))), (3, .c (.d (.str (bs [])))), (4, .c (.d (.int .i64 3)))], []⟩) (c := True ∧ True ∧ True ∧ True) (by kernel_rfl) ⟨trivial, trivial, trivial, trivial⟩ ?_
      refine At.done rfl ?_
      show Tri _ _ _ _
      refine Tri.keep [2, 3, 4] [] (s' := ⟨[(2, .c (.d (.str (bs [])))), (3, .c (.d (.str (bs [])))), (4, .c (.d (.int .i64 3)))], []⟩) (by kernel_rfl) ?_
      refine Tri.ret ?_
      cases h
      refine ⟨_, _, rfl, ⟨trivial, ⟨trivial, ⟨trivial, trivial⟩⟩⟩, rfl, rfl, ?_⟩
      intro k c h
      cases h
    · refine Tri.seqS ?_
      obtain ⟨hc2, h⟩ := need_elim h
      obtain ⟨r3, hr3, h⟩ := bind_elim h
      refine Tri.drawn (specs := [⟨⟨[(6, .c (.d (.str r1.2.1)))], []⟩, ⟨[(23, .c (.d (.str r1.2.1)))], []⟩, [], [], []⟩, ⟨⟨[(23, .c (.d (.str r1.2.1)))], []⟩, ⟨[(24, .c (.d (.str (r1.2.1.extract 0 4))))], []⟩, [], [], []⟩, ⟨⟨[(5, .c (.d (.str r1.1)))], []⟩, ⟨[(25, .c (.d (.str r1.1)))], []⟩, [], [], []⟩, ⟨⟨[(25, .c (.d (.str r1.1)))], []⟩, ⟨[(26, .c (.d (.str r3)))], []⟩, [], [], []⟩, ⟨⟨[(24, .c (.d (.str (r1.2.1.extract 0 4)))), (26, .c (.d (.str r3)))], []⟩, ⟨[(27, .c (.d (.bool (!strEq (r1.2.1.extract 0 4) r3))))], []⟩, [], [], []⟩, ⟨⟨[(27, .c (.d (.bool (!strEq (r1.2.1.extract 0 4) r3))))], []⟩, ⟨[(22, .c (.d (.bool (!strEq (r1.2.1.extract 0 4) r3))))], []⟩, [], [], []⟩]) (bef := [[], [0], [], [2], [0, 1, 2, 3], [0, 1, 2, 3, 4]]) (tk := [5, 6, 22]) (sk := []) (s' := ⟨[(5, .c (.d (.str r1.1))), (6, .c (.d (.str r1.2.1))), (22, .c (.d (.bool (!strEq (r1.2.1.extract 0 4) r3))))], []⟩) (by kernel_rfl) (by kernel_rfl) (by kernel_rfl) ⟨?_, ?_, ?_, ?_, ?_, ?_, trivial⟩ (by kernel_rfl) ?_
      · exact DOk.step (.val (.c (.d (.str r1.2.1))) (True)) (fun r => by kernel_rfl) (fun r => by kernel_rfl) trivial (by kernel_rfl) (by kernel_rfl) (fun r => rfl)
      · exact DOk.step (.val (.c (.d (.str (r1.2.1.extract 0 4)))) ((0 : Int) ≤ 0 ∧ (0 : Int) ≤ 4 ∧ (4 : Int) ≤ (r1.2.1.size : Int))) (fun r => by kernel_rfl) (fun r => by kernel_rfl) hc2 (by kernel_rfl) (by kernel_rfl) (fun r => rfl)
      · exact DOk.step (.val (.c (.d (.str r1.1))) (True)) (fun r => by kernel_rfl) (fun r => by kernel_rfl) trivial (by kernel_rfl) (by kernel_rfl) (fun r => rfl)
      · exact DOk.callA (caps := []) (xs := [.c (.d (.str r1.1))]) (pack_closing_ok hr3) rfl (fun r => by kernel_rfl) rfl (fun r => by kernel_rfl) (fun r => by kernel_rfl) (fun r => (.cons (.refl _) .nil)) rfl rfl (fun r => rfl)
      · exact DOk.step (.val (.c (.d (.bool (!strEq (r1.2.1.extract 0 4) r3)))) (True)) (fun r => by kernel_rfl) (fun r => by kernel_rfl) trivial (by kernel_rfl) (by kernel_rfl) (fun r => rfl)
      · exact DOk.step (.val (.c (.d (.bool (!strEq (r1.2.1.extract 0 4) r3)))) (True)) (fun r => by kernel_rfl) (fun r => by kernel_rfl) trivial (by kernel_rfl) (by kernel_rfl) (fun r => rfl)
      show Tri _ _ _ _
      refine Tri.condP (b := (!strEq (r1.2.1.extract 0 4) r3)) rfl h (fun h => ?_) (fun h => ?_)
      · refine Tri.seqS ?_
        refine Tri.reg ?_
        refine At.seg 3 [2, 3, 4] [] (s' := ⟨[(2, .c (.d (.str (bs [])))), (3, .c (.d (.str (bs [])))), (4, .c (.d (.int .i64 4)))], []⟩) (c := True ∧ True ∧ True ∧ True) (by kernel_rfl) ⟨trivial, trivial, trivial, trivial⟩ ?_
        refine At.done rfl ?_
        show Tri _ _ _ _
        refine Tri.keep [2, 3, 4] [] (s' := ⟨[(2, .c (.d (.str (bs [])))), (3, .c (.d (.str (bs [])))), (4, .c (.d (.int .i64 4)))], []⟩) (by kernel_rfl) ?_
        refine Tri.ret ?_
        cases h
        refine ⟨_, _, rfl, ⟨trivial, ⟨trivial, ⟨trivial, trivial⟩⟩⟩, rfl, rfl, ?_⟩
        intro k c h
        cases h
      · refine Tri.skip ?_
        show Tri _ _ _ _
        refine Tri.seqS ?_
        obtain ⟨hc4, h⟩ := need_elim h
        refine Tri.drawn (specs := [⟨⟨[(5, .c (.d (.str r1.1)))], []⟩, ⟨[(28, .c (.d (.str r1.1)))], []⟩, [], [], []⟩, ⟨⟨[(6, .c (.d (.str r1.2.1)))], []⟩, ⟨[(29, .c (.d (.str r1.2.1)))], []⟩, [], [], []⟩, ⟨⟨[(29, .c (.d (.str r1.2.1)))], []⟩, ⟨[(30, .c (.d (.str (r1.2.1.extract 4 r1.2.1.size))))], []⟩, [], [], []⟩, ⟨⟨[(28, .c (.d (.str r1.1)))], []⟩, ⟨[(2, .c (.d (.str r1.1)))], []⟩, [], [], []⟩, ⟨⟨[(30, .c (.d (.str (r1.2.1.extract 4 r1.2.1.size))))], []⟩, ⟨[(3, .c (.d (.str (r1.2.1.extract 4 r1.2.1.size))))], []⟩, [], [], []⟩, ⟨⟨[], []⟩, ⟨[(4, .c (.d (.int .i64 0)))], []⟩, [], [], []⟩]) (bef := [[], [], [1], [0], [0, 1, 2, 3], [0, 1, 2, 3, 4]]) (tk := [2, 3, 4]) (sk := []) (s' := ⟨[(2, .c (.d (.str r1.1))), (3, .c (.d (.str (r1.2.1.extract 4 r1.2.1.size)))), (4, .c (.d (.int .i64 0)))], []⟩) (by kernel_rfl) (by kernel_rfl) (by kernel_rfl) ⟨?_, ?_, ?_, ?_, ?_, ?_, trivial⟩ (by kernel_rfl) ?_
        · exact DOk.step (.val (.c (.d (.str r1.1))) (True)) (fun r => by kernel_rfl) (fun r => by kernel_rfl) trivial (by kernel_rfl) (by kernel_rfl) (fun r => rfl)
        · exact DOk.step (.val (.c (.d (.str r1.2.1))) (True)) (fun r => by kernel_rfl) (fun r => by kernel_rfl) trivial (by kernel_rfl) (by kernel_rfl) (fun r => rfl)
        · exact DOk.step (.val (.c (.d (.str (r1.2.1.extract 4 r1.2.1.size)))) ((0 : Int) ≤ 4 ∧ (4 : Int) ≤ (r1.2.1.size : Int) ∧ (r1.2.1.size : Int) ≤ (r1.2.1.size : Int))) (fun r => by kernel_rfl) (fun r => by kernel_rfl) hc4 (by kernel_rfl) (by kernel_rfl) (fun r => rfl)
        · exact DOk.step (.val (.c (.d (.str r1.1))) (True)) (fun r => by kernel_rfl) (fun r => by kernel_rfl) trivial (by kernel_rfl) (by kernel_rfl) (fun r => rfl)
        · exact DOk.step (.val (.c (.d (.str (r1.2.1.extract 4 r1.2.1.size)))) (True)) (fun r => by kernel_rfl) (fun r => by kernel_rfl) trivial (by kernel_rfl) (by kernel_rfl) (fun r => rfl)
        · exact DOk.step (.val (.c (.d (.int .i64 0))) (True)) (fun r => by kernel_rfl) (fun r => by kernel_rfl) trivial (by kernel_rfl) (by kernel_rfl) (fun r => rfl)
        show Tri _ _ _ _
        refine Tri.keep [2, 3, 4] [] (s' := ⟨[(2, .c (.d (.str r1.1))), (3, .c (.d (.str (r1.2.1.extract 4 r1.2.1.size)))), (4, .c (.d (.int .i64 0)))], []⟩) (by kernel_rfl) ?_
        refine Tri.ret ?_
        cases h
        refine ⟨_, _, rfl, ⟨trivial, ⟨trivial, ⟨trivial, trivial⟩⟩⟩, rfl, rfl, ?_⟩
        intro k c h
        cases h

set_option maxRecDepth 100000 in
theorem freshetref01_TakeFrame_ok {fuel : Nat} {p0 : ByteArray} {q : ByteArray × ByteArray × Int} (h : freshetref01_TakeFrame fuel p0 = some q) :
    Summ Try.prog 32 [.c (.d (.str p0))] [] (.tup [(false, [.d (.str q.1)]), (false, [.d (.str q.2.1)]), (false, [.d (.int .i64 q.2.2)])]) [] := by
  refine Summ.intro Try.func32 rfl (by kernel_rfl) (by kernel_rfl) [] rfl ?_
  rintro ⟨P, w0, G0, V, LL, lk, N, φ0, fx⟩ rfl rfl rfl rfl
  unfold freshetref01_TakeFrame at h
  refine Tri.seqS ?_
  refine Tri.reg ?_
  refine At.seg 3 [0] [] (s' := ⟨[(0, .c (.d (.str p0)))], []⟩) (c := True ∧ True ∧ True ∧ True) (by kernel_rfl) ⟨trivial, trivial, trivial, trivial⟩ ?_
  refine At.done rfl ?_
  show Tri _ _ _ _
  refine Tri.seqS ?_
  refine Tri.reg ?_
  refine At.seg 1 [9] [] (s' := ⟨[(9, .c (.d (.str p0)))], []⟩) (c := True ∧ True) (by kernel_rfl) ⟨trivial, trivial⟩ ?_
  obtain ⟨r1, hr1, h⟩ := bind_elim h
  refine At.callA (caps := []) (xs := [.c (.d (.str p0))]) (freshetref01_TakeText_ok hr1) rfl rfl rfl rfl rfl rfl (.cons (.refl _) .nil) rfl rfl ?_
  refine At.seg 7 [5, 6, 7] [] (s' := ⟨[(5, .c (.d (.str r1.1))), (6, .c (.d (.str r1.2.1))), (7, .c (.d (.int .i64 r1.2.2)))], []⟩) (c := True ∧ True ∧ True ∧ True ∧ True ∧ True ∧ True ∧ True) (by kernel_rfl) ⟨trivial, trivial, trivial, trivial, trivial, trivial, trivial, trivial⟩ ?_
  refine At.done rfl ?_
  show Tri _ _ _ _
  refine Tri.seqS ?_
  refine Tri.blockB ?_
  refine Tri.seqS ?_
  refine Tri.reg ?_
  refine At.seg 3 [5, 6, 7, 14] [] (s' := ⟨[(5, .c (.d (.str r1.1))), (6, .c (.d (.str r1.2.1))), (7, .c (.d (.int .i64 r1.2.2))), (14, .c (.d (.bool (!decide (r1.2.2 = 0)))))], []⟩) (c := True ∧ True ∧ True ∧ True) (by kernel_rfl) ⟨trivial, trivial, trivial, trivial⟩ ?_
  refine At.done rfl ?_
  show Tri _ _ _ _
  refine Tri.condP (b := (!decide (r1.2.2 = 0))) rfl h (fun h => ?_) (fun h => ?_)
  · refine Tri.seqS ?_
    refine Tri.reg ?_
    refine At.seg 4 [2, 3, 4] [] (s' := ⟨[(2, .c (.d (.str (bs [])))), (3, .c (.d (.str (bs [])))), (4, .c (.d (.int .i64 r1.2.2)))], []⟩) (c := True ∧ True ∧ True ∧ True ∧ True) (by kernel_rfl) ⟨trivial, trivial, trivial, trivial, trivial⟩ ?_
    refine At.done rfl ?_
    show Tri _ _ _ _
    refine Tri.keep [2, 3, 4] [] (s' := ⟨[(2, .c (.d (.str (bs [])))), (3, .c (.d (.str (bs [])))), (4, .c (.d (.int .i64 r1.2.2)))], []⟩) (by kernel_rfl) ?_
    refine Tri.ret ?_
    cases h
    refine ⟨_, _, rfl, ⟨trivial, ⟨trivial, ⟨trivial, trivial⟩⟩⟩, rfl, rfl, ?_⟩
    intro k c h
    cases h
  · refine Tri.seqS ?_
    refine Tri.reg ?_
    refine At.seg 4 [5, 6, 18] [] (s' := ⟨[(5, .c (.d (.str r1.1))), (6, .c (.d (.str r1.2.1))), (18, .c (.d (.bool (decide ((r1.2.1.size : Int) < 4)))))], []⟩) (c := True ∧ True ∧ True ∧ True ∧ True) (by kernel_rfl) ⟨trivial, trivial, trivial, trivial, trivial⟩ ?_
    refine At.done rfl ?_
    show Tri _ _ _ _
    refine Tri.condP (b := (decide ((r1.2.1.size : Int) < 4))) rfl h (fun h => ?_) (fun h => ?_)
    · refine Tri.seqS ?_
      refine Tri.reg ?_
      refine At.seg 3 [2, 3, 4] [] (s' := ⟨[(2, .c (.d (.str (bs [])))), (3, .c (.d (.str (bs [])))), (4, .c (.d (.int .i64 3)))], []⟩) (c := True ∧ True ∧ True ∧ True) (by kernel_rfl) ⟨trivial, trivial, trivial, trivial⟩ ?_
      refine At.done rfl ?_
      show Tri _ _ _ _
      refine Tri.keep [2, 3, 4] [] (s' := ⟨[(2, .c (.d (.str (bs [])))), (3, .c (.d (.str (bs [])))), (4, .c (.d (.int .i64 3)))], []⟩) (by kernel_rfl) ?_
      refine Tri.ret ?_
      cases h
      refine ⟨_, _, rfl, ⟨trivial, ⟨trivial, ⟨trivial, trivial⟩⟩⟩, rfl, rfl, ?_⟩
      intro k c h
      cases h
    · refine Tri.seqS ?_
      obtain ⟨hc2, h⟩ := need_elim h
      obtain ⟨r3, hr3, h⟩ := bind_elim h
      obtain ⟨r4, hr4, h⟩ := bind_elim h
      refine Tri.drawn (specs := [⟨⟨[(6, .c (.d (.str r1.2.1)))], []⟩, ⟨[(23, .c (.d (.str r1.2.1)))], []⟩, [], [], []⟩, ⟨⟨[(23, .c (.d (.str r1.2.1)))], []⟩, ⟨[(24, .c (.d (.str (r1.2.1.extract 0 4))))], []⟩, [], [], []⟩, ⟨⟨[(5, .c (.d (.str r1.1)))], []⟩, ⟨[(25, .c (.d (.str r1.1)))], []⟩, [], [], []⟩, ⟨⟨[(25, .c (.d (.str r1.1)))], []⟩, ⟨[(26, .c (.d (.int .u32 r3)))], []⟩, [], [], []⟩, ⟨⟨[(26, .c (.d (.int .u32 r3)))], []⟩, ⟨[(27, .c (.d (.str r4)))], []⟩, [], [], []⟩, ⟨⟨[(24, .c (.d (.str (r1.2.1.extract 0 4)))), (27, .c (.d (.str r4)))], []⟩, ⟨[(28, .c (.d (.bool (!strEq (r1.2.1.extract 0 4) r4))))], []⟩, [], [], []⟩, ⟨⟨[(28, .c (.d (.bool (!strEq (r1.2.1.extract 0 4) r4))))], []⟩, ⟨[(22, .c (.d (.bool (!strEq (r1.2.1.extract 0 4) r4))))], []⟩, [], [], []⟩]) (bef := [[], [0], [], [2], [2, 3], [0, 1, 2, 3, 4], [0, 1, 2, 3, 4, 5]]) (tk := [5, 6, 22]) (sk := []) (s' := ⟨[(5, .c (.d (.str r1.1))), (6, .c (.d (.str r1.2.1))), (22, .c (.d (.bool (!strEq (r1.2.1.extract 0 4) r4))))], []⟩) (by kernel_rfl) (by kernel_rfl) (by kernel_rfl) ⟨?_, ?_, ?_, ?_, ?_, ?_, ?_, trivial⟩ (by kernel_rfl) ?_
      · exact DOk.step (.val (.c (.d (.str r1.2.1))) (True)) (fun r => by kernel_rfl) (fun r => by kernel_rfl) trivial (by kernel_rfl) (by kernel_rfl) (fun r => rfl)
      · exact DOk.step (.val (.c (.d (.str (r1.2.1.extract 0 4)))) ((0 : Int) ≤ 0 ∧ (0 : Int) ≤ 4 ∧ (4 : Int) ≤ (r1.2.1.size : Int))) (fun r => by kernel_rfl) (fun r => by kernel_rfl) hc2 (by kernel_rfl) (by kernel_rfl) (fun r => rfl)
      · exact DOk.step (.val (.c (.d (.str r1.1))) (True)) (fun r => by kernel_rfl) (fun r => by kernel_rfl) trivial (by kernel_rfl) (by kernel_rfl) (fun r => rfl)
      · exact DOk.callA (caps := []) (xs := [.c (.d (.str r1.1))]) (freshetref01_Sum_ok hr3) rfl (fun r => by kernel_rfl) rfl (fun r => by kernel_rfl) (fun r => by kernel_rfl) (fun r => (.cons (.refl _) .nil)) rfl rfl (fun r => rfl)
      · exact DOk.callA (caps := []) (xs := [.c (.d (.int .u32 r3))]) (freshetref01_four_ok hr4) rfl (fun r => by kernel_rfl) rfl (fun r => by kernel_rfl) (fun r => by kernel_rfl) (fun r => (.cons (.refl _) .nil)) rfl rfl (fun r => rfl)
      · exact DOk.step (.val (.c (.d (.bool (!strEq (r1.2.1.extract 0 4) r4)))) (True)) (fun r => by kernel_rfl) (fun r => by kernel_rfl) trivial (by kernel_rfl) (by kernel_rfl) (fun r => rfl)
      · exact DOk.step (.val (.c (.d (.bool (!strEq (r1.2.1.extract 0 4) r4)))) (True)) (fun r => by kernel_rfl) (fun r => by kernel_rfl) trivial (by kernel_rfl) (by kernel_rfl) (fun r => rfl)
      show Tri _ _ _ _
      refine Tri.condP (b := (!strEq (r1.2.1.extract 0 4) r4)) rfl h (fun h => ?_) (fun h => ?_)
      · refine Tri.seqS ?_
        refine Tri.reg ?_
        refine At.seg 3 [2, 3, 4] [] (s' := ⟨[(2, .c (.d (.str (bs [])))), (3, .c (.d (.str (bs [])))), (4, .c (.d (.int .i64 4)))], []⟩) (c := True ∧ True ∧ True ∧ True) (by kernel_rfl) ⟨trivial, trivial, trivial, trivial⟩ ?_
        refine At.done rfl ?_
        show Tri _ _ _ _
        refine Tri.keep [2, 3, 4] [] (s' := ⟨[(2, .c (.d (.str (bs [])))), (3, .c (.d (.str (bs [])))), (4, .c (.d (.int .i64 4)))], []⟩) (by kernel_rfl) ?_
        refine Tri.ret ?_
        cases h
        refine ⟨_, _, rfl, ⟨trivial, ⟨trivial, ⟨trivial, trivial⟩⟩⟩, rfl, rfl, ?_⟩
        intro k c h
        cases h
      · refine Tri.skip ?_
        show Tri _ _ _ _
        refine Tri.seqS ?_
        obtain ⟨hc5, h⟩ := need_elim h
        refine Tri.drawn (specs := [⟨⟨[(5, .c (.d (.str r1.1)))], []⟩, ⟨[(29, .c (.d (.str r1.1)))], []⟩, [], [], []⟩, ⟨⟨[(6, .c (.d (.str r1.2.1)))], []⟩, ⟨[(30, .c (.d (.str r1.2.1)))], []⟩, [], [], []⟩, ⟨⟨[(30, .c (.d (.str r1.2.1)))], []⟩, ⟨[(31, .c (.d (.str (r1.2.1.extract 4 r1.2.1.size))))], []⟩, [], [], []⟩, ⟨⟨[(29, .c (.d (.str r1.1)))], []⟩, ⟨[(2, .c (.d (.str r1.1)))], []⟩, [], [], []⟩, ⟨⟨[(31, .c (.d (.str (r1.2.1.extract 4 r1.2.1.size))))], []⟩, ⟨[(3, .c (.d (.str (r1.2.1.extract 4 r1.2.1.size))))], []⟩, [], [], []⟩, ⟨⟨[], []⟩, ⟨[(4, .c (.d (.int .i64 0)))], []⟩, [], [], []⟩]) (bef := [[], [], [1], [0], [0, 1, 2, 3], [0, 1, 2, 3, 4]]) (tk := [2, 3, 4]) (sk := []) (s' := ⟨[(2, .c (.d (.str r1.1))), (3, .c (.d (.str (r1.2.1.extract 4 r1.2.1.size)))), (4, .c (.d (.int .i64 0)))], []⟩) (by kernel_rfl) (by kernel_rfl) (by kernel_rfl) ⟨?_, ?_, ?_, ?_, ?_, ?_, trivial⟩ (by kernel_rfl) ?_
        · exact DOk.step (.val (.c (.d (.str r1.1))) (True)) (fun r => by kernel_rfl) (fun r => by kernel_rfl) trivial (by kernel_rfl) (by kernel_rfl) (fun r => rfl)
        · exact DOk.step (.val (.c (.d (.str r1.2.1))) (True)) (fun r => by kernel_rfl) (fun r => by kernel_rfl) trivial (by kernel_rfl) (by kernel_rfl) (fun r => rfl)
        · exact DOk.step (.val (.c (.d (.str (r1.2.1.extract 4 r1.2.1.size)))) ((0 : Int) ≤ 4 ∧ (4 : Int) ≤ (r1.2.1.size : Int) ∧ (r1.2.1.size : Int) ≤ (r1.2.1.size : Int))) (fun r => by kernel_rfl) (fun r => by kernel_rfl) hc5 (by kernel_rfl) (by kernel_rfl) (fun r => rfl)
        · exact DOk.step (.val (.c (.d (.str r1.1))) (True)) (fun r => by kernel_rfl) (fun r => by kernel_rfl) trivial (by kernel_rfl) (by kernel_rfl) (fun r => rfl)
        · exact DOk.step (.val (.c (.d (.str (r1.2.1.extract 4 r1.2.1.size)))) (True)) (fun r => by kernel_rfl) (fun r => by kernel_rfl) trivial (by kernel_rfl) (by kernel_rfl) (fun r => rfl)
        · exact DOk.step (.val (.c (.d (.int .i64 0))) (True)) (fun r => by kernel_rfl) (fun r => by kernel_rfl) trivial (by kernel_rfl) (by kernel_rfl) (fun r => rfl)
        show Tri _ _ _ _
        refine Tri.keep [2, 3, 4] [] (s' := ⟨[(2, .c (.d (.str r1.1))), (3, .c (.d (.str (r1.2.1.extract 4 r1.2.1.size)))), (4, .c (.d (.int .i64 0)))], []⟩) (by kernel_rfl) ?_
        refine Tri.ret ?_
        cases h
        refine ⟨_, _, rfl, ⟨trivial, ⟨trivial, ⟨trivial, trivial⟩⟩⟩, rfl, rfl, ?_⟩
        intro k c h
        cases h

set_option maxRecDepth 100000 in
theorem freshetlaw01_frames_ok  {q : Bool} (h : freshetlaw01_frames = some q) :
    Summ Try.prog 33 [] [] (.c (.d (.bool q))) [] := by
  refine Summ.intro Try.func33 rfl (by kernel_rfl) (by kernel_rfl) [] rfl ?_
  rintro ⟨P, w0, G0, V, LL, lk, N, φ0, fx⟩ rfl rfl rfl rfl
  unfold freshetlaw01_frames at h
  refine Tri.seqS ?_
  refine Tri.reg ?_
  refine At.seg 1 [] [] (s' := ⟨[], []⟩) (c := True ∧ True) (by kernel_rfl) ⟨trivial, trivial⟩ ?_
  refine At.done rfl ?_
  show Tri _ _ _ _
  refine Tri.seqS ?_
  refine Tri.reg ?_
  obtain ⟨r1, hr1, h⟩ := bind_elim h
  refine At.callA (caps := []) (xs := [.c (.d (.str (bs [97])))]) (pack_Frame_ok hr1) rfl rfl rfl rfl rfl rfl (.cons (.refl _) .nil) rfl rfl ?_
  refine At.seg 5 [1, 2] [] (s' := ⟨[(1, .c (.d (.str r1.1))), (2, .c (.d (.int .i64 r1.2)))], []⟩) (c := True ∧ True ∧ True ∧ True ∧ True ∧ True) (by kernel_rfl) ⟨trivial, trivial, trivial, trivial, trivial, trivial⟩ ?_
  refine At.done rfl ?_
  show Tri _ _ _ _
  refine Tri.seqS ?_
  refine Tri.reg ?_
  obtain ⟨hc2, h⟩ := need_elim h
  refine At.seg 2 [1, 2, 12] [] (s' := ⟨[(1, .c (.d (.str r1.1))), (2, .c (.d (.int .i64 r1.2))), (12, .c (.d (.str (r1.1 ++ (bs [98])))))], []⟩) (c := True ∧ (((r1.1.size + (bs [98]).size : Nat) : Int) ≤ 9223372036854775807) ∧ True) (by kernel_rfl) ⟨trivial, hc2, trivial⟩ ?_
  obtain ⟨r3, hr3, h⟩ := bind_elim h
  refine At.callA (caps := []) (xs := [.c (.d (.str (r1.1 ++ (bs [98]))))]) (pack_TakeFrame_ok hr3) rfl rfl rfl rfl rfl rfl (.cons (.refl _) .nil) rfl rfl ?_
  refine At.seg 7 [1, 2, 3, 4, 5] [] (s' := ⟨[(1, .c (.d (.str r1.1))), (2, .c (.d (.int .i64 r1.2))), (3, .c (.d (.str r3.1))), (4, .c (.d (.str r3.2.1))), (5, .c (.d (.int .i64 r3.2.2)))], []⟩) (c := True ∧ True ∧ True ∧ True ∧ True ∧ True ∧ True ∧ True) (by kernel_rfl) ⟨trivial, trivial, trivial, trivial, trivial, trivial, trivial, trivial⟩ ?_
  refine At.done rfl ?_
  show Tri _ _ _ _
  refine Tri.seqJ (fun (a4 : Bool) => ⟨[(0, .c (.d (.bool a4)))], []⟩) h (fun a4 h => ?_) (fun j5 h => ?_)
  · show Tri _ _ ⟨[(0, .c (.d (.bool a4)))], []⟩ _
    refine Tri.keep [0] [] (s' := ⟨[(0, .c (.d (.bool a4)))], []⟩) (by kernel_rfl) ?_
    refine Tri.ret ?_
    cases h
    refine ⟨_, _, rfl, ⟨trivial, trivial⟩, rfl, rfl, ?_⟩
    intro k c h
    cases h
  · refine Tri.reg ?_
    refine At.seg 4 [2, 3, 4, 5, 20] [] (s' := ⟨[(2, .c (.d (.int .i64 r1.2))), (3, .c (.d (.str r3.1))), (4, .c (.d (.str r3.2.1))), (5, .c (.d (.int .i64 r3.2.2))), (20, .c (.d (.bool (decide ((r1.1.size : Int) = 6)))))], []⟩) (c := True ∧ True ∧ True ∧ True ∧ True) (by kernel_rfl) ⟨trivial, trivial, trivial, trivial, trivial⟩ ?_
    refine At.case (fun b => ⟨[(2, .c (.d (.int .i64 r1.2))), (3, .c (.d (.str r3.1))), (4, .c (.d (.str r3.2.1))), (5, .c (.d (.int .i64 r3.2.2))), (20, .c (.d (.bool b)))], []⟩) (b := (decide ((r1.1.size : Int) = 6))) h (fun h => ?_) (fun h => ?_)
    · refine At.seg 4 [3, 4, 5, 24] [] (s' := ⟨[(3, .c (.d (.str r3.1))), (4, .c (.d (.str r3.2.1))), (5, .c (.d (.int .i64 r3.2.2))), (24, .c (.d (.bool (decide (r1.2 = 0)))))], []⟩) (c := True ∧ True ∧ True ∧ True ∧ True) (by kernel_rfl) ⟨trivial, trivial, trivial, trivial, trivial⟩ ?_
      refine At.case (fun b => ⟨[(3, .c (.d (.str r3.1))), (4, .c (.d (.str r3.2.1))), (5, .c (.d (.int .i64 r3.2.2))), (24, .c (.d (.bool b)))], []⟩) (b := (decide (r1.2 = 0))) h (fun h => ?_) (fun h => ?_)
      · refine At.seg 4 [4, 5, 28] [] (s' := ⟨[(4, .c (.d (.str r3.2.1))), (5, .c (.d (.int .i64 r3.2.2))), (28, .c (.d (.bool (strEq r3.1 (bs [97])))))], []⟩) (c := True ∧ True ∧ True ∧ True ∧ True) (by kernel_rfl) ⟨trivial, trivial, trivial, trivial, trivial⟩ ?_
        refine At.case (fun b => ⟨[(4, .c (.d (.str r3.2.1))), (5, .c (.d (.int .i64 r3.2.2))), (28, .c (.d (.bool b)))], []⟩) (b := (strEq r3.1 (bs [97]))) h (fun h => ?_) (fun h => ?_)
        · refine At.seg 4 [5, 32] [] (s' := ⟨[(5, .c (.d (.int .i64 r3.2.2))), (32, .c (.d (.bool (strEq r3.2.1 (bs [98])))))], []⟩) (c := True ∧ True ∧ True ∧ True ∧ True) (by kernel_rfl) ⟨trivial, trivial, trivial, trivial, trivial⟩ ?_
          refine At.case (fun b => ⟨[(5, .c (.d (.int .i64 r3.2.2))), (32, .c (.d (.bool b)))], []⟩) (b := (strEq r3.2.1 (bs [98]))) h (fun h => ?_) (fun h => ?_)
          · refine At.seg 4 [0] [] (s' := ⟨[(0, .c (.d (.bool (decide (r3.2.2 = 0)))))], []⟩) (c := True ∧ True ∧ True ∧ True ∧ True) (by kernel_rfl) ⟨trivial, trivial, trivial, trivial, trivial⟩ ?_
            refine At.done rfl ?_
            exact ⟨_, h, rfl⟩
          · refine At.seg 4 [0] [] (s' := ⟨[(0, .c (.d (.bool false)))], []⟩) (c := True ∧ True ∧ True) (by kernel_rfl) ⟨trivial, trivial, trivial⟩ ?_
            refine At.done rfl ?_
            exact ⟨_, h, rfl⟩
        · refine At.seg 8 [0] [] (s' := ⟨[(0, .c (.d (.bool false)))], []⟩) (c := True ∧ True ∧ True ∧ True ∧ True) (by kernel_rfl) ⟨trivial, trivial, trivial, trivial, trivial⟩ ?_
          refine At.done rfl ?_
          exact ⟨_, h, rfl⟩
      · refine At.seg 12 [0] [] (s' := ⟨[(0, .c (.d (.bool false)))], []⟩) (c := True ∧ True ∧ True ∧ True ∧ True ∧ True ∧ True) (by kernel_rfl) ⟨trivial, trivial, trivial, trivial, trivial, trivial, trivial⟩ ?_
        refine At.done rfl ?_
        exact ⟨_, h, rfl⟩
    · refine At.seg 16 [0] [] (s' := ⟨[(0, .c (.d (.bool false)))], []⟩) (c := True ∧ True ∧ True ∧ True ∧ True ∧ True ∧ True ∧ True ∧ True) (by kernel_rfl) ⟨trivial, trivial, trivial, trivial, trivial, trivial, trivial, trivial, trivial⟩ ?_
      refine At.done rfl ?_
      exact ⟨_, h, rfl⟩

set_option maxRecDepth 100000 in
theorem freshetlaw01_PackFrames_ok {fuel : Nat} {p0 : ByteArray} {p1 : ByteArray} {q : Bool} (h : freshetlaw01_PackFrames fuel p0 p1 = some q) :
    Summ Try.prog 8 [.c (.d (.str p0)), .c (.d (.str p1))] [] (.c (.d (.bool q))) [] := by
  refine Summ.intro Try.func8 rfl (by kernel_rfl) (by kernel_rfl) [] rfl ?_
  rintro ⟨P, w0, G0, V, LL, lk, N, φ0, fx⟩ rfl rfl rfl rfl
  unfold freshetlaw01_PackFrames at h
  refine Tri.seqS ?_
  refine Tri.reg ?_
  refine At.seg 1 [0, 1] [] (s' := ⟨[(0, .c (.d (.str p0))), (1, .c (.d (.str p1)))], []⟩) (c := True ∧ True) (by kernel_rfl) ⟨trivial, trivial⟩ ?_
  refine At.done rfl ?_
  show Tri _ _ _ _
  refine Tri.seqS ?_
  refine Tri.reg ?_
  refine At.seg 1 [0, 1, 16] [] (s' := ⟨[(0, .c (.d (.str p0))), (1, .c (.d (.str p1))), (16, .c (.d (.str p0)))], []⟩) (c := True ∧ True) (by kernel_rfl) ⟨trivial, trivial⟩ ?_
  obtain ⟨r1, hr1, h⟩ := bind_elim h
  refine At.callA (caps := []) (xs := [.c (.d (.str p0))]) (pack_Frame_ok hr1) rfl rfl rfl rfl rfl rfl (.cons (.refl _) .nil) rfl rfl ?_
  refine At.seg 5 [0, 1, 5, 6] [] (s' := ⟨[(0, .c (.d (.str p0))), (1, .c (.d (.str p1))), (5, .c (.d (.str r1.1))), (6, .c (.d (.int .i64 r1.2)))], []⟩) (c := True ∧ True ∧ True ∧ True ∧ True ∧ True) (by kernel_rfl) ⟨trivial, trivial, trivial, trivial, trivial, trivial⟩ ?_
  refine At.done rfl ?_
  show Tri _ _ _ _
  refine Tri.seqS ?_
  refine Tri.reg ?_
  refine At.seg 1 [1, 5, 6, 21] [] (s' := ⟨[(1, .c (.d (.str p1))), (5, .c (.d (.str r1.1))), (6, .c (.d (.int .i64 r1.2))), (21, .c (.d (.str p0)))], []⟩) (c := True ∧ True) (by kernel_rfl) ⟨trivial, trivial⟩ ?_
  obtain ⟨r2, hr2, h⟩ := bind_elim h
  refine At.callA (caps := []) (xs := [.c (.d (.str p0))]) (freshetref01_Frame_ok hr2) rfl rfl rfl rfl rfl rfl (.cons (.refl _) .nil) rfl rfl ?_
  refine At.seg 5 [1, 5, 6, 7, 8] [] (s' := ⟨[(1, .c (.d (.str p1))), (5, .c (.d (.str r1.1))), (6, .c (.d (.int .i64 r1.2))), (7, .c (.d (.str r2.1))), (8, .c (.d (.int .i64 r2.2)))], []⟩) (c := True ∧ True ∧ True ∧ True ∧ True ∧ True) (by kernel_rfl) ⟨trivial, trivial, trivial, trivial, trivial, trivial⟩ ?_
  refine At.done rfl ?_
  show Tri _ _ _ _
  refine Tri.seqS ?_
  refine Tri.reg ?_
  refine At.seg 1 [1, 5, 6, 7, 8, 26] [] (s' := ⟨[(1, .c (.d (.str p1))), (5, .c (.d (.str r1.1))), (6, .c (.d (.int .i64 r1.2))), (7, .c (.d (.str r2.1))), (8, .c (.d (.int .i64 r2.2))), (26, .c (.d (.str p1)))], []⟩) (c := True ∧ True) (by kernel_rfl) ⟨trivial, trivial⟩ ?_
  obtain ⟨r3, hr3, h⟩ := bind_elim h
  refine At.callA (caps := []) (xs := [.c (.d (.str p1))]) (pack_TakeFrame_ok hr3) rfl rfl rfl rfl rfl rfl (.cons (.refl _) .nil) rfl rfl ?_
  refine At.seg 7 [1, 5, 6, 7, 8, 9, 10, 11] [] (s' := ⟨[(1, .c (.d (.str p1))), (5, .c (.d (.str r1.1))), (6, .c (.d (.int .i64 r1.2))), (7, .c (.d (.str r2.1))), (8, .c (.d (.int .i64 r2.2))), (9, .c (.d (.str r3.1))), (10, .c (.d (.str r3.2.1))), (11, .c (.d (.int .i64 r3.2.2)))], []⟩) (c := True ∧ True ∧ True ∧ True ∧ True ∧ True ∧ True ∧ True) (by kernel_rfl) ⟨trivial, trivial, trivial, trivial, trivial, trivial, trivial, trivial⟩ ?_
  refine At.done rfl ?_
  show Tri _ _ _ _
  refine Tri.seqS ?_
  refine Tri.reg ?_
  refine At.seg 1 [5, 6, 7, 8, 9, 10, 11, 32] [] (s' := ⟨[(5, .c (.d (.str r1.1))), (6, .c (.d (.int .i64 r1.2))), (7, .c (.d (.str r2.1))), (8, .c (.d (.int .i64 r2.2))), (9, .c (.d (.str r3.1))), (10, .c (.d (.str r3.2.1))), (11, .c (.d (.int .i64 r3.2.2))), (32, .c (.d (.str p1)))], []⟩) (c := True ∧ True) (by kernel_rfl) ⟨trivial, trivial⟩ ?_
  obtain ⟨r4, hr4, h⟩ := bind_elim h
  refine At.callA (caps := []) (xs := [.c (.d (.str p1))]) (freshetref01_TakeFrame_ok hr4) rfl rfl rfl rfl rfl rfl (.cons (.refl _) .nil) rfl rfl ?_
  refine At.seg 7 [5, 6, 7, 8, 9, 10, 11, 12, 13, 14] [] (s' := ⟨[(5, .c (.d (.str r1.1))), (6, .c (.d (.int .i64 r1.2))), (7, .c (.d (.str r2.1))), (8, .c (.d (.int .i64 r2.2))), (9, .c (.d (.str r3.1))), (10, .c (.d (.str r3.2.1))), (11, .c (.d (.int .i64 r3.2.2))), (12, .c (.d (.str r4.1))), (13, .c (.d (.str r4.2.1))), (14, .c (.d (.int .i64 r4.2.2)))], []⟩) (c := True ∧ True ∧ True ∧ True ∧ True ∧ True ∧ True ∧ True) (by kernel_rfl) ⟨trivial, trivial, trivial, trivial, trivial, trivial, trivial, trivial⟩ ?_
  refine At.done rfl ?_
  show Tri _ _ _ _
  refine Tri.seqJ (fun (a5 : Bool) => ⟨[(4, .c (.d (.bool a5)))], []⟩) h (fun a5 h => ?_) (fun j6 h => ?_)
  · show Tri _ _ ⟨[(4, .c (.d (.bool a5)))], []⟩ _
    refine Tri.keep [4] [] (s' := ⟨[(4, .c (.d (.bool a5)))], []⟩) (by kernel_rfl) ?_
    refine Tri.ret ?_
    cases h
    refine ⟨_, _, rfl, ⟨trivial, trivial⟩, rfl, rfl, ?_⟩
    intro k c h
    cases h
  · refine Tri.reg ?_
    obtain ⟨r7, hr7, h⟩ := bind_elim h
    refine At.callA (caps := []) (xs := []) (freshetlaw01_frames_ok hr7) rfl rfl rfl rfl rfl rfl .nil rfl rfl ?_
    refine At.seg 1 [5, 6, 7, 8, 9, 10, 11, 12, 13, 14, 38] [] (s' := ⟨[(5, .c (.d (.str r1.1))), (6, .c (.d (.int .i64 r1.2))), (7, .c (.d (.str r2.1))), (8, .c (.d (.int .i64 r2.2))), (9, .c (.d (.str r3.1))), (10, .c (.d (.str r3.2.1))), (11, .c (.d (.int .i64 r3.2.2))), (12, .c (.d (.str r4.1))), (13, .c (.d (.str r4.2.1))), (14, .c (.d (.int .i64 r4.2.2))), (38, .c (.d (.bool r7)))], []⟩) (c := True ∧ True) (by kernel_rfl) ⟨trivial, trivial⟩ ?_
    refine At.case (fun b => ⟨[(5, .c (.d (.str r1.1))), (6, .c (.d (.int .i64 r1.2))), (7, .c (.d (.str r2.1))), (8, .c (.d (.int .i64 r2.2))), (9, .c (.d (.str r3.1))), (10, .c (.d (.str r3.2.1))), (11, .c (.d (.int .i64 r3.2.2))), (12, .c (.d (.str r4.1))), (13, .c (.d (.str r4.2.1))), (14, .c (.d (.int .i64 r4.2.2))), (38, .c (.d (.bool b)))], []⟩) (b := r7) h (fun h => ?_) (fun h => ?_)
    · refine At.seg 5 [6, 8, 9, 10, 11, 12, 13, 14, 43] [] (s' := ⟨[(6, .c (.d (.int .i64 r1.2))), (8, .c (.d (.int .i64 r2.2))), (9, .c (.d (.str r3.1))), (10, .c (.d (.str r3.2.1))), (11, .c (.d (.int .i64 r3.2.2))), (12, .c (.d (.str r4.1))), (13, .c (.d (.str r4.2.1))), (14, .c (.d (.int .i64 r4.2.2))), (43, .c (.d (.bool (strEq r1.1 r2.1))))], []⟩) (c := True ∧ True ∧ True ∧ True ∧ True ∧ True) (by kernel_rfl) ⟨trivial, trivial, trivial, trivial, trivial, trivial⟩ ?_
      refine At.case (fun b => ⟨[(6, .c (.d (.int .i64 r1.2))), (8, .c (.d (.int .i64 r2.2))), (9, .c (.d (.str r3.1))), (10, .c (.d (.str r3.2.1))), (11, .c (.d (.int .i64 r3.2.2))), (12, .c (.d (.str r4.1))), (13, .c (.d (.str r4.2.1))), (14, .c (.d (.int .i64 r4.2.2))), (43, .c (.d (.bool b)))], []⟩) (b := (strEq r1.1 r2.1)) h (fun h => ?_) (fun h => ?_)
      · refine At.seg 5 [9, 10, 11, 12, 13, 14, 48] [] (s' := ⟨[(9, .c (.d (.str r3.1))), (10, .c (.d (.str r3.2.1))), (11, .c (.d (.int .i64 r3.2.2))), (12, .c (.d (.str r4.1))), (13, .c (.d (.str r4.2.1))), (14, .c (.d (.int .i64 r4.2.2))), (48, .c (.d (.bool (decide (r1.2 = r2.2)))))], []⟩) (c := True ∧ True ∧ True ∧ True ∧ True ∧ True) (by kernel_rfl) ⟨trivial, trivial, trivial, trivial, trivial, trivial⟩ ?_
        refine At.case (fun b => ⟨[(9, .c (.d (.str r3.1))), (10, .c (.d (.str r3.2.1))), (11, .c (.d (.int .i64 r3.2.2))), (12, .c (.d (.str r4.1))), (13, .c (.d (.str r4.2.1))), (14, .c (.d (.int .i64 r4.2.2))), (48, .c (.d (.bool b)))], []⟩) (b := (decide (r1.2 = r2.2))) h (fun h => ?_) (fun h => ?_)
        · refine At.seg 5 [10, 11, 13, 14, 53] [] (s' := ⟨[(10, .c (.d (.str r3.2.1))), (11, .c (.d (.int .i64 r3.2.2))), (13, .c (.d (.str r4.2.1))), (14, .c (.d (.int .i64 r4.2.2))), (53, .c (.d (.bool (strEq r3.1 r4.1))))], []⟩) (c := True ∧ True ∧ True ∧ True ∧ True ∧ True) (by kernel_rfl) ⟨trivial, trivial, trivial, trivial, trivial, trivial⟩ ?_
          refine At.case (fun b => ⟨[(10, .c (.d (.str r3.2.1))), (11, .c (.d (.int .i64 r3.2.2))), (13, .c (.d (.str r4.2.1))), (14, .c (.d (.int .i64 r4.2.2))), (53, .c (.d (.bool b)))], []⟩) (b := (strEq r3.1 r4.1)) h (fun h => ?_) (fun h => ?_)
          · refine At.seg 5 [11, 14, 58] [] (s' := ⟨[(11, .c (.d (.int .i64 r3.2.2))), (14, .c (.d (.int .i64 r4.2.2))), (58, .c (.d (.bool (strEq r3.2.1 r4.2.1))))], []⟩) (c := True ∧ True ∧ True ∧ True ∧ True ∧ True) (by kernel_rfl) ⟨trivial, trivial, trivial, trivial, trivial, trivial⟩ ?_
            refine At.case (fun b => ⟨[(11, .c (.d (.int .i64 r3.2.2))), (14, .c (.d (.int .i64 r4.2.2))), (58, .c (.d (.bool b)))], []⟩) (b := (strEq r3.2.1 r4.2.1)) h (fun h => ?_) (fun h => ?_)
            · refine At.seg 5 [4] [] (s' := ⟨[(4, .c (.d (.bool (decide (r3.2.2 = r4.2.2)))))], []⟩) (c := True ∧ True ∧ True ∧ True ∧ True ∧ True) (by kernel_rfl) ⟨trivial, trivial, trivial, trivial, trivial, trivial⟩ ?_
              refine At.done rfl ?_
              exact ⟨_, h, rfl⟩
            · refine At.seg 5 [4] [] (s' := ⟨[(4, .c (.d (.bool false)))], []⟩) (c := True ∧ True ∧ True) (by kernel_rfl) ⟨trivial, trivial, trivial⟩ ?_
              refine At.done rfl ?_
              exact ⟨_, h, rfl⟩
          · refine At.seg 10 [4] [] (s' := ⟨[(4, .c (.d (.bool false)))], []⟩) (c := True ∧ True ∧ True ∧ True ∧ True) (by kernel_rfl) ⟨trivial, trivial, trivial, trivial, trivial⟩ ?_
            refine At.done rfl ?_
            exact ⟨_, h, rfl⟩
        · refine At.seg 15 [4] [] (s' := ⟨[(4, .c (.d (.bool false)))], []⟩) (c := True ∧ True ∧ True ∧ True ∧ True ∧ True ∧ True) (by kernel_rfl) ⟨trivial, trivial, trivial, trivial, trivial, trivial, trivial⟩ ?_
          refine At.done rfl ?_
          exact ⟨_, h, rfl⟩
      · refine At.seg 20 [4] [] (s' := ⟨[(4, .c (.d (.bool false)))], []⟩) (c := True ∧ True ∧ True ∧ True ∧ True ∧ True ∧ True ∧ True ∧ True) (by kernel_rfl) ⟨trivial, trivial, trivial, trivial, trivial, trivial, trivial, trivial, trivial⟩ ?_
        refine At.done rfl ?_
        exact ⟨_, h, rfl⟩
    · refine At.seg 25 [4] [] (s' := ⟨[(4, .c (.d (.bool false)))], []⟩) (c := True ∧ True ∧ True ∧ True ∧ True ∧ True ∧ True ∧ True ∧ True ∧ True ∧ True) (by kernel_rfl) ⟨trivial, trivial, trivial, trivial, trivial, trivial, trivial, trivial, trivial, trivial, trivial⟩ ?_
      refine At.done rfl ?_
      exact ⟨_, h, rfl⟩

end Go.Av