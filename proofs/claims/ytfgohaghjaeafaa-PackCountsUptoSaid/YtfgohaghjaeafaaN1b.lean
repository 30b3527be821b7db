import Derived.Test.YtfgohaghjaeafaaN1a
namespace Go.Av
open Go Go.Proofs
set_option linter.unusedVariables false
set_option linter.unusedSimpArgs false

set_option maxRecDepth 100000 in
theorem freshetlaw01_PackTurned_ok {p0 : ByteArray} {p1 : Int} {p2 : Int} {q : Bool} (h : freshetlaw01_PackTurned p0 p1 p2 = some q) :
    Summ Try.prog 9 [.c (.d (.str p0)), .c (.d (.int .i64 p1)), .c (.d (.int .u8 p2))] [] (.c (.d (.bool q))) [] := by
  refine Summ.intro Try.func9 rfl (by kernel_rfl) (by kernel_rfl) [] rfl ?_
  rintro ⟨P, w0, G0, V, LL, lk, N, φ0, fx⟩ rfl rfl rfl rfl
  unfold freshetlaw01_PackTurned at h
  refine Tri.seqS ?_
  refine Tri.reg ?_
  refine At.seg 1 [0, 1, 2] [] (s' := ⟨[(0, .c (.d (.str p0))), (1, .c (.d (.int .i64 p1))), (2, .c (.d (.int .u8 p2)))], []⟩) (c := True ∧ True) (by kernel_rfl) ⟨trivial, trivial⟩ ?_
  refine At.done rfl ?_
  show Tri _ _ _ _
  refine Tri.seqS ?_
  refine Tri.seqS ?_
  refine Tri.reg ?_
  obtain ⟨r1, hr1, h⟩ := bind_elim h
  refine At.callA (caps := []) (xs := []) (freshetlaw01_frames_ok hr1) rfl rfl rfl rfl rfl rfl .nil rfl rfl ?_
  refine At.seg 1 [0, 1, 2, 15] [] (s' := ⟨[(0, .c (.d (.str p0))), (1, .c (.d (.int .i64 p1))), (2, .c (.d (.int .u8 p2))), (15, .c (.d (.bool (!r1))))], []⟩) (c := True ∧ True) (by kernel_rfl) ⟨trivial, trivial⟩ ?_
  refine At.done rfl ?_
  show Tri _ _ _ _
  refine Tri.condP (b := (!r1)) rfl h (fun h => ?_) (fun h => ?_)
  · refine Tri.seqS ?_
    refine Tri.reg ?_
    refine At.seg 1 [6] [] (s' := ⟨[(6, .c (.d (.bool false)))], []⟩) (c := True ∧ True) (by kernel_rfl) ⟨trivial, trivial⟩ ?_
    refine At.done rfl ?_
    show Tri _ _ _ _
    refine Tri.keep [6] [] (s' := ⟨[(6, .c (.d (.bool false)))], []⟩) (by kernel_rfl) ?_
    refine Tri.ret ?_
    cases h
    refine ⟨_, _, rfl, ⟨trivial, trivial⟩, rfl, rfl, ?_⟩
    intro k c h
    cases h
  · refine Tri.skip ?_
    show Tri _ _ _ _
    refine Tri.seqS ?_
    refine Tri.reg ?_
    refine At.seg 1 [0, 1, 2, 17] [] (s' := ⟨[(0, .c (.d (.str p0))), (1, .c (.d (.int .i64 p1))), (2, .c (.d (.int .u8 p2))), (17, .c (.d (.str p0)))], []⟩) (c := True ∧ True) (by kernel_rfl) ⟨trivial, trivial⟩ ?_
    obtain ⟨r2, hr2, h⟩ := bind_elim h
    refine At.callA (caps := []) (xs := [.c (.d (.str p0))]) (pack_Frame_ok hr2) rfl rfl rfl rfl rfl rfl (.cons (.refl _) .nil) rfl rfl ?_
    refine At.seg 5 [0, 1, 2, 7, 8] [] (s' := ⟨[(0, .c (.d (.str p0))), (1, .c (.d (.int .i64 p1))), (2, .c (.d (.int .u8 p2))), (7, .c (.d (.str r2.1))), (8, .c (.d (.int .i64 r2.2)))], []⟩) (c := True ∧ True ∧ True ∧ True ∧ True ∧ True) (by kernel_rfl) ⟨trivial, trivial, trivial, trivial, trivial, trivial⟩ ?_
    refine At.done rfl ?_
    show Tri _ _ _ _
    refine Tri.seqS ?_
    refine Tri.reg ?_
    refine At.seg 3 [1, 2, 7, 8, 23] [] (s' := ⟨[(1, .c (.d (.int .i64 p1))), (2, .c (.d (.int .u8 p2))), (7, .c (.d (.str r2.1))), (8, .c (.d (.int .i64 r2.2))), (23, .c (.d (.int .u64 (IntKind.u64.wrap (p0.size : Int)))))], []⟩) (c := True ∧ True ∧ True ∧ True) (by kernel_rfl) ⟨trivial, trivial, trivial, trivial⟩ ?_
    obtain ⟨r3, hr3, h⟩ := bind_elim h
    refine At.callA (caps := []) (xs := [.c (.d (.int .u64 (IntKind.u64.wrap (p0.size : Int))))]) (pack_Count_ok hr3) rfl rfl rfl rfl rfl rfl (.cons (.refl _) .nil) rfl rfl ?_
    refine At.seg 2 [1, 2, 7, 8, 9] [] (s' := ⟨[(1, .c (.d (.int .i64 p1))), (2, .c (.d (.int .u8 p2))), (7, .c (.d (.str r2.1))), (8, .c (.d (.int .i64 r2.2))), (9, .c (.d (.int .i64 (r3.size : Int))))], []⟩) (c := True ∧ True ∧ True) (by kernel_rfl) ⟨trivial, trivial, trivial⟩ ?_
    refine At.done rfl ?_
    show Tri _ _ _ _
    refine Tri.seqS ?_
    refine Tri.seqJ (fun (a4 : Bool) => ⟨[(1, .c (.d (.int .i64 p1))), (2, .c (.d (.int .u8 p2))), (7, .c (.d (.str r2.1))), (38, .c (.d (.bool a4)))], []⟩) h (fun a4 h => ?_) (fun j5 h => ?_)
    · show Tri _ _ ⟨[(1, .c (.d (.int .i64 p1))), (2, .c (.d (.int .u8 p2))), (7, .c (.d (.str r2.1))), (38, .c (.d (.bool a4)))], []⟩ _
      refine Tri.condP (b := a4) rfl h (fun h => ?_) (fun h => ?_)
      · refine Tri.seqS ?_
        refine Tri.reg ?_
        refine At.seg 1 [6] [] (s' := ⟨[(6, .c (.d (.bool true)))], []⟩) (c := True ∧ True) (by kernel_rfl) ⟨trivial, trivial⟩ ?_
        refine At.done rfl ?_
        show Tri _ _ _ _
        refine Tri.keep [6] [] (s' := ⟨[(6, .c (.d (.bool true)))], []⟩) (by kernel_rfl) ?_
        refine Tri.ret ?_
        cases h
        refine ⟨_, _, rfl, ⟨trivial, trivial⟩, rfl, rfl, ?_⟩
        intro k c h
        cases h
      · refine Tri.skip ?_
        show Tri _ _ _ _
        refine Tri.seqS ?_
        refine Tri.reg ?_
        refine At.seg 1 [1, 2, 39] [] (s' := ⟨[(1, .c (.d (.int .i64 p1))), (2, .c (.d (.int .u8 p2))), (39, .c (.d (.str r2.1)))], []⟩) (c := True ∧ True) (by kernel_rfl) ⟨trivial, trivial⟩ ?_
        obtain ⟨hc6, h⟩ := need_elim h
        refine At.one rfl (One.strBytesT (e := 5) rfl rfl rfl rfl (by kernel_rfl) rfl rfl rfl rfl hc6) ?_
        refine At.seg 1 [1, 2, 10] [40] (s' := ⟨[(1, .c (.d (.int .i64 p1))), (2, .c (.d (.int .u8 p2))), (10, .c (.own 40 1 0 ((numsOf r2.1).length)))], [(40, .vec 1 (numsOf r2.1).length (fun i => encInt .u8 ((numsOf r2.1).getD i default)))]⟩) (c := True ∧ True) (by kernel_rfl) ⟨trivial, trivial⟩ ?_
        refine At.done rfl ?_
        show Tri _ _ _ _
        refine Tri.seqS ?_
        refine Tri.reg ?_
        obtain ⟨hc7, h⟩ := need_elim h
        obtain ⟨hc8, h⟩ := need_elim h
        obtain ⟨hc9, h⟩ := need_elim h
        obtain ⟨hc10, h⟩ := need_elim h
        refine At.seg 9 [10, 48, 49] [40] (s' := ⟨[(10, .c (.own 40 1 0 ((numsOf r2.1).length))), (48, .c (.d (.int .u8 (bitsOp .xor .u8 ((numsOf r2.1).getD (0 + p1.toNat) default) (shlOp .u8 (1 : Int) (p2.tmod 8)))))), (49, .c (.vptr 40 1 (0 + p1.toNat) 0))], [(40, .vec 1 (numsOf r2.1).length (fun i => encInt .u8 ((numsOf r2.1).getD i default)))]⟩) (c := True ∧ True ∧ ((0 : Int) ≤ p1 ∧ p1 < ((numsOf r2.1).length : Int)) ∧ ((0 + p1.toNat) < (numsOf r2.1).length) ∧ True ∧ ((8 : Int) ≠ 0) ∧ ((0 : Int) ≤ (p2.tmod 8)) ∧ True ∧ ((0 : Int) ≤ p1 ∧ p1 < ((numsOf r2.1).length : Int)) ∧ True) (by kernel_rfl) ⟨trivial, trivial, hc7, hc8, trivial, (by decide : (8 : Int) ≠ 0), hc9, trivial, hc10, trivial⟩ ?_
        obtain ⟨hc11, h⟩ := need_elim h
        refine At.one rfl (One.storeT (xs := [.d (.int .u8 (bitsOp .xor .u8 ((numsOf r2.1).getD (0 + p1.toNat) default) (shlOp .u8 (1 : Int) (p2.tmod 8))))]) (ds := [.int .u8 (bitsOp .xor .u8 ((numsOf r2.1).getD (0 + p1.toNat) default) (shlOp .u8 (1 : Int) (p2.tmod 8)))]) (encInt .u8) (numsOf r2.1) (bitsOp .xor .u8 ((numsOf r2.1).getD (0 + p1.toNat) default) (shlOp .u8 (1 : Int) (p2.tmod 8))) rfl rfl rfl rfl rfl hc11 rfl rfl (.refl _) rfl rfl rfl rfl) ?_
        refine At.keep [10] [40] (s' := ⟨[(10, .c (.own 40 1 0 ((numsOf r2.1).length)))], [(40, .vec 1 ((numsOf r2.1).set (0 + p1.toNat) (bitsOp .xor .u8 ((numsOf r2.1).getD (0 + p1.toNat) default) (shlOp .u8 (1 : Int) (p2.tmod 8)))).length (fun i => encInt .u8 (((numsOf r2.1).set (0 + p1.toNat) (bitsOp .xor .u8 ((numsOf r2.1).getD (0 + p1.toNat) default) (shlOp .u8 (1 : Int) (p2.tmod 8)))).getD i default)))]⟩) (by kernel_rfl) ?_
        refine At.eqS (s' := ⟨[(10, .c (.own 40 1 0 (((numsOf r2.1).set (0 + p1.toNat) (bitsOp .xor .u8 ((numsOf r2.1).getD (0 + p1.toNat) default) (shlOp .u8 (1 : Int) (p2.tmod 8)))).length)))], [(40, .vec 1 ((numsOf r2.1).set (0 + p1.toNat) (bitsOp .xor .u8 ((numsOf r2.1).getD (0 + p1.toNat) default) (shlOp .u8 (1 : Int) (p2.tmod 8)))).length (fun i => encInt .u8 (((numsOf r2.1).set (0 + p1.toNat) (bitsOp .xor .u8 ((numsOf r2.1).getD (0 + p1.toNat) default) (shlOp .u8 (1 : Int) (p2.tmod 8)))).getD i default)))]⟩) (by simp only [List.length_set]) ?_
        refine At.done rfl ?_
        show Tri _ _ _ _
        refine Tri.seqS ?_
        refine Tri.reg ?_
        refine At.seg 1 [51] [40] (s' := ⟨[(51, .c (.own 40 1 0 (((numsOf r2.1).set (0 + p1.toNat) (bitsOp .xor .u8 ((numsOf r2.1).getD (0 + p1.toNat) default) (shlOp .u8 (1 : Int) (p2.tmod 8)))).length)))], [(40, .vec 1 ((numsOf r2.1).set (0 + p1.toNat) (bitsOp .xor .u8 ((numsOf r2.1).getD (0 + p1.toNat) default) (shlOp .u8 (1 : Int) (p2.tmod 8)))).length (fun i => encInt .u8 (((numsOf r2.1).set (0 + p1.toNat) (bitsOp .xor .u8 ((numsOf r2.1).getD (0 + p1.toNat) default) (shlOp .u8 (1 : Int) (p2.tmod 8)))).getD i default)))]⟩) (c := True ∧ True) (by kernel_rfl) ⟨trivial, trivial⟩ ?_
        refine At.one rfl (One.bytesStrT (e := 5) ((numsOf r2.1).set (0 + p1.toNat) (bitsOp .xor .u8 ((numsOf r2.1).getD (0 + p1.toNat) default) (shlOp .u8 (1 : Int) (p2.tmod 8)))) rfl rfl rfl rfl rfl rfl rfl (.own rfl (by simp) rfl (shift0 (encInt .u8) ((numsOf r2.1).set (0 + p1.toNat) (bitsOp .xor .u8 ((numsOf r2.1).getD (0 + p1.toNat) default) (shlOp .u8 (1 : Int) (p2.tmod 8)))) _))) ?_
        obtain ⟨r12, hr12, h⟩ := bind_elim h
        refine At.callA (caps := []) (xs := [.c (.d (.str (strOfNums ((numsOf r2.1).set (0 + p1.toNat) (bitsOp .xor .u8 ((numsOf r2.1).getD (0 + p1.toNat) default) (shlOp .u8 (1 : Int) (p2.tmod 8)))))))]) (pack_TakeFrame_ok hr12) rfl rfl rfl rfl rfl rfl (.cons (.refl _) .nil) rfl rfl ?_
        refine At.seg 7 [13] [] (s' := ⟨[(13, .c (.d (.int .i64 r12.2.2)))], []⟩) (c := True ∧ True ∧ True ∧ True ∧ True ∧ True ∧ True ∧ True) (by kernel_rfl) ⟨trivial, trivial, trivial, trivial, trivial, trivial, trivial, trivial⟩ ?_
        refine At.done rfl ?_
        show Tri _ _ _ _
        refine Tri.seqS ?_
        refine Tri.reg ?_
        refine At.seg 3 [6] [] (s' := ⟨[(6, .c (.d (.bool (decide (r12.2.2 = 4)))))], []⟩) (c := True ∧ True ∧ True ∧ True) (by kernel_rfl) ⟨trivial, trivial, trivial, trivial⟩ ?_
        refine At.done rfl ?_
        show Tri _ _ _ _
        refine Tri.keep [6] [] (s' := ⟨[(6, .c (.d (.bool (decide (r12.2.2 = 4)))))], []⟩) (by kernel_rfl) ?_
        refine Tri.ret ?_
        cases h
        refine ⟨_, _, rfl, ⟨trivial, trivial⟩, rfl, rfl, ?_⟩
        intro k c h
        cases h
    · refine Tri.reg ?_
      refine At.seg 3 [1, 2, 7, 9, 28] [] (s' := ⟨[(1, .c (.d (.int .i64 p1))), (2, .c (.d (.int .u8 p2))), (7, .c (.d (.str r2.1))), (9, .c (.d (.int .i64 (r3.size : Int)))), (28, .c (.d (.bool (!decide (r2.2 = 0)))))], []⟩) (c := True ∧ True ∧ True ∧ True) (by kernel_rfl) ⟨trivial, trivial, trivial, trivial⟩ ?_
      refine At.case (fun b => ⟨[(1, .c (.d (.int .i64 p1))), (2, .c (.d (.int .u8 p2))), (7, .c (.d (.str r2.1))), (9, .c (.d (.int .i64 (r3.size : Int)))), (28, .c (.d (.bool b)))], []⟩) (b := (!decide (r2.2 = 0))) h (fun h => ?_) (fun h => ?_)
      · refine At.seg 10 [1, 2, 7, 38] [] (s' := ⟨[(1, .c (.d (.int .i64 p1))), (2, .c (.d (.int .u8 p2))), (7, .c (.d (.str r2.1))), (38, .c (.d (.bool true)))], []⟩) (c := True ∧ True ∧ True ∧ True) (by kernel_rfl) ⟨trivial, trivial, trivial, trivial⟩ ?_
        refine At.done rfl ?_
        exact ⟨_, h, rfl⟩
      · refine At.seg 5 [1, 2, 7, 33] [] (s' := ⟨[(1, .c (.d (.int .i64 p1))), (2, .c (.d (.int .u8 p2))), (7, .c (.d (.str r2.1))), (33, .c (.d (.bool (decide (p1 < (r3.size : Int))))))], []⟩) (c := True ∧ True ∧ True ∧ True ∧ True ∧ True) (by kernel_rfl) ⟨trivial, trivial, trivial, trivial, trivial, trivial⟩ ?_
        refine At.case (fun b => ⟨[(1, .c (.d (.int .i64 p1))), (2, .c (.d (.int .u8 p2))), (7, .c (.d (.str r2.1))), (33, .c (.d (.bool b)))], []⟩) (b := (decide (p1 < (r3.size : Int)))) h (fun h => ?_) (fun h => ?_)
        · refine At.seg 5 [1, 2, 7, 38] [] (s' := ⟨[(1, .c (.d (.int .i64 p1))), (2, .c (.d (.int .u8 p2))), (7, .c (.d (.str r2.1))), (38, .c (.d (.bool true)))], []⟩) (c := True ∧ True) (by kernel_rfl) ⟨trivial, trivial⟩ ?_
          refine At.done rfl ?_
          exact ⟨_, h, rfl⟩
        · refine At.seg 5 [1, 2, 7, 38] [] (s' := ⟨[(1, .c (.d (.int .i64 p1))), (2, .c (.d (.int .u8 p2))), (7, .c (.d (.str r2.1))), (38, .c (.d (.bool (decide ((r2.1.size : Int) ≤ p1)))))], []⟩) (c := True ∧ True ∧ True ∧ True ∧ True ∧ True) (by kernel_rfl) ⟨trivial, trivial, trivial, trivial, trivial, trivial⟩ ?_
          refine At.done rfl ?_
          exact ⟨_, h, rfl⟩

set_option maxRecDepth 100000 in
theorem freshetlaw01_PackMany_ok {p0 : List ByteArray} {q : Bool} (h : freshetlaw01_PackMany p0 = some q) :
    Summ Try.prog 10 [.c (.d (.list 1 p0.length (fun i => encStr (p0.getD i default))))] [] (.c (.d (.bool q))) [] := by
  refine Summ.intro Try.func10 rfl (by kernel_rfl) (by kernel_rfl) [] rfl ?_
  rintro ⟨P, w0, G0, V, LL, lk, N, φ0, fx⟩ rfl rfl rfl rfl
  unfold freshetlaw01_PackMany at h
  refine Tri.seqS ?_
  refine Tri.reg ?_
  refine At.seg 1 [0] [] (s' := ⟨[(0, .c (.d (.list 1 p0.length (fun i => encStr (p0.getD i default)))))], []⟩) (c := True ∧ True) (by kernel_rfl) ⟨trivial, trivial⟩ ?_
  refine At.done rfl ?_
  show Tri _ _ _ _
  refine Tri.seqS ?_
  refine Tri.seqS ?_
  refine Tri.reg ?_
  obtain ⟨r1, hr1, h⟩ := bind_elim h
  refine At.callA (caps := []) (xs := []) (freshetlaw01_frames_ok hr1) rfl rfl rfl rfl rfl rfl .nil rfl rfl ?_
  refine At.seg 1 [0, 15] [] (s' := ⟨[(0, .c (.d (.list 1 p0.length (fun i => encStr (p0.getD i default))))), (15, .c (.d (.bool (!r1))))], []⟩) (c := True ∧ True) (by kernel_rfl) ⟨trivial, trivial⟩ ?_
  refine At.done rfl ?_
  show Tri _ _ _ _
  refine Tri.condP (b := (!r1)) rfl h (fun h => ?_) (fun h => ?_)
  · refine Tri.seqS ?_
    refine Tri.reg ?_
    refine At.seg 1 [2] [] (s' := ⟨[(2, .c (.d (.bool false)))], []⟩) (c := True ∧ True) (by kernel_rfl) ⟨trivial, trivial⟩ ?_
    refine At.done rfl ?_
    show Tri _ _ _ _
    refine Tri.keep [2] [] (s' := ⟨[(2, .c (.d (.bool false)))], []⟩) (by kernel_rfl) ?_
    refine Tri.ret ?_
    cases h
    refine ⟨_, _, rfl, ⟨trivial, trivial⟩, rfl, rfl, ?_⟩
    intro k c h
    cases h
  · refine Tri.skip ?_
    show Tri _ _ _ _
    refine Tri.seqS ?_
    refine Tri.reg ?_
    refine At.seg 1 [0, 3] [] (s' := ⟨[(0, .c (.d (.list 1 p0.length (fun i => encStr (p0.getD i default))))), (3, .c (.d (.str (bs []))))], []⟩) (c := True ∧ True) (by kernel_rfl) ⟨trivial, trivial⟩ ?_
    refine At.done rfl ?_
    show Tri _ _ _ _
    refine Tri.seqS ?_
    refine Tri.reg ?_
    refine At.seg 1 [0, 3, 4] [] (s' := ⟨[(0, .c (.d (.list 1 p0.length (fun i => encStr (p0.getD i default))))), (3, .c (.d (.str (bs [])))), (4, .c (.zero))], []⟩) (c := True ∧ True) (by kernel_rfl) ⟨trivial, trivial⟩ ?_
    refine At.done rfl ?_
    show Tri _ _ _ _
    refine Tri.seqS ?_
    refine Tri.seqS ?_
    refine Tri.reg ?_
    refine At.seg 3 [3, 4, 16, 17, 18] [] (s' := ⟨[(3, .c (.d (.str (bs [])))), (4, .c (.zero)), (16, .c (.d (.list 1 p0.length (fun i => encStr (p0.getD i default))))), (17, .c (.d (.int .i64 (p0.length : Int)))), (18, .c (.d (.int .i64 0)))], []⟩) (c := True ∧ True ∧ True ∧ True) (by kernel_rfl) ⟨trivial, trivial, trivial, trivial⟩ ?_
    refine At.done rfl ?_
    show Tri _ _ _ _
    refine Tri.lenOf (t := 16) rfl fun hlena3 => ?_
    refine Tri.newOwn (t := 4) (k := 1004) (es := 1) (fun i => encStr (([] : List ByteArray).getD i default)) rfl rfl rfl ?_
    refine Tri.keep [18, 3, 4, 16, 17] [1004] (s' := idx 18 0 ⟨[(3, .c (.d (.str (bs [])))), (4, .c (.own 1004 1 0 (([] : List ByteArray).length))), (16, .c (.d (.list 1 p0.length (fun i => encStr (p0.getD i default))))), (17, .c (.d (.int .i64 (p0.length : Int))))], [(1004, .vec 1 ([] : List ByteArray).length (fun i => encStr (([] : List ByteArray).getD i default)))]⟩) (by kernel_rfl) ?_
    refine Tri.range (n := p0.length) (st0 := ((bs []), ([] : List ByteArray))) (fun (x : Empty) s => False) (fun (a3 : ByteArray × (List ByteArray)) => ⟨[(3, .c (.d (.str a3.1))), (4, .c (.own 1004 1 0 a3.2.length)), (16, .c (.d (.list 1 p0.length (fun i => encStr (p0.getD i default))))), (17, .c (.d (.int .i64 (p0.length : Int))))], [(1004, .vec 1 a3.2.length (fun i => encStr (a3.2.getD i default)))]⟩) (fun (a3 : ByteArray × (List ByteArray)) => ⟨[(3, .c (.d (.str a3.1))), (4, .c (.own 1004 1 0 a3.2.length)), (16, .c (.d (.list 1 p0.length (fun i => encStr (p0.getD i default))))), (17, .c (.d (.int .i64 (p0.length : Int))))], [(1004, .vec 1 a3.2.length (fun i => encStr (a3.2.getD i default)))]⟩) (fun i => decide ((i : Int) < (p0.length : Int))) [19, 18, 3, 4, 16, 17] [1004] [3, 4, 16, 17] [1004] [18, 3, 4, 16, 17] [1004] h hlena3 rfl ?_ ?_ ?_ ?_ ?_ ?_ ?_ ?_
    · exact fun i a => ⟨True ∧ True, by kernel_rfl, ⟨trivial, trivial⟩⟩
    · exact fun i hi => decide_eq_true (by omega)
    · exact decide_eq_false (by omega)
    · exact fun a => by kernel_rfl
    · exact fun i a => ⟨True ∧ True ∧ True, by kernel_rfl, ⟨trivial, trivial, trivial⟩⟩
    · intro i2 a3 c hii2 h
      refine Tri.seqS ?_
      refine Tri.reg ?_
      refine At.seg 3 [3, 4, 6, 16, 17, 18] [1004] (s' := ⟨[(3, .c (.d (.str a3.1))), (4, .c (.own 1004 1 0 a3.2.length)), (6, .c (.d (.str (p0.getD i2 default)))), (16, .c (.d (.list 1 p0.length (fun i => encStr (p0.getD i default))))), (17, .c (.d (.int .i64 (p0.length : Int)))), (18, .c (.d (.int .i64 ((i2 : Nat) : Int))))], [(1004, .vec 1 a3.2.length (fun i => encStr (a3.2.getD i default)))]⟩) (c := ((0 : Int) ≤ ((i2 : Nat) : Int) ∧ ((i2 : Nat) : Int) < (p0.length : Int)) ∧ True ∧ True ∧ True) (by kernel_rfl) ⟨⟨by omega, by omega⟩, trivial, trivial, trivial⟩ ?_
      refine At.done rfl ?_
      show Tri _ _ _ _
      refine Tri.seqS ?_
      refine Tri.reg ?_
      refine At.seg 1 [3, 4, 6, 16, 17, 18, 23] [1004] (s' := ⟨[(3, .c (.d (.str a3.1))), (4, .c (.own 1004 1 0 a3.2.length)), (6, .c (.d (.str (p0.getD i2 default)))), (16, .c (.d (.list 1 p0.length (fun i => encStr (p0.getD i default))))), (17, .c (.d (.int .i64 (p0.length : Int)))), (18, .c (.d (.int .i64 ((i2 : Nat) : Int)))), (23, .c (.d (.str (p0.getD i2 default))))], [(1004, .vec 1 a3.2.length (fun i => encStr (a3.2.getD i default)))]⟩) (c := True ∧ True) (by kernel_rfl) ⟨trivial, trivial⟩ ?_
      obtain ⟨r12, hr12, h⟩ := bind_elim h
      refine At.callA (caps := []) (xs := [.c (.d (.str (p0.getD i2 default)))]) (pack_Frame_ok hr12) rfl rfl rfl rfl rfl rfl (.cons (.refl _) .nil) rfl rfl ?_
      refine At.seg 5 [3, 4, 6, 7, 8, 16, 17, 18] [1004] (s' := ⟨[(3, .c (.d (.str a3.1))), (4, .c (.own 1004 1 0 a3.2.length)), (6, .c (.d (.str (p0.getD i2 default)))), (7, .c (.d (.str r12.1))), (8, .c (.d (.int .i64 r12.2))), (16, .c (.d (.list 1 p0.length (fun i => encStr (p0.getD i default))))), (17, .c (.d (.int .i64 (p0.length : Int)))), (18, .c (.d (.int .i64 ((i2 : Nat) : Int))))], [(1004, .vec 1 a3.2.length (fun i => encStr (a3.2.getD i default)))]⟩) (c := True ∧ True ∧ True ∧ True ∧ True ∧ True) (by kernel_rfl) ⟨trivial, trivial, trivial, trivial, trivial, trivial⟩ ?_
      refine At.done rfl ?_
      show Tri _ _ _ _
      refine Tri.seqJ (fun (a13 : Bool) => ⟨[(3, .c (.d (.str a3.1))), (4, .c (.own 1004 1 0 a3.2.length)), (6, .c (.d (.str (p0.getD i2 default)))), (7, .c (.d (.str r12.1))), (16, .c (.d (.list 1 p0.length (fun i => encStr (p0.getD i default))))), (17, .c (.d (.int .i64 (p0.length : Int)))), (18, .c (.d (.int .i64 ((i2 : Nat) : Int)))), (33, .c (.d (.bool a13)))], [(1004, .vec 1 a3.2.length (fun i => encStr (a3.2.getD i default)))]⟩) h (fun a13 h => ?_) (fun j14 h => ?_)
      · show Tri _ _ ⟨[(3, .c (.d (.str a3.1))), (4, .c (.own 1004 1 0 a3.2.length)), (6, .c (.d (.str (p0.getD i2 default)))), (7, .c (.d (.str r12.1))), (16, .c (.d (.list 1 p0.length (fun i => encStr (p0.getD i default))))), (17, .c (.d (.int .i64 (p0.length : Int)))), (18, .c (.d (.int .i64 ((i2 : Nat) : Int)))), (33, .c (.d (.bool a13)))], [(1004, .vec 1 a3.2.length (fun i => encStr (a3.2.getD i default)))]⟩ _
        refine Tri.condP (b := a13) rfl h (fun h => ?_) (fun h => ?_)
        · refine Tri.seqS ?_
          refine Tri.reg ?_
          obtain ⟨hc15, h⟩ := need_elim h
          refine At.seg 4 [3, 4, 6, 16, 17, 18] [1004] (s' := ⟨[(3, .c (.d (.str (a3.1 ++ r12.1)))), (4, .c (.own 1004 1 0 a3.2.length)), (6, .c (.d (.str (p0.getD i2 default)))), (16, .c (.d (.list 1 p0.length (fun i => encStr (p0.getD i default))))), (17, .c (.d (.int .i64 (p0.length : Int)))), (18, .c (.d (.int .i64 ((i2 : Nat) : Int))))], [(1004, .vec 1 a3.2.length (fun i => encStr (a3.2.getD i default)))]⟩) (c := True ∧ True ∧ (((a3.1.size + r12.1.size : Nat) : Int) ≤ 9223372036854775807) ∧ True ∧ True) (by kernel_rfl) ⟨trivial, trivial, hc15, trivial, trivial⟩ ?_
          refine At.done rfl ?_
          show Tri _ _ _ _
          refine Tri.reg ?_
          refine At.seg 2 [3, 16, 17, 18, 37, 38] [1004] (s' := ⟨[(3, .c (.d (.str (a3.1 ++ r12.1)))), (16, .c (.d (.list 1 p0.length (fun i => encStr (p0.getD i default))))), (17, .c (.d (.int .i64 (p0.length : Int)))), (18, .c (.d (.int .i64 ((i2 : Nat) : Int)))), (37, .c (.own 1004 1 0 a3.2.length)), (38, .c (.d (.str (p0.getD i2 default))))], [(1004, .vec 1 a3.2.length (fun i => encStr (a3.2.getD i default)))]⟩) (c := True ∧ True ∧ True) (by kernel_rfl) ⟨trivial, trivial, trivial⟩ ?_
          refine At.one rfl (One.buildSlice (z := [.d (.str (bs []))]) (cells := [.d (.str (p0.getD i2 default))]) (xs := List.map (encStr) ([(p0.getD i2 default)] : List ByteArray)) rfl rfl rfl rfl (by kernel_rfl) rfl rfl (by kernel_rfl) rfl rfl rfl (by kernel_rfl) rfl ⟨⟨rfl, .refl _⟩, trivial⟩) ?_
          refine At.le [39] (fun k _ h => by cases h) ⟨[(39, .c (.d (.list 1 ([(p0.getD i2 default)] : List ByteArray).length (fun i => encStr (([(p0.getD i2 default)] : List ByteArray).getD i default))))), (3, .c (.d (.str (a3.1 ++ r12.1)))), (16, .c (.d (.list 1 p0.length (fun i => encStr (p0.getD i default))))), (17, .c (.d (.int .i64 (p0.length : Int)))), (18, .c (.d (.int .i64 ((i2 : Nat) : Int)))), (37, .c (.own 1004 1 0 a3.2.length)), (38, .c (.d (.str (p0.getD i2 default))))], [(1004, .vec 1 a3.2.length (fun i => encStr (a3.2.getD i default)))]⟩ ⟨⟨_, rfl, .c (.own rfl (List.mem_singleton.2 rfl) (Nat.le_of_ble_eq_true rfl) rfl (encs_getD (encStr) ([(p0.getD i2 default)] : List ByteArray)))⟩, ⟨_, rfl, .refl _⟩, ⟨_, rfl, .refl _⟩, ⟨_, rfl, .refl _⟩, ⟨_, rfl, .refl _⟩, ⟨_, rfl, .refl _⟩, ⟨_, rfl, .refl _⟩, trivial⟩ ⟨⟨_, rfl, .refl _, (by simp)⟩, trivial⟩ ?_
          obtain ⟨hc16, h⟩ := need_elim h
          refine At.one rfl (One.appendT (e := 9) (es := 1) (encStr) a3.2 ([(p0.getD i2 default)] : List ByteArray) rfl rfl rfl rfl rfl (.of 9 16 [.d (.str (bs []))] (by kernel_rfl) (by kernel_rfl) (by kernel_rfl) (by kernel_rfl) rfl (by kernel_rfl) rfl) rfl rfl rfl (.list rfl (fun _ _ => rfl)) hc16) ?_
          refine At.seg 1 [18, 3, 4, 16, 17] [1004] (s' := ⟨[(18, .c (.d (.int .i64 ((i2 : Nat) : Int)))), (3, .c (.d (.str (a3.1 ++ r12.1)))), (4, .c (.own 1004 1 0 ((a3.2 ++ ([(p0.getD i2 default)] : List ByteArray)).length))), (16, .c (.d (.list 1 p0.length (fun i => encStr (p0.getD i default))))), (17, .c (.d (.int .i64 (p0.length : Int))))], [(1004, .vec 1 (a3.2 ++ ([(p0.getD i2 default)] : List ByteArray)).length (fun i => encStr ((a3.2 ++ ([(p0.getD i2 default)] : List ByteArray)).getD i default)))]⟩) (c := True ∧ True) (by kernel_rfl) ⟨trivial, trivial⟩ ?_
          refine At.done rfl ?_
          cases h
          exact rfl
        · refine Tri.keep [18, 3, 4, 16, 17] [1004] (s' := ⟨[(18, .c (.d (.int .i64 ((i2 : Nat) : Int)))), (3, .c (.d (.str a3.1))), (4, .c (.own 1004 1 0 a3.2.length)), (16, .c (.d (.list 1 p0.length (fun i => encStr (p0.getD i default))))), (17, .c (.d (.int .i64 (p0.length : Int))))], [(1004, .vec 1 a3.2.length (fun i => encStr (a3.2.getD i default)))]⟩) (by kernel_rfl) ?_
          refine Tri.skip ?_
          cases h
          exact rfl
      · refine Tri.reg ?_
        refine At.seg 3 [3, 4, 6, 7, 16, 17, 18, 29] [1004] (s' := ⟨[(3, .c (.d (.str a3.1))), (4, .c (.own 1004 1 0 a3.2.length)), (6, .c (.d (.str (p0.getD i2 default)))), (7, .c (.d (.str r12.1))), (16, .c (.d (.list 1 p0.length (fun i => encStr (p0.getD i default))))), (17, .c (.d (.int .i64 (p0.length : Int)))), (18, .c (.d (.int .i64 ((i2 : Nat) : Int)))), (29, .c (.d (.bool (decide (r12.2 = 0)))))], [(1004, .vec 1 a3.2.length (fun i => encStr (a3.2.getD i default)))]⟩) (c := True ∧ True ∧ True ∧ True) (by kernel_rfl) ⟨trivial, trivial, trivial, trivial⟩ ?_
        refine At.case (fun b => ⟨[(3, .c (.d (.str a3.1))), (4, .c (.own 1004 1 0 a3.2.length)), (6, .c (.d (.str (p0.getD i2 default)))), (7, .c (.d (.str r12.1))), (16, .c (.d (.list 1 p0.length (fun i => encStr (p0.getD i default))))), (17, .c (.d (.int .i64 (p0.length : Int)))), (18, .c (.d (.int .i64 ((i2 : Nat) : Int)))), (29, .c (.d (.bool b)))], [(1004, .vec 1 a3.2.length (fun i => encStr (a3.2.getD i default)))]⟩) (b := (decide (r12.2 = 0))) h (fun h => ?_) (fun h => ?_)
        · refine At.seg 4 [3, 4, 6, 7, 16, 17, 18, 33] [1004] (s' := ⟨[(3, .c (.d (.str a3.1))), (4, .c (.own 1004 1 0 a3.2.length)), (6, .c (.d (.str (p0.getD i2 default)))), (7, .c (.d (.str r12.1))), (16, .c (.d (.list 1 p0.length (fun i => encStr (p0.getD i default))))), (17, .c (.d (.int .i64 (p0.length : Int)))), (18, .c (.d (.int .i64 ((i2 : Nat) : Int)))), (33, .c (.d (.bool (decide ((a3.1.size : Int) < 1000000)))))], [(1004, .vec 1 a3.2.length (fun i => encStr (a3.2.getD i default)))]⟩) (c := True ∧ True ∧ True ∧ True ∧ True) (by kernel_rfl) ⟨trivial, trivial, trivial, trivial, trivial⟩ ?_
          refine At.done rfl ?_
          exact ⟨_, h, rfl⟩
        · refine At.seg 4 [3, 4, 6, 7, 16, 17, 18, 33] [1004] (s' := ⟨[(3, .c (.d (.str a3.1))), (4, .c (.own 1004 1 0 a3.2.length)), (6, .c (.d (.str (p0.getD i2 default)))), (7, .c (.d (.str r12.1))), (16, .c (.d (.list 1 p0.length (fun i => encStr (p0.getD i default))))), (17, .c (.d (.int .i64 (p0.length : Int)))), (18, .c (.d (.int .i64 ((i2 : Nat) : Int)))), (33, .c (.d (.bool false)))], [(1004, .vec 1 a3.2.length (fun i => encStr (a3.2.getD i default)))]⟩) (c := True ∧ True) (by kernel_rfl) ⟨trivial, trivial⟩ ?_
          refine At.done rfl ?_
          exact ⟨_, h, rfl⟩
    · intro a4 h
      show Tri _ _ _ _
      refine Tri.seqS ?_
      refine Tri.seqS ?_
      refine Tri.reg ?_
      refine At.seg 3 [3, 42, 43, 44] [1004] (s' := ⟨[(3, .c (.d (.str a4.1))), (42, .c (.own 1004 1 0 a4.2.length)), (43, .c (.d (.int .i64 (a4.2.length : Int)))), (44, .c (.d (.int .i64 0)))], [(1004, .vec 1 a4.2.length (fun i => encStr (a4.2.getD i default)))]⟩) (c := True ∧ True ∧ True ∧ True) (by kernel_rfl) ⟨trivial, trivial, trivial, trivial⟩ ?_
      refine At.done rfl ?_
      show Tri _ _ _ _
      refine Tri.lenOfO (t := 42) rfl rfl (Nat.le_refl _) fun hlena6 => ?_
      refine Tri.keep [44, 3, 42, 43] [1004] (s' := idx 44 0 ⟨[(3, .c (.d (.str a4.1))), (42, .c (.own 1004 1 0 a4.2.length)), (43, .c (.d (.int .i64 (a4.2.length : Int))))], [(1004, .vec 1 a4.2.length (fun i => encStr (a4.2.getD i default)))]⟩) (by kernel_rfl) ?_
      refine Tri.range (n := a4.2.length) (st0 := a4.1) (fun (x : Bool) s => RetAt Try.prog Try.f10 (.c (.d (.bool x))) [] s) (fun (a6 : ByteArray) => ⟨[(3, .c (.d (.str a6))), (42, .c (.own 1004 1 0 a4.2.length)), (43, .c (.d (.int .i64 (a4.2.length : Int))))], [(1004, .vec 1 a4.2.length (fun i => encStr (a4.2.getD i default)))]⟩) (fun (a6 : ByteArray) => ⟨[(3, .c (.d (.str a6))), (42, .c (.own 1004 1 0 a4.2.length)), (43, .c (.d (.int .i64 (a4.2.length : Int))))], [(1004, .vec 1 a4.2.length (fun i => encStr (a4.2.getD i default)))]⟩) (fun i => decide ((i : Int) < (a4.2.length : Int))) [45, 44, 3, 42, 43] [1004] [3, 42, 43] [1004] [44, 3, 42, 43] [1004] h hlena6 rfl ?_ ?_ ?_ ?_ ?_ ?_ ?_ ?_
      · exact fun i a => ⟨True ∧ True, by kernel_rfl, ⟨trivial, trivial⟩⟩
      · exact fun i hi => decide_eq_true (by omega)
      · exact decide_eq_false (by omega)
      · exact fun a => by kernel_rfl
      · exact fun i a => ⟨True ∧ True ∧ True, by kernel_rfl, ⟨trivial, trivial, trivial⟩⟩
      · intro i5 a6 c hii5 h
        refine Tri.seqS ?_
        refine Tri.reg ?_
        obtain ⟨hc8, h⟩ := need_elim h
        refine At.seg 3 [3, 10, 42, 43, 44] [1004] (s' := ⟨[(3, .c (.d (.str a6))), (10, .c (.d (.str (a4.2.getD (0 + i5) default)))), (42, .c (.own 1004 1 0 a4.2.length)), (43, .c (.d (.int .i64 (a4.2.length : Int)))), (44, .c (.d (.int .i64 ((i5 : Nat) : Int))))], [(1004, .vec 1 a4.2.length (fun i => encStr (a4.2.getD i default)))]⟩) (c := ((0 : Int) ≤ ((i5 : Nat) : Int) ∧ ((i5 : Nat) : Int) < (a4.2.length : Int)) ∧ ((0 + i5) < a4.2.length) ∧ True ∧ True) (by kernel_rfl) ⟨⟨by omega, by omega⟩, hc8, trivial, trivial⟩ ?_
        refine At.done rfl ?_
        show Tri _ _ _ _
        refine Tri.seqS ?_
        refine Tri.reg ?_
        refine At.seg 1 [10, 42, 43, 44, 49] [1004] (s' := ⟨[(10, .c (.d (.str (a4.2.getD (0 + i5) default)))), (42, .c (.own 1004 1 0 a4.2.length)), (43, .c (.d (.int .i64 (a4.2.length : Int)))), (44, .c (.d (.int .i64 ((i5 : Nat) : Int)))), (49, .c (.d (.str a6)))], [(1004, .vec 1 a4.2.length (fun i => encStr (a4.2.getD i default)))]⟩) (c := True ∧ True) (by kernel_rfl) ⟨trivial, trivial⟩ ?_
        obtain ⟨r9, hr9, h⟩ := bind_elim h
        refine At.callA (caps := []) (xs := [.c (.d (.str a6))]) (pack_TakeFrame_ok hr9) rfl rfl rfl rfl rfl rfl (.cons (.refl _) .nil) rfl rfl ?_
        refine At.seg 7 [10, 11, 12, 13, 42, 43, 44] [1004] (s' := ⟨[(10, .c (.d (.str (a4.2.getD (0 + i5) default)))), (11, .c (.d (.str r9.1))), (12, .c (.d (.str r9.2.1))), (13, .c (.d (.int .i64 r9.2.2))), (42, .c (.own 1004 1 0 a4.2.length)), (43, .c (.d (.int .i64 (a4.2.length : Int)))), (44, .c (.d (.int .i64 ((i5 : Nat) : Int))))], [(1004, .vec 1 a4.2.length (fun i => encStr (a4.2.getD i default)))]⟩) (c := True ∧ True ∧ True ∧ True ∧ True ∧ True ∧ True ∧ True) (by kernel_rfl) ⟨trivial, trivial, trivial, trivial, trivial, trivial, trivial, trivial⟩ ?_
        refine At.done rfl ?_
        show Tri _ _ _ _
        refine Tri.seqS ?_
        refine Tri.seqJ (fun (a10 : Bool) => ⟨[(12, .c (.d (.str r9.2.1))), (42, .c (.own 1004 1 0 a4.2.length)), (43, .c (.d (.int .i64 (a4.2.length : Int)))), (44, .c (.d (.int .i64 ((i5 : Nat) : Int)))), (60, .c (.d (.bool a10)))], [(1004, .vec 1 a4.2.length (fun i => encStr (a4.2.getD i default)))]⟩) h (fun a10 h => ?_) (fun j11 h => ?_)
        · show Tri _ _ ⟨[(12, .c (.d (.str r9.2.1))), (42, .c (.own 1004 1 0 a4.2.length)), (43, .c (.d (.int .i64 (a4.2.length : Int)))), (44, .c (.d (.int .i64 ((i5 : Nat) : Int)))), (60, .c (.d (.bool a10)))], [(1004, .vec 1 a4.2.length (fun i => encStr (a4.2.getD i default)))]⟩ _
          refine Tri.condP (b := a10) rfl h (fun h => ?_) (fun h => ?_)
          · refine Tri.seqS ?_
            refine Tri.reg ?_
            refine At.seg 1 [2] [] (s' := ⟨[(2, .c (.d (.bool false)))], []⟩) (c := True ∧ True) (by kernel_rfl) ⟨trivial, trivial⟩ ?_
            refine At.done rfl ?_
            show Tri _ _ _ _
            refine Tri.keep [2] [] (s' := ⟨[(2, .c (.d (.bool false)))], []⟩) (by kernel_rfl) ?_
            refine Tri.ret ?_
            cases h
            refine ⟨_, _, rfl, ⟨trivial, trivial⟩, rfl, rfl, ?_⟩
            intro k c h
            cases h
          · refine Tri.skip ?_
            show Tri _ _ _ _
            refine Tri.reg ?_
            refine At.seg 2 [44, 3, 42, 43] [1004] (s' := ⟨[(44, .c (.d (.int .i64 ((i5 : Nat) : Int)))), (3, .c (.d (.str r9.2.1))), (42, .c (.own 1004 1 0 a4.2.length)), (43, .c (.d (.int .i64 (a4.2.length : Int))))], [(1004, .vec 1 a4.2.length (fun i => encStr (a4.2.getD i default)))]⟩) (c := True ∧ True ∧ True) (by kernel_rfl) ⟨trivial, trivial, trivial⟩ ?_
            refine At.done rfl ?_
            cases h
            exact rfl
        · refine Tri.reg ?_
          refine At.seg 3 [10, 11, 12, 42, 43, 44, 56] [1004] (s' := ⟨[(10, .c (.d (.str (a4.2.getD (0 + i5) default)))), (11, .c (.d (.str r9.1))), (12, .c (.d (.str r9.2.1))), (42, .c (.own 1004 1 0 a4.2.length)), (43, .c (.d (.int .i64 (a4.2.length : Int)))), (44, .c (.d (.int .i64 ((i5 : Nat) : Int)))), (56, .c (.d (.bool (!decide (r9.2.2 = 0)))))], [(1004, .vec 1 a4.2.length (fun i => encStr (a4.2.getD i default)))]⟩) (c := True ∧ True ∧ True ∧ True) (by kernel_rfl) ⟨trivial, trivial, trivial, trivial⟩ ?_
          refine At.case (fun b => ⟨[(10, .c (.d (.str (a4.2.getD (0 + i5) default)))), (11, .c (.d (.str r9.1))), (12, .c (.d (.str r9.2.1))), (42, .c (.own 1004 1 0 a4.2.length)), (43, .c (.d (.int .i64 (a4.2.length : Int)))), (44, .c (.d (.int .i64 ((i5 : Nat) : Int)))), (56, .c (.d (.bool b)))], [(1004, .vec 1 a4.2.length (fun i => encStr (a4.2.getD i default)))]⟩) (b := (!decide (r9.2.2 = 0))) h (fun h => ?_) (fun h => ?_)
          · refine At.seg 4 [12, 42, 43, 44, 60] [1004] (s' := ⟨[(12, .c (.d (.str r9.2.1))), (42, .c (.own 1004 1 0 a4.2.length)), (43, .c (.d (.int .i64 (a4.2.length : Int)))), (44, .c (.d (.int .i64 ((i5 : Nat) : Int)))), (60, .c (.d (.bool true)))], [(1004, .vec 1 a4.2.length (fun i => encStr (a4.2.getD i default)))]⟩) (c := True ∧ True) (by kernel_rfl) ⟨trivial, trivial⟩ ?_
            refine At.done rfl ?_
            exact ⟨_, h, rfl⟩
          · refine At.seg 4 [12, 42, 43, 44, 60] [1004] (s' := ⟨[(12, .c (.d (.str r9.2.1))), (42, .c (.own 1004 1 0 a4.2.length)), (43, .c (.d (.int .i64 (a4.2.length : Int)))), (44, .c (.d (.int .i64 ((i5 : Nat) : Int)))), (60, .c (.d (.bool (!strEq r9.1 (a4.2.getD (0 + i5) default)))))], [(1004, .vec 1 a4.2.length (fun i => encStr (a4.2.getD i default)))]⟩) (c := True ∧ True ∧ True ∧ True ∧ True) (by kernel_rfl) ⟨trivial, trivial, trivial, trivial, trivial⟩ ?_
            refine At.done rfl ?_
            exact ⟨_, h, rfl⟩
      · intro a7 h
        show Tri _ _ _ _
        refine Tri.seqS ?_
        refine Tri.reg ?_
        refine At.seg 3 [2] [] (s' := ⟨[(2, .c (.d (.bool (strEq a7 (bs [])))))], []⟩) (c := True ∧ True ∧ True ∧ True) (by kernel_rfl) ⟨trivial, trivial, trivial, trivial⟩ ?_
        refine At.done rfl ?_
        show Tri _ _ _ _
        refine Tri.keep [2] [] (s' := ⟨[(2, .c (.d (.bool (strEq a7 (bs [])))))], []⟩) (by kernel_rfl) ?_
        refine Tri.ret ?_
        cases h
        refine ⟨_, _, rfl, ⟨trivial, trivial⟩, rfl, rfl, ?_⟩
        intro k c h
        cases h
      · exact fun x s hx hr => by cases hx; exact hr
    · exact fun x => x.elim

set_option maxRecDepth 100000 in
theorem freshetlaw01_PackShort_ok {p0 : Int} {p1 : ByteArray} {p2 : Int} {q : Bool} (h : freshetlaw01_PackShort p0 p1 p2 = some q) :
    Summ Try.prog 11 [.c (.d (.int .u64 p0)), .c (.d (.str p1)), .c (.d (.int .i64 p2))] [] (.c (.d (.bool q))) [] := by
  refine Summ.intro Try.func11 rfl (by kernel_rfl) (by kernel_rfl) [] rfl ?_
  rintro ⟨P, w0, G0, V, LL, lk, N, φ0, fx⟩ rfl rfl rfl rfl
  unfold freshetlaw01_PackShort at h
  refine Tri.seqS ?_
  refine Tri.reg ?_
  refine At.seg 1 [0, 1, 2] [] (s' := ⟨[(0, .c (.d (.int .u64 p0))), (1, .c (.d (.str p1))), (2, .c (.d (.int .i64 p2)))], []⟩) (c := True ∧ True) (by kernel_rfl) ⟨trivial, trivial⟩ ?_
  refine At.done rfl ?_
  show Tri _ _ _ _
  refine Tri.seqS ?_
  refine Tri.seqJ (fun (a1 : Bool) => ⟨[(0, .c (.d (.int .u64 p0))), (1, .c (.d (.str p1))), (2, .c (.d (.int .i64 p2))), (21, .c (.d (.bool a1)))], []⟩) h (fun a1 h => ?_) (fun j2 h => ?_)
  · show Tri _ _ ⟨[(0, .c (.d (.int .u64 p0))), (1, .c (.d (.str p1))), (2, .c (.d (.int .i64 p2))), (21, .c (.d (.bool a1)))], []⟩ _
    refine Tri.condP (b := a1) rfl h (fun h => ?_) (fun h => ?_)
    · refine Tri.seqS ?_
      refine Tri.reg ?_
      refine At.seg 1 [6] [] (s' := ⟨[(6, .c (.d (.bool false)))], []⟩) (c := True ∧ True) (by kernel_rfl) ⟨trivial, trivial⟩ ?_
      refine At.done rfl ?_
      show Tri _ _ _ _
      refine Tri.keep [6] [] (s' := ⟨[(6, .c (.d (.bool false)))], []⟩) (by kernel_rfl) ?_
      refine Tri.ret ?_
      cases h
      refine ⟨_, _, rfl, ⟨trivial, trivial⟩, rfl, rfl, ?_⟩
      intro k c h
      cases h
    · refine Tri.skip ?_
      show Tri _ _ _ _
      refine Tri.seqS ?_
      refine Tri.reg ?_
      refine At.seg 1 [0, 2, 23] [] (s' := ⟨[(0, .c (.d (.int .u64 p0))), (2, .c (.d (.int .i64 p2))), (23, .c (.d (.str p1)))], []⟩) (c := True ∧ True) (by kernel_rfl) ⟨trivial, trivial⟩ ?_
      obtain ⟨r3, hr3, h⟩ := bind_elim h
      refine At.callA (caps := []) (xs := [.c (.d (.str p1))]) (pack_Frame_ok hr3) rfl rfl rfl rfl rfl rfl (.cons (.refl _) .nil) rfl rfl ?_
      refine At.seg 5 [0, 2, 7, 8] [] (s' := ⟨[(0, .c (.d (.int .u64 p0))), (2, .c (.d (.int .i64 p2))), (7, .c (.d (.str r3.1))), (8, .c (.d (.int .i64 r3.2)))], []⟩) (c := True ∧ True ∧ True ∧ True ∧ True ∧ True) (by kernel_rfl) ⟨trivial, trivial, trivial, trivial, trivial, trivial⟩ ?_
      refine At.done rfl ?_
      show Tri _ _ _ _
      refine Tri.seqS ?_
      refine Tri.reg ?_
      refine At.seg 1 [2, 7, 8, 27] [] (s' := ⟨[(2, .c (.d (.int .i64 p2))), (7, .c (.d (.str r3.1))), (8, .c (.d (.int .i64 r3.2))), (27, .c (.d (.int .u64 p0)))], []⟩) (c := True ∧ True) (by kernel_rfl) ⟨trivial, trivial⟩ ?_
      obtain ⟨r4, hr4, h⟩ := bind_elim h
      refine At.callA (caps := []) (xs := [.c (.d (.int .u64 p0))]) (pack_Count_ok hr4) rfl rfl rfl rfl rfl rfl (.cons (.refl _) .nil) rfl rfl ?_
      refine At.seg 1 [2, 7, 8, 9] [] (s' := ⟨[(2, .c (.d (.int .i64 p2))), (7, .c (.d (.str r3.1))), (8, .c (.d (.int .i64 r3.2))), (9, .c (.d (.str r4)))], []⟩) (c := True ∧ True) (by kernel_rfl) ⟨trivial, trivial⟩ ?_
      refine At.done rfl ?_
      show Tri _ _ _ _
      refine Tri.seqJ (fun (a5 : Unit) => ⟨[(2, .c (.d (.int .i64 p2))), (7, .c (.d (.str r3.1))), (8, .c (.d (.int .i64 r3.2)))], []⟩) h (fun a5 h => ?_) (fun j6 h => ?_)
      · show Tri _ _ ⟨[(2, .c (.d (.int .i64 p2))), (7, .c (.d (.str r3.1))), (8, .c (.d (.int .i64 r3.2)))], []⟩ _
        refine Tri.seqS ?_
        refine Tri.seqJ (fun (a7 : Bool) => ⟨[(2, .c (.d (.int .i64 p2))), (7, .c (.d (.str r3.1))), (58, .c (.d (.bool a7)))], []⟩) h (fun a7 h => ?_) (fun j8 h => ?_)
        · show Tri _ _ ⟨[(2, .c (.d (.int .i64 p2))), (7, .c (.d (.str r3.1))), (58, .c (.d (.bool a7)))], []⟩ _
          refine Tri.condP (b := a7) rfl h (fun h => ?_) (fun h => ?_)
          · refine Tri.seqS ?_
            refine Tri.reg ?_
            refine At.seg 1 [6] [] (s' := ⟨[(6, .c (.d (.bool true)))], []⟩) (c := True ∧ True) (by kernel_rfl) ⟨trivial, trivial⟩ ?_
            refine At.done rfl ?_
            show Tri _ _ _ _
            refine Tri.keep [6] [] (s' := ⟨[(6, .c (.d (.bool true)))], []⟩) (by kernel_rfl) ?_
            refine Tri.ret ?_
            cases h
            refine ⟨_, _, rfl, ⟨trivial, trivial⟩, rfl, rfl, ?_⟩
            intro k c h
            cases h
          · refine Tri.skip ?_
            show Tri _ _ _ _
            refine Tri.seqS ?_
            refine Tri.reg ?_
            obtain ⟨hc9, h⟩ := need_elim h
            refine At.seg 3 [62] [] (s' := ⟨[(62, .c (.d (.str (r3.1.extract 0 p2.toNat))))], []⟩) (c := True ∧ True ∧ ((0 : Int) ≤ 0 ∧ (0 : Int) ≤ p2 ∧ p2 ≤ (r3.1.size : Int)) ∧ True) (by kernel_rfl) ⟨trivial, trivial, hc9, trivial⟩ ?_
            obtain ⟨r10, hr10, h⟩ := bind_elim h
            refine At.callA (caps := []) (xs := [.c (.d (.str (r3.1.extract 0 p2.toNat)))]) (pack_TakeFrame_ok hr10) rfl rfl rfl rfl rfl rfl (.cons (.refl _) .nil) rfl rfl ?_
            refine At.seg 7 [15] [] (s' := ⟨[(15, .c (.d (.int .i64 r10.2.2)))], []⟩) (c := True ∧ True ∧ True ∧ True ∧ True ∧ True ∧ True ∧ True) (by kernel_rfl) ⟨trivial, trivial, trivial, trivial, trivial, trivial, trivial, trivial⟩ ?_
            refine At.done rfl ?_
            show Tri _ _ _ _
            refine Tri.seqS ?_
            refine Tri.reg ?_
            refine At.seg 3 [6] [] (s' := ⟨[(6, .c (.d (.bool (decide (r10.2.2 = 3)))))], []⟩) (c := True ∧ True ∧ True ∧ True) (by kernel_rfl) ⟨trivial, trivial, trivial, trivial⟩ ?_
            refine At.done rfl ?_
            show Tri _ _ _ _
            refine Tri.keep [6] [] (s' := ⟨[(6, .c (.d (.bool (decide (r10.2.2 = 3)))))], []⟩) (by kernel_rfl) ?_
            refine Tri.ret ?_
            cases h
            refine ⟨_, _, rfl, ⟨trivial, trivial⟩, rfl, rfl, ?_⟩
            intro k c h
            cases h
        · refine Tri.reg ?_
          refine At.seg 3 [2, 7, 49] [] (s' := ⟨[(2, .c (.d (.int .i64 p2))), (7, .c (.d (.str r3.1))), (49, .c (.d (.bool (!decide (r3.2 = 0)))))], []⟩) (c := True ∧ True ∧ True ∧ True) (by kernel_rfl) ⟨trivial, trivial, trivial, trivial⟩ ?_
          refine At.case (fun b => ⟨[(2, .c (.d (.int .i64 p2))), (7, .c (.d (.str r3.1))), (49, .c (.d (.bool b)))], []⟩) (b := (!decide (r3.2 = 0))) h (fun h => ?_) (fun h => ?_)
          · refine At.seg 9 [2, 7, 58] [] (s' := ⟨[(2, .c (.d (.int .i64 p2))), (7, .c (.d (.str r3.1))), (58, .c (.d (.bool true)))], []⟩) (c := True ∧ True ∧ True ∧ True) (by kernel_rfl) ⟨trivial, trivial, trivial, trivial⟩ ?_
            refine At.done rfl ?_
            exact ⟨_, h, rfl⟩
          · refine At.seg 4 [2, 7, 53] [] (s' := ⟨[(2, .c (.d (.int .i64 p2))), (7, .c (.d (.str r3.1))), (53, .c (.d (.bool (decide (p2 < 0)))))], []⟩) (c := True ∧ True ∧ True ∧ True ∧ True) (by kernel_rfl) ⟨trivial, trivial, trivial, trivial, trivial⟩ ?_
            refine At.case (fun b => ⟨[(2, .c (.d (.int .i64 p2))), (7, .c (.d (.str r3.1))), (53, .c (.d (.bool b)))], []⟩) (b := (decide (p2 < 0))) h (fun h => ?_) (fun h => ?_)
            · refine At.seg 5 [2, 7, 58] [] (s' := ⟨[(2, .c (.d (.int .i64 p2))), (7, .c (.d (.str r3.1))), (58, .c (.d (.bool true)))], []⟩) (c := True ∧ True) (by kernel_rfl) ⟨trivial, trivial⟩ ?_
              refine At.done rfl ?_
              exact ⟨_, h, rfl⟩
            · refine At.seg 5 [2, 7, 58] [] (s' := ⟨[(2, .c (.d (.int .i64 p2))), (7, .c (.d (.str r3.1))), (58, .c (.d (.bool (decide ((r3.1.size : Int) ≤ p2)))))], []⟩) (c := True ∧ True ∧ True ∧ True ∧ True ∧ True) (by kernel_rfl) ⟨trivial, trivial, trivial, trivial, trivial, trivial⟩ ?_
              refine At.done rfl ?_
              exact ⟨_, h, rfl⟩
      · refine Tri.seqJ (fun (a11 : Bool) => ⟨[(2, .c (.d (.int .i64 p2))), (7, .c (.d (.str r3.1))), (8, .c (.d (.int .i64 r3.2))), (9, .c (.d (.str r4))), (36, .c (.d (.bool a11)))], []⟩) h (fun a11 h => ?_) (fun j12 h => ?_)
        · show Tri _ _ ⟨[(2, .c (.d (.int .i64 p2))), (7, .c (.d (.str r3.1))), (8, .c (.d (.int .i64 r3.2))), (9, .c (.d (.str r4))), (36, .c (.d (.bool a11)))], []⟩ _
          refine Tri.condP (b := a11) rfl h (fun h => ?_) (fun h => ?_)
          · refine Tri.seqS ?_
            refine Tri.reg ?_
            obtain ⟨hc13, h⟩ := need_elim h
            refine At.seg 3 [2, 7, 8, 40] [] (s' := ⟨[(2, .c (.d (.int .i64 p2))), (7, .c (.d (.str r3.1))), (8, .c (.d (.int .i64 r3.2))), (40, .c (.d (.str (r4.extract 0 p2.toNat))))], []⟩) (c := True ∧ True ∧ ((0 : Int) ≤ 0 ∧ (0 : Int) ≤ p2 ∧ p2 ≤ (r4.size : Int)) ∧ True) (by kernel_rfl) ⟨trivial, trivial, hc13, trivial⟩ ?_
            obtain ⟨r14, hr14, h⟩ := bind_elim h
            refine At.callA (caps := []) (xs := [.c (.d (.str (r4.extract 0 p2.toNat)))]) (pack_TakeCount_ok hr14) rfl rfl rfl rfl rfl rfl (.cons (.refl _) .nil) rfl rfl ?_
            refine At.seg 7 [2, 7, 8, 12] [] (s' := ⟨[(2, .c (.d (.int .i64 p2))), (7, .c (.d (.str r3.1))), (8, .c (.d (.int .i64 r3.2))), (12, .c (.d (.int .i64 r14.2.2)))], []⟩) (c := True ∧ True ∧ True ∧ True ∧ True ∧ True ∧ True ∧ True) (by kernel_rfl) ⟨trivial, trivial, trivial, trivial, trivial, trivial, trivial, trivial⟩ ?_
            refine At.done rfl ?_
            show Tri _ _ _ _
            refine Tri.seqS ?_
            refine Tri.reg ?_
            refine At.seg 2 [2, 7, 8, 46] [] (s' := ⟨[(2, .c (.d (.int .i64 p2))), (7, .c (.d (.str r3.1))), (8, .c (.d (.int .i64 r3.2))), (46, .c (.d (.bool (!decide (r14.2.2 = 3)))))], []⟩) (c := True ∧ True ∧ True) (by kernel_rfl) ⟨trivial, trivial, trivial⟩ ?_
            refine At.done rfl ?_
            show Tri _ _ _ _
            refine Tri.condP (b := (!decide (r14.2.2 = 3))) rfl h (fun h => ?_) (fun h => ?_)
            · refine Tri.seqS ?_
              refine Tri.reg ?_
              refine At.seg 1 [6] [] (s' := ⟨[(6, .c (.d (.bool false)))], []⟩) (c := True ∧ True) (by kernel_rfl) ⟨trivial, trivial⟩ ?_
              refine At.done rfl ?_
              show Tri _ _ _ _
              refine Tri.keep [6] [] (s' := ⟨[(6, .c (.d (.bool false)))], []⟩) (by kernel_rfl) ?_
              refine Tri.ret ?_
              cases h
              refine ⟨_, _, rfl, ⟨trivial, trivial⟩, rfl, rfl, ?_⟩
              intro k c h
              cases h
            · refine Tri.keep [2, 7, 8] [] (s' := ⟨[(2, .c (.d (.int .i64 p2))), (7, .c (.d (.str r3.1))), (8, .c (.d (.int .i64 r3.2)))], []⟩) (by kernel_rfl) ?_
              refine Tri.skip ?_
              exact ⟨_, h, rfl⟩
          · refine Tri.keep [2, 7, 8] [] (s' := ⟨[(2, .c (.d (.int .i64 p2))), (7, .c (.d (.str r3.1))), (8, .c (.d (.int .i64 r3.2)))], []⟩) (by kernel_rfl) ?_
            refine Tri.skip ?_
            exact ⟨_, h, rfl⟩
        · refine Tri.reg ?_
          refine At.seg 3 [2, 7, 8, 9, 31] [] (s' := ⟨[(2, .c (.d (.int .i64 p2))), (7, .c (.d (.str r3.1))), (8, .c (.d (.int .i64 r3.2))), (9, .c (.d (.str r4))), (31, .c (.d (.bool (decide (0 ≤ p2)))))], []⟩) (c := True ∧ True ∧ True ∧ True) (by kernel_rfl) ⟨trivial, trivial, trivial, trivial⟩ ?_
          refine At.case (fun b => ⟨[(2, .c (.d (.int .i64 p2))), (7, .c (.d (.str r3.1))), (8, .c (.d (.int .i64 r3.2))), (9, .c (.d (.str r4))), (31, .c (.d (.bool b)))], []⟩) (b := (decide (0 ≤ p2))) h (fun h => ?_) (fun h => ?_)
          · refine At.seg 5 [2, 7, 8, 9, 36] [] (s' := ⟨[(2, .c (.d (.int .i64 p2))), (7, .c (.d (.str r3.1))), (8, .c (.d (.int .i64 r3.2))), (9, .c (.d (.str r4))), (36, .c (.d (.bool (decide (p2 < (r4.size : Int))))))], []⟩) (c := True ∧ True ∧ True ∧ True ∧ True ∧ True) (by kernel_rfl) ⟨trivial, trivial, trivial, trivial, trivial, trivial⟩ ?_
            refine At.done rfl ?_
            exact ⟨_, h, rfl⟩
          · refine At.seg 5 [2, 7, 8, 9, 36] [] (s' := ⟨[(2, .c (.d (.int .i64 p2))), (7, .c (.d (.str r3.1))), (8, .c (.d (.int .i64 r3.2))), (9, .c (.d (.str r4))), (36, .c (.d (.bool false)))], []⟩) (c := True ∧ True) (by kernel_rfl) ⟨trivial, trivial⟩ ?_
            refine At.done rfl ?_
            exact ⟨_, h, rfl⟩
  · refine Tri.reg ?_
    obtain ⟨r15, hr15, h⟩ := bind_elim h
    refine At.callA (caps := []) (xs := []) (freshetlaw01_counts_ok hr15) rfl rfl rfl rfl rfl rfl .nil rfl rfl ?_
    refine At.seg 2 [0, 1, 2, 18] [] (s' := ⟨[(0, .c (.d (.int .u64 p0))), (1, .c (.d (.str p1))), (2, .c (.d (.int .i64 p2))), (18, .c (.d (.bool (!r15))))], []⟩) (c := True ∧ True ∧ True) (by kernel_rfl) ⟨trivial, trivial, trivial⟩ ?_
    refine At.case (fun b => ⟨[(0, .c (.d (.int .u64 p0))), (1, .c (.d (.str p1))), (2, .c (.d (.int .i64 p2))), (18, .c (.d (.bool b)))], []⟩) (b := (!r15)) h (fun h => ?_) (fun h => ?_)
    · refine At.seg 3 [0, 1, 2, 21] [] (s' := ⟨[(0, .c (.d (.int .u64 p0))), (1, .c (.d (.str p1))), (2, .c (.d (.int .i64 p2))), (21, .c (.d (.bool true)))], []⟩) (c := True ∧ True) (by kernel_rfl) ⟨trivial, trivial⟩ ?_
      refine At.done rfl ?_
      exact ⟨_, h, rfl⟩
    · obtain ⟨r16, hr16, h⟩ := bind_elim h
      refine At.callA (caps := []) (xs := []) (freshetlaw01_frames_ok hr16) rfl rfl rfl rfl rfl rfl .nil rfl rfl ?_
      refine At.seg 2 [0, 1, 2, 21] [] (s' := ⟨[(0, .c (.d (.int .u64 p0))), (1, .c (.d (.str p1))), (2, .c (.d (.int .i64 p2))), (21, .c (.d (.bool (!r16))))], []⟩) (c := True ∧ True ∧ True) (by kernel_rfl) ⟨trivial, trivial, trivial⟩ ?_
      refine At.done rfl ?_
      exact ⟨_, h, rfl⟩

set_option maxRecDepth 100000 in
theorem freshetlaw01_PackBack_ok {p0 : Int} {p1 : Int} {p2 : ByteArray} {p3 : ByteArray} {q : Bool} (h : freshetlaw01_PackBack p0 p1 p2 p3 = some q) :
    Summ Try.prog 12 [.c (.d (.int .u64 p0)), .c (.d (.int .i64 p1)), .c (.d (.str p2)), .c (.d (.str p3))] [] (.c (.d (.bool q))) [] := by
  refine Summ.intro Try.func12 rfl (by kernel_rfl) (by kernel_rfl) [] rfl ?_
  rintro ⟨P, w0, G0, V, LL, lk, N, φ0, fx⟩ rfl rfl rfl rfl
  unfold freshetlaw01_PackBack at h
  refine Tri.seqS ?_
  refine Tri.reg ?_
  refine At.seg 1 [0, 1, 2, 3] [] (s' := ⟨[(0, .c (.d (.int .u64 p0))), (1, .c (.d (.int .i64 p1))), (2, .c (.d (.str p2))), (3, .c (.d (.str p3)))], []⟩) (c := True ∧ True) (by kernel_rfl) ⟨trivial, trivial⟩ ?_
  refine At.done rfl ?_
  show Tri _ _ _ _
  refine Tri.seqS ?_
  refine Tri.seqJ (fun (a1 : Bool) => ⟨[(0, .c (.d (.int .u64 p0))), (1, .c (.d (.int .i64 p1))), (2, .c (.d (.str p2))), (3, .c (.d (.str p3))), (28, .c (.d (.bool a1)))], []⟩) h (fun a1 h => ?_) (fun j2 h => ?_)
  · show Tri _ _ ⟨[(0, .c (.d (.int .u64 p0))), (1, .c (.d (.int .i64 p1))), (2, .c (.d (.str p2))), (3, .c (.d (.str p3))), (28, .c (.d (.bool a1)))], []⟩ _
    refine Tri.condP (b := a1) rfl h (fun h => ?_) (fun h => ?_)
    · refine Tri.seqS ?_
      refine Tri.reg ?_
      refine At.seg 1 [8] [] (s' := ⟨[(8, .c (.d (.bool false)))], []⟩) (c := True ∧ True) (by kernel_rfl) ⟨trivial, trivial⟩ ?_
      refine At.done rfl ?_
      show Tri _ _ _ _
      refine Tri.keep [8] [] (s' := ⟨[(8, .c (.d (.bool false)))], []⟩) (by kernel_rfl) ?_
      refine Tri.ret ?_
      cases h
      refine ⟨_, _, rfl, ⟨trivial, trivial⟩, rfl, rfl, ?_⟩
      intro k c h
      cases h
    · refine Tri.skip ?_
      show Tri _ _ _ _
      refine Tri.seqS ?_
      refine Tri.reg ?_
      refine At.seg 1 [0, 1, 2, 3, 30] [] (s' := ⟨[(0, .c (.d (.int .u64 p0))), (1, .c (.d (.int .i64 p1))), (2, .c (.d (.str p2))), (3, .c (.d (.str p3))), (30, .c (.d (.int .u64 p0)))], []⟩) (c := True ∧ True) (by kernel_rfl) ⟨trivial, trivial⟩ ?_
      obtain ⟨r3, hr3, h⟩ := bind_elim h
      refine At.callA (caps := []) (xs := [.c (.d (.int .u64 p0))]) (pack_Count_ok hr3) rfl rfl rfl rfl rfl rfl (.cons (.refl _) .nil) rfl rfl ?_
      obtain ⟨hc4, h⟩ := need_elim h
      refine At.seg 2 [0, 1, 2, 3, 33] [] (s' := ⟨[(0, .c (.d (.int .u64 p0))), (1, .c (.d (.int .i64 p1))), (2, .c (.d (.str p2))), (3, .c (.d (.str p3))), (33, .c (.d (.str (r3 ++ p3))))], []⟩) (c := True ∧ (((r3.size + p3.size : Nat) : Int) ≤ 9223372036854775807) ∧ True) (by kernel_rfl) ⟨trivial, hc4, trivial⟩ ?_
      obtain ⟨r5, hr5, h⟩ := bind_elim h
      refine At.callA (caps := []) (xs := [.c (.d (.str (r3 ++ p3)))]) (pack_TakeCount_ok hr5) rfl rfl rfl rfl rfl rfl (.cons (.refl _) .nil) rfl rfl ?_
      refine At.seg 7 [0, 1, 2, 3, 9, 10, 11] [] (s' := ⟨[(0, .c (.d (.int .u64 p0))), (1, .c (.d (.int .i64 p1))), (2, .c (.d (.str p2))), (3, .c (.d (.str p3))), (9, .c (.d (.int .u64 r5.1))), (10, .c (.d (.str r5.2.1))), (11, .c (.d (.int .i64 r5.2.2)))], []⟩) (c := True ∧ True ∧ True ∧ True ∧ True ∧ True ∧ True ∧ True) (by kernel_rfl) ⟨trivial, trivial, trivial, trivial, trivial, trivial, trivial, trivial⟩ ?_
      refine At.done rfl ?_
      show Tri _ _ _ _
      refine Tri.seqS ?_
      refine Tri.reg ?_
      refine At.seg 1 [0, 1, 2, 3, 9, 10, 11, 39] [] (s' := ⟨[(0, .c (.d (.int .u64 p0))), (1, .c (.d (.int .i64 p1))), (2, .c (.d (.str p2))), (3, .c (.d (.str p3))), (9, .c (.d (.int .u64 r5.1))), (10, .c (.d (.str r5.2.1))), (11, .c (.d (.int .i64 r5.2.2))), (39, .c (.d (.int .i64 p1)))], []⟩) (c := True ∧ True) (by kernel_rfl) ⟨trivial, trivial⟩ ?_
      obtain ⟨r6, hr6, h⟩ := bind_elim h
      refine At.callA (caps := []) (xs := [.c (.d (.int .i64 p1))]) (pack_Number_ok hr6) rfl rfl rfl rfl rfl rfl (.cons (.refl _) .nil) rfl rfl ?_
      obtain ⟨hc7, h⟩ := need_elim h
      refine At.seg 2 [0, 1, 2, 3, 9, 10, 11, 42] [] (s' := ⟨[(0, .c (.d (.int .u64 p0))), (1, .c (.d (.int .i64 p1))), (2, .c (.d (.str p2))), (3, .c (.d (.str p3))), (9, .c (.d (.int .u64 r5.1))), (10, .c (.d (.str r5.2.1))), (11, .c (.d (.int .i64 r5.2.2))), (42, .c (.d (.str (r6 ++ p3))))], []⟩) (c := True ∧ (((r6.size + p3.size : Nat) : Int) ≤ 9223372036854775807) ∧ True) (by kernel_rfl) ⟨trivial, hc7, trivial⟩ ?_
      obtain ⟨r8, hr8, h⟩ := bind_elim h
      refine At.callA (caps := []) (xs := [.c (.d (.str (r6 ++ p3)))]) (pack_TakeNumber_ok hr8) rfl rfl rfl rfl rfl rfl (.cons (.refl _) .nil) rfl rfl ?_
      refine At.seg 7 [0, 1, 2, 3, 9, 10, 11, 12, 13, 14] [] (s' := ⟨[(0, .c (.d (.int .u64 p0))), (1, .c (.d (.int .i64 p1))), (2, .c (.d (.str p2))), (3, .c (.d (.str p3))), (9, .c (.d (.int .u64 r5.1))), (10, .c (.d (.str r5.2.1))), (11, .c (.d (.int .i64 r5.2.2))), (12, .c (.d (.int .i64 r8.1))), (13, .c (.d (.str r8.2.1))), (14, .c (.d (.int .i64 r8.2.2)))], []⟩) (c := True ∧ True ∧ True ∧ True ∧ True ∧ True ∧ True ∧ True) (by kernel_rfl) ⟨trivial, trivial, trivial, trivial, trivial, trivial, trivial, trivial⟩ ?_
      refine At.done rfl ?_
      show Tri _ _ _ _
      refine Tri.seqS ?_
      refine Tri.seqJ (fun (a9 : Bool) => ⟨[(2, .c (.d (.str p2))), (3, .c (.d (.str p3))), (72, .c (.d (.bool a9)))], []⟩) h (fun a9 h => ?_) (fun j10 h => ?_)
      · show Tri _ _ ⟨[(2, .c (.d (.str p2))), (3, .c (.d (.str p3))), (72, .c (.d (.bool a9)))], []⟩ _
        refine Tri.condP (b := a9) rfl h (fun h => ?_) (fun h => ?_)
        · refine Tri.seqS ?_
          refine Tri.reg ?_
          refine At.seg 1 [8] [] (s' := ⟨[(8, .c (.d (.bool false)))], []⟩) (c := True ∧ True) (by kernel_rfl) ⟨trivial, trivial⟩ ?_
          refine At.done rfl ?_
          show Tri _ _ _ _
          refine Tri.keep [8] [] (s' := ⟨[(8, .c (.d (.bool false)))], []⟩) (by kernel_rfl) ?_
          refine Tri.ret ?_
          cases h
          refine ⟨_, _, rfl, ⟨trivial, trivial⟩, rfl, rfl, ?_⟩
          intro k c h
          cases h
        · refine Tri.skip ?_
          show Tri _ _ _ _
          refine Tri.seqS ?_
          refine Tri.reg ?_
          refine At.seg 1 [2, 3, 74] [] (s' := ⟨[(2, .c (.d (.str p2))), (3, .c (.d (.str p3))), (74, .c (.d (.str p2)))], []⟩) (c := True ∧ True) (by kernel_rfl) ⟨trivial, trivial⟩ ?_
          obtain ⟨r11, hr11, h⟩ := bind_elim h
          refine At.callA (caps := []) (xs := [.c (.d (.str p2))]) (pack_Text_ok hr11) rfl rfl rfl rfl rfl rfl (.cons (.refl _) .nil) rfl rfl ?_
          obtain ⟨hc12, h⟩ := need_elim h
          refine At.seg 2 [2, 3, 77] [] (s' := ⟨[(2, .c (.d (.str p2))), (3, .c (.d (.str p3))), (77, .c (.d (.str (r11 ++ p3))))], []⟩) (c := True ∧ (((r11.size + p3.size : Nat) : Int) ≤ 9223372036854775807) ∧ True) (by kernel_rfl) ⟨trivial, hc12, trivial⟩ ?_
          obtain ⟨r13, hr13, h⟩ := bind_elim h
          refine At.callA (caps := []) (xs := [.c (.d (.str (r11 ++ p3)))]) (pack_TakeText_ok hr13) rfl rfl rfl rfl rfl rfl (.cons (.refl _) .nil) rfl rfl ?_
          refine At.seg 7 [2, 3, 15, 16, 17] [] (s' := ⟨[(2, .c (.d (.str p2))), (3, .c (.d (.str p3))), (15, .c (.d (.str r13.1))), (16, .c (.d (.str r13.2.1))), (17, .c (.d (.int .i64 r13.2.2)))], []⟩) (c := True ∧ True ∧ True ∧ True ∧ True ∧ True ∧ True ∧ True) (by kernel_rfl) ⟨trivial, trivial, trivial, trivial, trivial, trivial, trivial, trivial⟩ ?_
          refine At.done rfl ?_
          show Tri _ _ _ _
          refine Tri.seqS ?_
          refine Tri.reg ?_
          refine At.seg 1 [2, 3, 15, 16, 17, 83] [] (s' := ⟨[(2, .c (.d (.str p2))), (3, .c (.d (.str p3))), (15, .c (.d (.str r13.1))), (16, .c (.d (.str r13.2.1))), (17, .c (.d (.int .i64 r13.2.2))), (83, .c (.d (.str p2)))], []⟩) (c := True ∧ True) (by kernel_rfl) ⟨trivial, trivial⟩ ?_
          obtain ⟨r14, hr14, h⟩ := bind_elim h
          refine At.callA (caps := []) (xs := [.c (.d (.str p2))]) (pack_Frame_ok hr14) rfl rfl rfl rfl rfl rfl (.cons (.refl _) .nil) rfl rfl ?_
          refine At.seg 5 [2, 3, 15, 16, 17, 18, 19] [] (s' := ⟨[(2, .c (.d (.str p2))), (3, .c (.d (.str p3))), (15, .c (.d (.str r13.1))), (16, .c (.d (.str r13.2.1))), (17, .c (.d (.int .i64 r13.2.2))), (18, .c (.d (.str r14.1))), (19, .c (.d (.int .i64 r14.2)))], []⟩) (c := True ∧ True ∧ True ∧ True ∧ True ∧ True) (by kernel_rfl) ⟨trivial, trivial, trivial, trivial, trivial, trivial⟩ ?_
          refine At.done rfl ?_
          show Tri _ _ _ _
          refine Tri.seqS ?_
          refine Tri.reg ?_
          obtain ⟨hc15, h⟩ := need_elim h
          refine At.seg 3 [2, 3, 15, 16, 17, 19, 90] [] (s' := ⟨[(2, .c (.d (.str p2))), (3, .c (.d (.str p3))), (15, .c (.d (.str r13.1))), (16, .c (.d (.str r13.2.1))), (17, .c (.d (.int .i64 r13.2.2))), (19, .c (.d (.int .i64 r14.2))), (90, .c (.d (.str (r14.1 ++ p3))))], []⟩) (c := True ∧ True ∧ (((r14.1.size + p3.size : Nat) : Int) ≤ 9223372036854775807) ∧ True) (by kernel_rfl) ⟨trivial, trivial, hc15, trivial⟩ ?_
          obtain ⟨r16, hr16, h⟩ := bind_elim h
          refine At.callA (caps := []) (xs := [.c (.d (.str (r14.1 ++ p3)))]) (pack_TakeFrame_ok hr16) rfl rfl rfl rfl rfl rfl (.cons (.refl _) .nil) rfl rfl ?_
          refine At.seg 7 [2, 3, 15, 16, 17, 19, 20, 21, 22] [] (s' := ⟨[(2, .c (.d (.str p2))), (3, .c (.d (.str p3))), (15, .c (.d (.str r13.1))), (16, .c (.d (.str r13.2.1))), (17, .c (.d (.int .i64 r13.2.2))), (19, .c (.d (.int .i64 r14.2))), (20, .c (.d (.str r16.1))), (21, .c (.d (.str r16.2.1))), (22, .c (.d (.int .i64 r16.2.2)))], []⟩) (c := True ∧ True ∧ True ∧ True ∧ True ∧ True ∧ True ∧ True) (by kernel_rfl) ⟨trivial, trivial, trivial, trivial, trivial, trivial, trivial, trivial⟩ ?_
          refine At.done rfl ?_
          show Tri _ _ _ _
          refine Tri.seqS ?_
          refine Tri.seqS ?_
          refine Tri.reg ?_
          refine At.seg 3 [2, 3, 15, 16, 17, 19, 20, 21, 22, 97] [] (s' := ⟨[(2, .c (.d (.str p2))), (3, .c (.d (.str p3))), (15, .c (.d (.str r13.1))), (16, .c (.d (.str r13.2.1))), (17, .c (.d (.int .i64 r13.2.2))), (19, .c (.d (.int .i64 r14.2))), (20, .c (.d (.str r16.1))), (21, .c (.d (.str r16.2.1))), (22, .c (.d (.int .i64 r16.2.2))), (97, .c (.d (.bool (decide (65536 < (p2.size : Int))))))], []⟩) (c := True ∧ True ∧ True ∧ True) (by kernel_rfl) ⟨trivial, trivial, trivial, trivial⟩ ?_
          refine At.done rfl ?_
          show Tri _ _ _ _
          refine Tri.condP (b := (decide (65536 < (p2.size : Int)))) rfl h (fun h => ?_) (fun h => ?_)
          · refine Tri.seqJ (fun (a17 : Bool) => ⟨[(8, .c (.d (.bool a17)))], []⟩) h (fun a17 h => ?_) (fun j18 h => ?_)
            · show Tri _ _ ⟨[(8, .c (.d (.bool a17)))], []⟩ _
              refine Tri.keep [8] [] (s' := ⟨[(8, .c (.d (.bool a17)))], []⟩) (by kernel_rfl) ?_
              refine Tri.ret ?_
              cases h
              refine ⟨_, _, rfl, ⟨trivial, trivial⟩, rfl, rfl, ?_⟩
              intro k c h
              cases h
            · refine Tri.reg ?_
              refine At.seg 3 [19, 100] [] (s' := ⟨[(19, .c (.d (.int .i64 r14.2))), (100, .c (.d (.bool (decide (r13.2.2 = 2)))))], []⟩) (c := True ∧ True ∧ True ∧ True) (by kernel_rfl) ⟨trivial, trivial, trivial, trivial⟩ ?_
              refine At.case (fun b => ⟨[(19, .c (.d (.int .i64 r14.2))), (100, .c (.d (.bool b)))], []⟩) (b := (decide (r13.2.2 = 2))) h (fun h => ?_) (fun h => ?_)
              · refine At.seg 4 [8] [] (s' := ⟨[(8, .c (.d (.bool (decide (r14.2 = 2)))))], []⟩) (c := True ∧ True ∧ True ∧ True ∧ True) (by kernel_rfl) ⟨trivial, trivial, trivial, trivial, trivial⟩ ?_
                refine At.done rfl ?_
                exact ⟨_, h, rfl⟩
              · refine At.seg 4 [8] [] (s' := ⟨[(8, .c (.d (.bool false)))], []⟩) (c := True ∧ True ∧ True) (by kernel_rfl) ⟨trivial, trivial, trivial⟩ ?_
                refine At.done rfl ?_
                exact ⟨_, h, rfl⟩
          · refine Tri.skip ?_
            show Tri _ _ _ _
            refine Tri.seqJ (fun (a19 : Bool) => ⟨[(8, .c (.d (.bool a19)))], []⟩) h (fun a19 h => ?_) (fun j20 h => ?_)
            · show Tri _ _ ⟨[(8, .c (.d (.bool a19)))], []⟩ _
              refine Tri.keep [8] [] (s' := ⟨[(8, .c (.d (.bool a19)))], []⟩) (by kernel_rfl) ?_
              refine Tri.ret ?_
              cases h
              refine ⟨_, _, rfl, ⟨trivial, trivial⟩, rfl, rfl, ?_⟩
              intro k c h
              cases h
            · refine Tri.reg ?_
              refine At.seg 4 [2, 3, 16, 17, 19, 20, 21, 22, 107] [] (s' := ⟨[(2, .c (.d (.str p2))), (3, .c (.d (.str p3))), (16, .c (.d (.str r13.2.1))), (17, .c (.d (.int .i64 r13.2.2))), (19, .c (.d (.int .i64 r14.2))), (20, .c (.d (.str r16.1))), (21, .c (.d (.str r16.2.1))), (22, .c (.d (.int .i64 r16.2.2))), (107, .c (.d (.bool (strEq r13.1 p2))))], []⟩) (c := True ∧ True ∧ True ∧ True ∧ True) (by kernel_rfl) ⟨trivial, trivial, trivial, trivial, trivial⟩ ?_
              refine At.case (fun b => ⟨[(2, .c (.d (.str p2))), (3, .c (.d (.str p3))), (16, .c (.d (.str r13.2.1))), (17, .c (.d (.int .i64 r13.2.2))), (19, .c (.d (.int .i64 r14.2))), (20, .c (.d (.str r16.1))), (21, .c (.d (.str r16.2.1))), (22, .c (.d (.int .i64 r16.2.2))), (107, .c (.d (.bool b)))], []⟩) (b := (strEq r13.1 p2)) h (fun h => ?_) (fun h => ?_)
              · refine At.seg 5 [2, 3, 17, 19, 20, 21, 22, 112] [] (s' := ⟨[(2, .c (.d (.str p2))), (3, .c (.d (.str p3))), (17, .c (.d (.int .i64 r13.2.2))), (19, .c (.d (.int .i64 r14.2))), (20, .c (.d (.str r16.1))), (21, .c (.d (.str r16.2.1))), (22, .c (.d (.int .i64 r16.2.2))), (112, .c (.d (.bool (strEq r13.2.1 p3))))], []⟩) (c := True ∧ True ∧ True ∧ True ∧ True ∧ True) (by kernel_rfl) ⟨trivial, trivial, trivial, trivial, trivial, trivial⟩ ?_
                refine At.case (fun b => ⟨[(2, .c (.d (.str p2))), (3, .c (.d (.str p3))), (17, .c (.d (.int .i64 r13.2.2))), (19, .c (.d (.int .i64 r14.2))), (20, .c (.d (.str r16.1))), (21, .c (.d (.str r16.2.1))), (22, .c (.d (.int .i64 r16.2.2))), (112, .c (.d (.bool b)))], []⟩) (b := (strEq r13.2.1 p3)) h (fun h => ?_) (fun h => ?_)
                · refine At.seg 4 [2, 3, 19, 20, 21, 22, 116] [] (s' := ⟨[(2, .c (.d (.str p2))), (3, .c (.d (.str p3))), (19, .c (.d (.int .i64 r14.2))), (20, .c (.d (.str r16.1))), (21, .c (.d (.str r16.2.1))), (22, .c (.d (.int .i64 r16.2.2))), (116, .c (.d (.bool (decide (r13.2.2 = 0)))))], []⟩) (c := True ∧ True ∧ True ∧ True ∧ True) (by kernel_rfl) ⟨trivial, trivial, trivial, trivial, trivial⟩ ?_
                  refine At.case (fun b => ⟨[(2, .c (.d (.str p2))), (3, .c (.d (.str p3))), (19, .c (.d (.int .i64 r14.2))), (20, .c (.d (.str r16.1))), (21, .c (.d (.str r16.2.1))), (22, .c (.d (.int .i64 r16.2.2))), (116, .c (.d (.bool b)))], []⟩) (b := (decide (r13.2.2 = 0))) h (fun h => ?_) (fun h => ?_)
                  · refine At.seg 4 [2, 3, 20, 21, 22, 120] [] (s' := ⟨[(2, .c (.d (.str p2))), (3, .c (.d (.str p3))), (20, .c (.d (.str r16.1))), (21, .c (.d (.str r16.2.1))), (22, .c (.d (.int .i64 r16.2.2))), (120, .c (.d (.bool (decide (r14.2 = 0)))))], []⟩) (c := True ∧ True ∧ True ∧ True ∧ True) (by kernel_rfl) ⟨trivial, trivial, trivial, trivial, trivial⟩ ?_
                    refine At.case (fun b => ⟨[(2, .c (.d (.str p2))), (3, .c (.d (.str p3))), (20, .c (.d (.str r16.1))), (21, .c (.d (.str r16.2.1))), (22, .c (.d (.int .i64 r16.2.2))), (120, .c (.d (.bool b)))], []⟩) (b := (decide (r14.2 = 0))) h (fun h => ?_) (fun h => ?_)
                    · refine At.seg 5 [3, 21, 22, 125] [] (s' := ⟨[(3, .c (.d (.str p3))), (21, .c (.d (.str r16.2.1))), (22, .c (.d (.int .i64 r16.2.2))), (125, .c (.d (.bool (strEq r16.1 p2))))], []⟩) (c := True ∧ True ∧ True ∧ True ∧ True ∧ True) (by kernel_rfl) ⟨trivial, trivial, trivial, trivial, trivial, trivial⟩ ?_
                      refine At.case (fun b => ⟨[(3, .c (.d (.str p3))), (21, .c (.d (.str r16.2.1))), (22, .c (.d (.int .i64 r16.2.2))), (125, .c (.d (.bool b)))], []⟩) (b := (strEq r16.1 p2)) h (fun h => ?_) (fun h => ?_)
                      · refine At.seg 5 [22, 130] [] (s' := ⟨[(22, .c (.d (.int .i64 r16.2.2))), (130, .c (.d (.bool (strEq r16.2.1 p3))))], []⟩) (c := True ∧ True ∧ True ∧ True ∧ True ∧ True) (by kernel_rfl) ⟨trivial, trivial, trivial, trivial, trivial, trivial⟩ ?_
                        refine At.case (fun b => ⟨[(22, .c (.d (.int .i64 r16.2.2))), (130, .c (.d (.bool b)))], []⟩) (b := (strEq r16.2.1 p3)) h (fun h => ?_) (fun h => ?_)
                        · refine At.seg 4 [8] [] (s' := ⟨[(8, .c (.d (.bool (decide (r16.2.2 = 0)))))], []⟩) (c := True ∧ True ∧ True ∧ True ∧ True) (by kernel_rfl) ⟨trivial, trivial, trivial, trivial, trivial⟩ ?_
                          refine At.done rfl ?_
                          exact ⟨_, h, rfl⟩
                        · refine At.seg 4 [8] [] (s' := ⟨[(8, .c (.d (.bool false)))], []⟩) (c := True ∧ True ∧ True) (by kernel_rfl) ⟨trivial, trivial, trivial⟩ ?_
                          refine At.done rfl ?_
                          exact ⟨_, h, rfl⟩
                      · refine At.seg 9 [8] [] (s' := ⟨[(8, .c (.d (.bool false)))], []⟩) (c := True ∧ True ∧ True ∧ True ∧ True) (by kernel_rfl) ⟨trivial, trivial, trivial, trivial, trivial⟩ ?_
                        refine At.done rfl ?_
                        exact ⟨_, h, rfl⟩
                    · refine At.seg 14 [8] [] (s' := ⟨[(8, .c (.d (.bool false)))], []⟩) (c := True ∧ True ∧ True ∧ True ∧ True ∧ True ∧ True) (by kernel_rfl) ⟨trivial, trivial, trivial, trivial, trivial, trivial, trivial⟩ ?_
                      refine At.done rfl ?_
                      exact ⟨_, h, rfl⟩
                  · refine At.seg 18 [8] [] (s' := ⟨[(8, .c (.d (.bool false)))], []⟩) (c := True ∧ True ∧ True ∧ True ∧ True ∧ True ∧ True ∧ True ∧ True) (by kernel_rfl) ⟨trivial, trivial, trivial, trivial, trivial, trivial, trivial, trivial, trivial⟩ ?_
                    refine At.done rfl ?_
                    exact ⟨_, h, rfl⟩
                · refine At.seg 22 [8] [] (s' := ⟨[(8, .c (.d (.bool false)))], []⟩) (c := True ∧ True ∧ True ∧ True ∧ True ∧ True ∧ True ∧ True ∧ True ∧ True ∧ True) (by kernel_rfl) ⟨trivial, trivial, trivial, trivial, trivial, trivial, trivial, trivial, trivial, trivial, trivial⟩ ?_
                  refine At.done rfl ?_
                  exact ⟨_, h, rfl⟩
              · refine At.seg 27 [8] [] (s' := ⟨[(8, .c (.d (.bool false)))], []⟩) (c := True ∧ True ∧ True ∧ True ∧ True ∧ True ∧ True ∧ True ∧ True ∧ True ∧ True ∧ True ∧ True) (by kernel_rfl) ⟨trivial, trivial, trivial, trivial, trivial, trivial, trivial, trivial, trivial, trivial, trivial, trivial, trivial⟩ ?_
                refine At.done rfl ?_
                exact ⟨_, h, rfl⟩
      · refine Tri.reg ?_
        refine At.seg 4 [1, 2, 3, 10, 11, 12, 13, 14, 50] [] (s' := ⟨[(1, .c (.d (.int .i64 p1))), (2, .c (.d (.str p2))), (3, .c (.d (.str p3))), (10, .c (.d (.str r5.2.1))), (11, .c (.d (.int .i64 r5.2.2))), (12, .c (.d (.int .i64 r8.1))), (13, .c (.d (.str r8.2.1))), (14, .c (.d (.int .i64 r8.2.2))), (50, .c (.d (.bool (!decide (r5.1 = p0)))))], []⟩) (c := True ∧ True ∧ True ∧ True ∧ True) (by kernel_rfl) ⟨trivial, trivial, trivial, trivial, trivial⟩ ?_
        refine At.case (fun b => ⟨[(1, .c (.d (.int .i64 p1))), (2, .c (.d (.str p2))), (3, .c (.d (.str p3))), (10, .c (.d (.str r5.2.1))), (11, .c (.d (.int .i64 r5.2.2))), (12, .c (.d (.int .i64 r8.1))), (13, .c (.d (.str r8.2.1))), (14, .c (.d (.int .i64 r8.2.2))), (50, .c (.d (.bool b)))], []⟩) (b := (!decide (r5.1 = p0))) h (fun h => ?_) (fun h => ?_)
        · refine At.seg 22 [2, 3, 72] [] (s' := ⟨[(2, .c (.d (.str p2))), (3, .c (.d (.str p3))), (72, .c (.d (.bool true)))], []⟩) (c := True ∧ True ∧ True ∧ True ∧ True ∧ True ∧ True ∧ True ∧ True ∧ True) (by kernel_rfl) ⟨trivial, trivial, trivial, trivial, trivial, trivial, trivial, trivial, trivial, trivial⟩ ?_
          refine At.done rfl ?_
          exact ⟨_, h, rfl⟩
        · refine At.seg 5 [1, 2, 3, 11, 12, 13, 14, 55] [] (s' := ⟨[(1, .c (.d (.int .i64 p1))), (2, .c (.d (.str p2))), (3, .c (.d (.str p3))), (11, .c (.d (.int .i64 r5.2.2))), (12, .c (.d (.int .i64 r8.1))), (13, .c (.d (.str r8.2.1))), (14, .c (.d (.int .i64 r8.2.2))), (55, .c (.d (.bool (!strEq r5.2.1 p3))))], []⟩) (c := True ∧ True ∧ True ∧ True ∧ True ∧ True) (by kernel_rfl) ⟨trivial, trivial, trivial, trivial, trivial, trivial⟩ ?_
          refine At.case (fun b => ⟨[(1, .c (.d (.int .i64 p1))), (2, .c (.d (.str p2))), (3, .c (.d (.str p3))), (11, .c (.d (.int .i64 r5.2.2))), (12, .c (.d (.int .i64 r8.1))), (13, .c (.d (.str r8.2.1))), (14, .c (.d (.int .i64 r8.2.2))), (55, .c (.d (.bool b)))], []⟩) (b := (!strEq r5.2.1 p3)) h (fun h => ?_) (fun h => ?_)
          · refine At.seg 17 [2, 3, 72] [] (s' := ⟨[(2, .c (.d (.str p2))), (3, .c (.d (.str p3))), (72, .c (.d (.bool true)))], []⟩) (c := True ∧ True ∧ True ∧ True ∧ True ∧ True ∧ True ∧ True) (by kernel_rfl) ⟨trivial, trivial, trivial, trivial, trivial, trivial, trivial, trivial⟩ ?_
            refine At.done rfl ?_
            exact ⟨_, h, rfl⟩
          · refine At.seg 4 [1, 2, 3, 12, 13, 14, 59] [] (s' := ⟨[(1, .c (.d (.int .i64 p1))), (2, .c (.d (.str p2))), (3, .c (.d (.str p3))), (12, .c (.d (.int .i64 r8.1))), (13, .c (.d (.str r8.2.1))), (14, .c (.d (.int .i64 r8.2.2))), (59, .c (.d (.bool (!decide (r5.2.2 = 0)))))], []⟩) (c := True ∧ True ∧ True ∧ True ∧ True) (by kernel_rfl) ⟨trivial, trivial, trivial, trivial, trivial⟩ ?_
            refine At.case (fun b => ⟨[(1, .c (.d (.int .i64 p1))), (2, .c (.d (.str p2))), (3, .c (.d (.str p3))), (12, .c (.d (.int .i64 r8.1))), (13, .c (.d (.str r8.2.1))), (14, .c (.d (.int .i64 r8.2.2))), (59, .c (.d (.bool b)))], []⟩) (b := (!decide (r5.2.2 = 0))) h (fun h => ?_) (fun h => ?_)
            · refine At.seg 13 [2, 3, 72] [] (s' := ⟨[(2, .c (.d (.str p2))), (3, .c (.d (.str p3))), (72, .c (.d (.bool true)))], []⟩) (c := True ∧ True ∧ True ∧ True ∧ True ∧ True) (by kernel_rfl) ⟨trivial, trivial, trivial, trivial, trivial, trivial⟩ ?_
              refine At.done rfl ?_
              exact ⟨_, h, rfl⟩
            · refine At.seg 5 [2, 3, 13, 14, 64] [] (s' := ⟨[(2, .c (.d (.str p2))), (3, .c (.d (.str p3))), (13, .c (.d (.str r8.2.1))), (14, .c (.d (.int .i64 r8.2.2))), (64, .c (.d (.bool (!decide (r8.1 = p1)))))], []⟩) (c := True ∧ True ∧ True ∧ True ∧ True ∧ True) (by kernel_rfl) ⟨trivial, trivial, trivial, trivial, trivial, trivial⟩ ?_
              refine At.case (fun b => ⟨[(2, .c (.d (.str p2))), (3, .c (.d (.str p3))), (13, .c (.d (.str r8.2.1))), (14, .c (.d (.int .i64 r8.2.2))), (64, .c (.d (.bool b)))], []⟩) (b := (!decide (r8.1 = p1))) h (fun h => ?_) (fun h => ?_)
              · refine At.seg 8 [2, 3, 72] [] (s' := ⟨[(2, .c (.d (.str p2))), (3, .c (.d (.str p3))), (72, .c (.d (.bool true)))], []⟩) (c := True ∧ True ∧ True ∧ True) (by kernel_rfl) ⟨trivial, trivial, trivial, trivial⟩ ?_
                refine At.done rfl ?_
                exact ⟨_, h, rfl⟩
              · refine At.seg 5 [2, 3, 14, 69] [] (s' := ⟨[(2, .c (.d (.str p2))), (3, .c (.d (.str p3))), (14, .c (.d (.int .i64 r8.2.2))), (69, .c (.d (.bool (!strEq r8.2.1 p3))))], []⟩) (c := True ∧ True ∧ True ∧ True ∧ True ∧ True) (by kernel_rfl) ⟨trivial, trivial, trivial, trivial, trivial, trivial⟩ ?_
                refine At.case (fun b => ⟨[(2, .c (.d (.str p2))), (3, .c (.d (.str p3))), (14, .c (.d (.int .i64 r8.2.2))), (69, .c (.d (.bool b)))], []⟩) (b := (!strEq r8.2.1 p3)) h (fun h => ?_) (fun h => ?_)
                · refine At.seg 3 [2, 3, 72] [] (s' := ⟨[(2, .c (.d (.str p2))), (3, .c (.d (.str p3))), (72, .c (.d (.bool true)))], []⟩) (c := True ∧ True) (by kernel_rfl) ⟨trivial, trivial⟩ ?_
                  refine At.done rfl ?_
                  exact ⟨_, h, rfl⟩
                · refine At.seg 3 [2, 3, 72] [] (s' := ⟨[(2, .c (.d (.str p2))), (3, .c (.d (.str p3))), (72, .c (.d (.bool (!decide (r8.2.2 = 0)))))], []⟩) (c := True ∧ True ∧ True ∧ True) (by kernel_rfl) ⟨trivial, trivial, trivial, trivial⟩ ?_
                  refine At.done rfl ?_
                  exact ⟨_, h, rfl⟩
  · refine Tri.reg ?_
    obtain ⟨r21, hr21, h⟩ := bind_elim h
    refine At.callA (caps := []) (xs := []) (freshetlaw01_counts_ok hr21) rfl rfl rfl rfl rfl rfl .nil rfl rfl ?_
    refine At.seg 2 [0, 1, 2, 3, 25] [] (s' := ⟨[(0, .c (.d (.int .u64 p0))), (1, .c (.d (.int .i64 p1))), (2, .c (.d (.str p2))), (3, .c (.d (.str p3))), (25, .c (.d (.bool (!r21))))], []⟩) (c := True ∧ True ∧ True) (by kernel_rfl) ⟨trivial, trivial, trivial⟩ ?_
    refine At.case (fun b => ⟨[(0, .c (.d (.int .u64 p0))), (1, .c (.d (.int .i64 p1))), (2, .c (.d (.str p2))), (3, .c (.d (.str p3))), (25, .c (.d (.bool b)))], []⟩) (b := (!r21)) h (fun h => ?_) (fun h => ?_)
    · refine At.seg 3 [0, 1, 2, 3, 28] [] (s' := ⟨[(0, .c (.d (.int .u64 p0))), (1, .c (.d (.int .i64 p1))), (2, .c (.d (.str p2))), (3, .c (.d (.str p3))), (28, .c (.d (.bool true)))], []⟩) (c := True ∧ True) (by kernel_rfl) ⟨trivial, trivial⟩ ?_
      refine At.done rfl ?_
      exact ⟨_, h, rfl⟩
    · obtain ⟨r22, hr22, h⟩ := bind_elim h
      refine At.callA (caps := []) (xs := []) (freshetlaw01_frames_ok hr22) rfl rfl rfl rfl rfl rfl .nil rfl rfl ?_
      refine At.seg 2 [0, 1, 2, 3, 28] [] (s' := ⟨[(0, .c (.d (.int .u64 p0))), (1, .c (.d (.int .i64 p1))), (2, .c (.d (.str p2))), (3, .c (.d (.str p3))), (28, .c (.d (.bool (!r22))))], []⟩) (c := True ∧ True ∧ True) (by kernel_rfl) ⟨trivial, trivial, trivial⟩ ?_
      refine At.done rfl ?_
      exact ⟨_, h, rfl⟩

end Go.Av