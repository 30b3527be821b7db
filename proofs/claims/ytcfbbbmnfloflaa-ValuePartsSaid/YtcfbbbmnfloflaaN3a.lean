import Derived.Test.YtcfbbbmnfloflaaN3p
import Derived.Test.YtcfbbbmnfloflaaProg
namespace Go.Av
open Go Go.Proofs
set_option linter.unusedVariables false
set_option linter.unusedSimpArgs false

set_option maxRecDepth 100000 in
theorem freshetlaw03_num_ok {p0 : Int} {q : Value} (h : freshetlaw03_num p0 = some q) :
    Summ Try.prog 29 [.c (.d (.int .i64 p0))] [] (.agg [.d (.bool q.isText), .d (.int .i64 q.n), .d (.str q.s)]) [] := by
  refine Summ.intro Try.func29 rfl (by kernel_rfl) (by kernel_rfl) [] rfl ?_
  rintro ⟨P, w0, G0, V, LL, lk, N, φ0, fx⟩ rfl rfl rfl rfl
  unfold freshetlaw03_num at h
  refine Tri.seqS ?_
  refine Tri.reg ?_
  refine At.seg 1 [0, 2] [2] (s' := ⟨[(0, .c (.d (.int .i64 p0))), (2, .c (.ptr 2 0))], [(2, .box [.d (.bool false), .d (.int .i64 0), .d (.str (bs []))])]⟩) (c := True ∧ True) (by kernel_rfl) ⟨trivial, trivial⟩ ?_
  refine At.done rfl ?_
  show Tri _ _ _ _
  refine Tri.seqS ?_
  refine Tri.reg ?_
  refine At.seg 3 [2] [2] (s' := ⟨[(2, .c (.ptr 2 0))], [(2, .box [.d (.bool false), .d (.int .i64 p0), .d (.str (bs []))])]⟩) (c := True ∧ True ∧ True ∧ True) (by kernel_rfl) ⟨trivial, trivial, trivial, trivial⟩ ?_
  refine At.done rfl ?_
  show Tri _ _ _ _
  refine Tri.keep [2] [2] (s' := ⟨[(2, .c (.ptr 2 0))], [(2, .box [.d (.bool false), .d (.int .i64 p0), .d (.str (bs []))])]⟩) (by kernel_rfl) ?_
  refine Tri.ret ?_
  cases h
  refine ⟨_, _, rfl, ⟨trivial, trivial⟩, rfl, rfl, ?_⟩
  intro k c h
  cases h

set_option maxRecDepth 100000 in
theorem freshetlaw03_text_ok {p0 : ByteArray} {q : Value} (h : freshetlaw03_text p0 = some q) :
    Summ Try.prog 30 [.c (.d (.str p0))] [] (.agg [.d (.bool q.isText), .d (.int .i64 q.n), .d (.str q.s)]) [] := by
  refine Summ.intro Try.func30 rfl (by kernel_rfl) (by kernel_rfl) [] rfl ?_
  rintro ⟨P, w0, G0, V, LL, lk, N, φ0, fx⟩ rfl rfl rfl rfl
  unfold freshetlaw03_text at h
  refine Tri.seqS ?_
  refine Tri.reg ?_
  refine At.seg 1 [0, 2] [2] (s' := ⟨[(0, .c (.d (.str p0))), (2, .c (.ptr 2 0))], [(2, .box [.d (.bool false), .d (.int .i64 0), .d (.str (bs []))])]⟩) (c := True ∧ True) (by kernel_rfl) ⟨trivial, trivial⟩ ?_
  refine At.done rfl ?_
  show Tri _ _ _ _
  refine Tri.seqS ?_
  refine Tri.reg ?_
  refine At.seg 3 [2] [2] (s' := ⟨[(2, .c (.ptr 2 0))], [(2, .box [.d (.bool true), .d (.int .i64 0), .d (.str p0)])]⟩) (c := True ∧ True ∧ True ∧ True) (by kernel_rfl) ⟨trivial, trivial, trivial, trivial⟩ ?_
  refine At.done rfl ?_
  show Tri _ _ _ _
  refine Tri.keep [2] [2] (s' := ⟨[(2, .c (.ptr 2 0))], [(2, .box [.d (.bool true), .d (.int .i64 0), .d (.str p0)])]⟩) (by kernel_rfl) ?_
  refine Tri.ret ?_
  cases h
  refine ⟨_, _, rfl, ⟨trivial, trivial⟩, rfl, rfl, ?_⟩
  intro k c h
  cases h

set_option maxRecDepth 100000 in
theorem value_mark_ok {p0 : Value} {q : Int} (h : value_mark p0 = some q) :
    Summ Try.prog 33 [.agg [.d (.bool p0.isText), .d (.int .i64 p0.n), .d (.str p0.s)]] [] (.c (.d (.int .i64 q))) [] := by
  refine Summ.intro Try.func33 rfl (by kernel_rfl) (by kernel_rfl) [] rfl ?_
  rintro ⟨P, w0, G0, V, LL, lk, N, φ0, fx⟩ rfl rfl rfl rfl
  unfold value_mark at h
  refine Tri.seqS ?_
  refine Tri.reg ?_
  refine At.seg 2 [1] [1] (s' := ⟨[(1, .c (.ptr 1 0))], [(1, .box [.d (.bool p0.isText), .d (.int .i64 p0.n), .d (.str p0.s)])]⟩) (c := True ∧ True ∧ True) (by kernel_rfl) ⟨trivial, trivial, trivial⟩ ?_
  refine At.done rfl ?_
  show Tri _ _ _ _
  refine Tri.seqS ?_
  refine Tri.seqS ?_
  refine Tri.reg ?_
  refine At.seg 2 [4] [] (s' := ⟨[(4, .c (.d (.bool p0.isText)))], []⟩) (c := True ∧ True ∧ True) (by kernel_rfl) ⟨trivial, trivial, trivial⟩ ?_
  refine At.done rfl ?_
  show Tri _ _ _ _
  refine Tri.condP (b := p0.isText) rfl h (fun h => ?_) (fun h => ?_)
  · refine Tri.seqS ?_
    refine Tri.reg ?_
    refine At.seg 1 [2] [] (s' := ⟨[(2, .c (.d (.int .i64 1)))], []⟩) (c := True ∧ True) (by kernel_rfl) ⟨trivial, trivial⟩ ?_
    refine At.done rfl ?_
    show Tri _ _ _ _
    refine Tri.keep [2] [] (s' := ⟨[(2, .c (.d (.int .i64 1)))], []⟩) (by kernel_rfl) ?_
    refine Tri.ret ?_
    cases h
    refine ⟨_, _, rfl, ⟨trivial, trivial⟩, rfl, rfl, ?_⟩
    intro k c h
    cases h
  · refine Tri.skip ?_
    show Tri _ _ _ _
    refine Tri.seqS ?_
    refine Tri.reg ?_
    refine At.seg 1 [2] [] (s' := ⟨[(2, .c (.d (.int .i64 0)))], []⟩) (c := True ∧ True) (by kernel_rfl) ⟨trivial, trivial⟩ ?_
    refine At.done rfl ?_
    show Tri _ _ _ _
    refine Tri.keep [2] [] (s' := ⟨[(2, .c (.d (.int .i64 0)))], []⟩) (by kernel_rfl) ?_
    refine Tri.ret ?_
    cases h
    refine ⟨_, _, rfl, ⟨trivial, trivial⟩, rfl, rfl, ?_⟩
    intro k c h
    cases h

set_option maxRecDepth 100000 in
theorem cmp_isNaN_int_ok {p0 : Int} {q : Bool} (h : cmp_isNaN_int p0 = some q) :
    Summ Try.prog 51 [.c (.d (.int .i64 p0))] [] (.c (.d (.bool q))) [] := by
  refine Summ.intro Try.func51 rfl (by kernel_rfl) (by kernel_rfl) [] rfl ?_
  rintro ⟨P, w0, G0, V, LL, lk, N, φ0, fx⟩ rfl rfl rfl rfl
  unfold cmp_isNaN_int at h
  refine Tri.seqS ?_
  refine Tri.reg ?_
  refine At.seg 1 [0] [] (s' := ⟨[(0, .c (.d (.int .i64 p0)))], []⟩) (c := True ∧ True) (by kernel_rfl) ⟨trivial, trivial⟩ ?_
  refine At.done rfl ?_
  show Tri _ _ _ _
  refine Tri.seqS ?_
  refine Tri.reg ?_
  refine At.seg 4 [2] [] (s' := ⟨[(2, .c (.d (.bool (!decide (p0 = p0)))))], []⟩) (c := True ∧ True ∧ True ∧ True ∧ True) (by kernel_rfl) ⟨trivial, trivial, trivial, trivial, trivial⟩ ?_
  refine At.done rfl ?_
  show Tri _ _ _ _
  refine Tri.keep [2] [] (s' := ⟨[(2, .c (.d (.bool (!decide (p0 = p0)))))], []⟩) (by kernel_rfl) ?_
  refine Tri.ret ?_
  cases h
  refine ⟨_, _, rfl, ⟨trivial, trivial⟩, rfl, rfl, ?_⟩
  intro k c h
  cases h

set_option maxRecDepth 100000 in
theorem cmp_Compare_int_ok {p0 : Int} {p1 : Int} {q : Int} (h : cmp_Compare_int p0 p1 = some q) :
    Summ Try.prog 32 [.c (.d (.int .i64 p0)), .c (.d (.int .i64 p1))] [] (.c (.d (.int .i64 q))) [] := by
  refine Summ.intro Try.func32 rfl (by kernel_rfl) (by kernel_rfl) [] rfl ?_
  rintro ⟨P, w0, G0, V, LL, lk, N, φ0, fx⟩ rfl rfl rfl rfl
  unfold cmp_Compare_int at h
  refine Tri.seqS ?_
  refine Tri.reg ?_
  refine At.seg 1 [0, 1] [] (s' := ⟨[(0, .c (.d (.int .i64 p0))), (1, .c (.d (.int .i64 p1)))], []⟩) (c := True ∧ True) (by kernel_rfl) ⟨trivial, trivial⟩ ?_
  refine At.done rfl ?_
  show Tri _ _ _ _
  refine Tri.seqS ?_
  refine Tri.reg ?_
  refine At.seg 1 [0, 1, 7] [] (s' := ⟨[(0, .c (.d (.int .i64 p0))), (1, .c (.d (.int .i64 p1))), (7, .c (.d (.int .i64 p0)))], []⟩) (c := True ∧ True) (by kernel_rfl) ⟨trivial, trivial⟩ ?_
  obtain ⟨r1, hr1, h⟩ := bind_elim h
  refine At.callA (caps := []) (xs := [.c (.d (.int .i64 p0))]) (cmp_isNaN_int_ok hr1) rfl rfl rfl rfl rfl rfl (.cons (.refl _) .nil) rfl rfl ?_
  refine At.seg 1 [0, 1, 5] [] (s' := ⟨[(0, .c (.d (.int .i64 p0))), (1, .c (.d (.int .i64 p1))), (5, .c (.d (.bool r1)))], []⟩) (c := True ∧ True) (by kernel_rfl) ⟨trivial, trivial⟩ ?_
  refine At.done rfl ?_
  show Tri _ _ _ _
  refine Tri.seqS ?_
  refine Tri.reg ?_
  refine At.seg 1 [0, 1, 5, 9] [] (s' := ⟨[(0, .c (.d (.int .i64 p0))), (1, .c (.d (.int .i64 p1))), (5, .c (.d (.bool r1))), (9, .c (.d (.int .i64 p1)))], []⟩) (c := True ∧ True) (by kernel_rfl) ⟨trivial, trivial⟩ ?_
  obtain ⟨r2, hr2, h⟩ := bind_elim h
  refine At.callA (caps := []) (xs := [.c (.d (.int .i64 p1))]) (cmp_isNaN_int_ok hr2) rfl rfl rfl rfl rfl rfl (.cons (.refl _) .nil) rfl rfl ?_
  refine At.seg 1 [0, 1, 5, 6] [] (s' := ⟨[(0, .c (.d (.int .i64 p0))), (1, .c (.d (.int .i64 p1))), (5, .c (.d (.bool r1))), (6, .c (.d (.bool r2)))], []⟩) (c := True ∧ True) (by kernel_rfl) ⟨trivial, trivial⟩ ?_
  refine At.done rfl ?_
  show Tri _ _ _ _
  refine Tri.seqS ?_
  refine Tri.seqS ?_
  refine Tri.reg ?_
  refine At.seg 1 [0, 1, 6, 11] [] (s' := ⟨[(0, .c (.d (.int .i64 p0))), (1, .c (.d (.int .i64 p1))), (6, .c (.d (.bool r2))), (11, .c (.d (.bool r1)))], []⟩) (c := True ∧ True) (by kernel_rfl) ⟨trivial, trivial⟩ ?_
  refine At.done rfl ?_
  show Tri _ _ _ _
  refine Tri.condP (b := r1) rfl h (fun h => ?_) (fun h => ?_)
  · refine Tri.seqS ?_
    refine Tri.seqS ?_
    refine Tri.reg ?_
    refine At.seg 1 [12] [] (s' := ⟨[(12, .c (.d (.bool r2)))], []⟩) (c := True ∧ True) (by kernel_rfl) ⟨trivial, trivial⟩ ?_
    refine At.done rfl ?_
    show Tri _ _ _ _
    refine Tri.condP (b := r2) rfl h (fun h => ?_) (fun h => ?_)
    · refine Tri.seqS ?_
      refine Tri.reg ?_
      refine At.seg 1 [4] [] (s' := ⟨[(4, .c (.d (.int .i64 0)))], []⟩) (c := True ∧ True) (by kernel_rfl) ⟨trivial, trivial⟩ ?_
      refine At.done rfl ?_
      show Tri _ _ _ _
      refine Tri.keep [4] [] (s' := ⟨[(4, .c (.d (.int .i64 0)))], []⟩) (by kernel_rfl) ?_
      refine Tri.ret ?_
      cases h
      refine ⟨_, _, rfl, ⟨trivial, trivial⟩, rfl, rfl, ?_⟩
      intro k c h
      cases h
    · refine Tri.skip ?_
      show Tri _ _ _ _
      refine Tri.seqS ?_
      refine Tri.reg ?_
      refine At.seg 1 [4] [] (s' := ⟨[(4, .c (.d (.int .i64 (-1))))], []⟩) (c := True ∧ True) (by kernel_rfl) ⟨trivial, trivial⟩ ?_
      refine At.done rfl ?_
      show Tri _ _ _ _
      refine Tri.keep [4] [] (s' := ⟨[(4, .c (.d (.int .i64 (-1))))], []⟩) (by kernel_rfl) ?_
      refine Tri.ret ?_
      cases h
      refine ⟨_, _, rfl, ⟨trivial, trivial⟩, rfl, rfl, ?_⟩
      intro k c h
      cases h
  · refine Tri.skip ?_
    show Tri _ _ _ _
    refine Tri.seqS ?_
    refine Tri.seqS ?_
    refine Tri.reg ?_
    refine At.seg 1 [0, 1, 13] [] (s' := ⟨[(0, .c (.d (.int .i64 p0))), (1, .c (.d (.int .i64 p1))), (13, .c (.d (.bool r2)))], []⟩) (c := True ∧ True) (by kernel_rfl) ⟨trivial, trivial⟩ ?_
    refine At.done rfl ?_
    show Tri _ _ _ _
    refine Tri.condP (b := r2) rfl h (fun h => ?_) (fun h => ?_)
    · refine Tri.seqS ?_
      refine Tri.reg ?_
      refine At.seg 1 [4] [] (s' := ⟨[(4, .c (.d (.int .i64 1)))], []⟩) (c := True ∧ True) (by kernel_rfl) ⟨trivial, trivial⟩ ?_
      refine At.done rfl ?_
      show Tri _ _ _ _
      refine Tri.keep [4] [] (s' := ⟨[(4, .c (.d (.int .i64 1)))], []⟩) (by kernel_rfl) ?_
      refine Tri.ret ?_
      cases h
      refine ⟨_, _, rfl, ⟨trivial, trivial⟩, rfl, rfl, ?_⟩
      intro k c h
      cases h
    · refine Tri.skip ?_
      show Tri _ _ _ _
      refine Tri.seqS ?_
      refine Tri.seqS ?_
      refine Tri.reg ?_
      refine At.seg 3 [0, 1, 16] [] (s' := ⟨[(0, .c (.d (.int .i64 p0))), (1, .c (.d (.int .i64 p1))), (16, .c (.d (.bool (decide (p0 < p1)))))], []⟩) (c := True ∧ True ∧ True ∧ True) (by kernel_rfl) ⟨trivial, trivial, trivial, trivial⟩ ?_
      refine At.done rfl ?_
      show Tri _ _ _ _
      refine Tri.condP (b := (decide (p0 < p1))) rfl h (fun h => ?_) (fun h => ?_)
      · refine Tri.seqS ?_
        refine Tri.reg ?_
        refine At.seg 1 [4] [] (s' := ⟨[(4, .c (.d (.int .i64 (-1))))], []⟩) (c := True ∧ True) (by kernel_rfl) ⟨trivial, trivial⟩ ?_
        refine At.done rfl ?_
        show Tri _ _ _ _
        refine Tri.keep [4] [] (s' := ⟨[(4, .c (.d (.int .i64 (-1))))], []⟩) (by kernel_rfl) ?_
        refine Tri.ret ?_
        cases h
        refine ⟨_, _, rfl, ⟨trivial, trivial⟩, rfl, rfl, ?_⟩
        intro k c h
        cases h
      · refine Tri.skip ?_
        show Tri _ _ _ _
        refine Tri.seqS ?_
        refine Tri.seqS ?_
        refine Tri.reg ?_
        refine At.seg 3 [19] [] (s' := ⟨[(19, .c (.d (.bool (decide (p1 < p0)))))], []⟩) (c := True ∧ True ∧ True ∧ True) (by kernel_rfl) ⟨trivial, trivial, trivial, trivial⟩ ?_
        refine At.done rfl ?_
        show Tri _ _ _ _
        refine Tri.condP (b := (decide (p1 < p0))) rfl h (fun h => ?_) (fun h => ?_)
        · refine Tri.seqS ?_
          refine Tri.reg ?_
          refine At.seg 1 [4] [] (s' := ⟨[(4, .c (.d (.int .i64 1)))], []⟩) (c := True ∧ True) (by kernel_rfl) ⟨trivial, trivial⟩ ?_
          refine At.done rfl ?_
          show Tri _ _ _ _
          refine Tri.keep [4] [] (s' := ⟨[(4, .c (.d (.int .i64 1)))], []⟩) (by kernel_rfl) ?_
          refine Tri.ret ?_
          cases h
          refine ⟨_, _, rfl, ⟨trivial, trivial⟩, rfl, rfl, ?_⟩
          intro k c h
          cases h
        · refine Tri.skip ?_
          show Tri _ _ _ _
          refine Tri.seqS ?_
          refine Tri.reg ?_
          refine At.seg 1 [4] [] (s' := ⟨[(4, .c (.d (.int .i64 0)))], []⟩) (c := True ∧ True) (by kernel_rfl) ⟨trivial, trivial⟩ ?_
          refine At.done rfl ?_
          show Tri _ _ _ _
          refine Tri.keep [4] [] (s' := ⟨[(4, .c (.d (.int .i64 0)))], []⟩) (by kernel_rfl) ?_
          refine Tri.ret ?_
          cases h
          refine ⟨_, _, rfl, ⟨trivial, trivial⟩, rfl, rfl, ?_⟩
          intro k c h
          cases h

set_option maxRecDepth 100000 in
theorem cmp_isNaN_string_ok {p0 : ByteArray} {q : Bool} (h : cmp_isNaN_string p0 = some q) :
    Summ Try.prog 52 [.c (.d (.str p0))] [] (.c (.d (.bool q))) [] := by
  refine Summ.intro Try.func52 rfl (by kernel_rfl) (by kernel_rfl) [] rfl ?_
  rintro ⟨P, w0, G0, V, LL, lk, N, φ0, fx⟩ rfl rfl rfl rfl
  unfold cmp_isNaN_string at h
  refine Tri.seqS ?_
  refine Tri.reg ?_
  refine At.seg 1 [0] [] (s' := ⟨[(0, .c (.d (.str p0)))], []⟩) (c := True ∧ True) (by kernel_rfl) ⟨trivial, trivial⟩ ?_
  refine At.done rfl ?_
  show Tri _ _ _ _
  refine Tri.seqS ?_
  refine Tri.reg ?_
  refine At.seg 4 [2] [] (s' := ⟨[(2, .c (.d (.bool (!strEq p0 p0))))], []⟩) (c := True ∧ True ∧ True ∧ True ∧ True) (by kernel_rfl) ⟨trivial, trivial, trivial, trivial, trivial⟩ ?_
  refine At.done rfl ?_
  show Tri _ _ _ _
  refine Tri.keep [2] [] (s' := ⟨[(2, .c (.d (.bool (!strEq p0 p0))))], []⟩) (by kernel_rfl) ?_
  refine Tri.ret ?_
  cases h
  refine ⟨_, _, rfl, ⟨trivial, trivial⟩, rfl, rfl, ?_⟩
  intro k c h
  cases h

set_option maxRecDepth 100000 in
theorem cmp_Compare_string_ok {p0 : ByteArray} {p1 : ByteArray} {q : Int} (h : cmp_Compare_string p0 p1 = some q) :
    Summ Try.prog 34 [.c (.d (.str p0)), .c (.d (.str p1))] [] (.c (.d (.int .i64 q))) [] := by
  refine Summ.intro Try.func34 rfl (by kernel_rfl) (by kernel_rfl) [] rfl ?_
  rintro ⟨P, w0, G0, V, LL, lk, N, φ0, fx⟩ rfl rfl rfl rfl
  unfold cmp_Compare_string at h
  refine Tri.seqS ?_
  refine Tri.reg ?_
  refine At.seg 1 [0, 1] [] (s' := ⟨[(0, .c (.d (.str p0))), (1, .c (.d (.str p1)))], []⟩) (c := True ∧ True) (by kernel_rfl) ⟨trivial, trivial⟩ ?_
  refine At.done rfl ?_
  show Tri _ _ _ _
  refine Tri.seqS ?_
  refine Tri.reg ?_
  refine At.seg 1 [0, 1, 7] [] (s' := ⟨[(0, .c (.d (.str p0))), (1, .c (.d (.str p1))), (7, .c (.d (.str p0)))], []⟩) (c := True ∧ True) (by kernel_rfl) ⟨trivial, trivial⟩ ?_
  obtain ⟨r1, hr1, h⟩ := bind_elim h
  refine At.callA (caps := []) (xs := [.c (.d (.str p0))]) (cmp_isNaN_string_ok hr1) rfl rfl rfl rfl rfl rfl (.cons (.refl _) .nil) rfl rfl ?_
  refine At.seg 1 [0, 1, 5] [] (s' := ⟨[(0, .c (.d (.str p0))), (1, .c (.d (.str p1))), (5, .c (.d (.bool r1)))], []⟩) (c := True ∧ True) (by kernel_rfl) ⟨trivial, trivial⟩ ?_
  refine At.done rfl ?_
  show Tri _ _ _ _
  refine Tri.seqS ?_
  refine Tri.reg ?_
  refine At.seg 1 [0, 1, 5, 9] [] (s' := ⟨[(0, .c (.d (.str p0))), (1, .c (.d (.str p1))), (5, .c (.d (.bool r1))), (9, .c (.d (.str p1)))], []⟩) (c := True ∧ True) (by kernel_rfl) ⟨trivial, trivial⟩ ?_
  obtain ⟨r2, hr2, h⟩ := bind_elim h
  refine At.callA (caps := []) (xs := [.c (.d (.str p1))]) (cmp_isNaN_string_ok hr2) rfl rfl rfl rfl rfl rfl (.cons (.refl _) .nil) rfl rfl ?_
  refine At.seg 1 [0, 1, 5, 6] [] (s' := ⟨[(0, .c (.d (.str p0))), (1, .c (.d (.str p1))), (5, .c (.d (.bool r1))), (6, .c (.d (.bool r2)))], []⟩) (c := True ∧ True) (by kernel_rfl) ⟨trivial, trivial⟩ ?_
  refine At.done rfl ?_
  show Tri _ _ _ _
  refine Tri.seqS ?_
  refine Tri.seqS ?_
  refine Tri.reg ?_
  refine At.seg 1 [0, 1, 6, 11] [] (s' := ⟨[(0, .c (.d (.str p0))), (1, .c (.d (.str p1))), (6, .c (.d (.bool r2))), (11, .c (.d (.bool r1)))], []⟩) (c := True ∧ True) (by kernel_rfl) ⟨trivial, trivial⟩ ?_
  refine At.done rfl ?_
  show Tri _ _ _ _
  refine Tri.condP (b := r1) rfl h (fun h => ?_) (fun h => ?_)
  · refine Tri.seqS ?_
    refine Tri.seqS ?_
    refine Tri.reg ?_
    refine At.seg 1 [12] [] (s' := ⟨[(12, .c (.d (.bool r2)))], []⟩) (c := True ∧ True) (by kernel_rfl) ⟨trivial, trivial⟩ ?_
    refine At.done rfl ?_
    show Tri _ _ _ _
    refine Tri.condP (b := r2) rfl h (fun h => ?_) (fun h => ?_)
    · refine Tri.seqS ?_
      refine Tri.reg ?_
      refine At.seg 1 [4] [] (s' := ⟨[(4, .c (.d (.int .i64 0)))], []⟩) (c := True ∧ True) (by kernel_rfl) ⟨trivial, trivial⟩ ?_
      refine At.done rfl ?_
      show Tri _ _ _ _
      refine Tri.keep [4] [] (s' := ⟨[(4, .c (.d (.int .i64 0)))], []⟩) (by kernel_rfl) ?_
      refine Tri.ret ?_
      cases h
      refine ⟨_, _, rfl, ⟨trivial, trivial⟩, rfl, rfl, ?_⟩
      intro k c h
      cases h
    · refine Tri.skip ?_
      show Tri _ _ _ _
      refine Tri.seqS ?_
      refine Tri.reg ?_
      refine At.seg 1 [4] [] (s' := ⟨[(4, .c (.d (.int .i64 (-1))))], []⟩) (c := True ∧ True) (by kernel_rfl) ⟨trivial, trivial⟩ ?_
      refine At.done rfl ?_
      show Tri _ _ _ _
      refine Tri.keep [4] [] (s' := ⟨[(4, .c (.d (.int .i64 (-1))))], []⟩) (by kernel_rfl) ?_
      refine Tri.ret ?_
      cases h
      refine ⟨_, _, rfl, ⟨trivial, trivial⟩, rfl, rfl, ?_⟩
      intro k c h
      cases h
  · refine Tri.skip ?_
    show Tri _ _ _ _
    refine Tri.seqS ?_
    refine Tri.seqS ?_
    refine Tri.reg ?_
    refine At.seg 1 [0, 1, 13] [] (s' := ⟨[(0, .c (.d (.str p0))), (1, .c (.d (.str p1))), (13, .c (.d (.bool r2)))], []⟩) (c := True ∧ True) (by kernel_rfl) ⟨trivial, trivial⟩ ?_
    refine At.done rfl ?_
    show Tri _ _ _ _
    refine Tri.condP (b := r2) rfl h (fun h => ?_) (fun h => ?_)
    · refine Tri.seqS ?_
      refine Tri.reg ?_
      refine At.seg 1 [4] [] (s' := ⟨[(4, .c (.d (.int .i64 1)))], []⟩) (c := True ∧ True) (by kernel_rfl) ⟨trivial, trivial⟩ ?_
      refine At.done rfl ?_
      show Tri _ _ _ _
      refine Tri.keep [4] [] (s' := ⟨[(4, .c (.d (.int .i64 1)))], []⟩) (by kernel_rfl) ?_
      refine Tri.ret ?_
      cases h
      refine ⟨_, _, rfl, ⟨trivial, trivial⟩, rfl, rfl, ?_⟩
      intro k c h
      cases h
    · refine Tri.skip ?_
      show Tri _ _ _ _
      refine Tri.seqS ?_
      refine Tri.seqS ?_
      refine Tri.reg ?_
      refine At.seg 3 [0, 1, 16] [] (s' := ⟨[(0, .c (.d (.str p0))), (1, .c (.d (.str p1))), (16, .c (.d (.bool (strLt p0 p1))))], []⟩) (c := True ∧ True ∧ True ∧ True) (by kernel_rfl) ⟨trivial, trivial, trivial, trivial⟩ ?_
      refine At.done rfl ?_
      show Tri _ _ _ _
      refine Tri.condP (b := (strLt p0 p1)) rfl h (fun h => ?_) (fun h => ?_)
      · refine Tri.seqS ?_
        refine Tri.reg ?_
        refine At.seg 1 [4] [] (s' := ⟨[(4, .c (.d (.int .i64 (-1))))], []⟩) (c := True ∧ True) (by kernel_rfl) ⟨trivial, trivial⟩ ?_
        refine At.done rfl ?_
        show Tri _ _ _ _
        refine Tri.keep [4] [] (s' := ⟨[(4, .c (.d (.int .i64 (-1))))], []⟩) (by kernel_rfl) ?_
        refine Tri.ret ?_
        cases h
        refine ⟨_, _, rfl, ⟨trivial, trivial⟩, rfl, rfl, ?_⟩
        intro k c h
        cases h
      · refine Tri.skip ?_
        show Tri _ _ _ _
        refine Tri.seqS ?_
        refine Tri.seqS ?_
        refine Tri.reg ?_
        refine At.seg 3 [19] [] (s' := ⟨[(19, .c (.d (.bool (!(strLt p0 p1 || strEq p0 p1)))))], []⟩) (c := True ∧ True ∧ True ∧ True) (by kernel_rfl) ⟨trivial, trivial, trivial, trivial⟩ ?_
        refine At.done rfl ?_
        show Tri _ _ _ _
        refine Tri.condP (b := (!(strLt p0 p1 || strEq p0 p1))) rfl h (fun h => ?_) (fun h => ?_)
        · refine Tri.seqS ?_
          refine Tri.reg ?_
          refine At.seg 1 [4] [] (s' := ⟨[(4, .c (.d (.int .i64 1)))], []⟩) (c := True ∧ True) (by kernel_rfl) ⟨trivial, trivial⟩ ?_
          refine At.done rfl ?_
          show Tri _ _ _ _
          refine Tri.keep [4] [] (s' := ⟨[(4, .c (.d (.int .i64 1)))], []⟩) (by kernel_rfl) ?_
          refine Tri.ret ?_
          cases h
          refine ⟨_, _, rfl, ⟨trivial, trivial⟩, rfl, rfl, ?_⟩
          intro k c h
          cases h
        · refine Tri.skip ?_
          show Tri _ _ _ _
          refine Tri.seqS ?_
          refine Tri.reg ?_
          refine At.seg 1 [4] [] (s' := ⟨[(4, .c (.d (.int .i64 0)))], []⟩) (c := True ∧ True) (by kernel_rfl) ⟨trivial, trivial⟩ ?_
          refine At.done rfl ?_
          show Tri _ _ _ _
          refine Tri.keep [4] [] (s' := ⟨[(4, .c (.d (.int .i64 0)))], []⟩) (by kernel_rfl) ?_
          refine Tri.ret ?_
          cases h
          refine ⟨_, _, rfl, ⟨trivial, trivial⟩, rfl, rfl, ?_⟩
          intro k c h
          cases h

set_option maxRecDepth 100000 in
theorem cmp_isNaN_int64_ok {p0 : Int} {q : Bool} (h : cmp_isNaN_int64 p0 = some q) :
    Summ Try.prog 53 [.c (.d (.int .i64 p0))] [] (.c (.d (.bool q))) [] := by
  refine Summ.intro Try.func53 rfl (by kernel_rfl) (by kernel_rfl) [] rfl ?_
  rintro ⟨P, w0, G0, V, LL, lk, N, φ0, fx⟩ rfl rfl rfl rfl
  unfold cmp_isNaN_int64 at h
  refine Tri.seqS ?_
  refine Tri.reg ?_
  refine At.seg 1 [0] [] (s' := ⟨[(0, .c (.d (.int .i64 p0)))], []⟩) (c := True ∧ True) (by kernel_rfl) ⟨trivial, trivial⟩ ?_
  refine At.done rfl ?_
  show Tri _ _ _ _
  refine Tri.seqS ?_
  refine Tri.reg ?_
  refine At.seg 4 [2] [] (s' := ⟨[(2, .c (.d (.bool (!decide (p0 = p0)))))], []⟩) (c := True ∧ True ∧ True ∧ True ∧ True) (by kernel_rfl) ⟨trivial, trivial, trivial, trivial, trivial⟩ ?_
  refine At.done rfl ?_
  show Tri _ _ _ _
  refine Tri.keep [2] [] (s' := ⟨[(2, .c (.d (.bool (!decide (p0 = p0)))))], []⟩) (by kernel_rfl) ?_
  refine Tri.ret ?_
  cases h
  refine ⟨_, _, rfl, ⟨trivial, trivial⟩, rfl, rfl, ?_⟩
  intro k c h
  cases h

set_option maxRecDepth 100000 in
theorem cmp_Compare_int64_ok {p0 : Int} {p1 : Int} {q : Int} (h : cmp_Compare_int64 p0 p1 = some q) :
    Summ Try.prog 35 [.c (.d (.int .i64 p0)), .c (.d (.int .i64 p1))] [] (.c (.d (.int .i64 q))) [] := by
  refine Summ.intro Try.func35 rfl (by kernel_rfl) (by kernel_rfl) [] rfl ?_
  rintro ⟨P, w0, G0, V, LL, lk, N, φ0, fx⟩ rfl rfl rfl rfl
  unfold cmp_Compare_int64 at h
  refine Tri.seqS ?_
  refine Tri.reg ?_
  refine At.seg 1 [0, 1] [] (s' := ⟨[(0, .c (.d (.int .i64 p0))), (1, .c (.d (.int .i64 p1)))], []⟩) (c := True ∧ True) (by kernel_rfl) ⟨trivial, trivial⟩ ?_
  refine At.done rfl ?_
  show Tri _ _ _ _
  refine Tri.seqS ?_
  refine Tri.reg ?_
  refine At.seg 1 [0, 1, 7] [] (s' := ⟨[(0, .c (.d (.int .i64 p0))), (1, .c (.d (.int .i64 p1))), (7, .c (.d (.int .i64 p0)))], []⟩) (c := True ∧ True) (by kernel_rfl) ⟨trivial, trivial⟩ ?_
  obtain ⟨r1, hr1, h⟩ := bind_elim h
  refine At.callA (caps := []) (xs := [.c (.d (.int .i64 p0))]) (cmp_isNaN_int64_ok hr1) rfl rfl rfl rfl rfl rfl (.cons (.refl _) .nil) rfl rfl ?_
  refine At.seg 1 [0, 1, 5] [] (s' := ⟨[(0, .c (.d (.int .i64 p0))), (1, .c (.d (.int .i64 p1))), (5, .c (.d (.bool r1)))], []⟩) (c := True ∧ True) (by kernel_rfl) ⟨trivial, trivial⟩ ?_
  refine At.done rfl ?_
  show Tri _ _ _ _
  refine Tri.seqS ?_
  refine Tri.reg ?_
  refine At.seg 1 [0, 1, 5, 9] [] (s' := ⟨[(0, .c (.d (.int .i64 p0))), (1, .c (.d (.int .i64 p1))), (5, .c (.d (.bool r1))), (9, .c (.d (.int .i64 p1)))], []⟩) (c := True ∧ True) (by kernel_rfl) ⟨trivial, trivial⟩ ?_
  obtain ⟨r2, hr2, h⟩ := bind_elim h
  refine At.callA (caps := []) (xs := [.c (.d (.int .i64 p1))]) (cmp_isNaN_int64_ok hr2) rfl rfl rfl rfl rfl rfl (.cons (.refl _) .nil) rfl rfl ?_
  refine At.seg 1 [0, 1, 5, 6] [] (s' := ⟨[(0, .c (.d (.int .i64 p0))), (1, .c (.d (.int .i64 p1))), (5, .c (.d (.bool r1))), (6, .c (.d (.bool r2)))], []⟩) (c := True ∧ True) (by kernel_rfl) ⟨trivial, trivial⟩ ?_
  refine At.done rfl ?_
  show Tri _ _ _ _
  refine Tri.seqS ?_
  refine Tri.seqS ?_
  refine Tri.reg ?_
  refine At.seg 1 [0, 1, 6, 11] [] (s' := ⟨[(0, .c (.d (.int .i64 p0))), (1, .c (.d (.int .i64 p1))), (6, .c (.d (.bool r2))), (11, .c (.d (.bool r1)))], []⟩) (c := True ∧ True) (by kernel_rfl) ⟨trivial, trivial⟩ ?_
  refine At.done rfl ?_
  show Tri _ _ _ _
  refine Tri.condP (b := r1) rfl h (fun h => ?_) (fun h => ?_)
  · refine Tri.seqS ?_
    refine Tri.seqS ?_
    refine Tri.reg ?_
    refine At.seg 1 [12] [] (s' := ⟨[(12, .c (.d (.bool r2)))], []⟩) (c := True ∧ True) (by kernel_rfl) ⟨trivial, trivial⟩ ?_
    refine At.done rfl ?_
    show Tri _ _ _ _
    refine Tri.condP (b := r2) rfl h (fun h => ?_) (fun h => ?_)
    · refine Tri.seqS ?_
      refine Tri.reg ?_
      refine At.seg 1 [4] [] (s' := ⟨[(4, .c (.d (.int .i64 0)))], []⟩) (c := True ∧ True) (by kernel_rfl) ⟨trivial, trivial⟩ ?_
      refine At.done rfl ?_
      show Tri _ _ _ _
      refine Tri.keep [4] [] (s' := ⟨[(4, .c (.d (.int .i64 0)))], []⟩) (by kernel_rfl) ?_
      refine Tri.ret ?_
      cases h
      refine ⟨_, _, rfl, ⟨trivial, trivial⟩, rfl, rfl, ?_⟩
      intro k c h
      cases h
    · refine Tri.skip ?_
      show Tri _ _ _ _
      refine Tri.seqS ?_
      refine Tri.reg ?_
      refine At.seg 1 [4] [] (s' := ⟨[(4, .c (.d (.int .i64 (-1))))], []⟩) (c := True ∧ True) (by kernel_rfl) ⟨trivial, trivial⟩ ?_
      refine At.done rfl ?_
      show Tri _ _ _ _
      refine Tri.keep [4] [] (s' := ⟨[(4, .c (.d (.int .i64 (-1))))], []⟩) (by kernel_rfl) ?_
      refine Tri.ret ?_
      cases h
      refine ⟨_, _, rfl, ⟨trivial, trivial⟩, rfl, rfl, ?_⟩
      intro k c h
      cases h
  · refine Tri.skip ?_
    show Tri _ _ _ _
    refine Tri.seqS ?_
    refine Tri.seqS ?_
    refine Tri.reg ?_
    refine At.seg 1 [0, 1, 13] [] (s' := ⟨[(0, .c (.d (.int .i64 p0))), (1, .c (.d (.int .i64 p1))), (13, .c (.d (.bool r2)))], []⟩) (c := True ∧ True) (by kernel_rfl) ⟨trivial, trivial⟩ ?_
    refine At.done rfl ?_
    show Tri _ _ _ _
    refine Tri.condP (b := r2) rfl h (fun h => ?_) (fun h => ?_)
    · refine Tri.seqS ?_
      refine Tri.reg ?_
      refine At.seg 1 [4] [] (s' := ⟨[(4, .c (.d (.int .i64 1)))], []⟩) (c := True ∧ True) (by kernel_rfl) ⟨trivial, trivial⟩ ?_
      refine At.done rfl ?_
      show Tri _ _ _ _
      refine Tri.keep [4] [] (s' := ⟨[(4, .c (.d (.int .i64 1)))], []⟩) (by kernel_rfl) ?_
      refine Tri.ret ?_
      cases h
      refine ⟨_, _, rfl, ⟨trivial, trivial⟩, rfl, rfl, ?_⟩
      intro k c h
      cases h
    · refine Tri.skip ?_
      show Tri _ _ _ _
      refine Tri.seqS ?_
      refine Tri.seqS ?_
      refine Tri.reg ?_
      refine At.seg 3 [0, 1, 16] [] (s' := ⟨[(0, .c (.d (.int .i64 p0))), (1, .c (.d (.int .i64 p1))), (16, .c (.d (.bool (decide (p0 < p1)))))], []⟩) (c := True ∧ True ∧ True ∧ True) (by kernel_rfl) ⟨trivial, trivial, trivial, trivial⟩ ?_
      refine At.done rfl ?_
      show Tri _ _ _ _
      refine Tri.condP (b := (decide (p0 < p1))) rfl h (fun h => ?_) (fun h => ?_)
      · refine Tri.seqS ?_
        refine Tri.reg ?_
        refine At.seg 1 [4] [] (s' := ⟨[(4, .c (.d (.int .i64 (-1))))], []⟩) (c := True ∧ True) (by kernel_rfl) ⟨trivial, trivial⟩ ?_
        refine At.done rfl ?_
        show Tri _ _ _ _
        refine Tri.keep [4] [] (s' := ⟨[(4, .c (.d (.int .i64 (-1))))], []⟩) (by kernel_rfl) ?_
        refine Tri.ret ?_
        cases h
        refine ⟨_, _, rfl, ⟨trivial, trivial⟩, rfl, rfl, ?_⟩
        intro k c h
        cases h
      · refine Tri.skip ?_
        show Tri _ _ _ _
        refine Tri.seqS ?_
        refine Tri.seqS ?_
        refine Tri.reg ?_
        refine At.seg 3 [19] [] (s' := ⟨[(19, .c (.d (.bool (decide (p1 < p0)))))], []⟩) (c := True ∧ True ∧ True ∧ True) (by kernel_rfl) ⟨trivial, trivial, trivial, trivial⟩ ?_
        refine At.done rfl ?_
        show Tri _ _ _ _
        refine Tri.condP (b := (decide (p1 < p0))) rfl h (fun h => ?_) (fun h => ?_)
        · refine Tri.seqS ?_
          refine Tri.reg ?_
          refine At.seg 1 [4] [] (s' := ⟨[(4, .c (.d (.int .i64 1)))], []⟩) (c := True ∧ True) (by kernel_rfl) ⟨trivial, trivial⟩ ?_
          refine At.done rfl ?_
          show Tri _ _ _ _
          refine Tri.keep [4] [] (s' := ⟨[(4, .c (.d (.int .i64 1)))], []⟩) (by kernel_rfl) ?_
          refine Tri.ret ?_
          cases h
          refine ⟨_, _, rfl, ⟨trivial, trivial⟩, rfl, rfl, ?_⟩
          intro k c h
          cases h
        · refine Tri.skip ?_
          show Tri _ _ _ _
          refine Tri.seqS ?_
          refine Tri.reg ?_
          refine At.seg 1 [4] [] (s' := ⟨[(4, .c (.d (.int .i64 0)))], []⟩) (c := True ∧ True) (by kernel_rfl) ⟨trivial, trivial⟩ ?_
          refine At.done rfl ?_
          show Tri _ _ _ _
          refine Tri.keep [4] [] (s' := ⟨[(4, .c (.d (.int .i64 0)))], []⟩) (by kernel_rfl) ?_
          refine Tri.ret ?_
          cases h
          refine ⟨_, _, rfl, ⟨trivial, trivial⟩, rfl, rfl, ?_⟩
          intro k c h
          cases h

set_option maxRecDepth 100000 in
theorem value_Compare_ok {p0 : Value} {p1 : Value} {q : Int} (h : value_Compare p0 p1 = some q) :
    Summ Try.prog 13 [.agg [.d (.bool p0.isText), .d (.int .i64 p0.n), .d (.str p0.s)], .agg [.d (.bool p1.isText), .d (.int .i64 p1.n), .d (.str p1.s)]] [] (.c (.d (.int .i64 q))) [] := by
  refine Summ.intro Try.func13 rfl (by kernel_rfl) (by kernel_rfl) [] rfl ?_
  rintro ⟨P, w0, G0, V, LL, lk, N, φ0, fx⟩ rfl rfl rfl rfl
  unfold value_Compare at h
  refine Tri.seqS ?_
  refine Tri.reg ?_
  refine At.seg 3 [2, 3] [2, 3] (s' := ⟨[(2, .c (.ptr 2 0)), (3, .c (.ptr 3 0))], [(2, .box [.d (.bool p0.isText), .d (.int .i64 p0.n), .d (.str p0.s)]), (3, .box [.d (.bool p1.isText), .d (.int .i64 p1.n), .d (.str p1.s)])]⟩) (c := True ∧ True ∧ True ∧ True) (by kernel_rfl) ⟨trivial, trivial, trivial, trivial⟩ ?_
  refine At.done rfl ?_
  show Tri _ _ _ _
  refine Tri.seqS ?_
  refine Tri.blockB ?_
  refine Tri.seqS ?_
  refine Tri.reg ?_
  refine At.seg 6 [2, 3, 5] [2, 3] (s' := ⟨[(2, .c (.ptr 2 0)), (3, .c (.ptr 3 0)), (5, .c (.d (.bool (!(p0.isText == p1.isText)))))], [(2, .box [.d (.bool p0.isText), .d (.int .i64 p0.n), .d (.str p0.s)]), (3, .box [.d (.bool p1.isText), .d (.int .i64 p1.n), .d (.str p1.s)])]⟩) (c := True ∧ True ∧ True ∧ True ∧ True ∧ True ∧ True) (by kernel_rfl) ⟨trivial, trivial, trivial, trivial, trivial, trivial, trivial⟩ ?_
  refine At.done rfl ?_
  show Tri _ _ _ _
  refine Tri.condP (b := (!(p0.isText == p1.isText))) rfl h (fun h => ?_) (fun h => ?_)
  · refine Tri.seqS ?_
    obtain ⟨r1, hr1, h⟩ := bind_elim h
    obtain ⟨r2, hr2, h⟩ := bind_elim h
    obtain ⟨r3, hr3, h⟩ := bind_elim h
    refine Tri.drawn (specs := [⟨⟨[(2, .c (.ptr 2 0))], [(2, .box [.d (.bool p0.isText), .d (.int .i64 p0.n), .d (.str p0.s)])]⟩, ⟨[(11, .agg [.d (.bool p0.isText), .d (.int .i64 p0.n), .d (.str p0.s)])], []⟩, [], [], []⟩, ⟨⟨[(11, .agg [.d (.bool p0.isText), .d (.int .i64 p0.n), .d (.str p0.s)])], []⟩, ⟨[(12, .c (.d (.int .i64 r1)))], []⟩, [], [], []⟩, ⟨⟨[(3, .c (.ptr 3 0))], [(3, .box [.d (.bool p1.isText), .d (.int .i64 p1.n), .d (.str p1.s)])]⟩, ⟨[(13, .agg [.d (.bool p1.isText), .d (.int .i64 p1.n), .d (.str p1.s)])], []⟩, [], [], []⟩, ⟨⟨[(13, .agg [.d (.bool p1.isText), .d (.int .i64 p1.n), .d (.str p1.s)])], []⟩, ⟨[(14, .c (.d (.int .i64 r2)))], []⟩, [], [], []⟩, ⟨⟨[(12, .c (.d (.int .i64 r1))), (14, .c (.d (.int .i64 r2)))], []⟩, ⟨[(15, .c (.d (.int .i64 r3)))], []⟩, [], [], []⟩, ⟨⟨[(15, .c (.d (.int .i64 r3)))], []⟩, ⟨[(4, .c (.d (.int .i64 r3)))], []⟩, [], [], []⟩]) (bef := [[], [0], [], [0, 1, 2], [0, 1, 2, 3], [0, 1, 2, 3, 4]]) (tk := [4]) (sk := []) (s' := ⟨[(4, .c (.d (.int .i64 r3)))], []⟩) (by kernel_rfl) (by kernel_rfl) (by kernel_rfl) ⟨?_, ?_, ?_, ?_, ?_, ?_, trivial⟩ (by kernel_rfl) ?_
    · exact DOk.step (.val (.agg [.d (.bool p0.isText), .d (.int .i64 p0.n), .d (.str p0.s)]) (True)) (fun r => by kernel_rfl) (fun r => by kernel_rfl) trivial (by kernel_rfl) (by kernel_rfl) (fun r => rfl)
    · exact DOk.callA (caps := []) (xs := [.agg [.d (.bool p0.isText), .d (.int .i64 p0.n), .d (.str p0.s)]]) (value_mark_ok hr1) rfl (fun r => by kernel_rfl) rfl (fun r => by kernel_rfl) (fun r => by kernel_rfl) (fun r => (.cons (.refl _) .nil)) rfl rfl (fun r => rfl)
    · exact DOk.step (.val (.agg [.d (.bool p1.isText), .d (.int .i64 p1.n), .d (.str p1.s)]) (True)) (fun r => by kernel_rfl) (fun r => by kernel_rfl) trivial (by kernel_rfl) (by kernel_rfl) (fun r => rfl)
    · exact DOk.callA (caps := []) (xs := [.agg [.d (.bool p1.isText), .d (.int .i64 p1.n), .d (.str p1.s)]]) (value_mark_ok hr2) rfl (fun r => by kernel_rfl) rfl (fun r => by kernel_rfl) (fun r => by kernel_rfl) (fun r => (.cons (.refl _) .nil)) rfl rfl (fun r => rfl)
    · exact DOk.callA (caps := []) (xs := [.c (.d (.int .i64 r1)), .c (.d (.int .i64 r2))]) (cmp_Compare_int_ok hr3) rfl (fun r => by kernel_rfl) rfl (fun r => by kernel_rfl) (fun r => by kernel_rfl) (fun r => (.cons (.refl _) (.cons (.refl _) .nil))) rfl rfl (fun r => rfl)
    · exact DOk.step (.val (.c (.d (.int .i64 r3))) (True)) (fun r => by kernel_rfl) (fun r => by kernel_rfl) trivial (by kernel_rfl) (by kernel_rfl) (fun r => rfl)
    show Tri _ _ _ _
    refine Tri.keep [4] [] (s' := ⟨[(4, .c (.d (.int .i64 r3)))], []⟩) (by kernel_rfl) ?_
    refine Tri.ret ?_
    cases h
    refine ⟨_, _, rfl, ⟨trivial, trivial⟩, rfl, rfl, ?_⟩
    intro k c h
    cases h
  · refine Tri.seqS ?_
    refine Tri.reg ?_
    refine At.seg 3 [2, 3, 16] [2, 3] (s' := ⟨[(2, .c (.ptr 2 0)), (3, .c (.ptr 3 0)), (16, .c (.d (.bool p0.isText)))], [(2, .box [.d (.bool p0.isText), .d (.int .i64 p0.n), .d (.str p0.s)]), (3, .box [.d (.bool p1.isText), .d (.int .i64 p1.n), .d (.str p1.s)])]⟩) (c := True ∧ True ∧ True ∧ True) (by kernel_rfl) ⟨trivial, trivial, trivial, trivial⟩ ?_
    refine At.done rfl ?_
    show Tri _ _ _ _
    refine Tri.condP (b := p0.isText) rfl h (fun h => ?_) (fun h => ?_)
    · refine Tri.seqS ?_
      refine Tri.reg ?_
      refine At.seg 4 [20, 22] [] (s' := ⟨[(20, .c (.d (.str p0.s))), (22, .c (.d (.str p1.s)))], []⟩) (c := True ∧ True ∧ True ∧ True ∧ True) (by kernel_rfl) ⟨trivial, trivial, trivial, trivial, trivial⟩ ?_
      obtain ⟨r4, hr4, h⟩ := bind_elim h
      refine At.callA (caps := []) (xs := [.c (.d (.str p0.s)), .c (.d (.str p1.s))]) (cmp_Compare_string_ok hr4) rfl rfl rfl rfl rfl rfl (.cons (.refl _) (.cons (.refl _) .nil)) rfl rfl ?_
      refine At.seg 1 [4] [] (s' := ⟨[(4, .c (.d (.int .i64 r4)))], []⟩) (c := True ∧ True) (by kernel_rfl) ⟨trivial, trivial⟩ ?_
      refine At.done rfl ?_
      show Tri _ _ _ _
      refine Tri.keep [4] [] (s' := ⟨[(4, .c (.d (.int .i64 r4)))], []⟩) (by kernel_rfl) ?_
      refine Tri.ret ?_
      cases h
      refine ⟨_, _, rfl, ⟨trivial, trivial⟩, rfl, rfl, ?_⟩
      intro k c h
      cases h
    · refine Tri.skip ?_
      show Tri _ _ _ _
      refine Tri.seqS ?_
      refine Tri.reg ?_
      refine At.seg 4 [25, 27] [] (s' := ⟨[(25, .c (.d (.int .i64 p0.n))), (27, .c (.d (.int .i64 p1.n)))], []⟩) (c := True ∧ True ∧ True ∧ True ∧ True) (by kernel_rfl) ⟨trivial, trivial, trivial, trivial, trivial⟩ ?_
      obtain ⟨r5, hr5, h⟩ := bind_elim h
      refine At.callA (caps := []) (xs := [.c (.d (.int .i64 p0.n)), .c (.d (.int .i64 p1.n))]) (cmp_Compare_int64_ok hr5) rfl rfl rfl rfl rfl rfl (.cons (.refl _) (.cons (.refl _) .nil)) rfl rfl ?_
      refine At.seg 1 [4] [] (s' := ⟨[(4, .c (.d (.int .i64 r5)))], []⟩) (c := True ∧ True) (by kernel_rfl) ⟨trivial, trivial⟩ ?_
      refine At.done rfl ?_
      show Tri _ _ _ _
      refine Tri.keep [4] [] (s' := ⟨[(4, .c (.d (.int .i64 r5)))], []⟩) (by kernel_rfl) ?_
      refine Tri.ret ?_
      cases h
      refine ⟨_, _, rfl, ⟨trivial, trivial⟩, rfl, rfl, ?_⟩
      intro k c h
      cases h

set_option maxRecDepth 100000 in
theorem slices_CompareFuncfreshet_api_Value_freshet_api_Value_freshet_api_Value_freshet_api_Value_Value__value_Compare_ok {p0 : List Value} {p1 : List Value} {q : Int} (h : slices_CompareFuncfreshet_api_Value_freshet_api_Value_freshet_api_Value_freshet_api_Value_Value__value_Compare p0 p1 = some q) :
    Summ Try.prog 31 [.c (.d (.list 3 p0.length (fun i => encValue (p0.getD i default)))), .c (.d (.list 3 p1.length (fun i => encValue (p1.getD i default)))), .c (.d (.fn 13 []))] [] (.c (.d (.int .i64 q))) [] := by
  refine Summ.intro Try.func31 rfl (by kernel_rfl) (by kernel_rfl) [] rfl ?_
  rintro ⟨P, w0, G0, V, LL, lk, N, φ0, fx⟩ rfl rfl rfl rfl
  unfold slices_CompareFuncfreshet_api_Value_freshet_api_Value_freshet_api_Value_freshet_api_Value_Value__value_Compare at h
  refine Tri.seqS ?_
  refine Tri.reg ?_
  refine At.seg 1 [0, 1, 2] [] (s' := ⟨[(0, .c (.d (.list 3 p0.length (fun i => encValue (p0.getD i default))))), (1, .c (.d (.list 3 p1.length (fun i => encValue (p1.getD i default))))), (2, .c (.d (.fn 13 [])))], []⟩) (c := True ∧ True) (by kernel_rfl) ⟨trivial, trivial⟩ ?_
  refine At.done rfl ?_
  show Tri _ _ _ _
  refine Tri.seqS ?_
  refine Tri.seqS ?_
  refine Tri.reg ?_
  refine At.seg 3 [0, 1, 2, 11, 12, 13] [] (s' := ⟨[(0, .c (.d (.list 3 p0.length (fun i => encValue (p0.getD i default))))), (1, .c (.d (.list 3 p1.length (fun i => encValue (p1.getD i default))))), (2, .c (.d (.fn 13 []))), (11, .c (.d (.list 3 p0.length (fun i => encValue (p0.getD i default))))), (12, .c (.d (.int .i64 (p0.length : Int)))), (13, .c (.d (.int .i64 0)))], []⟩) (c := True ∧ True ∧ True ∧ True) (by kernel_rfl) ⟨trivial, trivial, trivial, trivial⟩ ?_
  refine At.done rfl ?_
  show Tri _ _ _ _
  refine Tri.lenOf (t := 11) rfl fun hlena2 => ?_
  refine Tri.keep [13, 0, 1, 2, 11, 12] [] (s' := idx 13 0 ⟨[(0, .c (.d (.list 3 p0.length (fun i => encValue (p0.getD i default))))), (1, .c (.d (.list 3 p1.length (fun i => encValue (p1.getD i default))))), (2, .c (.d (.fn 13 []))), (11, .c (.d (.list 3 p0.length (fun i => encValue (p0.getD i default))))), (12, .c (.d (.int .i64 (p0.length : Int))))], []⟩) (by kernel_rfl) ?_
  refine Tri.range (n := p0.length) (st0 := ()) (fun (x : Int) s => RetAt Try.prog Try.f31 (.c (.d (.int .i64 x))) [] s) (fun (a2 : Unit) => ⟨[(0, .c (.d (.list 3 p0.length (fun i => encValue (p0.getD i default))))), (1, .c (.d (.list 3 p1.length (fun i => encValue (p1.getD i default))))), (2, .c (.d (.fn 13 []))), (11, .c (.d (.list 3 p0.length (fun i => encValue (p0.getD i default))))), (12, .c (.d (.int .i64 (p0.length : Int))))], []⟩) (fun (a2 : Unit) => ⟨[(0, .c (.d (.list 3 p0.length (fun i => encValue (p0.getD i default))))), (1, .c (.d (.list 3 p1.length (fun i => encValue (p1.getD i default))))), (2, .c (.d (.fn 13 []))), (11, .c (.d (.list 3 p0.length (fun i => encValue (p0.getD i default))))), (12, .c (.d (.int .i64 (p0.length : Int))))], []⟩) (fun i => decide ((i : Int) < (p0.length : Int))) [14, 13, 0, 1, 2, 11, 12] [] [0, 1, 2, 11, 12] [] [13, 0, 1, 2, 11, 12] [] h hlena2 rfl ?_ ?_ ?_ ?_ ?_ ?_ ?_ ?_
  · exact fun i a => ⟨True ∧ True, by kernel_rfl, ⟨trivial, trivial⟩⟩
  · exact fun i hi => decide_eq_true (by omega)
  · exact decide_eq_false (by omega)
  · exact fun a => by kernel_rfl
  · exact fun i a => ⟨True ∧ True ∧ True, by kernel_rfl, ⟨trivial, trivial, trivial⟩⟩
  · intro i1 a2 c hii1 h
    refine Tri.seqS ?_
    refine Tri.reg ?_
    refine At.seg 6 [0, 1, 2, 7, 8, 11, 12, 13] [8] (s' := ⟨[(0, .c (.d (.list 3 p0.length (fun i => encValue (p0.getD i default))))), (1, .c (.d (.list 3 p1.length (fun i => encValue (p1.getD i default))))), (2, .c (.d (.fn 13 []))), (7, .c (.d (.int .i64 ((i1 : Nat) : Int)))), (8, .c (.ptr 8 0)), (11, .c (.d (.list 3 p0.length (fun i => encValue (p0.getD i default))))), (12, .c (.d (.int .i64 (p0.length : Int)))), (13, .c (.d (.int .i64 ((i1 : Nat) : Int))))], [(8, .box [.d (.bool ((p0.getD i1 default).isText)), .d (.int .i64 ((p0.getD i1 default).n)), .d (.str ((p0.getD i1 default).s))])]⟩) (c := True ∧ ((0 : Int) ≤ ((i1 : Nat) : Int) ∧ ((i1 : Nat) : Int) < (p0.length : Int)) ∧ True ∧ True ∧ True ∧ True ∧ True) (by kernel_rfl) ⟨trivial, ⟨by omega, by omega⟩, trivial, trivial, trivial, trivial, trivial⟩ ?_
    refine At.done rfl ?_
    show Tri _ _ _ _
    refine Tri.seqS ?_
    refine Tri.seqS ?_
    refine Tri.reg ?_
    refine At.seg 4 [0, 1, 2, 7, 8, 11, 12, 13, 21] [8] (s' := ⟨[(0, .c (.d (.list 3 p0.length (fun i => encValue (p0.getD i default))))), (1, .c (.d (.list 3 p1.length (fun i => encValue (p1.getD i default))))), (2, .c (.d (.fn 13 []))), (7, .c (.d (.int .i64 ((i1 : Nat) : Int)))), (8, .c (.ptr 8 0)), (11, .c (.d (.list 3 p0.length (fun i => encValue (p0.getD i default))))), (12, .c (.d (.int .i64 (p0.length : Int)))), (13, .c (.d (.int .i64 ((i1 : Nat) : Int)))), (21, .c (.d (.bool (decide ((p1.length : Int) ≤ ((i1 : Nat) : Int))))))], [(8, .box [.d (.bool ((p0.getD i1 default).isText)), .d (.int .i64 ((p0.getD i1 default).n)), .d (.str ((p0.getD i1 default).s))])]⟩) (c := True ∧ True ∧ True ∧ True ∧ True) (by kernel_rfl) ⟨trivial, trivial, trivial, trivial, trivial⟩ ?_
    refine At.done rfl ?_
    show Tri _ _ _ _
    refine Tri.condP (b := (decide ((p1.length : Int) ≤ ((i1 : Nat) : Int)))) rfl h (fun h => ?_) (fun h => ?_)
    · refine Tri.seqS ?_
      refine Tri.reg ?_
      refine At.seg 1 [6] [] (s' := ⟨[(6, .c (.d (.int .i64 1)))], []⟩) (c := True ∧ True) (by kernel_rfl) ⟨trivial, trivial⟩ ?_
      refine At.done rfl ?_
      show Tri _ _ _ _
      refine Tri.keep [6] [] (s' := ⟨[(6, .c (.d (.int .i64 1)))], []⟩) (by kernel_rfl) ?_
      refine Tri.ret ?_
      cases h
      refine ⟨_, _, rfl, ⟨trivial, trivial⟩, rfl, rfl, ?_⟩
      intro k c h
      cases h
    · refine Tri.skip ?_
      show Tri _ _ _ _
      refine Tri.seqS ?_
      refine Tri.reg ?_
      obtain ⟨hc4, h⟩ := need_elim h
      refine At.seg 6 [0, 1, 2, 8, 9, 11, 12, 13] [8, 9] (s' := ⟨[(0, .c (.d (.list 3 p0.length (fun i => encValue (p0.getD i default))))), (1, .c (.d (.list 3 p1.length (fun i => encValue (p1.getD i default))))), (2, .c (.d (.fn 13 []))), (8, .c (.ptr 8 0)), (9, .c (.ptr 9 0)), (11, .c (.d (.list 3 p0.length (fun i => encValue (p0.getD i default))))), (12, .c (.d (.int .i64 (p0.length : Int)))), (13, .c (.d (.int .i64 ((i1 : Nat) : Int))))], [(8, .box [.d (.bool ((p0.getD i1 default).isText)), .d (.int .i64 ((p0.getD i1 default).n)), .d (.str ((p0.getD i1 default).s))]), (9, .box [.d (.bool ((p1.getD i1 default).isText)), .d (.int .i64 ((p1.getD i1 default).n)), .d (.str ((p1.getD i1 default).s))])]⟩) (c := True ∧ True ∧ ((0 : Int) ≤ ((i1 : Nat) : Int) ∧ ((i1 : Nat) : Int) < (p1.length : Int)) ∧ True ∧ True ∧ True ∧ True) (by kernel_rfl) ⟨trivial, trivial, hc4, trivial, trivial, trivial, trivial⟩ ?_
      refine At.done rfl ?_
      show Tri _ _ _ _
      refine Tri.seqS ?_
      refine Tri.reg ?_
      refine At.seg 3 [0, 1, 2, 11, 12, 13, 26, 27, 28] [] (s' := ⟨[(0, .c (.d (.list 3 p0.length (fun i => encValue (p0.getD i default))))), (1, .c (.d (.list 3 p1.length (fun i => encValue (p1.getD i default))))), (2, .c (.d (.fn 13 []))), (11, .c (.d (.list 3 p0.length (fun i => encValue (p0.getD i default))))), (12, .c (.d (.int .i64 (p0.length : Int)))), (13, .c (.d (.int .i64 ((i1 : Nat) : Int)))), (26, .c (.d (.fn 13 []))), (27, .agg [.d (.bool ((p0.getD i1 default).isText)), .d (.int .i64 ((p0.getD i1 default).n)), .d (.str ((p0.getD i1 default).s))]), (28, .agg [.d (.bool ((p1.getD i1 default).isText)), .d (.int .i64 ((p1.getD i1 default).n)), .d (.str ((p1.getD i1 default).s))])], []⟩) (c := True ∧ True ∧ True ∧ True) (by kernel_rfl) ⟨trivial, trivial, trivial, trivial⟩ ?_
      obtain ⟨r5, hr5, h⟩ := bind_elim h
      refine At.callA (caps := []) (xs := [.agg [.d (.bool ((p0.getD i1 default).isText)), .d (.int .i64 ((p0.getD i1 default).n)), .d (.str ((p0.getD i1 default).s))], .agg [.d (.bool ((p1.getD i1 default).isText)), .d (.int .i64 ((p1.getD i1 default).n)), .d (.str ((p1.getD i1 default).s))]]) (value_Compare_ok hr5) rfl rfl rfl rfl rfl rfl (.cons (.refl _) (.cons (.refl _) .nil)) rfl rfl ?_
      refine At.seg 1 [0, 1, 2, 10, 11, 12, 13] [] (s' := ⟨[(0, .c (.d (.list 3 p0.length (fun i => encValue (p0.getD i default))))), (1, .c (.d (.list 3 p1.length (fun i => encValue (p1.getD i default))))), (2, .c (.d (.fn 13 []))), (10, .c (.d (.int .i64 r5))), (11, .c (.d (.list 3 p0.length (fun i => encValue (p0.getD i default))))), (12, .c (.d (.int .i64 (p0.length : Int)))), (13, .c (.d (.int .i64 ((i1 : Nat) : Int))))], []⟩) (c := True ∧ True) (by kernel_rfl) ⟨trivial, trivial⟩ ?_
      refine At.done rfl ?_
      show Tri _ _ _ _
      refine Tri.seqS ?_
      refine Tri.reg ?_
      refine At.seg 2 [0, 1, 2, 10, 11, 12, 13, 31] [] (s' := ⟨[(0, .c (.d (.list 3 p0.length (fun i => encValue (p0.getD i default))))), (1, .c (.d (.list 3 p1.length (fun i => encValue (p1.getD i default))))), (2, .c (.d (.fn 13 []))), (10, .c (.d (.int .i64 r5))), (11, .c (.d (.list 3 p0.length (fun i => encValue (p0.getD i default))))), (12, .c (.d (.int .i64 (p0.length : Int)))), (13, .c (.d (.int .i64 ((i1 : Nat) : Int)))), (31, .c (.d (.bool (!decide (r5 = 0)))))], []⟩) (c := True ∧ True ∧ True) (by kernel_rfl) ⟨trivial, trivial, trivial⟩ ?_
      refine At.done rfl ?_
      show Tri _ _ _ _
      refine Tri.condP (b := (!decide (r5 = 0))) rfl h (fun h => ?_) (fun h => ?_)
      · refine Tri.seqS ?_
        refine Tri.reg ?_
        refine At.seg 2 [6] [] (s' := ⟨[(6, .c (.d (.int .i64 r5)))], []⟩) (c := True ∧ True ∧ True) (by kernel_rfl) ⟨trivial, trivial, trivial⟩ ?_
        refine At.done rfl ?_
        show Tri _ _ _ _
        refine Tri.keep [6] [] (s' := ⟨[(6, .c (.d (.int .i64 r5)))], []⟩) (by kernel_rfl) ?_
        refine Tri.ret ?_
        cases h
        refine ⟨_, _, rfl, ⟨trivial, trivial⟩, rfl, rfl, ?_⟩
        intro k c h
        cases h
      · refine Tri.keep [13, 0, 1, 2, 11, 12] [] (s' := ⟨[(13, .c (.d (.int .i64 ((i1 : Nat) : Int)))), (0, .c (.d (.list 3 p0.length (fun i => encValue (p0.getD i default))))), (1, .c (.d (.list 3 p1.length (fun i => encValue (p1.getD i default))))), (2, .c (.d (.fn 13 []))), (11, .c (.d (.list 3 p0.length (fun i => encValue (p0.getD i default))))), (12, .c (.d (.int .i64 (p0.length : Int))))], []⟩) (by kernel_rfl) ?_
        refine Tri.skip ?_
        cases h
        exact rfl
  · intro a3 h
    show Tri _ _ _ _
    refine Tri.seqS ?_
    refine Tri.seqS ?_
    refine Tri.reg ?_
    refine At.seg 5 [38] [] (s' := ⟨[(38, .c (.d (.bool (decide ((p0.length : Int) < (p1.length : Int))))))], []⟩) (c := True ∧ True ∧ True ∧ True ∧ True ∧ True) (by kernel_rfl) ⟨trivial, trivial, trivial, trivial, trivial, trivial⟩ ?_
    refine At.done rfl ?_
    show Tri _ _ _ _
    refine Tri.condP (b := (decide ((p0.length : Int) < (p1.length : Int)))) rfl h (fun h => ?_) (fun h => ?_)
    · refine Tri.seqS ?_
      refine Tri.reg ?_
      refine At.seg 1 [6] [] (s' := ⟨[(6, .c (.d (.int .i64 (-1))))], []⟩) (c := True ∧ True) (by kernel_rfl) ⟨trivial, trivial⟩ ?_
      refine At.done rfl ?_
      show Tri _ _ _ _
      refine Tri.keep [6] [] (s' := ⟨[(6, .c (.d (.int .i64 (-1))))], []⟩) (by kernel_rfl) ?_
      refine Tri.ret ?_
      cases h
      refine ⟨_, _, rfl, ⟨trivial, trivial⟩, rfl, rfl, ?_⟩
      intro k c h
      cases h
    · refine Tri.skip ?_
      show Tri _ _ _ _
      refine Tri.seqS ?_
      refine Tri.reg ?_
      refine At.seg 1 [6] [] (s' := ⟨[(6, .c (.d (.int .i64 0)))], []⟩) (c := True ∧ True) (by kernel_rfl) ⟨trivial, trivial⟩ ?_
      refine At.done rfl ?_
      show Tri _ _ _ _
      refine Tri.keep [6] [] (s' := ⟨[(6, .c (.d (.int .i64 0)))], []⟩) (by kernel_rfl) ?_
      refine Tri.ret ?_
      cases h
      refine ⟨_, _, rfl, ⟨trivial, trivial⟩, rfl, rfl, ?_⟩
      intro k c h
      cases h
  · exact fun x s hx hr => by cases hx; exact hr

set_option maxRecDepth 100000 in
theorem value_Rows_ok {p0 : List Value} {p1 : List Value} {q : Int} (h : value_Rows p0 p1 = some q) :
    Summ Try.prog 12 [.c (.d (.list 3 p0.length (fun i => encValue (p0.getD i default)))), .c (.d (.list 3 p1.length (fun i => encValue (p1.getD i default))))] [] (.c (.d (.int .i64 q))) [] := by
  refine Summ.intro Try.func12 rfl (by kernel_rfl) (by kernel_rfl) [] rfl ?_
  rintro ⟨P, w0, G0, V, LL, lk, N, φ0, fx⟩ rfl rfl rfl rfl
  unfold value_Rows at h
  refine Tri.seqS ?_
  refine Tri.reg ?_
  refine At.seg 1 [0, 1] [] (s' := ⟨[(0, .c (.d (.list 3 p0.length (fun i => encValue (p0.getD i default))))), (1, .c (.d (.list 3 p1.length (fun i => encValue (p1.getD i default)))))], []⟩) (c := True ∧ True) (by kernel_rfl) ⟨trivial, trivial⟩ ?_
  refine At.done rfl ?_
  show Tri _ _ _ _
  refine Tri.seqS ?_
  refine Tri.reg ?_
  refine At.seg 2 [5, 6] [] (s' := ⟨[(5, .c (.d (.list 3 p0.length (fun i => encValue (p0.getD i default))))), (6, .c (.d (.list 3 p1.length (fun i => encValue (p1.getD i default)))))], []⟩) (c := True ∧ True ∧ True) (by kernel_rfl) ⟨trivial, trivial, trivial⟩ ?_
  obtain ⟨r1, hr1, h⟩ := bind_elim h
  refine At.callA (caps := []) (xs := [.c (.d (.list 3 p0.length (fun i => encValue (p0.getD i default)))), .c (.d (.list 3 p1.length (fun i => encValue (p1.getD i default)))), .c (.d (.fn 13 []))]) (slices_CompareFuncfreshet_api_Value_freshet_api_Value_freshet_api_Value_freshet_api_Value_Value__value_Compare_ok hr1) rfl rfl rfl rfl rfl rfl (.cons (.refl _) (.cons (.refl _) (.cons (.refl _) .nil))) rfl rfl ?_
  refine At.seg 1 [4] [] (s' := ⟨[(4, .c (.d (.int .i64 r1)))], []⟩) (c := True ∧ True) (by kernel_rfl) ⟨trivial, trivial⟩ ?_
  refine At.done rfl ?_
  show Tri _ _ _ _
  refine Tri.keep [4] [] (s' := ⟨[(4, .c (.d (.int .i64 r1)))], []⟩) (by kernel_rfl) ?_
  refine Tri.ret ?_
  cases h
  refine ⟨_, _, rfl, ⟨trivial, trivial⟩, rfl, rfl, ?_⟩
  intro k c h
  cases h

set_option maxRecDepth 100000 in
theorem freshetlaw03_orders_ok  {q : Bool} (h : freshetlaw03_orders = some q) :
    Summ Try.prog 11 [] [] (.c (.d (.bool q))) [] := by
  refine Summ.intro Try.func11 rfl (by kernel_rfl) (by kernel_rfl) [] rfl ?_
  rintro ⟨P, w0, G0, V, LL, lk, N, φ0, fx⟩ rfl rfl rfl rfl
  unfold freshetlaw03_orders at h
  refine Tri.seqS ?_
  refine Tri.reg ?_
  refine At.seg 1 [] [] (s' := ⟨[], []⟩) (c := True ∧ True) (by kernel_rfl) ⟨trivial, trivial⟩ ?_
  refine At.done rfl ?_
  show Tri _ _ _ _
  refine Tri.seqJ (fun (a1 : Bool) => ⟨[(0, .c (.d (.bool a1)))], []⟩) h (fun a1 h => ?_) (fun j2 h => ?_)
  · show Tri _ _ ⟨[(0, .c (.d (.bool a1)))], []⟩ _
    refine Tri.keep [0] [] (s' := ⟨[(0, .c (.d (.bool a1)))], []⟩) (by kernel_rfl) ?_
    refine Tri.ret ?_
    cases h
    refine ⟨_, _, rfl, ⟨trivial, trivial⟩, rfl, rfl, ?_⟩
    intro k c h
    cases h
  · refine Tri.reg ?_
    obtain ⟨r3, hr3, h⟩ := bind_elim h
    refine At.callA (caps := []) (xs := [.c (.d (.int .i64 5))]) (freshetlaw03_num_ok hr3) rfl rfl rfl rfl rfl rfl (.cons (.refl _) .nil) rfl rfl ?_
    obtain ⟨r4, hr4, h⟩ := bind_elim h
    refine At.callA (caps := []) (xs := [.c (.d (.str (bs [])))]) (freshetlaw03_text_ok hr4) rfl rfl rfl rfl rfl rfl (.cons (.refl _) .nil) rfl rfl ?_
    obtain ⟨r5, hr5, h⟩ := bind_elim h
    refine At.callA (caps := []) (xs := [.agg [.d (.bool r3.isText), .d (.int .i64 r3.n), .d (.str r3.s)], .agg [.d (.bool r4.isText), .d (.int .i64 r4.n), .d (.str r4.s)]]) (value_Compare_ok hr5) rfl rfl rfl rfl rfl rfl (.cons (.refl _) (.cons (.refl _) .nil)) rfl rfl ?_
    refine At.seg 2 [5] [] (s' := ⟨[(5, .c (.d (.bool (decide (r5 = (-1))))))], []⟩) (c := True ∧ True ∧ True) (by kernel_rfl) ⟨trivial, trivial, trivial⟩ ?_
    refine At.case (fun b => ⟨[(5, .c (.d (.bool b)))], []⟩) (b := (decide (r5 = (-1)))) h (fun h => ?_) (fun h => ?_)
    · obtain ⟨r6, hr6, h⟩ := bind_elim h
      refine At.callA (caps := []) (xs := [.c (.d (.int .i64 1))]) (freshetlaw03_num_ok hr6) rfl rfl rfl rfl rfl rfl (.cons (.refl _) .nil) rfl rfl ?_
      refine At.one rfl (One.buildSlice (z := [.d (.bool false), .d (.int .i64 0), .d (.str (bs []))]) (cells := [.d (.bool r6.isText), .d (.int .i64 r6.n), .d (.str r6.s)]) (xs := List.map (encValue) ([r6] : List Value)) rfl rfl rfl rfl (by kernel_rfl) rfl rfl (by kernel_rfl) rfl rfl rfl (by kernel_rfl) rfl ⟨⟨rfl, .refl _⟩, trivial⟩) ?_
      refine At.le [7] (fun k _ h => by cases h) ⟨[(7, .c (.d (.list 3 ([r6] : List Value).length (fun i => encValue (([r6] : List Value).getD i default))))), (5, .c (.d (.bool true))), (6, .agg [.d (.bool r6.isText), .d (.int .i64 r6.n), .d (.str r6.s)])], []⟩ ⟨⟨_, rfl, .c (.own rfl (List.mem_singleton.2 rfl) (Nat.le_of_ble_eq_true rfl) rfl (encs_getD (encValue) ([r6] : List Value)))⟩, ⟨_, rfl, .refl _⟩, ⟨_, rfl, .refl _⟩, trivial⟩ trivial ?_
      obtain ⟨r7, hr7, h⟩ := bind_elim h
      refine At.callA (caps := []) (xs := [.c (.d (.int .i64 1))]) (freshetlaw03_num_ok hr7) rfl rfl rfl rfl rfl rfl (.cons (.refl _) .nil) rfl rfl ?_
      obtain ⟨r8, hr8, h⟩ := bind_elim h
      refine At.callA (caps := []) (xs := [.c (.d (.int .i64 0))]) (freshetlaw03_num_ok hr8) rfl rfl rfl rfl rfl rfl (.cons (.refl _) .nil) rfl rfl ?_
      refine At.one rfl (One.buildSlice (z := [.d (.bool false), .d (.int .i64 0), .d (.str (bs []))]) (cells := [.d (.bool r7.isText), .d (.int .i64 r7.n), .d (.str r7.s), .d (.bool r8.isText), .d (.int .i64 r8.n), .d (.str r8.s)]) (xs := List.map (encValue) ([r7, r8] : List Value)) rfl rfl rfl rfl (by kernel_rfl) rfl rfl (by kernel_rfl) rfl rfl rfl (by kernel_rfl) rfl ⟨⟨rfl, .refl _⟩, ⟨rfl, .refl _⟩, trivial⟩) ?_
      refine At.le [10] (fun k _ h => by cases h) ⟨[(10, .c (.d (.list 3 ([r7, r8] : List Value).length (fun i => encValue (([r7, r8] : List Value).getD i default))))), (5, .c (.d (.bool true))), (7, .c (.d (.list 3 ([r6] : List Value).length (fun i => encValue (([r6] : List Value).getD i default))))), (8, .agg [.d (.bool r7.isText), .d (.int .i64 r7.n), .d (.str r7.s)]), (9, .agg [.d (.bool r8.isText), .d (.int .i64 r8.n), .d (.str r8.s)])], []⟩ ⟨⟨_, rfl, .c (.own rfl (List.mem_singleton.2 rfl) (Nat.le_of_ble_eq_true rfl) rfl (encs_getD (encValue) ([r7, r8] : List Value)))⟩, ⟨_, rfl, .refl _⟩, ⟨_, rfl, .refl _⟩, ⟨_, rfl, .refl _⟩, ⟨_, rfl, .refl _⟩, trivial⟩ trivial ?_
      obtain ⟨r9, hr9, h⟩ := bind_elim h
      refine At.callA (caps := []) (xs := [.c (.d (.list 3 ([r6] : List Value).length (fun i => encValue (([r6] : List Value).getD i default)))), .c (.d (.list 3 ([r7, r8] : List Value).length (fun i => encValue (([r7, r8] : List Value).getD i default))))]) (value_Rows_ok hr9) rfl rfl rfl rfl rfl rfl (.cons (.refl _) (.cons (.refl _) .nil)) rfl rfl ?_
      refine At.seg 3 [14] [] (s' := ⟨[(14, .c (.d (.bool (decide (r9 = (-1))))))], []⟩) (c := True ∧ True ∧ True ∧ True) (by kernel_rfl) ⟨trivial, trivial, trivial, trivial⟩ ?_
      refine At.case (fun b => ⟨[(14, .c (.d (.bool b)))], []⟩) (b := (decide (r9 = (-1)))) h (fun h => ?_) (fun h => ?_)
      · obtain ⟨r10, hr10, h⟩ := bind_elim h
        refine At.callA (caps := []) (xs := [.c (.d (.int .i64 2))]) (freshetlaw03_num_ok hr10) rfl rfl rfl rfl rfl rfl (.cons (.refl _) .nil) rfl rfl ?_
        refine At.one rfl (One.buildSlice (z := [.d (.bool false), .d (.int .i64 0), .d (.str (bs []))]) (cells := [.d (.bool r10.isText), .d (.int .i64 r10.n), .d (.str r10.s)]) (xs := List.map (encValue) ([r10] : List Value)) rfl rfl rfl rfl (by kernel_rfl) rfl rfl (by kernel_rfl) rfl rfl rfl (by kernel_rfl) rfl ⟨⟨rfl, .refl _⟩, trivial⟩) ?_
        refine At.le [16] (fun k _ h => by cases h) ⟨[(16, .c (.d (.list 3 ([r10] : List Value).length (fun i => encValue (([r10] : List Value).getD i default))))), (14, .c (.d (.bool true))), (15, .agg [.d (.bool r10.isText), .d (.int .i64 r10.n), .d (.str r10.s)])], []⟩ ⟨⟨_, rfl, .c (.own rfl (List.mem_singleton.2 rfl) (Nat.le_of_ble_eq_true rfl) rfl (encs_getD (encValue) ([r10] : List Value)))⟩, ⟨_, rfl, .refl _⟩, ⟨_, rfl, .refl _⟩, trivial⟩ trivial ?_
        obtain ⟨r11, hr11, h⟩ := bind_elim h
        refine At.callA (caps := []) (xs := [.c (.d (.int .i64 1))]) (freshetlaw03_num_ok hr11) rfl rfl rfl rfl rfl rfl (.cons (.refl _) .nil) rfl rfl ?_
        obtain ⟨r12, hr12, h⟩ := bind_elim h
        refine At.callA (caps := []) (xs := [.c (.d (.int .i64 9))]) (freshetlaw03_num_ok hr12) rfl rfl rfl rfl rfl rfl (.cons (.refl _) .nil) rfl rfl ?_
        refine At.one rfl (One.buildSlice (z := [.d (.bool false), .d (.int .i64 0), .d (.str (bs []))]) (cells := [.d (.bool r11.isText), .d (.int .i64 r11.n), .d (.str r11.s), .d (.bool r12.isText), .d (.int .i64 r12.n), .d (.str r12.s)]) (xs := List.map (encValue) ([r11, r12] : List Value)) rfl rfl rfl rfl (by kernel_rfl) rfl rfl (by kernel_rfl) rfl rfl rfl (by kernel_rfl) rfl ⟨⟨rfl, .refl _⟩, ⟨rfl, .refl _⟩, trivial⟩) ?_
        refine At.le [19] (fun k _ h => by cases h) ⟨[(19, .c (.d (.list 3 ([r11, r12] : List Value).length (fun i => encValue (([r11, r12] : List Value).getD i default))))), (14, .c (.d (.bool true))), (16, .c (.d (.list 3 ([r10] : List Value).length (fun i => encValue (([r10] : List Value).getD i default))))), (17, .agg [.d (.bool r11.isText), .d (.int .i64 r11.n), .d (.str r11.s)]), (18, .agg [.d (.bool r12.isText), .d (.int .i64 r12.n), .d (.str r12.s)])], []⟩ ⟨⟨_, rfl, .c (.own rfl (List.mem_singleton.2 rfl) (Nat.le_of_ble_eq_true rfl) rfl (encs_getD (encValue) ([r11, r12] : List Value)))⟩, ⟨_, rfl, .refl _⟩, ⟨_, rfl, .refl _⟩, ⟨_, rfl, .refl _⟩, ⟨_, rfl, .refl _⟩, trivial⟩ trivial ?_
        obtain ⟨r13, hr13, h⟩ := bind_elim h
        refine At.callA (caps := []) (xs := [.c (.d (.list 3 ([r10] : List Value).length (fun i => encValue (([r10] : List Value).getD i default)))), .c (.d (.list 3 ([r11, r12] : List Value).length (fun i => encValue (([r11, r12] : List Value).getD i default))))]) (value_Rows_ok hr13) rfl rfl rfl rfl rfl rfl (.cons (.refl _) (.cons (.refl _) .nil)) rfl rfl ?_
        refine At.seg 3 [0] [] (s' := ⟨[(0, .c (.d (.bool (decide (r13 = 1)))))], []⟩) (c := True ∧ True ∧ True ∧ True) (by kernel_rfl) ⟨trivial, trivial, trivial, trivial⟩ ?_
        refine At.done rfl ?_
        exact ⟨_, h, rfl⟩
      · refine At.seg 9 [0] [] (s' := ⟨[(0, .c (.d (.bool false)))], []⟩) (c := True ∧ True ∧ True) (by kernel_rfl) ⟨trivial, trivial, trivial⟩ ?_
        refine At.done rfl ?_
        exact ⟨_, h, rfl⟩
    · refine At.seg 18 [0] [] (s' := ⟨[(0, .c (.d (.bool false)))], []⟩) (c := True ∧ True ∧ True ∧ True ∧ True) (by kernel_rfl) ⟨trivial, trivial, trivial, trivial, trivial⟩ ?_
      refine At.done rfl ?_
      exact ⟨_, h, rfl⟩

set_option maxRecDepth 100000 in
theorem slices_CompareFuncfreshet_api_Value_freshet_api_Value_freshet_api_Value_freshet_api_Value_Value__value_Compare_ok_v0v1 {p0 : List Value} {p1 : List Value} {q : Int} (h : slices_CompareFuncfreshet_api_Value_freshet_api_Value_freshet_api_Value_freshet_api_Value_Value__value_Compare p0 p1 = some q) :
    Summ Try.prog 31 [.c (.view 3 p0.length (fun i => encValue (p0.getD i default))), .c (.view 3 p1.length (fun i => encValue (p1.getD i default))), .c (.d (.fn 13 []))] [] (.c (.d (.int .i64 q))) [] := by
  refine Summ.intro Try.func31 rfl (by kernel_rfl) (by kernel_rfl) [] rfl ?_
  rintro ⟨P, w0, G0, V, LL, lk, N, φ0, fx⟩ rfl rfl rfl rfl
  unfold slices_CompareFuncfreshet_api_Value_freshet_api_Value_freshet_api_Value_freshet_api_Value_Value__value_Compare at h
  refine Tri.seqS ?_
  refine Tri.reg ?_
  refine At.seg 1 [0, 1, 2] [] (s' := ⟨[(0, .c (.view 3 p0.length (fun i => encValue (p0.getD i default)))), (1, .c (.view 3 p1.length (fun i => encValue (p1.getD i default)))), (2, .c (.d (.fn 13 [])))], []⟩) (c := True ∧ True) (by kernel_rfl) ⟨trivial, trivial⟩ ?_
  refine At.done rfl ?_
  show Tri _ _ _ _
  refine Tri.seqS ?_
  refine Tri.seqS ?_
  refine Tri.reg ?_
  refine At.seg 3 [0, 1, 2, 11, 12, 13] [] (s' := ⟨[(0, .c (.view 3 p0.length (fun i => encValue (p0.getD i default)))), (1, .c (.view 3 p1.length (fun i => encValue (p1.getD i default)))), (2, .c (.d (.fn 13 []))), (11, .c (.view 3 p0.length (fun i => encValue (p0.getD i default)))), (12, .c (.d (.int .i64 (p0.length : Int)))), (13, .c (.d (.int .i64 0)))], []⟩) (c := True ∧ True ∧ True ∧ True) (by kernel_rfl) ⟨trivial, trivial, trivial, trivial⟩ ?_
  refine At.done rfl ?_
  show Tri _ _ _ _
  refine Tri.lenOfV (t := 11) rfl fun hlena2 => ?_
  refine Tri.keep [13, 0, 1, 2, 11, 12] [] (s' := idx 13 0 ⟨[(0, .c (.view 3 p0.length (fun i => encValue (p0.getD i default)))), (1, .c (.view 3 p1.length (fun i => encValue (p1.getD i default)))), (2, .c (.d (.fn 13 []))), (11, .c (.view 3 p0.length (fun i => encValue (p0.getD i default)))), (12, .c (.d (.int .i64 (p0.length : Int))))], []⟩) (by kernel_rfl) ?_
  refine Tri.range (n := p0.length) (st0 := ()) (fun (x : Int) s => RetAt Try.prog Try.f31 (.c (.d (.int .i64 x))) [] s) (fun (a2 : Unit) => ⟨[(0, .c (.view 3 p0.length (fun i => encValue (p0.getD i default)))), (1, .c (.view 3 p1.length (fun i => encValue (p1.getD i default)))), (2, .c (.d (.fn 13 []))), (11, .c (.view 3 p0.length (fun i => encValue (p0.getD i default)))), (12, .c (.d (.int .i64 (p0.length : Int))))], []⟩) (fun (a2 : Unit) => ⟨[(0, .c (.view 3 p0.length (fun i => encValue (p0.getD i default)))), (1, .c (.view 3 p1.length (fun i => encValue (p1.getD i default)))), (2, .c (.d (.fn 13 []))), (11, .c (.view 3 p0.length (fun i => encValue (p0.getD i default)))), (12, .c (.d (.int .i64 (p0.length : Int))))], []⟩) (fun i => decide ((i : Int) < (p0.length : Int))) [14, 13, 0, 1, 2, 11, 12] [] [0, 1, 2, 11, 12] [] [13, 0, 1, 2, 11, 12] [] h hlena2 rfl ?_ ?_ ?_ ?_ ?_ ?_ ?_ ?_
  · exact fun i a => ⟨True ∧ True, by kernel_rfl, ⟨trivial, trivial⟩⟩
  · exact fun i hi => decide_eq_true (by omega)
  · exact decide_eq_false (by omega)
  · exact fun a => by kernel_rfl
  · exact fun i a => ⟨True ∧ True ∧ True, by kernel_rfl, ⟨trivial, trivial, trivial⟩⟩
  · intro i1 a2 c hii1 h
    refine Tri.seqS ?_
    refine Tri.reg ?_
    refine At.seg 6 [0, 1, 2, 7, 8, 11, 12, 13] [8] (s' := ⟨[(0, .c (.view 3 p0.length (fun i => encValue (p0.getD i default)))), (1, .c (.view 3 p1.length (fun i => encValue (p1.getD i default)))), (2, .c (.d (.fn 13 []))), (7, .c (.d (.int .i64 ((i1 : Nat) : Int)))), (8, .c (.ptr 8 0)), (11, .c (.view 3 p0.length (fun i => encValue (p0.getD i default)))), (12, .c (.d (.int .i64 (p0.length : Int)))), (13, .c (.d (.int .i64 ((i1 : Nat) : Int))))], [(8, .box [.d (.bool ((p0.getD i1 default).isText)), .d (.int .i64 ((p0.getD i1 default).n)), .d (.str ((p0.getD i1 default).s))])]⟩) (c := True ∧ ((0 : Int) ≤ ((i1 : Nat) : Int) ∧ ((i1 : Nat) : Int) < (p0.length : Int)) ∧ True ∧ True ∧ True ∧ True ∧ True) (by kernel_rfl) ⟨trivial, ⟨by omega, by omega⟩, trivial, trivial, trivial, trivial, trivial⟩ ?_
    refine At.done rfl ?_
    show Tri _ _ _ _
    refine Tri.seqS ?_
    refine Tri.seqS ?_
    refine Tri.reg ?_
    refine At.seg 4 [0, 1, 2, 7, 8, 11, 12, 13, 21] [8] (s' := ⟨[(0, .c (.view 3 p0.length (fun i => encValue (p0.getD i default)))), (1, .c (.view 3 p1.length (fun i => encValue (p1.getD i default)))), (2, .c (.d (.fn 13 []))), (7, .c (.d (.int .i64 ((i1 : Nat) : Int)))), (8, .c (.ptr 8 0)), (11, .c (.view 3 p0.length (fun i => encValue (p0.getD i default)))), (12, .c (.d (.int .i64 (p0.length : Int)))), (13, .c (.d (.int .i64 ((i1 : Nat) : Int)))), (21, .c (.d (.bool (decide ((p1.length : Int) ≤ ((i1 : Nat) : Int))))))], [(8, .box [.d (.bool ((p0.getD i1 default).isText)), .d (.int .i64 ((p0.getD i1 default).n)), .d (.str ((p0.getD i1 default).s))])]⟩) (c := True ∧ True ∧ True ∧ True ∧ True) (by kernel_rfl) ⟨trivial, trivial, trivial, trivial, trivial⟩ ?_
    refine At.done rfl ?_
    show Tri _ _ _ _
    refine Tri.condP (b := (decide ((p1.length : Int) ≤ ((i1 : Nat) : Int)))) rfl h (fun h => ?_) (fun h => ?_)
    · refine Tri.seqS ?_
      refine Tri.reg ?_
      refine At.seg 1 [6] [] (s' := ⟨[(6, .c (.d (.int .i64 1)))], []⟩) (c := True ∧ True) (by kernel_rfl) ⟨trivial, trivial⟩ ?_
      refine At.done rfl ?_
      show Tri _ _ _ _
      refine Tri.keep [6] [] (s' := ⟨[(6, .c (.d (.int .i64 1)))], []⟩) (by kernel_rfl) ?_
      refine Tri.ret ?_
      cases h
      refine ⟨_, _, rfl, ⟨trivial, trivial⟩, rfl, rfl, ?_⟩
      intro k c h
      cases h
    · refine Tri.skip ?_
      show Tri _ _ _ _
      refine Tri.seqS ?_
      refine Tri.reg ?_
      obtain ⟨hc4, h⟩ := need_elim h
      refine At.seg 6 [0, 1, 2, 8, 9, 11, 12, 13] [8, 9] (s' := ⟨[(0, .c (.view 3 p0.length (fun i => encValue (p0.getD i default)))), (1, .c (.view 3 p1.length (fun i => encValue (p1.getD i default)))), (2, .c (.d (.fn 13 []))), (8, .c (.ptr 8 0)), (9, .c (.ptr 9 0)), (11, .c (.view 3 p0.length (fun i => encValue (p0.getD i default)))), (12, .c (.d (.int .i64 (p0.length : Int)))), (13, .c (.d (.int .i64 ((i1 : Nat) : Int))))], [(8, .box [.d (.bool ((p0.getD i1 default).isText)), .d (.int .i64 ((p0.getD i1 default).n)), .d (.str ((p0.getD i1 default).s))]), (9, .box [.d (.bool ((p1.getD i1 default).isText)), .d (.int .i64 ((p1.getD i1 default).n)), .d (.str ((p1.getD i1 default).s))])]⟩) (c := True ∧ True ∧ ((0 : Int) ≤ ((i1 : Nat) : Int) ∧ ((i1 : Nat) : Int) < (p1.length : Int)) ∧ True ∧ True ∧ True ∧ True) (by kernel_rfl) ⟨trivial, trivial, hc4, trivial, trivial, trivial, trivial⟩ ?_
      refine At.done rfl ?_
      show Tri _ _ _ _
      refine Tri.seqS ?_
      refine Tri.reg ?_
      refine At.seg 3 [0, 1, 2, 11, 12, 13, 26, 27, 28] [] (s' := ⟨[(0, .c (.view 3 p0.length (fun i => encValue (p0.getD i default)))), (1, .c (.view 3 p1.length (fun i => encValue (p1.getD i default)))), (2, .c (.d (.fn 13 []))), (11, .c (.view 3 p0.length (fun i => encValue (p0.getD i default)))), (12, .c (.d (.int .i64 (p0.length : Int)))), (13, .c (.d (.int .i64 ((i1 : Nat) : Int)))), (26, .c (.d (.fn 13 []))), (27, .agg [.d (.bool ((p0.getD i1 default).isText)), .d (.int .i64 ((p0.getD i1 default).n)), .d (.str ((p0.getD i1 default).s))]), (28, .agg [.d (.bool ((p1.getD i1 default).isText)), .d (.int .i64 ((p1.getD i1 default).n)), .d (.str ((p1.getD i1 default).s))])], []⟩) (c := True ∧ True ∧ True ∧ True) (by kernel_rfl) ⟨trivial, trivial, trivial, trivial⟩ ?_
      obtain ⟨r5, hr5, h⟩ := bind_elim h
      refine At.callA (caps := []) (xs := [.agg [.d (.bool ((p0.getD i1 default).isText)), .d (.int .i64 ((p0.getD i1 default).n)), .d (.str ((p0.getD i1 default).s))], .agg [.d (.bool ((p1.getD i1 default).isText)), .d (.int .i64 ((p1.getD i1 default).n)), .d (.str ((p1.getD i1 default).s))]]) (value_Compare_ok hr5) rfl rfl rfl rfl rfl rfl (.cons (.refl _) (.cons (.refl _) .nil)) rfl rfl ?_
      refine At.seg 1 [0, 1, 2, 10, 11, 12, 13] [] (s' := ⟨[(0, .c (.view 3 p0.length (fun i => encValue (p0.getD i default)))), (1, .c (.view 3 p1.length (fun i => encValue (p1.getD i default)))), (2, .c (.d (.fn 13 []))), (10, .c (.d (.int .i64 r5))), (11, .c (.view 3 p0.length (fun i => encValue (p0.getD i default)))), (12, .c (.d (.int .i64 (p0.length : Int)))), (13, .c (.d (.int .i64 ((i1 : Nat) : Int))))], []⟩) (c := True ∧ True) (by kernel_rfl) ⟨trivial, trivial⟩ ?_
      refine At.done rfl ?_
      show Tri _ _ _ _
      refine Tri.seqS ?_
      refine Tri.reg ?_
      refine At.seg 2 [0, 1, 2, 10, 11, 12, 13, 31] [] (s' := ⟨[(0, .c (.view 3 p0.length (fun i => encValue (p0.getD i default)))), (1, .c (.view 3 p1.length (fun i => encValue (p1.getD i default)))), (2, .c (.d (.fn 13 []))), (10, .c (.d (.int .i64 r5))), (11, .c (.view 3 p0.length (fun i => encValue (p0.getD i default)))), (12, .c (.d (.int .i64 (p0.length : Int)))), (13, .c (.d (.int .i64 ((i1 : Nat) : Int)))), (31, .c (.d (.bool (!decide (r5 = 0)))))], []⟩) (c := True ∧ True ∧ True) (by kernel_rfl) ⟨trivial, trivial, trivial⟩ ?_
      refine At.done rfl ?_
      show Tri _ _ _ _
      refine Tri.condP (b := (!decide (r5 = 0))) rfl h (fun h => ?_) (fun h => ?_)
      · refine Tri.seqS ?_
        refine Tri.reg ?_
        refine At.seg 2 [6] [] (s' := ⟨[(6, .c (.d (.int .i64 r5)))], []⟩) (c := True ∧ True ∧ True) (by kernel_rfl) ⟨trivial, trivial, trivial⟩ ?_
        refine At.done rfl ?_
        show Tri _ _ _ _
        refine Tri.keep [6] [] (s' := ⟨[(6, .c (.d (.int .i64 r5)))], []⟩) (by kernel_rfl) ?_
        refine Tri.ret ?_
        cases h
        refine ⟨_, _, rfl, ⟨trivial, trivial⟩, rfl, rfl, ?_⟩
        intro k c h
        cases h
      · refine Tri.keep [13, 0, 1, 2, 11, 12] [] (s' := ⟨[(13, .c (.d (.int .i64 ((i1 : Nat) : Int)))), (0, .c (.view 3 p0.length (fun i => encValue (p0.getD i default)))), (1, .c (.view 3 p1.length (fun i => encValue (p1.getD i default)))), (2, .c (.d (.fn 13 []))), (11, .c (.view 3 p0.length (fun i => encValue (p0.getD i default)))), (12, .c (.d (.int .i64 (p0.length : Int))))], []⟩) (by kernel_rfl) ?_
        refine Tri.skip ?_
        cases h
        exact rfl
  · intro a3 h
    show Tri _ _ _ _
    refine Tri.seqS ?_
    refine Tri.seqS ?_
    refine Tri.reg ?_
    refine At.seg 5 [38] [] (s' := ⟨[(38, .c (.d (.bool (decide ((p0.length : Int) < (p1.length : Int))))))], []⟩) (c := True ∧ True ∧ True ∧ True ∧ True ∧ True) (by kernel_rfl) ⟨trivial, trivial, trivial, trivial, trivial, trivial⟩ ?_
    refine At.done rfl ?_
    show Tri _ _ _ _
    refine Tri.condP (b := (decide ((p0.length : Int) < (p1.length : Int)))) rfl h (fun h => ?_) (fun h => ?_)
    · refine Tri.seqS ?_
      refine Tri.reg ?_
      refine At.seg 1 [6] [] (s' := ⟨[(6, .c (.d (.int .i64 (-1))))], []⟩) (c := True ∧ True) (by kernel_rfl) ⟨trivial, trivial⟩ ?_
      refine At.done rfl ?_
      show Tri _ _ _ _
      refine Tri.keep [6] [] (s' := ⟨[(6, .c (.d (.int .i64 (-1))))], []⟩) (by kernel_rfl) ?_
      refine Tri.ret ?_
      cases h
      refine ⟨_, _, rfl, ⟨trivial, trivial⟩, rfl, rfl, ?_⟩
      intro k c h
      cases h
    · refine Tri.skip ?_
      show Tri _ _ _ _
      refine Tri.seqS ?_
      refine Tri.reg ?_
      refine At.seg 1 [6] [] (s' := ⟨[(6, .c (.d (.int .i64 0)))], []⟩) (c := True ∧ True) (by kernel_rfl) ⟨trivial, trivial⟩ ?_
      refine At.done rfl ?_
      show Tri _ _ _ _
      refine Tri.keep [6] [] (s' := ⟨[(6, .c (.d (.int .i64 0)))], []⟩) (by kernel_rfl) ?_
      refine Tri.ret ?_
      cases h
      refine ⟨_, _, rfl, ⟨trivial, trivial⟩, rfl, rfl, ?_⟩
      intro k c h
      cases h
  · exact fun x s hx hr => by cases hx; exact hr

set_option maxRecDepth 100000 in
theorem value_Rows_ok_v0v1 {p0 : List Value} {p1 : List Value} {q : Int} (h : value_Rows p0 p1 = some q) :
    Summ Try.prog 12 [.c (.view 3 p0.length (fun i => encValue (p0.getD i default))), .c (.view 3 p1.length (fun i => encValue (p1.getD i default)))] [] (.c (.d (.int .i64 q))) [] := by
  refine Summ.intro Try.func12 rfl (by kernel_rfl) (by kernel_rfl) [] rfl ?_
  rintro ⟨P, w0, G0, V, LL, lk, N, φ0, fx⟩ rfl rfl rfl rfl
  unfold value_Rows at h
  refine Tri.seqS ?_
  refine Tri.reg ?_
  refine At.seg 1 [0, 1] [] (s' := ⟨[(0, .c (.view 3 p0.length (fun i => encValue (p0.getD i default)))), (1, .c (.view 3 p1.length (fun i => encValue (p1.getD i default))))], []⟩) (c := True ∧ True) (by kernel_rfl) ⟨trivial, trivial⟩ ?_
  refine At.done rfl ?_
  show Tri _ _ _ _
  refine Tri.seqS ?_
  refine Tri.reg ?_
  refine At.seg 2 [5, 6] [] (s' := ⟨[(5, .c (.view 3 p0.length (fun i => encValue (p0.getD i default)))), (6, .c (.view 3 p1.length (fun i => encValue (p1.getD i default))))], []⟩) (c := True ∧ True ∧ True) (by kernel_rfl) ⟨trivial, trivial, trivial⟩ ?_
  obtain ⟨r1, hr1, h⟩ := bind_elim h
  refine At.callA (caps := []) (xs := [.c (.view 3 p0.length (fun i => encValue (p0.getD i default))), .c (.view 3 p1.length (fun i => encValue (p1.getD i default))), .c (.d (.fn 13 []))]) (slices_CompareFuncfreshet_api_Value_freshet_api_Value_freshet_api_Value_freshet_api_Value_Value__value_Compare_ok_v0v1 hr1) rfl rfl rfl rfl rfl rfl (.cons (.refl _) (.cons (.refl _) (.cons (.refl _) .nil))) rfl rfl ?_
  refine At.seg 1 [4] [] (s' := ⟨[(4, .c (.d (.int .i64 r1)))], []⟩) (c := True ∧ True) (by kernel_rfl) ⟨trivial, trivial⟩ ?_
  refine At.done rfl ?_
  show Tri _ _ _ _
  refine Tri.keep [4] [] (s' := ⟨[(4, .c (.d (.int .i64 r1)))], []⟩) (by kernel_rfl) ?_
  refine Tri.ret ?_
  cases h
  refine ⟨_, _, rfl, ⟨trivial, trivial⟩, rfl, rfl, ?_⟩
  intro k c h
  cases h

set_option maxRecDepth 100000 in
theorem freshetlaw03_ValueFirst_ok {p0 : List Value} {p1 : List Value} {p2 : List Value} {q : Bool} (h : freshetlaw03_ValueFirst p0 p1 p2 = some q) :
    Summ Try.prog 3 [.c (.d (.list 3 p0.length (fun i => encValue (p0.getD i default)))), .c (.d (.list 3 p1.length (fun i => encValue (p1.getD i default)))), .c (.d (.list 3 p2.length (fun i => encValue (p2.getD i default))))] [] (.c (.d (.bool q))) [] := by
  refine Summ.intro Try.func3 rfl (by kernel_rfl) (by kernel_rfl) [] rfl ?_
  rintro ⟨P, w0, G0, V, LL, lk, N, φ0, fx⟩ rfl rfl rfl rfl
  unfold freshetlaw03_ValueFirst at h
  refine Tri.seqS ?_
  refine Tri.reg ?_
  refine At.seg 1 [0, 1, 2] [] (s' := ⟨[(0, .c (.d (.list 3 p0.length (fun i => encValue (p0.getD i default))))), (1, .c (.d (.list 3 p1.length (fun i => encValue (p1.getD i default))))), (2, .c (.d (.list 3 p2.length (fun i => encValue (p2.getD i default)))))], []⟩) (c := True ∧ True) (by kernel_rfl) ⟨trivial, trivial⟩ ?_
  refine At.done rfl ?_
  show Tri _ _ _ _
  refine Tri.seqS ?_
  refine Tri.seqS ?_
  refine Tri.reg ?_
  obtain ⟨r1, hr1, h⟩ := bind_elim h
  refine At.callA (caps := []) (xs := []) (freshetlaw03_orders_ok hr1) rfl rfl rfl rfl rfl rfl .nil rfl rfl ?_
  refine At.seg 1 [0, 1, 2, 10] [] (s' := ⟨[(0, .c (.d (.list 3 p0.length (fun i => encValue (p0.getD i default))))), (1, .c (.d (.list 3 p1.length (fun i => encValue (p1.getD i default))))), (2, .c (.d (.list 3 p2.length (fun i => encValue (p2.getD i default))))), (10, .c (.d (.bool (!r1))))], []⟩) (c := True ∧ True) (by kernel_rfl) ⟨trivial, trivial⟩ ?_
  refine At.done rfl ?_
  show Tri _ _ _ _
  refine Tri.condP (b := (!r1)) rfl h (fun h => ?_) (fun h => ?_)
  · refine Tri.seqS ?_
    refine Tri.reg ?_
    refine At.seg 1 [6] [] (s' := ⟨[(6, .c (.d (.bool false)))], []⟩) (c := True ∧ True) (by kernel_rfl) ⟨trivial, trivial⟩ ?_
    refine At.done rfl ?_
    show Tri _ _ _ _
    refine Tri.keep [6] [] (s' := ⟨[(6, .c (.d (.bool false)))], []⟩) (by kernel_rfl) ?_
    refine Tri.ret ?_
    cases h
    refine ⟨_, _, rfl, ⟨trivial, trivial⟩, rfl, rfl, ?_⟩
    intro k c h
    cases h
  · refine Tri.skip ?_
    show Tri _ _ _ _
    refine Tri.seqS ?_
    refine Tri.reg ?_
    refine At.one rfl (One.build0 (e := 27) (es := 3) rfl rfl rfl rfl (by kernel_rfl) rfl) ?_
    refine At.seg 1 [0, 1, 2, 11, 12] [] (s' := ⟨[(0, .c (.d (.list 3 p0.length (fun i => encValue (p0.getD i default))))), (1, .c (.d (.list 3 p1.length (fun i => encValue (p1.getD i default))))), (2, .c (.d (.list 3 p2.length (fun i => encValue (p2.getD i default))))), (11, .c (.zero)), (12, .c (.d (.list 3 p0.length (fun i => encValue (p0.getD i default)))))], []⟩) (c := True ∧ True) (by kernel_rfl) ⟨trivial, trivial⟩ ?_
    obtain ⟨hc2, h⟩ := need_elim h
    refine At.one rfl (One.append0 (e := 27) (es := 3) (m := p0.length) (get := fun i => encValue (p0.getD i default)) rfl rfl rfl rfl (by kernel_rfl) (.of 27 32 [.d (.bool false), .d (.int .i64 0), .d (.str (bs []))] (by kernel_rfl) (by kernel_rfl) (by kernel_rfl) (by kernel_rfl) rfl (by kernel_rfl) rfl) rfl rfl (.list rfl (fun _ _ => rfl)) hc2) ?_
    refine At.seg 1 [0, 1, 2, 13, 14] [13] (s' := ⟨[(0, .c (.d (.list 3 p0.length (fun i => encValue (p0.getD i default))))), (1, .c (.d (.list 3 p1.length (fun i => encValue (p1.getD i default))))), (2, .c (.d (.list 3 p2.length (fun i => encValue (p2.getD i default))))), (13, .c (.own 13 3 0 p0.length)), (14, .c (.d (.list 3 p1.length (fun i => encValue (p1.getD i default)))))], [(13, .vec 3 p0.length (fun i => encValue (p0.getD i default)))]⟩) (c := True ∧ True) (by kernel_rfl) ⟨trivial, trivial⟩ ?_
    obtain ⟨hc3, h⟩ := need_elim h
    refine At.one rfl (One.appendT (e := 27) (es := 3) (encValue) p0 p1 rfl rfl rfl rfl rfl (.of 27 32 [.d (.bool false), .d (.int .i64 0), .d (.str (bs []))] (by kernel_rfl) (by kernel_rfl) (by kernel_rfl) (by kernel_rfl) rfl (by kernel_rfl) rfl) rfl rfl rfl (.list rfl (fun _ _ => rfl)) hc3) ?_
    refine At.seg 1 [0, 1, 2, 7] [13] (s' := ⟨[(0, .c (.d (.list 3 p0.length (fun i => encValue (p0.getD i default))))), (1, .c (.d (.list 3 p1.length (fun i => encValue (p1.getD i default))))), (2, .c (.d (.list 3 p2.length (fun i => encValue (p2.getD i default))))), (7, .c (.own 13 3 0 ((p0 ++ p1).length)))], [(13, .vec 3 (p0 ++ p1).length (fun i => encValue ((p0 ++ p1).getD i default)))]⟩) (c := True ∧ True) (by kernel_rfl) ⟨trivial, trivial⟩ ?_
    refine At.done rfl ?_
    show Tri _ _ _ _
    refine Tri.seqS ?_
    refine Tri.reg ?_
    refine At.one rfl (One.build0 (e := 27) (es := 3) rfl rfl rfl rfl (by kernel_rfl) rfl) ?_
    refine At.seg 1 [1, 2, 7, 16, 17] [13] (s' := ⟨[(1, .c (.d (.list 3 p1.length (fun i => encValue (p1.getD i default))))), (2, .c (.d (.list 3 p2.length (fun i => encValue (p2.getD i default))))), (7, .c (.own 13 3 0 ((p0 ++ p1).length))), (16, .c (.zero)), (17, .c (.d (.list 3 p0.length (fun i => encValue (p0.getD i default)))))], [(13, .vec 3 (p0 ++ p1).length (fun i => encValue ((p0 ++ p1).getD i default)))]⟩) (c := True ∧ True) (by kernel_rfl) ⟨trivial, trivial⟩ ?_
    obtain ⟨hc4, h⟩ := need_elim h
    refine At.one rfl (One.append0 (e := 27) (es := 3) (m := p0.length) (get := fun i => encValue (p0.getD i default)) rfl rfl rfl rfl (by kernel_rfl) (.of 27 32 [.d (.bool false), .d (.int .i64 0), .d (.str (bs []))] (by kernel_rfl) (by kernel_rfl) (by kernel_rfl) (by kernel_rfl) rfl (by kernel_rfl) rfl) rfl rfl (.list rfl (fun _ _ => rfl)) hc4) ?_
    refine At.seg 1 [1, 2, 7, 18, 19] [13, 18] (s' := ⟨[(1, .c (.d (.list 3 p1.length (fun i => encValue (p1.getD i default))))), (2, .c (.d (.list 3 p2.length (fun i => encValue (p2.getD i default))))), (7, .c (.own 13 3 0 ((p0 ++ p1).length))), (18, .c (.own 18 3 0 p0.length)), (19, .c (.d (.list 3 p2.length (fun i => encValue (p2.getD i default)))))], [(13, .vec 3 (p0 ++ p1).length (fun i => encValue ((p0 ++ p1).getD i default))), (18, .vec 3 p0.length (fun i => encValue (p0.getD i default)))]⟩) (c := True ∧ True) (by kernel_rfl) ⟨trivial, trivial⟩ ?_
    obtain ⟨hc5, h⟩ := need_elim h
    refine At.one rfl (One.appendT (e := 27) (es := 3) (encValue) p0 p2 rfl rfl rfl rfl rfl (.of 27 32 [.d (.bool false), .d (.int .i64 0), .d (.str (bs []))] (by kernel_rfl) (by kernel_rfl) (by kernel_rfl) (by kernel_rfl) rfl (by kernel_rfl) rfl) rfl rfl rfl (.list rfl (fun _ _ => rfl)) hc5) ?_
    refine At.seg 1 [1, 2, 7, 8] [13, 18] (s' := ⟨[(1, .c (.d (.list 3 p1.length (fun i => encValue (p1.getD i default))))), (2, .c (.d (.list 3 p2.length (fun i => encValue (p2.getD i default))))), (7, .c (.own 13 3 0 ((p0 ++ p1).length))), (8, .c (.own 18 3 0 ((p0 ++ p2).length)))], [(13, .vec 3 (p0 ++ p1).length (fun i => encValue ((p0 ++ p1).getD i default))), (18, .vec 3 (p0 ++ p2).length (fun i => encValue ((p0 ++ p2).getD i default)))]⟩) (c := True ∧ True) (by kernel_rfl) ⟨trivial, trivial⟩ ?_
    refine At.done rfl ?_
    show Tri _ _ _ _
    refine Tri.seqS ?_
    refine Tri.reg ?_
    refine At.seg 2 [1, 2, 21, 22] [13, 18] (s' := ⟨[(1, .c (.d (.list 3 p1.length (fun i => encValue (p1.getD i default))))), (2, .c (.d (.list 3 p2.length (fun i => encValue (p2.getD i default))))), (21, .c (.own 13 3 0 ((p0 ++ p1).length))), (22, .c (.own 18 3 0 ((p0 ++ p2).length)))], [(13, .vec 3 (p0 ++ p1).length (fun i => encValue ((p0 ++ p1).getD i default))), (18, .vec 3 (p0 ++ p2).length (fun i => encValue ((p0 ++ p2).getD i default)))]⟩) (c := True ∧ True ∧ True) (by kernel_rfl) ⟨trivial, trivial, trivial⟩ ?_
    obtain ⟨r6, hr6, h⟩ := bind_elim h
    refine At.callA (caps := []) (xs := [.c (.own 13 3 0 ((p0 ++ p1).length)), .c (.own 18 3 0 ((p0 ++ p2).length))]) (value_Rows_ok_v0v1 hr6) rfl rfl rfl rfl rfl rfl (.cons (AVArg.view (encValue) (p0 ++ p1) rfl) (.cons (AVArg.view (encValue) (p0 ++ p2) rfl) .nil)) rfl rfl ?_
    refine At.seg 2 [23, 24, 25] [] (s' := ⟨[(23, .c (.d (.int .i64 r6))), (24, .c (.d (.list 3 p1.length (fun i => encValue (p1.getD i default))))), (25, .c (.d (.list 3 p2.length (fun i => encValue (p2.getD i default)))))], []⟩) (c := True ∧ True ∧ True) (by kernel_rfl) ⟨trivial, trivial, trivial⟩ ?_
    obtain ⟨r7, hr7, h⟩ := bind_elim h
    refine At.callA (caps := []) (xs := [.c (.d (.list 3 p1.length (fun i => encValue (p1.getD i default)))), .c (.d (.list 3 p2.length (fun i => encValue (p2.getD i default))))]) (value_Rows_ok hr7) rfl rfl rfl rfl rfl rfl (.cons (.refl _) (.cons (.refl _) .nil)) rfl rfl ?_
    refine At.seg 2 [6] [] (s' := ⟨[(6, .c (.d (.bool (decide (r6 = r7)))))], []⟩) (c := True ∧ True ∧ True) (by kernel_rfl) ⟨trivial, trivial, trivial⟩ ?_
    refine At.done rfl ?_
    show Tri _ _ _ _
    refine Tri.keep [6] [] (s' := ⟨[(6, .c (.d (.bool (decide (r6 = r7)))))], []⟩) (by kernel_rfl) ?_
    refine Tri.ret ?_
    cases h
    refine ⟨_, _, rfl, ⟨trivial, trivial⟩, rfl, rfl, ?_⟩
    intro k c h
    cases h

set_option maxRecDepth 100000 in
theorem freshetref03_Compare_ok {p0 : Value} {p1 : Value} {q : Int} (h : freshetref03_Compare p0 p1 = some q) :
    Summ Try.prog 14 [.agg [.d (.bool p0.isText), .d (.int .i64 p0.n), .d (.str p0.s)], .agg [.d (.bool p1.isText), .d (.int .i64 p1.n), .d (.str p1.s)]] [] (.c (.d (.int .i64 q))) [] := by
  refine Summ.intro Try.func14 rfl (by kernel_rfl) (by kernel_rfl) [] rfl ?_
  rintro ⟨P, w0, G0, V, LL, lk, N, φ0, fx⟩ rfl rfl rfl rfl
  unfold freshetref03_Compare at h
  refine Tri.seqS ?_
  refine Tri.reg ?_
  refine At.seg 3 [2, 3] [2, 3] (s' := ⟨[(2, .c (.ptr 2 0)), (3, .c (.ptr 3 0))], [(2, .box [.d (.bool p0.isText), .d (.int .i64 p0.n), .d (.str p0.s)]), (3, .box [.d (.bool p1.isText), .d (.int .i64 p1.n), .d (.str p1.s)])]⟩) (c := True ∧ True ∧ True ∧ True) (by kernel_rfl) ⟨trivial, trivial, trivial, trivial⟩ ?_
  refine At.done rfl ?_
  show Tri _ _ _ _
  refine Tri.seqJ (fun (a1 : Bool × Bool) => ⟨[(2, .c (.ptr 2 0)), (3, .c (.ptr 3 0)), (5, .c (.d (.bool a1.1))), (6, .c (.d (.bool a1.2)))], [(2, .box [.d (.bool p0.isText), .d (.int .i64 p0.n), .d (.str p0.s)]), (3, .box [.d (.bool p1.isText), .d (.int .i64 p1.n), .d (.str p1.s)])]⟩) h (fun a1 h => ?_) (fun j2 h => ?_)
  · show Tri _ _ ⟨[(2, .c (.ptr 2 0)), (3, .c (.ptr 3 0)), (5, .c (.d (.bool a1.1))), (6, .c (.d (.bool a1.2)))], [(2, .box [.d (.bool p0.isText), .d (.int .i64 p0.n), .d (.str p0.s)]), (3, .box [.d (.bool p1.isText), .d (.int .i64 p1.n), .d (.str p1.s)])]⟩ _
    refine Tri.seqJ (fun (a3 : Bool × Bool) => ⟨[(5, .c (.d (.bool a3.1))), (6, .c (.d (.bool a3.2)))], []⟩) h (fun a3 h => ?_) (fun j4 h => ?_)
    · show Tri _ _ ⟨[(5, .c (.d (.bool a3.1))), (6, .c (.d (.bool a3.2)))], []⟩ _
      refine Tri.seqS ?_
      refine Tri.blockB ?_
      refine Tri.seqS ?_
      refine Tri.reg ?_
      refine At.seg 2 [6, 55] [] (s' := ⟨[(6, .c (.d (.bool a3.2))), (55, .c (.d (.bool a3.1)))], []⟩) (c := True ∧ True ∧ True) (by kernel_rfl) ⟨trivial, trivial, trivial⟩ ?_
      refine At.done rfl ?_
      show Tri _ _ _ _
      refine Tri.condP (b := a3.1) rfl h (fun h => ?_) (fun h => ?_)
      · refine Tri.seqS ?_
        refine Tri.reg ?_
        refine At.seg 1 [4] [] (s' := ⟨[(4, .c (.d (.int .i64 (-1))))], []⟩) (c := True ∧ True) (by kernel_rfl) ⟨trivial, trivial⟩ ?_
        refine At.done rfl ?_
        show Tri _ _ _ _
        refine Tri.keep [4] [] (s' := ⟨[(4, .c (.d (.int .i64 (-1))))], []⟩) (by kernel_rfl) ?_
        refine Tri.ret ?_
        cases h
        refine ⟨_, _, rfl, ⟨trivial, trivial⟩, rfl, rfl, ?_⟩
        intro k c h
        cases h
      · refine Tri.seqS ?_
        refine Tri.reg ?_
        refine At.seg 2 [57] [] (s' := ⟨[(57, .c (.d (.bool a3.2)))], []⟩) (c := True ∧ True ∧ True) (by kernel_rfl) ⟨trivial, trivial, trivial⟩ ?_
        refine At.done rfl ?_
        show Tri _ _ _ _
        refine Tri.condP (b := a3.2) rfl h (fun h => ?_) (fun h => ?_)
        · refine Tri.seqS ?_
          refine Tri.reg ?_
          refine At.seg 1 [4] [] (s' := ⟨[(4, .c (.d (.int .i64 1)))], []⟩) (c := True ∧ True) (by kernel_rfl) ⟨trivial, trivial⟩ ?_
          refine At.done rfl ?_
          show Tri _ _ _ _
          refine Tri.keep [4] [] (s' := ⟨[(4, .c (.d (.int .i64 1)))], []⟩) (by kernel_rfl) ?_
          refine Tri.ret ?_
          cases h
          refine ⟨_, _, rfl, ⟨trivial, trivial⟩, rfl, rfl, ?_⟩
          intro k c h
          cases h
        · refine Tri.skip ?_
          show Tri _ _ _ _
          refine Tri.seqS ?_
          refine Tri.reg ?_
          refine At.seg 1 [4] [] (s' := ⟨[(4, .c (.d (.int .i64 0)))], []⟩) (c := True ∧ True) (by kernel_rfl) ⟨trivial, trivial⟩ ?_
          refine At.done rfl ?_
          show Tri _ _ _ _
          refine Tri.keep [4] [] (s' := ⟨[(4, .c (.d (.int .i64 0)))], []⟩) (by kernel_rfl) ?_
          refine Tri.ret ?_
          cases h
          refine ⟨_, _, rfl, ⟨trivial, trivial⟩, rfl, rfl, ?_⟩
          intro k c h
          cases h
    · refine Tri.seqJ (fun (a5 : Bool) => ⟨[(2, .c (.ptr 2 0)), (3, .c (.ptr 3 0)), (5, .c (.d (.bool a1.1))), (6, .c (.d (.bool a1.2))), (26, .c (.d (.bool a5)))], [(2, .box [.d (.bool p0.isText), .d (.int .i64 p0.n), .d (.str p0.s)]), (3, .box [.d (.bool p1.isText), .d (.int .i64 p1.n), .d (.str p1.s)])]⟩) h (fun a5 h => ?_) (fun j6 h => ?_)
      · show Tri _ _ ⟨[(2, .c (.ptr 2 0)), (3, .c (.ptr 3 0)), (5, .c (.d (.bool a1.1))), (6, .c (.d (.bool a1.2))), (26, .c (.d (.bool a5)))], [(2, .box [.d (.bool p0.isText), .d (.int .i64 p0.n), .d (.str p0.s)]), (3, .box [.d (.bool p1.isText), .d (.int .i64 p1.n), .d (.str p1.s)])]⟩ _
        refine Tri.condP (b := a5) rfl h (fun h => ?_) (fun h => ?_)
        · refine Tri.drawn (specs := [⟨⟨[(2, .c (.ptr 2 0))], []⟩, ⟨[(27, .c (.ptr 2 2))], []⟩, [], [], []⟩, ⟨⟨[(27, .c (.ptr 2 2))], [(2, .box [.d (.bool p0.isText), .d (.int .i64 p0.n), .d (.str p0.s)])]⟩, ⟨[(28, .c (.d (.str p0.s)))], []⟩, [], [], []⟩, ⟨⟨[(3, .c (.ptr 3 0))], []⟩, ⟨[(29, .c (.ptr 3 2))], []⟩, [], [], []⟩, ⟨⟨[(29, .c (.ptr 3 2))], [(3, .box [.d (.bool p1.isText), .d (.int .i64 p1.n), .d (.str p1.s)])]⟩, ⟨[(30, .c (.d (.str p1.s)))], []⟩, [], [], []⟩, ⟨⟨[(28, .c (.d (.str p0.s))), (30, .c (.d (.str p1.s)))], []⟩, ⟨[(31, .c (.d (.bool (strLt p0.s p1.s))))], []⟩, [], [], []⟩, ⟨⟨[(2, .c (.ptr 2 0))], []⟩, ⟨[(32, .c (.ptr 2 2))], []⟩, [], [], []⟩, ⟨⟨[(32, .c (.ptr 2 2))], [(2, .box [.d (.bool p0.isText), .d (.int .i64 p0.n), .d (.str p0.s)])]⟩, ⟨[(33, .c (.d (.str p0.s)))], []⟩, [], [], []⟩, ⟨⟨[(3, .c (.ptr 3 0))], []⟩, ⟨[(34, .c (.ptr 3 2))], []⟩, [], [], []⟩, ⟨⟨[(34, .c (.ptr 3 2))], [(3, .box [.d (.bool p1.isText), .d (.int .i64 p1.n), .d (.str p1.s)])]⟩, ⟨[(35, .c (.d (.str p1.s)))], []⟩, [], [], []⟩, ⟨⟨[(33, .c (.d (.str p0.s))), (35, .c (.d (.str p1.s)))], []⟩, ⟨[(36, .c (.d (.bool (!(strLt p0.s p1.s || strEq p0.s p1.s)))))], []⟩, [], [], []⟩, ⟨⟨[(31, .c (.d (.bool (strLt p0.s p1.s))))], []⟩, ⟨[(5, .c (.d (.bool (strLt p0.s p1.s))))], []⟩, [], [], []⟩, ⟨⟨[(36, .c (.d (.bool (!(strLt p0.s p1.s || strEq p0.s p1.s)))))], []⟩, ⟨[(6, .c (.d (.bool (!(strLt p0.s p1.s || strEq p0.s p1.s)))))], []⟩, [], [], []⟩]) (bef := [[], [0], [], [2], [0, 1, 2, 3], [], [5], [], [7], [5, 6, 7, 8], [0, 1, 2, 3, 4], [0, 1, 2, 3, 4, 5, 6, 7, 8, 9, 10]]) (tk := [5, 6]) (sk := []) (s' := ⟨[(5, .c (.d (.bool (strLt p0.s p1.s)))), (6, .c (.d (.bool (!(strLt p0.s p1.s || strEq p0.s p1.s)))))], []⟩) (by kernel_rfl) (by kernel_rfl) (by kernel_rfl) ⟨?_, ?_, ?_, ?_, ?_, ?_, ?_, ?_, ?_, ?_, ?_, ?_, trivial⟩ (by kernel_rfl) ?_
          · exact DOk.step (.val (.c (.ptr 2 2)) (True)) (fun r => by kernel_rfl) (fun r => by kernel_rfl) trivial (by kernel_rfl) (by kernel_rfl) (fun r => rfl)
          · exact DOk.step (.val (.c (.d (.str p0.s))) (True)) (fun r => by kernel_rfl) (fun r => by kernel_rfl) trivial (by kernel_rfl) (by kernel_rfl) (fun r => rfl)
          · exact DOk.step (.val (.c (.ptr 3 2)) (True)) (fun r => by kernel_rfl) (fun r => by kernel_rfl) trivial (by kernel_rfl) (by kernel_rfl) (fun r => rfl)
          · exact DOk.step (.val (.c (.d (.str p1.s))) (True)) (fun r => by kernel_rfl) (fun r => by kernel_rfl) trivial (by kernel_rfl) (by kernel_rfl) (fun r => rfl)
          · exact DOk.step (.val (.c (.d (.bool (strLt p0.s p1.s)))) (True)) (fun r => by kernel_rfl) (fun r => by kernel_rfl) trivial (by kernel_rfl) (by kernel_rfl) (fun r => rfl)
          · exact DOk.step (.val (.c (.ptr 2 2)) (True)) (fun r => by kernel_rfl) (fun r => by kernel_rfl) trivial (by kernel_rfl) (by kernel_rfl) (fun r => rfl)
          · exact DOk.step (.val (.c (.d (.str p0.s))) (True)) (fun r => by kernel_rfl) (fun r => by kernel_rfl) trivial (by kernel_rfl) (by kernel_rfl) (fun r => rfl)
          · exact DOk.step (.val (.c (.ptr 3 2)) (True)) (fun r => by kernel_rfl) (fun r => by kernel_rfl) trivial (by kernel_rfl) (by kernel_rfl) (fun r => rfl)
          · exact DOk.step (.val (.c (.d (.str p1.s))) (True)) (fun r => by kernel_rfl) (fun r => by kernel_rfl) trivial (by kernel_rfl) (by kernel_rfl) (fun r => rfl)
          · exact DOk.step (.val (.c (.d (.bool (!(strLt p0.s p1.s || strEq p0.s p1.s))))) (True)) (fun r => by kernel_rfl) (fun r => by kernel_rfl) trivial (by kernel_rfl) (by kernel_rfl) (fun r => rfl)
          · exact DOk.step (.val (.c (.d (.bool (strLt p0.s p1.s)))) (True)) (fun r => by kernel_rfl) (fun r => by kernel_rfl) trivial (by kernel_rfl) (by kernel_rfl) (fun r => rfl)
          · exact DOk.step (.val (.c (.d (.bool (!(strLt p0.s p1.s || strEq p0.s p1.s))))) (True)) (fun r => by kernel_rfl) (fun r => by kernel_rfl) trivial (by kernel_rfl) (by kernel_rfl) (fun r => rfl)
          exact ⟨_, h, rfl⟩
        · refine Tri.seqJ (fun (a7 : Bool) => ⟨[(2, .c (.ptr 2 0)), (3, .c (.ptr 3 0)), (5, .c (.d (.bool a1.1))), (6, .c (.d (.bool a1.2))), (44, .c (.d (.bool a7)))], [(2, .box [.d (.bool p0.isText), .d (.int .i64 p0.n), .d (.str p0.s)]), (3, .box [.d (.bool p1.isText), .d (.int .i64 p1.n), .d (.str p1.s)])]⟩) h (fun a7 h => ?_) (fun j8 h => ?_)
          · show Tri _ _ ⟨[(2, .c (.ptr 2 0)), (3, .c (.ptr 3 0)), (5, .c (.d (.bool a1.1))), (6, .c (.d (.bool a1.2))), (44, .c (.d (.bool a7)))], [(2, .box [.d (.bool p0.isText), .d (.int .i64 p0.n), .d (.str p0.s)]), (3, .box [.d (.bool p1.isText), .d (.int .i64 p1.n), .d (.str p1.s)])]⟩ _
            refine Tri.condP (b := a7) rfl h (fun h => ?_) (fun h => ?_)
            · refine Tri.drawn (specs := [⟨⟨[(2, .c (.ptr 2 0))], []⟩, ⟨[(45, .c (.ptr 2 1))], []⟩, [], [], []⟩, ⟨⟨[(45, .c (.ptr 2 1))], [(2, .box [.d (.bool p0.isText), .d (.int .i64 p0.n), .d (.str p0.s)])]⟩, ⟨[(46, .c (.d (.int .i64 p0.n)))], []⟩, [], [], []⟩, ⟨⟨[(3, .c (.ptr 3 0))], []⟩, ⟨[(47, .c (.ptr 3 1))], []⟩, [], [], []⟩, ⟨⟨[(47, .c (.ptr 3 1))], [(3, .box [.d (.bool p1.isText), .d (.int .i64 p1.n), .d (.str p1.s)])]⟩, ⟨[(48, .c (.d (.int .i64 p1.n)))], []⟩, [], [], []⟩, ⟨⟨[(46, .c (.d (.int .i64 p0.n))), (48, .c (.d (.int .i64 p1.n)))], []⟩, ⟨[(49, .c (.d (.bool (decide (p0.n < p1.n)))))], []⟩, [], [], []⟩, ⟨⟨[(2, .c (.ptr 2 0))], []⟩, ⟨[(50, .c (.ptr 2 1))], []⟩, [], [], []⟩, ⟨⟨[(50, .c (.ptr 2 1))], [(2, .box [.d (.bool p0.isText), .d (.int .i64 p0.n), .d (.str p0.s)])]⟩, ⟨[(51, .c (.d (.int .i64 p0.n)))], []⟩, [], [], []⟩, ⟨⟨[(3, .c (.ptr 3 0))], []⟩, ⟨[(52, .c (.ptr 3 1))], []⟩, [], [], []⟩, ⟨⟨[(52, .c (.ptr 3 1))], [(3, .box [.d (.bool p1.isText), .d (.int .i64 p1.n), .d (.str p1.s)])]⟩, ⟨[(53, .c (.d (.int .i64 p1.n)))], []⟩, [], [], []⟩, ⟨⟨[(51, .c (.d (.int .i64 p0.n))), (53, .c (.d (.int .i64 p1.n)))], []⟩, ⟨[(54, .c (.d (.bool (decide (p1.n < p0.n)))))], []⟩, [], [], []⟩, ⟨⟨[(49, .c (.d (.bool (decide (p0.n < p1.n)))))], []⟩, ⟨[(5, .c (.d (.bool (decide (p0.n < p1.n)))))], []⟩, [], [], []⟩, ⟨⟨[(54, .c (.d (.bool (decide (p1.n < p0.n)))))], []⟩, ⟨[(6, .c (.d (.bool (decide (p1.n < p0.n)))))], []⟩, [], [], []⟩]) (bef := [[], [0], [], [2], [0, 1, 2, 3], [], [5], [], [7], [5, 6, 7, 8], [0, 1, 2, 3, 4], [0, 1, 2, 3, 4, 5, 6, 7, 8, 9, 10]]) (tk := [5, 6]) (sk := []) (s' := ⟨[(5, .c (.d (.bool (decide (p0.n < p1.n))))), (6, .c (.d (.bool (decide (p1.n < p0.n)))))], []⟩) (by kernel_rfl) (by kernel_rfl) (by kernel_rfl) ⟨?_, ?_, ?_, ?_, ?_, ?_, ?_, ?_, ?_, ?_, ?_, ?_, trivial⟩ (by kernel_rfl) ?_
              · exact DOk.step (.val (.c (.ptr 2 1)) (True)) (fun r => by kernel_rfl) (fun r => by kernel_rfl) trivial (by kernel_rfl) (by kernel_rfl) (fun r => rfl)
              · exact DOk.step (.val (.c (.d (.int .i64 p0.n))) (True)) (fun r => by kernel_rfl) (fun r => by kernel_rfl) trivial (by kernel_rfl) (by kernel_rfl) (fun r => rfl)
              · exact DOk.step (.val (.c (.ptr 3 1)) (True)) (fun r => by kernel_rfl) (fun r => by kernel_rfl) trivial (by kernel_rfl) (by kernel_rfl) (fun r => rfl)
              · exact DOk.step (.val (.c (.d (.int .i64 p1.n))) (True)) (fun r => by kernel_rfl) (fun r => by kernel_rfl) trivial (by kernel_rfl) (by kernel_rfl) (fun r => rfl)
              · exact DOk.step (.val (.c (.d (.bool (decide (p0.n < p1.n))))) (True)) (fun r => by kernel_rfl) (fun r => by kernel_rfl) trivial (by kernel_rfl) (by kernel_rfl) (fun r => rfl)
              · exact DOk.step (.val (.c (.ptr 2 1)) (True)) (fun r => by kernel_rfl) (fun r => by kernel_rfl) trivial (by kernel_rfl) (by kernel_rfl) (fun r => rfl)
              · exact DOk.step (.val (.c (.d (.int .i64 p0.n))) (True)) (fun r => by kernel_rfl) (fun r => by kernel_rfl) trivial (by kernel_rfl) (by kernel_rfl) (fun r => rfl)
              · exact DOk.step (.val (.c (.ptr 3 1)) (True)) (fun r => by kernel_rfl) (fun r => by kernel_rfl) trivial (by kernel_rfl) (by kernel_rfl) (fun r => rfl)
              · exact DOk.step (.val (.c (.d (.int .i64 p1.n))) (True)) (fun r => by kernel_rfl) (fun r => by kernel_rfl) trivial (by kernel_rfl) (by kernel_rfl) (fun r => rfl)
              · exact DOk.step (.val (.c (.d (.bool (decide (p1.n < p0.n))))) (True)) (fun r => by kernel_rfl) (fun r => by kernel_rfl) trivial (by kernel_rfl) (by kernel_rfl) (fun r => rfl)
              · exact DOk.step (.val (.c (.d (.bool (decide (p0.n < p1.n))))) (True)) (fun r => by kernel_rfl) (fun r => by kernel_rfl) trivial (by kernel_rfl) (by kernel_rfl) (fun r => rfl)
              · exact DOk.step (.val (.c (.d (.bool (decide (p1.n < p0.n))))) (True)) (fun r => by kernel_rfl) (fun r => by kernel_rfl) trivial (by kernel_rfl) (by kernel_rfl) (fun r => rfl)
              exact ⟨_, h, rfl⟩
            · refine Tri.keep [5, 6] [] (s' := ⟨[(5, .c (.d (.bool a1.1))), (6, .c (.d (.bool a1.2)))], []⟩) (by kernel_rfl) ?_
              refine Tri.skip ?_
              exact ⟨_, h, rfl⟩
          · refine Tri.reg ?_
            refine At.seg 4 [2, 3, 5, 6, 40] [2, 3] (s' := ⟨[(2, .c (.ptr 2 0)), (3, .c (.ptr 3 0)), (5, .c (.d (.bool a1.1))), (6, .c (.d (.bool a1.2))), (40, .c (.d (.bool (!p0.isText))))], [(2, .box [.d (.bool p0.isText), .d (.int .i64 p0.n), .d (.str p0.s)]), (3, .box [.d (.bool p1.isText), .d (.int .i64 p1.n), .d (.str p1.s)])]⟩) (c := True ∧ True ∧ True ∧ True ∧ True) (by kernel_rfl) ⟨trivial, trivial, trivial, trivial, trivial⟩ ?_
            refine At.case (fun b => ⟨[(2, .c (.ptr 2 0)), (3, .c (.ptr 3 0)), (5, .c (.d (.bool a1.1))), (6, .c (.d (.bool a1.2))), (40, .c (.d (.bool b)))], [(2, .box [.d (.bool p0.isText), .d (.int .i64 p0.n), .d (.str p0.s)]), (3, .box [.d (.bool p1.isText), .d (.int .i64 p1.n), .d (.str p1.s)])]⟩) (b := (!p0.isText)) h (fun h => ?_) (fun h => ?_)
            · refine At.seg 4 [2, 3, 5, 6, 44] [2, 3] (s' := ⟨[(2, .c (.ptr 2 0)), (3, .c (.ptr 3 0)), (5, .c (.d (.bool a1.1))), (6, .c (.d (.bool a1.2))), (44, .c (.d (.bool (!p1.isText))))], [(2, .box [.d (.bool p0.isText), .d (.int .i64 p0.n), .d (.str p0.s)]), (3, .box [.d (.bool p1.isText), .d (.int .i64 p1.n), .d (.str p1.s)])]⟩) (c := True ∧ True ∧ True ∧ True ∧ True) (by kernel_rfl) ⟨trivial, trivial, trivial, trivial, trivial⟩ ?_
              refine At.done rfl ?_
              exact ⟨_, h, rfl⟩
            · refine At.seg 4 [2, 3, 5, 6, 44] [2, 3] (s' := ⟨[(2, .c (.ptr 2 0)), (3, .c (.ptr 3 0)), (5, .c (.d (.bool a1.1))), (6, .c (.d (.bool a1.2))), (44, .c (.d (.bool false)))], [(2, .box [.d (.bool p0.isText), .d (.int .i64 p0.n), .d (.str p0.s)]), (3, .box [.d (.bool p1.isText), .d (.int .i64 p1.n), .d (.str p1.s)])]⟩) (c := True ∧ True) (by kernel_rfl) ⟨trivial, trivial⟩ ?_
              refine At.done rfl ?_
              exact ⟨_, h, rfl⟩
      · refine Tri.reg ?_
        refine At.seg 3 [2, 3, 5, 6, 23] [2, 3] (s' := ⟨[(2, .c (.ptr 2 0)), (3, .c (.ptr 3 0)), (5, .c (.d (.bool a1.1))), (6, .c (.d (.bool a1.2))), (23, .c (.d (.bool p0.isText)))], [(2, .box [.d (.bool p0.isText), .d (.int .i64 p0.n), .d (.str p0.s)]), (3, .box [.d (.bool p1.isText), .d (.int .i64 p1.n), .d (.str p1.s)])]⟩) (c := True ∧ True ∧ True ∧ True) (by kernel_rfl) ⟨trivial, trivial, trivial, trivial⟩ ?_
        refine At.case (fun b => ⟨[(2, .c (.ptr 2 0)), (3, .c (.ptr 3 0)), (5, .c (.d (.bool a1.1))), (6, .c (.d (.bool a1.2))), (23, .c (.d (.bool b)))], [(2, .box [.d (.bool p0.isText), .d (.int .i64 p0.n), .d (.str p0.s)]), (3, .box [.d (.bool p1.isText), .d (.int .i64 p1.n), .d (.str p1.s)])]⟩) (b := p0.isText) h (fun h => ?_) (fun h => ?_)
        · refine At.seg 3 [2, 3, 5, 6, 26] [2, 3] (s' := ⟨[(2, .c (.ptr 2 0)), (3, .c (.ptr 3 0)), (5, .c (.d (.bool a1.1))), (6, .c (.d (.bool a1.2))), (26, .c (.d (.bool p1.isText)))], [(2, .box [.d (.bool p0.isText), .d (.int .i64 p0.n), .d (.str p0.s)]), (3, .box [.d (.bool p1.isText), .d (.int .i64 p1.n), .d (.str p1.s)])]⟩) (c := True ∧ True ∧ True ∧ True) (by kernel_rfl) ⟨trivial, trivial, trivial, trivial⟩ ?_
          refine At.done rfl ?_
          exact ⟨_, h, rfl⟩
        · refine At.seg 3 [2, 3, 5, 6, 26] [2, 3] (s' := ⟨[(2, .c (.ptr 2 0)), (3, .c (.ptr 3 0)), (5, .c (.d (.bool a1.1))), (6, .c (.d (.bool a1.2))), (26, .c (.d (.bool false)))], [(2, .box [.d (.bool p0.isText), .d (.int .i64 p0.n), .d (.str p0.s)]), (3, .box [.d (.bool p1.isText), .d (.int .i64 p1.n), .d (.str p1.s)])]⟩) (c := True ∧ True) (by kernel_rfl) ⟨trivial, trivial⟩ ?_
          refine At.done rfl ?_
          exact ⟨_, h, rfl⟩
  · rcases bf_cases h with ⟨hp9, h⟩ | ⟨hp9, h⟩
    · rcases bf_cases h with ⟨hp10, h⟩ | ⟨hp10, h⟩
      · refine Tri.drawn (specs := [⟨⟨[(2, .c (.ptr 2 0))], []⟩, ⟨[(7, .c (.ptr 2 0))], []⟩, [], [], []⟩, ⟨⟨[(7, .c (.ptr 2 0))], [(2, .box [.d (.bool p0.isText), .d (.int .i64 p0.n), .d (.str p0.s)])]⟩, ⟨[(8, .c (.d (.bool p0.isText)))], []⟩, [], [], []⟩, ⟨⟨[(8, .c (.d (.bool p0.isText)))], []⟩, ⟨[(9, .c (.d (.bool (!p0.isText))))], []⟩, [], [], []⟩, ⟨⟨[(9, .c (.d (.bool (!p0.isText))))], []⟩, ⟨[(10, .c (.d (.bool true)))], []⟩, [], [], []⟩, ⟨⟨[(3, .c (.ptr 3 0)), (10, .c (.d (.bool true)))], []⟩, ⟨[(11, .c (.ptr 3 0))], []⟩, [], [], []⟩, ⟨⟨[(10, .c (.d (.bool true))), (11, .c (.ptr 3 0))], [(3, .box [.d (.bool p1.isText), .d (.int .i64 p1.n), .d (.str p1.s)])]⟩, ⟨[(12, .c (.d (.bool p1.isText)))], []⟩, [], [], []⟩, ⟨⟨[(10, .c (.d (.bool true))), (12, .c (.d (.bool p1.isText)))], []⟩, ⟨[(13, .c (.d (.bool p1.isText)))], []⟩, [], [], []⟩, ⟨⟨[(2, .c (.ptr 2 0))], []⟩, ⟨[(14, .c (.ptr 2 0))], []⟩, [], [], []⟩, ⟨⟨[(14, .c (.ptr 2 0))], [(2, .box [.d (.bool p0.isText), .d (.int .i64 p0.n), .d (.str p0.s)])]⟩, ⟨[(15, .c (.d (.bool p0.isText)))], []⟩, [], [], []⟩, ⟨⟨[(15, .c (.d (.bool p0.isText)))], []⟩, ⟨[(16, .c (.d (.bool true)))], []⟩, [], [], []⟩, ⟨⟨[(3, .c (.ptr 3 0)), (16, .c (.d (.bool true)))], []⟩, ⟨[(17, .c (.ptr 3 0))], []⟩, [], [], []⟩, ⟨⟨[(16, .c (.d (.bool true))), (17, .c (.ptr 3 0))], [(3, .box [.d (.bool p1.isText), .d (.int .i64 p1.n), .d (.str p1.s)])]⟩, ⟨[(18, .c (.d (.bool p1.isText)))], []⟩, [], [], []⟩, ⟨⟨[(16, .c (.d (.bool true))), (18, .c (.d (.bool p1.isText)))], []⟩, ⟨[(19, .c (.d (.bool (!p1.isText))))], []⟩, [], [], []⟩, ⟨⟨[(16, .c (.d (.bool true))), (19, .c (.d (.bool (!p1.isText))))], []⟩, ⟨[(20, .c (.d (.bool (!p1.isText))))], []⟩, [], [], []⟩, ⟨⟨[(13, .c (.d (.bool p1.isText)))], []⟩, ⟨[(5, .c (.d (.bool p1.isText)))], []⟩, [], [], []⟩, ⟨⟨[(20, .c (.d (.bool (!p1.isText))))], []⟩, ⟨[(6, .c (.d (.bool (!p1.isText))))], []⟩, [], [], []⟩]) (bef := [[], [0], [0, 1], [0, 1, 2], [0, 1, 2, 3], [0, 1, 2, 3, 4], [0, 1, 2, 3, 4, 5], [], [7], [0, 1, 2, 3, 7, 8], [0, 1, 2, 3, 7, 8, 9], [0, 1, 2, 3, 7, 8, 9, 10], [0, 1, 2, 3, 7, 8, 9, 10, 11], [0, 1, 2, 3, 7, 8, 9, 10, 11, 12], [0, 1, 2, 3, 4, 5, 6, 7, 8, 9], [0, 1, 2, 3, 4, 5, 6, 7, 8, 9, 10, 11, 12, 13, 14]]) (tk := [2, 3, 5, 6]) (sk := [2, 3]) (s' := ⟨[(2, .c (.ptr 2 0)), (3, .c (.ptr 3 0)), (5, .c (.d (.bool p1.isText))), (6, .c (.d (.bool (!p1.isText))))], [(2, .box [.d (.bool p0.isText), .d (.int .i64 p0.n), .d (.str p0.s)]), (3, .box [.d (.bool p1.isText), .d (.int .i64 p1.n), .d (.str p1.s)])]⟩) (by kernel_rfl) (by kernel_rfl) (by kernel_rfl) ⟨?_, ?_, ?_, ?_, ?_, ?_, ?_, ?_, ?_, ?_, ?_, ?_, ?_, ?_, ?_, ?_, trivial⟩ (by kernel_rfl) ?_
        · exact DOk.step (.val (.c (.ptr 2 0)) (True)) (fun r => by kernel_rfl) (fun r => by kernel_rfl) trivial (by kernel_rfl) (by kernel_rfl) (fun r => rfl)
        · exact DOk.step (.val (.c (.d (.bool p0.isText))) (True)) (fun r => by kernel_rfl) (fun r => by kernel_rfl) trivial (by kernel_rfl) (by kernel_rfl) (fun r => rfl)
        · exact DOk.step (.val (.c (.d (.bool (!p0.isText)))) (True)) (fun r => by kernel_rfl) (fun r => by kernel_rfl) trivial (by kernel_rfl) (by kernel_rfl) (fun r => rfl)
        · exact DOk.stepP (fun b => .val (.c (.d (.bool b))) (True)) (p := (!p0.isText)) hp9 (fun r => by kernel_rfl) (fun r => by kernel_rfl) trivial (by kernel_rfl) (by kernel_rfl) (fun r => rfl)
        · exact DOk.step (.val (.c (.ptr 3 0)) (True)) (fun r => by kernel_rfl) (fun r => by kernel_rfl) trivial (by kernel_rfl) (by kernel_rfl) (fun r => rfl)
        · exact DOk.step (.val (.c (.d (.bool p1.isText))) (True)) (fun r => by kernel_rfl) (fun r => by kernel_rfl) trivial (by kernel_rfl) (by kernel_rfl) (fun r => rfl)
        · exact DOk.step (.val (.c (.d (.bool p1.isText))) (True)) (fun r => by kernel_rfl) (fun r => by kernel_rfl) trivial (by kernel_rfl) (by kernel_rfl) (fun r => rfl)
        · exact DOk.step (.val (.c (.ptr 2 0)) (True)) (fun r => by kernel_rfl) (fun r => by kernel_rfl) trivial (by kernel_rfl) (by kernel_rfl) (fun r => rfl)
        · exact DOk.step (.val (.c (.d (.bool p0.isText))) (True)) (fun r => by kernel_rfl) (fun r => by kernel_rfl) trivial (by kernel_rfl) (by kernel_rfl) (fun r => rfl)
        · exact DOk.stepP (fun b => .val (.c (.d (.bool b))) (True)) (p := p0.isText) hp10 (fun r => by kernel_rfl) (fun r => by kernel_rfl) trivial (by kernel_rfl) (by kernel_rfl) (fun r => rfl)
        · exact DOk.step (.val (.c (.ptr 3 0)) (True)) (fun r => by kernel_rfl) (fun r => by kernel_rfl) trivial (by kernel_rfl) (by kernel_rfl) (fun r => rfl)
        · exact DOk.step (.val (.c (.d (.bool p1.isText))) (True)) (fun r => by kernel_rfl) (fun r => by kernel_rfl) trivial (by kernel_rfl) (by kernel_rfl) (fun r => rfl)
        · exact DOk.step (.val (.c (.d (.bool (!p1.isText)))) (True)) (fun r => by kernel_rfl) (fun r => by kernel_rfl) trivial (by kernel_rfl) (by kernel_rfl) (fun r => rfl)
        · exact DOk.step (.val (.c (.d (.bool (!p1.isText)))) (True)) (fun r => by kernel_rfl) (fun r => by kernel_rfl) trivial (by kernel_rfl) (by kernel_rfl) (fun r => rfl)
        · exact DOk.step (.val (.c (.d (.bool p1.isText))) (True)) (fun r => by kernel_rfl) (fun r => by kernel_rfl) trivial (by kernel_rfl) (by kernel_rfl) (fun r => rfl)
        · exact DOk.step (.val (.c (.d (.bool (!p1.isText)))) (True)) (fun r => by kernel_rfl) (fun r => by kernel_rfl) trivial (by kernel_rfl) (by kernel_rfl) (fun r => rfl)
        exact ⟨_, h, rfl⟩
      · refine Tri.drawn (specs := [⟨⟨[(2, .c (.ptr 2 0))], []⟩, ⟨[(7, .c (.ptr 2 0))], []⟩, [], [], []⟩, ⟨⟨[(7, .c (.ptr 2 0))], [(2, .box [.d (.bool p0.isText), .d (.int .i64 p0.n), .d (.str p0.s)])]⟩, ⟨[(8, .c (.d (.bool p0.isText)))], []⟩, [], [], []⟩, ⟨⟨[(8, .c (.d (.bool p0.isText)))], []⟩, ⟨[(9, .c (.d (.bool (!p0.isText))))], []⟩, [], [], []⟩, ⟨⟨[(9, .c (.d (.bool (!p0.isText))))], []⟩, ⟨[(10, .c (.d (.bool true)))], []⟩, [], [], []⟩, ⟨⟨[(3, .c (.ptr 3 0)), (10, .c (.d (.bool true)))], []⟩, ⟨[(11, .c (.ptr 3 0))], []⟩, [], [], []⟩, ⟨⟨[(10, .c (.d (.bool true))), (11, .c (.ptr 3 0))], [(3, .box [.d (.bool p1.isText), .d (.int .i64 p1.n), .d (.str p1.s)])]⟩, ⟨[(12, .c (.d (.bool p1.isText)))], []⟩, [], [], []⟩, ⟨⟨[(10, .c (.d (.bool true))), (12, .c (.d (.bool p1.isText)))], []⟩, ⟨[(13, .c (.d (.bool p1.isText)))], []⟩, [], [], []⟩, ⟨⟨[(2, .c (.ptr 2 0))], []⟩, ⟨[(14, .c (.ptr 2 0))], []⟩, [], [], []⟩, ⟨⟨[(14, .c (.ptr 2 0))], [(2, .box [.d (.bool p0.isText), .d (.int .i64 p0.n), .d (.str p0.s)])]⟩, ⟨[(15, .c (.d (.bool p0.isText)))], []⟩, [], [], []⟩, ⟨⟨[(15, .c (.d (.bool p0.isText)))], []⟩, ⟨[(16, .c (.d (.bool false)))], []⟩, [], [], []⟩, ⟨⟨[(3, .c (.ptr 3 0)), (16, .c (.d (.bool false)))], []⟩, ⟨[(17, .tup [])], []⟩, [], [], []⟩, ⟨⟨[(16, .c (.d (.bool false))), (17, .tup [])], []⟩, ⟨[(18, .tup [])], []⟩, [], [], []⟩, ⟨⟨[(16, .c (.d (.bool false))), (18, .tup [])], []⟩, ⟨[(19, .tup [])], []⟩, [], [], []⟩, ⟨⟨[(16, .c (.d (.bool false))), (19, .tup [])], []⟩, ⟨[(20, .c (.d (.bool false)))], []⟩, [], [], []⟩, ⟨⟨[(13, .c (.d (.bool p1.isText)))], []⟩, ⟨[(5, .c (.d (.bool p1.isText)))], []⟩, [], [], []⟩, ⟨⟨[(20, .c (.d (.bool false)))], []⟩, ⟨[(6, .c (.d (.bool false)))], []⟩, [], [], []⟩]) (bef := [[], [0], [0, 1], [0, 1, 2], [0, 1, 2, 3], [0, 1, 2, 3, 4], [0, 1, 2, 3, 4, 5], [], [7], [0, 1, 2, 3, 7, 8], [0, 1, 2, 3, 7, 8, 9], [0, 1, 2, 3, 7, 8, 9, 10], [0, 1, 2, 3, 7, 8, 9, 10, 11], [0, 1, 2, 3, 7, 8, 9, 10, 11, 12], [0, 1, 2, 3, 4, 5, 6, 7, 8, 9], [0, 1, 2, 3, 4, 5, 6, 7, 8, 9, 10, 11, 12, 13, 14]]) (tk := [2, 3, 5, 6]) (sk := [2, 3]) (s' := ⟨[(2, .c (.ptr 2 0)), (3, .c (.ptr 3 0)), (5, .c (.d (.bool p1.isText))), (6, .c (.d (.bool false)))], [(2, .box [.d (.bool p0.isText), .d (.int .i64 p0.n), .d (.str p0.s)]), (3, .box [.d (.bool p1.isText), .d (.int .i64 p1.n), .d (.str p1.s)])]⟩) (by kernel_rfl) (by kernel_rfl) (by kernel_rfl) ⟨?_, ?_, ?_, ?_, ?_, ?_, ?_, ?_, ?_, ?_, ?_, ?_, ?_, ?_, ?_, ?_, trivial⟩ (by kernel_rfl) ?_
        · exact DOk.step (.val (.c (.ptr 2 0)) (True)) (fun r => by kernel_rfl) (fun r => by kernel_rfl) trivial (by kernel_rfl) (by kernel_rfl) (fun r => rfl)
        · exact DOk.step (.val (.c (.d (.bool p0.isText))) (True)) (fun r => by kernel_rfl) (fun r => by kernel_rfl) trivial (by kernel_rfl) (by kernel_rfl) (fun r => rfl)
        · exact DOk.step (.val (.c (.d (.bool (!p0.isText)))) (True)) (fun r => by kernel_rfl) (fun r => by kernel_rfl) trivial (by kernel_rfl) (by kernel_rfl) (fun r => rfl)
        · exact DOk.stepP (fun b => .val (.c (.d (.bool b))) (True)) (p := (!p0.isText)) hp9 (fun r => by kernel_rfl) (fun r => by kernel_rfl) trivial (by kernel_rfl) (by kernel_rfl) (fun r => rfl)
        · exact DOk.step (.val (.c (.ptr 3 0)) (True)) (fun r => by kernel_rfl) (fun r => by kernel_rfl) trivial (by kernel_rfl) (by kernel_rfl) (fun r => rfl)
        · exact DOk.step (.val (.c (.d (.bool p1.isText))) (True)) (fun r => by kernel_rfl) (fun r => by kernel_rfl) trivial (by kernel_rfl) (by kernel_rfl) (fun r => rfl)
        · exact DOk.step (.val (.c (.d (.bool p1.isText))) (True)) (fun r => by kernel_rfl) (fun r => by kernel_rfl) trivial (by kernel_rfl) (by kernel_rfl) (fun r => rfl)
        · exact DOk.step (.val (.c (.ptr 2 0)) (True)) (fun r => by kernel_rfl) (fun r => by kernel_rfl) trivial (by kernel_rfl) (by kernel_rfl) (fun r => rfl)
        · exact DOk.step (.val (.c (.d (.bool p0.isText))) (True)) (fun r => by kernel_rfl) (fun r => by kernel_rfl) trivial (by kernel_rfl) (by kernel_rfl) (fun r => rfl)
        · exact DOk.stepP (fun b => .val (.c (.d (.bool b))) (True)) (p := p0.isText) hp10 (fun r => by kernel_rfl) (fun r => by kernel_rfl) trivial (by kernel_rfl) (by kernel_rfl) (fun r => rfl)
        · exact DOk.skip (fun r => by kernel_rfl) rfl rfl (fun r => rfl)
        · exact DOk.skip (fun r => by kernel_rfl) rfl rfl (fun r => rfl)
        · exact DOk.skip (fun r => by kernel_rfl) rfl rfl (fun r => rfl)
        · exact DOk.step (.val (.c (.d (.bool false))) (True)) (fun r => by kernel_rfl) (fun r => by kernel_rfl) trivial (by kernel_rfl) (by kernel_rfl) (fun r => rfl)
        · exact DOk.step (.val (.c (.d (.bool p1.isText))) (True)) (fun r => by kernel_rfl) (fun r => by kernel_rfl) trivial (by kernel_rfl) (by kernel_rfl) (fun r => rfl)
        · exact DOk.step (.val (.c (.d (.bool false))) (True)) (fun r => by kernel_rfl) (fun r => by kernel_rfl) trivial (by kernel_rfl) (by kernel_rfl) (fun r => rfl)
        exact ⟨_, h, rfl⟩
    · rcases bf_cases h with ⟨hp11, h⟩ | ⟨hp11, h⟩
      · refine Tri.drawn (specs := [⟨⟨[(2, .c (.ptr 2 0))], []⟩, ⟨[(7, .c (.ptr 2 0))], []⟩, [], [], []⟩, ⟨⟨[(7, .c (.ptr 2 0))], [(2, .box [.d (.bool p0.isText), .d (.int .i64 p0.n), .d (.str p0.s)])]⟩, ⟨[(8, .c (.d (.bool p0.isText)))], []⟩, [], [], []⟩, ⟨⟨[(8, .c (.d (.bool p0.isText)))], []⟩, ⟨[(9, .c (.d (.bool (!p0.isText))))], []⟩, [], [], []⟩, ⟨⟨[(9, .c (.d (.bool (!p0.isText))))], []⟩, ⟨[(10, .c (.d (.bool false)))], []⟩, [], [], []⟩, ⟨⟨[(3, .c (.ptr 3 0)), (10, .c (.d (.bool false)))], []⟩, ⟨[(11, .tup [])], []⟩, [], [], []⟩, ⟨⟨[(10, .c (.d (.bool false))), (11, .tup [])], []⟩, ⟨[(12, .tup [])], []⟩, [], [], []⟩, ⟨⟨[(10, .c (.d (.bool false))), (12, .tup [])], []⟩, ⟨[(13, .c (.d (.bool false)))], []⟩, [], [], []⟩, ⟨⟨[(2, .c (.ptr 2 0))], []⟩, ⟨[(14, .c (.ptr 2 0))], []⟩, [], [], []⟩, ⟨⟨[(14, .c (.ptr 2 0))], [(2, .box [.d (.bool p0.isText), .d (.int .i64 p0.n), .d (.str p0.s)])]⟩, ⟨[(15, .c (.d (.bool p0.isText)))], []⟩, [], [], []⟩, ⟨⟨[(15, .c (.d (.bool p0.isText)))], []⟩, ⟨[(16, .c (.d (.bool true)))], []⟩, [], [], []⟩, ⟨⟨[(3, .c (.ptr 3 0)), (16, .c (.d (.bool true)))], []⟩, ⟨[(17, .c (.ptr 3 0))], []⟩, [], [], []⟩, ⟨⟨[(16, .c (.d (.bool true))), (17, .c (.ptr 3 0))], [(3, .box [.d (.bool p1.isText), .d (.int .i64 p1.n), .d (.str p1.s)])]⟩, ⟨[(18, .c (.d (.bool p1.isText)))], []⟩, [], [], []⟩, ⟨⟨[(16, .c (.d (.bool true))), (18, .c (.d (.bool p1.isText)))], []⟩, ⟨[(19, .c (.d (.bool (!p1.isText))))], []⟩, [], [], []⟩, ⟨⟨[(16, .c (.d (.bool true))), (19, .c (.d (.bool (!p1.isText))))], []⟩, ⟨[(20, .c (.d (.bool (!p1.isText))))], []⟩, [], [], []⟩, ⟨⟨[(13, .c (.d (.bool false)))], []⟩, ⟨[(5, .c (.d (.bool false)))], []⟩, [], [], []⟩, ⟨⟨[(20, .c (.d (.bool (!p1.isText))))], []⟩, ⟨[(6, .c (.d (.bool (!p1.isText))))], []⟩, [], [], []⟩]) (bef := [[], [0], [0, 1], [0, 1, 2], [0, 1, 2, 3], [0, 1, 2, 3, 4], [0, 1, 2, 3, 4, 5], [], [7], [0, 1, 2, 3, 7, 8], [0, 1, 2, 3, 7, 8, 9], [0, 1, 2, 3, 7, 8, 9, 10], [0, 1, 2, 3, 7, 8, 9, 10, 11], [0, 1, 2, 3, 7, 8, 9, 10, 11, 12], [0, 1, 2, 3, 4, 5, 6, 7, 8, 9], [0, 1, 2, 3, 4, 5, 6, 7, 8, 9, 10, 11, 12, 13, 14]]) (tk := [2, 3, 5, 6]) (sk := [2, 3]) (s' := ⟨[(2, .c (.ptr 2 0)), (3, .c (.ptr 3 0)), (5, .c (.d (.bool false))), (6, .c (.d (.bool (!p1.isText))))], [(2, .box [.d (.bool p0.isText), .d (.int .i64 p0.n), .d (.str p0.s)]), (3, .box [.d (.bool p1.isText), .d (.int .i64 p1.n), .d (.str p1.s)])]⟩) (by kernel_rfl) (by kernel_rfl) (by kernel_rfl) ⟨?_, ?_, ?_, ?_, ?_, ?_, ?_, ?_, ?_, ?_, ?_, ?_, ?_, ?_, ?_, ?_, trivial⟩ (by kernel_rfl) ?_
        · exact DOk.step (.val (.c (.ptr 2 0)) (True)) (fun r => by kernel_rfl) (fun r => by kernel_rfl) trivial (by kernel_rfl) (by kernel_rfl) (fun r => rfl)
        · exact DOk.step (.val (.c (.d (.bool p0.isText))) (True)) (fun r => by kernel_rfl) (fun r => by kernel_rfl) trivial (by kernel_rfl) (by kernel_rfl) (fun r => rfl)
        · exact DOk.step (.val (.c (.d (.bool (!p0.isText)))) (True)) (fun r => by kernel_rfl) (fun r => by kernel_rfl) trivial (by kernel_rfl) (by kernel_rfl) (fun r => rfl)
        · exact DOk.stepP (fun b => .val (.c (.d (.bool b))) (True)) (p := (!p0.isText)) hp9 (fun r => by kernel_rfl) (fun r => by kernel_rfl) trivial (by kernel_rfl) (by kernel_rfl) (fun r => rfl)
        · exact DOk.skip (fun r => by kernel_rfl) rfl rfl (fun r => rfl)
        · exact DOk.skip (fun r => by kernel_rfl) rfl rfl (fun r => rfl)
        · exact DOk.step (.val (.c (.d (.bool false))) (True)) (fun r => by kernel_rfl) (fun r => by kernel_rfl) trivial (by kernel_rfl) (by kernel_rfl) (fun r => rfl)
        · exact DOk.step (.val (.c (.ptr 2 0)) (True)) (fun r => by kernel_rfl) (fun r => by kernel_rfl) trivial (by kernel_rfl) (by kernel_rfl) (fun r => rfl)
        · exact DOk.step (.val (.c (.d (.bool p0.isText))) (True)) (fun r => by kernel_rfl) (fun r => by kernel_rfl) trivial (by kernel_rfl) (by kernel_rfl) (fun r => rfl)
        · exact DOk.stepP (fun b => .val (.c (.d (.bool b))) (True)) (p := p0.isText) hp11 (fun r => by kernel_rfl) (fun r => by kernel_rfl) trivial (by kernel_rfl) (by kernel_rfl) (fun r => rfl)
        · exact DOk.step (.val (.c (.ptr 3 0)) (True)) (fun r => by kernel_rfl) (fun r => by kernel_rfl) trivial (by kernel_rfl) (by kernel_rfl) (fun r => rfl)
        · exact DOk.step (.val (.c (.d (.bool p1.isText))) (True)) (fun r => by kernel_rfl) (fun r => by kernel_rfl) trivial (by kernel_rfl) (by kernel_rfl) (fun r => rfl)
        · exact DOk.step (.val (.c (.d (.bool (!p1.isText)))) (True)) (fun r => by kernel_rfl) (fun r => by kernel_rfl) trivial (by kernel_rfl) (by kernel_rfl) (fun r => rfl)
        · exact DOk.step (.val (.c (.d (.bool (!p1.isText)))) (True)) (fun r => by kernel_rfl) (fun r => by kernel_rfl) trivial (by kernel_rfl) (by kernel_rfl) (fun r => rfl)
        · exact DOk.step (.val (.c (.d (.bool false))) (True)) (fun r => by kernel_rfl) (fun r => by kernel_rfl) trivial (by kernel_rfl) (by kernel_rfl) (fun r => rfl)
        · exact DOk.step (.val (.c (.d (.bool (!p1.isText)))) (True)) (fun r => by kernel_rfl) (fun r => by kernel_rfl) trivial (by kernel_rfl) (by kernel_rfl) (fun r => rfl)
        exact ⟨_, h, rfl⟩
      · refine Tri.drawn (specs := [⟨⟨[(2, .c (.ptr 2 0))], []⟩, ⟨[(7, .c (.ptr 2 0))], []⟩, [], [], []⟩, ⟨⟨[(7, .c (.ptr 2 0))], [(2, .box [.d (.bool p0.isText), .d (.int .i64 p0.n), .d (.str p0.s)])]⟩, ⟨[(8, .c (.d (.bool p0.isText)))], []⟩, [], [], []⟩, ⟨⟨[(8, .c (.d (.bool p0.isText)))], []⟩, ⟨[(9, .c (.d (.bool (!p0.isText))))], []⟩, [], [], []⟩, ⟨⟨[(9, .c (.d (.bool (!p0.isText))))], []⟩, ⟨[(10, .c (.d (.bool false)))], []⟩, [], [], []⟩, ⟨⟨[(3, .c (.ptr 3 0)), (10, .c (.d (.bool false)))], []⟩, ⟨[(11, .tup [])], []⟩, [], [], []⟩, ⟨⟨[(10, .c (.d (.bool false))), (11, .tup [])], []⟩, ⟨[(12, .tup [])], []⟩, [], [], []⟩, ⟨⟨[(10, .c (.d (.bool false))), (12, .tup [])], []⟩, ⟨[(13, .c (.d (.bool false)))], []⟩, [], [], []⟩, ⟨⟨[(2, .c (.ptr 2 0))], []⟩, ⟨[(14, .c (.ptr 2 0))], []⟩, [], [], []⟩, ⟨⟨[(14, .c (.ptr 2 0))], [(2, .box [.d (.bool p0.isText), .d (.int .i64 p0.n), .d (.str p0.s)])]⟩, ⟨[(15, .c (.d (.bool p0.isText)))], []⟩, [], [], []⟩, ⟨⟨[(15, .c (.d (.bool p0.isText)))], []⟩, ⟨[(16, .c (.d (.bool false)))], []⟩, [], [], []⟩, ⟨⟨[(3, .c (.ptr 3 0)), (16, .c (.d (.bool false)))], []⟩, ⟨[(17, .tup [])], []⟩, [], [], []⟩, ⟨⟨[(16, .c (.d (.bool false))), (17, .tup [])], []⟩, ⟨[(18, .tup [])], []⟩, [], [], []⟩, ⟨⟨[(16, .c (.d (.bool false))), (18, .tup [])], []⟩, ⟨[(19, .tup [])], []⟩, [], [], []⟩, ⟨⟨[(16, .c (.d (.bool false))), (19, .tup [])], []⟩, ⟨[(20, .c (.d (.bool false)))], []⟩, [], [], []⟩, ⟨⟨[(13, .c (.d (.bool false)))], []⟩, ⟨[(5, .c (.d (.bool false)))], []⟩, [], [], []⟩, ⟨⟨[(20, .c (.d (.bool false)))], []⟩, ⟨[(6, .c (.d (.bool false)))], []⟩, [], [], []⟩]) (bef := [[], [0], [0, 1], [0, 1, 2], [0, 1, 2, 3], [0, 1, 2, 3, 4], [0, 1, 2, 3, 4, 5], [], [7], [0, 1, 2, 3, 7, 8], [0, 1, 2, 3, 7, 8, 9], [0, 1, 2, 3, 7, 8, 9, 10], [0, 1, 2, 3, 7, 8, 9, 10, 11], [0, 1, 2, 3, 7, 8, 9, 10, 11, 12], [0, 1, 2, 3, 4, 5, 6, 7, 8, 9], [0, 1, 2, 3, 4, 5, 6, 7, 8, 9, 10, 11, 12, 13, 14]]) (tk := [2, 3, 5, 6]) (sk := [2, 3]) (s' := ⟨[(2, .c (.ptr 2 0)), (3, .c (.ptr 3 0)), (5, .c (.d (.bool false))), (6, .c (.d (.bool false)))], [(2, .box [.d (.bool p0.isText), .d (.int .i64 p0.n), .d (.str p0.s)]), (3, .box [.d (.bool p1.isText), .d (.int .i64 p1.n), .d (.str p1.s)])]⟩) (by kernel_rfl) (by kernel_rfl) (by kernel_rfl) ⟨?_, ?_, ?_, ?_, ?_, ?_, ?_, ?_, ?_, ?_, ?_, ?_, ?_, ?_, ?_, ?_, trivial⟩ (by kernel_rfl) ?_
        · exact DOk.step (.val (.c (.ptr 2 0)) (True)) (fun r => by kernel_rfl) (fun r => by kernel_rfl) trivial (by kernel_rfl) (by kernel_rfl) (fun r => rfl)
        · exact DOk.step (.val (.c (.d (.bool p0.isText))) (True)) (fun r => by kernel_rfl) (fun r => by kernel_rfl) trivial (by kernel_rfl) (by kernel_rfl) (fun r => rfl)
        · exact DOk.step (.val (.c (.d (.bool (!p0.isText)))) (True)) (fun r => by kernel_rfl) (fun r => by kernel_rfl) trivial (by kernel_rfl) (by kernel_rfl) (fun r => rfl)
        · exact DOk.stepP (fun b => .val (.c (.d (.bool b))) (True)) (p := (!p0.isText)) hp9 (fun r => by kernel_rfl) (fun r => by kernel_rfl) trivial (by kernel_rfl) (by kernel_rfl) (fun r => rfl)
        · exact DOk.skip (fun r => by kernel_rfl) rfl rfl (fun r => rfl)
        · exact DOk.skip (fun r => by kernel_rfl) rfl rfl (fun r => rfl)
        · exact DOk.step (.val (.c (.d (.bool false))) (True)) (fun r => by kernel_rfl) (fun r => by kernel_rfl) trivial (by kernel_rfl) (by kernel_rfl) (fun r => rfl)
        · exact DOk.step (.val (.c (.ptr 2 0)) (True)) (fun r => by kernel_rfl) (fun r => by kernel_rfl) trivial (by kernel_rfl) (by kernel_rfl) (fun r => rfl)
        · exact DOk.step (.val (.c (.d (.bool p0.isText))) (True)) (fun r => by kernel_rfl) (fun r => by kernel_rfl) trivial (by kernel_rfl) (by kernel_rfl) (fun r => rfl)
        · exact DOk.stepP (fun b => .val (.c (.d (.bool b))) (True)) (p := p0.isText) hp11 (fun r => by kernel_rfl) (fun r => by kernel_rfl) trivial (by kernel_rfl) (by kernel_rfl) (fun r => rfl)
        · exact DOk.skip (fun r => by kernel_rfl) rfl rfl (fun r => rfl)
        · exact DOk.skip (fun r => by kernel_rfl) rfl rfl (fun r => rfl)
        · exact DOk.skip (fun r => by kernel_rfl) rfl rfl (fun r => rfl)
        · exact DOk.step (.val (.c (.d (.bool false))) (True)) (fun r => by kernel_rfl) (fun r => by kernel_rfl) trivial (by kernel_rfl) (by kernel_rfl) (fun r => rfl)
        · exact DOk.step (.val (.c (.d (.bool false))) (True)) (fun r => by kernel_rfl) (fun r => by kernel_rfl) trivial (by kernel_rfl) (by kernel_rfl) (fun r => rfl)
        · exact DOk.step (.val (.c (.d (.bool false))) (True)) (fun r => by kernel_rfl) (fun r => by kernel_rfl) trivial (by kernel_rfl) (by kernel_rfl) (fun r => rfl)
        exact ⟨_, h, rfl⟩

set_option maxRecDepth 100000 in
theorem freshetref03_Rows_ok {fuel : Nat} {p0 : List Value} {p1 : List Value} {q : Int} (h : freshetref03_Rows fuel p0 p1 = some q) :
    Summ Try.prog 15 [.c (.d (.list 3 p0.length (fun i => encValue (p0.getD i default)))), .c (.d (.list 3 p1.length (fun i => encValue (p1.getD i default))))] [] (.c (.d (.int .i64 q))) [] := by
  refine Summ.intro Try.func15 rfl (by kernel_rfl) (by kernel_rfl) [] rfl ?_
  rintro ⟨P, w0, G0, V, LL, lk, N, φ0, fx⟩ rfl rfl rfl rfl
  unfold freshetref03_Rows at h
  refine Tri.seqS ?_
  refine Tri.reg ?_
  refine At.seg 1 [0, 1] [] (s' := ⟨[(0, .c (.d (.list 3 p0.length (fun i => encValue (p0.getD i default))))), (1, .c (.d (.list 3 p1.length (fun i => encValue (p1.getD i default)))))], []⟩) (c := True ∧ True) (by kernel_rfl) ⟨trivial, trivial⟩ ?_
  refine At.done rfl ?_
  show Tri _ _ _ _
  refine Tri.seqS ?_
  refine Tri.seqS ?_
  refine Tri.reg ?_
  refine At.seg 1 [0, 1, 5] [] (s' := ⟨[(0, .c (.d (.list 3 p0.length (fun i => encValue (p0.getD i default))))), (1, .c (.d (.list 3 p1.length (fun i => encValue (p1.getD i default))))), (5, .c (.d (.int .i64 0)))], []⟩) (c := True ∧ True) (by kernel_rfl) ⟨trivial, trivial⟩ ?_
  refine At.done rfl ?_
  show Tri _ _ _ _
  refine Tri.keep [0, 1, 5] [] (s' := ⟨[(0, .c (.d (.list 3 p0.length (fun i => encValue (p0.getD i default))))), (1, .c (.d (.list 3 p1.length (fun i => encValue (p1.getD i default))))), (5, .c (.d (.int .i64 0)))], []⟩) (by kernel_rfl) ?_
  refine Tri.loopK (fuel := fuel) (st0 := 0) (fun (x : Int) s => RetAt Try.prog Try.f15 (.c (.d (.int .i64 x))) [] s) (fun (a1 : Int) => ⟨[(0, .c (.d (.list 3 p0.length (fun i => encValue (p0.getD i default))))), (1, .c (.d (.list 3 p1.length (fun i => encValue (p1.getD i default))))), (5, .c (.d (.int .i64 a1)))], []⟩) (fun (a1 : Int) => ⟨[(0, .c (.d (.list 3 p0.length (fun i => encValue (p0.getD i default))))), (1, .c (.d (.list 3 p1.length (fun i => encValue (p1.getD i default))))), (5, .c (.d (.int .i64 a1)))], []⟩) h ?_ ?_ ?_
  · intro a1 c h
    show Tri _ _ ⟨[(0, .c (.d (.list 3 p0.length (fun i => encValue (p0.getD i default))))), (1, .c (.d (.list 3 p1.length (fun i => encValue (p1.getD i default))))), (5, .c (.d (.int .i64 a1)))], []⟩ _
    refine Tri.seqS ?_
    refine Tri.seqJ (fun (a3 : Bool) => ⟨[(0, .c (.d (.list 3 p0.length (fun i => encValue (p0.getD i default))))), (1, .c (.d (.list 3 p1.length (fun i => encValue (p1.getD i default))))), (5, .c (.d (.int .i64 a1))), (16, .c (.d (.bool a3)))], []⟩) h (fun a3 h => ?_) (fun j4 h => ?_)
    · show Tri _ _ ⟨[(0, .c (.d (.list 3 p0.length (fun i => encValue (p0.getD i default))))), (1, .c (.d (.list 3 p1.length (fun i => encValue (p1.getD i default))))), (5, .c (.d (.int .i64 a1))), (16, .c (.d (.bool a3)))], []⟩ _
      refine Tri.condP (b := a3) rfl h (fun h => ?_) (fun h => ?_)
      · refine Tri.skip ?_
        show Tri _ _ _ _
        refine Tri.seqS ?_
        refine Tri.blockB ?_
        refine Tri.seqS ?_
        obtain ⟨hc5, h⟩ := need_elim h
        obtain ⟨hc6, h⟩ := need_elim h
        obtain ⟨r7, hr7, h⟩ := bind_elim h
        refine Tri.drawn (specs := [⟨⟨[(0, .c (.d (.list 3 p0.length (fun i => encValue (p0.getD i default)))))], []⟩, ⟨[(19, .c (.d (.list 3 p0.length (fun i => encValue (p0.getD i default)))))], []⟩, [], [], []⟩, ⟨⟨[(5, .c (.d (.int .i64 a1)))], []⟩, ⟨[(20, .c (.d (.int .i64 a1)))], []⟩, [], [], []⟩, ⟨⟨[(19, .c (.d (.list 3 p0.length (fun i => encValue (p0.getD i default))))), (20, .c (.d (.int .i64 a1)))], []⟩, ⟨[(21, .c (.eptr [.bool ((p0.getD a1.toNat default).isText), .int .i64 ((p0.getD a1.toNat default).n), .str ((p0.getD a1.toNat default).s)]))], []⟩, [], [], []⟩, ⟨⟨[(21, .c (.eptr [.bool ((p0.getD a1.toNat default).isText), .int .i64 ((p0.getD a1.toNat default).n), .str ((p0.getD a1.toNat default).s)]))], []⟩, ⟨[(22, .agg [.d (.bool ((p0.getD a1.toNat default).isText)), .d (.int .i64 ((p0.getD a1.toNat default).n)), .d (.str ((p0.getD a1.toNat default).s))])], []⟩, [], [], []⟩, ⟨⟨[(1, .c (.d (.list 3 p1.length (fun i => encValue (p1.getD i default)))))], []⟩, ⟨[(23, .c (.d (.list 3 p1.length (fun i => encValue (p1.getD i default)))))], []⟩, [], [], []⟩, ⟨⟨[(5, .c (.d (.int .i64 a1)))], []⟩, ⟨[(24, .c (.d (.int .i64 a1)))], []⟩, [], [], []⟩, ⟨⟨[(23, .c (.d (.list 3 p1.length (fun i => encValue (p1.getD i default))))), (24, .c (.d (.int .i64 a1)))], []⟩, ⟨[(25, .c (.eptr [.bool ((p1.getD a1.toNat default).isText), .int .i64 ((p1.getD a1.toNat default).n), .str ((p1.getD a1.toNat default).s)]))], []⟩, [], [], []⟩, ⟨⟨[(25, .c (.eptr [.bool ((p1.getD a1.toNat default).isText), .int .i64 ((p1.getD a1.toNat default).n), .str ((p1.getD a1.toNat default).s)]))], []⟩, ⟨[(26, .agg [.d (.bool ((p1.getD a1.toNat default).isText)), .d (.int .i64 ((p1.getD a1.toNat default).n)), .d (.str ((p1.getD a1.toNat default).s))])], []⟩, [], [], []⟩, ⟨⟨[(22, .agg [.d (.bool ((p0.getD a1.toNat default).isText)), .d (.int .i64 ((p0.getD a1.toNat default).n)), .d (.str ((p0.getD a1.toNat default).s))]), (26, .agg [.d (.bool ((p1.getD a1.toNat default).isText)), .d (.int .i64 ((p1.getD a1.toNat default).n)), .d (.str ((p1.getD a1.toNat default).s))])], []⟩, ⟨[(27, .c (.d (.int .i64 r7)))], []⟩, [], [], []⟩, ⟨⟨[(27, .c (.d (.int .i64 r7)))], []⟩, ⟨[(6, .c (.d (.int .i64 r7)))], []⟩, [], [], []⟩]) (bef := [[], [], [0, 1], [0, 1, 2], [], [], [4, 5], [4, 5, 6], [0, 1, 2, 3, 4, 5, 6, 7], [0, 1, 2, 3, 4, 5, 6, 7, 8]]) (tk := [0, 1, 5, 6]) (sk := []) (s' := ⟨[(0, .c (.d (.list 3 p0.length (fun i => encValue (p0.getD i default))))), (1, .c (.d (.list 3 p1.length (fun i => encValue (p1.getD i default))))), (5, .c (.d (.int .i64 a1))), (6, .c (.d (.int .i64 r7)))], []⟩) (by kernel_rfl) (by kernel_rfl) (by kernel_rfl) ⟨?_, ?_, ?_, ?_, ?_, ?_, ?_, ?_, ?_, ?_, trivial⟩ (by kernel_rfl) ?_
        · exact DOk.step (.val (.c (.d (.list 3 p0.length (fun i => encValue (p0.getD i default))))) (True)) (fun r => by kernel_rfl) (fun r => by kernel_rfl) trivial (by kernel_rfl) (by kernel_rfl) (fun r => rfl)
        · exact DOk.step (.val (.c (.d (.int .i64 a1))) (True)) (fun r => by kernel_rfl) (fun r => by kernel_rfl) trivial (by kernel_rfl) (by kernel_rfl) (fun r => rfl)
        · exact DOk.step (.val (.c (.eptr [.bool ((p0.getD a1.toNat default).isText), .int .i64 ((p0.getD a1.toNat default).n), .str ((p0.getD a1.toNat default).s)])) ((0 : Int) ≤ a1 ∧ a1 < (p0.length : Int))) (fun r => by kernel_rfl) (fun r => by kernel_rfl) hc5 (by kernel_rfl) (by kernel_rfl) (fun r => rfl)
        · exact DOk.step (.val (.agg [.d (.bool ((p0.getD a1.toNat default).isText)), .d (.int .i64 ((p0.getD a1.toNat default).n)), .d (.str ((p0.getD a1.toNat default).s))]) (True)) (fun r => by kernel_rfl) (fun r => by kernel_rfl) trivial (by kernel_rfl) (by kernel_rfl) (fun r => rfl)
        · exact DOk.step (.val (.c (.d (.list 3 p1.length (fun i => encValue (p1.getD i default))))) (True)) (fun r => by kernel_rfl) (fun r => by kernel_rfl) trivial (by kernel_rfl) (by kernel_rfl) (fun r => rfl)
        · exact DOk.step (.val (.c (.d (.int .i64 a1))) (True)) (fun r => by kernel_rfl) (fun r => by kernel_rfl) trivial (by kernel_rfl) (by kernel_rfl) (fun r => rfl)
        · exact DOk.step (.val (.c (.eptr [.bool ((p1.getD a1.toNat default).isText), .int .i64 ((p1.getD a1.toNat default).n), .str ((p1.getD a1.toNat default).s)])) ((0 : Int) ≤ a1 ∧ a1 < (p1.length : Int))) (fun r => by kernel_rfl) (fun r => by kernel_rfl) hc6 (by kernel_rfl) (by kernel_rfl) (fun r => rfl)
        · exact DOk.step (.val (.agg [.d (.bool ((p1.getD a1.toNat default).isText)), .d (.int .i64 ((p1.getD a1.toNat default).n)), .d (.str ((p1.getD a1.toNat default).s))]) (True)) (fun r => by kernel_rfl) (fun r => by kernel_rfl) trivial (by kernel_rfl) (by kernel_rfl) (fun r => rfl)
        · exact DOk.callA (caps := []) (xs := [.agg [.d (.bool ((p0.getD a1.toNat default).isText)), .d (.int .i64 ((p0.getD a1.toNat default).n)), .d (.str ((p0.getD a1.toNat default).s))], .agg [.d (.bool ((p1.getD a1.toNat default).isText)), .d (.int .i64 ((p1.getD a1.toNat default).n)), .d (.str ((p1.getD a1.toNat default).s))]]) (freshetref03_Compare_ok hr7) rfl (fun r => by kernel_rfl) rfl (fun r => by kernel_rfl) (fun r => by kernel_rfl) (fun r => (.cons (.refl _) (.cons (.refl _) .nil))) rfl rfl (fun r => rfl)
        · exact DOk.step (.val (.c (.d (.int .i64 r7))) (True)) (fun r => by kernel_rfl) (fun r => by kernel_rfl) trivial (by kernel_rfl) (by kernel_rfl) (fun r => rfl)
        show Tri _ _ _ _
        refine Tri.seqS ?_
        refine Tri.reg ?_
        refine At.seg 2 [0, 1, 5, 6, 29] [] (s' := ⟨[(0, .c (.d (.list 3 p0.length (fun i => encValue (p0.getD i default))))), (1, .c (.d (.list 3 p1.length (fun i => encValue (p1.getD i default))))), (5, .c (.d (.int .i64 a1))), (6, .c (.d (.int .i64 r7))), (29, .c (.d (.bool (!decide (r7 = 0)))))], []⟩) (c := True ∧ True ∧ True) (by kernel_rfl) ⟨trivial, trivial, trivial⟩ ?_
        refine At.done rfl ?_
        show Tri _ _ _ _
        refine Tri.condP (b := (!decide (r7 = 0))) rfl h (fun h => ?_) (fun h => ?_)
        · refine Tri.seqS ?_
          refine Tri.reg ?_
          refine At.seg 2 [4] [] (s' := ⟨[(4, .c (.d (.int .i64 r7)))], []⟩) (c := True ∧ True ∧ True) (by kernel_rfl) ⟨trivial, trivial, trivial⟩ ?_
          refine At.done rfl ?_
          show Tri _ _ _ _
          refine Tri.keep [4] [] (s' := ⟨[(4, .c (.d (.int .i64 r7)))], []⟩) (by kernel_rfl) ?_
          refine Tri.ret ?_
          cases h
          refine ⟨_, _, rfl, ⟨trivial, trivial⟩, rfl, rfl, ?_⟩
          intro k c h
          cases h
        · refine Tri.skip ?_
          show Tri _ _ _ _
          refine Tri.reg ?_
          refine At.seg 3 [0, 1, 5] [] (s' := ⟨[(0, .c (.d (.list 3 p0.length (fun i => encValue (p0.getD i default))))), (1, .c (.d (.list 3 p1.length (fun i => encValue (p1.getD i default))))), (5, .c (.d (.int .i64 (IntKind.i64.wrap (a1 + 1)))))], []⟩) (c := True ∧ True ∧ True ∧ True) (by kernel_rfl) ⟨trivial, trivial, trivial, trivial⟩ ?_
          refine At.done rfl ?_
          cases h
          exact rfl
      · refine Tri.keep [0, 1, 5] [] (s' := ⟨[(0, .c (.d (.list 3 p0.length (fun i => encValue (p0.getD i default))))), (1, .c (.d (.list 3 p1.length (fun i => encValue (p1.getD i default))))), (5, .c (.d (.int .i64 a1)))], []⟩) (by kernel_rfl) ?_
        refine Tri.exit ?_
        cases h
        exact ⟨rfl, rfl⟩
    · refine Tri.reg ?_
      refine At.seg 5 [0, 1, 5, 11] [] (s' := ⟨[(0, .c (.d (.list 3 p0.length (fun i => encValue (p0.getD i default))))), (1, .c (.d (.list 3 p1.length (fun i => encValue (p1.getD i default))))), (5, .c (.d (.int .i64 a1))), (11, .c (.d (.bool (decide (a1 < (p0.length : Int))))))], []⟩) (c := True ∧ True ∧ True ∧ True ∧ True ∧ True) (by kernel_rfl) ⟨trivial, trivial, trivial, trivial, trivial, trivial⟩ ?_
      refine At.case (fun b => ⟨[(0, .c (.d (.list 3 p0.length (fun i => encValue (p0.getD i default))))), (1, .c (.d (.list 3 p1.length (fun i => encValue (p1.getD i default))))), (5, .c (.d (.int .i64 a1))), (11, .c (.d (.bool b)))], []⟩) (b := (decide (a1 < (p0.length : Int)))) h (fun h => ?_) (fun h => ?_)
      · refine At.seg 5 [0, 1, 5, 16] [] (s' := ⟨[(0, .c (.d (.list 3 p0.length (fun i => encValue (p0.getD i default))))), (1, .c (.d (.list 3 p1.length (fun i => encValue (p1.getD i default))))), (5, .c (.d (.int .i64 a1))), (16, .c (.d (.bool (decide (a1 < (p1.length : Int))))))], []⟩) (c := True ∧ True ∧ True ∧ True ∧ True ∧ True) (by kernel_rfl) ⟨trivial, trivial, trivial, trivial, trivial, trivial⟩ ?_
        refine At.done rfl ?_
        exact ⟨_, h, rfl⟩
      · refine At.seg 5 [0, 1, 5, 16] [] (s' := ⟨[(0, .c (.d (.list 3 p0.length (fun i => encValue (p0.getD i default))))), (1, .c (.d (.list 3 p1.length (fun i => encValue (p1.getD i default))))), (5, .c (.d (.int .i64 a1))), (16, .c (.d (.bool false)))], []⟩) (c := True ∧ True) (by kernel_rfl) ⟨trivial, trivial⟩ ?_
        refine At.done rfl ?_
        exact ⟨_, h, rfl⟩
  · intro a2 h
    show Tri _ _ _ _
    refine Tri.seqS ?_
    refine Tri.blockB ?_
    refine Tri.seqS ?_
    refine Tri.reg ?_
    refine At.seg 6 [0, 1, 31] [] (s' := ⟨[(0, .c (.d (.list 3 p0.length (fun i => encValue (p0.getD i default))))), (1, .c (.d (.list 3 p1.length (fun i => encValue (p1.getD i default))))), (31, .c (.d (.bool (decide ((p0.length : Int) < (p1.length : Int))))))], []⟩) (c := True ∧ True ∧ True ∧ True ∧ True ∧ True ∧ True) (by kernel_rfl) ⟨trivial, trivial, trivial, trivial, trivial, trivial, trivial⟩ ?_
    refine At.done rfl ?_
    show Tri _ _ _ _
    refine Tri.condP (b := (decide ((p0.length : Int) < (p1.length : Int)))) rfl h (fun h => ?_) (fun h => ?_)
    · refine Tri.seqS ?_
      refine Tri.reg ?_
      refine At.seg 1 [4] [] (s' := ⟨[(4, .c (.d (.int .i64 (-1))))], []⟩) (c := True ∧ True) (by kernel_rfl) ⟨trivial, trivial⟩ ?_
      refine At.done rfl ?_
      show Tri _ _ _ _
      refine Tri.keep [4] [] (s' := ⟨[(4, .c (.d (.int .i64 (-1))))], []⟩) (by kernel_rfl) ?_
      refine Tri.ret ?_
      cases h
      refine ⟨_, _, rfl, ⟨trivial, trivial⟩, rfl, rfl, ?_⟩
      intro k c h
      cases h
    · refine Tri.seqS ?_
      refine Tri.reg ?_
      refine At.seg 6 [37] [] (s' := ⟨[(37, .c (.d (.bool (decide ((p1.length : Int) < (p0.length : Int))))))], []⟩) (c := True ∧ True ∧ True ∧ True ∧ True ∧ True ∧ True) (by kernel_rfl) ⟨trivial, trivial, trivial, trivial, trivial, trivial, trivial⟩ ?_
      refine At.done rfl ?_
      show Tri _ _ _ _
      refine Tri.condP (b := (decide ((p1.length : Int) < (p0.length : Int)))) rfl h (fun h => ?_) (fun h => ?_)
      · refine Tri.seqS ?_
        refine Tri.reg ?_
        refine At.seg 1 [4] [] (s' := ⟨[(4, .c (.d (.int .i64 1)))], []⟩) (c := True ∧ True) (by kernel_rfl) ⟨trivial, trivial⟩ ?_
        refine At.done rfl ?_
        show Tri _ _ _ _
        refine Tri.keep [4] [] (s' := ⟨[(4, .c (.d (.int .i64 1)))], []⟩) (by kernel_rfl) ?_
        refine Tri.ret ?_
        cases h
        refine ⟨_, _, rfl, ⟨trivial, trivial⟩, rfl, rfl, ?_⟩
        intro k c h
        cases h
      · refine Tri.skip ?_
        show Tri _ _ _ _
        refine Tri.seqS ?_
        refine Tri.reg ?_
        refine At.seg 1 [4] [] (s' := ⟨[(4, .c (.d (.int .i64 0)))], []⟩) (c := True ∧ True) (by kernel_rfl) ⟨trivial, trivial⟩ ?_
        refine At.done rfl ?_
        show Tri _ _ _ _
        refine Tri.keep [4] [] (s' := ⟨[(4, .c (.d (.int .i64 0)))], []⟩) (by kernel_rfl) ?_
        refine Tri.ret ?_
        cases h
        refine ⟨_, _, rfl, ⟨trivial, trivial⟩, rfl, rfl, ?_⟩
        intro k c h
        cases h
  · exact fun x s hx hr => by cases hx; exact hr

set_option maxRecDepth 100000 in
theorem value_right_ok {p0 : Value} {q : Bool} (h : value_right p0 = some q) :
    Summ Try.prog 38 [.agg [.d (.bool p0.isText), .d (.int .i64 p0.n), .d (.str p0.s)]] [] (.c (.d (.bool q))) [] := by
  refine Summ.intro Try.func38 rfl (by kernel_rfl) (by kernel_rfl) [] rfl ?_
  rintro ⟨P, w0, G0, V, LL, lk, N, φ0, fx⟩ rfl rfl rfl rfl
  unfold value_right at h
  refine Tri.seqS ?_
  refine Tri.reg ?_
  refine At.seg 2 [1] [1] (s' := ⟨[(1, .c (.ptr 1 0))], [(1, .box [.d (.bool p0.isText), .d (.int .i64 p0.n), .d (.str p0.s)])]⟩) (c := True ∧ True ∧ True) (by kernel_rfl) ⟨trivial, trivial, trivial⟩ ?_
  refine At.done rfl ?_
  show Tri _ _ _ _
  refine Tri.seqS ?_
  refine Tri.seqS ?_
  refine Tri.reg ?_
  refine At.seg 2 [1, 4] [1] (s' := ⟨[(1, .c (.ptr 1 0)), (4, .c (.d (.bool p0.isText)))], [(1, .box [.d (.bool p0.isText), .d (.int .i64 p0.n), .d (.str p0.s)])]⟩) (c := True ∧ True ∧ True) (by kernel_rfl) ⟨trivial, trivial, trivial⟩ ?_
  refine At.done rfl ?_
  show Tri _ _ _ _
  refine Tri.condP (b := p0.isText) rfl h (fun h => ?_) (fun h => ?_)
  · refine Tri.seqJ (fun (a1 : Bool) => ⟨[(2, .c (.d (.bool a1)))], []⟩) h (fun a1 h => ?_) (fun j2 h => ?_)
    · show Tri _ _ ⟨[(2, .c (.d (.bool a1)))], []⟩ _
      refine Tri.keep [2] [] (s' := ⟨[(2, .c (.d (.bool a1)))], []⟩) (by kernel_rfl) ?_
      refine Tri.ret ?_
      cases h
      refine ⟨_, _, rfl, ⟨trivial, trivial⟩, rfl, rfl, ?_⟩
      intro k c h
      cases h
    · refine Tri.reg ?_
      refine At.seg 4 [1, 8] [1] (s' := ⟨[(1, .c (.ptr 1 0)), (8, .c (.d (.bool (decide (p0.n = 0)))))], [(1, .box [.d (.bool p0.isText), .d (.int .i64 p0.n), .d (.str p0.s)])]⟩) (c := True ∧ True ∧ True ∧ True ∧ True) (by kernel_rfl) ⟨trivial, trivial, trivial, trivial, trivial⟩ ?_
      refine At.case (fun b => ⟨[(1, .c (.ptr 1 0)), (8, .c (.d (.bool b)))], [(1, .box [.d (.bool p0.isText), .d (.int .i64 p0.n), .d (.str p0.s)])]⟩) (b := (decide (p0.n = 0))) h (fun h => ?_) (fun h => ?_)
      · refine At.seg 6 [2] [] (s' := ⟨[(2, .c (.d (.bool (decide ((p0.s.size : Int) ≤ 64)))))], []⟩) (c := True ∧ True ∧ True ∧ True ∧ True ∧ True ∧ True) (by kernel_rfl) ⟨trivial, trivial, trivial, trivial, trivial, trivial, trivial⟩ ?_
        refine At.done rfl ?_
        exact ⟨_, h, rfl⟩
      · refine At.seg 6 [2] [] (s' := ⟨[(2, .c (.d (.bool false)))], []⟩) (c := True ∧ True ∧ True) (by kernel_rfl) ⟨trivial, trivial, trivial⟩ ?_
        refine At.done rfl ?_
        exact ⟨_, h, rfl⟩
  · refine Tri.skip ?_
    show Tri _ _ _ _
    refine Tri.seqS ?_
    refine Tri.reg ?_
    refine At.seg 4 [2] [] (s' := ⟨[(2, .c (.d (.bool (strEq p0.s (bs [])))))], []⟩) (c := True ∧ True ∧ True ∧ True ∧ True) (by kernel_rfl) ⟨trivial, trivial, trivial, trivial, trivial⟩ ?_
    refine At.done rfl ?_
    show Tri _ _ _ _
    refine Tri.keep [2] [] (s' := ⟨[(2, .c (.d (.bool (strEq p0.s (bs [])))))], []⟩) (by kernel_rfl) ?_
    refine Tri.ret ?_
    cases h
    refine ⟨_, _, rfl, ⟨trivial, trivial⟩, rfl, rfl, ?_⟩
    intro k c h
    cases h

set_option maxRecDepth 100000 in
theorem value_Check_1_ok {p0 : Value} {q : Bool} (h : value_Check_1 p0 = some q) :
    Summ Try.prog 37 [.agg [.d (.bool p0.isText), .d (.int .i64 p0.n), .d (.str p0.s)]] [] (.c (.d (.bool q))) [] := by
  refine Summ.intro Try.func37 rfl (by kernel_rfl) (by kernel_rfl) [] rfl ?_
  rintro ⟨P, w0, G0, V, LL, lk, N, φ0, fx⟩ rfl rfl rfl rfl
  unfold value_Check_1 at h
  refine Tri.seqS ?_
  refine Tri.reg ?_
  refine At.seg 2 [1] [1] (s' := ⟨[(1, .c (.ptr 1 0))], [(1, .box [.d (.bool p0.isText), .d (.int .i64 p0.n), .d (.str p0.s)])]⟩) (c := True ∧ True ∧ True) (by kernel_rfl) ⟨trivial, trivial, trivial⟩ ?_
  refine At.done rfl ?_
  show Tri _ _ _ _
  refine Tri.seqS ?_
  refine Tri.reg ?_
  refine At.seg 1 [3] [] (s' := ⟨[(3, .agg [.d (.bool p0.isText), .d (.int .i64 p0.n), .d (.str p0.s)])], []⟩) (c := True ∧ True) (by kernel_rfl) ⟨trivial, trivial⟩ ?_
  obtain ⟨r1, hr1, h⟩ := bind_elim h
  refine At.callA (caps := []) (xs := [.agg [.d (.bool p0.isText), .d (.int .i64 p0.n), .d (.str p0.s)]]) (value_right_ok hr1) rfl rfl rfl rfl rfl rfl (.cons (.refl _) .nil) rfl rfl ?_
  refine At.seg 2 [2] [] (s' := ⟨[(2, .c (.d (.bool (!r1))))], []⟩) (c := True ∧ True ∧ True) (by kernel_rfl) ⟨trivial, trivial, trivial⟩ ?_
  refine At.done rfl ?_
  show Tri _ _ _ _
  refine Tri.keep [2] [] (s' := ⟨[(2, .c (.d (.bool (!r1))))], []⟩) (by kernel_rfl) ?_
  refine Tri.ret ?_
  cases h
  refine ⟨_, _, rfl, ⟨trivial, trivial⟩, rfl, rfl, ?_⟩
  intro k c h
  cases h

set_option maxRecDepth 100000 in
theorem slices_IndexFuncfreshet_api_Value_freshet_api_Value_Value__value_Check_1_ok {p0 : List Value} {q : Int} (h : slices_IndexFuncfreshet_api_Value_freshet_api_Value_Value__value_Check_1 p0 = some q) :
    Summ Try.prog 54 [.c (.d (.list 3 p0.length (fun i => encValue (p0.getD i default)))), .c (.d (.fn 37 []))] [] (.c (.d (.int .i64 q))) [] := by
  refine Summ.intro Try.func54 rfl (by kernel_rfl) (by kernel_rfl) [] rfl ?_
  rintro ⟨P, w0, G0, V, LL, lk, N, φ0, fx⟩ rfl rfl rfl rfl
  unfold slices_IndexFuncfreshet_api_Value_freshet_api_Value_Value__value_Check_1 at h
  refine Tri.seqS ?_
  refine Tri.reg ?_
  refine At.seg 1 [0, 1] [] (s' := ⟨[(0, .c (.d (.list 3 p0.length (fun i => encValue (p0.getD i default))))), (1, .c (.d (.fn 37 [])))], []⟩) (c := True ∧ True) (by kernel_rfl) ⟨trivial, trivial⟩ ?_
  refine At.done rfl ?_
  show Tri _ _ _ _
  refine Tri.seqS ?_
  refine Tri.seqS ?_
  refine Tri.reg ?_
  refine At.seg 3 [0, 1, 7, 8] [] (s' := ⟨[(0, .c (.d (.list 3 p0.length (fun i => encValue (p0.getD i default))))), (1, .c (.d (.fn 37 []))), (7, .c (.d (.int .i64 (p0.length : Int)))), (8, .c (.d (.int .i64 0)))], []⟩) (c := True ∧ True ∧ True ∧ True) (by kernel_rfl) ⟨trivial, trivial, trivial, trivial⟩ ?_
  refine At.done rfl ?_
  show Tri _ _ _ _
  refine Tri.lenOf (t := 0) rfl fun hlena2 => ?_
  refine Tri.keep [8, 0, 1, 7] [] (s' := idx 8 0 ⟨[(0, .c (.d (.list 3 p0.length (fun i => encValue (p0.getD i default))))), (1, .c (.d (.fn 37 []))), (7, .c (.d (.int .i64 (p0.length : Int))))], []⟩) (by kernel_rfl) ?_
  refine Tri.range (n := p0.length) (st0 := ()) (fun (x : Int) s => RetAt Try.prog Try.f54 (.c (.d (.int .i64 x))) [] s) (fun (a2 : Unit) => ⟨[(0, .c (.d (.list 3 p0.length (fun i => encValue (p0.getD i default))))), (1, .c (.d (.fn 37 []))), (7, .c (.d (.int .i64 (p0.length : Int))))], []⟩) (fun (a2 : Unit) => ⟨[(0, .c (.d (.list 3 p0.length (fun i => encValue (p0.getD i default))))), (1, .c (.d (.fn 37 []))), (7, .c (.d (.int .i64 (p0.length : Int))))], []⟩) (fun i => decide ((i : Int) < (p0.length : Int))) [9, 8, 0, 1, 7] [] [0, 1, 7] [] [8, 0, 1, 7] [] h hlena2 rfl ?_ ?_ ?_ ?_ ?_ ?_ ?_ ?_
  · exact fun i a => ⟨True ∧ True, by kernel_rfl, ⟨trivial, trivial⟩⟩
  · exact fun i hi => decide_eq_true (by omega)
  · exact decide_eq_false (by omega)
  · exact fun a => by kernel_rfl
  · exact fun i a => ⟨True ∧ True ∧ True, by kernel_rfl, ⟨trivial, trivial, trivial⟩⟩
  · intro i1 a2 c hii1 h
    refine Tri.seqS ?_
    refine Tri.reg ?_
    refine At.seg 2 [0, 1, 5, 7, 8] [] (s' := ⟨[(0, .c (.d (.list 3 p0.length (fun i => encValue (p0.getD i default))))), (1, .c (.d (.fn 37 []))), (5, .c (.d (.int .i64 ((i1 : Nat) : Int)))), (7, .c (.d (.int .i64 (p0.length : Int)))), (8, .c (.d (.int .i64 ((i1 : Nat) : Int))))], []⟩) (c := True ∧ True ∧ True) (by kernel_rfl) ⟨trivial, trivial, trivial⟩ ?_
    refine At.done rfl ?_
    show Tri _ _ _ _
    refine Tri.seqS ?_
    refine Tri.reg ?_
    refine At.seg 5 [0, 1, 5, 7, 8, 11, 15] [] (s' := ⟨[(0, .c (.d (.list 3 p0.length (fun i => encValue (p0.getD i default))))), (1, .c (.d (.fn 37 []))), (5, .c (.d (.int .i64 ((i1 : Nat) : Int)))), (7, .c (.d (.int .i64 (p0.length : Int)))), (8, .c (.d (.int .i64 ((i1 : Nat) : Int)))), (11, .c (.d (.fn 37 []))), (15, .agg [.d (.bool ((p0.getD i1 default).isText)), .d (.int .i64 ((p0.getD i1 default).n)), .d (.str ((p0.getD i1 default).s))])], []⟩) (c := True ∧ True ∧ True ∧ ((0 : Int) ≤ ((i1 : Nat) : Int) ∧ ((i1 : Nat) : Int) < (p0.length : Int)) ∧ True ∧ True) (by kernel_rfl) ⟨trivial, trivial, trivial, ⟨by omega, by omega⟩, trivial, trivial⟩ ?_
    obtain ⟨r4, hr4, h⟩ := bind_elim h
    refine At.callA (caps := []) (xs := [.agg [.d (.bool ((p0.getD i1 default).isText)), .d (.int .i64 ((p0.getD i1 default).n)), .d (.str ((p0.getD i1 default).s))]]) (value_Check_1_ok hr4) rfl rfl rfl rfl rfl rfl (.cons (.refl _) .nil) rfl rfl ?_
    refine At.done rfl ?_
    show Tri _ _ _ _
    refine Tri.condP (b := r4) rfl h (fun h => ?_) (fun h => ?_)
    · refine Tri.seqS ?_
      refine Tri.reg ?_
      refine At.seg 2 [4] [] (s' := ⟨[(4, .c (.d (.int .i64 ((i1 : Nat) : Int))))], []⟩) (c := True ∧ True ∧ True) (by kernel_rfl) ⟨trivial, trivial, trivial⟩ ?_
      refine At.done rfl ?_
      show Tri _ _ _ _
      refine Tri.keep [4] [] (s' := ⟨[(4, .c (.d (.int .i64 ((i1 : Nat) : Int))))], []⟩) (by kernel_rfl) ?_
      refine Tri.ret ?_
      cases h
      refine ⟨_, _, rfl, ⟨trivial, trivial⟩, rfl, rfl, ?_⟩
      intro k c h
      cases h
    · refine Tri.keep [8, 0, 1, 7] [] (s' := ⟨[(8, .c (.d (.int .i64 ((i1 : Nat) : Int)))), (0, .c (.d (.list 3 p0.length (fun i => encValue (p0.getD i default))))), (1, .c (.d (.fn 37 []))), (7, .c (.d (.int .i64 (p0.length : Int))))], []⟩) (by kernel_rfl) ?_
      refine Tri.skip ?_
      cases h
      exact rfl
  · intro a3 h
    show Tri _ _ _ _
    refine Tri.seqS ?_
    refine Tri.reg ?_
    refine At.seg 1 [4] [] (s' := ⟨[(4, .c (.d (.int .i64 (-1))))], []⟩) (c := True ∧ True) (by kernel_rfl) ⟨trivial, trivial⟩ ?_
    refine At.done rfl ?_
    show Tri _ _ _ _
    refine Tri.keep [4] [] (s' := ⟨[(4, .c (.d (.int .i64 (-1))))], []⟩) (by kernel_rfl) ?_
    refine Tri.ret ?_
    cases h
    refine ⟨_, _, rfl, ⟨trivial, trivial⟩, rfl, rfl, ?_⟩
    intro k c h
    cases h
  · exact fun x s hx hr => by cases hx; exact hr

set_option maxRecDepth 100000 in
theorem slices_ContainsFuncfreshet_api_Value_freshet_api_Value_Value__value_Check_1_ok {p0 : List Value} {q : Bool} (h : slices_ContainsFuncfreshet_api_Value_freshet_api_Value_Value__value_Check_1 p0 = some q) :
    Summ Try.prog 36 [.c (.d (.list 3 p0.length (fun i => encValue (p0.getD i default)))), .c (.d (.fn 37 []))] [] (.c (.d (.bool q))) [] := by
  refine Summ.intro Try.func36 rfl (by kernel_rfl) (by kernel_rfl) [] rfl ?_
  rintro ⟨P, w0, G0, V, LL, lk, N, φ0, fx⟩ rfl rfl rfl rfl
  unfold slices_ContainsFuncfreshet_api_Value_freshet_api_Value_Value__value_Check_1 at h
  refine Tri.seqS ?_
  refine Tri.reg ?_
  refine At.seg 1 [0, 1] [] (s' := ⟨[(0, .c (.d (.list 3 p0.length (fun i => encValue (p0.getD i default))))), (1, .c (.d (.fn 37 [])))], []⟩) (c := True ∧ True) (by kernel_rfl) ⟨trivial, trivial⟩ ?_
  refine At.done rfl ?_
  show Tri _ _ _ _
  refine Tri.seqS ?_
  refine Tri.reg ?_
  refine At.seg 2 [5, 6] [] (s' := ⟨[(5, .c (.d (.list 3 p0.length (fun i => encValue (p0.getD i default))))), (6, .c (.d (.fn 37 [])))], []⟩) (c := True ∧ True ∧ True) (by kernel_rfl) ⟨trivial, trivial, trivial⟩ ?_
  obtain ⟨r1, hr1, h⟩ := bind_elim h
  refine At.callA (caps := []) (xs := [.c (.d (.list 3 p0.length (fun i => encValue (p0.getD i default)))), .c (.d (.fn 37 []))]) (slices_IndexFuncfreshet_api_Value_freshet_api_Value_Value__value_Check_1_ok hr1) rfl rfl rfl rfl rfl rfl (.cons (.refl _) (.cons (.refl _) .nil)) rfl rfl ?_
  refine At.seg 2 [4] [] (s' := ⟨[(4, .c (.d (.bool (decide (0 ≤ r1)))))], []⟩) (c := True ∧ True ∧ True) (by kernel_rfl) ⟨trivial, trivial, trivial⟩ ?_
  refine At.done rfl ?_
  show Tri _ _ _ _
  refine Tri.keep [4] [] (s' := ⟨[(4, .c (.d (.bool (decide (0 ≤ r1)))))], []⟩) (by kernel_rfl) ?_
  refine Tri.ret ?_
  cases h
  refine ⟨_, _, rfl, ⟨trivial, trivial⟩, rfl, rfl, ?_⟩
  intro k c h
  cases h

set_option maxRecDepth 100000 in
theorem value_Check_ok {p0 : List Value} {q : Int} (h : value_Check p0 = some q) :
    Summ Try.prog 16 [.c (.d (.list 3 p0.length (fun i => encValue (p0.getD i default))))] [] (.c (.d (.int .i64 q))) [] := by
  refine Summ.intro Try.func16 rfl (by kernel_rfl) (by kernel_rfl) [] rfl ?_
  rintro ⟨P, w0, G0, V, LL, lk, N, φ0, fx⟩ rfl rfl rfl rfl
  unfold value_Check at h
  refine Tri.seqS ?_
  refine Tri.reg ?_
  refine At.seg 1 [0] [] (s' := ⟨[(0, .c (.d (.list 3 p0.length (fun i => encValue (p0.getD i default)))))], []⟩) (c := True ∧ True) (by kernel_rfl) ⟨trivial, trivial⟩ ?_
  refine At.done rfl ?_
  show Tri _ _ _ _
  refine Tri.seqS ?_
  refine Tri.seqJ (fun (a1 : Bool) => ⟨[(9, .c (.d (.bool a1)))], []⟩) h (fun a1 h => ?_) (fun j2 h => ?_)
  · show Tri _ _ ⟨[(9, .c (.d (.bool a1)))], []⟩ _
    refine Tri.condP (b := a1) rfl h (fun h => ?_) (fun h => ?_)
    · refine Tri.seqS ?_
      refine Tri.reg ?_
      refine At.seg 1 [2] [] (s' := ⟨[(2, .c (.d (.int .i64 4)))], []⟩) (c := True ∧ True) (by kernel_rfl) ⟨trivial, trivial⟩ ?_
      refine At.done rfl ?_
      show Tri _ _ _ _
      refine Tri.keep [2] [] (s' := ⟨[(2, .c (.d (.int .i64 4)))], []⟩) (by kernel_rfl) ?_
      refine Tri.ret ?_
      cases h
      refine ⟨_, _, rfl, ⟨trivial, trivial⟩, rfl, rfl, ?_⟩
      intro k c h
      cases h
    · refine Tri.skip ?_
      show Tri _ _ _ _
      refine Tri.seqS ?_
      refine Tri.reg ?_
      refine At.seg 1 [2] [] (s' := ⟨[(2, .c (.d (.int .i64 0)))], []⟩) (c := True ∧ True) (by kernel_rfl) ⟨trivial, trivial⟩ ?_
      refine At.done rfl ?_
      show Tri _ _ _ _
      refine Tri.keep [2] [] (s' := ⟨[(2, .c (.d (.int .i64 0)))], []⟩) (by kernel_rfl) ?_
      refine Tri.ret ?_
      cases h
      refine ⟨_, _, rfl, ⟨trivial, trivial⟩, rfl, rfl, ?_⟩
      intro k c h
      cases h
  · refine Tri.reg ?_
    refine At.seg 4 [0, 6] [] (s' := ⟨[(0, .c (.d (.list 3 p0.length (fun i => encValue (p0.getD i default))))), (6, .c (.d (.bool (decide (8 < (p0.length : Int))))))], []⟩) (c := True ∧ True ∧ True ∧ True ∧ True) (by kernel_rfl) ⟨trivial, trivial, trivial, trivial, trivial⟩ ?_
    refine At.case (fun b => ⟨[(0, .c (.d (.list 3 p0.length (fun i => encValue (p0.getD i default))))), (6, .c (.d (.bool b)))], []⟩) (b := (decide (8 < (p0.length : Int)))) h (fun h => ?_) (fun h => ?_)
    · refine At.seg 3 [9] [] (s' := ⟨[(9, .c (.d (.bool true)))], []⟩) (c := True ∧ True) (by kernel_rfl) ⟨trivial, trivial⟩ ?_
      refine At.done rfl ?_
      exact ⟨_, h, rfl⟩
    · refine At.seg 1 [6, 7] [] (s' := ⟨[(6, .c (.d (.bool false))), (7, .c (.d (.list 3 p0.length (fun i => encValue (p0.getD i default)))))], []⟩) (c := True ∧ True) (by kernel_rfl) ⟨trivial, trivial⟩ ?_
      obtain ⟨r3, hr3, h⟩ := bind_elim h
      refine At.callA (caps := []) (xs := [.c (.d (.list 3 p0.length (fun i => encValue (p0.getD i default)))), .c (.d (.fn 37 []))]) (slices_ContainsFuncfreshet_api_Value_freshet_api_Value_Value__value_Check_1_ok hr3) rfl rfl rfl rfl rfl rfl (.cons (.refl _) (.cons (.refl _) .nil)) rfl rfl ?_
      refine At.seg 1 [9] [] (s' := ⟨[(9, .c (.d (.bool r3)))], []⟩) (c := True ∧ True) (by kernel_rfl) ⟨trivial, trivial⟩ ?_
      refine At.done rfl ?_
      exact ⟨_, h, rfl⟩

set_option maxRecDepth 100000 in
theorem freshetref03_right_ok {p0 : Value} {q : Bool} (h : freshetref03_right p0 = some q) :
    Summ Try.prog 39 [.agg [.d (.bool p0.isText), .d (.int .i64 p0.n), .d (.str p0.s)]] [] (.c (.d (.bool q))) [] := by
  refine Summ.intro Try.func39 rfl (by kernel_rfl) (by kernel_rfl) [] rfl ?_
  rintro ⟨P, w0, G0, V, LL, lk, N, φ0, fx⟩ rfl rfl rfl rfl
  unfold freshetref03_right at h
  refine Tri.seqS ?_
  refine Tri.reg ?_
  refine At.seg 2 [1] [1] (s' := ⟨[(1, .c (.ptr 1 0))], [(1, .box [.d (.bool p0.isText), .d (.int .i64 p0.n), .d (.str p0.s)])]⟩) (c := True ∧ True ∧ True) (by kernel_rfl) ⟨trivial, trivial, trivial⟩ ?_
  refine At.done rfl ?_
  show Tri _ _ _ _
  refine Tri.seqS ?_
  refine Tri.seqS ?_
  refine Tri.reg ?_
  refine At.seg 2 [1, 4] [1] (s' := ⟨[(1, .c (.ptr 1 0)), (4, .c (.d (.bool p0.isText)))], [(1, .box [.d (.bool p0.isText), .d (.int .i64 p0.n), .d (.str p0.s)])]⟩) (c := True ∧ True ∧ True) (by kernel_rfl) ⟨trivial, trivial, trivial⟩ ?_
  refine At.done rfl ?_
  show Tri _ _ _ _
  refine Tri.condP (b := p0.isText) rfl h (fun h => ?_) (fun h => ?_)
  · refine Tri.seqJ (fun (a1 : Bool) => ⟨[(2, .c (.d (.bool a1)))], []⟩) h (fun a1 h => ?_) (fun j2 h => ?_)
    · show Tri _ _ ⟨[(2, .c (.d (.bool a1)))], []⟩ _
      refine Tri.keep [2] [] (s' := ⟨[(2, .c (.d (.bool a1)))], []⟩) (by kernel_rfl) ?_
      refine Tri.ret ?_
      cases h
      refine ⟨_, _, rfl, ⟨trivial, trivial⟩, rfl, rfl, ?_⟩
      intro k c h
      cases h
    · refine Tri.reg ?_
      refine At.seg 4 [1, 8] [1] (s' := ⟨[(1, .c (.ptr 1 0)), (8, .c (.d (.bool (decide (p0.n = 0)))))], [(1, .box [.d (.bool p0.isText), .d (.int .i64 p0.n), .d (.str p0.s)])]⟩) (c := True ∧ True ∧ True ∧ True ∧ True) (by kernel_rfl) ⟨trivial, trivial, trivial, trivial, trivial⟩ ?_
      refine At.case (fun b => ⟨[(1, .c (.ptr 1 0)), (8, .c (.d (.bool b)))], [(1, .box [.d (.bool p0.isText), .d (.int .i64 p0.n), .d (.str p0.s)])]⟩) (b := (decide (p0.n = 0))) h (fun h => ?_) (fun h => ?_)
      · refine At.seg 6 [2] [] (s' := ⟨[(2, .c (.d (.bool (decide ((p0.s.size : Int) ≤ 64)))))], []⟩) (c := True ∧ True ∧ True ∧ True ∧ True ∧ True ∧ True) (by kernel_rfl) ⟨trivial, trivial, trivial, trivial, trivial, trivial, trivial⟩ ?_
        refine At.done rfl ?_
        exact ⟨_, h, rfl⟩
      · refine At.seg 6 [2] [] (s' := ⟨[(2, .c (.d (.bool false)))], []⟩) (c := True ∧ True ∧ True) (by kernel_rfl) ⟨trivial, trivial, trivial⟩ ?_
        refine At.done rfl ?_
        exact ⟨_, h, rfl⟩
  · refine Tri.skip ?_
    show Tri _ _ _ _
    refine Tri.seqS ?_
    refine Tri.reg ?_
    refine At.seg 4 [2] [] (s' := ⟨[(2, .c (.d (.bool (strEq p0.s (bs [])))))], []⟩) (c := True ∧ True ∧ True ∧ True ∧ True) (by kernel_rfl) ⟨trivial, trivial, trivial, trivial, trivial⟩ ?_
    refine At.done rfl ?_
    show Tri _ _ _ _
    refine Tri.keep [2] [] (s' := ⟨[(2, .c (.d (.bool (strEq p0.s (bs [])))))], []⟩) (by kernel_rfl) ?_
    refine Tri.ret ?_
    cases h
    refine ⟨_, _, rfl, ⟨trivial, trivial⟩, rfl, rfl, ?_⟩
    intro k c h
    cases h

set_option maxRecDepth 100000 in
theorem freshetref03_Check_ok {p0 : List Value} {q : Int} (h : freshetref03_Check p0 = some q) :
    Summ Try.prog 17 [.c (.d (.list 3 p0.length (fun i => encValue (p0.getD i default))))] [] (.c (.d (.int .i64 q))) [] := by
  refine Summ.intro Try.func17 rfl (by kernel_rfl) (by kernel_rfl) [] rfl ?_
  rintro ⟨P, w0, G0, V, LL, lk, N, φ0, fx⟩ rfl rfl rfl rfl
  unfold freshetref03_Check at h
  refine Tri.seqS ?_
  refine Tri.reg ?_
  refine At.seg 1 [0] [] (s' := ⟨[(0, .c (.d (.list 3 p0.length (fun i => encValue (p0.getD i default)))))], []⟩) (c := True ∧ True) (by kernel_rfl) ⟨trivial, trivial⟩ ?_
  refine At.done rfl ?_
  show Tri _ _ _ _
  refine Tri.seqS ?_
  refine Tri.seqS ?_
  refine Tri.reg ?_
  refine At.seg 3 [0, 5, 6, 7] [] (s' := ⟨[(0, .c (.d (.list 3 p0.length (fun i => encValue (p0.getD i default))))), (5, .c (.d (.list 3 p0.length (fun i => encValue (p0.getD i default))))), (6, .c (.d (.int .i64 (p0.length : Int)))), (7, .c (.d (.int .i64 0)))], []⟩) (c := True ∧ True ∧ True ∧ True) (by kernel_rfl) ⟨trivial, trivial, trivial, trivial⟩ ?_
  refine At.done rfl ?_
  show Tri _ _ _ _
  refine Tri.lenOf (t := 5) rfl fun hlena2 => ?_
  refine Tri.keep [7, 0, 5, 6] [] (s' := idx 7 0 ⟨[(0, .c (.d (.list 3 p0.length (fun i => encValue (p0.getD i default))))), (5, .c (.d (.list 3 p0.length (fun i => encValue (p0.getD i default))))), (6, .c (.d (.int .i64 (p0.length : Int))))], []⟩) (by kernel_rfl) ?_
  refine Tri.range (n := p0.length) (st0 := ()) (fun (x : Int) s => RetAt Try.prog Try.f17 (.c (.d (.int .i64 x))) [] s) (fun (a2 : Unit) => ⟨[(0, .c (.d (.list 3 p0.length (fun i => encValue (p0.getD i default))))), (5, .c (.d (.list 3 p0.length (fun i => encValue (p0.getD i default))))), (6, .c (.d (.int .i64 (p0.length : Int))))], []⟩) (fun (a2 : Unit) => ⟨[(0, .c (.d (.list 3 p0.length (fun i => encValue (p0.getD i default))))), (5, .c (.d (.list 3 p0.length (fun i => encValue (p0.getD i default))))), (6, .c (.d (.int .i64 (p0.length : Int))))], []⟩) (fun i => decide ((i : Int) < (p0.length : Int))) [8, 7, 0, 5, 6] [] [0, 5, 6] [] [7, 0, 5, 6] [] h hlena2 rfl ?_ ?_ ?_ ?_ ?_ ?_ ?_ ?_
  · exact fun i a => ⟨True ∧ True, by kernel_rfl, ⟨trivial, trivial⟩⟩
  · exact fun i hi => decide_eq_true (by omega)
  · exact decide_eq_false (by omega)
  · exact fun a => by kernel_rfl
  · exact fun i a => ⟨True ∧ True ∧ True, by kernel_rfl, ⟨trivial, trivial, trivial⟩⟩
  · intro i1 a2 c hii1 h
    refine Tri.seqS ?_
    refine Tri.reg ?_
    refine At.seg 4 [0, 4, 5, 6, 7] [4] (s' := ⟨[(0, .c (.d (.list 3 p0.length (fun i => encValue (p0.getD i default))))), (4, .c (.ptr 4 0)), (5, .c (.d (.list 3 p0.length (fun i => encValue (p0.getD i default))))), (6, .c (.d (.int .i64 (p0.length : Int)))), (7, .c (.d (.int .i64 ((i1 : Nat) : Int))))], [(4, .box [.d (.bool ((p0.getD i1 default).isText)), .d (.int .i64 ((p0.getD i1 default).n)), .d (.str ((p0.getD i1 default).s))])]⟩) (c := ((0 : Int) ≤ ((i1 : Nat) : Int) ∧ ((i1 : Nat) : Int) < (p0.length : Int)) ∧ True ∧ True ∧ True ∧ True) (by kernel_rfl) ⟨⟨by omega, by omega⟩, trivial, trivial, trivial, trivial⟩ ?_
    refine At.done rfl ?_
    show Tri _ _ _ _
    refine Tri.seqS ?_
    refine Tri.reg ?_
    refine At.seg 1 [0, 5, 6, 7, 11] [] (s' := ⟨[(0, .c (.d (.list 3 p0.length (fun i => encValue (p0.getD i default))))), (5, .c (.d (.list 3 p0.length (fun i => encValue (p0.getD i default))))), (6, .c (.d (.int .i64 (p0.length : Int)))), (7, .c (.d (.int .i64 ((i1 : Nat) : Int)))), (11, .agg [.d (.bool ((p0.getD i1 default).isText)), .d (.int .i64 ((p0.getD i1 default).n)), .d (.str ((p0.getD i1 default).s))])], []⟩) (c := True ∧ True) (by kernel_rfl) ⟨trivial, trivial⟩ ?_
    obtain ⟨r4, hr4, h⟩ := bind_elim h
    refine At.callA (caps := []) (xs := [.agg [.d (.bool ((p0.getD i1 default).isText)), .d (.int .i64 ((p0.getD i1 default).n)), .d (.str ((p0.getD i1 default).s))]]) (freshetref03_right_ok hr4) rfl rfl rfl rfl rfl rfl (.cons (.refl _) .nil) rfl rfl ?_
    refine At.seg 1 [0, 5, 6, 7, 13] [] (s' := ⟨[(0, .c (.d (.list 3 p0.length (fun i => encValue (p0.getD i default))))), (5, .c (.d (.list 3 p0.length (fun i => encValue (p0.getD i default))))), (6, .c (.d (.int .i64 (p0.length : Int)))), (7, .c (.d (.int .i64 ((i1 : Nat) : Int)))), (13, .c (.d (.bool (!r4))))], []⟩) (c := True ∧ True) (by kernel_rfl) ⟨trivial, trivial⟩ ?_
    refine At.done rfl ?_
    show Tri _ _ _ _
    refine Tri.condP (b := (!r4)) rfl h (fun h => ?_) (fun h => ?_)
    · refine Tri.seqS ?_
      refine Tri.reg ?_
      refine At.seg 1 [2] [] (s' := ⟨[(2, .c (.d (.int .i64 4)))], []⟩) (c := True ∧ True) (by kernel_rfl) ⟨trivial, trivial⟩ ?_
      refine At.done rfl ?_
      show Tri _ _ _ _
      refine Tri.keep [2] [] (s' := ⟨[(2, .c (.d (.int .i64 4)))], []⟩) (by kernel_rfl) ?_
      refine Tri.ret ?_
      cases h
      refine ⟨_, _, rfl, ⟨trivial, trivial⟩, rfl, rfl, ?_⟩
      intro k c h
      cases h
    · refine Tri.keep [7, 0, 5, 6] [] (s' := ⟨[(7, .c (.d (.int .i64 ((i1 : Nat) : Int)))), (0, .c (.d (.list 3 p0.length (fun i => encValue (p0.getD i default))))), (5, .c (.d (.list 3 p0.length (fun i => encValue (p0.getD i default))))), (6, .c (.d (.int .i64 (p0.length : Int))))], []⟩) (by kernel_rfl) ?_
      refine Tri.skip ?_
      cases h
      exact rfl
  · intro a3 h
    show Tri _ _ _ _
    refine Tri.seqS ?_
    refine Tri.seqS ?_
    refine Tri.reg ?_
    refine At.seg 3 [17] [] (s' := ⟨[(17, .c (.d (.bool (decide (8 < (p0.length : Int))))))], []⟩) (c := True ∧ True ∧ True ∧ True) (by kernel_rfl) ⟨trivial, trivial, trivial, trivial⟩ ?_
    refine At.done rfl ?_
    show Tri _ _ _ _
    refine Tri.condP (b := (decide (8 < (p0.length : Int)))) rfl h (fun h => ?_) (fun h => ?_)
    · refine Tri.seqS ?_
      refine Tri.reg ?_
      refine At.seg 1 [2] [] (s' := ⟨[(2, .c (.d (.int .i64 4)))], []⟩) (c := True ∧ True) (by kernel_rfl) ⟨trivial, trivial⟩ ?_
      refine At.done rfl ?_
      show Tri _ _ _ _
      refine Tri.keep [2] [] (s' := ⟨[(2, .c (.d (.int .i64 4)))], []⟩) (by kernel_rfl) ?_
      refine Tri.ret ?_
      cases h
      refine ⟨_, _, rfl, ⟨trivial, trivial⟩, rfl, rfl, ?_⟩
      intro k c h
      cases h
    · refine Tri.skip ?_
      show Tri _ _ _ _
      refine Tri.seqS ?_
      refine Tri.reg ?_
      refine At.seg 1 [2] [] (s' := ⟨[(2, .c (.d (.int .i64 0)))], []⟩) (c := True ∧ True) (by kernel_rfl) ⟨trivial, trivial⟩ ?_
      refine At.done rfl ?_
      show Tri _ _ _ _
      refine Tri.keep [2] [] (s' := ⟨[(2, .c (.d (.int .i64 0)))], []⟩) (by kernel_rfl) ?_
      refine Tri.ret ?_
      cases h
      refine ⟨_, _, rfl, ⟨trivial, trivial⟩, rfl, rfl, ?_⟩
      intro k c h
      cases h
  · exact fun x s hx hr => by cases hx; exact hr

set_option maxRecDepth 100000 in
theorem freshetlaw03_ValueOrders_ok {fuel : Nat} {p0 : Value} {p1 : Value} {p2 : List Value} {p3 : List Value} {q : Bool} (h : freshetlaw03_ValueOrders fuel p0 p1 p2 p3 = some q) :
    Summ Try.prog 4 [.agg [.d (.bool p0.isText), .d (.int .i64 p0.n), .d (.str p0.s)], .agg [.d (.bool p1.isText), .d (.int .i64 p1.n), .d (.str p1.s)], .c (.d (.list 3 p2.length (fun i => encValue (p2.getD i default)))), .c (.d (.list 3 p3.length (fun i => encValue (p3.getD i default))))] [] (.c (.d (.bool q))) [] := by
  refine Summ.intro Try.func4 rfl (by kernel_rfl) (by kernel_rfl) [] rfl ?_
  rintro ⟨P, w0, G0, V, LL, lk, N, φ0, fx⟩ rfl rfl rfl rfl
  unfold freshetlaw03_ValueOrders at h
  refine Tri.seqS ?_
  refine Tri.reg ?_
  refine At.seg 3 [2, 3, 4, 5] [4, 5] (s' := ⟨[(2, .c (.d (.list 3 p2.length (fun i => encValue (p2.getD i default))))), (3, .c (.d (.list 3 p3.length (fun i => encValue (p3.getD i default))))), (4, .c (.ptr 4 0)), (5, .c (.ptr 5 0))], [(4, .box [.d (.bool p0.isText), .d (.int .i64 p0.n), .d (.str p0.s)]), (5, .box [.d (.bool p1.isText), .d (.int .i64 p1.n), .d (.str p1.s)])]⟩) (c := True ∧ True ∧ True ∧ True) (by kernel_rfl) ⟨trivial, trivial, trivial, trivial⟩ ?_
  refine At.done rfl ?_
  show Tri _ _ _ _
  refine Tri.seqJ (fun (a1 : Bool) => ⟨[(8, .c (.d (.bool a1)))], []⟩) h (fun a1 h => ?_) (fun j2 h => ?_)
  · show Tri _ _ ⟨[(8, .c (.d (.bool a1)))], []⟩ _
    refine Tri.keep [8] [] (s' := ⟨[(8, .c (.d (.bool a1)))], []⟩) (by kernel_rfl) ?_
    refine Tri.ret ?_
    cases h
    refine ⟨_, _, rfl, ⟨trivial, trivial⟩, rfl, rfl, ?_⟩
    intro k c h
    cases h
  · obtain ⟨r3, hr3, h⟩ := bind_elim h
    rcases bf_cases h with ⟨hp4, h⟩ | ⟨hp4, h⟩
    · obtain ⟨r5, hr5, h⟩ := bind_elim h
      obtain ⟨r6, hr6, h⟩ := bind_elim h
      rcases bf_cases h with ⟨hp7, h⟩ | ⟨hp7, h⟩
      · obtain ⟨r8, hr8, h⟩ := bind_elim h
        obtain ⟨r9, hr9, h⟩ := bind_elim h
        rcases bf_cases h with ⟨hp10, h⟩ | ⟨hp10, h⟩
        · obtain ⟨r11, hr11, h⟩ := bind_elim h
          obtain ⟨r12, hr12, h⟩ := bind_elim h
          refine Tri.drawn (specs := [⟨⟨[], []⟩, ⟨[(9, .c (.d (.bool r3)))], []⟩, [], [], []⟩, ⟨⟨[(9, .c (.d (.bool r3)))], []⟩, ⟨[(10, .c (.d (.bool true)))], []⟩, [], [], []⟩, ⟨⟨[(4, .c (.ptr 4 0)), (10, .c (.d (.bool true)))], [(4, .box [.d (.bool p0.isText), .d (.int .i64 p0.n), .d (.str p0.s)])]⟩, ⟨[(11, .agg [.d (.bool p0.isText), .d (.int .i64 p0.n), .d (.str p0.s)])], []⟩, [], [], []⟩, ⟨⟨[(5, .c (.ptr 5 0)), (10, .c (.d (.bool true)))], [(5, .box [.d (.bool p1.isText), .d (.int .i64 p1.n), .d (.str p1.s)])]⟩, ⟨[(12, .agg [.d (.bool p1.isText), .d (.int .i64 p1.n), .d (.str p1.s)])], []⟩, [], [], []⟩, ⟨⟨[(10, .c (.d (.bool true))), (11, .agg [.d (.bool p0.isText), .d (.int .i64 p0.n), .d (.str p0.s)]), (12, .agg [.d (.bool p1.isText), .d (.int .i64 p1.n), .d (.str p1.s)])], []⟩, ⟨[(13, .c (.d (.int .i64 r5)))], []⟩, [], [], []⟩, ⟨⟨[(4, .c (.ptr 4 0)), (10, .c (.d (.bool true)))], [(4, .box [.d (.bool p0.isText), .d (.int .i64 p0.n), .d (.str p0.s)])]⟩, ⟨[(14, .agg [.d (.bool p0.isText), .d (.int .i64 p0.n), .d (.str p0.s)])], []⟩, [], [], []⟩, ⟨⟨[(5, .c (.ptr 5 0)), (10, .c (.d (.bool true)))], [(5, .box [.d (.bool p1.isText), .d (.int .i64 p1.n), .d (.str p1.s)])]⟩, ⟨[(15, .agg [.d (.bool p1.isText), .d (.int .i64 p1.n), .d (.str p1.s)])], []⟩, [], [], []⟩, ⟨⟨[(10, .c (.d (.bool true))), (14, .agg [.d (.bool p0.isText), .d (.int .i64 p0.n), .d (.str p0.s)]), (15, .agg [.d (.bool p1.isText), .d (.int .i64 p1.n), .d (.str p1.s)])], []⟩, ⟨[(16, .c (.d (.int .i64 r6)))], []⟩, [], [], []⟩, ⟨⟨[(10, .c (.d (.bool true))), (13, .c (.d (.int .i64 r5))), (16, .c (.d (.int .i64 r6)))], []⟩, ⟨[(17, .c (.d (.bool (decide (r5 = r6)))))], []⟩, [], [], []⟩, ⟨⟨[(10, .c (.d (.bool true))), (17, .c (.d (.bool (decide (r5 = r6)))))], []⟩, ⟨[(18, .c (.d (.bool (decide (r5 = r6)))))], []⟩, [], [], []⟩, ⟨⟨[(18, .c (.d (.bool (decide (r5 = r6)))))], []⟩, ⟨[(19, .c (.d (.bool true)))], []⟩, [], [], []⟩, ⟨⟨[(2, .c (.d (.list 3 p2.length (fun i => encValue (p2.getD i default))))), (19, .c (.d (.bool true)))], []⟩, ⟨[(20, .c (.d (.list 3 p2.length (fun i => encValue (p2.getD i default)))))], []⟩, [], [], []⟩, ⟨⟨[(3, .c (.d (.list 3 p3.length (fun i => encValue (p3.getD i default))))), (19, .c (.d (.bool true)))], []⟩, ⟨[(21, .c (.d (.list 3 p3.length (fun i => encValue (p3.getD i default)))))], []⟩, [], [], []⟩, ⟨⟨[(19, .c (.d (.bool true))), (20, .c (.d (.list 3 p2.length (fun i => encValue (p2.getD i default))))), (21, .c (.d (.list 3 p3.length (fun i => encValue (p3.getD i default)))))], []⟩, ⟨[(22, .c (.d (.int .i64 r8)))], []⟩, [], [], []⟩, ⟨⟨[(2, .c (.d (.list 3 p2.length (fun i => encValue (p2.getD i default))))), (19, .c (.d (.bool true)))], []⟩, ⟨[(23, .c (.d (.list 3 p2.length (fun i => encValue (p2.getD i default)))))], []⟩, [], [], []⟩, ⟨⟨[(3, .c (.d (.list 3 p3.length (fun i => encValue (p3.getD i default))))), (19, .c (.d (.bool true)))], []⟩, ⟨[(24, .c (.d (.list 3 p3.length (fun i => encValue (p3.getD i default)))))], []⟩, [], [], []⟩, ⟨⟨[(19, .c (.d (.bool true))), (23, .c (.d (.list 3 p2.length (fun i => encValue (p2.getD i default))))), (24, .c (.d (.list 3 p3.length (fun i => encValue (p3.getD i default)))))], []⟩, ⟨[(25, .c (.d (.int .i64 r9)))], []⟩, [], [], []⟩, ⟨⟨[(19, .c (.d (.bool true))), (22, .c (.d (.int .i64 r8))), (25, .c (.d (.int .i64 r9)))], []⟩, ⟨[(26, .c (.d (.bool (decide (r8 = r9)))))], []⟩, [], [], []⟩, ⟨⟨[(19, .c (.d (.bool true))), (26, .c (.d (.bool (decide (r8 = r9)))))], []⟩, ⟨[(27, .c (.d (.bool (decide (r8 = r9)))))], []⟩, [], [], []⟩, ⟨⟨[(27, .c (.d (.bool (decide (r8 = r9)))))], []⟩, ⟨[(28, .c (.d (.bool true)))], []⟩, [], [], []⟩, ⟨⟨[(2, .c (.d (.list 3 p2.length (fun i => encValue (p2.getD i default))))), (28, .c (.d (.bool true)))], []⟩, ⟨[(29, .c (.d (.list 3 p2.length (fun i => encValue (p2.getD i default)))))], []⟩, [], [], []⟩, ⟨⟨[(28, .c (.d (.bool true))), (29, .c (.d (.list 3 p2.length (fun i => encValue (p2.getD i default)))))], []⟩, ⟨[(30, .c (.d (.int .i64 r11)))], []⟩, [], [], []⟩, ⟨⟨[(2, .c (.d (.list 3 p2.length (fun i => encValue (p2.getD i default))))), (28, .c (.d (.bool true)))], []⟩, ⟨[(31, .c (.d (.list 3 p2.length (fun i => encValue (p2.getD i default)))))], []⟩, [], [], []⟩, ⟨⟨[(28, .c (.d (.bool true))), (31, .c (.d (.list 3 p2.length (fun i => encValue (p2.getD i default)))))], []⟩, ⟨[(32, .c (.d (.int .i64 r12)))], []⟩, [], [], []⟩, ⟨⟨[(28, .c (.d (.bool true))), (30, .c (.d (.int .i64 r11))), (32, .c (.d (.int .i64 r12)))], []⟩, ⟨[(33, .c (.d (.bool (decide (r11 = r12)))))], []⟩, [], [], []⟩, ⟨⟨[(28, .c (.d (.bool true))), (33, .c (.d (.bool (decide (r11 = r12)))))], []⟩, ⟨[(34, .c (.d (.bool (decide (r11 = r12)))))], []⟩, [], [], []⟩, ⟨⟨[(34, .c (.d (.bool (decide (r11 = r12)))))], []⟩, ⟨[(8, .c (.d (.bool (decide (r11 = r12)))))], []⟩, [], [], []⟩]) (bef := [[], [0], [0, 1], [0, 1], [0, 1, 2, 3], [0, 1], [0, 1], [0, 1, 2, 3, 4, 5, 6], [0, 1, 2, 3, 4, 5, 6, 7], [0, 1, 2, 3, 4, 5, 6, 7, 8], [0, 1, 2, 3, 4, 5, 6, 7, 8, 9], [0, 1, 2, 3, 4, 5, 6, 7, 8, 9, 10], [0, 1, 2, 3, 4, 5, 6, 7, 8, 9, 10], [0, 1, 2, 3, 4, 5, 6, 7, 8, 9, 10, 11, 12], [0, 1, 2, 3, 4, 5, 6, 7, 8, 9, 10], [0, 1, 2, 3, 4, 5, 6, 7, 8, 9, 10], [0, 1, 2, 3, 4, 5, 6, 7, 8, 9, 10, 11, 12, 13, 14, 15], [0, 1, 2, 3, 4, 5, 6, 7, 8, 9, 10, 11, 12, 13, 14, 15, 16], [0, 1, 2, 3, 4, 5, 6, 7, 8, 9, 10, 11, 12, 13, 14, 15, 16, 17], [0, 1, 2, 3, 4, 5, 6, 7, 8, 9, 10, 11, 12, 13, 14, 15, 16, 17, 18], [0, 1, 2, 3, 4, 5, 6, 7, 8, 9, 10, 11, 12, 13, 14, 15, 16, 17, 18, 19], [0, 1, 2, 3, 4, 5, 6, 7, 8, 9, 10, 11, 12, 13, 14, 15, 16, 17, 18, 19, 20], [0, 1, 2, 3, 4, 5, 6, 7, 8, 9, 10, 11, 12, 13, 14, 15, 16, 17, 18, 19], [0, 1, 2, 3, 4, 5, 6, 7, 8, 9, 10, 11, 12, 13, 14, 15, 16, 17, 18, 19, 20, 21, 22], [0, 1, 2, 3, 4, 5, 6, 7, 8, 9, 10, 11, 12, 13, 14, 15, 16, 17, 18, 19, 20, 21, 22, 23], [0, 1, 2, 3, 4, 5, 6, 7, 8, 9, 10, 11, 12, 13, 14, 15, 16, 17, 18, 19, 20, 21, 22, 23, 24], [0, 1, 2, 3, 4, 5, 6, 7, 8, 9, 10, 11, 12, 13, 14, 15, 16, 17, 18, 19, 20, 21, 22, 23, 24, 25]]) (tk := [8]) (sk := []) (s' := ⟨[(8, .c (.d (.bool (decide (r11 = r12)))))], []⟩) (by kernel_rfl) (by kernel_rfl) (by kernel_rfl) ⟨?_, ?_, ?_, ?_, ?_, ?_, ?_, ?_, ?_, ?_, ?_, ?_, ?_, ?_, ?_, ?_, ?_, ?_, ?_, ?_, ?_, ?_, ?_, ?_, ?_, ?_, ?_, trivial⟩ (by kernel_rfl) ?_
          · exact DOk.callA (caps := []) (xs := []) (freshetlaw03_orders_ok hr3) rfl (fun r => by kernel_rfl) rfl (fun r => by kernel_rfl) (fun r => by kernel_rfl) (fun r => .nil) rfl rfl (fun r => rfl)
          · exact DOk.stepP (fun b => .val (.c (.d (.bool b))) (True)) (p := r3) hp4 (fun r => by kernel_rfl) (fun r => by kernel_rfl) trivial (by kernel_rfl) (by kernel_rfl) (fun r => rfl)
          · exact DOk.step (.val (.agg [.d (.bool p0.isText), .d (.int .i64 p0.n), .d (.str p0.s)]) (True)) (fun r => by kernel_rfl) (fun r => by kernel_rfl) trivial (by kernel_rfl) (by kernel_rfl) (fun r => rfl)
          · exact DOk.step (.val (.agg [.d (.bool p1.isText), .d (.int .i64 p1.n), .d (.str p1.s)]) (True)) (fun r => by kernel_rfl) (fun r => by kernel_rfl) trivial (by kernel_rfl) (by kernel_rfl) (fun r => rfl)
          · exact DOk.callA (caps := []) (xs := [.agg [.d (.bool p0.isText), .d (.int .i64 p0.n), .d (.str p0.s)], .agg [.d (.bool p1.isText), .d (.int .i64 p1.n), .d (.str p1.s)]]) (value_Compare_ok hr5) rfl (fun r => by kernel_rfl) rfl (fun r => by kernel_rfl) (fun r => by kernel_rfl) (fun r => (.cons (.refl _) (.cons (.refl _) .nil))) rfl rfl (fun r => rfl)
          · exact DOk.step (.val (.agg [.d (.bool p0.isText), .d (.int .i64 p0.n), .d (.str p0.s)]) (True)) (fun r => by kernel_rfl) (fun r => by kernel_rfl) trivial (by kernel_rfl) (by kernel_rfl) (fun r => rfl)
          · exact DOk.step (.val (.agg [.d (.bool p1.isText), .d (.int .i64 p1.n), .d (.str p1.s)]) (True)) (fun r => by kernel_rfl) (fun r => by kernel_rfl) trivial (by kernel_rfl) (by kernel_rfl) (fun r => rfl)
          · exact DOk.callA (caps := []) (xs := [.agg [.d (.bool p0.isText), .d (.int .i64 p0.n), .d (.str p0.s)], .agg [.d (.bool p1.isText), .d (.int .i64 p1.n), .d (.str p1.s)]]) (freshetref03_Compare_ok hr6) rfl (fun r => by kernel_rfl) rfl (fun r => by kernel_rfl) (fun r => by kernel_rfl) (fun r => (.cons (.refl _) (.cons (.refl _) .nil))) rfl rfl (fun r => rfl)
          · exact DOk.step (.val (.c (.d (.bool (decide (r5 = r6))))) (True)) (fun r => by kernel_rfl) (fun r => by kernel_rfl) trivial (by kernel_rfl) (by kernel_rfl) (fun r => rfl)
          · exact DOk.step (.val (.c (.d (.bool (decide (r5 = r6))))) (True)) (fun r => by kernel_rfl) (fun r => by kernel_rfl) trivial (by kernel_rfl) (by kernel_rfl) (fun r => rfl)
          · exact DOk.stepP (fun b => .val (.c (.d (.bool b))) (True)) (p := (decide (r5 = r6))) hp7 (fun r => by kernel_rfl) (fun r => by kernel_rfl) trivial (by kernel_rfl) (by kernel_rfl) (fun r => rfl)
          · exact DOk.step (.val (.c (.d (.list 3 p2.length (fun i => encValue (p2.getD i default))))) (True)) (fun r => by kernel_rfl) (fun r => by kernel_rfl) trivial (by kernel_rfl) (by kernel_rfl) (fun r => rfl)
          · exact DOk.step (.val (.c (.d (.list 3 p3.length (fun i => encValue (p3.getD i default))))) (True)) (fun r => by kernel_rfl) (fun r => by kernel_rfl) trivial (by kernel_rfl) (by kernel_rfl) (fun r => rfl)
          · exact DOk.callA (caps := []) (xs := [.c (.d (.list 3 p2.length (fun i => encValue (p2.getD i default)))), .c (.d (.list 3 p3.length (fun i => encValue (p3.getD i default))))]) (value_Rows_ok hr8) rfl (fun r => by kernel_rfl) rfl (fun r => by kernel_rfl) (fun r => by kernel_rfl) (fun r => (.cons (.refl _) (.cons (.refl _) .nil))) rfl rfl (fun r => rfl)
          · exact DOk.step (.val (.c (.d (.list 3 p2.length (fun i => encValue (p2.getD i default))))) (True)) (fun r => by kernel_rfl) (fun r => by kernel_rfl) trivial (by kernel_rfl) (by kernel_rfl) (fun r => rfl)
          · exact DOk.step (.val (.c (.d (.list 3 p3.length (fun i => encValue (p3.getD i default))))) (True)) (fun r => by kernel_rfl) (fun r => by kernel_rfl) trivial (by kernel_rfl) (by kernel_rfl) (fun r => rfl)
          · exact DOk.callA (caps := []) (xs := [.c (.d (.list 3 p2.length (fun i => encValue (p2.getD i default)))), .c (.d (.list 3 p3.length (fun i => encValue (p3.getD i default))))]) (freshetref03_Rows_ok hr9) rfl (fun r => by kernel_rfl) rfl (fun r => by kernel_rfl) (fun r => by kernel_rfl) (fun r => (.cons (.refl _) (.cons (.refl _) .nil))) rfl rfl (fun r => rfl)
          · exact DOk.step (.val (.c (.d (.bool (decide (r8 = r9))))) (True)) (fun r => by kernel_rfl) (fun r => by kernel_rfl) trivial (by kernel_rfl) (by kernel_rfl) (fun r => rfl)
          · exact DOk.step (.val (.c (.d (.bool (decide (r8 = r9))))) (True)) (fun r => by kernel_rfl) (fun r => by kernel_rfl) trivial (by kernel_rfl) (by kernel_rfl) (fun r => rfl)
          · exact DOk.stepP (fun b => .val (.c (.d (.bool b))) (True)) (p := (decide (r8 = r9))) hp10 (fun r => by kernel_rfl) (fun r => by kernel_rfl) trivial (by kernel_rfl) (by kernel_rfl) (fun r => rfl)
          · exact DOk.step (.val (.c (.d (.list 3 p2.length (fun i => encValue (p2.getD i default))))) (True)) (fun r => by kernel_rfl) (fun r => by kernel_rfl) trivial (by kernel_rfl) (by kernel_rfl) (fun r => rfl)
          · exact DOk.callA (caps := []) (xs := [.c (.d (.list 3 p2.length (fun i => encValue (p2.getD i default))))]) (value_Check_ok hr11) rfl (fun r => by kernel_rfl) rfl (fun r => by kernel_rfl) (fun r => by kernel_rfl) (fun r => (.cons (.refl _) .nil)) rfl rfl (fun r => rfl)
          · exact DOk.step (.val (.c (.d (.list 3 p2.length (fun i => encValue (p2.getD i default))))) (True)) (fun r => by kernel_rfl) (fun r => by kernel_rfl) trivial (by kernel_rfl) (by kernel_rfl) (fun r => rfl)
          · exact DOk.callA (caps := []) (xs := [.c (.d (.list 3 p2.length (fun i => encValue (p2.getD i default))))]) (freshetref03_Check_ok hr12) rfl (fun r => by kernel_rfl) rfl (fun r => by kernel_rfl) (fun r => by kernel_rfl) (fun r => (.cons (.refl _) .nil)) rfl rfl (fun r => rfl)
          · exact DOk.step (.val (.c (.d (.bool (decide (r11 = r12))))) (True)) (fun r => by kernel_rfl) (fun r => by kernel_rfl) trivial (by kernel_rfl) (by kernel_rfl) (fun r => rfl)
          · exact DOk.step (.val (.c (.d (.bool (decide (r11 = r12))))) (True)) (fun r => by kernel_rfl) (fun r => by kernel_rfl) trivial (by kernel_rfl) (by kernel_rfl) (fun r => rfl)
          · exact DOk.step (.val (.c (.d (.bool (decide (r11 = r12))))) (True)) (fun r => by kernel_rfl) (fun r => by kernel_rfl) trivial (by kernel_rfl) (by kernel_rfl) (fun r => rfl)
          exact ⟨_, h, rfl⟩
        · refine Tri.drawn (specs := [⟨⟨[], []⟩, ⟨[(9, .c (.d (.bool r3)))], []⟩, [], [], []⟩, ⟨⟨[(9, .c (.d (.bool r3)))], []⟩, ⟨[(10, .c (.d (.bool true)))], []⟩, [], [], []⟩, ⟨⟨[(4, .c (.ptr 4 0)), (10, .c (.d (.bool true)))], [(4, .box [.d (.bool p0.isText), .d (.int .i64 p0.n), .d (.str p0.s)])]⟩, ⟨[(11, .agg [.d (.bool p0.isText), .d (.int .i64 p0.n), .d (.str p0.s)])], []⟩, [], [], []⟩, ⟨⟨[(5, .c (.ptr 5 0)), (10, .c (.d (.bool true)))], [(5, .box [.d (.bool p1.isText), .d (.int .i64 p1.n), .d (.str p1.s)])]⟩, ⟨[(12, .agg [.d (.bool p1.isText), .d (.int .i64 p1.n), .d (.str p1.s)])], []⟩, [], [], []⟩, ⟨⟨[(10, .c (.d (.bool true))), (11, .agg [.d (.bool p0.isText), .d (.int .i64 p0.n), .d (.str p0.s)]), (12, .agg [.d (.bool p1.isText), .d (.int .i64 p1.n), .d (.str p1.s)])], []⟩, ⟨[(13, .c (.d (.int .i64 r5)))], []⟩, [], [], []⟩, ⟨⟨[(4, .c (.ptr 4 0)), (10, .c (.d (.bool true)))], [(4, .box [.d (.bool p0.isText), .d (.int .i64 p0.n), .d (.str p0.s)])]⟩, ⟨[(14, .agg [.d (.bool p0.isText), .d (.int .i64 p0.n), .d (.str p0.s)])], []⟩, [], [], []⟩, ⟨⟨[(5, .c (.ptr 5 0)), (10, .c (.d (.bool true)))], [(5, .box [.d (.bool p1.isText), .d (.int .i64 p1.n), .d (.str p1.s)])]⟩, ⟨[(15, .agg [.d (.bool p1.isText), .d (.int .i64 p1.n), .d (.str p1.s)])], []⟩, [], [], []⟩, ⟨⟨[(10, .c (.d (.bool true))), (14, .agg [.d (.bool p0.isText), .d (.int .i64 p0.n), .d (.str p0.s)]), (15, .agg [.d (.bool p1.isText), .d (.int .i64 p1.n), .d (.str p1.s)])], []⟩, ⟨[(16, .c (.d (.int .i64 r6)))], []⟩, [], [], []⟩, ⟨⟨[(10, .c (.d (.bool true))), (13, .c (.d (.int .i64 r5))), (16, .c (.d (.int .i64 r6)))], []⟩, ⟨[(17, .c (.d (.bool (decide (r5 = r6)))))], []⟩, [], [], []⟩, ⟨⟨[(10, .c (.d (.bool true))), (17, .c (.d (.bool (decide (r5 = r6)))))], []⟩, ⟨[(18, .c (.d (.bool (decide (r5 = r6)))))], []⟩, [], [], []⟩, ⟨⟨[(18, .c (.d (.bool (decide (r5 = r6)))))], []⟩, ⟨[(19, .c (.d (.bool true)))], []⟩, [], [], []⟩, ⟨⟨[(2, .c (.d (.list 3 p2.length (fun i => encValue (p2.getD i default))))), (19, .c (.d (.bool true)))], []⟩, ⟨[(20, .c (.d (.list 3 p2.length (fun i => encValue (p2.getD i default)))))], []⟩, [], [], []⟩, ⟨⟨[(3, .c (.d (.list 3 p3.length (fun i => encValue (p3.getD i default))))), (19, .c (.d (.bool true)))], []⟩, ⟨[(21, .c (.d (.list 3 p3.length (fun i => encValue (p3.getD i default)))))], []⟩, [], [], []⟩, ⟨⟨[(19, .c (.d (.bool true))), (20, .c (.d (.list 3 p2.length (fun i => encValue (p2.getD i default))))), (21, .c (.d (.list 3 p3.length (fun i => encValue (p3.getD i default)))))], []⟩, ⟨[(22, .c (.d (.int .i64 r8)))], []⟩, [], [], []⟩, ⟨⟨[(2, .c (.d (.list 3 p2.length (fun i => encValue (p2.getD i default))))), (19, .c (.d (.bool true)))], []⟩, ⟨[(23, .c (.d (.list 3 p2.length (fun i => encValue (p2.getD i default)))))], []⟩, [], [], []⟩, ⟨⟨[(3, .c (.d (.list 3 p3.length (fun i => encValue (p3.getD i default))))), (19, .c (.d (.bool true)))], []⟩, ⟨[(24, .c (.d (.list 3 p3.length (fun i => encValue (p3.getD i default)))))], []⟩, [], [], []⟩, ⟨⟨[(19, .c (.d (.bool true))), (23, .c (.d (.list 3 p2.length (fun i => encValue (p2.getD i default))))), (24, .c (.d (.list 3 p3.length (fun i => encValue (p3.getD i default)))))], []⟩, ⟨[(25, .c (.d (.int .i64 r9)))], []⟩, [], [], []⟩, ⟨⟨[(19, .c (.d (.bool true))), (22, .c (.d (.int .i64 r8))), (25, .c (.d (.int .i64 r9)))], []⟩, ⟨[(26, .c (.d (.bool (decide (r8 = r9)))))], []⟩, [], [], []⟩, ⟨⟨[(19, .c (.d (.bool true))), (26, .c (.d (.bool (decide (r8 = r9)))))], []⟩, ⟨[(27, .c (.d (.bool (decide (r8 = r9)))))], []⟩, [], [], []⟩, ⟨⟨[(27, .c (.d (.bool (decide (r8 = r9)))))], []⟩, ⟨[(28, .c (.d (.bool false)))], []⟩, [], [], []⟩, ⟨⟨[(2, .c (.d (.list 3 p2.length (fun i => encValue (p2.getD i default))))), (28, .c (.d (.bool false)))], []⟩, ⟨[(29, .tup [])], []⟩, [], [], []⟩, ⟨⟨[(28, .c (.d (.bool false))), (29, .tup [])], []⟩, ⟨[(30, .tup [])], []⟩, [], [], []⟩, ⟨⟨[(2, .c (.d (.list 3 p2.length (fun i => encValue (p2.getD i default))))), (28, .c (.d (.bool false)))], []⟩, ⟨[(31, .tup [])], []⟩, [], [], []⟩, ⟨⟨[(28, .c (.d (.bool false))), (31, .tup [])], []⟩, ⟨[(32, .tup [])], []⟩, [], [], []⟩, ⟨⟨[(28, .c (.d (.bool false))), (30, .tup []), (32, .tup [])], []⟩, ⟨[(33, .tup [])], []⟩, [], [], []⟩, ⟨⟨[(28, .c (.d (.bool false))), (33, .tup [])], []⟩, ⟨[(34, .c (.d (.bool false)))], []⟩, [], [], []⟩, ⟨⟨[(34, .c (.d (.bool false)))], []⟩, ⟨[(8, .c (.d (.bool false)))], []⟩, [], [], []⟩]) (bef := [[], [0], [0, 1], [0, 1], [0, 1, 2, 3], [0, 1], [0, 1], [0, 1, 2, 3, 4, 5, 6], [0, 1, 2, 3, 4, 5, 6, 7], [0, 1, 2, 3, 4, 5, 6, 7, 8], [0, 1, 2, 3, 4, 5, 6, 7, 8, 9], [0, 1, 2, 3, 4, 5, 6, 7, 8, 9, 10], [0, 1, 2, 3, 4, 5, 6, 7, 8, 9, 10], [0, 1, 2, 3, 4, 5, 6, 7, 8, 9, 10, 11, 12], [0, 1, 2, 3, 4, 5, 6, 7, 8, 9, 10], [0, 1, 2, 3, 4, 5, 6, 7, 8, 9, 10], [0, 1, 2, 3, 4, 5, 6, 7, 8, 9, 10, 11, 12, 13, 14, 15], [0, 1, 2, 3, 4, 5, 6, 7, 8, 9, 10, 11, 12, 13, 14, 15, 16], [0, 1, 2, 3, 4, 5, 6, 7, 8, 9, 10, 11, 12, 13, 14, 15, 16, 17], [0, 1, 2, 3, 4, 5, 6, 7, 8, 9, 10, 11, 12, 13, 14, 15, 16, 17, 18], [0, 1, 2, 3, 4, 5, 6, 7, 8, 9, 10, 11, 12, 13, 14, 15, 16, 17, 18, 19], [0, 1, 2, 3, 4, 5, 6, 7, 8, 9, 10, 11, 12, 13, 14, 15, 16, 17, 18, 19, 20], [0, 1, 2, 3, 4, 5, 6, 7, 8, 9, 10, 11, 12, 13, 14, 15, 16, 17, 18, 19], [0, 1, 2, 3, 4, 5, 6, 7, 8, 9, 10, 11, 12, 13, 14, 15, 16, 17, 18, 19, 20, 21, 22], [0, 1, 2, 3, 4, 5, 6, 7, 8, 9, 10, 11, 12, 13, 14, 15, 16, 17, 18, 19, 20, 21, 22, 23], [0, 1, 2, 3, 4, 5, 6, 7, 8, 9, 10, 11, 12, 13, 14, 15, 16, 17, 18, 19, 20, 21, 22, 23, 24], [0, 1, 2, 3, 4, 5, 6, 7, 8, 9, 10, 11, 12, 13, 14, 15, 16, 17, 18, 19, 20, 21, 22, 23, 24, 25]]) (tk := [8]) (sk := []) (s' := ⟨[(8, .c (.d (.bool false)))], []⟩) (by kernel_rfl) (by kernel_rfl) (by kernel_rfl) ⟨?_, ?_, ?_, ?_, ?_, ?_, ?_, ?_, ?_, ?_, ?_, ?_, ?_, ?_, ?_, ?_, ?_, ?_, ?_, ?_, ?_, ?_, ?_, ?_, ?_, ?_, ?_, trivial⟩ (by kernel_rfl) ?_
          · exact DOk.callA (caps := []) (xs := []) (freshetlaw03_orders_ok hr3) rfl (fun r => by kernel_rfl) rfl (fun r => by kernel_rfl) (fun r => by kernel_rfl) (fun r => .nil) rfl rfl (fun r => rfl)
          · exact DOk.stepP (fun b => .val (.c (.d (.bool b))) (True)) (p := r3) hp4 (fun r => by kernel_rfl) (fun r => by kernel_rfl) trivial (by kernel_rfl) (by kernel_rfl) (fun r => rfl)
          · exact DOk.step (.val (.agg [.d (.bool p0.isText), .d (.int .i64 p0.n), .d (.str p0.s)]) (True)) (fun r => by kernel_rfl) (fun r => by kernel_rfl) trivial (by kernel_rfl) (by kernel_rfl) (fun r => rfl)
          · exact DOk.step (.val (.agg [.d (.bool p1.isText), .d (.int .i64 p1.n), .d (.str p1.s)]) (True)) (fun r => by kernel_rfl) (fun r => by kernel_rfl) trivial (by kernel_rfl) (by kernel_rfl) (fun r => rfl)
          · exact DOk.callA (caps := []) (xs := [.agg [.d (.bool p0.isText), .d (.int .i64 p0.n), .d (.str p0.s)], .agg [.d (.bool p1.isText), .d (.int .i64 p1.n), .d (.str p1.s)]]) (value_Compare_ok hr5) rfl (fun r => by kernel_rfl) rfl (fun r => by kernel_rfl) (fun r => by kernel_rfl) (fun r => (.cons (.refl _) (.cons (.refl _) .nil))) rfl rfl (fun r => rfl)
          · exact DOk.step (.val (.agg [.d (.bool p0.isText), .d (.int .i64 p0.n), .d (.str p0.s)]) (True)) (fun r => by kernel_rfl) (fun r => by kernel_rfl) trivial (by kernel_rfl) (by kernel_rfl) (fun r => rfl)
          · exact DOk.step (.val (.agg [.d (.bool p1.isText), .d (.int .i64 p1.n), .d (.str p1.s)]) (True)) (fun r => by kernel_rfl) (fun r => by kernel_rfl) trivial (by kernel_rfl) (by kernel_rfl) (fun r => rfl)
          · exact DOk.callA (caps := []) (xs := [.agg [.d (.bool p0.isText), .d (.int .i64 p0.n), .d (.str p0.s)], .agg [.d (.bool p1.isText), .d (.int .i64 p1.n), .d (.str p1.s)]]) (freshetref03_Compare_ok hr6) rfl (fun r => by kernel_rfl) rfl (fun r => by kernel_rfl) (fun r => by kernel_rfl) (fun r => (.cons (.refl _) (.cons (.refl _) .nil))) rfl rfl (fun r => rfl)
          · exact DOk.step (.val (.c (.d (.bool (decide (r5 = r6))))) (True)) (fun r => by kernel_rfl) (fun r => by kernel_rfl) trivial (by kernel_rfl) (by kernel_rfl) (fun r => rfl)
          · exact DOk.step (.val (.c (.d (.bool (decide (r5 = r6))))) (True)) (fun r => by kernel_rfl) (fun r => by kernel_rfl) trivial (by kernel_rfl) (by kernel_rfl) (fun r => rfl)
          · exact DOk.stepP (fun b => .val (.c (.d (.bool b))) (True)) (p := (decide (r5 = r6))) hp7 (fun r => by kernel_rfl) (fun r => by kernel_rfl) trivial (by kernel_rfl) (by kernel_rfl) (fun r => rfl)
          · exact DOk.step (.val (.c (.d (.list 3 p2.length (fun i => encValue (p2.getD i default))))) (True)) (fun r => by kernel_rfl) (fun r => by kernel_rfl) trivial (by kernel_rfl) (by kernel_rfl) (fun r => rfl)
          · exact DOk.step (.val (.c (.d (.list 3 p3.length (fun i => encValue (p3.getD i default))))) (True)) (fun r => by kernel_rfl) (fun r => by kernel_rfl) trivial (by kernel_rfl) (by kernel_rfl) (fun r => rfl)
          · exact DOk.callA (caps := []) (xs := [.c (.d (.list 3 p2.length (fun i => encValue (p2.getD i default)))), .c (.d (.list 3 p3.length (fun i => encValue (p3.getD i default))))]) (value_Rows_ok hr8) rfl (fun r => by kernel_rfl) rfl (fun r => by kernel_rfl) (fun r => by kernel_rfl) (fun r => (.cons (.refl _) (.cons (.refl _) .nil))) rfl rfl (fun r => rfl)
          · exact DOk.step (.val (.c (.d (.list 3 p2.length (fun i => encValue (p2.getD i default))))) (True)) (fun r => by kernel_rfl) (fun r => by kernel_rfl) trivial (by kernel_rfl) (by kernel_rfl) (fun r => rfl)
          · exact DOk.step (.val (.c (.d (.list 3 p3.length (fun i => encValue (p3.getD i default))))) (True)) (fun r => by kernel_rfl) (fun r => by kernel_rfl) trivial (by kernel_rfl) (by kernel_rfl) (fun r => rfl)
          · exact DOk.callA (caps := []) (xs := [.c (.d (.list 3 p2.length (fun i => encValue (p2.getD i default)))), .c (.d (.list 3 p3.length (fun i => encValue (p3.getD i default))))]) (freshetref03_Rows_ok hr9) rfl (fun r => by kernel_rfl) rfl (fun r => by kernel_rfl) (fun r => by kernel_rfl) (fun r => (.cons (.refl _) (.cons (.refl _) .nil))) rfl rfl (fun r => rfl)
          · exact DOk.step (.val (.c (.d (.bool (decide (r8 = r9))))) (True)) (fun r => by kernel_rfl) (fun r => by kernel_rfl) trivial (by kernel_rfl) (by kernel_rfl) (fun r => rfl)
          · exact DOk.step (.val (.c (.d (.bool (decide (r8 = r9))))) (True)) (fun r => by kernel_rfl) (fun r => by kernel_rfl) trivial (by kernel_rfl) (by kernel_rfl) (fun r => rfl)
          · exact DOk.stepP (fun b => .val (.c (.d (.bool b))) (True)) (p := (decide (r8 = r9))) hp10 (fun r => by kernel_rfl) (fun r => by kernel_rfl) trivial (by kernel_rfl) (by kernel_rfl) (fun r => rfl)
          · exact DOk.skip (fun r => by kernel_rfl) rfl rfl (fun r => rfl)
          · exact DOk.skip (fun r => by kernel_rfl) rfl rfl (fun r => rfl)
          · exact DOk.skip (fun r => by kernel_rfl) rfl rfl (fun r => rfl)
          · exact DOk.skip (fun r => by kernel_rfl) rfl rfl (fun r => rfl)
          · exact DOk.skip (fun r => by kernel_rfl) rfl rfl (fun r => rfl)
          · exact DOk.step (.val (.c (.d (.bool false))) (True)) (fun r => by kernel_rfl) (fun r => by kernel_rfl) trivial (by kernel_rfl) (by kernel_rfl) (fun r => rfl)
          · exact DOk.step (.val (.c (.d (.bool false))) (True)) (fun r => by kernel_rfl) (fun r => by kernel_rfl) trivial (by kernel_rfl) (by kernel_rfl) (fun r => rfl)
          exact ⟨_, h, rfl⟩
      · refine Tri.drawn (specs := [⟨⟨[], []⟩, ⟨[(9, .c (.d (.bool r3)))], []⟩, [], [], []⟩, ⟨⟨[(9, .c (.d (.bool r3)))], []⟩, ⟨[(10, .c (.d (.bool true)))], []⟩, [], [], []⟩, ⟨⟨[(4, .c (.ptr 4 0)), (10, .c (.d (.bool true)))], [(4, .box [.d (.bool p0.isText), .d (.int .i64 p0.n), .d (.str p0.s)])]⟩, ⟨[(11, .agg [.d (.bool p0.isText), .d (.int .i64 p0.n), .d (.str p0.s)])], []⟩, [], [], []⟩, ⟨⟨[(5, .c (.ptr 5 0)), (10, .c (.d (.bool true)))], [(5, .box [.d (.bool p1.isText), .d (.int .i64 p1.n), .d (.str p1.s)])]⟩, ⟨[(12, .agg [.d (.bool p1.isText), .d (.int .i64 p1.n), .d (.str p1.s)])], []⟩, [], [], []⟩, ⟨⟨[(10, .c (.d (.bool true))), (11, .agg [.d (.bool p0.isText), .d (.int .i64 p0.n), .d (.str p0.s)]), (12, .agg [.d (.bool p1.isText), .d (.int .i64 p1.n), .d (.str p1.s)])], []⟩, ⟨[(13, .c (.d (.int .i64 r5)))], []⟩, [], [], []⟩, ⟨⟨[(4, .c (.ptr 4 0)), (10, .c (.d (.bool true)))], [(4, .box [.d (.bool p0.isText), .d (.int .i64 p0.n), .d (.str p0.s)])]⟩, ⟨[(14, .agg [.d (.bool p0.isText), .d (.int .i64 p0.n), .d (.str p0.s)])], []⟩, [], [], []⟩, ⟨⟨[(5, .c (.ptr 5 0)), (10, .c (.d (.bool true)))], [(5, .box [.d (.bool p1.isText), .d (.int .i64 p1.n), .d (.str p1.s)])]⟩, ⟨[(15, .agg [.d (.bool p1.isText), .d (.int .i64 p1.n), .d (.str p1.s)])], []⟩, [], [], []⟩, ⟨⟨[(10, .c (.d (.bool true))), (14, .agg [.d (.bool p0.isText), .d (.int .i64 p0.n), .d (.str p0.s)]), (15, .agg [.d (.bool p1.isText), .d (.int .i64 p1.n), .d (.str p1.s)])], []⟩, ⟨[(16, .c (.d (.int .i64 r6)))], []⟩, [], [], []⟩, ⟨⟨[(10, .c (.d (.bool true))), (13, .c (.d (.int .i64 r5))), (16, .c (.d (.int .i64 r6)))], []⟩, ⟨[(17, .c (.d (.bool (decide (r5 = r6)))))], []⟩, [], [], []⟩, ⟨⟨[(10, .c (.d (.bool true))), (17, .c (.d (.bool (decide (r5 = r6)))))], []⟩, ⟨[(18, .c (.d (.bool (decide (r5 = r6)))))], []⟩, [], [], []⟩, ⟨⟨[(18, .c (.d (.bool (decide (r5 = r6)))))], []⟩, ⟨[(19, .c (.d (.bool false)))], []⟩, [], [], []⟩, ⟨⟨[(2, .c (.d (.list 3 p2.length (fun i => encValue (p2.getD i default))))), (19, .c (.d (.bool false)))], []⟩, ⟨[(20, .tup [])], []⟩, [], [], []⟩, ⟨⟨[(3, .c (.d (.list 3 p3.length (fun i => encValue (p3.getD i default))))), (19, .c (.d (.bool false)))], []⟩, ⟨[(21, .tup [])], []⟩, [], [], []⟩, ⟨⟨[(19, .c (.d (.bool false))), (20, .tup []), (21, .tup [])], []⟩, ⟨[(22, .tup [])], []⟩, [], [], []⟩, ⟨⟨[(2, .c (.d (.list 3 p2.length (fun i => encValue (p2.getD i default))))), (19, .c (.d (.bool false)))], []⟩, ⟨[(23, .tup [])], []⟩, [], [], []⟩, ⟨⟨[(3, .c (.d (.list 3 p3.length (fun i => encValue (p3.getD i default))))), (19, .c (.d (.bool false)))], []⟩, ⟨[(24, .tup [])], []⟩, [], [], []⟩, ⟨⟨[(19, .c (.d (.bool false))), (23, .tup []), (24, .tup [])], []⟩, ⟨[(25, .tup [])], []⟩, [], [], []⟩, ⟨⟨[(19, .c (.d (.bool false))), (22, .tup []), (25, .tup [])], []⟩, ⟨[(26, .tup [])], []⟩, [], [], []⟩, ⟨⟨[(19, .c (.d (.bool false))), (26, .tup [])], []⟩, ⟨[(27, .c (.d (.bool false)))], []⟩, [], [], []⟩, ⟨⟨[(27, .c (.d (.bool false)))], []⟩, ⟨[(28, .c (.d (.bool false)))], []⟩, [], [], []⟩, ⟨⟨[(2, .c (.d (.list 3 p2.length (fun i => encValue (p2.getD i default))))), (28, .c (.d (.bool false)))], []⟩, ⟨[(29, .tup [])], []⟩, [], [], []⟩, ⟨⟨[(28, .c (.d (.bool false))), (29, .tup [])], []⟩, ⟨[(30, .tup [])], []⟩, [], [], []⟩, ⟨⟨[(2, .c (.d (.list 3 p2.length (fun i => encValue (p2.getD i default))))), (28, .c (.d (.bool false)))], []⟩, ⟨[(31, .tup [])], []⟩, [], [], []⟩, ⟨⟨[(28, .c (.d (.bool false))), (31, .tup [])], []⟩, ⟨[(32, .tup [])], []⟩, [], [], []⟩, ⟨⟨[(28, .c (.d (.bool false))), (30, .tup []), (32, .tup [])], []⟩, ⟨[(33, .tup [])], []⟩, [], [], []⟩, ⟨⟨[(28, .c (.d (.bool false))), (33, .tup [])], []⟩, ⟨[(34, .c (.d (.bool false)))], []⟩, [], [], []⟩, ⟨⟨[(34, .c (.d (.bool false)))], []⟩, ⟨[(8, .c (.d (.bool false)))], []⟩, [], [], []⟩]) (bef := [[], [0], [0, 1], [0, 1], [0, 1, 2, 3], [0, 1], [0, 1], [0, 1, 2, 3, 4, 5, 6], [0, 1, 2, 3, 4, 5, 6, 7], [0, 1, 2, 3, 4, 5, 6, 7, 8], [0, 1, 2, 3, 4, 5, 6, 7, 8, 9], [0, 1, 2, 3, 4, 5, 6, 7, 8, 9, 10], [0, 1, 2, 3, 4, 5, 6, 7, 8, 9, 10], [0, 1, 2, 3, 4, 5, 6, 7, 8, 9, 10, 11, 12], [0, 1, 2, 3, 4, 5, 6, 7, 8, 9, 10], [0, 1, 2, 3, 4, 5, 6, 7, 8, 9, 10], [0, 1, 2, 3, 4, 5, 6, 7, 8, 9, 10, 11, 12, 13, 14, 15], [0, 1, 2, 3, 4, 5, 6, 7, 8, 9, 10, 11, 12, 13, 14, 15, 16], [0, 1, 2, 3, 4, 5, 6, 7, 8, 9, 10, 11, 12, 13, 14, 15, 16, 17], [0, 1, 2, 3, 4, 5, 6, 7, 8, 9, 10, 11, 12, 13, 14, 15, 16, 17, 18], [0, 1, 2, 3, 4, 5, 6, 7, 8, 9, 10, 11, 12, 13, 14, 15, 16, 17, 18, 19], [0, 1, 2, 3, 4, 5, 6, 7, 8, 9, 10, 11, 12, 13, 14, 15, 16, 17, 18, 19, 20], [0, 1, 2, 3, 4, 5, 6, 7, 8, 9, 10, 11, 12, 13, 14, 15, 16, 17, 18, 19], [0, 1, 2, 3, 4, 5, 6, 7, 8, 9, 10, 11, 12, 13, 14, 15, 16, 17, 18, 19, 20, 21, 22], [0, 1, 2, 3, 4, 5, 6, 7, 8, 9, 10, 11, 12, 13, 14, 15, 16, 17, 18, 19, 20, 21, 22, 23], [0, 1, 2, 3, 4, 5, 6, 7, 8, 9, 10, 11, 12, 13, 14, 15, 16, 17, 18, 19, 20, 21, 22, 23, 24], [0, 1, 2, 3, 4, 5, 6, 7, 8, 9, 10, 11, 12, 13, 14, 15, 16, 17, 18, 19, 20, 21, 22, 23, 24, 25]]) (tk := [8]) (sk := []) (s' := ⟨[(8, .c (.d (.bool false)))], []⟩) (by kernel_rfl) (by kernel_rfl) (by kernel_rfl) ⟨?_, ?_, ?_, ?_, ?_, ?_, ?_, ?_, ?_, ?_, ?_, ?_, ?_, ?_, ?_, ?_, ?_, ?_, ?_, ?_, ?_, ?_, ?_, ?_, ?_, ?_, ?_, trivial⟩ (by kernel_rfl) ?_
        · exact DOk.callA (caps := []) (xs := []) (freshetlaw03_orders_ok hr3) rfl (fun r => by kernel_rfl) rfl (fun r => by kernel_rfl) (fun r => by kernel_rfl) (fun r => .nil) rfl rfl (fun r => rfl)
        · exact DOk.stepP (fun b => .val (.c (.d (.bool b))) (True)) (p := r3) hp4 (fun r => by kernel_rfl) (fun r => by kernel_rfl) trivial (by kernel_rfl) (by kernel_rfl) (fun r => rfl)
        · exact DOk.step (.val (.agg [.d (.bool p0.isText), .d (.int .i64 p0.n), .d (.str p0.s)]) (True)) (fun r => by kernel_rfl) (fun r => by kernel_rfl) trivial (by kernel_rfl) (by kernel_rfl) (fun r => rfl)
        · exact DOk.step (.val (.agg [.d (.bool p1.isText), .d (.int .i64 p1.n), .d (.str p1.s)]) (True)) (fun r => by kernel_rfl) (fun r => by kernel_rfl) trivial (by kernel_rfl) (by kernel_rfl) (fun r => rfl)
        · exact DOk.callA (caps := []) (xs := [.agg [.d (.bool p0.isText), .d (.int .i64 p0.n), .d (.str p0.s)], .agg [.d (.bool p1.isText), .d (.int .i64 p1.n), .d (.str p1.s)]]) (value_Compare_ok hr5) rfl (fun r => by kernel_rfl) rfl (fun r => by kernel_rfl) (fun r => by kernel_rfl) (fun r => (.cons (.refl _) (.cons (.refl _) .nil))) rfl rfl (fun r => rfl)
        · exact DOk.step (.val (.agg [.d (.bool p0.isText), .d (.int .i64 p0.n), .d (.str p0.s)]) (True)) (fun r => by kernel_rfl) (fun r => by kernel_rfl) trivial (by kernel_rfl) (by kernel_rfl) (fun r => rfl)
        · exact DOk.step (.val (.agg [.d (.bool p1.isText), .d (.int .i64 p1.n), .d (.str p1.s)]) (True)) (fun r => by kernel_rfl) (fun r => by kernel_rfl) trivial (by kernel_rfl) (by kernel_rfl) (fun r => rfl)
        · exact DOk.callA (caps := []) (xs := [.agg [.d (.bool p0.isText), .d (.int .i64 p0.n), .d (.str p0.s)], .agg [.d (.bool p1.isText), .d (.int .i64 p1.n), .d (.str p1.s)]]) (freshetref03_Compare_ok hr6) rfl (fun r => by kernel_rfl) rfl (fun r => by kernel_rfl) (fun r => by kernel_rfl) (fun r => (.cons (.refl _) (.cons (.refl _) .nil))) rfl rfl (fun r => rfl)
        · exact DOk.step (.val (.c (.d (.bool (decide (r5 = r6))))) (True)) (fun r => by kernel_rfl) (fun r => by kernel_rfl) trivial (by kernel_rfl) (by kernel_rfl) (fun r => rfl)
        · exact DOk.step (.val (.c (.d (.bool (decide (r5 = r6))))) (True)) (fun r => by kernel_rfl) (fun r => by kernel_rfl) trivial (by kernel_rfl) (by kernel_rfl) (fun r => rfl)
        · exact DOk.stepP (fun b => .val (.c (.d (.bool b))) (True)) (p := (decide (r5 = r6))) hp7 (fun r => by kernel_rfl) (fun r => by kernel_rfl) trivial (by kernel_rfl) (by kernel_rfl) (fun r => rfl)
        · exact DOk.skip (fun r => by kernel_rfl) rfl rfl (fun r => rfl)
        · exact DOk.skip (fun r => by kernel_rfl) rfl rfl (fun r => rfl)
        · exact DOk.skip (fun r => by kernel_rfl) rfl rfl (fun r => rfl)
        · exact DOk.skip (fun r => by kernel_rfl) rfl rfl (fun r => rfl)
        · exact DOk.skip (fun r => by kernel_rfl) rfl rfl (fun r => rfl)
        · exact DOk.skip (fun r => by kernel_rfl) rfl rfl (fun r => rfl)
        · exact DOk.skip (fun r => by kernel_rfl) rfl rfl (fun r => rfl)
        · exact DOk.step (.val (.c (.d (.bool false))) (True)) (fun r => by kernel_rfl) (fun r => by kernel_rfl) trivial (by kernel_rfl) (by kernel_rfl) (fun r => rfl)
        · exact DOk.step (.val (.c (.d (.bool false))) (True)) (fun r => by kernel_rfl) (fun r => by kernel_rfl) trivial (by kernel_rfl) (by kernel_rfl) (fun r => rfl)
        · exact DOk.skip (fun r => by kernel_rfl) rfl rfl (fun r => rfl)
        · exact DOk.skip (fun r => by kernel_rfl) rfl rfl (fun r => rfl)
        · exact DOk.skip (fun r => by kernel_rfl) rfl rfl (fun r => rfl)
        · exact DOk.skip (fun r => by kernel_rfl) rfl rfl (fun r => rfl)
        · exact DOk.skip (fun r => by kernel_rfl) rfl rfl (fun r => rfl)
        · exact DOk.step (.val (.c (.d (.bool false))) (True)) (fun r => by kernel_rfl) (fun r => by kernel_rfl) trivial (by kernel_rfl) (by kernel_rfl) (fun r => rfl)
        · exact DOk.step (.val (.c (.d (.bool false))) (True)) (fun r => by kernel_rfl) (fun r => by kernel_rfl) trivial (by kernel_rfl) (by kernel_rfl) (fun r => rfl)
        exact ⟨_, h, rfl⟩
    · refine Tri.drawn (specs := [⟨⟨[], []⟩, ⟨[(9, .c (.d (.bool r3)))], []⟩, [], [], []⟩, ⟨⟨[(9, .c (.d (.bool r3)))], []⟩, ⟨[(10, .c (.d (.bool false)))], []⟩, [], [], []⟩, ⟨⟨[(4, .c (.ptr 4 0)), (10, .c (.d (.bool false)))], [(4, .box [.d (.bool p0.isText), .d (.int .i64 p0.n), .d (.str p0.s)])]⟩, ⟨[(11, .tup [])], []⟩, [], [], []⟩, ⟨⟨[(5, .c (.ptr 5 0)), (10, .c (.d (.bool false)))], [(5, .box [.d (.bool p1.isText), .d (.int .i64 p1.n), .d (.str p1.s)])]⟩, ⟨[(12, .tup [])], []⟩, [], [], []⟩, ⟨⟨[(10, .c (.d (.bool false))), (11, .tup []), (12, .tup [])], []⟩, ⟨[(13, .tup [])], []⟩, [], [], []⟩, ⟨⟨[(4, .c (.ptr 4 0)), (10, .c (.d (.bool false)))], [(4, .box [.d (.bool p0.isText), .d (.int .i64 p0.n), .d (.str p0.s)])]⟩, ⟨[(14, .tup [])], []⟩, [], [], []⟩, ⟨⟨[(5, .c (.ptr 5 0)), (10, .c (.d (.bool false)))], [(5, .box [.d (.bool p1.isText), .d (.int .i64 p1.n), .d (.str p1.s)])]⟩, ⟨[(15, .tup [])], []⟩, [], [], []⟩, ⟨⟨[(10, .c (.d (.bool false))), (14, .tup []), (15, .tup [])], []⟩, ⟨[(16, .tup [])], []⟩, [], [], []⟩, ⟨⟨[(10, .c (.d (.bool false))), (13, .tup []), (16, .tup [])], []⟩, ⟨[(17, .tup [])], []⟩, [], [], []⟩, ⟨⟨[(10, .c (.d (.bool false))), (17, .tup [])], []⟩, ⟨[(18, .c (.d (.bool false)))], []⟩, [], [], []⟩, ⟨⟨[(18, .c (.d (.bool false)))], []⟩, ⟨[(19, .c (.d (.bool false)))], []⟩, [], [], []⟩, ⟨⟨[(2, .c (.d (.list 3 p2.length (fun i => encValue (p2.getD i default))))), (19, .c (.d (.bool false)))], []⟩, ⟨[(20, .tup [])], []⟩, [], [], []⟩, ⟨⟨[(3, .c (.d (.list 3 p3.length (fun i => encValue (p3.getD i default))))), (19, .c (.d (.bool false)))], []⟩, ⟨[(21, .tup [])], []⟩, [], [], []⟩, ⟨⟨[(19, .c (.d (.bool false))), (20, .tup []), (21, .tup [])], []⟩, ⟨[(22, .tup [])], []⟩, [], [], []⟩, ⟨⟨[(2, .c (.d (.list 3 p2.length (fun i => encValue (p2.getD i default))))), (19, .c (.d (.bool false)))], []⟩, ⟨[(23, .tup [])], []⟩, [], [], []⟩, ⟨⟨[(3, .c (.d (.list 3 p3.length (fun i => encValue (p3.getD i default))))), (19, .c (.d (.bool false)))], []⟩, ⟨[(24, .tup [])], []⟩, [], [], []⟩, ⟨⟨[(19, .c (.d (.bool false))), (23, .tup []), (24, .tup [])], []⟩, ⟨[(25, .tup [])], []⟩, [], [], []⟩, ⟨⟨[(19, .c (.d (.bool false))), (22, .tup []), (25, .tup [])], []⟩, ⟨[(26, .tup [])], []⟩, [], [], []⟩, ⟨⟨[(19, .c (.d (.bool false))), (26, .tup [])], []⟩, ⟨[(27, .c (.d (.bool false)))], []⟩, [], [], []⟩, ⟨⟨[(27, .c (.d (.bool false)))], []⟩, ⟨[(28, .c (.d (.bool false)))], []⟩, [], [], []⟩, ⟨⟨[(2, .c (.d (.list 3 p2.length (fun i => encValue (p2.getD i default))))), (28, .c (.d (.bool false)))], []⟩, ⟨[(29, .tup [])], []⟩, [], [], []⟩, ⟨⟨[(28, .c (.d (.bool false))), (29, .tup [])], []⟩, ⟨[(30, .tup [])], []⟩, [], [], []⟩, ⟨⟨[(2, .c (.d (.list 3 p2.length (fun i => encValue (p2.getD i default))))), (28, .c (.d (.bool false)))], []⟩, ⟨[(31, .tup [])], []⟩, [], [], []⟩, ⟨⟨[(28, .c (.d (.bool false))), (31, .tup [])], []⟩, ⟨[(32, .tup [])], []⟩, [], [], []⟩, ⟨⟨[(28, .c (.d (.bool false))), (30, .tup []), (32, .tup [])], []⟩, ⟨[(33, .tup [])], []⟩, [], [], []⟩, ⟨⟨[(28, .c (.d (.bool false))), (33, .tup [])], []⟩, ⟨[(34, .c (.d (.bool false)))], []⟩, [], [], []⟩, ⟨⟨[(34, .c (.d (.bool false)))], []⟩, ⟨[(8, .c (.d (.bool false)))], []⟩, [], [], []⟩]) (bef := [[], [0], [0, 1], [0, 1], [0, 1, 2, 3], [0, 1], [0, 1], [0, 1, 2, 3, 4, 5, 6], [0, 1, 2, 3, 4, 5, 6, 7], [0, 1, 2, 3, 4, 5, 6, 7, 8], [0, 1, 2, 3, 4, 5, 6, 7, 8, 9], [0, 1, 2, 3, 4, 5, 6, 7, 8, 9, 10], [0, 1, 2, 3, 4, 5, 6, 7, 8, 9, 10], [0, 1, 2, 3, 4, 5, 6, 7, 8, 9, 10, 11, 12], [0, 1, 2, 3, 4, 5, 6, 7, 8, 9, 10], [0, 1, 2, 3, 4, 5, 6, 7, 8, 9, 10], [0, 1, 2, 3, 4, 5, 6, 7, 8, 9, 10, 11, 12, 13, 14, 15], [0, 1, 2, 3, 4, 5, 6, 7, 8, 9, 10, 11, 12, 13, 14, 15, 16], [0, 1, 2, 3, 4, 5, 6, 7, 8, 9, 10, 11, 12, 13, 14, 15, 16, 17], [0, 1, 2, 3, 4, 5, 6, 7, 8, 9, 10, 11, 12, 13, 14, 15, 16, 17, 18], [0, 1, 2, 3, 4, 5, 6, 7, 8, 9, 10, 11, 12, 13, 14, 15, 16, 17, 18, 19], [0, 1, 2, 3, 4, 5, 6, 7, 8, 9, 10, 11, 12, 13, 14, 15, 16, 17, 18, 19, 20], [0, 1, 2, 3, 4, 5, 6, 7, 8, 9, 10, 11, 12, 13, 14, 15, 16, 17, 18, 19], [0, 1, 2, 3, 4, 5, 6, 7, 8, 9, 10, 11, 12, 13, 14, 15, 16, 17, 18, 19, 20, 21, 22], [0, 1, 2, 3, 4, 5, 6, 7, 8, 9, 10, 11, 12, 13, 14, 15, 16, 17, 18, 19, 20, 21, 22, 23], [0, 1, 2, 3, 4, 5, 6, 7, 8, 9, 10, 11, 12, 13, 14, 15, 16, 17, 18, 19, 20, 21, 22, 23, 24], [0, 1, 2, 3, 4, 5, 6, 7, 8, 9, 10, 11, 12, 13, 14, 15, 16, 17, 18, 19, 20, 21, 22, 23, 24, 25]]) (tk := [8]) (sk := []) (s' := ⟨[(8, .c (.d (.bool false)))], []⟩) (by kernel_rfl) (by kernel_rfl) (by kernel_rfl) ⟨?_, ?_, ?_, ?_, ?_, ?_, ?_, ?_, ?_, ?_, ?_, ?_, ?_, ?_, ?_, ?_, ?_, ?_, ?_, ?_, ?_, ?_, ?_, ?_, ?_, ?_, ?_, trivial⟩ (by kernel_rfl) ?_
      · exact DOk.callA (caps := []) (xs := []) (freshetlaw03_orders_ok hr3) rfl (fun r => by kernel_rfl) rfl (fun r => by kernel_rfl) (fun r => by kernel_rfl) (fun r => .nil) rfl rfl (fun r => rfl)
      · exact DOk.stepP (fun b => .val (.c (.d (.bool b))) (True)) (p := r3) hp4 (fun r => by kernel_rfl) (fun r => by kernel_rfl) trivial (by kernel_rfl) (by kernel_rfl) (fun r => rfl)
      · exact DOk.skip (fun r => by kernel_rfl) rfl rfl (fun r => rfl)
      · exact DOk.skip (fun r => by kernel_rfl) rfl rfl (fun r => rfl)
      · exact DOk.skip (fun r => by kernel_rfl) rfl rfl (fun r => rfl)
      · exact DOk.skip (fun r => by kernel_rfl) rfl rfl (fun r => rfl)
      · exact DOk.skip (fun r => by kernel_rfl) rfl rfl (fun r => rfl)
      · exact DOk.skip (fun r => by kernel_rfl) rfl rfl (fun r => rfl)
      · exact DOk.skip (fun r => by kernel_rfl) rfl rfl (fun r => rfl)
      · exact DOk.step (.val (.c (.d (.bool false))) (True)) (fun r => by kernel_rfl) (fun r => by kernel_rfl) trivial (by kernel_rfl) (by kernel_rfl) (fun r => rfl)
      · exact DOk.step (.val (.c (.d (.bool false))) (True)) (fun r => by kernel_rfl) (fun r => by kernel_rfl) trivial (by kernel_rfl) (by kernel_rfl) (fun r => rfl)
      · exact DOk.skip (fun r => by kernel_rfl) rfl rfl (fun r => rfl)
      · exact DOk.skip (fun r => by kernel_rfl) rfl rfl (fun r => rfl)
      · exact DOk.skip (fun r => by kernel_rfl) rfl rfl (fun r => rfl)
      · exact DOk.skip (fun r => by kernel_rfl) rfl rfl (fun r => rfl)
      · exact DOk.skip (fun r => by kernel_rfl) rfl rfl (fun r => rfl)
      · exact DOk.skip (fun r => by kernel_rfl) rfl rfl (fun r => rfl)
      · exact DOk.skip (fun r => by kernel_rfl) rfl rfl (fun r => rfl)
      · exact DOk.step (.val (.c (.d (.bool false))) (True)) (fun r => by kernel_rfl) (fun r => by kernel_rfl) trivial (by kernel_rfl) (by kernel_rfl) (fun r => rfl)
      · exact DOk.step (.val (.c (.d (.bool false))) (True)) (fun r => by kernel_rfl) (fun r => by kernel_rfl) trivial (by kernel_rfl) (by kernel_rfl) (fun r => rfl)
      · exact DOk.skip (fun r => by kernel_rfl) rfl rfl (fun r => rfl)
      · exact DOk.skip (fun r => by kernel_rfl) rfl rfl (fun r => rfl)
      · exact DOk.skip (fun r => by kernel_rfl) rfl rfl (fun r => rfl)
      · exact DOk.skip (fun r => by kernel_rfl) rfl rfl (fun r => rfl)
      · exact DOk.skip (fun r => by kernel_rfl) rfl rfl (fun r => rfl)
      · exact DOk.step (.val (.c (.d (.bool false))) (True)) (fun r => by kernel_rfl) (fun r => by kernel_rfl) trivial (by kernel_rfl) (by kernel_rfl) (fun r => rfl)
      · exact DOk.step (.val (.c (.d (.bool false))) (True)) (fun r => by kernel_rfl) (fun r => by kernel_rfl) trivial (by kernel_rfl) (by kernel_rfl) (fun r => rfl)
      exact ⟨_, h, rfl⟩

set_option maxRecDepth 100000 in
theorem freshetref03_Same_ok {p0 : List Value} {p1 : List Value} {q : Bool} (h : freshetref03_Same p0 p1 = some q) :
    Summ Try.prog 18 [.c (.d (.list 3 p0.length (fun i => encValue (p0.getD i default)))), .c (.d (.list 3 p1.length (fun i => encValue (p1.getD i default))))] [] (.c (.d (.bool q))) [] := by
  refine Summ.intro Try.func18 rfl (by kernel_rfl) (by kernel_rfl) [] rfl ?_
  rintro ⟨P, w0, G0, V, LL, lk, N, φ0, fx⟩ rfl rfl rfl rfl
  unfold freshetref03_Same at h
  refine Tri.seqS ?_
  refine Tri.reg ?_
  refine At.seg 1 [0, 1] [] (s' := ⟨[(0, .c (.d (.list 3 p0.length (fun i => encValue (p0.getD i default))))), (1, .c (.d (.list 3 p1.length (fun i => encValue (p1.getD i default)))))], []⟩) (c := True ∧ True) (by kernel_rfl) ⟨trivial, trivial⟩ ?_
  refine At.done rfl ?_
  show Tri _ _ _ _
  refine Tri.seqS ?_
  refine Tri.seqS ?_
  refine Tri.reg ?_
  refine At.seg 5 [0, 1, 10] [] (s' := ⟨[(0, .c (.d (.list 3 p0.length (fun i => encValue (p0.getD i default))))), (1, .c (.d (.list 3 p1.length (fun i => encValue (p1.getD i default))))), (10, .c (.d (.bool (!decide ((p0.length : Int) = (p1.length : Int))))))], []⟩) (c := True ∧ True ∧ True ∧ True ∧ True ∧ True) (by kernel_rfl) ⟨trivial, trivial, trivial, trivial, trivial, trivial⟩ ?_
  refine At.done rfl ?_
  show Tri _ _ _ _
  refine Tri.condP (b := (!decide ((p0.length : Int) = (p1.length : Int)))) rfl h (fun h => ?_) (fun h => ?_)
  · refine Tri.seqS ?_
    refine Tri.reg ?_
    refine At.seg 1 [4] [] (s' := ⟨[(4, .c (.d (.bool false)))], []⟩) (c := True ∧ True) (by kernel_rfl) ⟨trivial, trivial⟩ ?_
    refine At.done rfl ?_
    show Tri _ _ _ _
    refine Tri.keep [4] [] (s' := ⟨[(4, .c (.d (.bool false)))], []⟩) (by kernel_rfl) ?_
    refine Tri.ret ?_
    cases h
    refine ⟨_, _, rfl, ⟨trivial, trivial⟩, rfl, rfl, ?_⟩
    intro k c h
    cases h
  · refine Tri.skip ?_
    show Tri _ _ _ _
    refine Tri.seqS ?_
    refine Tri.seqS ?_
    refine Tri.reg ?_
    refine At.seg 3 [0, 1, 12, 13] [] (s' := ⟨[(0, .c (.d (.list 3 p0.length (fun i => encValue (p0.getD i default))))), (1, .c (.d (.list 3 p1.length (fun i => encValue (p1.getD i default))))), (12, .c (.d (.int .i64 (p0.length : Int)))), (13, .c (.d (.int .i64 0)))], []⟩) (c := True ∧ True ∧ True ∧ True) (by kernel_rfl) ⟨trivial, trivial, trivial, trivial⟩ ?_
    refine At.done rfl ?_
    show Tri _ _ _ _
    refine Tri.lenOf (t := 0) rfl fun hlena2 => ?_
    refine Tri.keep [13, 0, 1, 12] [] (s' := idx 13 0 ⟨[(0, .c (.d (.list 3 p0.length (fun i => encValue (p0.getD i default))))), (1, .c (.d (.list 3 p1.length (fun i => encValue (p1.getD i default))))), (12, .c (.d (.int .i64 (p0.length : Int))))], []⟩) (by kernel_rfl) ?_
    refine Tri.range (n := p0.length) (st0 := ()) (fun (x : Bool) s => RetAt Try.prog Try.f18 (.c (.d (.bool x))) [] s) (fun (a2 : Unit) => ⟨[(0, .c (.d (.list 3 p0.length (fun i => encValue (p0.getD i default))))), (1, .c (.d (.list 3 p1.length (fun i => encValue (p1.getD i default))))), (12, .c (.d (.int .i64 (p0.length : Int))))], []⟩) (fun (a2 : Unit) => ⟨[(0, .c (.d (.list 3 p0.length (fun i => encValue (p0.getD i default))))), (1, .c (.d (.list 3 p1.length (fun i => encValue (p1.getD i default))))), (12, .c (.d (.int .i64 (p0.length : Int))))], []⟩) (fun i => decide ((i : Int) < (p0.length : Int))) [14, 13, 0, 1, 12] [] [0, 1, 12] [] [13, 0, 1, 12] [] h hlena2 rfl ?_ ?_ ?_ ?_ ?_ ?_ ?_ ?_
    · exact fun i a => ⟨True ∧ True, by kernel_rfl, ⟨trivial, trivial⟩⟩
    · exact fun i hi => decide_eq_true (by omega)
    · exact decide_eq_false (by omega)
    · exact fun a => by kernel_rfl
    · exact fun i a => ⟨True ∧ True ∧ True, by kernel_rfl, ⟨trivial, trivial, trivial⟩⟩
    · intro i1 a2 c hii1 h
      refine Tri.seqS ?_
      refine Tri.reg ?_
      refine At.seg 2 [0, 1, 5, 12, 13] [] (s' := ⟨[(0, .c (.d (.list 3 p0.length (fun i => encValue (p0.getD i default))))), (1, .c (.d (.list 3 p1.length (fun i => encValue (p1.getD i default))))), (5, .c (.d (.int .i64 ((i1 : Nat) : Int)))), (12, .c (.d (.int .i64 (p0.length : Int)))), (13, .c (.d (.int .i64 ((i1 : Nat) : Int))))], []⟩) (c := True ∧ True ∧ True) (by kernel_rfl) ⟨trivial, trivial, trivial⟩ ?_
      refine At.done rfl ?_
      show Tri _ _ _ _
      refine Tri.seqS ?_
      obtain ⟨hc4, h⟩ := need_elim h
      refine Tri.drawn (specs := [⟨⟨[(0, .c (.d (.list 3 p0.length (fun i => encValue (p0.getD i default)))))], []⟩, ⟨[(16, .c (.d (.list 3 p0.length (fun i => encValue (p0.getD i default)))))], []⟩, [], [], []⟩, ⟨⟨[(5, .c (.d (.int .i64 ((i1 : Nat) : Int))))], []⟩, ⟨[(17, .c (.d (.int .i64 ((i1 : Nat) : Int))))], []⟩, [], [], []⟩, ⟨⟨[(16, .c (.d (.list 3 p0.length (fun i => encValue (p0.getD i default))))), (17, .c (.d (.int .i64 ((i1 : Nat) : Int))))], []⟩, ⟨[(18, .c (.eptr [.bool ((p0.getD i1 default).isText), .int .i64 ((p0.getD i1 default).n), .str ((p0.getD i1 default).s)]))], []⟩, [], [], []⟩, ⟨⟨[(18, .c (.eptr [.bool ((p0.getD i1 default).isText), .int .i64 ((p0.getD i1 default).n), .str ((p0.getD i1 default).s)]))], []⟩, ⟨[(19, .agg [.d (.bool ((p0.getD i1 default).isText)), .d (.int .i64 ((p0.getD i1 default).n)), .d (.str ((p0.getD i1 default).s))])], []⟩, [], [], []⟩, ⟨⟨[(1, .c (.d (.list 3 p1.length (fun i => encValue (p1.getD i default)))))], []⟩, ⟨[(20, .c (.d (.list 3 p1.length (fun i => encValue (p1.getD i default)))))], []⟩, [], [], []⟩, ⟨⟨[(5, .c (.d (.int .i64 ((i1 : Nat) : Int))))], []⟩, ⟨[(21, .c (.d (.int .i64 ((i1 : Nat) : Int))))], []⟩, [], [], []⟩, ⟨⟨[(20, .c (.d (.list 3 p1.length (fun i => encValue (p1.getD i default))))), (21, .c (.d (.int .i64 ((i1 : Nat) : Int))))], []⟩, ⟨[(22, .c (.eptr [.bool ((p1.getD i1 default).isText), .int .i64 ((p1.getD i1 default).n), .str ((p1.getD i1 default).s)]))], []⟩, [], [], []⟩, ⟨⟨[(22, .c (.eptr [.bool ((p1.getD i1 default).isText), .int .i64 ((p1.getD i1 default).n), .str ((p1.getD i1 default).s)]))], []⟩, ⟨[(23, .agg [.d (.bool ((p1.getD i1 default).isText)), .d (.int .i64 ((p1.getD i1 default).n)), .d (.str ((p1.getD i1 default).s))])], []⟩, [], [], []⟩, ⟨⟨[(19, .agg [.d (.bool ((p0.getD i1 default).isText)), .d (.int .i64 ((p0.getD i1 default).n)), .d (.str ((p0.getD i1 default).s))]), (23, .agg [.d (.bool ((p1.getD i1 default).isText)), .d (.int .i64 ((p1.getD i1 default).n)), .d (.str ((p1.getD i1 default).s))])], []⟩, ⟨[(24, .c (.d (.bool (!(eqValue (p0.getD i1 default) (p1.getD i1 default))))))], []⟩, [], [], []⟩]) (bef := [[], [], [0, 1], [0, 1, 2], [], [], [4, 5], [4, 5, 6], [0, 1, 2, 3, 4, 5, 6, 7]]) (tk := [0, 1, 12, 13, 24]) (sk := []) (s' := ⟨[(0, .c (.d (.list 3 p0.length (fun i => encValue (p0.getD i default))))), (1, .c (.d (.list 3 p1.length (fun i => encValue (p1.getD i default))))), (12, .c (.d (.int .i64 (p0.length : Int)))), (13, .c (.d (.int .i64 ((i1 : Nat) : Int)))), (24, .c (.d (.bool (!(eqValue (p0.getD i1 default) (p1.getD i1 default))))))], []⟩) (by kernel_rfl) (by kernel_rfl) (by kernel_rfl) ⟨?_, ?_, ?_, ?_, ?_, ?_, ?_, ?_, ?_, trivial⟩ (by kernel_rfl) ?_
      · exact DOk.step (.val (.c (.d (.list 3 p0.length (fun i => encValue (p0.getD i default))))) (True)) (fun r => by kernel_rfl) (fun r => by kernel_rfl) trivial (by kernel_rfl) (by kernel_rfl) (fun r => rfl)
      · exact DOk.step (.val (.c (.d (.int .i64 ((i1 : Nat) : Int)))) (True)) (fun r => by kernel_rfl) (fun r => by kernel_rfl) trivial (by kernel_rfl) (by kernel_rfl) (fun r => rfl)
      · exact DOk.step (.val (.c (.eptr [.bool ((p0.getD i1 default).isText), .int .i64 ((p0.getD i1 default).n), .str ((p0.getD i1 default).s)])) ((0 : Int) ≤ ((i1 : Nat) : Int) ∧ ((i1 : Nat) : Int) < (p0.length : Int))) (fun r => by kernel_rfl) (fun r => by kernel_rfl) ⟨by omega, by omega⟩ (by kernel_rfl) (by kernel_rfl) (fun r => rfl)
      · exact DOk.step (.val (.agg [.d (.bool ((p0.getD i1 default).isText)), .d (.int .i64 ((p0.getD i1 default).n)), .d (.str ((p0.getD i1 default).s))]) (True)) (fun r => by kernel_rfl) (fun r => by kernel_rfl) trivial (by kernel_rfl) (by kernel_rfl) (fun r => rfl)
      · exact DOk.step (.val (.c (.d (.list 3 p1.length (fun i => encValue (p1.getD i default))))) (True)) (fun r => by kernel_rfl) (fun r => by kernel_rfl) trivial (by kernel_rfl) (by kernel_rfl) (fun r => rfl)
      · exact DOk.step (.val (.c (.d (.int .i64 ((i1 : Nat) : Int)))) (True)) (fun r => by kernel_rfl) (fun r => by kernel_rfl) trivial (by kernel_rfl) (by kernel_rfl) (fun r => rfl)
      · exact DOk.step (.val (.c (.eptr [.bool ((p1.getD i1 default).isText), .int .i64 ((p1.getD i1 default).n), .str ((p1.getD i1 default).s)])) ((0 : Int) ≤ ((i1 : Nat) : Int) ∧ ((i1 : Nat) : Int) < (p1.length : Int))) (fun r => by kernel_rfl) (fun r => by kernel_rfl) hc4 (by kernel_rfl) (by kernel_rfl) (fun r => rfl)
      · exact DOk.step (.val (.agg [.d (.bool ((p1.getD i1 default).isText)), .d (.int .i64 ((p1.getD i1 default).n)), .d (.str ((p1.getD i1 default).s))]) (True)) (fun r => by kernel_rfl) (fun r => by kernel_rfl) trivial (by kernel_rfl) (by kernel_rfl) (fun r => rfl)
      · exact DOk.one fun r _ => One.eql (b := (eqValue (p0.getD i1 default) (p1.getD i1 default))) (d := 9) rfl (by kernel_rfl) rfl (.inr rfl) rfl rfl (by kernel_rfl) rfl (by kernel_rfl)
      show Tri _ _ _ _
      refine Tri.condP (b := (!(eqValue (p0.getD i1 default) (p1.getD i1 default)))) rfl h (fun h => ?_) (fun h => ?_)
      · refine Tri.seqS ?_
        refine Tri.reg ?_
        refine At.seg 1 [4] [] (s' := ⟨[(4, .c (.d (.bool false)))], []⟩) (c := True ∧ True) (by kernel_rfl) ⟨trivial, trivial⟩ ?_
        refine At.done rfl ?_
        show Tri _ _ _ _
        refine Tri.keep [4] [] (s' := ⟨[(4, .c (.d (.bool false)))], []⟩) (by kernel_rfl) ?_
        refine Tri.ret ?_
        cases h
        refine ⟨_, _, rfl, ⟨trivial, trivial⟩, rfl, rfl, ?_⟩
        intro k c h
        cases h
      · refine Tri.keep [13, 0, 1, 12] [] (s' := ⟨[(13, .c (.d (.int .i64 ((i1 : Nat) : Int)))), (0, .c (.d (.list 3 p0.length (fun i => encValue (p0.getD i default))))), (1, .c (.d (.list 3 p1.length (fun i => encValue (p1.getD i default))))), (12, .c (.d (.int .i64 (p0.length : Int))))], []⟩) (by kernel_rfl) ?_
        refine Tri.skip ?_
        cases h
        exact rfl
    · intro a3 h
      show Tri _ _ _ _
      refine Tri.seqS ?_
      refine Tri.reg ?_
      refine At.seg 1 [4] [] (s' := ⟨[(4, .c (.d (.bool true)))], []⟩) (c := True ∧ True) (by kernel_rfl) ⟨trivial, trivial⟩ ?_
      refine At.done rfl ?_
      show Tri _ _ _ _
      refine Tri.keep [4] [] (s' := ⟨[(4, .c (.d (.bool true)))], []⟩) (by kernel_rfl) ?_
      refine Tri.ret ?_
      cases h
      refine ⟨_, _, rfl, ⟨trivial, trivial⟩, rfl, rfl, ?_⟩
      intro k c h
      cases h
    · exact fun x s hx hr => by cases hx; exact hr

end Go.Av