import Derived.Test.YtcfbbbmnfloflaaN3a
namespace Go.Av
open Go Go.Proofs
set_option linter.unusedVariables false
set_option linter.unusedSimpArgs false

set_option maxRecDepth 100000 in
theorem freshetlaw03_ValueLine_ok {p0 : List Value} {p1 : List Value} {p2 : List Value} {q : Bool} (h : freshetlaw03_ValueLine p0 p1 p2 = some q) :
    Summ Try.prog 5 [.c (.d (.list 3 p0.length (fun i => encValue (p0.getD i default)))), .c (.d (.list 3 p1.length (fun i => encValue (p1.getD i default)))), .c (.d (.list 3 p2.length (fun i => encValue (p2.getD i default))))] [] (.c (.d (.bool q))) [] := by
  refine Summ.intro Try.func5 rfl (by kernel_rfl) (by kernel_rfl) [] rfl ?_
  rintro ⟨P, w0, G0, V, LL, lk, N, φ0, fx⟩ rfl rfl rfl rfl
  unfold freshetlaw03_ValueLine at h
  refine Tri.seqS ?_
  refine Tri.reg ?_
  refine At.seg 1 [0, 1, 2] [] (s' := ⟨[(0, .c (.d (.list 3 p0.length (fun i => encValue (p0.getD i default))))), (1, .c (.d (.list 3 p1.length (fun i => encValue (p1.getD i default))))), (2, .c (.d (.list 3 p2.length (fun i => encValue (p2.getD i default)))))], []⟩) (c := True ∧ True) (by kernel_rfl) ⟨trivial, trivial⟩ ?_
  refine At.done rfl ?_
  show Tri _ _ _ _
  refine Tri.seqS ?_
  refine Tri.seqS ?_
  refine Tri.reg ?_
  obtain ⟨r1, hr1, h⟩ := bind_elim h
  refine At.callA (caps := []) (xs := []) (freshetlaw03_orders_ok hr1) rfl rfl rfl rfl rfl rfl .nil rfl rfl ?_
  refine At.seg 1 [0, 1, 2, 11] [] (s' := ⟨[(0, .c (.d (.list 3 p0.length (fun i => encValue (p0.getD i default))))), (1, .c (.d (.list 3 p1.length (fun i => encValue (p1.getD i default))))), (2, .c (.d (.list 3 p2.length (fun i => encValue (p2.getD i default))))), (11, .c (.d (.bool (!r1))))], []⟩) (c := True ∧ True) (by kernel_rfl) ⟨trivial, trivial⟩ ?_
  refine At.done rfl ?_
  show Tri _ _ _ _
  refine Tri.condP (b := (!r1)) rfl h (fun h => ?_) (fun h => ?_)
  · refine Tri.seqS ?_
    refine Tri.reg ?_
    refine At.seg 1 [6] [] (s' := ⟨[(6, .c (.d (.bool false)))], []⟩) (c := True ∧ True) (by kernel_rfl) ⟨trivial, trivial⟩ ?_
    refine At.done rfl ?_
    show Tri _ _ _ _
    refine Tri.keep [6] [] (s' := ⟨[(6, .c (.d (.bool false)))], []⟩) (by kernel_rfl) ?_
    refine Tri.ret ?_
    cases h
    refine ⟨_, _, rfl, ⟨trivial, trivial⟩, rfl, rfl, ?_⟩
    intro k c h
    cases h
  · refine Tri.skip ?_
    show Tri _ _ _ _
    refine Tri.seqS ?_
    refine Tri.reg ?_
    refine At.seg 2 [0, 1, 2, 12, 13] [] (s' := ⟨[(0, .c (.d (.list 3 p0.length (fun i => encValue (p0.getD i default))))), (1, .c (.d (.list 3 p1.length (fun i => encValue (p1.getD i default))))), (2, .c (.d (.list 3 p2.length (fun i => encValue (p2.getD i default))))), (12, .c (.d (.list 3 p0.length (fun i => encValue (p0.getD i default))))), (13, .c (.d (.list 3 p1.length (fun i => encValue (p1.getD i default)))))], []⟩) (c := True ∧ True ∧ True) (by kernel_rfl) ⟨trivial, trivial, trivial⟩ ?_
    obtain ⟨r2, hr2, h⟩ := bind_elim h
    refine At.callA (caps := []) (xs := [.c (.d (.list 3 p0.length (fun i => encValue (p0.getD i default)))), .c (.d (.list 3 p1.length (fun i => encValue (p1.getD i default))))]) (value_Rows_ok hr2) rfl rfl rfl rfl rfl rfl (.cons (.refl _) (.cons (.refl _) .nil)) rfl rfl ?_
    refine At.seg 2 [0, 1, 2, 14, 15, 16] [] (s' := ⟨[(0, .c (.d (.list 3 p0.length (fun i => encValue (p0.getD i default))))), (1, .c (.d (.list 3 p1.length (fun i => encValue (p1.getD i default))))), (2, .c (.d (.list 3 p2.length (fun i => encValue (p2.getD i default))))), (14, .c (.d (.int .i64 r2))), (15, .c (.d (.list 3 p1.length (fun i => encValue (p1.getD i default))))), (16, .c (.d (.list 3 p2.length (fun i => encValue (p2.getD i default)))))], []⟩) (c := True ∧ True ∧ True) (by kernel_rfl) ⟨trivial, trivial, trivial⟩ ?_
    obtain ⟨r3, hr3, h⟩ := bind_elim h
    refine At.callA (caps := []) (xs := [.c (.d (.list 3 p1.length (fun i => encValue (p1.getD i default)))), .c (.d (.list 3 p2.length (fun i => encValue (p2.getD i default))))]) (value_Rows_ok hr3) rfl rfl rfl rfl rfl rfl (.cons (.refl _) (.cons (.refl _) .nil)) rfl rfl ?_
    refine At.seg 2 [0, 1, 14, 17, 18, 19] [] (s' := ⟨[(0, .c (.d (.list 3 p0.length (fun i => encValue (p0.getD i default))))), (1, .c (.d (.list 3 p1.length (fun i => encValue (p1.getD i default))))), (14, .c (.d (.int .i64 r2))), (17, .c (.d (.int .i64 r3))), (18, .c (.d (.list 3 p0.length (fun i => encValue (p0.getD i default))))), (19, .c (.d (.list 3 p2.length (fun i => encValue (p2.getD i default)))))], []⟩) (c := True ∧ True ∧ True) (by kernel_rfl) ⟨trivial, trivial, trivial⟩ ?_
    obtain ⟨r4, hr4, h⟩ := bind_elim h
    refine At.callA (caps := []) (xs := [.c (.d (.list 3 p0.length (fun i => encValue (p0.getD i default)))), .c (.d (.list 3 p2.length (fun i => encValue (p2.getD i default))))]) (value_Rows_ok hr4) rfl rfl rfl rfl rfl rfl (.cons (.refl _) (.cons (.refl _) .nil)) rfl rfl ?_
    refine At.seg 3 [0, 1, 7, 8, 9] [] (s' := ⟨[(0, .c (.d (.list 3 p0.length (fun i => encValue (p0.getD i default))))), (1, .c (.d (.list 3 p1.length (fun i => encValue (p1.getD i default))))), (7, .c (.d (.int .i64 r2))), (8, .c (.d (.int .i64 r3))), (9, .c (.d (.int .i64 r4)))], []⟩) (c := True ∧ True ∧ True ∧ True) (by kernel_rfl) ⟨trivial, trivial, trivial, trivial⟩ ?_
    refine At.done rfl ?_
    show Tri _ _ _ _
    refine Tri.seqS ?_
    refine Tri.seqJ (fun (a5 : Bool) => ⟨[(0, .c (.d (.list 3 p0.length (fun i => encValue (p0.getD i default))))), (1, .c (.d (.list 3 p1.length (fun i => encValue (p1.getD i default))))), (7, .c (.d (.int .i64 r2))), (56, .c (.d (.bool a5)))], []⟩) h (fun a5 h => ?_) (fun j6 h => ?_)
    · show Tri _ _ ⟨[(0, .c (.d (.list 3 p0.length (fun i => encValue (p0.getD i default))))), (1, .c (.d (.list 3 p1.length (fun i => encValue (p1.getD i default))))), (7, .c (.d (.int .i64 r2))), (56, .c (.d (.bool a5)))], []⟩ _
      refine Tri.condP (b := a5) rfl h (fun h => ?_) (fun h => ?_)
      · refine Tri.seqS ?_
        refine Tri.reg ?_
        refine At.seg 1 [6] [] (s' := ⟨[(6, .c (.d (.bool false)))], []⟩) (c := True ∧ True) (by kernel_rfl) ⟨trivial, trivial⟩ ?_
        refine At.done rfl ?_
        show Tri _ _ _ _
        refine Tri.keep [6] [] (s' := ⟨[(6, .c (.d (.bool false)))], []⟩) (by kernel_rfl) ?_
        refine Tri.ret ?_
        cases h
        refine ⟨_, _, rfl, ⟨trivial, trivial⟩, rfl, rfl, ?_⟩
        intro k c h
        cases h
      · refine Tri.skip ?_
        show Tri _ _ _ _
        refine Tri.seqJ (fun (a7 : Bool) => ⟨[(6, .c (.d (.bool a7)))], []⟩) h (fun a7 h => ?_) (fun j8 h => ?_)
        · show Tri _ _ ⟨[(6, .c (.d (.bool a7)))], []⟩ _
          refine Tri.keep [6] [] (s' := ⟨[(6, .c (.d (.bool a7)))], []⟩) (by kernel_rfl) ?_
          refine Tri.ret ?_
          cases h
          refine ⟨_, _, rfl, ⟨trivial, trivial⟩, rfl, rfl, ?_⟩
          intro k c h
          cases h
        · refine Tri.reg ?_
          refine At.seg 1 [0, 1, 7, 57] [] (s' := ⟨[(0, .c (.d (.list 3 p0.length (fun i => encValue (p0.getD i default))))), (1, .c (.d (.list 3 p1.length (fun i => encValue (p1.getD i default))))), (7, .c (.d (.int .i64 r2))), (57, .c (.d (.list 3 p0.length (fun i => encValue (p0.getD i default)))))], []⟩) (c := True ∧ True) (by kernel_rfl) ⟨trivial, trivial⟩ ?_
          obtain ⟨r9, hr9, h⟩ := bind_elim h
          refine At.callA (caps := []) (xs := [.c (.d (.list 3 p0.length (fun i => encValue (p0.getD i default))))]) (value_Check_ok hr9) rfl rfl rfl rfl rfl rfl (.cons (.refl _) .nil) rfl rfl ?_
          refine At.seg 2 [0, 1, 7, 60] [] (s' := ⟨[(0, .c (.d (.list 3 p0.length (fun i => encValue (p0.getD i default))))), (1, .c (.d (.list 3 p1.length (fun i => encValue (p1.getD i default))))), (7, .c (.d (.int .i64 r2))), (60, .c (.d (.bool (!decide (r9 = 0)))))], []⟩) (c := True ∧ True ∧ True) (by kernel_rfl) ⟨trivial, trivial, trivial⟩ ?_
          refine At.case (fun b => ⟨[(0, .c (.d (.list 3 p0.length (fun i => encValue (p0.getD i default))))), (1, .c (.d (.list 3 p1.length (fun i => encValue (p1.getD i default))))), (7, .c (.d (.int .i64 r2))), (60, .c (.d (.bool b)))], []⟩) (b := (!decide (r9 = 0))) h (fun h => ?_) (fun h => ?_)
          · refine At.seg 13 [6] [] (s' := ⟨[(6, .c (.d (.bool true)))], []⟩) (c := True ∧ True ∧ True ∧ True ∧ True) (by kernel_rfl) ⟨trivial, trivial, trivial, trivial, trivial⟩ ?_
            refine At.done rfl ?_
            exact ⟨_, h, rfl⟩
          · refine At.seg 1 [0, 1, 7, 60, 61] [] (s' := ⟨[(0, .c (.d (.list 3 p0.length (fun i => encValue (p0.getD i default))))), (1, .c (.d (.list 3 p1.length (fun i => encValue (p1.getD i default))))), (7, .c (.d (.int .i64 r2))), (60, .c (.d (.bool false))), (61, .c (.d (.list 3 p1.length (fun i => encValue (p1.getD i default)))))], []⟩) (c := True ∧ True) (by kernel_rfl) ⟨trivial, trivial⟩ ?_
            obtain ⟨r10, hr10, h⟩ := bind_elim h
            refine At.callA (caps := []) (xs := [.c (.d (.list 3 p1.length (fun i => encValue (p1.getD i default))))]) (value_Check_ok hr10) rfl rfl rfl rfl rfl rfl (.cons (.refl _) .nil) rfl rfl ?_
            refine At.seg 3 [0, 1, 7, 65] [] (s' := ⟨[(0, .c (.d (.list 3 p0.length (fun i => encValue (p0.getD i default))))), (1, .c (.d (.list 3 p1.length (fun i => encValue (p1.getD i default))))), (7, .c (.d (.int .i64 r2))), (65, .c (.d (.bool (!decide (r10 = 0)))))], []⟩) (c := True ∧ True ∧ True ∧ True) (by kernel_rfl) ⟨trivial, trivial, trivial, trivial⟩ ?_
            refine At.case (fun b => ⟨[(0, .c (.d (.list 3 p0.length (fun i => encValue (p0.getD i default))))), (1, .c (.d (.list 3 p1.length (fun i => encValue (p1.getD i default))))), (7, .c (.d (.int .i64 r2))), (65, .c (.d (.bool b)))], []⟩) (b := (!decide (r10 = 0))) h (fun h => ?_) (fun h => ?_)
            · refine At.seg 8 [6] [] (s' := ⟨[(6, .c (.d (.bool true)))], []⟩) (c := True ∧ True ∧ True) (by kernel_rfl) ⟨trivial, trivial, trivial⟩ ?_
              refine At.done rfl ?_
              exact ⟨_, h, rfl⟩
            · refine At.seg 4 [65, 67, 68, 69] [] (s' := ⟨[(65, .c (.d (.bool false))), (67, .c (.d (.bool (decide (r2 = 0))))), (68, .c (.d (.list 3 p0.length (fun i => encValue (p0.getD i default))))), (69, .c (.d (.list 3 p1.length (fun i => encValue (p1.getD i default)))))], []⟩) (c := True ∧ True ∧ True ∧ True ∧ True) (by kernel_rfl) ⟨trivial, trivial, trivial, trivial, trivial⟩ ?_
              obtain ⟨r11, hr11, h⟩ := bind_elim h
              refine At.callA (caps := []) (xs := [.c (.d (.list 3 p0.length (fun i => encValue (p0.getD i default)))), .c (.d (.list 3 p1.length (fun i => encValue (p1.getD i default))))]) (freshetref03_Same_ok hr11) rfl rfl rfl rfl rfl rfl (.cons (.refl _) (.cons (.refl _) .nil)) rfl rfl ?_
              refine At.seg 3 [6] [] (s' := ⟨[(6, .c (.d (.bool ((decide (r2 = 0)) == r11))))], []⟩) (c := True ∧ True ∧ True ∧ True) (by kernel_rfl) ⟨trivial, trivial, trivial, trivial⟩ ?_
              refine At.done rfl ?_
              exact ⟨_, h, rfl⟩
    · refine Tri.reg ?_
      refine At.seg 2 [0, 1, 7, 8, 9, 21, 22] [] (s' := ⟨[(0, .c (.d (.list 3 p0.length (fun i => encValue (p0.getD i default))))), (1, .c (.d (.list 3 p1.length (fun i => encValue (p1.getD i default))))), (7, .c (.d (.int .i64 r2))), (8, .c (.d (.int .i64 r3))), (9, .c (.d (.int .i64 r4))), (21, .c (.d (.list 3 p1.length (fun i => encValue (p1.getD i default))))), (22, .c (.d (.list 3 p0.length (fun i => encValue (p0.getD i default)))))], []⟩) (c := True ∧ True ∧ True) (by kernel_rfl) ⟨trivial, trivial, trivial⟩ ?_
      obtain ⟨r12, hr12, h⟩ := bind_elim h
      refine At.callA (caps := []) (xs := [.c (.d (.list 3 p1.length (fun i => encValue (p1.getD i default)))), .c (.d (.list 3 p0.length (fun i => encValue (p0.getD i default))))]) (value_Rows_ok hr12) rfl rfl rfl rfl rfl rfl (.cons (.refl _) (.cons (.refl _) .nil)) rfl rfl ?_
      refine At.seg 4 [0, 1, 7, 8, 9, 27] [] (s' := ⟨[(0, .c (.d (.list 3 p0.length (fun i => encValue (p0.getD i default))))), (1, .c (.d (.list 3 p1.length (fun i => encValue (p1.getD i default))))), (7, .c (.d (.int .i64 r2))), (8, .c (.d (.int .i64 r3))), (9, .c (.d (.int .i64 r4))), (27, .c (.d (.bool (!decide (r12 = (IntKind.i64.wrap (0 - r2)))))))], []⟩) (c := True ∧ True ∧ True ∧ True ∧ True) (by kernel_rfl) ⟨trivial, trivial, trivial, trivial, trivial⟩ ?_
      refine At.case (fun b => ⟨[(0, .c (.d (.list 3 p0.length (fun i => encValue (p0.getD i default))))), (1, .c (.d (.list 3 p1.length (fun i => encValue (p1.getD i default))))), (7, .c (.d (.int .i64 r2))), (8, .c (.d (.int .i64 r3))), (9, .c (.d (.int .i64 r4))), (27, .c (.d (.bool b)))], []⟩) (b := (!decide (r12 = (IntKind.i64.wrap (0 - r2))))) h (fun h => ?_) (fun h => ?_)
      · refine At.seg 29 [0, 1, 7, 56] [] (s' := ⟨[(0, .c (.d (.list 3 p0.length (fun i => encValue (p0.getD i default))))), (1, .c (.d (.list 3 p1.length (fun i => encValue (p1.getD i default))))), (7, .c (.d (.int .i64 r2))), (56, .c (.d (.bool true)))], []⟩) (c := True ∧ True ∧ True ∧ True) (by kernel_rfl) ⟨trivial, trivial, trivial, trivial⟩ ?_
        refine At.done rfl ?_
        exact ⟨_, h, rfl⟩
      · refine At.seg 2 [0, 1, 7, 8, 9, 27, 28, 29] [] (s' := ⟨[(0, .c (.d (.list 3 p0.length (fun i => encValue (p0.getD i default))))), (1, .c (.d (.list 3 p1.length (fun i => encValue (p1.getD i default))))), (7, .c (.d (.int .i64 r2))), (8, .c (.d (.int .i64 r3))), (9, .c (.d (.int .i64 r4))), (27, .c (.d (.bool false))), (28, .c (.d (.list 3 p0.length (fun i => encValue (p0.getD i default))))), (29, .c (.d (.list 3 p0.length (fun i => encValue (p0.getD i default)))))], []⟩) (c := True ∧ True ∧ True) (by kernel_rfl) ⟨trivial, trivial, trivial⟩ ?_
        obtain ⟨r13, hr13, h⟩ := bind_elim h
        refine At.callA (caps := []) (xs := [.c (.d (.list 3 p0.length (fun i => encValue (p0.getD i default)))), .c (.d (.list 3 p0.length (fun i => encValue (p0.getD i default))))]) (value_Rows_ok hr13) rfl rfl rfl rfl rfl rfl (.cons (.refl _) (.cons (.refl _) .nil)) rfl rfl ?_
        refine At.seg 3 [0, 1, 7, 8, 9, 33] [] (s' := ⟨[(0, .c (.d (.list 3 p0.length (fun i => encValue (p0.getD i default))))), (1, .c (.d (.list 3 p1.length (fun i => encValue (p1.getD i default))))), (7, .c (.d (.int .i64 r2))), (8, .c (.d (.int .i64 r3))), (9, .c (.d (.int .i64 r4))), (33, .c (.d (.bool (!decide (r13 = 0)))))], []⟩) (c := True ∧ True ∧ True ∧ True) (by kernel_rfl) ⟨trivial, trivial, trivial, trivial⟩ ?_
        refine At.case (fun b => ⟨[(0, .c (.d (.list 3 p0.length (fun i => encValue (p0.getD i default))))), (1, .c (.d (.list 3 p1.length (fun i => encValue (p1.getD i default))))), (7, .c (.d (.int .i64 r2))), (8, .c (.d (.int .i64 r3))), (9, .c (.d (.int .i64 r4))), (33, .c (.d (.bool b)))], []⟩) (b := (!decide (r13 = 0))) h (fun h => ?_) (fun h => ?_)
        · refine At.seg 23 [0, 1, 7, 56] [] (s' := ⟨[(0, .c (.d (.list 3 p0.length (fun i => encValue (p0.getD i default))))), (1, .c (.d (.list 3 p1.length (fun i => encValue (p1.getD i default))))), (7, .c (.d (.int .i64 r2))), (56, .c (.d (.bool true)))], []⟩) (c := True ∧ True) (by kernel_rfl) ⟨trivial, trivial⟩ ?_
          refine At.done rfl ?_
          exact ⟨_, h, rfl⟩
        · refine At.seg 3 [0, 1, 7, 8, 9, 33, 36] [] (s' := ⟨[(0, .c (.d (.list 3 p0.length (fun i => encValue (p0.getD i default))))), (1, .c (.d (.list 3 p1.length (fun i => encValue (p1.getD i default))))), (7, .c (.d (.int .i64 r2))), (8, .c (.d (.int .i64 r3))), (9, .c (.d (.int .i64 r4))), (33, .c (.d (.bool false))), (36, .c (.d (.bool (decide (r2 ≤ 0)))))], []⟩) (c := True ∧ True ∧ True ∧ True) (by kernel_rfl) ⟨trivial, trivial, trivial, trivial⟩ ?_
          refine At.case (fun b => ⟨[(0, .c (.d (.list 3 p0.length (fun i => encValue (p0.getD i default))))), (1, .c (.d (.list 3 p1.length (fun i => encValue (p1.getD i default))))), (7, .c (.d (.int .i64 r2))), (8, .c (.d (.int .i64 r3))), (9, .c (.d (.int .i64 r4))), (33, .c (.d (.bool false))), (36, .c (.d (.bool b)))], []⟩) (b := (decide (r2 ≤ 0))) h (fun h => ?_) (fun h => ?_)
          · refine At.seg 4 [0, 1, 7, 8, 9, 33, 40] [] (s' := ⟨[(0, .c (.d (.list 3 p0.length (fun i => encValue (p0.getD i default))))), (1, .c (.d (.list 3 p1.length (fun i => encValue (p1.getD i default))))), (7, .c (.d (.int .i64 r2))), (8, .c (.d (.int .i64 r3))), (9, .c (.d (.int .i64 r4))), (33, .c (.d (.bool false))), (40, .c (.d (.bool (decide (r3 ≤ 0)))))], []⟩) (c := True ∧ True ∧ True ∧ True ∧ True) (by kernel_rfl) ⟨trivial, trivial, trivial, trivial, trivial⟩ ?_
            refine At.case (fun b => ⟨[(0, .c (.d (.list 3 p0.length (fun i => encValue (p0.getD i default))))), (1, .c (.d (.list 3 p1.length (fun i => encValue (p1.getD i default))))), (7, .c (.d (.int .i64 r2))), (8, .c (.d (.int .i64 r3))), (9, .c (.d (.int .i64 r4))), (33, .c (.d (.bool false))), (40, .c (.d (.bool b)))], []⟩) (b := (decide (r3 ≤ 0))) h (fun h => ?_) (fun h => ?_)
            · refine At.seg 3 [0, 1, 7, 8, 9, 33, 40, 43] [] (s' := ⟨[(0, .c (.d (.list 3 p0.length (fun i => encValue (p0.getD i default))))), (1, .c (.d (.list 3 p1.length (fun i => encValue (p1.getD i default))))), (7, .c (.d (.int .i64 r2))), (8, .c (.d (.int .i64 r3))), (9, .c (.d (.int .i64 r4))), (33, .c (.d (.bool false))), (40, .c (.d (.bool true))), (43, .c (.d (.bool (decide (0 < r4)))))], []⟩) (c := True ∧ True ∧ True ∧ True) (by kernel_rfl) ⟨trivial, trivial, trivial, trivial⟩ ?_
              refine At.case (fun b => ⟨[(0, .c (.d (.list 3 p0.length (fun i => encValue (p0.getD i default))))), (1, .c (.d (.list 3 p1.length (fun i => encValue (p1.getD i default))))), (7, .c (.d (.int .i64 r2))), (8, .c (.d (.int .i64 r3))), (9, .c (.d (.int .i64 r4))), (33, .c (.d (.bool false))), (40, .c (.d (.bool true))), (43, .c (.d (.bool b)))], []⟩) (b := (decide (0 < r4))) h (fun h => ?_) (fun h => ?_)
              · refine At.seg 13 [0, 1, 7, 56] [] (s' := ⟨[(0, .c (.d (.list 3 p0.length (fun i => encValue (p0.getD i default))))), (1, .c (.d (.list 3 p1.length (fun i => encValue (p1.getD i default))))), (7, .c (.d (.int .i64 r2))), (56, .c (.d (.bool true)))], []⟩) (c := True ∧ True ∧ True ∧ True) (by kernel_rfl) ⟨trivial, trivial, trivial, trivial⟩ ?_
                refine At.done rfl ?_
                exact ⟨_, h, rfl⟩
              · refine At.seg 3 [0, 1, 7, 8, 33, 40, 43, 46] [] (s' := ⟨[(0, .c (.d (.list 3 p0.length (fun i => encValue (p0.getD i default))))), (1, .c (.d (.list 3 p1.length (fun i => encValue (p1.getD i default))))), (7, .c (.d (.int .i64 r2))), (8, .c (.d (.int .i64 r3))), (33, .c (.d (.bool false))), (40, .c (.d (.bool true))), (43, .c (.d (.bool false))), (46, .c (.d (.bool (decide (r4 = 0)))))], []⟩) (c := True ∧ True ∧ True ∧ True) (by kernel_rfl) ⟨trivial, trivial, trivial, trivial⟩ ?_
                refine At.case (fun b => ⟨[(0, .c (.d (.list 3 p0.length (fun i => encValue (p0.getD i default))))), (1, .c (.d (.list 3 p1.length (fun i => encValue (p1.getD i default))))), (7, .c (.d (.int .i64 r2))), (8, .c (.d (.int .i64 r3))), (33, .c (.d (.bool false))), (40, .c (.d (.bool true))), (43, .c (.d (.bool false))), (46, .c (.d (.bool b)))], []⟩) (b := (decide (r4 = 0))) h (fun h => ?_) (fun h => ?_)
                · refine At.seg 3 [0, 1, 7, 8, 33, 40, 43, 46, 49] [] (s' := ⟨[(0, .c (.d (.list 3 p0.length (fun i => encValue (p0.getD i default))))), (1, .c (.d (.list 3 p1.length (fun i => encValue (p1.getD i default))))), (7, .c (.d (.int .i64 r2))), (8, .c (.d (.int .i64 r3))), (33, .c (.d (.bool false))), (40, .c (.d (.bool true))), (43, .c (.d (.bool false))), (46, .c (.d (.bool true))), (49, .c (.d (.bool (decide (r2 < 0)))))], []⟩) (c := True ∧ True ∧ True ∧ True) (by kernel_rfl) ⟨trivial, trivial, trivial, trivial⟩ ?_
                  refine At.case (fun b => ⟨[(0, .c (.d (.list 3 p0.length (fun i => encValue (p0.getD i default))))), (1, .c (.d (.list 3 p1.length (fun i => encValue (p1.getD i default))))), (7, .c (.d (.int .i64 r2))), (8, .c (.d (.int .i64 r3))), (33, .c (.d (.bool false))), (40, .c (.d (.bool true))), (43, .c (.d (.bool false))), (46, .c (.d (.bool true))), (49, .c (.d (.bool b)))], []⟩) (b := (decide (r2 < 0))) h (fun h => ?_) (fun h => ?_)
                  · refine At.seg 7 [0, 1, 7, 56] [] (s' := ⟨[(0, .c (.d (.list 3 p0.length (fun i => encValue (p0.getD i default))))), (1, .c (.d (.list 3 p1.length (fun i => encValue (p1.getD i default))))), (7, .c (.d (.int .i64 r2))), (56, .c (.d (.bool true)))], []⟩) (c := True ∧ True ∧ True ∧ True ∧ True ∧ True) (by kernel_rfl) ⟨trivial, trivial, trivial, trivial, trivial, trivial⟩ ?_
                    refine At.done rfl ?_
                    exact ⟨_, h, rfl⟩
                  · refine At.seg 7 [0, 1, 7, 56] [] (s' := ⟨[(0, .c (.d (.list 3 p0.length (fun i => encValue (p0.getD i default))))), (1, .c (.d (.list 3 p1.length (fun i => encValue (p1.getD i default))))), (7, .c (.d (.int .i64 r2))), (56, .c (.d (.bool (decide (r3 < 0)))))], []⟩) (c := True ∧ True ∧ True ∧ True ∧ True ∧ True ∧ True ∧ True) (by kernel_rfl) ⟨trivial, trivial, trivial, trivial, trivial, trivial, trivial, trivial⟩ ?_
                    refine At.done rfl ?_
                    exact ⟨_, h, rfl⟩
                · refine At.seg 10 [0, 1, 7, 56] [] (s' := ⟨[(0, .c (.d (.list 3 p0.length (fun i => encValue (p0.getD i default))))), (1, .c (.d (.list 3 p1.length (fun i => encValue (p1.getD i default))))), (7, .c (.d (.int .i64 r2))), (56, .c (.d (.bool false)))], []⟩) (c := True ∧ True ∧ True ∧ True ∧ True) (by kernel_rfl) ⟨trivial, trivial, trivial, trivial, trivial⟩ ?_
                  refine At.done rfl ?_
                  exact ⟨_, h, rfl⟩
            · refine At.seg 16 [0, 1, 7, 56] [] (s' := ⟨[(0, .c (.d (.list 3 p0.length (fun i => encValue (p0.getD i default))))), (1, .c (.d (.list 3 p1.length (fun i => encValue (p1.getD i default))))), (7, .c (.d (.int .i64 r2))), (56, .c (.d (.bool false)))], []⟩) (c := True ∧ True ∧ True) (by kernel_rfl) ⟨trivial, trivial, trivial⟩ ?_
              refine At.done rfl ?_
              exact ⟨_, h, rfl⟩
          · refine At.seg 20 [0, 1, 7, 56] [] (s' := ⟨[(0, .c (.d (.list 3 p0.length (fun i => encValue (p0.getD i default))))), (1, .c (.d (.list 3 p1.length (fun i => encValue (p1.getD i default))))), (7, .c (.d (.int .i64 r2))), (56, .c (.d (.bool false)))], []⟩) (c := True ∧ True ∧ True ∧ True ∧ True) (by kernel_rfl) ⟨trivial, trivial, trivial, trivial, trivial⟩ ?_
            refine At.done rfl ?_
            exact ⟨_, h, rfl⟩

set_option maxRecDepth 100000 in
theorem value_Cols_ok {p0 : List Value} {p1 : List Int} {q : (List Value) × Int} (h : value_Cols p0 p1 = some q) :
    Summ Try.prog 19 [.c (.d (.list 3 p0.length (fun i => encValue (p0.getD i default)))), .c (.d (.list 1 p1.length (fun i => encInt .i64 (p1.getD i default))))] [] (.tup [(false, [.d (.list 3 q.1.length (fun i => encValue (q.1.getD i default)))]), (false, [.d (.int .i64 q.2)])]) [] := by
  refine Summ.intro Try.func19 rfl (by kernel_rfl) (by kernel_rfl) [] rfl ?_
  rintro ⟨P, w0, G0, V, LL, lk, N, φ0, fx⟩ rfl rfl rfl rfl
  unfold value_Cols at h
  refine Tri.seqS ?_
  refine Tri.reg ?_
  refine At.seg 2 [0, 1] [] (s' := ⟨[(0, .c (.d (.list 3 p0.length (fun i => encValue (p0.getD i default))))), (1, .c (.d (.list 1 p1.length (fun i => encInt .i64 (p1.getD i default)))))], []⟩) (c := True ∧ True ∧ True) (by kernel_rfl) ⟨trivial, trivial, trivial⟩ ?_
  refine At.done rfl ?_
  show Tri _ _ _ _
  refine Tri.seqS ?_
  refine Tri.seqS ?_
  refine Tri.reg ?_
  refine At.seg 1 [0, 1, 10] [] (s' := ⟨[(0, .c (.d (.list 3 p0.length (fun i => encValue (p0.getD i default))))), (1, .c (.d (.list 1 p1.length (fun i => encInt .i64 (p1.getD i default))))), (10, .c (.d (.list 3 p0.length (fun i => encValue (p0.getD i default)))))], []⟩) (c := True ∧ True) (by kernel_rfl) ⟨trivial, trivial⟩ ?_
  obtain ⟨r1, hr1, h⟩ := bind_elim h
  refine At.callA (caps := []) (xs := [.c (.d (.list 3 p0.length (fun i => encValue (p0.getD i default))))]) (value_Check_ok hr1) rfl rfl rfl rfl rfl rfl (.cons (.refl _) .nil) rfl rfl ?_
  refine At.seg 1 [0, 1, 6] [] (s' := ⟨[(0, .c (.d (.list 3 p0.length (fun i => encValue (p0.getD i default))))), (1, .c (.d (.list 1 p1.length (fun i => encInt .i64 (p1.getD i default))))), (6, .c (.d (.int .i64 r1)))], []⟩) (c := True ∧ True) (by kernel_rfl) ⟨trivial, trivial⟩ ?_
  refine At.done rfl ?_
  show Tri _ _ _ _
  refine Tri.seqS ?_
  refine Tri.reg ?_
  refine At.seg 2 [0, 1, 6, 13] [] (s' := ⟨[(0, .c (.d (.list 3 p0.length (fun i => encValue (p0.getD i default))))), (1, .c (.d (.list 1 p1.length (fun i => encInt .i64 (p1.getD i default))))), (6, .c (.d (.int .i64 r1))), (13, .c (.d (.bool (!decide (r1 = 0)))))], []⟩) (c := True ∧ True ∧ True) (by kernel_rfl) ⟨trivial, trivial, trivial⟩ ?_
  refine At.done rfl ?_
  show Tri _ _ _ _
  refine Tri.condP (b := (!decide (r1 = 0))) rfl h (fun h => ?_) (fun h => ?_)
  · refine Tri.seqS ?_
    refine Tri.reg ?_
    refine At.seg 3 [4, 5] [] (s' := ⟨[(4, .c (.zero)), (5, .c (.d (.int .i64 r1)))], []⟩) (c := True ∧ True ∧ True ∧ True) (by kernel_rfl) ⟨trivial, trivial, trivial, trivial⟩ ?_
    refine At.done rfl ?_
    show Tri _ _ _ _
    refine Tri.keep [4, 5] [] (s' := ⟨[(4, .c (.zero)), (5, .c (.d (.int .i64 r1)))], []⟩) (by kernel_rfl) ?_
    refine Tri.le [] (fun k hk => by cases hk) ⟨[(4, .c (.d (.list 3 ([] : List Value).length (fun i => encValue (([] : List Value).getD i default))))), (5, .c (.d (.int .i64 r1)))], []⟩ ⟨⟨_, rfl, .c (.zero _ _)⟩, ⟨_, rfl, .refl _⟩, trivial⟩ trivial ?_
    refine Tri.ret ?_
    cases h
    refine ⟨_, _, rfl, ⟨trivial, ⟨trivial, trivial⟩⟩, rfl, rfl, ?_⟩
    intro k c h
    cases h
  · refine Tri.skip ?_
    show Tri _ _ _ _
    refine Tri.seqS ?_
    refine Tri.reg ?_
    refine At.seg 1 [0, 1, 7] [] (s' := ⟨[(0, .c (.d (.list 3 p0.length (fun i => encValue (p0.getD i default))))), (1, .c (.d (.list 1 p1.length (fun i => encInt .i64 (p1.getD i default))))), (7, .c (.zero))], []⟩) (c := True ∧ True) (by kernel_rfl) ⟨trivial, trivial⟩ ?_
    refine At.done rfl ?_
    show Tri _ _ _ _
    refine Tri.seqS ?_
    refine Tri.seqS ?_
    refine Tri.reg ?_
    refine At.seg 3 [0, 7, 15, 16, 17] [] (s' := ⟨[(0, .c (.d (.list 3 p0.length (fun i => encValue (p0.getD i default))))), (7, .c (.zero)), (15, .c (.d (.list 1 p1.length (fun i => encInt .i64 (p1.getD i default))))), (16, .c (.d (.int .i64 (p1.length : Int)))), (17, .c (.d (.int .i64 0)))], []⟩) (c := True ∧ True ∧ True ∧ True) (by kernel_rfl) ⟨trivial, trivial, trivial, trivial⟩ ?_
    refine At.done rfl ?_
    show Tri _ _ _ _
    refine Tri.lenOf (t := 15) rfl fun hlena3 => ?_
    refine Tri.newOwn (t := 7) (k := 1007) (es := 3) (fun i => encValue (([] : List Value).getD i default)) rfl rfl rfl ?_
    refine Tri.keep [17, 0, 7, 15, 16] [1007] (s' := idx 17 0 ⟨[(0, .c (.d (.list 3 p0.length (fun i => encValue (p0.getD i default))))), (7, .c (.own 1007 3 0 (([] : List Value).length))), (15, .c (.d (.list 1 p1.length (fun i => encInt .i64 (p1.getD i default))))), (16, .c (.d (.int .i64 (p1.length : Int))))], [(1007, .vec 3 ([] : List Value).length (fun i => encValue (([] : List Value).getD i default)))]⟩) (by kernel_rfl) ?_
    refine Tri.range (n := p1.length) (st0 := ([] : List Value)) (fun (x : (List Value) × Int) s => RetAt Try.prog Try.f19 (.tup [(false, [.d (.list 3 x.1.length (fun i => encValue (x.1.getD i default)))]), (false, [.d (.int .i64 x.2)])]) [] s) (fun (a3 : List Value) => ⟨[(0, .c (.d (.list 3 p0.length (fun i => encValue (p0.getD i default))))), (7, .c (.own 1007 3 0 a3.length)), (15, .c (.d (.list 1 p1.length (fun i => encInt .i64 (p1.getD i default))))), (16, .c (.d (.int .i64 (p1.length : Int))))], [(1007, .vec 3 a3.length (fun i => encValue (a3.getD i default)))]⟩) (fun (a3 : List Value) => ⟨[(0, .c (.d (.list 3 p0.length (fun i => encValue (p0.getD i default))))), (7, .c (.own 1007 3 0 a3.length)), (15, .c (.d (.list 1 p1.length (fun i => encInt .i64 (p1.getD i default))))), (16, .c (.d (.int .i64 (p1.length : Int))))], [(1007, .vec 3 a3.length (fun i => encValue (a3.getD i default)))]⟩) (fun i => decide ((i : Int) < (p1.length : Int))) [18, 17, 0, 7, 15, 16] [1007] [0, 7, 15, 16] [1007] [17, 0, 7, 15, 16] [1007] h hlena3 rfl ?_ ?_ ?_ ?_ ?_ ?_ ?_ ?_
    · exact fun i a => ⟨True ∧ True, by kernel_rfl, ⟨trivial, trivial⟩⟩
    · exact fun i hi => decide_eq_true (by omega)
    · exact decide_eq_false (by omega)
    · exact fun a => by kernel_rfl
    · exact fun i a => ⟨True ∧ True ∧ True, by kernel_rfl, ⟨trivial, trivial, trivial⟩⟩
    · intro i2 a3 c hii2 h
      refine Tri.seqS ?_
      refine Tri.reg ?_
      refine At.seg 3 [0, 7, 9, 15, 16, 17] [1007] (s' := ⟨[(0, .c (.d (.list 3 p0.length (fun i => encValue (p0.getD i default))))), (7, .c (.own 1007 3 0 a3.length)), (9, .c (.d (.int .i64 (p1.getD i2 default)))), (15, .c (.d (.list 1 p1.length (fun i => encInt .i64 (p1.getD i default))))), (16, .c (.d (.int .i64 (p1.length : Int)))), (17, .c (.d (.int .i64 ((i2 : Nat) : Int))))], [(1007, .vec 3 a3.length (fun i => encValue (a3.getD i default)))]⟩) (c := ((0 : Int) ≤ ((i2 : Nat) : Int) ∧ ((i2 : Nat) : Int) < (p1.length : Int)) ∧ True ∧ True ∧ True) (by kernel_rfl) ⟨⟨by omega, by omega⟩, trivial, trivial, trivial⟩ ?_
      refine At.done rfl ?_
      show Tri _ _ _ _
      refine Tri.seqS ?_
      refine Tri.seqJ (fun (a5 : Bool) => ⟨[(0, .c (.d (.list 3 p0.length (fun i => encValue (p0.getD i default))))), (7, .c (.own 1007 3 0 a3.length)), (9, .c (.d (.int .i64 (p1.getD i2 default)))), (15, .c (.d (.list 1 p1.length (fun i => encInt .i64 (p1.getD i default))))), (16, .c (.d (.int .i64 (p1.length : Int)))), (17, .c (.d (.int .i64 ((i2 : Nat) : Int)))), (28, .c (.d (.bool a5)))], [(1007, .vec 3 a3.length (fun i => encValue (a3.getD i default)))]⟩) h (fun a5 h => ?_) (fun j6 h => ?_)
      · show Tri _ _ ⟨[(0, .c (.d (.list 3 p0.length (fun i => encValue (p0.getD i default))))), (7, .c (.own 1007 3 0 a3.length)), (9, .c (.d (.int .i64 (p1.getD i2 default)))), (15, .c (.d (.list 1 p1.length (fun i => encInt .i64 (p1.getD i default))))), (16, .c (.d (.int .i64 (p1.length : Int)))), (17, .c (.d (.int .i64 ((i2 : Nat) : Int)))), (28, .c (.d (.bool a5)))], [(1007, .vec 3 a3.length (fun i => encValue (a3.getD i default)))]⟩ _
        refine Tri.condP (b := a5) rfl h (fun h => ?_) (fun h => ?_)
        · refine Tri.seqS ?_
          refine Tri.reg ?_
          refine At.seg 2 [4, 5] [] (s' := ⟨[(4, .c (.zero)), (5, .c (.d (.int .i64 1)))], []⟩) (c := True ∧ True ∧ True) (by kernel_rfl) ⟨trivial, trivial, trivial⟩ ?_
          refine At.done rfl ?_
          show Tri _ _ _ _
          refine Tri.keep [4, 5] [] (s' := ⟨[(4, .c (.zero)), (5, .c (.d (.int .i64 1)))], []⟩) (by kernel_rfl) ?_
          refine Tri.le [] (fun k hk => by cases hk) ⟨[(4, .c (.d (.list 3 ([] : List Value).length (fun i => encValue (([] : List Value).getD i default))))), (5, .c (.d (.int .i64 1)))], []⟩ ⟨⟨_, rfl, .c (.zero _ _)⟩, ⟨_, rfl, .refl _⟩, trivial⟩ trivial ?_
          refine Tri.ret ?_
          cases h
          refine ⟨_, _, rfl, ⟨trivial, ⟨trivial, trivial⟩⟩, rfl, rfl, ?_⟩
          intro k c h
          cases h
        · refine Tri.skip ?_
          show Tri _ _ _ _
          refine Tri.reg ?_
          obtain ⟨hc7, h⟩ := need_elim h
          refine At.seg 5 [0, 15, 16, 17, 29, 33] [1007] (s' := ⟨[(0, .c (.d (.list 3 p0.length (fun i => encValue (p0.getD i default))))), (15, .c (.d (.list 1 p1.length (fun i => encInt .i64 (p1.getD i default))))), (16, .c (.d (.int .i64 (p1.length : Int)))), (17, .c (.d (.int .i64 ((i2 : Nat) : Int)))), (29, .c (.own 1007 3 0 a3.length)), (33, .agg [.d (.bool ((p0.getD ((p1.getD i2 default).toNat) default).isText)), .d (.int .i64 ((p0.getD ((p1.getD i2 default).toNat) default).n)), .d (.str ((p0.getD ((p1.getD i2 default).toNat) default).s))])], [(1007, .vec 3 a3.length (fun i => encValue (a3.getD i default)))]⟩) (c := True ∧ True ∧ True ∧ ((0 : Int) ≤ (p1.getD i2 default) ∧ (p1.getD i2 default) < (p0.length : Int)) ∧ True ∧ True) (by kernel_rfl) ⟨trivial, trivial, trivial, hc7, trivial, trivial⟩ ?_
          refine At.one rfl (One.buildSlice (z := [.d (.bool false), .d (.int .i64 0), .d (.str (bs []))]) (cells := [.d (.bool ((p0.getD ((p1.getD i2 default).toNat) default).isText)), .d (.int .i64 ((p0.getD ((p1.getD i2 default).toNat) default).n)), .d (.str ((p0.getD ((p1.getD i2 default).toNat) default).s))]) (xs := List.map (encValue) ([(p0.getD ((p1.getD i2 default).toNat) default)] : List Value)) rfl rfl rfl rfl (by kernel_rfl) rfl rfl (by kernel_rfl) rfl rfl rfl (by kernel_rfl) rfl ⟨⟨rfl, .refl _⟩, trivial⟩) ?_
          refine At.le [34] (fun k _ h => by cases h) ⟨[(34, .c (.d (.list 3 ([(p0.getD ((p1.getD i2 default).toNat) default)] : List Value).length (fun i => encValue (([(p0.getD ((p1.getD i2 default).toNat) default)] : List Value).getD i default))))), (0, .c (.d (.list 3 p0.length (fun i => encValue (p0.getD i default))))), (15, .c (.d (.list 1 p1.length (fun i => encInt .i64 (p1.getD i default))))), (16, .c (.d (.int .i64 (p1.length : Int)))), (17, .c (.d (.int .i64 ((i2 : Nat) : Int)))), (29, .c (.own 1007 3 0 a3.length)), (33, .agg [.d (.bool ((p0.getD ((p1.getD i2 default).toNat) default).isText)), .d (.int .i64 ((p0.getD ((p1.getD i2 default).toNat) default).n)), .d (.str ((p0.getD ((p1.getD i2 default).toNat) default).s))])], [(1007, .vec 3 a3.length (fun i => encValue (a3.getD i default)))]⟩ ⟨⟨_, rfl, .c (.own rfl (List.mem_singleton.2 rfl) (Nat.le_of_ble_eq_true rfl) rfl (encs_getD (encValue) ([(p0.getD ((p1.getD i2 default).toNat) default)] : List Value)))⟩, ⟨_, rfl, .refl _⟩, ⟨_, rfl, .refl _⟩, ⟨_, rfl, .refl _⟩, ⟨_, rfl, .refl _⟩, ⟨_, rfl, .refl _⟩, ⟨_, rfl, .refl _⟩, trivial⟩ ⟨⟨_, rfl, .refl _, (by simp)⟩, trivial⟩ ?_
          obtain ⟨hc8, h⟩ := need_elim h
          refine At.one rfl (One.appendT (e := 27) (es := 3) (encValue) a3 ([(p0.getD ((p1.getD i2 default).toNat) default)] : List Value) rfl rfl rfl rfl rfl (.of 27 32 [.d (.bool false), .d (.int .i64 0), .d (.str (bs []))] (by kernel_rfl) (by kernel_rfl) (by kernel_rfl) (by kernel_rfl) rfl (by kernel_rfl) rfl) rfl rfl rfl (.list rfl (fun _ _ => rfl)) hc8) ?_
          refine At.seg 1 [17, 0, 7, 15, 16] [1007] (s' := ⟨[(17, .c (.d (.int .i64 ((i2 : Nat) : Int)))), (0, .c (.d (.list 3 p0.length (fun i => encValue (p0.getD i default))))), (7, .c (.own 1007 3 0 ((a3 ++ ([(p0.getD ((p1.getD i2 default).toNat) default)] : List Value)).length))), (15, .c (.d (.list 1 p1.length (fun i => encInt .i64 (p1.getD i default))))), (16, .c (.d (.int .i64 (p1.length : Int))))], [(1007, .vec 3 (a3 ++ ([(p0.getD ((p1.getD i2 default).toNat) default)] : List Value)).length (fun i => encValue ((a3 ++ ([(p0.getD ((p1.getD i2 default).toNat) default)] : List Value)).getD i default)))]⟩) (c := True ∧ True) (by kernel_rfl) ⟨trivial, trivial⟩ ?_
          refine At.done rfl ?_
          cases h
          exact rfl
      · refine Tri.reg ?_
        refine At.seg 3 [0, 7, 9, 15, 16, 17, 23] [1007] (s' := ⟨[(0, .c (.d (.list 3 p0.length (fun i => encValue (p0.getD i default))))), (7, .c (.own 1007 3 0 a3.length)), (9, .c (.d (.int .i64 (p1.getD i2 default)))), (15, .c (.d (.list 1 p1.length (fun i => encInt .i64 (p1.getD i default))))), (16, .c (.d (.int .i64 (p1.length : Int)))), (17, .c (.d (.int .i64 ((i2 : Nat) : Int)))), (23, .c (.d (.bool (decide ((p1.getD i2 default) < 0)))))], [(1007, .vec 3 a3.length (fun i => encValue (a3.getD i default)))]⟩) (c := True ∧ True ∧ True ∧ True) (by kernel_rfl) ⟨trivial, trivial, trivial, trivial⟩ ?_
        refine At.case (fun b => ⟨[(0, .c (.d (.list 3 p0.length (fun i => encValue (p0.getD i default))))), (7, .c (.own 1007 3 0 a3.length)), (9, .c (.d (.int .i64 (p1.getD i2 default)))), (15, .c (.d (.list 1 p1.length (fun i => encInt .i64 (p1.getD i default))))), (16, .c (.d (.int .i64 (p1.length : Int)))), (17, .c (.d (.int .i64 ((i2 : Nat) : Int)))), (23, .c (.d (.bool b)))], [(1007, .vec 3 a3.length (fun i => encValue (a3.getD i default)))]⟩) (b := (decide ((p1.getD i2 default) < 0))) h (fun h => ?_) (fun h => ?_)
        · refine At.seg 5 [0, 7, 9, 15, 16, 17, 28] [1007] (s' := ⟨[(0, .c (.d (.list 3 p0.length (fun i => encValue (p0.getD i default))))), (7, .c (.own 1007 3 0 a3.length)), (9, .c (.d (.int .i64 (p1.getD i2 default)))), (15, .c (.d (.list 1 p1.length (fun i => encInt .i64 (p1.getD i default))))), (16, .c (.d (.int .i64 (p1.length : Int)))), (17, .c (.d (.int .i64 ((i2 : Nat) : Int)))), (28, .c (.d (.bool true)))], [(1007, .vec 3 a3.length (fun i => encValue (a3.getD i default)))]⟩) (c := True ∧ True) (by kernel_rfl) ⟨trivial, trivial⟩ ?_
          refine At.done rfl ?_
          exact ⟨_, h, rfl⟩
        · refine At.seg 5 [0, 7, 9, 15, 16, 17, 28] [1007] (s' := ⟨[(0, .c (.d (.list 3 p0.length (fun i => encValue (p0.getD i default))))), (7, .c (.own 1007 3 0 a3.length)), (9, .c (.d (.int .i64 (p1.getD i2 default)))), (15, .c (.d (.list 1 p1.length (fun i => encInt .i64 (p1.getD i default))))), (16, .c (.d (.int .i64 (p1.length : Int)))), (17, .c (.d (.int .i64 ((i2 : Nat) : Int)))), (28, .c (.d (.bool (decide ((p0.length : Int) ≤ (p1.getD i2 default))))))], [(1007, .vec 3 a3.length (fun i => encValue (a3.getD i default)))]⟩) (c := True ∧ True ∧ True ∧ True ∧ True ∧ True) (by kernel_rfl) ⟨trivial, trivial, trivial, trivial, trivial, trivial⟩ ?_
          refine At.done rfl ?_
          exact ⟨_, h, rfl⟩
    · intro a4 h
      show Tri _ _ _ _
      refine Tri.seqS ?_
      refine Tri.seqS ?_
      refine Tri.reg ?_
      refine At.seg 3 [7, 39] [1007] (s' := ⟨[(7, .c (.own 1007 3 0 a4.length)), (39, .c (.d (.bool (decide (8 < (a4.length : Int))))))], [(1007, .vec 3 a4.length (fun i => encValue (a4.getD i default)))]⟩) (c := True ∧ True ∧ True ∧ True) (by kernel_rfl) ⟨trivial, trivial, trivial, trivial⟩ ?_
      refine At.done rfl ?_
      show Tri _ _ _ _
      refine Tri.condP (b := (decide (8 < (a4.length : Int)))) rfl h (fun h => ?_) (fun h => ?_)
      · refine Tri.seqS ?_
        refine Tri.reg ?_
        refine At.seg 2 [4, 5] [] (s' := ⟨[(4, .c (.zero)), (5, .c (.d (.int .i64 2)))], []⟩) (c := True ∧ True ∧ True) (by kernel_rfl) ⟨trivial, trivial, trivial⟩ ?_
        refine At.done rfl ?_
        show Tri _ _ _ _
        refine Tri.keep [4, 5] [] (s' := ⟨[(4, .c (.zero)), (5, .c (.d (.int .i64 2)))], []⟩) (by kernel_rfl) ?_
        refine Tri.le [] (fun k hk => by cases hk) ⟨[(4, .c (.d (.list 3 ([] : List Value).length (fun i => encValue (([] : List Value).getD i default))))), (5, .c (.d (.int .i64 2)))], []⟩ ⟨⟨_, rfl, .c (.zero _ _)⟩, ⟨_, rfl, .refl _⟩, trivial⟩ trivial ?_
        refine Tri.ret ?_
        cases h
        refine ⟨_, _, rfl, ⟨trivial, ⟨trivial, trivial⟩⟩, rfl, rfl, ?_⟩
        intro k c h
        cases h
      · refine Tri.skip ?_
        show Tri _ _ _ _
        refine Tri.seqS ?_
        refine Tri.reg ?_
        refine At.seg 3 [4, 5] [1007] (s' := ⟨[(4, .c (.own 1007 3 0 a4.length)), (5, .c (.d (.int .i64 0)))], [(1007, .vec 3 a4.length (fun i => encValue (a4.getD i default)))]⟩) (c := True ∧ True ∧ True ∧ True) (by kernel_rfl) ⟨trivial, trivial, trivial, trivial⟩ ?_
        refine At.done rfl ?_
        show Tri _ _ _ _
        refine Tri.keep [4, 5] [1007] (s' := ⟨[(4, .c (.own 1007 3 0 a4.length)), (5, .c (.d (.int .i64 0)))], [(1007, .vec 3 a4.length (fun i => encValue (a4.getD i default)))]⟩) (by kernel_rfl) ?_
        refine Tri.le [1007] (fun k _ h => by cases h) ⟨[(4, .c (.d (.list 3 a4.length (fun i => encValue (a4.getD i default))))), (5, .c (.d (.int .i64 0)))], []⟩ ⟨⟨_, rfl, .c (CLe.frozen (encValue) a4 rfl (by simp))⟩, ⟨_, rfl, .refl _⟩, trivial⟩ trivial ?_
        refine Tri.ret ?_
        cases h
        refine ⟨_, _, rfl, ⟨trivial, ⟨trivial, trivial⟩⟩, rfl, rfl, ?_⟩
        intro k c h
        cases h
    · exact fun x s hx hr => by cases hx; exact hr

set_option maxRecDepth 100000 in
theorem freshetref03_Cols_ok {p0 : List Value} {p1 : List Int} {q : (List Value) × Int} (h : freshetref03_Cols p0 p1 = some q) :
    Summ Try.prog 20 [.c (.d (.list 3 p0.length (fun i => encValue (p0.getD i default)))), .c (.d (.list 1 p1.length (fun i => encInt .i64 (p1.getD i default))))] [] (.tup [(false, [.d (.list 3 q.1.length (fun i => encValue (q.1.getD i default)))]), (false, [.d (.int .i64 q.2)])]) [] := by
  refine Summ.intro Try.func20 rfl (by kernel_rfl) (by kernel_rfl) [] rfl ?_
  rintro ⟨P, w0, G0, V, LL, lk, N, φ0, fx⟩ rfl rfl rfl rfl
  unfold freshetref03_Cols at h
  refine Tri.seqS ?_
  refine Tri.reg ?_
  refine At.seg 2 [0, 1] [] (s' := ⟨[(0, .c (.d (.list 3 p0.length (fun i => encValue (p0.getD i default))))), (1, .c (.d (.list 1 p1.length (fun i => encInt .i64 (p1.getD i default)))))], []⟩) (c := True ∧ True ∧ True) (by kernel_rfl) ⟨trivial, trivial, trivial⟩ ?_
  refine At.done rfl ?_
  show Tri _ _ _ _
  refine Tri.seqS ?_
  refine Tri.reg ?_
  refine At.seg 1 [0, 1, 10] [] (s' := ⟨[(0, .c (.d (.list 3 p0.length (fun i => encValue (p0.getD i default))))), (1, .c (.d (.list 1 p1.length (fun i => encInt .i64 (p1.getD i default))))), (10, .c (.d (.list 3 p0.length (fun i => encValue (p0.getD i default)))))], []⟩) (c := True ∧ True) (by kernel_rfl) ⟨trivial, trivial⟩ ?_
  obtain ⟨r1, hr1, h⟩ := bind_elim h
  refine At.callA (caps := []) (xs := [.c (.d (.list 3 p0.length (fun i => encValue (p0.getD i default))))]) (freshetref03_Check_ok hr1) rfl rfl rfl rfl rfl rfl (.cons (.refl _) .nil) rfl rfl ?_
  refine At.seg 1 [0, 1, 6] [] (s' := ⟨[(0, .c (.d (.list 3 p0.length (fun i => encValue (p0.getD i default))))), (1, .c (.d (.list 1 p1.length (fun i => encInt .i64 (p1.getD i default))))), (6, .c (.d (.int .i64 r1)))], []⟩) (c := True ∧ True) (by kernel_rfl) ⟨trivial, trivial⟩ ?_
  refine At.done rfl ?_
  show Tri _ _ _ _
  refine Tri.seqS ?_
  refine Tri.reg ?_
  refine At.seg 1 [0, 1, 6, 7] [] (s' := ⟨[(0, .c (.d (.list 3 p0.length (fun i => encValue (p0.getD i default))))), (1, .c (.d (.list 1 p1.length (fun i => encInt .i64 (p1.getD i default))))), (6, .c (.d (.int .i64 r1))), (7, .c (.zero))], []⟩) (c := True ∧ True) (by kernel_rfl) ⟨trivial, trivial⟩ ?_
  refine At.done rfl ?_
  show Tri _ _ _ _
  refine Tri.seqS ?_
  refine Tri.seqS ?_
  refine Tri.reg ?_
  refine At.seg 3 [0, 1, 6, 7, 12, 13, 14] [] (s' := ⟨[(0, .c (.d (.list 3 p0.length (fun i => encValue (p0.getD i default))))), (1, .c (.d (.list 1 p1.length (fun i => encInt .i64 (p1.getD i default))))), (6, .c (.d (.int .i64 r1))), (7, .c (.zero)), (12, .c (.d (.list 1 p1.length (fun i => encInt .i64 (p1.getD i default))))), (13, .c (.d (.int .i64 (p1.length : Int)))), (14, .c (.d (.int .i64 0)))], []⟩) (c := True ∧ True ∧ True ∧ True) (by kernel_rfl) ⟨trivial, trivial, trivial, trivial⟩ ?_
  refine At.done rfl ?_
  show Tri _ _ _ _
  refine Tri.lenOf (t := 12) rfl fun hlena3 => ?_
  refine Tri.newOwn (t := 7) (k := 1007) (es := 3) (fun i => encValue (([] : List Value).getD i default)) rfl rfl rfl ?_
  refine Tri.keep [14, 0, 1, 6, 7, 12, 13] [1007] (s' := idx 14 0 ⟨[(0, .c (.d (.list 3 p0.length (fun i => encValue (p0.getD i default))))), (1, .c (.d (.list 1 p1.length (fun i => encInt .i64 (p1.getD i default))))), (6, .c (.d (.int .i64 r1))), (7, .c (.own 1007 3 0 (([] : List Value).length))), (12, .c (.d (.list 1 p1.length (fun i => encInt .i64 (p1.getD i default))))), (13, .c (.d (.int .i64 (p1.length : Int))))], [(1007, .vec 3 ([] : List Value).length (fun i => encValue (([] : List Value).getD i default)))]⟩) (by kernel_rfl) ?_
  refine Tri.range (n := p1.length) (st0 := (r1, ([] : List Value))) (fun (x : Empty) s => False) (fun (a3 : Int × (List Value)) => ⟨[(0, .c (.d (.list 3 p0.length (fun i => encValue (p0.getD i default))))), (1, .c (.d (.list 1 p1.length (fun i => encInt .i64 (p1.getD i default))))), (6, .c (.d (.int .i64 a3.1))), (7, .c (.own 1007 3 0 a3.2.length)), (12, .c (.d (.list 1 p1.length (fun i => encInt .i64 (p1.getD i default))))), (13, .c (.d (.int .i64 (p1.length : Int))))], [(1007, .vec 3 a3.2.length (fun i => encValue (a3.2.getD i default)))]⟩) (fun (a3 : Int × (List Value)) => ⟨[(0, .c (.d (.list 3 p0.length (fun i => encValue (p0.getD i default))))), (1, .c (.d (.list 1 p1.length (fun i => encInt .i64 (p1.getD i default))))), (6, .c (.d (.int .i64 a3.1))), (7, .c (.own 1007 3 0 a3.2.length)), (12, .c (.d (.list 1 p1.length (fun i => encInt .i64 (p1.getD i default))))), (13, .c (.d (.int .i64 (p1.length : Int))))], [(1007, .vec 3 a3.2.length (fun i => encValue (a3.2.getD i default)))]⟩) (fun i => decide ((i : Int) < (p1.length : Int))) [15, 14, 0, 1, 6, 7, 12, 13] [1007] [0, 1, 6, 7, 12, 13] [1007] [14, 0, 1, 6, 7, 12, 13] [1007] h hlena3 rfl ?_ ?_ ?_ ?_ ?_ ?_ ?_ ?_
  · exact fun i a => ⟨True ∧ True, by kernel_rfl, ⟨trivial, trivial⟩⟩
  · exact fun i hi => decide_eq_true (by omega)
  · exact decide_eq_false (by omega)
  · exact fun a => by kernel_rfl
  · exact fun i a => ⟨True ∧ True ∧ True, by kernel_rfl, ⟨trivial, trivial, trivial⟩⟩
  · intro i2 a3 c hii2 h
    refine Tri.seqS ?_
    refine Tri.reg ?_
    refine At.seg 3 [0, 1, 6, 7, 9, 12, 13, 14] [1007] (s' := ⟨[(0, .c (.d (.list 3 p0.length (fun i => encValue (p0.getD i default))))), (1, .c (.d (.list 1 p1.length (fun i => encInt .i64 (p1.getD i default))))), (6, .c (.d (.int .i64 a3.1))), (7, .c (.own 1007 3 0 a3.2.length)), (9, .c (.d (.int .i64 (p1.getD i2 default)))), (12, .c (.d (.list 1 p1.length (fun i => encInt .i64 (p1.getD i default))))), (13, .c (.d (.int .i64 (p1.length : Int)))), (14, .c (.d (.int .i64 ((i2 : Nat) : Int))))], [(1007, .vec 3 a3.2.length (fun i => encValue (a3.2.getD i default)))]⟩) (c := ((0 : Int) ≤ ((i2 : Nat) : Int) ∧ ((i2 : Nat) : Int) < (p1.length : Int)) ∧ True ∧ True ∧ True) (by kernel_rfl) ⟨⟨by omega, by omega⟩, trivial, trivial, trivial⟩ ?_
    refine At.done rfl ?_
    show Tri _ _ _ _
    refine Tri.seqJ (fun (a9 : Int) => ⟨[(0, .c (.d (.list 3 p0.length (fun i => encValue (p0.getD i default))))), (1, .c (.d (.list 1 p1.length (fun i => encInt .i64 (p1.getD i default))))), (6, .c (.d (.int .i64 a9))), (7, .c (.own 1007 3 0 a3.2.length)), (9, .c (.d (.int .i64 (p1.getD i2 default)))), (12, .c (.d (.list 1 p1.length (fun i => encInt .i64 (p1.getD i default))))), (13, .c (.d (.int .i64 (p1.length : Int)))), (14, .c (.d (.int .i64 ((i2 : Nat) : Int))))], [(1007, .vec 3 a3.2.length (fun i => encValue (a3.2.getD i default)))]⟩) h (fun a9 h => ?_) (fun j10 h => ?_)
    · show Tri _ _ ⟨[(0, .c (.d (.list 3 p0.length (fun i => encValue (p0.getD i default))))), (1, .c (.d (.list 1 p1.length (fun i => encInt .i64 (p1.getD i default))))), (6, .c (.d (.int .i64 a9))), (7, .c (.own 1007 3 0 a3.2.length)), (9, .c (.d (.int .i64 (p1.getD i2 default)))), (12, .c (.d (.list 1 p1.length (fun i => encInt .i64 (p1.getD i default))))), (13, .c (.d (.int .i64 (p1.length : Int)))), (14, .c (.d (.int .i64 ((i2 : Nat) : Int))))], [(1007, .vec 3 a3.2.length (fun i => encValue (a3.2.getD i default)))]⟩ _
      refine Tri.seqS ?_
      refine Tri.reg ?_
      refine At.seg 2 [0, 1, 6, 7, 9, 12, 13, 14, 31] [1007] (s' := ⟨[(0, .c (.d (.list 3 p0.length (fun i => encValue (p0.getD i default))))), (1, .c (.d (.list 1 p1.length (fun i => encInt .i64 (p1.getD i default))))), (6, .c (.d (.int .i64 a9))), (7, .c (.own 1007 3 0 a3.2.length)), (9, .c (.d (.int .i64 (p1.getD i2 default)))), (12, .c (.d (.list 1 p1.length (fun i => encInt .i64 (p1.getD i default))))), (13, .c (.d (.int .i64 (p1.length : Int)))), (14, .c (.d (.int .i64 ((i2 : Nat) : Int)))), (31, .c (.d (.bool (decide (a9 = 0)))))], [(1007, .vec 3 a3.2.length (fun i => encValue (a3.2.getD i default)))]⟩) (c := True ∧ True ∧ True) (by kernel_rfl) ⟨trivial, trivial, trivial⟩ ?_
      refine At.done rfl ?_
      show Tri _ _ _ _
      refine Tri.condP (b := (decide (a9 = 0))) rfl h (fun h => ?_) (fun h => ?_)
      · refine Tri.reg ?_
        obtain ⟨hc11, h⟩ := need_elim h
        refine At.seg 5 [0, 1, 6, 12, 13, 14, 32, 36] [1007] (s' := ⟨[(0, .c (.d (.list 3 p0.length (fun i => encValue (p0.getD i default))))), (1, .c (.d (.list 1 p1.length (fun i => encInt .i64 (p1.getD i default))))), (6, .c (.d (.int .i64 a9))), (12, .c (.d (.list 1 p1.length (fun i => encInt .i64 (p1.getD i default))))), (13, .c (.d (.int .i64 (p1.length : Int)))), (14, .c (.d (.int .i64 ((i2 : Nat) : Int)))), (32, .c (.own 1007 3 0 a3.2.length)), (36, .agg [.d (.bool ((p0.getD ((p1.getD i2 default).toNat) default).isText)), .d (.int .i64 ((p0.getD ((p1.getD i2 default).toNat) default).n)), .d (.str ((p0.getD ((p1.getD i2 default).toNat) default).s))])], [(1007, .vec 3 a3.2.length (fun i => encValue (a3.2.getD i default)))]⟩) (c := True ∧ True ∧ True ∧ ((0 : Int) ≤ (p1.getD i2 default) ∧ (p1.getD i2 default) < (p0.length : Int)) ∧ True ∧ True) (by kernel_rfl) ⟨trivial, trivial, trivial, hc11, trivial, trivial⟩ ?_
        refine At.one rfl (One.buildSlice (z := [.d (.bool false), .d (.int .i64 0), .d (.str (bs []))]) (cells := [.d (.bool ((p0.getD ((p1.getD i2 default).toNat) default).isText)), .d (.int .i64 ((p0.getD ((p1.getD i2 default).toNat) default).n)), .d (.str ((p0.getD ((p1.getD i2 default).toNat) default).s))]) (xs := List.map (encValue) ([(p0.getD ((p1.getD i2 default).toNat) default)] : List Value)) rfl rfl rfl rfl (by kernel_rfl) rfl rfl (by kernel_rfl) rfl rfl rfl (by kernel_rfl) rfl ⟨⟨rfl, .refl _⟩, trivial⟩) ?_
        refine At.le [37] (fun k _ h => by cases h) ⟨[(37, .c (.d (.list 3 ([(p0.getD ((p1.getD i2 default).toNat) default)] : List Value).length (fun i => encValue (([(p0.getD ((p1.getD i2 default).toNat) default)] : List Value).getD i default))))), (0, .c (.d (.list 3 p0.length (fun i => encValue (p0.getD i default))))), (1, .c (.d (.list 1 p1.length (fun i => encInt .i64 (p1.getD i default))))), (6, .c (.d (.int .i64 a9))), (12, .c (.d (.list 1 p1.length (fun i => encInt .i64 (p1.getD i default))))), (13, .c (.d (.int .i64 (p1.length : Int)))), (14, .c (.d (.int .i64 ((i2 : Nat) : Int)))), (32, .c (.own 1007 3 0 a3.2.length)), (36, .agg [.d (.bool ((p0.getD ((p1.getD i2 default).toNat) default).isText)), .d (.int .i64 ((p0.getD ((p1.getD i2 default).toNat) default).n)), .d (.str ((p0.getD ((p1.getD i2 default).toNat) default).s))])], [(1007, .vec 3 a3.2.length (fun i => encValue (a3.2.getD i default)))]⟩ ⟨⟨_, rfl, .c (.own rfl (List.mem_singleton.2 rfl) (Nat.le_of_ble_eq_true rfl) rfl (encs_getD (encValue) ([(p0.getD ((p1.getD i2 default).toNat) default)] : List Value)))⟩, ⟨_, rfl, .refl _⟩, ⟨_, rfl, .refl _⟩, ⟨_, rfl, .refl _⟩, ⟨_, rfl, .refl _⟩, ⟨_, rfl, .refl _⟩, ⟨_, rfl, .refl _⟩, ⟨_, rfl, .refl _⟩, ⟨_, rfl, .refl _⟩, trivial⟩ ⟨⟨_, rfl, .refl _, (by simp)⟩, trivial⟩ ?_
        obtain ⟨hc12, h⟩ := need_elim h
        refine At.one rfl (One.appendT (e := 27) (es := 3) (encValue) a3.2 ([(p0.getD ((p1.getD i2 default).toNat) default)] : List Value) rfl rfl rfl rfl rfl (.of 27 32 [.d (.bool false), .d (.int .i64 0), .d (.str (bs []))] (by kernel_rfl) (by kernel_rfl) (by kernel_rfl) (by kernel_rfl) rfl (by kernel_rfl) rfl) rfl rfl rfl (.list rfl (fun _ _ => rfl)) hc12) ?_
        refine At.seg 1 [14, 0, 1, 6, 7, 12, 13] [1007] (s' := ⟨[(14, .c (.d (.int .i64 ((i2 : Nat) : Int)))), (0, .c (.d (.list 3 p0.length (fun i => encValue (p0.getD i default))))), (1, .c (.d (.list 1 p1.length (fun i => encInt .i64 (p1.getD i default))))), (6, .c (.d (.int .i64 a9))), (7, .c (.own 1007 3 0 ((a3.2 ++ ([(p0.getD ((p1.getD i2 default).toNat) default)] : List Value)).length))), (12, .c (.d (.list 1 p1.length (fun i => encInt .i64 (p1.getD i default))))), (13, .c (.d (.int .i64 (p1.length : Int))))], [(1007, .vec 3 (a3.2 ++ ([(p0.getD ((p1.getD i2 default).toNat) default)] : List Value)).length (fun i => encValue ((a3.2 ++ ([(p0.getD ((p1.getD i2 default).toNat) default)] : List Value)).getD i default)))]⟩) (c := True ∧ True) (by kernel_rfl) ⟨trivial, trivial⟩ ?_
        refine At.done rfl ?_
        cases h
        exact rfl
      · refine Tri.keep [14, 0, 1, 6, 7, 12, 13] [1007] (s' := ⟨[(14, .c (.d (.int .i64 ((i2 : Nat) : Int)))), (0, .c (.d (.list 3 p0.length (fun i => encValue (p0.getD i default))))), (1, .c (.d (.list 1 p1.length (fun i => encInt .i64 (p1.getD i default))))), (6, .c (.d (.int .i64 a9))), (7, .c (.own 1007 3 0 a3.2.length)), (12, .c (.d (.list 1 p1.length (fun i => encInt .i64 (p1.getD i default))))), (13, .c (.d (.int .i64 (p1.length : Int))))], [(1007, .vec 3 a3.2.length (fun i => encValue (a3.2.getD i default)))]⟩) (by kernel_rfl) ?_
        refine Tri.skip ?_
        cases h
        exact rfl
    · refine Tri.seqJ (fun (a13 : Bool) => ⟨[(0, .c (.d (.list 3 p0.length (fun i => encValue (p0.getD i default))))), (1, .c (.d (.list 1 p1.length (fun i => encInt .i64 (p1.getD i default))))), (6, .c (.d (.int .i64 a3.1))), (7, .c (.own 1007 3 0 a3.2.length)), (9, .c (.d (.int .i64 (p1.getD i2 default)))), (12, .c (.d (.list 1 p1.length (fun i => encInt .i64 (p1.getD i default))))), (13, .c (.d (.int .i64 (p1.length : Int)))), (14, .c (.d (.int .i64 ((i2 : Nat) : Int)))), (29, .c (.d (.bool a13)))], [(1007, .vec 3 a3.2.length (fun i => encValue (a3.2.getD i default)))]⟩) h (fun a13 h => ?_) (fun j14 h => ?_)
      · show Tri _ _ ⟨[(0, .c (.d (.list 3 p0.length (fun i => encValue (p0.getD i default))))), (1, .c (.d (.list 1 p1.length (fun i => encInt .i64 (p1.getD i default))))), (6, .c (.d (.int .i64 a3.1))), (7, .c (.own 1007 3 0 a3.2.length)), (9, .c (.d (.int .i64 (p1.getD i2 default)))), (12, .c (.d (.list 1 p1.length (fun i => encInt .i64 (p1.getD i default))))), (13, .c (.d (.int .i64 (p1.length : Int)))), (14, .c (.d (.int .i64 ((i2 : Nat) : Int)))), (29, .c (.d (.bool a13)))], [(1007, .vec 3 a3.2.length (fun i => encValue (a3.2.getD i default)))]⟩ _
        refine Tri.condP (b := a13) rfl h (fun h => ?_) (fun h => ?_)
        · refine Tri.reg ?_
          refine At.seg 1 [0, 1, 6, 7, 9, 12, 13, 14] [1007] (s' := ⟨[(0, .c (.d (.list 3 p0.length (fun i => encValue (p0.getD i default))))), (1, .c (.d (.list 1 p1.length (fun i => encInt .i64 (p1.getD i default))))), (6, .c (.d (.int .i64 1))), (7, .c (.own 1007 3 0 a3.2.length)), (9, .c (.d (.int .i64 (p1.getD i2 default)))), (12, .c (.d (.list 1 p1.length (fun i => encInt .i64 (p1.getD i default))))), (13, .c (.d (.int .i64 (p1.length : Int)))), (14, .c (.d (.int .i64 ((i2 : Nat) : Int))))], [(1007, .vec 3 a3.2.length (fun i => encValue (a3.2.getD i default)))]⟩) (c := True ∧ True) (by kernel_rfl) ⟨trivial, trivial⟩ ?_
          refine At.done rfl ?_
          exact ⟨_, h, rfl⟩
        · refine Tri.keep [0, 1, 6, 7, 9, 12, 13, 14] [1007] (s' := ⟨[(0, .c (.d (.list 3 p0.length (fun i => encValue (p0.getD i default))))), (1, .c (.d (.list 1 p1.length (fun i => encInt .i64 (p1.getD i default))))), (6, .c (.d (.int .i64 a3.1))), (7, .c (.own 1007 3 0 a3.2.length)), (9, .c (.d (.int .i64 (p1.getD i2 default)))), (12, .c (.d (.list 1 p1.length (fun i => encInt .i64 (p1.getD i default))))), (13, .c (.d (.int .i64 (p1.length : Int)))), (14, .c (.d (.int .i64 ((i2 : Nat) : Int))))], [(1007, .vec 3 a3.2.length (fun i => encValue (a3.2.getD i default)))]⟩) (by kernel_rfl) ?_
          refine Tri.skip ?_
          exact ⟨_, h, rfl⟩
      · refine Tri.reg ?_
        refine At.seg 3 [0, 1, 6, 7, 9, 12, 13, 14, 20] [1007] (s' := ⟨[(0, .c (.d (.list 3 p0.length (fun i => encValue (p0.getD i default))))), (1, .c (.d (.list 1 p1.length (fun i => encInt .i64 (p1.getD i default))))), (6, .c (.d (.int .i64 a3.1))), (7, .c (.own 1007 3 0 a3.2.length)), (9, .c (.d (.int .i64 (p1.getD i2 default)))), (12, .c (.d (.list 1 p1.length (fun i => encInt .i64 (p1.getD i default))))), (13, .c (.d (.int .i64 (p1.length : Int)))), (14, .c (.d (.int .i64 ((i2 : Nat) : Int)))), (20, .c (.d (.bool (decide (a3.1 = 0)))))], [(1007, .vec 3 a3.2.length (fun i => encValue (a3.2.getD i default)))]⟩) (c := True ∧ True ∧ True ∧ True) (by kernel_rfl) ⟨trivial, trivial, trivial, trivial⟩ ?_
        refine At.case (fun b => ⟨[(0, .c (.d (.list 3 p0.length (fun i => encValue (p0.getD i default))))), (1, .c (.d (.list 1 p1.length (fun i => encInt .i64 (p1.getD i default))))), (6, .c (.d (.int .i64 a3.1))), (7, .c (.own 1007 3 0 a3.2.length)), (9, .c (.d (.int .i64 (p1.getD i2 default)))), (12, .c (.d (.list 1 p1.length (fun i => encInt .i64 (p1.getD i default))))), (13, .c (.d (.int .i64 (p1.length : Int)))), (14, .c (.d (.int .i64 ((i2 : Nat) : Int)))), (20, .c (.d (.bool b)))], [(1007, .vec 3 a3.2.length (fun i => encValue (a3.2.getD i default)))]⟩) (b := (decide (a3.1 = 0))) h (fun h => ?_) (fun h => ?_)
        · refine At.seg 3 [0, 1, 6, 7, 9, 12, 13, 14, 20, 23] [1007] (s' := ⟨[(0, .c (.d (.list 3 p0.length (fun i => encValue (p0.getD i default))))), (1, .c (.d (.list 1 p1.length (fun i => encInt .i64 (p1.getD i default))))), (6, .c (.d (.int .i64 a3.1))), (7, .c (.own 1007 3 0 a3.2.length)), (9, .c (.d (.int .i64 (p1.getD i2 default)))), (12, .c (.d (.list 1 p1.length (fun i => encInt .i64 (p1.getD i default))))), (13, .c (.d (.int .i64 (p1.length : Int)))), (14, .c (.d (.int .i64 ((i2 : Nat) : Int)))), (20, .c (.d (.bool true))), (23, .c (.d (.bool (decide ((p1.getD i2 default) < 0)))))], [(1007, .vec 3 a3.2.length (fun i => encValue (a3.2.getD i default)))]⟩) (c := True ∧ True ∧ True ∧ True) (by kernel_rfl) ⟨trivial, trivial, trivial, trivial⟩ ?_
          refine At.case (fun b => ⟨[(0, .c (.d (.list 3 p0.length (fun i => encValue (p0.getD i default))))), (1, .c (.d (.list 1 p1.length (fun i => encInt .i64 (p1.getD i default))))), (6, .c (.d (.int .i64 a3.1))), (7, .c (.own 1007 3 0 a3.2.length)), (9, .c (.d (.int .i64 (p1.getD i2 default)))), (12, .c (.d (.list 1 p1.length (fun i => encInt .i64 (p1.getD i default))))), (13, .c (.d (.int .i64 (p1.length : Int)))), (14, .c (.d (.int .i64 ((i2 : Nat) : Int)))), (20, .c (.d (.bool true))), (23, .c (.d (.bool b)))], [(1007, .vec 3 a3.2.length (fun i => encValue (a3.2.getD i default)))]⟩) (b := (decide ((p1.getD i2 default) < 0))) h (fun h => ?_) (fun h => ?_)
          · refine At.seg 6 [0, 1, 6, 7, 9, 12, 13, 14, 29] [1007] (s' := ⟨[(0, .c (.d (.list 3 p0.length (fun i => encValue (p0.getD i default))))), (1, .c (.d (.list 1 p1.length (fun i => encInt .i64 (p1.getD i default))))), (6, .c (.d (.int .i64 a3.1))), (7, .c (.own 1007 3 0 a3.2.length)), (9, .c (.d (.int .i64 (p1.getD i2 default)))), (12, .c (.d (.list 1 p1.length (fun i => encInt .i64 (p1.getD i default))))), (13, .c (.d (.int .i64 (p1.length : Int)))), (14, .c (.d (.int .i64 ((i2 : Nat) : Int)))), (29, .c (.d (.bool true)))], [(1007, .vec 3 a3.2.length (fun i => encValue (a3.2.getD i default)))]⟩) (c := True ∧ True ∧ True) (by kernel_rfl) ⟨trivial, trivial, trivial⟩ ?_
            refine At.done rfl ?_
            exact ⟨_, h, rfl⟩
          · refine At.seg 6 [0, 1, 6, 7, 9, 12, 13, 14, 29] [1007] (s' := ⟨[(0, .c (.d (.list 3 p0.length (fun i => encValue (p0.getD i default))))), (1, .c (.d (.list 1 p1.length (fun i => encInt .i64 (p1.getD i default))))), (6, .c (.d (.int .i64 a3.1))), (7, .c (.own 1007 3 0 a3.2.length)), (9, .c (.d (.int .i64 (p1.getD i2 default)))), (12, .c (.d (.list 1 p1.length (fun i => encInt .i64 (p1.getD i default))))), (13, .c (.d (.int .i64 (p1.length : Int)))), (14, .c (.d (.int .i64 ((i2 : Nat) : Int)))), (29, .c (.d (.bool (decide ((p0.length : Int) ≤ (p1.getD i2 default))))))], [(1007, .vec 3 a3.2.length (fun i => encValue (a3.2.getD i default)))]⟩) (c := True ∧ True ∧ True ∧ True ∧ True ∧ True ∧ True) (by kernel_rfl) ⟨trivial, trivial, trivial, trivial, trivial, trivial, trivial⟩ ?_
            refine At.done rfl ?_
            exact ⟨_, h, rfl⟩
        · refine At.seg 9 [0, 1, 6, 7, 9, 12, 13, 14, 29] [1007] (s' := ⟨[(0, .c (.d (.list 3 p0.length (fun i => encValue (p0.getD i default))))), (1, .c (.d (.list 1 p1.length (fun i => encInt .i64 (p1.getD i default))))), (6, .c (.d (.int .i64 a3.1))), (7, .c (.own 1007 3 0 a3.2.length)), (9, .c (.d (.int .i64 (p1.getD i2 default)))), (12, .c (.d (.list 1 p1.length (fun i => encInt .i64 (p1.getD i default))))), (13, .c (.d (.int .i64 (p1.length : Int)))), (14, .c (.d (.int .i64 ((i2 : Nat) : Int)))), (29, .c (.d (.bool false)))], [(1007, .vec 3 a3.2.length (fun i => encValue (a3.2.getD i default)))]⟩) (c := True ∧ True) (by kernel_rfl) ⟨trivial, trivial⟩ ?_
          refine At.done rfl ?_
          exact ⟨_, h, rfl⟩
  · intro a4 h
    show Tri _ _ _ _
    refine Tri.seqJ (fun (a5 : Int) => ⟨[(6, .c (.d (.int .i64 a5))), (7, .c (.own 1007 3 0 a4.2.length))], [(1007, .vec 3 a4.2.length (fun i => encValue (a4.2.getD i default)))]⟩) h (fun a5 h => ?_) (fun j6 h => ?_)
    · show Tri _ _ ⟨[(6, .c (.d (.int .i64 a5))), (7, .c (.own 1007 3 0 a4.2.length))], [(1007, .vec 3 a4.2.length (fun i => encValue (a4.2.getD i default)))]⟩ _
      refine Tri.seqS ?_
      refine Tri.seqS ?_
      refine Tri.reg ?_
      refine At.seg 2 [6, 7, 48] [1007] (s' := ⟨[(6, .c (.d (.int .i64 a5))), (7, .c (.own 1007 3 0 a4.2.length)), (48, .c (.d (.bool (!decide (a5 = 0)))))], [(1007, .vec 3 a4.2.length (fun i => encValue (a4.2.getD i default)))]⟩) (c := True ∧ True ∧ True) (by kernel_rfl) ⟨trivial, trivial, trivial⟩ ?_
      refine At.done rfl ?_
      show Tri _ _ _ _
      refine Tri.condP (b := (!decide (a5 = 0))) rfl h (fun h => ?_) (fun h => ?_)
      · refine Tri.seqS ?_
        refine Tri.reg ?_
        refine At.seg 3 [4, 5] [] (s' := ⟨[(4, .c (.zero)), (5, .c (.d (.int .i64 a5)))], []⟩) (c := True ∧ True ∧ True ∧ True) (by kernel_rfl) ⟨trivial, trivial, trivial, trivial⟩ ?_
        refine At.done rfl ?_
        show Tri _ _ _ _
        refine Tri.keep [4, 5] [] (s' := ⟨[(4, .c (.zero)), (5, .c (.d (.int .i64 a5)))], []⟩) (by kernel_rfl) ?_
        refine Tri.le [] (fun k hk => by cases hk) ⟨[(4, .c (.d (.list 3 ([] : List Value).length (fun i => encValue (([] : List Value).getD i default))))), (5, .c (.d (.int .i64 a5)))], []⟩ ⟨⟨_, rfl, .c (.zero _ _)⟩, ⟨_, rfl, .refl _⟩, trivial⟩ trivial ?_
        refine Tri.ret ?_
        cases h
        refine ⟨_, _, rfl, ⟨trivial, ⟨trivial, trivial⟩⟩, rfl, rfl, ?_⟩
        intro k c h
        cases h
      · refine Tri.skip ?_
        show Tri _ _ _ _
        refine Tri.seqS ?_
        refine Tri.reg ?_
        refine At.seg 3 [4, 5] [1007] (s' := ⟨[(4, .c (.own 1007 3 0 a4.2.length)), (5, .c (.d (.int .i64 0)))], [(1007, .vec 3 a4.2.length (fun i => encValue (a4.2.getD i default)))]⟩) (c := True ∧ True ∧ True ∧ True) (by kernel_rfl) ⟨trivial, trivial, trivial, trivial⟩ ?_
        refine At.done rfl ?_
        show Tri _ _ _ _
        refine Tri.keep [4, 5] [1007] (s' := ⟨[(4, .c (.own 1007 3 0 a4.2.length)), (5, .c (.d (.int .i64 0)))], [(1007, .vec 3 a4.2.length (fun i => encValue (a4.2.getD i default)))]⟩) (by kernel_rfl) ?_
        refine Tri.le [1007] (fun k _ h => by cases h) ⟨[(4, .c (.d (.list 3 a4.2.length (fun i => encValue (a4.2.getD i default))))), (5, .c (.d (.int .i64 0)))], []⟩ ⟨⟨_, rfl, .c (CLe.frozen (encValue) a4.2 rfl (by simp))⟩, ⟨_, rfl, .refl _⟩, trivial⟩ trivial ?_
        refine Tri.ret ?_
        cases h
        refine ⟨_, _, rfl, ⟨trivial, ⟨trivial, trivial⟩⟩, rfl, rfl, ?_⟩
        intro k c h
        cases h
    · refine Tri.seqJ (fun (a7 : Bool) => ⟨[(6, .c (.d (.int .i64 a4.1))), (7, .c (.own 1007 3 0 a4.2.length)), (46, .c (.d (.bool a7)))], [(1007, .vec 3 a4.2.length (fun i => encValue (a4.2.getD i default)))]⟩) h (fun a7 h => ?_) (fun j8 h => ?_)
      · show Tri _ _ ⟨[(6, .c (.d (.int .i64 a4.1))), (7, .c (.own 1007 3 0 a4.2.length)), (46, .c (.d (.bool a7)))], [(1007, .vec 3 a4.2.length (fun i => encValue (a4.2.getD i default)))]⟩ _
        refine Tri.condP (b := a7) rfl h (fun h => ?_) (fun h => ?_)
        · refine Tri.reg ?_
          refine At.seg 1 [6, 7] [1007] (s' := ⟨[(6, .c (.d (.int .i64 2))), (7, .c (.own 1007 3 0 a4.2.length))], [(1007, .vec 3 a4.2.length (fun i => encValue (a4.2.getD i default)))]⟩) (c := True ∧ True) (by kernel_rfl) ⟨trivial, trivial⟩ ?_
          refine At.done rfl ?_
          exact ⟨_, h, rfl⟩
        · refine Tri.keep [6, 7] [1007] (s' := ⟨[(6, .c (.d (.int .i64 a4.1))), (7, .c (.own 1007 3 0 a4.2.length))], [(1007, .vec 3 a4.2.length (fun i => encValue (a4.2.getD i default)))]⟩) (by kernel_rfl) ?_
          refine Tri.skip ?_
          exact ⟨_, h, rfl⟩
      · refine Tri.reg ?_
        refine At.seg 3 [1, 6, 7, 42] [1007] (s' := ⟨[(1, .c (.d (.list 1 p1.length (fun i => encInt .i64 (p1.getD i default))))), (6, .c (.d (.int .i64 a4.1))), (7, .c (.own 1007 3 0 a4.2.length)), (42, .c (.d (.bool (decide (a4.1 = 0)))))], [(1007, .vec 3 a4.2.length (fun i => encValue (a4.2.getD i default)))]⟩) (c := True ∧ True ∧ True ∧ True) (by kernel_rfl) ⟨trivial, trivial, trivial, trivial⟩ ?_
        refine At.case (fun b => ⟨[(1, .c (.d (.list 1 p1.length (fun i => encInt .i64 (p1.getD i default))))), (6, .c (.d (.int .i64 a4.1))), (7, .c (.own 1007 3 0 a4.2.length)), (42, .c (.d (.bool b)))], [(1007, .vec 3 a4.2.length (fun i => encValue (a4.2.getD i default)))]⟩) (b := (decide (a4.1 = 0))) h (fun h => ?_) (fun h => ?_)
        · refine At.seg 4 [6, 7, 46] [1007] (s' := ⟨[(6, .c (.d (.int .i64 a4.1))), (7, .c (.own 1007 3 0 a4.2.length)), (46, .c (.d (.bool (decide (8 < (p1.length : Int))))))], [(1007, .vec 3 a4.2.length (fun i => encValue (a4.2.getD i default)))]⟩) (c := True ∧ True ∧ True ∧ True ∧ True) (by kernel_rfl) ⟨trivial, trivial, trivial, trivial, trivial⟩ ?_
          refine At.done rfl ?_
          exact ⟨_, h, rfl⟩
        · refine At.seg 4 [6, 7, 46] [1007] (s' := ⟨[(6, .c (.d (.int .i64 a4.1))), (7, .c (.own 1007 3 0 a4.2.length)), (46, .c (.d (.bool false)))], [(1007, .vec 3 a4.2.length (fun i => encValue (a4.2.getD i default)))]⟩) (c := True ∧ True) (by kernel_rfl) ⟨trivial, trivial⟩ ?_
          refine At.done rfl ?_
          exact ⟨_, h, rfl⟩
  · exact fun x => x.elim

set_option maxRecDepth 100000 in
theorem slices_Growfreshet_api_Value_freshet_api_Value_Value_ok {p1 : Int} {q : List Value} (h : slices_Growfreshet_api_Value_freshet_api_Value_Value p1 = some q) :
    Summ Try.prog 55 [.c (.zero), .c (.d (.int .i64 p1))] [] (.c (.d (.list 3 q.length (fun i => encValue (q.getD i default))))) [] := by
  refine Summ.intro Try.func55 rfl (by kernel_rfl) (by kernel_rfl) [] rfl ?_
  rintro ⟨P, w0, G0, V, LL, lk, N, φ0, fx⟩ rfl rfl rfl rfl
  unfold slices_Growfreshet_api_Value_freshet_api_Value_Value at h
  refine Tri.seqS ?_
  refine Tri.reg ?_
  refine At.seg 1 [0, 1] [] (s' := ⟨[(0, .c (.zero)), (1, .c (.d (.int .i64 p1)))], []⟩) (c := True ∧ True) (by kernel_rfl) ⟨trivial, trivial⟩ ?_
  refine At.done rfl ?_
  show Tri _ _ _ _
  refine Tri.seqS ?_
  refine Tri.seqS ?_
  refine Tri.reg ?_
  refine At.seg 2 [0, 1, 6] [] (s' := ⟨[(0, .c (.zero)), (1, .c (.d (.int .i64 p1))), (6, .c (.d (.bool (decide (p1 < 0)))))], []⟩) (c := True ∧ True ∧ True) (by kernel_rfl) ⟨trivial, trivial, trivial⟩ ?_
  refine At.done rfl ?_
  show Tri _ _ _ _
  refine Tri.condP (b := (decide (p1 < 0))) rfl h (fun h => ?_) (fun h => ?_)
  · refine Tri.reg ?_
    cases h
  · refine Tri.skip ?_
    show Tri _ _ _ _
    refine Tri.seqJ (fun (a1 : List Value) => ⟨[(0, .c (.own 22 3 0 a1.length))], [(22, .vec 3 a1.length (fun i => encValue (a1.getD i default)))]⟩) h (fun a1 h => ?_) (fun j2 h => ?_)
    · show Tri _ _ ⟨[(0, .c (.own 22 3 0 a1.length))], [(22, .vec 3 a1.length (fun i => encValue (a1.getD i default)))]⟩ _
      refine Tri.seqS ?_
      refine Tri.reg ?_
      refine At.seg 2 [4] [22] (s' := ⟨[(4, .c (.own 22 3 0 a1.length))], [(22, .vec 3 a1.length (fun i => encValue (a1.getD i default)))]⟩) (c := True ∧ True ∧ True) (by kernel_rfl) ⟨trivial, trivial, trivial⟩ ?_
      refine At.done rfl ?_
      show Tri _ _ _ _
      refine Tri.keep [4] [22] (s' := ⟨[(4, .c (.own 22 3 0 a1.length))], [(22, .vec 3 a1.length (fun i => encValue (a1.getD i default)))]⟩) (by kernel_rfl) ?_
      refine Tri.le [22] (fun k _ h => by cases h) ⟨[(4, .c (.d (.list 3 a1.length (fun i => encValue (a1.getD i default)))))], []⟩ ⟨⟨_, rfl, .c (CLe.frozen (encValue) a1 rfl (by simp))⟩, trivial⟩ trivial ?_
      refine Tri.ret ?_
      cases h
      refine ⟨_, _, rfl, ⟨trivial, trivial⟩, rfl, rfl, ?_⟩
      intro k c h
      cases h
    · refine Tri.seqS ?_
      refine Tri.reg ?_
      refine At.seg 2 [0, 8, 9] [] (s' := ⟨[(0, .c (.zero)), (8, .c (.d (.int .i64 p1))), (9, .c (.zero))], []⟩) (c := True ∧ True ∧ True) (by kernel_rfl) ⟨trivial, trivial, trivial⟩ ?_
      refine At.one rfl (One.cap0 (e := 27) rfl rfl rfl rfl rfl rfl) ?_
      refine At.seg 5 [0, 1] [] (s' := ⟨[(0, .c (.zero)), (1, .c (.d (.int .i64 (IntKind.i64.wrap (p1 - (IntKind.i64.wrap ((0 : Int) - 0)))))))], []⟩) (c := True ∧ True ∧ True ∧ True ∧ True ∧ True) (by kernel_rfl) ⟨trivial, trivial, trivial, trivial, trivial, trivial⟩ ?_
      refine At.done rfl ?_
      show Tri _ _ _ _
      refine Tri.seqS ?_
      refine Tri.reg ?_
      refine At.seg 2 [0, 1, 16] [] (s' := ⟨[(0, .c (.zero)), (1, .c (.d (.int .i64 (IntKind.i64.wrap (p1 - (IntKind.i64.wrap ((0 : Int) - 0))))))), (16, .c (.d (.bool (decide (0 < (IntKind.i64.wrap (p1 - (IntKind.i64.wrap ((0 : Int) - 0)))))))))], []⟩) (c := True ∧ True ∧ True) (by kernel_rfl) ⟨trivial, trivial, trivial⟩ ?_
      refine At.done rfl ?_
      show Tri _ _ _ _
      refine Tri.condP (b := (decide (0 < (IntKind.i64.wrap (p1 - (IntKind.i64.wrap ((0 : Int) - 0))))))) rfl h (fun h => ?_) (fun h => ?_)
      · refine Tri.reg ?_
        refine At.seg 2 [0, 1, 17, 18] [] (s' := ⟨[(0, .c (.zero)), (1, .c (.d (.int .i64 (IntKind.i64.wrap (p1 - (IntKind.i64.wrap ((0 : Int) - 0))))))), (17, .c (.zero)), (18, .c (.zero))], []⟩) (c := True ∧ True ∧ True) (by kernel_rfl) ⟨trivial, trivial, trivial⟩ ?_
        refine At.one rfl (One.cap0 (e := 27) rfl rfl rfl rfl rfl rfl) ?_
        refine At.seg 2 [0, 20, 21] [] (s' := ⟨[(0, .c (.zero)), (20, .c (.zero)), (21, .c (.d (.int .i64 (IntKind.i64.wrap (p1 - (IntKind.i64.wrap ((0 : Int) - 0)))))))], []⟩) (c := ((0 : Int) ≤ (0 : Int) ∧ (0 : Int) ≤ (0 : Int) ∧ (0 : Int) ≤ ((0 : Nat) : Int)) ∧ True ∧ True) (by kernel_rfl) ⟨⟨by decide, by decide, by decide⟩, trivial, trivial⟩ ?_
        obtain ⟨hc3, h⟩ := need_elim h
        refine At.one rfl (One.appendN0 (e := 27) (es := 3) (bs := 32) (n := (IntKind.i64.wrap (p1 - (IntKind.i64.wrap ((0 : Int) - 0))))) (z := [.d (.bool false), .d (.int .i64 0), .d (.str (bs []))]) (encValue) ((⟨false, 0, (bs [])⟩ : Value) : Value) rfl rfl rfl rfl (by kernel_rfl) rfl rfl rfl rfl rfl rfl (by kernel_rfl) rfl rfl (.refl _) rfl rfl rfl hc3.1 hc3.2) ?_
        refine At.seg 2 [22, 24] [22] (s' := ⟨[(22, .c (.own 22 3 0 ((List.replicate ((IntKind.i64.wrap (p1 - (IntKind.i64.wrap ((0 : Int) - 0)))).toNat) ((⟨false, 0, (bs [])⟩ : Value) : Value)).length))), (24, .c (.d (.int .i64 0)))], [(22, .vec 3 (List.replicate ((IntKind.i64.wrap (p1 - (IntKind.i64.wrap ((0 : Int) - 0)))).toNat) ((⟨false, 0, (bs [])⟩ : Value) : Value)).length (fun i => encValue ((List.replicate ((IntKind.i64.wrap (p1 - (IntKind.i64.wrap ((0 : Int) - 0)))).toNat) ((⟨false, 0, (bs [])⟩ : Value) : Value)).getD i default)))]⟩) (c := True ∧ True ∧ True) (by kernel_rfl) ⟨trivial, trivial, trivial⟩ ?_
        obtain ⟨hc4, h⟩ := need_elim h
        refine At.seg 1 [25] [22] (s' := ⟨[(25, .c (.own 22 3 (0 + (0 : Int).toNat) ((0 : Int).toNat - (0 : Int).toNat)))], [(22, .vec 3 (List.replicate ((IntKind.i64.wrap (p1 - (IntKind.i64.wrap ((0 : Int) - 0)))).toNat) ((⟨false, 0, (bs [])⟩ : Value) : Value)).length (fun i => encValue ((List.replicate ((IntKind.i64.wrap (p1 - (IntKind.i64.wrap ((0 : Int) - 0)))).toNat) ((⟨false, 0, (bs [])⟩ : Value) : Value)).getD i default)))]⟩) (c := ((0 : Int) ≤ 0 ∧ (0 : Int) ≤ 0 ∧ 0 ≤ ((List.replicate ((IntKind.i64.wrap (p1 - (IntKind.i64.wrap ((0 : Int) - 0)))).toNat) ((⟨false, 0, (bs [])⟩ : Value) : Value)).length : Int)) ∧ True) (by kernel_rfl) ⟨hc4, trivial⟩ ?_
        refine At.eqS (s' := ⟨[(25, .c (.own 22 3 0 (((List.replicate ((IntKind.i64.wrap (p1 - (IntKind.i64.wrap ((0 : Int) - 0)))).toNat) ((⟨false, 0, (bs [])⟩ : Value) : Value)).take 0).length)))], [(22, .vec 3 (List.replicate ((IntKind.i64.wrap (p1 - (IntKind.i64.wrap ((0 : Int) - 0)))).toNat) ((⟨false, 0, (bs [])⟩ : Value) : Value)).length (fun i => encValue ((List.replicate ((IntKind.i64.wrap (p1 - (IntKind.i64.wrap ((0 : Int) - 0)))).toNat) ((⟨false, 0, (bs [])⟩ : Value) : Value)).getD i default)))]⟩) (by simp only [List.length_take, Int.toNat_zero, Nat.add_zero, Nat.zero_add, Nat.sub_zero, take_min hc4, Nat.zero_min]) ?_
        refine At.le [] (fun k hk => by cases hk) ⟨[(25, .c (.own 22 3 0 (((List.replicate ((IntKind.i64.wrap (p1 - (IntKind.i64.wrap ((0 : Int) - 0)))).toNat) ((⟨false, 0, (bs [])⟩ : Value) : Value)).take 0).length)))], [(22, .vec 3 ((List.replicate ((IntKind.i64.wrap (p1 - (IntKind.i64.wrap ((0 : Int) - 0)))).toNat) ((⟨false, 0, (bs [])⟩ : Value) : Value)).take 0).length (fun i => encValue (((List.replicate ((IntKind.i64.wrap (p1 - (IntKind.i64.wrap ((0 : Int) - 0)))).toNat) ((⟨false, 0, (bs [])⟩ : Value) : Value)).take 0).getD i default)))]⟩ ⟨⟨_, rfl, .refl _⟩, trivial⟩ ⟨⟨_, rfl, .take (take_le _ _) (take_get (encValue) _ _), (by simp)⟩, trivial⟩ ?_
        refine At.seg 1 [0] [22] (s' := ⟨[(0, .c (.own 22 3 0 (((List.replicate ((IntKind.i64.wrap (p1 - (IntKind.i64.wrap ((0 : Int) - 0)))).toNat) ((⟨false, 0, (bs [])⟩ : Value) : Value)).take 0).length)))], [(22, .vec 3 ((List.replicate ((IntKind.i64.wrap (p1 - (IntKind.i64.wrap ((0 : Int) - 0)))).toNat) ((⟨false, 0, (bs [])⟩ : Value) : Value)).take 0).length (fun i => encValue (((List.replicate ((IntKind.i64.wrap (p1 - (IntKind.i64.wrap ((0 : Int) - 0)))).toNat) ((⟨false, 0, (bs [])⟩ : Value) : Value)).take 0).getD i default)))]⟩) (c := True ∧ True) (by kernel_rfl) ⟨trivial, trivial⟩ ?_
        refine At.done rfl ?_
        exact ⟨_, h, rfl⟩
      · refine Tri.newOwn (t := 0) (k := 22) (es := 3) (fun i => encValue (([] : List Value).getD i default)) rfl rfl rfl ?_
        refine Tri.keep [0] [22] (s' := ⟨[(0, .c (.own 22 3 0 (([] : List Value).length)))], [(22, .vec 3 ([] : List Value).length (fun i => encValue (([] : List Value).getD i default)))]⟩) (by kernel_rfl) ?_
        refine Tri.skip ?_
        exact ⟨_, h, rfl⟩

set_option maxRecDepth 100000 in
theorem slices_Growfreshet_api_Value_freshet_api_Value_Value_ok_o {p1 : Int} {q : List Value} (h : slices_Growfreshet_api_Value_freshet_api_Value_Value p1 = some q) :
    Summ Try.prog 55 [.c (.zero), .c (.d (.int .i64 p1))] [] (.c (.own 6000 3 0 q.length)) [(6000, .vec 3 q.length (fun i => encValue (q.getD i default)))] := by
  refine Summ.intro Try.func55 rfl (by kernel_rfl) (by kernel_rfl) [6000] rfl ?_
  rintro ⟨P, w0, G0, V, LL, lk, N, φ0, fx⟩ rfl rfl rfl rfl
  unfold slices_Growfreshet_api_Value_freshet_api_Value_Value at h
  refine Tri.seqS ?_
  refine Tri.reg ?_
  refine At.seg 1 [0, 1] [] (s' := ⟨[(0, .c (.zero)), (1, .c (.d (.int .i64 p1)))], []⟩) (c := True ∧ True) (by kernel_rfl) ⟨trivial, trivial⟩ ?_
  refine At.done rfl ?_
  show Tri _ _ _ _
  refine Tri.seqS ?_
  refine Tri.seqS ?_
  refine Tri.reg ?_
  refine At.seg 2 [0, 1, 6] [] (s' := ⟨[(0, .c (.zero)), (1, .c (.d (.int .i64 p1))), (6, .c (.d (.bool (decide (p1 < 0)))))], []⟩) (c := True ∧ True ∧ True) (by kernel_rfl) ⟨trivial, trivial, trivial⟩ ?_
  refine At.done rfl ?_
  show Tri _ _ _ _
  refine Tri.condP (b := (decide (p1 < 0))) rfl h (fun h => ?_) (fun h => ?_)
  · refine Tri.reg ?_
    cases h
  · refine Tri.skip ?_
    show Tri _ _ _ _
    refine Tri.seqJ (fun (a1 : List Value) => ⟨[(0, .c (.own 22 3 0 a1.length))], [(22, .vec 3 a1.length (fun i => encValue (a1.getD i default)))]⟩) h (fun a1 h => ?_) (fun j2 h => ?_)
    · show Tri _ _ ⟨[(0, .c (.own 22 3 0 a1.length))], [(22, .vec 3 a1.length (fun i => encValue (a1.getD i default)))]⟩ _
      refine Tri.seqS ?_
      refine Tri.reg ?_
      refine At.seg 2 [4] [22] (s' := ⟨[(4, .c (.own 22 3 0 a1.length))], [(22, .vec 3 a1.length (fun i => encValue (a1.getD i default)))]⟩) (c := True ∧ True ∧ True) (by kernel_rfl) ⟨trivial, trivial, trivial⟩ ?_
      refine At.done rfl ?_
      show Tri _ _ _ _
      refine Tri.keep [4] [22] (s' := ⟨[(4, .c (.own 22 3 0 a1.length))], [(22, .vec 3 a1.length (fun i => encValue (a1.getD i default)))]⟩) (by kernel_rfl) ?_
      refine Tri.rename 22 6000 ⟨[(4, .c (.own 6000 3 0 a1.length))], [(6000, .vec 3 a1.length (fun i => encValue (a1.getD i default)))]⟩ (by kernel_rfl) rfl rfl rfl ?_
      refine Tri.keep [4] [6000] (s' := ⟨[(4, .c (.own 6000 3 0 a1.length))], [(6000, .vec 3 a1.length (fun i => encValue (a1.getD i default)))]⟩) (by kernel_rfl) ?_
      refine Tri.ret ?_
      cases h
      refine ⟨_, _, rfl, ⟨trivial, trivial⟩, rfl, rfl, ?_⟩
      exact SubS.out ⟨⟨rfl, rfl⟩, trivial⟩
    · refine Tri.seqS ?_
      refine Tri.reg ?_
      refine At.seg 2 [0, 8, 9] [] (s' := ⟨[(0, .c (.zero)), (8, .c (.d (.int .i64 p1))), (9, .c (.zero))], []⟩) (c := True ∧ True ∧ True) (by kernel_rfl) ⟨trivial, trivial, trivial⟩ ?_
      refine At.one rfl (One.cap0 (e := 27) rfl rfl rfl rfl rfl rfl) ?_
      refine At.seg 5 [0, 1] [] (s' := ⟨[(0, .c (.zero)), (1, .c (.d (.int .i64 (IntKind.i64.wrap (p1 - (IntKind.i64.wrap ((0 : Int) - 0)))))))], []⟩) (c := True ∧ True ∧ True ∧ True ∧ True ∧ True) (by kernel_rfl) ⟨trivial, trivial, trivial, trivial, trivial, trivial⟩ ?_
      refine At.done rfl ?_
      show Tri _ _ _ _
      refine Tri.seqS ?_
      refine Tri.reg ?_
      refine At.seg 2 [0, 1, 16] [] (s' := ⟨[(0, .c (.zero)), (1, .c (.d (.int .i64 (IntKind.i64.wrap (p1 - (IntKind.i64.wrap ((0 : Int) - 0))))))), (16, .c (.d (.bool (decide (0 < (IntKind.i64.wrap (p1 - (IntKind.i64.wrap ((0 : Int) - 0)))))))))], []⟩) (c := True ∧ True ∧ True) (by kernel_rfl) ⟨trivial, trivial, trivial⟩ ?_
      refine At.done rfl ?_
      show Tri _ _ _ _
      refine Tri.condP (b := (decide (0 < (IntKind.i64.wrap (p1 - (IntKind.i64.wrap ((0 : Int) - 0))))))) rfl h (fun h => ?_) (fun h => ?_)
      · refine Tri.reg ?_
        refine At.seg 2 [0, 1, 17, 18] [] (s' := ⟨[(0, .c (.zero)), (1, .c (.d (.int .i64 (IntKind.i64.wrap (p1 - (IntKind.i64.wrap ((0 : Int) - 0))))))), (17, .c (.zero)), (18, .c (.zero))], []⟩) (c := True ∧ True ∧ True) (by kernel_rfl) ⟨trivial, trivial, trivial⟩ ?_
        refine At.one rfl (One.cap0 (e := 27) rfl rfl rfl rfl rfl rfl) ?_
        refine At.seg 2 [0, 20, 21] [] (s' := ⟨[(0, .c (.zero)), (20, .c (.zero)), (21, .c (.d (.int .i64 (IntKind.i64.wrap (p1 - (IntKind.i64.wrap ((0 : Int) - 0)))))))], []⟩) (c := ((0 : Int) ≤ (0 : Int) ∧ (0 : Int) ≤ (0 : Int) ∧ (0 : Int) ≤ ((0 : Nat) : Int)) ∧ True ∧ True) (by kernel_rfl) ⟨⟨by decide, by decide, by decide⟩, trivial, trivial⟩ ?_
        obtain ⟨hc3, h⟩ := need_elim h
        refine At.one rfl (One.appendN0 (e := 27) (es := 3) (bs := 32) (n := (IntKind.i64.wrap (p1 - (IntKind.i64.wrap ((0 : Int) - 0))))) (z := [.d (.bool false), .d (.int .i64 0), .d (.str (bs []))]) (encValue) ((⟨false, 0, (bs [])⟩ : Value) : Value) rfl rfl rfl rfl (by kernel_rfl) rfl rfl rfl rfl rfl rfl (by kernel_rfl) rfl rfl (.refl _) rfl rfl rfl hc3.1 hc3.2) ?_
        refine At.seg 2 [22, 24] [22] (s' := ⟨[(22, .c (.own 22 3 0 ((List.replicate ((IntKind.i64.wrap (p1 - (IntKind.i64.wrap ((0 : Int) - 0)))).toNat) ((⟨false, 0, (bs [])⟩ : Value) : Value)).length))), (24, .c (.d (.int .i64 0)))], [(22, .vec 3 (List.replicate ((IntKind.i64.wrap (p1 - (IntKind.i64.wrap ((0 : Int) - 0)))).toNat) ((⟨false, 0, (bs [])⟩ : Value) : Value)).length (fun i => encValue ((List.replicate ((IntKind.i64.wrap (p1 - (IntKind.i64.wrap ((0 : Int) - 0)))).toNat) ((⟨false, 0, (bs [])⟩ : Value) : Value)).getD i default)))]⟩) (c := True ∧ True ∧ True) (by kernel_rfl) ⟨trivial, trivial, trivial⟩ ?_
        obtain ⟨hc4, h⟩ := need_elim h
        refine At.seg 1 [25] [22] (s' := ⟨[(25, .c (.own 22 3 (0 + (0 : Int).toNat) ((0 : Int).toNat - (0 : Int).toNat)))], [(22, .vec 3 (List.replicate ((IntKind.i64.wrap (p1 - (IntKind.i64.wrap ((0 : Int) - 0)))).toNat) ((⟨false, 0, (bs [])⟩ : Value) : Value)).length (fun i => encValue ((List.replicate ((IntKind.i64.wrap (p1 - (IntKind.i64.wrap ((0 : Int) - 0)))).toNat) ((⟨false, 0, (bs [])⟩ : Value) : Value)).getD i default)))]⟩) (c := ((0 : Int) ≤ 0 ∧ (0 : Int) ≤ 0 ∧ 0 ≤ ((List.replicate ((IntKind.i64.wrap (p1 - (IntKind.i64.wrap ((0 : Int) - 0)))).toNat) ((⟨false, 0, (bs [])⟩ : Value) : Value)).length : Int)) ∧ True) (by kernel_rfl) ⟨hc4, trivial⟩ ?_
        refine At.eqS (s' := ⟨[(25, .c (.own 22 3 0 (((List.replicate ((IntKind.i64.wrap (p1 - (IntKind.i64.wrap ((0 : Int) - 0)))).toNat) ((⟨false, 0, (bs [])⟩ : Value) : Value)).take 0).length)))], [(22, .vec 3 (List.replicate ((IntKind.i64.wrap (p1 - (IntKind.i64.wrap ((0 : Int) - 0)))).toNat) ((⟨false, 0, (bs [])⟩ : Value) : Value)).length (fun i => encValue ((List.replicate ((IntKind.i64.wrap (p1 - (IntKind.i64.wrap ((0 : Int) - 0)))).toNat) ((⟨false, 0, (bs [])⟩ : Value) : Value)).getD i default)))]⟩) (by simp only [List.length_take, Int.toNat_zero, Nat.add_zero, Nat.zero_add, Nat.sub_zero, take_min hc4, Nat.zero_min]) ?_
        refine At.le [] (fun k hk => by cases hk) ⟨[(25, .c (.own 22 3 0 (((List.replicate ((IntKind.i64.wrap (p1 - (IntKind.i64.wrap ((0 : Int) - 0)))).toNat) ((⟨false, 0, (bs [])⟩ : Value) : Value)).take 0).length)))], [(22, .vec 3 ((List.replicate ((IntKind.i64.wrap (p1 - (IntKind.i64.wrap ((0 : Int) - 0)))).toNat) ((⟨false, 0, (bs [])⟩ : Value) : Value)).take 0).length (fun i => encValue (((List.replicate ((IntKind.i64.wrap (p1 - (IntKind.i64.wrap ((0 : Int) - 0)))).toNat) ((⟨false, 0, (bs [])⟩ : Value) : Value)).take 0).getD i default)))]⟩ ⟨⟨_, rfl, .refl _⟩, trivial⟩ ⟨⟨_, rfl, .take (take_le _ _) (take_get (encValue) _ _), (by simp)⟩, trivial⟩ ?_
        refine At.seg 1 [0] [22] (s' := ⟨[(0, .c (.own 22 3 0 (((List.replicate ((IntKind.i64.wrap (p1 - (IntKind.i64.wrap ((0 : Int) - 0)))).toNat) ((⟨false, 0, (bs [])⟩ : Value) : Value)).take 0).length)))], [(22, .vec 3 ((List.replicate ((IntKind.i64.wrap (p1 - (IntKind.i64.wrap ((0 : Int) - 0)))).toNat) ((⟨false, 0, (bs [])⟩ : Value) : Value)).take 0).length (fun i => encValue (((List.replicate ((IntKind.i64.wrap (p1 - (IntKind.i64.wrap ((0 : Int) - 0)))).toNat) ((⟨false, 0, (bs [])⟩ : Value) : Value)).take 0).getD i default)))]⟩) (c := True ∧ True) (by kernel_rfl) ⟨trivial, trivial⟩ ?_
        refine At.done rfl ?_
        exact ⟨_, h, rfl⟩
      · refine Tri.newOwn (t := 0) (k := 22) (es := 3) (fun i => encValue (([] : List Value).getD i default)) rfl rfl rfl ?_
        refine Tri.keep [0] [22] (s' := ⟨[(0, .c (.own 22 3 0 (([] : List Value).length)))], [(22, .vec 3 ([] : List Value).length (fun i => encValue (([] : List Value).getD i default)))]⟩) (by kernel_rfl) ?_
        refine Tri.skip ?_
        exact ⟨_, h, rfl⟩

set_option maxRecDepth 100000 in
theorem slices_Concatfreshet_api_Value_freshet_api_Value_Value_ok {p0 : List (List Value)} {q : List Value} (h : slices_Concatfreshet_api_Value_freshet_api_Value_Value p0 = some q) :
    Summ Try.prog 40 [.c (.d (.list 1 p0.length (fun i => (fun xs => [encL 3 encValue xs]) (p0.getD i default))))] [] (.c (.d (.list 3 q.length (fun i => encValue (q.getD i default))))) [] := by
  refine Summ.intro Try.func40 rfl (by kernel_rfl) (by kernel_rfl) [] rfl ?_
  rintro ⟨P, w0, G0, V, LL, lk, N, φ0, fx⟩ rfl rfl rfl rfl
  unfold slices_Concatfreshet_api_Value_freshet_api_Value_Value at h
  refine Tri.seqS ?_
  refine Tri.reg ?_
  refine At.seg 1 [0] [] (s' := ⟨[(0, .c (.d (.list 1 p0.length (fun i => (fun xs => [encL 3 encValue xs]) (p0.getD i default)))))], []⟩) (c := True ∧ True) (by kernel_rfl) ⟨trivial, trivial⟩ ?_
  refine At.done rfl ?_
  show Tri _ _ _ _
  refine Tri.seqS ?_
  refine Tri.reg ?_
  refine At.seg 1 [0, 3] [] (s' := ⟨[(0, .c (.d (.list 1 p0.length (fun i => (fun xs => [encL 3 encValue xs]) (p0.getD i default))))), (3, .c (.d (.int .i64 0)))], []⟩) (c := True ∧ True) (by kernel_rfl) ⟨trivial, trivial⟩ ?_
  refine At.done rfl ?_
  show Tri _ _ _ _
  refine Tri.seqS ?_
  refine Tri.seqS ?_
  refine Tri.reg ?_
  refine At.seg 3 [0, 3, 9, 10, 11] [] (s' := ⟨[(0, .c (.d (.list 1 p0.length (fun i => (fun xs => [encL 3 encValue xs]) (p0.getD i default))))), (3, .c (.d (.int .i64 0))), (9, .c (.d (.list 1 p0.length (fun i => (fun xs => [encL 3 encValue xs]) (p0.getD i default))))), (10, .c (.d (.int .i64 (p0.length : Int)))), (11, .c (.d (.int .i64 0)))], []⟩) (c := True ∧ True ∧ True ∧ True) (by kernel_rfl) ⟨trivial, trivial, trivial, trivial⟩ ?_
  refine At.done rfl ?_
  show Tri _ _ _ _
  refine Tri.lenOf (t := 9) rfl fun hlena2 => ?_
  refine Tri.keep [11, 0, 3, 9, 10] [] (s' := idx 11 0 ⟨[(0, .c (.d (.list 1 p0.length (fun i => (fun xs => [encL 3 encValue xs]) (p0.getD i default))))), (3, .c (.d (.int .i64 0))), (9, .c (.d (.list 1 p0.length (fun i => (fun xs => [encL 3 encValue xs]) (p0.getD i default))))), (10, .c (.d (.int .i64 (p0.length : Int))))], []⟩) (by kernel_rfl) ?_
  refine Tri.range (n := p0.length) (st0 := 0) (fun (x : Empty) s => False) (fun (a2 : Int) => ⟨[(0, .c (.d (.list 1 p0.length (fun i => (fun xs => [encL 3 encValue xs]) (p0.getD i default))))), (3, .c (.d (.int .i64 a2))), (9, .c (.d (.list 1 p0.length (fun i => (fun xs => [encL 3 encValue xs]) (p0.getD i default))))), (10, .c (.d (.int .i64 (p0.length : Int))))], []⟩) (fun (a2 : Int) => ⟨[(0, .c (.d (.list 1 p0.length (fun i => (fun xs => [encL 3 encValue xs]) (p0.getD i default))))), (3, .c (.d (.int .i64 a2))), (9, .c (.d (.list 1 p0.length (fun i => (fun xs => [encL 3 encValue xs]) (p0.getD i default))))), (10, .c (.d (.int .i64 (p0.length : Int))))], []⟩) (fun i => decide ((i : Int) < (p0.length : Int))) [12, 11, 0, 3, 9, 10] [] [0, 3, 9, 10] [] [11, 0, 3, 9, 10] [] h hlena2 rfl ?_ ?_ ?_ ?_ ?_ ?_ ?_ ?_
  · exact fun i a => ⟨True ∧ True, by kernel_rfl, ⟨trivial, trivial⟩⟩
  · exact fun i hi => decide_eq_true (by omega)
  · exact decide_eq_false (by omega)
  · exact fun a => by kernel_rfl
  · exact fun i a => ⟨True ∧ True ∧ True, by kernel_rfl, ⟨trivial, trivial, trivial⟩⟩
  · intro i1 a2 c hii1 h
    refine Tri.seqS ?_
    refine Tri.reg ?_
    refine At.seg 3 [0, 3, 5, 9, 10, 11] [] (s' := ⟨[(0, .c (.d (.list 1 p0.length (fun i => (fun xs => [encL 3 encValue xs]) (p0.getD i default))))), (3, .c (.d (.int .i64 a2))), (5, .c (.d (.list 3 (p0.getD i1 default).length (fun i => encValue ((p0.getD i1 default).getD i default))))), (9, .c (.d (.list 1 p0.length (fun i => (fun xs => [encL 3 encValue xs]) (p0.getD i default))))), (10, .c (.d (.int .i64 (p0.length : Int)))), (11, .c (.d (.int .i64 ((i1 : Nat) : Int))))], []⟩) (c := ((0 : Int) ≤ ((i1 : Nat) : Int) ∧ ((i1 : Nat) : Int) < (p0.length : Int)) ∧ True ∧ True ∧ True) (by kernel_rfl) ⟨⟨by omega, by omega⟩, trivial, trivial, trivial⟩ ?_
    refine At.done rfl ?_
    show Tri _ _ _ _
    refine Tri.seqS ?_
    refine Tri.reg ?_
    refine At.seg 5 [0, 3, 9, 10, 11] [] (s' := ⟨[(0, .c (.d (.list 1 p0.length (fun i => (fun xs => [encL 3 encValue xs]) (p0.getD i default))))), (3, .c (.d (.int .i64 (IntKind.i64.wrap (a2 + ((p0.getD i1 default).length : Int)))))), (9, .c (.d (.list 1 p0.length (fun i => (fun xs => [encL 3 encValue xs]) (p0.getD i default))))), (10, .c (.d (.int .i64 (p0.length : Int)))), (11, .c (.d (.int .i64 ((i1 : Nat) : Int))))], []⟩) (c := True ∧ True ∧ True ∧ True ∧ True ∧ True) (by kernel_rfl) ⟨trivial, trivial, trivial, trivial, trivial, trivial⟩ ?_
    refine At.done rfl ?_
    show Tri _ _ _ _
    refine Tri.seqS ?_
    refine Tri.reg ?_
    refine At.seg 2 [0, 3, 9, 10, 11, 20] [] (s' := ⟨[(0, .c (.d (.list 1 p0.length (fun i => (fun xs => [encL 3 encValue xs]) (p0.getD i default))))), (3, .c (.d (.int .i64 (IntKind.i64.wrap (a2 + ((p0.getD i1 default).length : Int)))))), (9, .c (.d (.list 1 p0.length (fun i => (fun xs => [encL 3 encValue xs]) (p0.getD i default))))), (10, .c (.d (.int .i64 (p0.length : Int)))), (11, .c (.d (.int .i64 ((i1 : Nat) : Int)))), (20, .c (.d (.bool (decide ((IntKind.i64.wrap (a2 + ((p0.getD i1 default).length : Int))) < 0)))))], []⟩) (c := True ∧ True ∧ True) (by kernel_rfl) ⟨trivial, trivial, trivial⟩ ?_
    refine At.done rfl ?_
    show Tri _ _ _ _
    refine Tri.condP (b := (decide ((IntKind.i64.wrap (a2 + ((p0.getD i1 default).length : Int))) < 0))) rfl h (fun h => ?_) (fun h => ?_)
    · refine Tri.reg ?_
      cases h
    · refine Tri.keep [11, 0, 3, 9, 10] [] (s' := ⟨[(11, .c (.d (.int .i64 ((i1 : Nat) : Int)))), (0, .c (.d (.list 1 p0.length (fun i => (fun xs => [encL 3 encValue xs]) (p0.getD i default))))), (3, .c (.d (.int .i64 (IntKind.i64.wrap (a2 + ((p0.getD i1 default).length : Int)))))), (9, .c (.d (.list 1 p0.length (fun i => (fun xs => [encL 3 encValue xs]) (p0.getD i default))))), (10, .c (.d (.int .i64 (p0.length : Int))))], []⟩) (by kernel_rfl) ?_
      refine Tri.skip ?_
      cases h
      exact rfl
  · intro a3 h
    show Tri _ _ _ _
    refine Tri.seqS ?_
    refine Tri.reg ?_
    refine At.seg 1 [0, 23] [] (s' := ⟨[(0, .c (.d (.list 1 p0.length (fun i => (fun xs => [encL 3 encValue xs]) (p0.getD i default))))), (23, .c (.d (.int .i64 a3)))], []⟩) (c := True ∧ True) (by kernel_rfl) ⟨trivial, trivial⟩ ?_
    obtain ⟨r4, hr4, h⟩ := bind_elim h
    refine At.callL (nf := 0) (caps := []) (xs := [.c (.zero), .c (.d (.int .i64 a3))]) [(6000, 30096)] [0] [] (s0 := ⟨[(0, .c (.d (.list 1 p0.length (fun i => (fun xs => [encL 3 encValue xs]) (p0.getD i default)))))], []⟩) (slices_Growfreshet_api_Value_freshet_api_Value_Value_ok_o hr4) rfl rfl (by kernel_rfl) rfl (by kernel_rfl) (by kernel_rfl) (.flat (.refl _) rfl rfl (.flat (.refl _) rfl rfl .nil)) trivial (by kernel_rfl) (by kernel_rfl) (by kernel_rfl) (by kernel_rfl) (by kernel_rfl) (by kernel_rfl) (by kernel_rfl) (by kernel_rfl) (by kernel_rfl) ⟨[(24, .c (.own 30096 3 0 r4.length)), (0, .c (.d (.list 1 p0.length (fun i => (fun xs => [encL 3 encValue xs]) (p0.getD i default)))))], [(30096, .vec 3 r4.length (fun i => encValue (r4.getD i default)))]⟩ (by kernel_rfl) ?_
    refine At.seg 1 [0, 6] [30096] (s' := ⟨[(0, .c (.d (.list 1 p0.length (fun i => (fun xs => [encL 3 encValue xs]) (p0.getD i default))))), (6, .c (.own 30096 3 0 r4.length))], [(30096, .vec 3 r4.length (fun i => encValue (r4.getD i default)))]⟩) (c := True ∧ True) (by kernel_rfl) ⟨trivial, trivial⟩ ?_
    refine At.done rfl ?_
    show Tri _ _ _ _
    refine Tri.seqS ?_
    refine Tri.seqS ?_
    refine Tri.reg ?_
    refine At.seg 3 [6, 25, 26, 27] [30096] (s' := ⟨[(6, .c (.own 30096 3 0 r4.length)), (25, .c (.d (.list 1 p0.length (fun i => (fun xs => [encL 3 encValue xs]) (p0.getD i default))))), (26, .c (.d (.int .i64 (p0.length : Int)))), (27, .c (.d (.int .i64 0)))], [(30096, .vec 3 r4.length (fun i => encValue (r4.getD i default)))]⟩) (c := True ∧ True ∧ True ∧ True) (by kernel_rfl) ⟨trivial, trivial, trivial, trivial⟩ ?_
    refine At.done rfl ?_
    show Tri _ _ _ _
    refine Tri.lenOf (t := 25) rfl fun hlena6 => ?_
    refine Tri.keep [27, 6, 25, 26] [30096] (s' := idx 27 0 ⟨[(6, .c (.own 30096 3 0 r4.length)), (25, .c (.d (.list 1 p0.length (fun i => (fun xs => [encL 3 encValue xs]) (p0.getD i default))))), (26, .c (.d (.int .i64 (p0.length : Int))))], [(30096, .vec 3 r4.length (fun i => encValue (r4.getD i default)))]⟩) (by kernel_rfl) ?_
    refine Tri.range (n := p0.length) (st0 := r4) (fun (x : Empty) s => False) (fun (a6 : List Value) => ⟨[(6, .c (.own 30096 3 0 a6.length)), (25, .c (.d (.list 1 p0.length (fun i => (fun xs => [encL 3 encValue xs]) (p0.getD i default))))), (26, .c (.d (.int .i64 (p0.length : Int))))], [(30096, .vec 3 a6.length (fun i => encValue (a6.getD i default)))]⟩) (fun (a6 : List Value) => ⟨[(6, .c (.own 30096 3 0 a6.length)), (25, .c (.d (.list 1 p0.length (fun i => (fun xs => [encL 3 encValue xs]) (p0.getD i default))))), (26, .c (.d (.int .i64 (p0.length : Int))))], [(30096, .vec 3 a6.length (fun i => encValue (a6.getD i default)))]⟩) (fun i => decide ((i : Int) < (p0.length : Int))) [28, 27, 6, 25, 26] [30096] [6, 25, 26] [30096] [27, 6, 25, 26] [30096] h hlena6 rfl ?_ ?_ ?_ ?_ ?_ ?_ ?_ ?_
    · exact fun i a => ⟨True ∧ True, by kernel_rfl, ⟨trivial, trivial⟩⟩
    · exact fun i hi => decide_eq_true (by omega)
    · exact decide_eq_false (by omega)
    · exact fun a => by kernel_rfl
    · exact fun i a => ⟨True ∧ True ∧ True, by kernel_rfl, ⟨trivial, trivial, trivial⟩⟩
    · intro i5 a6 c hii5 h
      refine Tri.seqS ?_
      refine Tri.reg ?_
      refine At.seg 3 [6, 8, 25, 26, 27] [30096] (s' := ⟨[(6, .c (.own 30096 3 0 a6.length)), (8, .c (.d (.list 3 (p0.getD i5 default).length (fun i => encValue ((p0.getD i5 default).getD i default))))), (25, .c (.d (.list 1 p0.length (fun i => (fun xs => [encL 3 encValue xs]) (p0.getD i default))))), (26, .c (.d (.int .i64 (p0.length : Int)))), (27, .c (.d (.int .i64 ((i5 : Nat) : Int))))], [(30096, .vec 3 a6.length (fun i => encValue (a6.getD i default)))]⟩) (c := ((0 : Int) ≤ ((i5 : Nat) : Int) ∧ ((i5 : Nat) : Int) < (p0.length : Int)) ∧ True ∧ True ∧ True) (by kernel_rfl) ⟨⟨by omega, by omega⟩, trivial, trivial, trivial⟩ ?_
      refine At.done rfl ?_
      show Tri _ _ _ _
      refine Tri.reg ?_
      refine At.seg 2 [25, 26, 27, 31, 32] [30096] (s' := ⟨[(25, .c (.d (.list 1 p0.length (fun i => (fun xs => [encL 3 encValue xs]) (p0.getD i default))))), (26, .c (.d (.int .i64 (p0.length : Int)))), (27, .c (.d (.int .i64 ((i5 : Nat) : Int)))), (31, .c (.own 30096 3 0 a6.length)), (32, .c (.d (.list 3 (p0.getD i5 default).length (fun i => encValue ((p0.getD i5 default).getD i default)))))], [(30096, .vec 3 a6.length (fun i => encValue (a6.getD i default)))]⟩) (c := True ∧ True ∧ True) (by kernel_rfl) ⟨trivial, trivial, trivial⟩ ?_
      obtain ⟨hc8, h⟩ := need_elim h
      refine At.one rfl (One.appendT (e := 27) (es := 3) (encValue) a6 (p0.getD i5 default) rfl rfl rfl rfl rfl (.of 27 32 [.d (.bool false), .d (.int .i64 0), .d (.str (bs []))] (by kernel_rfl) (by kernel_rfl) (by kernel_rfl) (by kernel_rfl) rfl (by kernel_rfl) rfl) rfl rfl rfl (.list rfl (fun _ _ => rfl)) hc8) ?_
      refine At.seg 1 [27, 6, 25, 26] [30096] (s' := ⟨[(27, .c (.d (.int .i64 ((i5 : Nat) : Int)))), (6, .c (.own 30096 3 0 ((a6 ++ (p0.getD i5 default)).length))), (25, .c (.d (.list 1 p0.length (fun i => (fun xs => [encL 3 encValue xs]) (p0.getD i default))))), (26, .c (.d (.int .i64 (p0.length : Int))))], [(30096, .vec 3 (a6 ++ (p0.getD i5 default)).length (fun i => encValue ((a6 ++ (p0.getD i5 default)).getD i default)))]⟩) (c := True ∧ True) (by kernel_rfl) ⟨trivial, trivial⟩ ?_
      refine At.done rfl ?_
      cases h
      exact rfl
    · intro a7 h
      show Tri _ _ _ _
      refine Tri.seqS ?_
      refine Tri.reg ?_
      refine At.seg 2 [2] [30096] (s' := ⟨[(2, .c (.own 30096 3 0 a7.length))], [(30096, .vec 3 a7.length (fun i => encValue (a7.getD i default)))]⟩) (c := True ∧ True ∧ True) (by kernel_rfl) ⟨trivial, trivial, trivial⟩ ?_
      refine At.done rfl ?_
      show Tri _ _ _ _
      refine Tri.keep [2] [30096] (s' := ⟨[(2, .c (.own 30096 3 0 a7.length))], [(30096, .vec 3 a7.length (fun i => encValue (a7.getD i default)))]⟩) (by kernel_rfl) ?_
      refine Tri.le [30096] (fun k _ h => by cases h) ⟨[(2, .c (.d (.list 3 a7.length (fun i => encValue (a7.getD i default)))))], []⟩ ⟨⟨_, rfl, .c (CLe.frozen (encValue) a7 rfl (by simp))⟩, trivial⟩ trivial ?_
      refine Tri.ret ?_
      cases h
      refine ⟨_, _, rfl, ⟨trivial, trivial⟩, rfl, rfl, ?_⟩
      intro k c h
      cases h
    · exact fun x => x.elim
  · exact fun x => x.elim

set_option maxRecDepth 100000 in
theorem value_Join_ok {p0 : List (List Value)} {q : (List Value) × Int} (h : value_Join p0 = some q) :
    Summ Try.prog 21 [.c (.d (.list 1 p0.length (fun i => (fun xs => [encL 3 encValue xs]) (p0.getD i default))))] [] (.tup [(false, [.d (.list 3 q.1.length (fun i => encValue (q.1.getD i default)))]), (false, [.d (.int .i64 q.2)])]) [] := by
  refine Summ.intro Try.func21 rfl (by kernel_rfl) (by kernel_rfl) [] rfl ?_
  rintro ⟨P, w0, G0, V, LL, lk, N, φ0, fx⟩ rfl rfl rfl rfl
  unfold value_Join at h
  refine Tri.seqS ?_
  refine Tri.reg ?_
  refine At.seg 2 [0] [] (s' := ⟨[(0, .c (.d (.list 1 p0.length (fun i => (fun xs => [encL 3 encValue xs]) (p0.getD i default)))))], []⟩) (c := True ∧ True ∧ True) (by kernel_rfl) ⟨trivial, trivial, trivial⟩ ?_
  refine At.done rfl ?_
  show Tri _ _ _ _
  refine Tri.seqS ?_
  refine Tri.seqS ?_
  refine Tri.reg ?_
  refine At.seg 3 [0, 8, 9, 10] [] (s' := ⟨[(0, .c (.d (.list 1 p0.length (fun i => (fun xs => [encL 3 encValue xs]) (p0.getD i default))))), (8, .c (.d (.list 1 p0.length (fun i => (fun xs => [encL 3 encValue xs]) (p0.getD i default))))), (9, .c (.d (.int .i64 (p0.length : Int)))), (10, .c (.d (.int .i64 0)))], []⟩) (c := True ∧ True ∧ True ∧ True) (by kernel_rfl) ⟨trivial, trivial, trivial, trivial⟩ ?_
  refine At.done rfl ?_
  show Tri _ _ _ _
  refine Tri.lenOf (t := 8) rfl fun hlena2 => ?_
  refine Tri.keep [10, 0, 8, 9] [] (s' := idx 10 0 ⟨[(0, .c (.d (.list 1 p0.length (fun i => (fun xs => [encL 3 encValue xs]) (p0.getD i default))))), (8, .c (.d (.list 1 p0.length (fun i => (fun xs => [encL 3 encValue xs]) (p0.getD i default))))), (9, .c (.d (.int .i64 (p0.length : Int))))], []⟩) (by kernel_rfl) ?_
  refine Tri.range (n := p0.length) (st0 := ()) (fun (x : (List Value) × Int) s => RetAt Try.prog Try.f21 (.tup [(false, [.d (.list 3 x.1.length (fun i => encValue (x.1.getD i default)))]), (false, [.d (.int .i64 x.2)])]) [] s) (fun (a2 : Unit) => ⟨[(0, .c (.d (.list 1 p0.length (fun i => (fun xs => [encL 3 encValue xs]) (p0.getD i default))))), (8, .c (.d (.list 1 p0.length (fun i => (fun xs => [encL 3 encValue xs]) (p0.getD i default))))), (9, .c (.d (.int .i64 (p0.length : Int))))], []⟩) (fun (a2 : Unit) => ⟨[(0, .c (.d (.list 1 p0.length (fun i => (fun xs => [encL 3 encValue xs]) (p0.getD i default))))), (8, .c (.d (.list 1 p0.length (fun i => (fun xs => [encL 3 encValue xs]) (p0.getD i default))))), (9, .c (.d (.int .i64 (p0.length : Int))))], []⟩) (fun i => decide ((i : Int) < (p0.length : Int))) [11, 10, 0, 8, 9] [] [0, 8, 9] [] [10, 0, 8, 9] [] h hlena2 rfl ?_ ?_ ?_ ?_ ?_ ?_ ?_ ?_
  · exact fun i a => ⟨True ∧ True, by kernel_rfl, ⟨trivial, trivial⟩⟩
  · exact fun i hi => decide_eq_true (by omega)
  · exact decide_eq_false (by omega)
  · exact fun a => by kernel_rfl
  · exact fun i a => ⟨True ∧ True ∧ True, by kernel_rfl, ⟨trivial, trivial, trivial⟩⟩
  · intro i1 a2 c hii1 h
    refine Tri.seqS ?_
    refine Tri.reg ?_
    refine At.seg 3 [0, 5, 8, 9, 10] [] (s' := ⟨[(0, .c (.d (.list 1 p0.length (fun i => (fun xs => [encL 3 encValue xs]) (p0.getD i default))))), (5, .c (.d (.list 3 (p0.getD i1 default).length (fun i => encValue ((p0.getD i1 default).getD i default))))), (8, .c (.d (.list 1 p0.length (fun i => (fun xs => [encL 3 encValue xs]) (p0.getD i default))))), (9, .c (.d (.int .i64 (p0.length : Int)))), (10, .c (.d (.int .i64 ((i1 : Nat) : Int))))], []⟩) (c := ((0 : Int) ≤ ((i1 : Nat) : Int) ∧ ((i1 : Nat) : Int) < (p0.length : Int)) ∧ True ∧ True ∧ True) (by kernel_rfl) ⟨⟨by omega, by omega⟩, trivial, trivial, trivial⟩ ?_
    refine At.done rfl ?_
    show Tri _ _ _ _
    refine Tri.seqS ?_
    refine Tri.reg ?_
    refine At.seg 1 [0, 8, 9, 10, 14] [] (s' := ⟨[(0, .c (.d (.list 1 p0.length (fun i => (fun xs => [encL 3 encValue xs]) (p0.getD i default))))), (8, .c (.d (.list 1 p0.length (fun i => (fun xs => [encL 3 encValue xs]) (p0.getD i default))))), (9, .c (.d (.int .i64 (p0.length : Int)))), (10, .c (.d (.int .i64 ((i1 : Nat) : Int)))), (14, .c (.d (.list 3 (p0.getD i1 default).length (fun i => encValue ((p0.getD i1 default).getD i default)))))], []⟩) (c := True ∧ True) (by kernel_rfl) ⟨trivial, trivial⟩ ?_
    obtain ⟨r5, hr5, h⟩ := bind_elim h
    refine At.callA (caps := []) (xs := [.c (.d (.list 3 (p0.getD i1 default).length (fun i => encValue ((p0.getD i1 default).getD i default))))]) (value_Check_ok hr5) rfl rfl rfl rfl rfl rfl (.cons (.refl _) .nil) rfl rfl ?_
    refine At.seg 1 [0, 6, 8, 9, 10] [] (s' := ⟨[(0, .c (.d (.list 1 p0.length (fun i => (fun xs => [encL 3 encValue xs]) (p0.getD i default))))), (6, .c (.d (.int .i64 r5))), (8, .c (.d (.list 1 p0.length (fun i => (fun xs => [encL 3 encValue xs]) (p0.getD i default))))), (9, .c (.d (.int .i64 (p0.length : Int)))), (10, .c (.d (.int .i64 ((i1 : Nat) : Int))))], []⟩) (c := True ∧ True) (by kernel_rfl) ⟨trivial, trivial⟩ ?_
    refine At.done rfl ?_
    show Tri _ _ _ _
    refine Tri.seqS ?_
    refine Tri.reg ?_
    refine At.seg 2 [0, 6, 8, 9, 10, 17] [] (s' := ⟨[(0, .c (.d (.list 1 p0.length (fun i => (fun xs => [encL 3 encValue xs]) (p0.getD i default))))), (6, .c (.d (.int .i64 r5))), (8, .c (.d (.list 1 p0.length (fun i => (fun xs => [encL 3 encValue xs]) (p0.getD i default))))), (9, .c (.d (.int .i64 (p0.length : Int)))), (10, .c (.d (.int .i64 ((i1 : Nat) : Int)))), (17, .c (.d (.bool (!decide (r5 = 0)))))], []⟩) (c := True ∧ True ∧ True) (by kernel_rfl) ⟨trivial, trivial, trivial⟩ ?_
    refine At.done rfl ?_
    show Tri _ _ _ _
    refine Tri.condP (b := (!decide (r5 = 0))) rfl h (fun h => ?_) (fun h => ?_)
    · refine Tri.seqS ?_
      refine Tri.reg ?_
      refine At.seg 3 [2, 3] [] (s' := ⟨[(2, .c (.zero)), (3, .c (.d (.int .i64 r5)))], []⟩) (c := True ∧ True ∧ True ∧ True) (by kernel_rfl) ⟨trivial, trivial, trivial, trivial⟩ ?_
      refine At.done rfl ?_
      show Tri _ _ _ _
      refine Tri.keep [2, 3] [] (s' := ⟨[(2, .c (.zero)), (3, .c (.d (.int .i64 r5)))], []⟩) (by kernel_rfl) ?_
      refine Tri.le [] (fun k hk => by cases hk) ⟨[(2, .c (.d (.list 3 ([] : List Value).length (fun i => encValue (([] : List Value).getD i default))))), (3, .c (.d (.int .i64 r5)))], []⟩ ⟨⟨_, rfl, .c (.zero _ _)⟩, ⟨_, rfl, .refl _⟩, trivial⟩ trivial ?_
      refine Tri.ret ?_
      cases h
      refine ⟨_, _, rfl, ⟨trivial, ⟨trivial, trivial⟩⟩, rfl, rfl, ?_⟩
      intro k c h
      cases h
    · refine Tri.keep [10, 0, 8, 9] [] (s' := ⟨[(10, .c (.d (.int .i64 ((i1 : Nat) : Int)))), (0, .c (.d (.list 1 p0.length (fun i => (fun xs => [encL 3 encValue xs]) (p0.getD i default))))), (8, .c (.d (.list 1 p0.length (fun i => (fun xs => [encL 3 encValue xs]) (p0.getD i default))))), (9, .c (.d (.int .i64 (p0.length : Int))))], []⟩) (by kernel_rfl) ?_
      refine Tri.skip ?_
      cases h
      exact rfl
  · intro a3 h
    show Tri _ _ _ _
    refine Tri.seqS ?_
    refine Tri.reg ?_
    refine At.seg 1 [20] [] (s' := ⟨[(20, .c (.d (.list 1 p0.length (fun i => (fun xs => [encL 3 encValue xs]) (p0.getD i default)))))], []⟩) (c := True ∧ True) (by kernel_rfl) ⟨trivial, trivial⟩ ?_
    obtain ⟨r4, hr4, h⟩ := bind_elim h
    refine At.callA (caps := []) (xs := [.c (.d (.list 1 p0.length (fun i => (fun xs => [encL 3 encValue xs]) (p0.getD i default))))]) (slices_Concatfreshet_api_Value_freshet_api_Value_Value_ok hr4) rfl rfl rfl rfl rfl rfl (.cons (.refl _) .nil) rfl rfl ?_
    refine At.seg 1 [7] [] (s' := ⟨[(7, .c (.d (.list 3 r4.length (fun i => encValue (r4.getD i default)))))], []⟩) (c := True ∧ True) (by kernel_rfl) ⟨trivial, trivial⟩ ?_
    refine At.done rfl ?_
    show Tri _ _ _ _
    refine Tri.seqS ?_
    refine Tri.seqS ?_
    refine Tri.reg ?_
    refine At.seg 3 [7, 24] [] (s' := ⟨[(7, .c (.d (.list 3 r4.length (fun i => encValue (r4.getD i default))))), (24, .c (.d (.bool (decide (8 < (r4.length : Int))))))], []⟩) (c := True ∧ True ∧ True ∧ True) (by kernel_rfl) ⟨trivial, trivial, trivial, trivial⟩ ?_
    refine At.done rfl ?_
    show Tri _ _ _ _
    refine Tri.condP (b := (decide (8 < (r4.length : Int)))) rfl h (fun h => ?_) (fun h => ?_)
    · refine Tri.seqS ?_
      refine Tri.reg ?_
      refine At.seg 2 [2, 3] [] (s' := ⟨[(2, .c (.zero)), (3, .c (.d (.int .i64 2)))], []⟩) (c := True ∧ True ∧ True) (by kernel_rfl) ⟨trivial, trivial, trivial⟩ ?_
      refine At.done rfl ?_
      show Tri _ _ _ _
      refine Tri.keep [2, 3] [] (s' := ⟨[(2, .c (.zero)), (3, .c (.d (.int .i64 2)))], []⟩) (by kernel_rfl) ?_
      refine Tri.le [] (fun k hk => by cases hk) ⟨[(2, .c (.d (.list 3 ([] : List Value).length (fun i => encValue (([] : List Value).getD i default))))), (3, .c (.d (.int .i64 2)))], []⟩ ⟨⟨_, rfl, .c (.zero _ _)⟩, ⟨_, rfl, .refl _⟩, trivial⟩ trivial ?_
      refine Tri.ret ?_
      cases h
      refine ⟨_, _, rfl, ⟨trivial, ⟨trivial, trivial⟩⟩, rfl, rfl, ?_⟩
      intro k c h
      cases h
    · refine Tri.skip ?_
      show Tri _ _ _ _
      refine Tri.seqS ?_
      refine Tri.reg ?_
      refine At.seg 3 [2, 3] [] (s' := ⟨[(2, .c (.d (.list 3 r4.length (fun i => encValue (r4.getD i default))))), (3, .c (.d (.int .i64 0)))], []⟩) (c := True ∧ True ∧ True ∧ True) (by kernel_rfl) ⟨trivial, trivial, trivial, trivial⟩ ?_
      refine At.done rfl ?_
      show Tri _ _ _ _
      refine Tri.keep [2, 3] [] (s' := ⟨[(2, .c (.d (.list 3 r4.length (fun i => encValue (r4.getD i default))))), (3, .c (.d (.int .i64 0)))], []⟩) (by kernel_rfl) ?_
      refine Tri.ret ?_
      cases h
      refine ⟨_, _, rfl, ⟨trivial, ⟨trivial, trivial⟩⟩, rfl, rfl, ?_⟩
      intro k c h
      cases h
  · exact fun x s hx hr => by cases hx; exact hr

set_option maxRecDepth 100000 in
theorem freshetref03_Join_ok {p0 : List (List Value)} {q : (List Value) × Int} (h : freshetref03_Join p0 = some q) :
    Summ Try.prog 22 [.c (.d (.list 1 p0.length (fun i => (fun xs => [encL 3 encValue xs]) (p0.getD i default))))] [] (.tup [(false, [.d (.list 3 q.1.length (fun i => encValue (q.1.getD i default)))]), (false, [.d (.int .i64 q.2)])]) [] := by
  refine Summ.intro Try.func22 rfl (by kernel_rfl) (by kernel_rfl) [] rfl ?_
  rintro ⟨P, w0, G0, V, LL, lk, N, φ0, fx⟩ rfl rfl rfl rfl
  unfold freshetref03_Join at h
  refine Tri.seqS ?_
  refine Tri.reg ?_
  refine At.seg 2 [0] [] (s' := ⟨[(0, .c (.d (.list 1 p0.length (fun i => (fun xs => [encL 3 encValue xs]) (p0.getD i default)))))], []⟩) (c := True ∧ True ∧ True) (by kernel_rfl) ⟨trivial, trivial, trivial⟩ ?_
  refine At.done rfl ?_
  show Tri _ _ _ _
  refine Tri.seqS ?_
  refine Tri.reg ?_
  refine At.seg 1 [0, 4] [] (s' := ⟨[(0, .c (.d (.list 1 p0.length (fun i => (fun xs => [encL 3 encValue xs]) (p0.getD i default))))), (4, .c (.zero))], []⟩) (c := True ∧ True) (by kernel_rfl) ⟨trivial, trivial⟩ ?_
  refine At.done rfl ?_
  show Tri _ _ _ _
  refine Tri.seqS ?_
  refine Tri.seqS ?_
  refine Tri.reg ?_
  refine At.seg 3 [0, 4, 10, 11, 12] [] (s' := ⟨[(0, .c (.d (.list 1 p0.length (fun i => (fun xs => [encL 3 encValue xs]) (p0.getD i default))))), (4, .c (.zero)), (10, .c (.d (.list 1 p0.length (fun i => (fun xs => [encL 3 encValue xs]) (p0.getD i default))))), (11, .c (.d (.int .i64 (p0.length : Int)))), (12, .c (.d (.int .i64 0)))], []⟩) (c := True ∧ True ∧ True ∧ True) (by kernel_rfl) ⟨trivial, trivial, trivial, trivial⟩ ?_
  refine At.done rfl ?_
  show Tri _ _ _ _
  refine Tri.lenOf (t := 10) rfl fun hlena2 => ?_
  refine Tri.keep [12, 0, 4, 10, 11] [] (s' := idx 12 0 ⟨[(0, .c (.d (.list 1 p0.length (fun i => (fun xs => [encL 3 encValue xs]) (p0.getD i default))))), (4, .c (.zero)), (10, .c (.d (.list 1 p0.length (fun i => (fun xs => [encL 3 encValue xs]) (p0.getD i default))))), (11, .c (.d (.int .i64 (p0.length : Int))))], []⟩) (by kernel_rfl) ?_
  refine Tri.range (n := p0.length) (st0 := ()) (fun (x : (List Value) × Int) s => RetAt Try.prog Try.f22 (.tup [(false, [.d (.list 3 x.1.length (fun i => encValue (x.1.getD i default)))]), (false, [.d (.int .i64 x.2)])]) [] s) (fun (a2 : Unit) => ⟨[(0, .c (.d (.list 1 p0.length (fun i => (fun xs => [encL 3 encValue xs]) (p0.getD i default))))), (4, .c (.zero)), (10, .c (.d (.list 1 p0.length (fun i => (fun xs => [encL 3 encValue xs]) (p0.getD i default))))), (11, .c (.d (.int .i64 (p0.length : Int))))], []⟩) (fun (a2 : Unit) => ⟨[(0, .c (.d (.list 1 p0.length (fun i => (fun xs => [encL 3 encValue xs]) (p0.getD i default))))), (4, .c (.zero)), (10, .c (.d (.list 1 p0.length (fun i => (fun xs => [encL 3 encValue xs]) (p0.getD i default))))), (11, .c (.d (.int .i64 (p0.length : Int))))], []⟩) (fun i => decide ((i : Int) < (p0.length : Int))) [13, 12, 0, 4, 10, 11] [] [0, 4, 10, 11] [] [12, 0, 4, 10, 11] [] h hlena2 rfl ?_ ?_ ?_ ?_ ?_ ?_ ?_ ?_
  · exact fun i a => ⟨True ∧ True, by kernel_rfl, ⟨trivial, trivial⟩⟩
  · exact fun i hi => decide_eq_true (by omega)
  · exact decide_eq_false (by omega)
  · exact fun a => by kernel_rfl
  · exact fun i a => ⟨True ∧ True ∧ True, by kernel_rfl, ⟨trivial, trivial, trivial⟩⟩
  · intro i1 a2 c hii1 h
    refine Tri.seqS ?_
    refine Tri.reg ?_
    refine At.seg 3 [0, 4, 6, 10, 11, 12] [] (s' := ⟨[(0, .c (.d (.list 1 p0.length (fun i => (fun xs => [encL 3 encValue xs]) (p0.getD i default))))), (4, .c (.zero)), (6, .c (.d (.list 3 (p0.getD i1 default).length (fun i => encValue ((p0.getD i1 default).getD i default))))), (10, .c (.d (.list 1 p0.length (fun i => (fun xs => [encL 3 encValue xs]) (p0.getD i default))))), (11, .c (.d (.int .i64 (p0.length : Int)))), (12, .c (.d (.int .i64 ((i1 : Nat) : Int))))], []⟩) (c := ((0 : Int) ≤ ((i1 : Nat) : Int) ∧ ((i1 : Nat) : Int) < (p0.length : Int)) ∧ True ∧ True ∧ True) (by kernel_rfl) ⟨⟨by omega, by omega⟩, trivial, trivial, trivial⟩ ?_
    refine At.done rfl ?_
    show Tri _ _ _ _
    refine Tri.seqS ?_
    refine Tri.reg ?_
    refine At.seg 1 [0, 4, 10, 11, 12, 16] [] (s' := ⟨[(0, .c (.d (.list 1 p0.length (fun i => (fun xs => [encL 3 encValue xs]) (p0.getD i default))))), (4, .c (.zero)), (10, .c (.d (.list 1 p0.length (fun i => (fun xs => [encL 3 encValue xs]) (p0.getD i default))))), (11, .c (.d (.int .i64 (p0.length : Int)))), (12, .c (.d (.int .i64 ((i1 : Nat) : Int)))), (16, .c (.d (.list 3 (p0.getD i1 default).length (fun i => encValue ((p0.getD i1 default).getD i default)))))], []⟩) (c := True ∧ True) (by kernel_rfl) ⟨trivial, trivial⟩ ?_
    obtain ⟨r8, hr8, h⟩ := bind_elim h
    refine At.callA (caps := []) (xs := [.c (.d (.list 3 (p0.getD i1 default).length (fun i => encValue ((p0.getD i1 default).getD i default))))]) (freshetref03_Check_ok hr8) rfl rfl rfl rfl rfl rfl (.cons (.refl _) .nil) rfl rfl ?_
    refine At.seg 1 [0, 4, 7, 10, 11, 12] [] (s' := ⟨[(0, .c (.d (.list 1 p0.length (fun i => (fun xs => [encL 3 encValue xs]) (p0.getD i default))))), (4, .c (.zero)), (7, .c (.d (.int .i64 r8))), (10, .c (.d (.list 1 p0.length (fun i => (fun xs => [encL 3 encValue xs]) (p0.getD i default))))), (11, .c (.d (.int .i64 (p0.length : Int)))), (12, .c (.d (.int .i64 ((i1 : Nat) : Int))))], []⟩) (c := True ∧ True) (by kernel_rfl) ⟨trivial, trivial⟩ ?_
    refine At.done rfl ?_
    show Tri _ _ _ _
    refine Tri.seqS ?_
    refine Tri.reg ?_
    refine At.seg 2 [0, 4, 7, 10, 11, 12, 19] [] (s' := ⟨[(0, .c (.d (.list 1 p0.length (fun i => (fun xs => [encL 3 encValue xs]) (p0.getD i default))))), (4, .c (.zero)), (7, .c (.d (.int .i64 r8))), (10, .c (.d (.list 1 p0.length (fun i => (fun xs => [encL 3 encValue xs]) (p0.getD i default))))), (11, .c (.d (.int .i64 (p0.length : Int)))), (12, .c (.d (.int .i64 ((i1 : Nat) : Int)))), (19, .c (.d (.bool (!decide (r8 = 0)))))], []⟩) (c := True ∧ True ∧ True) (by kernel_rfl) ⟨trivial, trivial, trivial⟩ ?_
    refine At.done rfl ?_
    show Tri _ _ _ _
    refine Tri.condP (b := (!decide (r8 = 0))) rfl h (fun h => ?_) (fun h => ?_)
    · refine Tri.seqS ?_
      refine Tri.reg ?_
      refine At.seg 3 [2, 3] [] (s' := ⟨[(2, .c (.zero)), (3, .c (.d (.int .i64 r8)))], []⟩) (c := True ∧ True ∧ True ∧ True) (by kernel_rfl) ⟨trivial, trivial, trivial, trivial⟩ ?_
      refine At.done rfl ?_
      show Tri _ _ _ _
      refine Tri.keep [2, 3] [] (s' := ⟨[(2, .c (.zero)), (3, .c (.d (.int .i64 r8)))], []⟩) (by kernel_rfl) ?_
      refine Tri.le [] (fun k hk => by cases hk) ⟨[(2, .c (.d (.list 3 ([] : List Value).length (fun i => encValue (([] : List Value).getD i default))))), (3, .c (.d (.int .i64 r8)))], []⟩ ⟨⟨_, rfl, .c (.zero _ _)⟩, ⟨_, rfl, .refl _⟩, trivial⟩ trivial ?_
      refine Tri.ret ?_
      cases h
      refine ⟨_, _, rfl, ⟨trivial, ⟨trivial, trivial⟩⟩, rfl, rfl, ?_⟩
      intro k c h
      cases h
    · refine Tri.keep [12, 0, 4, 10, 11] [] (s' := ⟨[(12, .c (.d (.int .i64 ((i1 : Nat) : Int)))), (0, .c (.d (.list 1 p0.length (fun i => (fun xs => [encL 3 encValue xs]) (p0.getD i default))))), (4, .c (.zero)), (10, .c (.d (.list 1 p0.length (fun i => (fun xs => [encL 3 encValue xs]) (p0.getD i default))))), (11, .c (.d (.int .i64 (p0.length : Int))))], []⟩) (by kernel_rfl) ?_
      refine Tri.skip ?_
      cases h
      exact rfl
  · intro a3 h
    show Tri _ _ _ _
    refine Tri.seqS ?_
    refine Tri.seqS ?_
    refine Tri.reg ?_
    refine At.seg 3 [4, 22, 23, 24] [] (s' := ⟨[(4, .c (.zero)), (22, .c (.d (.list 1 p0.length (fun i => (fun xs => [encL 3 encValue xs]) (p0.getD i default))))), (23, .c (.d (.int .i64 (p0.length : Int)))), (24, .c (.d (.int .i64 0)))], []⟩) (c := True ∧ True ∧ True ∧ True) (by kernel_rfl) ⟨trivial, trivial, trivial, trivial⟩ ?_
    refine At.done rfl ?_
    show Tri _ _ _ _
    refine Tri.lenOf (t := 22) rfl fun hlena5 => ?_
    refine Tri.newOwn (t := 4) (k := 1004) (es := 3) (fun i => encValue (([] : List Value).getD i default)) rfl rfl rfl ?_
    refine Tri.keep [24, 4, 22, 23] [1004] (s' := idx 24 0 ⟨[(4, .c (.own 1004 3 0 (([] : List Value).length))), (22, .c (.d (.list 1 p0.length (fun i => (fun xs => [encL 3 encValue xs]) (p0.getD i default))))), (23, .c (.d (.int .i64 (p0.length : Int))))], [(1004, .vec 3 ([] : List Value).length (fun i => encValue (([] : List Value).getD i default)))]⟩) (by kernel_rfl) ?_
    refine Tri.range (n := p0.length) (st0 := ([] : List Value)) (fun (x : (List Value) × Int) s => RetAt Try.prog Try.f22 (.tup [(false, [.d (.list 3 x.1.length (fun i => encValue (x.1.getD i default)))]), (false, [.d (.int .i64 x.2)])]) [] s) (fun (a5 : List Value) => ⟨[(4, .c (.own 1004 3 0 a5.length)), (22, .c (.d (.list 1 p0.length (fun i => (fun xs => [encL 3 encValue xs]) (p0.getD i default))))), (23, .c (.d (.int .i64 (p0.length : Int))))], [(1004, .vec 3 a5.length (fun i => encValue (a5.getD i default)))]⟩) (fun (a5 : List Value) => ⟨[(4, .c (.own 1004 3 0 a5.length)), (22, .c (.d (.list 1 p0.length (fun i => (fun xs => [encL 3 encValue xs]) (p0.getD i default))))), (23, .c (.d (.int .i64 (p0.length : Int))))], [(1004, .vec 3 a5.length (fun i => encValue (a5.getD i default)))]⟩) (fun i => decide ((i : Int) < (p0.length : Int))) [25, 24, 4, 22, 23] [1004] [4, 22, 23] [1004] [24, 4, 22, 23] [1004] h hlena5 rfl ?_ ?_ ?_ ?_ ?_ ?_ ?_ ?_
    · exact fun i a => ⟨True ∧ True, by kernel_rfl, ⟨trivial, trivial⟩⟩
    · exact fun i hi => decide_eq_true (by omega)
    · exact decide_eq_false (by omega)
    · exact fun a => by kernel_rfl
    · exact fun i a => ⟨True ∧ True ∧ True, by kernel_rfl, ⟨trivial, trivial, trivial⟩⟩
    · intro i4 a5 c hii4 h
      refine Tri.seqS ?_
      refine Tri.reg ?_
      refine At.seg 3 [4, 9, 22, 23, 24] [1004] (s' := ⟨[(4, .c (.own 1004 3 0 a5.length)), (9, .c (.d (.list 3 (p0.getD i4 default).length (fun i => encValue ((p0.getD i4 default).getD i default))))), (22, .c (.d (.list 1 p0.length (fun i => (fun xs => [encL 3 encValue xs]) (p0.getD i default))))), (23, .c (.d (.int .i64 (p0.length : Int)))), (24, .c (.d (.int .i64 ((i4 : Nat) : Int))))], [(1004, .vec 3 a5.length (fun i => encValue (a5.getD i default)))]⟩) (c := ((0 : Int) ≤ ((i4 : Nat) : Int) ∧ ((i4 : Nat) : Int) < (p0.length : Int)) ∧ True ∧ True ∧ True) (by kernel_rfl) ⟨⟨by omega, by omega⟩, trivial, trivial, trivial⟩ ?_
      refine At.done rfl ?_
      show Tri _ _ _ _
      refine Tri.seqS ?_
      refine Tri.reg ?_
      refine At.seg 2 [22, 23, 24, 28, 29] [1004] (s' := ⟨[(22, .c (.d (.list 1 p0.length (fun i => (fun xs => [encL 3 encValue xs]) (p0.getD i default))))), (23, .c (.d (.int .i64 (p0.length : Int)))), (24, .c (.d (.int .i64 ((i4 : Nat) : Int)))), (28, .c (.own 1004 3 0 a5.length)), (29, .c (.d (.list 3 (p0.getD i4 default).length (fun i => encValue ((p0.getD i4 default).getD i default)))))], [(1004, .vec 3 a5.length (fun i => encValue (a5.getD i default)))]⟩) (c := True ∧ True ∧ True) (by kernel_rfl) ⟨trivial, trivial, trivial⟩ ?_
      obtain ⟨hc7, h⟩ := need_elim h
      refine At.one rfl (One.appendT (e := 27) (es := 3) (encValue) a5 (p0.getD i4 default) rfl rfl rfl rfl rfl (.of 27 32 [.d (.bool false), .d (.int .i64 0), .d (.str (bs []))] (by kernel_rfl) (by kernel_rfl) (by kernel_rfl) (by kernel_rfl) rfl (by kernel_rfl) rfl) rfl rfl rfl (.list rfl (fun _ _ => rfl)) hc7) ?_
      refine At.seg 1 [4, 22, 23, 24] [1004] (s' := ⟨[(4, .c (.own 1004 3 0 ((a5 ++ (p0.getD i4 default)).length))), (22, .c (.d (.list 1 p0.length (fun i => (fun xs => [encL 3 encValue xs]) (p0.getD i default))))), (23, .c (.d (.int .i64 (p0.length : Int)))), (24, .c (.d (.int .i64 ((i4 : Nat) : Int))))], [(1004, .vec 3 (a5 ++ (p0.getD i4 default)).length (fun i => encValue ((a5 ++ (p0.getD i4 default)).getD i default)))]⟩) (c := True ∧ True) (by kernel_rfl) ⟨trivial, trivial⟩ ?_
      refine At.done rfl ?_
      show Tri _ _ _ _
      refine Tri.seqS ?_
      refine Tri.reg ?_
      refine At.seg 3 [4, 22, 23, 24, 33] [1004] (s' := ⟨[(4, .c (.own 1004 3 0 ((a5 ++ (p0.getD i4 default)).length))), (22, .c (.d (.list 1 p0.length (fun i => (fun xs => [encL 3 encValue xs]) (p0.getD i default))))), (23, .c (.d (.int .i64 (p0.length : Int)))), (24, .c (.d (.int .i64 ((i4 : Nat) : Int)))), (33, .c (.d (.bool (decide (8 < ((a5 ++ (p0.getD i4 default)).length : Int))))))], [(1004, .vec 3 (a5 ++ (p0.getD i4 default)).length (fun i => encValue ((a5 ++ (p0.getD i4 default)).getD i default)))]⟩) (c := True ∧ True ∧ True ∧ True) (by kernel_rfl) ⟨trivial, trivial, trivial, trivial⟩ ?_
      refine At.done rfl ?_
      show Tri _ _ _ _
      refine Tri.condP (b := (decide (8 < ((a5 ++ (p0.getD i4 default)).length : Int)))) rfl h (fun h => ?_) (fun h => ?_)
      · refine Tri.seqS ?_
        refine Tri.reg ?_
        refine At.seg 2 [2, 3] [] (s' := ⟨[(2, .c (.zero)), (3, .c (.d (.int .i64 2)))], []⟩) (c := True ∧ True ∧ True) (by kernel_rfl) ⟨trivial, trivial, trivial⟩ ?_
        refine At.done rfl ?_
        show Tri _ _ _ _
        refine Tri.keep [2, 3] [] (s' := ⟨[(2, .c (.zero)), (3, .c (.d (.int .i64 2)))], []⟩) (by kernel_rfl) ?_
        refine Tri.le [] (fun k hk => by cases hk) ⟨[(2, .c (.d (.list 3 ([] : List Value).length (fun i => encValue (([] : List Value).getD i default))))), (3, .c (.d (.int .i64 2)))], []⟩ ⟨⟨_, rfl, .c (.zero _ _)⟩, ⟨_, rfl, .refl _⟩, trivial⟩ trivial ?_
        refine Tri.ret ?_
        cases h
        refine ⟨_, _, rfl, ⟨trivial, ⟨trivial, trivial⟩⟩, rfl, rfl, ?_⟩
        intro k c h
        cases h
      · refine Tri.keep [24, 4, 22, 23] [1004] (s' := ⟨[(24, .c (.d (.int .i64 ((i4 : Nat) : Int)))), (4, .c (.own 1004 3 0 ((a5 ++ (p0.getD i4 default)).length))), (22, .c (.d (.list 1 p0.length (fun i => (fun xs => [encL 3 encValue xs]) (p0.getD i default))))), (23, .c (.d (.int .i64 (p0.length : Int))))], [(1004, .vec 3 (a5 ++ (p0.getD i4 default)).length (fun i => encValue ((a5 ++ (p0.getD i4 default)).getD i default)))]⟩) (by kernel_rfl) ?_
        refine Tri.skip ?_
        cases h
        exact rfl
    · intro a6 h
      show Tri _ _ _ _
      refine Tri.seqS ?_
      refine Tri.reg ?_
      refine At.seg 3 [2, 3] [1004] (s' := ⟨[(2, .c (.own 1004 3 0 a6.length)), (3, .c (.d (.int .i64 0)))], [(1004, .vec 3 a6.length (fun i => encValue (a6.getD i default)))]⟩) (c := True ∧ True ∧ True ∧ True) (by kernel_rfl) ⟨trivial, trivial, trivial, trivial⟩ ?_
      refine At.done rfl ?_
      show Tri _ _ _ _
      refine Tri.keep [2, 3] [1004] (s' := ⟨[(2, .c (.own 1004 3 0 a6.length)), (3, .c (.d (.int .i64 0)))], [(1004, .vec 3 a6.length (fun i => encValue (a6.getD i default)))]⟩) (by kernel_rfl) ?_
      refine Tri.le [1004] (fun k _ h => by cases h) ⟨[(2, .c (.d (.list 3 a6.length (fun i => encValue (a6.getD i default))))), (3, .c (.d (.int .i64 0)))], []⟩ ⟨⟨_, rfl, .c (CLe.frozen (encValue) a6 rfl (by simp))⟩, ⟨_, rfl, .refl _⟩, trivial⟩ trivial ?_
      refine Tri.ret ?_
      cases h
      refine ⟨_, _, rfl, ⟨trivial, ⟨trivial, trivial⟩⟩, rfl, rfl, ?_⟩
      intro k c h
      cases h
    · exact fun x s hx hr => by cases hx; exact hr
  · exact fun x s hx hr => by cases hx; exact hr

set_option maxRecDepth 100000 in
theorem freshetlaw03_makes_ok  {q : Bool} (h : freshetlaw03_makes = some q) :
    Summ Try.prog 23 [] [] (.c (.d (.bool q))) [] := by
  refine Summ.intro Try.func23 rfl (by kernel_rfl) (by kernel_rfl) [] rfl ?_
  rintro ⟨P, w0, G0, V, LL, lk, N, φ0, fx⟩ rfl rfl rfl rfl
  unfold freshetlaw03_makes at h
  refine Tri.seqS ?_
  refine Tri.reg ?_
  refine At.seg 1 [] [] (s' := ⟨[], []⟩) (c := True ∧ True) (by kernel_rfl) ⟨trivial, trivial⟩ ?_
  refine At.done rfl ?_
  show Tri _ _ _ _
  refine Tri.seqS ?_
  refine Tri.reg ?_
  obtain ⟨r1, hr1, h⟩ := bind_elim h
  refine At.callA (caps := []) (xs := [.c (.d (.int .i64 1))]) (freshetlaw03_num_ok hr1) rfl rfl rfl rfl rfl rfl (.cons (.refl _) .nil) rfl rfl ?_
  obtain ⟨r2, hr2, h⟩ := bind_elim h
  refine At.callA (caps := []) (xs := [.c (.d (.int .i64 2))]) (freshetlaw03_num_ok hr2) rfl rfl rfl rfl rfl rfl (.cons (.refl _) .nil) rfl rfl ?_
  refine At.one rfl (One.buildSlice (z := [.d (.bool false), .d (.int .i64 0), .d (.str (bs []))]) (cells := [.d (.bool r1.isText), .d (.int .i64 r1.n), .d (.str r1.s), .d (.bool r2.isText), .d (.int .i64 r2.n), .d (.str r2.s)]) (xs := List.map (encValue) ([r1, r2] : List Value)) rfl rfl rfl rfl (by kernel_rfl) rfl rfl (by kernel_rfl) rfl rfl rfl (by kernel_rfl) rfl ⟨⟨rfl, .refl _⟩, ⟨rfl, .refl _⟩, trivial⟩) ?_
  refine At.le [8] (fun k _ h => by cases h) ⟨[(8, .c (.d (.list 3 ([r1, r2] : List Value).length (fun i => encValue (([r1, r2] : List Value).getD i default))))), (6, .agg [.d (.bool r1.isText), .d (.int .i64 r1.n), .d (.str r1.s)]), (7, .agg [.d (.bool r2.isText), .d (.int .i64 r2.n), .d (.str r2.s)])], []⟩ ⟨⟨_, rfl, .c (.own rfl (List.mem_singleton.2 rfl) (Nat.le_of_ble_eq_true rfl) rfl (encs_getD (encValue) ([r1, r2] : List Value)))⟩, ⟨_, rfl, .refl _⟩, ⟨_, rfl, .refl _⟩, trivial⟩ trivial ?_
  refine At.one rfl (One.buildSlice (z := [.d (.int .i64 0)]) (cells := [.d (.int .i64 1), .d (.int .i64 1), .d (.int .i64 0)]) (xs := List.map (encInt .i64) ([1, 1, 0] : List Int)) rfl rfl rfl rfl (by kernel_rfl) rfl rfl (by kernel_rfl) rfl rfl rfl (by kernel_rfl) rfl ⟨⟨rfl, .refl _⟩, ⟨rfl, .refl _⟩, ⟨rfl, .refl _⟩, trivial⟩) ?_
  refine At.le [9] (fun k _ h => by cases h) ⟨[(9, .c (.d (.list 1 ([1, 1, 0] : List Int).length (fun i => encInt .i64 (([1, 1, 0] : List Int).getD i default))))), (8, .c (.d (.list 3 ([r1, r2] : List Value).length (fun i => encValue (([r1, r2] : List Value).getD i default)))))], []⟩ ⟨⟨_, rfl, .c (.own rfl (List.mem_singleton.2 rfl) (Nat.le_of_ble_eq_true rfl) rfl (encs_getD (encInt .i64) ([1, 1, 0] : List Int)))⟩, ⟨_, rfl, .refl _⟩, trivial⟩ trivial ?_
  obtain ⟨r3, hr3, h⟩ := bind_elim h
  refine At.callA (caps := []) (xs := [.c (.d (.list 3 ([r1, r2] : List Value).length (fun i => encValue (([r1, r2] : List Value).getD i default)))), .c (.d (.list 1 ([1, 1, 0] : List Int).length (fun i => encInt .i64 (([1, 1, 0] : List Int).getD i default))))]) (value_Cols_ok hr3) rfl rfl rfl rfl rfl rfl (.cons (.refl _) (.cons (.refl _) .nil)) rfl rfl ?_
  refine At.seg 5 [1, 2] [] (s' := ⟨[(1, .c (.d (.list 3 r3.1.length (fun i => encValue (r3.1.getD i default))))), (2, .c (.d (.int .i64 r3.2)))], []⟩) (c := True ∧ True ∧ True ∧ True ∧ True ∧ True) (by kernel_rfl) ⟨trivial, trivial, trivial, trivial, trivial, trivial⟩ ?_
  refine At.done rfl ?_
  show Tri _ _ _ _
  refine Tri.seqS ?_
  refine Tri.reg ?_
  obtain ⟨r4, hr4, h⟩ := bind_elim h
  refine At.callA (caps := []) (xs := [.c (.d (.int .i64 1))]) (freshetlaw03_num_ok hr4) rfl rfl rfl rfl rfl rfl (.cons (.refl _) .nil) rfl rfl ?_
  refine At.one rfl (One.buildSlice (z := [.d (.bool false), .d (.int .i64 0), .d (.str (bs []))]) (cells := [.d (.bool r4.isText), .d (.int .i64 r4.n), .d (.str r4.s)]) (xs := List.map (encValue) ([r4] : List Value)) rfl rfl rfl rfl (by kernel_rfl) rfl rfl (by kernel_rfl) rfl rfl rfl (by kernel_rfl) rfl ⟨⟨rfl, .refl _⟩, trivial⟩) ?_
  refine At.le [15] (fun k _ h => by cases h) ⟨[(15, .c (.d (.list 3 ([r4] : List Value).length (fun i => encValue (([r4] : List Value).getD i default))))), (1, .c (.d (.list 3 r3.1.length (fun i => encValue (r3.1.getD i default))))), (2, .c (.d (.int .i64 r3.2))), (14, .agg [.d (.bool r4.isText), .d (.int .i64 r4.n), .d (.str r4.s)])], []⟩ ⟨⟨_, rfl, .c (.own rfl (List.mem_singleton.2 rfl) (Nat.le_of_ble_eq_true rfl) rfl (encs_getD (encValue) ([r4] : List Value)))⟩, ⟨_, rfl, .refl _⟩, ⟨_, rfl, .refl _⟩, ⟨_, rfl, .refl _⟩, trivial⟩ trivial ?_
  obtain ⟨r5, hr5, h⟩ := bind_elim h
  refine At.callA (caps := []) (xs := [.c (.d (.int .i64 3))]) (freshetlaw03_num_ok hr5) rfl rfl rfl rfl rfl rfl (.cons (.refl _) .nil) rfl rfl ?_
  refine At.one rfl (One.buildSlice (z := [.d (.bool false), .d (.int .i64 0), .d (.str (bs []))]) (cells := [.d (.bool r5.isText), .d (.int .i64 r5.n), .d (.str r5.s)]) (xs := List.map (encValue) ([r5] : List Value)) rfl rfl rfl rfl (by kernel_rfl) rfl rfl (by kernel_rfl) rfl rfl rfl (by kernel_rfl) rfl ⟨⟨rfl, .refl _⟩, trivial⟩) ?_
  refine At.le [17] (fun k _ h => by cases h) ⟨[(17, .c (.d (.list 3 ([r5] : List Value).length (fun i => encValue (([r5] : List Value).getD i default))))), (1, .c (.d (.list 3 r3.1.length (fun i => encValue (r3.1.getD i default))))), (2, .c (.d (.int .i64 r3.2))), (15, .c (.d (.list 3 ([r4] : List Value).length (fun i => encValue (([r4] : List Value).getD i default))))), (16, .agg [.d (.bool r5.isText), .d (.int .i64 r5.n), .d (.str r5.s)])], []⟩ ⟨⟨_, rfl, .c (.own rfl (List.mem_singleton.2 rfl) (Nat.le_of_ble_eq_true rfl) rfl (encs_getD (encValue) ([r5] : List Value)))⟩, ⟨_, rfl, .refl _⟩, ⟨_, rfl, .refl _⟩, ⟨_, rfl, .refl _⟩, ⟨_, rfl, .refl _⟩, trivial⟩ trivial ?_
  refine At.one rfl (One.buildSlice (z := [.zero]) (cells := [.d (.list 3 ([r4] : List Value).length (fun i => encValue (([r4] : List Value).getD i default))), .zero, .d (.list 3 ([r5] : List Value).length (fun i => encValue (([r5] : List Value).getD i default)))]) (xs := List.map ((fun xs => [encL 3 encValue xs])) ([([r4] : List Value), ([] : List Value), ([r5] : List Value)] : List (List Value))) rfl rfl rfl rfl (by kernel_rfl) rfl rfl (by kernel_rfl) rfl rfl rfl (by kernel_rfl) rfl ⟨⟨rfl, .refl _⟩, ⟨rfl, (.cons (.zero _ _) .nil)⟩, ⟨rfl, .refl _⟩, trivial⟩) ?_
  refine At.le [18] (fun k _ h => by cases h) ⟨[(18, .c (.d (.list 1 ([([r4] : List Value), ([] : List Value), ([r5] : List Value)] : List (List Value)).length (fun i => (fun xs => [encL 3 encValue xs]) (([([r4] : List Value), ([] : List Value), ([r5] : List Value)] : List (List Value)).getD i default))))), (1, .c (.d (.list 3 r3.1.length (fun i => encValue (r3.1.getD i default))))), (2, .c (.d (.int .i64 r3.2))), (15, .c (.d (.list 3 ([r4] : List Value).length (fun i => encValue (([r4] : List Value).getD i default))))), (17, .c (.d (.list 3 ([r5] : List Value).length (fun i => encValue (([r5] : List Value).getD i default)))))], []⟩ ⟨⟨_, rfl, .c (.own rfl (List.mem_singleton.2 rfl) (Nat.le_of_ble_eq_true rfl) rfl (encs_getD ((fun xs => [encL 3 encValue xs])) ([([r4] : List Value), ([] : List Value), ([r5] : List Value)] : List (List Value))))⟩, ⟨_, rfl, .refl _⟩, ⟨_, rfl, .refl _⟩, ⟨_, rfl, .refl _⟩, ⟨_, rfl, .refl _⟩, trivial⟩ trivial ?_
  obtain ⟨r6, hr6, h⟩ := bind_elim h
  refine At.callA (caps := []) (xs := [.c (.d (.list 1 ([([r4] : List Value), ([] : List Value), ([r5] : List Value)] : List (List Value)).length (fun i => (fun xs => [encL 3 encValue xs]) (([([r4] : List Value), ([] : List Value), ([r5] : List Value)] : List (List Value)).getD i default))))]) (value_Join_ok hr6) rfl rfl rfl rfl rfl rfl (.cons (.refl _) .nil) rfl rfl ?_
  refine At.seg 5 [1, 2, 3, 4] [] (s' := ⟨[(1, .c (.d (.list 3 r3.1.length (fun i => encValue (r3.1.getD i default))))), (2, .c (.d (.int .i64 r3.2))), (3, .c (.d (.list 3 r6.1.length (fun i => encValue (r6.1.getD i default))))), (4, .c (.d (.int .i64 r6.2)))], []⟩) (c := True ∧ True ∧ True ∧ True ∧ True ∧ True) (by kernel_rfl) ⟨trivial, trivial, trivial, trivial, trivial, trivial⟩ ?_
  refine At.done rfl ?_
  show Tri _ _ _ _
  refine Tri.seqJ (fun (a7 : Bool) => ⟨[(0, .c (.d (.bool a7)))], []⟩) h (fun a7 h => ?_) (fun j8 h => ?_)
  · show Tri _ _ ⟨[(0, .c (.d (.bool a7)))], []⟩ _
    refine Tri.keep [0] [] (s' := ⟨[(0, .c (.d (.bool a7)))], []⟩) (by kernel_rfl) ?_
    refine Tri.ret ?_
    cases h
    refine ⟨_, _, rfl, ⟨trivial, trivial⟩, rfl, rfl, ?_⟩
    intro k c h
    cases h
  · refine Tri.reg ?_
    refine At.seg 4 [1, 2, 3, 4, 25] [] (s' := ⟨[(1, .c (.d (.list 3 r3.1.length (fun i => encValue (r3.1.getD i default))))), (2, .c (.d (.int .i64 r3.2))), (3, .c (.d (.list 3 r6.1.length (fun i => encValue (r6.1.getD i default))))), (4, .c (.d (.int .i64 r6.2))), (25, .c (.d (.bool (decide ((r3.1.length : Int) = 3)))))], []⟩) (c := True ∧ True ∧ True ∧ True ∧ True) (by kernel_rfl) ⟨trivial, trivial, trivial, trivial, trivial⟩ ?_
    refine At.case (fun b => ⟨[(1, .c (.d (.list 3 r3.1.length (fun i => encValue (r3.1.getD i default))))), (2, .c (.d (.int .i64 r3.2))), (3, .c (.d (.list 3 r6.1.length (fun i => encValue (r6.1.getD i default))))), (4, .c (.d (.int .i64 r6.2))), (25, .c (.d (.bool b)))], []⟩) (b := (decide ((r3.1.length : Int) = 3))) h (fun h => ?_) (fun h => ?_)
    · obtain ⟨hc9, h⟩ := need_elim h
      refine At.seg 7 [1, 2, 3, 4, 32] [] (s' := ⟨[(1, .c (.d (.list 3 r3.1.length (fun i => encValue (r3.1.getD i default))))), (2, .c (.d (.int .i64 r3.2))), (3, .c (.d (.list 3 r6.1.length (fun i => encValue (r6.1.getD i default))))), (4, .c (.d (.int .i64 r6.2))), (32, .c (.d (.bool (decide ((r3.1.getD 0 default).n = 2)))))], []⟩) (c := True ∧ ((0 : Int) ≤ 0 ∧ 0 < (r3.1.length : Int)) ∧ True ∧ True ∧ True ∧ True ∧ True ∧ True) (by kernel_rfl) ⟨trivial, hc9, trivial, trivial, trivial, trivial, trivial, trivial⟩ ?_
      refine At.case (fun b => ⟨[(1, .c (.d (.list 3 r3.1.length (fun i => encValue (r3.1.getD i default))))), (2, .c (.d (.int .i64 r3.2))), (3, .c (.d (.list 3 r6.1.length (fun i => encValue (r6.1.getD i default))))), (4, .c (.d (.int .i64 r6.2))), (32, .c (.d (.bool b)))], []⟩) (b := (decide ((r3.1.getD 0 default).n = 2))) h (fun h => ?_) (fun h => ?_)
      · obtain ⟨hc10, h⟩ := need_elim h
        refine At.seg 7 [2, 3, 4, 39] [] (s' := ⟨[(2, .c (.d (.int .i64 r3.2))), (3, .c (.d (.list 3 r6.1.length (fun i => encValue (r6.1.getD i default))))), (4, .c (.d (.int .i64 r6.2))), (39, .c (.d (.bool (decide ((r3.1.getD 2 default).n = 1)))))], []⟩) (c := True ∧ ((0 : Int) ≤ 2 ∧ 2 < (r3.1.length : Int)) ∧ True ∧ True ∧ True ∧ True ∧ True ∧ True) (by kernel_rfl) ⟨trivial, hc10, trivial, trivial, trivial, trivial, trivial, trivial⟩ ?_
        refine At.case (fun b => ⟨[(2, .c (.d (.int .i64 r3.2))), (3, .c (.d (.list 3 r6.1.length (fun i => encValue (r6.1.getD i default))))), (4, .c (.d (.int .i64 r6.2))), (39, .c (.d (.bool b)))], []⟩) (b := (decide ((r3.1.getD 2 default).n = 1))) h (fun h => ?_) (fun h => ?_)
        · refine At.seg 4 [3, 4, 43] [] (s' := ⟨[(3, .c (.d (.list 3 r6.1.length (fun i => encValue (r6.1.getD i default))))), (4, .c (.d (.int .i64 r6.2))), (43, .c (.d (.bool (decide (r3.2 = 0)))))], []⟩) (c := True ∧ True ∧ True ∧ True ∧ True) (by kernel_rfl) ⟨trivial, trivial, trivial, trivial, trivial⟩ ?_
          refine At.case (fun b => ⟨[(3, .c (.d (.list 3 r6.1.length (fun i => encValue (r6.1.getD i default))))), (4, .c (.d (.int .i64 r6.2))), (43, .c (.d (.bool b)))], []⟩) (b := (decide (r3.2 = 0))) h (fun h => ?_) (fun h => ?_)
          · refine At.seg 5 [3, 4, 48] [] (s' := ⟨[(3, .c (.d (.list 3 r6.1.length (fun i => encValue (r6.1.getD i default))))), (4, .c (.d (.int .i64 r6.2))), (48, .c (.d (.bool (decide ((r6.1.length : Int) = 2)))))], []⟩) (c := True ∧ True ∧ True ∧ True ∧ True ∧ True) (by kernel_rfl) ⟨trivial, trivial, trivial, trivial, trivial, trivial⟩ ?_
            refine At.case (fun b => ⟨[(3, .c (.d (.list 3 r6.1.length (fun i => encValue (r6.1.getD i default))))), (4, .c (.d (.int .i64 r6.2))), (48, .c (.d (.bool b)))], []⟩) (b := (decide ((r6.1.length : Int) = 2))) h (fun h => ?_) (fun h => ?_)
            · obtain ⟨hc11, h⟩ := need_elim h
              refine At.seg 7 [4, 55] [] (s' := ⟨[(4, .c (.d (.int .i64 r6.2))), (55, .c (.d (.bool (decide ((r6.1.getD 1 default).n = 3)))))], []⟩) (c := True ∧ ((0 : Int) ≤ 1 ∧ 1 < (r6.1.length : Int)) ∧ True ∧ True ∧ True ∧ True ∧ True ∧ True) (by kernel_rfl) ⟨trivial, hc11, trivial, trivial, trivial, trivial, trivial, trivial⟩ ?_
              refine At.case (fun b => ⟨[(4, .c (.d (.int .i64 r6.2))), (55, .c (.d (.bool b)))], []⟩) (b := (decide ((r6.1.getD 1 default).n = 3))) h (fun h => ?_) (fun h => ?_)
              · refine At.seg 4 [0] [] (s' := ⟨[(0, .c (.d (.bool (decide (r6.2 = 0)))))], []⟩) (c := True ∧ True ∧ True ∧ True ∧ True) (by kernel_rfl) ⟨trivial, trivial, trivial, trivial, trivial⟩ ?_
                refine At.done rfl ?_
                exact ⟨_, h, rfl⟩
              · refine At.seg 4 [0] [] (s' := ⟨[(0, .c (.d (.bool false)))], []⟩) (c := True ∧ True ∧ True) (by kernel_rfl) ⟨trivial, trivial, trivial⟩ ?_
                refine At.done rfl ?_
                exact ⟨_, h, rfl⟩
            · refine At.seg 11 [0] [] (s' := ⟨[(0, .c (.d (.bool false)))], []⟩) (c := True ∧ True ∧ True ∧ True ∧ True) (by kernel_rfl) ⟨trivial, trivial, trivial, trivial, trivial⟩ ?_
              refine At.done rfl ?_
              exact ⟨_, h, rfl⟩
          · refine At.seg 16 [0] [] (s' := ⟨[(0, .c (.d (.bool false)))], []⟩) (c := True ∧ True ∧ True ∧ True ∧ True ∧ True ∧ True) (by kernel_rfl) ⟨trivial, trivial, trivial, trivial, trivial, trivial, trivial⟩ ?_
            refine At.done rfl ?_
            exact ⟨_, h, rfl⟩
        · refine At.seg 20 [0] [] (s' := ⟨[(0, .c (.d (.bool false)))], []⟩) (c := True ∧ True ∧ True ∧ True ∧ True ∧ True ∧ True ∧ True ∧ True) (by kernel_rfl) ⟨trivial, trivial, trivial, trivial, trivial, trivial, trivial, trivial, trivial⟩ ?_
          refine At.done rfl ?_
          exact ⟨_, h, rfl⟩
      · refine At.seg 27 [0] [] (s' := ⟨[(0, .c (.d (.bool false)))], []⟩) (c := True ∧ True ∧ True ∧ True ∧ True ∧ True ∧ True ∧ True ∧ True ∧ True ∧ True) (by kernel_rfl) ⟨trivial, trivial, trivial, trivial, trivial, trivial, trivial, trivial, trivial, trivial, trivial⟩ ?_
        refine At.done rfl ?_
        exact ⟨_, h, rfl⟩
    · refine At.seg 34 [0] [] (s' := ⟨[(0, .c (.d (.bool false)))], []⟩) (c := True ∧ True ∧ True ∧ True ∧ True ∧ True ∧ True ∧ True ∧ True ∧ True ∧ True ∧ True ∧ True) (by kernel_rfl) ⟨trivial, trivial, trivial, trivial, trivial, trivial, trivial, trivial, trivial, trivial, trivial, trivial, trivial⟩ ?_
      refine At.done rfl ?_
      exact ⟨_, h, rfl⟩

set_option maxRecDepth 100000 in
theorem freshetlaw03_ValueMakes_ok {p0 : List Value} {p1 : List Int} {p2 : List (List Value)} {q : Bool} (h : freshetlaw03_ValueMakes p0 p1 p2 = some q) :
    Summ Try.prog 6 [.c (.d (.list 3 p0.length (fun i => encValue (p0.getD i default)))), .c (.d (.list 1 p1.length (fun i => encInt .i64 (p1.getD i default)))), .c (.d (.list 1 p2.length (fun i => (fun xs => [encL 3 encValue xs]) (p2.getD i default))))] [] (.c (.d (.bool q))) [] := by
  refine Summ.intro Try.func6 rfl (by kernel_rfl) (by kernel_rfl) [] rfl ?_
  rintro ⟨P, w0, G0, V, LL, lk, N, φ0, fx⟩ rfl rfl rfl rfl
  unfold freshetlaw03_ValueMakes at h
  refine Tri.seqS ?_
  refine Tri.reg ?_
  refine At.seg 1 [0, 1, 2] [] (s' := ⟨[(0, .c (.d (.list 3 p0.length (fun i => encValue (p0.getD i default))))), (1, .c (.d (.list 1 p1.length (fun i => encInt .i64 (p1.getD i default))))), (2, .c (.d (.list 1 p2.length (fun i => (fun xs => [encL 3 encValue xs]) (p2.getD i default)))))], []⟩) (c := True ∧ True) (by kernel_rfl) ⟨trivial, trivial⟩ ?_
  refine At.done rfl ?_
  show Tri _ _ _ _
  refine Tri.seqS ?_
  refine Tri.reg ?_
  refine At.seg 2 [0, 1, 2, 16, 17] [] (s' := ⟨[(0, .c (.d (.list 3 p0.length (fun i => encValue (p0.getD i default))))), (1, .c (.d (.list 1 p1.length (fun i => encInt .i64 (p1.getD i default))))), (2, .c (.d (.list 1 p2.length (fun i => (fun xs => [encL 3 encValue xs]) (p2.getD i default))))), (16, .c (.d (.list 3 p0.length (fun i => encValue (p0.getD i default))))), (17, .c (.d (.list 1 p1.length (fun i => encInt .i64 (p1.getD i default)))))], []⟩) (c := True ∧ True ∧ True) (by kernel_rfl) ⟨trivial, trivial, trivial⟩ ?_
  obtain ⟨r1, hr1, h⟩ := bind_elim h
  refine At.callA (caps := []) (xs := [.c (.d (.list 3 p0.length (fun i => encValue (p0.getD i default)))), .c (.d (.list 1 p1.length (fun i => encInt .i64 (p1.getD i default))))]) (value_Cols_ok hr1) rfl rfl rfl rfl rfl rfl (.cons (.refl _) (.cons (.refl _) .nil)) rfl rfl ?_
  refine At.seg 5 [0, 1, 2, 7, 8] [] (s' := ⟨[(0, .c (.d (.list 3 p0.length (fun i => encValue (p0.getD i default))))), (1, .c (.d (.list 1 p1.length (fun i => encInt .i64 (p1.getD i default))))), (2, .c (.d (.list 1 p2.length (fun i => (fun xs => [encL 3 encValue xs]) (p2.getD i default))))), (7, .c (.d (.list 3 r1.1.length (fun i => encValue (r1.1.getD i default))))), (8, .c (.d (.int .i64 r1.2)))], []⟩) (c := True ∧ True ∧ True ∧ True ∧ True ∧ True) (by kernel_rfl) ⟨trivial, trivial, trivial, trivial, trivial, trivial⟩ ?_
  refine At.done rfl ?_
  show Tri _ _ _ _
  refine Tri.seqS ?_
  refine Tri.reg ?_
  refine At.seg 2 [2, 7, 8, 22, 23] [] (s' := ⟨[(2, .c (.d (.list 1 p2.length (fun i => (fun xs => [encL 3 encValue xs]) (p2.getD i default))))), (7, .c (.d (.list 3 r1.1.length (fun i => encValue (r1.1.getD i default))))), (8, .c (.d (.int .i64 r1.2))), (22, .c (.d (.list 3 p0.length (fun i => encValue (p0.getD i default))))), (23, .c (.d (.list 1 p1.length (fun i => encInt .i64 (p1.getD i default)))))], []⟩) (c := True ∧ True ∧ True) (by kernel_rfl) ⟨trivial, trivial, trivial⟩ ?_
  obtain ⟨r2, hr2, h⟩ := bind_elim h
  refine At.callA (caps := []) (xs := [.c (.d (.list 3 p0.length (fun i => encValue (p0.getD i default)))), .c (.d (.list 1 p1.length (fun i => encInt .i64 (p1.getD i default))))]) (freshetref03_Cols_ok hr2) rfl rfl rfl rfl rfl rfl (.cons (.refl _) (.cons (.refl _) .nil)) rfl rfl ?_
  refine At.seg 5 [2, 7, 8, 9, 10] [] (s' := ⟨[(2, .c (.d (.list 1 p2.length (fun i => (fun xs => [encL 3 encValue xs]) (p2.getD i default))))), (7, .c (.d (.list 3 r1.1.length (fun i => encValue (r1.1.getD i default))))), (8, .c (.d (.int .i64 r1.2))), (9, .c (.d (.list 3 r2.1.length (fun i => encValue (r2.1.getD i default))))), (10, .c (.d (.int .i64 r2.2)))], []⟩) (c := True ∧ True ∧ True ∧ True ∧ True ∧ True) (by kernel_rfl) ⟨trivial, trivial, trivial, trivial, trivial, trivial⟩ ?_
  refine At.done rfl ?_
  show Tri _ _ _ _
  refine Tri.seqS ?_
  refine Tri.reg ?_
  refine At.seg 1 [2, 7, 8, 9, 10, 28] [] (s' := ⟨[(2, .c (.d (.list 1 p2.length (fun i => (fun xs => [encL 3 encValue xs]) (p2.getD i default))))), (7, .c (.d (.list 3 r1.1.length (fun i => encValue (r1.1.getD i default))))), (8, .c (.d (.int .i64 r1.2))), (9, .c (.d (.list 3 r2.1.length (fun i => encValue (r2.1.getD i default))))), (10, .c (.d (.int .i64 r2.2))), (28, .c (.d (.list 1 p2.length (fun i => (fun xs => [encL 3 encValue xs]) (p2.getD i default)))))], []⟩) (c := True ∧ True) (by kernel_rfl) ⟨trivial, trivial⟩ ?_
  obtain ⟨r3, hr3, h⟩ := bind_elim h
  refine At.callA (caps := []) (xs := [.c (.d (.list 1 p2.length (fun i => (fun xs => [encL 3 encValue xs]) (p2.getD i default))))]) (value_Join_ok hr3) rfl rfl rfl rfl rfl rfl (.cons (.refl _) .nil) rfl rfl ?_
  refine At.seg 5 [2, 7, 8, 9, 10, 11, 12] [] (s' := ⟨[(2, .c (.d (.list 1 p2.length (fun i => (fun xs => [encL 3 encValue xs]) (p2.getD i default))))), (7, .c (.d (.list 3 r1.1.length (fun i => encValue (r1.1.getD i default))))), (8, .c (.d (.int .i64 r1.2))), (9, .c (.d (.list 3 r2.1.length (fun i => encValue (r2.1.getD i default))))), (10, .c (.d (.int .i64 r2.2))), (11, .c (.d (.list 3 r3.1.length (fun i => encValue (r3.1.getD i default))))), (12, .c (.d (.int .i64 r3.2)))], []⟩) (c := True ∧ True ∧ True ∧ True ∧ True ∧ True) (by kernel_rfl) ⟨trivial, trivial, trivial, trivial, trivial, trivial⟩ ?_
  refine At.done rfl ?_
  show Tri _ _ _ _
  refine Tri.seqS ?_
  refine Tri.reg ?_
  refine At.seg 1 [7, 8, 9, 10, 11, 12, 33] [] (s' := ⟨[(7, .c (.d (.list 3 r1.1.length (fun i => encValue (r1.1.getD i default))))), (8, .c (.d (.int .i64 r1.2))), (9, .c (.d (.list 3 r2.1.length (fun i => encValue (r2.1.getD i default))))), (10, .c (.d (.int .i64 r2.2))), (11, .c (.d (.list 3 r3.1.length (fun i => encValue (r3.1.getD i default))))), (12, .c (.d (.int .i64 r3.2))), (33, .c (.d (.list 1 p2.length (fun i => (fun xs => [encL 3 encValue xs]) (p2.getD i default)))))], []⟩) (c := True ∧ True) (by kernel_rfl) ⟨trivial, trivial⟩ ?_
  obtain ⟨r4, hr4, h⟩ := bind_elim h
  refine At.callA (caps := []) (xs := [.c (.d (.list 1 p2.length (fun i => (fun xs => [encL 3 encValue xs]) (p2.getD i default))))]) (freshetref03_Join_ok hr4) rfl rfl rfl rfl rfl rfl (.cons (.refl _) .nil) rfl rfl ?_
  refine At.seg 5 [7, 8, 9, 10, 11, 12, 13, 14] [] (s' := ⟨[(7, .c (.d (.list 3 r1.1.length (fun i => encValue (r1.1.getD i default))))), (8, .c (.d (.int .i64 r1.2))), (9, .c (.d (.list 3 r2.1.length (fun i => encValue (r2.1.getD i default))))), (10, .c (.d (.int .i64 r2.2))), (11, .c (.d (.list 3 r3.1.length (fun i => encValue (r3.1.getD i default))))), (12, .c (.d (.int .i64 r3.2))), (13, .c (.d (.list 3 r4.1.length (fun i => encValue (r4.1.getD i default))))), (14, .c (.d (.int .i64 r4.2)))], []⟩) (c := True ∧ True ∧ True ∧ True ∧ True ∧ True) (by kernel_rfl) ⟨trivial, trivial, trivial, trivial, trivial, trivial⟩ ?_
  refine At.done rfl ?_
  show Tri _ _ _ _
  refine Tri.seqJ (fun (a5 : Bool) => ⟨[(6, .c (.d (.bool a5)))], []⟩) h (fun a5 h => ?_) (fun j6 h => ?_)
  · show Tri _ _ ⟨[(6, .c (.d (.bool a5)))], []⟩ _
    refine Tri.keep [6] [] (s' := ⟨[(6, .c (.d (.bool a5)))], []⟩) (by kernel_rfl) ?_
    refine Tri.ret ?_
    cases h
    refine ⟨_, _, rfl, ⟨trivial, trivial⟩, rfl, rfl, ?_⟩
    intro k c h
    cases h
  · refine Tri.reg ?_
    obtain ⟨r7, hr7, h⟩ := bind_elim h
    refine At.callA (caps := []) (xs := []) (freshetlaw03_makes_ok hr7) rfl rfl rfl rfl rfl rfl .nil rfl rfl ?_
    refine At.seg 1 [7, 8, 9, 10, 11, 12, 13, 14, 38] [] (s' := ⟨[(7, .c (.d (.list 3 r1.1.length (fun i => encValue (r1.1.getD i default))))), (8, .c (.d (.int .i64 r1.2))), (9, .c (.d (.list 3 r2.1.length (fun i => encValue (r2.1.getD i default))))), (10, .c (.d (.int .i64 r2.2))), (11, .c (.d (.list 3 r3.1.length (fun i => encValue (r3.1.getD i default))))), (12, .c (.d (.int .i64 r3.2))), (13, .c (.d (.list 3 r4.1.length (fun i => encValue (r4.1.getD i default))))), (14, .c (.d (.int .i64 r4.2))), (38, .c (.d (.bool r7)))], []⟩) (c := True ∧ True) (by kernel_rfl) ⟨trivial, trivial⟩ ?_
    refine At.case (fun b => ⟨[(7, .c (.d (.list 3 r1.1.length (fun i => encValue (r1.1.getD i default))))), (8, .c (.d (.int .i64 r1.2))), (9, .c (.d (.list 3 r2.1.length (fun i => encValue (r2.1.getD i default))))), (10, .c (.d (.int .i64 r2.2))), (11, .c (.d (.list 3 r3.1.length (fun i => encValue (r3.1.getD i default))))), (12, .c (.d (.int .i64 r3.2))), (13, .c (.d (.list 3 r4.1.length (fun i => encValue (r4.1.getD i default))))), (14, .c (.d (.int .i64 r4.2))), (38, .c (.d (.bool b)))], []⟩) (b := r7) h (fun h => ?_) (fun h => ?_)
    · refine At.seg 2 [8, 10, 11, 12, 13, 14, 38, 39, 40] [] (s' := ⟨[(8, .c (.d (.int .i64 r1.2))), (10, .c (.d (.int .i64 r2.2))), (11, .c (.d (.list 3 r3.1.length (fun i => encValue (r3.1.getD i default))))), (12, .c (.d (.int .i64 r3.2))), (13, .c (.d (.list 3 r4.1.length (fun i => encValue (r4.1.getD i default))))), (14, .c (.d (.int .i64 r4.2))), (38, .c (.d (.bool true))), (39, .c (.d (.list 3 r1.1.length (fun i => encValue (r1.1.getD i default))))), (40, .c (.d (.list 3 r2.1.length (fun i => encValue (r2.1.getD i default)))))], []⟩) (c := True ∧ True ∧ True) (by kernel_rfl) ⟨trivial, trivial, trivial⟩ ?_
      obtain ⟨r8, hr8, h⟩ := bind_elim h
      refine At.callA (caps := []) (xs := [.c (.d (.list 3 r1.1.length (fun i => encValue (r1.1.getD i default)))), .c (.d (.list 3 r2.1.length (fun i => encValue (r2.1.getD i default))))]) (freshetref03_Same_ok hr8) rfl rfl rfl rfl rfl rfl (.cons (.refl _) (.cons (.refl _) .nil)) rfl rfl ?_
      refine At.seg 2 [8, 10, 11, 12, 13, 14, 43] [] (s' := ⟨[(8, .c (.d (.int .i64 r1.2))), (10, .c (.d (.int .i64 r2.2))), (11, .c (.d (.list 3 r3.1.length (fun i => encValue (r3.1.getD i default))))), (12, .c (.d (.int .i64 r3.2))), (13, .c (.d (.list 3 r4.1.length (fun i => encValue (r4.1.getD i default))))), (14, .c (.d (.int .i64 r4.2))), (43, .c (.d (.bool r8)))], []⟩) (c := True ∧ True ∧ True) (by kernel_rfl) ⟨trivial, trivial, trivial⟩ ?_
      refine At.case (fun b => ⟨[(8, .c (.d (.int .i64 r1.2))), (10, .c (.d (.int .i64 r2.2))), (11, .c (.d (.list 3 r3.1.length (fun i => encValue (r3.1.getD i default))))), (12, .c (.d (.int .i64 r3.2))), (13, .c (.d (.list 3 r4.1.length (fun i => encValue (r4.1.getD i default))))), (14, .c (.d (.int .i64 r4.2))), (43, .c (.d (.bool b)))], []⟩) (b := r8) h (fun h => ?_) (fun h => ?_)
      · refine At.seg 5 [11, 12, 13, 14, 48] [] (s' := ⟨[(11, .c (.d (.list 3 r3.1.length (fun i => encValue (r3.1.getD i default))))), (12, .c (.d (.int .i64 r3.2))), (13, .c (.d (.list 3 r4.1.length (fun i => encValue (r4.1.getD i default))))), (14, .c (.d (.int .i64 r4.2))), (48, .c (.d (.bool (decide (r1.2 = r2.2)))))], []⟩) (c := True ∧ True ∧ True ∧ True ∧ True ∧ True) (by kernel_rfl) ⟨trivial, trivial, trivial, trivial, trivial, trivial⟩ ?_
        refine At.case (fun b => ⟨[(11, .c (.d (.list 3 r3.1.length (fun i => encValue (r3.1.getD i default))))), (12, .c (.d (.int .i64 r3.2))), (13, .c (.d (.list 3 r4.1.length (fun i => encValue (r4.1.getD i default))))), (14, .c (.d (.int .i64 r4.2))), (48, .c (.d (.bool b)))], []⟩) (b := (decide (r1.2 = r2.2))) h (fun h => ?_) (fun h => ?_)
        · refine At.seg 2 [12, 14, 48, 49, 50] [] (s' := ⟨[(12, .c (.d (.int .i64 r3.2))), (14, .c (.d (.int .i64 r4.2))), (48, .c (.d (.bool true))), (49, .c (.d (.list 3 r3.1.length (fun i => encValue (r3.1.getD i default))))), (50, .c (.d (.list 3 r4.1.length (fun i => encValue (r4.1.getD i default)))))], []⟩) (c := True ∧ True ∧ True) (by kernel_rfl) ⟨trivial, trivial, trivial⟩ ?_
          obtain ⟨r9, hr9, h⟩ := bind_elim h
          refine At.callA (caps := []) (xs := [.c (.d (.list 3 r3.1.length (fun i => encValue (r3.1.getD i default)))), .c (.d (.list 3 r4.1.length (fun i => encValue (r4.1.getD i default))))]) (freshetref03_Same_ok hr9) rfl rfl rfl rfl rfl rfl (.cons (.refl _) (.cons (.refl _) .nil)) rfl rfl ?_
          refine At.seg 2 [12, 14, 53] [] (s' := ⟨[(12, .c (.d (.int .i64 r3.2))), (14, .c (.d (.int .i64 r4.2))), (53, .c (.d (.bool r9)))], []⟩) (c := True ∧ True ∧ True) (by kernel_rfl) ⟨trivial, trivial, trivial⟩ ?_
          refine At.case (fun b => ⟨[(12, .c (.d (.int .i64 r3.2))), (14, .c (.d (.int .i64 r4.2))), (53, .c (.d (.bool b)))], []⟩) (b := r9) h (fun h => ?_) (fun h => ?_)
          · refine At.seg 5 [6] [] (s' := ⟨[(6, .c (.d (.bool (decide (r3.2 = r4.2)))))], []⟩) (c := True ∧ True ∧ True ∧ True ∧ True ∧ True) (by kernel_rfl) ⟨trivial, trivial, trivial, trivial, trivial, trivial⟩ ?_
            refine At.done rfl ?_
            exact ⟨_, h, rfl⟩
          · refine At.seg 5 [6] [] (s' := ⟨[(6, .c (.d (.bool false)))], []⟩) (c := True ∧ True ∧ True) (by kernel_rfl) ⟨trivial, trivial, trivial⟩ ?_
            refine At.done rfl ?_
            exact ⟨_, h, rfl⟩
        · refine At.seg 10 [6] [] (s' := ⟨[(6, .c (.d (.bool false)))], []⟩) (c := True ∧ True ∧ True ∧ True ∧ True) (by kernel_rfl) ⟨trivial, trivial, trivial, trivial, trivial⟩ ?_
          refine At.done rfl ?_
          exact ⟨_, h, rfl⟩
      · refine At.seg 15 [6] [] (s' := ⟨[(6, .c (.d (.bool false)))], []⟩) (c := True ∧ True ∧ True ∧ True ∧ True ∧ True ∧ True) (by kernel_rfl) ⟨trivial, trivial, trivial, trivial, trivial, trivial, trivial⟩ ?_
        refine At.done rfl ?_
        exact ⟨_, h, rfl⟩
    · refine At.seg 20 [6] [] (s' := ⟨[(6, .c (.d (.bool false)))], []⟩) (c := True ∧ True ∧ True ∧ True ∧ True ∧ True ∧ True ∧ True ∧ True) (by kernel_rfl) ⟨trivial, trivial, trivial, trivial, trivial, trivial, trivial, trivial, trivial⟩ ?_
      refine At.done rfl ?_
      exact ⟨_, h, rfl⟩

set_option maxRecDepth 100000 in
theorem value_Cols_ok_v1 {p0 : List Value} {p1 : List Int} {q : (List Value) × Int} (h : value_Cols p0 p1 = some q) :
    Summ Try.prog 19 [.c (.d (.list 3 p0.length (fun i => encValue (p0.getD i default)))), .c (.view 1 p1.length (fun i => encInt .i64 (p1.getD i default)))] [] (.tup [(false, [.d (.list 3 q.1.length (fun i => encValue (q.1.getD i default)))]), (false, [.d (.int .i64 q.2)])]) [] := by
  refine Summ.intro Try.func19 rfl (by kernel_rfl) (by kernel_rfl) [] rfl ?_
  rintro ⟨P, w0, G0, V, LL, lk, N, φ0, fx⟩ rfl rfl rfl rfl
  unfold value_Cols at h
  refine Tri.seqS ?_
  refine Tri.reg ?_
  refine At.seg 2 [0, 1] [] (s' := ⟨[(0, .c (.d (.list 3 p0.length (fun i => encValue (p0.getD i default))))), (1, .c (.view 1 p1.length (fun i => encInt .i64 (p1.getD i default))))], []⟩) (c := True ∧ True ∧ True) (by kernel_rfl) ⟨trivial, trivial, trivial⟩ ?_
  refine At.done rfl ?_
  show Tri _ _ _ _
  refine Tri.seqS ?_
  refine Tri.seqS ?_
  refine Tri.reg ?_
  refine At.seg 1 [0, 1, 10] [] (s' := ⟨[(0, .c (.d (.list 3 p0.length (fun i => encValue (p0.getD i default))))), (1, .c (.view 1 p1.length (fun i => encInt .i64 (p1.getD i default)))), (10, .c (.d (.list 3 p0.length (fun i => encValue (p0.getD i default)))))], []⟩) (c := True ∧ True) (by kernel_rfl) ⟨trivial, trivial⟩ ?_
  obtain ⟨r1, hr1, h⟩ := bind_elim h
  refine At.callA (caps := []) (xs := [.c (.d (.list 3 p0.length (fun i => encValue (p0.getD i default))))]) (value_Check_ok hr1) rfl rfl rfl rfl rfl rfl (.cons (.refl _) .nil) rfl rfl ?_
  refine At.seg 1 [0, 1, 6] [] (s' := ⟨[(0, .c (.d (.list 3 p0.length (fun i => encValue (p0.getD i default))))), (1, .c (.view 1 p1.length (fun i => encInt .i64 (p1.getD i default)))), (6, .c (.d (.int .i64 r1)))], []⟩) (c := True ∧ True) (by kernel_rfl) ⟨trivial, trivial⟩ ?_
  refine At.done rfl ?_
  show Tri _ _ _ _
  refine Tri.seqS ?_
  refine Tri.reg ?_
  refine At.seg 2 [0, 1, 6, 13] [] (s' := ⟨[(0, .c (.d (.list 3 p0.length (fun i => encValue (p0.getD i default))))), (1, .c (.view 1 p1.length (fun i => encInt .i64 (p1.getD i default)))), (6, .c (.d (.int .i64 r1))), (13, .c (.d (.bool (!decide (r1 = 0)))))], []⟩) (c := True ∧ True ∧ True) (by kernel_rfl) ⟨trivial, trivial, trivial⟩ ?_
  refine At.done rfl ?_
  show Tri _ _ _ _
  refine Tri.condP (b := (!decide (r1 = 0))) rfl h (fun h => ?_) (fun h => ?_)
  · refine Tri.seqS ?_
    refine Tri.reg ?_
    refine At.seg 3 [4, 5] [] (s' := ⟨[(4, .c (.zero)), (5, .c (.d (.int .i64 r1)))], []⟩) (c := True ∧ True ∧ True ∧ True) (by kernel_rfl) ⟨trivial, trivial, trivial, trivial⟩ ?_
    refine At.done rfl ?_
    show Tri _ _ _ _
    refine Tri.keep [4, 5] [] (s' := ⟨[(4, .c (.zero)), (5, .c (.d (.int .i64 r1)))], []⟩) (by kernel_rfl) ?_
    refine Tri.le [] (fun k hk => by cases hk) ⟨[(4, .c (.d (.list 3 ([] : List Value).length (fun i => encValue (([] : List Value).getD i default))))), (5, .c (.d (.int .i64 r1)))], []⟩ ⟨⟨_, rfl, .c (.zero _ _)⟩, ⟨_, rfl, .refl _⟩, trivial⟩ trivial ?_
    refine Tri.ret ?_
    cases h
    refine ⟨_, _, rfl, ⟨trivial, ⟨trivial, trivial⟩⟩, rfl, rfl, ?_⟩
    intro k c h
    cases h
  · refine Tri.skip ?_
    show Tri _ _ _ _
    refine Tri.seqS ?_
    refine Tri.reg ?_
    refine At.seg 1 [0, 1, 7] [] (s' := ⟨[(0, .c (.d (.list 3 p0.length (fun i => encValue (p0.getD i default))))), (1, .c (.view 1 p1.length (fun i => encInt .i64 (p1.getD i default)))), (7, .c (.zero))], []⟩) (c := True ∧ True) (by kernel_rfl) ⟨trivial, trivial⟩ ?_
    refine At.done rfl ?_
    show Tri _ _ _ _
    refine Tri.seqS ?_
    refine Tri.seqS ?_
    refine Tri.reg ?_
    refine At.seg 3 [0, 7, 15, 16, 17] [] (s' := ⟨[(0, .c (.d (.list 3 p0.length (fun i => encValue (p0.getD i default))))), (7, .c (.zero)), (15, .c (.view 1 p1.length (fun i => encInt .i64 (p1.getD i default)))), (16, .c (.d (.int .i64 (p1.length : Int)))), (17, .c (.d (.int .i64 0)))], []⟩) (c := True ∧ True ∧ True ∧ True) (by kernel_rfl) ⟨trivial, trivial, trivial, trivial⟩ ?_
    refine At.done rfl ?_
    show Tri _ _ _ _
    refine Tri.lenOfV (t := 15) rfl fun hlena3 => ?_
    refine Tri.newOwn (t := 7) (k := 1007) (es := 3) (fun i => encValue (([] : List Value).getD i default)) rfl rfl rfl ?_
    refine Tri.keep [17, 0, 7, 15, 16] [1007] (s' := idx 17 0 ⟨[(0, .c (.d (.list 3 p0.length (fun i => encValue (p0.getD i default))))), (7, .c (.own 1007 3 0 (([] : List Value).length))), (15, .c (.view 1 p1.length (fun i => encInt .i64 (p1.getD i default)))), (16, .c (.d (.int .i64 (p1.length : Int))))], [(1007, .vec 3 ([] : List Value).length (fun i => encValue (([] : List Value).getD i default)))]⟩) (by kernel_rfl) ?_
    refine Tri.range (n := p1.length) (st0 := ([] : List Value)) (fun (x : (List Value) × Int) s => RetAt Try.prog Try.f19 (.tup [(false, [.d (.list 3 x.1.length (fun i => encValue (x.1.getD i default)))]), (false, [.d (.int .i64 x.2)])]) [] s) (fun (a3 : List Value) => ⟨[(0, .c (.d (.list 3 p0.length (fun i => encValue (p0.getD i default))))), (7, .c (.own 1007 3 0 a3.length)), (15, .c (.view 1 p1.length (fun i => encInt .i64 (p1.getD i default)))), (16, .c (.d (.int .i64 (p1.length : Int))))], [(1007, .vec 3 a3.length (fun i => encValue (a3.getD i default)))]⟩) (fun (a3 : List Value) => ⟨[(0, .c (.d (.list 3 p0.length (fun i => encValue (p0.getD i default))))), (7, .c (.own 1007 3 0 a3.length)), (15, .c (.view 1 p1.length (fun i => encInt .i64 (p1.getD i default)))), (16, .c (.d (.int .i64 (p1.length : Int))))], [(1007, .vec 3 a3.length (fun i => encValue (a3.getD i default)))]⟩) (fun i => decide ((i : Int) < (p1.length : Int))) [18, 17, 0, 7, 15, 16] [1007] [0, 7, 15, 16] [1007] [17, 0, 7, 15, 16] [1007] h hlena3 rfl ?_ ?_ ?_ ?_ ?_ ?_ ?_ ?_
    · exact fun i a => ⟨True ∧ True, by kernel_rfl, ⟨trivial, trivial⟩⟩
    · exact fun i hi => decide_eq_true (by omega)
    · exact decide_eq_false (by omega)
    · exact fun a => by kernel_rfl
    · exact fun i a => ⟨True ∧ True ∧ True, by kernel_rfl, ⟨trivial, trivial, trivial⟩⟩
    · intro i2 a3 c hii2 h
      refine Tri.seqS ?_
      refine Tri.reg ?_
      refine At.seg 3 [0, 7, 9, 15, 16, 17] [1007] (s' := ⟨[(0, .c (.d (.list 3 p0.length (fun i => encValue (p0.getD i default))))), (7, .c (.own 1007 3 0 a3.length)), (9, .c (.d (.int .i64 (p1.getD i2 default)))), (15, .c (.view 1 p1.length (fun i => encInt .i64 (p1.getD i default)))), (16, .c (.d (.int .i64 (p1.length : Int)))), (17, .c (.d (.int .i64 ((i2 : Nat) : Int))))], [(1007, .vec 3 a3.length (fun i => encValue (a3.getD i default)))]⟩) (c := ((0 : Int) ≤ ((i2 : Nat) : Int) ∧ ((i2 : Nat) : Int) < (p1.length : Int)) ∧ True ∧ True ∧ True) (by kernel_rfl) ⟨⟨by omega, by omega⟩, trivial, trivial, trivial⟩ ?_
      refine At.done rfl ?_
      show Tri _ _ _ _
      refine Tri.seqS ?_
      refine Tri.seqJ (fun (a5 : Bool) => ⟨[(0, .c (.d (.list 3 p0.length (fun i => encValue (p0.getD i default))))), (7, .c (.own 1007 3 0 a3.length)), (9, .c (.d (.int .i64 (p1.getD i2 default)))), (15, .c (.view 1 p1.length (fun i => encInt .i64 (p1.getD i default)))), (16, .c (.d (.int .i64 (p1.length : Int)))), (17, .c (.d (.int .i64 ((i2 : Nat) : Int)))), (28, .c (.d (.bool a5)))], [(1007, .vec 3 a3.length (fun i => encValue (a3.getD i default)))]⟩) h (fun a5 h => ?_) (fun j6 h => ?_)
      · show Tri _ _ ⟨[(0, .c (.d (.list 3 p0.length (fun i => encValue (p0.getD i default))))), (7, .c (.own 1007 3 0 a3.length)), (9, .c (.d (.int .i64 (p1.getD i2 default)))), (15, .c (.view 1 p1.length (fun i => encInt .i64 (p1.getD i default)))), (16, .c (.d (.int .i64 (p1.length : Int)))), (17, .c (.d (.int .i64 ((i2 : Nat) : Int)))), (28, .c (.d (.bool a5)))], [(1007, .vec 3 a3.length (fun i => encValue (a3.getD i default)))]⟩ _
        refine Tri.condP (b := a5) rfl h (fun h => ?_) (fun h => ?_)
        · refine Tri.seqS ?_
          refine Tri.reg ?_
          refine At.seg 2 [4, 5] [] (s' := ⟨[(4, .c (.zero)), (5, .c (.d (.int .i64 1)))], []⟩) (c := True ∧ True ∧ True) (by kernel_rfl) ⟨trivial, trivial, trivial⟩ ?_
          refine At.done rfl ?_
          show Tri _ _ _ _
          refine Tri.keep [4, 5] [] (s' := ⟨[(4, .c (.zero)), (5, .c (.d (.int .i64 1)))], []⟩) (by kernel_rfl) ?_
          refine Tri.le [] (fun k hk => by cases hk) ⟨[(4, .c (.d (.list 3 ([] : List Value).length (fun i => encValue (([] : List Value).getD i default))))), (5, .c (.d (.int .i64 1)))], []⟩ ⟨⟨_, rfl, .c (.zero _ _)⟩, ⟨_, rfl, .refl _⟩, trivial⟩ trivial ?_
          refine Tri.ret ?_
          cases h
          refine ⟨_, _, rfl, ⟨trivial, ⟨trivial, trivial⟩⟩, rfl, rfl, ?_⟩
          intro k c h
          cases h
        · refine Tri.skip ?_
          show Tri _ _ _ _
          refine Tri.reg ?_
          obtain ⟨hc7, h⟩ := need_elim h
          refine At.seg 5 [0, 15, 16, 17, 29, 33] [1007] (s' := ⟨[(0, .c (.d (.list 3 p0.length (fun i => encValue (p0.getD i default))))), (15, .c (.view 1 p1.length (fun i => encInt .i64 (p1.getD i default)))), (16, .c (.d (.int .i64 (p1.length : Int)))), (17, .c (.d (.int .i64 ((i2 : Nat) : Int)))), (29, .c (.own 1007 3 0 a3.length)), (33, .agg [.d (.bool ((p0.getD ((p1.getD i2 default).toNat) default).isText)), .d (.int .i64 ((p0.getD ((p1.getD i2 default).toNat) default).n)), .d (.str ((p0.getD ((p1.getD i2 default).toNat) default).s))])], [(1007, .vec 3 a3.length (fun i => encValue (a3.getD i default)))]⟩) (c := True ∧ True ∧ True ∧ ((0 : Int) ≤ (p1.getD i2 default) ∧ (p1.getD i2 default) < (p0.length : Int)) ∧ True ∧ True) (by kernel_rfl) ⟨trivial, trivial, trivial, hc7, trivial, trivial⟩ ?_
          refine At.one rfl (One.buildSlice (z := [.d (.bool false), .d (.int .i64 0), .d (.str (bs []))]) (cells := [.d (.bool ((p0.getD ((p1.getD i2 default).toNat) default).isText)), .d (.int .i64 ((p0.getD ((p1.getD i2 default).toNat) default).n)), .d (.str ((p0.getD ((p1.getD i2 default).toNat) default).s))]) (xs := List.map (encValue) ([(p0.getD ((p1.getD i2 default).toNat) default)] : List Value)) rfl rfl rfl rfl (by kernel_rfl) rfl rfl (by kernel_rfl) rfl rfl rfl (by kernel_rfl) rfl ⟨⟨rfl, .refl _⟩, trivial⟩) ?_
          refine At.le [34] (fun k _ h => by cases h) ⟨[(34, .c (.d (.list 3 ([(p0.getD ((p1.getD i2 default).toNat) default)] : List Value).length (fun i => encValue (([(p0.getD ((p1.getD i2 default).toNat) default)] : List Value).getD i default))))), (0, .c (.d (.list 3 p0.length (fun i => encValue (p0.getD i default))))), (15, .c (.view 1 p1.length (fun i => encInt .i64 (p1.getD i default)))), (16, .c (.d (.int .i64 (p1.length : Int)))), (17, .c (.d (.int .i64 ((i2 : Nat) : Int)))), (29, .c (.own 1007 3 0 a3.length)), (33, .agg [.d (.bool ((p0.getD ((p1.getD i2 default).toNat) default).isText)), .d (.int .i64 ((p0.getD ((p1.getD i2 default).toNat) default).n)), .d (.str ((p0.getD ((p1.getD i2 default).toNat) default).s))])], [(1007, .vec 3 a3.length (fun i => encValue (a3.getD i default)))]⟩ ⟨⟨_, rfl, .c (.own rfl (List.mem_singleton.2 rfl) (Nat.le_of_ble_eq_true rfl) rfl (encs_getD (encValue) ([(p0.getD ((p1.getD i2 default).toNat) default)] : List Value)))⟩, ⟨_, rfl, .refl _⟩, ⟨_, rfl, .refl _⟩, ⟨_, rfl, .refl _⟩, ⟨_, rfl, .refl _⟩, ⟨_, rfl, .refl _⟩, ⟨_, rfl, .refl _⟩, trivial⟩ ⟨⟨_, rfl, .refl _, (by simp)⟩, trivial⟩ ?_
          obtain ⟨hc8, h⟩ := need_elim h
          refine At.one rfl (One.appendT (e := 27) (es := 3) (encValue) a3 ([(p0.getD ((p1.getD i2 default).toNat) default)] : List Value) rfl rfl rfl rfl rfl (.of 27 32 [.d (.bool false), .d (.int .i64 0), .d (.str (bs []))] (by kernel_rfl) (by kernel_rfl) (by kernel_rfl) (by kernel_rfl) rfl (by kernel_rfl) rfl) rfl rfl rfl (.list rfl (fun _ _ => rfl)) hc8) ?_
          refine At.seg 1 [17, 0, 7, 15, 16] [1007] (s' := ⟨[(17, .c (.d (.int .i64 ((i2 : Nat) : Int)))), (0, .c (.d (.list 3 p0.length (fun i => encValue (p0.getD i default))))), (7, .c (.own 1007 3 0 ((a3 ++ ([(p0.getD ((p1.getD i2 default).toNat) default)] : List Value)).length))), (15, .c (.view 1 p1.length (fun i => encInt .i64 (p1.getD i default)))), (16, .c (.d (.int .i64 (p1.length : Int))))], [(1007, .vec 3 (a3 ++ ([(p0.getD ((p1.getD i2 default).toNat) default)] : List Value)).length (fun i => encValue ((a3 ++ ([(p0.getD ((p1.getD i2 default).toNat) default)] : List Value)).getD i default)))]⟩) (c := True ∧ True) (by kernel_rfl) ⟨trivial, trivial⟩ ?_
          refine At.done rfl ?_
          cases h
          exact rfl
      · refine Tri.reg ?_
        refine At.seg 3 [0, 7, 9, 15, 16, 17, 23] [1007] (s' := ⟨[(0, .c (.d (.list 3 p0.length (fun i => encValue (p0.getD i default))))), (7, .c (.own 1007 3 0 a3.length)), (9, .c (.d (.int .i64 (p1.getD i2 default)))), (15, .c (.view 1 p1.length (fun i => encInt .i64 (p1.getD i default)))), (16, .c (.d (.int .i64 (p1.length : Int)))), (17, .c (.d (.int .i64 ((i2 : Nat) : Int)))), (23, .c (.d (.bool (decide ((p1.getD i2 default) < 0)))))], [(1007, .vec 3 a3.length (fun i => encValue (a3.getD i default)))]⟩) (c := True ∧ True ∧ True ∧ True) (by kernel_rfl) ⟨trivial, trivial, trivial, trivial⟩ ?_
        refine At.case (fun b => ⟨[(0, .c (.d (.list 3 p0.length (fun i => encValue (p0.getD i default))))), (7, .c (.own 1007 3 0 a3.length)), (9, .c (.d (.int .i64 (p1.getD i2 default)))), (15, .c (.view 1 p1.length (fun i => encInt .i64 (p1.getD i default)))), (16, .c (.d (.int .i64 (p1.length : Int)))), (17, .c (.d (.int .i64 ((i2 : Nat) : Int)))), (23, .c (.d (.bool b)))], [(1007, .vec 3 a3.length (fun i => encValue (a3.getD i default)))]⟩) (b := (decide ((p1.getD i2 default) < 0))) h (fun h => ?_) (fun h => ?_)
        · refine At.seg 5 [0, 7, 9, 15, 16, 17, 28] [1007] (s' := ⟨[(0, .c (.d (.list 3 p0.length (fun i => encValue (p0.getD i default))))), (7, .c (.own 1007 3 0 a3.length)), (9, .c (.d (.int .i64 (p1.getD i2 default)))), (15, .c (.view 1 p1.length (fun i => encInt .i64 (p1.getD i default)))), (16, .c (.d (.int .i64 (p1.length : Int)))), (17, .c (.d (.int .i64 ((i2 : Nat) : Int)))), (28, .c (.d (.bool true)))], [(1007, .vec 3 a3.length (fun i => encValue (a3.getD i default)))]⟩) (c := True ∧ True) (by kernel_rfl) ⟨trivial, trivial⟩ ?_
          refine At.done rfl ?_
          exact ⟨_, h, rfl⟩
        · refine At.seg 5 [0, 7, 9, 15, 16, 17, 28] [1007] (s' := ⟨[(0, .c (.d (.list 3 p0.length (fun i => encValue (p0.getD i default))))), (7, .c (.own 1007 3 0 a3.length)), (9, .c (.d (.int .i64 (p1.getD i2 default)))), (15, .c (.view 1 p1.length (fun i => encInt .i64 (p1.getD i default)))), (16, .c (.d (.int .i64 (p1.length : Int)))), (17, .c (.d (.int .i64 ((i2 : Nat) : Int)))), (28, .c (.d (.bool (decide ((p0.length : Int) ≤ (p1.getD i2 default))))))], [(1007, .vec 3 a3.length (fun i => encValue (a3.getD i default)))]⟩) (c := True ∧ True ∧ True ∧ True ∧ True ∧ True) (by kernel_rfl) ⟨trivial, trivial, trivial, trivial, trivial, trivial⟩ ?_
          refine At.done rfl ?_
          exact ⟨_, h, rfl⟩
    · intro a4 h
      show Tri _ _ _ _
      refine Tri.seqS ?_
      refine Tri.seqS ?_
      refine Tri.reg ?_
      refine At.seg 3 [7, 39] [1007] (s' := ⟨[(7, .c (.own 1007 3 0 a4.length)), (39, .c (.d (.bool (decide (8 < (a4.length : Int))))))], [(1007, .vec 3 a4.length (fun i => encValue (a4.getD i default)))]⟩) (c := True ∧ True ∧ True ∧ True) (by kernel_rfl) ⟨trivial, trivial, trivial, trivial⟩ ?_
      refine At.done rfl ?_
      show Tri _ _ _ _
      refine Tri.condP (b := (decide (8 < (a4.length : Int)))) rfl h (fun h => ?_) (fun h => ?_)
      · refine Tri.seqS ?_
        refine Tri.reg ?_
        refine At.seg 2 [4, 5] [] (s' := ⟨[(4, .c (.zero)), (5, .c (.d (.int .i64 2)))], []⟩) (c := True ∧ True ∧ True) (by kernel_rfl) ⟨trivial, trivial, trivial⟩ ?_
        refine At.done rfl ?_
        show Tri _ _ _ _
        refine Tri.keep [4, 5] [] (s' := ⟨[(4, .c (.zero)), (5, .c (.d (.int .i64 2)))], []⟩) (by kernel_rfl) ?_
        refine Tri.le [] (fun k hk => by cases hk) ⟨[(4, .c (.d (.list 3 ([] : List Value).length (fun i => encValue (([] : List Value).getD i default))))), (5, .c (.d (.int .i64 2)))], []⟩ ⟨⟨_, rfl, .c (.zero _ _)⟩, ⟨_, rfl, .refl _⟩, trivial⟩ trivial ?_
        refine Tri.ret ?_
        cases h
        refine ⟨_, _, rfl, ⟨trivial, ⟨trivial, trivial⟩⟩, rfl, rfl, ?_⟩
        intro k c h
        cases h
      · refine Tri.skip ?_
        show Tri _ _ _ _
        refine Tri.seqS ?_
        refine Tri.reg ?_
        refine At.seg 3 [4, 5] [1007] (s' := ⟨[(4, .c (.own 1007 3 0 a4.length)), (5, .c (.d (.int .i64 0)))], [(1007, .vec 3 a4.length (fun i => encValue (a4.getD i default)))]⟩) (c := True ∧ True ∧ True ∧ True) (by kernel_rfl) ⟨trivial, trivial, trivial, trivial⟩ ?_
        refine At.done rfl ?_
        show Tri _ _ _ _
        refine Tri.keep [4, 5] [1007] (s' := ⟨[(4, .c (.own 1007 3 0 a4.length)), (5, .c (.d (.int .i64 0)))], [(1007, .vec 3 a4.length (fun i => encValue (a4.getD i default)))]⟩) (by kernel_rfl) ?_
        refine Tri.le [1007] (fun k _ h => by cases h) ⟨[(4, .c (.d (.list 3 a4.length (fun i => encValue (a4.getD i default))))), (5, .c (.d (.int .i64 0)))], []⟩ ⟨⟨_, rfl, .c (CLe.frozen (encValue) a4 rfl (by simp))⟩, ⟨_, rfl, .refl _⟩, trivial⟩ trivial ?_
        refine Tri.ret ?_
        cases h
        refine ⟨_, _, rfl, ⟨trivial, ⟨trivial, trivial⟩⟩, rfl, rfl, ?_⟩
        intro k c h
        cases h
    · exact fun x s hx hr => by cases hx; exact hr

set_option maxRecDepth 100000 in
theorem freshetlaw03_ValueParts_ok {p0 : List Value} {p1 : List Value} {q : Bool} (h : freshetlaw03_ValueParts p0 p1 = some q) :
    Summ Try.prog 7 [.c (.d (.list 3 p0.length (fun i => encValue (p0.getD i default)))), .c (.d (.list 3 p1.length (fun i => encValue (p1.getD i default))))] [] (.c (.d (.bool q))) [] := by
  refine Summ.intro Try.func7 rfl (by kernel_rfl) (by kernel_rfl) [] rfl ?_
  rintro ⟨P, w0, G0, V, LL, lk, N, φ0, fx⟩ rfl rfl rfl rfl
  unfold freshetlaw03_ValueParts at h
  refine Tri.seqS ?_
  refine Tri.reg ?_
  refine At.seg 1 [0, 1] [] (s' := ⟨[(0, .c (.d (.list 3 p0.length (fun i => encValue (p0.getD i default))))), (1, .c (.d (.list 3 p1.length (fun i => encValue (p1.getD i default)))))], []⟩) (c := True ∧ True) (by kernel_rfl) ⟨trivial, trivial⟩ ?_
  refine At.done rfl ?_
  show Tri _ _ _ _
  refine Tri.seqS ?_
  refine Tri.seqS ?_
  refine Tri.reg ?_
  obtain ⟨r1, hr1, h⟩ := bind_elim h
  refine At.callA (caps := []) (xs := []) (freshetlaw03_makes_ok hr1) rfl rfl rfl rfl rfl rfl .nil rfl rfl ?_
  refine At.seg 1 [0, 1, 15] [] (s' := ⟨[(0, .c (.d (.list 3 p0.length (fun i => encValue (p0.getD i default))))), (1, .c (.d (.list 3 p1.length (fun i => encValue (p1.getD i default))))), (15, .c (.d (.bool (!r1))))], []⟩) (c := True ∧ True) (by kernel_rfl) ⟨trivial, trivial⟩ ?_
  refine At.done rfl ?_
  show Tri _ _ _ _
  refine Tri.condP (b := (!r1)) rfl h (fun h => ?_) (fun h => ?_)
  · refine Tri.seqS ?_
    refine Tri.reg ?_
    refine At.seg 1 [4] [] (s' := ⟨[(4, .c (.d (.bool false)))], []⟩) (c := True ∧ True) (by kernel_rfl) ⟨trivial, trivial⟩ ?_
    refine At.done rfl ?_
    show Tri _ _ _ _
    refine Tri.keep [4] [] (s' := ⟨[(4, .c (.d (.bool false)))], []⟩) (by kernel_rfl) ?_
    refine Tri.ret ?_
    cases h
    refine ⟨_, _, rfl, ⟨trivial, trivial⟩, rfl, rfl, ?_⟩
    intro k c h
    cases h
  · refine Tri.skip ?_
    show Tri _ _ _ _
    refine Tri.seqS ?_
    refine Tri.reg ?_
    refine At.seg 2 [0, 1, 17, 18] [] (s' := ⟨[(0, .c (.d (.list 3 p0.length (fun i => encValue (p0.getD i default))))), (1, .c (.d (.list 3 p1.length (fun i => encValue (p1.getD i default))))), (17, .c (.d (.list 3 p0.length (fun i => encValue (p0.getD i default))))), (18, .c (.d (.list 3 p1.length (fun i => encValue (p1.getD i default)))))], []⟩) (c := True ∧ True ∧ True) (by kernel_rfl) ⟨trivial, trivial, trivial⟩ ?_
    refine At.one rfl (One.buildSlice (z := [.zero]) (cells := [.d (.list 3 p0.length (fun i => encValue (p0.getD i default))), .d (.list 3 p1.length (fun i => encValue (p1.getD i default)))]) (xs := List.map ((fun xs => [encL 3 encValue xs])) ([p0, p1] : List (List Value))) rfl rfl rfl rfl (by kernel_rfl) rfl rfl (by kernel_rfl) rfl rfl rfl (by kernel_rfl) rfl ⟨⟨rfl, .refl _⟩, ⟨rfl, .refl _⟩, trivial⟩) ?_
    refine At.le [19] (fun k _ h => by cases h) ⟨[(19, .c (.d (.list 1 ([p0, p1] : List (List Value)).length (fun i => (fun xs => [encL 3 encValue xs]) (([p0, p1] : List (List Value)).getD i default))))), (0, .c (.d (.list 3 p0.length (fun i => encValue (p0.getD i default))))), (1, .c (.d (.list 3 p1.length (fun i => encValue (p1.getD i default))))), (17, .c (.d (.list 3 p0.length (fun i => encValue (p0.getD i default))))), (18, .c (.d (.list 3 p1.length (fun i => encValue (p1.getD i default)))))], []⟩ ⟨⟨_, rfl, .c (.own rfl (List.mem_singleton.2 rfl) (Nat.le_of_ble_eq_true rfl) rfl (encs_getD ((fun xs => [encL 3 encValue xs])) ([p0, p1] : List (List Value))))⟩, ⟨_, rfl, .refl _⟩, ⟨_, rfl, .refl _⟩, ⟨_, rfl, .refl _⟩, ⟨_, rfl, .refl _⟩, trivial⟩ trivial ?_
    obtain ⟨r2, hr2, h⟩ := bind_elim h
    refine At.callA (caps := []) (xs := [.c (.d (.list 1 ([p0, p1] : List (List Value)).length (fun i => (fun xs => [encL 3 encValue xs]) (([p0, p1] : List (List Value)).getD i default))))]) (value_Join_ok hr2) rfl rfl rfl rfl rfl rfl (.cons (.refl _) .nil) rfl rfl ?_
    refine At.seg 5 [0, 1, 5, 6] [] (s' := ⟨[(0, .c (.d (.list 3 p0.length (fun i => encValue (p0.getD i default))))), (1, .c (.d (.list 3 p1.length (fun i => encValue (p1.getD i default))))), (5, .c (.d (.list 3 r2.1.length (fun i => encValue (r2.1.getD i default))))), (6, .c (.d (.int .i64 r2.2)))], []⟩) (c := True ∧ True ∧ True ∧ True ∧ True ∧ True) (by kernel_rfl) ⟨trivial, trivial, trivial, trivial, trivial, trivial⟩ ?_
    refine At.done rfl ?_
    show Tri _ _ _ _
    refine Tri.seqS ?_
    refine Tri.seqS ?_
    refine Tri.reg ?_
    refine At.seg 2 [0, 1, 5, 24] [] (s' := ⟨[(0, .c (.d (.list 3 p0.length (fun i => encValue (p0.getD i default))))), (1, .c (.d (.list 3 p1.length (fun i => encValue (p1.getD i default))))), (5, .c (.d (.list 3 r2.1.length (fun i => encValue (r2.1.getD i default))))), (24, .c (.d (.bool (!decide (r2.2 = 0)))))], []⟩) (c := True ∧ True ∧ True) (by kernel_rfl) ⟨trivial, trivial, trivial⟩ ?_
    refine At.done rfl ?_
    show Tri _ _ _ _
    refine Tri.condP (b := (!decide (r2.2 = 0))) rfl h (fun h => ?_) (fun h => ?_)
    · refine Tri.seqS ?_
      refine Tri.reg ?_
      refine At.seg 4 [4] [] (s' := ⟨[(4, .c (.d (.bool (decide ((r2.1.length : Int) = 0)))))], []⟩) (c := True ∧ True ∧ True ∧ True ∧ True) (by kernel_rfl) ⟨trivial, trivial, trivial, trivial, trivial⟩ ?_
      refine At.done rfl ?_
      show Tri _ _ _ _
      refine Tri.keep [4] [] (s' := ⟨[(4, .c (.d (.bool (decide ((r2.1.length : Int) = 0)))))], []⟩) (by kernel_rfl) ?_
      refine Tri.ret ?_
      cases h
      refine ⟨_, _, rfl, ⟨trivial, trivial⟩, rfl, rfl, ?_⟩
      intro k c h
      cases h
    · refine Tri.skip ?_
      show Tri _ _ _ _
      refine Tri.seqS ?_
      refine Tri.reg ?_
      refine At.seg 2 [0, 1, 5, 7, 8] [] (s' := ⟨[(0, .c (.d (.list 3 p0.length (fun i => encValue (p0.getD i default))))), (1, .c (.d (.list 3 p1.length (fun i => encValue (p1.getD i default))))), (5, .c (.d (.list 3 r2.1.length (fun i => encValue (r2.1.getD i default))))), (7, .c (.zero)), (8, .c (.zero))], []⟩) (c := True ∧ True ∧ True) (by kernel_rfl) ⟨trivial, trivial, trivial⟩ ?_
      refine At.done rfl ?_
      show Tri _ _ _ _
      refine Tri.seqS ?_
      refine Tri.seqS ?_
      refine Tri.reg ?_
      refine At.seg 3 [0, 1, 5, 7, 8, 29, 30] [] (s' := ⟨[(0, .c (.d (.list 3 p0.length (fun i => encValue (p0.getD i default))))), (1, .c (.d (.list 3 p1.length (fun i => encValue (p1.getD i default))))), (5, .c (.d (.list 3 r2.1.length (fun i => encValue (r2.1.getD i default))))), (7, .c (.zero)), (8, .c (.zero)), (29, .c (.d (.int .i64 (r2.1.length : Int)))), (30, .c (.d (.int .i64 0)))], []⟩) (c := True ∧ True ∧ True ∧ True) (by kernel_rfl) ⟨trivial, trivial, trivial, trivial⟩ ?_
      refine At.done rfl ?_
      show Tri _ _ _ _
      refine Tri.lenOf (t := 5) rfl fun hlena4 => ?_
      refine Tri.newOwn (t := 7) (k := 1007) (es := 1) (fun i => encInt .i64 (([] : List Int).getD i default)) rfl rfl rfl ?_
      refine Tri.newOwn (t := 8) (k := 1008) (es := 1) (fun i => encInt .i64 (([] : List Int).getD i default)) rfl rfl rfl ?_
      refine Tri.keep [30, 0, 1, 5, 7, 8, 29] [1007, 1008] (s' := idx 30 0 ⟨[(0, .c (.d (.list 3 p0.length (fun i => encValue (p0.getD i default))))), (1, .c (.d (.list 3 p1.length (fun i => encValue (p1.getD i default))))), (5, .c (.d (.list 3 r2.1.length (fun i => encValue (r2.1.getD i default))))), (7, .c (.own 1007 1 0 (([] : List Int).length))), (8, .c (.own 1008 1 0 (([] : List Int).length))), (29, .c (.d (.int .i64 (r2.1.length : Int))))], [(1007, .vec 1 ([] : List Int).length (fun i => encInt .i64 (([] : List Int).getD i default))), (1008, .vec 1 ([] : List Int).length (fun i => encInt .i64 (([] : List Int).getD i default)))]⟩) (by kernel_rfl) ?_
      refine Tri.range (n := r2.1.length) (st0 := (([] : List Int), ([] : List Int))) (fun (x : Empty) s => False) (fun (a4 : (List Int) × (List Int)) => ⟨[(0, .c (.d (.list 3 p0.length (fun i => encValue (p0.getD i default))))), (1, .c (.d (.list 3 p1.length (fun i => encValue (p1.getD i default))))), (5, .c (.d (.list 3 r2.1.length (fun i => encValue (r2.1.getD i default))))), (7, .c (.own 1007 1 0 a4.1.length)), (8, .c (.own 1008 1 0 a4.2.length)), (29, .c (.d (.int .i64 (r2.1.length : Int))))], [(1007, .vec 1 a4.1.length (fun i => encInt .i64 (a4.1.getD i default))), (1008, .vec 1 a4.2.length (fun i => encInt .i64 (a4.2.getD i default)))]⟩) (fun (a4 : (List Int) × (List Int)) => ⟨[(0, .c (.d (.list 3 p0.length (fun i => encValue (p0.getD i default))))), (1, .c (.d (.list 3 p1.length (fun i => encValue (p1.getD i default))))), (5, .c (.d (.list 3 r2.1.length (fun i => encValue (r2.1.getD i default))))), (7, .c (.own 1007 1 0 a4.1.length)), (8, .c (.own 1008 1 0 a4.2.length)), (29, .c (.d (.int .i64 (r2.1.length : Int))))], [(1007, .vec 1 a4.1.length (fun i => encInt .i64 (a4.1.getD i default))), (1008, .vec 1 a4.2.length (fun i => encInt .i64 (a4.2.getD i default)))]⟩) (fun i => decide ((i : Int) < (r2.1.length : Int))) [31, 30, 0, 1, 5, 7, 8, 29] [1007, 1008] [0, 1, 5, 7, 8, 29] [1007, 1008] [30, 0, 1, 5, 7, 8, 29] [1007, 1008] h hlena4 rfl ?_ ?_ ?_ ?_ ?_ ?_ ?_ ?_
      · exact fun i a => ⟨True ∧ True, by kernel_rfl, ⟨trivial, trivial⟩⟩
      · exact fun i hi => decide_eq_true (by omega)
      · exact decide_eq_false (by omega)
      · exact fun a => by kernel_rfl
      · exact fun i a => ⟨True ∧ True ∧ True, by kernel_rfl, ⟨trivial, trivial, trivial⟩⟩
      · intro i3 a4 c hii3 h
        refine Tri.seqS ?_
        refine Tri.reg ?_
        refine At.seg 2 [0, 1, 5, 7, 8, 9, 29, 30] [1007, 1008] (s' := ⟨[(0, .c (.d (.list 3 p0.length (fun i => encValue (p0.getD i default))))), (1, .c (.d (.list 3 p1.length (fun i => encValue (p1.getD i default))))), (5, .c (.d (.list 3 r2.1.length (fun i => encValue (r2.1.getD i default))))), (7, .c (.own 1007 1 0 a4.1.length)), (8, .c (.own 1008 1 0 a4.2.length)), (9, .c (.d (.int .i64 ((i3 : Nat) : Int)))), (29, .c (.d (.int .i64 (r2.1.length : Int)))), (30, .c (.d (.int .i64 ((i3 : Nat) : Int))))], [(1007, .vec 1 a4.1.length (fun i => encInt .i64 (a4.1.getD i default))), (1008, .vec 1 a4.2.length (fun i => encInt .i64 (a4.2.getD i default)))]⟩) (c := True ∧ True ∧ True) (by kernel_rfl) ⟨trivial, trivial, trivial⟩ ?_
        refine At.done rfl ?_
        show Tri _ _ _ _
        refine Tri.seqS ?_
        refine Tri.reg ?_
        refine At.seg 4 [0, 1, 5, 7, 8, 9, 29, 30, 36] [1007, 1008] (s' := ⟨[(0, .c (.d (.list 3 p0.length (fun i => encValue (p0.getD i default))))), (1, .c (.d (.list 3 p1.length (fun i => encValue (p1.getD i default))))), (5, .c (.d (.list 3 r2.1.length (fun i => encValue (r2.1.getD i default))))), (7, .c (.own 1007 1 0 a4.1.length)), (8, .c (.own 1008 1 0 a4.2.length)), (9, .c (.d (.int .i64 ((i3 : Nat) : Int)))), (29, .c (.d (.int .i64 (r2.1.length : Int)))), (30, .c (.d (.int .i64 ((i3 : Nat) : Int)))), (36, .c (.d (.bool (decide (((i3 : Nat) : Int) < (p0.length : Int))))))], [(1007, .vec 1 a4.1.length (fun i => encInt .i64 (a4.1.getD i default))), (1008, .vec 1 a4.2.length (fun i => encInt .i64 (a4.2.getD i default)))]⟩) (c := True ∧ True ∧ True ∧ True ∧ True) (by kernel_rfl) ⟨trivial, trivial, trivial, trivial, trivial⟩ ?_
        refine At.done rfl ?_
        show Tri _ _ _ _
        refine Tri.condP (b := (decide (((i3 : Nat) : Int) < (p0.length : Int)))) rfl h (fun h => ?_) (fun h => ?_)
        · refine Tri.reg ?_
          refine At.seg 2 [0, 1, 5, 8, 29, 30, 37, 38] [1007, 1008] (s' := ⟨[(0, .c (.d (.list 3 p0.length (fun i => encValue (p0.getD i default))))), (1, .c (.d (.list 3 p1.length (fun i => encValue (p1.getD i default))))), (5, .c (.d (.list 3 r2.1.length (fun i => encValue (r2.1.getD i default))))), (8, .c (.own 1008 1 0 a4.2.length)), (29, .c (.d (.int .i64 (r2.1.length : Int)))), (30, .c (.d (.int .i64 ((i3 : Nat) : Int)))), (37, .c (.own 1007 1 0 a4.1.length)), (38, .c (.d (.int .i64 ((i3 : Nat) : Int))))], [(1007, .vec 1 a4.1.length (fun i => encInt .i64 (a4.1.getD i default))), (1008, .vec 1 a4.2.length (fun i => encInt .i64 (a4.2.getD i default)))]⟩) (c := True ∧ True ∧ True) (by kernel_rfl) ⟨trivial, trivial, trivial⟩ ?_
          refine At.one rfl (One.buildSlice (z := [.d (.int .i64 0)]) (cells := [.d (.int .i64 ((i3 : Nat) : Int))]) (xs := List.map (encInt .i64) ([((i3 : Nat) : Int)] : List Int)) rfl rfl rfl rfl (by kernel_rfl) rfl rfl (by kernel_rfl) rfl rfl rfl (by kernel_rfl) rfl ⟨⟨rfl, .refl _⟩, trivial⟩) ?_
          refine At.le [39] (fun k _ h => by cases h) ⟨[(39, .c (.d (.list 1 ([((i3 : Nat) : Int)] : List Int).length (fun i => encInt .i64 (([((i3 : Nat) : Int)] : List Int).getD i default))))), (0, .c (.d (.list 3 p0.length (fun i => encValue (p0.getD i default))))), (1, .c (.d (.list 3 p1.length (fun i => encValue (p1.getD i default))))), (5, .c (.d (.list 3 r2.1.length (fun i => encValue (r2.1.getD i default))))), (8, .c (.own 1008 1 0 a4.2.length)), (29, .c (.d (.int .i64 (r2.1.length : Int)))), (30, .c (.d (.int .i64 ((i3 : Nat) : Int)))), (37, .c (.own 1007 1 0 a4.1.length)), (38, .c (.d (.int .i64 ((i3 : Nat) : Int))))], [(1007, .vec 1 a4.1.length (fun i => encInt .i64 (a4.1.getD i default))), (1008, .vec 1 a4.2.length (fun i => encInt .i64 (a4.2.getD i default)))]⟩ ⟨⟨_, rfl, .c (.own rfl (List.mem_singleton.2 rfl) (Nat.le_of_ble_eq_true rfl) rfl (encs_getD (encInt .i64) ([((i3 : Nat) : Int)] : List Int)))⟩, ⟨_, rfl, .refl _⟩, ⟨_, rfl, .refl _⟩, ⟨_, rfl, .refl _⟩, ⟨_, rfl, .refl _⟩, ⟨_, rfl, .refl _⟩, ⟨_, rfl, .refl _⟩, ⟨_, rfl, .refl _⟩, ⟨_, rfl, .refl _⟩, trivial⟩ ⟨⟨_, rfl, .refl _, (by simp)⟩, ⟨_, rfl, .refl _, (by simp)⟩, trivial⟩ ?_
          obtain ⟨hc12, h⟩ := need_elim h
          refine At.one rfl (One.appendT (e := 3) (es := 1) (encInt .i64) a4.1 ([((i3 : Nat) : Int)] : List Int) rfl rfl rfl rfl rfl (.of 3 8 [.d (.int .i64 0)] (by kernel_rfl) (by kernel_rfl) (by kernel_rfl) (by kernel_rfl) rfl (by kernel_rfl) rfl) rfl rfl rfl (.list rfl (fun _ _ => rfl)) hc12) ?_
          refine At.seg 1 [30, 0, 1, 5, 7, 8, 29] [1007, 1008] (s' := ⟨[(30, .c (.d (.int .i64 ((i3 : Nat) : Int)))), (0, .c (.d (.list 3 p0.length (fun i => encValue (p0.getD i default))))), (1, .c (.d (.list 3 p1.length (fun i => encValue (p1.getD i default))))), (5, .c (.d (.list 3 r2.1.length (fun i => encValue (r2.1.getD i default))))), (7, .c (.own 1007 1 0 ((a4.1 ++ ([((i3 : Nat) : Int)] : List Int)).length))), (8, .c (.own 1008 1 0 a4.2.length)), (29, .c (.d (.int .i64 (r2.1.length : Int))))], [(1007, .vec 1 (a4.1 ++ ([((i3 : Nat) : Int)] : List Int)).length (fun i => encInt .i64 ((a4.1 ++ ([((i3 : Nat) : Int)] : List Int)).getD i default))), (1008, .vec 1 a4.2.length (fun i => encInt .i64 (a4.2.getD i default)))]⟩) (c := True ∧ True) (by kernel_rfl) ⟨trivial, trivial⟩ ?_
          refine At.done rfl ?_
          cases h
          exact rfl
        · refine Tri.reg ?_
          refine At.seg 2 [0, 1, 5, 7, 29, 30, 41, 42] [1007, 1008] (s' := ⟨[(0, .c (.d (.list 3 p0.length (fun i => encValue (p0.getD i default))))), (1, .c (.d (.list 3 p1.length (fun i => encValue (p1.getD i default))))), (5, .c (.d (.list 3 r2.1.length (fun i => encValue (r2.1.getD i default))))), (7, .c (.own 1007 1 0 a4.1.length)), (29, .c (.d (.int .i64 (r2.1.length : Int)))), (30, .c (.d (.int .i64 ((i3 : Nat) : Int)))), (41, .c (.own 1008 1 0 a4.2.length)), (42, .c (.d (.int .i64 ((i3 : Nat) : Int))))], [(1007, .vec 1 a4.1.length (fun i => encInt .i64 (a4.1.getD i default))), (1008, .vec 1 a4.2.length (fun i => encInt .i64 (a4.2.getD i default)))]⟩) (c := True ∧ True ∧ True) (by kernel_rfl) ⟨trivial, trivial, trivial⟩ ?_
          refine At.one rfl (One.buildSlice (z := [.d (.int .i64 0)]) (cells := [.d (.int .i64 ((i3 : Nat) : Int))]) (xs := List.map (encInt .i64) ([((i3 : Nat) : Int)] : List Int)) rfl rfl rfl rfl (by kernel_rfl) rfl rfl (by kernel_rfl) rfl rfl rfl (by kernel_rfl) rfl ⟨⟨rfl, .refl _⟩, trivial⟩) ?_
          refine At.le [43] (fun k _ h => by cases h) ⟨[(43, .c (.d (.list 1 ([((i3 : Nat) : Int)] : List Int).length (fun i => encInt .i64 (([((i3 : Nat) : Int)] : List Int).getD i default))))), (0, .c (.d (.list 3 p0.length (fun i => encValue (p0.getD i default))))), (1, .c (.d (.list 3 p1.length (fun i => encValue (p1.getD i default))))), (5, .c (.d (.list 3 r2.1.length (fun i => encValue (r2.1.getD i default))))), (7, .c (.own 1007 1 0 a4.1.length)), (29, .c (.d (.int .i64 (r2.1.length : Int)))), (30, .c (.d (.int .i64 ((i3 : Nat) : Int)))), (41, .c (.own 1008 1 0 a4.2.length)), (42, .c (.d (.int .i64 ((i3 : Nat) : Int))))], [(1007, .vec 1 a4.1.length (fun i => encInt .i64 (a4.1.getD i default))), (1008, .vec 1 a4.2.length (fun i => encInt .i64 (a4.2.getD i default)))]⟩ ⟨⟨_, rfl, .c (.own rfl (List.mem_singleton.2 rfl) (Nat.le_of_ble_eq_true rfl) rfl (encs_getD (encInt .i64) ([((i3 : Nat) : Int)] : List Int)))⟩, ⟨_, rfl, .refl _⟩, ⟨_, rfl, .refl _⟩, ⟨_, rfl, .refl _⟩, ⟨_, rfl, .refl _⟩, ⟨_, rfl, .refl _⟩, ⟨_, rfl, .refl _⟩, ⟨_, rfl, .refl _⟩, ⟨_, rfl, .refl _⟩, trivial⟩ ⟨⟨_, rfl, .refl _, (by simp)⟩, ⟨_, rfl, .refl _, (by simp)⟩, trivial⟩ ?_
          obtain ⟨hc13, h⟩ := need_elim h
          refine At.one rfl (One.appendT (e := 3) (es := 1) (encInt .i64) a4.2 ([((i3 : Nat) : Int)] : List Int) rfl rfl rfl rfl rfl (.of 3 8 [.d (.int .i64 0)] (by kernel_rfl) (by kernel_rfl) (by kernel_rfl) (by kernel_rfl) rfl (by kernel_rfl) rfl) rfl rfl rfl (.list rfl (fun _ _ => rfl)) hc13) ?_
          refine At.seg 1 [30, 0, 1, 5, 7, 8, 29] [1007, 1008] (s' := ⟨[(30, .c (.d (.int .i64 ((i3 : Nat) : Int)))), (0, .c (.d (.list 3 p0.length (fun i => encValue (p0.getD i default))))), (1, .c (.d (.list 3 p1.length (fun i => encValue (p1.getD i default))))), (5, .c (.d (.list 3 r2.1.length (fun i => encValue (r2.1.getD i default))))), (7, .c (.own 1007 1 0 a4.1.length)), (8, .c (.own 1008 1 0 ((a4.2 ++ ([((i3 : Nat) : Int)] : List Int)).length))), (29, .c (.d (.int .i64 (r2.1.length : Int))))], [(1007, .vec 1 a4.1.length (fun i => encInt .i64 (a4.1.getD i default))), (1008, .vec 1 (a4.2 ++ ([((i3 : Nat) : Int)] : List Int)).length (fun i => encInt .i64 ((a4.2 ++ ([((i3 : Nat) : Int)] : List Int)).getD i default)))]⟩) (c := True ∧ True) (by kernel_rfl) ⟨trivial, trivial⟩ ?_
          refine At.done rfl ?_
          cases h
          exact rfl
      · intro a5 h
        show Tri _ _ _ _
        refine Tri.seqS ?_
        refine Tri.reg ?_
        refine At.seg 2 [0, 1, 5, 8, 47, 48] [1007, 1008] (s' := ⟨[(0, .c (.d (.list 3 p0.length (fun i => encValue (p0.getD i default))))), (1, .c (.d (.list 3 p1.length (fun i => encValue (p1.getD i default))))), (5, .c (.d (.list 3 r2.1.length (fun i => encValue (r2.1.getD i default))))), (8, .c (.own 1008 1 0 a5.2.length)), (47, .c (.d (.list 3 r2.1.length (fun i => encValue (r2.1.getD i default))))), (48, .c (.own 1007 1 0 a5.1.length))], [(1007, .vec 1 a5.1.length (fun i => encInt .i64 (a5.1.getD i default))), (1008, .vec 1 a5.2.length (fun i => encInt .i64 (a5.2.getD i default)))]⟩) (c := True ∧ True ∧ True) (by kernel_rfl) ⟨trivial, trivial, trivial⟩ ?_
        obtain ⟨r6, hr6, h⟩ := bind_elim h
        refine At.callA (caps := []) (xs := [.c (.d (.list 3 r2.1.length (fun i => encValue (r2.1.getD i default)))), .c (.own 1007 1 0 a5.1.length)]) (value_Cols_ok_v1 hr6) rfl rfl rfl rfl rfl rfl (.cons (.refl _) (.cons (AVArg.view (encInt .i64) a5.1 rfl) .nil)) rfl rfl ?_
        refine At.seg 5 [0, 1, 5, 8, 10, 11] [1008] (s' := ⟨[(0, .c (.d (.list 3 p0.length (fun i => encValue (p0.getD i default))))), (1, .c (.d (.list 3 p1.length (fun i => encValue (p1.getD i default))))), (5, .c (.d (.list 3 r2.1.length (fun i => encValue (r2.1.getD i default))))), (8, .c (.own 1008 1 0 a5.2.length)), (10, .c (.d (.list 3 r6.1.length (fun i => encValue (r6.1.getD i default))))), (11, .c (.d (.int .i64 r6.2)))], [(1008, .vec 1 a5.2.length (fun i => encInt .i64 (a5.2.getD i default)))]⟩) (c := True ∧ True ∧ True ∧ True ∧ True ∧ True) (by kernel_rfl) ⟨trivial, trivial, trivial, trivial, trivial, trivial⟩ ?_
        refine At.done rfl ?_
        show Tri _ _ _ _
        refine Tri.seqS ?_
        refine Tri.reg ?_
        refine At.seg 2 [0, 1, 10, 11, 53, 54] [1008] (s' := ⟨[(0, .c (.d (.list 3 p0.length (fun i => encValue (p0.getD i default))))), (1, .c (.d (.list 3 p1.length (fun i => encValue (p1.getD i default))))), (10, .c (.d (.list 3 r6.1.length (fun i => encValue (r6.1.getD i default))))), (11, .c (.d (.int .i64 r6.2))), (53, .c (.d (.list 3 r2.1.length (fun i => encValue (r2.1.getD i default))))), (54, .c (.own 1008 1 0 a5.2.length))], [(1008, .vec 1 a5.2.length (fun i => encInt .i64 (a5.2.getD i default)))]⟩) (c := True ∧ True ∧ True) (by kernel_rfl) ⟨trivial, trivial, trivial⟩ ?_
        obtain ⟨r7, hr7, h⟩ := bind_elim h
        refine At.callA (caps := []) (xs := [.c (.d (.list 3 r2.1.length (fun i => encValue (r2.1.getD i default)))), .c (.own 1008 1 0 a5.2.length)]) (value_Cols_ok_v1 hr7) rfl rfl rfl rfl rfl rfl (.cons (.refl _) (.cons (AVArg.view (encInt .i64) a5.2 rfl) .nil)) rfl rfl ?_
        refine At.seg 5 [0, 1, 10, 11, 12, 13] [] (s' := ⟨[(0, .c (.d (.list 3 p0.length (fun i => encValue (p0.getD i default))))), (1, .c (.d (.list 3 p1.length (fun i => encValue (p1.getD i default))))), (10, .c (.d (.list 3 r6.1.length (fun i => encValue (r6.1.getD i default))))), (11, .c (.d (.int .i64 r6.2))), (12, .c (.d (.list 3 r7.1.length (fun i => encValue (r7.1.getD i default))))), (13, .c (.d (.int .i64 r7.2)))], []⟩) (c := True ∧ True ∧ True ∧ True ∧ True ∧ True) (by kernel_rfl) ⟨trivial, trivial, trivial, trivial, trivial, trivial⟩ ?_
        refine At.done rfl ?_
        show Tri _ _ _ _
        refine Tri.seqJ (fun (a8 : Bool) => ⟨[(4, .c (.d (.bool a8)))], []⟩) h (fun a8 h => ?_) (fun j9 h => ?_)
        · show Tri _ _ ⟨[(4, .c (.d (.bool a8)))], []⟩ _
          refine Tri.keep [4] [] (s' := ⟨[(4, .c (.d (.bool a8)))], []⟩) (by kernel_rfl) ?_
          refine Tri.ret ?_
          cases h
          refine ⟨_, _, rfl, ⟨trivial, trivial⟩, rfl, rfl, ?_⟩
          intro k c h
          cases h
        · refine Tri.reg ?_
          refine At.seg 3 [0, 1, 10, 12, 13, 60] [] (s' := ⟨[(0, .c (.d (.list 3 p0.length (fun i => encValue (p0.getD i default))))), (1, .c (.d (.list 3 p1.length (fun i => encValue (p1.getD i default))))), (10, .c (.d (.list 3 r6.1.length (fun i => encValue (r6.1.getD i default))))), (12, .c (.d (.list 3 r7.1.length (fun i => encValue (r7.1.getD i default))))), (13, .c (.d (.int .i64 r7.2))), (60, .c (.d (.bool (decide (r6.2 = 0)))))], []⟩) (c := True ∧ True ∧ True ∧ True) (by kernel_rfl) ⟨trivial, trivial, trivial, trivial⟩ ?_
          refine At.case (fun b => ⟨[(0, .c (.d (.list 3 p0.length (fun i => encValue (p0.getD i default))))), (1, .c (.d (.list 3 p1.length (fun i => encValue (p1.getD i default))))), (10, .c (.d (.list 3 r6.1.length (fun i => encValue (r6.1.getD i default))))), (12, .c (.d (.list 3 r7.1.length (fun i => encValue (r7.1.getD i default))))), (13, .c (.d (.int .i64 r7.2))), (60, .c (.d (.bool b)))], []⟩) (b := (decide (r6.2 = 0))) h (fun h => ?_) (fun h => ?_)
          · refine At.seg 4 [0, 1, 10, 12, 64] [] (s' := ⟨[(0, .c (.d (.list 3 p0.length (fun i => encValue (p0.getD i default))))), (1, .c (.d (.list 3 p1.length (fun i => encValue (p1.getD i default))))), (10, .c (.d (.list 3 r6.1.length (fun i => encValue (r6.1.getD i default))))), (12, .c (.d (.list 3 r7.1.length (fun i => encValue (r7.1.getD i default))))), (64, .c (.d (.bool (decide (r7.2 = 0)))))], []⟩) (c := True ∧ True ∧ True ∧ True ∧ True) (by kernel_rfl) ⟨trivial, trivial, trivial, trivial, trivial⟩ ?_
            refine At.case (fun b => ⟨[(0, .c (.d (.list 3 p0.length (fun i => encValue (p0.getD i default))))), (1, .c (.d (.list 3 p1.length (fun i => encValue (p1.getD i default))))), (10, .c (.d (.list 3 r6.1.length (fun i => encValue (r6.1.getD i default))))), (12, .c (.d (.list 3 r7.1.length (fun i => encValue (r7.1.getD i default))))), (64, .c (.d (.bool b)))], []⟩) (b := (decide (r7.2 = 0))) h (fun h => ?_) (fun h => ?_)
            · refine At.seg 2 [1, 12, 64, 65, 66] [] (s' := ⟨[(1, .c (.d (.list 3 p1.length (fun i => encValue (p1.getD i default))))), (12, .c (.d (.list 3 r7.1.length (fun i => encValue (r7.1.getD i default))))), (64, .c (.d (.bool true))), (65, .c (.d (.list 3 r6.1.length (fun i => encValue (r6.1.getD i default))))), (66, .c (.d (.list 3 p0.length (fun i => encValue (p0.getD i default)))))], []⟩) (c := True ∧ True ∧ True) (by kernel_rfl) ⟨trivial, trivial, trivial⟩ ?_
              obtain ⟨r10, hr10, h⟩ := bind_elim h
              refine At.callA (caps := []) (xs := [.c (.d (.list 3 r6.1.length (fun i => encValue (r6.1.getD i default)))), .c (.d (.list 3 p0.length (fun i => encValue (p0.getD i default))))]) (freshetref03_Same_ok hr10) rfl rfl rfl rfl rfl rfl (.cons (.refl _) (.cons (.refl _) .nil)) rfl rfl ?_
              refine At.seg 2 [1, 12, 69] [] (s' := ⟨[(1, .c (.d (.list 3 p1.length (fun i => encValue (p1.getD i default))))), (12, .c (.d (.list 3 r7.1.length (fun i => encValue (r7.1.getD i default))))), (69, .c (.d (.bool r10)))], []⟩) (c := True ∧ True ∧ True) (by kernel_rfl) ⟨trivial, trivial, trivial⟩ ?_
              refine At.case (fun b => ⟨[(1, .c (.d (.list 3 p1.length (fun i => encValue (p1.getD i default))))), (12, .c (.d (.list 3 r7.1.length (fun i => encValue (r7.1.getD i default))))), (69, .c (.d (.bool b)))], []⟩) (b := r10) h (fun h => ?_) (fun h => ?_)
              · refine At.seg 2 [69, 70, 71] [] (s' := ⟨[(69, .c (.d (.bool true))), (70, .c (.d (.list 3 r7.1.length (fun i => encValue (r7.1.getD i default))))), (71, .c (.d (.list 3 p1.length (fun i => encValue (p1.getD i default)))))], []⟩) (c := True ∧ True ∧ True) (by kernel_rfl) ⟨trivial, trivial, trivial⟩ ?_
                obtain ⟨r11, hr11, h⟩ := bind_elim h
                refine At.callA (caps := []) (xs := [.c (.d (.list 3 r7.1.length (fun i => encValue (r7.1.getD i default)))), .c (.d (.list 3 p1.length (fun i => encValue (p1.getD i default))))]) (freshetref03_Same_ok hr11) rfl rfl rfl rfl rfl rfl (.cons (.refl _) (.cons (.refl _) .nil)) rfl rfl ?_
                refine At.seg 2 [4] [] (s' := ⟨[(4, .c (.d (.bool r11)))], []⟩) (c := True ∧ True ∧ True) (by kernel_rfl) ⟨trivial, trivial, trivial⟩ ?_
                refine At.done rfl ?_
                exact ⟨_, h, rfl⟩
              · refine At.seg 5 [4] [] (s' := ⟨[(4, .c (.d (.bool false)))], []⟩) (c := True ∧ True ∧ True) (by kernel_rfl) ⟨trivial, trivial, trivial⟩ ?_
                refine At.done rfl ?_
                exact ⟨_, h, rfl⟩
            · refine At.seg 10 [4] [] (s' := ⟨[(4, .c (.d (.bool false)))], []⟩) (c := True ∧ True ∧ True ∧ True ∧ True) (by kernel_rfl) ⟨trivial, trivial, trivial, trivial, trivial⟩ ?_
              refine At.done rfl ?_
              exact ⟨_, h, rfl⟩
          · refine At.seg 14 [4] [] (s' := ⟨[(4, .c (.d (.bool false)))], []⟩) (c := True ∧ True ∧ True ∧ True ∧ True ∧ True ∧ True) (by kernel_rfl) ⟨trivial, trivial, trivial, trivial, trivial, trivial, trivial⟩ ?_
            refine At.done rfl ?_
            exact ⟨_, h, rfl⟩
      · exact fun x => x.elim

set_option maxRecDepth 100000 in
theorem freshetlaw03_ValueMany_ok {p0 : List Value} {p1 : List Value} {p2 : List Value} {q : Bool} (h : freshetlaw03_ValueMany p0 p1 p2 = some q) :
    Summ Try.prog 8 [.c (.d (.list 3 p0.length (fun i => encValue (p0.getD i default)))), .c (.d (.list 3 p1.length (fun i => encValue (p1.getD i default)))), .c (.d (.list 3 p2.length (fun i => encValue (p2.getD i default))))] [] (.c (.d (.bool q))) [] := by
  refine Summ.intro Try.func8 rfl (by kernel_rfl) (by kernel_rfl) [] rfl ?_
  rintro ⟨P, w0, G0, V, LL, lk, N, φ0, fx⟩ rfl rfl rfl rfl
  unfold freshetlaw03_ValueMany at h
  refine Tri.seqS ?_
  refine Tri.reg ?_
  refine At.seg 1 [0, 1, 2] [] (s' := ⟨[(0, .c (.d (.list 3 p0.length (fun i => encValue (p0.getD i default))))), (1, .c (.d (.list 3 p1.length (fun i => encValue (p1.getD i default))))), (2, .c (.d (.list 3 p2.length (fun i => encValue (p2.getD i default)))))], []⟩) (c := True ∧ True) (by kernel_rfl) ⟨trivial, trivial⟩ ?_
  refine At.done rfl ?_
  show Tri _ _ _ _
  refine Tri.seqS ?_
  refine Tri.seqS ?_
  refine Tri.reg ?_
  obtain ⟨r1, hr1, h⟩ := bind_elim h
  refine At.callA (caps := []) (xs := []) (freshetlaw03_makes_ok hr1) rfl rfl rfl rfl rfl rfl .nil rfl rfl ?_
  refine At.seg 1 [0, 1, 2, 14] [] (s' := ⟨[(0, .c (.d (.list 3 p0.length (fun i => encValue (p0.getD i default))))), (1, .c (.d (.list 3 p1.length (fun i => encValue (p1.getD i default))))), (2, .c (.d (.list 3 p2.length (fun i => encValue (p2.getD i default))))), (14, .c (.d (.bool (!r1))))], []⟩) (c := True ∧ True) (by kernel_rfl) ⟨trivial, trivial⟩ ?_
  refine At.done rfl ?_
  show Tri _ _ _ _
  refine Tri.condP (b := (!r1)) rfl h (fun h => ?_) (fun h => ?_)
  · refine Tri.seqS ?_
    refine Tri.reg ?_
    refine At.seg 1 [6] [] (s' := ⟨[(6, .c (.d (.bool false)))], []⟩) (c := True ∧ True) (by kernel_rfl) ⟨trivial, trivial⟩ ?_
    refine At.done rfl ?_
    show Tri _ _ _ _
    refine Tri.keep [6] [] (s' := ⟨[(6, .c (.d (.bool false)))], []⟩) (by kernel_rfl) ?_
    refine Tri.ret ?_
    cases h
    refine ⟨_, _, rfl, ⟨trivial, trivial⟩, rfl, rfl, ?_⟩
    intro k c h
    cases h
  · refine Tri.skip ?_
    show Tri _ _ _ _
    refine Tri.seqS ?_
    refine Tri.reg ?_
    refine At.seg 3 [0, 1, 2, 16, 17, 18] [] (s' := ⟨[(0, .c (.d (.list 3 p0.length (fun i => encValue (p0.getD i default))))), (1, .c (.d (.list 3 p1.length (fun i => encValue (p1.getD i default))))), (2, .c (.d (.list 3 p2.length (fun i => encValue (p2.getD i default))))), (16, .c (.d (.list 3 p0.length (fun i => encValue (p0.getD i default))))), (17, .c (.d (.list 3 p1.length (fun i => encValue (p1.getD i default))))), (18, .c (.d (.list 3 p2.length (fun i => encValue (p2.getD i default)))))], []⟩) (c := True ∧ True ∧ True ∧ True) (by kernel_rfl) ⟨trivial, trivial, trivial, trivial⟩ ?_
    refine At.one rfl (One.buildSlice (z := [.zero]) (cells := [.d (.list 3 p0.length (fun i => encValue (p0.getD i default))), .d (.list 3 p1.length (fun i => encValue (p1.getD i default))), .d (.list 3 p2.length (fun i => encValue (p2.getD i default)))]) (xs := List.map ((fun xs => [encL 3 encValue xs])) ([p0, p1, p2] : List (List Value))) rfl rfl rfl rfl (by kernel_rfl) rfl rfl (by kernel_rfl) rfl rfl rfl (by kernel_rfl) rfl ⟨⟨rfl, .refl _⟩, ⟨rfl, .refl _⟩, ⟨rfl, .refl _⟩, trivial⟩) ?_
    refine At.le [19] (fun k _ h => by cases h) ⟨[(19, .c (.d (.list 1 ([p0, p1, p2] : List (List Value)).length (fun i => (fun xs => [encL 3 encValue xs]) (([p0, p1, p2] : List (List Value)).getD i default))))), (0, .c (.d (.list 3 p0.length (fun i => encValue (p0.getD i default))))), (1, .c (.d (.list 3 p1.length (fun i => encValue (p1.getD i default))))), (2, .c (.d (.list 3 p2.length (fun i => encValue (p2.getD i default))))), (16, .c (.d (.list 3 p0.length (fun i => encValue (p0.getD i default))))), (17, .c (.d (.list 3 p1.length (fun i => encValue (p1.getD i default))))), (18, .c (.d (.list 3 p2.length (fun i => encValue (p2.getD i default)))))], []⟩ ⟨⟨_, rfl, .c (.own rfl (List.mem_singleton.2 rfl) (Nat.le_of_ble_eq_true rfl) rfl (encs_getD ((fun xs => [encL 3 encValue xs])) ([p0, p1, p2] : List (List Value))))⟩, ⟨_, rfl, .refl _⟩, ⟨_, rfl, .refl _⟩, ⟨_, rfl, .refl _⟩, ⟨_, rfl, .refl _⟩, ⟨_, rfl, .refl _⟩, ⟨_, rfl, .refl _⟩, trivial⟩ trivial ?_
    obtain ⟨r2, hr2, h⟩ := bind_elim h
    refine At.callA (caps := []) (xs := [.c (.d (.list 1 ([p0, p1, p2] : List (List Value)).length (fun i => (fun xs => [encL 3 encValue xs]) (([p0, p1, p2] : List (List Value)).getD i default))))]) (value_Join_ok hr2) rfl rfl rfl rfl rfl rfl (.cons (.refl _) .nil) rfl rfl ?_
    refine At.seg 5 [0, 1, 2, 7, 8] [] (s' := ⟨[(0, .c (.d (.list 3 p0.length (fun i => encValue (p0.getD i default))))), (1, .c (.d (.list 3 p1.length (fun i => encValue (p1.getD i default))))), (2, .c (.d (.list 3 p2.length (fun i => encValue (p2.getD i default))))), (7, .c (.d (.list 3 r2.1.length (fun i => encValue (r2.1.getD i default))))), (8, .c (.d (.int .i64 r2.2)))], []⟩) (c := True ∧ True ∧ True ∧ True ∧ True ∧ True) (by kernel_rfl) ⟨trivial, trivial, trivial, trivial, trivial, trivial⟩ ?_
    refine At.done rfl ?_
    show Tri _ _ _ _
    refine Tri.seqS ?_
    refine Tri.reg ?_
    refine At.seg 2 [2, 7, 8, 24, 25] [] (s' := ⟨[(2, .c (.d (.list 3 p2.length (fun i => encValue (p2.getD i default))))), (7, .c (.d (.list 3 r2.1.length (fun i => encValue (r2.1.getD i default))))), (8, .c (.d (.int .i64 r2.2))), (24, .c (.d (.list 3 p0.length (fun i => encValue (p0.getD i default))))), (25, .c (.d (.list 3 p1.length (fun i => encValue (p1.getD i default)))))], []⟩) (c := True ∧ True ∧ True) (by kernel_rfl) ⟨trivial, trivial, trivial⟩ ?_
    refine At.one rfl (One.buildSlice (z := [.zero]) (cells := [.d (.list 3 p0.length (fun i => encValue (p0.getD i default))), .d (.list 3 p1.length (fun i => encValue (p1.getD i default)))]) (xs := List.map ((fun xs => [encL 3 encValue xs])) ([p0, p1] : List (List Value))) rfl rfl rfl rfl (by kernel_rfl) rfl rfl (by kernel_rfl) rfl rfl rfl (by kernel_rfl) rfl ⟨⟨rfl, .refl _⟩, ⟨rfl, .refl _⟩, trivial⟩) ?_
    refine At.le [26] (fun k _ h => by cases h) ⟨[(26, .c (.d (.list 1 ([p0, p1] : List (List Value)).length (fun i => (fun xs => [encL 3 encValue xs]) (([p0, p1] : List (List Value)).getD i default))))), (2, .c (.d (.list 3 p2.length (fun i => encValue (p2.getD i default))))), (7, .c (.d (.list 3 r2.1.length (fun i => encValue (r2.1.getD i default))))), (8, .c (.d (.int .i64 r2.2))), (24, .c (.d (.list 3 p0.length (fun i => encValue (p0.getD i default))))), (25, .c (.d (.list 3 p1.length (fun i => encValue (p1.getD i default)))))], []⟩ ⟨⟨_, rfl, .c (.own rfl (List.mem_singleton.2 rfl) (Nat.le_of_ble_eq_true rfl) rfl (encs_getD ((fun xs => [encL 3 encValue xs])) ([p0, p1] : List (List Value))))⟩, ⟨_, rfl, .refl _⟩, ⟨_, rfl, .refl _⟩, ⟨_, rfl, .refl _⟩, ⟨_, rfl, .refl _⟩, ⟨_, rfl, .refl _⟩, trivial⟩ trivial ?_
    obtain ⟨r3, hr3, h⟩ := bind_elim h
    refine At.callA (caps := []) (xs := [.c (.d (.list 1 ([p0, p1] : List (List Value)).length (fun i => (fun xs => [encL 3 encValue xs]) (([p0, p1] : List (List Value)).getD i default))))]) (value_Join_ok hr3) rfl rfl rfl rfl rfl rfl (.cons (.refl _) .nil) rfl rfl ?_
    refine At.seg 5 [2, 7, 8, 9, 10] [] (s' := ⟨[(2, .c (.d (.list 3 p2.length (fun i => encValue (p2.getD i default))))), (7, .c (.d (.list 3 r2.1.length (fun i => encValue (r2.1.getD i default))))), (8, .c (.d (.int .i64 r2.2))), (9, .c (.d (.list 3 r3.1.length (fun i => encValue (r3.1.getD i default))))), (10, .c (.d (.int .i64 r3.2)))], []⟩) (c := True ∧ True ∧ True ∧ True ∧ True ∧ True) (by kernel_rfl) ⟨trivial, trivial, trivial, trivial, trivial, trivial⟩ ?_
    refine At.done rfl ?_
    show Tri _ _ _ _
    refine Tri.seqS ?_
    refine Tri.seqS ?_
    refine Tri.reg ?_
    refine At.seg 2 [2, 7, 8, 9, 31] [] (s' := ⟨[(2, .c (.d (.list 3 p2.length (fun i => encValue (p2.getD i default))))), (7, .c (.d (.list 3 r2.1.length (fun i => encValue (r2.1.getD i default))))), (8, .c (.d (.int .i64 r2.2))), (9, .c (.d (.list 3 r3.1.length (fun i => encValue (r3.1.getD i default))))), (31, .c (.d (.bool (!decide (r3.2 = 0)))))], []⟩) (c := True ∧ True ∧ True) (by kernel_rfl) ⟨trivial, trivial, trivial⟩ ?_
    refine At.done rfl ?_
    show Tri _ _ _ _
    refine Tri.condP (b := (!decide (r3.2 = 0))) rfl h (fun h => ?_) (fun h => ?_)
    · refine Tri.seqS ?_
      refine Tri.reg ?_
      refine At.seg 3 [6] [] (s' := ⟨[(6, .c (.d (.bool (!decide (r2.2 = 0)))))], []⟩) (c := True ∧ True ∧ True ∧ True) (by kernel_rfl) ⟨trivial, trivial, trivial, trivial⟩ ?_
      refine At.done rfl ?_
      show Tri _ _ _ _
      refine Tri.keep [6] [] (s' := ⟨[(6, .c (.d (.bool (!decide (r2.2 = 0)))))], []⟩) (by kernel_rfl) ?_
      refine Tri.ret ?_
      cases h
      refine ⟨_, _, rfl, ⟨trivial, trivial⟩, rfl, rfl, ?_⟩
      intro k c h
      cases h
    · refine Tri.skip ?_
      show Tri _ _ _ _
      refine Tri.seqS ?_
      refine Tri.reg ?_
      refine At.seg 2 [7, 8, 35, 36] [] (s' := ⟨[(7, .c (.d (.list 3 r2.1.length (fun i => encValue (r2.1.getD i default))))), (8, .c (.d (.int .i64 r2.2))), (35, .c (.d (.list 3 r3.1.length (fun i => encValue (r3.1.getD i default))))), (36, .c (.d (.list 3 p2.length (fun i => encValue (p2.getD i default)))))], []⟩) (c := True ∧ True ∧ True) (by kernel_rfl) ⟨trivial, trivial, trivial⟩ ?_
      refine At.one rfl (One.buildSlice (z := [.zero]) (cells := [.d (.list 3 r3.1.length (fun i => encValue (r3.1.getD i default))), .d (.list 3 p2.length (fun i => encValue (p2.getD i default)))]) (xs := List.map ((fun xs => [encL 3 encValue xs])) ([r3.1, p2] : List (List Value))) rfl rfl rfl rfl (by kernel_rfl) rfl rfl (by kernel_rfl) rfl rfl rfl (by kernel_rfl) rfl ⟨⟨rfl, .refl _⟩, ⟨rfl, .refl _⟩, trivial⟩) ?_
      refine At.le [37] (fun k _ h => by cases h) ⟨[(37, .c (.d (.list 1 ([r3.1, p2] : List (List Value)).length (fun i => (fun xs => [encL 3 encValue xs]) (([r3.1, p2] : List (List Value)).getD i default))))), (7, .c (.d (.list 3 r2.1.length (fun i => encValue (r2.1.getD i default))))), (8, .c (.d (.int .i64 r2.2))), (35, .c (.d (.list 3 r3.1.length (fun i => encValue (r3.1.getD i default))))), (36, .c (.d (.list 3 p2.length (fun i => encValue (p2.getD i default)))))], []⟩ ⟨⟨_, rfl, .c (.own rfl (List.mem_singleton.2 rfl) (Nat.le_of_ble_eq_true rfl) rfl (encs_getD ((fun xs => [encL 3 encValue xs])) ([r3.1, p2] : List (List Value))))⟩, ⟨_, rfl, .refl _⟩, ⟨_, rfl, .refl _⟩, ⟨_, rfl, .refl _⟩, ⟨_, rfl, .refl _⟩, trivial⟩ trivial ?_
      obtain ⟨r4, hr4, h⟩ := bind_elim h
      refine At.callA (caps := []) (xs := [.c (.d (.list 1 ([r3.1, p2] : List (List Value)).length (fun i => (fun xs => [encL 3 encValue xs]) (([r3.1, p2] : List (List Value)).getD i default))))]) (value_Join_ok hr4) rfl rfl rfl rfl rfl rfl (.cons (.refl _) .nil) rfl rfl ?_
      refine At.seg 5 [7, 8, 11, 12] [] (s' := ⟨[(7, .c (.d (.list 3 r2.1.length (fun i => encValue (r2.1.getD i default))))), (8, .c (.d (.int .i64 r2.2))), (11, .c (.d (.list 3 r4.1.length (fun i => encValue (r4.1.getD i default))))), (12, .c (.d (.int .i64 r4.2)))], []⟩) (c := True ∧ True ∧ True ∧ True ∧ True ∧ True) (by kernel_rfl) ⟨trivial, trivial, trivial, trivial, trivial, trivial⟩ ?_
      refine At.done rfl ?_
      show Tri _ _ _ _
      refine Tri.seqJ (fun (a5 : Bool) => ⟨[(6, .c (.d (.bool a5)))], []⟩) h (fun a5 h => ?_) (fun j6 h => ?_)
      · show Tri _ _ ⟨[(6, .c (.d (.bool a5)))], []⟩ _
        refine Tri.keep [6] [] (s' := ⟨[(6, .c (.d (.bool a5)))], []⟩) (by kernel_rfl) ?_
        refine Tri.ret ?_
        cases h
        refine ⟨_, _, rfl, ⟨trivial, trivial⟩, rfl, rfl, ?_⟩
        intro k c h
        cases h
      · refine Tri.reg ?_
        refine At.seg 4 [7, 11, 44] [] (s' := ⟨[(7, .c (.d (.list 3 r2.1.length (fun i => encValue (r2.1.getD i default))))), (11, .c (.d (.list 3 r4.1.length (fun i => encValue (r4.1.getD i default))))), (44, .c (.d (.bool (decide (r2.2 = r4.2)))))], []⟩) (c := True ∧ True ∧ True ∧ True ∧ True) (by kernel_rfl) ⟨trivial, trivial, trivial, trivial, trivial⟩ ?_
        refine At.case (fun b => ⟨[(7, .c (.d (.list 3 r2.1.length (fun i => encValue (r2.1.getD i default))))), (11, .c (.d (.list 3 r4.1.length (fun i => encValue (r4.1.getD i default))))), (44, .c (.d (.bool b)))], []⟩) (b := (decide (r2.2 = r4.2))) h (fun h => ?_) (fun h => ?_)
        · refine At.seg 2 [44, 45, 46] [] (s' := ⟨[(44, .c (.d (.bool true))), (45, .c (.d (.list 3 r2.1.length (fun i => encValue (r2.1.getD i default))))), (46, .c (.d (.list 3 r4.1.length (fun i => encValue (r4.1.getD i default)))))], []⟩) (c := True ∧ True ∧ True) (by kernel_rfl) ⟨trivial, trivial, trivial⟩ ?_
          obtain ⟨r7, hr7, h⟩ := bind_elim h
          refine At.callA (caps := []) (xs := [.c (.d (.list 3 r2.1.length (fun i => encValue (r2.1.getD i default)))), .c (.d (.list 3 r4.1.length (fun i => encValue (r4.1.getD i default))))]) (freshetref03_Same_ok hr7) rfl rfl rfl rfl rfl rfl (.cons (.refl _) (.cons (.refl _) .nil)) rfl rfl ?_
          refine At.seg 2 [6] [] (s' := ⟨[(6, .c (.d (.bool r7)))], []⟩) (c := True ∧ True ∧ True) (by kernel_rfl) ⟨trivial, trivial, trivial⟩ ?_
          refine At.done rfl ?_
          exact ⟨_, h, rfl⟩
        · refine At.seg 5 [6] [] (s' := ⟨[(6, .c (.d (.bool false)))], []⟩) (c := True ∧ True ∧ True) (by kernel_rfl) ⟨trivial, trivial, trivial⟩ ?_
          refine At.done rfl ?_
          exact ⟨_, h, rfl⟩

end Go.Av