import Derived.Test.YtemaompodlpdjaaL9a3
import Derived.Test.YtemaompodlpdjaaProg
namespace Go.Av
open Go Go.Proofs
set_option linter.unusedVariables false
set_option linter.unusedSimpArgs false
set_option maxRecDepth 100000 in
theorem value_right_ok {p0 : Value} {q : Bool} (h : value_right p0 = some q) :
    Summ Try.prog 67 [.agg (cValue p0)] [] (cD (.bool q)) [] := by
  refine Summ.intro Try.func67 rfl (by kernel_rfl) (by kernel_rfl) [] rfl ?_
  rintro ⟨P, w0, G0, V, LL, lk, N, φ0, fx⟩ rfl rfl rfl rfl
  unfold value_right at h
  refine Tri.segL [1] [1] ⟨[(1, .c (.ptr 1 0))], [(1, .box (cValue p0))]⟩ (allT 2) (by kernel_rfl) (allT_ok 2) ?_
  refine Tri.seqS ?_
  refine Tri.segL [1, 4] [1] ⟨[(1, .c (.ptr 1 0)), (4, cD (.bool p0.isText))], [(1, .box (cValue p0))]⟩ (allT 2) (by kernel_rfl) (allT_ok 2) ?_
  refine Tri.condP (b := p0.isText) rfl h (fun h => ?_) (fun h => ?_)
  ·refine Tri.seqJ (fun (a1 : Bool) => ⟨[(2, cD (.bool a1))], []⟩) h (fun a1 h => ?_) (fun j2 h => ?_)
   ·show Tri _ _ ⟨[(2, cD (.bool a1))], []⟩ _
    refine Tri.keep [2] [] (s' := ⟨[(2, cD (.bool a1))], []⟩) (by kernel_rfl) ?_
    refine Tri.ret ?_
    cases h
    refine ⟨_, _, rfl, ⟨trivial, trivial⟩, rfl, rfl, ?_⟩
    intro k c h
    cases h
   ·refine Tri.reg ?_
    refine At.seg 4 [1, 8] [1] (s' := ⟨[(1, .c (.ptr 1 0)), (8, cD (.bool (decide (p0.n = 0))))], [(1, .box (cValue p0))]⟩) (c := True ∧ True ∧ True ∧ True ∧ True) (by kernel_rfl) ⟨trivial, trivial, trivial, trivial, trivial⟩ ?_
    refine At.case (fun b => ⟨[(1, .c (.ptr 1 0)), (8, cD (.bool b))], [(1, .box (cValue p0))]⟩) (b := (decide (p0.n = 0))) h (fun h => ?_) (fun h => ?_)
    ·refine At.seg 6 [2] [] (s' := ⟨[(2, cD (.bool (decide ((p0.s.size : Int) ≤ 64))))], []⟩) (c := True ∧ True ∧ True ∧ True ∧ True ∧ True ∧ True) (by kernel_rfl) ⟨trivial, trivial, trivial, trivial, trivial, trivial, trivial⟩ ?_
     refine At.done rfl ?_
     exact ⟨_, h, rfl⟩
    ·refine At.seg 6 [2] [] (s' := ⟨[(2, cD (.bool false))], []⟩) (c := True ∧ True ∧ True) (by kernel_rfl) ⟨trivial, trivial, trivial⟩ ?_
     refine At.done rfl ?_
     exact ⟨_, h, rfl⟩
  ·refine Tri.skip ?_
   show Tri _ _ _ _
   refine Tri.segC [2] [] (allT 4) (by kernel_rfl) (by kernel_rfl) (allT_ok 4) ?_
   refine Tri.keep [2] [] (s' := ⟨[(2, cD (.bool (strEq p0.s (bs []))))], []⟩) (by kernel_rfl) ?_
   refine Tri.ret ?_
   cases h
   refine ⟨_, _, rfl, ⟨trivial, trivial⟩, rfl, rfl, ?_⟩
   intro k c h
   cases h
set_option maxRecDepth 100000 in
theorem value_Check_1_ok {p0 : Value} {q : Bool} (h : value_Check_1 p0 = some q) :
    Summ Try.prog 66 [.agg (cValue p0)] [] (cD (.bool q)) [] := by
  refine Summ.intro Try.func66 rfl (by kernel_rfl) (by kernel_rfl) [] rfl ?_
  rintro ⟨P, w0, G0, V, LL, lk, N, φ0, fx⟩ rfl rfl rfl rfl
  unfold value_Check_1 at h
  refine Tri.segL [1] [1] ⟨[(1, .c (.ptr 1 0))], [(1, .box (cValue p0))]⟩ (allT 2) (by kernel_rfl) (allT_ok 2) ?_
  refine Tri.seqS ?_
  refine Tri.reg ?_
  refine At.seg 1 [3] [] (s' := ⟨[(3, .agg (cValue p0))], []⟩) (c := True ∧ True) (by kernel_rfl) ⟨trivial, trivial⟩ ?_
  obtain ⟨r1, hr1, h⟩ := bind_elim h
  refine At.callA (caps := []) (xs := [.agg (cValue p0)]) (value_right_ok hr1) rfl rfl rfl rfl rfl rfl (.cons (.refl _) .nil) rfl rfl ?_
  refine At.seg 2 [2] [] (s' := ⟨[(2, cD (.bool (!r1)))], []⟩) (c := True ∧ True ∧ True) (by kernel_rfl) ⟨trivial, trivial, trivial⟩ ?_
  refine At.done rfl ?_
  show Tri _ _ _ _
  refine Tri.keep [2] [] (s' := ⟨[(2, cD (.bool (!r1)))], []⟩) (by kernel_rfl) ?_
  refine Tri.ret ?_
  cases h
  refine ⟨_, _, rfl, ⟨trivial, trivial⟩, rfl, rfl, ?_⟩
  intro k c h
  cases h
set_option maxRecDepth 100000 in
theorem slices_IndexFuncfreshet_api_Value_freshet_api_Value_Value__value_Check_1_ok {p0 : List Value} {q : Int} (h : slices_IndexFuncfreshet_api_Value_freshet_api_Value_Value__value_Check_1 p0 = some q) :
    Summ Try.prog 82 [cD (lD 3 encValue p0), cD (.fn 66 [])] [] (cD (dI q)) [] := by
  refine Summ.intro Try.func82 rfl (by kernel_rfl) (by kernel_rfl) [] rfl ?_
  rintro ⟨P, w0, G0, V, LL, lk, N, φ0, fx⟩ rfl rfl rfl rfl
  unfold slices_IndexFuncfreshet_api_Value_freshet_api_Value_Value__value_Check_1 at h
  refine Tri.segL [0, 1] [] ⟨[(0, cD (lD 3 encValue p0)), (1, cD (.fn 66 []))], []⟩ (allT 1) (by kernel_rfl) (allT_ok 1) ?_
  refine Tri.seqS ?_
  refine Tri.segL [0, 1, 7, 8] [] ⟨[(0, cD (lD 3 encValue p0)), (1, cD (.fn 66 [])), (7, cD (dI (p0.length : Int))), (8, cD (dI 0))], []⟩ (allT 3) (by kernel_rfl) (allT_ok 3) ?_
  refine Tri.lenOf (t := 0) rfl fun hlena2 => ?_
  refine Tri.keep [8, 0, 1, 7] [] (s' := idx 8 0 ⟨[(0, cD (lD 3 encValue p0)), (1, cD (.fn 66 [])), (7, cD (dI (p0.length : Int)))], []⟩) (by kernel_rfl) ?_
  refine Tri.range (n := p0.length) (st0 := ()) (fun (x : Int) s => RetAt Try.prog Try.f82 (cD (dI x)) [] s) (fun (a2 : Unit) => ⟨[(0, cD (lD 3 encValue p0)), (1, cD (.fn 66 [])), (7, cD (dI (p0.length : Int)))], []⟩) (fun (a2 : Unit) => ⟨[(0, cD (lD 3 encValue p0)), (1, cD (.fn 66 [])), (7, cD (dI (p0.length : Int)))], []⟩) (fun i => decide ((i : Int) < (p0.length : Int))) [9, 8, 0, 1, 7] [] [0, 1, 7] [] [8, 0, 1, 7] [] h hlena2 rfl ?_ ?_ ?_ ?_ ?_ ?_ ?_ ?_
  · exact fun i a => ⟨True ∧ True, by kernel_rfl, ⟨trivial, trivial⟩⟩
  · exact fun i hi => decide_eq_true (by omega)
  · exact decide_eq_false (by omega)
  · exact fun a => by kernel_rfl
  · exact fun i a => ⟨True ∧ True ∧ True, by kernel_rfl, ⟨trivial, trivial, trivial⟩⟩
  ·intro i1 a2 c hii1 h
   refine Tri.segL [0, 1, 5, 7, 8] [] ⟨[(0, cD (lD 3 encValue p0)), (1, cD (.fn 66 [])), (5, cD (dI ((i1 : Nat) : Int))), (7, cD (dI (p0.length : Int))), (8, cD (dI ((i1 : Nat) : Int)))], []⟩ (allT 2) (by kernel_rfl) (allT_ok 2) ?_
   refine Tri.seqS ?_
   refine Tri.reg ?_
   refine At.seg 5 [0, 1, 5, 7, 8, 11, 15] [] (s' := ⟨[(0, cD (lD 3 encValue p0)), (1, cD (.fn 66 [])), (5, cD (dI ((i1 : Nat) : Int))), (7, cD (dI (p0.length : Int))), (8, cD (dI ((i1 : Nat) : Int))), (11, cD (.fn 66 [])), (15, .agg (cValue (p0.getD i1 default)))], []⟩) (c := True ∧ True ∧ True ∧ ((0 : Int) ≤ ((i1 : Nat) : Int) ∧ ((i1 : Nat) : Int) < (p0.length : Int)) ∧ True ∧ True) (by kernel_rfl) ⟨trivial, trivial, trivial, ⟨by omega, by omega⟩, trivial, trivial⟩ ?_
   obtain ⟨r4, hr4, h⟩ := bind_elim h
   refine At.callA (caps := []) (xs := [.agg (cValue (p0.getD i1 default))]) (value_Check_1_ok hr4) rfl rfl rfl rfl rfl rfl (.cons (.refl _) .nil) rfl rfl ?_
   refine At.done rfl ?_
   show Tri _ _ _ _
   refine Tri.condP (b := r4) rfl h (fun h => ?_) (fun h => ?_)
   ·refine Tri.segC [4] [] (allT 2) (by kernel_rfl) (by kernel_rfl) (allT_ok 2) ?_
    refine Tri.keep [4] [] (s' := ⟨[(4, cD (dI ((i1 : Nat) : Int)))], []⟩) (by kernel_rfl) ?_
    refine Tri.ret ?_
    cases h
    refine ⟨_, _, rfl, ⟨trivial, trivial⟩, rfl, rfl, ?_⟩
    intro k c h
    cases h
   ·refine Tri.keep [8, 0, 1, 7] [] (s' := ⟨[(8, cD (dI ((i1 : Nat) : Int))), (0, cD (lD 3 encValue p0)), (1, cD (.fn 66 [])), (7, cD (dI (p0.length : Int)))], []⟩) (by kernel_rfl) ?_
    refine Tri.skip ?_
    cases h
    exact rfl
  ·intro a3 h
   show Tri _ _ _ _
   refine Tri.segC [4] [] (allT 1) (by kernel_rfl) (by kernel_rfl) (allT_ok 1) ?_
   refine Tri.keep [4] [] (s' := ⟨[(4, cD (dI (-1)))], []⟩) (by kernel_rfl) ?_
   refine Tri.ret ?_
   cases h
   refine ⟨_, _, rfl, ⟨trivial, trivial⟩, rfl, rfl, ?_⟩
   intro k c h
   cases h
  · exact fun x s hx hr => by cases hx; exact hr
set_option maxRecDepth 100000 in
theorem slices_ContainsFuncfreshet_api_Value_freshet_api_Value_Value__value_Check_1_ok {p0 : List Value} {q : Bool} (h : slices_ContainsFuncfreshet_api_Value_freshet_api_Value_Value__value_Check_1 p0 = some q) :
    Summ Try.prog 65 [cD (lD 3 encValue p0), cD (.fn 66 [])] [] (cD (.bool q)) [] := by
  refine Summ.intro Try.func65 rfl (by kernel_rfl) (by kernel_rfl) [] rfl ?_
  rintro ⟨P, w0, G0, V, LL, lk, N, φ0, fx⟩ rfl rfl rfl rfl
  unfold slices_ContainsFuncfreshet_api_Value_freshet_api_Value_Value__value_Check_1 at h
  refine Tri.segL [0, 1] [] ⟨[(0, cD (lD 3 encValue p0)), (1, cD (.fn 66 []))], []⟩ (allT 1) (by kernel_rfl) (allT_ok 1) ?_
  refine Tri.seqS ?_
  refine Tri.reg ?_
  refine At.seg 2 [5, 6] [] (s' := ⟨[(5, cD (lD 3 encValue p0)), (6, cD (.fn 66 []))], []⟩) (c := True ∧ True ∧ True) (by kernel_rfl) ⟨trivial, trivial, trivial⟩ ?_
  obtain ⟨r1, hr1, h⟩ := bind_elim h
  refine At.callA (caps := []) (xs := [cD (lD 3 encValue p0), cD (.fn 66 [])]) (slices_IndexFuncfreshet_api_Value_freshet_api_Value_Value__value_Check_1_ok hr1) rfl rfl rfl rfl rfl rfl (.cons (.refl _) (.cons (.refl _) .nil)) rfl rfl ?_
  refine At.seg 2 [4] [] (s' := ⟨[(4, cD (.bool (decide (0 ≤ r1))))], []⟩) (c := True ∧ True ∧ True) (by kernel_rfl) ⟨trivial, trivial, trivial⟩ ?_
  refine At.done rfl ?_
  show Tri _ _ _ _
  refine Tri.keep [4] [] (s' := ⟨[(4, cD (.bool (decide (0 ≤ r1))))], []⟩) (by kernel_rfl) ?_
  refine Tri.ret ?_
  cases h
  refine ⟨_, _, rfl, ⟨trivial, trivial⟩, rfl, rfl, ?_⟩
  intro k c h
  cases h
set_option maxRecDepth 100000 in
theorem value_Check_ok {p0 : List Value} {q : Int} (h : value_Check p0 = some q) :
    Summ Try.prog 46 [cD (lD 3 encValue p0)] [] (cD (dI q)) [] := by
  refine Summ.intro Try.func46 rfl (by kernel_rfl) (by kernel_rfl) [] rfl ?_
  rintro ⟨P, w0, G0, V, LL, lk, N, φ0, fx⟩ rfl rfl rfl rfl
  unfold value_Check at h
  refine Tri.segL [0] [] ⟨[(0, cD (lD 3 encValue p0))], []⟩ (allT 1) (by kernel_rfl) (allT_ok 1) ?_
  refine Tri.seqS ?_
  refine Tri.seqJ (fun (a1 : Bool) => ⟨[(9, cD (.bool a1))], []⟩) h (fun a1 h => ?_) (fun j2 h => ?_)
  ·show Tri _ _ ⟨[(9, cD (.bool a1))], []⟩ _
   refine Tri.condP (b := a1) rfl h (fun h => ?_) (fun h => ?_)
   ·refine Tri.segC [2] [] (allT 1) (by kernel_rfl) (by kernel_rfl) (allT_ok 1) ?_
    refine Tri.keep [2] [] (s' := ⟨[(2, cD (dI 4))], []⟩) (by kernel_rfl) ?_
    refine Tri.ret ?_
    cases h
    refine ⟨_, _, rfl, ⟨trivial, trivial⟩, rfl, rfl, ?_⟩
    intro k c h
    cases h
   ·refine Tri.skip ?_
    show Tri _ _ _ _
    refine Tri.segC [2] [] (allT 1) (by kernel_rfl) (by kernel_rfl) (allT_ok 1) ?_
    refine Tri.keep [2] [] (s' := ⟨[(2, cD (dI 0))], []⟩) (by kernel_rfl) ?_
    refine Tri.ret ?_
    cases h
    refine ⟨_, _, rfl, ⟨trivial, trivial⟩, rfl, rfl, ?_⟩
    intro k c h
    cases h
  ·refine Tri.reg ?_
   refine At.seg 4 [0, 6] [] (s' := ⟨[(0, cD (lD 3 encValue p0)), (6, cD (.bool (decide (8 < (p0.length : Int)))))], []⟩) (c := True ∧ True ∧ True ∧ True ∧ True) (by kernel_rfl) ⟨trivial, trivial, trivial, trivial, trivial⟩ ?_
   refine At.case (fun b => ⟨[(0, cD (lD 3 encValue p0)), (6, cD (.bool b))], []⟩) (b := (decide (8 < (p0.length : Int)))) h (fun h => ?_) (fun h => ?_)
   ·refine At.seg 3 [9] [] (s' := ⟨[(9, cD (.bool true))], []⟩) (c := True ∧ True) (by kernel_rfl) ⟨trivial, trivial⟩ ?_
    refine At.done rfl ?_
    exact ⟨_, h, rfl⟩
   ·refine At.seg 1 [6, 7] [] (s' := ⟨[(6, cD (.bool false)), (7, cD (lD 3 encValue p0))], []⟩) (c := True ∧ True) (by kernel_rfl) ⟨trivial, trivial⟩ ?_
    obtain ⟨r3, hr3, h⟩ := bind_elim h
    refine At.callA (caps := []) (xs := [cD (lD 3 encValue p0), cD (.fn 66 [])]) (slices_ContainsFuncfreshet_api_Value_freshet_api_Value_Value__value_Check_1_ok hr3) rfl rfl rfl rfl rfl rfl (.cons (.refl _) (.cons (.refl _) .nil)) rfl rfl ?_
    refine At.seg 1 [9] [] (s' := ⟨[(9, cD (.bool r3))], []⟩) (c := True ∧ True) (by kernel_rfl) ⟨trivial, trivial⟩ ?_
    refine At.done rfl ?_
    exact ⟨_, h, rfl⟩
set_option maxRecDepth 100000 in
theorem slices_Maxuint64_uint64_uint64_ok_v0 {fuel : Nat} {p0 : List Int} {q : Int} (h : slices_Maxuint64_uint64_uint64 fuel p0 = some q) :
    Summ Try.prog 68 [.c (wC 1 (encInt .u64) p0)] [] (cD (dU q)) [] := by
  refine Summ.intro Try.func68 rfl (by kernel_rfl) (by kernel_rfl) [] rfl ?_
  rintro ⟨P, w0, G0, V, LL, lk, N, φ0, fx⟩ rfl rfl rfl rfl
  unfold slices_Maxuint64_uint64_uint64 at h
  refine Tri.segL [0] [] ⟨[(0, .c (wC 1 (encInt .u64) p0))], []⟩ (allT 1) (by kernel_rfl) (allT_ok 1) ?_
  refine Tri.seqS ?_
  refine Tri.segL [0, 7] [] ⟨[(0, .c (wC 1 (encInt .u64) p0)), (7, cD (.bool (decide ((p0.length : Int) < 1))))], []⟩ (allT 3) (by kernel_rfl) (allT_ok 3) ?_
  refine Tri.condP (b := (decide ((p0.length : Int) < 1))) rfl h (fun h => ?_) (fun h => ?_)
  ·refine Tri.reg ?_
   cases h
  ·refine Tri.skip ?_
   show Tri _ _ _ _
   obtain ⟨hc1, h⟩ := need_elim h
   refine Tri.segL [0, 3] [] ⟨[(0, .c (wC 1 (encInt .u64) p0)), (3, cD (dU (p0.getD 0 default)))], []⟩ (True ∧ ((0 : Int) ≤ 0 ∧ 0 < (p0.length : Int)) ∧ True ∧ True ∧ True) (by kernel_rfl) ⟨trivial, hc1, trivial, trivial, trivial⟩ ?_
   refine Tri.seqS ?_
   refine Tri.segC [0, 3, 4] [] (allT 1) (by kernel_rfl) (by kernel_rfl) (allT_ok 1) ?_
   refine Tri.keep [0, 3, 4] [] (s' := ⟨[(0, .c (wC 1 (encInt .u64) p0)), (3, cD (dU (p0.getD 0 default))), (4, cD (dI 1))], []⟩) (by kernel_rfl) ?_
   refine Tri.loopK (fuel := fuel) (st0 := ((p0.getD 0 default), 1)) (fun (x : Empty) s => False) (fun (a2 : Int × Int) => ⟨[(0, .c (wC 1 (encInt .u64) p0)), (3, cD (dU a2.1)), (4, cD (dI a2.2))], []⟩) (fun (a2 : Int × Int) => ⟨[(0, .c (wC 1 (encInt .u64) p0)), (3, cD (dU a2.1)), (4, cD (dI a2.2))], []⟩) h ?_ ?_ ?_
   ·intro a2 c h
    show Tri _ _ ⟨[(0, .c (wC 1 (encInt .u64) p0)), (3, cD (dU a2.1)), (4, cD (dI a2.2))], []⟩ _
    refine Tri.seqS ?_
    refine Tri.segL [0, 3, 4, 15] [] ⟨[(0, .c (wC 1 (encInt .u64) p0)), (3, cD (dU a2.1)), (4, cD (dI a2.2)), (15, cD (.bool (decide (a2.2 < (p0.length : Int)))))], []⟩ (allT 4) (by kernel_rfl) (allT_ok 4) ?_
    refine Tri.condP (b := (decide (a2.2 < (p0.length : Int)))) rfl h (fun h => ?_) (fun h => ?_)
    ·refine Tri.skip ?_
     show Tri _ _ _ _
     refine Tri.seqS ?_
     refine Tri.blockB ?_
     refine Tri.reg ?_
     obtain ⟨hc4, h⟩ := need_elim h
     refine At.seg 7 [0, 3, 4] [] (s' := ⟨[(0, .c (wC 1 (encInt .u64) p0)), (3, cD (dU (if a2.1 < (p0.getD a2.2.toNat default) then (p0.getD a2.2.toNat default) else a2.1))), (4, cD (dI a2.2))], []⟩) (c := True ∧ True ∧ True ∧ ((0 : Int) ≤ a2.2 ∧ a2.2 < (p0.length : Int)) ∧ True ∧ True ∧ True ∧ True) (by kernel_rfl) ⟨trivial, trivial, trivial, hc4, trivial, trivial, trivial, trivial⟩ ?_
     refine At.done rfl ?_
     show Tri _ _ _ _
     refine Tri.reg ?_
     refine At.seg 3 [0, 3, 4] [] (s' := ⟨[(0, .c (wC 1 (encInt .u64) p0)), (3, cD (dU (if a2.1 < (p0.getD a2.2.toNat default) then (p0.getD a2.2.toNat default) else a2.1))), (4, cD (dI (IntKind.i64.wrap (a2.2 + 1))))], []⟩) (c := True ∧ True ∧ True ∧ True) (by kernel_rfl) ⟨trivial, trivial, trivial, trivial⟩ ?_
     refine At.done rfl ?_
     cases h
     exact rfl
    ·refine Tri.keep [0, 3, 4] [] (s' := ⟨[(0, .c (wC 1 (encInt .u64) p0)), (3, cD (dU a2.1)), (4, cD (dI a2.2))], []⟩) (by kernel_rfl) ?_
     refine Tri.exit ?_
     cases h
     exact ⟨rfl, rfl⟩
   ·intro a3 h
    show Tri _ _ _ _
    refine Tri.segC [2] [] (allT 2) (by kernel_rfl) (by kernel_rfl) (allT_ok 2) ?_
    refine Tri.keep [2] [] (s' := ⟨[(2, cD (dU a3.1))], []⟩) (by kernel_rfl) ?_
    refine Tri.ret ?_
    cases h
    refine ⟨_, _, rfl, ⟨trivial, trivial⟩, rfl, rfl, ?_⟩
    intro k c h
    cases h
   · exact fun x => x.elim
set_option maxRecDepth 100000 in
theorem moment_Check_ok_v0 {fuel : Nat} {p0 : List Time} {q : Int} (h : moment_Check fuel p0 = some q) :
    Summ Try.prog 47 [.c (wC 3 encTime p0)] [] (cD (dI q)) [] := by
  refine Summ.intro Try.func47 rfl (by kernel_rfl) (by kernel_rfl) [] rfl ?_
  rintro ⟨P, w0, G0, V, LL, lk, N, φ0, fx⟩ rfl rfl rfl rfl
  unfold moment_Check at h
  refine Tri.segL [0] [] ⟨[(0, .c (wC 3 encTime p0))], []⟩ (allT 1) (by kernel_rfl) (allT_ok 1) ?_
  refine Tri.seqS ?_
  refine Tri.segL [5, 6, 7] [] ⟨[(5, .c (wC 3 encTime p0)), (6, cD (dI (p0.length : Int))), (7, cD (dI 0))], []⟩ (allT 3) (by kernel_rfl) (allT_ok 3) ?_
  refine Tri.lenOfV (t := 5) rfl fun hlena2 => ?_
  refine Tri.keep [7, 5, 6] [] (s' := idx 7 0 ⟨[(5, .c (wC 3 encTime p0)), (6, cD (dI (p0.length : Int)))], []⟩) (by kernel_rfl) ?_
  refine Tri.range (n := p0.length) (st0 := ()) (fun (x : Int) s => RetAt Try.prog Try.f47 (cD (dI x)) [] s) (fun (a2 : Unit) => ⟨[(5, .c (wC 3 encTime p0)), (6, cD (dI (p0.length : Int)))], []⟩) (fun (a2 : Unit) => ⟨[(5, .c (wC 3 encTime p0)), (6, cD (dI (p0.length : Int)))], []⟩) (fun i => decide ((i : Int) < (p0.length : Int))) [8, 7, 5, 6] [] [5, 6] [] [7, 5, 6] [] h hlena2 rfl ?_ ?_ ?_ ?_ ?_ ?_ ?_ ?_
  · exact fun i a => ⟨True ∧ True, by kernel_rfl, ⟨trivial, trivial⟩⟩
  · exact fun i hi => decide_eq_true (by omega)
  · exact decide_eq_false (by omega)
  · exact fun a => by kernel_rfl
  · exact fun i a => ⟨True ∧ True ∧ True, by kernel_rfl, ⟨trivial, trivial, trivial⟩⟩
  ·intro i1 a2 c hii1 h
   refine Tri.segL [4, 5, 6, 7] [4] ⟨[(4, .c (.ptr 4 0)), (5, .c (wC 3 encTime p0)), (6, cD (dI (p0.length : Int))), (7, cD (dI ((i1 : Nat) : Int)))], [(4, .box (cTime (p0.getD i1 default)))]⟩ (((0 : Int) ≤ ((i1 : Nat) : Int) ∧ ((i1 : Nat) : Int) < (p0.length : Int)) ∧ True ∧ True ∧ True ∧ True) (by kernel_rfl) ⟨⟨by omega, by omega⟩, trivial, trivial, trivial, trivial⟩ ?_
   refine Tri.seqS ?_
   obtain ⟨r4, hr4, h⟩ := bind_elim h
   refine Tri.drawnS (s' := ⟨[(5, .c (wC 3 encTime p0)), (6, cD (dI (p0.length : Int))), (7, cD (dI ((i1 : Nat) : Int))), (17, cD (.bool (decide (4611686018427387904 < (if (p0.getD i1 default).epoch < r4 then r4 else (p0.getD i1 default).epoch)))))], []⟩) (cs := True ∧ True ∧ True ∧ (((0 : Int) ≤ 0 ∧ (0 : Int) ≤ 2 ∧ (2 : Int) ≤ 2) ∧ (0 : Int) < 2) ∧ True ∧ True ∧ True) [.a [4] [], .a [11] [4], .a [4] [], .a [13] [4], .m ⟨[(14, .c (.bsl 4 1 1 2))], [(4, .box (cTime (p0.getD i1 default)))]⟩ ⟨[(15, cD (dU r4))], []⟩ [] [] [], .a [12, 15] [], .a [16] []] [[], [0], [], [2], [2, 3], [0, 1, 2, 3, 4], [0, 1, 2, 3, 4, 5]] [5, 6, 7, 17] [] (by kernel_rfl) (by kernel_rfl) (by kernel_rfl) (by kernel_rfl) (by kernel_rfl) ⟨trivial, trivial, trivial, ⟨⟨by decide, by decide, by decide⟩, by decide⟩, trivial, trivial, trivial⟩ (.a (.a (.a (.a (.m ?_ (.a (.a .z))))))) (by kernel_rfl) ?_
   · exact DOk.callA (caps := []) (xs := [.c (.bsl 4 1 1 2)]) (slices_Maxuint64_uint64_uint64_ok_v0 hr4) rfl (fun r => by kernel_rfl) rfl (fun r => by kernel_rfl) (fun r => by kernel_rfl) (fun r => (.cons (.c (.bsl (cs := [.d (dU ((p0.getD i1 default).epoch)), .d (dU ((p0.getD i1 default).loop.1)), .d (dU ((p0.getD i1 default).loop.2))]) (ds := [dU ((p0.getD i1 default).loop.1), dU ((p0.getD i1 default).loop.2)]) rfl rfl rfl rfl (by unfold maxN; omega) (fun i hi => by match i, hi with | 0, _ => rfl | 1, _ => rfl))) .nil)) rfl rfl (fun r => rfl)
   show Tri _ _ _ _
   refine Tri.condP (b := (decide (4611686018427387904 < (if (p0.getD i1 default).epoch < r4 then r4 else (p0.getD i1 default).epoch)))) rfl h (fun h => ?_) (fun h => ?_)
   ·refine Tri.segC [2] [] (allT 1) (by kernel_rfl) (by kernel_rfl) (allT_ok 1) ?_
    refine Tri.keep [2] [] (s' := ⟨[(2, cD (dI 1))], []⟩) (by kernel_rfl) ?_
    refine Tri.ret ?_
    cases h
    refine ⟨_, _, rfl, ⟨trivial, trivial⟩, rfl, rfl, ?_⟩
    intro k c h
    cases h
   ·refine Tri.keep [7, 5, 6] [] (s' := ⟨[(7, cD (dI ((i1 : Nat) : Int))), (5, .c (wC 3 encTime p0)), (6, cD (dI (p0.length : Int)))], []⟩) (by kernel_rfl) ?_
    refine Tri.skip ?_
    cases h
    exact rfl
  ·intro a3 h
   show Tri _ _ _ _
   refine Tri.segC [2] [] (allT 1) (by kernel_rfl) (by kernel_rfl) (allT_ok 1) ?_
   refine Tri.keep [2] [] (s' := ⟨[(2, cD (dI 0))], []⟩) (by kernel_rfl) ?_
   refine Tri.ret ?_
   cases h
   refine ⟨_, _, rfl, ⟨trivial, trivial⟩, rfl, rfl, ?_⟩
   intro k c h
   cases h
  · exact fun x s hx hr => by cases hx; exact hr
set_option maxRecDepth 100000 in
theorem cmp_Or_Errno_ok_v0 {p0 : List Int} {q : Int} (h : cmp_Or_Errno p0 = some q) :
    Summ Try.prog 45 [.c (wC 1 (encInt .i64) p0)] [] (cD (dI q)) [] := by
  refine Summ.intro Try.func45 rfl (by kernel_rfl) (by kernel_rfl) [] rfl ?_
  rintro ⟨P, w0, G0, V, LL, lk, N, φ0, fx⟩ rfl rfl rfl rfl
  unfold cmp_Or_Errno at h
  refine Tri.segC [0] [] (allT 1) (by kernel_rfl) (by kernel_rfl) (allT_ok 1) ?_
  refine Tri.segL [0, 3] [] ⟨[(0, .c (wC 1 (encInt .i64) p0)), (3, cD (dI 0))], []⟩ (allT 1) (by kernel_rfl) (allT_ok 1) ?_
  refine Tri.seqS ?_
  refine Tri.segL [3, 6, 7, 8] [] ⟨[(3, cD (dI 0)), (6, .c (wC 1 (encInt .i64) p0)), (7, cD (dI (p0.length : Int))), (8, cD (dI 0))], []⟩ (allT 3) (by kernel_rfl) (allT_ok 3) ?_
  refine Tri.lenOfV (t := 6) rfl fun hlena2 => ?_
  refine Tri.keep [8, 3, 6, 7] [] (s' := idx 8 0 ⟨[(3, cD (dI 0)), (6, .c (wC 1 (encInt .i64) p0)), (7, cD (dI (p0.length : Int)))], []⟩) (by kernel_rfl) ?_
  refine Tri.range (n := p0.length) (st0 := ()) (fun (x : Int) s => RetAt Try.prog Try.f45 (cD (dI x)) [] s) (fun (a2 : Unit) => ⟨[(3, cD (dI 0)), (6, .c (wC 1 (encInt .i64) p0)), (7, cD (dI (p0.length : Int)))], []⟩) (fun (a2 : Unit) => ⟨[(3, cD (dI 0)), (6, .c (wC 1 (encInt .i64) p0)), (7, cD (dI (p0.length : Int)))], []⟩) (fun i => decide ((i : Int) < (p0.length : Int))) [9, 8, 3, 6, 7] [] [3, 6, 7] [] [8, 3, 6, 7] [] h hlena2 rfl ?_ ?_ ?_ ?_ ?_ ?_ ?_ ?_
  · exact fun i a => ⟨True ∧ True, by kernel_rfl, ⟨trivial, trivial⟩⟩
  · exact fun i hi => decide_eq_true (by omega)
  · exact decide_eq_false (by omega)
  · exact fun a => by kernel_rfl
  · exact fun i a => ⟨True ∧ True ∧ True, by kernel_rfl, ⟨trivial, trivial, trivial⟩⟩
  ·intro i1 a2 c hii1 h
   refine Tri.segC [3, 5, 6, 7, 8] [] (((0 : Int) ≤ ((i1 : Nat) : Int) ∧ ((i1 : Nat) : Int) < (p0.length : Int)) ∧ True ∧ True ∧ True) (by kernel_rfl) (by kernel_rfl) ⟨⟨by omega, by omega⟩, trivial, trivial, trivial⟩ ?_
   refine Tri.segL [3, 5, 6, 7, 8, 14] [] ⟨[(3, cD (dI 0)), (5, cD (dI (p0.getD i1 default))), (6, .c (wC 1 (encInt .i64) p0)), (7, cD (dI (p0.length : Int))), (8, cD (dI ((i1 : Nat) : Int))), (14, cD (.bool (!decide ((p0.getD i1 default) = 0))))], []⟩ (allT 3) (by kernel_rfl) (allT_ok 3) ?_
   refine Tri.condP (b := (!decide ((p0.getD i1 default) = 0))) rfl h (fun h => ?_) (fun h => ?_)
   ·refine Tri.segC [2] [] (allT 2) (by kernel_rfl) (by kernel_rfl) (allT_ok 2) ?_
    refine Tri.keep [2] [] (s' := ⟨[(2, cD (dI (p0.getD i1 default)))], []⟩) (by kernel_rfl) ?_
    refine Tri.ret ?_
    cases h
    refine ⟨_, _, rfl, ⟨trivial, trivial⟩, rfl, rfl, ?_⟩
    intro k c h
    cases h
   ·refine Tri.keep [8, 3, 6, 7] [] (s' := ⟨[(8, cD (dI ((i1 : Nat) : Int))), (3, cD (dI 0)), (6, .c (wC 1 (encInt .i64) p0)), (7, cD (dI (p0.length : Int)))], []⟩) (by kernel_rfl) ?_
    refine Tri.skip ?_
    cases h
    exact rfl
  ·intro a3 h
   show Tri _ _ _ _
   refine Tri.segC [2] [] (allT 2) (by kernel_rfl) (by kernel_rfl) (allT_ok 2) ?_
   refine Tri.keep [2] [] (s' := ⟨[(2, cD (dI 0))], []⟩) (by kernel_rfl) ?_
   refine Tri.ret ?_
   cases h
   refine ⟨_, _, rfl, ⟨trivial, trivial⟩, rfl, rfl, ?_⟩
   intro k c h
   cases h
  · exact fun x s hx hr => by cases hx; exact hr
set_option maxRecDepth 100000 in
theorem diff_Check_ok {fuel : Nat} {p0 : List Update} {q : Int} (h : diff_Check fuel p0 = some q) :
    Summ Try.prog 20 [cD (lD 6 encUpdate p0)] [] (cD (dI q)) [] := by
  refine Summ.intro Try.func20 rfl (by kernel_rfl) (by kernel_rfl) [] rfl ?_
  rintro ⟨P, w0, G0, V, LL, lk, N, φ0, fx⟩ rfl rfl rfl rfl
  unfold diff_Check at h
  refine Tri.segL [0] [] ⟨[(0, cD (lD 6 encUpdate p0))], []⟩ (allT 1) (by kernel_rfl) (allT_ok 1) ?_
  refine Tri.seqS ?_
  refine Tri.segL [6, 7, 8] [] ⟨[(6, cD (lD 6 encUpdate p0)), (7, cD (dI (p0.length : Int))), (8, cD (dI 0))], []⟩ (allT 3) (by kernel_rfl) (allT_ok 3) ?_
  refine Tri.lenOf (t := 6) rfl fun hlena2 => ?_
  refine Tri.keep [8, 6, 7] [] (s' := idx 8 0 ⟨[(6, cD (lD 6 encUpdate p0)), (7, cD (dI (p0.length : Int)))], []⟩) (by kernel_rfl) ?_
  refine Tri.range (n := p0.length) (st0 := ()) (fun (x : Int) s => RetAt Try.prog Try.f20 (cD (dI x)) [] s) (fun (a2 : Unit) => ⟨[(6, cD (lD 6 encUpdate p0)), (7, cD (dI (p0.length : Int)))], []⟩) (fun (a2 : Unit) => ⟨[(6, cD (lD 6 encUpdate p0)), (7, cD (dI (p0.length : Int)))], []⟩) (fun i => decide ((i : Int) < (p0.length : Int))) [9, 8, 6, 7] [] [6, 7] [] [8, 6, 7] [] h hlena2 rfl ?_ ?_ ?_ ?_ ?_ ?_ ?_ ?_
  · exact fun i a => ⟨True ∧ True, by kernel_rfl, ⟨trivial, trivial⟩⟩
  · exact fun i hi => decide_eq_true (by omega)
  · exact decide_eq_false (by omega)
  · exact fun a => by kernel_rfl
  · exact fun i a => ⟨True ∧ True ∧ True, by kernel_rfl, ⟨trivial, trivial, trivial⟩⟩
  ·intro i1 a2 c hii1 h
   refine Tri.segL [4, 6, 7, 8] [4] ⟨[(4, .c (.ptr 4 0)), (6, cD (lD 6 encUpdate p0)), (7, cD (dI (p0.length : Int))), (8, cD (dI ((i1 : Nat) : Int)))], [(4, .box (cUpdate (p0.getD i1 default)))]⟩ (((0 : Int) ≤ ((i1 : Nat) : Int) ∧ ((i1 : Nat) : Int) < (p0.length : Int)) ∧ True ∧ True ∧ True ∧ True) (by kernel_rfl) ⟨⟨by omega, by omega⟩, trivial, trivial, trivial, trivial⟩ ?_
   refine Tri.seqS ?_
   obtain ⟨r4, hr4, h⟩ := bind_elim h
   obtain ⟨r5, hr5, h⟩ := bind_elim h
   obtain ⟨r6, hr6, h⟩ := bind_elim h
   obtain ⟨r7, hr7, h⟩ := bind_elim h
   refine Tri.drawnS (s' := ⟨[(5, cD (dI r7)), (6, cD (lD 6 encUpdate p0)), (7, cD (dI (p0.length : Int))), (8, cD (dI ((i1 : Nat) : Int)))], []⟩) (cs := True ∧ True ∧ True ∧ True ∧ True ∧ True ∧ True ∧ True) [.a [4] [], .a [12] [4], .m ⟨[(13, cD (lD 3 encValue ((p0.getD i1 default).key)))], []⟩ ⟨[(14, cD (dI r4))], []⟩ [] [] [], .a [4] [], .a [15] [4], .m ⟨[(16, cD (lD 3 encValue ((p0.getD i1 default).row)))], []⟩ ⟨[(17, cD (dI r5))], []⟩ [] [] [], .a [4] [], .a [18] [4], .m ⟨[(19, .agg [.d (dU ((p0.getD i1 default).time.epoch)), .d (dU ((p0.getD i1 default).time.loop.1)), .d (dU ((p0.getD i1 default).time.loop.2))])], []⟩ ⟨[(20, .c (oC 20 3 ([(p0.getD i1 default).time] : List Time)))], [(20, vL 3 encTime ([(p0.getD i1 default).time] : List Time))]⟩ [20] [] [], .m ⟨[(20, .c (oC 20 3 ([(p0.getD i1 default).time] : List Time)))], [(20, vL 3 encTime ([(p0.getD i1 default).time] : List Time))]⟩ ⟨[(21, cD (dI r6))], []⟩ [] [] [], .m ⟨[(14, cD (dI r4)), (17, cD (dI r5)), (21, cD (dI r6))], []⟩ ⟨[(22, .c (oC 22 1 ([r4, r5, r6] : List Int)))], [(22, vL 1 (encInt .i64) ([r4, r5, r6] : List Int))]⟩ [22] [] [], .m ⟨[(22, .c (oC 22 1 ([r4, r5, r6] : List Int)))], [(22, vL 1 (encInt .i64) ([r4, r5, r6] : List Int))]⟩ ⟨[(23, cD (dI r7))], []⟩ [] [] [], .a [23] []] [[], [0], [0, 1], [], [3], [0, 1, 2, 3, 4], [], [6], [6, 7], [0, 1, 2, 3, 4, 5, 6, 7, 8], [0, 1, 2, 3, 4, 5, 6, 7, 8, 9], [0, 1, 2, 3, 4, 5, 6, 7, 8, 9, 10], [0, 1, 2, 3, 4, 5, 6, 7, 8, 9, 10, 11]] [5, 6, 7, 8] [] (by kernel_rfl) (by kernel_rfl) (by kernel_rfl) (by kernel_rfl) (by kernel_rfl) ⟨trivial, trivial, trivial, trivial, trivial, trivial, trivial, trivial⟩ (.a (.a (.m ?_ (.a (.a (.m ?_ (.a (.a (.m ?_ (.m ?_ (.m ?_ (.m ?_ (.a .z))))))))))))) (by kernel_rfl) ?_
   · exact DOk.callA (caps := []) (xs := [cD (lD 3 encValue ((p0.getD i1 default).key))]) (value_Check_ok hr4) rfl (fun r => by kernel_rfl) rfl (fun r => by kernel_rfl) (fun r => by kernel_rfl) (fun r => (.cons (.refl _) .nil)) rfl rfl (fun r => rfl)
   · exact DOk.callA (caps := []) (xs := [cD (lD 3 encValue ((p0.getD i1 default).row))]) (value_Check_ok hr5) rfl (fun r => by kernel_rfl) rfl (fun r => by kernel_rfl) (fun r => by kernel_rfl) (fun r => (.cons (.refl _) .nil)) rfl rfl (fun r => rfl)
   · exact DOk.one fun r hr => One.buildT (e := 42) (es := 3) (z := [.d (dU 0), .d (dU 0), .d (dU 0)]) (cells := [.d (dU ((p0.getD i1 default).time.epoch)), .d (dU ((p0.getD i1 default).time.loop.1)), .d (dU ((p0.getD i1 default).time.loop.2))]) (encTime) ([(p0.getD i1 default).time] : List Time) rfl (by kernel_rfl) rfl rfl (St.noRef_app (by kernel_rfl) (hr 20 (by simp))) (by kernel_rfl) rfl (by kernel_rfl) rfl rfl rfl (by kernel_rfl) rfl ⟨⟨rfl, .refl _⟩, trivial⟩
   · exact DOk.callA (caps := []) (xs := [.c (oC 20 3 ([(p0.getD i1 default).time] : List Time))]) (moment_Check_ok_v0 hr6) rfl (fun r => by kernel_rfl) rfl (fun r => by kernel_rfl) (fun r => by kernel_rfl) (fun r => (.cons (AVArg.view (encTime) ([(p0.getD i1 default).time] : List Time) rfl) .nil)) rfl rfl (fun r => rfl)
   · exact DOk.one fun r hr => One.buildT (e := 23) (es := 1) (z := [.d (dI 0)]) (cells := [.d (dI r4), .d (dI r5), .d (dI r6)]) (encInt .i64) ([r4, r5, r6] : List Int) rfl (by kernel_rfl) rfl rfl (St.noRef_app (by kernel_rfl) (hr 22 (by simp))) (by kernel_rfl) rfl (by kernel_rfl) rfl rfl rfl (by kernel_rfl) rfl ⟨⟨rfl, .refl _⟩, ⟨rfl, .refl _⟩, ⟨rfl, .refl _⟩, trivial⟩
   · exact DOk.callA (caps := []) (xs := [.c (oC 22 1 ([r4, r5, r6] : List Int))]) (cmp_Or_Errno_ok_v0 hr7) rfl (fun r => by kernel_rfl) rfl (fun r => by kernel_rfl) (fun r => by kernel_rfl) (fun r => (.cons (AVArg.view (encInt .i64) ([r4, r5, r6] : List Int) rfl) .nil)) rfl rfl (fun r => rfl)
   show Tri _ _ _ _
   refine Tri.segL [5, 6, 7, 8, 25] [] ⟨[(5, cD (dI r7)), (6, cD (lD 6 encUpdate p0)), (7, cD (dI (p0.length : Int))), (8, cD (dI ((i1 : Nat) : Int))), (25, cD (.bool (!decide (r7 = 0))))], []⟩ (allT 2) (by kernel_rfl) (allT_ok 2) ?_
   refine Tri.condP (b := (!decide (r7 = 0))) rfl h (fun h => ?_) (fun h => ?_)
   ·refine Tri.segC [2] [] (allT 2) (by kernel_rfl) (by kernel_rfl) (allT_ok 2) ?_
    refine Tri.keep [2] [] (s' := ⟨[(2, cD (dI r7))], []⟩) (by kernel_rfl) ?_
    refine Tri.ret ?_
    cases h
    refine ⟨_, _, rfl, ⟨trivial, trivial⟩, rfl, rfl, ?_⟩
    intro k c h
    cases h
   ·refine Tri.keep [8, 6, 7] [] (s' := ⟨[(8, cD (dI ((i1 : Nat) : Int))), (6, cD (lD 6 encUpdate p0)), (7, cD (dI (p0.length : Int)))], []⟩) (by kernel_rfl) ?_
    refine Tri.skip ?_
    cases h
    exact rfl
  ·intro a3 h
   show Tri _ _ _ _
   refine Tri.segC [2] [] (allT 1) (by kernel_rfl) (by kernel_rfl) (allT_ok 1) ?_
   refine Tri.keep [2] [] (s' := ⟨[(2, cD (dI 0))], []⟩) (by kernel_rfl) ?_
   refine Tri.ret ?_
   cases h
   refine ⟨_, _, rfl, ⟨trivial, trivial⟩, rfl, rfl, ?_⟩
   intro k c h
   cases h
  · exact fun x s hx hr => by cases hx; exact hr
set_option maxRecDepth 100000 in
theorem slices_Growfreshet_api_Update_freshet_api_Update_Update_ok_o {p1 : Int} {q : List Update} (h : slices_Growfreshet_api_Update_freshet_api_Update_Update p1 = some q) :
    Summ Try.prog 62 [.c (.zero), cD (dI p1)] [] (.c (oC 6000 6 q)) [(6000, vL 6 encUpdate q)] := by
  refine Summ.intro Try.func62 rfl (by kernel_rfl) (by kernel_rfl) [6000] rfl ?_
  rintro ⟨P, w0, G0, V, LL, lk, N, φ0, fx⟩ rfl rfl rfl rfl
  unfold slices_Growfreshet_api_Update_freshet_api_Update_Update at h
  refine Tri.segL [0, 1] [] ⟨[(0, .c (.zero)), (1, cD (dI p1))], []⟩ (allT 1) (by kernel_rfl) (allT_ok 1) ?_
  refine Tri.seqS ?_
  refine Tri.segL [0, 1, 6] [] ⟨[(0, .c (.zero)), (1, cD (dI p1)), (6, cD (.bool (decide (p1 < 0))))], []⟩ (allT 2) (by kernel_rfl) (allT_ok 2) ?_
  refine Tri.condP (b := (decide (p1 < 0))) rfl h (fun h => ?_) (fun h => ?_)
  ·refine Tri.reg ?_
   cases h
  ·refine Tri.skip ?_
   show Tri _ _ _ _
   refine Tri.seqJ (fun (a1 : List Update) => ⟨[(0, .c (oC 22 6 a1))], [(22, vL 6 encUpdate a1)]⟩) h (fun a1 h => ?_) (fun j2 h => ?_)
   ·show Tri _ _ ⟨[(0, .c (oC 22 6 a1))], [(22, vL 6 encUpdate a1)]⟩ _
    refine Tri.segC [4] [22] (allT 2) (by kernel_rfl) (by kernel_rfl) (allT_ok 2) ?_
    refine Tri.keep [4] [22] (s' := ⟨[(4, .c (oC 22 6 a1))], [(22, vL 6 encUpdate a1)]⟩) (by kernel_rfl) ?_
    refine Tri.rename 22 6000 ⟨[(4, .c (oC 6000 6 a1))], [(6000, vL 6 encUpdate a1)]⟩ (by kernel_rfl) rfl rfl rfl ?_
    refine Tri.keep [4] [6000] (s' := ⟨[(4, .c (oC 6000 6 a1))], [(6000, vL 6 encUpdate a1)]⟩) (by kernel_rfl) ?_
    refine Tri.ret ?_
    cases h
    refine ⟨_, _, rfl, ⟨trivial, trivial⟩, rfl, rfl, ?_⟩
    exact SubS.out ⟨⟨rfl, rfl⟩, trivial⟩
   ·refine Tri.seqS ?_
    refine Tri.reg ?_
    refine At.seg 2 [0, 8, 9] [] (s' := ⟨[(0, .c (.zero)), (8, cD (dI p1)), (9, .c (.zero))], []⟩) (c := True ∧ True ∧ True) (by kernel_rfl) ⟨trivial, trivial, trivial⟩ ?_
    refine At.one rfl (One.cap0 (e := 44) rfl rfl rfl rfl rfl rfl) ?_
    refine At.seg 5 [0, 1] [] (s' := ⟨[(0, .c (.zero)), (1, cD (dI (IntKind.i64.wrap (p1 - (IntKind.i64.wrap ((0 : Int) - 0))))))], []⟩) (c := True ∧ True ∧ True ∧ True ∧ True ∧ True) (by kernel_rfl) ⟨trivial, trivial, trivial, trivial, trivial, trivial⟩ ?_
    refine At.done rfl ?_
    show Tri _ _ _ _
    refine Tri.segL [0, 1, 16] [] ⟨[(0, .c (.zero)), (1, cD (dI (IntKind.i64.wrap (p1 - (IntKind.i64.wrap ((0 : Int) - 0)))))), (16, cD (.bool (decide (0 < (IntKind.i64.wrap (p1 - (IntKind.i64.wrap ((0 : Int) - 0))))))))], []⟩ (allT 2) (by kernel_rfl) (allT_ok 2) ?_
    refine Tri.condP (b := (decide (0 < (IntKind.i64.wrap (p1 - (IntKind.i64.wrap ((0 : Int) - 0))))))) rfl h (fun h => ?_) (fun h => ?_)
    ·refine Tri.reg ?_
     refine At.seg 2 [0, 1, 17, 18] [] (s' := ⟨[(0, .c (.zero)), (1, cD (dI (IntKind.i64.wrap (p1 - (IntKind.i64.wrap ((0 : Int) - 0)))))), (17, .c (.zero)), (18, .c (.zero))], []⟩) (c := True ∧ True ∧ True) (by kernel_rfl) ⟨trivial, trivial, trivial⟩ ?_
     refine At.one rfl (One.cap0 (e := 44) rfl rfl rfl rfl rfl rfl) ?_
     refine At.seg 2 [0, 20, 21] [] (s' := ⟨[(0, .c (.zero)), (20, .c (.zero)), (21, cD (dI (IntKind.i64.wrap (p1 - (IntKind.i64.wrap ((0 : Int) - 0))))))], []⟩) (c := ((0 : Int) ≤ (0 : Int) ∧ (0 : Int) ≤ (0 : Int) ∧ (0 : Int) ≤ ((0 : Nat) : Int)) ∧ True ∧ True) (by kernel_rfl) ⟨⟨by decide, by decide, by decide⟩, trivial, trivial⟩ ?_
     obtain ⟨hc3, h⟩ := need_elim h
     refine At.one rfl (One.appendN0 (e := 44) (es := 6) (bs := 80) (n := (IntKind.i64.wrap (p1 - (IntKind.i64.wrap ((0 : Int) - 0))))) (z := [.zero, .zero, .d (dU 0), .d (dU 0), .d (dU 0), .d (dI 0)]) (encUpdate) ((⟨([] : List Value), ([] : List Value), (⟨0, (0, 0)⟩ : Time), 0⟩ : Update) : Update) rfl rfl rfl rfl (by kernel_rfl) rfl rfl rfl rfl rfl rfl (by kernel_rfl) rfl rfl (.cons (.zero _ _) (.cons (.zero _ _) (.cons (.refl _) (.cons (.refl _) (.cons (.refl _) (.cons (.refl _) .nil)))))) rfl rfl rfl hc3.1 hc3.2) ?_
     refine At.seg 2 [22, 24] [22] (s' := ⟨[(22, .c (oC 22 6 (List.replicate ((IntKind.i64.wrap (p1 - (IntKind.i64.wrap ((0 : Int) - 0)))).toNat) ((⟨([] : List Value), ([] : List Value), (⟨0, (0, 0)⟩ : Time), 0⟩ : Update) : Update)))), (24, cD (dI 0))], [(22, vL 6 encUpdate (List.replicate ((IntKind.i64.wrap (p1 - (IntKind.i64.wrap ((0 : Int) - 0)))).toNat) ((⟨([] : List Value), ([] : List Value), (⟨0, (0, 0)⟩ : Time), 0⟩ : Update) : Update)))]⟩) (c := True ∧ True ∧ True) (by kernel_rfl) ⟨trivial, trivial, trivial⟩ ?_
     obtain ⟨hc4, h⟩ := need_elim h
     refine At.seg 1 [25] [22] (s' := ⟨[(25, .c (.own 22 6 (0 + (0 : Int).toNat) ((0 : Int).toNat - (0 : Int).toNat)))], [(22, vL 6 encUpdate (List.replicate ((IntKind.i64.wrap (p1 - (IntKind.i64.wrap ((0 : Int) - 0)))).toNat) ((⟨([] : List Value), ([] : List Value), (⟨0, (0, 0)⟩ : Time), 0⟩ : Update) : Update)))]⟩) (c := ((0 : Int) ≤ 0 ∧ (0 : Int) ≤ 0 ∧ (0 : Int) ≤ ((List.replicate ((IntKind.i64.wrap (p1 - (IntKind.i64.wrap ((0 : Int) - 0)))).toNat) ((⟨([] : List Value), ([] : List Value), (⟨0, (0, 0)⟩ : Time), 0⟩ : Update) : Update)).length : Int)) ∧ True) (by kernel_rfl) ⟨hc4, trivial⟩ ?_
     refine At.eqS (s' := ⟨[(25, .c (oC 22 6 ((List.replicate ((IntKind.i64.wrap (p1 - (IntKind.i64.wrap ((0 : Int) - 0)))).toNat) ((⟨([] : List Value), ([] : List Value), (⟨0, (0, 0)⟩ : Time), 0⟩ : Update) : Update)).take 0)))], [(22, vL 6 encUpdate (List.replicate ((IntKind.i64.wrap (p1 - (IntKind.i64.wrap ((0 : Int) - 0)))).toNat) ((⟨([] : List Value), ([] : List Value), (⟨0, (0, 0)⟩ : Time), 0⟩ : Update) : Update)))]⟩) (by simp only [oC, vL, List.length_take, Int.toNat_zero, Nat.add_zero, Nat.zero_add, Nat.sub_zero, take_min hc4, Nat.zero_min]) ?_
     refine At.le [] (fun k hk => by cases hk) ⟨[(25, .c (oC 22 6 ((List.replicate ((IntKind.i64.wrap (p1 - (IntKind.i64.wrap ((0 : Int) - 0)))).toNat) ((⟨([] : List Value), ([] : List Value), (⟨0, (0, 0)⟩ : Time), 0⟩ : Update) : Update)).take 0)))], [(22, vL 6 encUpdate ((List.replicate ((IntKind.i64.wrap (p1 - (IntKind.i64.wrap ((0 : Int) - 0)))).toNat) ((⟨([] : List Value), ([] : List Value), (⟨0, (0, 0)⟩ : Time), 0⟩ : Update) : Update)).take 0))]⟩ ⟨⟨_, rfl, .refl _⟩, trivial⟩ ⟨⟨_, rfl, .take (take_le _ _) (take_get (encUpdate) _ _), (by simp)⟩, trivial⟩ ?_
     refine At.seg 1 [0] [22] (s' := ⟨[(0, .c (oC 22 6 ((List.replicate ((IntKind.i64.wrap (p1 - (IntKind.i64.wrap ((0 : Int) - 0)))).toNat) ((⟨([] : List Value), ([] : List Value), (⟨0, (0, 0)⟩ : Time), 0⟩ : Update) : Update)).take 0)))], [(22, vL 6 encUpdate ((List.replicate ((IntKind.i64.wrap (p1 - (IntKind.i64.wrap ((0 : Int) - 0)))).toNat) ((⟨([] : List Value), ([] : List Value), (⟨0, (0, 0)⟩ : Time), 0⟩ : Update) : Update)).take 0))]⟩) (c := True ∧ True) (by kernel_rfl) ⟨trivial, trivial⟩ ?_
     refine At.done rfl ?_
     exact ⟨_, h, rfl⟩
    ·refine Tri.newOwn (t := 0) (k := 22) (es := 6) (fun i => encUpdate (([] : List Update).getD i default)) rfl rfl rfl ?_
     refine Tri.keep [0] [22] (s' := ⟨[(0, .c (oC 22 6 ([] : List Update)))], [(22, vL 6 encUpdate ([] : List Update))]⟩) (by kernel_rfl) ?_
     refine Tri.skip ?_
     exact ⟨_, h, rfl⟩
set_option maxRecDepth 100000 in
theorem slices_Concatfreshet_api_Update_freshet_api_Update_Update_ok_o {p0 : List (List Update)} {q : List Update} (h : slices_Concatfreshet_api_Update_freshet_api_Update_Update p0 = some q) :
    Summ Try.prog 38 [cD (lD 1 (fun xs => [encL 6 encUpdate xs]) p0)] [] (.c (oC 6000 6 q)) [(6000, vL 6 encUpdate q)] := by
  refine Summ.intro Try.func38 rfl (by kernel_rfl) (by kernel_rfl) [6000] rfl ?_
  rintro ⟨P, w0, G0, V, LL, lk, N, φ0, fx⟩ rfl rfl rfl rfl
  unfold slices_Concatfreshet_api_Update_freshet_api_Update_Update at h
  refine Tri.segC [0] [] (allT 1) (by kernel_rfl) (by kernel_rfl) (allT_ok 1) ?_
  refine Tri.segL [0, 3] [] ⟨[(0, cD (lD 1 (fun xs => [encL 6 encUpdate xs]) p0)), (3, cD (dI 0))], []⟩ (allT 1) (by kernel_rfl) (allT_ok 1) ?_
  refine Tri.seqS ?_
  refine Tri.segL [0, 3, 9, 10, 11] [] ⟨[(0, cD (lD 1 (fun xs => [encL 6 encUpdate xs]) p0)), (3, cD (dI 0)), (9, cD (lD 1 (fun xs => [encL 6 encUpdate xs]) p0)), (10, cD (dI (p0.length : Int))), (11, cD (dI 0))], []⟩ (allT 3) (by kernel_rfl) (allT_ok 3) ?_
  refine Tri.lenOf (t := 9) rfl fun hlena2 => ?_
  refine Tri.keep [11, 0, 3, 9, 10] [] (s' := idx 11 0 ⟨[(0, cD (lD 1 (fun xs => [encL 6 encUpdate xs]) p0)), (3, cD (dI 0)), (9, cD (lD 1 (fun xs => [encL 6 encUpdate xs]) p0)), (10, cD (dI (p0.length : Int)))], []⟩) (by kernel_rfl) ?_
  refine Tri.range (n := p0.length) (st0 := 0) (fun (x : Empty) s => False) (fun (a2 : Int) => ⟨[(0, cD (lD 1 (fun xs => [encL 6 encUpdate xs]) p0)), (3, cD (dI a2)), (9, cD (lD 1 (fun xs => [encL 6 encUpdate xs]) p0)), (10, cD (dI (p0.length : Int)))], []⟩) (fun (a2 : Int) => ⟨[(0, cD (lD 1 (fun xs => [encL 6 encUpdate xs]) p0)), (3, cD (dI a2)), (9, cD (lD 1 (fun xs => [encL 6 encUpdate xs]) p0)), (10, cD (dI (p0.length : Int)))], []⟩) (fun i => decide ((i : Int) < (p0.length : Int))) [12, 11, 0, 3, 9, 10] [] [0, 3, 9, 10] [] [11, 0, 3, 9, 10] [] h hlena2 rfl ?_ ?_ ?_ ?_ ?_ ?_ ?_ ?_
  · exact fun i a => ⟨True ∧ True, by kernel_rfl, ⟨trivial, trivial⟩⟩
  · exact fun i hi => decide_eq_true (by omega)
  · exact decide_eq_false (by omega)
  · exact fun a => by kernel_rfl
  · exact fun i a => ⟨True ∧ True ∧ True, by kernel_rfl, ⟨trivial, trivial, trivial⟩⟩
  ·intro i1 a2 c hii1 h
   refine Tri.segC [0, 3, 5, 9, 10, 11] [] (((0 : Int) ≤ ((i1 : Nat) : Int) ∧ ((i1 : Nat) : Int) < (p0.length : Int)) ∧ True ∧ True ∧ True) (by kernel_rfl) (by kernel_rfl) ⟨⟨by omega, by omega⟩, trivial, trivial, trivial⟩ ?_
   refine Tri.segC [0, 3, 9, 10, 11] [] (allT 5) (by kernel_rfl) (by kernel_rfl) (allT_ok 5) ?_
   refine Tri.segL [0, 3, 9, 10, 11, 20] [] ⟨[(0, cD (lD 1 (fun xs => [encL 6 encUpdate xs]) p0)), (3, cD (dI (IntKind.i64.wrap (a2 + ((p0.getD i1 default).length : Int))))), (9, cD (lD 1 (fun xs => [encL 6 encUpdate xs]) p0)), (10, cD (dI (p0.length : Int))), (11, cD (dI ((i1 : Nat) : Int))), (20, cD (.bool (decide ((IntKind.i64.wrap (a2 + ((p0.getD i1 default).length : Int))) < 0))))], []⟩ (allT 2) (by kernel_rfl) (allT_ok 2) ?_
   refine Tri.condP (b := (decide ((IntKind.i64.wrap (a2 + ((p0.getD i1 default).length : Int))) < 0))) rfl h (fun h => ?_) (fun h => ?_)
   ·refine Tri.reg ?_
    cases h
   ·refine Tri.keep [11, 0, 3, 9, 10] [] (s' := ⟨[(11, cD (dI ((i1 : Nat) : Int))), (0, cD (lD 1 (fun xs => [encL 6 encUpdate xs]) p0)), (3, cD (dI (IntKind.i64.wrap (a2 + ((p0.getD i1 default).length : Int))))), (9, cD (lD 1 (fun xs => [encL 6 encUpdate xs]) p0)), (10, cD (dI (p0.length : Int)))], []⟩) (by kernel_rfl) ?_
    refine Tri.skip ?_
    cases h
    exact rfl
  ·intro a3 h
   show Tri _ _ _ _
   refine Tri.seqS ?_
   refine Tri.reg ?_
   refine At.seg 1 [0, 23] [] (s' := ⟨[(0, cD (lD 1 (fun xs => [encL 6 encUpdate xs]) p0)), (23, cD (dI a3))], []⟩) (c := True ∧ True) (by kernel_rfl) ⟨trivial, trivial⟩ ?_
   obtain ⟨r4, hr4, h⟩ := bind_elim h
   refine At.callL (nf := 0) (caps := []) (xs := [.c (.zero), cD (dI a3)]) [(6000, 30096)] [0] [] (s0 := ⟨[(0, cD (lD 1 (fun xs => [encL 6 encUpdate xs]) p0))], []⟩) (slices_Growfreshet_api_Update_freshet_api_Update_Update_ok_o hr4) rfl rfl (by kernel_rfl) rfl (by kernel_rfl) (by kernel_rfl) (.flat (.refl _) rfl rfl (.flat (.refl _) rfl rfl .nil)) trivial (by kernel_rfl) (by kernel_rfl) (by kernel_rfl) (by kernel_rfl) (by kernel_rfl) (by kernel_rfl) (by kernel_rfl) (by kernel_rfl) (by kernel_rfl) ⟨[(24, .c (oC 30096 6 r4)), (0, cD (lD 1 (fun xs => [encL 6 encUpdate xs]) p0))], [(30096, vL 6 encUpdate r4)]⟩ (by kernel_rfl) ?_
   refine At.seg 1 [0, 6] [30096] (s' := ⟨[(0, cD (lD 1 (fun xs => [encL 6 encUpdate xs]) p0)), (6, .c (oC 30096 6 r4))], [(30096, vL 6 encUpdate r4)]⟩) (c := True ∧ True) (by kernel_rfl) ⟨trivial, trivial⟩ ?_
   refine At.done rfl ?_
   show Tri _ _ _ _
   refine Tri.seqS ?_
   refine Tri.segL [6, 25, 26, 27] [30096] ⟨[(6, .c (oC 30096 6 r4)), (25, cD (lD 1 (fun xs => [encL 6 encUpdate xs]) p0)), (26, cD (dI (p0.length : Int))), (27, cD (dI 0))], [(30096, vL 6 encUpdate r4)]⟩ (allT 3) (by kernel_rfl) (allT_ok 3) ?_
   refine Tri.lenOf (t := 25) rfl fun hlena6 => ?_
   refine Tri.keep [27, 6, 25, 26] [30096] (s' := idx 27 0 ⟨[(6, .c (oC 30096 6 r4)), (25, cD (lD 1 (fun xs => [encL 6 encUpdate xs]) p0)), (26, cD (dI (p0.length : Int)))], [(30096, vL 6 encUpdate r4)]⟩) (by kernel_rfl) ?_
   refine Tri.range (n := p0.length) (st0 := r4) (fun (x : Empty) s => False) (fun (a6 : List Update) => ⟨[(6, .c (oC 30096 6 a6)), (25, cD (lD 1 (fun xs => [encL 6 encUpdate xs]) p0)), (26, cD (dI (p0.length : Int)))], [(30096, vL 6 encUpdate a6)]⟩) (fun (a6 : List Update) => ⟨[(6, .c (oC 30096 6 a6)), (25, cD (lD 1 (fun xs => [encL 6 encUpdate xs]) p0)), (26, cD (dI (p0.length : Int)))], [(30096, vL 6 encUpdate a6)]⟩) (fun i => decide ((i : Int) < (p0.length : Int))) [28, 27, 6, 25, 26] [30096] [6, 25, 26] [30096] [27, 6, 25, 26] [30096] h hlena6 rfl ?_ ?_ ?_ ?_ ?_ ?_ ?_ ?_
   · exact fun i a => ⟨True ∧ True, by kernel_rfl, ⟨trivial, trivial⟩⟩
   · exact fun i hi => decide_eq_true (by omega)
   · exact decide_eq_false (by omega)
   · exact fun a => by kernel_rfl
   · exact fun i a => ⟨True ∧ True ∧ True, by kernel_rfl, ⟨trivial, trivial, trivial⟩⟩
   ·intro i5 a6 c hii5 h
    refine Tri.segL [6, 8, 25, 26, 27] [30096] ⟨[(6, .c (oC 30096 6 a6)), (8, cD (lD 6 encUpdate (p0.getD i5 default))), (25, cD (lD 1 (fun xs => [encL 6 encUpdate xs]) p0)), (26, cD (dI (p0.length : Int))), (27, cD (dI ((i5 : Nat) : Int)))], [(30096, vL 6 encUpdate a6)]⟩ (((0 : Int) ≤ ((i5 : Nat) : Int) ∧ ((i5 : Nat) : Int) < (p0.length : Int)) ∧ True ∧ True ∧ True) (by kernel_rfl) ⟨⟨by omega, by omega⟩, trivial, trivial, trivial⟩ ?_
    refine Tri.reg ?_
    refine At.seg 2 [25, 26, 27, 31, 32] [30096] (s' := ⟨[(25, cD (lD 1 (fun xs => [encL 6 encUpdate xs]) p0)), (26, cD (dI (p0.length : Int))), (27, cD (dI ((i5 : Nat) : Int))), (31, .c (oC 30096 6 a6)), (32, cD (lD 6 encUpdate (p0.getD i5 default)))], [(30096, vL 6 encUpdate a6)]⟩) (c := True ∧ True ∧ True) (by kernel_rfl) ⟨trivial, trivial, trivial⟩ ?_
    obtain ⟨hc8, h⟩ := need_elim h
    refine At.one rfl (One.appendT (e := 44) (es := 6) (encUpdate) a6 (p0.getD i5 default) rfl rfl rfl rfl rfl (.of 44 80 [.zero, .zero, .d (dU 0), .d (dU 0), .d (dU 0), .d (dI 0)] (by kernel_rfl) (by kernel_rfl) (by kernel_rfl) (by kernel_rfl) rfl (by kernel_rfl) rfl) rfl rfl rfl (.list rfl (fun _ _ => rfl)) hc8) ?_
    refine At.seg 1 [27, 6, 25, 26] [30096] (s' := ⟨[(27, cD (dI ((i5 : Nat) : Int))), (6, .c (oC 30096 6 (a6 ++ (p0.getD i5 default)))), (25, cD (lD 1 (fun xs => [encL 6 encUpdate xs]) p0)), (26, cD (dI (p0.length : Int)))], [(30096, vL 6 encUpdate (a6 ++ (p0.getD i5 default)))]⟩) (c := True ∧ True) (by kernel_rfl) ⟨trivial, trivial⟩ ?_
    refine At.done rfl ?_
    cases h
    exact rfl
   ·intro a7 h
    show Tri _ _ _ _
    refine Tri.segC [2] [30096] (allT 2) (by kernel_rfl) (by kernel_rfl) (allT_ok 2) ?_
    refine Tri.keep [2] [30096] (s' := ⟨[(2, .c (oC 30096 6 a7))], [(30096, vL 6 encUpdate a7)]⟩) (by kernel_rfl) ?_
    refine Tri.rename 30096 6000 ⟨[(2, .c (oC 6000 6 a7))], [(6000, vL 6 encUpdate a7)]⟩ (by kernel_rfl) rfl rfl rfl ?_
    refine Tri.keep [2] [6000] (s' := ⟨[(2, .c (oC 6000 6 a7))], [(6000, vL 6 encUpdate a7)]⟩) (by kernel_rfl) ?_
    refine Tri.ret ?_
    cases h
    refine ⟨_, _, rfl, ⟨trivial, trivial⟩, rfl, rfl, ?_⟩
    exact SubS.out ⟨⟨rfl, rfl⟩, trivial⟩
   · exact fun x => x.elim
  · exact fun x => x.elim
set_option maxRecDepth 100000 in
theorem value_mark_ok {p0 : Value} {q : Int} (h : value_mark p0 = some q) :
    Summ Try.prog 84 [.agg (cValue p0)] [] (cD (dI q)) [] := by
  refine Summ.intro Try.func84 rfl (by kernel_rfl) (by kernel_rfl) [] rfl ?_
  rintro ⟨P, w0, G0, V, LL, lk, N, φ0, fx⟩ rfl rfl rfl rfl
  unfold value_mark at h
  refine Tri.segL [1] [1] ⟨[(1, .c (.ptr 1 0))], [(1, .box (cValue p0))]⟩ (allT 2) (by kernel_rfl) (allT_ok 2) ?_
  refine Tri.seqS ?_
  refine Tri.segL [4] [] ⟨[(4, cD (.bool p0.isText))], []⟩ (allT 2) (by kernel_rfl) (allT_ok 2) ?_
  refine Tri.condP (b := p0.isText) rfl h (fun h => ?_) (fun h => ?_)
  ·refine Tri.segC [2] [] (allT 1) (by kernel_rfl) (by kernel_rfl) (allT_ok 1) ?_
   refine Tri.keep [2] [] (s' := ⟨[(2, cD (dI 1))], []⟩) (by kernel_rfl) ?_
   refine Tri.ret ?_
   cases h
   refine ⟨_, _, rfl, ⟨trivial, trivial⟩, rfl, rfl, ?_⟩
   intro k c h
   cases h
  ·refine Tri.skip ?_
   show Tri _ _ _ _
   refine Tri.segC [2] [] (allT 1) (by kernel_rfl) (by kernel_rfl) (allT_ok 1) ?_
   refine Tri.keep [2] [] (s' := ⟨[(2, cD (dI 0))], []⟩) (by kernel_rfl) ?_
   refine Tri.ret ?_
   cases h
   refine ⟨_, _, rfl, ⟨trivial, trivial⟩, rfl, rfl, ?_⟩
   intro k c h
   cases h
set_option maxRecDepth 100000 in
theorem cmp_isNaN_int_ok {p0 : Int} {q : Bool} (h : cmp_isNaN_int p0 = some q) :
    Summ Try.prog 93 [cD (dI p0)] [] (cD (.bool q)) [] := by
  refine Summ.intro Try.func93 rfl (by kernel_rfl) (by kernel_rfl) [] rfl ?_
  rintro ⟨P, w0, G0, V, LL, lk, N, φ0, fx⟩ rfl rfl rfl rfl
  unfold cmp_isNaN_int at h
  refine Tri.segC [0] [] (allT 1) (by kernel_rfl) (by kernel_rfl) (allT_ok 1) ?_
  refine Tri.segC [2] [] (allT 4) (by kernel_rfl) (by kernel_rfl) (allT_ok 4) ?_
  refine Tri.keep [2] [] (s' := ⟨[(2, cD (.bool (!decide (p0 = p0))))], []⟩) (by kernel_rfl) ?_
  refine Tri.ret ?_
  cases h
  refine ⟨_, _, rfl, ⟨trivial, trivial⟩, rfl, rfl, ?_⟩
  intro k c h
  cases h
set_option maxRecDepth 100000 in
theorem cmp_Compare_int_ok {p0 : Int} {p1 : Int} {q : Int} (h : cmp_Compare_int p0 p1 = some q) :
    Summ Try.prog 83 [cD (dI p0), cD (dI p1)] [] (cD (dI q)) [] := by
  refine Summ.intro Try.func83 rfl (by kernel_rfl) (by kernel_rfl) [] rfl ?_
  rintro ⟨P, w0, G0, V, LL, lk, N, φ0, fx⟩ rfl rfl rfl rfl
  unfold cmp_Compare_int at h
  refine Tri.segL [0, 1] [] ⟨[(0, cD (dI p0)), (1, cD (dI p1))], []⟩ (allT 1) (by kernel_rfl) (allT_ok 1) ?_
  refine Tri.seqS ?_
  refine Tri.reg ?_
  refine At.seg 1 [0, 1, 7] [] (s' := ⟨[(0, cD (dI p0)), (1, cD (dI p1)), (7, cD (dI p0))], []⟩) (c := True ∧ True) (by kernel_rfl) ⟨trivial, trivial⟩ ?_
  obtain ⟨r1, hr1, h⟩ := bind_elim h
  refine At.callA (caps := []) (xs := [cD (dI p0)]) (cmp_isNaN_int_ok hr1) rfl rfl rfl rfl rfl rfl (.cons (.refl _) .nil) rfl rfl ?_
  refine At.seg 1 [0, 1, 5] [] (s' := ⟨[(0, cD (dI p0)), (1, cD (dI p1)), (5, cD (.bool r1))], []⟩) (c := True ∧ True) (by kernel_rfl) ⟨trivial, trivial⟩ ?_
  refine At.done rfl ?_
  show Tri _ _ _ _
  refine Tri.seqS ?_
  refine Tri.reg ?_
  refine At.seg 1 [0, 1, 5, 9] [] (s' := ⟨[(0, cD (dI p0)), (1, cD (dI p1)), (5, cD (.bool r1)), (9, cD (dI p1))], []⟩) (c := True ∧ True) (by kernel_rfl) ⟨trivial, trivial⟩ ?_
  obtain ⟨r2, hr2, h⟩ := bind_elim h
  refine At.callA (caps := []) (xs := [cD (dI p1)]) (cmp_isNaN_int_ok hr2) rfl rfl rfl rfl rfl rfl (.cons (.refl _) .nil) rfl rfl ?_
  refine At.seg 1 [0, 1, 5, 6] [] (s' := ⟨[(0, cD (dI p0)), (1, cD (dI p1)), (5, cD (.bool r1)), (6, cD (.bool r2))], []⟩) (c := True ∧ True) (by kernel_rfl) ⟨trivial, trivial⟩ ?_
  refine At.done rfl ?_
  show Tri _ _ _ _
  refine Tri.seqS ?_
  refine Tri.segL [0, 1, 6, 11] [] ⟨[(0, cD (dI p0)), (1, cD (dI p1)), (6, cD (.bool r2)), (11, cD (.bool r1))], []⟩ (allT 1) (by kernel_rfl) (allT_ok 1) ?_
  refine Tri.condP (b := r1) rfl h (fun h => ?_) (fun h => ?_)
  ·refine Tri.seqS ?_
   refine Tri.segL [12] [] ⟨[(12, cD (.bool r2))], []⟩ (allT 1) (by kernel_rfl) (allT_ok 1) ?_
   refine Tri.condP (b := r2) rfl h (fun h => ?_) (fun h => ?_)
   ·refine Tri.segC [4] [] (allT 1) (by kernel_rfl) (by kernel_rfl) (allT_ok 1) ?_
    refine Tri.keep [4] [] (s' := ⟨[(4, cD (dI 0))], []⟩) (by kernel_rfl) ?_
    refine Tri.ret ?_
    cases h
    refine ⟨_, _, rfl, ⟨trivial, trivial⟩, rfl, rfl, ?_⟩
    intro k c h
    cases h
   ·refine Tri.skip ?_
    show Tri _ _ _ _
    refine Tri.segC [4] [] (allT 1) (by kernel_rfl) (by kernel_rfl) (allT_ok 1) ?_
    refine Tri.keep [4] [] (s' := ⟨[(4, cD (dI (-1)))], []⟩) (by kernel_rfl) ?_
    refine Tri.ret ?_
    cases h
    refine ⟨_, _, rfl, ⟨trivial, trivial⟩, rfl, rfl, ?_⟩
    intro k c h
    cases h
  ·refine Tri.skip ?_
   show Tri _ _ _ _
   refine Tri.seqS ?_
   refine Tri.segL [0, 1, 13] [] ⟨[(0, cD (dI p0)), (1, cD (dI p1)), (13, cD (.bool r2))], []⟩ (allT 1) (by kernel_rfl) (allT_ok 1) ?_
   refine Tri.condP (b := r2) rfl h (fun h => ?_) (fun h => ?_)
   ·refine Tri.segC [4] [] (allT 1) (by kernel_rfl) (by kernel_rfl) (allT_ok 1) ?_
    refine Tri.keep [4] [] (s' := ⟨[(4, cD (dI 1))], []⟩) (by kernel_rfl) ?_
    refine Tri.ret ?_
    cases h
    refine ⟨_, _, rfl, ⟨trivial, trivial⟩, rfl, rfl, ?_⟩
    intro k c h
    cases h
   ·refine Tri.skip ?_
    show Tri _ _ _ _
    refine Tri.seqS ?_
    refine Tri.segL [0, 1, 16] [] ⟨[(0, cD (dI p0)), (1, cD (dI p1)), (16, cD (.bool (decide (p0 < p1))))], []⟩ (allT 3) (by kernel_rfl) (allT_ok 3) ?_
    refine Tri.condP (b := (decide (p0 < p1))) rfl h (fun h => ?_) (fun h => ?_)
    ·refine Tri.segC [4] [] (allT 1) (by kernel_rfl) (by kernel_rfl) (allT_ok 1) ?_
     refine Tri.keep [4] [] (s' := ⟨[(4, cD (dI (-1)))], []⟩) (by kernel_rfl) ?_
     refine Tri.ret ?_
     cases h
     refine ⟨_, _, rfl, ⟨trivial, trivial⟩, rfl, rfl, ?_⟩
     intro k c h
     cases h
    ·refine Tri.skip ?_
     show Tri _ _ _ _
     refine Tri.seqS ?_
     refine Tri.segL [19] [] ⟨[(19, cD (.bool (decide (p1 < p0))))], []⟩ (allT 3) (by kernel_rfl) (allT_ok 3) ?_
     refine Tri.condP (b := (decide (p1 < p0))) rfl h (fun h => ?_) (fun h => ?_)
     ·refine Tri.segC [4] [] (allT 1) (by kernel_rfl) (by kernel_rfl) (allT_ok 1) ?_
      refine Tri.keep [4] [] (s' := ⟨[(4, cD (dI 1))], []⟩) (by kernel_rfl) ?_
      refine Tri.ret ?_
      cases h
      refine ⟨_, _, rfl, ⟨trivial, trivial⟩, rfl, rfl, ?_⟩
      intro k c h
      cases h
     ·refine Tri.skip ?_
      show Tri _ _ _ _
      refine Tri.segC [4] [] (allT 1) (by kernel_rfl) (by kernel_rfl) (allT_ok 1) ?_
      refine Tri.keep [4] [] (s' := ⟨[(4, cD (dI 0))], []⟩) (by kernel_rfl) ?_
      refine Tri.ret ?_
      cases h
      refine ⟨_, _, rfl, ⟨trivial, trivial⟩, rfl, rfl, ?_⟩
      intro k c h
      cases h
set_option maxRecDepth 100000 in
theorem cmp_isNaN_string_ok {p0 : ByteArray} {q : Bool} (h : cmp_isNaN_string p0 = some q) :
    Summ Try.prog 94 [cD (.str p0)] [] (cD (.bool q)) [] := by
  refine Summ.intro Try.func94 rfl (by kernel_rfl) (by kernel_rfl) [] rfl ?_
  rintro ⟨P, w0, G0, V, LL, lk, N, φ0, fx⟩ rfl rfl rfl rfl
  unfold cmp_isNaN_string at h
  refine Tri.segC [0] [] (allT 1) (by kernel_rfl) (by kernel_rfl) (allT_ok 1) ?_
  refine Tri.segC [2] [] (allT 4) (by kernel_rfl) (by kernel_rfl) (allT_ok 4) ?_
  refine Tri.keep [2] [] (s' := ⟨[(2, cD (.bool (!strEq p0 p0)))], []⟩) (by kernel_rfl) ?_
  refine Tri.ret ?_
  cases h
  refine ⟨_, _, rfl, ⟨trivial, trivial⟩, rfl, rfl, ?_⟩
  intro k c h
  cases h
set_option maxRecDepth 100000 in
theorem cmp_Compare_string_ok {p0 : ByteArray} {p1 : ByteArray} {q : Int} (h : cmp_Compare_string p0 p1 = some q) :
    Summ Try.prog 85 [cD (.str p0), cD (.str p1)] [] (cD (dI q)) [] := by
  refine Summ.intro Try.func85 rfl (by kernel_rfl) (by kernel_rfl) [] rfl ?_
  rintro ⟨P, w0, G0, V, LL, lk, N, φ0, fx⟩ rfl rfl rfl rfl
  unfold cmp_Compare_string at h
  refine Tri.segL [0, 1] [] ⟨[(0, cD (.str p0)), (1, cD (.str p1))], []⟩ (allT 1) (by kernel_rfl) (allT_ok 1) ?_
  refine Tri.seqS ?_
  refine Tri.reg ?_
  refine At.seg 1 [0, 1, 7] [] (s' := ⟨[(0, cD (.str p0)), (1, cD (.str p1)), (7, cD (.str p0))], []⟩) (c := True ∧ True) (by kernel_rfl) ⟨trivial, trivial⟩ ?_
  obtain ⟨r1, hr1, h⟩ := bind_elim h
  refine At.callA (caps := []) (xs := [cD (.str p0)]) (cmp_isNaN_string_ok hr1) rfl rfl rfl rfl rfl rfl (.cons (.refl _) .nil) rfl rfl ?_
  refine At.seg 1 [0, 1, 5] [] (s' := ⟨[(0, cD (.str p0)), (1, cD (.str p1)), (5, cD (.bool r1))], []⟩) (c := True ∧ True) (by kernel_rfl) ⟨trivial, trivial⟩ ?_
  refine At.done rfl ?_
  show Tri _ _ _ _
  refine Tri.seqS ?_
  refine Tri.reg ?_
  refine At.seg 1 [0, 1, 5, 9] [] (s' := ⟨[(0, cD (.str p0)), (1, cD (.str p1)), (5, cD (.bool r1)), (9, cD (.str p1))], []⟩) (c := True ∧ True) (by kernel_rfl) ⟨trivial, trivial⟩ ?_
  obtain ⟨r2, hr2, h⟩ := bind_elim h
  refine At.callA (caps := []) (xs := [cD (.str p1)]) (cmp_isNaN_string_ok hr2) rfl rfl rfl rfl rfl rfl (.cons (.refl _) .nil) rfl rfl ?_
  refine At.seg 1 [0, 1, 5, 6] [] (s' := ⟨[(0, cD (.str p0)), (1, cD (.str p1)), (5, cD (.bool r1)), (6, cD (.bool r2))], []⟩) (c := True ∧ True) (by kernel_rfl) ⟨trivial, trivial⟩ ?_
  refine At.done rfl ?_
  show Tri _ _ _ _
  refine Tri.seqS ?_
  refine Tri.segL [0, 1, 6, 11] [] ⟨[(0, cD (.str p0)), (1, cD (.str p1)), (6, cD (.bool r2)), (11, cD (.bool r1))], []⟩ (allT 1) (by kernel_rfl) (allT_ok 1) ?_
  refine Tri.condP (b := r1) rfl h (fun h => ?_) (fun h => ?_)
  ·refine Tri.seqS ?_
   refine Tri.segL [12] [] ⟨[(12, cD (.bool r2))], []⟩ (allT 1) (by kernel_rfl) (allT_ok 1) ?_
   refine Tri.condP (b := r2) rfl h (fun h => ?_) (fun h => ?_)
   ·refine Tri.segC [4] [] (allT 1) (by kernel_rfl) (by kernel_rfl) (allT_ok 1) ?_
    refine Tri.keep [4] [] (s' := ⟨[(4, cD (dI 0))], []⟩) (by kernel_rfl) ?_
    refine Tri.ret ?_
    cases h
    refine ⟨_, _, rfl, ⟨trivial, trivial⟩, rfl, rfl, ?_⟩
    intro k c h
    cases h
   ·refine Tri.skip ?_
    show Tri _ _ _ _
    refine Tri.segC [4] [] (allT 1) (by kernel_rfl) (by kernel_rfl) (allT_ok 1) ?_
    refine Tri.keep [4] [] (s' := ⟨[(4, cD (dI (-1)))], []⟩) (by kernel_rfl) ?_
    refine Tri.ret ?_
    cases h
    refine ⟨_, _, rfl, ⟨trivial, trivial⟩, rfl, rfl, ?_⟩
    intro k c h
    cases h
  ·refine Tri.skip ?_
   show Tri _ _ _ _
   refine Tri.seqS ?_
   refine Tri.segL [0, 1, 13] [] ⟨[(0, cD (.str p0)), (1, cD (.str p1)), (13, cD (.bool r2))], []⟩ (allT 1) (by kernel_rfl) (allT_ok 1) ?_
   refine Tri.condP (b := r2) rfl h (fun h => ?_) (fun h => ?_)
   ·refine Tri.segC [4] [] (allT 1) (by kernel_rfl) (by kernel_rfl) (allT_ok 1) ?_
    refine Tri.keep [4] [] (s' := ⟨[(4, cD (dI 1))], []⟩) (by kernel_rfl) ?_
    refine Tri.ret ?_
    cases h
    refine ⟨_, _, rfl, ⟨trivial, trivial⟩, rfl, rfl, ?_⟩
    intro k c h
    cases h
   ·refine Tri.skip ?_
    show Tri _ _ _ _
    refine Tri.seqS ?_
    refine Tri.segL [0, 1, 16] [] ⟨[(0, cD (.str p0)), (1, cD (.str p1)), (16, cD (.bool (strLt p0 p1)))], []⟩ (allT 3) (by kernel_rfl) (allT_ok 3) ?_
    refine Tri.condP (b := (strLt p0 p1)) rfl h (fun h => ?_) (fun h => ?_)
    ·refine Tri.segC [4] [] (allT 1) (by kernel_rfl) (by kernel_rfl) (allT_ok 1) ?_
     refine Tri.keep [4] [] (s' := ⟨[(4, cD (dI (-1)))], []⟩) (by kernel_rfl) ?_
     refine Tri.ret ?_
     cases h
     refine ⟨_, _, rfl, ⟨trivial, trivial⟩, rfl, rfl, ?_⟩
     intro k c h
     cases h
    ·refine Tri.skip ?_
     show Tri _ _ _ _
     refine Tri.seqS ?_
     refine Tri.segL [19] [] ⟨[(19, cD (.bool (!(strLt p0 p1 || strEq p0 p1))))], []⟩ (allT 3) (by kernel_rfl) (allT_ok 3) ?_
     refine Tri.condP (b := (!(strLt p0 p1 || strEq p0 p1))) rfl h (fun h => ?_) (fun h => ?_)
     ·refine Tri.segC [4] [] (allT 1) (by kernel_rfl) (by kernel_rfl) (allT_ok 1) ?_
      refine Tri.keep [4] [] (s' := ⟨[(4, cD (dI 1))], []⟩) (by kernel_rfl) ?_
      refine Tri.ret ?_
      cases h
      refine ⟨_, _, rfl, ⟨trivial, trivial⟩, rfl, rfl, ?_⟩
      intro k c h
      cases h
     ·refine Tri.skip ?_
      show Tri _ _ _ _
      refine Tri.segC [4] [] (allT 1) (by kernel_rfl) (by kernel_rfl) (allT_ok 1) ?_
      refine Tri.keep [4] [] (s' := ⟨[(4, cD (dI 0))], []⟩) (by kernel_rfl) ?_
      refine Tri.ret ?_
      cases h
      refine ⟨_, _, rfl, ⟨trivial, trivial⟩, rfl, rfl, ?_⟩
      intro k c h
      cases h
set_option maxRecDepth 100000 in
theorem cmp_isNaN_int64_ok {p0 : Int} {q : Bool} (h : cmp_isNaN_int64 p0 = some q) :
    Summ Try.prog 95 [cD (dI p0)] [] (cD (.bool q)) [] := by
  refine Summ.intro Try.func95 rfl (by kernel_rfl) (by kernel_rfl) [] rfl ?_
  rintro ⟨P, w0, G0, V, LL, lk, N, φ0, fx⟩ rfl rfl rfl rfl
  unfold cmp_isNaN_int64 at h
  refine Tri.segC [0] [] (allT 1) (by kernel_rfl) (by kernel_rfl) (allT_ok 1) ?_
  refine Tri.segC [2] [] (allT 4) (by kernel_rfl) (by kernel_rfl) (allT_ok 4) ?_
  refine Tri.keep [2] [] (s' := ⟨[(2, cD (.bool (!decide (p0 = p0))))], []⟩) (by kernel_rfl) ?_
  refine Tri.ret ?_
  cases h
  refine ⟨_, _, rfl, ⟨trivial, trivial⟩, rfl, rfl, ?_⟩
  intro k c h
  cases h
set_option maxRecDepth 100000 in
theorem cmp_Compare_int64_ok {p0 : Int} {p1 : Int} {q : Int} (h : cmp_Compare_int64 p0 p1 = some q) :
    Summ Try.prog 86 [cD (dI p0), cD (dI p1)] [] (cD (dI q)) [] := by
  refine Summ.intro Try.func86 rfl (by kernel_rfl) (by kernel_rfl) [] rfl ?_
  rintro ⟨P, w0, G0, V, LL, lk, N, φ0, fx⟩ rfl rfl rfl rfl
  unfold cmp_Compare_int64 at h
  refine Tri.segL [0, 1] [] ⟨[(0, cD (dI p0)), (1, cD (dI p1))], []⟩ (allT 1) (by kernel_rfl) (allT_ok 1) ?_
  refine Tri.seqS ?_
  refine Tri.reg ?_
  refine At.seg 1 [0, 1, 7] [] (s' := ⟨[(0, cD (dI p0)), (1, cD (dI p1)), (7, cD (dI p0))], []⟩) (c := True ∧ True) (by kernel_rfl) ⟨trivial, trivial⟩ ?_
  obtain ⟨r1, hr1, h⟩ := bind_elim h
  refine At.callA (caps := []) (xs := [cD (dI p0)]) (cmp_isNaN_int64_ok hr1) rfl rfl rfl rfl rfl rfl (.cons (.refl _) .nil) rfl rfl ?_
  refine At.seg 1 [0, 1, 5] [] (s' := ⟨[(0, cD (dI p0)), (1, cD (dI p1)), (5, cD (.bool r1))], []⟩) (c := True ∧ True) (by kernel_rfl) ⟨trivial, trivial⟩ ?_
  refine At.done rfl ?_
  show Tri _ _ _ _
  refine Tri.seqS ?_
  refine Tri.reg ?_
  refine At.seg 1 [0, 1, 5, 9] [] (s' := ⟨[(0, cD (dI p0)), (1, cD (dI p1)), (5, cD (.bool r1)), (9, cD (dI p1))], []⟩) (c := True ∧ True) (by kernel_rfl) ⟨trivial, trivial⟩ ?_
  obtain ⟨r2, hr2, h⟩ := bind_elim h
  refine At.callA (caps := []) (xs := [cD (dI p1)]) (cmp_isNaN_int64_ok hr2) rfl rfl rfl rfl rfl rfl (.cons (.refl _) .nil) rfl rfl ?_
  refine At.seg 1 [0, 1, 5, 6] [] (s' := ⟨[(0, cD (dI p0)), (1, cD (dI p1)), (5, cD (.bool r1)), (6, cD (.bool r2))], []⟩) (c := True ∧ True) (by kernel_rfl) ⟨trivial, trivial⟩ ?_
  refine At.done rfl ?_
  show Tri _ _ _ _
  refine Tri.seqS ?_
  refine Tri.segL [0, 1, 6, 11] [] ⟨[(0, cD (dI p0)), (1, cD (dI p1)), (6, cD (.bool r2)), (11, cD (.bool r1))], []⟩ (allT 1) (by kernel_rfl) (allT_ok 1) ?_
  refine Tri.condP (b := r1) rfl h (fun h => ?_) (fun h => ?_)
  ·refine Tri.seqS ?_
   refine Tri.segL [12] [] ⟨[(12, cD (.bool r2))], []⟩ (allT 1) (by kernel_rfl) (allT_ok 1) ?_
   refine Tri.condP (b := r2) rfl h (fun h => ?_) (fun h => ?_)
   ·refine Tri.segC [4] [] (allT 1) (by kernel_rfl) (by kernel_rfl) (allT_ok 1) ?_
    refine Tri.keep [4] [] (s' := ⟨[(4, cD (dI 0))], []⟩) (by kernel_rfl) ?_
    refine Tri.ret ?_
    cases h
    refine ⟨_, _, rfl, ⟨trivial, trivial⟩, rfl, rfl, ?_⟩
    intro k c h
    cases h
   ·refine Tri.skip ?_
    show Tri _ _ _ _
    refine Tri.segC [4] [] (allT 1) (by kernel_rfl) (by kernel_rfl) (allT_ok 1) ?_
    refine Tri.keep [4] [] (s' := ⟨[(4, cD (dI (-1)))], []⟩) (by kernel_rfl) ?_
    refine Tri.ret ?_
    cases h
    refine ⟨_, _, rfl, ⟨trivial, trivial⟩, rfl, rfl, ?_⟩
    intro k c h
    cases h
  ·refine Tri.skip ?_
   show Tri _ _ _ _
   refine Tri.seqS ?_
   refine Tri.segL [0, 1, 13] [] ⟨[(0, cD (dI p0)), (1, cD (dI p1)), (13, cD (.bool r2))], []⟩ (allT 1) (by kernel_rfl) (allT_ok 1) ?_
   refine Tri.condP (b := r2) rfl h (fun h => ?_) (fun h => ?_)
   ·refine Tri.segC [4] [] (allT 1) (by kernel_rfl) (by kernel_rfl) (allT_ok 1) ?_
    refine Tri.keep [4] [] (s' := ⟨[(4, cD (dI 1))], []⟩) (by kernel_rfl) ?_
    refine Tri.ret ?_
    cases h
    refine ⟨_, _, rfl, ⟨trivial, trivial⟩, rfl, rfl, ?_⟩
    intro k c h
    cases h
   ·refine Tri.skip ?_
    show Tri _ _ _ _
    refine Tri.seqS ?_
    refine Tri.segL [0, 1, 16] [] ⟨[(0, cD (dI p0)), (1, cD (dI p1)), (16, cD (.bool (decide (p0 < p1))))], []⟩ (allT 3) (by kernel_rfl) (allT_ok 3) ?_
    refine Tri.condP (b := (decide (p0 < p1))) rfl h (fun h => ?_) (fun h => ?_)
    ·refine Tri.segC [4] [] (allT 1) (by kernel_rfl) (by kernel_rfl) (allT_ok 1) ?_
     refine Tri.keep [4] [] (s' := ⟨[(4, cD (dI (-1)))], []⟩) (by kernel_rfl) ?_
     refine Tri.ret ?_
     cases h
     refine ⟨_, _, rfl, ⟨trivial, trivial⟩, rfl, rfl, ?_⟩
     intro k c h
     cases h
    ·refine Tri.skip ?_
     show Tri _ _ _ _
     refine Tri.seqS ?_
     refine Tri.segL [19] [] ⟨[(19, cD (.bool (decide (p1 < p0))))], []⟩ (allT 3) (by kernel_rfl) (allT_ok 3) ?_
     refine Tri.condP (b := (decide (p1 < p0))) rfl h (fun h => ?_) (fun h => ?_)
     ·refine Tri.segC [4] [] (allT 1) (by kernel_rfl) (by kernel_rfl) (allT_ok 1) ?_
      refine Tri.keep [4] [] (s' := ⟨[(4, cD (dI 1))], []⟩) (by kernel_rfl) ?_
      refine Tri.ret ?_
      cases h
      refine ⟨_, _, rfl, ⟨trivial, trivial⟩, rfl, rfl, ?_⟩
      intro k c h
      cases h
     ·refine Tri.skip ?_
      show Tri _ _ _ _
      refine Tri.segC [4] [] (allT 1) (by kernel_rfl) (by kernel_rfl) (allT_ok 1) ?_
      refine Tri.keep [4] [] (s' := ⟨[(4, cD (dI 0))], []⟩) (by kernel_rfl) ?_
      refine Tri.ret ?_
      cases h
      refine ⟨_, _, rfl, ⟨trivial, trivial⟩, rfl, rfl, ?_⟩
      intro k c h
      cases h
set_option maxRecDepth 100000 in
theorem value_Compare_ok {p0 : Value} {p1 : Value} {q : Int} (h : value_Compare p0 p1 = some q) :
    Summ Try.prog 71 [.agg (cValue p0), .agg (cValue p1)] [] (cD (dI q)) [] := by
  refine Summ.intro Try.func71 rfl (by kernel_rfl) (by kernel_rfl) [] rfl ?_
  rintro ⟨P, w0, G0, V, LL, lk, N, φ0, fx⟩ rfl rfl rfl rfl
  unfold value_Compare at h
  refine Tri.segL [2, 3] [2, 3] ⟨[(2, .c (.ptr 2 0)), (3, .c (.ptr 3 0))], [(2, .box (cValue p0)), (3, .box (cValue p1))]⟩ (allT 3) (by kernel_rfl) (allT_ok 3) ?_
  refine Tri.seqS ?_
  refine Tri.blockB ?_
  refine Tri.segL [2, 3, 5] [2, 3] ⟨[(2, .c (.ptr 2 0)), (3, .c (.ptr 3 0)), (5, cD (.bool (!(p0.isText == p1.isText))))], [(2, .box (cValue p0)), (3, .box (cValue p1))]⟩ (allT 6) (by kernel_rfl) (allT_ok 6) ?_
  refine Tri.condP (b := (!(p0.isText == p1.isText))) rfl h (fun h => ?_) (fun h => ?_)
  ·refine Tri.seqS ?_
   obtain ⟨r1, hr1, h⟩ := bind_elim h
   obtain ⟨r2, hr2, h⟩ := bind_elim h
   obtain ⟨r3, hr3, h⟩ := bind_elim h
   refine Tri.drawnS (s' := ⟨[(4, cD (dI r3))], []⟩) (cs := True ∧ True ∧ True ∧ True) [.a [2] [2], .m ⟨[(11, .agg (cValue p0))], []⟩ ⟨[(12, cD (dI r1))], []⟩ [] [] [], .a [3] [3], .m ⟨[(13, .agg (cValue p1))], []⟩ ⟨[(14, cD (dI r2))], []⟩ [] [] [], .m ⟨[(12, cD (dI r1)), (14, cD (dI r2))], []⟩ ⟨[(15, cD (dI r3))], []⟩ [] [] [], .a [15] []] [[], [0], [], [0, 1, 2], [0, 1, 2, 3], [0, 1, 2, 3, 4]] [4] [] (by kernel_rfl) (by kernel_rfl) (by kernel_rfl) (by kernel_rfl) (by kernel_rfl) ⟨trivial, trivial, trivial, trivial⟩ (.a (.m ?_ (.a (.m ?_ (.m ?_ (.a .z)))))) (by kernel_rfl) ?_
   · exact DOk.callA (caps := []) (xs := [.agg (cValue p0)]) (value_mark_ok hr1) rfl (fun r => by kernel_rfl) rfl (fun r => by kernel_rfl) (fun r => by kernel_rfl) (fun r => (.cons (.refl _) .nil)) rfl rfl (fun r => rfl)
   · exact DOk.callA (caps := []) (xs := [.agg (cValue p1)]) (value_mark_ok hr2) rfl (fun r => by kernel_rfl) rfl (fun r => by kernel_rfl) (fun r => by kernel_rfl) (fun r => (.cons (.refl _) .nil)) rfl rfl (fun r => rfl)
   · exact DOk.callA (caps := []) (xs := [cD (dI r1), cD (dI r2)]) (cmp_Compare_int_ok hr3) rfl (fun r => by kernel_rfl) rfl (fun r => by kernel_rfl) (fun r => by kernel_rfl) (fun r => (.cons (.refl _) (.cons (.refl _) .nil))) rfl rfl (fun r => rfl)
   show Tri _ _ _ _
   refine Tri.keep [4] [] (s' := ⟨[(4, cD (dI r3))], []⟩) (by kernel_rfl) ?_
   refine Tri.ret ?_
   cases h
   refine ⟨_, _, rfl, ⟨trivial, trivial⟩, rfl, rfl, ?_⟩
   intro k c h
   cases h
  ·refine Tri.segL [2, 3, 16] [2, 3] ⟨[(2, .c (.ptr 2 0)), (3, .c (.ptr 3 0)), (16, cD (.bool p0.isText))], [(2, .box (cValue p0)), (3, .box (cValue p1))]⟩ (allT 3) (by kernel_rfl) (allT_ok 3) ?_
   refine Tri.condP (b := p0.isText) rfl h (fun h => ?_) (fun h => ?_)
   ·refine Tri.seqS ?_
    refine Tri.reg ?_
    refine At.seg 4 [20, 22] [] (s' := ⟨[(20, cD (.str p0.s)), (22, cD (.str p1.s))], []⟩) (c := True ∧ True ∧ True ∧ True ∧ True) (by kernel_rfl) ⟨trivial, trivial, trivial, trivial, trivial⟩ ?_
    obtain ⟨r4, hr4, h⟩ := bind_elim h
    refine At.callA (caps := []) (xs := [cD (.str p0.s), cD (.str p1.s)]) (cmp_Compare_string_ok hr4) rfl rfl rfl rfl rfl rfl (.cons (.refl _) (.cons (.refl _) .nil)) rfl rfl ?_
    refine At.seg 1 [4] [] (s' := ⟨[(4, cD (dI r4))], []⟩) (c := True ∧ True) (by kernel_rfl) ⟨trivial, trivial⟩ ?_
    refine At.done rfl ?_
    show Tri _ _ _ _
    refine Tri.keep [4] [] (s' := ⟨[(4, cD (dI r4))], []⟩) (by kernel_rfl) ?_
    refine Tri.ret ?_
    cases h
    refine ⟨_, _, rfl, ⟨trivial, trivial⟩, rfl, rfl, ?_⟩
    intro k c h
    cases h
   ·refine Tri.skip ?_
    show Tri _ _ _ _
    refine Tri.seqS ?_
    refine Tri.reg ?_
    refine At.seg 4 [25, 27] [] (s' := ⟨[(25, cD (dI p0.n)), (27, cD (dI p1.n))], []⟩) (c := True ∧ True ∧ True ∧ True ∧ True) (by kernel_rfl) ⟨trivial, trivial, trivial, trivial, trivial⟩ ?_
    obtain ⟨r5, hr5, h⟩ := bind_elim h
    refine At.callA (caps := []) (xs := [cD (dI p0.n), cD (dI p1.n)]) (cmp_Compare_int64_ok hr5) rfl rfl rfl rfl rfl rfl (.cons (.refl _) (.cons (.refl _) .nil)) rfl rfl ?_
    refine At.seg 1 [4] [] (s' := ⟨[(4, cD (dI r5))], []⟩) (c := True ∧ True) (by kernel_rfl) ⟨trivial, trivial⟩ ?_
    refine At.done rfl ?_
    show Tri _ _ _ _
    refine Tri.keep [4] [] (s' := ⟨[(4, cD (dI r5))], []⟩) (by kernel_rfl) ?_
    refine Tri.ret ?_
    cases h
    refine ⟨_, _, rfl, ⟨trivial, trivial⟩, rfl, rfl, ?_⟩
    intro k c h
    cases h
set_option maxRecDepth 100000 in
theorem slices_CompareFuncfreshet_api_Value_freshet_api_Value_freshet_api_Value_freshet_api_Value_Value__value_Compare_ok {p0 : List Value} {p1 : List Value} {q : Int} (h : slices_CompareFuncfreshet_api_Value_freshet_api_Value_freshet_api_Value_freshet_api_Value_Value__value_Compare p0 p1 = some q) :
    Summ Try.prog 70 [cD (lD 3 encValue p0), cD (lD 3 encValue p1), cD (.fn 71 [])] [] (cD (dI q)) [] := by
  refine Summ.intro Try.func70 rfl (by kernel_rfl) (by kernel_rfl) [] rfl ?_
  rintro ⟨P, w0, G0, V, LL, lk, N, φ0, fx⟩ rfl rfl rfl rfl
  unfold slices_CompareFuncfreshet_api_Value_freshet_api_Value_freshet_api_Value_freshet_api_Value_Value__value_Compare at h
  refine Tri.segL [0, 1, 2] [] ⟨[(0, cD (lD 3 encValue p0)), (1, cD (lD 3 encValue p1)), (2, cD (.fn 71 []))], []⟩ (allT 1) (by kernel_rfl) (allT_ok 1) ?_
  refine Tri.seqS ?_
  refine Tri.segL [0, 1, 2, 11, 12, 13] [] ⟨[(0, cD (lD 3 encValue p0)), (1, cD (lD 3 encValue p1)), (2, cD (.fn 71 [])), (11, cD (lD 3 encValue p0)), (12, cD (dI (p0.length : Int))), (13, cD (dI 0))], []⟩ (allT 3) (by kernel_rfl) (allT_ok 3) ?_
  refine Tri.lenOf (t := 11) rfl fun hlena2 => ?_
  refine Tri.keep [13, 0, 1, 2, 11, 12] [] (s' := idx 13 0 ⟨[(0, cD (lD 3 encValue p0)), (1, cD (lD 3 encValue p1)), (2, cD (.fn 71 [])), (11, cD (lD 3 encValue p0)), (12, cD (dI (p0.length : Int)))], []⟩) (by kernel_rfl) ?_
  refine Tri.range (n := p0.length) (st0 := ()) (fun (x : Int) s => RetAt Try.prog Try.f70 (cD (dI x)) [] s) (fun (a2 : Unit) => ⟨[(0, cD (lD 3 encValue p0)), (1, cD (lD 3 encValue p1)), (2, cD (.fn 71 [])), (11, cD (lD 3 encValue p0)), (12, cD (dI (p0.length : Int)))], []⟩) (fun (a2 : Unit) => ⟨[(0, cD (lD 3 encValue p0)), (1, cD (lD 3 encValue p1)), (2, cD (.fn 71 [])), (11, cD (lD 3 encValue p0)), (12, cD (dI (p0.length : Int)))], []⟩) (fun i => decide ((i : Int) < (p0.length : Int))) [14, 13, 0, 1, 2, 11, 12] [] [0, 1, 2, 11, 12] [] [13, 0, 1, 2, 11, 12] [] h hlena2 rfl ?_ ?_ ?_ ?_ ?_ ?_ ?_ ?_
  · exact fun i a => ⟨True ∧ True, by kernel_rfl, ⟨trivial, trivial⟩⟩
  · exact fun i hi => decide_eq_true (by omega)
  · exact decide_eq_false (by omega)
  · exact fun a => by kernel_rfl
  · exact fun i a => ⟨True ∧ True ∧ True, by kernel_rfl, ⟨trivial, trivial, trivial⟩⟩
  ·intro i1 a2 c hii1 h
   refine Tri.segL [0, 1, 2, 7, 8, 11, 12, 13] [8] ⟨[(0, cD (lD 3 encValue p0)), (1, cD (lD 3 encValue p1)), (2, cD (.fn 71 [])), (7, cD (dI ((i1 : Nat) : Int))), (8, .c (.ptr 8 0)), (11, cD (lD 3 encValue p0)), (12, cD (dI (p0.length : Int))), (13, cD (dI ((i1 : Nat) : Int)))], [(8, .box (cValue (p0.getD i1 default)))]⟩ (True ∧ ((0 : Int) ≤ ((i1 : Nat) : Int) ∧ ((i1 : Nat) : Int) < (p0.length : Int)) ∧ True ∧ True ∧ True ∧ True ∧ True) (by kernel_rfl) ⟨trivial, ⟨by omega, by omega⟩, trivial, trivial, trivial, trivial, trivial⟩ ?_
   refine Tri.seqS ?_
   refine Tri.segL [0, 1, 2, 7, 8, 11, 12, 13, 21] [8] ⟨[(0, cD (lD 3 encValue p0)), (1, cD (lD 3 encValue p1)), (2, cD (.fn 71 [])), (7, cD (dI ((i1 : Nat) : Int))), (8, .c (.ptr 8 0)), (11, cD (lD 3 encValue p0)), (12, cD (dI (p0.length : Int))), (13, cD (dI ((i1 : Nat) : Int))), (21, cD (.bool (decide ((p1.length : Int) ≤ ((i1 : Nat) : Int)))))], [(8, .box (cValue (p0.getD i1 default)))]⟩ (allT 4) (by kernel_rfl) (allT_ok 4) ?_
   refine Tri.condP (b := (decide ((p1.length : Int) ≤ ((i1 : Nat) : Int)))) rfl h (fun h => ?_) (fun h => ?_)
   ·refine Tri.segC [6] [] (allT 1) (by kernel_rfl) (by kernel_rfl) (allT_ok 1) ?_
    refine Tri.keep [6] [] (s' := ⟨[(6, cD (dI 1))], []⟩) (by kernel_rfl) ?_
    refine Tri.ret ?_
    cases h
    refine ⟨_, _, rfl, ⟨trivial, trivial⟩, rfl, rfl, ?_⟩
    intro k c h
    cases h
   ·refine Tri.skip ?_
    show Tri _ _ _ _
    obtain ⟨hc4, h⟩ := need_elim h
    refine Tri.segL [0, 1, 2, 8, 9, 11, 12, 13] [8, 9] ⟨[(0, cD (lD 3 encValue p0)), (1, cD (lD 3 encValue p1)), (2, cD (.fn 71 [])), (8, .c (.ptr 8 0)), (9, .c (.ptr 9 0)), (11, cD (lD 3 encValue p0)), (12, cD (dI (p0.length : Int))), (13, cD (dI ((i1 : Nat) : Int)))], [(8, .box (cValue (p0.getD i1 default))), (9, .box (cValue (p1.getD i1 default)))]⟩ (True ∧ True ∧ ((0 : Int) ≤ ((i1 : Nat) : Int) ∧ ((i1 : Nat) : Int) < (p1.length : Int)) ∧ True ∧ True ∧ True ∧ True) (by kernel_rfl) ⟨trivial, trivial, hc4, trivial, trivial, trivial, trivial⟩ ?_
    refine Tri.seqS ?_
    refine Tri.reg ?_
    refine At.seg 3 [0, 1, 2, 11, 12, 13, 26, 27, 28] [] (s' := ⟨[(0, cD (lD 3 encValue p0)), (1, cD (lD 3 encValue p1)), (2, cD (.fn 71 [])), (11, cD (lD 3 encValue p0)), (12, cD (dI (p0.length : Int))), (13, cD (dI ((i1 : Nat) : Int))), (26, cD (.fn 71 [])), (27, .agg (cValue (p0.getD i1 default))), (28, .agg (cValue (p1.getD i1 default)))], []⟩) (c := True ∧ True ∧ True ∧ True) (by kernel_rfl) ⟨trivial, trivial, trivial, trivial⟩ ?_
    obtain ⟨r5, hr5, h⟩ := bind_elim h
    refine At.callA (caps := []) (xs := [.agg (cValue (p0.getD i1 default)), .agg (cValue (p1.getD i1 default))]) (value_Compare_ok hr5) rfl rfl rfl rfl rfl rfl (.cons (.refl _) (.cons (.refl _) .nil)) rfl rfl ?_
    refine At.seg 1 [0, 1, 2, 10, 11, 12, 13] [] (s' := ⟨[(0, cD (lD 3 encValue p0)), (1, cD (lD 3 encValue p1)), (2, cD (.fn 71 [])), (10, cD (dI r5)), (11, cD (lD 3 encValue p0)), (12, cD (dI (p0.length : Int))), (13, cD (dI ((i1 : Nat) : Int)))], []⟩) (c := True ∧ True) (by kernel_rfl) ⟨trivial, trivial⟩ ?_
    refine At.done rfl ?_
    show Tri _ _ _ _
    refine Tri.segL [0, 1, 2, 10, 11, 12, 13, 31] [] ⟨[(0, cD (lD 3 encValue p0)), (1, cD (lD 3 encValue p1)), (2, cD (.fn 71 [])), (10, cD (dI r5)), (11, cD (lD 3 encValue p0)), (12, cD (dI (p0.length : Int))), (13, cD (dI ((i1 : Nat) : Int))), (31, cD (.bool (!decide (r5 = 0))))], []⟩ (allT 2) (by kernel_rfl) (allT_ok 2) ?_
    refine Tri.condP (b := (!decide (r5 = 0))) rfl h (fun h => ?_) (fun h => ?_)
    ·refine Tri.segC [6] [] (allT 2) (by kernel_rfl) (by kernel_rfl) (allT_ok 2) ?_
     refine Tri.keep [6] [] (s' := ⟨[(6, cD (dI r5))], []⟩) (by kernel_rfl) ?_
     refine Tri.ret ?_
     cases h
     refine ⟨_, _, rfl, ⟨trivial, trivial⟩, rfl, rfl, ?_⟩
     intro k c h
     cases h
    ·refine Tri.keep [13, 0, 1, 2, 11, 12] [] (s' := ⟨[(13, cD (dI ((i1 : Nat) : Int))), (0, cD (lD 3 encValue p0)), (1, cD (lD 3 encValue p1)), (2, cD (.fn 71 [])), (11, cD (lD 3 encValue p0)), (12, cD (dI (p0.length : Int)))], []⟩) (by kernel_rfl) ?_
     refine Tri.skip ?_
     cases h
     exact rfl
  ·intro a3 h
   show Tri _ _ _ _
   refine Tri.seqS ?_
   refine Tri.segL [38] [] ⟨[(38, cD (.bool (decide ((p0.length : Int) < (p1.length : Int)))))], []⟩ (allT 5) (by kernel_rfl) (allT_ok 5) ?_
   refine Tri.condP (b := (decide ((p0.length : Int) < (p1.length : Int)))) rfl h (fun h => ?_) (fun h => ?_)
   ·refine Tri.segC [6] [] (allT 1) (by kernel_rfl) (by kernel_rfl) (allT_ok 1) ?_
    refine Tri.keep [6] [] (s' := ⟨[(6, cD (dI (-1)))], []⟩) (by kernel_rfl) ?_
    refine Tri.ret ?_
    cases h
    refine ⟨_, _, rfl, ⟨trivial, trivial⟩, rfl, rfl, ?_⟩
    intro k c h
    cases h
   ·refine Tri.skip ?_
    show Tri _ _ _ _
    refine Tri.segC [6] [] (allT 1) (by kernel_rfl) (by kernel_rfl) (allT_ok 1) ?_
    refine Tri.keep [6] [] (s' := ⟨[(6, cD (dI 0))], []⟩) (by kernel_rfl) ?_
    refine Tri.ret ?_
    cases h
    refine ⟨_, _, rfl, ⟨trivial, trivial⟩, rfl, rfl, ?_⟩
    intro k c h
    cases h
  · exact fun x s hx hr => by cases hx; exact hr
set_option maxRecDepth 100000 in
theorem value_Rows_ok {p0 : List Value} {p1 : List Value} {q : Int} (h : value_Rows p0 p1 = some q) :
    Summ Try.prog 51 [cD (lD 3 encValue p0), cD (lD 3 encValue p1)] [] (cD (dI q)) [] := by
  refine Summ.intro Try.func51 rfl (by kernel_rfl) (by kernel_rfl) [] rfl ?_
  rintro ⟨P, w0, G0, V, LL, lk, N, φ0, fx⟩ rfl rfl rfl rfl
  unfold value_Rows at h
  refine Tri.segL [0, 1] [] ⟨[(0, cD (lD 3 encValue p0)), (1, cD (lD 3 encValue p1))], []⟩ (allT 1) (by kernel_rfl) (allT_ok 1) ?_
  refine Tri.seqS ?_
  refine Tri.reg ?_
  refine At.seg 2 [5, 6] [] (s' := ⟨[(5, cD (lD 3 encValue p0)), (6, cD (lD 3 encValue p1))], []⟩) (c := True ∧ True ∧ True) (by kernel_rfl) ⟨trivial, trivial, trivial⟩ ?_
  obtain ⟨r1, hr1, h⟩ := bind_elim h
  refine At.callA (caps := []) (xs := [cD (lD 3 encValue p0), cD (lD 3 encValue p1), cD (.fn 71 [])]) (slices_CompareFuncfreshet_api_Value_freshet_api_Value_freshet_api_Value_freshet_api_Value_Value__value_Compare_ok hr1) rfl rfl rfl rfl rfl rfl (.cons (.refl _) (.cons (.refl _) (.cons (.refl _) .nil))) rfl rfl ?_
  refine At.seg 1 [4] [] (s' := ⟨[(4, cD (dI r1))], []⟩) (c := True ∧ True) (by kernel_rfl) ⟨trivial, trivial⟩ ?_
  refine At.done rfl ?_
  show Tri _ _ _ _
  refine Tri.keep [4] [] (s' := ⟨[(4, cD (dI r1))], []⟩) (by kernel_rfl) ?_
  refine Tri.ret ?_
  cases h
  refine ⟨_, _, rfl, ⟨trivial, trivial⟩, rfl, rfl, ?_⟩
  intro k c h
  cases h
set_option maxRecDepth 100000 in
theorem cmp_isNaN_uint64_ok {p0 : Int} {q : Bool} (h : cmp_isNaN_uint64 p0 = some q) :
    Summ Try.prog 87 [cD (dU p0)] [] (cD (.bool q)) [] := by
  refine Summ.intro Try.func87 rfl (by kernel_rfl) (by kernel_rfl) [] rfl ?_
  rintro ⟨P, w0, G0, V, LL, lk, N, φ0, fx⟩ rfl rfl rfl rfl
  unfold cmp_isNaN_uint64 at h
  refine Tri.segC [0] [] (allT 1) (by kernel_rfl) (by kernel_rfl) (allT_ok 1) ?_
  refine Tri.segC [2] [] (allT 4) (by kernel_rfl) (by kernel_rfl) (allT_ok 4) ?_
  refine Tri.keep [2] [] (s' := ⟨[(2, cD (.bool (!decide (p0 = p0))))], []⟩) (by kernel_rfl) ?_
  refine Tri.ret ?_
  cases h
  refine ⟨_, _, rfl, ⟨trivial, trivial⟩, rfl, rfl, ?_⟩
  intro k c h
  cases h
set_option maxRecDepth 100000 in
theorem cmp_Compare_uint64_ok {p0 : Int} {p1 : Int} {q : Int} (h : cmp_Compare_uint64 p0 p1 = some q) :
    Summ Try.prog 72 [cD (dU p0), cD (dU p1)] [] (cD (dI q)) [] := by
  refine Summ.intro Try.func72 rfl (by kernel_rfl) (by kernel_rfl) [] rfl ?_
  rintro ⟨P, w0, G0, V, LL, lk, N, φ0, fx⟩ rfl rfl rfl rfl
  unfold cmp_Compare_uint64 at h
  refine Tri.segL [0, 1] [] ⟨[(0, cD (dU p0)), (1, cD (dU p1))], []⟩ (allT 1) (by kernel_rfl) (allT_ok 1) ?_
  refine Tri.seqS ?_
  refine Tri.reg ?_
  refine At.seg 1 [0, 1, 7] [] (s' := ⟨[(0, cD (dU p0)), (1, cD (dU p1)), (7, cD (dU p0))], []⟩) (c := True ∧ True) (by kernel_rfl) ⟨trivial, trivial⟩ ?_
  obtain ⟨r1, hr1, h⟩ := bind_elim h
  refine At.callA (caps := []) (xs := [cD (dU p0)]) (cmp_isNaN_uint64_ok hr1) rfl rfl rfl rfl rfl rfl (.cons (.refl _) .nil) rfl rfl ?_
  refine At.seg 1 [0, 1, 5] [] (s' := ⟨[(0, cD (dU p0)), (1, cD (dU p1)), (5, cD (.bool r1))], []⟩) (c := True ∧ True) (by kernel_rfl) ⟨trivial, trivial⟩ ?_
  refine At.done rfl ?_
  show Tri _ _ _ _
  refine Tri.seqS ?_
  refine Tri.reg ?_
  refine At.seg 1 [0, 1, 5, 9] [] (s' := ⟨[(0, cD (dU p0)), (1, cD (dU p1)), (5, cD (.bool r1)), (9, cD (dU p1))], []⟩) (c := True ∧ True) (by kernel_rfl) ⟨trivial, trivial⟩ ?_
  obtain ⟨r2, hr2, h⟩ := bind_elim h
  refine At.callA (caps := []) (xs := [cD (dU p1)]) (cmp_isNaN_uint64_ok hr2) rfl rfl rfl rfl rfl rfl (.cons (.refl _) .nil) rfl rfl ?_
  refine At.seg 1 [0, 1, 5, 6] [] (s' := ⟨[(0, cD (dU p0)), (1, cD (dU p1)), (5, cD (.bool r1)), (6, cD (.bool r2))], []⟩) (c := True ∧ True) (by kernel_rfl) ⟨trivial, trivial⟩ ?_
  refine At.done rfl ?_
  show Tri _ _ _ _
  refine Tri.seqS ?_
  refine Tri.segL [0, 1, 6, 11] [] ⟨[(0, cD (dU p0)), (1, cD (dU p1)), (6, cD (.bool r2)), (11, cD (.bool r1))], []⟩ (allT 1) (by kernel_rfl) (allT_ok 1) ?_
  refine Tri.condP (b := r1) rfl h (fun h => ?_) (fun h => ?_)
  ·refine Tri.seqS ?_
   refine Tri.segL [12] [] ⟨[(12, cD (.bool r2))], []⟩ (allT 1) (by kernel_rfl) (allT_ok 1) ?_
   refine Tri.condP (b := r2) rfl h (fun h => ?_) (fun h => ?_)
   ·refine Tri.segC [4] [] (allT 1) (by kernel_rfl) (by kernel_rfl) (allT_ok 1) ?_
    refine Tri.keep [4] [] (s' := ⟨[(4, cD (dI 0))], []⟩) (by kernel_rfl) ?_
    refine Tri.ret ?_
    cases h
    refine ⟨_, _, rfl, ⟨trivial, trivial⟩, rfl, rfl, ?_⟩
    intro k c h
    cases h
   ·refine Tri.skip ?_
    show Tri _ _ _ _
    refine Tri.segC [4] [] (allT 1) (by kernel_rfl) (by kernel_rfl) (allT_ok 1) ?_
    refine Tri.keep [4] [] (s' := ⟨[(4, cD (dI (-1)))], []⟩) (by kernel_rfl) ?_
    refine Tri.ret ?_
    cases h
    refine ⟨_, _, rfl, ⟨trivial, trivial⟩, rfl, rfl, ?_⟩
    intro k c h
    cases h
  ·refine Tri.skip ?_
   show Tri _ _ _ _
   refine Tri.seqS ?_
   refine Tri.segL [0, 1, 13] [] ⟨[(0, cD (dU p0)), (1, cD (dU p1)), (13, cD (.bool r2))], []⟩ (allT 1) (by kernel_rfl) (allT_ok 1) ?_
   refine Tri.condP (b := r2) rfl h (fun h => ?_) (fun h => ?_)
   ·refine Tri.segC [4] [] (allT 1) (by kernel_rfl) (by kernel_rfl) (allT_ok 1) ?_
    refine Tri.keep [4] [] (s' := ⟨[(4, cD (dI 1))], []⟩) (by kernel_rfl) ?_
    refine Tri.ret ?_
    cases h
    refine ⟨_, _, rfl, ⟨trivial, trivial⟩, rfl, rfl, ?_⟩
    intro k c h
    cases h
   ·refine Tri.skip ?_
    show Tri _ _ _ _
    refine Tri.seqS ?_
    refine Tri.segL [0, 1, 16] [] ⟨[(0, cD (dU p0)), (1, cD (dU p1)), (16, cD (.bool (decide (p0 < p1))))], []⟩ (allT 3) (by kernel_rfl) (allT_ok 3) ?_
    refine Tri.condP (b := (decide (p0 < p1))) rfl h (fun h => ?_) (fun h => ?_)
    ·refine Tri.segC [4] [] (allT 1) (by kernel_rfl) (by kernel_rfl) (allT_ok 1) ?_
     refine Tri.keep [4] [] (s' := ⟨[(4, cD (dI (-1)))], []⟩) (by kernel_rfl) ?_
     refine Tri.ret ?_
     cases h
     refine ⟨_, _, rfl, ⟨trivial, trivial⟩, rfl, rfl, ?_⟩
     intro k c h
     cases h
    ·refine Tri.skip ?_
     show Tri _ _ _ _
     refine Tri.seqS ?_
     refine Tri.segL [19] [] ⟨[(19, cD (.bool (decide (p1 < p0))))], []⟩ (allT 3) (by kernel_rfl) (allT_ok 3) ?_
     refine Tri.condP (b := (decide (p1 < p0))) rfl h (fun h => ?_) (fun h => ?_)
     ·refine Tri.segC [4] [] (allT 1) (by kernel_rfl) (by kernel_rfl) (allT_ok 1) ?_
      refine Tri.keep [4] [] (s' := ⟨[(4, cD (dI 1))], []⟩) (by kernel_rfl) ?_
      refine Tri.ret ?_
      cases h
      refine ⟨_, _, rfl, ⟨trivial, trivial⟩, rfl, rfl, ?_⟩
      intro k c h
      cases h
     ·refine Tri.skip ?_
      show Tri _ _ _ _
      refine Tri.segC [4] [] (allT 1) (by kernel_rfl) (by kernel_rfl) (allT_ok 1) ?_
      refine Tri.keep [4] [] (s' := ⟨[(4, cD (dI 0))], []⟩) (by kernel_rfl) ?_
      refine Tri.ret ?_
      cases h
      refine ⟨_, _, rfl, ⟨trivial, trivial⟩, rfl, rfl, ?_⟩
      intro k c h
      cases h
set_option maxRecDepth 100000 in
theorem slices_Compareuint64_uint64_uint64_ok_v0v1 {p0 : List Int} {p1 : List Int} {q : Int} (h : slices_Compareuint64_uint64_uint64 p0 p1 = some q) :
    Summ Try.prog 73 [.c (wC 1 (encInt .u64) p0), .c (wC 1 (encInt .u64) p1)] [] (cD (dI q)) [] := by
  refine Summ.intro Try.func73 rfl (by kernel_rfl) (by kernel_rfl) [] rfl ?_
  rintro ⟨P, w0, G0, V, LL, lk, N, φ0, fx⟩ rfl rfl rfl rfl
  unfold slices_Compareuint64_uint64_uint64 at h
  refine Tri.segL [0, 1] [] ⟨[(0, .c (wC 1 (encInt .u64) p0)), (1, .c (wC 1 (encInt .u64) p1))], []⟩ (allT 1) (by kernel_rfl) (allT_ok 1) ?_
  refine Tri.seqS ?_
  refine Tri.segL [0, 1, 9, 10, 11] [] ⟨[(0, .c (wC 1 (encInt .u64) p0)), (1, .c (wC 1 (encInt .u64) p1)), (9, .c (wC 1 (encInt .u64) p0)), (10, cD (dI (p0.length : Int))), (11, cD (dI 0))], []⟩ (allT 3) (by kernel_rfl) (allT_ok 3) ?_
  refine Tri.lenOfV (t := 9) rfl fun hlena2 => ?_
  refine Tri.keep [11, 0, 1, 9, 10] [] (s' := idx 11 0 ⟨[(0, .c (wC 1 (encInt .u64) p0)), (1, .c (wC 1 (encInt .u64) p1)), (9, .c (wC 1 (encInt .u64) p0)), (10, cD (dI (p0.length : Int)))], []⟩) (by kernel_rfl) ?_
  refine Tri.range (n := p0.length) (st0 := ()) (fun (x : Int) s => RetAt Try.prog Try.f73 (cD (dI x)) [] s) (fun (a2 : Unit) => ⟨[(0, .c (wC 1 (encInt .u64) p0)), (1, .c (wC 1 (encInt .u64) p1)), (9, .c (wC 1 (encInt .u64) p0)), (10, cD (dI (p0.length : Int)))], []⟩) (fun (a2 : Unit) => ⟨[(0, .c (wC 1 (encInt .u64) p0)), (1, .c (wC 1 (encInt .u64) p1)), (9, .c (wC 1 (encInt .u64) p0)), (10, cD (dI (p0.length : Int)))], []⟩) (fun i => decide ((i : Int) < (p0.length : Int))) [12, 11, 0, 1, 9, 10] [] [0, 1, 9, 10] [] [11, 0, 1, 9, 10] [] h hlena2 rfl ?_ ?_ ?_ ?_ ?_ ?_ ?_ ?_
  · exact fun i a => ⟨True ∧ True, by kernel_rfl, ⟨trivial, trivial⟩⟩
  · exact fun i hi => decide_eq_true (by omega)
  · exact decide_eq_false (by omega)
  · exact fun a => by kernel_rfl
  · exact fun i a => ⟨True ∧ True ∧ True, by kernel_rfl, ⟨trivial, trivial, trivial⟩⟩
  ·intro i1 a2 c hii1 h
   refine Tri.segL [0, 1, 5, 6, 9, 10, 11] [] ⟨[(0, .c (wC 1 (encInt .u64) p0)), (1, .c (wC 1 (encInt .u64) p1)), (5, cD (dI ((i1 : Nat) : Int))), (6, cD (dU (p0.getD i1 default))), (9, .c (wC 1 (encInt .u64) p0)), (10, cD (dI (p0.length : Int))), (11, cD (dI ((i1 : Nat) : Int)))], []⟩ (True ∧ ((0 : Int) ≤ ((i1 : Nat) : Int) ∧ ((i1 : Nat) : Int) < (p0.length : Int)) ∧ True ∧ True ∧ True ∧ True) (by kernel_rfl) ⟨trivial, ⟨by omega, by omega⟩, trivial, trivial, trivial, trivial⟩ ?_
   refine Tri.seqS ?_
   refine Tri.segL [0, 1, 5, 6, 9, 10, 11, 19] [] ⟨[(0, .c (wC 1 (encInt .u64) p0)), (1, .c (wC 1 (encInt .u64) p1)), (5, cD (dI ((i1 : Nat) : Int))), (6, cD (dU (p0.getD i1 default))), (9, .c (wC 1 (encInt .u64) p0)), (10, cD (dI (p0.length : Int))), (11, cD (dI ((i1 : Nat) : Int))), (19, cD (.bool (decide ((p1.length : Int) ≤ ((i1 : Nat) : Int)))))], []⟩ (allT 4) (by kernel_rfl) (allT_ok 4) ?_
   refine Tri.condP (b := (decide ((p1.length : Int) ≤ ((i1 : Nat) : Int)))) rfl h (fun h => ?_) (fun h => ?_)
   ·refine Tri.segC [4] [] (allT 1) (by kernel_rfl) (by kernel_rfl) (allT_ok 1) ?_
    refine Tri.keep [4] [] (s' := ⟨[(4, cD (dI 1))], []⟩) (by kernel_rfl) ?_
    refine Tri.ret ?_
    cases h
    refine ⟨_, _, rfl, ⟨trivial, trivial⟩, rfl, rfl, ?_⟩
    intro k c h
    cases h
   ·refine Tri.skip ?_
    show Tri _ _ _ _
    obtain ⟨hc4, h⟩ := need_elim h
    refine Tri.segL [0, 1, 6, 7, 9, 10, 11] [] ⟨[(0, .c (wC 1 (encInt .u64) p0)), (1, .c (wC 1 (encInt .u64) p1)), (6, cD (dU (p0.getD i1 default))), (7, cD (dU (p1.getD i1 default))), (9, .c (wC 1 (encInt .u64) p0)), (10, cD (dI (p0.length : Int))), (11, cD (dI ((i1 : Nat) : Int)))], []⟩ (True ∧ True ∧ ((0 : Int) ≤ ((i1 : Nat) : Int) ∧ ((i1 : Nat) : Int) < (p1.length : Int)) ∧ True ∧ True ∧ True) (by kernel_rfl) ⟨trivial, trivial, hc4, trivial, trivial, trivial⟩ ?_
    refine Tri.seqS ?_
    refine Tri.reg ?_
    refine At.seg 2 [0, 1, 9, 10, 11, 24, 25] [] (s' := ⟨[(0, .c (wC 1 (encInt .u64) p0)), (1, .c (wC 1 (encInt .u64) p1)), (9, .c (wC 1 (encInt .u64) p0)), (10, cD (dI (p0.length : Int))), (11, cD (dI ((i1 : Nat) : Int))), (24, cD (dU (p0.getD i1 default))), (25, cD (dU (p1.getD i1 default)))], []⟩) (c := True ∧ True ∧ True) (by kernel_rfl) ⟨trivial, trivial, trivial⟩ ?_
    obtain ⟨r5, hr5, h⟩ := bind_elim h
    refine At.callA (caps := []) (xs := [cD (dU (p0.getD i1 default)), cD (dU (p1.getD i1 default))]) (cmp_Compare_uint64_ok hr5) rfl rfl rfl rfl rfl rfl (.cons (.refl _) (.cons (.refl _) .nil)) rfl rfl ?_
    refine At.seg 1 [0, 1, 8, 9, 10, 11] [] (s' := ⟨[(0, .c (wC 1 (encInt .u64) p0)), (1, .c (wC 1 (encInt .u64) p1)), (8, cD (dI r5)), (9, .c (wC 1 (encInt .u64) p0)), (10, cD (dI (p0.length : Int))), (11, cD (dI ((i1 : Nat) : Int)))], []⟩) (c := True ∧ True) (by kernel_rfl) ⟨trivial, trivial⟩ ?_
    refine At.done rfl ?_
    show Tri _ _ _ _
    refine Tri.segL [0, 1, 8, 9, 10, 11, 28] [] ⟨[(0, .c (wC 1 (encInt .u64) p0)), (1, .c (wC 1 (encInt .u64) p1)), (8, cD (dI r5)), (9, .c (wC 1 (encInt .u64) p0)), (10, cD (dI (p0.length : Int))), (11, cD (dI ((i1 : Nat) : Int))), (28, cD (.bool (!decide (r5 = 0))))], []⟩ (allT 2) (by kernel_rfl) (allT_ok 2) ?_
    refine Tri.condP (b := (!decide (r5 = 0))) rfl h (fun h => ?_) (fun h => ?_)
    ·refine Tri.segC [4] [] (allT 2) (by kernel_rfl) (by kernel_rfl) (allT_ok 2) ?_
     refine Tri.keep [4] [] (s' := ⟨[(4, cD (dI r5))], []⟩) (by kernel_rfl) ?_
     refine Tri.ret ?_
     cases h
     refine ⟨_, _, rfl, ⟨trivial, trivial⟩, rfl, rfl, ?_⟩
     intro k c h
     cases h
    ·refine Tri.keep [11, 0, 1, 9, 10] [] (s' := ⟨[(11, cD (dI ((i1 : Nat) : Int))), (0, .c (wC 1 (encInt .u64) p0)), (1, .c (wC 1 (encInt .u64) p1)), (9, .c (wC 1 (encInt .u64) p0)), (10, cD (dI (p0.length : Int)))], []⟩) (by kernel_rfl) ?_
     refine Tri.skip ?_
     cases h
     exact rfl
  ·intro a3 h
   show Tri _ _ _ _
   refine Tri.seqS ?_
   refine Tri.segL [35] [] ⟨[(35, cD (.bool (decide ((p0.length : Int) < (p1.length : Int)))))], []⟩ (allT 5) (by kernel_rfl) (allT_ok 5) ?_
   refine Tri.condP (b := (decide ((p0.length : Int) < (p1.length : Int)))) rfl h (fun h => ?_) (fun h => ?_)
   ·refine Tri.segC [4] [] (allT 1) (by kernel_rfl) (by kernel_rfl) (allT_ok 1) ?_
    refine Tri.keep [4] [] (s' := ⟨[(4, cD (dI (-1)))], []⟩) (by kernel_rfl) ?_
    refine Tri.ret ?_
    cases h
    refine ⟨_, _, rfl, ⟨trivial, trivial⟩, rfl, rfl, ?_⟩
    intro k c h
    cases h
   ·refine Tri.skip ?_
    show Tri _ _ _ _
    refine Tri.segC [4] [] (allT 1) (by kernel_rfl) (by kernel_rfl) (allT_ok 1) ?_
    refine Tri.keep [4] [] (s' := ⟨[(4, cD (dI 0))], []⟩) (by kernel_rfl) ?_
    refine Tri.ret ?_
    cases h
    refine ⟨_, _, rfl, ⟨trivial, trivial⟩, rfl, rfl, ?_⟩
    intro k c h
    cases h
  · exact fun x s hx hr => by cases hx; exact hr
set_option maxRecDepth 100000 in
theorem cmp_Or_int_ok_v0 {p0 : List Int} {q : Int} (h : cmp_Or_int p0 = some q) :
    Summ Try.prog 50 [.c (wC 1 (encInt .i64) p0)] [] (cD (dI q)) [] := by
  refine Summ.intro Try.func50 rfl (by kernel_rfl) (by kernel_rfl) [] rfl ?_
  rintro ⟨P, w0, G0, V, LL, lk, N, φ0, fx⟩ rfl rfl rfl rfl
  unfold cmp_Or_int at h
  refine Tri.segC [0] [] (allT 1) (by kernel_rfl) (by kernel_rfl) (allT_ok 1) ?_
  refine Tri.segL [0, 3] [] ⟨[(0, .c (wC 1 (encInt .i64) p0)), (3, cD (dI 0))], []⟩ (allT 1) (by kernel_rfl) (allT_ok 1) ?_
  refine Tri.seqS ?_
  refine Tri.segL [3, 6, 7, 8] [] ⟨[(3, cD (dI 0)), (6, .c (wC 1 (encInt .i64) p0)), (7, cD (dI (p0.length : Int))), (8, cD (dI 0))], []⟩ (allT 3) (by kernel_rfl) (allT_ok 3) ?_
  refine Tri.lenOfV (t := 6) rfl fun hlena2 => ?_
  refine Tri.keep [8, 3, 6, 7] [] (s' := idx 8 0 ⟨[(3, cD (dI 0)), (6, .c (wC 1 (encInt .i64) p0)), (7, cD (dI (p0.length : Int)))], []⟩) (by kernel_rfl) ?_
  refine Tri.range (n := p0.length) (st0 := ()) (fun (x : Int) s => RetAt Try.prog Try.f50 (cD (dI x)) [] s) (fun (a2 : Unit) => ⟨[(3, cD (dI 0)), (6, .c (wC 1 (encInt .i64) p0)), (7, cD (dI (p0.length : Int)))], []⟩) (fun (a2 : Unit) => ⟨[(3, cD (dI 0)), (6, .c (wC 1 (encInt .i64) p0)), (7, cD (dI (p0.length : Int)))], []⟩) (fun i => decide ((i : Int) < (p0.length : Int))) [9, 8, 3, 6, 7] [] [3, 6, 7] [] [8, 3, 6, 7] [] h hlena2 rfl ?_ ?_ ?_ ?_ ?_ ?_ ?_ ?_
  · exact fun i a => ⟨True ∧ True, by kernel_rfl, ⟨trivial, trivial⟩⟩
  · exact fun i hi => decide_eq_true (by omega)
  · exact decide_eq_false (by omega)
  · exact fun a => by kernel_rfl
  · exact fun i a => ⟨True ∧ True ∧ True, by kernel_rfl, ⟨trivial, trivial, trivial⟩⟩
  ·intro i1 a2 c hii1 h
   refine Tri.segC [3, 5, 6, 7, 8] [] (((0 : Int) ≤ ((i1 : Nat) : Int) ∧ ((i1 : Nat) : Int) < (p0.length : Int)) ∧ True ∧ True ∧ True) (by kernel_rfl) (by kernel_rfl) ⟨⟨by omega, by omega⟩, trivial, trivial, trivial⟩ ?_
   refine Tri.segL [3, 5, 6, 7, 8, 14] [] ⟨[(3, cD (dI 0)), (5, cD (dI (p0.getD i1 default))), (6, .c (wC 1 (encInt .i64) p0)), (7, cD (dI (p0.length : Int))), (8, cD (dI ((i1 : Nat) : Int))), (14, cD (.bool (!decide ((p0.getD i1 default) = 0))))], []⟩ (allT 3) (by kernel_rfl) (allT_ok 3) ?_
   refine Tri.condP (b := (!decide ((p0.getD i1 default) = 0))) rfl h (fun h => ?_) (fun h => ?_)
   ·refine Tri.segC [2] [] (allT 2) (by kernel_rfl) (by kernel_rfl) (allT_ok 2) ?_
    refine Tri.keep [2] [] (s' := ⟨[(2, cD (dI (p0.getD i1 default)))], []⟩) (by kernel_rfl) ?_
    refine Tri.ret ?_
    cases h
    refine ⟨_, _, rfl, ⟨trivial, trivial⟩, rfl, rfl, ?_⟩
    intro k c h
    cases h
   ·refine Tri.keep [8, 3, 6, 7] [] (s' := ⟨[(8, cD (dI ((i1 : Nat) : Int))), (3, cD (dI 0)), (6, .c (wC 1 (encInt .i64) p0)), (7, cD (dI (p0.length : Int)))], []⟩) (by kernel_rfl) ?_
    refine Tri.skip ?_
    cases h
    exact rfl
  ·intro a3 h
   show Tri _ _ _ _
   refine Tri.segC [2] [] (allT 2) (by kernel_rfl) (by kernel_rfl) (allT_ok 2) ?_
   refine Tri.keep [2] [] (s' := ⟨[(2, cD (dI 0))], []⟩) (by kernel_rfl) ?_
   refine Tri.ret ?_
   cases h
   refine ⟨_, _, rfl, ⟨trivial, trivial⟩, rfl, rfl, ?_⟩
   intro k c h
   cases h
  · exact fun x s hx hr => by cases hx; exact hr
set_option maxRecDepth 100000 in
theorem moment_Compare_ok {p0 : Time} {p1 : Time} {q : Int} (h : moment_Compare p0 p1 = some q) :
    Summ Try.prog 52 [.agg (cTime p0), .agg (cTime p1)] [] (cD (dI q)) [] := by
  refine Summ.intro Try.func52 rfl (by kernel_rfl) (by kernel_rfl) [] rfl ?_
  rintro ⟨P, w0, G0, V, LL, lk, N, φ0, fx⟩ rfl rfl rfl rfl
  unfold moment_Compare at h
  refine Tri.segL [2, 3] [2, 3] ⟨[(2, .c (.ptr 2 0)), (3, .c (.ptr 3 0))], [(2, .box (cTime p0)), (3, .box (cTime p1))]⟩ (allT 3) (by kernel_rfl) (allT_ok 3) ?_
  refine Tri.seqS ?_
  refine Tri.seqS ?_
  refine Tri.reg ?_
  refine At.seg 4 [2, 3, 6, 8] [2, 3] (s' := ⟨[(2, .c (.ptr 2 0)), (3, .c (.ptr 3 0)), (6, .agg [.d (dU p0.loop.1), .d (dU p0.loop.2)]), (8, .agg [.d (dU p1.loop.1), .d (dU p1.loop.2)])], [(2, .box (cTime p0)), (3, .box (cTime p1))]⟩) (c := True ∧ True ∧ True ∧ True ∧ True) (by kernel_rfl) ⟨trivial, trivial, trivial, trivial, trivial⟩ ?_
  refine At.one rfl (One.eql (b := (decide (p0.loop.1 = p1.loop.1) && (decide (p0.loop.2 = p1.loop.2) && true))) (d := 9) rfl rfl rfl (.inl rfl) rfl rfl (by kernel_rfl) rfl (by kernel_rfl)) ?_
  refine At.done rfl ?_
  show Tri _ _ _ _
  refine Tri.condP (b := (decide (p0.loop.1 = p1.loop.1) && (decide (p0.loop.2 = p1.loop.2) && true))) rfl h (fun h => ?_) (fun h => ?_)
  ·refine Tri.seqS ?_
   refine Tri.reg ?_
   refine At.seg 4 [11, 13] [] (s' := ⟨[(11, cD (dU p0.epoch)), (13, cD (dU p1.epoch))], []⟩) (c := True ∧ True ∧ True ∧ True ∧ True) (by kernel_rfl) ⟨trivial, trivial, trivial, trivial, trivial⟩ ?_
   obtain ⟨r1, hr1, h⟩ := bind_elim h
   refine At.callA (caps := []) (xs := [cD (dU p0.epoch), cD (dU p1.epoch)]) (cmp_Compare_uint64_ok hr1) rfl rfl rfl rfl rfl rfl (.cons (.refl _) (.cons (.refl _) .nil)) rfl rfl ?_
   refine At.seg 1 [4] [] (s' := ⟨[(4, cD (dI r1))], []⟩) (c := True ∧ True) (by kernel_rfl) ⟨trivial, trivial⟩ ?_
   refine At.done rfl ?_
   show Tri _ _ _ _
   refine Tri.keep [4] [] (s' := ⟨[(4, cD (dI r1))], []⟩) (by kernel_rfl) ?_
   refine Tri.ret ?_
   cases h
   refine ⟨_, _, rfl, ⟨trivial, trivial⟩, rfl, rfl, ?_⟩
   intro k c h
   cases h
  ·refine Tri.skip ?_
   show Tri _ _ _ _
   refine Tri.seqS ?_
   obtain ⟨r2, hr2, h⟩ := bind_elim h
   obtain ⟨r3, hr3, h⟩ := bind_elim h
   obtain ⟨r4, hr4, h⟩ := bind_elim h
   refine Tri.drawnS (s' := ⟨[(4, cD (dI r4))], []⟩) (cs := True ∧ True ∧ True ∧ True ∧ True ∧ (((0 : Int) ≤ 0 ∧ (0 : Int) ≤ 2 ∧ (2 : Int) ≤ 2) ∧ (0 : Int) < 2) ∧ True ∧ (((0 : Int) ≤ 0 ∧ (0 : Int) ≤ 2 ∧ (2 : Int) ≤ 2) ∧ (0 : Int) < 2) ∧ True ∧ True) [.a [2] [], .a [15] [2], .a [3] [], .a [17] [3], .m ⟨[(16, cD (dU p0.epoch)), (18, cD (dU p1.epoch))], []⟩ ⟨[(19, cD (dI r2))], []⟩ [] [] [], .a [2] [], .a [20] [2], .a [3] [], .a [22] [3], .m ⟨[(21, .c (.bsl 2 1 1 2)), (23, .c (.bsl 3 1 1 2))], [(2, .box (cTime p0)), (3, .box (cTime p1))]⟩ ⟨[(24, cD (dI r3))], []⟩ [] [] [], .m ⟨[(19, cD (dI r2)), (24, cD (dI r3))], []⟩ ⟨[(25, .c (oC 25 1 ([r2, r3] : List Int)))], [(25, vL 1 (encInt .i64) ([r2, r3] : List Int))]⟩ [25] [] [], .m ⟨[(25, .c (oC 25 1 ([r2, r3] : List Int)))], [(25, vL 1 (encInt .i64) ([r2, r3] : List Int))]⟩ ⟨[(26, cD (dI r4))], []⟩ [] [] [], .a [26] []] [[], [0], [], [2], [0, 1, 2, 3], [], [5], [], [7], [0, 1, 2, 3, 4, 5, 6, 7, 8], [0, 1, 2, 3, 4, 5, 6, 7, 8, 9], [0, 1, 2, 3, 4, 5, 6, 7, 8, 9, 10], [0, 1, 2, 3, 4, 5, 6, 7, 8, 9, 10, 11]] [4] [] (by kernel_rfl) (by kernel_rfl) (by kernel_rfl) (by kernel_rfl) (by kernel_rfl) ⟨trivial, trivial, trivial, trivial, trivial, ⟨⟨by decide, by decide, by decide⟩, by decide⟩, trivial, ⟨⟨by decide, by decide, by decide⟩, by decide⟩, trivial, trivial⟩ (.a (.a (.a (.a (.m ?_ (.a (.a (.a (.a (.m ?_ (.m ?_ (.m ?_ (.a .z))))))))))))) (by kernel_rfl) ?_
   · exact DOk.callA (caps := []) (xs := [cD (dU p0.epoch), cD (dU p1.epoch)]) (cmp_Compare_uint64_ok hr2) rfl (fun r => by kernel_rfl) rfl (fun r => by kernel_rfl) (fun r => by kernel_rfl) (fun r => (.cons (.refl _) (.cons (.refl _) .nil))) rfl rfl (fun r => rfl)
   · exact DOk.callA (caps := []) (xs := [.c (.bsl 2 1 1 2), .c (.bsl 3 1 1 2)]) (slices_Compareuint64_uint64_uint64_ok_v0v1 hr3) rfl (fun r => by kernel_rfl) rfl (fun r => by kernel_rfl) (fun r => by kernel_rfl) (fun r => (.cons (.c (.bsl (cs := [.d (dU p0.epoch), .d (dU p0.loop.1), .d (dU p0.loop.2)]) (ds := [dU p0.loop.1, dU p0.loop.2]) rfl rfl rfl rfl (by unfold maxN; omega) (fun i hi => by match i, hi with | 0, _ => rfl | 1, _ => rfl))) (.cons (.c (.bsl (cs := [.d (dU p1.epoch), .d (dU p1.loop.1), .d (dU p1.loop.2)]) (ds := [dU p1.loop.1, dU p1.loop.2]) rfl rfl rfl rfl (by unfold maxN; omega) (fun i hi => by match i, hi with | 0, _ => rfl | 1, _ => rfl))) .nil))) rfl rfl (fun r => rfl)
   · exact DOk.one fun r hr => One.buildT (e := 3) (es := 1) (z := [.d (dI 0)]) (cells := [.d (dI r2), .d (dI r3)]) (encInt .i64) ([r2, r3] : List Int) rfl (by kernel_rfl) rfl rfl (St.noRef_app (by kernel_rfl) (hr 25 (by simp))) (by kernel_rfl) rfl (by kernel_rfl) rfl rfl rfl (by kernel_rfl) rfl ⟨⟨rfl, .refl _⟩, ⟨rfl, .refl _⟩, trivial⟩
   · exact DOk.callA (caps := []) (xs := [.c (oC 25 1 ([r2, r3] : List Int))]) (cmp_Or_int_ok_v0 hr4) rfl (fun r => by kernel_rfl) rfl (fun r => by kernel_rfl) (fun r => by kernel_rfl) (fun r => (.cons (AVArg.view (encInt .i64) ([r2, r3] : List Int) rfl) .nil)) rfl rfl (fun r => rfl)
   show Tri _ _ _ _
   refine Tri.keep [4] [] (s' := ⟨[(4, cD (dI r4))], []⟩) (by kernel_rfl) ?_
   refine Tri.ret ?_
   cases h
   refine ⟨_, _, rfl, ⟨trivial, trivial⟩, rfl, rfl, ?_⟩
   intro k c h
   cases h
set_option maxRecDepth 100000 in
theorem diff_Compare_ok {p0 : Update} {p1 : Update} {q : Int} (h : diff_Compare p0 p1 = some q) :
    Summ Try.prog 24 [.agg (cUpdate p0), .agg (cUpdate p1)] [] (cD (dI q)) [] := by
  refine Summ.intro Try.func24 rfl (by kernel_rfl) (by kernel_rfl) [] rfl ?_
  rintro ⟨P, w0, G0, V, LL, lk, N, φ0, fx⟩ rfl rfl rfl rfl
  unfold diff_Compare at h
  refine Tri.segL [2, 3] [2, 3] ⟨[(2, .c (.ptr 2 0)), (3, .c (.ptr 3 0))], [(2, .box (cUpdate p0)), (3, .box (cUpdate p1))]⟩ (allT 3) (by kernel_rfl) (allT_ok 3) ?_
  refine Tri.seqS ?_
  obtain ⟨r1, hr1, h⟩ := bind_elim h
  obtain ⟨r2, hr2, h⟩ := bind_elim h
  obtain ⟨r3, hr3, h⟩ := bind_elim h
  obtain ⟨r4, hr4, h⟩ := bind_elim h
  refine Tri.drawnS (s' := ⟨[(4, cD (dI r4))], []⟩) (cs := True ∧ True ∧ True ∧ True ∧ True ∧ True ∧ True ∧ True ∧ True ∧ True ∧ True ∧ True ∧ True ∧ True) [.a [2] [], .a [5] [2], .a [3] [], .a [7] [3], .m ⟨[(6, cD (lD 3 encValue p0.key)), (8, cD (lD 3 encValue p1.key))], []⟩ ⟨[(9, cD (dI r1))], []⟩ [] [] [], .a [2] [], .a [10] [2], .a [3] [], .a [12] [3], .m ⟨[(11, cD (lD 3 encValue p0.row)), (13, cD (lD 3 encValue p1.row))], []⟩ ⟨[(14, cD (dI r2))], []⟩ [] [] [], .a [2] [], .a [15] [2], .a [3] [], .a [17] [3], .m ⟨[(16, .agg (cTime p0.time)), (18, .agg (cTime p1.time))], []⟩ ⟨[(19, cD (dI r3))], []⟩ [] [] [], .m ⟨[(9, cD (dI r1)), (14, cD (dI r2)), (19, cD (dI r3))], []⟩ ⟨[(20, .c (oC 20 1 ([r1, r2, r3] : List Int)))], [(20, vL 1 (encInt .i64) ([r1, r2, r3] : List Int))]⟩ [20] [] [], .m ⟨[(20, .c (oC 20 1 ([r1, r2, r3] : List Int)))], [(20, vL 1 (encInt .i64) ([r1, r2, r3] : List Int))]⟩ ⟨[(21, cD (dI r4))], []⟩ [] [] [], .a [21] []] [[], [0], [], [2], [0, 1, 2, 3], [], [5], [], [7], [0, 1, 2, 3, 4, 5, 6, 7, 8], [], [10], [], [12], [0, 1, 2, 3, 4, 5, 6, 7, 8, 9, 10, 11, 12, 13], [0, 1, 2, 3, 4, 5, 6, 7, 8, 9, 10, 11, 12, 13, 14], [0, 1, 2, 3, 4, 5, 6, 7, 8, 9, 10, 11, 12, 13, 14, 15], [0, 1, 2, 3, 4, 5, 6, 7, 8, 9, 10, 11, 12, 13, 14, 15, 16]] [4] [] (by kernel_rfl) (by kernel_rfl) (by kernel_rfl) (by kernel_rfl) (by kernel_rfl) ⟨trivial, trivial, trivial, trivial, trivial, trivial, trivial, trivial, trivial, trivial, trivial, trivial, trivial, trivial⟩ (.a (.a (.a (.a (.m ?_ (.a (.a (.a (.a (.m ?_ (.a (.a (.a (.a (.m ?_ (.m ?_ (.m ?_ (.a .z)))))))))))))))))) (by kernel_rfl) ?_
  · exact DOk.callA (caps := []) (xs := [cD (lD 3 encValue p0.key), cD (lD 3 encValue p1.key)]) (value_Rows_ok hr1) rfl (fun r => by kernel_rfl) rfl (fun r => by kernel_rfl) (fun r => by kernel_rfl) (fun r => (.cons (.refl _) (.cons (.refl _) .nil))) rfl rfl (fun r => rfl)
  · exact DOk.callA (caps := []) (xs := [cD (lD 3 encValue p0.row), cD (lD 3 encValue p1.row)]) (value_Rows_ok hr2) rfl (fun r => by kernel_rfl) rfl (fun r => by kernel_rfl) (fun r => by kernel_rfl) (fun r => (.cons (.refl _) (.cons (.refl _) .nil))) rfl rfl (fun r => rfl)
  · exact DOk.callA (caps := []) (xs := [.agg (cTime p0.time), .agg (cTime p1.time)]) (moment_Compare_ok hr3) rfl (fun r => by kernel_rfl) rfl (fun r => by kernel_rfl) (fun r => by kernel_rfl) (fun r => (.cons (.refl _) (.cons (.refl _) .nil))) rfl rfl (fun r => rfl)
  · exact DOk.one fun r hr => One.buildT (e := 3) (es := 1) (z := [.d (dI 0)]) (cells := [.d (dI r1), .d (dI r2), .d (dI r3)]) (encInt .i64) ([r1, r2, r3] : List Int) rfl (by kernel_rfl) rfl rfl (St.noRef_app (by kernel_rfl) (hr 20 (by simp))) (by kernel_rfl) rfl (by kernel_rfl) rfl rfl rfl (by kernel_rfl) rfl ⟨⟨rfl, .refl _⟩, ⟨rfl, .refl _⟩, ⟨rfl, .refl _⟩, trivial⟩
  · exact DOk.callA (caps := []) (xs := [.c (oC 20 1 ([r1, r2, r3] : List Int))]) (cmp_Or_int_ok_v0 hr4) rfl (fun r => by kernel_rfl) rfl (fun r => by kernel_rfl) (fun r => by kernel_rfl) (fun r => (.cons (AVArg.view (encInt .i64) ([r1, r2, r3] : List Int) rfl) .nil)) rfl rfl (fun r => rfl)
  show Tri _ _ _ _
  refine Tri.keep [4] [] (s' := ⟨[(4, cD (dI r4))], []⟩) (by kernel_rfl) ?_
  refine Tri.ret ?_
  cases h
  refine ⟨_, _, rfl, ⟨trivial, trivial⟩, rfl, rfl, ?_⟩
  intro k c h
  cases h
set_option maxRecDepth 100000 in
theorem slices_insertionSortCmpFunc_Update__diff_Compare_w_ok {fuel : Nat} {p1 : Int} {p2 : Int} {l0 : List Update} {q : List Update} (h : slices_insertionSortCmpFunc_Update__diff_Compare_w fuel p1 p2 l0 = some q) :
    Summ Try.prog 91 [.c (oC 5000 6 l0), cD (dI p1), cD (dI p2), cD (.fn 24 [])] [(5000, vL 6 encUpdate l0)] (.tup []) [(5000, vL 6 encUpdate q)] := by
  refine Summ.intro Try.func91 rfl (by kernel_rfl) (by kernel_rfl) [] rfl ?_
  rintro ⟨P, w0, G0, V, LL, lk, N, φ0, fx⟩ rfl rfl rfl rfl
  unfold slices_insertionSortCmpFunc_Update__diff_Compare_w at h
  refine Tri.segC [0, 1, 2, 3, 8] [5000] (allT 3) (by kernel_rfl) (by kernel_rfl) (allT_ok 3) ?_
  refine Tri.keep [0, 1, 2, 3, 8] [5000] (s' := ⟨[(0, .c (oC 5000 6 l0)), (1, cD (dI p1)), (2, cD (dI p2)), (3, cD (.fn 24 [])), (8, cD (dI (IntKind.i64.wrap (p1 + 1))))], [(5000, vL 6 encUpdate l0)]⟩) (by kernel_rfl) ?_
  refine Tri.loopK (fuel := fuel) (st0 := ((IntKind.i64.wrap (p1 + 1)), l0)) (fun (x : Empty) s => False) (fun (a1 : Int × (List Update)) => ⟨[(0, .c (oC 5000 6 a1.2)), (1, cD (dI p1)), (2, cD (dI p2)), (3, cD (.fn 24 [])), (8, cD (dI a1.1))], [(5000, vL 6 encUpdate a1.2)]⟩) (fun (a1 : Int × (List Update)) => ⟨[], [(5000, vL 6 encUpdate a1.2)]⟩) h ?_ ?_ ?_
  ·intro a1 c h
   show Tri _ _ ⟨[(0, .c (oC 5000 6 a1.2)), (1, cD (dI p1)), (2, cD (dI p2)), (3, cD (.fn 24 [])), (8, cD (dI a1.1))], [(5000, vL 6 encUpdate a1.2)]⟩ _
   refine Tri.seqS ?_
   refine Tri.segL [0, 1, 2, 3, 8, 14] [5000] ⟨[(0, .c (oC 5000 6 a1.2)), (1, cD (dI p1)), (2, cD (dI p2)), (3, cD (.fn 24 [])), (8, cD (dI a1.1)), (14, cD (.bool (decide (a1.1 < p2))))], [(5000, vL 6 encUpdate a1.2)]⟩ (allT 3) (by kernel_rfl) (allT_ok 3) ?_
   refine Tri.condP (b := (decide (a1.1 < p2))) rfl h (fun h => ?_) (fun h => ?_)
   ·refine Tri.skip ?_
    show Tri _ _ _ _
    refine Tri.seqS ?_
    refine Tri.blockB ?_
    refine Tri.segC [0, 1, 2, 3, 8, 9] [5000] (allT 2) (by kernel_rfl) (by kernel_rfl) (allT_ok 2) ?_
    refine Tri.keep [0, 1, 2, 3, 8, 9] [5000] (s' := ⟨[(0, .c (oC 5000 6 a1.2)), (1, cD (dI p1)), (2, cD (dI p2)), (3, cD (.fn 24 [])), (8, cD (dI a1.1)), (9, cD (dI a1.1))], [(5000, vL 6 encUpdate a1.2)]⟩) (by kernel_rfl) ?_
    refine Tri.loopK (fuel := fuel) (st0 := (a1.1, a1.2)) (fun (x : Empty) s => False) (fun (a3 : Int × (List Update)) => ⟨[(0, .c (oC 5000 6 a3.2)), (1, cD (dI p1)), (2, cD (dI p2)), (3, cD (.fn 24 [])), (8, cD (dI a1.1)), (9, cD (dI a3.1))], [(5000, vL 6 encUpdate a3.2)]⟩) (fun (a3 : Int × (List Update)) => ⟨[(0, .c (oC 5000 6 a3.2)), (1, cD (dI p1)), (2, cD (dI p2)), (3, cD (.fn 24 [])), (8, cD (dI a1.1)), (9, cD (dI a3.1))], [(5000, vL 6 encUpdate a3.2)]⟩) h ?_ ?_ ?_
    ·intro a3 c h
     show Tri _ _ ⟨[(0, .c (oC 5000 6 a3.2)), (1, cD (dI p1)), (2, cD (dI p2)), (3, cD (.fn 24 [])), (8, cD (dI a1.1)), (9, cD (dI a3.1))], [(5000, vL 6 encUpdate a3.2)]⟩ _
     refine Tri.seqS ?_
     refine Tri.seqJ (fun (a5 : Bool) => ⟨[(0, .c (oC 5000 6 a3.2)), (1, cD (dI p1)), (2, cD (dI p2)), (3, cD (.fn 24 [])), (8, cD (dI a1.1)), (9, cD (dI a3.1)), (34, cD (.bool a5))], [(5000, vL 6 encUpdate a3.2)]⟩) h (fun a5 h => ?_) (fun j6 h => ?_)
     ·show Tri _ _ ⟨[(0, .c (oC 5000 6 a3.2)), (1, cD (dI p1)), (2, cD (dI p2)), (3, cD (.fn 24 [])), (8, cD (dI a1.1)), (9, cD (dI a3.1)), (34, cD (.bool a5))], [(5000, vL 6 encUpdate a3.2)]⟩ _
      refine Tri.condP (b := a5) rfl h (fun h => ?_) (fun h => ?_)
      ·refine Tri.skip ?_
       show Tri _ _ _ _
       refine Tri.seqS ?_
       refine Tri.blockB ?_
       obtain ⟨hc7, h⟩ := need_elim h
       obtain ⟨hc8, h⟩ := need_elim h
       obtain ⟨hc9, h⟩ := need_elim h
       obtain ⟨hc10, h⟩ := need_elim h
       obtain ⟨hc11, h⟩ := need_elim h
       obtain ⟨hc12, h⟩ := need_elim h
       obtain ⟨hc13, h⟩ := need_elim h
       obtain ⟨hc14, h⟩ := need_elim h
       refine Tri.afterA ⟨[(0, .c (oC 5000 6 a3.2)), (1, cD (dI p1)), (2, cD (dI p2)), (3, cD (.fn 24 [])), (8, cD (dI a1.1)), (9, cD (dI a3.1))], [(5000, vL 6 encUpdate ((a3.2.set (0 + a3.1.toNat) (a3.2.getD (0 + (IntKind.i64.wrap (a3.1 - 1)).toNat) default)).set (0 + (IntKind.i64.wrap (a3.1 - 1)).toNat) (a3.2.getD (0 + a3.1.toNat) default)))]⟩ ?_ ?_
       ·refine Tri.drawnS (s' := ⟨[(0, .c (oC 5000 6 a3.2)), (1, cD (dI p1)), (2, cD (dI p2)), (3, cD (.fn 24 [])), (8, cD (dI a1.1)), (9, cD (dI a3.1))], [(5000, vL 6 encUpdate ((a3.2.set (0 + a3.1.toNat) (a3.2.getD (0 + (IntKind.i64.wrap (a3.1 - 1)).toNat) default)).set (0 + (IntKind.i64.wrap (a3.1 - 1)).toNat) (a3.2.getD (0 + a3.1.toNat) default)))]⟩) (cs := True ∧ True ∧ True ∧ True ∧ True ∧ True ∧ True ∧ True ∧ ((0 : Int) ≤ (IntKind.i64.wrap (a3.1 - 1)) ∧ (IntKind.i64.wrap (a3.1 - 1)) < (a3.2.length : Int)) ∧ ((0 + (IntKind.i64.wrap (a3.1 - 1)).toNat) < a3.2.length) ∧ True ∧ True ∧ ((0 : Int) ≤ a3.1 ∧ a3.1 < (a3.2.length : Int)) ∧ ((0 + a3.1.toNat) < a3.2.length) ∧ ((0 : Int) ≤ a3.1 ∧ a3.1 < (a3.2.length : Int)) ∧ ((0 : Int) ≤ (IntKind.i64.wrap (a3.1 - 1)) ∧ (IntKind.i64.wrap (a3.1 - 1)) < (a3.2.length : Int)) ∧ True) [.a [0] [], .a [9] [], .a [0] [], .a [9] [], .a [40] [], .a [0] [], .a [9] [], .a [43] [], .a [42, 44] [5000], .a [45] [5000], .a [0] [], .a [9] [], .a [47, 48] [5000], .a [49] [5000], .a [37, 38] [5000], .m ⟨[(46, .agg (cUpdate (a3.2.getD (0 + (IntKind.i64.wrap (a3.1 - 1)).toNat) default))), (51, .c (.vptr 5000 6 (0 + a3.1.toNat) 0))], [(5000, vL 6 encUpdate a3.2)]⟩ ⟨[], [(5000, vL 6 encUpdate (a3.2.set (0 + a3.1.toNat) (a3.2.getD (0 + (IntKind.i64.wrap (a3.1 - 1)).toNat) default)))]⟩ [] [] [], .a [39, 41] [5000], .m ⟨[(50, .agg (cUpdate (a3.2.getD (0 + a3.1.toNat) default))), (52, .c (.vptr 5000 6 (0 + (IntKind.i64.wrap (a3.1 - 1)).toNat) 0))], [(5000, vL 6 encUpdate (a3.2.set (0 + a3.1.toNat) (a3.2.getD (0 + (IntKind.i64.wrap (a3.1 - 1)).toNat) default)))]⟩ ⟨[], [(5000, vL 6 encUpdate ((a3.2.set (0 + a3.1.toNat) (a3.2.getD (0 + (IntKind.i64.wrap (a3.1 - 1)).toNat) default)).set (0 + (IntKind.i64.wrap (a3.1 - 1)).toNat) (a3.2.getD (0 + a3.1.toNat) default)))]⟩ [] [] []] [[], [], [], [], [3], [], [], [6], [5, 6, 7], [5, 6, 7, 8], [], [], [10, 11], [10, 11, 12], [0, 1, 5, 6, 7, 8, 9, 10, 11, 12, 13], [0, 1, 5, 6, 7, 8, 9, 10, 11, 12, 13, 14], [0, 1, 2, 3, 4, 5, 6, 7, 8, 9, 10, 11, 12, 13, 14, 15], [0, 1, 2, 3, 4, 5, 6, 7, 8, 9, 10, 11, 12, 13, 14, 15, 16]] [0, 1, 2, 3, 8, 9] [5000] (by kernel_rfl) (by kernel_rfl) (by kernel_rfl) (by kernel_rfl) (by kernel_rfl) ⟨trivial, trivial, trivial, trivial, trivial, trivial, trivial, trivial, hc7, hc8, trivial, trivial, hc9, hc10, hc11, hc13, trivial⟩ (.a (.a (.a (.a (.a (.a (.a (.a (.a (.a (.a (.a (.a (.a (.a (.m ?_ (.a (.m ?_ .z)))))))))))))))))) (by kernel_rfl) ?_
        · exact DOk.one fun r hr => One.storeT (xs := [.d (lD 3 encValue ((a3.2.getD (0 + (IntKind.i64.wrap (a3.1 - 1)).toNat) default).key)), .d (lD 3 encValue ((a3.2.getD (0 + (IntKind.i64.wrap (a3.1 - 1)).toNat) default).row)), .d (dU ((a3.2.getD (0 + (IntKind.i64.wrap (a3.1 - 1)).toNat) default).time.epoch)), .d (dU ((a3.2.getD (0 + (IntKind.i64.wrap (a3.1 - 1)).toNat) default).time.loop.1)), .d (dU ((a3.2.getD (0 + (IntKind.i64.wrap (a3.1 - 1)).toNat) default).time.loop.2)), .d (dI ((a3.2.getD (0 + (IntKind.i64.wrap (a3.1 - 1)).toNat) default).diff))]) (ds := [lD 3 encValue ((a3.2.getD (0 + (IntKind.i64.wrap (a3.1 - 1)).toNat) default).key), lD 3 encValue ((a3.2.getD (0 + (IntKind.i64.wrap (a3.1 - 1)).toNat) default).row), dU ((a3.2.getD (0 + (IntKind.i64.wrap (a3.1 - 1)).toNat) default).time.epoch), dU ((a3.2.getD (0 + (IntKind.i64.wrap (a3.1 - 1)).toNat) default).time.loop.1), dU ((a3.2.getD (0 + (IntKind.i64.wrap (a3.1 - 1)).toNat) default).time.loop.2), dI ((a3.2.getD (0 + (IntKind.i64.wrap (a3.1 - 1)).toNat) default).diff)]) (encUpdate) a3.2 (a3.2.getD (0 + (IntKind.i64.wrap (a3.1 - 1)).toNat) default) rfl (by kernel_rfl) rfl rfl rfl hc12 rfl rfl (.refl _) rfl rfl rfl rfl
        · exact DOk.one fun r hr => One.storeT (xs := [.d (lD 3 encValue ((a3.2.getD (0 + a3.1.toNat) default).key)), .d (lD 3 encValue ((a3.2.getD (0 + a3.1.toNat) default).row)), .d (dU ((a3.2.getD (0 + a3.1.toNat) default).time.epoch)), .d (dU ((a3.2.getD (0 + a3.1.toNat) default).time.loop.1)), .d (dU ((a3.2.getD (0 + a3.1.toNat) default).time.loop.2)), .d (dI ((a3.2.getD (0 + a3.1.toNat) default).diff))]) (ds := [lD 3 encValue ((a3.2.getD (0 + a3.1.toNat) default).key), lD 3 encValue ((a3.2.getD (0 + a3.1.toNat) default).row), dU ((a3.2.getD (0 + a3.1.toNat) default).time.epoch), dU ((a3.2.getD (0 + a3.1.toNat) default).time.loop.1), dU ((a3.2.getD (0 + a3.1.toNat) default).time.loop.2), dI ((a3.2.getD (0 + a3.1.toNat) default).diff)]) (encUpdate) (a3.2.set (0 + a3.1.toNat) (a3.2.getD (0 + (IntKind.i64.wrap (a3.1 - 1)).toNat) default)) (a3.2.getD (0 + a3.1.toNat) default) rfl (by kernel_rfl) rfl rfl rfl hc14 rfl rfl (.refl _) rfl rfl rfl rfl
        exact ⟨rfl, rfl⟩
       ·refine At.eqS (s' := ⟨[(0, .c (oC 5000 6 ((a3.2.set (0 + a3.1.toNat) (a3.2.getD (0 + (IntKind.i64.wrap (a3.1 - 1)).toNat) default)).set (0 + (IntKind.i64.wrap (a3.1 - 1)).toNat) (a3.2.getD (0 + a3.1.toNat) default)))), (1, cD (dI p1)), (2, cD (dI p2)), (3, cD (.fn 24 [])), (8, cD (dI a1.1)), (9, cD (dI a3.1))], [(5000, vL 6 encUpdate ((a3.2.set (0 + a3.1.toNat) (a3.2.getD (0 + (IntKind.i64.wrap (a3.1 - 1)).toNat) default)).set (0 + (IntKind.i64.wrap (a3.1 - 1)).toNat) (a3.2.getD (0 + a3.1.toNat) default)))]⟩) (by simp only [oC, vL, List.length_set]) ?_
        refine At.done rfl ?_
        show Tri _ _ _ _
        refine Tri.reg ?_
        refine At.seg 3 [0, 1, 2, 3, 8, 9] [5000] (s' := ⟨[(0, .c (oC 5000 6 ((a3.2.set (0 + a3.1.toNat) (a3.2.getD (0 + (IntKind.i64.wrap (a3.1 - 1)).toNat) default)).set (0 + (IntKind.i64.wrap (a3.1 - 1)).toNat) (a3.2.getD (0 + a3.1.toNat) default)))), (1, cD (dI p1)), (2, cD (dI p2)), (3, cD (.fn 24 [])), (8, cD (dI a1.1)), (9, cD (dI (IntKind.i64.wrap (a3.1 - 1))))], [(5000, vL 6 encUpdate ((a3.2.set (0 + a3.1.toNat) (a3.2.getD (0 + (IntKind.i64.wrap (a3.1 - 1)).toNat) default)).set (0 + (IntKind.i64.wrap (a3.1 - 1)).toNat) (a3.2.getD (0 + a3.1.toNat) default)))]⟩) (c := True ∧ True ∧ True ∧ True) (by kernel_rfl) ⟨trivial, trivial, trivial, trivial⟩ ?_
        refine At.done rfl ?_
        cases h
        exact rfl
      ·refine Tri.keep [0, 1, 2, 3, 8, 9] [5000] (s' := ⟨[(0, .c (oC 5000 6 a3.2)), (1, cD (dI p1)), (2, cD (dI p2)), (3, cD (.fn 24 [])), (8, cD (dI a1.1)), (9, cD (dI a3.1))], [(5000, vL 6 encUpdate a3.2)]⟩) (by kernel_rfl) ?_
       refine Tri.exit ?_
       cases h
       exact ⟨rfl, rfl⟩
     ·rcases bf_cases h with ⟨hp15, h⟩ | ⟨hp15, h⟩
      ·obtain ⟨hc16, h⟩ := need_elim h
       obtain ⟨hc17, h⟩ := need_elim h
       obtain ⟨hc18, h⟩ := need_elim h
       obtain ⟨hc19, h⟩ := need_elim h
       obtain ⟨r20, hr20, h⟩ := bind_elim h
       refine Tri.drawnS (s' := ⟨[(0, .c (oC 5000 6 a3.2)), (1, cD (dI p1)), (2, cD (dI p2)), (3, cD (.fn 24 [])), (8, cD (dI a1.1)), (9, cD (dI a3.1)), (34, cD (.bool (decide (r20 < 0))))], [(5000, vL 6 encUpdate a3.2)]⟩) (cs := True ∧ True ∧ True ∧ True ∧ True ∧ True ∧ ((0 : Int) ≤ a3.1 ∧ a3.1 < (a3.2.length : Int)) ∧ ((0 + a3.1.toNat) < a3.2.length) ∧ True ∧ True ∧ True ∧ ((0 : Int) ≤ (IntKind.i64.wrap (a3.1 - 1)) ∧ (IntKind.i64.wrap (a3.1 - 1)) < (a3.2.length : Int)) ∧ ((0 + (IntKind.i64.wrap (a3.1 - 1)).toNat) < a3.2.length) ∧ True ∧ True ∧ True) [.a [9] [], .a [1] [], .a [18, 19] [], .m ⟨[(20, cD (.bool (decide (p1 < a3.1))))], []⟩ ⟨[(21, .c (.d (.bool true)))], []⟩ [] [] [], .a [3, 21] [], .a [0, 21] [], .a [9, 21] [], .a [21, 23, 24] [5000], .a [21, 25] [5000], .a [0, 21] [], .a [9, 21] [], .a [21, 28] [], .a [21, 27, 29] [5000], .a [21, 30] [5000], .m ⟨[(21, cD (.bool true)), (22, cD (.fn 24 [])), (26, .agg (cUpdate (a3.2.getD (0 + a3.1.toNat) default))), (31, .agg (cUpdate (a3.2.getD (0 + (IntKind.i64.wrap (a3.1 - 1)).toNat) default)))], []⟩ ⟨[(32, cD (dI r20))], []⟩ [] [] [], .a [21, 32] [], .a [21, 33] []] [[], [], [0, 1], [0, 1, 2], [0, 1, 2, 3], [0, 1, 2, 3], [0, 1, 2, 3], [0, 1, 2, 3, 5, 6], [0, 1, 2, 3, 5, 6, 7], [0, 1, 2, 3], [0, 1, 2, 3], [0, 1, 2, 3, 10], [0, 1, 2, 3, 9, 10, 11], [0, 1, 2, 3, 9, 10, 11, 12], [0, 1, 2, 3, 4, 5, 6, 7, 8, 9, 10, 11, 12, 13], [0, 1, 2, 3, 4, 5, 6, 7, 8, 9, 10, 11, 12, 13, 14], [0, 1, 2, 3, 4, 5, 6, 7, 8, 9, 10, 11, 12, 13, 14, 15]] [0, 1, 2, 3, 8, 9, 34] [5000] (by kernel_rfl) (by kernel_rfl) (by kernel_rfl) (by kernel_rfl) (by kernel_rfl) ⟨trivial, trivial, trivial, trivial, trivial, trivial, hc16, hc17, trivial, trivial, trivial, hc18, hc19, trivial, trivial, trivial⟩ (.a (.a (.a (.m ?_ (.a (.a (.a (.a (.a (.a (.a (.a (.a (.a (.m ?_ (.a (.a .z))))))))))))))))) (by kernel_rfl) ?_
       · exact DOk.stepP (fun b => .val (.c (.d (.bool b))) (True)) (p := (decide (p1 < a3.1))) hp15 (fun r => by kernel_rfl) (fun r => by kernel_rfl) trivial (by kernel_rfl) (by kernel_rfl) (fun r => rfl)
       · exact DOk.callA (caps := []) (xs := [.agg (cUpdate (a3.2.getD (0 + a3.1.toNat) default)), .agg (cUpdate (a3.2.getD (0 + (IntKind.i64.wrap (a3.1 - 1)).toNat) default))]) (diff_Compare_ok hr20) rfl (fun r => by kernel_rfl) rfl (fun r => by kernel_rfl) (fun r => by kernel_rfl) (fun r => (.cons (.refl _) (.cons (.refl _) .nil))) rfl rfl (fun r => rfl)
       exact ⟨_, h, rfl⟩
      ·refine Tri.drawnS (s' := ⟨[(0, .c (oC 5000 6 a3.2)), (1, cD (dI p1)), (2, cD (dI p2)), (3, cD (.fn 24 [])), (8, cD (dI a1.1)), (9, cD (dI a3.1)), (34, cD (.bool false))], [(5000, vL 6 encUpdate a3.2)]⟩) (cs := True ∧ True ∧ True ∧ True ∧ True) [.a [9] [], .a [1] [], .a [18, 19] [], .m ⟨[(20, cD (.bool (decide (p1 < a3.1))))], []⟩ ⟨[(21, .c (.d (.bool false)))], []⟩ [] [] [], .a [3, 21] [], .a [0, 21] [], .a [9, 21] [], .a [21, 23, 24] [], .a [21, 25] [], .a [0, 21] [], .a [9, 21] [], .a [21, 28] [], .a [21, 27, 29] [], .a [21, 30] [], .a [21, 22, 26, 31] [], .a [21, 32] [], .a [21, 33] []] [[], [], [0, 1], [0, 1, 2], [0, 1, 2, 3], [0, 1, 2, 3], [0, 1, 2, 3], [0, 1, 2, 3, 5, 6], [0, 1, 2, 3, 5, 6, 7], [0, 1, 2, 3], [0, 1, 2, 3], [0, 1, 2, 3, 10], [0, 1, 2, 3, 9, 10, 11], [0, 1, 2, 3, 9, 10, 11, 12], [0, 1, 2, 3, 4, 5, 6, 7, 8, 9, 10, 11, 12, 13], [0, 1, 2, 3, 4, 5, 6, 7, 8, 9, 10, 11, 12, 13, 14], [0, 1, 2, 3, 4, 5, 6, 7, 8, 9, 10, 11, 12, 13, 14, 15]] [0, 1, 2, 3, 8, 9, 34] [5000] (by kernel_rfl) (by kernel_rfl) (by kernel_rfl) (by kernel_rfl) (by kernel_rfl) ⟨trivial, trivial, trivial, trivial, trivial⟩ (.a (.a (.a (.m ?_ (.a (.a (.a (.a (.a (.a (.a (.a (.a (.a (.a (.a (.a .z))))))))))))))))) (by kernel_rfl) ?_
       · exact DOk.stepP (fun b => .val (.c (.d (.bool b))) (True)) (p := (decide (p1 < a3.1))) hp15 (fun r => by kernel_rfl) (fun r => by kernel_rfl) trivial (by kernel_rfl) (by kernel_rfl) (fun r => rfl)
       exact ⟨_, h, rfl⟩
    ·intro a4 h
     show Tri _ _ _ _
     refine Tri.reg ?_
     refine At.seg 3 [0, 1, 2, 3, 8] [5000] (s' := ⟨[(0, .c (oC 5000 6 a4.2)), (1, cD (dI p1)), (2, cD (dI p2)), (3, cD (.fn 24 [])), (8, cD (dI (IntKind.i64.wrap (a1.1 + 1))))], [(5000, vL 6 encUpdate a4.2)]⟩) (c := True ∧ True ∧ True ∧ True) (by kernel_rfl) ⟨trivial, trivial, trivial, trivial⟩ ?_
     refine At.done rfl ?_
     cases h
     exact rfl
    · exact fun x => x.elim
   ·refine Tri.keep [] [5000] (s' := ⟨[], [(5000, vL 6 encUpdate a1.2)]⟩) (by kernel_rfl) ?_
    refine Tri.exit ?_
    cases h
    exact ⟨rfl, rfl⟩
  ·intro a2 h
   cases h
   refine ⟨_, _, rfl, trivial, rfl, rfl, ?_⟩
   exact SubS.out ⟨⟨rfl, rfl⟩, trivial⟩
  · exact fun x => x.elim
set_option maxRecDepth 100000 in
theorem slices_swapRangeCmpFunc_Update__diff_Compare_w_ok {fuel : Nat} {p1 : Int} {p2 : Int} {p3 : Int} {l0 : List Update} {q : List Update} (h : slices_swapRangeCmpFunc_Update__diff_Compare_w fuel p1 p2 p3 l0 = some q) :
    Summ Try.prog 100 [.c (oC 5000 6 l0), cD (dI p1), cD (dI p2), cD (dI p3), cD (.fn 24 [])] [(5000, vL 6 encUpdate l0)] (.tup []) [(5000, vL 6 encUpdate q)] := by
  refine Summ.intro Try.func100 rfl (by kernel_rfl) (by kernel_rfl) [] rfl ?_
  rintro ⟨P, w0, G0, V, LL, lk, N, φ0, fx⟩ rfl rfl rfl rfl
  unfold slices_swapRangeCmpFunc_Update__diff_Compare_w at h
  refine Tri.segC [0, 1, 2, 3, 10] [5000] (allT 1) (by kernel_rfl) (by kernel_rfl) (allT_ok 1) ?_
  refine Tri.keep [0, 1, 2, 3, 10] [5000] (s' := ⟨[(0, .c (oC 5000 6 l0)), (1, cD (dI p1)), (2, cD (dI p2)), (3, cD (dI p3)), (10, cD (dI 0))], [(5000, vL 6 encUpdate l0)]⟩) (by kernel_rfl) ?_
  refine Tri.loopK (fuel := fuel) (st0 := (0, l0)) (fun (x : Empty) s => False) (fun (a1 : Int × (List Update)) => ⟨[(0, .c (oC 5000 6 a1.2)), (1, cD (dI p1)), (2, cD (dI p2)), (3, cD (dI p3)), (10, cD (dI a1.1))], [(5000, vL 6 encUpdate a1.2)]⟩) (fun (a1 : Int × (List Update)) => ⟨[], [(5000, vL 6 encUpdate a1.2)]⟩) h ?_ ?_ ?_
  ·intro a1 c h
   show Tri _ _ ⟨[(0, .c (oC 5000 6 a1.2)), (1, cD (dI p1)), (2, cD (dI p2)), (3, cD (dI p3)), (10, cD (dI a1.1))], [(5000, vL 6 encUpdate a1.2)]⟩ _
   refine Tri.seqS ?_
   refine Tri.segL [0, 1, 2, 3, 10, 13] [5000] ⟨[(0, .c (oC 5000 6 a1.2)), (1, cD (dI p1)), (2, cD (dI p2)), (3, cD (dI p3)), (10, cD (dI a1.1)), (13, cD (.bool (decide (a1.1 < p3))))], [(5000, vL 6 encUpdate a1.2)]⟩ (allT 3) (by kernel_rfl) (allT_ok 3) ?_
   refine Tri.condP (b := (decide (a1.1 < p3))) rfl h (fun h => ?_) (fun h => ?_)
   ·refine Tri.skip ?_
    show Tri _ _ _ _
    refine Tri.seqS ?_
    refine Tri.blockB ?_
    obtain ⟨hc3, h⟩ := need_elim h
    obtain ⟨hc4, h⟩ := need_elim h
    obtain ⟨hc5, h⟩ := need_elim h
    obtain ⟨hc6, h⟩ := need_elim h
    obtain ⟨hc7, h⟩ := need_elim h
    obtain ⟨hc8, h⟩ := need_elim h
    obtain ⟨hc9, h⟩ := need_elim h
    obtain ⟨hc10, h⟩ := need_elim h
    refine Tri.afterA ⟨[(0, .c (oC 5000 6 a1.2)), (1, cD (dI p1)), (2, cD (dI p2)), (3, cD (dI p3)), (10, cD (dI a1.1))], [(5000, vL 6 encUpdate ((a1.2.set (0 + (IntKind.i64.wrap (p1 + a1.1)).toNat) (a1.2.getD (0 + (IntKind.i64.wrap (p2 + a1.1)).toNat) default)).set (0 + (IntKind.i64.wrap (p2 + a1.1)).toNat) (a1.2.getD (0 + (IntKind.i64.wrap (p1 + a1.1)).toNat) default)))]⟩ ?_ ?_
    ·refine Tri.drawnS (s' := ⟨[(0, .c (oC 5000 6 a1.2)), (1, cD (dI p1)), (2, cD (dI p2)), (3, cD (dI p3)), (10, cD (dI a1.1))], [(5000, vL 6 encUpdate ((a1.2.set (0 + (IntKind.i64.wrap (p1 + a1.1)).toNat) (a1.2.getD (0 + (IntKind.i64.wrap (p2 + a1.1)).toNat) default)).set (0 + (IntKind.i64.wrap (p2 + a1.1)).toNat) (a1.2.getD (0 + (IntKind.i64.wrap (p1 + a1.1)).toNat) default)))]⟩) (cs := True ∧ True ∧ True ∧ True ∧ True ∧ True ∧ True ∧ True ∧ True ∧ True ∧ True ∧ True ∧ ((0 : Int) ≤ (IntKind.i64.wrap (p2 + a1.1)) ∧ (IntKind.i64.wrap (p2 + a1.1)) < (a1.2.length : Int)) ∧ ((0 + (IntKind.i64.wrap (p2 + a1.1)).toNat) < a1.2.length) ∧ True ∧ True ∧ True ∧ True ∧ ((0 : Int) ≤ (IntKind.i64.wrap (p1 + a1.1)) ∧ (IntKind.i64.wrap (p1 + a1.1)) < (a1.2.length : Int)) ∧ ((0 + (IntKind.i64.wrap (p1 + a1.1)).toNat) < a1.2.length) ∧ ((0 : Int) ≤ (IntKind.i64.wrap (p1 + a1.1)) ∧ (IntKind.i64.wrap (p1 + a1.1)) < (a1.2.length : Int)) ∧ ((0 : Int) ≤ (IntKind.i64.wrap (p2 + a1.1)) ∧ (IntKind.i64.wrap (p2 + a1.1)) < (a1.2.length : Int)) ∧ True) [.a [0] [], .a [1] [], .a [10] [], .a [17, 18] [], .a [0] [], .a [2] [], .a [10] [], .a [21, 22] [], .a [0] [], .a [2] [], .a [10] [], .a [25, 26] [], .a [24, 27] [5000], .a [28] [5000], .a [0] [], .a [1] [], .a [10] [], .a [31, 32] [], .a [30, 33] [5000], .a [34] [5000], .a [16, 19] [5000], .m ⟨[(29, .agg (cUpdate (a1.2.getD (0 + (IntKind.i64.wrap (p2 + a1.1)).toNat) default))), (36, .c (.vptr 5000 6 (0 + (IntKind.i64.wrap (p1 + a1.1)).toNat) 0))], [(5000, vL 6 encUpdate a1.2)]⟩ ⟨[], [(5000, vL 6 encUpdate (a1.2.set (0 + (IntKind.i64.wrap (p1 + a1.1)).toNat) (a1.2.getD (0 + (IntKind.i64.wrap (p2 + a1.1)).toNat) default)))]⟩ [] [] [], .a [20, 23] [5000], .m ⟨[(35, .agg (cUpdate (a1.2.getD (0 + (IntKind.i64.wrap (p1 + a1.1)).toNat) default))), (37, .c (.vptr 5000 6 (0 + (IntKind.i64.wrap (p2 + a1.1)).toNat) 0))], [(5000, vL 6 encUpdate (a1.2.set (0 + (IntKind.i64.wrap (p1 + a1.1)).toNat) (a1.2.getD (0 + (IntKind.i64.wrap (p2 + a1.1)).toNat) default)))]⟩ ⟨[], [(5000, vL 6 encUpdate ((a1.2.set (0 + (IntKind.i64.wrap (p1 + a1.1)).toNat) (a1.2.getD (0 + (IntKind.i64.wrap (p2 + a1.1)).toNat) default)).set (0 + (IntKind.i64.wrap (p2 + a1.1)).toNat) (a1.2.getD (0 + (IntKind.i64.wrap (p1 + a1.1)).toNat) default)))]⟩ [] [] []] [[], [], [], [1, 2], [], [], [], [5, 6], [], [], [], [9, 10], [8, 9, 10, 11], [8, 9, 10, 11, 12], [], [], [], [15, 16], [14, 15, 16, 17], [14, 15, 16, 17, 18], [0, 1, 2, 3, 8, 9, 10, 11, 12, 13, 14, 15, 16, 17, 18, 19], [0, 1, 2, 3, 8, 9, 10, 11, 12, 13, 14, 15, 16, 17, 18, 19, 20], [0, 1, 2, 3, 4, 5, 6, 7, 8, 9, 10, 11, 12, 13, 14, 15, 16, 17, 18, 19, 20, 21], [0, 1, 2, 3, 4, 5, 6, 7, 8, 9, 10, 11, 12, 13, 14, 15, 16, 17, 18, 19, 20, 21, 22]] [0, 1, 2, 3, 10] [5000] (by kernel_rfl) (by kernel_rfl) (by kernel_rfl) (by kernel_rfl) (by kernel_rfl) ⟨trivial, trivial, trivial, trivial, trivial, trivial, trivial, trivial, trivial, trivial, trivial, trivial, hc3, hc4, trivial, trivial, trivial, trivial, hc5, hc6, hc7, hc9, trivial⟩ (.a (.a (.a (.a (.a (.a (.a (.a (.a (.a (.a (.a (.a (.a (.a (.a (.a (.a (.a (.a (.a (.m ?_ (.a (.m ?_ .z)))))))))))))))))))))))) (by kernel_rfl) ?_
     · exact DOk.one fun r hr => One.storeT (xs := [.d (lD 3 encValue ((a1.2.getD (0 + (IntKind.i64.wrap (p2 + a1.1)).toNat) default).key)), .d (lD 3 encValue ((a1.2.getD (0 + (IntKind.i64.wrap (p2 + a1.1)).toNat) default).row)), .d (dU ((a1.2.getD (0 + (IntKind.i64.wrap (p2 + a1.1)).toNat) default).time.epoch)), .d (dU ((a1.2.getD (0 + (IntKind.i64.wrap (p2 + a1.1)).toNat) default).time.loop.1)), .d (dU ((a1.2.getD (0 + (IntKind.i64.wrap (p2 + a1.1)).toNat) default).time.loop.2)), .d (dI ((a1.2.getD (0 + (IntKind.i64.wrap (p2 + a1.1)).toNat) default).diff))]) (ds := [lD 3 encValue ((a1.2.getD (0 + (IntKind.i64.wrap (p2 + a1.1)).toNat) default).key), lD 3 encValue ((a1.2.getD (0 + (IntKind.i64.wrap (p2 + a1.1)).toNat) default).row), dU ((a1.2.getD (0 + (IntKind.i64.wrap (p2 + a1.1)).toNat) default).time.epoch), dU ((a1.2.getD (0 + (IntKind.i64.wrap (p2 + a1.1)).toNat) default).time.loop.1), dU ((a1.2.getD (0 + (IntKind.i64.wrap (p2 + a1.1)).toNat) default).time.loop.2), dI ((a1.2.getD (0 + (IntKind.i64.wrap (p2 + a1.1)).toNat) default).diff)]) (encUpdate) a1.2 (a1.2.getD (0 + (IntKind.i64.wrap (p2 + a1.1)).toNat) default) rfl (by kernel_rfl) rfl rfl rfl hc8 rfl rfl (.refl _) rfl rfl rfl rfl
     · exact DOk.one fun r hr => One.storeT (xs := [.d (lD 3 encValue ((a1.2.getD (0 + (IntKind.i64.wrap (p1 + a1.1)).toNat) default).key)), .d (lD 3 encValue ((a1.2.getD (0 + (IntKind.i64.wrap (p1 + a1.1)).toNat) default).row)), .d (dU ((a1.2.getD (0 + (IntKind.i64.wrap (p1 + a1.1)).toNat) default).time.epoch)), .d (dU ((a1.2.getD (0 + (IntKind.i64.wrap (p1 + a1.1)).toNat) default).time.loop.1)), .d (dU ((a1.2.getD (0 + (IntKind.i64.wrap (p1 + a1.1)).toNat) default).time.loop.2)), .d (dI ((a1.2.getD (0 + (IntKind.i64.wrap (p1 + a1.1)).toNat) default).diff))]) (ds := [lD 3 encValue ((a1.2.getD (0 + (IntKind.i64.wrap (p1 + a1.1)).toNat) default).key), lD 3 encValue ((a1.2.getD (0 + (IntKind.i64.wrap (p1 + a1.1)).toNat) default).row), dU ((a1.2.getD (0 + (IntKind.i64.wrap (p1 + a1.1)).toNat) default).time.epoch), dU ((a1.2.getD (0 + (IntKind.i64.wrap (p1 + a1.1)).toNat) default).time.loop.1), dU ((a1.2.getD (0 + (IntKind.i64.wrap (p1 + a1.1)).toNat) default).time.loop.2), dI ((a1.2.getD (0 + (IntKind.i64.wrap (p1 + a1.1)).toNat) default).diff)]) (encUpdate) (a1.2.set (0 + (IntKind.i64.wrap (p1 + a1.1)).toNat) (a1.2.getD (0 + (IntKind.i64.wrap (p2 + a1.1)).toNat) default)) (a1.2.getD (0 + (IntKind.i64.wrap (p1 + a1.1)).toNat) default) rfl (by kernel_rfl) rfl rfl rfl hc10 rfl rfl (.refl _) rfl rfl rfl rfl
     exact ⟨rfl, rfl⟩
    ·refine At.eqS (s' := ⟨[(0, .c (oC 5000 6 ((a1.2.set (0 + (IntKind.i64.wrap (p1 + a1.1)).toNat) (a1.2.getD (0 + (IntKind.i64.wrap (p2 + a1.1)).toNat) default)).set (0 + (IntKind.i64.wrap (p2 + a1.1)).toNat) (a1.2.getD (0 + (IntKind.i64.wrap (p1 + a1.1)).toNat) default)))), (1, cD (dI p1)), (2, cD (dI p2)), (3, cD (dI p3)), (10, cD (dI a1.1))], [(5000, vL 6 encUpdate ((a1.2.set (0 + (IntKind.i64.wrap (p1 + a1.1)).toNat) (a1.2.getD (0 + (IntKind.i64.wrap (p2 + a1.1)).toNat) default)).set (0 + (IntKind.i64.wrap (p2 + a1.1)).toNat) (a1.2.getD (0 + (IntKind.i64.wrap (p1 + a1.1)).toNat) default)))]⟩) (by simp only [oC, vL, List.length_set]) ?_
     refine At.done rfl ?_
     show Tri _ _ _ _
     refine Tri.reg ?_
     refine At.seg 3 [0, 1, 2, 3, 10] [5000] (s' := ⟨[(0, .c (oC 5000 6 ((a1.2.set (0 + (IntKind.i64.wrap (p1 + a1.1)).toNat) (a1.2.getD (0 + (IntKind.i64.wrap (p2 + a1.1)).toNat) default)).set (0 + (IntKind.i64.wrap (p2 + a1.1)).toNat) (a1.2.getD (0 + (IntKind.i64.wrap (p1 + a1.1)).toNat) default)))), (1, cD (dI p1)), (2, cD (dI p2)), (3, cD (dI p3)), (10, cD (dI (IntKind.i64.wrap (a1.1 + 1))))], [(5000, vL 6 encUpdate ((a1.2.set (0 + (IntKind.i64.wrap (p1 + a1.1)).toNat) (a1.2.getD (0 + (IntKind.i64.wrap (p2 + a1.1)).toNat) default)).set (0 + (IntKind.i64.wrap (p2 + a1.1)).toNat) (a1.2.getD (0 + (IntKind.i64.wrap (p1 + a1.1)).toNat) default)))]⟩) (c := True ∧ True ∧ True ∧ True) (by kernel_rfl) ⟨trivial, trivial, trivial, trivial⟩ ?_
     refine At.done rfl ?_
     cases h
     exact rfl
   ·refine Tri.keep [] [5000] (s' := ⟨[], [(5000, vL 6 encUpdate a1.2)]⟩) (by kernel_rfl) ?_
    refine Tri.exit ?_
    cases h
    exact ⟨rfl, rfl⟩
  ·intro a2 h
   cases h
   refine ⟨_, _, rfl, trivial, rfl, rfl, ?_⟩
   exact SubS.out ⟨⟨rfl, rfl⟩, trivial⟩
  · exact fun x => x.elim
set_option maxRecDepth 100000 in
theorem slices_rotateCmpFunc_Update__diff_Compare_w_ok {fuel : Nat} {p1 : Int} {p2 : Int} {p3 : Int} {l0 : List Update} {q : List Update} (h : slices_rotateCmpFunc_Update__diff_Compare_w fuel p1 p2 p3 l0 = some q) :
    Summ Try.prog 97 [.c (oC 5000 6 l0), cD (dI p1), cD (dI p2), cD (dI p3), cD (.fn 24 [])] [(5000, vL 6 encUpdate l0)] (.tup []) [(5000, vL 6 encUpdate q)] := by
  refine Summ.intro Try.func97 rfl (by kernel_rfl) (by kernel_rfl) [] rfl ?_
  rintro ⟨P, w0, G0, V, LL, lk, N, φ0, fx⟩ rfl rfl rfl rfl
  unfold slices_rotateCmpFunc_Update__diff_Compare_w at h
  refine Tri.segC [0, 2, 3, 4, 10] [5000] (allT 4) (by kernel_rfl) (by kernel_rfl) (allT_ok 4) ?_
  refine Tri.segC [0, 2, 4, 10, 11] [5000] (allT 4) (by kernel_rfl) (by kernel_rfl) (allT_ok 4) ?_
  refine Tri.seqS ?_
  refine Tri.keep [0, 2, 4, 10, 11] [5000] (s' := ⟨[(0, .c (oC 5000 6 l0)), (2, cD (dI p2)), (4, cD (.fn 24 [])), (10, cD (dI (IntKind.i64.wrap (p2 - p1)))), (11, cD (dI (IntKind.i64.wrap (p3 - p2))))], [(5000, vL 6 encUpdate l0)]⟩) (by kernel_rfl) ?_
  refine Tri.loopK (fuel := fuel) (st0 := ((IntKind.i64.wrap (p2 - p1)), (IntKind.i64.wrap (p3 - p2)), l0)) (fun (x : Empty) s => False) (fun (a1 : Int × Int × (List Update)) => ⟨[(0, .c (oC 5000 6 a1.2.2)), (2, cD (dI p2)), (4, cD (.fn 24 [])), (10, cD (dI a1.1)), (11, cD (dI a1.2.1))], [(5000, vL 6 encUpdate a1.2.2)]⟩) (fun (a1 : Int × Int × (List Update)) => ⟨[(0, .c (oC 5000 6 a1.2.2)), (2, cD (dI p2)), (4, cD (.fn 24 [])), (10, cD (dI a1.1)), (11, cD (dI a1.2.1))], [(5000, vL 6 encUpdate a1.2.2)]⟩) h ?_ ?_ ?_
  ·intro a1 c h
   show Tri _ _ ⟨[(0, .c (oC 5000 6 a1.2.2)), (2, cD (dI p2)), (4, cD (.fn 24 [])), (10, cD (dI a1.1)), (11, cD (dI a1.2.1))], [(5000, vL 6 encUpdate a1.2.2)]⟩ _
   refine Tri.seqS ?_
   refine Tri.segL [0, 2, 4, 10, 11, 20] [5000] ⟨[(0, .c (oC 5000 6 a1.2.2)), (2, cD (dI p2)), (4, cD (.fn 24 [])), (10, cD (dI a1.1)), (11, cD (dI a1.2.1)), (20, cD (.bool (!decide (a1.1 = a1.2.1))))], [(5000, vL 6 encUpdate a1.2.2)]⟩ (allT 3) (by kernel_rfl) (allT_ok 3) ?_
   refine Tri.condP (b := (!decide (a1.1 = a1.2.1))) rfl h (fun h => ?_) (fun h => ?_)
   ·refine Tri.skip ?_
    show Tri _ _ _ _
    refine Tri.blockB ?_
    refine Tri.segL [0, 2, 4, 10, 11, 23] [5000] ⟨[(0, .c (oC 5000 6 a1.2.2)), (2, cD (dI p2)), (4, cD (.fn 24 [])), (10, cD (dI a1.1)), (11, cD (dI a1.2.1)), (23, cD (.bool (decide (a1.2.1 < a1.1))))], [(5000, vL 6 encUpdate a1.2.2)]⟩ (allT 3) (by kernel_rfl) (allT_ok 3) ?_
    refine Tri.condP (b := (decide (a1.2.1 < a1.1))) rfl h (fun h => ?_) (fun h => ?_)
    ·refine Tri.seqS ?_
     refine Tri.reg ?_
     refine At.seg 7 [0, 2, 4, 10, 11, 24, 27, 28, 29, 30] [5000] (s' := ⟨[(0, .c (oC 5000 6 a1.2.2)), (2, cD (dI p2)), (4, cD (.fn 24 [])), (10, cD (dI a1.1)), (11, cD (dI a1.2.1)), (24, .c (oC 5000 6 a1.2.2)), (27, cD (dI (IntKind.i64.wrap (p2 - a1.1)))), (28, cD (dI p2)), (29, cD (dI a1.2.1)), (30, cD (.fn 24 []))], [(5000, vL 6 encUpdate a1.2.2)]⟩) (c := True ∧ True ∧ True ∧ True ∧ True ∧ True ∧ True ∧ True) (by kernel_rfl) ⟨trivial, trivial, trivial, trivial, trivial, trivial, trivial, trivial⟩ ?_
     obtain ⟨r4, hr4, h⟩ := bind_elim h
     refine At.callL (nf := 0) (caps := []) (xs := [.c (oC 5000 6 a1.2.2), cD (dI (IntKind.i64.wrap (p2 - a1.1))), cD (dI p2), cD (dI a1.2.1), cD (.fn 24 [])]) [(5000, 5000)] [0, 2, 4, 10, 11] [] (s0 := ⟨[(0, .c (oC 5000 6 a1.2.2)), (2, cD (dI p2)), (4, cD (.fn 24 [])), (10, cD (dI a1.1)), (11, cD (dI a1.2.1))], []⟩) (slices_swapRangeCmpFunc_Update__diff_Compare_w_ok hr4) rfl rfl (by kernel_rfl) rfl (by kernel_rfl) (by kernel_rfl) (.ren rfl rfl (.flat (.refl _) rfl rfl (.flat (.refl _) rfl rfl (.flat (.refl _) rfl rfl (.flat (.refl _) rfl rfl .nil))))) ⟨⟨by kernel_rfl, by kernel_rfl⟩, trivial⟩ (by kernel_rfl) (by kernel_rfl) (by kernel_rfl) (by kernel_rfl) (by kernel_rfl) (by kernel_rfl) (by kernel_rfl) (by kernel_rfl) (by kernel_rfl) ⟨[(31, .tup []), (0, .c (oC 5000 6 a1.2.2)), (2, cD (dI p2)), (4, cD (.fn 24 [])), (10, cD (dI a1.1)), (11, cD (dI a1.2.1))], [(5000, vL 6 encUpdate r4)]⟩ (by kernel_rfl) ?_
     obtain ⟨hc5, h⟩ := need_elim h
     refine At.eqS ⟨[(31, .tup []), (0, .c (oC 5000 6 r4)), (2, cD (dI p2)), (4, cD (.fn 24 [])), (10, cD (dI a1.1)), (11, cD (dI a1.2.1))], [(5000, vL 6 encUpdate r4)]⟩ (by simp only [oC, vL, hc5]) ?_
     refine At.done rfl ?_
     show Tri _ _ _ _
     refine Tri.reg ?_
     refine At.seg 4 [0, 2, 4, 10, 11] [5000] (s' := ⟨[(0, .c (oC 5000 6 r4)), (2, cD (dI p2)), (4, cD (.fn 24 [])), (10, cD (dI (IntKind.i64.wrap (a1.1 - a1.2.1)))), (11, cD (dI a1.2.1))], [(5000, vL 6 encUpdate r4)]⟩) (c := True ∧ True ∧ True ∧ True ∧ True) (by kernel_rfl) ⟨trivial, trivial, trivial, trivial, trivial⟩ ?_
     refine At.done rfl ?_
     cases h
     exact rfl
    ·refine Tri.seqS ?_
     refine Tri.reg ?_
     refine At.seg 11 [0, 2, 4, 10, 11, 35, 38, 43, 44, 45] [5000] (s' := ⟨[(0, .c (oC 5000 6 a1.2.2)), (2, cD (dI p2)), (4, cD (.fn 24 [])), (10, cD (dI a1.1)), (11, cD (dI a1.2.1)), (35, .c (oC 5000 6 a1.2.2)), (38, cD (dI (IntKind.i64.wrap (p2 - a1.1)))), (43, cD (dI (IntKind.i64.wrap ((IntKind.i64.wrap (p2 + a1.2.1)) - a1.1)))), (44, cD (dI a1.1)), (45, cD (.fn 24 []))], [(5000, vL 6 encUpdate a1.2.2)]⟩) (c := True ∧ True ∧ True ∧ True ∧ True ∧ True ∧ True ∧ True ∧ True ∧ True ∧ True ∧ True) (by kernel_rfl) ⟨trivial, trivial, trivial, trivial, trivial, trivial, trivial, trivial, trivial, trivial, trivial, trivial⟩ ?_
     obtain ⟨r6, hr6, h⟩ := bind_elim h
     refine At.callL (nf := 0) (caps := []) (xs := [.c (oC 5000 6 a1.2.2), cD (dI (IntKind.i64.wrap (p2 - a1.1))), cD (dI (IntKind.i64.wrap ((IntKind.i64.wrap (p2 + a1.2.1)) - a1.1))), cD (dI a1.1), cD (.fn 24 [])]) [(5000, 5000)] [0, 2, 4, 10, 11] [] (s0 := ⟨[(0, .c (oC 5000 6 a1.2.2)), (2, cD (dI p2)), (4, cD (.fn 24 [])), (10, cD (dI a1.1)), (11, cD (dI a1.2.1))], []⟩) (slices_swapRangeCmpFunc_Update__diff_Compare_w_ok hr6) rfl rfl (by kernel_rfl) rfl (by kernel_rfl) (by kernel_rfl) (.ren rfl rfl (.flat (.refl _) rfl rfl (.flat (.refl _) rfl rfl (.flat (.refl _) rfl rfl (.flat (.refl _) rfl rfl .nil))))) ⟨⟨by kernel_rfl, by kernel_rfl⟩, trivial⟩ (by kernel_rfl) (by kernel_rfl) (by kernel_rfl) (by kernel_rfl) (by kernel_rfl) (by kernel_rfl) (by kernel_rfl) (by kernel_rfl) (by kernel_rfl) ⟨[(46, .tup []), (0, .c (oC 5000 6 a1.2.2)), (2, cD (dI p2)), (4, cD (.fn 24 [])), (10, cD (dI a1.1)), (11, cD (dI a1.2.1))], [(5000, vL 6 encUpdate r6)]⟩ (by kernel_rfl) ?_
     obtain ⟨hc7, h⟩ := need_elim h
     refine At.eqS ⟨[(46, .tup []), (0, .c (oC 5000 6 r6)), (2, cD (dI p2)), (4, cD (.fn 24 [])), (10, cD (dI a1.1)), (11, cD (dI a1.2.1))], [(5000, vL 6 encUpdate r6)]⟩ (by simp only [oC, vL, hc7]) ?_
     refine At.done rfl ?_
     show Tri _ _ _ _
     refine Tri.reg ?_
     refine At.seg 4 [0, 2, 4, 10, 11] [5000] (s' := ⟨[(0, .c (oC 5000 6 r6)), (2, cD (dI p2)), (4, cD (.fn 24 [])), (10, cD (dI a1.1)), (11, cD (dI (IntKind.i64.wrap (a1.2.1 - a1.1))))], [(5000, vL 6 encUpdate r6)]⟩) (c := True ∧ True ∧ True ∧ True ∧ True) (by kernel_rfl) ⟨trivial, trivial, trivial, trivial, trivial⟩ ?_
     refine At.done rfl ?_
     cases h
     exact rfl
   ·refine Tri.keep [0, 2, 4, 10, 11] [5000] (s' := ⟨[(0, .c (oC 5000 6 a1.2.2)), (2, cD (dI p2)), (4, cD (.fn 24 [])), (10, cD (dI a1.1)), (11, cD (dI a1.2.1))], [(5000, vL 6 encUpdate a1.2.2)]⟩) (by kernel_rfl) ?_
    refine Tri.exit ?_
    cases h
    exact ⟨rfl, rfl⟩
  ·intro a2 h
   show Tri _ _ _ _
   refine Tri.reg ?_
   refine At.seg 7 [50, 53, 54, 55, 56] [5000] (s' := ⟨[(50, .c (oC 5000 6 a2.2.2)), (53, cD (dI (IntKind.i64.wrap (p2 - a2.1)))), (54, cD (dI p2)), (55, cD (dI a2.1)), (56, cD (.fn 24 []))], [(5000, vL 6 encUpdate a2.2.2)]⟩) (c := True ∧ True ∧ True ∧ True ∧ True ∧ True ∧ True ∧ True) (by kernel_rfl) ⟨trivial, trivial, trivial, trivial, trivial, trivial, trivial, trivial⟩ ?_
   obtain ⟨r3, hr3, h⟩ := bind_elim h
   refine At.callL (nf := 0) (caps := []) (xs := [.c (oC 5000 6 a2.2.2), cD (dI (IntKind.i64.wrap (p2 - a2.1))), cD (dI p2), cD (dI a2.1), cD (.fn 24 [])]) [(5000, 5000)] [] [] (s0 := ⟨[], []⟩) (slices_swapRangeCmpFunc_Update__diff_Compare_w_ok hr3) rfl rfl (by kernel_rfl) rfl (by kernel_rfl) (by kernel_rfl) (.ren rfl rfl (.flat (.refl _) rfl rfl (.flat (.refl _) rfl rfl (.flat (.refl _) rfl rfl (.flat (.refl _) rfl rfl .nil))))) ⟨⟨by kernel_rfl, by kernel_rfl⟩, trivial⟩ (by kernel_rfl) (by kernel_rfl) (by kernel_rfl) (by kernel_rfl) (by kernel_rfl) (by kernel_rfl) (by kernel_rfl) (by kernel_rfl) (by kernel_rfl) ⟨[(57, .tup [])], [(5000, vL 6 encUpdate r3)]⟩ (by kernel_rfl) ?_
   refine At.keep [] [5000] (s' := ⟨[], [(5000, vL 6 encUpdate r3)]⟩) (by kernel_rfl) ?_
   refine At.done rfl ?_
   cases h
   refine ⟨_, _, rfl, trivial, rfl, rfl, ?_⟩
   exact SubS.out ⟨⟨rfl, rfl⟩, trivial⟩
  · exact fun x => x.elim
set_option maxRecDepth 100000 in
theorem slices_symMergeCmpFunc_Update__diff_Compare_w_ok {fuel : Nat} {p1 : Int} {p2 : Int} {p3 : Int} {l0 : List Update} {q : List Update} (h : slices_symMergeCmpFunc_Update__diff_Compare_w fuel p1 p2 p3 l0 = some q) :
    Summ Try.prog 92 [.c (oC 5000 6 l0), cD (dI p1), cD (dI p2), cD (dI p3), cD (.fn 24 [])] [(5000, vL 6 encUpdate l0)] (.tup []) [(5000, vL 6 encUpdate q)] := by
  induction fuel generalizing p1 p2 p3 l0 q with
  | zero => rw [slices_symMergeCmpFunc_Update__diff_Compare_w.eq_1] at h; cases h
  | succ fuel ih =>
    refine Summ.intro Try.func92 rfl (by kernel_rfl) (by kernel_rfl) [] rfl ?_
    rintro ⟨P, w0, G0, V, LL, lk, N, φ0, fx⟩ rfl rfl rfl rfl
    rw [slices_symMergeCmpFunc_Update__diff_Compare_w.eq_2] at h
    refine Tri.seqS ?_
    refine Tri.segL [0, 1, 2, 3, 4, 28] [5000] ⟨[(0, .c (oC 5000 6 l0)), (1, cD (dI p1)), (2, cD (dI p2)), (3, cD (dI p3)), (4, cD (.fn 24 [])), (28, cD (.bool (decide ((IntKind.i64.wrap (p2 - p1)) = 1))))], [(5000, vL 6 encUpdate l0)]⟩ (allT 4) (by kernel_rfl) (allT_ok 4) ?_
    refine Tri.condP (b := (decide ((IntKind.i64.wrap (p2 - p1)) = 1))) rfl h (fun h => ?_) (fun h => ?_)
    ·refine Tri.segC [0, 1, 3, 4, 10] [5000] (allT 2) (by kernel_rfl) (by kernel_rfl) (allT_ok 2) ?_
     refine Tri.segC [0, 1, 4, 10, 11] [5000] (allT 2) (by kernel_rfl) (by kernel_rfl) (allT_ok 2) ?_
     refine Tri.seqS ?_
     refine Tri.keep [0, 1, 4, 10, 11] [5000] (s' := ⟨[(0, .c (oC 5000 6 l0)), (1, cD (dI p1)), (4, cD (.fn 24 [])), (10, cD (dI p2)), (11, cD (dI p3))], [(5000, vL 6 encUpdate l0)]⟩) (by kernel_rfl) ?_
     refine Tri.loopK (fuel := fuel) (st0 := (p2, p3)) (fun (x : Empty) s => False) (fun (a1 : Int × Int) => ⟨[(0, .c (oC 5000 6 l0)), (1, cD (dI p1)), (4, cD (.fn 24 [])), (10, cD (dI a1.1)), (11, cD (dI a1.2))], [(5000, vL 6 encUpdate l0)]⟩) (fun (a1 : Int × Int) => ⟨[(0, .c (oC 5000 6 l0)), (1, cD (dI p1)), (4, cD (.fn 24 [])), (10, cD (dI a1.1)), (11, cD (dI a1.2))], [(5000, vL 6 encUpdate l0)]⟩) h ?_ ?_ ?_
     ·intro a1 c h
      show Tri _ _ ⟨[(0, .c (oC 5000 6 l0)), (1, cD (dI p1)), (4, cD (.fn 24 [])), (10, cD (dI a1.1)), (11, cD (dI a1.2))], [(5000, vL 6 encUpdate l0)]⟩ _
      refine Tri.seqS ?_
      refine Tri.segL [0, 1, 4, 10, 11, 33] [5000] ⟨[(0, .c (oC 5000 6 l0)), (1, cD (dI p1)), (4, cD (.fn 24 [])), (10, cD (dI a1.1)), (11, cD (dI a1.2)), (33, cD (.bool (decide (a1.1 < a1.2))))], [(5000, vL 6 encUpdate l0)]⟩ (allT 3) (by kernel_rfl) (allT_ok 3) ?_
      refine Tri.condP (b := (decide (a1.1 < a1.2))) rfl h (fun h => ?_) (fun h => ?_)
      ·refine Tri.skip ?_
       show Tri _ _ _ _
       refine Tri.blockB ?_
       refine Tri.segL [0, 1, 4, 10, 11, 12] [5000] ⟨[(0, .c (oC 5000 6 l0)), (1, cD (dI p1)), (4, cD (.fn 24 [])), (10, cD (dI a1.1)), (11, cD (dI a1.2)), (12, cD (dI (IntKind.i64.wrap (shrOp .u64 (IntKind.u64.wrap (IntKind.i64.wrap (a1.1 + a1.2))) 1))))], [(5000, vL 6 encUpdate l0)]⟩ (True ∧ True ∧ True ∧ True ∧ ((0 : Int) ≤ 1) ∧ True ∧ True ∧ True) (by kernel_rfl) ⟨trivial, trivial, trivial, trivial, (by decide : (0 : Int) ≤ 1), trivial, trivial, trivial⟩ ?_
       refine Tri.seqS ?_
       obtain ⟨hc13, h⟩ := need_elim h
       obtain ⟨hc14, h⟩ := need_elim h
       obtain ⟨hc15, h⟩ := need_elim h
       obtain ⟨hc16, h⟩ := need_elim h
       obtain ⟨r17, hr17, h⟩ := bind_elim h
       refine Tri.drawnS (s' := ⟨[(0, .c (oC 5000 6 l0)), (1, cD (dI p1)), (4, cD (.fn 24 [])), (10, cD (dI a1.1)), (11, cD (dI a1.2)), (12, cD (dI (IntKind.i64.wrap (shrOp .u64 (IntKind.u64.wrap (IntKind.i64.wrap (a1.1 + a1.2))) 1)))), (50, cD (.bool (decide (r17 < 0))))], [(5000, vL 6 encUpdate l0)]⟩) (cs := True ∧ True ∧ True ∧ ((0 : Int) ≤ (IntKind.i64.wrap (shrOp .u64 (IntKind.u64.wrap (IntKind.i64.wrap (a1.1 + a1.2))) 1)) ∧ (IntKind.i64.wrap (shrOp .u64 (IntKind.u64.wrap (IntKind.i64.wrap (a1.1 + a1.2))) 1)) < (l0.length : Int)) ∧ ((0 + (IntKind.i64.wrap (shrOp .u64 (IntKind.u64.wrap (IntKind.i64.wrap (a1.1 + a1.2))) 1)).toNat) < l0.length) ∧ True ∧ True ∧ ((0 : Int) ≤ p1 ∧ p1 < (l0.length : Int)) ∧ ((0 + p1.toNat) < l0.length) ∧ True ∧ True) [.a [4] [], .a [0] [], .a [12] [], .a [41, 42] [5000], .a [43] [5000], .a [0] [], .a [1] [], .a [45, 46] [5000], .a [47] [5000], .m ⟨[(40, cD (.fn 24 [])), (44, .agg (cUpdate (l0.getD (0 + (IntKind.i64.wrap (shrOp .u64 (IntKind.u64.wrap (IntKind.i64.wrap (a1.1 + a1.2))) 1)).toNat) default))), (48, .agg (cUpdate (l0.getD (0 + p1.toNat) default)))], []⟩ ⟨[(49, cD (dI r17))], []⟩ [] [] [], .a [49] []] [[], [], [], [1, 2], [1, 2, 3], [], [], [5, 6], [5, 6, 7], [0, 1, 2, 3, 4, 5, 6, 7, 8], [0, 1, 2, 3, 4, 5, 6, 7, 8, 9]] [0, 1, 4, 10, 11, 12, 50] [5000] (by kernel_rfl) (by kernel_rfl) (by kernel_rfl) (by kernel_rfl) (by kernel_rfl) ⟨trivial, trivial, trivial, hc13, hc14, trivial, trivial, hc15, hc16, trivial, trivial⟩ (.a (.a (.a (.a (.a (.a (.a (.a (.a (.m ?_ (.a .z))))))))))) (by kernel_rfl) ?_
       · exact DOk.callA (caps := []) (xs := [.agg (cUpdate (l0.getD (0 + (IntKind.i64.wrap (shrOp .u64 (IntKind.u64.wrap (IntKind.i64.wrap (a1.1 + a1.2))) 1)).toNat) default)), .agg (cUpdate (l0.getD (0 + p1.toNat) default))]) (diff_Compare_ok hr17) rfl (fun r => by kernel_rfl) rfl (fun r => by kernel_rfl) (fun r => by kernel_rfl) (fun r => (.cons (.refl _) (.cons (.refl _) .nil))) rfl rfl (fun r => rfl)
       show Tri _ _ _ _
       refine Tri.condP (b := (decide (r17 < 0))) rfl h (fun h => ?_) (fun h => ?_)
       ·refine Tri.reg ?_
        refine At.seg 3 [0, 1, 4, 10, 11] [5000] (s' := ⟨[(0, .c (oC 5000 6 l0)), (1, cD (dI p1)), (4, cD (.fn 24 [])), (10, cD (dI (IntKind.i64.wrap ((IntKind.i64.wrap (shrOp .u64 (IntKind.u64.wrap (IntKind.i64.wrap (a1.1 + a1.2))) 1)) + 1)))), (11, cD (dI a1.2))], [(5000, vL 6 encUpdate l0)]⟩) (c := True ∧ True ∧ True ∧ True) (by kernel_rfl) ⟨trivial, trivial, trivial, trivial⟩ ?_
        refine At.done rfl ?_
        cases h
        exact rfl
       ·refine Tri.reg ?_
        refine At.seg 2 [0, 1, 4, 10, 11] [5000] (s' := ⟨[(0, .c (oC 5000 6 l0)), (1, cD (dI p1)), (4, cD (.fn 24 [])), (10, cD (dI a1.1)), (11, cD (dI (IntKind.i64.wrap (shrOp .u64 (IntKind.u64.wrap (IntKind.i64.wrap (a1.1 + a1.2))) 1))))], [(5000, vL 6 encUpdate l0)]⟩) (c := True ∧ True ∧ True) (by kernel_rfl) ⟨trivial, trivial, trivial⟩ ?_
        refine At.done rfl ?_
        cases h
        exact rfl
      ·refine Tri.keep [0, 1, 4, 10, 11] [5000] (s' := ⟨[(0, .c (oC 5000 6 l0)), (1, cD (dI p1)), (4, cD (.fn 24 [])), (10, cD (dI a1.1)), (11, cD (dI a1.2))], [(5000, vL 6 encUpdate l0)]⟩) (by kernel_rfl) ?_
       refine Tri.exit ?_
       cases h
       exact ⟨rfl, rfl⟩
     ·intro a2 h
      show Tri _ _ _ _
      refine Tri.seqS ?_
      refine Tri.segC [0, 10, 13] [5000] (allT 2) (by kernel_rfl) (by kernel_rfl) (allT_ok 2) ?_
      refine Tri.keep [0, 10, 13] [5000] (s' := ⟨[(0, .c (oC 5000 6 l0)), (10, cD (dI a2.1)), (13, cD (dI p1))], [(5000, vL 6 encUpdate l0)]⟩) (by kernel_rfl) ?_
      refine Tri.loopK (fuel := fuel) (st0 := (p1, l0)) (fun (x : Empty) s => False) (fun (a3 : Int × (List Update)) => ⟨[(0, .c (oC 5000 6 a3.2)), (10, cD (dI a2.1)), (13, cD (dI a3.1))], [(5000, vL 6 encUpdate a3.2)]⟩) (fun (a3 : Int × (List Update)) => ⟨[(0, .c (oC 5000 6 a3.2)), (10, cD (dI a2.1)), (13, cD (dI a3.1))], [(5000, vL 6 encUpdate a3.2)]⟩) h ?_ ?_ ?_
      ·intro a3 c h
       show Tri _ _ ⟨[(0, .c (oC 5000 6 a3.2)), (10, cD (dI a2.1)), (13, cD (dI a3.1))], [(5000, vL 6 encUpdate a3.2)]⟩ _
       refine Tri.seqS ?_
       refine Tri.segL [0, 10, 13, 58] [5000] ⟨[(0, .c (oC 5000 6 a3.2)), (10, cD (dI a2.1)), (13, cD (dI a3.1)), (58, cD (.bool (decide (a3.1 < (IntKind.i64.wrap (a2.1 - 1))))))], [(5000, vL 6 encUpdate a3.2)]⟩ (allT 4) (by kernel_rfl) (allT_ok 4) ?_
       refine Tri.condP (b := (decide (a3.1 < (IntKind.i64.wrap (a2.1 - 1))))) rfl h (fun h => ?_) (fun h => ?_)
       ·refine Tri.skip ?_
        show Tri _ _ _ _
        refine Tri.seqS ?_
        refine Tri.blockB ?_
        obtain ⟨hc5, h⟩ := need_elim h
        obtain ⟨hc6, h⟩ := need_elim h
        obtain ⟨hc7, h⟩ := need_elim h
        obtain ⟨hc8, h⟩ := need_elim h
        obtain ⟨hc9, h⟩ := need_elim h
        obtain ⟨hc10, h⟩ := need_elim h
        obtain ⟨hc11, h⟩ := need_elim h
        obtain ⟨hc12, h⟩ := need_elim h
        refine Tri.afterA ⟨[(0, .c (oC 5000 6 a3.2)), (10, cD (dI a2.1)), (13, cD (dI a3.1))], [(5000, vL 6 encUpdate ((a3.2.set (0 + a3.1.toNat) (a3.2.getD (0 + (IntKind.i64.wrap (a3.1 + 1)).toNat) default)).set (0 + (IntKind.i64.wrap (a3.1 + 1)).toNat) (a3.2.getD (0 + a3.1.toNat) default)))]⟩ ?_ ?_
        ·refine Tri.drawnS (s' := ⟨[(0, .c (oC 5000 6 a3.2)), (10, cD (dI a2.1)), (13, cD (dI a3.1))], [(5000, vL 6 encUpdate ((a3.2.set (0 + a3.1.toNat) (a3.2.getD (0 + (IntKind.i64.wrap (a3.1 + 1)).toNat) default)).set (0 + (IntKind.i64.wrap (a3.1 + 1)).toNat) (a3.2.getD (0 + a3.1.toNat) default)))]⟩) (cs := True ∧ True ∧ True ∧ True ∧ True ∧ True ∧ True ∧ True ∧ ((0 : Int) ≤ (IntKind.i64.wrap (a3.1 + 1)) ∧ (IntKind.i64.wrap (a3.1 + 1)) < (a3.2.length : Int)) ∧ ((0 + (IntKind.i64.wrap (a3.1 + 1)).toNat) < a3.2.length) ∧ True ∧ True ∧ ((0 : Int) ≤ a3.1 ∧ a3.1 < (a3.2.length : Int)) ∧ ((0 + a3.1.toNat) < a3.2.length) ∧ ((0 : Int) ≤ a3.1 ∧ a3.1 < (a3.2.length : Int)) ∧ ((0 : Int) ≤ (IntKind.i64.wrap (a3.1 + 1)) ∧ (IntKind.i64.wrap (a3.1 + 1)) < (a3.2.length : Int)) ∧ True) [.a [0] [], .a [13] [], .a [0] [], .a [13] [], .a [64] [], .a [0] [], .a [13] [], .a [67] [], .a [66, 68] [5000], .a [69] [5000], .a [0] [], .a [13] [], .a [71, 72] [5000], .a [73] [5000], .a [61, 62] [5000], .m ⟨[(70, .agg (cUpdate (a3.2.getD (0 + (IntKind.i64.wrap (a3.1 + 1)).toNat) default))), (75, .c (.vptr 5000 6 (0 + a3.1.toNat) 0))], [(5000, vL 6 encUpdate a3.2)]⟩ ⟨[], [(5000, vL 6 encUpdate (a3.2.set (0 + a3.1.toNat) (a3.2.getD (0 + (IntKind.i64.wrap (a3.1 + 1)).toNat) default)))]⟩ [] [] [], .a [63, 65] [5000], .m ⟨[(74, .agg (cUpdate (a3.2.getD (0 + a3.1.toNat) default))), (76, .c (.vptr 5000 6 (0 + (IntKind.i64.wrap (a3.1 + 1)).toNat) 0))], [(5000, vL 6 encUpdate (a3.2.set (0 + a3.1.toNat) (a3.2.getD (0 + (IntKind.i64.wrap (a3.1 + 1)).toNat) default)))]⟩ ⟨[], [(5000, vL 6 encUpdate ((a3.2.set (0 + a3.1.toNat) (a3.2.getD (0 + (IntKind.i64.wrap (a3.1 + 1)).toNat) default)).set (0 + (IntKind.i64.wrap (a3.1 + 1)).toNat) (a3.2.getD (0 + a3.1.toNat) default)))]⟩ [] [] []] [[], [], [], [], [3], [], [], [6], [5, 6, 7], [5, 6, 7, 8], [], [], [10, 11], [10, 11, 12], [0, 1, 5, 6, 7, 8, 9, 10, 11, 12, 13], [0, 1, 5, 6, 7, 8, 9, 10, 11, 12, 13, 14], [0, 1, 2, 3, 4, 5, 6, 7, 8, 9, 10, 11, 12, 13, 14, 15], [0, 1, 2, 3, 4, 5, 6, 7, 8, 9, 10, 11, 12, 13, 14, 15, 16]] [0, 10, 13] [5000] (by kernel_rfl) (by kernel_rfl) (by kernel_rfl) (by kernel_rfl) (by kernel_rfl) ⟨trivial, trivial, trivial, trivial, trivial, trivial, trivial, trivial, hc5, hc6, trivial, trivial, hc7, hc8, hc9, hc11, trivial⟩ (.a (.a (.a (.a (.a (.a (.a (.a (.a (.a (.a (.a (.a (.a (.a (.m ?_ (.a (.m ?_ .z)))))))))))))))))) (by kernel_rfl) ?_
         · exact DOk.one fun r hr => One.storeT (xs := [.d (lD 3 encValue ((a3.2.getD (0 + (IntKind.i64.wrap (a3.1 + 1)).toNat) default).key)), .d (lD 3 encValue ((a3.2.getD (0 + (IntKind.i64.wrap (a3.1 + 1)).toNat) default).row)), .d (dU ((a3.2.getD (0 + (IntKind.i64.wrap (a3.1 + 1)).toNat) default).time.epoch)), .d (dU ((a3.2.getD (0 + (IntKind.i64.wrap (a3.1 + 1)).toNat) default).time.loop.1)), .d (dU ((a3.2.getD (0 + (IntKind.i64.wrap (a3.1 + 1)).toNat) default).time.loop.2)), .d (dI ((a3.2.getD (0 + (IntKind.i64.wrap (a3.1 + 1)).toNat) default).diff))]) (ds := [lD 3 encValue ((a3.2.getD (0 + (IntKind.i64.wrap (a3.1 + 1)).toNat) default).key), lD 3 encValue ((a3.2.getD (0 + (IntKind.i64.wrap (a3.1 + 1)).toNat) default).row), dU ((a3.2.getD (0 + (IntKind.i64.wrap (a3.1 + 1)).toNat) default).time.epoch), dU ((a3.2.getD (0 + (IntKind.i64.wrap (a3.1 + 1)).toNat) default).time.loop.1), dU ((a3.2.getD (0 + (IntKind.i64.wrap (a3.1 + 1)).toNat) default).time.loop.2), dI ((a3.2.getD (0 + (IntKind.i64.wrap (a3.1 + 1)).toNat) default).diff)]) (encUpdate) a3.2 (a3.2.getD (0 + (IntKind.i64.wrap (a3.1 + 1)).toNat) default) rfl (by kernel_rfl) rfl rfl rfl hc10 rfl rfl (.refl _) rfl rfl rfl rfl
         · exact DOk.one fun r hr => One.storeT (xs := [.d (lD 3 encValue ((a3.2.getD (0 + a3.1.toNat) default).key)), .d (lD 3 encValue ((a3.2.getD (0 + a3.1.toNat) default).row)), .d (dU ((a3.2.getD (0 + a3.1.toNat) default).time.epoch)), .d (dU ((a3.2.getD (0 + a3.1.toNat) default).time.loop.1)), .d (dU ((a3.2.getD (0 + a3.1.toNat) default).time.loop.2)), .d (dI ((a3.2.getD (0 + a3.1.toNat) default).diff))]) (ds := [lD 3 encValue ((a3.2.getD (0 + a3.1.toNat) default).key), lD 3 encValue ((a3.2.getD (0 + a3.1.toNat) default).row), dU ((a3.2.getD (0 + a3.1.toNat) default).time.epoch), dU ((a3.2.getD (0 + a3.1.toNat) default).time.loop.1), dU ((a3.2.getD (0 + a3.1.toNat) default).time.loop.2), dI ((a3.2.getD (0 + a3.1.toNat) default).diff)]) (encUpdate) (a3.2.set (0 + a3.1.toNat) (a3.2.getD (0 + (IntKind.i64.wrap (a3.1 + 1)).toNat) default)) (a3.2.getD (0 + a3.1.toNat) default) rfl (by kernel_rfl) rfl rfl rfl hc12 rfl rfl (.refl _) rfl rfl rfl rfl
         exact ⟨rfl, rfl⟩
        ·refine At.eqS (s' := ⟨[(0, .c (oC 5000 6 ((a3.2.set (0 + a3.1.toNat) (a3.2.getD (0 + (IntKind.i64.wrap (a3.1 + 1)).toNat) default)).set (0 + (IntKind.i64.wrap (a3.1 + 1)).toNat) (a3.2.getD (0 + a3.1.toNat) default)))), (10, cD (dI a2.1)), (13, cD (dI a3.1))], [(5000, vL 6 encUpdate ((a3.2.set (0 + a3.1.toNat) (a3.2.getD (0 + (IntKind.i64.wrap (a3.1 + 1)).toNat) default)).set (0 + (IntKind.i64.wrap (a3.1 + 1)).toNat) (a3.2.getD (0 + a3.1.toNat) default)))]⟩) (by simp only [oC, vL, List.length_set]) ?_
         refine At.done rfl ?_
         show Tri _ _ _ _
         refine Tri.reg ?_
         refine At.seg 3 [0, 10, 13] [5000] (s' := ⟨[(0, .c (oC 5000 6 ((a3.2.set (0 + a3.1.toNat) (a3.2.getD (0 + (IntKind.i64.wrap (a3.1 + 1)).toNat) default)).set (0 + (IntKind.i64.wrap (a3.1 + 1)).toNat) (a3.2.getD (0 + a3.1.toNat) default)))), (10, cD (dI a2.1)), (13, cD (dI (IntKind.i64.wrap (a3.1 + 1))))], [(5000, vL 6 encUpdate ((a3.2.set (0 + a3.1.toNat) (a3.2.getD (0 + (IntKind.i64.wrap (a3.1 + 1)).toNat) default)).set (0 + (IntKind.i64.wrap (a3.1 + 1)).toNat) (a3.2.getD (0 + a3.1.toNat) default)))]⟩) (c := True ∧ True ∧ True ∧ True) (by kernel_rfl) ⟨trivial, trivial, trivial, trivial⟩ ?_
         refine At.done rfl ?_
         cases h
         exact rfl
       ·refine Tri.keep [0, 10, 13] [5000] (s' := ⟨[(0, .c (oC 5000 6 a3.2)), (10, cD (dI a2.1)), (13, cD (dI a3.1))], [(5000, vL 6 encUpdate a3.2)]⟩) (by kernel_rfl) ?_
        refine Tri.exit ?_
        cases h
        exact ⟨rfl, rfl⟩
      ·intro a4 h
       show Tri _ _ _ _
       refine Tri.keep [] [5000] (s' := ⟨[], [(5000, vL 6 encUpdate a4.2)]⟩) (by kernel_rfl) ?_
       refine Tri.ret ?_
       cases h
       refine ⟨_, _, rfl, trivial, rfl, rfl, ?_⟩
       exact SubS.out ⟨⟨rfl, rfl⟩, trivial⟩
      · exact fun x => x.elim
     · exact fun x => x.elim
    ·refine Tri.skip ?_
     show Tri _ _ _ _
     refine Tri.seqS ?_
     refine Tri.segL [0, 1, 2, 3, 4, 80] [5000] ⟨[(0, .c (oC 5000 6 l0)), (1, cD (dI p1)), (2, cD (dI p2)), (3, cD (dI p3)), (4, cD (.fn 24 [])), (80, cD (.bool (decide ((IntKind.i64.wrap (p3 - p2)) = 1))))], [(5000, vL 6 encUpdate l0)]⟩ (allT 4) (by kernel_rfl) (allT_ok 4) ?_
     refine Tri.condP (b := (decide ((IntKind.i64.wrap (p3 - p2)) = 1))) rfl h (fun h => ?_) (fun h => ?_)
     ·refine Tri.segC [0, 2, 4, 14] [5000] (allT 2) (by kernel_rfl) (by kernel_rfl) (allT_ok 2) ?_
      refine Tri.segC [0, 2, 4, 14, 15] [5000] (allT 2) (by kernel_rfl) (by kernel_rfl) (allT_ok 2) ?_
      refine Tri.seqS ?_
      refine Tri.keep [0, 2, 4, 14, 15] [5000] (s' := ⟨[(0, .c (oC 5000 6 l0)), (2, cD (dI p2)), (4, cD (.fn 24 [])), (14, cD (dI p1)), (15, cD (dI p2))], [(5000, vL 6 encUpdate l0)]⟩) (by kernel_rfl) ?_
      refine Tri.loopK (fuel := fuel) (st0 := (p1, p2)) (fun (x : Empty) s => False) (fun (a18 : Int × Int) => ⟨[(0, .c (oC 5000 6 l0)), (2, cD (dI p2)), (4, cD (.fn 24 [])), (14, cD (dI a18.1)), (15, cD (dI a18.2))], [(5000, vL 6 encUpdate l0)]⟩) (fun (a18 : Int × Int) => ⟨[(0, .c (oC 5000 6 l0)), (2, cD (dI p2)), (4, cD (.fn 24 [])), (14, cD (dI a18.1)), (15, cD (dI a18.2))], [(5000, vL 6 encUpdate l0)]⟩) h ?_ ?_ ?_
      ·intro a18 c h
       show Tri _ _ ⟨[(0, .c (oC 5000 6 l0)), (2, cD (dI p2)), (4, cD (.fn 24 [])), (14, cD (dI a18.1)), (15, cD (dI a18.2))], [(5000, vL 6 encUpdate l0)]⟩ _
       refine Tri.seqS ?_
       refine Tri.segL [0, 2, 4, 14, 15, 85] [5000] ⟨[(0, .c (oC 5000 6 l0)), (2, cD (dI p2)), (4, cD (.fn 24 [])), (14, cD (dI a18.1)), (15, cD (dI a18.2)), (85, cD (.bool (decide (a18.1 < a18.2))))], [(5000, vL 6 encUpdate l0)]⟩ (allT 3) (by kernel_rfl) (allT_ok 3) ?_
       refine Tri.condP (b := (decide (a18.1 < a18.2))) rfl h (fun h => ?_) (fun h => ?_)
       ·refine Tri.skip ?_
        show Tri _ _ _ _
        refine Tri.blockB ?_
        refine Tri.segL [0, 2, 4, 14, 15, 16] [5000] ⟨[(0, .c (oC 5000 6 l0)), (2, cD (dI p2)), (4, cD (.fn 24 [])), (14, cD (dI a18.1)), (15, cD (dI a18.2)), (16, cD (dI (IntKind.i64.wrap (shrOp .u64 (IntKind.u64.wrap (IntKind.i64.wrap (a18.1 + a18.2))) 1))))], [(5000, vL 6 encUpdate l0)]⟩ (True ∧ True ∧ True ∧ True ∧ ((0 : Int) ≤ 1) ∧ True ∧ True ∧ True) (by kernel_rfl) ⟨trivial, trivial, trivial, trivial, (by decide : (0 : Int) ≤ 1), trivial, trivial, trivial⟩ ?_
        refine Tri.seqS ?_
        obtain ⟨hc30, h⟩ := need_elim h
        obtain ⟨hc31, h⟩ := need_elim h
        obtain ⟨hc32, h⟩ := need_elim h
        obtain ⟨hc33, h⟩ := need_elim h
        obtain ⟨r34, hr34, h⟩ := bind_elim h
        refine Tri.drawnS (s' := ⟨[(0, .c (oC 5000 6 l0)), (2, cD (dI p2)), (4, cD (.fn 24 [])), (14, cD (dI a18.1)), (15, cD (dI a18.2)), (16, cD (dI (IntKind.i64.wrap (shrOp .u64 (IntKind.u64.wrap (IntKind.i64.wrap (a18.1 + a18.2))) 1)))), (103, cD (.bool (!(decide (r34 < 0)))))], [(5000, vL 6 encUpdate l0)]⟩) (cs := True ∧ True ∧ True ∧ ((0 : Int) ≤ p2 ∧ p2 < (l0.length : Int)) ∧ ((0 + p2.toNat) < l0.length) ∧ True ∧ True ∧ ((0 : Int) ≤ (IntKind.i64.wrap (shrOp .u64 (IntKind.u64.wrap (IntKind.i64.wrap (a18.1 + a18.2))) 1)) ∧ (IntKind.i64.wrap (shrOp .u64 (IntKind.u64.wrap (IntKind.i64.wrap (a18.1 + a18.2))) 1)) < (l0.length : Int)) ∧ ((0 + (IntKind.i64.wrap (shrOp .u64 (IntKind.u64.wrap (IntKind.i64.wrap (a18.1 + a18.2))) 1)).toNat) < l0.length) ∧ True ∧ True ∧ True) [.a [4] [], .a [0] [], .a [2] [], .a [93, 94] [5000], .a [95] [5000], .a [0] [], .a [16] [], .a [97, 98] [5000], .a [99] [5000], .m ⟨[(92, cD (.fn 24 [])), (96, .agg (cUpdate (l0.getD (0 + p2.toNat) default))), (100, .agg (cUpdate (l0.getD (0 + (IntKind.i64.wrap (shrOp .u64 (IntKind.u64.wrap (IntKind.i64.wrap (a18.1 + a18.2))) 1)).toNat) default)))], []⟩ ⟨[(101, cD (dI r34))], []⟩ [] [] [], .a [101] [], .a [102] []] [[], [], [], [1, 2], [1, 2, 3], [], [], [5, 6], [5, 6, 7], [0, 1, 2, 3, 4, 5, 6, 7, 8], [0, 1, 2, 3, 4, 5, 6, 7, 8, 9], [0, 1, 2, 3, 4, 5, 6, 7, 8, 9, 10]] [0, 2, 4, 14, 15, 16, 103] [5000] (by kernel_rfl) (by kernel_rfl) (by kernel_rfl) (by kernel_rfl) (by kernel_rfl) ⟨trivial, trivial, trivial, hc30, hc31, trivial, trivial, hc32, hc33, trivial, trivial, trivial⟩ (.a (.a (.a (.a (.a (.a (.a (.a (.a (.m ?_ (.a (.a .z)))))))))))) (by kernel_rfl) ?_
        · exact DOk.callA (caps := []) (xs := [.agg (cUpdate (l0.getD (0 + p2.toNat) default)), .agg (cUpdate (l0.getD (0 + (IntKind.i64.wrap (shrOp .u64 (IntKind.u64.wrap (IntKind.i64.wrap (a18.1 + a18.2))) 1)).toNat) default))]) (diff_Compare_ok hr34) rfl (fun r => by kernel_rfl) rfl (fun r => by kernel_rfl) (fun r => by kernel_rfl) (fun r => (.cons (.refl _) (.cons (.refl _) .nil))) rfl rfl (fun r => rfl)
        show Tri _ _ _ _
        refine Tri.condP (b := (!(decide (r34 < 0)))) rfl h (fun h => ?_) (fun h => ?_)
        ·refine Tri.reg ?_
         refine At.seg 3 [0, 2, 4, 14, 15] [5000] (s' := ⟨[(0, .c (oC 5000 6 l0)), (2, cD (dI p2)), (4, cD (.fn 24 [])), (14, cD (dI (IntKind.i64.wrap ((IntKind.i64.wrap (shrOp .u64 (IntKind.u64.wrap (IntKind.i64.wrap (a18.1 + a18.2))) 1)) + 1)))), (15, cD (dI a18.2))], [(5000, vL 6 encUpdate l0)]⟩) (c := True ∧ True ∧ True ∧ True) (by kernel_rfl) ⟨trivial, trivial, trivial, trivial⟩ ?_
         refine At.done rfl ?_
         cases h
         exact rfl
        ·refine Tri.reg ?_
         refine At.seg 2 [0, 2, 4, 14, 15] [5000] (s' := ⟨[(0, .c (oC 5000 6 l0)), (2, cD (dI p2)), (4, cD (.fn 24 [])), (14, cD (dI a18.1)), (15, cD (dI (IntKind.i64.wrap (shrOp .u64 (IntKind.u64.wrap (IntKind.i64.wrap (a18.1 + a18.2))) 1))))], [(5000, vL 6 encUpdate l0)]⟩) (c := True ∧ True ∧ True) (by kernel_rfl) ⟨trivial, trivial, trivial⟩ ?_
         refine At.done rfl ?_
         cases h
         exact rfl
       ·refine Tri.keep [0, 2, 4, 14, 15] [5000] (s' := ⟨[(0, .c (oC 5000 6 l0)), (2, cD (dI p2)), (4, cD (.fn 24 [])), (14, cD (dI a18.1)), (15, cD (dI a18.2))], [(5000, vL 6 encUpdate l0)]⟩) (by kernel_rfl) ?_
        refine Tri.exit ?_
        cases h
        exact ⟨rfl, rfl⟩
      ·intro a19 h
       show Tri _ _ _ _
       refine Tri.seqS ?_
       refine Tri.segC [0, 14, 17] [5000] (allT 2) (by kernel_rfl) (by kernel_rfl) (allT_ok 2) ?_
       refine Tri.keep [0, 14, 17] [5000] (s' := ⟨[(0, .c (oC 5000 6 l0)), (14, cD (dI a19.1)), (17, cD (dI p2))], [(5000, vL 6 encUpdate l0)]⟩) (by kernel_rfl) ?_
       refine Tri.loopK (fuel := fuel) (st0 := (p2, l0)) (fun (x : Empty) s => False) (fun (a20 : Int × (List Update)) => ⟨[(0, .c (oC 5000 6 a20.2)), (14, cD (dI a19.1)), (17, cD (dI a20.1))], [(5000, vL 6 encUpdate a20.2)]⟩) (fun (a20 : Int × (List Update)) => ⟨[(0, .c (oC 5000 6 a20.2)), (14, cD (dI a19.1)), (17, cD (dI a20.1))], [(5000, vL 6 encUpdate a20.2)]⟩) h ?_ ?_ ?_
       ·intro a20 c h
        show Tri _ _ ⟨[(0, .c (oC 5000 6 a20.2)), (14, cD (dI a19.1)), (17, cD (dI a20.1))], [(5000, vL 6 encUpdate a20.2)]⟩ _
        refine Tri.seqS ?_
        refine Tri.segL [0, 14, 17, 110] [5000] ⟨[(0, .c (oC 5000 6 a20.2)), (14, cD (dI a19.1)), (17, cD (dI a20.1)), (110, cD (.bool (decide (a19.1 < a20.1))))], [(5000, vL 6 encUpdate a20.2)]⟩ (allT 3) (by kernel_rfl) (allT_ok 3) ?_
        refine Tri.condP (b := (decide (a19.1 < a20.1))) rfl h (fun h => ?_) (fun h => ?_)
        ·refine Tri.skip ?_
         show Tri _ _ _ _
         refine Tri.seqS ?_
         refine Tri.blockB ?_
         obtain ⟨hc22, h⟩ := need_elim h
         obtain ⟨hc23, h⟩ := need_elim h
         obtain ⟨hc24, h⟩ := need_elim h
         obtain ⟨hc25, h⟩ := need_elim h
         obtain ⟨hc26, h⟩ := need_elim h
         obtain ⟨hc27, h⟩ := need_elim h
         obtain ⟨hc28, h⟩ := need_elim h
         obtain ⟨hc29, h⟩ := need_elim h
         refine Tri.afterA ⟨[(0, .c (oC 5000 6 a20.2)), (14, cD (dI a19.1)), (17, cD (dI a20.1))], [(5000, vL 6 encUpdate ((a20.2.set (0 + a20.1.toNat) (a20.2.getD (0 + (IntKind.i64.wrap (a20.1 - 1)).toNat) default)).set (0 + (IntKind.i64.wrap (a20.1 - 1)).toNat) (a20.2.getD (0 + a20.1.toNat) default)))]⟩ ?_ ?_
         ·refine Tri.drawnS (s' := ⟨[(0, .c (oC 5000 6 a20.2)), (14, cD (dI a19.1)), (17, cD (dI a20.1))], [(5000, vL 6 encUpdate ((a20.2.set (0 + a20.1.toNat) (a20.2.getD (0 + (IntKind.i64.wrap (a20.1 - 1)).toNat) default)).set (0 + (IntKind.i64.wrap (a20.1 - 1)).toNat) (a20.2.getD (0 + a20.1.toNat) default)))]⟩) (cs := True ∧ True ∧ True ∧ True ∧ True ∧ True ∧ True ∧ True ∧ ((0 : Int) ≤ (IntKind.i64.wrap (a20.1 - 1)) ∧ (IntKind.i64.wrap (a20.1 - 1)) < (a20.2.length : Int)) ∧ ((0 + (IntKind.i64.wrap (a20.1 - 1)).toNat) < a20.2.length) ∧ True ∧ True ∧ ((0 : Int) ≤ a20.1 ∧ a20.1 < (a20.2.length : Int)) ∧ ((0 + a20.1.toNat) < a20.2.length) ∧ ((0 : Int) ≤ a20.1 ∧ a20.1 < (a20.2.length : Int)) ∧ ((0 : Int) ≤ (IntKind.i64.wrap (a20.1 - 1)) ∧ (IntKind.i64.wrap (a20.1 - 1)) < (a20.2.length : Int)) ∧ True) [.a [0] [], .a [17] [], .a [0] [], .a [17] [], .a [116] [], .a [0] [], .a [17] [], .a [119] [], .a [118, 120] [5000], .a [121] [5000], .a [0] [], .a [17] [], .a [123, 124] [5000], .a [125] [5000], .a [113, 114] [5000], .m ⟨[(122, .agg (cUpdate (a20.2.getD (0 + (IntKind.i64.wrap (a20.1 - 1)).toNat) default))), (127, .c (.vptr 5000 6 (0 + a20.1.toNat) 0))], [(5000, vL 6 encUpdate a20.2)]⟩ ⟨[], [(5000, vL 6 encUpdate (a20.2.set (0 + a20.1.toNat) (a20.2.getD (0 + (IntKind.i64.wrap (a20.1 - 1)).toNat) default)))]⟩ [] [] [], .a [115, 117] [5000], .m ⟨[(126, .agg (cUpdate (a20.2.getD (0 + a20.1.toNat) default))), (128, .c (.vptr 5000 6 (0 + (IntKind.i64.wrap (a20.1 - 1)).toNat) 0))], [(5000, vL 6 encUpdate (a20.2.set (0 + a20.1.toNat) (a20.2.getD (0 + (IntKind.i64.wrap (a20.1 - 1)).toNat) default)))]⟩ ⟨[], [(5000, vL 6 encUpdate ((a20.2.set (0 + a20.1.toNat) (a20.2.getD (0 + (IntKind.i64.wrap (a20.1 - 1)).toNat) default)).set (0 + (IntKind.i64.wrap (a20.1 - 1)).toNat) (a20.2.getD (0 + a20.1.toNat) default)))]⟩ [] [] []] [[], [], [], [], [3], [], [], [6], [5, 6, 7], [5, 6, 7, 8], [], [], [10, 11], [10, 11, 12], [0, 1, 5, 6, 7, 8, 9, 10, 11, 12, 13], [0, 1, 5, 6, 7, 8, 9, 10, 11, 12, 13, 14], [0, 1, 2, 3, 4, 5, 6, 7, 8, 9, 10, 11, 12, 13, 14, 15], [0, 1, 2, 3, 4, 5, 6, 7, 8, 9, 10, 11, 12, 13, 14, 15, 16]] [0, 14, 17] [5000] (by kernel_rfl) (by kernel_rfl) (by kernel_rfl) (by kernel_rfl) (by kernel_rfl) ⟨trivial, trivial, trivial, trivial, trivial, trivial, trivial, trivial, hc22, hc23, trivial, trivial, hc24, hc25, hc26, hc28, trivial⟩ (.a (.a (.a (.a (.a (.a (.a (.a (.a (.a (.a (.a (.a (.a (.a (.m ?_ (.a (.m ?_ .z)))))))))))))))))) (by kernel_rfl) ?_
          · exact DOk.one fun r hr => One.storeT (xs := [.d (lD 3 encValue ((a20.2.getD (0 + (IntKind.i64.wrap (a20.1 - 1)).toNat) default).key)), .d (lD 3 encValue ((a20.2.getD (0 + (IntKind.i64.wrap (a20.1 - 1)).toNat) default).row)), .d (dU ((a20.2.getD (0 + (IntKind.i64.wrap (a20.1 - 1)).toNat) default).time.epoch)), .d (dU ((a20.2.getD (0 + (IntKind.i64.wrap (a20.1 - 1)).toNat) default).time.loop.1)), .d (dU ((a20.2.getD (0 + (IntKind.i64.wrap (a20.1 - 1)).toNat) default).time.loop.2)), .d (dI ((a20.2.getD (0 + (IntKind.i64.wrap (a20.1 - 1)).toNat) default).diff))]) (ds := [lD 3 encValue ((a20.2.getD (0 + (IntKind.i64.wrap (a20.1 - 1)).toNat) default).key), lD 3 encValue ((a20.2.getD (0 + (IntKind.i64.wrap (a20.1 - 1)).toNat) default).row), dU ((a20.2.getD (0 + (IntKind.i64.wrap (a20.1 - 1)).toNat) default).time.epoch), dU ((a20.2.getD (0 + (IntKind.i64.wrap (a20.1 - 1)).toNat) default).time.loop.1), dU ((a20.2.getD (0 + (IntKind.i64.wrap (a20.1 - 1)).toNat) default).time.loop.2), dI ((a20.2.getD (0 + (IntKind.i64.wrap (a20.1 - 1)).toNat) default).diff)]) (encUpdate) a20.2 (a20.2.getD (0 + (IntKind.i64.wrap (a20.1 - 1)).toNat) default) rfl (by kernel_rfl) rfl rfl rfl hc27 rfl rfl (.refl _) rfl rfl rfl rfl
          · exact DOk.one fun r hr => One.storeT (xs := [.d (lD 3 encValue ((a20.2.getD (0 + a20.1.toNat) default).key)), .d (lD 3 encValue ((a20.2.getD (0 + a20.1.toNat) default).row)), .d (dU ((a20.2.getD (0 + a20.1.toNat) default).time.epoch)), .d (dU ((a20.2.getD (0 + a20.1.toNat) default).time.loop.1)), .d (dU ((a20.2.getD (0 + a20.1.toNat) default).time.loop.2)), .d (dI ((a20.2.getD (0 + a20.1.toNat) default).diff))]) (ds := [lD 3 encValue ((a20.2.getD (0 + a20.1.toNat) default).key), lD 3 encValue ((a20.2.getD (0 + a20.1.toNat) default).row), dU ((a20.2.getD (0 + a20.1.toNat) default).time.epoch), dU ((a20.2.getD (0 + a20.1.toNat) default).time.loop.1), dU ((a20.2.getD (0 + a20.1.toNat) default).time.loop.2), dI ((a20.2.getD (0 + a20.1.toNat) default).diff)]) (encUpdate) (a20.2.set (0 + a20.1.toNat) (a20.2.getD (0 + (IntKind.i64.wrap (a20.1 - 1)).toNat) default)) (a20.2.getD (0 + a20.1.toNat) default) rfl (by kernel_rfl) rfl rfl rfl hc29 rfl rfl (.refl _) rfl rfl rfl rfl
          exact ⟨rfl, rfl⟩
         ·refine At.eqS (s' := ⟨[(0, .c (oC 5000 6 ((a20.2.set (0 + a20.1.toNat) (a20.2.getD (0 + (IntKind.i64.wrap (a20.1 - 1)).toNat) default)).set (0 + (IntKind.i64.wrap (a20.1 - 1)).toNat) (a20.2.getD (0 + a20.1.toNat) default)))), (14, cD (dI a19.1)), (17, cD (dI a20.1))], [(5000, vL 6 encUpdate ((a20.2.set (0 + a20.1.toNat) (a20.2.getD (0 + (IntKind.i64.wrap (a20.1 - 1)).toNat) default)).set (0 + (IntKind.i64.wrap (a20.1 - 1)).toNat) (a20.2.getD (0 + a20.1.toNat) default)))]⟩) (by simp only [oC, vL, List.length_set]) ?_
          refine At.done rfl ?_
          show Tri _ _ _ _
          refine Tri.reg ?_
          refine At.seg 3 [0, 14, 17] [5000] (s' := ⟨[(0, .c (oC 5000 6 ((a20.2.set (0 + a20.1.toNat) (a20.2.getD (0 + (IntKind.i64.wrap (a20.1 - 1)).toNat) default)).set (0 + (IntKind.i64.wrap (a20.1 - 1)).toNat) (a20.2.getD (0 + a20.1.toNat) default)))), (14, cD (dI a19.1)), (17, cD (dI (IntKind.i64.wrap (a20.1 - 1))))], [(5000, vL 6 encUpdate ((a20.2.set (0 + a20.1.toNat) (a20.2.getD (0 + (IntKind.i64.wrap (a20.1 - 1)).toNat) default)).set (0 + (IntKind.i64.wrap (a20.1 - 1)).toNat) (a20.2.getD (0 + a20.1.toNat) default)))]⟩) (c := True ∧ True ∧ True ∧ True) (by kernel_rfl) ⟨trivial, trivial, trivial, trivial⟩ ?_
          refine At.done rfl ?_
          cases h
          exact rfl
        ·refine Tri.keep [0, 14, 17] [5000] (s' := ⟨[(0, .c (oC 5000 6 a20.2)), (14, cD (dI a19.1)), (17, cD (dI a20.1))], [(5000, vL 6 encUpdate a20.2)]⟩) (by kernel_rfl) ?_
         refine Tri.exit ?_
         cases h
         exact ⟨rfl, rfl⟩
       ·intro a21 h
        show Tri _ _ _ _
        refine Tri.keep [] [5000] (s' := ⟨[], [(5000, vL 6 encUpdate a21.2)]⟩) (by kernel_rfl) ?_
        refine Tri.ret ?_
        cases h
        refine ⟨_, _, rfl, trivial, rfl, rfl, ?_⟩
        exact SubS.out ⟨⟨rfl, rfl⟩, trivial⟩
       · exact fun x => x.elim
      · exact fun x => x.elim
     ·refine Tri.skip ?_
      show Tri _ _ _ _
      refine Tri.segC [0, 1, 2, 3, 4, 18] [5000] (True ∧ True ∧ True ∧ True ∧ ((0 : Int) ≤ 1) ∧ True ∧ True ∧ True) (by kernel_rfl) (by kernel_rfl) ⟨trivial, trivial, trivial, trivial, (by decide : (0 : Int) ≤ 1), trivial, trivial, trivial⟩ ?_
      refine Tri.segC [0, 1, 2, 3, 4, 18, 19] [5000] (allT 4) (by kernel_rfl) (by kernel_rfl) (allT_ok 4) ?_
      refine Tri.segL [0, 1, 2, 3, 4, 18, 19] [5000] ⟨[(0, .c (oC 5000 6 l0)), (1, cD (dI p1)), (2, cD (dI p2)), (3, cD (dI p3)), (4, cD (.fn 24 [])), (18, cD (dI (IntKind.i64.wrap (shrOp .u64 (IntKind.u64.wrap (IntKind.i64.wrap (p1 + p3))) 1)))), (19, cD (dI (IntKind.i64.wrap ((IntKind.i64.wrap (shrOp .u64 (IntKind.u64.wrap (IntKind.i64.wrap (p1 + p3))) 1)) + p2))))], [(5000, vL 6 encUpdate l0)]⟩ (allT 2) (by kernel_rfl) (allT_ok 2) ?_
      refine Tri.seqJ (fun (a35 : Int × Int × Int × Int) => ⟨[(0, .c (oC 5000 6 l0)), (1, cD (dI p1)), (2, cD (dI p2)), (3, cD (dI p3)), (4, cD (.fn 24 [])), (18, cD (dI a35.1)), (19, cD (dI a35.2.1)), (20, cD (dI a35.2.2.1)), (21, cD (dI a35.2.2.2))], [(5000, vL 6 encUpdate l0)]⟩) h (fun a35 h => ?_) (fun j36 h => ?_)
      ·show Tri _ _ ⟨[(0, .c (oC 5000 6 l0)), (1, cD (dI p1)), (2, cD (dI p2)), (3, cD (dI p3)), (4, cD (.fn 24 [])), (18, cD (dI a35.1)), (19, cD (dI a35.2.1)), (20, cD (dI a35.2.2.1)), (21, cD (dI a35.2.2.2))], [(5000, vL 6 encUpdate l0)]⟩ _
       refine Tri.segC [0, 1, 2, 3, 4, 18, 19, 20, 21, 22] [5000] (allT 3) (by kernel_rfl) (by kernel_rfl) (allT_ok 3) ?_
       refine Tri.seqS ?_
       refine Tri.keep [0, 1, 2, 3, 4, 18, 19, 20, 21, 22] [5000] (s' := ⟨[(0, .c (oC 5000 6 l0)), (1, cD (dI p1)), (2, cD (dI p2)), (3, cD (dI p3)), (4, cD (.fn 24 [])), (18, cD (dI a35.1)), (19, cD (dI a35.2.1)), (20, cD (dI a35.2.2.1)), (21, cD (dI a35.2.2.2)), (22, cD (dI (IntKind.i64.wrap (a35.2.1 - 1))))], [(5000, vL 6 encUpdate l0)]⟩) (by kernel_rfl) ?_
       refine Tri.loopK (fuel := fuel) (st0 := (a35.2.2.1, a35.2.2.2)) (fun (x : Empty) s => False) (fun (a37 : Int × Int) => ⟨[(0, .c (oC 5000 6 l0)), (1, cD (dI p1)), (2, cD (dI p2)), (3, cD (dI p3)), (4, cD (.fn 24 [])), (18, cD (dI a35.1)), (19, cD (dI a35.2.1)), (20, cD (dI a37.1)), (21, cD (dI a37.2)), (22, cD (dI (IntKind.i64.wrap (a35.2.1 - 1))))], [(5000, vL 6 encUpdate l0)]⟩) (fun (a37 : Int × Int) => ⟨[(0, .c (oC 5000 6 l0)), (1, cD (dI p1)), (2, cD (dI p2)), (3, cD (dI p3)), (4, cD (.fn 24 [])), (18, cD (dI a35.1)), (19, cD (dI a35.2.1)), (20, cD (dI a37.1)), (21, cD (dI a37.2)), (22, cD (dI (IntKind.i64.wrap (a35.2.1 - 1))))], [(5000, vL 6 encUpdate l0)]⟩) h ?_ ?_ ?_
       ·intro a37 c h
        show Tri _ _ ⟨[(0, .c (oC 5000 6 l0)), (1, cD (dI p1)), (2, cD (dI p2)), (3, cD (dI p3)), (4, cD (.fn 24 [])), (18, cD (dI a35.1)), (19, cD (dI a35.2.1)), (20, cD (dI a37.1)), (21, cD (dI a37.2)), (22, cD (dI (IntKind.i64.wrap (a35.2.1 - 1))))], [(5000, vL 6 encUpdate l0)]⟩ _
        refine Tri.seqS ?_
        refine Tri.segL [0, 1, 2, 3, 4, 18, 19, 20, 21, 22, 151] [5000] ⟨[(0, .c (oC 5000 6 l0)), (1, cD (dI p1)), (2, cD (dI p2)), (3, cD (dI p3)), (4, cD (.fn 24 [])), (18, cD (dI a35.1)), (19, cD (dI a35.2.1)), (20, cD (dI a37.1)), (21, cD (dI a37.2)), (22, cD (dI (IntKind.i64.wrap (a35.2.1 - 1)))), (151, cD (.bool (decide (a37.1 < a37.2))))], [(5000, vL 6 encUpdate l0)]⟩ (allT 3) (by kernel_rfl) (allT_ok 3) ?_
        refine Tri.condP (b := (decide (a37.1 < a37.2))) rfl h (fun h => ?_) (fun h => ?_)
        ·refine Tri.skip ?_
         show Tri _ _ _ _
         refine Tri.blockB ?_
         refine Tri.segL [0, 1, 2, 3, 4, 18, 19, 20, 21, 22, 23] [5000] ⟨[(0, .c (oC 5000 6 l0)), (1, cD (dI p1)), (2, cD (dI p2)), (3, cD (dI p3)), (4, cD (.fn 24 [])), (18, cD (dI a35.1)), (19, cD (dI a35.2.1)), (20, cD (dI a37.1)), (21, cD (dI a37.2)), (22, cD (dI (IntKind.i64.wrap (a35.2.1 - 1)))), (23, cD (dI (IntKind.i64.wrap (shrOp .u64 (IntKind.u64.wrap (IntKind.i64.wrap (a37.1 + a37.2))) 1))))], [(5000, vL 6 encUpdate l0)]⟩ (True ∧ True ∧ True ∧ True ∧ ((0 : Int) ≤ 1) ∧ True ∧ True ∧ True) (by kernel_rfl) ⟨trivial, trivial, trivial, trivial, (by decide : (0 : Int) ≤ 1), trivial, trivial, trivial⟩ ?_
         refine Tri.seqS ?_
         obtain ⟨hc54, h⟩ := need_elim h
         obtain ⟨hc55, h⟩ := need_elim h
         obtain ⟨hc56, h⟩ := need_elim h
         obtain ⟨hc57, h⟩ := need_elim h
         obtain ⟨r58, hr58, h⟩ := bind_elim h
         refine Tri.drawnS (s' := ⟨[(0, .c (oC 5000 6 l0)), (1, cD (dI p1)), (2, cD (dI p2)), (3, cD (dI p3)), (4, cD (.fn 24 [])), (18, cD (dI a35.1)), (19, cD (dI a35.2.1)), (20, cD (dI a37.1)), (21, cD (dI a37.2)), (22, cD (dI (IntKind.i64.wrap (a35.2.1 - 1)))), (23, cD (dI (IntKind.i64.wrap (shrOp .u64 (IntKind.u64.wrap (IntKind.i64.wrap (a37.1 + a37.2))) 1)))), (171, cD (.bool (!(decide (r58 < 0)))))], [(5000, vL 6 encUpdate l0)]⟩) (cs := True ∧ True ∧ True ∧ True ∧ True ∧ ((0 : Int) ≤ (IntKind.i64.wrap ((IntKind.i64.wrap (a35.2.1 - 1)) - (IntKind.i64.wrap (shrOp .u64 (IntKind.u64.wrap (IntKind.i64.wrap (a37.1 + a37.2))) 1)))) ∧ (IntKind.i64.wrap ((IntKind.i64.wrap (a35.2.1 - 1)) - (IntKind.i64.wrap (shrOp .u64 (IntKind.u64.wrap (IntKind.i64.wrap (a37.1 + a37.2))) 1)))) < (l0.length : Int)) ∧ ((0 + (IntKind.i64.wrap ((IntKind.i64.wrap (a35.2.1 - 1)) - (IntKind.i64.wrap (shrOp .u64 (IntKind.u64.wrap (IntKind.i64.wrap (a37.1 + a37.2))) 1)))).toNat) < l0.length) ∧ True ∧ True ∧ ((0 : Int) ≤ (IntKind.i64.wrap (shrOp .u64 (IntKind.u64.wrap (IntKind.i64.wrap (a37.1 + a37.2))) 1)) ∧ (IntKind.i64.wrap (shrOp .u64 (IntKind.u64.wrap (IntKind.i64.wrap (a37.1 + a37.2))) 1)) < (l0.length : Int)) ∧ ((0 + (IntKind.i64.wrap (shrOp .u64 (IntKind.u64.wrap (IntKind.i64.wrap (a37.1 + a37.2))) 1)).toNat) < l0.length) ∧ True ∧ True ∧ True) [.a [4] [], .a [0] [], .a [22] [], .a [23] [], .a [160, 161] [], .a [159, 162] [5000], .a [163] [5000], .a [0] [], .a [23] [], .a [165, 166] [5000], .a [167] [5000], .m ⟨[(158, cD (.fn 24 [])), (164, .agg (cUpdate (l0.getD (0 + (IntKind.i64.wrap ((IntKind.i64.wrap (a35.2.1 - 1)) - (IntKind.i64.wrap (shrOp .u64 (IntKind.u64.wrap (IntKind.i64.wrap (a37.1 + a37.2))) 1)))).toNat) default))), (168, .agg (cUpdate (l0.getD (0 + (IntKind.i64.wrap (shrOp .u64 (IntKind.u64.wrap (IntKind.i64.wrap (a37.1 + a37.2))) 1)).toNat) default)))], []⟩ ⟨[(169, cD (dI r58))], []⟩ [] [] [], .a [169] [], .a [170] []] [[], [], [], [], [2, 3], [1, 2, 3, 4], [1, 2, 3, 4, 5], [], [], [7, 8], [7, 8, 9], [0, 1, 2, 3, 4, 5, 6, 7, 8, 9, 10], [0, 1, 2, 3, 4, 5, 6, 7, 8, 9, 10, 11], [0, 1, 2, 3, 4, 5, 6, 7, 8, 9, 10, 11, 12]] [0, 1, 2, 3, 4, 18, 19, 20, 21, 22, 23, 171] [5000] (by kernel_rfl) (by kernel_rfl) (by kernel_rfl) (by kernel_rfl) (by kernel_rfl) ⟨trivial, trivial, trivial, trivial, trivial, hc54, hc55, trivial, trivial, hc56, hc57, trivial, trivial, trivial⟩ (.a (.a (.a (.a (.a (.a (.a (.a (.a (.a (.a (.m ?_ (.a (.a .z)))))))))))))) (by kernel_rfl) ?_
         · exact DOk.callA (caps := []) (xs := [.agg (cUpdate (l0.getD (0 + (IntKind.i64.wrap ((IntKind.i64.wrap (a35.2.1 - 1)) - (IntKind.i64.wrap (shrOp .u64 (IntKind.u64.wrap (IntKind.i64.wrap (a37.1 + a37.2))) 1)))).toNat) default)), .agg (cUpdate (l0.getD (0 + (IntKind.i64.wrap (shrOp .u64 (IntKind.u64.wrap (IntKind.i64.wrap (a37.1 + a37.2))) 1)).toNat) default))]) (diff_Compare_ok hr58) rfl (fun r => by kernel_rfl) rfl (fun r => by kernel_rfl) (fun r => by kernel_rfl) (fun r => (.cons (.refl _) (.cons (.refl _) .nil))) rfl rfl (fun r => rfl)
         show Tri _ _ _ _
         refine Tri.condP (b := (!(decide (r58 < 0)))) rfl h (fun h => ?_) (fun h => ?_)
         ·refine Tri.reg ?_
          refine At.seg 3 [0, 1, 2, 3, 4, 18, 19, 20, 21, 22] [5000] (s' := ⟨[(0, .c (oC 5000 6 l0)), (1, cD (dI p1)), (2, cD (dI p2)), (3, cD (dI p3)), (4, cD (.fn 24 [])), (18, cD (dI a35.1)), (19, cD (dI a35.2.1)), (20, cD (dI (IntKind.i64.wrap ((IntKind.i64.wrap (shrOp .u64 (IntKind.u64.wrap (IntKind.i64.wrap (a37.1 + a37.2))) 1)) + 1)))), (21, cD (dI a37.2)), (22, cD (dI (IntKind.i64.wrap (a35.2.1 - 1))))], [(5000, vL 6 encUpdate l0)]⟩) (c := True ∧ True ∧ True ∧ True) (by kernel_rfl) ⟨trivial, trivial, trivial, trivial⟩ ?_
          refine At.done rfl ?_
          cases h
          exact rfl
         ·refine Tri.reg ?_
          refine At.seg 2 [0, 1, 2, 3, 4, 18, 19, 20, 21, 22] [5000] (s' := ⟨[(0, .c (oC 5000 6 l0)), (1, cD (dI p1)), (2, cD (dI p2)), (3, cD (dI p3)), (4, cD (.fn 24 [])), (18, cD (dI a35.1)), (19, cD (dI a35.2.1)), (20, cD (dI a37.1)), (21, cD (dI (IntKind.i64.wrap (shrOp .u64 (IntKind.u64.wrap (IntKind.i64.wrap (a37.1 + a37.2))) 1)))), (22, cD (dI (IntKind.i64.wrap (a35.2.1 - 1))))], [(5000, vL 6 encUpdate l0)]⟩) (c := True ∧ True ∧ True) (by kernel_rfl) ⟨trivial, trivial, trivial⟩ ?_
          refine At.done rfl ?_
          cases h
          exact rfl
        ·refine Tri.keep [0, 1, 2, 3, 4, 18, 19, 20, 21, 22] [5000] (s' := ⟨[(0, .c (oC 5000 6 l0)), (1, cD (dI p1)), (2, cD (dI p2)), (3, cD (dI p3)), (4, cD (.fn 24 [])), (18, cD (dI a35.1)), (19, cD (dI a35.2.1)), (20, cD (dI a37.1)), (21, cD (dI a37.2)), (22, cD (dI (IntKind.i64.wrap (a35.2.1 - 1))))], [(5000, vL 6 encUpdate l0)]⟩) (by kernel_rfl) ?_
         refine Tri.exit ?_
         cases h
         exact ⟨rfl, rfl⟩
       ·intro a38 h
        show Tri _ _ _ _
        refine Tri.segL [0, 1, 2, 3, 4, 18, 20, 24] [5000] ⟨[(0, .c (oC 5000 6 l0)), (1, cD (dI p1)), (2, cD (dI p2)), (3, cD (dI p3)), (4, cD (.fn 24 [])), (18, cD (dI a35.1)), (20, cD (dI a38.1)), (24, cD (dI (IntKind.i64.wrap (a35.2.1 - a38.1))))], [(5000, vL 6 encUpdate l0)]⟩ (allT 4) (by kernel_rfl) (allT_ok 4) ?_
        refine Tri.seqJ (fun (a39 : Int × (List Update)) => ⟨[(0, .c (oC 5000 6 a39.2)), (1, cD (dI p1)), (3, cD (dI p3)), (4, cD (.fn 24 [])), (18, cD (dI a35.1)), (20, cD (dI a38.1)), (24, cD (dI a39.1))], [(5000, vL 6 encUpdate a39.2)]⟩) h (fun a39 h => ?_) (fun j40 h => ?_)
        ·show Tri _ _ ⟨[(0, .c (oC 5000 6 a39.2)), (1, cD (dI p1)), (3, cD (dI p3)), (4, cD (.fn 24 [])), (18, cD (dI a35.1)), (20, cD (dI a38.1)), (24, cD (dI a39.1))], [(5000, vL 6 encUpdate a39.2)]⟩ _
         refine Tri.seqJ (fun (a41 : List Update) => ⟨[(0, .c (oC 5000 6 a41)), (3, cD (dI p3)), (4, cD (.fn 24 [])), (18, cD (dI a35.1)), (24, cD (dI a39.1))], [(5000, vL 6 encUpdate a41)]⟩) h (fun a41 h => ?_) (fun j42 h => ?_)
         ·show Tri _ _ ⟨[(0, .c (oC 5000 6 a41)), (3, cD (dI p3)), (4, cD (.fn 24 [])), (18, cD (dI a35.1)), (24, cD (dI a39.1))], [(5000, vL 6 encUpdate a41)]⟩ _
          refine Tri.seqJ (fun (a43 : Bool) => ⟨[(0, .c (oC 5000 6 a41)), (3, cD (dI p3)), (4, cD (.fn 24 [])), (18, cD (dI a35.1)), (24, cD (dI a39.1)), (213, cD (.bool a43))], [(5000, vL 6 encUpdate a41)]⟩) h (fun a43 h => ?_) (fun j44 h => ?_)
          ·show Tri _ _ ⟨[(0, .c (oC 5000 6 a41)), (3, cD (dI p3)), (4, cD (.fn 24 [])), (18, cD (dI a35.1)), (24, cD (dI a39.1)), (213, cD (.bool a43))], [(5000, vL 6 encUpdate a41)]⟩ _
           refine Tri.condP (b := a43) rfl h (fun h => ?_) (fun h => ?_)
           ·refine Tri.reg ?_
            refine At.seg 5 [214, 215, 216, 217, 218] [5000] (s' := ⟨[(214, .c (oC 5000 6 a41)), (215, cD (dI a35.1)), (216, cD (dI a39.1)), (217, cD (dI p3)), (218, cD (.fn 24 []))], [(5000, vL 6 encUpdate a41)]⟩) (c := True ∧ True ∧ True ∧ True ∧ True ∧ True) (by kernel_rfl) ⟨trivial, trivial, trivial, trivial, trivial, trivial⟩ ?_
            obtain ⟨r45, hr45, h⟩ := bind_elim h
            refine At.callL (nf := 0) (caps := []) (xs := [.c (oC 5000 6 a41), cD (dI a35.1), cD (dI a39.1), cD (dI p3), cD (.fn 24 [])]) [(5000, 5000)] [] [] (s0 := ⟨[], []⟩) (ih hr45) rfl rfl (by kernel_rfl) rfl (by kernel_rfl) (by kernel_rfl) (.ren rfl rfl (.flat (.refl _) rfl rfl (.flat (.refl _) rfl rfl (.flat (.refl _) rfl rfl (.flat (.refl _) rfl rfl .nil))))) ⟨⟨by kernel_rfl, by kernel_rfl⟩, trivial⟩ (by kernel_rfl) (by kernel_rfl) (by kernel_rfl) (by kernel_rfl) (by kernel_rfl) (by kernel_rfl) (by kernel_rfl) (by kernel_rfl) (by kernel_rfl) ⟨[(219, .tup [])], [(5000, vL 6 encUpdate r45)]⟩ (by kernel_rfl) ?_
            refine At.keep [] [5000] (s' := ⟨[], [(5000, vL 6 encUpdate r45)]⟩) (by kernel_rfl) ?_
            refine At.done rfl ?_
            cases h
            refine ⟨_, _, rfl, trivial, rfl, rfl, ?_⟩
            exact SubS.out ⟨⟨rfl, rfl⟩, trivial⟩
           ·refine Tri.keep [] [5000] (s' := ⟨[], [(5000, vL 6 encUpdate a41)]⟩) (by kernel_rfl) ?_
            refine Tri.skip ?_
            cases h
            refine ⟨_, _, rfl, trivial, rfl, rfl, ?_⟩
            exact SubS.out ⟨⟨rfl, rfl⟩, trivial⟩
          ·refine Tri.reg ?_
           refine At.seg 4 [0, 3, 4, 18, 24, 209] [5000] (s' := ⟨[(0, .c (oC 5000 6 a41)), (3, cD (dI p3)), (4, cD (.fn 24 [])), (18, cD (dI a35.1)), (24, cD (dI a39.1)), (209, cD (.bool (decide (a35.1 < a39.1))))], [(5000, vL 6 encUpdate a41)]⟩) (c := True ∧ True ∧ True ∧ True ∧ True) (by kernel_rfl) ⟨trivial, trivial, trivial, trivial, trivial⟩ ?_
           refine At.case (fun b => ⟨[(0, .c (oC 5000 6 a41)), (3, cD (dI p3)), (4, cD (.fn 24 [])), (18, cD (dI a35.1)), (24, cD (dI a39.1)), (209, cD (.bool b))], [(5000, vL 6 encUpdate a41)]⟩) (b := (decide (a35.1 < a39.1))) h (fun h => ?_) (fun h => ?_)
           ·refine At.seg 4 [0, 3, 4, 18, 24, 213] [5000] (s' := ⟨[(0, .c (oC 5000 6 a41)), (3, cD (dI p3)), (4, cD (.fn 24 [])), (18, cD (dI a35.1)), (24, cD (dI a39.1)), (213, cD (.bool (decide (a39.1 < p3))))], [(5000, vL 6 encUpdate a41)]⟩) (c := True ∧ True ∧ True ∧ True ∧ True) (by kernel_rfl) ⟨trivial, trivial, trivial, trivial, trivial⟩ ?_
            refine At.done rfl ?_
            exact ⟨_, h, rfl⟩
           ·refine At.seg 4 [0, 3, 4, 18, 24, 213] [5000] (s' := ⟨[(0, .c (oC 5000 6 a41)), (3, cD (dI p3)), (4, cD (.fn 24 [])), (18, cD (dI a35.1)), (24, cD (dI a39.1)), (213, cD (.bool false))], [(5000, vL 6 encUpdate a41)]⟩) (c := True ∧ True) (by kernel_rfl) ⟨trivial, trivial⟩ ?_
            refine At.done rfl ?_
            exact ⟨_, h, rfl⟩
         ·refine Tri.seqJ (fun (a46 : Bool) => ⟨[(0, .c (oC 5000 6 a39.2)), (1, cD (dI p1)), (3, cD (dI p3)), (4, cD (.fn 24 [])), (18, cD (dI a35.1)), (20, cD (dI a38.1)), (24, cD (dI a39.1)), (199, cD (.bool a46))], [(5000, vL 6 encUpdate a39.2)]⟩) h (fun a46 h => ?_) (fun j47 h => ?_)
          ·show Tri _ _ ⟨[(0, .c (oC 5000 6 a39.2)), (1, cD (dI p1)), (3, cD (dI p3)), (4, cD (.fn 24 [])), (18, cD (dI a35.1)), (20, cD (dI a38.1)), (24, cD (dI a39.1)), (199, cD (.bool a46))], [(5000, vL 6 encUpdate a39.2)]⟩ _
           refine Tri.condP (b := a46) rfl h (fun h => ?_) (fun h => ?_)
           ·refine Tri.reg ?_
            refine At.seg 5 [0, 3, 4, 18, 24, 200, 201, 202, 203, 204] [5000] (s' := ⟨[(0, .c (oC 5000 6 a39.2)), (3, cD (dI p3)), (4, cD (.fn 24 [])), (18, cD (dI a35.1)), (24, cD (dI a39.1)), (200, .c (oC 5000 6 a39.2)), (201, cD (dI p1)), (202, cD (dI a38.1)), (203, cD (dI a35.1)), (204, cD (.fn 24 []))], [(5000, vL 6 encUpdate a39.2)]⟩) (c := True ∧ True ∧ True ∧ True ∧ True ∧ True) (by kernel_rfl) ⟨trivial, trivial, trivial, trivial, trivial, trivial⟩ ?_
            obtain ⟨r48, hr48, h⟩ := bind_elim h
            refine At.callL (nf := 0) (caps := []) (xs := [.c (oC 5000 6 a39.2), cD (dI p1), cD (dI a38.1), cD (dI a35.1), cD (.fn 24 [])]) [(5000, 5000)] [0, 3, 4, 18, 24] [] (s0 := ⟨[(0, .c (oC 5000 6 a39.2)), (3, cD (dI p3)), (4, cD (.fn 24 [])), (18, cD (dI a35.1)), (24, cD (dI a39.1))], []⟩) (ih hr48) rfl rfl (by kernel_rfl) rfl (by kernel_rfl) (by kernel_rfl) (.ren rfl rfl (.flat (.refl _) rfl rfl (.flat (.refl _) rfl rfl (.flat (.refl _) rfl rfl (.flat (.refl _) rfl rfl .nil))))) ⟨⟨by kernel_rfl, by kernel_rfl⟩, trivial⟩ (by kernel_rfl) (by kernel_rfl) (by kernel_rfl) (by kernel_rfl) (by kernel_rfl) (by kernel_rfl) (by kernel_rfl) (by kernel_rfl) (by kernel_rfl) ⟨[(205, .tup []), (0, .c (oC 5000 6 a39.2)), (3, cD (dI p3)), (4, cD (.fn 24 [])), (18, cD (dI a35.1)), (24, cD (dI a39.1))], [(5000, vL 6 encUpdate r48)]⟩ (by kernel_rfl) ?_
            obtain ⟨hc49, h⟩ := need_elim h
            refine At.eqS ⟨[(205, .tup []), (0, .c (oC 5000 6 r48)), (3, cD (dI p3)), (4, cD (.fn 24 [])), (18, cD (dI a35.1)), (24, cD (dI a39.1))], [(5000, vL 6 encUpdate r48)]⟩ (by simp only [oC, vL, hc49]) ?_
            refine At.keep [0, 3, 4, 18, 24] [5000] (s' := ⟨[(0, .c (oC 5000 6 r48)), (3, cD (dI p3)), (4, cD (.fn 24 [])), (18, cD (dI a35.1)), (24, cD (dI a39.1))], [(5000, vL 6 encUpdate r48)]⟩) (by kernel_rfl) ?_
            refine At.done rfl ?_
            exact ⟨_, h, rfl⟩
           ·refine Tri.keep [0, 3, 4, 18, 24] [5000] (s' := ⟨[(0, .c (oC 5000 6 a39.2)), (3, cD (dI p3)), (4, cD (.fn 24 [])), (18, cD (dI a35.1)), (24, cD (dI a39.1))], [(5000, vL 6 encUpdate a39.2)]⟩) (by kernel_rfl) ?_
            refine Tri.skip ?_
            exact ⟨_, h, rfl⟩
          ·refine Tri.reg ?_
           refine At.seg 4 [0, 1, 3, 4, 18, 20, 24, 195] [5000] (s' := ⟨[(0, .c (oC 5000 6 a39.2)), (1, cD (dI p1)), (3, cD (dI p3)), (4, cD (.fn 24 [])), (18, cD (dI a35.1)), (20, cD (dI a38.1)), (24, cD (dI a39.1)), (195, cD (.bool (decide (p1 < a38.1))))], [(5000, vL 6 encUpdate a39.2)]⟩) (c := True ∧ True ∧ True ∧ True ∧ True) (by kernel_rfl) ⟨trivial, trivial, trivial, trivial, trivial⟩ ?_
           refine At.case (fun b => ⟨[(0, .c (oC 5000 6 a39.2)), (1, cD (dI p1)), (3, cD (dI p3)), (4, cD (.fn 24 [])), (18, cD (dI a35.1)), (20, cD (dI a38.1)), (24, cD (dI a39.1)), (195, cD (.bool b))], [(5000, vL 6 encUpdate a39.2)]⟩) (b := (decide (p1 < a38.1))) h (fun h => ?_) (fun h => ?_)
           ·refine At.seg 4 [0, 1, 3, 4, 18, 20, 24, 199] [5000] (s' := ⟨[(0, .c (oC 5000 6 a39.2)), (1, cD (dI p1)), (3, cD (dI p3)), (4, cD (.fn 24 [])), (18, cD (dI a35.1)), (20, cD (dI a38.1)), (24, cD (dI a39.1)), (199, cD (.bool (decide (a38.1 < a35.1))))], [(5000, vL 6 encUpdate a39.2)]⟩) (c := True ∧ True ∧ True ∧ True ∧ True) (by kernel_rfl) ⟨trivial, trivial, trivial, trivial, trivial⟩ ?_
            refine At.done rfl ?_
            exact ⟨_, h, rfl⟩
           ·refine At.seg 4 [0, 1, 3, 4, 18, 20, 24, 199] [5000] (s' := ⟨[(0, .c (oC 5000 6 a39.2)), (1, cD (dI p1)), (3, cD (dI p3)), (4, cD (.fn 24 [])), (18, cD (dI a35.1)), (20, cD (dI a38.1)), (24, cD (dI a39.1)), (199, cD (.bool false))], [(5000, vL 6 encUpdate a39.2)]⟩) (c := True ∧ True) (by kernel_rfl) ⟨trivial, trivial⟩ ?_
            refine At.done rfl ?_
            exact ⟨_, h, rfl⟩
        ·refine Tri.seqJ (fun (a50 : Int × Bool) => ⟨[(0, .c (oC 5000 6 l0)), (1, cD (dI p1)), (2, cD (dI p2)), (3, cD (dI p3)), (4, cD (.fn 24 [])), (18, cD (dI a35.1)), (20, cD (dI a38.1)), (24, cD (dI a50.1)), (185, cD (.bool a50.2))], [(5000, vL 6 encUpdate l0)]⟩) h (fun a50 h => ?_) (fun j51 h => ?_)
         ·show Tri _ _ ⟨[(0, .c (oC 5000 6 l0)), (1, cD (dI p1)), (2, cD (dI p2)), (3, cD (dI p3)), (4, cD (.fn 24 [])), (18, cD (dI a35.1)), (20, cD (dI a38.1)), (24, cD (dI a50.1)), (185, cD (.bool a50.2))], [(5000, vL 6 encUpdate l0)]⟩ _
          refine Tri.condP (b := a50.2) rfl h (fun h => ?_) (fun h => ?_)
          ·refine Tri.reg ?_
           refine At.seg 5 [0, 1, 3, 4, 18, 20, 24, 186, 187, 188, 189, 190] [5000] (s' := ⟨[(0, .c (oC 5000 6 l0)), (1, cD (dI p1)), (3, cD (dI p3)), (4, cD (.fn 24 [])), (18, cD (dI a35.1)), (20, cD (dI a38.1)), (24, cD (dI a50.1)), (186, .c (oC 5000 6 l0)), (187, cD (dI a38.1)), (188, cD (dI p2)), (189, cD (dI a50.1)), (190, cD (.fn 24 []))], [(5000, vL 6 encUpdate l0)]⟩) (c := True ∧ True ∧ True ∧ True ∧ True ∧ True) (by kernel_rfl) ⟨trivial, trivial, trivial, trivial, trivial, trivial⟩ ?_
           obtain ⟨r52, hr52, h⟩ := bind_elim h
           refine At.callL (nf := 0) (caps := []) (xs := [.c (oC 5000 6 l0), cD (dI a38.1), cD (dI p2), cD (dI a50.1), cD (.fn 24 [])]) [(5000, 5000)] [0, 1, 3, 4, 18, 20, 24] [] (s0 := ⟨[(0, .c (oC 5000 6 l0)), (1, cD (dI p1)), (3, cD (dI p3)), (4, cD (.fn 24 [])), (18, cD (dI a35.1)), (20, cD (dI a38.1)), (24, cD (dI a50.1))], []⟩) (slices_rotateCmpFunc_Update__diff_Compare_w_ok hr52) rfl rfl (by kernel_rfl) rfl (by kernel_rfl) (by kernel_rfl) (.ren rfl rfl (.flat (.refl _) rfl rfl (.flat (.refl _) rfl rfl (.flat (.refl _) rfl rfl (.flat (.refl _) rfl rfl .nil))))) ⟨⟨by kernel_rfl, by kernel_rfl⟩, trivial⟩ (by kernel_rfl) (by kernel_rfl) (by kernel_rfl) (by kernel_rfl) (by kernel_rfl) (by kernel_rfl) (by kernel_rfl) (by kernel_rfl) (by kernel_rfl) ⟨[(191, .tup []), (0, .c (oC 5000 6 l0)), (1, cD (dI p1)), (3, cD (dI p3)), (4, cD (.fn 24 [])), (18, cD (dI a35.1)), (20, cD (dI a38.1)), (24, cD (dI a50.1))], [(5000, vL 6 encUpdate r52)]⟩ (by kernel_rfl) ?_
           obtain ⟨hc53, h⟩ := need_elim h
           refine At.eqS ⟨[(191, .tup []), (0, .c (oC 5000 6 r52)), (1, cD (dI p1)), (3, cD (dI p3)), (4, cD (.fn 24 [])), (18, cD (dI a35.1)), (20, cD (dI a38.1)), (24, cD (dI a50.1))], [(5000, vL 6 encUpdate r52)]⟩ (by simp only [oC, vL, hc53]) ?_
           refine At.keep [0, 1, 3, 4, 18, 20, 24] [5000] (s' := ⟨[(0, .c (oC 5000 6 r52)), (1, cD (dI p1)), (3, cD (dI p3)), (4, cD (.fn 24 [])), (18, cD (dI a35.1)), (20, cD (dI a38.1)), (24, cD (dI a50.1))], [(5000, vL 6 encUpdate r52)]⟩) (by kernel_rfl) ?_
           refine At.done rfl ?_
           exact ⟨_, h, rfl⟩
          ·refine Tri.keep [0, 1, 3, 4, 18, 20, 24] [5000] (s' := ⟨[(0, .c (oC 5000 6 l0)), (1, cD (dI p1)), (3, cD (dI p3)), (4, cD (.fn 24 [])), (18, cD (dI a35.1)), (20, cD (dI a38.1)), (24, cD (dI a50.1))], [(5000, vL 6 encUpdate l0)]⟩) (by kernel_rfl) ?_
           refine Tri.skip ?_
           exact ⟨_, h, rfl⟩
         ·refine Tri.reg ?_
          refine At.seg 4 [0, 1, 2, 3, 4, 18, 20, 24, 181] [5000] (s' := ⟨[(0, .c (oC 5000 6 l0)), (1, cD (dI p1)), (2, cD (dI p2)), (3, cD (dI p3)), (4, cD (.fn 24 [])), (18, cD (dI a35.1)), (20, cD (dI a38.1)), (24, cD (dI (IntKind.i64.wrap (a35.2.1 - a38.1)))), (181, cD (.bool (decide (a38.1 < p2))))], [(5000, vL 6 encUpdate l0)]⟩) (c := True ∧ True ∧ True ∧ True ∧ True) (by kernel_rfl) ⟨trivial, trivial, trivial, trivial, trivial⟩ ?_
          refine At.case (fun b => ⟨[(0, .c (oC 5000 6 l0)), (1, cD (dI p1)), (2, cD (dI p2)), (3, cD (dI p3)), (4, cD (.fn 24 [])), (18, cD (dI a35.1)), (20, cD (dI a38.1)), (24, cD (dI (IntKind.i64.wrap (a35.2.1 - a38.1)))), (181, cD (.bool b))], [(5000, vL 6 encUpdate l0)]⟩) (b := (decide (a38.1 < p2))) h (fun h => ?_) (fun h => ?_)
          ·refine At.seg 4 [0, 1, 2, 3, 4, 18, 20, 24, 185] [5000] (s' := ⟨[(0, .c (oC 5000 6 l0)), (1, cD (dI p1)), (2, cD (dI p2)), (3, cD (dI p3)), (4, cD (.fn 24 [])), (18, cD (dI a35.1)), (20, cD (dI a38.1)), (24, cD (dI (IntKind.i64.wrap (a35.2.1 - a38.1)))), (185, cD (.bool (decide (p2 < (IntKind.i64.wrap (a35.2.1 - a38.1))))))], [(5000, vL 6 encUpdate l0)]⟩) (c := True ∧ True ∧ True ∧ True ∧ True) (by kernel_rfl) ⟨trivial, trivial, trivial, trivial, trivial⟩ ?_
           refine At.done rfl ?_
           exact ⟨_, h, rfl⟩
          ·refine At.seg 4 [0, 1, 2, 3, 4, 18, 20, 24, 185] [5000] (s' := ⟨[(0, .c (oC 5000 6 l0)), (1, cD (dI p1)), (2, cD (dI p2)), (3, cD (dI p3)), (4, cD (.fn 24 [])), (18, cD (dI a35.1)), (20, cD (dI a38.1)), (24, cD (dI (IntKind.i64.wrap (a35.2.1 - a38.1)))), (185, cD (.bool false))], [(5000, vL 6 encUpdate l0)]⟩) (c := True ∧ True) (by kernel_rfl) ⟨trivial, trivial⟩ ?_
           refine At.done rfl ?_
           exact ⟨_, h, rfl⟩
       · exact fun x => x.elim
      ·refine Tri.segL [0, 1, 2, 3, 4, 18, 19, 140] [5000] ⟨[(0, .c (oC 5000 6 l0)), (1, cD (dI p1)), (2, cD (dI p2)), (3, cD (dI p3)), (4, cD (.fn 24 [])), (18, cD (dI (IntKind.i64.wrap (shrOp .u64 (IntKind.u64.wrap (IntKind.i64.wrap (p1 + p3))) 1)))), (19, cD (dI (IntKind.i64.wrap ((IntKind.i64.wrap (shrOp .u64 (IntKind.u64.wrap (IntKind.i64.wrap (p1 + p3))) 1)) + p2)))), (140, cD (.bool (decide ((IntKind.i64.wrap (shrOp .u64 (IntKind.u64.wrap (IntKind.i64.wrap (p1 + p3))) 1)) < p2))))], [(5000, vL 6 encUpdate l0)]⟩ (allT 3) (by kernel_rfl) (allT_ok 3) ?_
       refine Tri.condP (b := (decide ((IntKind.i64.wrap (shrOp .u64 (IntKind.u64.wrap (IntKind.i64.wrap (p1 + p3))) 1)) < p2))) rfl h (fun h => ?_) (fun h => ?_)
       ·refine Tri.segL [0, 1, 2, 3, 4, 18, 19, 20] [5000] ⟨[(0, .c (oC 5000 6 l0)), (1, cD (dI p1)), (2, cD (dI p2)), (3, cD (dI p3)), (4, cD (.fn 24 [])), (18, cD (dI (IntKind.i64.wrap (shrOp .u64 (IntKind.u64.wrap (IntKind.i64.wrap (p1 + p3))) 1)))), (19, cD (dI (IntKind.i64.wrap ((IntKind.i64.wrap (shrOp .u64 (IntKind.u64.wrap (IntKind.i64.wrap (p1 + p3))) 1)) + p2)))), (20, cD (dI (IntKind.i64.wrap ((IntKind.i64.wrap ((IntKind.i64.wrap (shrOp .u64 (IntKind.u64.wrap (IntKind.i64.wrap (p1 + p3))) 1)) + p2)) - p3))))], [(5000, vL 6 encUpdate l0)]⟩ (allT 4) (by kernel_rfl) (allT_ok 4) ?_
        refine Tri.reg ?_
        refine At.seg 2 [0, 1, 2, 3, 4, 18, 19, 20, 21] [5000] (s' := ⟨[(0, .c (oC 5000 6 l0)), (1, cD (dI p1)), (2, cD (dI p2)), (3, cD (dI p3)), (4, cD (.fn 24 [])), (18, cD (dI (IntKind.i64.wrap (shrOp .u64 (IntKind.u64.wrap (IntKind.i64.wrap (p1 + p3))) 1)))), (19, cD (dI (IntKind.i64.wrap ((IntKind.i64.wrap (shrOp .u64 (IntKind.u64.wrap (IntKind.i64.wrap (p1 + p3))) 1)) + p2)))), (20, cD (dI (IntKind.i64.wrap ((IntKind.i64.wrap ((IntKind.i64.wrap (shrOp .u64 (IntKind.u64.wrap (IntKind.i64.wrap (p1 + p3))) 1)) + p2)) - p3)))), (21, cD (dI (IntKind.i64.wrap (shrOp .u64 (IntKind.u64.wrap (IntKind.i64.wrap (p1 + p3))) 1))))], [(5000, vL 6 encUpdate l0)]⟩) (c := True ∧ True ∧ True) (by kernel_rfl) ⟨trivial, trivial, trivial⟩ ?_
        refine At.done rfl ?_
        exact ⟨_, h, rfl⟩
       ·refine Tri.segL [0, 1, 2, 3, 4, 18, 19, 20] [5000] ⟨[(0, .c (oC 5000 6 l0)), (1, cD (dI p1)), (2, cD (dI p2)), (3, cD (dI p3)), (4, cD (.fn 24 [])), (18, cD (dI (IntKind.i64.wrap (shrOp .u64 (IntKind.u64.wrap (IntKind.i64.wrap (p1 + p3))) 1)))), (19, cD (dI (IntKind.i64.wrap ((IntKind.i64.wrap (shrOp .u64 (IntKind.u64.wrap (IntKind.i64.wrap (p1 + p3))) 1)) + p2)))), (20, cD (dI p1))], [(5000, vL 6 encUpdate l0)]⟩ (allT 2) (by kernel_rfl) (allT_ok 2) ?_
        refine Tri.reg ?_
        refine At.seg 2 [0, 1, 2, 3, 4, 18, 19, 20, 21] [5000] (s' := ⟨[(0, .c (oC 5000 6 l0)), (1, cD (dI p1)), (2, cD (dI p2)), (3, cD (dI p3)), (4, cD (.fn 24 [])), (18, cD (dI (IntKind.i64.wrap (shrOp .u64 (IntKind.u64.wrap (IntKind.i64.wrap (p1 + p3))) 1)))), (19, cD (dI (IntKind.i64.wrap ((IntKind.i64.wrap (shrOp .u64 (IntKind.u64.wrap (IntKind.i64.wrap (p1 + p3))) 1)) + p2)))), (20, cD (dI p1)), (21, cD (dI p2))], [(5000, vL 6 encUpdate l0)]⟩) (c := True ∧ True ∧ True) (by kernel_rfl) ⟨trivial, trivial, trivial⟩ ?_
        refine At.done rfl ?_
        exact ⟨_, h, rfl⟩
set_option maxRecDepth 100000 in
theorem slices_stableCmpFunc_Update__diff_Compare_w_ok {fuel : Nat} {p1 : Int} {l0 : List Update} {q : List Update} (h : slices_stableCmpFunc_Update__diff_Compare_w fuel p1 l0 = some q) :
    Summ Try.prog 81 [.c (oC 5000 6 l0), cD (dI p1), cD (.fn 24 [])] [(5000, vL 6 encUpdate l0)] (.tup []) [(5000, vL 6 encUpdate q)] := by
  refine Summ.intro Try.func81 rfl (by kernel_rfl) (by kernel_rfl) [] rfl ?_
  rintro ⟨P, w0, G0, V, LL, lk, N, φ0, fx⟩ rfl rfl rfl rfl
  unfold slices_stableCmpFunc_Update__diff_Compare_w at h
  refine Tri.segC [0, 1, 2, 6] [5000] (allT 1) (by kernel_rfl) (by kernel_rfl) (allT_ok 1) ?_
  refine Tri.segC [0, 1, 2, 6, 7, 8] [5000] (allT 3) (by kernel_rfl) (by kernel_rfl) (allT_ok 3) ?_
  refine Tri.seqS ?_
  refine Tri.keep [0, 1, 2, 6, 7, 8] [5000] (s' := ⟨[(0, .c (oC 5000 6 l0)), (1, cD (dI p1)), (2, cD (.fn 24 [])), (6, cD (dI 20)), (7, cD (dI 0)), (8, cD (dI 20))], [(5000, vL 6 encUpdate l0)]⟩) (by kernel_rfl) ?_
  refine Tri.loopK (fuel := fuel) (st0 := (0, 20, l0)) (fun (x : Empty) s => False) (fun (a1 : Int × Int × (List Update)) => ⟨[(0, .c (oC 5000 6 a1.2.2)), (1, cD (dI p1)), (2, cD (.fn 24 [])), (6, cD (dI 20)), (7, cD (dI a1.1)), (8, cD (dI a1.2.1))], [(5000, vL 6 encUpdate a1.2.2)]⟩) (fun (a1 : Int × Int × (List Update)) => ⟨[(0, .c (oC 5000 6 a1.2.2)), (1, cD (dI p1)), (2, cD (.fn 24 [])), (6, cD (dI 20)), (7, cD (dI a1.1)), (8, cD (dI a1.2.1))], [(5000, vL 6 encUpdate a1.2.2)]⟩) h ?_ ?_ ?_
  ·intro a1 c h
   show Tri _ _ ⟨[(0, .c (oC 5000 6 a1.2.2)), (1, cD (dI p1)), (2, cD (.fn 24 [])), (6, cD (dI 20)), (7, cD (dI a1.1)), (8, cD (dI a1.2.1))], [(5000, vL 6 encUpdate a1.2.2)]⟩ _
   refine Tri.seqS ?_
   refine Tri.segL [0, 1, 2, 6, 7, 8, 13] [5000] ⟨[(0, .c (oC 5000 6 a1.2.2)), (1, cD (dI p1)), (2, cD (.fn 24 [])), (6, cD (dI 20)), (7, cD (dI a1.1)), (8, cD (dI a1.2.1)), (13, cD (.bool (decide (a1.2.1 ≤ p1))))], [(5000, vL 6 encUpdate a1.2.2)]⟩ (allT 3) (by kernel_rfl) (allT_ok 3) ?_
   refine Tri.condP (b := (decide (a1.2.1 ≤ p1))) rfl h (fun h => ?_) (fun h => ?_)
   ·refine Tri.skip ?_
    show Tri _ _ _ _
    refine Tri.blockB ?_
    refine Tri.seqS ?_
    refine Tri.reg ?_
    refine At.seg 4 [0, 1, 2, 6, 8, 14, 15, 16, 17] [5000] (s' := ⟨[(0, .c (oC 5000 6 a1.2.2)), (1, cD (dI p1)), (2, cD (.fn 24 [])), (6, cD (dI 20)), (8, cD (dI a1.2.1)), (14, .c (oC 5000 6 a1.2.2)), (15, cD (dI a1.1)), (16, cD (dI a1.2.1)), (17, cD (.fn 24 []))], [(5000, vL 6 encUpdate a1.2.2)]⟩) (c := True ∧ True ∧ True ∧ True ∧ True) (by kernel_rfl) ⟨trivial, trivial, trivial, trivial, trivial⟩ ?_
    obtain ⟨r15, hr15, h⟩ := bind_elim h
    refine At.callL (nf := 0) (caps := []) (xs := [.c (oC 5000 6 a1.2.2), cD (dI a1.1), cD (dI a1.2.1), cD (.fn 24 [])]) [(5000, 5000)] [0, 1, 2, 6, 8] [] (s0 := ⟨[(0, .c (oC 5000 6 a1.2.2)), (1, cD (dI p1)), (2, cD (.fn 24 [])), (6, cD (dI 20)), (8, cD (dI a1.2.1))], []⟩) (slices_insertionSortCmpFunc_Update__diff_Compare_w_ok hr15) rfl rfl (by kernel_rfl) rfl (by kernel_rfl) (by kernel_rfl) (.ren rfl rfl (.flat (.refl _) rfl rfl (.flat (.refl _) rfl rfl (.flat (.refl _) rfl rfl .nil)))) ⟨⟨by kernel_rfl, by kernel_rfl⟩, trivial⟩ (by kernel_rfl) (by kernel_rfl) (by kernel_rfl) (by kernel_rfl) (by kernel_rfl) (by kernel_rfl) (by kernel_rfl) (by kernel_rfl) (by kernel_rfl) ⟨[(18, .tup []), (0, .c (oC 5000 6 a1.2.2)), (1, cD (dI p1)), (2, cD (.fn 24 [])), (6, cD (dI 20)), (8, cD (dI a1.2.1))], [(5000, vL 6 encUpdate r15)]⟩ (by kernel_rfl) ?_
    obtain ⟨hc16, h⟩ := need_elim h
    refine At.eqS ⟨[(18, .tup []), (0, .c (oC 5000 6 r15)), (1, cD (dI p1)), (2, cD (.fn 24 [])), (6, cD (dI 20)), (8, cD (dI a1.2.1))], [(5000, vL 6 encUpdate r15)]⟩ (by simp only [oC, vL, hc16]) ?_
    refine At.done rfl ?_
    show Tri _ _ _ _
    refine Tri.segL [0, 1, 2, 6, 7, 8] [5000] ⟨[(0, .c (oC 5000 6 r15)), (1, cD (dI p1)), (2, cD (.fn 24 [])), (6, cD (dI 20)), (7, cD (dI a1.2.1)), (8, cD (dI a1.2.1))], [(5000, vL 6 encUpdate r15)]⟩ (allT 2) (by kernel_rfl) (allT_ok 2) ?_
    refine Tri.reg ?_
    refine At.seg 4 [0, 1, 2, 6, 7, 8] [5000] (s' := ⟨[(0, .c (oC 5000 6 r15)), (1, cD (dI p1)), (2, cD (.fn 24 [])), (6, cD (dI 20)), (7, cD (dI a1.2.1)), (8, cD (dI (IntKind.i64.wrap (a1.2.1 + 20))))], [(5000, vL 6 encUpdate r15)]⟩) (c := True ∧ True ∧ True ∧ True ∧ True) (by kernel_rfl) ⟨trivial, trivial, trivial, trivial, trivial⟩ ?_
    refine At.done rfl ?_
    cases h
    exact rfl
   ·refine Tri.keep [0, 1, 2, 6, 7, 8] [5000] (s' := ⟨[(0, .c (oC 5000 6 a1.2.2)), (1, cD (dI p1)), (2, cD (.fn 24 [])), (6, cD (dI 20)), (7, cD (dI a1.1)), (8, cD (dI a1.2.1))], [(5000, vL 6 encUpdate a1.2.2)]⟩) (by kernel_rfl) ?_
    refine Tri.exit ?_
    cases h
    exact ⟨rfl, rfl⟩
  ·intro a2 h
   show Tri _ _ _ _
   refine Tri.seqS ?_
   refine Tri.reg ?_
   refine At.seg 4 [0, 1, 2, 6, 23, 24, 25, 26] [5000] (s' := ⟨[(0, .c (oC 5000 6 a2.2.2)), (1, cD (dI p1)), (2, cD (.fn 24 [])), (6, cD (dI 20)), (23, .c (oC 5000 6 a2.2.2)), (24, cD (dI a2.1)), (25, cD (dI p1)), (26, cD (.fn 24 []))], [(5000, vL 6 encUpdate a2.2.2)]⟩) (c := True ∧ True ∧ True ∧ True ∧ True) (by kernel_rfl) ⟨trivial, trivial, trivial, trivial, trivial⟩ ?_
   obtain ⟨r3, hr3, h⟩ := bind_elim h
   refine At.callL (nf := 0) (caps := []) (xs := [.c (oC 5000 6 a2.2.2), cD (dI a2.1), cD (dI p1), cD (.fn 24 [])]) [(5000, 5000)] [0, 1, 2, 6] [] (s0 := ⟨[(0, .c (oC 5000 6 a2.2.2)), (1, cD (dI p1)), (2, cD (.fn 24 [])), (6, cD (dI 20))], []⟩) (slices_insertionSortCmpFunc_Update__diff_Compare_w_ok hr3) rfl rfl (by kernel_rfl) rfl (by kernel_rfl) (by kernel_rfl) (.ren rfl rfl (.flat (.refl _) rfl rfl (.flat (.refl _) rfl rfl (.flat (.refl _) rfl rfl .nil)))) ⟨⟨by kernel_rfl, by kernel_rfl⟩, trivial⟩ (by kernel_rfl) (by kernel_rfl) (by kernel_rfl) (by kernel_rfl) (by kernel_rfl) (by kernel_rfl) (by kernel_rfl) (by kernel_rfl) (by kernel_rfl) ⟨[(27, .tup []), (0, .c (oC 5000 6 a2.2.2)), (1, cD (dI p1)), (2, cD (.fn 24 [])), (6, cD (dI 20))], [(5000, vL 6 encUpdate r3)]⟩ (by kernel_rfl) ?_
   obtain ⟨hc4, h⟩ := need_elim h
   refine At.eqS ⟨[(27, .tup []), (0, .c (oC 5000 6 r3)), (1, cD (dI p1)), (2, cD (.fn 24 [])), (6, cD (dI 20))], [(5000, vL 6 encUpdate r3)]⟩ (by simp only [oC, vL, hc4]) ?_
   refine At.done rfl ?_
   show Tri _ _ _ _
   refine Tri.keep [0, 1, 2, 6] [5000] (s' := ⟨[(0, .c (oC 5000 6 r3)), (1, cD (dI p1)), (2, cD (.fn 24 [])), (6, cD (dI 20))], [(5000, vL 6 encUpdate r3)]⟩) (by kernel_rfl) ?_
   refine Tri.loopK (fuel := fuel) (st0 := (20, r3)) (fun (x : Empty) s => False) (fun (a5 : Int × (List Update)) => ⟨[(0, .c (oC 5000 6 a5.2)), (1, cD (dI p1)), (2, cD (.fn 24 [])), (6, cD (dI a5.1))], [(5000, vL 6 encUpdate a5.2)]⟩) (fun (a5 : Int × (List Update)) => ⟨[], [(5000, vL 6 encUpdate a5.2)]⟩) h ?_ ?_ ?_
   ·intro a5 c h
    show Tri _ _ ⟨[(0, .c (oC 5000 6 a5.2)), (1, cD (dI p1)), (2, cD (.fn 24 [])), (6, cD (dI a5.1))], [(5000, vL 6 encUpdate a5.2)]⟩ _
    refine Tri.seqS ?_
    refine Tri.segL [0, 1, 2, 6, 30] [5000] ⟨[(0, .c (oC 5000 6 a5.2)), (1, cD (dI p1)), (2, cD (.fn 24 [])), (6, cD (dI a5.1)), (30, cD (.bool (decide (a5.1 < p1))))], [(5000, vL 6 encUpdate a5.2)]⟩ (allT 3) (by kernel_rfl) (allT_ok 3) ?_
    refine Tri.condP (b := (decide (a5.1 < p1))) rfl h (fun h => ?_) (fun h => ?_)
    ·refine Tri.skip ?_
     show Tri _ _ _ _
     refine Tri.blockB ?_
     refine Tri.segC [0, 1, 2, 6, 7, 8] [5000] (allT 4) (by kernel_rfl) (by kernel_rfl) (allT_ok 4) ?_
     refine Tri.seqS ?_
     refine Tri.keep [0, 1, 2, 6, 7, 8] [5000] (s' := ⟨[(0, .c (oC 5000 6 a5.2)), (1, cD (dI p1)), (2, cD (.fn 24 [])), (6, cD (dI a5.1)), (7, cD (dI 0)), (8, cD (dI (IntKind.i64.wrap ((2 : Int) * a5.1))))], [(5000, vL 6 encUpdate a5.2)]⟩) (by kernel_rfl) ?_
     refine Tri.loopK (fuel := fuel) (st0 := (0, (IntKind.i64.wrap ((2 : Int) * a5.1)), a5.2)) (fun (x : Empty) s => False) (fun (a7 : Int × Int × (List Update)) => ⟨[(0, .c (oC 5000 6 a7.2.2)), (1, cD (dI p1)), (2, cD (.fn 24 [])), (6, cD (dI a5.1)), (7, cD (dI a7.1)), (8, cD (dI a7.2.1))], [(5000, vL 6 encUpdate a7.2.2)]⟩) (fun (a7 : Int × Int × (List Update)) => ⟨[(0, .c (oC 5000 6 a7.2.2)), (1, cD (dI p1)), (2, cD (.fn 24 [])), (6, cD (dI a5.1)), (7, cD (dI a7.1)), (8, cD (dI a7.2.1))], [(5000, vL 6 encUpdate a7.2.2)]⟩) h ?_ ?_ ?_
     ·intro a7 c h
      show Tri _ _ ⟨[(0, .c (oC 5000 6 a7.2.2)), (1, cD (dI p1)), (2, cD (.fn 24 [])), (6, cD (dI a5.1)), (7, cD (dI a7.1)), (8, cD (dI a7.2.1))], [(5000, vL 6 encUpdate a7.2.2)]⟩ _
      refine Tri.seqS ?_
      refine Tri.segL [0, 1, 2, 6, 7, 8, 35] [5000] ⟨[(0, .c (oC 5000 6 a7.2.2)), (1, cD (dI p1)), (2, cD (.fn 24 [])), (6, cD (dI a5.1)), (7, cD (dI a7.1)), (8, cD (dI a7.2.1)), (35, cD (.bool (decide (a7.2.1 ≤ p1))))], [(5000, vL 6 encUpdate a7.2.2)]⟩ (allT 3) (by kernel_rfl) (allT_ok 3) ?_
      refine Tri.condP (b := (decide (a7.2.1 ≤ p1))) rfl h (fun h => ?_) (fun h => ?_)
      ·refine Tri.skip ?_
       show Tri _ _ _ _
       refine Tri.blockB ?_
       refine Tri.seqS ?_
       refine Tri.reg ?_
       refine At.seg 7 [0, 1, 2, 6, 8, 36, 37, 40, 41, 42] [5000] (s' := ⟨[(0, .c (oC 5000 6 a7.2.2)), (1, cD (dI p1)), (2, cD (.fn 24 [])), (6, cD (dI a5.1)), (8, cD (dI a7.2.1)), (36, .c (oC 5000 6 a7.2.2)), (37, cD (dI a7.1)), (40, cD (dI (IntKind.i64.wrap (a7.1 + a5.1)))), (41, cD (dI a7.2.1)), (42, cD (.fn 24 []))], [(5000, vL 6 encUpdate a7.2.2)]⟩) (c := True ∧ True ∧ True ∧ True ∧ True ∧ True ∧ True ∧ True) (by kernel_rfl) ⟨trivial, trivial, trivial, trivial, trivial, trivial, trivial, trivial⟩ ?_
       obtain ⟨r13, hr13, h⟩ := bind_elim h
       refine At.callL (nf := 0) (caps := []) (xs := [.c (oC 5000 6 a7.2.2), cD (dI a7.1), cD (dI (IntKind.i64.wrap (a7.1 + a5.1))), cD (dI a7.2.1), cD (.fn 24 [])]) [(5000, 5000)] [0, 1, 2, 6, 8] [] (s0 := ⟨[(0, .c (oC 5000 6 a7.2.2)), (1, cD (dI p1)), (2, cD (.fn 24 [])), (6, cD (dI a5.1)), (8, cD (dI a7.2.1))], []⟩) (slices_symMergeCmpFunc_Update__diff_Compare_w_ok hr13) rfl rfl (by kernel_rfl) rfl (by kernel_rfl) (by kernel_rfl) (.ren rfl rfl (.flat (.refl _) rfl rfl (.flat (.refl _) rfl rfl (.flat (.refl _) rfl rfl (.flat (.refl _) rfl rfl .nil))))) ⟨⟨by kernel_rfl, by kernel_rfl⟩, trivial⟩ (by kernel_rfl) (by kernel_rfl) (by kernel_rfl) (by kernel_rfl) (by kernel_rfl) (by kernel_rfl) (by kernel_rfl) (by kernel_rfl) (by kernel_rfl) ⟨[(43, .tup []), (0, .c (oC 5000 6 a7.2.2)), (1, cD (dI p1)), (2, cD (.fn 24 [])), (6, cD (dI a5.1)), (8, cD (dI a7.2.1))], [(5000, vL 6 encUpdate r13)]⟩ (by kernel_rfl) ?_
       obtain ⟨hc14, h⟩ := need_elim h
       refine At.eqS ⟨[(43, .tup []), (0, .c (oC 5000 6 r13)), (1, cD (dI p1)), (2, cD (.fn 24 [])), (6, cD (dI a5.1)), (8, cD (dI a7.2.1))], [(5000, vL 6 encUpdate r13)]⟩ (by simp only [oC, vL, hc14]) ?_
       refine At.done rfl ?_
       show Tri _ _ _ _
       refine Tri.segL [0, 1, 2, 6, 7, 8] [5000] ⟨[(0, .c (oC 5000 6 r13)), (1, cD (dI p1)), (2, cD (.fn 24 [])), (6, cD (dI a5.1)), (7, cD (dI a7.2.1)), (8, cD (dI a7.2.1))], [(5000, vL 6 encUpdate r13)]⟩ (allT 2) (by kernel_rfl) (allT_ok 2) ?_
       refine Tri.reg ?_
       refine At.seg 5 [0, 1, 2, 6, 7, 8] [5000] (s' := ⟨[(0, .c (oC 5000 6 r13)), (1, cD (dI p1)), (2, cD (.fn 24 [])), (6, cD (dI a5.1)), (7, cD (dI a7.2.1)), (8, cD (dI (IntKind.i64.wrap (a7.2.1 + (IntKind.i64.wrap ((2 : Int) * a5.1))))))], [(5000, vL 6 encUpdate r13)]⟩) (c := True ∧ True ∧ True ∧ True ∧ True ∧ True) (by kernel_rfl) ⟨trivial, trivial, trivial, trivial, trivial, trivial⟩ ?_
       refine At.done rfl ?_
       cases h
       exact rfl
      ·refine Tri.keep [0, 1, 2, 6, 7, 8] [5000] (s' := ⟨[(0, .c (oC 5000 6 a7.2.2)), (1, cD (dI p1)), (2, cD (.fn 24 [])), (6, cD (dI a5.1)), (7, cD (dI a7.1)), (8, cD (dI a7.2.1))], [(5000, vL 6 encUpdate a7.2.2)]⟩) (by kernel_rfl) ?_
       refine Tri.exit ?_
       cases h
       exact ⟨rfl, rfl⟩
     ·intro a8 h
      show Tri _ _ _ _
      refine Tri.seqJ (fun (a9 : List Update) => ⟨[(0, .c (oC 5000 6 a9)), (1, cD (dI p1)), (2, cD (.fn 24 [])), (6, cD (dI a5.1))], [(5000, vL 6 encUpdate a9)]⟩) h (fun a9 h => ?_) (fun j10 h => ?_)
      ·show Tri _ _ ⟨[(0, .c (oC 5000 6 a9)), (1, cD (dI p1)), (2, cD (.fn 24 [])), (6, cD (dI a5.1))], [(5000, vL 6 encUpdate a9)]⟩ _
       refine Tri.reg ?_
       refine At.seg 3 [0, 1, 2, 6] [5000] (s' := ⟨[(0, .c (oC 5000 6 a9)), (1, cD (dI p1)), (2, cD (.fn 24 [])), (6, cD (dI (IntKind.i64.wrap (a5.1 * 2))))], [(5000, vL 6 encUpdate a9)]⟩) (c := True ∧ True ∧ True ∧ True) (by kernel_rfl) ⟨trivial, trivial, trivial, trivial⟩ ?_
       refine At.done rfl ?_
       cases h
       exact rfl
      ·refine Tri.segC [0, 1, 2, 6, 7, 9] [5000] (allT 4) (by kernel_rfl) (by kernel_rfl) (allT_ok 4) ?_
       refine Tri.segL [0, 1, 2, 6, 7, 9, 54] [5000] ⟨[(0, .c (oC 5000 6 a8.2.2)), (1, cD (dI p1)), (2, cD (.fn 24 [])), (6, cD (dI a5.1)), (7, cD (dI a8.1)), (9, cD (dI (IntKind.i64.wrap (a8.1 + a5.1)))), (54, cD (.bool (decide ((IntKind.i64.wrap (a8.1 + a5.1)) < p1))))], [(5000, vL 6 encUpdate a8.2.2)]⟩ (allT 3) (by kernel_rfl) (allT_ok 3) ?_
       refine Tri.condP (b := (decide ((IntKind.i64.wrap (a8.1 + a5.1)) < p1))) rfl h (fun h => ?_) (fun h => ?_)
       ·refine Tri.reg ?_
        refine At.seg 5 [0, 1, 2, 6, 55, 56, 57, 58, 59] [5000] (s' := ⟨[(0, .c (oC 5000 6 a8.2.2)), (1, cD (dI p1)), (2, cD (.fn 24 [])), (6, cD (dI a5.1)), (55, .c (oC 5000 6 a8.2.2)), (56, cD (dI a8.1)), (57, cD (dI (IntKind.i64.wrap (a8.1 + a5.1)))), (58, cD (dI p1)), (59, cD (.fn 24 []))], [(5000, vL 6 encUpdate a8.2.2)]⟩) (c := True ∧ True ∧ True ∧ True ∧ True ∧ True) (by kernel_rfl) ⟨trivial, trivial, trivial, trivial, trivial, trivial⟩ ?_
        obtain ⟨r11, hr11, h⟩ := bind_elim h
        refine At.callL (nf := 0) (caps := []) (xs := [.c (oC 5000 6 a8.2.2), cD (dI a8.1), cD (dI (IntKind.i64.wrap (a8.1 + a5.1))), cD (dI p1), cD (.fn 24 [])]) [(5000, 5000)] [0, 1, 2, 6] [] (s0 := ⟨[(0, .c (oC 5000 6 a8.2.2)), (1, cD (dI p1)), (2, cD (.fn 24 [])), (6, cD (dI a5.1))], []⟩) (slices_symMergeCmpFunc_Update__diff_Compare_w_ok hr11) rfl rfl (by kernel_rfl) rfl (by kernel_rfl) (by kernel_rfl) (.ren rfl rfl (.flat (.refl _) rfl rfl (.flat (.refl _) rfl rfl (.flat (.refl _) rfl rfl (.flat (.refl _) rfl rfl .nil))))) ⟨⟨by kernel_rfl, by kernel_rfl⟩, trivial⟩ (by kernel_rfl) (by kernel_rfl) (by kernel_rfl) (by kernel_rfl) (by kernel_rfl) (by kernel_rfl) (by kernel_rfl) (by kernel_rfl) (by kernel_rfl) ⟨[(60, .tup []), (0, .c (oC 5000 6 a8.2.2)), (1, cD (dI p1)), (2, cD (.fn 24 [])), (6, cD (dI a5.1))], [(5000, vL 6 encUpdate r11)]⟩ (by kernel_rfl) ?_
        obtain ⟨hc12, h⟩ := need_elim h
        refine At.eqS ⟨[(60, .tup []), (0, .c (oC 5000 6 r11)), (1, cD (dI p1)), (2, cD (.fn 24 [])), (6, cD (dI a5.1))], [(5000, vL 6 encUpdate r11)]⟩ (by simp only [oC, vL, hc12]) ?_
        refine At.keep [0, 1, 2, 6] [5000] (s' := ⟨[(0, .c (oC 5000 6 r11)), (1, cD (dI p1)), (2, cD (.fn 24 [])), (6, cD (dI a5.1))], [(5000, vL 6 encUpdate r11)]⟩) (by kernel_rfl) ?_
        refine At.done rfl ?_
        exact ⟨_, h, rfl⟩
       ·refine Tri.keep [0, 1, 2, 6] [5000] (s' := ⟨[(0, .c (oC 5000 6 a8.2.2)), (1, cD (dI p1)), (2, cD (.fn 24 [])), (6, cD (dI a5.1))], [(5000, vL 6 encUpdate a8.2.2)]⟩) (by kernel_rfl) ?_
        refine Tri.skip ?_
        exact ⟨_, h, rfl⟩
     · exact fun x => x.elim
    ·refine Tri.keep [] [5000] (s' := ⟨[], [(5000, vL 6 encUpdate a5.2)]⟩) (by kernel_rfl) ?_
     refine Tri.exit ?_
     cases h
     exact ⟨rfl, rfl⟩
   ·intro a6 h
    cases h
    refine ⟨_, _, rfl, trivial, rfl, rfl, ?_⟩
    exact SubS.out ⟨⟨rfl, rfl⟩, trivial⟩
   · exact fun x => x.elim
  · exact fun x => x.elim
end Go.Av
