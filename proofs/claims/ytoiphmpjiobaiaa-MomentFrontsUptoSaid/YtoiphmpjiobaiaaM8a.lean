import Derived.Test.YtoiphmpjiobaiaaM8p
import Derived.Test.YtoiphmpjiobaiaaProg
namespace Go.Av
open Go Go.Proofs
set_option linter.unusedVariables false
set_option linter.unusedSimpArgs false

set_option maxRecDepth 100000 in
theorem freshetlaw04_at_ok {p0 : Int} {p1 : Int} {p2 : Int} {q : Time} (h : freshetlaw04_at p0 p1 p2 = some q) :
    Summ Try.prog 33 [cD (u6 p0), cD (u6 p1), cD (u6 p2)] [] (.agg (cTime q)) [] := by
  refine Summ.intro Try.func33 rfl (by kernel_rfl) (by kernel_rfl) [] rfl ?_
  rintro ⟨P, w0, G0, V, LL, lk, N, φ0, fx⟩ rfl rfl rfl rfl
  unfold freshetlaw04_at at h
  refine Tri.seqS ?_
  refine Tri.reg ?_
  refine At.seg 1 [0, 1, 2, 6] [6] (s' := ⟨[(0, cD (u6 p0)), (1, cD (u6 p1)), (2, cD (u6 p2)), (6, .c (.ptr 6 0))], [(6, .box [.d (u6 0), .d (u6 0), .d (u6 0)])]⟩) (c := True ∧ True) (by kernel_rfl) ⟨trivial, trivial⟩ ?_
  refine At.done rfl ?_
  show Tri _ _ _ _
  refine Tri.seqS ?_
  refine Tri.reg ?_
  refine At.seg 6 [6] [6] (s' := ⟨[(6, .c (.ptr 6 0))], [(6, .box [.d (u6 p0), .d (u6 p1), .d (u6 p2)])]⟩) (c := True ∧ True ∧ True ∧ True ∧ True ∧ True ∧ True) (by kernel_rfl) ⟨trivial, trivial, trivial, trivial, trivial, trivial, trivial⟩ ?_
  refine At.done rfl ?_
  show Tri _ _ _ _
  refine Tri.keep [6] [6] (s' := ⟨[(6, .c (.ptr 6 0))], [(6, .box [.d (u6 p0), .d (u6 p1), .d (u6 p2)])]⟩) (by kernel_rfl) ?_
  refine Tri.ret ?_
  cases h
  refine ⟨_, _, rfl, ⟨trivial, trivial⟩, rfl, rfl, ?_⟩
  intro k c h
  cases h

set_option maxRecDepth 100000 in
theorem slices_Clonefreshet_api_Time_freshet_api_Time_Time_ok {p0 : List Time} {q : List Time} (h : slices_Clonefreshet_api_Time_freshet_api_Time_Time p0 = some q) :
    Summ Try.prog 41 [cD (lD 3 encTime p0)] [] (cD (lD 3 encTime q)) [] := by
  refine Summ.intro Try.func41 rfl (by kernel_rfl) (by kernel_rfl) [] rfl ?_
  rintro ⟨P, w0, G0, V, LL, lk, N, φ0, fx⟩ rfl rfl rfl rfl
  unfold slices_Clonefreshet_api_Time_freshet_api_Time_Time at h
  refine Tri.seqS ?_
  refine Tri.reg ?_
  refine At.seg 1 [0] [] (s' := ⟨[(0, cD (lD 3 encTime p0))], []⟩) (c := True ∧ True) (by kernel_rfl) ⟨trivial, trivial⟩ ?_
  refine At.done rfl ?_
  show Tri _ _ _ _
  refine Tri.seqS ?_
  refine Tri.seqS ?_
  refine Tri.reg ?_
  refine At.seg 1 [0, 3] [] (s' := ⟨[(0, cD (lD 3 encTime p0)), (3, cD (lD 3 encTime p0))], []⟩) (c := True ∧ True) (by kernel_rfl) ⟨trivial, trivial⟩ ?_
  have hnil : p0.length = 0 → (some ([] : List Time)) = (need (p0.length ≤ 274877906944) <| some p0) := by intro h0; obtain rfl := List.eq_nil_of_length_eq_zero h0; rfl
  refine At.nilCase (e := 27) rfl rfl rfl rfl rfl (by kernel_rfl) rfl (fun h0 => ?_) ?_
  ·replace h := (hnil h0).trans h
   refine At.done rfl ?_
   show Tri _ _ _ _
   refine Tri.cond (b := true) rfl (fun _ => ?_) (fun e => by cases e)
   refine Tri.seqS ?_
   refine Tri.reg ?_
   refine At.seg 1 [2] [] (s' := ⟨[(2, .c (.zero))], []⟩) (c := True ∧ True) (by kernel_rfl) ⟨trivial, trivial⟩ ?_
   refine At.done rfl ?_
   show Tri _ _ _ _
   refine Tri.keep [2] [] (s' := ⟨[(2, .c (.zero))], []⟩) (by kernel_rfl) ?_
   refine Tri.le [] (fun k hk => by cases hk) ⟨[(2, cD (lD 3 encTime ([] : List Time)))], []⟩ ⟨⟨_, rfl, .c (.zero _ _)⟩, trivial⟩ trivial ?_
   refine Tri.ret ?_
   cases h
   refine ⟨_, _, rfl, ⟨trivial, trivial⟩, rfl, rfl, ?_⟩
   intro k c h
   cases h
  ·refine At.done rfl ?_
   show Tri _ _ _ _
   refine Tri.cond (b := false) rfl (fun e => by cases e) (fun _ => ?_)
   refine Tri.skip ?_
   show Tri _ _ _ _
   refine Tri.seqS ?_
   refine Tri.reg ?_
   refine At.one rfl (One.build0 (e := 27) (es := 3) rfl rfl rfl rfl (by kernel_rfl) rfl) ?_
   refine At.seg 1 [5, 6] [] (s' := ⟨[(5, .c (.zero)), (6, cD (lD 3 encTime p0))], []⟩) (c := True ∧ True) (by kernel_rfl) ⟨trivial, trivial⟩ ?_
   obtain ⟨hc1, h⟩ := need_elim h
   refine At.one rfl (One.append0 (e := 27) (es := 3) (m := p0.length) (get := fun i => encTime (p0.getD i default)) rfl rfl rfl rfl (by kernel_rfl) (.of 27 24 [.d (u6 0), .d (u6 0), .d (u6 0)] (by kernel_rfl) (by kernel_rfl) (by kernel_rfl) (by kernel_rfl) rfl (by kernel_rfl) rfl) rfl rfl (.list rfl (fun _ _ => rfl)) hc1) ?_
   refine At.seg 1 [2] [7] (s' := ⟨[(2, .c (oC 7 3 p0))], [(7, vL 3 encTime p0)]⟩) (c := True ∧ True) (by kernel_rfl) ⟨trivial, trivial⟩ ?_
   refine At.done rfl ?_
   show Tri _ _ _ _
   refine Tri.keep [2] [7] (s' := ⟨[(2, .c (oC 7 3 p0))], [(7, vL 3 encTime p0)]⟩) (by kernel_rfl) ?_
   refine Tri.le [7] (fun k hk h => by first | (cases h; done) | (simp at hk h; omega)) ⟨[(2, cD (lD 3 encTime p0))], []⟩ ⟨⟨_, rfl, .c (CLe.frozen (encTime) p0 rfl (by simp))⟩, trivial⟩ trivial ?_
   refine Tri.ret ?_
   cases h
   refine ⟨_, _, rfl, ⟨trivial, trivial⟩, rfl, rfl, ?_⟩
   intro k c h
   cases h

set_option maxRecDepth 100000 in
theorem slices_Clonefreshet_api_Time_freshet_api_Time_Time_ok_o {p0 : List Time} {q : List Time} (h : slices_Clonefreshet_api_Time_freshet_api_Time_Time p0 = some q) :
    Summ Try.prog 41 [cD (lD 3 encTime p0)] [] (.c (oC 6000 3 q)) [(6000, vL 3 encTime q)] := by
  refine Summ.intro Try.func41 rfl (by kernel_rfl) (by kernel_rfl) [6000] rfl ?_
  rintro ⟨P, w0, G0, V, LL, lk, N, φ0, fx⟩ rfl rfl rfl rfl
  unfold slices_Clonefreshet_api_Time_freshet_api_Time_Time at h
  refine Tri.seqS ?_
  refine Tri.reg ?_
  refine At.seg 1 [0] [] (s' := ⟨[(0, cD (lD 3 encTime p0))], []⟩) (c := True ∧ True) (by kernel_rfl) ⟨trivial, trivial⟩ ?_
  refine At.done rfl ?_
  show Tri _ _ _ _
  refine Tri.seqS ?_
  refine Tri.seqS ?_
  refine Tri.reg ?_
  refine At.seg 1 [0, 3] [] (s' := ⟨[(0, cD (lD 3 encTime p0)), (3, cD (lD 3 encTime p0))], []⟩) (c := True ∧ True) (by kernel_rfl) ⟨trivial, trivial⟩ ?_
  have hnil : p0.length = 0 → (some ([] : List Time)) = (need (p0.length ≤ 274877906944) <| some p0) := by intro h0; obtain rfl := List.eq_nil_of_length_eq_zero h0; rfl
  refine At.nilCase (e := 27) rfl rfl rfl rfl rfl (by kernel_rfl) rfl (fun h0 => ?_) ?_
  ·replace h := (hnil h0).trans h
   refine At.done rfl ?_
   show Tri _ _ _ _
   refine Tri.cond (b := true) rfl (fun _ => ?_) (fun e => by cases e)
   refine Tri.seqS ?_
   refine Tri.reg ?_
   refine At.seg 1 [2] [] (s' := ⟨[(2, .c (.zero))], []⟩) (c := True ∧ True) (by kernel_rfl) ⟨trivial, trivial⟩ ?_
   refine At.done rfl ?_
   show Tri _ _ _ _
   refine Tri.newOwn (t := 2) (k := 6000) (es := 3) (fun i => encTime (([] : List Time).getD i default)) rfl rfl rfl ?_
   refine Tri.keep [2] [6000] (s' := ⟨[(2, .c (oC 6000 3 ([] : List Time)))], [(6000, vL 3 encTime ([] : List Time))]⟩) (by kernel_rfl) ?_
   refine Tri.ret ?_
   cases h
   refine ⟨_, _, rfl, ⟨trivial, trivial⟩, rfl, rfl, ?_⟩
   exact SubS.out ⟨⟨rfl, rfl⟩, trivial⟩
  ·refine At.done rfl ?_
   show Tri _ _ _ _
   refine Tri.cond (b := false) rfl (fun e => by cases e) (fun _ => ?_)
   refine Tri.skip ?_
   show Tri _ _ _ _
   refine Tri.seqS ?_
   refine Tri.reg ?_
   refine At.one rfl (One.build0 (e := 27) (es := 3) rfl rfl rfl rfl (by kernel_rfl) rfl) ?_
   refine At.seg 1 [5, 6] [] (s' := ⟨[(5, .c (.zero)), (6, cD (lD 3 encTime p0))], []⟩) (c := True ∧ True) (by kernel_rfl) ⟨trivial, trivial⟩ ?_
   obtain ⟨hc1, h⟩ := need_elim h
   refine At.one rfl (One.append0 (e := 27) (es := 3) (m := p0.length) (get := fun i => encTime (p0.getD i default)) rfl rfl rfl rfl (by kernel_rfl) (.of 27 24 [.d (u6 0), .d (u6 0), .d (u6 0)] (by kernel_rfl) (by kernel_rfl) (by kernel_rfl) (by kernel_rfl) rfl (by kernel_rfl) rfl) rfl rfl (.list rfl (fun _ _ => rfl)) hc1) ?_
   refine At.seg 1 [2] [7] (s' := ⟨[(2, .c (oC 7 3 p0))], [(7, vL 3 encTime p0)]⟩) (c := True ∧ True) (by kernel_rfl) ⟨trivial, trivial⟩ ?_
   refine At.done rfl ?_
   show Tri _ _ _ _
   refine Tri.keep [2] [7] (s' := ⟨[(2, .c (oC 7 3 p0))], [(7, vL 3 encTime p0)]⟩) (by kernel_rfl) ?_
   refine Tri.rename 7 6000 ⟨[(2, .c (oC 6000 3 p0))], [(6000, vL 3 encTime p0)]⟩ (by kernel_rfl) rfl rfl rfl ?_
   refine Tri.keep [2] [6000] (s' := ⟨[(2, .c (oC 6000 3 p0))], [(6000, vL 3 encTime p0)]⟩) (by kernel_rfl) ?_
   refine Tri.ret ?_
   cases h
   refine ⟨_, _, rfl, ⟨trivial, trivial⟩, rfl, rfl, ?_⟩
   exact SubS.out ⟨⟨rfl, rfl⟩, trivial⟩

set_option maxRecDepth 100000 in
theorem math_bits_Len64_ok {p0 : Int} {q : Int} (h : math_bits_Len64 p0 = some q) :
    Summ Try.prog 58 [cD (u6 p0)] [] (cD (i6 q)) [] := by
  refine Summ.intro Try.func58 rfl (by kernel_rfl) (by kernel_rfl) [] rfl ?_
  rintro ⟨P, w0, G0, V, LL, lk, N, φ0, fx⟩ rfl rfl rfl rfl
  unfold math_bits_Len64 at h
  refine Tri.seqS ?_
  refine Tri.reg ?_
  refine At.seg 1 [0, 2] [] (s' := ⟨[(0, cD (u6 p0)), (2, cD (i6 0))], []⟩) (c := True ∧ True) (by kernel_rfl) ⟨trivial, trivial⟩ ?_
  refine At.done rfl ?_
  show Tri _ _ _ _
  refine Tri.seqJ (fun (a1 : Int × Int) => ⟨[(0, cD (u6 a1.1)), (2, cD (i6 a1.2))], []⟩) h (fun a1 h => ?_) (fun j2 h => ?_)
  ·show Tri _ _ ⟨[(0, cD (u6 a1.1)), (2, cD (i6 a1.2))], []⟩ _
   refine Tri.seqJ (fun (a3 : Int × Int) => ⟨[(0, cD (u6 a3.1)), (2, cD (i6 a3.2))], []⟩) h (fun a3 h => ?_) (fun j4 h => ?_)
   ·show Tri _ _ ⟨[(0, cD (u6 a3.1)), (2, cD (i6 a3.2))], []⟩ _
    refine Tri.seqJ (fun (a5 : Int × Int) => ⟨[(0, cD (u6 a5.1)), (2, cD (i6 a5.2))], []⟩) h (fun a5 h => ?_) (fun j6 h => ?_)
    ·show Tri _ _ ⟨[(0, cD (u6 a5.1)), (2, cD (i6 a5.2))], []⟩ _
     refine Tri.seqS ?_
     refine Tri.reg ?_
     obtain ⟨hc7, h⟩ := need_elim h
     refine At.seg 7 [2] [] (s' := ⟨[(2, cD (i6 (IntKind.i64.wrap (a5.2 + (IntKind.i64.wrap (bt lit_256_1d3e63 (IntKind.u8.wrap a5.1)))))))], []⟩) (c := True ∧ True ∧ True ∧ ((0 : Int) ≤ (IntKind.u8.wrap a5.1) ∧ (IntKind.u8.wrap a5.1) < (lit_256_1d3e63.size : Int)) ∧ True ∧ True ∧ True ∧ True) (by kernel_rfl) ⟨trivial, trivial, trivial, hc7, trivial, trivial, trivial, trivial⟩ ?_
     refine At.done rfl ?_
     show Tri _ _ _ _
     refine Tri.keep [2] [] (s' := ⟨[(2, cD (i6 (IntKind.i64.wrap (a5.2 + (IntKind.i64.wrap (bt lit_256_1d3e63 (IntKind.u8.wrap a5.1)))))))], []⟩) (by kernel_rfl) ?_
     refine Tri.ret ?_
     cases h
     refine ⟨_, _, rfl, ⟨trivial, trivial⟩, rfl, rfl, ?_⟩
     intro k c h
     cases h
    ·refine Tri.seqS ?_
     refine Tri.reg ?_
     refine At.seg 2 [0, 2, 14] [] (s' := ⟨[(0, cD (u6 a3.1)), (2, cD (i6 a3.2)), (14, cD (.bool (decide (256 ≤ a3.1))))], []⟩) (c := True ∧ True ∧ True) (by kernel_rfl) ⟨trivial, trivial, trivial⟩ ?_
     refine At.done rfl ?_
     show Tri _ _ _ _
     refine Tri.condP (b := (decide (256 ≤ a3.1))) rfl h (fun h => ?_) (fun h => ?_)
     ·refine Tri.seqS ?_
      refine Tri.reg ?_
      refine At.seg 3 [0, 2] [] (s' := ⟨[(0, cD (u6 (shrOp .u64 a3.1 8))), (2, cD (i6 a3.2))], []⟩) (c := True ∧ ((0 : Int) ≤ 8) ∧ True ∧ True) (by kernel_rfl) ⟨trivial, (by decide : (0 : Int) ≤ 8), trivial, trivial⟩ ?_
      refine At.done rfl ?_
      show Tri _ _ _ _
      refine Tri.reg ?_
      refine At.seg 3 [0, 2] [] (s' := ⟨[(0, cD (u6 (shrOp .u64 a3.1 8))), (2, cD (i6 (IntKind.i64.wrap (a3.2 + 8))))], []⟩) (c := True ∧ True ∧ True ∧ True) (by kernel_rfl) ⟨trivial, trivial, trivial, trivial⟩ ?_
      refine At.done rfl ?_
      exact ⟨_, h, rfl⟩
     ·refine Tri.keep [0, 2] [] (s' := ⟨[(0, cD (u6 a3.1)), (2, cD (i6 a3.2))], []⟩) (by kernel_rfl) ?_
      refine Tri.skip ?_
      exact ⟨_, h, rfl⟩
   ·refine Tri.seqS ?_
    refine Tri.reg ?_
    refine At.seg 2 [0, 2, 8] [] (s' := ⟨[(0, cD (u6 a1.1)), (2, cD (i6 a1.2)), (8, cD (.bool (decide (65536 ≤ a1.1))))], []⟩) (c := True ∧ True ∧ True) (by kernel_rfl) ⟨trivial, trivial, trivial⟩ ?_
    refine At.done rfl ?_
    show Tri _ _ _ _
    refine Tri.condP (b := (decide (65536 ≤ a1.1))) rfl h (fun h => ?_) (fun h => ?_)
    ·refine Tri.seqS ?_
     refine Tri.reg ?_
     refine At.seg 3 [0, 2] [] (s' := ⟨[(0, cD (u6 (shrOp .u64 a1.1 16))), (2, cD (i6 a1.2))], []⟩) (c := True ∧ ((0 : Int) ≤ 16) ∧ True ∧ True) (by kernel_rfl) ⟨trivial, (by decide : (0 : Int) ≤ 16), trivial, trivial⟩ ?_
     refine At.done rfl ?_
     show Tri _ _ _ _
     refine Tri.reg ?_
     refine At.seg 3 [0, 2] [] (s' := ⟨[(0, cD (u6 (shrOp .u64 a1.1 16))), (2, cD (i6 (IntKind.i64.wrap (a1.2 + 16))))], []⟩) (c := True ∧ True ∧ True ∧ True) (by kernel_rfl) ⟨trivial, trivial, trivial, trivial⟩ ?_
     refine At.done rfl ?_
     exact ⟨_, h, rfl⟩
    ·refine Tri.keep [0, 2] [] (s' := ⟨[(0, cD (u6 a1.1)), (2, cD (i6 a1.2))], []⟩) (by kernel_rfl) ?_
     refine Tri.skip ?_
     exact ⟨_, h, rfl⟩
  ·refine Tri.seqS ?_
   refine Tri.reg ?_
   refine At.seg 2 [0, 2, 4] [] (s' := ⟨[(0, cD (u6 p0)), (2, cD (i6 0)), (4, cD (.bool (decide (4294967296 ≤ p0))))], []⟩) (c := True ∧ True ∧ True) (by kernel_rfl) ⟨trivial, trivial, trivial⟩ ?_
   refine At.done rfl ?_
   show Tri _ _ _ _
   refine Tri.condP (b := (decide (4294967296 ≤ p0))) rfl h (fun h => ?_) (fun h => ?_)
   ·refine Tri.seqS ?_
    refine Tri.reg ?_
    refine At.seg 3 [0] [] (s' := ⟨[(0, cD (u6 (shrOp .u64 p0 32)))], []⟩) (c := True ∧ ((0 : Int) ≤ 32) ∧ True ∧ True) (by kernel_rfl) ⟨trivial, (by decide : (0 : Int) ≤ 32), trivial, trivial⟩ ?_
    refine At.done rfl ?_
    show Tri _ _ _ _
    refine Tri.reg ?_
    refine At.seg 1 [0, 2] [] (s' := ⟨[(0, cD (u6 (shrOp .u64 p0 32))), (2, cD (i6 32))], []⟩) (c := True ∧ True) (by kernel_rfl) ⟨trivial, trivial⟩ ?_
    refine At.done rfl ?_
    exact ⟨_, h, rfl⟩
   ·refine Tri.keep [0, 2] [] (s' := ⟨[(0, cD (u6 p0)), (2, cD (i6 0))], []⟩) (by kernel_rfl) ?_
    refine Tri.skip ?_
    exact ⟨_, h, rfl⟩

set_option maxRecDepth 100000 in
theorem math_bits_Len_ok {p0 : Int} {q : Int} (h : math_bits_Len p0 = some q) :
    Summ Try.prog 47 [cD (u6 p0)] [] (cD (i6 q)) [] := by
  refine Summ.intro Try.func47 rfl (by kernel_rfl) (by kernel_rfl) [] rfl ?_
  rintro ⟨P, w0, G0, V, LL, lk, N, φ0, fx⟩ rfl rfl rfl rfl
  unfold math_bits_Len at h
  refine Tri.seqS ?_
  refine Tri.reg ?_
  refine At.seg 1 [0] [] (s' := ⟨[(0, cD (u6 p0))], []⟩) (c := True ∧ True) (by kernel_rfl) ⟨trivial, trivial⟩ ?_
  refine At.done rfl ?_
  show Tri _ _ _ _
  refine Tri.seqS ?_
  refine Tri.cond (b := false) rfl (fun e => by cases e) (fun _ => ?_)
  refine Tri.skip ?_
  show Tri _ _ _ _
  refine Tri.seqS ?_
  refine Tri.reg ?_
  refine At.seg 1 [6] [] (s' := ⟨[(6, cD (u6 p0))], []⟩) (c := True ∧ True) (by kernel_rfl) ⟨trivial, trivial⟩ ?_
  obtain ⟨r1, hr1, h⟩ := bind_elim h
  refine At.callA (caps := []) (xs := [cD (u6 p0)]) (math_bits_Len64_ok hr1) rfl rfl rfl rfl rfl rfl (.cons (.refl _) .nil) rfl rfl ?_
  refine At.seg 1 [2] [] (s' := ⟨[(2, cD (i6 r1))], []⟩) (c := True ∧ True) (by kernel_rfl) ⟨trivial, trivial⟩ ?_
  refine At.done rfl ?_
  show Tri _ _ _ _
  refine Tri.keep [2] [] (s' := ⟨[(2, cD (i6 r1))], []⟩) (by kernel_rfl) ?_
  refine Tri.ret ?_
  cases h
  refine ⟨_, _, rfl, ⟨trivial, trivial⟩, rfl, rfl, ?_⟩
  intro k c h
  cases h

set_option maxRecDepth 100000 in
theorem cmp_isNaN_uint64_ok {p0 : Int} {q : Bool} (h : cmp_isNaN_uint64 p0 = some q) :
    Summ Try.prog 45 [cD (u6 p0)] [] (cD (.bool q)) [] := by
  refine Summ.intro Try.func45 rfl (by kernel_rfl) (by kernel_rfl) [] rfl ?_
  rintro ⟨P, w0, G0, V, LL, lk, N, φ0, fx⟩ rfl rfl rfl rfl
  unfold cmp_isNaN_uint64 at h
  refine Tri.seqS ?_
  refine Tri.reg ?_
  refine At.seg 1 [0] [] (s' := ⟨[(0, cD (u6 p0))], []⟩) (c := True ∧ True) (by kernel_rfl) ⟨trivial, trivial⟩ ?_
  refine At.done rfl ?_
  show Tri _ _ _ _
  refine Tri.seqS ?_
  refine Tri.reg ?_
  refine At.seg 4 [2] [] (s' := ⟨[(2, cD (.bool (!decide (p0 = p0))))], []⟩) (c := True ∧ True ∧ True ∧ True ∧ True) (by kernel_rfl) ⟨trivial, trivial, trivial, trivial, trivial⟩ ?_
  refine At.done rfl ?_
  show Tri _ _ _ _
  refine Tri.keep [2] [] (s' := ⟨[(2, cD (.bool (!decide (p0 = p0))))], []⟩) (by kernel_rfl) ?_
  refine Tri.ret ?_
  cases h
  refine ⟨_, _, rfl, ⟨trivial, trivial⟩, rfl, rfl, ?_⟩
  intro k c h
  cases h

set_option maxRecDepth 100000 in
theorem cmp_Compare_uint64_ok {p0 : Int} {p1 : Int} {q : Int} (h : cmp_Compare_uint64 p0 p1 = some q) :
    Summ Try.prog 37 [cD (u6 p0), cD (u6 p1)] [] (cD (i6 q)) [] := by
  refine Summ.intro Try.func37 rfl (by kernel_rfl) (by kernel_rfl) [] rfl ?_
  rintro ⟨P, w0, G0, V, LL, lk, N, φ0, fx⟩ rfl rfl rfl rfl
  unfold cmp_Compare_uint64 at h
  refine Tri.seqS ?_
  refine Tri.reg ?_
  refine At.seg 1 [0, 1] [] (s' := ⟨[(0, cD (u6 p0)), (1, cD (u6 p1))], []⟩) (c := True ∧ True) (by kernel_rfl) ⟨trivial, trivial⟩ ?_
  refine At.done rfl ?_
  show Tri _ _ _ _
  refine Tri.seqS ?_
  refine Tri.reg ?_
  refine At.seg 1 [0, 1, 7] [] (s' := ⟨[(0, cD (u6 p0)), (1, cD (u6 p1)), (7, cD (u6 p0))], []⟩) (c := True ∧ True) (by kernel_rfl) ⟨trivial, trivial⟩ ?_
  obtain ⟨r1, hr1, h⟩ := bind_elim h
  refine At.callA (caps := []) (xs := [cD (u6 p0)]) (cmp_isNaN_uint64_ok hr1) rfl rfl rfl rfl rfl rfl (.cons (.refl _) .nil) rfl rfl ?_
  refine At.seg 1 [0, 1, 5] [] (s' := ⟨[(0, cD (u6 p0)), (1, cD (u6 p1)), (5, cD (.bool r1))], []⟩) (c := True ∧ True) (by kernel_rfl) ⟨trivial, trivial⟩ ?_
  refine At.done rfl ?_
  show Tri _ _ _ _
  refine Tri.seqS ?_
  refine Tri.reg ?_
  refine At.seg 1 [0, 1, 5, 9] [] (s' := ⟨[(0, cD (u6 p0)), (1, cD (u6 p1)), (5, cD (.bool r1)), (9, cD (u6 p1))], []⟩) (c := True ∧ True) (by kernel_rfl) ⟨trivial, trivial⟩ ?_
  obtain ⟨r2, hr2, h⟩ := bind_elim h
  refine At.callA (caps := []) (xs := [cD (u6 p1)]) (cmp_isNaN_uint64_ok hr2) rfl rfl rfl rfl rfl rfl (.cons (.refl _) .nil) rfl rfl ?_
  refine At.seg 1 [0, 1, 5, 6] [] (s' := ⟨[(0, cD (u6 p0)), (1, cD (u6 p1)), (5, cD (.bool r1)), (6, cD (.bool r2))], []⟩) (c := True ∧ True) (by kernel_rfl) ⟨trivial, trivial⟩ ?_
  refine At.done rfl ?_
  show Tri _ _ _ _
  refine Tri.seqS ?_
  refine Tri.seqS ?_
  refine Tri.reg ?_
  refine At.seg 1 [0, 1, 6, 11] [] (s' := ⟨[(0, cD (u6 p0)), (1, cD (u6 p1)), (6, cD (.bool r2)), (11, cD (.bool r1))], []⟩) (c := True ∧ True) (by kernel_rfl) ⟨trivial, trivial⟩ ?_
  refine At.done rfl ?_
  show Tri _ _ _ _
  refine Tri.condP (b := r1) rfl h (fun h => ?_) (fun h => ?_)
  ·refine Tri.seqS ?_
   refine Tri.seqS ?_
   refine Tri.reg ?_
   refine At.seg 1 [12] [] (s' := ⟨[(12, cD (.bool r2))], []⟩) (c := True ∧ True) (by kernel_rfl) ⟨trivial, trivial⟩ ?_
   refine At.done rfl ?_
   show Tri _ _ _ _
   refine Tri.condP (b := r2) rfl h (fun h => ?_) (fun h => ?_)
   ·refine Tri.seqS ?_
    refine Tri.reg ?_
    refine At.seg 1 [4] [] (s' := ⟨[(4, cD (i6 0))], []⟩) (c := True ∧ True) (by kernel_rfl) ⟨trivial, trivial⟩ ?_
    refine At.done rfl ?_
    show Tri _ _ _ _
    refine Tri.keep [4] [] (s' := ⟨[(4, cD (i6 0))], []⟩) (by kernel_rfl) ?_
    refine Tri.ret ?_
    cases h
    refine ⟨_, _, rfl, ⟨trivial, trivial⟩, rfl, rfl, ?_⟩
    intro k c h
    cases h
   ·refine Tri.skip ?_
    show Tri _ _ _ _
    refine Tri.seqS ?_
    refine Tri.reg ?_
    refine At.seg 1 [4] [] (s' := ⟨[(4, cD (i6 (-1)))], []⟩) (c := True ∧ True) (by kernel_rfl) ⟨trivial, trivial⟩ ?_
    refine At.done rfl ?_
    show Tri _ _ _ _
    refine Tri.keep [4] [] (s' := ⟨[(4, cD (i6 (-1)))], []⟩) (by kernel_rfl) ?_
    refine Tri.ret ?_
    cases h
    refine ⟨_, _, rfl, ⟨trivial, trivial⟩, rfl, rfl, ?_⟩
    intro k c h
    cases h
  ·refine Tri.skip ?_
   show Tri _ _ _ _
   refine Tri.seqS ?_
   refine Tri.seqS ?_
   refine Tri.reg ?_
   refine At.seg 1 [0, 1, 13] [] (s' := ⟨[(0, cD (u6 p0)), (1, cD (u6 p1)), (13, cD (.bool r2))], []⟩) (c := True ∧ True) (by kernel_rfl) ⟨trivial, trivial⟩ ?_
   refine At.done rfl ?_
   show Tri _ _ _ _
   refine Tri.condP (b := r2) rfl h (fun h => ?_) (fun h => ?_)
   ·refine Tri.seqS ?_
    refine Tri.reg ?_
    refine At.seg 1 [4] [] (s' := ⟨[(4, cD (i6 1))], []⟩) (c := True ∧ True) (by kernel_rfl) ⟨trivial, trivial⟩ ?_
    refine At.done rfl ?_
    show Tri _ _ _ _
    refine Tri.keep [4] [] (s' := ⟨[(4, cD (i6 1))], []⟩) (by kernel_rfl) ?_
    refine Tri.ret ?_
    cases h
    refine ⟨_, _, rfl, ⟨trivial, trivial⟩, rfl, rfl, ?_⟩
    intro k c h
    cases h
   ·refine Tri.skip ?_
    show Tri _ _ _ _
    refine Tri.seqS ?_
    refine Tri.seqS ?_
    refine Tri.reg ?_
    refine At.seg 3 [0, 1, 16] [] (s' := ⟨[(0, cD (u6 p0)), (1, cD (u6 p1)), (16, cD (.bool (decide (p0 < p1))))], []⟩) (c := True ∧ True ∧ True ∧ True) (by kernel_rfl) ⟨trivial, trivial, trivial, trivial⟩ ?_
    refine At.done rfl ?_
    show Tri _ _ _ _
    refine Tri.condP (b := (decide (p0 < p1))) rfl h (fun h => ?_) (fun h => ?_)
    ·refine Tri.seqS ?_
     refine Tri.reg ?_
     refine At.seg 1 [4] [] (s' := ⟨[(4, cD (i6 (-1)))], []⟩) (c := True ∧ True) (by kernel_rfl) ⟨trivial, trivial⟩ ?_
     refine At.done rfl ?_
     show Tri _ _ _ _
     refine Tri.keep [4] [] (s' := ⟨[(4, cD (i6 (-1)))], []⟩) (by kernel_rfl) ?_
     refine Tri.ret ?_
     cases h
     refine ⟨_, _, rfl, ⟨trivial, trivial⟩, rfl, rfl, ?_⟩
     intro k c h
     cases h
    ·refine Tri.skip ?_
     show Tri _ _ _ _
     refine Tri.seqS ?_
     refine Tri.seqS ?_
     refine Tri.reg ?_
     refine At.seg 3 [19] [] (s' := ⟨[(19, cD (.bool (decide (p1 < p0))))], []⟩) (c := True ∧ True ∧ True ∧ True) (by kernel_rfl) ⟨trivial, trivial, trivial, trivial⟩ ?_
     refine At.done rfl ?_
     show Tri _ _ _ _
     refine Tri.condP (b := (decide (p1 < p0))) rfl h (fun h => ?_) (fun h => ?_)
     ·refine Tri.seqS ?_
      refine Tri.reg ?_
      refine At.seg 1 [4] [] (s' := ⟨[(4, cD (i6 1))], []⟩) (c := True ∧ True) (by kernel_rfl) ⟨trivial, trivial⟩ ?_
      refine At.done rfl ?_
      show Tri _ _ _ _
      refine Tri.keep [4] [] (s' := ⟨[(4, cD (i6 1))], []⟩) (by kernel_rfl) ?_
      refine Tri.ret ?_
      cases h
      refine ⟨_, _, rfl, ⟨trivial, trivial⟩, rfl, rfl, ?_⟩
      intro k c h
      cases h
     ·refine Tri.skip ?_
      show Tri _ _ _ _
      refine Tri.seqS ?_
      refine Tri.reg ?_
      refine At.seg 1 [4] [] (s' := ⟨[(4, cD (i6 0))], []⟩) (c := True ∧ True) (by kernel_rfl) ⟨trivial, trivial⟩ ?_
      refine At.done rfl ?_
      show Tri _ _ _ _
      refine Tri.keep [4] [] (s' := ⟨[(4, cD (i6 0))], []⟩) (by kernel_rfl) ?_
      refine Tri.ret ?_
      cases h
      refine ⟨_, _, rfl, ⟨trivial, trivial⟩, rfl, rfl, ?_⟩
      intro k c h
      cases h

set_option maxRecDepth 100000 in
theorem slices_Compareuint64_uint64_uint64_ok_v0v1 {p0 : List Int} {p1 : List Int} {q : Int} (h : slices_Compareuint64_uint64_uint64 p0 p1 = some q) :
    Summ Try.prog 39 [.c (wC 1 (encInt .u64) p0), .c (wC 1 (encInt .u64) p1)] [] (cD (i6 q)) [] := by
  refine Summ.intro Try.func39 rfl (by kernel_rfl) (by kernel_rfl) [] rfl ?_
  rintro ⟨P, w0, G0, V, LL, lk, N, φ0, fx⟩ rfl rfl rfl rfl
  unfold slices_Compareuint64_uint64_uint64 at h
  refine Tri.seqS ?_
  refine Tri.reg ?_
  refine At.seg 1 [0, 1] [] (s' := ⟨[(0, .c (wC 1 (encInt .u64) p0)), (1, .c (wC 1 (encInt .u64) p1))], []⟩) (c := True ∧ True) (by kernel_rfl) ⟨trivial, trivial⟩ ?_
  refine At.done rfl ?_
  show Tri _ _ _ _
  refine Tri.seqS ?_
  refine Tri.seqS ?_
  refine Tri.reg ?_
  refine At.seg 3 [0, 1, 9, 10, 11] [] (s' := ⟨[(0, .c (wC 1 (encInt .u64) p0)), (1, .c (wC 1 (encInt .u64) p1)), (9, .c (wC 1 (encInt .u64) p0)), (10, cD (i6 (p0.length : Int))), (11, cD (i6 0))], []⟩) (c := True ∧ True ∧ True ∧ True) (by kernel_rfl) ⟨trivial, trivial, trivial, trivial⟩ ?_
  refine At.done rfl ?_
  show Tri _ _ _ _
  refine Tri.lenOfV (t := 9) rfl fun hlena2 => ?_
  refine Tri.keep [11, 0, 1, 9, 10] [] (s' := idx 11 0 ⟨[(0, .c (wC 1 (encInt .u64) p0)), (1, .c (wC 1 (encInt .u64) p1)), (9, .c (wC 1 (encInt .u64) p0)), (10, cD (i6 (p0.length : Int)))], []⟩) (by kernel_rfl) ?_
  refine Tri.range (n := p0.length) (st0 := ()) (fun (x : Int) s => RetAt Try.prog Try.f39 (cD (i6 x)) [] s) (fun (a2 : Unit) => ⟨[(0, .c (wC 1 (encInt .u64) p0)), (1, .c (wC 1 (encInt .u64) p1)), (9, .c (wC 1 (encInt .u64) p0)), (10, cD (i6 (p0.length : Int)))], []⟩) (fun (a2 : Unit) => ⟨[(0, .c (wC 1 (encInt .u64) p0)), (1, .c (wC 1 (encInt .u64) p1)), (9, .c (wC 1 (encInt .u64) p0)), (10, cD (i6 (p0.length : Int)))], []⟩) (fun i => decide ((i : Int) < (p0.length : Int))) [12, 11, 0, 1, 9, 10] [] [0, 1, 9, 10] [] [11, 0, 1, 9, 10] [] h hlena2 rfl ?_ ?_ ?_ ?_ ?_ ?_ ?_ ?_
  · exact fun i a => ⟨True ∧ True, by kernel_rfl, ⟨trivial, trivial⟩⟩
  · exact fun i hi => decide_eq_true (by omega)
  · exact decide_eq_false (by omega)
  · exact fun a => by kernel_rfl
  · exact fun i a => ⟨True ∧ True ∧ True, by kernel_rfl, ⟨trivial, trivial, trivial⟩⟩
  ·intro i1 a2 c hii1 h
   refine Tri.seqS ?_
   refine Tri.reg ?_
   refine At.seg 5 [0, 1, 5, 6, 9, 10, 11] [] (s' := ⟨[(0, .c (wC 1 (encInt .u64) p0)), (1, .c (wC 1 (encInt .u64) p1)), (5, cD (i6 ((i1 : Nat) : Int))), (6, cD (u6 (p0.getD i1 default))), (9, .c (wC 1 (encInt .u64) p0)), (10, cD (i6 (p0.length : Int))), (11, cD (i6 ((i1 : Nat) : Int)))], []⟩) (c := True ∧ ((0 : Int) ≤ ((i1 : Nat) : Int) ∧ ((i1 : Nat) : Int) < (p0.length : Int)) ∧ True ∧ True ∧ True ∧ True) (by kernel_rfl) ⟨trivial, ⟨by omega, by omega⟩, trivial, trivial, trivial, trivial⟩ ?_
   refine At.done rfl ?_
   show Tri _ _ _ _
   refine Tri.seqS ?_
   refine Tri.seqS ?_
   refine Tri.reg ?_
   refine At.seg 4 [0, 1, 5, 6, 9, 10, 11, 19] [] (s' := ⟨[(0, .c (wC 1 (encInt .u64) p0)), (1, .c (wC 1 (encInt .u64) p1)), (5, cD (i6 ((i1 : Nat) : Int))), (6, cD (u6 (p0.getD i1 default))), (9, .c (wC 1 (encInt .u64) p0)), (10, cD (i6 (p0.length : Int))), (11, cD (i6 ((i1 : Nat) : Int))), (19, cD (.bool (decide ((p1.length : Int) ≤ ((i1 : Nat) : Int)))))], []⟩) (c := True ∧ True ∧ True ∧ True ∧ True) (by kernel_rfl) ⟨trivial, trivial, trivial, trivial, trivial⟩ ?_
   refine At.done rfl ?_
   show Tri _ _ _ _
   refine Tri.condP (b := (decide ((p1.length : Int) ≤ ((i1 : Nat) : Int)))) rfl h (fun h => ?_) (fun h => ?_)
   ·refine Tri.seqS ?_
    refine Tri.reg ?_
    refine At.seg 1 [4] [] (s' := ⟨[(4, cD (i6 1))], []⟩) (c := True ∧ True) (by kernel_rfl) ⟨trivial, trivial⟩ ?_
    refine At.done rfl ?_
    show Tri _ _ _ _
    refine Tri.keep [4] [] (s' := ⟨[(4, cD (i6 1))], []⟩) (by kernel_rfl) ?_
    refine Tri.ret ?_
    cases h
    refine ⟨_, _, rfl, ⟨trivial, trivial⟩, rfl, rfl, ?_⟩
    intro k c h
    cases h
   ·refine Tri.skip ?_
    show Tri _ _ _ _
    refine Tri.seqS ?_
    refine Tri.reg ?_
    obtain ⟨hc4, h⟩ := need_elim h
    refine At.seg 5 [0, 1, 6, 7, 9, 10, 11] [] (s' := ⟨[(0, .c (wC 1 (encInt .u64) p0)), (1, .c (wC 1 (encInt .u64) p1)), (6, cD (u6 (p0.getD i1 default))), (7, cD (u6 (p1.getD i1 default))), (9, .c (wC 1 (encInt .u64) p0)), (10, cD (i6 (p0.length : Int))), (11, cD (i6 ((i1 : Nat) : Int)))], []⟩) (c := True ∧ True ∧ ((0 : Int) ≤ ((i1 : Nat) : Int) ∧ ((i1 : Nat) : Int) < (p1.length : Int)) ∧ True ∧ True ∧ True) (by kernel_rfl) ⟨trivial, trivial, hc4, trivial, trivial, trivial⟩ ?_
    refine At.done rfl ?_
    show Tri _ _ _ _
    refine Tri.seqS ?_
    refine Tri.reg ?_
    refine At.seg 2 [0, 1, 9, 10, 11, 24, 25] [] (s' := ⟨[(0, .c (wC 1 (encInt .u64) p0)), (1, .c (wC 1 (encInt .u64) p1)), (9, .c (wC 1 (encInt .u64) p0)), (10, cD (i6 (p0.length : Int))), (11, cD (i6 ((i1 : Nat) : Int))), (24, cD (u6 (p0.getD i1 default))), (25, cD (u6 (p1.getD i1 default)))], []⟩) (c := True ∧ True ∧ True) (by kernel_rfl) ⟨trivial, trivial, trivial⟩ ?_
    obtain ⟨r5, hr5, h⟩ := bind_elim h
    refine At.callA (caps := []) (xs := [cD (u6 (p0.getD i1 default)), cD (u6 (p1.getD i1 default))]) (cmp_Compare_uint64_ok hr5) rfl rfl rfl rfl rfl rfl (.cons (.refl _) (.cons (.refl _) .nil)) rfl rfl ?_
    refine At.seg 1 [0, 1, 8, 9, 10, 11] [] (s' := ⟨[(0, .c (wC 1 (encInt .u64) p0)), (1, .c (wC 1 (encInt .u64) p1)), (8, cD (i6 r5)), (9, .c (wC 1 (encInt .u64) p0)), (10, cD (i6 (p0.length : Int))), (11, cD (i6 ((i1 : Nat) : Int)))], []⟩) (c := True ∧ True) (by kernel_rfl) ⟨trivial, trivial⟩ ?_
    refine At.done rfl ?_
    show Tri _ _ _ _
    refine Tri.seqS ?_
    refine Tri.reg ?_
    refine At.seg 2 [0, 1, 8, 9, 10, 11, 28] [] (s' := ⟨[(0, .c (wC 1 (encInt .u64) p0)), (1, .c (wC 1 (encInt .u64) p1)), (8, cD (i6 r5)), (9, .c (wC 1 (encInt .u64) p0)), (10, cD (i6 (p0.length : Int))), (11, cD (i6 ((i1 : Nat) : Int))), (28, cD (.bool (!decide (r5 = 0))))], []⟩) (c := True ∧ True ∧ True) (by kernel_rfl) ⟨trivial, trivial, trivial⟩ ?_
    refine At.done rfl ?_
    show Tri _ _ _ _
    refine Tri.condP (b := (!decide (r5 = 0))) rfl h (fun h => ?_) (fun h => ?_)
    ·refine Tri.seqS ?_
     refine Tri.reg ?_
     refine At.seg 2 [4] [] (s' := ⟨[(4, cD (i6 r5))], []⟩) (c := True ∧ True ∧ True) (by kernel_rfl) ⟨trivial, trivial, trivial⟩ ?_
     refine At.done rfl ?_
     show Tri _ _ _ _
     refine Tri.keep [4] [] (s' := ⟨[(4, cD (i6 r5))], []⟩) (by kernel_rfl) ?_
     refine Tri.ret ?_
     cases h
     refine ⟨_, _, rfl, ⟨trivial, trivial⟩, rfl, rfl, ?_⟩
     intro k c h
     cases h
    ·refine Tri.keep [11, 0, 1, 9, 10] [] (s' := ⟨[(11, cD (i6 ((i1 : Nat) : Int))), (0, .c (wC 1 (encInt .u64) p0)), (1, .c (wC 1 (encInt .u64) p1)), (9, .c (wC 1 (encInt .u64) p0)), (10, cD (i6 (p0.length : Int)))], []⟩) (by kernel_rfl) ?_
     refine Tri.skip ?_
     cases h
     exact rfl
  ·intro a3 h
   show Tri _ _ _ _
   refine Tri.seqS ?_
   refine Tri.seqS ?_
   refine Tri.reg ?_
   refine At.seg 5 [35] [] (s' := ⟨[(35, cD (.bool (decide ((p0.length : Int) < (p1.length : Int)))))], []⟩) (c := True ∧ True ∧ True ∧ True ∧ True ∧ True) (by kernel_rfl) ⟨trivial, trivial, trivial, trivial, trivial, trivial⟩ ?_
   refine At.done rfl ?_
   show Tri _ _ _ _
   refine Tri.condP (b := (decide ((p0.length : Int) < (p1.length : Int)))) rfl h (fun h => ?_) (fun h => ?_)
   ·refine Tri.seqS ?_
    refine Tri.reg ?_
    refine At.seg 1 [4] [] (s' := ⟨[(4, cD (i6 (-1)))], []⟩) (c := True ∧ True) (by kernel_rfl) ⟨trivial, trivial⟩ ?_
    refine At.done rfl ?_
    show Tri _ _ _ _
    refine Tri.keep [4] [] (s' := ⟨[(4, cD (i6 (-1)))], []⟩) (by kernel_rfl) ?_
    refine Tri.ret ?_
    cases h
    refine ⟨_, _, rfl, ⟨trivial, trivial⟩, rfl, rfl, ?_⟩
    intro k c h
    cases h
   ·refine Tri.skip ?_
    show Tri _ _ _ _
    refine Tri.seqS ?_
    refine Tri.reg ?_
    refine At.seg 1 [4] [] (s' := ⟨[(4, cD (i6 0))], []⟩) (c := True ∧ True) (by kernel_rfl) ⟨trivial, trivial⟩ ?_
    refine At.done rfl ?_
    show Tri _ _ _ _
    refine Tri.keep [4] [] (s' := ⟨[(4, cD (i6 0))], []⟩) (by kernel_rfl) ?_
    refine Tri.ret ?_
    cases h
    refine ⟨_, _, rfl, ⟨trivial, trivial⟩, rfl, rfl, ?_⟩
    intro k c h
    cases h
  · exact fun x s hx hr => by cases hx; exact hr

set_option maxRecDepth 100000 in
theorem cmp_Or_int_ok_v0 {p0 : List Int} {q : Int} (h : cmp_Or_int p0 = some q) :
    Summ Try.prog 38 [.c (wC 1 (encInt .i64) p0)] [] (cD (i6 q)) [] := by
  refine Summ.intro Try.func38 rfl (by kernel_rfl) (by kernel_rfl) [] rfl ?_
  rintro ⟨P, w0, G0, V, LL, lk, N, φ0, fx⟩ rfl rfl rfl rfl
  unfold cmp_Or_int at h
  refine Tri.seqS ?_
  refine Tri.reg ?_
  refine At.seg 1 [0] [] (s' := ⟨[(0, .c (wC 1 (encInt .i64) p0))], []⟩) (c := True ∧ True) (by kernel_rfl) ⟨trivial, trivial⟩ ?_
  refine At.done rfl ?_
  show Tri _ _ _ _
  refine Tri.seqS ?_
  refine Tri.reg ?_
  refine At.seg 1 [0, 3] [] (s' := ⟨[(0, .c (wC 1 (encInt .i64) p0)), (3, cD (i6 0))], []⟩) (c := True ∧ True) (by kernel_rfl) ⟨trivial, trivial⟩ ?_
  refine At.done rfl ?_
  show Tri _ _ _ _
  refine Tri.seqS ?_
  refine Tri.seqS ?_
  refine Tri.reg ?_
  refine At.seg 3 [3, 6, 7, 8] [] (s' := ⟨[(3, cD (i6 0)), (6, .c (wC 1 (encInt .i64) p0)), (7, cD (i6 (p0.length : Int))), (8, cD (i6 0))], []⟩) (c := True ∧ True ∧ True ∧ True) (by kernel_rfl) ⟨trivial, trivial, trivial, trivial⟩ ?_
  refine At.done rfl ?_
  show Tri _ _ _ _
  refine Tri.lenOfV (t := 6) rfl fun hlena2 => ?_
  refine Tri.keep [8, 3, 6, 7] [] (s' := idx 8 0 ⟨[(3, cD (i6 0)), (6, .c (wC 1 (encInt .i64) p0)), (7, cD (i6 (p0.length : Int)))], []⟩) (by kernel_rfl) ?_
  refine Tri.range (n := p0.length) (st0 := ()) (fun (x : Int) s => RetAt Try.prog Try.f38 (cD (i6 x)) [] s) (fun (a2 : Unit) => ⟨[(3, cD (i6 0)), (6, .c (wC 1 (encInt .i64) p0)), (7, cD (i6 (p0.length : Int)))], []⟩) (fun (a2 : Unit) => ⟨[(3, cD (i6 0)), (6, .c (wC 1 (encInt .i64) p0)), (7, cD (i6 (p0.length : Int)))], []⟩) (fun i => decide ((i : Int) < (p0.length : Int))) [9, 8, 3, 6, 7] [] [3, 6, 7] [] [8, 3, 6, 7] [] h hlena2 rfl ?_ ?_ ?_ ?_ ?_ ?_ ?_ ?_
  · exact fun i a => ⟨True ∧ True, by kernel_rfl, ⟨trivial, trivial⟩⟩
  · exact fun i hi => decide_eq_true (by omega)
  · exact decide_eq_false (by omega)
  · exact fun a => by kernel_rfl
  · exact fun i a => ⟨True ∧ True ∧ True, by kernel_rfl, ⟨trivial, trivial, trivial⟩⟩
  ·intro i1 a2 c hii1 h
   refine Tri.seqS ?_
   refine Tri.reg ?_
   refine At.seg 3 [3, 5, 6, 7, 8] [] (s' := ⟨[(3, cD (i6 0)), (5, cD (i6 (p0.getD i1 default))), (6, .c (wC 1 (encInt .i64) p0)), (7, cD (i6 (p0.length : Int))), (8, cD (i6 ((i1 : Nat) : Int)))], []⟩) (c := ((0 : Int) ≤ ((i1 : Nat) : Int) ∧ ((i1 : Nat) : Int) < (p0.length : Int)) ∧ True ∧ True ∧ True) (by kernel_rfl) ⟨⟨by omega, by omega⟩, trivial, trivial, trivial⟩ ?_
   refine At.done rfl ?_
   show Tri _ _ _ _
   refine Tri.seqS ?_
   refine Tri.reg ?_
   refine At.seg 3 [3, 5, 6, 7, 8, 14] [] (s' := ⟨[(3, cD (i6 0)), (5, cD (i6 (p0.getD i1 default))), (6, .c (wC 1 (encInt .i64) p0)), (7, cD (i6 (p0.length : Int))), (8, cD (i6 ((i1 : Nat) : Int))), (14, cD (.bool (!decide ((p0.getD i1 default) = 0))))], []⟩) (c := True ∧ True ∧ True ∧ True) (by kernel_rfl) ⟨trivial, trivial, trivial, trivial⟩ ?_
   refine At.done rfl ?_
   show Tri _ _ _ _
   refine Tri.condP (b := (!decide ((p0.getD i1 default) = 0))) rfl h (fun h => ?_) (fun h => ?_)
   ·refine Tri.seqS ?_
    refine Tri.reg ?_
    refine At.seg 2 [2] [] (s' := ⟨[(2, cD (i6 (p0.getD i1 default)))], []⟩) (c := True ∧ True ∧ True) (by kernel_rfl) ⟨trivial, trivial, trivial⟩ ?_
    refine At.done rfl ?_
    show Tri _ _ _ _
    refine Tri.keep [2] [] (s' := ⟨[(2, cD (i6 (p0.getD i1 default)))], []⟩) (by kernel_rfl) ?_
    refine Tri.ret ?_
    cases h
    refine ⟨_, _, rfl, ⟨trivial, trivial⟩, rfl, rfl, ?_⟩
    intro k c h
    cases h
   ·refine Tri.keep [8, 3, 6, 7] [] (s' := ⟨[(8, cD (i6 ((i1 : Nat) : Int))), (3, cD (i6 0)), (6, .c (wC 1 (encInt .i64) p0)), (7, cD (i6 (p0.length : Int)))], []⟩) (by kernel_rfl) ?_
    refine Tri.skip ?_
    cases h
    exact rfl
  ·intro a3 h
   show Tri _ _ _ _
   refine Tri.seqS ?_
   refine Tri.reg ?_
   refine At.seg 2 [2] [] (s' := ⟨[(2, cD (i6 0))], []⟩) (c := True ∧ True ∧ True) (by kernel_rfl) ⟨trivial, trivial, trivial⟩ ?_
   refine At.done rfl ?_
   show Tri _ _ _ _
   refine Tri.keep [2] [] (s' := ⟨[(2, cD (i6 0))], []⟩) (by kernel_rfl) ?_
   refine Tri.ret ?_
   cases h
   refine ⟨_, _, rfl, ⟨trivial, trivial⟩, rfl, rfl, ?_⟩
   intro k c h
   cases h
  · exact fun x s hx hr => by cases hx; exact hr

set_option maxRecDepth 100000 in
theorem moment_Compare_ok {p0 : Time} {p1 : Time} {q : Int} (h : moment_Compare p0 p1 = some q) :
    Summ Try.prog 20 [.agg (cTime p0), .agg (cTime p1)] [] (cD (i6 q)) [] := by
  refine Summ.intro Try.func20 rfl (by kernel_rfl) (by kernel_rfl) [] rfl ?_
  rintro ⟨P, w0, G0, V, LL, lk, N, φ0, fx⟩ rfl rfl rfl rfl
  unfold moment_Compare at h
  refine Tri.seqS ?_
  refine Tri.reg ?_
  refine At.seg 3 [2, 3] [2, 3] (s' := ⟨[(2, .c (.ptr 2 0)), (3, .c (.ptr 3 0))], [(2, .box (cTime p0)), (3, .box (cTime p1))]⟩) (c := True ∧ True ∧ True ∧ True) (by kernel_rfl) ⟨trivial, trivial, trivial, trivial⟩ ?_
  refine At.done rfl ?_
  show Tri _ _ _ _
  refine Tri.seqS ?_
  refine Tri.seqS ?_
  refine Tri.reg ?_
  refine At.seg 4 [2, 3, 6, 8] [2, 3] (s' := ⟨[(2, .c (.ptr 2 0)), (3, .c (.ptr 3 0)), (6, .agg [.d (u6 p0.loop.1), .d (u6 p0.loop.2)]), (8, .agg [.d (u6 p1.loop.1), .d (u6 p1.loop.2)])], [(2, .box (cTime p0)), (3, .box (cTime p1))]⟩) (c := True ∧ True ∧ True ∧ True ∧ True) (by kernel_rfl) ⟨trivial, trivial, trivial, trivial, trivial⟩ ?_
  refine At.one rfl (One.eql (b := (decide (p0.loop.1 = p1.loop.1) && (decide (p0.loop.2 = p1.loop.2) && true))) (d := 9) rfl rfl rfl (.inl rfl) rfl rfl (by kernel_rfl) rfl (by kernel_rfl)) ?_
  refine At.done rfl ?_
  show Tri _ _ _ _
  refine Tri.condP (b := (decide (p0.loop.1 = p1.loop.1) && (decide (p0.loop.2 = p1.loop.2) && true))) rfl h (fun h => ?_) (fun h => ?_)
  ·refine Tri.seqS ?_
   refine Tri.reg ?_
   refine At.seg 4 [11, 13] [] (s' := ⟨[(11, cD (u6 p0.epoch)), (13, cD (u6 p1.epoch))], []⟩) (c := True ∧ True ∧ True ∧ True ∧ True) (by kernel_rfl) ⟨trivial, trivial, trivial, trivial, trivial⟩ ?_
   obtain ⟨r1, hr1, h⟩ := bind_elim h
   refine At.callA (caps := []) (xs := [cD (u6 p0.epoch), cD (u6 p1.epoch)]) (cmp_Compare_uint64_ok hr1) rfl rfl rfl rfl rfl rfl (.cons (.refl _) (.cons (.refl _) .nil)) rfl rfl ?_
   refine At.seg 1 [4] [] (s' := ⟨[(4, cD (i6 r1))], []⟩) (c := True ∧ True) (by kernel_rfl) ⟨trivial, trivial⟩ ?_
   refine At.done rfl ?_
   show Tri _ _ _ _
   refine Tri.keep [4] [] (s' := ⟨[(4, cD (i6 r1))], []⟩) (by kernel_rfl) ?_
   refine Tri.ret ?_
   cases h
   refine ⟨_, _, rfl, ⟨trivial, trivial⟩, rfl, rfl, ?_⟩
   intro k c h
   cases h
  ·refine Tri.skip ?_
   show Tri _ _ _ _
   refine Tri.seqS ?_
   obtain ⟨r2, hr2, h⟩ := bind_elim h
   obtain ⟨r3, hr3, h⟩ := bind_elim h
   obtain ⟨r4, hr4, h⟩ := bind_elim h
   refine Tri.drawn (specs := [⟨⟨[(2, .c (.ptr 2 0))], []⟩, ⟨[(15, .c (.ptr 2 0))], []⟩, [], [], []⟩, ⟨⟨[(15, .c (.ptr 2 0))], [(2, .box (cTime p0))]⟩, ⟨[(16, cD (u6 p0.epoch))], []⟩, [], [], []⟩, ⟨⟨[(3, .c (.ptr 3 0))], []⟩, ⟨[(17, .c (.ptr 3 0))], []⟩, [], [], []⟩, ⟨⟨[(17, .c (.ptr 3 0))], [(3, .box (cTime p1))]⟩, ⟨[(18, cD (u6 p1.epoch))], []⟩, [], [], []⟩, ⟨⟨[(16, cD (u6 p0.epoch)), (18, cD (u6 p1.epoch))], []⟩, ⟨[(19, cD (i6 r2))], []⟩, [], [], []⟩, ⟨⟨[(2, .c (.ptr 2 0))], []⟩, ⟨[(20, .c (.ptr 2 1))], []⟩, [], [], []⟩, ⟨⟨[(20, .c (.ptr 2 1))], [(2, .box (cTime p0))]⟩, ⟨[(21, .c (.bsl 2 1 1 2))], []⟩, [], [], []⟩, ⟨⟨[(3, .c (.ptr 3 0))], []⟩, ⟨[(22, .c (.ptr 3 1))], []⟩, [], [], []⟩, ⟨⟨[(22, .c (.ptr 3 1))], [(3, .box (cTime p1))]⟩, ⟨[(23, .c (.bsl 3 1 1 2))], []⟩, [], [], []⟩, ⟨⟨[(21, .c (.bsl 2 1 1 2)), (23, .c (.bsl 3 1 1 2))], [(2, .box (cTime p0)), (3, .box (cTime p1))]⟩, ⟨[(24, cD (i6 r3))], []⟩, [], [], []⟩, ⟨⟨[(19, cD (i6 r2)), (24, cD (i6 r3))], []⟩, ⟨[(25, .c (oC 25 1 ([r2, r3] : List Int)))], [(25, vL 1 (encInt .i64) ([r2, r3] : List Int))]⟩, [25], [], []⟩, ⟨⟨[(25, .c (oC 25 1 ([r2, r3] : List Int)))], [(25, vL 1 (encInt .i64) ([r2, r3] : List Int))]⟩, ⟨[(26, cD (i6 r4))], []⟩, [], [], []⟩, ⟨⟨[(26, cD (i6 r4))], []⟩, ⟨[(4, cD (i6 r4))], []⟩, [], [], []⟩]) (bef := [[], [0], [], [2], [0, 1, 2, 3], [], [5], [], [7], [0, 1, 2, 3, 4, 5, 6, 7, 8], [0, 1, 2, 3, 4, 5, 6, 7, 8, 9], [0, 1, 2, 3, 4, 5, 6, 7, 8, 9, 10], [0, 1, 2, 3, 4, 5, 6, 7, 8, 9, 10, 11]]) (tk := [4]) (sk := []) (s' := ⟨[(4, cD (i6 r4))], []⟩) (by kernel_rfl) (by kernel_rfl) (by kernel_rfl) ⟨?_, ?_, ?_, ?_, ?_, ?_, ?_, ?_, ?_, ?_, ?_, ?_, ?_, trivial⟩ (by kernel_rfl) ?_
   · exact DOk.t rfl rfl (by kernel_rfl) (by kernel_rfl)
   · exact DOk.t rfl rfl (by kernel_rfl) (by kernel_rfl)
   · exact DOk.t rfl rfl (by kernel_rfl) (by kernel_rfl)
   · exact DOk.t rfl rfl (by kernel_rfl) (by kernel_rfl)
   · exact DOk.callA (caps := []) (xs := [cD (u6 p0.epoch), cD (u6 p1.epoch)]) (cmp_Compare_uint64_ok hr2) rfl (fun r => by kernel_rfl) rfl (fun r => by kernel_rfl) (fun r => by kernel_rfl) (fun r => (.cons (.refl _) (.cons (.refl _) .nil))) rfl rfl (fun r => rfl)
   · exact DOk.t rfl rfl (by kernel_rfl) (by kernel_rfl)
   · exact DOk.step (.val (.c (.bsl 2 1 1 2)) (((0 : Int) ≤ 0 ∧ (0 : Int) ≤ 2 ∧ (2 : Int) ≤ 2) ∧ (0 : Int) < 2)) (fun r => by kernel_rfl) (fun r => by kernel_rfl) ⟨⟨by decide, by decide, by decide⟩, by decide⟩ (by kernel_rfl) (by kernel_rfl) (fun r => rfl)
   · exact DOk.t rfl rfl (by kernel_rfl) (by kernel_rfl)
   · exact DOk.step (.val (.c (.bsl 3 1 1 2)) (((0 : Int) ≤ 0 ∧ (0 : Int) ≤ 2 ∧ (2 : Int) ≤ 2) ∧ (0 : Int) < 2)) (fun r => by kernel_rfl) (fun r => by kernel_rfl) ⟨⟨by decide, by decide, by decide⟩, by decide⟩ (by kernel_rfl) (by kernel_rfl) (fun r => rfl)
   · exact DOk.callA (caps := []) (xs := [.c (.bsl 2 1 1 2), .c (.bsl 3 1 1 2)]) (slices_Compareuint64_uint64_uint64_ok_v0v1 hr3) rfl (fun r => by kernel_rfl) rfl (fun r => by kernel_rfl) (fun r => by kernel_rfl) (fun r => (.cons (.c (.bsl (cs := [.d (u6 p0.epoch), .d (u6 p0.loop.1), .d (u6 p0.loop.2)]) (ds := [u6 p0.loop.1, u6 p0.loop.2]) rfl rfl rfl rfl (by unfold maxN; omega) (fun i hi => by match i, hi with | 0, _ => rfl | 1, _ => rfl))) (.cons (.c (.bsl (cs := [.d (u6 p1.epoch), .d (u6 p1.loop.1), .d (u6 p1.loop.2)]) (ds := [u6 p1.loop.1, u6 p1.loop.2]) rfl rfl rfl rfl (by unfold maxN; omega) (fun i hi => by match i, hi with | 0, _ => rfl | 1, _ => rfl))) .nil))) rfl rfl (fun r => rfl)
   · exact DOk.one fun r hr => One.buildT (e := 3) (es := 1) (z := [.d (i6 0)]) (cells := [.d (i6 r2), .d (i6 r3)]) (encInt .i64) ([r2, r3] : List Int) rfl (by kernel_rfl) rfl rfl (St.noRef_app (by kernel_rfl) (hr 25 (by simp))) (by kernel_rfl) rfl (by kernel_rfl) rfl rfl rfl (by kernel_rfl) rfl ⟨⟨rfl, .refl _⟩, ⟨rfl, .refl _⟩, trivial⟩
   · exact DOk.callA (caps := []) (xs := [.c (oC 25 1 ([r2, r3] : List Int))]) (cmp_Or_int_ok_v0 hr4) rfl (fun r => by kernel_rfl) rfl (fun r => by kernel_rfl) (fun r => by kernel_rfl) (fun r => (.cons (AVArg.view (encInt .i64) ([r2, r3] : List Int) rfl) .nil)) rfl rfl (fun r => rfl)
   · exact DOk.t rfl rfl (by kernel_rfl) (by kernel_rfl)
   show Tri _ _ _ _
   refine Tri.keep [4] [] (s' := ⟨[(4, cD (i6 r4))], []⟩) (by kernel_rfl) ?_
   refine Tri.ret ?_
   cases h
   refine ⟨_, _, rfl, ⟨trivial, trivial⟩, rfl, rfl, ?_⟩
   intro k c h
   cases h

set_option maxRecDepth 100000 in
theorem slices_insertionSortCmpFunc_Time__Compare_w_ok {fuel : Nat} {p1 : Int} {p2 : Int} {l0 : List Time} {q : List Time} (h : slices_insertionSortCmpFunc_Time__Compare_w fuel p1 p2 l0 = some q) :
    Summ Try.prog 49 [.c (oC 5000 3 l0), cD (i6 p1), cD (i6 p2), cD (.fn 20 [])] [(5000, vL 3 encTime l0)] (.tup []) [(5000, vL 3 encTime q)] := by
  refine Summ.intro Try.func49 rfl (by kernel_rfl) (by kernel_rfl) [] rfl ?_
  rintro ⟨P, w0, G0, V, LL, lk, N, φ0, fx⟩ rfl rfl rfl rfl
  unfold slices_insertionSortCmpFunc_Time__Compare_w at h
  refine Tri.seqS ?_
  refine Tri.reg ?_
  refine At.seg 3 [0, 1, 2, 3, 8] [5000] (s' := ⟨[(0, .c (oC 5000 3 l0)), (1, cD (i6 p1)), (2, cD (i6 p2)), (3, cD (.fn 20 [])), (8, cD (i6 (IntKind.i64.wrap (p1 + 1))))], [(5000, vL 3 encTime l0)]⟩) (c := True ∧ True ∧ True ∧ True) (by kernel_rfl) ⟨trivial, trivial, trivial, trivial⟩ ?_
  refine At.done rfl ?_
  show Tri _ _ _ _
  refine Tri.keep [0, 1, 2, 3, 8] [5000] (s' := ⟨[(0, .c (oC 5000 3 l0)), (1, cD (i6 p1)), (2, cD (i6 p2)), (3, cD (.fn 20 [])), (8, cD (i6 (IntKind.i64.wrap (p1 + 1))))], [(5000, vL 3 encTime l0)]⟩) (by kernel_rfl) ?_
  refine Tri.loopK (fuel := fuel) (st0 := ((IntKind.i64.wrap (p1 + 1)), l0)) (fun (x : Empty) s => False) (fun (a1 : Int × (List Time)) => ⟨[(0, .c (oC 5000 3 a1.2)), (1, cD (i6 p1)), (2, cD (i6 p2)), (3, cD (.fn 20 [])), (8, cD (i6 a1.1))], [(5000, vL 3 encTime a1.2)]⟩) (fun (a1 : Int × (List Time)) => ⟨[], [(5000, vL 3 encTime a1.2)]⟩) h ?_ ?_ ?_
  ·intro a1 c h
   show Tri _ _ ⟨[(0, .c (oC 5000 3 a1.2)), (1, cD (i6 p1)), (2, cD (i6 p2)), (3, cD (.fn 20 [])), (8, cD (i6 a1.1))], [(5000, vL 3 encTime a1.2)]⟩ _
   refine Tri.seqS ?_
   refine Tri.seqS ?_
   refine Tri.reg ?_
   refine At.seg 3 [0, 1, 2, 3, 8, 14] [5000] (s' := ⟨[(0, .c (oC 5000 3 a1.2)), (1, cD (i6 p1)), (2, cD (i6 p2)), (3, cD (.fn 20 [])), (8, cD (i6 a1.1)), (14, cD (.bool (decide (a1.1 < p2))))], [(5000, vL 3 encTime a1.2)]⟩) (c := True ∧ True ∧ True ∧ True) (by kernel_rfl) ⟨trivial, trivial, trivial, trivial⟩ ?_
   refine At.done rfl ?_
   show Tri _ _ _ _
   refine Tri.condP (b := (decide (a1.1 < p2))) rfl h (fun h => ?_) (fun h => ?_)
   ·refine Tri.skip ?_
    show Tri _ _ _ _
    refine Tri.seqS ?_
    refine Tri.blockB ?_
    refine Tri.seqS ?_
    refine Tri.reg ?_
    refine At.seg 2 [0, 1, 2, 3, 8, 9] [5000] (s' := ⟨[(0, .c (oC 5000 3 a1.2)), (1, cD (i6 p1)), (2, cD (i6 p2)), (3, cD (.fn 20 [])), (8, cD (i6 a1.1)), (9, cD (i6 a1.1))], [(5000, vL 3 encTime a1.2)]⟩) (c := True ∧ True ∧ True) (by kernel_rfl) ⟨trivial, trivial, trivial⟩ ?_
    refine At.done rfl ?_
    show Tri _ _ _ _
    refine Tri.keep [0, 1, 2, 3, 8, 9] [5000] (s' := ⟨[(0, .c (oC 5000 3 a1.2)), (1, cD (i6 p1)), (2, cD (i6 p2)), (3, cD (.fn 20 [])), (8, cD (i6 a1.1)), (9, cD (i6 a1.1))], [(5000, vL 3 encTime a1.2)]⟩) (by kernel_rfl) ?_
    refine Tri.loopK (fuel := fuel) (st0 := (a1.1, a1.2)) (fun (x : Empty) s => False) (fun (a3 : Int × (List Time)) => ⟨[(0, .c (oC 5000 3 a3.2)), (1, cD (i6 p1)), (2, cD (i6 p2)), (3, cD (.fn 20 [])), (8, cD (i6 a1.1)), (9, cD (i6 a3.1))], [(5000, vL 3 encTime a3.2)]⟩) (fun (a3 : Int × (List Time)) => ⟨[(0, .c (oC 5000 3 a3.2)), (1, cD (i6 p1)), (2, cD (i6 p2)), (3, cD (.fn 20 [])), (8, cD (i6 a1.1)), (9, cD (i6 a3.1))], [(5000, vL 3 encTime a3.2)]⟩) h ?_ ?_ ?_
    ·intro a3 c h
     show Tri _ _ ⟨[(0, .c (oC 5000 3 a3.2)), (1, cD (i6 p1)), (2, cD (i6 p2)), (3, cD (.fn 20 [])), (8, cD (i6 a1.1)), (9, cD (i6 a3.1))], [(5000, vL 3 encTime a3.2)]⟩ _
     refine Tri.seqS ?_
     refine Tri.seqJ (fun (a5 : Bool) => ⟨[(0, .c (oC 5000 3 a3.2)), (1, cD (i6 p1)), (2, cD (i6 p2)), (3, cD (.fn 20 [])), (8, cD (i6 a1.1)), (9, cD (i6 a3.1)), (34, cD (.bool a5))], [(5000, vL 3 encTime a3.2)]⟩) h (fun a5 h => ?_) (fun j6 h => ?_)
     ·show Tri _ _ ⟨[(0, .c (oC 5000 3 a3.2)), (1, cD (i6 p1)), (2, cD (i6 p2)), (3, cD (.fn 20 [])), (8, cD (i6 a1.1)), (9, cD (i6 a3.1)), (34, cD (.bool a5))], [(5000, vL 3 encTime a3.2)]⟩ _
      refine Tri.condP (b := a5) rfl h (fun h => ?_) (fun h => ?_)
      ·refine Tri.skip ?_
       show Tri _ _ _ _
       refine Tri.seqS ?_
       refine Tri.blockB ?_
       obtain ⟨hc7, h⟩ := need_elim h
       obtain ⟨hc8, h⟩ := need_elim h
       obtain ⟨hc9, h⟩ := need_elim h
       obtain ⟨hc10, h⟩ := need_elim h
       obtain ⟨hc11, h⟩ := need_elim h
       obtain ⟨hc12, h⟩ := need_elim h
       obtain ⟨hc13, h⟩ := need_elim h
       obtain ⟨hc14, h⟩ := need_elim h
       refine Tri.afterA ⟨[(0, .c (oC 5000 3 a3.2)), (1, cD (i6 p1)), (2, cD (i6 p2)), (3, cD (.fn 20 [])), (8, cD (i6 a1.1)), (9, cD (i6 a3.1))], [(5000, vL 3 encTime ((a3.2.set (0 + a3.1.toNat) (a3.2.getD (0 + (IntKind.i64.wrap (a3.1 - 1)).toNat) default)).set (0 + (IntKind.i64.wrap (a3.1 - 1)).toNat) (a3.2.getD (0 + a3.1.toNat) default)))]⟩ ?_ ?_
       ·refine Tri.drawn (specs := [⟨⟨[(0, .c (oC 5000 3 a3.2))], []⟩, ⟨[(37, .c (oC 5000 3 a3.2))], []⟩, [], [], []⟩, ⟨⟨[(9, cD (i6 a3.1))], []⟩, ⟨[(38, cD (i6 a3.1))], []⟩, [], [], []⟩, ⟨⟨[(0, .c (oC 5000 3 a3.2))], []⟩, ⟨[(39, .c (oC 5000 3 a3.2))], []⟩, [], [], []⟩, ⟨⟨[(9, cD (i6 a3.1))], []⟩, ⟨[(40, cD (i6 a3.1))], []⟩, [], [], []⟩, ⟨⟨[(40, cD (i6 a3.1))], []⟩, ⟨[(41, cD (i6 (IntKind.i64.wrap (a3.1 - 1))))], []⟩, [], [], []⟩, ⟨⟨[(0, .c (oC 5000 3 a3.2))], []⟩, ⟨[(42, .c (oC 5000 3 a3.2))], []⟩, [], [], []⟩, ⟨⟨[(9, cD (i6 a3.1))], []⟩, ⟨[(43, cD (i6 a3.1))], []⟩, [], [], []⟩, ⟨⟨[(43, cD (i6 a3.1))], []⟩, ⟨[(44, cD (i6 (IntKind.i64.wrap (a3.1 - 1))))], []⟩, [], [], []⟩, ⟨⟨[(42, .c (oC 5000 3 a3.2)), (44, cD (i6 (IntKind.i64.wrap (a3.1 - 1))))], [(5000, vL 3 encTime a3.2)]⟩, ⟨[(45, .c (.vptr 5000 3 (0 + (IntKind.i64.wrap (a3.1 - 1)).toNat) 0))], []⟩, [], [], []⟩, ⟨⟨[(45, .c (.vptr 5000 3 (0 + (IntKind.i64.wrap (a3.1 - 1)).toNat) 0))], [(5000, vL 3 encTime a3.2)]⟩, ⟨[(46, .agg (cTime (a3.2.getD (0 + (IntKind.i64.wrap (a3.1 - 1)).toNat) default)))], []⟩, [], [], []⟩, ⟨⟨[(0, .c (oC 5000 3 a3.2))], []⟩, ⟨[(47, .c (oC 5000 3 a3.2))], []⟩, [], [], []⟩, ⟨⟨[(9, cD (i6 a3.1))], []⟩, ⟨[(48, cD (i6 a3.1))], []⟩, [], [], []⟩, ⟨⟨[(47, .c (oC 5000 3 a3.2)), (48, cD (i6 a3.1))], [(5000, vL 3 encTime a3.2)]⟩, ⟨[(49, .c (.vptr 5000 3 (0 + a3.1.toNat) 0))], []⟩, [], [], []⟩, ⟨⟨[(49, .c (.vptr 5000 3 (0 + a3.1.toNat) 0))], [(5000, vL 3 encTime a3.2)]⟩, ⟨[(50, .agg (cTime (a3.2.getD (0 + a3.1.toNat) default)))], []⟩, [], [], []⟩, ⟨⟨[(37, .c (oC 5000 3 a3.2)), (38, cD (i6 a3.1))], [(5000, vL 3 encTime a3.2)]⟩, ⟨[(51, .c (.vptr 5000 3 (0 + a3.1.toNat) 0))], []⟩, [], [], []⟩, ⟨⟨[(46, .agg (cTime (a3.2.getD (0 + (IntKind.i64.wrap (a3.1 - 1)).toNat) default))), (51, .c (.vptr 5000 3 (0 + a3.1.toNat) 0))], [(5000, vL 3 encTime a3.2)]⟩, ⟨[], [(5000, vL 3 encTime (a3.2.set (0 + a3.1.toNat) (a3.2.getD (0 + (IntKind.i64.wrap (a3.1 - 1)).toNat) default)))]⟩, [], [], []⟩, ⟨⟨[(39, .c (oC 5000 3 a3.2)), (41, cD (i6 (IntKind.i64.wrap (a3.1 - 1))))], [(5000, vL 3 encTime (a3.2.set (0 + a3.1.toNat) (a3.2.getD (0 + (IntKind.i64.wrap (a3.1 - 1)).toNat) default)))]⟩, ⟨[(52, .c (.vptr 5000 3 (0 + (IntKind.i64.wrap (a3.1 - 1)).toNat) 0))], []⟩, [], [], []⟩, ⟨⟨[(50, .agg (cTime (a3.2.getD (0 + a3.1.toNat) default))), (52, .c (.vptr 5000 3 (0 + (IntKind.i64.wrap (a3.1 - 1)).toNat) 0))], [(5000, vL 3 encTime (a3.2.set (0 + a3.1.toNat) (a3.2.getD (0 + (IntKind.i64.wrap (a3.1 - 1)).toNat) default)))]⟩, ⟨[], [(5000, vL 3 encTime ((a3.2.set (0 + a3.1.toNat) (a3.2.getD (0 + (IntKind.i64.wrap (a3.1 - 1)).toNat) default)).set (0 + (IntKind.i64.wrap (a3.1 - 1)).toNat) (a3.2.getD (0 + a3.1.toNat) default)))]⟩, [], [], []⟩]) (bef := [[], [], [], [], [3], [], [], [6], [5, 6, 7], [5, 6, 7, 8], [], [], [10, 11], [10, 11, 12], [0, 1, 5, 6, 7, 8, 9, 10, 11, 12, 13], [0, 1, 5, 6, 7, 8, 9, 10, 11, 12, 13, 14], [0, 1, 2, 3, 4, 5, 6, 7, 8, 9, 10, 11, 12, 13, 14, 15], [0, 1, 2, 3, 4, 5, 6, 7, 8, 9, 10, 11, 12, 13, 14, 15, 16]]) (tk := [0, 1, 2, 3, 8, 9]) (sk := [5000]) (s' := ⟨[(0, .c (oC 5000 3 a3.2)), (1, cD (i6 p1)), (2, cD (i6 p2)), (3, cD (.fn 20 [])), (8, cD (i6 a1.1)), (9, cD (i6 a3.1))], [(5000, vL 3 encTime ((a3.2.set (0 + a3.1.toNat) (a3.2.getD (0 + (IntKind.i64.wrap (a3.1 - 1)).toNat) default)).set (0 + (IntKind.i64.wrap (a3.1 - 1)).toNat) (a3.2.getD (0 + a3.1.toNat) default)))]⟩) (by kernel_rfl) (by kernel_rfl) (by kernel_rfl) ⟨?_, ?_, ?_, ?_, ?_, ?_, ?_, ?_, ?_, ?_, ?_, ?_, ?_, ?_, ?_, ?_, ?_, ?_, trivial⟩ (by kernel_rfl) ?_
        · exact DOk.t rfl rfl (by kernel_rfl) (by kernel_rfl)
        · exact DOk.t rfl rfl (by kernel_rfl) (by kernel_rfl)
        · exact DOk.t rfl rfl (by kernel_rfl) (by kernel_rfl)
        · exact DOk.t rfl rfl (by kernel_rfl) (by kernel_rfl)
        · exact DOk.t rfl rfl (by kernel_rfl) (by kernel_rfl)
        · exact DOk.t rfl rfl (by kernel_rfl) (by kernel_rfl)
        · exact DOk.t rfl rfl (by kernel_rfl) (by kernel_rfl)
        · exact DOk.t rfl rfl (by kernel_rfl) (by kernel_rfl)
        · exact DOk.step (.val (.c (.vptr 5000 3 (0 + (IntKind.i64.wrap (a3.1 - 1)).toNat) 0)) ((0 : Int) ≤ (IntKind.i64.wrap (a3.1 - 1)) ∧ (IntKind.i64.wrap (a3.1 - 1)) < (a3.2.length : Int))) (fun r => by kernel_rfl) (fun r => by kernel_rfl) hc7 (by kernel_rfl) (by kernel_rfl) (fun r => rfl)
        · exact DOk.step (.val (.agg (cTime (a3.2.getD (0 + (IntKind.i64.wrap (a3.1 - 1)).toNat) default))) ((0 + (IntKind.i64.wrap (a3.1 - 1)).toNat) < a3.2.length)) (fun r => by kernel_rfl) (fun r => by kernel_rfl) hc8 (by kernel_rfl) (by kernel_rfl) (fun r => rfl)
        · exact DOk.t rfl rfl (by kernel_rfl) (by kernel_rfl)
        · exact DOk.t rfl rfl (by kernel_rfl) (by kernel_rfl)
        · exact DOk.step (.val (.c (.vptr 5000 3 (0 + a3.1.toNat) 0)) ((0 : Int) ≤ a3.1 ∧ a3.1 < (a3.2.length : Int))) (fun r => by kernel_rfl) (fun r => by kernel_rfl) hc9 (by kernel_rfl) (by kernel_rfl) (fun r => rfl)
        · exact DOk.step (.val (.agg (cTime (a3.2.getD (0 + a3.1.toNat) default))) ((0 + a3.1.toNat) < a3.2.length)) (fun r => by kernel_rfl) (fun r => by kernel_rfl) hc10 (by kernel_rfl) (by kernel_rfl) (fun r => rfl)
        · exact DOk.step (.val (.c (.vptr 5000 3 (0 + a3.1.toNat) 0)) ((0 : Int) ≤ a3.1 ∧ a3.1 < (a3.2.length : Int))) (fun r => by kernel_rfl) (fun r => by kernel_rfl) hc11 (by kernel_rfl) (by kernel_rfl) (fun r => rfl)
        · exact DOk.one fun r hr => One.storeT (xs := [.d (u6 ((a3.2.getD (0 + (IntKind.i64.wrap (a3.1 - 1)).toNat) default).epoch)), .d (u6 ((a3.2.getD (0 + (IntKind.i64.wrap (a3.1 - 1)).toNat) default).loop.1)), .d (u6 ((a3.2.getD (0 + (IntKind.i64.wrap (a3.1 - 1)).toNat) default).loop.2))]) (ds := [u6 ((a3.2.getD (0 + (IntKind.i64.wrap (a3.1 - 1)).toNat) default).epoch), u6 ((a3.2.getD (0 + (IntKind.i64.wrap (a3.1 - 1)).toNat) default).loop.1), u6 ((a3.2.getD (0 + (IntKind.i64.wrap (a3.1 - 1)).toNat) default).loop.2)]) (encTime) a3.2 (a3.2.getD (0 + (IntKind.i64.wrap (a3.1 - 1)).toNat) default) rfl (by kernel_rfl) rfl rfl rfl hc12 rfl rfl (.refl _) rfl rfl rfl rfl
        · exact DOk.step (.val (.c (.vptr 5000 3 (0 + (IntKind.i64.wrap (a3.1 - 1)).toNat) 0)) ((0 : Int) ≤ (IntKind.i64.wrap (a3.1 - 1)) ∧ (IntKind.i64.wrap (a3.1 - 1)) < (a3.2.length : Int))) (fun r => by kernel_rfl) (fun r => by kernel_rfl) hc13 (by kernel_rfl) (by kernel_rfl) (fun r => rfl)
        · exact DOk.one fun r hr => One.storeT (xs := [.d (u6 ((a3.2.getD (0 + a3.1.toNat) default).epoch)), .d (u6 ((a3.2.getD (0 + a3.1.toNat) default).loop.1)), .d (u6 ((a3.2.getD (0 + a3.1.toNat) default).loop.2))]) (ds := [u6 ((a3.2.getD (0 + a3.1.toNat) default).epoch), u6 ((a3.2.getD (0 + a3.1.toNat) default).loop.1), u6 ((a3.2.getD (0 + a3.1.toNat) default).loop.2)]) (encTime) (a3.2.set (0 + a3.1.toNat) (a3.2.getD (0 + (IntKind.i64.wrap (a3.1 - 1)).toNat) default)) (a3.2.getD (0 + a3.1.toNat) default) rfl (by kernel_rfl) rfl rfl rfl hc14 rfl rfl (.refl _) rfl rfl rfl rfl
        exact ⟨rfl, rfl⟩
       ·refine At.eqS (s' := ⟨[(0, .c (oC 5000 3 ((a3.2.set (0 + a3.1.toNat) (a3.2.getD (0 + (IntKind.i64.wrap (a3.1 - 1)).toNat) default)).set (0 + (IntKind.i64.wrap (a3.1 - 1)).toNat) (a3.2.getD (0 + a3.1.toNat) default)))), (1, cD (i6 p1)), (2, cD (i6 p2)), (3, cD (.fn 20 [])), (8, cD (i6 a1.1)), (9, cD (i6 a3.1))], [(5000, vL 3 encTime ((a3.2.set (0 + a3.1.toNat) (a3.2.getD (0 + (IntKind.i64.wrap (a3.1 - 1)).toNat) default)).set (0 + (IntKind.i64.wrap (a3.1 - 1)).toNat) (a3.2.getD (0 + a3.1.toNat) default)))]⟩) (by simp only [oC, vL, List.length_set]) ?_
        refine At.done rfl ?_
        show Tri _ _ _ _
        refine Tri.reg ?_
        refine At.seg 3 [0, 1, 2, 3, 8, 9] [5000] (s' := ⟨[(0, .c (oC 5000 3 ((a3.2.set (0 + a3.1.toNat) (a3.2.getD (0 + (IntKind.i64.wrap (a3.1 - 1)).toNat) default)).set (0 + (IntKind.i64.wrap (a3.1 - 1)).toNat) (a3.2.getD (0 + a3.1.toNat) default)))), (1, cD (i6 p1)), (2, cD (i6 p2)), (3, cD (.fn 20 [])), (8, cD (i6 a1.1)), (9, cD (i6 (IntKind.i64.wrap (a3.1 - 1))))], [(5000, vL 3 encTime ((a3.2.set (0 + a3.1.toNat) (a3.2.getD (0 + (IntKind.i64.wrap (a3.1 - 1)).toNat) default)).set (0 + (IntKind.i64.wrap (a3.1 - 1)).toNat) (a3.2.getD (0 + a3.1.toNat) default)))]⟩) (c := True ∧ True ∧ True ∧ True) (by kernel_rfl) ⟨trivial, trivial, trivial, trivial⟩ ?_
        refine At.done rfl ?_
        cases h
        exact rfl
      ·refine Tri.keep [0, 1, 2, 3, 8, 9] [5000] (s' := ⟨[(0, .c (oC 5000 3 a3.2)), (1, cD (i6 p1)), (2, cD (i6 p2)), (3, cD (.fn 20 [])), (8, cD (i6 a1.1)), (9, cD (i6 a3.1))], [(5000, vL 3 encTime a3.2)]⟩) (by kernel_rfl) ?_
       refine Tri.exit ?_
       cases h
       exact ⟨rfl, rfl⟩
     ·rcases bf_cases h with ⟨hp15, h⟩ | ⟨hp15, h⟩
      ·obtain ⟨hc16, h⟩ := need_elim h
       obtain ⟨hc17, h⟩ := need_elim h
       obtain ⟨hc18, h⟩ := need_elim h
       obtain ⟨hc19, h⟩ := need_elim h
       obtain ⟨r20, hr20, h⟩ := bind_elim h
       refine Tri.drawn (specs := [⟨⟨[(9, cD (i6 a3.1))], []⟩, ⟨[(18, cD (i6 a3.1))], []⟩, [], [], []⟩, ⟨⟨[(1, cD (i6 p1))], []⟩, ⟨[(19, cD (i6 p1))], []⟩, [], [], []⟩, ⟨⟨[(18, cD (i6 a3.1)), (19, cD (i6 p1))], []⟩, ⟨[(20, cD (.bool (decide (p1 < a3.1))))], []⟩, [], [], []⟩, ⟨⟨[(20, cD (.bool (decide (p1 < a3.1))))], []⟩, ⟨[(21, .c (.d (.bool true)))], []⟩, [], [], []⟩, ⟨⟨[(3, cD (.fn 20 [])), (21, cD (.bool true))], []⟩, ⟨[(22, cD (.fn 20 []))], []⟩, [], [], []⟩, ⟨⟨[(0, .c (oC 5000 3 a3.2)), (21, cD (.bool true))], []⟩, ⟨[(23, .c (oC 5000 3 a3.2))], []⟩, [], [], []⟩, ⟨⟨[(9, cD (i6 a3.1)), (21, cD (.bool true))], []⟩, ⟨[(24, cD (i6 a3.1))], []⟩, [], [], []⟩, ⟨⟨[(21, cD (.bool true)), (23, .c (oC 5000 3 a3.2)), (24, cD (i6 a3.1))], [(5000, vL 3 encTime a3.2)]⟩, ⟨[(25, .c (.vptr 5000 3 (0 + a3.1.toNat) 0))], []⟩, [], [], []⟩, ⟨⟨[(21, cD (.bool true)), (25, .c (.vptr 5000 3 (0 + a3.1.toNat) 0))], [(5000, vL 3 encTime a3.2)]⟩, ⟨[(26, .agg (cTime (a3.2.getD (0 + a3.1.toNat) default)))], []⟩, [], [], []⟩, ⟨⟨[(0, .c (oC 5000 3 a3.2)), (21, cD (.bool true))], []⟩, ⟨[(27, .c (oC 5000 3 a3.2))], []⟩, [], [], []⟩, ⟨⟨[(9, cD (i6 a3.1)), (21, cD (.bool true))], []⟩, ⟨[(28, cD (i6 a3.1))], []⟩, [], [], []⟩, ⟨⟨[(21, cD (.bool true)), (28, cD (i6 a3.1))], []⟩, ⟨[(29, cD (i6 (IntKind.i64.wrap (a3.1 - 1))))], []⟩, [], [], []⟩, ⟨⟨[(21, cD (.bool true)), (27, .c (oC 5000 3 a3.2)), (29, cD (i6 (IntKind.i64.wrap (a3.1 - 1))))], [(5000, vL 3 encTime a3.2)]⟩, ⟨[(30, .c (.vptr 5000 3 (0 + (IntKind.i64.wrap (a3.1 - 1)).toNat) 0))], []⟩, [], [], []⟩, ⟨⟨[(21, cD (.bool true)), (30, .c (.vptr 5000 3 (0 + (IntKind.i64.wrap (a3.1 - 1)).toNat) 0))], [(5000, vL 3 encTime a3.2)]⟩, ⟨[(31, .agg (cTime (a3.2.getD (0 + (IntKind.i64.wrap (a3.1 - 1)).toNat) default)))], []⟩, [], [], []⟩, ⟨⟨[(21, cD (.bool true)), (22, cD (.fn 20 [])), (26, .agg (cTime (a3.2.getD (0 + a3.1.toNat) default))), (31, .agg (cTime (a3.2.getD (0 + (IntKind.i64.wrap (a3.1 - 1)).toNat) default)))], []⟩, ⟨[(32, cD (i6 r20))], []⟩, [], [], []⟩, ⟨⟨[(21, cD (.bool true)), (32, cD (i6 r20))], []⟩, ⟨[(33, cD (.bool (decide (r20 < 0))))], []⟩, [], [], []⟩, ⟨⟨[(21, cD (.bool true)), (33, cD (.bool (decide (r20 < 0))))], []⟩, ⟨[(34, cD (.bool (decide (r20 < 0))))], []⟩, [], [], []⟩]) (bef := [[], [], [0, 1], [0, 1, 2], [0, 1, 2, 3], [0, 1, 2, 3], [0, 1, 2, 3], [0, 1, 2, 3, 5, 6], [0, 1, 2, 3, 5, 6, 7], [0, 1, 2, 3], [0, 1, 2, 3], [0, 1, 2, 3, 10], [0, 1, 2, 3, 9, 10, 11], [0, 1, 2, 3, 9, 10, 11, 12], [0, 1, 2, 3, 4, 5, 6, 7, 8, 9, 10, 11, 12, 13], [0, 1, 2, 3, 4, 5, 6, 7, 8, 9, 10, 11, 12, 13, 14], [0, 1, 2, 3, 4, 5, 6, 7, 8, 9, 10, 11, 12, 13, 14, 15]]) (tk := [0, 1, 2, 3, 8, 9, 34]) (sk := [5000]) (s' := ⟨[(0, .c (oC 5000 3 a3.2)), (1, cD (i6 p1)), (2, cD (i6 p2)), (3, cD (.fn 20 [])), (8, cD (i6 a1.1)), (9, cD (i6 a3.1)), (34, cD (.bool (decide (r20 < 0))))], [(5000, vL 3 encTime a3.2)]⟩) (by kernel_rfl) (by kernel_rfl) (by kernel_rfl) ⟨?_, ?_, ?_, ?_, ?_, ?_, ?_, ?_, ?_, ?_, ?_, ?_, ?_, ?_, ?_, ?_, ?_, trivial⟩ (by kernel_rfl) ?_
       · exact DOk.t rfl rfl (by kernel_rfl) (by kernel_rfl)
       · exact DOk.t rfl rfl (by kernel_rfl) (by kernel_rfl)
       · exact DOk.t rfl rfl (by kernel_rfl) (by kernel_rfl)
       · exact DOk.stepP (fun b => .val (.c (.d (.bool b))) (True)) (p := (decide (p1 < a3.1))) hp15 (fun r => by kernel_rfl) (fun r => by kernel_rfl) trivial (by kernel_rfl) (by kernel_rfl) (fun r => rfl)
       · exact DOk.t rfl rfl (by kernel_rfl) (by kernel_rfl)
       · exact DOk.t rfl rfl (by kernel_rfl) (by kernel_rfl)
       · exact DOk.t rfl rfl (by kernel_rfl) (by kernel_rfl)
       · exact DOk.step (.val (.c (.vptr 5000 3 (0 + a3.1.toNat) 0)) ((0 : Int) ≤ a3.1 ∧ a3.1 < (a3.2.length : Int))) (fun r => by kernel_rfl) (fun r => by kernel_rfl) hc16 (by kernel_rfl) (by kernel_rfl) (fun r => rfl)
       · exact DOk.step (.val (.agg (cTime (a3.2.getD (0 + a3.1.toNat) default))) ((0 + a3.1.toNat) < a3.2.length)) (fun r => by kernel_rfl) (fun r => by kernel_rfl) hc17 (by kernel_rfl) (by kernel_rfl) (fun r => rfl)
       · exact DOk.t rfl rfl (by kernel_rfl) (by kernel_rfl)
       · exact DOk.t rfl rfl (by kernel_rfl) (by kernel_rfl)
       · exact DOk.t rfl rfl (by kernel_rfl) (by kernel_rfl)
       · exact DOk.step (.val (.c (.vptr 5000 3 (0 + (IntKind.i64.wrap (a3.1 - 1)).toNat) 0)) ((0 : Int) ≤ (IntKind.i64.wrap (a3.1 - 1)) ∧ (IntKind.i64.wrap (a3.1 - 1)) < (a3.2.length : Int))) (fun r => by kernel_rfl) (fun r => by kernel_rfl) hc18 (by kernel_rfl) (by kernel_rfl) (fun r => rfl)
       · exact DOk.step (.val (.agg (cTime (a3.2.getD (0 + (IntKind.i64.wrap (a3.1 - 1)).toNat) default))) ((0 + (IntKind.i64.wrap (a3.1 - 1)).toNat) < a3.2.length)) (fun r => by kernel_rfl) (fun r => by kernel_rfl) hc19 (by kernel_rfl) (by kernel_rfl) (fun r => rfl)
       · exact DOk.callA (caps := []) (xs := [.agg (cTime (a3.2.getD (0 + a3.1.toNat) default)), .agg (cTime (a3.2.getD (0 + (IntKind.i64.wrap (a3.1 - 1)).toNat) default))]) (moment_Compare_ok hr20) rfl (fun r => by kernel_rfl) rfl (fun r => by kernel_rfl) (fun r => by kernel_rfl) (fun r => (.cons (.refl _) (.cons (.refl _) .nil))) rfl rfl (fun r => rfl)
       · exact DOk.t rfl rfl (by kernel_rfl) (by kernel_rfl)
       · exact DOk.t rfl rfl (by kernel_rfl) (by kernel_rfl)
       exact ⟨_, h, rfl⟩
      ·refine Tri.drawn (specs := [⟨⟨[(9, cD (i6 a3.1))], []⟩, ⟨[(18, cD (i6 a3.1))], []⟩, [], [], []⟩, ⟨⟨[(1, cD (i6 p1))], []⟩, ⟨[(19, cD (i6 p1))], []⟩, [], [], []⟩, ⟨⟨[(18, cD (i6 a3.1)), (19, cD (i6 p1))], []⟩, ⟨[(20, cD (.bool (decide (p1 < a3.1))))], []⟩, [], [], []⟩, ⟨⟨[(20, cD (.bool (decide (p1 < a3.1))))], []⟩, ⟨[(21, .c (.d (.bool false)))], []⟩, [], [], []⟩, ⟨⟨[(3, cD (.fn 20 [])), (21, cD (.bool false))], []⟩, ⟨[(22, .tup [])], []⟩, [], [], []⟩, ⟨⟨[(0, .c (oC 5000 3 a3.2)), (21, cD (.bool false))], []⟩, ⟨[(23, .tup [])], []⟩, [], [], []⟩, ⟨⟨[(9, cD (i6 a3.1)), (21, cD (.bool false))], []⟩, ⟨[(24, .tup [])], []⟩, [], [], []⟩, ⟨⟨[(21, cD (.bool false)), (23, .tup []), (24, .tup [])], []⟩, ⟨[(25, .tup [])], []⟩, [], [], []⟩, ⟨⟨[(21, cD (.bool false)), (25, .tup [])], []⟩, ⟨[(26, .tup [])], []⟩, [], [], []⟩, ⟨⟨[(0, .c (oC 5000 3 a3.2)), (21, cD (.bool false))], []⟩, ⟨[(27, .tup [])], []⟩, [], [], []⟩, ⟨⟨[(9, cD (i6 a3.1)), (21, cD (.bool false))], []⟩, ⟨[(28, .tup [])], []⟩, [], [], []⟩, ⟨⟨[(21, cD (.bool false)), (28, .tup [])], []⟩, ⟨[(29, .tup [])], []⟩, [], [], []⟩, ⟨⟨[(21, cD (.bool false)), (27, .tup []), (29, .tup [])], []⟩, ⟨[(30, .tup [])], []⟩, [], [], []⟩, ⟨⟨[(21, cD (.bool false)), (30, .tup [])], []⟩, ⟨[(31, .tup [])], []⟩, [], [], []⟩, ⟨⟨[(21, cD (.bool false)), (22, .tup []), (26, .tup []), (31, .tup [])], []⟩, ⟨[(32, .tup [])], []⟩, [], [], []⟩, ⟨⟨[(21, cD (.bool false)), (32, .tup [])], []⟩, ⟨[(33, .tup [])], []⟩, [], [], []⟩, ⟨⟨[(21, cD (.bool false)), (33, .tup [])], []⟩, ⟨[(34, cD (.bool false))], []⟩, [], [], []⟩]) (bef := [[], [], [0, 1], [0, 1, 2], [0, 1, 2, 3], [0, 1, 2, 3], [0, 1, 2, 3], [0, 1, 2, 3, 5, 6], [0, 1, 2, 3, 5, 6, 7], [0, 1, 2, 3], [0, 1, 2, 3], [0, 1, 2, 3, 10], [0, 1, 2, 3, 9, 10, 11], [0, 1, 2, 3, 9, 10, 11, 12], [0, 1, 2, 3, 4, 5, 6, 7, 8, 9, 10, 11, 12, 13], [0, 1, 2, 3, 4, 5, 6, 7, 8, 9, 10, 11, 12, 13, 14], [0, 1, 2, 3, 4, 5, 6, 7, 8, 9, 10, 11, 12, 13, 14, 15]]) (tk := [0, 1, 2, 3, 8, 9, 34]) (sk := [5000]) (s' := ⟨[(0, .c (oC 5000 3 a3.2)), (1, cD (i6 p1)), (2, cD (i6 p2)), (3, cD (.fn 20 [])), (8, cD (i6 a1.1)), (9, cD (i6 a3.1)), (34, cD (.bool false))], [(5000, vL 3 encTime a3.2)]⟩) (by kernel_rfl) (by kernel_rfl) (by kernel_rfl) ⟨?_, ?_, ?_, ?_, ?_, ?_, ?_, ?_, ?_, ?_, ?_, ?_, ?_, ?_, ?_, ?_, ?_, trivial⟩ (by kernel_rfl) ?_
       · exact DOk.t rfl rfl (by kernel_rfl) (by kernel_rfl)
       · exact DOk.t rfl rfl (by kernel_rfl) (by kernel_rfl)
       · exact DOk.t rfl rfl (by kernel_rfl) (by kernel_rfl)
       · exact DOk.stepP (fun b => .val (.c (.d (.bool b))) (True)) (p := (decide (p1 < a3.1))) hp15 (fun r => by kernel_rfl) (fun r => by kernel_rfl) trivial (by kernel_rfl) (by kernel_rfl) (fun r => rfl)
       · exact DOk.skip (fun r => by kernel_rfl) rfl rfl (fun r => rfl)
       · exact DOk.skip (fun r => by kernel_rfl) rfl rfl (fun r => rfl)
       · exact DOk.skip (fun r => by kernel_rfl) rfl rfl (fun r => rfl)
       · exact DOk.skip (fun r => by kernel_rfl) rfl rfl (fun r => rfl)
       · exact DOk.skip (fun r => by kernel_rfl) rfl rfl (fun r => rfl)
       · exact DOk.skip (fun r => by kernel_rfl) rfl rfl (fun r => rfl)
       · exact DOk.skip (fun r => by kernel_rfl) rfl rfl (fun r => rfl)
       · exact DOk.skip (fun r => by kernel_rfl) rfl rfl (fun r => rfl)
       · exact DOk.skip (fun r => by kernel_rfl) rfl rfl (fun r => rfl)
       · exact DOk.skip (fun r => by kernel_rfl) rfl rfl (fun r => rfl)
       · exact DOk.skip (fun r => by kernel_rfl) rfl rfl (fun r => rfl)
       · exact DOk.skip (fun r => by kernel_rfl) rfl rfl (fun r => rfl)
       · exact DOk.t rfl rfl (by kernel_rfl) (by kernel_rfl)
       exact ⟨_, h, rfl⟩
    ·intro a4 h
     show Tri _ _ _ _
     refine Tri.reg ?_
     refine At.seg 3 [0, 1, 2, 3, 8] [5000] (s' := ⟨[(0, .c (oC 5000 3 a4.2)), (1, cD (i6 p1)), (2, cD (i6 p2)), (3, cD (.fn 20 [])), (8, cD (i6 (IntKind.i64.wrap (a1.1 + 1))))], [(5000, vL 3 encTime a4.2)]⟩) (c := True ∧ True ∧ True ∧ True) (by kernel_rfl) ⟨trivial, trivial, trivial, trivial⟩ ?_
     refine At.done rfl ?_
     cases h
     exact rfl
    · exact fun x => x.elim
   ·refine Tri.keep [] [5000] (s' := ⟨[], [(5000, vL 3 encTime a1.2)]⟩) (by kernel_rfl) ?_
    refine Tri.exit ?_
    cases h
    exact ⟨rfl, rfl⟩
  ·intro a2 h
   cases h
   refine ⟨_, _, rfl, trivial, rfl, rfl, ?_⟩
   exact SubS.out ⟨⟨rfl, rfl⟩, trivial⟩
  · exact fun x => x.elim

set_option maxRecDepth 100000 in
theorem slices_siftDownCmpFunc_Time__Compare_w_ok {fuel : Nat} {p1 : Int} {p2 : Int} {p3 : Int} {l0 : List Time} {q : List Time} (h : slices_siftDownCmpFunc_Time__Compare_w fuel p1 p2 p3 l0 = some q) :
    Summ Try.prog 59 [.c (oC 5000 3 l0), cD (i6 p1), cD (i6 p2), cD (i6 p3), cD (.fn 20 [])] [(5000, vL 3 encTime l0)] (.tup []) [(5000, vL 3 encTime q)] := by
  refine Summ.intro Try.func59 rfl (by kernel_rfl) (by kernel_rfl) [] rfl ?_
  rintro ⟨P, w0, G0, V, LL, lk, N, φ0, fx⟩ rfl rfl rfl rfl
  unfold slices_siftDownCmpFunc_Time__Compare_w at h
  refine Tri.seqS ?_
  refine Tri.reg ?_
  refine At.seg 2 [0, 2, 3, 4, 10] [5000] (s' := ⟨[(0, .c (oC 5000 3 l0)), (2, cD (i6 p2)), (3, cD (i6 p3)), (4, cD (.fn 20 [])), (10, cD (i6 p1))], [(5000, vL 3 encTime l0)]⟩) (c := True ∧ True ∧ True) (by kernel_rfl) ⟨trivial, trivial, trivial⟩ ?_
  refine At.done rfl ?_
  show Tri _ _ _ _
  refine Tri.keep [0, 2, 3, 4, 10] [5000] (s' := ⟨[(0, .c (oC 5000 3 l0)), (2, cD (i6 p2)), (3, cD (i6 p3)), (4, cD (.fn 20 [])), (10, cD (i6 p1))], [(5000, vL 3 encTime l0)]⟩) (by kernel_rfl) ?_
  refine Tri.loopK (fuel := fuel) (st0 := (p1, l0)) (fun (x : List Time) s => RetAt Try.prog Try.f59 (.tup []) [(5000, vL 3 encTime x)] s) (fun (a1 : Int × (List Time)) => ⟨[(0, .c (oC 5000 3 a1.2)), (2, cD (i6 p2)), (3, cD (i6 p3)), (4, cD (.fn 20 [])), (10, cD (i6 a1.1))], [(5000, vL 3 encTime a1.2)]⟩) (fun (a1 : Int × (List Time)) => ⟨[], [(5000, vL 3 encTime a1.2)]⟩) h ?_ ?_ ?_
  ·intro a1 c h
   show Tri _ _ ⟨[(0, .c (oC 5000 3 a1.2)), (2, cD (i6 p2)), (3, cD (i6 p3)), (4, cD (.fn 20 [])), (10, cD (i6 a1.1))], [(5000, vL 3 encTime a1.2)]⟩ _
   refine Tri.blockB ?_
   refine Tri.seqS ?_
   refine Tri.reg ?_
   refine At.seg 4 [0, 2, 3, 4, 10, 11] [5000] (s' := ⟨[(0, .c (oC 5000 3 a1.2)), (2, cD (i6 p2)), (3, cD (i6 p3)), (4, cD (.fn 20 [])), (10, cD (i6 a1.1)), (11, cD (i6 (IntKind.i64.wrap ((IntKind.i64.wrap ((2 : Int) * a1.1)) + 1))))], [(5000, vL 3 encTime a1.2)]⟩) (c := True ∧ True ∧ True ∧ True ∧ True) (by kernel_rfl) ⟨trivial, trivial, trivial, trivial, trivial⟩ ?_
   refine At.done rfl ?_
   show Tri _ _ _ _
   refine Tri.seqS ?_
   refine Tri.seqS ?_
   refine Tri.reg ?_
   refine At.seg 3 [0, 2, 3, 4, 10, 11, 18] [5000] (s' := ⟨[(0, .c (oC 5000 3 a1.2)), (2, cD (i6 p2)), (3, cD (i6 p3)), (4, cD (.fn 20 [])), (10, cD (i6 a1.1)), (11, cD (i6 (IntKind.i64.wrap ((IntKind.i64.wrap ((2 : Int) * a1.1)) + 1)))), (18, cD (.bool (decide (p2 ≤ (IntKind.i64.wrap ((IntKind.i64.wrap ((2 : Int) * a1.1)) + 1))))))], [(5000, vL 3 encTime a1.2)]⟩) (c := True ∧ True ∧ True ∧ True) (by kernel_rfl) ⟨trivial, trivial, trivial, trivial⟩ ?_
   refine At.done rfl ?_
   show Tri _ _ _ _
   refine Tri.condP (b := (decide (p2 ≤ (IntKind.i64.wrap ((IntKind.i64.wrap ((2 : Int) * a1.1)) + 1))))) rfl h (fun h => ?_) (fun h => ?_)
   ·refine Tri.keep [] [5000] (s' := ⟨[], [(5000, vL 3 encTime a1.2)]⟩) (by kernel_rfl) ?_
    refine Tri.exit ?_
    cases h
    exact ⟨rfl, rfl⟩
   ·refine Tri.skip ?_
    show Tri _ _ _ _
    refine Tri.seqJ (fun (a3 : Int) => ⟨[(0, .c (oC 5000 3 a1.2)), (2, cD (i6 p2)), (3, cD (i6 p3)), (4, cD (.fn 20 [])), (10, cD (i6 a1.1)), (11, cD (i6 a3))], [(5000, vL 3 encTime a1.2)]⟩) h (fun a3 h => ?_) (fun j4 h => ?_)
    ·show Tri _ _ ⟨[(0, .c (oC 5000 3 a1.2)), (2, cD (i6 p2)), (3, cD (i6 p3)), (4, cD (.fn 20 [])), (10, cD (i6 a1.1)), (11, cD (i6 a3))], [(5000, vL 3 encTime a1.2)]⟩ _
     refine Tri.seqS ?_
     refine Tri.seqS ?_
     obtain ⟨hc5, h⟩ := need_elim h
     obtain ⟨hc6, h⟩ := need_elim h
     obtain ⟨hc7, h⟩ := need_elim h
     obtain ⟨hc8, h⟩ := need_elim h
     obtain ⟨r9, hr9, h⟩ := bind_elim h
     refine Tri.drawn (specs := [⟨⟨[(4, cD (.fn 20 []))], []⟩, ⟨[(43, cD (.fn 20 []))], []⟩, [], [], []⟩, ⟨⟨[(0, .c (oC 5000 3 a1.2))], []⟩, ⟨[(44, .c (oC 5000 3 a1.2))], []⟩, [], [], []⟩, ⟨⟨[(3, cD (i6 p3))], []⟩, ⟨[(45, cD (i6 p3))], []⟩, [], [], []⟩, ⟨⟨[(10, cD (i6 a1.1))], []⟩, ⟨[(46, cD (i6 a1.1))], []⟩, [], [], []⟩, ⟨⟨[(45, cD (i6 p3)), (46, cD (i6 a1.1))], []⟩, ⟨[(47, cD (i6 (IntKind.i64.wrap (p3 + a1.1))))], []⟩, [], [], []⟩, ⟨⟨[(44, .c (oC 5000 3 a1.2)), (47, cD (i6 (IntKind.i64.wrap (p3 + a1.1))))], [(5000, vL 3 encTime a1.2)]⟩, ⟨[(48, .c (.vptr 5000 3 (0 + (IntKind.i64.wrap (p3 + a1.1)).toNat) 0))], []⟩, [], [], []⟩, ⟨⟨[(48, .c (.vptr 5000 3 (0 + (IntKind.i64.wrap (p3 + a1.1)).toNat) 0))], [(5000, vL 3 encTime a1.2)]⟩, ⟨[(49, .agg (cTime (a1.2.getD (0 + (IntKind.i64.wrap (p3 + a1.1)).toNat) default)))], []⟩, [], [], []⟩, ⟨⟨[(0, .c (oC 5000 3 a1.2))], []⟩, ⟨[(50, .c (oC 5000 3 a1.2))], []⟩, [], [], []⟩, ⟨⟨[(3, cD (i6 p3))], []⟩, ⟨[(51, cD (i6 p3))], []⟩, [], [], []⟩, ⟨⟨[(11, cD (i6 a3))], []⟩, ⟨[(52, cD (i6 a3))], []⟩, [], [], []⟩, ⟨⟨[(51, cD (i6 p3)), (52, cD (i6 a3))], []⟩, ⟨[(53, cD (i6 (IntKind.i64.wrap (p3 + a3))))], []⟩, [], [], []⟩, ⟨⟨[(50, .c (oC 5000 3 a1.2)), (53, cD (i6 (IntKind.i64.wrap (p3 + a3))))], [(5000, vL 3 encTime a1.2)]⟩, ⟨[(54, .c (.vptr 5000 3 (0 + (IntKind.i64.wrap (p3 + a3)).toNat) 0))], []⟩, [], [], []⟩, ⟨⟨[(54, .c (.vptr 5000 3 (0 + (IntKind.i64.wrap (p3 + a3)).toNat) 0))], [(5000, vL 3 encTime a1.2)]⟩, ⟨[(55, .agg (cTime (a1.2.getD (0 + (IntKind.i64.wrap (p3 + a3)).toNat) default)))], []⟩, [], [], []⟩, ⟨⟨[(43, cD (.fn 20 [])), (49, .agg (cTime (a1.2.getD (0 + (IntKind.i64.wrap (p3 + a1.1)).toNat) default))), (55, .agg (cTime (a1.2.getD (0 + (IntKind.i64.wrap (p3 + a3)).toNat) default)))], []⟩, ⟨[(56, cD (i6 r9))], []⟩, [], [], []⟩, ⟨⟨[(56, cD (i6 r9))], []⟩, ⟨[(57, cD (.bool (decide (r9 < 0))))], []⟩, [], [], []⟩, ⟨⟨[(57, cD (.bool (decide (r9 < 0))))], []⟩, ⟨[(58, cD (.bool (!(decide (r9 < 0)))))], []⟩, [], [], []⟩]) (bef := [[], [], [], [], [2, 3], [1, 2, 3, 4], [1, 2, 3, 4, 5], [], [], [], [8, 9], [7, 8, 9, 10], [7, 8, 9, 10, 11], [0, 1, 2, 3, 4, 5, 6, 7, 8, 9, 10, 11, 12], [0, 1, 2, 3, 4, 5, 6, 7, 8, 9, 10, 11, 12, 13], [0, 1, 2, 3, 4, 5, 6, 7, 8, 9, 10, 11, 12, 13, 14]]) (tk := [0, 2, 3, 4, 10, 11, 58]) (sk := [5000]) (s' := ⟨[(0, .c (oC 5000 3 a1.2)), (2, cD (i6 p2)), (3, cD (i6 p3)), (4, cD (.fn 20 [])), (10, cD (i6 a1.1)), (11, cD (i6 a3)), (58, cD (.bool (!(decide (r9 < 0)))))], [(5000, vL 3 encTime a1.2)]⟩) (by kernel_rfl) (by kernel_rfl) (by kernel_rfl) ⟨?_, ?_, ?_, ?_, ?_, ?_, ?_, ?_, ?_, ?_, ?_, ?_, ?_, ?_, ?_, ?_, trivial⟩ (by kernel_rfl) ?_
     · exact DOk.t rfl rfl (by kernel_rfl) (by kernel_rfl)
     · exact DOk.t rfl rfl (by kernel_rfl) (by kernel_rfl)
     · exact DOk.t rfl rfl (by kernel_rfl) (by kernel_rfl)
     · exact DOk.t rfl rfl (by kernel_rfl) (by kernel_rfl)
     · exact DOk.t rfl rfl (by kernel_rfl) (by kernel_rfl)
     · exact DOk.step (.val (.c (.vptr 5000 3 (0 + (IntKind.i64.wrap (p3 + a1.1)).toNat) 0)) ((0 : Int) ≤ (IntKind.i64.wrap (p3 + a1.1)) ∧ (IntKind.i64.wrap (p3 + a1.1)) < (a1.2.length : Int))) (fun r => by kernel_rfl) (fun r => by kernel_rfl) hc5 (by kernel_rfl) (by kernel_rfl) (fun r => rfl)
     · exact DOk.step (.val (.agg (cTime (a1.2.getD (0 + (IntKind.i64.wrap (p3 + a1.1)).toNat) default))) ((0 + (IntKind.i64.wrap (p3 + a1.1)).toNat) < a1.2.length)) (fun r => by kernel_rfl) (fun r => by kernel_rfl) hc6 (by kernel_rfl) (by kernel_rfl) (fun r => rfl)
     · exact DOk.t rfl rfl (by kernel_rfl) (by kernel_rfl)
     · exact DOk.t rfl rfl (by kernel_rfl) (by kernel_rfl)
     · exact DOk.t rfl rfl (by kernel_rfl) (by kernel_rfl)
     · exact DOk.t rfl rfl (by kernel_rfl) (by kernel_rfl)
     · exact DOk.step (.val (.c (.vptr 5000 3 (0 + (IntKind.i64.wrap (p3 + a3)).toNat) 0)) ((0 : Int) ≤ (IntKind.i64.wrap (p3 + a3)) ∧ (IntKind.i64.wrap (p3 + a3)) < (a1.2.length : Int))) (fun r => by kernel_rfl) (fun r => by kernel_rfl) hc7 (by kernel_rfl) (by kernel_rfl) (fun r => rfl)
     · exact DOk.step (.val (.agg (cTime (a1.2.getD (0 + (IntKind.i64.wrap (p3 + a3)).toNat) default))) ((0 + (IntKind.i64.wrap (p3 + a3)).toNat) < a1.2.length)) (fun r => by kernel_rfl) (fun r => by kernel_rfl) hc8 (by kernel_rfl) (by kernel_rfl) (fun r => rfl)
     · exact DOk.callA (caps := []) (xs := [.agg (cTime (a1.2.getD (0 + (IntKind.i64.wrap (p3 + a1.1)).toNat) default)), .agg (cTime (a1.2.getD (0 + (IntKind.i64.wrap (p3 + a3)).toNat) default))]) (moment_Compare_ok hr9) rfl (fun r => by kernel_rfl) rfl (fun r => by kernel_rfl) (fun r => by kernel_rfl) (fun r => (.cons (.refl _) (.cons (.refl _) .nil))) rfl rfl (fun r => rfl)
     · exact DOk.t rfl rfl (by kernel_rfl) (by kernel_rfl)
     · exact DOk.t rfl rfl (by kernel_rfl) (by kernel_rfl)
     show Tri _ _ _ _
     refine Tri.condP (b := (!(decide (r9 < 0)))) rfl h (fun h => ?_) (fun h => ?_)
     ·refine Tri.keep [] [5000] (s' := ⟨[], [(5000, vL 3 encTime a1.2)]⟩) (by kernel_rfl) ?_
      refine Tri.ret ?_
      cases h
      refine ⟨_, _, rfl, trivial, rfl, rfl, ?_⟩
      exact SubS.out ⟨⟨rfl, rfl⟩, trivial⟩
     ·refine Tri.skip ?_
      show Tri _ _ _ _
      refine Tri.seqS ?_
      obtain ⟨hc10, h⟩ := need_elim h
      obtain ⟨hc11, h⟩ := need_elim h
      obtain ⟨hc12, h⟩ := need_elim h
      obtain ⟨hc13, h⟩ := need_elim h
      obtain ⟨hc14, h⟩ := need_elim h
      obtain ⟨hc15, h⟩ := need_elim h
      obtain ⟨hc16, h⟩ := need_elim h
      obtain ⟨hc17, h⟩ := need_elim h
      refine Tri.afterA ⟨[(0, .c (oC 5000 3 a1.2)), (2, cD (i6 p2)), (3, cD (i6 p3)), (4, cD (.fn 20 [])), (11, cD (i6 a3))], [(5000, vL 3 encTime ((a1.2.set (0 + (IntKind.i64.wrap (p3 + a1.1)).toNat) (a1.2.getD (0 + (IntKind.i64.wrap (p3 + a3)).toNat) default)).set (0 + (IntKind.i64.wrap (p3 + a3)).toNat) (a1.2.getD (0 + (IntKind.i64.wrap (p3 + a1.1)).toNat) default)))]⟩ ?_ ?_
      ·refine Tri.drawn (specs := [⟨⟨[(0, .c (oC 5000 3 a1.2))], []⟩, ⟨[(59, .c (oC 5000 3 a1.2))], []⟩, [], [], []⟩, ⟨⟨[(3, cD (i6 p3))], []⟩, ⟨[(60, cD (i6 p3))], []⟩, [], [], []⟩, ⟨⟨[(10, cD (i6 a1.1))], []⟩, ⟨[(61, cD (i6 a1.1))], []⟩, [], [], []⟩, ⟨⟨[(60, cD (i6 p3)), (61, cD (i6 a1.1))], []⟩, ⟨[(62, cD (i6 (IntKind.i64.wrap (p3 + a1.1))))], []⟩, [], [], []⟩, ⟨⟨[(0, .c (oC 5000 3 a1.2))], []⟩, ⟨[(63, .c (oC 5000 3 a1.2))], []⟩, [], [], []⟩, ⟨⟨[(3, cD (i6 p3))], []⟩, ⟨[(64, cD (i6 p3))], []⟩, [], [], []⟩, ⟨⟨[(11, cD (i6 a3))], []⟩, ⟨[(65, cD (i6 a3))], []⟩, [], [], []⟩, ⟨⟨[(64, cD (i6 p3)), (65, cD (i6 a3))], []⟩, ⟨[(66, cD (i6 (IntKind.i64.wrap (p3 + a3))))], []⟩, [], [], []⟩, ⟨⟨[(0, .c (oC 5000 3 a1.2))], []⟩, ⟨[(67, .c (oC 5000 3 a1.2))], []⟩, [], [], []⟩, ⟨⟨[(3, cD (i6 p3))], []⟩, ⟨[(68, cD (i6 p3))], []⟩, [], [], []⟩, ⟨⟨[(11, cD (i6 a3))], []⟩, ⟨[(69, cD (i6 a3))], []⟩, [], [], []⟩, ⟨⟨[(68, cD (i6 p3)), (69, cD (i6 a3))], []⟩, ⟨[(70, cD (i6 (IntKind.i64.wrap (p3 + a3))))], []⟩, [], [], []⟩, ⟨⟨[(67, .c (oC 5000 3 a1.2)), (70, cD (i6 (IntKind.i64.wrap (p3 + a3))))], [(5000, vL 3 encTime a1.2)]⟩, ⟨[(71, .c (.vptr 5000 3 (0 + (IntKind.i64.wrap (p3 + a3)).toNat) 0))], []⟩, [], [], []⟩, ⟨⟨[(71, .c (.vptr 5000 3 (0 + (IntKind.i64.wrap (p3 + a3)).toNat) 0))], [(5000, vL 3 encTime a1.2)]⟩, ⟨[(72, .agg (cTime (a1.2.getD (0 + (IntKind.i64.wrap (p3 + a3)).toNat) default)))], []⟩, [], [], []⟩, ⟨⟨[(0, .c (oC 5000 3 a1.2))], []⟩, ⟨[(73, .c (oC 5000 3 a1.2))], []⟩, [], [], []⟩, ⟨⟨[(3, cD (i6 p3))], []⟩, ⟨[(74, cD (i6 p3))], []⟩, [], [], []⟩, ⟨⟨[(10, cD (i6 a1.1))], []⟩, ⟨[(75, cD (i6 a1.1))], []⟩, [], [], []⟩, ⟨⟨[(74, cD (i6 p3)), (75, cD (i6 a1.1))], []⟩, ⟨[(76, cD (i6 (IntKind.i64.wrap (p3 + a1.1))))], []⟩, [], [], []⟩, ⟨⟨[(73, .c (oC 5000 3 a1.2)), (76, cD (i6 (IntKind.i64.wrap (p3 + a1.1))))], [(5000, vL 3 encTime a1.2)]⟩, ⟨[(77, .c (.vptr 5000 3 (0 + (IntKind.i64.wrap (p3 + a1.1)).toNat) 0))], []⟩, [], [], []⟩, ⟨⟨[(77, .c (.vptr 5000 3 (0 + (IntKind.i64.wrap (p3 + a1.1)).toNat) 0))], [(5000, vL 3 encTime a1.2)]⟩, ⟨[(78, .agg (cTime (a1.2.getD (0 + (IntKind.i64.wrap (p3 + a1.1)).toNat) default)))], []⟩, [], [], []⟩, ⟨⟨[(59, .c (oC 5000 3 a1.2)), (62, cD (i6 (IntKind.i64.wrap (p3 + a1.1))))], [(5000, vL 3 encTime a1.2)]⟩, ⟨[(79, .c (.vptr 5000 3 (0 + (IntKind.i64.wrap (p3 + a1.1)).toNat) 0))], []⟩, [], [], []⟩, ⟨⟨[(72, .agg (cTime (a1.2.getD (0 + (IntKind.i64.wrap (p3 + a3)).toNat) default))), (79, .c (.vptr 5000 3 (0 + (IntKind.i64.wrap (p3 + a1.1)).toNat) 0))], [(5000, vL 3 encTime a1.2)]⟩, ⟨[], [(5000, vL 3 encTime (a1.2.set (0 + (IntKind.i64.wrap (p3 + a1.1)).toNat) (a1.2.getD (0 + (IntKind.i64.wrap (p3 + a3)).toNat) default)))]⟩, [], [], []⟩, ⟨⟨[(63, .c (oC 5000 3 a1.2)), (66, cD (i6 (IntKind.i64.wrap (p3 + a3))))], [(5000, vL 3 encTime (a1.2.set (0 + (IntKind.i64.wrap (p3 + a1.1)).toNat) (a1.2.getD (0 + (IntKind.i64.wrap (p3 + a3)).toNat) default)))]⟩, ⟨[(80, .c (.vptr 5000 3 (0 + (IntKind.i64.wrap (p3 + a3)).toNat) 0))], []⟩, [], [], []⟩, ⟨⟨[(78, .agg (cTime (a1.2.getD (0 + (IntKind.i64.wrap (p3 + a1.1)).toNat) default))), (80, .c (.vptr 5000 3 (0 + (IntKind.i64.wrap (p3 + a3)).toNat) 0))], [(5000, vL 3 encTime (a1.2.set (0 + (IntKind.i64.wrap (p3 + a1.1)).toNat) (a1.2.getD (0 + (IntKind.i64.wrap (p3 + a3)).toNat) default)))]⟩, ⟨[], [(5000, vL 3 encTime ((a1.2.set (0 + (IntKind.i64.wrap (p3 + a1.1)).toNat) (a1.2.getD (0 + (IntKind.i64.wrap (p3 + a3)).toNat) default)).set (0 + (IntKind.i64.wrap (p3 + a3)).toNat) (a1.2.getD (0 + (IntKind.i64.wrap (p3 + a1.1)).toNat) default)))]⟩, [], [], []⟩]) (bef := [[], [], [], [1, 2], [], [], [], [5, 6], [], [], [], [9, 10], [8, 9, 10, 11], [8, 9, 10, 11, 12], [], [], [], [15, 16], [14, 15, 16, 17], [14, 15, 16, 17, 18], [0, 1, 2, 3, 8, 9, 10, 11, 12, 13, 14, 15, 16, 17, 18, 19], [0, 1, 2, 3, 8, 9, 10, 11, 12, 13, 14, 15, 16, 17, 18, 19, 20], [0, 1, 2, 3, 4, 5, 6, 7, 8, 9, 10, 11, 12, 13, 14, 15, 16, 17, 18, 19, 20, 21], [0, 1, 2, 3, 4, 5, 6, 7, 8, 9, 10, 11, 12, 13, 14, 15, 16, 17, 18, 19, 20, 21, 22]]) (tk := [0, 2, 3, 4, 11]) (sk := [5000]) (s' := ⟨[(0, .c (oC 5000 3 a1.2)), (2, cD (i6 p2)), (3, cD (i6 p3)), (4, cD (.fn 20 [])), (11, cD (i6 a3))], [(5000, vL 3 encTime ((a1.2.set (0 + (IntKind.i64.wrap (p3 + a1.1)).toNat) (a1.2.getD (0 + (IntKind.i64.wrap (p3 + a3)).toNat) default)).set (0 + (IntKind.i64.wrap (p3 + a3)).toNat) (a1.2.getD (0 + (IntKind.i64.wrap (p3 + a1.1)).toNat) default)))]⟩) (by kernel_rfl) (by kernel_rfl) (by kernel_rfl) ⟨?_, ?_, ?_, ?_, ?_, ?_, ?_, ?_, ?_, ?_, ?_, ?_, ?_, ?_, ?_, ?_, ?_, ?_, ?_, ?_, ?_, ?_, ?_, ?_, trivial⟩ (by kernel_rfl) ?_
       · exact DOk.t rfl rfl (by kernel_rfl) (by kernel_rfl)
       · exact DOk.t rfl rfl (by kernel_rfl) (by kernel_rfl)
       · exact DOk.t rfl rfl (by kernel_rfl) (by kernel_rfl)
       · exact DOk.t rfl rfl (by kernel_rfl) (by kernel_rfl)
       · exact DOk.t rfl rfl (by kernel_rfl) (by kernel_rfl)
       · exact DOk.t rfl rfl (by kernel_rfl) (by kernel_rfl)
       · exact DOk.t rfl rfl (by kernel_rfl) (by kernel_rfl)
       · exact DOk.t rfl rfl (by kernel_rfl) (by kernel_rfl)
       · exact DOk.t rfl rfl (by kernel_rfl) (by kernel_rfl)
       · exact DOk.t rfl rfl (by kernel_rfl) (by kernel_rfl)
       · exact DOk.t rfl rfl (by kernel_rfl) (by kernel_rfl)
       · exact DOk.t rfl rfl (by kernel_rfl) (by kernel_rfl)
       · exact DOk.step (.val (.c (.vptr 5000 3 (0 + (IntKind.i64.wrap (p3 + a3)).toNat) 0)) ((0 : Int) ≤ (IntKind.i64.wrap (p3 + a3)) ∧ (IntKind.i64.wrap (p3 + a3)) < (a1.2.length : Int))) (fun r => by kernel_rfl) (fun r => by kernel_rfl) hc10 (by kernel_rfl) (by kernel_rfl) (fun r => rfl)
       · exact DOk.step (.val (.agg (cTime (a1.2.getD (0 + (IntKind.i64.wrap (p3 + a3)).toNat) default))) ((0 + (IntKind.i64.wrap (p3 + a3)).toNat) < a1.2.length)) (fun r => by kernel_rfl) (fun r => by kernel_rfl) hc11 (by kernel_rfl) (by kernel_rfl) (fun r => rfl)
       · exact DOk.t rfl rfl (by kernel_rfl) (by kernel_rfl)
       · exact DOk.t rfl rfl (by kernel_rfl) (by kernel_rfl)
       · exact DOk.t rfl rfl (by kernel_rfl) (by kernel_rfl)
       · exact DOk.t rfl rfl (by kernel_rfl) (by kernel_rfl)
       · exact DOk.step (.val (.c (.vptr 5000 3 (0 + (IntKind.i64.wrap (p3 + a1.1)).toNat) 0)) ((0 : Int) ≤ (IntKind.i64.wrap (p3 + a1.1)) ∧ (IntKind.i64.wrap (p3 + a1.1)) < (a1.2.length : Int))) (fun r => by kernel_rfl) (fun r => by kernel_rfl) hc12 (by kernel_rfl) (by kernel_rfl) (fun r => rfl)
       · exact DOk.step (.val (.agg (cTime (a1.2.getD (0 + (IntKind.i64.wrap (p3 + a1.1)).toNat) default))) ((0 + (IntKind.i64.wrap (p3 + a1.1)).toNat) < a1.2.length)) (fun r => by kernel_rfl) (fun r => by kernel_rfl) hc13 (by kernel_rfl) (by kernel_rfl) (fun r => rfl)
       · exact DOk.step (.val (.c (.vptr 5000 3 (0 + (IntKind.i64.wrap (p3 + a1.1)).toNat) 0)) ((0 : Int) ≤ (IntKind.i64.wrap (p3 + a1.1)) ∧ (IntKind.i64.wrap (p3 + a1.1)) < (a1.2.length : Int))) (fun r => by kernel_rfl) (fun r => by kernel_rfl) hc14 (by kernel_rfl) (by kernel_rfl) (fun r => rfl)
       · exact DOk.one fun r hr => One.storeT (xs := [.d (u6 ((a1.2.getD (0 + (IntKind.i64.wrap (p3 + a3)).toNat) default).epoch)), .d (u6 ((a1.2.getD (0 + (IntKind.i64.wrap (p3 + a3)).toNat) default).loop.1)), .d (u6 ((a1.2.getD (0 + (IntKind.i64.wrap (p3 + a3)).toNat) default).loop.2))]) (ds := [u6 ((a1.2.getD (0 + (IntKind.i64.wrap (p3 + a3)).toNat) default).epoch), u6 ((a1.2.getD (0 + (IntKind.i64.wrap (p3 + a3)).toNat) default).loop.1), u6 ((a1.2.getD (0 + (IntKind.i64.wrap (p3 + a3)).toNat) default).loop.2)]) (encTime) a1.2 (a1.2.getD (0 + (IntKind.i64.wrap (p3 + a3)).toNat) default) rfl (by kernel_rfl) rfl rfl rfl hc15 rfl rfl (.refl _) rfl rfl rfl rfl
       · exact DOk.step (.val (.c (.vptr 5000 3 (0 + (IntKind.i64.wrap (p3 + a3)).toNat) 0)) ((0 : Int) ≤ (IntKind.i64.wrap (p3 + a3)) ∧ (IntKind.i64.wrap (p3 + a3)) < (a1.2.length : Int))) (fun r => by kernel_rfl) (fun r => by kernel_rfl) hc16 (by kernel_rfl) (by kernel_rfl) (fun r => rfl)
       · exact DOk.one fun r hr => One.storeT (xs := [.d (u6 ((a1.2.getD (0 + (IntKind.i64.wrap (p3 + a1.1)).toNat) default).epoch)), .d (u6 ((a1.2.getD (0 + (IntKind.i64.wrap (p3 + a1.1)).toNat) default).loop.1)), .d (u6 ((a1.2.getD (0 + (IntKind.i64.wrap (p3 + a1.1)).toNat) default).loop.2))]) (ds := [u6 ((a1.2.getD (0 + (IntKind.i64.wrap (p3 + a1.1)).toNat) default).epoch), u6 ((a1.2.getD (0 + (IntKind.i64.wrap (p3 + a1.1)).toNat) default).loop.1), u6 ((a1.2.getD (0 + (IntKind.i64.wrap (p3 + a1.1)).toNat) default).loop.2)]) (encTime) (a1.2.set (0 + (IntKind.i64.wrap (p3 + a1.1)).toNat) (a1.2.getD (0 + (IntKind.i64.wrap (p3 + a3)).toNat) default)) (a1.2.getD (0 + (IntKind.i64.wrap (p3 + a1.1)).toNat) default) rfl (by kernel_rfl) rfl rfl rfl hc17 rfl rfl (.refl _) rfl rfl rfl rfl
       exact ⟨rfl, rfl⟩
      ·refine At.eqS (s' := ⟨[(0, .c (oC 5000 3 ((a1.2.set (0 + (IntKind.i64.wrap (p3 + a1.1)).toNat) (a1.2.getD (0 + (IntKind.i64.wrap (p3 + a3)).toNat) default)).set (0 + (IntKind.i64.wrap (p3 + a3)).toNat) (a1.2.getD (0 + (IntKind.i64.wrap (p3 + a1.1)).toNat) default)))), (2, cD (i6 p2)), (3, cD (i6 p3)), (4, cD (.fn 20 [])), (11, cD (i6 a3))], [(5000, vL 3 encTime ((a1.2.set (0 + (IntKind.i64.wrap (p3 + a1.1)).toNat) (a1.2.getD (0 + (IntKind.i64.wrap (p3 + a3)).toNat) default)).set (0 + (IntKind.i64.wrap (p3 + a3)).toNat) (a1.2.getD (0 + (IntKind.i64.wrap (p3 + a1.1)).toNat) default)))]⟩) (by simp only [oC, vL, List.length_set]) ?_
       refine At.done rfl ?_
       show Tri _ _ _ _
       refine Tri.reg ?_
       refine At.seg 2 [0, 2, 3, 4, 10] [5000] (s' := ⟨[(0, .c (oC 5000 3 ((a1.2.set (0 + (IntKind.i64.wrap (p3 + a1.1)).toNat) (a1.2.getD (0 + (IntKind.i64.wrap (p3 + a3)).toNat) default)).set (0 + (IntKind.i64.wrap (p3 + a3)).toNat) (a1.2.getD (0 + (IntKind.i64.wrap (p3 + a1.1)).toNat) default)))), (2, cD (i6 p2)), (3, cD (i6 p3)), (4, cD (.fn 20 [])), (10, cD (i6 a3))], [(5000, vL 3 encTime ((a1.2.set (0 + (IntKind.i64.wrap (p3 + a1.1)).toNat) (a1.2.getD (0 + (IntKind.i64.wrap (p3 + a3)).toNat) default)).set (0 + (IntKind.i64.wrap (p3 + a3)).toNat) (a1.2.getD (0 + (IntKind.i64.wrap (p3 + a1.1)).toNat) default)))]⟩) (c := True ∧ True ∧ True) (by kernel_rfl) ⟨trivial, trivial, trivial⟩ ?_
       refine At.done rfl ?_
       cases h
       exact rfl
    ·refine Tri.seqJ (fun (a18 : Int × Bool) => ⟨[(0, .c (oC 5000 3 a1.2)), (2, cD (i6 p2)), (3, cD (i6 p3)), (4, cD (.fn 20 [])), (10, cD (i6 a1.1)), (11, cD (i6 a18.1)), (40, cD (.bool a18.2))], [(5000, vL 3 encTime a1.2)]⟩) h (fun a18 h => ?_) (fun j19 h => ?_)
     ·show Tri _ _ ⟨[(0, .c (oC 5000 3 a1.2)), (2, cD (i6 p2)), (3, cD (i6 p3)), (4, cD (.fn 20 [])), (10, cD (i6 a1.1)), (11, cD (i6 a18.1)), (40, cD (.bool a18.2))], [(5000, vL 3 encTime a1.2)]⟩ _
      refine Tri.condP (b := a18.2) rfl h (fun h => ?_) (fun h => ?_)
      ·refine Tri.reg ?_
       refine At.seg 3 [0, 2, 3, 4, 10, 11] [5000] (s' := ⟨[(0, .c (oC 5000 3 a1.2)), (2, cD (i6 p2)), (3, cD (i6 p3)), (4, cD (.fn 20 [])), (10, cD (i6 a1.1)), (11, cD (i6 (IntKind.i64.wrap (a18.1 + 1))))], [(5000, vL 3 encTime a1.2)]⟩) (c := True ∧ True ∧ True ∧ True) (by kernel_rfl) ⟨trivial, trivial, trivial, trivial⟩ ?_
       refine At.done rfl ?_
       exact ⟨_, h, rfl⟩
      ·refine Tri.keep [0, 2, 3, 4, 10, 11] [5000] (s' := ⟨[(0, .c (oC 5000 3 a1.2)), (2, cD (i6 p2)), (3, cD (i6 p3)), (4, cD (.fn 20 [])), (10, cD (i6 a1.1)), (11, cD (i6 a18.1))], [(5000, vL 3 encTime a1.2)]⟩) (by kernel_rfl) ?_
       refine Tri.skip ?_
       exact ⟨_, h, rfl⟩
     ·rcases bf_cases h with ⟨hp20, h⟩ | ⟨hp20, h⟩
      ·obtain ⟨hc21, h⟩ := need_elim h
       obtain ⟨hc22, h⟩ := need_elim h
       obtain ⟨hc23, h⟩ := need_elim h
       obtain ⟨hc24, h⟩ := need_elim h
       obtain ⟨r25, hr25, h⟩ := bind_elim h
       refine Tri.drawn (specs := [⟨⟨[(11, cD (i6 (IntKind.i64.wrap ((IntKind.i64.wrap ((2 : Int) * a1.1)) + 1))))], []⟩, ⟨[(19, cD (i6 (IntKind.i64.wrap ((IntKind.i64.wrap ((2 : Int) * a1.1)) + 1))))], []⟩, [], [], []⟩, ⟨⟨[(19, cD (i6 (IntKind.i64.wrap ((IntKind.i64.wrap ((2 : Int) * a1.1)) + 1))))], []⟩, ⟨[(20, cD (i6 (IntKind.i64.wrap ((IntKind.i64.wrap ((IntKind.i64.wrap ((2 : Int) * a1.1)) + 1)) + 1))))], []⟩, [], [], []⟩, ⟨⟨[(2, cD (i6 p2))], []⟩, ⟨[(21, cD (i6 p2))], []⟩, [], [], []⟩, ⟨⟨[(20, cD (i6 (IntKind.i64.wrap ((IntKind.i64.wrap ((IntKind.i64.wrap ((2 : Int) * a1.1)) + 1)) + 1)))), (21, cD (i6 p2))], []⟩, ⟨[(22, cD (.bool (decide ((IntKind.i64.wrap ((IntKind.i64.wrap ((IntKind.i64.wrap ((2 : Int) * a1.1)) + 1)) + 1)) < p2))))], []⟩, [], [], []⟩, ⟨⟨[(22, cD (.bool (decide ((IntKind.i64.wrap ((IntKind.i64.wrap ((IntKind.i64.wrap ((2 : Int) * a1.1)) + 1)) + 1)) < p2))))], []⟩, ⟨[(23, .c (.d (.bool true)))], []⟩, [], [], []⟩, ⟨⟨[(4, cD (.fn 20 [])), (23, cD (.bool true))], []⟩, ⟨[(24, cD (.fn 20 []))], []⟩, [], [], []⟩, ⟨⟨[(0, .c (oC 5000 3 a1.2)), (23, cD (.bool true))], []⟩, ⟨[(25, .c (oC 5000 3 a1.2))], []⟩, [], [], []⟩, ⟨⟨[(3, cD (i6 p3)), (23, cD (.bool true))], []⟩, ⟨[(26, cD (i6 p3))], []⟩, [], [], []⟩, ⟨⟨[(11, cD (i6 (IntKind.i64.wrap ((IntKind.i64.wrap ((2 : Int) * a1.1)) + 1)))), (23, cD (.bool true))], []⟩, ⟨[(27, cD (i6 (IntKind.i64.wrap ((IntKind.i64.wrap ((2 : Int) * a1.1)) + 1))))], []⟩, [], [], []⟩, ⟨⟨[(23, cD (.bool true)), (26, cD (i6 p3)), (27, cD (i6 (IntKind.i64.wrap ((IntKind.i64.wrap ((2 : Int) * a1.1)) + 1))))], []⟩, ⟨[(28, cD (i6 (IntKind.i64.wrap (p3 + (IntKind.i64.wrap ((IntKind.i64.wrap ((2 : Int) * a1.1)) + 1))))))], []⟩, [], [], []⟩, ⟨⟨[(23, cD (.bool true)), (25, .c (oC 5000 3 a1.2)), (28, cD (i6 (IntKind.i64.wrap (p3 + (IntKind.i64.wrap ((IntKind.i64.wrap ((2 : Int) * a1.1)) + 1))))))], [(5000, vL 3 encTime a1.2)]⟩, ⟨[(29, .c (.vptr 5000 3 (0 + (IntKind.i64.wrap (p3 + (IntKind.i64.wrap ((IntKind.i64.wrap ((2 : Int) * a1.1)) + 1)))).toNat) 0))], []⟩, [], [], []⟩, ⟨⟨[(23, cD (.bool true)), (29, .c (.vptr 5000 3 (0 + (IntKind.i64.wrap (p3 + (IntKind.i64.wrap ((IntKind.i64.wrap ((2 : Int) * a1.1)) + 1)))).toNat) 0))], [(5000, vL 3 encTime a1.2)]⟩, ⟨[(30, .agg (cTime (a1.2.getD (0 + (IntKind.i64.wrap (p3 + (IntKind.i64.wrap ((IntKind.i64.wrap ((2 : Int) * a1.1)) + 1)))).toNat) default)))], []⟩, [], [], []⟩, ⟨⟨[(0, .c (oC 5000 3 a1.2)), (23, cD (.bool true))], []⟩, ⟨[(31, .c (oC 5000 3 a1.2))], []⟩, [], [], []⟩, ⟨⟨[(3, cD (i6 p3)), (23, cD (.bool true))], []⟩, ⟨[(32, cD (i6 p3))], []⟩, [], [], []⟩, ⟨⟨[(11, cD (i6 (IntKind.i64.wrap ((IntKind.i64.wrap ((2 : Int) * a1.1)) + 1)))), (23, cD (.bool true))], []⟩, ⟨[(33, cD (i6 (IntKind.i64.wrap ((IntKind.i64.wrap ((2 : Int) * a1.1)) + 1))))], []⟩, [], [], []⟩, ⟨⟨[(23, cD (.bool true)), (32, cD (i6 p3)), (33, cD (i6 (IntKind.i64.wrap ((IntKind.i64.wrap ((2 : Int) * a1.1)) + 1))))], []⟩, ⟨[(34, cD (i6 (IntKind.i64.wrap (p3 + (IntKind.i64.wrap ((IntKind.i64.wrap ((2 : Int) * a1.1)) + 1))))))], []⟩, [], [], []⟩, ⟨⟨[(23, cD (.bool true)), (34, cD (i6 (IntKind.i64.wrap (p3 + (IntKind.i64.wrap ((IntKind.i64.wrap ((2 : Int) * a1.1)) + 1))))))], []⟩, ⟨[(35, cD (i6 (IntKind.i64.wrap ((IntKind.i64.wrap (p3 + (IntKind.i64.wrap ((IntKind.i64.wrap ((2 : Int) * a1.1)) + 1)))) + 1))))], []⟩, [], [], []⟩, ⟨⟨[(23, cD (.bool true)), (31, .c (oC 5000 3 a1.2)), (35, cD (i6 (IntKind.i64.wrap ((IntKind.i64.wrap (p3 + (IntKind.i64.wrap ((IntKind.i64.wrap ((2 : Int) * a1.1)) + 1)))) + 1))))], [(5000, vL 3 encTime a1.2)]⟩, ⟨[(36, .c (.vptr 5000 3 (0 + (IntKind.i64.wrap ((IntKind.i64.wrap (p3 + (IntKind.i64.wrap ((IntKind.i64.wrap ((2 : Int) * a1.1)) + 1)))) + 1)).toNat) 0))], []⟩, [], [], []⟩, ⟨⟨[(23, cD (.bool true)), (36, .c (.vptr 5000 3 (0 + (IntKind.i64.wrap ((IntKind.i64.wrap (p3 + (IntKind.i64.wrap ((IntKind.i64.wrap ((2 : Int) * a1.1)) + 1)))) + 1)).toNat) 0))], [(5000, vL 3 encTime a1.2)]⟩, ⟨[(37, .agg (cTime (a1.2.getD (0 + (IntKind.i64.wrap ((IntKind.i64.wrap (p3 + (IntKind.i64.wrap ((IntKind.i64.wrap ((2 : Int) * a1.1)) + 1)))) + 1)).toNat) default)))], []⟩, [], [], []⟩, ⟨⟨[(23, cD (.bool true)), (24, cD (.fn 20 [])), (30, .agg (cTime (a1.2.getD (0 + (IntKind.i64.wrap (p3 + (IntKind.i64.wrap ((IntKind.i64.wrap ((2 : Int) * a1.1)) + 1)))).toNat) default))), (37, .agg (cTime (a1.2.getD (0 + (IntKind.i64.wrap ((IntKind.i64.wrap (p3 + (IntKind.i64.wrap ((IntKind.i64.wrap ((2 : Int) * a1.1)) + 1)))) + 1)).toNat) default)))], []⟩, ⟨[(38, cD (i6 r25))], []⟩, [], [], []⟩, ⟨⟨[(23, cD (.bool true)), (38, cD (i6 r25))], []⟩, ⟨[(39, cD (.bool (decide (r25 < 0))))], []⟩, [], [], []⟩, ⟨⟨[(23, cD (.bool true)), (39, cD (.bool (decide (r25 < 0))))], []⟩, ⟨[(40, cD (.bool (decide (r25 < 0))))], []⟩, [], [], []⟩]) (bef := [[], [0], [], [0, 1, 2], [0, 1, 2, 3], [0, 1, 2, 3, 4], [0, 1, 2, 3, 4], [0, 1, 2, 3, 4], [0, 1, 2, 3, 4], [0, 1, 2, 3, 4, 7, 8], [0, 1, 2, 3, 4, 6, 7, 8, 9], [0, 1, 2, 3, 4, 6, 7, 8, 9, 10], [0, 1, 2, 3, 4], [0, 1, 2, 3, 4], [0, 1, 2, 3, 4], [0, 1, 2, 3, 4, 13, 14], [0, 1, 2, 3, 4, 13, 14, 15], [0, 1, 2, 3, 4, 12, 13, 14, 15, 16], [0, 1, 2, 3, 4, 12, 13, 14, 15, 16, 17], [0, 1, 2, 3, 4, 5, 6, 7, 8, 9, 10, 11, 12, 13, 14, 15, 16, 17, 18], [0, 1, 2, 3, 4, 5, 6, 7, 8, 9, 10, 11, 12, 13, 14, 15, 16, 17, 18, 19], [0, 1, 2, 3, 4, 5, 6, 7, 8, 9, 10, 11, 12, 13, 14, 15, 16, 17, 18, 19, 20]]) (tk := [0, 2, 3, 4, 10, 11, 40]) (sk := [5000]) (s' := ⟨[(0, .c (oC 5000 3 a1.2)), (2, cD (i6 p2)), (3, cD (i6 p3)), (4, cD (.fn 20 [])), (10, cD (i6 a1.1)), (11, cD (i6 (IntKind.i64.wrap ((IntKind.i64.wrap ((2 : Int) * a1.1)) + 1)))), (40, cD (.bool (decide (r25 < 0))))], [(5000, vL 3 encTime a1.2)]⟩) (by kernel_rfl) (by kernel_rfl) (by kernel_rfl) ⟨?_, ?_, ?_, ?_, ?_, ?_, ?_, ?_, ?_, ?_, ?_, ?_, ?_, ?_, ?_, ?_, ?_, ?_, ?_, ?_, ?_, ?_, trivial⟩ (by kernel_rfl) ?_
       · exact DOk.t rfl rfl (by kernel_rfl) (by kernel_rfl)
       · exact DOk.t rfl rfl (by kernel_rfl) (by kernel_rfl)
       · exact DOk.t rfl rfl (by kernel_rfl) (by kernel_rfl)
       · exact DOk.t rfl rfl (by kernel_rfl) (by kernel_rfl)
       · exact DOk.stepP (fun b => .val (.c (.d (.bool b))) (True)) (p := (decide ((IntKind.i64.wrap ((IntKind.i64.wrap ((IntKind.i64.wrap ((2 : Int) * a1.1)) + 1)) + 1)) < p2))) hp20 (fun r => by kernel_rfl) (fun r => by kernel_rfl) trivial (by kernel_rfl) (by kernel_rfl) (fun r => rfl)
       · exact DOk.t rfl rfl (by kernel_rfl) (by kernel_rfl)
       · exact DOk.t rfl rfl (by kernel_rfl) (by kernel_rfl)
       · exact DOk.t rfl rfl (by kernel_rfl) (by kernel_rfl)
       · exact DOk.t rfl rfl (by kernel_rfl) (by kernel_rfl)
       · exact DOk.t rfl rfl (by kernel_rfl) (by kernel_rfl)
       · exact DOk.step (.val (.c (.vptr 5000 3 (0 + (IntKind.i64.wrap (p3 + (IntKind.i64.wrap ((IntKind.i64.wrap ((2 : Int) * a1.1)) + 1)))).toNat) 0)) ((0 : Int) ≤ (IntKind.i64.wrap (p3 + (IntKind.i64.wrap ((IntKind.i64.wrap ((2 : Int) * a1.1)) + 1)))) ∧ (IntKind.i64.wrap (p3 + (IntKind.i64.wrap ((IntKind.i64.wrap ((2 : Int) * a1.1)) + 1)))) < (a1.2.length : Int))) (fun r => by kernel_rfl) (fun r => by kernel_rfl) hc21 (by kernel_rfl) (by kernel_rfl) (fun r => rfl)
       · exact DOk.step (.val (.agg (cTime (a1.2.getD (0 + (IntKind.i64.wrap (p3 + (IntKind.i64.wrap ((IntKind.i64.wrap ((2 : Int) * a1.1)) + 1)))).toNat) default))) ((0 + (IntKind.i64.wrap (p3 + (IntKind.i64.wrap ((IntKind.i64.wrap ((2 : Int) * a1.1)) + 1)))).toNat) < a1.2.length)) (fun r => by kernel_rfl) (fun r => by kernel_rfl) hc22 (by kernel_rfl) (by kernel_rfl) (fun r => rfl)
       · exact DOk.t rfl rfl (by kernel_rfl) (by kernel_rfl)
       · exact DOk.t rfl rfl (by kernel_rfl) (by kernel_rfl)
       · exact DOk.t rfl rfl (by kernel_rfl) (by kernel_rfl)
       · exact DOk.t rfl rfl (by kernel_rfl) (by kernel_rfl)
       · exact DOk.t rfl rfl (by kernel_rfl) (by kernel_rfl)
       · exact DOk.step (.val (.c (.vptr 5000 3 (0 + (IntKind.i64.wrap ((IntKind.i64.wrap (p3 + (IntKind.i64.wrap ((IntKind.i64.wrap ((2 : Int) * a1.1)) + 1)))) + 1)).toNat) 0)) ((0 : Int) ≤ (IntKind.i64.wrap ((IntKind.i64.wrap (p3 + (IntKind.i64.wrap ((IntKind.i64.wrap ((2 : Int) * a1.1)) + 1)))) + 1)) ∧ (IntKind.i64.wrap ((IntKind.i64.wrap (p3 + (IntKind.i64.wrap ((IntKind.i64.wrap ((2 : Int) * a1.1)) + 1)))) + 1)) < (a1.2.length : Int))) (fun r => by kernel_rfl) (fun r => by kernel_rfl) hc23 (by kernel_rfl) (by kernel_rfl) (fun r => rfl)
       · exact DOk.step (.val (.agg (cTime (a1.2.getD (0 + (IntKind.i64.wrap ((IntKind.i64.wrap (p3 + (IntKind.i64.wrap ((IntKind.i64.wrap ((2 : Int) * a1.1)) + 1)))) + 1)).toNat) default))) ((0 + (IntKind.i64.wrap ((IntKind.i64.wrap (p3 + (IntKind.i64.wrap ((IntKind.i64.wrap ((2 : Int) * a1.1)) + 1)))) + 1)).toNat) < a1.2.length)) (fun r => by kernel_rfl) (fun r => by kernel_rfl) hc24 (by kernel_rfl) (by kernel_rfl) (fun r => rfl)
       · exact DOk.callA (caps := []) (xs := [.agg (cTime (a1.2.getD (0 + (IntKind.i64.wrap (p3 + (IntKind.i64.wrap ((IntKind.i64.wrap ((2 : Int) * a1.1)) + 1)))).toNat) default)), .agg (cTime (a1.2.getD (0 + (IntKind.i64.wrap ((IntKind.i64.wrap (p3 + (IntKind.i64.wrap ((IntKind.i64.wrap ((2 : Int) * a1.1)) + 1)))) + 1)).toNat) default))]) (moment_Compare_ok hr25) rfl (fun r => by kernel_rfl) rfl (fun r => by kernel_rfl) (fun r => by kernel_rfl) (fun r => (.cons (.refl _) (.cons (.refl _) .nil))) rfl rfl (fun r => rfl)
       · exact DOk.t rfl rfl (by kernel_rfl) (by kernel_rfl)
       · exact DOk.t rfl rfl (by kernel_rfl) (by kernel_rfl)
       exact ⟨_, h, rfl⟩
      ·refine Tri.drawn (specs := [⟨⟨[(11, cD (i6 (IntKind.i64.wrap ((IntKind.i64.wrap ((2 : Int) * a1.1)) + 1))))], []⟩, ⟨[(19, cD (i6 (IntKind.i64.wrap ((IntKind.i64.wrap ((2 : Int) * a1.1)) + 1))))], []⟩, [], [], []⟩, ⟨⟨[(19, cD (i6 (IntKind.i64.wrap ((IntKind.i64.wrap ((2 : Int) * a1.1)) + 1))))], []⟩, ⟨[(20, cD (i6 (IntKind.i64.wrap ((IntKind.i64.wrap ((IntKind.i64.wrap ((2 : Int) * a1.1)) + 1)) + 1))))], []⟩, [], [], []⟩, ⟨⟨[(2, cD (i6 p2))], []⟩, ⟨[(21, cD (i6 p2))], []⟩, [], [], []⟩, ⟨⟨[(20, cD (i6 (IntKind.i64.wrap ((IntKind.i64.wrap ((IntKind.i64.wrap ((2 : Int) * a1.1)) + 1)) + 1)))), (21, cD (i6 p2))], []⟩, ⟨[(22, cD (.bool (decide ((IntKind.i64.wrap ((IntKind.i64.wrap ((IntKind.i64.wrap ((2 : Int) * a1.1)) + 1)) + 1)) < p2))))], []⟩, [], [], []⟩, ⟨⟨[(22, cD (.bool (decide ((IntKind.i64.wrap ((IntKind.i64.wrap ((IntKind.i64.wrap ((2 : Int) * a1.1)) + 1)) + 1)) < p2))))], []⟩, ⟨[(23, .c (.d (.bool false)))], []⟩, [], [], []⟩, ⟨⟨[(4, cD (.fn 20 [])), (23, cD (.bool false))], []⟩, ⟨[(24, .tup [])], []⟩, [], [], []⟩, ⟨⟨[(0, .c (oC 5000 3 a1.2)), (23, cD (.bool false))], []⟩, ⟨[(25, .tup [])], []⟩, [], [], []⟩, ⟨⟨[(3, cD (i6 p3)), (23, cD (.bool false))], []⟩, ⟨[(26, .tup [])], []⟩, [], [], []⟩, ⟨⟨[(11, cD (i6 (IntKind.i64.wrap ((IntKind.i64.wrap ((2 : Int) * a1.1)) + 1)))), (23, cD (.bool false))], []⟩, ⟨[(27, .tup [])], []⟩, [], [], []⟩, ⟨⟨[(23, cD (.bool false)), (26, .tup []), (27, .tup [])], []⟩, ⟨[(28, .tup [])], []⟩, [], [], []⟩, ⟨⟨[(23, cD (.bool false)), (25, .tup []), (28, .tup [])], []⟩, ⟨[(29, .tup [])], []⟩, [], [], []⟩, ⟨⟨[(23, cD (.bool false)), (29, .tup [])], []⟩, ⟨[(30, .tup [])], []⟩, [], [], []⟩, ⟨⟨[(0, .c (oC 5000 3 a1.2)), (23, cD (.bool false))], []⟩, ⟨[(31, .tup [])], []⟩, [], [], []⟩, ⟨⟨[(3, cD (i6 p3)), (23, cD (.bool false))], []⟩, ⟨[(32, .tup [])], []⟩, [], [], []⟩, ⟨⟨[(11, cD (i6 (IntKind.i64.wrap ((IntKind.i64.wrap ((2 : Int) * a1.1)) + 1)))), (23, cD (.bool false))], []⟩, ⟨[(33, .tup [])], []⟩, [], [], []⟩, ⟨⟨[(23, cD (.bool false)), (32, .tup []), (33, .tup [])], []⟩, ⟨[(34, .tup [])], []⟩, [], [], []⟩, ⟨⟨[(23, cD (.bool false)), (34, .tup [])], []⟩, ⟨[(35, .tup [])], []⟩, [], [], []⟩, ⟨⟨[(23, cD (.bool false)), (31, .tup []), (35, .tup [])], []⟩, ⟨[(36, .tup [])], []⟩, [], [], []⟩, ⟨⟨[(23, cD (.bool false)), (36, .tup [])], []⟩, ⟨[(37, .tup [])], []⟩, [], [], []⟩, ⟨⟨[(23, cD (.bool false)), (24, .tup []), (30, .tup []), (37, .tup [])], []⟩, ⟨[(38, .tup [])], []⟩, [], [], []⟩, ⟨⟨[(23, cD (.bool false)), (38, .tup [])], []⟩, ⟨[(39, .tup [])], []⟩, [], [], []⟩, ⟨⟨[(23, cD (.bool false)), (39, .tup [])], []⟩, ⟨[(40, cD (.bool false))], []⟩, [], [], []⟩]) (bef := [[], [0], [], [0, 1, 2], [0, 1, 2, 3], [0, 1, 2, 3, 4], [0, 1, 2, 3, 4], [0, 1, 2, 3, 4], [0, 1, 2, 3, 4], [0, 1, 2, 3, 4, 7, 8], [0, 1, 2, 3, 4, 6, 7, 8, 9], [0, 1, 2, 3, 4, 6, 7, 8, 9, 10], [0, 1, 2, 3, 4], [0, 1, 2, 3, 4], [0, 1, 2, 3, 4], [0, 1, 2, 3, 4, 13, 14], [0, 1, 2, 3, 4, 13, 14, 15], [0, 1, 2, 3, 4, 12, 13, 14, 15, 16], [0, 1, 2, 3, 4, 12, 13, 14, 15, 16, 17], [0, 1, 2, 3, 4, 5, 6, 7, 8, 9, 10, 11, 12, 13, 14, 15, 16, 17, 18], [0, 1, 2, 3, 4, 5, 6, 7, 8, 9, 10, 11, 12, 13, 14, 15, 16, 17, 18, 19], [0, 1, 2, 3, 4, 5, 6, 7, 8, 9, 10, 11, 12, 13, 14, 15, 16, 17, 18, 19, 20]]) (tk := [0, 2, 3, 4, 10, 11, 40]) (sk := [5000]) (s' := ⟨[(0, .c (oC 5000 3 a1.2)), (2, cD (i6 p2)), (3, cD (i6 p3)), (4, cD (.fn 20 [])), (10, cD (i6 a1.1)), (11, cD (i6 (IntKind.i64.wrap ((IntKind.i64.wrap ((2 : Int) * a1.1)) + 1)))), (40, cD (.bool false))], [(5000, vL 3 encTime a1.2)]⟩) (by kernel_rfl) (by kernel_rfl) (by kernel_rfl) ⟨?_, ?_, ?_, ?_, ?_, ?_, ?_, ?_, ?_, ?_, ?_, ?_, ?_, ?_, ?_, ?_, ?_, ?_, ?_, ?_, ?_, ?_, trivial⟩ (by kernel_rfl) ?_
       · exact DOk.t rfl rfl (by kernel_rfl) (by kernel_rfl)
       · exact DOk.t rfl rfl (by kernel_rfl) (by kernel_rfl)
       · exact DOk.t rfl rfl (by kernel_rfl) (by kernel_rfl)
       · exact DOk.t rfl rfl (by kernel_rfl) (by kernel_rfl)
       · exact DOk.stepP (fun b => .val (.c (.d (.bool b))) (True)) (p := (decide ((IntKind.i64.wrap ((IntKind.i64.wrap ((IntKind.i64.wrap ((2 : Int) * a1.1)) + 1)) + 1)) < p2))) hp20 (fun r => by kernel_rfl) (fun r => by kernel_rfl) trivial (by kernel_rfl) (by kernel_rfl) (fun r => rfl)
       · exact DOk.skip (fun r => by kernel_rfl) rfl rfl (fun r => rfl)
       · exact DOk.skip (fun r => by kernel_rfl) rfl rfl (fun r => rfl)
       · exact DOk.skip (fun r => by kernel_rfl) rfl rfl (fun r => rfl)
       · exact DOk.skip (fun r => by kernel_rfl) rfl rfl (fun r => rfl)
       · exact DOk.skip (fun r => by kernel_rfl) rfl rfl (fun r => rfl)
       · exact DOk.skip (fun r => by kernel_rfl) rfl rfl (fun r => rfl)
       · exact DOk.skip (fun r => by kernel_rfl) rfl rfl (fun r => rfl)
       · exact DOk.skip (fun r => by kernel_rfl) rfl rfl (fun r => rfl)
       · exact DOk.skip (fun r => by kernel_rfl) rfl rfl (fun r => rfl)
       · exact DOk.skip (fun r => by kernel_rfl) rfl rfl (fun r => rfl)
       · exact DOk.skip (fun r => by kernel_rfl) rfl rfl (fun r => rfl)
       · exact DOk.skip (fun r => by kernel_rfl) rfl rfl (fun r => rfl)
       · exact DOk.skip (fun r => by kernel_rfl) rfl rfl (fun r => rfl)
       · exact DOk.skip (fun r => by kernel_rfl) rfl rfl (fun r => rfl)
       · exact DOk.skip (fun r => by kernel_rfl) rfl rfl (fun r => rfl)
       · exact DOk.skip (fun r => by kernel_rfl) rfl rfl (fun r => rfl)
       · exact DOk.t rfl rfl (by kernel_rfl) (by kernel_rfl)
       exact ⟨_, h, rfl⟩
  ·intro a2 h
   cases h
   refine ⟨_, _, rfl, trivial, rfl, rfl, ?_⟩
   exact SubS.out ⟨⟨rfl, rfl⟩, trivial⟩
  · exact fun x s hx hr => by cases hx; exact hr

set_option maxRecDepth 100000 in
theorem slices_heapSortCmpFunc_Time__Compare_w_ok {fuel : Nat} {p1 : Int} {p2 : Int} {l0 : List Time} {q : List Time} (h : slices_heapSortCmpFunc_Time__Compare_w fuel p1 p2 l0 = some q) :
    Summ Try.prog 50 [.c (oC 5000 3 l0), cD (i6 p1), cD (i6 p2), cD (.fn 20 [])] [(5000, vL 3 encTime l0)] (.tup []) [(5000, vL 3 encTime q)] := by
  refine Summ.intro Try.func50 rfl (by kernel_rfl) (by kernel_rfl) [] rfl ?_
  rintro ⟨P, w0, G0, V, LL, lk, N, φ0, fx⟩ rfl rfl rfl rfl
  unfold slices_heapSortCmpFunc_Time__Compare_w at h
  refine Tri.seqS ?_
  refine Tri.reg ?_
  refine At.seg 2 [0, 1, 2, 3, 8] [5000] (s' := ⟨[(0, .c (oC 5000 3 l0)), (1, cD (i6 p1)), (2, cD (i6 p2)), (3, cD (.fn 20 [])), (8, cD (i6 p1))], [(5000, vL 3 encTime l0)]⟩) (c := True ∧ True ∧ True) (by kernel_rfl) ⟨trivial, trivial, trivial⟩ ?_
  refine At.done rfl ?_
  show Tri _ _ _ _
  refine Tri.seqS ?_
  refine Tri.reg ?_
  refine At.seg 1 [0, 1, 2, 3, 8, 9] [5000] (s' := ⟨[(0, .c (oC 5000 3 l0)), (1, cD (i6 p1)), (2, cD (i6 p2)), (3, cD (.fn 20 [])), (8, cD (i6 p1)), (9, cD (i6 0))], [(5000, vL 3 encTime l0)]⟩) (c := True ∧ True) (by kernel_rfl) ⟨trivial, trivial⟩ ?_
  refine At.done rfl ?_
  show Tri _ _ _ _
  refine Tri.seqS ?_
  refine Tri.reg ?_
  refine At.seg 4 [0, 3, 8, 9, 10] [5000] (s' := ⟨[(0, .c (oC 5000 3 l0)), (3, cD (.fn 20 [])), (8, cD (i6 p1)), (9, cD (i6 0)), (10, cD (i6 (IntKind.i64.wrap (p2 - p1))))], [(5000, vL 3 encTime l0)]⟩) (c := True ∧ True ∧ True ∧ True ∧ True) (by kernel_rfl) ⟨trivial, trivial, trivial, trivial, trivial⟩ ?_
  refine At.done rfl ?_
  show Tri _ _ _ _
  refine Tri.seqS ?_
  refine Tri.seqS ?_
  refine Tri.reg ?_
  refine At.seg 4 [0, 3, 8, 9, 10, 11] [5000] (s' := ⟨[(0, .c (oC 5000 3 l0)), (3, cD (.fn 20 [])), (8, cD (i6 p1)), (9, cD (i6 0)), (10, cD (i6 (IntKind.i64.wrap (p2 - p1)))), (11, cD (i6 (IntKind.i64.wrap ((IntKind.i64.wrap ((IntKind.i64.wrap (p2 - p1)) - 1)).tdiv 2))))], [(5000, vL 3 encTime l0)]⟩) (c := True ∧ True ∧ ((2 : Int) ≠ 0) ∧ True ∧ True) (by kernel_rfl) ⟨trivial, trivial, (by decide : (2 : Int) ≠ 0), trivial, trivial⟩ ?_
  refine At.done rfl ?_
  show Tri _ _ _ _
  refine Tri.keep [0, 3, 8, 9, 10, 11] [5000] (s' := ⟨[(0, .c (oC 5000 3 l0)), (3, cD (.fn 20 [])), (8, cD (i6 p1)), (9, cD (i6 0)), (10, cD (i6 (IntKind.i64.wrap (p2 - p1)))), (11, cD (i6 (IntKind.i64.wrap ((IntKind.i64.wrap ((IntKind.i64.wrap (p2 - p1)) - 1)).tdiv 2))))], [(5000, vL 3 encTime l0)]⟩) (by kernel_rfl) ?_
  refine Tri.loopK (fuel := fuel) (st0 := ((IntKind.i64.wrap ((IntKind.i64.wrap ((IntKind.i64.wrap (p2 - p1)) - 1)).tdiv 2)), l0)) (fun (x : Empty) s => False) (fun (a1 : Int × (List Time)) => ⟨[(0, .c (oC 5000 3 a1.2)), (3, cD (.fn 20 [])), (8, cD (i6 p1)), (9, cD (i6 0)), (10, cD (i6 (IntKind.i64.wrap (p2 - p1)))), (11, cD (i6 a1.1))], [(5000, vL 3 encTime a1.2)]⟩) (fun (a1 : Int × (List Time)) => ⟨[(0, .c (oC 5000 3 a1.2)), (3, cD (.fn 20 [])), (8, cD (i6 p1)), (9, cD (i6 0)), (10, cD (i6 (IntKind.i64.wrap (p2 - p1)))), (11, cD (i6 a1.1))], [(5000, vL 3 encTime a1.2)]⟩) h ?_ ?_ ?_
  ·intro a1 c h
   show Tri _ _ ⟨[(0, .c (oC 5000 3 a1.2)), (3, cD (.fn 20 [])), (8, cD (i6 p1)), (9, cD (i6 0)), (10, cD (i6 (IntKind.i64.wrap (p2 - p1)))), (11, cD (i6 a1.1))], [(5000, vL 3 encTime a1.2)]⟩ _
   refine Tri.seqS ?_
   refine Tri.seqS ?_
   refine Tri.reg ?_
   refine At.seg 2 [0, 3, 8, 9, 10, 11, 21] [5000] (s' := ⟨[(0, .c (oC 5000 3 a1.2)), (3, cD (.fn 20 [])), (8, cD (i6 p1)), (9, cD (i6 0)), (10, cD (i6 (IntKind.i64.wrap (p2 - p1)))), (11, cD (i6 a1.1)), (21, cD (.bool (decide (0 ≤ a1.1))))], [(5000, vL 3 encTime a1.2)]⟩) (c := True ∧ True ∧ True) (by kernel_rfl) ⟨trivial, trivial, trivial⟩ ?_
   refine At.done rfl ?_
   show Tri _ _ _ _
   refine Tri.condP (b := (decide (0 ≤ a1.1))) rfl h (fun h => ?_) (fun h => ?_)
   ·refine Tri.skip ?_
    show Tri _ _ _ _
    refine Tri.seqS ?_
    refine Tri.blockB ?_
    refine Tri.reg ?_
    refine At.seg 5 [0, 3, 8, 9, 10, 11, 24, 25, 26, 27, 28] [5000] (s' := ⟨[(0, .c (oC 5000 3 a1.2)), (3, cD (.fn 20 [])), (8, cD (i6 p1)), (9, cD (i6 0)), (10, cD (i6 (IntKind.i64.wrap (p2 - p1)))), (11, cD (i6 a1.1)), (24, .c (oC 5000 3 a1.2)), (25, cD (i6 a1.1)), (26, cD (i6 (IntKind.i64.wrap (p2 - p1)))), (27, cD (i6 p1)), (28, cD (.fn 20 []))], [(5000, vL 3 encTime a1.2)]⟩) (c := True ∧ True ∧ True ∧ True ∧ True ∧ True) (by kernel_rfl) ⟨trivial, trivial, trivial, trivial, trivial, trivial⟩ ?_
    obtain ⟨r15, hr15, h⟩ := bind_elim h
    refine At.callL (nf := 0) (caps := []) (xs := [.c (oC 5000 3 a1.2), cD (i6 a1.1), cD (i6 (IntKind.i64.wrap (p2 - p1))), cD (i6 p1), cD (.fn 20 [])]) [(5000, 5000)] [0, 3, 8, 9, 10, 11] [] (s0 := ⟨[(0, .c (oC 5000 3 a1.2)), (3, cD (.fn 20 [])), (8, cD (i6 p1)), (9, cD (i6 0)), (10, cD (i6 (IntKind.i64.wrap (p2 - p1)))), (11, cD (i6 a1.1))], []⟩) (slices_siftDownCmpFunc_Time__Compare_w_ok hr15) rfl rfl (by kernel_rfl) rfl (by kernel_rfl) (by kernel_rfl) (.ren rfl rfl (.flat (.refl _) rfl rfl (.flat (.refl _) rfl rfl (.flat (.refl _) rfl rfl (.flat (.refl _) rfl rfl .nil))))) ⟨⟨by kernel_rfl, by kernel_rfl⟩, trivial⟩ (by kernel_rfl) (by kernel_rfl) (by kernel_rfl) (by kernel_rfl) (by kernel_rfl) (by kernel_rfl) (by kernel_rfl) (by kernel_rfl) (by kernel_rfl) ⟨[(29, .tup []), (0, .c (oC 5000 3 a1.2)), (3, cD (.fn 20 [])), (8, cD (i6 p1)), (9, cD (i6 0)), (10, cD (i6 (IntKind.i64.wrap (p2 - p1)))), (11, cD (i6 a1.1))], [(5000, vL 3 encTime r15)]⟩ (by kernel_rfl) ?_
    obtain ⟨hc16, h⟩ := need_elim h
    refine At.eqS ⟨[(29, .tup []), (0, .c (oC 5000 3 r15)), (3, cD (.fn 20 [])), (8, cD (i6 p1)), (9, cD (i6 0)), (10, cD (i6 (IntKind.i64.wrap (p2 - p1)))), (11, cD (i6 a1.1))], [(5000, vL 3 encTime r15)]⟩ (by simp only [oC, vL, hc16]) ?_
    refine At.done rfl ?_
    show Tri _ _ _ _
    refine Tri.reg ?_
    refine At.seg 3 [0, 3, 8, 9, 10, 11] [5000] (s' := ⟨[(0, .c (oC 5000 3 r15)), (3, cD (.fn 20 [])), (8, cD (i6 p1)), (9, cD (i6 0)), (10, cD (i6 (IntKind.i64.wrap (p2 - p1)))), (11, cD (i6 (IntKind.i64.wrap (a1.1 - 1))))], [(5000, vL 3 encTime r15)]⟩) (c := True ∧ True ∧ True ∧ True) (by kernel_rfl) ⟨trivial, trivial, trivial, trivial⟩ ?_
    refine At.done rfl ?_
    cases h
    exact rfl
   ·refine Tri.keep [0, 3, 8, 9, 10, 11] [5000] (s' := ⟨[(0, .c (oC 5000 3 a1.2)), (3, cD (.fn 20 [])), (8, cD (i6 p1)), (9, cD (i6 0)), (10, cD (i6 (IntKind.i64.wrap (p2 - p1)))), (11, cD (i6 a1.1))], [(5000, vL 3 encTime a1.2)]⟩) (by kernel_rfl) ?_
    refine Tri.exit ?_
    cases h
    exact ⟨rfl, rfl⟩
  ·intro a2 h
   show Tri _ _ _ _
   refine Tri.seqS ?_
   refine Tri.reg ?_
   refine At.seg 3 [0, 3, 8, 9, 12] [5000] (s' := ⟨[(0, .c (oC 5000 3 a2.2)), (3, cD (.fn 20 [])), (8, cD (i6 p1)), (9, cD (i6 0)), (12, cD (i6 (IntKind.i64.wrap ((IntKind.i64.wrap (p2 - p1)) - 1))))], [(5000, vL 3 encTime a2.2)]⟩) (c := True ∧ True ∧ True ∧ True) (by kernel_rfl) ⟨trivial, trivial, trivial, trivial⟩ ?_
   refine At.done rfl ?_
   show Tri _ _ _ _
   refine Tri.keep [0, 3, 8, 9, 12] [5000] (s' := ⟨[(0, .c (oC 5000 3 a2.2)), (3, cD (.fn 20 [])), (8, cD (i6 p1)), (9, cD (i6 0)), (12, cD (i6 (IntKind.i64.wrap ((IntKind.i64.wrap (p2 - p1)) - 1))))], [(5000, vL 3 encTime a2.2)]⟩) (by kernel_rfl) ?_
   refine Tri.loopK (fuel := fuel) (st0 := ((IntKind.i64.wrap ((IntKind.i64.wrap (p2 - p1)) - 1)), a2.2)) (fun (x : Empty) s => False) (fun (a3 : Int × (List Time)) => ⟨[(0, .c (oC 5000 3 a3.2)), (3, cD (.fn 20 [])), (8, cD (i6 p1)), (9, cD (i6 0)), (12, cD (i6 a3.1))], [(5000, vL 3 encTime a3.2)]⟩) (fun (a3 : Int × (List Time)) => ⟨[], [(5000, vL 3 encTime a3.2)]⟩) h ?_ ?_ ?_
   ·intro a3 c h
    show Tri _ _ ⟨[(0, .c (oC 5000 3 a3.2)), (3, cD (.fn 20 [])), (8, cD (i6 p1)), (9, cD (i6 0)), (12, cD (i6 a3.1))], [(5000, vL 3 encTime a3.2)]⟩ _
    refine Tri.seqS ?_
    refine Tri.seqS ?_
    refine Tri.reg ?_
    refine At.seg 2 [0, 3, 8, 9, 12, 33] [5000] (s' := ⟨[(0, .c (oC 5000 3 a3.2)), (3, cD (.fn 20 [])), (8, cD (i6 p1)), (9, cD (i6 0)), (12, cD (i6 a3.1)), (33, cD (.bool (decide (0 ≤ a3.1))))], [(5000, vL 3 encTime a3.2)]⟩) (c := True ∧ True ∧ True) (by kernel_rfl) ⟨trivial, trivial, trivial⟩ ?_
    refine At.done rfl ?_
    show Tri _ _ _ _
    refine Tri.condP (b := (decide (0 ≤ a3.1))) rfl h (fun h => ?_) (fun h => ?_)
    ·refine Tri.skip ?_
     show Tri _ _ _ _
     refine Tri.seqS ?_
     refine Tri.blockB ?_
     refine Tri.seqS ?_
     obtain ⟨hc5, h⟩ := need_elim h
     obtain ⟨hc6, h⟩ := need_elim h
     obtain ⟨hc7, h⟩ := need_elim h
     obtain ⟨hc8, h⟩ := need_elim h
     obtain ⟨hc9, h⟩ := need_elim h
     obtain ⟨hc10, h⟩ := need_elim h
     obtain ⟨hc11, h⟩ := need_elim h
     obtain ⟨hc12, h⟩ := need_elim h
     refine Tri.afterA ⟨[(0, .c (oC 5000 3 a3.2)), (3, cD (.fn 20 [])), (8, cD (i6 p1)), (9, cD (i6 0)), (12, cD (i6 a3.1))], [(5000, vL 3 encTime ((a3.2.set (0 + p1.toNat) (a3.2.getD (0 + (IntKind.i64.wrap (p1 + a3.1)).toNat) default)).set (0 + (IntKind.i64.wrap (p1 + a3.1)).toNat) (a3.2.getD (0 + p1.toNat) default)))]⟩ ?_ ?_
     ·refine Tri.drawn (specs := [⟨⟨[(0, .c (oC 5000 3 a3.2))], []⟩, ⟨[(36, .c (oC 5000 3 a3.2))], []⟩, [], [], []⟩, ⟨⟨[(8, cD (i6 p1))], []⟩, ⟨[(37, cD (i6 p1))], []⟩, [], [], []⟩, ⟨⟨[(0, .c (oC 5000 3 a3.2))], []⟩, ⟨[(38, .c (oC 5000 3 a3.2))], []⟩, [], [], []⟩, ⟨⟨[(8, cD (i6 p1))], []⟩, ⟨[(39, cD (i6 p1))], []⟩, [], [], []⟩, ⟨⟨[(12, cD (i6 a3.1))], []⟩, ⟨[(40, cD (i6 a3.1))], []⟩, [], [], []⟩, ⟨⟨[(39, cD (i6 p1)), (40, cD (i6 a3.1))], []⟩, ⟨[(41, cD (i6 (IntKind.i64.wrap (p1 + a3.1))))], []⟩, [], [], []⟩, ⟨⟨[(0, .c (oC 5000 3 a3.2))], []⟩, ⟨[(42, .c (oC 5000 3 a3.2))], []⟩, [], [], []⟩, ⟨⟨[(8, cD (i6 p1))], []⟩, ⟨[(43, cD (i6 p1))], []⟩, [], [], []⟩, ⟨⟨[(12, cD (i6 a3.1))], []⟩, ⟨[(44, cD (i6 a3.1))], []⟩, [], [], []⟩, ⟨⟨[(43, cD (i6 p1)), (44, cD (i6 a3.1))], []⟩, ⟨[(45, cD (i6 (IntKind.i64.wrap (p1 + a3.1))))], []⟩, [], [], []⟩, ⟨⟨[(42, .c (oC 5000 3 a3.2)), (45, cD (i6 (IntKind.i64.wrap (p1 + a3.1))))], [(5000, vL 3 encTime a3.2)]⟩, ⟨[(46, .c (.vptr 5000 3 (0 + (IntKind.i64.wrap (p1 + a3.1)).toNat) 0))], []⟩, [], [], []⟩, ⟨⟨[(46, .c (.vptr 5000 3 (0 + (IntKind.i64.wrap (p1 + a3.1)).toNat) 0))], [(5000, vL 3 encTime a3.2)]⟩, ⟨[(47, .agg (cTime (a3.2.getD (0 + (IntKind.i64.wrap (p1 + a3.1)).toNat) default)))], []⟩, [], [], []⟩, ⟨⟨[(0, .c (oC 5000 3 a3.2))], []⟩, ⟨[(48, .c (oC 5000 3 a3.2))], []⟩, [], [], []⟩, ⟨⟨[(8, cD (i6 p1))], []⟩, ⟨[(49, cD (i6 p1))], []⟩, [], [], []⟩, ⟨⟨[(48, .c (oC 5000 3 a3.2)), (49, cD (i6 p1))], [(5000, vL 3 encTime a3.2)]⟩, ⟨[(50, .c (.vptr 5000 3 (0 + p1.toNat) 0))], []⟩, [], [], []⟩, ⟨⟨[(50, .c (.vptr 5000 3 (0 + p1.toNat) 0))], [(5000, vL 3 encTime a3.2)]⟩, ⟨[(51, .agg (cTime (a3.2.getD (0 + p1.toNat) default)))], []⟩, [], [], []⟩, ⟨⟨[(36, .c (oC 5000 3 a3.2)), (37, cD (i6 p1))], [(5000, vL 3 encTime a3.2)]⟩, ⟨[(52, .c (.vptr 5000 3 (0 + p1.toNat) 0))], []⟩, [], [], []⟩, ⟨⟨[(47, .agg (cTime (a3.2.getD (0 + (IntKind.i64.wrap (p1 + a3.1)).toNat) default))), (52, .c (.vptr 5000 3 (0 + p1.toNat) 0))], [(5000, vL 3 encTime a3.2)]⟩, ⟨[], [(5000, vL 3 encTime (a3.2.set (0 + p1.toNat) (a3.2.getD (0 + (IntKind.i64.wrap (p1 + a3.1)).toNat) default)))]⟩, [], [], []⟩, ⟨⟨[(38, .c (oC 5000 3 a3.2)), (41, cD (i6 (IntKind.i64.wrap (p1 + a3.1))))], [(5000, vL 3 encTime (a3.2.set (0 + p1.toNat) (a3.2.getD (0 + (IntKind.i64.wrap (p1 + a3.1)).toNat) default)))]⟩, ⟨[(53, .c (.vptr 5000 3 (0 + (IntKind.i64.wrap (p1 + a3.1)).toNat) 0))], []⟩, [], [], []⟩, ⟨⟨[(51, .agg (cTime (a3.2.getD (0 + p1.toNat) default))), (53, .c (.vptr 5000 3 (0 + (IntKind.i64.wrap (p1 + a3.1)).toNat) 0))], [(5000, vL 3 encTime (a3.2.set (0 + p1.toNat) (a3.2.getD (0 + (IntKind.i64.wrap (p1 + a3.1)).toNat) default)))]⟩, ⟨[], [(5000, vL 3 encTime ((a3.2.set (0 + p1.toNat) (a3.2.getD (0 + (IntKind.i64.wrap (p1 + a3.1)).toNat) default)).set (0 + (IntKind.i64.wrap (p1 + a3.1)).toNat) (a3.2.getD (0 + p1.toNat) default)))]⟩, [], [], []⟩]) (bef := [[], [], [], [], [], [3, 4], [], [], [], [7, 8], [6, 7, 8, 9], [6, 7, 8, 9, 10], [], [], [12, 13], [12, 13, 14], [0, 1, 6, 7, 8, 9, 10, 11, 12, 13, 14, 15], [0, 1, 6, 7, 8, 9, 10, 11, 12, 13, 14, 15, 16], [0, 1, 2, 3, 4, 5, 6, 7, 8, 9, 10, 11, 12, 13, 14, 15, 16, 17], [0, 1, 2, 3, 4, 5, 6, 7, 8, 9, 10, 11, 12, 13, 14, 15, 16, 17, 18]]) (tk := [0, 3, 8, 9, 12]) (sk := [5000]) (s' := ⟨[(0, .c (oC 5000 3 a3.2)), (3, cD (.fn 20 [])), (8, cD (i6 p1)), (9, cD (i6 0)), (12, cD (i6 a3.1))], [(5000, vL 3 encTime ((a3.2.set (0 + p1.toNat) (a3.2.getD (0 + (IntKind.i64.wrap (p1 + a3.1)).toNat) default)).set (0 + (IntKind.i64.wrap (p1 + a3.1)).toNat) (a3.2.getD (0 + p1.toNat) default)))]⟩) (by kernel_rfl) (by kernel_rfl) (by kernel_rfl) ⟨?_, ?_, ?_, ?_, ?_, ?_, ?_, ?_, ?_, ?_, ?_, ?_, ?_, ?_, ?_, ?_, ?_, ?_, ?_, ?_, trivial⟩ (by kernel_rfl) ?_
      · exact DOk.t rfl rfl (by kernel_rfl) (by kernel_rfl)
      · exact DOk.t rfl rfl (by kernel_rfl) (by kernel_rfl)
      · exact DOk.t rfl rfl (by kernel_rfl) (by kernel_rfl)
      · exact DOk.t rfl rfl (by kernel_rfl) (by kernel_rfl)
      · exact DOk.t rfl rfl (by kernel_rfl) (by kernel_rfl)
      · exact DOk.t rfl rfl (by kernel_rfl) (by kernel_rfl)
      · exact DOk.t rfl rfl (by kernel_rfl) (by kernel_rfl)
      · exact DOk.t rfl rfl (by kernel_rfl) (by kernel_rfl)
      · exact DOk.t rfl rfl (by kernel_rfl) (by kernel_rfl)
      · exact DOk.t rfl rfl (by kernel_rfl) (by kernel_rfl)
      · exact DOk.step (.val (.c (.vptr 5000 3 (0 + (IntKind.i64.wrap (p1 + a3.1)).toNat) 0)) ((0 : Int) ≤ (IntKind.i64.wrap (p1 + a3.1)) ∧ (IntKind.i64.wrap (p1 + a3.1)) < (a3.2.length : Int))) (fun r => by kernel_rfl) (fun r => by kernel_rfl) hc5 (by kernel_rfl) (by kernel_rfl) (fun r => rfl)
      · exact DOk.step (.val (.agg (cTime (a3.2.getD (0 + (IntKind.i64.wrap (p1 + a3.1)).toNat) default))) ((0 + (IntKind.i64.wrap (p1 + a3.1)).toNat) < a3.2.length)) (fun r => by kernel_rfl) (fun r => by kernel_rfl) hc6 (by kernel_rfl) (by kernel_rfl) (fun r => rfl)
      · exact DOk.t rfl rfl (by kernel_rfl) (by kernel_rfl)
      · exact DOk.t rfl rfl (by kernel_rfl) (by kernel_rfl)
      · exact DOk.step (.val (.c (.vptr 5000 3 (0 + p1.toNat) 0)) ((0 : Int) ≤ p1 ∧ p1 < (a3.2.length : Int))) (fun r => by kernel_rfl) (fun r => by kernel_rfl) hc7 (by kernel_rfl) (by kernel_rfl) (fun r => rfl)
      · exact DOk.step (.val (.agg (cTime (a3.2.getD (0 + p1.toNat) default))) ((0 + p1.toNat) < a3.2.length)) (fun r => by kernel_rfl) (fun r => by kernel_rfl) hc8 (by kernel_rfl) (by kernel_rfl) (fun r => rfl)
      · exact DOk.step (.val (.c (.vptr 5000 3 (0 + p1.toNat) 0)) ((0 : Int) ≤ p1 ∧ p1 < (a3.2.length : Int))) (fun r => by kernel_rfl) (fun r => by kernel_rfl) hc9 (by kernel_rfl) (by kernel_rfl) (fun r => rfl)
      · exact DOk.one fun r hr => One.storeT (xs := [.d (u6 ((a3.2.getD (0 + (IntKind.i64.wrap (p1 + a3.1)).toNat) default).epoch)), .d (u6 ((a3.2.getD (0 + (IntKind.i64.wrap (p1 + a3.1)).toNat) default).loop.1)), .d (u6 ((a3.2.getD (0 + (IntKind.i64.wrap (p1 + a3.1)).toNat) default).loop.2))]) (ds := [u6 ((a3.2.getD (0 + (IntKind.i64.wrap (p1 + a3.1)).toNat) default).epoch), u6 ((a3.2.getD (0 + (IntKind.i64.wrap (p1 + a3.1)).toNat) default).loop.1), u6 ((a3.2.getD (0 + (IntKind.i64.wrap (p1 + a3.1)).toNat) default).loop.2)]) (encTime) a3.2 (a3.2.getD (0 + (IntKind.i64.wrap (p1 + a3.1)).toNat) default) rfl (by kernel_rfl) rfl rfl rfl hc10 rfl rfl (.refl _) rfl rfl rfl rfl
      · exact DOk.step (.val (.c (.vptr 5000 3 (0 + (IntKind.i64.wrap (p1 + a3.1)).toNat) 0)) ((0 : Int) ≤ (IntKind.i64.wrap (p1 + a3.1)) ∧ (IntKind.i64.wrap (p1 + a3.1)) < (a3.2.length : Int))) (fun r => by kernel_rfl) (fun r => by kernel_rfl) hc11 (by kernel_rfl) (by kernel_rfl) (fun r => rfl)
      · exact DOk.one fun r hr => One.storeT (xs := [.d (u6 ((a3.2.getD (0 + p1.toNat) default).epoch)), .d (u6 ((a3.2.getD (0 + p1.toNat) default).loop.1)), .d (u6 ((a3.2.getD (0 + p1.toNat) default).loop.2))]) (ds := [u6 ((a3.2.getD (0 + p1.toNat) default).epoch), u6 ((a3.2.getD (0 + p1.toNat) default).loop.1), u6 ((a3.2.getD (0 + p1.toNat) default).loop.2)]) (encTime) (a3.2.set (0 + p1.toNat) (a3.2.getD (0 + (IntKind.i64.wrap (p1 + a3.1)).toNat) default)) (a3.2.getD (0 + p1.toNat) default) rfl (by kernel_rfl) rfl rfl rfl hc12 rfl rfl (.refl _) rfl rfl rfl rfl
      exact ⟨rfl, rfl⟩
     ·refine At.eqS (s' := ⟨[(0, .c (oC 5000 3 ((a3.2.set (0 + p1.toNat) (a3.2.getD (0 + (IntKind.i64.wrap (p1 + a3.1)).toNat) default)).set (0 + (IntKind.i64.wrap (p1 + a3.1)).toNat) (a3.2.getD (0 + p1.toNat) default)))), (3, cD (.fn 20 [])), (8, cD (i6 p1)), (9, cD (i6 0)), (12, cD (i6 a3.1))], [(5000, vL 3 encTime ((a3.2.set (0 + p1.toNat) (a3.2.getD (0 + (IntKind.i64.wrap (p1 + a3.1)).toNat) default)).set (0 + (IntKind.i64.wrap (p1 + a3.1)).toNat) (a3.2.getD (0 + p1.toNat) default)))]⟩) (by simp only [oC, vL, List.length_set]) ?_
      refine At.done rfl ?_
      show Tri _ _ _ _
      refine Tri.reg ?_
      refine At.seg 5 [0, 3, 8, 9, 12, 54, 55, 56, 57, 58] [5000] (s' := ⟨[(0, .c (oC 5000 3 ((a3.2.set (0 + p1.toNat) (a3.2.getD (0 + (IntKind.i64.wrap (p1 + a3.1)).toNat) default)).set (0 + (IntKind.i64.wrap (p1 + a3.1)).toNat) (a3.2.getD (0 + p1.toNat) default)))), (3, cD (.fn 20 [])), (8, cD (i6 p1)), (9, cD (i6 0)), (12, cD (i6 a3.1)), (54, .c (oC 5000 3 ((a3.2.set (0 + p1.toNat) (a3.2.getD (0 + (IntKind.i64.wrap (p1 + a3.1)).toNat) default)).set (0 + (IntKind.i64.wrap (p1 + a3.1)).toNat) (a3.2.getD (0 + p1.toNat) default)))), (55, cD (i6 0)), (56, cD (i6 a3.1)), (57, cD (i6 p1)), (58, cD (.fn 20 []))], [(5000, vL 3 encTime ((a3.2.set (0 + p1.toNat) (a3.2.getD (0 + (IntKind.i64.wrap (p1 + a3.1)).toNat) default)).set (0 + (IntKind.i64.wrap (p1 + a3.1)).toNat) (a3.2.getD (0 + p1.toNat) default)))]⟩) (c := True ∧ True ∧ True ∧ True ∧ True ∧ True) (by kernel_rfl) ⟨trivial, trivial, trivial, trivial, trivial, trivial⟩ ?_
      obtain ⟨r13, hr13, h⟩ := bind_elim h
      refine At.callL (nf := 0) (caps := []) (xs := [.c (oC 5000 3 ((a3.2.set (0 + p1.toNat) (a3.2.getD (0 + (IntKind.i64.wrap (p1 + a3.1)).toNat) default)).set (0 + (IntKind.i64.wrap (p1 + a3.1)).toNat) (a3.2.getD (0 + p1.toNat) default))), cD (i6 0), cD (i6 a3.1), cD (i6 p1), cD (.fn 20 [])]) [(5000, 5000)] [0, 3, 8, 9, 12] [] (s0 := ⟨[(0, .c (oC 5000 3 ((a3.2.set (0 + p1.toNat) (a3.2.getD (0 + (IntKind.i64.wrap (p1 + a3.1)).toNat) default)).set (0 + (IntKind.i64.wrap (p1 + a3.1)).toNat) (a3.2.getD (0 + p1.toNat) default)))), (3, cD (.fn 20 [])), (8, cD (i6 p1)), (9, cD (i6 0)), (12, cD (i6 a3.1))], []⟩) (slices_siftDownCmpFunc_Time__Compare_w_ok hr13) rfl rfl (by kernel_rfl) rfl (by kernel_rfl) (by kernel_rfl) (.ren rfl rfl (.flat (.refl _) rfl rfl (.flat (.refl _) rfl rfl (.flat (.refl _) rfl rfl (.flat (.refl _) rfl rfl .nil))))) ⟨⟨by kernel_rfl, by kernel_rfl⟩, trivial⟩ (by kernel_rfl) (by kernel_rfl) (by kernel_rfl) (by kernel_rfl) (by kernel_rfl) (by kernel_rfl) (by kernel_rfl) (by kernel_rfl) (by kernel_rfl) ⟨[(59, .tup []), (0, .c (oC 5000 3 ((a3.2.set (0 + p1.toNat) (a3.2.getD (0 + (IntKind.i64.wrap (p1 + a3.1)).toNat) default)).set (0 + (IntKind.i64.wrap (p1 + a3.1)).toNat) (a3.2.getD (0 + p1.toNat) default)))), (3, cD (.fn 20 [])), (8, cD (i6 p1)), (9, cD (i6 0)), (12, cD (i6 a3.1))], [(5000, vL 3 encTime r13)]⟩ (by kernel_rfl) ?_
      obtain ⟨hc14, h⟩ := need_elim h
      refine At.eqS ⟨[(59, .tup []), (0, .c (oC 5000 3 r13)), (3, cD (.fn 20 [])), (8, cD (i6 p1)), (9, cD (i6 0)), (12, cD (i6 a3.1))], [(5000, vL 3 encTime r13)]⟩ (by simp only [oC, vL, hc14]) ?_
      refine At.done rfl ?_
      show Tri _ _ _ _
      refine Tri.reg ?_
      refine At.seg 3 [0, 3, 8, 9, 12] [5000] (s' := ⟨[(0, .c (oC 5000 3 r13)), (3, cD (.fn 20 [])), (8, cD (i6 p1)), (9, cD (i6 0)), (12, cD (i6 (IntKind.i64.wrap (a3.1 - 1))))], [(5000, vL 3 encTime r13)]⟩) (c := True ∧ True ∧ True ∧ True) (by kernel_rfl) ⟨trivial, trivial, trivial, trivial⟩ ?_
      refine At.done rfl ?_
      cases h
      exact rfl
    ·refine Tri.keep [] [5000] (s' := ⟨[], [(5000, vL 3 encTime a3.2)]⟩) (by kernel_rfl) ?_
     refine Tri.exit ?_
     cases h
     exact ⟨rfl, rfl⟩
   ·intro a4 h
    cases h
    refine ⟨_, _, rfl, trivial, rfl, rfl, ?_⟩
    exact SubS.out ⟨⟨rfl, rfl⟩, trivial⟩
   · exact fun x => x.elim
  · exact fun x => x.elim

set_option maxRecDepth 100000 in
theorem slices_order2CmpFunc_Time__Compare_w_ok_v0 {p0 : List Time} {p1 : Int} {p2 : Int} {l0 : Int} {q : Int × Int × Int} (h : slices_order2CmpFunc_Time__Compare_w p0 p1 p2 l0 = some q) :
    Summ Try.prog 64 [.c (wC 3 encTime p0), cD (i6 p1), cD (i6 p2), .c (.ptr 5000 0), cD (.fn 20 [])] [(5000, .box [.d (i6 l0)])] (.tup [(false, [.d (i6 q.1)]), (false, [.d (i6 q.2.1)])]) [(5000, .box [.d (i6 q.2.2)])] := by
  refine Summ.intro Try.func64 rfl (by kernel_rfl) (by kernel_rfl) [] rfl ?_
  rintro ⟨P, w0, G0, V, LL, lk, N, φ0, fx⟩ rfl rfl rfl rfl
  unfold slices_order2CmpFunc_Time__Compare_w at h
  refine Tri.seqS ?_
  refine Tri.reg ?_
  refine At.seg 2 [0, 1, 2, 3, 4] [5000] (s' := ⟨[(0, .c (wC 3 encTime p0)), (1, cD (i6 p1)), (2, cD (i6 p2)), (3, .c (.ptr 5000 0)), (4, cD (.fn 20 []))], [(5000, .box [.d (i6 l0)])]⟩) (c := True ∧ True ∧ True) (by kernel_rfl) ⟨trivial, trivial, trivial⟩ ?_
  refine At.done rfl ?_
  show Tri _ _ _ _
  refine Tri.seqS ?_
  refine Tri.seqS ?_
  obtain ⟨hc1, h⟩ := need_elim h
  obtain ⟨hc2, h⟩ := need_elim h
  obtain ⟨r3, hr3, h⟩ := bind_elim h
  refine Tri.drawn (specs := [⟨⟨[(4, cD (.fn 20 []))], []⟩, ⟨[(12, cD (.fn 20 []))], []⟩, [], [], []⟩, ⟨⟨[(0, .c (wC 3 encTime p0))], []⟩, ⟨[(13, .c (wC 3 encTime p0))], []⟩, [], [], []⟩, ⟨⟨[(2, cD (i6 p2))], []⟩, ⟨[(14, cD (i6 p2))], []⟩, [], [], []⟩, ⟨⟨[(13, .c (wC 3 encTime p0)), (14, cD (i6 p2))], []⟩, ⟨[(15, .c (.eptr [u6 ((p0.getD p2.toNat default).epoch), u6 ((p0.getD p2.toNat default).loop.1), u6 ((p0.getD p2.toNat default).loop.2)]))], []⟩, [], [], []⟩, ⟨⟨[(15, .c (.eptr [u6 ((p0.getD p2.toNat default).epoch), u6 ((p0.getD p2.toNat default).loop.1), u6 ((p0.getD p2.toNat default).loop.2)]))], []⟩, ⟨[(16, .agg (cTime (p0.getD p2.toNat default)))], []⟩, [], [], []⟩, ⟨⟨[(0, .c (wC 3 encTime p0))], []⟩, ⟨[(17, .c (wC 3 encTime p0))], []⟩, [], [], []⟩, ⟨⟨[(1, cD (i6 p1))], []⟩, ⟨[(18, cD (i6 p1))], []⟩, [], [], []⟩, ⟨⟨[(17, .c (wC 3 encTime p0)), (18, cD (i6 p1))], []⟩, ⟨[(19, .c (.eptr [u6 ((p0.getD p1.toNat default).epoch), u6 ((p0.getD p1.toNat default).loop.1), u6 ((p0.getD p1.toNat default).loop.2)]))], []⟩, [], [], []⟩, ⟨⟨[(19, .c (.eptr [u6 ((p0.getD p1.toNat default).epoch), u6 ((p0.getD p1.toNat default).loop.1), u6 ((p0.getD p1.toNat default).loop.2)]))], []⟩, ⟨[(20, .agg (cTime (p0.getD p1.toNat default)))], []⟩, [], [], []⟩, ⟨⟨[(12, cD (.fn 20 [])), (16, .agg (cTime (p0.getD p2.toNat default))), (20, .agg (cTime (p0.getD p1.toNat default)))], []⟩, ⟨[(21, cD (i6 r3))], []⟩, [], [], []⟩, ⟨⟨[(21, cD (i6 r3))], []⟩, ⟨[(22, cD (.bool (decide (r3 < 0))))], []⟩, [], [], []⟩]) (bef := [[], [], [], [1, 2], [1, 2, 3], [], [], [5, 6], [5, 6, 7], [0, 1, 2, 3, 4, 5, 6, 7, 8], [0, 1, 2, 3, 4, 5, 6, 7, 8, 9]]) (tk := [1, 2, 3, 22]) (sk := [5000]) (s' := ⟨[(1, cD (i6 p1)), (2, cD (i6 p2)), (3, .c (.ptr 5000 0)), (22, cD (.bool (decide (r3 < 0))))], [(5000, .box [.d (i6 l0)])]⟩) (by kernel_rfl) (by kernel_rfl) (by kernel_rfl) ⟨?_, ?_, ?_, ?_, ?_, ?_, ?_, ?_, ?_, ?_, ?_, trivial⟩ (by kernel_rfl) ?_
  · exact DOk.t rfl rfl (by kernel_rfl) (by kernel_rfl)
  · exact DOk.t rfl rfl (by kernel_rfl) (by kernel_rfl)
  · exact DOk.t rfl rfl (by kernel_rfl) (by kernel_rfl)
  · exact DOk.step (.val (.c (.eptr [u6 ((p0.getD p2.toNat default).epoch), u6 ((p0.getD p2.toNat default).loop.1), u6 ((p0.getD p2.toNat default).loop.2)])) ((0 : Int) ≤ p2 ∧ p2 < (p0.length : Int))) (fun r => by kernel_rfl) (fun r => by kernel_rfl) hc1 (by kernel_rfl) (by kernel_rfl) (fun r => rfl)
  · exact DOk.t rfl rfl (by kernel_rfl) (by kernel_rfl)
  · exact DOk.t rfl rfl (by kernel_rfl) (by kernel_rfl)
  · exact DOk.t rfl rfl (by kernel_rfl) (by kernel_rfl)
  · exact DOk.step (.val (.c (.eptr [u6 ((p0.getD p1.toNat default).epoch), u6 ((p0.getD p1.toNat default).loop.1), u6 ((p0.getD p1.toNat default).loop.2)])) ((0 : Int) ≤ p1 ∧ p1 < (p0.length : Int))) (fun r => by kernel_rfl) (fun r => by kernel_rfl) hc2 (by kernel_rfl) (by kernel_rfl) (fun r => rfl)
  · exact DOk.t rfl rfl (by kernel_rfl) (by kernel_rfl)
  · exact DOk.callA (caps := []) (xs := [.agg (cTime (p0.getD p2.toNat default)), .agg (cTime (p0.getD p1.toNat default))]) (moment_Compare_ok hr3) rfl (fun r => by kernel_rfl) rfl (fun r => by kernel_rfl) (fun r => by kernel_rfl) (fun r => (.cons (.refl _) (.cons (.refl _) .nil))) rfl rfl (fun r => rfl)
  · exact DOk.t rfl rfl (by kernel_rfl) (by kernel_rfl)
  show Tri _ _ _ _
  refine Tri.condP (b := (decide (r3 < 0))) rfl h (fun h => ?_) (fun h => ?_)
  ·refine Tri.seqS ?_
   refine Tri.reg ?_
   refine At.seg 6 [1, 2] [5000] (s' := ⟨[(1, cD (i6 p1)), (2, cD (i6 p2))], [(5000, .box [.d (i6 (IntKind.i64.wrap (l0 + 1)))])]⟩) (c := True ∧ True ∧ True ∧ True ∧ True ∧ True ∧ True) (by kernel_rfl) ⟨trivial, trivial, trivial, trivial, trivial, trivial, trivial⟩ ?_
   refine At.done rfl ?_
   show Tri _ _ _ _
   refine Tri.seqS ?_
   refine Tri.reg ?_
   refine At.seg 4 [10, 11] [5000] (s' := ⟨[(10, cD (i6 p2)), (11, cD (i6 p1))], [(5000, .box [.d (i6 (IntKind.i64.wrap (l0 + 1)))])]⟩) (c := True ∧ True ∧ True ∧ True ∧ True) (by kernel_rfl) ⟨trivial, trivial, trivial, trivial, trivial⟩ ?_
   refine At.done rfl ?_
   show Tri _ _ _ _
   refine Tri.keep [10, 11] [5000] (s' := ⟨[(10, cD (i6 p2)), (11, cD (i6 p1))], [(5000, .box [.d (i6 (IntKind.i64.wrap (l0 + 1)))])]⟩) (by kernel_rfl) ?_
   refine Tri.ret ?_
   cases h
   refine ⟨_, _, rfl, ⟨trivial, ⟨trivial, trivial⟩⟩, rfl, rfl, ?_⟩
   exact SubS.out ⟨⟨rfl, rfl⟩, trivial⟩
  ·refine Tri.skip ?_
   show Tri _ _ _ _
   refine Tri.seqS ?_
   refine Tri.reg ?_
   refine At.seg 4 [10, 11] [5000] (s' := ⟨[(10, cD (i6 p1)), (11, cD (i6 p2))], [(5000, .box [.d (i6 l0)])]⟩) (c := True ∧ True ∧ True ∧ True ∧ True) (by kernel_rfl) ⟨trivial, trivial, trivial, trivial, trivial⟩ ?_
   refine At.done rfl ?_
   show Tri _ _ _ _
   refine Tri.keep [10, 11] [5000] (s' := ⟨[(10, cD (i6 p1)), (11, cD (i6 p2))], [(5000, .box [.d (i6 l0)])]⟩) (by kernel_rfl) ?_
   refine Tri.ret ?_
   cases h
   refine ⟨_, _, rfl, ⟨trivial, ⟨trivial, trivial⟩⟩, rfl, rfl, ?_⟩
   exact SubS.out ⟨⟨rfl, rfl⟩, trivial⟩

set_option maxRecDepth 100000 in
theorem slices_medianCmpFunc_Time__Compare_w_ok_v0 {p0 : List Time} {p1 : Int} {p2 : Int} {p3 : Int} {l0 : Int} {q : Int × Int} (h : slices_medianCmpFunc_Time__Compare_w p0 p1 p2 p3 l0 = some q) :
    Summ Try.prog 63 [.c (wC 3 encTime p0), cD (i6 p1), cD (i6 p2), cD (i6 p3), .c (.ptr 5000 0), cD (.fn 20 [])] [(5000, .box [.d (i6 l0)])] (cD (i6 q.1)) [(5000, .box [.d (i6 q.2)])] := by
  refine Summ.intro Try.func63 rfl (by kernel_rfl) (by kernel_rfl) [] rfl ?_
  rintro ⟨P, w0, G0, V, LL, lk, N, φ0, fx⟩ rfl rfl rfl rfl
  unfold slices_medianCmpFunc_Time__Compare_w at h
  refine Tri.seqS ?_
  refine Tri.reg ?_
  refine At.seg 1 [0, 1, 2, 3, 4, 5] [5000] (s' := ⟨[(0, .c (wC 3 encTime p0)), (1, cD (i6 p1)), (2, cD (i6 p2)), (3, cD (i6 p3)), (4, .c (.ptr 5000 0)), (5, cD (.fn 20 []))], [(5000, .box [.d (i6 l0)])]⟩) (c := True ∧ True) (by kernel_rfl) ⟨trivial, trivial⟩ ?_
  refine At.done rfl ?_
  show Tri _ _ _ _
  refine Tri.seqS ?_
  refine Tri.reg ?_
  refine At.seg 5 [0, 3, 4, 5, 14, 15, 16, 17, 18] [5000] (s' := ⟨[(0, .c (wC 3 encTime p0)), (3, cD (i6 p3)), (4, .c (.ptr 5000 0)), (5, cD (.fn 20 [])), (14, .c (wC 3 encTime p0)), (15, cD (i6 p1)), (16, cD (i6 p2)), (17, .c (.ptr 5000 0)), (18, cD (.fn 20 []))], [(5000, .box [.d (i6 l0)])]⟩) (c := True ∧ True ∧ True ∧ True ∧ True ∧ True) (by kernel_rfl) ⟨trivial, trivial, trivial, trivial, trivial, trivial⟩ ?_
  obtain ⟨r1, hr1, h⟩ := bind_elim h
  refine At.callL (nf := 0) (caps := []) (xs := [.c (wC 3 encTime p0), cD (i6 p1), cD (i6 p2), .c (.ptr 5000 0), cD (.fn 20 [])]) [(5000, 5000)] [0, 3, 4, 5] [] (s0 := ⟨[(0, .c (wC 3 encTime p0)), (3, cD (i6 p3)), (4, .c (.ptr 5000 0)), (5, cD (.fn 20 []))], []⟩) (slices_order2CmpFunc_Time__Compare_w_ok_v0 hr1) rfl rfl (by kernel_rfl) rfl (by kernel_rfl) (by kernel_rfl) (.flat (.refl _) rfl rfl (.flat (.refl _) rfl rfl (.flat (.refl _) rfl rfl (.ren rfl rfl (.flat (.refl _) rfl rfl .nil))))) ⟨⟨by kernel_rfl, by kernel_rfl⟩, trivial⟩ (by kernel_rfl) (by kernel_rfl) (by kernel_rfl) (by kernel_rfl) (by kernel_rfl) (by kernel_rfl) (by kernel_rfl) (by kernel_rfl) (by kernel_rfl) ⟨[(19, .tup [(false, [.d (i6 r1.1)]), (false, [.d (i6 r1.2.1)])]), (0, .c (wC 3 encTime p0)), (3, cD (i6 p3)), (4, .c (.ptr 5000 0)), (5, cD (.fn 20 []))], [(5000, .box [.d (i6 r1.2.2)])]⟩ (by kernel_rfl) ?_
  refine At.seg 5 [0, 1, 2, 3, 4, 5] [5000] (s' := ⟨[(0, .c (wC 3 encTime p0)), (1, cD (i6 r1.1)), (2, cD (i6 r1.2.1)), (3, cD (i6 p3)), (4, .c (.ptr 5000 0)), (5, cD (.fn 20 []))], [(5000, .box [.d (i6 r1.2.2)])]⟩) (c := True ∧ True ∧ True ∧ True ∧ True ∧ True) (by kernel_rfl) ⟨trivial, trivial, trivial, trivial, trivial, trivial⟩ ?_
  refine At.done rfl ?_
  show Tri _ _ _ _
  refine Tri.seqS ?_
  refine Tri.reg ?_
  refine At.seg 5 [0, 1, 4, 5, 23, 24, 25, 26, 27] [5000] (s' := ⟨[(0, .c (wC 3 encTime p0)), (1, cD (i6 r1.1)), (4, .c (.ptr 5000 0)), (5, cD (.fn 20 [])), (23, .c (wC 3 encTime p0)), (24, cD (i6 r1.2.1)), (25, cD (i6 p3)), (26, .c (.ptr 5000 0)), (27, cD (.fn 20 []))], [(5000, .box [.d (i6 r1.2.2)])]⟩) (c := True ∧ True ∧ True ∧ True ∧ True ∧ True) (by kernel_rfl) ⟨trivial, trivial, trivial, trivial, trivial, trivial⟩ ?_
  obtain ⟨r2, hr2, h⟩ := bind_elim h
  refine At.callL (nf := 0) (caps := []) (xs := [.c (wC 3 encTime p0), cD (i6 r1.2.1), cD (i6 p3), .c (.ptr 5000 0), cD (.fn 20 [])]) [(5000, 5000)] [0, 1, 4, 5] [] (s0 := ⟨[(0, .c (wC 3 encTime p0)), (1, cD (i6 r1.1)), (4, .c (.ptr 5000 0)), (5, cD (.fn 20 []))], []⟩) (slices_order2CmpFunc_Time__Compare_w_ok_v0 hr2) rfl rfl (by kernel_rfl) rfl (by kernel_rfl) (by kernel_rfl) (.flat (.refl _) rfl rfl (.flat (.refl _) rfl rfl (.flat (.refl _) rfl rfl (.ren rfl rfl (.flat (.refl _) rfl rfl .nil))))) ⟨⟨by kernel_rfl, by kernel_rfl⟩, trivial⟩ (by kernel_rfl) (by kernel_rfl) (by kernel_rfl) (by kernel_rfl) (by kernel_rfl) (by kernel_rfl) (by kernel_rfl) (by kernel_rfl) (by kernel_rfl) ⟨[(28, .tup [(false, [.d (i6 r2.1)]), (false, [.d (i6 r2.2.1)])]), (0, .c (wC 3 encTime p0)), (1, cD (i6 r1.1)), (4, .c (.ptr 5000 0)), (5, cD (.fn 20 []))], [(5000, .box [.d (i6 r2.2.2)])]⟩ (by kernel_rfl) ?_
  refine At.seg 5 [0, 1, 2, 4, 5] [5000] (s' := ⟨[(0, .c (wC 3 encTime p0)), (1, cD (i6 r1.1)), (2, cD (i6 r2.1)), (4, .c (.ptr 5000 0)), (5, cD (.fn 20 []))], [(5000, .box [.d (i6 r2.2.2)])]⟩) (c := True ∧ True ∧ True ∧ True ∧ True ∧ True) (by kernel_rfl) ⟨trivial, trivial, trivial, trivial, trivial, trivial⟩ ?_
  refine At.done rfl ?_
  show Tri _ _ _ _
  refine Tri.seqS ?_
  refine Tri.reg ?_
  refine At.seg 5 [32, 33, 34, 35, 36] [5000] (s' := ⟨[(32, .c (wC 3 encTime p0)), (33, cD (i6 r1.1)), (34, cD (i6 r2.1)), (35, .c (.ptr 5000 0)), (36, cD (.fn 20 []))], [(5000, .box [.d (i6 r2.2.2)])]⟩) (c := True ∧ True ∧ True ∧ True ∧ True ∧ True) (by kernel_rfl) ⟨trivial, trivial, trivial, trivial, trivial, trivial⟩ ?_
  obtain ⟨r3, hr3, h⟩ := bind_elim h
  refine At.callL (nf := 0) (caps := []) (xs := [.c (wC 3 encTime p0), cD (i6 r1.1), cD (i6 r2.1), .c (.ptr 5000 0), cD (.fn 20 [])]) [(5000, 5000)] [] [] (s0 := ⟨[], []⟩) (slices_order2CmpFunc_Time__Compare_w_ok_v0 hr3) rfl rfl (by kernel_rfl) rfl (by kernel_rfl) (by kernel_rfl) (.flat (.refl _) rfl rfl (.flat (.refl _) rfl rfl (.flat (.refl _) rfl rfl (.ren rfl rfl (.flat (.refl _) rfl rfl .nil))))) ⟨⟨by kernel_rfl, by kernel_rfl⟩, trivial⟩ (by kernel_rfl) (by kernel_rfl) (by kernel_rfl) (by kernel_rfl) (by kernel_rfl) (by kernel_rfl) (by kernel_rfl) (by kernel_rfl) (by kernel_rfl) ⟨[(37, .tup [(false, [.d (i6 r3.1)]), (false, [.d (i6 r3.2.1)])])], [(5000, .box [.d (i6 r3.2.2)])]⟩ (by kernel_rfl) ?_
  refine At.seg 5 [2] [5000] (s' := ⟨[(2, cD (i6 r3.2.1))], [(5000, .box [.d (i6 r3.2.2)])]⟩) (c := True ∧ True ∧ True ∧ True ∧ True ∧ True) (by kernel_rfl) ⟨trivial, trivial, trivial, trivial, trivial, trivial⟩ ?_
  refine At.done rfl ?_
  show Tri _ _ _ _
  refine Tri.seqS ?_
  refine Tri.reg ?_
  refine At.seg 2 [12] [5000] (s' := ⟨[(12, cD (i6 r3.2.1))], [(5000, .box [.d (i6 r3.2.2)])]⟩) (c := True ∧ True ∧ True) (by kernel_rfl) ⟨trivial, trivial, trivial⟩ ?_
  refine At.done rfl ?_
  show Tri _ _ _ _
  refine Tri.keep [12] [5000] (s' := ⟨[(12, cD (i6 r3.2.1))], [(5000, .box [.d (i6 r3.2.2)])]⟩) (by kernel_rfl) ?_
  refine Tri.ret ?_
  cases h
  refine ⟨_, _, rfl, ⟨trivial, trivial⟩, rfl, rfl, ?_⟩
  exact SubS.out ⟨⟨rfl, rfl⟩, trivial⟩

set_option maxRecDepth 100000 in
theorem slices_medianAdjacentCmpFunc_Time__Compare_w_ok_v0 {p0 : List Time} {p1 : Int} {l0 : Int} {q : Int × Int} (h : slices_medianAdjacentCmpFunc_Time__Compare_w p0 p1 l0 = some q) :
    Summ Try.prog 62 [.c (wC 3 encTime p0), cD (i6 p1), .c (.ptr 5000 0), cD (.fn 20 [])] [(5000, .box [.d (i6 l0)])] (cD (i6 q.1)) [(5000, .box [.d (i6 q.2)])] := by
  refine Summ.intro Try.func62 rfl (by kernel_rfl) (by kernel_rfl) [] rfl ?_
  rintro ⟨P, w0, G0, V, LL, lk, N, φ0, fx⟩ rfl rfl rfl rfl
  unfold slices_medianAdjacentCmpFunc_Time__Compare_w at h
  refine Tri.seqS ?_
  refine Tri.reg ?_
  refine At.seg 1 [0, 1, 2, 3] [5000] (s' := ⟨[(0, .c (wC 3 encTime p0)), (1, cD (i6 p1)), (2, .c (.ptr 5000 0)), (3, cD (.fn 20 []))], [(5000, .box [.d (i6 l0)])]⟩) (c := True ∧ True) (by kernel_rfl) ⟨trivial, trivial⟩ ?_
  refine At.done rfl ?_
  show Tri _ _ _ _
  refine Tri.seqS ?_
  refine Tri.reg ?_
  refine At.seg 8 [9, 11, 12, 14, 15, 16] [5000] (s' := ⟨[(9, .c (wC 3 encTime p0)), (11, cD (i6 (IntKind.i64.wrap (p1 - 1)))), (12, cD (i6 p1)), (14, cD (i6 (IntKind.i64.wrap (p1 + 1)))), (15, .c (.ptr 5000 0)), (16, cD (.fn 20 []))], [(5000, .box [.d (i6 l0)])]⟩) (c := True ∧ True ∧ True ∧ True ∧ True ∧ True ∧ True ∧ True ∧ True) (by kernel_rfl) ⟨trivial, trivial, trivial, trivial, trivial, trivial, trivial, trivial, trivial⟩ ?_
  obtain ⟨r1, hr1, h⟩ := bind_elim h
  refine At.callL (nf := 0) (caps := []) (xs := [.c (wC 3 encTime p0), cD (i6 (IntKind.i64.wrap (p1 - 1))), cD (i6 p1), cD (i6 (IntKind.i64.wrap (p1 + 1))), .c (.ptr 5000 0), cD (.fn 20 [])]) [(5000, 5000)] [] [] (s0 := ⟨[], []⟩) (slices_medianCmpFunc_Time__Compare_w_ok_v0 hr1) rfl rfl (by kernel_rfl) rfl (by kernel_rfl) (by kernel_rfl) (.flat (.refl _) rfl rfl (.flat (.refl _) rfl rfl (.flat (.refl _) rfl rfl (.flat (.refl _) rfl rfl (.ren rfl rfl (.flat (.refl _) rfl rfl .nil)))))) ⟨⟨by kernel_rfl, by kernel_rfl⟩, trivial⟩ (by kernel_rfl) (by kernel_rfl) (by kernel_rfl) (by kernel_rfl) (by kernel_rfl) (by kernel_rfl) (by kernel_rfl) (by kernel_rfl) (by kernel_rfl) ⟨[(17, cD (i6 r1.1))], [(5000, .box [.d (i6 r1.2)])]⟩ (by kernel_rfl) ?_
  refine At.seg 1 [8] [5000] (s' := ⟨[(8, cD (i6 r1.1))], [(5000, .box [.d (i6 r1.2)])]⟩) (c := True ∧ True) (by kernel_rfl) ⟨trivial, trivial⟩ ?_
  refine At.done rfl ?_
  show Tri _ _ _ _
  refine Tri.keep [8] [5000] (s' := ⟨[(8, cD (i6 r1.1))], [(5000, .box [.d (i6 r1.2)])]⟩) (by kernel_rfl) ?_
  refine Tri.ret ?_
  cases h
  refine ⟨_, _, rfl, ⟨trivial, trivial⟩, rfl, rfl, ?_⟩
  exact SubS.out ⟨⟨rfl, rfl⟩, trivial⟩

set_option maxRecDepth 100000 in
theorem slices_choosePivotCmpFunc_Time__Compare_ok_v0 {p0 : List Time} {p1 : Int} {p2 : Int} {q : Int × Int} (h : slices_choosePivotCmpFunc_Time__Compare p0 p1 p2 = some q) :
    Summ Try.prog 52 [.c (wC 3 encTime p0), cD (i6 p1), cD (i6 p2), cD (.fn 20 [])] [] (.tup [(false, [.d (i6 q.1)]), (false, [.d (i6 q.2)])]) [] := by
  refine Summ.intro Try.func52 rfl (by kernel_rfl) (by kernel_rfl) [] rfl ?_
  rintro ⟨P, w0, G0, V, LL, lk, N, φ0, fx⟩ rfl rfl rfl rfl
  unfold slices_choosePivotCmpFunc_Time__Compare at h
  refine Tri.seqS ?_
  refine Tri.reg ?_
  refine At.seg 2 [0, 1, 2, 3] [] (s' := ⟨[(0, .c (wC 3 encTime p0)), (1, cD (i6 p1)), (2, cD (i6 p2)), (3, cD (.fn 20 []))], []⟩) (c := True ∧ True ∧ True) (by kernel_rfl) ⟨trivial, trivial, trivial⟩ ?_
  refine At.done rfl ?_
  show Tri _ _ _ _
  refine Tri.seqS ?_
  refine Tri.reg ?_
  refine At.seg 4 [0, 1, 3, 10] [] (s' := ⟨[(0, .c (wC 3 encTime p0)), (1, cD (i6 p1)), (3, cD (.fn 20 [])), (10, cD (i6 (IntKind.i64.wrap (p2 - p1))))], []⟩) (c := True ∧ True ∧ True ∧ True ∧ True) (by kernel_rfl) ⟨trivial, trivial, trivial, trivial, trivial⟩ ?_
  refine At.done rfl ?_
  show Tri _ _ _ _
  refine Tri.seqS ?_
  refine Tri.reg ?_
  refine At.seg 1 [0, 1, 3, 10, 11] [11] (s' := ⟨[(0, .c (wC 3 encTime p0)), (1, cD (i6 p1)), (3, cD (.fn 20 [])), (10, cD (i6 (IntKind.i64.wrap (p2 - p1)))), (11, .c (.ptr 11 0))], [(11, .box [.d (i6 0)])]⟩) (c := True ∧ True) (by kernel_rfl) ⟨trivial, trivial⟩ ?_
  refine At.done rfl ?_
  show Tri _ _ _ _
  refine Tri.seqS ?_
  refine Tri.reg ?_
  refine At.seg 6 [0, 1, 3, 10, 11, 12] [11] (s' := ⟨[(0, .c (wC 3 encTime p0)), (1, cD (i6 p1)), (3, cD (.fn 20 [])), (10, cD (i6 (IntKind.i64.wrap (p2 - p1)))), (11, .c (.ptr 11 0)), (12, cD (i6 (IntKind.i64.wrap (p1 + (IntKind.i64.wrap ((IntKind.i64.wrap ((IntKind.i64.wrap (p2 - p1)).tdiv 4)) * 1))))))], [(11, .box [.d (i6 0)])]⟩) (c := True ∧ True ∧ ((4 : Int) ≠ 0) ∧ True ∧ True ∧ True ∧ True) (by kernel_rfl) ⟨trivial, trivial, (by decide : (4 : Int) ≠ 0), trivial, trivial, trivial, trivial⟩ ?_
  refine At.done rfl ?_
  show Tri _ _ _ _
  refine Tri.seqS ?_
  refine Tri.reg ?_
  refine At.seg 6 [0, 1, 3, 10, 11, 12, 13] [11] (s' := ⟨[(0, .c (wC 3 encTime p0)), (1, cD (i6 p1)), (3, cD (.fn 20 [])), (10, cD (i6 (IntKind.i64.wrap (p2 - p1)))), (11, .c (.ptr 11 0)), (12, cD (i6 (IntKind.i64.wrap (p1 + (IntKind.i64.wrap ((IntKind.i64.wrap ((IntKind.i64.wrap (p2 - p1)).tdiv 4)) * 1)))))), (13, cD (i6 (IntKind.i64.wrap (p1 + (IntKind.i64.wrap ((IntKind.i64.wrap ((IntKind.i64.wrap (p2 - p1)).tdiv 4)) * 2))))))], [(11, .box [.d (i6 0)])]⟩) (c := True ∧ True ∧ ((4 : Int) ≠ 0) ∧ True ∧ True ∧ True ∧ True) (by kernel_rfl) ⟨trivial, trivial, (by decide : (4 : Int) ≠ 0), trivial, trivial, trivial, trivial⟩ ?_
  refine At.done rfl ?_
  show Tri _ _ _ _
  refine Tri.seqS ?_
  refine Tri.reg ?_
  refine At.seg 6 [0, 3, 10, 11, 12, 13, 14] [11] (s' := ⟨[(0, .c (wC 3 encTime p0)), (3, cD (.fn 20 [])), (10, cD (i6 (IntKind.i64.wrap (p2 - p1)))), (11, .c (.ptr 11 0)), (12, cD (i6 (IntKind.i64.wrap (p1 + (IntKind.i64.wrap ((IntKind.i64.wrap ((IntKind.i64.wrap (p2 - p1)).tdiv 4)) * 1)))))), (13, cD (i6 (IntKind.i64.wrap (p1 + (IntKind.i64.wrap ((IntKind.i64.wrap ((IntKind.i64.wrap (p2 - p1)).tdiv 4)) * 2)))))), (14, cD (i6 (IntKind.i64.wrap (p1 + (IntKind.i64.wrap ((IntKind.i64.wrap ((IntKind.i64.wrap (p2 - p1)).tdiv 4)) * 3))))))], [(11, .box [.d (i6 0)])]⟩) (c := True ∧ True ∧ ((4 : Int) ≠ 0) ∧ True ∧ True ∧ True ∧ True) (by kernel_rfl) ⟨trivial, trivial, (by decide : (4 : Int) ≠ 0), trivial, trivial, trivial, trivial⟩ ?_
  refine At.done rfl ?_
  show Tri _ _ _ _
  refine Tri.seqJ (fun (a1 : Int × Int) => ⟨[(11, .c (.ptr 11 0)), (13, cD (i6 a1.1))], [(11, .box [.d (i6 a1.2)])]⟩) h (fun a1 h => ?_) (fun j2 h => ?_)
  ·show Tri _ _ ⟨[(11, .c (.ptr 11 0)), (13, cD (i6 a1.1))], [(11, .box [.d (i6 a1.2)])]⟩ _
   refine Tri.seqS ?_
   refine Tri.reg ?_
   refine At.seg 1 [13, 55] [] (s' := ⟨[(13, cD (i6 a1.1)), (55, cD (i6 a1.2))], []⟩) (c := True ∧ True) (by kernel_rfl) ⟨trivial, trivial⟩ ?_
   refine At.done rfl ?_
   show Tri _ _ _ _
   refine Tri.blockB ?_
   refine Tri.seqS ?_
   refine Tri.reg ?_
   refine At.seg 2 [13, 55, 57] [] (s' := ⟨[(13, cD (i6 a1.1)), (55, cD (i6 a1.2)), (57, cD (.bool (decide (a1.2 = 0))))], []⟩) (c := True ∧ True ∧ True) (by kernel_rfl) ⟨trivial, trivial, trivial⟩ ?_
   refine At.done rfl ?_
   show Tri _ _ _ _
   refine Tri.condP (b := (decide (a1.2 = 0))) rfl h (fun h => ?_) (fun h => ?_)
   ·refine Tri.seqS ?_
    refine Tri.reg ?_
    refine At.seg 3 [8, 9] [] (s' := ⟨[(8, cD (i6 a1.1)), (9, cD (i6 1))], []⟩) (c := True ∧ True ∧ True ∧ True) (by kernel_rfl) ⟨trivial, trivial, trivial, trivial⟩ ?_
    refine At.done rfl ?_
    show Tri _ _ _ _
    refine Tri.keep [8, 9] [] (s' := ⟨[(8, cD (i6 a1.1)), (9, cD (i6 1))], []⟩) (by kernel_rfl) ?_
    refine Tri.ret ?_
    cases h
    refine ⟨_, _, rfl, ⟨trivial, ⟨trivial, trivial⟩⟩, rfl, rfl, ?_⟩
    intro k c h
    cases h
   ·refine Tri.seqS ?_
    refine Tri.reg ?_
    refine At.seg 2 [13, 60] [] (s' := ⟨[(13, cD (i6 a1.1)), (60, cD (.bool (decide (a1.2 = 12))))], []⟩) (c := True ∧ True ∧ True) (by kernel_rfl) ⟨trivial, trivial, trivial⟩ ?_
    refine At.done rfl ?_
    show Tri _ _ _ _
    refine Tri.condP (b := (decide (a1.2 = 12))) rfl h (fun h => ?_) (fun h => ?_)
    ·refine Tri.seqS ?_
     refine Tri.reg ?_
     refine At.seg 3 [8, 9] [] (s' := ⟨[(8, cD (i6 a1.1)), (9, cD (i6 2))], []⟩) (c := True ∧ True ∧ True ∧ True) (by kernel_rfl) ⟨trivial, trivial, trivial, trivial⟩ ?_
     refine At.done rfl ?_
     show Tri _ _ _ _
     refine Tri.keep [8, 9] [] (s' := ⟨[(8, cD (i6 a1.1)), (9, cD (i6 2))], []⟩) (by kernel_rfl) ?_
     refine Tri.ret ?_
     cases h
     refine ⟨_, _, rfl, ⟨trivial, ⟨trivial, trivial⟩⟩, rfl, rfl, ?_⟩
     intro k c h
     cases h
    ·refine Tri.seqS ?_
     refine Tri.reg ?_
     refine At.seg 3 [8, 9] [] (s' := ⟨[(8, cD (i6 a1.1)), (9, cD (i6 0))], []⟩) (c := True ∧ True ∧ True ∧ True) (by kernel_rfl) ⟨trivial, trivial, trivial, trivial⟩ ?_
     refine At.done rfl ?_
     show Tri _ _ _ _
     refine Tri.keep [8, 9] [] (s' := ⟨[(8, cD (i6 a1.1)), (9, cD (i6 0))], []⟩) (by kernel_rfl) ?_
     refine Tri.ret ?_
     cases h
     refine ⟨_, _, rfl, ⟨trivial, ⟨trivial, trivial⟩⟩, rfl, rfl, ?_⟩
     intro k c h
     cases h
  ·refine Tri.seqS ?_
   refine Tri.reg ?_
   refine At.seg 2 [0, 3, 10, 11, 12, 13, 14, 34] [11] (s' := ⟨[(0, .c (wC 3 encTime p0)), (3, cD (.fn 20 [])), (10, cD (i6 (IntKind.i64.wrap (p2 - p1)))), (11, .c (.ptr 11 0)), (12, cD (i6 (IntKind.i64.wrap (p1 + (IntKind.i64.wrap ((IntKind.i64.wrap ((IntKind.i64.wrap (p2 - p1)).tdiv 4)) * 1)))))), (13, cD (i6 (IntKind.i64.wrap (p1 + (IntKind.i64.wrap ((IntKind.i64.wrap ((IntKind.i64.wrap (p2 - p1)).tdiv 4)) * 2)))))), (14, cD (i6 (IntKind.i64.wrap (p1 + (IntKind.i64.wrap ((IntKind.i64.wrap ((IntKind.i64.wrap (p2 - p1)).tdiv 4)) * 3)))))), (34, cD (.bool (decide (8 ≤ (IntKind.i64.wrap (p2 - p1))))))], [(11, .box [.d (i6 0)])]⟩) (c := True ∧ True ∧ True) (by kernel_rfl) ⟨trivial, trivial, trivial⟩ ?_
   refine At.done rfl ?_
   show Tri _ _ _ _
   refine Tri.condP (b := (decide (8 ≤ (IntKind.i64.wrap (p2 - p1))))) rfl h (fun h => ?_) (fun h => ?_)
   ·refine Tri.seqJ (fun (a3 : Int × Int × Int × Int) => ⟨[(0, .c (wC 3 encTime p0)), (3, cD (.fn 20 [])), (11, .c (.ptr 11 0)), (12, cD (i6 a3.1)), (13, cD (i6 a3.2.1)), (14, cD (i6 a3.2.2.1))], [(11, .box [.d (i6 a3.2.2.2)])]⟩) h (fun a3 h => ?_) (fun j4 h => ?_)
    ·show Tri _ _ ⟨[(0, .c (wC 3 encTime p0)), (3, cD (.fn 20 [])), (11, .c (.ptr 11 0)), (12, cD (i6 a3.1)), (13, cD (i6 a3.2.1)), (14, cD (i6 a3.2.2.1))], [(11, .box [.d (i6 a3.2.2.2)])]⟩ _
     refine Tri.reg ?_
     refine At.seg 5 [11, 49, 50, 51, 52, 53] [11] (s' := ⟨[(11, .c (.ptr 11 0)), (49, .c (wC 3 encTime p0)), (50, cD (i6 a3.1)), (51, cD (i6 a3.2.1)), (52, cD (i6 a3.2.2.1)), (53, cD (.fn 20 []))], [(11, .box [.d (i6 a3.2.2.2)])]⟩) (c := True ∧ True ∧ True ∧ True ∧ True ∧ True) (by kernel_rfl) ⟨trivial, trivial, trivial, trivial, trivial, trivial⟩ ?_
     obtain ⟨r5, hr5, h⟩ := bind_elim h
     refine At.callL (nf := 0) (caps := []) (xs := [.c (wC 3 encTime p0), cD (i6 a3.1), cD (i6 a3.2.1), cD (i6 a3.2.2.1), .c (.ptr 11 0), cD (.fn 20 [])]) [(5000, 11)] [11] [] (s0 := ⟨[(11, .c (.ptr 11 0))], []⟩) (slices_medianCmpFunc_Time__Compare_w_ok_v0 hr5) rfl rfl (by kernel_rfl) rfl (by kernel_rfl) (by kernel_rfl) (.flat (.refl _) rfl rfl (.flat (.refl _) rfl rfl (.flat (.refl _) rfl rfl (.flat (.refl _) rfl rfl (.ren rfl rfl (.flat (.refl _) rfl rfl .nil)))))) ⟨⟨by kernel_rfl, by kernel_rfl⟩, trivial⟩ (by kernel_rfl) (by kernel_rfl) (by kernel_rfl) (by kernel_rfl) (by kernel_rfl) (by kernel_rfl) (by kernel_rfl) (by kernel_rfl) (by kernel_rfl) ⟨[(54, cD (i6 r5.1)), (11, .c (.ptr 11 0))], [(11, .box [.d (i6 r5.2)])]⟩ (by kernel_rfl) ?_
     refine At.seg 1 [11, 13] [11] (s' := ⟨[(11, .c (.ptr 11 0)), (13, cD (i6 r5.1))], [(11, .box [.d (i6 r5.2)])]⟩) (c := True ∧ True) (by kernel_rfl) ⟨trivial, trivial⟩ ?_
     refine At.done rfl ?_
     exact ⟨_, h, rfl⟩
    ·refine Tri.seqS ?_
     refine Tri.reg ?_
     refine At.seg 2 [0, 3, 11, 12, 13, 14, 36] [11] (s' := ⟨[(0, .c (wC 3 encTime p0)), (3, cD (.fn 20 [])), (11, .c (.ptr 11 0)), (12, cD (i6 (IntKind.i64.wrap (p1 + (IntKind.i64.wrap ((IntKind.i64.wrap ((IntKind.i64.wrap (p2 - p1)).tdiv 4)) * 1)))))), (13, cD (i6 (IntKind.i64.wrap (p1 + (IntKind.i64.wrap ((IntKind.i64.wrap ((IntKind.i64.wrap (p2 - p1)).tdiv 4)) * 2)))))), (14, cD (i6 (IntKind.i64.wrap (p1 + (IntKind.i64.wrap ((IntKind.i64.wrap ((IntKind.i64.wrap (p2 - p1)).tdiv 4)) * 3)))))), (36, cD (.bool (decide (50 ≤ (IntKind.i64.wrap (p2 - p1))))))], [(11, .box [.d (i6 0)])]⟩) (c := True ∧ True ∧ True) (by kernel_rfl) ⟨trivial, trivial, trivial⟩ ?_
     refine At.done rfl ?_
     show Tri _ _ _ _
     refine Tri.condP (b := (decide (50 ≤ (IntKind.i64.wrap (p2 - p1))))) rfl h (fun h => ?_) (fun h => ?_)
     ·refine Tri.seqS ?_
      refine Tri.reg ?_
      refine At.seg 3 [0, 3, 11, 13, 14, 37, 38, 39] [11] (s' := ⟨[(0, .c (wC 3 encTime p0)), (3, cD (.fn 20 [])), (11, .c (.ptr 11 0)), (13, cD (i6 (IntKind.i64.wrap (p1 + (IntKind.i64.wrap ((IntKind.i64.wrap ((IntKind.i64.wrap (p2 - p1)).tdiv 4)) * 2)))))), (14, cD (i6 (IntKind.i64.wrap (p1 + (IntKind.i64.wrap ((IntKind.i64.wrap ((IntKind.i64.wrap (p2 - p1)).tdiv 4)) * 3)))))), (37, .c (wC 3 encTime p0)), (38, cD (i6 (IntKind.i64.wrap (p1 + (IntKind.i64.wrap ((IntKind.i64.wrap ((IntKind.i64.wrap (p2 - p1)).tdiv 4)) * 1)))))), (39, cD (.fn 20 []))], [(11, .box [.d (i6 0)])]⟩) (c := True ∧ True ∧ True ∧ True) (by kernel_rfl) ⟨trivial, trivial, trivial, trivial⟩ ?_
      obtain ⟨r6, hr6, h⟩ := bind_elim h
      refine At.callL (nf := 0) (caps := []) (xs := [.c (wC 3 encTime p0), cD (i6 (IntKind.i64.wrap (p1 + (IntKind.i64.wrap ((IntKind.i64.wrap ((IntKind.i64.wrap (p2 - p1)).tdiv 4)) * 1))))), .c (.ptr 11 0), cD (.fn 20 [])]) [(5000, 11)] [0, 3, 11, 13, 14] [] (s0 := ⟨[(0, .c (wC 3 encTime p0)), (3, cD (.fn 20 [])), (11, .c (.ptr 11 0)), (13, cD (i6 (IntKind.i64.wrap (p1 + (IntKind.i64.wrap ((IntKind.i64.wrap ((IntKind.i64.wrap (p2 - p1)).tdiv 4)) * 2)))))), (14, cD (i6 (IntKind.i64.wrap (p1 + (IntKind.i64.wrap ((IntKind.i64.wrap ((IntKind.i64.wrap (p2 - p1)).tdiv 4)) * 3))))))], []⟩) (slices_medianAdjacentCmpFunc_Time__Compare_w_ok_v0 hr6) rfl rfl (by kernel_rfl) rfl (by kernel_rfl) (by kernel_rfl) (.flat (.refl _) rfl rfl (.flat (.refl _) rfl rfl (.ren rfl rfl (.flat (.refl _) rfl rfl .nil)))) ⟨⟨by kernel_rfl, by kernel_rfl⟩, trivial⟩ (by kernel_rfl) (by kernel_rfl) (by kernel_rfl) (by kernel_rfl) (by kernel_rfl) (by kernel_rfl) (by kernel_rfl) (by kernel_rfl) (by kernel_rfl) ⟨[(40, cD (i6 r6.1)), (0, .c (wC 3 encTime p0)), (3, cD (.fn 20 [])), (11, .c (.ptr 11 0)), (13, cD (i6 (IntKind.i64.wrap (p1 + (IntKind.i64.wrap ((IntKind.i64.wrap ((IntKind.i64.wrap (p2 - p1)).tdiv 4)) * 2)))))), (14, cD (i6 (IntKind.i64.wrap (p1 + (IntKind.i64.wrap ((IntKind.i64.wrap ((IntKind.i64.wrap (p2 - p1)).tdiv 4)) * 3))))))], [(11, .box [.d (i6 r6.2)])]⟩ (by kernel_rfl) ?_
      refine At.seg 1 [0, 3, 11, 12, 13, 14] [11] (s' := ⟨[(0, .c (wC 3 encTime p0)), (3, cD (.fn 20 [])), (11, .c (.ptr 11 0)), (12, cD (i6 r6.1)), (13, cD (i6 (IntKind.i64.wrap (p1 + (IntKind.i64.wrap ((IntKind.i64.wrap ((IntKind.i64.wrap (p2 - p1)).tdiv 4)) * 2)))))), (14, cD (i6 (IntKind.i64.wrap (p1 + (IntKind.i64.wrap ((IntKind.i64.wrap ((IntKind.i64.wrap (p2 - p1)).tdiv 4)) * 3))))))], [(11, .box [.d (i6 r6.2)])]⟩) (c := True ∧ True) (by kernel_rfl) ⟨trivial, trivial⟩ ?_
      refine At.done rfl ?_
      show Tri _ _ _ _
      refine Tri.seqS ?_
      refine Tri.reg ?_
      refine At.seg 3 [0, 3, 11, 12, 14, 41, 42, 43] [11] (s' := ⟨[(0, .c (wC 3 encTime p0)), (3, cD (.fn 20 [])), (11, .c (.ptr 11 0)), (12, cD (i6 r6.1)), (14, cD (i6 (IntKind.i64.wrap (p1 + (IntKind.i64.wrap ((IntKind.i64.wrap ((IntKind.i64.wrap (p2 - p1)).tdiv 4)) * 3)))))), (41, .c (wC 3 encTime p0)), (42, cD (i6 (IntKind.i64.wrap (p1 + (IntKind.i64.wrap ((IntKind.i64.wrap ((IntKind.i64.wrap (p2 - p1)).tdiv 4)) * 2)))))), (43, cD (.fn 20 []))], [(11, .box [.d (i6 r6.2)])]⟩) (c := True ∧ True ∧ True ∧ True) (by kernel_rfl) ⟨trivial, trivial, trivial, trivial⟩ ?_
      obtain ⟨r7, hr7, h⟩ := bind_elim h
      refine At.callL (nf := 0) (caps := []) (xs := [.c (wC 3 encTime p0), cD (i6 (IntKind.i64.wrap (p1 + (IntKind.i64.wrap ((IntKind.i64.wrap ((IntKind.i64.wrap (p2 - p1)).tdiv 4)) * 2))))), .c (.ptr 11 0), cD (.fn 20 [])]) [(5000, 11)] [0, 3, 11, 12, 14] [] (s0 := ⟨[(0, .c (wC 3 encTime p0)), (3, cD (.fn 20 [])), (11, .c (.ptr 11 0)), (12, cD (i6 r6.1)), (14, cD (i6 (IntKind.i64.wrap (p1 + (IntKind.i64.wrap ((IntKind.i64.wrap ((IntKind.i64.wrap (p2 - p1)).tdiv 4)) * 3))))))], []⟩) (slices_medianAdjacentCmpFunc_Time__Compare_w_ok_v0 hr7) rfl rfl (by kernel_rfl) rfl (by kernel_rfl) (by kernel_rfl) (.flat (.refl _) rfl rfl (.flat (.refl _) rfl rfl (.ren rfl rfl (.flat (.refl _) rfl rfl .nil)))) ⟨⟨by kernel_rfl, by kernel_rfl⟩, trivial⟩ (by kernel_rfl) (by kernel_rfl) (by kernel_rfl) (by kernel_rfl) (by kernel_rfl) (by kernel_rfl) (by kernel_rfl) (by kernel_rfl) (by kernel_rfl) ⟨[(44, cD (i6 r7.1)), (0, .c (wC 3 encTime p0)), (3, cD (.fn 20 [])), (11, .c (.ptr 11 0)), (12, cD (i6 r6.1)), (14, cD (i6 (IntKind.i64.wrap (p1 + (IntKind.i64.wrap ((IntKind.i64.wrap ((IntKind.i64.wrap (p2 - p1)).tdiv 4)) * 3))))))], [(11, .box [.d (i6 r7.2)])]⟩ (by kernel_rfl) ?_
      refine At.seg 1 [0, 3, 11, 12, 13, 14] [11] (s' := ⟨[(0, .c (wC 3 encTime p0)), (3, cD (.fn 20 [])), (11, .c (.ptr 11 0)), (12, cD (i6 r6.1)), (13, cD (i6 r7.1)), (14, cD (i6 (IntKind.i64.wrap (p1 + (IntKind.i64.wrap ((IntKind.i64.wrap ((IntKind.i64.wrap (p2 - p1)).tdiv 4)) * 3))))))], [(11, .box [.d (i6 r7.2)])]⟩) (c := True ∧ True) (by kernel_rfl) ⟨trivial, trivial⟩ ?_
      refine At.done rfl ?_
      show Tri _ _ _ _
      refine Tri.reg ?_
      refine At.seg 3 [0, 3, 11, 12, 13, 45, 46, 47] [11] (s' := ⟨[(0, .c (wC 3 encTime p0)), (3, cD (.fn 20 [])), (11, .c (.ptr 11 0)), (12, cD (i6 r6.1)), (13, cD (i6 r7.1)), (45, .c (wC 3 encTime p0)), (46, cD (i6 (IntKind.i64.wrap (p1 + (IntKind.i64.wrap ((IntKind.i64.wrap ((IntKind.i64.wrap (p2 - p1)).tdiv 4)) * 3)))))), (47, cD (.fn 20 []))], [(11, .box [.d (i6 r7.2)])]⟩) (c := True ∧ True ∧ True ∧ True) (by kernel_rfl) ⟨trivial, trivial, trivial, trivial⟩ ?_
      obtain ⟨r8, hr8, h⟩ := bind_elim h
      refine At.callL (nf := 0) (caps := []) (xs := [.c (wC 3 encTime p0), cD (i6 (IntKind.i64.wrap (p1 + (IntKind.i64.wrap ((IntKind.i64.wrap ((IntKind.i64.wrap (p2 - p1)).tdiv 4)) * 3))))), .c (.ptr 11 0), cD (.fn 20 [])]) [(5000, 11)] [0, 3, 11, 12, 13] [] (s0 := ⟨[(0, .c (wC 3 encTime p0)), (3, cD (.fn 20 [])), (11, .c (.ptr 11 0)), (12, cD (i6 r6.1)), (13, cD (i6 r7.1))], []⟩) (slices_medianAdjacentCmpFunc_Time__Compare_w_ok_v0 hr8) rfl rfl (by kernel_rfl) rfl (by kernel_rfl) (by kernel_rfl) (.flat (.refl _) rfl rfl (.flat (.refl _) rfl rfl (.ren rfl rfl (.flat (.refl _) rfl rfl .nil)))) ⟨⟨by kernel_rfl, by kernel_rfl⟩, trivial⟩ (by kernel_rfl) (by kernel_rfl) (by kernel_rfl) (by kernel_rfl) (by kernel_rfl) (by kernel_rfl) (by kernel_rfl) (by kernel_rfl) (by kernel_rfl) ⟨[(48, cD (i6 r8.1)), (0, .c (wC 3 encTime p0)), (3, cD (.fn 20 [])), (11, .c (.ptr 11 0)), (12, cD (i6 r6.1)), (13, cD (i6 r7.1))], [(11, .box [.d (i6 r8.2)])]⟩ (by kernel_rfl) ?_
      refine At.seg 1 [0, 3, 11, 12, 13, 14] [11] (s' := ⟨[(0, .c (wC 3 encTime p0)), (3, cD (.fn 20 [])), (11, .c (.ptr 11 0)), (12, cD (i6 r6.1)), (13, cD (i6 r7.1)), (14, cD (i6 r8.1))], [(11, .box [.d (i6 r8.2)])]⟩) (c := True ∧ True) (by kernel_rfl) ⟨trivial, trivial⟩ ?_
      refine At.done rfl ?_
      exact ⟨_, h, rfl⟩
     ·refine Tri.keep [0, 3, 11, 12, 13, 14] [11] (s' := ⟨[(0, .c (wC 3 encTime p0)), (3, cD (.fn 20 [])), (11, .c (.ptr 11 0)), (12, cD (i6 (IntKind.i64.wrap (p1 + (IntKind.i64.wrap ((IntKind.i64.wrap ((IntKind.i64.wrap (p2 - p1)).tdiv 4)) * 1)))))), (13, cD (i6 (IntKind.i64.wrap (p1 + (IntKind.i64.wrap ((IntKind.i64.wrap ((IntKind.i64.wrap (p2 - p1)).tdiv 4)) * 2)))))), (14, cD (i6 (IntKind.i64.wrap (p1 + (IntKind.i64.wrap ((IntKind.i64.wrap ((IntKind.i64.wrap (p2 - p1)).tdiv 4)) * 3))))))], [(11, .box [.d (i6 0)])]⟩) (by kernel_rfl) ?_
      refine Tri.skip ?_
      exact ⟨_, h, rfl⟩
   ·refine Tri.keep [11, 13] [11] (s' := ⟨[(11, .c (.ptr 11 0)), (13, cD (i6 (IntKind.i64.wrap (p1 + (IntKind.i64.wrap ((IntKind.i64.wrap ((IntKind.i64.wrap (p2 - p1)).tdiv 4)) * 2))))))], [(11, .box [.d (i6 0)])]⟩) (by kernel_rfl) ?_
    refine Tri.skip ?_
    exact ⟨_, h, rfl⟩

set_option maxRecDepth 100000 in
theorem slices_reverseRangeCmpFunc_Time__Compare_w_ok {fuel : Nat} {p1 : Int} {p2 : Int} {l0 : List Time} {q : List Time} (h : slices_reverseRangeCmpFunc_Time__Compare_w fuel p1 p2 l0 = some q) :
    Summ Try.prog 53 [.c (oC 5000 3 l0), cD (i6 p1), cD (i6 p2), cD (.fn 20 [])] [(5000, vL 3 encTime l0)] (.tup []) [(5000, vL 3 encTime q)] := by
  refine Summ.intro Try.func53 rfl (by kernel_rfl) (by kernel_rfl) [] rfl ?_
  rintro ⟨P, w0, G0, V, LL, lk, N, φ0, fx⟩ rfl rfl rfl rfl
  unfold slices_reverseRangeCmpFunc_Time__Compare_w at h
  refine Tri.seqS ?_
  refine Tri.reg ?_
  refine At.seg 2 [0, 2, 8] [5000] (s' := ⟨[(0, .c (oC 5000 3 l0)), (2, cD (i6 p2)), (8, cD (i6 p1))], [(5000, vL 3 encTime l0)]⟩) (c := True ∧ True ∧ True) (by kernel_rfl) ⟨trivial, trivial, trivial⟩ ?_
  refine At.done rfl ?_
  show Tri _ _ _ _
  refine Tri.seqS ?_
  refine Tri.reg ?_
  refine At.seg 3 [0, 8, 9] [5000] (s' := ⟨[(0, .c (oC 5000 3 l0)), (8, cD (i6 p1)), (9, cD (i6 (IntKind.i64.wrap (p2 - 1))))], [(5000, vL 3 encTime l0)]⟩) (c := True ∧ True ∧ True ∧ True) (by kernel_rfl) ⟨trivial, trivial, trivial, trivial⟩ ?_
  refine At.done rfl ?_
  show Tri _ _ _ _
  refine Tri.keep [0, 8, 9] [5000] (s' := ⟨[(0, .c (oC 5000 3 l0)), (8, cD (i6 p1)), (9, cD (i6 (IntKind.i64.wrap (p2 - 1))))], [(5000, vL 3 encTime l0)]⟩) (by kernel_rfl) ?_
  refine Tri.loopK (fuel := fuel) (st0 := (p1, (IntKind.i64.wrap (p2 - 1)), l0)) (fun (x : Empty) s => False) (fun (a1 : Int × Int × (List Time)) => ⟨[(0, .c (oC 5000 3 a1.2.2)), (8, cD (i6 a1.1)), (9, cD (i6 a1.2.1))], [(5000, vL 3 encTime a1.2.2)]⟩) (fun (a1 : Int × Int × (List Time)) => ⟨[], [(5000, vL 3 encTime a1.2.2)]⟩) h ?_ ?_ ?_
  ·intro a1 c h
   show Tri _ _ ⟨[(0, .c (oC 5000 3 a1.2.2)), (8, cD (i6 a1.1)), (9, cD (i6 a1.2.1))], [(5000, vL 3 encTime a1.2.2)]⟩ _
   refine Tri.seqS ?_
   refine Tri.seqS ?_
   refine Tri.reg ?_
   refine At.seg 3 [0, 8, 9, 15] [5000] (s' := ⟨[(0, .c (oC 5000 3 a1.2.2)), (8, cD (i6 a1.1)), (9, cD (i6 a1.2.1)), (15, cD (.bool (decide (a1.1 < a1.2.1))))], [(5000, vL 3 encTime a1.2.2)]⟩) (c := True ∧ True ∧ True ∧ True) (by kernel_rfl) ⟨trivial, trivial, trivial, trivial⟩ ?_
   refine At.done rfl ?_
   show Tri _ _ _ _
   refine Tri.condP (b := (decide (a1.1 < a1.2.1))) rfl h (fun h => ?_) (fun h => ?_)
   ·refine Tri.skip ?_
    show Tri _ _ _ _
    refine Tri.blockB ?_
    refine Tri.seqS ?_
    obtain ⟨hc3, h⟩ := need_elim h
    obtain ⟨hc4, h⟩ := need_elim h
    obtain ⟨hc5, h⟩ := need_elim h
    obtain ⟨hc6, h⟩ := need_elim h
    obtain ⟨hc7, h⟩ := need_elim h
    obtain ⟨hc8, h⟩ := need_elim h
    obtain ⟨hc9, h⟩ := need_elim h
    obtain ⟨hc10, h⟩ := need_elim h
    refine Tri.afterA ⟨[(0, .c (oC 5000 3 a1.2.2)), (8, cD (i6 a1.1)), (9, cD (i6 a1.2.1))], [(5000, vL 3 encTime ((a1.2.2.set (0 + a1.1.toNat) (a1.2.2.getD (0 + a1.2.1.toNat) default)).set (0 + a1.2.1.toNat) (a1.2.2.getD (0 + a1.1.toNat) default)))]⟩ ?_ ?_
    ·refine Tri.drawn (specs := [⟨⟨[(0, .c (oC 5000 3 a1.2.2))], []⟩, ⟨[(16, .c (oC 5000 3 a1.2.2))], []⟩, [], [], []⟩, ⟨⟨[(8, cD (i6 a1.1))], []⟩, ⟨[(17, cD (i6 a1.1))], []⟩, [], [], []⟩, ⟨⟨[(0, .c (oC 5000 3 a1.2.2))], []⟩, ⟨[(18, .c (oC 5000 3 a1.2.2))], []⟩, [], [], []⟩, ⟨⟨[(9, cD (i6 a1.2.1))], []⟩, ⟨[(19, cD (i6 a1.2.1))], []⟩, [], [], []⟩, ⟨⟨[(0, .c (oC 5000 3 a1.2.2))], []⟩, ⟨[(20, .c (oC 5000 3 a1.2.2))], []⟩, [], [], []⟩, ⟨⟨[(9, cD (i6 a1.2.1))], []⟩, ⟨[(21, cD (i6 a1.2.1))], []⟩, [], [], []⟩, ⟨⟨[(20, .c (oC 5000 3 a1.2.2)), (21, cD (i6 a1.2.1))], [(5000, vL 3 encTime a1.2.2)]⟩, ⟨[(22, .c (.vptr 5000 3 (0 + a1.2.1.toNat) 0))], []⟩, [], [], []⟩, ⟨⟨[(22, .c (.vptr 5000 3 (0 + a1.2.1.toNat) 0))], [(5000, vL 3 encTime a1.2.2)]⟩, ⟨[(23, .agg (cTime (a1.2.2.getD (0 + a1.2.1.toNat) default)))], []⟩, [], [], []⟩, ⟨⟨[(0, .c (oC 5000 3 a1.2.2))], []⟩, ⟨[(24, .c (oC 5000 3 a1.2.2))], []⟩, [], [], []⟩, ⟨⟨[(8, cD (i6 a1.1))], []⟩, ⟨[(25, cD (i6 a1.1))], []⟩, [], [], []⟩, ⟨⟨[(24, .c (oC 5000 3 a1.2.2)), (25, cD (i6 a1.1))], [(5000, vL 3 encTime a1.2.2)]⟩, ⟨[(26, .c (.vptr 5000 3 (0 + a1.1.toNat) 0))], []⟩, [], [], []⟩, ⟨⟨[(26, .c (.vptr 5000 3 (0 + a1.1.toNat) 0))], [(5000, vL 3 encTime a1.2.2)]⟩, ⟨[(27, .agg (cTime (a1.2.2.getD (0 + a1.1.toNat) default)))], []⟩, [], [], []⟩, ⟨⟨[(16, .c (oC 5000 3 a1.2.2)), (17, cD (i6 a1.1))], [(5000, vL 3 encTime a1.2.2)]⟩, ⟨[(28, .c (.vptr 5000 3 (0 + a1.1.toNat) 0))], []⟩, [], [], []⟩, ⟨⟨[(23, .agg (cTime (a1.2.2.getD (0 + a1.2.1.toNat) default))), (28, .c (.vptr 5000 3 (0 + a1.1.toNat) 0))], [(5000, vL 3 encTime a1.2.2)]⟩, ⟨[], [(5000, vL 3 encTime (a1.2.2.set (0 + a1.1.toNat) (a1.2.2.getD (0 + a1.2.1.toNat) default)))]⟩, [], [], []⟩, ⟨⟨[(18, .c (oC 5000 3 a1.2.2)), (19, cD (i6 a1.2.1))], [(5000, vL 3 encTime (a1.2.2.set (0 + a1.1.toNat) (a1.2.2.getD (0 + a1.2.1.toNat) default)))]⟩, ⟨[(29, .c (.vptr 5000 3 (0 + a1.2.1.toNat) 0))], []⟩, [], [], []⟩, ⟨⟨[(27, .agg (cTime (a1.2.2.getD (0 + a1.1.toNat) default))), (29, .c (.vptr 5000 3 (0 + a1.2.1.toNat) 0))], [(5000, vL 3 encTime (a1.2.2.set (0 + a1.1.toNat) (a1.2.2.getD (0 + a1.2.1.toNat) default)))]⟩, ⟨[], [(5000, vL 3 encTime ((a1.2.2.set (0 + a1.1.toNat) (a1.2.2.getD (0 + a1.2.1.toNat) default)).set (0 + a1.2.1.toNat) (a1.2.2.getD (0 + a1.1.toNat) default)))]⟩, [], [], []⟩]) (bef := [[], [], [], [], [], [], [4, 5], [4, 5, 6], [], [], [8, 9], [8, 9, 10], [0, 1, 4, 5, 6, 7, 8, 9, 10, 11], [0, 1, 4, 5, 6, 7, 8, 9, 10, 11, 12], [0, 1, 2, 3, 4, 5, 6, 7, 8, 9, 10, 11, 12, 13], [0, 1, 2, 3, 4, 5, 6, 7, 8, 9, 10, 11, 12, 13, 14]]) (tk := [0, 8, 9]) (sk := [5000]) (s' := ⟨[(0, .c (oC 5000 3 a1.2.2)), (8, cD (i6 a1.1)), (9, cD (i6 a1.2.1))], [(5000, vL 3 encTime ((a1.2.2.set (0 + a1.1.toNat) (a1.2.2.getD (0 + a1.2.1.toNat) default)).set (0 + a1.2.1.toNat) (a1.2.2.getD (0 + a1.1.toNat) default)))]⟩) (by kernel_rfl) (by kernel_rfl) (by kernel_rfl) ⟨?_, ?_, ?_, ?_, ?_, ?_, ?_, ?_, ?_, ?_, ?_, ?_, ?_, ?_, ?_, ?_, trivial⟩ (by kernel_rfl) ?_
     · exact DOk.t rfl rfl (by kernel_rfl) (by kernel_rfl)
     · exact DOk.t rfl rfl (by kernel_rfl) (by kernel_rfl)
     · exact DOk.t rfl rfl (by kernel_rfl) (by kernel_rfl)
     · exact DOk.t rfl rfl (by kernel_rfl) (by kernel_rfl)
     · exact DOk.t rfl rfl (by kernel_rfl) (by kernel_rfl)
     · exact DOk.t rfl rfl (by kernel_rfl) (by kernel_rfl)
     · exact DOk.step (.val (.c (.vptr 5000 3 (0 + a1.2.1.toNat) 0)) ((0 : Int) ≤ a1.2.1 ∧ a1.2.1 < (a1.2.2.length : Int))) (fun r => by kernel_rfl) (fun r => by kernel_rfl) hc3 (by kernel_rfl) (by kernel_rfl) (fun r => rfl)
     · exact DOk.step (.val (.agg (cTime (a1.2.2.getD (0 + a1.2.1.toNat) default))) ((0 + a1.2.1.toNat) < a1.2.2.length)) (fun r => by kernel_rfl) (fun r => by kernel_rfl) hc4 (by kernel_rfl) (by kernel_rfl) (fun r => rfl)
     · exact DOk.t rfl rfl (by kernel_rfl) (by kernel_rfl)
     · exact DOk.t rfl rfl (by kernel_rfl) (by kernel_rfl)
     · exact DOk.step (.val (.c (.vptr 5000 3 (0 + a1.1.toNat) 0)) ((0 : Int) ≤ a1.1 ∧ a1.1 < (a1.2.2.length : Int))) (fun r => by kernel_rfl) (fun r => by kernel_rfl) hc5 (by kernel_rfl) (by kernel_rfl) (fun r => rfl)
     · exact DOk.step (.val (.agg (cTime (a1.2.2.getD (0 + a1.1.toNat) default))) ((0 + a1.1.toNat) < a1.2.2.length)) (fun r => by kernel_rfl) (fun r => by kernel_rfl) hc6 (by kernel_rfl) (by kernel_rfl) (fun r => rfl)
     · exact DOk.step (.val (.c (.vptr 5000 3 (0 + a1.1.toNat) 0)) ((0 : Int) ≤ a1.1 ∧ a1.1 < (a1.2.2.length : Int))) (fun r => by kernel_rfl) (fun r => by kernel_rfl) hc7 (by kernel_rfl) (by kernel_rfl) (fun r => rfl)
     · exact DOk.one fun r hr => One.storeT (xs := [.d (u6 ((a1.2.2.getD (0 + a1.2.1.toNat) default).epoch)), .d (u6 ((a1.2.2.getD (0 + a1.2.1.toNat) default).loop.1)), .d (u6 ((a1.2.2.getD (0 + a1.2.1.toNat) default).loop.2))]) (ds := [u6 ((a1.2.2.getD (0 + a1.2.1.toNat) default).epoch), u6 ((a1.2.2.getD (0 + a1.2.1.toNat) default).loop.1), u6 ((a1.2.2.getD (0 + a1.2.1.toNat) default).loop.2)]) (encTime) a1.2.2 (a1.2.2.getD (0 + a1.2.1.toNat) default) rfl (by kernel_rfl) rfl rfl rfl hc8 rfl rfl (.refl _) rfl rfl rfl rfl
     · exact DOk.step (.val (.c (.vptr 5000 3 (0 + a1.2.1.toNat) 0)) ((0 : Int) ≤ a1.2.1 ∧ a1.2.1 < (a1.2.2.length : Int))) (fun r => by kernel_rfl) (fun r => by kernel_rfl) hc9 (by kernel_rfl) (by kernel_rfl) (fun r => rfl)
     · exact DOk.one fun r hr => One.storeT (xs := [.d (u6 ((a1.2.2.getD (0 + a1.1.toNat) default).epoch)), .d (u6 ((a1.2.2.getD (0 + a1.1.toNat) default).loop.1)), .d (u6 ((a1.2.2.getD (0 + a1.1.toNat) default).loop.2))]) (ds := [u6 ((a1.2.2.getD (0 + a1.1.toNat) default).epoch), u6 ((a1.2.2.getD (0 + a1.1.toNat) default).loop.1), u6 ((a1.2.2.getD (0 + a1.1.toNat) default).loop.2)]) (encTime) (a1.2.2.set (0 + a1.1.toNat) (a1.2.2.getD (0 + a1.2.1.toNat) default)) (a1.2.2.getD (0 + a1.1.toNat) default) rfl (by kernel_rfl) rfl rfl rfl hc10 rfl rfl (.refl _) rfl rfl rfl rfl
     exact ⟨rfl, rfl⟩
    ·refine At.eqS (s' := ⟨[(0, .c (oC 5000 3 ((a1.2.2.set (0 + a1.1.toNat) (a1.2.2.getD (0 + a1.2.1.toNat) default)).set (0 + a1.2.1.toNat) (a1.2.2.getD (0 + a1.1.toNat) default)))), (8, cD (i6 a1.1)), (9, cD (i6 a1.2.1))], [(5000, vL 3 encTime ((a1.2.2.set (0 + a1.1.toNat) (a1.2.2.getD (0 + a1.2.1.toNat) default)).set (0 + a1.2.1.toNat) (a1.2.2.getD (0 + a1.1.toNat) default)))]⟩) (by simp only [oC, vL, List.length_set]) ?_
     refine At.done rfl ?_
     show Tri _ _ _ _
     refine Tri.seqS ?_
     refine Tri.reg ?_
     refine At.seg 3 [0, 8, 9] [5000] (s' := ⟨[(0, .c (oC 5000 3 ((a1.2.2.set (0 + a1.1.toNat) (a1.2.2.getD (0 + a1.2.1.toNat) default)).set (0 + a1.2.1.toNat) (a1.2.2.getD (0 + a1.1.toNat) default)))), (8, cD (i6 (IntKind.i64.wrap (a1.1 + 1)))), (9, cD (i6 a1.2.1))], [(5000, vL 3 encTime ((a1.2.2.set (0 + a1.1.toNat) (a1.2.2.getD (0 + a1.2.1.toNat) default)).set (0 + a1.2.1.toNat) (a1.2.2.getD (0 + a1.1.toNat) default)))]⟩) (c := True ∧ True ∧ True ∧ True) (by kernel_rfl) ⟨trivial, trivial, trivial, trivial⟩ ?_
     refine At.done rfl ?_
     show Tri _ _ _ _
     refine Tri.reg ?_
     refine At.seg 3 [0, 8, 9] [5000] (s' := ⟨[(0, .c (oC 5000 3 ((a1.2.2.set (0 + a1.1.toNat) (a1.2.2.getD (0 + a1.2.1.toNat) default)).set (0 + a1.2.1.toNat) (a1.2.2.getD (0 + a1.1.toNat) default)))), (8, cD (i6 (IntKind.i64.wrap (a1.1 + 1)))), (9, cD (i6 (IntKind.i64.wrap (a1.2.1 - 1))))], [(5000, vL 3 encTime ((a1.2.2.set (0 + a1.1.toNat) (a1.2.2.getD (0 + a1.2.1.toNat) default)).set (0 + a1.2.1.toNat) (a1.2.2.getD (0 + a1.1.toNat) default)))]⟩) (c := True ∧ True ∧ True ∧ True) (by kernel_rfl) ⟨trivial, trivial, trivial, trivial⟩ ?_
     refine At.done rfl ?_
     cases h
     exact rfl
   ·refine Tri.keep [] [5000] (s' := ⟨[], [(5000, vL 3 encTime a1.2.2)]⟩) (by kernel_rfl) ?_
    refine Tri.exit ?_
    cases h
    exact ⟨rfl, rfl⟩
  ·intro a2 h
   cases h
   refine ⟨_, _, rfl, trivial, rfl, rfl, ?_⟩
   exact SubS.out ⟨⟨rfl, rfl⟩, trivial⟩
  · exact fun x => x.elim

end Go.Av