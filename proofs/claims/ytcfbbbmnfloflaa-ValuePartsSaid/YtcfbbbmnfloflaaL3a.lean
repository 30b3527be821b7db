import Derived.Test.YtcfbbbmnfloflaaLO
import Derived.Test.YtcfbbbmnfloflaaN3p
namespace Go.Av
open Go
set_option linter.unusedVariables false
set_option linter.unusedSimpArgs false

/-! ### Values and rows -/

def cmpV (a b : Value) : Int := if a.isText = b.isText then (if a.isText then cmpS a.s b.s else cmpZ a.n b.n) else (if a.isText then 1 else -1)

theorem cmpV_is : IsCmp cmpV where
  vals a b := by
    unfold cmpV
    split
    · split
      · exact cmpS_is.vals _ _
      · exact cmpZ_is.vals _ _
    · split <;> simp
  anti a b := by
    unfold cmpV
    cases a.isText <;> cases b.isText <;> simp
    · exact cmpZ_is.anti _ _
    · exact cmpS_is.anti _ _
  tr a b d := by
    unfold cmpV
    cases a.isText <;> cases b.isText <;> cases d.isText <;> simp
    · exact cmpZ_is.tr _ _ _
    · exact cmpS_is.tr _ _ _

theorem strLe_cmp (a b : ByteArray) : (strLt a b || strEq a b) = decide (cmpS a b ≤ 0) := by
  rw [strLt_cmp, strEq_cmp, Bool.eq_iff_iff]
  simp
  omega

theorem cmpInt_eq (x y : Int) : cmp_Compare_int x y = some (cmpZ x y) := by
  unfold cmp_Compare_int cmp_isNaN_int cmpZ
  simp only [decide_true, Bool.not_true, Option.bind_some, bf_false, bf_decide]
  split <;> (try split) <;> rfl

theorem cmpInt64_eq (x y : Int) : cmp_Compare_int64 x y = some (cmpZ x y) := by
  unfold cmp_Compare_int64 cmp_isNaN_int64 cmpZ
  simp only [decide_true, Bool.not_true, Option.bind_some, bf_false, bf_decide]
  split <;> (try split) <;> rfl

theorem cmpString_eq (x y : ByteArray) : cmp_Compare_string x y = some (cmpS x y) := by
  unfold cmp_Compare_string cmp_isNaN_string
  simp only [strEq_self, Bool.not_true, Option.bind_some, bf_false]
  rw [strLe_cmp, strLt_cmp]
  simp only [bf_not, bf_decide]
  rcases cmpS_is.vals x y with h | h | h <;> simp [h]

theorem valueCompare_eq (a b : Value) : value_Compare a b = some (cmpV a b) := by
  unfold value_Compare value_mark cmpV
  simp only [cmpInt_eq, cmpString_eq, cmpInt64_eq, bf_not]
  cases a.isText <;> cases b.isText <;> simp [cmpInt_eq, cmpZ]

theorem valueRows_eq (a b : List Value) : value_Rows a b = some (cmpL cmpV a b) := by
  unfold value_Rows slices_CompareFuncfreshet_api_Value_freshet_api_Value_freshet_api_Value_freshet_api_Value_Value__value_Compare
  rw [cmpLoop (c := cmpV)]
  · rfl
  · intro i hi
    simp only [valueCompare_eq, Option.bind_some, bf_decide, bf_not, Int.ofNat_le]
    split
    · rfl
    · rw [need_true (by omega)]
  · simp only [bf_decide, Int.ofNat_lt]
    split <;> rfl

theorem refValueCompare_eq (a b : Value) : freshetref03_Compare a b = some (cmpV a b) := by
  unfold freshetref03_Compare cmpV
  rw [strLe_cmp, strLt_cmp]
  cases a.isText <;> cases b.isText <;> simp
  · unfold cmpZ; split <;> (try split) <;> simp_all
  · rcases cmpS_is.vals a.s b.s with h | h | h <;> simp [h]

theorem refRows_eq (a b : List Value) {fuel : Nat} (hf : a.length < fuel) (hn : a.length ≤ maxN) : freshetref03_Rows fuel a b = some (cmpL cmpV a b) := by
  unfold freshetref03_Rows
  unfold maxN at hn
  refine cmpLoopN (c := cmpV) hf ?_ ?_
  · intro i hi hi'
    simp only [jn_eq, refValueCompare_eq, Option.bind_some, bf_decide, bf_not, Int.ofNat_lt, Int.toNat_natCast]
    have e : IntKind.i64.wrap ((i : Int) + 1) = ((i + 1 : Nat) : Int) := by rw [wrap_small (by omega) (by omega)]; omega
    by_cases h1 : i < a.length
    · by_cases h2 : i < b.length
      · rw [if_pos (⟨h1, h2⟩ : i < a.length ∧ i < b.length), if_pos h1, if_pos h2, need_true (by omega), need_true (by omega), e]
      · rw [if_neg (fun h => h2 h.2 : ¬ (i < a.length ∧ i < b.length)), if_pos h1, if_neg h2]
    · rw [if_neg (fun h => h1 h.1 : ¬ (i < a.length ∧ i < b.length)), if_neg h1, bf_false]
  · intro i
    simp only [bf_decide, Int.ofNat_lt]
    split
    · rfl
    · split <;> rfl

/-! ### What is right -/

def rightV (v : Value) : Bool := if v.isText then decide (v.n = 0) && decide (v.s.size ≤ 64) else strEq v.s (bs [])
def okRow (p : List Value) : Bool := decide (p.length ≤ 8) && p.all rightV

theorem right_eq (v : Value) : value_right v = some (rightV v) := by
  unfold value_right rightV
  have e : ((v.s.size : Int) ≤ 64) ↔ v.s.size ≤ 64 := by omega
  cases v.isText <;> by_cases h : v.n = 0 <;> simp [h, e]
theorem refRight_eq (v : Value) : freshetref03_right v = some (rightV v) := by
  unfold freshetref03_right rightV
  have e : ((v.s.size : Int) ≤ 64) ↔ v.s.size ≤ 64 := by omega
  cases v.isText <;> by_cases h : v.n = 0 <;> simp [h, e]

theorem rangeN_any {S R X : Type} [Inhabited X] {B : Nat → S → Option (Ctl S R)} {l : List X} (P : X → Bool) (f : Nat → R) {s : S}
    (hB : ∀ i, i < l.length → B i s = if P (l.getD i default) then some (.ret (f i)) else some (.next s)) :
    (l.any P = false ∧ rangeN B l.length 0 s = some (.done s)) ∨ (l.any P = true ∧ ∃ i, i < l.length ∧ P (l.getD i default) = true ∧ rangeN B l.length 0 s = some (.ret (f i))) := by
  have key : ∀ k i, i + k = l.length → ((l.drop i).any P = false ∧ rangeN B k i s = some (.done s)) ∨ ((l.drop i).any P = true ∧ ∃ j, j < l.length ∧ P (l.getD j default) = true ∧ rangeN B k i s = some (.ret (f j))) := by
    intro k
    induction k with
    | zero => intro i hi; left; rw [List.drop_eq_nil_of_le (by omega : l.length ≤ i)]; exact ⟨rfl, rfl⟩
    | succ k ih =>
      intro i hi
      rw [drop_cons_getD (by omega : i < l.length)]
      simp only [rangeN, hB i (by omega), List.any_cons]
      by_cases h : P (l.getD i default) = true
      · rw [if_pos h]; right; exact ⟨by rw [h]; rfl, i, by omega, h, rfl⟩
      · rw [if_neg h]
        have hf : P (l.getD i default) = false := by simpa using h
        rw [hf, Bool.false_or]
        exact ih (i + 1) (by omega)
  have := key l.length 0 (by omega)
  rwa [List.drop_zero] at this

theorem any_not_right (p : List Value) : (p.any fun v => !rightV v) = !(p.all rightV) := by
  rw [List.any_eq_not_all_not]
  simp

theorem valueCheck_eq (p : List Value) : value_Check p = some (if okRow p then 0 else 4) := by
  unfold value_Check slices_ContainsFuncfreshet_api_Value_freshet_api_Value_Value__value_Check_1 slices_IndexFuncfreshet_api_Value_freshet_api_Value_Value__value_Check_1 value_Check_1 okRow
  simp only [jn_eq, bf_decide, right_eq, Option.bind_some]
  by_cases h : 8 < (p.length : Int)
  · rw [if_pos h, decide_eq_false (by omega : ¬ p.length ≤ 8)]; rfl
  · rw [if_neg h, decide_eq_true (by omega : p.length ≤ 8)]
    rcases rangeN_any (S := Unit) (R := Int) (l := p) (fun v => !rightV v) (fun i => (i : Int)) (s := ()) (B := fun i1 a2 => bf (!rightV (p.getD i1 default)) (some (.ret ((i1 : Nat) : Int))) (some (.next ()))) (fun i hi => by
      cases rightV (p.getD i default) <;> rfl) with ⟨h1, h2⟩ | ⟨h1, i, _, _, h2⟩
    · rw [h2]
      rw [any_not_right] at h1
      have : p.all rightV = true := by simpa using h1
      simp [this]
    · rw [h2]
      rw [any_not_right] at h1
      have : p.all rightV = false := by simpa using h1
      simp [this, Int.natCast_nonneg]

theorem refCheck_eq (p : List Value) : freshetref03_Check p = some (if okRow p then 0 else 4) := by
  unfold freshetref03_Check okRow
  simp only [refRight_eq, Option.bind_some]
  rcases rangeN_any (S := Unit) (R := Int) (l := p) (fun v => !rightV v) (fun i => (4 : Int)) (s := ()) (B := fun i1 a2 => bf (!rightV (p.getD i1 default)) (some (.ret 4)) (some (.next ()))) (fun i hi => by
      cases rightV (p.getD i default) <;> rfl) with ⟨h1, h2⟩ | ⟨h1, i, _, _, h2⟩
  · rw [h2]
    rw [any_not_right] at h1
    have : p.all rightV = true := by simpa using h1
    simp only [outK_done, bf_decide, this, Bool.and_true]
    by_cases h : 8 < (p.length : Int)
    · rw [if_pos h, decide_eq_false (by omega : ¬ p.length ≤ 8)]; rfl
    · rw [if_neg h, decide_eq_true (by omega : p.length ≤ 8)]; rfl
  · rw [h2]
    rw [any_not_right] at h1
    have : p.all rightV = false := by simpa using h1
    simp [this]

theorem eqValue_iff {a b : Value} : eqValue a b = true ↔ a = b := by
  rcases a with ⟨t, n, s⟩
  rcases b with ⟨t', n', s'⟩
  simp [eqValue, strEq_iff]

theorem same_eq (a b : List Value) : ∃ r, freshetref03_Same a b = some r ∧ (r = true ↔ a = b) := by
  unfold freshetref03_Same
  by_cases hl : a.length = b.length
  · rw [decide_eq_true (by omega : (a.length : Int) = (b.length : Int))]
    simp only [Bool.not_true, bf_false]
    have key : ∀ k i, i + k = a.length → ∃ r, outK (rangeN (S := Unit) (R := Bool) (fun i1 (a2 : Unit) => need ((0 : Int) ≤ ((i1 : Nat) : Int) ∧ ((i1 : Nat) : Int) < (b.length : Int)) <| bf (!(eqValue (a.getD i1 default) (b.getD i1 default))) (some (.ret false)) (some (.next ()))) k i ()) (fun (a3 : Unit) => some true) (fun x => some x) = some r ∧ (r = true ↔ a.drop i = b.drop i) := by
      intro k
      induction k with
      | zero =>
        intro i hi
        refine ⟨true, rfl, ?_⟩
        rw [List.drop_eq_nil_of_le (by omega : a.length ≤ i), List.drop_eq_nil_of_le (by omega : b.length ≤ i)]
        simp
      | succ k ih =>
        intro i hi
        simp only [rangeN]
        rw [need_true (by omega), drop_cons_getD (by omega : i < a.length), drop_cons_getD (by omega : i < b.length)]
        by_cases he : eqValue (a.getD i default) (b.getD i default) = true
        · rw [he]
          obtain ⟨r, h1, h2⟩ := ih (i + 1) (by omega)
          refine ⟨r, h1, ?_⟩
          rw [h2, eqValue_iff.1 he]
          simp
        · have he' : eqValue (a.getD i default) (b.getD i default) = false := by simpa using he
          rw [he']
          refine ⟨false, rfl, ?_⟩
          simp only [Bool.false_eq_true, false_iff, List.cons.injEq, not_and]
          intro h
          exact absurd (eqValue_iff.2 h) he
    obtain ⟨r, h1, h2⟩ := key a.length 0 (by omega)
    exact ⟨r, h1, by simpa using h2⟩
  · rw [decide_eq_false (by omega : ¬ (a.length : Int) = (b.length : Int))]
    exact ⟨false, rfl, by simp; intro h; exact hl (by rw [h])⟩

theorem same_self (a : List Value) : freshetref03_Same a a = some true := by
  obtain ⟨r, h1, h2⟩ := same_eq a a
  rw [h1, h2.2 rfl]

theorem bs_nil_eq {s : ByteArray} : strEq s (bs []) = true ↔ s = bs [] := strEq_iff

theorem cmpV_zero {a b : Value} (ha : rightV a = true) (hb : rightV b = true) : cmpV a b = 0 ↔ a = b := by
  rcases a with ⟨t, n, s⟩
  rcases b with ⟨t', n', s'⟩
  unfold cmpV rightV at *
  cases t <;> cases t' <;> simp [cmpS_zero, cmpZ_zero, strEq_iff] at *
  · intro _; rw [ha, hb]
  · intro h; omega

theorem cmpRows_zero : ∀ {a b : List Value}, a.all rightV = true → b.all rightV = true → (cmpL cmpV a b = 0 ↔ a = b)
  | [], [], _, _ => by simp [cmpL]
  | [], _ :: _, _, _ => by simp [cmpL]
  | _ :: _, [], _, _ => by simp [cmpL]
  | x :: a, y :: b, ha, hb => by
    simp only [List.all_cons, Bool.and_eq_true] at ha hb
    have h1 := cmpV_zero ha.1 hb.1
    have h2 := cmpRows_zero ha.2 hb.2
    simp only [cmpL, thenC]
    split
    · rename_i h; rw [h2, h1.1 h]; simp
    · rename_i h
      constructor
      · intro g; exact absurd g h
      · intro g; exact absurd (h1.2 (List.cons.inj g).1) h

theorem okRow_all {p : List Value} (h : okRow p = true) : p.all rightV = true ∧ p.length ≤ 8 := by
  unfold okRow at h
  simp only [Bool.and_eq_true, decide_eq_true_eq] at h
  exact ⟨h.2, h.1⟩

end Go.Av
