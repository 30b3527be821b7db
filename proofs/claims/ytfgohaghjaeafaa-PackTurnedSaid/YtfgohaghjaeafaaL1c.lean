import Derived.Test.YtfgohaghjaeafaaL1b
namespace Go.Av
open Go
set_option linter.unusedVariables false
set_option linter.unusedSimpArgs false

/-! ### A count is taken -/

/-- What is taken from place i on, where k bytes are left. -/
def tkC (s : ByteArray) : Nat → Nat → Nat → Int × ByteArray × Int
  | 0, _, _ => (0, bs [], 3)
  | k + 1, i, acc =>
    if (0 < i ∧ byteAt s i = 0) ∨ (i = 9 ∧ 1 < byteAt s i) then (0, bs [], 4)
    else if byteAt s i < 128 then (((acc + byteAt s i % 128 * 128 ^ i : Nat) : Int), s.extract (i + 1) s.size, 0)
    else tkC s k (i + 1) (acc + byteAt s i % 128 * 128 ^ i)

theorem pow_le9 {i : Nat} (h : i ≤ 9) : 128 ^ i ≤ 9223372036854775808 := by
  have := Nat.pow_le_pow_right (n := 128) (by decide) h
  have e : (128 : Nat) ^ 9 = 9223372036854775808 := by decide
  omega

theorem acc_bound {i acc b : Nat} (hi : i ≤ 9) (ha : acc < 128 ^ i) (hb : b < 256) (h9 : i = 9 → b ≤ 1) : acc + b % 128 * 128 ^ i < 18446744073709551616 := by
  rcases Nat.lt_or_ge i 9 with h | h
  · have h1 : b % 128 * 128 ^ i ≤ 127 * 128 ^ i := Nat.mul_le_mul_right _ (by omega)
    have h2 := pow_le9 (show i + 1 ≤ 9 by omega)
    rw [Nat.pow_succ] at h2
    omega
  · have h0 : i = 9 := by omega
    have h1 := h9 h0
    have h2 := pow_le9 hi
    have h3 : b % 128 * 128 ^ i ≤ 1 * 128 ^ i := Nat.mul_le_mul_right _ (by omega)
    omega

theorem acc_next {i acc b : Nat} (ha : acc < 128 ^ i) : acc + b % 128 * 128 ^ i < 128 ^ (i + 1) := by
  have h1 : b % 128 * 128 ^ i ≤ 127 * 128 ^ i := Nat.mul_le_mul_right _ (by omega)
  rw [Nat.pow_succ]
  omega

theorem mix_eq {i acc b : Nat} (hi : i ≤ 9) (ha : acc < 128 ^ i) (hb : b < 256) (h9 : i = 9 → b ≤ 1) :
    bitsOp .or .u64 (acc : Int) (shlOp .u64 (IntKind.u64.wrap (bitsOp .and .u8 (b : Int) 127)) (IntKind.i64.wrap ((7 : Int) * (i : Int)))) = ((acc + b % 128 * 128 ^ i : Nat) : Int) := by
  have hb2 := acc_bound hi ha hb h9
  have e1 : IntKind.i64.wrap ((7 : Int) * (i : Int)) = ((7 * i : Nat) : Int) := by rw [wrap_small (by omega) (by omega)]; omega
  have e2 : IntKind.u64.wrap ((b % 128 : Nat) : Int) = ((b % 128 : Nat) : Int) := uwrap (k := .u64) rfl (show b % 128 < 2 ^ 64 by omega)
  rw [and127 hb, e1, e2, shl_nat (k := .u64) _ _ (show 7 * i ≤ 64 by omega), pow7]
  have hp := pow_le9 hi
  have e3 : IntKind.u64.wrap ((b % 128 * 128 ^ i : Nat) : Int) = ((b % 128 * 128 ^ i : Nat) : Int) := uwrap (k := .u64) rfl (show b % 128 * 128 ^ i < 2 ^ 64 by omega)
  rw [e3, or_nat (k := .u64) rfl (show acc < 2 ^ 64 by omega) (show b % 128 * 128 ^ i < 2 ^ 64 by omega)]
  congr 1
  rw [← pow7] at ha ⊢
  rw [Nat.mul_comm, or_add ha, Nat.add_comm]

theorem packTake_loop {s : ByteArray} (hs : s.size ≤ maxN) {B : Nat → Int → Option (Ctl Int (Int × ByteArray × Int))}
    (hB : ∀ i acc : Nat, i < s.size → i ≤ 9 → acc < 128 ^ i → B i (acc : Int) = if (0 < i ∧ byteAt s i = 0) ∨ (i = 9 ∧ 1 < byteAt s i) then some (.ret (0, bs [], 4))
      else if byteAt s i < 128 then some (.ret (((acc + byteAt s i % 128 * 128 ^ i : Nat) : Int), s.extract (i + 1) s.size, 0)) else some (.next ((acc + byteAt s i % 128 * 128 ^ i : Nat) : Int))) :
    ∀ (k i acc : Nat), i + k = s.size → i ≤ 9 → acc < 128 ^ i → outK (rangeN B k i (acc : Int)) (fun (a3 : Int) => some (0, (bs []), 3)) (fun x => some x) = some (tkC s k i acc) := by
  intro k
  induction k with
  | zero => intro i acc hi h9 ha; rfl
  | succ k ih =>
    intro i acc hi h9 ha
    simp only [rangeN, hB i acc (by omega) h9 ha, tkC]
    by_cases h1 : (0 < i ∧ byteAt s i = 0) ∨ (i = 9 ∧ 1 < byteAt s i)
    · rw [if_pos h1, if_pos h1]; rfl
    · rw [if_neg h1, if_neg h1]
      by_cases h2 : byteAt s i < 128
      · rw [if_pos h2, if_pos h2]; rfl
      · rw [if_neg h2, if_neg h2]
        have h3 : i ≠ 9 := fun e => h1 (.inr ⟨e, by omega⟩)
        exact ih (i + 1) _ (by omega) (by omega) (acc_next ha)

theorem takeCount_eq {s : ByteArray} (hs : s.size ≤ maxN) : pack_TakeCount s = some (tkC s s.size 0 0) := by
  unfold pack_TakeCount
  rw [need_true hs]
  refine packTake_loop hs ?_ s.size 0 0 (by omega) (by omega) (by decide)
  intro i acc hi h9 ha
  unfold maxN at hs
  have hb := byteAt_lt s i
  rw [bt_byteAt]
  have e1 : IntKind.i64.wrap ((7 : Int) * (i : Int)) = ((7 * i : Nat) : Int) := by rw [wrap_small (by omega) (by omega)]; omega
  have e2 : IntKind.i64.wrap ((i : Int) + 1) = ((i + 1 : Nat) : Int) := by rw [wrap_small (by omega) (by omega)]; omega
  simp only [jn_eq]
  by_cases hc : (0 < i ∧ byteAt s i = 0) ∨ (i = 9 ∧ 1 < byteAt s i)
  · rw [if_pos hc]
    rcases hc with ⟨h1, h2⟩ | ⟨h1, h2⟩
    · rw [decide_eq_true (by omega : 0 < (i : Int)), decide_eq_true (by omega : (byteAt s i : Int) = 0)]
      rfl
    · rw [decide_eq_true (by omega : (i : Int) = 9), decide_eq_true (by omega : 1 < (byteAt s i : Int)), decide_eq_true (by omega : 0 < (i : Int)), decide_eq_false (by omega : ¬ (byteAt s i : Int) = 0)]
      rfl
  · rw [if_neg hc]
    have h9b : i = 9 → byteAt s i ≤ 1 := fun e => by
      rcases Nat.lt_or_ge 1 (byteAt s i) with h | h
      · exact absurd (.inr ⟨e, h⟩) hc
      · exact h
    rw [mix_eq h9 ha hb h9b, e1, e2, Int.toNat_natCast, need_true (by omega), need_true (by omega)]
    have fin : (bf (decide ((byteAt s i : Int) < 128)) (some (Ctl.ret (((acc + byteAt s i % 128 * 128 ^ i : Nat) : Int), (s.extract (i + 1) s.size), (0 : Int)))) (some (.next ((acc + byteAt s i % 128 * 128 ^ i : Nat) : Int)))) = if byteAt s i < 128 then some (.ret (((acc + byteAt s i % 128 * 128 ^ i : Nat) : Int), s.extract (i + 1) s.size, 0)) else some (.next ((acc + byteAt s i % 128 * 128 ^ i : Nat) : Int)) := by
      rw [bf_decide]
      by_cases h : byteAt s i < 128
      · rw [if_pos h, if_pos (by omega)]
      · rw [if_neg h, if_neg (by omega)]
    by_cases h1 : 0 < i
    · have h2 : byteAt s i ≠ 0 := fun e => hc (.inl ⟨h1, e⟩)
      rw [decide_eq_true (by omega : 0 < (i : Int)), decide_eq_false (by omega : ¬ (byteAt s i : Int) = 0)]
      by_cases h3 : i = 9
      · have := h9b h3
        rw [decide_eq_true (by omega : (i : Int) = 9), decide_eq_false (by omega : ¬ 1 < (byteAt s i : Int))]
        simp only [bf_true, bf_false]; exact fin
      · rw [decide_eq_false (by omega : ¬ (i : Int) = 9)]
        simp only [bf_true, bf_false]; exact fin
    · rw [decide_eq_false (by omega : ¬ 0 < (i : Int)), decide_eq_false (by omega : ¬ (i : Int) = 9)]
      simp only [bf_true, bf_false]; exact fin

theorem refTake_loop {s : ByteArray} {B : Int × Int × Int → Option (Ctl (Int × Int × Int) (Int × ByteArray × Int))}
    (hE : ∀ acc : Nat, s.size ≤ 9 → B ((acc : Int), ((128 ^ s.size : Nat) : Int), (s.size : Int)) = some (.ret (0, bs [], 3)))
    (hB : ∀ i acc : Nat, i < s.size → i ≤ 9 → acc < 128 ^ i → B ((acc : Int), ((128 ^ i : Nat) : Int), (i : Int)) = if (0 < i ∧ byteAt s i = 0) ∨ (i = 9 ∧ 1 < byteAt s i) then some (.ret (0, bs [], 4))
      else if byteAt s i < 128 then some (.ret (((acc + byteAt s i % 128 * 128 ^ i : Nat) : Int), s.extract (i + 1) s.size, 0)) else some (.next (((acc + byteAt s i % 128 * 128 ^ i : Nat) : Int), ((128 ^ (i + 1) : Nat) : Int), ((i + 1 : Nat) : Int)))) :
    ∀ (k i acc fuel : Nat), i + k = s.size → i ≤ 9 → acc < 128 ^ i → 10 < fuel + i → outK (loopN B fuel ((acc : Int), ((128 ^ i : Nat) : Int), (i : Int))) (fun (a2 : Int × Int × Int) => none) (fun x => some x) = some (tkC s k i acc) := by
  intro k
  induction k with
  | zero =>
    intro i acc fuel hi h9 ha hf
    cases fuel with
    | zero => omega
    | succ fuel =>
      obtain rfl : i = s.size := by omega
      simp only [loopN, hE acc h9]
      rfl
  | succ k ih =>
    intro i acc fuel hi h9 ha hf
    cases fuel with
    | zero => omega
    | succ fuel =>
      simp only [loopN, hB i acc (by omega) h9 ha, tkC]
      by_cases h1 : (0 < i ∧ byteAt s i = 0) ∨ (i = 9 ∧ 1 < byteAt s i)
      · rw [if_pos h1, if_pos h1]; rfl
      · rw [if_neg h1, if_neg h1]
        by_cases h2 : byteAt s i < 128
        · rw [if_pos h2, if_pos h2]; rfl
        · rw [if_neg h2, if_neg h2]
          have h3 : i ≠ 9 := fun e => h1 (.inr ⟨e, by omega⟩)
          exact ih (i + 1) _ fuel (by omega) (by omega) (acc_next ha) (by omega)

theorem refTakeCount_eq {s : ByteArray} (hs : s.size ≤ maxN) {fuel : Nat} (hf : 10 < fuel) : freshetref01_TakeCount fuel s = some (tkC s s.size 0 0) := by
  unfold maxN at hs
  unfold freshetref01_TakeCount
  refine refTake_loop ?_ ?_ s.size 0 0 fuel (by omega) (by omega) (by decide) (by omega)
  · intro acc h9
    show bf (decide ((s.size : Int) = (s.size : Int))) _ _ = _
    rw [decide_eq_true rfl, bf_true]
  intro i acc hi h9 ha
  have hb := byteAt_lt s i
  have hp := pow_le9 h9
  simp only [bt_byteAt, jn_eq]
  have e2 : IntKind.i64.wrap ((i : Int) + 1) = ((i + 1 : Nat) : Int) := by rw [wrap_small (by omega) (by omega)]; omega
  rw [decide_eq_false (by omega : ¬ (i : Int) = (s.size : Int)), bf_false, need_true (by omega)]
  by_cases hc : (0 < i ∧ byteAt s i = 0) ∨ (i = 9 ∧ 1 < byteAt s i)
  · rw [if_pos hc]
    rcases hc with ⟨h1, h2⟩ | ⟨h1, h2⟩
    · rw [decide_eq_true (by omega : 0 < (i : Int)), decide_eq_true (by omega : (byteAt s i : Int) = 0), decide_eq_false (by omega : ¬ 1 < (byteAt s i : Int))]
      cases decide ((i : Int) = 9) <;> rfl
    · rw [decide_eq_true (by omega : (i : Int) = 9), decide_eq_true (by omega : 1 < (byteAt s i : Int))]
      rfl
  · rw [if_neg hc]
    have h9b : i = 9 → byteAt s i ≤ 1 := fun e => by
      rcases Nat.lt_or_ge 1 (byteAt s i) with h | h
      · exact absurd (.inr ⟨e, h⟩) hc
      · exact h
    have hbd := acc_bound h9 ha hb h9b
    have m1 : (byteAt s i : Int).tmod 128 = ((byteAt s i % 128 : Nat) : Int) := by rw [Int.tmod_eq_emod_of_nonneg (by omega)]; omega
    have m2 : IntKind.u64.wrap ((byteAt s i % 128 : Nat) : Int) = ((byteAt s i % 128 : Nat) : Int) := uwrap (k := .u64) rfl (show byteAt s i % 128 < 2 ^ 64 by omega)
    have m3 : ((byteAt s i % 128 : Nat) : Int) * ((128 ^ i : Nat) : Int) = ((byteAt s i % 128 * 128 ^ i : Nat) : Int) := by rw [Int.natCast_mul]
    have m4 : IntKind.u64.wrap ((byteAt s i % 128 * 128 ^ i : Nat) : Int) = ((byteAt s i % 128 * 128 ^ i : Nat) : Int) := uwrap (k := .u64) rfl (show byteAt s i % 128 * 128 ^ i < 2 ^ 64 by omega)
    have m5 : IntKind.u64.wrap ((acc : Int) + ((byteAt s i % 128 * 128 ^ i : Nat) : Int)) = ((acc + byteAt s i % 128 * 128 ^ i : Nat) : Int) := by
      rw [← Int.natCast_add]
      exact uwrap (k := .u64) rfl (show acc + byteAt s i % 128 * 128 ^ i < 2 ^ 64 by omega)
    rw [m1, m2, m3, m4, m5, e2, Int.toNat_natCast, need_true (by omega)]
    have fin : (bf (decide ((byteAt s i : Int) < 128)) (some (Ctl.ret (((acc + byteAt s i % 128 * 128 ^ i : Nat) : Int), (s.extract (i + 1) s.size), (0 : Int)))) (some (.next (((acc + byteAt s i % 128 * 128 ^ i : Nat) : Int), IntKind.u64.wrap (((128 ^ i : Nat) : Int) * 128), ((i + 1 : Nat) : Int))))) = if byteAt s i < 128 then some (.ret (((acc + byteAt s i % 128 * 128 ^ i : Nat) : Int), s.extract (i + 1) s.size, 0)) else some (.next (((acc + byteAt s i % 128 * 128 ^ i : Nat) : Int), ((128 ^ (i + 1) : Nat) : Int), ((i + 1 : Nat) : Int))) := by
      rw [bf_decide]
      by_cases h : byteAt s i < 128
      · rw [if_pos h, if_pos (by omega)]
      · rw [if_neg h, if_neg (by omega)]
        have h9' : i ≠ 9 := fun e => by have := h9b e; omega
        have hp' := pow_le9 (show i + 1 ≤ 9 by omega)
        have e7 : ((128 ^ i : Nat) : Int) * 128 = ((128 ^ (i + 1) : Nat) : Int) := by rw [Nat.pow_succ, Int.natCast_mul]; rfl
        have e8 : IntKind.u64.wrap ((128 ^ (i + 1) : Nat) : Int) = ((128 ^ (i + 1) : Nat) : Int) := uwrap (k := .u64) rfl (show 128 ^ (i + 1) < 2 ^ 64 by omega)
        rw [e7, e8]
    by_cases h3 : i = 9
    · have := h9b h3
      rw [decide_eq_true (by omega : (i : Int) = 9), decide_eq_false (by omega : ¬ 1 < (byteAt s i : Int)), decide_eq_true (by omega : 0 < (i : Int)), decide_eq_false (by have : byteAt s i ≠ 0 := fun e => hc (.inl ⟨by omega, e⟩); omega : ¬ (byteAt s i : Int) = 0)]
      simp only [bf_true, bf_false]; exact fin
    · rw [decide_eq_false (by omega : ¬ (i : Int) = 9)]
      by_cases h1 : 0 < i
      · have h2 : byteAt s i ≠ 0 := fun e => hc (.inl ⟨h1, e⟩)
        rw [decide_eq_true (by omega : 0 < (i : Int)), decide_eq_false (by omega : ¬ (byteAt s i : Int) = 0)]
        simp only [bf_true, bf_false]; exact fin
      · rw [decide_eq_false (by omega : ¬ 0 < (i : Int))]
        simp only [bf_true, bf_false]; exact fin

/-- What comes of it. -/
theorem tkC_cases {s : ByteArray} : ∀ {k i acc : Nat}, i + k = s.size → i ≤ 9 → acc < 128 ^ i → tkC s k i acc = (0, bs [], 3) ∨ tkC s k i acc = (0, bs [], 4) ∨ ∃ n j : Nat, tkC s k i acc = ((n : Int), s.extract j s.size, 0) ∧ n < 18446744073709551616 ∧ j ≤ s.size
  | 0, i, acc, _, _, _ => .inl rfl
  | k + 1, i, acc, hi, h9, ha => by
    have hb := byteAt_lt s i
    simp only [tkC]
    by_cases h1 : (0 < i ∧ byteAt s i = 0) ∨ (i = 9 ∧ 1 < byteAt s i)
    · rw [if_pos h1]; exact .inr (.inl rfl)
    · rw [if_neg h1]
      have h9b : i = 9 → byteAt s i ≤ 1 := fun e => by
        rcases Nat.lt_or_ge 1 (byteAt s i) with h | h
        · exact absurd (.inr ⟨e, h⟩) h1
        · exact h
      by_cases h2 : byteAt s i < 128
      · rw [if_pos h2]
        exact .inr (.inr ⟨_, i + 1, rfl, acc_bound h9 ha hb h9b, by omega⟩)
      · rw [if_neg h2]
        have h3 : i ≠ 9 := fun e => by have := h9b e; omega
        exact tkC_cases (by omega) (by omega) (acc_next ha)

theorem extract_size' (s : ByteArray) (i j : Nat) (h : j ≤ s.size) : (s.extract i j).size = j - i := by rw [ByteArray.size_extract, Nat.min_eq_left h]

end Go.Av
