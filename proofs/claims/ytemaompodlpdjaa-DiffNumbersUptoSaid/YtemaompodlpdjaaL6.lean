import Derived.Test.YtemaompodlpdjaaAvV
import Derived.Test.YtemaompodlpdjaaN5p
namespace Go.Av
open Go
set_option linter.unusedVariables false
set_option linter.unusedSimpArgs false

/-! ### Numbers -/

theorem wrap_u64 (n : Int) : IntKind.u64.wrap n = n % 18446744073709551616 := by simp [IntKind.wrap, IntKind.bits, IntKind.signed]
theorem wrap_u8 (n : Int) : IntKind.u8.wrap n = n % 256 := by simp [IntKind.wrap, IntKind.bits, IntKind.signed]
theorem wrap_u32 (n : Int) : IntKind.u32.wrap n = n % 4294967296 := by simp [IntKind.wrap, IntKind.bits, IntKind.signed]
theorem wrap_i64 (n : Int) : IntKind.i64.wrap n = if n % 18446744073709551616 ≥ 9223372036854775808 then n % 18446744073709551616 - 18446744073709551616 else n % 18446744073709551616 := by
  simp [IntKind.wrap, IntKind.bits, IntKind.signed]

def in64 (x : Int) : Prop := -9223372036854775808 ≤ x ∧ x < 9223372036854775808
def inU64 (x : Int) : Prop := 0 ≤ x ∧ x < 18446744073709551616

theorem wrap_i64_in {x : Int} (h : in64 x) : IntKind.i64.wrap x = x := by
  unfold in64 at h
  rw [wrap_i64]
  split <;> omega

theorem shr63 {x : Int} (h : in64 x) : shrOp .i64 x 63 = if x < 0 then -1 else 0 := by
  unfold in64 at h
  unfold shrOp
  have e : (2 : Int) ^ (min (63 : Int).toNat IntKind.i64.bits) = 9223372036854775808 := by decide
  rw [e, Int.fdiv_eq_ediv_of_nonneg _ (by decide)]
  split <;> omega

theorem shr32 {x : Int} : shrOp .u64 x 32 = x / 4294967296 := by
  unfold shrOp
  have e : (2 : Int) ^ (min (32 : Int).toNat IntKind.u64.bits) = 4294967296 := by decide
  rw [e, Int.fdiv_eq_ediv_of_nonneg _ (by decide)]

theorem and_mask32 {x : Int} (h : inU64 x) : bitsOp .and .u64 x 4294967295 = x % 4294967296 := by
  obtain ⟨h0, h1⟩ := h
  obtain ⟨n, rfl⟩ := Int.eq_ofNat_of_zero_le h0
  unfold bitsOp
  simp only
  have e : ((BitVec.ofInt IntKind.u64.bits (n : Int)) &&& (BitVec.ofInt IntKind.u64.bits 4294967295)).toNat = n % 4294967296 := by
    rw [BitVec.toNat_and]
    have e1 : (BitVec.ofInt IntKind.u64.bits (n : Int)).toNat = n := by
      show (BitVec.ofInt 64 (n : Int)).toNat = n
      rw [BitVec.toNat_ofInt]
      omega
    have e2 : (BitVec.ofInt IntKind.u64.bits 4294967295).toNat = 2 ^ 32 - 1 := by decide
    rw [e1, e2, Nat.and_two_pow_sub_one_eq_mod]
  rw [e, wrap_u64]
  omega

/-- A sum, or product, as one word, if it is one. -/
def fit64 (s : Int) : Int × Int := if -9223372036854775808 ≤ s ∧ s < 9223372036854775808 then (s, 0) else (0, 10)

theorem fit64_in {s : Int} (h : in64 s) : fit64 s = (s, 0) := if_pos h
theorem fit64_out {s : Int} (h : ¬ in64 s) : fit64 s = (0, 10) := if_neg h

/-! ### Sums -/

theorem tally_add {t : Tally} {p s : Int} (hp : in64 p) (hh : inU64 t.high) (hl : inU64 t.low) (hs : (t.high * 18446744073709551616 + t.low - s) % 340282366920938463463374607431768211456 = 0) :
    ∃ t', freshet_diff_tally_add_w p t = some t' ∧ inU64 t'.high ∧ inU64 t'.low ∧ (t'.high * 18446744073709551616 + t'.low - (s + p)) % 340282366920938463463374607431768211456 = 0 := by
  unfold in64 inU64 at *
  unfold freshet_diff_tally_add_w bits_Add64
  rw [shr63 hp, wrap_u64, wrap_u64]
  rw [need_true (by omega)]
  simp only [Option.bind_some]
  rw [need_true (by split <;> omega)]
  simp only [Option.bind_some]
  refine ⟨_, rfl, ?_, ?_, ?_⟩
  · simp only; omega
  · simp only; omega
  · simp only; split <;> omega

theorem tally_fit {t : Tally} {s : Int} (hh : inU64 t.high) (hl : inU64 t.low) (hs : (t.high * 18446744073709551616 + t.low - s) % 340282366920938463463374607431768211456 = 0)
    (hb : -85070591730234615865843651857942052864 ≤ s ∧ s ≤ 85070591730234615865843651857942052864) : freshet_diff_tally_fit_w t = some ((fit64 s).1, (fit64 s).2, t) := by
  unfold inU64 at *
  have hw : in64 (IntKind.i64.wrap t.low) := by unfold in64; rw [wrap_i64]; split <;> omega
  unfold freshet_diff_tally_fit_w
  rw [shr63 hw, wrap_u64]
  by_cases h : -9223372036854775808 ≤ s ∧ s < 9223372036854775808
  · rw [fit64_in h]
    have e1 : IntKind.i64.wrap t.low = s := by rw [wrap_i64]; split <;> omega
    rw [e1]
    have e2 : t.high = (if s < 0 then (-1 : Int) else 0) % 18446744073709551616 := by split <;> omega
    rw [decide_eq_true e2]
    rfl
  · rw [fit64_out h]
    have e2 : ¬ t.high = (if IntKind.i64.wrap t.low < 0 then (-1 : Int) else 0) % 18446744073709551616 := by
      rw [wrap_i64]
      split <;> split <;> omega
    rw [decide_eq_false e2]
    rfl

theorem sum_bound {l : List Int} (hl : ∀ x ∈ l, in64 x) : -9223372036854775808 * (l.length : Int) ≤ l.sum ∧ l.sum ≤ 9223372036854775808 * (l.length : Int) := by
  induction l with
  | nil => simp
  | cons x l ih =>
    have h1 := ih fun y hy => hl y (List.mem_cons_of_mem _ hy)
    have h2 := hl x (List.mem_cons_self ..)
    unfold in64 at h2
    simp only [List.sum_cons, List.length_cons]
    omega

theorem sum_take_succ {l : List Int} {i : Nat} (h : i < l.length) : (l.take (i + 1)).sum = (l.take i).sum + l.getD i default := by
  rw [take_succ_getD h, List.sum_append]
  simp

theorem diffSum_eq {l : List Int} (hl : ∀ x ∈ l, in64 x) (hn : l.length ≤ maxN) : diff_Sum l = some (fit64 l.sum) := by
  unfold diff_Sum
  obtain ⟨t, h1, h2, h3, h4⟩ := rangeN_inv (R := Empty) (B := fun i1 (a2 : Tally) => (freshet_diff_tally_add_w (l.getD i1 default) a2).bind fun r5 => some (.next r5)) (n := l.length)
    (fun i t => inU64 t.high ∧ inU64 t.low ∧ (t.high * 18446744073709551616 + t.low - (l.take i).sum) % 340282366920938463463374607431768211456 = 0) (s := (⟨0, 0⟩ : Tally)) (by simp [inU64]) (fun i t hi ⟨g1, g2, g3⟩ => by
      obtain ⟨t', e, k1, k2, k3⟩ := tally_add (hl _ (getD_mem' hi)) g1 g2 g3
      refine ⟨t', by rw [e]; rfl, k1, k2, ?_⟩
      rw [sum_take_succ hi]
      exact k3)
  rw [h1]
  rw [List.take_length] at h4
  have hb := sum_bound hl
  have hn' : (l.length : Int) ≤ 281474976710656 := by unfold maxN at hn; omega
  simp only [outK_done]
  rw [tally_fit h2 h3 h4 (by omega)]
  rfl

theorem wide_plus {w : Wide} {p s : Int} (hp : in64 p) (hl : inU64 w.low) (hs : w.high * 18446744073709551616 + w.low = s) (hb : -85070591730234615865843651857942052864 ≤ s ∧ s ≤ 85070591730234615865843651857942052864) :
    ∃ w', freshet_freshetref05_Wide_Plus w p = some w' ∧ inU64 w'.low ∧ w'.high * 18446744073709551616 + w'.low = s + p := by
  unfold in64 inU64 at *
  unfold freshet_freshetref05_Wide_Plus
  have e1 : IntKind.i64.wrap (w.high + 1) = w.high + 1 := wrap_i64_in (by unfold in64; omega)
  have e2 : IntKind.i64.wrap (w.high - 1) = w.high - 1 := wrap_i64_in (by unfold in64; omega)
  have e3 : IntKind.i64.wrap (w.high + 1 - 1) = w.high := by rw [wrap_i64_in (by unfold in64; omega)]; omega
  simp only [jn_eq, wrap_u64, bf_decide, e1]
  split <;> split <;> refine ⟨_, rfl, ?_, ?_⟩ <;> simp only [e2, e3] <;> omega

theorem wide_fit {w : Wide} {s : Int} (hl : inU64 w.low) (hs : w.high * 18446744073709551616 + w.low = s) : freshet_freshetref05_Wide_Fit w = some (fit64 s) := by
  unfold inU64 at *
  unfold freshet_freshetref05_Wide_Fit
  by_cases h : -9223372036854775808 ≤ s ∧ s < 9223372036854775808
  · have e1 : IntKind.i64.wrap w.low = s := by rw [wrap_i64]; split <;> omega
    rw [fit64_in h]
    simp only [jn_eq, e1, bf_decide]
    have : (w.high = 0 ∧ 0 ≤ s) ∨ (w.high = -1 ∧ s < 0) := by omega
    rcases this with ⟨g1, g2⟩ | ⟨g1, g2⟩
    · rw [if_pos g1, if_pos g2]; rfl
    · rw [if_neg (by omega), if_pos g1, if_pos g2]
  · rw [fit64_out h]
    simp only [jn_eq, bf_decide]
    by_cases g1 : w.high = 0
    · have g2 : ¬ 0 ≤ IntKind.i64.wrap w.low := by rw [wrap_i64]; split <;> omega
      rw [if_pos g1, if_neg g2, if_neg (by omega)]; rfl
    · rw [if_neg g1]
      by_cases g2 : w.high = -1
      · have g3 : ¬ IntKind.i64.wrap w.low < 0 := by rw [wrap_i64]; split <;> omega
        rw [if_pos g2, if_neg g3]
      · rw [if_neg g2]; rfl

theorem refSum_eq {l : List Int} (hl : ∀ x ∈ l, in64 x) (hn : l.length ≤ maxN) : freshetref05_Sum l = some (fit64 l.sum) := by
  unfold freshetref05_Sum
  have hn' : (l.length : Int) ≤ 281474976710656 := by unfold maxN at hn; omega
  obtain ⟨t, h1, h2, h3⟩ := rangeN_inv (R := Empty) (B := fun i1 (a2 : Wide) => (freshet_freshetref05_Wide_Plus a2 (l.getD i1 default)).bind fun r5 => some (.next r5)) (n := l.length)
    (fun i t => inU64 t.low ∧ t.high * 18446744073709551616 + t.low = (l.take i).sum) (s := (⟨0, 0⟩ : Wide)) (by simp [inU64]) (fun i t hi ⟨g1, g2⟩ => by
      have hb := sum_bound (l := l.take i) fun x hx => hl x (List.mem_of_mem_take hx)
      have hlen : ((l.take i).length : Int) ≤ 281474976710656 := by rw [List.length_take]; omega
      obtain ⟨t', e, k1, k2⟩ := wide_plus (hl _ (getD_mem' hi)) g1 g2 (by omega)
      exact ⟨t', by rw [e]; rfl, k1, by rw [sum_take_succ hi]; exact k2⟩)
  rw [h1]
  rw [List.take_length] at h3
  simp only [outK_done]
  rw [wide_fit h2 h3]
  rfl

/-! ### Products -/

theorem size_eq {x : Int} (h : in64 x) : diff_size x = some (if x < 0 then -x else x) := by
  unfold in64 at h
  unfold diff_size
  simp only [bf_decide, wrap_u64]
  split
  · congr 1; omega
  · congr 1; omega

theorem mul64_eq {x y : Int} (hx : 0 ≤ x ∧ x ≤ 9223372036854775808) (hy : 0 ≤ y ∧ y ≤ 9223372036854775808) : math_bits_Mul64 x y = some (x * y / 18446744073709551616, x * y % 18446744073709551616) := by
  unfold math_bits_Mul64
  rw [and_mask32 (x := x) ⟨by omega, by omega⟩, and_mask32 (x := y) ⟨by omega, by omega⟩]
  simp only [shr32, wrap_u64]
  obtain ⟨a, b, rfl, ha, hb⟩ : ∃ a b, x = a * 4294967296 + b ∧ (0 ≤ a ∧ a ≤ 2147483648) ∧ (0 ≤ b ∧ b < 4294967296) := ⟨x / 4294967296, x % 4294967296, by omega, by omega, by omega⟩
  obtain ⟨c, d, rfl, hc, hd⟩ : ∃ c d, y = c * 4294967296 + d ∧ (0 ≤ c ∧ c ≤ 2147483648) ∧ (0 ≤ d ∧ d < 4294967296) := ⟨y / 4294967296, y % 4294967296, by omega, by omega, by omega⟩
  have e1 : (a * 4294967296 + b) / 4294967296 = a := by omega
  have e2 : (a * 4294967296 + b) % 4294967296 = b := by omega
  have e3 : (c * 4294967296 + d) / 4294967296 = c := by omega
  have e4 : (c * 4294967296 + d) % 4294967296 = d := by omega
  rw [e1, e2, e3, e4]
  have hexp : (a * 4294967296 + b) * (c * 4294967296 + d) = (a * c) * 18446744073709551616 + (a * d + b * c) * 4294967296 + b * d := by
    rw [Int.add_mul, Int.mul_add, Int.mul_add, Int.add_mul]
    have p1 : a * 4294967296 * (c * 4294967296) = (a * c) * 18446744073709551616 := by
      rw [Int.mul_assoc, ← Int.mul_assoc 4294967296, Int.mul_comm 4294967296 c, Int.mul_assoc c, ← Int.mul_assoc a]; rfl
    have p2 : a * 4294967296 * d = a * d * 4294967296 := by rw [Int.mul_assoc, Int.mul_comm 4294967296 d, ← Int.mul_assoc]
    have p3 : b * (c * 4294967296) = b * c * 4294967296 := by rw [← Int.mul_assoc]
    rw [p1, p2, p3]; omega
  rw [hexp]
  have q1 : 0 ≤ a * c ∧ a * c ≤ 2147483648 * 2147483648 := ⟨Int.mul_nonneg ha.1 hc.1, Int.mul_le_mul ha.2 hc.2 hc.1 (by omega)⟩
  have q2 : 0 ≤ a * d ∧ a * d ≤ 2147483648 * 4294967295 := ⟨Int.mul_nonneg ha.1 hd.1, Int.mul_le_mul ha.2 (by omega) hd.1 (by omega)⟩
  have q3 : 0 ≤ b * c ∧ b * c ≤ 4294967295 * 2147483648 := ⟨Int.mul_nonneg hb.1 hc.1, Int.mul_le_mul (by omega) hc.2 hc.1 (by omega)⟩
  have q4 : 0 ≤ b * d ∧ b * d ≤ 4294967295 * 4294967295 := ⟨Int.mul_nonneg hb.1 hd.1, Int.mul_le_mul (by omega) (by omega) hd.1 (by omega)⟩
  generalize a * c = A at *
  generalize a * d = B at *
  generalize b * c = C at *
  generalize b * d = D at *
  have m1 : (B % 18446744073709551616 + D % 18446744073709551616 / 4294967296) % 18446744073709551616 = B + D / 4294967296 := by omega
  rw [m1, and_mask32 (x := B + D / 4294967296) ⟨by omega, by omega⟩]
  congr 2
  omega

theorem diffTimes_eq {a b : Int} (ha : in64 a) (hb : in64 b) : diff_Times a b = some (fit64 (a * b)) := by
  unfold diff_Times
  rw [size_eq ha, size_eq hb]
  unfold in64 at ha hb
  simp only [Option.bind_some]
  rw [mul64_eq (by split <;> omega) (by split <;> omega)]
  simp only [Option.bind_some, jn_eq]
  have hneg : ∀ x y : Int, (-x) * y = -(x * y) := Int.neg_mul
  have key : ∀ (P m : Int), 0 ≤ P → (m = 9223372036854775807 ∨ m = 9223372036854775808) → (a * b = P ∧ m = 9223372036854775807 ∨ a * b = -P ∧ m = 9223372036854775808) → P < 340282366920938463463374607431768211456 →
      (bf (!decide (P / 18446744073709551616 = 0)) (bf true (some ((0 : Int), (10 : Int))) (some (IntKind.i64.wrap (a * b), 0))) (bf (decide (m < P % 18446744073709551616)) (some (0, 10)) (some (IntKind.i64.wrap (a * b), 0)))) = some (fit64 (a * b)) := by
    intro P m hP hm hab hlt
    by_cases h : in64 (a * b)
    · rw [fit64_in h, wrap_i64_in h]
      unfold in64 at h
      have h1 : P / 18446744073709551616 = 0 := by omega
      have h2 : ¬ m < P % 18446744073709551616 := by omega
      rw [decide_eq_true h1, decide_eq_false h2]
      rfl
    · rw [fit64_out h]
      unfold in64 at h
      by_cases h1 : P / 18446744073709551616 = 0
      · have h2 : m < P % 18446744073709551616 := by omega
        rw [decide_eq_true h1, decide_eq_true h2]
        rfl
      · rw [decide_eq_false h1]
        rfl
  have hbnd : ∀ x y : Int, 0 ≤ x → x ≤ 9223372036854775808 → 0 ≤ y → y ≤ 9223372036854775808 → 0 ≤ x * y ∧ x * y < 340282366920938463463374607431768211456 := fun x y h1 h2 h3 h4 => ⟨Int.mul_nonneg h1 h3, by
    have := Int.mul_le_mul h2 h4 h3 (by omega)
    omega⟩
  by_cases h1 : a < 0 <;> by_cases h2 : b < 0
  · rw [if_pos h1, if_pos h2, decide_eq_true h1, decide_eq_true h2]
    have hb := hbnd (-a) (-b) (by omega) (by omega) (by omega) (by omega)
    have e : -a * -b = a * b := Int.neg_mul_neg a b
    simp only [beq_self_eq_true, bf_true]
    rw [wrap_u64]
    exact key _ _ hb.1 (.inl (by omega)) (.inl ⟨e.symm, by omega⟩) hb.2
  · rw [if_pos h1, if_neg h2, decide_eq_true h1, decide_eq_false h2]
    have hb := hbnd (-a) b (by omega) (by omega) (by omega) (by omega)
    have e : -a * b = -(a * b) := Int.neg_mul a b
    show bf false _ _ = _
    simp only [bf_false]
    exact key _ _ hb.1 (.inr rfl) (.inr ⟨by omega, rfl⟩) hb.2
  · rw [if_neg h1, if_pos h2, decide_eq_false h1, decide_eq_true h2]
    have hb := hbnd a (-b) (by omega) (by omega) (by omega) (by omega)
    have e : a * -b = -(a * b) := Int.mul_neg a b
    show bf false _ _ = _
    simp only [bf_false]
    exact key _ _ hb.1 (.inr rfl) (.inr ⟨by omega, rfl⟩) hb.2
  · rw [if_neg h1, if_neg h2, decide_eq_false h1, decide_eq_false h2]
    have hb := hbnd a b (by omega) (by omega) (by omega) (by omega)
    simp only [beq_self_eq_true, bf_true]
    rw [wrap_u64]
    exact key _ _ hb.1 (.inl (by omega)) (.inl ⟨rfl, by omega⟩) hb.2

theorem tdiv_exact {n a b : Int} (hb : in64 b) (hn : in64 n) (h : n = IntKind.i64.wrap (a * b)) (hd : n.tdiv b = a) : n = a * b := by
  have e := Int.tmod_add_mul_tdiv n b
  rw [hd] at e
  have hm : -9223372036854775808 ≤ n.tmod b ∧ n.tmod b ≤ 9223372036854775808 := by
    by_cases h0 : b = 0
    · subst h0; rw [Int.tmod_zero]; unfold in64 at hn; omega
    · have h1 := Int.tmod_lt_of_pos
      have h2 : (n.tmod b).natAbs < b.natAbs := by
        rw [Int.natAbs_tmod]
        exact Nat.mod_lt _ (by omega)
      unfold in64 at hb
      omega
  rw [Int.mul_comm b a] at e
  rw [wrap_i64] at h
  generalize a * b = P at *
  split at h <;> omega

theorem refTimes_eq {a b : Int} (ha : in64 a) (hb : in64 b) : freshetref05_Times a b = some (fit64 (a * b)) := by
  by_cases hsp : a = -9223372036854775808 ∧ b = -1
  · obtain ⟨rfl, rfl⟩ := hsp; rfl
  unfold freshetref05_Times
  by_cases ha0 : a = 0
  · subst ha0; simp [fit64]
  by_cases hb0 : b = 0
  · subst hb0; simp [fit64, ha0]
  have hn : in64 (IntKind.i64.wrap (a * b)) := by unfold in64; rw [wrap_i64]; split <;> omega
  have hout : ¬ in64 (a * b) → (IntKind.i64.wrap (a * b)).tdiv b ≠ a := fun h hd => by
    have := tdiv_exact hb hn rfl hd
    rw [this] at hn
    exact h hn
  have hin : in64 (a * b) → IntKind.i64.wrap (a * b) = a * b := wrap_i64_in
  have d1 : (a * b).tdiv b = a := Int.mul_tdiv_cancel a hb0
  have d2 : (a * b).tdiv a = b := Int.mul_tdiv_cancel_left b ha0
  simp only [jn_eq, bf_decide, bf_not, if_neg ha0, if_neg hb0, decide_eq_false ha0, decide_eq_false hb0, bf_false, bf_true]
  have s1 : b < 0 → 0 < IntKind.i64.wrap (b - 1) → b = -9223372036854775808 := fun h1 h2 => by
    unfold in64 at hb
    rw [wrap_i64] at h2
    split at h2 <;> omega
  have s2 : a < 0 → 0 < IntKind.i64.wrap (a - 1) → a = -9223372036854775808 := fun h1 h2 => by
    unfold in64 at ha
    rw [wrap_i64] at h2
    split at h2 <;> omega
  by_cases h : in64 (a * b)
  · rw [fit64_in h, hin h]
    simp only [d1, d2, wrap_i64_in ha, wrap_i64_in hb, need_true hb0, need_true ha0, if_true]
    unfold in64 at h
    have t1 : a = -1 → b < 0 → 0 < IntKind.i64.wrap (b - 1) → False := fun g1 g2 g3 => by
      have := s1 g2 g3
      subst g1 this
      omega
    have t2 : b = -1 → a < 0 → 0 < IntKind.i64.wrap (a - 1) → False := fun g1 g2 g3 => by
      have := s2 g2 g3
      subst g1 this
      omega
    repeat' split
    all_goals first | rfl | exact (t1 ‹_› ‹_› ‹_›).elim | exact (t2 ‹_› ‹_› ‹_›).elim
  · rw [fit64_out h]
    have hy : IntKind.i64.wrap ((IntKind.i64.wrap (a * b)).tdiv b) ≠ a := fun e => by
      by_cases hr : in64 ((IntKind.i64.wrap (a * b)).tdiv b)
      · rw [wrap_i64_in hr] at e
        exact hout h e
      · have hab := Int.natAbs_tdiv (IntKind.i64.wrap (a * b)) b
        have hle : ((IntKind.i64.wrap (a * b)).tdiv b).natAbs ≤ (IntKind.i64.wrap (a * b)).natAbs := by rw [hab]; exact Nat.div_le_self _ _
        have hq : (IntKind.i64.wrap (a * b)).tdiv b = 9223372036854775808 := by
          unfold in64 at hr hn
          omega
        have hn1 : IntKind.i64.wrap (a * b) = -9223372036854775808 := by unfold in64 at hn; omega
        rw [hn1] at hab hq
        rw [hq] at hab
        have f1 : (9223372036854775808 : Int).natAbs = 9223372036854775808 := by decide
        have f2 : (-9223372036854775808 : Int).natAbs = 9223372036854775808 := by decide
        rw [f1, f2] at hab
        have hb2 : b.natAbs = 1 := by
          have hbn : 0 < b.natAbs := by omega
          rcases Nat.lt_or_ge 1 b.natAbs with g | g
          · have : 9223372036854775808 / b.natAbs ≤ 9223372036854775808 / 2 := Nat.div_le_div_left g (by omega)
            have hab : 9223372036854775808 = 9223372036854775808 / b.natAbs := hab
            rw [← hab] at this
            exact absurd this (by decide)
          · omega
        have : b = 1 ∨ b = -1 := by omega
        rcases this with rfl | rfl
        · simp at hq
        · refine hsp ⟨?_, rfl⟩
          rw [← e, hn1, hq]
          decide
    simp only [need_true hb0, if_neg hy, ite_self]

theorem sums_eq : freshetlaw05_sums = some true := by rfl

theorem DiffSums_true {l : List Int} {a b : Int} (hl : ∀ x ∈ l, in64 x) (hn : l.length ≤ maxN) (ha : in64 a) (hb : in64 b) : freshetlaw05_DiffSums l a b = some true := by
  unfold freshetlaw05_DiffSums
  simp [diffSum_eq hl hn, refSum_eq hl hn, diffTimes_eq ha hb, refTimes_eq ha hb, sums_eq]


/-! ### Sums of lists that a loop makes -/

/-- Loops that go on as long as a number tells. -/
theorem loopN_steps {S R : Type} {B : S → Option (Ctl S R)} (f : Nat → S) {n fuel : Nat} {z : S} (hf : n < fuel) (hs : ∀ i, i < n → B (f i) = some (.next (f (i + 1)))) (he : B (f n) = some (.brk z)) : loopN B fuel (f 0) = some (.done z) := by
  have key : ∀ k i fuel, i + k = n → k < fuel → loopN B fuel (f i) = some (.done z) := by
    intro k
    induction k with
    | zero =>
      intro i fuel hi hf
      have : i = n := by omega
      subst this
      cases fuel with
      | zero => omega
      | succ fuel => simp only [loopN, he]
    | succ k ih =>
      intro i fuel hi hf
      cases fuel with
      | zero => omega
      | succ fuel => simp only [loopN, hs i (by omega)]; exact ih (i + 1) fuel (by omega) (by omega)
  exact key n 0 fuel (by omega) hf

def pairUp (x : Int) : List Int := if -9223372036854775807 < x then [x, IntKind.i64.wrap (0 - x)] else []

theorem pairUp_sum {x : Int} (h : in64 x) : (pairUp x).sum = 0 := by
  unfold pairUp
  split
  · rw [wrap_i64_in (by unfold in64 at *; omega)]; simp; omega
  · rfl
theorem pairUp_in {x : Int} (h : in64 x) : ∀ y ∈ pairUp x, in64 y := by
  unfold pairUp
  split
  · intro y hy
    simp only [List.mem_cons, List.not_mem_nil, or_false] at hy
    rcases hy with rfl | rfl
    · exact h
    · rw [wrap_i64_in (by unfold in64 at *; omega)]; unfold in64 at *; omega
  · intro y hy; cases hy
theorem pairUp_len (x : Int) : (pairUp x).length ≤ 2 := by unfold pairUp; split <;> simp

theorem flat_sum {l : List Int} (hl : ∀ x ∈ l, in64 x) : (l.flatMap pairUp).sum = 0 := by
  induction l with
  | nil => rfl
  | cons x l ih => rw [List.flatMap_cons, List.sum_append, pairUp_sum (hl x (List.mem_cons_self ..)), ih fun y hy => hl y (List.mem_cons_of_mem _ hy)]; rfl
theorem flat_len (l : List Int) : (l.flatMap pairUp).length ≤ 2 * l.length := by
  induction l with
  | nil => simp
  | cons x l ih => rw [List.flatMap_cons, List.length_append, List.length_cons]; have := pairUp_len x; omega
theorem flat_in {l : List Int} (hl : ∀ x ∈ l, in64 x) : ∀ y ∈ l.flatMap pairUp, in64 y := fun y hy => by
  obtain ⟨x, hx, hy⟩ := List.mem_flatMap.1 hy
  exact pairUp_in (hl x hx) y hy

theorem drop_getD {l : List Int} {i : Nat} (h : i < l.length) : l.drop i = l.getD i default :: l.drop (i + 1) := by
  rw [List.drop_eq_getElem_cons h, List.getD_eq_getElem?_getD, List.getElem?_eq_getElem h]; rfl

theorem DiffNumbers_true {l : List Int} {n k : Int} (hl : ∀ x ∈ l, in64 x) (hn : l.length ≤ 1048576) (hx : in64 n) (hk : 0 ≤ k ∧ k < 256) : freshetlaw05_DiffNumbers 2000000 l n k = some true := by
  unfold freshetlaw05_DiffNumbers
  rw [sums_eq, Option.bind_some]
  simp only [Bool.not_true, bf_false]
  have hlen : l.length ≤ maxN := by unfold maxN; omega
  -- the lists that are made
  rw [show ((IntKind.i64.wrap ((l.length : Int) - 1)), ([] : List Int), ([] : List Int)) = (fun i : Nat => (((l.length : Int) - 1 - (i : Int)), (l.drop (l.length - i)).reverse, ((l.drop (l.length - i)).reverse).flatMap pairUp)) 0 by
    simp only [Nat.sub_zero, List.drop_length]
    rw [wrap_i64_in (by unfold in64; omega)]
    simp]
  rw [loopN_steps (R := Empty) (n := l.length) (z := ((-1 : Int), l.reverse, l.reverse.flatMap pairUp)) (fun i : Nat => (((l.length : Int) - 1 - (i : Int)), (l.drop (l.length - i)).reverse, ((l.drop (l.length - i)).reverse).flatMap pairUp)) (by omega)
    (fun i hi => by
      obtain ⟨j, hj⟩ : ∃ j, l.length - i = j + 1 ∧ j < l.length := ⟨l.length - i - 1, by omega, by omega⟩
      have e1 : (l.length : Int) - 1 - (i : Int) = (j : Int) := by omega
      have e2 : l.length - (i + 1) = j := by omega
      have e3 : (l.length : Int) - 1 - ((i + 1 : Nat) : Int) = (j : Int) - 1 := by omega
      have hd := drop_getD hj.2
      have h0 : (l.drop (j + 1)).length ≤ 1048576 := by rw [List.length_drop]; omega
      have hf := flat_len (l.drop (j + 1)).reverse
      rw [List.length_reverse] at hf
      simp only [e1, e2, e3, hj.1, bf_decide, jn_eq, Int.toNat_natCast]
      rw [hd, if_pos (by omega), need_true (by omega), need_true (by simp only [List.length_reverse, List.length_cons, List.length_nil]; omega), need_true (by omega), List.reverse_cons, List.flatMap_append]
      rw [wrap_i64_in (x := (j : Int) - 1) (by unfold in64; omega)]
      generalize l.getD j default = x
      split
      · rename_i hp
        rw [need_true (by omega), need_true (by omega), need_true (by simp only [List.length_cons, List.length_nil]; omega)]
        simp [pairUp, hp]
      · rename_i hp
        simp [pairUp, hp])
    (by simp only [Nat.sub_self, List.drop_zero, bf_decide]
        rw [if_neg (by omega)]
        simp only [Option.some.injEq, Ctl.brk.injEq, Prod.mk.injEq, and_true]
        omega)]
  simp only [outK_done]
  rw [diffSum_eq hl hlen, diffSum_eq (l := l.reverse) (fun x hx => hl x (List.mem_reverse.1 hx)) (by rw [List.length_reverse]; exact hlen)]
  have hlr : ∀ x ∈ l.reverse, in64 x := fun x hx => hl x (List.mem_reverse.1 hx)
  have hfl := flat_len l.reverse
  rw [List.length_reverse] at hfl
  rw [diffSum_eq (flat_in hlr) (by unfold maxN; omega), flat_sum hlr]
  have hkm : k.tmod 20 = k % 20 := Int.tmod_eq_emod_of_nonneg hk.1
  obtain ⟨m, hm⟩ : ∃ m : Nat, k % 20 = (m : Int) := Int.eq_ofNat_of_zero_le (by omega)
  have hm20 : m < 20 := by omega
  simp only [Option.bind_some, hkm, hm]
  rw [show ((0 : Int), ([] : List Int)) = (fun i : Nat => ((i : Int), List.replicate i n)) 0 from rfl]
  rw [loopN_steps (R := Empty) (n := m) (z := ((m : Int), List.replicate m n)) (fun i : Nat => ((i : Int), List.replicate i n)) (by omega)
    (fun i hi => by
      simp only [bf_decide]
      rw [if_pos (by omega), need_true (by simp; omega), wrap_u8]
      have : ((i : Int) + 1) % 256 = ((i + 1 : Nat) : Int) := by omega
      rw [this, List.replicate_succ', ]) (by simp only [bf_decide]; rw [if_neg (by omega)])]
  simp only [outK_done]
  rw [diffSum_eq (l := List.replicate m n) (fun x hx' => by rw [(List.mem_replicate.1 hx').2]; exact hx) (by rw [List.length_replicate]; unfold maxN; omega)]
  rw [wrap_i64_in (x := (m : Int)) (by unfold in64; omega), diffTimes_eq hx (by unfold in64; omega)]
  have hrs : l.reverse.sum = l.sum := by
    rw [List.sum_reverse]
  have hre : (List.replicate m n).sum = n * (m : Int) := by
    clear hm hm20
    induction m with
    | zero => simp
    | succ m ih => rw [List.replicate_succ, List.sum_cons, ih, Int.natCast_add, Int.mul_add]; simp; omega
  rw [hrs, hre]
  simp [fit64]

end Go.Av
