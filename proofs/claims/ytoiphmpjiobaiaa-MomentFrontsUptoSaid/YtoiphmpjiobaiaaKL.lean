import Derived.Test.YtoiphmpjiobaiaaNC
import Derived.Test.YtoiphmpjiobaiaaM8p
import Derived.Sort.LotD5
namespace Go.Av
open Go
set_option linter.unusedVariables false
set_option linter.unusedSimpArgs false


theorem len_tab : ∀ x : Fin 256, ∃ l : Fin 9, bt lit_256_1d3e63 (x.val : Int) = (l.val : Int) ∧ x.val < 2 ^ l.val ∧ (x.val = 0 → l.val = 0) ∧ (x.val ≠ 0 → 2 ^ (l.val - 1) ≤ x.val ∧ 0 < l.val) := by decide +kernel

def IsLen (n L : Nat) : Prop := n < 2 ^ L ∧ (n = 0 → L = 0) ∧ (n ≠ 0 → 2 ^ (L - 1) ≤ n ∧ 0 < L)

theorem IsLen.shift {n L s : Nat} (h : IsLen (n / 2 ^ s) L) (hn : 2 ^ s ≤ n) : IsLen n (L + s) := by
  obtain ⟨h1, h2, h3⟩ := h
  have hp : 0 < 2 ^ s := Nat.pow_pos (by decide)
  have hq : n / 2 ^ s ≠ 0 := Nat.ne_of_gt (Nat.div_pos hn hp)
  obtain ⟨h4, h5⟩ := h3 hq
  refine ⟨?_, fun h => by omega, fun _ => ⟨?_, by omega⟩⟩
  · rw [Nat.pow_add]
    exact (Nat.div_lt_iff_lt_mul hp).1 h1
  · rw [show L + s - 1 = (L - 1) + s by omega, Nat.pow_add]
    exact (Nat.le_div_iff_mul_le hp).1 h4

theorem len64_eq {n : Nat} (h : n < 2 ^ 64) : ∃ L : Nat, math_bits_Len64 (n : Int) = some (L : Int) ∧ IsLen n L ∧ L ≤ 64 := by
  have last : ∀ (x b : Nat), x < 256 → b ≤ 56 → ∃ L : Nat, (need ((0 : Int) ≤ (IntKind.u8.wrap (x : Int)) ∧ (IntKind.u8.wrap (x : Int)) < (lit_256_1d3e63.size : Int)) <| some (IntKind.i64.wrap ((b : Int) + (IntKind.i64.wrap (bt lit_256_1d3e63 (IntKind.u8.wrap (x : Int))))))) = some ((L + b : Nat) : Int) ∧ IsLen x L ∧ L ≤ 8 := fun x b hx hb => by
    obtain ⟨l, h1, h2, h3, h4⟩ := len_tab ⟨x, hx⟩
    have e : IntKind.u8.wrap (x : Int) = (x : Int) := uwrap (k := .u8) rfl hx
    have hsz : lit_256_1d3e63.size = 256 := by decide +kernel
    rw [e, hsz, need_true (by omega), h1]
    have hl := l.isLt
    refine ⟨l.val, ?_, ⟨h2, h3, h4⟩, by omega⟩
    rw [wrap_small (n := (l.val : Int)) (by omega) (by omega), wrap_small (by omega) (by omega)]
    exact congrArg some (by omega)
  have s8 : ∀ x : Nat, shrOp .u64 (x : Int) 8 = ((x / 2 ^ 8 : Nat) : Int) := fun x => shr_nat .u64 x 8 (by decide)
  have s16 : ∀ x : Nat, shrOp .u64 (x : Int) 16 = ((x / 2 ^ 16 : Nat) : Int) := fun x => shr_nat .u64 x 16 (by decide)
  have s32 : ∀ x : Nat, shrOp .u64 (x : Int) 32 = ((x / 2 ^ 32 : Nat) : Int) := fun x => shr_nat .u64 x 32 (by decide)
  have p8 : ∀ (x b : Nat), x < 65536 → b ≤ 48 → ∃ L : Nat, bf (decide (256 ≤ (x : Int))) (need ((0 : Int) ≤ (IntKind.u8.wrap (shrOp .u64 (x : Int) 8)) ∧ (IntKind.u8.wrap (shrOp .u64 (x : Int) 8)) < (lit_256_1d3e63.size : Int)) <| some (IntKind.i64.wrap ((IntKind.i64.wrap ((b : Int) + 8)) + (IntKind.i64.wrap (bt lit_256_1d3e63 (IntKind.u8.wrap (shrOp .u64 (x : Int) 8))))))) (need ((0 : Int) ≤ (IntKind.u8.wrap (x : Int)) ∧ (IntKind.u8.wrap (x : Int)) < (lit_256_1d3e63.size : Int)) <| some (IntKind.i64.wrap ((b : Int) + (IntKind.i64.wrap (bt lit_256_1d3e63 (IntKind.u8.wrap (x : Int))))))) = some ((L + b : Nat) : Int) ∧ IsLen x L ∧ L ≤ 16 := fun x b hx hb => by
    rw [bf_decide]
    by_cases h1 : 256 ≤ (x : Int)
    · rw [if_pos h1, s8, wrap_small (n := (b : Int) + 8) (by omega) (by omega)]
      obtain ⟨L, g1, g2, g3⟩ := last (x / 2 ^ 8) (b + 8) (by omega) (by omega)
      rw [show ((b + 8 : Nat) : Int) = (b : Int) + 8 by omega] at g1
      refine ⟨L + 8, ?_, g2.shift (by omega), by omega⟩
      exact g1.trans (congrArg some (by omega))
    · rw [if_neg h1]
      obtain ⟨L, g1, g2, g3⟩ := last x b (by omega) (by omega)
      exact ⟨L, g1, g2, by omega⟩
  unfold math_bits_Len64
  simp only [jn_eq]
  by_cases h1 : 4294967296 ≤ (n : Int)
  · rw [bf_decide, if_pos h1, s32, bf_decide]
    by_cases h2 : 65536 ≤ ((n / 2 ^ 32 : Nat) : Int)
    · rw [if_pos h2, s16, show IntKind.i64.wrap (32 + 16) = ((48 : Nat) : Int) from by decide]
      obtain ⟨L, g1, g2, g3⟩ := p8 (n / 2 ^ 32 / 2 ^ 16) 48 (by omega) (by omega)
      refine ⟨L + 48, g1, ?_, by omega⟩
      have := (g2.shift (by omega)).shift (n := n) (s := 32) (by omega)
      rw [Nat.add_assoc] at this
      exact this
    · rw [if_neg h2]
      obtain ⟨L, g1, g2, g3⟩ := p8 (n / 2 ^ 32) 32 (by omega) (by omega)
      exact ⟨L + 32, g1, g2.shift (by omega), by omega⟩
  · rw [bf_decide, if_neg h1, bf_decide]
    by_cases h2 : 65536 ≤ (n : Int)
    · rw [if_pos h2, s16, show IntKind.i64.wrap (0 + 16) = ((16 : Nat) : Int) from by decide]
      obtain ⟨L, g1, g2, g3⟩ := p8 (n / 2 ^ 16) 16 (by omega) (by omega)
      exact ⟨L + 16, g1, g2.shift (by omega), by omega⟩
    · rw [if_neg h2]
      obtain ⟨L, g1, g2, g3⟩ := p8 n 0 (by omega) (by omega)
      exact ⟨L, by rw [show ((0 : Nat) : Int) = 0 from rfl] at g1; exact g1, g2, by omega⟩


theorem len_uniq {n L K : Nat} (h : IsLen n L) (g : IsLen n K) : L = K := by
  obtain ⟨h1, h2, h3⟩ := h
  obtain ⟨g1, g2, g3⟩ := g
  by_cases h0 : n = 0
  · rw [h2 h0, g2 h0]
  · obtain ⟨h4, h5⟩ := h3 h0
    obtain ⟨g4, g5⟩ := g3 h0
    rcases Nat.lt_trichotomy L K with e | e | e
    · have := Nat.pow_le_pow_right (n := 2) (by decide) (show L ≤ K - 1 by omega); omega
    · exact e
    · have := Nat.pow_le_pow_right (n := 2) (by decide) (show K ≤ L - 1 by omega); omega

theorem bitsLen_is (n : Nat) : IsLen n (Sort.bitsLen n) := by
  refine ⟨Sort.lt_two_pow_bitsLen n, fun h => by rw [h]; rfl, fun h => ?_⟩
  have hp : 0 < Sort.bitsLen n := by unfold Sort.bitsLen; rw [if_neg h]; omega
  refine ⟨?_, hp⟩
  have := mt (Sort.bitsLen_le_iff n (Sort.bitsLen n - 1)).2 (by omega)
  omega

theorem bitsLen_lt {n k : Nat} (h : n < 2 ^ k) : Sort.bitsLen n ≤ k := (Sort.bitsLen_le_iff n k).2 h

theorem len_eq {n : Nat} (h : n < 2 ^ 64) : math_bits_Len (n : Int) = some ((Sort.bitsLen n : Nat) : Int) := by
  unfold math_bits_Len
  have e : IntKind.u64.wrap (n : Int) = (n : Int) := uwrap (k := .u64) rfl h
  obtain ⟨L, e1, e2, _⟩ := len64_eq h
  rw [show Sort.bitsLen n = L from len_uniq (bitsLen_is n) e2]
  first
    | rw [e, e1]; rfl
    | (rw [e1]; rfl)

end Go.Av
