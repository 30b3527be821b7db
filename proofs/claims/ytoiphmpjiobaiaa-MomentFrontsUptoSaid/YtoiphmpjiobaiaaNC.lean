/-
  Numbers and bits: without any program.
-/
import Derived.Test.YtoiphmpjiobaiaaAvY1
import Derived.Test.YtoiphmpjiobaiaaAvV
namespace Go.Av
open Go
set_option linter.unusedVariables false
set_option linter.unusedSimpArgs false

theorem wrap_u64 (n : Int) : IntKind.u64.wrap n = n % 18446744073709551616 := by simp [IntKind.wrap, IntKind.bits, IntKind.signed]
theorem wrap_u8 (n : Int) : IntKind.u8.wrap n = n % 256 := by simp [IntKind.wrap, IntKind.bits, IntKind.signed]
theorem wrap_u32 (n : Int) : IntKind.u32.wrap n = n % 4294967296 := by simp [IntKind.wrap, IntKind.bits, IntKind.signed]
theorem wrap_i64 (n : Int) : IntKind.i64.wrap n = if n % 18446744073709551616 ≥ 9223372036854775808 then n % 18446744073709551616 - 18446744073709551616 else n % 18446744073709551616 := by
  simp [IntKind.wrap, IntKind.bits, IntKind.signed]

def in64 (x : Int) : Prop := -9223372036854775808 ≤ x ∧ x < 9223372036854775808
def inU64 (x : Int) : Prop := 0 ≤ x ∧ x < 18446744073709551616

theorem wrap_i64_in {x : Int} (h : in64 x) : IntKind.i64.wrap x = x := by
  unfold in64 at h
  rw [wrap_i64]
  split <;> omega

theorem shr63 {x : Int} (h : in64 x) : shrOp .i64 x 63 = if x < 0 then -1 else 0 := by
  unfold in64 at h
  unfold shrOp
  have e : (2 : Int) ^ (min (63 : Int).toNat IntKind.i64.bits) = 9223372036854775808 := by decide
  rw [e, Int.fdiv_eq_ediv_of_nonneg _ (by decide)]
  split <;> omega

theorem shr32 {x : Int} : shrOp .u64 x 32 = x / 4294967296 := by
  unfold shrOp
  have e : (2 : Int) ^ (min (32 : Int).toNat IntKind.u64.bits) = 4294967296 := by decide
  rw [e, Int.fdiv_eq_ediv_of_nonneg _ (by decide)]

theorem shr_nat (k : IntKind) (n m : Nat) (hm : m ≤ k.bits) : shrOp k (n : Int) (m : Int) = ((n / 2 ^ m : Nat) : Int) := by
  unfold shrOp
  rw [Int.toNat_natCast, Nat.min_eq_left hm, Int.fdiv_eq_ediv_of_nonneg _ (by exact Int.le_of_lt (Int.pow_pos (by decide)))]
  push_cast
  rfl

theorem ofInt_toNat {w : Nat} (n : Nat) (h : n < 2 ^ w) : (BitVec.ofInt w (n : Int)).toNat = n := by
  rw [BitVec.toNat_ofInt]
  have e : ((n : Int) % ((2 ^ w : Nat) : Int)) = (n : Int) := Int.emod_eq_of_lt (by omega) (by exact_mod_cast h)
  rw [e, Int.toNat_natCast]

theorem uwrap {k : IntKind} (hs : k.signed = false) {n : Nat} (h : n < 2 ^ k.bits) : k.wrap (n : Int) = (n : Int) := by
  unfold IntKind.wrap
  simp only [hs, Bool.false_and, Bool.false_eq_true, if_false]
  have : ((2 : Int) ^ k.bits) = ((2 ^ k.bits : Nat) : Int) := by push_cast; rfl
  rw [this]
  exact Int.emod_eq_of_lt (by omega) (by exact_mod_cast h)

theorem xor_nat {k : IntKind} (hs : k.signed = false) {x y : Nat} (hx : x < 2 ^ k.bits) (hy : y < 2 ^ k.bits) : bitsOp .xor k (x : Int) (y : Int) = ((x ^^^ y : Nat) : Int) := by
  unfold bitsOp
  simp only
  rw [BitVec.toNat_xor, ofInt_toNat x hx, ofInt_toNat y hy, uwrap hs (Nat.xor_lt_two_pow hx hy)]
theorem or_nat {k : IntKind} (hs : k.signed = false) {x y : Nat} (hx : x < 2 ^ k.bits) (hy : y < 2 ^ k.bits) : bitsOp .or k (x : Int) (y : Int) = ((x ||| y : Nat) : Int) := by
  unfold bitsOp
  simp only
  rw [BitVec.toNat_or, ofInt_toNat x hx, ofInt_toNat y hy, uwrap hs (Nat.or_lt_two_pow hx hy)]
theorem and_nat {k : IntKind} (hs : k.signed = false) {x y : Nat} (hx : x < 2 ^ k.bits) (hy : y < 2 ^ k.bits) : bitsOp .and k (x : Int) (y : Int) = ((x &&& y : Nat) : Int) := by
  unfold bitsOp
  simp only
  rw [BitVec.toNat_and, ofInt_toNat x hx, ofInt_toNat y hy, uwrap hs (Nat.and_lt_two_pow x hy)]

theorem and_mask32 {x : Int} (h : inU64 x) : bitsOp .and .u64 x 4294967295 = x % 4294967296 := by
  obtain ⟨h0, h1⟩ := h
  obtain ⟨n, rfl⟩ := Int.eq_ofNat_of_zero_le h0
  have := and_nat (k := .u64) rfl (x := n) (y := 4294967295) (by show n < 2 ^ 64; omega) (by show 4294967295 < 2 ^ 64; decide)
  rw [show ((4294967295 : Nat) : Int) = 4294967295 from rfl] at this
  rw [this, show (4294967295 : Nat) = 2 ^ 32 - 1 from rfl, Nat.and_two_pow_sub_one_eq_mod]
  omega

theorem and1_nat {k : IntKind} (hs : k.signed = false) {x : Nat} (hx : x < 2 ^ k.bits) (hk : 1 < 2 ^ k.bits) : bitsOp .and k (x : Int) 1 = ((x % 2 : Nat) : Int) := by
  have := and_nat hs hx hk
  rw [show ((1 : Nat) : Int) = 1 from rfl] at this
  rw [this, show (1 : Nat) = 2 ^ 1 - 1 from rfl, Nat.and_two_pow_sub_one_eq_mod]

theorem or128 {x : Nat} (h : x < 256) : bitsOp .or .u8 (x : Int) 128 = ((x % 128 + 128 : Nat) : Int) := by
  have key : ∀ x : Fin 256, bitsOp .or .u8 (x.val : Int) 128 = ((x.val % 128 + 128 : Nat) : Int) := by decide +kernel
  exact key ⟨x, h⟩
theorem and127 {x : Nat} (h : x < 256) : bitsOp .and .u8 (x : Int) 127 = ((x % 128 : Nat) : Int) := by
  have key : ∀ x : Fin 256, bitsOp .and .u8 (x.val : Int) 127 = ((x.val % 128 : Nat) : Int) := by decide +kernel
  exact key ⟨x, h⟩

theorem or_add {a b i : Nat} (h : b < 2 ^ i) : b ||| (2 ^ i * a) = 2 ^ i * a + b := by
  rw [Nat.or_comm]
  exact (Nat.two_pow_add_eq_or_of_lt h a).symm

theorem shl_nat {k : IntKind} (n m : Nat) (hm : m ≤ k.bits) : shlOp k (n : Int) (m : Int) = k.wrap ((n * 2 ^ m : Nat) : Int) := by
  unfold shlOp
  rw [Int.toNat_natCast, Nat.min_eq_left hm]
  push_cast
  rfl

end Go.Av
