import Derived.Test.YtoiphmpjiobaiaaPQ5
import Derived.Test.YtoiphmpjiobaiaaKL
namespace Go.Av
open Go
set_option linter.unusedVariables false
set_option linter.unusedSimpArgs false


theorem next_eq {x : Nat} (h : x < 2 ^ 64) : slices_xorshift_Next_w (x : Int) = some (((Sort.xorNextN x : Nat) : Int), ((Sort.xorNextN x : Nat) : Int)) := by
  unfold slices_xorshift_Next_w
  have s13 : ∀ y : Nat, shlOp .u64 (y : Int) 13 = ((y * 8192 % 18446744073709551616 : Nat) : Int) := fun y => by
    have := shl_nat (k := .u64) y 13 (by decide)
    rw [show ((13 : Nat) : Int) = 13 from rfl] at this
    rw [this, wrap_u64]; omega
  have s17 : ∀ y : Nat, shlOp .u64 (y : Int) 17 = ((y * 131072 % 18446744073709551616 : Nat) : Int) := fun y => by
    have := shl_nat (k := .u64) y 17 (by decide)
    rw [show ((17 : Nat) : Int) = 17 from rfl] at this
    rw [this, wrap_u64]; omega
  have s7 : ∀ y : Nat, shrOp .u64 (y : Int) 7 = ((y / 128 : Nat) : Int) := fun y => shr_nat .u64 y 7 (by decide)
  have ha : x ^^^ (x * 8192 % 18446744073709551616) < 2 ^ 64 := Nat.xor_lt_two_pow h (by omega)
  have hb : (x ^^^ (x * 8192 % 18446744073709551616)) ^^^ ((x ^^^ (x * 8192 % 18446744073709551616)) / 128) < 2 ^ 64 := Nat.xor_lt_two_pow ha (by omega)
  rw [s13, xor_nat (k := .u64) rfl h (show x * 8192 % 18446744073709551616 < 2 ^ 64 by omega), s7, xor_nat (k := .u64) rfl ha (show (x ^^^ (x * 8192 % 18446744073709551616)) / 128 < 2 ^ 64 by omega), s17, xor_nat (k := .u64) rfl hb (show ((x ^^^ (x * 8192 % 18446744073709551616)) ^^^ ((x ^^^ (x * 8192 % 18446744073709551616)) / 128)) * 131072 % 18446744073709551616 < 2 ^ 64 by omega)]
  rfl

theorem breakStep_sz (a l m : Nat) (st : UInt64 × Array Time) (i : Nat) : (Sort.breakStep a l m st i).2.size = st.2.size := by
  unfold Sort.breakStep
  exact swp_sz _ _ _

theorem two_pow_lt {l : Nat} (h : l < 1152921504606846976) : Sort.bitsLen l ≤ 60 := bitsLen_lt h

theorem break_loop {B : Int × Int × Int × List Time → Option (Ctl (Int × Int × Int × List Time) Empty)} {a b l M fuel K : Nat} {d : Array Time} {r0 : UInt64} {n0 : Nat} (h0 : r0.toNat = n0) {Q : Type} {kn : Int × Int × Int × List Time → Option Q} {kr : Empty → Option Q} {q : Option Q} (hf : 4 < fuel) (hK0 : 1 ≤ K) (hK : a ≤ K - 1) (hK2 : K + 1 < b) (hb : b ≤ d.size)
    (hB : ∀ (k : Nat) (r : UInt64) (e : Array Time), e.size = d.size → a ≤ k → k ≤ K + 1 → k < b → B ((n0 : Int), (k : Int), (r.toNat : Int), e.toList) = some (.next ((n0 : Int), ((k + 1 : Nat) : Int), ((Sort.breakStep a l M (r, e) k).1.toNat : Int), (Sort.breakStep a l M (r, e) k).2.toList)))
    (hE : ∀ (r : UInt64) (e : Array Time), B ((n0 : Int), ((K + 2 : Nat) : Int), (r.toNat : Int), e.toList) = some (.brk ((n0 : Int), ((K + 2 : Nat) : Int), (r.toNat : Int), e.toList)))
    (hk : ∀ x y z, kn (x, y, z, (Sort.breakStep a l M (Sort.breakStep a l M (Sort.breakStep a l M (r0, d) (K - 1)) (K - 1 + 1)) (K - 1 + 2)).2.toList) = q) :
    outK (loopN B fuel ((n0 : Int), ((K - 1 : Nat) : Int), (n0 : Int), d.toList)) kn kr = q := by
  subst h0
  obtain ⟨f, rfl⟩ : ∃ f, fuel = f + 1 + 1 + 1 + 1 := ⟨fuel - 4, by omega⟩
  have s1 := breakStep_sz a l M (r0, d) (K - 1)
  have s2 := breakStep_sz a l M (Sort.breakStep a l M (r0, d) (K - 1)) (K - 1 + 1)
  have h1 := hB (K - 1) r0 d rfl (by omega) (by omega) (by omega)
  have h2 := hB (K - 1 + 1) (Sort.breakStep a l M (r0, d) (K - 1)).1 (Sort.breakStep a l M (r0, d) (K - 1)).2 s1 (by omega) (by omega) (by omega)
  have h3 := hB (K - 1 + 1 + 1) (Sort.breakStep a l M (Sort.breakStep a l M (r0, d) (K - 1)) (K - 1 + 1)).1 (Sort.breakStep a l M (Sort.breakStep a l M (r0, d) (K - 1)) (K - 1 + 1)).2 (s2.trans s1) (by omega) (by omega) (by omega)
  rw [loopN_next h1, loopN_next h2, loopN_next h3, show K - 1 + 1 + 1 + 1 = K + 2 by omega, loopN_brk (hE _ _)]
  exact hk _ _ _

theorem breakPatterns_eq {fuel a b : Nat} {d : Array Time} (hab : a < b) (hb : b ≤ d.size) (hd : d.size < 1152921504606846976) (hf : 4 < fuel) :
    slices_breakPatternsCmpFunc_Time__Compare_w fuel (a : Int) (b : Int) d.toList = some (Sort.breakPatterns d a b).toList := by
  unfold slices_breakPatternsCmpFunc_Time__Compare_w Sort.breakPatterns
  have e0 : IntKind.i64.wrap ((b : Int) - (a : Int)) = ((b - a : Nat) : Int) := wsub (by omega) (by omega)
  simp only [e0, bf_decide]
  by_cases h8 : b - a ≥ 8
  · rw [if_pos h8, if_pos (by omega)]
    have hL := two_pow_lt (l := b - a) (by omega)
    have hLl := Sort.lt_two_pow_bitsLen (b - a)
    have hLu := Sort.two_pow_bitsLen_le (n := b - a) (by omega)
    have hp : 2 ^ Sort.bitsLen (b - a) ≤ 2 ^ 60 := Nat.pow_le_pow_right (by decide) hL
    have hm : slices_nextPowerOfTwo ((b - a : Nat) : Int) = some ((2 ^ Sort.bitsLen (b - a) : Nat) : Int) := by
      unfold slices_nextPowerOfTwo
      have e : IntKind.u64.wrap ((b - a : Nat) : Int) = ((b - a : Nat) : Int) := uwrap (k := .u64) rfl (show b - a < 2 ^ 64 by omega)
      rw [e, len_eq (by omega), Option.bind_some, need_true (by omega)]
      have := shl_nat (k := .u64) 1 (Sort.bitsLen (b - a)) (by show Sort.bitsLen (b - a) ≤ 64; omega)
      rw [show ((1 : Nat) : Int) = 1 from rfl, Nat.one_mul] at this
      rw [this, uwrap (k := .u64) rfl (show 2 ^ Sort.bitsLen (b - a) < 2 ^ 64 by omega)]
    rw [hm, Option.bind_some, Nat.one_shiftLeft]
    generalize 2 ^ Sort.bitsLen (b - a) = M at *
    have e1 : IntKind.i64.wrap (((b - a : Nat) : Int).tdiv 4) = (((b - a) / 4 : Nat) : Int) := by rw [Int.tdiv_eq_ediv_of_nonneg (by omega), wrap_small (by omega) (by omega)]; omega
    have e2 : IntKind.i64.wrap ((((b - a) / 4 : Nat) : Int) * 2) = (((b - a) / 4 * 2 : Nat) : Int) := by rw [wrap_small (by omega) (by omega)]; omega
    have e3 : IntKind.i64.wrap ((a : Int) + (((b - a) / 4 * 2 : Nat) : Int)) = ((a + (b - a) / 4 * 2 : Nat) : Int) := wadd (by omega)
    have e4 : IntKind.i64.wrap (((a + (b - a) / 4 * 2 : Nat) : Int) - 1) = ((a + (b - a) / 4 * 2 - 1 : Nat) : Int) := wsub1 (by omega) (by omega)
    have e5 : IntKind.i64.wrap (((a + (b - a) / 4 * 2 : Nat) : Int) + 1) = ((a + (b - a) / 4 * 2 + 1 : Nat) : Int) := wadd1 (by omega)
    have e6 : IntKind.i64.wrap ((b - a : Nat) : Int) = ((b - a : Nat) : Int) := wrap_i64_in (by unfold in64; omega)
    have e7 : IntKind.u64.wrap ((b - a : Nat) : Int) = ((b - a : Nat) : Int) := uwrap (k := .u64) rfl (show b - a < 2 ^ 64 by omega)
    have e8 : IntKind.u64.wrap ((M : Int) - 1) = ((M - 1 : Nat) : Int) := by rw [wrap_u64]; omega
    simp only [e1, e2, e3, e4, e7, e8, jn_eq]
    have hr0 : (UInt64.ofNat (b - a)).toNat = b - a := by rw [UInt64.toNat_ofNat']; omega
    refine break_loop (r0 := UInt64.ofNat (b - a)) (n0 := b - a) hr0 (a := a) (l := (b - a)) (M := M) (b := b) (K := a + (b - a) / 4 * 2) hf (by omega) (by omega) (by omega) hb ?_ ?_ (fun x y z => by dsimp only)
    · intro k r e he hk1 hk2 hk3
      simp only
      rw [if_pos (show (k : Int) ≤ _ by rw [e1, e2, e3, e5]; omega)]
      have hr := UInt64.toNat_lt r
      rw [next_eq (by omega), Option.bind_some]
      unfold Sort.breakStep
      dsimp only
      rw [Sort.xorNext_toNat]
      have hx := Sort.xorNextN_lt r.toNat (by omega)
      have ea : bitsOp .and .u64 ((Sort.xorNextN r.toNat : Nat) : Int) ((M - 1 : Nat) : Int) = ((Sort.xorNextN r.toNat &&& (M - 1) : Nat) : Int) := and_nat (k := .u64) rfl (show _ < 2 ^ 64 by omega) (show M - 1 < 2 ^ 64 by omega)
      have hal : Sort.xorNextN r.toNat &&& (M - 1) ≤ M - 1 := Nat.and_le_right
      rw [ea]
      generalize Sort.xorNextN r.toNat &&& (M - 1) = o at *
      have eo : IntKind.i64.wrap (o : Int) = (o : Int) := wrap_i64_in (by unfold in64; omega)
      rw [eo]
      have w1 : IntKind.i64.wrap ((k : Int) + 1) = ((k + 1 : Nat) : Int) := wadd1 (by omega)
      by_cases ho : o ≥ b - a
      · have w2 : IntKind.i64.wrap ((o : Int) - ((b - a : Nat) : Int)) = ((o - (b - a) : Nat) : Int) := wsub (by omega) (by omega)
        have w3 : IntKind.i64.wrap ((a : Int) + ((o - (b - a) : Nat) : Int)) = ((a + (o - (b - a)) : Nat) : Int) := wadd (by omega)
        rw [if_pos ho, if_pos (by omega), w1, w2, w3]
        simp (disch := omega) only [Int.toNat_natCast, Nat.zero_add, need_true, Array.length_toList, List.length_set, arr_get, arr_swp]
      · have w3 : IntKind.i64.wrap ((a : Int) + (o : Int)) = ((a + o : Nat) : Int) := wadd (by omega)
        rw [if_neg ho, if_neg (by omega), w1, w3]
        simp (disch := omega) only [Int.toNat_natCast, Nat.zero_add, need_true, Array.length_toList, List.length_set, arr_get, arr_swp]
    · intro r e
      simp only
      rw [if_neg (show ¬ ((a + (b - a) / 4 * 2 + 2 : Nat) : Int) ≤ _ by rw [e1, e2, e3, e5]; omega)]
  · rw [if_neg h8, if_neg (by omega)]

end Go.Av
