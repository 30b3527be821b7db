import Derived.Test.YtfgohaghjaeafaaL1a
namespace Go.Av
open Go
set_option linter.unusedVariables false
set_option linter.unusedSimpArgs false

/-! ### How many binary digits -/

theorem len_tab : ∀ x : Fin 256, ∃ l : Fin 9, bt lit_256_1d3e63 (x.val : Int) = (l.val : Int) ∧ x.val < 2 ^ l.val ∧ (x.val = 0 → l.val = 0) ∧ (x.val ≠ 0 → 2 ^ (l.val - 1) ≤ x.val ∧ 0 < l.val) := by decide +kernel

def IsLen (n L : Nat) : Prop := n < 2 ^ L ∧ (n = 0 → L = 0) ∧ (n ≠ 0 → 2 ^ (L - 1) ≤ n ∧ 0 < L)

theorem IsLen.shift {n L s : Nat} (h : IsLen (n / 2 ^ s) L) (hn : 2 ^ s ≤ n) : IsLen n (L + s) := by
  obtain ⟨h1, h2, h3⟩ := h
  have hp : 0 < 2 ^ s := Nat.pow_pos (by decide)
  have hq : n / 2 ^ s ≠ 0 := Nat.ne_of_gt (Nat.div_pos hn hp)
  obtain ⟨h4, h5⟩ := h3 hq
  refine ⟨?_, fun h => by omega, fun _ => ⟨?_, by omega⟩⟩
  · rw [Nat.pow_add]
    exact (Nat.div_lt_iff_lt_mul hp).1 h1
  · rw [show L + s - 1 = (L - 1) + s by omega, Nat.pow_add]
    exact (Nat.le_div_iff_mul_le hp).1 h4

theorem len64_eq {n : Nat} (h : n < 2 ^ 64) : ∃ L : Nat, math_bits_Len64 (n : Int) = some (L : Int) ∧ IsLen n L ∧ L ≤ 64 := by
  have last : ∀ (x b : Nat), x < 256 → b ≤ 56 → ∃ L : Nat, (need ((0 : Int) ≤ (IntKind.u8.wrap (x : Int)) ∧ (IntKind.u8.wrap (x : Int)) < (lit_256_1d3e63.size : Int)) <| some (IntKind.i64.wrap ((b : Int) + (IntKind.i64.wrap (bt lit_256_1d3e63 (IntKind.u8.wrap (x : Int))))))) = some ((L + b : Nat) : Int) ∧ IsLen x L ∧ L ≤ 8 := fun x b hx hb => by
    obtain ⟨l, h1, h2, h3, h4⟩ := len_tab ⟨x, hx⟩
    have e : IntKind.u8.wrap (x : Int) = (x : Int) := uwrap (k := .u8) rfl hx
    have hsz : lit_256_1d3e63.size = 256 := by decide +kernel
    rw [e, hsz, need_true (by omega), h1]
    have hl := l.isLt
    refine ⟨l.val, ?_, ⟨h2, h3, h4⟩, by omega⟩
    rw [wrap_small (n := (l.val : Int)) (by omega) (by omega), wrap_small (by omega) (by omega)]
    exact congrArg some (by omega)
  have s8 : ∀ x : Nat, shrOp .u64 (x : Int) 8 = ((x / 2 ^ 8 : Nat) : Int) := fun x => shr_nat .u64 x 8 (by decide)
  have s16 : ∀ x : Nat, shrOp .u64 (x : Int) 16 = ((x / 2 ^ 16 : Nat) : Int) := fun x => shr_nat .u64 x 16 (by decide)
  have s32 : ∀ x : Nat, shrOp .u64 (x : Int) 32 = ((x / 2 ^ 32 : Nat) : Int) := fun x => shr_nat .u64 x 32 (by decide)
  have p8 : ∀ (x b : Nat), x < 65536 → b ≤ 48 → ∃ L : Nat, bf (decide (256 ≤ (x : Int))) (need ((0 : Int) ≤ (IntKind.u8.wrap (shrOp .u64 (x : Int) 8)) ∧ (IntKind.u8.wrap (shrOp .u64 (x : Int) 8)) < (lit_256_1d3e63.size : Int)) <| some (IntKind.i64.wrap ((IntKind.i64.wrap ((b : Int) + 8)) + (IntKind.i64.wrap (bt lit_256_1d3e63 (IntKind.u8.wrap (shrOp .u64 (x : Int) 8))))))) (need ((0 : Int) ≤ (IntKind.u8.wrap (x : Int)) ∧ (IntKind.u8.wrap (x : Int)) < (lit_256_1d3e63.size : Int)) <| some (IntKind.i64.wrap ((b : Int) + (IntKind.i64.wrap (bt lit_256_1d3e63 (IntKind.u8.wrap (x : Int))))))) = some ((L + b : Nat) : Int) ∧ IsLen x L ∧ L ≤ 16 := fun x b hx hb => by
    rw [bf_decide]
    by_cases h1 : 256 ≤ (x : Int)
    · rw [if_pos h1, s8, wrap_small (n := (b : Int) + 8) (by omega) (by omega)]
      obtain ⟨L, g1, g2, g3⟩ := last (x / 2 ^ 8) (b + 8) (by omega) (by omega)
      rw [show ((b + 8 : Nat) : Int) = (b : Int) + 8 by omega] at g1
      refine ⟨L + 8, ?_, g2.shift (by omega), by omega⟩
      exact g1.trans (congrArg some (by omega))
    · rw [if_neg h1]
      obtain ⟨L, g1, g2, g3⟩ := last x b (by omega) (by omega)
      exact ⟨L, g1, g2, by omega⟩
  unfold math_bits_Len64
  simp only [jn_eq]
  by_cases h1 : 4294967296 ≤ (n : Int)
  · rw [bf_decide, if_pos h1, s32, bf_decide]
    by_cases h2 : 65536 ≤ ((n / 2 ^ 32 : Nat) : Int)
    · rw [if_pos h2, s16, show IntKind.i64.wrap (32 + 16) = ((48 : Nat) : Int) from by decide]
      obtain ⟨L, g1, g2, g3⟩ := p8 (n / 2 ^ 32 / 2 ^ 16) 48 (by omega) (by omega)
      refine ⟨L + 48, g1, ?_, by omega⟩
      have := (g2.shift (by omega)).shift (n := n) (s := 32) (by omega)
      rw [Nat.add_assoc] at this
      exact this
    · rw [if_neg h2]
      obtain ⟨L, g1, g2, g3⟩ := p8 (n / 2 ^ 32) 32 (by omega) (by omega)
      exact ⟨L + 32, g1, g2.shift (by omega), by omega⟩
  · rw [bf_decide, if_neg h1, bf_decide]
    by_cases h2 : 65536 ≤ (n : Int)
    · rw [if_pos h2, s16, show IntKind.i64.wrap (0 + 16) = ((16 : Nat) : Int) from by decide]
      obtain ⟨L, g1, g2, g3⟩ := p8 (n / 2 ^ 16) 16 (by omega) (by omega)
      exact ⟨L + 16, g1, g2.shift (by omega), by omega⟩
    · rw [if_neg h2]
      obtain ⟨L, g1, g2, g3⟩ := p8 n 0 (by omega) (by omega)
      exact ⟨L, by rw [show ((0 : Nat) : Int) = 0 from rfl] at g1; exact g1, g2, by omega⟩

/-! ### Counts -/

/-- So many sevens of binary digits. -/
def IsK (n k : Nat) : Prop := 1 ≤ k ∧ k ≤ 10 ∧ n < 128 ^ k ∧ (1 < k → 128 ^ (k - 1) ≤ n)

theorem pow7 (i : Nat) : 2 ^ (7 * i) = 128 ^ i := by rw [Nat.pow_mul]

theorem IsLen.k {n L : Nat} (h : IsLen n L) (hL : L ≤ 64) : IsK n (max 1 ((L + 6) / 7)) := by
  obtain ⟨h1, h2, h3⟩ := h
  refine ⟨by omega, by omega, ?_, fun hk => ?_⟩
  · refine Nat.lt_of_lt_of_le h1 ?_
    rw [← pow7]
    exact Nat.pow_le_pow_right (by decide) (by omega)
  · have hn : n ≠ 0 := fun e => by have := h2 e; omega
    obtain ⟨h4, h5⟩ := h3 hn
    refine Nat.le_trans ?_ h4
    rw [← pow7]
    exact Nat.pow_le_pow_right (by decide) (by omega)

def dg (n k i : Nat) : Nat := n / 128 ^ i % 128 + if i + 1 < k then 128 else 0
def cntL (n k : Nat) : List Int := (List.range k).map fun i => ((dg n k i : Nat) : Int)

theorem dg_lt (n k i : Nat) : dg n k i < 256 := by unfold dg; split <;> omega

theorem set_app {X : Type} (xs ys : List X) (y v : X) : (xs ++ y :: ys).set xs.length v = xs ++ v :: ys := by
  rw [List.set_append_right (h := Nat.le_refl _), Nat.sub_self]; rfl

theorem packCount_eq {n : Nat} (h : n < 2 ^ 64) : ∃ k, IsK n k ∧ pack_Count (n : Int) = some (strOfNums (cntL n k)) := by
  obtain ⟨L, e, hL, hL2⟩ := len64_eq h
  refine ⟨_, hL.k hL2, ?_⟩
  have hK := hL.k hL2
  unfold pack_Count
  rw [e, Option.bind_some]
  have e1 : IntKind.i64.wrap ((IntKind.i64.wrap ((L : Int) + 6)).tdiv 7) = (((L + 6) / 7 : Nat) : Int) := by
    rw [wrap_small (n := (L : Int) + 6) (by omega) (by omega), Int.tdiv_eq_ediv_of_nonneg (by omega), wrap_small (by omega) (by omega)]; omega
  have e2 : (if 1 < (((L + 6) / 7 : Nat) : Int) then (((L + 6) / 7 : Nat) : Int) else 1) = ((max 1 ((L + 6) / 7) : Nat) : Int) := by split <;> omega
  simp only [e1, e2]
  generalize max 1 ((L + 6) / 7) = k at *
  obtain ⟨k1, k2, k3, k4⟩ := hK
  have hlim : (lim : Int) = 274877906944 := rfl
  rw [need_true (by omega), Int.toNat_natCast, List.length_replicate]
  rw [rangeN_to ((List.range k).map fun i => ((n / 128 ^ i % 128 + 128 : Nat) : Int)) (fun i a => a = ((List.range i).map fun i => ((n / 128 ^ i % 128 + 128 : Nat) : Int)) ++ List.replicate (k - i) 0) (fun s h => by rw [h, Nat.sub_self]; simp)]
  · simp only [outK_done]
    have e3 : IntKind.i64.wrap ((k : Int) - 1) = ((k - 1 : Nat) : Int) := by rw [wrap_small (by omega) (by omega)]; omega
    have hlen : ((List.range k).map fun i => ((n / 128 ^ i % 128 + 128 : Nat) : Int)).length = k := by simp
    rw [e3, hlen, Int.toNat_natCast, need_true (by omega), need_true (by omega), need_true (by omega), need_true (by omega)]
    congr 2
    have hk : k = (k - 1) + 1 := by omega
    have hrng : (List.range k).map (fun i => ((n / 128 ^ i % 128 + 128 : Nat) : Int)) = (List.range (k - 1)).map (fun i => ((n / 128 ^ i % 128 + 128 : Nat) : Int)) ++ [((n / 128 ^ (k - 1) % 128 + 128 : Nat) : Int)] := by
      conv => lhs; rw [hk, List.range_succ, List.map_append]
      rfl
    have hl2 : ((List.range (k - 1)).map fun i => ((n / 128 ^ i % 128 + 128 : Nat) : Int)).length = k - 1 := by simp
    rw [hrng]
    have hget : (((List.range (k - 1)).map fun i => ((n / 128 ^ i % 128 + 128 : Nat) : Int)) ++ [((n / 128 ^ (k - 1) % 128 + 128 : Nat) : Int)]).getD (0 + (k - 1)) default = ((n / 128 ^ (k - 1) % 128 + 128 : Nat) : Int) := by
      rw [List.getD_eq_getElem?_getD, List.getElem?_append_right (by omega), hl2]
      simp
    rw [hget, and127 (by omega)]
    have hset := set_app ((List.range (k - 1)).map fun i => ((n / 128 ^ i % 128 + 128 : Nat) : Int)) [] ((n / 128 ^ (k - 1) % 128 + 128 : Nat) : Int) (((n / 128 ^ (k - 1) % 128 + 128) % 128 : Nat) : Int)
    rw [hl2] at hset
    rw [Nat.zero_add, hset]
    unfold cntL
    conv => rhs; rw [hk, List.range_succ, List.map_append]
    congr 1
    · apply List.map_congr_left
      intro i hi
      have := List.mem_range.1 hi
      unfold dg
      rw [if_pos (by omega)]
    · simp only [List.map_cons, List.map_nil]
      unfold dg
      rw [if_neg (by omega)]
      congr 2
      omega
  · rintro i a hi rfl
    refine ⟨_, ?_, rfl⟩
    have hl3 : (((List.range i).map fun i => ((n / 128 ^ i % 128 + 128 : Nat) : Int)) ++ List.replicate (k - i) (0 : Int)).length = k := by simp; omega
    have e4 : IntKind.i64.wrap ((7 : Int) * (i : Int)) = ((7 * i : Nat) : Int) := by rw [wrap_small (by omega) (by omega)]; omega
    rw [hl3, e4, need_true (by omega), need_true (by omega), need_true (by omega), Nat.zero_add]
    have e5 : bitsOp .or .u8 (IntKind.u8.wrap (shrOp .u64 (n : Int) ((7 * i : Nat) : Int))) 128 = ((n / 128 ^ i % 128 + 128 : Nat) : Int) := by
      rw [shr_nat .u64 n (7 * i) (by show 7 * i ≤ 64; omega), pow7, wrap_u8]
      have : (((n / 128 ^ i : Nat) : Int) % 256) = ((n / 128 ^ i % 256 : Nat) : Int) := by omega
      rw [this, or128 (by omega)]
      congr 1
      omega
    rw [e5, show k - i = (k - (i + 1)) + 1 by omega, List.replicate_succ]
    have hset := set_app ((List.range i).map fun i => ((n / 128 ^ i % 128 + 128 : Nat) : Int)) (List.replicate (k - (i + 1)) 0) (0 : Int) ((n / 128 ^ i % 128 + 128 : Nat) : Int)
    rw [List.length_map, List.length_range] at hset
    rw [hset, List.range_succ, List.map_append]
    simp
  · simp

theorem strOfNums_append (a b : List Int) : strOfNums (a ++ b) = strOfNums a ++ strOfNums b := by
  apply Go.WideShapes.bytes_inj
  simp [strOfNums, ByteArray.data_append]

theorem strOfNums_size (a : List Int) : (strOfNums a).size = a.length := by simp [strOfNums, ByteArray.size]

theorem bs_nil : bs [] = strOfNums [] := rfl

theorem K_div {n k i : Nat} (hK : IsK n k) (hi : i < k - 1) : 128 ≤ n / 128 ^ i := by
  have h4 := hK.2.2.2 (by omega)
  rw [Nat.le_div_iff_mul_le (Nat.pow_pos (by decide)), ← Nat.pow_succ']
  exact Nat.le_trans (Nat.pow_le_pow_right (by decide) (by omega)) h4
theorem K_last {n k : Nat} (hK : IsK n k) : n / 128 ^ (k - 1) < 128 := by
  rw [Nat.div_lt_iff_lt_mul (Nat.pow_pos (by decide)), ← Nat.pow_succ', show (k - 1).succ = k by have := hK.1; omega]
  exact hK.2.2.1

def cntS (n i : Nat) : Int × ByteArray := (((n / 128 ^ i : Nat) : Int), strOfNums ((List.range i).map fun i => ((n / 128 ^ i % 128 + 128 : Nat) : Int)))

theorem cntS_zero (n : Nat) : ((n : Int), (bs [])) = cntS n 0 := by
  unfold cntS
  rw [Nat.pow_zero, Nat.div_one]
  rfl

theorem refCount_step {n k i : Nat} (hK : IsK n k) (hn : n < 2 ^ 64) (hi : i < k - 1) : bf (decide ((128 : Int) ≤ (cntS n i).1)) (need ((((cntS n i).2.size + (strOfNums ([(IntKind.u8.wrap (IntKind.u64.wrap (((cntS n i).1.tmod 128) + 128)))] : List Int)).size : Nat) : Int) ≤ 9223372036854775807) <| some (Ctl.next (R := Empty) ((IntKind.u64.wrap ((cntS n i).1.tdiv 128)), ((cntS n i).2 ++ (strOfNums ([(IntKind.u8.wrap (IntKind.u64.wrap (((cntS n i).1.tmod 128) + 128)))] : List Int)))))) (some (.brk ((cntS n i).1, (cntS n i).2))) = some (.next (cntS n (i + 1))) := by
  have h5 := K_div hK hi
  have hk := hK.2.1
  have hd : n / 128 ^ (i + 1) = n / 128 ^ i / 128 := by rw [Nat.pow_succ, Nat.div_div_eq_div_mul]
  have hle : n / 128 ^ i ≤ n := Nat.div_le_self _ _
  unfold cntS
  rw [hd, List.range_succ, List.map_append, strOfNums_append]
  simp only [strOfNums_size, List.length_map, List.length_range, List.length_cons, List.length_nil, List.map_cons, List.map_nil]
  generalize n / 128 ^ i = m at *
  have hm : ((m : Nat) : Int).tmod 128 = ((m % 128 : Nat) : Int) := by rw [Int.tmod_eq_emod_of_nonneg (by omega)]; omega
  have hq : ((m : Nat) : Int).tdiv 128 = ((m / 128 : Nat) : Int) := by rw [Int.tdiv_eq_ediv_of_nonneg (by omega)]; omega
  rw [hm, hq, decide_eq_true (by omega), bf_true, need_true (by omega), wrap_u64, wrap_u64, wrap_u8]
  have e1 : ((((m % 128 : Nat) : Int) + 128) % 18446744073709551616 % 256) = ((m % 128 + 128 : Nat) : Int) := by omega
  have e2 : (((m / 128 : Nat) : Int) % 18446744073709551616) = ((m / 128 : Nat) : Int) := by omega
  rw [e1, e2]

theorem cntL_last {n k : Nat} (hK : IsK n k) : cntL n k = (List.range (k - 1)).map (fun i => ((n / 128 ^ i % 128 + 128 : Nat) : Int)) ++ [((n / 128 ^ (k - 1) : Nat) : Int)] := by
  have h5 := K_last hK
  obtain ⟨m, rfl⟩ : ∃ m, k = m + 1 := ⟨k - 1, by have := hK.1; omega⟩
  rw [Nat.add_sub_cancel] at *
  unfold cntL
  rw [List.range_succ, List.map_append, List.map_cons, List.map_nil]
  have e1 : (List.range m).map (fun i => ((dg n (m + 1) i : Nat) : Int)) = (List.range m).map (fun i => ((n / 128 ^ i % 128 + 128 : Nat) : Int)) := by
    apply List.map_congr_left
    intro i hi
    have := List.mem_range.1 hi
    unfold dg
    rw [if_pos (by omega)]
  have e2 : dg n (m + 1) m = n / 128 ^ m := by
    unfold dg
    rw [if_neg (by omega), Nat.mod_eq_of_lt h5, Nat.add_zero]
  rw [e1, e2]

theorem wrap_u8_nat {m : Nat} (h : m < 256) : IntKind.u8.wrap (m : Int) = (m : Int) := uwrap (k := .u8) rfl h

theorem refCount_end {n k : Nat} (hK : IsK n k) : bf (decide ((128 : Int) ≤ (cntS n (k - 1)).1)) (need ((((cntS n (k - 1)).2.size + (strOfNums ([(IntKind.u8.wrap (IntKind.u64.wrap (((cntS n (k - 1)).1.tmod 128) + 128)))] : List Int)).size : Nat) : Int) ≤ 9223372036854775807) <| some (Ctl.next (R := Empty) ((IntKind.u64.wrap ((cntS n (k - 1)).1.tdiv 128)), ((cntS n (k - 1)).2 ++ (strOfNums ([(IntKind.u8.wrap (IntKind.u64.wrap (((cntS n (k - 1)).1.tmod 128) + 128)))] : List Int)))))) (some (.brk ((cntS n (k - 1)).1, (cntS n (k - 1)).2))) = some (.brk (cntS n (k - 1))) := by
  have h5 := K_last hK
  have : ¬ (128 : Int) ≤ (cntS n (k - 1)).1 := by
    unfold cntS
    simp only
    generalize n / 128 ^ (k - 1) = m at *
    omega
  rw [decide_eq_false this, bf_false]


theorem refCount_A {n k : Nat} (hK : IsK n k) (hn : n < 2 ^ 64) {fuel : Nat} (hf : 11 < fuel) : loopN (S := Int × ByteArray) (R := Empty) (fun (a1 : Int × ByteArray) => bf (decide (128 ≤ a1.1)) (need (((a1.2.size + (strOfNums ([(IntKind.u8.wrap (IntKind.u64.wrap ((a1.1.tmod 128) + 128)))] : List Int)).size : Nat) : Int) ≤ 9223372036854775807) <| some (.next ((IntKind.u64.wrap (a1.1.tdiv 128)), (a1.2 ++ (strOfNums ([(IntKind.u8.wrap (IntKind.u64.wrap ((a1.1.tmod 128) + 128)))] : List Int)))))) (some (.brk (a1.1, a1.2)))) fuel (cntS n 0) = some (.done (cntS n (k - 1))) := by
  have k1 := hK.1
  have k2 := hK.2.1
  exact loopN_steps (R := Empty) (n := k - 1) (fuel := fuel) (z := cntS n (k - 1)) (cntS n) (by omega) (fun i hi => refCount_step hK hn hi) (refCount_end hK)

theorem refCount_B {n k : Nat} (hK : IsK n k) : (need ((((cntS n (k - 1)).2.size + (strOfNums ([(IntKind.u8.wrap (cntS n (k - 1)).1)] : List Int)).size : Nat) : Int) ≤ 9223372036854775807) <| some ((cntS n (k - 1)).2 ++ (strOfNums ([(IntKind.u8.wrap (cntS n (k - 1)).1)] : List Int)))) = some (strOfNums (cntL n k)) := by
  have k1 := hK.1
  have k2 := hK.2.1
  have h5 := K_last hK
  rw [cntL_last hK]
  unfold cntS
  simp only [strOfNums_size, List.length_map, List.length_range, List.length_cons, List.length_nil]
  rw [need_true (by omega), ← strOfNums_append]
  generalize n / 128 ^ (k - 1) = m at *
  rw [wrap_u8_nat (by omega)]

theorem refCount_eq {n k : Nat} (hK : IsK n k) (hn : n < 2 ^ 64) {fuel : Nat} (hf : 11 < fuel) : freshetref01_Count fuel (n : Int) = some (strOfNums (cntL n k)) := by
  unfold freshetref01_Count
  rw [cntS_zero, refCount_A hK hn hf, outK_done]
  exact refCount_B hK

end Go.Av
