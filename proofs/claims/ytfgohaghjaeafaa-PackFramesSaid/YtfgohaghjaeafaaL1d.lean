import Derived.Test.YtfgohaghjaeafaaL1c
namespace Go.Av
open Go
set_option linter.unusedVariables false
set_option linter.unusedSimpArgs false

/-! ### Counts, numbers -/

theorem IsK.uniq {n k j : Nat} (h : IsK n k) (g : IsK n j) : k = j := by
  obtain ⟨h1, h2, h3, h4⟩ := h
  obtain ⟨g1, g2, g3, g4⟩ := g
  rcases Nat.lt_trichotomy k j with e | e | e
  · have := g4 (by omega)
    have h5 := Nat.pow_le_pow_right (n := 128) (by decide) (show k ≤ j - 1 by omega)
    omega
  · exact e
  · have := h4 (by omega)
    have h5 := Nat.pow_le_pow_right (n := 128) (by decide) (show j ≤ k - 1 by omega)
    omega

theorem exK {n : Nat} (h : n < 2 ^ 64) : ∃ k, IsK n k := by
  obtain ⟨L, _, hL, hL2⟩ := len64_eq h
  exact ⟨_, hL.k hL2⟩

/-- How many bytes a count has. -/
def kOf (n : Nat) : Nat := if n < 128 then 1 else if n < 128 ^ 2 then 2 else if n < 128 ^ 3 then 3 else if n < 128 ^ 4 then 4 else if n < 128 ^ 5 then 5 else if n < 128 ^ 6 then 6 else if n < 128 ^ 7 then 7 else if n < 128 ^ 8 then 8 else if n < 128 ^ 9 then 9 else 10

theorem kOf_is {n : Nat} (h : n < 2 ^ 64) : IsK n (kOf n) := by
  have p1 : (128 : Nat) ^ 1 = 128 := by decide
  have p2 : (128 : Nat) ^ 2 = 16384 := by decide
  have p3 : (128 : Nat) ^ 3 = 2097152 := by decide
  have p4 : (128 : Nat) ^ 4 = 268435456 := by decide
  have p5 : (128 : Nat) ^ 5 = 34359738368 := by decide
  have p6 : (128 : Nat) ^ 6 = 4398046511104 := by decide
  have p7 : (128 : Nat) ^ 7 = 562949953421312 := by decide
  have p8 : (128 : Nat) ^ 8 = 72057594037927936 := by decide
  have p9 : (128 : Nat) ^ 9 = 9223372036854775808 := by decide
  have p10 : (128 : Nat) ^ 10 = 1180591620717411303424 := by decide
  unfold kOf IsK
  rw [p2, p3, p4, p5, p6, p7, p8, p9]
  repeat' split
  all_goals (refine ⟨by omega, by omega, ?_, fun _ => ?_⟩ <;> simp only [Nat.reduceSub, p1, p2, p3, p4, p5, p6, p7, p8, p9, p10] <;> omega)

def cntB (n : Nat) : ByteArray := strOfNums (cntL n (kOf n))

theorem cntB_size {n : Nat} : (cntB n).size = kOf n := by unfold cntB cntL; rw [strOfNums_size]; simp
theorem kOf_le {n : Nat} (h : n < 2 ^ 64) : 1 ≤ kOf n ∧ kOf n ≤ 10 := ⟨(kOf_is h).1, (kOf_is h).2.1⟩

theorem count_eq {n : Nat} (h : n < 2 ^ 64) : pack_Count (n : Int) = some (cntB n) := by
  obtain ⟨k, hk, e⟩ := packCount_eq h
  rw [e, hk.uniq (kOf_is h)]
  rfl
theorem refCount_eq' {n : Nat} (h : n < 2 ^ 64) {fuel : Nat} (hf : 11 < fuel) : freshetref01_Count fuel (n : Int) = some (cntB n) := refCount_eq (kOf_is h) h hf

/-- A number, as a count. -/
def zz (m : Int) : Nat := if 0 ≤ m then (2 * m).toNat else (-2 * m - 1).toNat

theorem zz_lt {m : Int} (h : in64 m) : zz m < 2 ^ 64 := by
  unfold in64 at h
  unfold zz
  split <;> omega

theorem number_eq {m : Int} (h : in64 m) : pack_Number m = some (cntB (zz m)) := by
  have hz := zz_lt h
  unfold pack_Number
  rw [shr63 h]
  unfold in64 at h
  have e1 : ∃ u : Nat, IntKind.u64.wrap m = (u : Int) ∧ u < 2 ^ 64 := by
    refine ⟨(IntKind.u64.wrap m).toNat, ?_, ?_⟩ <;> rw [wrap_u64] <;> omega
  obtain ⟨u, hu, hu2⟩ := e1
  have hu3 : (u : Int) = m % 18446744073709551616 := by rw [← hu, wrap_u64]
  rw [hu]
  have e2 : shlOp .u64 (u : Int) 1 = ((u * 2 % 18446744073709551616 : Nat) : Int) := by
    have := shl_nat (k := .u64) u 1 (by decide)
    rw [show ((1 : Nat) : Int) = 1 from rfl] at this
    rw [this, wrap_u64]
    omega
  rw [e2]
  have hx : bitsOp .xor .u64 ((u * 2 % 18446744073709551616 : Nat) : Int) (IntKind.u64.wrap (if m < 0 then -1 else 0)) = ((zz m : Nat) : Int) := by
    unfold zz
    by_cases hm : m < 0
    · rw [if_pos hm, if_neg (by omega), wrap_u64]
      have e3 : ((-1 : Int) % 18446744073709551616) = ((18446744073709551615 : Nat) : Int) := by decide
      rw [e3, xor_nat (k := .u64) rfl (show u * 2 % 18446744073709551616 < 2 ^ 64 by omega) (by decide)]
      have e4 : (u * 2 % 18446744073709551616) ^^^ 18446744073709551615 = 18446744073709551615 - u * 2 % 18446744073709551616 := by
        have hlt : u * 2 % 18446744073709551616 < 2 ^ 64 := by omega
        generalize u * 2 % 18446744073709551616 = a at *
        apply Nat.eq_of_testBit_eq
        intro i
        rw [Nat.testBit_xor, show (18446744073709551615 : Nat) = 2 ^ 64 - 1 from rfl, Nat.testBit_two_pow_sub_one]
        have : 2 ^ 64 - 1 - a = 2 ^ 64 - (a + 1) := by omega
        rw [this, Nat.testBit_two_pow_sub_succ hlt]
        by_cases hi : i < 64
        · simp [hi]
        · have : a.testBit i = false := Nat.testBit_lt_two_pow (Nat.lt_of_lt_of_le hlt (Nat.pow_le_pow_right (by decide) (by omega)))
          simp [hi, this]
      rw [e4]
      omega
    · rw [if_neg hm, if_pos (by omega), wrap_u64]
      have e3 : ((0 : Int) % 18446744073709551616) = ((0 : Nat) : Int) := by decide
      rw [e3, xor_nat (k := .u64) rfl (show u * 2 % 18446744073709551616 < 2 ^ 64 by omega) (by decide), Nat.xor_zero]
      omega
  rw [hx, count_eq hz]
  rfl

theorem refNumber_eq {m : Int} (h : in64 m) {fuel : Nat} (hf : 11 < fuel) : freshetref01_Number fuel m = some (cntB (zz m)) := by
  have hz := zz_lt h
  unfold in64 at h
  unfold freshetref01_Number
  rw [bf_decide]
  by_cases hm : 0 ≤ m
  · rw [if_pos hm]
    have e : IntKind.u64.wrap ((2 : Int) * IntKind.u64.wrap m) = ((zz m : Nat) : Int) := by
      unfold zz; rw [if_pos hm, wrap_u64, wrap_u64]; omega
    rw [e, refCount_eq' hz hf]; rfl
  · rw [if_neg hm]
    have e0 : IntKind.i64.wrap ((-1 : Int) - m) = -1 - m := wrap_i64_in (by unfold in64; omega)
    have e : IntKind.u64.wrap (IntKind.u64.wrap ((2 : Int) * IntKind.u64.wrap (IntKind.i64.wrap ((-1 : Int) - m))) + 1) = ((zz m : Nat) : Int) := by
      unfold zz; rw [if_neg hm, e0, wrap_u64, wrap_u64, wrap_u64]; omega
    rw [e, refCount_eq' hz hf]; rfl

/-! ### Numbers are taken -/

def numOf (n : Int) : Int := if n % 2 = 1 then -1 - n / 2 else n / 2

theorem numOf_zz {m : Int} : numOf (zz m : Int) = m := by
  unfold numOf zz
  split <;> split <;> omega

theorem xor_m1 {x : Nat} (h : x < 9223372036854775808) : bitsOp .xor .i64 (x : Int) (-1) = -1 - (x : Int) := by
  unfold bitsOp
  simp only
  have e1 : BitVec.ofInt IntKind.i64.bits (-1) = BitVec.allOnes IntKind.i64.bits := by decide
  rw [e1, BitVec.xor_allOnes, BitVec.toNat_not]
  have e2 : (BitVec.ofInt IntKind.i64.bits (x : Int)).toNat = x := ofInt_toNat (w := 64) x (by omega)
  rw [e2, show 2 ^ IntKind.i64.bits = 18446744073709551616 from by decide, wrap_i64]
  split <;> omega
theorem xor_0 {x : Nat} (h : x < 9223372036854775808) : bitsOp .xor .i64 (x : Int) 0 = (x : Int) := by
  unfold bitsOp
  simp only
  have e1 : BitVec.ofInt IntKind.i64.bits 0 = 0#IntKind.i64.bits := by decide
  rw [e1, BitVec.xor_zero]
  have e2 : (BitVec.ofInt IntKind.i64.bits (x : Int)).toNat = x := ofInt_toNat (w := 64) x (by omega)
  rw [e2, wrap_i64_in (by unfold in64; omega)]

theorem takeNum_xor {n : Nat} (h : n < 18446744073709551616) : bitsOp .xor .i64 (IntKind.i64.wrap (shrOp .u64 (n : Int) 1)) (IntKind.i64.wrap (0 - (IntKind.i64.wrap (bitsOp .and .u64 (n : Int) 1)))) = numOf (n : Int) := by
  have e1 : shrOp .u64 (n : Int) 1 = ((n / 2 : Nat) : Int) := shr_nat .u64 n 1 (by decide)
  have e2 : bitsOp .and .u64 (n : Int) 1 = ((n % 2 : Nat) : Int) := and1_nat (k := .u64) rfl (show n < 2 ^ 64 by omega) (by decide)
  rw [e1, e2, wrap_i64_in (x := ((n / 2 : Nat) : Int)) (by unfold in64; omega), wrap_i64_in (x := ((n % 2 : Nat) : Int)) (by unfold in64; omega), wrap_i64_in (x := 0 - ((n % 2 : Nat) : Int)) (by unfold in64; omega)]
  unfold numOf
  rcases Nat.mod_two_eq_zero_or_one n with h2 | h2
  · rw [h2, show (0 : Int) - ((0 : Nat) : Int) = 0 from rfl, xor_0 (by omega), if_neg (by omega)]; omega
  · rw [h2, show (0 : Int) - ((1 : Nat) : Int) = -1 from rfl, xor_m1 (by omega), if_pos (by omega)]; omega

def tkN (r : Int × ByteArray × Int) : Int × ByteArray × Int := if r.2.2 = 0 then (numOf r.1, r.2.1, 0) else (0, bs [], r.2.2)

theorem takeNumber_eq {s : ByteArray} (hs : s.size ≤ maxN) : pack_TakeNumber s = some (tkN (tkC s s.size 0 0)) := by
  unfold pack_TakeNumber
  rw [takeCount_eq hs, Option.bind_some]
  rcases tkC_cases (s := s) (k := s.size) (i := 0) (acc := 0) (by omega) (by omega) (by decide) with h | h | ⟨n, j, h, hn, _⟩
  · rw [h]; rfl
  · rw [h]; rfl
  · rw [h, takeNum_xor hn]; rfl

theorem refTakeNumber_eq {s : ByteArray} (hs : s.size ≤ maxN) {fuel : Nat} (hf : 10 < fuel) : freshetref01_TakeNumber fuel s = some (tkN (tkC s s.size 0 0)) := by
  unfold freshetref01_TakeNumber
  rw [refTakeCount_eq hs hf, Option.bind_some]
  rcases tkC_cases (s := s) (k := s.size) (i := 0) (acc := 0) (by omega) (by omega) (by decide) with h | h | ⟨n, j, h, hn, _⟩
  · rw [h]; rfl
  · rw [h]; rfl
  · rw [h]
    unfold tkN numOf
    simp only [decide_true, Bool.not_true, bf_false, if_true, bf_decide]
    have e1 : (n : Int).tmod 2 = (n : Int) % 2 := Int.tmod_eq_emod_of_nonneg (by omega)
    have e2 : (n : Int).tdiv 2 = (n : Int) / 2 := Int.tdiv_eq_ediv_of_nonneg (by omega)
    have e3 : IntKind.u64.wrap ((n : Int) / 2) = (n : Int) / 2 := by rw [wrap_u64]; omega
    rw [e1, e2, e3, wrap_i64_in (x := (n : Int) / 2) (by unfold in64; omega)]
    by_cases h2 : (n : Int) % 2 = 1
    · rw [if_pos h2, if_pos h2, wrap_i64_in (by unfold in64; omega)]
    · rw [if_neg h2, if_neg h2]

/-! ### Texts are taken -/

def tkT (r : Int × ByteArray × Int) : ByteArray × ByteArray × Int :=
  if r.2.2 = 0 then (if 65536 < r.1 then (bs [], bs [], 2) else if (r.2.1.size : Int) < r.1 then (bs [], bs [], 3) else (r.2.1.extract 0 r.1.toNat, r.2.1.extract r.1.toNat r.2.1.size, 0)) else (bs [], bs [], r.2.2)

theorem takeText_eq {s : ByteArray} (hs : s.size ≤ maxN) : pack_TakeText s = some (tkT (tkC s s.size 0 0)) := by
  unfold pack_TakeText
  rw [takeCount_eq hs, Option.bind_some]
  unfold maxN at hs
  rcases tkC_cases (s := s) (k := s.size) (i := 0) (acc := 0) (by omega) (by omega) (by decide) with h | h | ⟨n, j, h, hn, hj⟩
  · rw [h]; rfl
  · rw [h]; rfl
  · rw [h]
    have hsz := extract_size' s j s.size (Nat.le_refl _)
    unfold tkT
    simp only [jn_eq, decide_true, bf_true, if_true]
    generalize s.extract j s.size = r at *
    have e1 : IntKind.u64.wrap (r.size : Int) = (r.size : Int) := by rw [wrap_u64]; omega
    by_cases h1 : 65536 < (n : Int)
    · rw [if_pos h1, decide_eq_true h1]; rfl
    · rw [if_neg h1, decide_eq_false h1]
      simp only [bf_false, decide_true, bf_true]
      rw [e1]
      by_cases h2 : (r.size : Int) < (n : Int)
      · rw [if_pos h2, decide_eq_true h2]; rfl
      · rw [if_neg h2, decide_eq_false h2]
        simp only [bf_false, decide_true, Bool.not_true]
        rw [need_true (by omega), need_true (by omega)]

theorem refTakeText_eq {s : ByteArray} (hs : s.size ≤ maxN) {fuel : Nat} (hf : 10 < fuel) : freshetref01_TakeText fuel s = some (tkT (tkC s s.size 0 0)) := by
  unfold freshetref01_TakeText
  rw [refTakeCount_eq hs hf, Option.bind_some]
  unfold maxN at hs
  rcases tkC_cases (s := s) (k := s.size) (i := 0) (acc := 0) (by omega) (by omega) (by decide) with h | h | ⟨n, j, h, hn, hj⟩
  · rw [h]; rfl
  · rw [h]; rfl
  · rw [h]
    have hsz := extract_size' s j s.size (Nat.le_refl _)
    unfold tkT
    simp only [decide_true, Bool.not_true, bf_false, if_true, bf_decide]
    generalize s.extract j s.size = r at *
    by_cases h1 : 65536 < (n : Int)
    · rw [if_pos h1, if_pos h1]
    · rw [if_neg h1, if_neg h1, wrap_i64_in (by unfold in64; omega)]
      by_cases h2 : (r.size : Int) < (n : Int)
      · rw [if_pos h2, if_pos h2]
      · rw [if_neg h2, if_neg h2, need_true (by omega), need_true (by omega)]

theorem tkT_cases {s : ByteArray} (hs : s.size ≤ maxN) : ∃ p r w, tkT (tkC s s.size 0 0) = (p, r, w) ∧ p.size ≤ 65536 ∧ r.size ≤ s.size := by
  suffices h : (tkT (tkC s s.size 0 0)).1.size ≤ 65536 ∧ (tkT (tkC s s.size 0 0)).2.1.size ≤ s.size from ⟨_, _, _, rfl, h.1, h.2⟩
  constructor
  all_goals
    rcases tkC_cases (s := s) (k := s.size) (i := 0) (acc := 0) (by omega) (by omega) (by decide) with h | h | ⟨n, j, h, hn, hj⟩
    · rw [h]; exact Nat.zero_le _
    · rw [h]; exact Nat.zero_le _
    · rw [h]
      have hsz := extract_size' s j s.size (Nat.le_refl _)
      unfold tkT
      simp only [if_true]
      generalize s.extract j s.size = r at *
      by_cases h1 : 65536 < (n : Int)
      · rw [if_pos h1]; exact Nat.zero_le _
      · rw [if_neg h1]
        by_cases h2 : (r.size : Int) < (n : Int)
        · rw [if_pos h2]; exact Nat.zero_le _
        · rw [if_neg h2]
          simp only [ByteArray.size_extract]
          omega

/-! ### Texts together -/

theorem ba_ext {a b : ByteArray} (h : a.data.toList = b.data.toList) : a = b := Go.WideShapes.bytes_inj h

theorem join2 {a b : ByteArray} (h : a.size + b.size ≤ 140737488355328) : strings_Join [a, b] (bs []) = some (a ++ b) := by
  unfold strings_Join
  have e : Lib.join ([a, b].map (·.data.toList)) (bs []).data.toList = (a ++ b).data.toList := by
    rw [List.map_cons, Lib.join_cons]
    simp [Lib.joinTail, ByteArray.data_append]
    rfl
  rw [e]
  have hl : (a ++ b).data.toList.length = a.size + b.size := by rw [size_toList, ByteArray.size_append]
  rw [need_true ⟨by simp, by omega⟩]

theorem packJoin_eq {a b : ByteArray} (h : a.size + b.size ≤ 140737488355328) : pack_join [a, b] = some (a ++ b) := by
  unfold pack_join
  rw [join2 h]; rfl

def textOf (t : ByteArray) : ByteArray := cntB t.size ++ t

theorem text_eq {t : ByteArray} (h : t.size ≤ 140737488355300) : pack_Text t = some (textOf t) := by
  unfold pack_Text
  have e : IntKind.u64.wrap (t.size : Int) = (t.size : Int) := by rw [wrap_u64]; omega
  have hk := kOf_le (n := t.size) (by omega)
  rw [e, count_eq (by omega), Option.bind_some, packJoin_eq (by rw [cntB_size]; omega)]
  rfl
theorem refText_eq {t : ByteArray} (h : t.size ≤ 140737488355300) {fuel : Nat} (hf : 11 < fuel) : freshetref01_Text fuel t = some (textOf t) := by
  unfold freshetref01_Text
  have e : IntKind.u64.wrap (t.size : Int) = (t.size : Int) := by rw [wrap_u64]; omega
  have hk := kOf_le (n := t.size) (by omega)
  rw [e, refCount_eq' (by omega) hf, Option.bind_some, need_true (by rw [cntB_size]; omega)]
  rfl

/-- The bytes of a check sum. -/
def sum4 (c : Nat) : ByteArray := strOfNums [((c % 256 : Nat) : Int), ((c / 256 % 256 : Nat) : Int), ((c / 65536 % 256 : Nat) : Int), ((c / 16777216 % 256 : Nat) : Int)]
theorem sum4_size (c : Nat) : (sum4 c).size = 4 := by unfold sum4; rw [strOfNums_size]; rfl

theorem crcS_lt (s : ByteArray) : crcS s < 2 ^ 32 := by unfold crcS; omega

theorem closing_eq {t : ByteArray} (h : t.size ≤ maxN) : pack_closing t = some (sum4 (crcS t)) := by
  unfold pack_closing
  rw [packSum_eq h, Option.bind_some]
  have hc := crcS_lt t
  generalize crcS t = c at *
  rw [need_true (by decide)]
  have e0 : ∀ i : Nat, i < 4 → IntKind.u8.wrap (shrOp .u32 (c : Int) (IntKind.i64.wrap ((8 : Int) * (i : Int)))) = ((c / 2 ^ (8 * i) % 256 : Nat) : Int) := fun i hi => by
    have e1 : IntKind.i64.wrap ((8 : Int) * (i : Int)) = ((8 * i : Nat) : Int) := by rw [wrap_small (by omega) (by omega)]; omega
    rw [e1, shr_nat .u32 c (8 * i) (by show 8 * i ≤ 32; omega), wrap_u8]
    omega
  have h0 := e0 0 (by decide)
  have h1 := e0 1 (by decide)
  have h2 := e0 2 (by decide)
  have h3 := e0 3 (by decide)
  have n0 : need ((0 : Int) ≤ (IntKind.i64.wrap ((8 : Int) * ((0 : Nat) : Int)))) = (id : Option (Ctl (List Int) Empty) → _) := by funext x; exact need_true (by decide)
  have n1 : need ((0 : Int) ≤ (IntKind.i64.wrap ((8 : Int) * ((1 : Nat) : Int)))) = (id : Option (Ctl (List Int) Empty) → _) := by funext x; exact need_true (by decide)
  have n2 : need ((0 : Int) ≤ (IntKind.i64.wrap ((8 : Int) * ((2 : Nat) : Int)))) = (id : Option (Ctl (List Int) Empty) → _) := by funext x; exact need_true (by decide)
  have n3 : need ((0 : Int) ≤ (IntKind.i64.wrap ((8 : Int) * ((3 : Nat) : Int)))) = (id : Option (Ctl (List Int) Empty) → _) := by funext x; exact need_true (by decide)
  show outK (rangeN _ 4 0 [0, 0, 0, 0]) _ _ = _
  simp only [rangeN, Nat.zero_add, Nat.reduceAdd, n0, n1, n2, n3, id, h0, h1, h2, h3]
  simp [need]
  unfold sum4
  simp

theorem four_eq {c : Nat} (h : c < 2 ^ 32) : freshetref01_four (c : Int) = some (sum4 c) := by
  unfold freshetref01_four sum4
  have d1 : (c : Int).tdiv 256 = ((c / 256 : Nat) : Int) := by rw [Int.tdiv_eq_ediv_of_nonneg (by omega)]; omega
  have d2 : (c : Int).tdiv 65536 = ((c / 65536 : Nat) : Int) := by rw [Int.tdiv_eq_ediv_of_nonneg (by omega)]; omega
  have d3 : (c : Int).tdiv 16777216 = ((c / 16777216 : Nat) : Int) := by rw [Int.tdiv_eq_ediv_of_nonneg (by omega)]; omega
  have w : ∀ x : Nat, x < 2 ^ 32 → IntKind.u8.wrap (IntKind.u32.wrap (x : Int)) = ((x % 256 : Nat) : Int) := fun x hx => by rw [wrap_u32, wrap_u8]; omega
  have w0 : IntKind.u8.wrap (c : Int) = ((c % 256 : Nat) : Int) := by rw [wrap_u8]; omega
  rw [d1, d2, d3, w0, w _ (by omega), w _ (by omega), w _ (by omega)]

/-! ### Frames -/

def frameOf (t : ByteArray) : ByteArray := textOf t ++ sum4 (crcS t)
def frameR (t : ByteArray) : ByteArray × Int := if 65536 < t.size then (bs [], 2) else (frameOf t, 0)

theorem textOf_size {t : ByteArray} : (textOf t).size = kOf t.size + t.size := by unfold textOf; rw [ByteArray.size_append, cntB_size]
theorem frameOf_size {t : ByteArray} : (frameOf t).size = kOf t.size + t.size + 4 := by unfold frameOf; rw [ByteArray.size_append, textOf_size, sum4_size]

theorem frame_eq {t : ByteArray} : pack_Frame t = some (frameR t) := by
  unfold pack_Frame frameR
  rw [bf_decide]
  by_cases h : 65536 < t.size
  · rw [if_pos h, if_pos (by omega)]
  · have hk := kOf_le (n := t.size) (by omega)
    rw [if_neg h, if_neg (by omega), text_eq (by omega), Option.bind_some, closing_eq (by unfold maxN; omega), Option.bind_some, packJoin_eq (by rw [textOf_size, sum4_size]; omega)]
    rfl
theorem refFrame_eq {t : ByteArray} {fuel : Nat} (hf : t.size + 11 < fuel) : freshetref01_Frame fuel t = some (frameR t) := by
  unfold freshetref01_Frame frameR
  rw [bf_decide]
  by_cases h : 65536 < t.size
  · rw [if_pos h, if_pos (by omega)]
  · have hk := kOf_le (n := t.size) (by omega)
    rw [if_neg h, if_neg (by omega), refText_eq (by omega) (by omega), Option.bind_some, refSum_eq (by unfold maxN; omega) (by omega), Option.bind_some, four_eq (crcS_lt t), Option.bind_some, need_true (by rw [textOf_size, sum4_size]; omega)]
    rfl

def tkF (r : ByteArray × ByteArray × Int) : ByteArray × ByteArray × Int :=
  if r.2.2 = 0 then (if r.2.1.size < 4 then (bs [], bs [], 3) else if r.2.1.extract 0 4 = sum4 (crcS r.1) then (r.1, r.2.1.extract 4 r.2.1.size, 0) else (bs [], bs [], 4)) else (bs [], bs [], r.2.2)

theorem takeFrame_eq {s : ByteArray} (hs : s.size ≤ maxN) : pack_TakeFrame s = some (tkF (tkT (tkC s s.size 0 0))) := by
  unfold pack_TakeFrame
  rw [takeText_eq hs, Option.bind_some]
  obtain ⟨p, r, w, h, hp, hr⟩ := tkT_cases hs
  rw [h]
  unfold tkF
  simp only [bf_decide, bf_not]
  by_cases hw : w = 0
  · rw [if_pos hw, if_pos hw]
    by_cases h4 : r.size < 4
    · rw [if_pos h4, if_pos (by omega)]
    · rw [if_neg h4, if_neg (by omega), need_true (by omega), closing_eq (by unfold maxN; omega), Option.bind_some]
      by_cases he : r.extract 0 4 = sum4 (crcS p)
      · rw [if_pos he, he, strEq_self, bf_true, need_true (by omega)]
      · have : strEq (r.extract 0 4) (sum4 (crcS p)) = false := by
          cases e : strEq (r.extract 0 4) (sum4 (crcS p)) with
          | false => rfl
          | true => exact absurd (strEq_iff.1 e) he
        rw [if_neg he, this, bf_false]
  · rw [if_neg hw, if_neg hw]

theorem refTakeFrame_eq {s : ByteArray} (hs : s.size ≤ maxN) {fuel : Nat} (hf : 65550 < fuel) : freshetref01_TakeFrame fuel s = some (tkF (tkT (tkC s s.size 0 0))) := by
  unfold freshetref01_TakeFrame
  rw [refTakeText_eq hs (by omega), Option.bind_some]
  obtain ⟨p, r, w, h, hp, hr⟩ := tkT_cases hs
  rw [h]
  unfold tkF
  simp only [bf_decide, bf_not]
  by_cases hw : w = 0
  · rw [if_pos hw, if_pos hw]
    by_cases h4 : r.size < 4
    · rw [if_pos h4, if_pos (by omega)]
    · rw [if_neg h4, if_neg (by omega), need_true (by omega), refSum_eq (by unfold maxN; omega) (by omega), Option.bind_some, four_eq (crcS_lt p), Option.bind_some]
      by_cases he : r.extract 0 4 = sum4 (crcS p)
      · rw [if_pos he, he, strEq_self, bf_true, need_true (by omega)]
      · have : strEq (r.extract 0 4) (sum4 (crcS p)) = false := by
          cases e : strEq (r.extract 0 4) (sum4 (crcS p)) with
          | false => rfl
          | true => exact absurd (strEq_iff.1 e) he
        rw [if_neg he, this, bf_false]
  · rw [if_neg hw, if_neg hw]

end Go.Av
