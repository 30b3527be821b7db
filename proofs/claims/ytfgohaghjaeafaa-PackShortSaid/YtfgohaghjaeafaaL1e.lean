import Derived.Test.YtfgohaghjaeafaaL1d
namespace Go.Av
open Go
set_option linter.unusedVariables false
set_option linter.unusedSimpArgs false

/-! ### Texts as lists -/

def ofL (l : List UInt8) : ByteArray := ⟨l.toArray⟩
theorem ofL_list (l : List UInt8) : (ofL l).data.toList = l := rfl
theorem of_ofL (s : ByteArray) : s = ofL s.data.toList := ba_ext rfl
theorem ofL_size (l : List UInt8) : (ofL l).size = l.length := by rw [← size_toList]; rfl
theorem ofL_append (a b : List UInt8) : ofL a ++ ofL b = ofL (a ++ b) := ba_ext (by
  rw [ByteArray.data_append, Array.toList_append]; rfl)
theorem ofL_extract (l : List UInt8) (i j : Nat) : (ofL l).extract i j = ofL ((l.take j).drop i) := ba_ext (by
  rw [ByteArray.data_extract, Array.toList_extract, List.extract_eq_take_drop, List.drop_take]; rfl)
theorem ofL_byteAt (l : List UInt8) (i : Nat) : byteAt (ofL l) i = (l.getD i 0).toNat := rfl

def cb (n k : Nat) : List UInt8 := (List.range k).map fun i => UInt8.ofNat (dg n k i)
theorem cb_length (n k : Nat) : (cb n k).length = k := by unfold cb; simp
theorem cb_get {n k i : Nat} (h : i < k) : ((cb n k).getD i 0).toNat = dg n k i := by
  unfold cb
  rw [List.getD_eq_getElem?_getD, List.getElem?_map, List.getElem?_range h]
  show (UInt8.ofNat (dg n k i)).toNat = _
  rw [UInt8.toNat_ofNat']
  have := dg_lt n k i
  exact Nat.mod_eq_of_lt (by simpa using this)

theorem cntB_ofL (n : Nat) : cntB n = ofL (cb n (kOf n)) := ba_ext (by
  unfold cntB cntL cb strOfNums ofL
  simp [Function.comp_def])

theorem cb_app_get {n k i : Nat} {r : List UInt8} (h : i < k) : ((cb n k ++ r).getD i 0).toNat = dg n k i := by
  rw [List.getD_eq_getElem?_getD, List.getElem?_append_left (by rw [cb_length]; exact h), ← List.getD_eq_getElem?_getD, cb_get h]
theorem take_getB {X : Type} {l : List X} {i j : Nat} {d : X} (h : i < j) : (l.take j).getD i d = l.getD i d := by
  rw [List.getD_eq_getElem?_getD, List.getElem?_take_of_lt h, ← List.getD_eq_getElem?_getD]

theorem tk_full {s : ByteArray} {n k : Nat} (hK : IsK n k) (hn : n < 2 ^ 64) (hs : k ≤ s.size) (hb : ∀ i, i < k → byteAt s i = dg n k i) : tkC s s.size 0 0 = ((n : Int), s.extract k s.size, 0) := by
  have aux : ∀ j i, i + j + 1 = k → tkC s (s.size - i) i (n % 128 ^ i) = ((n : Int), s.extract k s.size, 0) := by
    intro j
    induction j with
    | zero =>
      intro i hi
      have hki : k = i + 1 := by omega
      rw [show s.size - i = (s.size - i - 1) + 1 by omega]
      simp only [tkC]
      have h1 := hb i (by omega)
      have h2 := K_last hK
      rw [show k - 1 = i by omega] at h2
      have h3 : byteAt s i = n / 128 ^ i := by rw [h1]; unfold dg; rw [if_neg (by omega), Nat.mod_eq_of_lt h2]; rfl
      rw [h3, if_neg, if_pos h2, Nat.mod_eq_of_lt h2]
      · have := Nat.mod_add_div n (128 ^ i)
        rw [Nat.mul_comm] at this
        rw [this, hki]
      · rintro (⟨h4, h5⟩ | ⟨h4, h5⟩)
        · have := hK.2.2.2 (by omega)
          rw [show k - 1 = i by omega] at this
          have := Nat.div_pos this (Nat.pow_pos (by decide))
          omega
        · subst h4
          have e : (128 : Nat) ^ 9 = 9223372036854775808 := by decide
          rw [e] at h5
          omega
    | succ j ih =>
      intro i hi
      have := hK.2.1
      rw [show s.size - i = (s.size - (i + 1)) + 1 by omega]
      simp only [tkC]
      have h1 := hb i (by omega)
      have h3 : byteAt s i = n / 128 ^ i % 128 + 128 := by rw [h1]; unfold dg; rw [if_pos (by omega)]
      rw [h3, if_neg (by omega), if_neg (by omega)]
      have e : n % 128 ^ i + (n / 128 ^ i % 128 + 128) % 128 * 128 ^ i = n % 128 ^ (i + 1) := by
        rw [Nat.pow_succ, Nat.mod_mul, show (n / 128 ^ i % 128 + 128) % 128 = n / 128 ^ i % 128 by omega, Nat.mul_comm]
      rw [e]
      exact ih (i + 1) (by omega)
  have := aux (k - 1) 0 (by have := hK.1; omega)
  rw [Nat.pow_zero, Nat.mod_one, Nat.sub_zero] at this
  exact this

theorem tk_cut {s : ByteArray} {n k : Nat} (hK : IsK n k) (hs : s.size < k) (hb : ∀ i, i < s.size → byteAt s i = dg n k i) : tkC s s.size 0 0 = (0, bs [], 3) := by
  have aux : ∀ j i acc, i + j = s.size → tkC s j i acc = (0, bs [], 3) := by
    intro j
    induction j with
    | zero => intro i acc hi; rfl
    | succ j ih =>
      intro i acc hi
      have := hK.2.1
      simp only [tkC]
      have h3 : byteAt s i = n / 128 ^ i % 128 + 128 := by rw [hb i (by omega)]; unfold dg; rw [if_pos (by omega)]
      rw [h3, if_neg (by omega), if_neg (by omega)]
      exact ih (i + 1) _ (by omega)
  exact aux s.size 0 0 (by omega)

theorem tkC_ofL {n : Nat} (hn : n < 2 ^ 64) (r : List UInt8) : tkC (ofL (cb n (kOf n) ++ r)) (ofL (cb n (kOf n) ++ r)).size 0 0 = ((n : Int), ofL r, 0) := by
  have hsz : (ofL (cb n (kOf n) ++ r)).size = kOf n + r.length := by rw [ofL_size, List.length_append, cb_length]
  rw [tk_full (kOf_is hn) hn (by omega) (fun i hi => by rw [ofL_byteAt, cb_app_get hi]), ofL_extract, hsz, List.take_of_length_le (by rw [List.length_append, cb_length]; exact Nat.le_refl _), List.drop_append_of_le_length (by rw [cb_length]; exact Nat.le_refl _), List.drop_of_length_le (by rw [cb_length]; exact Nat.le_refl _)]
  rfl
theorem tkC_short {n : Nat} (hn : n < 2 ^ 64) (r : List UInt8) {j : Nat} (hj : j < kOf n) : tkC (ofL ((cb n (kOf n) ++ r).take j)) (ofL ((cb n (kOf n) ++ r).take j)).size 0 0 = (0, bs [], 3) := by
  have hsz : (ofL ((cb n (kOf n) ++ r).take j)).size = j := by rw [ofL_size, List.length_take, List.length_append, cb_length]; omega
  exact tk_cut (kOf_is hn) (by omega) (fun i hi => by rw [hsz] at hi; rw [ofL_byteAt, take_getB hi, cb_app_get (by omega)])

theorem tkT_ofL {n : Nat} (r : List UInt8) : tkT ((n : Int), ofL r, 0) = if 65536 < n then (bs [], bs [], 2) else if r.length < n then (bs [], bs [], 3) else (ofL (r.take n), ofL (r.drop n), 0) := by
  unfold tkT
  simp only [if_true, ofL_size, Int.toNat_natCast, ofL_extract]
  by_cases h1 : 65536 < n
  · rw [if_pos h1, if_pos (by omega)]
  · rw [if_neg h1, if_neg (by omega)]
    by_cases h2 : r.length < n
    · rw [if_pos h2, if_pos (by omega)]
    · rw [if_neg h2, if_neg (by omega), List.drop_zero, List.take_of_length_le (Nat.le_refl _)]

def q4 (c : Nat) : List UInt8 := [UInt8.ofNat (c % 256), UInt8.ofNat (c / 256 % 256), UInt8.ofNat (c / 65536 % 256), UInt8.ofNat (c / 16777216 % 256)]
theorem sum4_ofL (c : Nat) : sum4 c = ofL (q4 c) := ba_ext (by unfold sum4 strOfNums q4 ofL; simp only [List.map_cons, List.map_nil, Int.toNat_natCast])
theorem q4_length (c : Nat) : (q4 c).length = 4 := rfl
theorem q4_inj {c d : Nat} (hc : c < 2 ^ 32) (hd : d < 2 ^ 32) (h : q4 c = q4 d) : c = d := by
  unfold q4 at h
  have hb : ∀ x y : Nat, UInt8.ofNat (x % 256) = UInt8.ofNat (y % 256) → x % 256 = y % 256 := fun x y e => by
    have := congrArg UInt8.toNat e
    rw [UInt8.toNat_ofNat', UInt8.toNat_ofNat'] at this
    omega
  simp only [List.cons.injEq, and_true] at h
  obtain ⟨h1, h2, h3, h4⟩ := h
  have := hb _ _ h1
  have := hb _ _ h2
  have := hb _ _ h3
  have := hb _ _ h4
  omega

theorem ofL_inj {a b : List UInt8} (h : ofL a = ofL b) : a = b := by rw [← ofL_list a, h, ofL_list]

theorem tkF_ofL (p r : List UInt8) : tkF (ofL p, ofL r, 0) = if r.length < 4 then (bs [], bs [], 3) else if r.take 4 = q4 (crcS (ofL p)) then (ofL p, ofL (r.drop 4), 0) else (bs [], bs [], 4) := by
  unfold tkF
  simp only [if_true, ofL_size, ofL_extract]
  by_cases h1 : r.length < 4
  · rw [if_pos h1, if_pos h1]
  · rw [if_neg h1, if_neg h1, List.drop_zero, sum4_ofL, List.take_of_length_le (Nat.le_refl _)]
    by_cases h2 : r.take 4 = q4 (crcS (ofL p))
    · rw [if_pos h2, if_pos (by rw [h2])]
    · rw [if_neg h2, if_neg (fun e => h2 (ofL_inj e))]

/-- The bytes of a frame. -/
def frL (t : List UInt8) : List UInt8 := cb t.length (kOf t.length) ++ (t ++ q4 (crcS (ofL t)))
theorem frameOf_ofL (t : ByteArray) : frameOf t = ofL (frL t.data.toList) := by
  unfold frameOf textOf frL
  rw [cntB_ofL, sum4_ofL, size_toList]
  conv => lhs; rw [of_ofL t]
  rw [ofL_append, ofL_append, List.append_assoc, ofL_size, size_toList]
theorem frL_length (t : List UInt8) : (frL t).length = kOf t.length + (t.length + 4) := by unfold frL; rw [List.length_append, List.length_append, cb_length, q4_length]

abbrev takeF (s : ByteArray) := tkF (tkT (tkC s s.size 0 0))

theorem takeF_frame {t : List UInt8} (h : t.length ≤ 65536) (rest : List UInt8) : takeF (ofL (frL t ++ rest)) = (ofL t, ofL rest, 0) := by
  unfold frL takeF
  rw [List.append_assoc, tkC_ofL (by omega), tkT_ofL, if_neg (by omega), List.append_assoc, if_neg (by rw [List.length_append]; omega), List.take_left, List.drop_left, tkF_ofL, if_neg (by rw [List.length_append, q4_length]; omega)]
  have e1 : (q4 (crcS (ofL t)) ++ rest).take 4 = q4 (crcS (ofL t)) := List.take_left' (q4_length _)
  have e2 : (q4 (crcS (ofL t)) ++ rest).drop 4 = rest := List.drop_left' (q4_length _)
  rw [e1, e2, if_pos rfl]

theorem takeF_cut {t : List UInt8} (h : t.length ≤ 65536) {j : Nat} (hj : j < (frL t).length) : takeF (ofL ((frL t).take j)) = (bs [], bs [], 3) := by
  rw [frL_length] at hj
  unfold frL takeF
  rcases Nat.lt_or_ge j (kOf t.length) with h1 | h1
  · rw [tkC_short (by omega) _ h1]; rfl
  · rw [List.take_append, cb_length, List.take_of_length_le (by rw [cb_length]; exact h1), tkC_ofL (by omega), tkT_ofL, if_neg (by omega)]
    have hl : ((t ++ q4 (crcS (ofL t))).take (j - kOf t.length)).length = j - kOf t.length := by rw [List.length_take, List.length_append, q4_length]; omega
    rw [hl]
    by_cases h2 : j - kOf t.length < t.length
    · rw [if_pos h2]; rfl
    · rw [if_neg h2, tkF_ofL, if_pos (by rw [List.length_drop, hl]; omega)]

theorem crcS_turned {t : List UInt8} {i : Nat} (hi : i < t.length) {v : UInt8} (hv : v ≠ t.getD i 0) : crcS (ofL (t.set i v)) ≠ crcS (ofL t) := by
  have e1 : t = t.take i ++ t.getD i 0 :: t.drop (i + 1) := by
    have h0 : t.getD i 0 = t[i] := by rw [List.getD_eq_getElem?_getD, List.getElem?_eq_getElem hi]; rfl
    rw [h0, List.getElem_cons_drop, List.take_append_drop]
  have e2 : t.set i v = t.take i ++ v :: t.drop (i + 1) := List.set_eq_take_append_cons_drop.trans (by rw [if_pos hi])
  have hne : crcL (t.set i v) ≠ crcL t := by
    conv => rhs; rw [e1]
    rw [e2]
    exact crcL_turned _ _ hv
  have h1 := crcL_lt (t.set i v)
  have h2 := crcL_lt t
  unfold crcS
  rw [ofL_list, ofL_list]
  omega

theorem set_ne {l : List UInt8} {i : Nat} (hi : i < l.length) {v : UInt8} (hv : v ≠ l.getD i 0) : l.set i v ≠ l := fun e => by
  have := congrArg (fun l => l.getD i 0) e
  simp only [List.getD_eq_getElem?_getD, List.getElem?_set_self hi] at this
  rw [List.getD_eq_getElem?_getD] at hv
  exact hv this

theorem takeF_turned {t : List UInt8} (h : t.length ≤ 65536) {j : Nat} (hj : kOf t.length ≤ j) (hj2 : j < (frL t).length) {v : UInt8} (hv : v ≠ (frL t).getD j 0) : (takeF (ofL ((frL t).set j v))).2.2 = 4 := by
  rw [frL_length] at hj2
  have hg : (frL t).getD j 0 = (t ++ q4 (crcS (ofL t))).getD (j - kOf t.length) 0 := by
    unfold frL
    rw [List.getD_eq_getElem?_getD, List.getElem?_append_right (by rw [cb_length]; exact hj), cb_length, ← List.getD_eq_getElem?_getD]
  rw [hg] at hv
  unfold frL takeF
  rw [List.set_append_right _ _ (by rw [cb_length]; exact hj), cb_length, tkC_ofL (by omega), tkT_ofL, if_neg (by omega)]
  have hij : j - kOf t.length < t.length + 4 := by omega
  generalize j - kOf t.length = i at *
  have hl : ((t ++ q4 (crcS (ofL t))).set i v).length = t.length + 4 := by rw [List.length_set, List.length_append, q4_length]
  rw [if_neg (by omega)]
  by_cases h2 : i < t.length
  · have hv2 : v ≠ t.getD i 0 := by
      rw [List.getD_eq_getElem?_getD, List.getElem?_append_left h2, ← List.getD_eq_getElem?_getD] at hv
      exact hv
    have e := List.set_append_left (t := q4 (crcS (ofL t))) i v h2
    have hl2 : (t.set i v).length = t.length := List.length_set
    have e1 : ((t ++ q4 (crcS (ofL t))).set i v).take t.length = t.set i v := by rw [e]; exact List.take_left' hl2
    have e2 : ((t ++ q4 (crcS (ofL t))).set i v).drop t.length = q4 (crcS (ofL t)) := by rw [e]; exact List.drop_left' hl2
    rw [e1, e2, tkF_ofL, q4_length, if_neg (by decide), List.take_of_length_le (by rw [q4_length]; exact Nat.le_refl _), if_neg]
    intro e3
    exact crcS_turned h2 hv2 (q4_inj (crcS_lt _) (crcS_lt _) e3).symm
  · have hv2 : v ≠ (q4 (crcS (ofL t))).getD (i - t.length) 0 := by
      rw [List.getD_eq_getElem?_getD, List.getElem?_append_right (by omega), ← List.getD_eq_getElem?_getD] at hv
      exact hv
    have e := List.set_append_right (s := t) (t := q4 (crcS (ofL t))) i v (by omega)
    rw [e, List.take_left, List.drop_left, tkF_ofL, List.length_set, q4_length, if_neg (by decide), List.take_of_length_le (by rw [List.length_set, q4_length]; exact Nat.le_refl _), if_neg]
    exact set_ne (by rw [q4_length]; omega) hv2

end Go.Av
