import Derived.Test.YtfgohaghjaeafaaL1e
namespace Go.Av
open Go
set_option linter.unusedVariables false
set_option linter.unusedSimpArgs false

/-! ### The laws -/

theorem sums_true : freshetlaw01_sums = some true := by
  unfold freshetlaw01_sums
  rw [packSum_eq (by decide +kernel), Option.bind_some]
  have : crcS (bs [49, 50, 51, 52, 53, 54, 55, 56, 57]) = 3808858755 := by decide +kernel
  rw [this]; rfl

theorem counts_true : freshetlaw01_counts = some true := by
  unfold freshetlaw01_counts
  have e1 : pack_Count 300 = some (cntB 300) := count_eq (n := 300) (by decide)
  have e2 : cntB 300 = bs [172, 2] := by decide +kernel
  have e3 : pack_Number (-1) = some (cntB (zz (-1))) := number_eq (by unfold in64; omega)
  have e4 : cntB (zz (-1)) = bs [1] := by decide +kernel
  simp only [e1, e2, e3, e4, Option.bind_some, strEq_self, bf_true, jn]

theorem bs_ofL (l : List Nat) : bs l = ofL (l.map UInt8.ofNat) := rfl

theorem frames_true : freshetlaw01_frames = some true := by
  unfold freshetlaw01_frames
  rw [frame_eq, Option.bind_some]
  have h1 : frameR (bs [97]) = (ofL (frL [97]), 0) := by
    unfold frameR
    rw [if_neg (by decide), frameOf_ofL]; rfl
  have hl : (frL [97]).length = 6 := by rw [frL_length]; decide
  have h2 := takeF_frame (t := [97]) (by decide) [98]
  rw [h1]
  have e : (ofL (frL [97])) ++ bs [98] = ofL (frL [97] ++ [98]) := ofL_append _ _
  have hsz : (ofL (frL [97] ++ [98])).size = 7 := by rw [ofL_size, List.length_append, hl]; rfl
  have hm : (ofL (frL [97] ++ [98])).size ≤ maxN := by rw [hsz]; unfold maxN; omega
  simp only [e, ofL_size, hl]
  rw [need_true (by decide), takeFrame_eq hm]
  unfold takeF at h2
  rw [h2, Option.bind_some]
  show jn _ _ = _
  rw [show ofL [97] = bs [97] from rfl, show ofL [98] = bs [98] from rfl]
  simp only [strEq_self, decide_true, bf_true, jn_eq]
  rfl

theorem jn1 {p : Option Bool} : jn (fun (a1 : Bool) => some a1) (fun j => p.bind j) = p := by cases p <;> rfl

theorem PackSums_law {p0 : ByteArray} (h : p0.size ≤ maxN) : freshetlaw01_PackSums (p0.size + 10) p0 = some true := by
  unfold freshetlaw01_PackSums
  rw [sums_true, packSum_eq h, refSum_eq h (by omega)]
  simp [jn]

theorem kOf_pair (a : Nat) : kOf (2 * a) = kOf (2 * a + 1) := by
  have p2 : (128 : Nat) ^ 2 = 16384 := by decide
  have p3 : (128 : Nat) ^ 3 = 2097152 := by decide
  have p4 : (128 : Nat) ^ 4 = 268435456 := by decide
  have p5 : (128 : Nat) ^ 5 = 34359738368 := by decide
  have p6 : (128 : Nat) ^ 6 = 4398046511104 := by decide
  have p7 : (128 : Nat) ^ 7 = 562949953421312 := by decide
  have p8 : (128 : Nat) ^ 8 = 72057594037927936 := by decide
  have p9 : (128 : Nat) ^ 9 = 9223372036854775808 := by decide
  unfold kOf
  rw [p2, p3, p4, p5, p6, p7, p8, p9]
  have c : ∀ m : Nat, (2 * a < 2 * m) = (2 * a + 1 < 2 * m) := fun m => propext (by omega)
  rw [show 128 = 2 * 64 from rfl, show 16384 = 2 * 8192 from rfl, show 2097152 = 2 * 1048576 from rfl, show 268435456 = 2 * 134217728 from rfl, show 34359738368 = 2 * 17179869184 from rfl, show 4398046511104 = 2 * 2199023255552 from rfl, show 562949953421312 = 2 * 281474976710656 from rfl, show 72057594037927936 = 2 * 36028797018963968 from rfl, show 9223372036854775808 = 2 * 4611686018427387904 from rfl]
  simp only [c]

theorem zz_pair {m : Int} (h : in64 m) : kOf (zz m) = kOf (zz (-1 - m)) := by
  unfold in64 at h
  by_cases hm : 0 ≤ m
  · obtain ⟨a, rfl⟩ := Int.eq_ofNat_of_zero_le hm
    have e1 : zz (a : Int) = 2 * a := by unfold zz; rw [if_pos hm]; omega
    have e2 : zz (-1 - (a : Int)) = 2 * a + 1 := by unfold zz; rw [if_neg (by omega)]; omega
    rw [e1, e2, kOf_pair]
  · obtain ⟨a, ha⟩ := Int.eq_ofNat_of_zero_le (show 0 ≤ -1 - m by omega)
    have e1 : zz m = 2 * a + 1 := by unfold zz; rw [if_neg hm]; omega
    have e2 : zz (-1 - m) = 2 * a := by unfold zz; rw [if_pos (by omega)]; omega
    rw [e1, e2, kOf_pair]

theorem PackSizes_law {n : Nat} (hn : n < 2 ^ 64) {m : Int} (hm : in64 m) : freshetlaw01_PackSizes 12 (n : Int) m = some true := by
  unfold freshetlaw01_PackSizes
  have hK := kOf_is hn
  have hk := kOf_le hn
  rw [counts_true, Option.bind_some, Bool.not_true, bf_false]
  rw [show ((1 : Int), (n : Int)) = (fun i : Nat => (((1 + i : Nat) : Int), ((n / 128 ^ i : Nat) : Int))) 0 by simp]
  rw [loopN_steps (R := Empty) (n := kOf n - 1) (z := (((kOf n : Nat) : Int), ((n / 128 ^ (kOf n - 1) : Nat) : Int))) (fun i : Nat => (((1 + i : Nat) : Int), ((n / 128 ^ i : Nat) : Int))) (by omega) (fun i hi => by
    have h1 := K_div hK hi
    have h2 : n / 128 ^ i < 2 ^ 64 := Nat.lt_of_le_of_lt (Nat.div_le_self _ _) hn
    have e1 : IntKind.i64.wrap (((1 + i : Nat) : Int) + 1) = ((1 + (i + 1) : Nat) : Int) := by rw [wrap_small (by omega) (by omega)]; omega
    have e2 : IntKind.u64.wrap (((n / 128 ^ i : Nat) : Int).tdiv 128) = ((n / 128 ^ (i + 1) : Nat) : Int) := by
      rw [Int.tdiv_eq_ediv_of_nonneg (by omega), wrap_u64, Nat.pow_succ, ← Nat.div_div_eq_div_mul]
      omega
    simp only [e1, e2]
    rw [decide_eq_true (by omega), bf_true]) (by
    have := K_last hK
    simp only
    rw [decide_eq_false (by omega), bf_false, show 1 + (kOf n - 1) = kOf n by omega])]
  simp only [outK_done]
  have hm2 : in64 (-1 - m) := by unfold in64 at *; omega
  rw [count_eq hn, number_eq hm, wrap_i64_in hm2, number_eq hm2]
  simp only [Option.bind_some, cntB_size, decide_true, bf_true, zz_pair hm, jn]

theorem takeText_ex : pack_TakeText (bs [1, 120, 121]) = some (bs [120], bs [121], 0) := by
  rw [takeText_eq (by decide +kernel)]
  have e : (bs [1, 120, 121]) = ofL (cb 1 (kOf 1) ++ [120, 121]) := by decide +kernel
  rw [e, tkC_ofL (by decide), tkT_ofL, if_neg (by decide), if_neg (by decide)]
  rfl

theorem PackTexts_law {p0 : ByteArray} (h : p0.size ≤ maxN) : freshetlaw01_PackTexts 12 p0 = some true := by
  unfold freshetlaw01_PackTexts
  rw [takeText_eq h, refTakeText_eq h (by omega), takeText_ex]
  simp only [Option.bind_some, strEq_self, decide_true, bf_true, jn]

theorem PackTakes_law {p0 : ByteArray} (h : p0.size ≤ maxN) : freshetlaw01_PackTakes 12 p0 = some true := by
  unfold freshetlaw01_PackTakes
  rw [takeCount_eq h, refTakeCount_eq h (by omega), takeNumber_eq h, refTakeNumber_eq h (by omega), counts_true]
  simp only [Option.bind_some, strEq_self, decide_true, bf_true, jn]

theorem PackCounts_law {n : Nat} (hn : n < 2 ^ 64) {m : Int} (hm : in64 m) {t : ByteArray} (ht : t.size ≤ 140737488355300) : freshetlaw01_PackCounts 12 (n : Int) m t = some true := by
  unfold freshetlaw01_PackCounts
  rw [counts_true, count_eq hn, refCount_eq' hn (by omega), number_eq hm, refNumber_eq hm (by omega), text_eq ht, refText_eq ht (by omega)]
  simp only [Option.bind_some, strEq_self, decide_true, bf_true, jn]

theorem PackFrames_law {p0 p1 : ByteArray} (h1 : p1.size ≤ maxN) : freshetlaw01_PackFrames (p0.size + 65560) p0 p1 = some true := by
  unfold freshetlaw01_PackFrames
  rw [frame_eq, refFrame_eq (by omega), takeFrame_eq h1, refTakeFrame_eq h1 (by omega), frames_true]
  simp only [Option.bind_some, strEq_self, decide_true, bf_true, jn]

theorem frameR_neg {t : ByteArray} (h : ¬ 65536 < t.size) : frameR t = (ofL (frL t.data.toList), 0) := by unfold frameR; rw [if_neg h, frameOf_ofL]

theorem set_str (l : List UInt8) (i : Nat) (v : Int) : strOfNums ((numsOf (ofL l)).set i v) = ofL (l.set i (UInt8.ofNat v.toNat)) := ba_ext (by
  unfold strOfNums numsOf ofL
  show (List.map (fun n : Int => UInt8.ofNat n.toNat) ((l.map fun b => (b.toNat : Int)).set i v)) = _
  rw [List.map_set, List.map_map]
  have : ((fun n : Int => UInt8.ofNat n.toNat) ∘ fun b : UInt8 => (b.toNat : Int)) = id := by
    funext b
    simp
  rw [this, List.map_id])

theorem flip_ne {x : UInt8} {b : Nat} (hb : b < 8) : UInt8.ofNat (bitsOp .xor .u8 (x.toNat : Int) (shlOp .u8 1 (b : Int))).toNat ≠ x := by
  have hx := UInt8.toNat_lt x
  have e1 : shlOp .u8 1 (b : Int) = ((2 ^ b : Nat) : Int) := by
    have := shl_nat (k := .u8) 1 b (by show b ≤ 8; omega)
    rw [show ((1 : Nat) : Int) = 1 from rfl] at this
    have hp : 2 ^ b < 2 ^ 8 := Nat.pow_lt_pow_right (by decide) hb
    rw [this, Nat.one_mul, uwrap (k := .u8) rfl hp]
  have hp : 2 ^ b < 2 ^ 8 := Nat.pow_lt_pow_right (by decide) hb
  have hp0 : 0 < 2 ^ b := Nat.pow_pos (by decide)
  rw [e1, xor_nat (k := .u8) rfl (by show x.toNat < 2 ^ 8; omega) hp, Int.toNat_natCast]
  intro e
  have h2 := congrArg UInt8.toNat e
  have h3 : x.toNat ^^^ 2 ^ b < 256 := Nat.xor_lt_two_pow (n := 8) (by omega) hp
  rw [UInt8.toNat_ofNat', Nat.mod_eq_of_lt h3] at h2
  have h4 := congrArg (fun z => x.toNat ^^^ z) h2
  simp only [← Nat.xor_assoc, Nat.xor_self, Nat.zero_xor] at h4
  omega

theorem PackTurned_law {p0 : ByteArray} {p1 p2 : Int} (h0 : p0.size ≤ maxN) (h2 : 0 ≤ p2 ∧ p2 < 256) : freshetlaw01_PackTurned p0 p1 p2 = some true := by
  unfold freshetlaw01_PackTurned
  unfold maxN at h0
  have e : IntKind.u64.wrap (p0.size : Int) = (p0.size : Int) := by rw [wrap_u64]; omega
  rw [frames_true, Option.bind_some, Bool.not_true, bf_false, frame_eq, Option.bind_some, e, count_eq (by omega), Option.bind_some]
  by_cases hl : 65536 < p0.size
  · unfold frameR
    rw [if_pos hl]
    simp [jn]
  · rw [frameR_neg hl]
    simp only [decide_true, Bool.not_true, bf_false, cntB_size, jn_eq, ofL_size]
    by_cases ha : p1 < (kOf p0.size : Int)
    · rw [decide_eq_true ha]; simp
    · rw [decide_eq_false ha, bf_false]
      by_cases hb : ((frL p0.data.toList).length : Int) ≤ p1
      · rw [decide_eq_true hb]; simp
      · rw [decide_eq_false hb, bf_false]
        obtain ⟨j, rfl⟩ := Int.eq_ofNat_of_zero_le (show 0 ≤ p1 by omega)
        have e2 : p2.tmod 8 = ((p2 % 8).toNat : Int) := by rw [Int.tmod_eq_emod_of_nonneg (by omega)]; omega
        have hlen := frL_length p0.data.toList
        have hk := kOf_le (n := p0.data.toList.length) (by rw [size_toList]; omega)
        rw [size_toList] at hlen hk
        have hln : (numsOf (ofL (frL p0.data.toList))).length = (frL p0.data.toList).length := by rw [numsOf_length, ofL_size]
        rw [hln, e2, Int.toNat_natCast, Nat.zero_add, need_true (by unfold maxN; omega), need_true (by omega), need_true (by omega), need_true (by omega), need_true (by omega), need_true (by omega), set_str]
        have hg : (numsOf (ofL (frL p0.data.toList))).getD j default = (((frL p0.data.toList).getD j 0).toNat : Int) := by
          unfold numsOf
          rw [ofL_list, List.getD_eq_getElem?_getD, List.getElem?_map, List.getD_eq_getElem?_getD, List.getElem?_eq_getElem (by omega)]
          rfl
        rw [hg]
        have hv := flip_ne (x := (frL p0.data.toList).getD j 0) (b := (p2 % 8).toNat) (by omega)
        rw [takeFrame_eq (by rw [ofL_size, List.length_set]; unfold maxN; omega), Option.bind_some]
        have := takeF_turned (t := p0.data.toList) (by rw [size_toList]; omega) (j := j) (by rw [size_toList]; omega) (by omega) hv
        unfold takeF at this
        rw [this]
        rfl

/-- Frames, one behind the other. -/
def frs (l : List ByteArray) : List UInt8 := l.flatMap fun t => frL t.data.toList

def ManyI (a : ByteArray × List ByteArray) : Prop := a.1 = ofL (frs a.2) ∧ (∀ t ∈ a.2, t.size ≤ 65536) ∧ a.1.size ≤ 1100000 ∧ a.2.length ≤ a.1.size
theorem manyStart : ManyI (bs [], []) := by
  refine ⟨rfl, (fun t h => nomatch h), ?_, Nat.zero_le _⟩
  show (ofL []).size ≤ _
  rw [ofL_size]
  exact Nat.zero_le _

def manyB (l : List ByteArray) : Nat → ByteArray × List ByteArray → Option (Ctl (ByteArray × List ByteArray) Empty) := fun i2 (a3 : ByteArray × (List ByteArray)) => (pack_Frame (l.getD i2 default)).bind fun r12 => jn (fun (a13 : Bool) => bf a13 (need (((a3.1.size + r12.1.size : Nat) : Int) ≤ 9223372036854775807) <| need (a3.2.length + ([(l.getD i2 default)] : List ByteArray).length ≤ 274877906944) <| some (.next ((a3.1 ++ r12.1), (a3.2 ++ ([(l.getD i2 default)] : List ByteArray))))) (some (.next (a3.1, a3.2)))) fun j14 => bf (decide (r12.2 = 0)) (j14 (decide ((a3.1.size : Int) < 1000000))) (j14 false)

theorem many_step {l : List ByteArray} {i : Nat} {s : ByteArray} {put : List ByteArray} (hI : ManyI (s, put)) : ∃ a, manyB l i (s, put) = some (.next a) ∧ ManyI a := by
  obtain ⟨h1, h2, h3, h4⟩ := hI
  simp only at h1 h2 h3 h4
  unfold manyB
  simp only [frame_eq, Option.bind_some, jn_eq]
  generalize l.getD i default = t
  by_cases hb : 65536 < t.size
  · refine ⟨(s, put), ?_, h1, h2, h3, h4⟩
    have hf : frameR t = (bs [], 2) := by unfold frameR; rw [if_pos hb]
    have h20 : decide ((2 : Int) = 0) = false := by decide
    simp only [hf, h20, bf_false]
  · rw [frameR_neg hb]
    have h00 : decide ((0 : Int) = 0) = true := rfl
    rw [h00, bf_true]
    have hk := kOf_le (n := t.data.toList.length) (by rw [size_toList]; omega)
    have hfl := frL_length t.data.toList
    rw [size_toList] at hk hfl
    by_cases hs : (s.size : Int) < 1000000
    · rw [decide_eq_true hs, bf_true, ofL_size]
      have g1 : (((s.size + (frL t.data.toList).length : Nat) : Int) ≤ 9223372036854775807) := by omega
      have g2 : put.length + [t].length ≤ 274877906944 := by rw [List.length_singleton]; omega
      rw [need_true g1, need_true g2]
      refine ⟨(s ++ ofL (frL t.data.toList), put ++ [t]), rfl, ?_, ?_, ?_, ?_⟩
      · simp only
        rw [h1, ofL_append]
        unfold frs
        rw [List.flatMap_append]
        simp
      · intro u hu
        rcases List.mem_append.1 hu with h | h
        · exact h2 u h
        · rw [List.mem_singleton.1 h]; omega
      · simp only [ByteArray.size_append, ofL_size]; omega
      · simp only [ByteArray.size_append, ofL_size, List.length_append, List.length_cons, List.length_nil]; omega
    · rw [decide_eq_false hs, bf_false]
      exact ⟨(s, put), rfl, h1, h2, h3, h4⟩

theorem many_loop (l : List ByteArray) : ∃ a, rangeN (manyB l) l.length 0 (bs [], []) = some (.done a) ∧ ManyI a :=
  rangeN_inv (fun i a => ManyI a) manyStart (fun i a hi h => many_step h)

def manyC (put : List ByteArray) : Nat → ByteArray → Option (Ctl ByteArray Bool) := fun i5 (a6 : ByteArray) => need ((0 + i5) < put.length) <| (pack_TakeFrame a6).bind fun r9 => jn (fun (a10 : Bool) => bf a10 (some (.ret false)) (some (.next r9.2.1))) fun j11 => bf (!decide (r9.2.2 = 0)) (j11 true) (j11 (!strEq r9.1 (put.getD (0 + i5) default)))

theorem many_back {s : ByteArray} {put : List ByteArray} (hI : ManyI (s, put)) : rangeN (manyC put) put.length 0 s = some (.done (bs [])) := by
  obtain ⟨h1, h2, h3, h4⟩ := hI
  simp only at h1 h2 h3 h4
  refine rangeN_to (bs []) (fun i (a : ByteArray) => a = ofL (frs (put.drop i))) (fun a h => by rw [h, List.drop_of_length_le (Nat.le_refl _)]; rfl) ?_ h1
  rintro i a hi rfl
  unfold manyC
  rw [Nat.zero_add, need_true hi]
  have e2 : put.drop i = put.getD i default :: put.drop (i + 1) := drop_cons_getD hi
  have ht : (put.getD i default).size ≤ 65536 := h2 _ (by
    rw [List.getD_eq_getElem?_getD, List.getElem?_eq_getElem hi]; exact List.getElem_mem hi)
  have hsz : (ofL (frs (put.drop i))).size ≤ maxN := by
    have : (frs put).length = (frs (put.take i)).length + (frs (put.drop i)).length := by
      rw [← List.length_append]
      unfold frs
      rw [← List.flatMap_append, List.take_append_drop]
    rw [h1, ofL_size] at h3
    rw [ofL_size]
    unfold maxN
    omega
  rw [takeFrame_eq hsz, Option.bind_some]
  have e3 : frs (put.drop i) = frL (put.getD i default).data.toList ++ frs (put.drop (i + 1)) := by rw [e2]; rfl
  have e4 := takeF_frame (t := (put.getD i default).data.toList) (by rw [size_toList]; exact ht) (frs (put.drop (i + 1)))
  unfold takeF at e4
  rw [e3, e4]
  refine ⟨_, ?_, rfl⟩
  rw [← of_ofL]
  simp [strEq_self, jn]

theorem PackMany_law {l : List ByteArray} : freshetlaw01_PackMany l = some true := by
  unfold freshetlaw01_PackMany
  rw [frames_true, Option.bind_some, Bool.not_true, bf_false]
  obtain ⟨⟨s, put⟩, e1, hI⟩ := many_loop l
  unfold manyB at e1
  rw [e1]
  simp only [outK_done]
  have e2 := many_back hI
  unfold manyC at e2
  rw [e2]
  simp only [outK_done, strEq_self]

theorem PackShort_law {n : Nat} (hn : n < 2 ^ 64) {t : ByteArray} {p2 : Int} : freshetlaw01_PackShort (n : Int) t p2 = some true := by
  unfold freshetlaw01_PackShort
  rw [counts_true, frames_true, count_eq hn, frame_eq]
  simp only [Option.bind_some, Bool.not_true, bf_false, jn_eq, cntB_size]
  have hk := kOf_le hn
  have tail : (bf (!decide ((frameR t).2 = 0)) (bf true (some true) (need ((0 : Int) ≤ 0 ∧ (0 : Int) ≤ p2 ∧ p2 ≤ ((frameR t).1.size : Int)) <| (pack_TakeFrame ((frameR t).1.extract 0 p2.toNat)).bind fun r10 => some (decide (r10.2.2 = 3)))) (bf (decide (p2 < 0)) (bf true (some true) (need ((0 : Int) ≤ 0 ∧ (0 : Int) ≤ p2 ∧ p2 ≤ ((frameR t).1.size : Int)) <| (pack_TakeFrame ((frameR t).1.extract 0 p2.toNat)).bind fun r10 => some (decide (r10.2.2 = 3)))) (bf (decide (((frameR t).1.size : Int) ≤ p2)) (some true) (need ((0 : Int) ≤ 0 ∧ (0 : Int) ≤ p2 ∧ p2 ≤ ((frameR t).1.size : Int)) <| (pack_TakeFrame ((frameR t).1.extract 0 p2.toNat)).bind fun r10 => some (decide (r10.2.2 = 3)))))) = some true := by
    simp only [bf_true]
    by_cases hl : 65536 < t.size
    · unfold frameR; rw [if_pos hl]; rfl
    · rw [frameR_neg hl]
      simp only [decide_true, Bool.not_true, bf_false, ofL_size]
      by_cases h1 : p2 < 0
      · rw [decide_eq_true h1, bf_true]
      · rw [decide_eq_false h1, bf_false]
        by_cases h2 : ((frL t.data.toList).length : Int) ≤ p2
        · rw [decide_eq_true h2, bf_true]
        · obtain ⟨j, rfl⟩ := Int.eq_ofNat_of_zero_le (show 0 ≤ p2 by omega)
          have hlen := frL_length t.data.toList
          have hk := kOf_le (n := t.data.toList.length) (by rw [size_toList]; omega)
          rw [size_toList] at hlen hk
          rw [decide_eq_false h2, bf_false, need_true (by omega), Int.toNat_natCast, ofL_extract, List.drop_zero, takeFrame_eq (by rw [ofL_size, List.length_take]; unfold maxN; omega), Option.bind_some]
          have := takeF_cut (t := t.data.toList) (by rw [size_toList]; omega) (j := j) (by omega)
          unfold takeF at this
          rw [this]; rfl
  by_cases h1 : 0 ≤ p2
  · rw [decide_eq_true h1, bf_true]
    by_cases h2 : p2 < (kOf n : Int)
    · rw [decide_eq_true h2, bf_true, need_true (by omega)]
      obtain ⟨j, rfl⟩ := Int.eq_ofNat_of_zero_le h1
      have e := tkC_short hn [] (j := j) (by omega)
      rw [List.append_nil] at e
      rw [Int.toNat_natCast, cntB_ofL, ofL_extract, List.drop_zero, takeCount_eq (by rw [ofL_size, List.length_take, cb_length]; unfold maxN; omega), e, Option.bind_some]
      simp only [decide_true, Bool.not_true, bf_false]
      exact tail
    · rw [decide_eq_false h2]
      exact tail
  · rw [decide_eq_false h1]
    exact tail

theorem cntB_app (n : Nat) (r : ByteArray) : cntB n ++ r = ofL (cb n (kOf n) ++ r.data.toList) := by
  conv => lhs; rw [cntB_ofL, of_ofL r, ofL_append]
theorem textOf_app (t r : ByteArray) : textOf t ++ r = ofL (cb t.size (kOf t.size) ++ (t.data.toList ++ r.data.toList)) := by
  unfold textOf
  rw [cntB_app]
  conv => lhs; rw [of_ofL r, ofL_append, List.append_assoc]

theorem PackBack_law {n : Nat} (hn : n < 2 ^ 64) {m : Int} (hm : in64 m) {t r : ByteArray} (ht : t.size ≤ 140737488355300) (hr : r.size ≤ 140737488355300) : freshetlaw01_PackBack (n : Int) m t r = some true := by
  unfold freshetlaw01_PackBack
  have hz := zz_lt hm
  have k1 := kOf_le hn
  have k2 := kOf_le hz
  have k3 := kOf_le (n := t.size) (by omega)
  have e1 : pack_TakeCount (cntB n ++ r) = some ((n : Int), r, 0) := by
    rw [takeCount_eq (by rw [ByteArray.size_append, cntB_size]; unfold maxN; omega), cntB_app, tkC_ofL hn, ← of_ofL]
  have e2 : pack_TakeNumber (cntB (zz m) ++ r) = some (m, r, 0) := by
    rw [takeNumber_eq (by rw [ByteArray.size_append, cntB_size]; unfold maxN; omega), cntB_app, tkC_ofL hz, ← of_ofL]
    unfold tkN
    rw [if_pos rfl, numOf_zz]
  have e3 : pack_TakeText (textOf t ++ r) = some (if 65536 < t.size then (bs [], bs [], 2) else (t, r, 0)) := by
    rw [takeText_eq (by rw [ByteArray.size_append, textOf_size]; unfold maxN; omega), textOf_app, tkC_ofL (by omega), tkT_ofL]
    by_cases h : 65536 < t.size
    · rw [if_pos h, if_pos h]
    · rw [if_neg h, if_neg h, if_neg (by rw [List.length_append, size_toList]; omega)]
      have e5 : (t.data.toList ++ r.data.toList).take t.size = t.data.toList := List.take_left' (size_toList t)
      have e6 : (t.data.toList ++ r.data.toList).drop t.size = r.data.toList := List.drop_left' (size_toList t)
      rw [e5, e6, ← of_ofL, ← of_ofL]
  rw [counts_true, frames_true, count_eq hn, number_eq hm, text_eq ht, frame_eq]
  simp only [Option.bind_some, Bool.not_true, bf_false, jn_eq]
  rw [need_true (by rw [cntB_size]; omega), e1, Option.bind_some, need_true (by rw [cntB_size]; omega), e2, Option.bind_some]
  simp only [decide_true, Bool.not_true, bf_false, strEq_self]
  rw [need_true (by rw [textOf_size]; omega), e3, Option.bind_some]
  by_cases h : 65536 < t.size
  · have hf : frameR t = (bs [], 2) := by unfold frameR; rw [if_pos h]
    rw [hf]
    have hb : (bs []) ++ r = r := ba_ext (by rw [ByteArray.data_append, Array.toList_append]; rfl)
    rw [need_true (by show (((bs []).size + r.size : Nat) : Int) ≤ _; have : (bs []).size = 0 := rfl; omega), hb, takeFrame_eq (by unfold maxN; omega), Option.bind_some, decide_eq_true (by omega), bf_true, if_pos h]
    rfl
  · rw [frameR_neg h]
    have hlen := frL_length t.data.toList
    rw [size_toList] at hlen
    have e4 : ofL (frL t.data.toList) ++ r = ofL (frL t.data.toList ++ r.data.toList) := by
      conv => lhs; rw [of_ofL r, ofL_append]
    have e5 := takeF_frame (t := t.data.toList) (by rw [size_toList]; omega) r.data.toList
    unfold takeF at e5
    rw [ofL_size, need_true (by omega), e4, takeFrame_eq (by rw [ofL_size, List.length_append, size_toList]; unfold maxN; omega), e5, Option.bind_some, decide_eq_false (by omega), bf_false, if_neg h, ← of_ofL, ← of_ofL]
    simp [strEq_self]

end Go.Av
