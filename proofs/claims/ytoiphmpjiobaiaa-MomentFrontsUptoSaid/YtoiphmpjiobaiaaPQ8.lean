import Derived.Test.YtoiphmpjiobaiaaPQ7
namespace Go.Av
open Go
set_option linter.unusedVariables false
set_option linter.unusedSimpArgs false

theorem ltT_iff {x y : Time} : ltT x y = true ↔ x.epoch < y.epoch ∨ (x.epoch = y.epoch ∧ (x.loop.1 < y.loop.1 ∨ (x.loop.1 = y.loop.1 ∧ x.loop.2 < y.loop.2))) := by
  unfold ltT cmpT
  rw [decide_eq_true_eq]
  repeat' split
  all_goals omega

theorem swoT : Sort.SWO ltT where
  irrefl x := by
    cases h : ltT x x with
    | false => rfl
    | true => rw [ltT_iff] at h; omega
  trans x y z h1 h2 := by
    rw [ltT_iff] at *
    omega
  ntrans x y z h1 h2 := by
    rw [← Bool.not_eq_true, ltT_iff] at *
    omega

theorem insOuter_sz (a b : Nat) : ∀ (n i : Nat) (d : Array Time), b - i ≤ n → (Sort.insOuter ltT a b i d).size = d.size := by
  intro n
  induction n with
  | zero => intro i d hn; rw [Sort.insOuter, if_neg (by omega)]
  | succ n ih =>
    intro i d hn
    rw [Sort.insOuter]
    split
    · rw [ih _ _ (by omega), insInner_sz]
    · rfl
theorem insertion_sz (a b : Nat) (d : Array Time) : (Sort.insertionSort ltT d a b).size = d.size := insOuter_sz a b b _ d (by omega)
theorem heapPop_sz (first : Nat) : ∀ (k : Nat) (d : Array Time), (Sort.heapPop ltT first k d).size = d.size
  | 0, d => rfl
  | k + 1, d => by unfold Sort.heapPop; rw [heapPop_sz first k, sift_sz, swp_sz]
theorem heapSort_sz (a b : Nat) (d : Array Time) : (Sort.heapSort ltT d a b).size = d.size := by unfold Sort.heapSort; rw [heapPop_sz, heapBuild_sz]
theorem partialIns_sz (a b : Nat) : ∀ (s i : Nat) (d : Array Time), (Sort.partialIns ltT a b s i d).1.size = d.size
  | 0, i, d => rfl
  | s + 1, i, d => by
    rw [partialIns_unf]
    split
    · rfl
    · split
      · rfl
      · rw [partialIns_sz a b s, pisStep_sz]

def stepTo (F g : Nat) (o : Option (Ctl PdqS (List Time))) (q : Array Time) : Prop := (∃ s, o = some (.next s) ∧ loopN (pBody F) g s = some (.ret q.toList)) ∨ o = some (.ret q.toList)

def PdqOk (m : Nat) : Prop := ∀ (F g a b lim : Nat) (wb wp : Bool) (d : Array Time), b - a < m → a ≤ b → b ≤ d.size → d.size < 1152921504606846976 → lim < 1152921504606846976 → b - a < g → d.size + (b - a) + 20 < F →
  loopN (pBody F) g ((a : Int), (b : Int), (lim : Int), wb, wp, d.toList) = some (.ret (Sort.pdq ltT d a b lim wb wp).toList) ∧ (Sort.pdq ltT d a b lim wb wp).size = d.size

theorem PdqOk.call {m : Nat} (h : PdqOk m) {F a b lim : Nat} {d : Array Time} (hm : b - a < m) (hab : a ≤ b) (hb : b ≤ d.size) (hd : d.size < 1152921504606846976) (hl : lim < 1152921504606846976) (hf : d.size + (b - a) + 21 < F) :
    slices_pdqsortCmpFunc_Time__Compare_w F (a : Int) (b : Int) (lim : Int) d.toList = some (Sort.pdq ltT d a b lim true true).toList ∧ (Sort.pdq ltT d a b lim true true).size = d.size := by
  cases F with
  | zero => omega
  | succ F =>
    obtain ⟨h1, h2⟩ := h F F a b lim true true d hm hab hb hd hl (by omega) (by omega)
    rw [pdq_gen, h1]
    exact ⟨rfl, h2⟩

theorem stageD {F g a b lim pivot : Nat} {wb wp : Bool} {d : Array Time} (ih : PdqOk (b - a)) (hab : a + 12 < b) (hp : a ≤ pivot ∧ pivot < b) (hb : b ≤ d.size) (hd : d.size < 1152921504606846976) (hl : lim < 1152921504606846976) (hg : b - a ≤ g) (hF : d.size + (b - a) + 20 < F) :
    stepTo F g (pK10 F (a : Int) (b : Int) (lim : Int) ((b - a : Nat) : Int) (pivot : Int) wb wp d.toList) (qD a b lim wb wp pivot d) ∧ (qD a b lim wb wp pivot d).size = d.size := by
  have e8 : IntKind.i64.wrap (((b - a : Nat) : Int).tdiv 8) = (((b - a) / 8 : Nat) : Int) := by rw [Int.tdiv_eq_ediv_of_nonneg (by omega), wrap_small (by omega) (by omega)]; omega
  have hK : pK10 F (a : Int) (b : Int) (lim : Int) ((b - a : Nat) : Int) (pivot : Int) wb wp d.toList = pK12 F (a : Int) (b : Int) (lim : Int) ((b - a : Nat) : Int) (pivot : Int) wb wp d.toList (a > 0 && !ltT d[a - 1]! d[pivot]!) := by
    unfold pK10
    simp only [jn_eq]
    by_cases h0 : 0 < a
    · rw [decide_eq_true (show (0 : Int) < (a : Int) by omega), bf_true, wsub1 (by omega) (by omega)]
      simp (disch := omega) only [Int.toNat_natCast, Nat.zero_add, need_true, Array.length_toList, compare_eq, Option.bind_some, arr_get]
      rw [decide_eq_true h0, Bool.true_and]
      rfl
    · rw [decide_eq_false (show ¬ (0 : Int) < (a : Int) by omega), bf_false, decide_eq_false h0, Bool.false_and]
  rw [hK]
  unfold qD
  cases hx : (a > 0 && !ltT d[a - 1]! d[pivot]!) with
  | true =>
    simp only [if_true]
    unfold pK12
    rw [bf_true, partitionEqual_eq hp (by omega) hb hd (by omega), Option.bind_some]
    have hr := partEqLoop_fact (a := a) _ (a + 1) (b - 1) (Sort.swp d a pivot) (Nat.le_refl _) (by omega) (by omega) (by rw [swp_sz]; omega)
    rw [swp_sz] at hr
    have he : Sort.partEqLoop ltT a (a + 1) (b - 1) (Sort.swp d a pivot) = Sort.partitionEqual ltT d a b pivot := rfl
    rw [he] at hr
    generalize Sort.partitionEqual ltT d a b pivot = r at *
    obtain ⟨mid, d4⟩ := r
    simp only at hr ⊢
    rw [dif_pos (by omega), need_true (by rw [Array.length_toList, Array.length_toList]; omega)]
    obtain ⟨h1, h2⟩ := ih F g mid b lim wb wp d4 (by omega) (by omega) (by omega) (by omega) hl (by omega) (by omega)
    exact ⟨.inl ⟨_, rfl, h1⟩, by omega⟩
  | false =>
    simp only [Bool.false_eq_true, if_false]
    unfold pK12
    rw [bf_false, partition_eq hp (by omega) hb hd (by omega), Option.bind_some, e8]
    obtain ⟨g1, g2, g3, _, _⟩ := Sort.partition_holds ltT swoT d a b pivot hp.1 hp.2 hb
    have g3 := g3.1
    generalize Sort.partition ltT d a b pivot = r at *
    obtain ⟨mid, ap, d4⟩ := r
    simp only at g1 g2 g3 ⊢
    have w1 : IntKind.i64.wrap ((mid : Int) - (a : Int)) = ((mid - a : Nat) : Int) := wsub (by omega) (by omega)
    have w2 : IntKind.i64.wrap ((b : Int) - (mid : Int)) = ((b - mid : Nat) : Int) := wsub (by omega) (by omega)
    have w3 : IntKind.i64.wrap ((mid : Int) + 1) = ((mid + 1 : Nat) : Int) := wadd1 (by omega)
    rw [dif_pos ⟨g1, g2⟩, need_true (by rw [Array.length_toList, Array.length_toList]; omega), w1, w2, w3, bf_decide]
    by_cases hc : mid - a < b - mid
    · rw [if_pos hc, if_pos (by omega)]
      obtain ⟨c1, c2⟩ := ih.call (F := F) (a := a) (b := mid) (lim := lim) (d := d4) (by omega) (by omega) (by omega) (by omega) hl (by omega)
      rw [c1, Option.bind_some, need_true (by rw [Array.length_toList, Array.length_toList]; omega)]
      generalize Sort.pdq ltT d4 a mid lim true true = d5 at *
      obtain ⟨h1, h2⟩ := ih F g (mid + 1) b lim (decide (mid - a ≥ (b - a) / 8)) ap d5 (by omega) (by omega) (by omega) (by omega) hl (by omega) (by omega)
      refine ⟨.inl ⟨_, rfl, ?_⟩, by omega⟩
      have e : decide ((((b - a) / 8 : Nat) : Int) ≤ ((mid - a : Nat) : Int)) = decide (mid - a ≥ (b - a) / 8) := by
        rw [Bool.eq_iff_iff]; simp only [decide_eq_true_eq]; omega
      rw [e]
      exact h1
    · rw [if_neg hc, if_neg (by omega)]
      obtain ⟨c1, c2⟩ := ih.call (F := F) (a := mid + 1) (b := b) (lim := lim) (d := d4) (by omega) (by omega) (by omega) (by omega) hl (by omega)
      rw [c1, Option.bind_some, need_true (by rw [Array.length_toList, Array.length_toList]; omega)]
      generalize Sort.pdq ltT d4 (mid + 1) b lim true true = d5 at *
      obtain ⟨h1, h2⟩ := ih F g a mid lim (decide (b - mid ≥ (b - a) / 8)) ap d5 (by omega) (by omega) (by omega) (by omega) hl (by omega) (by omega)
      refine ⟨.inl ⟨_, rfl, ?_⟩, by omega⟩
      have e : decide ((((b - a) / 8 : Nat) : Int) ≤ ((b - mid : Nat) : Int)) = decide (b - mid ≥ (b - a) / 8) := by
        rw [Bool.eq_iff_iff]; simp only [decide_eq_true_eq]; omega
      rw [e]
      exact h1

theorem stageC {F g a b lim pivot : Nat} {hint : Sort.Hint} {wb wp : Bool} {d : Array Time} (ih : PdqOk (b - a)) (hab : a + 12 < b) (hp : a ≤ pivot ∧ pivot < b) (hb : b ≤ d.size) (hd : d.size < 1152921504606846976) (hl : lim < 1152921504606846976) (hg : b - a ≤ g) (hF : d.size + (b - a) + 20 < F) :
    stepTo F g (pK8 F (a : Int) (b : Int) (lim : Int) ((b - a : Nat) : Int) wb wp (pivot : Int) (hintN hint) d.toList) (qC a b lim wb wp pivot hint d) ∧ (qC a b lim wb wp pivot hint d).size = d.size := by
  have hK : pK8 F (a : Int) (b : Int) (lim : Int) ((b - a : Nat) : Int) wb wp (pivot : Int) (hintN hint) d.toList = if wb && wp && hint = .increasing then ((slices_partialInsertionSortCmpFunc_Time__Compare_w F (a : Int) (b : Int) d.toList).bind fun r30 => need (r30.2.length = d.toList.length) <| bf r30.1 (some (.ret r30.2)) (pK10 F (a : Int) (b : Int) (lim : Int) ((b - a : Nat) : Int) (pivot : Int) wb wp r30.2)) else pK10 F (a : Int) (b : Int) (lim : Int) ((b - a : Nat) : Int) (pivot : Int) wb wp d.toList := by
    unfold pK8
    cases wb <;> cases wp <;> cases hint <;> simp [jn, bf, hintN]
  rw [hK]
  unfold qC
  dsimp only
  by_cases hc : (wb && wp && decide (hint = .increasing)) = true
  · rw [if_pos hc, if_pos hc, partialInsertionSort_eq (by omega) hb hd (by omega), Option.bind_some]
    have hsz : (Sort.partialInsertionSort ltT d a b).1.size = d.size := partialIns_sz a b 5 _ d
    generalize Sort.partialInsertionSort ltT d a b = r at *
    obtain ⟨d3, x⟩ := r
    simp only at hsz ⊢
    rw [need_true (by rw [Array.length_toList, Array.length_toList]; omega)]
    cases x with
    | true => exact ⟨.inr rfl, hsz⟩
    | false =>
      simp only [bf_false, Bool.false_eq_true, if_false]
      have := stageD (F := F) (g := g) (lim := lim) (pivot := pivot) (wb := wb) (wp := wp) (d := d3) ih hab hp (by omega) (by omega) hl hg (by omega)
      exact ⟨this.1, by omega⟩
  · rw [if_neg hc, if_neg hc]
    simp only [Bool.false_eq_true, if_false]
    exact stageD ih hab hp hb hd hl hg hF

theorem stageB {F g a b lim : Nat} {wb wp : Bool} {d : Array Time} (ih : PdqOk (b - a)) (hab : a + 12 < b) (hb : b ≤ d.size) (hd : d.size < 1152921504606846976) (hl : lim < 1152921504606846976) (hg : b - a ≤ g) (hF : d.size + (b - a) + 20 < F) :
    stepTo F g (pK5 F (a : Int) (b : Int) wb wp (lim : Int) ((b - a : Nat) : Int) d.toList) (qB a b lim wb wp d) ∧ (qB a b lim wb wp d).size = d.size := by
  unfold pK5 qB
  rw [choosePivot_eq (by omega) hb hd, Option.bind_some]
  obtain ⟨p1, p2⟩ := Sort.choosePivot_holds ltT d a b (by omega)
  generalize Sort.choosePivot ltT d a b = c at *
  obtain ⟨pivot, hint⟩ := c
  simp only [jn_eq] at p1 p2 ⊢
  by_cases hc : hint = .decreasing
  · subst hc
    have hsz := (Sort.reverseRange_holds d a b (by omega) hb).1
    rw [decide_eq_true (show hintN Sort.Hint.decreasing = 2 from rfl), bf_true, reverseRange_eq (by omega) hb hd (by omega), Option.bind_some, need_true (by rw [Array.length_toList, Array.length_toList]; exact hsz)]
    have w1 : IntKind.i64.wrap ((b : Int) - 1) = ((b - 1 : Nat) : Int) := wsub1 (by omega) (by omega)
    have w2 : IntKind.i64.wrap ((pivot : Int) - (a : Int)) = ((pivot - a : Nat) : Int) := wsub (by omega) (by omega)
    have w3 : IntKind.i64.wrap (((b - 1 : Nat) : Int) - ((pivot - a : Nat) : Int)) = (((b - 1) - (pivot - a) : Nat) : Int) := wsub (by omega) (by omega)
    rw [w1, w2, w3]
    simp only [if_true]
    have := stageC (F := F) (g := g) (lim := lim) (pivot := (b - 1) - (pivot - a)) (hint := .increasing) (wb := wb) (wp := wp) (d := Sort.reverseRange d a b) ih hab (by omega) (by omega) (by omega) hl hg (by omega)
    exact ⟨this.1, this.2.trans hsz⟩
  · have hn : hintN hint ≠ 2 := by cases hint <;> simp [hintN] at *
    rw [decide_eq_false hn, bf_false, if_neg hc]
    exact stageC ih hab ⟨p1, p2⟩ hb hd hl hg hF

theorem pdqOk : ∀ m, PdqOk m := by
  intro m
  induction m with
  | zero => intro F g a b lim wb wp d h; omega
  | succ m ihm =>
    intro F g a b lim wb wp d hm hab hb hd hl hg hF
    have ih : PdqOk (b - a) := fun F' g' a' b' lim' wb' wp' d' h => ihm F' g' a' b' lim' wb' wp' d' (by omega)
    cases g with
    | zero => omega
    | succ g =>
      have e0 : IntKind.i64.wrap ((b : Int) - (a : Int)) = ((b - a : Nat) : Int) := wsub (by omega) (by omega)
      rw [pdq_unf]
      by_cases h1 : b - a ≤ 12
      · rw [if_pos h1]
        refine ⟨?_, insertion_sz a b d⟩
        rw [loopN_ret (r := (Sort.insertionSort ltT d a b).toList)]
        unfold pBody
        simp only [e0]
        rw [decide_eq_true (by omega), bf_true, insertion_eq hb (by omega) (by omega) (by omega), Option.bind_some]
      · rw [if_neg h1]
        by_cases h2 : lim = 0
        · rw [if_pos h2]
          refine ⟨?_, heapSort_sz a b d⟩
          rw [loopN_ret (r := (Sort.heapSort ltT d a b).toList)]
          unfold pBody
          simp only [e0]
          rw [decide_eq_false (by omega), bf_false, decide_eq_true (by omega), bf_true, heapSort_eq (by omega) hb hd (by omega), Option.bind_some]
        · rw [if_neg h2]
          have fin : ∀ q : Array Time, stepTo F g (pBody F ((a : Int), (b : Int), (lim : Int), wb, wp, d.toList)) q → loopN (pBody F) (g + 1) ((a : Int), (b : Int), (lim : Int), wb, wp, d.toList) = some (.ret q.toList) := fun q hq => by
            rcases hq with ⟨s, h3, h4⟩ | h3
            · rw [loopN_next h3, h4]
            · rw [loopN_ret h3]
          cases wb with
          | true =>
            simp only [if_true]
            have hB : pBody F ((a : Int), (b : Int), (lim : Int), true, wp, d.toList) = pK5 F (a : Int) (b : Int) true wp (lim : Int) ((b - a : Nat) : Int) d.toList := by
              unfold pBody
              simp only [e0, jn_eq]
              rw [decide_eq_false (by omega), bf_false, decide_eq_false (by omega), bf_false, Bool.not_true, bf_false]
            have := stageB (F := F) (g := g) (a := a) (b := b) (lim := lim) (wb := true) (wp := wp) (d := d) ih (by omega) hb hd hl (by omega) hF
            exact ⟨fin _ (by rw [hB]; exact this.1), this.2⟩
          | false =>
            simp only [Bool.false_eq_true, if_false]
            have hsz := (Sort.breakPatterns_holds d a b hab hb).1
            have hB : pBody F ((a : Int), (b : Int), (lim : Int), false, wp, d.toList) = pK5 F (a : Int) (b : Int) false wp ((lim - 1 : Nat) : Int) ((b - a : Nat) : Int) (Sort.breakPatterns d a b).toList := by
              unfold pBody
              simp only [e0, jn_eq]
              rw [decide_eq_false (by omega), bf_false, decide_eq_false (by omega), bf_false, Bool.not_false, bf_true, breakPatterns_eq (by omega) hb hd (by omega), Option.bind_some, need_true (by rw [Array.length_toList, Array.length_toList]; exact hsz), wsub1 (by omega) (by omega)]
            have := stageB (F := F) (g := g) (a := a) (b := b) (lim := lim - 1) (wb := false) (wp := wp) (d := Sort.breakPatterns d a b) ih (by omega) (by omega) (by omega) (by omega) (by omega) (by omega)
            exact ⟨fin _ (by rw [hB]; exact this.1), this.2.trans hsz⟩

theorem sortFunc_eq {fuel : Nat} {l : List Time} (hl : l.length < 1152921504606846976) (hf : 2 * l.length + 30 < fuel) :
    slices_SortFuncfreshet_api_Time_freshet_api_Time_Time__Compare_w fuel l = some (Sort.sort ltT l.toArray).toList := by
  unfold slices_SortFuncfreshet_api_Time_freshet_api_Time_Time__Compare_w
  have e : IntKind.u64.wrap (l.length : Int) = (l.length : Int) := uwrap (k := .u64) rfl (show l.length < 2 ^ 64 by omega)
  rw [e, len_eq (by omega), Option.bind_some]
  have hL : Sort.bitsLen l.length ≤ 60 := bitsLen_lt hl
  have := ((pdqOk (l.length + 1)).call (F := fuel) (a := 0) (b := l.length) (lim := Sort.bitsLen l.length) (d := l.toArray) (by omega) (by omega) (by simp) (by simpa using hl) (by omega) (by simp; omega)).1
  rw [show ((0 : Nat) : Int) = 0 from rfl, List.toList_toArray] at this
  rw [this, Option.bind_some]
  unfold Sort.sort
  rw [List.size_toArray]

end Go.Av
