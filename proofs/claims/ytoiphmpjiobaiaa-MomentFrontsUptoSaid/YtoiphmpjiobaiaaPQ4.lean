import Derived.Test.YtoiphmpjiobaiaaPQ3
namespace Go.Av
open Go
set_option linter.unusedVariables false
set_option linter.unusedSimpArgs false

section
variable {α : Type} [Inhabited α]

theorem scanUp_le (p : α → Bool) (d : Array α) (j : Nat) : ∀ (n i : Nat), j + 1 - i ≤ n → Sort.scanUp p d j i ≤ max i (j + 1) ∧ i ≤ Sort.scanUp p d j i := by
  intro n
  induction n with
  | zero =>
    intro i hn
    rw [Sort.scanUp, if_neg (by simp; omega)]
    omega
  | succ n ih =>
    intro i hn
    rw [Sort.scanUp]
    split
    · rename_i h
      have : i ≤ j := by simp at h; exact h.1
      have := ih (i + 1) (by omega)
      omega
    · omega

theorem scanDown_le' (p : α → Bool) (d : Array α) (i : Nat) : ∀ (j : Nat), Sort.scanDown p d i j ≤ j
  | 0 => Nat.le_refl _
  | j + 1 => by
    unfold Sort.scanDown
    split
    · have := scanDown_le' p d i j; omega
    · omega

theorem scanUp_loop {S R : Type} {B : S → Option (Ctl S R)} (e : Nat → S) (p : α → Bool) (d : Array α) {j : Nat} : ∀ (n i fuel : Nat), j + 1 - i ≤ n → n < fuel → (∀ i', i ≤ i' → i' ≤ max i (j + 1) → B (e i') = if i' ≤ j ∧ p d[i']! = true then some (.next (e (i' + 1))) else some (.brk (e i'))) →
    loopN B fuel (e i) = some (.done (e (Sort.scanUp p d j i))) := by
  intro n
  induction n with
  | zero =>
    intro i fuel hn hf hB
    cases fuel with
    | zero => omega
    | succ fuel =>
      have h := hB i (Nat.le_refl _) (by omega)
      rw [if_neg (by omega)] at h
      rw [loopN_brk h, Sort.scanUp, if_neg (by simp; omega)]
  | succ n ih =>
    intro i fuel hn hf hB
    cases fuel with
    | zero => omega
    | succ fuel =>
      have h := hB i (Nat.le_refl _) (by omega)
      by_cases hc : i ≤ j ∧ p d[i]! = true
      · rw [if_pos hc] at h
        rw [loopN_next h, Sort.scanUp, if_pos (by simpa using hc)]
        exact ih (i + 1) fuel (by omega) (by omega) (fun i' h1 h2 => hB i' (by omega) (by omega))
      · rw [if_neg hc] at h
        rw [loopN_brk h, Sort.scanUp, if_neg (by simpa using hc)]

theorem scanDown_loop {S R : Type} {B : S → Option (Ctl S R)} (e : Nat → S) (p : α → Bool) (d : Array α) {i : Nat} (hi : 1 ≤ i) : ∀ (j fuel : Nat), j < fuel → (∀ j', j' ≤ j → B (e j') = if i ≤ j' ∧ p d[j']! = true then some (.next (e (j' - 1))) else some (.brk (e j'))) →
    loopN B fuel (e j) = some (.done (e (Sort.scanDown p d i j))) := by
  intro j
  induction j with
  | zero =>
    intro fuel hf hB
    cases fuel with
    | zero => omega
    | succ fuel =>
      have h := hB 0 (Nat.le_refl _)
      rw [if_neg (by omega)] at h
      rw [loopN_brk h]; rfl
  | succ j ih =>
    intro fuel hf hB
    cases fuel with
    | zero => omega
    | succ fuel =>
      have h := hB (j + 1) (Nat.le_refl _)
      unfold Sort.scanDown
      by_cases hc : i ≤ j + 1 ∧ p d[j + 1]! = true
      · rw [if_pos hc] at h
        rw [loopN_next h, if_pos (by simpa using hc)]
        exact ih fuel (by omega) (fun j' h1 => hB j' (by omega))
      · rw [if_neg hc] at h
        rw [loopN_brk h, if_neg (by simpa using hc)]
end

theorem partLoop_unf (a i j : Nat) (d : Array Time) : Sort.partLoop ltT a i j d =
    if Sort.scanUp (fun x => ltT x d[a]!) d j i > Sort.scanDown (fun x => !ltT x d[a]!) d (Sort.scanUp (fun x => ltT x d[a]!) d j i) j then (Sort.scanDown (fun x => !ltT x d[a]!) d (Sort.scanUp (fun x => ltT x d[a]!) d j i) j, d)
    else Sort.partLoop ltT a (Sort.scanUp (fun x => ltT x d[a]!) d j i + 1) (Sort.scanDown (fun x => !ltT x d[a]!) d (Sort.scanUp (fun x => ltT x d[a]!) d j i) j - 1) (Sort.swp d (Sort.scanUp (fun x => ltT x d[a]!) d j i) (Sort.scanDown (fun x => !ltT x d[a]!) d (Sort.scanUp (fun x => ltT x d[a]!) d j i) j)) := Sort.partLoop_eq ltT a i j d
theorem partEqLoop_unf (a i j : Nat) (d : Array Time) : Sort.partEqLoop ltT a i j d =
    if Sort.scanUp (fun x => !ltT d[a]! x) d j i > Sort.scanDown (fun x => ltT d[a]! x) d (Sort.scanUp (fun x => !ltT d[a]! x) d j i) j then (Sort.scanUp (fun x => !ltT d[a]! x) d j i, d)
    else Sort.partEqLoop ltT a (Sort.scanUp (fun x => !ltT d[a]! x) d j i + 1) (Sort.scanDown (fun x => ltT d[a]! x) d (Sort.scanUp (fun x => !ltT d[a]! x) d j i) j - 1) (Sort.swp d (Sort.scanUp (fun x => !ltT d[a]! x) d j i) (Sort.scanDown (fun x => ltT d[a]! x) d (Sort.scanUp (fun x => !ltT d[a]! x) d j i) j)) := Sort.partEqLoop_eq ltT a i j d

theorem part_loop {B : Int × Int × List Time → Option (Ctl (Int × Int × List Time) Empty)} {a : Nat} : ∀ (n i j fuel : Nat) (d : Array Time), j + 1 - i ≤ n → n < fuel → 1 ≤ i → i ≤ d.size → j < d.size →
    (∀ (i j : Nat) (d' : Array Time), d'.size = d.size → 1 ≤ i → i ≤ d.size → j < d.size → B ((i : Int), (j : Int), d'.toList) =
      if Sort.scanUp (fun x => ltT x d'[a]!) d' j i > Sort.scanDown (fun x => !ltT x d'[a]!) d' (Sort.scanUp (fun x => ltT x d'[a]!) d' j i) j
      then some (.brk (((Sort.scanUp (fun x => ltT x d'[a]!) d' j i : Nat) : Int), ((Sort.scanDown (fun x => !ltT x d'[a]!) d' (Sort.scanUp (fun x => ltT x d'[a]!) d' j i) j : Nat) : Int), d'.toList))
      else some (.next (((Sort.scanUp (fun x => ltT x d'[a]!) d' j i + 1 : Nat) : Int), ((Sort.scanDown (fun x => !ltT x d'[a]!) d' (Sort.scanUp (fun x => ltT x d'[a]!) d' j i) j - 1 : Nat) : Int), (Sort.swp d' (Sort.scanUp (fun x => ltT x d'[a]!) d' j i) (Sort.scanDown (fun x => !ltT x d'[a]!) d' (Sort.scanUp (fun x => ltT x d'[a]!) d' j i) j)).toList))) →
    ∃ x : Int, loopN B fuel ((i : Int), (j : Int), d.toList) = some (.done (x, ((Sort.partLoop ltT a i j d).1 : Int), (Sort.partLoop ltT a i j d).2.toList)) := by
  intro n
  induction n with
  | zero =>
    intro i j fuel d hn hf hi hi2 hj hB
    cases fuel with
    | zero => omega
    | succ fuel =>
      have h := hB i j d rfl hi hi2 hj
      have u := (scanUp_le (fun x => ltT x d[a]!) d j _ i (Nat.le_refl _))
      have v := scanDown_le' (fun x => !ltT x d[a]!) d (Sort.scanUp (fun x => ltT x d[a]!) d j i) j
      rw [if_pos (by omega)] at h
      rw [loopN_brk h, partLoop_unf, if_pos (by omega)]
      exact ⟨_, rfl⟩
  | succ n ih =>
    intro i j fuel d hn hf hi hi2 hj hB
    cases fuel with
    | zero => omega
    | succ fuel =>
      have h := hB i j d rfl hi hi2 hj
      have u := (scanUp_le (fun x => ltT x d[a]!) d j _ i (Nat.le_refl _))
      have v := scanDown_le' (fun x => !ltT x d[a]!) d (Sort.scanUp (fun x => ltT x d[a]!) d j i) j
      rw [partLoop_unf]
      generalize Sort.scanUp (fun x => ltT x d[a]!) d j i = i2 at *
      generalize Sort.scanDown (fun x => !ltT x d[a]!) d i2 j = j2 at *
      by_cases hc : i2 > j2
      · rw [if_pos hc] at h
        rw [loopN_brk h, if_pos hc]
        exact ⟨_, rfl⟩
      · rw [if_neg hc] at h
        rw [loopN_next h, if_neg hc]
        exact ih _ _ _ _ (by omega) (by omega) (by omega) (by rw [swp_sz]; omega) (by rw [swp_sz]; omega) (fun i' j' d' h1 h2 h3 h4 => hB i' j' d' (by rw [h1, swp_sz]) h2 (by rw [swp_sz] at h3; exact h3) (by rw [swp_sz] at h4; exact h4))

theorem partEq_loop {B : Int × Int × List Time → Option (Ctl (Int × Int × List Time) Empty)} {a : Nat} : ∀ (n i j fuel : Nat) (d : Array Time), j + 1 - i ≤ n → n < fuel → 1 ≤ i → i ≤ d.size → j < d.size →
    (∀ (i j : Nat) (d' : Array Time), d'.size = d.size → 1 ≤ i → i ≤ d.size → j < d.size → B ((i : Int), (j : Int), d'.toList) =
      if Sort.scanUp (fun x => !ltT d'[a]! x) d' j i > Sort.scanDown (fun x => ltT d'[a]! x) d' (Sort.scanUp (fun x => !ltT d'[a]! x) d' j i) j
      then some (.brk (((Sort.scanUp (fun x => !ltT d'[a]! x) d' j i : Nat) : Int), ((Sort.scanDown (fun x => ltT d'[a]! x) d' (Sort.scanUp (fun x => !ltT d'[a]! x) d' j i) j : Nat) : Int), d'.toList))
      else some (.next (((Sort.scanUp (fun x => !ltT d'[a]! x) d' j i + 1 : Nat) : Int), ((Sort.scanDown (fun x => ltT d'[a]! x) d' (Sort.scanUp (fun x => !ltT d'[a]! x) d' j i) j - 1 : Nat) : Int), (Sort.swp d' (Sort.scanUp (fun x => !ltT d'[a]! x) d' j i) (Sort.scanDown (fun x => ltT d'[a]! x) d' (Sort.scanUp (fun x => !ltT d'[a]! x) d' j i) j)).toList))) →
    ∃ x : Int, loopN B fuel ((i : Int), (j : Int), d.toList) = some (.done (((Sort.partEqLoop ltT a i j d).1 : Int), x, (Sort.partEqLoop ltT a i j d).2.toList)) := by
  intro n
  induction n with
  | zero =>
    intro i j fuel d hn hf hi hi2 hj hB
    cases fuel with
    | zero => omega
    | succ fuel =>
      have h := hB i j d rfl hi hi2 hj
      have u := (scanUp_le (fun x => !ltT d[a]! x) d j _ i (Nat.le_refl _))
      have v := scanDown_le' (fun x => ltT d[a]! x) d (Sort.scanUp (fun x => !ltT d[a]! x) d j i) j
      rw [if_pos (by omega)] at h
      rw [loopN_brk h, partEqLoop_unf, if_pos (by omega)]
      exact ⟨_, rfl⟩
  | succ n ih =>
    intro i j fuel d hn hf hi hi2 hj hB
    cases fuel with
    | zero => omega
    | succ fuel =>
      have h := hB i j d rfl hi hi2 hj
      have u := (scanUp_le (fun x => !ltT d[a]! x) d j _ i (Nat.le_refl _))
      have v := scanDown_le' (fun x => ltT d[a]! x) d (Sort.scanUp (fun x => !ltT d[a]! x) d j i) j
      rw [partEqLoop_unf]
      generalize Sort.scanUp (fun x => !ltT d[a]! x) d j i = i2 at *
      generalize Sort.scanDown (fun x => ltT d[a]! x) d i2 j = j2 at *
      by_cases hc : i2 > j2
      · rw [if_pos hc] at h
        rw [loopN_brk h, if_pos hc]
        exact ⟨_, rfl⟩
      · rw [if_neg hc] at h
        rw [loopN_next h, if_neg hc]
        exact ih _ _ _ _ (by omega) (by omega) (by omega) (by rw [swp_sz]; omega) (by rw [swp_sz]; omega) (fun i' j' d' h1 h2 h3 h4 => hB i' j' d' (by rw [h1, swp_sz]) h2 (by rw [swp_sz] at h3; exact h3) (by rw [swp_sz] at h4; exact h4))

theorem outK_exA {X Y Z R Q : Type} {o : Option (Out (X × Y × Z) R)} {kn : X × Y × Z → Option Q} {kr : R → Option Q} {y : Y} {z : Z} {q : Option Q} (h : ∃ x : X, o = some (.done (x, y, z))) (hk : ∀ x, kn (x, y, z) = q) : outK o kn kr = q := by
  obtain ⟨x, h⟩ := h
  rw [h]
  exact hk x
theorem outK_exB {X Y Z R Q : Type} {o : Option (Out (X × Y × Z) R)} {kn : X × Y × Z → Option Q} {kr : R → Option Q} {x : X} {z : Z} {q : Option Q} (h : ∃ y : Y, o = some (.done (x, y, z))) (hk : ∀ y, kn (x, y, z) = q) : outK o kn kr = q := by
  obtain ⟨y, h⟩ := h
  rw [h]
  exact hk y

theorem ltT_neg {x y : Time} : (decide (cmpT x y < 0)) = ltT x y := rfl

theorem partitionEqual_eq {fuel a b pivot : Nat} {d : Array Time} (hp : a ≤ pivot ∧ pivot < b) (hab : a + 1 < b) (hb : b ≤ d.size) (hd : d.size < 1152921504606846976) (hf : d.size + 2 < fuel) :
    slices_partitionEqualCmpFunc_Time__Compare_w fuel (a : Int) (b : Int) (pivot : Int) d.toList = some (((Sort.partitionEqual ltT d a b pivot).1 : Int), (Sort.partitionEqual ltT d a b pivot).2.toList) := by
  unfold slices_partitionEqualCmpFunc_Time__Compare_w Sort.partitionEqual
  have w1 : IntKind.i64.wrap ((a : Int) + 1) = ((a + 1 : Nat) : Int) := wadd1 (by omega)
  have w2 : IntKind.i64.wrap ((b : Int) - 1) = ((b - 1 : Nat) : Int) := wsub1 (by omega) (by omega)
  rw [w1, w2]
  simp only [Int.toNat_natCast, Nat.zero_add, Array.length_toList, List.length_set, arr_get, arr_swp]
  rw [need_true (by omega), need_true (by omega), need_true (by omega), need_true (by omega), need_true (by omega), need_true (by omega), need_true (by omega), need_true (by omega)]
  have hsz := swp_sz d a pivot
  generalize Sort.swp d a pivot = d1 at *
  refine outK_exB (partEq_loop (a := a) d1.size (a + 1) (b - 1) fuel d1 (by omega) (by omega) (by omega) (by omega) (by omega) ?_) (fun x => rfl)
  intro i j e he hi hi2 hj
  simp only
  have u := (scanUp_le (fun x => !ltT e[a]! x) e j _ i (Nat.le_refl _))
  have v := scanDown_le' (fun x => ltT e[a]! x) e (Sort.scanUp (fun x => !ltT e[a]! x) e j i) j
  rw [scanUp_loop (R := Empty) (fun i : Nat => (i : Int)) (fun x => !ltT e[a]! x) e (j := j) d1.size i fuel (by omega) (by omega) (fun k h1 h2 => ?_)]
  · simp only [outK_done]
    generalize Sort.scanUp (fun x => !ltT e[a]! x) e j i = i2 at *
    rw [scanDown_loop (R := Empty) (fun i : Nat => (i : Int)) (fun x => ltT e[a]! x) e (i := i2) (by omega) j fuel (by omega) (fun k h1 => ?_)]
    · simp only [outK_done, bf_decide, intlt, gt_iff_lt]
      generalize Sort.scanDown (fun x => ltT e[a]! x) e i2 j = j2 at *
      by_cases hc : j2 < i2
      · rw [if_pos hc, if_pos hc]
      · rw [if_neg hc, if_neg hc]
        simp (disch := omega) only [wsub1, wadd1, Int.toNat_natCast, Nat.zero_add, need_true, Array.length_toList, List.length_set, arr_get, arr_swp]
    · simp only [jn_eq, bf_decide, intle]
      by_cases hc : i2 ≤ k
      · rw [if_pos hc]
        simp (disch := omega) only [wsub1, Int.toNat_natCast, Nat.zero_add, need_true, Array.length_toList, compare_eq, Option.bind_some, arr_get, bf_decide, hc, true_and]
        unfold ltT
        by_cases h : cmpT e[a]! e[k]! < 0
        · simp [h]
        · simp [h]
      · rw [if_neg hc, if_neg (fun h => hc h.1), bf_false]
  · simp only [jn_eq, bf_decide, intle]
    by_cases hc : k ≤ j
    · rw [if_pos hc]
      simp (disch := omega) only [wadd1, Int.toNat_natCast, Nat.zero_add, need_true, Array.length_toList, compare_eq, Option.bind_some, arr_get, hc, true_and]
      unfold ltT
      by_cases h : cmpT e[a]! e[k]! < 0
      · simp [h]
      · simp [h]
    · rw [if_neg hc, if_neg (fun h => hc h.1), bf_false]

theorem partLoop_fact {a : Nat} : ∀ (n i j : Nat) (d : Array Time), j + 1 - i ≤ n → 1 ≤ i → i ≤ d.size → j < d.size → (Sort.partLoop ltT a i j d).1 ≤ j ∧ (Sort.partLoop ltT a i j d).2.size = d.size := by
  intro n
  induction n with
  | zero =>
    intro i j d hn hi hi2 hj
    have u := (scanUp_le (fun x => ltT x d[a]!) d j _ i (Nat.le_refl _))
    have v := scanDown_le' (fun x => !ltT x d[a]!) d (Sort.scanUp (fun x => ltT x d[a]!) d j i) j
    rw [partLoop_unf, if_pos (by omega)]
    exact ⟨v, rfl⟩
  | succ n ih =>
    intro i j d hn hi hi2 hj
    have u := (scanUp_le (fun x => ltT x d[a]!) d j _ i (Nat.le_refl _))
    have v := scanDown_le' (fun x => !ltT x d[a]!) d (Sort.scanUp (fun x => ltT x d[a]!) d j i) j
    rw [partLoop_unf]
    generalize Sort.scanUp (fun x => ltT x d[a]!) d j i = i2 at *
    generalize Sort.scanDown (fun x => !ltT x d[a]!) d i2 j = j2 at *
    by_cases hc : i2 > j2
    · rw [if_pos hc]; exact ⟨v, rfl⟩
    · rw [if_neg hc]
      have := ih (i2 + 1) (j2 - 1) (Sort.swp d i2 j2) (by omega) (by omega) (by rw [swp_sz]; omega) (by rw [swp_sz]; omega)
      rw [swp_sz] at this
      omega

theorem partition_eq {fuel a b pivot : Nat} {d : Array Time} (hp : a ≤ pivot ∧ pivot < b) (hab : a + 1 < b) (hb : b ≤ d.size) (hd : d.size < 1152921504606846976) (hf : d.size + 2 < fuel) :
    slices_partitionCmpFunc_Time__Compare_w fuel (a : Int) (b : Int) (pivot : Int) d.toList = some (((Sort.partition ltT d a b pivot).1 : Int), (Sort.partition ltT d a b pivot).2.1, (Sort.partition ltT d a b pivot).2.2.toList) := by
  unfold slices_partitionCmpFunc_Time__Compare_w Sort.partition
  have w1 : IntKind.i64.wrap ((a : Int) + 1) = ((a + 1 : Nat) : Int) := wadd1 (by omega)
  have w2 : IntKind.i64.wrap ((b : Int) - 1) = ((b - 1 : Nat) : Int) := wsub1 (by omega) (by omega)
  rw [w1, w2]
  simp only [Int.toNat_natCast, Nat.zero_add, Array.length_toList, List.length_set, arr_get, arr_swp]
  rw [need_true (by omega), need_true (by omega), need_true (by omega), need_true (by omega), need_true (by omega), need_true (by omega), need_true (by omega), need_true (by omega)]
  have hsz := swp_sz d a pivot
  generalize Sort.swp d a pivot = e at *
  have u := (scanUp_le (fun x => ltT x e[a]!) e (b - 1) _ (a + 1) (Nat.le_refl _))
  have v := scanDown_le' (fun x => !ltT x e[a]!) e (Sort.scanUp (fun x => ltT x e[a]!) e (b - 1) (a + 1)) (b - 1)
  rw [scanUp_loop (R := Empty) (fun i : Nat => ((i : Int), ((b - 1 : Nat) : Int))) (fun x => ltT x e[a]!) e (j := b - 1) e.size (a + 1) fuel (by omega) (by omega) (fun k h1 h2 => ?_)]
  · simp only [outK_done]
    generalize Sort.scanUp (fun x => ltT x e[a]!) e (b - 1) (a + 1) = i2 at *
    rw [scanDown_loop (R := Empty) (fun i : Nat => (i : Int)) (fun x => !ltT x e[a]!) e (i := i2) (by omega) (b - 1) fuel (by omega) (fun k h1 => ?_)]
    · simp only [outK_done, bf_decide, intlt, gt_iff_lt]
      generalize Sort.scanDown (fun x => !ltT x e[a]!) e i2 (b - 1) = j2 at *
      by_cases hc : j2 < i2
      · rw [if_pos hc, if_pos hc]
        simp (disch := omega) only [Int.toNat_natCast, Nat.zero_add, need_true, Array.length_toList, List.length_set, arr_get, arr_swp]
      · rw [if_neg hc, if_neg hc]
        have w3 : IntKind.i64.wrap ((i2 : Int) + 1) = ((i2 + 1 : Nat) : Int) := wadd1 (by omega)
        have w4 : IntKind.i64.wrap ((j2 : Int) - 1) = ((j2 - 1 : Nat) : Int) := wsub1 (by omega) (by omega)
        rw [w3, w4]
        simp only [Int.toNat_natCast, Nat.zero_add, Array.length_toList, List.length_set, arr_get, arr_swp]
        rw [need_true (by omega), need_true (by omega), need_true (by omega), need_true (by omega), need_true (by omega), need_true (by omega), need_true (by omega), need_true (by omega)]
        have hsz2 := swp_sz e i2 j2
        generalize Sort.swp e i2 j2 = f at *
        refine outK_exA (part_loop (a := a) f.size (i2 + 1) (j2 - 1) fuel f (by omega) (by omega) (by omega) (by omega) (by omega) ?_) (fun x => ?_)
        · intro i j g he hi hi2 hj
          simp only
          have u := (scanUp_le (fun x => ltT x g[a]!) g j _ i (Nat.le_refl _))
          have v := scanDown_le' (fun x => !ltT x g[a]!) g (Sort.scanUp (fun x => ltT x g[a]!) g j i) j
          rw [scanUp_loop (R := Empty) (fun i : Nat => (i : Int)) (fun x => ltT x g[a]!) g (j := j) f.size i fuel (by omega) (by omega) (fun k h1 h2 => ?_)]
          · simp only [outK_done]
            generalize Sort.scanUp (fun x => ltT x g[a]!) g j i = i3 at *
            rw [scanDown_loop (R := Empty) (fun i : Nat => (i : Int)) (fun x => !ltT x g[a]!) g (i := i3) (by omega) j fuel (by omega) (fun k h1 => ?_)]
            · simp only [outK_done, bf_decide, intlt, gt_iff_lt]
              generalize Sort.scanDown (fun x => !ltT x g[a]!) g i3 j = j3 at *
              by_cases hc : j3 < i3
              · rw [if_pos hc, if_pos hc]
              · rw [if_neg hc, if_neg hc]
                simp (disch := omega) only [wsub1, wadd1, Int.toNat_natCast, Nat.zero_add, need_true, Array.length_toList, List.length_set, arr_get, arr_swp]
            · simp only [jn_eq, bf_decide, intle]
              by_cases hc : i3 ≤ k
              · rw [if_pos hc]
                simp (disch := omega) only [wsub1, Int.toNat_natCast, Nat.zero_add, need_true, Array.length_toList, compare_eq, Option.bind_some, arr_get, bf_decide, hc, true_and]
                unfold ltT
                by_cases h : cmpT g[k]! g[a]! < 0
                · simp [h]
                · simp [h]
              · rw [if_neg hc, if_neg (fun h => hc h.1), bf_false]
          · simp only [jn_eq, bf_decide, intle]
            by_cases hc : k ≤ j
            · rw [if_pos hc]
              simp (disch := omega) only [wadd1, Int.toNat_natCast, Nat.zero_add, need_true, Array.length_toList, compare_eq, Option.bind_some, arr_get, hc, true_and]
              unfold ltT
              by_cases h : cmpT g[k]! g[a]! < 0
              · simp [h]
              · simp [h]
            · rw [if_neg hc, if_neg (fun h => hc h.1), bf_false]
        · have hl := partLoop_fact (a := a) f.size (i2 + 1) (j2 - 1) f (by omega) (by omega) (by omega) (by omega)
          generalize Sort.partLoop ltT a (i2 + 1) (j2 - 1) f = r at *
          simp (disch := omega) only [Int.toNat_natCast, Nat.zero_add, need_true, Array.length_toList, List.length_set, arr_get, arr_swp]
    · simp only [jn_eq, bf_decide, intle]
      by_cases hc : i2 ≤ k
      · rw [if_pos hc]
        simp (disch := omega) only [wsub1, Int.toNat_natCast, Nat.zero_add, need_true, Array.length_toList, compare_eq, Option.bind_some, arr_get, bf_decide, hc, true_and]
        unfold ltT
        by_cases h : cmpT e[k]! e[a]! < 0
        · simp [h]
        · simp [h]
      · rw [if_neg hc, if_neg (fun h => hc h.1), bf_false]
  · simp only [jn_eq, bf_decide, intle]
    by_cases hc : k ≤ b - 1
    · rw [if_pos hc]
      simp (disch := omega) only [wadd1, Int.toNat_natCast, Nat.zero_add, need_true, Array.length_toList, compare_eq, Option.bind_some, arr_get, hc, true_and]
      unfold ltT
      by_cases h : cmpT e[k]! e[a]! < 0
      · simp [h]
      · simp [h]
    · rw [if_neg hc, if_neg (fun h => hc h.1), bf_false]

end Go.Av
