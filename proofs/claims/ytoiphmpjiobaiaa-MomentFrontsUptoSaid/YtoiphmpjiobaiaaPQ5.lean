import Derived.Test.YtoiphmpjiobaiaaPQ4
namespace Go.Av
open Go
set_option linter.unusedVariables false
set_option linter.unusedSimpArgs false


theorem shiftDown_sz : ∀ (j : Nat) (d : Array Time), (Sort.shiftDown ltT j d).size = d.size
  | 0, d => rfl
  | j + 1, d => by
    unfold Sort.shiftDown
    split
    · rfl
    · rw [shiftDown_sz j, swp_sz]

theorem shiftDown_loop {B : Int × List Time → Option (Ctl (Int × List Time) Empty)} : ∀ (j fuel : Nat) (d : Array Time), j < fuel → j < d.size →
    (∀ (j : Nat) (d' : Array Time), d'.size = d.size → j < d.size → B ((j : Int), d'.toList) = if 1 ≤ j ∧ ltT d'[j]! d'[j - 1]! = true then some (.next (((j - 1 : Nat) : Int), (Sort.swp d' j (j - 1)).toList)) else some (.brk ((j : Int), d'.toList))) →
    ∃ x : Int, loopN B fuel ((j : Int), d.toList) = some (.done (x, (Sort.shiftDown ltT j d).toList)) := by
  intro j
  induction j with
  | zero =>
    intro fuel d hf hj hB
    cases fuel with
    | zero => omega
    | succ fuel =>
      have h := hB 0 d rfl hj
      rw [if_neg (by omega)] at h
      rw [loopN_brk h]
      exact ⟨_, rfl⟩
  | succ j ih =>
    intro fuel d hf hj hB
    cases fuel with
    | zero => omega
    | succ fuel =>
      have h := hB (j + 1) d rfl hj
      rw [Nat.add_sub_cancel] at h
      unfold Sort.shiftDown
      by_cases hc : ltT d[j + 1]! d[j]! = true
      · rw [if_pos ⟨by omega, hc⟩] at h
        rw [loopN_next h, if_neg (by simp [hc])]
        exact ih fuel _ (by omega) (by rw [swp_sz]; omega) (fun j' d' h1 h2 => hB j' d' (by rw [h1, swp_sz]) (by rw [swp_sz] at h2; exact h2))
      · rw [if_neg (fun h => hc h.2)] at h
        rw [loopN_brk h, if_pos (by simpa using hc)]
        exact ⟨_, rfl⟩

theorem shiftUp_sz (b : Nat) : ∀ (n j : Nat) (d : Array Time), b - j ≤ n → (Sort.shiftUp ltT b j d).size = d.size := by
  intro n
  induction n with
  | zero => intro j d hn; rw [Sort.shiftUp, if_neg (by omega)]
  | succ n ih =>
    intro j d hn
    rw [Sort.shiftUp]
    split
    · split
      · rfl
      · rw [ih _ _ (by omega), swp_sz]
    · rfl

theorem shiftUp_loop {B : Int × List Time → Option (Ctl (Int × List Time) Empty)} {b : Nat} : ∀ (n j fuel : Nat) (d : Array Time), b - j ≤ n → n < fuel → 1 ≤ j → b ≤ d.size →
    (∀ (j : Nat) (d' : Array Time), d'.size = d.size → 1 ≤ j → B ((j : Int), d'.toList) = if j < b ∧ ltT d'[j]! d'[j - 1]! = true then some (.next (((j + 1 : Nat) : Int), (Sort.swp d' j (j - 1)).toList)) else some (.brk ((j : Int), d'.toList))) →
    ∃ x : Int, loopN B fuel ((j : Int), d.toList) = some (.done (x, (Sort.shiftUp ltT b j d).toList)) := by
  intro n
  induction n with
  | zero =>
    intro j fuel d hn hf hj hb hB
    cases fuel with
    | zero => omega
    | succ fuel =>
      have h := hB j d rfl hj
      rw [if_neg (by omega)] at h
      rw [loopN_brk h, Sort.shiftUp, if_neg (by omega)]
      exact ⟨_, rfl⟩
  | succ n ih =>
    intro j fuel d hn hf hj hb hB
    cases fuel with
    | zero => omega
    | succ fuel =>
      have h := hB j d rfl hj
      rw [Sort.shiftUp]
      by_cases hjb : j < b
      · rw [if_pos hjb]
        by_cases hc : ltT d[j]! d[j - 1]! = true
        · rw [if_pos ⟨hjb, hc⟩] at h
          rw [loopN_next h, if_neg (by simp [hc])]
          exact ih _ fuel _ (by omega) (by omega) (by omega) (by rw [swp_sz]; omega) (fun j' d' h1 h2 => hB j' d' (by rw [h1, swp_sz]) h2)
        · rw [if_neg (fun h => hc h.2)] at h
          rw [loopN_brk h, if_pos (by simpa using hc)]
          exact ⟨_, rfl⟩
      · rw [if_neg (fun h => hjb h.1)] at h
        rw [loopN_brk h, if_neg hjb]
        exact ⟨_, rfl⟩

theorem scanSorted_loop {B : Int → Option (Ctl Int Empty)} {b : Nat} {d : Array Time} : ∀ (n i fuel : Nat), b - i ≤ n → n < fuel → 1 ≤ i →
    (∀ (i' : Nat), i ≤ i' → B (i' : Int) = if i' < b ∧ ltT d[i']! d[i' - 1]! = false then some (.next ((i' + 1 : Nat) : Int)) else some (.brk (i' : Int))) →
    loopN B fuel (i : Int) = some (.done ((Sort.scanSorted ltT d b i : Nat) : Int)) ∧ i ≤ Sort.scanSorted ltT d b i ∧ (i ≤ b → Sort.scanSorted ltT d b i ≤ b) := by
  intro n
  induction n with
  | zero =>
    intro i fuel hn hf hi hB
    cases fuel with
    | zero => omega
    | succ fuel =>
      have h := hB i (Nat.le_refl _)
      rw [if_neg (by omega)] at h
      rw [loopN_brk h, Sort.scanSorted, if_neg (by simp; omega)]
      exact ⟨rfl, Nat.le_refl _, fun h => h⟩
  | succ n ih =>
    intro i fuel hn hf hi hB
    cases fuel with
    | zero => omega
    | succ fuel =>
      have h := hB i (Nat.le_refl _)
      rw [Sort.scanSorted]
      by_cases hc : i < b ∧ ltT d[i]! d[i - 1]! = false
      · rw [if_pos hc] at h
        rw [loopN_next h, if_pos (by simpa using hc)]
        obtain ⟨h1, h2, h3⟩ := ih (i + 1) fuel (by omega) (by omega) (by omega) (fun i' h => hB i' (by omega))
        exact ⟨h1, by omega, fun h => h3 (by omega)⟩
      · rw [if_neg hc] at h
        rw [loopN_brk h, if_neg (by simpa using hc)]
        exact ⟨rfl, Nat.le_refl _, fun h => h⟩

def pisStep (a b i : Nat) (d : Array Time) : Array Time :=
  let d := Sort.swp d i (i - 1)
  let d := if i - a ≥ 2 then Sort.shiftDown ltT (i - 1) d else d
  if b - i ≥ 2 then Sort.shiftUp ltT b (i + 1) d else d

theorem pisStep_sz (a b i : Nat) (d : Array Time) : (pisStep a b i d).size = d.size := by
  unfold pisStep
  dsimp only
  split <;> split <;> simp [shiftUp_sz b b _ _ (Nat.sub_le _ _), shiftDown_sz, swp_sz]

theorem partialIns_unf (a b s i : Nat) (d : Array Time) : Sort.partialIns ltT a b (s + 1) i d =
    if Sort.scanSorted ltT d b i = b then (d, true) else if b - a < 50 then (d, false) else Sort.partialIns ltT a b s (Sort.scanSorted ltT d b i) (pisStep a b (Sort.scanSorted ltT d b i) d) := rfl

theorem pis_loop {B : Int × Int × List Time → Option (Ctl (Int × Int × List Time) (Bool × List Time))} {a b : Nat} {Q : Type} {kn : Int × Int × List Time → Option Q} {kr : Bool × List Time → Option Q} {q : Option Q} : ∀ (s i fuel : Nat) (d : Array Time), s ≤ 5 → s < fuel → a < i → i ≤ b →
    (∀ (i : Nat) (d' : Array Time), d'.size = d.size → a < i → i ≤ b → i ≤ Sort.scanSorted ltT d' b i ∧ Sort.scanSorted ltT d' b i ≤ b) →
    (∀ (s i : Nat) (d' : Array Time), d'.size = d.size → s ≤ 5 → a < i → i ≤ b → B ((i : Int), ((5 - s : Nat) : Int), d'.toList) = match s with
      | 0 => some (.brk ((i : Int), 5, d'.toList))
      | s + 1 => if Sort.scanSorted ltT d' b i = b then some (.ret (true, d'.toList)) else if b - a < 50 then some (.ret (false, d'.toList)) else some (.next (((Sort.scanSorted ltT d' b i : Nat) : Int), ((5 - s : Nat) : Int), (pisStep a b (Sort.scanSorted ltT d' b i) d').toList))) →
    (∀ x, (Sort.partialIns ltT a b s i d).2 = false → kn (x, 5, (Sort.partialIns ltT a b s i d).1.toList) = q) → (kr ((Sort.partialIns ltT a b s i d).2, (Sort.partialIns ltT a b s i d).1.toList) = q) →
    outK (loopN B fuel ((i : Int), ((5 - s : Nat) : Int), d.toList)) kn kr = q := by
  intro s
  induction s with
  | zero =>
    intro i fuel d hs hf hi hib hsc hB hkn hkr
    cases fuel with
    | zero => omega
    | succ fuel =>
      rw [loopN_brk (hB 0 i d rfl hs hi hib)]
      exact hkn _ rfl
  | succ s ih =>
    intro i fuel d hs hf hi hib hsc hB hkn hkr
    cases fuel with
    | zero => omega
    | succ fuel =>
      have h := hB (s + 1) i d rfl hs hi hib
      simp only at h
      rw [partialIns_unf] at hkn hkr
      have hb := hsc i d rfl hi hib
      by_cases h1 : Sort.scanSorted ltT d b i = b
      · rw [if_pos h1] at h
        rw [loopN_ret h]
        rw [if_pos h1] at hkr
        exact hkr
      · rw [if_neg h1] at h hkn hkr
        by_cases h2 : b - a < 50
        · rw [if_pos h2] at h
          rw [loopN_ret h]
          rw [if_pos h2] at hkr
          exact hkr
        · rw [if_neg h2] at h hkn hkr
          rw [loopN_next h]
          exact ih _ fuel _ (by omega) (by omega) (by omega) (by omega) (fun i' d' h1 h2 h3 => hsc i' d' (by rw [h1, pisStep_sz]) h2 h3) (fun s' i' d' h1 h2 h3 h4 => hB s' i' d' (by rw [h1, pisStep_sz]) h2 h3 h4) hkn hkr

theorem partialInsertionSort_eq {fuel a b : Nat} {d : Array Time} (hab : a < b) (hb : b ≤ d.size) (hd : d.size < 1152921504606846976) (hf : d.size + 10 < fuel) :
    slices_partialInsertionSortCmpFunc_Time__Compare_w fuel (a : Int) (b : Int) d.toList = some ((Sort.partialInsertionSort ltT d a b).2, (Sort.partialInsertionSort ltT d a b).1.toList) := by
  unfold slices_partialInsertionSortCmpFunc_Time__Compare_w Sort.partialInsertionSort
  rw [wadd1 (by omega)]
  refine pis_loop (a := a) (b := b) 5 (a + 1) fuel d (by omega) (by omega) (by omega) (by omega) ?_ ?_ (fun x h => by rw [h]) rfl
  · intro i e he h1 h2
    have := (scanSorted_loop (B := fun x => if x.toNat < b ∧ ltT e[x.toNat]! e[x.toNat - 1]! = false then some (.next ((x.toNat + 1 : Nat) : Int)) else some (.brk (x.toNat : Int))) (b := b) (d := e) b i (b + 1) (by omega) (by omega) (by omega) (fun i' h => by simp only [Int.toNat_natCast]))
    exact ⟨this.2.1, this.2.2 h2⟩
  · intro s i e he hs hi hib
    cases s with
    | zero => rfl
    | succ s =>
      simp only [bf_decide, jn_eq]
      rw [if_pos (show ((5 - (s + 1) : Nat) : Int) < 5 by omega)]
      obtain ⟨g1, g2, g3⟩ := scanSorted_loop (B := fun (a5 : Int) => if (a5 < (b : Int)) then (need ((0 : Int) ≤ a5 ∧ a5 < (e.toList.length : Int)) <| need ((0 + a5.toNat) < e.toList.length) <| need ((0 : Int) ≤ (IntKind.i64.wrap (a5 - 1)) ∧ (IntKind.i64.wrap (a5 - 1)) < (e.toList.length : Int)) <| need ((0 + (IntKind.i64.wrap (a5 - 1)).toNat) < e.toList.length) <| (moment_Compare (e.toList.getD (0 + a5.toNat) default) (e.toList.getD (0 + (IntKind.i64.wrap (a5 - 1)).toNat) default)).bind fun r54 => bf (!(decide (r54 < 0))) (some (.next (IntKind.i64.wrap (a5 + 1)))) (some (.brk a5))) else (bf false (some (.next (IntKind.i64.wrap (a5 + 1)))) (some (.brk a5)))) (b := b) (d := e) b i fuel (by omega) (by omega) (by omega) (fun k hk => by
        simp only [jn_eq, intlt]
        by_cases hc : k < b
        · rw [if_pos hc]
          simp (disch := omega) only [wsub1, wadd1, Int.toNat_natCast, Nat.zero_add, need_true, Array.length_toList, compare_eq, Option.bind_some, arr_get, hc, true_and]
          unfold ltT
          by_cases h : cmpT e[k]! e[k - 1]! < 0
          · simp [h]
          · simp [h]
        · rw [if_neg hc, if_neg (fun h => hc h.1), bf_false])
      rw [g1]
      simp only [outK_done]
      have g3 := g3 hib
      generalize Sort.scanSorted ltT e b i = i2 at *
      by_cases h1 : i2 = b
      · rw [if_pos h1, if_pos (by omega)]
      · rw [if_neg h1, if_neg (by omega), wsub (by omega) (by omega)]
        by_cases h2 : b - a < 50
        · rw [if_pos h2, if_pos (by omega)]
        · rw [if_neg h2, if_neg (by omega)]
          have w1 : IntKind.i64.wrap ((i2 : Int) + 1) = ((i2 + 1 : Nat) : Int) := wadd1 (by omega)
          have w2 : IntKind.i64.wrap ((i2 : Int) - 1) = ((i2 - 1 : Nat) : Int) := wsub1 (by omega) (by omega)
          have w3 : IntKind.i64.wrap ((i2 : Int) - (a : Int)) = ((i2 - a : Nat) : Int) := wsub (by omega) (by omega)
          have w4 : IntKind.i64.wrap ((b : Int) - (i2 : Int)) = ((b - i2 : Nat) : Int) := wsub (by omega) (by omega)
          have w5 : IntKind.i64.wrap (((5 - (s + 1) : Nat) : Int) + 1) = ((5 - s : Nat) : Int) := by rw [wadd1 (by omega)]; omega
          simp only [w1, w2, w3, w4, w5, Int.toNat_natCast, Nat.zero_add, Array.length_toList, List.length_set, arr_get, arr_swp, jn_eq]
          rw [need_true (by omega), need_true (by omega), need_true (by omega), need_true (by omega), need_true (by omega), need_true (by omega), need_true (by omega), need_true (by omega)]
          unfold pisStep
          dsimp only
          have hsz := swp_sz e i2 (i2 - 1)
          generalize Sort.swp e i2 (i2 - 1) = f at *
          have up : ∀ g : Array Time, g.size = e.size → (if (2 : Int) ≤ ((b - i2 : Nat) : Int) then (outK (loopN (S := Int × (List Time)) (R := Empty) (fun (a17 : Int × (List Time)) => if (a17.1 < (b : Int)) then (need ((0 : Int) ≤ a17.1 ∧ a17.1 < (a17.2.length : Int)) <| need (a17.1.toNat < a17.2.length) <| need ((0 : Int) ≤ (IntKind.i64.wrap (a17.1 - 1)) ∧ (IntKind.i64.wrap (a17.1 - 1)) < (a17.2.length : Int)) <| need ((IntKind.i64.wrap (a17.1 - 1)).toNat < a17.2.length) <| (moment_Compare (a17.2.getD a17.1.toNat default) (a17.2.getD (IntKind.i64.wrap (a17.1 - 1)).toNat default)).bind fun r23 => bf (!(decide (r23 < 0))) (some (.brk (a17.1, a17.2))) (need ((0 : Int) ≤ (IntKind.i64.wrap (a17.1 - 1)) ∧ (IntKind.i64.wrap (a17.1 - 1)) < (a17.2.length : Int)) <| need ((IntKind.i64.wrap (a17.1 - 1)).toNat < a17.2.length) <| need ((0 : Int) ≤ a17.1 ∧ a17.1 < (a17.2.length : Int)) <| need (a17.1.toNat < a17.2.length) <| need ((0 : Int) ≤ a17.1 ∧ a17.1 < (a17.2.length : Int)) <| need (a17.1.toNat < a17.2.length) <| need ((0 : Int) ≤ (IntKind.i64.wrap (a17.1 - 1)) ∧ (IntKind.i64.wrap (a17.1 - 1)) < (a17.2.length : Int)) <| need ((IntKind.i64.wrap (a17.1 - 1)).toNat < a17.2.length) <| some (.next ((IntKind.i64.wrap (a17.1 + 1)), ((a17.2.set a17.1.toNat (a17.2.getD (IntKind.i64.wrap (a17.1 - 1)).toNat default)).set (IntKind.i64.wrap (a17.1 - 1)).toNat (a17.2.getD a17.1.toNat default)))))) else (some (.brk (a17.1, a17.2)))) fuel (((i2 + 1 : Nat) : Int), g.toList)) (fun (a18 : Int × (List Time)) => some (Ctl.next ((i2 : Int), ((5 - s : Nat) : Int), a18.2))) (fun (x : Empty) => x.elim)) else some (Ctl.next ((i2 : Int), ((5 - s : Nat) : Int), g.toList))) = (some (Ctl.next ((i2 : Int), ((5 - s : Nat) : Int), (if b - i2 ≥ 2 then Sort.shiftUp ltT b (i2 + 1) g else g).toList)) : Option (Ctl (Int × Int × List Time) (Bool × List Time))) := fun g hg => by
            by_cases h3 : b - i2 ≥ 2
            · rw [if_pos h3, if_pos (by omega)]
              refine outK_ex (shiftUp_loop (b := b) b (i2 + 1) fuel g (by omega) (by omega) (by omega) (by omega) ?_) (fun x => rfl)
              intro j g' hg' hj
              simp only [intlt]
              by_cases hc : j < b
              · rw [if_pos hc]
                simp (disch := omega) only [wsub1, wadd1, Int.toNat_natCast, Nat.zero_add, need_true, Array.length_toList, List.length_set, compare_eq, Option.bind_some, arr_get, arr_swp, hc, true_and]
                unfold ltT
                by_cases h : cmpT g'[j]! g'[j - 1]! < 0
                · simp [h]
                · simp [h]
              · rw [if_neg hc, if_neg (fun h => hc h.1)]
            · rw [if_neg h3, if_neg (by omega)]
          by_cases h4 : i2 - a ≥ 2
          · rw [if_pos h4, if_pos (by omega)]
            refine outK_ex (shiftDown_loop (i2 - 1) fuel f (by omega) (by omega) ?_) (fun x => ?_)
            · intro j g' hg' hj
              by_cases hc : 1 ≤ j
              · simp only [show ((1 : Int) ≤ (j : Int)) = True from eq_true (by omega), if_true]
                simp (disch := omega) only [wsub1, wadd1, Int.toNat_natCast, Nat.zero_add, need_true, Array.length_toList, List.length_set, compare_eq, Option.bind_some, arr_get, arr_swp, hc, true_and]
                unfold ltT
                by_cases h : cmpT g'[j]! g'[j - 1]! < 0
                · simp [h]
                · simp [h]
              · rw [if_neg (by simp only; omega), if_neg (fun h => hc h.1)]
            · exact up (Sort.shiftDown ltT (i2 - 1) f) (by rw [shiftDown_sz]; omega)
          · rw [if_neg h4, if_neg (by omega)]
            exact up f (by omega)

end Go.Av
