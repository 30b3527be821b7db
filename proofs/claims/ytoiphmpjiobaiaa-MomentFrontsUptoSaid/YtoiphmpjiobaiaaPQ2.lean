import Derived.Test.YtoiphmpjiobaiaaPQ1
namespace Go.Av
open Go
set_option linter.unusedVariables false
set_option linter.unusedSimpArgs false


theorem siftDown_sz (hi first : Nat) : ∀ (n root : Nat) (d : Array Time), hi - root ≤ n → (Sort.siftDown ltT hi first root d).size = d.size := by
  intro n
  induction n with
  | zero =>
    intro root d hn
    rw [Sort.siftDown, dif_pos (by omega)]
  | succ n ih =>
    intro root d hn
    rw [Sort.siftDown]
    split
    · rfl
    · split
      · split
        · rfl
        · split
          · rw [ih _ _ (by omega), swp_sz]
          · rfl
      · split
        · rfl
        · rw [ih _ _ (by omega), swp_sz]

def siftStep (hi first root : Nat) (d : Array Time) : Option Nat :=
  if 2 * root + 1 ≥ hi then none else
    let c := if 2 * root + 1 + 1 < hi ∧ ltT d[first + (2 * root + 1)]! d[first + (2 * root + 1) + 1]! = true then 2 * root + 2 else 2 * root + 1
    if ltT d[first + root]! d[first + c]! = true then some c else none

theorem siftDown_step (hi first root : Nat) (d : Array Time) : Sort.siftDown ltT hi first root d = match siftStep hi first root d with
    | some c => Sort.siftDown ltT hi first c (Sort.swp d (first + root) (first + c))
    | none => d := by
  rw [Sort.siftDown]
  unfold siftStep
  by_cases h1 : 2 * root + 1 ≥ hi
  · rw [dif_pos h1, if_pos h1]
  · rw [dif_neg h1, if_neg h1]
    by_cases h2 : 2 * root + 1 + 1 < hi ∧ ltT d[first + (2 * root + 1)]! d[first + (2 * root + 1) + 1]! = true
    · rw [if_pos (by simpa using h2)]
      simp only [if_pos h2]
      by_cases h3 : ltT d[first + root]! d[first + (2 * root + 2)]! = true
      · rw [if_neg (by simp [h3]), dif_pos (by omega)]
        simp only [h3, if_true]
      · rw [if_pos (by simpa using h3)]
        simp only [if_neg h3]
    · rw [if_neg (by simpa using h2)]
      simp only [if_neg h2]
      by_cases h3 : ltT d[first + root]! d[first + (2 * root + 1)]! = true
      · rw [if_neg (by simp [h3])]
        simp only [h3, if_true]
      · rw [if_pos (by simpa using h3)]
        simp only [if_neg h3]

theorem siftStep_gt {hi first root c : Nat} {d : Array Time} (h : siftStep hi first root d = some c) : root < c ∧ c < hi := by
  unfold siftStep at h
  split at h
  · cases h
  · dsimp only at h
    generalize hc : (if 2 * root + 1 + 1 < hi ∧ ltT d[first + (2 * root + 1)]! d[first + (2 * root + 1) + 1]! = true then 2 * root + 2 else 2 * root + 1) = k at h
    have hk : root < k ∧ k < hi := by
      split at hc <;> omega
    split at h
    · cases h; exact hk
    · cases h

theorem sift_loop {hi first fuel : Nat} {B : Int × List Time → Option (Ctl (Int × List Time) (List Time))} {Q : Type} {kn : Int × List Time → Option Q} {kr : List Time → Option Q} {q : Option Q} {n root : Nat} {d : Array Time}
    (hn : hi - root ≤ n) (hf : n < fuel) (hsz : first + hi ≤ d.size)
    (hB : ∀ (root : Nat) (d' : Array Time), d'.size = d.size → root ≤ 1152921504606846976 → B ((root : Int), d'.toList) = if 2 * root + 1 ≥ hi then some (.brk ((root : Int), d'.toList)) else match siftStep hi first root d' with
      | some c => some (.next ((c : Int), (Sort.swp d' (first + root) (first + c)).toList))
      | none => some (.ret d'.toList))
    (hr : root ≤ 1152921504606846976) (hd : d.size ≤ 1152921504606846976) (hkn : ∀ x, kn (x, (Sort.siftDown ltT hi first root d).toList) = q) (hkr : kr (Sort.siftDown ltT hi first root d).toList = q) :
    outK (loopN B fuel ((root : Int), d.toList)) kn kr = q := by
  induction n generalizing root d fuel with
  | zero =>
    cases fuel with
    | zero => omega
    | succ fuel =>
      have h := hB root d rfl hr
      have hs := siftDown_step hi first root d
      have e : siftStep hi first root d = none := by unfold siftStep; rw [if_pos (by omega)]
      rw [e] at hs
      simp only at hs
      rw [hs] at hkn hkr
      rw [if_pos (by omega)] at h
      rw [loopN_brk h]; exact hkn _
  | succ n ih =>
    cases fuel with
    | zero => omega
    | succ fuel =>
      have h := hB root d rfl hr
      have hs := siftDown_step hi first root d
      cases e : siftStep hi first root d with
      | none =>
        rw [e] at h hs
        simp only at h hs
        rw [hs] at hkn hkr
        split at h
        · rw [loopN_brk h]; exact hkn _
        · rw [loopN_ret h]; exact hkr
      | some c =>
        have hc := siftStep_gt e
        have hlt : ¬ 2 * root + 1 ≥ hi := fun hh => by unfold siftStep at e; rw [if_pos hh] at e; cases e
        rw [e] at h hs
        rw [if_neg hlt] at h
        simp only at h hs
        rw [hs] at hkn hkr
        rw [loopN_next h]
        exact ih (by omega) (by omega) (by rw [swp_sz]; omega) (fun r d' h1 h2 => hB r d' (by rw [h1, swp_sz]) h2) (by omega) (by rw [swp_sz]; omega) hkn hkr

theorem siftDown_eq {fuel lo hi first : Nat} {d : Array Time} (hsz : first + hi ≤ d.size) (hd : d.size < 1152921504606846976) (hlo : lo < 1152921504606846976) (hf : d.size < fuel) :
    slices_siftDownCmpFunc_Time__Compare_w fuel (lo : Int) (hi : Int) (first : Int) d.toList = some (Sort.siftDown ltT hi first lo d).toList := by
  unfold slices_siftDownCmpFunc_Time__Compare_w
  refine sift_loop (hi := hi) (first := first) (n := hi) (by omega) (by omega) hsz ?_ (by omega) (by omega) (fun x => rfl) rfl
  intro root e he hroot
  have hw1 : IntKind.i64.wrap (IntKind.i64.wrap ((2 : Int) * (root : Int)) + 1) = ((2 * root + 1 : Nat) : Int) := by rw [wtwo (by omega), wadd1 (by omega)]
  simp only [hw1, bf_decide, jn_eq]
  by_cases h1 : 2 * root + 1 ≥ hi
  · rw [if_pos h1, if_pos (by omega)]
  · rw [if_neg h1, if_neg (by omega)]
    unfold siftStep
    rw [if_neg h1]
    have hw2 : IntKind.i64.wrap (((2 * root + 1 : Nat) : Int) + 1) = ((2 * root + 1 + 1 : Nat) : Int) := wadd1 (by omega)
    have hw3 : IntKind.i64.wrap ((first : Int) + ((2 * root + 1 : Nat) : Int)) = ((first + (2 * root + 1) : Nat) : Int) := wadd (by omega)
    have hw4 : IntKind.i64.wrap (((first + (2 * root + 1) : Nat) : Int) + 1) = ((first + (2 * root + 1) + 1 : Nat) : Int) := wadd1 (by omega)
    have hw5 : IntKind.i64.wrap ((first : Int) + (root : Int)) = ((first + root : Nat) : Int) := wadd (by omega)
    have hw6 : IntKind.i64.wrap ((first : Int) + ((2 * root + 1 + 1 : Nat) : Int)) = ((first + (2 * root + 2) : Nat) : Int) := by rw [wadd (by omega)]
    simp only [hw2, hw3, hw4, hw5, hw6, intlt, Int.toNat_natCast, Nat.zero_add]
    by_cases h2 : 2 * root + 1 + 1 < hi
    · rw [if_pos h2]
      simp (disch := omega) only [need_true, Array.length_toList, compare_eq, Option.bind_some, arr_get]
      by_cases h3 : cmpT e[first + (2 * root + 1)]! e[first + (2 * root + 1) + 1]! < 0
      · have h4 : 2 * root + 1 + 1 < hi ∧ ltT e[first + (2 * root + 1)]! e[first + (2 * root + 1) + 1]! = true := ⟨h2, by unfold ltT; simp [h3]⟩
        simp (disch := omega) only [h3, if_true, if_pos h4, hw6, Int.toNat_natCast, Nat.zero_add, need_true, Array.length_toList, List.length_set, compare_eq, Option.bind_some, arr_get, arr_swp]
        unfold ltT
        by_cases h : cmpT e[first + root]! e[first + (2 * root + 2)]! < 0
        · simp [h]; omega
        · simp [h]
      · have h4 : ¬ (2 * root + 1 + 1 < hi ∧ ltT e[first + (2 * root + 1)]! e[first + (2 * root + 1) + 1]! = true) := fun h => h3 (by have := h.2; unfold ltT at this; simpa using this)
        simp (disch := omega) only [h3, if_false, if_neg h4, hw3, Int.toNat_natCast, Nat.zero_add, need_true, Array.length_toList, List.length_set, compare_eq, Option.bind_some, arr_get, arr_swp]
        unfold ltT
        by_cases h : cmpT e[first + root]! e[first + (2 * root + 1)]! < 0
        · simp [h]
        · simp [h]
    · rw [if_neg h2]
      have h4 : ¬ (2 * root + 1 + 1 < hi ∧ ltT e[first + (2 * root + 1)]! e[first + (2 * root + 1) + 1]! = true) := fun h => h2 h.1
      simp (disch := omega) only [bf_false, if_neg h4, hw3, Int.toNat_natCast, Nat.zero_add, need_true, Array.length_toList, List.length_set, compare_eq, Option.bind_some, arr_get, arr_swp]
      unfold ltT
      by_cases h : cmpT e[first + root]! e[first + (2 * root + 1)]! < 0
      · simp [h]
      · simp [h]

end Go.Av
