import Derived.Test.YtoiphmpjiobaiaaPQ6
namespace Go.Av
open Go
set_option linter.unusedVariables false
set_option linter.unusedSimpArgs false


abbrev PdqS := Int × Int × Int × Bool × Bool × (List Time)

def pK12 (fuel : Nat) (a b : Int) (lim len : Int) (pivot : Int) (wb wp : Bool) (l : List Time) (x : Bool) : Option (Ctl PdqS (List Time)) :=
  bf x ((slices_partitionEqualCmpFunc_Time__Compare_w fuel a b pivot l).bind fun r14 => need (r14.2.length = l.length) <| some (.next (r14.1, b, lim, wb, wp, r14.2)))
    ((slices_partitionCmpFunc_Time__Compare_w fuel a b pivot l).bind fun r16 => need (r16.2.2.length = l.length) <| bf (decide ((IntKind.i64.wrap (r16.1 - a)) < (IntKind.i64.wrap (b - r16.1))))
      ((slices_pdqsortCmpFunc_Time__Compare_w fuel a r16.1 lim r16.2.2).bind fun r18 => need (r18.length = r16.2.2.length) <| some (.next ((IntKind.i64.wrap (r16.1 + 1)), b, lim, (decide ((IntKind.i64.wrap (len.tdiv 8)) ≤ (IntKind.i64.wrap (r16.1 - a)))), r16.2.1, r18)))
      ((slices_pdqsortCmpFunc_Time__Compare_w fuel (IntKind.i64.wrap (r16.1 + 1)) b lim r16.2.2).bind fun r20 => need (r20.length = r16.2.2.length) <| some (.next (a, r16.1, lim, (decide ((IntKind.i64.wrap (len.tdiv 8)) ≤ (IntKind.i64.wrap (b - r16.1)))), r16.2.1, r20))))

def pK10 (fuel : Nat) (a b : Int) (lim len : Int) (pivot : Int) (wb wp : Bool) (l : List Time) : Option (Ctl PdqS (List Time)) :=
  jn (fun (a12 : Bool) => pK12 fuel a b lim len pivot wb wp l a12) fun j13 => bf (decide (0 < a)) (need ((0 : Int) ≤ (IntKind.i64.wrap (a - 1)) ∧ (IntKind.i64.wrap (a - 1)) < (l.length : Int)) <| need ((0 + (IntKind.i64.wrap (a - 1)).toNat) < l.length) <| need ((0 : Int) ≤ pivot ∧ pivot < (l.length : Int)) <| need ((0 + pivot.toNat) < l.length) <| (moment_Compare (l.getD (0 + (IntKind.i64.wrap (a - 1)).toNat) default) (l.getD (0 + pivot.toNat) default)).bind fun r27 => j13 (!(decide (r27 < 0)))) (j13 false)

def pK8 (fuel : Nat) (a b : Int) (lim len : Int) (wb wp : Bool) (pivot hint : Int) (l : List Time) : Option (Ctl PdqS (List Time)) :=
  jn (fun (a10 : Bool × Bool × (List Time)) => pK10 fuel a b lim len pivot a10.1 a10.2.1 a10.2.2) fun j11 => jn (fun (a28 : Bool × Bool × Bool) => bf a28.2.2 ((slices_partialInsertionSortCmpFunc_Time__Compare_w fuel a b l).bind fun r30 => need (r30.2.length = l.length) <| bf r30.1 (some (.ret r30.2)) (j11 (a28.1, a28.2.1, r30.2))) (j11 (a28.1, a28.2.1, l))) fun j29 => bf wb (bf wp (j29 (true, true, (decide (hint = 1)))) (j29 (true, false, false))) (j29 (false, wp, false))

def pK5 (fuel : Nat) (a b : Int) (wb wp : Bool) (lim len : Int) (l : List Time) : Option (Ctl PdqS (List Time)) :=
  (slices_choosePivotCmpFunc_Time__Compare l a b).bind fun r7 => jn (fun (a8 : Int × Int × (List Time)) => pK8 fuel a b lim len wb wp a8.1 a8.2.1 a8.2.2) fun j9 => bf (decide (r7.2 = 2)) ((slices_reverseRangeCmpFunc_Time__Compare_w fuel a b l).bind fun r32 => need (r32.length = l.length) <| j9 ((IntKind.i64.wrap ((IntKind.i64.wrap (b - 1)) - (IntKind.i64.wrap (r7.1 - a)))), 1, r32)) (j9 (r7.1, r7.2, l))

def pBody (fuel : Nat) (a1 : PdqS) : Option (Ctl PdqS (List Time)) :=
  bf (decide ((IntKind.i64.wrap (a1.2.1 - a1.1)) ≤ 12)) ((slices_insertionSortCmpFunc_Time__Compare_w fuel a1.1 a1.2.1 a1.2.2.2.2.2).bind fun r3 => some (.ret r3)) (bf (decide (a1.2.2.1 = 0)) ((slices_heapSortCmpFunc_Time__Compare_w fuel a1.1 a1.2.1 a1.2.2.2.2.2).bind fun r4 => some (.ret r4))
    (jn (fun (a5 : Int × Int × (List Time)) => pK5 fuel a1.1 a1.2.1 a1.2.2.2.1 a1.2.2.2.2.1 a5.1 a5.2.1 a5.2.2) fun j6 => bf (!a1.2.2.2.1) ((slices_breakPatternsCmpFunc_Time__Compare_w fuel a1.1 a1.2.1 a1.2.2.2.2.2).bind fun r34 => need (r34.length = a1.2.2.2.2.2.length) <| j6 ((IntKind.i64.wrap (a1.2.2.1 - 1)), (IntKind.i64.wrap (a1.2.1 - a1.1)), r34)) (j6 (a1.2.2.1, (IntKind.i64.wrap (a1.2.1 - a1.1)), a1.2.2.2.2.2))))

theorem pdq_gen (fuel : Nat) (a b lim : Int) (l : List Time) : slices_pdqsortCmpFunc_Time__Compare_w (fuel + 1) a b lim l = outK (loopN (pBody fuel) fuel (a, b, lim, true, true, l)) (fun _ => none) (fun x => some x) := rfl


def qD (a b lim : Nat) (wb wp : Bool) (pivot : Nat) (d : Array Time) : Array Time :=
  if a > 0 && !ltT d[a - 1]! d[pivot]! then
    match Sort.partitionEqual ltT d a b pivot with
    | (mid, d4) => if _h : a < mid ∧ mid ≤ b then Sort.pdq ltT d4 mid b lim wb wp else d4
  else
    match Sort.partition ltT d a b pivot with
    | (mid, alreadyPartitioned, d4) =>
      if _h : a ≤ mid ∧ mid < b then
        if mid - a < b - mid then
          Sort.pdq ltT (Sort.pdq ltT d4 a mid lim true true) (mid + 1) b lim (decide (mid - a ≥ (b - a) / 8)) alreadyPartitioned
        else
          Sort.pdq ltT (Sort.pdq ltT d4 (mid + 1) b lim true true) a mid lim (decide (b - mid ≥ (b - a) / 8)) alreadyPartitioned
      else d4
def qC (a b lim : Nat) (wb wp : Bool) (pivot : Nat) (hint : Sort.Hint) (d : Array Time) : Array Time :=
  let pi := if wb && wp && hint = .increasing then Sort.partialInsertionSort ltT d a b else (d, false)
  if pi.2 then pi.1 else qD a b lim wb wp pivot pi.1
def qB (a b lim : Nat) (wb wp : Bool) (d : Array Time) : Array Time :=
  let c := Sort.choosePivot ltT d a b
  if c.2 = .decreasing then qC a b lim wb wp ((b - 1) - (c.1 - a)) .increasing (Sort.reverseRange d a b) else qC a b lim wb wp c.1 c.2 d

theorem pdq_unf (d : Array Time) (a b lim : Nat) (wb wp : Bool) : Sort.pdq ltT d a b lim wb wp =
    if b - a ≤ 12 then Sort.insertionSort ltT d a b else if lim = 0 then Sort.heapSort ltT d a b else
      (if wb then qB a b lim wb wp d else qB a b (lim - 1) wb wp (Sort.breakPatterns d a b)) := by
  rw [Sort.pdq]
  by_cases h1 : b - a ≤ 12
  · rw [if_pos h1, if_pos h1]
  · rw [if_neg h1, if_neg h1]
    by_cases h2 : lim = 0
    · rw [if_pos h2, if_pos h2]
    · rw [if_neg h2, if_neg h2]
      cases wb
      · simp only [Bool.not_false, if_true]
        unfold qB
        dsimp only
        by_cases h3 : (Sort.choosePivot ltT (Sort.breakPatterns d a b) a b).2 = .decreasing
        · simp only [if_pos h3]; rfl
        · simp only [if_neg h3]; rfl
      · simp only [Bool.not_true, Bool.false_eq_true, if_false, if_true]
        unfold qB
        dsimp only
        by_cases h3 : (Sort.choosePivot ltT d a b).2 = .decreasing
        · simp only [if_pos h3]; rfl
        · simp only [if_neg h3]; rfl

theorem scanDown_ge {α : Type} [Inhabited α] (p : α → Bool) (d : Array α) (i : Nat) : ∀ (j : Nat), i ≤ j + 1 → i ≤ Sort.scanDown p d i j + 1
  | 0, h => h
  | j + 1, h => by
    unfold Sort.scanDown
    split
    · rename_i hc
      have : i ≤ j + 1 := by simp at hc; exact hc.1
      exact scanDown_ge p d i j this
    · exact h

theorem scanUp_stop {α : Type} [Inhabited α] (p : α → Bool) (d : Array α) (j : Nat) : ∀ (n i : Nat), j + 1 - i ≤ n → Sort.scanUp p d j i ≤ j → p d[Sort.scanUp p d j i]! = false := by
  intro n
  induction n with
  | zero =>
    intro i hn h
    rw [Sort.scanUp] at h ⊢
    split at h
    · rename_i hc; simp at hc; omega
    · omega
  | succ n ih =>
    intro i hn h
    rw [Sort.scanUp] at h ⊢
    split at h
    · rename_i hc
      rw [if_pos hc]
      exact ih (i + 1) (by omega) h
    · rename_i hc
      rw [if_neg hc]
      simp at hc
      exact hc h

theorem scanDown_stop {α : Type} [Inhabited α] (p : α → Bool) (d : Array α) (i : Nat) : ∀ (j : Nat), i ≤ Sort.scanDown p d i j → 1 ≤ i → p d[Sort.scanDown p d i j]! = false
  | 0, h, h1 => by have : Sort.scanDown p d i 0 = 0 := rfl; omega
  | j + 1, h, h1 => by
    unfold Sort.scanDown at h ⊢
    split at h
    · rename_i hc
      rw [if_pos hc]
      exact scanDown_stop p d i j h h1
    · rename_i hc
      rw [if_neg hc]
      simp at hc
      exact hc h

theorem scan_ne {α : Type} [Inhabited α] (p q : α → Bool) (hq : ∀ x, q x = !p x) (d : Array α) (i j : Nat) : 1 ≤ i → Sort.scanUp p d j i ≠ Sort.scanDown q d (Sort.scanUp p d j i) j := fun hi e => by
  have u := scanUp_le p d j _ i (Nat.le_refl _)
  have v := scanDown_le' q d (Sort.scanUp p d j i) j
  have h1 := scanUp_stop p d j _ i (Nat.le_refl _) (by omega)
  have h2 := scanDown_stop q d (Sort.scanUp p d j i) j (by omega) (by omega)
  rw [← e, hq, h1] at h2
  cases h2

theorem partEqLoop_fact {a : Nat} : ∀ (n i j : Nat) (d : Array Time), j + 1 - i ≤ n → 1 ≤ i → i ≤ j + 1 → j < d.size → i ≤ (Sort.partEqLoop ltT a i j d).1 ∧ (Sort.partEqLoop ltT a i j d).1 ≤ j + 1 ∧ (Sort.partEqLoop ltT a i j d).2.size = d.size := by
  intro n
  induction n with
  | zero =>
    intro i j d hn hi hi2 hj
    have u := (scanUp_le (fun x => !ltT d[a]! x) d j _ i (Nat.le_refl _))
    have v := scanDown_le' (fun x => ltT d[a]! x) d (Sort.scanUp (fun x => !ltT d[a]! x) d j i) j
    rw [partEqLoop_unf, if_pos (by omega)]
    exact ⟨u.2, by show Sort.scanUp _ _ _ _ ≤ _; omega, rfl⟩
  | succ n ih =>
    intro i j d hn hi hi2 hj
    have u := (scanUp_le (fun x => !ltT d[a]! x) d j _ i (Nat.le_refl _))
    have v := scanDown_le' (fun x => ltT d[a]! x) d (Sort.scanUp (fun x => !ltT d[a]! x) d j i) j
    have w := scanDown_ge (fun x => ltT d[a]! x) d (Sort.scanUp (fun x => !ltT d[a]! x) d j i) j
    have hno := scan_ne (fun x => !ltT d[a]! x) (fun x => ltT d[a]! x) (fun x => by simp) d i j
    rw [partEqLoop_unf]
    generalize Sort.scanUp (fun x => !ltT d[a]! x) d j i = i2 at *
    generalize Sort.scanDown (fun x => ltT d[a]! x) d i2 j = j2 at *
    by_cases hc : i2 > j2
    · rw [if_pos hc]
      exact ⟨u.2, by show i2 ≤ _; omega, rfl⟩
    · rw [if_neg hc]
      have := ih (i2 + 1) (j2 - 1) (Sort.swp d i2 j2) (by omega) (by omega) (by omega) (by rw [swp_sz]; omega)
      rw [swp_sz] at this
      omega

end Go.Av
