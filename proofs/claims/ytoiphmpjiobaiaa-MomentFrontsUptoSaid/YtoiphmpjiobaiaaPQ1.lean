import Derived.Test.YtoiphmpjiobaiaaPQ0
import Derived.Test.YtoiphmpjiobaiaaK5
namespace Go.Av
open Go
set_option linter.unusedVariables false
set_option linter.unusedSimpArgs false

def ltT (x y : Time) : Bool := decide (cmpT x y < 0)

theorem insInner_loop {a fuel : Nat} {B : Int × List Time → Option (Ctl (Int × List Time) Empty)} {j : Nat} {d : Array Time} (hj : j < d.size) (hf : j < fuel)
    (hB : ∀ (j : Nat) (d' : Array Time), j < d'.size → d'.size = d.size → B ((j : Int), d'.toList) = if a < j ∧ ltT d'[j]! d'[j - 1]! = true then some (.next (((j - 1 : Nat) : Int), (Sort.swp d' j (j - 1)).toList)) else some (.brk ((j : Int), d'.toList))) :
    ∃ x : Int, loopN B fuel ((j : Int), d.toList) = some (.done (x, (Sort.insInner ltT a j d).toList)) := by
  induction j generalizing d fuel with
  | zero =>
    cases fuel with
    | zero => omega
    | succ fuel =>
      refine ⟨0, loopN_brk (s' := (((0 : Nat) : Int), d.toList)) ?_⟩
      rw [hB 0 d hj rfl, if_neg (by omega)]
  | succ j ih =>
    cases fuel with
    | zero => omega
    | succ fuel =>
      have h := hB (j + 1) d hj rfl
      rw [Nat.add_sub_cancel] at h
      unfold Sort.insInner
      by_cases hc : a < j + 1 ∧ ltT d[j + 1]! d[j]! = true
      · rw [if_pos hc] at h
        rw [loopN_next h, if_pos (by simp [hc.1, hc.2])]
        exact ih (by rw [swp_sz]; omega) (by omega) (fun k d' h1 h2 => hB k d' h1 (by rw [h2, swp_sz]))
      · rw [if_neg hc] at h
        rw [loopN_brk h, if_neg (by simpa using hc)]
        exact ⟨_, rfl⟩

theorem insOuter_loop {a b fuel : Nat} {B : Int × List Time → Option (Ctl (Int × List Time) Empty)} {n i : Nat} {d : Array Time} (hn : b - i = n) (hb : b ≤ d.size) (hf : b - i < fuel)
    (hB : ∀ (i : Nat) (d' : Array Time), d'.size = d.size → B ((i : Int), d'.toList) = if i < b then some (.next (((i + 1 : Nat) : Int), (Sort.insInner ltT a i d').toList)) else some (.brk ((i : Int), d'.toList)))
    (hs : ∀ (i : Nat) (d' : Array Time), (Sort.insInner ltT a i d').size = d'.size) :
    ∃ x : Int, loopN B fuel ((i : Int), d.toList) = some (.done (x, (Sort.insOuter ltT a b i d).toList)) := by
  induction n generalizing i d fuel with
  | zero =>
    cases fuel with
    | zero => omega
    | succ fuel =>
      have h := hB i d rfl
      rw [if_neg (by omega)] at h
      rw [loopN_brk h, Sort.insOuter, if_neg (by omega)]
      exact ⟨_, rfl⟩
  | succ n ih =>
    cases fuel with
    | zero => omega
    | succ fuel =>
      have h := hB i d rfl
      rw [if_pos (by omega)] at h
      rw [loopN_next h, Sort.insOuter, if_pos (by omega)]
      exact ih (by omega) (by rw [hs]; omega) (by omega) (fun k d' h1 => hB k d' (by rw [h1, hs]))

theorem insInner_sz (a : Nat) : ∀ (j : Nat) (d : Array Time), (Sort.insInner ltT a j d).size = d.size
  | 0, d => rfl
  | j + 1, d => by
    unfold Sort.insInner
    split
    · rw [insInner_sz a j, swp_sz]
    · rfl

theorem insertion_eq {fuel a b : Nat} {d : Array Time} (hb : b ≤ d.size) (hd : d.size < 4611686018427387904) (ha : a < 4611686018427387903) (hf : d.size < fuel) :
    slices_insertionSortCmpFunc_Time__Compare_w fuel (a : Int) (b : Int) d.toList = some (Sort.insertionSort ltT d a b).toList := by
  unfold slices_insertionSortCmpFunc_Time__Compare_w Sort.insertionSort
  rw [wadd1 (by omega)]
  refine outK_ex (insOuter_loop (a := a) (b := b) (i := a + 1) (d := d) rfl hb (by omega) ?_ (insInner_sz a)) (fun x => rfl)
  intro i d' hd'
  simp only [bf_decide, intlt]
  by_cases hi : i < b
  · rw [if_pos hi, if_pos hi]
    refine outK_ex (insInner_loop (a := a) (j := i) (d := d') (by omega) (by omega) ?_) (fun x => ?_)
    · intro j e hj he
      simp only [jn_eq, bf_decide, intlt]
      by_cases h1 : a < j
      · simp (disch := omega) only [h1, if_true, wsub1, need_true, Int.toNat_natCast, Nat.zero_add, Array.length_toList, List.length_set, compare_eq, Option.bind_some, arr_get, arr_swp, true_and]
        unfold ltT
        by_cases h2 : cmpT e[j]! e[j - 1]! < 0
        · simp [h2]
        · simp [h2]
      · rw [if_neg h1, if_neg (fun h => h1 h.1)]
        rfl
    · rw [wadd1 (by omega)]
  · rw [if_neg hi, if_neg hi]

end Go.Av
