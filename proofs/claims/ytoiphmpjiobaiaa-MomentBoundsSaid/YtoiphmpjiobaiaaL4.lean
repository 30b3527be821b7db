import Derived.Test.YtoiphmpjiobaiaaAvV
import Derived.Test.YtoiphmpjiobaiaaG4
namespace Go.Av
set_option linter.unusedVariables false
set_option linter.unusedSimpArgs false

def nnTime (t : Time) : Prop := 0 ≤ t.epoch ∧ 0 ≤ t.loop.1 ∧ 0 ≤ t.loop.2
def lub2 (a x : Time) : Time := ⟨if a.epoch < x.epoch then x.epoch else a.epoch, (if a.loop.1 < x.loop.1 then x.loop.1 else a.loop.1, if a.loop.2 < x.loop.2 then x.loop.2 else a.loop.2)⟩
def glb2 (a x : Time) : Time := ⟨if x.epoch < a.epoch then x.epoch else a.epoch, (if x.loop.1 < a.loop.1 then x.loop.1 else a.loop.1, if x.loop.2 < a.loop.2 then x.loop.2 else a.loop.2)⟩
def zeroT : Time := ⟨0, (0, 0)⟩
def lubL (l : List Time) : Time := l.foldl lub2 zeroT
def glbL : List Time → Time
  | [] => zeroT
  | x :: l => l.foldl glb2 x

theorem Time.ext' {a b : Time} (h1 : a.epoch = b.epoch) (h2 : a.loop.1 = b.loop.1) (h3 : a.loop.2 = b.loop.2) : a = b := by
  rcases a with ⟨e, l1, l2⟩; rcases b with ⟨e', l1', l2'⟩; simp at h1 h2 h3; simp [h1, h2, h3]

theorem eqTime_self (a : Time) : eqTime a a = true := by simp [eqTime]

theorem refLub_eq (l : List Time) : freshetref04_Lub l = some (lubL l) := by
  unfold freshetref04_Lub
  rw [rangeN_foldl lub2]
  · rfl
  · intro i a hi
    generalize l.getD i default = x
    by_cases h1 : a.epoch < x.epoch <;> by_cases h2 : a.loop.1 < x.loop.1 <;> by_cases h3 : a.loop.2 < x.loop.2 <;> simp [rangeN, lub2, outK, h1, h2, h3]

theorem max0 {a : Int} (h : 0 ≤ a) : a = if 0 < a then a else 0 := by
  by_cases h1 : 0 < a
  · rw [if_pos h1]
  · rw [if_neg h1]; omega

theorem foldGreatest_eq {l : List Time} (hl : ∀ x ∈ l, nnTime x) : moment_fold__greatest l = some (lubL l) := by
  unfold moment_fold__greatest
  rw [rangeN_to (lubL l) (fun i a => a = lubL (l.take i)) (fun s h => by rw [h, List.take_length])]
  · rfl
  · intro i a hi ha
    refine ⟨_, ?_, rfl⟩
    rw [take_succ_getD hi]
    have hx := hl _ (getD_mem' hi)
    generalize l.getD i default = x at *
    simp only [lubL, List.foldl_append, List.foldl_cons, List.foldl_nil]
    rw [← lubL, ← ha]
    simp only [jn_eq, rangeN, moment_greatest, Option.bind_some, bf_decide]
    rcases Nat.eq_zero_or_pos i with h0 | h0
    · subst h0
      simp [lubL] at ha
      subst ha
      obtain ⟨x1, x2, x3⟩ := hx
      simp [outK, lub2, zeroT]
      exact ⟨max0 x1, max0 x2, max0 x3⟩
    · rw [if_neg (by omega)]
      simp [outK, lub2]
  · rfl

theorem glbL_append {l : List Time} (h : l ≠ []) (x : Time) : glbL (l ++ [x]) = glb2 (glbL l) x := by
  cases l with
  | nil => exact absurd rfl h
  | cons y l => simp [glbL, List.foldl_append]

theorem glb2_self (x : Time) : glb2 x x = x := by simp [glb2]

theorem foldLeast_eq (l : List Time) : moment_fold__least l = some (glbL l) := by
  unfold moment_fold__least
  rw [rangeN_to (glbL l) (fun i a => a = glbL (l.take i)) (fun s h => by rw [h, List.take_length])]
  · rfl
  · intro i a hi ha
    refine ⟨_, ?_, rfl⟩
    rw [take_succ_getD hi]
    simp only [jn_eq, rangeN, moment_least, Option.bind_some, bf_decide]
    rcases Nat.eq_zero_or_pos i with h0 | h0
    · subst h0
      generalize l.getD 0 default = x at *
      simp [outK, glbL]
    · rw [if_neg (by omega), glbL_append (by intro h; have h2 := congrArg List.length h; rw [List.length_take] at h2; simp only [List.length_nil] at h2; omega), ← ha]
      generalize l.getD i default = x at *
      simp [outK, glb2]
  · rfl

theorem refGlb_eq (l : List Time) : freshetref04_Glb l = some (glbL l) := by
  unfold freshetref04_Glb
  simp only [bf_decide]
  split
  · rename_i h
    obtain rfl : l = [] := List.eq_nil_of_length_eq_zero (by omega)
    rfl
  · rename_i h
    have hl : 0 < l.length := by omega
    rw [need_true ⟨Int.le_refl _, by omega⟩]
    rw [rangeN_to (glbL l) (fun i a => a = if i = 0 then l.getD 0 default else glbL (l.take i)) (fun s h => by rw [h, List.take_length, if_neg (by omega)])]
    · rfl
    · intro i a hi ha
      refine ⟨_, ?_, rfl⟩
      rw [take_succ_getD hi, if_neg (by omega)]
      rcases Nat.eq_zero_or_pos i with h0 | h0
      · subst h0
        rw [if_pos rfl] at ha
        subst ha
        simp [jn_eq, rangeN, outK, glbL]
      · rw [if_neg (by omega)] at ha
        rw [glbL_append (by intro h; have h2 := congrArg List.length h; rw [List.length_take] at h2; simp only [List.length_nil] at h2; omega), ← ha]
        generalize l.getD i default = x at *
        by_cases h1 : x.epoch < a.epoch <;> by_cases h2 : x.loop.1 < a.loop.1 <;> by_cases h3 : x.loop.2 < a.loop.2 <;> simp [rangeN, glb2, outK, h1, h2, h3]
    · rfl

theorem bounds_eq : freshetlaw04_bounds = some true := by rfl

theorem MomentBounds_true {l : List Time} (hl : ∀ x ∈ l, nnTime x) : freshetlaw04_MomentBounds l = some true := by
  unfold freshetlaw04_MomentBounds moment_Lub moment_Glb
  simp [bounds_eq, foldGreatest_eq hl, foldLeast_eq, refLub_eq, refGlb_eq, eqTime_self, bf]

end Go.Av
