import Derived.Test.YtoiphmpjiobaiaaAvV
import Derived.Test.YtoiphmpjiobaiaaG4
namespace Go.Av
set_option linter.unusedVariables false
set_option linter.unusedSimpArgs false

def nnTime (t : Time) : Prop := 0 ≤ t.epoch ∧ 0 ≤ t.loop.1 ∧ 0 ≤ t.loop.2
def lub2 (a x : Time) : Time := ⟨if a.epoch < x.epoch then x.epoch else a.epoch, (if a.loop.1 < x.loop.1 then x.loop.1 else a.loop.1, if a.loop.2 < x.loop.2 then x.loop.2 else a.loop.2)⟩
def glb2 (a x : Time) : Time := ⟨if x.epoch < a.epoch then x.epoch else a.epoch, (if x.loop.1 < a.loop.1 then x.loop.1 else a.loop.1, if x.loop.2 < a.loop.2 then x.loop.2 else a.loop.2)⟩
def zeroT : Time := ⟨0, (0, 0)⟩
def lubL (l : List Time) : Time := l.foldl lub2 zeroT
def glbL : List Time → Time
  | [] => zeroT
  | x :: l => l.foldl glb2 x

theorem Time.ext' {a b : Time} (h1 : a.epoch = b.epoch) (h2 : a.loop.1 = b.loop.1) (h3 : a.loop.2 = b.loop.2) : a = b := by
  rcases a with ⟨e, l1, l2⟩; rcases b with ⟨e', l1', l2'⟩; simp at h1 h2 h3; simp [h1, h2, h3]

theorem eqTime_self (a : Time) : eqTime a a = true := by simp [eqTime]

theorem refLub_eq (l : List Time) : freshetref04_Lub l = some (lubL l) := by
  unfold freshetref04_Lub
  rw [rangeN_foldl lub2]
  · rfl
  · intro i a hi
    generalize l.getD i default = x
    by_cases h1 : a.epoch < x.epoch <;> by_cases h2 : a.loop.1 < x.loop.1 <;> by_cases h3 : a.loop.2 < x.loop.2 <;> simp [rangeN, lub2, outK, h1, h2, h3]

theorem max0 {a : Int} (h : 0 ≤ a) : a = if 0 < a then a else 0 := by
  by_cases h1 : 0 < a
  · rw [if_pos h1]
  · rw [if_neg h1]; omega

theorem foldGreatest_eq {l : List Time} (hl : ∀ x ∈ l, nnTime x) : moment_fold__greatest l = some (lubL l) := by
  unfold moment_fold__greatest
  rw [rangeN_to (lubL l) (fun i a => a = lubL (l.take i)) (fun s h => by rw [h, List.take_length])]
  · rfl
  · intro i a hi ha
    refine ⟨_, ?_, rfl⟩
    rw [take_succ_getD hi]
    have hx := hl _ (getD_mem' hi)
    generalize l.getD i default = x at *
    simp only [lubL, List.foldl_append, List.foldl_cons, List.foldl_nil]
    rw [← lubL, ← ha]
    simp only [jn_eq, rangeN, moment_greatest, Option.bind_some, bf_decide]
    rcases Nat.eq_zero_or_pos i with h0 | h0
    · subst h0
      simp [lubL] at ha
      subst ha
      obtain ⟨x1, x2, x3⟩ := hx
      simp [outK, lub2, zeroT]
      exact ⟨max0 x1, max0 x2, max0 x3⟩
    · rw [if_neg (by omega)]
      simp [outK, lub2]
  · rfl

theorem glbL_append {l : List Time} (h : l ≠ []) (x : Time) : glbL (l ++ [x]) = glb2 (glbL l) x := by
  cases l with
  | nil => exact absurd rfl h
  | cons y l => simp [glbL, List.foldl_append]

theorem glb2_self (x : Time) : glb2 x x = x := by simp [glb2]

theorem foldLeast_eq (l : List Time) : moment_fold__least l = some (glbL l) := by
  unfold moment_fold__least
  rw [rangeN_to (glbL l) (fun i a => a = glbL (l.take i)) (fun s h => by rw [h, List.take_length])]
  · rfl
  · intro i a hi ha
    refine ⟨_, ?_, rfl⟩
    rw [take_succ_getD hi]
    simp only [jn_eq, rangeN, moment_least, Option.bind_some, bf_decide]
    rcases Nat.eq_zero_or_pos i with h0 | h0
    · subst h0
      generalize l.getD 0 default = x at *
      simp [outK, glbL]
    · rw [if_neg (by omega), glbL_append (by intro h; have h2 := congrArg List.length h; rw [List.length_take] at h2; simp only [List.length_nil] at h2; omega), ← ha]
      generalize l.getD i default = x at *
      simp [outK, glb2]
  · rfl

theorem refGlb_eq (l : List Time) : freshetref04_Glb l = some (glbL l) := by
  unfold freshetref04_Glb
  simp only [bf_decide]
  split
  · rename_i h
    obtain rfl : l = [] := List.eq_nil_of_length_eq_zero (by omega)
    rfl
  · rename_i h
    have hl : 0 < l.length := by omega
    rw [need_true ⟨Int.le_refl _, by omega⟩]
    rw [rangeN_to (glbL l) (fun i a => a = if i = 0 then l.getD 0 default else glbL (l.take i)) (fun s h => by rw [h, List.take_length, if_neg (by omega)])]
    · rfl
    · intro i a hi ha
      refine ⟨_, ?_, rfl⟩
      rw [take_succ_getD hi, if_neg (by omega)]
      rcases Nat.eq_zero_or_pos i with h0 | h0
      · subst h0
        rw [if_pos rfl] at ha
        subst ha
        simp [jn_eq, rangeN, outK, glbL]
      · rw [if_neg (by omega)] at ha
        rw [glbL_append (by intro h; have h2 := congrArg List.length h; rw [List.length_take] at h2; simp only [List.length_nil] at h2; omega), ← ha]
        generalize l.getD i default = x at *
        by_cases h1 : x.epoch < a.epoch <;> by_cases h2 : x.loop.1 < a.loop.1 <;> by_cases h3 : x.loop.2 < a.loop.2 <;> simp [rangeN, glb2, outK, h1, h2, h3]
    · rfl

theorem mx_eq (a b : Int) : (if a < b then b else a) = max a b := by split <;> omega
theorem mn_eq (a b : Int) : (if b < a then b else a) = min a b := by split <;> omega
theorem lub2_assoc (a b c : Time) : lub2 (lub2 a b) c = lub2 a (lub2 b c) := by
  simp only [lub2, mx_eq]
  refine Time.ext' ?_ ?_ ?_ <;> simp only <;> omega
theorem glb2_assoc (a b c : Time) : glb2 (glb2 a b) c = glb2 a (glb2 b c) := by
  simp only [glb2, mn_eq]
  refine Time.ext' ?_ ?_ ?_ <;> simp only <;> omega
theorem foldl_lub2 (l : List Time) : ∀ a b, l.foldl lub2 (lub2 a b) = lub2 a (l.foldl lub2 b) := by
  induction l with
  | nil => intro a b; rfl
  | cons x l ih => intro a b; simp only [List.foldl_cons, lub2_assoc, ih]
theorem foldl_glb2 (l : List Time) : ∀ a b, l.foldl glb2 (glb2 a b) = glb2 a (l.foldl glb2 b) := by
  induction l with
  | nil => intro a b; rfl
  | cons x l ih => intro a b; simp only [List.foldl_cons, glb2_assoc, ih]
theorem zero_lub2 {x : Time} (h : nnTime x) : lub2 zeroT x = x := by
  obtain ⟨h1, h2, h3⟩ := h
  simp only [lub2, mx_eq, zeroT]
  refine Time.ext' ?_ ?_ ?_ <;> simp only <;> omega
theorem lub2_zero {x : Time} (h : nnTime x) : lub2 x zeroT = x := by
  obtain ⟨h1, h2, h3⟩ := h
  simp only [lub2, mx_eq, zeroT]
  refine Time.ext' ?_ ?_ ?_ <;> simp only <;> omega
theorem lub2_nn {a b : Time} (ha : nnTime a) (hb : nnTime b) : nnTime (lub2 a b) := by
  obtain ⟨h1, h2, h3⟩ := ha
  obtain ⟨g1, g2, g3⟩ := hb
  simp only [nnTime, lub2, mx_eq]
  omega
theorem zero_nn : nnTime zeroT := by simp [nnTime, zeroT]
theorem lubL_nn {l : List Time} (hl : ∀ x ∈ l, nnTime x) : nnTime (lubL l) := by
  have key : ∀ (l : List Time) (a : Time), nnTime a → (∀ x ∈ l, nnTime x) → nnTime (l.foldl lub2 a) := by
    intro l
    induction l with
    | nil => intro a ha _; exact ha
    | cons x l ih => intro a ha hl; exact ih _ (lub2_nn ha (hl x (List.mem_cons_self ..))) fun y hy => hl y (List.mem_cons_of_mem _ hy)
  exact key l _ zero_nn hl
theorem lubL_append {a b : List Time} (ha : ∀ x ∈ a, nnTime x) (hb : ∀ x ∈ b, nnTime x) : lubL (a ++ b) = lub2 (lubL a) (lubL b) := by
  unfold lubL
  rw [List.foldl_append]
  have : a.foldl lub2 zeroT = lub2 (a.foldl lub2 zeroT) zeroT := (lub2_zero (lubL_nn ha)).symm
  rw [this, foldl_lub2, ← this]
theorem lubL_two {x y : Time} (hx : nnTime x) : lubL [x, y] = lub2 x y := by
  simp [lubL, zero_lub2 hx]
theorem glbL_append' {a b : List Time} (ha : a ≠ []) (hb : b ≠ []) : glbL (a ++ b) = glb2 (glbL a) (glbL b) := by
  cases a with
  | nil => exact absurd rfl ha
  | cons x a => cases b with
    | nil => exact absurd rfl hb
    | cons y b =>
      simp only [glbL, List.cons_append, List.foldl_append, List.foldl_cons]
      rw [foldl_glb2]
theorem glbL_two {x y : Time} : glbL [x, y] = glb2 x y := rfl

theorem bounds_eq : freshetlaw04_bounds = some true := by rfl

theorem MomentBounds_true {l : List Time} (hl : ∀ x ∈ l, nnTime x) : freshetlaw04_MomentBounds l = some true := by
  unfold freshetlaw04_MomentBounds moment_Lub moment_Glb
  simp [bounds_eq, foldGreatest_eq hl, foldLeast_eq, refLub_eq, refGlb_eq, eqTime_self, bf]


theorem MomentTwice_true {a b : List Time} (ha : ∀ x ∈ a, nnTime x) (hb : ∀ x ∈ b, nnTime x) (hl : a.length + b.length ≤ 1048576) : freshetlaw04_MomentTwice a b = some true := by
  unfold freshetlaw04_MomentTwice moment_Lub moment_Glb
  have hab : ∀ x ∈ a ++ b, nnTime x := fun x hx => (List.mem_append.1 hx).elim (ha x) (hb x)
  have h2 : ∀ x ∈ [lubL a, lubL b], nnTime x := fun x hx => by
    rcases List.mem_cons.1 hx with rfl | hx
    · exact lubL_nn ha
    · rw [List.mem_singleton.1 hx]; exact lubL_nn hb
  have e1 : lubL [lubL a, lubL b] = lubL (a ++ b) := by rw [lubL_two (lubL_nn ha), lubL_append ha hb]
  rw [need_true (by omega), need_true (by omega)]
  simp only [bounds_eq, Option.bind_some, Bool.not_true, bf_false, jn_eq, foldGreatest_eq ha, foldGreatest_eq hb, foldGreatest_eq hab, foldGreatest_eq h2, foldLeast_eq, e1, eqTime_self, bf_true, bf_decide]
  by_cases h1 : ((a.length : Int) = 0)
  · rw [if_pos h1]
  · rw [if_neg h1]
    by_cases h3 : ((b.length : Int) = 0)
    · rw [if_pos h3]
    · rw [if_neg h3, glbL_two, glbL_append' (by rintro rfl; simp at h1) (by rintro rfl; simp at h3), eqTime_self]

end Go.Av
