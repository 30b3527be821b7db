import Derived.Test.YtoiphmpjiobaiaaNC
import Derived.Test.YtoiphmpjiobaiaaM8p
namespace Go.Av
set_option linter.unusedVariables false
set_option linter.unusedSimpArgs false

def nnTime (t : Time) : Prop := 0 ≤ t.epoch ∧ 0 ≤ t.loop.1 ∧ 0 ≤ t.loop.2
def lub2 (a x : Time) : Time := ⟨if a.epoch < x.epoch then x.epoch else a.epoch, (if a.loop.1 < x.loop.1 then x.loop.1 else a.loop.1, if a.loop.2 < x.loop.2 then x.loop.2 else a.loop.2)⟩
def glb2 (a x : Time) : Time := ⟨if x.epoch < a.epoch then x.epoch else a.epoch, (if x.loop.1 < a.loop.1 then x.loop.1 else a.loop.1, if x.loop.2 < a.loop.2 then x.loop.2 else a.loop.2)⟩
def zeroT : Time := ⟨0, (0, 0)⟩
def lubL (l : List Time) : Time := l.foldl lub2 zeroT
def glbL : List Time → Time
  | [] => zeroT
  | x :: l => l.foldl glb2 x

theorem Time.ext' {a b : Time} (h1 : a.epoch = b.epoch) (h2 : a.loop.1 = b.loop.1) (h3 : a.loop.2 = b.loop.2) : a = b := by
  rcases a with ⟨e, l1, l2⟩; rcases b with ⟨e', l1', l2'⟩; simp at h1 h2 h3; simp [h1, h2, h3]

theorem eqTime_self (a : Time) : eqTime a a = true := by simp [eqTime]

theorem max0 {a : Int} (h : 0 ≤ a) : a = if 0 < a then a else 0 := by
  by_cases h1 : 0 < a
  · rw [if_pos h1]
  · rw [if_neg h1]; omega

theorem foldGreatest_eq {l : List Time} (hl : ∀ x ∈ l, nnTime x) : moment_fold__greatest l = some (lubL l) := by
  unfold moment_fold__greatest
  rw [rangeN_to (lubL l) (fun i a => a = lubL (l.take i)) (fun s h => by rw [h, List.take_length])]
  · rfl
  · intro i a hi ha
    refine ⟨_, ?_, rfl⟩
    rw [take_succ_getD hi]
    have hx := hl _ (getD_mem' hi)
    generalize l.getD i default = x at *
    simp only [lubL, List.foldl_append, List.foldl_cons, List.foldl_nil]
    rw [← lubL, ← ha]
    simp only [jn_eq, rangeN, moment_greatest, Option.bind_some, bf_decide]
    rcases Nat.eq_zero_or_pos i with h0 | h0
    · subst h0
      simp [lubL] at ha
      subst ha
      obtain ⟨x1, x2, x3⟩ := hx
      simp [outK, lub2, zeroT]
      exact ⟨max0 x1, max0 x2, max0 x3⟩
    · rw [if_neg (by omega)]
      simp [outK, lub2]
  · rfl

theorem glbL_append {l : List Time} (h : l ≠ []) (x : Time) : glbL (l ++ [x]) = glb2 (glbL l) x := by
  cases l with
  | nil => exact absurd rfl h
  | cons y l => simp [glbL, List.foldl_append]

theorem glb2_self (x : Time) : glb2 x x = x := by simp [glb2]

theorem foldLeast_eq (l : List Time) : moment_fold__least l = some (glbL l) := by
  unfold moment_fold__least
  rw [rangeN_to (glbL l) (fun i a => a = glbL (l.take i)) (fun s h => by rw [h, List.take_length])]
  · rfl
  · intro i a hi ha
    refine ⟨_, ?_, rfl⟩
    rw [take_succ_getD hi]
    simp only [jn_eq, rangeN, moment_least, Option.bind_some, bf_decide]
    rcases Nat.eq_zero_or_pos i with h0 | h0
    · subst h0
      generalize l.getD 0 default = x at *
      simp [outK, glbL]
    · rw [if_neg (by omega), glbL_append (by intro h; have h2 := congrArg List.length h; rw [List.length_take] at h2; simp only [List.length_nil] at h2; omega), ← ha]
      generalize l.getD i default = x at *
      simp [outK, glb2]
  · rfl

theorem mx_eq (a b : Int) : (if a < b then b else a) = max a b := by split <;> omega
theorem mn_eq (a b : Int) : (if b < a then b else a) = min a b := by split <;> omega
theorem lub2_assoc (a b c : Time) : lub2 (lub2 a b) c = lub2 a (lub2 b c) := by
  simp only [lub2, mx_eq]
  refine Time.ext' ?_ ?_ ?_ <;> simp only <;> omega
theorem glb2_assoc (a b c : Time) : glb2 (glb2 a b) c = glb2 a (glb2 b c) := by
  simp only [glb2, mn_eq]
  refine Time.ext' ?_ ?_ ?_ <;> simp only <;> omega
theorem foldl_lub2 (l : List Time) : ∀ a b, l.foldl lub2 (lub2 a b) = lub2 a (l.foldl lub2 b) := by
  induction l with
  | nil => intro a b; rfl
  | cons x l ih => intro a b; simp only [List.foldl_cons, lub2_assoc, ih]
theorem foldl_glb2 (l : List Time) : ∀ a b, l.foldl glb2 (glb2 a b) = glb2 a (l.foldl glb2 b) := by
  induction l with
  | nil => intro a b; rfl
  | cons x l ih => intro a b; simp only [List.foldl_cons, glb2_assoc, ih]
theorem zero_lub2 {x : Time} (h : nnTime x) : lub2 zeroT x = x := by
  obtain ⟨h1, h2, h3⟩ := h
  simp only [lub2, mx_eq, zeroT]
  refine Time.ext' ?_ ?_ ?_ <;> simp only <;> omega
theorem lub2_zero {x : Time} (h : nnTime x) : lub2 x zeroT = x := by
  obtain ⟨h1, h2, h3⟩ := h
  simp only [lub2, mx_eq, zeroT]
  refine Time.ext' ?_ ?_ ?_ <;> simp only <;> omega
theorem lub2_nn {a b : Time} (ha : nnTime a) (hb : nnTime b) : nnTime (lub2 a b) := by
  obtain ⟨h1, h2, h3⟩ := ha
  obtain ⟨g1, g2, g3⟩ := hb
  simp only [nnTime, lub2, mx_eq]
  omega
theorem zero_nn : nnTime zeroT := by simp [nnTime, zeroT]
theorem lubL_nn {l : List Time} (hl : ∀ x ∈ l, nnTime x) : nnTime (lubL l) := by
  have key : ∀ (l : List Time) (a : Time), nnTime a → (∀ x ∈ l, nnTime x) → nnTime (l.foldl lub2 a) := by
    intro l
    induction l with
    | nil => intro a ha _; exact ha
    | cons x l ih => intro a ha hl; exact ih _ (lub2_nn ha (hl x (List.mem_cons_self ..))) fun y hy => hl y (List.mem_cons_of_mem _ hy)
  exact key l _ zero_nn hl
theorem lubL_append {a b : List Time} (ha : ∀ x ∈ a, nnTime x) (hb : ∀ x ∈ b, nnTime x) : lubL (a ++ b) = lub2 (lubL a) (lubL b) := by
  unfold lubL
  rw [List.foldl_append]
  have : a.foldl lub2 zeroT = lub2 (a.foldl lub2 zeroT) zeroT := (lub2_zero (lubL_nn ha)).symm
  rw [this, foldl_lub2, ← this]
theorem lubL_two {x y : Time} (hx : nnTime x) : lubL [x, y] = lub2 x y := by
  simp [lubL, zero_lub2 hx]
theorem glbL_append' {a b : List Time} (ha : a ≠ []) (hb : b ≠ []) : glbL (a ++ b) = glb2 (glbL a) (glbL b) := by
  cases a with
  | nil => exact absurd rfl ha
  | cons x a => cases b with
    | nil => exact absurd rfl hb
    | cons y b =>
      simp only [glbL, List.cons_append, List.foldl_append, List.foldl_cons]
      rw [foldl_glb2]
theorem glbL_two {x y : Time} : glbL [x, y] = glb2 x y := rfl


theorem orders_eq : freshetlaw04_orders = some true := by rfl

def leT (a b : Time) : Bool := decide (a.epoch ≤ b.epoch) && (decide (a.loop.1 ≤ b.loop.1) && decide (a.loop.2 ≤ b.loop.2))

theorem ahead_eq {a b : Time} (ha : nnTime a) (hb : nnTime b) : moment_Ahead a b = some (leT a b) := by
  unfold moment_Ahead moment_Lub
  have hl : ∀ x ∈ [a, b], nnTime x := fun x hx => by
    rcases List.mem_cons.1 hx with rfl | hx
    · exact ha
    · rw [List.mem_singleton.1 hx]; exact hb
  rw [foldGreatest_eq hl, lubL_two ha]
  simp only [Option.bind_some, lub2, mx_eq, eqTime, leT, Bool.and_true]
  congr 1
  rw [Bool.eq_iff_iff]
  simp only [Bool.and_eq_true, decide_eq_true_eq]
  omega

theorem refAhead_eq (a b : Time) : freshetref04_Ahead a b = some (leT a b) := by
  unfold freshetref04_Ahead leT
  simp only [rangeN, bf_decide]
  by_cases h1 : b.loop.1 < a.loop.1 <;> by_cases h2 : b.loop.2 < a.loop.2 <;> by_cases h3 : a.epoch ≤ b.epoch <;> simp [outK, h1, h2, h3] <;> omega

def cmpT (a b : Time) : Int :=
  if a.epoch < b.epoch then -1 else if b.epoch < a.epoch then 1 else if a.loop.1 < b.loop.1 then -1 else if b.loop.1 < a.loop.1 then 1 else if a.loop.2 < b.loop.2 then -1 else if b.loop.2 < a.loop.2 then 1 else 0

theorem refCompare_eq (a b : Time) : freshetref04_Compare a b = some (cmpT a b) := by
  unfold freshetref04_Compare cmpT
  simp only [rangeN, bf_decide, bf_not]
  by_cases h1 : a.epoch < b.epoch <;> by_cases h2 : b.epoch < a.epoch <;> by_cases h3 : a.loop.1 < b.loop.1 <;> by_cases h4 : b.loop.1 < a.loop.1 <;> by_cases h5 : a.loop.2 < b.loop.2 <;> by_cases h6 : b.loop.2 < a.loop.2 <;>
    simp [outK, h1, h2, h3, h4, h5, h6] <;> omega

theorem cmpInt_eq (x y : Int) : cmp_Compare_uint64 x y = some (if x < y then -1 else if y < x then 1 else 0) := by
  unfold cmp_Compare_uint64 cmp_isNaN_uint64
  simp only [decide_true, Bool.not_true, Option.bind_some, bf_false, bf_decide]
  split
  · rfl
  · split <;> rfl

theorem cmp2_eq (x1 x2 y1 y2 : Int) : slices_Compareuint64_uint64_uint64 [x1, x2] [y1, y2] = some (if x1 < y1 then -1 else if y1 < x1 then 1 else if x2 < y2 then -1 else if y2 < x2 then 1 else 0) := by
  unfold slices_Compareuint64_uint64_uint64
  simp only [List.length_cons, List.length_nil, Nat.zero_add, Nat.reduceAdd, rangeN, cmpInt_eq, bf_decide, bf_not, Option.bind_some]
  by_cases h3 : x1 < y1 <;> by_cases h4 : y1 < x1 <;> by_cases h5 : x2 < y2 <;> by_cases h6 : y2 < x2 <;> simp [outK, need, h3, h4, h5, h6]

theorem or2_eq (u v : Int) : cmp_Or_int [u, v] = some (if u = 0 then v else u) := by
  unfold cmp_Or_int
  simp only [List.length_cons, List.length_nil, Nat.zero_add, Nat.reduceAdd, rangeN, bf_decide, bf_not]
  by_cases h1 : u = 0 <;> by_cases h2 : v = 0 <;> simp [outK, h1, h2]

theorem bf_and {p q : Bool} {A : Type} {x y : Option A} : bf (p && (q && true)) x y = bf p (bf q x y) y := by cases p <;> cases q <;> rfl

theorem compare_eq (a b : Time) : moment_Compare a b = some (cmpT a b) := by
  unfold moment_Compare cmpT
  simp only [cmpInt_eq, cmp2_eq, or2_eq, Option.bind_some, bf_and, bf_decide]
  by_cases h1 : a.epoch < b.epoch <;> by_cases h2 : b.epoch < a.epoch <;> by_cases h3 : a.loop.1 < b.loop.1 <;> by_cases h4 : b.loop.1 < a.loop.1 <;> by_cases h5 : a.loop.2 < b.loop.2 <;> by_cases h6 : b.loop.2 < a.loop.2 <;>
    by_cases h7 : a.loop.1 = b.loop.1 <;> by_cases h8 : a.loop.2 = b.loop.2 <;> simp [h1, h2, h3, h4, h5, h6, h7, h8] <;> omega

theorem cmpT_zero (a b : Time) : decide (cmpT a b = 0) = eqTime a b := by
  rw [Bool.eq_iff_iff]
  simp only [eqTime, cmpT, Bool.and_eq_true, decide_eq_true_eq, Bool.and_true]
  split <;> (try split) <;> (try split) <;> (try split) <;> (try split) <;> (try split) <;> simp <;> omega

theorem wrap2 : IntKind.i64.wrap (1 + 1) = 2 := by rw [wrap_small (by omega) (by omega)]; rfl

theorem cmpT_cases (a b : Time) : cmpT a b = -1 ∨ cmpT a b = 0 ∨ cmpT a b = 1 := by
  unfold cmpT
  repeat' split
  all_goals omega

theorem cmpT_anti (a b : Time) : cmpT a b = - cmpT b a := by
  unfold cmpT
  by_cases h1 : a.epoch < b.epoch <;> by_cases h2 : b.epoch < a.epoch <;> by_cases h3 : a.loop.1 < b.loop.1 <;> by_cases h4 : b.loop.1 < a.loop.1 <;> by_cases h5 : a.loop.2 < b.loop.2 <;> by_cases h6 : b.loop.2 < a.loop.2 <;>
    simp [h1, h2, h3, h4, h5, h6] <;> omega

theorem wrap_cases {x : Int} (h : x = -1 ∨ x = 0 ∨ x = 1) : IntKind.i64.wrap (0 - x) = - x := by
  rcases h with rfl | rfl | rfl
  · rfl
  · rfl
  · rfl

theorem leT_cmp {a b : Time} (h : leT a b = true) : cmpT a b ≤ 0 := by
  simp only [leT, Bool.and_eq_true, decide_eq_true_eq] at h
  unfold cmpT
  repeat' split
  all_goals omega

theorem leT_refl (a : Time) : leT a a = true := by simp [leT]
theorem leT_trans {a b c : Time} (h : leT a b = true) (g : leT b c = true) : leT a c = true := by
  simp only [leT, Bool.and_eq_true, decide_eq_true_eq] at *
  omega
theorem leT_anti {a b : Time} (h : leT a b = true) (g : leT b a = true) : eqTime a b = true := by
  simp only [leT, eqTime, Bool.and_eq_true, decide_eq_true_eq, Bool.and_true] at *
  omega

theorem glb2_nn {a b : Time} (ha : nnTime a) (hb : nnTime b) : nnTime (glb2 a b) := by
  obtain ⟨h1, h2, h3⟩ := ha
  obtain ⟨g1, g2, g3⟩ := hb
  simp only [nnTime, glb2, mn_eq]
  omega

theorem leT_iff {a b : Time} : leT a b = true ↔ a.epoch ≤ b.epoch ∧ a.loop.1 ≤ b.loop.1 ∧ a.loop.2 ≤ b.loop.2 := by simp [leT]

theorem lub2_le {a b t : Time} : leT (lub2 a b) t = true ↔ leT a t = true ∧ leT b t = true := by
  simp only [leT_iff, lub2, mx_eq]; omega
theorem glb2_le {a b t : Time} : leT t (glb2 a b) = true ↔ leT t a = true ∧ leT t b = true := by
  simp only [leT_iff, glb2, mn_eq]; omega

theorem foldl_lub2_le {t : Time} : ∀ (l : List Time) (a : Time), leT (l.foldl lub2 a) t = true ↔ leT a t = true ∧ ∀ x ∈ l, leT x t = true
  | [], a => by simp
  | x :: l, a => by
    simp only [List.foldl_cons, foldl_lub2_le l, lub2_le, List.forall_mem_cons]
    constructor <;> intro h <;> simp_all
theorem foldl_glb2_le {t : Time} : ∀ (l : List Time) (a : Time), leT t (l.foldl glb2 a) = true ↔ leT t a = true ∧ ∀ x ∈ l, leT t x = true
  | [], a => by simp
  | x :: l, a => by
    simp only [List.foldl_cons, foldl_glb2_le l, glb2_le, List.forall_mem_cons]
    constructor <;> intro h <;> simp_all
theorem foldl_glb2_nn : ∀ (l : List Time) (a : Time), nnTime a → (∀ x ∈ l, nnTime x) → nnTime (l.foldl glb2 a)
  | [], a, ha, _ => ha
  | x :: l, a, ha, h => foldl_glb2_nn l _ (glb2_nn ha (h x (List.mem_cons_self ..))) fun y hy => h y (List.mem_cons_of_mem _ hy)
theorem glbL_nn {l : List Time} (hl : ∀ x ∈ l, nnTime x) : nnTime (glbL l) := by
  cases l with
  | nil => exact zero_nn
  | cons x l => exact foldl_glb2_nn l x (hl x (List.mem_cons_self ..)) fun y hy => hl y (List.mem_cons_of_mem _ hy)
theorem lubL_le {l : List Time} {t : Time} (ht : nnTime t) : leT (lubL l) t = true ↔ ∀ x ∈ l, leT x t = true := by
  unfold lubL
  rw [foldl_lub2_le]
  have : leT zeroT t = true := by rw [leT_iff]; exact ht
  simp [this]
theorem glbL_le {l : List Time} {t : Time} (h : l ≠ []) : leT t (glbL l) = true ↔ ∀ x ∈ l, leT t x = true := by
  cases l with
  | nil => exact absurd rfl h
  | cons x l => simp only [glbL, foldl_glb2_le, List.forall_mem_cons]


end Go.Av
