/-
  Av, part V: of loops, without any program.
-/
import Derived.Test.YtoiphmpjiobaiaaAvU
namespace Go.Av
set_option linter.unusedVariables false
set_option linter.unusedSimpArgs false

section
variable {S R Q A X : Type}

theorem rangeN_inv {B : Nat → S → Option (Ctl S R)} {n : Nat} (I : Nat → S → Prop) {s : S} (h0 : I 0 s) (hs : ∀ i s, i < n → I i s → ∃ s', B i s = some (.next s') ∧ I (i + 1) s') :
    ∃ s', rangeN B n 0 s = some (.done s') ∧ I n s' := by
  have key : ∀ k i s, i + k = n → I i s → ∃ s', rangeN B k i s = some (.done s') ∧ I n s' := by
    intro k
    induction k with
    | zero => intro i s hi h; exact ⟨s, rfl, by have : i = n := by omega
                                                subst this; exact h⟩
    | succ k ih =>
      intro i s hi h
      obtain ⟨s', h1, h2⟩ := hs i s (by omega) h
      obtain ⟨s2, h3, h4⟩ := ih (i + 1) s' (by omega) h2
      exact ⟨s2, by simp only [rangeN, h1, h3], h4⟩
  exact key n 0 s (by omega) h0

theorem rangeN_to {B : Nat → S → Option (Ctl S R)} {n : Nat} {s : S} (r : S) (I : Nat → S → Prop) (hr : ∀ s, I n s → s = r) (hs : ∀ i s, i < n → I i s → ∃ s', B i s = some (.next s') ∧ I (i + 1) s') (h0 : I 0 s) :
    rangeN B n 0 s = some (.done r) := by
  obtain ⟨s', h1, h2⟩ := rangeN_inv I h0 hs
  rw [h1, hr s' h2]

theorem rangeN_inv' {B : Nat → S → Option (Ctl S R)} {n : Nat} (I : Nat → S → Prop) (D : S → Prop) (J : R → Prop) {s : S} (h0 : I 0 s)
    (hs : ∀ i s, i < n → I i s → (∃ s', B i s = some (.next s') ∧ I (i + 1) s') ∨ (∃ s', B i s = some (.brk s') ∧ D s') ∨ ∃ r, B i s = some (.ret r) ∧ J r) (hD : ∀ s, I n s → D s) :
    (∃ s', rangeN B n 0 s = some (.done s') ∧ D s') ∨ ∃ r, rangeN B n 0 s = some (.ret r) ∧ J r := by
  have key : ∀ k i s, i + k = n → I i s → (∃ s', rangeN B k i s = some (.done s') ∧ D s') ∨ ∃ r, rangeN B k i s = some (.ret r) ∧ J r := by
    intro k
    induction k with
    | zero => intro i s hi h; exact .inl ⟨s, rfl, by have : i = n := by omega
                                                     subst this; exact hD s h⟩
    | succ k ih =>
      intro i s hi h
      rcases hs i s (by omega) h with ⟨s', h1, h2⟩ | ⟨s', h1, h2⟩ | ⟨r, h1, h2⟩
      · rcases ih (i + 1) s' (by omega) h2 with ⟨s2, h3, h4⟩ | ⟨r, h3, h4⟩
        · exact .inl ⟨s2, by simp only [rangeN, h1, h3], h4⟩
        · exact .inr ⟨r, by simp only [rangeN, h1, h3], h4⟩
      · exact .inl ⟨s', by simp only [rangeN, h1], h2⟩
      · exact .inr ⟨r, by simp only [rangeN, h1], h2⟩
  exact key n 0 s (by omega) h0

theorem take_succ_getD [Inhabited X] {l : List X} {i : Nat} (h : i < l.length) : l.take (i + 1) = l.take i ++ [l.getD i default] := by
  rw [List.take_add_one, List.getElem?_eq_getElem h, List.getD_eq_getElem?_getD, List.getElem?_eq_getElem h]
  rfl

theorem getD_mem' [Inhabited X] {l : List X} {i : Nat} (h : i < l.length) : l.getD i default ∈ l := by
  rw [List.getD_eq_getElem?_getD, List.getElem?_eq_getElem h]
  exact List.getElem_mem h

theorem rangeN_foldl [Inhabited X] {B : Nat → S → Option (Ctl S R)} {l : List X} (f : S → X → S) {s : S} (hB : ∀ i a, i < l.length → B i a = some (.next (f a (l.getD i default)))) :
    rangeN B l.length 0 s = some (.done (l.foldl f s)) := by
  obtain ⟨s', h1, h2⟩ := rangeN_inv (B := B) (n := l.length) (fun i a => a = (l.take i).foldl f s) (s := s) rfl fun i a hi ha => ⟨_, hB i a hi, by rw [take_succ_getD hi, List.foldl_append, ← ha]; rfl⟩
  rw [h1, h2, List.take_length]

@[simp] theorem outK_done {s : S} {kn : S → Option Q} {kr : R → Option Q} : outK (some (.done s)) kn kr = kn s := rfl
@[simp] theorem outK_ret {r : R} {kn : S → Option Q} {kr : R → Option Q} : outK (some (.ret r)) kn kr = kr r := rfl
@[simp] theorem bf_true {x y : Option Q} : bf true x y = x := rfl
@[simp] theorem bf_false {x y : Option Q} : bf false x y = y := rfl
theorem need_true {c : Prop} [Decidable c] {k : Option Q} (h : c) : need c k = k := by unfold need; rw [if_pos h]
@[simp] theorem jn_eq {j : A → Option Q} {k : (A → Option Q) → Option Q} : jn j k = k j := rfl
@[simp] theorem bf_decide {p : Prop} [Decidable p] {x y : Option Q} : bf (decide p) x y = if p then x else y := by by_cases h : p <;> simp [h, bf]
@[simp] theorem bf_not {b : Bool} {x y : Option Q} : bf (!b) x y = bf b y x := by cases b <;> rfl
theorem bf_some {b : Bool} {x y : Q} : bf b (some x) (some y) = some (if b then x else y) := by cases b <;> rfl

end
end Go.Av
