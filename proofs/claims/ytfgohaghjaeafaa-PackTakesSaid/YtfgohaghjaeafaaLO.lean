/-
  Orders, as comparisons with three answers: without any program.
-/
import Derived.Test.YtfgohaghjaeafaaAvV
namespace Go.Av
open Go
set_option linter.unusedVariables false
set_option linter.unusedSimpArgs false

structure IsCmp {α : Type} (c : α → α → Int) : Prop where
  vals : ∀ a b, c a b = -1 ∨ c a b = 0 ∨ c a b = 1
  anti : ∀ a b, c b a = - c a b
  tr : ∀ a b d, c a b ≤ 0 → c b d ≤ 0 → c a d ≤ 0

namespace IsCmp
variable {α β : Type} {c : α → α → Int}

theorem refl (h : IsCmp c) (a : α) : c a a = 0 := by have := h.anti a a; omega
theorem lt_tr (h : IsCmp c) {a b d : α} (h1 : c a b < 0) (h2 : c b d ≤ 0) : c a d < 0 := by
  have := h.tr a b d (by omega) h2
  rcases h.vals a d with g | g | g
  · omega
  · have g1 := h.anti a d
    have g2 := h.tr b d a h2 (by omega)
    have g3 := h.anti a b
    omega
  · omega
theorem le_lt (h : IsCmp c) {a b d : α} (h1 : c a b ≤ 0) (h2 : c b d < 0) : c a d < 0 := by
  have := h.tr a b d h1 (by omega)
  rcases h.vals a d with g | g | g
  · omega
  · have g1 := h.anti a d
    have g2 := h.tr d a b (by omega) h1
    have g3 := h.anti b d
    omega
  · omega
theorem eqL (h : IsCmp c) {a b : α} (d : α) (h1 : c a b = 0) : c a d = c b d := by
  have h2 := h.anti a b
  have t1 := h.tr a b d (by omega)
  have t2 := h.tr b a d (by omega)
  have t3 := h.tr d a b
  have t4 := h.tr d b a
  have a1 := h.anti a d
  have a2 := h.anti b d
  rcases h.vals a d with g | g | g <;> rcases h.vals b d with k | k | k <;> omega
theorem eqR (h : IsCmp c) {a b : α} (d : α) (h1 : c a b = 0) : c d a = c d b := by
  have := h.eqL d h1
  have a1 := h.anti a d
  have a2 := h.anti b d
  omega
theorem symm0 (h : IsCmp c) {a b : α} (h1 : c a b = 0) : c b a = 0 := by have := h.anti a b; omega
theorem gt_iff (h : IsCmp c) {a b : α} : 0 < c a b ↔ c b a < 0 := by have := h.anti a b; omega
theorem on (h : IsCmp c) (f : β → α) : IsCmp fun x y => c (f x) (f y) := ⟨fun a b => h.vals _ _, fun a b => h.anti _ _, fun a b d => h.tr _ _ _⟩
end IsCmp

def cmpZ (a b : Int) : Int := if a < b then -1 else if b < a then 1 else 0
theorem cmpZ_is : IsCmp cmpZ where
  vals a b := by unfold cmpZ; split <;> (try split) <;> simp
  anti a b := by unfold cmpZ; split <;> (try split) <;> (try split) <;> (try split) <;> omega
  tr a b d := by unfold cmpZ; split <;> (try split) <;> (try split) <;> (try split) <;> (try split) <;> (try split) <;> omega
theorem cmpZ_zero {a b : Int} : cmpZ a b = 0 ↔ a = b := by unfold cmpZ; split <;> (try split) <;> omega

/-- The first of two that tells. -/
def thenC (u v : Int) : Int := if u = 0 then v else u

theorem IsCmp.lex {α : Type} {c d : α → α → Int} (hc : IsCmp c) (hd : IsCmp d) : IsCmp fun a b => thenC (c a b) (d a b) where
  vals a b := by
    unfold thenC
    split
    · exact hd.vals a b
    · exact hc.vals a b
  anti a b := by
    have h1 := hc.anti a b
    have h2 := hd.anti a b
    unfold thenC
    split <;> split <;> omega
  tr a b e h1 h2 := by
    unfold thenC at *
    by_cases g1 : c a b = 0 <;> by_cases g2 : c b e = 0
    · have := hc.eqL e g1
      rw [if_pos g1] at h1; rw [if_pos g2] at h2; rw [if_pos (by omega)]
      exact hd.tr a b e h1 h2
    · have := hc.eqL e g1
      rw [if_neg g2] at h2; rw [if_neg (by omega)]; omega
    · have := hc.eqR a g2
      rw [if_neg g1] at h1; rw [if_neg (by omega)]; omega
    · rw [if_neg g1] at h1; rw [if_neg g2] at h2
      have := hc.lt_tr (a := a) (b := b) (d := e) (by omega) h2
      rw [if_neg (by omega)]; omega

/-- Lists: by their first difference; a list stands ahead of one that goes on. -/
def cmpL {α : Type} (c : α → α → Int) : List α → List α → Int
  | [], [] => 0
  | [], _ :: _ => -1
  | _ :: _, [] => 1
  | a :: x, b :: y => thenC (c a b) (cmpL c x y)

theorem IsCmp.list {α : Type} {c : α → α → Int} (h : IsCmp c) : IsCmp (cmpL c) where
  vals := by
    intro a
    induction a with
    | nil => intro b; cases b <;> simp [cmpL]
    | cons x a ih =>
      intro b
      cases b with
      | nil => simp [cmpL]
      | cons y b =>
        simp only [cmpL, thenC]
        split
        · exact ih b
        · exact h.vals x y
  anti := by
    intro a
    induction a with
    | nil => intro b; cases b <;> simp [cmpL]
    | cons x a ih =>
      intro b
      cases b with
      | nil => simp [cmpL]
      | cons y b =>
        have h1 := h.anti x y
        have h2 := ih b
        simp only [cmpL, thenC]
        split <;> split <;> omega
  tr := by
    intro a
    induction a with
    | nil => intro b d _ _; cases d <;> simp [cmpL]
    | cons x a ih =>
      intro b d h1 h2
      cases b with
      | nil => simp [cmpL] at h1
      | cons y b =>
        cases d with
        | nil => simp [cmpL] at h2
        | cons z d =>
          simp only [cmpL] at *
          unfold thenC at *
          by_cases g1 : c x y = 0 <;> by_cases g2 : c y z = 0
          · have := h.eqL z g1
            rw [if_pos g1] at h1; rw [if_pos g2] at h2; rw [if_pos (by omega)]
            exact ih b d h1 h2
          · have := h.eqL z g1
            rw [if_neg g2] at h2; rw [if_neg (by omega)]; omega
          · have := h.eqR x g2
            rw [if_neg g1] at h1; rw [if_neg (by omega)]; omega
          · rw [if_neg g1] at h1; rw [if_neg g2] at h2
            have := h.lt_tr (a := x) (b := y) (d := z) (by omega) h2
            rw [if_neg (by omega)]; omega

theorem cmpL_append {α : Type} {c : α → α → Int} (h : IsCmp c) (f a b : List α) : cmpL c (f ++ a) (f ++ b) = cmpL c a b := by
  induction f with
  | nil => rfl
  | cons x f ih => simp only [List.cons_append, cmpL, thenC, h.refl, if_true, ih]

theorem cmpL_zero_len {α : Type} {c : α → α → Int} : ∀ {a b : List α}, cmpL c a b = 0 → a.length = b.length
  | [], [], _ => rfl
  | [], _ :: _, h => by simp [cmpL] at h
  | _ :: _, [], h => by simp [cmpL] at h
  | x :: a, y :: b, h => by
    simp only [cmpL, thenC] at h
    split at h
    · simp [cmpL_zero_len h]
    · exact absurd h ‹_›

/-! ### Texts -/

def cmpU8 (a b : UInt8) : Int := cmpZ (a.toNat : Int) (b.toNat : Int)
theorem cmpU8_is : IsCmp cmpU8 := cmpZ_is.on fun a : UInt8 => (a.toNat : Int)

theorem bytesLess_cmp : ∀ x y : List UInt8, Op.bytesLess x y = decide (cmpL cmpU8 x y < 0)
  | [], [] => by simp [Op.bytesLess, cmpL]
  | [], _ :: _ => by simp [Op.bytesLess, cmpL]
  | _ :: _, [] => by simp [Op.bytesLess, cmpL]
  | a :: x, b :: y => by
    rw [Op.bytesLess, bytesLess_cmp x y, cmpL]
    have e1 : (a < b) ↔ (a.toNat : Int) < (b.toNat : Int) := by rw [UInt8.lt_iff_toNat_lt]; omega
    have e2 : (a = b) ↔ (a.toNat : Int) = (b.toNat : Int) := by rw [← UInt8.toNat_inj]; omega
    unfold cmpU8 thenC cmpZ
    rw [Bool.eq_iff_iff]
    simp only [Bool.or_eq_true, Bool.and_eq_true, decide_eq_true_eq, beq_iff_eq, e1, e2]
    by_cases h1 : (a.toNat : Int) < (b.toNat : Int)
    · simp [h1]
    · by_cases h2 : (b.toNat : Int) < (a.toNat : Int)
      · simp [h1, h2]; omega
      · have : (a.toNat : Int) = (b.toNat : Int) := by omega
        simp [this]

theorem bytesEq_cmp : ∀ x y : List UInt8, (x == y) = decide (cmpL cmpU8 x y = 0)
  | [], [] => by simp [cmpL]
  | [], _ :: _ => by simp [cmpL]
  | _ :: _, [] => by simp [cmpL]
  | a :: x, b :: y => by
    rw [List.cons_beq_cons, bytesEq_cmp x y, cmpL]
    have e2 : (a = b) ↔ (a.toNat : Int) = (b.toNat : Int) := by rw [← UInt8.toNat_inj]; omega
    have e3 : cmpU8 a b = 0 ↔ (a.toNat : Int) = (b.toNat : Int) := cmpZ_zero
    unfold thenC
    rw [Bool.eq_iff_iff]
    simp only [Bool.and_eq_true, decide_eq_true_eq, beq_iff_eq, e2]
    by_cases h : cmpU8 a b = 0
    · rw [if_pos h]; simp [e3.1 h]
    · rw [if_neg h]
      constructor
      · rintro ⟨g, _⟩; exact absurd (e3.2 g) h
      · intro g; exact absurd g h

def cmpS (a b : ByteArray) : Int := cmpL cmpU8 a.toList b.toList
theorem cmpS_is : IsCmp cmpS := cmpU8_is.list.on fun a : ByteArray => a.toList
theorem strLt_cmp (a b : ByteArray) : strLt a b = decide (cmpS a b < 0) := bytesLess_cmp _ _
theorem strEq_cmp (a b : ByteArray) : strEq a b = decide (cmpS a b = 0) := bytesEq_cmp _ _
theorem strEq_self (a : ByteArray) : strEq a a = true := by unfold strEq; simp
theorem ba_toList_inj {a b : ByteArray} (h : a.toList = b.toList) : a = b := by
  rw [ByteArray.toList_eq, ByteArray.toList_eq] at h
  cases a; cases b
  simp at h
  simp [h]
theorem strEq_iff {a b : ByteArray} : strEq a b = true ↔ a = b := by
  unfold strEq
  rw [beq_iff_eq]
  exact ⟨ba_toList_inj, fun h => by rw [h]⟩
theorem cmpS_zero {a b : ByteArray} : cmpS a b = 0 ↔ a = b := by
  rw [← strEq_iff, strEq_cmp, decide_eq_true_eq]

/-! ### Loops that compare -/

theorem drop_cons_getD {α : Type} [Inhabited α] {l : List α} {i : Nat} (h : i < l.length) : l.drop i = l.getD i default :: l.drop (i + 1) := by
  rw [List.drop_eq_getElem_cons h, List.getD_eq_getElem?_getD, List.getElem?_eq_getElem h]; rfl

theorem cmpLoop {α : Type} [Inhabited α] {c : α → α → Int} {p0 p1 : List α} {B : Nat → Unit → Option (Ctl Unit Int)} {kn : Unit → Option Int}
    (hB : ∀ i, i < p0.length → B i () = if p1.length ≤ i then some (.ret 1) else if c (p0.getD i default) (p1.getD i default) = 0 then some (.next ()) else some (.ret (c (p0.getD i default) (p1.getD i default))))
    (hk : kn () = some (if p0.length < p1.length then -1 else 0)) : outK (rangeN B p0.length 0 ()) kn (fun x => some x) = some (cmpL c p0 p1) := by
  have key : ∀ k i, i + k = p0.length → i ≤ p1.length → outK (rangeN B k i ()) kn (fun x => some x) = some (cmpL c (p0.drop i) (p1.drop i)) := by
    intro k
    induction k with
    | zero =>
      intro i hi hle
      simp only [rangeN, outK_done, hk]
      rw [List.drop_eq_nil_of_le (by omega : p0.length ≤ i)]
      by_cases h : p0.length < p1.length
      · rw [if_pos h, drop_cons_getD (by omega : i < p1.length)]; rfl
      · rw [if_neg h, List.drop_eq_nil_of_le (by omega : p1.length ≤ i)]; rfl
    | succ k ih =>
      intro i hi hle
      simp only [rangeN, hB i (by omega)]
      rw [drop_cons_getD (by omega : i < p0.length)]
      by_cases h : p1.length ≤ i
      · rw [if_pos h, List.drop_eq_nil_of_le (by omega : p1.length ≤ i)]; rfl
      · rw [if_neg h, drop_cons_getD (by omega : i < p1.length)]
        simp only [cmpL, thenC]
        by_cases h0 : c (p0.getD i default) (p1.getD i default) = 0
        · rw [if_pos h0, if_pos h0]; exact ih (i + 1) (by omega) (by omega)
        · rw [if_neg h0, if_neg h0]; rfl
  exact key p0.length 0 (by omega) (by omega)

theorem cmpLoopN {α : Type} [Inhabited α] {c : α → α → Int} {p0 p1 : List α} {B : Int → Option (Ctl Int Int)} {kn : Int → Option Int} {fuel : Nat} (hf : p0.length < fuel)
    (hB : ∀ i : Nat, i ≤ p0.length → i ≤ p1.length → B (i : Int) = if i < p0.length ∧ i < p1.length then (if c (p0.getD i default) (p1.getD i default) = 0 then some (.next ((i + 1 : Nat) : Int)) else some (.ret (c (p0.getD i default) (p1.getD i default)))) else some (.brk (i : Int)))
    (hk : ∀ i, kn i = some (if p0.length < p1.length then -1 else if p1.length < p0.length then 1 else 0)) : outK (loopN B fuel 0) kn (fun x => some x) = some (cmpL c p0 p1) := by
  have key : ∀ k i fuel, i + k = p0.length → i ≤ p1.length → k < fuel → outK (loopN B fuel (i : Int)) kn (fun x => some x) = some (cmpL c (p0.drop i) (p1.drop i)) := by
    intro k
    induction k with
    | zero =>
      intro i fuel hi hle hf
      cases fuel with
      | zero => omega
      | succ fuel =>
        simp only [loopN, hB i (by omega) hle]
        rw [if_neg (by omega)]
        simp only [outK_done, hk]
        rw [List.drop_eq_nil_of_le (by omega : p0.length ≤ i)]
        by_cases h : p0.length < p1.length
        · rw [if_pos h, drop_cons_getD (by omega : i < p1.length)]; rfl
        · rw [if_neg h, if_neg (by omega), List.drop_eq_nil_of_le (by omega : p1.length ≤ i)]; rfl
    | succ k ih =>
      intro i fuel hi hle hf
      cases fuel with
      | zero => omega
      | succ fuel =>
        simp only [loopN, hB i (by omega) hle]
        rw [drop_cons_getD (by omega : i < p0.length)]
        by_cases h : i < p1.length
        · rw [if_pos ⟨by omega, h⟩, drop_cons_getD (by omega : i < p1.length)]
          simp only [cmpL, thenC]
          by_cases h0 : c (p0.getD i default) (p1.getD i default) = 0
          · rw [if_pos h0, if_pos h0]
            exact ih (i + 1) fuel (by omega) (by omega) (by omega)
          · rw [if_neg h0, if_neg h0]; rfl
        · rw [if_neg (by omega), List.drop_eq_nil_of_le (by omega : p1.length ≤ i)]
          simp only [outK_done, hk]
          rw [if_neg (by omega), if_pos (by omega)]; rfl
  exact key p0.length 0 fuel (by omega) (by omega) hf

/-- Loops that go on as long as a number tells. -/
theorem loopN_steps {S R : Type} {B : S → Option (Ctl S R)} (f : Nat → S) {n fuel : Nat} {z : S} (hf : n < fuel) (hs : ∀ i, i < n → B (f i) = some (.next (f (i + 1)))) (he : B (f n) = some (.brk z)) : loopN B fuel (f 0) = some (.done z) := by
  have key : ∀ k i fuel, i + k = n → k < fuel → loopN B fuel (f i) = some (.done z) := by
    intro k
    induction k with
    | zero =>
      intro i fuel hi hf
      have : i = n := by omega
      subst this
      cases fuel with
      | zero => omega
      | succ fuel => simp only [loopN, he]
    | succ k ih =>
      intro i fuel hi hf
      cases fuel with
      | zero => omega
      | succ fuel => simp only [loopN, hs i (by omega)]; exact ih (i + 1) fuel (by omega) (by omega)
  exact key n 0 fuel (by omega) hf


end Go.Av
