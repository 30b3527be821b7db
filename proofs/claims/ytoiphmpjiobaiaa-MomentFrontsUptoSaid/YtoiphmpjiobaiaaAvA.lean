/-
  Av, part A: abstract values, and how they lie in the model's memory.
-/
import Derived.Calls
import Derived.Orders
import Derived.Tactics
import Derived.LoopN
import Derived.KernelRfl
import Derived.Deep.MidRow
import Derived.Laws.AppendOwn
namespace Go.Av
open Go
set_option linter.unusedVariables false
set_option linter.unusedSimpArgs false

inductive D where
  | bool (b : Bool)
  | int (k : IntKind) (n : Int)
  | str (s : ByteArray)
  | list (es n : Nat) (get : Nat → List D)
  | fn (f : Nat) (caps : List D)
  | cptr (cells : List D)
  | nilf

instance : Inhabited D := ⟨.bool false⟩

def D.at (xs : List D) (j : Nat) : D := xs.getD j (.bool false)

def maxN : Nat := 281474976710656

inductive RelD (G : Nat → Prop) (w : World) : D → Value → Prop
  | bool (b : Bool) : RelD G w (.bool b) (.bool b)
  | int (k : IntKind) (n : Int) : RelD G w (.int k n) (.int k n)
  | str (s : ByteArray) : RelD G w (.str s) (.string s)
  | empty (es : Nat) (get : Nat → List D) (a : Option Addr) (cap : Nat) : RelD G w (.list es 0 get) (.slice a 0 cap)
  | list (es n : Nat) (get : Nat → List D) (b off cap : Nat) (vals : Nat → Nat → Value) (hG : G b) (hn : n ≤ cap) (hm : n ≤ maxN)
      (hc : ∀ i j, i < n → j < es → w.cell? ⟨b, off + i * es + j, none⟩ = some (vals i j))
      (hl : ∀ i, i < n → (get i).length = es)
      (hr : ∀ i j, i < n → j < es → RelD G w (D.at (get i) j) (vals i j)) :
      RelD G w (.list es n get) (.slice (some ⟨b, off, none⟩) n cap)
  | fn (f : Nat) (caps : List D) (vs : List Value) (hl : caps.length = vs.length)
      (hr : ∀ j, j < caps.length → RelD G w (D.at caps j) (vs.getD j undef)) : RelD G w (.fn f caps) (.func (.func f) #[] vs.toArray)
  | cptr (cells : List D) (b off : Nat) (vals : Nat → Value) (hG : G b)
      (hc : ∀ j, j < cells.length → w.cell? ⟨b, off + j, none⟩ = some (vals j))
      (hr : ∀ j, j < cells.length → RelD G w (D.at cells j) (vals j)) : RelD G w (.cptr cells) (.pointer (some ⟨b, off, none⟩))
  | nilf : RelD G w .nilf .nilFunc

def Same (G : Nat → Prop) (w w' : World) : Prop := ∀ b, G b → w'.heap[b]? = w.heap[b]?

theorem Same.refl (G : Nat → Prop) (w : World) : Same G w w := fun _ _ => rfl
theorem Same.trans {G : Nat → Prop} {a b c : World} (h : Same G a b) (k : Same G b c) : Same G a c := fun i hi => (k i hi).trans (h i hi)
theorem Same.cell {G : Nat → Prop} {w w' : World} (h : Same G w w') {b o : Nat} (hb : G b) : w'.cell? ⟨b, o, none⟩ = w.cell? ⟨b, o, none⟩ :=
  World.cell?_of_block (w := w) (h b hb)

theorem RelD.mono {G G' : Nat → Prop} {w w' : World} (hs : Same G w w') (hg : ∀ b, G b → G' b) {x : D} {v : Value} (h : RelD G w x v) : RelD G' w' x v := by
  induction h with
  | bool b => exact .bool b
  | int k n => exact .int k n
  | str s => exact .str s
  | empty es get a cap => exact .empty es get a cap
  | list es n get b off cap vals hG hn hm hc hl _ ih => exact .list es n get b off cap vals (hg b hG) hn hm (fun i j hi hj => by rw [hs.cell hG]; exact hc i j hi hj) hl ih
  | fn f caps vs hl _ ih => exact .fn f caps vs hl ih
  | cptr cells b off vals hG hc _ ih => exact .cptr cells b off vals (hg b hG) (fun j hj => by rw [hs.cell hG]; exact hc j hj) ih
  | nilf => exact .nilf

theorem RelD.list_congr {G : Nat → Prop} {w : World} {es n : Nat} {get get' : Nat → List D} {v : Value} (h : RelD G w (.list es n get) v)
    (he : ∀ i, i < n → get' i = get i) : RelD G w (.list es n get') v := by
  cases h with
  | empty _ _ a cap => exact .empty es get' a cap
  | list _ _ _ b off cap vals hG hn hm hc hl hr =>
    exact .list es n get' b off cap vals hG hn hm hc (fun i hi => by rw [he i hi]; exact hl i hi) (fun i j hi hj => by rw [he i hi]; exact hr i j hi hj)

theorem RelD.one {G : Nat → Prop} {w : World} {x : D} {v : Value} (h : RelD G w x v) : v.oneCell' = true := by
  cases h <;> rfl

inductive CC where
  | d (x : D)
  | ptr (k o : Nat)

instance : Inhabited CC := ⟨.d default⟩

inductive C where
  | any
  | d (x : D)
  | view (es n : Nat) (get : Nat → List D)
  | zero
  | ptr (k o : Nat)
  | vptr (k es i o : Nat)
  | eptr (cells : List D)
  | own (k es off n : Nat)
  | bsl (k o es n : Nat)
  | clo (f n : Nat) (caps : List CC)

instance : Inhabited C := ⟨.any⟩

inductive AV where
  | c (x : C)
  | agg (xs : List C)
  | tup (vs : List (Bool × List C))

instance : Inhabited AV := ⟨.c .any⟩

inductive Slot where
  | box (cs : List C)
  | vec (es n : Nat) (get : Nat → List D)

structure Loc where
  blk : Nat
  off : Nat
  cap : Nat

def HoldsAt (G : Nat → Prop) (w : World) (b off : Nat) (cells : List D) : Prop :=
  ∀ j, j < cells.length → ∃ u, w.cell? ⟨b, off + j, none⟩ = some u ∧ RelD G w (D.at cells j) u

def ElemsAt (G : Nat → Prop) (w : World) (b off es n : Nat) (get : Nat → List D) : Prop :=
  ∀ i, i < n → (get i).length = es ∧ HoldsAt G w b (off + i * es) (get i)

def RelCC (G : Nat → Prop) (φ : Nat → Option Loc) (w : World) : CC → Value → Prop
  | .d x, v => RelD G w x v
  | .ptr k o, v => ∃ l, φ k = some l ∧ v = .pointer (some ⟨l.blk, l.off + o, none⟩)

def RelC (G V : Nat → Prop) (φ : Nat → Option Loc) (w : World) : C → Value → Prop
  | .any, _ => True
  | .d x, v => RelD G w x v
  | .view es n get, v => (n = 0 ∧ ∃ a cap, v = .slice a 0 cap) ∨ ∃ b off cap, (G b ∨ V b) ∧ v = .slice (some ⟨b, off, none⟩) n cap ∧ n ≤ cap ∧ n ≤ maxN ∧ ElemsAt G w b off es n get
  | .zero, v => ∃ a, v = .slice a 0 0
  | .ptr k o, v => ∃ l, φ k = some l ∧ v = .pointer (some ⟨l.blk, l.off + o, none⟩)
  | .vptr k es i o, v => ∃ l, φ k = some l ∧ v = .pointer (some ⟨l.blk, l.off + i * es + o, none⟩)
  | .eptr cells, v => ∃ b off, (G b ∨ V b) ∧ v = .pointer (some ⟨b, off, none⟩) ∧ HoldsAt G w b off cells
  | .own k es off n, v => (n = 0 ∧ ∃ a, v = .slice a 0 0) ∨
      ∃ l, φ k = some l ∧ off + n ≤ l.cap ∧ v = .slice (some ⟨l.blk, l.off + off * es, none⟩) n (l.cap - off)
  | .clo f n caps, v => ∃ vs : List Value, v = .func (.func f) (vs.take n).toArray (vs.drop n).toArray ∧ caps.length = vs.length ∧ ∀ j, j < caps.length → RelCC G φ w (caps.getD j default) (vs.getD j undef)
  | .bsl k o _ n, v => ∃ l cap, φ k = some l ∧ n ≤ cap ∧ v = .slice (some ⟨l.blk, l.off + o, none⟩) n cap

def RelCs (R : C → Value → Prop) : List C → List Value → Prop
  | [], [] => True
  | c :: cs, v :: vs => R c v ∧ RelCs R cs vs
  | _, _ => False

def RelS (R : C → Value → Prop) : Bool × List C → Value → Prop
  | (false, [x]), v => R x v ∧ v.oneCell' = true
  | (true, xs), v => ∃ vs, v = .agg vs ∧ RelCs R xs vs.toList ∧ ∀ u ∈ vs.toList, u.oneCell' = true
  | _, _ => False

def RelSs (R : C → Value → Prop) : List (Bool × List C) → List Value → Prop
  | [], [] => True
  | x :: xs, v :: vs => RelS R x v ∧ RelSs R xs vs
  | _, _ => False

def RelAV (R : C → Value → Prop) : AV → Value → Prop
  | .c .any, _ => True
  | .c x, v => RelS R (false, [x]) v
  | .agg xs, v => RelS R (true, xs) v
  | .tup xs, v => ∃ vs, v = .tuple vs ∧ RelSs R xs vs.toList

def RelSlot (G V : Nat → Prop) (φ : Nat → Option Loc) (w : World) (k : Nat) : Slot → Prop
  | .box cs => ∃ l, φ k = some l ∧ w.there l.blk l.off cs.length ∧ ∃ vs, RelCs (RelC G V φ w) cs vs ∧ (∀ u ∈ vs, u.oneCell' = true) ∧ w.rangeAt l.blk l.off vs
  | .vec es n get => n ≤ maxN ∧ ((φ k = none ∧ n = 0) ∨ ∃ l, φ k = some l ∧ n ≤ l.cap ∧ w.there l.blk l.off (l.cap * es) ∧ ElemsAt G w l.blk l.off es n get)

end Go.Av
