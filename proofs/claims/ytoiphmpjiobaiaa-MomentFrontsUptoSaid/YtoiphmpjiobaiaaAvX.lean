/-
  Av, part X: calls that get variables of the caller's to write.
-/
import Derived.Test.YtoiphmpjiobaiaaAvW
namespace Go.Av
open Go
set_option linter.unusedVariables false
set_option linter.unusedSimpArgs false


def renN (ρ : List (Nat × Nat)) (k : Nat) : Nat := match look ρ k with | some k' => k' | none => k

def CC.ren (ρ : List (Nat × Nat)) : CC → CC
  | .d x => .d x
  | .ptr k o => .ptr (renN ρ k) o

def C.ren (ρ : List (Nat × Nat)) : C → C
  | .ptr k o => .ptr (renN ρ k) o
  | .vptr k es i o => .vptr (renN ρ k) es i o
  | .own k es off n => .own (renN ρ k) es off n
  | .bsl k o es n => .bsl (renN ρ k) o es n
  | .clo f n caps => .clo f n (caps.map (CC.ren ρ))
  | c => c

def AV.ren (ρ : List (Nat × Nat)) : AV → AV
  | .c x => .c (x.ren ρ)
  | .agg xs => .agg (xs.map (C.ren ρ))
  | .tup vs => .tup (vs.map fun p => (p.1, p.2.map (C.ren ρ)))

def Slot.ren (ρ : List (Nat × Nat)) : Slot → Slot
  | .box cs => .box (cs.map (C.ren ρ))
  | .vec es n get => .vec es n get

def CC.inK (ks : List Nat) : CC → Bool
  | .d _ => true
  | .ptr k _ => anyB (Nat.beq k) ks

def allC {α : Type} (f : α → Bool) : List α → Bool
  | [] => true
  | x :: r => match f x with | true => allC f r | false => false

theorem allC_mem {α : Type} {f : α → Bool} : ∀ {l : List α}, allC f l = true → ∀ x ∈ l, f x = true
  | [], _, x, hx => by cases hx
  | y :: r, h, x, hx => by
    simp only [allC] at h
    split at h
    · rename_i hy
      rcases List.mem_cons.1 hx with rfl | hx
      · exact hy
      · exact allC_mem h x hx
    · cases h

def C.lent (ks : List Nat) : C → Bool
  | .any => true
  | .d _ => true
  | .zero => true
  | .ptr k _ => anyB (Nat.beq k) ks
  | .vptr k _ _ _ => anyB (Nat.beq k) ks
  | .own k _ _ _ => anyB (Nat.beq k) ks
  | .bsl k _ _ _ => anyB (Nat.beq k) ks
  | .clo _ _ caps => allC (CC.inK ks) caps
  | _ => false

def AV.lent (ks : List Nat) : AV → Bool
  | .c x => x.lent ks
  | .agg xs => allC (C.lent ks) xs
  | .tup vs => allC (fun p : Bool × List C => allC (C.lent ks) p.2) vs

def Slot.lent (ks : List Nat) : Slot → Bool
  | .box cs => allC (C.lent ks) cs
  | .vec _ _ _ => true

theorem anyK_iff {k : Nat} {ks : List Nat} : anyB (Nat.beq k) ks = true ↔ k ∈ ks := by
  constructor
  · intro h
    induction ks with
    | nil => cases h
    | cons y r ih =>
      simp only [anyB] at h
      split at h
      · rename_i e; rw [Nat.eq_of_beq_eq_true e]; exact List.mem_cons_self ..
      · exact List.mem_cons_of_mem _ (ih h)
  · intro h; exact anyB_true h (by simp)

section
variable {G V V' : Nat → Prop} {φ ψ : Nat → Option Loc} {w : World} {ρ : List (Nat × Nat)} {ks : List Nat}

def Agree (ρ : List (Nat × Nat)) (ks : List Nat) (φ ψ : Nat → Option Loc) : Prop := ∀ k ∈ ks, ψ (renN ρ k) = φ k

theorem CC.ren_rel (ha : Agree ρ ks φ ψ) {x : CC} {v : Value} (hk : x.inK ks = true) : RelCC G ψ w (x.ren ρ) v ↔ RelCC G φ w x v := by
  cases x with
  | d x => exact Iff.rfl
  | ptr k o =>
    have := ha k (anyK_iff.1 hk)
    simp only [CC.ren, RelCC, this]

theorem C.ren_rel (ha : Agree ρ ks φ ψ) {x : C} {v : Value} (hk : x.lent ks = true) : RelC G V ψ w (x.ren ρ) v ↔ RelC G V' φ w x v := by
  cases x with
  | any => exact Iff.rfl
  | d x => exact Iff.rfl
  | zero => exact Iff.rfl
  | view es n get => cases hk
  | eptr cells => cases hk
  | ptr k o => simp only [C.ren, RelC, ha k (anyK_iff.1 hk)]
  | vptr k es i o => simp only [C.ren, RelC, ha k (anyK_iff.1 hk)]
  | own k es off n => simp only [C.ren, RelC, ha k (anyK_iff.1 hk)]
  | bsl k o es n => simp only [C.ren, RelC, ha k (anyK_iff.1 hk)]
  | clo f n caps =>
    have hk : allC (CC.inK ks) caps = true := hk
    have hm := allC_mem hk
    have key : ∀ j u, j < caps.length → (RelCC G ψ w ((caps.map (CC.ren ρ)).getD j default) u ↔ RelCC G φ w (caps.getD j default) u) := fun j u hj => by
      have e1 : caps.getD j default = caps[j] := by rw [List.getD_eq_getElem?_getD, List.getElem?_eq_getElem hj]; rfl
      have e2 : (caps.map (CC.ren ρ)).getD j default = caps[j].ren ρ := by rw [List.getD_eq_getElem?_getD, List.getElem?_map, List.getElem?_eq_getElem hj]; rfl
      rw [e1, e2]
      exact CC.ren_rel ha (hm _ (List.getElem_mem hj))
    simp only [C.ren, RelC, List.length_map]
    constructor
    · rintro ⟨vs, e, hl, hr⟩; exact ⟨vs, e, hl, fun j hj => (key j _ hj).1 (hr j hj)⟩
    · rintro ⟨vs, e, hl, hr⟩; exact ⟨vs, e, hl, fun j hj => (key j _ hj).2 (hr j hj)⟩

theorem RelCs.ren (ha : Agree ρ ks φ ψ) : ∀ {cs : List C} {vs : List Value}, allC (C.lent ks) cs = true → (RelCs (RelC G V ψ w) (cs.map (C.ren ρ)) vs ↔ RelCs (RelC G V' φ w) cs vs)
  | [], [], _ => Iff.rfl
  | c :: cs, v :: vs, h => by
    have h1 := allC_mem h c (List.mem_cons_self ..)
    have h2 : allC (C.lent ks) cs = true := by simp only [allC, h1] at h; exact h
    exact and_congr (C.ren_rel ha h1) (RelCs.ren ha h2)
  | [], _ :: _, _ => Iff.rfl
  | _ :: _, [], _ => Iff.rfl

theorem RelSs.ren (ha : Agree ρ ks φ ψ) : ∀ {xs : List (Bool × List C)} {vs : List Value}, allC (fun p : Bool × List C => allC (C.lent ks) p.2) xs = true →
    (RelSs (RelC G V ψ w) (xs.map fun p => (p.1, p.2.map (C.ren ρ))) vs ↔ RelSs (RelC G V' φ w) xs vs)
  | [], [], _ => Iff.rfl
  | p :: xs, u :: vs, h => by
    have hp := allC_mem h p (List.mem_cons_self ..)
    have h2 : allC (fun p : Bool × List C => allC (C.lent ks) p.2) xs = true := by simp only [allC, hp] at h; exact h
    refine and_congr ?_ (RelSs.ren ha h2)
    rcases p with ⟨b, cs⟩
    cases b with
    | true =>
      constructor
      · rintro ⟨us, e, g1, g2⟩; exact ⟨us, e, (RelCs.ren ha hp).1 g1, g2⟩
      · rintro ⟨us, e, g1, g2⟩; exact ⟨us, e, (RelCs.ren ha hp).2 g1, g2⟩
    | false =>
      match cs, hp with
      | [c], hp =>
        have hc := allC_mem hp c (by simp)
        exact and_congr (C.ren_rel ha hc) Iff.rfl
      | [], _ => exact Iff.rfl
      | _ :: _ :: _, _ => exact Iff.rfl
  | [], _ :: _, _ => Iff.rfl
  | _ :: _, [], _ => Iff.rfl

theorem AV.ren_rel (ha : Agree ρ ks φ ψ) {x : AV} {v : Value} (hk : x.lent ks = true) (h : RelAV (RelC G V' φ w) x v) : RelAV (RelC G V ψ w) (x.ren ρ) v := by
  cases x with
  | c x =>
    by_cases e : x = .any
    · subst e; trivial
    · have : RelS (RelC G V' φ w) (false, [x]) v := by cases x <;> first | exact h | exact (e rfl).elim
      exact relAV_c ((C.ren_rel ha hk).2 this.1) this.2
  | agg xs => obtain ⟨us, e, h1, h2⟩ := h; exact ⟨us, e, (RelCs.ren ha hk).2 h1, h2⟩
  | tup vs => obtain ⟨us, e, h1⟩ := h; exact ⟨us, e, (RelSs.ren ha hk).2 h1⟩

theorem AV.ren_back (ha : Agree ρ ks φ ψ) {x : AV} {v : Value} (hk : x.lent ks = true) (h : RelAV (RelC G V ψ w) (x.ren ρ) v) : RelAV (RelC G V' φ w) x v := by
  cases x with
  | c x =>
    by_cases e : x = .any
    · subst e; trivial
    · have hne : x.ren ρ ≠ .any := by cases x <;> first | exact (e rfl).elim | (intro h; cases h)
      have : RelS (RelC G V ψ w) (false, [x.ren ρ]) v := by
        have h : RelAV (RelC G V ψ w) (.c (x.ren ρ)) v := h
        generalize x.ren ρ = y at *
        cases y <;> first | exact h | exact (hne rfl).elim
      exact relAV_c ((C.ren_rel ha hk).1 this.1) this.2
  | agg xs => obtain ⟨us, e, h1, h2⟩ := h; exact ⟨us, e, (RelCs.ren ha hk).1 h1, h2⟩
  | tup vs => obtain ⟨us, e, h1⟩ := h; exact ⟨us, e, (RelSs.ren ha hk).1 h1⟩

theorem Slot.ren_rel (ha : Agree ρ ks φ ψ) {k : Nat} (hk : k ∈ ks) {c : Slot} (hc : c.lent ks = true) : RelSlot G V ψ w (renN ρ k) (c.ren ρ) ↔ RelSlot G V' φ w k c := by
  have e := ha k hk
  cases c with
  | vec es n get => simp only [Slot.ren, RelSlot, e]
  | box cs =>
    simp only [Slot.ren, RelSlot, e, List.length_map]
    have hc : allC (C.lent ks) cs = true := hc
    constructor
    · rintro ⟨l, hl, ht, vs, h1, h2⟩; exact ⟨l, hl, ht, vs, (RelCs.ren ha hc).1 h1, h2⟩
    · rintro ⟨l, hl, ht, vs, h1, h2⟩; exact ⟨l, hl, ht, vs, (RelCs.ren ha hc).2 h1, h2⟩

end


def keysS (sl : List (Nat × Slot)) : List Nat := sl.map (·.1)

theorem look_keys {sl : List (Nat × Slot)} {k : Nat} {c : Slot} (h : look sl k = some c) : k ∈ keysS sl := List.mem_map.2 ⟨(k, c), look_mem h, rfl⟩

theorem keys_look : ∀ {sl : List (Nat × Slot)} {k : Nat}, k ∈ keysS sl → ∃ c, look sl k = some c
  | [], k, h => by cases h
  | (j, c) :: r, k, h => by
    rw [look_cons]
    by_cases e : j = k
    · exact ⟨c, by rw [if_pos e]⟩
    · rw [if_neg e]
      rcases List.mem_cons.1 h with h | h
      · exact absurd h.symm e
      · exact keys_look h

def renSl (ρ : List (Nat × Nat)) (sl : List (Nat × Slot)) : List (Nat × Slot) := sl.map fun p => (renN ρ p.1, p.2.ren ρ)

theorem look_renSl {ρ : List (Nat × Nat)} : ∀ {sl : List (Nat × Slot)} {k' : Nat} {c' : Slot}, look (renSl ρ sl) k' = some c' → ∃ k c, k' = renN ρ k ∧ look sl k = some c ∧ c' = c.ren ρ
  | [], _, _, h => by cases h
  | (j, c) :: r, k', c', h => by
    simp only [renSl, List.map_cons, look_cons] at h
    by_cases e : renN ρ j = k'
    · rw [if_pos e] at h; cases h; exact ⟨j, c, e.symm, by rw [look_cons, if_pos rfl], rfl⟩
    · rw [if_neg e] at h
      obtain ⟨k, c1, h1, h2, h3⟩ := look_renSl (sl := r) h
      exact ⟨k, c1, h1, by rw [look_cons, if_neg (fun x => e (by rw [h1, x]))]; exact h2, h3⟩

theorem look_app {α : Type} : ∀ {l r : List (Nat × α)} {k : Nat} {x : α}, look (l ++ r) k = some x → look l k = some x ∨ (look l k = none ∧ look r k = some x)
  | [], r, k, x, h => .inr ⟨rfl, h⟩
  | (j, y) :: l, r, k, x, h => by
    simp only [List.cons_append, look_cons] at h ⊢
    by_cases e : j = k
    · rw [if_pos e] at h ⊢; exact .inl h
    · rw [if_neg e] at h ⊢; exact look_app h

def backN (ρ : List (Nat × Nat)) : List Nat → Nat → Option Nat
  | [], _ => none
  | k :: r, k' => match Nat.beq (renN ρ k) k' with | true => some k | false => backN ρ r k'

theorem backN_some {ρ : List (Nat × Nat)} : ∀ {ks : List Nat} {k k' : Nat}, backN ρ ks k' = some k → k ∈ ks ∧ renN ρ k = k'
  | [], _, _, h => by cases h
  | j :: r, k, k', h => by
    simp only [backN] at h
    split at h
    · rename_i e; cases h; exact ⟨List.mem_cons_self .., Nat.eq_of_beq_eq_true e⟩
    · obtain ⟨h1, h2⟩ := backN_some h; exact ⟨List.mem_cons_of_mem _ h1, h2⟩

theorem backN_none {ρ : List (Nat × Nat)} : ∀ {ks : List Nat} {k' : Nat}, backN ρ ks k' = none → ∀ k ∈ ks, renN ρ k ≠ k'
  | [], _, _, k, h => by cases h
  | j :: r, k', h, k, hk => by
    simp only [backN] at h
    split at h
    · cases h
    · rename_i e
      rcases List.mem_cons.1 hk with rfl | hk
      · intro x; rw [x] at e; simp at e
      · exact backN_none h k hk

def injB (ρ : List (Nat × Nat)) (ks : List Nat) : Bool := allC (fun k => allC (fun j => match Nat.beq (renN ρ k) (renN ρ j) with | true => Nat.beq k j | false => true) ks) ks

theorem injB_spec {ρ : List (Nat × Nat)} {ks : List Nat} (h : injB ρ ks = true) {k j : Nat} (hk : k ∈ ks) (hj : j ∈ ks) (e : renN ρ k = renN ρ j) : k = j := by
  have := allC_mem (allC_mem h k hk) j hj
  simp only [e, Nat.beq_refl] at this
  exact Nat.eq_of_beq_eq_true this


def CC.toAV : CC → AV
  | .d x => .c (.d x)
  | .ptr k o => .c (.ptr k o)

def calleeL (s : St) (c : Call) : Option (FuncId × Nat × List CC) :=
  match c.callee with
  | .value x => match evO s x with
    | some (.c (.d (.fn f caps))) => some (f, 0, caps.map .d)
    | some (.c (.clo f n caps)) => some (f, n, caps)
    | _ => none
  | _ => none

def argsL (s : St) (c : Call) (n : Nat) (caps : List CC) : Option (List AV) :=
  match allAV (c.args.toList.map (evO s)) with
  | some xs => some ((caps.map CC.toAV).take n ++ (xs ++ (caps.map CC.toAV).drop n))
  | none => none

def AV.refsAny (ks : List Nat) (x : AV) : Bool := anyB (fun k => x.refs k) ks

inductive AVsArgL (s : St) (ρ : List (Nat × Nat)) (ks im : List Nat) : List AV → List AV → Prop
  | nil : AVsArgL s ρ ks im [] []
  | ren {x y : AV} {xs ys : List AV} (e : x = y.ren ρ) (h : y.lent ks = true) (t : AVsArgL s ρ ks im xs ys) : AVsArgL s ρ ks im (x :: xs) (y :: ys)
  | flat {x y : AV} {xs ys : List AV} (h : AVArg s x y) (hf : y.flat = true) (hn : x.refsAny im = false) (t : AVsArgL s ρ ks im xs ys) : AVsArgL s ρ ks im (x :: xs) (y :: ys)

def LentS (s : St) (ρ : List (Nat × Nat)) (ks : List Nat) : List (Nat × Slot) → Prop
  | [] => True
  | (k, c) :: r => (look s.sl (renN ρ k) = some (c.ren ρ) ∧ c.lent ks = true) ∧ LentS s ρ ks r

theorem LentS.look {s : St} {ρ : List (Nat × Nat)} {ks : List Nat} : ∀ {sl : List (Nat × Slot)}, LentS s ρ ks sl → ∀ {k c}, Av.look sl k = some c → Av.look s.sl (renN ρ k) = some (c.ren ρ) ∧ c.lent ks = true
  | [], _, _, _, h => by cases h
  | (j, c0) :: r, ⟨h1, h2⟩, k, c, h => by
    rw [look_cons] at h
    by_cases e : j = k
    · subst e; rw [if_pos rfl] at h; cases h; exact h1
    · rw [if_neg e] at h; exact LentS.look h2 h

section
variable {E : Env} {s : St} {G : Nat → Prop} {φ : Nat → Option Loc} {a : Act} {w : World}

theorem CArg.relX (h : Sim E s G φ a w) {c c' : C} (hc : CArg s c c') {v : Value} (hv : RelC G E.V φ w c v) (hf : c'.flat = true) {X : Nat → Prop} (hX : ∀ b, E.V b → X b)
    (hS : ∀ k sc l, c.refs k = true → look s.sl k = some sc → φ k = some l → X l.blk) {ψ : Nat → Option Loc} : RelC G X ψ w c' v := by
  cases hc with
  | le hc => exact (C.flat_rel hf hX ((CLe.rel h hc hv).mono (Same.refl _ _) (Same.refl _ _) (fun _ hb => withF_nil hb) fun _ _ => rfl))
  | @own k es off m m' n get get' hk hm hm' hg =>
    subst hm'
    rcases hv with ⟨h0, A, rfl⟩ | ⟨l, hl, hle, rfl⟩
    · exact .inl ⟨h0, A, 0, rfl⟩
    · obtain ⟨hmx, hs | ⟨l', hl', hn, _, he⟩⟩ := h.sl _ _ hk
      · rw [hl] at hs; cases hs.1
      · rw [hl] at hl'; cases hl'
        refine .inr ⟨l.blk, _, _, .inr (hS k _ l (by simp [C.refs]) hk hl), rfl, by omega, by omega, fun i hi => ?_⟩
        rw [hg i hi]
        exact he.part hm i hi
  | @bsl k o es n n' cs ds get' hk hd hl' hn hmx hg =>
    cases hn
    have h2 := CArg.rel h (.bsl hk hd hl' rfl hmx hg) hv rfl (ψ := ψ)
    obtain ⟨l, cap, hl, hc, rfl⟩ := hv
    rcases h2 with ⟨h0, A, cap', e⟩ | ⟨b, off, cap', _, e, g1, g2, g3⟩
    · cases e; exact .inl ⟨rfl, _, _, rfl⟩
    · cases e
      exact .inr ⟨_, _, _, .inr (hS k _ l (by simp [C.refs]) hk hl), rfl, g1, g2, g3⟩

theorem CsArg.relX (h : Sim E s G φ a w) {cs cs' : List C} (hc : CsArg s cs cs') {X : Nat → Prop} (hX : ∀ b, E.V b → X b) {ψ : Nat → Option Loc} :
    ∀ {vs : List Value}, (∀ c ∈ cs, ∀ k sc l, c.refs k = true → look s.sl k = some sc → φ k = some l → X l.blk) → (∀ c ∈ cs', c.flat = true) → RelCs (RelC G E.V φ w) cs vs → RelCs (RelC G X ψ w) cs' vs := by
  induction hc with
  | refl cs =>
    intro vs hS hf hv
    have key : ∀ (cs : List C) (vs : List Value), (∀ c ∈ cs, ∀ k sc l, c.refs k = true → look s.sl k = some sc → φ k = some l → X l.blk) → (∀ c ∈ cs, c.flat = true) → RelCs (RelC G E.V φ w) cs vs → RelCs (RelC G X ψ w) cs vs := by
      intro cs
      induction cs with
      | nil => intro vs _ _ hv; cases vs with | nil => trivial | cons _ _ => exact hv.elim
      | cons c cs ih =>
        intro vs hS hf hv
        cases vs with
        | nil => exact hv.elim
        | cons v vs => exact ⟨CArg.relX h (.le (.refl c)) hv.1 (hf _ (List.mem_cons_self ..)) hX (hS _ (List.mem_cons_self ..)), ih vs (fun c hc => hS c (List.mem_cons_of_mem _ hc)) (fun c hc => hf c (List.mem_cons_of_mem _ hc)) hv.2⟩
    exact key cs vs hS hf hv
  | nil => intro vs _ _ hv; cases vs with | nil => trivial | cons _ _ => exact hv.elim
  | cons hc _ ih =>
    intro vs hS hf hv
    cases vs with
    | nil => exact hv.elim
    | cons v vs => exact ⟨CArg.relX h hc hv.1 (hf _ (List.mem_cons_self ..)) hX (hS _ (List.mem_cons_self ..)), ih (fun c hc => hS c (List.mem_cons_of_mem _ hc)) (fun c hc => hf c (List.mem_cons_of_mem _ hc)) hv.2⟩

theorem AV.refs_of_cell {k : Nat} {x : AV} {c : C} (hc : c ∈ x.cells) (h : c.refs k = true) : x.refs k = true := by
  cases e : x.refs k with
  | true => rfl
  | false => rw [AV.refs_cells e c hc] at h; cases h

theorem AVArg.relX (h : Sim E s G φ a w) {x x' : AV} (hx : AVArg s x x') (hf : x'.flat = true) {v : Value} (hv : RAV E G φ w x v) {X : Nat → Prop} (hX : ∀ b, E.V b → X b)
    (hS : ∀ k sc l, x.refs k = true → look s.sl k = some sc → φ k = some l → X l.blk) {ψ : Nat → Option Loc} : RelAV (RelC G X ψ w) x' v := by
  have hcl := AV.flat_cells hf
  cases hx with
  | refl => exact hv.mono fun c hc v hcv => CArg.relX h (.le (.refl c)) hcv (hcl c hc) hX fun k sc l hr => hS k sc l (AV.refs_of_cell hc hr)
  | @c p q hc =>
    have hq : q.flat = true := hf
    by_cases e : p = .any
    · subst e
      cases hc with
      | le hc => cases hc <;> trivial
    · obtain ⟨h1, h2⟩ := relAV_ptr hv e
      exact relAV_c (hc.relX h h1 hq hX hS) h2
  | agg hc => obtain ⟨us, e, h1, h2⟩ := hv; exact ⟨us, e, hc.relX h hX (fun c hm k sc l hr => hS k sc l (AV.refs_of_cell hm hr)) hcl h1, h2⟩

theorem AVsArgL.rel (h : Sim E s G φ a w) {ρ : List (Nat × Nat)} {ks im : List Nat} {xs ys : List AV} (hx : AVsArgL s ρ ks im xs ys) {X : Nat → Prop} (hX : ∀ b, E.V b → X b)
    (hS : ∀ k sc l, k ∉ im → look s.sl k = some sc → φ k = some l → X l.blk) : ∀ {vs : List Value}, RelAVs (RelC G E.V φ w) xs vs → RelAVs (RelC G X (fun k => φ (renN ρ k)) w) ys vs := by
  induction hx with
  | nil => intro vs hv; cases vs with | nil => trivial | cons _ _ => exact hv.elim
  | ren e hk _ ih =>
    intro vs hv
    cases vs with
    | nil => exact hv.elim
    | cons v vs => subst e; exact ⟨AV.ren_back (fun k _ => rfl) hk hv.1, ih hv.2⟩
  | flat hc hf hn _ ih =>
    intro vs hv
    cases vs with
    | nil => exact hv.elim
    | cons v vs => exact ⟨hc.relX h hf hv.1 hX (fun k sc l hr => hS k sc l (fun hm => by have := anyB_false hn k hm; rw [this] at hr; cases hr)), ih hv.2⟩

theorem ccaps_rel : ∀ {caps : List CC} {us : List Value}, caps.length = us.length → (∀ j, j < caps.length → RelCC G φ w (caps.getD j default) (us.getD j undef)) → RelAVs (RelC G E.V φ w) (caps.map CC.toAV) us
  | [], [], _, _ => trivial
  | x :: xs, u :: us, hl, h => by
    refine ⟨?_, ccaps_rel (by simpa using hl) fun j hj => by have := h (j + 1) (by simpa using hj); simpa using this⟩
    have h0 : RelCC G φ w x u := by have := h 0 (by simp); simpa using this
    cases x with
    | d x => exact relAV_c (x := .d x) h0 (RelD.one h0)
    | ptr k o => obtain ⟨l, hl', rfl⟩ := h0; exact relAV_c (x := .ptr k o) ⟨l, hl', rfl⟩ rfl
  | [], _ :: _, hl, _ => by simp at hl
  | _ :: _, [], hl, _ => by simp at hl

theorem RelAVs.take {R : C → Value → Prop} : ∀ {xs : List AV} {vs : List Value}, RelAVs R xs vs → ∀ n, RelAVs R (xs.take n) (vs.take n)
  | [], [], _, n => by simp [RelAVs]
  | _ :: _, _ :: _, ⟨h1, h2⟩, n => by
    cases n with
    | zero => simp [RelAVs]
    | succ n => exact ⟨h1, RelAVs.take h2 n⟩
  | [], _ :: _, h, _ => h.elim
  | _ :: _, [], h, _ => h.elim

theorem RelAVs.drop {R : C → Value → Prop} : ∀ {xs : List AV} {vs : List Value}, RelAVs R xs vs → ∀ n, RelAVs R (xs.drop n) (vs.drop n)
  | [], [], _, n => by simp [RelAVs]
  | _ :: _, _ :: _, ⟨h1, h2⟩, n => by
    cases n with
    | zero => exact ⟨h1, h2⟩
    | succ n => exact RelAVs.drop h2 n
  | [], _ :: _, h, _ => h.elim
  | _ :: _, [], h, _ => h.elim

theorem call_argsL (h : Sim E s G φ a w) {c : Call} {f : FuncId} {n : Nat} {caps : List CC} {xs : List AV} (hc : calleeL s c = some (f, n, caps)) (hx : argsL s c n caps = some xs) (ty : TypeId) :
    ∃ vs : List Value, (∀ w, (do let d ← resolve a.eval c ty; invoke d.target d.args : Sem Next).run E.P w = (callFunc f vs.toArray).run E.P w) ∧ RelAVs (RelC G E.V φ w) xs vs := by
  obtain ⟨cal, args, ats⟩ := c
  unfold calleeL at hc
  simp only at hc
  have key : ∀ (x : Operand) (us : List Value), a.eval x = .func (.func f) (us.take n).toArray (us.drop n).toArray → cal = .value x → RelAVs (RelC G E.V φ w) (caps.map CC.toAV) us →
      ∃ vs : List Value, (∀ w, (do let d ← resolve a.eval ⟨cal, args, ats⟩ ty; invoke d.target d.args : Sem Next).run E.P w = (callFunc f vs.toArray).run E.P w) ∧ RelAVs (RelC G E.V φ w) xs vs := fun x us hu hcal hr => by
    simp only [argsL] at hx
    split at hx
    · rename_i ys hys
      cases hx
      have h1 := allAV_rel h hys
      refine ⟨us.take n ++ (args.toList.map a.eval ++ us.drop n), fun w => ?_, (hr.take n).append (h1.append (hr.drop n))⟩
      subst hcal
      simp only [resolve, Deferred.ofValue, hu, Sem.run_bind, Sem.run_pure, Result.andThen_ok, invoke]
      congr 2
      apply Array.ext'
      simp
    · cases hx
  split at hc
  · rename_i cal' x
    split at hc
    · rename_i f' caps' hv
      cases hc
      have hfv : RelD G w (.fn f caps') (a.eval x) := (h.ev hv).1
      generalize hu : a.eval x = u at hfv
      cases hfv with
      | fn _ _ us hl hr =>
        refine key x us (by simpa using hu) rfl (ccaps_rel (by simpa using hl) fun j hj => ?_)
        have hj' : j < caps'.length := by simpa using hj
        have : (caps'.map CC.d).getD j default = CC.d (D.at caps' j) := by simp [D.at, List.getD_eq_getElem?_getD, List.getElem?_map, List.getElem?_eq_getElem hj']
        rw [this]
        exact hr j hj'
    · rename_i f' n' caps' hv
      cases hc
      obtain ⟨us, hu, hl, hr⟩ := (h.ev hv).1
      exact key x us hu rfl (ccaps_rel hl hr)
    · cases hc
  · cases hc

def oddK (l r : List Nat) : List Nat := (l.filter fun k => !anyB (Nat.beq k) r) ++ (r.filter fun k => !anyB (Nat.beq k) l)

theorem oddK_mem {l r : List Nat} {k : Nat} (h : k ∈ l ++ r) : k ∈ oddK l r ∨ (k ∈ l ∧ k ∈ r) := by
  unfold oddK
  by_cases h1 : k ∈ l
  · by_cases h2 : k ∈ r
    · exact .inr ⟨h1, h2⟩
    · refine .inl (List.mem_append_left _ (List.mem_filter.2 ⟨h1, ?_⟩))
      cases e : anyB (Nat.beq k) r with
      | true => exact absurd (anyK_iff.1 e) h2
      | false => rfl
  · rcases List.mem_append.1 h with h | h
    · exact absurd h h1
    · refine .inl (List.mem_append_right _ (List.mem_filter.2 ⟨h, ?_⟩))
      cases e : anyB (Nat.beq k) l with
      | true => exact absurd (anyK_iff.1 e) h1
      | false => rfl

def lkOk (lk im im' : List Nat) : Bool := match allC (fun k => anyB (Nat.beq k) lk) im' with | true => true | false => !anyB (fun k => anyB (Nat.beq k) lk) im

theorem One.callL {ops : Array Oper} {o : Oper} {cl : Call} {f : FuncId} {nf : Nat} {caps : List CC} {xs args : List AV} {res : AV} {sl sl' : List (Nat × Slot)} (ρ : List (Nat × Nat)) (s0 : St)
    (hS : Summ E.P f args sl res sl') (hop : o.op = .call cl) (hw : wantedB ops s o = some true) (hd : dstOk E.N o.dst = true) (hc : calleeL s cl = some (f, nf, caps)) (hx : argsL s cl nf caps = some xs)
    (hle : AVsArgL s ρ (keysS sl) ((keysS sl).map (renN ρ)) xs args) (hsl : LentS s ρ (keysS sl) sl) (hinj : injB ρ (keysS sl) = true) (hinj' : injB ρ (keysS sl') = true) (hres : res.lent (keysS sl') = true)
    (hsl' : allC (fun p : Nat × Slot => p.2.lent (keysS sl')) sl' = true) (h0t : ∀ t x, look s0.tm t = some x → look s.tm t = some x) (h0s : ∀ t x, look s0.sl t = some x → look s.sl t = some x)
    (hk0 : allC (fun k => match look s0.sl (renN ρ k) with | some _ => false | none => true) (keysS sl ++ keysS sl') = true) (hodd : allC (fun k => s0.noRef (renN ρ k)) (oddK (keysS sl) (keysS sl')) = true)
    (hfx : allC (fun k => !anyB (Nat.beq (renN ρ k)) E.fx) (oddK (keysS sl) (keysS sl')) = true) (hlk : lkOk E.lk ((keysS sl).map (renN ρ)) ((keysS sl').map (renN ρ)) = true) :
    One E ops o s (putO ⟨s0.tm, renSl ρ sl' ++ s0.sl⟩ o.dst (res.ren ρ)) := fun a w hs => by
  obtain ⟨G, φ, hs⟩ := hs
  obtain ⟨vs, hrun, hrel⟩ := call_argsL hs hc hx o.type
  let ψ : Nat → Option Loc := fun k => φ (renN ρ k)
  -- the lent blocks
  have lentB : ∀ b, Blks ψ sl b → ∃ k c l, look s.sl (renN ρ k) = some c ∧ k ∈ keysS sl ∧ φ (renN ρ k) = some l ∧ b = l.blk := fun b ⟨k, c, l, h1, h2, h3⟩ => ⟨k, _, l, (hsl.look h1).1, look_keys h1, h2, h3⟩
  have nG : ∀ b, G b → ¬ Blks ψ sl b := fun b hb hB => by
    obtain ⟨k, c, l, h1, _, h2, rfl⟩ := lentB b hB
    exact (hs.own _ _ _ h1 h2).1 hb
  have nV : ∀ b, E.V b → ¬ Blks ψ sl b := fun b hb hB => by
    obtain ⟨k, c, l, h1, _, h2, rfl⟩ := lentB b hB
    exact (hs.own _ _ _ h1 h2).2.1 hb
  have vlt : ∀ b, E.V b → b < w.heap.size := fun b hb => Nat.lt_of_lt_of_le (hs.vsz b hb).1 hs.kp.size
  have nS : ∀ k sc l, k ∉ (keysS sl).map (renN ρ) → look s.sl k = some sc → φ k = some l → ¬ Blks ψ sl l.blk := fun k sc l hk h1 h2 hB => by
    obtain ⟨j, c, l', g1, g2, g3, g4⟩ := lentB _ hB
    exact hk (List.mem_map.2 ⟨j, g2, (hs.inj _ _ _ _ _ _ h1 g1 h2 g3 g4).symm⟩)
  have hargs := hle.rel hs (X := fun b => b < w.heap.size ∧ ¬ Blks ψ sl b) (fun b hb => ⟨vlt b hb, nV b hb⟩) (fun k sc l hk h1 h2 => ⟨(hs.own _ _ _ h1 h2).2.2.1, nS k sc l hk h1 h2⟩) hrel
  have hslots : SlotsOk G (fun b => b < w.heap.size ∧ ¬ Blks ψ sl b) ψ w sl :=
    { rel := fun k c hk => by
        obtain ⟨h1, h2⟩ := hsl.look hk
        exact (Slot.ren_rel (fun _ _ => rfl) (look_keys hk) h2).1 (hs.sl _ _ h1)
      inj := fun k k' c c' l l' h1 h2 h3 h4 h5 => by
        have := hs.inj _ _ _ _ _ _ (hsl.look h1).1 (hsl.look h2).1 h3 h4 h5
        exact injB_spec hinj (look_keys h1) (look_keys h2) this
      own := fun k c l h1 h2 => by
        have := hs.own _ _ _ (hsl.look h1).1 h2
        exact ⟨this.1, this.2.2.1⟩ }
  have hact := hS G ψ w vs hs.gsz hslots hargs
  refine ⟨wantedB_spec hs hw, fun next Q hn => ?_⟩
  unfold Oper.wp
  have he : execOp a.eval o = (do let d ← resolve a.eval cl o.type; invoke d.target d.args : Sem Next) := by
    unfold execOp; rw [hop]
  rw [he, hrun]
  refine acts_upon hact fun e w' ⟨v, G', φ', he, hd'⟩ => ⟨v, he, ?_⟩
  let χ : Nat → Option Loc := fun k' => match backN ρ (keysS sl') k' with | some k => φ' k | none => φ k'
  have hagree : Agree ρ (keysS sl') φ' χ := fun k hk => by
    show (match backN ρ (keysS sl') (renN ρ k) with | some k => φ' k | none => φ (renN ρ k)) = φ' k
    cases hb : backN ρ (keysS sl') (renN ρ k) with
    | none => exact absurd rfl (backN_none hb k hk)
    | some j =>
      obtain ⟨h1, h2⟩ := backN_some hb
      rw [injB_spec hinj' h1 hk h2]
  have hsame : ∀ b, b < w.heap.size → ¬ Blks ψ sl b → w'.heap[b]? = w.heap[b]? := fun b h1 h2 => hd'.kp.block b h1 h2
  have sg : Same G w w' := fun b hb => hsame b (hs.gsz b hb) (nG b hb)
  have sv : Same E.V w w' := fun b hb => hsame b (vlt b hb) (nV b hb)
  -- what is spoken of in s0
  have hχ : ∀ k', (s0.noRef k' = false) → χ k' = φ k' ∨ False := fun k' hr => by
    show (match backN ρ (keysS sl') k' with | some k => φ' k | none => φ k') = φ k' ∨ False
    cases hb : backN ρ (keysS sl') k' with
    | none => exact .inl rfl
    | some k =>
      obtain ⟨h1, rfl⟩ := backN_some hb
      rcases oddK_mem (l := keysS sl) (r := keysS sl') (List.mem_append_right _ h1) with h | ⟨h2, _⟩
      · rw [allC_mem hodd k h] at hr; cases hr
      · obtain ⟨c, hc⟩ := keys_look h2
        obtain ⟨c', hc'⟩ := keys_look h1
        exact .inl (hd'.fix k c c' hc hc')
  have tmRef : ∀ t x, look s0.tm t = some x → ∀ c ∈ x.cells, ∀ k, c.refs k = true → χ k = φ k := fun t x hx c hc k hk => by
    refine (hχ k ?_).resolve_right id
    cases e : s0.noRef k with
    | false => rfl
    | true => rw [AV.refs_cells ((St.noRef_spec e).1 _ (look_mem hx)) c hc] at hk; cases hk
  have slRef : ∀ j c, look s0.sl j = some c → ∀ k, Slot.refs k c = true → χ k = φ k := fun j c hc k hk => by
    refine (hχ k ?_).resolve_right id
    cases e : s0.noRef k with
    | false => rfl
    | true => rw [((St.noRef_spec e).2 _ (look_mem hc)).2] at hk; cases hk
  have slNot : ∀ j c, look s0.sl j = some c → ∀ k ∈ keysS sl ++ keysS sl', renN ρ k ≠ j := fun j c hc k hk e => by
    have := allC_mem hk0 k hk
    rw [e, hc] at this
    cases this
  have slχ : ∀ j c, look s0.sl j = some c → χ j = φ j := fun j c hc => by
    show (match backN ρ (keysS sl') j with | some k => φ' k | none => φ j) = φ j
    cases hb : backN ρ (keysS sl') j with
    | none => rfl
    | some k =>
      obtain ⟨h1, h2⟩ := backN_some hb
      exact absurd h2 (slNot j c hc k (List.mem_append_right _ h1))
  have slB : ∀ j c l, look s0.sl j = some c → φ j = some l → l.blk < w.heap.size ∧ ¬ Blks ψ sl l.blk := fun j c l hc hl =>
    ⟨(hs.own _ _ _ (h0s _ _ hc) hl).2.2.1, nS j c l (fun hm => by
      obtain ⟨k, hk, e⟩ := List.mem_map.1 hm
      exact slNot j c hc k (List.mem_append_left _ hk) e) (h0s _ _ hc) hl⟩
  -- the slots that came back
  have hin : ∀ k' c', look (renSl ρ sl' ++ s0.sl) k' = some c' → (∃ k c, k' = renN ρ k ∧ look sl' k = some c ∧ c' = c.ren ρ) ∨ look s0.sl k' = some c' := fun k' c' h => by
    rcases look_app h with h | ⟨_, h⟩
    · exact .inl (look_renSl h)
    · exact .inr h
  have newB : ∀ k c l, look sl' k = some c → φ' k = some l → Blks ψ sl l.blk ∨ w.heap.size ≤ l.blk := hd'.blk
  have hsim : Sim E ⟨s0.tm, renSl ρ sl' ++ s0.sl⟩ G' χ a w' :=
    { hs with
      tm := fun t x hx => by
        obtain ⟨u, hu, hr⟩ := hs.tm t x (h0t t x hx)
        exact ⟨u, hu, hr.mono fun c hc v hcv => hcv.mono sg sv hd'.up (tmRef t x hx c hc)⟩
      sl := fun k' c' hk' => by
        rcases hin k' c' hk' with ⟨k, c, rfl, hc, rfl⟩ | h
        · exact (Slot.ren_rel hagree (look_keys hc) (allC_mem hsl' (k, c) (look_mem hc))).2 (hd'.slots.rel k c hc)
        · exact (hs.sl _ _ (h0s _ _ h)).mono sg sv hd'.up (slχ _ _ h) (slRef _ _ h) fun l hl => by
            obtain ⟨h1, h2⟩ := slB _ _ _ h hl
            exact hsame _ h1 h2
      inj := fun k1 k2 c1 c2 l1 l2 h1 h2 e1 e2 eb => by
        rcases hin _ _ h1 with ⟨j1, d1, rfl, g1, _⟩ | g1 <;> rcases hin _ _ h2 with ⟨j2, d2, rfl, g2, _⟩ | g2
        · rw [hagree _ (look_keys g1)] at e1
          rw [hagree _ (look_keys g2)] at e2
          rw [hd'.slots.inj _ _ _ _ _ _ g1 g2 e1 e2 eb]
        · rw [hagree _ (look_keys g1)] at e1
          rw [slχ _ _ g2] at e2
          obtain ⟨q1, q2⟩ := slB _ _ _ g2 e2
          rcases newB _ _ _ g1 e1 with hb | hb
          · rw [eb] at hb; exact absurd hb q2
          · omega
        · rw [hagree _ (look_keys g2)] at e2
          rw [slχ _ _ g1] at e1
          obtain ⟨q1, q2⟩ := slB _ _ _ g1 e1
          rcases newB _ _ _ g2 e2 with hb | hb
          · rw [← eb] at hb; exact absurd hb q2
          · omega
        · rw [slχ _ _ g1] at e1
          rw [slχ _ _ g2] at e2
          exact hs.inj _ _ _ _ _ _ (h0s _ _ g1) (h0s _ _ g2) e1 e2 eb
      own := fun k' c' l h1 h2 => by
        rcases hin _ _ h1 with ⟨k, c, rfl, g1, _⟩ | g1
        · rw [hagree _ (look_keys g1)] at h2
          obtain ⟨o1, o2⟩ := hd'.slots.own k c l g1 h2
          rcases newB _ _ _ g1 h2 with hb | hb
          · refine ⟨o1, fun hv => nV _ hv hb, o2, ?_⟩
            obtain ⟨j, cj, lj, q1, q2, q3, q4⟩ := lentB _ hb
            rcases (hs.own _ _ _ q1 q3).2.2.2 with p | ⟨p1, p2⟩
            · exact .inl (by omega)
            · refine .inr ⟨?_, by rw [q4]; exact p2⟩
              unfold lkOk at hlk
              split at hlk
              · rename_i hall
                exact anyK_iff.1 (allC_mem hall _ (List.mem_map.2 ⟨k, look_keys g1, rfl⟩))
              · have : anyB (fun k => anyB (Nat.beq k) E.lk) ((keysS sl).map (renN ρ)) = true := anyB_true (List.mem_map.2 ⟨j, q2, rfl⟩) (anyK_iff.2 p1)
                rw [this] at hlk; cases hlk
          · exact ⟨o1, fun hv => by have := vlt _ hv; omega, o2, .inl (Nat.le_trans hs.kp.size hb)⟩
        · rw [slχ _ _ g1] at h2
          obtain ⟨o1, o2, o3, o4⟩ := hs.own _ _ _ (h0s _ _ g1) h2
          refine ⟨fun hg => ?_, o2, Nat.lt_of_lt_of_le o3 hd'.kp.size, o4⟩
          rcases hd'.fr _ hg with hg | hg
          · exact o1 hg
          · omega
      gsz := hd'.sz
      g0 := fun b hb => hd'.up _ (hs.g0 b hb)
      gf := fun b hb => by
        rcases hd'.fr b hb with hb | hb
        · exact hs.gf b hb
        · exact .inr (Nat.le_trans hs.kp.size hb)
      kp := hs.kp.trans ⟨hd'.kp.os, hd'.kp.tape, hd'.kp.output, hd'.kp.size, fun b hb hL => hsame b (Nat.lt_of_lt_of_le hb hs.kp.size) fun hB => by
        obtain ⟨k, c, l, h1, _, h2, rfl⟩ := lentB b hB
        rcases (hs.own _ _ _ h1 h2).2.2.2 with p | p
        · omega
        · exact hL p.2⟩
      fix := fun k' c' hfx' h1 => by
        rcases hin _ _ h1 with ⟨k, c, rfl, g1, _⟩ | g1
        · rw [hagree _ (look_keys g1)]
          rcases oddK_mem (l := keysS sl) (r := keysS sl') (List.mem_append_right _ (look_keys g1)) with h | ⟨h2, _⟩
          · have := allC_mem hfx k h
            rw [anyK_iff.2 hfx'] at this; cases this
          · obtain ⟨c0, hc0⟩ := keys_look h2
            rw [hd'.fix k c0 c hc0 g1]
            exact hs.fix _ _ hfx' (hsl.look hc0).1
        · rw [slχ _ _ g1]
          exact hs.fix _ _ hfx' (h0s _ _ g1) }
  have hresr : RAV E G' χ w' (res.ren ρ) v := AV.ren_rel hagree hres hd'.rel
  refine hn _ _ ⟨G', χ, ?_⟩
  cases hdd : o.dst with
  | none => exact hsim
  | some d =>
    rw [hdd] at hd
    exact hsim.put (Nat.blt_eq.mp hd) hresr

theorem At.callL {L : List Oper} {i : Nat} {K : St → Prop} {o : Oper} {cl : Call} {f : FuncId} {nf : Nat} {caps : List CC} {xs args : List AV} {res : AV} {sl sl' : List (Nat × Slot)} (ρ : List (Nat × Nat)) (tk sk : List Nat) {s0 : St}
    (hS : Summ E.P f args sl res sl') (ho : L[i]? = some o) (hop : o.op = .call cl) (hw : wantedB L.toArray s o = some true) (hd : dstOk E.N o.dst = true) (hc : calleeL s cl = some (f, nf, caps)) (hx : argsL s cl nf caps = some xs)
    (hle : AVsArgL s ρ (keysS sl) ((keysS sl).map (renN ρ)) xs args) (hsl : LentS s ρ (keysS sl) sl) (hinj : injB ρ (keysS sl) = true) (hinj' : injB ρ (keysS sl') = true) (hres : res.lent (keysS sl') = true)
    (hsl' : allC (fun p : Nat × Slot => p.2.lent (keysS sl')) sl' = true) (hk : Av.keep tk sk s = some s0)
    (hk0 : allC (fun k => match look s0.sl (renN ρ k) with | some _ => false | none => true) (keysS sl ++ keysS sl') = true) (hodd : allC (fun k => s0.noRef (renN ρ k)) (oddK (keysS sl) (keysS sl')) = true)
    (hfx : allC (fun k => !anyB (Nat.beq (renN ρ k)) E.fx) (oddK (keysS sl) (keysS sl')) = true) (hlk : lkOk E.lk ((keysS sl).map (renN ρ)) ((keysS sl').map (renN ρ)) = true)
    (s' : St) (he : putO ⟨s0.tm, renSl ρ sl' ++ s0.sl⟩ o.dst (res.ren ρ) = s') (h : At E L (i + 1) s' K) : At E L i s K := by
  have hk2 : (∀ t x, look s0.tm t = some x → look s.tm t = some x) ∧ ∀ t x, look s0.sl t = some x → look s.sl t = some x := by
    unfold Av.keep at hk
    split at hk
    · rename_i tm h1
      split at hk
      · rename_i sl h2
        cases hk
        exact ⟨pickK_look h1, pickK_look h2⟩
      · cases hk
    · cases hk
  exact At.one ho (One.callL ρ s0 hS hop hw hd hc hx hle hsl hinj hinj' hres hsl' hk2.1 hk2.2 hk0 hodd hfx hlk) (he ▸ h)



theorem C.ren_to {V : Nat → Prop} {ψ : Nat → Option Loc} {ρ : List (Nat × Nat)} {x : C} {v : Value} (h : RelC G V φ w x v) (hφ : ∀ k, x.refs k = true → ψ (renN ρ k) = φ k) : RelC G V ψ w (x.ren ρ) v := by
  cases x with
  | any => trivial
  | d x => exact h
  | zero => exact h
  | view es n get => exact h
  | eptr cells => exact h
  | ptr k o => simp only [C.ren, RelC, hφ k (by simp [C.refs])]; exact h
  | vptr k es i o => simp only [C.ren, RelC, hφ k (by simp [C.refs])]; exact h
  | own k es off n => simp only [C.ren, RelC, hφ k (by simp [C.refs])]; exact h
  | bsl k o es n => simp only [C.ren, RelC, hφ k (by simp [C.refs])]; exact h
  | clo f n caps =>
    obtain ⟨vs, e, hl, hr⟩ := h
    refine ⟨vs, e, by simpa using hl, fun j hj => ?_⟩
    have hj : j < caps.length := by simpa using hj
    have e1 : caps.getD j default = caps[j] := by rw [List.getD_eq_getElem?_getD, List.getElem?_eq_getElem hj]; rfl
    have e2 : (caps.map (CC.ren ρ)).getD j default = caps[j].ren ρ := by rw [List.getD_eq_getElem?_getD, List.getElem?_map, List.getElem?_eq_getElem hj]; rfl
    have := hr j hj
    rw [e1] at this
    rw [e2]
    have hm : caps[j] ∈ caps := List.getElem_mem hj
    generalize caps[j] = c at *
    cases c with
    | d x => exact this
    | ptr k o =>
      have : ψ (renN ρ k) = φ k := hφ k (anyB_true (f := CC.refs k) hm (by simp [CC.refs]))
      simp only [CC.ren, RelCC, this]
      assumption

theorem RelCs.ren_to {V : Nat → Prop} {ψ : Nat → Option Loc} {ρ : List (Nat × Nat)} : ∀ {cs : List C} {vs : List Value}, (∀ c ∈ cs, ∀ k, c.refs k = true → ψ (renN ρ k) = φ k) → RelCs (RelC G V φ w) cs vs → RelCs (RelC G V ψ w) (cs.map (C.ren ρ)) vs
  | [], [], _, _ => trivial
  | c :: cs, v :: vs, hφ, h => ⟨C.ren_to h.1 (hφ c (List.mem_cons_self ..)), RelCs.ren_to (fun c hc => hφ c (List.mem_cons_of_mem _ hc)) h.2⟩
  | [], _ :: _, _, h => h.elim
  | _ :: _, [], _, h => h.elim

theorem RelSs.ren_to {V : Nat → Prop} {ψ : Nat → Option Loc} {ρ : List (Nat × Nat)} : ∀ {xs : List (Bool × List C)} {vs : List Value}, (∀ p ∈ xs, ∀ c ∈ p.2, ∀ k, c.refs k = true → ψ (renN ρ k) = φ k) → RelSs (RelC G V φ w) xs vs →
    RelSs (RelC G V ψ w) (xs.map fun p => (p.1, p.2.map (C.ren ρ))) vs
  | [], [], _, _ => trivial
  | p :: xs, u :: vs, hφ, h => by
    refine ⟨?_, RelSs.ren_to (fun p hp => hφ p (List.mem_cons_of_mem _ hp)) h.2⟩
    have hp := hφ p (List.mem_cons_self ..)
    have hx := h.1
    rcases p with ⟨b, cs⟩
    cases b with
    | true => obtain ⟨us, e, g1, g2⟩ := hx; exact ⟨us, e, RelCs.ren_to hp g1, g2⟩
    | false =>
      match cs, hp, hx with
      | [c], hp, hx => exact ⟨C.ren_to hx.1 (hp c (by simp)), hx.2⟩
      | [], _, hx => exact hx.elim
      | _ :: _ :: _, _, hx => exact hx.elim
  | [], _ :: _, _, h => h.elim
  | _ :: _, [], _, h => h.elim

theorem AV.ren_to {V : Nat → Prop} {ψ : Nat → Option Loc} {ρ : List (Nat × Nat)} {x : AV} {v : Value} (h : RelAV (RelC G V φ w) x v) (hφ : ∀ k, x.refs k = true → ψ (renN ρ k) = φ k) : RelAV (RelC G V ψ w) (x.ren ρ) v := by
  have hc : ∀ c ∈ x.cells, ∀ k, c.refs k = true → ψ (renN ρ k) = φ k := fun c hc k hk => hφ k (AV.refs_of_cell hc hk)
  cases x with
  | c x =>
    by_cases e : x = .any
    · subst e; trivial
    · have : RelS (RelC G V φ w) (false, [x]) v := by cases x <;> first | exact h | exact (e rfl).elim
      exact relAV_c (C.ren_to this.1 (hc x (by simp [AV.cells]))) this.2
  | agg xs => obtain ⟨us, e, h1, h2⟩ := h; exact ⟨us, e, RelCs.ren_to hc h1, h2⟩
  | tup vs => obtain ⟨us, e, h1⟩ := h; exact ⟨us, e, RelSs.ren_to (fun p hp c hc' => hc c (List.mem_flatMap.2 ⟨p, hp, hc'⟩)) h1⟩

def renTm (ρ : List (Nat × Nat)) (tm : List (Nat × AV)) : List (Nat × AV) := tm.map fun p => (p.1, p.2.ren ρ)

theorem look_renTm {ρ : List (Nat × Nat)} : ∀ (tm : List (Nat × AV)) (t : Nat), look (renTm ρ tm) t = (look tm t).map (AV.ren ρ)
  | [], t => rfl
  | (j, x) :: r, t => by
    simp only [renTm, List.map_cons, look_cons]
    by_cases e : j = t
    · simp [e]
    · rw [if_neg e, if_neg e]; exact look_renTm r t

theorem Sim.rename (h : Sim E s G φ a w) {k k' : Nat} (hn : s.noRef k' = true) (hfx : anyB (Nat.beq k') E.fx = false) (hlk : lkOk E.lk [k] [k'] = true) :
    Sim E ⟨renTm [(k, k')] s.tm, renSl [(k, k')] s.sl⟩ G (upd φ k' (φ k)) a w := by
  obtain ⟨n1, n2⟩ := St.noRef_spec hn
  have hr : ∀ j, renN [(k, k')] j = if k = j then k' else j := fun j => by
    unfold renN
    simp only [look_cons]
    by_cases e : k = j
    · simp [e]
    · simp [e, look]
  have key : ∀ j, j ≠ k' → upd φ k' (φ k) (renN [(k, k')] j) = φ j := fun j hj => by
    rw [hr]
    by_cases e : k = j
    · rw [if_pos e, upd_same, e]
    · rw [if_neg e, upd_other _ _ _ hj]
  have hin : ∀ j c, look (renSl [(k, k')] s.sl) j = some c → ∃ i c0, j = renN [(k, k')] i ∧ look s.sl i = some c0 ∧ c = c0.ren [(k, k')] ∧ i ≠ k' := fun j c hc => by
    obtain ⟨i, c0, h1, h2, h3⟩ := look_renSl hc
    exact ⟨i, c0, h1, h2, h3, (n2 _ (look_mem h2)).1⟩
  exact
  { h with
    tm := fun t x hx => by
      rw [look_renTm] at hx
      cases hl : look s.tm t with
      | none => rw [hl] at hx; cases hx
      | some x0 =>
        rw [hl] at hx
        cases hx
        obtain ⟨v, hv, hrel⟩ := h.tm t x0 hl
        exact ⟨v, hv, AV.ren_to hrel fun j hj => key j fun e => by rw [e, n1 _ (look_mem hl)] at hj; cases hj⟩
    sl := fun j c hc => by
      obtain ⟨i, c0, rfl, h2, rfl, hne⟩ := hin j c hc
      have := h.sl i c0 h2
      have e := key i hne
      cases c0 with
      | vec es n get => simp only [Slot.ren, RelSlot, e]; exact this
      | box cs =>
        obtain ⟨l, hl, ht, vs, g1, g2, g3⟩ := this
        refine ⟨l, by rw [e]; exact hl, by simpa using ht, vs, RelCs.ren_to (fun c hc j hj => key j fun e => ?_) g1, g2, g3⟩
        have := (n2 _ (look_mem h2)).2
        rw [e, Slot.refs_cells this c hc] at hj
        cases hj
    inj := fun j1 j2 c1 c2 l1 l2 h1 h2 e1 e2 eb => by
      obtain ⟨i1, d1, rfl, g1, _, ne1⟩ := hin _ _ h1
      obtain ⟨i2, d2, rfl, g2, _, ne2⟩ := hin _ _ h2
      rw [key _ ne1] at e1
      rw [key _ ne2] at e2
      rw [h.inj _ _ _ _ _ _ g1 g2 e1 e2 eb]
    own := fun j c l h1 h2 => by
      obtain ⟨i, d, rfl, g, _, ne⟩ := hin _ _ h1
      rw [key _ ne] at h2
      obtain ⟨o1, o2, o3, o4⟩ := h.own _ _ _ g h2
      refine ⟨o1, o2, o3, ?_⟩
      rcases o4 with o4 | ⟨o4, o5⟩
      · exact .inl o4
      · refine .inr ⟨?_, o5⟩
        rw [hr]
        by_cases e : k = i
        · rw [if_pos e]
          subst e
          unfold lkOk at hlk
          split at hlk
          · rename_i hall
            exact anyK_iff.1 (allC_mem hall k' (by simp))
          · have : anyB (fun k => anyB (Nat.beq k) E.lk) [k] = true := anyB_true (by simp) (anyK_iff.2 o4)
            rw [this] at hlk; cases hlk
        · rw [if_neg e]; exact o4
    fix := fun j c hx h1 => by
      obtain ⟨i, d, rfl, g, _, ne⟩ := hin _ _ h1
      rw [key _ ne]
      have hne' : ¬ k = i := fun e => by
        rw [hr, if_pos e] at hx
        exact not_mem_beq hfx hx
      rw [hr, if_neg hne'] at hx ⊢
      exact h.fix _ _ hx g }

theorem SimE.rename (k k' : Nat) (h : SimE E s a w) (hn : s.noRef k' = true) (hfx : anyB (Nat.beq k') E.fx = false) (hlk : lkOk E.lk [k] [k'] = true) {s' : St} (e : (⟨renTm [(k, k')] s.tm, renSl [(k, k')] s.sl⟩ : St) = s') : SimE E s' a w := by
  obtain ⟨G, φ, h⟩ := h
  exact e ▸ ⟨G, _, h.rename hn hfx hlk⟩

theorem Tri.rename (k k' : Nat) (s' : St) {c : Code} {post : Exit → St → Prop} (e : (⟨renTm [(k, k')] s.tm, renSl [(k, k')] s.sl⟩ : St) = s') (hn : s.noRef k' = true) (hfx : anyB (Nat.beq k') E.fx = false) (hlk : lkOk E.lk [k] [k'] = true)
    (h : Tri E c s' post) : Tri E c s post := Tri.weaken (fun _ _ hs => hs.rename k k' hn hfx hlk e) h

theorem At.rename (k k' : Nat) (s' : St) {L : List Oper} {i : Nat} {K : St → Prop} (e : (⟨renTm [(k, k')] s.tm, renSl [(k, k')] s.sl⟩ : St) = s') (hn : s.noRef k' = true) (hfx : anyB (Nat.beq k') E.fx = false) (hlk : lkOk E.lk [k] [k'] = true)
    (h : At E L i s' K) : At E L i s K := fun a w hs => h a w (hs.rename k k' hn hfx hlk e)

theorem SimE.newOwnB {a : Act} {w : World} (h : SimE E s a w) {j i k es : Nat} {cs : List C} {get : Nat → List D} (hkx : anyB (Nat.beq k) E.fx = false) (hz : look s.sl j = some (.box cs)) (hi : cs[i]? = some .zero) (hk : s.noRef k = true) :
    SimE E ((s.slot k (.vec es 0 get)).slot j (.box (cs.set i (.own k es 0 0)))) a w := by
  obtain ⟨G, φ, h⟩ := h
  have hs := h.newVec0 (not_mem_beq hkx) hk es get
  have hjk : k ≠ j := fun e => ((St.noRef_spec hk).2 _ (look_mem hz)).1 e.symm
  have hz' : look (s.slot k (.vec es 0 get)).sl j = some (.box cs) := by simp [St.slot, look_cons, hjk, hz]
  have hrel := hs.sl j _ hz'
  have hin : ∀ j' c, look ((s.slot k (.vec es 0 get)).slot j (.box (cs.set i (.own k es 0 0)))).sl j' = some c → (j' = j ∧ c = .box (cs.set i (.own k es 0 0))) ∨ (j' ≠ j ∧ look (s.slot k (.vec es 0 get)).sl j' = some c) := fun j' c hc => by
    simp only [St.slot, look_cons] at hc ⊢
    by_cases e : j = j'
    · rw [if_pos e] at hc; cases hc; exact .inl ⟨e.symm, rfl⟩
    · rw [if_neg e] at hc; exact .inr ⟨fun x => e x.symm, hc⟩
  have hex : ∀ j' c, look ((s.slot k (.vec es 0 get)).slot j (.box (cs.set i (.own k es 0 0)))).sl j' = some c → ∃ c0, look (s.slot k (.vec es 0 get)).sl j' = some c0 := fun j' c hc => by
    rcases hin j' c hc with ⟨rfl, _⟩ | ⟨_, h⟩
    · exact ⟨_, hz'⟩
    · exact ⟨_, h⟩
  refine ⟨G, upd φ k none, { hs with tm := hs.tm, sl := fun j' c hc => ?_, inj := fun k1 k2 c1 c2 l1 l2 h1 h2 => ?_, own := fun k' c l h1 => ?_, fix := fun k' c hx h1 => ?_ }⟩
  · rcases hin j' c hc with ⟨rfl, rfl⟩ | ⟨_, hc⟩
    · obtain ⟨l, hl, ht, vs, g1, g2, g3⟩ := hrel
      refine ⟨l, hl, by simpa using ht, vs, ?_, g2, g3⟩
      clear hz hz' hin hex hc ht g2 g3
      induction cs generalizing i vs with
      | nil => simp at hi
      | cons c cs ih =>
        cases vs with
        | nil => exact g1.elim
        | cons v vs =>
          cases i with
          | zero =>
            simp at hi
            subst hi
            obtain ⟨A, rfl⟩ := g1.1
            exact ⟨.inl ⟨rfl, A, rfl⟩, g1.2⟩
          | succ i => exact ⟨g1.1, ih (i := i) (by simpa using hi) _ g1.2⟩
    · exact hs.sl _ _ hc
  · obtain ⟨_, h1⟩ := hex _ _ h1
    obtain ⟨_, h2⟩ := hex _ _ h2
    exact hs.inj _ _ _ _ _ _ h1 h2
  · obtain ⟨_, h1⟩ := hex _ _ h1
    exact hs.own _ _ _ h1
  · obtain ⟨_, h1⟩ := hex _ _ h1
    exact hs.fix _ _ hx h1

theorem Tri.newOwnB {c : Code} {post : Exit → St → Prop} {j i k es : Nat} {cs : List C} (get : Nat → List D) (hkx : anyB (Nat.beq k) E.fx = false) (hz : look s.sl j = some (.box cs)) (hi : cs[i]? = some .zero) (hk : s.noRef k = true)
    (h : Tri E c ((s.slot k (.vec es 0 get)).slot j (.box (cs.set i (.own k es 0 0)))) post) : Tri E c s post := fun a w hs => h a w (hs.newOwnB hkx hz hi hk)

theorem At.newOwnB {L : List Oper} {i' : Nat} {K : St → Prop} {j i k es : Nat} {cs : List C} (get : Nat → List D) (hkx : anyB (Nat.beq k) E.fx = false) (hz : look s.sl j = some (.box cs)) (hi : cs[i]? = some .zero) (hk : s.noRef k = true)
    (h : At E L i' ((s.slot k (.vec es 0 get)).slot j (.box (cs.set i (.own k es 0 0)))) K) : At E L i' s K := fun a w hs => h a w (hs.newOwnB hkx hz hi hk)


def SubS : List (Nat × Slot) → List (Nat × Slot) → Prop
  | [], _ => True
  | (k, c) :: r, sl => (look sl k = some c ∧ c.clean = true) ∧ SubS r sl

theorem SubS.out : ∀ {sl' sl : List (Nat × Slot)}, SubS sl' sl → ∀ k c, look sl' k = some c → look sl k = some c ∧ c.clean = true
  | [], _, _, k, c, h => by cases h
  | (j, c0) :: r, sl, ⟨h1, h2⟩, k, c, h => by
    rw [look_cons] at h
    by_cases e : j = k
    · subst e; rw [if_pos rfl] at h; cases h; exact h1
    · rw [if_neg e] at h; exact SubS.out h2 k c h


def dropKeys (ks : List Nat) (sl : List (Nat × Slot)) : List (Nat × Slot) := lessK ks sl

theorem DOk.callL {ops : Array Oper} {o : Oper} {x : DOp} {cl : Call} {f : FuncId} {nf : Nat} {caps : List CC} {xs args : List AV} {res : AV} {sl sl' : List (Nat × Slot)} (ρ : List (Nat × Nat))
    (hS : Summ E.P f args sl res sl') (hop : o.op = .call cl) (hw : ∀ r, wantedB ops (x.need.app r) o = some true) (hd : dstOk E.N o.dst = true)
    (hc : ∀ r, calleeL (x.need.app r) cl = some (f, nf, caps)) (hx : ∀ r, argsL (x.need.app r) cl nf caps = some xs)
    (hle : ∀ r, AVsArgL (x.need.app r) ρ (keysS sl) ((keysS sl).map (renN ρ)) xs args) (hsl : ∀ r, LentS (x.need.app r) ρ (keysS sl) sl) (hinj : injB ρ (keysS sl) = true) (hinj' : injB ρ (keysS sl') = true)
    (hres : res.lent (keysS sl') = true) (hsl' : allC (fun p : Nat × Slot => p.2.lent (keysS sl')) sl' = true)
    (hodd : allC (fun k => (⟨x.need.tm, lessK ((keysS sl ++ keysS sl').map (renN ρ)) x.need.sl⟩ : St).noRef (renN ρ k)) (oddK (keysS sl) (keysS sl')) = true)
    (hmk : allC (fun k => memB (renN ρ k) x.mks) (oddK (keysS sl) (keysS sl')) = true)
    (hfx : allC (fun k => !anyB (Nat.beq (renN ρ k)) E.fx) (oddK (keysS sl) (keysS sl')) = true) (hlk : lkOk E.lk ((keysS sl).map (renN ρ)) ((keysS sl').map (renN ρ)) = true)
    (hcov : allC (fun k => hasKey (renN ρ k) x.eff.sl) (keysS sl ++ keysS sl') = true) (hesl : renSl ρ sl' = x.eff.sl)
    (het : match o.dst with | some d => [(d, res.ren ρ)] = x.eff.tm | none => x.eff.tm = []) : DOk E ops o x := DOk.one fun r hr => by
  let im := (keysS sl ++ keysS sl').map (renN ρ)
  have hle0 : ∀ (l : List (Nat × Slot)) t c, look (lessK im l) t = some c → memB t im = false ∧ look l t = some c := fun l t c h => by
    rw [look_less] at h
    cases hm : memB t im with
    | true => rw [hm] at h; cases h
    | false => rw [hm] at h; exact ⟨rfl, h⟩
  refine (One.callL ρ ⟨x.need.tm ++ r.tm, lessK im (x.need.sl ++ r.sl)⟩ hS hop (hw r) hd (hc r) (hx r) (hle r) (hsl r) hinj hinj' hres hsl' (fun t y h => h) (fun t c h => (hle0 _ t c h).2) ?_ ?_ hfx hlk).weaken fun a w hs => hs.weaken (fun t y hy => ?_) fun t y hy => ?_
  · have : ∀ k ∈ keysS sl ++ keysS sl', (match look (lessK im (x.need.sl ++ r.sl)) (renN ρ k) with | some _ => false | none => true) = true := fun k hk => by
      have hm : memB (renN ρ k) im = true := memB_iff.2 (List.mem_map.2 ⟨k, hk, rfl⟩)
      rw [look_less, hm]
    have key : ∀ l : List Nat, (∀ k ∈ l, (match look (lessK im (x.need.sl ++ r.sl)) (renN ρ k) with | some _ => false | none => true) = true) → allC (fun k => match look (lessK im (x.need.sl ++ r.sl)) (renN ρ k) with | some _ => false | none => true) l = true := by
      intro l
      induction l with
      | nil => intro _; rfl
      | cons k l ih =>
        intro h
        simp only [allC]
        rw [h k (List.mem_cons_self ..)]
        exact ih fun j hj => h j (List.mem_cons_of_mem _ hj)
    exact key _ this
  · have : ∀ k ∈ oddK (keysS sl) (keysS sl'), (⟨x.need.tm ++ r.tm, lessK im (x.need.sl ++ r.sl)⟩ : St).noRef (renN ρ k) = true := fun k hk => by
      have h1 := allC_mem hodd k hk
      have h2 := hr _ (memB_iff.1 (allC_mem hmk k hk))
      rw [lessK_append]
      have h3 : (⟨r.tm, lessK im r.sl⟩ : St).noRef (renN ρ k) = true := by
        obtain ⟨p1, p2⟩ := St.noRef_spec h2
        unfold St.noRef
        have q1 : anyB (fun e : Nat × AV => AV.refs (renN ρ k) e.2) r.tm = false := by
          cases e : anyB (fun e : Nat × AV => AV.refs (renN ρ k) e.2) r.tm with
          | false => rfl
          | true => obtain ⟨y, hy, hy'⟩ := anyB_iff.1 e; rw [p1 y hy] at hy'; cases hy'
        have q2 : anyB (slotRef (renN ρ k)) (lessK im r.sl) = false := by
          cases e : anyB (slotRef (renN ρ k)) (lessK im r.sl) with
          | false => rfl
          | true =>
            obtain ⟨y, hy, hy'⟩ := anyB_iff.1 e
            have hmem : ∀ l : List (Nat × Slot), y ∈ lessK im l → y ∈ l := by
              intro l
              induction l with
              | nil => intro h; exact h
              | cons z l ih =>
                rcases z with ⟨zk, zc⟩
                intro h
                simp only [lessK] at h
                split at h
                · exact List.mem_cons_of_mem _ (ih h)
                · rcases List.mem_cons.1 h with h | h
                  · rw [h]; exact List.mem_cons_self ..
                  · exact List.mem_cons_of_mem _ (ih h)
            obtain ⟨u1, u2⟩ := p2 y (hmem _ hy)
            unfold slotRef at hy'
            have hb : Nat.beq y.1 (renN ρ k) = false := by
              cases hb : Nat.beq y.1 (renN ρ k) with
              | false => rfl
              | true => exact absurd (Nat.eq_of_beq_eq_true hb) u1
            rw [hb] at hy'
            simp only [u2] at hy'
            cases hy'
        simp only [q1, q2]
      exact St.noRef_app (n := ⟨x.need.tm, lessK im x.need.sl⟩) (r := ⟨r.tm, lessK im r.sl⟩) h1 h3
    have key : ∀ l : List Nat, (∀ k ∈ l, (⟨x.need.tm ++ r.tm, lessK im (x.need.sl ++ r.sl)⟩ : St).noRef (renN ρ k) = true) → allC (fun k => (⟨x.need.tm ++ r.tm, lessK im (x.need.sl ++ r.sl)⟩ : St).noRef (renN ρ k)) l = true := by
      intro l
      induction l with
      | nil => intro _; rfl
      | cons k l ih =>
        intro h
        simp only [allC]
        rw [h k (List.mem_cons_self ..)]
        exact ih fun j hj => h j (List.mem_cons_of_mem _ hj)
    exact key _ this
  · cases hdd : o.dst with
    | none =>
      rw [hdd] at het
      have het : x.eff.tm = [] := het
      simp only [St.app, het, List.nil_append] at hy
      exact hy
    | some d =>
      rw [hdd] at het
      have het : [(d, res.ren ρ)] = x.eff.tm := het
      simp only [St.app, ← het] at hy
      exact hy
  · have h1 : look (renSl ρ sl' ++ lessK im (x.need.sl ++ r.sl)) t = some y := by
      simp only [St.app, ← hesl] at hy
      rw [look_append] at hy ⊢
      cases he : look (renSl ρ sl') t with
      | some z => rw [he] at hy; exact hy
      | none =>
        rw [he] at hy
        simp only at hy ⊢
        rw [look_less]
        cases hm : memB t im with
        | false => exact hy
        | true =>
          obtain ⟨k, hk, rfl⟩ := List.mem_map.1 (memB_iff.1 hm)
          obtain ⟨z, hz⟩ := hasKey_iff.1 (allC_mem hcov k hk)
          rw [← hesl, he] at hz; cases hz
    cases hdd : o.dst with
    | none => exact h1
    | some d => exact h1

end
end Go.Av
