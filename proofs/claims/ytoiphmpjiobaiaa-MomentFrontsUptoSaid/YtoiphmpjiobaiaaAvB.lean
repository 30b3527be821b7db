/-
  Av, part B: states, and how they stand to the model's.
-/
import Derived.Test.YtoiphmpjiobaiaaAvA
namespace Go.Av
open Go
set_option linter.unusedVariables false
set_option linter.unusedSimpArgs false

def look {α : Type} : List (Nat × α) → Nat → Option α
  | [], _ => none
  | (k, v) :: r, t => match Nat.beq k t with | true => some v | false => look r t

theorem look_cons {α : Type} (k : Nat) (v : α) (r : List (Nat × α)) (t : Nat) : look ((k, v) :: r) t = if k = t then some v else look r t := by
  simp only [look]
  by_cases h : k = t
  · subst h; simp
  · have : Nat.beq k t = false := by
      cases e : Nat.beq k t with
      | false => rfl
      | true => exact absurd (Nat.eq_of_beq_eq_true e) h
    simp [this, h]

def CC.refs (k : Nat) : CC → Bool
  | .d _ => false
  | .ptr k' _ => Nat.beq k' k

def anyB {α : Type} (f : α → Bool) : List α → Bool
  | [] => false
  | x :: r => match f x with | true => true | false => anyB f r

def C.refs (k : Nat) : C → Bool
  | .ptr k' _ => Nat.beq k' k
  | .vptr k' _ _ _ => Nat.beq k' k
  | .own k' _ _ _ => Nat.beq k' k
  | .bsl k' _ _ _ => Nat.beq k' k
  | .clo _ _ caps => anyB (CC.refs k) caps
  | _ => false

theorem anyB_false {α : Type} {f : α → Bool} {l : List α} (h : anyB f l = false) : ∀ x ∈ l, f x = false := by
  induction l with
  | nil => simp
  | cons y r ih =>
    simp only [anyB] at h
    cases hy : f y with
    | true => simp [hy] at h
    | false =>
      simp only [hy] at h
      intro x hx
      rcases List.mem_cons.1 hx with rfl | hx
      · exact hy
      · exact ih h x hx

def AV.refs (k : Nat) : AV → Bool
  | .c x => x.refs k
  | .agg xs => anyB (C.refs k) xs
  | .tup vs => anyB (fun p : Bool × List C => anyB (C.refs k) p.2) vs

def Slot.refs (k : Nat) : Slot → Bool
  | .box cs => anyB (C.refs k) cs
  | .vec _ _ _ => false

theorem not_mem_beq {k : Nat} {l : List Nat} (h : anyB (Nat.beq k) l = false) : k ∉ l := fun hm => by
  have := anyB_false h k hm
  simp at this

structure St where
  tm : List (Nat × AV)
  sl : List (Nat × Slot)

def St.put (s : St) (d : Nat) (x : AV) : St := { s with tm := (d, x) :: s.tm }
def St.slot (s : St) (k : Nat) (c : Slot) : St := { s with sl := (k, c) :: s.sl }

def slotRef (k : Nat) (e : Nat × Slot) : Bool := match Nat.beq e.1 k with | true => true | false => Slot.refs k e.2

def St.noRef (s : St) (k : Nat) : Bool :=
  match anyB (fun e : Nat × AV => AV.refs k e.2) s.tm with
  | true => false
  | false => match anyB (slotRef k) s.sl with
    | true => false
    | false => true

structure Env where
  P : Program
  w0 : World
  G0 : Nat → Prop
  V : Nat → Prop
  L : Nat → Prop
  lk : List Nat
  N : Nat
  φ0 : Nat → Option Loc
  fx : List Nat

structure Keep (n : Nat) (L : Nat → Prop) (w w' : World) : Prop where
  os : w'.os = w.os
  tape : w'.tape = w.tape
  output : w'.output = w.output
  size : w.heap.size ≤ w'.heap.size
  block : ∀ b, b < n → ¬ L b → w'.heap[b]? = w.heap[b]?

theorem Keep.refl (n : Nat) (L : Nat → Prop) (w : World) : Keep n L w w := ⟨rfl, rfl, rfl, Nat.le_refl _, fun _ _ _ => rfl⟩
theorem Keep.trans {n : Nat} {L : Nat → Prop} {a b c : World} (h : Keep n L a b) (k : Keep n L b c) : Keep n L a c :=
  ⟨k.os.trans h.os, k.tape.trans h.tape, k.output.trans h.output, Nat.le_trans h.size k.size, fun i hi hl => (k.block i hi hl).trans (h.block i hi hl)⟩
theorem Keep.mono {n m : Nat} {L L' : Nat → Prop} {a b : World} (h : Keep n L a b) (hm : m ≤ n) (hl : ∀ b, b < m → L b → L' b) : Keep m L' a b :=
  ⟨h.os, h.tape, h.output, h.size, fun i hi hL => h.block i (Nat.lt_of_lt_of_le hi hm) (fun k => hL (hl i hi k))⟩

structure Sim (E : Env) (s : St) (G : Nat → Prop) (φ : Nat → Option Loc) (a : Act) (w : World) : Prop where
  df : a.defers = []
  sz : a.tmps.size = E.N
  tm : ∀ t x, look s.tm t = some x → ∃ v, a.tmps[t]? = some v ∧ RelAV (RelC G E.V φ w) x v
  sl : ∀ k c, look s.sl k = some c → RelSlot G E.V φ w k c
  inj : ∀ k k' c c' l l', look s.sl k = some c → look s.sl k' = some c' → φ k = some l → φ k' = some l' → l.blk = l'.blk → k = k'
  own : ∀ k c l, look s.sl k = some c → φ k = some l → ¬ G l.blk ∧ ¬ E.V l.blk ∧ l.blk < w.heap.size ∧ (E.w0.heap.size ≤ l.blk ∨ (k ∈ E.lk ∧ E.L l.blk))
  gsz : ∀ b, G b → b < w.heap.size
  g0 : ∀ b, E.G0 b → G b
  gf : ∀ b, G b → E.G0 b ∨ E.w0.heap.size ≤ b
  vsz : ∀ b, E.V b → b < E.w0.heap.size ∧ ¬ E.L b
  gl : ∀ b, E.G0 b → b < E.w0.heap.size ∧ ¬ E.L b
  kp : Keep E.w0.heap.size E.L E.w0 w
  fix : ∀ k c, k ∈ E.fx → look s.sl k = some c → φ k = E.φ0 k
  fxN : ∀ k, k ∈ E.fx → E.N ≤ k


theorem HoldsAt.mono {G G' : Nat → Prop} {w w' : World} {b off : Nat} {cells : List D} (h : HoldsAt G w b off cells) (hs : Same G w w') (hg : ∀ b, G b → G' b)
    (hb : w'.heap[b]? = w.heap[b]?) : HoldsAt G' w' b off cells := fun j hj => by
  obtain ⟨u, hu, hr⟩ := h j hj
  exact ⟨u, by rw [World.cell?_of_block (w := w) hb]; exact hu, hr.mono hs hg⟩

theorem ElemsAt.mono {G G' : Nat → Prop} {w w' : World} {b off es n : Nat} {get : Nat → List D} (h : ElemsAt G w b off es n get) (hs : Same G w w') (hg : ∀ b, G b → G' b)
    (hb : w'.heap[b]? = w.heap[b]?) : ElemsAt G' w' b off es n get := fun i hi => ⟨(h i hi).1, (h i hi).2.mono hs hg hb⟩

theorem anyB_true {α : Type} {f : α → Bool} {l : List α} {x : α} (hx : x ∈ l) (h : f x = true) : anyB f l = true := by
  cases e : anyB f l with
  | true => rfl
  | false => rw [anyB_false e x hx] at h; cases h

theorem RelCC.mono {G G' : Nat → Prop} {φ φ' : Nat → Option Loc} {w w' : World} {x : CC} {v : Value} (h : RelCC G φ w x v) (hs : Same G w w')
    (hg : ∀ b, G b → G' b) (hφ : ∀ k, x.refs k = true → φ' k = φ k) : RelCC G' φ' w' x v := by
  cases x with
  | d x => exact RelD.mono hs hg h
  | ptr k o => obtain ⟨l, hl, rfl⟩ := h; exact ⟨l, by rw [hφ k (by simp [CC.refs])]; exact hl, rfl⟩

theorem RelC.mono {G G' V : Nat → Prop} {φ φ' : Nat → Option Loc} {w w' : World} {x : C} {v : Value} (h : RelC G V φ w x v) (hs : Same G w w') (hv : Same V w w')
    (hg : ∀ b, G b → G' b) (hφ : ∀ k, x.refs k = true → φ' k = φ k) : RelC G' V φ' w' x v := by
  cases x with
  | any => trivial
  | d x => exact RelD.mono hs hg h
  | view es n get =>
    rcases h with h | ⟨b, off, cap, hb, rfl, hn, hm, he⟩
    · exact .inl h
    · exact .inr ⟨b, off, cap, hb.imp (hg b) id, rfl, hn, hm, he.mono hs hg (hb.elim (hs b) (hv b))⟩
  | zero => exact h
  | ptr k o => obtain ⟨l, hl, rfl⟩ := h; exact ⟨l, by rw [hφ k (by simp [C.refs])]; exact hl, rfl⟩
  | vptr k es i o => obtain ⟨l, hl, rfl⟩ := h; exact ⟨l, by rw [hφ k (by simp [C.refs])]; exact hl, rfl⟩
  | eptr cells =>
    obtain ⟨b, off, hb, rfl, he⟩ := h
    exact ⟨b, off, hb.imp (hg b) id, rfl, he.mono hs hg (hb.elim (hs b) (hv b))⟩
  | own k es off n =>
    have e := hφ k (by simp [C.refs])
    rcases h with h | ⟨l, hl, h2⟩
    · exact .inl h
    · exact .inr ⟨l, by rw [e]; exact hl, h2⟩
  | bsl k o es n => obtain ⟨l, cap, hl, h2⟩ := h; exact ⟨l, cap, by rw [hφ k (by simp [C.refs])]; exact hl, h2⟩
  | clo f n caps =>
    obtain ⟨vs, e, hl, hr⟩ := h
    refine ⟨vs, e, hl, fun j hj => (hr j hj).mono hs hg fun k hk => hφ k ?_⟩
    have hm : caps.getD j default ∈ caps := by rw [List.getD_eq_getElem?_getD, List.getElem?_eq_getElem hj]; exact List.getElem_mem hj
    exact anyB_true (f := CC.refs k) hm hk

theorem RelCs.mono {R R' : C → Value → Prop} : ∀ {cs : List C} {vs : List Value}, RelCs R cs vs → (∀ c ∈ cs, ∀ v, R c v → R' c v) → RelCs R' cs vs
  | [], [], _, _ => trivial
  | _ :: _, _ :: _, ⟨h1, h2⟩, h => ⟨h _ (List.mem_cons_self ..) _ h1, RelCs.mono h2 fun c hc => h c (List.mem_cons_of_mem _ hc)⟩
  | [], _ :: _, h, _ => h.elim
  | _ :: _, [], h, _ => h.elim

theorem RelCs.length {R : C → Value → Prop} : ∀ {cs : List C} {vs : List Value}, RelCs R cs vs → cs.length = vs.length
  | [], [], _ => rfl
  | _ :: _, _ :: _, ⟨_, h2⟩ => by simp [RelCs.length h2]
  | [], _ :: _, h => h.elim
  | _ :: _, [], h => h.elim

theorem RelCs.get {R : C → Value → Prop} : ∀ {cs : List C} {vs : List Value}, RelCs R cs vs → ∀ (j : Nat) (c : C), cs[j]? = some c → ∃ v, vs[j]? = some v ∧ R c v
  | [], [], _, j, c, h => by simp at h
  | _ :: _, _ :: _, ⟨h1, h2⟩, j, c, h => by
    cases j with
    | zero => simp at h; subst h; exact ⟨_, rfl, h1⟩
    | succ j => simp at h; obtain ⟨v, hv, hr⟩ := RelCs.get h2 j c h; exact ⟨v, by simpa using hv, hr⟩
  | [], _ :: _, h, _, _, _ => h.elim
  | _ :: _, [], h, _, _, _ => h.elim

theorem RelCs.take {R : C → Value → Prop} : ∀ {cs : List C} {vs : List Value}, RelCs R cs vs → ∀ n, RelCs R (cs.take n) (vs.take n)
  | [], [], _, n => by simp [RelCs]
  | _ :: _, _ :: _, ⟨h1, h2⟩, n => by
    cases n with
    | zero => simp [RelCs]
    | succ n => exact ⟨h1, RelCs.take h2 n⟩
  | [], _ :: _, h, _ => h.elim
  | _ :: _, [], h, _ => h.elim

theorem RelCs.drop {R : C → Value → Prop} : ∀ {cs : List C} {vs : List Value}, RelCs R cs vs → ∀ n, RelCs R (cs.drop n) (vs.drop n)
  | [], [], _, n => by simp [RelCs]
  | _ :: _, _ :: _, ⟨h1, h2⟩, n => by
    cases n with
    | zero => exact ⟨h1, h2⟩
    | succ n => exact RelCs.drop h2 n
  | [], _ :: _, h, _ => h.elim
  | _ :: _, [], h, _ => h.elim

theorem RelCs.append {R : C → Value → Prop} : ∀ {cs : List C} {vs : List Value} {cs' : List C} {vs' : List Value}, RelCs R cs vs → RelCs R cs' vs' → RelCs R (cs ++ cs') (vs ++ vs')
  | [], [], _, _, _, h => h
  | _ :: _, _ :: _, _, _, ⟨h1, h2⟩, h => ⟨h1, RelCs.append h2 h⟩
  | [], _ :: _, _, _, h, _ => h.elim
  | _ :: _, [], _, _, h, _ => h.elim

theorem RelS.mono {R R' : C → Value → Prop} {x : Bool × List C} {v : Value} (h : RelS R x v) (hR : ∀ c ∈ x.2, ∀ v, R c v → R' c v) : RelS R' x v := by
  rcases x with ⟨b, cs⟩
  cases b with
  | true => obtain ⟨vs, e, h, h1⟩ := h; exact ⟨vs, e, h.mono hR, h1⟩
  | false =>
    match cs, h, hR with
    | [c], h, hR => exact ⟨hR c (by simp) _ h.1, h.2⟩
    | [], h, _ => exact h.elim
    | _ :: _ :: _, h, _ => exact h.elim

theorem RelSs.mono {R R' : C → Value → Prop} : ∀ {xs : List (Bool × List C)} {vs : List Value}, RelSs R xs vs → (∀ x ∈ xs, ∀ c ∈ x.2, ∀ v, R c v → R' c v) → RelSs R' xs vs
  | [], [], _, _ => trivial
  | _ :: _, _ :: _, ⟨h1, h2⟩, h => ⟨h1.mono (h _ (List.mem_cons_self ..)), RelSs.mono h2 fun x hx => h x (List.mem_cons_of_mem _ hx)⟩
  | [], _ :: _, h, _ => h.elim
  | _ :: _, [], h, _ => h.elim

def AV.cells : AV → List C
  | .c x => [x]
  | .agg xs => xs
  | .tup vs => vs.flatMap (·.2)

theorem RelAV.mono {R R' : C → Value → Prop} {x : AV} {v : Value} (h : RelAV R x v) (hR : ∀ c ∈ x.cells, ∀ v, R c v → R' c v) : RelAV R' x v := by
  cases x with
  | c x => cases x <;> first | trivial | exact RelS.mono (x := (false, [_])) h hR
  | agg xs => exact RelS.mono (x := (true, xs)) h hR
  | tup vs =>
    obtain ⟨us, e, h⟩ := h
    exact ⟨us, e, h.mono fun x hx c hc => hR c (List.mem_flatMap.2 ⟨x, hx, hc⟩)⟩

theorem AV.refs_cells {k : Nat} {x : AV} (h : x.refs k = false) : ∀ c ∈ x.cells, c.refs k = false := by
  cases x with
  | c x => intro c hc; simp [AV.cells] at hc; subst hc; exact h
  | agg xs => exact anyB_false h
  | tup vs =>
    intro c hc
    obtain ⟨p, hp, hc⟩ := List.mem_flatMap.1 hc
    exact anyB_false (anyB_false h p hp) c hc

theorem Slot.refs_cells {k : Nat} {cs : List C} (h : (Slot.box cs).refs k = false) : ∀ c ∈ cs, c.refs k = false := anyB_false h

theorem RelSlot.mono {G G' V : Nat → Prop} {φ φ' : Nat → Option Loc} {w w' : World} {k : Nat} {c : Slot} (h : RelSlot G V φ w k c) (hs : Same G w w') (hv : Same V w w')
    (hg : ∀ b, G b → G' b) (hφ : φ' k = φ k) (hr : ∀ k', Slot.refs k' c = true → φ' k' = φ k') (hb : ∀ l, φ k = some l → w'.heap[l.blk]? = w.heap[l.blk]?) : RelSlot G' V φ' w' k c := by
  have cell : ∀ l, φ k = some l → ∀ o, w'.cell? ⟨l.blk, o, none⟩ = w.cell? ⟨l.blk, o, none⟩ := fun l hl o => World.cell?_of_block (w := w) (hb l hl)
  have frz : ∀ l, φ k = some l → ∀ o, w'.frozen? ⟨l.blk, o, none⟩ = w.frozen? ⟨l.blk, o, none⟩ := fun l hl o => World.frozen?_of_block (w := w) (hb l hl)
  cases c with
  | box cs =>
    obtain ⟨l, hl, ht, vs, h1, h2, h3⟩ := h
    refine ⟨l, by rw [hφ]; exact hl, fun j hj => ?_, vs, h1.mono fun c hc v h => h.mono hs hv hg fun k' hk' => hr k' ?_, h2, fun j v hj => by rw [cell l hl]; exact h3 j v hj⟩
    · rw [cell l hl, frz l hl]; exact ht j hj
    · cases e : Slot.refs k' (.box cs) with
      | true => rfl
      | false => rw [Slot.refs_cells e c hc] at hk'; cases hk'
  | vec es n get =>
    refine ⟨h.1, h.2.imp (fun h => ⟨by rw [hφ]; exact h.1, h.2⟩) fun ⟨l, hl, hn, ht, he⟩ => ⟨l, by rw [hφ]; exact hl, hn, fun j hj => ?_, he.mono hs hg (hb l hl)⟩⟩
    rw [cell l hl, frz l hl]; exact ht j hj

theorem St.noRef_spec {s : St} {k : Nat} (h : s.noRef k = true) :
    (∀ e ∈ s.tm, e.2.refs k = false) ∧ ∀ e ∈ s.sl, e.1 ≠ k ∧ e.2.refs k = false := by
  unfold St.noRef at h
  cases h1 : anyB (fun e : Nat × AV => AV.refs k e.2) s.tm with
  | true => simp [h1] at h
  | false =>
    simp only [h1] at h
    cases h2 : anyB (slotRef k) s.sl with
    | true => simp [h2] at h
    | false =>
      refine ⟨anyB_false h1, fun e he => ?_⟩
      have := anyB_false h2 e he
      unfold slotRef at this
      cases hb : Nat.beq e.1 k with
      | true => simp [hb] at this
      | false => simp only [hb] at this; exact ⟨fun e => by rw [e] at hb; simp at hb, this⟩

theorem look_mem {α : Type} {l : List (Nat × α)} {t : Nat} {x : α} (h : look l t = some x) : (t, x) ∈ l := by
  induction l with
  | nil => simp [look] at h
  | cons e r ih =>
    rcases e with ⟨k, v⟩
    rw [look_cons] at h
    split at h
    · rename_i e; subst e; cases h; exact List.mem_cons_self ..
    · exact List.mem_cons_of_mem _ (ih h)

section
variable {E : Env} {s : St} {G : Nat → Prop} {φ : Nat → Option Loc} {a : Act} {w : World}

theorem Sim.put (h : Sim E s G φ a w) {d : Nat} (hd : d < E.N) {x : AV} {v : Value} (hx : RelAV (RelC G E.V φ w) x v) : Sim E (s.put d x) G φ (a.put (some d) v) w :=
  { h with
    sz := by simp [Act.put, h.sz]
    tm := fun t y hy => by
      simp only [St.put, look_cons] at hy
      simp only [Act.put, Array.getElem?_setIfInBounds]
      by_cases e : d = t
      · subst e
        rw [if_pos rfl] at hy
        cases hy
        exact ⟨v, by simp [h.sz, hd], hx⟩
      · rw [if_neg e] at hy
        simpa [e] using h.tm t y hy }

theorem Sim.world (h : Sim E s G φ a w) {w' : World} (hh : w'.heap = w.heap) (ho : w'.os = w.os) (ht : w'.tape = w.tape) (hu : w'.output = w.output) : Sim E s G φ a w' := by
  have sm : ∀ G, Same G w w' := fun G b _ => by rw [hh]
  exact
  { h with
    tm := fun t x hx => by obtain ⟨v, hv, hr⟩ := h.tm t x hx; exact ⟨v, hv, hr.mono fun c _ v hc => hc.mono (sm _) (sm _) (fun _ h => h) fun _ _ => rfl⟩
    sl := fun k c hc => (h.sl k c hc).mono (sm _) (sm _) (fun _ h => h) rfl (fun _ _ => rfl) fun l _ => by rw [hh]
    own := fun k c l h1 h2 => by rw [hh]; exact h.own k c l h1 h2
    gsz := fun b hb => by rw [hh]; exact h.gsz b hb
    kp := h.kp.trans ⟨ho, ht, hu, by rw [hh]; exact Nat.le_refl _, fun b _ _ => by rw [hh]⟩ }

theorem Sim.weaken (h : Sim E s G φ a w) {s' : St} (ht : ∀ t x, look s'.tm t = some x → look s.tm t = some x) (hs : ∀ k c, look s'.sl k = some c → look s.sl k = some c) : Sim E s' G φ a w :=
  { h with
    tm := fun t x hx => h.tm t x (ht t x hx)
    sl := fun k c hc => h.sl k c (hs k c hc)
    inj := fun k k' c c' l l' h1 h2 => h.inj k k' c c' l l' (hs _ _ h1) (hs _ _ h2)
    own := fun k c l h1 h2 => h.own k c l (hs _ _ h1) h2
    fix := fun k c hk h1 => h.fix k c hk (hs _ _ h1) }

def upd (φ : Nat → Option Loc) (k : Nat) (l : Option Loc) : Nat → Option Loc := fun k' => if k' = k then l else φ k'
theorem upd_same (φ : Nat → Option Loc) (k : Nat) (l : Option Loc) : upd φ k l k = l := by simp [upd]
theorem upd_other (φ : Nat → Option Loc) (k : Nat) (l : Option Loc) {k' : Nat} (h : k' ≠ k) : upd φ k l k' = φ k' := by simp [upd, h]

theorem C.refs_ne {k k' : Nat} {c : C} (h : c.refs k = false) (h' : c.refs k' = true) : k' ≠ k := fun e => by rw [e, h] at h'; cases h'

theorem not_G_size (h : Sim E s G φ a w) : ¬ G w.heap.size := fun hg => Nat.lt_irrefl _ (h.gsz _ hg)
theorem not_V_size (h : Sim E s G φ a w) : ¬ E.V w.heap.size := fun hg => Nat.lt_irrefl _ (Nat.lt_of_lt_of_le (h.vsz _ hg).1 h.kp.size)

theorem Sim.same_of_lt (h : Sim E s G φ a w) {w' : World} (hb : ∀ b, b < w.heap.size → w'.heap[b]? = w.heap[b]?) : Same G w w' ∧ Same E.V w w' :=
  ⟨fun b hg => hb b (h.gsz b hg), fun b hv => hb b (Nat.lt_of_lt_of_le (h.vsz b hv).1 h.kp.size)⟩

theorem Sim.allocW (h : Sim E s G φ a w) {w' : World} (hb : ∀ b, b < w.heap.size → w'.heap[b]? = w.heap[b]?) (hz : w'.heap.size = w.heap.size + 1) (ho : w'.os = w.os) (ht : w'.tape = w.tape) (hu : w'.output = w.output)
    {k : Nat} (hkx : k ∉ E.fx) (hk : s.noRef k = true) {c : Slot} {l : Loc} (hl : l.blk = w.heap.size)
    (hc : RelSlot G E.V (upd φ k (some l)) w' k c) : Sim E (s.slot k c) G (upd φ k (some l)) a w' := by
  obtain ⟨n1, n2⟩ := St.noRef_spec hk
  obtain ⟨sg, sv⟩ := h.same_of_lt hb
  have hin : ∀ k' c', look (s.slot k c).sl k' = some c' → (k' = k ∧ c' = c) ∨ (k' ≠ k ∧ look s.sl k' = some c') := fun k' c' hc' => by
    simp only [St.slot, look_cons] at hc'
    by_cases e : k = k'
    · subst e; rw [if_pos rfl] at hc'; cases hc'; exact .inl ⟨rfl, rfl⟩
    · rw [if_neg e] at hc'; exact .inr ⟨fun x => e x.symm, hc'⟩
  exact
  { h with
    tm := fun t x hx => by
      obtain ⟨v, hv, hr⟩ := h.tm t x hx
      refine ⟨v, hv, hr.mono fun c hc v hr => hr.mono sg sv (fun _ h => h) fun k' hk' => upd_other _ _ _ ?_⟩
      exact C.refs_ne (AV.refs_cells (n1 _ (look_mem hx)) c hc) hk'
    sl := fun k' c' hc' => by
      rcases hin k' c' hc' with ⟨rfl, rfl⟩ | ⟨hne, hc'⟩
      · exact hc
      · refine (h.sl k' c' hc').mono sg sv (fun _ h => h) (upd_other _ _ _ hne) (fun k'' hk'' => upd_other _ _ _ fun e => ?_) fun l' hl' => hb _ (h.own k' c' l' hc' hl').2.2.1
        have := (n2 _ (look_mem hc')).2
        rw [e, this] at hk''; cases hk''
    inj := fun k1 k2 c1 c2 l1 l2 h1 h2 e1 e2 eb => by
      rcases hin _ _ h1 with ⟨p1, q1⟩ | ⟨ne1, g1⟩ <;> rcases hin _ _ h2 with ⟨p2, q2⟩ | ⟨ne2, g2⟩
      · rw [p1, p2]
      · rw [p1, upd_same] at e1; cases e1
        rw [upd_other _ _ _ ne2] at e2
        have := (h.own _ _ _ g2 e2).2.2.1
        omega
      · rw [p2, upd_same] at e2; cases e2
        rw [upd_other _ _ _ ne1] at e1
        have := (h.own _ _ _ g1 e1).2.2.1
        omega
      · rw [upd_other _ _ _ ne1] at e1; rw [upd_other _ _ _ ne2] at e2
        exact h.inj _ _ _ _ _ _ g1 g2 e1 e2 eb
    own := fun k' c' l' h1 h2 => by
      rcases hin _ _ h1 with ⟨rfl, rfl⟩ | ⟨ne1, h1⟩
      · rw [upd_same] at h2; cases h2
        rw [hl]
        exact ⟨not_G_size h, not_V_size h, by omega, .inl h.kp.size⟩
      · rw [upd_other _ _ _ ne1] at h2
        obtain ⟨x1, x2, x3, x4⟩ := h.own _ _ _ h1 h2
        exact ⟨x1, x2, by omega, x4⟩
    gsz := fun b hb => by have := h.gsz b hb; omega
    kp := h.kp.trans ⟨ho, ht, hu, by omega, fun b hb' _ => hb b (Nat.lt_of_lt_of_le hb' h.kp.size)⟩
    fix := fun k' c' hx h1 => by
      rcases hin _ _ h1 with ⟨rfl, rfl⟩ | ⟨ne1, h1⟩
      · exact absurd hx hkx
      · rw [upd_other _ _ _ ne1]; exact h.fix _ _ hx h1 }

theorem Sim.alloc (h : Sim E s G φ a w) {k : Nat} (hkx : k ∉ E.fx) (hk : s.noRef k = true) {c : Slot} {o : Obj} {l : Loc} (hl : l.blk = w.heap.size)
    (hc : RelSlot G E.V (upd φ k (some l)) (w.alloc o) k c) : Sim E (s.slot k c) G (upd φ k (some l)) a (w.alloc o) :=
  h.allocW (w' := w.alloc o) (fun b hb => by
    show (w.heap.push o)[b]? = _
    rw [Array.getElem?_push, if_neg (by omega)]) (by simp) rfl rfl rfl hkx hk hl hc

theorem Sim.turn (h : Sim E s G φ a w) {k : Nat} {c c' : Slot} {l : Loc} (hk : look s.sl k = some c) (hl : φ k = some l) {w' : World}
    (hsz : w'.heap.size = w.heap.size) (ho : w'.os = w.os) (ht : w'.tape = w.tape) (hu : w'.output = w.output) (hb : ∀ b, b ≠ l.blk → w'.heap[b]? = w.heap[b]?)
    (hc : RelSlot G E.V φ w' k c') : Sim E (s.slot k c') G φ a w' := by
  obtain ⟨o1, o2, o3, o4⟩ := h.own k c l hk hl
  have sg : Same G w w' := fun b hg => hb b fun e => o1 (e ▸ hg)
  have sv : Same E.V w w' := fun b hg => hb b fun e => o2 (e ▸ hg)
  have hin : ∀ k' c'', look (s.slot k c').sl k' = some c'' → (k' = k ∧ c'' = c') ∨ (k' ≠ k ∧ look s.sl k' = some c'') := fun k' c'' hc' => by
    simp only [St.slot, look_cons] at hc'
    by_cases e : k = k'
    · subst e; rw [if_pos rfl] at hc'; cases hc'; exact .inl ⟨rfl, rfl⟩
    · rw [if_neg e] at hc'; exact .inr ⟨fun x => e x.symm, hc'⟩
  have hol : ∀ k' c'', look (s.slot k c').sl k' = some c'' → ∃ c0, look s.sl k' = some c0 := fun k' c'' hc'' => by
    rcases hin _ _ hc'' with ⟨rfl, _⟩ | ⟨_, h⟩
    · exact ⟨c, hk⟩
    · exact ⟨_, h⟩
  exact
  { h with
    tm := fun t x hx => by
      obtain ⟨v, hv, hr⟩ := h.tm t x hx
      exact ⟨v, hv, hr.mono fun c hc v hr => hr.mono sg sv (fun _ h => h) fun _ _ => rfl⟩
    sl := fun k' c'' hc'' => by
      rcases hin _ _ hc'' with ⟨rfl, rfl⟩ | ⟨hne, hc''⟩
      · exact hc
      · exact (h.sl k' c'' hc'').mono sg sv (fun _ h => h) rfl (fun _ _ => rfl) fun l' hl' => hb _ fun e => hne (h.inj _ _ _ _ _ _ hc'' hk hl' hl e)
    inj := fun k1 k2 c1 c2 l1 l2 h1 h2 e1 e2 eb => by
      obtain ⟨_, h1⟩ := hol _ _ h1
      obtain ⟨_, h2⟩ := hol _ _ h2
      exact h.inj _ _ _ _ _ _ h1 h2 e1 e2 eb
    own := fun k' c'' l' h1 h2 => by
      obtain ⟨_, h1⟩ := hol _ _ h1
      rw [hsz]
      exact h.own _ _ _ h1 h2
    gsz := fun b hb => by rw [hsz]; exact h.gsz b hb
    kp := h.kp.trans ⟨ho, ht, hu, by omega, fun b hb' hL => hb b fun e => by
      subst e
      rcases o4 with o4 | o4
      · omega
      · exact hL o4.2⟩
    fix := fun k' c'' hx h1 => by
      obtain ⟨_, h1⟩ := hol _ _ h1
      exact h.fix _ _ hx h1 }

theorem Sim.notFx (h : Sim E s G φ a w) {d : Nat} (hd : d < E.N) : d ∉ E.fx := fun hx => Nat.lt_irrefl _ (Nat.lt_of_lt_of_le hd (h.fxN d hx))

end
end Go.Av
