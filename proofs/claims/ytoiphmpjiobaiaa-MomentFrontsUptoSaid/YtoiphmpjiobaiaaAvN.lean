/-
  Av, part N: slices are made.
-/
import Derived.Test.YtoiphmpjiobaiaaAvM
namespace Go.Av
open Go
set_option linter.unusedVariables false
set_option linter.unusedSimpArgs false

def C.dropR (k : Nat) (c : C) : C := match c.refs k with | true => .any | false => c
def AV.dropR (k : Nat) : AV → AV
  | .c x => .c (x.dropR k)
  | .agg xs => .agg (xs.map (C.dropR k))
  | .tup vs => .tup (vs.map fun p => (p.1, p.2.map (C.dropR k)))
def Slot.dropR (k : Nat) : Slot → Slot
  | .box cs => .box (cs.map (C.dropR k))
  | .vec es n get => .vec es n get

def dropTms (k : Nat) : List (Nat × AV) → List (Nat × AV)
  | [] => []
  | (t, x) :: r => (t, x.dropR k) :: dropTms k r
def dropSls (k : Nat) : List (Nat × Slot) → List (Nat × Slot)
  | [] => []
  | (j, c) :: r => match Nat.beq j k with
    | true => dropSls k r
    | false => (j, c.dropR k) :: dropSls k r

def St.drop (k : Nat) (s : St) : St := ⟨dropTms k s.tm, dropSls k s.sl⟩

theorem C.dropR_refs (k : Nat) (c : C) : (c.dropR k).refs k = false := by
  unfold C.dropR
  split
  · rfl
  · assumption

theorem anyB_map {α β : Type} (f : β → Bool) (g : α → β) : ∀ l : List α, (∀ x, f (g x) = false) → anyB f (l.map g) = false
  | [], _ => rfl
  | x :: r, h => by simp only [List.map_cons, anyB, h x]; exact anyB_map f g r h

theorem AV.dropR_refs (k : Nat) (x : AV) : (x.dropR k).refs k = false := by
  cases x with
  | c x => exact C.dropR_refs k x
  | agg xs => exact anyB_map _ _ xs (C.dropR_refs k)
  | tup vs => exact anyB_map _ _ vs fun p => anyB_map _ _ p.2 (C.dropR_refs k)

theorem dropTms_look (k : Nat) : ∀ (l : List (Nat × AV)) (t : Nat), look (dropTms k l) t = (look l t).map (AV.dropR k)
  | [], t => rfl
  | (j, x) :: r, t => by
    simp only [dropTms, look_cons]
    by_cases e : j = t
    · simp [e]
    · simp [e, dropTms_look k r t]

theorem dropSls_look (k : Nat) : ∀ (l : List (Nat × Slot)) (t : Nat), look (dropSls k l) t = if t = k then none else (look l t).map (Slot.dropR k)
  | [], t => by simp [dropSls, look]
  | (j, c) :: r, t => by
    simp only [dropSls]
    cases hb : Nat.beq j k with
    | true =>
      have e := Nat.eq_of_beq_eq_true hb
      subst e
      simp only [dropSls_look j r t, look_cons]
      by_cases e : t = j
      · simp [e]
      · have : ¬ j = t := fun x => e x.symm
        simp [e, this]
    | false =>
      have hne : j ≠ k := fun e => by rw [e] at hb; simp at hb
      simp only [look_cons, dropSls_look k r t]
      by_cases e : j = t
      · subst e; simp [hne]
      · simp [e]

theorem noRef_drop (k : Nat) (s : St) : (s.drop k).noRef k = true := by
  have h1 : ∀ l, anyB (fun e : Nat × AV => AV.refs k e.2) (dropTms k l) = false := by
    intro l
    induction l with
    | nil => rfl
    | cons e r ih => simp only [dropTms, anyB, AV.dropR_refs]; exact ih
  have h2 : ∀ l, anyB (slotRef k) (dropSls k l) = false := by
    intro l
    induction l with
    | nil => rfl
    | cons e r ih =>
      simp only [dropSls]
      cases hb : Nat.beq e.1 k with
      | true => exact ih
      | false =>
        simp only [anyB, slotRef, hb]
        have : Slot.refs k (e.2.dropR k) = false := by
          cases e.2 with
          | box cs => exact anyB_map _ _ cs (C.dropR_refs k)
          | vec => rfl
        simp only [this]; exact ih
  have h2 := h2 s.sl
  have h1 := h1 s.tm
  unfold St.noRef St.drop
  simp only [h1]
  rw [h2]

section
variable {E : Env} {s : St} {G : Nat → Prop} {φ : Nat → Option Loc} {a : Act} {w : World}

theorem C.dropR_rel {V : Nat → Prop} {k : Nat} {c : C} {v : Value} (h : RelC G V φ w c v) : RelC G V φ w (c.dropR k) v := by
  unfold C.dropR
  split
  · trivial
  · exact h

theorem dropR_cs {V : Nat → Prop} {k : Nat} : ∀ {cs : List C} {vs : List Value}, RelCs (RelC G V φ w) cs vs → RelCs (RelC G V φ w) (cs.map (C.dropR k)) vs
  | [], [], _ => trivial
  | _ :: _, _ :: _, h => ⟨C.dropR_rel h.1, dropR_cs h.2⟩
  | [], _ :: _, h => h.elim
  | _ :: _, [], h => h.elim

theorem dropR_ss {V : Nat → Prop} {k : Nat} : ∀ {xs : List (Bool × List C)} {vs : List Value}, RelSs (RelC G V φ w) xs vs → RelSs (RelC G V φ w) (xs.map fun p => (p.1, p.2.map (C.dropR k))) vs
  | [], [], _ => trivial
  | (b, cs) :: _, _ :: _, h => by
    refine ⟨?_, dropR_ss h.2⟩
    have h1 := h.1
    cases b with
    | true => obtain ⟨us, e, h1, h2⟩ := h1; exact ⟨us, e, dropR_cs h1, h2⟩
    | false =>
      match cs, h1 with
      | [c], h1 => exact ⟨C.dropR_rel h1.1, h1.2⟩
      | [], h1 => exact h1.elim
      | _ :: _ :: _, h1 => exact h1.elim
  | [], _ :: _, h => h.elim
  | _ :: _, [], h => h.elim

theorem AV.dropR_rel {V : Nat → Prop} {k : Nat} {x : AV} {v : Value} (h : RelAV (RelC G V φ w) x v) : RelAV (RelC G V φ w) (x.dropR k) v := by
  cases x with
  | c x =>
    by_cases e : x = .any
    · subst e; trivial
    · have : RelS (RelC G V φ w) (false, [x]) v := by cases x <;> first | exact h | exact (e rfl).elim
      exact relAV_c (C.dropR_rel this.1) this.2
  | agg xs => obtain ⟨us, e, h1, h2⟩ := h; exact ⟨us, e, dropR_cs h1, h2⟩
  | tup vs => obtain ⟨us, e, h1⟩ := h; exact ⟨us, e, dropR_ss h1⟩

theorem Sim.drop (h : Sim E s G φ a w) (k : Nat) : Sim E (s.drop k) G φ a w := by
  have hin : ∀ j c, look (s.drop k).sl j = some c → j ≠ k ∧ ∃ c0, look s.sl j = some c0 ∧ c = c0.dropR k := fun j c hc => by
    simp only [St.drop, dropSls_look] at hc
    split at hc
    · cases hc
    · rename_i hne
      refine ⟨hne, ?_⟩
      cases hl : look s.sl j with
      | none => rw [hl] at hc; cases hc
      | some c0 => rw [hl] at hc; cases hc; exact ⟨c0, rfl, rfl⟩
  exact
  { h with
    tm := fun t x hx => by
      simp only [St.drop, dropTms_look] at hx
      cases hl : look s.tm t with
      | none => rw [hl] at hx; cases hx
      | some x0 =>
        rw [hl] at hx
        cases hx
        obtain ⟨v, hv, hr⟩ := h.tm t x0 hl
        exact ⟨v, hv, AV.dropR_rel hr⟩
    sl := fun j c hc => by
      obtain ⟨_, c0, h0, rfl⟩ := hin j c hc
      have := h.sl j c0 h0
      cases c0 with
      | vec => exact this
      | box cs =>
        obtain ⟨l, hl, ht, vs, h1, h2, h3⟩ := this
        exact ⟨l, hl, by simpa using ht, vs, dropR_cs h1, h2, h3⟩
    inj := fun j j' c c' l l' h1 h2 => by
      obtain ⟨_, _, h1, _⟩ := hin j c h1
      obtain ⟨_, _, h2, _⟩ := hin j' c' h2
      exact h.inj _ _ _ _ _ _ h1 h2
    own := fun j c l h1 => by
      obtain ⟨_, _, h1, _⟩ := hin j c h1
      exact h.own _ _ _ h1
    fix := fun j c hx h1 => by
      obtain ⟨_, _, h1, _⟩ := hin j c h1
      exact h.fix _ _ hx h1 }


def CellsOk (G : Nat → Prop) (w : World) (vs : List Value) (es n : Nat) (get : Nat → List D) : Prop :=
  ∀ i, i < n → (get i).length = es ∧ ∀ j, j < es → ∃ u, vs[i * es + j]? = some u ∧ RelD G w (D.at (get i) j) u

theorem Sim.newVec (h : Sim E s G φ a w) {k : Nat} (hkx : k ∉ E.fx) (hk : s.noRef k = true) {es n cap : Nat} {get : Nat → List D} {vs : Array Value} (t : TypeId) (hsz : vs.size = cap * es) (hn : n ≤ cap) (hm : n ≤ maxN)
    (hc : CellsOk G w vs.toList es n get) :
    Sim E (s.slot k (.vec es n get)) G (upd φ k (some ⟨w.heap.size, 0, cap⟩)) a (w.alloc (.cells vs t)) := by
  have hb : ∀ b, b < w.heap.size → (w.alloc (.cells vs t)).heap[b]? = w.heap[b]? := fun b hb => by
    show (w.heap.push _)[b]? = _
    rw [Array.getElem?_push, if_neg (by omega)]
  obtain ⟨sg, _⟩ := h.same_of_lt hb
  have hcell : ∀ j, (w.alloc (.cells vs t)).cell? ⟨w.heap.size, j, none⟩ = vs[j]? := fun j => World.cell?_alloc_new w vs t j
  refine h.alloc hkx hk rfl ⟨hm, .inr ⟨_, upd_same _ _ _, hn, fun j hj => ?_, fun i hi => ⟨(hc i hi).1, fun j hj => ?_⟩⟩⟩
  · rw [Nat.zero_add]
    have hj : j < cap * es := hj
    refine ⟨by rw [hcell]; simp; omega, ?_⟩
    simp only [World.frozen?, World.alloc, Array.getElem?_push, if_true]
    simp
  · obtain ⟨u, hu, hr⟩ := (hc i hi).2 j (by rw [(hc i hi).1] at hj; exact hj)
    refine ⟨u, ?_, hr.mono sg fun _ h => h⟩
    rw [hcell, ← hu]
    simp

theorem Sim.newVec0 (h : Sim E s G φ a w) {k : Nat} (hkx : k ∉ E.fx) (hk : s.noRef k = true) (es : Nat) (get : Nat → List D) : Sim E (s.slot k (.vec es 0 get)) G (upd φ k none) a w := by
  obtain ⟨n1, n2⟩ := St.noRef_spec hk
  have hin : ∀ k' c', look (s.slot k (.vec es 0 get)).sl k' = some c' → (k' = k ∧ c' = .vec es 0 get) ∨ (k' ≠ k ∧ look s.sl k' = some c') := fun k' c' hc' => by
    simp only [St.slot, look_cons] at hc'
    by_cases e : k = k'
    · subst e; rw [if_pos rfl] at hc'; cases hc'; exact .inl ⟨rfl, rfl⟩
    · rw [if_neg e] at hc'; exact .inr ⟨fun x => e x.symm, hc'⟩
  have old : ∀ k' c' l, look (s.slot k (.vec es 0 get)).sl k' = some c' → upd φ k none k' = some l → look s.sl k' = some c' ∧ φ k' = some l := fun k' c' l h1 h2 => by
    rcases hin _ _ h1 with ⟨rfl, _⟩ | ⟨hne, h1⟩
    · rw [upd_same] at h2; cases h2
    · rw [upd_other _ _ _ hne] at h2; exact ⟨h1, h2⟩
  exact
  { h with
    tm := fun t x hx => by
      obtain ⟨v, hv, hr⟩ := h.tm t x hx
      refine ⟨v, hv, hr.mono fun c hc v hr => hr.mono (Same.refl _ _) (Same.refl _ _) (fun _ h => h) fun k' hk' => upd_other _ _ _ ?_⟩
      exact C.refs_ne (AV.refs_cells (n1 _ (look_mem hx)) c hc) hk'
    sl := fun k' c' hc' => by
      rcases hin k' c' hc' with ⟨rfl, rfl⟩ | ⟨hne, hc'⟩
      · exact ⟨Nat.zero_le _, .inl ⟨upd_same _ _ _, rfl⟩⟩
      · refine (h.sl k' c' hc').mono (Same.refl _ _) (Same.refl _ _) (fun _ h => h) (upd_other _ _ _ hne) (fun k'' hk'' => upd_other _ _ _ fun e => ?_) fun _ _ => rfl
        have := (n2 _ (look_mem hc')).2
        rw [e, this] at hk''; cases hk''
    inj := fun k1 k2 c1 c2 l1 l2 h1 h2 e1 e2 => by
      obtain ⟨h1, e1⟩ := old _ _ _ h1 e1
      obtain ⟨h2, e2⟩ := old _ _ _ h2 e2
      exact h.inj _ _ _ _ _ _ h1 h2 e1 e2
    own := fun k' c' l' h1 h2 => by
      obtain ⟨h1, h2⟩ := old _ _ _ h1 h2
      exact h.own _ _ _ h1 h2
    fix := fun k' c' hx h1 => by
      rcases hin _ _ h1 with ⟨rfl, _⟩ | ⟨hne, h1⟩
      · exact absurd hx hkx
      · rw [upd_other _ _ _ hne]; exact h.fix _ _ hx h1 }

def AllLe (s : St) (es : Nat) : List C → List (List D) → Prop
  | _, [] => True
  | cs, x :: r => (x.length = es ∧ CsLe s [] (cs.take es) (x.map .d)) ∧ AllLe s es (cs.drop es) r

theorem relD_of_cs : ∀ {ds : List D} {vs : List Value}, RelCs (RelC G (fun _ => False) φ w) (ds.map .d) vs → ∀ j, j < ds.length → ∃ u, vs[j]? = some u ∧ RelD G w (D.at ds j) u := by
  intro ds vs h j hj
  obtain ⟨u, hu, hr⟩ := h.get j (.d (D.at ds j)) (by rw [List.getElem?_map, List.getElem?_eq_getElem hj]; simp [D.at, List.getD_eq_getElem?_getD, List.getElem?_eq_getElem hj])
  exact ⟨u, hu, hr⟩

theorem ds_solid {V V' : Nat → Prop} {φ' : Nat → Option Loc} : ∀ {ds : List D} {vs : List Value}, RelCs (RelC G V φ w) (ds.map .d) vs → RelCs (RelC G V' φ' w) (ds.map .d) vs
  | [], [], _ => trivial
  | _ :: _, _ :: _, h => ⟨h.1, ds_solid h.2⟩
  | [], _ :: _, h => h.elim
  | _ :: _, [], h => h.elim

theorem AllLe.ok (h : Sim E s G φ a w) {es : Nat} : ∀ {xs : List (List D)} {cs : List C} {vs : List Value}, AllLe s es cs xs → RelCs (RelC G E.V φ w) cs vs → CellsOk G w vs es xs.length (fun i => xs.getD i [])
  | [], _, _, _, _ => fun i hi => absurd hi (Nat.not_lt_zero i)
  | x :: xs, cs, vs, ⟨⟨h1, h2⟩, h3⟩, hr => fun i hi => by
    cases i with
    | zero =>
      refine ⟨h1, fun j hj => ?_⟩
      have := h2.rel h (hr.take es)
      have := ds_solid (V' := fun _ => False) (φ' := φ) (this.mono fun c _ v hc => hc.mono (Same.refl _ _) (Same.refl _ _) (G' := G) (φ' := φ) (fun _ hb => withF_nil hb) fun _ _ => rfl)
      obtain ⟨u, hu, hd⟩ := relD_of_cs this j (by rw [h1]; exact hj)
      refine ⟨u, ?_, hd⟩
      rw [List.getElem?_take, if_pos hj] at hu
      simpa using hu
    | succ i =>
      obtain ⟨g1, g2⟩ := AllLe.ok h h3 (hr.drop es) i (by simpa using hi)
      refine ⟨by simpa using g1, fun j hj => ?_⟩
      obtain ⟨u, hu, hd⟩ := g2 j hj
      refine ⟨u, ?_, by simpa using hd⟩
      rw [List.getElem?_drop] at hu
      rw [← hu]; congr 1
      rw [Nat.add_mul]; omega

def repC (zc : List C) (n : Nat) : List C := (List.range n).map fun j => zc.getD (j % zc.length) .any

theorem repC_rel {P : Program} {t : TypeId} {z : List C} (hz : zeroCells P t = some z) (hne : z ≠ []) (n : Nat) (V : Nat → Prop) :
    ∃ v : Value, (∀ w, (zeroValue t).run P w = .ok v w) ∧ v.cells.size = z.length ∧
      RelCs (RelC G V φ w) (repC z n) ((Array.range n).map (v.cells[· % v.cells.size]!)).toList ∧ (∀ u ∈ ((Array.range n).map (v.cells[· % v.cells.size]!)).toList, u.oneCell' = true) := by
  obtain ⟨v, h1, h2, h3⟩ := zeroCells_run hz
  have hsz : v.cells.size = z.length := by rw [← h2]; simp
  have hpos : 0 < v.cells.size := by rw [hsz]; exact List.length_pos_iff.2 hne
  have hl : ((Array.range n).map (v.cells[· % v.cells.size]!)).toList = (List.range n).map fun j => v.cells[j % v.cells.size]! := by simp
  refine ⟨v, h1, hsz, ?_, ?_⟩
  · rw [hl]
    have hr : repC z n = ((List.range n).map fun j => v.cells[j % v.cells.size]!).map constC := by
      unfold repC
      rw [List.map_map]
      apply List.map_congr_left
      intro j _
      have hlt : j % v.cells.size < v.cells.size := Nat.mod_lt _ hpos
      subst h2
      simp [List.getD_eq_getElem?_getD, hlt]
    rw [hr]
    exact constCs_rel G V φ w _
  · rw [hl]
    intro u hu
    obtain ⟨j, _, rfl⟩ := List.mem_map.1 hu
    have hlt : j % v.cells.size < v.cells.size := Nat.mod_lt _ hpos
    apply h3
    simp [hlt]

theorem noRef_of_okDst {N d : Nat} {st : Step} (hok : okDst N s (some d) st = true) (hn : ∃ c x, st = .new c x) : s.noRef d = true := by
  obtain ⟨c, x, rfl⟩ := hn
  have hlt := okDst_lt hok
  simp only [okDst] at hok
  rw [Nat.blt_eq.mpr hlt] at hok
  exact hok

theorem One.buildSlice {ops : Array Oper} {o : Oper} {t e : TypeId} {len es d : Nat} {parts : Array (Nat × Operand)} {z cells : List C} {xs : List (List D)}
    (hop : o.op = .buildSlice t len parts) (hw : wantedB ops s o = some true) (hd : o.dst = some d) (hlt : Nat.blt d E.N = true) (hnr : s.noRef d = true)
    (hu : E.P.underlying t = some (.slice e)) (hsz : sizeT E.P e = some es) (hz : zeroCells E.P e = some z) (hze : Nat.beq z.length es = true) (hes : Nat.blt 0 es = true) (hle : Nat.ble (len * es) 16777216 = true)
    (hf : fillC (fun i => some (i * es, es)) (repC z (len * es)) (parts.toList.map fun p => (p.1, evO s p.2)) = some cells) (hlen : Nat.beq xs.length len = true) (hall : AllLe s es cells xs) :
    One E ops o s ((s.slot d (.vec es len (fun i => xs.getD i []))).put d (.c (.own d es 0 len))) := fun a w hs => by
  obtain ⟨G, φ, h⟩ := hs
  refine ⟨wantedB_spec h hw, fun next Q hn => ?_⟩
  have hze := Nat.eq_of_beq_eq_true hze
  have hlen := Nat.eq_of_beq_eq_true hlen
  have hle := Nat.le_of_ble_eq_true hle
  have hes := Nat.blt_eq.mp hes
  have hzne : z ≠ [] := by rintro rfl; simp at hze; omega
  obtain ⟨zv, z1, z2, z3, z4⟩ := repC_rel (G := G) (φ := φ) (w := w) hz hzne (len * es) E.V
  obtain ⟨vs', r1, r2, r3⟩ := fillC_rel (P := E.P) parts.toList h z3 z4 hf
  have hcl : cells.length = len * es := by
    have : ∀ (ps : List (Nat × Option AV)) (cs cs' : List C), fillC (fun i => some (i * es, es)) cs ps = some cs' → cs'.length = cs.length := by
      intro ps
      induction ps with
      | nil => intro cs cs' h; cases h; rfl
      | cons p ps ih =>
        intro cs cs' h
        obtain ⟨i, x⟩ := p
        cases x with
        | none => cases h
        | some x =>
          simp only [fillC] at h
          split at h
          · split at h
            · rename_i hb2
              split at h
              · rename_i hle2
                rw [ih _ _ h]
                have e1 := Nat.eq_of_beq_eq_true hb2
                have e2 := Nat.le_of_ble_eq_true hle2
                simp [wr]; omega
              · cases h
            · cases h
          · cases h
    rw [this _ _ _ hf]; simp [repC]
  have hrun : (Instr.buildSlice t len (parts.map fun p => (p.1, a.eval p.2))).run E.P w = .ok (.slice (some ⟨w.heap.size, 0, none⟩) len len) (w.alloc (.cells vs' e)) := by
    unfold Instr.buildSlice
    simp only [Sem.run_bind, run_underlying hu, Result.andThen_ok, sizeT_run hsz, Array.toList_map]
    rw [if_neg (by omega)]
    by_cases h0 : len * es = 0
    · have hv : ((Array.range (len * es)).map (zv.cells[· % zv.cells.size]!)) = #[] := by rw [h0]; simp
      rw [hv] at r1
      have hr0 : ∀ f : Nat → Value, (Array.range 0).map f = #[] := fun f => by simp
      simp only [h0, if_true, Sem.run_bind, Sem.run_pure, Result.andThen_ok]
      rw [hr0, r1]
      simp [newRow_run]
    · simp [h0, z1, r1, newRow_run]
  have hsize : vs'.size = len * es := by have := r2.length; rw [hcl] at this; simpa using this.symm
  have hmx : len ≤ maxN := by
    have : len ≤ len * es := Nat.le_mul_of_pos_right _ hes
    unfold maxN; omega
  have hs' := h.newVec (k := d) (h.notFx (Nat.blt_eq.mp hlt)) hnr e hsize (Nat.le_refl len) hmx (hlen ▸ AllLe.ok h hall r2)
  unfold Oper.wp
  have he : execOp a.eval o = (do pure (.value (← Instr.buildSlice t len (parts.map fun p => (p.1, a.eval p.2)))) : Sem Next) := by unfold execOp; rw [hop]
  rw [he]
  simp only [Sem.run_bind, hrun, Result.andThen_ok, Sem.run_pure, Oper.upon, hd]
  refine hn _ _ ⟨G, _, hs'.put (Nat.blt_eq.mp hlt) (relAV_c (.inr ⟨_, upd_same _ _ _, (show 0 + len ≤ len by omega), ?_⟩) rfl)⟩
  simp

end
end Go.Av
