/-
  Av, part G: variables are made and written; a list of operations.
-/
import Derived.Test.YtoiphmpjiobaiaaAvF
namespace Go.Av
open Go
set_option linter.unusedVariables false
set_option linter.unusedSimpArgs false

inductive Step where
  | val (x : AV) (c : Prop)
  | new (c : Slot) (x : AV)
  | turn (k : Nat) (c : Slot)

def Step.cond : Step → Prop
  | .val _ c => c
  | _ => True

def ofVal : Option (AV × Prop) → Option Step
  | some (x, c) => some (.val x c)
  | none => none

def zeroCells (P : Program) (t : TypeId) : Option (List C) :=
  match P.info? t with
  | some i => match i.zero with
    | some z => match z.cells.toList.all (·.oneCell') with
      | true => some (z.cells.toList.map constC)
      | false => none
    | none => none
  | none => none

def storable : AV → Option (List C)
  | .c .any => none
  | .c x => some [x]
  | .agg xs => some xs
  | .tup _ => none

def wr (cs : List C) (o : Nat) (xs : List C) : List C := cs.take o ++ xs ++ cs.drop (o + xs.length)

def evStore (P : Program) (s : St) (t : TypeId) : Option AV → Option AV → Option Step
  | some (.c (.ptr k o)), some x => match storable x, sizeT P t, look s.sl k with
    | some xs, some n, some (.box cs) => match Nat.beq n xs.length with
      | true => match Nat.ble (o + n) cs.length with
        | true => some (.turn k (.box (wr cs o xs)))
        | false => none
      | false => none
    | _, _, _ => none
  | _, _ => none

def fillC (place : Nat → Option (Nat × Nat)) : List C → List (Nat × Option AV) → Option (List C)
  | cs, [] => some cs
  | cs, (i, some x) :: r => match place i, storable x with
    | some (off, n), some xs => match Nat.beq n xs.length with
      | true => match Nat.ble (off + n) cs.length with
        | true => fillC place (wr cs off xs) r
        | false => none
      | false => none
    | _, _ => none
  | _, (_, none) :: _ => none

def placesOf (P : Program) : List Field → Option (List (Nat × Nat))
  | [] => some []
  | f :: r => match sizeT P f.type, placesOf P r with
    | some n, some ps => some ((f.offset, n) :: ps)
    | _, _ => none

def evBuild (P : Program) (t : TypeId) (parts : List (Nat × Option AV)) : Option (AV × Prop) :=
  match zeroCells P t, P.underlying t with
  | some z, some (.struct fs) => match placesOf P fs.toList with
    | some ps => match fillC (fun i => ps[i]?) z parts with
      | some cs => some (.agg cs, True)
      | none => none
    | none => none
  | some z, some (.array _ e) => match sizeT P e with
    | some n => match fillC (fun i => some (i * n, n)) z parts with
      | some cs => some (.agg cs, True)
      | none => none
    | none => none
  | _, _ => none

def evNil : Option AV → Option (AV × Prop)
  | some (.c (.ptr k o)) => some (.c (.ptr k o), True)
  | some (.c (.vptr k es i o)) => some (.c (.vptr k es i o), True)
  | some (.c (.eptr cells)) => some (.c (.eptr cells), True)
  | some (.c (.d (.fn f caps))) => some (.c (.d (.fn f caps)), True)
  | some (.c (.clo f n caps)) => some (.c (.clo f n caps), True)
  | _ => none

def evCall (P : Program) (s : St) (c : Call) : Option (AV × Prop) :=
  match c.callee, c.args.toList, c.argTypes.toList with
  | .builtin .len, [x], [t] => evLen P t (evO s x)
  | .builtin .max, [x, y], _ => evMax (evO s x) (evO s y)
  | .builtin .min, [x, y], _ => evMin (evO s x) (evO s y)
  | _, _, _ => none

def evStep (P : Program) (s : St) (d : Option Nat) : Op → Option Step
  | .move x => match evO s x with
    | some v => some (.val v True)
    | none => none
  | .assign x => match evO s x with
    | some v => some (.val v True)
    | none => none
  | .pick c x y => ofVal (evPick (evO s c) (evO s x) (evO s y))
  | .alloc t => match zeroCells P t, d with
    | some z, some d => some (.new (.box z) (.c (.ptr d 0)))
    | _, _ => none
  | .box _ x => match evO s x, d with
    | some x, some d => match storable x with
      | some xs => some (.new (.box xs) (.c (.ptr d 0)))
      | none => none
    | _, _ => none
  | .build t parts => ofVal (evBuild P t (parts.toList.map fun p => (p.1, evO s p.2)))
  | .load t p => ofVal (evLoad P s t (evO s p))
  | .store t p x => evStore P s t (evO s p) (evO s x)
  | .nilCheck x => ofVal (evNil (evO s x))
  | .binOp op t x y _ => ofVal (evBin P op t (evO s x) (evO s y))
  | .unOp op _ x => ofVal (evUn op (evO s x))
  | .convert a b x => ofVal (evConvert P a b (evO s x))
  | .makeFunc (.func f) first caps => match first.toList, capsOf (caps.toList.map (evO s)) with
    | [], some ds => some (.val (.c (.d (.fn f ds))) True)
    | _, _ => match ccsOf ((first.toList ++ caps.toList).map (evO s)) with
      | some ds => some (.val (.c (.clo f first.size ds)) True)
      | none => none
  | .slice t x lo hi mx => ofVal (evSlice P t (evO s x) (lo.map (evO s)) (hi.map (evO s)) (mx.map (evO s)))
  | .fieldAddr t x f => ofVal (evFieldAddr P t f (evO s x))
  | .field t x f => ofVal (evField P t f (evO s x))
  | .indexAddr t x i => ofVal (evIndexAddr P t (evO s x) (evO s i))
  | .index t x i => ofVal (evIndex P t (evO s x) (evO s i))
  | .extract x i => ofVal (evExtract i (evO s x))
  | .call c => ofVal (evCall P s c)
  | _ => none

def stepSt (s : St) (d : Option Nat) : Step → St
  | .val x _ => match d with | some d => s.put d x | none => s
  | .new c x => match d with | some d => (s.slot d c).put d x | none => s
  | .turn k c => match d with | some d => (s.slot k c).put d (.c .any) | none => s.slot k c

def okDst (N : Nat) (s : St) (d : Option Nat) (st : Step) : Bool :=
  match d with
  | none => true
  | some d => match Nat.blt d N with
    | false => false
    | true => match st with
      | .new _ _ => s.noRef d
      | _ => true

def dropTm (d : Nat) (s : St) : St := s.put d (.tup [])

section
variable {E : Env} {s : St} {G : Nat → Prop} {φ : Nat → Option Loc} {a : Act} {w : World}

theorem setCells_frame (b : Nat) : ∀ (vs : List Value) (o : Nat) (w : World), (w.setCells b o vs).heap.size = w.heap.size ∧ (w.setCells b o vs).os = w.os ∧ (w.setCells b o vs).tape = w.tape ∧
    (w.setCells b o vs).output = w.output ∧ ∀ b', b' ≠ b → (w.setCells b o vs).heap[b']? = w.heap[b']?
  | [], _, _ => ⟨rfl, rfl, rfl, rfl, fun _ _ => rfl⟩
  | v :: r, o, w => by
    rw [World.setCells]
    obtain ⟨h1, h2, h3, h4, h5⟩ := setCells_frame b r (o + 1) (w.setCell ⟨b, o, none⟩ v)
    refine ⟨by rw [h1]; simp, h2, h3, h4, fun b' hb => ?_⟩
    rw [h5 b' hb]
    simp only [World.setCell, Array.getElem?_modify]
    rw [if_neg (fun e => hb e.symm)]

theorem rangeAt_wr {b off : Nat} {vs : List Value} (h : w.rangeAt b off vs) (ht : w.there b off vs.length) {o : Nat} {us : List Value} (ho : o + us.length ≤ vs.length) :
    (w.setCells b (off + o) us).rangeAt b off (vs.take o ++ us ++ vs.drop (o + us.length)) := fun j v hj => by
  rcases Nat.lt_or_ge j o with h1 | h1
  · rw [World.cell?_setCells_out b us (off + o) w ⟨b, off + j, none⟩ (fun _ _ => by left; show off + j < off + o; omega)]
    apply h
    rw [List.append_assoc, List.getElem?_append_left (by simp; omega), List.getElem?_take] at hj
    simpa [h1] using hj
  · rcases Nat.lt_or_ge j (o + us.length) with h2 | h2
    · have hin := World.cell?_setCells_in b us (off + o) w (fun i hi => by rw [Nat.add_assoc]; exact (ht (o + i) (by omega)).1) (j - o) (by omega)
      have e : off + o + (j - o) = off + j := by omega
      rw [e] at hin
      rw [hin, ← hj, List.append_assoc, List.getElem?_append_right (by simp; omega), List.getElem?_append_left (by simp; omega)]
      have : j - (vs.take o).length = j - o := by simp; omega
      rw [this, List.getElem?_eq_getElem (by omega)]
    · rw [World.cell?_setCells_out b us (off + o) w ⟨b, off + j, none⟩ (fun _ _ => by right; show off + o + us.length ≤ off + j; omega)]
      apply h
      rw [List.getElem?_append_right (by simp; omega), List.getElem?_drop] at hj
      rw [← hj]
      congr 1
      simp; omega

theorem run_storeAny {P : Program} {b o : Nat} {t : TypeId} {v : Value} {vs : List Value} (hv : v.cells.toList = vs) (hs : sizeT P t = some vs.length) (ht : w.there b o vs.length)
    (h1 : ∀ u ∈ vs, u.oneCell' = true) : (Instr.storeAt t (.pointer (some ⟨b, o, none⟩)) v).run P w = .ok () (w.setCells b o vs) := by
  have := run_storeCells_cells (P := P) b o vs 0 w (fun j hj => (by simpa using ht j hj : _ ∧ _).1) (fun j hj => (by simpa using ht j hj : _ ∧ _).2) h1
  have hsz : v.cells.size = vs.length := by rw [← hv]; simp
  simp only [Nat.add_zero] at this
  simp [Instr.storeAt, Instr.sureAddr, storeVar, sizeT_run hs, hsz, hv, this]

theorem storable_rel {x : AV} {v : Value} {xs : List C} (h : RAV E G φ w x v) (hx : storable x = some xs) :
    RelCs (RelC G E.V φ w) xs v.cells.toList ∧ ∀ u ∈ v.cells.toList, u.oneCell' = true := by
  unfold storable at hx
  split at hx
  · cases hx
  · rename_i y hne
    cases hx
    obtain ⟨h1, h2⟩ := relAV_ptr h (fun e => hne e)
    have : v.cells.toList = [v] := by cases v <;> first | rfl | (simp [Value.oneCell'] at h2)
    rw [this]
    exact ⟨⟨h1, trivial⟩, by simpa using h2⟩
  · cases hx
    obtain ⟨vs, rfl, h1, h2⟩ := h
    exact ⟨h1, h2⟩
  · cases hx

theorem wr_rel {R : C → Value → Prop} {cs : List C} {vs : List Value} {xs : List C} {us : List Value} (h : RelCs R cs vs) (hx : RelCs R xs us) (o : Nat) :
    RelCs R (wr cs o xs) (vs.take o ++ us ++ vs.drop (o + us.length)) := by
  unfold wr
  rw [hx.length]
  exact ((h.take o).append hx).append (h.drop _)

theorem Sim.store (h : Sim E s G φ a w) {t : TypeId} {p x : Operand} {st : Step} (he : evStore E.P s t (evO s p) (evO s x) = some st) :
    ∃ k c w', st = .turn k c ∧ (Instr.storeAt t (a.eval p) (a.eval x)).run E.P w = .ok () w' ∧ Sim E (s.slot k c) G φ a w' := by
  unfold evStore at he
  split at he
  · rename_i k o y hp hx
    split at he
    · rename_i xs n cs hst hsz hk
      split at he
      · rename_i hn
        have hn := Nat.eq_of_beq_eq_true hn
        split at he
        · rename_i hle
          have hle := Nat.le_of_ble_eq_true hle
          cases he
          obtain ⟨h1, h2⟩ := storable_rel (h.ev hx) hst
          obtain ⟨l, hl, hv⟩ := (relAV_ptr (h.ev hp) (by simp)).1
          obtain ⟨l', hl', ht, vs, g1, g2, g3⟩ := h.sl k _ hk
          rw [hl] at hl'; cases hl'
          have e1 := g1.length
          have e2 := h1.length
          have htt : w.there l.blk (l.off + o) (a.eval x).cells.toList.length := fun j hj => by
            rw [Nat.add_assoc]; exact ht (o + j) (by omega)
          refine ⟨_, _, _, rfl, by rw [hv]; exact run_storeAny rfl (by rw [hsz]; congr 1; omega) htt h2, ?_⟩
          obtain ⟨f1, f2, f3, f4, f5⟩ := setCells_frame l.blk (a.eval x).cells.toList (l.off + o) w
          refine h.turn hk hl f1 f2 f3 f4 f5 ⟨l, hl, ?_, _, wr_rel (g1.mono fun c _ v hc => hc.mono (G' := G) (V := E.V) (φ' := φ) (w' := w.setCells l.blk (l.off + o) (a.eval x).cells.toList) ?_ ?_ (fun _ h => h) fun _ _ => rfl)
            (h1.mono fun c _ v hc => hc.mono (G' := G) (V := E.V) (φ' := φ) (w' := w.setCells l.blk (l.off + o) (a.eval x).cells.toList) ?_ ?_ (fun _ h => h) fun _ _ => rfl) o, ?_, rangeAt_wr g3 (by rw [← e1]; exact ht) (by omega)⟩
          · have : (wr cs o xs).length = cs.length := by simp [wr]; omega
            rw [this]
            exact World.there_setCells ht _ _ _
          all_goals first
            | (intro b hb; exact f5 b fun e => (h.own k _ l hk hl).1 (e ▸ hb))
            | (intro b hb; exact f5 b fun e => (h.own k _ l hk hl).2.1 (e ▸ hb))
            | skip
          intro u hu
          simp only [List.mem_append] at hu
          rcases hu with (hu | hu) | hu
          · exact g2 u (List.mem_of_mem_take hu)
          · exact h2 u hu
          · exact g2 u (List.mem_of_mem_drop hu)
        · cases he
      · cases he
    · cases he
  · cases he

theorem Sim.newBox (h : Sim E s G φ a w) {d : Nat} (hlt : d < E.N) (hd : s.noRef d = true) {cs : List C} {vs : Array Value} (t : TypeId) (hr : RelCs (RelC G E.V φ w) cs vs.toList) (h1 : ∀ u ∈ vs.toList, u.oneCell' = true)
    (hrf : anyB (C.refs d) cs = false) :
    Sim E (s.slot d (.box cs)) G (upd φ d (some ⟨w.heap.size, 0, 0⟩)) a (w.alloc (.cells vs t)) := by
  refine h.alloc (h.notFx hlt) hd rfl ?_
  have hb : ∀ b, b < w.heap.size → (w.alloc (.cells vs t)).heap[b]? = w.heap[b]? := fun b hb => by
    show (w.heap.push _)[b]? = _
    rw [Array.getElem?_push, if_neg (by omega)]
  obtain ⟨sg, sv⟩ := h.same_of_lt hb
  have hc : ∀ j, (w.alloc (.cells vs t)).cell? ⟨w.heap.size, 0 + j, none⟩ = vs[j]? := fun j => by rw [Nat.zero_add]; exact World.cell?_alloc_new w vs t j
  refine ⟨_, upd_same _ _ _, fun j hj => ?_, vs.toList, hr.mono fun c hc v hcv => hcv.mono sg sv (fun _ h => h) fun k hk => upd_other _ _ _ (C.refs_ne (anyB_false hrf c hc) hk), h1, fun j v hj => by rw [hc]; simpa using hj⟩
  have hlt : j < vs.size := by rw [hr.length] at hj; simpa using hj
  refine ⟨by rw [hc]; simp [hlt], ?_⟩
  simp only [World.frozen?, World.alloc, Array.getElem?_push, if_true]
  simp

end
end Go.Av
