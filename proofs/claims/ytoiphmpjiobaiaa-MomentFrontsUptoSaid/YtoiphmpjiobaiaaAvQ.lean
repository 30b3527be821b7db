/-
  Av, part Q: bytes and texts; structs that are compared.
-/
import Derived.Test.YtoiphmpjiobaiaaAvP
import Derived.Laws.BytesArg
import Derived.Lib.ConvBytes
namespace Go.Av
open Go Go.Lib
set_option linter.unusedVariables false
set_option linter.unusedSimpArgs false

section
variable {E : Env} {s : St} {G : Nat → Prop} {φ : Nat → Option Loc} {a : Act} {w : World}

theorem One.bytesStr {ops : Array Oper} {o : Oper} {src dst e : TypeId} {x : Operand} {y : AV} {m : Nat} {get : Nat → List D} {xs : List Int}
    (hop : o.op = .convert src dst x) (hw : wantedB ops s o = some true) (hd : dstOk E.N o.dst = true)
    (hu : E.P.underlying src = some (.slice e)) (hb : E.P.underlying e = some (.int .u8)) (hst : E.P.underlying dst = some .string)
    (hx : evO s x = some y) (hsrc : SrcOf s y 1 m get) (hm : m = xs.length) (hget : ∀ i, i < m → get i = [.int .u8 (xs.getD i 0)]) :
    One E ops o s (putO s o.dst (.c (.d (.str (strOfNums xs))))) := fun a w hs => by
  obtain ⟨G, φ, h⟩ := hs
  refine ⟨wantedB_spec h hw, fun next Q hnx => ?_⟩
  obtain ⟨A, cap, hv, hmx, us, hul, hcs, hf, h1⟩ := hsrc.load h (h.ev hx)
  have hl := hf w rfl
  have hus : us = xs.map (Value.int .u8) := by
    apply List.ext_getElem?
    intro j
    by_cases hj : j < m
    · obtain ⟨_, g2⟩ := hcs j hj
      obtain ⟨u, hu, hr⟩ := g2 0 (by omega)
      rw [hget j hj] at hr
      have hr : RelD G w (.int .u8 (xs.getD j 0)) u := hr
      cases hr
      rw [Nat.mul_one, Nat.add_zero] at hu
      rw [hu, List.getElem?_map, List.getElem?_eq_getElem (by omega)]
      simp [List.getD_eq_getElem?_getD, List.getElem?_eq_getElem (show j < xs.length by omega)]
    · rw [List.getElem?_eq_none (by omega), List.getElem?_eq_none (by simp; omega)]
  have hrun : (Go.convert src dst (a.eval x)).run E.P w = .ok (.string (strOfNums xs)) w := by
    rw [hv] at hl ⊢
    cases A with
    | none =>
      have hl : (Pure.pure #[] : Sem (Array Value)).run E.P w = .ok us.toArray w := hl
      simp only [Sem.run_pure, Result.ok.injEq, and_true] at hl
      have hus0 : us = [] := by have := congrArg Array.toList hl; simpa using this.symm
      have hxs : xs = [] := by
        rw [hus0] at hus
        cases xs with
        | nil => rfl
        | cons x r => cases hus
      subst hxs
      rw [run_convert_bytes_nil w src e hu hb m cap dst hst]
      rfl
    | some A =>
      have hl : (loadCells A (m * 1)).run E.P w = .ok us.toArray w := hl
      rw [Nat.mul_one, hus] at hl
      rw [run_convert_bytes_string w src dst e A m cap hu hb hst, run_bytesToString w A m cap xs hl, foldl_push_bytes]
      simp [strOfNums, ByteArray.empty, ByteArray.emptyWithCapacity]
      rfl
  unfold Oper.wp
  have he : execOp a.eval o = (do pure (.value (← Go.convert src dst (a.eval x))) : Sem Next) := by unfold execOp; rw [hop]
  rw [he]
  simp only [Sem.run_bind, hrun, Result.andThen_ok, Sem.run_pure, Oper.upon]
  refine hnx _ _ ⟨G, φ, ?_⟩
  cases hdd : o.dst with
  | none => exact h
  | some d => rw [hdd] at hd; exact h.put (Nat.blt_eq.mp hd) (relAV_c (RelD.str _) rfl)

theorem One.strBytes {ops : Array Oper} {o : Oper} {d : Nat} {src dst e : TypeId} {u : TypeDesc} {x : Operand} {sx : ByteArray}
    (hop : o.op = .convert src dst x) (hw : wantedB ops s o = some true) (hd : o.dst = some d) (hlt : Nat.blt d E.N = true) (hnr : s.noRef d = true)
    (hu : E.P.underlying src = some u) (hds : E.P.underlying dst = some (.slice e)) (hb : E.P.underlying e = some (.int .u8)) (hx : evO s x = some (.c (.d (.str sx)))) (hm : sx.size ≤ maxN) :
    One E ops o s ((s.slot d (.vec 1 sx.size (fun i => [.int .u8 ((sx.data.toList.getD i 0).toNat : Int)]))).put d (.c (.own d 1 0 sx.size))) := fun a w hs => by
  obtain ⟨G, φ, h⟩ := hs
  refine ⟨wantedB_spec h hw, fun next Q hnx => ?_⟩
  have hrun := run_convert_string_bytes w src dst e sx hu hds hb
  have hcap : sx.size ≤ grownCap w sx.size 0 e := Nat.le_add_right _ _
  have hcells : (bytesCells w e sx).size = grownCap w sx.size 0 e := by
    simp only [bytesCells, Array.size_append, Array.size_map, Array.size_replicate]
    have : sx.data.size = sx.size := rfl
    omega
  unfold Oper.wp
  have he : execOp a.eval o = (do pure (.value (← Go.convert src dst (a.eval x))) : Sem Next) := by unfold execOp; rw [hop]
  rw [he, rel_str (h.ev hx)]
  simp only [Sem.run_bind, hrun, Result.andThen_ok, Sem.run_pure, Oper.upon, hd]
  have hb' : ∀ b, b < w.heap.size → (bytesWorld w e sx).heap[b]? = w.heap[b]? := bytesWorld_at_old w e sx
  have hs' := h.allocW (k := d) (c := .vec 1 sx.size (fun i => [.int .u8 ((sx.data.toList.getD i 0).toNat : Int)])) (l := ⟨w.heap.size, 0, grownCap w sx.size 0 e⟩) hb' (bytesWorld_size w e sx) rfl rfl rfl (h.notFx (Nat.blt_eq.mp hlt)) hnr rfl
    ⟨hm, .inr ⟨_, upd_same _ _ _, hcap, fun j hj => by
      have hj : j < grownCap w sx.size 0 e * 1 := hj
      have hnew := bytesWorld_at_new w e sx
      simp only [Nat.zero_add]
      refine ⟨?_, ?_⟩
      · simp only [World.cell?, hnew]
        simp; omega
      · simp only [World.frozen?, hnew]
        simp; omega,
    fun i hi => ⟨rfl, fun j hj => by
      have hj : j = 0 := by simpa using hj
      subst hj
      refine ⟨_, ?_, RelD.int _ _⟩
      have := bytesWorld_cell w e sx i hi
      simpa using this⟩⟩⟩
  exact hnx _ _ ⟨G, _, hs'.put (Nat.blt_eq.mp hlt) (relAV_c (.inr ⟨_, upd_same _ _ _, (show 0 + sx.size ≤ grownCap w sx.size 0 e by omega), by simp⟩) rfl)⟩

end


def eqD : Option TypeDesc → D → D → Option Bool
  | some .bool, .bool x, .bool y => some (x == y)
  | some (.int _), .int k x, .int k' y => match decide (k = k') with | true => some (decide (x = y)) | false => none
  | some .string, .str x, .str y => some (strEq x y)
  | _, _, _ => none

def partC (P : Program) (t : TypeId) (xs : List C) (off : Nat) : Option AV :=
  match aggT P t with
  | some true => match sizeT P t with
    | some n => some (.agg ((xs.drop off).take n))
    | none => none
  | some false => match xs.drop off with
    | x :: _ => some (.c x)
    | [] => none
  | none => none

def eqFs (P : Program) (rec : TypeId → AV → AV → Option Bool) (xs ys : List C) : List Field → Option Bool
  | [] => some true
  | f :: fs => match decide (f.name ≠ "_") with
    | true => match partC P f.type xs f.offset, partC P f.type ys f.offset with
      | some x, some y => match rec f.type x y, eqFs P rec xs ys fs with
        | some b, some b' => some (b && b')
        | _, _ => none
      | _, _ => none
    | false => eqFs P rec xs ys fs
def eqEs (P : Program) (rec : TypeId → AV → AV → Option Bool) (e : TypeId) (n : Nat) (xs ys : List C) : List Nat → Option Bool
  | [] => some true
  | i :: is => match partC P e xs (i * n), partC P e ys (i * n) with
    | some x, some y => match rec e x y, eqEs P rec e n xs ys is with
      | some b, some b' => some (b && b')
      | _, _ => none
    | _, _ => none

def eqIn (P : Program) : Nat → TypeId → AV → AV → Option Bool
  | 0, _, _, _ => none
  | d + 1, t, x, y => match x, y with
    | .c (.d x), .c (.d y) => eqD (P.underlying t) x y
    | .agg xs, .agg ys => match P.underlying t with
      | some (.struct fs) => match P.stoodInHeld t with
        | true => none
        | false => eqFs P (eqIn P d) xs ys fs.toList
      | some (.array len e) => match sizeT P e with
        | some n => eqEs P (eqIn P d) e n xs ys (List.range' 0 len)
        | none => none
      | _ => none
    | _, _ => none

section
variable {E : Env} {s : St} {G : Nat → Prop} {φ : Nat → Option Loc} {a : Act} {w : World}

theorem partC_run (h : Sim E s G φ a w) {t : TypeId} {xs : List C} {off : Nat} {x : AV} (hp : partC E.P t xs off = some x) {vs : Array Value} (hr : RelCs (RelC G E.V φ w) xs vs.toList) (h1 : ∀ u ∈ vs.toList, u.oneCell' = true) :
    ∃ v, (part t vs off).run E.P w = .ok v w ∧ RAV E G φ w x v := by
  unfold partC at hp
  split at hp
  · rename_i hag
    split at hp
    · rename_i n hn
      cases hp
      exact ⟨_, by simp [part, aggT_run hag, sizeT_run hn], RelS.part hr h1 off n⟩
    · cases hp
  · rename_i hag
    split at hp
    · rename_i y r hy
      cases hp
      have hd := hr.drop off
      rw [hy] at hd
      cases hvd : vs.toList.drop off with
      | nil => rw [hvd] at hd; exact hd.elim
      | cons u us =>
        rw [hvd] at hd
        have hu' : vs[off]? = some u := by
          have : (vs.toList.drop off)[0]? = some u := by rw [hvd]; rfl
          rw [List.getElem?_drop] at this
          simpa using this
        refine ⟨u, by simp [part, aggT_run hag, hu'], relAV_c hd.1 (h1 u ?_)⟩
        have : u ∈ vs.toList.drop off := by rw [hvd]; simp
        exact List.mem_of_mem_drop this
    · cases hp
  · cases hp

theorem fieldsOf_eq {P : Program} {t : TypeId} {fs : Array Field} (h : P.underlying t = some (.struct fs)) : P.fieldsOf t = fs := by simp [Program.fieldsOf, h]

def eqElems (D' : Nat) (e : TypeId) (n : Nat) (xs ys : Array Value) : List Nat → Sem Bool
  | [] => pure true
  | i :: is => do
    if !(← Op.equalIn D' e (← part e xs (i * n)) (← part e ys (i * n))) then pure false else eqElems D' e n xs ys is

theorem run_equalIn_array {P : Program} (w : World) (D' : Nat) (t e : TypeId) (len n : Nat) (xs ys : Array Value) (ht : P.underlying t = some (.array len e)) (hn : sizeT P e = some n) :
    (Op.equalIn (D' + 1) t (.agg xs) (.agg ys)).run P w = (eqElems D' e n xs ys (List.range' 0 len)).run P w := by
  simp only [Op.equalIn, Sem.run_bind, run_underlying ht, Result.andThen_ok, sizeT_run hn]
  rw [Std.Legacy.Range.forIn_eq_forIn_range']
  simp only [Std.Legacy.Range.size, Nat.sub_zero, Nat.add_sub_cancel, Nat.div_one]
  generalize List.range' 0 len = is
  clear ht hn
  induction is generalizing w with
  | nil => simp [eqElems]
  | cons i is ih =>
    simp only [List.forIn_cons, eqElems, Sem.run_bind]
    generalize (part e xs (i * n)).run P w = r1
    cases r1 with
    | ok a w1 =>
      simp only [Result.andThen_ok]
      generalize (part e ys (i * n)).run P w1 = r2
      cases r2 with
      | ok b w2 =>
        simp only [Result.andThen_ok]
        generalize (Op.equalIn D' e a b).run P w2 = r3
        cases r3 with
        | ok r w3 =>
          cases r
          · simp
          · simp only [Result.andThen_ok, Bool.not_true, Bool.false_eq_true, if_false, Sem.run_pure]
            exact ih w3
        | halt x w3 => simp [Result.andThen]
      | halt x w2 => simp [Result.andThen]
    | halt x w1 => simp [Result.andThen]

theorem eqD_run {P : Program} {x y : D} {b : Bool} {vx vy : Value} {t : TypeId} (D' : Nat) (h : eqD (P.underlying t) x y = some b) (hx : RelD G w x vx) (hy : RelD G w y vy) :
    (Op.equalIn (D' + 1) t vx vy).run P w = .ok b w := by
  unfold eqD at h
  split at h
  · rename_i ht
    cases h
    cases hx; cases hy
    exact run_equalIn_bool' w D' t _ _ ht
  · rename_i ht
    split at h
    · rename_i hk
      have hk := of_decide_eq_true hk
      subst hk
      cases h
      cases hx; cases hy
      rw [run_equalIn_int w D' t _ _ _ _ ht]
      rfl
    · cases h
  · rename_i ht
    cases h
    cases hx; cases hy
    exact run_equalIn_string w D' t _ _ ht
  · cases h

theorem eqIn_run (h : Sim E s G φ a w) : ∀ (d D' : Nat), d ≤ D' → ∀ (t : TypeId) (x y : AV) (b : Bool) (vx vy : Value), eqIn E.P d t x y = some b → RAV E G φ w x vx → RAV E G φ w y vy →
    (Op.equalIn D' t vx vy).run E.P w = .ok b w := by
  intro d
  induction d with
  | zero => intro D' _ t x y b vx vy he; cases he
  | succ d ih =>
    intro D' hD t x y b vx vy he hx hy
    obtain ⟨D', rfl⟩ : ∃ q, D' = q + 1 := ⟨D' - 1, by omega⟩
    have hD : d ≤ D' := by omega
    have fields : ∀ (fs : List Field) (xs ys : List C) (b : Bool) (vs us : Array Value), eqFs E.P (eqIn E.P d) xs ys fs = some b → RelCs (RelC G E.V φ w) xs vs.toList → (∀ u ∈ vs.toList, u.oneCell' = true) →
        RelCs (RelC G E.V φ w) ys us.toList → (∀ u ∈ us.toList, u.oneCell' = true) → (Op.eqFields D' vs us fs).run E.P w = .ok b w := by
      intro fs
      induction fs with
      | nil => intro xs ys b vs us he _ _ _ _; cases he; rfl
      | cons f fs ihf =>
        intro xs ys b vs us he r1 o1 r2 o2
        simp only [eqFs] at he
        split at he
        · rename_i hnm
          split at he
          · rename_i x' y' hx' hy'
            split at he
            · rename_i b1 b2 e1 e2
              cases he
              obtain ⟨v1, p1, q1⟩ := partC_run h hx' r1 o1
              obtain ⟨v2, p2, q2⟩ := partC_run h hy' r2 o2
              have := ih D' hD _ _ _ _ _ _ e1 q1 q2
              simp only [Op.eqFields, if_pos (of_decide_eq_true hnm), Sem.run_bind, p1, p2, this, Result.andThen_ok]
              cases b1
              · rfl
              · simpa using ihf xs ys b2 vs us e2 r1 o1 r2 o2
            · cases he
          · cases he
        · rename_i hnm
          have hnm := of_decide_eq_false hnm
          simp only [Op.eqFields, if_neg hnm]
          exact ihf xs ys b vs us he r1 o1 r2 o2
    have elems : ∀ (e : TypeId) (n : Nat) (is : List Nat) (xs ys : List C) (b : Bool) (vs us : Array Value), eqEs E.P (eqIn E.P d) e n xs ys is = some b → RelCs (RelC G E.V φ w) xs vs.toList → (∀ u ∈ vs.toList, u.oneCell' = true) →
        RelCs (RelC G E.V φ w) ys us.toList → (∀ u ∈ us.toList, u.oneCell' = true) → (eqElems D' e n vs us is).run E.P w = .ok b w := by
      intro e n is
      induction is with
      | nil => intro xs ys b vs us he _ _ _ _; cases he; rfl
      | cons i is ihi =>
        intro xs ys b vs us he r1 o1 r2 o2
        simp only [eqEs] at he
        split at he
        · rename_i x' y' hx' hy'
          split at he
          · rename_i b1 b2 e1 e2
            cases he
            obtain ⟨v1, p1, q1⟩ := partC_run h hx' r1 o1
            obtain ⟨v2, p2, q2⟩ := partC_run h hy' r2 o2
            have := ih D' hD _ _ _ _ _ _ e1 q1 q2
            simp only [eqElems, Sem.run_bind, p1, p2, this, Result.andThen_ok]
            cases b1
            · rfl
            · simpa using ihi xs ys b2 vs us e2 r1 o1 r2 o2
          · cases he
        · cases he
    simp only [eqIn] at he
    split at he
    · exact eqD_run D' he hx.1 hy.1
    · rename_i xs ys
      obtain ⟨vs, rfl, r1, o1⟩ := hx
      obtain ⟨us, rfl, r2, o2⟩ := hy
      split at he
      · rename_i fs hu
        split at he
        · cases he
        · rename_i hst
          have hf := fieldsOf_eq hu
          rw [run_equalIn_struct w D' t vs us (by rw [hf]; exact hu) hst, hf]
          exact fields _ _ _ _ _ _ he r1 o1 r2 o2
      · rename_i len e hu
        split at he
        · rename_i n hn
          rw [run_equalIn_array w D' t e len n vs us hu hn]
          exact elems _ _ _ _ _ _ _ _ he r1 o1 r2 o2
        · cases he
      · cases he
    · cases he

theorem One.eql {ops : Array Oper} {o : Oper} {op : BinOp} {t yt : TypeId} {x y : Operand} {xs ys : List C} {d : Nat} {b : Bool}
    (hop : o.op = .binOp op t x y yt) (hw : wantedB ops s o = some true) (hd : dstOk E.N o.dst = true) (hneg : op = .eql ∨ op = .neq) (hx : evO s x = some (.agg xs)) (hy : evO s y = some (.agg ys))
    (hg : E.P.eqGuardType E.P.depth t = false) (hlt : Nat.ble d 10000 = true) (he : eqIn E.P d t (.agg xs) (.agg ys) = some b) :
    One E ops o s (putO s o.dst (.c (.d (.bool (match op with | .eql => b | _ => !b))))) := fun a w hs => by
  obtain ⟨G, φ, h⟩ := hs
  refine ⟨wantedB_spec h hw, fun next Q hnx => ?_⟩
  have hx' := h.ev hx
  have hy' := h.ev hy
  have heq := eqIn_run h d 10000 (Nat.le_of_ble_eq_true hlt) t _ _ b _ _ he hx' hy'
  obtain ⟨vs, ex, _⟩ := hx'
  obtain ⟨us, ey, _⟩ := hy'
  rw [ex, ey] at heq
  unfold Oper.wp
  have hex : execOp a.eval o = (do pure (.value (← (do eqGuard op t x y (a.eval x) (a.eval y); Go.binOp op t (a.eval x) (a.eval y) : Sem Value))) : Sem Next) := by unfold execOp; rw [hop]
  rw [hex, ex, ey]
  have hguard := run_eqGuard_agg (P := E.P) w op t x y vs us hg
  have fin : ∀ b', (Go.binOp op t (.agg vs) (.agg us)).run E.P w = .ok (.bool b') w → SimE E (putO s o.dst (.c (.d (.bool b')))) (a.put o.dst (.bool b')) w := fun b' _ => by
    refine ⟨G, φ, ?_⟩
    cases hdd : o.dst with
    | none => exact h
    | some d => rw [hdd] at hd; exact h.put (Nat.blt_eq.mp hd) (relAV_c (RelD.bool _) rfl)
  rcases hneg with rfl | rfl
  · have hr : (Go.binOp .eql t (.agg vs) (.agg us)).run E.P w = .ok (.bool b) w := by rw [run_eql_struct, heq]; rfl
    simp only [Sem.run_bind, hguard, hr, Result.andThen_ok, Sem.run_pure, Oper.upon]
    exact hnx _ _ (fin b hr)
  · have hr : (Go.binOp .neq t (.agg vs) (.agg us)).run E.P w = .ok (.bool (!b)) w := by rw [run_neq_struct, heq]; rfl
    simp only [Sem.run_bind, hguard, hr, Result.andThen_ok, Sem.run_pure, Oper.upon]
    exact hnx _ _ (fin (!b) hr)

end
end Go.Av
