/-
  Av, part C: operations that leave the world alone.
-/
import Derived.Test.YtoiphmpjiobaiaaAvB
namespace Go.Av
open Go
set_option linter.unusedVariables false
set_option linter.unusedSimpArgs false

def bitsOp (op : BinOp) (k : IntKind) (x y : Int) : Int :=
  let a := BitVec.ofInt k.bits x
  let b := BitVec.ofInt k.bits y
  match op with
  | .and => k.wrap (a &&& b).toNat
  | .or => k.wrap (a ||| b).toNat
  | .xor => k.wrap (a ^^^ b).toNat
  | _ => k.wrap (a &&& ~~~b).toNat

def shlOp (k : IntKind) (x y : Int) : Int := k.wrap (x * 2 ^ (min y.toNat k.bits))
def shrOp (k : IntKind) (x y : Int) : Int := x.fdiv (2 ^ (min y.toNat k.bits))
def strLt (x y : ByteArray) : Bool := Op.bytesLess x.toList y.toList
def strEq (x y : ByteArray) : Bool := x.toList == y.toList
def bt (s : ByteArray) (i : Int) : Int := ((s.data.getD i.toNat 0).toNat : Int)

def constC : Value → C
  | .bool b => .d (.bool b)
  | .int k n => .d (.int k n)
  | .string s => .d (.str s)
  | .slice none 0 0 => .zero
  | .nilFunc => .d .nilf
  | _ => .any

def constAV : Value → Option AV
  | .agg cs => match cs.toList.all (·.oneCell') with | true => some (.agg (cs.toList.map constC)) | false => none
  | .tuple _ => none
  | v => match constC v with | .any => none | c => some (.c c)

def evO (s : St) : Operand → Option AV
  | .tmp t => look s.tm t
  | .const v => constAV v
  | .func f => some (.c (.d (.fn f [])))
  | .global _ => none

abbrev RAV (E : Env) (G : Nat → Prop) (φ : Nat → Option Loc) (w : World) : AV → Value → Prop := RelAV (RelC G E.V φ w)

theorem constC_rel (G V : Nat → Prop) (φ : Nat → Option Loc) (w : World) (v : Value) : RelC G V φ w (constC v) v := by
  unfold constC
  split <;> first
    | exact RelD.bool _ | exact RelD.int _ _ | exact RelD.str _ | exact RelD.nilf | exact ⟨_, rfl⟩ | trivial

theorem constCs_rel (G V : Nat → Prop) (φ : Nat → Option Loc) (w : World) : ∀ vs : List Value, RelCs (RelC G V φ w) (vs.map constC) vs
  | [] => trivial
  | v :: vs => ⟨constC_rel G V φ w v, constCs_rel G V φ w vs⟩

theorem relAV_c {R : C → Value → Prop} {x : C} {v : Value} (h : R x v) (h1 : v.oneCell' = true) : RelAV R (.c x) v := by
  cases x <;> first | trivial | exact ⟨h, h1⟩

theorem constAV_rel {G V : Nat → Prop} {φ : Nat → Option Loc} {w : World} {v : Value} {x : AV} (h : constAV v = some x) : RelAV (RelC G V φ w) x v := by
  have hc := constC_rel G V φ w v
  unfold constAV at h
  split at h
  · rename_i cs
    split at h
    · rename_i ha
      cases h
      exact ⟨cs, rfl, constCs_rel G V φ w _, fun u hu => List.all_eq_true.1 ha u hu⟩
    · cases h
  · cases h
  · rename_i v h1 h2
    split at h
    · cases h
    · cases h
      exact relAV_c hc (by cases v <;> simp_all [Value.oneCell'])

section
variable {E : Env} {s : St} {G : Nat → Prop} {φ : Nat → Option Loc} {a : Act} {w : World}

theorem Sim.ev (h : Sim E s G φ a w) {o : Operand} {x : AV} (hx : evO s o = some x) : RAV E G φ w x (a.eval o) := by
  cases o with
  | tmp t =>
    obtain ⟨v, hv, hr⟩ := h.tm t x hx
    have : a.eval (.tmp t) = v := by simp [Act.eval, Array.getD_eq_getD_getElem?, hv]
    rw [this]; exact hr
  | const v => exact constAV_rel hx
  | func f => cases hx; exact ⟨RelD.fn f [] [] rfl (fun j hj => by simp at hj), rfl⟩
  | global g => cases hx


def rdC (s : St) : C → Nat → Option (List C × Prop)
  | .ptr k o, n => match look s.sl k with
    | some (.box cs) => match Nat.ble (o + n) cs.length with
      | true => some ((cs.drop o).take n, True)
      | false => none
    | _ => none
  | .vptr k es i o, n => match look s.sl k with
    | some (.vec es' n' get) => match Nat.beq es es' with
      | true => match Nat.ble (o + n) es with
        | true => some ((((get i).drop o).take n).map .d, i < n')
        | false => none
      | false => none
    | _ => none
  | .eptr cells, n => match Nat.ble n cells.length with
    | true => some ((cells.take n).map .d, True)
    | false => none
  | _, _ => none

theorem ds_rel {V : Nat → Prop} : ∀ {b off : Nat} {cells : List D}, HoldsAt G w b off cells →
    ∃ vs, RelCs (RelC G V φ w) (cells.map .d) vs ∧ (∀ u ∈ vs, u.oneCell' = true) ∧ w.rangeAt b off vs
  | _, _, [], _ => ⟨[], trivial, by simp, fun j v hj => by simp at hj⟩
  | b, off, c :: cs, h => by
    obtain ⟨u, hu, hr⟩ := h 0 (by simp)
    obtain ⟨vs, h1, h2, h3⟩ := ds_rel (V := V) (b := b) (off := off + 1) (cells := cs) fun j hj => by
      obtain ⟨u, hu, hr⟩ := h (j + 1) (by simp; omega)
      exact ⟨u, by rw [← hu]; congr 2; omega, by simpa [D.at] using hr⟩
    refine ⟨u :: vs, ⟨(by simpa [D.at] using hr : RelD G w c u), h1⟩, fun x hx => ?_, fun j v hj => ?_⟩
    · rcases List.mem_cons.1 hx with rfl | hx
      · exact hr.one
      · exact h2 x hx
    · cases j with
      | zero => simp at hj; subst hj; simpa using hu
      | succ j => simp at hj; have := h3 j v hj; rw [← this]; congr 2; omega

theorem HoldsAt.part {b off : Nat} {cells : List D} (h : HoldsAt G w b off cells) (o n : Nat) : HoldsAt G w b (off + o) ((cells.drop o).take n) := fun j hj => by
  simp only [List.length_take, List.length_drop] at hj
  obtain ⟨u, hu, hr⟩ := h (o + j) (by omega)
  refine ⟨u, by rw [← hu]; congr 2; omega, ?_⟩
  have : D.at ((cells.drop o).take n) j = D.at cells (o + j) := by
    simp only [D.at, List.getD_eq_getElem?_getD, List.getElem?_take, List.getElem?_drop]
    rw [if_pos (by omega)]
  rw [this]; exact hr

theorem rangeAt_take {b off : Nat} {vs : List Value} (h : w.rangeAt b off vs) (n : Nat) : w.rangeAt b off (vs.take n) := fun j v hj => by
  rw [List.getElem?_take] at hj
  split at hj
  · exact h j v hj
  · cases hj

theorem rangeAt_drop {b off : Nat} {vs : List Value} (h : w.rangeAt b off vs) (o : Nat) : w.rangeAt b (off + o) (vs.drop o) := fun j v hj => by
  rw [List.getElem?_drop] at hj
  rw [Nat.add_assoc]
  exact h _ v hj

theorem Sim.rd (h : Sim E s G φ a w) {p : C} {v : Value} (hp : RelC G E.V φ w p v) {n : Nat} {cs : List C} {c : Prop} (hr : rdC s p n = some (cs, c)) (hc : c) :
    ∃ b off vs, v = .pointer (some ⟨b, off, none⟩) ∧ RelCs (RelC G E.V φ w) cs vs ∧ (∀ u ∈ vs, u.oneCell' = true) ∧ w.rangeAt b off vs ∧ cs.length = n := by
  cases p with
  | ptr k o =>
    obtain ⟨l, hl, rfl⟩ := hp
    simp only [rdC] at hr
    split at hr
    · rename_i cs0 hk
      split at hr
      · rename_i hle
        cases hr
        obtain ⟨l', hl', _, vs, h1, h2, h3⟩ := h.sl k _ hk
        rw [hl] at hl'; cases hl'
        have hlen := h1.length
        have hle' := Nat.le_of_ble_eq_true hle
        exact ⟨l.blk, l.off + o, (vs.drop o).take n, rfl, (h1.drop o).take n, fun u hu => h2 u (List.mem_of_mem_drop (List.mem_of_mem_take hu)),
          rangeAt_take (rangeAt_drop h3 o) n, by simp; omega⟩
      · cases hr
    · cases hr
  | vptr k es i o =>
    obtain ⟨l, hl, rfl⟩ := hp
    simp only [rdC] at hr
    split at hr
    · rename_i es' n' get hk
      split at hr
      · rename_i hes
        have hes := Nat.eq_of_beq_eq_true hes
        subst hes
        split at hr
        · rename_i hle
          have hle' := Nat.le_of_ble_eq_true hle
          cases hr
          obtain ⟨_, h0 | ⟨l', hl', _, _, he⟩⟩ := h.sl k _ hk
          · rw [hl] at h0; cases h0.1
          · rw [hl] at hl'; cases hl'
            obtain ⟨hlen, hh⟩ := he i hc
            obtain ⟨vs, h1, h2, h3⟩ := ds_rel (V := E.V) (φ := φ) (hh.part o n)
            exact ⟨_, _, vs, rfl, h1, h2, h3, by simp; omega⟩
        · cases hr
      · cases hr
    · cases hr
  | eptr cells =>
    obtain ⟨b, off, _, rfl, hh⟩ := hp
    simp only [rdC] at hr
    split at hr
    · rename_i hle
      have hle' := Nat.le_of_ble_eq_true hle
      cases hr
      obtain ⟨vs, h1, h2, h3⟩ := ds_rel (V := E.V) (φ := φ) (hh.part 0 n)
      simp only [List.drop_zero, Nat.add_zero] at h1 h3
      exact ⟨b, off, vs, rfl, h1, h2, h3, by simp; omega⟩
    · cases hr
  | _ => cases hr

def aggT (P : Program) (t : TypeId) : Option Bool :=
  match P.underlying t with
  | some (.struct _) => some true
  | some (.array _ _) => some true
  | some _ => some false
  | none => none

def sizeT (P : Program) (t : TypeId) : Option Nat := (P.info? t).map (·.size)

def evLoad (P : Program) (s : St) (t : TypeId) : Option AV → Option (AV × Prop)
  | some (.c p) => match aggT P t, sizeT P t with
    | some true, some n => match rdC s p n with
      | some (cs, c) => some (.agg cs, c)
      | none => none
    | some false, _ => match rdC s p 1 with
      | some ([x], c) => some (.c x, c)
      | _ => none
    | _, _ => none
  | _ => none

theorem relAV_ptr {x : C} {v : Value} (h : RAV E G φ w (.c x) v) (hx : x ≠ .any) : RelC G E.V φ w x v ∧ v.oneCell' = true := by
  cases x <;> first | exact (hx rfl).elim | exact h

theorem Sim.load (h : Sim E s G φ a w) {t : TypeId} {o : Operand} {x : AV} {c : Prop} (he : evLoad E.P s t (evO s o) = some (x, c)) (hc : c) :
    ∃ v, (Instr.loadAt t (a.eval o)).run E.P w = .ok v w ∧ RAV E G φ w x v := by
  cases ho : evO s o with
  | none => simp [ho, evLoad] at he
  | some p =>
    have hp := h.ev ho
    rw [ho] at he
    cases p with
    | agg _ => simp [evLoad] at he
    | tup _ => simp [evLoad] at he
    | c p =>
      have hne : p ≠ .any := by
        rintro rfl
        simp only [evLoad, rdC] at he
        split at he <;> cases he
      have hp := (relAV_ptr hp hne).1
      simp only [evLoad] at he
      split at he
      · rename_i n hag hsz
        split at he
        · rename_i cs c' hrd
          cases he
          obtain ⟨b, off, vs, hv, h1, h2, h3, h4⟩ := h.rd hp hrd hc
          have hl := h1.length
          refine ⟨.agg vs.toArray, ?_, vs.toArray, rfl, by simpa using h1, by simpa using h2⟩
          rw [hv]
          unfold aggT at hag
          unfold sizeT at hsz
          split at hag
          · rename_i d hu
            exact run_loadAt_mid w b off t vs _ h3 hu rfl (by rw [hsz]; congr 1; omega)
          · rename_i d e hu
            exact run_loadAt_mid w b off t vs _ h3 hu rfl (by rw [hsz]; congr 1; omega)
          · cases hag
          · cases hag
        · cases he
      · rename_i hag
        split at he
        · rename_i y c' hrd
          cases he
          obtain ⟨b, off, vs, hv, h1, h2, h3, h4⟩ := h.rd hp hrd hc
          match vs, h1 with
          | [u], h1 =>
            refine ⟨u, ?_, relAV_c h1.1 (h2 u (by simp))⟩
            rw [hv]
            have hu : (isAgg t).run E.P w = .ok false w := by
              unfold aggT at hag
              split at hag
              · cases hag
              · cases hag
              · rename_i d hn1 hn2 hu
                unfold isAgg
                rw [Sem.run_bind, run_underlying hu w]
                cases d <;> simp_all
              · cases hag
            have h30 := h3 0 u (by simp)
            simp only [Nat.add_zero] at h30
            simp [Instr.loadAt, Instr.sureAddr, loadVar, hu, h30]
        · cases he
      · cases he

end
end Go.Av
