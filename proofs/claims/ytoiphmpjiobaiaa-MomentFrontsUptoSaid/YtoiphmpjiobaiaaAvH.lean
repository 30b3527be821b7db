/-
  Av, part H: an operation, a list of operations, a region.
-/
import Derived.Test.YtoiphmpjiobaiaaAvG
namespace Go.Av
open Go
set_option linter.unusedVariables false
set_option linter.unusedSimpArgs false

def wantedB (ops : Array Oper) (s : St) (o : Oper) : Option Bool :=
  match o.guard with
  | none => some true
  | some (j, want) => match ops[j]? with
    | some oj => match oj.dst with
      | some d => match look s.tm d with
        | some (.c (.d (.bool b))) => some (b == want)
        | some (.tup _) => some false
        | _ => none
      | none => none
    | none => none

def evalOps (P : Program) (N : Nat) (ops : Array Oper) : List Oper → St → Option (St × Prop)
  | [], s => some (s, True)
  | o :: r, s => match wantedB ops s o with
    | some true => match evStep P s o.dst o.op with
      | some st => match okDst N s o.dst st with
        | true => match evalOps P N ops r (stepSt s o.dst st) with
          | some (s', c) => some (s', st.cond ∧ c)
          | none => none
        | false => none
      | none => none
    | some false => match o.dst with
      | some d => match Nat.blt d N with
        | true => evalOps P N ops r (dropTm d s)
        | false => none
      | none => evalOps P N ops r s
    | none => none

def SimE (E : Env) (s : St) (a : Act) (w : World) : Prop := ∃ G φ, Sim E s G φ a w

section
variable {E : Env} {s : St} {G : Nat → Prop} {φ : Nat → Option Loc} {a : Act} {w : World}

theorem constCs_refs (d : Nat) : ∀ vs : List Value, anyB (C.refs d) (vs.map constC) = false
  | [] => rfl
  | v :: vs => by
    have hc : (constC v).refs d = false := by unfold constC; split <;> rfl
    simp only [List.map_cons, anyB, hc]; exact constCs_refs d vs

theorem noRef_ev {d : Nat} (hd : s.noRef d = true) {o : Operand} {x : AV} (hx : evO s o = some x) : x.refs d = false := by
  cases o with
  | tmp t => exact (St.noRef_spec hd).1 _ (look_mem hx)
  | const v =>
    have hc : ∀ v, (constC v).refs d = false := fun v => by unfold constC; split <;> rfl
    simp only [evO, constAV] at hx
    split at hx
    · split at hx
      · cases hx; exact constCs_refs d _
      · cases hx
    · cases hx
    · split at hx
      · cases hx
      · cases hx; exact hc _
  | func f => cases hx; rfl
  | global g => cases hx

theorem okDst_lt {N d : Nat} {st : Step} (h : okDst N s (some d) st = true) : d < N := by
  unfold okDst at h
  simp only at h
  split at h
  · cases h
  · rename_i hlt; exact Nat.blt_eq.mp hlt

theorem Sim.putAt (h : Sim E s G φ a w) {dst : Option Nat} {st : Step} (hok : okDst E.N s dst st = true) {x : AV} {c : Prop} (hst : st = .val x c) {v : Value} (hx : RAV E G φ w x v) :
    Sim E (stepSt s dst st) G φ (a.put dst v) w := by
  subst hst
  cases dst with
  | none => exact h
  | some d => exact h.put (okDst_lt hok) hx

theorem ofVal_some {r : Option (AV × Prop)} {st : Step} (h : ofVal r = some st) : ∃ x c, r = some (x, c) ∧ st = .val x c := by
  unfold ofVal at h
  split at h
  · cases h; exact ⟨_, _, rfl, rfl⟩
  · cases h

def Comes (E : Env) (s' : St) (G : Nat → Prop) (a : Act) (dst : Option Nat) : Result Next → Prop
  | .ok (.value v) w' => ∃ φ', Sim E s' G φ' (a.put dst v) w'
  | .ok .skip w' => ∃ φ', Sim E s' G φ' (a.put dst undef) w'
  | _ => False

theorem comes_val {s' : St} {dst : Option Nat} {m : Sem Value} (h : ∃ v, m.run E.P w = .ok v w ∧ Sim E s' G φ (a.put dst v) w) :
    Comes E s' G a dst ((do pure (.value (← m)) : Sem Next).run E.P w) := by
  obtain ⟨v, hr, hs⟩ := h
  simp only [Sem.run_bind, hr, Result.andThen_ok, Sem.run_pure]
  exact ⟨φ, hs⟩

theorem foldl_set (off : Nat) : ∀ (us : List Value) (k : Nat) (A : Array Value), off + k + us.length ≤ A.size →
    ((us.zipIdx k).foldl (fun cs (x : Value × Nat) => cs.setIfInBounds (off + x.2) x.1) A).toList = A.toList.take (off + k) ++ us ++ A.toList.drop (off + k + us.length)
  | [], k, A, _ => by simp
  | u :: us, k, A, hA => by
    simp only [List.length_cons] at hA
    rw [List.zipIdx_cons, List.foldl_cons, foldl_set off us (k + 1) _ (by simp; omega)]
    simp only [Array.toList_setIfInBounds]
    have hp : off + k < A.toList.length := by simp; omega
    have e1 : (A.toList.set (off + k) u).take (off + (k + 1)) = A.toList.take (off + k) ++ [u] := by
      rw [List.set_eq_take_append_cons_drop, if_pos hp, List.take_append]
      have : off + (k + 1) - (A.toList.take (off + k)).length = 1 := by simp; omega
      rw [this, List.take_take]
      have : min (off + (k + 1)) (off + k) = off + k := by omega
      rw [this]; rfl
    have e2 : (A.toList.set (off + k) u).drop (off + (k + 1) + us.length) = A.toList.drop (off + k + (us.length + 1)) := by
      rw [List.drop_set_of_lt (by omega)]
      congr 1; omega
    rw [e1, e2]
    simp

theorem fillC_rel {P : Program} {place : Nat → Option (Nat × Nat)} : ∀ (parts : List (Nat × Operand)) {cs : List C} {vs : Array Value} {cs' : List C}, Sim E s G φ a w → RelCs (RelC G E.V φ w) cs vs.toList → (∀ u ∈ vs.toList, u.oneCell' = true) →
    fillC place cs (parts.map fun p => (p.1, evO s p.2)) = some cs' →
    ∃ vs', Instr.fill place vs (parts.map fun p => (p.1, a.eval p.2)) = some vs' ∧ RelCs (RelC G E.V φ w) cs' vs'.toList ∧ ∀ u ∈ vs'.toList, u.oneCell' = true
  | [], cs, vs, cs', _, h1, h2, hf => by cases hf; exact ⟨vs, rfl, h1, h2⟩
  | (i, o) :: r, cs, vs, cs', h, h1, h2, hf => by
    simp only [List.map_cons] at hf ⊢
    cases ho : evO s o with
    | none => rw [ho] at hf; cases hf
    | some x =>
      rw [ho] at hf
      simp only [fillC] at hf
      split at hf
      · rename_i off n xs hp hst
        split at hf
        · rename_i hn
          have hn := Nat.eq_of_beq_eq_true hn
          split at hf
          · rename_i hle
            have hle := Nat.le_of_ble_eq_true hle
            obtain ⟨g1, g2⟩ := storable_rel (h.ev ho) hst
            have e1 := h1.length
            have e2 := g1.length
            have hk := foldl_set off (a.eval o).cells.toList 0 vs (by simp at e1 e2 ⊢; omega)
            simp only [Nat.add_zero] at hk
            have hsz : (a.eval o).cells.size = n := by rw [hn, e2]; simp
            have hzip : (a.eval o).cells.zipIdx.foldl (fun cs (x : Value × Nat) => cs.setIfInBounds (off + x.2) x.1) vs = (vs.toList.take off ++ (a.eval o).cells.toList ++ vs.toList.drop (off + (a.eval o).cells.toList.length)).toArray := by
              apply Array.ext'
              rw [← hk, ← Array.foldl_toList]
              congr 1
              simp
            obtain ⟨vs', r1, r2, r3⟩ := fillC_rel (P := P) r (cs := wr cs off xs) (vs := (vs.toList.take off ++ (a.eval o).cells.toList ++ vs.toList.drop (off + (a.eval o).cells.toList.length)).toArray) h
              (by simpa using wr_rel h1 g1 off) (fun u hu => by
                simp only [List.mem_append] at hu
                rcases hu with (hu | hu) | hu
                · exact h2 u (List.mem_of_mem_take hu)
                · exact g2 u hu
                · exact h2 u (List.mem_of_mem_drop hu)) hf
            refine ⟨vs', ?_, r2, r3⟩
            simp only [Instr.fill, hp]
            simp only [Array.length_toList] at e1
            rw [if_neg (by simp [hsz]; omega), ← r1, ← hzip]
          · cases hf
        · cases hf
      · cases hf

end
end Go.Av
