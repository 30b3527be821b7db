/-
  Av, part I: each operation is sound; lists of them; plain regions.
-/
import Derived.Test.YtoiphmpjiobaiaaAvH
namespace Go.Av
open Go
set_option linter.unusedVariables false
set_option linter.unusedSimpArgs false

section
variable {E : Env} {s : St} {G : Nat → Prop} {φ : Nat → Option Loc} {a : Act} {w : World}

theorem newRow_run {P : Program} (t : TypeId) (cs : Array Value) (w : World) : (newRow t cs).run P w = .ok ⟨w.heap.size, 0, none⟩ (w.alloc (.cells cs t)) := rfl

theorem comes_ofVal (h : Sim E s G φ a w) {dst : Option Nat} {r : Option (AV × Prop)} {st : Step} (he : ofVal r = some st) (hc : st.cond) (hok : okDst E.N s dst st = true) {m : Sem Value}
    (hm : ∀ x c, r = some (x, c) → c → ∃ v, m.run E.P w = .ok v w ∧ RAV E G φ w x v) : Comes E (stepSt s dst st) G a dst ((do pure (.value (← m)) : Sem Next).run E.P w) := by
  obtain ⟨x, c, hr, rfl⟩ := ofVal_some he
  obtain ⟨v, h1, h2⟩ := hm x c hr hc
  exact comes_val ⟨v, h1, h.putAt hok rfl h2⟩

theorem zeroCells_run {P : Program} {t : TypeId} {z : List C} (hz : zeroCells P t = some z) :
    ∃ v : Value, (∀ w, (zeroValue t).run P w = .ok v w) ∧ v.cells.toList.map constC = z ∧ ∀ u ∈ v.cells.toList, u.oneCell' = true := by
  unfold zeroCells at hz
  split at hz
  · rename_i i hi
    split at hz
    · rename_i v hv
      split at hz
      · rename_i hall
        cases hz
        refine ⟨v, fun w => by simp [zeroValue, typeInfo, hi, hv], rfl, fun u hu => List.all_eq_true.1 hall u hu⟩
      · cases hz
    · cases hz
  · cases hz

theorem mapM_places {P : Program} : ∀ (fs : List Field) (ps : List (Nat × Nat)), placesOf P fs = some ps → ∀ w,
    (fs.mapM fun f => (do pure (f.offset, ← sizeOf f.type) : Sem (Nat × Nat))).run P w = .ok ps w
  | [], ps, h, w => by cases h; rfl
  | f :: r, ps, h, w => by
    simp only [placesOf] at h
    split at h
    · rename_i n ps' hn hps
      cases h
      have ih := mapM_places r ps' hps w
      rw [List.mapM_cons]
      simp only [Sem.run_bind, sizeT_run hn, Result.andThen_ok, Sem.run_pure, ih]
    · cases h

theorem evBuild_run (h : Sim E s G φ a w) {t : TypeId} {parts : Array (Nat × Operand)} {x : AV} {c : Prop}
    (he : evBuild E.P t (parts.toList.map fun p => (p.1, evO s p.2)) = some (x, c)) :
    ∃ v, (Instr.build t (parts.map fun p => (p.1, a.eval p.2))).run E.P w = .ok v w ∧ RAV E G φ w x v := by
  unfold evBuild at he
  split at he
  · rename_i z fs hz hu
    split at he
    · rename_i ps hps
      split at he
      · rename_i cs hf
        cases he
        obtain ⟨zv, z1, z2, z3⟩ := zeroCells_run hz
        obtain ⟨vs', r1, r2, r3⟩ := fillC_rel (P := E.P) parts.toList (vs := zv.cells) h (by rw [← z2]; exact constCs_rel G E.V φ w _) z3 hf
        refine ⟨.agg vs', ?_, vs', rfl, r2, r3⟩
        have hm : (fs.mapM fun f => (do pure (f.offset, ← sizeOf f.type) : Sem (Nat × Nat))).run E.P w = .ok ps.toArray w := by
          rw [Array.mapM_eq_mapM_toList]
          simp only [Sem.run_map, mapM_places fs.toList ps hps w, Result.andThen_ok]
        have hpl : (fun i : Nat => ps.toArray[i]?) = fun i : Nat => ps[i]? := by funext i; simp
        simp only [Instr.build, Sem.run_bind, z1, Result.andThen_ok, run_underlying hu, hm, hpl, Array.toList_map, r1, Sem.run_pure]
      · cases he
    · cases he
  · rename_i z n0 e hz hu
    split at he
    · rename_i n hn
      split at he
      · rename_i cs hf
        cases he
        obtain ⟨zv, z1, z2, z3⟩ := zeroCells_run hz
        obtain ⟨vs', r1, r2, r3⟩ := fillC_rel (P := E.P) parts.toList (vs := zv.cells) h (by rw [← z2]; exact constCs_rel G E.V φ w _) z3 hf
        refine ⟨.agg vs', ?_, vs', rfl, r2, r3⟩
        simp only [Instr.build, Sem.run_bind, z1, Result.andThen_ok, run_underlying hu, sizeT_run hn, Array.toList_map, r1, Sem.run_pure]
      · cases he
    · cases he
  · cases he

theorem Sim.step (h : Sim E s G φ a w) {o : Oper} {st : Step} (he : evStep E.P s o.dst o.op = some st) (hc : st.cond) (hok : okDst E.N s o.dst st = true) :
    Av.Comes E (stepSt s o.dst st) G a o.dst ((execOp a.eval o).run E.P w) := by
  have mv : ∀ x : Operand, (match evO s x with | some v => some (Step.val v True) | none => none) = some st → Av.Comes E (stepSt s o.dst st) G a o.dst (.ok (.value (a.eval x)) w) := fun x hx => by
    cases hv : evO s x with
    | none => rw [hv] at hx; cases hx
    | some v => rw [hv] at hx; cases hx; exact ⟨φ, h.putAt hok rfl (h.ev hv)⟩
  unfold execOp
  cases hop : o.op with
  | move x => rw [hop] at he; exact mv x he
  | assign x => rw [hop] at he; exact mv x he
  | pick c x y =>
    rw [hop] at he
    obtain ⟨z, k, hr, rfl⟩ := ofVal_some he
    obtain ⟨v, h1, h2⟩ := h.pick hr
    simp only
    rw [h1]
    exact ⟨φ, h.putAt hok rfl h2⟩
  | alloc t =>
    rw [hop] at he
    simp only [evStep] at he
    split at he
    · rename_i z d hz hd
      cases he
      obtain ⟨zv, z1, z2, z3⟩ := zeroCells_run hz
      rw [hd] at hok ⊢
      have hlt := okDst_lt hok
      have hnr : s.noRef d = true := by
        simp only [okDst] at hok
        rw [Nat.blt_eq.mpr hlt] at hok
        exact hok
      have run : (Instr.alloc t true (.tuple #[])).run E.P w = .ok (.pointer (some ⟨w.heap.size, 0, none⟩)) (w.alloc (.cells zv.cells t)) := by
        simp [Instr.alloc, z1, newVar, newRow_run]
      have hs := h.newBox (cs := z) (vs := zv.cells) hlt hnr t (by rw [← z2]; exact constCs_rel G E.V φ w _) z3 (by rw [← z2]; exact constCs_refs d _)
      simp only [Sem.run_bind, run, Result.andThen_ok, Sem.run_pure]
      exact ⟨_, hs.put hlt (relAV_c ⟨_, upd_same _ _ _, rfl⟩ rfl)⟩
    · cases he
  | box t x =>
    rw [hop] at he
    simp only [evStep] at he
    split at he
    · rename_i y d hx hd
      split at he
      · rename_i xs hst
        cases he
        rw [hd] at hok ⊢
        have hlt := okDst_lt hok
        have hnr : s.noRef d = true := by
          simp only [okDst] at hok
          rw [Nat.blt_eq.mpr hlt] at hok
          exact hok
        obtain ⟨g1, g2⟩ := storable_rel (h.ev hx) hst
        have run : (Instr.box t (a.eval x)).run E.P w = .ok (.pointer (some ⟨w.heap.size, 0, none⟩)) (w.alloc (.cells (a.eval x).cells t)) := by
          simp [Instr.box, newVar, newRow_run]
        have hrf := noRef_ev hnr hx
        have hrx : anyB (C.refs d) xs = false := by
          unfold storable at hst
          split at hst
          · cases hst
          · cases hst
            have hrf : C.refs d _ = false := hrf
            simp [anyB, hrf]
          · cases hst; exact hrf
          · cases hst
        have hs := h.newBox (vs := (a.eval x).cells) hlt hnr t g1 g2 hrx
        simp only [Sem.run_bind, run, Result.andThen_ok, Sem.run_pure]
        exact ⟨_, hs.put hlt (relAV_c ⟨_, upd_same _ _ _, rfl⟩ rfl)⟩
      · cases he
    · cases he
  | build t parts => rw [hop] at he; exact comes_ofVal h he hc hok fun x c hr _ => evBuild_run h hr
  | load t p => rw [hop] at he; exact comes_ofVal h he hc hok fun x c hr hc => h.load hr hc
  | store t p x =>
    rw [hop] at he
    obtain ⟨k, c, w', rfl, hr, hs⟩ := h.store he
    simp only [Sem.run_bind, hr, Result.andThen_ok, Sem.run_pure]
    cases hd : o.dst with
    | none => exact ⟨φ, hs⟩
    | some d => rw [hd] at hok; exact ⟨φ, hs.put (okDst_lt hok) trivial⟩
  | nilCheck x =>
    rw [hop] at he
    obtain ⟨z, k, hr, rfl⟩ := ofVal_some he
    unfold evNil at hr
    split at hr
    · rename_i kk oo hx
      cases hr
      have hv := h.ev hx
      obtain ⟨l, _, e⟩ := hv.1
      have := h.putAt hok rfl hv
      rw [e] at this
      simp only [e, Sem.run_pure]
      exact ⟨φ, this⟩
    · rename_i hx
      cases hr
      have hv := h.ev hx
      obtain ⟨l, _, e⟩ := hv.1
      have := h.putAt hok rfl hv
      rw [e] at this
      simp only [e, Sem.run_pure]
      exact ⟨φ, this⟩
    · rename_i hx
      cases hr
      have hv := h.ev hx
      obtain ⟨b, off, _, e, _⟩ := hv.1
      have := h.putAt hok rfl hv
      rw [e] at this
      simp only [e, Sem.run_pure]
      exact ⟨φ, this⟩
    · rename_i f caps hx
      cases hr
      have hv := h.ev hx
      have hv1 : RelD G w (.fn f caps) (a.eval x) := hv.1
      have := h.putAt hok rfl hv
      dsimp only
      generalize a.eval x = u at *
      cases hv1 with
      | fn _ _ vs _ _ => exact (show ∃ φ', Sim E _ G φ' (a.put o.dst (.func (.func f) #[] vs.toArray)) w from ⟨φ, this⟩)
    · rename_i f n caps hx
      cases hr
      have hv := h.ev hx
      obtain ⟨vs, e, _, _⟩ := hv.1
      have := h.putAt hok rfl hv
      rw [e] at this
      dsimp only
      rw [e]
      exact (show ∃ φ', Sim E _ G φ' (a.put o.dst (.func (.func f) (vs.take n).toArray (vs.drop n).toArray)) w from ⟨φ, this⟩)
    · cases hr
  | binOp op t x y yt => rw [hop] at he; exact comes_ofVal h he hc hok fun z c hr hc => h.bin hr hc
  | unOp op t x => rw [hop] at he; exact comes_ofVal h he hc hok fun z c hr _ => h.un hr
  | convert p q x => rw [hop] at he; exact comes_ofVal h he hc hok fun z c hr _ => h.convert hr
  | makeFunc fn first caps =>
    rw [hop] at he
    cases fn with
    | func f =>
      simp only [evStep] at he
      split at he
      · rename_i ds hf hds
        cases he
        obtain ⟨c1, c2⟩ := capsOf_rel h hds
        have hfe : first = #[] := by cases first; simp_all
        subst hfe
        have hcaps : caps.map a.eval = (caps.toList.map a.eval).toArray := by apply Array.ext'; simp
        have := h.putAt (v := .func (.func f) #[] (caps.map a.eval)) hok rfl (relAV_c (by rw [hcaps]; exact RelD.fn f ds _ (by rw [c1]; simp) c2) rfl)
        simp only [Instr.makeFunc, Sem.run_bind, Sem.run_pure, Result.andThen_ok, Array.map_empty]
        exact ⟨φ, this⟩
      · split at he
        · rename_i ds hds
          cases he
          obtain ⟨c1, c2⟩ := ccsOf_rel h hds
          have e1 : first.map a.eval = (((first.toList ++ caps.toList).map a.eval).take first.size).toArray := by
            apply Array.ext'
            simp
          have e2 : caps.map a.eval = (((first.toList ++ caps.toList).map a.eval).drop first.size).toArray := by
            apply Array.ext'
            simp
          have := h.putAt (x := .c (.clo f first.size ds)) (v := .func (.func f) (first.map a.eval) (caps.map a.eval)) hok rfl (relAV_c ⟨_, by rw [e1, e2], by rw [c1]; simp, c2⟩ rfl)
          simp only [Instr.makeFunc, Sem.run_bind, Sem.run_pure, Result.andThen_ok]
          exact ⟨φ, this⟩
        · cases he
    | _ => cases he
  | slice t x lo hi mx => rw [hop] at he; exact comes_ofVal h he hc hok fun z c hr hc => h.slice hr hc
  | fieldAddr t x f => rw [hop] at he; exact comes_ofVal h he hc hok fun z c hr _ => h.fieldAddr hr
  | field t x f => rw [hop] at he; exact comes_ofVal h he hc hok fun z c hr _ => h.field hr
  | indexAddr t x i => rw [hop] at he; exact comes_ofVal h he hc hok fun z c hr hc => h.indexAddr hr hc
  | index t x i => rw [hop] at he; exact comes_ofVal h he hc hok fun z c hr hc => h.index hr hc
  | extract x i => rw [hop] at he; exact comes_ofVal h he hc hok fun z c hr _ => h.extract hr
  | call c =>
    rw [hop] at he
    obtain ⟨cal, args, ats⟩ := c
    simp only [evStep] at he
    obtain ⟨z, k, hr, rfl⟩ := ofVal_some he
    unfold evCall at hr
    simp only at hr
    split at hr
    · rename_i x t hargs hts
      obtain ⟨v, h1, h2⟩ := h.len (ty := o.type) hr
      have e1 : args = #[x] := by apply Array.ext'; exact hargs
      have e2 : ats = #[t] := by apply Array.ext'; exact hts
      subst e1 e2
      simp only [resolve, Sem.run_bind, Sem.run_pure, Result.andThen_ok, invoke, builtin]
      simp [h1]
      exact ⟨φ, h.putAt hok rfl h2⟩
    · rename_i x y hargs
      obtain ⟨v, h1, h2⟩ := h.max (ts := ats) (ty := o.type) hr
      have e1 : args = #[x, y] := by apply Array.ext'; exact hargs
      subst e1
      simp only [resolve, Sem.run_bind, Sem.run_pure, Result.andThen_ok, invoke, builtin]
      simp [h1]
      exact ⟨φ, h.putAt hok rfl h2⟩
    · rename_i x y hargs
      obtain ⟨v, h1, h2⟩ := h.min (ts := ats) (ty := o.type) hr
      have e1 : args = #[x, y] := by apply Array.ext'; exact hargs
      subst e1
      simp only [resolve, Sem.run_bind, Sem.run_pure, Result.andThen_ok, invoke, builtin]
      simp [h1]
      exact ⟨φ, h.putAt hok rfl h2⟩
    · cases hr
  | _ => rw [hop] at he; cases he

end
end Go.Av
