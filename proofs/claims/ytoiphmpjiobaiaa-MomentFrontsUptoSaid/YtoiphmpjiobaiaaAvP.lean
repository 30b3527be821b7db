/-
  Av, part P: make, stores into elements, copy, bytes and texts, structs that are compared.
-/
import Derived.Test.YtoiphmpjiobaiaaAvO
import Derived.Laws.StructEq
namespace Go.Av
open Go
set_option linter.unusedVariables false
set_option linter.unusedSimpArgs false

def wrD (cells : List D) (o : Nat) (ds : List D) : List D := cells.take o ++ ds ++ cells.drop (o + ds.length)
def setGet (get : Nat → List D) (i : Nat) (x : List D) : Nat → List D := fun j => if j = i then x else get j
def copyGet (m : Nat) (get' get : Nat → List D) : Nat → List D := fun j => if j < m then get' j else get j
def bytesOf (xs : List Int) : ByteArray := ⟨(xs.map fun n => UInt8.ofNat n.toNat).toArray⟩

theorem wrap_small {n : Int} (h0 : 0 ≤ n) (h : n < 9223372036854775808) : IntKind.i64.wrap n = n := by
  have e : IntKind.i64.wrap n = if n % 18446744073709551616 ≥ 9223372036854775808 then n % 18446744073709551616 - 18446744073709551616 else n % 18446744073709551616 := by
    simp [IntKind.wrap, IntKind.bits, IntKind.signed]
  rw [e]
  split <;> omega

section
variable {E : Env} {s : St} {G : Nat → Prop} {φ : Nat → Option Loc} {a : Act} {w : World}

theorem One.makeSlice {ops : Array Oper} {o : Oper} {d : Nat} {t e : TypeId} {es bs : Nat} {ln cp : Operand} {kn kc : IntKind} {n c : Int} {z : List C} {ds : List D}
    (hop : o.op = .makeSlice t ln cp) (hw : wantedB ops s o = some true) (hd : o.dst = some d) (hlt : Nat.blt d E.N = true) (hnr : s.noRef d = true)
    (hu : E.P.underlying t = some (.slice e)) (hsz : sizeT E.P e = some es) (hes : Nat.blt 0 es = true) (hbs : bytesT E.P e = some bs) (hb : Nat.ble bs 256 = true)
    (hz : zeroCells E.P e = some z) (hze : Nat.beq z.length es = true) (hcs : CsLe s [] z (ds.map .d)) (hdl : Nat.beq ds.length es = true)
    (hn : evO s ln = some (.c (.d (.int kn n)))) (hc : evO s cp = some (.c (.d (.int kc c)))) (hb0 : 0 ≤ n) (hnc : n ≤ c) (hlim : c ≤ lim) :
    One E ops o s ((s.slot d (.vec es n.toNat (fun _ => ds))).put d (.c (.own d es 0 n.toNat))) := fun a w hs => by
  obtain ⟨G, φ, h⟩ := hs
  refine ⟨wantedB_spec h hw, fun next Q hnx => ?_⟩
  have hL : (lim : Int) = 274877906944 := rfl
  have hes := Nat.blt_eq.mp hes
  have hb := Nat.le_of_ble_eq_true hb
  have hze := Nat.eq_of_beq_eq_true hze
  have hdl := Nat.eq_of_beq_eq_true hdl
  have hzne : z ≠ [] := by rintro rfl; simp at hze; omega
  obtain ⟨zv, z1, z2, z3, z4⟩ := repC_rel (G := G) (φ := φ) (w := w) hz hzne (c.toNat * es) E.V
  have wn : IntKind.i64.wrap n = n := wrap_small hb0 (by omega)
  have wc : IntKind.i64.wrap c = c := wrap_small (by omega) (by omega)
  have hinfo : (typeInfo e).run E.P w = .ok ((E.P.info? e).getD default) w := by
    unfold sizeT at hsz
    cases hi : E.P.info? e with
    | none => simp [hi] at hsz
    | some i => simp [typeInfo, hi]
  have hbytes : ((E.P.info? e).getD default).bytes = bs := by
    unfold bytesT at hbs
    cases hi : E.P.info? e with
    | none => simp [hi] at hbs
    | some i => simpa [hi] using hbs
  have hask : ∀ b w', (askRoom b).run E.P w' = .ok () w' := fun b w' => by unfold askRoom; split <;> rfl
  have hmul : (bs : Int) * c ≤ 281474976710656 := by
    have h1 : (bs : Int) * c ≤ 256 * c := Int.mul_le_mul_of_nonneg_right (by omega) (by omega)
    omega
  have hsz2 : (zeroValue e).run E.P w = .ok zv w := z1 w
  have hrun : (Instr.makeSlice t (a.eval ln) (a.eval cp)).run E.P w = .ok (.slice (some ⟨w.heap.size, 0, none⟩) n.toNat c.toNat) (w.alloc (.cells ((Array.range (c.toNat * es)).map (zv.cells[· % zv.cells.size]!)) e)) := by
    rw [rel_int (h.ev hn), rel_int (h.ev hc)]
    unfold Instr.makeSlice
    simp only [Sem.run_bind, run_underlying hu, Result.andThen_ok, asInt, asIntOf, Sem.run_pure, hinfo, hbytes, wn, wc, sizeT_run hsz]
    have e1 : (decide (c < 0) || decide ((bs : Int) * c > 2 ^ 48)) = false := by
      simp only [Bool.or_eq_false_iff, decide_eq_false_iff_not]
      exact ⟨by omega, by omega⟩
    rw [if_neg (by simp only [e1]; simp; omega)]
    simp only [Sem.run_bind, hask, Result.andThen_ok, Sem.run_pure, sizeT_run hsz]
    by_cases h0 : c.toNat * es = 0
    · have hr0 : ∀ f : Nat → Value, (Array.range 0).map f = #[] := fun f => by simp
      simp only [h0, if_true, Sem.run_bind, Sem.run_pure, Result.andThen_ok, hr0, newRow_run]
    · simp only [h0, if_false, Sem.run_bind, hsz2, Sem.run_pure, Result.andThen_ok, newRow_run]
  have hmx : n.toNat ≤ maxN := by have : maxN = 281474976710656 := rfl; omega
  have hcell : ∀ j, j < es → ∃ u, zv.cells.toList[j]? = some u ∧ RelD G w (D.at ds j) u := fun j hj => by
    obtain ⟨zv', y1, y2, y3⟩ := zeroCells_run hz
    have : zv' = zv := by have h1 := y1 w; rw [z1 w] at h1; cases h1; rfl
    subst this
    have hr : RelCs (RelC G E.V φ w) z zv'.cells.toList := by rw [← y2]; exact constCs_rel G E.V φ w _
    have := hcs.rel h hr
    have := ds_solid (V' := fun _ => False) (φ' := φ) (this.mono fun c _ v hc => hc.mono (Same.refl _ _) (Same.refl _ _) (G' := G) (φ' := φ) (fun _ hb => withF_nil hb) fun _ _ => rfl)
    exact relD_of_cs this j (by omega)
  have hok : CellsOk G w ((Array.range (c.toNat * es)).map (zv.cells[· % zv.cells.size]!)).toList es n.toNat (fun _ => ds) := fun i hi => ⟨hdl, fun j hj => by
    obtain ⟨u, hu, hr⟩ := hcell j hj
    refine ⟨u, ?_, hr⟩
    have hlt : i * es + j < c.toNat * es := add_lt_mul (by omega) hj
    have hmod : (i * es + j) % zv.cells.size = j := by rw [z2, hze, Nat.add_comm, Nat.add_mul_mod_self_right, Nat.mod_eq_of_lt hj]
    have hu' : zv.cells[j]? = some u := by simpa using hu
    simp only [Array.toList_map, Array.toList_range, List.getElem?_map, List.getElem?_range hlt, Option.map_some, hmod]
    congr 1
    rw [getElem!_def, hu']⟩
  have hs' := h.newVec (k := d) (h.notFx (Nat.blt_eq.mp hlt)) hnr e (vs := (Array.range (c.toNat * es)).map (zv.cells[· % zv.cells.size]!)) (cap := c.toNat) (by simp) (by omega) hmx hok
  unfold Oper.wp
  have he : execOp a.eval o = (do pure (.value (← Instr.makeSlice t (a.eval ln) (a.eval cp))) : Sem Next) := by unfold execOp; rw [hop]
  rw [he]
  simp only [Sem.run_bind, hrun, Result.andThen_ok, Sem.run_pure, Oper.upon, hd]
  exact hnx _ _ ⟨G, _, hs'.put (Nat.blt_eq.mp hlt) (relAV_c (.inr ⟨_, upd_same _ _ _, (show 0 + n.toNat ≤ c.toNat by omega), by simp⟩) rfl)⟩

theorem One.storeElem {ops : Array Oper} {o : Oper} {t : TypeId} {p x : Operand} {k es i o0 n sz : Nat} {get : Nat → List D} {y : AV} {xs : List C} {ds : List D}
    (hop : o.op = .store t p x) (hw : wantedB ops s o = some true) (hd : dstOk E.N o.dst = true) (hp : evO s p = some (.c (.vptr k es i o0))) (hk : look s.sl k = some (.vec es n get)) (hi : i < n)
    (hx : evO s x = some y) (hst : storable y = some xs) (hcs : CsLe s [] xs (ds.map .d)) (hsz : sizeT E.P t = some sz) (hle : Nat.beq sz ds.length = true) (hin : Nat.ble (o0 + ds.length) es = true) :
    One E ops o s (putO (s.slot k (.vec es n (setGet get i (wrD (get i) o0 ds)))) o.dst (.c .any)) := fun a w hs => by
  obtain ⟨G, φ, h⟩ := hs
  refine ⟨wantedB_spec h hw, fun next Q hnx => ?_⟩
  have hle := Nat.eq_of_beq_eq_true hle
  have hin := Nat.le_of_ble_eq_true hin
  obtain ⟨h1, h2⟩ := storable_rel (h.ev hx) hst
  obtain ⟨l, hl, hv⟩ := (relAV_ptr (h.ev hp) (by simp)).1
  obtain ⟨hmx, hs0 | ⟨l', hl', hn, ht, he⟩⟩ := h.sl k _ hk
  · omega
  rw [hl] at hl'; cases hl'
  have hrd := ds_solid (V' := fun _ => False) (φ' := φ) ((hcs.rel h h1).mono fun c _ v hc => hc.mono (Same.refl _ _) (Same.refl _ _) (G' := G) (φ' := φ) (fun _ hb => withF_nil hb) fun _ _ => rfl)
  have hlen := hrd.length
  simp only [List.length_map] at hlen
  have hbase : i * es + (o0 + ds.length) ≤ l.cap * es := by
    calc i * es + (o0 + ds.length) ≤ i * es + es := by omega
      _ = (i + 1) * es := by rw [Nat.add_mul, Nat.one_mul]
      _ ≤ l.cap * es := Nat.mul_le_mul_right es (by omega)
  have htt : w.there l.blk (l.off + i * es + o0) (a.eval x).cells.toList.length := fun j hj => by
    rw [Nat.add_assoc, Nat.add_assoc]
    exact ht (i * es + (o0 + j)) (by omega)
  have hrun : (Instr.storeAt t (a.eval p) (a.eval x)).run E.P w = .ok () (w.setCells l.blk (l.off + i * es + o0) (a.eval x).cells.toList) := by
    rw [hv]; exact run_storeAny rfl (by rw [hsz]; congr 1; omega) htt h2
  obtain ⟨f1, f2, f3, f4, f5⟩ := setCells_frame l.blk (a.eval x).cells.toList (l.off + i * es + o0) w
  have hsame : Same G w (w.setCells l.blk (l.off + i * es + o0) (a.eval x).cells.toList) := fun b hb => f5 b fun e => (h.own k _ l hk hl).1 (e ▸ hb)
  have hturn : Sim E (s.slot k (.vec es n (setGet get i (wrD (get i) o0 ds)))) G φ a (w.setCells l.blk (l.off + i * es + o0) (a.eval x).cells.toList) := by
    refine h.turn hk hl f1 f2 f3 f4 f5 ⟨hmx, .inr ⟨l, hl, hn, World.there_setCells ht _ _ _, fun q hq => ?_⟩⟩
    obtain ⟨g1, g2⟩ := he q hq
    unfold setGet
    by_cases e : q = i
    · subst e
      rw [if_pos rfl]
      have hwl : (wrD (get q) o0 ds).length = es := by simp [wrD, g1]; omega
      refine ⟨hwl, fun j hj => ?_⟩
      rw [hwl] at hj
      by_cases hj1 : j < o0
      · obtain ⟨u, hu, hr⟩ := g2 j (by omega)
        refine ⟨u, ?_, ?_⟩
        · rw [World.cell?_setCells_out l.blk _ _ w _ (fun _ _ => by left; show l.off + q * es + j < l.off + q * es + o0; omega)]; exact hu
        · have : D.at (wrD (get q) o0 ds) j = D.at (get q) j := by
            simp only [D.at, wrD, List.getD_eq_getElem?_getD, List.append_assoc]
            rw [List.getElem?_append_left (by simp; omega), List.getElem?_take, if_pos hj1]
          rw [this]; exact hr.mono hsame fun _ h => h
      · by_cases hj2 : j < o0 + ds.length
        · obtain ⟨u, hu, hr⟩ := relD_of_cs hrd (j - o0) (by omega)
          have hin' := World.cell?_setCells_in l.blk (a.eval x).cells.toList (l.off + q * es + o0) w (fun r hr => (htt r hr).1) (j - o0) (by omega)
          refine ⟨u, ?_, ?_⟩
          · have e2 : l.off + q * es + j = l.off + q * es + o0 + (j - o0) := by omega
            rw [e2, hin', ← hu, List.getElem?_eq_getElem (by omega)]
          · have : D.at (wrD (get q) o0 ds) j = D.at ds (j - o0) := by
              simp only [D.at, wrD, List.getD_eq_getElem?_getD, List.append_assoc]
              rw [List.getElem?_append_right (by simp; omega), List.getElem?_append_left (by simp; omega)]
              congr 2
              simp; omega
            rw [this]; exact hr.mono hsame fun _ h => h
        · obtain ⟨u, hu, hr⟩ := g2 j (by omega)
          refine ⟨u, ?_, ?_⟩
          · rw [World.cell?_setCells_out l.blk _ _ w _ (fun _ _ => by right; show l.off + q * es + o0 + (a.eval x).cells.toList.length ≤ l.off + q * es + j; omega)]; exact hu
          · have : D.at (wrD (get q) o0 ds) j = D.at (get q) j := by
              simp only [D.at, wrD, List.getD_eq_getElem?_getD]
              rw [List.getElem?_append_right (by simp; omega), List.getElem?_drop]
              congr 2
              simp; omega
            rw [this]; exact hr.mono hsame fun _ h => h
    · rw [if_neg e]
      refine ⟨g1, fun j hj => ?_⟩
      obtain ⟨u, hu, hr⟩ := g2 j hj
      refine ⟨u, ?_, hr.mono hsame fun _ h => h⟩
      rw [World.cell?_setCells_out l.blk _ _ w _ (fun _ _ => by
        rw [g1] at hj
        rcases Nat.lt_or_gt_of_ne e with hlt | hgt
        · left
          show l.off + q * es + j < l.off + i * es + o0
          have : (q + 1) * es ≤ i * es := Nat.mul_le_mul_right es hlt
          rw [Nat.add_mul] at this
          omega
        · right
          show l.off + i * es + o0 + (a.eval x).cells.toList.length ≤ l.off + q * es + j
          have : (i + 1) * es ≤ q * es := Nat.mul_le_mul_right es hgt
          rw [Nat.add_mul] at this
          omega)]
      exact hu
  unfold Oper.wp
  have hex : execOp a.eval o = (do Instr.storeAt t (a.eval p) (a.eval x); pure .skip : Sem Next) := by unfold execOp; rw [hop]
  rw [hex]
  simp only [Sem.run_bind, hrun, Result.andThen_ok, Sem.run_pure, Oper.upon]
  refine hnx _ _ ⟨G, φ, ?_⟩
  cases hdd : o.dst with
  | none => exact hturn
  | some d => rw [hdd] at hd; exact hturn.put (Nat.blt_eq.mp hd) trivial

theorem One.copy {ops : Array Oper} {o : Oper} {k es n m : Nat} {dT sT e : TypeId} {p x : Operand} {y : AV} {get get' : Nat → List D}
    (hop : o.op = .call ⟨.builtin .copy, #[p, x], #[dT, sT]⟩) (hw : wantedB ops s o = some true) (hd : dstOk E.N o.dst = true)
    (hu : E.P.underlying dT = some (.slice e)) (hsz : sizeT E.P e = some es) (hp : evO s p = some (.c (.own k es 0 n))) (hk : look s.sl k = some (.vec es n get)) (hx : evO s x = some y) (hsrc : SrcOf s y es m get') (hm : m ≤ n) :
    One E ops o s (putO (s.slot k (.vec es n (copyGet m get' get))) o.dst (.c (.d (.int .i64 (m : Int))))) := fun a w hs => by
  obtain ⟨G, φ, h⟩ := hs
  refine ⟨wantedB_spec h hw, fun next Q hnx => ?_⟩
  obtain ⟨A, cap, hA, old, hol, hoc, hof, hcase⟩ := own_old h hk (Nat.le_refl n) (h.ev hp).1
  obtain ⟨A', cap', hv, hmx, us, hul, hcs, hf, h1⟩ := hsrc.load h (h.ev hx)
  have he : execOp a.eval o = (do pure (.value (← Builtin.copy_ #[dT, sT] o.type #[a.eval p, a.eval x])) : Sem Next) := by
    unfold execOp; rw [hop]
    simp [resolve, invoke, builtin]
  have hmin : Nat.min m n = m := Nat.min_eq_left hm
  have key : ∀ w', (match A with | some A => (storeCells A us).run E.P w = .ok () w' | none => w' = w) → (Builtin.copy_ #[dT, sT] o.type #[a.eval p, a.eval x]).run E.P w = .ok (goInt m) w' := fun w' hst => by
    rw [hA]
    have hf' := hf w rfl
    rw [hv] at hf' ⊢
    unfold Builtin.copy_
    simp only [List.getElem?_toArray, List.getElem?_cons_zero, List.getElem?_cons_succ, Sem.run_bind, run_underlying hu, Result.andThen_ok, sizeT_run hsz, Sem.run_pure, Builtin.lenOf, hmin, hf']
    cases A with
    | none => simp only at hst; subst hst; rfl
    | some A => simp only at hst; simp [hst]
  unfold Oper.wp
  rw [he]
  rcases hcase with ⟨h0, hc0⟩ | ⟨l, hl, hAl, hcl, hnl, ht, hel⟩
  · have hm0 : m = 0 := by omega
    subst hm0
    have hus : us = [] := by cases us <;> simp_all
    subst hus
    have hr := key w (by cases A <;> rfl)
    simp only [Sem.run_bind, hr, Result.andThen_ok, Sem.run_pure, Oper.upon]
    have e0 : copyGet 0 get' get = get := by funext j; simp [copyGet]
    rw [e0] at hnx
    have hsame : Sim E (s.slot k (.vec es n get)) G φ a w := h.weaken (fun t x hx => hx) fun j c hc => by
      simp only [St.slot, look_cons] at hc
      split at hc
      · rename_i e; subst e; cases hc; exact hk
      · exact hc
    refine hnx _ _ ⟨G, φ, ?_⟩
    cases hdd : o.dst with
    | none => exact hsame
    | some d => rw [hdd] at hd; exact hsame.put (Nat.blt_eq.mp hd) (relAV_c (RelD.int _ _) rfl)
  · subst hAl hcl
    have e1 : m * es ≤ l.cap * es := Nat.mul_le_mul_right es (by omega)
    have htt : w.there l.blk l.off us.length := fun j hj => ht j (by omega)
    have hstore := run_storeCells_cells (P := E.P) l.blk l.off us 0 w (fun j hj => (by simpa using htt j hj : _ ∧ _).1) (fun j hj => (by simpa using htt j hj : _ ∧ _).2) h1
    simp only [Nat.add_zero] at hstore
    have hr := key (w.setCells l.blk l.off us) hstore
    simp only [Sem.run_bind, hr, Result.andThen_ok, Sem.run_pure, Oper.upon]
    obtain ⟨f1, f2, f3, f4, f5⟩ := setCells_frame l.blk us l.off w
    have hsame : Same G w (w.setCells l.blk l.off us) := fun b hb => f5 b fun e => (h.own k _ l hk hl).1 (e ▸ hb)
    have hmx' := (h.sl k _ hk).1
    have hturn : Sim E (s.slot k (.vec es n (copyGet m get' get))) G φ a (w.setCells l.blk l.off us) := by
      refine h.turn hk hl f1 f2 f3 f4 f5 ⟨hmx', .inr ⟨l, hl, hnl, World.there_setCells ht _ _ _, fun i hi => ?_⟩⟩
      unfold copyGet
      by_cases hin : i < m
      · rw [if_pos hin]
        obtain ⟨g1, g2⟩ := hcs i hin
        refine ⟨g1, fun j hj => ?_⟩
        obtain ⟨u, hu, hr⟩ := g2 j (by omega)
        have hlt' := add_lt_mul hin (show j < es by omega)
        have hin' := World.cell?_setCells_in l.blk us l.off w (fun q hq => (htt q hq).1) (i * es + j) (by omega)
        refine ⟨u, ?_, hr.mono hsame fun _ h => h⟩
        rw [Nat.add_assoc, hin', ← hu, List.getElem?_eq_getElem (by omega)]
      · rw [if_neg hin]
        obtain ⟨g1, g2⟩ := hel i hi
        refine ⟨g1, fun j hj => ?_⟩
        obtain ⟨u, hu, hr⟩ := g2 j hj
        refine ⟨u, ?_, hr.mono hsame fun _ h => h⟩
        rw [World.cell?_setCells_out l.blk us l.off w _ (fun _ _ => by
          right
          show l.off + us.length ≤ l.off + i * es + j
          have : m * es ≤ i * es := Nat.mul_le_mul_right es (by omega)
          omega)]
        exact hu
    refine hnx _ _ ⟨G, φ, ?_⟩
    cases hdd : o.dst with
    | none => exact hturn
    | some d => rw [hdd] at hd; exact hturn.put (Nat.blt_eq.mp hd) (relAV_c (RelD.int _ _) rfl)

end
end Go.Av
