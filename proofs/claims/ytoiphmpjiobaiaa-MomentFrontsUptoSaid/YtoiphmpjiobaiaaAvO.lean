/-
  Av, part O: append.
-/
import Derived.Test.YtoiphmpjiobaiaaAvN
namespace Go.Av
open Go
set_option linter.unusedVariables false
set_option linter.unusedSimpArgs false

inductive SrcOf (s : St) : AV → Nat → Nat → (Nat → List D) → Prop
  | zero (es : Nat) (get : Nat → List D) : SrcOf s (.c .zero) es 0 get
  | list {es m m' : Nat} {get get' : Nat → List D} (hm : m' = m) (h : ∀ i, i < m → get' i = get i) : SrcOf s (.c (.d (.list es m get))) es m' get'
  | view {es m m' : Nat} {get get' : Nat → List D} (hm : m' = m) (h : ∀ i, i < m → get' i = get i) : SrcOf s (.c (.view es m get)) es m' get'
  | own {k es off m m' n : Nat} {get get' : Nat → List D} (hk : look s.sl k = some (.vec es n get)) (hl : off + m ≤ n) (hm : m' = m) (h : ∀ i, i < m → get' i = get (off + i)) : SrcOf s (.c (.own k es off m)) es m' get'

def lim : Nat := 274877906944

section
variable {E : Env} {s : St} {G : Nat → Prop} {φ : Nat → Option Loc} {a : Act} {w : World}

theorem lt_mul_of {m es k : Nat} (h : k < m * es) : k / es < m ∧ k % es < es ∧ k = k / es * es + k % es := by
  have hpos : 0 < es := by
    rcases Nat.eq_zero_or_pos es with h0 | h0
    · subst h0; simp at h
    · exact h0
  refine ⟨(Nat.div_lt_iff_lt_mul hpos).2 h, Nat.mod_lt _ hpos, ?_⟩
  have := Nat.div_add_mod k es
  rw [Nat.mul_comm] at this
  exact this.symm

theorem add_lt_mul {i j m es : Nat} (hi : i < m) (hj : j < es) : i * es + j < m * es := by
  calc i * es + j < i * es + es := by omega
    _ = (i + 1) * es := by rw [Nat.add_mul, Nat.one_mul]
    _ ≤ m * es := Nat.mul_le_mul_right es hi

theorem elems_load {P : Program} {b off es m : Nat} {get : Nat → List D} (he : ElemsAt G w b off es m get) :
    ∃ us : List Value, us.length = m * es ∧ CellsOk G w us es m get ∧ (∀ w', w'.heap = w.heap → (loadCells ⟨b, off, none⟩ (m * es)).run P w' = .ok us.toArray w') ∧ ∀ u ∈ us, u.oneCell' = true := by
  have hex : ∀ k, k < m * es → ∃ u, w.cell? ⟨b, off + k, none⟩ = some u ∧ u.oneCell' = true := fun k hk => by
    obtain ⟨h1, h2, h3⟩ := lt_mul_of hk
    obtain ⟨g1, g2⟩ := he _ h1
    obtain ⟨u, hu, hr⟩ := g2 (k % es) (by rw [g1]; exact h2)
    exact ⟨u, by rw [← hu]; congr 2; omega, hr.one⟩
  refine ⟨(List.range (m * es)).map fun k => (w.cell? ⟨b, off + k, none⟩).getD undef, by simp, fun i hi => ⟨(he i hi).1, fun j hj => ?_⟩, ?_, fun u hu => ?_⟩
  · obtain ⟨g1, g2⟩ := he i hi
    obtain ⟨u, hu, hr⟩ := g2 j (by rw [g1]; exact hj)
    have hlt := add_lt_mul hi hj
    refine ⟨u, ?_, hr⟩
    have : w.cell? ⟨b, off + (i * es + j), none⟩ = some u := by rw [← hu]; congr 2; omega
    simp [List.getElem?_map, List.getElem?_range hlt, this]
  · intro w' hw'
    rw [run_loadCells w' ⟨b, off, none⟩ (m * es) (fun k => (w.cell? ⟨b, off + k, none⟩).getD undef) fun k hk => by
      rw [Addr.add_mid, World.cell?_of_block (w := w) (w' := w') (by rw [hw'])]
      obtain ⟨u, hu, _⟩ := hex k hk
      rw [hu]; rfl]
  · obtain ⟨k, hk, rfl⟩ := List.mem_map.1 hu
    obtain ⟨u, hu, h1⟩ := hex k (by simpa using hk)
    rw [hu]; exact h1

theorem SrcOf.load (h : Sim E s G φ a w) {x : AV} {es m : Nat} {get : Nat → List D} (hx : SrcOf s x es m get) {v : Value} (hv : RAV E G φ w x v) :
    ∃ A cap, v = .slice A m cap ∧ m ≤ maxN ∧ ∃ us : List Value, us.length = m * es ∧ CellsOk G w us es m get ∧ (∀ w', w'.heap = w.heap → (Builtin.firstCells es m v).run E.P w' = .ok us.toArray w') ∧ ∀ u ∈ us, u.oneCell' = true := by
  have none0 : ∀ A cap, v = .slice A 0 cap → ∃ A cap, v = .slice A 0 cap ∧ 0 ≤ maxN ∧ ∃ us : List Value, us.length = 0 * es ∧ CellsOk G w us es 0 get ∧ (∀ w', w'.heap = w.heap → (Builtin.firstCells es 0 v).run E.P w' = .ok us.toArray w') ∧ ∀ u ∈ us, u.oneCell' = true := fun A cap e => by
    refine ⟨A, cap, e, Nat.zero_le _, [], by simp, fun i hi => absurd hi (Nat.not_lt_zero i), ?_, by simp⟩
    intro w' _
    rw [e]
    cases A <;> simp [Builtin.firstCells, loadCells, loadCellsFrom]
  have some1 : ∀ (b off cap n : Nat) (get0 : Nat → List D), m ≤ maxN → v = .slice (some ⟨b, off, none⟩) m cap → ElemsAt G w b off es m get0 → (∀ i, i < m → get i = get0 i) →
      ∃ A cap, v = .slice A m cap ∧ m ≤ maxN ∧ ∃ us : List Value, us.length = m * es ∧ CellsOk G w us es m get ∧ (∀ w', w'.heap = w.heap → (Builtin.firstCells es m v).run E.P w' = .ok us.toArray w') ∧ ∀ u ∈ us, u.oneCell' = true := fun b off cap n get0 hm e he hg => by
    obtain ⟨us, h1, h2, h3, h4⟩ := elems_load (P := E.P) he
    exact ⟨_, cap, e, hm, us, h1, fun i hi => by rw [hg i hi]; exact h2 i hi, by rw [e]; exact h3, h4⟩
  cases hx with
  | zero => obtain ⟨A, e⟩ := hv.1; exact none0 A 0 e
  | list hm hg =>
    subst hm
    rcases RelD.elems hv.1 with ⟨h0, A, cap, e⟩ | ⟨b, off, cap, hb, e, hn, hmx, he⟩
    · subst h0; exact none0 A cap e
    · exact some1 b off cap 0 _ hmx e he hg
  | view hm hg =>
    subst hm
    rcases hv.1 with ⟨h0, A, cap, e⟩ | ⟨b, off, cap, hb, e, hn, hmx, he⟩
    · subst h0; exact none0 A cap e
    · exact some1 b off cap 0 _ hmx e he hg
  | own hk hl hm hg =>
    subst hm
    rcases hv.1 with ⟨h0, A, e⟩ | ⟨l, hl', hle, e⟩
    · subst h0; exact none0 A 0 e
    · obtain ⟨hmx, hs | ⟨l', hl'', hn, _, he⟩⟩ := h.sl _ _ hk
      · rw [hl'] at hs; cases hs.1
      · rw [hl'] at hl''; cases hl''
        exact some1 _ _ _ 0 _ (by omega) e (he.part hl) hg

def bytesT (P : Program) (t : TypeId) : Option Nat := (P.info? t).map (·.bytes)

theorem growBy_le (newLen : Nat) : ∀ (r c : Nat), c ≤ 2 * newLen + 192 → Builtin.growBy newLen r c ≤ 2 * newLen + 192
  | 0, c, h => h
  | r + 1, c, h => by
    unfold Builtin.growBy
    split
    · exact h
    · exact growBy_le newLen r _ (by omega)

theorem nextcap_le {need old : Nat} (h : old < need) : Builtin.nextslicecap need old ≤ 2 * need + 192 := by
  unfold Builtin.nextslicecap
  split
  · omega
  · split
    · omega
    · exact growBy_le need 4 old (by omega)

theorem append_room {P : Program} {sT xT ty e : TypeId} {es m sLen sCap : Nat} {A : Option Addr} {v : Value} {us : List Value} {cap' : Nat} {A' : Option Addr}
    (hu : P.underlying sT = some (.slice e)) (hx : ∃ e', P.underlying xT = some (.slice e')) (hsz : sizeT P e = some es)
    (hv : v = .slice A' m cap') (hf : (Builtin.firstCells es m v).run P w = .ok us.toArray w) (hroom : sLen + m ≤ sCap) {w' : World}
    (hst : match A with | some A => (storeCells (A.add (sLen * es)) us).run P w = .ok () w' | none => w' = w) :
    (Builtin.append_ #[sT, xT] ty #[.slice A sLen sCap, v]).run P w = .ok (.slice A (sLen + m) sCap) w' := by
  obtain ⟨e', hx⟩ := hx
  subst hv
  unfold Builtin.append_
  simp only [List.getElem?_toArray, List.getElem?_cons_zero, List.getElem?_cons_succ, Sem.run_bind, run_underlying hu, run_underlying hx, Result.andThen_ok, sizeT_run hsz, Sem.run_pure,
    Bool.false_eq_true, if_false, Builtin.lenOf]
  rw [if_pos hroom]
  simp only [Bool.not_false, if_true, Sem.run_bind, hf, Result.andThen_ok]
  cases A with
  | none => simp only at hst; subst hst; rfl
  | some A => simp only at hst; simp [hst]

theorem append_grow {P : Program} {sT xT ty e : TypeId} {es bs m sLen sCap : Nat} {A A' : Option Addr} {v : Value} {us old : List Value} {cap' : Nat} {zv : Value}
    (hu : P.underlying sT = some (.slice e)) (hx : ∃ e', P.underlying xT = some (.slice e')) (hsz : sizeT P e = some es) (hbs : bytesT P e = some bs) (hb : bs ≤ 256)
    (hv : v = .slice A' m cap') (hf : ∀ w', w'.heap = w.heap → (Builtin.firstCells es m v).run P w' = .ok us.toArray w') (ho : ∀ w', w'.heap = w.heap → (Builtin.firstCells es sLen (.slice A sLen sCap)).run P w' = .ok old.toArray w')
    (hz : ∀ w, (zeroValue e).run P w = .ok zv w) (hzs : zv.cells.size = es) (hno : sCap < sLen + m) (hlim : sLen + m ≤ lim) (hol : old.length = sLen * es) (hul : us.length = m * es) :
    ∃ (newCap : Nat) (vs : Array Value) (w' : World), sLen + m ≤ newCap ∧ vs.size = newCap * es ∧ (∀ k, k < (sLen + m) * es → vs[k]? = (old ++ us)[k]?) ∧
      w'.heap = w.heap ∧ w'.os = w.os ∧ w'.tape = w.tape ∧ w'.output = w.output ∧
      (Builtin.append_ #[sT, xT] ty #[.slice A sLen sCap, v]).run P w = .ok (.slice (some ⟨w.heap.size, 0, none⟩) (sLen + m) newCap) (w'.alloc (.cells vs e)) := by
  obtain ⟨e', hx⟩ := hx
  subst hv
  let q : Question := .appendCap (sLen + m) sCap e
  let newCap := q.cut (w.tape w.drawn q)
  have hge : sLen + m ≤ newCap := Nat.le_add_right _ _
  refine ⟨newCap, old.toArray ++ us.toArray ++ Builtin.zeroCells zv.cells (newCap - (sLen + m)), { w with drawn := w.drawn + 1 }, hge, ?_, fun k hk => ?_, rfl, rfl, rfl, rfl, ?_⟩
  · simp only [Array.size_append, List.size_toArray, hol, hul, Builtin.zeroCells, Array.size_map, Array.size_range, hzs]
    rw [← Nat.add_mul, ← Nat.add_mul]; congr 1; omega
  · have hl : k < (old ++ us).length := by simp [hol, hul]; rw [← Nat.add_mul]; exact hk
    rw [Array.getElem?_append_left (by simpa using hl)]
    simp
  · have hbig : ¬ (Builtin.nextslicecap (sLen + m) sCap * bs > 2 ^ 48) := by
      have h1 := nextcap_le hno
      have h2 : Builtin.nextslicecap (sLen + m) sCap ≤ 2 * lim + 192 := by omega
      have h3 : Builtin.nextslicecap (sLen + m) sCap * bs ≤ (2 * lim + 192) * 256 := Nat.mul_le_mul h2 hb
      have h4 : (2 * lim + 192) * 256 ≤ 2 ^ 48 := by decide
      omega
    have hinfo : (typeInfo e).run P w = .ok ((P.info? e).getD default) w := by
      unfold sizeT at hsz
      cases hi : P.info? e with
      | none => simp [hi] at hsz
      | some i => simp [typeInfo, hi]
    have hbytes : ((P.info? e).getD default).bytes = bs := by
      unfold bytesT at hbs
      cases hi : P.info? e with
      | none => simp [hi] at hbs
      | some i => simpa [hi] using hbs
    unfold Builtin.append_
    simp only [List.getElem?_toArray, List.getElem?_cons_zero, List.getElem?_cons_succ, Sem.run_bind, run_underlying hu, run_underlying hx, Result.andThen_ok, sizeT_run hsz, Sem.run_pure,
      Bool.false_eq_true, if_false, Builtin.lenOf]
    rw [if_neg (by omega)]
    simp only [Sem.run_bind, hinfo, Result.andThen_ok, hbytes]
    have hmax : IntKind.i64.max = 9223372036854775807 := by decide
    have hsmall : ¬ (((sLen + m : Nat) : Int) > IntKind.i64.max ∧ (False ∨ bs = 0)) := by
      rintro ⟨h, _⟩
      rw [hmax] at h
      have : lim = 274877906944 := rfl
      omega
    rw [if_neg hsmall]
    simp only [Sem.run_bind, hinfo, Result.andThen_ok, hbytes]
    rw [if_neg hbig]
    have hask : ∀ b w', (askRoom b).run P w' = .ok () w' := fun b w' => by unfold askRoom; split <;> rfl
    have hch : (choose (.appendCap (sLen + m) sCap e)).run P w = .ok newCap { w with drawn := w.drawn + 1 } := rfl
    have hinfo' : (typeInfo e).run P { w with drawn := w.drawn + 1 } = .ok ((P.info? e).getD default) { w with drawn := w.drawn + 1 } := by
      unfold sizeT at hsz
      cases hi : P.info? e with
      | none => simp [hi] at hsz
      | some i => simp [typeInfo, hi]
    simp only [Sem.run_bind, hch, Result.andThen_ok, hinfo', hask, Bool.not_false, if_true, hz, newRow_run, Sem.run_pure]
    rw [ho { w with drawn := w.drawn + 1 } rfl]
    simp only [Result.andThen_ok]
    rw [hf { w with drawn := w.drawn + 1 } rfl]
    rfl

theorem own_old (h : Sim E s G φ a w) {k es n N : Nat} {get : Nat → List D} (hk : look s.sl k = some (.vec es N get)) (hn : n ≤ N) {v : Value} (hv : RelC G E.V φ w (.own k es 0 n) v) :
    ∃ A cap, v = .slice A n cap ∧ ∃ us : List Value, us.length = n * es ∧ CellsOk G w us es n get ∧ (∀ w', w'.heap = w.heap → (Builtin.firstCells es n v).run E.P w' = .ok us.toArray w') ∧
      ((n = 0 ∧ cap = 0) ∨ ∃ l, φ k = some l ∧ A = some ⟨l.blk, l.off, none⟩ ∧ cap = l.cap ∧ n ≤ l.cap ∧ w.there l.blk l.off (l.cap * es) ∧ ElemsAt G w l.blk l.off es N get) := by
  rcases hv with ⟨h0, A, e⟩ | ⟨l, hl, hle, e⟩
  · subst h0
    refine ⟨A, 0, e, [], by simp, fun i hi => absurd hi (Nat.not_lt_zero i), fun w' _ => ?_, .inl ⟨rfl, rfl⟩⟩
    rw [e]
    cases A <;> simp [Builtin.firstCells, loadCells, loadCellsFrom]
  · obtain ⟨hmx, hs | ⟨l', hl', hn', ht, he⟩⟩ := h.sl _ _ hk
    · rw [hl] at hs; cases hs.1
    · rw [hl] at hl'; cases hl'
      have he0 : ElemsAt G w l.blk l.off es n get := fun i hi => he i (by omega)
      obtain ⟨us, h1, h2, h3, h4⟩ := elems_load (P := E.P) he0
      refine ⟨_, _, e, us, h1, h2, fun w' hw' => ?_, .inr ⟨l, hl, by simp, by simp, by omega, ht, he⟩⟩
      rw [e]
      have := h3 w' hw'
      simpa [Builtin.firstCells] using this

def appGet (n : Nat) (get get' : Nat → List D) : Nat → List D := fun i => if i < n then get i else get' (i - n)

theorem cells_app {es n m : Nat} {get get' : Nat → List D} {old us : List Value} (hol : old.length = n * es) (h1 : CellsOk G w old es n get) (h2 : CellsOk G w us es m get') :
    CellsOk G w (old ++ us) es (n + m) (appGet n get get') := fun i hi => by
  unfold appGet
  by_cases hin : i < n
  · rw [if_pos hin]
    obtain ⟨g1, g2⟩ := h1 i hin
    refine ⟨g1, fun j hj => ?_⟩
    obtain ⟨u, hu, hr⟩ := g2 j hj
    exact ⟨u, by rw [List.getElem?_append_left (by rw [hol]; exact add_lt_mul hin hj)]; exact hu, hr⟩
  · rw [if_neg hin]
    obtain ⟨g1, g2⟩ := h2 (i - n) (by omega)
    refine ⟨g1, fun j hj => ?_⟩
    obtain ⟨u, hu, hr⟩ := g2 j hj
    refine ⟨u, ?_, hr⟩
    have e : i * es + j = n * es + ((i - n) * es + j) := by
      have : i = n + (i - n) := by omega
      rw [this, Nat.add_mul]
      have : n + (i - n) - n = i - n := by omega
      rw [this]; omega
    rw [e, List.getElem?_append_right (by omega), hol]
    have : n * es + ((i - n) * es + j) - n * es = (i - n) * es + j := by omega
    rw [this]; exact hu

theorem CellsOk.ofPre {es n : Nat} {get : Nat → List D} {vs us : List Value} (h : CellsOk G w us es n get) (hp : ∀ k, k < n * es → vs[k]? = us[k]?) : CellsOk G w vs es n get := fun i hi => by
  obtain ⟨g1, g2⟩ := h i hi
  refine ⟨g1, fun j hj => ?_⟩
  obtain ⟨u, hu, hr⟩ := g2 j hj
  exact ⟨u, by rw [hp _ (add_lt_mul hi hj)]; exact hu, hr⟩

structure AppOk (P : Program) (sT xT e : TypeId) (es : Nat) : Prop where
  u : P.underlying sT = some (.slice e)
  x : ∃ e', P.underlying xT = some (.slice e')
  sz : sizeT P e = some es
  b : ∃ bs, bytesT P e = some bs ∧ bs ≤ 256
  z : ∃ z, zeroCells P e = some z ∧ z.length = es

theorem AppOk.zero {P : Program} {sT xT e : TypeId} {es : Nat} (h : AppOk P sT xT e es) : ∃ zv : Value, (∀ w, (zeroValue e).run P w = .ok zv w) ∧ zv.cells.size = es := by
  obtain ⟨z, hz, hl⟩ := h.z
  obtain ⟨zv, h1, h2, _⟩ := zeroCells_run hz
  exact ⟨zv, h1, by rw [← hl, ← h2]; simp⟩

theorem One.append0 {ops : Array Oper} {o : Oper} {d : Nat} {sT xT e : TypeId} {es m : Nat} {b x : Operand} {y : AV} {get : Nat → List D}
    (hop : o.op = .call ⟨.builtin .append, #[b, x], #[sT, xT]⟩) (hw : wantedB ops s o = some true) (hd : o.dst = some d) (hlt : Nat.blt d E.N = true) (hnr : s.noRef d = true)
    (hok : AppOk E.P sT xT e es) (hb : evO s b = some (.c .zero)) (hx : evO s x = some y) (hsrc : SrcOf s y es m get) (hlim : m ≤ lim) :
    One E ops o s ((s.slot d (.vec es m get)).put d (.c (.own d es 0 m))) := fun a w hs => by
  obtain ⟨G, φ, h⟩ := hs
  refine ⟨wantedB_spec h hw, fun next Q hn => ?_⟩
  obtain ⟨A, hA⟩ := (h.ev hb).1
  obtain ⟨A', cap', hv, hmx, us, hul, hcs, hf, h1⟩ := hsrc.load h (h.ev hx)
  have he : execOp a.eval o = (do pure (.value (← Builtin.append_ #[sT, xT] o.type #[a.eval b, a.eval x])) : Sem Next) := by
    unfold execOp; rw [hop]
    simp [resolve, invoke, builtin]
  unfold Oper.wp
  rw [he, hA]
  by_cases h0 : m = 0
  · subst h0
    have hr := append_room (P := E.P) (w := w) (ty := o.type) (sLen := 0) (sCap := 0) (A := A) (w' := w) hok.u hok.x hok.sz hv (hf w rfl) (by omega) (by
      cases A with
      | none => rfl
      | some A =>
        have : us = [] := by cases us <;> simp_all
        subst this; rfl)
    simp only [Sem.run_bind, hr, Result.andThen_ok, Sem.run_pure, Oper.upon, hd]
    exact hn _ _ ⟨G, _, (h.newVec0 (k := d) (h.notFx (Nat.blt_eq.mp hlt)) hnr es get).put (Nat.blt_eq.mp hlt) (relAV_c (.inl ⟨rfl, _, rfl⟩) rfl)⟩
  · obtain ⟨bs, hbs, hb2⟩ := hok.b
    obtain ⟨zv, hz, hzs⟩ := hok.zero
    obtain ⟨newCap, vs, w1, c1, c2, c3, c4, c5, c6, c7, hr⟩ := append_grow (P := E.P) (w := w) (ty := o.type) (sLen := 0) (sCap := 0) (A := A) (old := []) hok.u hok.x hok.sz hbs hb2 hv hf
      (fun w' _ => by cases A <;> simp [Builtin.firstCells, loadCells, loadCellsFrom]) hz hzs (by omega) (by omega) (by simp) hul
    simp only [Sem.run_bind, hr, Result.andThen_ok, Sem.run_pure, Oper.upon, hd]
    have hw1 := h.world c4 c5 c6 c7
    have hcs1 : CellsOk G w1 us es m get := fun i hi => ⟨(hcs i hi).1, fun j hj => by
      obtain ⟨u, hu, hr⟩ := (hcs i hi).2 j hj
      exact ⟨u, hu, hr.mono (fun b _ => by rw [c4]) fun _ h => h⟩⟩
    simp only [Nat.zero_add, List.nil_append] at c1 c3 hr ⊢
    have := hw1.newVec (k := d) (h.notFx (Nat.blt_eq.mp hlt)) hnr e c2 c1 hmx (hcs1.ofPre fun k hk => by simpa using c3 k hk)
    rw [← c4]
    exact hn _ _ ⟨G, _, this.put (Nat.blt_eq.mp hlt) (relAV_c (.inr ⟨_, upd_same _ _ _, (show 0 + m ≤ newCap by omega), by simp⟩) rfl)⟩

theorem Sim.dropKeep {k es n : Nat} {get : Nat → List D} (h : Sim E (s.slot k (.vec es n get)) G φ a w) : Sim E ((s.drop k).slot k (.vec es n get)) G φ a w := by
  have hd := h.drop k
  have e : ((s.slot k (.vec es n get)).drop k).sl = (s.drop k).sl := by
    simp only [St.drop, St.slot, dropSls]
    have : Nat.beq k k = true := by simp
    rw [this]
  have hin : ∀ j c, look ((s.drop k).slot k (.vec es n get)).sl j = some c → (j = k ∧ c = .vec es n get) ∨ (j ≠ k ∧ look ((s.slot k (.vec es n get)).drop k).sl j = some c) := fun j c hc => by
    rw [e]
    simp only [St.slot, look_cons] at hc
    by_cases ej : k = j
    · subst ej; rw [if_pos rfl] at hc; cases hc; exact .inl ⟨rfl, rfl⟩
    · rw [if_neg ej] at hc; exact .inr ⟨fun x => ej x.symm, hc⟩
  have hk : look (s.slot k (.vec es n get)).sl k = some (.vec es n get) := by simp [St.slot, look_cons]
  have hol : ∀ j c, look ((s.drop k).slot k (.vec es n get)).sl j = some c → ∃ c0, look (s.slot k (.vec es n get)).sl j = some c0 := fun j c hc => by
    rcases hin j c hc with ⟨rfl, rfl⟩ | ⟨hne, hc⟩
    · exact ⟨_, hk⟩
    · simp only [St.drop, dropSls_look] at hc
      rw [if_neg hne] at hc
      cases hl : look (s.slot k (.vec es n get)).sl j with
      | none => rw [hl] at hc; cases hc
      | some c0 => exact ⟨c0, rfl⟩
  exact
  { h with
    tm := hd.tm
    sl := fun j c hc => by
      rcases hin j c hc with ⟨rfl, rfl⟩ | ⟨_, hc⟩
      · exact h.sl _ _ hk
      · exact hd.sl _ _ hc
    inj := fun j j' c c' l l' h1 h2 => by
      obtain ⟨_, h1⟩ := hol _ _ h1
      obtain ⟨_, h2⟩ := hol _ _ h2
      exact h.inj _ _ _ _ _ _ h1 h2
    own := fun j c l h1 => by
      obtain ⟨_, h1⟩ := hol _ _ h1
      exact h.own _ _ _ h1
    fix := fun j c hx h1 => by
      obtain ⟨_, h1⟩ := hol _ _ h1
      exact h.fix _ _ hx h1 }

theorem One.appendOwn {ops : Array Oper} {o : Oper} {d k : Nat} {sT xT e : TypeId} {es n N m : Nat} {b x : Operand} {y : AV} {get get' : Nat → List D} (hkx : anyB (Nat.beq k) E.fx = false)
    (hop : o.op = .call ⟨.builtin .append, #[b, x], #[sT, xT]⟩) (hw : wantedB ops s o = some true) (hd : o.dst = some d) (hlt : Nat.blt d E.N = true)
    (hok : AppOk E.P sT xT e es) (hb : evO s b = some (.c (.own k es 0 n))) (hk : look s.sl k = some (.vec es N get)) (hnN : n ≤ N) (hx : evO s x = some y) (hsrc : SrcOf s y es m get') (hlim : n + m ≤ lim) :
    One E ops o s (((s.drop k).slot k (.vec es (n + m) (appGet n get get'))).put d (.c (.own k es 0 (n + m)))) := fun a w hs => by
  obtain ⟨G, φ, h⟩ := hs
  refine ⟨wantedB_spec h hw, fun next Q hn => ?_⟩
  obtain ⟨A, cap, hA, old, hol, hoc, hof, hcase⟩ := own_old h hk hnN (h.ev hb).1
  obtain ⟨A', cap', hv, hmx, us, hul, hcs, hf, h1⟩ := hsrc.load h (h.ev hx)
  have hmx' : n + m ≤ maxN := by have : lim = 274877906944 := rfl; have : maxN = 281474976710656 := rfl; omega
  have he : execOp a.eval o = (do pure (.value (← Builtin.append_ #[sT, xT] o.type #[a.eval b, a.eval x])) : Sem Next) := by
    unfold execOp; rw [hop]
    simp [resolve, invoke, builtin]
  unfold Oper.wp
  rw [he, hA]
  by_cases hroom : n + m ≤ cap
  · -- there is room
    rcases hcase with ⟨h0, hc0⟩ | ⟨l, hl, hAl, hcl, hnl, ht, hel⟩
    · have hm0 : m = 0 := by omega
      subst h0 hc0 hm0
      have hr := append_room (P := E.P) (w := w) (ty := o.type) (sLen := 0) (sCap := 0) (A := A) (w' := w) hok.u hok.x hok.sz hv (hf w rfl) hroom (by
        have : us = [] := by cases us <;> simp_all
        subst this
        cases A with
        | none => rfl
        | some A => rfl)
      simp only [Sem.run_bind, hr, Result.andThen_ok, Sem.run_pure, Oper.upon, hd]
      exact hn _ _ ⟨G, _, ((h.drop k).newVec0 (k := k) (not_mem_beq hkx) (noRef_drop k s) es (appGet 0 get get')).put (Nat.blt_eq.mp hlt) (relAV_c (.inl ⟨rfl, A, rfl⟩) rfl)⟩
    · subst hAl hcl
      have e1 : (n + m) * es ≤ l.cap * es := Nat.mul_le_mul_right es hroom
      have htt : w.there l.blk (l.off + n * es) us.length := fun j hj => by
        rw [Nat.add_assoc]
        refine ht (n * es + j) ?_
        rw [Nat.add_mul] at e1
        omega
      have hstore := run_storeCells_cells (P := E.P) l.blk (l.off + n * es) us 0 w (fun j hj => (by simpa using htt j hj : _ ∧ _).1) (fun j hj => (by simpa using htt j hj : _ ∧ _).2) h1
      simp only [Nat.add_zero] at hstore
      have hr := append_room (P := E.P) (w := w) (ty := o.type) (sLen := n) (sCap := l.cap) (A := some ⟨l.blk, l.off, none⟩) (w' := w.setCells l.blk (l.off + n * es) us) hok.u hok.x hok.sz hv (hf w rfl) hroom
        (by simp only [Addr.add_mid]; exact hstore)
      simp only [Sem.run_bind, hr, Result.andThen_ok, Sem.run_pure, Oper.upon, hd]
      obtain ⟨f1, f2, f3, f4, f5⟩ := setCells_frame l.blk us (l.off + n * es) w
      have hsame : Same G w (w.setCells l.blk (l.off + n * es) us) := fun b hb => f5 b fun e => (h.own k _ l hk hl).1 (e ▸ hb)
      have hturn : Sim E (s.slot k (.vec es (n + m) (appGet n get get'))) G φ a (w.setCells l.blk (l.off + n * es) us) := by
        refine h.turn hk hl f1 f2 f3 f4 f5 ⟨hmx', .inr ⟨l, hl, hroom, World.there_setCells ht _ _ _, fun i hi => ?_⟩⟩
        unfold appGet
        by_cases hin : i < n
        · rw [if_pos hin]
          obtain ⟨g1, g2⟩ := hel i (by omega)
          refine ⟨g1, fun j hj => ?_⟩
          obtain ⟨u, hu, hr⟩ := g2 j hj
          refine ⟨u, ?_, hr.mono hsame fun _ h => h⟩
          rw [World.cell?_setCells_out l.blk us (l.off + n * es) w _ (fun _ _ => by
            left
            show l.off + i * es + j < l.off + n * es
            have := add_lt_mul hin (show j < es by omega)
            omega)]
          exact hu
        · rw [if_neg hin]
          obtain ⟨g1, g2⟩ := hcs (i - n) (by omega)
          refine ⟨g1, fun j hj => ?_⟩
          obtain ⟨u, hu, hr⟩ := g2 j (by omega)
          have hlt' := add_lt_mul (show i - n < m by omega) (show j < es by omega)
          have hin' := World.cell?_setCells_in l.blk us (l.off + n * es) w (fun q hq => (htt q hq).1) ((i - n) * es + j) (by omega)
          refine ⟨u, ?_, hr.mono hsame fun _ h => h⟩
          have e2 : l.off + i * es + j = l.off + n * es + ((i - n) * es + j) := by
            have : i = n + (i - n) := by omega
            rw [this, Nat.add_mul]
            have : n + (i - n) - n = i - n := by omega
            rw [this]; omega
          rw [e2, hin', ← hu, List.getElem?_eq_getElem (by omega)]
      exact hn _ _ ⟨G, φ, hturn.dropKeep.put (Nat.blt_eq.mp hlt) (relAV_c (.inr ⟨l, hl, (show 0 + (n + m) ≤ l.cap by omega), by simp⟩) rfl)⟩
  · obtain ⟨bs, hbs, hb2⟩ := hok.b
    obtain ⟨zv, hz, hzs⟩ := hok.zero
    obtain ⟨newCap, vs, w1, c1, c2, c3, c4, c5, c6, c7, hr⟩ := append_grow (P := E.P) (w := w) (ty := o.type) (sLen := n) (sCap := cap) (A := A) (old := old) hok.u hok.x hok.sz hbs hb2 hv hf
      (fun w' hw' => by have := hof w' hw'; rw [hA] at this; exact this) hz hzs (by omega) hlim hol hul
    simp only [Sem.run_bind, hr, Result.andThen_ok, Sem.run_pure, Oper.upon, hd]
    have hw1 := (h.drop k).world c4 c5 c6 c7
    have hcs1 : CellsOk G w1 (old ++ us) es (n + m) (appGet n get get') := fun i hi => by
      obtain ⟨g1, g2⟩ := cells_app hol hoc hcs i hi
      refine ⟨g1, fun j hj => ?_⟩
      obtain ⟨u, hu, hr⟩ := g2 j hj
      exact ⟨u, hu, hr.mono (fun b _ => by rw [c4]) fun _ h => h⟩
    have := hw1.newVec (k := k) (not_mem_beq hkx) (noRef_drop k s) e c2 c1 hmx' (hcs1.ofPre fun q hq => by simpa using c3 q hq)
    rw [← c4]
    exact hn _ _ ⟨G, _, this.put (Nat.blt_eq.mp hlt) (relAV_c (.inr ⟨_, upd_same _ _ _, (show 0 + (n + m) ≤ newCap by omega), by simp⟩) rfl)⟩

end
end Go.Av
