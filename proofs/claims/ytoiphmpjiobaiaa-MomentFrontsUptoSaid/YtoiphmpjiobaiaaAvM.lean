/-
  Av, part M: calls that get nothing of the caller's to write.
-/
import Derived.Test.YtoiphmpjiobaiaaAvL
namespace Go.Av
open Go
set_option linter.unusedVariables false
set_option linter.unusedSimpArgs false

def calleeOf (s : St) (c : Call) : Option (FuncId × List D) :=
  match c.callee with
  | .value x => match evO s x with
    | some (.c (.d (.fn f caps))) => some (f, caps)
    | _ => none
  | _ => none

def allAV : List (Option AV) → Option (List AV)
  | [] => some []
  | some x :: r => match allAV r with
    | some xs => some (x :: xs)
    | none => none
  | none :: _ => none

def argsOf (s : St) (c : Call) (caps : List D) : Option (List AV) :=
  match allAV (c.args.toList.map (evO s)) with
  | some xs => some (xs ++ caps.map fun x => .c (.d x))
  | none => none

inductive CArg (s : St) : C → C → Prop
  | le {c c' : C} (h : CLe s [] c c') : CArg s c c'
  | own {k es off m m' n : Nat} {get get' : Nat → List D} (hk : look s.sl k = some (.vec es n get)) (hm : off + m ≤ n) (hm' : m' = m)
      (h : ∀ i, i < m → get' i = get (off + i)) : CArg s (.own k es off m) (.view es m' get')
  | bsl {k o es n n' : Nat} {cs : List C} {ds : List D} {get' : Nat → List D} (hk : look s.sl k = some (.box cs)) (hd : (cs.drop o).take (n * es) = ds.map .d) (hl : ds.length = n * es) (hn : n' = n) (hmx : n ≤ maxN)
      (h : ∀ i, i < n → get' i = (ds.drop (i * es)).take es) : CArg s (.bsl k o es n) (.view es n' get')

inductive CsArg (s : St) : List C → List C → Prop
  | refl (cs : List C) : CsArg s cs cs
  | nil : CsArg s [] []
  | cons {c c' : C} {cs cs' : List C} (h : CArg s c c') (t : CsArg s cs cs') : CsArg s (c :: cs) (c' :: cs')

inductive AVArg (s : St) : AV → AV → Prop
  | refl (x : AV) : AVArg s x x
  | c {x y : C} (h : CArg s x y) : AVArg s (.c x) (.c y)
  | agg {xs ys : List C} (h : CsArg s xs ys) : AVArg s (.agg xs) (.agg ys)

inductive AVsArg (s : St) : List AV → List AV → Prop
  | nil : AVsArg s [] []
  | cons {x y : AV} {xs ys : List AV} (h : AVArg s x y) (t : AVsArg s xs ys) : AVsArg s (x :: xs) (y :: ys)

theorem AVsArg.refl (s : St) : ∀ xs : List AV, AVsArg s xs xs
  | [] => .nil
  | _ :: xs => .cons (.refl _) (AVsArg.refl s xs)

def C.flat : C → Bool
  | .d _ => true
  | .zero => true
  | .any => true
  | .view _ _ _ => true
  | .eptr _ => true
  | _ => false

def AV.flat : AV → Bool
  | .c x => x.flat
  | .agg xs => match anyB (fun x => !C.flat x) xs with | true => false | false => true
  | .tup vs => match anyB (fun p : Bool × List C => anyB (fun x => !C.flat x) p.2) vs with | true => false | false => true

def C.solid : C → Bool
  | .d _ => true
  | .zero => true
  | .any => true
  | _ => false

def AV.solid : AV → Bool
  | .c x => x.solid
  | .agg xs => match anyB (fun x => !C.solid x) xs with | true => false | false => true
  | .tup vs => match anyB (fun p : Bool × List C => anyB (fun x => !C.solid x) p.2) vs with | true => false | false => true

def allFlat : List AV → Bool
  | [] => true
  | x :: xs => match x.flat with | true => allFlat xs | false => false

def putO (s : St) (d : Option Nat) (x : AV) : St := match d with | some d => s.put d x | none => s

def dstOk (N : Nat) : Option Nat → Bool
  | some d => Nat.blt d N
  | none => true

section
variable {E : Env} {s : St} {G : Nat → Prop} {φ : Nat → Option Loc} {a : Act} {w : World}

theorem Sim.grow (h : Sim E s G φ a w) {w' : World} {G' : Nat → Prop} (hk : Keep w.heap.size (fun _ => False) w w') (hg : ∀ b, G b → G' b) (hf : ∀ b, G' b → G b ∨ w.heap.size ≤ b) (hz : ∀ b, G' b → b < w'.heap.size) :
    Sim E s G' φ a w' := by
  have hb : ∀ b, b < w.heap.size → w'.heap[b]? = w.heap[b]? := fun b hb => hk.block b hb id
  obtain ⟨sg, sv⟩ := h.same_of_lt hb
  exact
  { h with
    tm := fun t x hx => by obtain ⟨v, hv, hr⟩ := h.tm t x hx; exact ⟨v, hv, hr.mono fun c _ v hc => hc.mono sg sv hg fun _ _ => rfl⟩
    sl := fun k c hc => (h.sl k c hc).mono sg sv hg rfl (fun _ _ => rfl) fun l hl => hb _ (h.own k c l hc hl).2.2.1
    own := fun k c l h1 h2 => by
      obtain ⟨o1, o2, o3, o4⟩ := h.own k c l h1 h2
      refine ⟨fun hg' => ?_, o2, Nat.lt_of_lt_of_le o3 hk.size, o4⟩
      rcases hf _ hg' with hg' | hg'
      · exact o1 hg'
      · omega
    gsz := hz
    g0 := fun b hb => hg b (h.g0 b hb)
    gf := fun b hb => by
      rcases hf b hb with hb | hb
      · exact h.gf b hb
      · exact .inr (Nat.le_trans h.kp.size hb)
    kp := h.kp.trans ⟨hk.os, hk.tape, hk.output, hk.size, fun b hb' _ => hb b (Nat.lt_of_lt_of_le hb' h.kp.size)⟩ }

theorem withF_nil {b : Nat} (h : withF s φ [] G b) : G b := by
  rcases h with h | ⟨k, _, _, hk, _⟩
  · exact h
  · cases hk

theorem C.flat_rel {V V' : Nat → Prop} {φ' : Nat → Option Loc} {x : C} {v : Value} (hx : x.flat = true) (hv : ∀ b, V b → V' b) (h : RelC G V φ w x v) : RelC G V' φ' w x v := by
  cases x with
  | view es n get => exact Or.imp id (fun ⟨b, off, cap, hb, h⟩ => ⟨b, off, cap, hb.imp id (hv b), h⟩) h
  | d x => exact h
  | eptr cells => exact h.elim fun b h => h.elim fun off h => ⟨b, off, h.1.imp id (hv b), h.2⟩
  | zero => exact h
  | any => trivial
  | _ => cases hx

theorem CArg.rel (h : Sim E s G φ a w) {c c' : C} (hc : CArg s c c') {v : Value} (hv : RelC G E.V φ w c v) (hf : c'.flat = true) {ψ : Nat → Option Loc} :
    RelC G (fun b => b < w.heap.size) ψ w c' v := by
  have vlt : ∀ b, E.V b → b < w.heap.size := fun b hb => Nat.lt_of_lt_of_le (h.vsz b hb).1 h.kp.size
  cases hc with
  | le hc => exact (C.flat_rel hf vlt ((CLe.rel h hc hv).mono (Same.refl _ _) (Same.refl _ _) (fun _ hb => withF_nil hb) fun _ _ => rfl))
  | own hk hm hm' hg =>
    subst hm'
    rcases hv with ⟨h0, A, rfl⟩ | ⟨l, hl, hle, rfl⟩
    · exact .inl ⟨h0, A, 0, rfl⟩
    · obtain ⟨hmx, hs | ⟨l', hl', hn, _, he⟩⟩ := h.sl _ _ hk
      · rw [hl] at hs; cases hs.1
      · rw [hl] at hl'; cases hl'
        refine .inr ⟨l.blk, _, _, .inr (h.own _ _ l hk hl).2.2.1, rfl, by omega, by omega, fun i hi => ?_⟩
        rw [hg i hi]
        exact he.part hm i hi
  | @bsl k o es n n' cs ds get' hk hd hl' hn hmx hg =>
    cases hn
    obtain ⟨l, cap, hl, hc, rfl⟩ := hv
    obtain ⟨l', hl'', _, vs, h1, h2, h3⟩ := h.sl _ _ hk
    rw [hl] at hl''; cases hl''
    refine .inr ⟨l.blk, _, _, .inr (h.own _ _ l hk hl).2.2.1, rfl, hc, hmx, fun i hi => ?_⟩
    have hlen : i * es + es ≤ ds.length := by
      rw [hl']
      calc i * es + es = (i + 1) * es := by rw [Nat.add_mul, Nat.one_mul]
        _ ≤ n * es := Nat.mul_le_mul_right es hi
    rw [hg i hi]
    refine ⟨by simp; omega, fun j hj => ?_⟩
    have hj : j < es := by simp at hj; omega
    have e1 : ((cs.drop o).take (n * es))[i * es + j]? = some (.d (D.at ((ds.drop (i * es)).take es) j)) := by
      rw [hd, List.getElem?_map, List.getElem?_eq_getElem (by omega)]
      have : D.at ((ds.drop (i * es)).take es) j = ds[i * es + j]'(by omega) := by
        simp [D.at, List.getD_eq_getElem?_getD, hj, List.getElem?_drop, List.getElem?_eq_getElem (show i * es + j < ds.length by omega)]
      rw [this]; rfl
    have e2 : cs[o + (i * es + j)]? = some (.d (D.at ((ds.drop (i * es)).take es) j)) := by
      rw [List.getElem?_take, List.getElem?_drop] at e1
      split at e1
      · exact e1
      · cases e1
    obtain ⟨u, hu, hr⟩ := h1.get _ _ e2
    exact ⟨u, by have := h3 _ u hu; rw [← this]; congr 2; omega, hr⟩

theorem CsArg.rel (h : Sim E s G φ a w) {cs cs' : List C} (hc : CsArg s cs cs') {ψ : Nat → Option Loc} : ∀ {vs : List Value}, (∀ c ∈ cs', c.flat = true) → RelCs (RelC G E.V φ w) cs vs → RelCs (RelC G (fun b => b < w.heap.size) ψ w) cs' vs := by
  induction hc with
  | refl cs => intro vs hf hv; exact hv.mono fun c hc v hcv => CArg.rel h (.le (.refl c)) hcv (hf c hc)
  | nil => intro vs _ hv; cases vs with | nil => trivial | cons _ _ => exact hv.elim
  | cons hc _ ih =>
    intro vs hf hv
    cases vs with
    | nil => exact hv.elim
    | cons v vs => exact ⟨CArg.rel h hc hv.1 (hf _ (List.mem_cons_self ..)), ih (fun c hc => hf c (List.mem_cons_of_mem _ hc)) hv.2⟩

theorem AV.flat_cells {x : AV} (h : x.flat = true) : ∀ c ∈ x.cells, c.flat = true := by
  have key : ∀ xs : List C, anyB (fun x => !C.flat x) xs = false → ∀ c ∈ xs, c.flat = true := fun xs h c hc => by simpa using anyB_false h c hc
  cases x with
  | c x => intro c hc; simp [AV.cells] at hc; subst hc; exact h
  | agg xs =>
    simp only [AV.flat] at h
    split at h
    · cases h
    · rename_i h'; exact key xs h'
  | tup vs =>
    simp only [AV.flat] at h
    split at h
    · cases h
    · rename_i h'
      intro c hc
      obtain ⟨p, hp, hc⟩ := List.mem_flatMap.1 hc
      exact key p.2 (anyB_false h' p hp) c hc

theorem AV.solid_cells {x : AV} (h : x.solid = true) : ∀ c ∈ x.cells, c.solid = true := by
  have key : ∀ xs : List C, anyB (fun x => !C.solid x) xs = false → ∀ c ∈ xs, c.solid = true := fun xs h c hc => by simpa using anyB_false h c hc
  cases x with
  | c x => intro c hc; simp [AV.cells] at hc; subst hc; exact h
  | agg xs =>
    simp only [AV.solid] at h
    split at h
    · cases h
    · rename_i h'; exact key xs h'
  | tup vs =>
    simp only [AV.solid] at h
    split at h
    · cases h
    · rename_i h'
      intro c hc
      obtain ⟨p, hp, hc⟩ := List.mem_flatMap.1 hc
      exact key p.2 (anyB_false h' p hp) c hc

theorem C.solid_rel {V V' : Nat → Prop} {φ' : Nat → Option Loc} {x : C} {v : Value} (hx : x.solid = true) (h : RelC G V φ w x v) : RelC G V' φ' w x v := by
  cases x <;> first | exact h | cases hx

theorem AVArg.rel (h : Sim E s G φ a w) {x x' : AV} (hx : AVArg s x x') (hf : x'.flat = true) {v : Value} (hv : RAV E G φ w x v) {ψ : Nat → Option Loc} : RelAV (RelC G (fun b => b < w.heap.size) ψ w) x' v := by
  have hcl := AV.flat_cells hf
  cases hx with
  | refl => exact hv.mono fun c hc v hcv => CArg.rel h (.le (.refl c)) hcv (hcl c hc)
  | @c p q hc =>
    have hq : q.flat = true := hf
    by_cases e : p = .any
    · subst e
      cases hc with
      | le hc => cases hc <;> trivial
    · obtain ⟨h1, h2⟩ := relAV_ptr hv e
      exact relAV_c (hc.rel h h1 hq) h2
  | agg hc => obtain ⟨us, e, h1, h2⟩ := hv; exact ⟨us, e, hc.rel h hcl h1, h2⟩

theorem allFlat_mem : ∀ {xs : List AV}, allFlat xs = true → ∀ x ∈ xs, x.flat = true
  | [], _, x, hx => by cases hx
  | y :: ys, h, x, hx => by
    simp only [allFlat] at h
    split at h
    · rename_i hy
      rcases List.mem_cons.1 hx with rfl | hx
      · exact hy
      · exact allFlat_mem h x hx
    · cases h

theorem AVsArg.rel (h : Sim E s G φ a w) {xs ys : List AV} (hx : AVsArg s xs ys) {ψ : Nat → Option Loc} : (∀ y ∈ ys, y.flat = true) → ∀ {vs : List Value}, RelAVs (RelC G E.V φ w) xs vs →
    RelAVs (RelC G (fun b => b < w.heap.size) ψ w) ys vs := by
  induction hx with
  | nil => intro _ vs hv; cases vs with | nil => trivial | cons _ _ => exact hv.elim
  | cons hc _ ih =>
    intro hf vs hv
    cases vs with
    | nil => exact hv.elim
    | cons v vs => exact ⟨hc.rel h (hf _ (List.mem_cons_self ..)) hv.1, ih (fun y hy => hf y (List.mem_cons_of_mem _ hy)) hv.2⟩

theorem allAV_rel (h : Sim E s G φ a w) : ∀ {os : List Operand} {xs : List AV}, allAV (os.map (evO s)) = some xs → RelAVs (RelC G E.V φ w) xs (os.map a.eval)
  | [], xs, he => by cases he; trivial
  | o :: os, xs, he => by
    simp only [List.map_cons] at he
    cases ho : evO s o with
    | none => rw [ho] at he; cases he
    | some x =>
      rw [ho] at he
      simp only [allAV] at he
      split at he
      · rename_i ys hys
        cases he
        exact ⟨h.ev ho, allAV_rel h hys⟩
      · cases he

theorem RelAVs.append {R : C → Value → Prop} : ∀ {xs : List AV} {vs : List Value} {ys : List AV} {us : List Value}, RelAVs R xs vs → RelAVs R ys us → RelAVs R (xs ++ ys) (vs ++ us)
  | [], [], _, _, _, h => h
  | _ :: _, _ :: _, _, _, ⟨h1, h2⟩, h => ⟨h1, RelAVs.append h2 h⟩
  | [], _ :: _, _, _, h, _ => h.elim
  | _ :: _, [], _, _, h, _ => h.elim

theorem caps_rel {R : C → Value → Prop} : ∀ {caps : List D} {us : List Value}, caps.length = us.length → (∀ j, j < caps.length → R (.d (D.at caps j)) (us.getD j undef) ∧ (us.getD j undef).oneCell' = true) → RelAVs R (caps.map fun x => .c (.d x)) us
  | [], [], _, _ => trivial
  | x :: xs, u :: us, hl, h => ⟨by have := h 0 (by simp); exact this, caps_rel (by simpa using hl) fun j hj => by have := h (j + 1) (by simpa using hj); simpa [D.at] using this⟩
  | [], _ :: _, hl, _ => by simp at hl
  | _ :: _, [], hl, _ => by simp at hl

theorem call_args (h : Sim E s G φ a w) {c : Call} {f : FuncId} {caps : List D} {xs : List AV} (hc : calleeOf s c = some (f, caps)) (hx : argsOf s c caps = some xs) (ty : TypeId) :
    ∃ vs : List Value, (∀ w, (do let d ← resolve a.eval c ty; invoke d.target d.args : Sem Next).run E.P w = (callFunc f vs.toArray).run E.P w) ∧ RelAVs (RelC G E.V φ w) xs vs := by
  obtain ⟨cal, args, ats⟩ := c
  unfold calleeOf at hc
  simp only at hc
  split at hc
  · rename_i cal' x
    split at hc
    · rename_i f' caps' hv
      cases hc
      have hfv := (h.ev hv).1
      have hfv : RelD G w (.fn f caps) (a.eval x) := hfv
      simp only [argsOf] at hx
      split at hx
      · rename_i ys hys
        cases hx
        have h1 := allAV_rel h hys
        generalize hu : a.eval x = u at hfv
        cases hfv with
        | fn _ _ us hl hr =>
          refine ⟨args.toList.map a.eval ++ us, fun w => ?_, h1.append (caps_rel hl fun j hj => ⟨hr j hj, (hr j hj).one⟩)⟩
          simp only [resolve, Deferred.ofValue, hu, Sem.run_bind, Sem.run_pure, Result.andThen_ok, invoke]
          congr 2
          apply Array.ext'
          simp
      · cases hx
    · cases hc
  · cases hc

theorem acts_upon {o : Oper} {f : FuncId} {vs : List Value} {R : Ending → World → Prop} {next : Act → World → Prop} {Q : Exit → Act → World → Prop} (h : Acts E.P f vs.toArray w R)
    (hr : ∀ e w', R e w' → ∃ v, e = .returned v ∧ next (a.put o.dst v) w') : o.upon E.P a next Q ((callFunc f vs.toArray).run E.P w) := by
  unfold Acts at h
  split at h
  · rename_i f' vs' w' hrun
    rw [hrun]
    exact h.mono fun e w' hR => by
      obtain ⟨v, rfl, hn⟩ := hr e w' hR
      exact hn
  · rename_i v w' hrun
    rw [hrun]
    obtain ⟨v', e, hn⟩ := hr _ _ h
    cases e
    exact hn
  · exact h.elim

def One (E : Env) (ops : Array Oper) (o : Oper) (s s' : St) : Prop :=
  ∀ a w, SimE E s a w → Region.wanted o (yielded ops a.tmps) = true ∧ ∀ (next : Act → World → Prop) (Q : Exit → Act → World → Prop), (∀ a' w', SimE E s' a' w' → next a' w') → o.wp E.P a w next Q

theorem Ops.one {ops : Array Oper} {o : Oper} {rest : List Oper} {s' : St} {K : St → Prop} (h : One E ops o s s') (hk : Ops E ops rest s' K) : Ops E ops (o :: rest) s K := fun a w hs Q hQ => by
  obtain ⟨h1, h2⟩ := h a w hs
  show wpList E.P ops Q (o :: rest) a w
  unfold wpList
  rw [if_pos h1]
  exact .inl (h2 _ _ fun a' w' hs' => hk a' w' hs' Q hQ)

theorem One.step {ops : Array Oper} {o : Oper} {st : Step} (hw : wantedB ops s o = some true) (he : evStep E.P s o.dst o.op = some st) (hc : st.cond) (hok : okDst E.N s o.dst st = true) :
    One E ops o s (stepSt s o.dst st) := fun a w hs => by
  obtain ⟨G, φ, h⟩ := hs
  exact ⟨wantedB_spec h hw, fun next Q hn => upon_comes (h.step he hc hok) hn⟩

theorem One.call {ops : Array Oper} {o : Oper} {cl : Call} {f : FuncId} {caps : List D} {xs args : List AV} {res : AV}
    (hop : o.op = .call cl) (hw : wantedB ops s o = some true) (hd : dstOk E.N o.dst = true) (hc : calleeOf s cl = some (f, caps)) (hx : argsOf s cl caps = some xs)
    (hle : AVsArg s xs args) (hfl : allFlat args = true) (hsol : res.solid = true) (hS : Summ E.P f args [] res []) : One E ops o s (putO s o.dst res) := fun a w hs => by
  obtain ⟨G, φ, hs⟩ := hs
  obtain ⟨vs, hrun, hrel⟩ := call_args hs hc hx o.type
  have hb0 : ∀ ψ b, ¬ Blks ψ [] b := fun ψ b ⟨k, c, l, hk, _⟩ => by cases hk
  have hargs := AVsArg.rel hs hle (ψ := fun _ => none) (allFlat_mem hfl) hrel
  have hV : (fun b => b < w.heap.size) = (fun b => b < w.heap.size ∧ ¬ Blks (fun _ => none) [] b) := by
    funext b; exact propext ⟨fun h => ⟨h, hb0 _ b⟩, fun h => h.1⟩
  rw [hV] at hargs
  have hact := hS G (fun _ => none) w vs hs.gsz ⟨(fun _ _ h => by cases h), (fun _ _ _ _ _ _ h => by cases h), (fun _ _ _ h => by cases h)⟩ hargs
  refine ⟨wantedB_spec hs hw, fun next Q hn => ?_⟩
  unfold Oper.wp
  have he : execOp a.eval o = (do let d ← resolve a.eval cl o.type; invoke d.target d.args : Sem Next) := by
    unfold execOp; rw [hop]
  rw [he, hrun]
  refine acts_upon hact fun e w' ⟨v, G', φ', he, hd'⟩ => ⟨v, he, ?_⟩
  have hk : Keep w.heap.size (fun _ => False) w w' := hd'.kp.mono (Nat.le_refl _) fun b _ hb => (hb0 _ b hb).elim
  have hg := hs.grow hk hd'.up hd'.fr hd'.sz
  refine hn _ _ ⟨G', φ, ?_⟩
  have hres : RAV E G' φ w' res v := hd'.rel.mono fun c hc v hcv => C.solid_rel (AV.solid_cells hsol c hc) hcv
  cases hdd : o.dst with
  | none => exact hg
  | some d =>
    rw [hdd] at hd
    exact hg.put (Nat.blt_eq.mp hd) hres

end
end Go.Av
