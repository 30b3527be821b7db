/-
  Av, part L: what a function does, and calls.
-/
import Derived.Test.YtoiphmpjiobaiaaAvK
namespace Go.Av
open Go
set_option linter.unusedVariables false
set_option linter.unusedSimpArgs false

structure SlotsOk (G V : Nat → Prop) (φ : Nat → Option Loc) (w : World) (sl : List (Nat × Slot)) : Prop where
  rel : ∀ k c, look sl k = some c → RelSlot G V φ w k c
  inj : ∀ k k' c c' l l', look sl k = some c → look sl k' = some c' → φ k = some l → φ k' = some l' → l.blk = l'.blk → k = k'
  own : ∀ k c l, look sl k = some c → φ k = some l → ¬ G l.blk ∧ l.blk < w.heap.size

def Blks (φ : Nat → Option Loc) (sl : List (Nat × Slot)) : Nat → Prop := fun b => ∃ k c l, look sl k = some c ∧ φ k = some l ∧ b = l.blk

def Acts (P : Program) (f : FuncId) (vs : Array Value) (w : World) (R : Ending → World → Prop) : Prop :=
  match (callFunc f vs).run P w with
  | .ok (.enter f' vs') w' => Calls P f' vs' w' R
  | .ok (.value v) w' => R (.returned v) w'
  | _ => False

def RelAVs (R : C → Value → Prop) : List AV → List Value → Prop
  | [], [] => True
  | x :: xs, v :: vs => RelAV R x v ∧ RelAVs R xs vs
  | _, _ => False

structure Done (G : Nat → Prop) (φ : Nat → Option Loc) (sl : List (Nat × Slot)) (res : AV) (sl' : List (Nat × Slot)) (w w' : World) (v : Value) (G' : Nat → Prop) (φ' : Nat → Option Loc) : Prop where
  up : ∀ b, G b → G' b
  fr : ∀ b, G' b → G b ∨ w.heap.size ≤ b
  sz : ∀ b, G' b → b < w'.heap.size
  rel : RelAV (RelC G' (fun _ => False) φ' w') res v
  slots : SlotsOk G' (fun _ => False) φ' w' sl'
  blk : ∀ k c l, look sl' k = some c → φ' k = some l → Blks φ sl l.blk ∨ w.heap.size ≤ l.blk
  kp : Keep w.heap.size (Blks φ sl) w w'
  fix : ∀ k c c', look sl k = some c → look sl' k = some c' → φ' k = φ k

def Summ (P : Program) (f : FuncId) (args : List AV) (sl : List (Nat × Slot)) (res : AV) (sl' : List (Nat × Slot)) : Prop :=
  ∀ (G : Nat → Prop) (φ : Nat → Option Loc) (w : World) (vs : List Value), (∀ b, G b → b < w.heap.size) → SlotsOk G (fun b => b < w.heap.size ∧ ¬ Blks φ sl b) φ w sl →
    RelAVs (RelC G (fun b => b < w.heap.size ∧ ¬ Blks φ sl b) φ w) args vs →
    Acts P f vs.toArray w fun e w' => ∃ v G' φ', e = .returned v ∧ Done G φ sl res sl' w w' v G' φ'


def evRes1 (P : Program) (s : St) : ResultVar → Option ((Bool × List C) × Prop)
  | .tmp t => match look s.tm t with
    | some (.c .any) => none
    | some (.c x) => some ((false, [x]), True)
    | some (.agg xs) => some ((true, xs), True)
    | _ => none
  | .cell t ty => match evLoad P s ty (look s.tm t) with
    | some (.c .any, _) => none
    | some (.c x, c) => some ((false, [x]), c)
    | some (.agg xs, c) => some ((true, xs), c)
    | _ => none

def evRes (P : Program) (s : St) : List ResultVar → Option (List (Bool × List C) × Prop)
  | [] => some ([], True)
  | r :: rs => match evRes1 P s r with
    | some (x, c) => match evRes P s rs with
      | some (xs, c') => some (x :: xs, c ∧ c')
      | none => none
    | none => none

def resAV : List (Bool × List C) → AV
  | [(false, [x])] => .c x
  | [(true, xs)] => .agg xs
  | l => .tup l

def C.clean : C → Bool
  | .d _ => true
  | .zero => true
  | .any => true
  | .own _ _ _ _ => true
  | .ptr _ _ => true
  | _ => false

def AV.clean : AV → Bool
  | .c x => x.clean
  | .agg xs => match anyB (fun x => !C.clean x) xs with | true => false | false => true
  | .tup vs => match anyB (fun p : Bool × List C => anyB (fun x => !C.clean x) p.2) vs with | true => false | false => true

def Slot.clean : Slot → Bool
  | .box cs => match anyB (fun x => !C.clean x) cs with | true => false | false => true
  | .vec _ _ _ => true

def params : Nat → List AV → List (Nat × AV)
  | _, [] => []
  | i, x :: xs => (i, x) :: params (i + 1) xs

def RetAt (P : Program) (fn : Func) (res : AV) (sl' : List (Nat × Slot)) (s : St) : Prop :=
  ∃ l c, evRes P s fn.results.toList = some (l, c) ∧ c ∧ resAV l = res ∧ res.clean = true ∧ ∀ k c, look sl' k = some c → look s.sl k = some c ∧ c.clean = true

def RetPost (P : Program) (fn : Func) (res : AV) (sl' : List (Nat × Slot)) : Exit → St → Prop
  | .normal, s => RetAt P fn res sl' s
  | .ret, s => RetAt P fn res sl' s
  | _, _ => False

section
variable {E : Env} {s : St} {G : Nat → Prop} {φ : Nat → Option Loc} {a : Act} {w : World}

theorem C.clean_rel {V V' : Nat → Prop} {x : C} {v : Value} (hx : x.clean = true) (h : RelC G V φ w x v) : RelC G V' φ w x v := by
  cases x <;> first | exact h | cases hx

theorem AV.clean_cells {x : AV} (h : x.clean = true) : ∀ c ∈ x.cells, c.clean = true := by
  have key : ∀ xs : List C, anyB (fun x => !C.clean x) xs = false → ∀ c ∈ xs, c.clean = true := fun xs h c hc => by simpa using anyB_false h c hc
  cases x with
  | c x => intro c hc; simp [AV.cells] at hc; subst hc; exact h
  | agg xs =>
    simp only [AV.clean] at h
    split at h
    · cases h
    · rename_i h'; exact key xs h'
  | tup vs =>
    simp only [AV.clean] at h
    split at h
    · cases h
    · rename_i h'
      intro c hc
      obtain ⟨p, hp, hc⟩ := List.mem_flatMap.1 hc
      exact key p.2 (anyB_false h' p hp) c hc

theorem Slot.clean_rel {V V' : Nat → Prop} {k : Nat} {c : Slot} (hc : c.clean = true) (h : RelSlot G V φ w k c) : RelSlot G V' φ w k c := by
  cases c with
  | vec es n get => exact h
  | box cs =>
    simp only [Slot.clean] at hc
    split at hc
    · cases hc
    · rename_i h'
      obtain ⟨l, hl, ht, vs, h1, h2, h3⟩ := h
      exact ⟨l, hl, ht, vs, h1.mono fun c hc v hv => C.clean_rel (by simpa using anyB_false h' c hc) hv, h2, h3⟩

theorem evRes1_run (h : Sim E s G φ a w) {r : ResultVar} {x : Bool × List C} {c : Prop} (he : evRes1 E.P s r = some (x, c)) (hc : c) :
    ∃ v, (match r with | .tmp t => pure (a.tmps.getD t undef) | .cell t ty => (do loadVar ty (← asAddr (a.tmps.getD t undef))) : Sem Value).run E.P w = .ok v w ∧ RelS (RelC G E.V φ w) x v := by
  have tmpv : ∀ t x, look s.tm t = some x → RAV E G φ w x (a.tmps.getD t undef) := fun t x hx => by
    obtain ⟨v, hv, hr⟩ := h.tm t x hx
    rw [Array.getD_eq_getD_getElem?, hv]; exact hr
  cases r with
  | tmp t =>
    simp only [evRes1] at he
    refine ⟨a.tmps.getD t undef, rfl, ?_⟩
    split at he
    · cases he
    · rename_i y hne hy
      cases he
      exact relAV_ptr (tmpv t _ hy) (fun e => hne e)
    · rename_i xs hy
      cases he
      exact tmpv t _ hy
    · cases he
  | cell t ty =>
    simp only [evRes1] at he
    have key : ∀ y c', evLoad E.P s ty (look s.tm t) = some (y, c') → c' → ∃ v, (loadVar ty =<< asAddr (a.tmps.getD t undef) : Sem Value).run E.P w = .ok v w ∧ RAV E G φ w y v := fun y c' hy hc' => by
      obtain ⟨v, h1, h2⟩ := h.load (o := .tmp t) (t := ty) (x := y) (c := c') hy hc'
      refine ⟨v, ?_, h2⟩
      rw [← h1]
      have he : a.eval (.tmp t) = a.tmps.getD t undef := rfl
      cases hl : look s.tm t with
      | none => rw [hl] at hy; cases hy
      | some p =>
        have hp := tmpv t p hl
        rw [hl] at hy
        rw [he]
        generalize a.tmps.getD t undef = u at *
        have hu : ∃ A, u = .pointer (some A) := by
          cases p with
          | agg _ => cases hy
          | tup _ => cases hy
          | c p =>
            simp only [evLoad] at hy
            have hrd : ∃ n cs c, rdC s p n = some (cs, c) := by
              split at hy
              · split at hy
                · rename_i h; exact ⟨_, _, _, h⟩
                · cases hy
              · split at hy
                · rename_i h; exact ⟨_, _, _, h⟩
                · cases hy
              · cases hy
            obtain ⟨n, cs, c, hrd⟩ := hrd
            cases p with
            | ptr k o => obtain ⟨l, _, e⟩ := hp.1; exact ⟨_, e⟩
            | vptr k es i o => obtain ⟨l, _, e⟩ := hp.1; exact ⟨_, e⟩
            | eptr cells => obtain ⟨b, off, _, e, _⟩ := hp.1; exact ⟨_, e⟩
            | _ => cases hrd
        obtain ⟨A, rfl⟩ := hu
        rfl
    split at he
    · cases he
    · rename_i y c' hne hy
      cases he
      obtain ⟨v, h1, h2⟩ := key _ _ hy hc
      exact ⟨v, h1, relAV_ptr h2 (fun e => hne e)⟩
    · rename_i xs c' hy
      cases he
      obtain ⟨v, h1, h2⟩ := key _ _ hy hc
      exact ⟨v, h1, h2⟩
    · cases he

theorem evRes_run (h : Sim E s G φ a w) : ∀ {rs : List ResultVar} {xs : List (Bool × List C)} {c : Prop}, evRes E.P s rs = some (xs, c) → c →
    ∃ vs, (rs.mapM fun | .tmp t => pure (a.tmps.getD t undef) | .cell t ty => (do loadVar ty (← asAddr (a.tmps.getD t undef))) : Sem (List Value)).run E.P w = .ok vs w ∧ RelSs (RelC G E.V φ w) xs vs
  | [], xs, c, he, _ => by cases he; exact ⟨[], rfl, trivial⟩
  | r :: rs, xs, c, he, hc => by
    simp only [evRes] at he
    split at he
    · rename_i x c1 h1
      split at he
      · rename_i xs' c2 h2
        cases he
        obtain ⟨v, r1, r2⟩ := evRes1_run h h1 hc.1
        obtain ⟨vs, r3, r4⟩ := evRes_run h h2 hc.2
        refine ⟨v :: vs, ?_, r2, r4⟩
        rw [List.mapM_cons]
        cases r with
        | tmp t => simp only [Sem.run_bind, Sem.run_pure, Result.andThen_ok] at r1 ⊢; simp only [r3, Result.andThen_ok]; cases r1; rfl
        | cell t ty => simp only at r1; simp only [Sem.run_bind] at r1 ⊢; rw [r1]; simp only [Result.andThen_ok, r3, Sem.run_pure]
      · cases he
    · cases he

theorem resAV_rel {R : C → Value → Prop} : ∀ {xs : List (Bool × List C)} {vs : List Value}, RelSs R xs vs → RelAV R (resAV xs) (if h : vs.toArray.size = 1 then vs.toArray[0] else .tuple vs.toArray)
  | [], [], h => ⟨#[], rfl, h⟩
  | [(false, [x])], [v], h => by simpa [resAV] using relAV_c h.1.1 h.1.2
  | [(false, [])], [v], h => h.1.elim
  | [(false, _ :: _ :: _)], [v], h => h.1.elim
  | [(true, xs)], [v], h => by simpa [resAV, RelAV] using h.1
  | x :: y :: xs, [], h => h.elim
  | x :: y :: xs, [v], h => h.2.elim
  | x :: y :: xs, v :: u :: vs, h => by
    have : resAV (x :: y :: xs) = .tup (x :: y :: xs) := by unfold resAV; split <;> simp_all
    rw [this]
    exact ⟨(v :: u :: vs).toArray, by simp, h⟩
  | [], _ :: _, h => h.elim
  | [_], [], h => h.elim
  | [_], _ :: _ :: _, h => h.2.elim

theorem RelAVs.length {R : C → Value → Prop} : ∀ {xs : List AV} {vs : List Value}, RelAVs R xs vs → xs.length = vs.length
  | [], [], _ => rfl
  | _ :: _, _ :: _, h => by simp [RelAVs.length h.2]
  | [], _ :: _, h => h.elim
  | _ :: _, [], h => h.elim

theorem params_look {R : C → Value → Prop} : ∀ {xs : List AV} {vs : List Value} {i : Nat}, RelAVs R xs vs → ∀ t x, look (params i xs) t = some x → ∃ j v, t = i + j ∧ vs[j]? = some v ∧ RelAV R x v
  | [], [], _, _, t, x, h => by cases h
  | y :: xs, v :: vs, i, hr, t, x, h => by
    simp only [params, look_cons] at h
    split at h
    · rename_i e; cases h; exact ⟨0, v, by omega, rfl, hr.1⟩
    · obtain ⟨j, u, e, hu, hx⟩ := params_look hr.2 t x h
      exact ⟨j + 1, u, by omega, by simpa using hu, hx⟩
  | [], _ :: _, _, h, _, _, _ => h.elim
  | _ :: _, [], _, h, _, _, _ => h.elim

theorem Summ.intro {P : Program} {f : FuncId} {fn : Func} {c : Code} {args : List AV} {sl sl' : List (Nat × Slot)} {res : AV} (hf : P.funcs[f]? = some fn) (hb : fn.body = some c)
    (hn : (fn.name == "runtime.NumGoroutine") = false) (ha : Nat.ble args.length fn.ntmps = true) (ex : List Nat) (hlt : anyB (fun p : Nat × Slot => Nat.blt p.1 fn.ntmps) sl = false)
    (h : ∀ E : Env, E.P = P → E.N = fn.ntmps → E.lk = sl.map (·.1) ++ ex → E.fx = sl.map (·.1) → Tri E c ⟨params 0 args, sl⟩ (RetPost P fn res sl')) : Summ P f args sl res sl' := by
  intro G φ w vs hG hsl hargs
  have hcall : (callFunc f vs.toArray).run P w = .ok (.enter f vs.toArray) w := by
    simp only [callFunc, Sem.run_bind]
    show Sem.run P (match P.funcs[f]? with | none => _ | some fn => _) w = _
    rw [hf]
    simp [hn, hb]
  unfold Acts
  rw [hcall]
  simp only
  let E : Env := ⟨P, w, G, fun b => b < w.heap.size ∧ ¬ Blks φ sl b, Blks φ sl, sl.map (·.1) ++ ex, fn.ntmps, φ, sl.map (·.1)⟩
  have hlen := hargs.length
  have ha := Nat.le_of_ble_eq_true ha
  have hsim : Sim E ⟨params 0 args, sl⟩ G φ { tmps := vs.toArray ++ Array.replicate (fn.ntmps - vs.toArray.size) undef, defers := [] } w :=
    { df := rfl
      sz := by simp [E]; omega
      tm := fun t x hx => by
        obtain ⟨j, v, e, hv, hr⟩ := params_look hargs t x hx
        have hj := (List.getElem?_eq_some_iff.1 hv).1
        refine ⟨v, ?_, hr⟩
        rw [Array.getElem?_append_left (by simp; omega)]
        simp [e, hv]
      sl := hsl.rel
      inj := hsl.inj
      own := fun k c l h1 h2 => ⟨(hsl.own k c l h1 h2).1, fun hv => hv.2 ⟨k, c, l, h1, h2, rfl⟩, (hsl.own k c l h1 h2).2, .inr ⟨List.mem_append_left _ (List.mem_map.2 ⟨(k, c), look_mem h1, rfl⟩), k, c, l, h1, h2, rfl⟩⟩
      gsz := hG
      g0 := fun _ h => h
      gf := fun _ h => .inl h
      vsz := fun b hb => hb
      gl := fun b hb => ⟨hG b hb, fun ⟨k, c, l, h1, h2, e⟩ => (hsl.own k c l h1 h2).1 (e ▸ hb)⟩
      kp := Keep.refl _ _ _
      fix := fun k c hk h1 => rfl
      fxN := fun k hk => by
        obtain ⟨p, hp, rfl⟩ := List.mem_map.1 hk
        have := anyB_false hlt p hp
        exact Nat.le_of_not_lt fun h => by rw [Nat.blt_eq.mpr h] at this; cases this }
  refine calls_of_wp hf hb (wp_mono (h E rfl rfl rfl rfl _ _ ⟨G, φ, hsim⟩) fun e a' w' ⟨s', hp, G', φ', hs'⟩ => ?_)
  have fin : RetAt P fn res sl' s' → a'.defers = [] ∧ ∃ v, (results fn a'.tmps).run P w' = .ok v w' ∧ ∃ v1 G' φ', Ending.returned v = .returned v1 ∧ Done G φ sl res sl' w w' v1 G' φ' := by
    rintro ⟨l, c, h1, hc, rfl, hcl, hsl'⟩
    obtain ⟨us, r1, r2⟩ := evRes_run hs' h1 hc
    refine ⟨hs'.df, if h : us.toArray.size = 1 then us.toArray[0] else .tuple us.toArray, ?_, _, G', φ', rfl, ?_⟩
    · unfold results
      rw [Sem.run_bind, Array.mapM_eq_mapM_toList, Sem.run_map]
      erw [r1]
      rfl
    · exact
      { up := hs'.g0
        fr := hs'.gf
        sz := hs'.gsz
        rel := (resAV_rel r2).mono fun c hc v hv => C.clean_rel (AV.clean_cells hcl c hc) hv
        slots :=
          { rel := fun k c hk => Slot.clean_rel (hsl' k c hk).2 (hs'.sl k c (hsl' k c hk).1)
            inj := fun k k' c c' l l' h1 h2 => hs'.inj k k' c c' l l' (hsl' _ _ h1).1 (hsl' _ _ h2).1
            own := fun k c l h1 h2 => ⟨(hs'.own k c l (hsl' _ _ h1).1 h2).1, (hs'.own k c l (hsl' _ _ h1).1 h2).2.2.1⟩ }
        blk := fun k c l h1 h2 => ((hs'.own k c l (hsl' _ _ h1).1 h2).2.2.2).symm.imp (fun h => h.2) id
        kp := hs'.kp
        fix := fun k c c' h1 h2 => hs'.fix k c' (List.mem_map.2 ⟨(k, c), look_mem h1, rfl⟩) (hsl' _ _ h2).1 }
  cases e with
  | normal => exact fin hp
  | ret => exact fin hp
  | _ => exact hp.elim

end
end Go.Av
