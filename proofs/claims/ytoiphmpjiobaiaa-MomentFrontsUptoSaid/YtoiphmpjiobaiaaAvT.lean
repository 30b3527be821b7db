/-
  Av, part T: from a contract to a row.
-/
import Derived.Test.YtoiphmpjiobaiaaAvS
import Derived.JoinedCond
namespace Go.Av
open Go Go.RowKit Go.ChangeShapes Go.WideShapes Go.ChangeAt
set_option linter.unusedVariables false
set_option linter.unusedSimpArgs false

section
variable {H : Type} {enc : TypeId × Value → H} {P : Program} {W : World} {Z : TypeId → DataW H → Prop} {B : DataW H → Nat}

def ArgR {Y : Type} (enc : TypeId × Value → H) (P : Program) (W : World) (Z : TypeId → DataW H → Prop) (B : DataW H → Nat) (t : TypeId) (av : Y → AV) (ok : Y → Prop) (bulk : Y → Nat) : Prop :=
  ∀ (base : Nat) v d p, Value.okWide P W .any base t v → DataW.Trod enc P W 0 (fun _ => true) true t v d p → Z t d → ∃ z, ok z ∧ bulk z ≤ B d ∧ RelAV (RelC (allG W) (fun _ => False) (fun _ => none) W) (av z) v

def ArgsR {Y : Type} (enc : TypeId × Value → H) (P : Program) (W : World) (Z : TypeId → DataW H → Prop) (B : DataW H → Nat) (ts : List TypeId) (avs : Y → List AV) (ok : Y → Prop) (bulk : Y → Nat) : Prop :=
  ∀ (base : Nat) (vs : List Value) ds p, (∀ (j : Nat) t v, ts[j]? = some t → vs[j]? = some v → Value.okWide P W .any base t v) → DataW.TrodAll enc P W 0 (fun _ => true) true ts vs ds p → (∀ (i : Nat) t d, ts[i]? = some t → ds[i]? = some d → Z t d) →
    ∃ z, ok z ∧ bulk z ≤ (ds.map B).sum ∧ RelAVs (RelC (allG W) (fun _ => False) (fun _ => none) W) (avs z) vs ∧ ds.length = ts.length

def scalarD : Option TypeDesc → Bool
  | some .bool => true
  | some (.int _) => true
  | some .string => true
  | some (.slice _) => true
  | _ => false

theorem ArgR.scalar {X : Type} {t : TypeId} {g : X → D} {ok : X → Prop} {bulk : X → Nat} (h : Reads enc P W Z B t (fun x => [g x]) ok bulk) (hs : scalarD (P.underlying t) = true) :
    ArgR enc P W Z B t (fun x => .c (.d (g x))) ok bulk := fun base v d p hv hd hN => by
  obtain ⟨n, hd⟩ := hd
  obtain ⟨x, h1, h2, h3⟩ := h n _ d p hd hN
  have hcs : v.cells = #[v] := by
    unfold Value.okWide Cell.okWide Cell.ok at hv
    cases hu : P.underlying t with
    | none => rw [hu] at hs; cases hs
    | some u =>
      rw [hu] at hs hv
      cases u <;> first | (cases v <;> first | rfl | exact hv.elim) | cases hs
  refine ⟨x, h1, h2, ?_⟩
  rw [hcs] at h3
  exact relAV_c h3.1 h3.1.one

def isAggD : Option TypeDesc → Bool
  | some (.struct _) => true
  | some (.array _ _) => true
  | _ => false

theorem ArgR.agg {X : Type} {t : TypeId} {e : X → List D} {ok : X → Prop} {bulk : X → Nat} (h : Reads enc P W Z B t e ok bulk) (hs : isAggD (P.underlying t) = true) :
    ArgR enc P W Z B t (fun x => .agg ((e x).map .d)) ok bulk := fun base v d p hv hd hN => by
  obtain ⟨n, hd⟩ := hd
  obtain ⟨x, h1, h2, h3⟩ := h n _ d p hd hN
  have hcs : ∃ cs, v = .agg cs := by
    unfold Value.okWide at hv
    cases hu : P.underlying t with
    | none => rw [hu] at hs; cases hs
    | some u =>
      rw [hu] at hs hv
      cases u <;> first | (exact ⟨_, hv.choose_spec.1⟩) | cases hs
  obtain ⟨cs, rfl⟩ := hcs
  obtain ⟨r1, r2⟩ := RelDs.cells (V := fun _ => False) (φ := fun _ => none) h3
  exact ⟨x, h1, h2, cs, rfl, r1, r2⟩

theorem ArgsR.nil : ArgsR enc P W Z B [] (fun _ : Unit => []) (fun _ => True) (fun _ => 0) := fun base vs ds p hv hd hN => by
  obtain ⟨rfl, rfl, rfl⟩ := trodAll_nil hd
  exact ⟨(), trivial, Nat.zero_le _, trivial, rfl⟩

theorem ArgsR.cons {X Y : Type} {t : TypeId} {ts : List TypeId} {av : X → AV} {ok : X → Prop} {bulk : X → Nat} {avs : Y → List AV} {ok' : Y → Prop} {bulk' : Y → Nat}
    (h : ArgR enc P W Z B t av ok bulk) (hr : ArgsR enc P W Z B ts avs ok' bulk') : ArgsR enc P W Z B (t :: ts) (fun z : X × Y => av z.1 :: avs z.2) (fun z => ok z.1 ∧ ok' z.2) (fun z => bulk z.1 + bulk' z.2) := fun base vs ds p hv hd hN => by
  obtain ⟨v, vs', d, ds', p1, q, rfl, rfl, rfl, h1, h2⟩ := trodAll_cons hd
  simp only [List.map_cons, List.sum_cons]
  obtain ⟨x, x1, x2, x3⟩ := h base v d p1 (hv 0 t v rfl rfl) h1 (hN 0 t d rfl rfl)
  obtain ⟨y, y1, y2, y3, y4⟩ := hr base vs' ds' q (fun j t' v' ht hv' => hv (j + 1) t' v' (by simpa using ht) (by simpa using hv')) h2 fun i t' d' ht hd => hN (i + 1) t' d' (by simpa using ht) (by simpa using hd)
  exact ⟨(x, y), ⟨x1, y1⟩, by simp only; omega, ⟨x3, y3⟩, by simp [y4]⟩

theorem trodAll_below (hl : laidOutB P = true) : ∀ {ts : List TypeId} {vs : List Value} {ds : List (DataW H)} {ps : List MemPlace} {W' : World} {sp : Nat → Bool}, (∀ t ∈ ts, P.readableRec t = true ∧ t < P.types.size) →
    DataW.TrodAll enc P W 0 (fun _ => true) true ts vs ds ps → Below W.heap.size W W' → (∀ x ∈ ps, sp x.block = true) → DataW.TrodAll enc P W' 0 sp true ts vs ds ps
  | [], [], [], _, _, _, _, h, _, _ => h
  | t :: ts, v :: vs, d :: ds, _, W', sp, ht, ⟨p, q, h1, h2, e⟩, hb, hs => by
    subst e
    have hlt : ∀ x ∈ p, x.block < W.heap.size := by obtain ⟨n, hn⟩ := h1; exact DataW.trod_lt n _ _ _ hn
    refine ⟨p, q, ?_, trodAll_below hl (fun t h => ht t (List.mem_cons_of_mem _ h)) h2 hb fun x hx => hs x (List.mem_append_right _ hx), rfl⟩
    exact WideElems.Trod_stays hl (ht t (List.mem_cons_self ..)).1 (ht t (List.mem_cons_self ..)).2 h1 (fun x hx => hb.same (hlt x hx)) fun x hx => hs x (List.mem_append_left _ hx)
  | [], _ :: _, _, _, _, _, _, h, _, _ => by simp [DataW.TrodAll] at h
  | _ :: _, [], _, _, _, _, _, h, _, _ => by simp [DataW.TrodAll] at h
  | [], [], _ :: _, _, _, _, _, h, _, _ => by simp [DataW.TrodAll] at h
  | _ :: _, _ :: _, [], _, _, _, _, h, _, _ => by simp [DataW.TrodAll] at h

theorem Summ.calls {f : FuncId} {fn : Func} {c : Code} {args : List AV} {res : AV} (hf : P.funcs[f]? = some fn) (hb : fn.body = some c) (hn : (fn.name == "runtime.NumGoroutine") = false) (hS : Summ P f args [] res []) {vs : Array Value}
    (hr : RelAVs (RelC (allG W) (fun _ => False) (fun _ => none) W) args vs.toList) :
    Calls P f vs W fun e W' => ∃ v, e = .returned v ∧ Below W.heap.size W W' ∧ ∃ G φ, RelAV (RelC G (fun _ => False) φ W') res v := by
  have hb0 : ∀ b, ¬ Blks (fun _ => none) [] b := fun b ⟨k, c, l, hk, _⟩ => by cases hk
  have hr' : RelAVs (RelC (allG W) (fun b => b < W.heap.size ∧ ¬ Blks (fun _ => none) [] b) (fun _ => none) W) args vs.toList := by
    have key : ∀ (xs : List AV) (us : List Value), RelAVs (RelC (allG W) (fun _ => False) (fun _ => none) W) xs us → RelAVs (RelC (allG W) (fun b => b < W.heap.size ∧ ¬ Blks (fun _ => none) [] b) (fun _ => none) W) xs us := by
      intro xs
      induction xs with
      | nil => intro us h; cases us <;> exact h
      | cons x xs ih =>
        intro us h
        cases us with
        | nil => exact h
        | cons u us =>
          refine ⟨h.1.mono fun c _ v hc => ?_, ih us h.2⟩
          cases c <;> first
            | exact hc
            | (rcases hc with hc | ⟨b, off, cap, hb, r⟩
               · exact .inl hc
               · exact .inr ⟨b, off, cap, hb.imp id fun x => x.elim, r⟩)
            | (obtain ⟨b, off, hb, r⟩ := hc; exact ⟨b, off, hb.imp id fun x => x.elim, r⟩)
    exact key _ _ hr
  have h := hS (allG W) (fun _ => none) W vs.toList (fun b hb => hb) ⟨fun k c hk => (by cases hk), fun k k' c c' l l' hk => (by cases hk), fun k c l hk => (by cases hk)⟩ hr'
  unfold Acts at h
  have hcall : (callFunc f vs).run P W = .ok (.enter f vs) W := by
    simp only [callFunc, Sem.run_bind]
    show Sem.run P (match P.funcs[f]? with | none => _ | some fn => _) W = _
    rw [hf]
    simp [hn, hb]
  rw [show vs.toList.toArray = vs by simp, hcall] at h
  refine h.mono fun e W' ⟨v, G, φ, he, hd⟩ => ⟨v, he, ?_, G, φ, hd.rel⟩
  exact ⟨hd.kp.os, hd.kp.tape, hd.kp.output, hd.kp.size, fun k hk => hd.kp.block k hk (hb0 _)⟩

theorem law_contract {Y : Type} {f : FuncId} {fn : Func} {c : Code} {s : ChangeSpec} {ts : List TypeId} {tb : TypeId} {avs : Y → List AV} {ok : Y → Prop} {bulk : Y → Nat} {N : Nat}
    (hf : P.funcs[f]? = some fn) (hb : fn.body = some c) (hn : (fn.name == "runtime.NumGoroutine") = false) (hts : fn.params.toList = ts) (hrt : fn.resultTypes = #[tb]) (htb : P.underlying tb = some .bool)
    (hv : s.vars = []) (hfn : ∀ ds : List (DataW H), ds.length = ts.length → s.fn H ds = { results := [.lit (.bool true)], args := ds }) (hl : laidOutB P = true)
    (hrd : (ts.all fun t => P.readableRec t && decide (t < P.types.size)) = true)
    (hR : ∀ W, ArgsR enc P W Z B ts avs ok bulk) (hS : ∀ z, ok z → bulk z ≤ (N : Nat) → Summ P f (avs z) [] (.c (.d (.bool true))) [])
    (base : Nat) (args : Array Value) (ds gs : List (DataW H)) (before : List MemPlace)
    (hval : ∀ (j : Nat) t v, fn.params[j]? = some t → args[j]? = some v → Value.okWide P W .any base t v)
    (hW : DataW.Whole enc P fn.params.toList s.vars false W args.toList ds gs before) (hk : (ds.map B).sum ≤ N) (hZ : ∀ (i : Nat) t d, fn.params.toList[i]? = some t → ds[i]? = some d → Z t d) :
    Calls P f args W fun e W' => ∃ v, e = .returned v ∧ s.post enc P fn false true false false W args v W' := by
  have hW' := hW
  obtain ⟨p, q, hA, hV, rfl, hfz, hnd⟩ := hW
  rw [hv] at hV
  obtain ⟨rfl, rfl⟩ : gs = [] ∧ q = [] := by
    cases gs <;> simp [DataW.TrodVars] at hV
    exact ⟨rfl, hV⟩
  have hA' := hA
  rw [hts] at hA
  obtain ⟨z, z1, z2, z3, z4⟩ := hR W base args.toList ds p (fun j t v h1 h2 => hval j t v (by rw [← Array.getElem?_toList, hts]; exact h1) (by simpa using h2)) hA (by rw [hts] at hZ; exact hZ)
  have hcalls := Summ.calls hf hb hn (hS z z1 (Nat.le_trans z2 hk)) z3
  refine hcalls.mono fun e W' ⟨v, he, hbel, G, φ, hrel⟩ => ?_
  have hvb : v = .bool true := by
    have h : RelD G W' (.bool true) v := hrel.1
    cases h; rfl
  subst hvb
  have hds : s.fn H (ds ++ []) = { results := [.lit (.bool true)], args := ds } := by rw [List.append_nil]; exact hfn ds z4
  have hlt : ∀ x ∈ p, x.block < W.heap.size := fun x hx => hW'.lt x (by simpa using hx)
  refine ⟨_, he, ds, [], p ++ [], [], p, [], hW', ?_, ?_, ?_, hbel.frame _, fun h => by cases h⟩
  · rw [hds, hrt]
    exact trodAll_mk1 (shut_bool htb _)
  · rw [hds, hts]
    refine trodAll_below hl (fun t ht => ?_) hA hbel fun x hx => by simpa using hlt x hx
    have := List.all_eq_true.1 hrd t ht
    simpa using this
  · rw [hds, hv]; rfl

theorem fine_of_sized {ts ts' : List TypeId} {ds gs : List (DataW H)} (h : (DataW.weightsEach P (ts ++ ts') (ds ++ gs)).all (· ≤ reachBytes) = true) :
    ∀ (i : Nat) t d, ts[i]? = some t → ds[i]? = some d → ∀ n ∈ d.weights P t, n ≤ reachBytes := fun i t d ht hd n hn => by
  have h1 := (List.getElem?_eq_some_iff.1 ht).1
  have h2 := (List.getElem?_eq_some_iff.1 hd).1
  have := List.all_eq_true.1 h n (DataW.weights_mem_each (j := i) (by rw [List.getElem?_append_left h1]; exact ht) (by rw [List.getElem?_append_left h2]; exact hd) n hn)
  simpa using this

theorem fine_of_bulk {ts : List TypeId} {ds : List (DataW H)} {N : Nat} (hN : N ≤ maxN) (h : (ds.map B).sum ≤ N) : ∀ (i : Nat) (t : TypeId) d, ts[i]? = some t → ds[i]? = some d → B d ≤ maxN := fun i t d _ hd => by
  have := sum_mem (f := B) (List.mem_of_getElem? hd)
  omega

end
end Go.Av
