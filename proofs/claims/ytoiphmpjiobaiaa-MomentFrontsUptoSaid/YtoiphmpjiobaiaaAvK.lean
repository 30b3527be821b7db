/-
  Av, part K: less is known; what is one's own is handed over for good.
-/
import Derived.Test.YtoiphmpjiobaiaaAvJ
namespace Go.Av
open Go
set_option linter.unusedVariables false
set_option linter.unusedSimpArgs false

inductive CLe (s : St) (fz : List Nat) : C → C → Prop
  | refl (c : C) : CLe s fz c c
  | any (c : C) : CLe s fz c .any
  | zero (es : Nat) (get : Nat → List D) : CLe s fz .zero (.d (.list es 0 get))
  | zeroV (es : Nat) (get : Nat → List D) : CLe s fz .zero (.view es 0 get)
  | list {es n n' : Nat} {get get' : Nat → List D} (hn : n' = n) (h : ∀ i, i < n → get' i = get i) : CLe s fz (.d (.list es n get)) (.d (.list es n' get'))
  | listV {es n n' : Nat} {get get' : Nat → List D} (hn : n' = n) (h : ∀ i, i < n → get' i = get i) : CLe s fz (.d (.list es n get)) (.view es n' get')
  | view {es n n' : Nat} {get get' : Nat → List D} (hn : n' = n) (h : ∀ i, i < n → get' i = get i) : CLe s fz (.view es n get) (.view es n' get')
  | own {k es off m m' n : Nat} {get get' : Nat → List D} (hk : look s.sl k = some (.vec es n get)) (hf : k ∈ fz) (hm : off + m ≤ n) (hm' : m' = m)
      (h : ∀ i, i < m → get' i = get (off + i)) : CLe s fz (.own k es off m) (.d (.list es m' get'))
  | cptrE (cells : List D) : CLe s fz (.d (.cptr cells)) (.eptr cells)
  | box {k o : Nat} {ds : List D} (hk : look s.sl k = some (.box (ds.map .d))) (hf : k ∈ fz) : CLe s fz (.ptr k o) (.d (.cptr (ds.drop o)))

inductive CsLe (s : St) (fz : List Nat) : List C → List C → Prop
  | refl (cs : List C) : CsLe s fz cs cs
  | nil : CsLe s fz [] []
  | cons {c c' : C} {cs cs' : List C} (h : CLe s fz c c') (t : CsLe s fz cs cs') : CsLe s fz (c :: cs) (c' :: cs')

inductive SsLe (s : St) (fz : List Nat) : List (Bool × List C) → List (Bool × List C) → Prop
  | nil : SsLe s fz [] []
  | cons {b : Bool} {cs cs' : List C} {r r' : List (Bool × List C)} (h : CsLe s fz cs cs') (t : SsLe s fz r r') : SsLe s fz ((b, cs) :: r) ((b, cs') :: r')

inductive AVLe (s : St) (fz : List Nat) : AV → AV → Prop
  | refl (x : AV) : AVLe s fz x x
  | none (x : AV) : AVLe s fz x (.c .any)
  | c {x y : C} (h : CLe s fz x y) : AVLe s fz (.c x) (.c y)
  | agg {xs ys : List C} (h : CsLe s fz xs ys) : AVLe s fz (.agg xs) (.agg ys)
  | tup {xs ys : List (Bool × List C)} (h : SsLe s fz xs ys) : AVLe s fz (.tup xs) (.tup ys)

inductive SlotLe (s : St) (fz : List Nat) : Slot → Slot → Prop
  | refl (c : Slot) : SlotLe s fz c c
  | box {xs ys : List C} (h : CsLe s fz xs ys) : SlotLe s fz (.box xs) (.box ys)
  | vec {es n n' : Nat} {get get' : Nat → List D} (hn : n' = n) (h : ∀ i, i < n → get' i = get i) : SlotLe s fz (.vec es n get) (.vec es n' get')
  | take {es n n' : Nat} {get get' : Nat → List D} (hn : n' ≤ n) (h : ∀ i, i < n' → get' i = get i) : SlotLe s fz (.vec es n get) (.vec es n' get')

def LeT (s : St) (fz : List Nat) : List (Nat × AV) → Prop
  | [] => True
  | (t, x') :: r => (∃ x, look s.tm t = some x ∧ AVLe s fz x x') ∧ LeT s fz r

def LeS (s : St) (fz : List Nat) : List (Nat × Slot) → Prop
  | [] => True
  | (k, c') :: r => (∃ c, look s.sl k = some c ∧ SlotLe s fz c c' ∧ k ∉ fz) ∧ LeS s fz r

theorem LeT.look {s : St} {fz : List Nat} : ∀ {l : List (Nat × AV)}, LeT s fz l → ∀ t x', look l t = some x' → ∃ x, Av.look s.tm t = some x ∧ AVLe s fz x x'
  | [], _, t, x', h => by cases h
  | (t0, x0) :: r, ⟨h1, h2⟩, t, x', h => by
    rw [look_cons] at h
    split at h
    · rename_i e; subst e; cases h; exact h1
    · exact LeT.look h2 t x' h

theorem LeS.look {s : St} {fz : List Nat} : ∀ {l : List (Nat × Slot)}, LeS s fz l → ∀ k c', look l k = some c' → ∃ c, Av.look s.sl k = some c ∧ SlotLe s fz c c' ∧ k ∉ fz
  | [], _, t, x', h => by cases h
  | (t0, x0) :: r, ⟨h1, h2⟩, t, x', h => by
    rw [look_cons] at h
    split at h
    · rename_i e; subst e; cases h; exact h1
    · exact LeS.look h2 t x' h

section
variable {E : Env} {s : St} {G : Nat → Prop} {φ : Nat → Option Loc} {a : Act} {w : World}

def withF (s : St) (φ : Nat → Option Loc) (fz : List Nat) (G : Nat → Prop) : Nat → Prop :=
  fun b => G b ∨ ∃ k c l, k ∈ fz ∧ look s.sl k = some c ∧ φ k = some l ∧ b = l.blk

theorem list_conv {G V : Nat → Prop} {es n n' : Nat} {get get' : Nat → List D} {v : Value} (hn : n' = n) (h : ∀ i, i < n → get' i = get i) (hv : RelC G V φ w (.view es n get) v) : RelC G V φ w (.view es n' get') v := by
  subst hn
  rcases hv with hv | ⟨b, off, cap, hb, hv, h1, h2, he⟩
  · exact .inl hv
  · exact .inr ⟨b, off, cap, hb, hv, h1, h2, fun i hi => by rw [h i hi]; exact he i hi⟩

theorem view_of_relD {V : Nat → Prop} {es n : Nat} {get : Nat → List D} {v : Value} (h : RelD G w (.list es n get) v) : RelC G V φ w (.view es n get) v := by
  rcases RelD.elems h with ⟨h0, h⟩ | ⟨b, off, cap, hb, h⟩
  · exact .inl ⟨h0, h⟩
  · exact .inr ⟨b, off, cap, .inl hb, h⟩

theorem CLe.rel (h : Sim E s G φ a w) {fz : List Nat} {c c' : C} (hc : CLe s fz c c') {v : Value} (hv : RelC G E.V φ w c v) : RelC (withF s φ fz G) E.V φ w c' v := by
  have up : ∀ c, RelC G E.V φ w c v → RelC (withF s φ fz G) E.V φ w c v := fun c hv => hv.mono (Same.refl _ _) (Same.refl _ _) (fun _ hb => .inl hb) fun _ _ => rfl
  cases hc with
  | refl => exact up _ hv
  | any => trivial
  | zero es get => obtain ⟨A, rfl⟩ := hv; exact RelD.empty _ _ _ _
  | zeroV es get => obtain ⟨A, rfl⟩ := hv; exact .inl ⟨rfl, _, _, rfl⟩
  | list hn hg => subst hn; exact RelD.list_congr (up _ hv) hg
  | listV hn hg => exact list_conv hn hg (up _ (view_of_relD (φ := φ) hv))
  | view hn hg => exact list_conv hn hg (up _ hv)
  | own hk hf hm hm' hg =>
    subst hm'
    rcases hv with ⟨h0, A, rfl⟩ | ⟨l, hl, hle, rfl⟩
    · subst h0; exact RelD.empty _ _ _ _
    · obtain ⟨hmx, hs | ⟨l', hl', hn, _, he⟩⟩ := h.sl _ _ hk
      · rw [hl] at hs; cases hs.1
      · rw [hl] at hl'; cases hl'
        refine RelD.list_congr (ElemsAt.relD (.inr ⟨_, _, l, hf, hk, hl, rfl⟩) (by omega) (by omega) ?_) hg
        exact (he.part (l := _) (m := _) hm).mono (Same.refl _ _) (fun _ hb => .inl hb) rfl
  | cptrE cells =>
    have hv : RelD G w (.cptr cells) v := hv
    cases hv with
    | cptr _ b off vals hG hc hr => exact ⟨b, off, .inl (.inl hG), rfl, fun j hj => ⟨vals j, hc j hj, (hr j hj).mono (Same.refl _ _) fun _ hb => .inl hb⟩⟩
  | @box k o ds hk hf =>
    obtain ⟨l, hl, rfl⟩ := hv
    obtain ⟨l', hl', _, vs, h1, h2, h3⟩ := h.sl _ _ hk
    rw [hl] at hl'; cases hl'
    have hlen := h1.length
    simp only [List.length_map] at hlen
    refine RelD.cptr (ds.drop o) l.blk (l.off + o) (fun j => vs.getD (o + j) undef) (.inr ⟨_, _, l, hf, hk, hl, rfl⟩) (fun j hj => ?_) (fun j hj => ?_)
    · simp only [List.length_drop] at hj
      have : vs[o + j]? = some (vs.getD (o + j) undef) := by rw [List.getD_eq_getElem?_getD, List.getElem?_eq_getElem (by omega)]; rfl
      rw [Nat.add_assoc]
      exact h3 (o + j) _ this
    · simp only [List.length_drop] at hj
      obtain ⟨u, hu, hr⟩ := h1.get (o + j) (.d (D.at (ds.drop o) j)) (by
        rw [List.getElem?_map, List.getElem?_eq_getElem (by omega)]
        simp [D.at, List.getD_eq_getElem?_getD, List.getElem?_eq_getElem (show o + j < ds.length by omega)])
      have : vs.getD (o + j) undef = u := by rw [List.getD_eq_getElem?_getD, hu]; rfl
      rw [this]
      exact RelD.mono (Same.refl _ _) (fun _ hb => .inl hb) hr

theorem CsLe.rel (h : Sim E s G φ a w) {fz : List Nat} {cs cs' : List C} (hc : CsLe s fz cs cs') : ∀ {vs : List Value}, RelCs (RelC G E.V φ w) cs vs → RelCs (RelC (withF s φ fz G) E.V φ w) cs' vs := by
  induction hc with
  | refl cs => intro vs hv; exact hv.mono fun c _ v hc => CLe.rel h (.refl c) hc
  | nil => intro vs hv; cases vs with | nil => trivial | cons _ _ => exact hv.elim
  | cons hc _ ih =>
    intro vs hv
    cases vs with
    | nil => exact hv.elim
    | cons v vs => exact ⟨CLe.rel h hc hv.1, ih hv.2⟩

theorem CsLe.one {fz : List Nat} {c : C} {cs' : List C} (hc : CsLe s fz [c] cs') : ∃ c', cs' = [c'] ∧ CLe s fz c c' := by
  cases hc with
  | refl => exact ⟨c, rfl, .refl c⟩
  | cons h t =>
    cases t with
    | refl => exact ⟨_, rfl, h⟩
    | nil => exact ⟨_, rfl, h⟩

theorem SsLe.rel (h : Sim E s G φ a w) {fz : List Nat} {xs xs' : List (Bool × List C)} (hc : SsLe s fz xs xs') : ∀ {vs : List Value}, RelSs (RelC G E.V φ w) xs vs → RelSs (RelC (withF s φ fz G) E.V φ w) xs' vs := by
  induction hc with
  | nil => intro vs hv; cases vs with | nil => trivial | cons _ _ => exact hv.elim
  | @cons b cs cs' r r' hc _ ih =>
    intro vs hv
    cases vs with
    | nil => exact hv.elim
    | cons v vs =>
      refine ⟨?_, ih hv.2⟩
      cases b with
      | true => obtain ⟨us, e, h1, h2⟩ := hv.1; exact ⟨us, e, hc.rel h h1, h2⟩
      | false =>
        have h1 := hv.1
        match cs, h1, hc with
        | [c], h1, hc =>
          obtain ⟨c', rfl, hc'⟩ := hc.one
          exact ⟨CLe.rel h hc' h1.1, h1.2⟩
        | [], h1, _ => exact h1.elim
        | _ :: _ :: _, h1, _ => exact h1.elim

theorem AVLe.rel (h : Sim E s G φ a w) {fz : List Nat} {x x' : AV} (hx : AVLe s fz x x') {v : Value} (hv : RAV E G φ w x v) : RelAV (RelC (withF s φ fz G) E.V φ w) x' v := by
  cases hx with
  | refl => exact hv.mono fun c _ v hc => CLe.rel h (.refl c) hc
  | none => trivial
  | @c p q hc =>
    by_cases e : p = .any
    · subst e
      cases hc <;> trivial
    · obtain ⟨h1, h2⟩ := relAV_ptr hv e
      exact relAV_c (hc.rel h h1) h2
  | agg hc => obtain ⟨us, e, h1, h2⟩ := hv; exact ⟨us, e, hc.rel h h1, h2⟩
  | tup hc => obtain ⟨us, e, h1⟩ := hv; exact ⟨us, e, hc.rel h h1⟩

theorem withF_lt (h : Sim E s G φ a w) {fz : List Nat} {b : Nat} (hb : withF s φ fz G b) : b < w.heap.size := by
  rcases hb with hb | ⟨k, c, l, _, hk, hl, rfl⟩
  · exact h.gsz b hb
  · exact (h.own k c l hk hl).2.2.1

theorem Sim.le (h : Sim E s G φ a w) {fz : List Nat} (hfz : ∀ k ∈ fz, k ∉ E.lk) {s' : St} (ht : LeT s fz s'.tm) (hs : LeS s fz s'.sl) : Sim E s' (withF s φ fz G) φ a w :=
  { h with
    tm := fun t x' hx => by
      obtain ⟨x, hx, hl⟩ := ht.look t x' hx
      obtain ⟨v, hv, hr⟩ := h.tm t x hx
      exact ⟨v, hv, hl.rel h hr⟩
    sl := fun k c' hc' => by
      obtain ⟨c, hc, hl, _⟩ := hs.look k c' hc'
      have up := (h.sl k c hc).mono (G' := withF s φ fz G) (φ' := φ) (w' := w) (Same.refl _ _) (Same.refl _ _) (fun _ hb => .inl hb) rfl (fun _ _ => rfl) fun _ _ => rfl
      cases hl with
      | refl => exact up
      | box hcs =>
        obtain ⟨l, hl, ht, vs, h1, h2, h3⟩ := h.sl _ _ hc
        have := hcs.rel h h1
        refine ⟨l, hl, ?_, vs, this, h2, h3⟩
        rw [this.length, ← h1.length]; exact ht
      | vec hn hg =>
        subst hn
        refine ⟨up.1, up.2.imp id fun ⟨l, hl, hn, ht, he⟩ => ⟨l, hl, hn, ht, fun i hi => by rw [hg i hi]; exact he i hi⟩⟩
      | take hn hg =>
        exact ⟨Nat.le_trans hn up.1, up.2.imp (fun h => ⟨h.1, by omega⟩) fun ⟨l, hl, hn', ht, he⟩ => ⟨l, hl, Nat.le_trans hn hn', ht, fun i hi => by rw [hg i hi]; exact he i (by omega)⟩⟩
    inj := fun k k' c c' l l' h1 h2 => by
      obtain ⟨_, h1, _⟩ := hs.look _ _ h1
      obtain ⟨_, h2, _⟩ := hs.look _ _ h2
      exact h.inj _ _ _ _ _ _ h1 h2
    own := fun k c l h1 h2 => by
      obtain ⟨c0, h1, _, hnf⟩ := hs.look _ _ h1
      obtain ⟨o1, o2, o3, o4⟩ := h.own k c0 l h1 h2
      refine ⟨?_, o2, o3, o4⟩
      rintro (hg | ⟨k', c', l', hf, hk', hl', e⟩)
      · exact o1 hg
      · have := h.inj _ _ _ _ _ _ h1 hk' h2 hl' e
        subst this
        exact hnf hf
    gsz := fun b hb => withF_lt h hb
    g0 := fun b hb => .inl (h.g0 b hb)
    gf := fun b hb => by
      rcases hb with hb | ⟨k, c, l, hf, hk, hl, rfl⟩
      · exact h.gf b hb
      · rcases (h.own k c l hk hl).2.2.2 with h1 | ⟨h1, _⟩
        · exact .inr h1
        · exact absurd h1 (hfz k hf)
    fix := fun k c' hx h1 => by
      obtain ⟨_, h1, _⟩ := hs.look _ _ h1
      exact h.fix _ _ hx h1 }

theorem SimE.le (h : SimE E s a w) (fz : List Nat) (hfz : ∀ k ∈ fz, k ∉ E.lk) {s' : St} (ht : LeT s fz s'.tm) (hs : LeS s fz s'.sl) : SimE E s' a w := by
  obtain ⟨G, φ, h⟩ := h
  exact ⟨_, φ, h.le hfz ht hs⟩

theorem Tri.le {post : Exit → St → Prop} {c : Code} (fz : List Nat) (hfz : ∀ k ∈ fz, k ∉ E.lk) (s' : St) (ht : LeT s fz s'.tm) (hs : LeS s fz s'.sl) (h : Tri E c s' post) : Tri E c s post :=
  Tri.weaken (fun _ _ h => h.le fz hfz ht hs) h

theorem Ops.le {ops : Array Oper} {l : List Oper} {K : St → Prop} (fz : List Nat) (hfz : ∀ k ∈ fz, k ∉ E.lk) (s' : St) (ht : LeT s fz s'.tm) (hs : LeS s fz s'.sl) (h : Ops E ops l s' K) : Ops E ops l s K :=
  fun a w hs' Q hQ => h a w (hs'.le fz hfz ht hs) Q hQ

end
end Go.Av
