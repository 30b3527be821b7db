/-
  Av, part J: lists of operations, regions, triples.
-/
import Derived.Test.YtoiphmpjiobaiaaAvI
namespace Go.Av
open Go
set_option linter.unusedVariables false
set_option linter.unusedSimpArgs false

section
variable {E : Env} {s : St} {G : Nat → Prop} {φ : Nat → Option Loc} {a : Act} {w : World}

theorem wantedB_spec (h : Sim E s G φ a w) {ops : Array Oper} {o : Oper} {b : Bool} (hb : wantedB ops s o = some b) : Region.wanted o (yielded ops a.tmps) = b := by
  unfold wantedB at hb
  unfold Region.wanted
  cases hg : o.guard with
  | none => rw [hg] at hb; cases hb; rfl
  | some g =>
    obtain ⟨j, want⟩ := g
    rw [hg] at hb
    simp only at hb ⊢
    split at hb
    · rename_i oj hj
      split at hb
      · rename_i d hd
        split at hb
        · rename_i x hx
          cases hb
          obtain ⟨v, hv, hr⟩ := h.tm _ _ hx
          have := rel_bool hr
          subst this
          simp only [yielded, hj, Option.bind_some, hd, hv]
          cases x <;> cases want <;> rfl
        · rename_i xs hx
          cases hb
          obtain ⟨v, hv, hr⟩ := h.tm _ _ hx
          obtain ⟨vs, rfl, _⟩ := hr
          simp only [yielded, hj, Option.bind_some, hd, hv]
          cases want <;> rfl
        · cases hb
      · cases hb
    · cases hb

theorem upon_comes {o : Oper} {s' : St} {r : Result Next} {next : Act → World → Prop} {Q : Exit → Act → World → Prop} (h : Av.Comes E s' G a o.dst r) (hn : ∀ a' w', SimE E s' a' w' → next a' w') :
    o.upon E.P a next Q r := by
  match r, h with
  | .ok (.value v) w', h => obtain ⟨φ', h⟩ := h; exact hn _ _ ⟨G, φ', h⟩
  | .ok .skip w', h => obtain ⟨φ', h⟩ := h; exact hn _ _ ⟨G, φ', h⟩

theorem evalOps_sound {ops : Array Oper} : ∀ (l : List Oper) {s s' : St} {c : Prop} {a : Act} {w : World}, evalOps E.P E.N ops l s = some (s', c) → c → SimE E s a w →
    ∀ (Q : Exit → Act → World → Prop) (rest : List Oper), (∀ a' w', SimE E s' a' w' → wpList E.P ops Q rest a' w') → wpList E.P ops Q (l ++ rest) a w
  | [], s, s', c, a, w, he, _, h, Q, rest, hk => by cases he; exact hk a w h
  | o :: l, s, s', c, a, w, he, hc, h, Q, rest, hk => by
    obtain ⟨G, φ, h⟩ := h
    simp only [evalOps] at he
    split at he
    · rename_i hw
      have hw := wantedB_spec h hw
      split at he
      · rename_i st hst
        split at he
        · rename_i hok
          split at he
          · rename_i s2 c2 he2
            cases he
            have := h.step hst hc.1 hok
            show wpList E.P ops Q (o :: (l ++ rest)) a w
            unfold wpList
            rw [if_pos hw]
            exact .inl (upon_comes this fun a' w' h' => evalOps_sound l he2 hc.2 h' Q rest hk)
          · cases he
        · cases he
      · cases he
    · rename_i hw
      have hw := wantedB_spec h hw
      show wpList E.P ops Q (o :: (l ++ rest)) a w
      unfold wpList
      rw [if_neg (by rw [hw]; simp)]
      split at he
      · rename_i d hd
        split at he
        · rename_i hlt
          rw [hd]
          exact evalOps_sound l he hc ⟨G, φ, h.put (x := .tup []) (v := undef) (Nat.blt_eq.mp hlt) ⟨#[], rfl, trivial⟩⟩ Q rest hk
        · cases he
      · rename_i hd
        rw [hd]
        exact evalOps_sound l he hc ⟨G, φ, h⟩ Q rest hk
    · cases he

def pickK {α : Type} (l : List (Nat × α)) : List Nat → Option (List (Nat × α))
  | [] => some []
  | k :: ks => match look l k with
    | some x => match pickK l ks with
      | some r => some ((k, x) :: r)
      | none => none
    | none => none

theorem pickK_look {α : Type} {l r : List (Nat × α)} : ∀ {ks : List Nat}, pickK l ks = some r → ∀ t x, look r t = some x → look l t = some x := by
  intro ks
  induction ks generalizing r with
  | nil => intro h t x hx; cases h; cases hx
  | cons k ks ih =>
    intro h t x hx
    simp only [pickK] at h
    split at h
    · rename_i y hy
      split at h
      · rename_i r' hr'
        cases h
        rw [look_cons] at hx
        split at hx
        · rename_i e; subst e; cases hx; exact hy
        · exact ih hr' t x hx
      · cases h
    · cases h

def keep (tk sk : List Nat) (s : St) : Option St :=
  match pickK s.tm tk with
  | some tm => match pickK s.sl sk with
    | some sl => some ⟨tm, sl⟩
    | none => none
  | none => none

theorem SimE.weaken (h : SimE E s a w) {s' : St} (ht : ∀ t x, look s'.tm t = some x → look s.tm t = some x) (hs : ∀ k c, look s'.sl k = some c → look s.sl k = some c) : SimE E s' a w := by
  obtain ⟨G, φ, h⟩ := h
  exact ⟨G, φ, h.weaken ht hs⟩

theorem keep_sim {tk sk : List Nat} {s' : St} (hk : keep tk sk s = some s') (h : SimE E s a w) : SimE E s' a w := by
  unfold keep at hk
  split at hk
  · rename_i tm h1
    split at hk
    · rename_i sl h2
      cases hk
      exact h.weaken (pickK_look h1) (pickK_look h2)
    · cases hk
  · cases hk

def evalSeg (P : Program) (N : Nat) (ops : Array Oper) (l : List Oper) (tk sk : List Nat) (s : St) : Option (St × Prop) :=
  match evalOps P N ops l s with
  | some (s', c) => match keep tk sk s' with
    | some s'' => some (s'', c)
    | none => none
  | none => none

def Ops (E : Env) (ops : Array Oper) (l : List Oper) (s : St) (K : St → Prop) : Prop :=
  ∀ a w, SimE E s a w → ∀ (Q : Exit → Act → World → Prop), (∀ s' a' w', K s' → SimE E s' a' w' → Q .normal a' w') → wpList E.P ops Q l a w

theorem Ops.nil {ops : Array Oper} {K : St → Prop} (h : K s) : Ops E ops [] s K := fun a w hs _ hQ => hQ s a w h hs

theorem Ops.seg {ops : Array Oper} {l rest : List Oper} {tk sk : List Nat} {s' : St} {c : Prop} {K : St → Prop} (he : evalSeg E.P E.N ops l tk sk s = some (s', c)) (hc : c)
    (h : Ops E ops rest s' K) : Ops E ops (l ++ rest) s K := fun a w hs Q hQ => by
  unfold evalSeg at he
  split at he
  · rename_i s1 c1 h1
    split at he
    · rename_i s2 h2
      cases he
      exact evalOps_sound l h1 hc hs Q rest fun a' w' hs' => h a' w' (keep_sim h2 hs') Q hQ
    · cases he
  · cases he

theorem Ops.weaken {ops : Array Oper} {l : List Oper} {K K' : St → Prop} (h : Ops E ops l s K) (hk : ∀ s, K s → K' s) : Ops E ops l s K' :=
  fun a w hs Q hQ => h a w hs Q fun s' a' w' k => hQ s' a' w' (hk s' k)


def Tri (E : Env) (c : Code) (s : St) (post : Exit → St → Prop) : Prop :=
  ∀ a w, SimE E s a w → c.wp E.P (fun e a' w' => ∃ s', post e s' ∧ SimE E s' a' w') a w

def thenT (K : St → Prop) (post : Exit → St → Prop) : Exit → St → Prop
  | .normal, s => K s
  | e, s => post e s

def inB (id : Nat) (post : Exit → St → Prop) : Exit → St → Prop
  | .exit id', s => if id' = id then post .normal s else post (.exit id') s
  | e, s => post e s

theorem Tri.skip {post : Exit → St → Prop} (h : post .normal s) : Tri E .skip s post := fun _ _ hs => wp_skip ⟨s, h, hs⟩
theorem Tri.ret {post : Exit → St → Prop} (h : post .ret s) : Tri E .ret s post := fun _ _ hs => wp_ret ⟨s, h, hs⟩
theorem Tri.exit {post : Exit → St → Prop} {id : Nat} (h : post (.exit id) s) : Tri E (.exit id) s post := fun _ _ hs => wp_exit ⟨s, h, hs⟩

theorem Tri.mono {post post' : Exit → St → Prop} {c : Code} (h : Tri E c s post) (hp : ∀ e s, post e s → post' e s) : Tri E c s post' :=
  fun a w hs => wp_mono (h a w hs) fun e _ _ ⟨s', p, h'⟩ => ⟨s', hp e s' p, h'⟩

theorem Tri.seq {post : Exit → St → Prop} {x y : Code} (h : Tri E x s (thenT (fun s' => Tri E y s' post) post)) : Tri E (.seq x y) s post := fun a w hs =>
  wp_seq (wp_mono (h a w hs) fun e a' w' ⟨s', p, h'⟩ => by
    cases e with
    | normal => exact p a' w' h'
    | _ => exact ⟨s', p, h'⟩)

theorem Tri.block {post : Exit → St → Prop} {id : Nat} {c : Code} (h : Tri E c s (inB id post)) : Tri E (.block id c) s post := fun a w hs =>
  wp_block (wp_mono (h a w hs) fun e _ _ ⟨s', p, h'⟩ => by
    cases e with
    | exit id' =>
      simp only [Exit.inBlock]
      by_cases e : id' = id
      · simp only [inB, if_pos e] at p; rw [if_pos e]; exact ⟨s', p, h'⟩
      · simp only [inB, if_neg e] at p; rw [if_neg e]; exact ⟨s', p, h'⟩
    | _ => exact ⟨s', p, h'⟩)

theorem Tri.cond {post : Exit → St → Prop} {c : Operand} {x y : Code} {b : Bool} (hb : evO s c = some (.c (.d (.bool b)))) (ht : b = true → Tri E x s post) (hf : b = false → Tri E y s post) :
    Tri E (.cond c x y) s post := fun a w hs => by
  have hv : a.eval c = .bool b := by obtain ⟨G, φ, h⟩ := hs; exact rel_bool (h.ev hb)
  exact wp_cond_split hv (fun e => ht e a w hs) fun e => hf e a w hs

theorem Tri.region {post : Exit → St → Prop} {id : Nat} {l : List Oper} (h : Ops E l.toArray l s (post .normal)) : Tri E (.region id l.toArray false) s post := fun a w hs =>
  wp_region_list (h a w hs _ fun s' _ _ k h' => ⟨s', k, h'⟩)

theorem Tri.weaken {post : Exit → St → Prop} {c : Code} {s' : St} (hs : ∀ a w, SimE E s a w → SimE E s' a w) (h : Tri E c s' post) : Tri E c s post := fun a w h' => h a w (hs a w h')

theorem rounds_mono {P : Program} {c : Code} {Q : Exit → Act → World → Prop} : ∀ (m n : Nat), m ≤ n → ∀ a w, Code.rounds P c Q m a w → Code.rounds P c Q n a w
  | 0, _, _, _, _, h => h.elim
  | m + 1, 0, h, _, _, _ => absurd h (by omega)
  | m + 1, n + 1, h, a, w, hr => wp_mono (show c.wp P (Exit.then (Code.rounds P c Q m) Q) a w from hr) fun e a₁ w₁ q => by
    cases e with
    | normal => exact rounds_mono m n (by omega) a₁ w₁ q
    | _ => exact q

theorem Tri.loop {post : Exit → St → Prop} {c : Code} (J : Nat → St → Prop) (round : ∀ n s, J n s → Tri E c s (thenT (fun s' => ∃ m, m < n ∧ J m s') post)) {n : Nat} (h0 : J n s) :
    Tri E (.loop c) s post := fun a w hs => by
  have key : ∀ n, ∀ s, J n s → ∀ a w, SimE E s a w → Code.rounds E.P c (fun e a' w' => ∃ s', post e s' ∧ SimE E s' a' w') (n + 1) a w := by
    intro n
    induction n using Nat.strongRecOn with
    | _ n ih =>
      intro s hJ a w hs
      refine wp_mono (round n s hJ a w hs) fun e a' w' ⟨s', p, h'⟩ => ?_
      cases e with
      | normal =>
        obtain ⟨m, hm, hJ'⟩ := p
        exact rounds_mono (m + 1) n (by omega) a' w' (ih m hm s' hJ' a' w' h')
      | _ => exact ⟨s', p, h'⟩
  exact wp_loop_rounds (n + 1) (key n s h0 a w hs)

end
end Go.Av
