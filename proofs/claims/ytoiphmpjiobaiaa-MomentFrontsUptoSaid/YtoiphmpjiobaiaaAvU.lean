/-
  Av, part U: from a function that may have no answer to a walk.
-/
import Derived.Test.YtoiphmpjiobaiaaAvT
namespace Go.Av
open Go
set_option linter.unusedVariables false
set_option linter.unusedSimpArgs false

inductive Ctl (S R : Type) where
  | next (s : S)
  | brk (s : S)
  | ret (r : R)

inductive Out (S R : Type) where
  | done (s : S)
  | ret (r : R)

section
variable {S R Q A : Type}

def rangeN (B : Nat → S → Option (Ctl S R)) : Nat → Nat → S → Option (Out S R)
  | 0, _, s => some (.done s)
  | k + 1, i, s => match B i s with
    | none => none
    | some (.next s') => rangeN B k (i + 1) s'
    | some (.brk s') => some (.done s')
    | some (.ret r) => some (.ret r)

def loopN (B : S → Option (Ctl S R)) : Nat → S → Option (Out S R)
  | 0, _ => none
  | k + 1, s => match B s with
    | none => none
    | some (.next s') => loopN B k s'
    | some (.brk s') => some (.done s')
    | some (.ret r) => some (.ret r)

def outK (o : Option (Out S R)) (kn : S → Option Q) (kr : R → Option Q) : Option Q :=
  match o with
  | none => none
  | some (.done s) => kn s
  | some (.ret r) => kr r

def need (c : Prop) [Decidable c] (k : Option Q) : Option Q := if c then k else none

def bf (b : Bool) (x y : Option Q) : Option Q := match b with | true => x | false => y

def jn (j : A → Option Q) (k : (A → Option Q) → Option Q) : Option Q := k j

theorem need_elim {c : Prop} [Decidable c] {k : Option Q} {q : Q} (h : need c k = some q) : c ∧ k = some q := by
  unfold need at h
  split at h
  · exact ⟨by assumption, h⟩
  · cases h

theorem bind_elim {o : Option A} {k : A → Option Q} {q : Q} (h : o.bind k = some q) : ∃ a, o = some a ∧ k a = some q := by
  cases o with
  | none => cases h
  | some a => exact ⟨a, rfl, h⟩

theorem bf_cases {b : Bool} {u v : Option Q} {q : Q} (h : bf b u v = some q) : (b = true ∧ u = some q) ∨ (b = false ∧ v = some q) := by
  cases b
  · exact .inr ⟨rfl, h⟩
  · exact .inl ⟨rfl, h⟩

theorem outK_elim {o : Option (Out S R)} {kn : S → Option Q} {kr : R → Option Q} {q : Q} (h : outK o kn kr = some q) :
    (∃ s, o = some (.done s) ∧ kn s = some q) ∨ ∃ r, o = some (.ret r) ∧ kr r = some q := by
  unfold outK at h
  split at h
  · cases h
  · exact .inl ⟨_, rfl, h⟩
  · exact .inr ⟨_, rfl, h⟩

end

section
variable {E : Env} {s : St} {S R Q A : Type} {post : Exit → St → Prop} {q : Q}

@[reducible] def thenJ (σ : A → St) (j : A → Option Q) (q : Q) (post : Exit → St → Prop) : Exit → St → Prop
  | .normal, s => ∃ a, j a = some q ∧ s = σ a
  | e, s => post e s

@[reducible] def thenS (E : Env) (y : Code) (post : Exit → St → Prop) : Exit → St → Prop
  | .normal, s => Tri E y s post
  | e, s => post e s

@[reducible] def inB' (id : Nat) (post : Exit → St → Prop) : Exit → St → Prop
  | .exit id', s => match Nat.beq id' id with | true => post .normal s | false => post (.exit id') s
  | e, s => post e s

theorem Tri.seqS {x y : Code} (h : Tri E x s (thenS E y post)) : Tri E (.seq x y) s post :=
  Tri.seq (h.mono fun e s hp => by cases e <;> exact hp)

theorem Tri.seqJ {x y : Code} (σ : A → St) {j : A → Option Q} {k : (A → Option Q) → Option Q} (h : jn j k = some q) (hy : ∀ a, j a = some q → Tri E y (σ a) post)
    (hx : ∀ j', k j' = some q → Tri E x s (thenJ σ j' q post)) : Tri E (.seq x y) s post :=
  Tri.seqS ((hx j h).mono fun e s hp => by
    cases e with
    | normal => obtain ⟨a, h1, rfl⟩ := hp; exact hy a h1
    | _ => exact hp)

theorem Tri.blockB {id : Nat} {c : Code} (h : Tri E c s (inB' id post)) : Tri E (.block id c) s post :=
  Tri.block (h.mono fun e s hp => by
    cases e with
    | exit id' =>
      show if id' = id then _ else _
      have hp : (match Nat.beq id' id with | true => post .normal s | false => post (.exit id') s) := hp
      cases hb : Nat.beq id' id with
      | true => rw [if_pos (Nat.eq_of_beq_eq_true hb)]; rw [hb] at hp; exact hp
      | false =>
        have : id' ≠ id := fun e => by rw [e] at hb; simp at hb
        rw [if_neg this]; rw [hb] at hp; exact hp
    | _ => exact hp)

theorem Tri.condP {c : Operand} {x y : Code} {b : Bool} {u v : Option Q} (hb : evO s c = some (.c (.d (.bool b)))) (h : bf b u v = some q) (ht : u = some q → Tri E x s post) (hf : v = some q → Tri E y s post) :
    Tri E (.cond c x y) s post :=
  Tri.cond hb (fun e => ht (by subst e; exact h)) fun e => hf (by subst e; exact h)

theorem Tri.keep (tk sk : List Nat) {s' : St} {c : Code} (hk : Av.keep tk sk s = some s') (h : Tri E c s' post) : Tri E c s post :=
  Tri.weaken (fun _ _ => keep_sim hk) h

def At (E : Env) (L : List Oper) (i : Nat) (s : St) (K : St → Prop) : Prop := Ops E L.toArray (L.drop i) s K

theorem Tri.reg {id : Nat} {L : List Oper} (h : At E L 0 s (post .normal)) : Tri E (.region id L.toArray false) s post := Tri.region h

variable {L : List Oper} {i : Nat} {K : St → Prop}

theorem At.done (hi : Nat.ble L.length i = true) (h : K s) : At E L i s K := by
  unfold At
  rw [List.drop_eq_nil_of_le (Nat.le_of_ble_eq_true hi)]
  exact Ops.nil h

theorem At.seg (n : Nat) (tk sk : List Nat) {s' : St} {c : Prop} (he : evalSeg E.P E.N L.toArray ((L.drop i).take n) tk sk s = some (s', c)) (hc : c) (h : At E L (i + n) s' K) : At E L i s K := by
  unfold At at h ⊢
  have := Ops.seg he hc h
  rwa [← List.drop_drop, List.take_append_drop] at this

theorem At.one {o : Oper} (ho : L[i]? = some o) {s' : St} (h1 : One E L.toArray o s s') (h : At E L (i + 1) s' K) : At E L i s K := by
  unfold At at h ⊢
  obtain ⟨hlt, he⟩ := List.getElem?_eq_some_iff.1 ho
  rw [List.drop_eq_getElem_cons hlt, he]
  exact Ops.one h1 h

theorem At.case (f : Bool → St) {b : Bool} {u v : Option Q} (h : bf b u v = some q) (ht : u = some q → At E L i (f true) K) (hf : v = some q → At E L i (f false) K) : At E L i (f b) K := by
  cases b
  · exact hf h
  · exact ht h

theorem At.keep (tk sk : List Nat) {s' : St} (hk : Av.keep tk sk s = some s') (h : At E L i s' K) : At E L i s K :=
  fun a w hs => h a w (keep_sim hk hs)

theorem At.call {o : Oper} {cl : Call} {f : FuncId} {caps : List D} {xs args : List AV} {res : AV} (ho : L[i]? = some o)
    (hop : o.op = .call cl) (hw : wantedB L.toArray s o = some true) (hd : dstOk E.N o.dst = true) (hc : calleeOf s cl = some (f, caps)) (hx : argsOf s cl caps = some xs)
    (hle : AVsArg s xs args) (hfl : allFlat args = true) (hsol : res.solid = true) (hS : Summ E.P f args [] res []) (h : At E L (i + 1) (putO s o.dst res) K) : At E L i s K :=
  At.one ho (One.call hop hw hd hc hx hle hfl hsol hS) h

theorem At.callP {o : Oper} {cl : Call} {f : FuncId} {caps : List D} {args : List AV} {res : AV} (hS : Summ E.P f args [] res []) (ho : L[i]? = some o)
    (hop : o.op = .call cl) (hw : wantedB L.toArray s o = some true) (hd : dstOk E.N o.dst = true) (hc : calleeOf s cl = some (f, caps)) (hx : argsOf s cl caps = some args)
    (hfl : allFlat args = true) (hsol : res.solid = true) (h : At E L (i + 1) (putO s o.dst res) K) : At E L i s K :=
  At.one ho (One.call hop hw hd hc hx (AVsArg.refl _ _) hfl hsol hS) h

theorem At.le (fz : List Nat) (hfz : ∀ k ∈ fz, k ∉ E.lk) (s' : St) (ht : LeT s fz s'.tm) (hs : LeS s fz s'.sl) (h : At E L i s' K) : At E L i s K :=
  Ops.le fz hfz s' ht hs h

theorem encs_getD {X : Type} [Inhabited X] (e : X → List D) (xs : List X) (i : Nat) (hi : i < xs.length) : e (xs.getD i default) = (xs.map e).getD (0 + i) [] := by
  rw [Nat.zero_add, List.getD_eq_getElem?_getD, List.getD_eq_getElem?_getD, List.getElem?_map, List.getElem?_eq_getElem hi]
  rfl

def encBool (b : Bool) : List D := [.bool b]
def encInt (k : IntKind) (n : Int) : List D := [.int k n]
def encStr (s : ByteArray) : List D := [.str s]
def bs (l : List Nat) : ByteArray := ⟨(l.map UInt8.ofNat).toArray⟩

theorem Tri.lenOf {t es n : Nat} {get : Nat → List D} {c : Code} (ht : look s.tm t = some (.c (.d (.list es n get)))) (h : n ≤ maxN → Tri E c s post) : Tri E c s post := fun a w hs => by
  obtain ⟨G, φ, hs'⟩ := hs
  obtain ⟨v, _, hr⟩ := hs'.tm t _ ht
  have hr : RelD G w (.list es n get) v := hr.1
  have hn : n ≤ maxN := by
    cases hr with
    | empty _ _ _ _ => exact Nat.zero_le _
    | list _ _ _ _ _ _ _ _ _ hm _ _ _ => exact hm
  exact h hn a w ⟨G, φ, hs'⟩

theorem Tri.lenOfV {t es n : Nat} {get : Nat → List D} {c : Code} (ht : look s.tm t = some (.c (.view es n get))) (h : n ≤ maxN → Tri E c s post) : Tri E c s post := fun a w hs => by
  obtain ⟨G, φ, hs'⟩ := hs
  obtain ⟨v, _, hr⟩ := hs'.tm t _ ht
  have hn : n ≤ maxN := by
    rcases hr.1 with ⟨h0, _⟩ | ⟨_, _, _, _, _, _, hm, _⟩
    · omega
    · exact hm
  exact h hn a w ⟨G, φ, hs'⟩

theorem Tri.lenOfO {t k es off n N : Nat} {get : Nat → List D} {c : Code} (ht : look s.tm t = some (.c (.own k es off n))) (hk : look s.sl k = some (.vec es N get)) (hn : n ≤ N) (h : n ≤ maxN → Tri E c s post) : Tri E c s post := fun a w hs => by
  obtain ⟨G, φ, hs'⟩ := hs
  obtain ⟨h1, _⟩ := hs'.sl k _ hk
  exact h (by omega) a w ⟨G, φ, hs'⟩


def idx (ti i : Nat) (s : St) : St := s.put ti (.c (.d (.int .i64 (i : Int))))

@[reducible] def bodyPost (cid b ti : Nat) (σ F : S → St) (RT : R → St → Prop) (i : Nat) : Ctl S R → Exit → St → Prop
  | .next st, .normal, s => s = idx ti i (σ st)
  | .next st, .exit id, s => id = cid ∧ s = idx ti i (σ st)
  | .brk st, .exit id, s => id = b ∧ s = F st
  | .ret x, .ret, s => RT x s
  | _, _, _ => False

@[reducible] def roundPost (b : Nat) (σ F : S → St) (RT : R → St → Prop) : Ctl S R → Exit → St → Prop
  | .next st, .normal, s => s = σ st
  | .brk st, .exit id, s => id = b ∧ s = F st
  | .ret x, .ret, s => RT x s
  | _, _, _ => False

@[reducible] def outPost (F : S → St) (RT : R → St → Prop) : Out S R → Exit → St → Prop
  | .done st, .normal, s => s = F st
  | .ret x, .ret, s => RT x s
  | _, _, _ => False

theorem Tri.loopG {b : Nat} {c : Code} {B : S → Option (Ctl S R)} (RT : R → St → Prop) (σ F : S → St) {fuel : Nat} {st0 : S} {o : Out S R} (h : loopN B fuel st0 = some o)
    (hround : ∀ st r, B st = some r → Tri E c (σ st) (roundPost b σ F RT r)) : Tri E (.block b (.loop c)) (σ st0) (outPost F RT o) := by
  refine Tri.block (Tri.loop (fun n s => ∃ st, s = σ st ∧ loopN B n st = some o) ?_ (n := fuel) ⟨st0, rfl, h⟩)
  rintro n s ⟨st, rfl, hn⟩
  cases n with
  | zero => cases hn
  | succ n =>
    simp only [loopN] at hn
    cases hB : B st with
    | none => rw [hB] at hn; cases hn
    | some r =>
      rw [hB] at hn
      refine (hround st r hB).mono fun e s' hp => ?_
      cases r with
      | next st' =>
        cases e with
        | normal => exact ⟨n, Nat.lt_succ_self _, st', hp, hn⟩
        | _ => exact hp.elim
      | brk st' =>
        cases hn
        cases e with
        | exit id =>
          obtain ⟨rfl, rfl⟩ := hp
          show inB id _ (.exit id) _
          simp [inB]
        | _ => exact hp.elim
      | ret x =>
        cases hn
        cases e with
        | ret => exact hp
        | _ => exact hp.elim

theorem Tri.rangeG {b : Nat} {c : Code} {B : Nat → S → Option (Ctl S R)} (RT : R → St → Prop) (σ : Nat → S → St) (F : S → St) {n : Nat} {st0 : S} {o : Out S R} (h : rangeN B n 0 st0 = some o)
    (hround : ∀ i st r, i < n → B i st = some r → Tri E c (σ i st) (match r with | .next st' => fun e s => e = .normal ∧ s = σ (i + 1) st' | .brk st' => fun e s => e = .exit b ∧ s = F st' | .ret x => fun e s => e = .ret ∧ RT x s))
    (hstop : ∀ st, Tri E c (σ n st) (fun e s => e = .exit b ∧ s = F st)) : Tri E (.block b (.loop c)) (σ 0 st0) (outPost F RT o) := by
  refine Tri.block (Tri.loop (fun m s => ∃ i st, m + i = n ∧ s = σ i st ∧ rangeN B m i st = some o) ?_ (n := n) ⟨0, st0, by omega, rfl, h⟩)
  rintro m s ⟨i, st, hm, rfl, hn⟩
  cases m with
  | zero =>
    cases hn
    have : i = n := by omega
    subst this
    refine (hstop st).mono fun e s' ⟨h1, h2⟩ => ?_
    subst h1 h2
    show inB b _ (.exit b) _
    simp [inB]
  | succ m =>
    simp only [rangeN] at hn
    cases hB : B i st with
    | none => rw [hB] at hn; cases hn
    | some r =>
      rw [hB] at hn
      refine (hround i st r (by omega) hB).mono fun e s' hp => ?_
      cases r with
      | next st' =>
        obtain ⟨rfl, rfl⟩ := hp
        exact ⟨m, Nat.lt_succ_self _, i + 1, st', by omega, rfl, hn⟩
      | brk st' =>
        cases hn
        obtain ⟨rfl, rfl⟩ := hp
        show inB b _ (.exit b) _
        simp [inB]
      | ret x =>
        cases hn
        obtain ⟨rfl, hp⟩ := hp
        exact hp

theorem Tri.loopK {b : Nat} {c : Code} {B : S → Option (Ctl S R)} {kn : S → Option Q} {kr : R → Option Q} {st0 : S} {fuel : Nat} (RT : R → St → Prop) (σ F : S → St)
    (h : outK (loopN B fuel st0) kn kr = some q) (hround : ∀ st r, B st = some r → Tri E c (σ st) (roundPost b σ F RT r))
    (hrest : ∀ st, kn st = some q → post .normal (F st)) (hret : ∀ x s', kr x = some q → RT x s' → post .ret s') : Tri E (.block b (.loop c)) (σ st0) post := by
  obtain ⟨s', ho, hk⟩ | ⟨x, ho, hk⟩ := outK_elim h
  · refine (Tri.loopG RT σ F ho hround).mono fun e s hp => ?_
    cases e with
    | normal => have hp : s = F s' := hp
                subst hp; exact hrest _ hk
    | _ => exact hp.elim
  · refine (Tri.loopG RT σ F ho hround).mono fun e s hp => ?_
    cases e with
    | ret => exact hret _ _ hk hp
    | _ => exact hp.elim

theorem wrap_succ {i : Nat} (h : i < maxN) : IntKind.i64.wrap ((i : Int) + 1) = ((i + 1 : Nat) : Int) := by
  unfold maxN at h
  rw [wrap_small (by omega) (by omega)]
  simp

theorem Tri.range {ti tc n b cid id1 id2 : Nat} {L1 L2 : List Oper} {body : Code} {B : Nat → S → Option (Ctl S R)} {kn : S → Option Q} {kr : R → Option Q} {st0 : S} (RT : R → St → Prop) (σ F : S → St) (bb : Nat → Bool)
    (tk sk tkF skF tk2 sk2 : List Nat) (h : outK (rangeN B n 0 st0) kn kr = some q) (hn : n ≤ maxN) (hbc : Nat.beq b cid = false)
    (h1 : ∀ i st, ∃ c, evalSeg E.P E.N L1.toArray L1 tk sk (idx ti i (σ st)) = some ((idx ti i (σ st)).put tc (.c (.d (.bool (bb i)))), c) ∧ c)
    (hbt : ∀ i, i < n → bb i = true) (hbf : bb n = false) (hF : ∀ st, Av.keep tkF skF ((idx ti n (σ st)).put tc (.c (.d (.bool false)))) = some (F st))
    (h2 : ∀ i st, ∃ c, evalSeg E.P E.N L2.toArray L2 tk2 sk2 (idx ti i (σ st)) = some ((σ st).put ti (.c (.d (.int .i64 (IntKind.i64.wrap ((i : Int) + 1))))), c) ∧ c)
    (hbody : ∀ i st c, i < n → B i st = some c → Tri E body ((idx ti i (σ st)).put tc (.c (.d (.bool true)))) (bodyPost cid b ti σ F RT i c))
    (hrest : ∀ st, kn st = some q → post .normal (F st)) (hret : ∀ x s', kr x = some q → RT x s' → post .ret s') :
    Tri E (.block b (.loop (.seq (.region id1 L1.toArray false) (.seq (.cond (.tmp tc) .skip (.exit b)) (.seq (.block cid body) (.region id2 L2.toArray false)))))) (idx ti 0 (σ st0)) post := by
  have hfirst : ∀ i st post', Tri E (.seq (.cond (.tmp tc) .skip (.exit b)) (.seq (.block cid body) (.region id2 L2.toArray false))) ((idx ti i (σ st)).put tc (.c (.d (.bool (bb i))))) post' →
      Tri E (.seq (.region id1 L1.toArray false) (.seq (.cond (.tmp tc) .skip (.exit b)) (.seq (.block cid body) (.region id2 L2.toArray false)))) (idx ti i (σ st)) post' := fun i st post' ht => by
    obtain ⟨c, e1, e2⟩ := h1 i st
    refine Tri.seqS (Tri.region ?_)
    have := Ops.seg (rest := []) e1 e2 (Ops.nil (K := (thenS E _ post') .normal) ht)
    simpa using this
  have hlook : ∀ i st (x : Bool), evO ((idx ti i (σ st)).put tc (.c (.d (.bool x)))) (.tmp tc) = some (.c (.d (.bool x))) := fun i st x => by
    simp [evO, St.put, look_cons]
  obtain ⟨s', ho, hk⟩ | ⟨x, ho, hk⟩ := outK_elim h
  all_goals
    refine (Tri.rangeG (E := E) (b := b) RT (fun i st => idx ti i (σ st)) F ho (fun i st r hi hB => hfirst i st _ ?_) (fun st => hfirst n st _ ?_)).mono fun e s' hp => ?_
  case inl.refine_1 | inr.refine_1 =>
    rw [hbt i hi]
    refine Tri.seqS (Tri.cond (hlook i st true) (fun _ => Tri.skip ?_) (fun e => by cases e))
    refine Tri.seqS (Tri.blockB ((hbody i st r hi hB).mono fun e s' hp => ?_))
    have fin : ∀ st', s' = idx ti i (σ st') → Tri E (.region id2 L2.toArray false) s' (fun e s => e = .normal ∧ s = idx ti (i + 1) (σ st')) := fun st' e => by
      subst e
      obtain ⟨c, e1, e2⟩ := h2 i st'
      refine Tri.region ?_
      have := Ops.seg (rest := []) e1 e2 (Ops.nil (K := fun s => Exit.normal = .normal ∧ s = idx ti (i + 1) (σ st')) ⟨rfl, by rw [wrap_succ (by omega)]; rfl⟩)
      simpa using this
    cases r with
    | next st' =>
      cases e with
      | normal => exact fin st' hp
      | exit id =>
        obtain ⟨rfl, hp⟩ := hp
        show (match Nat.beq id id with | true => _ | false => _)
        rw [Nat.beq_refl]
        exact fin st' hp
      | _ => exact hp.elim
    | brk st' =>
      cases e with
      | exit id =>
        obtain ⟨rfl, hp⟩ := hp
        show (match Nat.beq id cid with | true => _ | false => _)
        rw [hbc]
        exact ⟨rfl, hp⟩
      | _ => exact hp.elim
    | ret x =>
      cases e with
      | ret => exact ⟨rfl, hp⟩
      | _ => exact hp.elim
  case inl.refine_2 | inr.refine_2 =>
    rw [hbf]
    refine Tri.seqS (Tri.cond (hlook n st false) (fun e => by cases e) (fun _ => Tri.keep tkF skF (hF st) (Tri.exit ⟨rfl, rfl⟩)))
  case inl.refine_3 =>
    cases e with
    | normal => have hp : s' = F _ := hp
                subst hp; exact hrest _ hk
    | _ => exact hp.elim
  case inr.refine_3 =>
    cases e with
    | ret => exact hret _ _ hk hp
    | _ => exact hp.elim

end
end Go.Av
