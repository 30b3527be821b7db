/-
  Av, part W: rules over lists.
-/
import Derived.Test.YtoiphmpjiobaiaaAvU
namespace Go.Av
open Go
set_option linter.unusedVariables false
set_option linter.unusedSimpArgs false
set_option linter.unusedSectionVars false

theorem shift0 {X : Type} [Inhabited X] (e : X → List D) (xs : List X) (m : Nat) : ∀ i, i < m → e (xs.getD i default) = (fun i => e (xs.getD i default)) (0 + i) := fun i _ => by
  show _ = e (xs.getD (0 + i) default)
  rw [Nat.zero_add]

theorem getD_append' {X : Type} [Inhabited X] (xs ys : List X) (i : Nat) : (xs ++ ys).getD i default = if i < xs.length then xs.getD i default else ys.getD (i - xs.length) default := by
  simp only [List.getD_eq_getElem?_getD, List.getElem?_append]
  split <;> rfl

section
variable {E : Env} {s : St} {X : Type} [Inhabited X]

theorem AppOk.of {P : Program} {sT xT e : TypeId} {es : Nat} (e' : TypeId) (bs : Nat) (z : List C) (h1 : P.underlying sT = some (.slice e)) (h2 : P.underlying xT = some (.slice e')) (h3 : sizeT P e = some es)
    (h4 : bytesT P e = some bs) (h5 : Nat.ble bs 256 = true) (h6 : zeroCells P e = some z) (h7 : Nat.beq z.length es = true) : AppOk P sT xT e es :=
  ⟨h1, ⟨e', h2⟩, h3, ⟨bs, h4, Nat.le_of_ble_eq_true h5⟩, ⟨z, h6, Nat.eq_of_beq_eq_true h7⟩⟩

theorem One.build0 {ops : Array Oper} {o : Oper} {t e : TypeId} {es d : Nat}
    (hop : o.op = .buildSlice t 0 #[]) (hw : wantedB ops s o = some true) (hd : o.dst = some d) (hlt : Nat.blt d E.N = true) (hu : E.P.underlying t = some (.slice e)) (hsz : sizeT E.P e = some es) :
    One E ops o s (s.put d (.c .zero)) := fun a w hs => by
  obtain ⟨G, φ, h⟩ := hs
  refine ⟨wantedB_spec h hw, fun next Q hn => ?_⟩
  have hrun : (Instr.buildSlice t 0 ((#[] : Array (Nat × Operand)).map fun p => (p.1, a.eval p.2))).run E.P w = .ok (.slice (some ⟨w.heap.size, 0, none⟩) 0 0) (w.alloc (.cells #[] e)) := by
    unfold Instr.buildSlice
    simp only [Sem.run_bind, run_underlying hu, Result.andThen_ok, sizeT_run hsz]
    have hr0 : ∀ f : Nat → Value, (Array.range 0).map f = #[] := fun f => by simp
    simp [newRow_run, Instr.fill, hr0]
  unfold Oper.wp
  have he : execOp a.eval o = (do pure (.value (← Instr.buildSlice t 0 ((#[] : Array (Nat × Operand)).map fun p => (p.1, a.eval p.2)))) : Sem Next) := by unfold execOp; rw [hop]
  rw [he]
  simp only [Sem.run_bind, hrun, Result.andThen_ok, Sem.run_pure, Oper.upon, hd]
  have hk : Keep w.heap.size (fun _ => False) w (w.alloc (.cells #[] e)) := ⟨rfl, rfl, rfl, by simp, fun b hb _ => by
    show (w.heap.push _)[b]? = _
    rw [Array.getElem?_push, if_neg (by omega)]⟩
  have hg := h.grow hk (fun _ hb => hb) (fun _ hb => .inl hb) fun b hb => by have := h.gsz b hb; simp; omega
  exact hn _ _ ⟨G, φ, hg.put (Nat.blt_eq.mp hlt) (relAV_c ⟨_, rfl⟩ rfl)⟩

theorem One.appendT {ops : Array Oper} {o : Oper} {d k : Nat} {sT xT e : TypeId} {es : Nat} {b x : Operand} {y : AV} (enc : X → List D) (xs ys : List X) (hkx : anyB (Nat.beq k) E.fx = false)
    (hop : o.op = .call ⟨.builtin .append, #[b, x], #[sT, xT]⟩) (hw : wantedB ops s o = some true) (hd : o.dst = some d) (hlt : Nat.blt d E.N = true)
    (hok : AppOk E.P sT xT e es) (hb : evO s b = some (.c (.own k es 0 xs.length))) (hk : look s.sl k = some (.vec es xs.length (fun i => enc (xs.getD i default)))) (hx : evO s x = some y)
    (hsrc : SrcOf s y es ys.length (fun i => enc (ys.getD i default))) (hlim : xs.length + ys.length ≤ lim) :
    One E ops o s (((s.drop k).slot k (.vec es (xs ++ ys).length (fun i => enc ((xs ++ ys).getD i default)))).put d (.c (.own k es 0 (xs ++ ys).length))) := by
  have := One.appendOwn hkx hop hw hd hlt hok hb hk (Nat.le_refl _) hx hsrc hlim
  rw [List.length_append]
  have hg : appGet xs.length (fun i => enc (xs.getD i default)) (fun i => enc (ys.getD i default)) = fun i => enc ((xs ++ ys).getD i default) := by
    funext i
    unfold appGet
    rw [getD_append']
    split <;> rfl
  rw [hg] at this
  exact this

theorem One.makeT {ops : Array Oper} {o : Oper} {d : Nat} {t e : TypeId} {es bs : Nat} {ln cp : Operand} {kn kc : IntKind} {n c : Int} {z : List C} (enc : X → List D) (x : X)
    (hop : o.op = .makeSlice t ln cp) (hw : wantedB ops s o = some true) (hd : o.dst = some d) (hlt : Nat.blt d E.N = true) (hnr : s.noRef d = true)
    (hu : E.P.underlying t = some (.slice e)) (hsz : sizeT E.P e = some es) (hes : Nat.blt 0 es = true) (hbs : bytesT E.P e = some bs) (hb : Nat.ble bs 256 = true)
    (hz : zeroCells E.P e = some z) (hze : Nat.beq z.length es = true) (hcs : CsLe s [] z ((enc x).map .d)) (hdl : Nat.beq (enc x).length es = true)
    (hn : evO s ln = some (.c (.d (.int kn n)))) (hc : evO s cp = some (.c (.d (.int kc c)))) (hb0 : 0 ≤ n) (hnc : n ≤ c) (hlim : c ≤ lim) (hdef : enc default = enc x) :
    One E ops o s ((s.slot d (.vec es (List.replicate n.toNat x).length (fun i => enc ((List.replicate n.toNat x).getD i default)))).put d (.c (.own d es 0 (List.replicate n.toNat x).length))) := by
  have := One.makeSlice hop hw hd hlt hnr hu hsz hes hbs hb hz hze hcs hdl hn hc hb0 hnc hlim
  rw [List.length_replicate]
  have hg : (fun _ : Nat => enc x) = fun i => enc ((List.replicate n.toNat x).getD i default) := by
    funext i
    rw [List.getD_eq_getElem?_getD, List.getElem?_replicate]
    split
    · rfl
    · exact hdef.symm
  rw [hg] at this
  exact this

theorem One.storeT {ops : Array Oper} {o : Oper} {t : TypeId} {p v : Operand} {k es i o0 sz : Nat} {y : AV} {xs : List C} {ds : List D} (enc : X → List D) (ys : List X) (x : X)
    (hop : o.op = .store t p v) (hw : wantedB ops s o = some true) (hd : dstOk E.N o.dst = true) (hp : evO s p = some (.c (.vptr k es i o0))) (hk : look s.sl k = some (.vec es ys.length (fun i => enc (ys.getD i default)))) (hi : i < ys.length)
    (hx : evO s v = some y) (hst : storable y = some xs) (hcs : CsLe s [] xs (ds.map .d)) (hsz : sizeT E.P t = some sz) (hle : Nat.beq sz ds.length = true) (hin : Nat.ble (o0 + ds.length) es = true)
    (hwr : wrD (enc (ys.getD i default)) o0 ds = enc x) :
    One E ops o s (putO (s.slot k (.vec es (ys.set i x).length (fun j => enc ((ys.set i x).getD j default)))) o.dst (.c .any)) := by
  have := One.storeElem hop hw hd hp hk hi hx hst hcs hsz hle hin
  rw [List.length_set]
  have hg : setGet (fun i => enc (ys.getD i default)) i (wrD (enc (ys.getD i default)) o0 ds) = fun j => enc ((ys.set i x).getD j default) := by
    funext j
    unfold setGet
    by_cases e : j = i
    · subst e
      rw [if_pos rfl, hwr, List.getD_eq_getElem?_getD, List.getElem?_set_self hi]
      rfl
    · rw [if_neg e]
      show enc (ys.getD j default) = enc ((ys.set i x).getD j default)
      rw [List.getD_eq_getElem?_getD, List.getD_eq_getElem?_getD, List.getElem?_set_ne (fun h => e h.symm)]
  rw [hg] at this
  exact this

def sub (xs : List X) (l h : Int) : List X := (xs.drop l.toNat).take (h.toNat - l.toNat)

theorem sub_length {xs : List X} {l h : Int} (h0 : 0 ≤ l) (h1 : l ≤ h) (h2 : h ≤ (xs.length : Int)) : (Av.sub xs l h).length = h.toNat - l.toNat := by
  unfold sub
  rw [List.length_take, List.length_drop]
  omega

theorem sub_getD {xs : List X} {l h : Int} {i : Nat} (hi : i < h.toNat - l.toNat) : (Av.sub xs l h).getD i default = xs.getD (l.toNat + i) default := by
  unfold sub
  rw [List.getD_eq_getElem?_getD, List.getD_eq_getElem?_getD, List.getElem?_take, if_pos hi, List.getElem?_drop]

theorem CLe.subD {fz : List Nat} {es : Nat} (enc : X → List D) {xs : List X} {l h : Int} (h0 : 0 ≤ l) (h1 : l ≤ h) (h2 : h ≤ (xs.length : Int)) :
    CLe s fz (.d (.list es (h.toNat - l.toNat) (fun i => enc (xs.getD (l.toNat + i) default)))) (.d (.list es (Av.sub xs l h).length (fun i => enc ((Av.sub xs l h).getD i default)))) :=
  .list (sub_length h0 h1 h2) fun i hi => by rw [sub_getD hi]

theorem CLe.subV {fz : List Nat} {es : Nat} (enc : X → List D) {xs : List X} {l h : Int} (h0 : 0 ≤ l) (h1 : l ≤ h) (h2 : h ≤ (xs.length : Int)) :
    CLe s fz (.view es (h.toNat - l.toNat) (fun i => enc (xs.getD (l.toNat + i) default))) (.view es (Av.sub xs l h).length (fun i => enc ((Av.sub xs l h).getD i default))) :=
  .view (sub_length h0 h1 h2) fun i hi => by rw [sub_getD hi]

theorem SrcOf.subO {k es : Nat} (enc : X → List D) {xs : List X} {l h : Int} (hk : look s.sl k = some (.vec es xs.length (fun i => enc (xs.getD i default)))) (h0 : 0 ≤ l) (h1 : l ≤ h) (h2 : h ≤ (xs.length : Int)) :
    SrcOf s (.c (.own k es (0 + l.toNat) (h.toNat - l.toNat))) es (Av.sub xs l h).length (fun i => enc ((Av.sub xs l h).getD i default)) :=
  .own hk (by omega) (sub_length h0 h1 h2) fun i hi => by rw [sub_getD hi, Nat.zero_add]

theorem SimE.newOwn {a : Act} {w : World} (h : SimE E s a w) {t k es : Nat} {get : Nat → List D} (hkx : anyB (Nat.beq k) E.fx = false) (hz : look s.tm t = some (.c .zero)) (hk : s.noRef k = true) :
    SimE E ((s.slot k (.vec es 0 get)).put t (.c (.own k es 0 0))) a w := by
  obtain ⟨G, φ, h⟩ := h
  have hs := h.newVec0 (not_mem_beq hkx) hk es get
  obtain ⟨v, hv, hr⟩ := h.tm t _ hz
  refine ⟨G, upd φ k none, { hs with tm := fun t' x hx => ?_ }⟩
  simp only [St.put, look_cons] at hx
  by_cases e : t = t'
  · subst e
    rw [if_pos rfl] at hx
    cases hx
    obtain ⟨A, rfl⟩ := hr.1
    exact ⟨_, hv, relAV_c (.inl ⟨rfl, A, rfl⟩) rfl⟩
  · rw [if_neg e] at hx
    exact hs.tm t' x hx

theorem Tri.newOwn {c : Code} {post : Exit → St → Prop} {t k es : Nat} (get : Nat → List D) (hkx : anyB (Nat.beq k) E.fx = false) (hz : look s.tm t = some (.c .zero)) (hk : s.noRef k = true)
    (h : Tri E c ((s.slot k (.vec es 0 get)).put t (.c (.own k es 0 0))) post) : Tri E c s post := fun a w hs => h a w (hs.newOwn hkx hz hk)

theorem At.newOwn {L : List Oper} {i : Nat} {K : St → Prop} {t k es : Nat} (get : Nat → List D) (hkx : anyB (Nat.beq k) E.fx = false) (hz : look s.tm t = some (.c .zero)) (hk : s.noRef k = true)
    (h : At E L i ((s.slot k (.vec es 0 get)).put t (.c (.own k es 0 0))) K) : At E L i s K := fun a w hs => h a w (hs.newOwn hkx hz hk)

theorem At.eqS {L : List Oper} {i : Nat} {K : St → Prop} (s' : St) (e : s = s') (h : At E L i s' K) : At E L i s K := e ▸ h
theorem Tri.eqS {c : Code} {post : Exit → St → Prop} (s' : St) (e : s = s') (h : Tri E c s' post) : Tri E c s post := e ▸ h

theorem At.callA {L : List Oper} {i : Nat} {K : St → Prop} {o : Oper} {cl : Call} {f : FuncId} {caps : List D} {xs args : List AV} {res : AV} (hS : Summ E.P f args [] res []) (ho : L[i]? = some o)
    (hop : o.op = .call cl) (hw : wantedB L.toArray s o = some true) (hd : dstOk E.N o.dst = true) (hc : calleeOf s cl = some (f, caps)) (hx : argsOf s cl caps = some xs) (hle : AVsArg s xs args)
    (hfl : allFlat args = true) (hsol : res.solid = true) (h : At E L (i + 1) (putO s o.dst res) K) : At E L i s K :=
  At.one ho (One.call hop hw hd hc hx hle hfl hsol hS) h

theorem AVArg.view {k es : Nat} (enc : X → List D) (xs : List X) (hk : look s.sl k = some (.vec es xs.length (fun i => enc (xs.getD i default)))) :
    AVArg s (.c (.own k es 0 xs.length)) (.c (.view es xs.length (fun i => enc (xs.getD i default)))) :=
  .c (.own hk (by omega) rfl (shift0 enc xs _))

theorem CLe.frozen {k es : Nat} {fz : List Nat} (enc : X → List D) (xs : List X) (hk : look s.sl k = some (.vec es xs.length (fun i => enc (xs.getD i default)))) (hf : k ∈ fz) :
    CLe s fz (.own k es 0 xs.length) (.d (.list es xs.length (fun i => enc (xs.getD i default)))) :=
  .own hk hf (by omega) rfl (shift0 enc xs _)

theorem Sim.vecCongr {G : Nat → Prop} {φ : Nat → Option Loc} {a : Act} {w : World} {tm : List (Nat × AV)} {sl : List (Nat × Slot)} {k es n : Nat} {get get' : Nat → List D}
    (h : Sim E ⟨tm, (k, .vec es n get) :: sl⟩ G φ a w) (hg : ∀ i, i < n → get' i = get i) : Sim E ⟨tm, (k, .vec es n get') :: sl⟩ G φ a w := by
  have hin : ∀ k' c, look ((k, Slot.vec es n get') :: sl) k' = some c → (k' = k ∧ c = .vec es n get') ∨ (k' ≠ k ∧ look ((k, Slot.vec es n get) :: sl) k' = some c) := fun k' c hc => by
    rw [look_cons] at hc
    by_cases e : k = k'
    · subst e; rw [if_pos rfl] at hc; cases hc; exact .inl ⟨rfl, rfl⟩
    · rw [if_neg e] at hc; exact .inr ⟨fun x => e x.symm, by rw [look_cons, if_neg e]; exact hc⟩
  have hk : look ((k, Slot.vec es n get) :: sl) k = some (.vec es n get) := by simp [look_cons]
  have hex : ∀ k' c, look ((k, Slot.vec es n get') :: sl) k' = some c → ∃ c0, look ((k, Slot.vec es n get) :: sl) k' = some c0 := fun k' c hc => by
    rcases hin k' c hc with ⟨rfl, _⟩ | ⟨_, h⟩
    · exact ⟨_, hk⟩
    · exact ⟨_, h⟩
  exact
  { h with
    sl := fun k' c hc => by
      rcases hin k' c hc with ⟨rfl, rfl⟩ | ⟨_, hc⟩
      · obtain ⟨h1, h2⟩ := h.sl _ _ hk
        exact ⟨h1, h2.imp id fun ⟨l, hl, hn, ht, he⟩ => ⟨l, hl, hn, ht, fun i hi => by rw [hg i hi]; exact he i hi⟩⟩
      · exact h.sl k' c hc
    inj := fun k1 k2 c1 c2 l1 l2 h1 h2 => by
      obtain ⟨_, h1⟩ := hex _ _ h1
      obtain ⟨_, h2⟩ := hex _ _ h2
      exact h.inj _ _ _ _ _ _ h1 h2
    own := fun k' c l h1 h2 => by
      obtain ⟨_, h1⟩ := hex _ _ h1
      exact h.own _ _ _ h1 h2
    fix := fun k' c hx h1 => by
      obtain ⟨_, h1⟩ := hex _ _ h1
      exact h.fix _ _ hx h1 }

theorem One.buildT {ops : Array Oper} {o : Oper} {t e : TypeId} {len es d : Nat} {parts : Array (Nat × Operand)} {z cells : List C} (enc : X → List D) (xs : List X)
    (hop : o.op = .buildSlice t len parts) (hw : wantedB ops s o = some true) (hd : o.dst = some d) (hlt : Nat.blt d E.N = true) (hnr : s.noRef d = true)
    (hu : E.P.underlying t = some (.slice e)) (hsz : sizeT E.P e = some es) (hz : zeroCells E.P e = some z) (hze : Nat.beq z.length es = true) (hes : Nat.blt 0 es = true) (hle : Nat.ble (len * es) 16777216 = true)
    (hf : fillC (fun i => some (i * es, es)) (repC z (len * es)) (parts.toList.map fun p => (p.1, evO s p.2)) = some cells) (hlen : Nat.beq xs.length len = true) (hall : AllLe s es cells (xs.map enc)) :
    One E ops o s ((s.slot d (.vec es xs.length (fun i => enc (xs.getD i default)))).put d (.c (.own d es 0 xs.length))) := by
  have hl := Nat.eq_of_beq_eq_true hlen
  refine (One.buildSlice hop hw hd hlt hnr hu hsz hz hze hes hle hf (by simpa using hlen) hall).weaken fun a w hs => ?_
  obtain ⟨G, φ, h⟩ := hs
  rw [hl]
  exact ⟨G, φ, Sim.vecCongr h fun i hi => by
    have := encs_getD enc xs i (by omega)
    rw [Nat.zero_add] at this
    exact this⟩

theorem equalIn_slice {P : Program} {w : World} {t e : TypeId} (hu : P.underlying t = some (.slice e)) (D : Nat) (A : Option Addr) (n cap : Nat) :
    (Op.equalIn (D + 1) t (.slice A n cap) (.slice none 0 0)).run P w = .ok A.isNone w := by
  simp only [Op.equalIn, Sem.run_bind, run_underlying hu, Result.andThen_ok]
  cases A <;> rfl

theorem run_eqNil {P : Program} {w : World} {t e : TypeId} {x : Operand} (hu : P.underlying t = some (.slice e)) (A : Option Addr) (n cap : Nat) :
    (do eqGuard .eql t x (.const (.slice none 0 0)) (.slice A n cap) (.slice none 0 0); Go.binOp .eql t (.slice A n cap) (.slice none 0 0) : Sem Value).run P w = .ok (.bool A.isNone) w := by
  have h1 : (eqGuard .eql t x (.const (.slice none 0 0)) (.slice A n cap) (.slice none 0 0)).run P w = .ok () w := rfl
  have h2 : (Op.equal t (.slice A n cap) (.slice none 0 0)).run P w = .ok A.isNone w := equalIn_slice hu 9999 A n cap
  have h3 : (Go.binOp .eql t (.slice A n cap) (.slice none 0 0)).run P w = .ok (.bool A.isNone) w := by
    show (do pure (.bool (← Op.equal t (.slice A n cap) (.slice none 0 0))) : Sem Value).run P w = _
    simp only [Sem.run_bind, h2, Result.andThen_ok, Sem.run_pure]
  simp only [Sem.run_bind, h1, Result.andThen_ok, h3]

theorem At.nilCase {L : List Oper} {i : Nat} {K : St → Prop} {o : Oper} {t e yt : TypeId} {x : Operand} {es n d : Nat} {get : Nat → List D} (ho : L[i]? = some o)
    (hop : o.op = .binOp .eql t x (.const (.slice none 0 0)) yt) (hw : wantedB L.toArray s o = some true) (hd : o.dst = some d) (hlt : Nat.blt d E.N = true)
    (hu : E.P.underlying t = some (.slice e)) (hx : evO s x = some (.c (.d (.list es n get))))
    (h1 : n = 0 → At E L (i + 1) (s.put d (.c (.d (.bool true)))) K) (h2 : At E L (i + 1) (s.put d (.c (.d (.bool false)))) K) : At E L i s K := fun a w hs Q hQ => by
  obtain ⟨hlt', he⟩ := List.getElem?_eq_some_iff.1 ho
  rw [List.drop_eq_getElem_cons hlt', he]
  obtain ⟨G, φ, h⟩ := hs
  unfold wpList
  rw [if_pos (wantedB_spec h hw)]
  left
  have hv : RelD G w (.list es n get) (a.eval x) := (h.ev hx).1
  have hex : execOp a.eval o = (do pure (.value (← (do eqGuard .eql t x (.const (.slice none 0 0)) (a.eval x) (.slice none 0 0); Go.binOp .eql t (a.eval x) (.slice none 0 0) : Sem Value))) : Sem Next) := by unfold execOp; rw [hop]; rfl
  have key : ∀ b, (do eqGuard .eql t x (.const (.slice none 0 0)) (a.eval x) (.slice none 0 0); Go.binOp .eql t (a.eval x) (.slice none 0 0) : Sem Value).run E.P w = .ok (.bool b) w → (b = true → n = 0) → o.wp E.P a w (wpList E.P L.toArray Q (L.drop (i + 1))) Q := fun b hb hn => by
    unfold Oper.wp
    rw [hex]
    simp only [Sem.run_bind] at hb ⊢
    rw [hb]
    simp only [Result.andThen_ok, Sem.run_pure, Oper.upon, hd]
    have hp : SimE E (s.put d (.c (.d (.bool b)))) (a.put (some d) (.bool b)) w := ⟨G, φ, h.put (Nat.blt_eq.mp hlt) (relAV_c (RelD.bool _) rfl)⟩
    cases b with
    | true => exact h1 (hn rfl) _ _ hp Q hQ
    | false => exact h2 _ _ hp Q hQ
  generalize a.eval x = u at *
  cases hv with
  | empty _ _ A cap =>
    cases A with
    | none => exact key true (run_eqNil hu _ _ _) fun _ => rfl
    | some A => exact key false (run_eqNil hu _ _ _) fun _ => rfl
  | list _ _ _ b off cap vals hG hn hm hc hl hr => exact key false (run_eqNil hu _ _ _) fun e => by cases e


theorem DOk.stepP {ops : Array Oper} {o : Oper} {x : DOp} (f : Bool → Step) {p v : Bool} (hp : p = v) (hw : ∀ r, wantedB ops (x.need.app r) o = some true) (he : ∀ r, evStep E.P (x.need.app r) o.dst o.op = some (f p)) (hc : (f v).cond)
    (hok : okDst E.N x.need o.dst (f v) = true) (hm : mksOk x.mks (f v) o.dst = true)
    (heff : ∀ r, stepSt (x.need.app r) o.dst (f v) = x.eff.app (x.need.app r)) : DOk E ops o x :=
  DOk.step (f v) hw (fun r => hp ▸ he r) hc hok hm heff

theorem DOk.callA {ops : Array Oper} {o : Oper} {x : DOp} {cl : Call} {f : FuncId} {caps : List D} {xs args : List AV} {res : AV} (hS : Summ E.P f args [] res [])
    (hop : o.op = .call cl) (hw : ∀ r, wantedB ops (x.need.app r) o = some true) (hd : dstOk E.N o.dst = true) (hc : ∀ r, calleeOf (x.need.app r) cl = some (f, caps)) (hx : ∀ r, argsOf (x.need.app r) cl caps = some xs)
    (hle : ∀ r, AVsArg (x.need.app r) xs args) (hfl : allFlat args = true) (hsol : res.solid = true) (heff : ∀ r, putO (x.need.app r) o.dst res = x.eff.app (x.need.app r)) : DOk E ops o x := DOk.one fun r _ => by
  rw [← heff r]
  exact One.call hop (hw r) hd (hc r) (hx r) (hle r) hfl hsol hS

theorem dropR_noRef {k : Nat} {cs : List C} (h : anyB (C.refs k) cs = false) : cs.map (C.dropR k) = cs := by
  have key : ∀ c ∈ cs, c.dropR k = c := fun c hc => by
    unfold C.dropR
    rw [anyB_false h c hc]
  exact (List.map_congr_left key).trans (List.map_id _)

theorem AV.dropR_noRef {k : Nat} {x : AV} (h : x.refs k = false) : x.dropR k = x := by
  cases x with
  | c x =>
    have h' : C.refs k x = false := h
    show AV.c (x.dropR k) = AV.c x
    unfold C.dropR
    rw [h']
  | agg xs => show AV.agg (xs.map (C.dropR k)) = AV.agg xs; rw [Av.dropR_noRef h]
  | tup vs =>
    show AV.tup (vs.map fun p => (p.1, p.2.map (C.dropR k))) = AV.tup vs
    have key : ∀ p ∈ vs, (fun p : Bool × List C => (p.1, p.2.map (C.dropR k))) p = p := fun p hp => by
      have := anyB_false h p hp
      simp only [Av.dropR_noRef this]
    rw [List.map_congr_left key]
    simp

theorem dropTms_noRef {k : Nat} : ∀ {l : List (Nat × AV)}, (∀ e ∈ l, e.2.refs k = false) → dropTms k l = l
  | [], _ => rfl
  | (t, x) :: l, h => by
    simp only [dropTms, AV.dropR_noRef (h (t, x) (List.mem_cons_self ..)), dropTms_noRef fun e he => h e (List.mem_cons_of_mem _ he)]

theorem dropSls_noRef {k : Nat} : ∀ {l : List (Nat × Slot)}, (∀ e ∈ l, e.1 ≠ k ∧ e.2.refs k = false) → dropSls k l = l
  | [], _ => rfl
  | (j, c) :: l, h => by
    obtain ⟨h1, h2⟩ := h (j, c) (List.mem_cons_self ..)
    have hb : Nat.beq j k = false := by
      cases hb : Nat.beq j k with
      | false => rfl
      | true => exact absurd (Nat.eq_of_beq_eq_true hb) h1
    have hc : c.dropR k = c := by
      cases c with
      | vec es n get => rfl
      | box cs => show Slot.box (cs.map (C.dropR k)) = Slot.box cs; rw [Av.dropR_noRef h2]
    simp only [dropSls, hb, hc, dropSls_noRef fun e he => h e (List.mem_cons_of_mem _ he)]

theorem dropTms_append {k : Nat} : ∀ (l r : List (Nat × AV)), dropTms k (l ++ r) = dropTms k l ++ dropTms k r
  | [], _ => rfl
  | (t, x) :: l, r => by simp only [List.cons_append, dropTms, dropTms_append l r]

theorem dropSls_append {k : Nat} : ∀ (l r : List (Nat × Slot)), dropSls k (l ++ r) = dropSls k l ++ dropSls k r
  | [], _ => rfl
  | (j, c) :: l, r => by
    simp only [List.cons_append, dropSls]
    cases Nat.beq j k <;> simp [dropSls_append l r]

theorem DOk.drop {ops : Array Oper} {o : Oper} {x : DOp} {k d : Nat} {v : Slot} {av : AV} (hk : memB k x.mks = true)
    (h : ∀ r : St, (∀ d ∈ x.mks, r.noRef d = true) → One E ops o (x.need.app r) ((((x.need.app r).drop k).slot k v).put d av))
    (h1 : (keysOf (x.eff.tm ++ x.need.tm)).map (look (x.eff.tm ++ x.need.tm)) = (keysOf (x.eff.tm ++ x.need.tm)).map (look ((d, av) :: dropTms k x.need.tm)))
    (h2 : allB (fun t => hasKey t (x.eff.tm ++ x.need.tm)) (keysOf ((d, av) :: dropTms k x.need.tm)) = true)
    (h3 : (keysOf (x.eff.sl ++ x.need.sl)).map (look (x.eff.sl ++ x.need.sl)) = (keysOf (x.eff.sl ++ x.need.sl)).map (look ((k, v) :: dropSls k x.need.sl)))
    (h4 : allB (fun t => hasKey t (x.eff.sl ++ x.need.sl)) (keysOf ((k, v) :: dropSls k x.need.sl)) = true) : DOk E ops o x := DOk.one fun r hr => by
  obtain ⟨n1, n2⟩ := St.noRef_spec (hr k (memB_iff.1 hk))
  refine (h r hr).weaken fun a w hs => hs.weaken (fun t y hy => ?_) fun t y hy => ?_
  · have e : look (x.eff.app (x.need.app r)).tm t = look (((d, av) :: dropTms k x.need.tm) ++ r.tm) t := by
      have := cover (r := r.tm) h1 h2 t
      rw [← this]
      show look (x.eff.tm ++ (x.need.tm ++ r.tm)) t = _
      rw [List.append_assoc]
    rw [e] at hy
    show look ((d, av) :: dropTms k (x.need.tm ++ r.tm)) t = some y
    rw [dropTms_append, dropTms_noRef n1]
    exact hy
  · have e : look (x.eff.app (x.need.app r)).sl t = look (((k, v) :: dropSls k x.need.sl) ++ r.sl) t := by
      have := cover (r := r.sl) h3 h4 t
      rw [← this]
      show look (x.eff.sl ++ (x.need.sl ++ r.sl)) t = _
      rw [List.append_assoc]
    rw [e] at hy
    show look ((k, v) :: dropSls k (x.need.sl ++ r.sl)) t = some y
    rw [dropSls_append, dropSls_noRef n2]
    exact hy

end
end Go.Av
