import Derived.Test.YtcfbbbmnfloflaaV10x1
import Derived.Laws.Externs
import Derived.Lib.Join
import Derived.Lib.Overlaps
import Derived.Shelf.Strings.OnBuilder
import Derived.Shelf.Lay
import Derived.Ground.NamesProg
import Derived.Test.YtcfbbbmnfloflaaProg
import Derived.Shelf.Strings.Builder1
import Derived.Shelf.Strings.BuilderF
import Derived.Shelf.Strings.BuilderK
import Derived.WalkKit
import Derived.BigCall
import Derived.Sort.LotD3
import Derived.Sort.LotD4
import Derived.Sort.LotA
import Derived.Sort.LotB
import Derived.Sort.LotC
import Derived.KernelRfl
set_option maxRecDepth 100000
set_option linter.unusedVariables false
set_option linter.unusedSimpArgs false
set_option linter.unusedSectionVars false
open Go.IntKind renaming i64→zzi, u64→zzu
open Inhabited renaming default→zzd
open Go.Result renaming andThen_ok→zz0
open Nat renaming eq_of_beq_eq_true→zz1, le_of_ble_eq_true→zz8, zero_add→zz9
open Go.Sem renaming run_bind→zz2, run_pure→zz6
open Option renaming bind_some→zz3
open List renaming mem_cons_of_mem→zz4, mem_cons_self→zz5, length_append→zz7
/-
 Av,part U:from a function that may have no answer to a walk.
-/
namespace Go.Av
open Go
inductive Ctl (S R:Type) where
 |next (s:S)
 |brk (s:S)
 |ret (r:R)
inductive Out (S R:Type) where
 |done (s:S)
 |ret (r:R)
section
variable {S R Q A:Type}
def z12 (B:Nat→S→Option (Ctl S R)):Nat→Nat→S→Option (Out S R)
 |0,_,s=>some (.done s)
 |k+1,i,s=>match B i s with
  |none=>none
  |some (.next s')=>z12 B k (i+1) s'
  |some (.brk s')=>some (.done s')
  |some (.ret r)=>some (.ret r)
def loopN (B:S→Option (Ctl S R)):Nat→S→Option (Out S R)
 |0,_=>none
 |k+1,s=>match B s with
  |none=>none
  |some (.next s')=>loopN B k s'
  |some (.brk s')=>some (.done s')
  |some (.ret r)=>some (.ret r)
def outK (o:Option (Out S R))(kn:S→Option Q)(kr:R→Option Q):Option Q:=
 match o with
 |none=>none
 |some (.done s)=>kn s
 |some (.ret r)=>kr r
def need (c:Prop)[Decidable c](k:Option Q):Option Q:=if c then k else none
def bf (b:Bool)(x y:Option Q):Option Q:=match b with|true=>x|false=>y
def jn (j:A→Option Q)(k:(A→Option Q)→Option Q):Option Q:=k j
theorem z0g {c:Prop}[Decidable c]{k:Option Q}{q:Q}(h:need c k=some q):c∧k=some q:=by
 unfold need at h;split at h
 ·exact⟨by assumption,h⟩
 ·cases h
theorem bind_elim {o:Option A}{k:A→Option Q}{q:Q}(h:o.bind k=some q): ∃a,o=some a∧k a=some q:=by
 cases o with
 |none=>cases h
 |some a=>exact⟨a,rfl,h⟩
theorem zcd {b:Bool}{u v:Option Q}{q:Q}(h:bf b u v=some q):(b=true∧u=some q)∨(b=false∧v=some q):=by
 cases b
 ·exact .inr ⟨rfl,h⟩
 ·exact .inl ⟨rfl,h⟩
theorem z93 {o:Option (Out S R)}{kn:S→Option Q}{kr:R→Option Q}{q:Q}(h:outK o kn kr=some q):
 (∃s,o=some (.done s)∧kn s=some q)∨ ∃r,o=some (.ret r)∧kr r=some q:=by
 unfold outK at h;split at h
 ·cases h
 ·exact .inl ⟨_,rfl,h⟩
 ·exact .inr ⟨_,rfl,h⟩
end
section
variable {E:Env} {s:St} {S R Q A:Type} {post:Exit→St→Prop} {q:Q}
@[reducible] def thenJ (σ:A→St) (j:A→Option Q) (q:Q) (post:Exit→St→Prop):Exit→St→Prop
 | .normal,s=> ∃a,j a=some q∧s=σ a
 |e,s=>post e s
@[reducible] def thenS (E:Env) (y:Code) (post:Exit→St→Prop):Exit→St→Prop
 | .normal,s=>Tri E y s post
 |e,s=>post e s
@[reducible] def inB' (id:Nat) (post:Exit→St→Prop):Exit→St→Prop
 | .exit id',s=>match Nat.beq id' id with|true=>post .normal s|false=>post (.exit id') s
 |e,s=>post e s
theorem z02 {x y:Code}(h:Tri E x s (thenS E y post)):Tri E (.seq x y) s post:=
 Tri.seq (h.mono fun e s hp=>by cases e<;>exact hp)
theorem z11 {x y:Code}(σ:A→St){j:A→Option Q}{k:(A→Option Q)→Option Q}(h:jn j k=some q)(hy: ∀a,j a=some q→Tri E y (σ a) post)
 (hx: ∀j',k j'=some q→Tri E x s (thenJ σ j' q post)):Tri E (.seq x y) s post:=
 z02 ((hx j h).mono fun e s hp=>by
  cases e with
  |normal=>obtain⟨a,h1,rfl⟩:=hp;exact hy a h1
  |_=>exact hp)
theorem z5h {id:Nat}{c:Code}(h:Tri E c s (inB' id post)):Tri E (.block id c) s post:=
 Tri.block (h.mono fun e s hp=>by
  cases e with
  |exit id'=>
   show if id'=id then _ else _;have hp:(match Nat.beq id' id with|true=>post .normal s|false=>post (.exit id') s):=hp
   cases hb:Nat.beq id' id with
   |true=>rw[if_pos (zz1 hb)];rw[hb]at hp;exact hp
   |false=>
    have:id'≠id:=fun e=>by rw[e]at hb;simp at hb
    rw[if_neg this];rw[hb]at hp;exact hp
  |_=>exact hp)
theorem zbi {c:Operand}{x y:Code}{b:Bool}{u v:Option Q}(hb:evO s c=some (.c (.d (.bool b)))) (h:bf b u v=some q) (ht:u=some q→Tri E x s post) (hf:v=some q→Tri E y s post):
 Tri E (.cond c x y) s post:=
 Tri.cond hb (fun e=>ht (by subst e;exact h)) fun e=>hf (by subst e;exact h)
theorem Tri.keep (tk sk:List Nat){s':St}{c:Code}(hk:Av.keep tk sk s=some s')(h:Tri E c s' post):Tri E c s post:=
 Tri.weaken (fun _ _=>z5p hk) h
def At (E:Env)(L:List Oper)(i:Nat)(s:St)(K:St→Prop):Prop:=Ops E L.toArray (L.drop i) s K
theorem z04 {id:Nat}{L:List Oper}(h:At E L 0 s (post .normal)):Tri E (.region id L.toArray false) s post:=Tri.region h
variable {L:List Oper} {i:Nat} {K:St→Prop}
theorem At.done (hi:Nat.ble L.length i=true)(h:K s):At E L i s K:=by
 unfold At;rw[List.drop_eq_nil_of_le (zz8 hi)];exact Ops.nil h
theorem At.seg (n:Nat)(tk sk:List Nat){s':St}{c:Prop}(he:z22 E.P E.N L.toArray ((L.drop i).take n) tk sk s=some (s',c))(hc:c)(h:At E L (i+n) s' K):At E L i s K:=by
 unfold At at h ⊢;have:=Ops.seg he hc h
 rwa[←List.drop_drop,List.take_append_drop]at this
theorem At.one {o:Oper}(ho:L[i]?=some o){s':St}(h1:One E L.toArray o s s')(h:At E L (i+1) s' K):At E L i s K:=by
 unfold At at h ⊢;obtain⟨hlt,he⟩:=List.getElem?_eq_some_iff.1 ho;rw[List.drop_eq_getElem_cons hlt,he];exact Ops.one h1 h
theorem At.case (f:Bool→St){b:Bool}{u v:Option Q}(h:bf b u v=some q)(ht:u=some q→At E L i (f true) K)(hf:v=some q→At E L i (f false) K):At E L i (f b) K:=by
 cases b
 ·exact hf h
 ·exact ht h
theorem At.keep (tk sk:List Nat){s':St}(hk:Av.keep tk sk s=some s')(h:At E L i s' K):At E L i s K:=
 fun a w hs=>h a w (z5p hk hs)
theorem At.call {o:Oper}{cl:Call}{f:FuncId}{caps:List D}{xs args:List AV}{res:AV}(ho:L[i]?=some o)
 (hop:o.op= .call cl) (hw:z07 L.toArray s o=some true) (hd:dstOk E.N o.dst=true) (hc:z2a s cl=some (f,caps)) (hx:z32 s cl caps=some xs)
 (hle:AVsArg s xs args) (hfl:z2d args=true) (hsol:res.solid=true) (hS:Summ E.P f args [] res []) (h:At E L (i+1) (putO s o.dst res) K):At E L i s K:=
 At.one ho (One.call hop hw hd hc hx hle hfl hsol hS) h
theorem At.callP {o:Oper}{cl:Call}{f:FuncId}{caps:List D}{args:List AV}{res:AV}(hS:Summ E.P f args [] res [])(ho:L[i]?=some o)
 (hop:o.op= .call cl) (hw:z07 L.toArray s o=some true) (hd:dstOk E.N o.dst=true) (hc:z2a s cl=some (f,caps)) (hx:z32 s cl caps=some args)
 (hfl:z2d args=true) (hsol:res.solid=true) (h:At E L (i+1) (putO s o.dst res) K):At E L i s K:=
 At.one ho (One.call hop hw hd hc hx (AVsArg.refl _ _) hfl hsol hS) h
theorem At.le (fz:List Nat)(hfz: ∀k∈fz,k∉E.lk)(s':St)(ht:LeT s fz s'.tm)(hs:LeS s fz s'.sl)(h:At E L i s' K):At E L i s K:=
 Ops.le fz hfz s' ht hs h
theorem z6j {X:Type}[Inhabited X](e:X→List D)(xs:List X)(i:Nat)(hi:i<xs.length):e (xs.getD i zzd)=(xs.map e).getD (0+i) []:=by
 rw[zz9,List.getD_eq_getElem?_getD,List.getD_eq_getElem?_getD,List.getElem?_map,List.getElem?_eq_getElem hi];rfl
def z21 (k:IntKind)(n:Int):List D:=[.int k n]
def z3j (s:ByteArray):List D:=[.str s]
def bs (l:List Nat):ByteArray:=⟨(l.map UInt8.ofNat).toArray⟩
theorem Tri.lenOf {t es n:Nat}{get:Nat→List D}{c:Code}(ht:look s.tm t=some (.c (.d (.list es n get)))) (h:n≤maxN→Tri E c s post):Tri E c s post:=fun a w hs=>by
 obtain⟨G,φ,hs'⟩:=hs;obtain⟨v,_,hr⟩:=hs'.tm t _ ht;have hr:RelD G w (.list es n get) v:=hr.1
 have hn:n≤maxN:=by
  cases hr with
  |empty _ _ _ _=>exact Nat.zero_le _
  |list _ _ _ _ _ _ _ _ _ hm _ _ _=>exact hm
 exact h hn a w ⟨G,φ,hs'⟩
theorem zax {t es n:Nat}{get:Nat→List D}{c:Code}(ht:look s.tm t=some (.c (.view es n get)))(h:n≤maxN→Tri E c s post):Tri E c s post:=fun a w hs=>by
 obtain⟨G,φ,hs'⟩:=hs;obtain⟨v,_,hr⟩:=hs'.tm t _ ht;have hn:n≤maxN:=by
  rcases hr.1 with⟨h0,_⟩|⟨_,_,_,_,_,_,hm,_⟩
  ·omega
  ·exact hm
 exact h hn a w ⟨G,φ,hs'⟩
theorem zaw {t k es off n N:Nat}{get:Nat→List D}{c:Code}(ht:look s.tm t=some (.c (.own k es off n)))(hk:look s.sl k=some (.vec es N get))(hn:n≤N)(h:n≤maxN→Tri E c s post):Tri E c s post:=fun a w hs=>by
 obtain⟨G,φ,hs'⟩:=hs;obtain⟨h1,_⟩:=hs'.sl k _ hk;exact h (by omega) a w ⟨G,φ,hs'⟩
def idx (ti i:Nat)(s:St):St:=s.put ti (.c (.d (.int .i64 (i:Int))))
@[reducible] def z9i (cid b ti:Nat) (σ F:S→St) (RT:R→St→Prop) (i:Nat):Ctl S R→Exit→St→Prop
 | .next st,.normal,s=>s=idx ti i (σ st)
 | .next st,.exit id,s=>id=cid∧s=idx ti i (σ st)
 | .brk st,.exit id,s=>id=b∧s=F st
 | .ret x,.ret,s=>RT x s
 |_,_,_=>False
@[reducible] def z94 (b:Nat) (σ F:S→St) (RT:R→St→Prop):Ctl S R→Exit→St→Prop
 | .next st,.normal,s=>s=σ st
 | .brk st,.exit id,s=>id=b∧s=F st
 | .ret x,.ret,s=>RT x s
 |_,_,_=>False
@[reducible] def zan (F:S→St) (RT:R→St→Prop):Out S R→Exit→St→Prop
 | .done st,.normal,s=>s=F st
 | .ret x,.ret,s=>RT x s
 |_,_,_=>False
theorem z8q {b:Nat}{c:Code}{B:S→Option (Ctl S R)}(RT:R→St→Prop)(σ F:S→St){fuel:Nat}{st0:S}{o:Out S R}(h:loopN B fuel st0=some o)
 (hround: ∀st r,B st=some r→Tri E c (σ st) (z94 b σ F RT r)):Tri E (.block b (.loop c)) (σ st0) (zan F RT o):=by
 refine Tri.block (Tri.loop (fun n s=> ∃st,s=σ st∧loopN B n st=some o) ?_ (n:=fuel) ⟨st0,rfl,h⟩);rintro n s ⟨st,rfl,hn⟩;cases n with
 |zero=>cases hn
 |succ n=>
  simp only[loopN]at hn;cases hB:B st with
  |none=>rw[hB]at hn;cases hn
  |some r=>
   rw[hB]at hn;refine(hround st r hB).mono fun e s' hp=>?_;cases r with
   |next st'=>
    cases e with
    |normal=>exact⟨n,Nat.lt_succ_self _,st',hp,hn⟩
    |_=>exact hp.elim
   |brk st'=>
    cases hn;cases e with
    |exit id=>
     obtain⟨rfl,rfl⟩:=hp;show inB id _ (.exit id) _;simp[inB]
    |_=>exact hp.elim
   |ret x=>
    cases hn;cases e with
    |ret=>exact hp
    |_=>exact hp.elim
theorem zay {b:Nat}{c:Code}{B:Nat→S→Option (Ctl S R)}(RT:R→St→Prop)(σ:Nat→S→St)(F:S→St){n:Nat}{st0:S}{o:Out S R}(h:z12 B n 0 st0=some o)
 (hround: ∀i st r,i<n→B i st=some r→Tri E c (σ i st) (match r with| .next st'=>fun e s=>e= .normal∧s=σ (i+1) st'| .brk st'=>fun e s=>e= .exit b∧s=F st'| .ret x=>fun e s=>e= .ret∧RT x s))
 (hstop: ∀st,Tri E c (σ n st) (fun e s=>e= .exit b∧s=F st)):Tri E (.block b (.loop c)) (σ 0 st0) (zan F RT o):=by
 refine Tri.block (Tri.loop (fun m s=> ∃i st,m+i=n∧s=σ i st∧z12 B m i st=some o) ?_ (n:=n) ⟨0,st0,by omega,rfl,h⟩);rintro m s ⟨i,st,hm,rfl,hn⟩;cases m with
 |zero=>
  cases hn;have:i=n:=by omega
  subst this;refine(hstop st).mono fun e s' ⟨h1,h2⟩=>?_;subst h1 h2;show inB b _ (.exit b) _;simp[inB]
 |succ m=>
  simp only[z12]at hn;cases hB:B i st with
  |none=>rw[hB]at hn;cases hn
  |some r=>
   rw[hB]at hn;refine(hround i st r (by omega) hB).mono fun e s' hp=>?_;cases r with
   |next st'=>
    obtain⟨rfl,rfl⟩:=hp;exact⟨m,Nat.lt_succ_self _,i+1,st',by omega,rfl,hn⟩
   |brk st'=>
    cases hn;obtain⟨rfl,rfl⟩:=hp;show inB b _ (.exit b) _;simp[inB]
   |ret x=>
    cases hn;obtain⟨rfl,hp⟩:=hp;exact hp
theorem       zbj {b : Nat} {c : Code} {B : S → Option (Ctl S R)} {kn : S → Option Q} {kr : R → Option Q} {st0 : S} {fuel : Nat} (RT : R → St → Prop) (σ F : S → St)
    (h : outK (loopN B fuel st0) kn kr = some q) (hround : ∀ st r, B st = some r → Tri E c (σ st) (      z94 b σ F RT r))
    (hrest : ∀ st, kn st = some q → post .normal (F st)) (hret : ∀ x s', kr x = some q → RT x s' → post .ret s') : Tri E (.block b (.loop c)) (σ st0) post := by
  obtain ⟨s', ho, hk⟩ | ⟨x, ho, hk⟩ :=       z93 h
  · refine (      z8q RT σ F ho hround).mono fun e s hp => ?_
    cases e with
    | normal => have hp : s = F s' := hp
                subst hp; exact hrest _ hk
    | _ => exact hp.elim
  · refine (      z8q RT σ F ho hround).mono fun e s hp => ?_
    cases e with
    | ret => exact hret _ _ hk hp
    | _ => exact hp.elim
theorem zca {i:Nat}(h:i<maxN):zzi.wrap ((i:Int)+1)=((i+1:Nat):Int):=by
 unfold maxN at h;rw[z15 (by omega) (by omega)];simp
theorem Tri.range {ti tc n b cid id1 id2 : Nat} {L1 L2 : List Oper} {body : Code} {B : Nat → S → Option (Ctl S R)} {kn : S → Option Q} {kr : R → Option Q} {st0 : S} (RT : R → St → Prop) (σ F : S → St) (bb : Nat → Bool)
    (tk sk tkF skF tk2 sk2 : List Nat) (h : outK (   z12 B n 0 st0) kn kr = some q) (hn : n ≤ maxN) (hbc : Nat.beq b cid = false)
    (h1 : ∀ i st, ∃ c,     z22 E.P E.N L1.toArray L1 tk sk (idx ti i (σ st)) = some ((idx ti i (σ st)).put tc (.c (.d (.bool (bb i)))), c) ∧ c)
    (hbt : ∀ i, i < n → bb i = true) (hbf : bb n = false) (hF : ∀ st, Av.keep tkF skF ((idx ti n (σ st)).put tc (.c (.d (.bool false)))) = some (F st))
    (h2 : ∀ i st, ∃ c,     z22 E.P E.N L2.toArray L2 tk2 sk2 (idx ti i (σ st)) = some ((σ st).put ti (.c (.d (.int .i64 (        zzi.wrap ((i : Int) + 1))))), c) ∧ c)
    (hbody : ∀ i st c, i < n → B i st = some c → Tri E body ((idx ti i (σ st)).put tc (.c (.d (.bool true)))) (     z9i cid b ti σ F RT i c))
    (hrest : ∀ st, kn st = some q → post .normal (F st)) (hret : ∀ x s', kr x = some q → RT x s' → post .ret s') :
    Tri E (.block b (.loop (.seq (.region id1 L1.toArray false) (.seq (.cond (.tmp tc) .skip (.exit b)) (.seq (.block cid body) (.region id2 L2.toArray false)))))) (idx ti 0 (σ st0)) post := by
  have hfirst : ∀ i st post', Tri E (.seq (.cond (.tmp tc) .skip (.exit b)) (.seq (.block cid body) (.region id2 L2.toArray false))) ((idx ti i (σ st)).put tc (.c (.d (.bool (bb i))))) post' →
      Tri E (.seq (.region id1 L1.toArray false) (.seq (.cond (.tmp tc) .skip (.exit b)) (.seq (.block cid body) (.region id2 L2.toArray false)))) (idx ti i (σ st)) post' := fun i st post' ht => by
    obtain ⟨c, e1, e2⟩ := h1 i st
    refine      z02 (Tri.region ?_)
    have := Ops.seg (rest := []) e1 e2 (Ops.nil (K := (thenS E _ post') .normal) ht)
    simpa using this
  have hlook : ∀ i st (x : Bool), evO ((idx ti i (σ st)).put tc (.c (.d (.bool x)))) (.tmp tc) = some (.c (.d (.bool x))) := fun i st x => by
    simp [evO, St.put,       z09]
  obtain ⟨s', ho, hk⟩ | ⟨x, ho, hk⟩ :=       z93 h
  all_goals
    refine (       zay (E := E) (b := b) RT (fun i st => idx ti i (σ st)) F ho (fun i st r hi hB => hfirst i st _ ?_) (fun st => hfirst n st _ ?_)).mono fun e s' hp => ?_
  case inl.refine_1 | inr.refine_1 =>
    rw [hbt i hi]
    refine      z02 (Tri.cond (hlook i st true) (fun _ => Tri.skip ?_) (fun e => by cases e))
    refine      z02 (       z5h ((hbody i st r hi hB).mono fun e s' hp => ?_))
    have fin : ∀ st', s' = idx ti i (σ st') → Tri E (.region id2 L2.toArray false) s' (fun e s => e = .normal ∧ s = idx ti (i + 1) (σ st')) := fun st' e => by
      subst e
      obtain ⟨c, e1, e2⟩ := h2 i st'
      refine Tri.region ?_
      have := Ops.seg (rest := []) e1 e2 (Ops.nil (K := fun s => Exit.normal = .normal ∧ s = idx ti (i + 1) (σ st')) ⟨rfl, by rw [      zca (by omega)]; rfl⟩)
      simpa using this
    cases r with
    | next st' =>
      cases e with
      | normal => exact fin st' hp
      | exit id =>
        obtain ⟨rfl, hp⟩ := hp
        show (match Nat.beq id id with | true => _ | false => _)
        rw [Nat.beq_refl]
        exact fin st' hp
      | _ => exact hp.elim
    | brk st' =>
      cases e with
      | exit id =>
        obtain ⟨rfl, hp⟩ := hp
        show (match Nat.beq id cid with | true => _ | false => _)
        rw [hbc]
        exact ⟨rfl, hp⟩
      | _ => exact hp.elim
    | ret x =>
      cases e with
      | ret => exact ⟨rfl, hp⟩
      | _ => exact hp.elim
  case inl.refine_2 | inr.refine_2 =>
    rw [hbf]
    refine      z02 (Tri.cond (hlook n st false) (fun e => by cases e) (fun _ => Tri.keep tkF skF (hF st) (Tri.exit ⟨rfl, rfl⟩)))
  case inl.refine_3 =>
    cases e with
    | normal => have hp : s' = F _ := hp
                subst hp; exact hrest _ hk
    | _ => exact hp.elim
  case inr.refine_3 =>
    cases e with
    | ret => exact hret _ _ hk hp
    | _ => exact hp.elim
end
end Go.Av
/-
 Av,part W:rules over lists.
-/
namespace Go.Av
open Go
theorem z86 {X:Type}[Inhabited X](e:X→List D)(xs:List X)(m:Nat): ∀i,i<m→e (xs.getD i zzd)=(fun i=>e (xs.getD i zzd)) (0+i):=fun i _=>by
 show _=e (xs.getD (0+i) zzd);rw[zz9]
theorem z9r {X:Type}[Inhabited X](xs ys:List X)(i:Nat):(xs++ys).getD i zzd=if i<xs.length then xs.getD i zzd else ys.getD (i-xs.length) zzd:=by
 simp only[List.getD_eq_getElem?_getD,List.getElem?_append];split<;>rfl
section
variable {E:Env} {s:St} {X:Type} [Inhabited X]
theorem AppOk.of {P:Program}{sT xT e:TypeId}{es:Nat}(e':TypeId)(bs:Nat)(z:List C)(h1:P.underlying sT=some (.slice e))(h2:P.underlying xT=some (.slice e'))(h3:sizeT P e=some es)
 (h4:z4i P e=some bs) (h5:Nat.ble bs 256=true) (h6:zeroCells P e=some z) (h7:Nat.beq z.length es=true):AppOk P sT xT e es:=
 ⟨h1,⟨e',h2⟩,h3,⟨bs,h4,zz8 h5⟩,⟨z,h6,zz1 h7⟩⟩
theorem zaa {ops:Array Oper}{o:Oper}{d k:Nat}{sT xT e:TypeId}{es:Nat}{b x:Operand}{y:AV}(enc:X→List D)(xs ys:List X)(hkx:anyB (Nat.beq k) E.fx=false)
 (hop:o.op= .call ⟨.builtin .append, #[b,x], #[sT,xT]⟩) (hw:z07 ops s o=some true) (hd:o.dst=some d) (hlt:Nat.blt d E.N=true)
 (hok:AppOk E.P sT xT e es) (hb:evO s b=some (.c (.own k es 0 xs.length))) (hk:look s.sl k=some (.vec es xs.length (fun i=>enc (xs.getD i zzd)))) (hx:evO s x=some y)
 (hsrc:SrcOf s y es ys.length (fun i=>enc (ys.getD i zzd))) (hlim:xs.length+ys.length≤lim):
 One E ops o s (((s.drop k).slot k (.vec es (xs++ys).length (fun i=>enc ((xs++ys).getD i zzd)))).put d (.c (.own k es 0 (xs++ys).length))):=by
 have:=z97 hkx hop hw hd hlt hok hb hk (Nat.le_refl _) hx hsrc hlim;rw[zz7];have hg:z3g xs.length (fun i=>enc (xs.getD i zzd)) (fun i=>enc (ys.getD i zzd))=fun i=>enc ((xs++ys).getD i zzd):=by
  funext i;unfold z3g;rw[z9r];split<;>rfl
 rw[hg]at this;exact this
theorem zbh {ops:Array Oper}{o:Oper}{d:Nat}{t e:TypeId}{es bs:Nat}{ln cp:Operand}{kn kc:IntKind}{n c:Int}{z:List C}(enc:X→List D)(x:X)
 (hop:o.op= .makeSlice t ln cp) (hw:z07 ops s o=some true) (hd:o.dst=some d) (hlt:Nat.blt d E.N=true) (hnr:s.noRef d=true)
 (hu:E.P.underlying t=some (.slice e)) (hsz:sizeT E.P e=some es) (hes:Nat.blt 0 es=true) (hbs:z4i E.P e=some bs) (hb:Nat.ble bs 256=true)
 (hz:zeroCells E.P e=some z) (hze:Nat.beq z.length es=true) (hcs:CsLe s [] z ((enc x).map .d)) (hdl:Nat.beq (enc x).length es=true)
 (hn:evO s ln=some (.c (.d (.int kn n)))) (hc:evO s cp=some (.c (.d (.int kc c)))) (hb0:0≤n) (hnc:n≤c) (hlim:c≤lim) (hdef:enc zzd=enc x):
 One E ops o s ((s.slot d (.vec es (List.replicate n.toNat x).length (fun i=>enc ((List.replicate n.toNat x).getD i zzd)))).put d (.c (.own d es 0 (List.replicate n.toNat x).length))):=by
 have:=One.makeSlice hop hw hd hlt hnr hu hsz hes hbs hb hz hze hcs hdl hn hc hb0 hnc hlim;rw[List.length_replicate];have hg:(fun _:Nat=>enc x)=fun i=>enc ((List.replicate n.toNat x).getD i zzd):=by
  funext i;rw[List.getD_eq_getElem?_getD,List.getElem?_replicate];split
  ·rfl
  ·exact hdef.symm
 rw[hg]at this;exact this
theorem z7k {ops:Array Oper}{o:Oper}{t:TypeId}{p v:Operand}{k es i o0 sz:Nat}{y:AV}{xs:List C}{ds:List D}(enc:X→List D)(ys:List X)(x:X)
 (hop:o.op= .store t p v) (hw:z07 ops s o=some true) (hd:dstOk E.N o.dst=true) (hp:evO s p=some (.c (.vptr k es i o0))) (hk:look s.sl k=some (.vec es ys.length (fun i=>enc (ys.getD i zzd)))) (hi:i<ys.length)
 (hx:evO s v=some y) (hst:z2t y=some xs) (hcs:CsLe s [] xs (ds.map .d)) (hsz:sizeT E.P t=some sz) (hle:Nat.beq sz ds.length=true) (hin:Nat.ble (o0+ds.length) es=true)
 (hwr:wrD (enc (ys.getD i zzd)) o0 ds=enc x):
 One E ops o s (putO (s.slot k (.vec es (ys.set i x).length (fun j=>enc ((ys.set i x).getD j zzd)))) o.dst (.c .any)):=by
 have:=z99 hop hw hd hp hk hi hx hst hcs hsz hle hin;rw[List.length_set];have hg:z6s (fun i=>enc (ys.getD i zzd)) i (wrD (enc (ys.getD i zzd)) o0 ds)=fun j=>enc ((ys.set i x).getD j zzd):=by
  funext j;unfold z6s;by_cases e:j=i
  ·subst e;rw[if_pos rfl,hwr,List.getD_eq_getElem?_getD,List.getElem?_set_self hi];rfl
  ·rw[if_neg e];show enc (ys.getD j zzd)=enc ((ys.set i x).getD j zzd);rw[List.getD_eq_getElem?_getD,List.getD_eq_getElem?_getD,List.getElem?_set_ne (fun h=>e h.symm)]
 rw[hg]at this;exact this
def sub (xs:List X)(l h:Int):List X:=(xs.drop l.toNat).take (h.toNat-l.toNat)
theorem At.eqS {L:List Oper}{i:Nat}{K:St→Prop}(s':St)(e:s=s')(h:At E L i s' K):At E L i s K:=e▸h
theorem Tri.eqS {c:Code}{post:Exit→St→Prop}(s':St)(e:s=s')(h:Tri E c s' post):Tri E c s post:=e▸h
theorem At.callA {L:List Oper}{i:Nat}{K:St→Prop}{o:Oper}{cl:Call}{f:FuncId}{caps:List D}{xs args:List AV}{res:AV}(hS:Summ E.P f args [] res [])(ho:L[i]?=some o)
 (hop:o.op= .call cl) (hw:z07 L.toArray s o=some true) (hd:dstOk E.N o.dst=true) (hc:z2a s cl=some (f,caps)) (hx:z32 s cl caps=some xs) (hle:AVsArg s xs args)
 (hfl:z2d args=true) (hsol:res.solid=true) (h:At E L (i+1) (putO s o.dst res) K):At E L i s K:=
 At.one ho (One.call hop hw hd hc hx hle hfl hsol hS) h
theorem AVArg.view {k es:Nat}(enc:X→List D)(xs:List X)(hk:look s.sl k=some (.vec es xs.length (fun i=>enc (xs.getD i zzd)))):
 AVArg s (.c (.own k es 0 xs.length)) (.c (.view es xs.length (fun i=>enc (xs.getD i zzd)))):=
 .c (.own hk (by omega) rfl (z86 enc xs _))
theorem CLe.frozen {k es:Nat}{fz:List Nat}(enc:X→List D)(xs:List X)(hk:look s.sl k=some (.vec es xs.length (fun i=>enc (xs.getD i zzd)))) (hf:k∈fz):
 CLe s fz (.own k es 0 xs.length) (.d (.list es xs.length (fun i=>enc (xs.getD i zzd)))):=
 .own hk hf (by omega) rfl (z86 enc xs _)
theorem z9g {G:Nat→Prop}{φ:Nat→Option Loc}{a:Act}{w:World}{tm:List (Nat×AV)}{sl:List (Nat×Slot)}{k es n:Nat}{get get':Nat→List D}
 (h:Sim E ⟨tm,(k,.vec es n get)::sl⟩ G φ a w) (hg: ∀i,i<n→get' i=get i):Sim E ⟨tm,(k,.vec es n get')::sl⟩ G φ a w:=by
 have hin: ∀k' c,look ((k,Slot.vec es n get')::sl) k'=some c→(k'=k∧c= .vec es n get')∨(k'≠k∧look ((k,Slot.vec es n get)::sl) k'=some c):=fun k' c hc=>by
  rw[z09]at hc;by_cases e:k=k'
  ·subst e;rw[if_pos rfl]at hc;cases hc;exact .inl ⟨rfl,rfl⟩
  ·rw[if_neg e]at hc;exact .inr ⟨fun x=>e x.symm,by rw[z09,if_neg e];exact hc⟩
 have hk:look ((k,Slot.vec es n get)::sl) k=some (.vec es n get):=by simp[z09]
 have hex: ∀k' c,look ((k,Slot.vec es n get')::sl) k'=some c→ ∃c0,look ((k,Slot.vec es n get)::sl) k'=some c0:=fun k' c hc=>by
  rcases hin k' c hc with⟨rfl,_⟩|⟨_,h⟩
  ·exact⟨_,hk⟩
  ·exact⟨_,h⟩
 exact
 {h with
  sl:=fun k' c hc=>by
   rcases hin k' c hc with⟨rfl,rfl⟩|⟨_,hc⟩
   ·obtain⟨h1,h2⟩:=h.sl _ _ hk;exact⟨h1,h2.imp id fun⟨l,hl,hn,ht,he⟩=>⟨l,hl,hn,ht,fun i hi=>by rw[hg i hi];exact he i hi⟩⟩
   ·exact h.sl k' c hc
  inj:=fun k1 k2 c1 c2 l1 l2 h1 h2=>by
   obtain⟨_,h1⟩:=hex _ _ h1;obtain⟨_,h2⟩:=hex _ _ h2;exact h.inj _ _ _ _ _ _ h1 h2
  own:=fun k' c l h1 h2=>by
   obtain⟨_,h1⟩:=hex _ _ h1;exact h.own _ _ _ h1 h2
  fix:=fun k' c hx h1=>by
   obtain⟨_,h1⟩:=hex _ _ h1;exact h.fix _ _ hx h1}
theorem zau {ops:Array Oper}{o:Oper}{t e:TypeId}{len es d:Nat}{parts:Array (Nat×Operand)}{z cells:List C}(enc:X→List D)(xs:List X)
 (hop:o.op= .buildSlice t len parts) (hw:z07 ops s o=some true) (hd:o.dst=some d) (hlt:Nat.blt d E.N=true) (hnr:s.noRef d=true)
 (hu:E.P.underlying t=some (.slice e)) (hsz:sizeT E.P e=some es) (hz:zeroCells E.P e=some z) (hze:Nat.beq z.length es=true) (hes:Nat.blt 0 es=true) (hle:Nat.ble (len*es) 16777216=true)
 (hf:fillC (fun i=>some (i*es,es)) (repC z (len*es)) (parts.toList.map fun p=>(p.1,evO s p.2))=some cells) (hlen:Nat.beq xs.length len=true) (hall:AllLe s es cells (xs.map enc)):
 One E ops o s ((s.slot d (.vec es xs.length (fun i=>enc (xs.getD i zzd)))).put d (.c (.own d es 0 xs.length))):=by
 have hl:=zz1 hlen;refine(One.buildSlice hop hw hd hlt hnr hu hsz hz hze hes hle hf (by simpa using hlen) hall).weaken fun a w hs=>?_;obtain⟨G,φ,h⟩:=hs;rw[hl];exact⟨G,φ,z9g h fun i hi=>by
  have:=z6j enc xs i (by omega);rw[zz9]at this;exact this⟩
theorem DOk.callA {ops:Array Oper}{o:Oper}{x:DOp}{cl:Call}{f:FuncId}{caps:List D}{xs args:List AV}{res:AV}(hS:Summ E.P f args [] res [])
 (hop:o.op= .call cl) (hw: ∀r,z07 ops (x.need.app r) o=some true) (hd:dstOk E.N o.dst=true) (hc: ∀r,z2a (x.need.app r) cl=some (f,caps)) (hx: ∀r,z32 (x.need.app r) cl caps=some xs)
 (hle: ∀r,AVsArg (x.need.app r) xs args) (hfl:z2d args=true) (hsol:res.solid=true) (heff: ∀r,putO (x.need.app r) o.dst res=x.eff.app (x.need.app r)):DOk E ops o x:=DOk.one fun r _=>by
 rw[←heff r];exact One.call hop (hw r) hd (hc r) (hx r) (hle r) hfl hsol hS
theorem dropR_noRef {k:Nat}{cs:List C}(h:anyB (C.refs k) cs=false):cs.map (C.dropR k)=cs:=by
 have key: ∀c∈cs,c.dropR k=c:=fun c hc=>by
  unfold C.dropR;rw[z0h h c hc]
 exact(List.map_congr_left key).trans (List.map_id _)
theorem AV.dropR_noRef {k:Nat}{x:AV}(h:x.refs k=false):x.dropR k=x:=by
 cases x with
 |c x=>
  have h':C.refs k x=false:=h;show AV.c (x.dropR k)=AV.c x;unfold C.dropR;rw[h']
 |agg xs=>show AV.agg (xs.map (C.dropR k))=AV.agg xs;rw[Av.dropR_noRef h]
 |tup vs=>
  show AV.tup (vs.map fun p=>(p.1,p.2.map (C.dropR k)))=AV.tup vs;have key: ∀p∈vs,(fun p:Bool×List C=>(p.1,p.2.map (C.dropR k))) p=p:=fun p hp=>by
   have:=z0h h p hp;simp only[Av.dropR_noRef this]
  rw[List.map_congr_left key];simp
theorem z61 {k:Nat}: ∀{l:List (Nat×AV)},(∀e∈l,e.2.refs k=false)→z1l k l=l
 |[],_=>rfl
 |(t,x)::l,h=>by
  simp only[z1l,AV.dropR_noRef (h (t,x) (zz5 ..)),z61 fun e he=>h e (zz4 _ he)]
theorem z60 {k:Nat}: ∀{l:List (Nat×Slot)},(∀e∈l,e.1≠k∧e.2.refs k=false)→z14 k l=l
 |[],_=>rfl
 |(j,c)::l,h=>by
  obtain⟨h1,h2⟩:=h (j,c) (zz5 ..);have hb:Nat.beq j k=false:=by
   cases hb:Nat.beq j k with
   |false=>rfl
   |true=>exact absurd (zz1 hb) h1
  have hc:c.dropR k=c:=by
   cases c with
   |vec es n get=>rfl
   |box cs=>show Slot.box (cs.map (C.dropR k))=Slot.box cs;rw[Av.dropR_noRef h2]
  simp only[z14,hb,hc,z60 fun e he=>h e (zz4 _ he)]
theorem z58 {k:Nat}: ∀(l r:List (Nat×AV)),z1l k (l++r)=z1l k l++z1l k r
 |[],_=>rfl
 |(t,x)::l,r=>by simp only[List.cons_append,z1l,z58 l r]
theorem z57 {k:Nat}: ∀(l r:List (Nat×Slot)),z14 k (l++r)=z14 k l++z14 k r
 |[],_=>rfl
 |(j,c)::l,r=>by
  simp only[List.cons_append,z14];cases Nat.beq j k<;>simp[z57 l r]
theorem DOk.drop {ops:Array Oper}{o:Oper}{x:DOp}{k d:Nat}{v:Slot}{av:AV}(hk:memB k x.mks=true)
 (h: ∀r:St,(∀d∈x.mks,r.noRef d=true)→One E ops o (x.need.app r) ((((x.need.app r).drop k).slot k v).put d av))
 (h1:(z0b (x.eff.tm++x.need.tm)).map (look (x.eff.tm++x.need.tm))=(z0b (x.eff.tm++x.need.tm)).map (look ((d,av)::z1l k x.need.tm)))
 (h2:allB (fun t=>z0a t (x.eff.tm++x.need.tm)) (z0b ((d,av)::z1l k x.need.tm))=true)
 (h3:(z0b (x.eff.sl++x.need.sl)).map (look (x.eff.sl++x.need.sl))=(z0b (x.eff.sl++x.need.sl)).map (look ((k,v)::z14 k x.need.sl)))
 (h4:allB (fun t=>z0a t (x.eff.sl++x.need.sl)) (z0b ((k,v)::z14 k x.need.sl))=true):DOk E ops o x:=DOk.one fun r hr=>by
 obtain⟨n1,n2⟩:=z1b (hr k (z0l.1 hk));refine(h r hr).weaken fun a w hs=>hs.weaken (fun t y hy=>?_) fun t y hy=>?_
 ·have e:look (x.eff.app (x.need.app r)).tm t=look (((d,av)::z1l k x.need.tm)++r.tm) t:=by
   have:=cover (r:=r.tm) h1 h2 t;rw[←this];show look (x.eff.tm++(x.need.tm++r.tm)) t=_;rw[List.append_assoc]
  rw[e]at hy;show look ((d,av)::z1l k (x.need.tm++r.tm)) t=some y;rw[z58,z61 n1];exact hy
 ·have e:look (x.eff.app (x.need.app r)).sl t=look (((k,v)::z14 k x.need.sl)++r.sl) t:=by
   have:=cover (r:=r.sl) h3 h4 t;rw[←this];show look (x.eff.sl++(x.need.sl++r.sl)) t=_;rw[List.append_assoc]
  rw[e]at hy;show look ((k,v)::z14 k (x.need.sl++r.sl)) t=some y;rw[z57,z60 n2];exact hy
end
end Go.Av
/-
 Av,part X:calls that get variables of the caller's to write.
-/
namespace Go.Av
open Go
def renN (ρ:List (Nat×Nat))(k:Nat):Nat:=match look ρ k with|some k'=>k'|none=>k
def CC.ren (ρ:List (Nat×Nat)):CC→CC
 | .d x=> .d x
 | .ptr k o=> .ptr (renN ρ k) o
def C.ren (ρ:List (Nat×Nat)):C→C
 | .ptr k o=> .ptr (renN ρ k) o
 | .vptr k es i o=> .vptr (renN ρ k) es i o
 | .own k es off n=> .own (renN ρ k) es off n
 | .bsl k o es n=> .bsl (renN ρ k) o es n
 | .clo f n caps=> .clo f n (caps.map (CC.ren ρ))
 |c=>c
def AV.ren (ρ:List (Nat×Nat)):AV→AV
 | .c x=> .c (x.ren ρ)
 | .agg xs=> .agg (xs.map (C.ren ρ))
 | .tup vs=> .tup (vs.map fun p=>(p.1,p.2.map (C.ren ρ)))
def Slot.ren (ρ:List (Nat×Nat)):Slot→Slot
 | .box cs=> .box (cs.map (C.ren ρ))
 | .vec es n get=> .vec es n get
def CC.inK (ks:List Nat):CC→Bool
 | .d _=>true
 | .ptr k _=>anyB (Nat.beq k) ks
def allC {α:Type}(f:α→Bool):List α→Bool
 |[]=>true
 |x::r=>match f x with|true=>allC f r|false=>false
theorem z0z {α:Type}{f:α→Bool}: ∀{l:List α},allC f l=true→ ∀x∈l,f x=true
 |[],_,x,hx=>by cases hx
 |y::r,h,x,hx=>by
  simp only[allC]at h;split at h
  ·rename_i hy
   rcases List.mem_cons.1 hx with rfl|hx
   ·exact hy
   ·exact z0z h x hx
  ·cases h
def C.lent (ks:List Nat):C→Bool
 | .any=>true
 | .d _=>true
 | .zero=>true
 | .ptr k _=>anyB (Nat.beq k) ks
 | .vptr k _ _ _=>anyB (Nat.beq k) ks
 | .own k _ _ _=>anyB (Nat.beq k) ks
 | .bsl k _ _ _=>anyB (Nat.beq k) ks
 | .clo _ _ caps=>allC (CC.inK ks) caps
 | .raw _=>true
 |_=>false
def AV.lent (ks:List Nat):AV→Bool
 | .c x=>x.lent ks
 | .agg xs=>allC (C.lent ks) xs
 | .tup vs=>allC (fun p:Bool×List C=>allC (C.lent ks) p.2) vs
def Slot.lent (ks:List Nat):Slot→Bool
 | .box cs=>allC (C.lent ks) cs
 | .vec _ _ _=>true
theorem z1e {k:Nat}{ks:List Nat}:anyB (Nat.beq k) ks=true↔k∈ks:=by
 constructor
 ·intro h;induction ks with
  |nil=>cases h
  |cons y r ih=>
   simp only[anyB]at h;split at h
   ·rename_i e;rw[zz1 e];exact zz5 ..
   ·exact zz4 _ (ih h)
 ·intro h;exact z4r h (by simp)
section
variable {G V V':Nat→Prop} {φ ψ:Nat→Option Loc} {w:World} {ρ:List (Nat×Nat)} {ks:List Nat}
def Agree (ρ:List (Nat×Nat))(ks:List Nat)(φ ψ:Nat→Option Loc):Prop:= ∀k∈ks,ψ (renN ρ k)=φ k
theorem CC.ren_rel (ha:Agree ρ ks φ ψ){x:CC}{v:Value}(hk:x.inK ks=true):RelCC G ψ w (x.ren ρ) v↔RelCC G φ w x v:=by
 cases x with
 |d x=>exact Iff.rfl
 |ptr k o=>
  have:=ha k (z1e.1 hk);simp only[CC.ren,RelCC,this]
theorem C.ren_rel (ha:Agree ρ ks φ ψ){x:C}{v:Value}(hk:x.lent ks=true):RelC G V ψ w (x.ren ρ) v↔RelC G V' φ w x v:=by
 cases x with
 |any=>exact Iff.rfl
 |d x=>exact Iff.rfl
 |zero=>exact Iff.rfl
 |raw u=>exact Iff.rfl
 |view es n get=>cases hk
 |eptr cells=>cases hk
 |ptr k o=>simp only[C.ren,RelC,ha k (z1e.1 hk)]
 |vptr k es i o=>simp only[C.ren,RelC,ha k (z1e.1 hk)]
 |own k es off n=>simp only[C.ren,RelC,ha k (z1e.1 hk)]
 |bsl k o es n=>simp only[C.ren,RelC,ha k (z1e.1 hk)]
 |clo f n caps=>
  have hk:allC (CC.inK ks) caps=true:=hk;have hm:=z0z hk
  have key: ∀j u,j<caps.length→(RelCC G ψ w ((caps.map (CC.ren ρ)).getD j zzd) u↔RelCC G φ w (caps.getD j zzd) u):=fun j u hj=>by
   have e1:caps.getD j zzd=caps[j]:=by rw[List.getD_eq_getElem?_getD,List.getElem?_eq_getElem hj];rfl
   have e2:(caps.map (CC.ren ρ)).getD j zzd=caps[j].ren ρ:=by rw[List.getD_eq_getElem?_getD,List.getElem?_map,List.getElem?_eq_getElem hj];rfl
   rw[e1,e2];exact CC.ren_rel ha (hm _ (List.getElem_mem hj))
  simp only[C.ren,RelC,List.length_map];constructor
  ·rintro⟨vs,e,hl,hr⟩;exact⟨vs,e,hl,fun j hj=>(key j _ hj).1 (hr j hj)⟩
  ·rintro⟨vs,e,hl,hr⟩;exact⟨vs,e,hl,fun j hj=>(key j _ hj).2 (hr j hj)⟩
theorem RelCs.ren (ha:Agree ρ ks φ ψ): ∀{cs:List C} {vs:List Value},allC (C.lent ks) cs=true→(RelCs (RelC G V ψ w) (cs.map (C.ren ρ)) vs↔RelCs (RelC G V' φ w) cs vs)
 |[],[],_=>Iff.rfl
 |c::cs,v::vs,h=>by
  have h1:=z0z h c (zz5 ..);have h2:allC (C.lent ks) cs=true:=by simp only[allC,h1]at h;exact h
  exact and_congr (C.ren_rel ha h1) (RelCs.ren ha h2)
 |[],_::_,_=>Iff.rfl
 |_::_,[],_=>Iff.rfl
theorem RelSs.ren (ha:Agree ρ ks φ ψ): ∀{xs:List (Bool×List C)} {vs:List Value},allC (fun p:Bool×List C=>allC (C.lent ks) p.2) xs=true→
 (RelSs (RelC G V ψ w) (xs.map fun p=>(p.1,p.2.map (C.ren ρ))) vs↔RelSs (RelC G V' φ w) xs vs)
 |[],[],_=>Iff.rfl
 |p::xs,u::vs,h=>by
  have hp:=z0z h p (zz5 ..);have h2:allC (fun p:Bool×List C=>allC (C.lent ks) p.2) xs=true:=by simp only[allC,hp]at h;exact h
  refine and_congr ?_ (RelSs.ren ha h2);rcases p with⟨b,cs⟩;cases b with
  |true=>
   constructor
   ·rintro⟨us,e,g1,g2⟩;exact⟨us,e,(RelCs.ren ha hp).1 g1,g2⟩
   ·rintro⟨us,e,g1,g2⟩;exact⟨us,e,(RelCs.ren ha hp).2 g1,g2⟩
  |false=>
   match cs,hp with
   |[c],hp=>
    have hc:=z0z hp c (by simp);exact and_congr (C.ren_rel ha hc) Iff.rfl
   |[],_=>exact Iff.rfl
   |_::_::_,_=>exact Iff.rfl
 |[],_::_,_=>Iff.rfl
 |_::_,[],_=>Iff.rfl
theorem AV.ren_rel (ha:Agree ρ ks φ ψ){x:AV}{v:Value}(hk:x.lent ks=true)(h:RelAV (RelC G V' φ w) x v):RelAV (RelC G V ψ w) (x.ren ρ) v:=by
 cases x with
 |c x=>
  by_cases e:x= .any
  ·subst e;trivial
  ·have:RelS (RelC G V' φ w) (false,[x]) v:=by cases x<;>first|exact h|exact(e rfl).elim
   exact z01 ((C.ren_rel ha hk).2 this.1) this.2
 |agg xs=>obtain⟨us,e,h1,h2⟩:=h;exact⟨us,e,(RelCs.ren ha hk).2 h1,h2⟩
 |tup vs=>obtain⟨us,e,h1⟩:=h;exact⟨us,e,(RelSs.ren ha hk).2 h1⟩
theorem za8 (ha:Agree ρ ks φ ψ){x:AV}{v:Value}(hk:x.lent ks=true)(h:RelAV (RelC G V ψ w) (x.ren ρ) v):RelAV (RelC G V' φ w) x v:=by
 cases x with
 |c x=>
  by_cases e:x= .any
  ·subst e;trivial
  ·have hne:x.ren ρ≠ .any:=by cases x<;>first|exact(e rfl).elim|(intro h;cases h)
   have:RelS (RelC G V ψ w) (false,[x.ren ρ]) v:=by
    have h:RelAV (RelC G V ψ w) (.c (x.ren ρ)) v:=h;generalize x.ren ρ=y at*;cases y<;>first|exact h|exact(hne rfl).elim
   exact z01 ((C.ren_rel ha hk).1 this.1) this.2
 |agg xs=>obtain⟨us,e,h1,h2⟩:=h;exact⟨us,e,(RelCs.ren ha hk).1 h1,h2⟩
 |tup vs=>obtain⟨us,e,h1⟩:=h;exact⟨us,e,(RelSs.ren ha hk).1 h1⟩
theorem Slot.ren_rel (ha:Agree ρ ks φ ψ){k:Nat}(hk:k∈ks){c:Slot}(hc:c.lent ks=true):z1r G V ψ w (renN ρ k) (c.ren ρ)↔z1r G V' φ w k c:=by
 have e:=ha k hk;cases c with
 |vec es n get=>simp only[Slot.ren,z1r,e]
 |box cs=>
  simp only[Slot.ren,z1r,e,List.length_map];have hc:allC (C.lent ks) cs=true:=hc
  constructor
  ·rintro⟨l,hl,ht,vs,h1,h2⟩;exact⟨l,hl,ht,vs,(RelCs.ren ha hc).1 h1,h2⟩
  ·rintro⟨l,hl,ht,vs,h1,h2⟩;exact⟨l,hl,ht,vs,(RelCs.ren ha hc).2 h1,h2⟩
end
def keysS (sl:List (Nat×Slot)):List Nat:=sl.map (·.1)
theorem z1g {sl:List (Nat×Slot)}{k:Nat}{c:Slot}(h:look sl k=some c):k∈keysS sl:=List.mem_map.2 ⟨(k,c),z0m h,rfl⟩
theorem z2q: ∀{sl:List (Nat×Slot)} {k:Nat},k∈keysS sl→ ∃c,look sl k=some c
 |[],k,h=>by cases h
 |(j,c)::r,k,h=>by
  rw[z09];by_cases e:j=k
  ·exact⟨c,by rw[if_pos e]⟩
  ·rw[if_neg e];rcases List.mem_cons.1 h with h|h
   ·exact absurd h.symm e
   ·exact z2q h
def renSl (ρ:List (Nat×Nat))(sl:List (Nat×Slot)):List (Nat×Slot):=sl.map fun p=>(renN ρ p.1,p.2.ren ρ)
theorem z5q {ρ:List (Nat×Nat)}: ∀{sl:List (Nat×Slot)} {k':Nat} {c':Slot},look (renSl ρ sl) k'=some c'→ ∃k c,k'=renN ρ k∧look sl k=some c∧c'=c.ren ρ
 |[],_,_,h=>by cases h
 |(j,c)::r,k',c',h=>by
  simp only[renSl,List.map_cons,z09]at h;by_cases e:renN ρ j=k'
  ·rw[if_pos e]at h;cases h;exact⟨j,c,e.symm,by rw[z09,if_pos rfl],rfl⟩
  ·rw[if_neg e]at h;obtain⟨k,c1,h1,h2,h3⟩:=z5q (sl:=r) h;exact⟨k,c1,h1,by rw[z09,if_neg (fun x=>e (by rw[h1,x]))];exact h2,h3⟩
theorem z7f {α:Type}: ∀{l r:List (Nat×α)} {k:Nat} {x:α},look (l++r) k=some x→look l k=some x∨(look l k=none∧look r k=some x)
 |[],r,k,x,h=> .inr ⟨rfl,h⟩
 |(j,y)::l,r,k,x,h=>by
  simp only[List.cons_append,z09]at h ⊢;by_cases e:j=k
  ·rw[if_pos e]at h ⊢;exact .inl h
  ·rw[if_neg e]at h ⊢;exact z7f h
def backN (ρ:List (Nat×Nat)):List Nat→Nat→Option Nat
 |[],_=>none
 |k::r,k'=>match Nat.beq (renN ρ k) k' with|true=>some k|false=>backN ρ r k'
theorem z3h {ρ:List (Nat×Nat)}: ∀{ks:List Nat} {k k':Nat},backN ρ ks k'=some k→k∈ks∧renN ρ k=k'
 |[],_,_,h=>by cases h
 |j::r,k,k',h=>by
  simp only[backN]at h;split at h
  ·rename_i e;cases h;exact⟨zz5 ..,zz1 e⟩
  ·obtain⟨h1,h2⟩:=z3h h;exact⟨zz4 _ h1,h2⟩
theorem z7q {ρ:List (Nat×Nat)}: ∀{ks:List Nat} {k':Nat},backN ρ ks k'=none→ ∀k∈ks,renN ρ k≠k'
 |[],_,_,k,h=>by cases h
 |j::r,k',h,k,hk=>by
  simp only[backN]at h;split at h
  ·cases h
  ·rename_i e
   rcases List.mem_cons.1 hk with rfl|hk
   ·intro x;rw[x]at e;simp at e
   ·exact z7q h k hk
def injB (ρ:List (Nat×Nat))(ks:List Nat):Bool:=allC (fun k=>allC (fun j=>match Nat.beq (renN ρ k) (renN ρ j)with|true=>Nat.beq k j|false=>true) ks) ks
theorem z8z {ρ:List (Nat×Nat)}{ks:List Nat}(h:injB ρ ks=true){k j:Nat}(hk:k∈ks)(hj:j∈ks)(e:renN ρ k=renN ρ j):k=j:=by
 have:=z0z (z0z h k hk) j hj;simp only[e,Nat.beq_refl]at this;exact zz1 this
def z6w:CC→AV
 | .d x=> .c (.d x)
 | .ptr k o=> .c (.ptr k o)
def z39 (s:St)(c:Call):Option (FuncId×Nat×List CC):=
 match c.callee with
 | .value x=>match evO s x with
  |some (.c (.d (.fn f caps)))=>some (f,0,caps.map .d)
  |some (.c (.clo f n caps))=>some (f,n,caps)
  |_=>none
 |_=>none
def argsL (s:St)(c:Call)(n:Nat)(caps:List CC):Option (List AV):=
 match allAV (c.args.toList.map (evO s))with
 |some xs=>some ((caps.map z6w).take n++(xs++(caps.map z6w).drop n))
 |none=>none
def AV.refsAny (ks:List Nat)(x:AV):Bool:=anyB (fun k=>x.refs k) ks
inductive AVsArgL (s:St) (ρ:List (Nat×Nat)) (ks im:List Nat):List AV→List AV→Prop
 |nil:AVsArgL s ρ ks im [] []
 |ren {x y:AV} {xs ys:List AV} (e:x=y.ren ρ) (h:y.lent ks=true) (t:AVsArgL s ρ ks im xs ys):AVsArgL s ρ ks im (x::xs) (y::ys)
 |flat {x y:AV} {xs ys:List AV} (h:AVArg s x y) (hf:y.flat=true) (hn:x.refsAny im=false) (t:AVsArgL s ρ ks im xs ys):AVsArgL s ρ ks im (x::xs) (y::ys)
def LentS (s:St)(ρ:List (Nat×Nat))(ks:List Nat):List (Nat×Slot)→Prop
 |[]=>True
 |(k,c)::r=>(look s.sl (renN ρ k)=some (c.ren ρ)∧c.lent ks=true)∧LentS s ρ ks r
theorem LentS.look {s:St}{ρ:List (Nat×Nat)}{ks:List Nat}: ∀{sl:List (Nat×Slot)},LentS s ρ ks sl→ ∀{k c},Av.look sl k=some c→Av.look s.sl (renN ρ k)=some (c.ren ρ)∧c.lent ks=true
 |[],_,_,_,h=>by cases h
 |(j,c0)::r,⟨h1,h2⟩,k,c,h=>by
  rw[z09]at h;by_cases e:j=k
  ·subst e;rw[if_pos rfl]at h;cases h;exact h1
  ·rw[if_neg e]at h;exact LentS.look h2 h
section
variable {E:Env} {s:St} {G:Nat→Prop} {φ:Nat→Option Loc} {a:Act} {w:World}
theorem CArg.relX (h:Sim E s G φ a w){c c':C}(hc:CArg s c c'){v:Value}(hv:RelC G E.V φ w c v)(hf:c'.flat=true){X:Nat→Prop}(hX: ∀b,E.V b→X b)
 (hS: ∀k sc l,c.refs k=true→look s.sl k=some sc→φ k=some l→X l.blk) {ψ:Nat→Option Loc}:RelC G X ψ w c' v:=by
 cases hc with
 |le hc=>exact(z7j hf hX ((CLe.rel h hc hv).mono (Same.refl _ _) (Same.refl _ _) (fun _ hb=>z44 hb) fun _ _=>rfl))
 | @own k es off m m' n get get' hk hm hm' hg=>
  subst hm';rcases hv with⟨h0,A,rfl⟩|⟨l,hl,hle,rfl⟩
  ·exact .inl ⟨h0,A,0,rfl⟩
  ·obtain⟨hmx,hs|⟨l',hl',hn,_,he⟩⟩:=h.sl _ _ hk
   ·rw[hl]at hs;cases hs.1
   ·rw[hl]at hl';cases hl';refine .inr ⟨l.blk,_,_,.inr (hS k _ l (by simp[C.refs]) hk hl),rfl,by omega,by omega,fun i hi=>?_⟩;rw[hg i hi];exact he.part hm i hi
 | @bsl k o es n n' cs ds get' hk hd hl' hn hmx hg=>
  cases hn;have h2:=CArg.rel h (.bsl hk hd hl' rfl hmx hg) hv rfl (ψ:=ψ)
  obtain⟨l,cap,hl,hc,rfl⟩:=hv;rcases h2 with⟨h0,A,cap',e⟩|⟨b,off,cap',_,e,g1,g2,g3⟩
  ·cases e;exact .inl ⟨rfl,_,_,rfl⟩
  ·cases e;exact .inr ⟨_,_,_,.inr (hS k _ l (by simp[C.refs]) hk hl),rfl,g1,g2,g3⟩
theorem CsArg.relX (h:Sim E s G φ a w){cs cs':List C}(hc:CsArg s cs cs'){X:Nat→Prop}(hX: ∀b,E.V b→X b){ψ:Nat→Option Loc}:
 ∀{vs:List Value},(∀c∈cs,∀k sc l,c.refs k=true→look s.sl k=some sc→φ k=some l→X l.blk)→(∀c∈cs',c.flat=true)→RelCs (RelC G E.V φ w) cs vs→RelCs (RelC G X ψ w) cs' vs:=by
 induction hc with
 |refl cs=>
  intro vs hS hf hv;have key: ∀(cs:List C) (vs:List Value),(∀c∈cs,∀k sc l,c.refs k=true→look s.sl k=some sc→φ k=some l→X l.blk)→(∀c∈cs,c.flat=true)→RelCs (RelC G E.V φ w) cs vs→RelCs (RelC G X ψ w) cs vs:=by
   intro cs;induction cs with
   |nil=>intro vs _ _ hv;cases vs with|nil=>trivial|cons _ _=>exact hv.elim
   |cons c cs ih=>
    intro vs hS hf hv;cases vs with
    |nil=>exact hv.elim
    |cons v vs=>exact⟨CArg.relX h (.le (.refl c)) hv.1 (hf _ (zz5 ..)) hX (hS _ (zz5 ..)),ih vs (fun c hc=>hS c (zz4 _ hc)) (fun c hc=>hf c (zz4 _ hc)) hv.2⟩
  exact key cs vs hS hf hv
 |nil=>intro vs _ _ hv;cases vs with|nil=>trivial|cons _ _=>exact hv.elim
 |cons hc _ ih=>
  intro vs hS hf hv;cases vs with
  |nil=>exact hv.elim
  |cons v vs=>exact⟨CArg.relX h hc hv.1 (hf _ (zz5 ..)) hX (hS _ (zz5 ..)),ih (fun c hc=>hS c (zz4 _ hc)) (fun c hc=>hf c (zz4 _ hc)) hv.2⟩
theorem z3f {k:Nat}{x:AV}{c:C}(hc:c∈x.cells)(h:c.refs k=true):x.refs k=true:=by
 cases e:x.refs k with
 |true=>rfl
 |false=>rw[AV.refs_cells e c hc]at h;cases h
theorem AVArg.relX (h:Sim E s G φ a w){x x':AV}(hx:AVArg s x x')(hf:x'.flat=true){v:Value}(hv:RAV E G φ w x v){X:Nat→Prop}(hX: ∀b,E.V b→X b)
 (hS: ∀k sc l,x.refs k=true→look s.sl k=some sc→φ k=some l→X l.blk) {ψ:Nat→Option Loc}:RelAV (RelC G X ψ w) x' v:=by
 have hcl:=z5x hf;cases hx with
 |refl=>exact hv.mono fun c hc v hcv=>CArg.relX h (.le (.refl c)) hcv (hcl c hc) hX fun k sc l hr=>hS k sc l (z3f hc hr)
 | @c p q hc=>
  have hq:q.flat=true:=hf;by_cases e:p= .any
  ·subst e;cases hc with
   |le hc=>cases hc<;>trivial
  ·obtain⟨h1,h2⟩:=z1v hv e;exact z01 (hc.relX h h1 hq hX hS) h2
 |agg hc=>obtain⟨us,e,h1,h2⟩:=hv;exact⟨us,e,hc.relX h hX (fun c hm k sc l hr=>hS k sc l (z3f hm hr)) hcl h1,h2⟩
theorem AVsArgL.rel (h:Sim E s G φ a w){ρ:List (Nat×Nat)}{ks im:List Nat}{xs ys:List AV}(hx:AVsArgL s ρ ks im xs ys){X:Nat→Prop}(hX: ∀b,E.V b→X b)
 (hS: ∀k sc l,k∉im→look s.sl k=some sc→φ k=some l→X l.blk): ∀{vs:List Value},z0d (RelC G E.V φ w) xs vs→z0d (RelC G X (fun k=>φ (renN ρ k)) w) ys vs:=by
 induction hx with
 |nil=>intro vs hv;cases vs with|nil=>trivial|cons _ _=>exact hv.elim
 |ren e hk _ ih=>
  intro vs hv;cases vs with
  |nil=>exact hv.elim
  |cons v vs=>subst e;exact⟨za8 (fun k _=>rfl) hk hv.1,ih hv.2⟩
 |flat hc hf hn _ ih=>
  intro vs hv;cases vs with
  |nil=>exact hv.elim
  |cons v vs=>exact⟨hc.relX h hf hv.1 hX (fun k sc l hr=>hS k sc l (fun hm=>by have:=z0h hn k hm;rw[this]at hr;cases hr)),ih hv.2⟩
theorem z6g: ∀{caps:List CC} {us:List Value},caps.length=us.length→(∀j,j<caps.length→RelCC G φ w (caps.getD j zzd) (us.getD j undef))→z0d (RelC G E.V φ w) (caps.map z6w) us
 |[],[],_,_=>trivial
 |x::xs,u::us,hl,h=>by
  refine⟨?_,z6g (by simpa using hl) fun j hj=>by have:=h (j+1) (by simpa using hj);simpa using this⟩;have h0:RelCC G φ w x u:=by have:=h 0 (by simp);simpa using this
  cases x with
  |d x=>exact z01 (x:= .d x) h0 (RelD.one h0)
  |ptr k o=>obtain⟨l,hl',rfl⟩:=h0;exact z01 (x:= .ptr k o) ⟨l,hl',rfl⟩ rfl
 |[],_::_,hl,_=>by simp at hl
 |_::_,[],hl,_=>by simp at hl
theorem z0d.take {R:C→Value→Prop}: ∀{xs:List AV} {vs:List Value},z0d R xs vs→ ∀n,z0d R (xs.take n) (vs.take n)
 |[],[],_,n=>by simp[z0d]
 |_::_,_::_,⟨h1,h2⟩,n=>by
  cases n with
  |zero=>simp[z0d]
  |succ n=>exact⟨h1,z0d.take h2 n⟩
 |[],_::_,h,_=>h.elim
 |_::_,[],h,_=>h.elim
theorem z0d.drop {R:C→Value→Prop}: ∀{xs:List AV} {vs:List Value},z0d R xs vs→ ∀n,z0d R (xs.drop n) (vs.drop n)
 |[],[],_,n=>by simp[z0d]
 |_::_,_::_,⟨h1,h2⟩,n=>by
  cases n with
  |zero=>exact⟨h1,h2⟩
  |succ n=>exact z0d.drop h2 n
 |[],_::_,h,_=>h.elim
 |_::_,[],h,_=>h.elim
theorem zaz (h:Sim E s G φ a w){c:Call}{f:FuncId}{n:Nat}{caps:List CC}{xs:List AV}(hc:z39 s c=some (f,n,caps))(hx:argsL s c n caps=some xs)(ty:TypeId):
 ∃vs:List Value,(∀w,(do let d ←resolve a.eval c ty;invoke d.target d.args:Sem Next).run E.P w=(callFunc f vs.toArray).run E.P w)∧z0d (RelC G E.V φ w) xs vs:=by
 obtain⟨cal,args,ats⟩:=c;unfold z39 at hc;simp only at hc;have key: ∀(x:Operand) (us:List Value),a.eval x= .func (.func f) (us.take n).toArray (us.drop n).toArray→cal= .value x→z0d (RelC G E.V φ w) (caps.map z6w) us→
  ∃vs:List Value,(∀w,(do let d ←resolve a.eval ⟨cal,args,ats⟩ ty;invoke d.target d.args:Sem Next).run E.P w=(callFunc f vs.toArray).run E.P w)∧z0d (RelC G E.V φ w) xs vs:=fun x us hu hcal hr=>by
  simp only[argsL]at hx;split at hx
  ·rename_i ys hys
   cases hx;have h1:=z6d h hys
   refine⟨us.take n++(args.toList.map a.eval++us.drop n),fun w=>?_,(hr.take n).append (h1.append (hr.drop n))⟩;subst hcal;simp only[resolve,Deferred.ofValue,hu,zz2,zz6,zz0,invoke];congr 2;apply Array.ext';simp
  ·cases hx
 split at hc
 ·rename_i cal' x
  split at hc
  ·rename_i f' caps' hv
   cases hc;have hfv:RelD G w (.fn f caps') (a.eval x):=(h.ev hv).1
   generalize hu:a.eval x=u at hfv;cases hfv with
   |fn _ _ us hl hr=>
    refine key x us (by simpa using hu) rfl (z6g (by simpa using hl) fun j hj=>?_);have hj':j<caps'.length:=by simpa using hj
    have:(caps'.map CC.d).getD j zzd=CC.d (D.at caps' j):=by simp[D.at,List.getD_eq_getElem?_getD,List.getElem?_map,List.getElem?_eq_getElem hj']
    rw[this];exact hr j hj'
  ·rename_i f' n' caps' hv
   cases hc;obtain⟨us,hu,hl,hr⟩:=(h.ev hv).1;exact key x us hu rfl (z6g hl hr)
  ·cases hc
 ·cases hc
def oddK (l r:List Nat):List Nat:=(l.filter fun k=> !anyB (Nat.beq k) r)++(r.filter fun k=> !anyB (Nat.beq k) l)
theorem z9u {l r:List Nat}{k:Nat}(h:k∈l++r):k∈oddK l r∨(k∈l∧k∈r):=by
 unfold oddK;by_cases h1:k∈l
 ·by_cases h2:k∈r
  ·exact .inr ⟨h1,h2⟩
  ·refine .inl (List.mem_append_left _ (List.mem_filter.2 ⟨h1,?_⟩));cases e:anyB (Nat.beq k) r with
   |true=>exact absurd (z1e.1 e) h2
   |false=>rfl
 ·rcases List.mem_append.1 h with h|h
  ·exact absurd h h1
  ·refine .inl (List.mem_append_right _ (List.mem_filter.2 ⟨h,?_⟩));cases e:anyB (Nat.beq k) l with
   |true=>exact absurd (z1e.1 e) h1
   |false=>rfl
def lkOk (lk im im':List Nat):Bool:=match allC (fun k=>anyB (Nat.beq k) lk) im' with|true=>true|false=> !anyB (fun k=>anyB (Nat.beq k) lk) im
def lkOk3 (lk:List Nat)(ρ:List (Nat×Nat))(ks ks':List Nat):Bool:=
 match allC (fun j=>match anyB (Nat.beq j) ks with|true=>true|false=>anyB (Nat.beq (renN ρ j)) lk) ks' with
 |true=>true
 |false=>allC (fun i=>match anyB (Nat.beq i) ks' with|true=>true|false=> !anyB (Nat.beq (renN ρ i)) lk) ks
theorem One.callP {ops : Array Oper} {o : Oper} {cl : Call} {f : FuncId} {nf : Nat} {caps : List CC} {xs args : List AV} {res : AV} {sl sl' : List (Nat × Slot)} (ρ : List (Nat × Nat)) (s0 : St)
    (hS : Summ E.P f args sl res sl') (hop : o.op = .call cl) (hw :     z07 ops s o = some true) (hd : dstOk E.N o.dst = true) (hc :     z39 s cl = some (f, nf, caps)) (hx : argsL s cl nf caps = some xs)
    (hle : AVsArgL s ρ (keysS sl) ((keysS sl).map (renN ρ)) xs args) (hsl : LentS s ρ (keysS sl) sl) (hinj : injB ρ (keysS sl) = true) (hinj' : injB ρ (keysS sl') = true) (hres : res.lent (keysS sl') = true)
    (hsl' : allC (fun p : Nat × Slot => p.2.lent (keysS sl')) sl' = true) (hs : Sim E s G φ a w) (hs0 : Sim E s0 G φ a w) (s' : St)
    (hook : ∀ {G' : Nat → Prop} {χ : Nat → Option Loc} {w' : World}, (∀ k', (∀ k ∈ keysS sl', renN ρ k ≠ k') → χ k' = φ k') → Same G w w' → Same E.V w w' → (∀ b, G b → G' b) → Sim E ⟨s0.tm, renSl ρ sl' ++ s0.sl⟩ G' χ a w' → Sim E s' G' χ a w') (hkey : ∀ t x, look s0.sl t = some x → ∃ y, look s.sl t = some y)
    (hk0 : allC (fun k => match look s0.sl (renN ρ k) with | some _ => false | none => true) (keysS sl ++ keysS sl') = true) (hodd : allC (fun k => s0.noRef (renN ρ k)) (oddK (keysS sl) (keysS sl')) = true)
    (hfx : allC (fun k => !anyB (Nat.beq (renN ρ k)) E.fx) (oddK (keysS sl) (keysS sl')) = true) (hlk : lkOk3 E.lk ρ (keysS sl) (keysS sl') = true) :
    Region.wanted o (yielded ops a.tmps) = true ∧ ∀ (next : Act → World → Prop) (Q : Exit → Act → World → Prop), (∀ a' w', SimE E (putO s' o.dst (res.ren ρ)) a' w' → next a' w') → o.wp E.P a w next Q := by
  obtain ⟨vs, hrun, hrel⟩ :=        zaz hs hc hx o.type
  let ψ : Nat → Option Loc := fun k => φ (renN ρ k)
  -- the lent blocks
  have lentB : ∀ b, Blks ψ sl b → ∃ k c l, look s.sl (renN ρ k) = some c ∧ k ∈ keysS sl ∧ φ (renN ρ k) = some l ∧ b = l.blk := fun b ⟨k, c, l, h1, h2, h3⟩ => ⟨k, _, l, (hsl.look h1).1,       z1g h1, h2, h3⟩
  have nG : ∀ b, G b → ¬ Blks ψ sl b := fun b hb hB => by
    obtain ⟨k, c, l, h1, _, h2, rfl⟩ := lentB b hB
    exact (hs.own _ _ _ h1 h2).1 hb
  have nV : ∀ b, E.V b → ¬ Blks ψ sl b := fun b hb hB => by
    obtain ⟨k, c, l, h1, _, h2, rfl⟩ := lentB b hB
    exact (hs.own _ _ _ h1 h2).2.1 hb
  have vlt : ∀ b, E.V b → b < w.heap.size := fun b hb => Nat.lt_of_lt_of_le (hs.vsz b hb).1 hs.kp.size
  have nS : ∀ k sc l, k ∉ (keysS sl).map (renN ρ) → look s.sl k = some sc → φ k = some l → ¬ Blks ψ sl l.blk := fun k sc l hk h1 h2 hB => by
    obtain ⟨j, c, l', g1, g2, g3, g4⟩ := lentB _ hB
    exact hk (List.mem_map.2 ⟨j, g2, (hs.inj _ _ _ _ _ _ h1 g1 h2 g3 g4).symm⟩)
  have hargs := hle.rel hs (X := fun b => b < w.heap.size ∧ ¬ Blks ψ sl b) (fun b hb => ⟨vlt b hb, nV b hb⟩) (fun k sc l hk h1 h2 => ⟨(hs.own _ _ _ h1 h2).2.2.1, nS k sc l hk h1 h2⟩) hrel
  have hslots : SlotsOk G (fun b => b < w.heap.size ∧ ¬ Blks ψ sl b) ψ w sl :=
    { rel := fun k c hk => by
        obtain ⟨h1, h2⟩ := hsl.look hk
        exact (Slot.ren_rel (fun _ _ => rfl) (      z1g hk) h2).1 (hs.sl _ _ h1)
      inj := fun k k' c c' l l' h1 h2 h3 h4 h5 => by
        have := hs.inj _ _ _ _ _ _ (hsl.look h1).1 (hsl.look h2).1 h3 h4 h5
        exact       z8z hinj (      z1g h1) (      z1g h2) this
      own := fun k c l h1 h2 => by
        have := hs.own _ _ _ (hsl.look h1).1 h2
        exact ⟨this.1, this.2.2.1⟩ }
  have hact := hS G ψ w vs hs.gsz hslots hargs
  refine ⟨         z0s hs hw, fun next Q hn => ?_⟩
  unfold Oper.wp
  have he : execOp a.eval o = (do let d ← resolve a.eval cl o.type; invoke d.target d.args : Sem Next) := by
    unfold execOp; rw [hop]
  rw [he, hrun]
  refine       z8s hact fun e w' ⟨v, G', φ', he, hd'⟩ => ⟨v, he, ?_⟩
  let χ : Nat → Option Loc := fun k' => match backN ρ (keysS sl') k' with | some k => φ' k | none => φ k'
  have hagree : Agree ρ (keysS sl') φ' χ := fun k hk => by
    show (match backN ρ (keysS sl') (renN ρ k) with | some k => φ' k | none => φ (renN ρ k)) = φ' k
    cases hb : backN ρ (keysS sl') (renN ρ k) with
    | none => exact absurd rfl (       z7q hb k hk)
    | some j =>
      obtain ⟨h1, h2⟩ :=        z3h hb
      rw [      z8z hinj' h1 hk h2]
  have hsame : ∀ b, b < w.heap.size → ¬ Blks ψ sl b → w'.heap[b]? = w.heap[b]? := fun b h1 h2 => hd'.kp.block b h1 h2
  have sg : Same G w w' := fun b hb => hsame b (hs.gsz b hb) (nG b hb)
  have sv : Same E.V w w' := fun b hb => hsame b (vlt b hb) (nV b hb)
  -- what is spoken of in s0
  have hχ : ∀ k', (s0.noRef k' = false) → χ k' = φ k' ∨ False := fun k' hr => by
    show (match backN ρ (keysS sl') k' with | some k => φ' k | none => φ k') = φ k' ∨ False
    cases hb : backN ρ (keysS sl') k' with
    | none => exact .inl rfl
    | some k =>
      obtain ⟨h1, rfl⟩ :=        z3h hb
      rcases      z9u (l := keysS sl) (r := keysS sl') (List.mem_append_right _ h1) with h | ⟨h2, _⟩
      · rw [     z0z hodd k h] at hr; cases hr
      · obtain ⟨c, hc⟩ :=       z2q h2
        obtain ⟨c', hc'⟩ :=       z2q h1
        exact .inl (hd'.fix k c c' hc hc')
  have tmRef : ∀ t x, look s0.tm t = some x → ∀ c ∈ x.cells, ∀ k, c.refs k = true → χ k = φ k := fun t x hx c hc k hk => by
    refine (hχ k ?_).resolve_right id
    cases e : s0.noRef k with
    | false => rfl
    | true => rw [AV.refs_cells ((          z1b e).1 _ (     z0m hx)) c hc] at hk; cases hk
  have slRef : ∀ j c, look s0.sl j = some c → ∀ k, Slot.refs k c = true → χ k = φ k := fun j c hc k hk => by
    refine (hχ k ?_).resolve_right id
    cases e : s0.noRef k with
    | false => rfl
    | true => rw [((          z1b e).2 _ (     z0m hc)).2] at hk; cases hk
  have slNot : ∀ j c, look s0.sl j = some c → ∀ k ∈ keysS sl ++ keysS sl', renN ρ k ≠ j := fun j c hc k hk e => by
    have :=      z0z hk0 k hk
    rw [e, hc] at this
    cases this
  have slχ : ∀ j c, look s0.sl j = some c → χ j = φ j := fun j c hc => by
    show (match backN ρ (keysS sl') j with | some k => φ' k | none => φ j) = φ j
    cases hb : backN ρ (keysS sl') j with
    | none => rfl
    | some k =>
      obtain ⟨h1, h2⟩ :=        z3h hb
      exact absurd h2 (slNot j c hc k (List.mem_append_right _ h1))
  have slB : ∀ j c l, look s0.sl j = some c → φ j = some l → l.blk < w.heap.size ∧ ¬ Blks ψ sl l.blk := fun j c l hc hl =>
    ⟨(hs0.own _ _ _ hc hl).2.2.1, nS j _ l (fun hm => by
      obtain ⟨k, hk, e⟩ := List.mem_map.1 hm
      exact slNot j c hc k (List.mem_append_left _ hk) e) (hkey _ _ hc).choose_spec hl⟩
  -- the slots that came back
  have hin : ∀ k' c', look (renSl ρ sl' ++ s0.sl) k' = some c' → (∃ k c, k' = renN ρ k ∧ look sl' k = some c ∧ c' = c.ren ρ) ∨ look s0.sl k' = some c' := fun k' c' h => by
    rcases      z7f h with h | ⟨_, h⟩
    · exact .inl (       z5q h)
    · exact .inr h
  have newB : ∀ k c l, look sl' k = some c → φ' k = some l → Blks ψ sl l.blk ∨ w.heap.size ≤ l.blk := hd'.blk
  have hsim : Sim E ⟨s0.tm, renSl ρ sl' ++ s0.sl⟩ G' χ a w' :=
    { hs with
      tm := fun t x hx => by
        obtain ⟨u, hu, hr⟩ := hs0.tm t x hx
        exact ⟨u, hu, hr.mono fun c hc v hcv => hcv.mono sg sv hd'.up (tmRef t x hx c hc)⟩
      sl := fun k' c' hk' => by
        rcases hin k' c' hk' with ⟨k, c, rfl, hc, rfl⟩ | h
        · exact (Slot.ren_rel hagree (      z1g hc) (     z0z hsl' (k, c) (     z0m hc))).2 (hd'.slots.rel k c hc)
        · exact (hs0.sl _ _ h).mono sg sv hd'.up (slχ _ _ h) (slRef _ _ h) fun l hl => by
            obtain ⟨h1, h2⟩ := slB _ _ _ h hl
            exact hsame _ h1 h2
      inj := fun k1 k2 c1 c2 l1 l2 h1 h2 e1 e2 eb => by
        rcases hin _ _ h1 with ⟨j1, d1, rfl, g1, _⟩ | g1 <;> rcases hin _ _ h2 with ⟨j2, d2, rfl, g2, _⟩ | g2
        · rw [hagree _ (      z1g g1)] at e1
          rw [hagree _ (      z1g g2)] at e2
          rw [hd'.slots.inj _ _ _ _ _ _ g1 g2 e1 e2 eb]
        · rw [hagree _ (      z1g g1)] at e1
          rw [slχ _ _ g2] at e2
          obtain ⟨q1, q2⟩ := slB _ _ _ g2 e2
          rcases newB _ _ _ g1 e1 with hb | hb
          · rw [eb] at hb; exact absurd hb q2
          · omega
        · rw [hagree _ (      z1g g2)] at e2
          rw [slχ _ _ g1] at e1
          obtain ⟨q1, q2⟩ := slB _ _ _ g1 e1
          rcases newB _ _ _ g2 e2 with hb | hb
          · rw [← eb] at hb; exact absurd hb q2
          · omega
        · rw [slχ _ _ g1] at e1
          rw [slχ _ _ g2] at e2
          exact hs0.inj _ _ _ _ _ _ g1 g2 e1 e2 eb
      own := fun k' c' l h1 h2 => by
        rcases hin _ _ h1 with ⟨k, c, rfl, g1, _⟩ | g1
        · rw [hagree _ (      z1g g1)] at h2
          obtain ⟨o1, o2⟩ := hd'.slots.own k c l g1 h2
          rcases newB _ _ _ g1 h2 with hb | hb
          · refine ⟨o1, fun hv => nV _ hv hb, o2, ?_⟩
            obtain ⟨j, cj, lj, q1, q2, q3, q4⟩ := lentB _ hb
            cases hkk : anyB (Nat.beq k) (keysS sl) with
            | true =>
              obtain ⟨c0, hc0⟩ :=       z2q (     z1e.1 hkk)
              have hf := hd'.fix k c0 c hc0 g1
              rw [h2] at hf
              exact (hs.own _ _ _ (hsl.look hc0).1 hf.symm).2.2.2
            | false =>
              rcases (hs.own _ _ _ q1 q3).2.2.2 with p | ⟨p1, p2⟩
              · exact .inl (by omega)
              · unfold lkOk3 at hlk
                split at hlk
                · rename_i hall
                  have :=      z0z hall k (      z1g g1)
                  rw [hkk] at this
                  exact .inr ⟨     z1e.1 this, by rw [q4]; exact p2⟩
                · have :=      z0z hlk j q2
                  cases hjj : anyB (Nat.beq j) (keysS sl') with
                  | false => rw [hjj] at this; simp only [     z1e.2 p1] at this; cases this
                  | true =>
                    exfalso
                    obtain ⟨c1, hc1⟩ :=       z2q (     z1e.1 hjj)
                    obtain ⟨c0, hc0⟩ :=       z2q q2
                    have hf := hd'.fix j c0 c1 hc0 hc1
                    have hf : φ' j = some lj := hf.trans q3
                    have := hd'.slots.inj _ _ _ _ _ _ g1 hc1 h2 hf q4
                    subst this
                    rw [     z1e.2 q2] at hkk; cases hkk
          · exact ⟨o1, fun hv => by have := vlt _ hv; omega, o2, .inl (Nat.le_trans hs.kp.size hb)⟩
        · rw [slχ _ _ g1] at h2
          obtain ⟨o1, o2, o3, o4⟩ := hs0.own _ _ _ g1 h2
          refine ⟨fun hg => ?_, o2, Nat.lt_of_lt_of_le o3 hd'.kp.size, o4⟩
          rcases hd'.fr _ hg with hg | hg
          · exact o1 hg
          · omega
      gsz := hd'.sz
      g0 := fun b hb => hd'.up _ (hs.g0 b hb)
      gf := fun b hb => by
        rcases hd'.fr b hb with hb | hb
        · exact hs.gf b hb
        · exact .inr (Nat.le_trans hs.kp.size hb)
      kp := hs.kp.trans ⟨hd'.kp.os, hd'.kp.tape, hd'.kp.output, hd'.kp.size, fun b hb hL => hsame b (Nat.lt_of_lt_of_le hb hs.kp.size) fun hB => by
        obtain ⟨k, c, l, h1, _, h2, rfl⟩ := lentB b hB
        rcases (hs.own _ _ _ h1 h2).2.2.2 with p | p
        · omega
        · exact hL p.2⟩
      fix := fun k' c' hfx' h1 => by
        rcases hin _ _ h1 with ⟨k, c, rfl, g1, _⟩ | g1
        · rw [hagree _ (      z1g g1)]
          rcases      z9u (l := keysS sl) (r := keysS sl') (List.mem_append_right _ (      z1g g1)) with h | ⟨h2, _⟩
          · have :=      z0z hfx k h
            rw [     z1e.2 hfx'] at this; cases this
          · obtain ⟨c0, hc0⟩ :=       z2q h2
            rw [hd'.fix k c0 c hc0 g1]
            exact hs.fix _ _ hfx' (hsl.look hc0).1
        · rw [slχ _ _ g1]
          exact hs0.fix _ _ hfx' g1 }
  have hresr : RAV E G' χ w' (res.ren ρ) v := AV.ren_rel hagree hres hd'.rel
  refine hn _ _ ⟨G', χ, ?_⟩
  replace hsim := hook (fun k' hk => by
    show (match backN ρ (keysS sl') k' with | some k => φ' k | none => φ k') = φ k'
    cases hb : backN ρ (keysS sl') k' with
    | none => rfl
    | some k =>
      obtain ⟨h1, h2⟩ :=        z3h hb
      exact absurd h2 (hk k h1)) sg sv hd'.up hsim
  cases hdd : o.dst with
  | none => exact hsim
  | some d =>
    rw [hdd] at hd
    exact hsim.put (Nat.blt_eq.mp hd) hresr
theorem zbg {ops:Array Oper}{o:Oper}{cl:Call}{f:FuncId}{nf:Nat}{caps:List CC}{xs args:List AV}{res:AV}{sl sl':List (Nat×Slot)}(ρ:List (Nat×Nat))(s0:St)
 (hS:Summ E.P f args sl res sl') (hop:o.op= .call cl) (hw:z07 ops s o=some true) (hd:dstOk E.N o.dst=true) (hc:z39 s cl=some (f,nf,caps)) (hx:argsL s cl nf caps=some xs)
 (hle:AVsArgL s ρ (keysS sl) ((keysS sl).map (renN ρ)) xs args) (hsl:LentS s ρ (keysS sl) sl) (hinj:injB ρ (keysS sl)=true) (hinj':injB ρ (keysS sl')=true) (hres:res.lent (keysS sl')=true)
 (hsl':allC (fun p:Nat×Slot=>p.2.lent (keysS sl')) sl'=true) (hw0: ∀{G:Nat→Prop} {φ:Nat→Option Loc} {a:Act} {w:World},Sim E s G φ a w→Sim E s0 G φ a w) (hkey: ∀t x,look s0.sl t=some x→ ∃y,look s.sl t=some y)
 (hk0:allC (fun k=>match look s0.sl (renN ρ k)with|some _=>false|none=>true) (keysS sl++keysS sl')=true) (hodd:allC (fun k=>s0.noRef (renN ρ k)) (oddK (keysS sl) (keysS sl'))=true)
 (hfx:allC (fun k=> !anyB (Nat.beq (renN ρ k)) E.fx) (oddK (keysS sl) (keysS sl'))=true) (hlk:lkOk3 E.lk ρ (keysS sl) (keysS sl')=true):
 One E ops o s (putO ⟨s0.tm,renSl ρ sl'++s0.sl⟩ o.dst (res.ren ρ)):=fun a w ⟨_,_,hs⟩=>
 One.callP ρ s0 hS hop hw hd hc hx hle hsl hinj hinj' hres hsl' hs (hw0 hs) _ (fun _ _ _ _ h=>h) hkey hk0 hodd hfx hlk
theorem One.callL {ops:Array Oper}{o:Oper}{cl:Call}{f:FuncId}{nf:Nat}{caps:List CC}{xs args:List AV}{res:AV}{sl sl':List (Nat×Slot)}(ρ:List (Nat×Nat))(s0:St)
 (hS:Summ E.P f args sl res sl') (hop:o.op= .call cl) (hw:z07 ops s o=some true) (hd:dstOk E.N o.dst=true) (hc:z39 s cl=some (f,nf,caps)) (hx:argsL s cl nf caps=some xs)
 (hle:AVsArgL s ρ (keysS sl) ((keysS sl).map (renN ρ)) xs args) (hsl:LentS s ρ (keysS sl) sl) (hinj:injB ρ (keysS sl)=true) (hinj':injB ρ (keysS sl')=true) (hres:res.lent (keysS sl')=true)
 (hsl':allC (fun p:Nat×Slot=>p.2.lent (keysS sl')) sl'=true) (h0t: ∀t x,look s0.tm t=some x→look s.tm t=some x) (h0s: ∀t x,look s0.sl t=some x→look s.sl t=some x)
 (hk0:allC (fun k=>match look s0.sl (renN ρ k)with|some _=>false|none=>true) (keysS sl++keysS sl')=true) (hodd:allC (fun k=>s0.noRef (renN ρ k)) (oddK (keysS sl) (keysS sl'))=true)
 (hfx:allC (fun k=> !anyB (Nat.beq (renN ρ k)) E.fx) (oddK (keysS sl) (keysS sl'))=true) (hlk:lkOk3 E.lk ρ (keysS sl) (keysS sl')=true):
 One E ops o s (putO ⟨s0.tm,renSl ρ sl'++s0.sl⟩ o.dst (res.ren ρ)):=
 zbg ρ s0 hS hop hw hd hc hx hle hsl hinj hinj' hres hsl' (fun h=>h.weaken h0t h0s) (fun t x h=>⟨x,h0s t x h⟩) hk0 hodd hfx hlk
theorem At.callL {L:List Oper}{i:Nat}{K:St→Prop}{o:Oper}{cl:Call}{f:FuncId}{nf:Nat}{caps:List CC}{xs args:List AV}{res:AV}{sl sl':List (Nat×Slot)}(ρ:List (Nat×Nat))(tk sk:List Nat){s0:St}
 (hS:Summ E.P f args sl res sl') (ho:L[i]?=some o) (hop:o.op= .call cl) (hw:z07 L.toArray s o=some true) (hd:dstOk E.N o.dst=true) (hc:z39 s cl=some (f,nf,caps)) (hx:argsL s cl nf caps=some xs)
 (hle:AVsArgL s ρ (keysS sl) ((keysS sl).map (renN ρ)) xs args) (hsl:LentS s ρ (keysS sl) sl) (hinj:injB ρ (keysS sl)=true) (hinj':injB ρ (keysS sl')=true) (hres:res.lent (keysS sl')=true)
 (hsl':allC (fun p:Nat×Slot=>p.2.lent (keysS sl')) sl'=true) (hk:Av.keep tk sk s=some s0)
 (hk0:allC (fun k=>match look s0.sl (renN ρ k)with|some _=>false|none=>true) (keysS sl++keysS sl')=true) (hodd:allC (fun k=>s0.noRef (renN ρ k)) (oddK (keysS sl) (keysS sl'))=true)
 (hfx:allC (fun k=> !anyB (Nat.beq (renN ρ k)) E.fx) (oddK (keysS sl) (keysS sl'))=true) (hlk:lkOk3 E.lk ρ (keysS sl) (keysS sl')=true)
 (s':St) (he:putO ⟨s0.tm,renSl ρ sl'++s0.sl⟩ o.dst (res.ren ρ)=s') (h:At E L (i+1) s' K):At E L i s K:=by
 have hk2:(∀t x,look s0.tm t=some x→look s.tm t=some x)∧ ∀t x,look s0.sl t=some x→look s.sl t=some x:=by
  unfold Av.keep at hk;split at hk
  ·rename_i tm h1
   split at hk
   ·rename_i sl h2
    cases hk;exact⟨z29 h1,z29 h2⟩
   ·cases hk
  ·cases hk
 exact At.one ho (One.callL ρ s0 hS hop hw hd hc hx hle hsl hinj hinj' hres hsl' hk2.1 hk2.2 hk0 hodd hfx hlk) (he▸h)
theorem C.ren_to {V:Nat→Prop}{ψ:Nat→Option Loc}{ρ:List (Nat×Nat)}{x:C}{v:Value}(h:RelC G V φ w x v)(hφ: ∀k,x.refs k=true→ψ (renN ρ k)=φ k):RelC G V ψ w (x.ren ρ) v:=by
 cases x with
 |any=>trivial
 |d x=>exact h
 |zero=>exact h
 |raw u=>exact h
 |view es n get=>exact h
 |eptr cells=>exact h
 |ptr k o=>simp only[C.ren,RelC,hφ k (by simp[C.refs])];exact h
 |vptr k es i o=>simp only[C.ren,RelC,hφ k (by simp[C.refs])];exact h
 |own k es off n=>simp only[C.ren,RelC,hφ k (by simp[C.refs])];exact h
 |bsl k o es n=>simp only[C.ren,RelC,hφ k (by simp[C.refs])];exact h
 |clo f n caps=>
  obtain⟨vs,e,hl,hr⟩:=h;refine⟨vs,e,by simpa using hl,fun j hj=>?_⟩;have hj:j<caps.length:=by simpa using hj
  have e1:caps.getD j zzd=caps[j]:=by rw[List.getD_eq_getElem?_getD,List.getElem?_eq_getElem hj];rfl
  have e2:(caps.map (CC.ren ρ)).getD j zzd=caps[j].ren ρ:=by rw[List.getD_eq_getElem?_getD,List.getElem?_map,List.getElem?_eq_getElem hj];rfl
  have:=hr j hj;rw[e1]at this;rw[e2];have hm:caps[j]∈caps:=List.getElem_mem hj
  generalize caps[j]=c at*;cases c with
  |d x=>exact this
  |ptr k o=>
   have:ψ (renN ρ k)=φ k:=hφ k (z4r (f:=CC.refs k) hm (by simp[CC.refs]));simp only[CC.ren,RelCC,this]
   assumption
theorem RelCs.ren_to {V:Nat→Prop}{ψ:Nat→Option Loc}{ρ:List (Nat×Nat)}: ∀{cs:List C} {vs:List Value},(∀c∈cs,∀k,c.refs k=true→ψ (renN ρ k)=φ k)→RelCs (RelC G V φ w) cs vs→RelCs (RelC G V ψ w) (cs.map (C.ren ρ)) vs
 |[],[],_,_=>trivial
 |c::cs,v::vs,hφ,h=>⟨C.ren_to h.1 (hφ c (zz5 ..)),RelCs.ren_to (fun c hc=>hφ c (zz4 _ hc)) h.2⟩
 |[],_::_,_,h=>h.elim
 |_::_,[],_,h=>h.elim
theorem RelSs.ren_to {V:Nat→Prop}{ψ:Nat→Option Loc}{ρ:List (Nat×Nat)}: ∀{xs:List (Bool×List C)} {vs:List Value},(∀p∈xs,∀c∈p.2,∀k,c.refs k=true→ψ (renN ρ k)=φ k)→RelSs (RelC G V φ w) xs vs→
 RelSs (RelC G V ψ w) (xs.map fun p=>(p.1,p.2.map (C.ren ρ))) vs
 |[],[],_,_=>trivial
 |p::xs,u::vs,hφ,h=>by
  refine⟨?_,RelSs.ren_to (fun p hp=>hφ p (zz4 _ hp)) h.2⟩;have hp:=hφ p (zz5 ..)
  have hx:=h.1;rcases p with⟨b,cs⟩;cases b with
  |true=>obtain⟨us,e,g1,g2⟩:=hx;exact⟨us,e,RelCs.ren_to hp g1,g2⟩
  |false=>
   match cs,hp,hx with
   |[c],hp,hx=>exact⟨C.ren_to hx.1 (hp c (by simp)),hx.2⟩
   |[],_,hx=>exact hx.elim
   |_::_::_,_,hx=>exact hx.elim
 |[],_::_,_,h=>h.elim
 |_::_,[],_,h=>h.elim
theorem AV.ren_to {V:Nat→Prop}{ψ:Nat→Option Loc}{ρ:List (Nat×Nat)}{x:AV}{v:Value}(h:RelAV (RelC G V φ w) x v)(hφ: ∀k,x.refs k=true→ψ (renN ρ k)=φ k):RelAV (RelC G V ψ w) (x.ren ρ) v:=by
 have hc: ∀c∈x.cells,∀k,c.refs k=true→ψ (renN ρ k)=φ k:=fun c hc k hk=>hφ k (z3f hc hk);cases x with
 |c x=>
  by_cases e:x= .any
  ·subst e;trivial
  ·have:RelS (RelC G V φ w) (false,[x]) v:=by cases x<;>first|exact h|exact(e rfl).elim
   exact z01 (C.ren_to this.1 (hc x (by simp[AV.cells]))) this.2
 |agg xs=>obtain⟨us,e,h1,h2⟩:=h;exact⟨us,e,RelCs.ren_to hc h1,h2⟩
 |tup vs=>obtain⟨us,e,h1⟩:=h;exact⟨us,e,RelSs.ren_to (fun p hp c hc'=>hc c (List.mem_flatMap.2 ⟨p,hp,hc'⟩)) h1⟩
def renTm (ρ:List (Nat×Nat))(tm:List (Nat×AV)):List (Nat×AV):=tm.map fun p=>(p.1,p.2.ren ρ)
theorem z7y {ρ:List (Nat×Nat)}: ∀(tm:List (Nat×AV)) (t:Nat),look (renTm ρ tm) t=(look tm t).map (AV.ren ρ)
 |[],t=>rfl
 |(j,x)::r,t=>by
  simp only[renTm,List.map_cons,z09];by_cases e:j=t
  ·simp[e]
  ·rw[if_neg e,if_neg e];exact z7y r t
theorem Sim.rename (h:Sim E s G φ a w){k k':Nat}(hn:s.noRef k'=true)(hfx:anyB (Nat.beq k') E.fx=false)(hlk:lkOk E.lk [k] [k']=true):
 Sim E ⟨renTm [(k,k')] s.tm,renSl [(k,k')] s.sl⟩ G (upd φ k' (φ k)) a w:=by
 obtain⟨n1,n2⟩:=z1b hn;have hr: ∀j,renN [(k,k')] j=if k=j then k' else j:=fun j=>by
  unfold renN;simp only[z09];by_cases e:k=j
  ·simp[e]
  ·simp[e,look]
 have key: ∀j,j≠k'→upd φ k' (φ k) (renN [(k,k')] j)=φ j:=fun j hj=>by
  rw[hr];by_cases e:k=j
  ·rw[if_pos e,z1u,e]
  ·rw[if_neg e,z0y _ _ _ hj]
 have hin: ∀j c,look (renSl [(k,k')] s.sl) j=some c→ ∃i c0,j=renN [(k,k')] i∧look s.sl i=some c0∧c=c0.ren [(k,k')]∧i≠k':=fun j c hc=>by
  obtain⟨i,c0,h1,h2,h3⟩:=z5q hc;exact⟨i,c0,h1,h2,h3,(n2 _ (z0m h2)).1⟩
 exact
 {h with
  tm:=fun t x hx=>by
   rw[z7y]at hx;cases hl:look s.tm t with
   |none=>rw[hl]at hx;cases hx
   |some x0=>
    rw[hl]at hx;cases hx;obtain⟨v,hv,hrel⟩:=h.tm t x0 hl;exact⟨v,hv,AV.ren_to hrel fun j hj=>key j fun e=>by rw[e,n1 _ (z0m hl)]at hj;cases hj⟩
  sl:=fun j c hc=>by
   obtain⟨i,c0,rfl,h2,rfl,hne⟩:=hin j c hc;have:=h.sl i c0 h2
   have e:=key i hne;cases c0 with
   |vec es n get=>simp only[Slot.ren,z1r,e];exact this
   |box cs=>
    obtain⟨l,hl,ht,vs,g1,g2,g3⟩:=this;refine⟨l,by rw[e];exact hl,by simpa using ht,vs,RelCs.ren_to (fun c hc j hj=>key j fun e=>?_) g1,g2,g3⟩;have:=(n2 _ (z0m h2)).2
    rw[e,Slot.refs_cells this c hc]at hj;cases hj
  inj:=fun j1 j2 c1 c2 l1 l2 h1 h2 e1 e2 eb=>by
   obtain⟨i1,d1,rfl,g1,_,ne1⟩:=hin _ _ h1;obtain⟨i2,d2,rfl,g2,_,ne2⟩:=hin _ _ h2;rw[key _ ne1]at e1;rw[key _ ne2]at e2;rw[h.inj _ _ _ _ _ _ g1 g2 e1 e2 eb]
  own:=fun j c l h1 h2=>by
   obtain⟨i,d,rfl,g,_,ne⟩:=hin _ _ h1;rw[key _ ne]at h2;obtain⟨o1,o2,o3,o4⟩:=h.own _ _ _ g h2;refine⟨o1,o2,o3,?_⟩;rcases o4 with o4|⟨o4,o5⟩
   ·exact .inl o4
   ·refine .inr ⟨?_,o5⟩;rw[hr];by_cases e:k=i
    ·rw[if_pos e];subst e;unfold lkOk at hlk;split at hlk
     ·rename_i hall
      exact z1e.1 (z0z hall k' (by simp))
     ·have:anyB (fun k=>anyB (Nat.beq k) E.lk) [k]=true:=z4r (by simp) (z1e.2 o4);rw[this]at hlk;cases hlk
    ·rw[if_neg e];exact o4
  fix:=fun j c hx h1=>by
   obtain⟨i,d,rfl,g,_,ne⟩:=hin _ _ h1;rw[key _ ne];have hne': ¬k=i:=fun e=>by
    rw[hr,if_pos e]at hx;exact z3y hfx hx
   rw[hr,if_neg hne']at hx ⊢;exact h.fix _ _ hx g}
theorem SimE.rename (k k':Nat)(h:SimE E s a w)(hn:s.noRef k'=true)(hfx:anyB (Nat.beq k') E.fx=false)(hlk:lkOk E.lk [k] [k']=true){s':St}(e:(⟨renTm [(k,k')] s.tm,renSl [(k,k')] s.sl⟩:St)=s'):SimE E s' a w:=by
 obtain⟨G,φ,h⟩:=h;exact e▸⟨G,_,h.rename hn hfx hlk⟩
theorem Tri.rename (k k':Nat)(s':St){c:Code}{post:Exit→St→Prop}(e:(⟨renTm [(k,k')] s.tm,renSl [(k,k')] s.sl⟩:St)=s')(hn:s.noRef k'=true)(hfx:anyB (Nat.beq k') E.fx=false)(hlk:lkOk E.lk [k] [k']=true)
 (h:Tri E c s' post):Tri E c s post:=Tri.weaken (fun _ _ hs=>hs.rename k k' hn hfx hlk e) h
theorem At.rename (k k':Nat)(s':St){L:List Oper}{i:Nat}{K:St→Prop}(e:(⟨renTm [(k,k')] s.tm,renSl [(k,k')] s.sl⟩:St)=s')(hn:s.noRef k'=true)(hfx:anyB (Nat.beq k') E.fx=false)(hlk:lkOk E.lk [k] [k']=true)
 (h:At E L i s' K):At E L i s K:=fun a w hs=>h a w (hs.rename k k' hn hfx hlk e)
theorem SimE.newOwnB {a:Act}{w:World}(h:SimE E s a w){j i k es:Nat}{cs:List C}{get:Nat→List D}(hkx:anyB (Nat.beq k) E.fx=false)(hz:look s.sl j=some (.box cs))(hi:cs[i]?=some .zero)(hk:s.noRef k=true):
 SimE E ((s.slot k (.vec es 0 get)).slot j (.box (cs.set i (.own k es 0 0)))) a w:=by
 obtain⟨G,φ,h⟩:=h;have hs:=h.newVec0 (z3y hkx) hk es get
 have hjk:k≠j:=fun e=>((z1b hk).2 _ (z0m hz)).1 e.symm;have hz':look (s.slot k (.vec es 0 get)).sl j=some (.box cs):=by simp[St.slot,z09,hjk,hz]
 have hrel:=hs.sl j _ hz';have hin: ∀j' c,look ((s.slot k (.vec es 0 get)).slot j (.box (cs.set i (.own k es 0 0)))).sl j'=some c→(j'=j∧c= .box (cs.set i (.own k es 0 0)))∨(j'≠j∧look (s.slot k (.vec es 0 get)).sl j'=some c):=fun j' c hc=>by
  simp only[St.slot,z09]at hc ⊢;by_cases e:j=j'
  ·rw[if_pos e]at hc;cases hc;exact .inl ⟨e.symm,rfl⟩
  ·rw[if_neg e]at hc;exact .inr ⟨fun x=>e x.symm,hc⟩
 have hex: ∀j' c,look ((s.slot k (.vec es 0 get)).slot j (.box (cs.set i (.own k es 0 0)))).sl j'=some c→ ∃c0,look (s.slot k (.vec es 0 get)).sl j'=some c0:=fun j' c hc=>by
  rcases hin j' c hc with⟨rfl,_⟩|⟨_,h⟩
  ·exact⟨_,hz'⟩
  ·exact⟨_,h⟩
 refine⟨G,upd φ k none,{hs with tm:=hs.tm,sl:=fun j' c hc=>?_,inj:=fun k1 k2 c1 c2 l1 l2 h1 h2=>?_,own:=fun k' c l h1=>?_,fix:=fun k' c hx h1=>?_}⟩
 ·rcases hin j' c hc with⟨rfl,rfl⟩|⟨_,hc⟩
  ·obtain⟨l,hl,ht,vs,g1,g2,g3⟩:=hrel;refine⟨l,hl,by simpa using ht,vs,?_,g2,g3⟩;clear hz hz' hin hex hc ht g2 g3;induction cs generalizing i vs with
   |nil=>simp at hi
   |cons c cs ih=>
    cases vs with
    |nil=>exact g1.elim
    |cons v vs=>
     cases i with
     |zero=>
      simp at hi;subst hi;obtain⟨A,rfl⟩:=g1.1;exact⟨.inl ⟨rfl,A,rfl⟩,g1.2⟩
     |succ i=>exact⟨g1.1,ih (i:=i) (by simpa using hi) _ g1.2⟩
  ·exact hs.sl _ _ hc
 ·obtain⟨_,h1⟩:=hex _ _ h1;obtain⟨_,h2⟩:=hex _ _ h2;exact hs.inj _ _ _ _ _ _ h1 h2
 ·obtain⟨_,h1⟩:=hex _ _ h1;exact hs.own _ _ _ h1
 ·obtain⟨_,h1⟩:=hex _ _ h1;exact hs.fix _ _ hx h1
theorem Tri.newOwnB {c:Code}{post:Exit→St→Prop}{j i k es:Nat}{cs:List C}(get:Nat→List D)(hkx:anyB (Nat.beq k) E.fx=false)(hz:look s.sl j=some (.box cs))(hi:cs[i]?=some .zero)(hk:s.noRef k=true)
 (h:Tri E c ((s.slot k (.vec es 0 get)).slot j (.box (cs.set i (.own k es 0 0)))) post):Tri E c s post:=fun a w hs=>h a w (hs.newOwnB hkx hz hi hk)
theorem At.newOwnB {L:List Oper}{i':Nat}{K:St→Prop}{j i k es:Nat}{cs:List C}(get:Nat→List D)(hkx:anyB (Nat.beq k) E.fx=false)(hz:look s.sl j=some (.box cs))(hi:cs[i]?=some .zero)(hk:s.noRef k=true)
 (h:At E L i' ((s.slot k (.vec es 0 get)).slot j (.box (cs.set i (.own k es 0 0)))) K):At E L i' s K:=fun a w hs=>h a w (hs.newOwnB hkx hz hi hk)
theorem zbf {ops:Array Oper}{o:Oper}{x:DOp}{z0:AV}{S':List (Nat×Slot)}(ρ:List (Nat×Nat))(k1 k2:List Nat)
 (hone: ∀r:St,allC (fun k=>match look (lessK ((k1++k2).map (renN ρ)) (x.need.sl++r.sl)) (renN ρ k)with|some _=>false|none=>true) (k1++k2)=true→allC (fun k=>(⟨x.need.tm++r.tm,lessK ((k1++k2).map (renN ρ)) (x.need.sl++r.sl)⟩:St).noRef (renN ρ k)) (oddK k1 k2)=true→
  One E ops o (x.need.app r) (putO ⟨x.need.tm++r.tm,S'++lessK ((k1++k2).map (renN ρ)) (x.need.sl++r.sl)⟩ o.dst z0))
 (hodd:allC (fun k=>(⟨x.need.tm,lessK ((k1++k2).map (renN ρ)) x.need.sl⟩:St).noRef (renN ρ k)) (oddK k1 k2)=true)
 (hmk:allC (fun k=>memB (renN ρ k) x.mks) (oddK k1 k2)=true)
 (hcov:allC (fun k=>z0a (renN ρ k) x.eff.sl) (k1++k2)=true) (hesl:S'=x.eff.sl)
 (het:match o.dst with|some d=>[(d,z0)]=x.eff.tm|none=>x.eff.tm=[]):DOk E ops o x:=DOk.one fun r hr=>by
 let im:=(k1++k2).map (renN ρ)
 have hle0: ∀(l:List (Nat×Slot)) t c,look (lessK im l) t=some c→memB t im=false∧look l t=some c:=fun l t c h=>by
  rw[z1o]at h;cases hm:memB t im with
  |true=>rw[hm]at h;cases h
  |false=>rw[hm]at h;exact⟨rfl,h⟩
 refine(hone r ?_ ?_).weaken fun a w hs=>hs.weaken (fun t y hy=>?_) fun t y hy=>?_
 ·have: ∀k∈k1++k2,(match look (lessK im (x.need.sl++r.sl)) (renN ρ k)with|some _=>false|none=>true)=true:=fun k hk=>by
   have hm:memB (renN ρ k) im=true:=z0l.2 (List.mem_map.2 ⟨k,hk,rfl⟩);rw[z1o,hm]
  have key: ∀l:List Nat,(∀k∈l,(match look (lessK im (x.need.sl++r.sl)) (renN ρ k)with|some _=>false|none=>true)=true)→allC (fun k=>match look (lessK im (x.need.sl++r.sl)) (renN ρ k)with|some _=>false|none=>true) l=true:=by
   intro l;induction l with
   |nil=>intro _;rfl
   |cons k l ih=>
    intro h;simp only[allC];rw[h k (zz5 ..)];exact ih fun j hj=>h j (zz4 _ hj)
  exact key _ this
 ·have: ∀k∈oddK k1 k2,(⟨x.need.tm++r.tm,lessK im (x.need.sl++r.sl)⟩:St).noRef (renN ρ k)=true:=fun k hk=>by
   have h1:=z0z hodd k hk;have h2:=hr _ (z0l.1 (z0z hmk k hk))
   rw[z4l];have h3:(⟨r.tm,lessK im r.sl⟩:St).noRef (renN ρ k)=true:=by
    obtain⟨p1,p2⟩:=z1b h2;unfold St.noRef;have q1:anyB (fun e:Nat×AV=>AV.refs (renN ρ k) e.2) r.tm=false:=by
     cases e:anyB (fun e:Nat×AV=>AV.refs (renN ρ k) e.2) r.tm with
     |false=>rfl
     |true=>obtain⟨y,hy,hy'⟩:=z37.1 e;rw[p1 y hy]at hy';cases hy'
    have q2:anyB (z24 (renN ρ k)) (lessK im r.sl)=false:=by
     cases e:anyB (z24 (renN ρ k)) (lessK im r.sl)with
     |false=>rfl
     |true=>
      obtain⟨y,hy,hy'⟩:=z37.1 e;have hmem: ∀l:List (Nat×Slot),y∈lessK im l→y∈l:=by
       intro l;induction l with
       |nil=>intro h;exact h
       |cons z l ih=>
        rcases z with⟨zk,zc⟩;intro h;simp only[lessK]at h;split at h
        ·exact zz4 _ (ih h)
        ·rcases List.mem_cons.1 h with h|h
         ·rw[h];exact zz5 ..
         ·exact zz4 _ (ih h)
      obtain⟨u1,u2⟩:=p2 y (hmem _ hy);unfold z24 at hy';have hb:Nat.beq y.1 (renN ρ k)=false:=by
       cases hb:Nat.beq y.1 (renN ρ k)with
       |false=>rfl
       |true=>exact absurd (zz1 hb) u1
      rw[hb]at hy';simp only[u2]at hy';cases hy'
    simp only[q1,q2]
   exact z4g (n:=⟨x.need.tm,lessK im x.need.sl⟩) (r:=⟨r.tm,lessK im r.sl⟩) h1 h3
  have key: ∀l:List Nat,(∀k∈l,(⟨x.need.tm++r.tm,lessK im (x.need.sl++r.sl)⟩:St).noRef (renN ρ k)=true)→allC (fun k=>(⟨x.need.tm++r.tm,lessK im (x.need.sl++r.sl)⟩:St).noRef (renN ρ k)) l=true:=by
   intro l;induction l with
   |nil=>intro _;rfl
   |cons k l ih=>
    intro h;simp only[allC];rw[h k (zz5 ..)];exact ih fun j hj=>h j (zz4 _ hj)
  exact key _ this
 ·cases hdd:o.dst with
  |none=>
   rw[hdd]at het;have het:x.eff.tm=[]:=het
   simp only[St.app,het,List.nil_append]at hy;exact hy
  |some d=>
   rw[hdd]at het;have het:[(d,z0)]=x.eff.tm:=het
   simp only[St.app,←het]at hy;exact hy
 ·have h1:look (S'++lessK im (x.need.sl++r.sl)) t=some y:=by
   simp only[St.app,←hesl]at hy;rw[z0e]at hy ⊢;cases he:look (S') t with
   |some z=>rw[he]at hy;exact hy
   |none=>
    rw[he]at hy;simp only at hy ⊢;rw[z1o];cases hm:memB t im with
    |false=>exact hy
    |true=>
     obtain⟨k,hk,rfl⟩:=List.mem_map.1 (z0l.1 hm);obtain⟨z,hz⟩:=z0n.1 (z0z hcov k hk);rw[←hesl,he]at hz;cases hz
  cases hdd:o.dst with
  |none=>exact h1
  |some d=>exact h1
theorem DOk.callL {ops:Array Oper}{o:Oper}{x:DOp}{cl:Call}{f:FuncId}{nf:Nat}{caps:List CC}{xs args:List AV}{res:AV}{sl sl':List (Nat×Slot)}(ρ:List (Nat×Nat))
 (hS:Summ E.P f args sl res sl') (hop:o.op= .call cl) (hw: ∀r,z07 ops (x.need.app r) o=some true) (hd:dstOk E.N o.dst=true)
 (hc: ∀r,z39 (x.need.app r) cl=some (f,nf,caps)) (hx: ∀r,argsL (x.need.app r) cl nf caps=some xs)
 (hle: ∀r,AVsArgL (x.need.app r) ρ (keysS sl) ((keysS sl).map (renN ρ)) xs args) (hsl: ∀r,LentS (x.need.app r) ρ (keysS sl) sl) (hinj:injB ρ (keysS sl)=true) (hinj':injB ρ (keysS sl')=true)
 (hres:res.lent (keysS sl')=true) (hsl':allC (fun p:Nat×Slot=>p.2.lent (keysS sl')) sl'=true)
 (hodd:allC (fun k=>(⟨x.need.tm,lessK ((keysS sl++keysS sl').map (renN ρ)) x.need.sl⟩:St).noRef (renN ρ k)) (oddK (keysS sl) (keysS sl'))=true)
 (hmk:allC (fun k=>memB (renN ρ k) x.mks) (oddK (keysS sl) (keysS sl'))=true)
 (hfx:allC (fun k=> !anyB (Nat.beq (renN ρ k)) E.fx) (oddK (keysS sl) (keysS sl'))=true) (hlk:lkOk3 E.lk ρ (keysS sl) (keysS sl')=true)
 (hcov:allC (fun k=>z0a (renN ρ k) x.eff.sl) (keysS sl++keysS sl')=true) (hesl:renSl ρ sl'=x.eff.sl)
 (het:match o.dst with|some d=>[(d,res.ren ρ)]=x.eff.tm|none=>x.eff.tm=[]):DOk E ops o x:=
 zbf ρ (keysS sl) (keysS sl') (fun r q1 q2=>One.callL ρ ⟨x.need.tm++r.tm,lessK ((keysS sl++keysS sl').map (renN ρ)) (x.need.sl++r.sl)⟩ hS hop (hw r) hd (hc r) (hx r) (hle r) (hsl r) hinj hinj' hres hsl' (fun t y h=>h) (fun t c h=>by
  rw[z1o]at h;split at h
  ·cases h
  ·exact h) q1 q2 hfx hlk) hodd hmk hcov hesl het
end
end Go.Av
/-
 Av,part Y:more rules over lists;library functions that the model stands in for.
-/
namespace Go.Av
open Go
section
variable {E:Env} {s:St} {X:Type} [Inhabited X]
theorem z98 {ops:Array Oper}{o:Oper}{src dst e:TypeId}{x:Operand}{y:AV}(xs:List Int)
 (hop:o.op= .convert src dst x) (hw:z07 ops s o=some true) (hd:dstOk E.N o.dst=true)
 (hu:E.P.underlying src=some (.slice e)) (hb:E.P.underlying e=some (.int .u8)) (hst:E.P.underlying dst=some .string)
 (hx:evO s x=some y) (hsrc:SrcOf s y 1 xs.length (fun i=>z21 .u8 (xs.getD i zzd))):
 One E ops o s (putO s o.dst (.c (.d (.str (strOfNums xs))))):=
 z9f hop hw hd hu hb hst hx hsrc rfl fun i hi=>rfl
def zbw (s:ByteArray):List Int:=s.data.toList.map fun b=>(b.toNat:Int)
@[simp] theorem zd4 (s:ByteArray):(zbw s).length=s.size:=by
 unfold zbw;rw[List.length_map,Array.length_toList];rfl
def strings_Join (xs:List ByteArray)(sep:ByteArray):Option ByteArray:=
 need (xs.length≤140737488355328∧(Lib.join (xs.map (·.data.toList)) sep.data.toList).length≤140737488355328)<|some ⟨(Lib.join (xs.map (·.data.toList)) sep.data.toList).toArray⟩
end
end Go.Av
namespace Go.Av
section
variable {X:Type} [Inhabited X]
end
end Go.Av
namespace Go.Av
abbrev i6 (x:Int):D:= .int .i64 x
abbrev u6 (x:Int):D:= .int .u64 x
abbrev cD (d:D):AV:= .c (.d d)
abbrev lD {X:Type}[Inhabited X](es:Nat)(e:X→List D)(l:List X):D:= .list es l.length (fun i=>e (l.getD i zzd))
abbrev wC {X:Type}[Inhabited X](es:Nat)(e:X→List D)(l:List X):C:= .view es l.length (fun i=>e (l.getD i zzd))
abbrev oC {X:Type}(k es:Nat)(l:List X):C:= .own k es 0 l.length
abbrev vL {X:Type}[Inhabited X](es:Nat)(e:X→List D)(l:List X):Slot:= .vec es l.length (fun i=>e (l.getD i zzd))
theorem DOk.t {E:Env}{ops:Array Oper}{o:Oper}{x:DOp}{d:Nat}{av:AV}(he0:x.eff=⟨[(d,av)],[]⟩)(hd:o.dst=some d)(hw:(fun r=>(z07 ops (x.need.app r) o,z16 E.P (x.need.app r) (some d) o.op))=fun _=>(some true,some (.val av True)))
 (hok:(okDst E.N x.need (some d) (.val av True) && mksOk x.mks (.val av True) (some d))=true):DOk E ops o x:=
 DOk.step (.val av True) (fun r=>congrArg Prod.fst (congrFun hw r)) (fun r=>by rw[hd];exact congrArg Prod.snd (congrFun hw r)) trivial (by rw[hd];exact(Bool.and_eq_true_iff.1 hok).1) (by rw[hd];exact(Bool.and_eq_true_iff.1 hok).2) (fun r=>by rw[hd,he0];rfl)
end Go.Av
namespace Go.Av
open Go
abbrev dI (x:Int):D:= .int .i64 x
abbrev dU (x:Int):D:= .int .u64 x
inductive Sh where
 |a (tm sl:List Nat)
 |m (need eff:St) (mks dead hid:List Nat)
def z55 (P:Program)(ops:Array Oper)(n:St)(o:Oper):St:=
 match o.dst with
 |none=>⟨[],[]⟩
 |some d=>match z07 ops n o with
  |some true=>match z16 P n (some d) o.op with
   |some (.val av _)=>⟨[(d,av)],[]⟩
   |_=>⟨[],[]⟩
  |some false=>⟨[(d,.tup [])],[]⟩
  |none=>⟨[],[]⟩
def zdg (s0:St)(b:List Nat)(acc:List DOp)(tm sl:List Nat):St:=
 match keep tm sl (stD (fun i=>memB i b) 0 acc s0)with
 |some n=>n
 |none=>⟨[],[]⟩
def z0r (P:Program)(ops:Array Oper)(s0:St)(bef:List (List Nat)):Nat→List Oper→List Sh→List DOp→List DOp
 |r,o::os,.a tm sl::xs,acc=>
  (fun x:DOp=>x::z0r P ops s0 bef (r+1) os xs (acc++[x])) ((fun n:St=>⟨n,z55 P ops n o,[],[],[]⟩) (zdg s0 (nth bef r) acc tm sl))
 |r,_::os,.m n e mk dd hd::xs,acc=>⟨n,e,mk,dd,hd⟩::z0r P ops s0 bef (r+1) os xs (acc++[⟨n,e,mk,dd,hd⟩])
 |_,_,_,_=>[]
def z2n (P:Program)(ops:Array Oper)(r:St):List Oper→List DOp→List Sh→List (Option Bool×Option Step)
 |o::os,x::xs,.a _ _::ys=>(z07 ops (x.need.app r) o,z16 P (x.need.app r) o.dst o.op)::z2n P ops r os xs ys
 |_::os,_::xs,.m _ _ _ _ _::ys=>z2n P ops r os xs ys
 |_,_,_=>[]
def z3s (N:Nat)(P:Program)(ops:Array Oper):List Oper→List DOp→List Sh→Bool
 |o::os,x::xs,.a _ _::ys=>
  match(match o.dst with
   |none=>false
   |some d=>match z07 ops x.need o with
    |some true=>match z16 P x.need (some d) o.op with
     |some (.val av c)=>match okDst N x.need (some d) (.val av c)with|true=>mksOk [] (.val av c) (some d)|false=>false
     |_=>false
    |some false=>Nat.blt d N
    |none=>false)with
  |true=>z3s N P ops os xs ys
  |false=>false
 |_::os,_::xs,.m _ _ _ _ _::ys=>z3s N P ops os xs ys
 |_,_,_=>true
def z2g (P:Program)(ops:Array Oper):List Oper→List DOp→List Sh→Prop
 |o::os,x::xs,.a _ _::ys=>
  match z07 ops x.need o with
  |some true=>match z16 P x.need o.dst o.op with
   |some (.val _ c)=>c∧z2g P ops os xs ys
   |_=>z2g P ops os xs ys
  |_=>z2g P ops os xs ys
 |_::os,_::xs,.m _ _ _ _ _::ys=>z2g P ops os xs ys
 |_,_,_=>True
inductive ManOk (E:Env) (ops:Array Oper):List Oper→List Sh→Prop
 |z {os:List Oper}:ManOk E ops os []
 |a {o:Oper} {os:List Oper} {tm sl:List Nat} {ys:List Sh} (h:ManOk E ops os ys):ManOk E ops (o::os) (.a tm sl::ys)
 |m {o:Oper} {os:List Oper} {n e:St} {mk dd hd:List Nat} {ys:List Sh} (h1:DOk E ops o ⟨n,e,mk,dd,hd⟩) (h:ManOk E ops os ys):ManOk E ops (o::os) (.m n e mk dd hd::ys)
theorem z9e {E:Env}{ops:Array Oper}{o:Oper}{n:St}(hl: ∀r:St,z07 ops (n.app r) o=z07 ops n o∧z16 E.P (n.app r) o.dst o.op=z16 E.P n o.dst o.op)
 (hg:(match o.dst with
  |none=>false
  |some d=>match z07 ops n o with
   |some true=>match z16 E.P n (some d) o.op with
    |some (.val av c)=>match okDst E.N n (some d) (.val av c)with|true=>mksOk [] (.val av c) (some d)|false=>false
    |_=>false
   |some false=>Nat.blt d E.N
   |none=>false)=true)
 (hc:match z07 ops n o with
  |some true=>match z16 E.P n o.dst o.op with
   |some (.val _ c)=>c
   |_=>True
  |_=>True):DOk E ops o ⟨n,z55 E.P ops n o,[],[],[]⟩:=by
 cases hd:o.dst with
 |none=>rw[hd]at hg;cases hg
 |some d=>
  rw[hd]at hg;simp only at hg;cases hw:z07 ops n o with
  |none=>rw[hw]at hg;cases hg
  |some b=>
   rw[hw]at hg hc;cases b with
   |false=>
    simp only at hg;refine DOk.skip (d:=d) (fun r=>(hl r).1.trans hw) hd hg (fun r=>?_);unfold z55;rw[hd];simp only[hw];rfl
   |true=>
    simp only at hg hc;cases he:z16 E.P n (some d) o.op with
    |none=>rw[he]at hg;cases hg
    |some st=>
     rw[he]at hg;cases st with
     |val av c=>
      simp only at hg;rw[hd,he]at hc;simp only at hc;have h1:okDst E.N n (some d) (.val av c)=true:=by
       cases e:okDst E.N n (some d) (.val av c)with
       |true=>rfl
       |false=>rw[e]at hg;cases hg
      rw[h1]at hg;refine DOk.step (.val av c) (fun r=>(hl r).1.trans hw) (fun r=>?_) hc (by rw[hd];exact h1) (by rw[hd];exact hg) (fun r=>?_)
      ·have:=(hl r).2;rw[hd,he]at this;rw[hd];exact this
      ·unfold z55;rw[hd];simp only[hw,he];rfl
     |new c x=>simp only at hg;cases hg
     |turn k c=>simp only at hg;cases hg
theorem z9n {E:Env}{ops:Array Oper}{s0:St}{bef:List (List Nat)}: ∀(os:List Oper) (ys:List Sh) (r0:Nat) (acc:List DOp),Nat.beq os.length ys.length=true→
 (∀r:St,z2n E.P ops r os (z0r E.P ops s0 bef r0 os ys acc) ys=z2n E.P ops ⟨[],[]⟩ os (z0r E.P ops s0 bef r0 os ys acc) ys)→
 z3s E.N E.P ops os (z0r E.P ops s0 bef r0 os ys acc) ys=true→z2g E.P ops os (z0r E.P ops s0 bef r0 os ys acc) ys→ManOk E ops os ys→
 z53 E ops os (z0r E.P ops s0 bef r0 os ys acc)
 |[],[],_,_,_,_,_,_,_=>trivial
 |[],_::_,_,_,h,_,_,_,_=>by cases h
 |_::_,[],_,_,h,_,_,_,_=>by cases h
 |o::os,.m n e mk dd hd::ys,r0,acc,hlen,hv,hg,hc,hm=>by
  cases hm with|m h1 h2=>exact⟨h1,z9n os ys (r0+1) _ hlen hv hg hc h2⟩
 |o::os,.a tm sl::ys,r0,acc,hlen,hv,hg,hc,hm=>by
  have e0: ∀n:St,n.app ⟨[],[]⟩=n:=fun n=>by cases n;simp[St.app]
  have hv1:=fun r=>List.cons.inj (hv r);unfold z0r at hg hc;simp only[z3s,z2g]at hg hc;have hg2: ∀{b:Bool} {z:Bool},(match b with|true=>z|false=>false)=true→b=true∧z=true:=fun{b z} h=>by cases b<;>simp_all
  obtain⟨g1,g2⟩:=hg2 hg;refine⟨z9e (fun r=>?_) g1 ?_,z9n os ys (r0+1) _ hlen (fun r=>(hv1 r).2) g2 ?_ (by cases hm with|a h=>exact h)⟩
  ·have:=(hv1 r).1;simp only[Prod.mk.injEq]at this;rw[e0]at this;exact this
  ·revert hc
   split
   ·split
    ·intro h;exact h.1
    ·intro _;trivial
   ·intro _;trivial
  ·revert hc
   split
   ·split
    ·intro h;exact h.2
    ·intro h;exact h
   ·intro h;exact h
theorem zav {E:Env}{s:St}{post:Exit→St→Prop}{id:Nat}{l:List Oper}(ys:List Sh)(bef:List (List Nat)){s':St}{cs:Prop}(tk sk:List Nat)(hm:E.P.follows .mixedOrders=true)
 (hb:(match Nat.beq l.length ys.length with|true=>(match drawB l (z0r E.P l.toArray s bef 0 l ys []) bef s with|true=>z3s E.N E.P l.toArray l (z0r E.P l.toArray s bef 0 l ys []) ys|false=>false)|false=>false)=true)
 (hn:z3d (z0r E.P l.toArray s bef 0 l ys []) bef s 0 (z0r E.P l.toArray s bef 0 l ys [])=z3c (z0r E.P l.toArray s bef 0 l ys []))
 (hv:(fun r=>z2n E.P l.toArray r l (z0r E.P l.toArray s bef 0 l ys []) ys)=fun _=>z2n E.P l.toArray ⟨[],[]⟩ l (z0r E.P l.toArray s bef 0 l ys []) ys)
 (hce:z2g E.P l.toArray l (z0r E.P l.toArray s bef 0 l ys []) ys=cs) (hc:cs) (hman:ManOk E l.toArray l ys)
 (hk:Av.keep tk sk (stD (fun _=>true) 0 (z0r E.P l.toArray s bef 0 l ys []) s)=some s') (hp:post .normal s'):Tri E (.region id l.toArray true) s post:=by
 have h2: ∀{b z:Bool},(match b with|true=>z|false=>false)=true→b=true∧z=true:=fun{b z} h=>by cases b<;>simp_all
 obtain⟨hlen,hb⟩:=h2 hb;obtain⟨hd,hg⟩:=h2 hb;exact Tri.drawn hm hd hn (z9n l ys 0 [] hlen (fun r=>congrFun hv r) hg (hce▸hc) hman) hk hp
end Go.Av
namespace Go.Av
open Go
section
variable {E:Env} {s:St} {post:Exit→St→Prop} {id:Nat} {l:List Oper} {y:Code}
theorem z7c (tk sk:List Nat)(s':St)(c:Prop)(he:z22 E.P E.N l.toArray l tk sk s=some (s',c))(hc:c)(h:Tri E y s' post):Tri E (.seq (.region id l.toArray false) y) s post:=by
 refine z02 ?_;refine z04 ?_;have hl:(l.drop 0).take l.length=l:=by rw[List.drop_zero,List.take_of_length_le (Nat.le_refl _)]
 refine At.seg l.length tk sk (s':=s') (c:=c) (by rw[hl];exact he) hc ?_;rw[zz9];exact At.done (Nat.ble_eq_true_of_le (Nat.le_refl _)) h
end
def allT:Nat→Prop
 |0=>True
 |n+1=>True∧allT n
theorem z00: ∀n,allT n
 |0=>trivial
 |n+1=>⟨trivial,z00 n⟩
end Go.Av
namespace Go.Av
open Go
def tNp:Nat→Prop→Prop
 |0,p=>p
 |n+1,p=>True∧tNp n p
theorem tN: ∀(n:Nat) {p:Prop},p→tNp n p
 |0,_,h=>h
 |n+1,_,h=>⟨trivial,tN n h⟩
theorem ai {a b:Prop}(x:a)(y:b):a∧b:=⟨x,y⟩
def z85 (P:Program)(N:Nat)(ops:Array Oper)(l:List Oper)(tk sk:List Nat)(s:St):St:=match z22 P N ops l tk sk s with|some (s',_)=>s'|none=>⟨[],[]⟩
def segPO (P:Program)(N:Nat)(ops:Array Oper)(l:List Oper)(tk sk:List Nat)(s:St):Option Prop:=match z22 P N ops l tk sk s with|some (_,c)=>some c|none=>none
def z34 (tk sk:List Nat)(s:St):St:=match keep tk sk s with|some s'=>s'|none=>⟨[],[]⟩
def z5b (tk sk:List Nat)(s:St):Bool:=match keep tk sk s with|some _=>true|none=>false
theorem z3x {tk sk:List Nat}{s:St}(h:z5b tk sk s=true):keep tk sk s=some (z34 tk sk s):=by
 unfold z5b at h;unfold z34;cases hk:keep tk sk s with
 |none=>rw[hk]at h;cases h
 |some s'=>rfl
theorem z84 {P:Program}{N:Nat}{ops:Array Oper}{l:List Oper}{tk sk:List Nat}{s:St}{c:Prop}(h:segPO P N ops l tk sk s=some c):z22 P N ops l tk sk s=some (z85 P N ops l tk sk s,c):=by
 unfold segPO at h;unfold z85;cases he:z22 P N ops l tk sk s with
 |none=>rw[he]at h;cases h
 |some r=>
  rw[he]at h;cases h;rfl
theorem kr {α:Type}{a b:α}(h:a=b:=by kernel_rfl):a=b:=h
def retEv (P:Program)(s:St)(rs:List ResultVar):Option (AV×Prop):=match evRes P s rs with|some (l,c)=>some (resAV l,c)|none=>none
theorem RetAt.k {P:Program}{fn:Func}{res:AV}{sl':List (Nat×Slot)}{s:St}(h1:retEv P s fn.results.toList=some (res,allT fn.results.size):=by kernel_rfl)
 (h2:(match res.clean with|true=>allC (fun p:Nat×Slot=>p.2.clean) sl'|false=>false)=true:=by kernel_rfl) (h3:sl'.map (fun p=>look s.sl p.1)=sl'.map (fun p=>some p.2):=by kernel_rfl):RetAt P fn res sl' s:=by
 unfold retEv at h1;cases he:evRes P s fn.results.toList with
 |none=>rw[he]at h1;cases h1
 |some r=>
  obtain⟨l,c⟩:=r;rw[he]at h1;simp only[Option.some.injEq,Prod.mk.injEq]at h1;obtain⟨rfl,rfl⟩:=h1;have h2':(resAV l).clean=true∧allC (fun p:Nat×Slot=>p.2.clean) sl'=true:=by
   cases hc:(resAV l).clean with
   |true=>rw[hc]at h2;exact⟨rfl,h2⟩
   |false=>rw[hc]at h2;cases h2
  refine⟨l,_,he,z00 _,rfl,h2'.1,fun k c hk=>?_⟩;have hm:=z0m hk
  have:=List.map_inj_left.1 h3 _ hm;exact⟨this,z0z h2'.2 _ hm⟩
def putBs (ts:List Nat)(v:Bool)(s:St):St:=⟨ts.map (fun t=>(t,.c (.d (.bool v))))++s.tm,s.sl⟩
def befGo:List Oper→List (List Nat)→List (List Nat)
 |[],acc=>acc
 |o::os,acc=>befGo os (acc++[((o.after.toList.filter fun a=>match a.ground with| .textOnly _=>false| .gcOnly _=>false|_=>true).map (·.on)).foldr (fun j r=>(j::nth acc j).foldr (fun i r=>match memB i r with|true=>r|false=>i::r) r) []])
section
variable {E:Env} {s:St} {post:Exit→St→Prop} {id:Nat} {l:List Oper} {y:Code} {L:List Oper} {i:Nat} {K:St→Prop} {Q:Type} {q:Q} {x:Code}
theorem At.sg (n:Nat)(tk sk:List Nat){c:Prop}(hc:c)(h:At E L (i+n) (z85 E.P E.N L.toArray ((L.drop i).take n) tk sk s) K) (he:segPO E.P E.N L.toArray ((L.drop i).take n) tk sk s=some c:=by kernel_rfl):At E L i s K:=
 At.seg n tk sk (z84 he) hc h
theorem Tri.sg (tk sk:List Nat){c:Prop}(hc:c)(h:Tri E y (z85 E.P E.N l.toArray l tk sk s) post)(he:segPO E.P E.N l.toArray l tk sk s=some c:=by kernel_rfl):Tri E (.seq (.region id l.toArray false) y) s post:=
 z7c tk sk _ c (z84 he) hc h
theorem Tri.kp (tk sk:List Nat)(h:Tri E y (z34 tk sk s) post)(he:z5b tk sk s=true:=by kernel_rfl):Tri E y s post:=Tri.keep tk sk (z3x he) h
theorem z0f {c:Operand}{b:Bool}{u v:Option Q}(h:bf b u v=some q)(ht:u=some q→Tri E x s post)(hf:v=some q→Tri E y s post)(hb:evO s c=some (.c (.d (.bool b))):=by kernel_rfl):
 Tri E (.cond c x y) s post:=zbi hb h ht hf
theorem z6b (ys:List Sh)(tk sk:List Nat){cs:Prop}(hc:cs)(hman:ManOk E l.toArray l ys)(hp:post .normal (z34 tk sk (stD (fun _=>true) 0 (z0r E.P l.toArray s (befGo l []) 0 l ys []) s)))
 (hm:E.P.follows .mixedOrders=true:=by kernel_rfl)
 (hb:(match Nat.beq l.length ys.length with|true=>(match drawB l (z0r E.P l.toArray s (befGo l []) 0 l ys []) (befGo l []) s with|true=>z3s E.N E.P l.toArray l (z0r E.P l.toArray s (befGo l []) 0 l ys []) ys|false=>false)|false=>false)=true:=by kernel_rfl)
 (hn:z3d (z0r E.P l.toArray s (befGo l []) 0 l ys []) (befGo l []) s 0 (z0r E.P l.toArray s (befGo l []) 0 l ys [])=z3c (z0r E.P l.toArray s (befGo l []) 0 l ys []):=by kernel_rfl)
 (hv:(fun r=>z2n E.P l.toArray r l (z0r E.P l.toArray s (befGo l []) 0 l ys []) ys)=(fun _=>z2n E.P l.toArray ⟨[],[]⟩ l (z0r E.P l.toArray s (befGo l []) 0 l ys []) ys):=by kernel_rfl)
 (hce:z2g E.P l.toArray l (z0r E.P l.toArray s (befGo l []) 0 l ys []) ys=cs:=by kernel_rfl)
 (hk:z5b tk sk (stD (fun _=>true) 0 (z0r E.P l.toArray s (befGo l []) 0 l ys []) s)=true:=by kernel_rfl):Tri E (.region id l.toArray true) s post:=
 zav ys (befGo l []) tk sk hm hb hn hv hce hc hman (z3x hk) hp
theorem DOk.cA {ops:Array Oper}{o:Oper}{x:DOp}{cl:Call}{f:FuncId}{args:List AV}{res:AV}(caps:List D)(xs:List AV)(hS:Summ E.P f args [] res [])(hle: ∀r,AVsArg (x.need.app r) xs args)
 (hop:o.op= .call cl:=by rfl) (hw: ∀r,z07 ops (x.need.app r) o=some true:=by exact fun r=>by kernel_rfl) (hd:dstOk E.N o.dst=true:=by kernel_rfl) (hc: ∀r,z2a (x.need.app r) cl=some (f,caps):=by exact fun r=>by kernel_rfl)
 (hx: ∀r,z32 (x.need.app r) cl caps=some xs:=by exact fun r=>by kernel_rfl) (hfl:z2d args=true:=by kernel_rfl) (hsol:res.solid=true:=by kernel_rfl) (heff: ∀r,putO (x.need.app r) o.dst res=x.eff.app (x.need.app r):=by exact fun r=>by kernel_rfl):DOk E ops o x:=
 DOk.callA hS hop hw hd hc hx hle hfl hsol heff
def lenS (s:St)(t:Nat):Option Nat:=match look s.tm t with|some (.c (.d (.list _ n _)))=>some n|some (.c (.view _ n _))=>some n|_=>none
theorem Tri.ln (t n:Nat)(h:n≤maxN→Tri E y s post)(he:lenS s t=some n:=by kernel_rfl):Tri E y s post:=by
 unfold lenS at he;split at he
 ·rename_i hl;cases he;exact Tri.lenOf hl h
 ·rename_i hl;cases he;exact zax hl h
 ·cases he
section
variable {S R:Type}
theorem z7l {tc n b cid id1 id2:Nat}{L1 L2:List Oper}{body:Code}{B:Nat→S→Option (Ctl S R)}{kn:S→Option Q}{kr:R→Option Q}(ti:Nat)(st0:S)(RT:R→St→Prop)(σ:S→St)(tk0 sk0 tk sk tkF skF tk2 sk2:List Nat)
 (h:outK (z12 B n 0 st0) kn kr=some q) (hn:n≤maxN)
 (hbody: ∀i st c,i<n→B i st=some c→Tri E body ((idx ti i (σ st)).put tc (.c (.d (.bool true)))) (z9i cid b ti σ (fun st=>z34 tkF skF ((idx ti n (σ st)).put tc (.c (.d (.bool false))))) RT i c))
 (hrest: ∀st,kn st=some q→post .normal (z34 tkF skF ((idx ti n (σ st)).put tc (.c (.d (.bool false)))))) (hret: ∀x s',kr x=some q→RT x s'→post .ret s')
 (hbc:Nat.beq b cid=false:=by kernel_rfl) (hs0:Av.keep tk0 sk0 s=some (idx ti 0 (σ st0)):=by kernel_rfl)
 (h1: ∀i st,z22 E.P E.N L1.toArray L1 tk sk (idx ti i (σ st))=some ((idx ti i (σ st)).put tc (.c (.d (.bool (decide ((i:Int)<(n:Int)))))),allT L1.length):=by exact fun i st=>by kernel_rfl)
 (h2: ∀i st,z22 E.P E.N L2.toArray L2 tk2 sk2 (idx ti i (σ st))=some ((σ st).put ti (.c (.d (.int .i64 (zzi.wrap ((i:Int)+1))))),allT L2.length):=by exact fun i st=>by kernel_rfl)
 (hF: ∀st,z5b tkF skF ((idx ti n (σ st)).put tc (.c (.d (.bool false))))=true:=by exact fun st=>by kernel_rfl):
 Tri E (.block b (.loop (.seq (.region id1 L1.toArray false) (.seq (.cond (.tmp tc) .skip (.exit b)) (.seq (.block cid body) (.region id2 L2.toArray false)))))) s post:=
 Tri.keep tk0 sk0 hs0 (Tri.range RT σ _ (fun i=>decide ((i:Int)<(n:Int))) tk sk tkF skF tk2 sk2 h hn hbc (fun i st=>⟨_,h1 i st,z00 _⟩) (fun i hi=>decide_eq_true (by omega)) (decide_eq_false (by omega)) (fun st=>z3x (hF st)) (fun i st=>⟨_,h2 i st,z00 _⟩) hbody hrest hret)
end
theorem At.cs (ts:List Nat){b:Bool}{u v:Option Q}(h:bf b u v=some q)(ht:u=some q→At E L i (putBs ts true s) K)(hf:v=some q→At E L i (putBs ts false s) K)
 (hb:ts.map (fun t=>look s.tm t)=ts.map (fun _=>some (.c (.d (.bool b)))):=by kernel_rfl):At E L i s K:=by
 have key:At E L i (putBs ts b s) K:=by
  cases b
  ·exact hf h
  ·exact ht h
 refine fun a w hs=>key a w (hs.weaken (fun t y hy=>?_) fun t y hy=>hy);unfold putBs at hy;simp only at hy;rcases z7f hy with hy|⟨_,hy⟩
 ·have hm:=z0m hy;obtain⟨t',ht',e⟩:=List.mem_map.1 hm;cases e;exact List.map_inj_left.1 hb _ ht'
 ·exact hy
theorem At.cA {o:Oper}{cl:Call}{f:FuncId}{args:List AV}{res:AV}(caps:List D)(xs:List AV)(hS:Summ E.P f args [] res [])(hle:AVsArg s xs args)(h:At E L (i+1) (putO s o.dst res) K)(ho:L[i]?=some o:=by rfl)
 (hop:o.op= .call cl:=by rfl) (hw:z07 L.toArray s o=some true:=by kernel_rfl) (hd:dstOk E.N o.dst=true:=by kernel_rfl) (hc:z2a s cl=some (f,caps):=by kernel_rfl) (hx:z32 s cl caps=some xs:=by kernel_rfl)
 (hfl:z2d args=true:=by kernel_rfl) (hsol:res.solid=true:=by kernel_rfl):At E L i s K:=
 At.callA hS ho hop hw hd hc hx hle hfl hsol h
theorem z3w {o:Oper}{cl:Call}{f:FuncId}{args:List AV}{res:AV}{sl sl':List (Nat×Slot)}(nf:Nat)(caps:List CC)(xs:List AV)(ρ:List (Nat×Nat))(tk sk:List Nat)
 (hS:Summ E.P f args sl res sl') (hle:AVsArgL s ρ (keysS sl) ((keysS sl).map (renN ρ)) xs args) (h:At E L (i+1) (putO ⟨(z34 tk sk s).tm,renSl ρ sl'++(z34 tk sk s).sl⟩ o.dst (res.ren ρ)) K) (ho:L[i]?=some o:=by rfl) (hop:o.op= .call cl:=by rfl)
 (hw:z07 L.toArray s o=some true:=by kernel_rfl) (hd:dstOk E.N o.dst=true:=by kernel_rfl) (hc:z39 s cl=some (f,nf,caps):=by kernel_rfl) (hx:argsL s cl nf caps=some xs:=by kernel_rfl)
 (hsl:LentS s ρ (keysS sl) sl:=by repeat' first|exact trivial|refine⟨⟨by kernel_rfl,by kernel_rfl⟩,?_⟩)
 (hinj:(match injB ρ (keysS sl)with|true=>(match injB ρ (keysS sl')with|true=>(match res.lent (keysS sl')with|true=>allC (fun p:Nat×Slot=>p.2.lent (keysS sl')) sl'|false=>false)|false=>false)|false=>false)=true:=by kernel_rfl)
 (hk:z5b tk sk s=true:=by kernel_rfl)
 (hk0:(match allC (fun k=>match look (z34 tk sk s).sl (renN ρ k)with|some _=>false|none=>true) (keysS sl++keysS sl')with|true=>allC (fun k=>(z34 tk sk s).noRef (renN ρ k)) (oddK (keysS sl) (keysS sl'))|false=>false)=true:=by kernel_rfl)
 (hfx:(match allC (fun k=> !anyB (Nat.beq (renN ρ k)) E.fx) (oddK (keysS sl) (keysS sl'))with|true=>lkOk3 E.lk ρ (keysS sl) (keysS sl')|false=>false)=true:=by kernel_rfl):At E L i s K:=by
 have h2: ∀{b z:Bool},(match b with|true=>z|false=>false)=true→b=true∧z=true:=fun{b z} h=>by cases b<;>simp_all
 obtain⟨a1,hinj⟩:=h2 hinj;obtain⟨a2,hinj⟩:=h2 hinj;obtain⟨a3,a4⟩:=h2 hinj;obtain⟨b1,b2⟩:=h2 hk0;obtain⟨c1,c2⟩:=h2 hfx;exact At.callL ρ tk sk hS ho hop hw hd hc hx hle hsl a1 a2 a3 a4 (z3x hk) b1 b2 c1 c2 _ rfl h
end
end Go.Av
namespace Go.Av
open Go
abbrev Alts:=List (Nat×Nat×St)
def altOf:Alts→Nat→Option (Nat×St)
 |[],_=>none
 |(r',i,n)::al,r=>match Nat.beq r' r with|true=>some (i,n)|false=>altOf al r
def hits (x y:DOp):Bool:=
 match anyB (fun e:Nat×AV=>z0a e.1 y.eff.tm) x.eff.tm with
 |true=>true
 |false=>anyB (fun e:Nat×Slot=>z0a e.1 y.eff.sl) x.eff.sl
def softB (al:Alts)(i r:Nat)(x y:DOp):Bool:=
 match altOf al r with
 |some (i',_)=>match Nat.beq i' i with|true=>(match hits x y with|true=>false|false=>true)|false=>false
 |none=>false
def zby (al:Alts)(specs:List DOp)(bef:List (List Nat)):Bool:=
 allB (fun r=>allB (fun i=>match Nat.beq i r with
  |true=>true
  |false=>match specs[i]?,specs[r]? with
   |some x,some y=>match z2f x y with
    |true=>(match memB i (nth bef r)with|true=>true|false=>(match memB r (nth bef i)with|true=>true|false=>softB al i r x y))
    |false=>true
   |_,_=>true) (List.range specs.length)) (List.range specs.length)
theorem z52 {al:Alts}{specs:List DOp}{bef:List (List Nat)}(h:zby al specs bef=true){i r:Nat}{x y:DOp}(hx:specs[i]?=some x)(hy:specs[r]?=some y)(hne:i≠r)(hw:z2f x y=true):
 i∈nth bef r∨r∈nth bef i∨((∃n,altOf al r=some (i,n))∧hits x y=false):=by
 have h1:=z1j.1 h r (by simpa using(List.getElem?_eq_some_iff.1 hy).1);have h2:=z1j.1 h1 i (by simpa using(List.getElem?_eq_some_iff.1 hx).1)
 have hb:Nat.beq i r=false:=by
  cases hb:Nat.beq i r with
  |false=>rfl
  |true=>exact absurd (zz1 hb) hne
 rw[hb,hx,hy]at h2;simp only[hw]at h2;cases hm:memB i (nth bef r)with
 |true=>exact .inl (z0l.1 hm)
 |false=>
  rw[hm]at h2;simp only at h2;cases hm2:memB r (nth bef i)with
  |true=>exact .inr (.inl (z0l.1 hm2))
  |false=>
   rw[hm2]at h2;simp only at h2;right;right;unfold softB at h2;cases ha:altOf al r with
   |none=>rw[ha]at h2;cases h2
   |some p=>
    obtain⟨i',n⟩:=p;rw[ha]at h2;simp only at h2;cases hi:Nat.beq i' i with
    |false=>rw[hi]at h2;cases h2
    |true=>
     rw[hi]at h2;simp only at h2;cases hh:hits x y with
     |true=>rw[hh]at h2;cases h2
     |false=>exact⟨⟨n,by rw[zz1 hi]⟩,rfl⟩
theorem zdb {x y:DOp}{t:Nat}(hx:z0a t x.eff.tm=true)(hy:z0a t y.eff.tm=true):hits x y=true:=by
 unfold hits;obtain⟨v,hv⟩:=z0n.1 hx;rw[z37.2 ⟨(t,v),z0m hv,hy⟩]
theorem zda {x y:DOp}{t:Nat}(hx:z0a t x.eff.sl=true)(hy:z0a t y.eff.sl=true):hits x y=true:=by
 unfold hits;obtain⟨v,hv⟩:=z0n.1 hx;split
 ·rfl
 ·exact z37.2 ⟨(t,v),z0m hv,hy⟩
def z30 (E:Env)(ops:Array Oper)(specs:List DOp)(bef:List (List Nat))(s0:St):Alts→Prop
 |[]=>True
 |(r,i,n)::al=>((Nat.beq i r=false∧specs[r]?.map (fun x=>(z0b x.need.tm,z0b x.need.sl))=some (z0b n.tm,z0b n.sl)∧keep (z0b n.tm) (z0b n.sl) (stD (fun j=>memB j (i::nth bef r)) 0 specs s0)=some n)∧
  ∃o x,ops[r]?=some o∧specs[r]?=some x∧DOk E ops o ⟨n,x.eff,x.mks,x.dead,x.hid⟩)∧z30 E ops specs bef s0 al
theorem z30.get {E:Env}{ops:Array Oper}{specs:List DOp}{bef:List (List Nat)}{s0:St}: ∀{al:Alts},z30 E ops specs bef s0 al→ ∀{r i:Nat} {n:St} {o:Oper} {x:DOp},altOf al r=some (i,n)→ops[r]?=some o→specs[r]?=some x→
 i≠r∧z0b x.need.tm=z0b n.tm∧z0b x.need.sl=z0b n.sl∧keep (z0b n.tm) (z0b n.sl) (stD (fun j=>memB j (i::nth bef r)) 0 specs s0)=some n∧DOk E ops o ⟨n,x.eff,x.mks,x.dead,x.hid⟩
 |[],_,_,_,_,_,_,h,_,_=>by cases h
 |(r',i',n')::al,⟨⟨⟨h1,h2,h3⟩,o',x',h4,h5,h6⟩,ht⟩,r,i,n,o,x,h,ho,hx=>by
  simp only[altOf]at h;cases hb:Nat.beq r' r with
  |true=>
   rw[hb]at h;cases h;have e:=zz1 hb
   subst e;rw[h4]at ho;cases ho;rw[h5]at hx;cases hx;rw[h5]at h2;simp only[Option.map_some,Option.some.injEq,Prod.mk.injEq]at h2;exact⟨fun e=>by rw[e]at h1;simp at h1,h2.1,h2.2,h3,h6⟩
  |false=>
   rw[hb]at h;exact z30.get ht h ho hx
section
variable {E:Env} {s:St} {a:Act} {w:World}
structure DrawOkA (E:Env) (ops:Array Oper) (specs:List DOp) (bef:List (List Nat)) (al:Alts) (s0:St):Prop where
 len:Nat.beq specs.length ops.size=true
 back:z4s ops=true
 befs:okBef ops bef=true
 ord:zby al specs bef=true
 fresh:z6z specs bef s0=true
 needs:z3d specs bef s0 0 specs=z3c specs
 each: ∀(i:Nat) (o:Oper) (x:DOp),ops[i]?=some o→specs[i]?=some x→DOk E ops o x
 alts:z30 E ops specs bef s0 al
theorem z9s {α β:Type}{l:List (Nat×α)}{l':List (Nat×β)}(h:z0b l=z0b l')(t:Nat):z0a t l=z0a t l':=by
 have key: ∀{γ:Type} (l:List (Nat×γ)),z0a t l=memB t (z0b l):=fun l=>by
  induction l with
  |nil=>rfl
  |cons e l ih=>
   rcases e with⟨k,v⟩;simp only[z0a,z0b,List.map_cons,memB]at*;cases Nat.beq k t<;>simp[ih]
 rw[key l,key l',h]
theorem DrawOkA.next {ops:Array Oper}{specs:List DOp}{bef:List (List Nat)}{al:Alts}{s0:St}(h:DrawOkA E ops specs bef al s0){D D':Nat→Bool}(hD:z69 ops D){i:Nat}{o:Oper}{x:DOp}(ho:ops[i]?=some o)
 (hx:specs[i]?=some x) (hi:D i=false) (hedge: ∀e∈o.after.toList,Region.binds .any e=true→D e.on=true) (hD': ∀j,D' j=if j=i then true else D j) (hs:SimE E (stD D 0 specs s0) a w)
 {K:Act→World→Prop} {Q:Exit→Act→World→Prop} (hK: ∀a' w',SimE E (stD D' 0 specs s0) a' w'→K a' w'):wpOp E.P ops Q i K a w:=by
 have hlen:=zz1 h.len;have hilt:i<ops.size:=(Array.getElem?_eq_some_iff.1 ho).1
 have hjlt: ∀{j:Nat} {y:DOp},specs[j]?=some y→j<ops.size:=fun hy=>by rw[←hlen];exact(List.getElem?_eq_some_iff.1 hy).1
 have hbef: ∀j∈nth bef i,D j=true∧j<i:=z6e h.befs hD i hilt fun o' ho' e he hb=>by rw[ho]at ho';cases ho';exact hedge e he hb
 have hafter: ∀j y,specs[j]?=some y→i∈nth bef j→D j=false:=fun j y hy hij=>by
  cases hj:D j with
  |false=>rfl
  |true=>
   have:=(z6e h.befs hD j (hjlt hy) (fun o' ho' e he hb=>hD j o' ho' hj e he hb) i hij).1;rw[hi]at this;cases this
 have hown:memB i (nth bef i)=false:=by
  cases hm:memB i (nth bef i)with
  |false=>rfl
  |true=>exact absurd (z41 h.befs hilt (z0l.1 hm)) (Nat.lt_irrefl _)
 have hx0:=hx;have hlast0: ∀j y,i<j→specs[j]?=some y→hits y x=true→z2f y x=true→D' j=false:=fun j y hlt hy hh hw=>by
  rw[hD',if_neg (by omega)];rcases z52 h.ord hy hx (by omega) hw with hm|hm|⟨_,hm⟩
  ·have:=z41 h.befs hilt hm;omega
  ·exact hafter j y hy hm
  ·rw[hh]at hm;cases hm
 have pick: ∃(nd:St) (b:List Nat),z0b x.need.tm=z0b nd.tm∧z0b x.need.sl=z0b nd.sl∧keep (z0b nd.tm) (z0b nd.sl) (stD (fun j=>memB j b) 0 specs s0)=some nd∧DOk E ops o ⟨nd,x.eff,x.mks,x.dead,x.hid⟩∧
  ∀j y,specs[j]?=some y→z2f y x=true→D j=memB j b:=by
  have hord: ∀j y,specs[j]?=some y→i∈nth bef j→memB j (nth bef i)=false:=fun j y hy hm=>by
   cases hm':memB j (nth bef i)with
   |false=>rfl
   |true=>
    have h1:=z41 h.befs hilt (z0l.1 hm');have h2:=z41 h.befs (hjlt hy) hm
    omega
  have plain:(∀j n,altOf al i=some (j,n)→D j=false)→ ∃(nd:St) (b:List Nat),z0b x.need.tm=z0b nd.tm∧z0b x.need.sl=z0b nd.sl∧keep (z0b nd.tm) (z0b nd.sl) (stD (fun j=>memB j b) 0 specs s0)=some nd∧DOk E ops o ⟨nd,x.eff,x.mks,x.dead,x.hid⟩∧
   ∀j y,specs[j]?=some y→z2f y x=true→D j=memB j b:=fun hno=>by
   have hkeep:=z4m specs 0 h.needs i x hx;rw[zz9]at hkeep;refine⟨x.need,nth bef i,rfl,rfl,hkeep,h.each i o x ho hx,fun j y hy hw=>?_⟩;by_cases e:j=i
   ·subst e;rw[hi,hown]
   ·rcases z52 h.ord hy hx e hw with hm|hm|⟨⟨n,hm⟩,_⟩
    ·rw[(hbef j hm).1,z0l.2 hm]
    ·rw[hafter j y hy hm,hord j y hy hm]
    ·rw[hno j n hm];cases hm':memB j (nth bef i)with
     |false=>rfl
     |true=>have:=(hbef j (z0l.1 hm')).1;rw[hno j n hm]at this;cases this
  cases ha:altOf al i with
  |none=>exact plain fun j n e=>by rw[ha]at e;cases e
  |some p=>
   obtain⟨i0,n⟩:=p;cases hd0:D i0 with
   |false=>exact plain fun j n' e=>by rw[ha]at e;cases e;exact hd0
   |true=>
    obtain⟨g1,g2,g3,g4,g5⟩:=h.alts.get ha ho hx;refine⟨n,i0::nth bef i,g2,g3,g4,g5,fun j y hy hw=>?_⟩;by_cases ej:j=i0
    ·subst ej;rw[hd0];exact(z0l.2 (zz5 ..)).symm
    ·have hcons:memB j (i0::nth bef i)=memB j (nth bef i):=by
      simp only[memB];cases hb:Nat.beq i0 j with
      |true=>exact absurd (zz1 hb).symm ej
      |false=>rfl
     rw[hcons];by_cases e:j=i
     ·subst e;rw[hi,hown]
     ·rcases z52 h.ord hy hx e hw with hm|hm|⟨⟨n',hm⟩,_⟩
      ·rw[(hbef j hm).1,z0l.2 hm]
      ·rw[hafter j y hy hm,hord j y hy hm]
      ·rw[ha]at hm;cases hm;exact absurd rfl ej
 obtain⟨nd,bb,kT,kS,hkeep,hdok,hsame⟩:=pick;obtain⟨fd,fm,ff⟩:=z6m h.fresh hx;unfold keep at hkeep;split at hkeep
 case h_2=>cases hkeep
 rename_i tm htm
 split at hkeep
 case h_2=>cases hkeep
 rename_i sl hsl
 have etm:nd.tm=tm:=by rw[←Option.some.inj hkeep]
 have esl:nd.sl=sl:=by rw[←Option.some.inj hkeep]
 have needT: ∀t y,look nd.tm t=some y→look (stD D 0 specs s0).tm t=some y:=fun t y hy=>by
  have h1:=z29 htm t y (etm▸hy);rw[←h1];refine z1w t specs 0 s0 s0 rfl fun j z hz hk=>?_;rw[zz9];exact hsame j z hz (z4z hk (.inl (by rw[z9s kT];exact z1i hy)))
 have needS: ∀t y,look nd.sl t=some y→look (stD D 0 specs s0).sl t=some y:=fun t y hy=>by
  have h1:=z29 hsl t y (esl▸hy);rw[←h1];refine z1k t specs 0 s0 s0 rfl fun j z hz hk=>?_;rw[zz9];exact hsame j z hz (z49 hk (.inl (by rw[z9s kS];exact z1i hy)))
 have lessT: ∀t y,look ((stD D 0 specs s0).less x).tm t=some y→look (stD D 0 specs s0).tm t=some y:=fun t y hy=>by
  have hy:look (lessK x.dead _) t=some y:=hy;rw[z1o]at hy;cases hm:memB t x.dead with
  |true=>rw[hm]at hy;cases hy
  |false=>rw[hm]at hy;exact hy
 have lessS: ∀t y,look ((stD D 0 specs s0).less x).sl t=some y→look (stD D 0 specs s0).sl t=some y:=fun t y hy=>by
  have hy:look (lessK (x.mks++x.hid) _) t=some y:=hy;rw[z1o]at hy;cases hm:memB t (x.mks++x.hid)with
  |true=>rw[hm]at hy;cases hy
  |false=>rw[hm]at hy;exact hy
 have hs1:SimE E (nd.app ((stD D 0 specs s0).less x)) a w:=hs.weaken (fun t y hy=>by
  simp only[St.app,z0e]at hy;cases hn:look nd.tm t with
  |none=>rw[hn]at hy;exact lessT t y hy
  |some z=>rw[hn]at hy;cases hy;exact needT t _ hn) fun t y hy=>by
  simp only[St.app,z0e]at hy;cases hn:look nd.sl t with
  |none=>rw[hn]at hy;exact lessS t y hy
  |some z=>rw[hn]at hy;cases hy;exact needS t _ hn
 have hfr: ∀d∈x.mks,((stD D 0 specs s0).less x).noRef d=true:=fun d hd=>by
  obtain⟨f1,f2⟩:=ff d hd;refine z4x specs 0 s0 f1 fun j y hy hDj=>?_;rw[zz9]at hDj;cases he:z4k d x y with
  |false=>rfl
  |true=>
   have hne:j≠i:=fun e=>by rw[e,hi]at hDj;cases hDj
   have:=hafter j y hy (f2 j y hne hy he);rw[this]at hDj;cases hDj
 have hone:=hdok (stD D 0 specs s0) hfr a w hs1;have hD0:D' i=true:=by rw[hD'];simp
 have hs2: ∀a' w',SimE E (x.eff.app (nd.app ((stD D 0 specs s0).less x))) a' w'→SimE E (stD D' 0 specs s0) a' w':=fun a' w' hs'=>by
  refine hs'.weaken (fun t y hy=>?_) fun t y hy=>?_
  ·simp only[St.app,z0e];cases he:look x.eff.tm t with
   |some z=>
    have:=z5u (D:=D') t specs 0 i x z s0 hx (by rw[zz9];exact hD0) he fun j z' hlt hz hk=>by
     rw[zz9];exact hlast0 j z' hlt hz (zdb hk (z1i he)) (z4z hk (.inr (z1i he)))
    rw[this]at hy;cases hy;rfl
   |none=>
    have e:look (stD D' 0 specs s0).tm t=look (stD D 0 specs s0).tm t:=z1w t specs 0 s0 s0 rfl fun j z hz hk=>by
     rw[zz9,hD',if_neg];intro e;subst e;rw[hx]at hz;cases hz;obtain⟨v,hv⟩:=z0n.1 hk;rw[he]at hv;cases hv
    rw[e]at hy;cases hn:look nd.tm t with
    |none=>
     show look (lessK x.dead _) t=some y;rw[z1o];cases hm:memB t x.dead with
     |true=>have:=fd t (z0l.1 hm);obtain⟨v,hv⟩:=z0n.1 this;rw[he]at hv;cases hv
     |false=>exact hy
    |some z=>rw[needT t z hn]at hy;exact hy
  ·simp only[St.app,z0e];cases he:look x.eff.sl t with
   |some z=>
    have:=z4w (D:=D') t specs 0 i x z s0 hx (by rw[zz9];exact hD0) he fun j z' hlt hz hk=>by
     rw[zz9];exact hlast0 j z' hlt hz (zda hk (z1i he)) (z49 hk (.inr (z1i he)))
    rw[this]at hy;cases hy;rfl
   |none=>
    have e:look (stD D' 0 specs s0).sl t=look (stD D 0 specs s0).sl t:=z1k t specs 0 s0 s0 rfl fun j z hz hk=>by
     rw[zz9,hD',if_neg];intro e;subst e;rw[hx]at hz;cases hz;obtain⟨v,hv⟩:=z0n.1 hk;rw[he]at hv;cases hv
    rw[e]at hy;cases hn:look nd.sl t with
    |none=>
     show look (lessK (x.mks++x.hid) _) t=some y;rw[z1o];cases hm:memB t (x.mks++x.hid)with
     |true=>have:=fm t (z0l.1 hm);obtain⟨v,hv⟩:=z0n.1 this;rw[he]at hv;cases hv
     |false=>exact hy
    |some z=>rw[needS t z hn]at hy;exact hy
 have hfin:=hone K Q fun a' w' hs'=>hK a' w' (hs2 a' w' hs');unfold wpOp;rw[ho];simp only;split
 ·rename_i hw;rw[if_pos hw]at hfin;exact .inl hfin
 ·rename_i hw;rw[if_neg hw]at hfin;exact hfin
theorem DrawOkA.any {ops:Array Oper}{specs:List DOp}{bef:List (List Nat)}{al:Alts}{s0:St}(h:DrawOkA E ops specs bef al s0){Q:Exit→Act→World→Prop}
 (hQ: ∀a' w',SimE E (stD (fun _=>true) 0 specs s0) a' w'→Q .normal a' w'): ∀(fuel:Nat) (listed:Array Bool) (a:Act) (w:World),cnt listed=fuel→listed.size=ops.size→z69 ops (inD listed)→
 SimE E (stD (inD listed) 0 specs s0) a w→wpAny E.P .any ops Q fuel listed a w:=by
 have hlen:=zz1 h.len;intro fuel;induction fuel with
 |zero=>
  intro listed a w hc hz hD hs;refine⟨List.filter_eq_nil_iff.2 fun i hi=>?_,hQ a w ?_⟩
  ·have:=z5i hc i (by rw[hz];simpa using hi);simp[Array.getD_eq_getD_getElem?,this]
  ·rw[z5d (D':=inD listed)]
   ·exact hs
   ·intro j hj;have:=z5i hc j (by omega)
    simp[inD,Array.getD_eq_getD_getElem?,this]
 |succ fuel ih=>
  intro listed a w hc hz hD hs;refine⟨fun h0=>?_,fun i hi=>?_⟩
  ·obtain⟨i,h1,h2⟩:=zal (l:=listed) (by omega);have hilt:i<ops.size:=by rw[←hz];exact(Array.getElem?_eq_some_iff.1 h1).1
   have hmem:i∈Region.ready .any ops listed:=by
    unfold Region.ready;refine List.mem_filter.2 ⟨by simpa using hilt,?_⟩;have ho:ops[i]?=some ops[i]:=Array.getElem?_eq_getElem hilt
    simp only[Array.getD_eq_getD_getElem?,h1,ho,Option.getD_some,Bool.not_false,Bool.true_and,Option.map_some,Array.all_eq_true'];intro e he;cases hb:Region.binds .any e with
    |false=>rfl
    |true=>
     have:=h2 e.on (z59 h.back ho (by simpa using he) hb);simp[this]
   rw[h0]at hmem;cases hmem
  ·unfold Region.ready at hi;obtain⟨hi1,hi2⟩:=List.mem_filter.1 hi;have hilt:i<ops.size:=by simpa using hi1
   have ho:ops[i]?=some ops[i]:=Array.getElem?_eq_getElem hilt;simp only[ho,Option.map_some,Option.getD_some,Bool.and_eq_true,Array.all_eq_true']at hi2;obtain⟨hn,hall⟩:=hi2;have hli:listed[i]?=some false:=by
    rw[Array.getElem?_eq_getElem (by omega)];simp[Array.getD_eq_getD_getElem?,Array.getElem?_eq_getElem (show i<listed.size by omega)]at hn;rw[hn]
   have hedge: ∀e∈ops[i].after.toList,Region.binds .any e=true→inD listed e.on=true:=fun e he hb=>by
    have:=hall e (by simpa using he);rw[hb]at this
    simpa [inD]using this
   have hset: ∀j,inD (listed.setIfInBounds i true) j=if j=i then true else inD listed j:=fun j=>by
    unfold inD;simp only[Array.getD_eq_getD_getElem?,Array.getElem?_setIfInBounds];by_cases e:i=j
    ·subst e;simp[show i<listed.size by omega]
    ·rw[if_neg e,if_neg (fun x=>e x.symm)]
   obtain⟨x,hx⟩: ∃x,specs[i]?=some x:=⟨specs[i]'(by omega),List.getElem?_eq_getElem _⟩;refine h.next hD ho hx (by simp[inD,Array.getD_eq_getD_getElem?,hli]) hedge hset hs fun a' w' hs'=>?_;refine ih _ a' w' (by have:=zam hli;omega) (by simpa using hz) (fun j o hj hDj e he hb=>?_) hs';rw[hset]at hDj ⊢;by_cases e1:e.on=i
   ·rw[if_pos e1]
   ·rw[if_neg e1];by_cases e2:j=i
    ·subst e2;rw[ho]at hj;cases hj;exact hedge e he hb
    ·rw[if_neg e2]at hDj;exact hD j o hj hDj e he hb
def zcr (N:Nat)(P:Program)(ops:Array Oper)(n:St)(o:Oper):Bool:=
 match o.dst with
  |none=>false
  |some d=>match z07 ops n o with
   |some true=>match z16 P n (some d) o.op with
    |some (.val av c)=>match okDst N n (some d) (.val av c)with|true=>mksOk [] (.val av c) (some d)|false=>false
    |_=>false
   |some false=>Nat.blt d N
   |none=>false
def zak (P:Program)(ops:Array Oper)(n:St)(o:Oper):Prop:=
 match z07 ops n o with
  |some true=>match z16 P n o.dst o.op with
   |some (.val _ c)=>c
   |_=>True
  |_=>True
theorem z30.z {E:Env}{ops:Array Oper}{specs:List DOp}{bef:List (List Nat)}{s0:St}:z30 E ops specs bef s0 []:=trivial
theorem z30.k {E:Env}{ops:Array Oper}{specs:List DOp}{bef:List (List Nat)}{s0:St}{r i:Nat}{n:St}{al:Alts}(h:z30 E ops specs bef s0 al)
 (h1:Nat.beq i r=false:=by kernel_rfl)
 (h2:specs[r]?.map (fun x=>(z0b x.need.tm,z0b x.need.sl))=some (z0b n.tm,z0b n.sl):=by kernel_rfl)
 (h3:keep (z0b n.tm) (z0b n.sl) (stD (fun j=>memB j (i::nth bef r)) 0 specs s0)=some n:=by kernel_rfl)
 (h4:specs[r]?.map (fun x=>(⟨n,x.eff,x.mks,x.dead,x.hid⟩:DOp))=ops[r]?.map (fun o=>(⟨n,z55 E.P ops n o,[],[],[]⟩:DOp)):=by kernel_rfl)
 (h5:(fun q:St=>ops[r]?.map (fun o=>(z07 ops (n.app q) o,z16 E.P (n.app q) o.dst o.op)))=(fun _=>ops[r]?.map (fun o=>(z07 ops n o,z16 E.P n o.dst o.op))):=by kernel_rfl)
 (h6:ops[r]?.map (zcr E.N E.P ops n)=some true:=by kernel_rfl)
 (h7:ops[r]?.map (zak E.P ops n)=some True:=by kernel_rfl):z30 E ops specs bef s0 ((r,i,n)::al):=by
 refine⟨⟨⟨h1,h2,h3⟩,?_⟩,h⟩;cases ho:ops[r]? with
 |none=>rw[ho]at h6;cases h6
 |some o=>
  cases hx:specs[r]? with
  |none=>rw[hx]at h2;cases h2
  |some x=>
   refine⟨o,x,rfl,rfl,?_⟩;rw[ho,hx]at h4;simp only[Option.map_some,Option.some.injEq]at h4;rw[h4];rw[ho]at h6 h7;simp only[Option.map_some,Option.some.injEq]at h6 h7;refine z9e (fun q=>?_) h6 ?_
   ·have:=congrFun h5 q;rw[ho]at this;simp only[Option.map_some,Option.some.injEq,Prod.mk.injEq]at this;exact this
   ·show zak E.P ops n o;rw[h7];trivial
end
end Go.Av
namespace Go.Av
open Go
theorem Summ.i {P : Program} {f : FuncId} {fn : Func} {c : Code} {args : List AV} {sl sl' : List (Nat × Slot)} {res : AV} (hf : P.funcs[f]? = some fn) (hb : fn.body = some c) (ex : List Nat)
    (h : ∀ (w : World) (G V L : Nat → Prop) (φ : Nat → Option Loc), Tri ⟨P, w, G, V, L, sl.map (·.1) ++ ex, fn.ntmps, φ, sl.map (·.1)⟩ c ⟨params 0 args, sl⟩ (zaj P fn res sl'))
    (hn : (fn.name == "runtime.NumGoroutine") = false := by kernel_rfl) (ha : Nat.ble args.length fn.ntmps = true := by kernel_rfl) (hlt : anyB (fun p : Nat × Slot => Nat.blt p.1 fn.ntmps) sl = false := by rfl) : Summ P f args sl res sl' := by
  refine Summ.intro hf hb hn ha ex hlt ?_
  rintro ⟨P, w, G, V, L, lk, N, φ, fx⟩ rfl rfl rfl rfl
  exact h w G V L φ
section
variable {E:Env}
theorem Tri.l {s:St}{post:Exit→St→Prop}{c:Code}(fz:List Nat)(s':St)(ht:LeT s fz s'.tm)(hs:LeS s fz s'.sl)(h:Tri E c s' post)(hfz: ∀k∈fz,k∉E.lk:=by intro k hk h;first|(cases hk;done)|(cases h;done)|(simp at hk h;omega)):Tri E c s post:=Tri.le fz hfz s' ht hs h
theorem At.l {L:List Oper}{i:Nat}{K:St→Prop}{s:St}(fz:List Nat)(s':St)(ht:LeT s fz s'.tm)(hs:LeS s fz s'.sl)(h:At E L i s' K)(hfz: ∀k∈fz,k∉E.lk:=by intro k hk h;first|(cases hk;done)|(cases h;done)|(simp at hk h;omega)):At E L i s K:=At.le fz hfz s' ht hs h
end
end Go.Av
namespace Go.Av
open Go
def maskC:List Bool→List C→List C
 |m::ms,c::cs=>match m with|true=>c::maskC ms cs|false=>maskC ms cs
 |_,_=>[]
def z4f (R:C→Value→Prop):List Bool→Nat→List C→(Nat→Value)→Prop
 |m::ms,i,c::cs,u=>(m=true→R c (u i))∧z4f R ms (i+1) cs u
 |_,_,_,_=>True
theorem z4f.of {R R':C→Value→Prop}: ∀{ms:List Bool} {i:Nat} {cs ds:List C} {u:Nat→Value} {vs:List Value},RelCs R cs vs→(∀j,j<vs.length→u (i+j)=vs.getD j undef)→maskC ms cs=maskC ms ds→cs.length=ds.length→(∀c∈maskC ms cs,∀v,R c v→R' c v)→z4f R' ms i ds u
 |[],_,_,_,_,_,_,_,_,_,_=>by simp[z4f]
 |_::_,_,_,[],_,_,_,_,_,_,_=>by simp[z4f]
 |m::ms,i,c::cs,d::ds,u,v::vs,h,hu,he,hl,hR=>by
  have h0:=hu 0 (by simp);have hu': ∀j,j<vs.length→u (i+1+j)=vs.getD j undef:=fun j hj=>by have:=hu (j+1) (by simpa using hj);simpa [Nat.add_assoc,Nat.add_comm 1 j]using this
  have hl':cs.length=ds.length:=by simpa using hl
  cases m with
  |true=>
   simp only[maskC]at he hR;injection he with e1 e2;subst e1;exact⟨fun _=>by simp at h0;rw[h0];exact hR c (zz5 ..) v h.1,z4f.of h.2 hu' e2 hl' fun c hc=>hR c (zz4 _ hc)⟩
  |false=>
   simp only[maskC]at he hR;exact⟨(fun h=>by cases h),z4f.of h.2 hu' he hl' hR⟩
 |_::_,_,[],_::_,_,_,_,_,_,hl,_=>by simp at hl
 |_::_,_,_::_,_,_,[],h,_,_,_,_=>h.elim
section
variable {E:Env} {s:St} {G:Nat→Prop} {φ:Nat→Option Loc} {a:Act} {w:World}
end
section
variable {E:Env} {s:St}
end
section
variable {E:Env}
end
end Go.Av
namespace Go.Av
open Go
section
variable {E:Env} {s:St} {G:Nat→Prop} {φ:Nat→Option Loc} {a:Act} {w:World}
theorem Sim.storeAt (h:Sim E s G φ a w){k es N N' m p:Nat}{get get' get2:Nat→List D}{L:Loc}{us:List Value}(hk:look s.sl k=some (.vec es N get))(hL:φ k=some L)(hm:p+m≤L.cap)(hul:us.length=m*es)(hcs:N'≤p∨z18 G w us es m get')
 (hx:N'≤maxN) (hc:N'≤L.cap) (hg: ∀i,i<N'→(p≤i∧i<p+m∧get2 i=get' (i-p))∨((i<p∨p+m≤i)∧i<N∧get2 i=get i)) (h1: ∀u∈us,u.oneCell'=true):
 (storeCells ⟨L.blk,L.off+p*es,none⟩ us).run E.P w= .ok () (w.setCells L.blk (L.off+p*es) us)∧Sim E (s.slot k (.vec es N' get2)) G φ a (w.setCells L.blk (L.off+p*es) us):=by
 obtain⟨_,h0|⟨l,g1,g2,ht,hel⟩⟩:=h.sl _ _ hk
 ·rw[hL]at h0;cases h0.1
 ·rw[hL]at g1;cases g1;have e1:(p+m)*es≤L.cap*es:=Nat.mul_le_mul_right es hm
  have htt:w.there L.blk (L.off+p*es) us.length:=fun j hj=>by
   rw[Nat.add_assoc];refine ht.1 (p*es+j) ?_;rw[Nat.add_mul]at e1;omega
  have hstore:=run_storeCells_cells (P:=E.P) L.blk (L.off+p*es) us 0 w (fun j hj=>(by simpa using htt j hj:_∧_).1) (fun j hj=>(by simpa using htt j hj:_∧_).2) h1;simp only[Nat.add_zero]at hstore;refine⟨hstore,?_⟩;obtain⟨f1,f2,f3,f4,f5⟩:=z20 L.blk us (L.off+p*es) w;have hsame:Same G w (w.setCells L.blk (L.off+p*es) us):=fun b hb=>f5 b fun e=>(h.own k _ L hk hL).1 (e▸hb)
  refine h.turn hk hL f1 f2 f3 f4 f5 ⟨hx,.inr ⟨L,hL,hc,ht.setCells _ _ _,fun i hi=>?_⟩⟩;rcases hg i hi with⟨q1,q2,q3⟩|⟨q1,q2,q3⟩
  ·rw[q3];obtain⟨g1,g2⟩:=(hcs.resolve_left (by omega)) (i-p) (by omega);refine⟨g1,fun j hj=>?_⟩;obtain⟨u,hu,hr⟩:=g2 j (by omega);have hlt':=z1y (show i-p<m by omega) (show j<es by omega)
   have hin':=World.cell?_setCells_in L.blk us (L.off+p*es) w (fun q hq=>(htt q hq).1) ((i-p)*es+j) (by omega);refine⟨u,?_,hr.mono hsame fun _ h=>h⟩;have e2:L.off+i*es+j=L.off+p*es+((i-p)*es+j):=by
    have:i=p+(i-p):=by omega
    rw[this,Nat.add_mul];have:p+(i-p)-p=i-p:=by omega
    rw[this];omega
   rw[e2,hin',←hu,List.getElem?_eq_getElem (by omega)]
  ·rw[q3];obtain⟨g1,g2⟩:=hel i q2;refine⟨g1,fun j hj=>?_⟩;obtain⟨u,hu,hr⟩:=g2 j hj;refine⟨u,?_,hr.mono hsame fun _ h=>h⟩;rw[World.cell?_setCells_out L.blk us (L.off+p*es) w _ (fun _ _=>by
    show L.off+i*es+j<L.off+p*es∨L.off+p*es+us.length≤L.off+i*es+j;rcases q1 with q1|q1
    ·left;have:=z1y q1 (show j<es by omega)
     omega
    ·right;have:(p+m)*es≤i*es:=Nat.mul_le_mul_right es q1
     rw[Nat.add_mul]at this;omega)]
   exact hu
theorem add_add (b o j:Nat):(⟨b,o,none⟩:Addr).add j=⟨b,o+j,none⟩:=Addr.add_mid b o j
theorem Sim.loadAt (h:Sim E s G φ a w){k es N m q:Nat}{get:Nat→List D}{L:Loc}{A:Option Addr}{c:Nat}(hk:look s.sl k=some (.vec es N get))(hL:φ k=some L)(hN:0<N)(hq:q+m≤N)(hA:0<m→A=some ⟨L.blk,L.off+q*es,none⟩):
 ∃us:List Value,us.length=m*es∧z18 G w us es m (fun i=>get (q+i))∧(Builtin.firstCells es m (.slice A m c)).run E.P w= .ok us.toArray w∧ ∀u∈us,u.oneCell'=true:=by
 obtain⟨_,h0|⟨l,g1,g2,ht,hel⟩⟩:=h.sl _ _ hk
 ·omega
 ·rw[hL]at g1;cases g1;have he:z13 G w L.blk (L.off+q*es) es m (fun i=>get (q+i)):=fun i hi=>by
   obtain⟨e1,e2⟩:=hel (q+i) (by omega);refine⟨e1,?_⟩;have e:L.off+q*es+i*es=L.off+(q+i)*es:=by rw[Nat.add_mul];omega
   rw[e];exact e2
  obtain⟨us,h1,h2,h3,h4⟩:=z5l (P:=E.P) he;refine⟨us,h1,h2,?_,h4⟩;by_cases hm:0<m
  ·rw[hA hm];exact h3 w rfl
  ·have:m=0:=by omega
   subst this;have:us=[]:=by cases us<;>simp_all
   subst this;cases A with
   |none=>rfl
   |some A=>simp[Builtin.firstCells,loadCells,loadCellsFrom]
end
end Go.Av
namespace Go.Av
open Go
section
variable {E:Env} {s:St}
theorem SrcOf.g {x:Operand}{y:AV}{es m sn:Nat}{get:Nat→List D}(hx:evO s x=some y)(hs:SrcOf s y es m get)(hsn:sn=m):
 ∀{G:Nat→Prop} {φ:Nat→Option Loc} {a:Act} {w:World},Sim E s G φ a w→ ∃(us:List Value) (A':Option Addr) (c':Nat),a.eval x= .slice A' sn c'∧us.length=m*es∧z18 G w us es m get∧(Builtin.firstCells es m (.slice A' sn c')).run E.P w= .ok us.toArray w∧ ∀u∈us,u.oneCell'=true:=fun{G φ a w} h=>by
 subst hsn;obtain⟨A,cap,hv,_,us,h1,h2,h3,h4⟩:=hs.load h (h.ev hx);refine⟨us,A,cap,hv,h1,h2,?_,h4⟩;have:=h3 w rfl
 rw[hv]at this;exact this
end
end Go.Av
namespace Go.Av
open Go
def z0w:ByteArray:=bs [0,1,2,2,3,3,3,3,4,4,4,4,4,4,4,4,5,5,5,5,5,5,5,5,5,5,5,5,5,5,5,5,6,6,6,6,6,6,6,6,6,6,6,6,6,6,6,6,6,6,6,6,6,6,6,6,6,6,6,6,6,6,6,6,7,7,7,7,7,7,7,7,7,7,7,7,7,7,7,7,7,7,7,7,7,7,7,7,7,7,7,7,7,7,7,7,7,7,7,7,7,7,7,7,7,7,7,7,7,7,7,7,7,7,7,7,7,7,7,7,7,7,7,7,7,7,7,7,8,8,8,8,8,8,8,8,8,8,8,8,8,8,8,8,8,8,8,8,8,8,8,8,8,8,8,8,8,8,8,8,8,8,8,8,8,8,8,8,8,8,8,8,8,8,8,8,8,8,8,8,8,8,8,8,8,8,8,8,8,8,8,8,8,8,8,8,8,8,8,8,8,8,8,8,8,8,8,8,8,8,8,8,8,8,8,8,8,8,8,8,8,8,8,8,8,8,8,8,8,8,8,8,8,8,8,8,8,8,8,8,8,8,8,8,8,8,8,8,8,8,8,8,8,8,8,8]
structure Value where
 isText:Bool
 n:Int
 s:ByteArray
 deriving Inhabited
def encValue (x:Value):List D:=[.bool x.isText,dI x.n,.str x.s]
abbrev cValue (x:Value):List C:=[.d (.bool x.isText),.d (dI x.n),.d (.str x.s)]
def z3a (x y:Value):Bool:=((x.isText==y.isText) && (decide (x.n=y.n) && (strEq x.s y.s && true)))
def z2m (p0:Value):Option Bool:=
 bf p0.isText (jn (fun(a1:Bool)=>some a1) fun j2=>bf (decide (p0.n=0)) (j2 (decide ((p0.s.size:Int)≤64))) (j2 false)) (some (strEq p0.s (bs [])))
def z36 (p0:Value):Option Bool:=
 (z2m p0).bind fun r1=>some (!r1)
def z06 (p0:List Value):Option Int:=
 outK (z12 (S:=Unit) (R:=Int) (fun i1 (a2:Unit)=>(z36 (p0.getD i1 zzd)).bind fun r4=>bf r4 (some (.ret ((i1:Nat):Int))) (some (.next ()))) p0.length 0 ()) (fun(a3:Unit)=>some (-1)) (fun x=>some x)
def z03 (p0:List Value):Option Bool:=
 (z06 p0).bind fun r1=>some (decide (0≤r1))
def value_Check (p0:List Value):Option Int:=
 jn (fun(a1:Bool)=>bf a1 (some 4) (some 0)) fun j2=>bf (decide (8<(p0.length:Int))) (j2 true) ((z03 p0).bind fun r3=>j2 r3)
def value_mark (p0:Value):Option Int:=
 bf p0.isText (some 1) (some 0)
def z28 (p0:Int):Option Int:=
 jn (fun(a1:Int×Int)=>jn (fun(a3:Int×Int)=>jn (fun(a5:Int×Int)=>need ((0:Int)≤(IntKind.u8.wrap a5.1)∧(IntKind.u8.wrap a5.1)<(z0w.size:Int))<|some (zzi.wrap (a5.2+(zzi.wrap (bt z0w (IntKind.u8.wrap a5.1)))))) fun j6=>bf (decide (256≤a3.1)) (j6 ((shrOp .u64 a3.1 8),(zzi.wrap (a3.2+8)))) (j6 (a3.1,a3.2))) fun j4=>bf (decide (65536≤a1.1)) (j4 ((shrOp .u64 a1.1 16),(zzi.wrap (a1.2+16)))) (j4 (a1.1,a1.2))) fun j2=>bf (decide (4294967296≤p0)) (j2 ((shrOp .u64 p0 32),32)) (j2 (p0,0))
def pack_Count (p0:Int):Option ByteArray:=
 (z28 p0).bind fun r1=>need ((0:Int)≤(if 1<(zzi.wrap ((zzi.wrap (r1+6)).tdiv 7))then(zzi.wrap ((zzi.wrap (r1+6)).tdiv 7))else 1)∧(if 1<(zzi.wrap ((zzi.wrap (r1+6)).tdiv 7))then(zzi.wrap ((zzi.wrap (r1+6)).tdiv 7))else 1)≤(if 1<(zzi.wrap ((zzi.wrap (r1+6)).tdiv 7))then(zzi.wrap ((zzi.wrap (r1+6)).tdiv 7))else 1)∧(if 1<(zzi.wrap ((zzi.wrap (r1+6)).tdiv 7))then(zzi.wrap ((zzi.wrap (r1+6)).tdiv 7))else 1)≤(lim:Int))<|outK (z12 (S:=List Int) (R:=Empty) (fun i3 (a4:List Int)=>need ((0:Int)≤(zzi.wrap ((7:Int)*((i3:Nat):Int))))<|need ((0:Int)≤((i3:Nat):Int)∧((i3:Nat):Int)<(a4.length:Int))<|need ((0+i3)<a4.length)<|some (.next (a4.set (0+i3) (z05 .or .u8 (IntKind.u8.wrap (shrOp .u64 p0 (zzi.wrap ((7:Int)*((i3:Nat):Int))))) 128)))) ((List.replicate ((if 1<(zzi.wrap ((zzi.wrap (r1+6)).tdiv 7))then(zzi.wrap ((zzi.wrap (r1+6)).tdiv 7))else 1).toNat) (0:Int)).length) 0 (List.replicate ((if 1<(zzi.wrap ((zzi.wrap (r1+6)).tdiv 7))then(zzi.wrap ((zzi.wrap (r1+6)).tdiv 7))else 1).toNat) (0:Int))) (fun(a5:List Int)=>need ((0:Int)≤(zzi.wrap ((if 1<(zzi.wrap ((zzi.wrap (r1+6)).tdiv 7))then(zzi.wrap ((zzi.wrap (r1+6)).tdiv 7))else 1)-1))∧(zzi.wrap ((if 1<(zzi.wrap ((zzi.wrap (r1+6)).tdiv 7))then(zzi.wrap ((zzi.wrap (r1+6)).tdiv 7))else 1)-1))<(a5.length:Int))<|need ((0+(zzi.wrap ((if 1<(zzi.wrap ((zzi.wrap (r1+6)).tdiv 7))then(zzi.wrap ((zzi.wrap (r1+6)).tdiv 7))else 1)-1)).toNat)<a5.length)<|need ((0:Int)≤(zzi.wrap ((if 1<(zzi.wrap ((zzi.wrap (r1+6)).tdiv 7))then(zzi.wrap ((zzi.wrap (r1+6)).tdiv 7))else 1)-1))∧(zzi.wrap ((if 1<(zzi.wrap ((zzi.wrap (r1+6)).tdiv 7))then(zzi.wrap ((zzi.wrap (r1+6)).tdiv 7))else 1)-1))<(a5.length:Int))<|need ((0+(zzi.wrap ((if 1<(zzi.wrap ((zzi.wrap (r1+6)).tdiv 7))then(zzi.wrap ((zzi.wrap (r1+6)).tdiv 7))else 1)-1)).toNat)<a5.length)<|some (strOfNums (a5.set (0+(zzi.wrap ((if 1<(zzi.wrap ((zzi.wrap (r1+6)).tdiv 7))then(zzi.wrap ((zzi.wrap (r1+6)).tdiv 7))else 1)-1)).toNat) (z05 .and .u8 (a5.getD (0+(zzi.wrap ((if 1<(zzi.wrap ((zzi.wrap (r1+6)).tdiv 7))then(zzi.wrap ((zzi.wrap (r1+6)).tdiv 7))else 1)-1)).toNat) zzd) 127)))) (fun(x:Empty)=>x.elim)
def z42 (p0:List ByteArray):Option ByteArray:=
 (strings_Join p0 (bs [])).bind fun r1=>some r1
def pack_Text (p0:ByteArray):Option ByteArray:=
 (pack_Count (zzu.wrap (p0.size:Int))).bind fun r1=>(z42 ([r1,p0]:List ByteArray)).bind fun r2=>some r2
def pack_Number (p0:Int):Option ByteArray:=
 (pack_Count (z05 .xor .u64 (shlOp .u64 (zzu.wrap p0) 1) (zzu.wrap (shrOp .i64 p0 63)))).bind fun r1=>some r1
end Go.Av
namespace Go.Av
def encV (v:Value):Option (List UInt8):=(value_mark v).bind fun m=>bf v.isText ((pack_Text v.s).bind fun t=>some (UInt8.ofNat (IntKind.u8.wrap m).toNat::t.data.toList)) ((pack_Number v.n).bind fun t=>some (UInt8.ofNat (IntKind.u8.wrap m).toNat::t.data.toList))
def encVs:List Value→Option (List UInt8)
 |[]=>some []
 |v::l=>(encV v).bind fun a=>(encVs l).bind fun b=>some (a++b)
def z2u (p0:List Value):Option (ByteArray×Int):=
 (value_Check p0).bind fun r=>bf (!decide (r=0)) (some (bs [],r)) ((pack_Count (p0.length:Int)).bind fun c=>(encVs p0).bind fun b=>need (c.size+b.length≤140737488355328) (some (⟨(c.data.toList++b).toArray⟩,0)))
end Go.Av
namespace Go.Av
open Go
structure Taker where
 left:ByteArray
 bad:Bool
 deriving Inhabited
abbrev cTaker (x:Taker):List C:=[.d (.str x.left),.d (.bool x.bad)]
def z1t (p0:ByteArray):Option (Int×ByteArray×Int):=
 need (p0.size≤maxN)<|outK (z12 (S:=Int) (R:=Int×ByteArray×Int) (fun i1 (a2:Int)=>jn (fun(a4:Bool)=>bf a4 (some (.ret (0,(bs []),4))) (need ((0:Int)≤(zzi.wrap ((7:Int)*((i1:Nat):Int))))<|bf (decide ((bt p0 ((i1:Nat):Int))<128)) (need ((0:Int)≤(zzi.wrap (((i1:Nat):Int)+1))∧(zzi.wrap (((i1:Nat):Int)+1))≤(p0.size:Int)∧(p0.size:Int)≤(p0.size:Int))<|some (.ret ((z05 .or .u64 a2 (shlOp .u64 (zzu.wrap (z05 .and .u8 (bt p0 ((i1:Nat):Int)) 127)) (zzi.wrap ((7:Int)*((i1:Nat):Int))))),(p0.extract ((zzi.wrap (((i1:Nat):Int)+1)).toNat) p0.size),0))) (some (.next (z05 .or .u64 a2 (shlOp .u64 (zzu.wrap (z05 .and .u8 (bt p0 ((i1:Nat):Int)) 127)) (zzi.wrap ((7:Int)*((i1:Nat):Int))))))))) fun j5=>bf (decide (0<((i1:Nat):Int))) (bf (decide ((bt p0 ((i1:Nat):Int))=0)) (j5 true) (bf (decide (((i1:Nat):Int)=9)) (j5 (decide (1<(bt p0 ((i1:Nat):Int))))) (j5 false))) (bf (decide (((i1:Nat):Int)=9)) (j5 (decide (1<(bt p0 ((i1:Nat):Int))))) (j5 false))) p0.size 0 0) (fun(a3:Int)=>some (0,(bs []),3)) (fun x=>some x)
def z0i (p1:ByteArray)(p2:Int)(l0:Taker):Option Taker:=
 bf l0.bad (some (⟨p1,true⟩:Taker)) (some (⟨p1,(!decide (p2=0))⟩:Taker))
def z17 (l0:Taker):Option (Int×Taker):=
 (z1t l0.left).bind fun r1=>(z0i r1.2.1 r1.2.2 l0).bind fun r2=>some (r1.1,r2)
def z1c (l0:Taker):Option (Int×Taker):=
 bf (strEq l0.left (bs [])) (some (0,(⟨l0.left,true⟩:Taker))) (need ((0:Int)≤0∧0<(l0.left.size:Int))<|need ((0:Int)≤1∧(1:Int)≤(l0.left.size:Int)∧(l0.left.size:Int)≤(l0.left.size:Int))<|some ((bt l0.left 0),(⟨(l0.left.extract 1 l0.left.size),l0.bad⟩:Taker)))
def z1x (p0:ByteArray):Option (Int×ByteArray×Int):=
 (z1t p0).bind fun r1=>some ((z05 .xor .i64 (zzi.wrap (shrOp .u64 r1.1 1)) (zzi.wrap (0-(zzi.wrap (z05 .and .u64 r1.1 1))))),r1.2.1,r1.2.2)
def z0q (l0:Taker):Option (Int×Taker):=
 (z1x l0.left).bind fun r1=>(z0i r1.2.1 r1.2.2 l0).bind fun r2=>some (r1.1,r2)
def z23 (p0:ByteArray):Option (ByteArray×ByteArray×Int):=
 (z1t p0).bind fun r1=>jn (fun(a2:Int)=>jn (fun(a4:Int)=>bf (!decide (a4=0)) (some ((bs []),(bs []),a4)) (need ((0:Int)≤0∧(0:Int)≤r1.1∧r1.1≤(r1.2.1.size:Int))<|need ((0:Int)≤r1.1∧r1.1≤(r1.2.1.size:Int)∧(r1.2.1.size:Int)≤(r1.2.1.size:Int))<|some ((r1.2.1.extract 0 r1.1.toNat),(r1.2.1.extract r1.1.toNat r1.2.1.size),0))) fun j5=>jn (fun(a8:Bool)=>bf a8 (j5 3) (j5 a2)) fun j9=>bf (decide (a2=0)) (j9 (decide ((zzu.wrap (r1.2.1.size:Int))<r1.1))) (j9 false)) fun j3=>jn (fun(a10:Bool)=>bf a10 (j3 2) (j3 r1.2.2)) fun j11=>bf (decide (r1.2.2=0)) (j11 (decide (65536<r1.1))) (j11 false)
def z1d (l0:Taker):Option (ByteArray×Taker):=
 (z23 l0.left).bind fun r1=>(z0i r1.2.1 r1.2.2 l0).bind fun r2=>some (r1.1,r2)
def z0u (l0:Taker):Option (Value×Taker):=
 (z1c l0).bind fun r1=>bf (decide (r1.1=0)) ((z0q r1.2).bind fun r2=>some ((⟨false,r2.1,(bs [])⟩:Value),r2.2)) (bf (decide (r1.1=1)) ((z1d r1.2).bind fun r3=>jn (fun(a4:Taker)=>some ((⟨true,0,r3.1⟩:Value),a4)) fun j5=>bf r3.2.bad (j5 (⟨r3.2.left,true⟩:Taker)) ((z2m (⟨true,0,r3.1⟩:Value)).bind fun r6=>j5 (⟨r3.2.left,(!r6)⟩:Taker))) (some ((⟨false,0,(bs [])⟩:Value),(⟨r1.2.left,true⟩:Taker))))
def z0t (l0:List Value)(l3:Taker):Option ((List Value)×Taker):=
 (z0u l3).bind fun r1=>need (l0.length+([r1.1]:List Value).length≤274877906944)<|some ((l0++([r1.1]:List Value)),r1.2)
def z0c (fuel:Nat)(p1:Int)(l0:Taker)(l1:List Value):Option (Taker×(List Value)):=
 (z17 l0).bind fun r1=>jn (fun(a2:Taker)=>outK (loopN (S:=Int×Taker×(List Value)) (R:=Empty) (fun(a4:Int×Taker×(List Value))=>jn (fun(a6:Bool)=>bf a6 ((z0t a4.2.2 a4.2.1).bind fun r8=>some (.next ((zzu.wrap (a4.1-1)),r8.2,r8.1))) (some (.brk (a4.1,a4.2.1,a4.2.2)))) fun j7=>bf (decide (0<a4.1)) (j7 (!a4.2.1.bad)) (j7 false)) fuel (r1.1,a2,l1)) (fun(a5:Int×Taker×(List Value))=>some (a5.2.1,a5.2.2)) (fun(x:Empty)=>x.elim)) fun j3=>bf r1.2.bad (j3 (⟨r1.2.left,true⟩:Taker)) (j3 (⟨r1.2.left,(decide (p1<r1.1))⟩:Taker))
def z1h (fuel:Nat)(l0:Taker):Option ((List Value)×Taker):=
 (z0c fuel 8 l0 ([]:List Value)).bind fun r1=>some (r1.2,r1.1)
def z2i (fuel:Nat)(p0:ByteArray):Option ((List Value)×ByteArray×Int):=
 (z1h fuel (⟨p0,false⟩:Taker)).bind fun r1=>bf r1.2.bad (some (([]:List Value),(bs []),4)) (some (r1.1,r1.2.left,0))
def z38 (p0:Int):Option Value:=
 some (⟨false,p0,(bs [])⟩:Value)
def z2y (p0:ByteArray):Option Value:=
 some (⟨true,0,p0⟩:Value)
def z27 (fuel:Nat):Option Bool:=
 (z38 1).bind fun r1=>(z2y (bs [97])).bind fun r2=>(z2u ([r1,r2]:List Value)).bind fun r3=>need (((r3.1.size+(bs [120]).size:Nat):Int)≤9223372036854775807)<|(z2i fuel (r3.1++(bs [120]))).bind fun r5=>jn (fun(a6:Bool)=>some a6) fun j7=>bf (strEq r3.1 (bs [2,0,2,1,1,97])) (bf (decide (r3.2=0)) (bf (decide ((r5.1.length:Int)=2)) (bf (strEq r5.2.1 (bs [120])) (j7 (decide (r5.2.2=0))) (j7 false)) (j7 false)) (j7 false)) (j7 false)
def z1m (p0:List Value)(p1:List Value):Option Bool:=
 bf (!decide ((p0.length:Int)=(p1.length:Int))) (some false) (outK (z12 (S:=Unit) (R:=Bool) (fun i1 (a2:Unit)=>need ((0:Int)≤((i1:Nat):Int)∧((i1:Nat):Int)<(p1.length:Int))<|bf (!(z3a (p0.getD i1 zzd) (p1.getD i1 zzd))) (some (.ret false)) (some (.next ()))) p0.length 0 ()) (fun(a3:Unit)=>some true) (fun x=>some x))
def z1a (fuel:Nat)(p0:List Value)(p1:ByteArray)(p2:Int):Option Bool:=
 (z27 fuel).bind fun r1=>bf (!r1) (some false) ((z2u p0).bind fun r2=>bf (!decide (r2.2=0)) (jn (fun(a3:Bool)=>some a3) fun j4=>bf (strEq r2.1 (bs [])) ((value_Check p0).bind fun r5=>j4 (decide (r5=r2.2))) (j4 false)) (need (((r2.1.size+p1.size:Nat):Int)≤9223372036854775807)<|(z2i fuel (r2.1++p1)).bind fun r7=>jn (fun(a8:Bool)=>bf a8 (some false) (jn (fun(a10:Bool)=>bf a10 (some true) (need ((0:Int)≤0∧(0:Int)≤p2∧p2≤(r2.1.size:Int))<|(z2i fuel (r2.1.extract 0 p2.toNat)).bind fun r13=>some (decide (r13.2.2=4)))) fun j11=>bf (decide (p2<0)) (j11 true) (j11 (decide ((r2.1.size:Int)≤p2))))) fun j9=>bf (!decide (r7.2.2=0)) (j9 true) (bf (!strEq r7.2.1 p1) (j9 true) ((z1m r7.1 p0).bind fun r14=>j9 (!r14)))))
end Go.Av
/-
 Av,part Z:contracts of the library,as contracts here.
-/
namespace Go.Av
open Go Go.Shelf Go.RowKit Go.Proofs
theorem z6a {P:Program}{f:FuncId}{args:List AV}{res:AV}(he: ∀args w,(callFunc f args).run P w= .ok (.enter f args) w)
 (h: ∀(G:Nat→Prop) (φ:Nat→Option Loc) (w:World) (vs:List Go.Value),(∀b,G b→b<w.heap.size)→z0d (RelC G (fun b=>b<w.heap.size) φ w) args vs→
  Calls P f vs.toArray w fun e w'=> ∃v,e= .returned v∧RelAV (RelC G (fun _=>False) φ w') res v∧Below w.heap.size w w'):Summ P f args [] res []:=by
 intro G φ w vs hG hsl hargs;have hb0: ∀b,¬Blks φ [] b:=fun b ⟨k,c,l,hk,_⟩=>by cases hk
 have hV:(fun b=>b<w.heap.size∧ ¬Blks φ [] b)=(fun b=>b<w.heap.size):=by
  funext b;exact propext ⟨fun h=>h.1,fun h=>⟨h,hb0 b⟩⟩
 rw[hV]at hargs;unfold Acts;rw[he];simp only;refine(h G φ w vs hG hargs).mono fun e w' ⟨v,h1,h2,h3⟩=>⟨v,G,φ,h1,?_⟩;exact
 {up:=fun _ h=>h
  fr:=fun _ h=> .inl h
  sz:=fun b hb=>Nat.lt_of_lt_of_le (hG b hb) h3.size
  rel:=h2
  slots:=⟨(fun _ _ h=>by cases h),(fun _ _ _ _ _ _ h=>by cases h),(fun _ _ _ h=>by cases h)⟩
  blk:=fun _ _ _ h=>by cases h
  kp:=⟨h3.os,h3.tape,h3.output,h3.size,fun b hb _=>h3.block b hb⟩
  fix:=fun _ _ _ h=>by cases h}
theorem z8a {P:Program}{ρ:Ren}(L:Lays.n156 P ρ)(X:Builder.Extra P ρ){xs:List ByteArray}{sep q:ByteArray}(h:strings_Join xs sep=some q):
 Summ P (ρ.f 156) [.c (.view 1 xs.length (fun i=>z3j (xs.getD i zzd))),.c (.d (.str sep))] [] (.c (.d (.str q))) []:=by
 unfold strings_Join at h;obtain⟨⟨h1,h2⟩,h⟩:=z0g h;cases h;refine z6a (Go.Proofs.enters_of L.f156 (by kernel_rfl) rfl) fun G φ w vs hG hargs=>?_
 match vs,hargs with
 |[a,b],⟨ha,hb,_⟩=>
  have hb:RelD G w (.str sep) b:=hb.1;cases hb;rcases ha.1 with⟨h0,A,cap,rfl⟩|⟨blk,off,cap,hblk,rfl,hc,hm,he⟩
  ·obtain rfl:=List.eq_nil_of_length_eq_zero h0;exact(Go.Proofs.Any.strings_Join_none L X A cap sep w).mono fun e w' ⟨h3,h4⟩=>by
    subst h4;exact⟨_,h3,⟨RelD.str _,rfl⟩,Below.refl _ _⟩
  ·refine(Go.Proofs.Any.strings_Join L X blk off cap xs sep w (fun j x hj=>?_) ?_ h1 hc h2).mono fun e w' ⟨h3,h4⟩=>⟨_,h3,⟨RelD.str _,rfl⟩,h4⟩
   ·obtain⟨hlt,hx⟩:=List.getElem?_eq_some_iff.1 hj;obtain⟨g1,g2⟩:=he j hlt;obtain⟨u,hu,hr⟩:=g2 0 (by rw[g1];exact Nat.one_pos);rw[Nat.mul_one,Nat.add_zero]at hu;rw[hu];have:xs.getD j zzd=x:=by rw[List.getD_eq_getElem?_getD,hj];rfl
    have hr:RelD G w (.str (xs.getD j zzd)) u:=hr;rw[this]at hr;cases hr;rfl
   ·rcases hblk with h5|h5
    ·exact hG _ h5
    ·exact h5
end Go.Av
namespace Go.Proofs
open Go.Shelf
shelf_lay Lays.n156 Nm 156 at Try as Try.lays156
theorem Try.extra156:Builder.Extra Try.prog Try.lays156_ren where
 sizeBuilder:=by kernel_rfl
 liesBuilder:=by kernel_rfl
 t5:=Try.underlying5
 a5:=Try.isAgg5
 z5:=Try.sizeOf5
 v5:=Try.zeroValue5
 infoByte:=by kernel_rfl
 cellsByte:=by kernel_rfl
 sizeByte:=by kernel_rfl
 neB5:=by decide
end Go.Proofs
namespace Go.Av
theorem zcv {xs:List ByteArray}{sep q:ByteArray}(h:strings_Join xs sep=some q):
 Summ Go.Proofs.Try.prog 68 [.c (.view 1 xs.length (fun i=>z3j (xs.getD i zzd))),.c (.d (.str sep))] [] (.c (.d (.str q))) []:=
 z8a Go.Proofs.Try.lays156 Go.Proofs.Try.extra156 h
end Go.Av
namespace Go.Proofs
open Go.Shelf
def rhoB:Ren:=⟨fun n=>match Nat.beq n 167 with|true=>43|false=>Try.lays156_ren.f n,Try.lays156_ren.t,Try.lays156_ren.g⟩
theorem zch:Lays.n166 Try.prog Try.lays156_ren:={Try.lays156 with}
theorem zcj:Lays.n169 Try.prog Try.lays156_ren:={Try.lays156 with}
theorem zci:Lays.n167 Try.prog rhoB:={Try.lays156 with f167:=by kernel_rfl,f240:=by kernel_rfl,f276:=by kernel_rfl,t5:=Try.underlying5,a5:=Try.isAgg5,z5:=Try.sizeOf5,v5:=Try.zeroValue5}
theorem zd9:Builder.Extra Try.prog rhoB:={Try.extra156 with}
open Go.RowKit in
theorem z4q (B b:Nat)(bs:List Value)(c:Int)(w:World)(h:Lib.IsBuilderF 58 5 B b bs w)(hlen:bs.length+1≤140737488355328)(hBw:B≤w.heap.size):
 Calls Try.prog 43 #[.pointer (some ⟨b,0,none⟩),.int .u8 c] w fun e w'=>e= .returned .nilIface∧(Lib.BuilderAtF 58 5 B b (.pointer (some ⟨b,0,none⟩)) (bs++[.int .u8 c]) w'∧Below B w w'∧Lib.OthersKept 5 (some b) w w'):=Any.Builder_WriteByte_k zci zd9 B b bs c w h hlen hBw
open Go.RowKit in
theorem z2c (B b:Nat)(bs:List Value)(s:ByteArray)(w:World)(h:Lib.IsBuilderF 58 5 B b bs w)(hlen:bs.length+s.size≤140737488355328)(hBw:B≤w.heap.size):
 Calls Try.prog 41 #[.pointer (some ⟨b,0,none⟩),.string s] w fun e w'=>e= .returned (.tuple #[.int .i64 s.size,.nilIface])∧(Lib.BuilderAtF 58 5 B b (.pointer (some ⟨b,0,none⟩)) (bs++Lib.strCells s) w'∧Below B w w'∧Lib.OthersKept 5 (some b) w w'):=Any.Builder_WriteString_k zch Try.extra156 B b bs s w h hlen hBw
open Go.RowKit in
theorem z6c (B b:Nat)(l:List UInt8)(w:World)(h:Lib.IsBuilderF 58 5 B b (Lib.byteCells l) w)(hBw:B≤w.heap.size):
 Calls Try.prog 46 #[.pointer (some ⟨b,0,none⟩)] w fun e w'=>e= .returned (.string ⟨l.toArray⟩)∧(Lib.IsBuilderF 58 5 B b (Lib.byteCells l) w'∧Below B w w'∧Lib.OthersKept 5 (some b) w w'):=Any.Builder_String_any_k zcj Try.extra156 B b l w h hBw
end Go.Proofs
namespace Go.Av
open Go Go.Proofs
theorem z6p {p0:Int}{q:Int}(h:z28 p0=some q):
 Summ Try.prog 57 [cD (dU p0)] [] (cD (dI q)) []:=by
 refine Summ.i Try.func57 rfl [] fun w0 G0 V LL φ0=>?_;unfold z28 at h;refine Tri.sg [0,2] [] (z00 1) ?_;refine z11 (fun(a1:Int×Int)=>⟨[(0,cD (dU a1.1)),(2,cD (dI a1.2))],[]⟩) h (fun a1 h=>?_) (fun j2 h=>?_)
 ·refine z11 (fun(a3:Int×Int)=>⟨[(0,cD (dU a3.1)),(2,cD (dI a3.2))],[]⟩) h (fun a3 h=>?_) (fun j4 h=>?_)
  ·refine z11 (fun(a5:Int×Int)=>⟨[(0,cD (dU a5.1)),(2,cD (dI a5.2))],[]⟩) h (fun a5 h=>?_) (fun j6 h=>?_)
   ·obtain⟨hc7,h⟩:=z0g h;refine Tri.sg [2] [] (tN 3 (ai hc7 (z00 3))) ?_;refine Tri.ret ?_;cases h;exact RetAt.k
   ·refine Tri.sg [0,2,14] [] (z00 2) ?_;refine z0f h (fun h=>?_) (fun h=>?_)
    ·refine Tri.sg [0,2] [] (tN 1 (ai (show((0:Int)≤8)from(by decide:(0:Int)≤8)) (z00 1))) ?_;refine z04 ?_;refine At.sg 3 [0,2] [] (z00 3) ?_;refine At.done rfl ?_;exact⟨_,h,kr⟩
    ·refine Tri.kp [0,2] [] ?_;refine Tri.skip ?_;exact⟨_,h,kr⟩
  ·refine Tri.sg [0,2,8] [] (z00 2) ?_;refine z0f h (fun h=>?_) (fun h=>?_)
   ·refine Tri.sg [0,2] [] (tN 1 (ai (show((0:Int)≤16)from(by decide:(0:Int)≤16)) (z00 1))) ?_;refine z04 ?_;refine At.sg 3 [0,2] [] (z00 3) ?_;refine At.done rfl ?_;exact⟨_,h,kr⟩
   ·refine Tri.kp [0,2] [] ?_;refine Tri.skip ?_;exact⟨_,h,kr⟩
 ·refine Tri.sg [0,2,4] [] (z00 2) ?_;refine z0f h (fun h=>?_) (fun h=>?_)
  ·refine Tri.sg [0] [] (tN 1 (ai (show((0:Int)≤32)from(by decide:(0:Int)≤32)) (z00 1))) ?_;refine z04 ?_;refine At.sg 1 [0,2] [] (z00 1) ?_;refine At.done rfl ?_;exact⟨_,h,kr⟩
  ·refine Tri.kp [0,2] [] ?_;refine Tri.skip ?_;exact⟨_,h,kr⟩
theorem pack_Count_ok {p0:Int}{q:ByteArray}(h:pack_Count p0=some q):
 Summ Try.prog 42 [cD (dU p0)] [] (cD (.str q)) []:=by
 refine Summ.i Try.func42 rfl [] fun w0 G0 V LL φ0=>?_;unfold pack_Count at h;refine Tri.sg [0] [] (z00 1) ?_;refine z02 ?_;refine z04 ?_;refine At.sg 1 [0,6] [] (z00 1) ?_;obtain⟨r1,hr1,h⟩:=bind_elim h;refine At.cA [] [cD (dU p0)] (z6p hr1) (.cons (.refl _) .nil) ?_;refine At.sg 4 [0,3] [] (tN 1 (ai (show((7:Int)≠0)from(by decide:(7:Int)≠0)) (z00 2))) ?_;refine At.done rfl ?_;refine z02 ?_;refine z04 ?_;refine At.seg 1 [0,3,11] [] (s':=⟨[(0,cD (dU p0)),(3,cD (dI (if 1<(zzi.wrap ((zzi.wrap (r1+6)).tdiv 7))then(zzi.wrap ((zzi.wrap (r1+6)).tdiv 7))else 1))),(11,cD (dI (if 1<(zzi.wrap ((zzi.wrap (r1+6)).tdiv 7))then(zzi.wrap ((zzi.wrap (r1+6)).tdiv 7))else 1)))],[]⟩) (by kernel_rfl) (z00 1) ?_;obtain⟨hc2,h⟩:=z0g h;refine At.one rfl (zbh (e:=5) (es:=1) (bs:=1) (n:=(if 1<(zzi.wrap ((zzi.wrap (r1+6)).tdiv 7))then(zzi.wrap ((zzi.wrap (r1+6)).tdiv 7))else 1)) (c:=(if 1<(zzi.wrap ((zzi.wrap (r1+6)).tdiv 7))then(zzi.wrap ((zzi.wrap (r1+6)).tdiv 7))else 1)) (z:=[.d (.int .u8 0)]) (z21 .u8) (0:Int) rfl rfl rfl rfl (by kernel_rfl) rfl rfl rfl (by kernel_rfl) rfl (by kernel_rfl) rfl (.refl _) rfl rfl rfl hc2.1 hc2.2.1 hc2.2.2 rfl) ?_;refine At.sg 1 [0,3,4] [12] (z00 1) ?_;refine At.done rfl ?_;refine z02 ?_;refine z7c [0,3,4,14,15] [12] ⟨[(0,cD (dU p0)),(3,cD (dI (if 1<(zzi.wrap ((zzi.wrap (r1+6)).tdiv 7))then(zzi.wrap ((zzi.wrap (r1+6)).tdiv 7))else 1))),(4,.c (oC 12 1 (List.replicate ((if 1<(zzi.wrap ((zzi.wrap (r1+6)).tdiv 7))then(zzi.wrap ((zzi.wrap (r1+6)).tdiv 7))else 1).toNat) (0:Int)))),(14,cD (dI ((List.replicate ((if 1<(zzi.wrap ((zzi.wrap (r1+6)).tdiv 7))then(zzi.wrap ((zzi.wrap (r1+6)).tdiv 7))else 1).toNat) (0:Int)).length:Int))),(15,cD (dI 0))],[(12,vL 1 (z21 .u8) (List.replicate ((if 1<(zzi.wrap ((zzi.wrap (r1+6)).tdiv 7))then(zzi.wrap ((zzi.wrap (r1+6)).tdiv 7))else 1).toNat) (0:Int)))]⟩ _ (by kernel_rfl) (z00 3) ?_;refine zaw (t:=4) rfl rfl (Nat.le_refl _) fun hlena4=>?_;refine z7l 15 (List.replicate ((if 1<(zzi.wrap ((zzi.wrap (r1+6)).tdiv 7))then(zzi.wrap ((zzi.wrap (r1+6)).tdiv 7))else 1).toNat) (0:Int)) (fun(x:Empty) s=>False) (fun(a4:List Int)=>⟨[(0,cD (dU p0)),(3,cD (dI (if 1<(zzi.wrap ((zzi.wrap (r1+6)).tdiv 7))then(zzi.wrap ((zzi.wrap (r1+6)).tdiv 7))else 1))),(4,.c (oC 12 1 a4)),(14,cD (dI ((List.replicate ((if 1<(zzi.wrap ((zzi.wrap (r1+6)).tdiv 7))then(zzi.wrap ((zzi.wrap (r1+6)).tdiv 7))else 1).toNat) (0:Int)).length:Int)))],[(12,vL 1 (z21 .u8) a4)]⟩) [15,0,3,4,14] [12] [16,15,0,3,4,14] [12] [0,3,4,14] [12] [15,0,3,4,14] [12] h hlena4 ?_ ?_ ?_
 ·intro i3 a4 c hii3 h;refine Tri.sg [0,3,4,5,14,15] [12] (z00 2) ?_;refine z04 ?_;obtain⟨hc10,h⟩:=z0g h;obtain⟨hc11,h⟩:=z0g h;refine At.seg 9 [0,3,4,14,15,25,26] [12] (s':=⟨[(0,cD (dU p0)),(3,cD (dI (if 1<(zzi.wrap ((zzi.wrap (r1+6)).tdiv 7))then(zzi.wrap ((zzi.wrap (r1+6)).tdiv 7))else 1))),(4,.c (oC 12 1 a4)),(14,cD (dI ((List.replicate ((if 1<(zzi.wrap ((zzi.wrap (r1+6)).tdiv 7))then(zzi.wrap ((zzi.wrap (r1+6)).tdiv 7))else 1).toNat) (0:Int)).length:Int))),(15,cD (dI ((i3:Nat):Int))),(25,cD (.int .u8 (z05 .or .u8 (IntKind.u8.wrap (shrOp .u64 p0 (zzi.wrap ((7:Int)*((i3:Nat):Int))))) 128))),(26,.c (.vptr 12 1 (0+i3) 0))],[(12,vL 1 (z21 .u8) a4)]⟩) (by kernel_rfl) (tN 5 (ai hc10 (tN 2 (ai hc11 trivial)))) ?_;obtain⟨hc12,h⟩:=z0g h;refine At.one rfl (z7k (xs:=[.d (.int .u8 (z05 .or .u8 (IntKind.u8.wrap (shrOp .u64 p0 (zzi.wrap ((7:Int)*((i3:Nat):Int))))) 128))]) (ds:=[.int .u8 (z05 .or .u8 (IntKind.u8.wrap (shrOp .u64 p0 (zzi.wrap ((7:Int)*((i3:Nat):Int))))) 128)]) (z21 .u8) a4 (z05 .or .u8 (IntKind.u8.wrap (shrOp .u64 p0 (zzi.wrap ((7:Int)*((i3:Nat):Int))))) 128) rfl rfl rfl rfl rfl hc12 rfl rfl (.refl _) rfl rfl rfl rfl) ?_;refine At.keep [0,3,4,14,15] [12] (s':=⟨[(0,cD (dU p0)),(3,cD (dI (if 1<(zzi.wrap ((zzi.wrap (r1+6)).tdiv 7))then(zzi.wrap ((zzi.wrap (r1+6)).tdiv 7))else 1))),(4,.c (oC 12 1 a4)),(14,cD (dI ((List.replicate ((if 1<(zzi.wrap ((zzi.wrap (r1+6)).tdiv 7))then(zzi.wrap ((zzi.wrap (r1+6)).tdiv 7))else 1).toNat) (0:Int)).length:Int))),(15,cD (dI ((i3:Nat):Int)))],[(12,vL 1 (z21 .u8) (a4.set (0+i3) (z05 .or .u8 (IntKind.u8.wrap (shrOp .u64 p0 (zzi.wrap ((7:Int)*((i3:Nat):Int))))) 128)))]⟩) (by kernel_rfl) ?_;refine At.eqS (s':=⟨[(0,cD (dU p0)),(3,cD (dI (if 1<(zzi.wrap ((zzi.wrap (r1+6)).tdiv 7))then(zzi.wrap ((zzi.wrap (r1+6)).tdiv 7))else 1))),(4,.c (oC 12 1 (a4.set (0+i3) (z05 .or .u8 (IntKind.u8.wrap (shrOp .u64 p0 (zzi.wrap ((7:Int)*((i3:Nat):Int))))) 128)))),(14,cD (dI ((List.replicate ((if 1<(zzi.wrap ((zzi.wrap (r1+6)).tdiv 7))then(zzi.wrap ((zzi.wrap (r1+6)).tdiv 7))else 1).toNat) (0:Int)).length:Int))),(15,cD (dI ((i3:Nat):Int)))],[(12,vL 1 (z21 .u8) (a4.set (0+i3) (z05 .or .u8 (IntKind.u8.wrap (shrOp .u64 p0 (zzi.wrap ((7:Int)*((i3:Nat):Int))))) 128)))]⟩) (by simp only[oC,vL,List.length_set]) ?_;refine At.keep [15,0,3,4,14] [12] (s':=⟨[(15,cD (dI ((i3:Nat):Int))),(0,cD (dU p0)),(3,cD (dI (if 1<(zzi.wrap ((zzi.wrap (r1+6)).tdiv 7))then(zzi.wrap ((zzi.wrap (r1+6)).tdiv 7))else 1))),(4,.c (oC 12 1 (a4.set (0+i3) (z05 .or .u8 (IntKind.u8.wrap (shrOp .u64 p0 (zzi.wrap ((7:Int)*((i3:Nat):Int))))) 128)))),(14,cD (dI ((List.replicate ((if 1<(zzi.wrap ((zzi.wrap (r1+6)).tdiv 7))then(zzi.wrap ((zzi.wrap (r1+6)).tdiv 7))else 1).toNat) (0:Int)).length:Int)))],[(12,vL 1 (z21 .u8) (a4.set (0+i3) (z05 .or .u8 (IntKind.u8.wrap (shrOp .u64 p0 (zzi.wrap ((7:Int)*((i3:Nat):Int))))) 128)))]⟩) (by kernel_rfl) ?_;refine At.done rfl ?_;cases h;exact kr
 ·intro a5 h;refine z02 ?_;refine z04 ?_;obtain⟨hc6,h⟩:=z0g h;obtain⟨hc7,h⟩:=z0g h;obtain⟨hc8,h⟩:=z0g h;refine At.seg 7 [4,33,34] [12] (s':=⟨[(4,.c (oC 12 1 a5)),(33,cD (.int .u8 (z05 .and .u8 (a5.getD (0+(zzi.wrap ((if 1<(zzi.wrap ((zzi.wrap (r1+6)).tdiv 7))then(zzi.wrap ((zzi.wrap (r1+6)).tdiv 7))else 1)-1)).toNat) zzd) 127))),(34,.c (.vptr 12 1 (0+(zzi.wrap ((if 1<(zzi.wrap ((zzi.wrap (r1+6)).tdiv 7))then(zzi.wrap ((zzi.wrap (r1+6)).tdiv 7))else 1)-1)).toNat) 0))],[(12,vL 1 (z21 .u8) a5)]⟩) (by kernel_rfl) (tN 3 (ai hc6 (ai hc7 (tN 1 (ai hc8 trivial))))) ?_;obtain⟨hc9,h⟩:=z0g h;refine At.one rfl (z7k (xs:=[.d (.int .u8 (z05 .and .u8 (a5.getD (0+(zzi.wrap ((if 1<(zzi.wrap ((zzi.wrap (r1+6)).tdiv 7))then(zzi.wrap ((zzi.wrap (r1+6)).tdiv 7))else 1)-1)).toNat) zzd) 127))]) (ds:=[.int .u8 (z05 .and .u8 (a5.getD (0+(zzi.wrap ((if 1<(zzi.wrap ((zzi.wrap (r1+6)).tdiv 7))then(zzi.wrap ((zzi.wrap (r1+6)).tdiv 7))else 1)-1)).toNat) zzd) 127)]) (z21 .u8) a5 (z05 .and .u8 (a5.getD (0+(zzi.wrap ((if 1<(zzi.wrap ((zzi.wrap (r1+6)).tdiv 7))then(zzi.wrap ((zzi.wrap (r1+6)).tdiv 7))else 1)-1)).toNat) zzd) 127) rfl rfl rfl rfl rfl hc9 rfl rfl (.refl _) rfl rfl rfl rfl) ?_;refine At.keep [4] [12] (s':=⟨[(4,.c (oC 12 1 a5))],[(12,vL 1 (z21 .u8) (a5.set (0+(zzi.wrap ((if 1<(zzi.wrap ((zzi.wrap (r1+6)).tdiv 7))then(zzi.wrap ((zzi.wrap (r1+6)).tdiv 7))else 1)-1)).toNat) (z05 .and .u8 (a5.getD (0+(zzi.wrap ((if 1<(zzi.wrap ((zzi.wrap (r1+6)).tdiv 7))then(zzi.wrap ((zzi.wrap (r1+6)).tdiv 7))else 1)-1)).toNat) zzd) 127)))]⟩) (by kernel_rfl) ?_;refine At.eqS (s':=⟨[(4,.c (oC 12 1 (a5.set (0+(zzi.wrap ((if 1<(zzi.wrap ((zzi.wrap (r1+6)).tdiv 7))then(zzi.wrap ((zzi.wrap (r1+6)).tdiv 7))else 1)-1)).toNat) (z05 .and .u8 (a5.getD (0+(zzi.wrap ((if 1<(zzi.wrap ((zzi.wrap (r1+6)).tdiv 7))then(zzi.wrap ((zzi.wrap (r1+6)).tdiv 7))else 1)-1)).toNat) zzd) 127))))],[(12,vL 1 (z21 .u8) (a5.set (0+(zzi.wrap ((if 1<(zzi.wrap ((zzi.wrap (r1+6)).tdiv 7))then(zzi.wrap ((zzi.wrap (r1+6)).tdiv 7))else 1)-1)).toNat) (z05 .and .u8 (a5.getD (0+(zzi.wrap ((if 1<(zzi.wrap ((zzi.wrap (r1+6)).tdiv 7))then(zzi.wrap ((zzi.wrap (r1+6)).tdiv 7))else 1)-1)).toNat) zzd) 127)))]⟩) (by simp only[oC,vL,List.length_set]) ?_;refine At.done rfl ?_;refine z02 ?_;refine z04 ?_;refine At.seg 1 [35] [12] (s':=⟨[(35,.c (oC 12 1 (a5.set (0+(zzi.wrap ((if 1<(zzi.wrap ((zzi.wrap (r1+6)).tdiv 7))then(zzi.wrap ((zzi.wrap (r1+6)).tdiv 7))else 1)-1)).toNat) (z05 .and .u8 (a5.getD (0+(zzi.wrap ((if 1<(zzi.wrap ((zzi.wrap (r1+6)).tdiv 7))then(zzi.wrap ((zzi.wrap (r1+6)).tdiv 7))else 1)-1)).toNat) zzd) 127))))],[(12,vL 1 (z21 .u8) (a5.set (0+(zzi.wrap ((if 1<(zzi.wrap ((zzi.wrap (r1+6)).tdiv 7))then(zzi.wrap ((zzi.wrap (r1+6)).tdiv 7))else 1)-1)).toNat) (z05 .and .u8 (a5.getD (0+(zzi.wrap ((if 1<(zzi.wrap ((zzi.wrap (r1+6)).tdiv 7))then(zzi.wrap ((zzi.wrap (r1+6)).tdiv 7))else 1)-1)).toNat) zzd) 127)))]⟩) (by kernel_rfl) (z00 1) ?_;refine At.one rfl (z98 (e:=5) (a5.set (0+(zzi.wrap ((if 1<(zzi.wrap ((zzi.wrap (r1+6)).tdiv 7))then(zzi.wrap ((zzi.wrap (r1+6)).tdiv 7))else 1)-1)).toNat) (z05 .and .u8 (a5.getD (0+(zzi.wrap ((if 1<(zzi.wrap ((zzi.wrap (r1+6)).tdiv 7))then(zzi.wrap ((zzi.wrap (r1+6)).tdiv 7))else 1)-1)).toNat) zzd) 127)) rfl rfl rfl rfl rfl rfl rfl (.own rfl (by simp) rfl (z86 (z21 .u8) (a5.set (0+(zzi.wrap ((if 1<(zzi.wrap ((zzi.wrap (r1+6)).tdiv 7))then(zzi.wrap ((zzi.wrap (r1+6)).tdiv 7))else 1)-1)).toNat) (z05 .and .u8 (a5.getD (0+(zzi.wrap ((if 1<(zzi.wrap ((zzi.wrap (r1+6)).tdiv 7))then(zzi.wrap ((zzi.wrap (r1+6)).tdiv 7))else 1)-1)).toNat) zzd) 127)) _))) ?_;refine At.sg 1 [2] [] (z00 1) ?_;refine At.done rfl ?_;refine Tri.ret ?_;cases h;exact RetAt.k
 ·exact fun x=>x.elim
end Go.Av
namespace Go.Av
open Go Go.Proofs
theorem z5g {p0:Value}{q:Bool}(h:z2m p0=some q):
 Summ Try.prog 38 [.agg (cValue p0)] [] (cD (.bool q)) []:=by
 refine Summ.i Try.func38 rfl [] fun w0 G0 V LL φ0=>?_;unfold z2m at h;refine Tri.sg [1] [1] (z00 2) ?_;refine z02 ?_;refine Tri.sg [1,4] [1] (z00 2) ?_;refine z0f h (fun h=>?_) (fun h=>?_)
 ·refine z11 (fun(a1:Bool)=>⟨[(2,cD (.bool a1))],[]⟩) h (fun a1 h=>?_) (fun j2 h=>?_)
  ·refine Tri.ret ?_;cases h;exact RetAt.k
  ·refine z04 ?_;refine At.sg 4 [1,8] [1] (z00 4) ?_;refine At.cs [8] h (fun h=>?_) (fun h=>?_)
   ·refine At.sg 6 [2] [] (z00 6) ?_;refine At.done rfl ?_;exact⟨_,h,kr⟩
   ·refine At.sg 6 [2] [] (z00 2) ?_;refine At.done rfl ?_;exact⟨_,h,kr⟩
 ·refine Tri.skip ?_;refine Tri.sg [2] [] (z00 4) ?_;refine Tri.ret ?_;cases h;exact RetAt.k
theorem z7i {p0:Value}{q:Bool}(h:z36 p0=some q):
 Summ Try.prog 37 [.agg (cValue p0)] [] (cD (.bool q)) []:=by
 refine Summ.i Try.func37 rfl [] fun w0 G0 V LL φ0=>?_;unfold z36 at h;refine Tri.sg [1] [1] (z00 2) ?_;refine z02 ?_;refine z04 ?_;refine At.sg 1 [3] [] (z00 1) ?_;obtain⟨r1,hr1,h⟩:=bind_elim h;refine At.cA [] [.agg (cValue p0)] (z5g hr1) (.cons (.refl _) .nil) ?_;refine At.sg 2 [2] [] (z00 2) ?_;refine At.done rfl ?_;refine Tri.ret ?_;cases h;exact RetAt.k
theorem z10 {p0:List Value}{q:Int}(h:z06 p0=some q):
 Summ Try.prog 54 [cD (lD 3 encValue p0),cD (.fn 37 [])] [] (cD (dI q)) []:=by
 refine Summ.i Try.func54 rfl [] fun w0 G0 V LL φ0=>?_;unfold z06 at h;refine Tri.sg [0,1] [] (z00 1) ?_;refine z02 ?_;refine Tri.sg [0,1,7,8] [] (z00 3) ?_;refine Tri.ln 0 p0.length fun hlena2=>?_;refine z7l 8 () (fun(x:Int) s=>RetAt Try.prog Try.f54 (cD (dI x)) [] s) (fun(a2:Unit)=>⟨[(0,cD (lD 3 encValue p0)),(1,cD (.fn 37 [])),(7,cD (dI (p0.length:Int)))],[]⟩) [8,0,1,7] [] [9,8,0,1,7] [] [0,1,7] [] [8,0,1,7] [] h hlena2 ?_ ?_ ?_
 ·intro i1 a2 c hii1 h;refine Tri.sg [0,1,5,7,8] [] (z00 2) ?_;refine z02 ?_;refine z04 ?_;refine At.sg 5 [0,1,5,7,8,11,15] [] (tN 3 (ai (show((0:Int)≤((i1:Nat):Int)∧((i1:Nat):Int)<(p0.length:Int))from⟨by omega,by omega⟩) (z00 1))) ?_;obtain⟨r4,hr4,h⟩:=bind_elim h;refine At.cA [] [.agg (cValue (p0.getD i1 zzd))] (z7i hr4) (.cons (.refl _) .nil) ?_;refine At.done rfl ?_;refine z0f h (fun h=>?_) (fun h=>?_)
  ·refine Tri.sg [4] [] (z00 2) ?_;refine Tri.ret ?_;cases h;exact RetAt.k
  ·refine Tri.kp [8,0,1,7] [] ?_;refine Tri.skip ?_;cases h;exact kr
 ·intro a3 h;refine Tri.sg [4] [] (z00 1) ?_;refine Tri.ret ?_;cases h;exact RetAt.k
 ·exact fun x s hx hr=>by cases hx;exact hr
theorem z0v {p0:List Value}{q:Bool}(h:z03 p0=some q):
 Summ Try.prog 36 [cD (lD 3 encValue p0),cD (.fn 37 [])] [] (cD (.bool q)) []:=by
 refine Summ.i Try.func36 rfl [] fun w0 G0 V LL φ0=>?_;unfold z03 at h;refine Tri.sg [0,1] [] (z00 1) ?_;refine z02 ?_;refine z04 ?_;refine At.sg 2 [5,6] [] (z00 2) ?_;obtain⟨r1,hr1,h⟩:=bind_elim h;refine At.cA [] [cD (lD 3 encValue p0),cD (.fn 37 [])] (z10 hr1) (.cons (.refl _) (.cons (.refl _) .nil)) ?_;refine At.sg 2 [4] [] (z00 2) ?_;refine At.done rfl ?_;refine Tri.ret ?_;cases h;exact RetAt.k
theorem value_Check_ok {p0:List Value}{q:Int}(h:value_Check p0=some q):
 Summ Try.prog 16 [cD (lD 3 encValue p0)] [] (cD (dI q)) []:=by
 refine Summ.i Try.func16 rfl [] fun w0 G0 V LL φ0=>?_;unfold value_Check at h;refine Tri.sg [0] [] (z00 1) ?_;refine z02 ?_;refine z11 (fun(a1:Bool)=>⟨[(9,cD (.bool a1))],[]⟩) h (fun a1 h=>?_) (fun j2 h=>?_)
 ·refine z0f h (fun h=>?_) (fun h=>?_)
  ·refine Tri.sg [2] [] (z00 1) ?_;refine Tri.ret ?_;cases h;exact RetAt.k
  ·refine Tri.skip ?_;refine Tri.sg [2] [] (z00 1) ?_;refine Tri.ret ?_;cases h;exact RetAt.k
 ·refine z04 ?_;refine At.sg 4 [0,6] [] (z00 4) ?_;refine At.cs [6] h (fun h=>?_) (fun h=>?_)
  ·refine At.sg 3 [9] [] (z00 1) ?_;refine At.done rfl ?_;exact⟨_,h,kr⟩
  ·refine At.sg 1 [6,7] [] (z00 1) ?_;obtain⟨r3,hr3,h⟩:=bind_elim h;refine At.cA [] [cD (lD 3 encValue p0),cD (.fn 37 [])] (z0v hr3) (.cons (.refl _) (.cons (.refl _) .nil)) ?_;refine At.sg 1 [9] [] (z00 1) ?_;refine At.done rfl ?_;exact⟨_,h,kr⟩
end Go.Av
namespace Go.Av
open Go Go.Proofs
theorem value_mark_ok {p0:Value}{q:Int}(h:value_mark p0=some q):
 Summ Try.prog 33 [.agg (cValue p0)] [] (cD (dI q)) []:=by
 refine Summ.i Try.func33 rfl [] fun w0 G0 V LL φ0=>?_;unfold value_mark at h;refine Tri.sg [1] [1] (z00 2) ?_;refine z02 ?_;refine Tri.sg [4] [] (z00 2) ?_;refine z0f h (fun h=>?_) (fun h=>?_)
 ·refine Tri.sg [2] [] (z00 1) ?_;refine Tri.ret ?_;cases h;exact RetAt.k
 ·refine Tri.skip ?_;refine Tri.sg [2] [] (z00 1) ?_;refine Tri.ret ?_;cases h;exact RetAt.k
end Go.Av
namespace Go.Av
open Go Go.Proofs
theorem z9w {p0:List ByteArray}{q:ByteArray}(h:z42 p0=some q):
 Summ Try.prog 58 [cD (lD 1 z3j p0)] [] (cD (.str q)) []:=by
 refine Summ.i Try.func58 rfl [] fun w0 G0 V LL φ0=>?_;unfold z42 at h;refine Tri.sg [0] [] (z00 1) ?_;refine z02 ?_;refine z04 ?_;refine At.seg 1 [3] [] (s':=⟨[(3,cD (lD 1 z3j p0))],[]⟩) (by kernel_rfl) (z00 1) ?_;obtain⟨r1,hr1,h⟩:=bind_elim h;refine At.cA [] [cD (lD 1 z3j p0),cD (.str (bs []))] (zcv hr1) (.cons (.c (.le (.listV rfl (fun _ _=>rfl)))) (.cons (.refl _) .nil)) ?_;refine At.sg 1 [2] [] (z00 1) ?_;refine At.done rfl ?_;refine Tri.ret ?_;cases h;exact RetAt.k
theorem pack_Text_ok {p0:ByteArray}{q:ByteArray}(h:pack_Text p0=some q):
 Summ Try.prog 44 [cD (.str p0)] [] (cD (.str q)) []:=by
 refine Summ.i Try.func44 rfl [] fun w0 G0 V LL φ0=>?_;unfold pack_Text at h;refine Tri.sg [0] [] (z00 1) ?_;refine z02 ?_;refine z04 ?_;refine At.sg 3 [0,5] [] (z00 3) ?_;obtain⟨r1,hr1,h⟩:=bind_elim h;refine At.cA [] [cD (dU (zzu.wrap (p0.size:Int)))] (pack_Count_ok hr1) (.cons (.refl _) .nil) ?_;refine At.seg 1 [6,7] [] (s':=⟨[(6,cD (.str r1)),(7,cD (.str p0))],[]⟩) (by kernel_rfl) (z00 1) ?_;refine At.one rfl (One.buildSlice (z:=[.d (.str (bs []))]) (cells:=[.d (.str r1),.d (.str p0)]) (xs:=List.map (z3j) ([r1,p0]:List ByteArray)) rfl rfl rfl rfl (by kernel_rfl) rfl rfl (by kernel_rfl) rfl rfl rfl (by kernel_rfl) rfl ⟨⟨rfl,.refl _⟩,⟨rfl,.refl _⟩,trivial⟩) ?_;refine At.l [8] ⟨[(8,cD (lD 1 z3j ([r1,p0]:List ByteArray))),(6,cD (.str r1)),(7,cD (.str p0))],[]⟩ ⟨⟨_,rfl,.c (.own rfl (List.mem_singleton.2 rfl) (zz8 rfl) rfl (z6j (z3j) ([r1,p0]:List ByteArray)))⟩,⟨_,rfl,.refl _⟩,⟨_,rfl,.refl _⟩,trivial⟩ trivial ?_;obtain⟨r2,hr2,h⟩:=bind_elim h;refine At.cA [] [cD (lD 1 z3j ([r1,p0]:List ByteArray))] (z9w hr2) (.cons (.refl _) .nil) ?_;refine At.sg 1 [2] [] (z00 1) ?_;refine At.done rfl ?_;refine Tri.ret ?_;cases h;exact RetAt.k
end Go.Av
namespace Go.Av
open Go Go.Proofs
theorem pack_Number_ok {p0:Int}{q:ByteArray}(h:pack_Number p0=some q):
 Summ Try.prog 45 [cD (dI p0)] [] (cD (.str q)) []:=by
 refine Summ.i Try.func45 rfl [] fun w0 G0 V LL φ0=>?_;unfold pack_Number at h;refine Tri.sg [0] [] (z00 1) ?_;refine z02 ?_;refine z04 ?_;refine At.sg 7 [9] [] (tN 2 (ai (show((0:Int)≤1)from(by decide:(0:Int)≤1)) (tN 1 (ai (show((0:Int)≤63)from(by decide:(0:Int)≤63)) (z00 2))))) ?_;obtain⟨r1,hr1,h⟩:=bind_elim h;refine At.cA [] [cD (dU (z05 .xor .u64 (shlOp .u64 (zzu.wrap p0) 1) (zzu.wrap (shrOp .i64 p0 63))))] (pack_Count_ok hr1) (.cons (.refl _) .nil) ?_;refine At.sg 1 [2] [] (z00 1) ?_;refine At.done rfl ?_;refine Tri.ret ?_;cases h;exact RetAt.k
end Go.Av
namespace Go.Av
open Go Go.RowKit
theorem Summ.callStr {P : Program} {f : FuncId} {fn : Func} {c : Code} {args : List AV} {q : ByteArray} {W : World} (hf : P.funcs[f]? = some fn) (hb : fn.body = some c) (hn : (fn.name == "runtime.NumGoroutine") = false) (hS : Summ P f args [] (.c (.d (.str q))) []) {vs : Array Go.Value}
    (hr : z0d (RelC (allG W) (fun _ => False) (fun _ => none) W) args vs.toList) : Calls P f vs W fun e W' => e = .returned (.string q) ∧ Below W.heap.size W W' :=
  (Summ.calls hf hb hn hS hr).mono fun e W' ⟨v, h1, h2, G, φ, h3⟩ => by
    have h3 : RelD G W' (.str q) v := h3.1
    cases h3
    exact ⟨h1, h2⟩
theorem Summ.callInt {P : Program} {f : FuncId} {fn : Func} {c : Code} {args : List AV} {k : IntKind} {q : Int} {W : World} (hf : P.funcs[f]? = some fn) (hb : fn.body = some c) (hn : (fn.name == "runtime.NumGoroutine") = false) (hS : Summ P f args [] (.c (.d (.int k q))) []) {vs : Array Go.Value}
    (hr : z0d (RelC (allG W) (fun _ => False) (fun _ => none) W) args vs.toList) : Calls P f vs W fun e W' => e = .returned (.int k q) ∧ Below W.heap.size W W' :=
  (Summ.calls hf hb hn hS hr).mono fun e W' ⟨v, h1, h2, G, φ, h3⟩ => by
    have h3 : RelD G W' (.int k q) v := h3.1
    cases h3
    exact ⟨h1, h2⟩
end Go.Av
namespace Go.Proofs
open Go.RowKit
theorem z3q {p0:List Av.Value}{r:Int}(h:Av.value_Check p0=some r){v:Value}{w:World}(hv:Av.RelD (Av.allG w) w (Av.lD 3 Av.encValue p0) v):Calls Try.prog 16 #[v] w fun e w'=>e= .returned (.int .i64 r)∧Below w.heap.size w w':=
 Av.Summ.callInt Try.func16 rfl (by kernel_rfl) (Av.value_Check_ok h) (show _∧_ from⟨⟨hv,by unfold Av.lD at hv;generalize p0.length=n at hv;cases hv<;>rfl⟩,trivial⟩)
theorem z54 {n:Int}{q:ByteArray}(h:Av.pack_Count n=some q)(w:World):Calls Try.prog 42 #[.int .u64 n] w fun e w'=>e= .returned (.string q)∧Below w.heap.size w w':=
 Av.Summ.callStr Try.func42 rfl (by kernel_rfl) (Av.pack_Count_ok h) (show _∧_ from⟨⟨Av.RelD.int .u64 n,rfl⟩,trivial⟩)
theorem z9a {s:ByteArray}{q:ByteArray}(h:Av.pack_Text s=some q)(w:World):Calls Try.prog 44 #[.string s] w fun e w'=>e= .returned (.string q)∧Below w.heap.size w w':=
 Av.Summ.callStr Try.func44 rfl (by kernel_rfl) (Av.pack_Text_ok h) (show _∧_ from⟨⟨Av.RelD.str s,rfl⟩,trivial⟩)
theorem z7o {n:Int}{q:ByteArray}(h:Av.pack_Number n=some q)(w:World):Calls Try.prog 45 #[.int .i64 n] w fun e w'=>e= .returned (.string q)∧Below w.heap.size w w':=
 Av.Summ.callStr Try.func45 rfl (by kernel_rfl) (Av.pack_Number_ok h) (show _∧_ from⟨⟨Av.RelD.int .i64 n,rfl⟩,trivial⟩)
theorem z5y {x:Av.Value}{m:Int}(h:Av.value_mark x=some m){t:Bool}(ht:x.isText=t)(w:World):Calls Try.prog 33 #[.agg #[.bool t,.int .i64 x.n,.string x.s]] w fun e w'=>e= .returned (.int .i64 m)∧Below w.heap.size w w':=by
 subst ht;exact Av.Summ.callInt Try.func33 rfl (by kernel_rfl) (Av.value_mark_ok h) (show _∧_ from⟨⟨_,rfl,⟨Av.RelD.bool _,Av.RelD.int _ _,Av.RelD.str _,trivial⟩,fun u hu=>by simp at hu;rcases hu with rfl|rfl|rfl<;>rfl⟩,trivial⟩)
theorem zc2 {p0:List Av.Value}{w:World}{v:Value}(hv:Av.RelD (Av.allG w) w (Av.lD 3 Av.encValue p0) v):
 (p0.length=0∧ ∃a cap,v= .slice a 0 cap)∨ ∃b off cap,v= .slice (some ⟨b,off,none⟩) p0.length cap∧b<w.heap.size∧p0.length≤cap∧p0.length≤Av.maxN∧ ∀i,i<p0.length→w.cell? ⟨b,off+i*3,none⟩=some (.bool (p0.getD i zzd).isText)∧w.cell? ⟨b,off+i*3+1,none⟩=some (.int .i64 (p0.getD i zzd).n)∧w.cell? ⟨b,off+i*3+2,none⟩=some (.string (p0.getD i zzd).s):=by
 unfold Av.lD at hv;generalize hn:p0.length=n at hv;cases hv with
 |empty es get a cap=>exact .inl ⟨rfl,a,cap,rfl⟩
 |list es n get b off cap vals hG hc1 hm hc hl hr=>
  refine .inr ⟨b,off,cap,rfl,hG,hc1,hm,fun i hi=>?_⟩;have h0:=hr i 0 hi (by omega)
  have h1:=hr i 1 hi (by omega);have h2:=hr i 2 hi (by omega)
  have c0:=hc i 0 hi (by omega);have c1:=hc i 1 hi (by omega)
  have c2:=hc i 2 hi (by omega);have h0:Av.RelD (Av.allG w) w (.bool (p0.getD i zzd).isText) (vals i 0):=h0
  have h1:Av.RelD (Av.allG w) w (.int .i64 (p0.getD i zzd).n) (vals i 1):=h1;have h2:Av.RelD (Av.allG w) w (.str (p0.getD i zzd).s) (vals i 2):=h2
  generalize vals i 0=v0 at h0 c0;generalize vals i 1=v1 at h1 c1;generalize vals i 2=v2 at h2 c2;cases h0;cases h1;cases h2;exact⟨by rw[←c0];rfl,c1,c2⟩
end Go.Proofs
namespace Go.Proofs
open Go.RowKit
set_option maxHeartbeats 4000000 in
set_option maxRecDepth 1000000 in
theorem z8h {p0:List Av.Value}{r:Int}(h:Av.value_Check p0=some r)(hr:r≠0){v:Value}{w:World}(hv:Av.RelD (Av.allG w) w (Av.lD 3 Av.encValue p0) v):
 Calls Try.prog 24 #[v] w fun e w'=>e= .returned (.tuple #[.string ⟨#[]⟩,.int .i64 r])∧Below w.heap.size w w':=by
 have hb:(r !=0)=true:=by simpa using hr
 go_enter Try.func24,Try.ntmps24
 go_wp2_with (go_at_call 16;refine(z3q h hv).mono ?_)
 rintro e w1 ⟨rfl,b1⟩
 go_wp2
 go_ret2
 exact⟨rfl,b1⟩
theorem z3b {T e:TypeId}{B b:Nat}{bs:List Value}{w w':World}(h:Lib.IsBuilderF T e B b bs w)(hb:Below w.heap.size w w'):Lib.IsBuilderF T e B b bs w':=by
 have key: ∀p,Lib.BuilderAtF T e B b p bs w→Lib.BuilderAtF T e B b p bs w':=fun p ⟨hB,v,h1,h2,h3⟩=>by
  have lt: ∀k o,w.heap[k]?=some o→w'.heap[k]?=some o:=fun k o ho=>by
   have hk:k<w.heap.size:=by
    rcases Nat.lt_or_ge k w.heap.size with h'|h'
    ·exact h'
    ·rw[Array.getElem?_eq_none (by omega)]at ho;cases ho
   rw[hb.block k hk];exact ho
  refine⟨hB,v,lt _ _ h1,⟨h2.1,?_⟩,h3⟩;rcases h2.2 with h|⟨g,cap,cur,fz,e1,e2,e3,r⟩
  ·exact .inl h
  ·exact .inr ⟨g,cap,cur,fz,e1,e2,lt _ _ e3,r⟩
 exact h.elim (fun x=> .inl (key _ x)) (fun x=> .inr (key _ x))
set_option maxHeartbeats 4000000 in
set_option maxRecDepth 1000000 in
theorem z7m {p0:List Av.Value}(h:Av.value_Check p0=some 0){v:Value}{w:World}(hv:Av.RelD (Av.allG w) w (Av.lD 3 Av.encValue p0) v)
 {b off cap:Nat} (e0:v= .slice (some ⟨b,off,none⟩) p0.length cap) (hb0:b<w.heap.size) (hcap:p0.length≤cap) (hmax:p0.length≤8)
 (hcells: ∀i,i<p0.length→w.cell? ⟨b,off+i*3,none⟩=some (.bool (p0.getD i zzd).isText)∧w.cell? ⟨b,off+i*3+1,none⟩=some (.int .i64 (p0.getD i zzd).n)∧w.cell? ⟨b,off+i*3+2,none⟩=some (.string (p0.getD i zzd).s))
 {c:ByteArray} (hc:Av.pack_Count (p0.length:Int)=some c) {l:List UInt8} (hl:Av.encVs p0=some l) (hlen:c.size+l.length≤140737488355328):
 Calls Try.prog 24 #[v] w fun e w'=>e= .returned (.tuple #[.string ⟨(c.data.toList++l).toArray⟩,.int .i64 0])∧Below w.heap.size w w':=by
 subst e0
 go_enter Try.func24,Try.ntmps24
 go_wp2_with (go_at_call 16;refine(z3q h hv).mono ?_)
 rintro e w1 ⟨rfl,b1⟩
 go_wp2_with (go_at_call 42;refine(z54 hc _).mono ?_)
 rintro e w2 ⟨rfl,b2⟩;have hI:Lib.IsBuilderF 58 5 w1.heap.size w1.heap.size [] w2:=z3b (Lib.IsBuilderF.of (Lib.fresh_isBuilder 58 5 w1)) b2
 have hs2:=b2.size
 go_wp2_with (go_at_call 41;refine(z2c w1.heap.size w1.heap.size [] c _ hI (by simp;omega) (by simp at hs2;omega)).mono ?_)
 rintro e w3 ⟨rfl,i3,b3,k3⟩;have HB0:Hid (Lib.IsBuilderF 58 5 w1.heap.size w1.heap.size (Lib.byteCells c.data.toList) w3):=by
  refine Or.inr ?_;rw[←Lib.strCells_eq]
  simpa using i3
 have hB:Hid (w.heap.size≤w1.heap.size):=b1.size;have HW:Hid (Below w.heap.size w w3):=(b1.trans ((((Below.refl w1.heap.size w1).alloc (Nat.le_refl _) _).trans (b2.mono (by simp))).trans b3 |>.mono b1.size))
 clear i3 hI
 go_wp2
 go_loopw [20] (fun i wr=> ∃(k:Nat) (acc rest:List UInt8),k≤p0.length∧i= .int .i64 k∧Hid (Av.encVs (p0.drop k)=some rest)∧Hid (acc++rest=c.data.toList++l)∧Hid (Lib.IsBuilderF 58 5 w1.heap.size w1.heap.size (Lib.byteCells acc) wr)∧Hid (Below w.heap.size w wr)∧Hid (w1.heap.size<wr.heap.size)) (fun i _=>p0.length-(intOf i).toNat)
 case atStart=>exact⟨0,c.data.toList,l,Nat.zero_le _,rfl,hl,rfl,HB0,HW,by have:=hs2;have:=b3.size;simp[Hid]at*;omega⟩
 case round=>
  obtain⟨k,acc,rest,hk,rfl,h1,h2,h3,h4,h5⟩:=hrel;by_cases hlt:k<p0.length
  ·have hcell: ∀j,wr.cell? ⟨b,j,none⟩=w.cell? ⟨b,j,none⟩:=fun j=>World.cell?_of_block (h4.block b hb0);obtain⟨g0,g1,g2⟩:=hcells k hlt;rw[←hcell]at g0 g1 g2;have hd:p0.drop k=p0.getD k zzd::p0.drop (k+1):=by
    rw[List.drop_eq_getElem_cons hlt];simp[List.getD_eq_getElem?_getD,List.getElem?_eq_getElem hlt]
   generalize p0.getD k zzd=x at g0 g1 g2 hd;have h1':Av.encVs (x::p0.drop (k+1))=some rest:=by rw[←hd];exact h1
   obtain⟨pa,e1,h1'⟩:=Av.bind_elim h1';obtain⟨pr,e2,h1'⟩:=Av.bind_elim h1';obtain⟨m,em,e1⟩:=Av.bind_elim e1;clear hcell h1 hd;cases ht:x.isText with
   |false=>
    rw[ht]at g0;have em0:m=0:=by unfold Av.value_mark at em;rw[ht]at em;injection em with em;exact em.symm
    subst em0;rw[ht]at e1;obtain⟨tx,e3,e1⟩:=Av.bind_elim e1;injection e1 with e1;injection h1' with h1';have hpa:pa=0::tx.data.toList:=e1.symm
    have hlens:acc.length+(1+tx.size+pr.length)=c.size+l.length:=by
     have:=congrArg List.length h2;rw[zz7,zz7,←h1',hpa]at this;simp only[zz7,List.length_cons,Array.length_toList]at this;have q1:c.data.size=c.size:=rfl
     have q2:tx.data.size=tx.size:=rfl;omega
    clear e1
    go_wp2_with (go_at_call 33;refine(z5y (x:=x) em ht _).mono ?_)
    rintro e w4 ⟨rfl,b4⟩;have hI4:Lib.IsBuilderF 58 5 w1.heap.size w1.heap.size (Lib.byteCells acc) w4:=z3b (Lib.IsBuilderF.alloc h3 _) b4
    have hs4:=b4.size;have hs5:w1.heap.size<wr.heap.size:=h5
    simp only[World.alloc,Array.size_push]at hs4;have hv4:w4.heap[wr.heap.size]?=some (.cells #[.bool false,.int .i64 x.n,.string x.s] 27 (0,0)):=by
     rw[b4.block _ (by simp)];exact heap_alloc_new _ _
    go_wp2_with (go_at_call 43;refine(z4q w1.heap.size w1.heap.size _ 0 _ hI4 (by rw[Lib.byteCells_length];omega) (by omega)).mono ?_)
    rintro e w5 ⟨rfl,i5,b5,k5⟩;have hs6:=b5.size
    have hv5:=k5 _ _ hv4 (by simp;omega) (by intro c fz;simp);have gv0:w5.cell? ⟨wr.heap.size,0,none⟩=some (.bool false):=Lib.cell_of_heap hv5 0
    have gv1:w5.cell? ⟨wr.heap.size,1,none⟩=some (.int .i64 x.n):=Lib.cell_of_heap hv5 1;have hsb:w1.heap.size≤w5.heap.size:=by
     have:=(Array.getElem?_eq_some_iff.1 hv5).1;omega
    go_wp2_with (go_at_call 45;refine(z7o e3 _).mono ?_)
    rintro e w6 ⟨rfl,b6⟩;have hI6:=z3b (Or.inr i5) b6
    have hs7:=b6.size
    go_wp2_with (go_at_call 41;refine(z2c w1.heap.size w1.heap.size _ tx _ hI6 (by rw[zz7,Lib.byteCells_length];simp only[List.length_cons,List.length_nil];omega) (by omega)).mono ?_)
    rintro e w7 ⟨rfl,i7,b7,k7⟩;have hs8:=b7.size
    have hBw:w.heap.size≤w1.heap.size:=hB
    go_wp2
    refine⟨⟨k+1,acc++pa,pr,by omega,by go_num,e2,?_,?_,?_,?_⟩,by simp[intOf];omega⟩
    ·show(acc++pa)++pr=c.data.toList++l;rw[List.append_assoc,h1'];exact h2
    ·refine Or.inr ?_;have hce:Lib.byteCells acc++[.int .u8 0]++Lib.strCells tx=Lib.byteCells (acc++pa):=by
      rw[hpa,Lib.byteCells_append,Lib.strCells_eq,List.append_assoc];rfl
     rw[←hce];exact i7
    ·exact(((((h4.alloc (Below.size h4) _).trans (b4.mono (by simp;have:=Below.size h4;omega))).trans (b5.mono hBw)).trans (b6.mono (by omega))).trans (b7.mono hBw))
    ·show w1.heap.size<w7.heap.size;have:=(Array.getElem?_eq_some_iff.1 hv5).1
     omega
   |true=>
    rw[ht]at g0;have em0:m=1:=by unfold Av.value_mark at em;rw[ht]at em;injection em with em;exact em.symm
    subst em0;rw[ht]at e1;obtain⟨tx,e3,e1⟩:=Av.bind_elim e1;injection e1 with e1;injection h1' with h1';have hpa:pa=1::tx.data.toList:=e1.symm
    have hlens:acc.length+(1+tx.size+pr.length)=c.size+l.length:=by
     have:=congrArg List.length h2;rw[zz7,zz7,←h1',hpa]at this;simp only[zz7,List.length_cons,Array.length_toList]at this;have q1:c.data.size=c.size:=rfl
     have q2:tx.data.size=tx.size:=rfl;omega
    clear e1
    go_wp2_with (go_at_call 33;refine(z5y (x:=x) em ht _).mono ?_)
    rintro e w4 ⟨rfl,b4⟩;have hI4:Lib.IsBuilderF 58 5 w1.heap.size w1.heap.size (Lib.byteCells acc) w4:=z3b (Lib.IsBuilderF.alloc h3 _) b4
    have hs4:=b4.size;have hs5:w1.heap.size<wr.heap.size:=h5
    simp only[World.alloc,Array.size_push]at hs4;have hv4:w4.heap[wr.heap.size]?=some (.cells #[.bool true,.int .i64 x.n,.string x.s] 27 (0,0)):=by
     rw[b4.block _ (by simp)];exact heap_alloc_new _ _
    go_wp2_with (go_at_call 43;refine(z4q w1.heap.size w1.heap.size _ 1 _ hI4 (by rw[Lib.byteCells_length];omega) (by omega)).mono ?_)
    rintro e w5 ⟨rfl,i5,b5,k5⟩;have hs6:=b5.size
    have hv5:=k5 _ _ hv4 (by simp;omega) (by intro c fz;simp);have gv0:w5.cell? ⟨wr.heap.size,0,none⟩=some (.bool true):=Lib.cell_of_heap hv5 0
    have gv1:w5.cell? ⟨wr.heap.size,2,none⟩=some (.string x.s):=Lib.cell_of_heap hv5 2;have hsb:w1.heap.size≤w5.heap.size:=by
     have:=(Array.getElem?_eq_some_iff.1 hv5).1;omega
    go_wp2_with (go_at_call 44;refine(z9a e3 _).mono ?_)
    rintro e w6 ⟨rfl,b6⟩;have hI6:=z3b (Or.inr i5) b6
    have hs7:=b6.size
    go_wp2_with (go_at_call 41;refine(z2c w1.heap.size w1.heap.size _ tx _ hI6 (by rw[zz7,Lib.byteCells_length];simp only[List.length_cons,List.length_nil];omega) (by omega)).mono ?_)
    rintro e w7 ⟨rfl,i7,b7,k7⟩;have hs8:=b7.size
    have hBw:w.heap.size≤w1.heap.size:=hB
    go_wp2
    refine⟨⟨k+1,acc++pa,pr,by omega,by go_num,e2,?_,?_,?_,?_⟩,by simp[intOf];omega⟩
    ·show(acc++pa)++pr=c.data.toList++l;rw[List.append_assoc,h1'];exact h2
    ·refine Or.inr ?_;have hce:Lib.byteCells acc++[.int .u8 1]++Lib.strCells tx=Lib.byteCells (acc++pa):=by
      rw[hpa,Lib.byteCells_append,Lib.strCells_eq,List.append_assoc];rfl
     rw[←hce];exact i7
    ·exact(((((h4.alloc (Below.size h4) _).trans (b4.mono (by simp;have:=Below.size h4;omega))).trans (b5.mono hBw)).trans (b6.mono (by omega))).trans (b7.mono hBw))
    ·show w1.heap.size<w7.heap.size;have:=(Array.getElem?_eq_some_iff.1 hv5).1
     omega
  ·have hke:k=p0.length:=by omega
   subst hke;have h1':Av.encVs (p0.drop p0.length)=some rest:=h1
   rw[List.drop_length]at h1';injection h1' with h1';have h2':acc++rest=c.data.toList++l:=h2
   rw[←h1',List.append_nil]at h2';have hs5:w1.heap.size<wr.heap.size:=h5
   go_wp2_with (go_at_call 46;refine(z6c w1.heap.size w1.heap.size acc _ h3 (by omega)).mono ?_)
   rintro e w4 ⟨rfl,i4,b4,k4⟩;have hBw:w.heap.size≤w1.heap.size:=hB
   go_wp2
   go_ret2
   exact⟨rfl,Below.trans h4 (b4.mono hBw)⟩
set_option maxHeartbeats 4000000 in
set_option maxRecDepth 1000000 in
theorem z7n (h:Av.value_Check []=some 0){a:Option Addr}{cap:Nat}{w:World}
 {c:ByteArray} (hc:Av.pack_Count 0=some c) (hlen:c.size≤140737488355328):
 Calls Try.prog 24 #[.slice a 0 cap] w fun e w'=>e= .returned (.tuple #[.string ⟨c.data.toList.toArray⟩,.int .i64 0])∧Below w.heap.size w w':=by
 go_enter Try.func24,Try.ntmps24
 go_wp2_with (go_at_call 16;refine(z3q h (Av.RelD.empty 3 _ a cap)).mono ?_)
 rintro e w1 ⟨rfl,b1⟩
 go_wp2_with (go_at_call 42;refine(z54 hc _).mono ?_)
 rintro e w2 ⟨rfl,b2⟩;have hI:Lib.IsBuilderF 58 5 w1.heap.size w1.heap.size [] w2:=z3b (Lib.IsBuilderF.of (Lib.fresh_isBuilder 58 5 w1)) b2
 have hs2:=b2.size
 go_wp2_with (go_at_call 41;refine(z2c w1.heap.size w1.heap.size [] c _ hI (by simp;omega) (by simp at hs2;omega)).mono ?_)
 rintro e w3 ⟨rfl,i3,b3,k3⟩;have HB0:Hid (Lib.IsBuilderF 58 5 w1.heap.size w1.heap.size (Lib.byteCells c.data.toList) w3):=by
  refine Or.inr ?_;rw[←Lib.strCells_eq]
  simpa using i3
 have hB:w.heap.size≤w1.heap.size:=b1.size;have HW:Hid (Below w.heap.size w w3):=(b1.trans ((((Below.refl w1.heap.size w1).alloc (Nat.le_refl _) _).trans (b2.mono (by simp))).trans b3 |>.mono b1.size))
 have hs3:w1.heap.size≤w3.heap.size:=by have:=b3.size;simp at hs2;omega
 clear i3 hI
 go_wp2
 go_loopw [20] (fun i wr=>i= .int .i64 0∧Hid (Lib.IsBuilderF 58 5 w1.heap.size w1.heap.size (Lib.byteCells c.data.toList) wr)∧Hid (Below w.heap.size w wr)∧Hid (w1.heap.size≤wr.heap.size)) (fun i _=>0)
 case atStart=>exact⟨rfl,HB0,HW,hs3⟩
 case round=>
  obtain⟨rfl,h3,h4,h5⟩:=hrel;have hs5:w1.heap.size≤wr.heap.size:=h5
  go_wp2_with (go_at_call 46;refine(z6c w1.heap.size w1.heap.size c.data.toList _ h3 hs5).mono ?_)
  rintro e w4 ⟨rfl,i4,b4,k4⟩
  go_wp2
  go_ret2
  exact⟨rfl,Below.trans h4 (b4.mono hB)⟩
end Go.Proofs
/-
 Av,part V:of loops,without any program.
-/
namespace Go.Av
section
variable {S R Q A X:Type}
theorem        zb9 {B : Nat → S → Option (Ctl S R)} {n : Nat} (I : Nat → S → Prop) {s : S} (h0 : I 0 s) (hs : ∀ i s, i < n → I i s → ∃ s', B i s = some (.next s') ∧ I (i + 1) s') :
    ∃ s',    z12 B n 0 s = some (.done s') ∧ I n s' := by
  have key : ∀ k i s, i + k = n → I i s → ∃ s',    z12 B k i s = some (.done s') ∧ I n s' := by
    intro k
    induction k with
    | zero => intro i s hi h; exact ⟨s, rfl, by have : i = n := by omega
                                                subst this; exact h⟩
    | succ k ih =>
      intro i s hi h
      obtain ⟨s', h1, h2⟩ := hs i s (by omega) h
      obtain ⟨s2, h3, h4⟩ := ih (i + 1) s' (by omega) h2
      exact ⟨s2, by simp only [   z12, h1, h3], h4⟩
  exact key n 0 s (by omega) h0
theorem zbz {B:Nat→S→Option (Ctl S R)}{n:Nat}{s:S}(r:S)(I:Nat→S→Prop)(hr: ∀s,I n s→s=r)(hs: ∀i s,i<n→I i s→ ∃s',B i s=some (.next s')∧I (i+1) s')(h0:I 0 s):
 z12 B n 0 s=some (.done r):=by
 obtain⟨s',h1,h2⟩:=zb9 I h0 hs;rw[h1,hr s' h2]
@[simp] theorem z92 {s:S} {kn:S→Option Q} {kr:R→Option Q}:outK (some (.done s)) kn kr=kn s:=rfl
@[simp] theorem zdj {r:R} {kn:S→Option Q} {kr:R→Option Q}:outK (some (.ret r)) kn kr=kr r:=rfl
@[simp] theorem z1f {x y:Option Q}:bf true x y=x:=rfl
@[simp] theorem z0p {x y:Option Q}:bf false x y=y:=rfl
theorem z0j {c:Prop}[Decidable c]{k:Option Q}(h:c):need c k=k:=by unfold need;rw[if_pos h]
@[simp] theorem jn_eq {j:A→Option Q} {k:(A→Option Q)→Option Q}:jn j k=k j:=rfl
@[simp] theorem z2o {p:Prop} [Decidable p] {x y:Option Q}:bf (decide p) x y=if p then x else y:=by by_cases h:p<;>simp[h,bf]
@[simp] theorem zdk {b:Bool} {x y:Option Q}:bf (!b) x y=bf b y x:=by cases b<;>rfl
end
end Go.Av
namespace Go.Av
open Go Go.RowKit Go.Proofs
theorem zce {p0:List Value}(h:value_Check p0=some 0):p0.length≤8:=by
 unfold value_Check at h;rw[jn_eq]at h;by_cases h8:8<(p0.length:Int)
 ·rw[decide_eq_true h8]at h;cases h
 ·omega
theorem z4y {p0:List Value}{q:ByteArray×Int}(h:z2u p0=some q):Summ Try.prog 24 [.c (.d (lD 3 encValue p0))] [] (.tup [(false,[.d (.str q.1)]),(false,[.d (.int .i64 q.2)])]) []:=by
 obtain⟨r,h1,h⟩:=bind_elim h;refine z6a (Go.Proofs.enters_of Try.func24 (by kernel_rfl) rfl) fun G φ w vs hG hargs=>?_
 match vs,hargs with
 |[v],⟨hv,_⟩=>
  have hv:RelD (allG w) w (lD 3 encValue p0) v:=RelD.mono (Same.refl _ _) hG hv.1;rcases zcd h with⟨e,h⟩|⟨e,h⟩
  ·cases h;have hr:r≠0:=by simpa using e
   exact(z8h h1 hr hv).mono fun e w' ⟨a,b⟩=>⟨_,a,⟨_,rfl,⟨⟨RelD.str _,rfl⟩,⟨RelD.int _ _,rfl⟩,trivial⟩⟩,b⟩
  ·have hr:r=0:=by simpa using e
   subst hr;obtain⟨c,h2,h⟩:=bind_elim h;obtain⟨l,h3,h⟩:=bind_elim h;obtain⟨h4,h⟩:=z0g h;cases h;have h8:=zce h1
   rcases zc2 hv with⟨g0,a,cap,rfl⟩|⟨b,off,cap,rfl,g1,g2,g3,g4⟩
   ·obtain rfl:=List.eq_nil_of_length_eq_zero g0;cases h3;exact(z7n h1 (a:=a) (cap:=cap) h2 (by simpa using h4)).mono fun e w' ⟨a,b⟩=>⟨_,a,⟨_,rfl,⟨⟨by rw[List.append_nil];exact RelD.str _,rfl⟩,⟨RelD.int _ _,rfl⟩,trivial⟩⟩,b⟩
   ·exact(z7m h1 hv rfl g1 g2 h8 g4 h2 h3 h4).mono fun e w' ⟨a,b⟩=>⟨_,a,⟨_,rfl,⟨⟨RelD.str _,rfl⟩,⟨RelD.int _ _,rfl⟩,trivial⟩⟩,b⟩
end Go.Av
namespace Go.Av
open Go Go.Proofs
theorem z2z {p0:ByteArray}{q:Int×ByteArray×Int}(h:z1t p0=some q):
 Summ Try.prog 74 [cD (.str p0)] [] (.tup [(false,[.d (dU q.1)]),(false,[.d (.str q.2.1)]),(false,[.d (dI q.2.2)])]) []:=by
 refine Summ.i Try.func74 rfl [] fun w0 G0 V LL φ0=>?_;unfold z1t at h;refine Tri.sg [0] [] (z00 3) ?_;refine Tri.sg [0,5] [] (z00 1) ?_;refine z02 ?_;refine Tri.sg [0,5,9,10] [] (z00 3) ?_;obtain⟨hlena2,h⟩:=z0g h;refine z7l 10 (0) (fun(x:Int×ByteArray×Int) s=>RetAt Try.prog Try.f74 (.tup [(false,[.d (dU x.1)]),(false,[.d (.str x.2.1)]),(false,[.d (dI x.2.2)])]) [] s) (fun(a2:Int)=>⟨[(0,cD (.str p0)),(5,cD (dU a2)),(9,cD (dI (p0.size:Int)))],[]⟩) [10,0,5,9] [] [11,10,0,5,9] [] [0,5,9] [] [10,0,5,9] [] h hlena2 ?_ ?_ ?_
 ·intro i1 a2 c hii1 h;refine Tri.sg [0,5,6,9,10] [] (z00 2) ?_;refine Tri.sg [0,5,6,7,9,10] [] (tN 2 (ai (show((0:Int)≤((i1:Nat):Int)∧((i1:Nat):Int)<(p0.size:Int))from⟨by omega,by omega⟩) (z00 1))) ?_;refine z02 ?_;refine z11 (fun(a4:Bool)=>⟨[(0,cD (.str p0)),(5,cD (dU a2)),(6,cD (dI ((i1:Nat):Int))),(7,cD (.int .u8 (bt p0 ((i1:Nat):Int)))),(9,cD (dI (p0.size:Int))),(10,cD (dI ((i1:Nat):Int))),(29,cD (.bool a4))],[]⟩) h (fun a4 h=>?_) (fun j5 h=>?_)
  ·refine z0f h (fun h=>?_) (fun h=>?_)
   ·refine Tri.sg [2,3,4] [] (z00 3) ?_;refine Tri.ret ?_;cases h;exact RetAt.k
   ·refine Tri.skip ?_;obtain⟨hc6,h⟩:=z0g h;refine Tri.sg [0,5,6,7,9,10] [] (tN 6 (ai hc6 (z00 2))) ?_;refine Tri.sg [0,5,6,9,10,39] [] (z00 2) ?_;refine z0f h (fun h=>?_) (fun h=>?_)
    ·refine z02 ?_;obtain⟨hc7,h⟩:=z0g h;refine z6b [.a [5] [],.a [0] [],.a [6] [],.a [42] [],.a [41,43] [],.a [40] [],.a [44] [],.a [] []] [2,3,4] [] (tN 4 (ai hc7 (z00 3))) (.a (.a (.a (.a (.a (.a (.a (.a .z)))))))) ?_;refine Tri.ret ?_;cases h;exact RetAt.k
    ·refine Tri.kp [10,0,5,9] [] ?_;refine Tri.skip ?_;cases h;exact kr
  ·refine z04 ?_;refine At.sg 3 [0,5,6,7,9,10,18] [] (z00 3) ?_;refine At.cs [18] h (fun h=>?_) (fun h=>?_)
   ·refine At.sg 4 [0,5,6,7,9,10,22] [] (z00 4) ?_;refine At.cs [22] h (fun h=>?_) (fun h=>?_)
    ·refine At.sg 7 [0,5,6,7,9,10,29] [] (z00 1) ?_;refine At.done rfl ?_;exact⟨_,h,kr⟩
    ·refine At.sg 3 [0,5,6,7,9,10,22,25] [] (z00 3) ?_;refine At.cs [25] h (fun h=>?_) (fun h=>?_)
     ·refine At.sg 4 [0,5,6,7,9,10,29] [] (z00 4) ?_;refine At.done rfl ?_;exact⟨_,h,kr⟩
     ·refine At.sg 4 [0,5,6,7,9,10,29] [] (z00 2) ?_;refine At.done rfl ?_;exact⟨_,h,kr⟩
   ·refine At.sg 7 [0,5,6,7,9,10,22,25] [] (z00 5) ?_;refine At.cs [25] h (fun h=>?_) (fun h=>?_)
    ·refine At.sg 4 [0,5,6,7,9,10,29] [] (z00 4) ?_;refine At.done rfl ?_;exact⟨_,h,kr⟩
    ·refine At.sg 4 [0,5,6,7,9,10,29] [] (z00 2) ?_;refine At.done rfl ?_;exact⟨_,h,kr⟩
 ·intro a3 h;refine Tri.sg [2,3,4] [] (z00 3) ?_;refine Tri.ret ?_;cases h;exact RetAt.k
 ·exact fun x s hx hr=>by cases hx;exact hr
theorem z1p {p1:ByteArray}{p2:Int}{l0:Taker}{q:Taker}(h:z0i p1 p2 l0=some q):
 Summ Try.prog 75 [.c (.ptr 5000 0),cD (.str p1),cD (dI p2)] [(5000,.box (cTaker l0))] (.tup []) [(5000,.box (cTaker q))]:=by
 refine Summ.i Try.func75 rfl [] fun w0 G0 V LL φ0=>?_;unfold z0i at h;refine z04 ?_;refine At.sg 8 [2,6,7,8,13] [5000] (z00 8) ?_;refine At.cs [13] h (fun h=>?_) (fun h=>?_)
 ·refine At.sg 9 [] [5000] (z00 7) ?_;refine At.done rfl ?_;cases h;exact RetAt.k
 ·refine At.sg 9 [] [5000] (z00 9) ?_;refine At.done rfl ?_;cases h;exact RetAt.k
theorem z3k {l0:Taker}{q:Int×Taker}(h:z17 l0=some q):
 Summ Try.prog 69 [.c (.ptr 5000 0)] [(5000,.box (cTaker l0))] (cD (dU q.1)) [(5000,.box (cTaker q.2))]:=by
 refine Summ.i Try.func69 rfl [] fun w0 G0 V LL φ0=>?_;unfold z17 at h;refine Tri.sg [0] [5000] (z00 1) ?_;refine z02 ?_;refine z04 ?_;refine At.sg 4 [0,10] [5000] (z00 4) ?_;obtain⟨r1,hr1,h⟩:=bind_elim h;refine At.cA [] [cD (.str l0.left)] (z2z hr1) (.cons (.refl _) .nil) ?_;refine At.sg 7 [0,3,4,5] [5000] (z00 7) ?_;refine At.done rfl ?_;refine z02 ?_;refine z04 ?_;refine At.sg 3 [3,15,16,17] [5000] (z00 3) ?_;obtain⟨r2,hr2,h⟩:=bind_elim h;refine z3w 0 [] [.c (.ptr 5000 0),cD (.str r1.2.1),cD (dI r1.2.2)] [(5000,5000)] [3] [] (z1p hr2) (.ren rfl rfl (.flat (.refl _) rfl rfl (.flat (.refl _) rfl rfl .nil))) ?_;refine At.done rfl ?_;refine Tri.sg [2] [5000] (z00 2) ?_;refine Tri.ret ?_;cases h;exact RetAt.k
theorem z3o {l0:Taker}{q:Int×Taker}(h:z1c l0=some q):
 Summ Try.prog 70 [.c (.ptr 5000 0)] [(5000,.box (cTaker l0))] (cD (.int .u8 q.1)) [(5000,.box (cTaker q.2))]:=by
 refine Summ.i Try.func70 rfl [] fun w0 G0 V LL φ0=>?_;unfold z1c at h;refine Tri.sg [0] [5000] (z00 1) ?_;refine z02 ?_;refine Tri.sg [0,8] [5000] (z00 5) ?_;refine z0f h (fun h=>?_) (fun h=>?_)
 ·refine Tri.sg [] [5000] (z00 4) ?_;refine Tri.sg [2] [5000] (z00 1) ?_;refine Tri.ret ?_;cases h;exact RetAt.k
 ·refine Tri.skip ?_;obtain⟨hc1,h⟩:=z0g h;refine Tri.sg [0,3] [5000] (tN 4 (ai hc1 (z00 1))) ?_;obtain⟨hc2,h⟩:=z0g h;refine Tri.sg [3] [5000] (tN 5 (ai hc2 (z00 3))) ?_;refine Tri.sg [2] [5000] (z00 2) ?_;refine Tri.ret ?_;cases h;exact RetAt.k
theorem z6q {p0:ByteArray}{q:Int×ByteArray×Int}(h:z1x p0=some q):
 Summ Try.prog 76 [cD (.str p0)] [] (.tup [(false,[.d (dI q.1)]),(false,[.d (.str q.2.1)]),(false,[.d (dI q.2.2)])]) []:=by
 refine Summ.i Try.func76 rfl [] fun w0 G0 V LL φ0=>?_;unfold z1x at h;refine Tri.sg [0] [] (z00 3) ?_;refine z02 ?_;refine z04 ?_;refine At.sg 1 [9] [] (z00 1) ?_;obtain⟨r1,hr1,h⟩:=bind_elim h;refine At.cA [] [cD (.str p0)] (z2z hr1) (.cons (.refl _) .nil) ?_;refine At.sg 7 [5,6,7] [] (z00 7) ?_;refine At.done rfl ?_;refine Tri.sg [2,3,4] [] (tN 1 (ai (show((0:Int)≤1)from(by decide:(0:Int)≤1)) (z00 11))) ?_;refine Tri.ret ?_;cases h;exact RetAt.k
theorem z3e {l0:Taker}{q:Int×Taker}(h:z0q l0=some q):
 Summ Try.prog 71 [.c (.ptr 5000 0)] [(5000,.box (cTaker l0))] (cD (dI q.1)) [(5000,.box (cTaker q.2))]:=by
 refine Summ.i Try.func71 rfl [] fun w0 G0 V LL φ0=>?_;unfold z0q at h;refine Tri.sg [0] [5000] (z00 1) ?_;refine z02 ?_;refine z04 ?_;refine At.sg 4 [0,10] [5000] (z00 4) ?_;obtain⟨r1,hr1,h⟩:=bind_elim h;refine At.cA [] [cD (.str l0.left)] (z6q hr1) (.cons (.refl _) .nil) ?_;refine At.sg 7 [0,3,4,5] [5000] (z00 7) ?_;refine At.done rfl ?_;refine z02 ?_;refine z04 ?_;refine At.sg 3 [3,15,16,17] [5000] (z00 3) ?_;obtain⟨r2,hr2,h⟩:=bind_elim h;refine z3w 0 [] [.c (.ptr 5000 0),cD (.str r1.2.1),cD (dI r1.2.2)] [(5000,5000)] [3] [] (z1p hr2) (.ren rfl rfl (.flat (.refl _) rfl rfl (.flat (.refl _) rfl rfl .nil))) ?_;refine At.done rfl ?_;refine Tri.sg [2] [5000] (z00 2) ?_;refine Tri.ret ?_;cases h;exact RetAt.k
theorem z7g {p0:ByteArray}{q:ByteArray×ByteArray×Int}(h:z23 p0=some q):
 Summ Try.prog 77 [cD (.str p0)] [] (.tup [(false,[.d (.str q.1)]),(false,[.d (.str q.2.1)]),(false,[.d (dI q.2.2)])]) []:=by
 refine Summ.i Try.func77 rfl [] fun w0 G0 V LL φ0=>?_;unfold z23 at h;refine Tri.sg [0] [] (z00 3) ?_;refine z02 ?_;refine z04 ?_;refine At.sg 1 [9] [] (z00 1) ?_;obtain⟨r1,hr1,h⟩:=bind_elim h;refine At.cA [] [cD (.str p0)] (z2z hr1) (.cons (.refl _) .nil) ?_;refine At.sg 7 [5,6,7] [] (z00 7) ?_;refine At.done rfl ?_;refine z11 (fun(a2:Int)=>⟨[(5,cD (dU r1.1)),(6,cD (.str r1.2.1)),(7,cD (dI a2))],[]⟩) h (fun a2 h=>?_) (fun j3 h=>?_)
 ·refine z11 (fun(a4:Int)=>⟨[(5,cD (dU r1.1)),(6,cD (.str r1.2.1)),(7,cD (dI a4))],[]⟩) h (fun a4 h=>?_) (fun j5 h=>?_)
  ·refine z02 ?_;refine Tri.sg [5,6,7,30] [] (z00 2) ?_;refine z0f h (fun h=>?_) (fun h=>?_)
   ·refine Tri.sg [2,3,4] [] (z00 4) ?_;refine Tri.ret ?_;cases h;exact RetAt.k
   ·refine Tri.skip ?_;refine z02 ?_;obtain⟨hc6,h⟩:=z0g h;obtain⟨hc7,h⟩:=z0g h;refine z6b [.a [6] [],.a [5] [],.a [32,33] [],.a [6] [],.a [5] [],.a [35,36] [],.a [34] [],.a [37] [],.a [] []] [2,3,4] [] (tN 2 (ai hc6 (tN 2 (ai hc7 (z00 3))))) (.a (.a (.a (.a (.a (.a (.a (.a (.a .z))))))))) ?_;refine Tri.ret ?_;cases h;exact RetAt.k
  ·refine z11 (fun(a8:Bool)=>⟨[(5,cD (dU r1.1)),(6,cD (.str r1.2.1)),(7,cD (dI a2)),(28,cD (.bool a8))],[]⟩) h (fun a8 h=>?_) (fun j9 h=>?_)
   ·refine z0f h (fun h=>?_) (fun h=>?_)
    ·refine z04 ?_;refine At.sg 1 [5,6,7] [] (z00 1) ?_;refine At.done rfl ?_;exact⟨_,h,kr⟩
    ·refine Tri.kp [5,6,7] [] ?_;refine Tri.skip ?_;exact⟨_,h,kr⟩
   ·refine z04 ?_;refine At.sg 3 [5,6,7,22] [] (z00 3) ?_;refine At.cs [22] h (fun h=>?_) (fun h=>?_)
    ·refine At.sg 6 [5,6,7,28] [] (z00 6) ?_;refine At.done rfl ?_;exact⟨_,h,kr⟩
    ·refine At.sg 6 [5,6,7,28] [] (z00 1) ?_;refine At.done rfl ?_;exact⟨_,h,kr⟩
 ·refine z11 (fun(a10:Bool)=>⟨[(5,cD (dU r1.1)),(6,cD (.str r1.2.1)),(7,cD (dI r1.2.2)),(19,cD (.bool a10))],[]⟩) h (fun a10 h=>?_) (fun j11 h=>?_)
  ·refine z0f h (fun h=>?_) (fun h=>?_)
   ·refine z04 ?_;refine At.sg 1 [5,6,7] [] (z00 1) ?_;refine At.done rfl ?_;exact⟨_,h,kr⟩
   ·refine Tri.kp [5,6,7] [] ?_;refine Tri.skip ?_;exact⟨_,h,kr⟩
  ·refine z04 ?_;refine At.sg 3 [5,6,7,16] [] (z00 3) ?_;refine At.cs [16] h (fun h=>?_) (fun h=>?_)
   ·refine At.sg 3 [5,6,7,19] [] (z00 3) ?_;refine At.done rfl ?_;exact⟨_,h,kr⟩
   ·refine At.sg 3 [5,6,7,19] [] (z00 1) ?_;refine At.done rfl ?_;exact⟨_,h,kr⟩
theorem z3p {l0:Taker}{q:ByteArray×Taker}(h:z1d l0=some q):
 Summ Try.prog 72 [.c (.ptr 5000 0)] [(5000,.box (cTaker l0))] (cD (.str q.1)) [(5000,.box (cTaker q.2))]:=by
 refine Summ.i Try.func72 rfl [] fun w0 G0 V LL φ0=>?_;unfold z1d at h;refine Tri.sg [0] [5000] (z00 1) ?_;refine z02 ?_;refine z04 ?_;refine At.sg 4 [0,10] [5000] (z00 4) ?_;obtain⟨r1,hr1,h⟩:=bind_elim h;refine At.cA [] [cD (.str l0.left)] (z7g hr1) (.cons (.refl _) .nil) ?_;refine At.sg 7 [0,3,4,5] [5000] (z00 7) ?_;refine At.done rfl ?_;refine z02 ?_;refine z04 ?_;refine At.sg 3 [3,15,16,17] [5000] (z00 3) ?_;obtain⟨r2,hr2,h⟩:=bind_elim h;refine z3w 0 [] [.c (.ptr 5000 0),cD (.str r1.2.1),cD (dI r1.2.2)] [(5000,5000)] [3] [] (z1p hr2) (.ren rfl rfl (.flat (.refl _) rfl rfl (.flat (.refl _) rfl rfl .nil))) ?_;refine At.done rfl ?_;refine Tri.sg [2] [5000] (z00 2) ?_;refine Tri.ret ?_;cases h;exact RetAt.k
theorem z3m {l0:Taker}{q:Value×Taker}(h:z0u l0=some q):
 Summ Try.prog 64 [.c (.ptr 5000 0)] [(5000,.box (cTaker l0))] (.agg (cValue q.1)) [(5000,.box (cTaker q.2))]:=by
 refine Summ.i Try.func64 rfl [] fun w0 G0 V LL φ0=>?_;unfold z0u at h;refine Tri.sg [0,2] [2,5000] (z00 1) ?_;refine z02 ?_;refine z02 ?_;refine z04 ?_;refine At.sg 1 [0,2,4] [2,5000] (z00 1) ?_;obtain⟨r1,hr1,h⟩:=bind_elim h;refine z3w 0 [] [.c (.ptr 5000 0)] [(5000,5000)] [0,2] [2] (z3o hr1) (.ren rfl rfl .nil) ?_;refine At.done rfl ?_;refine z5h ?_;refine Tri.sg [0,2,5,6] [2,5000] (z00 2) ?_;refine z0f h (fun h=>?_) (fun h=>?_)
 ·refine z02 ?_;refine z04 ?_;refine At.sg 1 [2,8] [2,5000] (z00 1) ?_;obtain⟨r2,hr2,h⟩:=bind_elim h;refine z3w 0 [] [.c (.ptr 5000 0)] [(5000,5000)] [2] [2] (z3e hr2) (.ren rfl rfl .nil) ?_;refine At.sg 2 [2] [2,5000] (z00 2) ?_;refine At.done rfl ?_;refine Tri.ret ?_;cases h;exact RetAt.k
 ·refine Tri.sg [0,2,11] [2,5000] (z00 2) ?_;refine z0f h (fun h=>?_) (fun h=>?_)
  ·refine z02 ?_;refine z04 ?_;refine At.sg 1 [0,2,13] [2,5000] (z00 1) ?_;obtain⟨r3,hr3,h⟩:=bind_elim h;refine z3w 0 [] [.c (.ptr 5000 0)] [(5000,5000)] [0,2] [2] (z3p hr3) (.ren rfl rfl .nil) ?_;refine At.sg 3 [0,2,3] [2,3,5000] (z00 3) ?_;refine At.done rfl ?_;refine z11 (fun(a4:Taker)=>⟨[(2,.c (.ptr 2 0)),(3,.c (.ptr 3 0))],[(2,.box [.d (.bool false),.d (dI 0),.d (.str (bs []))]),(3,.box [.d (.bool true),.d (dI 0),.d (.str r3.1)]),(5000,.box (cTaker a4))]⟩) h (fun a4 h=>?_) (fun j5 h=>?_)
   ·refine Tri.sg [2] [2,5000] (z00 2) ?_;refine Tri.ret ?_;cases h;exact RetAt.k
   ·refine z04 ?_;refine At.sg 6 [2,3,16,21] [2,3,5000] (z00 6) ?_;refine At.cs [21] h (fun h=>?_) (fun h=>?_)
    ·refine At.sg 7 [2,3] [2,3,5000] (z00 4) ?_;refine At.done rfl ?_;exact⟨_,h,kr⟩
    ·refine At.sg 1 [2,3,16,21,22] [2,3,5000] (z00 1) ?_;obtain⟨r6,hr6,h⟩:=bind_elim h;refine At.cA [] [.agg [.d (.bool true),.d (dI 0),.d (.str r3.1)]] (z5g hr6) (.cons (.refl _) .nil) ?_;refine At.sg 5 [2,3] [2,3,5000] (z00 5) ?_;refine At.done rfl ?_;exact⟨_,h,kr⟩
  ·refine Tri.skip ?_;refine Tri.sg [2] [2,5000] (z00 4) ?_;refine Tri.sg [2] [2,5000] (z00 2) ?_;refine Tri.ret ?_;cases h;exact RetAt.k
theorem z3l {l0:List Value}{l3:Taker}{q:(List Value)×Taker}(h:z0t l0 l3=some q):
 Summ Try.prog 63 [.c (.ptr 5000 0),.c (.ptr 5200 0)] [(5000,.box [oC 5100 3 l0]),(5100,vL 3 encValue l0),(5200,.box [.ptr 5300 0]),(5300,.box (cTaker l3))] (.tup []) [(5150,vL 3 encValue q.1),(5000,.box [oC 5150 3 q.1]),(5200,.box [.ptr 5300 0]),(5300,.box (cTaker q.2))]:=by
 refine Summ.i Try.func63 rfl [5150] fun w0 G0 V LL φ0=>?_;unfold z0t at h;refine Tri.rename 5100 5150 ⟨[(0,.c (.ptr 5000 0)),(1,.c (.ptr 5200 0))],[(5000,.box [oC 5150 3 l0]),(5150,vL 3 encValue l0),(5200,.box [.ptr 5300 0]),(5300,.box (cTaker l3))]⟩ (by kernel_rfl) rfl rfl rfl ?_;obtain⟨r1,hr1,h⟩:=bind_elim h;obtain⟨hc2,h⟩:=z0g h;refine z6b [.a [0] [5000],.a [1] [5200],.m ⟨[(3,.c (.ptr 5300 0))],[(5300,.box (cTaker l3))]⟩ ⟨[(4,.agg (cValue r1.1))],[(5300,.box (cTaker r1.2))]⟩ [] [] [],.m ⟨[(4,.agg (cValue r1.1))],[]⟩ ⟨[(5,.c (oC 5 3 ([r1.1]:List Value)))],[(5,vL 3 encValue ([r1.1]:List Value))]⟩ [5] [] [],.m ⟨[(2,.c (oC 5150 3 l0)),(5,.c (oC 5 3 ([r1.1]:List Value)))],[(5,vL 3 encValue ([r1.1]:List Value)),(5000,.box [oC 5150 3 l0]),(5150,vL 3 encValue l0)]⟩ ⟨[(6,.c (oC 5150 3 (l0++([r1.1]:List Value)))),(2,.c (.any))],[(5150,vL 3 encValue (l0++([r1.1]:List Value))),(5000,.box [.any])]⟩ [5150] [2] [5000],.m ⟨[(0,.c (.ptr 5000 0)),(6,.c (oC 5150 3 (l0++([r1.1]:List Value))))],[(5000,.box [.any]),(5150,vL 3 encValue (l0++([r1.1]:List Value)))]⟩ ⟨[],[(5000,.box [oC 5150 3 (l0++([r1.1]:List Value))])]⟩ [] [] []] [] [5000,5150,5200,5300] (z00 2) (.a (.a (.m ?_ (.m ?_ (.m ?_ (.m ?_ .z)))))) ?_
 ·exact DOk.callL (nf:=0) (caps:=[]) (xs:=[.c (.ptr 5300 0)]) [(5000,5300)] (z3m hr1) rfl (fun r=>by kernel_rfl) rfl (fun r=>by kernel_rfl) (fun r=>by kernel_rfl) (fun r=>(.ren rfl rfl .nil)) (fun r=>⟨⟨by kernel_rfl,by kernel_rfl⟩,trivial⟩) (by kernel_rfl) (by kernel_rfl) (by kernel_rfl) (by kernel_rfl) (by kernel_rfl) (by kernel_rfl) (by kernel_rfl) (by kernel_rfl) (by kernel_rfl) (by kernel_rfl) (by first|kernel_rfl|(show _=_;kernel_rfl))
 ·exact DOk.one fun r hr=>zau (e:=27) (es:=3) (z:=[.d (.bool false),.d (dI 0),.d (.str (bs []))]) (cells:=[.d (.bool r1.1.isText),.d (dI r1.1.n),.d (.str r1.1.s)]) (encValue) ([r1.1]:List Value) rfl (by kernel_rfl) rfl rfl (z4g (by kernel_rfl) (hr 5 (by simp))) (by kernel_rfl) rfl (by kernel_rfl) rfl rfl rfl (by kernel_rfl) rfl ⟨⟨rfl,.refl _⟩,trivial⟩
 ·exact DOk.drop (k:=5150) (d:=6) (v:=vL 3 encValue (l0++([r1.1]:List Value))) (av:= .c (oC 5150 3 (l0++([r1.1]:List Value)))) rfl (fun r hr=>zaa (e:=27) (es:=3) (encValue) l0 ([r1.1]:List Value) rfl rfl (by kernel_rfl) rfl rfl (.of 27 32 [.d (.bool false),.d (dI 0),.d (.str (bs []))] (by kernel_rfl) (by kernel_rfl) (by kernel_rfl) (by kernel_rfl) rfl (by kernel_rfl) rfl) rfl rfl rfl (.own rfl (by simp) rfl (z86 (encValue) ([r1.1]:List Value) _)) hc2) (by kernel_rfl) (by kernel_rfl) (by kernel_rfl) (by kernel_rfl)
 ·exact DOk.step (.turn 5000 (.box [oC 5150 3 (l0++([r1.1]:List Value))])) (fun r=>by kernel_rfl) (fun r=>by kernel_rfl) trivial (by kernel_rfl) (by kernel_rfl) (fun r=>rfl)
 cases h;exact RetAt.k
theorem z1s {fuel:Nat}{p1:Int}{l0:Taker}{l1:List Value}{q:Taker×(List Value)}(h:z0c fuel p1 l0 l1=some q):
 Summ Try.prog 62 [.c (.ptr 5000 0),cD (dU p1),.c (.clo 63 0 [.ptr 5100 0,.ptr 5300 0])] [(5000,.box (cTaker l0)),(5100,.box [oC 5200 3 l1]),(5200,vL 3 encValue l1),(5300,.box [.ptr 5000 0])] (.tup []) [(5000,.box (cTaker q.1)),(5250,vL 3 encValue q.2),(5100,.box [oC 5250 3 q.2]),(5300,.box [.ptr 5000 0])]:=by
 refine Summ.i Try.func62 rfl [5250] fun w0 G0 V LL φ0=>?_;unfold z0c at h;refine Tri.rename 5200 5250 ⟨[(0,.c (.ptr 5000 0)),(1,cD (dU p1)),(2,.c (.clo 63 0 [.ptr 5100 0,.ptr 5300 0]))],[(5000,.box (cTaker l0)),(5100,.box [oC 5250 3 l1]),(5250,vL 3 encValue l1),(5300,.box [.ptr 5000 0])]⟩ (by kernel_rfl) rfl rfl rfl ?_;refine z02 ?_;refine z04 ?_;refine At.sg 1 [0,1,2,7] [5000,5100,5250,5300] (z00 1) ?_;obtain⟨r1,hr1,h⟩:=bind_elim h;refine z3w 0 [] [.c (.ptr 5000 0)] [(5000,5000)] [0,1,2] [5100,5250,5300] (z3k hr1) (.ren rfl rfl .nil) ?_;refine At.sg 1 [0,1,2,6] [5000,5100,5250,5300] (z00 1) ?_;refine At.done rfl ?_;refine z11 (fun(a2:Taker)=>⟨[(0,.c (.ptr 5000 0)),(2,.c (.clo 63 0 [.ptr 5100 0,.ptr 5300 0])),(6,cD (dU r1.1))],[(5000,.box (cTaker a2)),(5100,.box [oC 5250 3 l1]),(5250,vL 3 encValue l1),(5300,.box [.ptr 5000 0])]⟩) h (fun a2 h=>?_) (fun j3 h=>?_)
 ·refine Tri.keep [0,2,6] [5000,5100,5250,5300] (s':=⟨[(0,.c (.ptr 5000 0)),(2,.c (.clo 63 0 [.ptr 5100 0,.ptr 5300 0])),(6,cD (dU r1.1))],[(5000,.box (cTaker a2)),(5100,.box [oC 5250 3 l1]),(5250,vL 3 encValue l1),(5300,.box [.ptr 5000 0])]⟩) (by kernel_rfl) ?_;refine zbj (fuel:=fuel) (st0:=(r1.1,a2,l1)) (fun(x:Empty) s=>False) (fun(a4:Int×Taker×(List Value))=>⟨[(0,.c (.ptr 5000 0)),(2,.c (.clo 63 0 [.ptr 5100 0,.ptr 5300 0])),(6,cD (dU a4.1))],[(5000,.box (cTaker a4.2.1)),(5100,.box [oC 5250 3 a4.2.2]),(5250,vL 3 encValue a4.2.2),(5300,.box [.ptr 5000 0])]⟩) (fun(a4:Int×Taker×(List Value))=>⟨[],[(5000,.box (cTaker a4.2.1)),(5100,.box [oC 5250 3 a4.2.2]),(5250,vL 3 encValue a4.2.2),(5300,.box [.ptr 5000 0])]⟩) h ?_ ?_ ?_
  ·intro a4 c h;refine z02 ?_;refine z11 (fun(a6:Bool)=>⟨[(0,.c (.ptr 5000 0)),(2,.c (.clo 63 0 [.ptr 5100 0,.ptr 5300 0])),(6,cD (dU a4.1)),(29,cD (.bool a6))],[(5000,.box (cTaker a4.2.1)),(5100,.box [oC 5250 3 a4.2.2]),(5250,vL 3 encValue a4.2.2),(5300,.box [.ptr 5000 0])]⟩) h (fun a6 h=>?_) (fun j7 h=>?_)
   ·refine z0f h (fun h=>?_) (fun h=>?_)
    ·refine Tri.skip ?_;refine z02 ?_;refine z5h ?_;refine z04 ?_;refine At.sg 1 [0,2,6,32] [5000,5100,5250,5300] (z00 1) ?_;obtain⟨r8,hr8,h⟩:=bind_elim h;refine z3w 0 [.ptr 5100 0,.ptr 5300 0] [.c (.ptr 5100 0),.c (.ptr 5300 0)] [(5000,5100),(5100,5250),(5150,5250),(5200,5300),(5300,5000)] [0,2,6] [] (z3l hr8) (.ren rfl rfl (.ren rfl rfl .nil)) ?_;refine At.done rfl ?_;refine z04 ?_;refine At.sg 3 [0,2,6] [5000,5100,5250,5300] (z00 3) ?_;refine At.done rfl ?_;cases h;exact kr
    ·refine Tri.kp [] [5000,5100,5250,5300] ?_;refine Tri.exit ?_;cases h;exact⟨rfl,kr⟩
   ·refine z04 ?_;refine At.sg 3 [0,2,6,23] [5000,5100,5250,5300] (z00 3) ?_;refine At.cs [23] h (fun h=>?_) (fun h=>?_)
    ·refine At.sg 6 [0,2,6,29] [5000,5100,5250,5300] (z00 6) ?_;refine At.done rfl ?_;exact⟨_,h,kr⟩
    ·refine At.sg 6 [0,2,6,29] [5000,5100,5250,5300] (z00 1) ?_;refine At.done rfl ?_;exact⟨_,h,kr⟩
  ·intro a5 h;cases h;exact RetAt.k
  ·exact fun x=>x.elim
 ·refine z04 ?_;refine At.sg 6 [0,1,2,6,9,14] [5000,5100,5250,5300] (z00 6) ?_;refine At.cs [14] h (fun h=>?_) (fun h=>?_)
  ·refine At.sg 7 [0,2,6] [5000,5100,5250,5300] (z00 4) ?_;refine At.done rfl ?_;exact⟨_,h,kr⟩
  ·refine At.sg 7 [0,2,6] [5000,5100,5250,5300] (z00 7) ?_;refine At.done rfl ?_;exact⟨_,h,kr⟩
theorem z3u {fuel:Nat}{l0:Taker}{q:(List Value)×Taker}(h:z1h fuel l0=some q):
 Summ Try.prog 48 [.c (.ptr 5000 0)] [(5000,.box (cTaker l0))] (cD (lD 3 encValue q.1)) [(5000,.box (cTaker q.2))]:=by
 refine Summ.i Try.func48 rfl [] fun w0 G0 V LL φ0=>?_;unfold z1h at h;refine Tri.sg [1,2] [1,2,5000] (z00 2) ?_;refine z02 ?_;refine z04 ?_;refine At.sg 1 [1,2,3] [1,2,5000] (z00 1) ?_;refine At.seg 1 [4,1,2,3] [1,2,5000] (s':=⟨[(4,.c (.clo 63 0 [.ptr 2 0,.ptr 1 0])),(1,.c (.ptr 1 0)),(2,.c (.ptr 2 0)),(3,.c (.ptr 5000 0))],[(1,.box [.ptr 5000 0]),(2,.box [.zero]),(5000,.box (cTaker l0))]⟩) (by kernel_rfl) (z00 1) ?_;obtain⟨r1,hr1,h⟩:=bind_elim h;refine At.newOwnB (j:=2) (i:=0) (k:=20032) (es:=3) (fun i=>encValue (([]:List Value).getD i zzd)) rfl rfl rfl rfl ?_;refine z3w 0 [] [.c (.ptr 5000 0),cD (dU 8),.c (.clo 63 0 [.ptr 2 0,.ptr 1 0])] [(5000,5000),(5100,2),(5200,20032),(5250,20032),(5300,1)] [2] [] (z1s hr1) (.ren rfl rfl (.flat (.refl _) rfl rfl (.ren rfl rfl .nil))) ?_;refine At.done rfl ?_;refine Tri.sg [2] [2,5000,20032] (z00 2) ?_;refine Tri.keep [2] [2,5000,20032] (s':=⟨[(2,.c (.ptr 2 0))],[(2,.box [oC 20032 3 r1.2]),(5000,.box (cTaker r1.1)),(20032,vL 3 encValue r1.2)]⟩) (by kernel_rfl) ?_;refine Tri.l [20032] ⟨[(2,.c (.ptr 2 0))],[(2,.box [.d (lD 3 encValue r1.2)]),(5000,.box (cTaker r1.1))]⟩ ⟨⟨_,rfl,.refl _⟩,trivial⟩ ⟨⟨_,rfl,.box (.cons (CLe.frozen (encValue) r1.2 rfl (by simp)) .nil),(by simp)⟩,⟨_,rfl,.refl _,(by simp)⟩,trivial⟩ ?_;refine Tri.ret ?_;cases h;exact RetAt.k
theorem z45 {fuel:Nat}{p0:ByteArray}{q:(List Value)×ByteArray×Int}(h:z2i fuel p0=some q):
 Summ Try.prog 26 [cD (.str p0)] [] (.tup [(false,[.d (lD 3 encValue q.1)]),(false,[.d (.str q.2.1)]),(false,[.d (dI q.2.2)])]) []:=by
 refine Summ.i Try.func26 rfl [] fun w0 G0 V LL φ0=>?_;unfold z2i at h;refine Tri.sg [0] [] (z00 3) ?_;refine Tri.sg [5] [9] (z00 4) ?_;refine z02 ?_;refine z04 ?_;refine At.sg 1 [5,10] [9] (z00 1) ?_;obtain⟨r1,hr1,h⟩:=bind_elim h;refine z3w 0 [] [.c (.ptr 9 0)] [(5000,9)] [5] [] (z3u hr1) (.ren rfl rfl .nil) ?_;refine At.sg 1 [5,6] [9] (z00 1) ?_;refine At.done rfl ?_;refine z02 ?_;refine Tri.sg [5,6,15] [9] (z00 4) ?_;refine z0f h (fun h=>?_) (fun h=>?_)
 ·refine Tri.sg [2,3,4] [] (z00 3) ?_;refine Tri.keep [2,3,4] [] (s':=⟨[(2,.c (.zero)),(3,cD (.str (bs []))),(4,cD (dI 4))],[]⟩) (by kernel_rfl) ?_;refine Tri.l [] ⟨[(2,cD (lD 3 encValue ([]:List Value))),(3,cD (.str (bs []))),(4,cD (dI 4))],[]⟩ ⟨⟨_,rfl,.c (.zero _ _)⟩,⟨_,rfl,.refl _⟩,⟨_,rfl,.refl _⟩,trivial⟩ trivial ?_;refine Tri.ret ?_;cases h;exact RetAt.k
 ·refine Tri.skip ?_;refine z02 ?_;refine z6b [.a [6] [],.a [5] [],.a [17] [],.a [18] [],.a [19] [9],.a [16] [],.a [20] [],.a [] []] [2,3,4] [] (z00 8) (.a (.a (.a (.a (.a (.a (.a (.a .z)))))))) ?_;refine Tri.ret ?_;cases h;exact RetAt.k
theorem z67 {p0:Int}{q:Value}(h:z38 p0=some q):
 Summ Try.prog 29 [cD (dI p0)] [] (.agg (cValue q)) []:=by
 refine Summ.i Try.func29 rfl [] fun w0 G0 V LL φ0=>?_;unfold z38 at h;refine Tri.sg [0,2] [2] (z00 1) ?_;refine Tri.sg [2] [2] (z00 3) ?_;refine Tri.ret ?_;cases h;exact RetAt.k
theorem z5n {p0:ByteArray}{q:Value}(h:z2y p0=some q):
 Summ Try.prog 30 [cD (.str p0)] [] (.agg (cValue q)) []:=by
 refine Summ.i Try.func30 rfl [] fun w0 G0 V LL φ0=>?_;unfold z2y at h;refine Tri.sg [0,2] [2] (z00 1) ?_;refine Tri.sg [2] [2] (z00 3) ?_;refine Tri.ret ?_;cases h;exact RetAt.k
theorem z5a {fuel:Nat}{q:Bool}(h:z27 fuel=some q):
 Summ Try.prog 28 [] [] (cD (.bool q)) []:=by
 refine Summ.i Try.func28 rfl [] fun w0 G0 V LL φ0=>?_;unfold z27 at h;refine z7c [] [] ⟨[],[]⟩ _ (by kernel_rfl) (z00 1) ?_;refine z02 ?_;refine z04 ?_;obtain⟨r1,hr1,h⟩:=bind_elim h;refine At.cA [] [cD (dI 1)] (z67 hr1) (.cons (.refl _) .nil) ?_;obtain⟨r2,hr2,h⟩:=bind_elim h;refine At.cA [] [cD (.str (bs [97]))] (z5n hr2) (.cons (.refl _) .nil) ?_;refine At.one rfl (One.buildSlice (z:=[.d (.bool false),.d (dI 0),.d (.str (bs []))]) (cells:=[.d (.bool r1.isText),.d (dI r1.n),.d (.str r1.s),.d (.bool r2.isText),.d (dI r2.n),.d (.str r2.s)]) (xs:=List.map (encValue) ([r1,r2]:List Value)) rfl rfl rfl rfl (by kernel_rfl) rfl rfl (by kernel_rfl) rfl rfl rfl (by kernel_rfl) rfl ⟨⟨rfl,.refl _⟩,⟨rfl,.refl _⟩,trivial⟩) ?_;refine At.l [9] ⟨[(9,cD (lD 3 encValue ([r1,r2]:List Value))),(7,.agg (cValue r1)),(8,.agg (cValue r2))],[]⟩ ⟨⟨_,rfl,.c (.own rfl (List.mem_singleton.2 rfl) (zz8 rfl) rfl (z6j (encValue) ([r1,r2]:List Value)))⟩,⟨_,rfl,.refl _⟩,⟨_,rfl,.refl _⟩,trivial⟩ trivial ?_;obtain⟨r3,hr3,h⟩:=bind_elim h;refine At.cA [] [cD (lD 3 encValue ([r1,r2]:List Value))] (z4y hr3) (.cons (.refl _) .nil) ?_;refine At.sg 5 [1,2] [] (z00 5) ?_;refine At.done rfl ?_;refine z02 ?_;refine z04 ?_;obtain⟨hc4,h⟩:=z0g h;refine At.sg 2 [1,2,15] [] (tN 1 (ai hc4 trivial)) ?_;obtain⟨r5,hr5,h⟩:=bind_elim h;refine At.cA [] [cD (.str (r3.1++(bs [120])))] (z45 hr5) (.cons (.refl _) .nil) ?_;refine At.sg 7 [1,2,3,4,5] [] (z00 7) ?_;refine At.done rfl ?_;refine z11 (fun(a6:Bool)=>⟨[(0,cD (.bool a6))],[]⟩) h (fun a6 h=>?_) (fun j7 h=>?_)
 ·refine Tri.ret ?_;cases h;exact RetAt.k
 ·refine z04 ?_;refine At.sg 3 [2,3,4,5,22] [] (z00 3) ?_;refine At.cs [22] h (fun h=>?_) (fun h=>?_)
  ·refine At.sg 4 [3,4,5,26] [] (z00 4) ?_;refine At.cs [26] h (fun h=>?_) (fun h=>?_)
   ·refine At.sg 5 [4,5,31] [] (z00 5) ?_;refine At.cs [31] h (fun h=>?_) (fun h=>?_)
    ·refine At.sg 4 [5,35] [] (z00 4) ?_;refine At.cs [35] h (fun h=>?_) (fun h=>?_)
     ·refine At.sg 4 [0] [] (z00 4) ?_;refine At.done rfl ?_;exact⟨_,h,kr⟩
     ·refine At.sg 4 [0] [] (z00 2) ?_;refine At.done rfl ?_;exact⟨_,h,kr⟩
    ·refine At.sg 8 [0] [] (z00 4) ?_;refine At.done rfl ?_;exact⟨_,h,kr⟩
   ·refine At.sg 13 [0] [] (z00 6) ?_;refine At.done rfl ?_;exact⟨_,h,kr⟩
  ·refine At.sg 17 [0] [] (z00 8) ?_;refine At.done rfl ?_;exact⟨_,h,kr⟩
theorem z5o {p0:List Value}{p1:List Value}{q:Bool}(h:z1m p0 p1=some q):
 Summ Try.prog 18 [cD (lD 3 encValue p0),cD (lD 3 encValue p1)] [] (cD (.bool q)) []:=by
 refine Summ.i Try.func18 rfl [] fun w0 G0 V LL φ0=>?_;unfold z1m at h;refine Tri.sg [0,1] [] (z00 1) ?_;refine z02 ?_;refine Tri.sg [0,1,10] [] (z00 5) ?_;refine z0f h (fun h=>?_) (fun h=>?_)
 ·refine Tri.sg [4] [] (z00 1) ?_;refine Tri.ret ?_;cases h;exact RetAt.k
 ·refine Tri.skip ?_;refine z02 ?_;refine Tri.sg [0,1,12,13] [] (z00 3) ?_;refine Tri.ln 0 p0.length fun hlena2=>?_;refine z7l 13 () (fun(x:Bool) s=>RetAt Try.prog Try.f18 (cD (.bool x)) [] s) (fun(a2:Unit)=>⟨[(0,cD (lD 3 encValue p0)),(1,cD (lD 3 encValue p1)),(12,cD (dI (p0.length:Int)))],[]⟩) [13,0,1,12] [] [14,13,0,1,12] [] [0,1,12] [] [13,0,1,12] [] h hlena2 ?_ ?_ ?_
  ·intro i1 a2 c hii1 h;refine Tri.sg [0,1,5,12,13] [] (z00 2) ?_;refine z02 ?_;obtain⟨hc4,h⟩:=z0g h;refine z6b [.a [0] [],.a [5] [],.a [16,17] [],.a [18] [],.a [1] [],.a [5] [],.a [20,21] [],.a [22] [],.m ⟨[(19,.agg (cValue (p0.getD i1 zzd))),(23,.agg (cValue (p1.getD i1 zzd)))],[]⟩ ⟨[(24,cD (.bool (!(z3a (p0.getD i1 zzd) (p1.getD i1 zzd)))))],[]⟩ [] [] []] [0,1,12,13,24] [] (tN 2 (ai (show((0:Int)≤((i1:Nat):Int)∧((i1:Nat):Int)<(p0.length:Int))from⟨by omega,by omega⟩) (tN 3 (ai hc4 (z00 1))))) (.a (.a (.a (.a (.a (.a (.a (.a (.m ?_ .z))))))))) ?_
   ·exact DOk.one fun r _=>One.eql (b:=(z3a (p0.getD i1 zzd) (p1.getD i1 zzd))) (d:=9) rfl (by kernel_rfl) rfl (.inr rfl) rfl rfl (by kernel_rfl) rfl (by kernel_rfl)
   refine z0f h (fun h=>?_) (fun h=>?_)
   ·refine Tri.sg [4] [] (z00 1) ?_;refine Tri.ret ?_;cases h;exact RetAt.k
   ·refine Tri.kp [13,0,1,12] [] ?_;refine Tri.skip ?_;cases h;exact kr
  ·intro a3 h;refine Tri.sg [4] [] (z00 1) ?_;refine Tri.ret ?_;cases h;exact RetAt.k
  ·exact fun x s hx hr=>by cases hx;exact hr
end Go.Av
namespace Go.Av
open Go Go.Proofs
theorem z46 {fuel:Nat}{p0:List Value}{p1:ByteArray}{p2:Int}{q:Bool}(h:z1a fuel p0 p1 p2=some q):
 Summ Try.prog 10 [cD (lD 3 encValue p0),cD (.str p1),cD (dI p2)] [] (cD (.bool q)) []:=by
 refine Summ.i Try.func10 rfl [] fun w0 G0 V LL φ0=>?_;unfold z1a at h;refine Tri.sg [0,1,2] [] (z00 1) ?_;refine z02 ?_;refine z02 ?_;refine z04 ?_;obtain⟨r1,hr1,h⟩:=bind_elim h;refine At.cA [] [] (z5a hr1) .nil ?_;refine At.sg 1 [0,1,2,16] [] (z00 1) ?_;refine At.done rfl ?_;refine z0f h (fun h=>?_) (fun h=>?_)
 ·refine Tri.sg [6] [] (z00 1) ?_;refine Tri.ret ?_;cases h;exact RetAt.k
 ·refine Tri.skip ?_;refine z02 ?_;refine z04 ?_;refine At.sg 1 [0,1,2,18] [] (z00 1) ?_;obtain⟨r2,hr2,h⟩:=bind_elim h;refine At.cA [] [cD (lD 3 encValue p0)] (z4y hr2) (.cons (.refl _) .nil) ?_;refine At.sg 5 [0,1,2,7,8] [] (z00 5) ?_;refine At.done rfl ?_;refine z02 ?_;refine Tri.sg [0,1,2,7,8,23] [] (z00 2) ?_;refine z0f h (fun h=>?_) (fun h=>?_)
  ·refine z11 (fun(a3:Bool)=>⟨[(6,cD (.bool a3))],[]⟩) h (fun a3 h=>?_) (fun j4 h=>?_)
   ·refine Tri.ret ?_;cases h;exact RetAt.k
   ·refine z04 ?_;refine At.sg 3 [0,8,26] [] (z00 3) ?_;refine At.cs [26] h (fun h=>?_) (fun h=>?_)
    ·refine At.sg 1 [8,26,27] [] (z00 1) ?_;obtain⟨r5,hr5,h⟩:=bind_elim h;refine At.cA [] [cD (lD 3 encValue p0)] (value_Check_ok hr5) (.cons (.refl _) .nil) ?_;refine At.sg 4 [6] [] (z00 4) ?_;refine At.done rfl ?_;exact⟨_,h,kr⟩
    ·refine At.sg 6 [6] [] (z00 2) ?_;refine At.done rfl ?_;exact⟨_,h,kr⟩
  ·refine Tri.skip ?_;refine z02 ?_;refine z04 ?_;obtain⟨hc6,h⟩:=z0g h;refine At.sg 3 [0,1,2,7,35] [] (tN 2 (ai hc6 trivial)) ?_;obtain⟨r7,hr7,h⟩:=bind_elim h;refine At.cA [] [cD (.str (r2.1++p1))] (z45 hr7) (.cons (.refl _) .nil) ?_;refine At.sg 7 [0,1,2,7,9,10,11] [] (z00 7) ?_;refine At.done rfl ?_;refine z02 ?_;refine z11 (fun(a8:Bool)=>⟨[(2,cD (dI p2)),(7,cD (.str r2.1)),(52,cD (.bool a8))],[]⟩) h (fun a8 h=>?_) (fun j9 h=>?_)
   ·refine z0f h (fun h=>?_) (fun h=>?_)
    ·refine Tri.sg [6] [] (z00 1) ?_;refine Tri.ret ?_;cases h;exact RetAt.k
    ·refine Tri.skip ?_;refine z02 ?_;refine z11 (fun(a10:Bool)=>⟨[(2,cD (dI p2)),(7,cD (.str r2.1)),(60,cD (.bool a10))],[]⟩) h (fun a10 h=>?_) (fun j11 h=>?_)
     ·refine z0f h (fun h=>?_) (fun h=>?_)
      ·refine Tri.sg [6] [] (z00 1) ?_;refine Tri.ret ?_;cases h;exact RetAt.k
      ·refine Tri.skip ?_;refine z02 ?_;refine z04 ?_;obtain⟨hc12,h⟩:=z0g h;refine At.sg 3 [64] [] (tN 2 (ai hc12 trivial)) ?_;obtain⟨r13,hr13,h⟩:=bind_elim h;refine At.cA [] [cD (.str (r2.1.extract 0 p2.toNat))] (z45 hr13) (.cons (.refl _) .nil) ?_;refine At.sg 7 [14] [] (z00 7) ?_;refine At.done rfl ?_;refine Tri.sg [6] [] (z00 3) ?_;refine Tri.ret ?_;cases h;exact RetAt.k
     ·refine z04 ?_;refine At.sg 3 [2,7,55] [] (z00 3) ?_;refine At.cs [55] h (fun h=>?_) (fun h=>?_)
      ·refine At.sg 5 [2,7,60] [] (z00 1) ?_;refine At.done rfl ?_;exact⟨_,h,kr⟩
      ·refine At.sg 5 [2,7,60] [] (z00 5) ?_;refine At.done rfl ?_;exact⟨_,h,kr⟩
   ·refine z04 ?_;refine At.sg 3 [0,1,2,7,9,10,42] [] (z00 3) ?_;refine At.cs [42] h (fun h=>?_) (fun h=>?_)
    ·refine At.sg 10 [2,7,52] [] (z00 3) ?_;refine At.done rfl ?_;exact⟨_,h,kr⟩
    ·refine At.sg 5 [0,2,7,9,47] [] (z00 5) ?_;refine At.cs [47] h (fun h=>?_) (fun h=>?_)
     ·refine At.sg 5 [2,7,52] [] (z00 1) ?_;refine At.done rfl ?_;exact⟨_,h,kr⟩
     ·refine At.sg 2 [2,7,47,48,49] [] (z00 2) ?_;obtain⟨r14,hr14,h⟩:=bind_elim h;refine At.cA [] [cD (lD 3 encValue r7.1),cD (lD 3 encValue p0)] (z5o hr14) (.cons (.refl _) (.cons (.refl _) .nil)) ?_;refine At.sg 2 [2,7,52] [] (z00 2) ?_;refine At.done rfl ?_;exact⟨_,h,kr⟩
end Go.Av
namespace Go.Av
open Go Go.Proofs
def z70 (x:Value):Prop:=(fun _=>True) x.isText∧(okInt .i64) x.n∧(fun s=>s.size≤maxN) x.s∧True
def z6f (x:Value):Nat:=((fun _=>1) x.isText+((fun _=>1) x.n+((fun s=>s.size+1) x.s+0)))+1
theorem zba {H:Type}{enc:TypeId×Go.Value→H}{W:World}{Z:TypeId→DataW H→Prop}{B:DataW H→Nat}(hZ:Fine Try.prog Z)(hB:BulkOk B):Reads enc Try.prog W Z B 27 encValue z70 z6f:=fun n=>by
 have h:=z0k.struct (n:=n) (enc:=enc) (W:=W) (tot:=3) hZ hB Try.underlying27 (by kernel_rfl) (fun m _=>(z31.cons (k:=1) (z0k.bool hB Try.underlying4) rfl (by kernel_rfl) (z31.cons (k:=1) (z0k.int hB Try.underlying2) rfl (by kernel_rfl) (z31.cons (k:=1) (z0k.string hZ hB Try.underlying9) rfl (by kernel_rfl) (z31.nil (off:=3))))));exact h.map (fun(p:Bool×Int×ByteArray×Unit)=>(⟨p.1,p.2.1,p.2.2.1⟩:Value)) (fun _ _=>rfl) (fun _ h=>h) (fun _ _=>Nat.le_refl _)
end Go.Av
/-
 Orders,as comparisons with three answers:without any program.
-/
namespace Go.Av
open Go
structure IsCmp {α:Type} (c:α→α→Int):Prop where
 vals: ∀a b,c a b= -1∨c a b=0∨c a b=1
 anti: ∀a b,c b a= - c a b
 tr: ∀a b d,c a b≤0→c b d≤0→c a d≤0
namespace IsCmp
variable {α β:Type} {c:α→α→Int}
theorem refl (h:IsCmp c)(a:α):c a a=0:=by have:=h.anti a a;omega
theorem lt_tr (h:IsCmp c){a b d:α}(h1:c a b<0)(h2:c b d≤0):c a d<0:=by
 have:=h.tr a b d (by omega) h2;rcases h.vals a d with g|g|g
 ·omega
 ·have g1:=h.anti a d;have g2:=h.tr b d a h2 (by omega)
  have g3:=h.anti a b;omega
 ·omega
theorem eqL (h:IsCmp c){a b:α}(d:α)(h1:c a b=0):c a d=c b d:=by
 have h2:=h.anti a b;have t1:=h.tr a b d (by omega)
 have t2:=h.tr b a d (by omega);have t3:=h.tr d a b
 have t4:=h.tr d b a;have a1:=h.anti a d
 have a2:=h.anti b d;rcases h.vals a d with g|g|g<;>rcases h.vals b d with k|k|k<;>omega
theorem eqR (h:IsCmp c){a b:α}(d:α)(h1:c a b=0):c d a=c d b:=by
 have:=h.eqL d h1;have a1:=h.anti a d
 have a2:=h.anti b d;omega
theorem on (h:IsCmp c)(f:β→α):IsCmp fun x y=>c (f x) (f y):=⟨fun a b=>h.vals _ _,fun a b=>h.anti _ _,fun a b d=>h.tr _ _ _⟩
end IsCmp
def thenC (u v:Int):Int:=if u=0 then v else u
def cmpL {α:Type}(c:α→α→Int):List α→List α→Int
 |[],[]=>0
 |[],_::_=> -1
 |_::_,[]=>1
 |a::x,b::y=>thenC (c a b) (cmpL c x y)
theorem IsCmp.list {α:Type}{c:α→α→Int}(h:IsCmp c):IsCmp (cmpL c) where
 vals:=by
  intro a;induction a with
  |nil=>intro b;cases b<;>simp[cmpL]
  |cons x a ih=>
   intro b;cases b with
   |nil=>simp[cmpL]
   |cons y b=>
    simp only[cmpL,thenC];split
    ·exact ih b
    ·exact h.vals x y
 anti:=by
  intro a;induction a with
  |nil=>intro b;cases b<;>simp[cmpL]
  |cons x a ih=>
   intro b;cases b with
   |nil=>simp[cmpL]
   |cons y b=>
    have h1:=h.anti x y;have h2:=ih b
    simp only[cmpL,thenC];split<;>split<;>omega
 tr:=by
  intro a;induction a with
  |nil=>intro b d _ _;cases d<;>simp[cmpL]
  |cons x a ih=>
   intro b d h1 h2;cases b with
   |nil=>simp[cmpL]at h1
   |cons y b=>
    cases d with
    |nil=>simp[cmpL]at h2
    |cons z d=>
     simp only[cmpL]at*;unfold thenC at*;by_cases g1:c x y=0<;>by_cases g2:c y z=0
     ·have:=h.eqL z g1;rw[if_pos g1]at h1;rw[if_pos g2]at h2;rw[if_pos (by omega)];exact ih b d h1 h2
     ·have:=h.eqL z g1;rw[if_neg g2]at h2;rw[if_neg (by omega)];omega
     ·have:=h.eqR x g2;rw[if_neg g1]at h1;rw[if_neg (by omega)];omega
     ·rw[if_neg g1]at h1;rw[if_neg g2]at h2;have:=h.lt_tr (a:=x) (b:=y) (d:=z) (by omega) h2
      rw[if_neg (by omega)];omega
theorem z5v (a:ByteArray):strEq a a=true:=by unfold strEq;simp
theorem z9c {a b:ByteArray}(h:a.toList=b.toList):a=b:=by
 rw[ByteArray.toList_eq,ByteArray.toList_eq]at h;cases a;cases b;simp at h;simp[h]
theorem z6t {a b:ByteArray}:strEq a b=true↔a=b:=by
 unfold strEq;rw[beq_iff_eq];exact⟨z9c,fun h=>by rw[h]⟩
theorem z3t {α:Type}[Inhabited α]{l:List α}{i:Nat}(h:i<l.length):l.drop i=l.getD i zzd::l.drop (i+1):=by
 rw[List.drop_eq_getElem_cons h,List.getD_eq_getElem?_getD,List.getElem?_eq_getElem h];rfl
end Go.Av
namespace Go.Av
open Go
def z1q (v:Value):Bool:=if v.isText then decide (v.n=0) && decide (v.s.size≤64)else strEq v.s (bs [])
def okRow (p:List Value):Bool:=decide (p.length≤8) && p.all z1q
theorem za2 (v:Value):z2m v=some (z1q v):=by
 unfold z2m z1q;have e:((v.s.size:Int)≤64)↔v.s.size≤64:=by omega
 cases v.isText<;>by_cases h:v.n=0<;>simp[h,e]
theorem zb8 {S R X:Type}[Inhabited X]{B:Nat→S→Option (Ctl S R)}{l:List X}(P:X→Bool)(f:Nat→R){s:S}
 (hB: ∀i,i<l.length→B i s=if P (l.getD i zzd)then some (.ret (f i))else some (.next s)):
 (l.any P=false∧z12 B l.length 0 s=some (.done s))∨(l.any P=true∧ ∃i,i<l.length∧P (l.getD i zzd)=true∧z12 B l.length 0 s=some (.ret (f i))):=by
 have key: ∀k i,i+k=l.length→((l.drop i).any P=false∧z12 B k i s=some (.done s))∨((l.drop i).any P=true∧ ∃j,j<l.length∧P (l.getD j zzd)=true∧z12 B k i s=some (.ret (f j))):=by
  intro k;induction k with
  |zero=>intro i hi;left;rw[List.drop_eq_nil_of_le (by omega:l.length≤i)];exact⟨rfl,rfl⟩
  |succ k ih=>
   intro i hi;rw[z3t (by omega:i<l.length)];simp only[z12,hB i (by omega),List.any_cons];by_cases h:P (l.getD i zzd)=true
   ·rw[if_pos h];right;exact⟨by rw[h];rfl,i,by omega,h,rfl⟩
   ·rw[if_neg h];have hf:P (l.getD i zzd)=false:=by simpa using h
    rw[hf,Bool.false_or];exact ih (i+1) (by omega)
 have:=key l.length 0 (by omega);rwa[List.drop_zero]at this
theorem z5z (p:List Value):(p.any fun v=> !z1q v)= !(p.all z1q):=by
 rw[List.any_eq_not_all_not];simp
theorem z66 (p:List Value):value_Check p=some (if okRow p then 0 else 4):=by
 unfold value_Check z03 z06 z36 okRow;simp only[jn_eq,z2o,za2,zz3];by_cases h:8<(p.length:Int)
 ·rw[if_pos h,decide_eq_false (by omega: ¬p.length≤8)];rfl
 ·rw[if_neg h,decide_eq_true (by omega:p.length≤8)];rcases zb8 (S:=Unit) (R:=Int) (l:=p) (fun v=> !z1q v) (fun i=>(i:Int)) (s:=()) (B:=fun i1 a2=>bf (!z1q (p.getD i1 zzd)) (some (.ret ((i1:Nat):Int))) (some (.next ()))) (fun i hi=>by
   cases z1q (p.getD i zzd)<;>rfl)with⟨h1,h2⟩|⟨h1,i,_,_,h2⟩
  ·rw[h2];rw[z5z]at h1;have:p.all z1q=true:=by simpa using h1
   simp[this]
  ·rw[h2];rw[z5z]at h1;have:p.all z1q=false:=by simpa using h1
   simp[this,Int.natCast_nonneg]
theorem z77 {a b:Value}:z3a a b=true↔a=b:=by
 rcases a with⟨t,n,s⟩;rcases b with⟨t',n',s'⟩;simp[z3a,z6t]
theorem zcx (a b:List Value): ∃r,z1m a b=some r∧(r=true↔a=b):=by
 unfold z1m;by_cases hl:a.length=b.length
 ·rw[decide_eq_true (by omega:(a.length:Int)=(b.length:Int))];simp only[Bool.not_true,z0p];have key: ∀k i,i+k=a.length→ ∃r,outK (z12 (S:=Unit) (R:=Bool) (fun i1 (a2:Unit)=>need ((0:Int)≤((i1:Nat):Int)∧((i1:Nat):Int)<(b.length:Int))<|bf (!(z3a (a.getD i1 zzd) (b.getD i1 zzd))) (some (.ret false)) (some (.next ()))) k i ()) (fun(a3:Unit)=>some true) (fun x=>some x)=some r∧(r=true↔a.drop i=b.drop i):=by
   intro k;induction k with
   |zero=>
    intro i hi;refine⟨true,rfl,?_⟩;rw[List.drop_eq_nil_of_le (by omega:a.length≤i),List.drop_eq_nil_of_le (by omega:b.length≤i)];simp
   |succ k ih=>
    intro i hi;simp only[z12];rw[z0j (by omega),z3t (by omega:i<a.length),z3t (by omega:i<b.length)];by_cases he:z3a (a.getD i zzd) (b.getD i zzd)=true
    ·rw[he];obtain⟨r,h1,h2⟩:=ih (i+1) (by omega);refine⟨r,h1,?_⟩;rw[h2,z77.1 he];simp
    ·have he':z3a (a.getD i zzd) (b.getD i zzd)=false:=by simpa using he
     rw[he'];refine⟨false,rfl,?_⟩;simp only[Bool.false_eq_true,false_iff,List.cons.injEq,not_and];intro h;exact absurd (z77.2 h) he
  obtain⟨r,h1,h2⟩:=key a.length 0 (by omega);exact⟨r,h1,by simpa using h2⟩
 ·rw[decide_eq_false (by omega: ¬(a.length:Int)=(b.length:Int))];exact⟨false,rfl,by simp;intro h;exact hl (by rw[h])⟩
theorem zc3 (a:List Value):z1m a a=some true:=by
 obtain⟨r,h1,h2⟩:=zcx a a;rw[h1,h2.2 rfl]
theorem zbl {s:ByteArray}:strEq s (bs [])=true↔s=bs []:=z6t
theorem z91 {p:List Value}(h:okRow p=true):p.all z1q=true∧p.length≤8:=by
 unfold okRow at h;simp only[Bool.and_eq_true,decide_eq_true_eq]at h;exact⟨h.2,h.1⟩
end Go.Av
/-
 Numbers and bits:without any program.
-/
namespace Go.Av
open Go
theorem z2v (n:Int):zzu.wrap n=n % 18446744073709551616:=by simp[IntKind.wrap,IntKind.bits,IntKind.signed]
theorem zd3 (n:Int):IntKind.u8.wrap n=n % 256:=by simp[IntKind.wrap,IntKind.bits,IntKind.signed]
theorem za7 (n:Int):zzi.wrap n=if n % 18446744073709551616≥9223372036854775808 then n % 18446744073709551616-18446744073709551616 else n % 18446744073709551616:=by
 simp[IntKind.wrap,IntKind.bits,IntKind.signed]
def in64 (x:Int):Prop:= -9223372036854775808≤x∧x<9223372036854775808
theorem z40 {x:Int}(h:in64 x):zzi.wrap x=x:=by
 unfold in64 at h;rw[za7];split<;>omega
theorem shr63 {x:Int}(h:in64 x):shrOp .i64 x 63=if x<0 then -1 else 0:=by
 unfold in64 at h;unfold shrOp;have e:(2:Int)^(min (63:Int).toNat zzi.bits)=9223372036854775808:=by decide
 rw[e,Int.fdiv_eq_ediv_of_nonneg _ (by decide)];split<;>omega
theorem z5c (k:IntKind)(n m:Nat)(hm:m≤k.bits):shrOp k (n:Int) (m:Int)=((n / 2^m:Nat):Int):=by
 unfold shrOp;rw[Int.toNat_natCast,Nat.min_eq_left hm,Int.fdiv_eq_ediv_of_nonneg _ (by exact Int.le_of_lt (Int.pow_pos (by decide)))]
 push_cast
 rfl
theorem z1z {w:Nat}(n:Nat)(h:n<2^w):(BitVec.ofInt w (n:Int)).toNat=n:=by
 rw[BitVec.toNat_ofInt];have e:((n:Int) % ((2^w:Nat):Int))=(n:Int):=Int.emod_eq_of_lt (by omega) (by exact_mod_cast h);rw[e,Int.toNat_natCast]
theorem uwrap {k:IntKind}(hs:k.signed=false){n:Nat}(h:n<2^k.bits):k.wrap (n:Int)=(n:Int):=by
 unfold IntKind.wrap;simp only[hs,Bool.false_and,Bool.false_eq_true,if_false];have:((2:Int)^k.bits)=((2^k.bits:Nat):Int):=by push_cast;rfl
 rw[this];exact Int.emod_eq_of_lt (by omega) (by exact_mod_cast h)
theorem zat {k:IntKind}(hs:k.signed=false){x y:Nat}(hx:x<2^k.bits)(hy:y<2^k.bits):z05 .xor k (x:Int) (y:Int)=((x^^^y:Nat):Int):=by
 unfold z05;simp only;rw[BitVec.toNat_xor,z1z x hx,z1z y hy,uwrap hs (Nat.xor_lt_two_pow hx hy)]
theorem zdf {k:IntKind}(hs:k.signed=false){x y:Nat}(hx:x<2^k.bits)(hy:y<2^k.bits):z05 .or k (x:Int) (y:Int)=((x|||y:Nat):Int):=by
 unfold z05;simp only;rw[BitVec.toNat_or,z1z x hx,z1z y hy,uwrap hs (Nat.or_lt_two_pow hx hy)]
theorem zcs {k:IntKind}(hs:k.signed=false){x y:Nat}(hx:x<2^k.bits)(hy:y<2^k.bits):z05 .and k (x:Int) (y:Int)=((x &&& y:Nat):Int):=by
 unfold z05;simp only;rw[BitVec.toNat_and,z1z x hx,z1z y hy,uwrap hs (Nat.and_lt_two_pow x hy)]
theorem zcc {k:IntKind}(hs:k.signed=false){x:Nat}(hx:x<2^k.bits)(hk:1<2^k.bits):z05 .and k (x:Int) 1=((x % 2:Nat):Int):=by
 have:=zcs hs hx hk;rw[show((1:Nat):Int)=1 from rfl]at this;rw[this,show(1:Nat)=2^1-1 from rfl,Nat.and_two_pow_sub_one_eq_mod]
theorem or128 {x:Nat}(h:x<256):z05 .or .u8 (x:Int) 128=((x % 128+128:Nat):Int):=by
 have key: ∀x:Fin 256,z05 .or .u8 (x.val:Int) 128=((x.val % 128+128:Nat):Int):=by decide+kernel
 exact key ⟨x,h⟩
theorem zbk {x:Nat}(h:x<256):z05 .and .u8 (x:Int) 127=((x % 128:Nat):Int):=by
 have key: ∀x:Fin 256,z05 .and .u8 (x.val:Int) 127=((x.val % 128:Nat):Int):=by decide+kernel
 exact key ⟨x,h⟩
theorem zde {a b i:Nat}(h:b<2^i):b|||(2^i*a)=2^i*a+b:=by
 rw[Nat.or_comm];exact(Nat.two_pow_add_eq_or_of_lt h a).symm
theorem zaq {k:IntKind}(n m:Nat)(hm:m≤k.bits):shlOp k (n:Int) (m:Int)=k.wrap ((n*2^m:Nat):Int):=by
 unfold shlOp;rw[Int.toNat_natCast,Nat.min_eq_left hm]
 push_cast
 rfl
end Go.Av
namespace Go.Av
open Go
def crcT (c:Nat):Nat:=if c % 2=1 then(c / 2)^^^2197175160 else c / 2
def iter {X:Type}(f:X→X):Nat→X→X
 |0,x=>x
 |n+1,x=>iter f n (f x)
def crcB (c b:Nat):Nat:=iter crcT 8 (c^^^b)
def crcL (l:List UInt8):Nat:=l.foldl (fun c b=>crcB c b.toNat) 4294967295
def crcS (s:ByteArray):Nat:=4294967295-crcL s.data.toList
def z08 (s:ByteArray)(i:Nat):Nat:=(s.data.toList.getD i 0).toNat
theorem z8u (s:ByteArray)(i:Nat):z08 s i<256:=UInt8.toNat_lt _
theorem z8t {s:ByteArray}{i:Nat}:bt s (i:Int)=(z08 s i:Int):=by
 unfold bt z08;rw[Int.toNat_natCast];have:s.data.getD i 0=s.data.toList.getD i 0:=by
  rw[Array.getD_eq_getD_getElem?,List.getD_eq_getElem?_getD,Array.getElem?_toList]
 rw[this]
theorem z2l (s:ByteArray):s.data.toList.length=s.size:=Array.length_toList
end Go.Av
namespace Go.Av
open Go
theorem zcw: ∀x:Fin 256,∃l:Fin 9,bt z0w (x.val:Int)=(l.val:Int)∧x.val<2^l.val∧(x.val=0→l.val=0)∧(x.val≠0→2^(l.val-1)≤x.val∧0<l.val):=by decide+kernel
def IsLen (n L:Nat):Prop:=n<2^L∧(n=0→L=0)∧(n≠0→2^(L-1)≤n∧0<L)
theorem IsLen.shift {n L s:Nat}(h:IsLen (n / 2^s) L)(hn:2^s≤n):IsLen n (L+s):=by
 obtain⟨h1,h2,h3⟩:=h;have hp:0<2^s:=Nat.pow_pos (by decide)
 have hq:n / 2^s≠0:=Nat.ne_of_gt (Nat.div_pos hn hp);obtain⟨h4,h5⟩:=h3 hq;refine⟨?_,fun h=>by omega,fun _=>⟨?_,by omega⟩⟩
 ·rw[Nat.pow_add];exact(Nat.div_lt_iff_lt_mul hp).1 h1
 ·rw[show L+s-1=(L-1)+s by omega,Nat.pow_add];exact(Nat.le_div_iff_mul_le hp).1 h4
theorem zck {n:Nat}(h:n<2^64): ∃L:Nat,z28 (n:Int)=some (L:Int)∧IsLen n L∧L≤64:=by
 have last: ∀(x b:Nat),x<256→b≤56→ ∃L:Nat,(need ((0:Int)≤(IntKind.u8.wrap (x:Int))∧(IntKind.u8.wrap (x:Int))<(z0w.size:Int))<|some (zzi.wrap ((b:Int)+(zzi.wrap (bt z0w (IntKind.u8.wrap (x:Int)))))))=some ((L+b:Nat):Int)∧IsLen x L∧L≤8:=fun x b hx hb=>by
  obtain⟨l,h1,h2,h3,h4⟩:=zcw ⟨x,hx⟩;have e:IntKind.u8.wrap (x:Int)=(x:Int):=uwrap (k:= .u8) rfl hx
  have hsz:z0w.size=256:=by decide+kernel
  rw[e,hsz,z0j (by omega),h1];have hl:=l.isLt;refine⟨l.val,?_,⟨h2,h3,h4⟩,by omega⟩;rw[z15 (n:=(l.val:Int)) (by omega) (by omega),z15 (by omega) (by omega)];exact congrArg some (by omega)
 have s8: ∀x:Nat,shrOp .u64 (x:Int) 8=((x / 2^8:Nat):Int):=fun x=>z5c .u64 x 8 (by decide);have s16: ∀x:Nat,shrOp .u64 (x:Int) 16=((x / 2^16:Nat):Int):=fun x=>z5c .u64 x 16 (by decide)
 have s32: ∀x:Nat,shrOp .u64 (x:Int) 32=((x / 2^32:Nat):Int):=fun x=>z5c .u64 x 32 (by decide);have p8: ∀(x b:Nat),x<65536→b≤48→ ∃L:Nat,bf (decide (256≤(x:Int))) (need ((0:Int)≤(IntKind.u8.wrap (shrOp .u64 (x:Int) 8))∧(IntKind.u8.wrap (shrOp .u64 (x:Int) 8))<(z0w.size:Int))<|some (zzi.wrap ((zzi.wrap ((b:Int)+8))+(zzi.wrap (bt z0w (IntKind.u8.wrap (shrOp .u64 (x:Int) 8))))))) (need ((0:Int)≤(IntKind.u8.wrap (x:Int))∧(IntKind.u8.wrap (x:Int))<(z0w.size:Int))<|some (zzi.wrap ((b:Int)+(zzi.wrap (bt z0w (IntKind.u8.wrap (x:Int)))))))=some ((L+b:Nat):Int)∧IsLen x L∧L≤16:=fun x b hx hb=>by
  rw[z2o];by_cases h1:256≤(x:Int)
  ·rw[if_pos h1,s8,z15 (n:=(b:Int)+8) (by omega) (by omega)];obtain⟨L,g1,g2,g3⟩:=last (x / 2^8) (b+8) (by omega) (by omega);rw[show((b+8:Nat):Int)=(b:Int)+8 by omega]at g1;refine⟨L+8,?_,g2.shift (by omega),by omega⟩;exact g1.trans (congrArg some (by omega))
  ·rw[if_neg h1];obtain⟨L,g1,g2,g3⟩:=last x b (by omega) (by omega);exact⟨L,g1,g2,by omega⟩
 unfold z28;simp only[jn_eq];by_cases h1:4294967296≤(n:Int)
 ·rw[z2o,if_pos h1,s32,z2o];by_cases h2:65536≤((n / 2^32:Nat):Int)
  ·rw[if_pos h2,s16,show zzi.wrap (32+16)=((48:Nat):Int)from by decide];obtain⟨L,g1,g2,g3⟩:=p8 (n / 2^32 / 2^16) 48 (by omega) (by omega);refine⟨L+48,g1,?_,by omega⟩;have:=(g2.shift (by omega)).shift (n:=n) (s:=32) (by omega)
   rw[Nat.add_assoc]at this;exact this
  ·rw[if_neg h2];obtain⟨L,g1,g2,g3⟩:=p8 (n / 2^32) 32 (by omega) (by omega);exact⟨L+32,g1,g2.shift (by omega),by omega⟩
 ·rw[z2o,if_neg h1,z2o];by_cases h2:65536≤(n:Int)
  ·rw[if_pos h2,s16,show zzi.wrap (0+16)=((16:Nat):Int)from by decide];obtain⟨L,g1,g2,g3⟩:=p8 (n / 2^16) 16 (by omega) (by omega);exact⟨L+16,g1,g2.shift (by omega),by omega⟩
  ·rw[if_neg h2];obtain⟨L,g1,g2,g3⟩:=p8 n 0 (by omega) (by omega);exact⟨L,by rw[show((0:Nat):Int)=0 from rfl]at g1;exact g1,g2,by omega⟩
def IsK (n k:Nat):Prop:=1≤k∧k≤10∧n<128^k∧(1<k→128^(k-1)≤n)
theorem pow7 (i:Nat):2^(7*i)=128^i:=by rw[Nat.pow_mul]
theorem IsLen.k {n L:Nat}(h:IsLen n L)(hL:L≤64):IsK n (max 1 ((L+6) / 7)):=by
 obtain⟨h1,h2,h3⟩:=h;refine⟨by omega,by omega,?_,fun hk=>?_⟩
 ·refine Nat.lt_of_lt_of_le h1 ?_;rw[←pow7];exact Nat.pow_le_pow_right (by decide) (by omega)
 ·have hn:n≠0:=fun e=>by have:=h2 e;omega
  obtain⟨h4,h5⟩:=h3 hn;refine Nat.le_trans ?_ h4;rw[←pow7];exact Nat.pow_le_pow_right (by decide) (by omega)
def dg (n k i:Nat):Nat:=n / 128^i % 128+if i+1<k then 128 else 0
def cntL (n k:Nat):List Int:=(List.range k).map fun i=>((dg n k i:Nat):Int)
theorem dg_lt (n k i:Nat):dg n k i<256:=by unfold dg;split<;>omega
theorem zap {X:Type}(xs ys:List X)(y v:X):(xs++y::ys).set xs.length v=xs++v::ys:=by
 rw[List.set_append_right (h:=Nat.le_refl _),Nat.sub_self];rfl
theorem z9v {n:Nat}(h:n<2^64): ∃k,IsK n k∧pack_Count (n:Int)=some (strOfNums (cntL n k)):=by
 obtain⟨L,e,hL,hL2⟩:=zck h;refine⟨_,hL.k hL2,?_⟩;have hK:=hL.k hL2
 unfold pack_Count;rw[e,zz3];have e1:zzi.wrap ((zzi.wrap ((L:Int)+6)).tdiv 7)=(((L+6) / 7:Nat):Int):=by
  rw[z15 (n:=(L:Int)+6) (by omega) (by omega),Int.tdiv_eq_ediv_of_nonneg (by omega),z15 (by omega) (by omega)];omega
 have e2:(if 1<(((L+6) / 7:Nat):Int)then(((L+6) / 7:Nat):Int)else 1)=((max 1 ((L+6) / 7):Nat):Int):=by split<;>omega
 simp only[e1,e2];generalize max 1 ((L+6) / 7)=k at*;obtain⟨k1,k2,k3,k4⟩:=hK;have hlim:(lim:Int)=274877906944:=rfl
 rw[z0j (by omega),Int.toNat_natCast,List.length_replicate];rw[zbz ((List.range k).map fun i=>((n / 128^i % 128+128:Nat):Int)) (fun i a=>a=((List.range i).map fun i=>((n / 128^i % 128+128:Nat):Int))++List.replicate (k-i) 0) (fun s h=>by rw[h,Nat.sub_self];simp)]
 ·simp only[z92];have e3:zzi.wrap ((k:Int)-1)=((k-1:Nat):Int):=by rw[z15 (by omega) (by omega)];omega
  have hlen:((List.range k).map fun i=>((n / 128^i % 128+128:Nat):Int)).length=k:=by simp
  rw[e3,hlen,Int.toNat_natCast,z0j (by omega),z0j (by omega),z0j (by omega),z0j (by omega)];congr 2;have hk:k=(k-1)+1:=by omega
  have hrng:(List.range k).map (fun i=>((n / 128^i % 128+128:Nat):Int))=(List.range (k-1)).map (fun i=>((n / 128^i % 128+128:Nat):Int))++[((n / 128^(k-1) % 128+128:Nat):Int)]:=by
   conv=>lhs;rw[hk,List.range_succ,List.map_append]
   rfl
  have hl2:((List.range (k-1)).map fun i=>((n / 128^i % 128+128:Nat):Int)).length=k-1:=by simp
  rw[hrng];have hget:(((List.range (k-1)).map fun i=>((n / 128^i % 128+128:Nat):Int))++[((n / 128^(k-1) % 128+128:Nat):Int)]).getD (0+(k-1)) zzd=((n / 128^(k-1) % 128+128:Nat):Int):=by
   rw[List.getD_eq_getElem?_getD,List.getElem?_append_right (by omega),hl2];simp
  rw[hget,zbk (by omega)];have hset:=zap ((List.range (k-1)).map fun i=>((n / 128^i % 128+128:Nat):Int)) [] ((n / 128^(k-1) % 128+128:Nat):Int) (((n / 128^(k-1) % 128+128) % 128:Nat):Int);rw[hl2]at hset;rw[zz9,hset];unfold cntL
  conv=>rhs;rw[hk,List.range_succ,List.map_append]
  congr 1
  ·apply List.map_congr_left;intro i hi;have:=List.mem_range.1 hi
   unfold dg;rw[if_pos (by omega)]
  ·simp only[List.map_cons,List.map_nil];unfold dg;rw[if_neg (by omega)];congr 2;omega
 ·rintro i a hi rfl;refine⟨_,?_,rfl⟩;have hl3:(((List.range i).map fun i=>((n / 128^i % 128+128:Nat):Int))++List.replicate (k-i) (0:Int)).length=k:=by simp;omega
  have e4:zzi.wrap ((7:Int)*(i:Int))=((7*i:Nat):Int):=by rw[z15 (by omega) (by omega)];omega
  rw[hl3,e4,z0j (by omega),z0j (by omega),z0j (by omega),zz9];have e5:z05 .or .u8 (IntKind.u8.wrap (shrOp .u64 (n:Int) ((7*i:Nat):Int))) 128=((n / 128^i % 128+128:Nat):Int):=by
   rw[z5c .u64 n (7*i) (by show 7*i≤64;omega),pow7,zd3];have:(((n / 128^i:Nat):Int) % 256)=((n / 128^i % 256:Nat):Int):=by omega
   rw[this,or128 (by omega)];congr 1;omega
  rw[e5,show k-i=(k-(i+1))+1 by omega,List.replicate_succ];have hset:=zap ((List.range i).map fun i=>((n / 128^i % 128+128:Nat):Int)) (List.replicate (k-(i+1)) 0) (0:Int) ((n / 128^i % 128+128:Nat):Int);rw[List.length_map,List.length_range]at hset;rw[hset,List.range_succ,List.map_append];simp
 ·simp
theorem z8p (a:List Int):(strOfNums a).size=a.length:=by simp[strOfNums,ByteArray.size]
theorem zd5 {n k:Nat}(hK:IsK n k):n / 128^(k-1)<128:=by
 rw[Nat.div_lt_iff_lt_mul (Nat.pow_pos (by decide)),←Nat.pow_succ',show(k-1).succ=k by have:=hK.1;omega];exact hK.2.2.1
end Go.Av
namespace Go.Av
open Go
def tkC (s:ByteArray):Nat→Nat→Nat→Int×ByteArray×Int
 |0,_,_=>(0,bs [],3)
 |k+1,i,acc=>
  if(0<i∧z08 s i=0)∨(i=9∧1<z08 s i)then(0,bs [],4)
  else if z08 s i<128 then(((acc+z08 s i % 128*128^i:Nat):Int),s.extract (i+1) s.size,0)
  else tkC s k (i+1) (acc+z08 s i % 128*128^i)
theorem z8o {i:Nat}(h:i≤9):128^i≤9223372036854775808:=by
 have:=Nat.pow_le_pow_right (n:=128) (by decide) h;have e:(128:Nat)^9=9223372036854775808:=by decide
 omega
theorem z8r {i acc b:Nat}(hi:i≤9)(ha:acc<128^i)(hb:b<256)(h9:i=9→b≤1):acc+b % 128*128^i<18446744073709551616:=by
 rcases Nat.lt_or_ge i 9 with h|h
 ·have h1:b % 128*128^i≤127*128^i:=Nat.mul_le_mul_right _ (by omega);have h2:=z8o (show i+1≤9 by omega)
  rw[Nat.pow_succ]at h2;omega
 ·have h0:i=9:=by omega
  have h1:=h9 h0;have h2:=z8o hi
  have h3:b % 128*128^i≤1*128^i:=Nat.mul_le_mul_right _ (by omega);omega
theorem z9h {i acc b:Nat}(ha:acc<128^i):acc+b % 128*128^i<128^(i+1):=by
 have h1:b % 128*128^i≤127*128^i:=Nat.mul_le_mul_right _ (by omega);rw[Nat.pow_succ];omega
theorem zdd {i acc b:Nat}(hi:i≤9)(ha:acc<128^i)(hb:b<256)(h9:i=9→b≤1):
 z05 .or .u64 (acc:Int) (shlOp .u64 (zzu.wrap (z05 .and .u8 (b:Int) 127)) (zzi.wrap ((7:Int)*(i:Int))))=((acc+b % 128*128^i:Nat):Int):=by
 have hb2:=z8r hi ha hb h9;have e1:zzi.wrap ((7:Int)*(i:Int))=((7*i:Nat):Int):=by rw[z15 (by omega) (by omega)];omega
 have e2:zzu.wrap ((b % 128:Nat):Int)=((b % 128:Nat):Int):=uwrap (k:= .u64) rfl (show b % 128<2^64 by omega);rw[zbk hb,e1,e2,zaq (k:= .u64) _ _ (show 7*i≤64 by omega),pow7];have hp:=z8o hi
 have e3:zzu.wrap ((b % 128*128^i:Nat):Int)=((b % 128*128^i:Nat):Int):=uwrap (k:= .u64) rfl (show b % 128*128^i<2^64 by omega);rw[e3,zdf (k:= .u64) rfl (show acc<2^64 by omega) (show b % 128*128^i<2^64 by omega)];congr 1;rw[←pow7]at ha ⊢;rw[Nat.mul_comm,zde ha,Nat.add_comm]
theorem z9d {s:ByteArray}(hs:s.size≤maxN){B:Nat→Int→Option (Ctl Int (Int×ByteArray×Int))}
 (hB: ∀i acc:Nat,i<s.size→i≤9→acc<128^i→B i (acc:Int)=if(0<i∧z08 s i=0)∨(i=9∧1<z08 s i)then some (.ret (0,bs [],4))
  else if z08 s i<128 then some (.ret (((acc+z08 s i % 128*128^i:Nat):Int),s.extract (i+1) s.size,0))else some (.next ((acc+z08 s i % 128*128^i:Nat):Int))):
 ∀(k i acc:Nat),i+k=s.size→i≤9→acc<128^i→outK (z12 B k i (acc:Int)) (fun(a3:Int)=>some (0,(bs []),3)) (fun x=>some x)=some (tkC s k i acc):=by
 intro k;induction k with
 |zero=>intro i acc hi h9 ha;rfl
 |succ k ih=>
  intro i acc hi h9 ha;simp only[z12,hB i acc (by omega) h9 ha,tkC];by_cases h1:(0<i∧z08 s i=0)∨(i=9∧1<z08 s i)
  ·rw[if_pos h1,if_pos h1];rfl
  ·rw[if_neg h1,if_neg h1];by_cases h2:z08 s i<128
   ·rw[if_pos h2,if_pos h2];rfl
   ·rw[if_neg h2,if_neg h2];have h3:i≠9:=fun e=>h1 (.inr ⟨e,by omega⟩);exact ih (i+1) _ (by omega) (by omega) (z9h ha)
theorem z4o {s:ByteArray}(hs:s.size≤maxN):z1t s=some (tkC s s.size 0 0):=by
 unfold z1t;rw[z0j hs];refine z9d hs ?_ s.size 0 0 (by omega) (by omega) (by decide);intro i acc hi h9 ha;unfold maxN at hs;have hb:=z8u s i
 rw[z8t];have e1:zzi.wrap ((7:Int)*(i:Int))=((7*i:Nat):Int):=by rw[z15 (by omega) (by omega)];omega
 have e2:zzi.wrap ((i:Int)+1)=((i+1:Nat):Int):=by rw[z15 (by omega) (by omega)];omega
 simp only[jn_eq];by_cases hc:(0<i∧z08 s i=0)∨(i=9∧1<z08 s i)
 ·rw[if_pos hc];rcases hc with⟨h1,h2⟩|⟨h1,h2⟩
  ·rw[decide_eq_true (by omega:0<(i:Int)),decide_eq_true (by omega:(z08 s i:Int)=0)];rfl
  ·rw[decide_eq_true (by omega:(i:Int)=9),decide_eq_true (by omega:1<(z08 s i:Int)),decide_eq_true (by omega:0<(i:Int)),decide_eq_false (by omega: ¬(z08 s i:Int)=0)];rfl
 ·rw[if_neg hc];have h9b:i=9→z08 s i≤1:=fun e=>by
   rcases Nat.lt_or_ge 1 (z08 s i)with h|h
   ·exact absurd (.inr ⟨e,h⟩) hc
   ·exact h
  rw[zdd h9 ha hb h9b,e1,e2,Int.toNat_natCast,z0j (by omega),z0j (by omega)];have fin:(bf (decide ((z08 s i:Int)<128)) (some (Ctl.ret (((acc+z08 s i % 128*128^i:Nat):Int),(s.extract (i+1) s.size),(0:Int)))) (some (.next ((acc+z08 s i % 128*128^i:Nat):Int))))=if z08 s i<128 then some (.ret (((acc+z08 s i % 128*128^i:Nat):Int),s.extract (i+1) s.size,0))else some (.next ((acc+z08 s i % 128*128^i:Nat):Int)):=by
   rw[z2o];by_cases h:z08 s i<128
   ·rw[if_pos h,if_pos (by omega)]
   ·rw[if_neg h,if_neg (by omega)]
  by_cases h1:0<i
  ·have h2:z08 s i≠0:=fun e=>hc (.inl ⟨h1,e⟩);rw[decide_eq_true (by omega:0<(i:Int)),decide_eq_false (by omega: ¬(z08 s i:Int)=0)];by_cases h3:i=9
   ·have:=h9b h3;rw[decide_eq_true (by omega:(i:Int)=9),decide_eq_false (by omega: ¬1<(z08 s i:Int))];simp only[z1f,z0p];exact fin
   ·rw[decide_eq_false (by omega: ¬(i:Int)=9)];simp only[z1f,z0p];exact fin
  ·rw[decide_eq_false (by omega: ¬0<(i:Int)),decide_eq_false (by omega: ¬(i:Int)=9)];simp only[z1f,z0p];exact fin
theorem z43 {s:ByteArray}: ∀{k i acc:Nat},i+k=s.size→i≤9→acc<128^i→tkC s k i acc=(0,bs [],3)∨tkC s k i acc=(0,bs [],4)∨ ∃n j:Nat,tkC s k i acc=((n:Int),s.extract j s.size,0)∧n<18446744073709551616∧j≤s.size
 |0,i,acc,_,_,_=> .inl rfl
 |k+1,i,acc,hi,h9,ha=>by
  have hb:=z8u s i;simp only[tkC];by_cases h1:(0<i∧z08 s i=0)∨(i=9∧1<z08 s i)
  ·rw[if_pos h1];exact .inr (.inl rfl)
  ·rw[if_neg h1];have h9b:i=9→z08 s i≤1:=fun e=>by
    rcases Nat.lt_or_ge 1 (z08 s i)with h|h
    ·exact absurd (.inr ⟨e,h⟩) h1
    ·exact h
   by_cases h2:z08 s i<128
   ·rw[if_pos h2];exact .inr (.inr ⟨_,i+1,rfl,z8r h9 ha hb h9b,by omega⟩)
   ·rw[if_neg h2];have h3:i≠9:=fun e=>by have:=h9b e;omega
    exact z43 (by omega) (by omega) (z9h ha)
theorem z62 (s:ByteArray)(i j:Nat)(h:j≤s.size):(s.extract i j).size=j-i:=by rw[ByteArray.size_extract,Nat.min_eq_left h]
end Go.Av
namespace Go.Av
open Go
theorem IsK.uniq {n k j:Nat}(h:IsK n k)(g:IsK n j):k=j:=by
 obtain⟨h1,h2,h3,h4⟩:=h;obtain⟨g1,g2,g3,g4⟩:=g;rcases Nat.lt_trichotomy k j with e|e|e
 ·have:=g4 (by omega);have h5:=Nat.pow_le_pow_right (n:=128) (by decide) (show k≤j-1 by omega)
  omega
 ·exact e
 ·have:=h4 (by omega);have h5:=Nat.pow_le_pow_right (n:=128) (by decide) (show j≤k-1 by omega)
  omega
def kOf (n:Nat):Nat:=if n<128 then 1 else if n<128^2 then 2 else if n<128^3 then 3 else if n<128^4 then 4 else if n<128^5 then 5 else if n<128^6 then 6 else if n<128^7 then 7 else if n<128^8 then 8 else if n<128^9 then 9 else 10
theorem z6n {n:Nat}(h:n<2^64):IsK n (kOf n):=by
 have p1:(128:Nat)^1=128:=by decide
 have p2:(128:Nat)^2=16384:=by decide
 have p3:(128:Nat)^3=2097152:=by decide
 have p4:(128:Nat)^4=268435456:=by decide
 have p5:(128:Nat)^5=34359738368:=by decide
 have p6:(128:Nat)^6=4398046511104:=by decide
 have p7:(128:Nat)^7=562949953421312:=by decide
 have p8:(128:Nat)^8=72057594037927936:=by decide
 have p9:(128:Nat)^9=9223372036854775808:=by decide
 have p10:(128:Nat)^10=1180591620717411303424:=by decide
 unfold kOf IsK;rw[p2,p3,p4,p5,p6,p7,p8,p9]
 repeat' split
 all_goals (refine⟨by omega,by omega,?_,fun _=>?_⟩<;>simp only[Nat.reduceSub,p1,p2,p3,p4,p5,p6,p7,p8,p9,p10]<;>omega)
def cntB (n:Nat):ByteArray:=strOfNums (cntL n (kOf n))
theorem z8v {n:Nat}:(cntB n).size=kOf n:=by unfold cntB cntL;rw[z8p];simp
theorem z6o {n:Nat}(h:n<2^64):1≤kOf n∧kOf n≤10:=⟨(z6n h).1,(z6n h).2.1⟩
theorem z7e {n:Nat}(h:n<2^64):pack_Count (n:Int)=some (cntB n):=by
 obtain⟨k,hk,e⟩:=z9v h;rw[e,hk.uniq (z6n h)];rfl
def zz (m:Int):Nat:=if 0≤m then(2*m).toNat else(-2*m-1).toNat
theorem zz_lt {m:Int}(h:in64 m):zz m<2^64:=by
 unfold in64 at h;unfold zz;split<;>omega
theorem zbv {m:Int}(h:in64 m):pack_Number m=some (cntB (zz m)):=by
 have hz:=zz_lt h;unfold pack_Number;rw[shr63 h];unfold in64 at h;have e1: ∃u:Nat,zzu.wrap m=(u:Int)∧u<2^64:=by
  refine⟨(zzu.wrap m).toNat,?_,?_⟩<;>rw[z2v]<;>omega
 obtain⟨u,hu,hu2⟩:=e1;have hu3:(u:Int)=m % 18446744073709551616:=by rw[←hu,z2v]
 rw[hu];have e2:shlOp .u64 (u:Int) 1=((u*2 % 18446744073709551616:Nat):Int):=by
  have:=zaq (k:= .u64) u 1 (by decide);rw[show((1:Nat):Int)=1 from rfl]at this;rw[this,z2v];omega
 rw[e2];have hx:z05 .xor .u64 ((u*2 % 18446744073709551616:Nat):Int) (zzu.wrap (if m<0 then -1 else 0))=((zz m:Nat):Int):=by
  unfold zz;by_cases hm:m<0
  ·rw[if_pos hm,if_neg (by omega),z2v];have e3:((-1:Int) % 18446744073709551616)=((18446744073709551615:Nat):Int):=by decide
   rw[e3,zat (k:= .u64) rfl (show u*2 % 18446744073709551616<2^64 by omega) (by decide)];have e4:(u*2 % 18446744073709551616)^^^18446744073709551615=18446744073709551615-u*2 % 18446744073709551616:=by
    have hlt:u*2 % 18446744073709551616<2^64:=by omega
    generalize u*2 % 18446744073709551616=a at*;apply Nat.eq_of_testBit_eq;intro i;rw[Nat.testBit_xor,show(18446744073709551615:Nat)=2^64-1 from rfl,Nat.testBit_two_pow_sub_one];have:2^64-1-a=2^64-(a+1):=by omega
    rw[this,Nat.testBit_two_pow_sub_succ hlt];by_cases hi:i<64
    ·simp[hi]
    ·have:a.testBit i=false:=Nat.testBit_lt_two_pow (Nat.lt_of_lt_of_le hlt (Nat.pow_le_pow_right (by decide) (by omega)));simp[hi,this]
   rw[e4];omega
  ·rw[if_neg hm,if_pos (by omega),z2v];have e3:((0:Int) % 18446744073709551616)=((0:Nat):Int):=by decide
   rw[e3,zat (k:= .u64) rfl (show u*2 % 18446744073709551616<2^64 by omega) (by decide),Nat.xor_zero];omega
 rw[hx,z7e hz];rfl
def numOf (n:Int):Int:=if n % 2=1 then -1-n / 2 else n / 2
theorem zcn {m:Int}:numOf (zz m:Int)=m:=by
 unfold numOf zz;split<;>split<;>omega
theorem zdi {x:Nat}(h:x<9223372036854775808):z05 .xor .i64 (x:Int) (-1)= -1-(x:Int):=by
 unfold z05;simp only;have e1:BitVec.ofInt zzi.bits (-1)=BitVec.allOnes zzi.bits:=by decide
 rw[e1,BitVec.xor_allOnes,BitVec.toNat_not];have e2:(BitVec.ofInt zzi.bits (x:Int)).toNat=x:=z1z (w:=64) x (by omega);rw[e2,show 2^zzi.bits=18446744073709551616 from by decide,za7];split<;>omega
theorem xor_0 {x:Nat}(h:x<9223372036854775808):z05 .xor .i64 (x:Int) 0=(x:Int):=by
 unfold z05;simp only;have e1:BitVec.ofInt zzi.bits 0=0#zzi.bits:=by decide
 rw[e1,BitVec.xor_zero];have e2:(BitVec.ofInt zzi.bits (x:Int)).toNat=x:=z1z (w:=64) x (by omega);rw[e2,z40 (by unfold in64;omega)]
theorem zag {n:Nat}(h:n<18446744073709551616):z05 .xor .i64 (zzi.wrap (shrOp .u64 (n:Int) 1)) (zzi.wrap (0-(zzi.wrap (z05 .and .u64 (n:Int) 1))))=numOf (n:Int):=by
 have e1:shrOp .u64 (n:Int) 1=((n / 2:Nat):Int):=z5c .u64 n 1 (by decide);have e2:z05 .and .u64 (n:Int) 1=((n % 2:Nat):Int):=zcc (k:= .u64) rfl (show n<2^64 by omega) (by decide)
 rw[e1,e2,z40 (x:=((n / 2:Nat):Int)) (by unfold in64;omega),z40 (x:=((n % 2:Nat):Int)) (by unfold in64;omega),z40 (x:=0-((n % 2:Nat):Int)) (by unfold in64;omega)];unfold numOf;rcases Nat.mod_two_eq_zero_or_one n with h2|h2
 ·rw[h2,show(0:Int)-((0:Nat):Int)=0 from rfl,xor_0 (by omega),if_neg (by omega)];omega
 ·rw[h2,show(0:Int)-((1:Nat):Int)= -1 from rfl,zdi (by omega),if_pos (by omega)];omega
def tkN (r:Int×ByteArray×Int):Int×ByteArray×Int:=if r.2.2=0 then(numOf r.1,r.2.1,0)else(0,bs [],r.2.2)
theorem z64 {s:ByteArray}(hs:s.size≤maxN):z1x s=some (tkN (tkC s s.size 0 0)):=by
 unfold z1x;rw[z4o hs,zz3];rcases z43 (s:=s) (k:=s.size) (i:=0) (acc:=0) (by omega) (by omega) (by decide)with h|h|⟨n,j,h,hn,_⟩
 ·rw[h];rfl
 ·rw[h];rfl
 ·rw[h,zag hn];rfl
def tkT (r:Int×ByteArray×Int):ByteArray×ByteArray×Int:=
 if r.2.2=0 then(if 65536<r.1 then(bs [],bs [],2)else if(r.2.1.size:Int)<r.1 then(bs [],bs [],3)else(r.2.1.extract 0 r.1.toNat,r.2.1.extract r.1.toNat r.2.1.size,0))else(bs [],bs [],r.2.2)
theorem zai {s:ByteArray}(hs:s.size≤maxN):z23 s=some (tkT (tkC s s.size 0 0)):=by
 unfold z23;rw[z4o hs,zz3];unfold maxN at hs;rcases z43 (s:=s) (k:=s.size) (i:=0) (acc:=0) (by omega) (by omega) (by decide)with h|h|⟨n,j,h,hn,hj⟩
 ·rw[h];rfl
 ·rw[h];rfl
 ·rw[h];have hsz:=z62 s j s.size (Nat.le_refl _);unfold tkT;simp only[jn_eq,decide_true,z1f,if_true];generalize s.extract j s.size=r at*;have e1:zzu.wrap (r.size:Int)=(r.size:Int):=by rw[z2v];omega
  by_cases h1:65536<(n:Int)
  ·rw[if_pos h1,decide_eq_true h1];rfl
  ·rw[if_neg h1,decide_eq_false h1];simp only[z0p,decide_true,z1f];rw[e1];by_cases h2:(r.size:Int)<(n:Int)
   ·rw[if_pos h2,decide_eq_true h2];rfl
   ·rw[if_neg h2,decide_eq_false h2];simp only[z0p,decide_true,Bool.not_true];rw[z0j (by omega),z0j (by omega)]
theorem zc7 {s:ByteArray}(hs:s.size≤maxN): ∃p r w,tkT (tkC s s.size 0 0)=(p,r,w)∧p.size≤65536∧r.size≤s.size:=by
 suffices h:(tkT (tkC s s.size 0 0)).1.size≤65536∧(tkT (tkC s s.size 0 0)).2.1.size≤s.size from⟨_,_,_,rfl,h.1,h.2⟩
 constructor
 all_goals
  rcases z43 (s:=s) (k:=s.size) (i:=0) (acc:=0) (by omega) (by omega) (by decide)with h|h|⟨n,j,h,hn,hj⟩
  ·rw[h];exact Nat.zero_le _
  ·rw[h];exact Nat.zero_le _
  ·rw[h];have hsz:=z62 s j s.size (Nat.le_refl _);unfold tkT;simp only[if_true];generalize s.extract j s.size=r at*;by_cases h1:65536<(n:Int)
   ·rw[if_pos h1];exact Nat.zero_le _
   ·rw[if_neg h1];by_cases h2:(r.size:Int)<(n:Int)
    ·rw[if_pos h2];exact Nat.zero_le _
    ·rw[if_neg h2];simp only[ByteArray.size_extract];omega
theorem z7p {a b:ByteArray}(h:a.data.toList=b.data.toList):a=b:=Go.WideShapes.bytes_inj h
theorem join2 {a b:ByteArray}(h:a.size+b.size≤140737488355328):strings_Join [a,b] (bs [])=some (a++b):=by
 unfold strings_Join;have e:Lib.join ([a,b].map (·.data.toList)) (bs []).data.toList=(a++b).data.toList:=by
  rw[List.map_cons,Lib.join_cons];simp[Lib.joinTail,ByteArray.data_append];rfl
 rw[e];have hl:(a++b).data.toList.length=a.size+b.size:=by rw[z2l,ByteArray.size_append]
 rw[z0j ⟨by simp,by omega⟩]
theorem zaf {a b:ByteArray}(h:a.size+b.size≤140737488355328):z42 [a,b]=some (a++b):=by
 unfold z42;rw[join2 h];rfl
def za4 (t:ByteArray):ByteArray:=cntB t.size++t
theorem zcz {t:ByteArray}(h:t.size≤140737488355300):pack_Text t=some (za4 t):=by
 unfold pack_Text;have e:zzu.wrap (t.size:Int)=(t.size:Int):=by rw[z2v];omega
 have hk:=z6o (n:=t.size) (by omega);rw[e,z7e (by omega),zz3,zaf (by rw[z8v];omega)];rfl
def sum4 (c:Nat):ByteArray:=strOfNums [((c % 256:Nat):Int),((c / 256 % 256:Nat):Int),((c / 65536 % 256:Nat):Int),((c / 16777216 % 256:Nat):Int)]
def tkF (r:ByteArray×ByteArray×Int):ByteArray×ByteArray×Int:=
 if r.2.2=0 then(if r.2.1.size<4 then(bs [],bs [],3)else if r.2.1.extract 0 4=sum4 (crcS r.1)then(r.1,r.2.1.extract 4 r.2.1.size,0)else(bs [],bs [],4))else(bs [],bs [],r.2.2)
end Go.Av
namespace Go.Av
open Go
def ofL (l:List UInt8):ByteArray:=⟨l.toArray⟩
theorem z82 (s:ByteArray):s=ofL s.data.toList:=z7p rfl
theorem z2r (l:List UInt8):(ofL l).size=l.length:=by rw[←z2l];rfl
theorem z80 (a b:List UInt8):ofL a++ofL b=ofL (a++b):=z7p (by
 rw[ByteArray.data_append,Array.toList_append];rfl)
theorem z3z (l:List UInt8)(i j:Nat):(ofL l).extract i j=ofL ((l.take j).drop i):=z7p (by
 rw[ByteArray.data_extract,Array.toList_extract,List.extract_eq_take_drop,List.drop_take];rfl)
theorem z2x (l:List UInt8)(i:Nat):z08 (ofL l) i=(l.getD i 0).toNat:=rfl
def cb (n k:Nat):List UInt8:=(List.range k).map fun i=>UInt8.ofNat (dg n k i)
theorem z0x (n k:Nat):(cb n k).length=k:=by unfold cb;simp
theorem zd7 {n k i:Nat}(h:i<k):((cb n k).getD i 0).toNat=dg n k i:=by
 unfold cb;rw[List.getD_eq_getElem?_getD,List.getElem?_map,List.getElem?_range h];show(UInt8.ofNat (dg n k i)).toNat=_;rw[UInt8.toNat_ofNat'];have:=dg_lt n k i
 exact Nat.mod_eq_of_lt (by simpa using this)
theorem z7d (n:Nat):cntB n=ofL (cb n (kOf n)):=z7p (by
 unfold cntB cntL cb strOfNums ofL;simp[Function.comp_def])
theorem z7t {n k i:Nat}{r:List UInt8}(h:i<k):((cb n k++r).getD i 0).toNat=dg n k i:=by
 rw[List.getD_eq_getElem?_getD,List.getElem?_append_left (by rw[z0x];exact h),←List.getD_eq_getElem?_getD,zd7 h]
theorem zc6 {X:Type}{l:List X}{i j:Nat}{d:X}(h:i<j):(l.take j).getD i d=l.getD i d:=by
 rw[List.getD_eq_getElem?_getD,List.getElem?_take_of_lt h,←List.getD_eq_getElem?_getD]
theorem zd0 {s:ByteArray}{n k:Nat}(hK:IsK n k)(hn:n<2^64)(hs:k≤s.size)(hb: ∀i,i<k→z08 s i=dg n k i):tkC s s.size 0 0=((n:Int),s.extract k s.size,0):=by
 have aux: ∀j i,i+j+1=k→tkC s (s.size-i) i (n % 128^i)=((n:Int),s.extract k s.size,0):=by
  intro j;induction j with
  |zero=>
   intro i hi;have hki:k=i+1:=by omega
   rw[show s.size-i=(s.size-i-1)+1 by omega];simp only[tkC];have h1:=hb i (by omega)
   have h2:=zd5 hK;rw[show k-1=i by omega]at h2;have h3:z08 s i=n / 128^i:=by rw[h1];unfold dg;rw[if_neg (by omega),Nat.mod_eq_of_lt h2];rfl
   rw[h3,if_neg,if_pos h2,Nat.mod_eq_of_lt h2]
   ·have:=Nat.mod_add_div n (128^i);rw[Nat.mul_comm]at this;rw[this,hki]
   ·rintro(⟨h4,h5⟩|⟨h4,h5⟩)
    ·have:=hK.2.2.2 (by omega);rw[show k-1=i by omega]at this;have:=Nat.div_pos this (Nat.pow_pos (by decide))
     omega
    ·subst h4;have e:(128:Nat)^9=9223372036854775808:=by decide
     rw[e]at h5;omega
  |succ j ih=>
   intro i hi;have:=hK.2.1
   rw[show s.size-i=(s.size-(i+1))+1 by omega];simp only[tkC];have h1:=hb i (by omega)
   have h3:z08 s i=n / 128^i % 128+128:=by rw[h1];unfold dg;rw[if_pos (by omega)]
   rw[h3,if_neg (by omega),if_neg (by omega)];have e:n % 128^i+(n / 128^i % 128+128) % 128*128^i=n % 128^(i+1):=by
    rw[Nat.pow_succ,Nat.mod_mul,show(n / 128^i % 128+128) % 128=n / 128^i % 128 by omega,Nat.mul_comm]
   rw[e];exact ih (i+1) (by omega)
 have:=aux (k-1) 0 (by have:=hK.1;omega);rw[Nat.pow_zero,Nat.mod_one,Nat.sub_zero]at this;exact this
theorem zdh {s:ByteArray}{n k:Nat}(hK:IsK n k)(hs:s.size<k)(hb: ∀i,i<s.size→z08 s i=dg n k i):tkC s s.size 0 0=(0,bs [],3):=by
 have aux: ∀j i acc,i+j=s.size→tkC s j i acc=(0,bs [],3):=by
  intro j;induction j with
  |zero=>intro i acc hi;rfl
  |succ j ih=>
   intro i acc hi;have:=hK.2.1
   simp only[tkC];have h3:z08 s i=n / 128^i % 128+128:=by rw[hb i (by omega)];unfold dg;rw[if_pos (by omega)]
   rw[h3,if_neg (by omega),if_neg (by omega)];exact ih (i+1) _ (by omega)
 exact aux s.size 0 0 (by omega)
theorem z5f {n:Nat}(hn:n<2^64)(r:List UInt8):tkC (ofL (cb n (kOf n)++r)) (ofL (cb n (kOf n)++r)).size 0 0=((n:Int),ofL r,0):=by
 have hsz:(ofL (cb n (kOf n)++r)).size=kOf n+r.length:=by rw[z2r,zz7,z0x]
 rw[zd0 (z6n hn) hn (by omega) (fun i hi=>by rw[z2x,z7t hi]),z3z,hsz,List.take_of_length_le (by rw[zz7,z0x];exact Nat.le_refl _),List.drop_append_of_le_length (by rw[z0x];exact Nat.le_refl _),List.drop_of_length_le (by rw[z0x];exact Nat.le_refl _)];rfl
theorem z6v {n:Nat}(hn:n<2^64)(r:List UInt8){j:Nat}(hj:j<kOf n):tkC (ofL ((cb n (kOf n)++r).take j)) (ofL ((cb n (kOf n)++r).take j)).size 0 0=(0,bs [],3):=by
 have hsz:(ofL ((cb n (kOf n)++r).take j)).size=j:=by rw[z2r,List.length_take,zz7,z0x];omega
 exact zdh (z6n hn) (by omega) (fun i hi=>by rw[hsz]at hi;rw[z2x,zc6 hi,z7t (by omega)])
theorem zas {n:Nat}(r:List UInt8):tkT ((n:Int),ofL r,0)=if 65536<n then(bs [],bs [],2)else if r.length<n then(bs [],bs [],3)else(ofL (r.take n),ofL (r.drop n),0):=by
 unfold tkT;simp only[if_true,z2r,Int.toNat_natCast,z3z];by_cases h1:65536<n
 ·rw[if_pos h1,if_pos (by omega)]
 ·rw[if_neg h1,if_neg (by omega)];by_cases h2:r.length<n
  ·rw[if_pos h2,if_pos (by omega)]
  ·rw[if_neg h2,if_neg (by omega),List.drop_zero,List.take_of_length_le (Nat.le_refl _)]
def q4 (c:Nat):List UInt8:=[UInt8.ofNat (c % 256),UInt8.ofNat (c / 256 % 256),UInt8.ofNat (c / 65536 % 256),UInt8.ofNat (c / 16777216 % 256)]
abbrev takeF (s:ByteArray):=tkF (tkT (tkC s s.size 0 0))
end Go.Av
namespace Go.Av
open Go
def valL (v:Value):List UInt8:=if v.isText then 1::(cb v.s.size (kOf v.s.size)++v.s.data.toList)else 0::cb (zz v.n) (kOf (zz v.n))
def rowL (p:List Value):List UInt8:=p.flatMap valL
def goodV (v:Value):Prop:=z1q v=true∧in64 v.n
theorem z8n (l:List UInt8):(ofL l).data.toList=l:=rfl
theorem zbc (t:ByteArray):za4 t=ofL (cb t.size (kOf t.size)++t.data.toList):=by
 unfold za4;rw[z7d]
 conv=>lhs;rw[z82 t]
 rw[z80];rfl
theorem z48 {v:Value}(h:z1q v=true)(ht:v.isText=true):v.n=0∧v.s.size≤64:=by
 unfold z1q at h;rw[if_pos ht]at h
 simpa using h
theorem zc1 {v:Value}(h:z1q v=true)(ht:v.isText=false):v.s=bs []:=by
 unfold z1q at h;rw[if_neg (by rw[ht];simp)]at h;exact zbl.1 h
theorem zct {v:Value}(h:goodV v):encV v=some (valL v):=by
 unfold encV valL value_mark;cases ht:v.isText with
 |true=>
  have:=(z48 h.1 ht).2;rw[z1f,zz3,z1f,zcz (by omega),zz3,zbc,z8n];rfl
 |false=>
  rw[z0p,zz3,z0p,zbv h.2,zz3,z7d,z8n];rfl
theorem z9o: ∀{p:List Value},(∀v∈p,goodV v)→encVs p=some (rowL p)
 |[],_=>rfl
 |v::p,h=>by
  unfold encVs;rw[zct (h v (zz5 ..)),zz3,z9o (fun x hx=>h x (zz4 _ hx)),zz3];unfold rowL;rw[List.flatMap_cons]
theorem zco {v:Value}(h:goodV v):(valL v).length≤80:=by
 unfold valL;cases ht:v.isText with
 |true=>
  have:=(z48 h.1 ht).2;have:=(z6o (n:=v.s.size) (by omega)).2
  rw[if_pos rfl,List.length_cons,zz7,z0x,z2l];omega
 |false=>
  have:=(z6o (zz_lt h.2)).2;rw[if_neg (by simp),List.length_cons,z0x];omega
theorem z7h: ∀{p:List Value},(∀v∈p,goodV v)→(rowL p).length≤p.length*80
 |[],_=>Nat.le_refl _
 |v::p,h=>by
  have h1:=zco (h v (zz5 ..));have h2:=z7h (p:=p) (fun x hx=>h x (zz4 _ hx))
  unfold rowL at h2 ⊢;rw[List.flatMap_cons,zz7,List.length_cons];omega
def encR (p:List Value):List UInt8:=cb p.length (kOf p.length)++rowL p
theorem zbq {p:List Value}(h64: ∀v∈p,in64 v.n):z2u p=some (if okRow p then(ofL (encR p),0)else(bs [],4)):=by
 unfold z2u;rw[z66,zz3];cases ho:okRow p with
 |false=>rfl
 |true=>
  obtain⟨ha,hl⟩:=z91 ho;have hg: ∀v∈p,goodV v:=fun v hv=>⟨List.all_eq_true.1 ha v hv,h64 v hv⟩
  have hr:=z7h hg;have hk:=z6o (n:=p.length) (by omega)
  rw[if_pos rfl,decide_eq_true rfl,Bool.not_true,z0p,z7e (by omega),zz3,z9o hg,zz3,z0j (by rw[z8v];omega),z7d,z8n];rfl
end Go.Av
namespace Go.Av
open Go
section
variable {α:Type} [Inhabited α]
theorem zb2 {S R:Type}{B:S→Option (Ctl S R)}{fuel:Nat}{s s':S}(h:B s=some (.next s')):loopN B (fuel+1) s=loopN B fuel s':=by rw[loopN,h]
theorem z4u {S R:Type}{B:S→Option (Ctl S R)}{fuel:Nat}{s s':S}(h:B s=some (.brk s')):loopN B (fuel+1) s=some (.done s'):=by rw[loopN,h]
end
end Go.Av
namespace Go.Av
open Go
abbrev rd1 (s:ByteArray):ByteArray:=s.extract 1 s.size
abbrev tkNum (s:ByteArray):=tkN (tkC s s.size 0 0)
abbrev tkTxt (s:ByteArray):=tkT (tkC s s.size 0 0)
def takeV (s:ByteArray):Option (Value×ByteArray):=
 if s.size=0 then none else if z08 s 0=0 then(if(tkNum (rd1 s)).2.2=0 then some (⟨false,(tkNum (rd1 s)).1,bs []⟩,(tkNum (rd1 s)).2.1)else none)
 else if z08 s 0=1 then(if(tkTxt (rd1 s)).2.2=0∧(tkTxt (rd1 s)).1.size≤64 then some (⟨true,0,(tkTxt (rd1 s)).1⟩,(tkTxt (rd1 s)).2.1)else none)else none
def z2j:Nat→ByteArray→Option (List Value×ByteArray)
 |0,s=>some ([],s)
 |n+1,s=>(takeV s).bind fun v=>(z2j n v.2).bind fun l=>some (v.1::l.1,l.2)
def z4e (s:ByteArray):Option (List Value×ByteArray):=
 if(tkC s s.size 0 0).2.2=0∧(tkC s s.size 0 0).1≤8 then z2j (tkC s s.size 0 0).1.toNat (tkC s s.size 0 0).2.1 else none
def tkR (s:ByteArray):List Value×ByteArray×Int:=match z4e s with|some r=>(r.1,r.2,0)|none=>([],bs [],4)
theorem z9z (s:ByteArray):(rd1 s).size≤s.size:=by unfold rd1;rw[ByteArray.size_extract];omega
theorem za5 {s:ByteArray}: ∃(n:Nat) (r:ByteArray) (w:Int),tkC s s.size 0 0=((n:Int),r,w)∧r.size≤s.size∧n<18446744073709551616:=by
 rcases z43 (s:=s) (k:=s.size) (i:=0) (acc:=0) (by omega) (by omega) (by decide)with h|h|⟨n,j,h,hn,_⟩
 ·exact⟨0,bs [],3,h,Nat.zero_le _,by omega⟩
 ·exact⟨0,bs [],4,h,Nat.zero_le _,by omega⟩
 ·exact⟨n,_,0,h,by rw[ByteArray.size_extract];omega,hn⟩
theorem zbd (s:ByteArray):(tkNum s).2.1.size≤s.size:=by
 obtain⟨n,r,w,h,hr,_⟩:=za5 (s:=s);unfold tkNum tkN;rw[h];split
 ·exact hr
 ·exact Nat.zero_le _
theorem zbe {s:ByteArray}(hs:s.size≤maxN):(tkTxt s).2.1.size≤s.size:=by
 obtain⟨p,r,w,h,_,hr⟩:=zc7 hs;unfold tkTxt;rw[h];exact hr
theorem zbb {s:ByteArray}(hs:s.size≤maxN){v:Value}{r:ByteArray}(h:takeV s=some (v,r)):r.size≤s.size:=by
 have h1:=z9z s;unfold takeV at h;split at h
 ·cases h
 ·split at h
  ·split at h
   ·cases h;exact Nat.le_trans (zbd _) h1
   ·cases h
  ·split at h
   ·split at h
    ·cases h;exact Nat.le_trans (zbe (Nat.le_trans h1 hs)) h1
    ·cases h
   ·cases h
theorem zbp {s:ByteArray}:strEq s (bs [])=decide (s.size=0):=by
 by_cases h:s.size=0
 ·rw[decide_eq_true h];have:s=bs []:=ByteArray.ext (by
   have:s.data.size=0:=h;rw[Array.eq_empty_of_size_eq_zero this];rfl)
  rw[this,z5v]
 ·rw[decide_eq_false h];cases hq:strEq s (bs [])with
  |false=>rfl
  |true=>rw[z6t]at hq;rw[hq]at h;exact absurd rfl h
theorem z72 (r:ByteArray)(w:Int)(t:Taker):z0i r w t=some ⟨r,t.bad|| !decide (w=0)⟩:=by
 unfold z0i;cases t.bad<;>rfl
theorem z8c {s:ByteArray}(h0:s.size=0):takeV s=none:=by unfold takeV;rw[if_pos h0]
theorem z6u {s:ByteArray}{q:Int×ByteArray×Int}(h0:s.size≠0)(hz:z08 s 0=0)(hq:tkNum (rd1 s)=q):takeV s=if q.2.2=0 then some (⟨false,q.1,bs []⟩,q.2.1)else none:=by
 subst hq;unfold takeV;rw[if_neg h0,if_pos hz]
theorem z5w {s:ByteArray}{q:ByteArray×ByteArray×Int}(h0:s.size≠0)(ho:z08 s 0=1)(hq:tkTxt (rd1 s)=q):takeV s=if q.2.2=0∧q.1.size≤64 then some (⟨true,0,q.1⟩,q.2.1)else none:=by
 subst hq;unfold takeV;rw[if_neg h0,if_neg (by omega),if_pos ho]
theorem zc4 {s:ByteArray}(h0:s.size≠0)(hz:z08 s 0≠0)(ho:z08 s 0≠1):takeV s=none:=by
 unfold takeV;rw[if_neg h0,if_neg hz,if_neg ho]
theorem zd2 {s:ByteArray}(hs:s.size≤maxN): ∃v t,z0u ⟨s,false⟩=some (v,t)∧((∃r,takeV s=some (v,r)∧t=⟨r,false⟩)∨(takeV s=none∧t.bad=true)):=by
 have h1:=Nat.le_trans (z9z s) hs;unfold z0u z1c;dsimp only;rw[zbp];by_cases h0:s.size=0
 ·rw[decide_eq_true h0,z1f,zz3];dsimp only;rw[decide_eq_true rfl,z1f];unfold z0q;dsimp only;rw[z64 hs,zz3,z72];exact⟨_,_,rfl,.inr ⟨z8c h0,rfl⟩⟩
 ·rw[decide_eq_false h0,z0p,z0j (by omega),z0j (by omega),zz3];have hb:bt s 0=(z08 s 0:Int):=z8t (s:=s) (i:=0);dsimp only;rw[hb];by_cases hz:z08 s 0=0
  ·rw[decide_eq_true (by omega),z1f];unfold z0q;dsimp only;obtain⟨q,hq⟩: ∃q,tkNum (rd1 s)=q:=⟨_,rfl⟩;have hT:z1x (s.extract 1 s.size)=some q:=by rw[←hq];exact z64 h1
   have hV:=z6u h0 hz hq;rw[hT,zz3,z72,hV];by_cases hw:q.2.2=0
   ·rw[if_pos hw,decide_eq_true hw];exact⟨_,_,rfl,.inl ⟨_,rfl,rfl⟩⟩
   ·rw[if_neg hw,decide_eq_false hw];exact⟨_,_,rfl,.inr ⟨rfl,rfl⟩⟩
  ·rw[decide_eq_false (by omega),z0p];by_cases ho:z08 s 0=1
   ·rw[decide_eq_true (by omega),z1f];unfold z1d;dsimp only;obtain⟨q,hq⟩: ∃q,tkTxt (rd1 s)=q:=⟨_,rfl⟩;have hT:z23 (s.extract 1 s.size)=some q:=by rw[←hq];exact zai h1
    have hV:=z5w h0 ho hq;rw[hT,zz3,z72,zz3,zz3,jn_eq,hV];dsimp only;have hr:z1q ⟨true,0,q.1⟩=decide (q.1.size≤64):=by unfold z1q;rw[if_pos rfl,decide_eq_true rfl];rfl
    by_cases hw:q.2.2=0
    ·rw[decide_eq_true hw,Bool.not_true,Bool.or_false,z0p,za2,zz3,hr];by_cases h64:q.1.size≤64
     ·rw[if_pos ⟨hw,h64⟩,decide_eq_true h64];exact⟨_,_,rfl,.inl ⟨_,rfl,rfl⟩⟩
     ·rw[if_neg (fun h=>h64 h.2),decide_eq_false h64];exact⟨_,_,rfl,.inr ⟨rfl,rfl⟩⟩
    ·rw[decide_eq_false hw,Bool.not_false,Bool.or_true,z1f,if_neg (fun h=>hw h.1)];exact⟨_,_,rfl,.inr ⟨rfl,rfl⟩⟩
   ·rw[decide_eq_false (by omega),z0p];exact⟨_,_,rfl,.inr ⟨zc4 h0 hz ho,rfl⟩⟩
end Go.Av
namespace Go.Av
open Go
theorem zc9 {n:Nat}(h:n<18446744073709551615):zzu.wrap (((n+1:Nat):Int)-1)=(n:Int):=by rw[z2v];omega
theorem zbu {B:Int×Taker×List Value→Option (Ctl (Int×Taker×List Value) Empty)}
 (hB: ∀a4,B a4=(jn (fun(a6:Bool)=>bf a6 ((z0t a4.2.2 a4.2.1).bind fun r8=>some (.next ((zzu.wrap (a4.1-1)),r8.2,r8.1))) (some (.brk (a4.1,a4.2.1,a4.2.2)))) fun j7=>bf (decide (0<a4.1)) (j7 (!a4.2.1.bad)) (j7 false))):
 ∀(n fuel:Nat) (s:ByteArray) (acc:List Value),n<fuel→n≤8→acc.length+n≤100→s.size≤maxN→ ∃m t l,loopN B fuel ((n:Int),⟨s,false⟩,acc)=some (.done (m,t,l))∧((∃l' r,z2j n s=some (l',r)∧t=⟨r,false⟩∧l=acc++l')∨(z2j n s=none∧t.bad=true)):=by
 intro n;induction n with
 |zero=>
  intro fuel s acc hf h8 hl hs;cases fuel with
  |zero=>omega
  |succ fuel=>
   refine⟨0,⟨s,false⟩,acc,?_,.inl ⟨[],s,rfl,rfl,by rw[List.append_nil]⟩⟩;rw[z4u (s':=((0:Int),⟨s,false⟩,acc))];rw[hB];rfl
 |succ n ih=>
  intro fuel s acc hf h8 hl hs;cases fuel with
  |zero=>omega
  |succ fuel=>
   obtain⟨v,t,h1,h2⟩:=zd2 hs;have hstep:B (((n+1:Nat):Int),⟨s,false⟩,acc)=some (.next ((n:Int),t,acc++[v])):=by
    rw[hB,jn_eq];dsimp only;rw[decide_eq_true (by omega),z1f,Bool.not_false,z1f];unfold z0t;rw[h1,zz3,z0j (by simp only[List.length_cons,List.length_nil];omega),zz3,zc9 (by omega)]
   rw[zb2 hstep];rcases h2 with⟨r,h3,rfl⟩|⟨h3,h4⟩
   ·obtain⟨m,t,l,g1,g2⟩:=ih fuel r (acc++[v]) (by omega) (by omega) (by rw[zz7];simp only[List.length_cons,List.length_nil];omega) (Nat.le_trans (zbb hs h3) hs);refine⟨m,t,l,g1,?_⟩;have e:z2j (n+1) s=(z2j n r).bind fun l=>some (v::l.1,l.2):=by
     show(takeV s).bind _=_;rw[h3];rfl
    rcases g2 with⟨l',r',g3,g4,g5⟩|⟨g3,g4⟩
    ·exact .inl ⟨v::l',r',by rw[e,g3];rfl,g4,by rw[g5,List.append_assoc];rfl⟩
    ·exact .inr ⟨by rw[e,g3];rfl,g4⟩
   ·obtain⟨tl,tb⟩:=t;have h4:tb=true:=h4
    subst h4;refine⟨n,⟨tl,true⟩,acc++[v],?_,.inr ⟨?_,rfl⟩⟩
    ·cases fuel with
     |zero=>omega
     |succ fuel=>
      rw[z4u (s':=((n:Int),⟨tl,true⟩,acc++[v]))];rw[hB,jn_eq];dsimp only;by_cases h0:0<(n:Int)
      ·rw[decide_eq_true h0];rfl
      ·rw[decide_eq_false h0];rfl
    ·show(takeV s).bind _=_;rw[h3];rfl
theorem zar {s:ByteArray}(hs:s.size≤maxN){fuel:Nat}(hf:20<fuel):z2i fuel s=some (tkR s):=by
 unfold z2i z1h z0c z17;obtain⟨n,r,w,h1,h2,h3⟩:=za5 (s:=s);dsimp only;rw[z4o hs,zz3,z72,zz3,zz3,jn_eq];unfold tkR z4e;rw[h1];dsimp only;by_cases hw:w=0
 ·rw[decide_eq_true hw,Bool.not_true,Bool.or_false,z0p];by_cases h8:n≤8
  ·rw[decide_eq_false (by omega),if_pos ⟨hw,by omega⟩,Int.toNat_natCast];obtain⟨m,t,l,g1,g2⟩:=zbu (B:=_) (fun a4=>rfl) n fuel r [] (by omega) h8 (by simp only[List.length_nil];omega) (Nat.le_trans h2 hs);rw[g1,z92,zz3,zz3];rcases g2 with⟨l',r',g3,g4,g5⟩|⟨g3,g4⟩
   ·rw[g3,g4,g5];rfl
   ·rw[g3];dsimp only;rw[g4];rfl
  ·rw[decide_eq_true (by omega),if_neg (fun h=>h8 (by omega))];cases fuel with
   |zero=>omega
   |succ fuel=>
    rw[z4u (s':=((n:Int),⟨r,true⟩,[]))]
    ·rfl
    ·rw[jn_eq];dsimp only;rw[decide_eq_true (by omega)];rfl
 ·rw[decide_eq_false hw,Bool.not_false,Bool.or_true,z1f,if_neg (fun h=>hw h.1)];cases fuel with
  |zero=>omega
  |succ fuel=>
   rw[z4u (s':=((n:Int),⟨r,true⟩,[]))]
   ·rfl
   ·rw[jn_eq];dsimp only;by_cases h0:0<(n:Int)
    ·rw[decide_eq_true h0];rfl
    ·rw[decide_eq_false h0];rfl
end Go.Av
namespace Go.Av
open Go
theorem z71 (b:UInt8)(l:List UInt8):rd1 (ofL (b::l))=ofL l:=by
 unfold rd1;rw[z3z,z2r,List.take_length];rfl
theorem z81 (b:UInt8)(l:List UInt8):(ofL (b::l)).size≠0:=by rw[z2r,List.length_cons];omega
theorem z8b {v:Value}(h:goodV v)(r:List UInt8):takeV (ofL (valL v++r))=some (v,ofL r):=by
 unfold valL;cases ht:v.isText with
 |true=>
  obtain⟨hn,hs⟩:=z48 h.1 ht;rw[if_pos rfl,List.cons_append,List.append_assoc];rw[z5w (z81 _ _) (by rw[z2x];rfl) rfl,z71];have e:tkTxt (ofL (cb v.s.size (kOf v.s.size)++(v.s.data.toList++r)))=(v.s,ofL r,0):=by
   unfold tkTxt;have hl:=z2l v.s
   rw[z5f (by omega),zas,if_neg (by omega),if_neg (by rw[zz7];omega),List.take_left' hl,List.drop_left' hl];rw[←z82]
  rw[e,if_pos ⟨rfl,hs⟩];obtain⟨a,b,c⟩:=v;simp only at ht hn;subst ht;subst hn;rfl
 |false=>
  have hs:=zc1 h.1 ht;rw[if_neg (by simp),List.cons_append];rw[z6u (z81 _ _) (by rw[z2x];rfl) rfl,z71];have e:tkNum (ofL (cb (zz v.n) (kOf (zz v.n))++r))=(v.n,ofL r,0):=by
   unfold tkNum;rw[z5f (zz_lt h.2)];unfold tkN;rw[if_pos rfl,zcn]
  rw[e,if_pos rfl];obtain⟨a,b,c⟩:=v;simp only at ht hs;subst ht;subst hs;rfl
theorem zc5 {v:Value}(h:goodV v){j:Nat}(hj:j<(valL v).length):takeV (ofL ((valL v).take j))=none:=by
 cases j with
 |zero=>exact z8c (by rw[z2r];rfl)
 |succ j=>
  unfold valL at hj ⊢;cases ht:v.isText with
  |true=>
   obtain⟨hn,hs⟩:=z48 h.1 ht;rw[if_pos rfl,List.take_succ_cons];rw[ht,if_pos rfl,List.length_cons,zz7,z0x,z2l]at hj;rw[z5w (z81 _ _) (by rw[z2x];rfl) rfl,z71];refine if_neg (fun hc=>?_);have hc:=hc.1
   unfold tkTxt at hc;rcases Nat.lt_or_ge j (kOf v.s.size)with h1|h1
   ·rw[z6v (by omega) _ h1]at hc;unfold tkT at hc;simp at hc
   ·rw[List.take_append,z0x,List.take_of_length_le (by rw[z0x];exact h1),z5f (by omega),zas,if_neg (by omega),if_pos (by rw[List.length_take,z2l];omega)]at hc;simp at hc
  |false=>
   rw[if_neg (by simp),List.take_succ_cons];rw[ht,if_neg (by simp),List.length_cons,z0x]at hj;rw[z6u (z81 _ _) (by rw[z2x];rfl) rfl,z71];refine if_neg (fun hc=>?_);unfold tkNum at hc;have:=z6v (zz_lt h.2) [] (j:=j) (by omega)
   rw[List.append_nil]at this;rw[this]at hc;unfold tkN at hc;simp at hc
theorem z7b: ∀{p:List Value},(∀v∈p,goodV v)→ ∀r,z2j p.length (ofL (rowL p++r))=some (p,ofL r)
 |[],_,r=>rfl
 |v::p,h,r=>by
  have e:rowL (v::p)++r=valL v++(rowL p++r):=by unfold rowL;rw[List.flatMap_cons,List.append_assoc]
  show(takeV (ofL (rowL (v::p)++r))).bind _=_;rw[e,z8b (h v (zz5 ..)),zz3];show(z2j p.length (ofL (rowL p++r))).bind _=_;rw[z7b (fun x hx=>h x (zz4 _ hx)) r];rfl
theorem z8d: ∀{p:List Value},(∀v∈p,goodV v)→ ∀{j:Nat},j<(rowL p).length→z2j p.length (ofL ((rowL p).take j))=none
 |[],_,j,hj=>absurd hj (Nat.not_lt_zero _)
 |v::p,h,j,hj=>by
  have e:rowL (v::p)=valL v++rowL p:=by unfold rowL;rw[List.flatMap_cons]
  have hg:=h v (zz5 ..);rw[e,zz7]at hj;show(takeV (ofL ((rowL (v::p)).take j))).bind _=_;rw[e];rcases Nat.lt_or_ge j (valL v).length with h1|h1
  ·have:(valL v++rowL p).take j=(valL v).take j:=by rw[List.take_append_of_le_length (by omega)]
   rw[this,zc5 hg h1];rfl
  ·rw[List.take_append,List.take_of_length_le h1,z8b hg,zz3];show(z2j p.length _).bind _=_;rw[z8d (fun x hx=>h x (zz4 _ hx)) (by omega)];rfl
theorem za3 {p:List Value}(hl:p.length≤8)(h: ∀v∈p,goodV v)(r:List UInt8):z4e (ofL (encR p++r))=some (p,ofL r):=by
 unfold z4e encR;rw[List.append_assoc,z5f (by omega),if_pos ⟨rfl,by show(p.length:Int)≤8;omega⟩];show z2j (p.length:Int).toNat _=_;rw[Int.toNat_natCast];exact z7b h r
theorem zah {p:List Value}(hl:p.length≤8)(h: ∀v∈p,goodV v){j:Nat}(hj:j<(encR p).length):z4e (ofL ((encR p).take j))=none:=by
 unfold z4e;unfold encR at hj ⊢;rw[zz7,z0x]at hj;rcases Nat.lt_or_ge j (kOf p.length)with h1|h1
 ·rw[z6v (by omega) _ h1,if_neg (by simp)]
 ·rw[List.take_append,z0x,List.take_of_length_le (by rw[z0x];exact h1),z5f (by omega),if_pos ⟨rfl,by show(p.length:Int)≤8;omega⟩];show z2j (p.length:Int).toNat _=_;rw[Int.toNat_natCast];exact z8d h (by omega)
theorem zcf:z27 100000000=some true:=by kernel_rfl
theorem z8i {p:List Value}{r:ByteArray}{n:Int}(h64: ∀v∈p,in64 v.n)(hr:r.size≤1048576):z1a 100000000 p r n=some true:=by
 unfold z1a;rw[zcf,zz3,Bool.not_true,z0p,zbq h64,zz3];cases ho:okRow p with
 |false=>
  rw[if_neg (by simp)];dsimp only;rw[decide_eq_false (by omega),Bool.not_false,z1f,jn_eq,z5v,z1f,z66,ho];rfl
 |true=>
  obtain⟨ha,hl⟩:=z91 ho;have hg: ∀v∈p,goodV v:=fun v hv=>⟨List.all_eq_true.1 ha v hv,h64 v hv⟩
  have hk:=(z6o (n:=p.length) (by omega)).2;have hrl:=z7h hg
  have hel:(encR p).length≤700:=by unfold encR;rw[zz7,z0x];omega
  have hes:(ofL (encR p)).size=(encR p).length:=z2r _;rw[if_pos rfl];dsimp only;have hcat:ofL (encR p)++r=ofL (encR p++r.data.toList):=by
   conv=>lhs;rw[z82 r]
   rw[z80]
  rw[decide_eq_true rfl,Bool.not_true,z0p,z0j (by omega),zar (by rw[ByteArray.size_append];unfold maxN;omega) (by omega),zz3];have hT:tkR (ofL (encR p)++r)=(p,r,0):=by
   unfold tkR;rw[hcat,za3 hl hg,←z82]
  rw[hT,jn_eq];dsimp only;rw[decide_eq_true rfl,Bool.not_true,z0p,z5v,Bool.not_true,z0p,zc3,zz3,Bool.not_true,z0p,jn_eq];by_cases h0:n<0
  ·rw[decide_eq_true h0];rfl
  ·rw[decide_eq_false h0,z0p];by_cases h1:((ofL (encR p)).size:Int)≤n
   ·rw[decide_eq_true h1];rfl
   ·rw[decide_eq_false h1];dsimp only;rw[z0p,z0j (by omega)];have hx:(ofL (encR p)).extract 0 n.toNat=ofL ((encR p).take n.toNat):=by
     rw[z3z];rfl
    rw[hx,zar (by rw[z2r,List.length_take];unfold maxN;omega) (by omega),zz3];have hT2:tkR (ofL ((encR p).take n.toNat))=([],bs [],4):=by
     unfold tkR;rw[zah hl hg (by omega)]
    rw[hT2];rfl
theorem zd1 {p:List Value}(h: ∀x∈p,z70 x): ∀v∈p,in64 v.n:=fun v hv=>by
 have:=Go.bounds_i64 (h v hv).2.1;unfold in64;omega
theorem z9b {p:List Value}{r:ByteArray}{n:Int}(h:p.length≤maxN∧ ∀x∈p,z70 x)(hb:(p.map z6f).sum+1+(r.size+1+(1+0))≤1048576):z1a 100000000 p r n=some true:=z8i (zd1 h.2) (by omega)
end Go.Av
