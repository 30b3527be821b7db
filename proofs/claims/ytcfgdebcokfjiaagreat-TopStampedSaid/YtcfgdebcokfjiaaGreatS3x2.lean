import Derived.Test.YtcfgdebcokfjiaaGreatS3x1
import Derived.Laws.Externs
import Derived.Lib.Join
import Derived.Lib.Overlaps
import Derived.Shelf.Strings.OnBuilder
import Derived.Shelf.Lay
import Derived.Ground.NamesProg
import Derived.Test.YtcfgdebcokfjiaaGreatProg
import Derived.Shelf.Strings.Builder1
import Derived.Shelf.Strings.BuilderF
import Derived.Shelf.Strings.BuilderK
import Derived.WalkKit
import Derived.BigCall
set_option maxRecDepth 100000
set_option linter.unusedVariables false
set_option linter.unusedSimpArgs false
set_option linter.unusedSectionVars false
open Go.IntKind renaming i64→zzi, u64→zzu
open Inhabited renaming default→zzd
open Go.Result renaming andThen_ok→zz1
open Array renaming length_toList→zz2
open Nat renaming eq_of_beq_eq_true→zz3, zero_add→zz6, le_refl→zz9, le_of_ble_eq_true→zzc
open Go.Sem renaming run_bind→zz4, run_pure→zzb
open List renaming mem_cons_self→zz5, mem_cons_of_mem→zz8, length_set→zza, length_append→zze, mem_singleton→zzf, length_cons→zzg, mem_append→zzh
/-
 Av,part U:from a function that may have no answer to a walk.
-/
namespace Go.Av
open Go
inductive Ctl (S R:Type) where
 |next (s:S)
 |brk (s:S)
 |ret (r:R)
inductive Out (S R:Type) where
 |done (s:S)
 |ret (r:R)
section
variable {S R Q A:Type}
def z0n (B:Nat→S→Option (Ctl S R)):Nat→Nat→S→Option (Out S R)
 |0,_,s=>some (.done s)
 |k+1,i,s=>match B i s with
  |none=>none
  |some (.next s')=>z0n B k (i+1) s'
  |some (.brk s')=>some (.done s')
  |some (.ret r)=>some (.ret r)
def loopN (B:S→Option (Ctl S R)):Nat→S→Option (Out S R)
 |0,_=>none
 |k+1,s=>match B s with
  |none=>none
  |some (.next s')=>loopN B k s'
  |some (.brk s')=>some (.done s')
  |some (.ret r)=>some (.ret r)
def outK (o:Option (Out S R))(kn:S→Option Q)(kr:R→Option Q):Option Q:=
 match o with
 |none=>none
 |some (.done s)=>kn s
 |some (.ret r)=>kr r
def need (c:Prop)[Decidable c](k:Option Q):Option Q:=if c then k else none
def bf (b:Bool)(x y:Option Q):Option Q:=match b with|true=>x|false=>y
def jn (j:A→Option Q)(k:(A→Option Q)→Option Q):Option Q:=k j
theorem z03 {c:Prop}[Decidable c]{k:Option Q}{q:Q}(h:need c k=some q):c∧k=some q:=by
 unfold need at h;split at h
 ·exact⟨by assumption,h⟩
 ·cases h
theorem bind_elim {o:Option A}{k:A→Option Q}{q:Q}(h:o.bind k=some q): ∃a,o=some a∧k a=some q:=by
 cases o with
 |none=>cases h
 |some a=>exact⟨a,rfl,h⟩
theorem z2m {b:Bool}{u v:Option Q}{q:Q}(h:bf b u v=some q):(b=true∧u=some q)∨(b=false∧v=some q):=by
 cases b
 ·exact .inr ⟨rfl,h⟩
 ·exact .inl ⟨rfl,h⟩
theorem zfp {o:Option (Out S R)}{kn:S→Option Q}{kr:R→Option Q}{q:Q}(h:outK o kn kr=some q):
 (∃s,o=some (.done s)∧kn s=some q)∨ ∃r,o=some (.ret r)∧kr r=some q:=by
 unfold outK at h;split at h
 ·cases h
 ·exact .inl ⟨_,rfl,h⟩
 ·exact .inr ⟨_,rfl,h⟩
end
section
variable {E:Env} {s:St} {S R Q A:Type} {post:Exit→St→Prop} {q:Q}
@[reducible] def thenJ (σ:A→St) (j:A→Option Q) (q:Q) (post:Exit→St→Prop):Exit→St→Prop
 | .normal,s=> ∃a,j a=some q∧s=σ a
 |e,s=>post e s
@[reducible] def thenS (E:Env) (y:Code) (post:Exit→St→Prop):Exit→St→Prop
 | .normal,s=>Tri E y s post
 |e,s=>post e s
@[reducible] def inB' (id:Nat) (post:Exit→St→Prop):Exit→St→Prop
 | .exit id',s=>match Nat.beq id' id with|true=>post .normal s|false=>post (.exit id') s
 |e,s=>post e s
theorem z02 {x y:Code}(h:Tri E x s (thenS E y post)):Tri E (.seq x y) s post:=
 Tri.seq (h.mono fun e s hp=>by cases e<;>exact hp)
theorem z0f {x y:Code}(σ:A→St){j:A→Option Q}{k:(A→Option Q)→Option Q}(h:jn j k=some q)(hy: ∀a,j a=some q→Tri E y (σ a) post)
 (hx: ∀j',k j'=some q→Tri E x s (thenJ σ j' q post)):Tri E (.seq x y) s post:=
 z02 ((hx j h).mono fun e s hp=>by
  cases e with
  |normal=>obtain⟨a,h1,rfl⟩:=hp;exact hy a h1
  |_=>exact hp)
theorem z0y {id:Nat}{c:Code}(h:Tri E c s (inB' id post)):Tri E (.block id c) s post:=
 Tri.block (h.mono fun e s hp=>by
  cases e with
  |exit id'=>
   show if id'=id then _ else _;have hp:(match Nat.beq id' id with|true=>post .normal s|false=>post (.exit id') s):=hp
   cases hb:Nat.beq id' id with
   |true=>rw[if_pos (zz3 hb)];rw[hb]at hp;exact hp
   |false=>
    have:id'≠id:=fun e=>by rw[e]at hb;simp at hb
    rw[if_neg this];rw[hb]at hp;exact hp
  |_=>exact hp)
theorem zj7 {c:Operand}{x y:Code}{b:Bool}{u v:Option Q}(hb:evO s c=some (.c (.d (.bool b)))) (h:bf b u v=some q) (ht:u=some q→Tri E x s post) (hf:v=some q→Tri E y s post):
 Tri E (.cond c x y) s post:=
 Tri.cond hb (fun e=>ht (by subst e;exact h)) fun e=>hf (by subst e;exact h)
theorem Tri.keep (tk sk:List Nat){s':St}{c:Code}(hk:Av.keep tk sk s=some s')(h:Tri E c s' post):Tri E c s post:=
 Tri.weaken (fun _ _=>zax hk) h
def At (E:Env)(L:List Oper)(i:Nat)(s:St)(K:St→Prop):Prop:=Ops E L.toArray (L.drop i) s K
theorem z05 {id:Nat}{L:List Oper}(h:At E L 0 s (post .normal)):Tri E (.region id L.toArray false) s post:=Tri.region h
variable {L:List Oper} {i:Nat} {K:St→Prop}
theorem At.done (hi:Nat.ble L.length i=true)(h:K s):At E L i s K:=by
 unfold At;rw[List.drop_eq_nil_of_le (zzc hi)];exact Ops.nil h
theorem At.seg (n:Nat)(tk sk:List Nat){s':St}{c:Prop}(he:z56 E.P E.N L.toArray ((L.drop i).take n) tk sk s=some (s',c))(hc:c)(h:At E L (i+n) s' K):At E L i s K:=by
 unfold At at h ⊢;have:=Ops.seg he hc h
 rwa[←List.drop_drop,List.take_append_drop]at this
theorem At.one {o:Oper}(ho:L[i]?=some o){s':St}(h1:One E L.toArray o s s')(h:At E L (i+1) s' K):At E L i s K:=by
 unfold At at h ⊢;obtain⟨hlt,he⟩:=List.getElem?_eq_some_iff.1 ho;rw[List.drop_eq_getElem_cons hlt,he];exact Ops.one h1 h
theorem At.case (f:Bool→St){b:Bool}{u v:Option Q}(h:bf b u v=some q)(ht:u=some q→At E L i (f true) K)(hf:v=some q→At E L i (f false) K):At E L i (f b) K:=by
 cases b
 ·exact hf h
 ·exact ht h
theorem At.keep (tk sk:List Nat){s':St}(hk:Av.keep tk sk s=some s')(h:At E L i s' K):At E L i s K:=
 fun a w hs=>h a w (zax hk hs)
theorem At.call {o:Oper}{cl:Call}{f:FuncId}{caps:List D}{xs args:List AV}{res:AV}(ho:L[i]?=some o)
 (hop:o.op= .call cl) (hw:z0i L.toArray s o=some true) (hd:dstOk E.N o.dst=true) (hc:z5o s cl=some (f,caps)) (hx:z6w s cl caps=some xs)
 (hle:AVsArg s xs args) (hfl:z5u args=true) (hsol:res.solid=true) (hS:Summ E.P f args [] res []) (h:At E L (i+1) (putO s o.dst res) K):At E L i s K:=
 At.one ho (One.call hop hw hd hc hx hle hfl hsol hS) h
theorem At.callP {o:Oper}{cl:Call}{f:FuncId}{caps:List D}{args:List AV}{res:AV}(hS:Summ E.P f args [] res [])(ho:L[i]?=some o)
 (hop:o.op= .call cl) (hw:z0i L.toArray s o=some true) (hd:dstOk E.N o.dst=true) (hc:z5o s cl=some (f,caps)) (hx:z6w s cl caps=some args)
 (hfl:z5u args=true) (hsol:res.solid=true) (h:At E L (i+1) (putO s o.dst res) K):At E L i s K:=
 At.one ho (One.call hop hw hd hc hx (AVsArg.refl _ _) hfl hsol hS) h
theorem At.le (fz:List Nat)(hfz: ∀k∈fz,k∉E.lk)(s':St)(ht:LeT s fz s'.tm)(hs:LeS s fz s'.sl)(h:At E L i s' K):At E L i s K:=
 Ops.le fz hfz s' ht hs h
theorem z4s {X:Type}[Inhabited X](e:X→List D)(xs:List X)(i:Nat)(hi:i<xs.length):e (xs.getD i zzd)=(xs.map e).getD (0+i) []:=by
 rw[zz6,List.getD_eq_getElem?_getD,List.getD_eq_getElem?_getD,List.getElem?_map,List.getElem?_eq_getElem hi];rfl
def z2c (k:IntKind)(n:Int):List D:=[.int k n]
def z1b (s:ByteArray):List D:=[.str s]
def bs (l:List Nat):ByteArray:=⟨(l.map UInt8.ofNat).toArray⟩
theorem Tri.lenOf {t es n:Nat}{get:Nat→List D}{c:Code}(ht:look s.tm t=some (.c (.d (.list es n get)))) (h:n≤maxN→Tri E c s post):Tri E c s post:=fun a w hs=>by
 obtain⟨G,φ,hs'⟩:=hs;obtain⟨v,_,hr⟩:=hs'.tm t _ ht;have hr:RelD G w (.list es n get) v:=hr.1
 have hn:n≤maxN:=by
  cases hr with
  |empty _ _ _ _=>exact Nat.zero_le _
  |list _ _ _ _ _ _ _ _ _ hm _ _ _=>exact hm
 exact h hn a w ⟨G,φ,hs'⟩
theorem zih {t es n:Nat}{get:Nat→List D}{c:Code}(ht:look s.tm t=some (.c (.view es n get)))(h:n≤maxN→Tri E c s post):Tri E c s post:=fun a w hs=>by
 obtain⟨G,φ,hs'⟩:=hs;obtain⟨v,_,hr⟩:=hs'.tm t _ ht;have hn:n≤maxN:=by
  rcases hr.1 with⟨h0,_⟩|⟨_,_,_,_,_,_,hm,_⟩
  ·omega
  ·exact hm
 exact h hn a w ⟨G,φ,hs'⟩
theorem zao {t k es off n N:Nat}{get:Nat→List D}{c:Code}(ht:look s.tm t=some (.c (.own k es off n)))(hk:look s.sl k=some (.vec es N get))(hn:n≤N)(h:n≤maxN→Tri E c s post):Tri E c s post:=fun a w hs=>by
 obtain⟨G,φ,hs'⟩:=hs;obtain⟨h1,_⟩:=hs'.sl k _ hk;exact h (by omega) a w ⟨G,φ,hs'⟩
def idx (ti i:Nat)(s:St):St:=s.put ti (.c (.d (.int .i64 (i:Int))))
@[reducible] def zgf (cid b ti:Nat) (σ F:S→St) (RT:R→St→Prop) (i:Nat):Ctl S R→Exit→St→Prop
 | .next st,.normal,s=>s=idx ti i (σ st)
 | .next st,.exit id,s=>id=cid∧s=idx ti i (σ st)
 | .brk st,.exit id,s=>id=b∧s=F st
 | .ret x,.ret,s=>RT x s
 |_,_,_=>False
@[reducible] def zcf (b:Nat) (σ F:S→St) (RT:R→St→Prop):Ctl S R→Exit→St→Prop
 | .next st,.normal,s=>s=σ st
 | .brk st,.exit id,s=>id=b∧s=F st
 | .ret x,.ret,s=>RT x s
 |_,_,_=>False
@[reducible] def zic (F:S→St) (RT:R→St→Prop):Out S R→Exit→St→Prop
 | .done st,.normal,s=>s=F st
 | .ret x,.ret,s=>RT x s
 |_,_,_=>False
theorem zfa {b:Nat}{c:Code}{B:S→Option (Ctl S R)}(RT:R→St→Prop)(σ F:S→St){fuel:Nat}{st0:S}{o:Out S R}(h:loopN B fuel st0=some o)
 (hround: ∀st r,B st=some r→Tri E c (σ st) (zcf b σ F RT r)):Tri E (.block b (.loop c)) (σ st0) (zic F RT o):=by
 refine Tri.block (Tri.loop (fun n s=> ∃st,s=σ st∧loopN B n st=some o) ?_ (n:=fuel) ⟨st0,rfl,h⟩);rintro n s ⟨st,rfl,hn⟩;cases n with
 |zero=>cases hn
 |succ n=>
  simp only[loopN]at hn;cases hB:B st with
  |none=>rw[hB]at hn;cases hn
  |some r=>
   rw[hB]at hn;refine(hround st r hB).mono fun e s' hp=>?_;cases r with
   |next st'=>
    cases e with
    |normal=>exact⟨n,Nat.lt_succ_self _,st',hp,hn⟩
    |_=>exact hp.elim
   |brk st'=>
    cases hn;cases e with
    |exit id=>
     obtain⟨rfl,rfl⟩:=hp;show inB id _ (.exit id) _;simp[inB]
    |_=>exact hp.elim
   |ret x=>
    cases hn;cases e with
    |ret=>exact hp
    |_=>exact hp.elim
theorem zii {b:Nat}{c:Code}{B:Nat→S→Option (Ctl S R)}(RT:R→St→Prop)(σ:Nat→S→St)(F:S→St){n:Nat}{st0:S}{o:Out S R}(h:z0n B n 0 st0=some o)
 (hround: ∀i st r,i<n→B i st=some r→Tri E c (σ i st) (match r with| .next st'=>fun e s=>e= .normal∧s=σ (i+1) st'| .brk st'=>fun e s=>e= .exit b∧s=F st'| .ret x=>fun e s=>e= .ret∧RT x s))
 (hstop: ∀st,Tri E c (σ n st) (fun e s=>e= .exit b∧s=F st)):Tri E (.block b (.loop c)) (σ 0 st0) (zic F RT o):=by
 refine Tri.block (Tri.loop (fun m s=> ∃i st,m+i=n∧s=σ i st∧z0n B m i st=some o) ?_ (n:=n) ⟨0,st0,by omega,rfl,h⟩);rintro m s ⟨i,st,hm,rfl,hn⟩;cases m with
 |zero=>
  cases hn;have:i=n:=by omega
  subst this;refine(hstop st).mono fun e s' ⟨h1,h2⟩=>?_;subst h1 h2;show inB b _ (.exit b) _;simp[inB]
 |succ m=>
  simp only[z0n]at hn;cases hB:B i st with
  |none=>rw[hB]at hn;cases hn
  |some r=>
   rw[hB]at hn;refine(hround i st r (by omega) hB).mono fun e s' hp=>?_;cases r with
   |next st'=>
    obtain⟨rfl,rfl⟩:=hp;exact⟨m,Nat.lt_succ_self _,i+1,st',by omega,rfl,hn⟩
   |brk st'=>
    cases hn;obtain⟨rfl,rfl⟩:=hp;show inB b _ (.exit b) _;simp[inB]
   |ret x=>
    cases hn;obtain⟨rfl,hp⟩:=hp;exact hp
theorem       z5b {b : Nat} {c : Code} {B : S → Option (Ctl S R)} {kn : S → Option Q} {kr : R → Option Q} {st0 : S} {fuel : Nat} (RT : R → St → Prop) (σ F : S → St)
    (h : outK (loopN B fuel st0) kn kr = some q) (hround : ∀ st r, B st = some r → Tri E c (σ st) (      zcf b σ F RT r))
    (hrest : ∀ st, kn st = some q → post .normal (F st)) (hret : ∀ x s', kr x = some q → RT x s' → post .ret s') : Tri E (.block b (.loop c)) (σ st0) post := by
  obtain ⟨s', ho, hk⟩ | ⟨x, ho, hk⟩ :=       zfp h
  · refine (      zfa RT σ F ho hround).mono fun e s hp => ?_
    cases e with
    | normal => have hp : s = F s' := hp
                subst hp; exact hrest _ hk
    | _ => exact hp.elim
  · refine (      zfa RT σ F ho hround).mono fun e s hp => ?_
    cases e with
    | ret => exact hret _ _ hk hp
    | _ => exact hp.elim
theorem zka {i:Nat}(h:i<maxN):zzi.wrap ((i:Int)+1)=((i+1:Nat):Int):=by
 unfold maxN at h;rw[z1n (by omega) (by omega)];simp
theorem Tri.range {ti tc n b cid id1 id2 : Nat} {L1 L2 : List Oper} {body : Code} {B : Nat → S → Option (Ctl S R)} {kn : S → Option Q} {kr : R → Option Q} {st0 : S} (RT : R → St → Prop) (σ F : S → St) (bb : Nat → Bool)
    (tk sk tkF skF tk2 sk2 : List Nat) (h : outK (   z0n B n 0 st0) kn kr = some q) (hn : n ≤ maxN) (hbc : Nat.beq b cid = false)
    (h1 : ∀ i st, ∃ c,     z56 E.P E.N L1.toArray L1 tk sk (idx ti i (σ st)) = some ((idx ti i (σ st)).put tc (.c (.d (.bool (bb i)))), c) ∧ c)
    (hbt : ∀ i, i < n → bb i = true) (hbf : bb n = false) (hF : ∀ st, Av.keep tkF skF ((idx ti n (σ st)).put tc (.c (.d (.bool false)))) = some (F st))
    (h2 : ∀ i st, ∃ c,     z56 E.P E.N L2.toArray L2 tk2 sk2 (idx ti i (σ st)) = some ((σ st).put ti (.c (.d (.int .i64 (        zzi.wrap ((i : Int) + 1))))), c) ∧ c)
    (hbody : ∀ i st c, i < n → B i st = some c → Tri E body ((idx ti i (σ st)).put tc (.c (.d (.bool true)))) (     zgf cid b ti σ F RT i c))
    (hrest : ∀ st, kn st = some q → post .normal (F st)) (hret : ∀ x s', kr x = some q → RT x s' → post .ret s') :
    Tri E (.block b (.loop (.seq (.region id1 L1.toArray false) (.seq (.cond (.tmp tc) .skip (.exit b)) (.seq (.block cid body) (.region id2 L2.toArray false)))))) (idx ti 0 (σ st0)) post := by
  have hfirst : ∀ i st post', Tri E (.seq (.cond (.tmp tc) .skip (.exit b)) (.seq (.block cid body) (.region id2 L2.toArray false))) ((idx ti i (σ st)).put tc (.c (.d (.bool (bb i))))) post' →
      Tri E (.seq (.region id1 L1.toArray false) (.seq (.cond (.tmp tc) .skip (.exit b)) (.seq (.block cid body) (.region id2 L2.toArray false)))) (idx ti i (σ st)) post' := fun i st post' ht => by
    obtain ⟨c, e1, e2⟩ := h1 i st
    refine      z02 (Tri.region ?_)
    have := Ops.seg (rest := []) e1 e2 (Ops.nil (K := (thenS E _ post') .normal) ht)
    simpa using this
  have hlook : ∀ i st (x : Bool), evO ((idx ti i (σ st)).put tc (.c (.d (.bool x)))) (.tmp tc) = some (.c (.d (.bool x))) := fun i st x => by
    simp [evO, St.put,       z0t]
  obtain ⟨s', ho, hk⟩ | ⟨x, ho, hk⟩ :=       zfp h
  all_goals
    refine (       zii (E := E) (b := b) RT (fun i st => idx ti i (σ st)) F ho (fun i st r hi hB => hfirst i st _ ?_) (fun st => hfirst n st _ ?_)).mono fun e s' hp => ?_
  case inl.refine_1 | inr.refine_1 =>
    rw [hbt i hi]
    refine      z02 (Tri.cond (hlook i st true) (fun _ => Tri.skip ?_) (fun e => by cases e))
    refine      z02 (       z0y ((hbody i st r hi hB).mono fun e s' hp => ?_))
    have fin : ∀ st', s' = idx ti i (σ st') → Tri E (.region id2 L2.toArray false) s' (fun e s => e = .normal ∧ s = idx ti (i + 1) (σ st')) := fun st' e => by
      subst e
      obtain ⟨c, e1, e2⟩ := h2 i st'
      refine Tri.region ?_
      have := Ops.seg (rest := []) e1 e2 (Ops.nil (K := fun s => Exit.normal = .normal ∧ s = idx ti (i + 1) (σ st')) ⟨rfl, by rw [      zka (by omega)]; rfl⟩)
      simpa using this
    cases r with
    | next st' =>
      cases e with
      | normal => exact fin st' hp
      | exit id =>
        obtain ⟨rfl, hp⟩ := hp
        show (match Nat.beq id id with | true => _ | false => _)
        rw [Nat.beq_refl]
        exact fin st' hp
      | _ => exact hp.elim
    | brk st' =>
      cases e with
      | exit id =>
        obtain ⟨rfl, hp⟩ := hp
        show (match Nat.beq id cid with | true => _ | false => _)
        rw [hbc]
        exact ⟨rfl, hp⟩
      | _ => exact hp.elim
    | ret x =>
      cases e with
      | ret => exact ⟨rfl, hp⟩
      | _ => exact hp.elim
  case inl.refine_2 | inr.refine_2 =>
    rw [hbf]
    refine      z02 (Tri.cond (hlook n st false) (fun e => by cases e) (fun _ => Tri.keep tkF skF (hF st) (Tri.exit ⟨rfl, rfl⟩)))
  case inl.refine_3 =>
    cases e with
    | normal => have hp : s' = F _ := hp
                subst hp; exact hrest _ hk
    | _ => exact hp.elim
  case inr.refine_3 =>
    cases e with
    | ret => exact hret _ _ hk hp
    | _ => exact hp.elim
end
end Go.Av
/-
 Av,part W:rules over lists.
-/
namespace Go.Av
open Go
theorem z9h {X:Type}[Inhabited X](e:X→List D)(xs:List X)(m:Nat): ∀i,i<m→e (xs.getD i zzd)=(fun i=>e (xs.getD i zzd)) (0+i):=fun i _=>by
 show _=e (xs.getD (0+i) zzd);rw[zz6]
theorem zgr {X:Type}[Inhabited X](xs ys:List X)(i:Nat):(xs++ys).getD i zzd=if i<xs.length then xs.getD i zzd else ys.getD (i-xs.length) zzd:=by
 simp only[List.getD_eq_getElem?_getD,List.getElem?_append];split<;>rfl
section
variable {E:Env} {s:St} {X:Type} [Inhabited X]
theorem AppOk.of {P:Program}{sT xT e:TypeId}{es:Nat}(e':TypeId)(bs:Nat)(z:List C)(h1:P.underlying sT=some (.slice e))(h2:P.underlying xT=some (.slice e'))(h3:sizeT P e=some es)
 (h4:z94 P e=some bs) (h5:Nat.ble bs 256=true) (h6:zeroCells P e=some z) (h7:Nat.beq z.length es=true):AppOk P sT xT e es:=
 ⟨h1,⟨e',h2⟩,h3,⟨bs,h4,zzc h5⟩,⟨z,h6,zz3 h7⟩⟩
theorem z7g {ops:Array Oper}{o:Oper}{t e:TypeId}{es d:Nat}
 (hop:o.op= .buildSlice t 0 #[]) (hw:z0i ops s o=some true) (hd:o.dst=some d) (hlt:Nat.blt d E.N=true) (hu:E.P.underlying t=some (.slice e)) (hsz:sizeT E.P e=some es):
 One E ops o s (s.put d (.c .zero)):=fun a w hs=>by
 obtain⟨G,φ,h⟩:=hs;refine⟨z1r h hw,fun next Q hn=>?_⟩;have hrun:(Instr.buildSlice t 0 ((#[]:Array (Nat×Operand)).map fun p=>(p.1,a.eval p.2))).run E.P w= .ok (.slice (some ⟨w.heap.size,0,none⟩) 0 0) (w.alloc (.cells #[] e)):=by
  unfold Instr.buildSlice;simp only[zz4,run_underlying hu,zz1,z21 hsz];have hr0: ∀f:Nat→Value,(Array.range 0).map f= #[]:=fun f=>by simp
  simp[z5j,Instr.fill,hr0]
 unfold Oper.wp;have he:execOp a.eval o=(do pure (.value (←Instr.buildSlice t 0 ((#[]:Array (Nat×Operand)).map fun p=>(p.1,a.eval p.2)))):Sem Next):=by unfold execOp;rw[hop]
 rw[he];simp only[zz4,hrun,zz1,zzb,Oper.upon,hd];have hk:Keep w.heap.size (fun _=>False) w (w.alloc (.cells #[] e)):=⟨rfl,rfl,rfl,by simp,fun b hb _=>by
  show(w.heap.push _)[b]?=_;rw[Array.getElem?_push,if_neg (by omega)]⟩
 have hg:=h.grow hk (fun _ hb=>hb) (fun _ hb=> .inl hb) fun b hb=>by have:=h.gsz b hb;simp;omega
 exact hn _ _ ⟨G,φ,hg.put (Nat.blt_eq.mp hlt) (z0b ⟨_,rfl⟩ rfl)⟩
theorem z5m {ops:Array Oper}{o:Oper}{d k:Nat}{sT xT e:TypeId}{es:Nat}{b x:Operand}{y:AV}(enc:X→List D)(xs ys:List X)(hkx:anyB (Nat.beq k) E.fx=false)
 (hop:o.op= .call ⟨.builtin .append, #[b,x], #[sT,xT]⟩) (hw:z0i ops s o=some true) (hd:o.dst=some d) (hlt:Nat.blt d E.N=true)
 (hok:AppOk E.P sT xT e es) (hb:evO s b=some (.c (.own k es 0 xs.length))) (hk:look s.sl k=some (.vec es xs.length (fun i=>enc (xs.getD i zzd)))) (hx:evO s x=some y)
 (hsrc:SrcOf s y es ys.length (fun i=>enc (ys.getD i zzd))) (hlim:xs.length+ys.length≤lim):
 One E ops o s (((s.drop k).slot k (.vec es (xs++ys).length (fun i=>enc ((xs++ys).getD i zzd)))).put d (.c (.own k es 0 (xs++ys).length))):=by
 have:=zfw hkx hop hw hd hlt hok hb hk (zz9 _) hx hsrc hlim;rw[zze];have hg:z7i xs.length (fun i=>enc (xs.getD i zzd)) (fun i=>enc (ys.getD i zzd))=fun i=>enc ((xs++ys).getD i zzd):=by
  funext i;unfold z7i;rw[zgr];split<;>rfl
 rw[hg]at this;exact this
theorem zf9 {ops:Array Oper}{o:Oper}{d:Nat}{t e:TypeId}{es bs:Nat}{ln cp:Operand}{kn kc:IntKind}{n c:Int}{z:List C}(enc:X→List D)(x:X)
 (hop:o.op= .makeSlice t ln cp) (hw:z0i ops s o=some true) (hd:o.dst=some d) (hlt:Nat.blt d E.N=true) (hnr:s.noRef d=true)
 (hu:E.P.underlying t=some (.slice e)) (hsz:sizeT E.P e=some es) (hes:Nat.blt 0 es=true) (hbs:z94 E.P e=some bs) (hb:Nat.ble bs 256=true)
 (hz:zeroCells E.P e=some z) (hze:Nat.beq z.length es=true) (hcs:CsLe s [] z ((enc x).map .d)) (hdl:Nat.beq (enc x).length es=true)
 (hn:evO s ln=some (.c (.d (.int kn n)))) (hc:evO s cp=some (.c (.d (.int kc c)))) (hb0:0≤n) (hnc:n≤c) (hlim:c≤lim) (hdef:enc zzd=enc x):
 One E ops o s ((s.slot d (.vec es (List.replicate n.toNat x).length (fun i=>enc ((List.replicate n.toNat x).getD i zzd)))).put d (.c (.own d es 0 (List.replicate n.toNat x).length))):=by
 have:=One.makeSlice hop hw hd hlt hnr hu hsz hes hbs hb hz hze hcs hdl hn hc hb0 hnc hlim;rw[List.length_replicate];have hg:(fun _:Nat=>enc x)=fun i=>enc ((List.replicate n.toNat x).getD i zzd):=by
  funext i;rw[List.getD_eq_getElem?_getD,List.getElem?_replicate];split
  ·rfl
  ·exact hdef.symm
 rw[hg]at this;exact this
theorem z0p {ops:Array Oper}{o:Oper}{t:TypeId}{p v:Operand}{k es i o0 sz:Nat}{y:AV}{xs:List C}{ds:List D}(enc:X→List D)(ys:List X)(x:X)
 (hop:o.op= .store t p v) (hw:z0i ops s o=some true) (hd:dstOk E.N o.dst=true) (hp:evO s p=some (.c (.vptr k es i o0))) (hk:look s.sl k=some (.vec es ys.length (fun i=>enc (ys.getD i zzd)))) (hi:i<ys.length)
 (hx:evO s v=some y) (hst:z6h y=some xs) (hcs:CsLe s [] xs (ds.map .d)) (hsz:sizeT E.P t=some sz) (hle:Nat.beq sz ds.length=true) (hin:Nat.ble (o0+ds.length) es=true)
 (hwr:wrD (enc (ys.getD i zzd)) o0 ds=enc x):
 One E ops o s (putO (s.slot k (.vec es (ys.set i x).length (fun j=>enc ((ys.set i x).getD j zzd)))) o.dst (.c .any)):=by
 have:=zfy hop hw hd hp hk hi hx hst hcs hsz hle hin;rw[zza];have hg:zch (fun i=>enc (ys.getD i zzd)) i (wrD (enc (ys.getD i zzd)) o0 ds)=fun j=>enc ((ys.set i x).getD j zzd):=by
  funext j;unfold zch;by_cases e:j=i
  ·subst e;rw[if_pos rfl,hwr,List.getD_eq_getElem?_getD,List.getElem?_set_self hi];rfl
  ·rw[if_neg e];show enc (ys.getD j zzd)=enc ((ys.set i x).getD j zzd);rw[List.getD_eq_getElem?_getD,List.getD_eq_getElem?_getD,List.getElem?_set_ne (fun h=>e h.symm)]
 rw[hg]at this;exact this
def sub (xs:List X)(l h:Int):List X:=(xs.drop l.toNat).take (h.toNat-l.toNat)
theorem SimE.newOwn {a:Act}{w:World}(h:SimE E s a w){t k es:Nat}{get:Nat→List D}(hkx:anyB (Nat.beq k) E.fx=false)(hz:look s.tm t=some (.c .zero))(hk:s.noRef k=true):
 SimE E ((s.slot k (.vec es 0 get)).put t (.c (.own k es 0 0))) a w:=by
 obtain⟨G,φ,h⟩:=h;have hs:=h.newVec0 (z70 hkx) hk es get
 obtain⟨v,hv,hr⟩:=h.tm t _ hz;refine⟨G,upd φ k none,{hs with tm:=fun t' x hx=>?_}⟩;simp only[St.put,z0t]at hx;by_cases e:t=t'
 ·subst e;rw[if_pos rfl]at hx;cases hx;obtain⟨A,rfl⟩:=hr.1;exact⟨_,hv,z0b (.inl ⟨rfl,A,rfl⟩) rfl⟩
 ·rw[if_neg e]at hx;exact hs.tm t' x hx
theorem Tri.newOwn {c:Code}{post:Exit→St→Prop}{t k es:Nat}(get:Nat→List D)(hkx:anyB (Nat.beq k) E.fx=false)(hz:look s.tm t=some (.c .zero))(hk:s.noRef k=true)
 (h:Tri E c ((s.slot k (.vec es 0 get)).put t (.c (.own k es 0 0))) post):Tri E c s post:=fun a w hs=>h a w (hs.newOwn hkx hz hk)
theorem At.newOwn {L:List Oper}{i:Nat}{K:St→Prop}{t k es:Nat}(get:Nat→List D)(hkx:anyB (Nat.beq k) E.fx=false)(hz:look s.tm t=some (.c .zero))(hk:s.noRef k=true)
 (h:At E L i ((s.slot k (.vec es 0 get)).put t (.c (.own k es 0 0))) K):At E L i s K:=fun a w hs=>h a w (hs.newOwn hkx hz hk)
theorem At.eqS {L:List Oper}{i:Nat}{K:St→Prop}(s':St)(e:s=s')(h:At E L i s' K):At E L i s K:=e▸h
theorem Tri.eqS {c:Code}{post:Exit→St→Prop}(s':St)(e:s=s')(h:Tri E c s' post):Tri E c s post:=e▸h
theorem At.callA {L:List Oper}{i:Nat}{K:St→Prop}{o:Oper}{cl:Call}{f:FuncId}{caps:List D}{xs args:List AV}{res:AV}(hS:Summ E.P f args [] res [])(ho:L[i]?=some o)
 (hop:o.op= .call cl) (hw:z0i L.toArray s o=some true) (hd:dstOk E.N o.dst=true) (hc:z5o s cl=some (f,caps)) (hx:z6w s cl caps=some xs) (hle:AVsArg s xs args)
 (hfl:z5u args=true) (hsol:res.solid=true) (h:At E L (i+1) (putO s o.dst res) K):At E L i s K:=
 At.one ho (One.call hop hw hd hc hx hle hfl hsol hS) h
theorem AVArg.view {k es:Nat}(enc:X→List D)(xs:List X)(hk:look s.sl k=some (.vec es xs.length (fun i=>enc (xs.getD i zzd)))):
 AVArg s (.c (.own k es 0 xs.length)) (.c (.view es xs.length (fun i=>enc (xs.getD i zzd)))):=
 .c (.own hk (by omega) rfl (z9h enc xs _))
theorem CLe.frozen {k es:Nat}{fz:List Nat}(enc:X→List D)(xs:List X)(hk:look s.sl k=some (.vec es xs.length (fun i=>enc (xs.getD i zzd)))) (hf:k∈fz):
 CLe s fz (.own k es 0 xs.length) (.d (.list es xs.length (fun i=>enc (xs.getD i zzd)))):=
 .own hk hf (by omega) rfl (z9h enc xs _)
theorem zgc {G:Nat→Prop}{φ:Nat→Option Loc}{a:Act}{w:World}{tm:List (Nat×AV)}{sl:List (Nat×Slot)}{k es n:Nat}{get get':Nat→List D}
 (h:Sim E ⟨tm,(k,.vec es n get)::sl⟩ G φ a w) (hg: ∀i,i<n→get' i=get i):Sim E ⟨tm,(k,.vec es n get')::sl⟩ G φ a w:=by
 have hin: ∀k' c,look ((k,Slot.vec es n get')::sl) k'=some c→(k'=k∧c= .vec es n get')∨(k'≠k∧look ((k,Slot.vec es n get)::sl) k'=some c):=fun k' c hc=>by
  rw[z0t]at hc;by_cases e:k=k'
  ·subst e;rw[if_pos rfl]at hc;cases hc;exact .inl ⟨rfl,rfl⟩
  ·rw[if_neg e]at hc;exact .inr ⟨fun x=>e x.symm,by rw[z0t,if_neg e];exact hc⟩
 have hk:look ((k,Slot.vec es n get)::sl) k=some (.vec es n get):=by simp[z0t]
 have hex: ∀k' c,look ((k,Slot.vec es n get')::sl) k'=some c→ ∃c0,look ((k,Slot.vec es n get)::sl) k'=some c0:=fun k' c hc=>by
  rcases hin k' c hc with⟨rfl,_⟩|⟨_,h⟩
  ·exact⟨_,hk⟩
  ·exact⟨_,h⟩
 exact
 {h with
  sl:=fun k' c hc=>by
   rcases hin k' c hc with⟨rfl,rfl⟩|⟨_,hc⟩
   ·obtain⟨h1,h2⟩:=h.sl _ _ hk;exact⟨h1,h2.imp id fun⟨l,hl,hn,ht,he⟩=>⟨l,hl,hn,ht,fun i hi=>by rw[hg i hi];exact he i hi⟩⟩
   ·exact h.sl k' c hc
  inj:=fun k1 k2 c1 c2 l1 l2 h1 h2=>by
   obtain⟨_,h1⟩:=hex _ _ h1;obtain⟨_,h2⟩:=hex _ _ h2;exact h.inj _ _ _ _ _ _ h1 h2
  own:=fun k' c l h1 h2=>by
   obtain⟨_,h1⟩:=hex _ _ h1;exact h.own _ _ _ h1 h2
  fix:=fun k' c hx h1=>by
   obtain⟨_,h1⟩:=hex _ _ h1;exact h.fix _ _ hx h1}
theorem z3o {ops:Array Oper}{o:Oper}{t e:TypeId}{len es d:Nat}{parts:Array (Nat×Operand)}{z cells:List C}(enc:X→List D)(xs:List X)
 (hop:o.op= .buildSlice t len parts) (hw:z0i ops s o=some true) (hd:o.dst=some d) (hlt:Nat.blt d E.N=true) (hnr:s.noRef d=true)
 (hu:E.P.underlying t=some (.slice e)) (hsz:sizeT E.P e=some es) (hz:zeroCells E.P e=some z) (hze:Nat.beq z.length es=true) (hes:Nat.blt 0 es=true) (hle:Nat.ble (len*es) 16777216=true)
 (hf:fillC (fun i=>some (i*es,es)) (repC z (len*es)) (parts.toList.map fun p=>(p.1,evO s p.2))=some cells) (hlen:Nat.beq xs.length len=true) (hall:AllLe s es cells (xs.map enc)):
 One E ops o s ((s.slot d (.vec es xs.length (fun i=>enc (xs.getD i zzd)))).put d (.c (.own d es 0 xs.length))):=by
 have hl:=zz3 hlen;refine(One.buildSlice hop hw hd hlt hnr hu hsz hz hze hes hle hf (by simpa using hlen) hall).weaken fun a w hs=>?_;obtain⟨G,φ,h⟩:=hs;rw[hl];exact⟨G,φ,zgc h fun i hi=>by
  have:=z4s enc xs i (by omega);rw[zz6]at this;exact this⟩
theorem zg0 {P:Program}{w:World}{t e:TypeId}(hu:P.underlying t=some (.slice e))(D:Nat)(A:Option Addr)(n cap:Nat):
 (Op.equalIn (D+1) t (.slice A n cap) (.slice none 0 0)).run P w= .ok A.isNone w:=by
 simp only[Op.equalIn,zz4,run_underlying hu,zz1];cases A<;>rfl
theorem z7b {P:Program}{w:World}{t e:TypeId}{x:Operand}(hu:P.underlying t=some (.slice e))(A:Option Addr)(n cap:Nat):
 (do eqGuard .eql t x (.const (.slice none 0 0)) (.slice A n cap) (.slice none 0 0);Go.binOp .eql t (.slice A n cap) (.slice none 0 0):Sem Value).run P w= .ok (.bool A.isNone) w:=by
 have h1:(eqGuard .eql t x (.const (.slice none 0 0)) (.slice A n cap) (.slice none 0 0)).run P w= .ok () w:=rfl;have h2:(Op.equal t (.slice A n cap) (.slice none 0 0)).run P w= .ok A.isNone w:=zg0 hu 9999 A n cap
 have h3:(Go.binOp .eql t (.slice A n cap) (.slice none 0 0)).run P w= .ok (.bool A.isNone) w:=by
  show(do pure (.bool (←Op.equal t (.slice A n cap) (.slice none 0 0))):Sem Value).run P w=_;simp only[zz4,h2,zz1,zzb]
 simp only[zz4,h1,zz1,h3]
theorem zdn {L:List Oper}{i:Nat}{K:St→Prop}{o:Oper}{t e yt:TypeId}{x:Operand}{es n d:Nat}{get:Nat→List D}(ho:L[i]?=some o)
 (hop:o.op= .binOp .eql t x (.const (.slice none 0 0)) yt) (hw:z0i L.toArray s o=some true) (hd:o.dst=some d) (hlt:Nat.blt d E.N=true)
 (hu:E.P.underlying t=some (.slice e)) (hx:evO s x=some (.c (.d (.list es n get))))
 (h1:n=0→At E L (i+1) (s.put d (.c (.d (.bool true)))) K) (h2:At E L (i+1) (s.put d (.c (.d (.bool false)))) K):At E L i s K:=fun a w hs Q hQ=>by
 obtain⟨hlt',he⟩:=List.getElem?_eq_some_iff.1 ho;rw[List.drop_eq_getElem_cons hlt',he];obtain⟨G,φ,h⟩:=hs;unfold wpList;rw[if_pos (z1r h hw)];left;have hv:RelD G w (.list es n get) (a.eval x):=(h.ev hx).1
 have hex:execOp a.eval o=(do pure (.value (←(do eqGuard .eql t x (.const (.slice none 0 0)) (a.eval x) (.slice none 0 0);Go.binOp .eql t (a.eval x) (.slice none 0 0):Sem Value))):Sem Next):=by unfold execOp;rw[hop];rfl
 have key: ∀b,(do eqGuard .eql t x (.const (.slice none 0 0)) (a.eval x) (.slice none 0 0);Go.binOp .eql t (a.eval x) (.slice none 0 0):Sem Value).run E.P w= .ok (.bool b) w→(b=true→n=0)→o.wp E.P a w (wpList E.P L.toArray Q (L.drop (i+1))) Q:=fun b hb hn=>by
  unfold Oper.wp;rw[hex];simp only[zz4]at hb ⊢;rw[hb];simp only[zz1,zzb,Oper.upon,hd];have hp:SimE E (s.put d (.c (.d (.bool b)))) (a.put (some d) (.bool b)) w:=⟨G,φ,h.put (Nat.blt_eq.mp hlt) (z0b (RelD.bool _) rfl)⟩
  cases b with
  |true=>exact h1 (hn rfl) _ _ hp Q hQ
  |false=>exact h2 _ _ hp Q hQ
 generalize a.eval x=u at*;cases hv with
 |empty _ _ A cap=>
  cases A with
  |none=>exact key true (z7b hu _ _ _) fun _=>rfl
  |some A=>exact key false (z7b hu _ _ _) fun _=>rfl
 |list _ _ _ b off cap vals hG hn hm hc hl hr=>exact key false (z7b hu _ _ _) fun e=>by cases e
theorem z0l {ops:Array Oper}{o:Oper}{x:DOp}(f:Bool→Step){p v:Bool}(hp:p=v)(hw: ∀r,z0i ops (x.need.app r) o=some true)(he: ∀r,z2s E.P (x.need.app r) o.dst o.op=some (f p))(hc:(f v).cond)
 (hok:okDst E.N x.need o.dst (f v)=true) (hm:mksOk x.mks (f v) o.dst=true)
 (heff: ∀r,z8h (x.need.app r) o.dst (f v)=x.eff.app (x.need.app r)):DOk E ops o x:=
 DOk.step (f v) hw (fun r=>hp▸he r) hc hok hm heff
theorem DOk.callA {ops:Array Oper}{o:Oper}{x:DOp}{cl:Call}{f:FuncId}{caps:List D}{xs args:List AV}{res:AV}(hS:Summ E.P f args [] res [])
 (hop:o.op= .call cl) (hw: ∀r,z0i ops (x.need.app r) o=some true) (hd:dstOk E.N o.dst=true) (hc: ∀r,z5o (x.need.app r) cl=some (f,caps)) (hx: ∀r,z6w (x.need.app r) cl caps=some xs)
 (hle: ∀r,AVsArg (x.need.app r) xs args) (hfl:z5u args=true) (hsol:res.solid=true) (heff: ∀r,putO (x.need.app r) o.dst res=x.eff.app (x.need.app r)):DOk E ops o x:=DOk.one fun r _=>by
 rw[←heff r];exact One.call hop (hw r) hd (hc r) (hx r) (hle r) hfl hsol hS
theorem dropR_noRef {k:Nat}{cs:List C}(h:anyB (C.refs k) cs=false):cs.map (C.dropR k)=cs:=by
 have key: ∀c∈cs,c.dropR k=c:=fun c hc=>by
  unfold C.dropR;rw[z1t h c hc]
 exact(List.map_congr_left key).trans (List.map_id _)
theorem AV.dropR_noRef {k:Nat}{x:AV}(h:x.refs k=false):x.dropR k=x:=by
 cases x with
 |c x=>
  have h':C.refs k x=false:=h;show AV.c (x.dropR k)=AV.c x;unfold C.dropR;rw[h']
 |agg xs=>show AV.agg (xs.map (C.dropR k))=AV.agg xs;rw[Av.dropR_noRef h]
 |tup vs=>
  show AV.tup (vs.map fun p=>(p.1,p.2.map (C.dropR k)))=AV.tup vs;have key: ∀p∈vs,(fun p:Bool×List C=>(p.1,p.2.map (C.dropR k))) p=p:=fun p hp=>by
   have:=z1t h p hp;simp only[Av.dropR_noRef this]
  rw[List.map_congr_left key];simp
theorem zbg {k:Nat}: ∀{l:List (Nat×AV)},(∀e∈l,e.2.refs k=false)→z3u k l=l
 |[],_=>rfl
 |(t,x)::l,h=>by
  simp only[z3u,AV.dropR_noRef (h (t,x) (zz5 ..)),zbg fun e he=>h e (zz8 _ he)]
theorem zbf {k:Nat}: ∀{l:List (Nat×Slot)},(∀e∈l,e.1≠k∧e.2.refs k=false)→z2v k l=l
 |[],_=>rfl
 |(j,c)::l,h=>by
  obtain⟨h1,h2⟩:=h (j,c) (zz5 ..);have hb:Nat.beq j k=false:=by
   cases hb:Nat.beq j k with
   |false=>rfl
   |true=>exact absurd (zz3 hb) h1
  have hc:c.dropR k=c:=by
   cases c with
   |vec es n get=>rfl
   |box cs=>show Slot.box (cs.map (C.dropR k))=Slot.box cs;rw[Av.dropR_noRef h2]
  simp only[z2v,hb,hc,zbf fun e he=>h e (zz8 _ he)]
theorem zad {k:Nat}: ∀(l r:List (Nat×AV)),z3u k (l++r)=z3u k l++z3u k r
 |[],_=>rfl
 |(t,x)::l,r=>by simp only[List.cons_append,z3u,zad l r]
theorem zac {k:Nat}: ∀(l r:List (Nat×Slot)),z2v k (l++r)=z2v k l++z2v k r
 |[],_=>rfl
 |(j,c)::l,r=>by
  simp only[List.cons_append,z2v];cases Nat.beq j k<;>simp[zac l r]
theorem DOk.drop {ops:Array Oper}{o:Oper}{x:DOp}{k d:Nat}{v:Slot}{av:AV}(hk:memB k x.mks=true)
 (h: ∀r:St,(∀d∈x.mks,r.noRef d=true)→One E ops o (x.need.app r) ((((x.need.app r).drop k).slot k v).put d av))
 (h1:(z13 (x.eff.tm++x.need.tm)).map (look (x.eff.tm++x.need.tm))=(z13 (x.eff.tm++x.need.tm)).map (look ((d,av)::z3u k x.need.tm)))
 (h2:allB (fun t=>z0x t (x.eff.tm++x.need.tm)) (z13 ((d,av)::z3u k x.need.tm))=true)
 (h3:(z13 (x.eff.sl++x.need.sl)).map (look (x.eff.sl++x.need.sl))=(z13 (x.eff.sl++x.need.sl)).map (look ((k,v)::z2v k x.need.sl)))
 (h4:allB (fun t=>z0x t (x.eff.sl++x.need.sl)) (z13 ((k,v)::z2v k x.need.sl))=true):DOk E ops o x:=DOk.one fun r hr=>by
 obtain⟨n1,n2⟩:=z34 (hr k (z1x.1 hk));refine(h r hr).weaken fun a w hs=>hs.weaken (fun t y hy=>?_) fun t y hy=>?_
 ·have e:look (x.eff.app (x.need.app r)).tm t=look (((d,av)::z3u k x.need.tm)++r.tm) t:=by
   have:=cover (r:=r.tm) h1 h2 t;rw[←this];show look (x.eff.tm++(x.need.tm++r.tm)) t=_;rw[List.append_assoc]
  rw[e]at hy;show look ((d,av)::z3u k (x.need.tm++r.tm)) t=some y;rw[zad,zbg n1];exact hy
 ·have e:look (x.eff.app (x.need.app r)).sl t=look (((k,v)::z2v k x.need.sl)++r.sl) t:=by
   have:=cover (r:=r.sl) h3 h4 t;rw[←this];show look (x.eff.sl++(x.need.sl++r.sl)) t=_;rw[List.append_assoc]
  rw[e]at hy;show look ((k,v)::z2v k (x.need.sl++r.sl)) t=some y;rw[zac,zbf n2];exact hy
end
end Go.Av
/-
 Av,part X:calls that get variables of the caller's to write.
-/
namespace Go.Av
open Go
def renN (ρ:List (Nat×Nat))(k:Nat):Nat:=match look ρ k with|some k'=>k'|none=>k
def CC.ren (ρ:List (Nat×Nat)):CC→CC
 | .d x=> .d x
 | .ptr k o=> .ptr (renN ρ k) o
def C.ren (ρ:List (Nat×Nat)):C→C
 | .ptr k o=> .ptr (renN ρ k) o
 | .vptr k es i o=> .vptr (renN ρ k) es i o
 | .own k es off n=> .own (renN ρ k) es off n
 | .bsl k o es n=> .bsl (renN ρ k) o es n
 | .clo f n caps=> .clo f n (caps.map (CC.ren ρ))
 |c=>c
def AV.ren (ρ:List (Nat×Nat)):AV→AV
 | .c x=> .c (x.ren ρ)
 | .agg xs=> .agg (xs.map (C.ren ρ))
 | .tup vs=> .tup (vs.map fun p=>(p.1,p.2.map (C.ren ρ)))
def Slot.ren (ρ:List (Nat×Nat)):Slot→Slot
 | .box cs=> .box (cs.map (C.ren ρ))
 | .vec es n get=> .vec es n get
def CC.inK (ks:List Nat):CC→Bool
 | .d _=>true
 | .ptr k _=>anyB (Nat.beq k) ks
def allC {α:Type}(f:α→Bool):List α→Bool
 |[]=>true
 |x::r=>match f x with|true=>allC f r|false=>false
theorem z28 {α:Type}{f:α→Bool}: ∀{l:List α},allC f l=true→ ∀x∈l,f x=true
 |[],_,x,hx=>by cases hx
 |y::r,h,x,hx=>by
  simp only[allC]at h;split at h
  ·rename_i hy
   rcases List.mem_cons.1 hx with rfl|hx
   ·exact hy
   ·exact z28 h x hx
  ·cases h
def C.lent (ks:List Nat):C→Bool
 | .any=>true
 | .d _=>true
 | .zero=>true
 | .ptr k _=>anyB (Nat.beq k) ks
 | .vptr k _ _ _=>anyB (Nat.beq k) ks
 | .own k _ _ _=>anyB (Nat.beq k) ks
 | .bsl k _ _ _=>anyB (Nat.beq k) ks
 | .clo _ _ caps=>allC (CC.inK ks) caps
 | .raw _=>true
 |_=>false
def AV.lent (ks:List Nat):AV→Bool
 | .c x=>x.lent ks
 | .agg xs=>allC (C.lent ks) xs
 | .tup vs=>allC (fun p:Bool×List C=>allC (C.lent ks) p.2) vs
def Slot.lent (ks:List Nat):Slot→Bool
 | .box cs=>allC (C.lent ks) cs
 | .vec _ _ _=>true
theorem z39 {k:Nat}{ks:List Nat}:anyB (Nat.beq k) ks=true↔k∈ks:=by
 constructor
 ·intro h;induction ks with
  |nil=>cases h
  |cons y r ih=>
   simp only[anyB]at h;split at h
   ·rename_i e;rw[zz3 e];exact zz5 ..
   ·exact zz8 _ (ih h)
 ·intro h;exact z87 h (by simp)
section
variable {G V V':Nat→Prop} {φ ψ:Nat→Option Loc} {w:World} {ρ:List (Nat×Nat)} {ks:List Nat}
def Agree (ρ:List (Nat×Nat))(ks:List Nat)(φ ψ:Nat→Option Loc):Prop:= ∀k∈ks,ψ (renN ρ k)=φ k
theorem CC.ren_rel (ha:Agree ρ ks φ ψ){x:CC}{v:Value}(hk:x.inK ks=true):RelCC G ψ w (x.ren ρ) v↔RelCC G φ w x v:=by
 cases x with
 |d x=>exact Iff.rfl
 |ptr k o=>
  have:=ha k (z39.1 hk);simp only[CC.ren,RelCC,this]
theorem C.ren_rel (ha:Agree ρ ks φ ψ){x:C}{v:Value}(hk:x.lent ks=true):RelC G V ψ w (x.ren ρ) v↔RelC G V' φ w x v:=by
 cases x with
 |any=>exact Iff.rfl
 |d x=>exact Iff.rfl
 |zero=>exact Iff.rfl
 |raw u=>exact Iff.rfl
 |view es n get=>cases hk
 |eptr cells=>cases hk
 |ptr k o=>simp only[C.ren,RelC,ha k (z39.1 hk)]
 |vptr k es i o=>simp only[C.ren,RelC,ha k (z39.1 hk)]
 |own k es off n=>simp only[C.ren,RelC,ha k (z39.1 hk)]
 |bsl k o es n=>simp only[C.ren,RelC,ha k (z39.1 hk)]
 |clo f n caps=>
  have hk:allC (CC.inK ks) caps=true:=hk;have hm:=z28 hk
  have key: ∀j u,j<caps.length→(RelCC G ψ w ((caps.map (CC.ren ρ)).getD j zzd) u↔RelCC G φ w (caps.getD j zzd) u):=fun j u hj=>by
   have e1:caps.getD j zzd=caps[j]:=by rw[List.getD_eq_getElem?_getD,List.getElem?_eq_getElem hj];rfl
   have e2:(caps.map (CC.ren ρ)).getD j zzd=caps[j].ren ρ:=by rw[List.getD_eq_getElem?_getD,List.getElem?_map,List.getElem?_eq_getElem hj];rfl
   rw[e1,e2];exact CC.ren_rel ha (hm _ (List.getElem_mem hj))
  simp only[C.ren,RelC,List.length_map];constructor
  ·rintro⟨vs,e,hl,hr⟩;exact⟨vs,e,hl,fun j hj=>(key j _ hj).1 (hr j hj)⟩
  ·rintro⟨vs,e,hl,hr⟩;exact⟨vs,e,hl,fun j hj=>(key j _ hj).2 (hr j hj)⟩
theorem RelCs.ren (ha:Agree ρ ks φ ψ): ∀{cs:List C} {vs:List Value},allC (C.lent ks) cs=true→(RelCs (RelC G V ψ w) (cs.map (C.ren ρ)) vs↔RelCs (RelC G V' φ w) cs vs)
 |[],[],_=>Iff.rfl
 |c::cs,v::vs,h=>by
  have h1:=z28 h c (zz5 ..);have h2:allC (C.lent ks) cs=true:=by simp only[allC,h1]at h;exact h
  exact and_congr (C.ren_rel ha h1) (RelCs.ren ha h2)
 |[],_::_,_=>Iff.rfl
 |_::_,[],_=>Iff.rfl
theorem RelSs.ren (ha:Agree ρ ks φ ψ): ∀{xs:List (Bool×List C)} {vs:List Value},allC (fun p:Bool×List C=>allC (C.lent ks) p.2) xs=true→
 (RelSs (RelC G V ψ w) (xs.map fun p=>(p.1,p.2.map (C.ren ρ))) vs↔RelSs (RelC G V' φ w) xs vs)
 |[],[],_=>Iff.rfl
 |p::xs,u::vs,h=>by
  have hp:=z28 h p (zz5 ..);have h2:allC (fun p:Bool×List C=>allC (C.lent ks) p.2) xs=true:=by simp only[allC,hp]at h;exact h
  refine and_congr ?_ (RelSs.ren ha h2);rcases p with⟨b,cs⟩;cases b with
  |true=>
   constructor
   ·rintro⟨us,e,g1,g2⟩;exact⟨us,e,(RelCs.ren ha hp).1 g1,g2⟩
   ·rintro⟨us,e,g1,g2⟩;exact⟨us,e,(RelCs.ren ha hp).2 g1,g2⟩
  |false=>
   match cs,hp with
   |[c],hp=>
    have hc:=z28 hp c (by simp);exact and_congr (C.ren_rel ha hc) Iff.rfl
   |[],_=>exact Iff.rfl
   |_::_::_,_=>exact Iff.rfl
 |[],_::_,_=>Iff.rfl
 |_::_,[],_=>Iff.rfl
theorem AV.ren_rel (ha:Agree ρ ks φ ψ){x:AV}{v:Value}(hk:x.lent ks=true)(h:RelAV (RelC G V' φ w) x v):RelAV (RelC G V ψ w) (x.ren ρ) v:=by
 cases x with
 |c x=>
  by_cases e:x= .any
  ·subst e;trivial
  ·have:RelS (RelC G V' φ w) (false,[x]) v:=by cases x<;>first|exact h|exact(e rfl).elim
   exact z0b ((C.ren_rel ha hk).2 this.1) this.2
 |agg xs=>obtain⟨us,e,h1,h2⟩:=h;exact⟨us,e,(RelCs.ren ha hk).2 h1,h2⟩
 |tup vs=>obtain⟨us,e,h1⟩:=h;exact⟨us,e,(RelSs.ren ha hk).2 h1⟩
theorem zhl (ha:Agree ρ ks φ ψ){x:AV}{v:Value}(hk:x.lent ks=true)(h:RelAV (RelC G V ψ w) (x.ren ρ) v):RelAV (RelC G V' φ w) x v:=by
 cases x with
 |c x=>
  by_cases e:x= .any
  ·subst e;trivial
  ·have hne:x.ren ρ≠ .any:=by cases x<;>first|exact(e rfl).elim|(intro h;cases h)
   have:RelS (RelC G V ψ w) (false,[x.ren ρ]) v:=by
    have h:RelAV (RelC G V ψ w) (.c (x.ren ρ)) v:=h;generalize x.ren ρ=y at*;cases y<;>first|exact h|exact(hne rfl).elim
   exact z0b ((C.ren_rel ha hk).1 this.1) this.2
 |agg xs=>obtain⟨us,e,h1,h2⟩:=h;exact⟨us,e,(RelCs.ren ha hk).1 h1,h2⟩
 |tup vs=>obtain⟨us,e,h1⟩:=h;exact⟨us,e,(RelSs.ren ha hk).1 h1⟩
theorem Slot.ren_rel (ha:Agree ρ ks φ ψ){k:Nat}(hk:k∈ks){c:Slot}(hc:c.lent ks=true):z3t G V ψ w (renN ρ k) (c.ren ρ)↔z3t G V' φ w k c:=by
 have e:=ha k hk;cases c with
 |vec es n get=>simp only[Slot.ren,z3t,e]
 |box cs=>
  simp only[Slot.ren,z3t,e,List.length_map];have hc:allC (C.lent ks) cs=true:=hc
  constructor
  ·rintro⟨l,hl,ht,vs,h1,h2⟩;exact⟨l,hl,ht,vs,(RelCs.ren ha hc).1 h1,h2⟩
  ·rintro⟨l,hl,ht,vs,h1,h2⟩;exact⟨l,hl,ht,vs,(RelCs.ren ha hc).2 h1,h2⟩
end
def keysS (sl:List (Nat×Slot)):List Nat:=sl.map (·.1)
theorem z3d {sl:List (Nat×Slot)}{k:Nat}{c:Slot}(h:look sl k=some c):k∈keysS sl:=List.mem_map.2 ⟨(k,c),z1z h,rfl⟩
theorem z6d: ∀{sl:List (Nat×Slot)} {k:Nat},k∈keysS sl→ ∃c,look sl k=some c
 |[],k,h=>by cases h
 |(j,c)::r,k,h=>by
  rw[z0t];by_cases e:j=k
  ·exact⟨c,by rw[if_pos e]⟩
  ·rw[if_neg e];rcases List.mem_cons.1 h with h|h
   ·exact absurd h.symm e
   ·exact z6d h
def renSl (ρ:List (Nat×Nat))(sl:List (Nat×Slot)):List (Nat×Slot):=sl.map fun p=>(renN ρ p.1,p.2.ren ρ)
theorem zay {ρ:List (Nat×Nat)}: ∀{sl:List (Nat×Slot)} {k':Nat} {c':Slot},look (renSl ρ sl) k'=some c'→ ∃k c,k'=renN ρ k∧look sl k=some c∧c'=c.ren ρ
 |[],_,_,h=>by cases h
 |(j,c)::r,k',c',h=>by
  simp only[renSl,List.map_cons,z0t]at h;by_cases e:renN ρ j=k'
  ·rw[if_pos e]at h;cases h;exact⟨j,c,e.symm,by rw[z0t,if_pos rfl],rfl⟩
  ·rw[if_neg e]at h;obtain⟨k,c1,h1,h2,h3⟩:=zay (sl:=r) h;exact⟨k,c1,h1,by rw[z0t,if_neg (fun x=>e (by rw[h1,x]))];exact h2,h3⟩
theorem zdf {α:Type}: ∀{l r:List (Nat×α)} {k:Nat} {x:α},look (l++r) k=some x→look l k=some x∨(look l k=none∧look r k=some x)
 |[],r,k,x,h=> .inr ⟨rfl,h⟩
 |(j,y)::l,r,k,x,h=>by
  simp only[List.cons_append,z0t]at h ⊢;by_cases e:j=k
  ·rw[if_pos e]at h ⊢;exact .inl h
  ·rw[if_neg e]at h ⊢;exact zdf h
def backN (ρ:List (Nat×Nat)):List Nat→Nat→Option Nat
 |[],_=>none
 |k::r,k'=>match Nat.beq (renN ρ k) k' with|true=>some k|false=>backN ρ r k'
theorem z7j {ρ:List (Nat×Nat)}: ∀{ks:List Nat} {k k':Nat},backN ρ ks k'=some k→k∈ks∧renN ρ k=k'
 |[],_,_,h=>by cases h
 |j::r,k,k',h=>by
  simp only[backN]at h;split at h
  ·rename_i e;cases h;exact⟨zz5 ..,zz3 e⟩
  ·obtain⟨h1,h2⟩:=z7j h;exact⟨zz8 _ h1,h2⟩
theorem zdu {ρ:List (Nat×Nat)}: ∀{ks:List Nat} {k':Nat},backN ρ ks k'=none→ ∀k∈ks,renN ρ k≠k'
 |[],_,_,k,h=>by cases h
 |j::r,k',h,k,hk=>by
  simp only[backN]at h;split at h
  ·cases h
  ·rename_i e
   rcases List.mem_cons.1 hk with rfl|hk
   ·intro x;rw[x]at e;simp at e
   ·exact zdu h k hk
def injB (ρ:List (Nat×Nat))(ks:List Nat):Bool:=allC (fun k=>allC (fun j=>match Nat.beq (renN ρ k) (renN ρ j)with|true=>Nat.beq k j|false=>true) ks) ks
theorem zfm {ρ:List (Nat×Nat)}{ks:List Nat}(h:injB ρ ks=true){k j:Nat}(hk:k∈ks)(hj:j∈ks)(e:renN ρ k=renN ρ j):k=j:=by
 have:=z28 (z28 h k hk) j hj;simp only[e,Nat.beq_refl]at this;exact zz3 this
def zcj:CC→AV
 | .d x=> .c (.d x)
 | .ptr k o=> .c (.ptr k o)
def z55 (s:St)(c:Call):Option (FuncId×Nat×List CC):=
 match c.callee with
 | .value x=>match evO s x with
  |some (.c (.d (.fn f caps)))=>some (f,0,caps.map .d)
  |some (.c (.clo f n caps))=>some (f,n,caps)
  |_=>none
 |_=>none
def argsL (s:St)(c:Call)(n:Nat)(caps:List CC):Option (List AV):=
 match allAV (c.args.toList.map (evO s))with
 |some xs=>some ((caps.map zcj).take n++(xs++(caps.map zcj).drop n))
 |none=>none
def AV.refsAny (ks:List Nat)(x:AV):Bool:=anyB (fun k=>x.refs k) ks
inductive AVsArgL (s:St) (ρ:List (Nat×Nat)) (ks im:List Nat):List AV→List AV→Prop
 |nil:AVsArgL s ρ ks im [] []
 |ren {x y:AV} {xs ys:List AV} (e:x=y.ren ρ) (h:y.lent ks=true) (t:AVsArgL s ρ ks im xs ys):AVsArgL s ρ ks im (x::xs) (y::ys)
 |flat {x y:AV} {xs ys:List AV} (h:AVArg s x y) (hf:y.flat=true) (hn:x.refsAny im=false) (t:AVsArgL s ρ ks im xs ys):AVsArgL s ρ ks im (x::xs) (y::ys)
def LentS (s:St)(ρ:List (Nat×Nat))(ks:List Nat):List (Nat×Slot)→Prop
 |[]=>True
 |(k,c)::r=>(look s.sl (renN ρ k)=some (c.ren ρ)∧c.lent ks=true)∧LentS s ρ ks r
theorem LentS.look {s:St}{ρ:List (Nat×Nat)}{ks:List Nat}: ∀{sl:List (Nat×Slot)},LentS s ρ ks sl→ ∀{k c},Av.look sl k=some c→Av.look s.sl (renN ρ k)=some (c.ren ρ)∧c.lent ks=true
 |[],_,_,_,h=>by cases h
 |(j,c0)::r,⟨h1,h2⟩,k,c,h=>by
  rw[z0t]at h;by_cases e:j=k
  ·subst e;rw[if_pos rfl]at h;cases h;exact h1
  ·rw[if_neg e]at h;exact LentS.look h2 h
section
variable {E:Env} {s:St} {G:Nat→Prop} {φ:Nat→Option Loc} {a:Act} {w:World}
theorem CArg.relX (h:Sim E s G φ a w){c c':C}(hc:CArg s c c'){v:Value}(hv:RelC G E.V φ w c v)(hf:c'.flat=true){X:Nat→Prop}(hX: ∀b,E.V b→X b)
 (hS: ∀k sc l,c.refs k=true→look s.sl k=some sc→φ k=some l→X l.blk) {ψ:Nat→Option Loc}:RelC G X ψ w c' v:=by
 cases hc with
 |le hc=>exact(zdo hf hX ((CLe.rel h hc hv).mono (Same.refl _ _) (Same.refl _ _) (fun _ hb=>z8j hb) fun _ _=>rfl))
 | @own k es off m m' n get get' hk hm hm' hg=>
  subst hm';rcases hv with⟨h0,A,rfl⟩|⟨l,hl,hle,rfl⟩
  ·exact .inl ⟨h0,A,0,rfl⟩
  ·obtain⟨hmx,hs|⟨l',hl',hn,_,he⟩⟩:=h.sl _ _ hk
   ·rw[hl]at hs;cases hs.1
   ·rw[hl]at hl';cases hl';refine .inr ⟨l.blk,_,_,.inr (hS k _ l (by simp[C.refs]) hk hl),rfl,by omega,by omega,fun i hi=>?_⟩;rw[hg i hi];exact he.part hm i hi
 | @bsl k o es n n' cs ds get' hk hd hl' hn hmx hg=>
  cases hn;have h2:=CArg.rel h (.bsl hk hd hl' rfl hmx hg) hv rfl (ψ:=ψ)
  obtain⟨l,cap,hl,hc,rfl⟩:=hv;rcases h2 with⟨h0,A,cap',e⟩|⟨b,off,cap',_,e,g1,g2,g3⟩
  ·cases e;exact .inl ⟨rfl,_,_,rfl⟩
  ·cases e;exact .inr ⟨_,_,_,.inr (hS k _ l (by simp[C.refs]) hk hl),rfl,g1,g2,g3⟩
theorem CsArg.relX (h:Sim E s G φ a w){cs cs':List C}(hc:CsArg s cs cs'){X:Nat→Prop}(hX: ∀b,E.V b→X b){ψ:Nat→Option Loc}:
 ∀{vs:List Value},(∀c∈cs,∀k sc l,c.refs k=true→look s.sl k=some sc→φ k=some l→X l.blk)→(∀c∈cs',c.flat=true)→RelCs (RelC G E.V φ w) cs vs→RelCs (RelC G X ψ w) cs' vs:=by
 induction hc with
 |refl cs=>
  intro vs hS hf hv;have key: ∀(cs:List C) (vs:List Value),(∀c∈cs,∀k sc l,c.refs k=true→look s.sl k=some sc→φ k=some l→X l.blk)→(∀c∈cs,c.flat=true)→RelCs (RelC G E.V φ w) cs vs→RelCs (RelC G X ψ w) cs vs:=by
   intro cs;induction cs with
   |nil=>intro vs _ _ hv;cases vs with|nil=>trivial|cons _ _=>exact hv.elim
   |cons c cs ih=>
    intro vs hS hf hv;cases vs with
    |nil=>exact hv.elim
    |cons v vs=>exact⟨CArg.relX h (.le (.refl c)) hv.1 (hf _ (zz5 ..)) hX (hS _ (zz5 ..)),ih vs (fun c hc=>hS c (zz8 _ hc)) (fun c hc=>hf c (zz8 _ hc)) hv.2⟩
  exact key cs vs hS hf hv
 |nil=>intro vs _ _ hv;cases vs with|nil=>trivial|cons _ _=>exact hv.elim
 |cons hc _ ih=>
  intro vs hS hf hv;cases vs with
  |nil=>exact hv.elim
  |cons v vs=>exact⟨CArg.relX h hc hv.1 (hf _ (zz5 ..)) hX (hS _ (zz5 ..)),ih (fun c hc=>hS c (zz8 _ hc)) (fun c hc=>hf c (zz8 _ hc)) hv.2⟩
theorem z7e {k:Nat}{x:AV}{c:C}(hc:c∈x.cells)(h:c.refs k=true):x.refs k=true:=by
 cases e:x.refs k with
 |true=>rfl
 |false=>rw[AV.refs_cells e c hc]at h;cases h
theorem AVArg.relX (h:Sim E s G φ a w){x x':AV}(hx:AVArg s x x')(hf:x'.flat=true){v:Value}(hv:RAV E G φ w x v){X:Nat→Prop}(hX: ∀b,E.V b→X b)
 (hS: ∀k sc l,x.refs k=true→look s.sl k=some sc→φ k=some l→X l.blk) {ψ:Nat→Option Loc}:RelAV (RelC G X ψ w) x' v:=by
 have hcl:=zb9 hf;cases hx with
 |refl=>exact hv.mono fun c hc v hcv=>CArg.relX h (.le (.refl c)) hcv (hcl c hc) hX fun k sc l hr=>hS k sc l (z7e hc hr)
 | @c p q hc=>
  have hq:q.flat=true:=hf;by_cases e:p= .any
  ·subst e;cases hc with
   |le hc=>cases hc<;>trivial
  ·obtain⟨h1,h2⟩:=z4e hv e;exact z0b (hc.relX h h1 hq hX hS) h2
 |agg hc=>obtain⟨us,e,h1,h2⟩:=hv;exact⟨us,e,hc.relX h hX (fun c hm k sc l hr=>hS k sc l (z7e hm hr)) hcl h1,h2⟩
theorem AVsArgL.rel (h:Sim E s G φ a w){ρ:List (Nat×Nat)}{ks im:List Nat}{xs ys:List AV}(hx:AVsArgL s ρ ks im xs ys){X:Nat→Prop}(hX: ∀b,E.V b→X b)
 (hS: ∀k sc l,k∉im→look s.sl k=some sc→φ k=some l→X l.blk): ∀{vs:List Value},z1l (RelC G E.V φ w) xs vs→z1l (RelC G X (fun k=>φ (renN ρ k)) w) ys vs:=by
 induction hx with
 |nil=>intro vs hv;cases vs with|nil=>trivial|cons _ _=>exact hv.elim
 |ren e hk _ ih=>
  intro vs hv;cases vs with
  |nil=>exact hv.elim
  |cons v vs=>subst e;exact⟨zhl (fun k _=>rfl) hk hv.1,ih hv.2⟩
 |flat hc hf hn _ ih=>
  intro vs hv;cases vs with
  |nil=>exact hv.elim
  |cons v vs=>exact⟨hc.relX h hf hv.1 hX (fun k sc l hr=>hS k sc l (fun hm=>by have:=z1t hn k hm;rw[this]at hr;cases hr)),ih hv.2⟩
theorem zby: ∀{caps:List CC} {us:List Value},caps.length=us.length→(∀j,j<caps.length→RelCC G φ w (caps.getD j zzd) (us.getD j undef))→z1l (RelC G E.V φ w) (caps.map zcj) us
 |[],[],_,_=>trivial
 |x::xs,u::us,hl,h=>by
  refine⟨?_,zby (by simpa using hl) fun j hj=>by have:=h (j+1) (by simpa using hj);simpa using this⟩;have h0:RelCC G φ w x u:=by have:=h 0 (by simp);simpa using this
  cases x with
  |d x=>exact z0b (x:= .d x) h0 (RelD.one h0)
  |ptr k o=>obtain⟨l,hl',rfl⟩:=h0;exact z0b (x:= .ptr k o) ⟨l,hl',rfl⟩ rfl
 |[],_::_,hl,_=>by simp at hl
 |_::_,[],hl,_=>by simp at hl
theorem z1l.take {R:C→Value→Prop}: ∀{xs:List AV} {vs:List Value},z1l R xs vs→ ∀n,z1l R (xs.take n) (vs.take n)
 |[],[],_,n=>by simp[z1l]
 |_::_,_::_,⟨h1,h2⟩,n=>by
  cases n with
  |zero=>simp[z1l]
  |succ n=>exact⟨h1,z1l.take h2 n⟩
 |[],_::_,h,_=>h.elim
 |_::_,[],h,_=>h.elim
theorem z1l.drop {R:C→Value→Prop}: ∀{xs:List AV} {vs:List Value},z1l R xs vs→ ∀n,z1l R (xs.drop n) (vs.drop n)
 |[],[],_,n=>by simp[z1l]
 |_::_,_::_,⟨h1,h2⟩,n=>by
  cases n with
  |zero=>exact⟨h1,h2⟩
  |succ n=>exact z1l.drop h2 n
 |[],_::_,h,_=>h.elim
 |_::_,[],h,_=>h.elim
theorem zim (h:Sim E s G φ a w){c:Call}{f:FuncId}{n:Nat}{caps:List CC}{xs:List AV}(hc:z55 s c=some (f,n,caps))(hx:argsL s c n caps=some xs)(ty:TypeId):
 ∃vs:List Value,(∀w,(do let d ←resolve a.eval c ty;invoke d.target d.args:Sem Next).run E.P w=(callFunc f vs.toArray).run E.P w)∧z1l (RelC G E.V φ w) xs vs:=by
 obtain⟨cal,args,ats⟩:=c;unfold z55 at hc;simp only at hc;have key: ∀(x:Operand) (us:List Value),a.eval x= .func (.func f) (us.take n).toArray (us.drop n).toArray→cal= .value x→z1l (RelC G E.V φ w) (caps.map zcj) us→
  ∃vs:List Value,(∀w,(do let d ←resolve a.eval ⟨cal,args,ats⟩ ty;invoke d.target d.args:Sem Next).run E.P w=(callFunc f vs.toArray).run E.P w)∧z1l (RelC G E.V φ w) xs vs:=fun x us hu hcal hr=>by
  simp only[argsL]at hx;split at hx
  ·rename_i ys hys
   cases hx;have h1:=zbt h hys
   refine⟨us.take n++(args.toList.map a.eval++us.drop n),fun w=>?_,(hr.take n).append (h1.append (hr.drop n))⟩;subst hcal;simp only[resolve,Deferred.ofValue,hu,zz4,zzb,zz1,invoke];congr 2;apply Array.ext';simp
  ·cases hx
 split at hc
 ·rename_i cal' x
  split at hc
  ·rename_i f' caps' hv
   cases hc;have hfv:RelD G w (.fn f caps') (a.eval x):=(h.ev hv).1
   generalize hu:a.eval x=u at hfv;cases hfv with
   |fn _ _ us hl hr=>
    refine key x us (by simpa using hu) rfl (zby (by simpa using hl) fun j hj=>?_);have hj':j<caps'.length:=by simpa using hj
    have:(caps'.map CC.d).getD j zzd=CC.d (D.at caps' j):=by simp[D.at,List.getD_eq_getElem?_getD,List.getElem?_map,List.getElem?_eq_getElem hj']
    rw[this];exact hr j hj'
  ·rename_i f' n' caps' hv
   cases hc;obtain⟨us,hu,hl,hr⟩:=(h.ev hv).1;exact key x us hu rfl (zby hl hr)
  ·cases hc
 ·cases hc
def oddK (l r:List Nat):List Nat:=(l.filter fun k=> !anyB (Nat.beq k) r)++(r.filter fun k=> !anyB (Nat.beq k) l)
theorem zgy {l r:List Nat}{k:Nat}(h:k∈l++r):k∈oddK l r∨(k∈l∧k∈r):=by
 unfold oddK;by_cases h1:k∈l
 ·by_cases h2:k∈r
  ·exact .inr ⟨h1,h2⟩
  ·refine .inl (List.mem_append_left _ (List.mem_filter.2 ⟨h1,?_⟩));cases e:anyB (Nat.beq k) r with
   |true=>exact absurd (z39.1 e) h2
   |false=>rfl
 ·rcases zzh.1 h with h|h
  ·exact absurd h h1
  ·refine .inl (List.mem_append_right _ (List.mem_filter.2 ⟨h,?_⟩));cases e:anyB (Nat.beq k) l with
   |true=>exact absurd (z39.1 e) h1
   |false=>rfl
def lkOk (lk im im':List Nat):Bool:=match allC (fun k=>anyB (Nat.beq k) lk) im' with|true=>true|false=> !anyB (fun k=>anyB (Nat.beq k) lk) im
def lkOk3 (lk:List Nat)(ρ:List (Nat×Nat))(ks ks':List Nat):Bool:=
 match allC (fun j=>match anyB (Nat.beq j) ks with|true=>true|false=>anyB (Nat.beq (renN ρ j)) lk) ks' with
 |true=>true
 |false=>allC (fun i=>match anyB (Nat.beq i) ks' with|true=>true|false=> !anyB (Nat.beq (renN ρ i)) lk) ks
theorem One.callP {ops : Array Oper} {o : Oper} {cl : Call} {f : FuncId} {nf : Nat} {caps : List CC} {xs args : List AV} {res : AV} {sl sl' : List (Nat × Slot)} (ρ : List (Nat × Nat)) (s0 : St)
    (hS : Summ E.P f args sl res sl') (hop : o.op = .call cl) (hw :     z0i ops s o = some true) (hd : dstOk E.N o.dst = true) (hc :     z55 s cl = some (f, nf, caps)) (hx : argsL s cl nf caps = some xs)
    (hle : AVsArgL s ρ (keysS sl) ((keysS sl).map (renN ρ)) xs args) (hsl : LentS s ρ (keysS sl) sl) (hinj : injB ρ (keysS sl) = true) (hinj' : injB ρ (keysS sl') = true) (hres : res.lent (keysS sl') = true)
    (hsl' : allC (fun p : Nat × Slot => p.2.lent (keysS sl')) sl' = true) (hs : Sim E s G φ a w) (hs0 : Sim E s0 G φ a w) (s' : St)
    (hook : ∀ {G' : Nat → Prop} {χ : Nat → Option Loc} {w' : World}, (∀ k', (∀ k ∈ keysS sl', renN ρ k ≠ k') → χ k' = φ k') → Same G w w' → Same E.V w w' → (∀ b, G b → G' b) → Sim E ⟨s0.tm, renSl ρ sl' ++ s0.sl⟩ G' χ a w' → Sim E s' G' χ a w') (hkey : ∀ t x, look s0.sl t = some x → ∃ y, look s.sl t = some y)
    (hk0 : allC (fun k => match look s0.sl (renN ρ k) with | some _ => false | none => true) (keysS sl ++ keysS sl') = true) (hodd : allC (fun k => s0.noRef (renN ρ k)) (oddK (keysS sl) (keysS sl')) = true)
    (hfx : allC (fun k => !anyB (Nat.beq (renN ρ k)) E.fx) (oddK (keysS sl) (keysS sl')) = true) (hlk : lkOk3 E.lk ρ (keysS sl) (keysS sl') = true) :
    Region.wanted o (yielded ops a.tmps) = true ∧ ∀ (next : Act → World → Prop) (Q : Exit → Act → World → Prop), (∀ a' w', SimE E (putO s' o.dst (res.ren ρ)) a' w' → next a' w') → o.wp E.P a w next Q := by
  obtain ⟨vs, hrun, hrel⟩ :=        zim hs hc hx o.type
  let ψ : Nat → Option Loc := fun k => φ (renN ρ k)
  -- the lent blocks
  have lentB : ∀ b, Blks ψ sl b → ∃ k c l, look s.sl (renN ρ k) = some c ∧ k ∈ keysS sl ∧ φ (renN ρ k) = some l ∧ b = l.blk := fun b ⟨k, c, l, h1, h2, h3⟩ => ⟨k, _, l, (hsl.look h1).1,       z3d h1, h2, h3⟩
  have nG : ∀ b, G b → ¬ Blks ψ sl b := fun b hb hB => by
    obtain ⟨k, c, l, h1, _, h2, rfl⟩ := lentB b hB
    exact (hs.own _ _ _ h1 h2).1 hb
  have nV : ∀ b, E.V b → ¬ Blks ψ sl b := fun b hb hB => by
    obtain ⟨k, c, l, h1, _, h2, rfl⟩ := lentB b hB
    exact (hs.own _ _ _ h1 h2).2.1 hb
  have vlt : ∀ b, E.V b → b < w.heap.size := fun b hb => Nat.lt_of_lt_of_le (hs.vsz b hb).1 hs.kp.size
  have nS : ∀ k sc l, k ∉ (keysS sl).map (renN ρ) → look s.sl k = some sc → φ k = some l → ¬ Blks ψ sl l.blk := fun k sc l hk h1 h2 hB => by
    obtain ⟨j, c, l', g1, g2, g3, g4⟩ := lentB _ hB
    exact hk (List.mem_map.2 ⟨j, g2, (hs.inj _ _ _ _ _ _ h1 g1 h2 g3 g4).symm⟩)
  have hargs := hle.rel hs (X := fun b => b < w.heap.size ∧ ¬ Blks ψ sl b) (fun b hb => ⟨vlt b hb, nV b hb⟩) (fun k sc l hk h1 h2 => ⟨(hs.own _ _ _ h1 h2).2.2.1, nS k sc l hk h1 h2⟩) hrel
  have hslots : SlotsOk G (fun b => b < w.heap.size ∧ ¬ Blks ψ sl b) ψ w sl :=
    { rel := fun k c hk => by
        obtain ⟨h1, h2⟩ := hsl.look hk
        exact (Slot.ren_rel (fun _ _ => rfl) (      z3d hk) h2).1 (hs.sl _ _ h1)
      inj := fun k k' c c' l l' h1 h2 h3 h4 h5 => by
        have := hs.inj _ _ _ _ _ _ (hsl.look h1).1 (hsl.look h2).1 h3 h4 h5
        exact       zfm hinj (      z3d h1) (      z3d h2) this
      own := fun k c l h1 h2 => by
        have := hs.own _ _ _ (hsl.look h1).1 h2
        exact ⟨this.1, this.2.2.1⟩ }
  have hact := hS G ψ w vs hs.gsz hslots hargs
  refine ⟨         z1r hs hw, fun next Q hn => ?_⟩
  unfold Oper.wp
  have he : execOp a.eval o = (do let d ← resolve a.eval cl o.type; invoke d.target d.args : Sem Next) := by
    unfold execOp; rw [hop]
  rw [he, hrun]
  refine       zfc hact fun e w' ⟨v, G', φ', he, hd'⟩ => ⟨v, he, ?_⟩
  let χ : Nat → Option Loc := fun k' => match backN ρ (keysS sl') k' with | some k => φ' k | none => φ k'
  have hagree : Agree ρ (keysS sl') φ' χ := fun k hk => by
    show (match backN ρ (keysS sl') (renN ρ k) with | some k => φ' k | none => φ (renN ρ k)) = φ' k
    cases hb : backN ρ (keysS sl') (renN ρ k) with
    | none => exact absurd rfl (       zdu hb k hk)
    | some j =>
      obtain ⟨h1, h2⟩ :=        z7j hb
      rw [      zfm hinj' h1 hk h2]
  have hsame : ∀ b, b < w.heap.size → ¬ Blks ψ sl b → w'.heap[b]? = w.heap[b]? := fun b h1 h2 => hd'.kp.block b h1 h2
  have sg : Same G w w' := fun b hb => hsame b (hs.gsz b hb) (nG b hb)
  have sv : Same E.V w w' := fun b hb => hsame b (vlt b hb) (nV b hb)
  -- what is spoken of in s0
  have hχ : ∀ k', (s0.noRef k' = false) → χ k' = φ k' ∨ False := fun k' hr => by
    show (match backN ρ (keysS sl') k' with | some k => φ' k | none => φ k') = φ k' ∨ False
    cases hb : backN ρ (keysS sl') k' with
    | none => exact .inl rfl
    | some k =>
      obtain ⟨h1, rfl⟩ :=        z7j hb
      rcases      zgy (l := keysS sl) (r := keysS sl') (List.mem_append_right _ h1) with h | ⟨h2, _⟩
      · rw [     z28 hodd k h] at hr; cases hr
      · obtain ⟨c, hc⟩ :=       z6d h2
        obtain ⟨c', hc'⟩ :=       z6d h1
        exact .inl (hd'.fix k c c' hc hc')
  have tmRef : ∀ t x, look s0.tm t = some x → ∀ c ∈ x.cells, ∀ k, c.refs k = true → χ k = φ k := fun t x hx c hc k hk => by
    refine (hχ k ?_).resolve_right id
    cases e : s0.noRef k with
    | false => rfl
    | true => rw [AV.refs_cells ((          z34 e).1 _ (     z1z hx)) c hc] at hk; cases hk
  have slRef : ∀ j c, look s0.sl j = some c → ∀ k, Slot.refs k c = true → χ k = φ k := fun j c hc k hk => by
    refine (hχ k ?_).resolve_right id
    cases e : s0.noRef k with
    | false => rfl
    | true => rw [((          z34 e).2 _ (     z1z hc)).2] at hk; cases hk
  have slNot : ∀ j c, look s0.sl j = some c → ∀ k ∈ keysS sl ++ keysS sl', renN ρ k ≠ j := fun j c hc k hk e => by
    have :=      z28 hk0 k hk
    rw [e, hc] at this
    cases this
  have slχ : ∀ j c, look s0.sl j = some c → χ j = φ j := fun j c hc => by
    show (match backN ρ (keysS sl') j with | some k => φ' k | none => φ j) = φ j
    cases hb : backN ρ (keysS sl') j with
    | none => rfl
    | some k =>
      obtain ⟨h1, h2⟩ :=        z7j hb
      exact absurd h2 (slNot j c hc k (List.mem_append_right _ h1))
  have slB : ∀ j c l, look s0.sl j = some c → φ j = some l → l.blk < w.heap.size ∧ ¬ Blks ψ sl l.blk := fun j c l hc hl =>
    ⟨(hs0.own _ _ _ hc hl).2.2.1, nS j _ l (fun hm => by
      obtain ⟨k, hk, e⟩ := List.mem_map.1 hm
      exact slNot j c hc k (List.mem_append_left _ hk) e) (hkey _ _ hc).choose_spec hl⟩
  -- the slots that came back
  have hin : ∀ k' c', look (renSl ρ sl' ++ s0.sl) k' = some c' → (∃ k c, k' = renN ρ k ∧ look sl' k = some c ∧ c' = c.ren ρ) ∨ look s0.sl k' = some c' := fun k' c' h => by
    rcases      zdf h with h | ⟨_, h⟩
    · exact .inl (       zay h)
    · exact .inr h
  have newB : ∀ k c l, look sl' k = some c → φ' k = some l → Blks ψ sl l.blk ∨ w.heap.size ≤ l.blk := hd'.blk
  have hsim : Sim E ⟨s0.tm, renSl ρ sl' ++ s0.sl⟩ G' χ a w' :=
    { hs with
      tm := fun t x hx => by
        obtain ⟨u, hu, hr⟩ := hs0.tm t x hx
        exact ⟨u, hu, hr.mono fun c hc v hcv => hcv.mono sg sv hd'.up (tmRef t x hx c hc)⟩
      sl := fun k' c' hk' => by
        rcases hin k' c' hk' with ⟨k, c, rfl, hc, rfl⟩ | h
        · exact (Slot.ren_rel hagree (      z3d hc) (     z28 hsl' (k, c) (     z1z hc))).2 (hd'.slots.rel k c hc)
        · exact (hs0.sl _ _ h).mono sg sv hd'.up (slχ _ _ h) (slRef _ _ h) fun l hl => by
            obtain ⟨h1, h2⟩ := slB _ _ _ h hl
            exact hsame _ h1 h2
      inj := fun k1 k2 c1 c2 l1 l2 h1 h2 e1 e2 eb => by
        rcases hin _ _ h1 with ⟨j1, d1, rfl, g1, _⟩ | g1 <;> rcases hin _ _ h2 with ⟨j2, d2, rfl, g2, _⟩ | g2
        · rw [hagree _ (      z3d g1)] at e1
          rw [hagree _ (      z3d g2)] at e2
          rw [hd'.slots.inj _ _ _ _ _ _ g1 g2 e1 e2 eb]
        · rw [hagree _ (      z3d g1)] at e1
          rw [slχ _ _ g2] at e2
          obtain ⟨q1, q2⟩ := slB _ _ _ g2 e2
          rcases newB _ _ _ g1 e1 with hb | hb
          · rw [eb] at hb; exact absurd hb q2
          · omega
        · rw [hagree _ (      z3d g2)] at e2
          rw [slχ _ _ g1] at e1
          obtain ⟨q1, q2⟩ := slB _ _ _ g1 e1
          rcases newB _ _ _ g2 e2 with hb | hb
          · rw [← eb] at hb; exact absurd hb q2
          · omega
        · rw [slχ _ _ g1] at e1
          rw [slχ _ _ g2] at e2
          exact hs0.inj _ _ _ _ _ _ g1 g2 e1 e2 eb
      own := fun k' c' l h1 h2 => by
        rcases hin _ _ h1 with ⟨k, c, rfl, g1, _⟩ | g1
        · rw [hagree _ (      z3d g1)] at h2
          obtain ⟨o1, o2⟩ := hd'.slots.own k c l g1 h2
          rcases newB _ _ _ g1 h2 with hb | hb
          · refine ⟨o1, fun hv => nV _ hv hb, o2, ?_⟩
            obtain ⟨j, cj, lj, q1, q2, q3, q4⟩ := lentB _ hb
            cases hkk : anyB (Nat.beq k) (keysS sl) with
            | true =>
              obtain ⟨c0, hc0⟩ :=       z6d (     z39.1 hkk)
              have hf := hd'.fix k c0 c hc0 g1
              rw [h2] at hf
              exact (hs.own _ _ _ (hsl.look hc0).1 hf.symm).2.2.2
            | false =>
              rcases (hs.own _ _ _ q1 q3).2.2.2 with p | ⟨p1, p2⟩
              · exact .inl (by omega)
              · unfold lkOk3 at hlk
                split at hlk
                · rename_i hall
                  have :=      z28 hall k (      z3d g1)
                  rw [hkk] at this
                  exact .inr ⟨     z39.1 this, by rw [q4]; exact p2⟩
                · have :=      z28 hlk j q2
                  cases hjj : anyB (Nat.beq j) (keysS sl') with
                  | false => rw [hjj] at this; simp only [     z39.2 p1] at this; cases this
                  | true =>
                    exfalso
                    obtain ⟨c1, hc1⟩ :=       z6d (     z39.1 hjj)
                    obtain ⟨c0, hc0⟩ :=       z6d q2
                    have hf := hd'.fix j c0 c1 hc0 hc1
                    have hf : φ' j = some lj := hf.trans q3
                    have := hd'.slots.inj _ _ _ _ _ _ g1 hc1 h2 hf q4
                    subst this
                    rw [     z39.2 q2] at hkk; cases hkk
          · exact ⟨o1, fun hv => by have := vlt _ hv; omega, o2, .inl (Nat.le_trans hs.kp.size hb)⟩
        · rw [slχ _ _ g1] at h2
          obtain ⟨o1, o2, o3, o4⟩ := hs0.own _ _ _ g1 h2
          refine ⟨fun hg => ?_, o2, Nat.lt_of_lt_of_le o3 hd'.kp.size, o4⟩
          rcases hd'.fr _ hg with hg | hg
          · exact o1 hg
          · omega
      gsz := hd'.sz
      g0 := fun b hb => hd'.up _ (hs.g0 b hb)
      gf := fun b hb => by
        rcases hd'.fr b hb with hb | hb
        · exact hs.gf b hb
        · exact .inr (Nat.le_trans hs.kp.size hb)
      kp := hs.kp.trans ⟨hd'.kp.os, hd'.kp.tape, hd'.kp.output, hd'.kp.size, fun b hb hL => hsame b (Nat.lt_of_lt_of_le hb hs.kp.size) fun hB => by
        obtain ⟨k, c, l, h1, _, h2, rfl⟩ := lentB b hB
        rcases (hs.own _ _ _ h1 h2).2.2.2 with p | p
        · omega
        · exact hL p.2⟩
      fix := fun k' c' hfx' h1 => by
        rcases hin _ _ h1 with ⟨k, c, rfl, g1, _⟩ | g1
        · rw [hagree _ (      z3d g1)]
          rcases      zgy (l := keysS sl) (r := keysS sl') (List.mem_append_right _ (      z3d g1)) with h | ⟨h2, _⟩
          · have :=      z28 hfx k h
            rw [     z39.2 hfx'] at this; cases this
          · obtain ⟨c0, hc0⟩ :=       z6d h2
            rw [hd'.fix k c0 c hc0 g1]
            exact hs.fix _ _ hfx' (hsl.look hc0).1
        · rw [slχ _ _ g1]
          exact hs0.fix _ _ hfx' g1 }
  have hresr : RAV E G' χ w' (res.ren ρ) v := AV.ren_rel hagree hres hd'.rel
  refine hn _ _ ⟨G', χ, ?_⟩
  replace hsim := hook (fun k' hk => by
    show (match backN ρ (keysS sl') k' with | some k => φ' k | none => φ k') = φ k'
    cases hb : backN ρ (keysS sl') k' with
    | none => rfl
    | some k =>
      obtain ⟨h1, h2⟩ :=        z7j hb
      exact absurd h2 (hk k h1)) sg sv hd'.up hsim
  cases hdd : o.dst with
  | none => exact hsim
  | some d =>
    rw [hdd] at hd
    exact hsim.put (Nat.blt_eq.mp hd) hresr
theorem zf8 {ops:Array Oper}{o:Oper}{cl:Call}{f:FuncId}{nf:Nat}{caps:List CC}{xs args:List AV}{res:AV}{sl sl':List (Nat×Slot)}(ρ:List (Nat×Nat))(s0:St)
 (hS:Summ E.P f args sl res sl') (hop:o.op= .call cl) (hw:z0i ops s o=some true) (hd:dstOk E.N o.dst=true) (hc:z55 s cl=some (f,nf,caps)) (hx:argsL s cl nf caps=some xs)
 (hle:AVsArgL s ρ (keysS sl) ((keysS sl).map (renN ρ)) xs args) (hsl:LentS s ρ (keysS sl) sl) (hinj:injB ρ (keysS sl)=true) (hinj':injB ρ (keysS sl')=true) (hres:res.lent (keysS sl')=true)
 (hsl':allC (fun p:Nat×Slot=>p.2.lent (keysS sl')) sl'=true) (hw0: ∀{G:Nat→Prop} {φ:Nat→Option Loc} {a:Act} {w:World},Sim E s G φ a w→Sim E s0 G φ a w) (hkey: ∀t x,look s0.sl t=some x→ ∃y,look s.sl t=some y)
 (hk0:allC (fun k=>match look s0.sl (renN ρ k)with|some _=>false|none=>true) (keysS sl++keysS sl')=true) (hodd:allC (fun k=>s0.noRef (renN ρ k)) (oddK (keysS sl) (keysS sl'))=true)
 (hfx:allC (fun k=> !anyB (Nat.beq (renN ρ k)) E.fx) (oddK (keysS sl) (keysS sl'))=true) (hlk:lkOk3 E.lk ρ (keysS sl) (keysS sl')=true):
 One E ops o s (putO ⟨s0.tm,renSl ρ sl'++s0.sl⟩ o.dst (res.ren ρ)):=fun a w ⟨_,_,hs⟩=>
 One.callP ρ s0 hS hop hw hd hc hx hle hsl hinj hinj' hres hsl' hs (hw0 hs) _ (fun _ _ _ _ h=>h) hkey hk0 hodd hfx hlk
theorem One.callL {ops:Array Oper}{o:Oper}{cl:Call}{f:FuncId}{nf:Nat}{caps:List CC}{xs args:List AV}{res:AV}{sl sl':List (Nat×Slot)}(ρ:List (Nat×Nat))(s0:St)
 (hS:Summ E.P f args sl res sl') (hop:o.op= .call cl) (hw:z0i ops s o=some true) (hd:dstOk E.N o.dst=true) (hc:z55 s cl=some (f,nf,caps)) (hx:argsL s cl nf caps=some xs)
 (hle:AVsArgL s ρ (keysS sl) ((keysS sl).map (renN ρ)) xs args) (hsl:LentS s ρ (keysS sl) sl) (hinj:injB ρ (keysS sl)=true) (hinj':injB ρ (keysS sl')=true) (hres:res.lent (keysS sl')=true)
 (hsl':allC (fun p:Nat×Slot=>p.2.lent (keysS sl')) sl'=true) (h0t: ∀t x,look s0.tm t=some x→look s.tm t=some x) (h0s: ∀t x,look s0.sl t=some x→look s.sl t=some x)
 (hk0:allC (fun k=>match look s0.sl (renN ρ k)with|some _=>false|none=>true) (keysS sl++keysS sl')=true) (hodd:allC (fun k=>s0.noRef (renN ρ k)) (oddK (keysS sl) (keysS sl'))=true)
 (hfx:allC (fun k=> !anyB (Nat.beq (renN ρ k)) E.fx) (oddK (keysS sl) (keysS sl'))=true) (hlk:lkOk3 E.lk ρ (keysS sl) (keysS sl')=true):
 One E ops o s (putO ⟨s0.tm,renSl ρ sl'++s0.sl⟩ o.dst (res.ren ρ)):=
 zf8 ρ s0 hS hop hw hd hc hx hle hsl hinj hinj' hres hsl' (fun h=>h.weaken h0t h0s) (fun t x h=>⟨x,h0s t x h⟩) hk0 hodd hfx hlk
theorem At.callL {L:List Oper}{i:Nat}{K:St→Prop}{o:Oper}{cl:Call}{f:FuncId}{nf:Nat}{caps:List CC}{xs args:List AV}{res:AV}{sl sl':List (Nat×Slot)}(ρ:List (Nat×Nat))(tk sk:List Nat){s0:St}
 (hS:Summ E.P f args sl res sl') (ho:L[i]?=some o) (hop:o.op= .call cl) (hw:z0i L.toArray s o=some true) (hd:dstOk E.N o.dst=true) (hc:z55 s cl=some (f,nf,caps)) (hx:argsL s cl nf caps=some xs)
 (hle:AVsArgL s ρ (keysS sl) ((keysS sl).map (renN ρ)) xs args) (hsl:LentS s ρ (keysS sl) sl) (hinj:injB ρ (keysS sl)=true) (hinj':injB ρ (keysS sl')=true) (hres:res.lent (keysS sl')=true)
 (hsl':allC (fun p:Nat×Slot=>p.2.lent (keysS sl')) sl'=true) (hk:Av.keep tk sk s=some s0)
 (hk0:allC (fun k=>match look s0.sl (renN ρ k)with|some _=>false|none=>true) (keysS sl++keysS sl')=true) (hodd:allC (fun k=>s0.noRef (renN ρ k)) (oddK (keysS sl) (keysS sl'))=true)
 (hfx:allC (fun k=> !anyB (Nat.beq (renN ρ k)) E.fx) (oddK (keysS sl) (keysS sl'))=true) (hlk:lkOk3 E.lk ρ (keysS sl) (keysS sl')=true)
 (s':St) (he:putO ⟨s0.tm,renSl ρ sl'++s0.sl⟩ o.dst (res.ren ρ)=s') (h:At E L (i+1) s' K):At E L i s K:=by
 have hk2:(∀t x,look s0.tm t=some x→look s.tm t=some x)∧ ∀t x,look s0.sl t=some x→look s.sl t=some x:=by
  unfold Av.keep at hk;split at hk
  ·rename_i tm h1
   split at hk
   ·rename_i sl h2
    cases hk;exact⟨z4a h1,z4a h2⟩
   ·cases hk
  ·cases hk
 exact At.one ho (One.callL ρ s0 hS hop hw hd hc hx hle hsl hinj hinj' hres hsl' hk2.1 hk2.2 hk0 hodd hfx hlk) (he▸h)
theorem C.ren_to {V:Nat→Prop}{ψ:Nat→Option Loc}{ρ:List (Nat×Nat)}{x:C}{v:Value}(h:RelC G V φ w x v)(hφ: ∀k,x.refs k=true→ψ (renN ρ k)=φ k):RelC G V ψ w (x.ren ρ) v:=by
 cases x with
 |any=>trivial
 |d x=>exact h
 |zero=>exact h
 |raw u=>exact h
 |view es n get=>exact h
 |eptr cells=>exact h
 |ptr k o=>simp only[C.ren,RelC,hφ k (by simp[C.refs])];exact h
 |vptr k es i o=>simp only[C.ren,RelC,hφ k (by simp[C.refs])];exact h
 |own k es off n=>simp only[C.ren,RelC,hφ k (by simp[C.refs])];exact h
 |bsl k o es n=>simp only[C.ren,RelC,hφ k (by simp[C.refs])];exact h
 |clo f n caps=>
  obtain⟨vs,e,hl,hr⟩:=h;refine⟨vs,e,by simpa using hl,fun j hj=>?_⟩;have hj:j<caps.length:=by simpa using hj
  have e1:caps.getD j zzd=caps[j]:=by rw[List.getD_eq_getElem?_getD,List.getElem?_eq_getElem hj];rfl
  have e2:(caps.map (CC.ren ρ)).getD j zzd=caps[j].ren ρ:=by rw[List.getD_eq_getElem?_getD,List.getElem?_map,List.getElem?_eq_getElem hj];rfl
  have:=hr j hj;rw[e1]at this;rw[e2];have hm:caps[j]∈caps:=List.getElem_mem hj
  generalize caps[j]=c at*;cases c with
  |d x=>exact this
  |ptr k o=>
   have:ψ (renN ρ k)=φ k:=hφ k (z87 (f:=CC.refs k) hm (by simp[CC.refs]));simp only[CC.ren,RelCC,this]
   assumption
theorem RelCs.ren_to {V:Nat→Prop}{ψ:Nat→Option Loc}{ρ:List (Nat×Nat)}: ∀{cs:List C} {vs:List Value},(∀c∈cs,∀k,c.refs k=true→ψ (renN ρ k)=φ k)→RelCs (RelC G V φ w) cs vs→RelCs (RelC G V ψ w) (cs.map (C.ren ρ)) vs
 |[],[],_,_=>trivial
 |c::cs,v::vs,hφ,h=>⟨C.ren_to h.1 (hφ c (zz5 ..)),RelCs.ren_to (fun c hc=>hφ c (zz8 _ hc)) h.2⟩
 |[],_::_,_,h=>h.elim
 |_::_,[],_,h=>h.elim
theorem RelSs.ren_to {V:Nat→Prop}{ψ:Nat→Option Loc}{ρ:List (Nat×Nat)}: ∀{xs:List (Bool×List C)} {vs:List Value},(∀p∈xs,∀c∈p.2,∀k,c.refs k=true→ψ (renN ρ k)=φ k)→RelSs (RelC G V φ w) xs vs→
 RelSs (RelC G V ψ w) (xs.map fun p=>(p.1,p.2.map (C.ren ρ))) vs
 |[],[],_,_=>trivial
 |p::xs,u::vs,hφ,h=>by
  refine⟨?_,RelSs.ren_to (fun p hp=>hφ p (zz8 _ hp)) h.2⟩;have hp:=hφ p (zz5 ..)
  have hx:=h.1;rcases p with⟨b,cs⟩;cases b with
  |true=>obtain⟨us,e,g1,g2⟩:=hx;exact⟨us,e,RelCs.ren_to hp g1,g2⟩
  |false=>
   match cs,hp,hx with
   |[c],hp,hx=>exact⟨C.ren_to hx.1 (hp c (by simp)),hx.2⟩
   |[],_,hx=>exact hx.elim
   |_::_::_,_,hx=>exact hx.elim
 |[],_::_,_,h=>h.elim
 |_::_,[],_,h=>h.elim
theorem AV.ren_to {V:Nat→Prop}{ψ:Nat→Option Loc}{ρ:List (Nat×Nat)}{x:AV}{v:Value}(h:RelAV (RelC G V φ w) x v)(hφ: ∀k,x.refs k=true→ψ (renN ρ k)=φ k):RelAV (RelC G V ψ w) (x.ren ρ) v:=by
 have hc: ∀c∈x.cells,∀k,c.refs k=true→ψ (renN ρ k)=φ k:=fun c hc k hk=>hφ k (z7e hc hk);cases x with
 |c x=>
  by_cases e:x= .any
  ·subst e;trivial
  ·have:RelS (RelC G V φ w) (false,[x]) v:=by cases x<;>first|exact h|exact(e rfl).elim
   exact z0b (C.ren_to this.1 (hc x (by simp[AV.cells]))) this.2
 |agg xs=>obtain⟨us,e,h1,h2⟩:=h;exact⟨us,e,RelCs.ren_to hc h1,h2⟩
 |tup vs=>obtain⟨us,e,h1⟩:=h;exact⟨us,e,RelSs.ren_to (fun p hp c hc'=>hc c (List.mem_flatMap.2 ⟨p,hp,hc'⟩)) h1⟩
def renTm (ρ:List (Nat×Nat))(tm:List (Nat×AV)):List (Nat×AV):=tm.map fun p=>(p.1,p.2.ren ρ)
theorem ze8 {ρ:List (Nat×Nat)}: ∀(tm:List (Nat×AV)) (t:Nat),look (renTm ρ tm) t=(look tm t).map (AV.ren ρ)
 |[],t=>rfl
 |(j,x)::r,t=>by
  simp only[renTm,List.map_cons,z0t];by_cases e:j=t
  ·simp[e]
  ·rw[if_neg e,if_neg e];exact ze8 r t
theorem Sim.rename (h:Sim E s G φ a w){k k':Nat}(hn:s.noRef k'=true)(hfx:anyB (Nat.beq k') E.fx=false)(hlk:lkOk E.lk [k] [k']=true):
 Sim E ⟨renTm [(k,k')] s.tm,renSl [(k,k')] s.sl⟩ G (upd φ k' (φ k)) a w:=by
 obtain⟨n1,n2⟩:=z34 hn;have hr: ∀j,renN [(k,k')] j=if k=j then k' else j:=fun j=>by
  unfold renN;simp only[z0t];by_cases e:k=j
  ·simp[e]
  ·simp[e,look]
 have key: ∀j,j≠k'→upd φ k' (φ k) (renN [(k,k')] j)=φ j:=fun j hj=>by
  rw[hr];by_cases e:k=j
  ·rw[if_pos e,z3s,e]
  ·rw[if_neg e,z2l _ _ _ hj]
 have hin: ∀j c,look (renSl [(k,k')] s.sl) j=some c→ ∃i c0,j=renN [(k,k')] i∧look s.sl i=some c0∧c=c0.ren [(k,k')]∧i≠k':=fun j c hc=>by
  obtain⟨i,c0,h1,h2,h3⟩:=zay hc;exact⟨i,c0,h1,h2,h3,(n2 _ (z1z h2)).1⟩
 exact
 {h with
  tm:=fun t x hx=>by
   rw[ze8]at hx;cases hl:look s.tm t with
   |none=>rw[hl]at hx;cases hx
   |some x0=>
    rw[hl]at hx;cases hx;obtain⟨v,hv,hrel⟩:=h.tm t x0 hl;exact⟨v,hv,AV.ren_to hrel fun j hj=>key j fun e=>by rw[e,n1 _ (z1z hl)]at hj;cases hj⟩
  sl:=fun j c hc=>by
   obtain⟨i,c0,rfl,h2,rfl,hne⟩:=hin j c hc;have:=h.sl i c0 h2
   have e:=key i hne;cases c0 with
   |vec es n get=>simp only[Slot.ren,z3t,e];exact this
   |box cs=>
    obtain⟨l,hl,ht,vs,g1,g2,g3⟩:=this;refine⟨l,by rw[e];exact hl,by simpa using ht,vs,RelCs.ren_to (fun c hc j hj=>key j fun e=>?_) g1,g2,g3⟩;have:=(n2 _ (z1z h2)).2
    rw[e,Slot.refs_cells this c hc]at hj;cases hj
  inj:=fun j1 j2 c1 c2 l1 l2 h1 h2 e1 e2 eb=>by
   obtain⟨i1,d1,rfl,g1,_,ne1⟩:=hin _ _ h1;obtain⟨i2,d2,rfl,g2,_,ne2⟩:=hin _ _ h2;rw[key _ ne1]at e1;rw[key _ ne2]at e2;rw[h.inj _ _ _ _ _ _ g1 g2 e1 e2 eb]
  own:=fun j c l h1 h2=>by
   obtain⟨i,d,rfl,g,_,ne⟩:=hin _ _ h1;rw[key _ ne]at h2;obtain⟨o1,o2,o3,o4⟩:=h.own _ _ _ g h2;refine⟨o1,o2,o3,?_⟩;rcases o4 with o4|⟨o4,o5⟩
   ·exact .inl o4
   ·refine .inr ⟨?_,o5⟩;rw[hr];by_cases e:k=i
    ·rw[if_pos e];subst e;unfold lkOk at hlk;split at hlk
     ·rename_i hall
      exact z39.1 (z28 hall k' (by simp))
     ·have:anyB (fun k=>anyB (Nat.beq k) E.lk) [k]=true:=z87 (by simp) (z39.2 o4);rw[this]at hlk;cases hlk
    ·rw[if_neg e];exact o4
  fix:=fun j c hx h1=>by
   obtain⟨i,d,rfl,g,_,ne⟩:=hin _ _ h1;rw[key _ ne];have hne': ¬k=i:=fun e=>by
    rw[hr,if_pos e]at hx;exact z70 hfx hx
   rw[hr,if_neg hne']at hx ⊢;exact h.fix _ _ hx g}
theorem SimE.rename (k k':Nat)(h:SimE E s a w)(hn:s.noRef k'=true)(hfx:anyB (Nat.beq k') E.fx=false)(hlk:lkOk E.lk [k] [k']=true){s':St}(e:(⟨renTm [(k,k')] s.tm,renSl [(k,k')] s.sl⟩:St)=s'):SimE E s' a w:=by
 obtain⟨G,φ,h⟩:=h;exact e▸⟨G,_,h.rename hn hfx hlk⟩
theorem Tri.rename (k k':Nat)(s':St){c:Code}{post:Exit→St→Prop}(e:(⟨renTm [(k,k')] s.tm,renSl [(k,k')] s.sl⟩:St)=s')(hn:s.noRef k'=true)(hfx:anyB (Nat.beq k') E.fx=false)(hlk:lkOk E.lk [k] [k']=true)
 (h:Tri E c s' post):Tri E c s post:=Tri.weaken (fun _ _ hs=>hs.rename k k' hn hfx hlk e) h
theorem At.rename (k k':Nat)(s':St){L:List Oper}{i:Nat}{K:St→Prop}(e:(⟨renTm [(k,k')] s.tm,renSl [(k,k')] s.sl⟩:St)=s')(hn:s.noRef k'=true)(hfx:anyB (Nat.beq k') E.fx=false)(hlk:lkOk E.lk [k] [k']=true)
 (h:At E L i s' K):At E L i s K:=fun a w hs=>h a w (hs.rename k k' hn hfx hlk e)
theorem SimE.newOwnB {a:Act}{w:World}(h:SimE E s a w){j i k es:Nat}{cs:List C}{get:Nat→List D}(hkx:anyB (Nat.beq k) E.fx=false)(hz:look s.sl j=some (.box cs))(hi:cs[i]?=some .zero)(hk:s.noRef k=true):
 SimE E ((s.slot k (.vec es 0 get)).slot j (.box (cs.set i (.own k es 0 0)))) a w:=by
 obtain⟨G,φ,h⟩:=h;have hs:=h.newVec0 (z70 hkx) hk es get
 have hjk:k≠j:=fun e=>((z34 hk).2 _ (z1z hz)).1 e.symm;have hz':look (s.slot k (.vec es 0 get)).sl j=some (.box cs):=by simp[St.slot,z0t,hjk,hz]
 have hrel:=hs.sl j _ hz';have hin: ∀j' c,look ((s.slot k (.vec es 0 get)).slot j (.box (cs.set i (.own k es 0 0)))).sl j'=some c→(j'=j∧c= .box (cs.set i (.own k es 0 0)))∨(j'≠j∧look (s.slot k (.vec es 0 get)).sl j'=some c):=fun j' c hc=>by
  simp only[St.slot,z0t]at hc ⊢;by_cases e:j=j'
  ·rw[if_pos e]at hc;cases hc;exact .inl ⟨e.symm,rfl⟩
  ·rw[if_neg e]at hc;exact .inr ⟨fun x=>e x.symm,hc⟩
 have hex: ∀j' c,look ((s.slot k (.vec es 0 get)).slot j (.box (cs.set i (.own k es 0 0)))).sl j'=some c→ ∃c0,look (s.slot k (.vec es 0 get)).sl j'=some c0:=fun j' c hc=>by
  rcases hin j' c hc with⟨rfl,_⟩|⟨_,h⟩
  ·exact⟨_,hz'⟩
  ·exact⟨_,h⟩
 refine⟨G,upd φ k none,{hs with tm:=hs.tm,sl:=fun j' c hc=>?_,inj:=fun k1 k2 c1 c2 l1 l2 h1 h2=>?_,own:=fun k' c l h1=>?_,fix:=fun k' c hx h1=>?_}⟩
 ·rcases hin j' c hc with⟨rfl,rfl⟩|⟨_,hc⟩
  ·obtain⟨l,hl,ht,vs,g1,g2,g3⟩:=hrel;refine⟨l,hl,by simpa using ht,vs,?_,g2,g3⟩;clear hz hz' hin hex hc ht g2 g3;induction cs generalizing i vs with
   |nil=>simp at hi
   |cons c cs ih=>
    cases vs with
    |nil=>exact g1.elim
    |cons v vs=>
     cases i with
     |zero=>
      simp at hi;subst hi;obtain⟨A,rfl⟩:=g1.1;exact⟨.inl ⟨rfl,A,rfl⟩,g1.2⟩
     |succ i=>exact⟨g1.1,ih (i:=i) (by simpa using hi) _ g1.2⟩
  ·exact hs.sl _ _ hc
 ·obtain⟨_,h1⟩:=hex _ _ h1;obtain⟨_,h2⟩:=hex _ _ h2;exact hs.inj _ _ _ _ _ _ h1 h2
 ·obtain⟨_,h1⟩:=hex _ _ h1;exact hs.own _ _ _ h1
 ·obtain⟨_,h1⟩:=hex _ _ h1;exact hs.fix _ _ hx h1
theorem Tri.newOwnB {c:Code}{post:Exit→St→Prop}{j i k es:Nat}{cs:List C}(get:Nat→List D)(hkx:anyB (Nat.beq k) E.fx=false)(hz:look s.sl j=some (.box cs))(hi:cs[i]?=some .zero)(hk:s.noRef k=true)
 (h:Tri E c ((s.slot k (.vec es 0 get)).slot j (.box (cs.set i (.own k es 0 0)))) post):Tri E c s post:=fun a w hs=>h a w (hs.newOwnB hkx hz hi hk)
theorem At.newOwnB {L:List Oper}{i':Nat}{K:St→Prop}{j i k es:Nat}{cs:List C}(get:Nat→List D)(hkx:anyB (Nat.beq k) E.fx=false)(hz:look s.sl j=some (.box cs))(hi:cs[i]?=some .zero)(hk:s.noRef k=true)
 (h:At E L i' ((s.slot k (.vec es 0 get)).slot j (.box (cs.set i (.own k es 0 0)))) K):At E L i' s K:=fun a w hs=>h a w (hs.newOwnB hkx hz hi hk)
theorem zf6 {ops:Array Oper}{o:Oper}{x:DOp}{z0:AV}{S':List (Nat×Slot)}(ρ:List (Nat×Nat))(k1 k2:List Nat)
 (hone: ∀r:St,allC (fun k=>match look (lessK ((k1++k2).map (renN ρ)) (x.need.sl++r.sl)) (renN ρ k)with|some _=>false|none=>true) (k1++k2)=true→allC (fun k=>(⟨x.need.tm++r.tm,lessK ((k1++k2).map (renN ρ)) (x.need.sl++r.sl)⟩:St).noRef (renN ρ k)) (oddK k1 k2)=true→
  One E ops o (x.need.app r) (putO ⟨x.need.tm++r.tm,S'++lessK ((k1++k2).map (renN ρ)) (x.need.sl++r.sl)⟩ o.dst z0))
 (hodd:allC (fun k=>(⟨x.need.tm,lessK ((k1++k2).map (renN ρ)) x.need.sl⟩:St).noRef (renN ρ k)) (oddK k1 k2)=true)
 (hmk:allC (fun k=>memB (renN ρ k) x.mks) (oddK k1 k2)=true)
 (hcov:allC (fun k=>z0x (renN ρ k) x.eff.sl) (k1++k2)=true) (hesl:S'=x.eff.sl)
 (het:match o.dst with|some d=>[(d,z0)]=x.eff.tm|none=>x.eff.tm=[]):DOk E ops o x:=DOk.one fun r hr=>by
 let im:=(k1++k2).map (renN ρ)
 have hle0: ∀(l:List (Nat×Slot)) t c,look (lessK im l) t=some c→memB t im=false∧look l t=some c:=fun l t c h=>by
  rw[z3e]at h;cases hm:memB t im with
  |true=>rw[hm]at h;cases h
  |false=>rw[hm]at h;exact⟨rfl,h⟩
 refine(hone r ?_ ?_).weaken fun a w hs=>hs.weaken (fun t y hy=>?_) fun t y hy=>?_
 ·have: ∀k∈k1++k2,(match look (lessK im (x.need.sl++r.sl)) (renN ρ k)with|some _=>false|none=>true)=true:=fun k hk=>by
   have hm:memB (renN ρ k) im=true:=z1x.2 (List.mem_map.2 ⟨k,hk,rfl⟩);rw[z3e,hm]
  have key: ∀l:List Nat,(∀k∈l,(match look (lessK im (x.need.sl++r.sl)) (renN ρ k)with|some _=>false|none=>true)=true)→allC (fun k=>match look (lessK im (x.need.sl++r.sl)) (renN ρ k)with|some _=>false|none=>true) l=true:=by
   intro l;induction l with
   |nil=>intro _;rfl
   |cons k l ih=>
    intro h;simp only[allC];rw[h k (zz5 ..)];exact ih fun j hj=>h j (zz8 _ hj)
  exact key _ this
 ·have: ∀k∈oddK k1 k2,(⟨x.need.tm++r.tm,lessK im (x.need.sl++r.sl)⟩:St).noRef (renN ρ k)=true:=fun k hk=>by
   have h1:=z28 hodd k hk;have h2:=hr _ (z1x.1 (z28 hmk k hk))
   rw[z9d];have h3:(⟨r.tm,lessK im r.sl⟩:St).noRef (renN ρ k)=true:=by
    obtain⟨p1,p2⟩:=z34 h2;unfold St.noRef;have q1:anyB (fun e:Nat×AV=>AV.refs (renN ρ k) e.2) r.tm=false:=by
     cases e:anyB (fun e:Nat×AV=>AV.refs (renN ρ k) e.2) r.tm with
     |false=>rfl
     |true=>obtain⟨y,hy,hy'⟩:=z74.1 e;rw[p1 y hy]at hy';cases hy'
    have q2:anyB (z59 (renN ρ k)) (lessK im r.sl)=false:=by
     cases e:anyB (z59 (renN ρ k)) (lessK im r.sl)with
     |false=>rfl
     |true=>
      obtain⟨y,hy,hy'⟩:=z74.1 e;have hmem: ∀l:List (Nat×Slot),y∈lessK im l→y∈l:=by
       intro l;induction l with
       |nil=>intro h;exact h
       |cons z l ih=>
        rcases z with⟨zk,zc⟩;intro h;simp only[lessK]at h;split at h
        ·exact zz8 _ (ih h)
        ·rcases List.mem_cons.1 h with h|h
         ·rw[h];exact zz5 ..
         ·exact zz8 _ (ih h)
      obtain⟨u1,u2⟩:=p2 y (hmem _ hy);unfold z59 at hy';have hb:Nat.beq y.1 (renN ρ k)=false:=by
       cases hb:Nat.beq y.1 (renN ρ k)with
       |false=>rfl
       |true=>exact absurd (zz3 hb) u1
      rw[hb]at hy';simp only[u2]at hy';cases hy'
    simp only[q1,q2]
   exact z27 (n:=⟨x.need.tm,lessK im x.need.sl⟩) (r:=⟨r.tm,lessK im r.sl⟩) h1 h3
  have key: ∀l:List Nat,(∀k∈l,(⟨x.need.tm++r.tm,lessK im (x.need.sl++r.sl)⟩:St).noRef (renN ρ k)=true)→allC (fun k=>(⟨x.need.tm++r.tm,lessK im (x.need.sl++r.sl)⟩:St).noRef (renN ρ k)) l=true:=by
   intro l;induction l with
   |nil=>intro _;rfl
   |cons k l ih=>
    intro h;simp only[allC];rw[h k (zz5 ..)];exact ih fun j hj=>h j (zz8 _ hj)
  exact key _ this
 ·cases hdd:o.dst with
  |none=>
   rw[hdd]at het;have het:x.eff.tm=[]:=het
   simp only[St.app,het,List.nil_append]at hy;exact hy
  |some d=>
   rw[hdd]at het;have het:[(d,z0)]=x.eff.tm:=het
   simp only[St.app,←het]at hy;exact hy
 ·have h1:look (S'++lessK im (x.need.sl++r.sl)) t=some y:=by
   simp only[St.app,←hesl]at hy;rw[z1o]at hy ⊢;cases he:look (S') t with
   |some z=>rw[he]at hy;exact hy
   |none=>
    rw[he]at hy;simp only at hy ⊢;rw[z3e];cases hm:memB t im with
    |false=>exact hy
    |true=>
     obtain⟨k,hk,rfl⟩:=List.mem_map.1 (z1x.1 hm);obtain⟨z,hz⟩:=z24.1 (z28 hcov k hk);rw[←hesl,he]at hz;cases hz
  cases hdd:o.dst with
  |none=>exact h1
  |some d=>exact h1
theorem DOk.callL {ops:Array Oper}{o:Oper}{x:DOp}{cl:Call}{f:FuncId}{nf:Nat}{caps:List CC}{xs args:List AV}{res:AV}{sl sl':List (Nat×Slot)}(ρ:List (Nat×Nat))
 (hS:Summ E.P f args sl res sl') (hop:o.op= .call cl) (hw: ∀r,z0i ops (x.need.app r) o=some true) (hd:dstOk E.N o.dst=true)
 (hc: ∀r,z55 (x.need.app r) cl=some (f,nf,caps)) (hx: ∀r,argsL (x.need.app r) cl nf caps=some xs)
 (hle: ∀r,AVsArgL (x.need.app r) ρ (keysS sl) ((keysS sl).map (renN ρ)) xs args) (hsl: ∀r,LentS (x.need.app r) ρ (keysS sl) sl) (hinj:injB ρ (keysS sl)=true) (hinj':injB ρ (keysS sl')=true)
 (hres:res.lent (keysS sl')=true) (hsl':allC (fun p:Nat×Slot=>p.2.lent (keysS sl')) sl'=true)
 (hodd:allC (fun k=>(⟨x.need.tm,lessK ((keysS sl++keysS sl').map (renN ρ)) x.need.sl⟩:St).noRef (renN ρ k)) (oddK (keysS sl) (keysS sl'))=true)
 (hmk:allC (fun k=>memB (renN ρ k) x.mks) (oddK (keysS sl) (keysS sl'))=true)
 (hfx:allC (fun k=> !anyB (Nat.beq (renN ρ k)) E.fx) (oddK (keysS sl) (keysS sl'))=true) (hlk:lkOk3 E.lk ρ (keysS sl) (keysS sl')=true)
 (hcov:allC (fun k=>z0x (renN ρ k) x.eff.sl) (keysS sl++keysS sl')=true) (hesl:renSl ρ sl'=x.eff.sl)
 (het:match o.dst with|some d=>[(d,res.ren ρ)]=x.eff.tm|none=>x.eff.tm=[]):DOk E ops o x:=
 zf6 ρ (keysS sl) (keysS sl') (fun r q1 q2=>One.callL ρ ⟨x.need.tm++r.tm,lessK ((keysS sl++keysS sl').map (renN ρ)) (x.need.sl++r.sl)⟩ hS hop (hw r) hd (hc r) (hx r) (hle r) (hsl r) hinj hinj' hres hsl' (fun t y h=>h) (fun t c h=>by
  rw[z3e]at h;split at h
  ·cases h
  ·exact h) q1 q2 hfx hlk) hodd hmk hcov hesl het
end
end Go.Av
/-
 Av,part Y:more rules over lists;library functions that the model stands in for.
-/
namespace Go.Av
open Go
@[reducible] def onlyS (s1:St):Exit→St→Prop:=fun e s=>e= .normal∧s=s1
section
variable {E:Env} {s:St} {X:Type} [Inhabited X]
theorem z2g (s1:St){c:Code}{post:Exit→St→Prop}(h:Tri E c s (onlyS s1))(hA:At E [] 0 s1 (post .normal)):Tri E c s post:=fun a w hs=>
 wp_mono (h a w hs) fun e a' w' ⟨s',hp,hs'⟩=>by
  obtain⟨rfl,rfl⟩:=hp;exact hA a' w' hs' (fun e a'' w''=> ∃s'',post e s''∧SimE E s'' a'' w'') fun s'' a'' w'' k h'=>⟨s'',k,h'⟩
theorem zfx {ops:Array Oper}{o:Oper}{src dst e:TypeId}{x:Operand}{y:AV}(xs:List Int)
 (hop:o.op= .convert src dst x) (hw:z0i ops s o=some true) (hd:dstOk E.N o.dst=true)
 (hu:E.P.underlying src=some (.slice e)) (hb:E.P.underlying e=some (.int .u8)) (hst:E.P.underlying dst=some .string)
 (hx:evO s x=some y) (hsrc:SrcOf s y 1 xs.length (fun i=>z2c .u8 (xs.getD i zzd))):
 One E ops o s (putO s o.dst (.c (.d (.str (strOfNums xs))))):=
 zga hop hw hd hu hb hst hx hsrc rfl fun i hi=>rfl
def zjp (s:ByteArray):List Int:=s.data.toList.map fun b=>(b.toNat:Int)
@[simp] theorem zlt (s:ByteArray):(zjp s).length=s.size:=by
 unfold zjp;rw[List.length_map,zz2];rfl
def strings_Join (xs:List ByteArray)(sep:ByteArray):Option ByteArray:=
 need (xs.length≤140737488355328∧(Lib.join (xs.map (·.data.toList)) sep.data.toList).length≤140737488355328)<|some ⟨(Lib.join (xs.map (·.data.toList)) sep.data.toList).toArray⟩
end
end Go.Av
namespace Go.Av
section
variable {X:Type} [Inhabited X]
end
end Go.Av
namespace Go.Av
abbrev i6 (x:Int):D:= .int .i64 x
abbrev u6 (x:Int):D:= .int .u64 x
abbrev cD (d:D):AV:= .c (.d d)
abbrev lD {X:Type}[Inhabited X](es:Nat)(e:X→List D)(l:List X):D:= .list es l.length (fun i=>e (l.getD i zzd))
abbrev wC {X:Type}[Inhabited X](es:Nat)(e:X→List D)(l:List X):C:= .view es l.length (fun i=>e (l.getD i zzd))
abbrev oC {X:Type}(k es:Nat)(l:List X):C:= .own k es 0 l.length
abbrev vL {X:Type}[Inhabited X](es:Nat)(e:X→List D)(l:List X):Slot:= .vec es l.length (fun i=>e (l.getD i zzd))
theorem DOk.t {E:Env}{ops:Array Oper}{o:Oper}{x:DOp}{d:Nat}{av:AV}(he0:x.eff=⟨[(d,av)],[]⟩)(hd:o.dst=some d)(hw:(fun r=>(z0i ops (x.need.app r) o,z2s E.P (x.need.app r) (some d) o.op))=fun _=>(some true,some (.val av True)))
 (hok:(okDst E.N x.need (some d) (.val av True) && mksOk x.mks (.val av True) (some d))=true):DOk E ops o x:=
 DOk.step (.val av True) (fun r=>congrArg Prod.fst (congrFun hw r)) (fun r=>by rw[hd];exact congrArg Prod.snd (congrFun hw r)) trivial (by rw[hd];exact(Bool.and_eq_true_iff.1 hok).1) (by rw[hd];exact(Bool.and_eq_true_iff.1 hok).2) (fun r=>by rw[hd,he0];rfl)
end Go.Av
namespace Go.Av
open Go
abbrev dI (x:Int):D:= .int .i64 x
abbrev dU (x:Int):D:= .int .u64 x
inductive Sh where
 |a (tm sl:List Nat)
 |m (need eff:St) (mks dead hid:List Nat)
def zaa (P:Program)(ops:Array Oper)(n:St)(o:Oper):St:=
 match o.dst with
 |none=>⟨[],[]⟩
 |some d=>match z0i ops n o with
  |some true=>match z2s P n (some d) o.op with
   |some (.val av _)=>⟨[(d,av)],[]⟩
   |_=>⟨[],[]⟩
  |some false=>⟨[(d,.tup [])],[]⟩
  |none=>⟨[],[]⟩
def zm7 (s0:St)(b:List Nat)(acc:List DOp)(tm sl:List Nat):St:=
 match keep tm sl (stD (fun i=>memB i b) 0 acc s0)with
 |some n=>n
 |none=>⟨[],[]⟩
def z1q (P:Program)(ops:Array Oper)(s0:St)(bef:List (List Nat)):Nat→List Oper→List Sh→List DOp→List DOp
 |r,o::os,.a tm sl::xs,acc=>
  (fun x:DOp=>x::z1q P ops s0 bef (r+1) os xs (acc++[x])) ((fun n:St=>⟨n,zaa P ops n o,[],[],[]⟩) (zm7 s0 (nth bef r) acc tm sl))
 |r,_::os,.m n e mk dd hd::xs,acc=>⟨n,e,mk,dd,hd⟩::z1q P ops s0 bef (r+1) os xs (acc++[⟨n,e,mk,dd,hd⟩])
 |_,_,_,_=>[]
def z5n (P:Program)(ops:Array Oper)(r:St):List Oper→List DOp→List Sh→List (Option Bool×Option Step)
 |o::os,x::xs,.a _ _::ys=>(z0i ops (x.need.app r) o,z2s P (x.need.app r) o.dst o.op)::z5n P ops r os xs ys
 |_::os,_::xs,.m _ _ _ _ _::ys=>z5n P ops r os xs ys
 |_,_,_=>[]
def z75 (N:Nat)(P:Program)(ops:Array Oper):List Oper→List DOp→List Sh→Bool
 |o::os,x::xs,.a _ _::ys=>
  match(match o.dst with
   |none=>false
   |some d=>match z0i ops x.need o with
    |some true=>match z2s P x.need (some d) o.op with
     |some (.val av c)=>match okDst N x.need (some d) (.val av c)with|true=>mksOk [] (.val av c) (some d)|false=>false
     |_=>false
    |some false=>Nat.blt d N
    |none=>false)with
  |true=>z75 N P ops os xs ys
  |false=>false
 |_::os,_::xs,.m _ _ _ _ _::ys=>z75 N P ops os xs ys
 |_,_,_=>true
def z5d (P:Program)(ops:Array Oper):List Oper→List DOp→List Sh→Prop
 |o::os,x::xs,.a _ _::ys=>
  match z0i ops x.need o with
  |some true=>match z2s P x.need o.dst o.op with
   |some (.val _ c)=>c∧z5d P ops os xs ys
   |_=>z5d P ops os xs ys
  |_=>z5d P ops os xs ys
 |_::os,_::xs,.m _ _ _ _ _::ys=>z5d P ops os xs ys
 |_,_,_=>True
inductive ManOk (E:Env) (ops:Array Oper):List Oper→List Sh→Prop
 |z {os:List Oper}:ManOk E ops os []
 |a {o:Oper} {os:List Oper} {tm sl:List Nat} {ys:List Sh} (h:ManOk E ops os ys):ManOk E ops (o::os) (.a tm sl::ys)
 |m {o:Oper} {os:List Oper} {n e:St} {mk dd hd:List Nat} {ys:List Sh} (h1:DOk E ops o ⟨n,e,mk,dd,hd⟩) (h:ManOk E ops os ys):ManOk E ops (o::os) (.m n e mk dd hd::ys)
theorem zg9 {E:Env}{ops:Array Oper}{o:Oper}{n:St}(hl: ∀r:St,z0i ops (n.app r) o=z0i ops n o∧z2s E.P (n.app r) o.dst o.op=z2s E.P n o.dst o.op)
 (hg:(match o.dst with
  |none=>false
  |some d=>match z0i ops n o with
   |some true=>match z2s E.P n (some d) o.op with
    |some (.val av c)=>match okDst E.N n (some d) (.val av c)with|true=>mksOk [] (.val av c) (some d)|false=>false
    |_=>false
   |some false=>Nat.blt d E.N
   |none=>false)=true)
 (hc:match z0i ops n o with
  |some true=>match z2s E.P n o.dst o.op with
   |some (.val _ c)=>c
   |_=>True
  |_=>True):DOk E ops o ⟨n,zaa E.P ops n o,[],[],[]⟩:=by
 cases hd:o.dst with
 |none=>rw[hd]at hg;cases hg
 |some d=>
  rw[hd]at hg;simp only at hg;cases hw:z0i ops n o with
  |none=>rw[hw]at hg;cases hg
  |some b=>
   rw[hw]at hg hc;cases b with
   |false=>
    simp only at hg;refine DOk.skip (d:=d) (fun r=>(hl r).1.trans hw) hd hg (fun r=>?_);unfold zaa;rw[hd];simp only[hw];rfl
   |true=>
    simp only at hg hc;cases he:z2s E.P n (some d) o.op with
    |none=>rw[he]at hg;cases hg
    |some st=>
     rw[he]at hg;cases st with
     |val av c=>
      simp only at hg;rw[hd,he]at hc;simp only at hc;have h1:okDst E.N n (some d) (.val av c)=true:=by
       cases e:okDst E.N n (some d) (.val av c)with
       |true=>rfl
       |false=>rw[e]at hg;cases hg
      rw[h1]at hg;refine DOk.step (.val av c) (fun r=>(hl r).1.trans hw) (fun r=>?_) hc (by rw[hd];exact h1) (by rw[hd];exact hg) (fun r=>?_)
      ·have:=(hl r).2;rw[hd,he]at this;rw[hd];exact this
      ·unfold zaa;rw[hd];simp only[hw,he];rfl
     |new c x=>simp only at hg;cases hg
     |turn k c=>simp only at hg;cases hg
theorem zgn {E:Env}{ops:Array Oper}{s0:St}{bef:List (List Nat)}: ∀(os:List Oper) (ys:List Sh) (r0:Nat) (acc:List DOp),Nat.beq os.length ys.length=true→
 (∀r:St,z5n E.P ops r os (z1q E.P ops s0 bef r0 os ys acc) ys=z5n E.P ops ⟨[],[]⟩ os (z1q E.P ops s0 bef r0 os ys acc) ys)→
 z75 E.N E.P ops os (z1q E.P ops s0 bef r0 os ys acc) ys=true→z5d E.P ops os (z1q E.P ops s0 bef r0 os ys acc) ys→ManOk E ops os ys→
 za8 E ops os (z1q E.P ops s0 bef r0 os ys acc)
 |[],[],_,_,_,_,_,_,_=>trivial
 |[],_::_,_,_,h,_,_,_,_=>by cases h
 |_::_,[],_,_,h,_,_,_,_=>by cases h
 |o::os,.m n e mk dd hd::ys,r0,acc,hlen,hv,hg,hc,hm=>by
  cases hm with|m h1 h2=>exact⟨h1,zgn os ys (r0+1) _ hlen hv hg hc h2⟩
 |o::os,.a tm sl::ys,r0,acc,hlen,hv,hg,hc,hm=>by
  have e0: ∀n:St,n.app ⟨[],[]⟩=n:=fun n=>by cases n;simp[St.app]
  have hv1:=fun r=>List.cons.inj (hv r);unfold z1q at hg hc;simp only[z75,z5d]at hg hc;have hg2: ∀{b:Bool} {z:Bool},(match b with|true=>z|false=>false)=true→b=true∧z=true:=fun{b z} h=>by cases b<;>simp_all
  obtain⟨g1,g2⟩:=hg2 hg;refine⟨zg9 (fun r=>?_) g1 ?_,zgn os ys (r0+1) _ hlen (fun r=>(hv1 r).2) g2 ?_ (by cases hm with|a h=>exact h)⟩
  ·have:=(hv1 r).1;simp only[Prod.mk.injEq]at this;rw[e0]at this;exact this
  ·revert hc
   split
   ·split
    ·intro h;exact h.1
    ·intro _;trivial
   ·intro _;trivial
  ·revert hc
   split
   ·split
    ·intro h;exact h.2
    ·intro h;exact h
   ·intro h;exact h
theorem zdr {E:Env}{s:St}{post:Exit→St→Prop}{id:Nat}{l:List Oper}(ys:List Sh)(bef:List (List Nat)){s':St}{cs:Prop}(tk sk:List Nat)(hm:E.P.follows .mixedOrders=true)
 (hb:(match Nat.beq l.length ys.length with|true=>(match drawB l (z1q E.P l.toArray s bef 0 l ys []) bef s with|true=>z75 E.N E.P l.toArray l (z1q E.P l.toArray s bef 0 l ys []) ys|false=>false)|false=>false)=true)
 (hn:z6n (z1q E.P l.toArray s bef 0 l ys []) bef s 0 (z1q E.P l.toArray s bef 0 l ys [])=z6m (z1q E.P l.toArray s bef 0 l ys []))
 (hv:(fun r=>z5n E.P l.toArray r l (z1q E.P l.toArray s bef 0 l ys []) ys)=fun _=>z5n E.P l.toArray ⟨[],[]⟩ l (z1q E.P l.toArray s bef 0 l ys []) ys)
 (hce:z5d E.P l.toArray l (z1q E.P l.toArray s bef 0 l ys []) ys=cs) (hc:cs) (hman:ManOk E l.toArray l ys)
 (hk:Av.keep tk sk (stD (fun _=>true) 0 (z1q E.P l.toArray s bef 0 l ys []) s)=some s') (hp:post .normal s'):Tri E (.region id l.toArray true) s post:=by
 have h2: ∀{b z:Bool},(match b with|true=>z|false=>false)=true→b=true∧z=true:=fun{b z} h=>by cases b<;>simp_all
 obtain⟨hlen,hb⟩:=h2 hb;obtain⟨hd,hg⟩:=h2 hb;exact Tri.drawn hm hd hn (zgn l ys 0 [] hlen (fun r=>congrFun hv r) hg (hce▸hc) hman) hk hp
end Go.Av
namespace Go.Av
open Go
section
variable {E:Env} {s:St} {post:Exit→St→Prop} {id:Nat} {l:List Oper} {y:Code}
theorem z22 (tk sk:List Nat)(s':St)(c:Prop)(he:z56 E.P E.N l.toArray l tk sk s=some (s',c))(hc:c)(h:Tri E y s' post):Tri E (.seq (.region id l.toArray false) y) s post:=by
 refine z02 ?_;refine z05 ?_;have hl:(l.drop 0).take l.length=l:=by rw[List.drop_zero,List.take_of_length_le (zz9 _)]
 refine At.seg l.length tk sk (s':=s') (c:=c) (by rw[hl];exact he) hc ?_;rw[zz6];exact At.done (Nat.ble_eq_true_of_le (zz9 _)) h
end
def allT:Nat→Prop
 |0=>True
 |n+1=>True∧allT n
theorem z00: ∀n,allT n
 |0=>trivial
 |n+1=>⟨trivial,z00 n⟩
end Go.Av
namespace Go.Av
open Go
def tNp:Nat→Prop→Prop
 |0,p=>p
 |n+1,p=>True∧tNp n p
theorem tN: ∀(n:Nat) {p:Prop},p→tNp n p
 |0,_,h=>h
 |n+1,_,h=>⟨trivial,tN n h⟩
theorem ai {a b:Prop}(x:a)(y:b):a∧b:=⟨x,y⟩
def zef (P:Program)(N:Nat)(ops:Array Oper)(l:List Oper)(tk sk:List Nat)(s:St):St:=match z56 P N ops l tk sk s with|some (s',_)=>s'|none=>⟨[],[]⟩
def segPO (P:Program)(N:Nat)(ops:Array Oper)(l:List Oper)(tk sk:List Nat)(s:St):Option Prop:=match z56 P N ops l tk sk s with|some (_,c)=>some c|none=>none
def z6z (tk sk:List Nat)(s:St):St:=match keep tk sk s with|some s'=>s'|none=>⟨[],[]⟩
def zag (tk sk:List Nat)(s:St):Bool:=match keep tk sk s with|some _=>true|none=>false
theorem z85 {tk sk:List Nat}{s:St}(h:zag tk sk s=true):keep tk sk s=some (z6z tk sk s):=by
 unfold zag at h;unfold z6z;cases hk:keep tk sk s with
 |none=>rw[hk]at h;cases h
 |some s'=>rfl
theorem zee {P:Program}{N:Nat}{ops:Array Oper}{l:List Oper}{tk sk:List Nat}{s:St}{c:Prop}(h:segPO P N ops l tk sk s=some c):z56 P N ops l tk sk s=some (zef P N ops l tk sk s,c):=by
 unfold segPO at h;unfold zef;cases he:z56 P N ops l tk sk s with
 |none=>rw[he]at h;cases h
 |some r=>
  rw[he]at h;cases h;rfl
theorem kr {α:Type}{a b:α}(h:a=b:=by kernel_rfl):a=b:=h
def retEv (P:Program)(s:St)(rs:List ResultVar):Option (AV×Prop):=match evRes P s rs with|some (l,c)=>some (resAV l,c)|none=>none
theorem RetAt.k {P:Program}{fn:Func}{res:AV}{sl':List (Nat×Slot)}{s:St}(h1:retEv P s fn.results.toList=some (res,allT fn.results.size):=by kernel_rfl)
 (h2:(match res.clean with|true=>allC (fun p:Nat×Slot=>p.2.clean) sl'|false=>false)=true:=by kernel_rfl) (h3:sl'.map (fun p=>look s.sl p.1)=sl'.map (fun p=>some p.2):=by kernel_rfl):RetAt P fn res sl' s:=by
 unfold retEv at h1;cases he:evRes P s fn.results.toList with
 |none=>rw[he]at h1;cases h1
 |some r=>
  obtain⟨l,c⟩:=r;rw[he]at h1;simp only[Option.some.injEq,Prod.mk.injEq]at h1;obtain⟨rfl,rfl⟩:=h1;have h2':(resAV l).clean=true∧allC (fun p:Nat×Slot=>p.2.clean) sl'=true:=by
   cases hc:(resAV l).clean with
   |true=>rw[hc]at h2;exact⟨rfl,h2⟩
   |false=>rw[hc]at h2;cases h2
  refine⟨l,_,he,z00 _,rfl,h2'.1,fun k c hk=>?_⟩;have hm:=z1z hk
  have:=List.map_inj_left.1 h3 _ hm;exact⟨this,z28 h2'.2 _ hm⟩
def putBs (ts:List Nat)(v:Bool)(s:St):St:=⟨ts.map (fun t=>(t,.c (.d (.bool v))))++s.tm,s.sl⟩
def befGo:List Oper→List (List Nat)→List (List Nat)
 |[],acc=>acc
 |o::os,acc=>befGo os (acc++[((o.after.toList.filter fun a=>match a.ground with| .textOnly _=>false| .gcOnly _=>false|_=>true).map (·.on)).foldr (fun j r=>(j::nth acc j).foldr (fun i r=>match memB i r with|true=>r|false=>i::r) r) []])
section
variable {E:Env} {s:St} {post:Exit→St→Prop} {id:Nat} {l:List Oper} {y:Code} {L:List Oper} {i:Nat} {K:St→Prop} {Q:Type} {q:Q} {x:Code}
theorem At.sg (n:Nat)(tk sk:List Nat){c:Prop}(hc:c)(h:At E L (i+n) (zef E.P E.N L.toArray ((L.drop i).take n) tk sk s) K) (he:segPO E.P E.N L.toArray ((L.drop i).take n) tk sk s=some c:=by kernel_rfl):At E L i s K:=
 At.seg n tk sk (zee he) hc h
theorem Tri.sg (tk sk:List Nat){c:Prop}(hc:c)(h:Tri E y (zef E.P E.N l.toArray l tk sk s) post)(he:segPO E.P E.N l.toArray l tk sk s=some c:=by kernel_rfl):Tri E (.seq (.region id l.toArray false) y) s post:=
 z22 tk sk _ c (zee he) hc h
theorem Tri.kp (tk sk:List Nat)(h:Tri E y (z6z tk sk s) post)(he:zag tk sk s=true:=by kernel_rfl):Tri E y s post:=Tri.keep tk sk (z85 he) h
theorem z06 {c:Operand}{b:Bool}{u v:Option Q}(h:bf b u v=some q)(ht:u=some q→Tri E x s post)(hf:v=some q→Tri E y s post)(hb:evO s c=some (.c (.d (.bool b))):=by kernel_rfl):
 Tri E (.cond c x y) s post:=zj7 hb h ht hf
theorem z0u (ys:List Sh)(tk sk:List Nat){cs:Prop}(hc:cs)(hman:ManOk E l.toArray l ys)(hp:post .normal (z6z tk sk (stD (fun _=>true) 0 (z1q E.P l.toArray s (befGo l []) 0 l ys []) s)))
 (hm:E.P.follows .mixedOrders=true:=by kernel_rfl)
 (hb:(match Nat.beq l.length ys.length with|true=>(match drawB l (z1q E.P l.toArray s (befGo l []) 0 l ys []) (befGo l []) s with|true=>z75 E.N E.P l.toArray l (z1q E.P l.toArray s (befGo l []) 0 l ys []) ys|false=>false)|false=>false)=true:=by kernel_rfl)
 (hn:z6n (z1q E.P l.toArray s (befGo l []) 0 l ys []) (befGo l []) s 0 (z1q E.P l.toArray s (befGo l []) 0 l ys [])=z6m (z1q E.P l.toArray s (befGo l []) 0 l ys []):=by kernel_rfl)
 (hv:(fun r=>z5n E.P l.toArray r l (z1q E.P l.toArray s (befGo l []) 0 l ys []) ys)=(fun _=>z5n E.P l.toArray ⟨[],[]⟩ l (z1q E.P l.toArray s (befGo l []) 0 l ys []) ys):=by kernel_rfl)
 (hce:z5d E.P l.toArray l (z1q E.P l.toArray s (befGo l []) 0 l ys []) ys=cs:=by kernel_rfl)
 (hk:zag tk sk (stD (fun _=>true) 0 (z1q E.P l.toArray s (befGo l []) 0 l ys []) s)=true:=by kernel_rfl):Tri E (.region id l.toArray true) s post:=
 zdr ys (befGo l []) tk sk hm hb hn hv hce hc hman (z85 hk) hp
theorem z44 (s':St)(ys:List Sh)(tk sk:List Nat){cs:Prop}(hc:cs)(hman:ManOk E l.toArray l ys)(hp:post .normal s')
 (hm:E.P.follows .mixedOrders=true:=by kernel_rfl)
 (hb:(match Nat.beq l.length ys.length with|true=>(match drawB l (z1q E.P l.toArray s (befGo l []) 0 l ys []) (befGo l []) s with|true=>z75 E.N E.P l.toArray l (z1q E.P l.toArray s (befGo l []) 0 l ys []) ys|false=>false)|false=>false)=true:=by kernel_rfl)
 (hn:z6n (z1q E.P l.toArray s (befGo l []) 0 l ys []) (befGo l []) s 0 (z1q E.P l.toArray s (befGo l []) 0 l ys [])=z6m (z1q E.P l.toArray s (befGo l []) 0 l ys []):=by kernel_rfl)
 (hv:(fun r=>z5n E.P l.toArray r l (z1q E.P l.toArray s (befGo l []) 0 l ys []) ys)=(fun _=>z5n E.P l.toArray ⟨[],[]⟩ l (z1q E.P l.toArray s (befGo l []) 0 l ys []) ys):=by kernel_rfl)
 (hce:z5d E.P l.toArray l (z1q E.P l.toArray s (befGo l []) 0 l ys []) ys=cs:=by kernel_rfl)
 (hk:Av.keep tk sk (stD (fun _=>true) 0 (z1q E.P l.toArray s (befGo l []) 0 l ys []) s)=some s':=by kernel_rfl):Tri E (.region id l.toArray true) s post:=
 zdr ys (befGo l []) tk sk hm hb hn hv hce hc hman hk hp
theorem DOk.cA {ops:Array Oper}{o:Oper}{x:DOp}{cl:Call}{f:FuncId}{args:List AV}{res:AV}(caps:List D)(xs:List AV)(hS:Summ E.P f args [] res [])(hle: ∀r,AVsArg (x.need.app r) xs args)
 (hop:o.op= .call cl:=by rfl) (hw: ∀r,z0i ops (x.need.app r) o=some true:=by exact fun r=>by kernel_rfl) (hd:dstOk E.N o.dst=true:=by kernel_rfl) (hc: ∀r,z5o (x.need.app r) cl=some (f,caps):=by exact fun r=>by kernel_rfl)
 (hx: ∀r,z6w (x.need.app r) cl caps=some xs:=by exact fun r=>by kernel_rfl) (hfl:z5u args=true:=by kernel_rfl) (hsol:res.solid=true:=by kernel_rfl) (heff: ∀r,putO (x.need.app r) o.dst res=x.eff.app (x.need.app r):=by exact fun r=>by kernel_rfl):DOk E ops o x:=
 DOk.callA hS hop hw hd hc hx hle hfl hsol heff
def lenS (s:St)(t:Nat):Option Nat:=match look s.tm t with|some (.c (.d (.list _ n _)))=>some n|some (.c (.view _ n _))=>some n|_=>none
theorem Tri.ln (t n:Nat)(h:n≤maxN→Tri E y s post)(he:lenS s t=some n:=by kernel_rfl):Tri E y s post:=by
 unfold lenS at he;split at he
 ·rename_i hl;cases he;exact Tri.lenOf hl h
 ·rename_i hl;cases he;exact zih hl h
 ·cases he
section
variable {S R:Type}
theorem z2h {tc n b cid id1 id2:Nat}{L1 L2:List Oper}{body:Code}{B:Nat→S→Option (Ctl S R)}{kn:S→Option Q}{kr:R→Option Q}(ti:Nat)(st0:S)(RT:R→St→Prop)(σ:S→St)(tk0 sk0 tk sk tkF skF tk2 sk2:List Nat)
 (h:outK (z0n B n 0 st0) kn kr=some q) (hn:n≤maxN)
 (hbody: ∀i st c,i<n→B i st=some c→Tri E body ((idx ti i (σ st)).put tc (.c (.d (.bool true)))) (zgf cid b ti σ (fun st=>z6z tkF skF ((idx ti n (σ st)).put tc (.c (.d (.bool false))))) RT i c))
 (hrest: ∀st,kn st=some q→post .normal (z6z tkF skF ((idx ti n (σ st)).put tc (.c (.d (.bool false)))))) (hret: ∀x s',kr x=some q→RT x s'→post .ret s')
 (hbc:Nat.beq b cid=false:=by kernel_rfl) (hs0:Av.keep tk0 sk0 s=some (idx ti 0 (σ st0)):=by kernel_rfl)
 (h1: ∀i st,z56 E.P E.N L1.toArray L1 tk sk (idx ti i (σ st))=some ((idx ti i (σ st)).put tc (.c (.d (.bool (decide ((i:Int)<(n:Int)))))),allT L1.length):=by exact fun i st=>by kernel_rfl)
 (h2: ∀i st,z56 E.P E.N L2.toArray L2 tk2 sk2 (idx ti i (σ st))=some ((σ st).put ti (.c (.d (.int .i64 (zzi.wrap ((i:Int)+1))))),allT L2.length):=by exact fun i st=>by kernel_rfl)
 (hF: ∀st,zag tkF skF ((idx ti n (σ st)).put tc (.c (.d (.bool false))))=true:=by exact fun st=>by kernel_rfl):
 Tri E (.block b (.loop (.seq (.region id1 L1.toArray false) (.seq (.cond (.tmp tc) .skip (.exit b)) (.seq (.block cid body) (.region id2 L2.toArray false)))))) s post:=
 Tri.keep tk0 sk0 hs0 (Tri.range RT σ _ (fun i=>decide ((i:Int)<(n:Int))) tk sk tkF skF tk2 sk2 h hn hbc (fun i st=>⟨_,h1 i st,z00 _⟩) (fun i hi=>decide_eq_true (by omega)) (decide_eq_false (by omega)) (fun st=>z85 (hF st)) (fun i st=>⟨_,h2 i st,z00 _⟩) hbody hrest hret)
theorem z4v {b:Nat}{c:Code}{B:S→Option (Ctl S R)}{kn:S→Option Q}{kr:R→Option Q}{fuel:Nat}(st0:S)(RT:R→St→Prop)(σ:S→St)(tk0 sk0:List Nat)
 (h:outK (loopN B fuel st0) kn kr=some q) (hround: ∀st r,B st=some r→Tri E c (σ st) (zcf b σ σ RT r))
 (hrest: ∀st,kn st=some q→post .normal (σ st)) (hret: ∀x s',kr x=some q→RT x s'→post .ret s') (hs0:Av.keep tk0 sk0 s=some (σ st0):=by kernel_rfl):Tri E (.block b (.loop c)) s post:=
 Tri.keep tk0 sk0 hs0 (z5b RT σ σ h hround hrest hret)
end
theorem At.cs (ts:List Nat){b:Bool}{u v:Option Q}(h:bf b u v=some q)(ht:u=some q→At E L i (putBs ts true s) K)(hf:v=some q→At E L i (putBs ts false s) K)
 (hb:ts.map (fun t=>look s.tm t)=ts.map (fun _=>some (.c (.d (.bool b)))):=by kernel_rfl):At E L i s K:=by
 have key:At E L i (putBs ts b s) K:=by
  cases b
  ·exact hf h
  ·exact ht h
 refine fun a w hs=>key a w (hs.weaken (fun t y hy=>?_) fun t y hy=>hy);unfold putBs at hy;simp only at hy;rcases zdf hy with hy|⟨_,hy⟩
 ·have hm:=z1z hy;obtain⟨t',ht',e⟩:=List.mem_map.1 hm;cases e;exact List.map_inj_left.1 hb _ ht'
 ·exact hy
theorem At.cA {o:Oper}{cl:Call}{f:FuncId}{args:List AV}{res:AV}(caps:List D)(xs:List AV)(hS:Summ E.P f args [] res [])(hle:AVsArg s xs args)(h:At E L (i+1) (putO s o.dst res) K)(ho:L[i]?=some o:=by rfl)
 (hop:o.op= .call cl:=by rfl) (hw:z0i L.toArray s o=some true:=by kernel_rfl) (hd:dstOk E.N o.dst=true:=by kernel_rfl) (hc:z5o s cl=some (f,caps):=by kernel_rfl) (hx:z6w s cl caps=some xs:=by kernel_rfl)
 (hfl:z5u args=true:=by kernel_rfl) (hsol:res.solid=true:=by kernel_rfl):At E L i s K:=
 At.callA hS ho hop hw hd hc hx hle hfl hsol h
theorem z25 {o:Oper}{cl:Call}{f:FuncId}{args:List AV}{res:AV}{sl sl':List (Nat×Slot)}(nf:Nat)(caps:List CC)(xs:List AV)(ρ:List (Nat×Nat))(tk sk:List Nat)
 (hS:Summ E.P f args sl res sl') (hle:AVsArgL s ρ (keysS sl) ((keysS sl).map (renN ρ)) xs args) (h:At E L (i+1) (putO ⟨(z6z tk sk s).tm,renSl ρ sl'++(z6z tk sk s).sl⟩ o.dst (res.ren ρ)) K) (ho:L[i]?=some o:=by rfl) (hop:o.op= .call cl:=by rfl)
 (hw:z0i L.toArray s o=some true:=by kernel_rfl) (hd:dstOk E.N o.dst=true:=by kernel_rfl) (hc:z55 s cl=some (f,nf,caps):=by kernel_rfl) (hx:argsL s cl nf caps=some xs:=by kernel_rfl)
 (hsl:LentS s ρ (keysS sl) sl:=by repeat' first|exact trivial|refine⟨⟨by kernel_rfl,by kernel_rfl⟩,?_⟩)
 (hinj:(match injB ρ (keysS sl)with|true=>(match injB ρ (keysS sl')with|true=>(match res.lent (keysS sl')with|true=>allC (fun p:Nat×Slot=>p.2.lent (keysS sl')) sl'|false=>false)|false=>false)|false=>false)=true:=by kernel_rfl)
 (hk:zag tk sk s=true:=by kernel_rfl)
 (hk0:(match allC (fun k=>match look (z6z tk sk s).sl (renN ρ k)with|some _=>false|none=>true) (keysS sl++keysS sl')with|true=>allC (fun k=>(z6z tk sk s).noRef (renN ρ k)) (oddK (keysS sl) (keysS sl'))|false=>false)=true:=by kernel_rfl)
 (hfx:(match allC (fun k=> !anyB (Nat.beq (renN ρ k)) E.fx) (oddK (keysS sl) (keysS sl'))with|true=>lkOk3 E.lk ρ (keysS sl) (keysS sl')|false=>false)=true:=by kernel_rfl):At E L i s K:=by
 have h2: ∀{b z:Bool},(match b with|true=>z|false=>false)=true→b=true∧z=true:=fun{b z} h=>by cases b<;>simp_all
 obtain⟨a1,hinj⟩:=h2 hinj;obtain⟨a2,hinj⟩:=h2 hinj;obtain⟨a3,a4⟩:=h2 hinj;obtain⟨b1,b2⟩:=h2 hk0;obtain⟨c1,c2⟩:=h2 hfx;exact At.callL ρ tk sk hS ho hop hw hd hc hx hle hsl a1 a2 a3 a4 (z85 hk) b1 b2 c1 c2 _ rfl h
end
end Go.Av
namespace Go.Av
open Go
abbrev Alts:=List (Nat×Nat×St)
def altOf:Alts→Nat→Option (Nat×St)
 |[],_=>none
 |(r',i,n)::al,r=>match Nat.beq r' r with|true=>some (i,n)|false=>altOf al r
def hits (x y:DOp):Bool:=
 match anyB (fun e:Nat×AV=>z0x e.1 y.eff.tm) x.eff.tm with
 |true=>true
 |false=>anyB (fun e:Nat×Slot=>z0x e.1 y.eff.sl) x.eff.sl
def softB (al:Alts)(i r:Nat)(x y:DOp):Bool:=
 match altOf al r with
 |some (i',_)=>match Nat.beq i' i with|true=>(match hits x y with|true=>false|false=>true)|false=>false
 |none=>false
def zjt (al:Alts)(specs:List DOp)(bef:List (List Nat)):Bool:=
 allB (fun r=>allB (fun i=>match Nat.beq i r with
  |true=>true
  |false=>match specs[i]?,specs[r]? with
   |some x,some y=>match z62 x y with
    |true=>(match memB i (nth bef r)with|true=>true|false=>(match memB r (nth bef i)with|true=>true|false=>softB al i r x y))
    |false=>true
   |_,_=>true) (List.range specs.length)) (List.range specs.length)
theorem za5 {al:Alts}{specs:List DOp}{bef:List (List Nat)}(h:zjt al specs bef=true){i r:Nat}{x y:DOp}(hx:specs[i]?=some x)(hy:specs[r]?=some y)(hne:i≠r)(hw:z62 x y=true):
 i∈nth bef r∨r∈nth bef i∨((∃n,altOf al r=some (i,n))∧hits x y=false):=by
 have h1:=z3p.1 h r (by simpa using(List.getElem?_eq_some_iff.1 hy).1);have h2:=z3p.1 h1 i (by simpa using(List.getElem?_eq_some_iff.1 hx).1)
 have hb:Nat.beq i r=false:=by
  cases hb:Nat.beq i r with
  |false=>rfl
  |true=>exact absurd (zz3 hb) hne
 rw[hb,hx,hy]at h2;simp only[hw]at h2;cases hm:memB i (nth bef r)with
 |true=>exact .inl (z1x.1 hm)
 |false=>
  rw[hm]at h2;simp only at h2;cases hm2:memB r (nth bef i)with
  |true=>exact .inr (.inl (z1x.1 hm2))
  |false=>
   rw[hm2]at h2;simp only at h2;right;right;unfold softB at h2;cases ha:altOf al r with
   |none=>rw[ha]at h2;cases h2
   |some p=>
    obtain⟨i',n⟩:=p;rw[ha]at h2;simp only at h2;cases hi:Nat.beq i' i with
    |false=>rw[hi]at h2;cases h2
    |true=>
     rw[hi]at h2;simp only at h2;cases hh:hits x y with
     |true=>rw[hh]at h2;cases h2
     |false=>exact⟨⟨n,by rw[zz3 hi]⟩,rfl⟩
theorem zm1 {x y:DOp}{t:Nat}(hx:z0x t x.eff.tm=true)(hy:z0x t y.eff.tm=true):hits x y=true:=by
 unfold hits;obtain⟨v,hv⟩:=z24.1 hx;rw[z74.2 ⟨(t,v),z1z hv,hy⟩]
theorem zm0 {x y:DOp}{t:Nat}(hx:z0x t x.eff.sl=true)(hy:z0x t y.eff.sl=true):hits x y=true:=by
 unfold hits;obtain⟨v,hv⟩:=z24.1 hx;split
 ·rfl
 ·exact z74.2 ⟨(t,v),z1z hv,hy⟩
def z6u (E:Env)(ops:Array Oper)(specs:List DOp)(bef:List (List Nat))(s0:St):Alts→Prop
 |[]=>True
 |(r,i,n)::al=>((Nat.beq i r=false∧specs[r]?.map (fun x=>(z13 x.need.tm,z13 x.need.sl))=some (z13 n.tm,z13 n.sl)∧keep (z13 n.tm) (z13 n.sl) (stD (fun j=>memB j (i::nth bef r)) 0 specs s0)=some n)∧
  ∃o x,ops[r]?=some o∧specs[r]?=some x∧DOk E ops o ⟨n,x.eff,x.mks,x.dead,x.hid⟩)∧z6u E ops specs bef s0 al
theorem z6u.get {E:Env}{ops:Array Oper}{specs:List DOp}{bef:List (List Nat)}{s0:St}: ∀{al:Alts},z6u E ops specs bef s0 al→ ∀{r i:Nat} {n:St} {o:Oper} {x:DOp},altOf al r=some (i,n)→ops[r]?=some o→specs[r]?=some x→
 i≠r∧z13 x.need.tm=z13 n.tm∧z13 x.need.sl=z13 n.sl∧keep (z13 n.tm) (z13 n.sl) (stD (fun j=>memB j (i::nth bef r)) 0 specs s0)=some n∧DOk E ops o ⟨n,x.eff,x.mks,x.dead,x.hid⟩
 |[],_,_,_,_,_,_,h,_,_=>by cases h
 |(r',i',n')::al,⟨⟨⟨h1,h2,h3⟩,o',x',h4,h5,h6⟩,ht⟩,r,i,n,o,x,h,ho,hx=>by
  simp only[altOf]at h;cases hb:Nat.beq r' r with
  |true=>
   rw[hb]at h;cases h;have e:=zz3 hb
   subst e;rw[h4]at ho;cases ho;rw[h5]at hx;cases hx;rw[h5]at h2;simp only[Option.map_some,Option.some.injEq,Prod.mk.injEq]at h2;exact⟨fun e=>by rw[e]at h1;simp at h1,h2.1,h2.2,h3,h6⟩
  |false=>
   rw[hb]at h;exact z6u.get ht h ho hx
section
variable {E:Env} {s:St} {a:Act} {w:World}
structure DrawOkA (E:Env) (ops:Array Oper) (specs:List DOp) (bef:List (List Nat)) (al:Alts) (s0:St):Prop where
 len:Nat.beq specs.length ops.size=true
 back:z9q ops=true
 befs:okBef ops bef=true
 ord:zjt al specs bef=true
 fresh:zco specs bef s0=true
 needs:z6n specs bef s0 0 specs=z6m specs
 each: ∀(i:Nat) (o:Oper) (x:DOp),ops[i]?=some o→specs[i]?=some x→DOk E ops o x
 alts:z6u E ops specs bef s0 al
theorem zgu {α β:Type}{l:List (Nat×α)}{l':List (Nat×β)}(h:z13 l=z13 l')(t:Nat):z0x t l=z0x t l':=by
 have key: ∀{γ:Type} (l:List (Nat×γ)),z0x t l=memB t (z13 l):=fun l=>by
  induction l with
  |nil=>rfl
  |cons e l ih=>
   rcases e with⟨k,v⟩;simp only[z0x,z13,List.map_cons,memB]at*;cases Nat.beq k t<;>simp[ih]
 rw[key l,key l',h]
theorem DrawOkA.next {ops:Array Oper}{specs:List DOp}{bef:List (List Nat)}{al:Alts}{s0:St}(h:DrawOkA E ops specs bef al s0){D D':Nat→Bool}(hD:zbr ops D){i:Nat}{o:Oper}{x:DOp}(ho:ops[i]?=some o)
 (hx:specs[i]?=some x) (hi:D i=false) (hedge: ∀e∈o.after.toList,Region.binds .any e=true→D e.on=true) (hD': ∀j,D' j=if j=i then true else D j) (hs:SimE E (stD D 0 specs s0) a w)
 {K:Act→World→Prop} {Q:Exit→Act→World→Prop} (hK: ∀a' w',SimE E (stD D' 0 specs s0) a' w'→K a' w'):wpOp E.P ops Q i K a w:=by
 have hlen:=zz3 h.len;have hilt:i<ops.size:=(Array.getElem?_eq_some_iff.1 ho).1
 have hjlt: ∀{j:Nat} {y:DOp},specs[j]?=some y→j<ops.size:=fun hy=>by rw[←hlen];exact(List.getElem?_eq_some_iff.1 hy).1
 have hbef: ∀j∈nth bef i,D j=true∧j<i:=zbu h.befs hD i hilt fun o' ho' e he hb=>by rw[ho]at ho';cases ho';exact hedge e he hb
 have hafter: ∀j y,specs[j]?=some y→i∈nth bef j→D j=false:=fun j y hy hij=>by
  cases hj:D j with
  |false=>rfl
  |true=>
   have:=(zbu h.befs hD j (hjlt hy) (fun o' ho' e he hb=>hD j o' ho' hj e he hb) i hij).1;rw[hi]at this;cases this
 have hown:memB i (nth bef i)=false:=by
  cases hm:memB i (nth bef i)with
  |false=>rfl
  |true=>exact absurd (z88 h.befs hilt (z1x.1 hm)) (Nat.lt_irrefl _)
 have hx0:=hx;have hlast0: ∀j y,i<j→specs[j]?=some y→hits y x=true→z62 y x=true→D' j=false:=fun j y hlt hy hh hw=>by
  rw[hD',if_neg (by omega)];rcases za5 h.ord hy hx (by omega) hw with hm|hm|⟨_,hm⟩
  ·have:=z88 h.befs hilt hm;omega
  ·exact hafter j y hy hm
  ·rw[hh]at hm;cases hm
 have pick: ∃(nd:St) (b:List Nat),z13 x.need.tm=z13 nd.tm∧z13 x.need.sl=z13 nd.sl∧keep (z13 nd.tm) (z13 nd.sl) (stD (fun j=>memB j b) 0 specs s0)=some nd∧DOk E ops o ⟨nd,x.eff,x.mks,x.dead,x.hid⟩∧
  ∀j y,specs[j]?=some y→z62 y x=true→D j=memB j b:=by
  have hord: ∀j y,specs[j]?=some y→i∈nth bef j→memB j (nth bef i)=false:=fun j y hy hm=>by
   cases hm':memB j (nth bef i)with
   |false=>rfl
   |true=>
    have h1:=z88 h.befs hilt (z1x.1 hm');have h2:=z88 h.befs (hjlt hy) hm
    omega
  have plain:(∀j n,altOf al i=some (j,n)→D j=false)→ ∃(nd:St) (b:List Nat),z13 x.need.tm=z13 nd.tm∧z13 x.need.sl=z13 nd.sl∧keep (z13 nd.tm) (z13 nd.sl) (stD (fun j=>memB j b) 0 specs s0)=some nd∧DOk E ops o ⟨nd,x.eff,x.mks,x.dead,x.hid⟩∧
   ∀j y,specs[j]?=some y→z62 y x=true→D j=memB j b:=fun hno=>by
   have hkeep:=z9g specs 0 h.needs i x hx;rw[zz6]at hkeep;refine⟨x.need,nth bef i,rfl,rfl,hkeep,h.each i o x ho hx,fun j y hy hw=>?_⟩;by_cases e:j=i
   ·subst e;rw[hi,hown]
   ·rcases za5 h.ord hy hx e hw with hm|hm|⟨⟨n,hm⟩,_⟩
    ·rw[(hbef j hm).1,z1x.2 hm]
    ·rw[hafter j y hy hm,hord j y hy hm]
    ·rw[hno j n hm];cases hm':memB j (nth bef i)with
     |false=>rfl
     |true=>have:=(hbef j (z1x.1 hm')).1;rw[hno j n hm]at this;cases this
  cases ha:altOf al i with
  |none=>exact plain fun j n e=>by rw[ha]at e;cases e
  |some p=>
   obtain⟨i0,n⟩:=p;cases hd0:D i0 with
   |false=>exact plain fun j n' e=>by rw[ha]at e;cases e;exact hd0
   |true=>
    obtain⟨g1,g2,g3,g4,g5⟩:=h.alts.get ha ho hx;refine⟨n,i0::nth bef i,g2,g3,g4,g5,fun j y hy hw=>?_⟩;by_cases ej:j=i0
    ·subst ej;rw[hd0];exact(z1x.2 (zz5 ..)).symm
    ·have hcons:memB j (i0::nth bef i)=memB j (nth bef i):=by
      simp only[memB];cases hb:Nat.beq i0 j with
      |true=>exact absurd (zz3 hb).symm ej
      |false=>rfl
     rw[hcons];by_cases e:j=i
     ·subst e;rw[hi,hown]
     ·rcases za5 h.ord hy hx e hw with hm|hm|⟨⟨n',hm⟩,_⟩
      ·rw[(hbef j hm).1,z1x.2 hm]
      ·rw[hafter j y hy hm,hord j y hy hm]
      ·rw[ha]at hm;cases hm;exact absurd rfl ej
 obtain⟨nd,bb,kT,kS,hkeep,hdok,hsame⟩:=pick;obtain⟨fd,fm,ff⟩:=zc7 h.fresh hx;unfold keep at hkeep;split at hkeep
 case h_2=>cases hkeep
 rename_i tm htm
 split at hkeep
 case h_2=>cases hkeep
 rename_i sl hsl
 have etm:nd.tm=tm:=by rw[←Option.some.inj hkeep]
 have esl:nd.sl=sl:=by rw[←Option.some.inj hkeep]
 have needT: ∀t y,look nd.tm t=some y→look (stD D 0 specs s0).tm t=some y:=fun t y hy=>by
  have h1:=z4a htm t y (etm▸hy);rw[←h1];refine z4f t specs 0 s0 s0 rfl fun j z hz hk=>?_;rw[zz6];exact hsame j z hz (z9z hk (.inl (by rw[zgu kT];exact z3n hy)))
 have needS: ∀t y,look nd.sl t=some y→look (stD D 0 specs s0).sl t=some y:=fun t y hy=>by
  have h1:=z4a hsl t y (esl▸hy);rw[←h1];refine z3r t specs 0 s0 s0 rfl fun j z hz hk=>?_;rw[zz6];exact hsame j z hz (z8t hk (.inl (by rw[zgu kS];exact z3n hy)))
 have lessT: ∀t y,look ((stD D 0 specs s0).less x).tm t=some y→look (stD D 0 specs s0).tm t=some y:=fun t y hy=>by
  have hy:look (lessK x.dead _) t=some y:=hy;rw[z3e]at hy;cases hm:memB t x.dead with
  |true=>rw[hm]at hy;cases hy
  |false=>rw[hm]at hy;exact hy
 have lessS: ∀t y,look ((stD D 0 specs s0).less x).sl t=some y→look (stD D 0 specs s0).sl t=some y:=fun t y hy=>by
  have hy:look (lessK (x.mks++x.hid) _) t=some y:=hy;rw[z3e]at hy;cases hm:memB t (x.mks++x.hid)with
  |true=>rw[hm]at hy;cases hy
  |false=>rw[hm]at hy;exact hy
 have hs1:SimE E (nd.app ((stD D 0 specs s0).less x)) a w:=hs.weaken (fun t y hy=>by
  simp only[St.app,z1o]at hy;cases hn:look nd.tm t with
  |none=>rw[hn]at hy;exact lessT t y hy
  |some z=>rw[hn]at hy;cases hy;exact needT t _ hn) fun t y hy=>by
  simp only[St.app,z1o]at hy;cases hn:look nd.sl t with
  |none=>rw[hn]at hy;exact lessS t y hy
  |some z=>rw[hn]at hy;cases hy;exact needS t _ hn
 have hfr: ∀d∈x.mks,((stD D 0 specs s0).less x).noRef d=true:=fun d hd=>by
  obtain⟨f1,f2⟩:=ff d hd;refine z9y specs 0 s0 f1 fun j y hy hDj=>?_;rw[zz6]at hDj;cases he:z9a d x y with
  |false=>rfl
  |true=>
   have hne:j≠i:=fun e=>by rw[e,hi]at hDj;cases hDj
   have:=hafter j y hy (f2 j y hne hy he);rw[this]at hDj;cases hDj
 have hone:=hdok (stD D 0 specs s0) hfr a w hs1;have hD0:D' i=true:=by rw[hD'];simp
 have hs2: ∀a' w',SimE E (x.eff.app (nd.app ((stD D 0 specs s0).less x))) a' w'→SimE E (stD D' 0 specs s0) a' w':=fun a' w' hs'=>by
  refine hs'.weaken (fun t y hy=>?_) fun t y hy=>?_
  ·simp only[St.app,z1o];cases he:look x.eff.tm t with
   |some z=>
    have:=zb7 (D:=D') t specs 0 i x z s0 hx (by rw[zz6];exact hD0) he fun j z' hlt hz hk=>by
     rw[zz6];exact hlast0 j z' hlt hz (zm1 hk (z3n he)) (z9z hk (.inr (z3n he)))
    rw[this]at hy;cases hy;rfl
   |none=>
    have e:look (stD D' 0 specs s0).tm t=look (stD D 0 specs s0).tm t:=z4f t specs 0 s0 s0 rfl fun j z hz hk=>by
     rw[zz6,hD',if_neg];intro e;subst e;rw[hx]at hz;cases hz;obtain⟨v,hv⟩:=z24.1 hk;rw[he]at hv;cases hv
    rw[e]at hy;cases hn:look nd.tm t with
    |none=>
     show look (lessK x.dead _) t=some y;rw[z3e];cases hm:memB t x.dead with
     |true=>have:=fd t (z1x.1 hm);obtain⟨v,hv⟩:=z24.1 this;rw[he]at hv;cases hv
     |false=>exact hy
    |some z=>rw[needT t z hn]at hy;exact hy
  ·simp only[St.app,z1o];cases he:look x.eff.sl t with
   |some z=>
    have:=z9x (D:=D') t specs 0 i x z s0 hx (by rw[zz6];exact hD0) he fun j z' hlt hz hk=>by
     rw[zz6];exact hlast0 j z' hlt hz (zm0 hk (z3n he)) (z8t hk (.inr (z3n he)))
    rw[this]at hy;cases hy;rfl
   |none=>
    have e:look (stD D' 0 specs s0).sl t=look (stD D 0 specs s0).sl t:=z3r t specs 0 s0 s0 rfl fun j z hz hk=>by
     rw[zz6,hD',if_neg];intro e;subst e;rw[hx]at hz;cases hz;obtain⟨v,hv⟩:=z24.1 hk;rw[he]at hv;cases hv
    rw[e]at hy;cases hn:look nd.sl t with
    |none=>
     show look (lessK (x.mks++x.hid) _) t=some y;rw[z3e];cases hm:memB t (x.mks++x.hid)with
     |true=>have:=fm t (z1x.1 hm);obtain⟨v,hv⟩:=z24.1 this;rw[he]at hv;cases hv
     |false=>exact hy
    |some z=>rw[needS t z hn]at hy;exact hy
 have hfin:=hone K Q fun a' w' hs'=>hK a' w' (hs2 a' w' hs');unfold wpOp;rw[ho];simp only;split
 ·rename_i hw;rw[if_pos hw]at hfin;exact .inl hfin
 ·rename_i hw;rw[if_neg hw]at hfin;exact hfin
theorem DrawOkA.any {ops:Array Oper}{specs:List DOp}{bef:List (List Nat)}{al:Alts}{s0:St}(h:DrawOkA E ops specs bef al s0){Q:Exit→Act→World→Prop}
 (hQ: ∀a' w',SimE E (stD (fun _=>true) 0 specs s0) a' w'→Q .normal a' w'): ∀(fuel:Nat) (listed:Array Bool) (a:Act) (w:World),cnt listed=fuel→listed.size=ops.size→zbr ops (inD listed)→
 SimE E (stD (inD listed) 0 specs s0) a w→wpAny E.P .any ops Q fuel listed a w:=by
 have hlen:=zz3 h.len;intro fuel;induction fuel with
 |zero=>
  intro listed a w hc hz hD hs;refine⟨List.filter_eq_nil_iff.2 fun i hi=>?_,hQ a w ?_⟩
  ·have:=zar hc i (by rw[hz];simpa using hi);simp[Array.getD_eq_getD_getElem?,this]
  ·rw[zal (D':=inD listed)]
   ·exact hs
   ·intro j hj;have:=zar hc j (by omega)
    simp[inD,Array.getD_eq_getD_getElem?,this]
 |succ fuel ih=>
  intro listed a w hc hz hD hs;refine⟨fun h0=>?_,fun i hi=>?_⟩
  ·obtain⟨i,h1,h2⟩:=zia (l:=listed) (by omega);have hilt:i<ops.size:=by rw[←hz];exact(Array.getElem?_eq_some_iff.1 h1).1
   have hmem:i∈Region.ready .any ops listed:=by
    unfold Region.ready;refine List.mem_filter.2 ⟨by simpa using hilt,?_⟩;have ho:ops[i]?=some ops[i]:=Array.getElem?_eq_getElem hilt
    simp only[Array.getD_eq_getD_getElem?,h1,ho,Option.getD_some,Bool.not_false,Bool.true_and,Option.map_some,Array.all_eq_true'];intro e he;cases hb:Region.binds .any e with
    |false=>rfl
    |true=>
     have:=h2 e.on (zae h.back ho (by simpa using he) hb);simp[this]
   rw[h0]at hmem;cases hmem
  ·unfold Region.ready at hi;obtain⟨hi1,hi2⟩:=List.mem_filter.1 hi;have hilt:i<ops.size:=by simpa using hi1
   have ho:ops[i]?=some ops[i]:=Array.getElem?_eq_getElem hilt;simp only[ho,Option.map_some,Option.getD_some,Bool.and_eq_true,Array.all_eq_true']at hi2;obtain⟨hn,hall⟩:=hi2;have hli:listed[i]?=some false:=by
    rw[Array.getElem?_eq_getElem (by omega)];simp[Array.getD_eq_getD_getElem?,Array.getElem?_eq_getElem (show i<listed.size by omega)]at hn;rw[hn]
   have hedge: ∀e∈ops[i].after.toList,Region.binds .any e=true→inD listed e.on=true:=fun e he hb=>by
    have:=hall e (by simpa using he);rw[hb]at this
    simpa [inD]using this
   have hset: ∀j,inD (listed.setIfInBounds i true) j=if j=i then true else inD listed j:=fun j=>by
    unfold inD;simp only[Array.getD_eq_getD_getElem?,Array.getElem?_setIfInBounds];by_cases e:i=j
    ·subst e;simp[show i<listed.size by omega]
    ·rw[if_neg e,if_neg (fun x=>e x.symm)]
   obtain⟨x,hx⟩: ∃x,specs[i]?=some x:=⟨specs[i]'(by omega),List.getElem?_eq_getElem _⟩;refine h.next hD ho hx (by simp[inD,Array.getD_eq_getD_getElem?,hli]) hedge hset hs fun a' w' hs'=>?_;refine ih _ a' w' (by have:=zib hli;omega) (by simpa using hz) (fun j o hj hDj e he hb=>?_) hs';rw[hset]at hDj ⊢;by_cases e1:e.on=i
   ·rw[if_pos e1]
   ·rw[if_neg e1];by_cases e2:j=i
    ·subst e2;rw[ho]at hj;cases hj;exact hedge e he hb
    ·rw[if_neg e2]at hDj;exact hD j o hj hDj e he hb
def zkz (N:Nat)(P:Program)(ops:Array Oper)(n:St)(o:Oper):Bool:=
 match o.dst with
  |none=>false
  |some d=>match z0i ops n o with
   |some true=>match z2s P n (some d) o.op with
    |some (.val av c)=>match okDst N n (some d) (.val av c)with|true=>mksOk [] (.val av c) (some d)|false=>false
    |_=>false
   |some false=>Nat.blt d N
   |none=>false
def zi8 (P:Program)(ops:Array Oper)(n:St)(o:Oper):Prop:=
 match z0i ops n o with
  |some true=>match z2s P n o.dst o.op with
   |some (.val _ c)=>c
   |_=>True
  |_=>True
theorem z6u.z {E:Env}{ops:Array Oper}{specs:List DOp}{bef:List (List Nat)}{s0:St}:z6u E ops specs bef s0 []:=trivial
theorem z6u.k {E:Env}{ops:Array Oper}{specs:List DOp}{bef:List (List Nat)}{s0:St}{r i:Nat}{n:St}{al:Alts}(h:z6u E ops specs bef s0 al)
 (h1:Nat.beq i r=false:=by kernel_rfl)
 (h2:specs[r]?.map (fun x=>(z13 x.need.tm,z13 x.need.sl))=some (z13 n.tm,z13 n.sl):=by kernel_rfl)
 (h3:keep (z13 n.tm) (z13 n.sl) (stD (fun j=>memB j (i::nth bef r)) 0 specs s0)=some n:=by kernel_rfl)
 (h4:specs[r]?.map (fun x=>(⟨n,x.eff,x.mks,x.dead,x.hid⟩:DOp))=ops[r]?.map (fun o=>(⟨n,zaa E.P ops n o,[],[],[]⟩:DOp)):=by kernel_rfl)
 (h5:(fun q:St=>ops[r]?.map (fun o=>(z0i ops (n.app q) o,z2s E.P (n.app q) o.dst o.op)))=(fun _=>ops[r]?.map (fun o=>(z0i ops n o,z2s E.P n o.dst o.op))):=by kernel_rfl)
 (h6:ops[r]?.map (zkz E.N E.P ops n)=some true:=by kernel_rfl)
 (h7:ops[r]?.map (zi8 E.P ops n)=some True:=by kernel_rfl):z6u E ops specs bef s0 ((r,i,n)::al):=by
 refine⟨⟨⟨h1,h2,h3⟩,?_⟩,h⟩;cases ho:ops[r]? with
 |none=>rw[ho]at h6;cases h6
 |some o=>
  cases hx:specs[r]? with
  |none=>rw[hx]at h2;cases h2
  |some x=>
   refine⟨o,x,rfl,rfl,?_⟩;rw[ho,hx]at h4;simp only[Option.map_some,Option.some.injEq]at h4;rw[h4];rw[ho]at h6 h7;simp only[Option.map_some,Option.some.injEq]at h6 h7;refine zg9 (fun q=>?_) h6 ?_
   ·have:=congrFun h5 q;rw[ho]at this;simp only[Option.map_some,Option.some.injEq,Prod.mk.injEq]at this;exact this
   ·show zi8 E.P ops n o;rw[h7];trivial
end
end Go.Av
namespace Go.Av
open Go
theorem Summ.i {P : Program} {f : FuncId} {fn : Func} {c : Code} {args : List AV} {sl sl' : List (Nat × Slot)} {res : AV} (hf : P.funcs[f]? = some fn) (hb : fn.body = some c) (ex : List Nat)
    (h : ∀ (w : World) (G V L : Nat → Prop) (φ : Nat → Option Loc), Tri ⟨P, w, G, V, L, sl.map (·.1) ++ ex, fn.ntmps, φ, sl.map (·.1)⟩ c ⟨params 0 args, sl⟩ (zi7 P fn res sl'))
    (hn : (fn.name == "runtime.NumGoroutine") = false := by kernel_rfl) (ha : Nat.ble args.length fn.ntmps = true := by kernel_rfl) (hlt : anyB (fun p : Nat × Slot => Nat.blt p.1 fn.ntmps) sl = false := by rfl) : Summ P f args sl res sl' := by
  refine Summ.intro hf hb hn ha ex hlt ?_
  rintro ⟨P, w, G, V, L, lk, N, φ, fx⟩ rfl rfl rfl rfl
  exact h w G V L φ
section
variable {E:Env}
theorem Tri.l {s:St}{post:Exit→St→Prop}{c:Code}(fz:List Nat)(s':St)(ht:LeT s fz s'.tm)(hs:LeS s fz s'.sl)(h:Tri E c s' post)(hfz: ∀k∈fz,k∉E.lk:=by intro k hk h;first|(cases hk;done)|(cases h;done)|(simp at hk h;omega)):Tri E c s post:=Tri.le fz hfz s' ht hs h
theorem At.l {L:List Oper}{i:Nat}{K:St→Prop}{s:St}(fz:List Nat)(s':St)(ht:LeT s fz s'.tm)(hs:LeS s fz s'.sl)(h:At E L i s' K)(hfz: ∀k∈fz,k∉E.lk:=by intro k hk h;first|(cases hk;done)|(cases h;done)|(simp at hk h;omega)):At E L i s K:=At.le fz hfz s' ht hs h
end
end Go.Av
namespace Go.Av
open Go
def rawC:List Bool→Nat→List C→(Nat→Value)→List C
 |m::ms,i,c::cs,u=>(match m with|true=> .raw (u i)|false=>c)::rawC ms (i+1) cs u
 |_,_,cs,_=>cs
def maskC:List Bool→List C→List C
 |m::ms,c::cs=>match m with|true=>c::maskC ms cs|false=>maskC ms cs
 |_,_=>[]
def setSl (k:Nat)(c:Slot):List (Nat×Slot)→List (Nat×Slot)
 |[]=>[]
 |(j,d)::r=>match Nat.beq j k with|true=>(j,c)::r|false=>(j,d)::setSl k c r
theorem z8q {k:Nat}{c:Slot}: ∀{l:List (Nat×Slot)} {t:Nat},look (setSl k c l) t=if t=k then(look l k).map (fun _=>c)else look l t
 |[],t=>by simp[setSl,look]
 |(j,d)::r,t=>by
  simp only[setSl];by_cases e:j=k
  ·subst e;have:Nat.beq j j=true:=by simp
   rw[this];simp only[z0t];by_cases h:t=j
   ·subst h;simp
   ·have h': ¬j=t:=fun q=>h q.symm;simp[h,h']
  ·have hb:Nat.beq j k=false:=by
    cases hb:Nat.beq j k with
    |false=>rfl
    |true=>exact absurd (zz3 hb) e
   rw[hb];simp only[z0t,z8q (l:=r)];by_cases h:t=k
   ·subst h;simp[e]
   ·by_cases h2:j=t
    ·subst h2;simp[e]
    ·simp[h,h2]
theorem zie {R:C→Value→Prop}(hraw: ∀x,R (.raw x) x): ∀{ms:List Bool} {i:Nat} {cs:List C} {u:Nat→Value} {vs:List Value},RelCs R cs vs→(∀j,j<vs.length→u (i+j)=vs.getD j undef)→RelCs R (rawC ms i cs u) vs
 |[],_,_,_,_,h,_=>by simpa [rawC]using h
 |_::_,_,[],_,[],h,_=>h
 |m::ms,i,c::cs,u,v::vs,h,hu=>by
  have h0:=hu 0 (by simp);have hr:RelCs R (rawC ms (i+1) cs u) vs:=zie hraw h.2 fun j hj=>by have:=hu (j+1) (by simpa using hj);simpa [Nat.add_assoc,Nat.add_comm 1 j]using this
  cases m with
  |true=>exact⟨by simp at h0;rw[h0];exact hraw v,hr⟩
  |false=>exact⟨h.1,hr⟩
 |_,_,[],_,_::_,h,_=>h.elim
 |_,_,_::_,_,[],h,_=>h.elim
def z7f (R:C→Value→Prop):List Bool→Nat→List C→(Nat→Value)→Prop
 |m::ms,i,c::cs,u=>(m=true→R c (u i))∧z7f R ms (i+1) cs u
 |_,_,_,_=>True
theorem zh5 {R:C→Value→Prop}(hraw: ∀x v,R (.raw x) v→v=x): ∀{ms:List Bool} {i:Nat} {ds:List C} {u:Nat→Value} {vs:List Value},RelCs R (rawC ms i ds u) vs→z7f R ms i ds u→RelCs R ds vs
 |[],_,_,_,_,h,_=>by simpa [rawC]using h
 |_::_,_,[],_,_,h,_=>by simpa [rawC]using h
 |m::ms,i,d::ds,u,v::vs,h,hm=>by
  have hr:=zh5 hraw h.2 hm.2;cases m with
  |true=>exact⟨by rw[hraw _ _ h.1];exact hm.1 rfl,hr⟩
  |false=>exact⟨h.1,hr⟩
 |_::_,_,_::_,_,[],h,_=>by simp[rawC,RelCs]at h
theorem z7f.of {R R':C→Value→Prop}: ∀{ms:List Bool} {i:Nat} {cs ds:List C} {u:Nat→Value} {vs:List Value},RelCs R cs vs→(∀j,j<vs.length→u (i+j)=vs.getD j undef)→maskC ms cs=maskC ms ds→cs.length=ds.length→(∀c∈maskC ms cs,∀v,R c v→R' c v)→z7f R' ms i ds u
 |[],_,_,_,_,_,_,_,_,_,_=>by simp[z7f]
 |_::_,_,_,[],_,_,_,_,_,_,_=>by simp[z7f]
 |m::ms,i,c::cs,d::ds,u,v::vs,h,hu,he,hl,hR=>by
  have h0:=hu 0 (by simp);have hu': ∀j,j<vs.length→u (i+1+j)=vs.getD j undef:=fun j hj=>by have:=hu (j+1) (by simpa using hj);simpa [Nat.add_assoc,Nat.add_comm 1 j]using this
  have hl':cs.length=ds.length:=by simpa using hl
  cases m with
  |true=>
   simp only[maskC]at he hR;injection he with e1 e2;subst e1;exact⟨fun _=>by simp at h0;rw[h0];exact hR c (zz5 ..) v h.1,z7f.of h.2 hu' e2 hl' fun c hc=>hR c (zz8 _ hc)⟩
  |false=>
   simp only[maskC]at he hR;exact⟨(fun h=>by cases h),z7f.of h.2 hu' he hl' hR⟩
 |_::_,_,[],_::_,_,_,_,_,_,hl,_=>by simp at hl
 |_::_,_,_::_,_,_,[],h,_,_,_,_=>h.elim
theorem z9w {k:Nat}{c:Slot}{l:List (Nat×Slot)}{t:Nat}{x:Slot}(h:look (setSl k c l) t=some x): ∃y,look l t=some y:=by
 rw[z8q]at h;split at h
 ·rename_i e
  subst e;cases hl:look l t with
  |none=>rw[hl]at h;cases h
  |some y=>exact⟨y,rfl⟩
 ·exact⟨x,h⟩
theorem zci {k:Nat}{c d:Slot}{r:List (Nat×Slot)}: ∀{l:List (Nat×Slot)},look l k=some d→setSl k c (l++r)=setSl k c l++r
 |[],h=>by cases h
 |(j,e)::l,h=>by
  simp only[List.cons_append,setSl];cases hb:Nat.beq j k with
  |true=>rfl
  |false=>
   have h':look l k=some d:=by simpa only[look,hb]using h
   simp only[List.cons_append,zci h']
section
variable {E:Env} {s:St} {G:Nat→Prop} {φ:Nat→Option Loc} {a:Act} {w:World}
theorem zdp {tm:List (Nat×AV)}{l:List (Nat×Slot)}{k:Nat}{c0 c1:List C}(h:Sim E ⟨tm,l⟩ G φ a w)(hk:look l k=some (.box c0))(hr:z3t G E.V φ w k (.box c1)):Sim E ⟨tm,setSl k (.box c1) l⟩ G φ a w:=
 {h with
  sl:=fun k' c hc=>by
   have hc:look (setSl k (.box c1) l) k'=some c:=hc;rw[z8q]at hc;split at hc
   ·rename_i e
    subst e;rw[hk]at hc;cases hc;exact hr
   ·exact h.sl k' c hc
  inj:=fun k1 k2 d1 d2 l1 l2 h1 h2=>by
   obtain⟨y1,g1⟩:=z9w h1;obtain⟨y2,g2⟩:=z9w h2;exact h.inj k1 k2 y1 y2 l1 l2 g1 g2
  own:=fun k1 d1 l1 h1=>by
   obtain⟨y1,g1⟩:=z9w h1;exact h.own k1 y1 l1 g1
  fix:=fun k1 d1 hf h1=>by
   obtain⟨y1,g1⟩:=z9w h1;exact h.fix k1 y1 hf g1}
theorem za6: ∀(ms:List Bool) (i:Nat) (cs:List C) (u:Nat→Value),(rawC ms i cs u).length=cs.length
 |[],_,cs,_=>by simp[rawC]
 |_::_,_,[],_=>rfl
 |m::ms,i,c::cs,u=>by simp only[rawC,zzg,za6 ms (i+1) cs u]
theorem One.callR {ops:Array Oper}{o:Oper}{cl:Call}{f:FuncId}{nf:Nat}{caps:List CC}{xs args:List AV}{res:AV}{sl sl':(Nat→Value)→List (Nat×Slot)}{sl3:List (Nat×Slot)}(ρ:List (Nat×Nat))(s0:St)(kb:Nat)(ms:List Bool)(cs ds:List C)
 (hS: ∀u,Summ E.P f args (sl u) res (sl' u)) (hop:o.op= .call cl) (hw: ∀u,z0i ops ⟨s.tm,setSl kb (.box (rawC ms 0 cs u)) s.sl⟩ o=some true) (hd:dstOk E.N o.dst=true)
 (hc: ∀u,z55 ⟨s.tm,setSl kb (.box (rawC ms 0 cs u)) s.sl⟩ cl=some (f,nf,caps)) (hx: ∀u,argsL ⟨s.tm,setSl kb (.box (rawC ms 0 cs u)) s.sl⟩ cl nf caps=some xs)
 (hle: ∀u,AVsArgL ⟨s.tm,setSl kb (.box (rawC ms 0 cs u)) s.sl⟩ ρ (keysS (sl u)) ((keysS (sl u)).map (renN ρ)) xs args) (hsl: ∀u,LentS ⟨s.tm,setSl kb (.box (rawC ms 0 cs u)) s.sl⟩ ρ (keysS (sl u)) (sl u))
 (hinj: ∀u,injB ρ (keysS (sl u))=true) (hinj': ∀u,injB ρ (keysS (sl' u))=true) (hres: ∀u,res.lent (keysS (sl' u))=true)
 (hsl': ∀u,allC (fun p:Nat×Slot=>p.2.lent (keysS (sl' u))) (sl' u)=true) (hcs:look s.sl kb=some (.box cs)) (hds: ∀u,look (renSl ρ (sl' u)) kb=some (.box (rawC ms 0 ds u)))
 (h3: ∀u,setSl kb (.box ds) (renSl ρ (sl' u))=sl3) (hm:maskC ms cs=maskC ms ds) (hlen:cs.length=ds.length) (hrf: ∀u,allC (fun k=> !anyB (C.refs (renN ρ k)) (maskC ms cs)) (keysS (sl' u))=true)
 (h0t: ∀t x,look s0.tm t=some x→look s.tm t=some x) (h0s: ∀t x,look s0.sl t=some x→look s.sl t=some x)
 (hk0: ∀u,allC (fun k=>match look s0.sl (renN ρ k)with|some _=>false|none=>true) (keysS (sl u)++keysS (sl' u))=true) (hodd: ∀u,allC (fun k=>s0.noRef (renN ρ k)) (oddK (keysS (sl u)) (keysS (sl' u)))=true)
 (hfx: ∀u,allC (fun k=> !anyB (Nat.beq (renN ρ k)) E.fx) (oddK (keysS (sl u)) (keysS (sl' u)))=true) (hlk: ∀u,lkOk3 E.lk ρ (keysS (sl u)) (keysS (sl' u))=true):
 One E ops o s (putO ⟨s0.tm,sl3++s0.sl⟩ o.dst (res.ren ρ)):=fun a w ⟨G,φ,hs⟩=>by
 obtain⟨lc,g1,g2,vs,g3,g4,g5⟩:=hs.sl kb _ hcs;have hu: ∀j,j<vs.length→(fun i=>vs.getD i undef) (0+j)=vs.getD j undef:=fun j _=>by rw[zz6]
 generalize hq:(fun i=>vs.getD i undef)=u at hu;have hlv:=g3.length
 have hs1:Sim E ⟨s.tm,setSl kb (.box (rawC ms 0 cs u)) s.sl⟩ G φ a w:=by
  exact zdp (c0:=cs) (tm:=s.tm) (l:=s.sl) hs hcs ⟨lc,g1,by rw[za6];exact g2,vs,zie (fun x=>rfl) g3 hu,g4,g5⟩
 refine One.callP ρ s0 (hS u) hop (hw u) hd (hc u) (hx u) (hle u) (hsl u) (hinj u) (hinj' u) (hres u) (hsl' u) hs1 (hs.weaken h0t h0s) ⟨s0.tm,sl3++s0.sl⟩ (fun{G' χ w'} hχ sg sv hup hsim=>?_) (fun t x h=>?_) (hk0 u) (hodd u) (hfx u) (hlk u)
 ·rw[←h3 u,←zci (hds u)];have hk:look (renSl ρ (sl' u)++s0.sl) kb=some (.box (rawC ms 0 ds u)):=by rw[z1o,hds u]
  obtain⟨ld,j1,j2,vs',j3,j4,j5⟩:=hsim.sl kb _ hk;refine zdp (c0:=rawC ms 0 ds u) hsim hk ⟨ld,j1,by rw[za6]at j2;exact j2,vs',zh5 (fun x v h=>h) j3 (z7f.of g3 hu hm hlen fun c hc v hv=>?_),j4,j5⟩
  ·refine hv.mono sg sv hup fun k' hk'=>hχ k' fun k hk e=>?_;have:=z28 (hrf u) k hk
   rw[e,z87 hc hk']at this;cases this
 ·obtain⟨y,hy⟩: ∃y,look s.sl t=some y:=⟨x,h0s t x h⟩;show ∃y,look (setSl kb (.box (rawC ms 0 cs u)) s.sl) t=some y;rw[z8q];split
  ·rw[hcs];exact⟨_,rfl⟩
  ·exact⟨y,hy⟩
theorem At.callR {L:List Oper}{i:Nat}{K:St→Prop}{o:Oper}{cl:Call}{f:FuncId}{nf:Nat}{caps:List CC}{xs args:List AV}{res:AV}{sl sl':(Nat→Value)→List (Nat×Slot)}{sl3:List (Nat×Slot)}(ρ:List (Nat×Nat))(tk sk:List Nat){s0:St}(kb:Nat)(ms:List Bool)(cs ds:List C)
 (hS: ∀u,Summ E.P f args (sl u) res (sl' u)) (ho:L[i]?=some o) (hop:o.op= .call cl) (hw: ∀u,z0i L.toArray ⟨s.tm,setSl kb (.box (rawC ms 0 cs u)) s.sl⟩ o=some true) (hd:dstOk E.N o.dst=true)
 (hc: ∀u,z55 ⟨s.tm,setSl kb (.box (rawC ms 0 cs u)) s.sl⟩ cl=some (f,nf,caps)) (hx: ∀u,argsL ⟨s.tm,setSl kb (.box (rawC ms 0 cs u)) s.sl⟩ cl nf caps=some xs)
 (hle: ∀u,AVsArgL ⟨s.tm,setSl kb (.box (rawC ms 0 cs u)) s.sl⟩ ρ (keysS (sl u)) ((keysS (sl u)).map (renN ρ)) xs args) (hsl: ∀u,LentS ⟨s.tm,setSl kb (.box (rawC ms 0 cs u)) s.sl⟩ ρ (keysS (sl u)) (sl u))
 (hinj: ∀u,injB ρ (keysS (sl u))=true) (hinj': ∀u,injB ρ (keysS (sl' u))=true) (hres: ∀u,res.lent (keysS (sl' u))=true)
 (hsl': ∀u,allC (fun p:Nat×Slot=>p.2.lent (keysS (sl' u))) (sl' u)=true) (hcs:look s.sl kb=some (.box cs)) (hds: ∀u,look (renSl ρ (sl' u)) kb=some (.box (rawC ms 0 ds u)))
 (h3: ∀u,setSl kb (.box ds) (renSl ρ (sl' u))=sl3) (hm:maskC ms cs=maskC ms ds) (hlen:cs.length=ds.length) (hrf: ∀u,allC (fun k=> !anyB (C.refs (renN ρ k)) (maskC ms cs)) (keysS (sl' u))=true)
 (hk:Av.keep tk sk s=some s0)
 (hk0: ∀u,allC (fun k=>match look s0.sl (renN ρ k)with|some _=>false|none=>true) (keysS (sl u)++keysS (sl' u))=true) (hodd: ∀u,allC (fun k=>s0.noRef (renN ρ k)) (oddK (keysS (sl u)) (keysS (sl' u)))=true)
 (hfx: ∀u,allC (fun k=> !anyB (Nat.beq (renN ρ k)) E.fx) (oddK (keysS (sl u)) (keysS (sl' u)))=true) (hlk: ∀u,lkOk3 E.lk ρ (keysS (sl u)) (keysS (sl' u))=true)
 (s':St) (he:putO ⟨s0.tm,sl3++s0.sl⟩ o.dst (res.ren ρ)=s') (h:At E L (i+1) s' K):At E L i s K:=by
 have hk2:(∀t x,look s0.tm t=some x→look s.tm t=some x)∧ ∀t x,look s0.sl t=some x→look s.sl t=some x:=by
  unfold Av.keep at hk;split at hk
  ·rename_i tm h1
   split at hk
   ·rename_i sl h2
    cases hk;exact⟨z4a h1,z4a h2⟩
   ·cases hk
  ·cases hk
 exact At.one ho (One.callR ρ s0 kb ms cs ds hS hop hw hd hc hx hle hsl hinj hinj' hres hsl' hcs hds h3 hm hlen hrf hk2.1 hk2.2 hk0 hodd hfx hlk) (he▸h)
end
section
variable {E:Env} {s:St}
theorem za0 {L:List Oper}{i:Nat}{K:St→Prop}{o:Oper}{t e yt:TypeId}{x:Operand}{es n d:Nat}{get:Nat→List D}(ho:L[i]?=some o)
 (hop:o.op= .binOp .eql t x (.const (.slice none 0 0)) yt) (hw:z0i L.toArray s o=some true) (hd:o.dst=some d) (hlt:Nat.blt d E.N=true)
 (hu:E.P.underlying t=some (.slice e)) (hx:evO s x=some (.c (.view es n get)))
 (h1:n=0→At E L (i+1) (s.put d (.c (.d (.bool true)))) K) (h2:At E L (i+1) (s.put d (.c (.d (.bool false)))) K):At E L i s K:=fun a w hs Q hQ=>by
 obtain⟨hlt',he⟩:=List.getElem?_eq_some_iff.1 ho;rw[List.drop_eq_getElem_cons hlt',he];obtain⟨G,φ,h⟩:=hs;unfold wpList;rw[if_pos (z1r h hw)];left;have hv:RelC G E.V φ w (.view es n get) (a.eval x):=(h.ev hx).1
 have hex:execOp a.eval o=(do pure (.value (←(do eqGuard .eql t x (.const (.slice none 0 0)) (a.eval x) (.slice none 0 0);Go.binOp .eql t (a.eval x) (.slice none 0 0):Sem Value))):Sem Next):=by unfold execOp;rw[hop];rfl
 have key: ∀b,(do eqGuard .eql t x (.const (.slice none 0 0)) (a.eval x) (.slice none 0 0);Go.binOp .eql t (a.eval x) (.slice none 0 0):Sem Value).run E.P w= .ok (.bool b) w→(b=true→n=0)→o.wp E.P a w (wpList E.P L.toArray Q (L.drop (i+1))) Q:=fun b hb hn=>by
  unfold Oper.wp;rw[hex];simp only[zz4]at hb ⊢;rw[hb];simp only[zz1,zzb,Oper.upon,hd];have hp:SimE E (s.put d (.c (.d (.bool b)))) (a.put (some d) (.bool b)) w:=⟨G,φ,h.put (Nat.blt_eq.mp hlt) (z0b (RelD.bool _) rfl)⟩
  cases b with
  |true=>exact h1 (hn rfl) _ _ hp Q hQ
  |false=>exact h2 _ _ hp Q hQ
 generalize a.eval x=u at*;rcases hv with⟨hn,A,cap,rfl⟩|⟨b,off,cap,_,rfl,_⟩
 ·cases A with
  |none=>exact key true (z7b hu _ _ _) fun _=>hn
  |some A=>exact key false (z7b hu _ _ _) fun h=>by cases h
 ·exact key false (z7b hu _ _ _) fun h=>by cases h
theorem zap {α:Type}{f:α→Bool}: ∀{l:List α},(∀x∈l,f x=true)→allC f l=true
 |[],_=>rfl
 |x::r,h=>by
  unfold allC;rw[h x (zz5 ..)];exact zap fun y hy=>h y (zz8 _ hy)
theorem zf7 {ops:Array Oper}{o:Oper}{cl:Call}{f:FuncId}{nf d k:Nat}{caps:List CC}{xs args:List AV}{res av:AV}{v:Slot}{sl sl':List (Nat×Slot)}(ρ:List (Nat×Nat))
 (hS:Summ E.P f args sl res sl') (hop:o.op= .call cl) (hdo:o.dst=some d) (hw:z0i ops s o=some true) (hd:dstOk E.N o.dst=true) (hc:z55 s cl=some (f,nf,caps)) (hx:argsL s cl nf caps=some xs)
 (hle:AVsArgL s ρ (keysS sl) ((keysS sl).map (renN ρ)) xs args) (hsl:LentS s ρ (keysS sl) sl) (hinj:injB ρ (keysS sl)=true) (hinj':injB ρ (keysS sl')=true) (hres:res.lent (keysS sl')=true)
 (hsl':allC (fun p:Nat×Slot=>p.2.lent (keysS sl')) sl'=true) (hk:allC (fun j=>Nat.beq (renN ρ j) k) (keysS sl++keysS sl')=true)
 (hfx:anyB (Nat.beq k) E.fx=false) (hlk:lkOk3 E.lk ρ (keysS sl) (keysS sl')=true) (h1:renSl ρ sl'=[(k,v)]) (h2:res.ren ρ=av):
 One E ops o s (((s.drop k).slot k v).put d av):=by
 have hkk: ∀j∈keysS sl++keysS sl',renN ρ j=k:=fun j hj=>zz3 (z28 hk j hj);have hno:=zaz k s
 have:=zf8 ρ (s.drop k) hS hop hw hd hc hx hle hsl hinj hinj' hres hsl' (fun h=>h.drop k) ?_ ?_ ?_ ?_ hlk
 ·rw[h1,h2,hdo]at this;exact this
 ·intro t x hx;simp only[St.drop,z5x]at hx;split at hx
  ·cases hx
  ·cases e:look s.sl t with
   |none=>rw[e]at hx;cases hx
   |some y=>exact⟨y,rfl⟩
 ·refine zap fun j hj=>?_;rw[hkk j hj];simp only[St.drop,z5x];simp
 ·refine zap fun j hj=>?_;rw[hkk j ?_]
  ·exact hno
  ·unfold oddK at hj;rcases zzh.1 hj with h|h
   ·exact List.mem_append_left _ (List.mem_filter.1 h).1
   ·exact List.mem_append_right _ (List.mem_filter.1 h).1
 ·refine zap fun j hj=>?_;rw[hkk j ?_,hfx]
  ·rfl
  ·unfold oddK at hj;rcases zzh.1 hj with h|h
   ·exact List.mem_append_left _ (List.mem_filter.1 h).1
   ·exact List.mem_append_right _ (List.mem_filter.1 h).1
end
section
variable {E:Env}
theorem DOk.callR {ops:Array Oper}{o:Oper}{x:DOp}{cl:Call}{f:FuncId}{nf:Nat}{caps:List CC}{xs args:List AV}{res:AV}{sl sl':(Nat→Value)→List (Nat×Slot)}{sl3:List (Nat×Slot)}(ρ:List (Nat×Nat))(kb:Nat)(ms:List Bool)(cs ds:List C)(k1 k2:List Nat)
 (hS: ∀u,Summ E.P f args (sl u) res (sl' u)) (hop:o.op= .call cl) (hw: ∀r u,z0i ops ⟨(x.need.app r).tm,setSl kb (.box (rawC ms 0 cs u)) (x.need.app r).sl⟩ o=some true) (hd:dstOk E.N o.dst=true)
 (hc: ∀r u,z55 ⟨(x.need.app r).tm,setSl kb (.box (rawC ms 0 cs u)) (x.need.app r).sl⟩ cl=some (f,nf,caps)) (hx: ∀r u,argsL ⟨(x.need.app r).tm,setSl kb (.box (rawC ms 0 cs u)) (x.need.app r).sl⟩ cl nf caps=some xs)
 (hle: ∀r u,AVsArgL ⟨(x.need.app r).tm,setSl kb (.box (rawC ms 0 cs u)) (x.need.app r).sl⟩ ρ (keysS (sl u)) ((keysS (sl u)).map (renN ρ)) xs args) (hsl: ∀r u,LentS ⟨(x.need.app r).tm,setSl kb (.box (rawC ms 0 cs u)) (x.need.app r).sl⟩ ρ (keysS (sl u)) (sl u))
 (hinj: ∀u,injB ρ (keysS (sl u))=true) (hinj': ∀u,injB ρ (keysS (sl' u))=true) (hres: ∀u,res.lent (keysS (sl' u))=true)
 (hsl': ∀u,allC (fun p:Nat×Slot=>p.2.lent (keysS (sl' u))) (sl' u)=true) (hcs: ∀r,look (x.need.app r).sl kb=some (.box cs)) (hds: ∀u,look (renSl ρ (sl' u)) kb=some (.box (rawC ms 0 ds u)))
 (h3: ∀u,setSl kb (.box ds) (renSl ρ (sl' u))=sl3) (hm:maskC ms cs=maskC ms ds) (hlen:cs.length=ds.length) (hrf: ∀u,allC (fun k=> !anyB (C.refs (renN ρ k)) (maskC ms cs)) (keysS (sl' u))=true)
 (hk1: ∀u,keysS (sl u)=k1) (hk2: ∀u,keysS (sl' u)=k2)
 (hodd:allC (fun k=>(⟨x.need.tm,lessK ((k1++k2).map (renN ρ)) x.need.sl⟩:St).noRef (renN ρ k)) (oddK k1 k2)=true) (hmk:allC (fun k=>memB (renN ρ k) x.mks) (oddK k1 k2)=true)
 (hfx:allC (fun k=> !anyB (Nat.beq (renN ρ k)) E.fx) (oddK k1 k2)=true) (hlk:lkOk3 E.lk ρ k1 k2=true)
 (hcov:allC (fun k=>z0x (renN ρ k) x.eff.sl) (k1++k2)=true) (hesl:sl3=x.eff.sl)
 (het:match o.dst with|some d=>[(d,res.ren ρ)]=x.eff.tm|none=>x.eff.tm=[]):DOk E ops o x:=
 zf6 ρ k1 k2 (fun r q1 q2=>One.callR ρ ⟨x.need.tm++r.tm,lessK ((k1++k2).map (renN ρ)) (x.need.sl++r.sl)⟩ kb ms cs ds hS hop (hw r) hd (hc r) (hx r) (hle r) (hsl r) hinj hinj' hres hsl' (hcs r) hds h3 hm hlen hrf
  (fun t y h=>h) (fun t c h=>by
   rw[z3e]at h;split at h
   ·cases h
   ·exact h) (fun u=>by rw[hk1 u,hk2 u];exact q1) (fun u=>by rw[hk1 u,hk2 u];exact q2) (fun u=>by rw[hk1 u,hk2 u];exact hfx) (fun u=>by rw[hk1 u,hk2 u];exact hlk)) hodd hmk hcov hesl het
end
end Go.Av
namespace Go.Av
open Go
section
variable {E:Env} {s:St} {G:Nat→Prop} {φ:Nat→Option Loc} {a:Act} {w:World}
theorem Sim.storeAt (h:Sim E s G φ a w){k es N N' m p:Nat}{get get' get2:Nat→List D}{L:Loc}{us:List Value}(hk:look s.sl k=some (.vec es N get))(hL:φ k=some L)(hm:p+m≤L.cap)(hul:us.length=m*es)(hcs:N'≤p∨z2t G w us es m get')
 (hx:N'≤maxN) (hc:N'≤L.cap) (hg: ∀i,i<N'→(p≤i∧i<p+m∧get2 i=get' (i-p))∨((i<p∨p+m≤i)∧i<N∧get2 i=get i)) (h1: ∀u∈us,u.oneCell'=true):
 (storeCells ⟨L.blk,L.off+p*es,none⟩ us).run E.P w= .ok () (w.setCells L.blk (L.off+p*es) us)∧Sim E (s.slot k (.vec es N' get2)) G φ a (w.setCells L.blk (L.off+p*es) us):=by
 obtain⟨_,h0|⟨l,g1,g2,ht,hel⟩⟩:=h.sl _ _ hk
 ·rw[hL]at h0;cases h0.1
 ·rw[hL]at g1;cases g1;have e1:(p+m)*es≤L.cap*es:=Nat.mul_le_mul_right es hm
  have htt:w.there L.blk (L.off+p*es) us.length:=fun j hj=>by
   rw[Nat.add_assoc];refine ht.1 (p*es+j) ?_;rw[Nat.add_mul]at e1;omega
  have hstore:=run_storeCells_cells (P:=E.P) L.blk (L.off+p*es) us 0 w (fun j hj=>(by simpa using htt j hj:_∧_).1) (fun j hj=>(by simpa using htt j hj:_∧_).2) h1;simp only[Nat.add_zero]at hstore;refine⟨hstore,?_⟩;obtain⟨f1,f2,f3,f4,f5⟩:=z4u L.blk us (L.off+p*es) w;have hsame:Same G w (w.setCells L.blk (L.off+p*es) us):=fun b hb=>f5 b fun e=>(h.own k _ L hk hL).1 (e▸hb)
  refine h.turn hk hL f1 f2 f3 f4 f5 ⟨hx,.inr ⟨L,hL,hc,ht.setCells _ _ _,fun i hi=>?_⟩⟩;rcases hg i hi with⟨q1,q2,q3⟩|⟨q1,q2,q3⟩
  ·rw[q3];obtain⟨g1,g2⟩:=(hcs.resolve_left (by omega)) (i-p) (by omega);refine⟨g1,fun j hj=>?_⟩;obtain⟨u,hu,hr⟩:=g2 j (by omega);have hlt':=z4o (show i-p<m by omega) (show j<es by omega)
   have hin':=World.cell?_setCells_in L.blk us (L.off+p*es) w (fun q hq=>(htt q hq).1) ((i-p)*es+j) (by omega);refine⟨u,?_,hr.mono hsame fun _ h=>h⟩;have e2:L.off+i*es+j=L.off+p*es+((i-p)*es+j):=by
    have:i=p+(i-p):=by omega
    rw[this,Nat.add_mul];have:p+(i-p)-p=i-p:=by omega
    rw[this];omega
   rw[e2,hin',←hu,List.getElem?_eq_getElem (by omega)]
  ·rw[q3];obtain⟨g1,g2⟩:=hel i q2;refine⟨g1,fun j hj=>?_⟩;obtain⟨u,hu,hr⟩:=g2 j hj;refine⟨u,?_,hr.mono hsame fun _ h=>h⟩;rw[World.cell?_setCells_out L.blk us (L.off+p*es) w _ (fun _ _=>by
    show L.off+i*es+j<L.off+p*es∨L.off+p*es+us.length≤L.off+i*es+j;rcases q1 with q1|q1
    ·left;have:=z4o q1 (show j<es by omega)
     omega
    ·right;have:(p+m)*es≤i*es:=Nat.mul_le_mul_right es q1
     rw[Nat.add_mul]at this;omega)]
   exact hu
theorem add_add (b o j:Nat):(⟨b,o,none⟩:Addr).add j=⟨b,o+j,none⟩:=Addr.add_mid b o j
theorem Sim.loadAt (h:Sim E s G φ a w){k es N m q:Nat}{get:Nat→List D}{L:Loc}{A:Option Addr}{c:Nat}(hk:look s.sl k=some (.vec es N get))(hL:φ k=some L)(hN:0<N)(hq:q+m≤N)(hA:0<m→A=some ⟨L.blk,L.off+q*es,none⟩):
 ∃us:List Value,us.length=m*es∧z2t G w us es m (fun i=>get (q+i))∧(Builtin.firstCells es m (.slice A m c)).run E.P w= .ok us.toArray w∧ ∀u∈us,u.oneCell'=true:=by
 obtain⟨_,h0|⟨l,g1,g2,ht,hel⟩⟩:=h.sl _ _ hk
 ·omega
 ·rw[hL]at g1;cases g1;have he:z2u G w L.blk (L.off+q*es) es m (fun i=>get (q+i)):=fun i hi=>by
   obtain⟨e1,e2⟩:=hel (q+i) (by omega);refine⟨e1,?_⟩;have e:L.off+q*es+i*es=L.off+(q+i)*es:=by rw[Nat.add_mul];omega
   rw[e];exact e2
  obtain⟨us,h1,h2,h3,h4⟩:=zau (P:=E.P) he;refine⟨us,h1,h2,?_,h4⟩;by_cases hm:0<m
  ·rw[hA hm];exact h3 w rfl
  ·have:m=0:=by omega
   subst this;have:us=[]:=by cases us<;>simp_all
   subst this;cases A with
   |none=>rfl
   |some A=>simp[Builtin.firstCells,loadCells,loadCellsFrom]
end
end Go.Av
namespace Go.Av
open Go
section
variable {E:Env} {s:St}
theorem SrcOf.g {x:Operand}{y:AV}{es m sn:Nat}{get:Nat→List D}(hx:evO s x=some y)(hs:SrcOf s y es m get)(hsn:sn=m):
 ∀{G:Nat→Prop} {φ:Nat→Option Loc} {a:Act} {w:World},Sim E s G φ a w→ ∃(us:List Value) (A':Option Addr) (c':Nat),a.eval x= .slice A' sn c'∧us.length=m*es∧z2t G w us es m get∧(Builtin.firstCells es m (.slice A' sn c')).run E.P w= .ok us.toArray w∧ ∀u∈us,u.oneCell'=true:=fun{G φ a w} h=>by
 subst hsn;obtain⟨A,cap,hv,_,us,h1,h2,h3,h4⟩:=hs.load h (h.ev hx);refine⟨us,A,cap,hv,h1,h2,?_,h4⟩;have:=h3 w rfl
 rw[hv]at this;exact this
end
end Go.Av
namespace Go.Av
open Go
def z2j:ByteArray:=bs [0,1,2,2,3,3,3,3,4,4,4,4,4,4,4,4,5,5,5,5,5,5,5,5,5,5,5,5,5,5,5,5,6,6,6,6,6,6,6,6,6,6,6,6,6,6,6,6,6,6,6,6,6,6,6,6,6,6,6,6,6,6,6,6,7,7,7,7,7,7,7,7,7,7,7,7,7,7,7,7,7,7,7,7,7,7,7,7,7,7,7,7,7,7,7,7,7,7,7,7,7,7,7,7,7,7,7,7,7,7,7,7,7,7,7,7,7,7,7,7,7,7,7,7,7,7,7,7,8,8,8,8,8,8,8,8,8,8,8,8,8,8,8,8,8,8,8,8,8,8,8,8,8,8,8,8,8,8,8,8,8,8,8,8,8,8,8,8,8,8,8,8,8,8,8,8,8,8,8,8,8,8,8,8,8,8,8,8,8,8,8,8,8,8,8,8,8,8,8,8,8,8,8,8,8,8,8,8,8,8,8,8,8,8,8,8,8,8,8,8,8,8,8,8,8,8,8,8,8,8,8,8,8,8,8,8,8,8,8,8,8,8,8,8,8,8,8,8,8,8,8,8,8,8,8,8]
structure Value where
 isText:Bool
 n:Int
 s:ByteArray
 deriving Inhabited
def encValue (x:Value):List D:=[.bool x.isText,dI x.n,.str x.s]
abbrev cValue (x:Value):List C:=[.d (.bool x.isText),.d (dI x.n),.d (.str x.s)]
def z6b (p0:Value):Option Bool:=
 bf p0.isText (jn (fun(a1:Bool)=>some a1) fun j2=>bf (decide (p0.n=0)) (j2 (decide ((p0.s.size:Int)≤64))) (j2 false)) (some (strEq p0.s (bs [])))
def z73 (p0:Value):Option Bool:=
 (z6b p0).bind fun r1=>some (!r1)
def z0o (p0:List Value):Option Int:=
 outK (z0n (S:=Unit) (R:=Int) (fun i1 (a2:Unit)=>(z73 (p0.getD i1 zzd)).bind fun r4=>bf r4 (some (.ret ((i1:Nat):Int))) (some (.next ()))) p0.length 0 ()) (fun(a3:Unit)=>some (-1)) (fun x=>some x)
def z0k (p0:List Value):Option Bool:=
 (z0o p0).bind fun r1=>some (decide (0≤r1))
def value_Check (p0:List Value):Option Int:=
 jn (fun(a1:Bool)=>bf a1 (some 4) (some 0)) fun j2=>bf (decide (8<(p0.length:Int))) (j2 true) ((z0k p0).bind fun r3=>j2 r3)
def value_mark (p0:Value):Option Int:=
 bf p0.isText (some 1) (some 0)
def z4i (p0:Int):Option Int:=
 jn (fun(a1:Int×Int)=>jn (fun(a3:Int×Int)=>jn (fun(a5:Int×Int)=>need ((0:Int)≤(IntKind.u8.wrap a5.1)∧(IntKind.u8.wrap a5.1)<(z2j.size:Int))<|some (zzi.wrap (a5.2+(zzi.wrap (bt z2j (IntKind.u8.wrap a5.1)))))) fun j6=>bf (decide (256≤a3.1)) (j6 ((shrOp .u64 a3.1 8),(zzi.wrap (a3.2+8)))) (j6 (a3.1,a3.2))) fun j4=>bf (decide (65536≤a1.1)) (j4 ((shrOp .u64 a1.1 16),(zzi.wrap (a1.2+16)))) (j4 (a1.1,a1.2))) fun j2=>bf (decide (4294967296≤p0)) (j2 ((shrOp .u64 p0 32),32)) (j2 (p0,0))
def pack_Count (p0:Int):Option ByteArray:=
 (z4i p0).bind fun r1=>need ((0:Int)≤(if 1<(zzi.wrap ((zzi.wrap (r1+6)).tdiv 7))then(zzi.wrap ((zzi.wrap (r1+6)).tdiv 7))else 1)∧(if 1<(zzi.wrap ((zzi.wrap (r1+6)).tdiv 7))then(zzi.wrap ((zzi.wrap (r1+6)).tdiv 7))else 1)≤(if 1<(zzi.wrap ((zzi.wrap (r1+6)).tdiv 7))then(zzi.wrap ((zzi.wrap (r1+6)).tdiv 7))else 1)∧(if 1<(zzi.wrap ((zzi.wrap (r1+6)).tdiv 7))then(zzi.wrap ((zzi.wrap (r1+6)).tdiv 7))else 1)≤(lim:Int))<|outK (z0n (S:=List Int) (R:=Empty) (fun i3 (a4:List Int)=>need ((0:Int)≤(zzi.wrap ((7:Int)*((i3:Nat):Int))))<|need ((0:Int)≤((i3:Nat):Int)∧((i3:Nat):Int)<(a4.length:Int))<|need ((0+i3)<a4.length)<|some (.next (a4.set (0+i3) (z09 .or .u8 (IntKind.u8.wrap (shrOp .u64 p0 (zzi.wrap ((7:Int)*((i3:Nat):Int))))) 128)))) ((List.replicate ((if 1<(zzi.wrap ((zzi.wrap (r1+6)).tdiv 7))then(zzi.wrap ((zzi.wrap (r1+6)).tdiv 7))else 1).toNat) (0:Int)).length) 0 (List.replicate ((if 1<(zzi.wrap ((zzi.wrap (r1+6)).tdiv 7))then(zzi.wrap ((zzi.wrap (r1+6)).tdiv 7))else 1).toNat) (0:Int))) (fun(a5:List Int)=>need ((0:Int)≤(zzi.wrap ((if 1<(zzi.wrap ((zzi.wrap (r1+6)).tdiv 7))then(zzi.wrap ((zzi.wrap (r1+6)).tdiv 7))else 1)-1))∧(zzi.wrap ((if 1<(zzi.wrap ((zzi.wrap (r1+6)).tdiv 7))then(zzi.wrap ((zzi.wrap (r1+6)).tdiv 7))else 1)-1))<(a5.length:Int))<|need ((0+(zzi.wrap ((if 1<(zzi.wrap ((zzi.wrap (r1+6)).tdiv 7))then(zzi.wrap ((zzi.wrap (r1+6)).tdiv 7))else 1)-1)).toNat)<a5.length)<|need ((0:Int)≤(zzi.wrap ((if 1<(zzi.wrap ((zzi.wrap (r1+6)).tdiv 7))then(zzi.wrap ((zzi.wrap (r1+6)).tdiv 7))else 1)-1))∧(zzi.wrap ((if 1<(zzi.wrap ((zzi.wrap (r1+6)).tdiv 7))then(zzi.wrap ((zzi.wrap (r1+6)).tdiv 7))else 1)-1))<(a5.length:Int))<|need ((0+(zzi.wrap ((if 1<(zzi.wrap ((zzi.wrap (r1+6)).tdiv 7))then(zzi.wrap ((zzi.wrap (r1+6)).tdiv 7))else 1)-1)).toNat)<a5.length)<|some (strOfNums (a5.set (0+(zzi.wrap ((if 1<(zzi.wrap ((zzi.wrap (r1+6)).tdiv 7))then(zzi.wrap ((zzi.wrap (r1+6)).tdiv 7))else 1)-1)).toNat) (z09 .and .u8 (a5.getD (0+(zzi.wrap ((if 1<(zzi.wrap ((zzi.wrap (r1+6)).tdiv 7))then(zzi.wrap ((zzi.wrap (r1+6)).tdiv 7))else 1)-1)).toNat) zzd) 127)))) (fun(x:Empty)=>x.elim)
def z8g (p0:List ByteArray):Option ByteArray:=
 (strings_Join p0 (bs [])).bind fun r1=>some r1
def pack_Text (p0:ByteArray):Option ByteArray:=
 (pack_Count (zzu.wrap (p0.size:Int))).bind fun r1=>(z8g ([r1,p0]:List ByteArray)).bind fun r2=>some r2
def pack_Number (p0:Int):Option ByteArray:=
 (pack_Count (z09 .xor .u64 (shlOp .u64 (zzu.wrap p0) 1) (zzu.wrap (shrOp .i64 p0 63)))).bind fun r1=>some r1
end Go.Av
namespace Go.Av
def encV (v:Value):Option (List UInt8):=(value_mark v).bind fun m=>bf v.isText ((pack_Text v.s).bind fun t=>some (UInt8.ofNat (IntKind.u8.wrap m).toNat::t.data.toList)) ((pack_Number v.n).bind fun t=>some (UInt8.ofNat (IntKind.u8.wrap m).toNat::t.data.toList))
def encVs:List Value→Option (List UInt8)
 |[]=>some []
 |v::l=>(encV v).bind fun a=>(encVs l).bind fun b=>some (a++b)
def z6i (p0:List Value):Option (ByteArray×Int):=
 (value_Check p0).bind fun r=>bf (!decide (r=0)) (some (bs [],r)) ((pack_Count (p0.length:Int)).bind fun c=>(encVs p0).bind fun b=>need (c.size+b.length≤140737488355328) (some (⟨(c.data.toList++b).toArray⟩,0)))
end Go.Av
namespace Go.Av
open Go
structure Time where
 epoch:Int
 loop:Int×Int
 deriving Inhabited
def z01 (x:Time):List D:=[dU x.epoch,dU x.loop.1,dU x.loop.2]
abbrev cTime (x:Time):List C:=[.d (dU x.epoch),.d (dU x.loop.1),.d (dU x.loop.2)]
def z6x (x y:Time):Bool:=(decide (x.epoch=y.epoch) && ((decide (x.loop.1=y.loop.1) && (decide (x.loop.2=y.loop.2) && true)) && true))
structure Write where
 kind:Int
 name:ByteArray
 to_:ByteArray
 data:ByteArray
 deriving Inhabited
def z08 (x:Write):List D:=[.int .u8 x.kind,.str x.name,.str x.to_,.str x.data]
abbrev cWrite (x:Write):List C:=[.d (.int .u8 x.kind),.d (.str x.name),.d (.str x.to_),.d (.str x.data)]
structure File where
 name:ByteArray
 data:ByteArray
 deriving Inhabited
def z04 (x:File):List D:=[.str x.name,.str x.data]
abbrev cFile (x:File):List C:=[.d (.str x.name),.d (.str x.data)]
structure Disk where
 files:List File
 waits:List Write
 room:Int
 down:Bool
 fuse:Int
 deriving Inhabited
abbrev cDisk (x:Disk):List C:=[.d (lD 2 z04 x.files),.d (lD 4 z08 x.waits),.d (dI x.room),.d (.bool x.down),.d (dI x.fuse)]
structure Desk where
 files:List File
 disk:Disk
 deriving Inhabited
abbrev cDesk (x:Desk):List C:=[.d (lD 2 z04 x.files),.d (lD 2 z04 x.disk.files),.d (lD 4 z08 x.disk.waits),.d (dI x.disk.room),.d (.bool x.disk.down),.d (dI x.disk.fuse)]
structure Taker where
 left:ByteArray
 bad:Bool
 deriving Inhabited
abbrev cTaker (x:Taker):List C:=[.d (.str x.left),.d (.bool x.bad)]
def z99 (p0:ByteArray):Option Bool:=
 jn (fun(a1:Bool)=>some a1) fun j2=>bf (strEq p0 (bs [])) (j2 true) (j2 (decide (32<(p0.size:Int))))
def z14 (p0:List ByteArray):Option Int:=
 outK (z0n (S:=Unit) (R:=Int) (fun i1 (a2:Unit)=>(z99 (p0.getD i1 zzd)).bind fun r4=>bf r4 (some (.ret ((i1:Nat):Int))) (some (.next ()))) p0.length 0 ()) (fun(a3:Unit)=>some (-1)) (fun x=>some x)
def z0v (p0:List ByteArray):Option Bool:=
 (z14 p0).bind fun r1=>some (decide (0≤r1))
def z5h (p0:List ByteArray):Option Bool:=
 (z0v p0).bind fun r1=>some (!r1)
def z8o (p0:Write):Option Bool:=
 bf (decide (p0.kind=1)) (jn (fun(a1:Bool)=>some a1) fun j2=>(z5h ([p0.name]:List ByteArray)).bind fun r3=>bf r3 (j2 (strEq p0.to_ (bs []))) (j2 false)) (bf (decide (p0.kind=2)) (jn (fun(a4:Bool)=>some a4) fun j5=>(z5h ([p0.name,p0.to_]:List ByteArray)).bind fun r6=>bf r6 (j5 (strEq p0.data (bs []))) (j5 false)) (bf (decide (p0.kind=3)) (jn (fun(a7:Bool)=>some a7) fun j8=>(z5h ([p0.name]:List ByteArray)).bind fun r9=>bf r9 (need (((p0.to_.size+p0.data.size:Nat):Int)≤9223372036854775807)<|j8 (strEq (p0.to_++p0.data) (bs []))) (j8 false)) (some false)))
def z97 (p0:Write):Option Bool:=
 (z8o p0).bind fun r1=>some (!r1)
def z1a (p0:List Write):Option Int:=
 outK (z0n (S:=Unit) (R:=Int) (fun i1 (a2:Unit)=>(z97 (p0.getD i1 zzd)).bind fun r4=>bf r4 (some (.ret ((i1:Nat):Int))) (some (.next ()))) p0.length 0 ()) (fun(a3:Unit)=>some (-1)) (fun x=>some x)
def z15 (p0:List Write):Option Bool:=
 (z1a p0).bind fun r1=>some (decide (0≤r1))
def z4w (p0:ByteArray):Option Bool:=
 some (!strEq p0 p0)
def z3b (p0:ByteArray)(p1:ByteArray):Option Int:=
 (z4w p0).bind fun r1=>(z4w p1).bind fun r2=>bf r1 (bf r2 (some 0) (some (-1))) (bf r2 (some 1) (bf (strLt p0 p1) (some (-1)) (bf (!(strLt p0 p1||strEq p0 p1)) (some 1) (some 0))))
def z35 (p0:File)(p1:ByteArray):Option Int:=
 (z3b p0.name p1).bind fun r1=>some r1
def z0r (fuel:Nat)(p0:List File)(p1:ByteArray):Option (Int×Bool):=
 outK (loopN (S:=Int×Int) (R:=Empty) (fun(a1:Int×Int)=>bf (decide (a1.1<a1.2)) (need ((0:Int)≤(zzi.wrap (shrOp .u64 (zzu.wrap (zzi.wrap (a1.1+a1.2))) 1))∧(zzi.wrap (shrOp .u64 (zzu.wrap (zzi.wrap (a1.1+a1.2))) 1))<(p0.length:Int))<|(z35 (p0.getD ((zzi.wrap (shrOp .u64 (zzu.wrap (zzi.wrap (a1.1+a1.2))) 1)).toNat) zzd) p1).bind fun r8=>bf (decide (r8<0)) (some (.next ((zzi.wrap ((zzi.wrap (shrOp .u64 (zzu.wrap (zzi.wrap (a1.1+a1.2))) 1))+1)),a1.2))) (some (.next (a1.1,(zzi.wrap (shrOp .u64 (zzu.wrap (zzi.wrap (a1.1+a1.2))) 1)))))) (some (.brk (a1.1,a1.2)))) fuel (0,(p0.length:Int))) (fun(a2:Int×Int)=>jn (fun(a3:Bool)=>some (a2.1,a3)) fun j4=>bf (decide (a2.1<(p0.length:Int))) (need ((0:Int)≤a2.1∧a2.1<(p0.length:Int))<|(z35 (p0.getD a2.1.toNat zzd) p1).bind fun r6=>j4 (decide (r6=0))) (j4 false)) (fun(x:Empty)=>x.elim)
def z1i (fuel:Nat)(p0:List File)(p1:ByteArray):Option (Int×Bool):=
 (z0r fuel p0 p1).bind fun r1=>some (r1.1,r1.2)
def z4r (fuel:Nat)(p1:ByteArray)(l0:List File):Option (File×Bool×(List File)):=
 (z1i fuel l0 p1).bind fun r1=>bf (!r1.2) (some ((⟨(bs []),(bs [])⟩:File),false,l0)) (need ((0:Int)≤r1.1∧r1.1<(l0.length:Int))<|need ((0+r1.1.toNat)<l0.length)<|none)
def z4l (p1:Int)(p2:List File)(l0:List File):Option (List File):=
 need ((0:Int)≤p1∧p1≤(l0.length:Int)∧(l0.length:Int)≤(l0.length:Int))<|bf (decide ((p2.length:Int)=0)) (some l0) (bf (decide (p1=(l0.length:Int))) (need (l0.length+p2.length≤274877906944)<|some (l0++p2)) (none))
def z3q (fuel:Nat)(p1:File)(l0:List File):Option (List File):=
 (z1i fuel l0 p1.name).bind fun r1=>bf r1.2 (need ((0:Int)≤r1.1∧r1.1<(l0.length:Int))<|need ((0+r1.1.toNat)<l0.length)<|some (l0.set (0+r1.1.toNat) p1)) ((z4l r1.1 ([p1]:List File) l0).bind fun r4=>some r4)
def z43 (fuel:Nat)(p1:List Write)(l0:List File):Option (List File):=
 outK (z0n (S:=List File) (R:=Empty) (fun i1 (a2:List File)=>(z4r fuel ((p1.getD i1 zzd).name) a2).bind fun r4=>bf (decide ((p1.getD i1 zzd).kind=1)) (need (((r4.1.data.size+((p1.getD i1 zzd).data).size:Nat):Int)≤9223372036854775807)<|(z3q fuel (⟨(p1.getD i1 zzd).name,(r4.1.data++((p1.getD i1 zzd).data))⟩:File) r4.2.2).bind fun r6=>some (.next r6)) (jn (fun(a7:Bool)=>bf a7 ((z3q fuel (⟨(p1.getD i1 zzd).to_,r4.1.data⟩:File) r4.2.2).bind fun r9=>some (.next r9)) (some (.next r4.2.2))) fun j8=>bf r4.2.1 (j8 (decide ((p1.getD i1 zzd).kind=2))) (j8 false))) p1.length 0 l0) (fun(a3:List File)=>some a3) (fun(x:Empty)=>x.elim)
def z98 (fuel:Nat)(p0:Disk):Option Bool:=
 need ((0:Int)≤0∧(0:Int)≤(p0.files.length:Int)∧(p0.files.length:Int)≤(lim:Int))<|outK (z0n (S:=List File) (R:=Empty) (fun i2 (a3:List File)=>need (a3.length+([(⟨(p0.files.getD i2 zzd).name,(bs [])⟩:File)]:List File).length≤274877906944)<|some (.next (a3++([(⟨(p0.files.getD i2 zzd).name,(bs [])⟩:File)]:List File)))) p0.files.length 0 (List.replicate 0 ((⟨(bs []),(bs [])⟩:File):File))) (fun(a4:List File)=>outK (z0n (S:=List File) (R:=Bool) (fun i5 (a6:List File)=>(z43 fuel ([(⟨(p0.waits.getD i5 zzd).kind,(p0.waits.getD i5 zzd).name,(p0.waits.getD i5 zzd).to_,(bs [])⟩:Write)]:List Write) a6).bind fun r8=>bf (decide (256<(r8.length:Int))) (some (.ret true)) (some (.next r8))) p0.waits.length 0 a4) (fun(a7:List File)=>some false) (fun x=>some x)) (fun(x:Empty)=>x.elim)
def z8n (fuel:Nat)(p0:Disk):Option Int:=
 jn (fun(a1:Bool)=>outK (z0n (S:=Bool) (R:=Empty) (fun i3 (a4:Bool)=>bf a4 ((z5h ([(p0.files.getD i3 zzd).name]:List ByteArray)).bind fun r11=>bf r11 (bf (decide (((i3:Nat):Int)=0)) (some (.next true)) (need ((0:Int)≤(zzi.wrap (((i3:Nat):Int)-1))∧(zzi.wrap (((i3:Nat):Int)-1))<(p0.files.length:Int))<|some (.next (strLt ((p0.files.getD ((zzi.wrap (((i3:Nat):Int)-1)).toNat) zzd).name) ((p0.files.getD i3 zzd).name))))) (some (.next false))) (some (.next false))) p0.files.length 0 a1) (fun(a5:Bool)=>jn (fun(a6:Bool)=>bf a6 (some 8) (some 0)) fun j7=>bf (!a5) (j7 true) ((z15 p0.waits).bind fun r8=>bf r8 (j7 true) ((z98 fuel p0).bind fun r9=>j7 r9))) (fun(x:Empty)=>x.elim)) fun j2=>bf (decide ((p0.files.length:Int)≤256)) (bf (decide ((p0.waits.length:Int)≤4096)) (j2 (decide (0≤p0.room))) (j2 false)) (j2 false)
def z0q (p0:List File):Option (List File):=
 need (p0.length≤274877906944)<|some p0
def z1s (p0:List Write):Option (List Write):=
 need (p0.length≤274877906944)<|some p0
def z4m (fuel:Nat)(p1:ByteArray)(l0:List File):Option (File×Bool×(List File)):=
 (z1i fuel l0 p1).bind fun r1=>bf (!r1.2) (some ((⟨(bs []),(bs [])⟩:File),false,l0)) (need ((0:Int)≤r1.1∧r1.1<(l0.length:Int))<|need ((0+r1.1.toNat)<l0.length)<|none)
def z3j (fuel:Nat)(p1:File)(l0:List File):Option (List File):=
 (z1i fuel l0 p1.name).bind fun r1=>bf r1.2 (need ((0:Int)≤r1.1∧r1.1<(l0.length:Int))<|need ((0+r1.1.toNat)<l0.length)<|some (l0.set (0+r1.1.toNat) p1)) ((z4l r1.1 ([p1]:List File) l0).bind fun r4=>some r4)
def z4z (fuel:Nat)(p1:List Write)(l0:List File):Option (List File):=
 outK (z0n (S:=List File) (R:=Empty) (fun i1 (a2:List File)=>(z4m fuel ((p1.getD i1 zzd).name) a2).bind fun r4=>bf (decide ((p1.getD i1 zzd).kind=1)) (need (((r4.1.data.size+((p1.getD i1 zzd).data).size:Nat):Int)≤9223372036854775807)<|(z3j fuel (⟨(p1.getD i1 zzd).name,(r4.1.data++((p1.getD i1 zzd).data))⟩:File) r4.2.2).bind fun r6=>some (.next r6)) (jn (fun(a7:Bool)=>bf a7 ((z3j fuel (⟨(p1.getD i1 zzd).to_,r4.1.data⟩:File) r4.2.2).bind fun r9=>some (.next r9)) (some (.next r4.2.2))) fun j8=>bf r4.2.1 (j8 (decide ((p1.getD i1 zzd).kind=2))) (j8 false))) p1.length 0 l0) (fun(a3:List File)=>some a3) (fun(x:Empty)=>x.elim)
def z9p (fuel:Nat)(p0:Disk):Option Desk:=
 (z0q p0.files).bind fun r1=>(z1s p0.waits).bind fun r2=>(z0q r1).bind fun r3=>(z4z fuel r2 r3).bind fun r4=>some (⟨r4,(⟨r1,r2,p0.room,p0.down,p0.fuse⟩:Disk)⟩:Desk)
def z6t (p0:List File):Option (List File):=
 need (p0.length≤274877906944)<|some p0
def z4q (p0:List File)(p1:Int):Option Bool:=
 outK (z0n (S:=Int) (R:=Bool) (fun i1 (a2:Int)=>bf (decide ((zzi.wrap (a2-(((p0.getD i1 zzd).data).size:Int)))<0)) (some (.ret true)) (some (.next (zzi.wrap (a2-(((p0.getD i1 zzd).data).size:Int)))))) p0.length 0 p1) (fun(a3:Int)=>some (decide (256<(p0.length:Int)))) (fun x=>some x)
def z4y (l0:Desk):Option (Bool×Desk):=
 jn (fun(a1:Desk)=>some ((!a1.disk.down),a1)) fun j2=>bf (decide (0<l0.disk.fuse)) (j2 (⟨l0.files,(⟨l0.disk.files,l0.disk.waits,l0.disk.room,(decide (l0.disk.fuse=0)),(zzi.wrap (l0.disk.fuse-1))⟩:Disk)⟩:Desk)) (j2 (⟨l0.files,(⟨l0.disk.files,l0.disk.waits,l0.disk.room,(decide (l0.disk.fuse=0)),l0.disk.fuse⟩:Disk)⟩:Desk))
def z4p (fuel:Nat)(p1:Write)(l0:Desk):Option (Int×Desk):=
 bf l0.disk.down (some (7,l0)) ((z8o p1).bind fun r1=>bf (!r1) (some (4,l0)) ((z1i fuel l0.files p1.name).bind fun r2=>jn (fun(a3:Bool)=>bf a3 (some (5,l0)) ((z6t l0.files).bind fun r5=>(z43 fuel ([p1]:List Write) r5).bind fun r6=>jn (fun(a7:Bool)=>bf a7 (some (9,l0)) ((z4y l0).bind fun r9=>jn (fun(a10:Bool×Desk)=>bf (!a10.1) (some (7,a10.2)) (some (0,(⟨r6,a10.2.disk⟩:Desk)))) fun j11=>jn (fun(a12:Bool×Bool)=>bf a12.2 (need (r9.2.disk.waits.length+([p1]:List Write).length≤274877906944)<|j11 (a12.1,(⟨r9.2.files,(⟨r9.2.disk.files,(r9.2.disk.waits++([p1]:List Write)),r9.2.disk.room,r9.2.disk.down,r9.2.disk.fuse⟩:Disk)⟩:Desk))) (j11 (a12.1,r9.2))) fun j13=>bf r9.1 (j13 (true,true)) (j13 (false,(decide (p1.kind=1)))))) fun j8=>bf (decide (4096≤(l0.disk.waits.length:Int))) (j8 true) ((z4q r6 l0.disk.room).bind fun r16=>j8 r16))) fun j4=>bf (!r2.2) (j4 (!decide (p1.kind=1))) (j4 false)))
def zeu (fuel:Nat)(p0:Disk)(p1:List Write):Option (Disk×Int):=
 (z8n fuel p0).bind fun r1=>bf (!decide (r1=0)) (some ((⟨([]:List File),([]:List Write),0,false,0⟩:Disk),r1)) ((z9p fuel p0).bind fun r2=>outK (z0n (S:=Desk) (R:=Disk×Int) (fun i3 (a4:Desk)=>(z4p fuel (p1.getD i3 zzd) a4).bind fun r6=>bf (!decide (r6.1=0)) (some (.ret (r6.2.disk,r6.1))) (some (.next r6.2))) p1.length 0 r2) (fun(a5:Desk)=>some (a5.disk,0)) (fun x=>some x))
def zdc (fuel:Nat)(p0:Disk):Option ((List File)×Int):=
 (z8n fuel p0).bind fun r1=>bf (!decide (r1=0)) (some (([]:List File),r1)) (bf p0.down (some (([]:List File),7)) ((z9p fuel p0).bind fun r2=>some (r2.files,0)))
def zc1 (fuel:Nat)(p0:Disk)(p1:ByteArray):Option (ByteArray×Int):=
 (zdc fuel p0).bind fun r1=>bf (!decide (r1.2=0)) (some ((bs []),r1.2)) ((z1i fuel r1.1 p1).bind fun r2=>bf (!r2.2) (some ((bs []),5)) (need ((0:Int)≤r2.1∧r2.1<(r1.1.length:Int))<|some ((r1.1.getD r2.1.toNat zzd).data,0)))
def z4d (p1:Int)(l0:Int):Option Int:=
 outK (z0n (S:=Int) (R:=Empty) (fun i1 (a2:Int)=>some (.next (z09 .xor .u32 (shrOp .u32 a2 1) (z09 .and .u32 (2197175160:Int) (IntKind.u32.wrap (0-(z09 .and .u32 a2 1))))))) 8 0 (z09 .xor .u32 l0 (IntKind.u32.wrap p1))) (fun(a3:Int)=>some a3) (fun(x:Empty)=>x.elim)
def zdh (p0:ByteArray):Option Int:=
 need (p0.size≤maxN)<|outK (z0n (S:=Int) (R:=Empty) (fun i1 (a2:Int)=>(z4d (bt p0 ((i1:Nat):Int)) a2).bind fun r4=>some (.next r4)) p0.size 0 4294967295) (fun(a3:Int)=>some (z09 .xor .u32 4294967295 a3)) (fun(x:Empty)=>x.elim)
def z5s (fuel:Nat):Option Bool:=
 (zeu fuel (⟨([]:List File),([]:List Write),1099511627776,false,(-1)⟩:Disk) ([(⟨1,(bs [97]),(bs []),(bs [120])⟩:Write)]:List Write)).bind fun r1=>(zc1 fuel r1.1 (bs [97])).bind fun r2=>jn (fun(a3:Bool)=>some a3) fun j4=>(zdh (bs [49,50,51,52,53,54,55,56,57])).bind fun r5=>bf (decide (r5=3808858755)) (bf (decide (r1.2=0)) (bf (decide (r2.2=0)) (j4 (strEq r2.1 (bs [120]))) (j4 false)) (j4 false)) (j4 false)
def z4j (p0:Int)(p1:Int):Option Int:=
 some (if p0<p1 then p1 else p0)
def z3f (p1:List Time):Option Time:=
 outK (z0n (S:=Time) (R:=Empty) (fun i1 (a2:Time)=>jn (fun(a4:Time)=>(z4j a4.epoch ((p1.getD i1 zzd).epoch)).bind fun r6=>outK (z0n (S:=Time) (R:=Empty) (fun i7 (a8:Time)=>(match i7 with|0=>(z4j a8.loop.1 ((p1.getD i1 zzd).loop.1)).bind fun r10=>some (.next (⟨a8.epoch,(r10,a8.loop.2)⟩:Time))|_=>(z4j a8.loop.2 ((p1.getD i1 zzd).loop.2)).bind fun r11=>some (.next (⟨a8.epoch,(a8.loop.1,r11)⟩:Time)))) 2 0 (⟨r6,a4.loop⟩:Time)) (fun(a9:Time)=>some (.next a9)) (fun(x:Empty)=>x.elim)) fun j5=>bf (decide (((i1:Nat):Int)=0)) (j5 (p1.getD i1 zzd)) (j5 a2)) p1.length 0 (⟨0,(0,0)⟩:Time)) (fun(a3:Time)=>some a3) (fun(x:Empty)=>x.elim)
def z6l (p0:List Time):Option Time:=
 (z3f p0).bind fun r1=>some r1
def z47 (p0:ByteArray):Option (Int×ByteArray×Int):=
 need (p0.size≤maxN)<|outK (z0n (S:=Int) (R:=Int×ByteArray×Int) (fun i1 (a2:Int)=>jn (fun(a4:Bool)=>bf a4 (some (.ret (0,(bs []),4))) (need ((0:Int)≤(zzi.wrap ((7:Int)*((i1:Nat):Int))))<|bf (decide ((bt p0 ((i1:Nat):Int))<128)) (need ((0:Int)≤(zzi.wrap (((i1:Nat):Int)+1))∧(zzi.wrap (((i1:Nat):Int)+1))≤(p0.size:Int)∧(p0.size:Int)≤(p0.size:Int))<|some (.ret ((z09 .or .u64 a2 (shlOp .u64 (zzu.wrap (z09 .and .u8 (bt p0 ((i1:Nat):Int)) 127)) (zzi.wrap ((7:Int)*((i1:Nat):Int))))),(p0.extract ((zzi.wrap (((i1:Nat):Int)+1)).toNat) p0.size),0))) (some (.next (z09 .or .u64 a2 (shlOp .u64 (zzu.wrap (z09 .and .u8 (bt p0 ((i1:Nat):Int)) 127)) (zzi.wrap ((7:Int)*((i1:Nat):Int))))))))) fun j5=>bf (decide (0<((i1:Nat):Int))) (bf (decide ((bt p0 ((i1:Nat):Int))=0)) (j5 true) (bf (decide (((i1:Nat):Int)=9)) (j5 (decide (1<(bt p0 ((i1:Nat):Int))))) (j5 false))) (bf (decide (((i1:Nat):Int)=9)) (j5 (decide (1<(bt p0 ((i1:Nat):Int))))) (j5 false))) p0.size 0 0) (fun(a3:Int)=>some (0,(bs []),3)) (fun x=>some x)
def z1u (p1:ByteArray)(p2:Int)(l0:Taker):Option Taker:=
 bf l0.bad (some (⟨p1,true⟩:Taker)) (some (⟨p1,(!decide (p2=0))⟩:Taker))
def z2y (l0:Taker):Option (Int×Taker):=
 (z47 l0.left).bind fun r1=>(z1u r1.2.1 r1.2.2 l0).bind fun r2=>some (r1.1,r2)
def z36 (l0:Taker):Option (Int×Taker):=
 bf (strEq l0.left (bs [])) (some (0,(⟨l0.left,true⟩:Taker))) (need ((0:Int)≤0∧0<(l0.left.size:Int))<|need ((0:Int)≤1∧(1:Int)≤(l0.left.size:Int)∧(l0.left.size:Int)≤(l0.left.size:Int))<|some ((bt l0.left 0),(⟨(l0.left.extract 1 l0.left.size),l0.bad⟩:Taker)))
def z4k (p0:ByteArray):Option (Int×ByteArray×Int):=
 (z47 p0).bind fun r1=>some ((z09 .xor .i64 (zzi.wrap (shrOp .u64 r1.1 1)) (zzi.wrap (0-(zzi.wrap (z09 .and .u64 r1.1 1))))),r1.2.1,r1.2.2)
def z29 (l0:Taker):Option (Int×Taker):=
 (z4k l0.left).bind fun r1=>(z1u r1.2.1 r1.2.2 l0).bind fun r2=>some (r1.1,r2)
def z58 (p0:ByteArray):Option (ByteArray×ByteArray×Int):=
 (z47 p0).bind fun r1=>jn (fun(a2:Int)=>jn (fun(a4:Int)=>bf (!decide (a4=0)) (some ((bs []),(bs []),a4)) (need ((0:Int)≤0∧(0:Int)≤r1.1∧r1.1≤(r1.2.1.size:Int))<|need ((0:Int)≤r1.1∧r1.1≤(r1.2.1.size:Int)∧(r1.2.1.size:Int)≤(r1.2.1.size:Int))<|some ((r1.2.1.extract 0 r1.1.toNat),(r1.2.1.extract r1.1.toNat r1.2.1.size),0))) fun j5=>jn (fun(a8:Bool)=>bf a8 (j5 3) (j5 a2)) fun j9=>bf (decide (a2=0)) (j9 (decide ((zzu.wrap (r1.2.1.size:Int))<r1.1))) (j9 false)) fun j3=>jn (fun(a10:Bool)=>bf a10 (j3 2) (j3 r1.2.2)) fun j11=>bf (decide (r1.2.2=0)) (j11 (decide (65536<r1.1))) (j11 false)
def z37 (l0:Taker):Option (ByteArray×Taker):=
 (z58 l0.left).bind fun r1=>(z1u r1.2.1 r1.2.2 l0).bind fun r2=>some (r1.1,r2)
def z2e (l0:Taker):Option (Value×Taker):=
 (z36 l0).bind fun r1=>bf (decide (r1.1=0)) ((z29 r1.2).bind fun r2=>some ((⟨false,r2.1,(bs [])⟩:Value),r2.2)) (bf (decide (r1.1=1)) ((z37 r1.2).bind fun r3=>jn (fun(a4:Taker)=>some ((⟨true,0,r3.1⟩:Value),a4)) fun j5=>bf r3.2.bad (j5 (⟨r3.2.left,true⟩:Taker)) ((z6b (⟨true,0,r3.1⟩:Value)).bind fun r6=>j5 (⟨r3.2.left,(!r6)⟩:Taker))) (some ((⟨false,0,(bs [])⟩:Value),(⟨r1.2.left,true⟩:Taker))))
def z2d (l0:List Value)(l3:Taker):Option ((List Value)×Taker):=
 (z2e l3).bind fun r1=>need (l0.length+([r1.1]:List Value).length≤274877906944)<|some ((l0++([r1.1]:List Value)),r1.2)
def z1h (fuel:Nat)(p1:Int)(l0:Taker)(l1:List Value):Option (Taker×(List Value)):=
 (z2y l0).bind fun r1=>jn (fun(a2:Taker)=>outK (loopN (S:=Int×Taker×(List Value)) (R:=Empty) (fun(a4:Int×Taker×(List Value))=>jn (fun(a6:Bool)=>bf a6 ((z2d a4.2.2 a4.2.1).bind fun r8=>some (.next ((zzu.wrap (a4.1-1)),r8.2,r8.1))) (some (.brk (a4.1,a4.2.1,a4.2.2)))) fun j7=>bf (decide (0<a4.1)) (j7 (!a4.2.1.bad)) (j7 false)) fuel (r1.1,a2,l1)) (fun(a5:Int×Taker×(List Value))=>some (a5.2.1,a5.2.2)) (fun(x:Empty)=>x.elim)) fun j3=>bf r1.2.bad (j3 (⟨r1.2.left,true⟩:Taker)) (j3 (⟨r1.2.left,(decide (p1<r1.1))⟩:Taker))
def z3k (fuel:Nat)(l0:Taker):Option ((List Value)×Taker):=
 (z1h fuel 8 l0 ([]:List Value)).bind fun r1=>some (r1.2,r1.1)
def z6q (fuel:Nat)(p0:ByteArray):Option ((List Value)×ByteArray×Int):=
 (z3k fuel (⟨p0,false⟩:Taker)).bind fun r1=>bf r1.2.bad (some (([]:List Value),(bs []),4)) (some (r1.1,r1.2.left,0))
def z67 (p0:Int):Option Bool:=
 some (!decide (p0=p0))
def z5f (p0:Int)(p1:Int):Option Int:=
 (z67 p0).bind fun r1=>(z67 p1).bind fun r2=>bf r1 (bf r2 (some 0) (some (-1))) (bf r2 (some 1) (bf (decide (p0<p1)) (some (-1)) (bf (decide (p1<p0)) (some 1) (some 0))))
def z5g (p0:Int):Option Bool:=
 some (!decide (p0=p0))
def z4n (p0:Int)(p1:Int):Option Int:=
 (z5g p0).bind fun r1=>(z5g p1).bind fun r2=>bf r1 (bf r2 (some 0) (some (-1))) (bf r2 (some 1) (bf (decide (p0<p1)) (some (-1)) (bf (decide (p1<p0)) (some 1) (some 0))))
def z69 (p0:Value)(p1:Value):Option Int:=
 bf (!(p0.isText==p1.isText)) ((value_mark p0).bind fun r1=>(value_mark p1).bind fun r2=>(z5f r1 r2).bind fun r3=>some r3) (bf p0.isText ((z3b p0.s p1.s).bind fun r4=>some r4) ((z4n p0.n p1.n).bind fun r5=>some r5))
def z0a (p0:List Value)(p1:List Value):Option Int:=
 outK (z0n (S:=Unit) (R:=Int) (fun i1 (a2:Unit)=>bf (decide ((p1.length:Int)≤((i1:Nat):Int))) (some (.ret 1)) (need ((0:Int)≤((i1:Nat):Int)∧((i1:Nat):Int)<(p1.length:Int))<|(z69 (p0.getD i1 zzd) (p1.getD i1 zzd)).bind fun r5=>bf (!decide (r5=0)) (some (.ret r5)) (some (.next ())))) p0.length 0 ()) (fun(a3:Unit)=>bf (decide ((p0.length:Int)<(p1.length:Int))) (some (-1)) (some 0)) (fun x=>some x)
def z6p (p0:List Value)(p1:List Value):Option Int:=
 (z0a p0 p1).bind fun r1=>some r1
def z50 (p0:Time)(p1:Time):Option Bool:=
 (z6l ([p0,p1]:List Time)).bind fun r1=>some (z6x r1 p1)
def z1m (p0:List Time):Option (List Time):=
 need (p0.length≤274877906944)<|some p0
def z57 (p0:Int):Option Int:=
 (z4i p0).bind fun r1=>some r1
def z4x (p0:Int):Option Bool:=
 some (!decide (p0=p0))
def z2r (p0:Int)(p1:Int):Option Int:=
 (z4x p0).bind fun r1=>(z4x p1).bind fun r2=>bf r1 (bf r2 (some 0) (some (-1))) (bf r2 (some 1) (bf (decide (p0<p1)) (some (-1)) (bf (decide (p1<p0)) (some 1) (some 0))))
def z1v (p0:List Int)(p1:List Int):Option Int:=
 outK (z0n (S:=Unit) (R:=Int) (fun i1 (a2:Unit)=>bf (decide ((p1.length:Int)≤((i1:Nat):Int))) (some (.ret 1)) (need ((0:Int)≤((i1:Nat):Int)∧((i1:Nat):Int)<(p1.length:Int))<|(z2r (p0.getD i1 zzd) (p1.getD i1 zzd)).bind fun r5=>bf (!decide (r5=0)) (some (.ret r5)) (some (.next ())))) p0.length 0 ()) (fun(a3:Unit)=>bf (decide ((p0.length:Int)<(p1.length:Int))) (some (-1)) (some 0)) (fun x=>some x)
def z7k (p0:List Int):Option Int:=
 outK (z0n (S:=Unit) (R:=Int) (fun i1 (a2:Unit)=>bf (!decide ((p0.getD i1 zzd)=0)) (some (.ret (p0.getD i1 zzd))) (some (.next ()))) p0.length 0 ()) (fun(a3:Unit)=>some 0) (fun x=>some x)
def z0z (p0:Time)(p1:Time):Option Int:=
 bf (decide (p0.loop.1=p1.loop.1) && (decide (p0.loop.2=p1.loop.2) && true)) ((z2r p0.epoch p1.epoch).bind fun r1=>some r1) ((z2r p0.epoch p1.epoch).bind fun r2=>(z1v ([p0.loop.1,p0.loop.2]:List Int) ([p1.loop.1,p1.loop.2]:List Int)).bind fun r3=>(z7k ([r2,r3]:List Int)).bind fun r4=>some r4)
def z12 (fuel:Nat)(p1:Int)(p2:Int)(l0:List Time):Option (List Time):=
 outK (loopN (S:=Int×(List Time)) (R:=Empty) (fun(a1:Int×(List Time))=>bf (decide (a1.1<p2)) (outK (loopN (S:=Int×(List Time)) (R:=Empty) (fun(a3:Int×(List Time))=>jn (fun(a5:Bool)=>bf a5 (need ((0:Int)≤(zzi.wrap (a3.1-1))∧(zzi.wrap (a3.1-1))<(a3.2.length:Int))<|need ((0+(zzi.wrap (a3.1-1)).toNat)<a3.2.length)<|need ((0:Int)≤a3.1∧a3.1<(a3.2.length:Int))<|need ((0+a3.1.toNat)<a3.2.length)<|need ((0:Int)≤a3.1∧a3.1<(a3.2.length:Int))<|need ((0+a3.1.toNat)<a3.2.length)<|need ((0:Int)≤(zzi.wrap (a3.1-1))∧(zzi.wrap (a3.1-1))<(a3.2.length:Int))<|need ((0+(zzi.wrap (a3.1-1)).toNat)<(a3.2.set (0+a3.1.toNat) (a3.2.getD (0+(zzi.wrap (a3.1-1)).toNat) zzd)).length)<|some (.next ((zzi.wrap (a3.1-1)),((a3.2.set (0+a3.1.toNat) (a3.2.getD (0+(zzi.wrap (a3.1-1)).toNat) zzd)).set (0+(zzi.wrap (a3.1-1)).toNat) (a3.2.getD (0+a3.1.toNat) zzd))))) (some (.brk (a3.1,a3.2)))) fun j6=>bf (decide (p1<a3.1)) (need ((0:Int)≤a3.1∧a3.1<(a3.2.length:Int))<|need ((0+a3.1.toNat)<a3.2.length)<|need ((0:Int)≤(zzi.wrap (a3.1-1))∧(zzi.wrap (a3.1-1))<(a3.2.length:Int))<|need ((0+(zzi.wrap (a3.1-1)).toNat)<a3.2.length)<|(z0z (a3.2.getD (0+a3.1.toNat) zzd) (a3.2.getD (0+(zzi.wrap (a3.1-1)).toNat) zzd)).bind fun r20=>j6 (decide (r20<0))) (j6 false)) fuel (a1.1,a1.2)) (fun(a4:Int×(List Time))=>some (.next ((zzi.wrap (a1.1+1)),a4.2))) (fun(x:Empty)=>x.elim)) (some (.brk (a1.1,a1.2)))) fuel ((zzi.wrap (p1+1)),l0)) (fun(a2:Int×(List Time))=>some a2.2) (fun(x:Empty)=>x.elim)
def z1g (fuel:Nat)(p1:Int)(p2:Int)(p3:Int)(l0:List Time):Option (List Time):=
 outK (loopN (S:=Int×(List Time)) (R:=List Time) (fun(a1:Int×(List Time))=>bf (decide (p2≤(zzi.wrap ((zzi.wrap ((2:Int)*a1.1))+1)))) (some (.brk (a1.1,a1.2))) (jn (fun(a3:Int)=>need ((0:Int)≤(zzi.wrap (p3+a1.1))∧(zzi.wrap (p3+a1.1))<(a1.2.length:Int))<|need ((0+(zzi.wrap (p3+a1.1)).toNat)<a1.2.length)<|need ((0:Int)≤(zzi.wrap (p3+a3))∧(zzi.wrap (p3+a3))<(a1.2.length:Int))<|need ((0+(zzi.wrap (p3+a3)).toNat)<a1.2.length)<|(z0z (a1.2.getD (0+(zzi.wrap (p3+a1.1)).toNat) zzd) (a1.2.getD (0+(zzi.wrap (p3+a3)).toNat) zzd)).bind fun r9=>bf (!(decide (r9<0))) (some (.ret a1.2)) (need ((0:Int)≤(zzi.wrap (p3+a3))∧(zzi.wrap (p3+a3))<(a1.2.length:Int))<|need ((0+(zzi.wrap (p3+a3)).toNat)<a1.2.length)<|need ((0:Int)≤(zzi.wrap (p3+a1.1))∧(zzi.wrap (p3+a1.1))<(a1.2.length:Int))<|need ((0+(zzi.wrap (p3+a1.1)).toNat)<a1.2.length)<|need ((0:Int)≤(zzi.wrap (p3+a1.1))∧(zzi.wrap (p3+a1.1))<(a1.2.length:Int))<|need ((0+(zzi.wrap (p3+a1.1)).toNat)<a1.2.length)<|need ((0:Int)≤(zzi.wrap (p3+a3))∧(zzi.wrap (p3+a3))<(a1.2.length:Int))<|need ((0+(zzi.wrap (p3+a3)).toNat)<(a1.2.set (0+(zzi.wrap (p3+a1.1)).toNat) (a1.2.getD (0+(zzi.wrap (p3+a3)).toNat) zzd)).length)<|some (.next (a3,((a1.2.set (0+(zzi.wrap (p3+a1.1)).toNat) (a1.2.getD (0+(zzi.wrap (p3+a3)).toNat) zzd)).set (0+(zzi.wrap (p3+a3)).toNat) (a1.2.getD (0+(zzi.wrap (p3+a1.1)).toNat) zzd)))))) fun j4=>jn (fun(a18:Int×Bool)=>bf a18.2 (j4 (zzi.wrap (a18.1+1))) (j4 a18.1)) fun j19=>bf (decide ((zzi.wrap ((zzi.wrap ((zzi.wrap ((2:Int)*a1.1))+1))+1))<p2)) (need ((0:Int)≤(zzi.wrap (p3+(zzi.wrap ((zzi.wrap ((2:Int)*a1.1))+1))))∧(zzi.wrap (p3+(zzi.wrap ((zzi.wrap ((2:Int)*a1.1))+1))))<(a1.2.length:Int))<|need ((0+(zzi.wrap (p3+(zzi.wrap ((zzi.wrap ((2:Int)*a1.1))+1)))).toNat)<a1.2.length)<|need ((0:Int)≤(zzi.wrap ((zzi.wrap (p3+(zzi.wrap ((zzi.wrap ((2:Int)*a1.1))+1))))+1))∧(zzi.wrap ((zzi.wrap (p3+(zzi.wrap ((zzi.wrap ((2:Int)*a1.1))+1))))+1))<(a1.2.length:Int))<|need ((0+(zzi.wrap ((zzi.wrap (p3+(zzi.wrap ((zzi.wrap ((2:Int)*a1.1))+1))))+1)).toNat)<a1.2.length)<|(z0z (a1.2.getD (0+(zzi.wrap (p3+(zzi.wrap ((zzi.wrap ((2:Int)*a1.1))+1)))).toNat) zzd) (a1.2.getD (0+(zzi.wrap ((zzi.wrap (p3+(zzi.wrap ((zzi.wrap ((2:Int)*a1.1))+1))))+1)).toNat) zzd)).bind fun r25=>j19 ((zzi.wrap ((zzi.wrap ((2:Int)*a1.1))+1)),(decide (r25<0)))) (j19 ((zzi.wrap ((zzi.wrap ((2:Int)*a1.1))+1)),false)))) fuel (p1,l0)) (fun(a2:Int×(List Time))=>some a2.2) (fun x=>some x)
def z1f (fuel:Nat)(p1:Int)(p2:Int)(l0:List Time):Option (List Time):=
 outK (loopN (S:=Int×(List Time)) (R:=Empty) (fun(a1:Int×(List Time))=>bf (decide (0≤a1.1)) ((z1g fuel a1.1 (zzi.wrap (p2-p1)) p1 a1.2).bind fun r15=>need (r15.length=a1.2.length)<|some (.next ((zzi.wrap (a1.1-1)),r15))) (some (.brk (a1.1,a1.2)))) fuel ((zzi.wrap ((zzi.wrap ((zzi.wrap (p2-p1))-1)).tdiv 2)),l0)) (fun(a2:Int×(List Time))=>outK (loopN (S:=Int×(List Time)) (R:=Empty) (fun(a3:Int×(List Time))=>bf (decide (0≤a3.1)) (need ((0:Int)≤(zzi.wrap (p1+a3.1))∧(zzi.wrap (p1+a3.1))<(a3.2.length:Int))<|need ((0+(zzi.wrap (p1+a3.1)).toNat)<a3.2.length)<|need ((0:Int)≤p1∧p1<(a3.2.length:Int))<|need ((0+p1.toNat)<a3.2.length)<|need ((0:Int)≤p1∧p1<(a3.2.length:Int))<|need ((0+p1.toNat)<a3.2.length)<|need ((0:Int)≤(zzi.wrap (p1+a3.1))∧(zzi.wrap (p1+a3.1))<(a3.2.length:Int))<|need ((0+(zzi.wrap (p1+a3.1)).toNat)<(a3.2.set (0+p1.toNat) (a3.2.getD (0+(zzi.wrap (p1+a3.1)).toNat) zzd)).length)<|(z1g fuel 0 a3.1 p1 ((a3.2.set (0+p1.toNat) (a3.2.getD (0+(zzi.wrap (p1+a3.1)).toNat) zzd)).set (0+(zzi.wrap (p1+a3.1)).toNat) (a3.2.getD (0+p1.toNat) zzd))).bind fun r13=>need (r13.length=((a3.2.set (0+p1.toNat) (a3.2.getD (0+(zzi.wrap (p1+a3.1)).toNat) zzd)).set (0+(zzi.wrap (p1+a3.1)).toNat) (a3.2.getD (0+p1.toNat) zzd)).length)<|some (.next ((zzi.wrap (a3.1-1)),r13))) (some (.brk (a3.1,a3.2)))) fuel ((zzi.wrap ((zzi.wrap (p2-p1))-1)),a2.2)) (fun(a4:Int×(List Time))=>some a4.2) (fun(x:Empty)=>x.elim)) (fun(x:Empty)=>x.elim)
def z18 (p0:List Time)(p1:Int)(p2:Int)(l0:Int):Option (Int×Int×Int):=
 need ((0:Int)≤p2∧p2<(p0.length:Int))<|need ((0:Int)≤p1∧p1<(p0.length:Int))<|(z0z (p0.getD p2.toNat zzd) (p0.getD p1.toNat zzd)).bind fun r3=>bf (decide (r3<0)) (some (p2,p1,(zzi.wrap (l0+1)))) (some (p1,p2,l0))
def z17 (p0:List Time)(p1:Int)(p2:Int)(p3:Int)(l0:Int):Option (Int×Int):=
 (z18 p0 p1 p2 l0).bind fun r1=>(z18 p0 r1.2.1 p3 r1.2.2).bind fun r2=>(z18 p0 r1.1 r2.1 r2.2.2).bind fun r3=>some (r3.2.1,r3.2.2)
def z0c (p0:List Time)(p1:Int)(l0:Int):Option (Int×Int):=
 (z17 p0 (zzi.wrap (p1-1)) p1 (zzi.wrap (p1+1)) l0).bind fun r1=>some (r1.1,r1.2)
def z1c (p0:List Time)(p1:Int)(p2:Int):Option (Int×Int):=
 jn (fun(a1:Int×Int)=>bf (decide (a1.2=0)) (some (a1.1,1)) (bf (decide (a1.2=12)) (some (a1.1,2)) (some (a1.1,0)))) fun j2=>bf (decide (8≤(zzi.wrap (p2-p1)))) (jn (fun(a3:Int×Int×Int×Int)=>(z17 p0 a3.1 a3.2.1 a3.2.2.1 a3.2.2.2).bind fun r5=>j2 (r5.1,r5.2)) fun j4=>bf (decide (50≤(zzi.wrap (p2-p1)))) ((z0c p0 (zzi.wrap (p1+(zzi.wrap ((zzi.wrap ((zzi.wrap (p2-p1)).tdiv 4))*1)))) 0).bind fun r6=>(z0c p0 (zzi.wrap (p1+(zzi.wrap ((zzi.wrap ((zzi.wrap (p2-p1)).tdiv 4))*2)))) r6.2).bind fun r7=>(z0c p0 (zzi.wrap (p1+(zzi.wrap ((zzi.wrap ((zzi.wrap (p2-p1)).tdiv 4))*3)))) r7.2).bind fun r8=>j4 (r6.1,r7.1,r8.1,r8.2)) (j4 ((zzi.wrap (p1+(zzi.wrap ((zzi.wrap ((zzi.wrap (p2-p1)).tdiv 4))*1)))),(zzi.wrap (p1+(zzi.wrap ((zzi.wrap ((zzi.wrap (p2-p1)).tdiv 4))*2)))),(zzi.wrap (p1+(zzi.wrap ((zzi.wrap ((zzi.wrap (p2-p1)).tdiv 4))*3)))),0))) (j2 ((zzi.wrap (p1+(zzi.wrap ((zzi.wrap ((zzi.wrap (p2-p1)).tdiv 4))*2)))),0))
def z16 (fuel:Nat)(p1:Int)(p2:Int)(l0:List Time):Option (List Time):=
 outK (loopN (S:=Int×Int×(List Time)) (R:=Empty) (fun(a1:Int×Int×(List Time))=>bf (decide (a1.1<a1.2.1)) (need ((0:Int)≤a1.2.1∧a1.2.1<(a1.2.2.length:Int))<|need ((0+a1.2.1.toNat)<a1.2.2.length)<|need ((0:Int)≤a1.1∧a1.1<(a1.2.2.length:Int))<|need ((0+a1.1.toNat)<a1.2.2.length)<|need ((0:Int)≤a1.1∧a1.1<(a1.2.2.length:Int))<|need ((0+a1.1.toNat)<a1.2.2.length)<|need ((0:Int)≤a1.2.1∧a1.2.1<(a1.2.2.length:Int))<|need ((0+a1.2.1.toNat)<(a1.2.2.set (0+a1.1.toNat) (a1.2.2.getD (0+a1.2.1.toNat) zzd)).length)<|some (.next ((zzi.wrap (a1.1+1)),(zzi.wrap (a1.2.1-1)),((a1.2.2.set (0+a1.1.toNat) (a1.2.2.getD (0+a1.2.1.toNat) zzd)).set (0+a1.2.1.toNat) (a1.2.2.getD (0+a1.1.toNat) zzd))))) (some (.brk (a1.1,a1.2.1,a1.2.2)))) fuel (p1,(zzi.wrap (p2-1)),l0)) (fun(a2:Int×Int×(List Time))=>some a2.2.2) (fun(x:Empty)=>x.elim)
def z0h (fuel:Nat)(p1:Int)(p2:Int)(l0:List Time):Option (Bool×(List Time)):=
 outK (loopN (S:=Int×Int×(List Time)) (R:=Bool×(List Time)) (fun(a1:Int×Int×(List Time))=>bf (decide (a1.2.1<5)) (jn (fun(a3:Int×(List Time))=>some (.next (a3.1,(zzi.wrap (a1.2.1+1)),a3.2))) fun j4=>outK (loopN (S:=Int) (R:=Empty) (fun(a5:Int)=>jn (fun(a47:Bool)=>bf a47 (some (.next (zzi.wrap (a5+1)))) (some (.brk a5))) fun j48=>bf (decide (a5<p2)) (need ((0:Int)≤a5∧a5<(a1.2.2.length:Int))<|need ((0+a5.toNat)<a1.2.2.length)<|need ((0:Int)≤(zzi.wrap (a5-1))∧(zzi.wrap (a5-1))<(a1.2.2.length:Int))<|need ((0+(zzi.wrap (a5-1)).toNat)<a1.2.2.length)<|(z0z (a1.2.2.getD (0+a5.toNat) zzd) (a1.2.2.getD (0+(zzi.wrap (a5-1)).toNat) zzd)).bind fun r54=>j48 (!(decide (r54<0)))) (j48 false)) fuel a1.1) (fun(a6:Int)=>bf (decide (a6=p2)) (some (.ret (true,a1.2.2))) (bf (decide ((zzi.wrap (p2-p1))<50)) (some (.ret (false,a1.2.2))) (need ((0:Int)≤(zzi.wrap (a6-1))∧(zzi.wrap (a6-1))<(a1.2.2.length:Int))<|need ((0+(zzi.wrap (a6-1)).toNat)<a1.2.2.length)<|need ((0:Int)≤a6∧a6<(a1.2.2.length:Int))<|need ((0+a6.toNat)<a1.2.2.length)<|need ((0:Int)≤a6∧a6<(a1.2.2.length:Int))<|need ((0+a6.toNat)<a1.2.2.length)<|need ((0:Int)≤(zzi.wrap (a6-1))∧(zzi.wrap (a6-1))<(a1.2.2.length:Int))<|need ((0+(zzi.wrap (a6-1)).toNat)<(a1.2.2.set (0+a6.toNat) (a1.2.2.getD (0+(zzi.wrap (a6-1)).toNat) zzd)).length)<|jn (fun(a15:List Time)=>bf (decide (2≤(zzi.wrap (p2-a6)))) (outK (loopN (S:=Int×(List Time)) (R:=Empty) (fun(a17:Int×(List Time))=>bf (decide (a17.1<p2)) (need ((0:Int)≤a17.1∧a17.1<(a17.2.length:Int))<|need ((0+a17.1.toNat)<a17.2.length)<|need ((0:Int)≤(zzi.wrap (a17.1-1))∧(zzi.wrap (a17.1-1))<(a17.2.length:Int))<|need ((0+(zzi.wrap (a17.1-1)).toNat)<a17.2.length)<|(z0z (a17.2.getD (0+a17.1.toNat) zzd) (a17.2.getD (0+(zzi.wrap (a17.1-1)).toNat) zzd)).bind fun r23=>bf (!(decide (r23<0))) (some (.brk (a17.1,a17.2))) (need ((0:Int)≤(zzi.wrap (a17.1-1))∧(zzi.wrap (a17.1-1))<(a17.2.length:Int))<|need ((0+(zzi.wrap (a17.1-1)).toNat)<a17.2.length)<|need ((0:Int)≤a17.1∧a17.1<(a17.2.length:Int))<|need ((0+a17.1.toNat)<a17.2.length)<|need ((0:Int)≤a17.1∧a17.1<(a17.2.length:Int))<|need ((0+a17.1.toNat)<a17.2.length)<|need ((0:Int)≤(zzi.wrap (a17.1-1))∧(zzi.wrap (a17.1-1))<(a17.2.length:Int))<|need ((0+(zzi.wrap (a17.1-1)).toNat)<(a17.2.set (0+a17.1.toNat) (a17.2.getD (0+(zzi.wrap (a17.1-1)).toNat) zzd)).length)<|some (.next ((zzi.wrap (a17.1+1)),((a17.2.set (0+a17.1.toNat) (a17.2.getD (0+(zzi.wrap (a17.1-1)).toNat) zzd)).set (0+(zzi.wrap (a17.1-1)).toNat) (a17.2.getD (0+a17.1.toNat) zzd)))))) (some (.brk (a17.1,a17.2)))) fuel ((zzi.wrap (a6+1)),a15)) (fun(a18:Int×(List Time))=>j4 (a6,a18.2)) (fun(x:Empty)=>x.elim)) (j4 (a6,a15))) fun j16=>bf (decide (2≤(zzi.wrap (a6-p1)))) (outK (loopN (S:=Int×(List Time)) (R:=Empty) (fun(a32:Int×(List Time))=>bf (decide (1≤a32.1)) (need ((0:Int)≤a32.1∧a32.1<(a32.2.length:Int))<|need ((0+a32.1.toNat)<a32.2.length)<|need ((0:Int)≤(zzi.wrap (a32.1-1))∧(zzi.wrap (a32.1-1))<(a32.2.length:Int))<|need ((0+(zzi.wrap (a32.1-1)).toNat)<a32.2.length)<|(z0z (a32.2.getD (0+a32.1.toNat) zzd) (a32.2.getD (0+(zzi.wrap (a32.1-1)).toNat) zzd)).bind fun r38=>bf (!(decide (r38<0))) (some (.brk (a32.1,a32.2))) (need ((0:Int)≤(zzi.wrap (a32.1-1))∧(zzi.wrap (a32.1-1))<(a32.2.length:Int))<|need ((0+(zzi.wrap (a32.1-1)).toNat)<a32.2.length)<|need ((0:Int)≤a32.1∧a32.1<(a32.2.length:Int))<|need ((0+a32.1.toNat)<a32.2.length)<|need ((0:Int)≤a32.1∧a32.1<(a32.2.length:Int))<|need ((0+a32.1.toNat)<a32.2.length)<|need ((0:Int)≤(zzi.wrap (a32.1-1))∧(zzi.wrap (a32.1-1))<(a32.2.length:Int))<|need ((0+(zzi.wrap (a32.1-1)).toNat)<(a32.2.set (0+a32.1.toNat) (a32.2.getD (0+(zzi.wrap (a32.1-1)).toNat) zzd)).length)<|some (.next ((zzi.wrap (a32.1-1)),((a32.2.set (0+a32.1.toNat) (a32.2.getD (0+(zzi.wrap (a32.1-1)).toNat) zzd)).set (0+(zzi.wrap (a32.1-1)).toNat) (a32.2.getD (0+a32.1.toNat) zzd)))))) (some (.brk (a32.1,a32.2)))) fuel ((zzi.wrap (a6-1)),((a1.2.2.set (0+a6.toNat) (a1.2.2.getD (0+(zzi.wrap (a6-1)).toNat) zzd)).set (0+(zzi.wrap (a6-1)).toNat) (a1.2.2.getD (0+a6.toNat) zzd)))) (fun(a33:Int×(List Time))=>j16 a33.2) (fun(x:Empty)=>x.elim)) (j16 ((a1.2.2.set (0+a6.toNat) (a1.2.2.getD (0+(zzi.wrap (a6-1)).toNat) zzd)).set (0+(zzi.wrap (a6-1)).toNat) (a1.2.2.getD (0+a6.toNat) zzd)))))) (fun(x:Empty)=>x.elim)) (some (.brk (a1.1,a1.2.1,a1.2.2)))) fuel ((zzi.wrap (p1+1)),0,l0)) (fun(a2:Int×Int×(List Time))=>some (false,a2.2.2)) (fun x=>some x)
def z10 (fuel:Nat)(p1:Int)(p2:Int)(p3:Int)(l0:List Time):Option (Int×(List Time)):=
 need ((0:Int)≤p3∧p3<(l0.length:Int))<|need ((0+p3.toNat)<l0.length)<|need ((0:Int)≤p1∧p1<(l0.length:Int))<|need ((0+p1.toNat)<l0.length)<|need ((0:Int)≤p1∧p1<(l0.length:Int))<|need ((0+p1.toNat)<l0.length)<|need ((0:Int)≤p3∧p3<(l0.length:Int))<|need ((0+p3.toNat)<(l0.set (0+p1.toNat) (l0.getD (0+p3.toNat) zzd)).length)<|outK (loopN (S:=Int×Int×(List Time)) (R:=Empty) (fun(a9:Int×Int×(List Time))=>outK (loopN (S:=Int) (R:=Empty) (fun(a11:Int)=>jn (fun(a31:Bool)=>bf a31 (some (.next (zzi.wrap (a11+1)))) (some (.brk a11))) fun j32=>bf (decide (a11≤a9.2.1)) (need ((0:Int)≤p1∧p1<(a9.2.2.length:Int))<|need ((0+p1.toNat)<a9.2.2.length)<|need ((0:Int)≤a11∧a11<(a9.2.2.length:Int))<|need ((0+a11.toNat)<a9.2.2.length)<|(z0z (a9.2.2.getD (0+p1.toNat) zzd) (a9.2.2.getD (0+a11.toNat) zzd)).bind fun r38=>j32 (!(decide (r38<0)))) (j32 false)) fuel a9.1) (fun(a12:Int)=>outK (loopN (S:=Int) (R:=Empty) (fun(a13:Int)=>jn (fun(a23:Bool)=>bf a23 (some (.next (zzi.wrap (a13-1)))) (some (.brk a13))) fun j24=>bf (decide (a12≤a13)) (need ((0:Int)≤p1∧p1<(a9.2.2.length:Int))<|need ((0+p1.toNat)<a9.2.2.length)<|need ((0:Int)≤a13∧a13<(a9.2.2.length:Int))<|need ((0+a13.toNat)<a9.2.2.length)<|(z0z (a9.2.2.getD (0+p1.toNat) zzd) (a9.2.2.getD (0+a13.toNat) zzd)).bind fun r30=>j24 (decide (r30<0))) (j24 false)) fuel a9.2.1) (fun(a14:Int)=>bf (decide (a14<a12)) (some (.brk (a12,a14,a9.2.2))) (need ((0:Int)≤a14∧a14<(a9.2.2.length:Int))<|need ((0+a14.toNat)<a9.2.2.length)<|need ((0:Int)≤a12∧a12<(a9.2.2.length:Int))<|need ((0+a12.toNat)<a9.2.2.length)<|need ((0:Int)≤a12∧a12<(a9.2.2.length:Int))<|need ((0+a12.toNat)<a9.2.2.length)<|need ((0:Int)≤a14∧a14<(a9.2.2.length:Int))<|need ((0+a14.toNat)<(a9.2.2.set (0+a12.toNat) (a9.2.2.getD (0+a14.toNat) zzd)).length)<|some (.next ((zzi.wrap (a12+1)),(zzi.wrap (a14-1)),((a9.2.2.set (0+a12.toNat) (a9.2.2.getD (0+a14.toNat) zzd)).set (0+a14.toNat) (a9.2.2.getD (0+a12.toNat) zzd)))))) (fun(x:Empty)=>x.elim)) (fun(x:Empty)=>x.elim)) fuel ((zzi.wrap (p1+1)),(zzi.wrap (p2-1)),((l0.set (0+p1.toNat) (l0.getD (0+p3.toNat) zzd)).set (0+p3.toNat) (l0.getD (0+p1.toNat) zzd)))) (fun(a10:Int×Int×(List Time))=>some (a10.1,a10.2.2)) (fun(x:Empty)=>x.elim)
def z1d (fuel:Nat)(p1:Int)(p2:Int)(p3:Int)(l0:List Time):Option (Int×Bool×(List Time)):=
 need ((0:Int)≤p3∧p3<(l0.length:Int))<|need ((0+p3.toNat)<l0.length)<|need ((0:Int)≤p1∧p1<(l0.length:Int))<|need ((0+p1.toNat)<l0.length)<|need ((0:Int)≤p1∧p1<(l0.length:Int))<|need ((0+p1.toNat)<l0.length)<|need ((0:Int)≤p3∧p3<(l0.length:Int))<|need ((0+p3.toNat)<(l0.set (0+p1.toNat) (l0.getD (0+p3.toNat) zzd)).length)<|outK (loopN (S:=Int×Int) (R:=Empty) (fun(a9:Int×Int)=>jn (fun(a75:Bool)=>bf a75 (some (.next ((zzi.wrap (a9.1+1)),a9.2))) (some (.brk (a9.1,a9.2)))) fun j76=>bf (decide (a9.1≤a9.2)) (need ((0:Int)≤a9.1∧a9.1<(((l0.set (0+p1.toNat) (l0.getD (0+p3.toNat) zzd)).set (0+p3.toNat) (l0.getD (0+p1.toNat) zzd)).length:Int))<|need ((0+a9.1.toNat)<((l0.set (0+p1.toNat) (l0.getD (0+p3.toNat) zzd)).set (0+p3.toNat) (l0.getD (0+p1.toNat) zzd)).length)<|need ((0:Int)≤p1∧p1<(((l0.set (0+p1.toNat) (l0.getD (0+p3.toNat) zzd)).set (0+p3.toNat) (l0.getD (0+p1.toNat) zzd)).length:Int))<|need ((0+p1.toNat)<((l0.set (0+p1.toNat) (l0.getD (0+p3.toNat) zzd)).set (0+p3.toNat) (l0.getD (0+p1.toNat) zzd)).length)<|(z0z (((l0.set (0+p1.toNat) (l0.getD (0+p3.toNat) zzd)).set (0+p3.toNat) (l0.getD (0+p1.toNat) zzd)).getD (0+a9.1.toNat) zzd) (((l0.set (0+p1.toNat) (l0.getD (0+p3.toNat) zzd)).set (0+p3.toNat) (l0.getD (0+p1.toNat) zzd)).getD (0+p1.toNat) zzd)).bind fun r82=>j76 (decide (r82<0))) (j76 false)) fuel ((zzi.wrap (p1+1)),(zzi.wrap (p2-1)))) (fun(a10:Int×Int)=>outK (loopN (S:=Int) (R:=Empty) (fun(a11:Int)=>jn (fun(a67:Bool)=>bf a67 (some (.next (zzi.wrap (a11-1)))) (some (.brk a11))) fun j68=>bf (decide (a10.1≤a11)) (need ((0:Int)≤a11∧a11<(((l0.set (0+p1.toNat) (l0.getD (0+p3.toNat) zzd)).set (0+p3.toNat) (l0.getD (0+p1.toNat) zzd)).length:Int))<|need ((0+a11.toNat)<((l0.set (0+p1.toNat) (l0.getD (0+p3.toNat) zzd)).set (0+p3.toNat) (l0.getD (0+p1.toNat) zzd)).length)<|need ((0:Int)≤p1∧p1<(((l0.set (0+p1.toNat) (l0.getD (0+p3.toNat) zzd)).set (0+p3.toNat) (l0.getD (0+p1.toNat) zzd)).length:Int))<|need ((0+p1.toNat)<((l0.set (0+p1.toNat) (l0.getD (0+p3.toNat) zzd)).set (0+p3.toNat) (l0.getD (0+p1.toNat) zzd)).length)<|(z0z (((l0.set (0+p1.toNat) (l0.getD (0+p3.toNat) zzd)).set (0+p3.toNat) (l0.getD (0+p1.toNat) zzd)).getD (0+a11.toNat) zzd) (((l0.set (0+p1.toNat) (l0.getD (0+p3.toNat) zzd)).set (0+p3.toNat) (l0.getD (0+p1.toNat) zzd)).getD (0+p1.toNat) zzd)).bind fun r74=>j68 (!(decide (r74<0)))) (j68 false)) fuel a10.2) (fun(a12:Int)=>bf (decide (a12<a10.1)) (need ((0:Int)≤p1∧p1<(((l0.set (0+p1.toNat) (l0.getD (0+p3.toNat) zzd)).set (0+p3.toNat) (l0.getD (0+p1.toNat) zzd)).length:Int))<|need ((0+p1.toNat)<((l0.set (0+p1.toNat) (l0.getD (0+p3.toNat) zzd)).set (0+p3.toNat) (l0.getD (0+p1.toNat) zzd)).length)<|need ((0:Int)≤a12∧a12<(((l0.set (0+p1.toNat) (l0.getD (0+p3.toNat) zzd)).set (0+p3.toNat) (l0.getD (0+p1.toNat) zzd)).length:Int))<|need ((0+a12.toNat)<((l0.set (0+p1.toNat) (l0.getD (0+p3.toNat) zzd)).set (0+p3.toNat) (l0.getD (0+p1.toNat) zzd)).length)<|need ((0:Int)≤a12∧a12<(((l0.set (0+p1.toNat) (l0.getD (0+p3.toNat) zzd)).set (0+p3.toNat) (l0.getD (0+p1.toNat) zzd)).length:Int))<|need ((0+a12.toNat)<((l0.set (0+p1.toNat) (l0.getD (0+p3.toNat) zzd)).set (0+p3.toNat) (l0.getD (0+p1.toNat) zzd)).length)<|need ((0:Int)≤p1∧p1<(((l0.set (0+p1.toNat) (l0.getD (0+p3.toNat) zzd)).set (0+p3.toNat) (l0.getD (0+p1.toNat) zzd)).length:Int))<|need ((0+p1.toNat)<(((l0.set (0+p1.toNat) (l0.getD (0+p3.toNat) zzd)).set (0+p3.toNat) (l0.getD (0+p1.toNat) zzd)).set (0+a12.toNat) (((l0.set (0+p1.toNat) (l0.getD (0+p3.toNat) zzd)).set (0+p3.toNat) (l0.getD (0+p1.toNat) zzd)).getD (0+p1.toNat) zzd)).length)<|some (a12,true,((((l0.set (0+p1.toNat) (l0.getD (0+p3.toNat) zzd)).set (0+p3.toNat) (l0.getD (0+p1.toNat) zzd)).set (0+a12.toNat) (((l0.set (0+p1.toNat) (l0.getD (0+p3.toNat) zzd)).set (0+p3.toNat) (l0.getD (0+p1.toNat) zzd)).getD (0+p1.toNat) zzd)).set (0+p1.toNat) (((l0.set (0+p1.toNat) (l0.getD (0+p3.toNat) zzd)).set (0+p3.toNat) (l0.getD (0+p1.toNat) zzd)).getD (0+a12.toNat) zzd)))) (need ((0:Int)≤a12∧a12<(((l0.set (0+p1.toNat) (l0.getD (0+p3.toNat) zzd)).set (0+p3.toNat) (l0.getD (0+p1.toNat) zzd)).length:Int))<|need ((0+a12.toNat)<((l0.set (0+p1.toNat) (l0.getD (0+p3.toNat) zzd)).set (0+p3.toNat) (l0.getD (0+p1.toNat) zzd)).length)<|need ((0:Int)≤a10.1∧a10.1<(((l0.set (0+p1.toNat) (l0.getD (0+p3.toNat) zzd)).set (0+p3.toNat) (l0.getD (0+p1.toNat) zzd)).length:Int))<|need ((0+a10.1.toNat)<((l0.set (0+p1.toNat) (l0.getD (0+p3.toNat) zzd)).set (0+p3.toNat) (l0.getD (0+p1.toNat) zzd)).length)<|need ((0:Int)≤a10.1∧a10.1<(((l0.set (0+p1.toNat) (l0.getD (0+p3.toNat) zzd)).set (0+p3.toNat) (l0.getD (0+p1.toNat) zzd)).length:Int))<|need ((0+a10.1.toNat)<((l0.set (0+p1.toNat) (l0.getD (0+p3.toNat) zzd)).set (0+p3.toNat) (l0.getD (0+p1.toNat) zzd)).length)<|need ((0:Int)≤a12∧a12<(((l0.set (0+p1.toNat) (l0.getD (0+p3.toNat) zzd)).set (0+p3.toNat) (l0.getD (0+p1.toNat) zzd)).length:Int))<|need ((0+a12.toNat)<(((l0.set (0+p1.toNat) (l0.getD (0+p3.toNat) zzd)).set (0+p3.toNat) (l0.getD (0+p1.toNat) zzd)).set (0+a10.1.toNat) (((l0.set (0+p1.toNat) (l0.getD (0+p3.toNat) zzd)).set (0+p3.toNat) (l0.getD (0+p1.toNat) zzd)).getD (0+a12.toNat) zzd)).length)<|outK (loopN (S:=Int×Int×(List Time)) (R:=Empty) (fun(a29:Int×Int×(List Time))=>outK (loopN (S:=Int) (R:=Empty) (fun(a39:Int)=>jn (fun(a59:Bool)=>bf a59 (some (.next (zzi.wrap (a39+1)))) (some (.brk a39))) fun j60=>bf (decide (a39≤a29.2.1)) (need ((0:Int)≤a39∧a39<(a29.2.2.length:Int))<|need ((0+a39.toNat)<a29.2.2.length)<|need ((0:Int)≤p1∧p1<(a29.2.2.length:Int))<|need ((0+p1.toNat)<a29.2.2.length)<|(z0z (a29.2.2.getD (0+a39.toNat) zzd) (a29.2.2.getD (0+p1.toNat) zzd)).bind fun r66=>j60 (decide (r66<0))) (j60 false)) fuel a29.1) (fun(a40:Int)=>outK (loopN (S:=Int) (R:=Empty) (fun(a41:Int)=>jn (fun(a51:Bool)=>bf a51 (some (.next (zzi.wrap (a41-1)))) (some (.brk a41))) fun j52=>bf (decide (a40≤a41)) (need ((0:Int)≤a41∧a41<(a29.2.2.length:Int))<|need ((0+a41.toNat)<a29.2.2.length)<|need ((0:Int)≤p1∧p1<(a29.2.2.length:Int))<|need ((0+p1.toNat)<a29.2.2.length)<|(z0z (a29.2.2.getD (0+a41.toNat) zzd) (a29.2.2.getD (0+p1.toNat) zzd)).bind fun r58=>j52 (!(decide (r58<0)))) (j52 false)) fuel a29.2.1) (fun(a42:Int)=>bf (decide (a42<a40)) (some (.brk (a40,a42,a29.2.2))) (need ((0:Int)≤a42∧a42<(a29.2.2.length:Int))<|need ((0+a42.toNat)<a29.2.2.length)<|need ((0:Int)≤a40∧a40<(a29.2.2.length:Int))<|need ((0+a40.toNat)<a29.2.2.length)<|need ((0:Int)≤a40∧a40<(a29.2.2.length:Int))<|need ((0+a40.toNat)<a29.2.2.length)<|need ((0:Int)≤a42∧a42<(a29.2.2.length:Int))<|need ((0+a42.toNat)<(a29.2.2.set (0+a40.toNat) (a29.2.2.getD (0+a42.toNat) zzd)).length)<|some (.next ((zzi.wrap (a40+1)),(zzi.wrap (a42-1)),((a29.2.2.set (0+a40.toNat) (a29.2.2.getD (0+a42.toNat) zzd)).set (0+a42.toNat) (a29.2.2.getD (0+a40.toNat) zzd)))))) (fun(x:Empty)=>x.elim)) (fun(x:Empty)=>x.elim)) fuel ((zzi.wrap (a10.1+1)),(zzi.wrap (a12-1)),((((l0.set (0+p1.toNat) (l0.getD (0+p3.toNat) zzd)).set (0+p3.toNat) (l0.getD (0+p1.toNat) zzd)).set (0+a10.1.toNat) (((l0.set (0+p1.toNat) (l0.getD (0+p3.toNat) zzd)).set (0+p3.toNat) (l0.getD (0+p1.toNat) zzd)).getD (0+a12.toNat) zzd)).set (0+a12.toNat) (((l0.set (0+p1.toNat) (l0.getD (0+p3.toNat) zzd)).set (0+p3.toNat) (l0.getD (0+p1.toNat) zzd)).getD (0+a10.1.toNat) zzd)))) (fun(a30:Int×Int×(List Time))=>need ((0:Int)≤p1∧p1<(a30.2.2.length:Int))<|need ((0+p1.toNat)<a30.2.2.length)<|need ((0:Int)≤a30.2.1∧a30.2.1<(a30.2.2.length:Int))<|need ((0+a30.2.1.toNat)<a30.2.2.length)<|need ((0:Int)≤a30.2.1∧a30.2.1<(a30.2.2.length:Int))<|need ((0+a30.2.1.toNat)<a30.2.2.length)<|need ((0:Int)≤p1∧p1<(a30.2.2.length:Int))<|need ((0+p1.toNat)<(a30.2.2.set (0+a30.2.1.toNat) (a30.2.2.getD (0+p1.toNat) zzd)).length)<|some (a30.2.1,false,((a30.2.2.set (0+a30.2.1.toNat) (a30.2.2.getD (0+p1.toNat) zzd)).set (0+p1.toNat) (a30.2.2.getD (0+a30.2.1.toNat) zzd)))) (fun(x:Empty)=>x.elim))) (fun(x:Empty)=>x.elim)) (fun(x:Empty)=>x.elim)
def z3i (p0:Int):Option Int:=
 (z57 (zzu.wrap p0)).bind fun r1=>need ((0:Int)≤r1)<|some (shlOp .u64 (1:Int) r1)
def z33 (l0:Int):Option (Int×Int):=
 some ((z09 .xor .u64 (z09 .xor .u64 (z09 .xor .u64 l0 (shlOp .u64 l0 13)) (shrOp .u64 (z09 .xor .u64 l0 (shlOp .u64 l0 13)) 7)) (shlOp .u64 (z09 .xor .u64 (z09 .xor .u64 l0 (shlOp .u64 l0 13)) (shrOp .u64 (z09 .xor .u64 l0 (shlOp .u64 l0 13)) 7)) 17)),(z09 .xor .u64 (z09 .xor .u64 (z09 .xor .u64 l0 (shlOp .u64 l0 13)) (shrOp .u64 (z09 .xor .u64 l0 (shlOp .u64 l0 13)) 7)) (shlOp .u64 (z09 .xor .u64 (z09 .xor .u64 l0 (shlOp .u64 l0 13)) (shrOp .u64 (z09 .xor .u64 l0 (shlOp .u64 l0 13)) 7)) 17)))
def z11 (fuel:Nat)(p1:Int)(p2:Int)(l0:List Time):Option (List Time):=
 bf (decide (8≤(zzi.wrap (p2-p1)))) ((z3i (zzi.wrap (p2-p1))).bind fun r1=>outK (loopN (S:=Int×Int×Int×(List Time)) (R:=Empty) (fun(a2:Int×Int×Int×(List Time))=>bf (decide (a2.2.1≤(zzi.wrap ((zzi.wrap (p1+(zzi.wrap ((zzi.wrap (a2.1.tdiv 4))*2))))+1)))) ((z33 a2.2.2.1).bind fun r4=>jn (fun(a5:Int)=>need ((0:Int)≤(zzi.wrap (p1+a5))∧(zzi.wrap (p1+a5))<(a2.2.2.2.length:Int))<|need ((0+(zzi.wrap (p1+a5)).toNat)<a2.2.2.2.length)<|need ((0:Int)≤a2.2.1∧a2.2.1<(a2.2.2.2.length:Int))<|need ((0+a2.2.1.toNat)<a2.2.2.2.length)<|need ((0:Int)≤a2.2.1∧a2.2.1<(a2.2.2.2.length:Int))<|need ((0+a2.2.1.toNat)<a2.2.2.2.length)<|need ((0:Int)≤(zzi.wrap (p1+a5))∧(zzi.wrap (p1+a5))<(a2.2.2.2.length:Int))<|need ((0+(zzi.wrap (p1+a5)).toNat)<(a2.2.2.2.set (0+a2.2.1.toNat) (a2.2.2.2.getD (0+(zzi.wrap (p1+a5)).toNat) zzd)).length)<|some (.next (a2.1,(zzi.wrap (a2.2.1+1)),r4.2,((a2.2.2.2.set (0+a2.2.1.toNat) (a2.2.2.2.getD (0+(zzi.wrap (p1+a5)).toNat) zzd)).set (0+(zzi.wrap (p1+a5)).toNat) (a2.2.2.2.getD (0+a2.2.1.toNat) zzd))))) fun j6=>bf (decide (a2.1≤(zzi.wrap (z09 .and .u64 r4.1 (zzu.wrap (r1-1)))))) (j6 (zzi.wrap ((zzi.wrap (z09 .and .u64 r4.1 (zzu.wrap (r1-1))))-a2.1))) (j6 (zzi.wrap (z09 .and .u64 r4.1 (zzu.wrap (r1-1)))))) (some (.brk (a2.1,a2.2.1,a2.2.2.1,a2.2.2.2)))) fuel ((zzi.wrap (p2-p1)),(zzi.wrap ((zzi.wrap (p1+(zzi.wrap ((zzi.wrap ((zzi.wrap (p2-p1)).tdiv 4))*2))))-1)),(zzu.wrap (zzi.wrap (p2-p1))),l0)) (fun(a3:Int×Int×Int×(List Time))=>some a3.2.2.2) (fun(x:Empty)=>x.elim)) (some l0)
def z0g:Nat→Int→Int→Int→(List Time)→Option (List Time)
 |0,_,_,_,_=>none
 |fuel+1,p1,p2,p3,l0=>
 outK (loopN (S:=Int×Int×Int×Bool×Bool×(List Time)) (R:=List Time) (fun(a1:Int×Int×Int×Bool×Bool×(List Time))=>bf (decide ((zzi.wrap (a1.2.1-a1.1))≤12)) ((z12 fuel a1.1 a1.2.1 a1.2.2.2.2.2).bind fun r3=>some (.ret r3)) (bf (decide (a1.2.2.1=0)) ((z1f fuel a1.1 a1.2.1 a1.2.2.2.2.2).bind fun r4=>some (.ret r4)) (jn (fun(a5:Int×Int×(List Time))=>(z1c a5.2.2 a1.1 a1.2.1).bind fun r7=>jn (fun(a8:Int×Int×(List Time))=>jn (fun(a10:Bool×Bool×(List Time))=>jn (fun(a12:Bool)=>bf a12 ((z10 fuel a1.1 a1.2.1 a8.1 a10.2.2).bind fun r14=>need (r14.2.length=a10.2.2.length)<|some (.next (r14.1,a1.2.1,a5.1,a10.1,a10.2.1,r14.2))) ((z1d fuel a1.1 a1.2.1 a8.1 a10.2.2).bind fun r16=>need (r16.2.2.length=a10.2.2.length)<|bf (decide ((zzi.wrap (r16.1-a1.1))<(zzi.wrap (a1.2.1-r16.1)))) ((z0g fuel a1.1 r16.1 a5.1 r16.2.2).bind fun r18=>need (r18.length=r16.2.2.length)<|some (.next ((zzi.wrap (r16.1+1)),a1.2.1,a5.1,(decide ((zzi.wrap (a5.2.1.tdiv 8))≤(zzi.wrap (r16.1-a1.1)))),r16.2.1,r18))) ((z0g fuel (zzi.wrap (r16.1+1)) a1.2.1 a5.1 r16.2.2).bind fun r20=>need (r20.length=r16.2.2.length)<|some (.next (a1.1,r16.1,a5.1,(decide ((zzi.wrap (a5.2.1.tdiv 8))≤(zzi.wrap (a1.2.1-r16.1)))),r16.2.1,r20))))) fun j13=>bf (decide (0<a1.1)) (need ((0:Int)≤(zzi.wrap (a1.1-1))∧(zzi.wrap (a1.1-1))<(a10.2.2.length:Int))<|need ((0+(zzi.wrap (a1.1-1)).toNat)<a10.2.2.length)<|need ((0:Int)≤a8.1∧a8.1<(a10.2.2.length:Int))<|need ((0+a8.1.toNat)<a10.2.2.length)<|(z0z (a10.2.2.getD (0+(zzi.wrap (a1.1-1)).toNat) zzd) (a10.2.2.getD (0+a8.1.toNat) zzd)).bind fun r27=>j13 (!(decide (r27<0)))) (j13 false)) fun j11=>jn (fun(a28:Bool×Bool×Bool)=>bf a28.2.2 ((z0h fuel a1.1 a1.2.1 a8.2.2).bind fun r30=>need (r30.2.length=a8.2.2.length)<|bf r30.1 (some (.ret r30.2)) (j11 (a28.1,a28.2.1,r30.2))) (j11 (a28.1,a28.2.1,a8.2.2))) fun j29=>bf a1.2.2.2.1 (bf a1.2.2.2.2.1 (j29 (true,true,(decide (a8.2.1=1)))) (j29 (true,false,false))) (j29 (false,a1.2.2.2.2.1,false))) fun j9=>bf (decide (r7.2=2)) ((z16 fuel a1.1 a1.2.1 a5.2.2).bind fun r32=>need (r32.length=a5.2.2.length)<|j9 ((zzi.wrap ((zzi.wrap (a1.2.1-1))-(zzi.wrap (r7.1-a1.1)))),1,r32)) (j9 (r7.1,r7.2,a5.2.2))) fun j6=>bf (!a1.2.2.2.1) ((z11 fuel a1.1 a1.2.1 a1.2.2.2.2.2).bind fun r34=>need (r34.length=a1.2.2.2.2.2.length)<|j6 ((zzi.wrap (a1.2.2.1-1)),(zzi.wrap (a1.2.1-a1.1)),r34)) (j6 (a1.2.2.1,(zzi.wrap (a1.2.1-a1.1)),a1.2.2.2.2.2))))) fuel (p1,p2,p3,true,true,l0)) (fun(a2:Int×Int×Int×Bool×Bool×(List Time))=>none) (fun x=>some x)
def z0j (fuel:Nat)(l0:List Time):Option (List Time):=
 (z57 (zzu.wrap (l0.length:Int))).bind fun r1=>(z0g fuel 0 (l0.length:Int) r1 l0).bind fun r2=>some r2
def z5i (p0:Time)(p1:Time):Option Bool:=
 (z50 p0 p1).bind fun r1=>some r1
def z0e (p0:List Time)(p1_0:Time):Option Int:=
 outK (z0n (S:=Unit) (R:=Int) (fun i1 (a2:Unit)=>(z5i (p0.getD i1 zzd) p1_0).bind fun r4=>bf r4 (some (.ret ((i1:Nat):Int))) (some (.next ()))) p0.length 0 ()) (fun(a3:Unit)=>some (-1)) (fun x=>some x)
def z0d (p0:List Time)(p1_0:Time):Option Bool:=
 (z0e p0 p1_0).bind fun r1=>some (decide (0≤r1))
def z38 (p0:List Time)(p1:Time):Option Bool:=
 (z0d p0 p1).bind fun r1=>some r1
def z5z (fuel:Nat)(p0:List Time):Option (List Time):=
 (z1m p0).bind fun r1=>(z0j fuel r1).bind fun r2=>need (r2.length=r1.length)<|outK (z0n (S:=List Time) (R:=Empty) (fun i4 (a5:List Time)=>need ((0+i4)<r2.length)<|(z38 a5 (r2.getD (0+i4) zzd)).bind fun r8=>bf (!r8) (need (a5.length+([(r2.getD (0+i4) zzd)]:List Time).length≤274877906944)<|some (.next (a5++([(r2.getD (0+i4) zzd)]:List Time)))) (some (.next a5))) r2.length 0 ([]:List Time)) (fun(a6:List Time)=>some a6) (fun(x:Empty)=>x.elim)
def z3c (fuel:Nat)(p0:List (List Value))(p1:List Time):Option Bool:=
 (z5s fuel).bind fun r1=>bf (!r1) (some false) (outK (z0n (S:=ByteArray×(List (List Value))×(List Time)) (R:=Empty) (fun i2 (a3:ByteArray×(List (List Value))×(List Time))=>(z6i (p0.getD i2 zzd)).bind fun r24=>jn (fun(a25:Bool)=>bf a25 (some (.brk (a3.1,a3.2.1,a3.2.2))) (need (((a3.1.size+r24.1.size:Nat):Int)≤9223372036854775807)<|need (a3.2.1.length+([(p0.getD i2 zzd)]:List (List Value)).length≤274877906944)<|need ((0:Int)≤((i2:Nat):Int)∧((i2:Nat):Int)<(p1.length:Int))<|need (a3.2.2.length+([(p1.getD i2 zzd)]:List Time).length≤274877906944)<|some (.next ((a3.1++r24.1),(a3.2.1++([(p0.getD i2 zzd)]:List (List Value))),(a3.2.2++([(p1.getD i2 zzd)]:List Time)))))) fun j26=>bf (decide (((i2:Nat):Int)=40)) (j26 true) (bf (decide ((p1.length:Int)≤((i2:Nat):Int))) (j26 true) (j26 (!decide (r24.2=0))))) p0.length 0 ((bs []),([]:List (List Value)),([]:List Time))) (fun(a4:ByteArray×(List (List Value))×(List Time))=>(z6l a4.2.2).bind fun r5=>outK (z0n (S:=ByteArray) (R:=Bool) (fun i6 (a7:ByteArray)=>need ((0+i6)<a4.2.1.length)<|(z6q fuel a7).bind fun r10=>jn (fun(a11:Bool)=>bf a11 (some (.ret false)) (some (.next r10.2.1))) fun j12=>bf (!decide (r10.2.2=0)) (j12 true) ((z6p r10.1 (a4.2.1.getD (0+i6) zzd)).bind fun r14=>bf (!decide (r14=0)) (j12 true) (need ((0:Int)≤((i6:Nat):Int)∧((i6:Nat):Int)<(a4.2.2.length:Int))<|need ((0+i6)<a4.2.2.length)<|(z50 (a4.2.2.getD (0+i6) zzd) r5).bind fun r18=>bf (!r18) (j12 true) ((z5z fuel a4.2.2).bind fun r20=>need ((0:Int)≤((i6:Nat):Int)∧((i6:Nat):Int)<(a4.2.2.length:Int))<|need ((0+i6)<a4.2.2.length)<|(z38 r20 (a4.2.2.getD (0+i6) zzd)).bind fun r23=>j12 (!r23))))) a4.2.1.length 0 a4.1) (fun(a8:ByteArray)=>some (strEq a8 (bs []))) (fun x=>some x)) (fun(x:Empty)=>x.elim))
end Go.Av
/-
 Av,part Z:contracts of the library,as contracts here.
-/
namespace Go.Av
open Go Go.Shelf Go.RowKit Go.Proofs
theorem zbs {P:Program}{f:FuncId}{args:List AV}{res:AV}(he: ∀args w,(callFunc f args).run P w= .ok (.enter f args) w)
 (h: ∀(G:Nat→Prop) (φ:Nat→Option Loc) (w:World) (vs:List Go.Value),(∀b,G b→b<w.heap.size)→z1l (RelC G (fun b=>b<w.heap.size) φ w) args vs→
  Calls P f vs.toArray w fun e w'=> ∃v,e= .returned v∧RelAV (RelC G (fun _=>False) φ w') res v∧Below w.heap.size w w'):Summ P f args [] res []:=by
 intro G φ w vs hG hsl hargs;have hb0: ∀b,¬Blks φ [] b:=fun b ⟨k,c,l,hk,_⟩=>by cases hk
 have hV:(fun b=>b<w.heap.size∧ ¬Blks φ [] b)=(fun b=>b<w.heap.size):=by
  funext b;exact propext ⟨fun h=>h.1,fun h=>⟨h,hb0 b⟩⟩
 rw[hV]at hargs;unfold Acts;rw[he];simp only;refine(h G φ w vs hG hargs).mono fun e w' ⟨v,h1,h2,h3⟩=>⟨v,G,φ,h1,?_⟩;exact
 {up:=fun _ h=>h
  fr:=fun _ h=> .inl h
  sz:=fun b hb=>Nat.lt_of_lt_of_le (hG b hb) h3.size
  rel:=h2
  slots:=⟨(fun _ _ h=>by cases h),(fun _ _ _ _ _ _ h=>by cases h),(fun _ _ _ h=>by cases h)⟩
  blk:=fun _ _ _ h=>by cases h
  kp:=⟨h3.os,h3.tape,h3.output,h3.size,fun b hb _=>h3.block b hb⟩
  fix:=fun _ _ _ h=>by cases h}
theorem zel {P:Program}{ρ:Ren}(L:Lays.n156 P ρ)(X:Builder.Extra P ρ){xs:List ByteArray}{sep q:ByteArray}(h:strings_Join xs sep=some q):
 Summ P (ρ.f 156) [.c (.view 1 xs.length (fun i=>z1b (xs.getD i zzd))),.c (.d (.str sep))] [] (.c (.d (.str q))) []:=by
 unfold strings_Join at h;obtain⟨⟨h1,h2⟩,h⟩:=z03 h;cases h;refine zbs (Go.Proofs.enters_of L.f156 (by kernel_rfl) rfl) fun G φ w vs hG hargs=>?_
 match vs,hargs with
 |[a,b],⟨ha,hb,_⟩=>
  have hb:RelD G w (.str sep) b:=hb.1;cases hb;rcases ha.1 with⟨h0,A,cap,rfl⟩|⟨blk,off,cap,hblk,rfl,hc,hm,he⟩
  ·obtain rfl:=List.eq_nil_of_length_eq_zero h0;exact(Go.Proofs.Any.strings_Join_none L X A cap sep w).mono fun e w' ⟨h3,h4⟩=>by
    subst h4;exact⟨_,h3,⟨RelD.str _,rfl⟩,Below.refl _ _⟩
  ·refine(Go.Proofs.Any.strings_Join L X blk off cap xs sep w (fun j x hj=>?_) ?_ h1 hc h2).mono fun e w' ⟨h3,h4⟩=>⟨_,h3,⟨RelD.str _,rfl⟩,h4⟩
   ·obtain⟨hlt,hx⟩:=List.getElem?_eq_some_iff.1 hj;obtain⟨g1,g2⟩:=he j hlt;obtain⟨u,hu,hr⟩:=g2 0 (by rw[g1];exact Nat.one_pos);rw[Nat.mul_one,Nat.add_zero]at hu;rw[hu];have:xs.getD j zzd=x:=by rw[List.getD_eq_getElem?_getD,hj];rfl
    have hr:RelD G w (.str (xs.getD j zzd)) u:=hr;rw[this]at hr;cases hr;rfl
   ·rcases hblk with h5|h5
    ·exact hG _ h5
    ·exact h5
end Go.Av
set_option maxRecDepth 100000
namespace Go.Proofs
open Go.Shelf
shelf_lay Lays.n156 Nm 156 at Tryz as Tryz.lays156
theorem Tryz.extra156:Builder.Extra Tryz.prog Tryz.lays156_ren where
 sizeBuilder:=by kernel_rfl
 liesBuilder:=by kernel_rfl
 t5:=Tryz.underlying5
 a5:=Tryz.isAgg5
 z5:=Tryz.sizeOf5
 v5:=Tryz.zeroValue5
 infoByte:=by kernel_rfl
 cellsByte:=by kernel_rfl
 sizeByte:=by kernel_rfl
 neB5:=by decide
end Go.Proofs
namespace Go.Av
theorem zl7 {xs:List ByteArray}{sep q:ByteArray}(h:strings_Join xs sep=some q):
 Summ Go.Proofs.Tryz.prog 72 [.c (.view 1 xs.length (fun i=>z1b (xs.getD i zzd))),.c (.d (.str sep))] [] (.c (.d (.str q))) []:=
 zel Go.Proofs.Tryz.lays156 Go.Proofs.Tryz.extra156 h
end Go.Av
set_option maxRecDepth 100000
namespace Go.Proofs
open Go.Shelf
def rhoB:Ren:=⟨fun n=>match Nat.beq n 167 with|true=>18|false=>Tryz.lays156_ren.f n,Tryz.lays156_ren.t,Tryz.lays156_ren.g⟩
theorem zki:Lays.n166 Tryz.prog Tryz.lays156_ren:={Tryz.lays156 with}
theorem zkk:Lays.n169 Tryz.prog Tryz.lays156_ren:={Tryz.lays156 with}
theorem zkj:Lays.n167 Tryz.prog rhoB:={Tryz.lays156 with f167:=by kernel_rfl,f240:=by kernel_rfl,f276:=by kernel_rfl,t5:=Tryz.underlying5,a5:=Tryz.isAgg5,z5:=Tryz.sizeOf5,v5:=Tryz.zeroValue5}
theorem zlz:Builder.Extra Tryz.prog rhoB:={Tryz.extra156 with}
open Go.RowKit in
theorem z92 (B b:Nat)(bs:List Value)(c:Int)(w:World)(h:Lib.IsBuilderF 57 5 B b bs w)(hlen:bs.length+1≤140737488355328)(hBw:B≤w.heap.size):
 Calls Tryz.prog 18 #[.pointer (some ⟨b,0,none⟩),.int .u8 c] w fun e w'=>e= .returned .nilIface∧(Lib.BuilderAtF 57 5 B b (.pointer (some ⟨b,0,none⟩)) (bs++[.int .u8 c]) w'∧Below B w w'∧Lib.OthersKept 5 (some b) w w'):=Any.Builder_WriteByte_k zkj zlz B b bs c w h hlen hBw
open Go.RowKit in
theorem z5c (B b:Nat)(bs:List Value)(s:ByteArray)(w:World)(h:Lib.IsBuilderF 57 5 B b bs w)(hlen:bs.length+s.size≤140737488355328)(hBw:B≤w.heap.size):
 Calls Tryz.prog 16 #[.pointer (some ⟨b,0,none⟩),.string s] w fun e w'=>e= .returned (.tuple #[.int .i64 s.size,.nilIface])∧(Lib.BuilderAtF 57 5 B b (.pointer (some ⟨b,0,none⟩)) (bs++Lib.strCells s) w'∧Below B w w'∧Lib.OthersKept 5 (some b) w w'):=Any.Builder_WriteString_k zki Tryz.extra156 B b bs s w h hlen hBw
open Go.RowKit in
theorem zba (B b:Nat)(l:List UInt8)(w:World)(h:Lib.IsBuilderF 57 5 B b (Lib.byteCells l) w)(hBw:B≤w.heap.size):
 Calls Tryz.prog 22 #[.pointer (some ⟨b,0,none⟩)] w fun e w'=>e= .returned (.string ⟨l.toArray⟩)∧(Lib.IsBuilderF 57 5 B b (Lib.byteCells l) w'∧Below B w w'∧Lib.OthersKept 5 (some b) w w'):=Any.Builder_String_any_k zkk Tryz.extra156 B b l w h hBw
end Go.Proofs
namespace Go.Av
open Go Go.Proofs
theorem z8d {p0:Int}{q:Int}(h:z4i p0=some q):
 Summ Tryz.prog 43 [cD (dU p0)] [] (cD (dI q)) []:=by
 refine Summ.i Tryz.func43 rfl [] fun w0 G0 V LL φ0=>?_;unfold z4i at h;refine Tri.sg [0,2] [] (z00 1) ?_;refine z0f (fun(a1:Int×Int)=>⟨[(0,cD (dU a1.1)),(2,cD (dI a1.2))],[]⟩) h (fun a1 h=>?_) (fun j2 h=>?_)
 ·refine z0f (fun(a3:Int×Int)=>⟨[(0,cD (dU a3.1)),(2,cD (dI a3.2))],[]⟩) h (fun a3 h=>?_) (fun j4 h=>?_)
  ·refine z0f (fun(a5:Int×Int)=>⟨[(0,cD (dU a5.1)),(2,cD (dI a5.2))],[]⟩) h (fun a5 h=>?_) (fun j6 h=>?_)
   ·obtain⟨hc7,h⟩:=z03 h;refine Tri.sg [2] [] (tN 3 (ai hc7 (z00 3))) ?_;refine Tri.ret ?_;cases h;exact RetAt.k
   ·refine Tri.sg [0,2,14] [] (z00 2) ?_;refine z06 h (fun h=>?_) (fun h=>?_)
    ·refine Tri.sg [0,2] [] (tN 1 (ai (show((0:Int)≤8)from(by decide:(0:Int)≤8)) (z00 1))) ?_;refine z05 ?_;refine At.sg 3 [0,2] [] (z00 3) ?_;refine At.done rfl ?_;exact⟨_,h,kr⟩
    ·refine Tri.kp [0,2] [] ?_;refine Tri.skip ?_;exact⟨_,h,kr⟩
  ·refine Tri.sg [0,2,8] [] (z00 2) ?_;refine z06 h (fun h=>?_) (fun h=>?_)
   ·refine Tri.sg [0,2] [] (tN 1 (ai (show((0:Int)≤16)from(by decide:(0:Int)≤16)) (z00 1))) ?_;refine z05 ?_;refine At.sg 3 [0,2] [] (z00 3) ?_;refine At.done rfl ?_;exact⟨_,h,kr⟩
   ·refine Tri.kp [0,2] [] ?_;refine Tri.skip ?_;exact⟨_,h,kr⟩
 ·refine Tri.sg [0,2,4] [] (z00 2) ?_;refine z06 h (fun h=>?_) (fun h=>?_)
  ·refine Tri.sg [0] [] (tN 1 (ai (show((0:Int)≤32)from(by decide:(0:Int)≤32)) (z00 1))) ?_;refine z05 ?_;refine At.sg 1 [0,2] [] (z00 1) ?_;refine At.done rfl ?_;exact⟨_,h,kr⟩
  ·refine Tri.kp [0,2] [] ?_;refine Tri.skip ?_;exact⟨_,h,kr⟩
theorem pack_Count_ok {p0:Int}{q:ByteArray}(h:pack_Count p0=some q):
 Summ Tryz.prog 17 [cD (dU p0)] [] (cD (.str q)) []:=by
 refine Summ.i Tryz.func17 rfl [] fun w0 G0 V LL φ0=>?_;unfold pack_Count at h;refine Tri.sg [0] [] (z00 1) ?_;refine z02 ?_;refine z05 ?_;refine At.sg 1 [0,6] [] (z00 1) ?_;obtain⟨r1,hr1,h⟩:=bind_elim h;refine At.cA [] [cD (dU p0)] (z8d hr1) (.cons (.refl _) .nil) ?_;refine At.sg 4 [0,3] [] (tN 1 (ai (show((7:Int)≠0)from(by decide:(7:Int)≠0)) (z00 2))) ?_;refine At.done rfl ?_;refine z02 ?_;refine z05 ?_;refine At.seg 1 [0,3,11] [] (s':=⟨[(0,cD (dU p0)),(3,cD (dI (if 1<(zzi.wrap ((zzi.wrap (r1+6)).tdiv 7))then(zzi.wrap ((zzi.wrap (r1+6)).tdiv 7))else 1))),(11,cD (dI (if 1<(zzi.wrap ((zzi.wrap (r1+6)).tdiv 7))then(zzi.wrap ((zzi.wrap (r1+6)).tdiv 7))else 1)))],[]⟩) (by kernel_rfl) (z00 1) ?_;obtain⟨hc2,h⟩:=z03 h;refine At.one rfl (zf9 (e:=5) (es:=1) (bs:=1) (n:=(if 1<(zzi.wrap ((zzi.wrap (r1+6)).tdiv 7))then(zzi.wrap ((zzi.wrap (r1+6)).tdiv 7))else 1)) (c:=(if 1<(zzi.wrap ((zzi.wrap (r1+6)).tdiv 7))then(zzi.wrap ((zzi.wrap (r1+6)).tdiv 7))else 1)) (z:=[.d (.int .u8 0)]) (z2c .u8) (0:Int) rfl rfl rfl rfl (by kernel_rfl) rfl rfl rfl (by kernel_rfl) rfl (by kernel_rfl) rfl (.refl _) rfl rfl rfl hc2.1 hc2.2.1 hc2.2.2 rfl) ?_;refine At.sg 1 [0,3,4] [12] (z00 1) ?_;refine At.done rfl ?_;refine z02 ?_;refine z22 [0,3,4,14,15] [12] ⟨[(0,cD (dU p0)),(3,cD (dI (if 1<(zzi.wrap ((zzi.wrap (r1+6)).tdiv 7))then(zzi.wrap ((zzi.wrap (r1+6)).tdiv 7))else 1))),(4,.c (oC 12 1 (List.replicate ((if 1<(zzi.wrap ((zzi.wrap (r1+6)).tdiv 7))then(zzi.wrap ((zzi.wrap (r1+6)).tdiv 7))else 1).toNat) (0:Int)))),(14,cD (dI ((List.replicate ((if 1<(zzi.wrap ((zzi.wrap (r1+6)).tdiv 7))then(zzi.wrap ((zzi.wrap (r1+6)).tdiv 7))else 1).toNat) (0:Int)).length:Int))),(15,cD (dI 0))],[(12,vL 1 (z2c .u8) (List.replicate ((if 1<(zzi.wrap ((zzi.wrap (r1+6)).tdiv 7))then(zzi.wrap ((zzi.wrap (r1+6)).tdiv 7))else 1).toNat) (0:Int)))]⟩ _ (by kernel_rfl) (z00 3) ?_;refine zao (t:=4) rfl rfl (zz9 _) fun hlena4=>?_;refine z2h 15 (List.replicate ((if 1<(zzi.wrap ((zzi.wrap (r1+6)).tdiv 7))then(zzi.wrap ((zzi.wrap (r1+6)).tdiv 7))else 1).toNat) (0:Int)) (fun(x:Empty) s=>False) (fun(a4:List Int)=>⟨[(0,cD (dU p0)),(3,cD (dI (if 1<(zzi.wrap ((zzi.wrap (r1+6)).tdiv 7))then(zzi.wrap ((zzi.wrap (r1+6)).tdiv 7))else 1))),(4,.c (oC 12 1 a4)),(14,cD (dI ((List.replicate ((if 1<(zzi.wrap ((zzi.wrap (r1+6)).tdiv 7))then(zzi.wrap ((zzi.wrap (r1+6)).tdiv 7))else 1).toNat) (0:Int)).length:Int)))],[(12,vL 1 (z2c .u8) a4)]⟩) [15,0,3,4,14] [12] [16,15,0,3,4,14] [12] [0,3,4,14] [12] [15,0,3,4,14] [12] h hlena4 ?_ ?_ ?_
 ·intro i3 a4 c hii3 h;refine Tri.sg [0,3,4,5,14,15] [12] (z00 2) ?_;refine z05 ?_;obtain⟨hc10,h⟩:=z03 h;obtain⟨hc11,h⟩:=z03 h;refine At.seg 9 [0,3,4,14,15,25,26] [12] (s':=⟨[(0,cD (dU p0)),(3,cD (dI (if 1<(zzi.wrap ((zzi.wrap (r1+6)).tdiv 7))then(zzi.wrap ((zzi.wrap (r1+6)).tdiv 7))else 1))),(4,.c (oC 12 1 a4)),(14,cD (dI ((List.replicate ((if 1<(zzi.wrap ((zzi.wrap (r1+6)).tdiv 7))then(zzi.wrap ((zzi.wrap (r1+6)).tdiv 7))else 1).toNat) (0:Int)).length:Int))),(15,cD (dI ((i3:Nat):Int))),(25,cD (.int .u8 (z09 .or .u8 (IntKind.u8.wrap (shrOp .u64 p0 (zzi.wrap ((7:Int)*((i3:Nat):Int))))) 128))),(26,.c (.vptr 12 1 (0+i3) 0))],[(12,vL 1 (z2c .u8) a4)]⟩) (by kernel_rfl) (tN 5 (ai hc10 (tN 2 (ai hc11 trivial)))) ?_;obtain⟨hc12,h⟩:=z03 h;refine At.one rfl (z0p (xs:=[.d (.int .u8 (z09 .or .u8 (IntKind.u8.wrap (shrOp .u64 p0 (zzi.wrap ((7:Int)*((i3:Nat):Int))))) 128))]) (ds:=[.int .u8 (z09 .or .u8 (IntKind.u8.wrap (shrOp .u64 p0 (zzi.wrap ((7:Int)*((i3:Nat):Int))))) 128)]) (z2c .u8) a4 (z09 .or .u8 (IntKind.u8.wrap (shrOp .u64 p0 (zzi.wrap ((7:Int)*((i3:Nat):Int))))) 128) rfl rfl rfl rfl rfl hc12 rfl rfl (.refl _) rfl rfl rfl rfl) ?_;refine At.keep [0,3,4,14,15] [12] (s':=⟨[(0,cD (dU p0)),(3,cD (dI (if 1<(zzi.wrap ((zzi.wrap (r1+6)).tdiv 7))then(zzi.wrap ((zzi.wrap (r1+6)).tdiv 7))else 1))),(4,.c (oC 12 1 a4)),(14,cD (dI ((List.replicate ((if 1<(zzi.wrap ((zzi.wrap (r1+6)).tdiv 7))then(zzi.wrap ((zzi.wrap (r1+6)).tdiv 7))else 1).toNat) (0:Int)).length:Int))),(15,cD (dI ((i3:Nat):Int)))],[(12,vL 1 (z2c .u8) (a4.set (0+i3) (z09 .or .u8 (IntKind.u8.wrap (shrOp .u64 p0 (zzi.wrap ((7:Int)*((i3:Nat):Int))))) 128)))]⟩) (by kernel_rfl) ?_;refine At.eqS (s':=⟨[(0,cD (dU p0)),(3,cD (dI (if 1<(zzi.wrap ((zzi.wrap (r1+6)).tdiv 7))then(zzi.wrap ((zzi.wrap (r1+6)).tdiv 7))else 1))),(4,.c (oC 12 1 (a4.set (0+i3) (z09 .or .u8 (IntKind.u8.wrap (shrOp .u64 p0 (zzi.wrap ((7:Int)*((i3:Nat):Int))))) 128)))),(14,cD (dI ((List.replicate ((if 1<(zzi.wrap ((zzi.wrap (r1+6)).tdiv 7))then(zzi.wrap ((zzi.wrap (r1+6)).tdiv 7))else 1).toNat) (0:Int)).length:Int))),(15,cD (dI ((i3:Nat):Int)))],[(12,vL 1 (z2c .u8) (a4.set (0+i3) (z09 .or .u8 (IntKind.u8.wrap (shrOp .u64 p0 (zzi.wrap ((7:Int)*((i3:Nat):Int))))) 128)))]⟩) (by simp only[oC,vL,zza]) ?_;refine At.keep [15,0,3,4,14] [12] (s':=⟨[(15,cD (dI ((i3:Nat):Int))),(0,cD (dU p0)),(3,cD (dI (if 1<(zzi.wrap ((zzi.wrap (r1+6)).tdiv 7))then(zzi.wrap ((zzi.wrap (r1+6)).tdiv 7))else 1))),(4,.c (oC 12 1 (a4.set (0+i3) (z09 .or .u8 (IntKind.u8.wrap (shrOp .u64 p0 (zzi.wrap ((7:Int)*((i3:Nat):Int))))) 128)))),(14,cD (dI ((List.replicate ((if 1<(zzi.wrap ((zzi.wrap (r1+6)).tdiv 7))then(zzi.wrap ((zzi.wrap (r1+6)).tdiv 7))else 1).toNat) (0:Int)).length:Int)))],[(12,vL 1 (z2c .u8) (a4.set (0+i3) (z09 .or .u8 (IntKind.u8.wrap (shrOp .u64 p0 (zzi.wrap ((7:Int)*((i3:Nat):Int))))) 128)))]⟩) (by kernel_rfl) ?_;refine At.done rfl ?_;cases h;exact kr
 ·intro a5 h;refine z02 ?_;refine z05 ?_;obtain⟨hc6,h⟩:=z03 h;obtain⟨hc7,h⟩:=z03 h;obtain⟨hc8,h⟩:=z03 h;refine At.seg 7 [4,33,34] [12] (s':=⟨[(4,.c (oC 12 1 a5)),(33,cD (.int .u8 (z09 .and .u8 (a5.getD (0+(zzi.wrap ((if 1<(zzi.wrap ((zzi.wrap (r1+6)).tdiv 7))then(zzi.wrap ((zzi.wrap (r1+6)).tdiv 7))else 1)-1)).toNat) zzd) 127))),(34,.c (.vptr 12 1 (0+(zzi.wrap ((if 1<(zzi.wrap ((zzi.wrap (r1+6)).tdiv 7))then(zzi.wrap ((zzi.wrap (r1+6)).tdiv 7))else 1)-1)).toNat) 0))],[(12,vL 1 (z2c .u8) a5)]⟩) (by kernel_rfl) (tN 3 (ai hc6 (ai hc7 (tN 1 (ai hc8 trivial))))) ?_;obtain⟨hc9,h⟩:=z03 h;refine At.one rfl (z0p (xs:=[.d (.int .u8 (z09 .and .u8 (a5.getD (0+(zzi.wrap ((if 1<(zzi.wrap ((zzi.wrap (r1+6)).tdiv 7))then(zzi.wrap ((zzi.wrap (r1+6)).tdiv 7))else 1)-1)).toNat) zzd) 127))]) (ds:=[.int .u8 (z09 .and .u8 (a5.getD (0+(zzi.wrap ((if 1<(zzi.wrap ((zzi.wrap (r1+6)).tdiv 7))then(zzi.wrap ((zzi.wrap (r1+6)).tdiv 7))else 1)-1)).toNat) zzd) 127)]) (z2c .u8) a5 (z09 .and .u8 (a5.getD (0+(zzi.wrap ((if 1<(zzi.wrap ((zzi.wrap (r1+6)).tdiv 7))then(zzi.wrap ((zzi.wrap (r1+6)).tdiv 7))else 1)-1)).toNat) zzd) 127) rfl rfl rfl rfl rfl hc9 rfl rfl (.refl _) rfl rfl rfl rfl) ?_;refine At.keep [4] [12] (s':=⟨[(4,.c (oC 12 1 a5))],[(12,vL 1 (z2c .u8) (a5.set (0+(zzi.wrap ((if 1<(zzi.wrap ((zzi.wrap (r1+6)).tdiv 7))then(zzi.wrap ((zzi.wrap (r1+6)).tdiv 7))else 1)-1)).toNat) (z09 .and .u8 (a5.getD (0+(zzi.wrap ((if 1<(zzi.wrap ((zzi.wrap (r1+6)).tdiv 7))then(zzi.wrap ((zzi.wrap (r1+6)).tdiv 7))else 1)-1)).toNat) zzd) 127)))]⟩) (by kernel_rfl) ?_;refine At.eqS (s':=⟨[(4,.c (oC 12 1 (a5.set (0+(zzi.wrap ((if 1<(zzi.wrap ((zzi.wrap (r1+6)).tdiv 7))then(zzi.wrap ((zzi.wrap (r1+6)).tdiv 7))else 1)-1)).toNat) (z09 .and .u8 (a5.getD (0+(zzi.wrap ((if 1<(zzi.wrap ((zzi.wrap (r1+6)).tdiv 7))then(zzi.wrap ((zzi.wrap (r1+6)).tdiv 7))else 1)-1)).toNat) zzd) 127))))],[(12,vL 1 (z2c .u8) (a5.set (0+(zzi.wrap ((if 1<(zzi.wrap ((zzi.wrap (r1+6)).tdiv 7))then(zzi.wrap ((zzi.wrap (r1+6)).tdiv 7))else 1)-1)).toNat) (z09 .and .u8 (a5.getD (0+(zzi.wrap ((if 1<(zzi.wrap ((zzi.wrap (r1+6)).tdiv 7))then(zzi.wrap ((zzi.wrap (r1+6)).tdiv 7))else 1)-1)).toNat) zzd) 127)))]⟩) (by simp only[oC,vL,zza]) ?_;refine At.done rfl ?_;refine z02 ?_;refine z05 ?_;refine At.seg 1 [35] [12] (s':=⟨[(35,.c (oC 12 1 (a5.set (0+(zzi.wrap ((if 1<(zzi.wrap ((zzi.wrap (r1+6)).tdiv 7))then(zzi.wrap ((zzi.wrap (r1+6)).tdiv 7))else 1)-1)).toNat) (z09 .and .u8 (a5.getD (0+(zzi.wrap ((if 1<(zzi.wrap ((zzi.wrap (r1+6)).tdiv 7))then(zzi.wrap ((zzi.wrap (r1+6)).tdiv 7))else 1)-1)).toNat) zzd) 127))))],[(12,vL 1 (z2c .u8) (a5.set (0+(zzi.wrap ((if 1<(zzi.wrap ((zzi.wrap (r1+6)).tdiv 7))then(zzi.wrap ((zzi.wrap (r1+6)).tdiv 7))else 1)-1)).toNat) (z09 .and .u8 (a5.getD (0+(zzi.wrap ((if 1<(zzi.wrap ((zzi.wrap (r1+6)).tdiv 7))then(zzi.wrap ((zzi.wrap (r1+6)).tdiv 7))else 1)-1)).toNat) zzd) 127)))]⟩) (by kernel_rfl) (z00 1) ?_;refine At.one rfl (zfx (e:=5) (a5.set (0+(zzi.wrap ((if 1<(zzi.wrap ((zzi.wrap (r1+6)).tdiv 7))then(zzi.wrap ((zzi.wrap (r1+6)).tdiv 7))else 1)-1)).toNat) (z09 .and .u8 (a5.getD (0+(zzi.wrap ((if 1<(zzi.wrap ((zzi.wrap (r1+6)).tdiv 7))then(zzi.wrap ((zzi.wrap (r1+6)).tdiv 7))else 1)-1)).toNat) zzd) 127)) rfl rfl rfl rfl rfl rfl rfl (.own rfl (by simp) rfl (z9h (z2c .u8) (a5.set (0+(zzi.wrap ((if 1<(zzi.wrap ((zzi.wrap (r1+6)).tdiv 7))then(zzi.wrap ((zzi.wrap (r1+6)).tdiv 7))else 1)-1)).toNat) (z09 .and .u8 (a5.getD (0+(zzi.wrap ((if 1<(zzi.wrap ((zzi.wrap (r1+6)).tdiv 7))then(zzi.wrap ((zzi.wrap (r1+6)).tdiv 7))else 1)-1)).toNat) zzd) 127)) _))) ?_;refine At.sg 1 [2] [] (z00 1) ?_;refine At.done rfl ?_;refine Tri.ret ?_;cases h;exact RetAt.k
 ·exact fun x=>x.elim
end Go.Av
namespace Go.Av
open Go Go.Proofs
theorem zam {p0:Value}{q:Bool}(h:z6b p0=some q):
 Summ Tryz.prog 41 [.agg (cValue p0)] [] (cD (.bool q)) []:=by
 refine Summ.i Tryz.func41 rfl [] fun w0 G0 V LL φ0=>?_;unfold z6b at h;refine Tri.sg [1] [1] (z00 2) ?_;refine z02 ?_;refine Tri.sg [1,4] [1] (z00 2) ?_;refine z06 h (fun h=>?_) (fun h=>?_)
 ·refine z0f (fun(a1:Bool)=>⟨[(2,cD (.bool a1))],[]⟩) h (fun a1 h=>?_) (fun j2 h=>?_)
  ·refine Tri.ret ?_;cases h;exact RetAt.k
  ·refine z05 ?_;refine At.sg 4 [1,8] [1] (z00 4) ?_;refine At.cs [8] h (fun h=>?_) (fun h=>?_)
   ·refine At.sg 6 [2] [] (z00 6) ?_;refine At.done rfl ?_;exact⟨_,h,kr⟩
   ·refine At.sg 6 [2] [] (z00 2) ?_;refine At.done rfl ?_;exact⟨_,h,kr⟩
 ·refine Tri.skip ?_;refine Tri.sg [2] [] (z00 4) ?_;refine Tri.ret ?_;cases h;exact RetAt.k
theorem zdl {p0:Value}{q:Bool}(h:z73 p0=some q):
 Summ Tryz.prog 40 [.agg (cValue p0)] [] (cD (.bool q)) []:=by
 refine Summ.i Tryz.func40 rfl [] fun w0 G0 V LL φ0=>?_;unfold z73 at h;refine Tri.sg [1] [1] (z00 2) ?_;refine z02 ?_;refine z05 ?_;refine At.sg 1 [3] [] (z00 1) ?_;obtain⟨r1,hr1,h⟩:=bind_elim h;refine At.cA [] [.agg (cValue p0)] (zam hr1) (.cons (.refl _) .nil) ?_;refine At.sg 2 [2] [] (z00 2) ?_;refine At.done rfl ?_;refine Tri.ret ?_;cases h;exact RetAt.k
theorem z2n {p0:List Value}{q:Int}(h:z0o p0=some q):
 Summ Tryz.prog 70 [cD (lD 3 encValue p0),cD (.fn 40 [])] [] (cD (dI q)) []:=by
 refine Summ.i Tryz.func70 rfl [] fun w0 G0 V LL φ0=>?_;unfold z0o at h;refine Tri.sg [0,1] [] (z00 1) ?_;refine z02 ?_;refine Tri.sg [0,1,7,8] [] (z00 3) ?_;refine Tri.ln 0 p0.length fun hlena2=>?_;refine z2h 8 () (fun(x:Int) s=>RetAt Tryz.prog Tryz.f70 (cD (dI x)) [] s) (fun(a2:Unit)=>⟨[(0,cD (lD 3 encValue p0)),(1,cD (.fn 40 [])),(7,cD (dI (p0.length:Int)))],[]⟩) [8,0,1,7] [] [9,8,0,1,7] [] [0,1,7] [] [8,0,1,7] [] h hlena2 ?_ ?_ ?_
 ·intro i1 a2 c hii1 h;refine Tri.sg [0,1,5,7,8] [] (z00 2) ?_;refine z02 ?_;refine z05 ?_;refine At.sg 5 [0,1,5,7,8,11,15] [] (tN 3 (ai (show((0:Int)≤((i1:Nat):Int)∧((i1:Nat):Int)<(p0.length:Int))from⟨by omega,by omega⟩) (z00 1))) ?_;obtain⟨r4,hr4,h⟩:=bind_elim h;refine At.cA [] [.agg (cValue (p0.getD i1 zzd))] (zdl hr4) (.cons (.refl _) .nil) ?_;refine At.done rfl ?_;refine z06 h (fun h=>?_) (fun h=>?_)
  ·refine Tri.sg [4] [] (z00 2) ?_;refine Tri.ret ?_;cases h;exact RetAt.k
  ·refine Tri.kp [8,0,1,7] [] ?_;refine Tri.skip ?_;cases h;exact kr
 ·intro a3 h;refine Tri.sg [4] [] (z00 1) ?_;refine Tri.ret ?_;cases h;exact RetAt.k
 ·exact fun x s hx hr=>by cases hx;exact hr
theorem z2i {p0:List Value}{q:Bool}(h:z0k p0=some q):
 Summ Tryz.prog 39 [cD (lD 3 encValue p0),cD (.fn 40 [])] [] (cD (.bool q)) []:=by
 refine Summ.i Tryz.func39 rfl [] fun w0 G0 V LL φ0=>?_;unfold z0k at h;refine Tri.sg [0,1] [] (z00 1) ?_;refine z02 ?_;refine z05 ?_;refine At.sg 2 [5,6] [] (z00 2) ?_;obtain⟨r1,hr1,h⟩:=bind_elim h;refine At.cA [] [cD (lD 3 encValue p0),cD (.fn 40 [])] (z2n hr1) (.cons (.refl _) (.cons (.refl _) .nil)) ?_;refine At.sg 2 [4] [] (z00 2) ?_;refine At.done rfl ?_;refine Tri.ret ?_;cases h;exact RetAt.k
theorem value_Check_ok {p0:List Value}{q:Int}(h:value_Check p0=some q):
 Summ Tryz.prog 15 [cD (lD 3 encValue p0)] [] (cD (dI q)) []:=by
 refine Summ.i Tryz.func15 rfl [] fun w0 G0 V LL φ0=>?_;unfold value_Check at h;refine Tri.sg [0] [] (z00 1) ?_;refine z02 ?_;refine z0f (fun(a1:Bool)=>⟨[(9,cD (.bool a1))],[]⟩) h (fun a1 h=>?_) (fun j2 h=>?_)
 ·refine z06 h (fun h=>?_) (fun h=>?_)
  ·refine Tri.sg [2] [] (z00 1) ?_;refine Tri.ret ?_;cases h;exact RetAt.k
  ·refine Tri.skip ?_;refine Tri.sg [2] [] (z00 1) ?_;refine Tri.ret ?_;cases h;exact RetAt.k
 ·refine z05 ?_;refine At.sg 4 [0,6] [] (z00 4) ?_;refine At.cs [6] h (fun h=>?_) (fun h=>?_)
  ·refine At.sg 3 [9] [] (z00 1) ?_;refine At.done rfl ?_;exact⟨_,h,kr⟩
  ·refine At.sg 1 [6,7] [] (z00 1) ?_;obtain⟨r3,hr3,h⟩:=bind_elim h;refine At.cA [] [cD (lD 3 encValue p0),cD (.fn 40 [])] (z2i hr3) (.cons (.refl _) (.cons (.refl _) .nil)) ?_;refine At.sg 1 [9] [] (z00 1) ?_;refine At.done rfl ?_;exact⟨_,h,kr⟩
end Go.Av
namespace Go.Av
open Go Go.Proofs
theorem value_mark_ok {p0:Value}{q:Int}(h:value_mark p0=some q):
 Summ Tryz.prog 19 [.agg (cValue p0)] [] (cD (dI q)) []:=by
 refine Summ.i Tryz.func19 rfl [] fun w0 G0 V LL φ0=>?_;unfold value_mark at h;refine Tri.sg [1] [1] (z00 2) ?_;refine z02 ?_;refine Tri.sg [4] [] (z00 2) ?_;refine z06 h (fun h=>?_) (fun h=>?_)
 ·refine Tri.sg [2] [] (z00 1) ?_;refine Tri.ret ?_;cases h;exact RetAt.k
 ·refine Tri.skip ?_;refine Tri.sg [2] [] (z00 1) ?_;refine Tri.ret ?_;cases h;exact RetAt.k
end Go.Av
namespace Go.Av
open Go Go.Proofs
theorem zh1 {p0:List ByteArray}{q:ByteArray}(h:z8g p0=some q):
 Summ Tryz.prog 44 [cD (lD 1 z1b p0)] [] (cD (.str q)) []:=by
 refine Summ.i Tryz.func44 rfl [] fun w0 G0 V LL φ0=>?_;unfold z8g at h;refine Tri.sg [0] [] (z00 1) ?_;refine z02 ?_;refine z05 ?_;refine At.seg 1 [3] [] (s':=⟨[(3,cD (lD 1 z1b p0))],[]⟩) (by kernel_rfl) (z00 1) ?_;obtain⟨r1,hr1,h⟩:=bind_elim h;refine At.cA [] [cD (lD 1 z1b p0),cD (.str (bs []))] (zl7 hr1) (.cons (.c (.le (.listV rfl (fun _ _=>rfl)))) (.cons (.refl _) .nil)) ?_;refine At.sg 1 [2] [] (z00 1) ?_;refine At.done rfl ?_;refine Tri.ret ?_;cases h;exact RetAt.k
theorem pack_Text_ok {p0:ByteArray}{q:ByteArray}(h:pack_Text p0=some q):
 Summ Tryz.prog 20 [cD (.str p0)] [] (cD (.str q)) []:=by
 refine Summ.i Tryz.func20 rfl [] fun w0 G0 V LL φ0=>?_;unfold pack_Text at h;refine Tri.sg [0] [] (z00 1) ?_;refine z02 ?_;refine z05 ?_;refine At.sg 3 [0,5] [] (z00 3) ?_;obtain⟨r1,hr1,h⟩:=bind_elim h;refine At.cA [] [cD (dU (zzu.wrap (p0.size:Int)))] (pack_Count_ok hr1) (.cons (.refl _) .nil) ?_;refine At.seg 1 [6,7] [] (s':=⟨[(6,cD (.str r1)),(7,cD (.str p0))],[]⟩) (by kernel_rfl) (z00 1) ?_;refine At.one rfl (One.buildSlice (z:=[.d (.str (bs []))]) (cells:=[.d (.str r1),.d (.str p0)]) (xs:=List.map (z1b) ([r1,p0]:List ByteArray)) rfl rfl rfl rfl (by kernel_rfl) rfl rfl (by kernel_rfl) rfl rfl rfl (by kernel_rfl) rfl ⟨⟨rfl,.refl _⟩,⟨rfl,.refl _⟩,trivial⟩) ?_;refine At.l [8] ⟨[(8,cD (lD 1 z1b ([r1,p0]:List ByteArray))),(6,cD (.str r1)),(7,cD (.str p0))],[]⟩ ⟨⟨_,rfl,.c (.own rfl (zzf.2 rfl) (zzc rfl) rfl (z4s (z1b) ([r1,p0]:List ByteArray)))⟩,⟨_,rfl,.refl _⟩,⟨_,rfl,.refl _⟩,trivial⟩ trivial ?_;obtain⟨r2,hr2,h⟩:=bind_elim h;refine At.cA [] [cD (lD 1 z1b ([r1,p0]:List ByteArray))] (zh1 hr2) (.cons (.refl _) .nil) ?_;refine At.sg 1 [2] [] (z00 1) ?_;refine At.done rfl ?_;refine Tri.ret ?_;cases h;exact RetAt.k
end Go.Av
namespace Go.Av
open Go Go.Proofs
theorem pack_Number_ok {p0:Int}{q:ByteArray}(h:pack_Number p0=some q):
 Summ Tryz.prog 21 [cD (dI p0)] [] (cD (.str q)) []:=by
 refine Summ.i Tryz.func21 rfl [] fun w0 G0 V LL φ0=>?_;unfold pack_Number at h;refine Tri.sg [0] [] (z00 1) ?_;refine z02 ?_;refine z05 ?_;refine At.sg 7 [9] [] (tN 2 (ai (show((0:Int)≤1)from(by decide:(0:Int)≤1)) (tN 1 (ai (show((0:Int)≤63)from(by decide:(0:Int)≤63)) (z00 2))))) ?_;obtain⟨r1,hr1,h⟩:=bind_elim h;refine At.cA [] [cD (dU (z09 .xor .u64 (shlOp .u64 (zzu.wrap p0) 1) (zzu.wrap (shrOp .i64 p0 63))))] (pack_Count_ok hr1) (.cons (.refl _) .nil) ?_;refine At.sg 1 [2] [] (z00 1) ?_;refine At.done rfl ?_;refine Tri.ret ?_;cases h;exact RetAt.k
end Go.Av
set_option maxRecDepth 100000
namespace Go.Av
open Go Go.RowKit
theorem Summ.callStr {P : Program} {f : FuncId} {fn : Func} {c : Code} {args : List AV} {q : ByteArray} {W : World} (hf : P.funcs[f]? = some fn) (hb : fn.body = some c) (hn : (fn.name == "runtime.NumGoroutine") = false) (hS : Summ P f args [] (.c (.d (.str q))) []) {vs : Array Go.Value}
    (hr : z1l (RelC (allG W) (fun _ => False) (fun _ => none) W) args vs.toList) : Calls P f vs W fun e W' => e = .returned (.string q) ∧ Below W.heap.size W W' :=
  (Summ.calls hf hb hn hS hr).mono fun e W' ⟨v, h1, h2, G, φ, h3⟩ => by
    have h3 : RelD G W' (.str q) v := h3.1
    cases h3
    exact ⟨h1, h2⟩
theorem Summ.callInt {P : Program} {f : FuncId} {fn : Func} {c : Code} {args : List AV} {k : IntKind} {q : Int} {W : World} (hf : P.funcs[f]? = some fn) (hb : fn.body = some c) (hn : (fn.name == "runtime.NumGoroutine") = false) (hS : Summ P f args [] (.c (.d (.int k q))) []) {vs : Array Go.Value}
    (hr : z1l (RelC (allG W) (fun _ => False) (fun _ => none) W) args vs.toList) : Calls P f vs W fun e W' => e = .returned (.int k q) ∧ Below W.heap.size W W' :=
  (Summ.calls hf hb hn hS hr).mono fun e W' ⟨v, h1, h2, G, φ, h3⟩ => by
    have h3 : RelD G W' (.int k q) v := h3.1
    cases h3
    exact ⟨h1, h2⟩
end Go.Av
namespace Go.Proofs
open Go.RowKit
theorem z7h {p0:List Av.Value}{r:Int}(h:Av.value_Check p0=some r){v:Value}{w:World}(hv:Av.RelD (Av.allG w) w (Av.lD 3 Av.encValue p0) v):Calls Tryz.prog 15 #[v] w fun e w'=>e= .returned (.int .i64 r)∧Below w.heap.size w w':=
 Av.Summ.callInt Tryz.func15 rfl (by kernel_rfl) (Av.value_Check_ok h) (show _∧_ from⟨⟨hv,by unfold Av.lD at hv;generalize p0.length=n at hv;cases hv<;>rfl⟩,trivial⟩)
theorem z9n {n:Int}{q:ByteArray}(h:Av.pack_Count n=some q)(w:World):Calls Tryz.prog 17 #[.int .u64 n] w fun e w'=>e= .returned (.string q)∧Below w.heap.size w w':=
 Av.Summ.callStr Tryz.func17 rfl (by kernel_rfl) (Av.pack_Count_ok h) (show _∧_ from⟨⟨Av.RelD.int .u64 n,rfl⟩,trivial⟩)
theorem zet {s:ByteArray}{q:ByteArray}(h:Av.pack_Text s=some q)(w:World):Calls Tryz.prog 20 #[.string s] w fun e w'=>e= .returned (.string q)∧Below w.heap.size w w':=
 Av.Summ.callStr Tryz.func20 rfl (by kernel_rfl) (Av.pack_Text_ok h) (show _∧_ from⟨⟨Av.RelD.str s,rfl⟩,trivial⟩)
theorem zd7 {n:Int}{q:ByteArray}(h:Av.pack_Number n=some q)(w:World):Calls Tryz.prog 21 #[.int .i64 n] w fun e w'=>e= .returned (.string q)∧Below w.heap.size w w':=
 Av.Summ.callStr Tryz.func21 rfl (by kernel_rfl) (Av.pack_Number_ok h) (show _∧_ from⟨⟨Av.RelD.int .i64 n,rfl⟩,trivial⟩)
theorem za9 {x:Av.Value}{m:Int}(h:Av.value_mark x=some m){t:Bool}(ht:x.isText=t)(w:World):Calls Tryz.prog 19 #[.agg #[.bool t,.int .i64 x.n,.string x.s]] w fun e w'=>e= .returned (.int .i64 m)∧Below w.heap.size w w':=by
 subst ht;exact Av.Summ.callInt Tryz.func19 rfl (by kernel_rfl) (Av.value_mark_ok h) (show _∧_ from⟨⟨_,rfl,⟨Av.RelD.bool _,Av.RelD.int _ _,Av.RelD.str _,trivial⟩,fun u hu=>by simp at hu;rcases hu with rfl|rfl|rfl<;>rfl⟩,trivial⟩)
theorem zjz {p0:List Av.Value}{w:World}{v:Value}(hv:Av.RelD (Av.allG w) w (Av.lD 3 Av.encValue p0) v):
 (p0.length=0∧ ∃a cap,v= .slice a 0 cap)∨ ∃b off cap,v= .slice (some ⟨b,off,none⟩) p0.length cap∧b<w.heap.size∧p0.length≤cap∧p0.length≤Av.maxN∧ ∀i,i<p0.length→w.cell? ⟨b,off+i*3,none⟩=some (.bool (p0.getD i zzd).isText)∧w.cell? ⟨b,off+i*3+1,none⟩=some (.int .i64 (p0.getD i zzd).n)∧w.cell? ⟨b,off+i*3+2,none⟩=some (.string (p0.getD i zzd).s):=by
 unfold Av.lD at hv;generalize hn:p0.length=n at hv;cases hv with
 |empty es get a cap=>exact .inl ⟨rfl,a,cap,rfl⟩
 |list es n get b off cap vals hG hc1 hm hc hl hr=>
  refine .inr ⟨b,off,cap,rfl,hG,hc1,hm,fun i hi=>?_⟩;have h0:=hr i 0 hi (by omega)
  have h1:=hr i 1 hi (by omega);have h2:=hr i 2 hi (by omega)
  have c0:=hc i 0 hi (by omega);have c1:=hc i 1 hi (by omega)
  have c2:=hc i 2 hi (by omega);have h0:Av.RelD (Av.allG w) w (.bool (p0.getD i zzd).isText) (vals i 0):=h0
  have h1:Av.RelD (Av.allG w) w (.int .i64 (p0.getD i zzd).n) (vals i 1):=h1;have h2:Av.RelD (Av.allG w) w (.str (p0.getD i zzd).s) (vals i 2):=h2
  generalize vals i 0=v0 at h0 c0;generalize vals i 1=v1 at h1 c1;generalize vals i 2=v2 at h2 c2;cases h0;cases h1;cases h2;exact⟨by rw[←c0];rfl,c1,c2⟩
end Go.Proofs
namespace Go.Proofs
open Go.RowKit
set_option maxHeartbeats 4000000 in
set_option maxRecDepth 1000000 in
theorem zds {p0:List Av.Value}{r:Int}(h:Av.value_Check p0=some r)(hr:r≠0){v:Value}{w:World}(hv:Av.RelD (Av.allG w) w (Av.lD 3 Av.encValue p0) v):
 Calls Tryz.prog 5 #[v] w fun e w'=>e= .returned (.tuple #[.string ⟨#[]⟩,.int .i64 r])∧Below w.heap.size w w':=by
 have hb:(r !=0)=true:=by simpa using hr
 go_enter Tryz.func5,Tryz.ntmps5
 go_wp2_with (go_at_call 15;refine(z7h h hv).mono ?_)
 rintro e w1 ⟨rfl,b1⟩
 go_wp2
 go_ret2
 exact⟨rfl,b1⟩
theorem z79 {T e:TypeId}{B b:Nat}{bs:List Value}{w w':World}(h:Lib.IsBuilderF T e B b bs w)(hb:Below w.heap.size w w'):Lib.IsBuilderF T e B b bs w':=by
 have key: ∀p,Lib.BuilderAtF T e B b p bs w→Lib.BuilderAtF T e B b p bs w':=fun p ⟨hB,v,h1,h2,h3⟩=>by
  have lt: ∀k o,w.heap[k]?=some o→w'.heap[k]?=some o:=fun k o ho=>by
   have hk:k<w.heap.size:=by
    rcases Nat.lt_or_ge k w.heap.size with h'|h'
    ·exact h'
    ·rw[Array.getElem?_eq_none (by omega)]at ho;cases ho
   rw[hb.block k hk];exact ho
  refine⟨hB,v,lt _ _ h1,⟨h2.1,?_⟩,h3⟩;rcases h2.2 with h|⟨g,cap,cur,fz,e1,e2,e3,r⟩
  ·exact .inl h
  ·exact .inr ⟨g,cap,cur,fz,e1,e2,lt _ _ e3,r⟩
 exact h.elim (fun x=> .inl (key _ x)) (fun x=> .inr (key _ x))
set_option maxHeartbeats 4000000 in
set_option maxRecDepth 1000000 in
theorem zd5 {p0:List Av.Value}(h:Av.value_Check p0=some 0){v:Value}{w:World}(hv:Av.RelD (Av.allG w) w (Av.lD 3 Av.encValue p0) v)
 {b off cap:Nat} (e0:v= .slice (some ⟨b,off,none⟩) p0.length cap) (hb0:b<w.heap.size) (hcap:p0.length≤cap) (hmax:p0.length≤8)
 (hcells: ∀i,i<p0.length→w.cell? ⟨b,off+i*3,none⟩=some (.bool (p0.getD i zzd).isText)∧w.cell? ⟨b,off+i*3+1,none⟩=some (.int .i64 (p0.getD i zzd).n)∧w.cell? ⟨b,off+i*3+2,none⟩=some (.string (p0.getD i zzd).s))
 {c:ByteArray} (hc:Av.pack_Count (p0.length:Int)=some c) {l:List UInt8} (hl:Av.encVs p0=some l) (hlen:c.size+l.length≤140737488355328):
 Calls Tryz.prog 5 #[v] w fun e w'=>e= .returned (.tuple #[.string ⟨(c.data.toList++l).toArray⟩,.int .i64 0])∧Below w.heap.size w w':=by
 subst e0
 go_enter Tryz.func5,Tryz.ntmps5
 go_wp2_with (go_at_call 15;refine(z7h h hv).mono ?_)
 rintro e w1 ⟨rfl,b1⟩
 go_wp2_with (go_at_call 17;refine(z9n hc _).mono ?_)
 rintro e w2 ⟨rfl,b2⟩;have hI:Lib.IsBuilderF 57 5 w1.heap.size w1.heap.size [] w2:=z79 (Lib.IsBuilderF.of (Lib.fresh_isBuilder 57 5 w1)) b2
 have hs2:=b2.size
 go_wp2_with (go_at_call 16;refine(z5c w1.heap.size w1.heap.size [] c _ hI (by simp;omega) (by simp at hs2;omega)).mono ?_)
 rintro e w3 ⟨rfl,i3,b3,k3⟩;have HB0:Hid (Lib.IsBuilderF 57 5 w1.heap.size w1.heap.size (Lib.byteCells c.data.toList) w3):=by
  refine Or.inr ?_;rw[←Lib.strCells_eq]
  simpa using i3
 have hB:Hid (w.heap.size≤w1.heap.size):=b1.size;have HW:Hid (Below w.heap.size w w3):=(b1.trans ((((Below.refl w1.heap.size w1).alloc (zz9 _) _).trans (b2.mono (by simp))).trans b3 |>.mono b1.size))
 clear i3 hI
 go_wp2
 go_loopw [20] (fun i wr=> ∃(k:Nat) (acc rest:List UInt8),k≤p0.length∧i= .int .i64 k∧Hid (Av.encVs (p0.drop k)=some rest)∧Hid (acc++rest=c.data.toList++l)∧Hid (Lib.IsBuilderF 57 5 w1.heap.size w1.heap.size (Lib.byteCells acc) wr)∧Hid (Below w.heap.size w wr)∧Hid (w1.heap.size<wr.heap.size)) (fun i _=>p0.length-(intOf i).toNat)
 case atStart=>exact⟨0,c.data.toList,l,Nat.zero_le _,rfl,hl,rfl,HB0,HW,by have:=hs2;have:=b3.size;simp[Hid]at*;omega⟩
 case round=>
  obtain⟨k,acc,rest,hk,rfl,h1,h2,h3,h4,h5⟩:=hrel;by_cases hlt:k<p0.length
  ·have hcell: ∀j,wr.cell? ⟨b,j,none⟩=w.cell? ⟨b,j,none⟩:=fun j=>World.cell?_of_block (h4.block b hb0);obtain⟨g0,g1,g2⟩:=hcells k hlt;rw[←hcell]at g0 g1 g2;have hd:p0.drop k=p0.getD k zzd::p0.drop (k+1):=by
    rw[List.drop_eq_getElem_cons hlt];simp[List.getD_eq_getElem?_getD,List.getElem?_eq_getElem hlt]
   generalize p0.getD k zzd=x at g0 g1 g2 hd;have h1':Av.encVs (x::p0.drop (k+1))=some rest:=by rw[←hd];exact h1
   obtain⟨pa,e1,h1'⟩:=Av.bind_elim h1';obtain⟨pr,e2,h1'⟩:=Av.bind_elim h1';obtain⟨m,em,e1⟩:=Av.bind_elim e1;clear hcell h1 hd;cases ht:x.isText with
   |false=>
    rw[ht]at g0;have em0:m=0:=by unfold Av.value_mark at em;rw[ht]at em;injection em with em;exact em.symm
    subst em0;rw[ht]at e1;obtain⟨tx,e3,e1⟩:=Av.bind_elim e1;injection e1 with e1;injection h1' with h1';have hpa:pa=0::tx.data.toList:=e1.symm
    have hlens:acc.length+(1+tx.size+pr.length)=c.size+l.length:=by
     have:=congrArg List.length h2;rw[zze,zze,←h1',hpa]at this;simp only[zze,zzg,zz2]at this;have q1:c.data.size=c.size:=rfl
     have q2:tx.data.size=tx.size:=rfl;omega
    clear e1
    go_wp2_with (go_at_call 19;refine(za9 (x:=x) em ht _).mono ?_)
    rintro e w4 ⟨rfl,b4⟩;have hI4:Lib.IsBuilderF 57 5 w1.heap.size w1.heap.size (Lib.byteCells acc) w4:=z79 (Lib.IsBuilderF.alloc h3 _) b4
    have hs4:=b4.size;have hs5:w1.heap.size<wr.heap.size:=h5
    simp only[World.alloc,Array.size_push]at hs4;have hv4:w4.heap[wr.heap.size]?=some (.cells #[.bool false,.int .i64 x.n,.string x.s] 64 (0,0)):=by
     rw[b4.block _ (by simp)];exact heap_alloc_new _ _
    go_wp2_with (go_at_call 18;refine(z92 w1.heap.size w1.heap.size _ 0 _ hI4 (by rw[Lib.byteCells_length];omega) (by omega)).mono ?_)
    rintro e w5 ⟨rfl,i5,b5,k5⟩;have hs6:=b5.size
    have hv5:=k5 _ _ hv4 (by simp;omega) (by intro c fz;simp);have gv0:w5.cell? ⟨wr.heap.size,0,none⟩=some (.bool false):=Lib.cell_of_heap hv5 0
    have gv1:w5.cell? ⟨wr.heap.size,1,none⟩=some (.int .i64 x.n):=Lib.cell_of_heap hv5 1;have hsb:w1.heap.size≤w5.heap.size:=by
     have:=(Array.getElem?_eq_some_iff.1 hv5).1;omega
    go_wp2_with (go_at_call 21;refine(zd7 e3 _).mono ?_)
    rintro e w6 ⟨rfl,b6⟩;have hI6:=z79 (Or.inr i5) b6
    have hs7:=b6.size
    go_wp2_with (go_at_call 16;refine(z5c w1.heap.size w1.heap.size _ tx _ hI6 (by rw[zze,Lib.byteCells_length];simp only[zzg,List.length_nil];omega) (by omega)).mono ?_)
    rintro e w7 ⟨rfl,i7,b7,k7⟩;have hs8:=b7.size
    have hBw:w.heap.size≤w1.heap.size:=hB
    go_wp2
    refine⟨⟨k+1,acc++pa,pr,by omega,by go_num,e2,?_,?_,?_,?_⟩,by simp[intOf];omega⟩
    ·show(acc++pa)++pr=c.data.toList++l;rw[List.append_assoc,h1'];exact h2
    ·refine Or.inr ?_;have hce:Lib.byteCells acc++[.int .u8 0]++Lib.strCells tx=Lib.byteCells (acc++pa):=by
      rw[hpa,Lib.byteCells_append,Lib.strCells_eq,List.append_assoc];rfl
     rw[←hce];exact i7
    ·exact(((((h4.alloc (Below.size h4) _).trans (b4.mono (by simp;have:=Below.size h4;omega))).trans (b5.mono hBw)).trans (b6.mono (by omega))).trans (b7.mono hBw))
    ·show w1.heap.size<w7.heap.size;have:=(Array.getElem?_eq_some_iff.1 hv5).1
     omega
   |true=>
    rw[ht]at g0;have em0:m=1:=by unfold Av.value_mark at em;rw[ht]at em;injection em with em;exact em.symm
    subst em0;rw[ht]at e1;obtain⟨tx,e3,e1⟩:=Av.bind_elim e1;injection e1 with e1;injection h1' with h1';have hpa:pa=1::tx.data.toList:=e1.symm
    have hlens:acc.length+(1+tx.size+pr.length)=c.size+l.length:=by
     have:=congrArg List.length h2;rw[zze,zze,←h1',hpa]at this;simp only[zze,zzg,zz2]at this;have q1:c.data.size=c.size:=rfl
     have q2:tx.data.size=tx.size:=rfl;omega
    clear e1
    go_wp2_with (go_at_call 19;refine(za9 (x:=x) em ht _).mono ?_)
    rintro e w4 ⟨rfl,b4⟩;have hI4:Lib.IsBuilderF 57 5 w1.heap.size w1.heap.size (Lib.byteCells acc) w4:=z79 (Lib.IsBuilderF.alloc h3 _) b4
    have hs4:=b4.size;have hs5:w1.heap.size<wr.heap.size:=h5
    simp only[World.alloc,Array.size_push]at hs4;have hv4:w4.heap[wr.heap.size]?=some (.cells #[.bool true,.int .i64 x.n,.string x.s] 64 (0,0)):=by
     rw[b4.block _ (by simp)];exact heap_alloc_new _ _
    go_wp2_with (go_at_call 18;refine(z92 w1.heap.size w1.heap.size _ 1 _ hI4 (by rw[Lib.byteCells_length];omega) (by omega)).mono ?_)
    rintro e w5 ⟨rfl,i5,b5,k5⟩;have hs6:=b5.size
    have hv5:=k5 _ _ hv4 (by simp;omega) (by intro c fz;simp);have gv0:w5.cell? ⟨wr.heap.size,0,none⟩=some (.bool true):=Lib.cell_of_heap hv5 0
    have gv1:w5.cell? ⟨wr.heap.size,2,none⟩=some (.string x.s):=Lib.cell_of_heap hv5 2;have hsb:w1.heap.size≤w5.heap.size:=by
     have:=(Array.getElem?_eq_some_iff.1 hv5).1;omega
    go_wp2_with (go_at_call 20;refine(zet e3 _).mono ?_)
    rintro e w6 ⟨rfl,b6⟩;have hI6:=z79 (Or.inr i5) b6
    have hs7:=b6.size
    go_wp2_with (go_at_call 16;refine(z5c w1.heap.size w1.heap.size _ tx _ hI6 (by rw[zze,Lib.byteCells_length];simp only[zzg,List.length_nil];omega) (by omega)).mono ?_)
    rintro e w7 ⟨rfl,i7,b7,k7⟩;have hs8:=b7.size
    have hBw:w.heap.size≤w1.heap.size:=hB
    go_wp2
    refine⟨⟨k+1,acc++pa,pr,by omega,by go_num,e2,?_,?_,?_,?_⟩,by simp[intOf];omega⟩
    ·show(acc++pa)++pr=c.data.toList++l;rw[List.append_assoc,h1'];exact h2
    ·refine Or.inr ?_;have hce:Lib.byteCells acc++[.int .u8 1]++Lib.strCells tx=Lib.byteCells (acc++pa):=by
      rw[hpa,Lib.byteCells_append,Lib.strCells_eq,List.append_assoc];rfl
     rw[←hce];exact i7
    ·exact(((((h4.alloc (Below.size h4) _).trans (b4.mono (by simp;have:=Below.size h4;omega))).trans (b5.mono hBw)).trans (b6.mono (by omega))).trans (b7.mono hBw))
    ·show w1.heap.size<w7.heap.size;have:=(Array.getElem?_eq_some_iff.1 hv5).1
     omega
  ·have hke:k=p0.length:=by omega
   subst hke;have h1':Av.encVs (p0.drop p0.length)=some rest:=h1
   rw[List.drop_length]at h1';injection h1' with h1';have h2':acc++rest=c.data.toList++l:=h2
   rw[←h1',List.append_nil]at h2';have hs5:w1.heap.size<wr.heap.size:=h5
   go_wp2_with (go_at_call 22;refine(zba w1.heap.size w1.heap.size acc _ h3 (by omega)).mono ?_)
   rintro e w4 ⟨rfl,i4,b4,k4⟩;have hBw:w.heap.size≤w1.heap.size:=hB
   go_wp2
   go_ret2
   exact⟨rfl,Below.trans h4 (b4.mono hBw)⟩
set_option maxHeartbeats 4000000 in
set_option maxRecDepth 1000000 in
theorem zd6 (h:Av.value_Check []=some 0){a:Option Addr}{cap:Nat}{w:World}
 {c:ByteArray} (hc:Av.pack_Count 0=some c) (hlen:c.size≤140737488355328):
 Calls Tryz.prog 5 #[.slice a 0 cap] w fun e w'=>e= .returned (.tuple #[.string ⟨c.data.toList.toArray⟩,.int .i64 0])∧Below w.heap.size w w':=by
 go_enter Tryz.func5,Tryz.ntmps5
 go_wp2_with (go_at_call 15;refine(z7h h (Av.RelD.empty 3 _ a cap)).mono ?_)
 rintro e w1 ⟨rfl,b1⟩
 go_wp2_with (go_at_call 17;refine(z9n hc _).mono ?_)
 rintro e w2 ⟨rfl,b2⟩;have hI:Lib.IsBuilderF 57 5 w1.heap.size w1.heap.size [] w2:=z79 (Lib.IsBuilderF.of (Lib.fresh_isBuilder 57 5 w1)) b2
 have hs2:=b2.size
 go_wp2_with (go_at_call 16;refine(z5c w1.heap.size w1.heap.size [] c _ hI (by simp;omega) (by simp at hs2;omega)).mono ?_)
 rintro e w3 ⟨rfl,i3,b3,k3⟩;have HB0:Hid (Lib.IsBuilderF 57 5 w1.heap.size w1.heap.size (Lib.byteCells c.data.toList) w3):=by
  refine Or.inr ?_;rw[←Lib.strCells_eq]
  simpa using i3
 have hB:w.heap.size≤w1.heap.size:=b1.size;have HW:Hid (Below w.heap.size w w3):=(b1.trans ((((Below.refl w1.heap.size w1).alloc (zz9 _) _).trans (b2.mono (by simp))).trans b3 |>.mono b1.size))
 have hs3:w1.heap.size≤w3.heap.size:=by have:=b3.size;simp at hs2;omega
 clear i3 hI
 go_wp2
 go_loopw [20] (fun i wr=>i= .int .i64 0∧Hid (Lib.IsBuilderF 57 5 w1.heap.size w1.heap.size (Lib.byteCells c.data.toList) wr)∧Hid (Below w.heap.size w wr)∧Hid (w1.heap.size≤wr.heap.size)) (fun i _=>0)
 case atStart=>exact⟨rfl,HB0,HW,hs3⟩
 case round=>
  obtain⟨rfl,h3,h4,h5⟩:=hrel;have hs5:w1.heap.size≤wr.heap.size:=h5
  go_wp2_with (go_at_call 22;refine(zba w1.heap.size w1.heap.size c.data.toList _ h3 hs5).mono ?_)
  rintro e w4 ⟨rfl,i4,b4,k4⟩
  go_wp2
  go_ret2
  exact⟨rfl,Below.trans h4 (b4.mono hB)⟩
end Go.Proofs
/-
 Av,part V:of loops,without any program.
-/
namespace Go.Av
section
variable {S R Q A X:Type}
theorem        zix {B : Nat → S → Option (Ctl S R)} {n : Nat} (I : Nat → S → Prop) {s : S} (h0 : I 0 s) (hs : ∀ i s, i < n → I i s → ∃ s', B i s = some (.next s') ∧ I (i + 1) s') :
    ∃ s',    z0n B n 0 s = some (.done s') ∧ I n s' := by
  have key : ∀ k i s, i + k = n → I i s → ∃ s',    z0n B k i s = some (.done s') ∧ I n s' := by
    intro k
    induction k with
    | zero => intro i s hi h; exact ⟨s, rfl, by have : i = n := by omega
                                                subst this; exact h⟩
    | succ k ih =>
      intro i s hi h
      obtain ⟨s', h1, h2⟩ := hs i s (by omega) h
      obtain ⟨s2, h3, h4⟩ := ih (i + 1) s' (by omega) h2
      exact ⟨s2, by simp only [   z0n, h1, h3], h4⟩
  exact key n 0 s (by omega) h0
theorem z9u {B:Nat→S→Option (Ctl S R)}{n:Nat}{s:S}(r:S)(I:Nat→S→Prop)(hr: ∀s,I n s→s=r)(hs: ∀i s,i<n→I i s→ ∃s',B i s=some (.next s')∧I (i+1) s')(h0:I 0 s):
 z0n B n 0 s=some (.done r):=by
 obtain⟨s',h1,h2⟩:=zix I h0 hs;rw[h1,hr s' h2]
theorem         zi0 {B : Nat → S → Option (Ctl S R)} {n : Nat} (I : Nat → S → Prop) (D : S → Prop) (J : R → Prop) {s : S} (h0 : I 0 s)
    (hs : ∀ i s, i < n → I i s → (∃ s', B i s = some (.next s') ∧ I (i + 1) s') ∨ (∃ s', B i s = some (.brk s') ∧ D s') ∨ ∃ r, B i s = some (.ret r) ∧ J r) (hD : ∀ s, I n s → D s) :
    (∃ s',    z0n B n 0 s = some (.done s') ∧ D s') ∨ ∃ r,    z0n B n 0 s = some (.ret r) ∧ J r := by
  have key : ∀ k i s, i + k = n → I i s → (∃ s',    z0n B k i s = some (.done s') ∧ D s') ∨ ∃ r,    z0n B k i s = some (.ret r) ∧ J r := by
    intro k
    induction k with
    | zero => intro i s hi h; exact .inl ⟨s, rfl, by have : i = n := by omega
                                                     subst this; exact hD s h⟩
    | succ k ih =>
      intro i s hi h
      rcases hs i s (by omega) h with ⟨s', h1, h2⟩ | ⟨s', h1, h2⟩ | ⟨r, h1, h2⟩
      · rcases ih (i + 1) s' (by omega) h2 with ⟨s2, h3, h4⟩ | ⟨r, h3, h4⟩
        · exact .inl ⟨s2, by simp only [   z0n, h1, h3], h4⟩
        · exact .inr ⟨r, by simp only [   z0n, h1, h3], h4⟩
      · exact .inl ⟨s', by simp only [   z0n, h1], h2⟩
      · exact .inr ⟨r, by simp only [   z0n, h1], h2⟩
  exact key n 0 s (by omega) h0
theorem zf4 [Inhabited X]{l:List X}{i:Nat}(h:i<l.length):l.take (i+1)=l.take i++[l.getD i zzd]:=by
 rw[List.take_add_one,List.getElem?_eq_getElem h,List.getD_eq_getElem?_getD,List.getElem?_eq_getElem h];rfl
theorem z8c [Inhabited X]{l:List X}{i:Nat}(h:i<l.length):l.getD i zzd∈l:=by
 rw[List.getD_eq_getElem?_getD,List.getElem?_eq_getElem h];exact List.getElem_mem h
@[simp] theorem z3x {s:S} {kn:S→Option Q} {kr:R→Option Q}:outK (some (.done s)) kn kr=kn s:=rfl
@[simp] theorem zm9 {r:R} {kn:S→Option Q} {kr:R→Option Q}:outK (some (.ret r)) kn kr=kr r:=rfl
@[simp] theorem z2f {x y:Option Q}:bf true x y=x:=rfl
@[simp] theorem z0s {x y:Option Q}:bf false x y=y:=rfl
theorem z07 {c:Prop}[Decidable c]{k:Option Q}(h:c):need c k=k:=by unfold need;rw[if_pos h]
@[simp] theorem jn_eq {j:A→Option Q} {k:(A→Option Q)→Option Q}:jn j k=k j:=rfl
@[simp] theorem z0m {p:Prop} [Decidable p] {x y:Option Q}:bf (decide p) x y=if p then x else y:=by by_cases h:p<;>simp[h,bf]
@[simp] theorem zbv {b:Bool} {x y:Option Q}:bf (!b) x y=bf b y x:=by cases b<;>rfl
end
end Go.Av
set_option maxRecDepth 100000
namespace Go.Av
open Go Go.RowKit Go.Proofs
theorem zke {p0:List Value}(h:value_Check p0=some 0):p0.length≤8:=by
 unfold value_Check at h;rw[jn_eq]at h;by_cases h8:8<(p0.length:Int)
 ·rw[decide_eq_true h8]at h;cases h
 ·omega
theorem zep {p0:List Value}{q:ByteArray×Int}(h:z6i p0=some q):Summ Tryz.prog 5 [.c (.d (lD 3 encValue p0))] [] (.tup [(false,[.d (.str q.1)]),(false,[.d (.int .i64 q.2)])]) []:=by
 obtain⟨r,h1,h⟩:=bind_elim h;refine zbs (Go.Proofs.enters_of Tryz.func5 (by kernel_rfl) rfl) fun G φ w vs hG hargs=>?_
 match vs,hargs with
 |[v],⟨hv,_⟩=>
  have hv:RelD (allG w) w (lD 3 encValue p0) v:=RelD.mono (Same.refl _ _) hG hv.1;rcases z2m h with⟨e,h⟩|⟨e,h⟩
  ·cases h;have hr:r≠0:=by simpa using e
   exact(zds h1 hr hv).mono fun e w' ⟨a,b⟩=>⟨_,a,⟨_,rfl,⟨⟨RelD.str _,rfl⟩,⟨RelD.int _ _,rfl⟩,trivial⟩⟩,b⟩
  ·have hr:r=0:=by simpa using e
   subst hr;obtain⟨c,h2,h⟩:=bind_elim h;obtain⟨l,h3,h⟩:=bind_elim h;obtain⟨h4,h⟩:=z03 h;cases h;have h8:=zke h1
   rcases zjz hv with⟨g0,a,cap,rfl⟩|⟨b,off,cap,rfl,g1,g2,g3,g4⟩
   ·obtain rfl:=List.eq_nil_of_length_eq_zero g0;cases h3;exact(zd6 h1 (a:=a) (cap:=cap) h2 (by simpa using h4)).mono fun e w' ⟨a,b⟩=>⟨_,a,⟨_,rfl,⟨⟨by rw[List.append_nil];exact RelD.str _,rfl⟩,⟨RelD.int _ _,rfl⟩,trivial⟩⟩,b⟩
   ·exact(zd5 h1 hv rfl g1 g2 h8 g4 h2 h3 h4).mono fun e w' ⟨a,b⟩=>⟨_,a,⟨_,rfl,⟨⟨RelD.str _,rfl⟩,⟨RelD.int _ _,rfl⟩,trivial⟩⟩,b⟩
end Go.Av
