import Derived.Test.YthiooffeindjdaaGreatS3x1
import Derived.Laws.Externs
import Derived.Lib.Join
import Derived.Lib.Overlaps
import Derived.Shelf.SlSortCmp.NoneTotal
import Derived.Sort.LotA
import Derived.Test.YthiooffeindjdaaGreatProg
import Derived.Shelf.Lay
import Derived.Ground.SlsfProg
import Derived.Ground.NamesProg
set_option maxRecDepth 100000
set_option linter.unusedVariables false
set_option linter.unusedSimpArgs false
set_option linter.unusedSectionVars false
open Go.IntKind renaming i64→zzi, u64→zzu
open Inhabited renaming default→zzd
open Option renaming bind_some→zz0
open Go.Result renaming andThen_ok→zz1
open List renaming mem_append→zz2, mem_cons_self→zz3, replicate→zz6, mem_cons_of_mem→zz7, eq_nil_of_length_eq_zero→zza, length_append→zze, mem_append_right→zzh, mem_cons→zzj, drop_eq_nil_of_le→zzl, mem_append_left→zzo, length_take→zzp, length_cons→zzq
open Go.Sem renaming run_bind→zz4, run_pure→zz9
open Nat renaming eq_of_beq_eq_true→zz5, le_of_ble_eq_true→zzb, zero_add→zzc, le_refl→zzf, blt_eq→zzk
open Int renaming toNat_natCast→zz8
open Bool renaming false_eq_true→zzm, not_true→zzn
open Array renaming length_toList→zzr
/-
 Av,part U:from a function that may have no answer to a walk.
-/
namespace Go.Av
open Go
inductive Ctl (S R:Type) where
 |next (s:S)
 |brk (s:S)
 |ret (r:R)
inductive Out (S R:Type) where
 |done (s:S)
 |ret (r:R)
section
variable {S R Q A:Type}
def z0j (B:Nat→S→Option (Ctl S R)):Nat→Nat→S→Option (Out S R)
 |0,_,s=>some (.done s)
 |k+1,i,s=>match B i s with
  |none=>none
  |some (.next s')=>z0j B k (i+1) s'
  |some (.brk s')=>some (.done s')
  |some (.ret r)=>some (.ret r)
def loopN (B:S→Option (Ctl S R)):Nat→S→Option (Out S R)
 |0,_=>none
 |k+1,s=>match B s with
  |none=>none
  |some (.next s')=>loopN B k s'
  |some (.brk s')=>some (.done s')
  |some (.ret r)=>some (.ret r)
def outK (o:Option (Out S R))(kn:S→Option Q)(kr:R→Option Q):Option Q:=
 match o with
 |none=>none
 |some (.done s)=>kn s
 |some (.ret r)=>kr r
def need (c:Prop)[Decidable c](k:Option Q):Option Q:=if c then k else none
def bf (b:Bool)(x y:Option Q):Option Q:=match b with|true=>x|false=>y
def jn (j:A→Option Q)(k:(A→Option Q)→Option Q):Option Q:=k j
theorem z08 {c:Prop}[Decidable c]{k:Option Q}{q:Q}(h:need c k=some q):c∧k=some q:=by
 unfold need at h;split at h
 ·exact⟨by assumption,h⟩
 ·cases h
theorem z04 {o:Option A}{k:A→Option Q}{q:Q}(h:o.bind k=some q): ∃a,o=some a∧k a=some q:=by
 cases o with
 |none=>cases h
 |some a=>exact⟨a,rfl,h⟩
theorem z2f {b:Bool}{u v:Option Q}{q:Q}(h:bf b u v=some q):(b=true∧u=some q)∨(b=false∧v=some q):=by
 cases b
 ·exact .inr ⟨rfl,h⟩
 ·exact .inl ⟨rfl,h⟩
theorem zi2 {o:Option (Out S R)}{kn:S→Option Q}{kr:R→Option Q}{q:Q}(h:outK o kn kr=some q):
 (∃s,o=some (.done s)∧kn s=some q)∨ ∃r,o=some (.ret r)∧kr r=some q:=by
 unfold outK at h;split at h
 ·cases h
 ·exact .inl ⟨_,rfl,h⟩
 ·exact .inr ⟨_,rfl,h⟩
end
section
variable {E:Env} {s:St} {S R Q A:Type} {post:Exit→St→Prop} {q:Q}
@[reducible] def thenJ (σ:A→St) (j:A→Option Q) (q:Q) (post:Exit→St→Prop):Exit→St→Prop
 | .normal,s=> ∃a,j a=some q∧s=σ a
 |e,s=>post e s
@[reducible] def thenS (E:Env) (y:Code) (post:Exit→St→Prop):Exit→St→Prop
 | .normal,s=>Tri E y s post
 |e,s=>post e s
@[reducible] def inB' (id:Nat) (post:Exit→St→Prop):Exit→St→Prop
 | .exit id',s=>match Nat.beq id' id with|true=>post .normal s|false=>post (.exit id') s
 |e,s=>post e s
theorem z03 {x y:Code}(h:Tri E x s (thenS E y post)):Tri E (.seq x y) s post:=
 Tri.seq (h.mono fun e s hp=>by cases e<;>exact hp)
theorem z0t {x y:Code}(σ:A→St){j:A→Option Q}{k:(A→Option Q)→Option Q}(h:jn j k=some q)(hy: ∀a,j a=some q→Tri E y (σ a) post)
 (hx: ∀j',k j'=some q→Tri E x s (thenJ σ j' q post)):Tri E (.seq x y) s post:=
 z03 ((hx j h).mono fun e s hp=>by
  cases e with
  |normal=>obtain⟨a,h1,rfl⟩:=hp;exact hy a h1
  |_=>exact hp)
theorem z1t {id:Nat}{c:Code}(h:Tri E c s (inB' id post)):Tri E (.block id c) s post:=
 Tri.block (h.mono fun e s hp=>by
  cases e with
  |exit id'=>
   show if id'=id then _ else _;have hp:(match Nat.beq id' id with|true=>post .normal s|false=>post (.exit id') s):=hp
   cases hb:Nat.beq id' id with
   |true=>rw[if_pos (zz5 hb)];rw[hb]at hp;exact hp
   |false=>
    have:id'≠id:=fun e=>by rw[e]at hb;simp at hb
    rw[if_neg this];rw[hb]at hp;exact hp
  |_=>exact hp)
theorem zm6 {c:Operand}{x y:Code}{b:Bool}{u v:Option Q}(hb:evO s c=some (.c (.d (.bool b)))) (h:bf b u v=some q) (ht:u=some q→Tri E x s post) (hf:v=some q→Tri E y s post):
 Tri E (.cond c x y) s post:=
 Tri.cond hb (fun e=>ht (by subst e;exact h)) fun e=>hf (by subst e;exact h)
theorem Tri.keep (tk sk:List Nat){s':St}{c:Code}(hk:Av.keep tk sk s=some s')(h:Tri E c s' post):Tri E c s post:=
 Tri.weaken (fun _ _=>zb0 hk) h
def At (E:Env)(L:List Oper)(i:Nat)(s:St)(K:St→Prop):Prop:=Ops E L.toArray (L.drop i) s K
theorem z05 {id:Nat}{L:List Oper}(h:At E L 0 s (post .normal)):Tri E (.region id L.toArray false) s post:=Tri.region h
variable {L:List Oper} {i:Nat} {K:St→Prop}
theorem At.done (hi:Nat.ble L.length i=true)(h:K s):At E L i s K:=by
 unfold At;rw[zzl (zzb hi)];exact Ops.nil h
theorem At.seg (n:Nat)(tk sk:List Nat){s':St}{c:Prop}(he:z60 E.P E.N L.toArray ((L.drop i).take n) tk sk s=some (s',c))(hc:c)(h:At E L (i+n) s' K):At E L i s K:=by
 unfold At at h ⊢;have:=Ops.seg he hc h
 rwa[←List.drop_drop,List.take_append_drop]at this
theorem At.one {o:Oper}(ho:L[i]?=some o){s':St}(h1:One E L.toArray o s s')(h:At E L (i+1) s' K):At E L i s K:=by
 unfold At at h ⊢;obtain⟨hlt,he⟩:=List.getElem?_eq_some_iff.1 ho;rw[List.drop_eq_getElem_cons hlt,he];exact Ops.one h1 h
theorem At.case (f:Bool→St){b:Bool}{u v:Option Q}(h:bf b u v=some q)(ht:u=some q→At E L i (f true) K)(hf:v=some q→At E L i (f false) K):At E L i (f b) K:=by
 cases b
 ·exact hf h
 ·exact ht h
theorem At.keep (tk sk:List Nat){s':St}(hk:Av.keep tk sk s=some s')(h:At E L i s' K):At E L i s K:=
 fun a w hs=>h a w (zb0 hk hs)
theorem At.call {o:Oper}{cl:Call}{f:FuncId}{caps:List D}{xs args:List AV}{res:AV}(ho:L[i]?=some o)
 (hop:o.op= .call cl) (hw:z0l L.toArray s o=some true) (hd:dstOk E.N o.dst=true) (hc:z6k s cl=some (f,caps)) (hx:z7y s cl caps=some xs)
 (hle:AVsArg s xs args) (hfl:z6n args=true) (hsol:res.solid=true) (hS:Summ E.P f args [] res []) (h:At E L (i+1) (putO s o.dst res) K):At E L i s K:=
 At.one ho (One.call hop hw hd hc hx hle hfl hsol hS) h
theorem At.callP {o:Oper}{cl:Call}{f:FuncId}{caps:List D}{args:List AV}{res:AV}(hS:Summ E.P f args [] res [])(ho:L[i]?=some o)
 (hop:o.op= .call cl) (hw:z0l L.toArray s o=some true) (hd:dstOk E.N o.dst=true) (hc:z6k s cl=some (f,caps)) (hx:z7y s cl caps=some args)
 (hfl:z6n args=true) (hsol:res.solid=true) (h:At E L (i+1) (putO s o.dst res) K):At E L i s K:=
 At.one ho (One.call hop hw hd hc hx (AVsArg.refl _ _) hfl hsol hS) h
theorem At.le (fz:List Nat)(hfz: ∀k∈fz,k∉E.lk)(s':St)(ht:LeT s fz s'.tm)(hs:LeS s fz s'.sl)(h:At E L i s' K):At E L i s K:=
 Ops.le fz hfz s' ht hs h
theorem z34 {X:Type}[Inhabited X](e:X→List D)(xs:List X)(i:Nat)(hi:i<xs.length):e (xs.getD i zzd)=(xs.map e).getD (0+i) []:=by
 rw[zzc,List.getD_eq_getElem?_getD,List.getD_eq_getElem?_getD,List.getElem?_map,List.getElem?_eq_getElem hi];rfl
def z27 (k:IntKind)(n:Int):List D:=[.int k n]
def bs (l:List Nat):ByteArray:=⟨(l.map UInt8.ofNat).toArray⟩
theorem Tri.lenOf {t es n:Nat}{get:Nat→List D}{c:Code}(ht:look s.tm t=some (.c (.d (.list es n get)))) (h:n≤maxN→Tri E c s post):Tri E c s post:=fun a w hs=>by
 obtain⟨G,φ,hs'⟩:=hs;obtain⟨v,_,hr⟩:=hs'.tm t _ ht;have hr:RelD G w (.list es n get) v:=hr.1
 have hn:n≤maxN:=by
  cases hr with
  |empty _ _ _ _=>exact Nat.zero_le _
  |list _ _ _ _ _ _ _ _ _ hm _ _ _=>exact hm
 exact h hn a w ⟨G,φ,hs'⟩
theorem zlb {t es n:Nat}{get:Nat→List D}{c:Code}(ht:look s.tm t=some (.c (.view es n get)))(h:n≤maxN→Tri E c s post):Tri E c s post:=fun a w hs=>by
 obtain⟨G,φ,hs'⟩:=hs;obtain⟨v,_,hr⟩:=hs'.tm t _ ht;have hn:n≤maxN:=by
  rcases hr.1 with⟨h0,_⟩|⟨_,_,_,_,_,_,hm,_⟩
  ·omega
  ·exact hm
 exact h hn a w ⟨G,φ,hs'⟩
theorem z64 {t k es off n N:Nat}{get:Nat→List D}{c:Code}(ht:look s.tm t=some (.c (.own k es off n)))(hk:look s.sl k=some (.vec es N get))(hn:n≤N)(h:n≤maxN→Tri E c s post):Tri E c s post:=fun a w hs=>by
 obtain⟨G,φ,hs'⟩:=hs;obtain⟨h1,_⟩:=hs'.sl k _ hk;exact h (by omega) a w ⟨G,φ,hs'⟩
def idx (ti i:Nat)(s:St):St:=s.put ti (.c (.d (.int .i64 (i:Int))))
@[reducible] def ziw (cid b ti:Nat) (σ F:S→St) (RT:R→St→Prop) (i:Nat):Ctl S R→Exit→St→Prop
 | .next st,.normal,s=>s=idx ti i (σ st)
 | .next st,.exit id,s=>id=cid∧s=idx ti i (σ st)
 | .brk st,.exit id,s=>id=b∧s=F st
 | .ret x,.ret,s=>RT x s
 |_,_,_=>False
@[reducible] def ze5 (b:Nat) (σ F:S→St) (RT:R→St→Prop):Ctl S R→Exit→St→Prop
 | .next st,.normal,s=>s=σ st
 | .brk st,.exit id,s=>id=b∧s=F st
 | .ret x,.ret,s=>RT x s
 |_,_,_=>False
@[reducible] def zky (F:S→St) (RT:R→St→Prop):Out S R→Exit→St→Prop
 | .done st,.normal,s=>s=F st
 | .ret x,.ret,s=>RT x s
 |_,_,_=>False
theorem zhj {b:Nat}{c:Code}{B:S→Option (Ctl S R)}(RT:R→St→Prop)(σ F:S→St){fuel:Nat}{st0:S}{o:Out S R}(h:loopN B fuel st0=some o)
 (hround: ∀st r,B st=some r→Tri E c (σ st) (ze5 b σ F RT r)):Tri E (.block b (.loop c)) (σ st0) (zky F RT o):=by
 refine Tri.block (Tri.loop (fun n s=> ∃st,s=σ st∧loopN B n st=some o) ?_ (n:=fuel) ⟨st0,rfl,h⟩);rintro n s ⟨st,rfl,hn⟩;cases n with
 |zero=>cases hn
 |succ n=>
  simp only[loopN]at hn;cases hB:B st with
  |none=>rw[hB]at hn;cases hn
  |some r=>
   rw[hB]at hn;refine(hround st r hB).mono fun e s' hp=>?_;cases r with
   |next st'=>
    cases e with
    |normal=>exact⟨n,Nat.lt_succ_self _,st',hp,hn⟩
    |_=>exact hp.elim
   |brk st'=>
    cases hn;cases e with
    |exit id=>
     obtain⟨rfl,rfl⟩:=hp;show inB id _ (.exit id) _;simp[inB]
    |_=>exact hp.elim
   |ret x=>
    cases hn;cases e with
    |ret=>exact hp
    |_=>exact hp.elim
theorem zlc {b:Nat}{c:Code}{B:Nat→S→Option (Ctl S R)}(RT:R→St→Prop)(σ:Nat→S→St)(F:S→St){n:Nat}{st0:S}{o:Out S R}(h:z0j B n 0 st0=some o)
 (hround: ∀i st r,i<n→B i st=some r→Tri E c (σ i st) (match r with| .next st'=>fun e s=>e= .normal∧s=σ (i+1) st'| .brk st'=>fun e s=>e= .exit b∧s=F st'| .ret x=>fun e s=>e= .ret∧RT x s))
 (hstop: ∀st,Tri E c (σ n st) (fun e s=>e= .exit b∧s=F st)):Tri E (.block b (.loop c)) (σ 0 st0) (zky F RT o):=by
 refine Tri.block (Tri.loop (fun m s=> ∃i st,m+i=n∧s=σ i st∧z0j B m i st=some o) ?_ (n:=n) ⟨0,st0,by omega,rfl,h⟩);rintro m s ⟨i,st,hm,rfl,hn⟩;cases m with
 |zero=>
  cases hn;have:i=n:=by omega
  subst this;refine(hstop st).mono fun e s' ⟨h1,h2⟩=>?_;subst h1 h2;show inB b _ (.exit b) _;simp[inB]
 |succ m=>
  simp only[z0j]at hn;cases hB:B i st with
  |none=>rw[hB]at hn;cases hn
  |some r=>
   rw[hB]at hn;refine(hround i st r (by omega) hB).mono fun e s' hp=>?_;cases r with
   |next st'=>
    obtain⟨rfl,rfl⟩:=hp;exact⟨m,Nat.lt_succ_self _,i+1,st',by omega,rfl,hn⟩
   |brk st'=>
    cases hn;obtain⟨rfl,rfl⟩:=hp;show inB b _ (.exit b) _;simp[inB]
   |ret x=>
    cases hn;obtain⟨rfl,hp⟩:=hp;exact hp
theorem       z9l {b : Nat} {c : Code} {B : S → Option (Ctl S R)} {kn : S → Option Q} {kr : R → Option Q} {st0 : S} {fuel : Nat} (RT : R → St → Prop) (σ F : S → St)
    (h : outK (loopN B fuel st0) kn kr = some q) (hround : ∀ st r, B st = some r → Tri E c (σ st) (      ze5 b σ F RT r))
    (hrest : ∀ st, kn st = some q → post .normal (F st)) (hret : ∀ x s', kr x = some q → RT x s' → post .ret s') : Tri E (.block b (.loop c)) (σ st0) post := by
  obtain ⟨s', ho, hk⟩ | ⟨x, ho, hk⟩ :=       zi2 h
  · refine (      zhj RT σ F ho hround).mono fun e s hp => ?_
    cases e with
    | normal => have hp : s = F s' := hp
                subst hp; exact hrest _ hk
    | _ => exact hp.elim
  · refine (      zhj RT σ F ho hround).mono fun e s hp => ?_
    cases e with
    | ret => exact hret _ _ hk hp
    | _ => exact hp.elim
theorem znp {i:Nat}(h:i<maxN):zzi.wrap ((i:Int)+1)=((i+1:Nat):Int):=by
 unfold maxN at h;rw[z23 (by omega) (by omega)];simp
theorem Tri.range {ti tc n b cid id1 id2 : Nat} {L1 L2 : List Oper} {body : Code} {B : Nat → S → Option (Ctl S R)} {kn : S → Option Q} {kr : R → Option Q} {st0 : S} (RT : R → St → Prop) (σ F : S → St) (bb : Nat → Bool)
    (tk sk tkF skF tk2 sk2 : List Nat) (h : outK (   z0j B n 0 st0) kn kr = some q) (hn : n ≤ maxN) (hbc : Nat.beq b cid = false)
    (h1 : ∀ i st, ∃ c,     z60 E.P E.N L1.toArray L1 tk sk (idx ti i (σ st)) = some ((idx ti i (σ st)).put tc (.c (.d (.bool (bb i)))), c) ∧ c)
    (hbt : ∀ i, i < n → bb i = true) (hbf : bb n = false) (hF : ∀ st, Av.keep tkF skF ((idx ti n (σ st)).put tc (.c (.d (.bool false)))) = some (F st))
    (h2 : ∀ i st, ∃ c,     z60 E.P E.N L2.toArray L2 tk2 sk2 (idx ti i (σ st)) = some ((σ st).put ti (.c (.d (.int .i64 (        zzi.wrap ((i : Int) + 1))))), c) ∧ c)
    (hbody : ∀ i st c, i < n → B i st = some c → Tri E body ((idx ti i (σ st)).put tc (.c (.d (.bool true)))) (     ziw cid b ti σ F RT i c))
    (hrest : ∀ st, kn st = some q → post .normal (F st)) (hret : ∀ x s', kr x = some q → RT x s' → post .ret s') :
    Tri E (.block b (.loop (.seq (.region id1 L1.toArray false) (.seq (.cond (.tmp tc) .skip (.exit b)) (.seq (.block cid body) (.region id2 L2.toArray false)))))) (idx ti 0 (σ st0)) post := by
  have hfirst : ∀ i st post', Tri E (.seq (.cond (.tmp tc) .skip (.exit b)) (.seq (.block cid body) (.region id2 L2.toArray false))) ((idx ti i (σ st)).put tc (.c (.d (.bool (bb i))))) post' →
      Tri E (.seq (.region id1 L1.toArray false) (.seq (.cond (.tmp tc) .skip (.exit b)) (.seq (.block cid body) (.region id2 L2.toArray false)))) (idx ti i (σ st)) post' := fun i st post' ht => by
    obtain ⟨c, e1, e2⟩ := h1 i st
    refine      z03 (Tri.region ?_)
    have := Ops.seg (rest := []) e1 e2 (Ops.nil (K := (thenS E _ post') .normal) ht)
    simpa using this
  have hlook : ∀ i st (x : Bool), evO ((idx ti i (σ st)).put tc (.c (.d (.bool x)))) (.tmp tc) = some (.c (.d (.bool x))) := fun i st x => by
    simp [evO, St.put,       z0y]
  obtain ⟨s', ho, hk⟩ | ⟨x, ho, hk⟩ :=       zi2 h
  all_goals
    refine (       zlc (E := E) (b := b) RT (fun i st => idx ti i (σ st)) F ho (fun i st r hi hB => hfirst i st _ ?_) (fun st => hfirst n st _ ?_)).mono fun e s' hp => ?_
  case inl.refine_1 | inr.refine_1 =>
    rw [hbt i hi]
    refine      z03 (Tri.cond (hlook i st true) (fun _ => Tri.skip ?_) (fun e => by cases e))
    refine      z03 (       z1t ((hbody i st r hi hB).mono fun e s' hp => ?_))
    have fin : ∀ st', s' = idx ti i (σ st') → Tri E (.region id2 L2.toArray false) s' (fun e s => e = .normal ∧ s = idx ti (i + 1) (σ st')) := fun st' e => by
      subst e
      obtain ⟨c, e1, e2⟩ := h2 i st'
      refine Tri.region ?_
      have := Ops.seg (rest := []) e1 e2 (Ops.nil (K := fun s => Exit.normal = .normal ∧ s = idx ti (i + 1) (σ st')) ⟨rfl, by rw [      znp (by omega)]; rfl⟩)
      simpa using this
    cases r with
    | next st' =>
      cases e with
      | normal => exact fin st' hp
      | exit id =>
        obtain ⟨rfl, hp⟩ := hp
        show (match Nat.beq id id with | true => _ | false => _)
        rw [Nat.beq_refl]
        exact fin st' hp
      | _ => exact hp.elim
    | brk st' =>
      cases e with
      | exit id =>
        obtain ⟨rfl, hp⟩ := hp
        show (match Nat.beq id cid with | true => _ | false => _)
        rw [hbc]
        exact ⟨rfl, hp⟩
      | _ => exact hp.elim
    | ret x =>
      cases e with
      | ret => exact ⟨rfl, hp⟩
      | _ => exact hp.elim
  case inl.refine_2 | inr.refine_2 =>
    rw [hbf]
    refine      z03 (Tri.cond (hlook n st false) (fun e => by cases e) (fun _ => Tri.keep tkF skF (hF st) (Tri.exit ⟨rfl, rfl⟩)))
  case inl.refine_3 =>
    cases e with
    | normal => have hp : s' = F _ := hp
                subst hp; exact hrest _ hk
    | _ => exact hp.elim
  case inr.refine_3 =>
    cases e with
    | ret => exact hret _ _ hk hp
    | _ => exact hp.elim
end
end Go.Av
/-
 Av,part W:rules over lists.
-/
namespace Go.Av
open Go
theorem zjp {X:Type}[Inhabited X](e:X→List D)(xs:List X)(m:Nat): ∀i,i<m→e (xs.getD i zzd)=(fun i=>e (xs.getD i zzd)) (0+i):=fun i _=>by
 show _=e (xs.getD (0+i) zzd);rw[zzc]
theorem zdw {X:Type}[Inhabited X](xs ys:List X)(i:Nat):(xs++ys).getD i zzd=if i<xs.length then xs.getD i zzd else ys.getD (i-xs.length) zzd:=by
 simp only[List.getD_eq_getElem?_getD,List.getElem?_append];split<;>rfl
section
variable {E:Env} {s:St} {X:Type} [Inhabited X]
theorem AppOk.of {P:Program}{sT xT e:TypeId}{es:Nat}(e':TypeId)(bs:Nat)(z:List C)(h1:P.underlying sT=some (.slice e))(h2:P.underlying xT=some (.slice e'))(h3:sizeT P e=some es)
 (h4:z73 P e=some bs) (h5:Nat.ble bs 256=true) (h6:zeroCells P e=some z) (h7:Nat.beq z.length es=true):AppOk P sT xT e es:=
 ⟨h1,⟨e',h2⟩,h3,⟨bs,h4,zzb h5⟩,⟨z,h6,zz5 h7⟩⟩
theorem z7r {ops:Array Oper}{o:Oper}{t e:TypeId}{es d:Nat}
 (hop:o.op= .buildSlice t 0 #[]) (hw:z0l ops s o=some true) (hd:o.dst=some d) (hlt:Nat.blt d E.N=true) (hu:E.P.underlying t=some (.slice e)) (hsz:sizeT E.P e=some es):
 One E ops o s (s.put d (.c .zero)):=fun a w hs=>by
 obtain⟨G,φ,h⟩:=hs;refine⟨z14 h hw,fun next Q hn=>?_⟩;have hrun:(Instr.buildSlice t 0 ((#[]:Array (Nat×Operand)).map fun p=>(p.1,a.eval p.2))).run E.P w= .ok (.slice (some ⟨w.heap.size,0,none⟩) 0 0) (w.alloc (.cells #[] e)):=by
  unfold Instr.buildSlice;simp only[zz4,run_underlying hu,zz1,z1r hsz];have hr0: ∀f:Nat→Value,(Array.range 0).map f= #[]:=fun f=>by simp
  simp[z50,Instr.fill,hr0]
 unfold Oper.wp;have he:execOp a.eval o=(do pure (.value (←Instr.buildSlice t 0 ((#[]:Array (Nat×Operand)).map fun p=>(p.1,a.eval p.2)))):Sem Next):=by unfold execOp;rw[hop]
 rw[he];simp only[zz4,hrun,zz1,zz9,Oper.upon,hd];have hk:Keep w.heap.size (fun _=>False) w (w.alloc (.cells #[] e)):=⟨rfl,⟨rfl,zzf _⟩,rfl,by simp,fun b hb _=>by
  show(w.heap.push _)[b]?=_;rw[Array.getElem?_push,if_neg (by omega)]⟩
 have hg:=h.grow hk (fun _ hb=>hb) (fun _ hb=> .inl hb) fun b hb=>by have:=h.gsz b hb;simp;omega
 exact hn _ _ ⟨G,φ,hg.put (zzk.mp hlt) (z0f ⟨_,rfl⟩ rfl)⟩
theorem z3v {ops:Array Oper}{o:Oper}{d k:Nat}{sT xT e:TypeId}{es:Nat}{b x:Operand}{y:AV}(enc:X→List D)(xs ys:List X)(hkx:anyB (Nat.beq k) E.fx=false)
 (hop:o.op= .call ⟨.builtin .append, #[b,x], #[sT,xT]⟩) (hw:z0l ops s o=some true) (hd:o.dst=some d) (hlt:Nat.blt d E.N=true)
 (hok:AppOk E.P sT xT e es) (hb:evO s b=some (.c (.own k es 0 xs.length))) (hk:look s.sl k=some (.vec es xs.length (fun i=>enc (xs.getD i zzd)))) (hx:evO s x=some y)
 (hsrc:SrcOf s y es ys.length (fun i=>enc (ys.getD i zzd))) (hlim:xs.length+ys.length≤lim):
 One E ops o s (((s.drop k).slot k (.vec es (xs++ys).length (fun i=>enc ((xs++ys).getD i zzd)))).put d (.c (.own k es 0 (xs++ys).length))):=by
 have:=zib hkx hop hw hd hlt hok hb hk (zzf _) hx hsrc hlim;rw[zze];have hg:z8o xs.length (fun i=>enc (xs.getD i zzd)) (fun i=>enc (ys.getD i zzd))=fun i=>enc ((xs++ys).getD i zzd):=by
  funext i;unfold z8o;rw[zdw];split<;>rfl
 rw[hg]at this;exact this
theorem zdg {ops:Array Oper}{o:Oper}{d:Nat}{t e:TypeId}{es bs:Nat}{ln cp:Operand}{kn kc:IntKind}{n c:Int}{z:List C}(enc:X→List D)(x:X)
 (hop:o.op= .makeSlice t ln cp) (hw:z0l ops s o=some true) (hd:o.dst=some d) (hlt:Nat.blt d E.N=true) (hnr:s.noRef d=true)
 (hu:E.P.underlying t=some (.slice e)) (hsz:sizeT E.P e=some es) (hes:Nat.blt 0 es=true) (hbs:z73 E.P e=some bs) (hb:Nat.ble bs 256=true)
 (hz:zeroCells E.P e=some z) (hze:Nat.beq z.length es=true) (hcs:CsLe s [] z ((enc x).map .d)) (hdl:Nat.beq (enc x).length es=true)
 (hn:evO s ln=some (.c (.d (.int kn n)))) (hc:evO s cp=some (.c (.d (.int kc c)))) (hb0:0≤n) (hnc:n≤c) (hlim:c≤lim) (hdef:enc zzd=enc x):
 One E ops o s ((s.slot d (.vec es (zz6 n.toNat x).length (fun i=>enc ((zz6 n.toNat x).getD i zzd)))).put d (.c (.own d es 0 (zz6 n.toNat x).length))):=by
 have:=One.makeSlice hop hw hd hlt hnr hu hsz hes hbs hb hz hze hcs hdl hn hc hb0 hnc hlim;rw[List.length_replicate];have hg:(fun _:Nat=>enc x)=fun i=>enc ((zz6 n.toNat x).getD i zzd):=by
  funext i;rw[List.getD_eq_getElem?_getD,List.getElem?_replicate];split
  ·rfl
  ·exact hdef.symm
 rw[hg]at this;exact this
theorem z1x {ops:Array Oper}{o:Oper}{t:TypeId}{p v:Operand}{k es i o0 sz:Nat}{y:AV}{xs:List C}{ds:List D}(enc:X→List D)(ys:List X)(x:X)
 (hop:o.op= .store t p v) (hw:z0l ops s o=some true) (hd:dstOk E.N o.dst=true) (hp:evO s p=some (.c (.vptr k es i o0))) (hk:look s.sl k=some (.vec es ys.length (fun i=>enc (ys.getD i zzd)))) (hi:i<ys.length)
 (hx:evO s v=some y) (hst:z7o y=some xs) (hcs:CsLe s [] xs (ds.map .d)) (hsz:sizeT E.P t=some sz) (hle:Nat.beq sz ds.length=true) (hin:Nat.ble (o0+ds.length) es=true)
 (hwr:wrD (enc (ys.getD i zzd)) o0 ds=enc x):
 One E ops o s (putO (s.slot k (.vec es (ys.set i x).length (fun j=>enc ((ys.set i x).getD j zzd)))) o.dst (.c .any)):=by
 have:=zid hop hw hd hp hk hi hx hst hcs hsz hle hin;rw[List.length_set];have hg:ze7 (fun i=>enc (ys.getD i zzd)) i (wrD (enc (ys.getD i zzd)) o0 ds)=fun j=>enc ((ys.set i x).getD j zzd):=by
  funext j;unfold ze7;by_cases e:j=i
  ·subst e;rw[if_pos rfl,hwr,List.getD_eq_getElem?_getD,List.getElem?_set_self hi];rfl
  ·rw[if_neg e];show enc (ys.getD j zzd)=enc ((ys.set i x).getD j zzd);rw[List.getD_eq_getElem?_getD,List.getD_eq_getElem?_getD,List.getElem?_set_ne (fun h=>e h.symm)]
 rw[hg]at this;exact this
def sub (xs:List X)(l h:Int):List X:=(xs.drop l.toNat).take (h.toNat-l.toNat)
theorem zm0 {xs:List X}{l h:Int}(h0:0≤l)(h1:l≤h)(h2:h≤(xs.length:Int)):(Av.sub xs l h).length=h.toNat-l.toNat:=by
 unfold sub;rw[zzp,List.length_drop];omega
theorem zos {xs:List X}{l h:Int}{i:Nat}(hi:i<h.toNat-l.toNat):(Av.sub xs l h).getD i zzd=xs.getD (l.toNat+i) zzd:=by
 unfold sub;rw[List.getD_eq_getElem?_getD,List.getD_eq_getElem?_getD,List.getElem?_take,if_pos hi,List.getElem?_drop]
theorem zns {fz:List Nat}{es:Nat}(enc:X→List D){xs:List X}{l h:Int}(h0:0≤l)(h1:l≤h)(h2:h≤(xs.length:Int)):
 CLe s fz (.d (.list es (h.toNat-l.toNat) (fun i=>enc (xs.getD (l.toNat+i) zzd)))) (.d (.list es (Av.sub xs l h).length (fun i=>enc ((Av.sub xs l h).getD i zzd)))):=
 .list (zm0 h0 h1 h2) fun i hi=>by rw[zos hi]
theorem SimE.newOwn {a:Act}{w:World}(h:SimE E s a w){t k es:Nat}{get:Nat→List D}(hkx:anyB (Nat.beq k) E.fx=false)(hz:look s.tm t=some (.c .zero))(hk:s.noRef k=true):
 SimE E ((s.slot k (.vec es 0 get)).put t (.c (.own k es 0 0))) a w:=by
 obtain⟨G,φ,h⟩:=h;have hs:=h.newVec0 (z9i hkx) hk es get
 obtain⟨v,hv,hr⟩:=h.tm t _ hz;refine⟨G,upd φ k none,{hs with tm:=fun t' x hx=>?_}⟩;simp only[St.put,z0y]at hx;by_cases e:t=t'
 ·subst e;rw[if_pos rfl]at hx;cases hx;obtain⟨A,rfl⟩:=hr.1;exact⟨_,hv,z0f (.inl ⟨rfl,A,rfl⟩) rfl⟩
 ·rw[if_neg e]at hx;exact hs.tm t' x hx
theorem Tri.newOwn {c:Code}{post:Exit→St→Prop}{t k es:Nat}(get:Nat→List D)(hkx:anyB (Nat.beq k) E.fx=false)(hz:look s.tm t=some (.c .zero))(hk:s.noRef k=true)
 (h:Tri E c ((s.slot k (.vec es 0 get)).put t (.c (.own k es 0 0))) post):Tri E c s post:=fun a w hs=>h a w (hs.newOwn hkx hz hk)
theorem At.newOwn {L:List Oper}{i:Nat}{K:St→Prop}{t k es:Nat}(get:Nat→List D)(hkx:anyB (Nat.beq k) E.fx=false)(hz:look s.tm t=some (.c .zero))(hk:s.noRef k=true)
 (h:At E L i ((s.slot k (.vec es 0 get)).put t (.c (.own k es 0 0))) K):At E L i s K:=fun a w hs=>h a w (hs.newOwn hkx hz hk)
theorem At.eqS {L:List Oper}{i:Nat}{K:St→Prop}(s':St)(e:s=s')(h:At E L i s' K):At E L i s K:=e▸h
theorem Tri.eqS {c:Code}{post:Exit→St→Prop}(s':St)(e:s=s')(h:Tri E c s' post):Tri E c s post:=e▸h
theorem At.callA {L:List Oper}{i:Nat}{K:St→Prop}{o:Oper}{cl:Call}{f:FuncId}{caps:List D}{xs args:List AV}{res:AV}(hS:Summ E.P f args [] res [])(ho:L[i]?=some o)
 (hop:o.op= .call cl) (hw:z0l L.toArray s o=some true) (hd:dstOk E.N o.dst=true) (hc:z6k s cl=some (f,caps)) (hx:z7y s cl caps=some xs) (hle:AVsArg s xs args)
 (hfl:z6n args=true) (hsol:res.solid=true) (h:At E L (i+1) (putO s o.dst res) K):At E L i s K:=
 At.one ho (One.call hop hw hd hc hx hle hfl hsol hS) h
theorem AVArg.view {k es:Nat}(enc:X→List D)(xs:List X)(hk:look s.sl k=some (.vec es xs.length (fun i=>enc (xs.getD i zzd)))):
 AVArg s (.c (.own k es 0 xs.length)) (.c (.view es xs.length (fun i=>enc (xs.getD i zzd)))):=
 .c (.own hk (by omega) rfl (zjp enc xs _))
theorem CLe.frozen {k es:Nat}{fz:List Nat}(enc:X→List D)(xs:List X)(hk:look s.sl k=some (.vec es xs.length (fun i=>enc (xs.getD i zzd)))) (hf:k∈fz):
 CLe s fz (.own k es 0 xs.length) (.d (.list es xs.length (fun i=>enc (xs.getD i zzd)))):=
 .own hk hf (by omega) rfl (zjp enc xs _)
theorem zdh {G:Nat→Prop}{φ:Nat→Option Loc}{a:Act}{w:World}{tm:List (Nat×AV)}{sl:List (Nat×Slot)}{k es n:Nat}{get get':Nat→List D}
 (h:Sim E ⟨tm,(k,.vec es n get)::sl⟩ G φ a w) (hg: ∀i,i<n→get' i=get i):Sim E ⟨tm,(k,.vec es n get')::sl⟩ G φ a w:=by
 have hin: ∀k' c,look ((k,Slot.vec es n get')::sl) k'=some c→(k'=k∧c= .vec es n get')∨(k'≠k∧look ((k,Slot.vec es n get)::sl) k'=some c):=fun k' c hc=>by
  rw[z0y]at hc;by_cases e:k=k'
  ·subst e;rw[if_pos rfl]at hc;cases hc;exact .inl ⟨rfl,rfl⟩
  ·rw[if_neg e]at hc;exact .inr ⟨fun x=>e x.symm,by rw[z0y,if_neg e];exact hc⟩
 have hk:look ((k,Slot.vec es n get)::sl) k=some (.vec es n get):=by simp[z0y]
 have hex: ∀k' c,look ((k,Slot.vec es n get')::sl) k'=some c→ ∃c0,look ((k,Slot.vec es n get)::sl) k'=some c0:=fun k' c hc=>by
  rcases hin k' c hc with⟨rfl,_⟩|⟨_,h⟩
  ·exact⟨_,hk⟩
  ·exact⟨_,h⟩
 exact
 {h with
  sl:=fun k' c hc=>by
   rcases hin k' c hc with⟨rfl,rfl⟩|⟨_,hc⟩
   ·obtain⟨h1,h2⟩:=h.sl _ _ hk;exact⟨h1,h2.imp id fun⟨l,hl,hn,ht,he⟩=>⟨l,hl,hn,ht,fun i hi=>by rw[hg i hi];exact he i hi⟩⟩
   ·exact h.sl k' c hc
  inj:=fun k1 k2 c1 c2 l1 l2 h1 h2=>by
   obtain⟨_,h1⟩:=hex _ _ h1;obtain⟨_,h2⟩:=hex _ _ h2;exact h.inj _ _ _ _ _ _ h1 h2
  own:=fun k' c l h1 h2=>by
   obtain⟨_,h1⟩:=hex _ _ h1;exact h.own _ _ _ h1 h2
  fix:=fun k' c hx h1=>by
   obtain⟨_,h1⟩:=hex _ _ h1;exact h.fix _ _ hx h1}
theorem z4f {ops:Array Oper}{o:Oper}{t e:TypeId}{len es d:Nat}{parts:Array (Nat×Operand)}{z cells:List C}(enc:X→List D)(xs:List X)
 (hop:o.op= .buildSlice t len parts) (hw:z0l ops s o=some true) (hd:o.dst=some d) (hlt:Nat.blt d E.N=true) (hnr:s.noRef d=true)
 (hu:E.P.underlying t=some (.slice e)) (hsz:sizeT E.P e=some es) (hz:zeroCells E.P e=some z) (hze:Nat.beq z.length es=true) (hes:Nat.blt 0 es=true) (hle:Nat.ble (len*es) 16777216=true)
 (hf:fillC (fun i=>some (i*es,es)) (repC z (len*es)) (parts.toList.map fun p=>(p.1,evO s p.2))=some cells) (hlen:Nat.beq xs.length len=true) (hall:AllLe s es cells (xs.map enc)):
 One E ops o s ((s.slot d (.vec es xs.length (fun i=>enc (xs.getD i zzd)))).put d (.c (.own d es 0 xs.length))):=by
 have hl:=zz5 hlen;refine(One.buildSlice hop hw hd hlt hnr hu hsz hz hze hes hle hf (by simpa using hlen) hall).weaken fun a w hs=>?_;obtain⟨G,φ,h⟩:=hs;rw[hl];exact⟨G,φ,zdh h fun i hi=>by
  have:=z34 enc xs i (by omega);rw[zzc]at this;exact this⟩
theorem zii {P:Program}{w:World}{t e:TypeId}(hu:P.underlying t=some (.slice e))(D:Nat)(A:Option Addr)(n cap:Nat):
 (Op.equalIn (D+1) t (.slice A n cap) (.slice none 0 0)).run P w= .ok A.isNone w:=by
 simp only[Op.equalIn,zz4,run_underlying hu,zz1];cases A<;>rfl
theorem z8h {P:Program}{w:World}{t e:TypeId}{x:Operand}(hu:P.underlying t=some (.slice e))(A:Option Addr)(n cap:Nat):
 (do eqGuard .eql t x (.const (.slice none 0 0)) (.slice A n cap) (.slice none 0 0);Go.binOp .eql t (.slice A n cap) (.slice none 0 0):Sem Value).run P w= .ok (.bool A.isNone) w:=by
 have h1:(eqGuard .eql t x (.const (.slice none 0 0)) (.slice A n cap) (.slice none 0 0)).run P w= .ok () w:=rfl;have h2:(Op.equal t (.slice A n cap) (.slice none 0 0)).run P w= .ok A.isNone w:=zii hu 9999 A n cap
 have h3:(Go.binOp .eql t (.slice A n cap) (.slice none 0 0)).run P w= .ok (.bool A.isNone) w:=by
  show(do pure (.bool (←Op.equal t (.slice A n cap) (.slice none 0 0))):Sem Value).run P w=_;simp only[zz4,h2,zz1,zz9]
 simp only[zz4,h1,zz1,h3]
theorem za3 {L:List Oper}{i:Nat}{K:St→Prop}{o:Oper}{t e yt:TypeId}{x:Operand}{es n d:Nat}{get:Nat→List D}(ho:L[i]?=some o)
 (hop:o.op= .binOp .eql t x (.const (.slice none 0 0)) yt) (hw:z0l L.toArray s o=some true) (hd:o.dst=some d) (hlt:Nat.blt d E.N=true)
 (hu:E.P.underlying t=some (.slice e)) (hx:evO s x=some (.c (.d (.list es n get))))
 (h1:n=0→At E L (i+1) (s.put d (.c (.d (.bool true)))) K) (h2:At E L (i+1) (s.put d (.c (.d (.bool false)))) K):At E L i s K:=fun a w hs Q hQ=>by
 obtain⟨hlt',he⟩:=List.getElem?_eq_some_iff.1 ho;rw[List.drop_eq_getElem_cons hlt',he];obtain⟨G,φ,h⟩:=hs;unfold wpList;rw[if_pos (z14 h hw)];left;have hv:RelD G w (.list es n get) (a.eval x):=(h.ev hx).1
 have hex:execOp a.eval o=(do pure (.value (←(do eqGuard .eql t x (.const (.slice none 0 0)) (a.eval x) (.slice none 0 0);Go.binOp .eql t (a.eval x) (.slice none 0 0):Sem Value))):Sem Next):=by unfold execOp;rw[hop];rfl
 have key: ∀b,(do eqGuard .eql t x (.const (.slice none 0 0)) (a.eval x) (.slice none 0 0);Go.binOp .eql t (a.eval x) (.slice none 0 0):Sem Value).run E.P w= .ok (.bool b) w→(b=true→n=0)→o.wp E.P a w (wpList E.P L.toArray Q (L.drop (i+1))) Q:=fun b hb hn=>by
  unfold Oper.wp;rw[hex];simp only[zz4]at hb ⊢;rw[hb];simp only[zz1,zz9,Oper.upon,hd];have hp:SimE E (s.put d (.c (.d (.bool b)))) (a.put (some d) (.bool b)) w:=⟨G,φ,h.put (zzk.mp hlt) (z0f (RelD.bool _) rfl)⟩
  cases b with
  |true=>exact h1 (hn rfl) _ _ hp Q hQ
  |false=>exact h2 _ _ hp Q hQ
 generalize a.eval x=u at*;cases hv with
 |empty _ _ A cap=>
  cases A with
  |none=>exact key true (z8h hu _ _ _) fun _=>rfl
  |some A=>exact key false (z8h hu _ _ _) fun _=>rfl
 |list _ _ _ b off cap vals hG hn hm hc hl hr=>exact key false (z8h hu _ _ _) fun e=>by cases e
theorem z0i {ops:Array Oper}{o:Oper}{x:DOp}(f:Bool→Step){p v:Bool}(hp:p=v)(hw: ∀r,z0l ops (x.need.app r) o=some true)(he: ∀r,z39 E.P (x.need.app r) o.dst o.op=some (f p))(hc:(f v).cond)
 (hok:okDst E.N x.need o.dst (f v)=true) (hm:mksOk x.mks (f v) o.dst=true)
 (heff: ∀r,z9y (x.need.app r) o.dst (f v)=x.eff.app (x.need.app r)):DOk E ops o x:=
 DOk.step (f v) hw (fun r=>hp▸he r) hc hok hm heff
theorem DOk.callA {ops:Array Oper}{o:Oper}{x:DOp}{cl:Call}{f:FuncId}{caps:List D}{xs args:List AV}{res:AV}(hS:Summ E.P f args [] res [])
 (hop:o.op= .call cl) (hw: ∀r,z0l ops (x.need.app r) o=some true) (hd:dstOk E.N o.dst=true) (hc: ∀r,z6k (x.need.app r) cl=some (f,caps)) (hx: ∀r,z7y (x.need.app r) cl caps=some xs)
 (hle: ∀r,AVsArg (x.need.app r) xs args) (hfl:z6n args=true) (hsol:res.solid=true) (heff: ∀r,putO (x.need.app r) o.dst res=x.eff.app (x.need.app r)):DOk E ops o x:=DOk.one fun r _=>by
 rw[←heff r];exact One.call hop (hw r) hd (hc r) (hx r) (hle r) hfl hsol hS
theorem dropR_noRef {k:Nat}{cs:List C}(h:anyB (C.refs k) cs=false):cs.map (C.dropR k)=cs:=by
 have key: ∀c∈cs,c.dropR k=c:=fun c hc=>by
  unfold C.dropR;rw[z1y h c hc]
 exact(List.map_congr_left key).trans (List.map_id _)
theorem AV.dropR_noRef {k:Nat}{x:AV}(h:x.refs k=false):x.dropR k=x:=by
 cases x with
 |c x=>
  have h':C.refs k x=false:=h;show AV.c (x.dropR k)=AV.c x;unfold C.dropR;rw[h']
 |agg xs=>show AV.agg (xs.map (C.dropR k))=AV.agg xs;rw[Av.dropR_noRef h]
 |tup vs=>
  show AV.tup (vs.map fun p=>(p.1,p.2.map (C.dropR k)))=AV.tup vs;have key: ∀p∈vs,(fun p:Bool×List C=>(p.1,p.2.map (C.dropR k))) p=p:=fun p hp=>by
   have:=z1y h p hp;simp only[Av.dropR_noRef this]
  rw[List.map_congr_left key];simp
theorem zd6 {k:Nat}: ∀{l:List (Nat×AV)},(∀e∈l,e.2.refs k=false)→z4l k l=l
 |[],_=>rfl
 |(t,x)::l,h=>by
  simp only[z4l,AV.dropR_noRef (h (t,x) (zz3 ..)),zd6 fun e he=>h e (zz7 _ he)]
theorem zd5 {k:Nat}: ∀{l:List (Nat×Slot)},(∀e∈l,e.1≠k∧e.2.refs k=false)→z3m k l=l
 |[],_=>rfl
 |(j,c)::l,h=>by
  obtain⟨h1,h2⟩:=h (j,c) (zz3 ..);have hb:Nat.beq j k=false:=by
   cases hb:Nat.beq j k with
   |false=>rfl
   |true=>exact absurd (zz5 hb) h1
  have hc:c.dropR k=c:=by
   cases c with
   |vec es n get=>rfl
   |box cs=>show Slot.box (cs.map (C.dropR k))=Slot.box cs;rw[Av.dropR_noRef h2]
  simp only[z3m,hb,hc,zd5 fun e he=>h e (zz7 _ he)]
theorem zbt {k:Nat}: ∀(l r:List (Nat×AV)),z4l k (l++r)=z4l k l++z4l k r
 |[],_=>rfl
 |(t,x)::l,r=>by simp only[List.cons_append,z4l,zbt l r]
theorem zbs {k:Nat}: ∀(l r:List (Nat×Slot)),z3m k (l++r)=z3m k l++z3m k r
 |[],_=>rfl
 |(j,c)::l,r=>by
  simp only[List.cons_append,z3m];cases Nat.beq j k<;>simp[zbs l r]
theorem DOk.drop {ops:Array Oper}{o:Oper}{x:DOp}{k d:Nat}{v:Slot}{av:AV}(hk:memB k x.mks=true)
 (h: ∀r:St,(∀d∈x.mks,r.noRef d=true)→One E ops o (x.need.app r) ((((x.need.app r).drop k).slot k v).put d av))
 (h1:(z1a (x.eff.tm++x.need.tm)).map (look (x.eff.tm++x.need.tm))=(z1a (x.eff.tm++x.need.tm)).map (look ((d,av)::z4l k x.need.tm)))
 (h2:allB (fun t=>z18 t (x.eff.tm++x.need.tm)) (z1a ((d,av)::z4l k x.need.tm))=true)
 (h3:(z1a (x.eff.sl++x.need.sl)).map (look (x.eff.sl++x.need.sl))=(z1a (x.eff.sl++x.need.sl)).map (look ((k,v)::z3m k x.need.sl)))
 (h4:allB (fun t=>z18 t (x.eff.sl++x.need.sl)) (z1a ((k,v)::z3m k x.need.sl))=true):DOk E ops o x:=DOk.one fun r hr=>by
 obtain⟨n1,n2⟩:=z4m (hr k (z22.1 hk));refine(h r hr).weaken fun a w hs=>hs.weaken (fun t y hy=>?_) fun t y hy=>?_
 ·have e:look (x.eff.app (x.need.app r)).tm t=look (((d,av)::z4l k x.need.tm)++r.tm) t:=by
   have:=cover (r:=r.tm) h1 h2 t;rw[←this];show look (x.eff.tm++(x.need.tm++r.tm)) t=_;rw[List.append_assoc]
  rw[e]at hy;show look ((d,av)::z4l k (x.need.tm++r.tm)) t=some y;rw[zbt,zd6 n1];exact hy
 ·have e:look (x.eff.app (x.need.app r)).sl t=look (((k,v)::z3m k x.need.sl)++r.sl) t:=by
   have:=cover (r:=r.sl) h3 h4 t;rw[←this];show look (x.eff.sl++(x.need.sl++r.sl)) t=_;rw[List.append_assoc]
  rw[e]at hy;show look ((k,v)::z3m k (x.need.sl++r.sl)) t=some y;rw[zbs,zd5 n2];exact hy
end
end Go.Av
/-
 Av,part X:calls that get variables of the caller's to write.
-/
namespace Go.Av
open Go
def renN (ρ:List (Nat×Nat))(k:Nat):Nat:=match look ρ k with|some k'=>k'|none=>k
def CC.ren (ρ:List (Nat×Nat)):CC→CC
 | .d x=> .d x
 | .ptr k o=> .ptr (renN ρ k) o
def C.ren (ρ:List (Nat×Nat)):C→C
 | .ptr k o=> .ptr (renN ρ k) o
 | .vptr k es i o=> .vptr (renN ρ k) es i o
 | .own k es off n=> .own (renN ρ k) es off n
 | .bsl k o es n=> .bsl (renN ρ k) o es n
 | .clo f n caps=> .clo f n (caps.map (CC.ren ρ))
 |c=>c
def AV.ren (ρ:List (Nat×Nat)):AV→AV
 | .c x=> .c (x.ren ρ)
 | .agg xs=> .agg (xs.map (C.ren ρ))
 | .tup vs=> .tup (vs.map fun p=>(p.1,p.2.map (C.ren ρ)))
def Slot.ren (ρ:List (Nat×Nat)):Slot→Slot
 | .box cs=> .box (cs.map (C.ren ρ))
 | .vec es n get=> .vec es n get
def CC.inK (ks:List Nat):CC→Bool
 | .d _=>true
 | .ptr k _=>anyB (Nat.beq k) ks
def allC {α:Type}(f:α→Bool):List α→Bool
 |[]=>true
 |x::r=>match f x with|true=>allC f r|false=>false
theorem z2s {α:Type}{f:α→Bool}: ∀{l:List α},allC f l=true→ ∀x∈l,f x=true
 |[],_,x,hx=>by cases hx
 |y::r,h,x,hx=>by
  simp only[allC]at h;split at h
  ·rename_i hy
   rcases zzj.1 hx with rfl|hx
   ·exact hy
   ·exact z2s h x hx
  ·cases h
def C.lent (ks:List Nat):C→Bool
 | .any=>true
 | .d _=>true
 | .zero=>true
 | .ptr k _=>anyB (Nat.beq k) ks
 | .vptr k _ _ _=>anyB (Nat.beq k) ks
 | .own k _ _ _=>anyB (Nat.beq k) ks
 | .bsl k _ _ _=>anyB (Nat.beq k) ks
 | .clo _ _ caps=>allC (CC.inK ks) caps
 | .raw _=>true
 |_=>false
def AV.lent (ks:List Nat):AV→Bool
 | .c x=>x.lent ks
 | .agg xs=>allC (C.lent ks) xs
 | .tup vs=>allC (fun p:Bool×List C=>allC (C.lent ks) p.2) vs
def Slot.lent (ks:List Nat):Slot→Bool
 | .box cs=>allC (C.lent ks) cs
 | .vec _ _ _=>true
theorem z21 {k:Nat}{ks:List Nat}:anyB (Nat.beq k) ks=true↔k∈ks:=by
 constructor
 ·intro h;induction ks with
  |nil=>cases h
  |cons y r ih=>
   simp only[anyB]at h;split at h
   ·rename_i e;rw[zz5 e];exact zz3 ..
   ·exact zz7 _ (ih h)
 ·intro h;exact zba h (by simp)
section
variable {G V V':Nat→Prop} {φ ψ:Nat→Option Loc} {w:World} {ρ:List (Nat×Nat)} {ks:List Nat}
def Agree (ρ:List (Nat×Nat))(ks:List Nat)(φ ψ:Nat→Option Loc):Prop:= ∀k∈ks,ψ (renN ρ k)=φ k
theorem CC.ren_rel (ha:Agree ρ ks φ ψ){x:CC}{v:Value}(hk:x.inK ks=true):RelCC G ψ w (x.ren ρ) v↔RelCC G φ w x v:=by
 cases x with
 |d x=>exact Iff.rfl
 |ptr k o=>
  have:=ha k (z21.1 hk);simp only[CC.ren,RelCC,this]
theorem C.ren_rel (ha:Agree ρ ks φ ψ){x:C}{v:Value}(hk:x.lent ks=true):RelC G V ψ w (x.ren ρ) v↔RelC G V' φ w x v:=by
 cases x with
 |any=>exact Iff.rfl
 |d x=>exact Iff.rfl
 |zero=>exact Iff.rfl
 |raw u=>exact Iff.rfl
 |view es n get=>cases hk
 |eptr cells=>cases hk
 |ptr k o=>simp only[C.ren,RelC,ha k (z21.1 hk)]
 |vptr k es i o=>simp only[C.ren,RelC,ha k (z21.1 hk)]
 |own k es off n=>simp only[C.ren,RelC,ha k (z21.1 hk)]
 |bsl k o es n=>simp only[C.ren,RelC,ha k (z21.1 hk)]
 |clo f n caps=>
  have hk:allC (CC.inK ks) caps=true:=hk;have hm:=z2s hk
  have key: ∀j u,j<caps.length→(RelCC G ψ w ((caps.map (CC.ren ρ)).getD j zzd) u↔RelCC G φ w (caps.getD j zzd) u):=fun j u hj=>by
   have e1:caps.getD j zzd=caps[j]:=by rw[List.getD_eq_getElem?_getD,List.getElem?_eq_getElem hj];rfl
   have e2:(caps.map (CC.ren ρ)).getD j zzd=caps[j].ren ρ:=by rw[List.getD_eq_getElem?_getD,List.getElem?_map,List.getElem?_eq_getElem hj];rfl
   rw[e1,e2];exact CC.ren_rel ha (hm _ (List.getElem_mem hj))
  simp only[C.ren,RelC,List.length_map];constructor
  ·rintro⟨vs,e,hl,hr⟩;exact⟨vs,e,hl,fun j hj=>(key j _ hj).1 (hr j hj)⟩
  ·rintro⟨vs,e,hl,hr⟩;exact⟨vs,e,hl,fun j hj=>(key j _ hj).2 (hr j hj)⟩
theorem RelCs.ren (ha:Agree ρ ks φ ψ): ∀{cs:List C} {vs:List Value},allC (C.lent ks) cs=true→(RelCs (RelC G V ψ w) (cs.map (C.ren ρ)) vs↔RelCs (RelC G V' φ w) cs vs)
 |[],[],_=>Iff.rfl
 |c::cs,v::vs,h=>by
  have h1:=z2s h c (zz3 ..);have h2:allC (C.lent ks) cs=true:=by simp only[allC,h1]at h;exact h
  exact and_congr (C.ren_rel ha h1) (RelCs.ren ha h2)
 |[],_::_,_=>Iff.rfl
 |_::_,[],_=>Iff.rfl
theorem RelSs.ren (ha:Agree ρ ks φ ψ): ∀{xs:List (Bool×List C)} {vs:List Value},allC (fun p:Bool×List C=>allC (C.lent ks) p.2) xs=true→
 (RelSs (RelC G V ψ w) (xs.map fun p=>(p.1,p.2.map (C.ren ρ))) vs↔RelSs (RelC G V' φ w) xs vs)
 |[],[],_=>Iff.rfl
 |p::xs,u::vs,h=>by
  have hp:=z2s h p (zz3 ..);have h2:allC (fun p:Bool×List C=>allC (C.lent ks) p.2) xs=true:=by simp only[allC,hp]at h;exact h
  refine and_congr ?_ (RelSs.ren ha h2);rcases p with⟨b,cs⟩;cases b with
  |true=>
   constructor
   ·rintro⟨us,e,g1,g2⟩;exact⟨us,e,(RelCs.ren ha hp).1 g1,g2⟩
   ·rintro⟨us,e,g1,g2⟩;exact⟨us,e,(RelCs.ren ha hp).2 g1,g2⟩
  |false=>
   match cs,hp with
   |[c],hp=>
    have hc:=z2s hp c (by simp);exact and_congr (C.ren_rel ha hc) Iff.rfl
   |[],_=>exact Iff.rfl
   |_::_::_,_=>exact Iff.rfl
 |[],_::_,_=>Iff.rfl
 |_::_,[],_=>Iff.rfl
theorem AV.ren_rel (ha:Agree ρ ks φ ψ){x:AV}{v:Value}(hk:x.lent ks=true)(h:RelAV (RelC G V' φ w) x v):RelAV (RelC G V ψ w) (x.ren ρ) v:=by
 cases x with
 |c x=>
  by_cases e:x= .any
  ·subst e;trivial
  ·have:RelS (RelC G V' φ w) (false,[x]) v:=by cases x<;>first|exact h|exact(e rfl).elim
   exact z0f ((C.ren_rel ha hk).2 this.1) this.2
 |agg xs=>obtain⟨us,e,h1,h2⟩:=h;exact⟨us,e,(RelCs.ren ha hk).2 h1,h2⟩
 |tup vs=>obtain⟨us,e,h1⟩:=h;exact⟨us,e,(RelSs.ren ha hk).2 h1⟩
theorem zjv (ha:Agree ρ ks φ ψ){x:AV}{v:Value}(hk:x.lent ks=true)(h:RelAV (RelC G V ψ w) (x.ren ρ) v):RelAV (RelC G V' φ w) x v:=by
 cases x with
 |c x=>
  by_cases e:x= .any
  ·subst e;trivial
  ·have hne:x.ren ρ≠ .any:=by cases x<;>first|exact(e rfl).elim|(intro h;cases h)
   have:RelS (RelC G V ψ w) (false,[x.ren ρ]) v:=by
    have h:RelAV (RelC G V ψ w) (.c (x.ren ρ)) v:=h;generalize x.ren ρ=y at*;cases y<;>first|exact h|exact(hne rfl).elim
   exact z0f ((C.ren_rel ha hk).1 this.1) this.2
 |agg xs=>obtain⟨us,e,h1,h2⟩:=h;exact⟨us,e,(RelCs.ren ha hk).1 h1,h2⟩
 |tup vs=>obtain⟨us,e,h1⟩:=h;exact⟨us,e,(RelSs.ren ha hk).1 h1⟩
theorem Slot.ren_rel (ha:Agree ρ ks φ ψ){k:Nat}(hk:k∈ks){c:Slot}(hc:c.lent ks=true):z4k G V ψ w (renN ρ k) (c.ren ρ)↔z4k G V' φ w k c:=by
 have e:=ha k hk;cases c with
 |vec es n get=>simp only[Slot.ren,z4k,e]
 |box cs=>
  simp only[Slot.ren,z4k,e,List.length_map];have hc:allC (C.lent ks) cs=true:=hc
  constructor
  ·rintro⟨l,hl,ht,vs,h1,h2⟩;exact⟨l,hl,ht,vs,(RelCs.ren ha hc).1 h1,h2⟩
  ·rintro⟨l,hl,ht,vs,h1,h2⟩;exact⟨l,hl,ht,vs,(RelCs.ren ha hc).2 h1,h2⟩
end
def keysS (sl:List (Nat×Slot)):List Nat:=sl.map (·.1)
theorem z45 {sl:List (Nat×Slot)}{k:Nat}{c:Slot}(h:look sl k=some c):k∈keysS sl:=List.mem_map.2 ⟨(k,c),z2a h,rfl⟩
theorem z7j: ∀{sl:List (Nat×Slot)} {k:Nat},k∈keysS sl→ ∃c,look sl k=some c
 |[],k,h=>by cases h
 |(j,c)::r,k,h=>by
  rw[z0y];by_cases e:j=k
  ·exact⟨c,by rw[if_pos e]⟩
  ·rw[if_neg e];rcases zzj.1 h with h|h
   ·exact absurd h.symm e
   ·exact z7j h
def renSl (ρ:List (Nat×Nat))(sl:List (Nat×Slot)):List (Nat×Slot):=sl.map fun p=>(renN ρ p.1,p.2.ren ρ)
theorem zcj {ρ:List (Nat×Nat)}: ∀{sl:List (Nat×Slot)} {k':Nat} {c':Slot},look (renSl ρ sl) k'=some c'→ ∃k c,k'=renN ρ k∧look sl k=some c∧c'=c.ren ρ
 |[],_,_,h=>by cases h
 |(j,c)::r,k',c',h=>by
  simp only[renSl,List.map_cons,z0y]at h;by_cases e:renN ρ j=k'
  ·rw[if_pos e]at h;cases h;exact⟨j,c,e.symm,by rw[z0y,if_pos rfl],rfl⟩
  ·rw[if_neg e]at h;obtain⟨k,c1,h1,h2,h3⟩:=zcj (sl:=r) h;exact⟨k,c1,h1,by rw[z0y,if_neg (fun x=>e (by rw[h1,x]))];exact h2,h3⟩
theorem zfh {α:Type}: ∀{l r:List (Nat×α)} {k:Nat} {x:α},look (l++r) k=some x→look l k=some x∨(look l k=none∧look r k=some x)
 |[],r,k,x,h=> .inr ⟨rfl,h⟩
 |(j,y)::l,r,k,x,h=>by
  simp only[List.cons_append,z0y]at h ⊢;by_cases e:j=k
  ·rw[if_pos e]at h ⊢;exact .inl h
  ·rw[if_neg e]at h ⊢;exact zfh h
def backN (ρ:List (Nat×Nat)):List Nat→Nat→Option Nat
 |[],_=>none
 |k::r,k'=>match Nat.beq (renN ρ k) k' with|true=>some k|false=>backN ρ r k'
theorem z8p {ρ:List (Nat×Nat)}: ∀{ks:List Nat} {k k':Nat},backN ρ ks k'=some k→k∈ks∧renN ρ k=k'
 |[],_,_,h=>by cases h
 |j::r,k,k',h=>by
  simp only[backN]at h;split at h
  ·rename_i e;cases h;exact⟨zz3 ..,zz5 e⟩
  ·obtain⟨h1,h2⟩:=z8p h;exact⟨zz7 _ h1,h2⟩
theorem zfv {ρ:List (Nat×Nat)}: ∀{ks:List Nat} {k':Nat},backN ρ ks k'=none→ ∀k∈ks,renN ρ k≠k'
 |[],_,_,k,h=>by cases h
 |j::r,k',h,k,hk=>by
  simp only[backN]at h;split at h
  ·cases h
  ·rename_i e
   rcases zzj.1 hk with rfl|hk
   ·intro x;rw[x]at e;simp at e
   ·exact zfv h k hk
def injB (ρ:List (Nat×Nat))(ks:List Nat):Bool:=allC (fun k=>allC (fun j=>match Nat.beq (renN ρ k) (renN ρ j)with|true=>Nat.beq k j|false=>true) ks) ks
theorem zhy {ρ:List (Nat×Nat)}{ks:List Nat}(h:injB ρ ks=true){k j:Nat}(hk:k∈ks)(hj:j∈ks)(e:renN ρ k=renN ρ j):k=j:=by
 have:=z2s (z2s h k hk) j hj;simp only[e,Nat.beq_refl]at this;exact zz5 this
def zef:CC→AV
 | .d x=> .c (.d x)
 | .ptr k o=> .c (.ptr k o)
def z78 (s:St)(c:Call):Option (FuncId×Nat×List CC):=
 match c.callee with
 | .value x=>match evO s x with
  |some (.c (.d (.fn f caps)))=>some (f,0,caps.map .d)
  |some (.c (.clo f n caps))=>some (f,n,caps)
  |_=>none
 |_=>none
def argsL (s:St)(c:Call)(n:Nat)(caps:List CC):Option (List AV):=
 match allAV (c.args.toList.map (evO s))with
 |some xs=>some ((caps.map zef).take n++(xs++(caps.map zef).drop n))
 |none=>none
def AV.refsAny (ks:List Nat)(x:AV):Bool:=anyB (fun k=>x.refs k) ks
inductive AVsArgL (s:St) (ρ:List (Nat×Nat)) (ks im:List Nat):List AV→List AV→Prop
 |nil:AVsArgL s ρ ks im [] []
 |ren {x y:AV} {xs ys:List AV} (e:x=y.ren ρ) (h:y.lent ks=true) (t:AVsArgL s ρ ks im xs ys):AVsArgL s ρ ks im (x::xs) (y::ys)
 |flat {x y:AV} {xs ys:List AV} (h:AVArg s x y) (hf:y.flat=true) (hn:x.refsAny im=false) (t:AVsArgL s ρ ks im xs ys):AVsArgL s ρ ks im (x::xs) (y::ys)
def LentS (s:St)(ρ:List (Nat×Nat))(ks:List Nat):List (Nat×Slot)→Prop
 |[]=>True
 |(k,c)::r=>(look s.sl (renN ρ k)=some (c.ren ρ)∧c.lent ks=true)∧LentS s ρ ks r
theorem LentS.look {s:St}{ρ:List (Nat×Nat)}{ks:List Nat}: ∀{sl:List (Nat×Slot)},LentS s ρ ks sl→ ∀{k c},Av.look sl k=some c→Av.look s.sl (renN ρ k)=some (c.ren ρ)∧c.lent ks=true
 |[],_,_,_,h=>by cases h
 |(j,c0)::r,⟨h1,h2⟩,k,c,h=>by
  rw[z0y]at h;by_cases e:j=k
  ·subst e;rw[if_pos rfl]at h;cases h;exact h1
  ·rw[if_neg e]at h;exact LentS.look h2 h
section
variable {E:Env} {s:St} {G:Nat→Prop} {φ:Nat→Option Loc} {a:Act} {w:World}
theorem CArg.relX (h:Sim E s G φ a w){c c':C}(hc:CArg s c c'){v:Value}(hv:RelC G E.V φ w c v)(hf:c'.flat=true){X:Nat→Prop}(hX: ∀b,E.V b→X b)
 (hS: ∀k sc l,c.refs k=true→look s.sl k=some sc→φ k=some l→X l.blk) {ψ:Nat→Option Loc}:RelC G X ψ w c' v:=by
 cases hc with
 |le hc=>exact(zfs hf hX ((CLe.rel h hc hv).mono (Same.refl _ _) (Same.refl _ _) (fun _ hb=>z7p hb) fun _ _=>rfl))
 | @own k es off m m' n get get' hk hm hm' hg=>
  subst hm';rcases hv with⟨h0,A,rfl⟩|⟨l,hl,hle,rfl⟩
  ·exact .inl ⟨h0,A,0,rfl⟩
  ·obtain⟨hmx,hs|⟨l',hl',hn,_,he⟩⟩:=h.sl _ _ hk
   ·rw[hl]at hs;cases hs.1
   ·rw[hl]at hl';cases hl';refine .inr ⟨l.blk,_,_,.inr (hS k _ l (by simp[C.refs]) hk hl),rfl,by omega,by omega,fun i hi=>?_⟩;rw[hg i hi];exact he.part hm i hi
 | @bsl k o es n n' cs ds get' hk hd hl' hn hmx hg=>
  cases hn;have h2:=CArg.rel h (.bsl hk hd hl' rfl hmx hg) hv rfl (ψ:=ψ)
  obtain⟨l,cap,hl,hc,rfl⟩:=hv;rcases h2 with⟨h0,A,cap',e⟩|⟨b,off,cap',_,e,g1,g2,g3⟩
  ·cases e;exact .inl ⟨rfl,_,_,rfl⟩
  ·cases e;exact .inr ⟨_,_,_,.inr (hS k _ l (by simp[C.refs]) hk hl),rfl,g1,g2,g3⟩
theorem CsArg.relX (h:Sim E s G φ a w){cs cs':List C}(hc:CsArg s cs cs'){X:Nat→Prop}(hX: ∀b,E.V b→X b){ψ:Nat→Option Loc}:
 ∀{vs:List Value},(∀c∈cs,∀k sc l,c.refs k=true→look s.sl k=some sc→φ k=some l→X l.blk)→(∀c∈cs',c.flat=true)→RelCs (RelC G E.V φ w) cs vs→RelCs (RelC G X ψ w) cs' vs:=by
 induction hc with
 |refl cs=>
  intro vs hS hf hv;have key: ∀(cs:List C) (vs:List Value),(∀c∈cs,∀k sc l,c.refs k=true→look s.sl k=some sc→φ k=some l→X l.blk)→(∀c∈cs,c.flat=true)→RelCs (RelC G E.V φ w) cs vs→RelCs (RelC G X ψ w) cs vs:=by
   intro cs;induction cs with
   |nil=>intro vs _ _ hv;cases vs with|nil=>trivial|cons _ _=>exact hv.elim
   |cons c cs ih=>
    intro vs hS hf hv;cases vs with
    |nil=>exact hv.elim
    |cons v vs=>exact⟨CArg.relX h (.le (.refl c)) hv.1 (hf _ (zz3 ..)) hX (hS _ (zz3 ..)),ih vs (fun c hc=>hS c (zz7 _ hc)) (fun c hc=>hf c (zz7 _ hc)) hv.2⟩
  exact key cs vs hS hf hv
 |nil=>intro vs _ _ hv;cases vs with|nil=>trivial|cons _ _=>exact hv.elim
 |cons hc _ ih=>
  intro vs hS hf hv;cases vs with
  |nil=>exact hv.elim
  |cons v vs=>exact⟨CArg.relX h hc hv.1 (hf _ (zz3 ..)) hX (hS _ (zz3 ..)),ih (fun c hc=>hS c (zz7 _ hc)) (fun c hc=>hf c (zz7 _ hc)) hv.2⟩
theorem z8n {k:Nat}{x:AV}{c:C}(hc:c∈x.cells)(h:c.refs k=true):x.refs k=true:=by
 cases e:x.refs k with
 |true=>rfl
 |false=>rw[AV.refs_cells e c hc]at h;cases h
theorem AVArg.relX (h:Sim E s G φ a w){x x':AV}(hx:AVArg s x x')(hf:x'.flat=true){v:Value}(hv:RAV E G φ w x v){X:Nat→Prop}(hX: ∀b,E.V b→X b)
 (hS: ∀k sc l,x.refs k=true→look s.sl k=some sc→φ k=some l→X l.blk) {ψ:Nat→Option Loc}:RelAV (RelC G X ψ w) x' v:=by
 have hcl:=zd0 hf;cases hx with
 |refl=>exact hv.mono fun c hc v hcv=>CArg.relX h (.le (.refl c)) hcv (hcl c hc) hX fun k sc l hr=>hS k sc l (z8n hc hr)
 | @c p q hc=>
  have hq:q.flat=true:=hf;by_cases e:p= .any
  ·subst e;cases hc with
   |le hc=>cases hc<;>trivial
  ·obtain⟨h1,h2⟩:=z54 hv e;exact z0f (hc.relX h h1 hq hX hS) h2
 |agg hc=>obtain⟨us,e,h1,h2⟩:=hv;exact⟨us,e,hc.relX h hX (fun c hm k sc l hr=>hS k sc l (z8n hm hr)) hcl h1,h2⟩
theorem AVsArgL.rel (h:Sim E s G φ a w){ρ:List (Nat×Nat)}{ks im:List Nat}{xs ys:List AV}(hx:AVsArgL s ρ ks im xs ys){X:Nat→Prop}(hX: ∀b,E.V b→X b)
 (hS: ∀k sc l,k∉im→look s.sl k=some sc→φ k=some l→X l.blk): ∀{vs:List Value},z1q (RelC G E.V φ w) xs vs→z1q (RelC G X (fun k=>φ (renN ρ k)) w) ys vs:=by
 induction hx with
 |nil=>intro vs hv;cases vs with|nil=>trivial|cons _ _=>exact hv.elim
 |ren e hk _ ih=>
  intro vs hv;cases vs with
  |nil=>exact hv.elim
  |cons v vs=>subst e;exact⟨zjv (fun k _=>rfl) hk hv.1,ih hv.2⟩
 |flat hc hf hn _ ih=>
  intro vs hv;cases vs with
  |nil=>exact hv.elim
  |cons v vs=>exact⟨hc.relX h hf hv.1 hX (fun k sc l hr=>hS k sc l (fun hm=>by have:=z1y hn k hm;rw[this]at hr;cases hr)),ih hv.2⟩
theorem zdp: ∀{caps:List CC} {us:List Value},caps.length=us.length→(∀j,j<caps.length→RelCC G φ w (caps.getD j zzd) (us.getD j undef))→z1q (RelC G E.V φ w) (caps.map zef) us
 |[],[],_,_=>trivial
 |x::xs,u::us,hl,h=>by
  refine⟨?_,zdp (by simpa using hl) fun j hj=>by have:=h (j+1) (by simpa using hj);simpa using this⟩;have h0:RelCC G φ w x u:=by have:=h 0 (by simp);simpa using this
  cases x with
  |d x=>exact z0f (x:= .d x) h0 (RelD.one h0)
  |ptr k o=>obtain⟨l,hl',rfl⟩:=h0;exact z0f (x:= .ptr k o) ⟨l,hl',rfl⟩ rfl
 |[],_::_,hl,_=>by simp at hl
 |_::_,[],hl,_=>by simp at hl
theorem z1q.take {R:C→Value→Prop}: ∀{xs:List AV} {vs:List Value},z1q R xs vs→ ∀n,z1q R (xs.take n) (vs.take n)
 |[],[],_,n=>by simp[z1q]
 |_::_,_::_,⟨h1,h2⟩,n=>by
  cases n with
  |zero=>simp[z1q]
  |succ n=>exact⟨h1,z1q.take h2 n⟩
 |[],_::_,h,_=>h.elim
 |_::_,[],h,_=>h.elim
theorem z1q.drop {R:C→Value→Prop}: ∀{xs:List AV} {vs:List Value},z1q R xs vs→ ∀n,z1q R (xs.drop n) (vs.drop n)
 |[],[],_,n=>by simp[z1q]
 |_::_,_::_,⟨h1,h2⟩,n=>by
  cases n with
  |zero=>exact⟨h1,h2⟩
  |succ n=>exact z1q.drop h2 n
 |[],_::_,h,_=>h.elim
 |_::_,[],h,_=>h.elim
theorem zfw (h:Sim E s G φ a w){c:Call}{f:FuncId}{n:Nat}{caps:List CC}{xs:List AV}(hc:z78 s c=some (f,n,caps))(hx:argsL s c n caps=some xs)(ty:TypeId):
 ∃vs:List Value,(∀w,(do let d ←resolve a.eval c ty;invoke d.target d.args:Sem Next).run E.P w=(callFunc f vs.toArray).run E.P w)∧z1q (RelC G E.V φ w) xs vs:=by
 obtain⟨cal,args,ats⟩:=c;unfold z78 at hc;simp only at hc;have key: ∀(x:Operand) (us:List Value),a.eval x= .func (.func f) (us.take n).toArray (us.drop n).toArray→cal= .value x→z1q (RelC G E.V φ w) (caps.map zef) us→
  ∃vs:List Value,(∀w,(do let d ←resolve a.eval ⟨cal,args,ats⟩ ty;invoke d.target d.args:Sem Next).run E.P w=(callFunc f vs.toArray).run E.P w)∧z1q (RelC G E.V φ w) xs vs:=fun x us hu hcal hr=>by
  simp only[argsL]at hx;split at hx
  ·rename_i ys hys
   cases hx;have h1:=zdj h hys
   refine⟨us.take n++(args.toList.map a.eval++us.drop n),fun w=>?_,(hr.take n).append (h1.append (hr.drop n))⟩;subst hcal;simp only[resolve,Deferred.ofValue,hu,zz4,zz9,zz1,invoke];congr 2;apply Array.ext';simp
  ·cases hx
 split at hc
 ·rename_i cal' x
  split at hc
  ·rename_i f' caps' hv
   cases hc;have hfv:RelD G w (.fn f caps') (a.eval x):=(h.ev hv).1
   generalize hu:a.eval x=u at hfv;cases hfv with
   |fn _ _ us hl hr=>
    refine key x us (by simpa using hu) rfl (zdp (by simpa using hl) fun j hj=>?_);have hj':j<caps'.length:=by simpa using hj
    have:(caps'.map CC.d).getD j zzd=CC.d (D.at caps' j):=by simp[D.at,List.getD_eq_getElem?_getD,List.getElem?_map,List.getElem?_eq_getElem hj']
    rw[this];exact hr j hj'
  ·rename_i f' n' caps' hv
   cases hc;obtain⟨us,hu,hl,hr⟩:=(h.ev hv).1;exact key x us hu rfl (zdp hl hr)
  ·cases hc
 ·cases hc
def oddK (l r:List Nat):List Nat:=(l.filter fun k=> !anyB (Nat.beq k) r)++(r.filter fun k=> !anyB (Nat.beq k) l)
theorem zjh {l r:List Nat}{k:Nat}(h:k∈l++r):k∈oddK l r∨(k∈l∧k∈r):=by
 unfold oddK;by_cases h1:k∈l
 ·by_cases h2:k∈r
  ·exact .inr ⟨h1,h2⟩
  ·refine .inl (zzo _ (List.mem_filter.2 ⟨h1,?_⟩));cases e:anyB (Nat.beq k) r with
   |true=>exact absurd (z21.1 e) h2
   |false=>rfl
 ·rcases zz2.1 h with h|h
  ·exact absurd h h1
  ·refine .inl (zzh _ (List.mem_filter.2 ⟨h,?_⟩));cases e:anyB (Nat.beq k) l with
   |true=>exact absurd (z21.1 e) h1
   |false=>rfl
def lkOk (lk im im':List Nat):Bool:=match allC (fun k=>anyB (Nat.beq k) lk) im' with|true=>true|false=> !anyB (fun k=>anyB (Nat.beq k) lk) im
def lkOk3 (lk:List Nat)(ρ:List (Nat×Nat))(ks ks':List Nat):Bool:=
 match allC (fun j=>match anyB (Nat.beq j) ks with|true=>true|false=>anyB (Nat.beq (renN ρ j)) lk) ks' with
 |true=>true
 |false=>allC (fun i=>match anyB (Nat.beq i) ks' with|true=>true|false=> !anyB (Nat.beq (renN ρ i)) lk) ks
theorem One.callP {ops : Array Oper} {o : Oper} {cl : Call} {f : FuncId} {nf : Nat} {caps : List CC} {xs args : List AV} {res : AV} {sl sl' : List (Nat × Slot)} (ρ : List (Nat × Nat)) (s0 : St)
    (hS : Summ E.P f args sl res sl') (hop : o.op = .call cl) (hw :     z0l ops s o = some true) (hd : dstOk E.N o.dst = true) (hc :     z78 s cl = some (f, nf, caps)) (hx : argsL s cl nf caps = some xs)
    (hle : AVsArgL s ρ (keysS sl) ((keysS sl).map (renN ρ)) xs args) (hsl : LentS s ρ (keysS sl) sl) (hinj : injB ρ (keysS sl) = true) (hinj' : injB ρ (keysS sl') = true) (hres : res.lent (keysS sl') = true)
    (hsl' : allC (fun p : Nat × Slot => p.2.lent (keysS sl')) sl' = true) (hs : Sim E s G φ a w) (hs0 : Sim E s0 G φ a w) (s' : St)
    (hook : ∀ {G' : Nat → Prop} {χ : Nat → Option Loc} {w' : World}, (∀ k', (∀ k ∈ keysS sl', renN ρ k ≠ k') → χ k' = φ k') → Same G w w' → Same E.V w w' → (∀ b, G b → G' b) → Sim E ⟨s0.tm, renSl ρ sl' ++ s0.sl⟩ G' χ a w' → Sim E s' G' χ a w') (hkey : ∀ t x, look s0.sl t = some x → ∃ y, look s.sl t = some y)
    (hk0 : allC (fun k => match look s0.sl (renN ρ k) with | some _ => false | none => true) (keysS sl ++ keysS sl') = true) (hodd : allC (fun k => s0.noRef (renN ρ k)) (oddK (keysS sl) (keysS sl')) = true)
    (hfx : allC (fun k => !anyB (Nat.beq (renN ρ k)) E.fx) (oddK (keysS sl) (keysS sl')) = true) (hlk : lkOk3 E.lk ρ (keysS sl) (keysS sl') = true) :
    Region.wanted o (yielded ops a.tmps) = true ∧ ∀ (next : Act → World → Prop) (Q : Exit → Act → World → Prop), (∀ a' w', SimE E (putO s' o.dst (res.ren ρ)) a' w' → next a' w') → o.wp E.P a w next Q := by
  obtain ⟨vs, hrun, hrel⟩ :=        zfw hs hc hx o.type
  let ψ : Nat → Option Loc := fun k => φ (renN ρ k)
  -- the lent blocks
  have lentB : ∀ b, Blks ψ sl b → ∃ k c l, look s.sl (renN ρ k) = some c ∧ k ∈ keysS sl ∧ φ (renN ρ k) = some l ∧ b = l.blk := fun b ⟨k, c, l, h1, h2, h3⟩ => ⟨k, _, l, (hsl.look h1).1,       z45 h1, h2, h3⟩
  have nG : ∀ b, G b → ¬ Blks ψ sl b := fun b hb hB => by
    obtain ⟨k, c, l, h1, _, h2, rfl⟩ := lentB b hB
    exact (hs.own _ _ _ h1 h2).1 hb
  have nV : ∀ b, E.V b → ¬ Blks ψ sl b := fun b hb hB => by
    obtain ⟨k, c, l, h1, _, h2, rfl⟩ := lentB b hB
    exact (hs.own _ _ _ h1 h2).2.1 hb
  have vlt : ∀ b, E.V b → b < w.heap.size := fun b hb => Nat.lt_of_lt_of_le (hs.vsz b hb).1 hs.kp.size
  have nS : ∀ k sc l, k ∉ (keysS sl).map (renN ρ) → look s.sl k = some sc → φ k = some l → ¬ Blks ψ sl l.blk := fun k sc l hk h1 h2 hB => by
    obtain ⟨j, c, l', g1, g2, g3, g4⟩ := lentB _ hB
    exact hk (List.mem_map.2 ⟨j, g2, (hs.inj _ _ _ _ _ _ h1 g1 h2 g3 g4).symm⟩)
  have hargs := hle.rel hs (X := fun b => b < w.heap.size ∧ ¬ Blks ψ sl b) (fun b hb => ⟨vlt b hb, nV b hb⟩) (fun k sc l hk h1 h2 => ⟨(hs.own _ _ _ h1 h2).2.2.1, nS k sc l hk h1 h2⟩) hrel
  have hslots : SlotsOk G (fun b => b < w.heap.size ∧ ¬ Blks ψ sl b) ψ w sl :=
    { rel := fun k c hk => by
        obtain ⟨h1, h2⟩ := hsl.look hk
        exact (Slot.ren_rel (fun _ _ => rfl) (      z45 hk) h2).1 (hs.sl _ _ h1)
      inj := fun k k' c c' l l' h1 h2 h3 h4 h5 => by
        have := hs.inj _ _ _ _ _ _ (hsl.look h1).1 (hsl.look h2).1 h3 h4 h5
        exact       zhy hinj (      z45 h1) (      z45 h2) this
      own := fun k c l h1 h2 => by
        have := hs.own _ _ _ (hsl.look h1).1 h2
        exact ⟨this.1, this.2.2.1⟩ }
  have hact := hS G ψ w vs hs.gsz hslots hargs
  refine ⟨         z14 hs hw, fun next Q hn => ?_⟩
  unfold Oper.wp
  have he : execOp a.eval o = (do let d ← resolve a.eval cl o.type; invoke d.target d.args : Sem Next) := by
    unfold execOp; rw [hop]
  rw [he, hrun]
  refine       zhk hact fun e w' ⟨v, G', φ', he, hd'⟩ => ⟨v, he, ?_⟩
  let χ : Nat → Option Loc := fun k' => match backN ρ (keysS sl') k' with | some k => φ' k | none => φ k'
  have hagree : Agree ρ (keysS sl') φ' χ := fun k hk => by
    show (match backN ρ (keysS sl') (renN ρ k) with | some k => φ' k | none => φ (renN ρ k)) = φ' k
    cases hb : backN ρ (keysS sl') (renN ρ k) with
    | none => exact absurd rfl (       zfv hb k hk)
    | some j =>
      obtain ⟨h1, h2⟩ :=        z8p hb
      rw [      zhy hinj' h1 hk h2]
  have hsame : ∀ b, b < w.heap.size → ¬ Blks ψ sl b → w'.heap[b]? = w.heap[b]? := fun b h1 h2 => hd'.kp.block b h1 h2
  have sg : Same G w w' := fun b hb => hsame b (hs.gsz b hb) (nG b hb)
  have sv : Same E.V w w' := fun b hb => hsame b (vlt b hb) (nV b hb)
  -- what is spoken of in s0
  have hχ : ∀ k', (s0.noRef k' = false) → χ k' = φ k' ∨ False := fun k' hr => by
    show (match backN ρ (keysS sl') k' with | some k => φ' k | none => φ k') = φ k' ∨ False
    cases hb : backN ρ (keysS sl') k' with
    | none => exact .inl rfl
    | some k =>
      obtain ⟨h1, rfl⟩ :=        z8p hb
      rcases      zjh (l := keysS sl) (r := keysS sl') (                  zzh _ h1) with h | ⟨h2, _⟩
      · rw [     z2s hodd k h] at hr; cases hr
      · obtain ⟨c, hc⟩ :=       z7j h2
        obtain ⟨c', hc'⟩ :=       z7j h1
        exact .inl (hd'.fix k c c' hc hc')
  have tmRef : ∀ t x, look s0.tm t = some x → ∀ c ∈ x.cells, ∀ k, c.refs k = true → χ k = φ k := fun t x hx c hc k hk => by
    refine (hχ k ?_).resolve_right id
    cases e : s0.noRef k with
    | false => rfl
    | true => rw [AV.refs_cells ((          z4m e).1 _ (     z2a hx)) c hc] at hk; cases hk
  have slRef : ∀ j c, look s0.sl j = some c → ∀ k, Slot.refs k c = true → χ k = φ k := fun j c hc k hk => by
    refine (hχ k ?_).resolve_right id
    cases e : s0.noRef k with
    | false => rfl
    | true => rw [((          z4m e).2 _ (     z2a hc)).2] at hk; cases hk
  have slNot : ∀ j c, look s0.sl j = some c → ∀ k ∈ keysS sl ++ keysS sl', renN ρ k ≠ j := fun j c hc k hk e => by
    have :=      z2s hk0 k hk
    rw [e, hc] at this
    cases this
  have slχ : ∀ j c, look s0.sl j = some c → χ j = φ j := fun j c hc => by
    show (match backN ρ (keysS sl') j with | some k => φ' k | none => φ j) = φ j
    cases hb : backN ρ (keysS sl') j with
    | none => rfl
    | some k =>
      obtain ⟨h1, h2⟩ :=        z8p hb
      exact absurd h2 (slNot j c hc k (                  zzh _ h1))
  have slB : ∀ j c l, look s0.sl j = some c → φ j = some l → l.blk < w.heap.size ∧ ¬ Blks ψ sl l.blk := fun j c l hc hl =>
    ⟨(hs0.own _ _ _ hc hl).2.2.1, nS j _ l (fun hm => by
      obtain ⟨k, hk, e⟩ := List.mem_map.1 hm
      exact slNot j c hc k (                 zzo _ hk) e) (hkey _ _ hc).choose_spec hl⟩
  -- the slots that came back
  have hin : ∀ k' c', look (renSl ρ sl' ++ s0.sl) k' = some c' → (∃ k c, k' = renN ρ k ∧ look sl' k = some c ∧ c' = c.ren ρ) ∨ look s0.sl k' = some c' := fun k' c' h => by
    rcases      zfh h with h | ⟨_, h⟩
    · exact .inl (       zcj h)
    · exact .inr h
  have newB : ∀ k c l, look sl' k = some c → φ' k = some l → Blks ψ sl l.blk ∨ w.heap.size ≤ l.blk := hd'.blk
  have hsim : Sim E ⟨s0.tm, renSl ρ sl' ++ s0.sl⟩ G' χ a w' :=
    { hs with
      tm := fun t x hx => by
        obtain ⟨u, hu, hr⟩ := hs0.tm t x hx
        exact ⟨u, hu, hr.mono fun c hc v hcv => hcv.mono sg sv hd'.up (tmRef t x hx c hc)⟩
      sl := fun k' c' hk' => by
        rcases hin k' c' hk' with ⟨k, c, rfl, hc, rfl⟩ | h
        · exact (Slot.ren_rel hagree (      z45 hc) (     z2s hsl' (k, c) (     z2a hc))).2 (hd'.slots.rel k c hc)
        · exact (hs0.sl _ _ h).mono sg sv hd'.up (slχ _ _ h) (slRef _ _ h) fun l hl => by
            obtain ⟨h1, h2⟩ := slB _ _ _ h hl
            exact hsame _ h1 h2
      inj := fun k1 k2 c1 c2 l1 l2 h1 h2 e1 e2 eb => by
        rcases hin _ _ h1 with ⟨j1, d1, rfl, g1, _⟩ | g1 <;> rcases hin _ _ h2 with ⟨j2, d2, rfl, g2, _⟩ | g2
        · rw [hagree _ (      z45 g1)] at e1
          rw [hagree _ (      z45 g2)] at e2
          rw [hd'.slots.inj _ _ _ _ _ _ g1 g2 e1 e2 eb]
        · rw [hagree _ (      z45 g1)] at e1
          rw [slχ _ _ g2] at e2
          obtain ⟨q1, q2⟩ := slB _ _ _ g2 e2
          rcases newB _ _ _ g1 e1 with hb | hb
          · rw [eb] at hb; exact absurd hb q2
          · omega
        · rw [hagree _ (      z45 g2)] at e2
          rw [slχ _ _ g1] at e1
          obtain ⟨q1, q2⟩ := slB _ _ _ g1 e1
          rcases newB _ _ _ g2 e2 with hb | hb
          · rw [← eb] at hb; exact absurd hb q2
          · omega
        · rw [slχ _ _ g1] at e1
          rw [slχ _ _ g2] at e2
          exact hs0.inj _ _ _ _ _ _ g1 g2 e1 e2 eb
      own := fun k' c' l h1 h2 => by
        rcases hin _ _ h1 with ⟨k, c, rfl, g1, _⟩ | g1
        · rw [hagree _ (      z45 g1)] at h2
          obtain ⟨o1, o2⟩ := hd'.slots.own k c l g1 h2
          rcases newB _ _ _ g1 h2 with hb | hb
          · refine ⟨o1, fun hv => nV _ hv hb, o2, ?_⟩
            obtain ⟨j, cj, lj, q1, q2, q3, q4⟩ := lentB _ hb
            cases hkk : anyB (Nat.beq k) (keysS sl) with
            | true =>
              obtain ⟨c0, hc0⟩ :=       z7j (     z21.1 hkk)
              have hf := hd'.fix k c0 c hc0 g1
              rw [h2] at hf
              exact (hs.own _ _ _ (hsl.look hc0).1 hf.symm).2.2.2
            | false =>
              rcases (hs.own _ _ _ q1 q3).2.2.2 with p | ⟨p1, p2⟩
              · exact .inl (by omega)
              · unfold lkOk3 at hlk
                split at hlk
                · rename_i hall
                  have :=      z2s hall k (      z45 g1)
                  rw [hkk] at this
                  exact .inr ⟨     z21.1 this, by rw [q4]; exact p2⟩
                · have :=      z2s hlk j q2
                  cases hjj : anyB (Nat.beq j) (keysS sl') with
                  | false => rw [hjj] at this; simp only [     z21.2 p1] at this; cases this
                  | true =>
                    exfalso
                    obtain ⟨c1, hc1⟩ :=       z7j (     z21.1 hjj)
                    obtain ⟨c0, hc0⟩ :=       z7j q2
                    have hf := hd'.fix j c0 c1 hc0 hc1
                    have hf : φ' j = some lj := hf.trans q3
                    have := hd'.slots.inj _ _ _ _ _ _ g1 hc1 h2 hf q4
                    subst this
                    rw [     z21.2 q2] at hkk; cases hkk
          · exact ⟨o1, fun hv => by have := vlt _ hv; omega, o2, .inl (Nat.le_trans hs.kp.size hb)⟩
        · rw [slχ _ _ g1] at h2
          obtain ⟨o1, o2, o3, o4⟩ := hs0.own _ _ _ g1 h2
          refine ⟨fun hg => ?_, o2, Nat.lt_of_lt_of_le o3 hd'.kp.size, o4⟩
          rcases hd'.fr _ hg with hg | hg
          · exact o1 hg
          · omega
      gsz := hd'.sz
      g0 := fun b hb => hd'.up _ (hs.g0 b hb)
      gf := fun b hb => by
        rcases hd'.fr b hb with hb | hb
        · exact hs.gf b hb
        · exact .inr (Nat.le_trans hs.kp.size hb)
      kp := hs.kp.trans ⟨hd'.kp.os, hd'.kp.tape, hd'.kp.output, hd'.kp.size, fun b hb hL => hsame b (Nat.lt_of_lt_of_le hb hs.kp.size) fun hB => by
        obtain ⟨k, c, l, h1, _, h2, rfl⟩ := lentB b hB
        rcases (hs.own _ _ _ h1 h2).2.2.2 with p | p
        · omega
        · exact hL p.2⟩
      fix := fun k' c' hfx' h1 => by
        rcases hin _ _ h1 with ⟨k, c, rfl, g1, _⟩ | g1
        · rw [hagree _ (      z45 g1)]
          rcases      zjh (l := keysS sl) (r := keysS sl') (                  zzh _ (      z45 g1)) with h | ⟨h2, _⟩
          · have :=      z2s hfx k h
            rw [     z21.2 hfx'] at this; cases this
          · obtain ⟨c0, hc0⟩ :=       z7j h2
            rw [hd'.fix k c0 c hc0 g1]
            exact hs.fix _ _ hfx' (hsl.look hc0).1
        · rw [slχ _ _ g1]
          exact hs0.fix _ _ hfx' g1 }
  have hresr : RAV E G' χ w' (res.ren ρ) v := AV.ren_rel hagree hres hd'.rel
  refine hn _ _ ⟨G', χ, ?_⟩
  replace hsim := hook (fun k' hk => by
    show (match backN ρ (keysS sl') k' with | some k => φ' k | none => φ k') = φ k'
    cases hb : backN ρ (keysS sl') k' with
    | none => rfl
    | some k =>
      obtain ⟨h1, h2⟩ :=        z8p hb
      exact absurd h2 (hk k h1)) sg sv hd'.up hsim
  cases hdd : o.dst with
  | none => exact hsim
  | some d =>
    rw [hdd] at hd
    exact hsim.put (       zzk.mp hd) hresr
theorem zhe {ops:Array Oper}{o:Oper}{cl:Call}{f:FuncId}{nf:Nat}{caps:List CC}{xs args:List AV}{res:AV}{sl sl':List (Nat×Slot)}(ρ:List (Nat×Nat))(s0:St)
 (hS:Summ E.P f args sl res sl') (hop:o.op= .call cl) (hw:z0l ops s o=some true) (hd:dstOk E.N o.dst=true) (hc:z78 s cl=some (f,nf,caps)) (hx:argsL s cl nf caps=some xs)
 (hle:AVsArgL s ρ (keysS sl) ((keysS sl).map (renN ρ)) xs args) (hsl:LentS s ρ (keysS sl) sl) (hinj:injB ρ (keysS sl)=true) (hinj':injB ρ (keysS sl')=true) (hres:res.lent (keysS sl')=true)
 (hsl':allC (fun p:Nat×Slot=>p.2.lent (keysS sl')) sl'=true) (hw0: ∀{G:Nat→Prop} {φ:Nat→Option Loc} {a:Act} {w:World},Sim E s G φ a w→Sim E s0 G φ a w) (hkey: ∀t x,look s0.sl t=some x→ ∃y,look s.sl t=some y)
 (hk0:allC (fun k=>match look s0.sl (renN ρ k)with|some _=>false|none=>true) (keysS sl++keysS sl')=true) (hodd:allC (fun k=>s0.noRef (renN ρ k)) (oddK (keysS sl) (keysS sl'))=true)
 (hfx:allC (fun k=> !anyB (Nat.beq (renN ρ k)) E.fx) (oddK (keysS sl) (keysS sl'))=true) (hlk:lkOk3 E.lk ρ (keysS sl) (keysS sl')=true):
 One E ops o s (putO ⟨s0.tm,renSl ρ sl'++s0.sl⟩ o.dst (res.ren ρ)):=fun a w ⟨_,_,hs⟩=>
 One.callP ρ s0 hS hop hw hd hc hx hle hsl hinj hinj' hres hsl' hs (hw0 hs) _ (fun _ _ _ _ h=>h) hkey hk0 hodd hfx hlk
theorem One.callL {ops:Array Oper}{o:Oper}{cl:Call}{f:FuncId}{nf:Nat}{caps:List CC}{xs args:List AV}{res:AV}{sl sl':List (Nat×Slot)}(ρ:List (Nat×Nat))(s0:St)
 (hS:Summ E.P f args sl res sl') (hop:o.op= .call cl) (hw:z0l ops s o=some true) (hd:dstOk E.N o.dst=true) (hc:z78 s cl=some (f,nf,caps)) (hx:argsL s cl nf caps=some xs)
 (hle:AVsArgL s ρ (keysS sl) ((keysS sl).map (renN ρ)) xs args) (hsl:LentS s ρ (keysS sl) sl) (hinj:injB ρ (keysS sl)=true) (hinj':injB ρ (keysS sl')=true) (hres:res.lent (keysS sl')=true)
 (hsl':allC (fun p:Nat×Slot=>p.2.lent (keysS sl')) sl'=true) (h0t: ∀t x,look s0.tm t=some x→look s.tm t=some x) (h0s: ∀t x,look s0.sl t=some x→look s.sl t=some x)
 (hk0:allC (fun k=>match look s0.sl (renN ρ k)with|some _=>false|none=>true) (keysS sl++keysS sl')=true) (hodd:allC (fun k=>s0.noRef (renN ρ k)) (oddK (keysS sl) (keysS sl'))=true)
 (hfx:allC (fun k=> !anyB (Nat.beq (renN ρ k)) E.fx) (oddK (keysS sl) (keysS sl'))=true) (hlk:lkOk3 E.lk ρ (keysS sl) (keysS sl')=true):
 One E ops o s (putO ⟨s0.tm,renSl ρ sl'++s0.sl⟩ o.dst (res.ren ρ)):=
 zhe ρ s0 hS hop hw hd hc hx hle hsl hinj hinj' hres hsl' (fun h=>h.weaken h0t h0s) (fun t x h=>⟨x,h0s t x h⟩) hk0 hodd hfx hlk
theorem At.callL {L:List Oper}{i:Nat}{K:St→Prop}{o:Oper}{cl:Call}{f:FuncId}{nf:Nat}{caps:List CC}{xs args:List AV}{res:AV}{sl sl':List (Nat×Slot)}(ρ:List (Nat×Nat))(tk sk:List Nat){s0:St}
 (hS:Summ E.P f args sl res sl') (ho:L[i]?=some o) (hop:o.op= .call cl) (hw:z0l L.toArray s o=some true) (hd:dstOk E.N o.dst=true) (hc:z78 s cl=some (f,nf,caps)) (hx:argsL s cl nf caps=some xs)
 (hle:AVsArgL s ρ (keysS sl) ((keysS sl).map (renN ρ)) xs args) (hsl:LentS s ρ (keysS sl) sl) (hinj:injB ρ (keysS sl)=true) (hinj':injB ρ (keysS sl')=true) (hres:res.lent (keysS sl')=true)
 (hsl':allC (fun p:Nat×Slot=>p.2.lent (keysS sl')) sl'=true) (hk:Av.keep tk sk s=some s0)
 (hk0:allC (fun k=>match look s0.sl (renN ρ k)with|some _=>false|none=>true) (keysS sl++keysS sl')=true) (hodd:allC (fun k=>s0.noRef (renN ρ k)) (oddK (keysS sl) (keysS sl'))=true)
 (hfx:allC (fun k=> !anyB (Nat.beq (renN ρ k)) E.fx) (oddK (keysS sl) (keysS sl'))=true) (hlk:lkOk3 E.lk ρ (keysS sl) (keysS sl')=true)
 (s':St) (he:putO ⟨s0.tm,renSl ρ sl'++s0.sl⟩ o.dst (res.ren ρ)=s') (h:At E L (i+1) s' K):At E L i s K:=by
 have hk2:(∀t x,look s0.tm t=some x→look s.tm t=some x)∧ ∀t x,look s0.sl t=some x→look s.sl t=some x:=by
  unfold Av.keep at hk;split at hk
  ·rename_i tm h1
   split at hk
   ·rename_i sl h2
    cases hk;exact⟨z6g h1,z6g h2⟩
   ·cases hk
  ·cases hk
 exact At.one ho (One.callL ρ s0 hS hop hw hd hc hx hle hsl hinj hinj' hres hsl' hk2.1 hk2.2 hk0 hodd hfx hlk) (he▸h)
theorem C.ren_to {V:Nat→Prop}{ψ:Nat→Option Loc}{ρ:List (Nat×Nat)}{x:C}{v:Value}(h:RelC G V φ w x v)(hφ: ∀k,x.refs k=true→ψ (renN ρ k)=φ k):RelC G V ψ w (x.ren ρ) v:=by
 cases x with
 |any=>trivial
 |d x=>exact h
 |zero=>exact h
 |raw u=>exact h
 |view es n get=>exact h
 |eptr cells=>exact h
 |ptr k o=>simp only[C.ren,RelC,hφ k (by simp[C.refs])];exact h
 |vptr k es i o=>simp only[C.ren,RelC,hφ k (by simp[C.refs])];exact h
 |own k es off n=>simp only[C.ren,RelC,hφ k (by simp[C.refs])];exact h
 |bsl k o es n=>simp only[C.ren,RelC,hφ k (by simp[C.refs])];exact h
 |clo f n caps=>
  obtain⟨vs,e,hl,hr⟩:=h;refine⟨vs,e,by simpa using hl,fun j hj=>?_⟩;have hj:j<caps.length:=by simpa using hj
  have e1:caps.getD j zzd=caps[j]:=by rw[List.getD_eq_getElem?_getD,List.getElem?_eq_getElem hj];rfl
  have e2:(caps.map (CC.ren ρ)).getD j zzd=caps[j].ren ρ:=by rw[List.getD_eq_getElem?_getD,List.getElem?_map,List.getElem?_eq_getElem hj];rfl
  have:=hr j hj;rw[e1]at this;rw[e2];have hm:caps[j]∈caps:=List.getElem_mem hj
  generalize caps[j]=c at*;cases c with
  |d x=>exact this
  |ptr k o=>
   have:ψ (renN ρ k)=φ k:=hφ k (zba (f:=CC.refs k) hm (by simp[CC.refs]));simp only[CC.ren,RelCC,this]
   assumption
theorem RelCs.ren_to {V:Nat→Prop}{ψ:Nat→Option Loc}{ρ:List (Nat×Nat)}: ∀{cs:List C} {vs:List Value},(∀c∈cs,∀k,c.refs k=true→ψ (renN ρ k)=φ k)→RelCs (RelC G V φ w) cs vs→RelCs (RelC G V ψ w) (cs.map (C.ren ρ)) vs
 |[],[],_,_=>trivial
 |c::cs,v::vs,hφ,h=>⟨C.ren_to h.1 (hφ c (zz3 ..)),RelCs.ren_to (fun c hc=>hφ c (zz7 _ hc)) h.2⟩
 |[],_::_,_,h=>h.elim
 |_::_,[],_,h=>h.elim
theorem RelSs.ren_to {V:Nat→Prop}{ψ:Nat→Option Loc}{ρ:List (Nat×Nat)}: ∀{xs:List (Bool×List C)} {vs:List Value},(∀p∈xs,∀c∈p.2,∀k,c.refs k=true→ψ (renN ρ k)=φ k)→RelSs (RelC G V φ w) xs vs→
 RelSs (RelC G V ψ w) (xs.map fun p=>(p.1,p.2.map (C.ren ρ))) vs
 |[],[],_,_=>trivial
 |p::xs,u::vs,hφ,h=>by
  refine⟨?_,RelSs.ren_to (fun p hp=>hφ p (zz7 _ hp)) h.2⟩;have hp:=hφ p (zz3 ..)
  have hx:=h.1;rcases p with⟨b,cs⟩;cases b with
  |true=>obtain⟨us,e,g1,g2⟩:=hx;exact⟨us,e,RelCs.ren_to hp g1,g2⟩
  |false=>
   match cs,hp,hx with
   |[c],hp,hx=>exact⟨C.ren_to hx.1 (hp c (by simp)),hx.2⟩
   |[],_,hx=>exact hx.elim
   |_::_::_,_,hx=>exact hx.elim
 |[],_::_,_,h=>h.elim
 |_::_,[],_,h=>h.elim
theorem AV.ren_to {V:Nat→Prop}{ψ:Nat→Option Loc}{ρ:List (Nat×Nat)}{x:AV}{v:Value}(h:RelAV (RelC G V φ w) x v)(hφ: ∀k,x.refs k=true→ψ (renN ρ k)=φ k):RelAV (RelC G V ψ w) (x.ren ρ) v:=by
 have hc: ∀c∈x.cells,∀k,c.refs k=true→ψ (renN ρ k)=φ k:=fun c hc k hk=>hφ k (z8n hc hk);cases x with
 |c x=>
  by_cases e:x= .any
  ·subst e;trivial
  ·have:RelS (RelC G V φ w) (false,[x]) v:=by cases x<;>first|exact h|exact(e rfl).elim
   exact z0f (C.ren_to this.1 (hc x (by simp[AV.cells]))) this.2
 |agg xs=>obtain⟨us,e,h1,h2⟩:=h;exact⟨us,e,RelCs.ren_to hc h1,h2⟩
 |tup vs=>obtain⟨us,e,h1⟩:=h;exact⟨us,e,RelSs.ren_to (fun p hp c hc'=>hc c (List.mem_flatMap.2 ⟨p,hp,hc'⟩)) h1⟩
def renTm (ρ:List (Nat×Nat))(tm:List (Nat×AV)):List (Nat×AV):=tm.map fun p=>(p.1,p.2.ren ρ)
theorem zga {ρ:List (Nat×Nat)}: ∀(tm:List (Nat×AV)) (t:Nat),look (renTm ρ tm) t=(look tm t).map (AV.ren ρ)
 |[],t=>rfl
 |(j,x)::r,t=>by
  simp only[renTm,List.map_cons,z0y];by_cases e:j=t
  ·simp[e]
  ·rw[if_neg e,if_neg e];exact zga r t
theorem Sim.rename (h:Sim E s G φ a w){k k':Nat}(hn:s.noRef k'=true)(hfx:anyB (Nat.beq k') E.fx=false)(hlk:lkOk E.lk [k] [k']=true):
 Sim E ⟨renTm [(k,k')] s.tm,renSl [(k,k')] s.sl⟩ G (upd φ k' (φ k)) a w:=by
 obtain⟨n1,n2⟩:=z4m hn;have hr: ∀j,renN [(k,k')] j=if k=j then k' else j:=fun j=>by
  unfold renN;simp only[z0y];by_cases e:k=j
  ·simp[e]
  ·simp[e,look]
 have key: ∀j,j≠k'→upd φ k' (φ k) (renN [(k,k')] j)=φ j:=fun j hj=>by
  rw[hr];by_cases e:k=j
  ·rw[if_pos e,z3r,e]
  ·rw[if_neg e,z35 _ _ _ hj]
 have hin: ∀j c,look (renSl [(k,k')] s.sl) j=some c→ ∃i c0,j=renN [(k,k')] i∧look s.sl i=some c0∧c=c0.ren [(k,k')]∧i≠k':=fun j c hc=>by
  obtain⟨i,c0,h1,h2,h3⟩:=zcj hc;exact⟨i,c0,h1,h2,h3,(n2 _ (z2a h2)).1⟩
 exact
 {h with
  tm:=fun t x hx=>by
   rw[zga]at hx;cases hl:look s.tm t with
   |none=>rw[hl]at hx;cases hx
   |some x0=>
    rw[hl]at hx;cases hx;obtain⟨v,hv,hrel⟩:=h.tm t x0 hl;exact⟨v,hv,AV.ren_to hrel fun j hj=>key j fun e=>by rw[e,n1 _ (z2a hl)]at hj;cases hj⟩
  sl:=fun j c hc=>by
   obtain⟨i,c0,rfl,h2,rfl,hne⟩:=hin j c hc;have:=h.sl i c0 h2
   have e:=key i hne;cases c0 with
   |vec es n get=>simp only[Slot.ren,z4k,e];exact this
   |box cs=>
    obtain⟨l,hl,ht,vs,g1,g2,g3⟩:=this;refine⟨l,by rw[e];exact hl,by simpa using ht,vs,RelCs.ren_to (fun c hc j hj=>key j fun e=>?_) g1,g2,g3⟩;have:=(n2 _ (z2a h2)).2
    rw[e,Slot.refs_cells this c hc]at hj;cases hj
  inj:=fun j1 j2 c1 c2 l1 l2 h1 h2 e1 e2 eb=>by
   obtain⟨i1,d1,rfl,g1,_,ne1⟩:=hin _ _ h1;obtain⟨i2,d2,rfl,g2,_,ne2⟩:=hin _ _ h2;rw[key _ ne1]at e1;rw[key _ ne2]at e2;rw[h.inj _ _ _ _ _ _ g1 g2 e1 e2 eb]
  own:=fun j c l h1 h2=>by
   obtain⟨i,d,rfl,g,_,ne⟩:=hin _ _ h1;rw[key _ ne]at h2;obtain⟨o1,o2,o3,o4⟩:=h.own _ _ _ g h2;refine⟨o1,o2,o3,?_⟩;rcases o4 with o4|⟨o4,o5⟩
   ·exact .inl o4
   ·refine .inr ⟨?_,o5⟩;rw[hr];by_cases e:k=i
    ·rw[if_pos e];subst e;unfold lkOk at hlk;split at hlk
     ·rename_i hall
      exact z21.1 (z2s hall k' (by simp))
     ·have:anyB (fun k=>anyB (Nat.beq k) E.lk) [k]=true:=zba (by simp) (z21.2 o4);rw[this]at hlk;cases hlk
    ·rw[if_neg e];exact o4
  fix:=fun j c hx h1=>by
   obtain⟨i,d,rfl,g,_,ne⟩:=hin _ _ h1;rw[key _ ne];have hne': ¬k=i:=fun e=>by
    rw[hr,if_pos e]at hx;exact z9i hfx hx
   rw[hr,if_neg hne']at hx ⊢;exact h.fix _ _ hx g}
theorem SimE.rename (k k':Nat)(h:SimE E s a w)(hn:s.noRef k'=true)(hfx:anyB (Nat.beq k') E.fx=false)(hlk:lkOk E.lk [k] [k']=true){s':St}(e:(⟨renTm [(k,k')] s.tm,renSl [(k,k')] s.sl⟩:St)=s'):SimE E s' a w:=by
 obtain⟨G,φ,h⟩:=h;exact e▸⟨G,_,h.rename hn hfx hlk⟩
theorem Tri.rename (k k':Nat)(s':St){c:Code}{post:Exit→St→Prop}(e:(⟨renTm [(k,k')] s.tm,renSl [(k,k')] s.sl⟩:St)=s')(hn:s.noRef k'=true)(hfx:anyB (Nat.beq k') E.fx=false)(hlk:lkOk E.lk [k] [k']=true)
 (h:Tri E c s' post):Tri E c s post:=Tri.weaken (fun _ _ hs=>hs.rename k k' hn hfx hlk e) h
theorem At.rename (k k':Nat)(s':St){L:List Oper}{i:Nat}{K:St→Prop}(e:(⟨renTm [(k,k')] s.tm,renSl [(k,k')] s.sl⟩:St)=s')(hn:s.noRef k'=true)(hfx:anyB (Nat.beq k') E.fx=false)(hlk:lkOk E.lk [k] [k']=true)
 (h:At E L i s' K):At E L i s K:=fun a w hs=>h a w (hs.rename k k' hn hfx hlk e)
def SubS:List (Nat×Slot)→List (Nat×Slot)→Prop
 |[],_=>True
 |(k,c)::r,sl=>(look sl k=some c∧c.clean=true)∧SubS r sl
theorem SubS.out: ∀{sl' sl:List (Nat×Slot)},SubS sl' sl→ ∀k c,look sl' k=some c→look sl k=some c∧c.clean=true
 |[],_,_,k,c,h=>by cases h
 |(j,c0)::r,sl,⟨h1,h2⟩,k,c,h=>by
  rw[z0y]at h;by_cases e:j=k
  ·subst e;rw[if_pos rfl]at h;cases h;exact h1
  ·rw[if_neg e]at h;exact SubS.out h2 k c h
theorem zm4 {ops:Array Oper}{o:Oper}{x:DOp}{z0:AV}{S':List (Nat×Slot)}(ρ:List (Nat×Nat))(k1 k2:List Nat)
 (hone: ∀r:St,allC (fun k=>match look (lessK ((k1++k2).map (renN ρ)) (x.need.sl++r.sl)) (renN ρ k)with|some _=>false|none=>true) (k1++k2)=true→allC (fun k=>(⟨x.need.tm++r.tm,lessK ((k1++k2).map (renN ρ)) (x.need.sl++r.sl)⟩:St).noRef (renN ρ k)) (oddK k1 k2)=true→
  One E ops o (x.need.app r) (putO ⟨x.need.tm++r.tm,S'++lessK ((k1++k2).map (renN ρ)) (x.need.sl++r.sl)⟩ o.dst z0))
 (hodd:allC (fun k=>(⟨x.need.tm,lessK ((k1++k2).map (renN ρ)) x.need.sl⟩:St).noRef (renN ρ k)) (oddK k1 k2)=true)
 (hmk:allC (fun k=>memB (renN ρ k) x.mks) (oddK k1 k2)=true)
 (hcov:allC (fun k=>z18 (renN ρ k) x.eff.sl) (k1++k2)=true) (hesl:S'=x.eff.sl)
 (het:match o.dst with|some d=>[(d,z0)]=x.eff.tm|none=>x.eff.tm=[]):DOk E ops o x:=DOk.one fun r hr=>by
 let im:=(k1++k2).map (renN ρ)
 have hle0: ∀(l:List (Nat×Slot)) t c,look (lessK im l) t=some c→memB t im=false∧look l t=some c:=fun l t c h=>by
  rw[z4n]at h;cases hm:memB t im with
  |true=>rw[hm]at h;cases h
  |false=>rw[hm]at h;exact⟨rfl,h⟩
 refine(hone r ?_ ?_).weaken fun a w hs=>hs.weaken (fun t y hy=>?_) fun t y hy=>?_
 ·have: ∀k∈k1++k2,(match look (lessK im (x.need.sl++r.sl)) (renN ρ k)with|some _=>false|none=>true)=true:=fun k hk=>by
   have hm:memB (renN ρ k) im=true:=z22.2 (List.mem_map.2 ⟨k,hk,rfl⟩);rw[z4n,hm]
  have key: ∀l:List Nat,(∀k∈l,(match look (lessK im (x.need.sl++r.sl)) (renN ρ k)with|some _=>false|none=>true)=true)→allC (fun k=>match look (lessK im (x.need.sl++r.sl)) (renN ρ k)with|some _=>false|none=>true) l=true:=by
   intro l;induction l with
   |nil=>intro _;rfl
   |cons k l ih=>
    intro h;simp only[allC];rw[h k (zz3 ..)];exact ih fun j hj=>h j (zz7 _ hj)
  exact key _ this
 ·have: ∀k∈oddK k1 k2,(⟨x.need.tm++r.tm,lessK im (x.need.sl++r.sl)⟩:St).noRef (renN ρ k)=true:=fun k hk=>by
   have h1:=z2s hodd k hk;have h2:=hr _ (z22.1 (z2s hmk k hk))
   rw[zb2];have h3:(⟨r.tm,lessK im r.sl⟩:St).noRef (renN ρ k)=true:=by
    obtain⟨p1,p2⟩:=z4m h2;unfold St.noRef;have q1:anyB (fun e:Nat×AV=>AV.refs (renN ρ k) e.2) r.tm=false:=by
     cases e:anyB (fun e:Nat×AV=>AV.refs (renN ρ k) e.2) r.tm with
     |false=>rfl
     |true=>obtain⟨y,hy,hy'⟩:=z89.1 e;rw[p1 y hy]at hy';cases hy'
    have q2:anyB (z61 (renN ρ k)) (lessK im r.sl)=false:=by
     cases e:anyB (z61 (renN ρ k)) (lessK im r.sl)with
     |false=>rfl
     |true=>
      obtain⟨y,hy,hy'⟩:=z89.1 e;have hmem: ∀l:List (Nat×Slot),y∈lessK im l→y∈l:=by
       intro l;induction l with
       |nil=>intro h;exact h
       |cons z l ih=>
        rcases z with⟨zk,zc⟩;intro h;simp only[lessK]at h;split at h
        ·exact zz7 _ (ih h)
        ·rcases zzj.1 h with h|h
         ·rw[h];exact zz3 ..
         ·exact zz7 _ (ih h)
      obtain⟨u1,u2⟩:=p2 y (hmem _ hy);unfold z61 at hy';have hb:Nat.beq y.1 (renN ρ k)=false:=by
       cases hb:Nat.beq y.1 (renN ρ k)with
       |false=>rfl
       |true=>exact absurd (zz5 hb) u1
      rw[hb]at hy';simp only[u2]at hy';cases hy'
    simp only[q1,q2]
   exact z2k (n:=⟨x.need.tm,lessK im x.need.sl⟩) (r:=⟨r.tm,lessK im r.sl⟩) h1 h3
  have key: ∀l:List Nat,(∀k∈l,(⟨x.need.tm++r.tm,lessK im (x.need.sl++r.sl)⟩:St).noRef (renN ρ k)=true)→allC (fun k=>(⟨x.need.tm++r.tm,lessK im (x.need.sl++r.sl)⟩:St).noRef (renN ρ k)) l=true:=by
   intro l;induction l with
   |nil=>intro _;rfl
   |cons k l ih=>
    intro h;simp only[allC];rw[h k (zz3 ..)];exact ih fun j hj=>h j (zz7 _ hj)
  exact key _ this
 ·cases hdd:o.dst with
  |none=>
   rw[hdd]at het;have het:x.eff.tm=[]:=het
   simp only[St.app,het,List.nil_append]at hy;exact hy
  |some d=>
   rw[hdd]at het;have het:[(d,z0)]=x.eff.tm:=het
   simp only[St.app,←het]at hy;exact hy
 ·have h1:look (S'++lessK im (x.need.sl++r.sl)) t=some y:=by
   simp only[St.app,←hesl]at hy;rw[z1u]at hy ⊢;cases he:look (S') t with
   |some z=>rw[he]at hy;exact hy
   |none=>
    rw[he]at hy;simp only at hy ⊢;rw[z4n];cases hm:memB t im with
    |false=>exact hy
    |true=>
     obtain⟨k,hk,rfl⟩:=List.mem_map.1 (z22.1 hm);obtain⟨z,hz⟩:=z2c.1 (z2s hcov k hk);rw[←hesl,he]at hz;cases hz
  cases hdd:o.dst with
  |none=>exact h1
  |some d=>exact h1
theorem DOk.callL {ops:Array Oper}{o:Oper}{x:DOp}{cl:Call}{f:FuncId}{nf:Nat}{caps:List CC}{xs args:List AV}{res:AV}{sl sl':List (Nat×Slot)}(ρ:List (Nat×Nat))
 (hS:Summ E.P f args sl res sl') (hop:o.op= .call cl) (hw: ∀r,z0l ops (x.need.app r) o=some true) (hd:dstOk E.N o.dst=true)
 (hc: ∀r,z78 (x.need.app r) cl=some (f,nf,caps)) (hx: ∀r,argsL (x.need.app r) cl nf caps=some xs)
 (hle: ∀r,AVsArgL (x.need.app r) ρ (keysS sl) ((keysS sl).map (renN ρ)) xs args) (hsl: ∀r,LentS (x.need.app r) ρ (keysS sl) sl) (hinj:injB ρ (keysS sl)=true) (hinj':injB ρ (keysS sl')=true)
 (hres:res.lent (keysS sl')=true) (hsl':allC (fun p:Nat×Slot=>p.2.lent (keysS sl')) sl'=true)
 (hodd:allC (fun k=>(⟨x.need.tm,lessK ((keysS sl++keysS sl').map (renN ρ)) x.need.sl⟩:St).noRef (renN ρ k)) (oddK (keysS sl) (keysS sl'))=true)
 (hmk:allC (fun k=>memB (renN ρ k) x.mks) (oddK (keysS sl) (keysS sl'))=true)
 (hfx:allC (fun k=> !anyB (Nat.beq (renN ρ k)) E.fx) (oddK (keysS sl) (keysS sl'))=true) (hlk:lkOk3 E.lk ρ (keysS sl) (keysS sl')=true)
 (hcov:allC (fun k=>z18 (renN ρ k) x.eff.sl) (keysS sl++keysS sl')=true) (hesl:renSl ρ sl'=x.eff.sl)
 (het:match o.dst with|some d=>[(d,res.ren ρ)]=x.eff.tm|none=>x.eff.tm=[]):DOk E ops o x:=
 zm4 ρ (keysS sl) (keysS sl') (fun r q1 q2=>One.callL ρ ⟨x.need.tm++r.tm,lessK ((keysS sl++keysS sl').map (renN ρ)) (x.need.sl++r.sl)⟩ hS hop (hw r) hd (hc r) (hx r) (hle r) (hsl r) hinj hinj' hres hsl' (fun t y h=>h) (fun t c h=>by
  rw[z4n]at h;split at h
  ·cases h
  ·exact h) q1 q2 hfx hlk) hodd hmk hcov hesl het
end
end Go.Av
/-
 Av,part Y:more rules over lists;library functions that the model stands in for.
-/
namespace Go.Av
open Go
@[reducible] def onlyS (s1:St):Exit→St→Prop:=fun e s=>e= .normal∧s=s1
section
variable {E:Env} {s:St} {X:Type} [Inhabited X]
theorem z5g (s1:St){c:Code}{post:Exit→St→Prop}(h:Tri E c s (onlyS s1))(hA:At E [] 0 s1 (post .normal)):Tri E c s post:=fun a w hs=>
 wp_mono (h a w hs) fun e a' w' ⟨s',hp,hs'⟩=>by
  obtain⟨rfl,rfl⟩:=hp;exact hA a' w' hs' (fun e a'' w''=> ∃s'',post e s''∧SimE E s'' a'' w'') fun s'' a'' w'' k h'=>⟨s'',k,h'⟩
def zn8 (s:ByteArray):List Int:=s.data.toList.map fun b=>(b.toNat:Int)
@[simp] theorem zq2 (s:ByteArray):(zn8 s).length=s.size:=by
 unfold zn8;rw[List.length_map,zzr];rfl
def copyL (dst src:List X):List X:=src++dst.drop src.length
theorem zau {dst src:List X}(h:src.length≤dst.length):(copyL dst src).length=dst.length:=by simp[copyL];omega
theorem zhh {ops:Array Oper}{o:Oper}{k es:Nat}{dT sT e:TypeId}{p x:Operand}{y:AV}(enc:X→List D)(dst src:List X)
 (hop:o.op= .call ⟨.builtin .copy, #[p,x], #[dT,sT]⟩) (hw:z0l ops s o=some true) (hd:dstOk E.N o.dst=true)
 (hu:E.P.underlying dT=some (.slice e)) (hsz:sizeT E.P e=some es) (hp:evO s p=some (.c (.own k es 0 dst.length))) (hk:look s.sl k=some (.vec es dst.length (fun i=>enc (dst.getD i zzd)))) (hx:evO s x=some y)
 (hsrc:SrcOf s y es src.length (fun i=>enc (src.getD i zzd))) (hm:src.length≤dst.length):
 One E ops o s (putO (s.slot k (.vec es (copyL dst src).length (fun i=>enc ((copyL dst src).getD i zzd)))) o.dst (.c (.d (.int .i64 (src.length:Int))))):=by
 have h:=One.copy hop hw hd hu hsz hp hk hx hsrc hm;rw[zau hm];have e1:z99 src.length (fun i=>enc (src.getD i zzd)) (fun i=>enc (dst.getD i zzd))=fun i=>enc ((copyL dst src).getD i zzd):=by
  funext i;unfold z99 copyL;rw[zdw];split
  ·rfl
  ·rename_i hi
   show enc (dst.getD i zzd)=enc ((dst.drop src.length).getD (i-src.length) zzd);rw[List.getD_eq_getElem?_getD,List.getD_eq_getElem?_getD,List.getElem?_drop];congr 3;omega
 rw[e1]at h;exact h
theorem ziq {ops:Array Oper}{o:Oper}{t e:TypeId}{d:Nat}{x:Operand}
 (hop:o.op= .call ⟨.builtin .cap, #[x], #[t]⟩) (hw:z0l ops s o=some true) (hd:o.dst=some d) (hlt:Nat.blt d E.N=true) (hu:E.P.underlying t=some (.slice e)) (hx:evO s x=some (.c .zero)):
 One E ops o s (s.put d (.c (.d (.int .i64 0)))):=fun a w hs=>by
 obtain⟨G,φ,h⟩:=hs;refine⟨z14 h hw,fun next Q hn=>?_⟩;obtain⟨A,hA⟩:=(h.ev hx).1;have he:execOp a.eval o=(do pure (.value (←Builtin.cap_ #[t] o.type #[a.eval x])):Sem Next):=by
  unfold execOp;rw[hop];simp[resolve,invoke,builtin]
 have hrun:(Builtin.cap_ #[t] o.type #[a.eval x]).run E.P w= .ok (.int .i64 0) w:=by
  rw[hA];simp[Builtin.cap_,run_underlying hu,goInt]
 unfold Oper.wp;rw[he];simp only[zz4,hrun,zz1,zz9,Oper.upon,hd];exact hn _ _ ⟨G,φ,h.put (zzk.mp hlt) (z0f (RelD.int _ _) rfl)⟩
theorem zio {ops:Array Oper}{o:Oper}{d:Nat}{sT xT e:TypeId}{es bs:Nat}{kn kx:IntKind}{n:Int}{b x:Operand}{z:List C}{ds:List D}(enc:X→List D)(v0:X)
 (hop:o.op= .call ⟨.builtin .append, #[b,x], #[sT,xT]⟩) (hw:z0l ops s o=some true) (hd:o.dst=some d) (hlt:Nat.blt d E.N=true) (hnr:s.noRef d=true)
 (hu:E.P.underlying sT=some (.slice e)) (hx:E.P.underlying xT=some (.int kx)) (hsz:sizeT E.P e=some es) (hbs:z73 E.P e=some bs) (hbp:Nat.blt 0 bs=true) (hb2:Nat.ble bs 256=true)
 (hz:zeroCells E.P e=some z) (hze:Nat.beq z.length es=true) (hes:Nat.blt 0 es=true) (hzd:CsLe s [] z (ds.map .d)) (hev:enc v0=ds)
 (hb:evO s b=some (.c .zero)) (hxv:evO s x=some (.c (.d (.int kn n)))) (h0:0<n) (h1:n≤(lim:Int)):
 One E ops o s ((s.slot d (.vec es (zz6 n.toNat v0).length (fun i=>enc ((zz6 n.toNat v0).getD i zzd)))).put d (.c (.own d es 0 (zz6 n.toNat v0).length))):=fun a w hs=>by
 obtain⟨G,φ,h⟩:=hs;refine⟨z14 h hw,fun next Q hn=>?_⟩;obtain⟨A,hA⟩:=(h.ev hb).1;have hN:a.eval x= .int kn n:=z3u (h.ev hxv)
 obtain⟨zv,z1,z2,z3⟩:=z42 hz;have hbs0:=zzk.mp hbp
 have hbs2:=zzb hb2;have hze:=zz5 hze
 have hes0:=zzk.mp hes;have hzsz:zv.cells.size=es:=by rw[←hze,←z2];simp
 have hlimv:(lim:Int)=274877906944:=rfl;have hwr:zzi.wrap n=n:=z23 (by omega) (by omega)
 have hinfo: ∀w,(typeInfo e).run E.P w= .ok ((E.P.info? e).getD zzd) w:=fun w=>by
  unfold sizeT at hsz;cases hi:E.P.info? e with
  |none=>simp[hi]at hsz
  |some i=>simp[typeInfo,hi]
 have hbytes:((E.P.info? e).getD zzd).bytes=bs:=by
  unfold z73 at hbs;cases hi:E.P.info? e with
  |none=>simp[hi]at hbs
  |some i=>simpa [hi]using hbs
 have hn0:n.toNat*es≠0:=by
  have:0<n.toNat:=by omega
  exact Nat.ne_of_gt (Nat.mul_pos this hes0)
 let q:Question:= .appendCap (0+n.toNat) 0 e
 let newCap:=q.cut (w.tape w.drawn q)
 have hge:0+n.toNat≤newCap:=Nat.le_add_right _ _
 let vs:Array Value:= #[]++Builtin.zeroCells zv.cells n.toNat++Builtin.zeroCells zv.cells (newCap-(0+n.toNat))
 have hrun:(Builtin.append_ #[sT,xT] o.type #[.slice A 0 0,.int kn n]).run E.P w= .ok (.slice (some ⟨w.heap.size,0,none⟩) (0+n.toNat) newCap) (World.alloc {w with drawn:=w.drawn+1} (.cells vs e)):=by
  have hlb: ¬(n*(bs:Int)>2^48):=by
   have h2:n*(bs:Int)≤274877906944*256:=Int.mul_le_mul (by omega) (by omega) (by omega) (by omega);have:(274877906944:Int)*256≤2^48:=by decide
   omega
  have hbig: ¬(Builtin.nextslicecap (0+n.toNat) 0*bs>2^48):=by
   have h1:=zcl (need:=0+n.toNat) (old:=0) (by omega);have h2:Builtin.nextslicecap (0+n.toNat) 0≤2*lim+192:=by
    have:lim=274877906944:=rfl;omega
   have h3:Builtin.nextslicecap (0+n.toNat) 0*bs≤(2*lim+192)*256:=Nat.mul_le_mul h2 hbs2;have h4:(2*lim+192)*256≤2^48:=by decide
   omega
  have hmax:zzi.max=9223372036854775807:=by decide
  have hask: ∀b w',(askRoom b).run E.P w'= .ok () w':=fun b w'=>by unfold askRoom;split<;>rfl
  have hch:(choose (.appendCap (0+n.toNat) 0 e)).run E.P w= .ok newCap {w with drawn:=w.drawn+1}:=rfl;have hold: ∀w',(Builtin.firstCells es 0 (.slice A 0 0)).run E.P w'= .ok #[] w':=fun w'=>by cases A<;>simp[Builtin.firstCells,loadCells,loadCellsFrom]
  have hnz: ¬(n.toNat=0∨es=0):=by omega
  unfold Builtin.append_;simp only[List.getElem?_toArray,List.getElem?_cons_zero,List.getElem?_cons_succ,zz4,run_underlying hu,run_underlying hx,zz1,z1r hsz,zz9,if_true,asInt,asIntOf,hwr,hinfo,hbytes];rw[if_neg (by omega: ¬n<0)];simp only[zz4,hinfo,zz1,zz9,hbytes];rw[if_neg hlb];simp only[zz4,zz1,zz9];rw[if_neg (by omega: ¬0+n.toNat≤0)];simp only[zz4,hinfo,zz1,hbytes];have hsmall: ¬(((0+n.toNat:Nat):Int)>zzi.max∧(True∨bs=0)):=by
   rintro⟨h,_⟩;rw[hmax]at h;omega
  rw[if_neg hsmall];simp only[zz4,hinfo,zz1,hbytes];rw[if_neg hbig];simp only[zz4,hch,zz1,hinfo,hask,hold,zzn,if_false,hn0,z1,z50,zz9,zzm];rfl
 have he:execOp a.eval o=(do pure (.value (←Builtin.append_ #[sT,xT] o.type #[a.eval b,a.eval x])):Sem Next):=by
  unfold execOp;rw[hop];simp[resolve,invoke,builtin]
 unfold Oper.wp;rw[he,hA,hN];simp only[zz4,hrun,zz1,zz9,Oper.upon,hd];have hw1:Sim E s G φ a {w with drawn:=w.drawn+1}:=h.world rfl rfl ⟨rfl,Nat.le_succ _⟩ rfl
 have hdl:ds.length=es:=by
  have:=hzd.rel h (vs:=zv.cells.toList) (by rw[←z2];exact z4z G E.V φ w _);have:=this.length
  simp at this;omega
 have hzr:RelCs (RelC G E.V φ w) (ds.map .d) zv.cells.toList:=by
  have h2:=hzd.rel h (vs:=zv.cells.toList) (by rw[←z2];exact z4z G E.V φ w _);exact h2.mono fun c _ v hc=>hc.mono (Same.refl _ _) (Same.refl _ _) (fun _ hb=>z7p hb) fun _ _=>rfl
 have hcell: ∀j,j<es→ ∃u,zv.cells[j]?=some u∧RelD G w (D.at ds j) u:=fun j hj=>by
  obtain⟨u,hu,hr⟩:=hzr.get j (.d (D.at ds j)) (by rw[List.getElem?_map,List.getElem?_eq_getElem (by omega)];simp[D.at,List.getD_eq_getElem?_getD,List.getElem?_eq_getElem (show j<ds.length by omega)]);exact⟨u,by simpa using hu,hr⟩
 have hvsz:vs.size=newCap*es:=by
  simp only[vs,Array.size_append,Builtin.zeroCells,Array.size_map,Array.size_range,hzsz];rw[show(#[]:Array Value).size=0 from rfl,zzc,←Nat.add_mul];congr 1;omega
 have hok:z2g G {w with drawn:=w.drawn+1} vs.toList es n.toNat (fun _=>ds):=fun i hi=>⟨hdl,fun j hj=>by
  obtain⟨u,hu,hr⟩:=hcell j hj;refine⟨u,?_,RelD.mono (w:=w) (w':={w with drawn:=w.drawn+1}) (fun b _=>rfl) (fun _ h=>h) hr⟩;have hlt':i*es+j<n.toNat*es:=z4y hi hj
  have hmod:(i*es+j) % zv.cells.size=j:=by rw[hzsz,Nat.add_comm,Nat.add_mul_mod_self_right,Nat.mod_eq_of_lt hj]
  have hz0:(Builtin.zeroCells zv.cells n.toNat).size=n.toNat*es:=by simp[Builtin.zeroCells,hzsz]
  have e1:vs.toList[i*es+j]?=(Builtin.zeroCells zv.cells n.toNat)[i*es+j]?:=by
   rw[Array.getElem?_toList];simp only[vs,Array.empty_append];rw[Array.getElem?_append_left (by omega)]
  rw[e1];unfold Builtin.zeroCells;rw[Array.getElem?_map,Array.getElem?_range,hzsz,if_pos hlt'];rw[hzsz]at hmod;simp only[Option.map_some,hmod];rw[getElem!_def,hu]⟩
 have hs':=hw1.newVec (k:=d) (w:={w with drawn:=w.drawn+1}) (get:=fun _=>ds) (h.notFx (zzk.mp hlt)) hnr e hvsz (by omega) (by unfold maxN;omega) hok;have hput:=hs'.put (zzk.mp hlt) (x:= .c (.own d es 0 n.toNat)) (v:= .slice (some ⟨w.heap.size,0,none⟩) (0+n.toNat) newCap) (z0f (Or.inr ⟨_,z3r _ _ _,(show 0+n.toNat≤newCap by omega),by simp⟩) rfl)
 have hfin:=zdh (get':=fun i=>enc ((zz6 n.toNat v0).getD i zzd)) hput fun i hi=>by
  show enc ((zz6 n.toNat v0).getD i zzd)=ds;rw[List.getD_eq_getElem?_getD,List.getElem?_replicate,if_pos hi];exact hev
 rw[List.length_replicate]at hn;exact hn _ _ ⟨G,_,hfin⟩
def z8q (x y c:Int):Option (Int×Int):=
 need (0≤x∧0≤y∧0≤c∧c≤1)<|some ((x+y+c) % 18446744073709551616,(x+y+c) / 18446744073709551616)
theorem zd2 {P : Program} {f : FuncId} {fn : Func} (hf : P.funcs[f]? = some fn) (hname : (fn.name == "runtime.NumGoroutine") = false) (hb : fn.body.isNone = true) (hn : Extern.findNext fn = none)
    (he : Extern.find fn = some add64Entry) {x y c : Int} {q : Int × Int} (h : z8q x y c = some q) :
    Summ P f [.c (.d (.int .u64 x)), .c (.d (.int .u64 y)), .c (.d (.int .u64 c))] [] (.tup [(false, [.d (.int .u64 q.1)]), (false, [.d (.int .u64 q.2)])]) [] := by
  unfold z8q at h
  obtain ⟨⟨hx, hy, hc0, hc1⟩, h⟩ := z08 h
  cases h
  intro G φ w vs hG hsl hargs
  match vs, hargs with
  | [a, b, d], ⟨h1, h2, h3, _⟩ =>
    have e1 : RelD G w (.int .u64 x) a := h1.1
    have e2 : RelD G w (.int .u64 y) b := h2.1
    have e3 : RelD G w (.int .u64 c) d := h3.1
    cases e1; cases e2; cases e3
    have hrun : (callFunc f [Value.int .u64 x, .int .u64 y, .int .u64 c].toArray).run P w = .ok (.value (.tuple #[.int .u64 ((x + y + c) % 18446744073709551616), .int .u64 ((x + y + c) / 18446744073709551616)])) w := by
      rw [run_callFunc_extern hf hname hb hn he]
      rw [run_add64 x y c hx hy hc0 hc1]
      rfl
    unfold Acts
    rw [hrun]
    refine ⟨_, G, φ, rfl, ?_⟩
    exact
    { up := fun _ h => h
      fr := fun _ h => .inl h
      sz := hG
      rel := ⟨_, rfl, ⟨RelD.int _ _, rfl⟩, ⟨RelD.int _ _, rfl⟩, trivial⟩
      slots := ⟨(fun _ _ h => by cases h), (fun _ _ _ _ _ _ h => by cases h), (fun _ _ _ h => by cases h)⟩
      blk := fun _ _ _ h => by cases h
      kp := Keep.refl _ _ _
      fix := fun _ _ _ h => by cases h }
end
end Go.Av
namespace Go.Av
section
variable {X:Type} [Inhabited X]
omit [Inhabited X]in
theorem zou {xs:List X}{h:Int}(hc:(0:Int)≤0∧(0:Int)≤h∧h≤(xs.length:Int)):min h.toNat xs.length=h.toNat:=by omega
omit [Inhabited X]in
theorem zpy (xs:List X)(m:Nat):(xs.take m).length≤xs.length:=by rw[zzp];omega
theorem zot (enc:X→List D)(xs:List X)(m:Nat): ∀i,i<(xs.take m).length→(fun i=>enc ((xs.take m).getD i zzd)) i=(fun i=>enc (xs.getD i zzd)) i:=fun i hi=>by
 show enc ((xs.take m).getD i zzd)=enc (xs.getD i zzd);rw[zzp]at hi;rw[List.getD_eq_getElem?_getD,List.getD_eq_getElem?_getD,List.getElem?_take,if_pos (by omega)]
end
end Go.Av
namespace Go.Av
abbrev i6 (x:Int):D:= .int .i64 x
abbrev u6 (x:Int):D:= .int .u64 x
abbrev cD (d:D):AV:= .c (.d d)
abbrev lD {X:Type}[Inhabited X](es:Nat)(e:X→List D)(l:List X):D:= .list es l.length (fun i=>e (l.getD i zzd))
abbrev wC {X:Type}[Inhabited X](es:Nat)(e:X→List D)(l:List X):C:= .view es l.length (fun i=>e (l.getD i zzd))
abbrev oC {X:Type}(k es:Nat)(l:List X):C:= .own k es 0 l.length
abbrev vL {X:Type}[Inhabited X](es:Nat)(e:X→List D)(l:List X):Slot:= .vec es l.length (fun i=>e (l.getD i zzd))
theorem DOk.t {E:Env}{ops:Array Oper}{o:Oper}{x:DOp}{d:Nat}{av:AV}(he0:x.eff=⟨[(d,av)],[]⟩)(hd:o.dst=some d)(hw:(fun r=>(z0l ops (x.need.app r) o,z39 E.P (x.need.app r) (some d) o.op))=fun _=>(some true,some (.val av True)))
 (hok:(okDst E.N x.need (some d) (.val av True) && mksOk x.mks (.val av True) (some d))=true):DOk E ops o x:=
 DOk.step (.val av True) (fun r=>congrArg Prod.fst (congrFun hw r)) (fun r=>by rw[hd];exact congrArg Prod.snd (congrFun hw r)) trivial (by rw[hd];exact(Bool.and_eq_true_iff.1 hok).1) (by rw[hd];exact(Bool.and_eq_true_iff.1 hok).2) (fun r=>by rw[hd,he0];rfl)
end Go.Av
namespace Go.Av
open Go
abbrev dI (x:Int):D:= .int .i64 x
abbrev dU (x:Int):D:= .int .u64 x
inductive Sh where
 |a (tm sl:List Nat)
 |m (need eff:St) (mks dead hid:List Nat)
def zbo (P:Program)(ops:Array Oper)(n:St)(o:Oper):St:=
 match o.dst with
 |none=>⟨[],[]⟩
 |some d=>match z0l ops n o with
  |some true=>match z39 P n (some d) o.op with
   |some (.val av _)=>⟨[(d,av)],[]⟩
   |_=>⟨[],[]⟩
  |some false=>⟨[(d,.tup [])],[]⟩
  |none=>⟨[],[]⟩
def zqk (s0:St)(b:List Nat)(acc:List DOp)(tm sl:List Nat):St:=
 match keep tm sl (stD (fun i=>memB i b) 0 acc s0)with
 |some n=>n
 |none=>⟨[],[]⟩
def z1d (P:Program)(ops:Array Oper)(s0:St)(bef:List (List Nat)):Nat→List Oper→List Sh→List DOp→List DOp
 |r,o::os,.a tm sl::xs,acc=>
  (fun x:DOp=>x::z1d P ops s0 bef (r+1) os xs (acc++[x])) ((fun n:St=>⟨n,zbo P ops n o,[],[],[]⟩) (zqk s0 (nth bef r) acc tm sl))
 |r,_::os,.m n e mk dd hd::xs,acc=>⟨n,e,mk,dd,hd⟩::z1d P ops s0 bef (r+1) os xs (acc++[⟨n,e,mk,dd,hd⟩])
 |_,_,_,_=>[]
def z5c (P:Program)(ops:Array Oper)(r:St):List Oper→List DOp→List Sh→List (Option Bool×Option Step)
 |o::os,x::xs,.a _ _::ys=>(z0l ops (x.need.app r) o,z39 P (x.need.app r) o.dst o.op)::z5c P ops r os xs ys
 |_::os,_::xs,.m _ _ _ _ _::ys=>z5c P ops r os xs ys
 |_,_,_=>[]
def z7f (N:Nat)(P:Program)(ops:Array Oper):List Oper→List DOp→List Sh→Bool
 |o::os,x::xs,.a _ _::ys=>
  match(match o.dst with
   |none=>false
   |some d=>match z0l ops x.need o with
    |some true=>match z39 P x.need (some d) o.op with
     |some (.val av c)=>match okDst N x.need (some d) (.val av c)with|true=>mksOk [] (.val av c) (some d)|false=>false
     |_=>false
    |some false=>Nat.blt d N
    |none=>false)with
  |true=>z7f N P ops os xs ys
  |false=>false
 |_::os,_::xs,.m _ _ _ _ _::ys=>z7f N P ops os xs ys
 |_,_,_=>true
def z5l (P:Program)(ops:Array Oper):List Oper→List DOp→List Sh→Prop
 |o::os,x::xs,.a _ _::ys=>
  match z0l ops x.need o with
  |some true=>match z39 P x.need o.dst o.op with
   |some (.val _ c)=>c∧z5l P ops os xs ys
   |_=>z5l P ops os xs ys
  |_=>z5l P ops os xs ys
 |_::os,_::xs,.m _ _ _ _ _::ys=>z5l P ops os xs ys
 |_,_,_=>True
inductive ManOk (E:Env) (ops:Array Oper):List Oper→List Sh→Prop
 |z {os:List Oper}:ManOk E ops os []
 |a {o:Oper} {os:List Oper} {tm sl:List Nat} {ys:List Sh} (h:ManOk E ops os ys):ManOk E ops (o::os) (.a tm sl::ys)
 |m {o:Oper} {os:List Oper} {n e:St} {mk dd hd:List Nat} {ys:List Sh} (h1:DOk E ops o ⟨n,e,mk,dd,hd⟩) (h:ManOk E ops os ys):ManOk E ops (o::os) (.m n e mk dd hd::ys)
theorem zin {E:Env}{ops:Array Oper}{o:Oper}{n:St}(hl: ∀r:St,z0l ops (n.app r) o=z0l ops n o∧z39 E.P (n.app r) o.dst o.op=z39 E.P n o.dst o.op)
 (hg:(match o.dst with
  |none=>false
  |some d=>match z0l ops n o with
   |some true=>match z39 E.P n (some d) o.op with
    |some (.val av c)=>match okDst E.N n (some d) (.val av c)with|true=>mksOk [] (.val av c) (some d)|false=>false
    |_=>false
   |some false=>Nat.blt d E.N
   |none=>false)=true)
 (hc:match z0l ops n o with
  |some true=>match z39 E.P n o.dst o.op with
   |some (.val _ c)=>c
   |_=>True
  |_=>True):DOk E ops o ⟨n,zbo E.P ops n o,[],[],[]⟩:=by
 cases hd:o.dst with
 |none=>rw[hd]at hg;cases hg
 |some d=>
  rw[hd]at hg;simp only at hg;cases hw:z0l ops n o with
  |none=>rw[hw]at hg;cases hg
  |some b=>
   rw[hw]at hg hc;cases b with
   |false=>
    simp only at hg;refine DOk.skip (d:=d) (fun r=>(hl r).1.trans hw) hd hg (fun r=>?_);unfold zbo;rw[hd];simp only[hw];rfl
   |true=>
    simp only at hg hc;cases he:z39 E.P n (some d) o.op with
    |none=>rw[he]at hg;cases hg
    |some st=>
     rw[he]at hg;cases st with
     |val av c=>
      simp only at hg;rw[hd,he]at hc;simp only at hc;have h1:okDst E.N n (some d) (.val av c)=true:=by
       cases e:okDst E.N n (some d) (.val av c)with
       |true=>rfl
       |false=>rw[e]at hg;cases hg
      rw[h1]at hg;refine DOk.step (.val av c) (fun r=>(hl r).1.trans hw) (fun r=>?_) hc (by rw[hd];exact h1) (by rw[hd];exact hg) (fun r=>?_)
      ·have:=(hl r).2;rw[hd,he]at this;rw[hd];exact this
      ·unfold zbo;rw[hd];simp only[hw,he];rfl
     |new c x=>simp only at hg;cases hg
     |turn k c=>simp only at hg;cases hg
theorem zg3 {E:Env}{ops:Array Oper}{s0:St}{bef:List (List Nat)}: ∀(os:List Oper) (ys:List Sh) (r0:Nat) (acc:List DOp),Nat.beq os.length ys.length=true→
 (∀r:St,z5c E.P ops r os (z1d E.P ops s0 bef r0 os ys acc) ys=z5c E.P ops ⟨[],[]⟩ os (z1d E.P ops s0 bef r0 os ys acc) ys)→
 z7f E.N E.P ops os (z1d E.P ops s0 bef r0 os ys acc) ys=true→z5l E.P ops os (z1d E.P ops s0 bef r0 os ys acc) ys→ManOk E ops os ys→
 zbn E ops os (z1d E.P ops s0 bef r0 os ys acc)
 |[],[],_,_,_,_,_,_,_=>trivial
 |[],_::_,_,_,h,_,_,_,_=>by cases h
 |_::_,[],_,_,h,_,_,_,_=>by cases h
 |o::os,.m n e mk dd hd::ys,r0,acc,hlen,hv,hg,hc,hm=>by
  cases hm with|m h1 h2=>exact⟨h1,zg3 os ys (r0+1) _ hlen hv hg hc h2⟩
 |o::os,.a tm sl::ys,r0,acc,hlen,hv,hg,hc,hm=>by
  have e0: ∀n:St,n.app ⟨[],[]⟩=n:=fun n=>by cases n;simp[St.app]
  have hv1:=fun r=>List.cons.inj (hv r);unfold z1d at hg hc;simp only[z7f,z5l]at hg hc;have hg2: ∀{b:Bool} {z:Bool},(match b with|true=>z|false=>false)=true→b=true∧z=true:=fun{b z} h=>by cases b<;>simp_all
  obtain⟨g1,g2⟩:=hg2 hg;refine⟨zin (fun r=>?_) g1 ?_,zg3 os ys (r0+1) _ hlen (fun r=>(hv1 r).2) g2 ?_ (by cases hm with|a h=>exact h)⟩
  ·have:=(hv1 r).1;simp only[Prod.mk.injEq]at this;rw[e0]at this;exact this
  ·revert hc
   split
   ·split
    ·intro h;exact h.1
    ·intro _;trivial
   ·intro _;trivial
  ·revert hc
   split
   ·split
    ·intro h;exact h.2
    ·intro h;exact h
   ·intro h;exact h
theorem zft {E:Env}{s:St}{post:Exit→St→Prop}{id:Nat}{l:List Oper}(ys:List Sh)(bef:List (List Nat)){s':St}{cs:Prop}(tk sk:List Nat)(hm:E.P.follows .mixedOrders=true)
 (hb:(match Nat.beq l.length ys.length with|true=>(match drawB l (z1d E.P l.toArray s bef 0 l ys []) bef s with|true=>z7f E.N E.P l.toArray l (z1d E.P l.toArray s bef 0 l ys []) ys|false=>false)|false=>false)=true)
 (hn:z7c (z1d E.P l.toArray s bef 0 l ys []) bef s 0 (z1d E.P l.toArray s bef 0 l ys [])=z7b (z1d E.P l.toArray s bef 0 l ys []))
 (hv:(fun r=>z5c E.P l.toArray r l (z1d E.P l.toArray s bef 0 l ys []) ys)=fun _=>z5c E.P l.toArray ⟨[],[]⟩ l (z1d E.P l.toArray s bef 0 l ys []) ys)
 (hce:z5l E.P l.toArray l (z1d E.P l.toArray s bef 0 l ys []) ys=cs) (hc:cs) (hman:ManOk E l.toArray l ys)
 (hk:Av.keep tk sk (stD (fun _=>true) 0 (z1d E.P l.toArray s bef 0 l ys []) s)=some s') (hp:post .normal s'):Tri E (.region id l.toArray true) s post:=by
 have h2: ∀{b z:Bool},(match b with|true=>z|false=>false)=true→b=true∧z=true:=fun{b z} h=>by cases b<;>simp_all
 obtain⟨hlen,hb⟩:=h2 hb;obtain⟨hd,hg⟩:=h2 hb;exact Tri.drawn hm hd hn (zg3 l ys 0 [] hlen (fun r=>congrFun hv r) hg (hce▸hc) hman) hk hp
end Go.Av
namespace Go.Av
open Go
section
variable {E:Env} {s:St} {post:Exit→St→Prop} {id:Nat} {l:List Oper} {y:Code}
theorem z1l (tk sk:List Nat)(s':St)(c:Prop)(he:z60 E.P E.N l.toArray l tk sk s=some (s',c))(hc:c)(h:Tri E y s' post):Tri E (.seq (.region id l.toArray false) y) s post:=by
 refine z03 ?_;refine z05 ?_;have hl:(l.drop 0).take l.length=l:=by rw[List.drop_zero,List.take_of_length_le (zzf _)]
 refine At.seg l.length tk sk (s':=s') (c:=c) (by rw[hl];exact he) hc ?_;rw[zzc];exact At.done (Nat.ble_eq_true_of_le (zzf _)) h
end
def allT:Nat→Prop
 |0=>True
 |n+1=>True∧allT n
theorem z00: ∀n,allT n
 |0=>trivial
 |n+1=>⟨trivial,z00 n⟩
end Go.Av
namespace Go.Av
open Go
def tNp:Nat→Prop→Prop
 |0,p=>p
 |n+1,p=>True∧tNp n p
theorem tN: ∀(n:Nat) {p:Prop},p→tNp n p
 |0,_,h=>h
 |n+1,_,h=>⟨trivial,tN n h⟩
theorem ai {a b:Prop}(x:a)(y:b):a∧b:=⟨x,y⟩
def zgk (P:Program)(N:Nat)(ops:Array Oper)(l:List Oper)(tk sk:List Nat)(s:St):St:=match z60 P N ops l tk sk s with|some (s',_)=>s'|none=>⟨[],[]⟩
def segPO (P:Program)(N:Nat)(ops:Array Oper)(l:List Oper)(tk sk:List Nat)(s:St):Option Prop:=match z60 P N ops l tk sk s with|some (_,c)=>some c|none=>none
def z80 (tk sk:List Nat)(s:St):St:=match keep tk sk s with|some s'=>s'|none=>⟨[],[]⟩
def zby (tk sk:List Nat)(s:St):Bool:=match keep tk sk s with|some _=>true|none=>false
theorem z9h {tk sk:List Nat}{s:St}(h:zby tk sk s=true):keep tk sk s=some (z80 tk sk s):=by
 unfold zby at h;unfold z80;cases hk:keep tk sk s with
 |none=>rw[hk]at h;cases h
 |some s'=>rfl
theorem zgj {P:Program}{N:Nat}{ops:Array Oper}{l:List Oper}{tk sk:List Nat}{s:St}{c:Prop}(h:segPO P N ops l tk sk s=some c):z60 P N ops l tk sk s=some (zgk P N ops l tk sk s,c):=by
 unfold segPO at h;unfold zgk;cases he:z60 P N ops l tk sk s with
 |none=>rw[he]at h;cases h
 |some r=>
  rw[he]at h;cases h;rfl
theorem kr {α:Type}{a b:α}(h:a=b:=by kernel_rfl):a=b:=h
def retEv (P:Program)(s:St)(rs:List ResultVar):Option (AV×Prop):=match evRes P s rs with|some (l,c)=>some (resAV l,c)|none=>none
theorem RetAt.k {P:Program}{fn:Func}{res:AV}{sl':List (Nat×Slot)}{s:St}(h1:retEv P s fn.results.toList=some (res,allT fn.results.size):=by kernel_rfl)
 (h2:(match res.clean with|true=>allC (fun p:Nat×Slot=>p.2.clean) sl'|false=>false)=true:=by kernel_rfl) (h3:sl'.map (fun p=>look s.sl p.1)=sl'.map (fun p=>some p.2):=by kernel_rfl):RetAt P fn res sl' s:=by
 unfold retEv at h1;cases he:evRes P s fn.results.toList with
 |none=>rw[he]at h1;cases h1
 |some r=>
  obtain⟨l,c⟩:=r;rw[he]at h1;simp only[Option.some.injEq,Prod.mk.injEq]at h1;obtain⟨rfl,rfl⟩:=h1;have h2':(resAV l).clean=true∧allC (fun p:Nat×Slot=>p.2.clean) sl'=true:=by
   cases hc:(resAV l).clean with
   |true=>rw[hc]at h2;exact⟨rfl,h2⟩
   |false=>rw[hc]at h2;cases h2
  refine⟨l,_,he,z00 _,rfl,h2'.1,fun k c hk=>?_⟩;have hm:=z2a hk
  have:=List.map_inj_left.1 h3 _ hm;exact⟨this,z2s h2'.2 _ hm⟩
def putBs (ts:List Nat)(v:Bool)(s:St):St:=⟨ts.map (fun t=>(t,.c (.d (.bool v))))++s.tm,s.sl⟩
def befGo:List Oper→List (List Nat)→List (List Nat)
 |[],acc=>acc
 |o::os,acc=>befGo os (acc++[((o.after.toList.filter fun a=>match a.ground with| .textOnly _=>false| .gcOnly _=>false|_=>true).map (·.on)).foldr (fun j r=>(j::nth acc j).foldr (fun i r=>match memB i r with|true=>r|false=>i::r) r) []])
section
variable {E:Env} {s:St} {post:Exit→St→Prop} {id:Nat} {l:List Oper} {y:Code} {L:List Oper} {i:Nat} {K:St→Prop} {Q:Type} {q:Q} {x:Code}
theorem At.sg (n:Nat)(tk sk:List Nat){c:Prop}(hc:c)(h:At E L (i+n) (zgk E.P E.N L.toArray ((L.drop i).take n) tk sk s) K) (he:segPO E.P E.N L.toArray ((L.drop i).take n) tk sk s=some c:=by kernel_rfl):At E L i s K:=
 At.seg n tk sk (zgj he) hc h
theorem Tri.sg (tk sk:List Nat){c:Prop}(hc:c)(h:Tri E y (zgk E.P E.N l.toArray l tk sk s) post)(he:segPO E.P E.N l.toArray l tk sk s=some c:=by kernel_rfl):Tri E (.seq (.region id l.toArray false) y) s post:=
 z1l tk sk _ c (zgj he) hc h
theorem Tri.kp (tk sk:List Nat)(h:Tri E y (z80 tk sk s) post)(he:zby tk sk s=true:=by kernel_rfl):Tri E y s post:=Tri.keep tk sk (z9h he) h
theorem z09 {c:Operand}{b:Bool}{u v:Option Q}(h:bf b u v=some q)(ht:u=some q→Tri E x s post)(hf:v=some q→Tri E y s post)(hb:evO s c=some (.c (.d (.bool b))):=by kernel_rfl):
 Tri E (.cond c x y) s post:=zm6 hb h ht hf
theorem z0q (ys:List Sh)(tk sk:List Nat){cs:Prop}(hc:cs)(hman:ManOk E l.toArray l ys)(hp:post .normal (z80 tk sk (stD (fun _=>true) 0 (z1d E.P l.toArray s (befGo l []) 0 l ys []) s)))
 (hm:E.P.follows .mixedOrders=true:=by kernel_rfl)
 (hb:(match Nat.beq l.length ys.length with|true=>(match drawB l (z1d E.P l.toArray s (befGo l []) 0 l ys []) (befGo l []) s with|true=>z7f E.N E.P l.toArray l (z1d E.P l.toArray s (befGo l []) 0 l ys []) ys|false=>false)|false=>false)=true:=by kernel_rfl)
 (hn:z7c (z1d E.P l.toArray s (befGo l []) 0 l ys []) (befGo l []) s 0 (z1d E.P l.toArray s (befGo l []) 0 l ys [])=z7b (z1d E.P l.toArray s (befGo l []) 0 l ys []):=by kernel_rfl)
 (hv:(fun r=>z5c E.P l.toArray r l (z1d E.P l.toArray s (befGo l []) 0 l ys []) ys)=(fun _=>z5c E.P l.toArray ⟨[],[]⟩ l (z1d E.P l.toArray s (befGo l []) 0 l ys []) ys):=by kernel_rfl)
 (hce:z5l E.P l.toArray l (z1d E.P l.toArray s (befGo l []) 0 l ys []) ys=cs:=by kernel_rfl)
 (hk:zby tk sk (stD (fun _=>true) 0 (z1d E.P l.toArray s (befGo l []) 0 l ys []) s)=true:=by kernel_rfl):Tri E (.region id l.toArray true) s post:=
 zft ys (befGo l []) tk sk hm hb hn hv hce hc hman (z9h hk) hp
theorem z72 (s':St)(ys:List Sh)(tk sk:List Nat){cs:Prop}(hc:cs)(hman:ManOk E l.toArray l ys)(hp:post .normal s')
 (hm:E.P.follows .mixedOrders=true:=by kernel_rfl)
 (hb:(match Nat.beq l.length ys.length with|true=>(match drawB l (z1d E.P l.toArray s (befGo l []) 0 l ys []) (befGo l []) s with|true=>z7f E.N E.P l.toArray l (z1d E.P l.toArray s (befGo l []) 0 l ys []) ys|false=>false)|false=>false)=true:=by kernel_rfl)
 (hn:z7c (z1d E.P l.toArray s (befGo l []) 0 l ys []) (befGo l []) s 0 (z1d E.P l.toArray s (befGo l []) 0 l ys [])=z7b (z1d E.P l.toArray s (befGo l []) 0 l ys []):=by kernel_rfl)
 (hv:(fun r=>z5c E.P l.toArray r l (z1d E.P l.toArray s (befGo l []) 0 l ys []) ys)=(fun _=>z5c E.P l.toArray ⟨[],[]⟩ l (z1d E.P l.toArray s (befGo l []) 0 l ys []) ys):=by kernel_rfl)
 (hce:z5l E.P l.toArray l (z1d E.P l.toArray s (befGo l []) 0 l ys []) ys=cs:=by kernel_rfl)
 (hk:Av.keep tk sk (stD (fun _=>true) 0 (z1d E.P l.toArray s (befGo l []) 0 l ys []) s)=some s':=by kernel_rfl):Tri E (.region id l.toArray true) s post:=
 zft ys (befGo l []) tk sk hm hb hn hv hce hc hman hk hp
theorem DOk.cA {ops:Array Oper}{o:Oper}{x:DOp}{cl:Call}{f:FuncId}{args:List AV}{res:AV}(caps:List D)(xs:List AV)(hS:Summ E.P f args [] res [])(hle: ∀r,AVsArg (x.need.app r) xs args)
 (hop:o.op= .call cl:=by rfl) (hw: ∀r,z0l ops (x.need.app r) o=some true:=by exact fun r=>by kernel_rfl) (hd:dstOk E.N o.dst=true:=by kernel_rfl) (hc: ∀r,z6k (x.need.app r) cl=some (f,caps):=by exact fun r=>by kernel_rfl)
 (hx: ∀r,z7y (x.need.app r) cl caps=some xs:=by exact fun r=>by kernel_rfl) (hfl:z6n args=true:=by kernel_rfl) (hsol:res.solid=true:=by kernel_rfl) (heff: ∀r,putO (x.need.app r) o.dst res=x.eff.app (x.need.app r):=by exact fun r=>by kernel_rfl):DOk E ops o x:=
 DOk.callA hS hop hw hd hc hx hle hfl hsol heff
def lenS (s:St)(t:Nat):Option Nat:=match look s.tm t with|some (.c (.d (.list _ n _)))=>some n|some (.c (.view _ n _))=>some n|_=>none
theorem Tri.ln (t n:Nat)(h:n≤maxN→Tri E y s post)(he:lenS s t=some n:=by kernel_rfl):Tri E y s post:=by
 unfold lenS at he;split at he
 ·rename_i hl;cases he;exact Tri.lenOf hl h
 ·rename_i hl;cases he;exact zlb hl h
 ·cases he
section
variable {S R:Type}
theorem z1c {tc n b cid id1 id2:Nat}{L1 L2:List Oper}{body:Code}{B:Nat→S→Option (Ctl S R)}{kn:S→Option Q}{kr:R→Option Q}(ti:Nat)(st0:S)(RT:R→St→Prop)(σ:S→St)(tk0 sk0 tk sk tkF skF tk2 sk2:List Nat)
 (h:outK (z0j B n 0 st0) kn kr=some q) (hn:n≤maxN)
 (hbody: ∀i st c,i<n→B i st=some c→Tri E body ((idx ti i (σ st)).put tc (.c (.d (.bool true)))) (ziw cid b ti σ (fun st=>z80 tkF skF ((idx ti n (σ st)).put tc (.c (.d (.bool false))))) RT i c))
 (hrest: ∀st,kn st=some q→post .normal (z80 tkF skF ((idx ti n (σ st)).put tc (.c (.d (.bool false)))))) (hret: ∀x s',kr x=some q→RT x s'→post .ret s')
 (hbc:Nat.beq b cid=false:=by kernel_rfl) (hs0:Av.keep tk0 sk0 s=some (idx ti 0 (σ st0)):=by kernel_rfl)
 (h1: ∀i st,z60 E.P E.N L1.toArray L1 tk sk (idx ti i (σ st))=some ((idx ti i (σ st)).put tc (.c (.d (.bool (decide ((i:Int)<(n:Int)))))),allT L1.length):=by exact fun i st=>by kernel_rfl)
 (h2: ∀i st,z60 E.P E.N L2.toArray L2 tk2 sk2 (idx ti i (σ st))=some ((σ st).put ti (.c (.d (.int .i64 (zzi.wrap ((i:Int)+1))))),allT L2.length):=by exact fun i st=>by kernel_rfl)
 (hF: ∀st,zby tkF skF ((idx ti n (σ st)).put tc (.c (.d (.bool false))))=true:=by exact fun st=>by kernel_rfl):
 Tri E (.block b (.loop (.seq (.region id1 L1.toArray false) (.seq (.cond (.tmp tc) .skip (.exit b)) (.seq (.block cid body) (.region id2 L2.toArray false)))))) s post:=
 Tri.keep tk0 sk0 hs0 (Tri.range RT σ _ (fun i=>decide ((i:Int)<(n:Int))) tk sk tkF skF tk2 sk2 h hn hbc (fun i st=>⟨_,h1 i st,z00 _⟩) (fun i hi=>decide_eq_true (by omega)) (decide_eq_false (by omega)) (fun st=>z9h (hF st)) (fun i st=>⟨_,h2 i st,z00 _⟩) hbody hrest hret)
theorem z6m {b:Nat}{c:Code}{B:S→Option (Ctl S R)}{kn:S→Option Q}{kr:R→Option Q}{fuel:Nat}(st0:S)(RT:R→St→Prop)(σ:S→St)(tk0 sk0:List Nat)
 (h:outK (loopN B fuel st0) kn kr=some q) (hround: ∀st r,B st=some r→Tri E c (σ st) (ze5 b σ σ RT r))
 (hrest: ∀st,kn st=some q→post .normal (σ st)) (hret: ∀x s',kr x=some q→RT x s'→post .ret s') (hs0:Av.keep tk0 sk0 s=some (σ st0):=by kernel_rfl):Tri E (.block b (.loop c)) s post:=
 Tri.keep tk0 sk0 hs0 (z9l RT σ σ h hround hrest hret)
end
theorem At.cs (ts:List Nat){b:Bool}{u v:Option Q}(h:bf b u v=some q)(ht:u=some q→At E L i (putBs ts true s) K)(hf:v=some q→At E L i (putBs ts false s) K)
 (hb:ts.map (fun t=>look s.tm t)=ts.map (fun _=>some (.c (.d (.bool b)))):=by kernel_rfl):At E L i s K:=by
 have key:At E L i (putBs ts b s) K:=by
  cases b
  ·exact hf h
  ·exact ht h
 refine fun a w hs=>key a w (hs.weaken (fun t y hy=>?_) fun t y hy=>hy);unfold putBs at hy;simp only at hy;rcases zfh hy with hy|⟨_,hy⟩
 ·have hm:=z2a hy;obtain⟨t',ht',e⟩:=List.mem_map.1 hm;cases e;exact List.map_inj_left.1 hb _ ht'
 ·exact hy
theorem At.cA {o:Oper}{cl:Call}{f:FuncId}{args:List AV}{res:AV}(caps:List D)(xs:List AV)(hS:Summ E.P f args [] res [])(hle:AVsArg s xs args)(h:At E L (i+1) (putO s o.dst res) K)(ho:L[i]?=some o:=by rfl)
 (hop:o.op= .call cl:=by rfl) (hw:z0l L.toArray s o=some true:=by kernel_rfl) (hd:dstOk E.N o.dst=true:=by kernel_rfl) (hc:z6k s cl=some (f,caps):=by kernel_rfl) (hx:z7y s cl caps=some xs:=by kernel_rfl)
 (hfl:z6n args=true:=by kernel_rfl) (hsol:res.solid=true:=by kernel_rfl):At E L i s K:=
 At.callA hS ho hop hw hd hc hx hle hfl hsol h
theorem z38 {o:Oper}{cl:Call}{f:FuncId}{args:List AV}{res:AV}{sl sl':List (Nat×Slot)}(nf:Nat)(caps:List CC)(xs:List AV)(ρ:List (Nat×Nat))(tk sk:List Nat)
 (hS:Summ E.P f args sl res sl') (hle:AVsArgL s ρ (keysS sl) ((keysS sl).map (renN ρ)) xs args) (h:At E L (i+1) (putO ⟨(z80 tk sk s).tm,renSl ρ sl'++(z80 tk sk s).sl⟩ o.dst (res.ren ρ)) K) (ho:L[i]?=some o:=by rfl) (hop:o.op= .call cl:=by rfl)
 (hw:z0l L.toArray s o=some true:=by kernel_rfl) (hd:dstOk E.N o.dst=true:=by kernel_rfl) (hc:z78 s cl=some (f,nf,caps):=by kernel_rfl) (hx:argsL s cl nf caps=some xs:=by kernel_rfl)
 (hsl:LentS s ρ (keysS sl) sl:=by repeat' first|exact trivial|refine⟨⟨by kernel_rfl,by kernel_rfl⟩,?_⟩)
 (hinj:(match injB ρ (keysS sl)with|true=>(match injB ρ (keysS sl')with|true=>(match res.lent (keysS sl')with|true=>allC (fun p:Nat×Slot=>p.2.lent (keysS sl')) sl'|false=>false)|false=>false)|false=>false)=true:=by kernel_rfl)
 (hk:zby tk sk s=true:=by kernel_rfl)
 (hk0:(match allC (fun k=>match look (z80 tk sk s).sl (renN ρ k)with|some _=>false|none=>true) (keysS sl++keysS sl')with|true=>allC (fun k=>(z80 tk sk s).noRef (renN ρ k)) (oddK (keysS sl) (keysS sl'))|false=>false)=true:=by kernel_rfl)
 (hfx:(match allC (fun k=> !anyB (Nat.beq (renN ρ k)) E.fx) (oddK (keysS sl) (keysS sl'))with|true=>lkOk3 E.lk ρ (keysS sl) (keysS sl')|false=>false)=true:=by kernel_rfl):At E L i s K:=by
 have h2: ∀{b z:Bool},(match b with|true=>z|false=>false)=true→b=true∧z=true:=fun{b z} h=>by cases b<;>simp_all
 obtain⟨a1,hinj⟩:=h2 hinj;obtain⟨a2,hinj⟩:=h2 hinj;obtain⟨a3,a4⟩:=h2 hinj;obtain⟨b1,b2⟩:=h2 hk0;obtain⟨c1,c2⟩:=h2 hfx;exact At.callL ρ tk sk hS ho hop hw hd hc hx hle hsl a1 a2 a3 a4 (z9h hk) b1 b2 c1 c2 _ rfl h
theorem zla {d:Nat}{x y:C}(hx: ∀v,RelAV (fun c v=> ∃G V φ w,RelC G V φ w c v) (.c x) v→True){a:Act}{w:World}(hle: ∀s:St,CLe s [] x y)(hxa: ∀(R:C→Value→Prop) v,RelAV R (.c x) v→R x v∧v.oneCell'=true)
 (h:SimE E (s.put d (.c x)) a w):SimE E (s.put d (.c y)) a w:=by
 obtain⟨G,φ,h⟩:=h;refine⟨G,φ,{h with tm:=fun t z hz=>?_}⟩;simp only[St.put,z0y]at hz;by_cases e:d=t
 ·rw[if_pos e]at hz;cases hz;obtain⟨v,hv,hr⟩:=h.tm t (.c x) (by simp[St.put,z0y,e]);obtain⟨h1,h2⟩:=hxa _ _ hr;exact⟨v,hv,z0f ((CLe.rel h (hle _) h1).mono (Same.refl _ _) (Same.refl _ _) (fun _ hb=>z7p hb) fun _ _=>rfl) h2⟩
 ·rw[if_neg e]at hz;exact h.tm t z (by simp only[St.put,z0y];rw[if_neg e];exact hz)
theorem z95 {X:Type}[Inhabited X]{ops:Array Oper}{o:Oper}{d es:Nat}(enc:X→List D){xs:List X}{l h:Int}{c:Prop}(hc:c)(hb:0≤l∧l≤h∧h≤(xs.length:Int))(hw:z0l ops s o=some true)(hd:o.dst=some d)
 (he:z39 E.P s o.dst o.op=some (.val (.c (.d (.list es (h.toNat-l.toNat) (fun i=>enc (xs.getD (l.toNat+i) zzd))))) c))
 (hok:okDst E.N s o.dst (.val (.c (.d (.list es (h.toNat-l.toNat) (fun i=>enc (xs.getD (l.toNat+i) zzd))))) c)=true):
 One E ops o s (s.put d (.c (.d (.list es (Av.sub xs l h).length (fun i=>enc ((Av.sub xs l h).getD i zzd)))))):=by
 have h1:=One.step hw he hc hok;rw[hd]at h1;exact One.weaken h1 fun a w hs=>zla (fun _ _=>trivial) (fun s=>zns enc hb.1 hb.2.1 hb.2.2) (fun R v hr=>hr) hs
end
end Go.Av
namespace Go.Av
open Go
abbrev Alts:=List (Nat×Nat×St)
def altOf:Alts→Nat→Option (Nat×St)
 |[],_=>none
 |(r',i,n)::al,r=>match Nat.beq r' r with|true=>some (i,n)|false=>altOf al r
def hits (x y:DOp):Bool:=
 match anyB (fun e:Nat×AV=>z18 e.1 y.eff.tm) x.eff.tm with
 |true=>true
 |false=>anyB (fun e:Nat×Slot=>z18 e.1 y.eff.sl) x.eff.sl
def softB (al:Alts)(i r:Nat)(x y:DOp):Bool:=
 match altOf al r with
 |some (i',_)=>match Nat.beq i' i with|true=>(match hits x y with|true=>false|false=>true)|false=>false
 |none=>false
def zji (al:Alts)(specs:List DOp)(bef:List (List Nat)):Bool:=
 allB (fun r=>allB (fun i=>match Nat.beq i r with
  |true=>true
  |false=>match specs[i]?,specs[r]? with
   |some x,some y=>match z6y x y with
    |true=>(match memB i (nth bef r)with|true=>true|false=>(match memB r (nth bef i)with|true=>true|false=>softB al i r x y))
    |false=>true
   |_,_=>true) (List.range specs.length)) (List.range specs.length)
theorem zbm {al:Alts}{specs:List DOp}{bef:List (List Nat)}(h:zji al specs bef=true){i r:Nat}{x y:DOp}(hx:specs[i]?=some x)(hy:specs[r]?=some y)(hne:i≠r)(hw:z6y x y=true):
 i∈nth bef r∨r∈nth bef i∨((∃n,altOf al r=some (i,n))∧hits x y=false):=by
 have h1:=z4g.1 h r (by simpa using(List.getElem?_eq_some_iff.1 hy).1);have h2:=z4g.1 h1 i (by simpa using(List.getElem?_eq_some_iff.1 hx).1)
 have hb:Nat.beq i r=false:=by
  cases hb:Nat.beq i r with
  |false=>rfl
  |true=>exact absurd (zz5 hb) hne
 rw[hb,hx,hy]at h2;simp only[hw]at h2;cases hm:memB i (nth bef r)with
 |true=>exact .inl (z22.1 hm)
 |false=>
  rw[hm]at h2;simp only at h2;cases hm2:memB r (nth bef i)with
  |true=>exact .inr (.inl (z22.1 hm2))
  |false=>
   rw[hm2]at h2;simp only at h2;right;right;unfold softB at h2;cases ha:altOf al r with
   |none=>rw[ha]at h2;cases h2
   |some p=>
    obtain⟨i',n⟩:=p;rw[ha]at h2;simp only at h2;cases hi:Nat.beq i' i with
    |false=>rw[hi]at h2;cases h2
    |true=>
     rw[hi]at h2;simp only at h2;cases hh:hits x y with
     |true=>rw[hh]at h2;cases h2
     |false=>exact⟨⟨n,by rw[zz5 hi]⟩,rfl⟩
theorem zqb {x y:DOp}{t:Nat}(hx:z18 t x.eff.tm=true)(hy:z18 t y.eff.tm=true):hits x y=true:=by
 unfold hits;obtain⟨v,hv⟩:=z2c.1 hx;rw[z89.2 ⟨(t,v),z2a hv,hy⟩]
theorem zqa {x y:DOp}{t:Nat}(hx:z18 t x.eff.sl=true)(hy:z18 t y.eff.sl=true):hits x y=true:=by
 unfold hits;obtain⟨v,hv⟩:=z2c.1 hx;split
 ·rfl
 ·exact z89.2 ⟨(t,v),z2a hv,hy⟩
def z63 (E:Env)(ops:Array Oper)(specs:List DOp)(bef:List (List Nat))(s0:St):Alts→Prop
 |[]=>True
 |(r,i,n)::al=>((Nat.beq i r=false∧specs[r]?.map (fun x=>(z1a x.need.tm,z1a x.need.sl))=some (z1a n.tm,z1a n.sl)∧keep (z1a n.tm) (z1a n.sl) (stD (fun j=>memB j (i::nth bef r)) 0 specs s0)=some n)∧
  ∃o x,ops[r]?=some o∧specs[r]?=some x∧DOk E ops o ⟨n,x.eff,x.mks,x.dead,x.hid⟩)∧z63 E ops specs bef s0 al
theorem z63.get {E:Env}{ops:Array Oper}{specs:List DOp}{bef:List (List Nat)}{s0:St}: ∀{al:Alts},z63 E ops specs bef s0 al→ ∀{r i:Nat} {n:St} {o:Oper} {x:DOp},altOf al r=some (i,n)→ops[r]?=some o→specs[r]?=some x→
 i≠r∧z1a x.need.tm=z1a n.tm∧z1a x.need.sl=z1a n.sl∧keep (z1a n.tm) (z1a n.sl) (stD (fun j=>memB j (i::nth bef r)) 0 specs s0)=some n∧DOk E ops o ⟨n,x.eff,x.mks,x.dead,x.hid⟩
 |[],_,_,_,_,_,_,h,_,_=>by cases h
 |(r',i',n')::al,⟨⟨⟨h1,h2,h3⟩,o',x',h4,h5,h6⟩,ht⟩,r,i,n,o,x,h,ho,hx=>by
  simp only[altOf]at h;cases hb:Nat.beq r' r with
  |true=>
   rw[hb]at h;cases h;have e:=zz5 hb
   subst e;rw[h4]at ho;cases ho;rw[h5]at hx;cases hx;rw[h5]at h2;simp only[Option.map_some,Option.some.injEq,Prod.mk.injEq]at h2;exact⟨fun e=>by rw[e]at h1;simp at h1,h2.1,h2.2,h3,h6⟩
  |false=>
   rw[hb]at h;exact z63.get ht h ho hx
section
variable {E:Env} {s:St} {a:Act} {w:World}
structure DrawOkA (E:Env) (ops:Array Oper) (specs:List DOp) (bef:List (List Nat)) (al:Alts) (s0:St):Prop where
 len:Nat.beq specs.length ops.size=true
 back:z9s ops=true
 befs:okBef ops bef=true
 ord:zji al specs bef=true
 fresh:zbv specs bef s0=true
 needs:z7c specs bef s0 0 specs=z7b specs
 each: ∀(i:Nat) (o:Oper) (x:DOp),ops[i]?=some o→specs[i]?=some x→DOk E ops o x
 alts:z63 E ops specs bef s0 al
theorem zjb {α β:Type}{l:List (Nat×α)}{l':List (Nat×β)}(h:z1a l=z1a l')(t:Nat):z18 t l=z18 t l':=by
 have key: ∀{γ:Type} (l:List (Nat×γ)),z18 t l=memB t (z1a l):=fun l=>by
  induction l with
  |nil=>rfl
  |cons e l ih=>
   rcases e with⟨k,v⟩;simp only[z18,z1a,List.map_cons,memB]at*;cases Nat.beq k t<;>simp[ih]
 rw[key l,key l',h]
theorem DrawOkA.next {ops:Array Oper}{specs:List DOp}{bef:List (List Nat)}{al:Alts}{s0:St}(h:DrawOkA E ops specs bef al s0){D D':Nat→Bool}(hD:zdf ops D){i:Nat}{o:Oper}{x:DOp}(ho:ops[i]?=some o)
 (hx:specs[i]?=some x) (hi:D i=false) (hedge: ∀e∈o.after.toList,Region.binds .any e=true→D e.on=true) (hD': ∀j,D' j=if j=i then true else D j) (hs:SimE E (stD D 0 specs s0) a w)
 {K:Act→World→Prop} {Q:Exit→Act→World→Prop} (hK: ∀a' w',SimE E (stD D' 0 specs s0) a' w'→K a' w'):wpOp E.P ops Q i K a w:=by
 have hlen:=zz5 h.len;have hilt:i<ops.size:=(Array.getElem?_eq_some_iff.1 ho).1
 have hjlt: ∀{j:Nat} {y:DOp},specs[j]?=some y→j<ops.size:=fun hy=>by rw[←hlen];exact(List.getElem?_eq_some_iff.1 hy).1
 have hbef: ∀j∈nth bef i,D j=true∧j<i:=zdo h.befs hD i hilt fun o' ho' e he hb=>by rw[ho]at ho';cases ho';exact hedge e he hb
 have hafter: ∀j y,specs[j]?=some y→i∈nth bef j→D j=false:=fun j y hy hij=>by
  cases hj:D j with
  |false=>rfl
  |true=>
   have:=(zdo h.befs hD j (hjlt hy) (fun o' ho' e he hb=>hD j o' ho' hj e he hb) i hij).1;rw[hi]at this;cases this
 have hown:memB i (nth bef i)=false:=by
  cases hm:memB i (nth bef i)with
  |false=>rfl
  |true=>exact absurd (z9n h.befs hilt (z22.1 hm)) (Nat.lt_irrefl _)
 have hx0:=hx;have hlast0: ∀j y,i<j→specs[j]?=some y→hits y x=true→z6y y x=true→D' j=false:=fun j y hlt hy hh hw=>by
  rw[hD',if_neg (by omega)];rcases zbm h.ord hy hx (by omega) hw with hm|hm|⟨_,hm⟩
  ·have:=z9n h.befs hilt hm;omega
  ·exact hafter j y hy hm
  ·rw[hh]at hm;cases hm
 have pick: ∃(nd:St) (b:List Nat),z1a x.need.tm=z1a nd.tm∧z1a x.need.sl=z1a nd.sl∧keep (z1a nd.tm) (z1a nd.sl) (stD (fun j=>memB j b) 0 specs s0)=some nd∧DOk E ops o ⟨nd,x.eff,x.mks,x.dead,x.hid⟩∧
  ∀j y,specs[j]?=some y→z6y y x=true→D j=memB j b:=by
  have hord: ∀j y,specs[j]?=some y→i∈nth bef j→memB j (nth bef i)=false:=fun j y hy hm=>by
   cases hm':memB j (nth bef i)with
   |false=>rfl
   |true=>
    have h1:=z9n h.befs hilt (z22.1 hm');have h2:=z9n h.befs (hjlt hy) hm
    omega
  have plain:(∀j n,altOf al i=some (j,n)→D j=false)→ ∃(nd:St) (b:List Nat),z1a x.need.tm=z1a nd.tm∧z1a x.need.sl=z1a nd.sl∧keep (z1a nd.tm) (z1a nd.sl) (stD (fun j=>memB j b) 0 specs s0)=some nd∧DOk E ops o ⟨nd,x.eff,x.mks,x.dead,x.hid⟩∧
   ∀j y,specs[j]?=some y→z6y y x=true→D j=memB j b:=fun hno=>by
   have hkeep:=zb5 specs 0 h.needs i x hx;rw[zzc]at hkeep;refine⟨x.need,nth bef i,rfl,rfl,hkeep,h.each i o x ho hx,fun j y hy hw=>?_⟩;by_cases e:j=i
   ·subst e;rw[hi,hown]
   ·rcases zbm h.ord hy hx e hw with hm|hm|⟨⟨n,hm⟩,_⟩
    ·rw[(hbef j hm).1,z22.2 hm]
    ·rw[hafter j y hy hm,hord j y hy hm]
    ·rw[hno j n hm];cases hm':memB j (nth bef i)with
     |false=>rfl
     |true=>have:=(hbef j (z22.1 hm')).1;rw[hno j n hm]at this;cases this
  cases ha:altOf al i with
  |none=>exact plain fun j n e=>by rw[ha]at e;cases e
  |some p=>
   obtain⟨i0,n⟩:=p;cases hd0:D i0 with
   |false=>exact plain fun j n' e=>by rw[ha]at e;cases e;exact hd0
   |true=>
    obtain⟨g1,g2,g3,g4,g5⟩:=h.alts.get ha ho hx;refine⟨n,i0::nth bef i,g2,g3,g4,g5,fun j y hy hw=>?_⟩;by_cases ej:j=i0
    ·subst ej;rw[hd0];exact(z22.2 (zz3 ..)).symm
    ·have hcons:memB j (i0::nth bef i)=memB j (nth bef i):=by
      simp only[memB];cases hb:Nat.beq i0 j with
      |true=>exact absurd (zz5 hb).symm ej
      |false=>rfl
     rw[hcons];by_cases e:j=i
     ·subst e;rw[hi,hown]
     ·rcases zbm h.ord hy hx e hw with hm|hm|⟨⟨n',hm⟩,_⟩
      ·rw[(hbef j hm).1,z22.2 hm]
      ·rw[hafter j y hy hm,hord j y hy hm]
      ·rw[ha]at hm;cases hm;exact absurd rfl ej
 obtain⟨nd,bb,kT,kS,hkeep,hdok,hsame⟩:=pick;obtain⟨fd,fm,ff⟩:=zdv h.fresh hx;unfold keep at hkeep;split at hkeep
 case h_2=>cases hkeep
 rename_i tm htm
 split at hkeep
 case h_2=>cases hkeep
 rename_i sl hsl
 have etm:nd.tm=tm:=by rw[←Option.some.inj hkeep]
 have esl:nd.sl=sl:=by rw[←Option.some.inj hkeep]
 have needT: ∀t y,look nd.tm t=some y→look (stD D 0 specs s0).tm t=some y:=fun t y hy=>by
  have h1:=z6g htm t y (etm▸hy);rw[←h1];refine z56 t specs 0 s0 s0 rfl fun j z hz hk=>?_;rw[zzc];exact hsame j z hz (zbj hk (.inl (by rw[zjb kT];exact z4d hy)))
 have needS: ∀t y,look nd.sl t=some y→look (stD D 0 specs s0).sl t=some y:=fun t y hy=>by
  have h1:=z6g hsl t y (esl▸hy);rw[←h1];refine z4j t specs 0 s0 s0 rfl fun j z hz hk=>?_;rw[zzc];exact hsame j z hz (zaa hk (.inl (by rw[zjb kS];exact z4d hy)))
 have lessT: ∀t y,look ((stD D 0 specs s0).less x).tm t=some y→look (stD D 0 specs s0).tm t=some y:=fun t y hy=>by
  have hy:look (lessK x.dead _) t=some y:=hy;rw[z4n]at hy;cases hm:memB t x.dead with
  |true=>rw[hm]at hy;cases hy
  |false=>rw[hm]at hy;exact hy
 have lessS: ∀t y,look ((stD D 0 specs s0).less x).sl t=some y→look (stD D 0 specs s0).sl t=some y:=fun t y hy=>by
  have hy:look (lessK (x.mks++x.hid) _) t=some y:=hy;rw[z4n]at hy;cases hm:memB t (x.mks++x.hid)with
  |true=>rw[hm]at hy;cases hy
  |false=>rw[hm]at hy;exact hy
 have hs1:SimE E (nd.app ((stD D 0 specs s0).less x)) a w:=hs.weaken (fun t y hy=>by
  simp only[St.app,z1u]at hy;cases hn:look nd.tm t with
  |none=>rw[hn]at hy;exact lessT t y hy
  |some z=>rw[hn]at hy;cases hy;exact needT t _ hn) fun t y hy=>by
  simp only[St.app,z1u]at hy;cases hn:look nd.sl t with
  |none=>rw[hn]at hy;exact lessS t y hy
  |some z=>rw[hn]at hy;cases hy;exact needS t _ hn
 have hfr: ∀d∈x.mks,((stD D 0 specs s0).less x).noRef d=true:=fun d hd=>by
  obtain⟨f1,f2⟩:=ff d hd;refine zbh specs 0 s0 f1 fun j y hy hDj=>?_;rw[zzc]at hDj;cases he:zay d x y with
  |false=>rfl
  |true=>
   have hne:j≠i:=fun e=>by rw[e,hi]at hDj;cases hDj
   have:=hafter j y hy (f2 j y hne hy he);rw[this]at hDj;cases hDj
 have hone:=hdok (stD D 0 specs s0) hfr a w hs1;have hD0:D' i=true:=by rw[hD'];simp
 have hs2: ∀a' w',SimE E (x.eff.app (nd.app ((stD D 0 specs s0).less x))) a' w'→SimE E (stD D' 0 specs s0) a' w':=fun a' w' hs'=>by
  refine hs'.weaken (fun t y hy=>?_) fun t y hy=>?_
  ·simp only[St.app,z1u];cases he:look x.eff.tm t with
   |some z=>
    have:=zcx (D:=D') t specs 0 i x z s0 hx (by rw[zzc];exact hD0) he fun j z' hlt hz hk=>by
     rw[zzc];exact hlast0 j z' hlt hz (zqb hk (z4d he)) (zbj hk (.inr (z4d he)))
    rw[this]at hy;cases hy;rfl
   |none=>
    have e:look (stD D' 0 specs s0).tm t=look (stD D 0 specs s0).tm t:=z56 t specs 0 s0 s0 rfl fun j z hz hk=>by
     rw[zzc,hD',if_neg];intro e;subst e;rw[hx]at hz;cases hz;obtain⟨v,hv⟩:=z2c.1 hk;rw[he]at hv;cases hv
    rw[e]at hy;cases hn:look nd.tm t with
    |none=>
     show look (lessK x.dead _) t=some y;rw[z4n];cases hm:memB t x.dead with
     |true=>have:=fd t (z22.1 hm);obtain⟨v,hv⟩:=z2c.1 this;rw[he]at hv;cases hv
     |false=>exact hy
    |some z=>rw[needT t z hn]at hy;exact hy
  ·simp only[St.app,z1u];cases he:look x.eff.sl t with
   |some z=>
    have:=zbg (D:=D') t specs 0 i x z s0 hx (by rw[zzc];exact hD0) he fun j z' hlt hz hk=>by
     rw[zzc];exact hlast0 j z' hlt hz (zqa hk (z4d he)) (zaa hk (.inr (z4d he)))
    rw[this]at hy;cases hy;rfl
   |none=>
    have e:look (stD D' 0 specs s0).sl t=look (stD D 0 specs s0).sl t:=z4j t specs 0 s0 s0 rfl fun j z hz hk=>by
     rw[zzc,hD',if_neg];intro e;subst e;rw[hx]at hz;cases hz;obtain⟨v,hv⟩:=z2c.1 hk;rw[he]at hv;cases hv
    rw[e]at hy;cases hn:look nd.sl t with
    |none=>
     show look (lessK (x.mks++x.hid) _) t=some y;rw[z4n];cases hm:memB t (x.mks++x.hid)with
     |true=>have:=fm t (z22.1 hm);obtain⟨v,hv⟩:=z2c.1 this;rw[he]at hv;cases hv
     |false=>exact hy
    |some z=>rw[needS t z hn]at hy;exact hy
 have hfin:=hone K Q fun a' w' hs'=>hK a' w' (hs2 a' w' hs');unfold wpOp;rw[ho];simp only;split
 ·rename_i hw;rw[if_pos hw]at hfin;exact .inl hfin
 ·rename_i hw;rw[if_neg hw]at hfin;exact hfin
theorem DrawOkA.any {ops:Array Oper}{specs:List DOp}{bef:List (List Nat)}{al:Alts}{s0:St}(h:DrawOkA E ops specs bef al s0){Q:Exit→Act→World→Prop}
 (hQ: ∀a' w',SimE E (stD (fun _=>true) 0 specs s0) a' w'→Q .normal a' w'): ∀(fuel:Nat) (listed:Array Bool) (a:Act) (w:World),cnt listed=fuel→listed.size=ops.size→zdf ops (inD listed)→
 SimE E (stD (inD listed) 0 specs s0) a w→wpAny E.P .any ops Q fuel listed a w:=by
 have hlen:=zz5 h.len;intro fuel;induction fuel with
 |zero=>
  intro listed a w hc hz hD hs;refine⟨List.filter_eq_nil_iff.2 fun i hi=>?_,hQ a w ?_⟩
  ·have:=zcd hc i (by rw[hz];simpa using hi);simp[Array.getD_eq_getD_getElem?,this]
  ·rw[zai (D':=inD listed)]
   ·exact hs
   ·intro j hj;have:=zcd hc j (by omega)
    simp[inD,Array.getD_eq_getD_getElem?,this]
 |succ fuel ih=>
  intro listed a w hc hz hD hs;refine⟨fun h0=>?_,fun i hi=>?_⟩
  ·obtain⟨i,h1,h2⟩:=zkm (l:=listed) (by omega);have hilt:i<ops.size:=by rw[←hz];exact(Array.getElem?_eq_some_iff.1 h1).1
   have hmem:i∈Region.ready .any ops listed:=by
    unfold Region.ready;refine List.mem_filter.2 ⟨by simpa using hilt,?_⟩;have ho:ops[i]?=some ops[i]:=Array.getElem?_eq_getElem hilt
    simp only[Array.getD_eq_getD_getElem?,h1,ho,Option.getD_some,Bool.not_false,Bool.true_and,Option.map_some,Array.all_eq_true'];intro e he;cases hb:Region.binds .any e with
    |false=>rfl
    |true=>
     have:=h2 e.on (zbu h.back ho (by simpa using he) hb);simp[this]
   rw[h0]at hmem;cases hmem
  ·unfold Region.ready at hi;obtain⟨hi1,hi2⟩:=List.mem_filter.1 hi;have hilt:i<ops.size:=by simpa using hi1
   have ho:ops[i]?=some ops[i]:=Array.getElem?_eq_getElem hilt;simp only[ho,Option.map_some,Option.getD_some,Bool.and_eq_true,Array.all_eq_true']at hi2;obtain⟨hn,hall⟩:=hi2;have hli:listed[i]?=some false:=by
    rw[Array.getElem?_eq_getElem (by omega)];simp[Array.getD_eq_getD_getElem?,Array.getElem?_eq_getElem (show i<listed.size by omega)]at hn;rw[hn]
   have hedge: ∀e∈ops[i].after.toList,Region.binds .any e=true→inD listed e.on=true:=fun e he hb=>by
    have:=hall e (by simpa using he);rw[hb]at this
    simpa [inD]using this
   have hset: ∀j,inD (listed.setIfInBounds i true) j=if j=i then true else inD listed j:=fun j=>by
    unfold inD;simp only[Array.getD_eq_getD_getElem?,Array.getElem?_setIfInBounds];by_cases e:i=j
    ·subst e;simp[show i<listed.size by omega]
    ·rw[if_neg e,if_neg (fun x=>e x.symm)]
   obtain⟨x,hx⟩: ∃x,specs[i]?=some x:=⟨specs[i]'(by omega),List.getElem?_eq_getElem _⟩;refine h.next hD ho hx (by simp[inD,Array.getD_eq_getD_getElem?,hli]) hedge hset hs fun a' w' hs'=>?_;refine ih _ a' w' (by have:=zkn hli;omega) (by simpa using hz) (fun j o hj hDj e he hb=>?_) hs';rw[hset]at hDj ⊢;by_cases e1:e.on=i
   ·rw[if_pos e1]
   ·rw[if_neg e1];by_cases e2:j=i
    ·subst e2;rw[ho]at hj;cases hj;exact hedge e he hb
    ·rw[if_neg e2]at hDj;exact hD j o hj hDj e he hb
theorem zm7 {post:Exit→St→Prop}{id:Nat}{l:List Oper}{specs:List DOp}{bef:List (List Nat)}{al:Alts}{s':St}{tk sk:List Nat}(hm:E.P.follows .mixedOrders=true)
 (h:DrawOkA E l.toArray specs bef al s) (hk:Av.keep tk sk (stD (fun _=>true) 0 specs s)=some s') (hp:post .normal s'):Tri E (.region id l.toArray true) s post:=fun a w hs=>by
 refine wp_region_any hm (h.any (fun a' w' hs'=>⟨s',hp,zb0 hk hs'⟩) _ _ a _ ?_ (by simp) ?_ ?_)
 ·simp only[cnt,Array.toList_replicate];rw[List.filter_eq_self.2 (by intro b hb;rw[(List.mem_replicate.1 hb).2];rfl)];simp
 ·intro j o _ hD;simp only[inD,Array.getD_eq_getD_getElem?,Array.getElem?_replicate]at hD;split at hD<;>cases hD
 ·rw[zai (D':=fun _=>false)]
  ·have key: ∀(xs:List DOp) (i:Nat) (s:St),stD (fun _=>false) i xs s=s:=by
    intro xs;induction xs with
    |nil=>intro i s;rfl
    |cons x xs ih=>intro i s;simp only[stD];exact ih _ _
   rw[key];obtain⟨G,φ,hs⟩:=hs;exact⟨G,φ,hs.world rfl rfl ⟨rfl,Nat.le_succ _⟩ rfl⟩
  ·intro j _;simp only[inD,Array.getD_eq_getD_getElem?,Array.getElem?_replicate];split<;>rfl
def zml (al:Alts)(l:List Oper)(specs:List DOp)(bef:List (List Nat))(s:St):Bool:=
 match Nat.beq specs.length l.length with
 |false=>false
 |true=>match z9s l.toArray with
  |false=>false
  |true=>match okBef l.toArray bef with
   |false=>false
   |true=>match zji al specs bef with
    |false=>false
    |true=>zbv specs bef s
theorem Tri.dA {post:Exit→St→Prop}{id:Nat}{l:List Oper}(s':St)(al:Alts)(ys:List Sh)(tk sk:List Nat){cs:Prop}(hc:cs)(hman:ManOk E l.toArray l ys)(ha:z63 E l.toArray (z1d E.P l.toArray s (befGo l []) 0 l ys []) (befGo l []) s al) (hp:post .normal s')
 (hm:E.P.follows .mixedOrders=true:=by kernel_rfl)
 (hb:(match Nat.beq l.length ys.length with|true=>(match zml al l (z1d E.P l.toArray s (befGo l []) 0 l ys []) (befGo l []) s with|true=>z7f E.N E.P l.toArray l (z1d E.P l.toArray s (befGo l []) 0 l ys []) ys|false=>false)|false=>false)=true:=by kernel_rfl)
 (hn:z7c (z1d E.P l.toArray s (befGo l []) 0 l ys []) (befGo l []) s 0 (z1d E.P l.toArray s (befGo l []) 0 l ys [])=z7b (z1d E.P l.toArray s (befGo l []) 0 l ys []):=by kernel_rfl)
 (hv:(fun r=>z5c E.P l.toArray r l (z1d E.P l.toArray s (befGo l []) 0 l ys []) ys)=(fun _=>z5c E.P l.toArray ⟨[],[]⟩ l (z1d E.P l.toArray s (befGo l []) 0 l ys []) ys):=by kernel_rfl)
 (hce:z5l E.P l.toArray l (z1d E.P l.toArray s (befGo l []) 0 l ys []) ys=cs:=by kernel_rfl)
 (hk:Av.keep tk sk (stD (fun _=>true) 0 (z1d E.P l.toArray s (befGo l []) 0 l ys []) s)=some s':=by kernel_rfl):Tri E (.region id l.toArray true) s post:=by
 have h2: ∀{b z:Bool},(match b with|true=>z|false=>false)=true→b=true∧z=true:=fun{b z} h=>by cases b<;>simp_all
 obtain⟨hlen,hb⟩:=h2 hb;obtain⟨hd,hg⟩:=h2 hb;have he:=zg3 l ys 0 [] hlen (fun r=>congrFun hv r) hg (hce▸hc) hman
 refine zm7 (al:=al) (bef:=befGo l []) (specs:=z1d E.P l.toArray s (befGo l []) 0 l ys []) hm ?_ hk hp;unfold zml at hd;split at hd
 case h_1=>cases hd
 rename_i h1
 split at hd
 case h_1=>cases hd
 rename_i h2
 split at hd
 case h_1=>cases hd
 rename_i h3
 split at hd
 case h_1=>cases hd
 rename_i h4
 exact⟨by simpa using h1,h2,h3,h4,hd,hn,fun i o x ho hx=>he.get i o x (by simpa using ho) hx,ha⟩
def zp3 (N:Nat)(P:Program)(ops:Array Oper)(n:St)(o:Oper):Bool:=
 match o.dst with
  |none=>false
  |some d=>match z0l ops n o with
   |some true=>match z39 P n (some d) o.op with
    |some (.val av c)=>match okDst N n (some d) (.val av c)with|true=>mksOk [] (.val av c) (some d)|false=>false
    |_=>false
   |some false=>Nat.blt d N
   |none=>false
def zkj (P:Program)(ops:Array Oper)(n:St)(o:Oper):Prop:=
 match z0l ops n o with
  |some true=>match z39 P n o.dst o.op with
   |some (.val _ c)=>c
   |_=>True
  |_=>True
theorem z63.z {E:Env}{ops:Array Oper}{specs:List DOp}{bef:List (List Nat)}{s0:St}:z63 E ops specs bef s0 []:=trivial
theorem z63.k {E:Env}{ops:Array Oper}{specs:List DOp}{bef:List (List Nat)}{s0:St}{r i:Nat}{n:St}{al:Alts}(h:z63 E ops specs bef s0 al)
 (h1:Nat.beq i r=false:=by kernel_rfl)
 (h2:specs[r]?.map (fun x=>(z1a x.need.tm,z1a x.need.sl))=some (z1a n.tm,z1a n.sl):=by kernel_rfl)
 (h3:keep (z1a n.tm) (z1a n.sl) (stD (fun j=>memB j (i::nth bef r)) 0 specs s0)=some n:=by kernel_rfl)
 (h4:specs[r]?.map (fun x=>(⟨n,x.eff,x.mks,x.dead,x.hid⟩:DOp))=ops[r]?.map (fun o=>(⟨n,zbo E.P ops n o,[],[],[]⟩:DOp)):=by kernel_rfl)
 (h5:(fun q:St=>ops[r]?.map (fun o=>(z0l ops (n.app q) o,z39 E.P (n.app q) o.dst o.op)))=(fun _=>ops[r]?.map (fun o=>(z0l ops n o,z39 E.P n o.dst o.op))):=by kernel_rfl)
 (h6:ops[r]?.map (zp3 E.N E.P ops n)=some true:=by kernel_rfl)
 (h7:ops[r]?.map (zkj E.P ops n)=some True:=by kernel_rfl):z63 E ops specs bef s0 ((r,i,n)::al):=by
 refine⟨⟨⟨h1,h2,h3⟩,?_⟩,h⟩;cases ho:ops[r]? with
 |none=>rw[ho]at h6;cases h6
 |some o=>
  cases hx:specs[r]? with
  |none=>rw[hx]at h2;cases h2
  |some x=>
   refine⟨o,x,rfl,rfl,?_⟩;rw[ho,hx]at h4;simp only[Option.map_some,Option.some.injEq]at h4;rw[h4];rw[ho]at h6 h7;simp only[Option.map_some,Option.some.injEq]at h6 h7;refine zin (fun q=>?_) h6 ?_
   ·have:=congrFun h5 q;rw[ho]at this;simp only[Option.map_some,Option.some.injEq,Prod.mk.injEq]at this;exact this
   ·show zkj E.P ops n o;rw[h7];trivial
end
end Go.Av
namespace Go.Av
open Go
theorem Summ.i {P : Program} {f : FuncId} {fn : Func} {c : Code} {args : List AV} {sl sl' : List (Nat × Slot)} {res : AV} (hf : P.funcs[f]? = some fn) (hb : fn.body = some c) (ex : List Nat)
    (h : ∀ (w : World) (G V L : Nat → Prop) (φ : Nat → Option Loc), Tri ⟨P, w, G, V, L, sl.map (·.1) ++ ex, fn.ntmps, φ, sl.map (·.1)⟩ c ⟨params 0 args, sl⟩ (zki P fn res sl'))
    (hn : (fn.name == "runtime.NumGoroutine") = false := by kernel_rfl) (ha : Nat.ble args.length fn.ntmps = true := by kernel_rfl) (hlt : anyB (fun p : Nat × Slot => Nat.blt p.1 fn.ntmps) sl = false := by rfl) : Summ P f args sl res sl' := by
  refine Summ.intro hf hb hn ha ex hlt ?_
  rintro ⟨P, w, G, V, L, lk, N, φ, fx⟩ rfl rfl rfl rfl
  exact h w G V L φ
section
variable {E:Env}
theorem Tri.l {s:St}{post:Exit→St→Prop}{c:Code}(fz:List Nat)(s':St)(ht:LeT s fz s'.tm)(hs:LeS s fz s'.sl)(h:Tri E c s' post)(hfz: ∀k∈fz,k∉E.lk:=by intro k hk h;first|(cases hk;done)|(cases h;done)|(simp at hk h;omega)):Tri E c s post:=Tri.le fz hfz s' ht hs h
theorem At.l {L:List Oper}{i:Nat}{K:St→Prop}{s:St}(fz:List Nat)(s':St)(ht:LeT s fz s'.tm)(hs:LeS s fz s'.sl)(h:At E L i s' K)(hfz: ∀k∈fz,k∉E.lk:=by intro k hk h;first|(cases hk;done)|(cases h;done)|(simp at hk h;omega)):At E L i s K:=At.le fz hfz s' ht hs h
end
end Go.Av
namespace Go.Av
open Go
def maskC:List Bool→List C→List C
 |m::ms,c::cs=>match m with|true=>c::maskC ms cs|false=>maskC ms cs
 |_,_=>[]
def zaj (R:C→Value→Prop):List Bool→Nat→List C→(Nat→Value)→Prop
 |m::ms,i,c::cs,u=>(m=true→R c (u i))∧zaj R ms (i+1) cs u
 |_,_,_,_=>True
theorem zaj.of {R R':C→Value→Prop}: ∀{ms:List Bool} {i:Nat} {cs ds:List C} {u:Nat→Value} {vs:List Value},RelCs R cs vs→(∀j,j<vs.length→u (i+j)=vs.getD j undef)→maskC ms cs=maskC ms ds→cs.length=ds.length→(∀c∈maskC ms cs,∀v,R c v→R' c v)→zaj R' ms i ds u
 |[],_,_,_,_,_,_,_,_,_,_=>by simp[zaj]
 |_::_,_,_,[],_,_,_,_,_,_,_=>by simp[zaj]
 |m::ms,i,c::cs,d::ds,u,v::vs,h,hu,he,hl,hR=>by
  have h0:=hu 0 (by simp);have hu': ∀j,j<vs.length→u (i+1+j)=vs.getD j undef:=fun j hj=>by have:=hu (j+1) (by simpa using hj);simpa [Nat.add_assoc,Nat.add_comm 1 j]using this
  have hl':cs.length=ds.length:=by simpa using hl
  cases m with
  |true=>
   simp only[maskC]at he hR;injection he with e1 e2;subst e1;exact⟨fun _=>by simp at h0;rw[h0];exact hR c (zz3 ..) v h.1,zaj.of h.2 hu' e2 hl' fun c hc=>hR c (zz7 _ hc)⟩
  |false=>
   simp only[maskC]at he hR;exact⟨(fun h=>by cases h),zaj.of h.2 hu' he hl' hR⟩
 |_::_,_,[],_::_,_,_,_,_,_,hl,_=>by simp at hl
 |_::_,_,_::_,_,_,[],h,_,_,_,_=>h.elim
section
variable {E:Env} {s:St} {G:Nat→Prop} {φ:Nat→Option Loc} {a:Act} {w:World}
end
section
variable {E:Env} {s:St}
theorem zf1 {L:List Oper}{i:Nat}{K:St→Prop}{o:Oper}{t e yt:TypeId}{x:Operand}{es n d:Nat}{get:Nat→List D}(ho:L[i]?=some o)
 (hop:o.op= .binOp .eql t x (.const (.slice none 0 0)) yt) (hw:z0l L.toArray s o=some true) (hd:o.dst=some d) (hlt:Nat.blt d E.N=true)
 (hu:E.P.underlying t=some (.slice e)) (hx:evO s x=some (.c (.view es n get)))
 (h1:n=0→At E L (i+1) (s.put d (.c (.d (.bool true)))) K) (h2:At E L (i+1) (s.put d (.c (.d (.bool false)))) K):At E L i s K:=fun a w hs Q hQ=>by
 obtain⟨hlt',he⟩:=List.getElem?_eq_some_iff.1 ho;rw[List.drop_eq_getElem_cons hlt',he];obtain⟨G,φ,h⟩:=hs;unfold wpList;rw[if_pos (z14 h hw)];left;have hv:RelC G E.V φ w (.view es n get) (a.eval x):=(h.ev hx).1
 have hex:execOp a.eval o=(do pure (.value (←(do eqGuard .eql t x (.const (.slice none 0 0)) (a.eval x) (.slice none 0 0);Go.binOp .eql t (a.eval x) (.slice none 0 0):Sem Value))):Sem Next):=by unfold execOp;rw[hop];rfl
 have key: ∀b,(do eqGuard .eql t x (.const (.slice none 0 0)) (a.eval x) (.slice none 0 0);Go.binOp .eql t (a.eval x) (.slice none 0 0):Sem Value).run E.P w= .ok (.bool b) w→(b=true→n=0)→o.wp E.P a w (wpList E.P L.toArray Q (L.drop (i+1))) Q:=fun b hb hn=>by
  unfold Oper.wp;rw[hex];simp only[zz4]at hb ⊢;rw[hb];simp only[zz1,zz9,Oper.upon,hd];have hp:SimE E (s.put d (.c (.d (.bool b)))) (a.put (some d) (.bool b)) w:=⟨G,φ,h.put (zzk.mp hlt) (z0f (RelD.bool _) rfl)⟩
  cases b with
  |true=>exact h1 (hn rfl) _ _ hp Q hQ
  |false=>exact h2 _ _ hp Q hQ
 generalize a.eval x=u at*;rcases hv with⟨hn,A,cap,rfl⟩|⟨b,off,cap,_,rfl,_⟩
 ·cases A with
  |none=>exact key true (z8h hu _ _ _) fun _=>hn
  |some A=>exact key false (z8h hu _ _ _) fun h=>by cases h
 ·exact key false (z8h hu _ _ _) fun h=>by cases h
theorem zc9 {α:Type}{f:α→Bool}: ∀{l:List α},(∀x∈l,f x=true)→allC f l=true
 |[],_=>rfl
 |x::r,h=>by
  unfold allC;rw[h x (zz3 ..)];exact zc9 fun y hy=>h y (zz7 _ hy)
theorem zhd {ops:Array Oper}{o:Oper}{cl:Call}{f:FuncId}{nf d k:Nat}{caps:List CC}{xs args:List AV}{res av:AV}{v:Slot}{sl sl':List (Nat×Slot)}(ρ:List (Nat×Nat))
 (hS:Summ E.P f args sl res sl') (hop:o.op= .call cl) (hdo:o.dst=some d) (hw:z0l ops s o=some true) (hd:dstOk E.N o.dst=true) (hc:z78 s cl=some (f,nf,caps)) (hx:argsL s cl nf caps=some xs)
 (hle:AVsArgL s ρ (keysS sl) ((keysS sl).map (renN ρ)) xs args) (hsl:LentS s ρ (keysS sl) sl) (hinj:injB ρ (keysS sl)=true) (hinj':injB ρ (keysS sl')=true) (hres:res.lent (keysS sl')=true)
 (hsl':allC (fun p:Nat×Slot=>p.2.lent (keysS sl')) sl'=true) (hk:allC (fun j=>Nat.beq (renN ρ j) k) (keysS sl++keysS sl')=true)
 (hfx:anyB (Nat.beq k) E.fx=false) (hlk:lkOk3 E.lk ρ (keysS sl) (keysS sl')=true) (h1:renSl ρ sl'=[(k,v)]) (h2:res.ren ρ=av):
 One E ops o s (((s.drop k).slot k v).put d av):=by
 have hkk: ∀j∈keysS sl++keysS sl',renN ρ j=k:=fun j hj=>zz5 (z2s hk j hj);have hno:=zcm k s
 have:=zhe ρ (s.drop k) hS hop hw hd hc hx hle hsl hinj hinj' hres hsl' (fun h=>h.drop k) ?_ ?_ ?_ ?_ hlk
 ·rw[h1,h2,hdo]at this;exact this
 ·intro t x hx;simp only[St.drop,z6q]at hx;split at hx
  ·cases hx
  ·cases e:look s.sl t with
   |none=>rw[e]at hx;cases hx
   |some y=>exact⟨y,rfl⟩
 ·refine zc9 fun j hj=>?_;rw[hkk j hj];simp only[St.drop,z6q];simp
 ·refine zc9 fun j hj=>?_;rw[hkk j ?_]
  ·exact hno
  ·unfold oddK at hj;rcases zz2.1 hj with h|h
   ·exact zzo _ (List.mem_filter.1 h).1
   ·exact zzh _ (List.mem_filter.1 h).1
 ·refine zc9 fun j hj=>?_;rw[hkk j ?_,hfx]
  ·rfl
  ·unfold oddK at hj;rcases zz2.1 hj with h|h
   ·exact zzo _ (List.mem_filter.1 h).1
   ·exact zzh _ (List.mem_filter.1 h).1
end
section
variable {E:Env}
end
end Go.Av
namespace Go.Av
open Go
section
variable {E:Env} {s:St} {G:Nat→Prop} {φ:Nat→Option Loc} {a:Act} {w:World}
theorem Sim.loc (h:Sim E s G φ a w){k es n:Nat}{get:Nat→List D}(hk:look s.sl k=some (.vec es n get))(hf:anyB (Nat.beq k) E.fx=true)(hn:0<n):
 ∃L,E.φ0 k=some L∧φ k=some L∧n≤L.cap:=by
 obtain⟨_,h0|⟨l,h1,h2,_⟩⟩:=h.sl _ _ hk
 ·omega
 ·exact⟨l,by rw[←h.fix k _ (z21.1 hf) hk];exact h1,h1,h2⟩
theorem Sim.toRaw (h:Sim E s G φ a w){t k es n N:Nat}{get:Nat→List D}(ht:look s.tm t=some (.c (.own k es 0 n)))(hk:look s.sl k=some (.vec es N get))(hf:anyB (Nat.beq k) E.fx=true)(hn:0<n){L:Loc}(hL:E.φ0 k=some L):
 Sim E ⟨(t,.c (.raw (.slice (some ⟨L.blk,L.off,none⟩) n L.cap)))::s.tm,s.sl⟩ G φ a w:=
 {h with
  tm:=fun t' x hx=>by
   have hx:look ((t,AV.c (.raw (.slice (some ⟨L.blk,L.off,none⟩) n L.cap)))::s.tm) t'=some x:=hx;rw[z0y]at hx;by_cases e:t=t'
   ·subst e;rw[if_pos rfl]at hx;cases hx;obtain⟨v,hv,hr⟩:=h.tm t _ ht;refine⟨v,hv,?_⟩;have hp:=h.fix k _ (z21.1 hf) hk
    rcases hr.1 with⟨h0,_⟩|⟨l,h1,_,h3⟩
    ·omega
    ·rw[hp,hL]at h1;cases h1;subst h3;exact⟨by simp[RelC],rfl⟩
   ·rw[if_neg e]at hx;exact h.tm t' x hx}
theorem Sim.unRaw (h:Sim E s G φ a w){t k es n:Nat}{c:Slot}(hk:look s.sl k=some c)(hf:anyB (Nat.beq k) E.fx=true){L:Loc}(hL:E.φ0 k=some L)(ht:look s.tm t=some (.c (.raw (.slice (some ⟨L.blk,L.off,none⟩) n L.cap)))) (hn:n≤L.cap):
 Sim E ⟨(t,.c (.own k es 0 n))::s.tm,s.sl⟩ G φ a w:=
 {h with
  tm:=fun t' x hx=>by
   have hx:look ((t,AV.c (.own k es 0 n))::s.tm) t'=some x:=hx;rw[z0y]at hx;by_cases e:t=t'
   ·subst e;rw[if_pos rfl]at hx;cases hx;obtain⟨v,hv,hr⟩:=h.tm t _ ht;have hr1:v= .slice (some ⟨L.blk,L.off,none⟩) n L.cap:=hr.1
    refine⟨v,hv,.inr ⟨L,by rw[h.fix k _ (z21.1 hf) hk];exact hL,by omega,?_⟩,hr.2⟩;rw[hr1];simp
   ·rw[if_neg e]at hx;exact h.tm t' x hx}
theorem znw {ops:Array Oper}{o:Oper}{t:TypeId}{d n c:Nat}{A:Option Addr}{x:Operand}(hop:o.op= .call ⟨.builtin .len, #[x], #[t]⟩)(hw:z0l ops s o=some true)(hd:o.dst=some d)(hlt:Nat.blt d E.N=true)
 (hu: ∃e,E.P.underlying t=some (.slice e)) (hx:evO s x=some (.c (.raw (.slice A n c)))):One E ops o s (s.put d (.c (.d (.int .i64 (n:Int))))):=fun a w hs=>by
 obtain⟨G,φ,h⟩:=hs;refine⟨z14 h hw,fun next Q hn=>?_⟩;obtain⟨e,hu⟩:=hu;have hA:a.eval x= .slice A n c:=(h.ev hx).1
 have he:execOp a.eval o=(do pure (.value (←Builtin.len_ #[t] o.type #[a.eval x])):Sem Next):=by
  unfold execOp;rw[hop];simp[resolve,invoke,builtin]
 unfold Oper.wp;rw[he,hA];have hr:(Builtin.len_ #[t] o.type #[.slice A n c]).run E.P w= .ok (.int .i64 (n:Int)) w:=by
  simp[Builtin.len_,run_underlying hu,goInt]
 simp only[zz4,hr,zz1,zz9,Oper.upon,hd];exact hn _ _ ⟨G,φ,h.put (zzk.mp hlt) (z0f (RelD.int _ _) rfl)⟩
theorem zl9 {ops:Array Oper}{o:Oper}{t e:TypeId}{d n c nn es:Nat}{A:Option Addr}{x:Operand}{lo hi mx:Option Operand}{l hh:Int}(hop:o.op= .slice t x lo hi mx)(hw:z0l ops s o=some true)(hd:o.dst=some d)(hlt:Nat.blt d E.N=true)
 (hu:E.P.underlying t=some (.slice e)) (hsz:sizeT E.P e=some es) (hx:evO s x=some (.c (.raw (.slice A n c)))) (hb:z5t nn (lo.map (evO s)) (hi.map (evO s)) (mx.map (evO s))=some (l,hh,none)) (hc:bndOk nn l hh none) (hnn:nn≤c) (hq:nn=n∨hi.isSome=true):
 One E ops o s (s.put d (.c (.raw (.slice (if c=l.toNat then A else A.map (·.add (l.toNat*es))) (hh.toNat-l.toNat) (c-l.toNat))))):=fun a w hs=>by
 obtain⟨G,φ,h⟩:=hs;refine⟨z14 h hw,fun next Q hn=>?_⟩;have hA:a.eval x= .slice A n c:=(h.ev hx).1
 obtain⟨M,hr,x1,x2,x3,x4,_,hmx,_⟩:=h.bnds (cap:=c) (isS:=true) hb hc hnn;obtain⟨hm0,hM⟩:=hmx rfl;subst hM;have hr':(Instr.sliceBounds true n M (lo.map a.eval) (hi.map a.eval) (mx.map a.eval)).run E.P w= .ok (l.toNat,hh.toNat,M) w:=by
  rcases hq with rfl|hq
  ·exact hr
  ·subst hm0;cases hi with
   |none=>cases hq
   |some hi=>exact hr
 have hs:=z6h (P:=E.P) (w:=w) hu hsz A n M _ _ _ _ _ _ hr';unfold Oper.wp execOp;rw[hop];simp only[zz4,hA,hs,zz1,zz9,Oper.upon,hd];exact hn _ _ ⟨G,φ,h.put (zzk.mp hlt) (z0f (by rfl) rfl)⟩
theorem znv {ops:Array Oper}{o:Oper}{t:TypeId}{d n c:Nat}{A:Option Addr}{x:Operand}(hop:o.op= .call ⟨.builtin .cap, #[x], #[t]⟩)(hw:z0l ops s o=some true)(hd:o.dst=some d)(hlt:Nat.blt d E.N=true)
 (hu: ∃e,E.P.underlying t=some (.slice e)) (hx:evO s x=some (.c (.raw (.slice A n c)))):One E ops o s (s.put d (.c (.d (.int .i64 (c:Int))))):=fun a w hs=>by
 obtain⟨G,φ,h⟩:=hs;refine⟨z14 h hw,fun next Q hn=>?_⟩;obtain⟨e,hu⟩:=hu;have hA:a.eval x= .slice A n c:=(h.ev hx).1
 have he:execOp a.eval o=(do pure (.value (←Builtin.cap_ #[t] o.type #[a.eval x])):Sem Next):=by
  unfold execOp;rw[hop];simp[resolve,invoke,builtin]
 unfold Oper.wp;rw[he,hA];have hr:(Builtin.cap_ #[t] o.type #[.slice A n c]).run E.P w= .ok (.int .i64 (c:Int)) w:=by
  simp[Builtin.cap_,run_underlying hu,goInt]
 simp only[zz4,hr,zz1,zz9,Oper.upon,hd];exact hn _ _ ⟨G,φ,h.put (zzk.mp hlt) (z0f (RelD.int _ _) rfl)⟩
theorem Sim.storeAt (h:Sim E s G φ a w){k es N N' m p:Nat}{get get' get2:Nat→List D}{L:Loc}{us:List Value}(hk:look s.sl k=some (.vec es N get))(hL:φ k=some L)(hm:p+m≤L.cap)(hul:us.length=m*es)(hcs:N'≤p∨z2g G w us es m get')
 (hx:N'≤maxN) (hc:N'≤L.cap) (hg: ∀i,i<N'→(p≤i∧i<p+m∧get2 i=get' (i-p))∨((i<p∨p+m≤i)∧i<N∧get2 i=get i)) (h1: ∀u∈us,u.oneCell'=true):
 (storeCells ⟨L.blk,L.off+p*es,none⟩ us).run E.P w= .ok () (w.setCells L.blk (L.off+p*es) us)∧Sim E (s.slot k (.vec es N' get2)) G φ a (w.setCells L.blk (L.off+p*es) us):=by
 obtain⟨_,h0|⟨l,g1,g2,ht,hel⟩⟩:=h.sl _ _ hk
 ·rw[hL]at h0;cases h0.1
 ·rw[hL]at g1;cases g1;have e1:(p+m)*es≤L.cap*es:=Nat.mul_le_mul_right es hm
  have htt:w.there L.blk (L.off+p*es) us.length:=fun j hj=>by
   rw[Nat.add_assoc];refine ht.1 (p*es+j) ?_;rw[Nat.add_mul]at e1;omega
  have hstore:=run_storeCells_cells (P:=E.P) L.blk (L.off+p*es) us 0 w (fun j hj=>(by simpa using htt j hj:_∧_).1) (fun j hj=>(by simpa using htt j hj:_∧_).2) h1;simp only[Nat.add_zero]at hstore;refine⟨hstore,?_⟩;obtain⟨f1,f2,f3,f4,f5⟩:=z5p L.blk us (L.off+p*es) w;have hsame:Same G w (w.setCells L.blk (L.off+p*es) us):=fun b hb=>f5 b fun e=>(h.own k _ L hk hL).1 (e▸hb)
  refine h.turn hk hL f1 f2 f3 f4 f5 ⟨hx,.inr ⟨L,hL,hc,ht.setCells _ _ _,fun i hi=>?_⟩⟩;rcases hg i hi with⟨q1,q2,q3⟩|⟨q1,q2,q3⟩
  ·rw[q3];obtain⟨g1,g2⟩:=(hcs.resolve_left (by omega)) (i-p) (by omega);refine⟨g1,fun j hj=>?_⟩;obtain⟨u,hu,hr⟩:=g2 j (by omega);have hlt':=z4y (show i-p<m by omega) (show j<es by omega)
   have hin':=World.cell?_setCells_in L.blk us (L.off+p*es) w (fun q hq=>(htt q hq).1) ((i-p)*es+j) (by omega);refine⟨u,?_,hr.mono hsame fun _ h=>h⟩;have e2:L.off+i*es+j=L.off+p*es+((i-p)*es+j):=by
    have:i=p+(i-p):=by omega
    rw[this,Nat.add_mul];have:p+(i-p)-p=i-p:=by omega
    rw[this];omega
   rw[e2,hin',←hu,List.getElem?_eq_getElem (by omega)]
  ·rw[q3];obtain⟨g1,g2⟩:=hel i q2;refine⟨g1,fun j hj=>?_⟩;obtain⟨u,hu,hr⟩:=g2 j hj;refine⟨u,?_,hr.mono hsame fun _ h=>h⟩;rw[World.cell?_setCells_out L.blk us (L.off+p*es) w _ (fun _ _=>by
    show L.off+i*es+j<L.off+p*es∨L.off+p*es+us.length≤L.off+i*es+j;rcases q1 with q1|q1
    ·left;have:=z4y q1 (show j<es by omega)
     omega
    ·right;have:(p+m)*es≤i*es:=Nat.mul_le_mul_right es q1
     rw[Nat.add_mul]at this;omega)]
   exact hu
theorem add_add (b o j:Nat):(⟨b,o,none⟩:Addr).add j=⟨b,o+j,none⟩:=Addr.add_mid b o j
theorem Sim.loadAt (h:Sim E s G φ a w){k es N m q:Nat}{get:Nat→List D}{L:Loc}{A:Option Addr}{c:Nat}(hk:look s.sl k=some (.vec es N get))(hL:φ k=some L)(hN:0<N)(hq:q+m≤N)(hA:0<m→A=some ⟨L.blk,L.off+q*es,none⟩):
 ∃us:List Value,us.length=m*es∧z2g G w us es m (fun i=>get (q+i))∧(Builtin.firstCells es m (.slice A m c)).run E.P w= .ok us.toArray w∧ ∀u∈us,u.oneCell'=true:=by
 obtain⟨_,h0|⟨l,g1,g2,ht,hel⟩⟩:=h.sl _ _ hk
 ·omega
 ·rw[hL]at g1;cases g1;have he:z30 G w L.blk (L.off+q*es) es m (fun i=>get (q+i)):=fun i hi=>by
   obtain⟨e1,e2⟩:=hel (q+i) (by omega);refine⟨e1,?_⟩;have e:L.off+q*es+i*es=L.off+(q+i)*es:=by rw[Nat.add_mul];omega
   rw[e];exact e2
  obtain⟨us,h1,h2,h3,h4⟩:=za4 (P:=E.P) he;refine⟨us,h1,h2,?_,h4⟩;by_cases hm:0<m
  ·rw[hA hm];exact h3 w rfl
  ·have:m=0:=by omega
   subst this;have:us=[]:=by cases us<;>simp_all
   subst this;cases A with
   |none=>rfl
   |some A=>simp[Builtin.firstCells,loadCells,loadCellsFrom]
theorem zjy {ops:Array Oper}{o:Oper}{d k:Nat}{sT xT e:TypeId}{es n N m q c':Nat}{b x:Operand}{get:Nat→List D}{A':Option Addr}{L:Loc}(hkf:anyB (Nat.beq k) E.fx=true)(hL:E.φ0 k=some L)
 (hop:o.op= .call ⟨.builtin .append, #[b,x], #[sT,xT]⟩) (hw:z0l ops s o=some true) (hd:o.dst=some d) (hlt:Nat.blt d E.N=true)
 (hok:AppOk E.P sT xT e es) (hk:look s.sl k=some (.vec es N get)) (hN:0<N) (hb:evO s b=some (.c (.raw (.slice (some ⟨L.blk,L.off,none⟩) n L.cap)))) (hx:evO s x=some (.c (.raw (.slice A' m c'))))
 (hA:0<m→A'=some ⟨L.blk,L.off+q*es,none⟩) (hq:q+m≤N) (hn:n+m≤N):
 One E ops o s ((s.slot k (.vec es N (fun i=>if n≤i∧i<n+m then get (q+(i-n))else get i))).put d (.c (.raw (.slice (some ⟨L.blk,L.off,none⟩) (n+m) L.cap)))):=fun a w hs=>by
 obtain⟨G,φ,h⟩:=hs;refine⟨z14 h hw,fun next Q hnx=>?_⟩;have hp:φ k=some L:=by rw[h.fix k _ (z21.1 hkf) hk];exact hL
 obtain⟨hNm,h0|⟨l,g1,g2,_⟩⟩:=h.sl _ _ hk
 ·omega
 rw[hp]at g1;cases g1;have hbv:a.eval b= .slice (some ⟨L.blk,L.off,none⟩) n L.cap:=(h.ev hb).1
 have hxv:a.eval x= .slice A' m c':=(h.ev hx).1;obtain⟨us,u1,u2,u3,u4⟩:=h.loadAt (c:=c') hk hp hN hq hA;obtain⟨t1,t2⟩:=h.storeAt (p:=n) (m:=m) (N':=N) (get':=fun i=>get (q+i)) (get2:=fun i=>if n≤i∧i<n+m then get (q+(i-n))else get i) hk hp (by omega) u1 (.inr u2) hNm g2 (fun i hi=>by
  by_cases hc:n≤i∧i<n+m
  ·exact .inl ⟨hc.1,hc.2,by simp only[if_pos hc]⟩
  ·exact .inr ⟨by omega,hi,by simp only[if_neg hc]⟩) u4
 have he:execOp a.eval o=(do pure (.value (←Builtin.append_ #[sT,xT] o.type #[a.eval b,a.eval x])):Sem Next):=by
  unfold execOp;rw[hop];simp[resolve,invoke,builtin]
 unfold Oper.wp;rw[he,hbv];have hr:=z9f (P:=E.P) (w:=w) (ty:=o.type) (sLen:=n) (sCap:=L.cap) (A:=some ⟨L.blk,L.off,none⟩) (v:=a.eval x) hok.u hok.x hok.sz hxv (by rw[hxv];exact u3) (by omega) (by simp only[Addr.add_mid];exact t1)
 simp only[zz4,hr,zz1,zz9,Oper.upon,hd];exact hnx _ _ ⟨G,φ,t2.put (zzk.mp hlt) (z0f (by rfl) rfl)⟩
theorem zq0 {P:Program}{e:TypeId}{es:Nat}{z:List C}(hz:zeroCells P e=some z)(hl:z.length=es):
 ∃zv:Value,(∀w,(zeroValue e).run P w= .ok zv w)∧ ∀m,(Builtin.zeroCells zv.cells m).toList.length=m*es∧ ∀u∈(Builtin.zeroCells zv.cells m).toList,u.oneCell'=true:=by
 obtain⟨zv,h1,h2,h3⟩:=z42 hz;have hs:zv.cells.size=es:=by rw[←hl,←h2];simp
 refine⟨zv,h1,fun m=>⟨by simp[Builtin.zeroCells,hs],fun u hu=>?_⟩⟩;simp only[Builtin.zeroCells,Array.toList_map,List.mem_map]at hu;obtain⟨i,hi,rfl⟩:=hu;have hi:i<m*zv.cells.size:=by simpa using hi
 have h0:0<zv.cells.size:=by
  rcases Nat.eq_zero_or_pos zv.cells.size with h|h
  ·rw[h]at hi;omega
  ·exact h
 have hm:=Nat.mod_lt i h0;rw[getElem!_pos zv.cells _ hm];exact h3 _ (Array.getElem_mem_toList hm)
theorem zl8 {ops:Array Oper}{o:Oper}{k:Nat}{t e:TypeId}{es N N' m p c':Nat}{x:Operand}{get:Nat→List D}{A':Option Addr}{L:Loc}{z:List C}(hkf:anyB (Nat.beq k) E.fx=true)(hL:E.φ0 k=some L)
 (hop:o.op= .call ⟨.builtin .clear, #[x], #[t]⟩) (hw:z0l ops s o=some true) (hd:o.dst=none) (hu:E.P.underlying t=some (.slice e)) (hz:zeroCells E.P e=some z) (hzl:z.length=es)
 (hk:look s.sl k=some (.vec es N get)) (hN:0<N) (hx:evO s x=some (.c (.raw (.slice A' m c')))) (hA:0<m→A'=some ⟨L.blk,L.off+p*es,none⟩) (hp:p+m≤N) (hN':N'≤p):
 One E ops o s (s.slot k (.vec es N' get)):=fun a w hs=>by
 obtain⟨G,φ,h⟩:=hs;refine⟨z14 h hw,fun next Q hnx=>?_⟩;have hpk:φ k=some L:=by rw[h.fix k _ (z21.1 hkf) hk];exact hL
 obtain⟨hNm,h0|⟨l,g1,g2,_⟩⟩:=h.sl _ _ hk
 ·omega
 rw[hpk]at g1;cases g1;have hxv:a.eval x= .slice A' m c':=(h.ev hx).1
 obtain⟨zv,z1,z2⟩:=zq0 hz hzl;obtain⟨z3,z4⟩:=z2 m;obtain⟨t1,t2⟩:=h.storeAt (p:=p) (m:=m) (N':=N') (get':=get) (get2:=get) hk hpk (by omega) z3 (.inl hN') (by omega) (by omega) (fun i hi=> .inr ⟨by omega,by omega,rfl⟩) z4;have he:execOp a.eval o=(do pure (.value (←Builtin.clear_ #[t] o.type #[a.eval x])):Sem Next):=by
  unfold execOp;rw[hop];simp[resolve,invoke,builtin]
 unfold Oper.wp;rw[he,hxv];have hr:(Builtin.clear_ #[t] o.type #[.slice A' m c']).run E.P w= .ok (.tuple #[]) (w.setCells L.blk (L.off+p*es) (Builtin.zeroCells zv.cells m).toList):=by
  cases m with
  |zero=>
   have:(Builtin.zeroCells zv.cells 0).toList=[]:=by simp[Builtin.zeroCells]
   rw[this];cases A'<;>simp[Builtin.clear_,run_underlying hu,World.setCells]
  |succ m=>
   rw[hA (by omega)];simp[Builtin.clear_,run_underlying hu,z1,t1]
 simp only[zz4,hr,zz1,zz9,Oper.upon,hd];exact hnx _ _ ⟨G,φ,t2⟩
theorem zhf {ops:Array Oper}{o:Oper}{k:Nat}{dT sT e:TypeId}{es N N' m p dn sn dc:Nat}{b x:Operand}{get get' get2:Nat→List D}{B:Option Addr}{L:Loc}(hkf:anyB (Nat.beq k) E.fx=true)(hL:E.φ0 k=some L)
 (hop:o.op= .call ⟨.builtin .copy, #[b,x], #[dT,sT]⟩) (hw:z0l ops s o=some true) (hd:dstOk E.N o.dst=true) (hu:E.P.underlying dT=some (.slice e)) (hsz:sizeT E.P e=some es)
 (hk:look s.sl k=some (.vec es N get)) (hN:0<N) (hb:evO s b=some (.c (.raw (.slice B dn dc)))) (hB:0<m→B=some ⟨L.blk,L.off+p*es,none⟩) (hmn:Nat.min sn dn=m)
 (hsrc: ∀{G:Nat→Prop} {φ:Nat→Option Loc} {a:Act} {w:World},Sim E s G φ a w→φ k=some L→ ∃(us:List Value) (A':Option Addr) (c':Nat),a.eval x= .slice A' sn c'∧us.length=m*es∧z2g G w us es m get'∧(Builtin.firstCells es m (.slice A' sn c')).run E.P w= .ok us.toArray w∧ ∀u∈us,u.oneCell'=true)
 (hp:p+m≤L.cap) (hx:N'≤maxN) (hc:N'≤L.cap) (hg: ∀i,i<N'→(p≤i∧i<p+m∧get2 i=get' (i-p))∨((i<p∨p+m≤i)∧i<N∧get2 i=get i)):
 One E ops o s (putO (s.slot k (.vec es N' get2)) o.dst (.c (.d (.int .i64 (m:Int))))):=fun a w hs=>by
 obtain⟨G,φ,h⟩:=hs;refine⟨z14 h hw,fun next Q hnx=>?_⟩;have hpk:φ k=some L:=by rw[h.fix k _ (z21.1 hkf) hk];exact hL
 obtain⟨us,A',c',u0,u1,u2,u3,u4⟩:=hsrc h hpk;have hbv:a.eval b= .slice B dn dc:=(h.ev hb).1
 obtain⟨t1,t2⟩:=h.storeAt (p:=p) (m:=m) (N':=N') (get':=get') (get2:=get2) hk hpk hp u1 (.inr u2) hx hc hg u4;have he:execOp a.eval o=(do pure (.value (←Builtin.copy_ #[dT,sT] o.type #[a.eval b,a.eval x])):Sem Next):=by
  unfold execOp;rw[hop];simp[resolve,invoke,builtin]
 unfold Oper.wp;rw[he,hbv,u0];have hr:(Builtin.copy_ #[dT,sT] o.type #[.slice B dn dc,.slice A' sn c']).run E.P w= .ok (goInt m) (w.setCells L.blk (L.off+p*es) us):=by
  unfold Builtin.copy_;simp only[List.getElem?_toArray,List.getElem?_cons_zero,List.getElem?_cons_succ,zz4,run_underlying hu,zz1,z1r hsz,zz9,Builtin.lenOf,hmn,u3];by_cases hm:0<m
  ·rw[hB hm];simp[t1]
  ·have:m=0:=by omega
   subst this;have:us=[]:=by cases us<;>simp_all
   subst this;cases B with
   |none=>rfl
   |some B=>simp[storeCells,World.setCells]
 simp only[zz4,hr,zz1,zz9,Oper.upon];refine hnx _ _ ⟨G,φ,?_⟩;cases hdd:o.dst with
 |none=>exact t2
 |some d=>
  rw[hdd]at hd;exact t2.put (zzk.mp hd) (z0f (RelD.int _ _) rfl)
end
end Go.Av
namespace Go.Av
open Go
theorem zfz {w:World}{b o:Nat}{u:Value}(h:w.cell? ⟨b,o,none⟩=some u): ∃t n,w.shape? b=some (t,n)∧n≠0:=by
 unfold World.cell? at h;unfold World.shape?;simp only at h;cases hb:w.heap[b]? with
 |none=>simp[hb]at h
 |some x=>
  cases x with
  |cells c t fr=>
   refine⟨t,c.size,rfl,fun h0=>?_⟩;simp[hb]at h;have:=(Array.getElem?_eq_some_iff.1 h).1
   omega
  |_=>simp[hb]at h
theorem zfm {P : Program} (w : World) (tS tR e : TypeId) (ht : P.underlying tS = some (.slice e)) (size : Nat) (hz : ∀ w, (Go.sizeOf e).run P w = .ok size w)
    (a b : Addr) (la ca lb cb : Nat) (hne : a.block ≠ b.block) {tA tB : TypeId} {kA kB : Nat}
    (hsa : w.shape? a.block = some (tA, kA)) (hkA : kA ≠ 0) (hsb : w.shape? b.block = some (tB, kB)) (hfb : w.frozen? b = false) (hfe : w.frozen? { block := b.block, off := kB } = false) :
    (Extern.SlicesOverlaps.overlaps #[tS, tS] #[tR] #[.slice (some a) la ca, .slice (some b) lb cb]).run P w = .ok (.bool false) w := by
  have hnb : (a.block != b.block) = true := by simpa using hne
  have hnb' : (a.block == b.block) = false := by simpa using hne
  change Sem.run P (α := Value) (do
    let some t := (#[tS, tS] : Array TypeId)[0]? | stuck "slices.overlaps: no parameter types"
    let .slice elem ← underlying t | stuck "slices.overlaps: slice type expected"
    let size ← sizeOf elem
    match (some a : Option Addr), (some b : Option Addr) with
    | some a, some b =>
      if la = 0 ∨ lb = 0 ∨ size = 0 then pure (Value.bool false)
      else if a.block != b.block && (← frozen a) && (← frozen b) then unsupported .addressObserved
      else do
        if a.block != b.block then do
          noView a; noView b
          if ← mayBeOne a b then return Value.bool ((← choose (.extern "sameAddr.stringBytes" 2)) == 1)
        pure (Value.bool (a.block == b.block && a.off < b.off + lb * size && b.off < a.off + la * size))
    | _, _ => pure (Value.bool false)) w = _
  by_cases h0 : la = 0 ∨ lb = 0 ∨ size = 0
  · simp [run_underlying ht, hz, h0]
  · cases kA with
    | zero => exact absurd rfl hkA
    | succ kA =>
      cases hfa : w.frozen? a <;> cases hfa2 : w.frozen? { block := a.block, off := kA + 1 } <;>
        simp [run_underlying ht, hz, h0, hnb, hnb', frozen, noView, viewAt, mayBeOne, stringish, shape, Sem.run, hsa, hsb, hfa, hfa2, hfb, hfe]
section
variable {E:Env} {s:St}
theorem zic {ops : Array Oper} {o : Oper} {cl : Call} {f : FuncId} {fn : Func} {tS tR e : TypeId} {d k es sz N m p lb cb : Nat} {get gv : Nat → List D} {L : Loc} (hkf : anyB (Nat.beq k) E.fx = true) (hL : E.φ0 k = some L)
    (hop : o.op = .call cl) (hd : o.dst = some d) (hw : z0l ops s o = some true) (hlt : Nat.blt d E.N = true) (hc : z78 s cl = some (f, 0, [])) (hx : argsL s cl 0 [] = some [.c (.view es m gv), .c (.raw (.slice (some ⟨L.blk, p, none⟩) lb cb))])
    (hf : E.P.funcs[f]? = some fn) (hname : (fn.name == "runtime.NumGoroutine") = false) (hb : fn.body.isNone = true) (hn : Extern.findNext fn = none) (he : Extern.find fn = some (Extern.SlicesOverlaps.overlaps #[tS, tS] #[tR])) (ht : E.P.underlying tS = some (.slice e)) (hsz : sizeT E.P e = some sz)
    (hk : look s.sl k = some (.vec es N get)) (hN : 0 < N) (hes : es ≠ 1) (hes0 : 0 < es) (hm : 0 < m) : One E ops o s (s.put d (.c (.d (.bool false)))) := fun a w hs => by
  obtain ⟨G, φ, h⟩ := hs
  refine ⟨z14 h hw, fun next Q hnx => ?_⟩
  obtain ⟨vs, hrun, hrel⟩ := zfw h hc hx o.type
  have hp : φ k = some L := by rw [h.fix k _ (z21.1 hkf) hk]; exact hL
  obtain ⟨_, h0 | ⟨l, g1, g2, hrow, hel⟩⟩ := h.sl _ _ hk
  · omega
  rw [hp] at g1
  cases g1
  obtain ⟨o1, o2, _⟩ := h.own k _ L hk hp
  match vs, hrel with
  | [va, vb], ⟨ha, hb', _⟩ =>
    have hvb : vb = .slice (some ⟨L.blk, p, none⟩) lb cb := hb'.1
    have ha1 : RelC G E.V φ w (.view es m gv) va := ha.1
    rcases ha1 with ⟨h1, _⟩ | ⟨b, off, cap, hgv, hva, _, _, hel2⟩
    · omega
    · have hne : b ≠ L.blk := fun e => by
        rcases hgv with g | g
        · exact o1 (e ▸ g)
        · exact o2 (e ▸ g)
      obtain ⟨e1, e2⟩ := hel2 0 hm
      obtain ⟨u, hu, _⟩ := e2 0 (by omega)
      obtain ⟨tA, kA, hsa, hkA⟩ := zfz hu
      obtain ⟨e3, e4⟩ := hel 0 hN
      obtain ⟨u', hu', _⟩ := e4 0 (by omega)
      obtain ⟨tB, kB, hsb, _⟩ := zfz hu'
      have hov := zfm (P := E.P) w tS tR e ht sz (fun w => z1r hsz w) ⟨b, off, none⟩ ⟨L.blk, p, none⟩ m cap lb cb hne hsa hkA hsb (hrow.2 hes _) (hrow.2 hes _)
      have hcf : (callFunc f ([va, vb] : List Value).toArray).run E.P w = .ok (.value (.bool false)) w := by
        rw [run_callFunc_extern hf hname hb hn he, hva, hvb]
        rw [hov]
        rfl
      unfold Oper.wp
      have hex : execOp a.eval o = (do let d ← resolve a.eval cl o.type; invoke d.target d.args : Sem Next) := by
        unfold execOp; rw [hop]
      rw [hex, hrun, hcf]
      simp only [Oper.upon, hd]
      exact hnx _ _ ⟨G, φ, h.put (zzk.mp hlt) (z0f (RelD.bool _) rfl)⟩
end
section
variable {E:Env} {s:St}
theorem ziu {P:Program}{w:World}{sT xT ty e:TypeId}{kx kn:IntKind}{es bs n r c:Nat}{A:Option Addr}{old:List Value}{zv:Value}
 (hu:P.underlying sT=some (.slice e)) (hx:P.underlying xT=some (.int kx)) (hsz:sizeT P e=some es) (hbs:z73 P e=some bs) (hbp:0<bs) (hb2:bs≤256) (hes:0<es)
 (ho: ∀w',w'.heap=w.heap→(Builtin.firstCells es n (.slice A n c)).run P w'= .ok old.toArray w') (hz: ∀w,(zeroValue e).run P w= .ok zv w) (hzs:zv.cells.size=es) (hr:0<r) (hno:c<n+r) (hlim:n+r≤lim) (hol:old.length=n*es):
 ∃(newCap:Nat) (vs:Array Value) (w':World),n+r≤newCap∧vs.size=newCap*es∧(∀k,k<n*es→vs[k]?=old[k]?)∧w'.heap=w.heap∧w'.os=w.os∧Tp w w'∧w'.output=w.output∧
  (Builtin.append_ #[sT,xT] ty #[.slice A n c,.int kn (r:Int)]).run P w= .ok (.slice (some ⟨w.heap.size,0,none⟩) (n+r) newCap) (w'.alloc (.cells vs e)):=by
 let q:Question:= .appendCap (n+r) c e
 let newCap:=q.cut (w.tape w.drawn q)
 have hge:n+r≤newCap:=Nat.le_add_right _ _;have hlimv:lim=274877906944:=rfl
 refine⟨newCap,old.toArray++Builtin.zeroCells zv.cells r++Builtin.zeroCells zv.cells (newCap-(n+r)),{w with drawn:=w.drawn+1},hge,?_,fun k hk=>?_,rfl,rfl,⟨rfl,Nat.le_succ _⟩,rfl,?_⟩
 ·simp only[Array.size_append,List.size_toArray,hol,Builtin.zeroCells,Array.size_map,Array.size_range,hzs];rw[←Nat.add_mul,←Nat.add_mul];congr 1;omega
 ·rw[Array.append_assoc,Array.getElem?_append_left (by simpa [hol]using hk)];simp
 ·have hinfo: ∀w,(typeInfo e).run P w= .ok ((P.info? e).getD zzd) w:=fun w=>by
   unfold sizeT at hsz;cases hi:P.info? e with
   |none=>simp[hi]at hsz
   |some i=>simp[typeInfo,hi]
  have hbytes:((P.info? e).getD zzd).bytes=bs:=by
   unfold z73 at hbs;cases hi:P.info? e with
   |none=>simp[hi]at hbs
   |some i=>simpa [hi]using hbs
  have hwr:zzi.wrap (r:Int)=(r:Int):=z23 (by omega) (by omega);have hlb: ¬((r:Int)*(bs:Int)>2^48):=by
   have h2:(r:Int)*(bs:Int)≤274877906944*256:=Int.mul_le_mul (by omega) (by omega) (by omega) (by omega);have:(274877906944:Int)*256≤2^48:=by decide
   omega
  have hbig: ¬(Builtin.nextslicecap (n+r) c*bs>2^48):=by
   have h1:=zcl hno;have h2:Builtin.nextslicecap (n+r) c≤2*lim+192:=by omega
   have h3:Builtin.nextslicecap (n+r) c*bs≤(2*lim+192)*256:=Nat.mul_le_mul h2 hb2;have h4:(2*lim+192)*256≤2^48:=by decide
   omega
  have hmax:zzi.max=9223372036854775807:=by decide
  have hask: ∀b w',(askRoom b).run P w'= .ok () w':=fun b w'=>by unfold askRoom;split<;>rfl
  have hch:(choose (.appendCap (n+r) c e)).run P w= .ok newCap {w with drawn:=w.drawn+1}:=rfl;have hold:=ho {w with drawn:=w.drawn+1} rfl
  have hn0: ¬r*es=0:=Nat.ne_of_gt (Nat.mul_pos hr hes);unfold Builtin.append_;simp only[List.getElem?_toArray,List.getElem?_cons_zero,List.getElem?_cons_succ,zz4,run_underlying hu,run_underlying hx,zz1,z1r hsz,zz9,if_true,asInt,asIntOf,hwr,hinfo,hbytes];rw[if_neg (by omega: ¬(r:Int)<0)];simp only[zz4,hinfo,zz1,zz9,hbytes];rw[if_neg hlb];simp only[zz4,zz1,zz9,zz8];rw[if_neg (by omega: ¬n+r≤c)];simp only[zz4,hinfo,zz1,hbytes];have hsmall: ¬(((n+r:Nat):Int)>zzi.max∧(True∨bs=0)):=by
   rintro⟨h,_⟩;rw[hmax]at h;omega
  rw[if_neg hsmall];simp only[zz4,hinfo,zz1,hbytes];rw[if_neg hbig];simp only[zz4,hch,zz1,hinfo,hask,hold,zzn,if_false,hn0,hz,z50,zz9,zzm]
theorem zip {ops:Array Oper}{o:Oper}{d k:Nat}{sT xT e:TypeId}{kx kn:IntKind}{es bs n r N:Nat}{b x:Operand}{get:Nat→List D}{z:List C}{L:Loc}(hkf:anyB (Nat.beq k) E.fx=true)(hL:E.φ0 k=some L)
 (hop:o.op= .call ⟨.builtin .append, #[b,x], #[sT,xT]⟩) (hw:z0l ops s o=some true) (hd:o.dst=some d) (hlt:Nat.blt d E.N=true) (hnr:s.noRef d=true)
 (hu:E.P.underlying sT=some (.slice e)) (hx:E.P.underlying xT=some (.int kx)) (hsz:sizeT E.P e=some es) (hbs:z73 E.P e=some bs) (hbp:Nat.blt 0 bs=true) (hb2:Nat.ble bs 256=true) (hes:Nat.blt 0 es=true) (hz:zeroCells E.P e=some z) (hze:Nat.beq z.length es=true)
 (hk:look s.sl k=some (.vec es N get)) (hN:0<N) (hb:evO s b=some (.c (.raw (.slice (some ⟨L.blk,L.off,none⟩) n L.cap)))) (hxv:evO s x=some (.c (.d (.int kn (r:Int))))) (hn:n≤N) (hr:0<r) (hno:L.cap<n+r) (hlim:n+r≤lim):
 One E ops o s ((s.slot d (.vec es n get)).put d (.c (.own d es 0 (n+r)))):=fun a w hs=>by
 obtain⟨G,φ,h⟩:=hs;refine⟨z14 h hw,fun next Q hnx=>?_⟩;have hp:φ k=some L:=by rw[h.fix k _ (z21.1 hkf) hk];exact hL
 have hbv:a.eval b= .slice (some ⟨L.blk,L.off,none⟩) n L.cap:=(h.ev hb).1;have hxe:a.eval x= .int kn (r:Int):=z3u (h.ev hxv)
 obtain⟨zv,z1,z2,z3⟩:=z42 hz;have hzs:zv.cells.size=es:=by rw[←zz5 hze,←z2];simp
 obtain⟨hNm,h0|⟨l,g1,g2,_,hel⟩⟩:=h.sl _ _ hk
 ·omega
 rw[hp]at g1;cases g1;have he0:z30 G w L.blk L.off es n get:=fun i hi=>hel i (by omega)
 obtain⟨old,u1,u2,u3,u4⟩:=za4 (P:=E.P) he0;obtain⟨newCap,vs,w1,c1,c2,c3,c4,c5,c6,c7,hrun⟩:=ziu (P:=E.P) (w:=w) (ty:=o.type) (kn:=kn) (A:=some ⟨L.blk,L.off,none⟩) (c:=L.cap) (old:=old) hu hx hsz hbs (zzk.mp hbp) (zzb hb2) (zzk.mp hes)
  (fun w' hw'=>by have:=u3 w' hw';simpa [Builtin.firstCells]using this) z1 hzs hr hno hlim u1
 have he:execOp a.eval o=(do pure (.value (←Builtin.append_ #[sT,xT] o.type #[a.eval b,a.eval x])):Sem Next):=by
  unfold execOp;rw[hop];simp[resolve,invoke,builtin]
 unfold Oper.wp;rw[he,hbv,hxe];simp only[zz4,hrun,zz1,zz9,Oper.upon,hd];have hw1:=h.world c4 c5 c6 c7
 have hcs1:z2g G w1 old es n get:=fun i hi=>by
  obtain⟨g1,g2⟩:=u2 i hi;refine⟨g1,fun j hj=>?_⟩;obtain⟨u,hu,hr⟩:=g2 j hj;exact⟨u,hu,hr.mono (fun b _=>by rw[c4]) fun _ h=>h⟩
 have:=hw1.newVec (k:=d) (h.notFx (zzk.mp hlt)) hnr e c2 (by omega) (by omega) (hcs1.ofPre fun q hq=>by simpa using c3 q hq);rw[←c4];exact hnx _ _ ⟨G,_,this.put (zzk.mp hlt) (z0f (.inr ⟨_,z3r _ _ _,(show 0+(n+r)≤newCap by omega),by simp⟩) rfl)⟩
theorem zhg {ops:Array Oper}{o:Oper}{k:Nat}{dT sT e:TypeId}{es N N' m p dn sn:Nat}{b x:Operand}{get get' get2:Nat→List D}
 (hop:o.op= .call ⟨.builtin .copy, #[b,x], #[dT,sT]⟩) (hw:z0l ops s o=some true) (hd:dstOk E.N o.dst=true) (hu:E.P.underlying dT=some (.slice e)) (hsz:sizeT E.P e=some es)
 (hk:look s.sl k=some (.vec es N get)) (hb:evO s b=some (.c (.own k es p dn))) (hdn:0<dn) (hmn:Nat.min sn dn=m)
 (hsrc: ∀{G:Nat→Prop} {φ:Nat→Option Loc} {a:Act} {w:World},Sim E s G φ a w→ ∃(us:List Value) (A':Option Addr) (c':Nat),a.eval x= .slice A' sn c'∧us.length=m*es∧z2g G w us es m get'∧(Builtin.firstCells es m (.slice A' sn c')).run E.P w= .ok us.toArray w∧ ∀u∈us,u.oneCell'=true)
 (hx:N'≤maxN) (hc:N'≤p+dn) (hg: ∀i,i<N'→(p≤i∧i<p+m∧get2 i=get' (i-p))∨((i<p∨p+m≤i)∧i<N∧get2 i=get i)):
 One E ops o s (putO (s.slot k (.vec es N' get2)) o.dst (.c (.d (.int .i64 (m:Int))))):=fun a w hs=>by
 obtain⟨G,φ,h⟩:=hs;refine⟨z14 h hw,fun next Q hnx=>?_⟩;obtain⟨us,A',c',u0,u1,u2,u3,u4⟩:=hsrc h;have hm:m≤dn:=by rw[←hmn];exact Nat.min_le_right _ _
 rcases(h.ev hb).1 with⟨h0,_⟩|⟨L,hL,hcap,hbv⟩
 ·omega
 obtain⟨t1,t2⟩:=h.storeAt (p:=p) (m:=m) (N':=N') (get':=get') (get2:=get2) hk hL (by omega) u1 (.inr u2) hx (by omega) hg u4;have he:execOp a.eval o=(do pure (.value (←Builtin.copy_ #[dT,sT] o.type #[a.eval b,a.eval x])):Sem Next):=by
  unfold execOp;rw[hop];simp[resolve,invoke,builtin]
 unfold Oper.wp;rw[he,hbv,u0];have hr:(Builtin.copy_ #[dT,sT] o.type #[.slice (some ⟨L.blk,L.off+p*es,none⟩) dn (L.cap-p),.slice A' sn c']).run E.P w= .ok (goInt m) (w.setCells L.blk (L.off+p*es) us):=by
  unfold Builtin.copy_;simp only[List.getElem?_toArray,List.getElem?_cons_zero,List.getElem?_cons_succ,zz4,run_underlying hu,zz1,z1r hsz,zz9,Builtin.lenOf,hmn,u3];simp[t1]
 simp only[zz4,hr,zz1,zz9,Oper.upon];refine hnx _ _ ⟨G,φ,?_⟩;cases hdd:o.dst with
 |none=>exact t2
 |some d=>
  rw[hdd]at hd;exact t2.put (zzk.mp hd) (z0f (RelD.int _ _) rfl)
end
end Go.Av
namespace Go.Av
open Go
section
variable {E:Env} {s:St}
theorem zjz {ops:Array Oper}{o:Oper}{t e:TypeId}{d k n es:Nat}{x:Operand}{lo hi mx:Option Operand}{l hh m:Int}(hop:o.op= .slice t x lo hi mx)(hw:z0l ops s o=some true)(hd:o.dst=some d)(hlt:Nat.blt d E.N=true)
 (hu:E.P.underlying t=some (.slice e)) (hsz:sizeT E.P e=some es) (hx:evO s x=some (.c (.own k es 0 n))) (hb:z5t n (lo.map (evO s)) (hi.map (evO s)) (mx.map (evO s))=some (l,hh,some m)) (hc:bndOk n l hh (some m)):
 One E ops o s (s.put d (.c .any)):=fun a w hs=>by
 obtain⟨G,φ,h⟩:=hs;refine⟨z14 h hw,fun next Q hn=>?_⟩;obtain⟨A,cap,hA,hcap⟩: ∃A cap,a.eval x= .slice A n cap∧n≤cap:=by
  rcases(h.ev hx).1 with⟨h0,A,e⟩|⟨L,_,h2,e⟩
  ·exact⟨A,0,by rw[e,h0],by omega⟩
  ·exact⟨_,_,e,by omega⟩
 obtain⟨M,hr,_⟩:=h.bnds (cap:=cap) (isS:=true) hb hc hcap;have hs:=z6h (P:=E.P) (w:=w) hu hsz A n cap _ _ _ _ _ _ hr
 unfold Oper.wp execOp;rw[hop];simp only[zz4,hA,hs,zz1,zz9,Oper.upon,hd];exact hn _ _ ⟨G,φ,h.put (zzk.mp hlt) trivial⟩
theorem Tri.loc {post:Exit→St→Prop}{c:Code}{k es n:Nat}{get:Nat→List D}(hk:look s.sl k=some (.vec es n get))(hf:anyB (Nat.beq k) E.fx=true)(hn:0<n)(h: ∀L,E.φ0 k=some L→n≤L.cap→Tri E c s post):Tri E c s post:=fun a w hs=>by
 obtain⟨G,φ,hh⟩:=hs;obtain⟨L,h1,_,h3⟩:=hh.loc hk hf hn;exact h L h1 h3 a w ⟨G,φ,hh⟩
theorem Tri.toRaw {post:Exit→St→Prop}{c:Code}{t k es n N:Nat}{get:Nat→List D}{L:Loc}(ht:look s.tm t=some (.c (.own k es 0 n)))(hk:look s.sl k=some (.vec es N get))(hf:anyB (Nat.beq k) E.fx=true)(hn:0<n)(hL:E.φ0 k=some L)
 (h:Tri E c ⟨(t,.c (.raw (.slice (some ⟨L.blk,L.off,none⟩) n L.cap)))::s.tm,s.sl⟩ post):Tri E c s post:=Tri.weaken (fun _ _ ⟨G,φ,hh⟩=>⟨G,φ,hh.toRaw ht hk hf hn hL⟩) h
theorem Tri.unRaw {post:Exit→St→Prop}{cd:Code}{t k n:Nat}{c:Slot}{L:Loc}(es:Nat)(hk:look s.sl k=some c)(hf:anyB (Nat.beq k) E.fx=true)(hL:E.φ0 k=some L)(ht:look s.tm t=some (.c (.raw (.slice (some ⟨L.blk,L.off,none⟩) n L.cap)))) (hn:n≤L.cap)
 (h:Tri E cd ⟨(t,.c (.own k es 0 n))::s.tm,s.sl⟩ post):Tri E cd s post:=Tri.weaken (fun _ _ ⟨G,φ,hh⟩=>⟨G,φ,hh.unRaw hk hf hL ht hn⟩) h
theorem zf2 {ops:Array Oper}{o:Oper}{t:TypeId}{d k es p0 n0 p' n':Nat}{x:Operand}{lo hi mx:Option Operand}{c:Prop}(hop:o.op= .slice t x lo hi mx)(hw:z0l ops s o=some true)(hd:o.dst=some d)(hlt:Nat.blt d E.N=true)
 (he:zen E.P t (evO s x) (lo.map (evO s)) (hi.map (evO s)) (mx.map (evO s))=some (.c (.own k es p0 n0),c)) (hc:c) (h1:p0=p') (h2:n0=n'):One E ops o s (s.put d (.c (.own k es p' n'))):=fun a w hs=>by
 subst h1 h2;obtain⟨G,φ,h⟩:=hs;refine⟨z14 h hw,fun next Q hn=>?_⟩;obtain⟨v,hr,hv⟩:=h.slice he hc;unfold Oper.wp execOp;rw[hop];simp only[zz4,hr,zz1,zz9,Oper.upon,hd];exact hn _ _ ⟨G,φ,h.put (zzk.mp hlt) hv⟩
theorem SrcOf.g {x:Operand}{y:AV}{es m sn:Nat}{get:Nat→List D}(hx:evO s x=some y)(hs:SrcOf s y es m get)(hsn:sn=m):
 ∀{G:Nat→Prop} {φ:Nat→Option Loc} {a:Act} {w:World},Sim E s G φ a w→ ∃(us:List Value) (A':Option Addr) (c':Nat),a.eval x= .slice A' sn c'∧us.length=m*es∧z2g G w us es m get∧(Builtin.firstCells es m (.slice A' sn c')).run E.P w= .ok us.toArray w∧ ∀u∈us,u.oneCell'=true:=fun{G φ a w} h=>by
 subst hsn;obtain⟨A,cap,hv,_,us,h1,h2,h3,h4⟩:=hs.load h (h.ev hx);refine⟨us,A,cap,hv,h1,h2,?_,h4⟩;have:=h3 w rfl
 rw[hv]at this;exact this
theorem znc {x:Operand}{k es N m q sn c:Nat}{get:Nat→List D}{L:Loc}{A:Option Addr}(hkf:anyB (Nat.beq k) E.fx=true)(hL:E.φ0 k=some L)(hk:look s.sl k=some (.vec es N get))(hN:0<N)(hx:evO s x=some (.c (.raw (.slice A sn c)))) (hq:q+m≤N) (hA:0<m→A=some ⟨L.blk,L.off+q*es,none⟩):
 ∀{G:Nat→Prop} {φ:Nat→Option Loc} {a:Act} {w:World},Sim E s G φ a w→ ∃(us:List Value) (A':Option Addr) (c':Nat),a.eval x= .slice A' sn c'∧us.length=m*es∧z2g G w us es m (fun i=>get (q+i))∧(Builtin.firstCells es m (.slice A' sn c')).run E.P w= .ok us.toArray w∧ ∀u∈us,u.oneCell'=true:=fun{G φ a w} h=>by
 have hp:φ k=some L:=by rw[h.fix k _ (z21.1 hkf) hk];exact hL
 obtain⟨us,h1,h2,h3,h4⟩:=h.loadAt (c:=c) hk hp hN hq hA;refine⟨us,A,c,(h.ev hx).1,h1,h2,?_,h4⟩;have e:Builtin.firstCells es m (.slice A sn c)=Builtin.firstCells es m (.slice A m c):=by cases A<;>rfl
 rw[e];exact h3
theorem z4a {ops:Array Oper}{o:Oper}{t e:TypeId}{d n c nn es h' c':Nat}{A A':Option Addr}{x:Operand}{lo hi mx:Option Operand}{l hh:Int}(hop:o.op= .slice t x lo hi mx)(hw:z0l ops s o=some true)(hd:o.dst=some d)(hlt:Nat.blt d E.N=true)
 (hu:E.P.underlying t=some (.slice e)) (hsz:sizeT E.P e=some es) (hx:evO s x=some (.c (.raw (.slice A n c)))) (hb:z5t nn (lo.map (evO s)) (hi.map (evO s)) (mx.map (evO s))=some (l,hh,none)) (hc:bndOk nn l hh none) (hnn:nn≤c) (hq:nn=n∨hi.isSome=true)
 (h1:(if c=l.toNat then A else A.map (·.add (l.toNat*es)))=A') (h2:hh.toNat-l.toNat=h') (h3:c-l.toNat=c'):
 One E ops o s (s.put d (.c (.raw (.slice A' h' c')))):=by
 subst h1 h2 h3;exact zl9 hop hw hd hlt hu hsz hx hb hc hnn hq
end
theorem zp9 {X:Type}[Inhabited X](enc:X→List D)(l:List X){i j x:Nat}(hi:i≤j)(hj:j≤l.length)(hx:x<i+(l.length-j)):
 enc ((l.take i++l.drop j).getD x zzd)=(if i≤x∧x<i+(l.length-j)then(fun i=>enc (l.getD i zzd)) (j+(x-i))else(fun i=>enc (l.getD i zzd)) x):=by
 have hl:(l.take i).length=i:=by rw[zzp];omega
 by_cases h:x<i
 ·rw[if_neg (by omega)];simp only[List.getD_eq_getElem?_getD];rw[List.getElem?_append_left (by omega),List.getElem?_take,if_pos h]
 ·rw[if_pos ⟨by omega,hx⟩];simp only[List.getD_eq_getElem?_getD];rw[List.getElem?_append_right (by omega),List.getElem?_drop,hl]
def zcu {X:Type}(l:List X)(i j:Int):Option (List X):=need ((0:Int)≤i∧i≤j∧j≤(l.length:Int)) (some (l.take i.toNat++l.drop j.toNat))
def zcv {X:Type}(l:List X)(i:Int)(v:List X):Option (List X):=need ((0:Int)≤i∧i≤(l.length:Int)∧v.length=1∧l.length+v.length≤274877906944) (some (l.take i.toNat++v++l.drop i.toNat))
theorem zkt {X:Type}(l v:List X){i:Nat}(hi:i≤l.length):(l.take i++v++l.drop i).length=l.length+v.length:=by
 rw[zze,zze,zzp,List.length_drop];omega
theorem zks {X:Type}[Inhabited X](enc:X→List D)(l v:List X){i x:Nat}(hi:i≤l.length)(hv:v.length=1):
 enc ((l.take i++v++l.drop i).getD x zzd)=if x<i then enc (l.getD x zzd)else if x<i+1 then enc (v.getD (x-i) zzd)else enc (l.getD (x-1) zzd):=by
 have hl:(l.take i).length=i:=by rw[zzp];omega
 simp only[List.getD_eq_getElem?_getD];rw[List.append_assoc];by_cases h:x<i
 ·rw[if_pos h,List.getElem?_append_left (by omega),List.getElem?_take,if_pos h]
 ·rw[if_neg h,List.getElem?_append_right (by omega),hl];by_cases h2:x<i+1
  ·rw[if_pos h2,List.getElem?_append_left (by omega)]
  ·rw[if_neg h2,List.getElem?_append_right (by omega),List.getElem?_drop,show i+(x-i-v.length)=x-1 by omega]
end Go.Av
namespace Go.Av
open Go
structure Time where
 epoch:Int
 loop:Int×Int
 deriving Inhabited
def z02 (x:Time):List D:=[dU x.epoch,dU x.loop.1,dU x.loop.2]
abbrev cTime (x:Time):List C:=[.d (dU x.epoch),.d (dU x.loop.1),.d (dU x.loop.2)]
def z1o (x y:Time):Bool:=(decide (x.epoch=y.epoch) && ((decide (x.loop.1=y.loop.1) && (decide (x.loop.2=y.loop.2) && true)) && true))
def z5r (p0:Int):Option Bool:=
 some (!decide (p0=p0))
def z3f (p0:Int)(p1:Int):Option Int:=
 (z5r p0).bind fun r1=>(z5r p1).bind fun r2=>bf r1 (bf r2 (some 0) (some (-1))) (bf r2 (some 1) (bf (decide (p0<p1)) (some (-1)) (bf (decide (p1<p0)) (some 1) (some 0))))
def z1z (p0:List Int)(p1:List Int):Option Int:=
 outK (z0j (S:=Unit) (R:=Int) (fun i1 (a2:Unit)=>bf (decide ((p1.length:Int)≤((i1:Nat):Int))) (some (.ret 1)) (need ((0:Int)≤((i1:Nat):Int)∧((i1:Nat):Int)<(p1.length:Int))<|(z3f (p0.getD i1 zzd) (p1.getD i1 zzd)).bind fun r5=>bf (!decide (r5=0)) (some (.ret r5)) (some (.next ())))) p0.length 0 ()) (fun(a3:Unit)=>bf (decide ((p0.length:Int)<(p1.length:Int))) (some (-1)) (some 0)) (fun x=>some x)
def z5i (p0:List Int):Option Int:=
 outK (z0j (S:=Unit) (R:=Int) (fun i1 (a2:Unit)=>bf (!decide ((p0.getD i1 zzd)=0)) (some (.ret (p0.getD i1 zzd))) (some (.next ()))) p0.length 0 ()) (fun(a3:Unit)=>some 0) (fun x=>some x)
def z6u (p0:Time)(p1:Time):Option Int:=
 bf (decide (p0.loop.1=p1.loop.1) && (decide (p0.loop.2=p1.loop.2) && true)) ((z3f p0.epoch p1.epoch).bind fun r1=>some r1) ((z3f p0.epoch p1.epoch).bind fun r2=>(z1z ([p0.loop.1,p0.loop.2]:List Int) ([p1.loop.1,p1.loop.2]:List Int)).bind fun r3=>(z5i ([r2,r3]:List Int)).bind fun r4=>some r4)
end Go.Av
/-
 Av,part V:of loops,without any program.
-/
namespace Go.Av
section
variable {S R Q A X:Type}
theorem        za8 {B : Nat → S → Option (Ctl S R)} {n : Nat} (I : Nat → S → Prop) {s : S} (h0 : I 0 s) (hs : ∀ i s, i < n → I i s → ∃ s', B i s = some (.next s') ∧ I (i + 1) s') :
    ∃ s',    z0j B n 0 s = some (.done s') ∧ I n s' := by
  have key : ∀ k i s, i + k = n → I i s → ∃ s',    z0j B k i s = some (.done s') ∧ I n s' := by
    intro k
    induction k with
    | zero => intro i s hi h; exact ⟨s, rfl, by have : i = n := by omega
                                                subst this; exact h⟩
    | succ k ih =>
      intro i s hi h
      obtain ⟨s', h1, h2⟩ := hs i s (by omega) h
      obtain ⟨s2, h3, h4⟩ := ih (i + 1) s' (by omega) h2
      exact ⟨s2, by simp only [   z0j, h1, h3], h4⟩
  exact key n 0 s (by omega) h0
theorem z5n {B:Nat→S→Option (Ctl S R)}{n:Nat}{s:S}(r:S)(I:Nat→S→Prop)(hr: ∀s,I n s→s=r)(hs: ∀i s,i<n→I i s→ ∃s',B i s=some (.next s')∧I (i+1) s')(h0:I 0 s):
 z0j B n 0 s=some (.done r):=by
 obtain⟨s',h1,h2⟩:=za8 I h0 hs;rw[h1,hr s' h2]
theorem         zka {B : Nat → S → Option (Ctl S R)} {n : Nat} (I : Nat → S → Prop) (D : S → Prop) (J : R → Prop) {s : S} (h0 : I 0 s)
    (hs : ∀ i s, i < n → I i s → (∃ s', B i s = some (.next s') ∧ I (i + 1) s') ∨ (∃ s', B i s = some (.brk s') ∧ D s') ∨ ∃ r, B i s = some (.ret r) ∧ J r) (hD : ∀ s, I n s → D s) :
    (∃ s',    z0j B n 0 s = some (.done s') ∧ D s') ∨ ∃ r,    z0j B n 0 s = some (.ret r) ∧ J r := by
  have key : ∀ k i s, i + k = n → I i s → (∃ s',    z0j B k i s = some (.done s') ∧ D s') ∨ ∃ r,    z0j B k i s = some (.ret r) ∧ J r := by
    intro k
    induction k with
    | zero => intro i s hi h; exact .inl ⟨s, rfl, by have : i = n := by omega
                                                     subst this; exact hD s h⟩
    | succ k ih =>
      intro i s hi h
      rcases hs i s (by omega) h with ⟨s', h1, h2⟩ | ⟨s', h1, h2⟩ | ⟨r, h1, h2⟩
      · rcases ih (i + 1) s' (by omega) h2 with ⟨s2, h3, h4⟩ | ⟨r, h3, h4⟩
        · exact .inl ⟨s2, by simp only [   z0j, h1, h3], h4⟩
        · exact .inr ⟨r, by simp only [   z0j, h1, h3], h4⟩
      · exact .inl ⟨s', by simp only [   z0j, h1], h2⟩
      · exact .inr ⟨r, by simp only [   z0j, h1], h2⟩
  exact key n 0 s (by omega) h0
theorem z33 [Inhabited X]{l:List X}{i:Nat}(h:i<l.length):l.take (i+1)=l.take i++[l.getD i zzd]:=by
 rw[List.take_add_one,List.getElem?_eq_getElem h,List.getD_eq_getElem?_getD,List.getElem?_eq_getElem h];rfl
theorem z2b [Inhabited X]{l:List X}{i:Nat}(h:i<l.length):l.getD i zzd∈l:=by
 rw[List.getD_eq_getElem?_getD,List.getElem?_eq_getElem h];exact List.getElem_mem h
@[simp] theorem z6e {s:S} {kn:S→Option Q} {kr:R→Option Q}:outK (some (.done s)) kn kr=kn s:=rfl
@[simp] theorem zqq {r:R} {kn:S→Option Q} {kr:R→Option Q}:outK (some (.ret r)) kn kr=kr r:=rfl
@[simp] theorem z44 {x y:Option Q}:bf true x y=x:=rfl
@[simp] theorem z17 {x y:Option Q}:bf false x y=y:=rfl
theorem z0b {c:Prop}[Decidable c]{k:Option Q}(h:c):need c k=k:=by unfold need;rw[if_pos h]
@[simp] theorem jn_eq {j:A→Option Q} {k:(A→Option Q)→Option Q}:jn j k=k j:=rfl
@[simp] theorem z0d {p:Prop} [Decidable p] {x y:Option Q}:bf (decide p) x y=if p then x else y:=by by_cases h:p<;>simp[h,bf]
@[simp] theorem z2h {b:Bool} {x y:Option Q}:bf (!b) x y=bf b y x:=by cases b<;>rfl
end
end Go.Av
/-
 Numbers and bits:without any program.
-/
namespace Go.Av
open Go
theorem zfr (n:Int):zzu.wrap n=n % 18446744073709551616:=by simp[IntKind.wrap,IntKind.bits,IntKind.signed]
theorem zcz (n:Int):zzi.wrap n=if n % 18446744073709551616≥9223372036854775808 then n % 18446744073709551616-18446744073709551616 else n % 18446744073709551616:=by
 simp[IntKind.wrap,IntKind.bits,IntKind.signed]
def in64 (x:Int):Prop:= -9223372036854775808≤x∧x<9223372036854775808
def inU64 (x:Int):Prop:=0≤x∧x<18446744073709551616
theorem zfe {x:Int}(h:in64 x):zzi.wrap x=x:=by
 unfold in64 at h;rw[zcz];split<;>omega
theorem shr63 {x:Int}(h:in64 x):shrOp .i64 x 63=if x<0 then -1 else 0:=by
 unfold in64 at h;unfold shrOp;have e:(2:Int)^(min (63:Int).toNat zzi.bits)=9223372036854775808:=by decide
 rw[e,Int.fdiv_eq_ediv_of_nonneg _ (by decide)];split<;>omega
theorem zer (k:IntKind)(n m:Nat)(hm:m≤k.bits):shrOp k (n:Int) (m:Int)=((n / 2^m:Nat):Int):=by
 unfold shrOp;rw[zz8,Nat.min_eq_left hm,Int.fdiv_eq_ediv_of_nonneg _ (by exact Int.le_of_lt (Int.pow_pos (by decide)))]
 push_cast
 rfl
theorem uwrap {k:IntKind}(hs:k.signed=false){n:Nat}(h:n<2^k.bits):k.wrap (n:Int)=(n:Int):=by
 unfold IntKind.wrap;simp only[hs,Bool.false_and,zzm,if_false];have:((2:Int)^k.bits)=((2^k.bits:Nat):Int):=by push_cast;rfl
 rw[this];exact Int.emod_eq_of_lt (by omega) (by exact_mod_cast h)
theorem zpw {k:IntKind}(n m:Nat)(hm:m≤k.bits):shlOp k (n:Int) (m:Int)=k.wrap ((n*2^m:Nat):Int):=by
 unfold shlOp;rw[zz8,Nat.min_eq_left hm]
 push_cast
 rfl
end Go.Av
/-
 Orders,as comparisons with three answers:without any program.
-/
namespace Go.Av
open Go
structure IsCmp {α:Type} (c:α→α→Int):Prop where
 vals: ∀a b,c a b= -1∨c a b=0∨c a b=1
 anti: ∀a b,c b a= - c a b
 tr: ∀a b d,c a b≤0→c b d≤0→c a d≤0
namespace IsCmp
variable {α β:Type} {c:α→α→Int}
theorem refl (h:IsCmp c)(a:α):c a a=0:=by have:=h.anti a a;omega
theorem lt_tr (h:IsCmp c){a b d:α}(h1:c a b<0)(h2:c b d≤0):c a d<0:=by
 have:=h.tr a b d (by omega) h2;rcases h.vals a d with g|g|g
 ·omega
 ·have g1:=h.anti a d;have g2:=h.tr b d a h2 (by omega)
  have g3:=h.anti a b;omega
 ·omega
theorem le_lt (h:IsCmp c){a b d:α}(h1:c a b≤0)(h2:c b d<0):c a d<0:=by
 have:=h.tr a b d h1 (by omega);rcases h.vals a d with g|g|g
 ·omega
 ·have g1:=h.anti a d;have g2:=h.tr d a b (by omega) h1
  have g3:=h.anti b d;omega
 ·omega
theorem eqL (h:IsCmp c){a b:α}(d:α)(h1:c a b=0):c a d=c b d:=by
 have h2:=h.anti a b;have t1:=h.tr a b d (by omega)
 have t2:=h.tr b a d (by omega);have t3:=h.tr d a b
 have t4:=h.tr d b a;have a1:=h.anti a d
 have a2:=h.anti b d;rcases h.vals a d with g|g|g<;>rcases h.vals b d with k|k|k<;>omega
theorem eqR (h:IsCmp c){a b:α}(d:α)(h1:c a b=0):c d a=c d b:=by
 have:=h.eqL d h1;have a1:=h.anti a d
 have a2:=h.anti b d;omega
theorem symm0 (h:IsCmp c){a b:α}(h1:c a b=0):c b a=0:=by have:=h.anti a b;omega
theorem on (h:IsCmp c)(f:β→α):IsCmp fun x y=>c (f x) (f y):=⟨fun a b=>h.vals _ _,fun a b=>h.anti _ _,fun a b d=>h.tr _ _ _⟩
end IsCmp
def cmpZ (a b:Int):Int:=if a<b then -1 else if b<a then 1 else 0
theorem z79:IsCmp cmpZ where
 vals a b:=by unfold cmpZ;split<;>(try split)<;>simp
 anti a b:=by unfold cmpZ;split<;>(try split)<;>(try split)<;>(try split)<;>omega
 tr a b d:=by unfold cmpZ;split<;>(try split)<;>(try split)<;>(try split)<;>(try split)<;>(try split)<;>omega
theorem zhs {a b:Int}:cmpZ a b=0↔a=b:=by unfold cmpZ;split<;>(try split)<;>omega
def thenC (u v:Int):Int:=if u=0 then v else u
theorem IsCmp.lex {α:Type}{c d:α→α→Int}(hc:IsCmp c)(hd:IsCmp d):IsCmp fun a b=>thenC (c a b) (d a b) where
 vals a b:=by
  unfold thenC;split
  ·exact hd.vals a b
  ·exact hc.vals a b
 anti a b:=by
  have h1:=hc.anti a b;have h2:=hd.anti a b
  unfold thenC;split<;>split<;>omega
 tr a b e h1 h2:=by
  unfold thenC at*;by_cases g1:c a b=0<;>by_cases g2:c b e=0
  ·have:=hc.eqL e g1;rw[if_pos g1]at h1;rw[if_pos g2]at h2;rw[if_pos (by omega)];exact hd.tr a b e h1 h2
  ·have:=hc.eqL e g1;rw[if_neg g2]at h2;rw[if_neg (by omega)];omega
  ·have:=hc.eqR a g2;rw[if_neg g1]at h1;rw[if_neg (by omega)];omega
  ·rw[if_neg g1]at h1;rw[if_neg g2]at h2;have:=hc.lt_tr (a:=a) (b:=b) (d:=e) (by omega) h2
   rw[if_neg (by omega)];omega
def cmpL {α:Type}(c:α→α→Int):List α→List α→Int
 |[],[]=>0
 |[],_::_=> -1
 |_::_,[]=>1
 |a::x,b::y=>thenC (c a b) (cmpL c x y)
theorem IsCmp.list {α:Type}{c:α→α→Int}(h:IsCmp c):IsCmp (cmpL c) where
 vals:=by
  intro a;induction a with
  |nil=>intro b;cases b<;>simp[cmpL]
  |cons x a ih=>
   intro b;cases b with
   |nil=>simp[cmpL]
   |cons y b=>
    simp only[cmpL,thenC];split
    ·exact ih b
    ·exact h.vals x y
 anti:=by
  intro a;induction a with
  |nil=>intro b;cases b<;>simp[cmpL]
  |cons x a ih=>
   intro b;cases b with
   |nil=>simp[cmpL]
   |cons y b=>
    have h1:=h.anti x y;have h2:=ih b
    simp only[cmpL,thenC];split<;>split<;>omega
 tr:=by
  intro a;induction a with
  |nil=>intro b d _ _;cases d<;>simp[cmpL]
  |cons x a ih=>
   intro b d h1 h2;cases b with
   |nil=>simp[cmpL]at h1
   |cons y b=>
    cases d with
    |nil=>simp[cmpL]at h2
    |cons z d=>
     simp only[cmpL]at*;unfold thenC at*;by_cases g1:c x y=0<;>by_cases g2:c y z=0
     ·have:=h.eqL z g1;rw[if_pos g1]at h1;rw[if_pos g2]at h2;rw[if_pos (by omega)];exact ih b d h1 h2
     ·have:=h.eqL z g1;rw[if_neg g2]at h2;rw[if_neg (by omega)];omega
     ·have:=h.eqR x g2;rw[if_neg g1]at h1;rw[if_neg (by omega)];omega
     ·rw[if_neg g1]at h1;rw[if_neg g2]at h2;have:=h.lt_tr (a:=x) (b:=y) (d:=z) (by omega) h2
      rw[if_neg (by omega)];omega
def cmpU8 (a b:UInt8):Int:=cmpZ (a.toNat:Int) (b.toNat:Int)
theorem zo2:IsCmp cmpU8:=z79.on fun a:UInt8=>(a.toNat:Int)
theorem zd3: ∀x y:List UInt8,Op.bytesLess x y=decide (cmpL cmpU8 x y<0)
 |[],[]=>by simp[Op.bytesLess,cmpL]
 |[],_::_=>by simp[Op.bytesLess,cmpL]
 |_::_,[]=>by simp[Op.bytesLess,cmpL]
 |a::x,b::y=>by
  rw[Op.bytesLess,zd3 x y,cmpL];have e1:(a<b)↔(a.toNat:Int)<(b.toNat:Int):=by rw[UInt8.lt_iff_toNat_lt];omega
  have e2:(a=b)↔(a.toNat:Int)=(b.toNat:Int):=by rw[←UInt8.toNat_inj];omega
  unfold cmpU8 thenC cmpZ;rw[Bool.eq_iff_iff];simp only[Bool.or_eq_true,Bool.and_eq_true,decide_eq_true_eq,beq_iff_eq,e1,e2];by_cases h1:(a.toNat:Int)<(b.toNat:Int)
  ·simp[h1]
  ·by_cases h2:(b.toNat:Int)<(a.toNat:Int)
   ·simp[h1,h2];omega
   ·have:(a.toNat:Int)=(b.toNat:Int):=by omega
    simp[this]
theorem zf6: ∀x y:List UInt8,(x==y)=decide (cmpL cmpU8 x y=0)
 |[],[]=>by simp[cmpL]
 |[],_::_=>by simp[cmpL]
 |_::_,[]=>by simp[cmpL]
 |a::x,b::y=>by
  rw[List.cons_beq_cons,zf6 x y,cmpL];have e2:(a=b)↔(a.toNat:Int)=(b.toNat:Int):=by rw[←UInt8.toNat_inj];omega
  have e3:cmpU8 a b=0↔(a.toNat:Int)=(b.toNat:Int):=zhs;unfold thenC;rw[Bool.eq_iff_iff];simp only[Bool.and_eq_true,decide_eq_true_eq,beq_iff_eq,e2];by_cases h:cmpU8 a b=0
  ·rw[if_pos h];simp[e3.1 h]
  ·rw[if_neg h];constructor
   ·rintro⟨g,_⟩;exact absurd (e3.2 g) h
   ·intro g;exact absurd g h
def cmpS (a b:ByteArray):Int:=cmpL cmpU8 a.toList b.toList
theorem zeh:IsCmp cmpS:=zo2.list.on fun a:ByteArray=>a.toList
theorem zi7 (a b:ByteArray):strLt a b=decide (cmpS a b<0):=zd3 _ _
theorem zi6 (a b:ByteArray):strEq a b=decide (cmpS a b=0):=zf6 _ _
theorem zlz (a:ByteArray):strEq a a=true:=by unfold strEq;simp
theorem zie {a b:ByteArray}(h:a.toList=b.toList):a=b:=by
 rw[ByteArray.toList_eq,ByteArray.toList_eq]at h;cases a;cases b;simp at h;simp[h]
theorem zeb {a b:ByteArray}:strEq a b=true↔a=b:=by
 unfold strEq;rw[beq_iff_eq];exact⟨zie,fun h=>by rw[h]⟩
theorem zmg {a b:ByteArray}:cmpS a b=0↔a=b:=by
 rw[←zeb,zi6,decide_eq_true_eq]
theorem z0x {α:Type}[Inhabited α]{l:List α}{i:Nat}(h:i<l.length):l.drop i=l.getD i zzd::l.drop (i+1):=by
 rw[List.drop_eq_getElem_cons h,List.getD_eq_getElem?_getD,List.getElem?_eq_getElem h];rfl
theorem zp7 {α:Type}[Inhabited α]{c:α→α→Int}{p0 p1:List α}{B:Nat→Unit→Option (Ctl Unit Int)}{kn:Unit→Option Int}
 (hB: ∀i,i<p0.length→B i ()=if p1.length≤i then some (.ret 1)else if c (p0.getD i zzd) (p1.getD i zzd)=0 then some (.next ())else some (.ret (c (p0.getD i zzd) (p1.getD i zzd))))
 (hk:kn ()=some (if p0.length<p1.length then -1 else 0)):outK (z0j B p0.length 0 ()) kn (fun x=>some x)=some (cmpL c p0 p1):=by
 have key: ∀k i,i+k=p0.length→i≤p1.length→outK (z0j B k i ()) kn (fun x=>some x)=some (cmpL c (p0.drop i) (p1.drop i)):=by
  intro k;induction k with
  |zero=>
   intro i hi hle;simp only[z0j,z6e,hk];rw[zzl (by omega:p0.length≤i)];by_cases h:p0.length<p1.length
   ·rw[if_pos h,z0x (by omega:i<p1.length)];rfl
   ·rw[if_neg h,zzl (by omega:p1.length≤i)];rfl
  |succ k ih=>
   intro i hi hle;simp only[z0j,hB i (by omega)];rw[z0x (by omega:i<p0.length)];by_cases h:p1.length≤i
   ·rw[if_pos h,zzl (by omega:p1.length≤i)];rfl
   ·rw[if_neg h,z0x (by omega:i<p1.length)];simp only[cmpL,thenC];by_cases h0:c (p0.getD i zzd) (p1.getD i zzd)=0
    ·rw[if_pos h0,if_pos h0];exact ih (i+1) (by omega) (by omega)
    ·rw[if_neg h0,if_neg h0];rfl
 exact key p0.length 0 (by omega) (by omega)
theorem zk8 {S R:Type}{B:S→Option (Ctl S R)}(f:Nat→S){n fuel:Nat}{z:S}(hf:n<fuel)(hs: ∀i,i<n→B (f i)=some (.next (f (i+1)))) (he:B (f n)=some (.brk z)):loopN B fuel (f 0)=some (.done z):=by
 have key: ∀k i fuel,i+k=n→k<fuel→loopN B fuel (f i)=some (.done z):=by
  intro k;induction k with
  |zero=>
   intro i fuel hi hf;have:i=n:=by omega
   subst this;cases fuel with
   |zero=>omega
   |succ fuel=>simp only[loopN,he]
  |succ k ih=>
   intro i fuel hi hf;cases fuel with
   |zero=>omega
   |succ fuel=>simp only[loopN,hs i (by omega)];exact ih (i+1) fuel (by omega) (by omega)
 exact key n 0 fuel (by omega) hf
end Go.Av
/-
 Av,part SF:slices.SortFunc at structs,out of the library's contract.
-/
namespace Go.Av
open Go Go.Shelf Go.RowKit Go.Proofs Go.Sort
theorem zkh {w w':World}{L:Nat→Prop}(h:Keep w.heap.size L w w')(hL: ∀b,¬L b): ∃q os,w'=grow (w.drewN q) os:=by
 refine⟨w'.drawn-w.drawn,w'.heap.extract w.heap.size w'.heap.size,?_⟩;have hh:w'.heap=w.heap++w'.heap.extract w.heap.size w'.heap.size:=by
  apply Array.ext_getElem?;intro i;rw[Array.getElem?_append];split
  ·rename_i hi
   exact h.block i hi (hL i)
  ·rename_i hi
   rw[Array.getElem?_extract];split
   ·congr 1;omega
   ·exact Array.getElem?_eq_none (by omega)
 have hd:w.drawn+(w'.drawn-w.drawn)=w'.drawn:=by have:=h.tape.2;omega
 cases w;cases w';simp only[grow,World.drewN,World.mk.injEq];exact⟨hh,h.tape.1,hd.symm,h.os,h.output⟩
structure Flat {α:Type} (k:Nat) (eD:α→List D) (eV:α→List Go.Value):Prop where
 ld: ∀x,(eD x).length=k
 lv: ∀x,(eV x).length=k
 to: ∀G w x j v,j<k→RelD G w (D.at (eD x) j) v→v=(eV x)[j]!
 of: ∀G w x j,j<k→RelD G w (D.at (eD x) j) ((eV x)[j]!)
theorem Flat.relCs {α:Type}{k:Nat}{eD:α→List D}{eV:α→List Go.Value}(h:Flat k eD eV)(G V:Nat→Prop)(φ:Nat→Option Loc)(w:World)(x:α):
 RelCs (RelC G V φ w) ((eD x).map C.d) (eV x):=by
 have key: ∀(ds:List D) (vs:List Go.Value),ds.length=vs.length→(∀j,j<ds.length→RelD G w (D.at ds j) (vs[j]!))→RelCs (RelC G V φ w) (ds.map C.d) vs:=by
  intro ds;induction ds with
  |nil=>intro vs hl _;cases vs with|nil=>trivial|cons=>cases hl
  |cons d ds ih=>
   intro vs hl hr;cases vs with
   |nil=>cases hl
   |cons v vs=>
    refine⟨hr 0 (by simp),ih vs (by simpa using hl) fun j hj=>?_⟩;have:=hr (j+1) (by simpa using hj)
    simpa [D.at]using this
 exact key _ _ (by rw[h.ld,h.lv]) fun j hj=>h.of G w x j (by rw[←h.ld x];exact hj)
theorem zi5 {α:Type}[Inhabited α]{G V:Nat→Prop}{φ:Nat→Option Loc}{w:World}{s k:Nat}{eD:α→List D}{l:List α}(h:z4k G V φ w s (vL k eD l))
 (ho: ∀lc,φ s=some lc→ ¬G lc.blk∧lc.blk<w.heap.size):SlotsOk G (fun _=>False) φ w [(s,vL k eD l)]:=by
 have hk: ∀{k':Nat} {c:Slot},look [(s,vL k eD l)] k'=some c→k'=s∧c=vL k eD l:=fun{k' c} h=>by
  rw[z0y]at h;split at h
  ·rename_i e;cases h;exact⟨e.symm,rfl⟩
  ·cases h
 exact⟨fun k' c h'=>by obtain⟨rfl,rfl⟩:=hk h';exact h,fun k' k'' c c' l l' h' h'' _ _ _=>by rw[(hk h').1,(hk h'').1],fun k' c lc h' h''=>by obtain⟨rfl,rfl⟩:=hk h';exact ho lc h''⟩
def sortL {α:Type}(cf:α→α→Int)(l:List α):List α:=l.mergeSort fun x y=> !(ltOf cf) y x
theorem zkd {P : Program} {ρ : Ren} {α : Type} [Inhabited α] (L : SlLaysF0.n6 P ρ) {k : Nat} (aE : ∀ w, (isAgg (ρ.t 24)).run P w = .ok true w) (zE : ∀ w, (Go.sizeOf (ρ.t 24)).run P w = .ok k w)
    {eD : α → List D} {eV : α → List Go.Value} (hF : Flat k eD eV) (hk1 : 1 < k) {cf : α → α → Int} (hO : SWO (ltOf cf)) (hT : ∀ x y, (ltOf cf) x y = false → (ltOf cf) y x = false → x = y)
    {g : Nat} {fn : Func} {c : Code} (hf : P.funcs[g]? = some fn) (hb : fn.body = some c) (hn : (fn.name == "runtime.NumGoroutine") = false) (hS : ∀ x y, Summ P g [.agg ((eD x).map C.d), .agg ((eD y).map C.d)] [] (cD (.int .i64 (cf x y))) []) (l : List α) :
    Summ P (ρ.f 6) [.c (oC 5000 k l), cD (.fn g [])] [(5000, vL k eD l)] (.tup []) [(5000, vL k eD (sortL cf l))] := by
  have h1 : ∀ x, ∀ v ∈ eV x, v.oneCell' = true := fun x v hv => by
    obtain ⟨j, hj, rfl⟩ := List.getElem_of_mem hv
    have := (hF.of (fun _ => False) ⟨#[], zzd, 0, zzd, zzd⟩ x j (by rw [← hF.lv x]; exact hj)).one
    rwa [getElem!_pos (eV x) j hj] at this
  have eg : ∀ args w, (callFunc g args).run P w = .ok (.enter g args) w := fun args w => by
    simp only [callFunc, zz4]
    show Sem.run P (match P.funcs[g]? with | none => _ | some fn => _) w = _
    rw [hf]
    simp [hn, hb]
  have hcmp : ∀ (W : World) (x y : α), Calls P g (#[.agg (eV x).toArray, .agg (eV y).toArray] ++ #[]) W fun e w' => e = .returned (.int .i64 (cf x y)) ∧ ∃ q os', w' = grow (W.drewN q) os' := fun W x y => by
    have hb0 : ∀ b, ¬ Blks (fun _ => none) [] b := fun b ⟨k, c, l, hk, _⟩ => by cases hk
    have h := hS x y (fun _ => False) (fun _ => none) W [.agg (eV x).toArray, .agg (eV y).toArray] (fun _ h => h.elim) ⟨(fun _ _ h => by cases h), (fun _ _ _ _ _ _ h => by cases h), (fun _ _ _ h => by cases h)⟩
      ⟨⟨_, rfl, by simpa using hF.relCs _ _ _ W x, by simpa using h1 x⟩, ⟨_, rfl, by simpa using hF.relCs _ _ _ W y, by simpa using h1 y⟩, trivial⟩
    unfold Acts at h
    rw [eg] at h
    refine h.mono fun e w' ⟨v, G', φ', he, hd⟩ => ?_
    have hr : RelD G' w' (.int .i64 (cf x y)) v := hd.rel.1
    cases hr
    exact ⟨he, zkh hd.kp hb0⟩
  have en : ∀ args w, (callFunc (ρ.f 6) args).run P w = .ok (.enter (ρ.f 6) args) w := fun args w => L.f6.enters rfl args w
  intro G φ w vs hG hsl hargs
  unfold Acts
  rw [en]
  simp only
  match vs, hargs with
  | [a, b], ⟨ha, hb, _⟩ =>
    have hb : RelD G w (.fn g []) b := hb.1
    cases hb with
    | fn _ _ us hl _ =>
    obtain rfl : us = [] := zza hl.symm
    have hs0 := hsl.rel 5000 (vL k eD l) rfl
    have hle : (sortL cf l).length = l.length := (List.mergeSort_perm l _).length_eq
    rcases ha.1 with ⟨h0, A, rfl⟩ | ⟨lc, hφ, hcap, rfl⟩
    · obtain rfl := zza h0
      refine (Go.Proofs.AnyF.slices_SortFunc_none L A 0 (.func (.func g) #[] #[]) w).mono fun e w' ⟨h3, h4⟩ => ?_
      subst h4
      refine ⟨_, G, φ, h3, ?_⟩
      have e0 : sortL cf ([] : List α) = [] := zza hle
      rw [e0]
      exact
      { up := fun _ h => h
        fr := fun _ h => .inl h
        sz := hG
        rel := ⟨#[], rfl, trivial⟩
        slots := zi5 hs0 fun lc hl => hsl.own 5000 _ lc rfl hl
        blk := fun k c l h1 h2 => .inl ⟨k, c, l, h1, h2, rfl⟩
        kp := Keep.refl _ _ _
        fix := fun _ _ _ _ _ => rfl }
    · obtain ⟨hm, hs⟩ := hs0
      have hown := hsl.own 5000 (vL k eD l) lc rfl hφ
      obtain ⟨lc', hφ', hcap', hrow, hel⟩ : ∃ lc', φ 5000 = some lc' ∧ l.length ≤ lc'.cap ∧ Rowed k w lc'.blk lc'.off (lc'.cap * k) ∧ z30 G w lc'.blk lc'.off k l.length (fun i => eD (l.getD i zzd)) := by
        rcases hs with ⟨h0, _⟩ | hs
        · rw [hφ] at h0; cases h0
        · exact hs
      rw [hφ] at hφ'
      cases hφ'
      have hfz : ∀ x, w.frozen? ⟨lc.blk, x, none⟩ = false := hrow.2 (by omega)
      have k0 : 0 < k := by omega
      have hcell : ∀ i j, i < l.length → j < k → w.cell? ⟨lc.blk, lc.off + i * k + j, none⟩ = some (eV (l.getD i zzd))[j]! := fun i j hi hj => by
        obtain ⟨u, hu, hr⟩ := (hel i hi).2 j (by rw [(hel i hi).1]; exact hj)
        rw [hu, hF.to _ _ _ _ _ hj hr]
      have hH : HoldsK eV k w lc.blk lc.off l.toArray := fun j hj => by
        rw [size_flatK, List.size_toArray] at hj
        have hi : j / k < l.length := Nat.div_lt_of_lt_mul (by rw [Nat.mul_comm]; exact hj)
        have hq : lc.off + j / k * k + j % k = lc.off + j := by rw [Nat.add_assoc, Nat.mul_comm, Nat.div_add_mod]
        refine ⟨?_, hfz _⟩
        rw [get_flatK _ _ _ _ (by rw [List.size_toArray]; exact hj), ← hq, hcell _ _ hi (Nat.mod_lt _ k0)]
        simp [List.getD_eq_getElem?_getD]
      have hT' := Go.Proofs.AnyQ.slices_SortFunc_total L k aE zE eV hF.lv h1 cf hO g #[] lc.blk lc.off (lc.cap - 0) l.toArray w eg (fun m os dk _ x y => hcmp _ x y) hH hown.2 (by rw [List.size_toArray]; unfold maxN at hm; omega) hT
      rw [List.size_toArray] at hT'
      rw [Nat.zero_mul, Nat.add_zero]
      refine hT'.mono fun e w' ⟨he, n, os, hw⟩ => ⟨_, G, φ, he, ?_⟩
      change w' = sortWorldK eV k w lc.blk lc.off n (sortL cf l).toArray os at hw
      have hp : lc.blk < (Sort.ahead w n).heap.size := hown.2
      have hpw : lc.blk < (putRowK eV k (Sort.ahead w n) lc.blk lc.off (sortL cf l).toArray).heap.size := by
        unfold putRowK putRow mapBlock; rw [Array.size_modify]; exact hown.2
      have hsz : w'.heap.size = w.heap.size + os.size := by
        rw [hw]; unfold sortWorldK putRowK putRow mapBlock; rw [size_grow, Array.size_modify]; rfl
      have hfr : ∀ x, w'.frozen? ⟨lc.blk, x, none⟩ = false := fun x => by
        rw [hw]; unfold sortWorldK; rw [frozen?_grow _ _ _ hpw]; unfold putRowK; rw [frozen?_putRow]; exact hfz x
      have hce : ∀ i j, i < l.length → j < k → w'.cell? ⟨lc.blk, lc.off + i * k + j, none⟩ = some (eV ((sortL cf l).getD i zzd))[j]! := fun i j hi hj => by
        have hh := holdsK_putRowK eV k (Sort.ahead w n) lc.blk lc.off l.toArray (sortL cf l).toArray hH (by simp [hle])
        rw [hw]; unfold sortWorldK; rw [cell?_grow _ _ _ hpw, (hh.cell (i := i) (c := j) (by simpa [hle] using hi) hj).1]
        simp [List.getD_eq_getElem?_getD]
      have hoth : ∀ x, (x < lc.off ∨ lc.off + l.length * k ≤ x) → w'.cell? ⟨lc.blk, x, none⟩ = w.cell? ⟨lc.blk, x, none⟩ := fun x hx => by
        rw [hw]; unfold sortWorldK; rw [cell?_grow _ _ _ hpw]; unfold putRowK
        rw [cell?_putRow_other _ _ _ _ _ _ (.inr (by simpa [hle] using hx))]; rfl
      exact
      { up := fun _ h => h
        fr := fun _ h => .inl h
        sz := fun b hb => by rw [hsz]; exact Nat.lt_of_lt_of_le (hG b hb) (Nat.le_add_right _ _)
        rel := ⟨#[], rfl, trivial⟩
        slots := by
          refine zi5 (V := fun _ => False) ⟨by rw [hle]; exact hm, .inr ⟨lc, hφ, by rw [hle]; exact hcap', ⟨fun x hx => ⟨?_, hfr _⟩, fun _ => hfr⟩, ?_⟩⟩ fun lc' h' => ?_
          · by_cases hxl : x < l.length * k
            · have hi : x / k < l.length := Nat.div_lt_of_lt_mul (by rw [Nat.mul_comm]; exact hxl)
              have hq : lc.off + x / k * k + x % k = lc.off + x := by rw [Nat.add_assoc, Nat.mul_comm, Nat.div_add_mod]
              rw [← hq, hce _ _ hi (Nat.mod_lt _ k0)]; rfl
            · rw [hoth _ (.inr (by omega))]; exact (hrow.1 x hx).1
          · intro i hi
            rw [hle] at hi
            refine ⟨hF.ld _, fun j hj => ?_⟩
            rw [hF.ld] at hj
            exact ⟨_, hce i j hi hj, hF.of _ _ _ _ hj⟩
          · rw [hφ] at h'; cases h'
            exact ⟨hown.1, by rw [hsz]; exact Nat.lt_of_lt_of_le hown.2 (Nat.le_add_right _ _)⟩
        blk := fun k' c l' h1 h2 => by
          rw [z0y] at h1
          split at h1
          · rename_i e; subst e; exact .inl ⟨5000, _, l', rfl, h2, rfl⟩
          · cases h1
        kp := ⟨by rw [hw]; rfl, ⟨by rw [hw]; rfl, by rw [hw]; exact Nat.le_add_right _ _⟩, by rw [hw]; rfl, by rw [hsz]; exact Nat.le_add_right _ _, fun b hb hL => by
          have hne : b ≠ lc.blk := fun e => hL ⟨5000, _, lc, rfl, hφ, e⟩
          rw [hw]; unfold sortWorldK; rw [heap_grow_old _ _ (by unfold putRowK putRow mapBlock; rw [Array.size_modify]; exact hb)]
          unfold putRowK putRow mapBlock
          simp only [Array.getElem?_modify]
          rw [if_neg (Ne.symm hne)]; rfl⟩
        fix := fun _ _ _ _ _ => rfl }
end Go.Av
namespace Go.Av
open Go
def cmpT (a b:Time):Int:=
 if a.epoch<b.epoch then -1 else if b.epoch<a.epoch then 1 else if a.loop.1<b.loop.1 then -1 else if b.loop.1<a.loop.1 then 1 else if a.loop.2<b.loop.2 then -1 else if b.loop.2<a.loop.2 then 1 else 0
theorem zhr (x y:Int):z3f x y=some (if x<y then -1 else if y<x then 1 else 0):=by
 unfold z3f z5r;simp only[decide_true,zzn,zz0,z17,z0d];split
 ·rfl
 ·split<;>rfl
theorem zp6 (x1 x2 y1 y2:Int):z1z [x1,x2] [y1,y2]=some (if x1<y1 then -1 else if y1<x1 then 1 else if x2<y2 then -1 else if y2<x2 then 1 else 0):=by
 unfold z1z;simp only[zzq,List.length_nil,zzc,Nat.reduceAdd,z0j,zhr,z0d,z2h,zz0];by_cases h3:x1<y1<;>by_cases h4:y1<x1<;>by_cases h5:x2<y2<;>by_cases h6:y2<x2<;>simp[outK,need,h3,h4,h5,h6]
theorem zna (u v:Int):z5i [u,v]=some (if u=0 then v else u):=by
 unfold z5i;simp only[zzq,List.length_nil,zzc,Nat.reduceAdd,z0j,z0d,z2h];by_cases h1:u=0<;>by_cases h2:v=0<;>simp[outK,h1,h2]
theorem zq6 {p q:Bool}{A:Type}{x y:Option A}:bf (p && (q && true)) x y=bf p (bf q x y) y:=by cases p<;>cases q<;>rfl
theorem        zg1 (a b : Time) :            z6u a b = some (cmpT a b) := by
  unfold            z6u cmpT
  simp only [      zhr,     zp6,    zna,              zz0,    zq6,       z0d]
  by_cases h1 : a.epoch < b.epoch <;> by_cases h2 : b.epoch < a.epoch <;> by_cases h3 : a.loop.1 < b.loop.1 <;> by_cases h4 : b.loop.1 < a.loop.1 <;> by_cases h5 : a.loop.2 < b.loop.2 <;> by_cases h6 : b.loop.2 < a.loop.2 <;>
    by_cases h7 : a.loop.1 = b.loop.1 <;> by_cases h8 : a.loop.2 = b.loop.2 <;> simp [h1, h2, h3, h4, h5, h6, h7, h8] <;> omega
theorem zli (a b:Time):cmpT a b= -1∨cmpT a b=0∨cmpT a b=1:=by
 unfold cmpT
 repeat' split
 all_goals omega
theorem       zhp (a b : Time) : cmpT a b = - cmpT b a := by
  unfold cmpT
  by_cases h1 : a.epoch < b.epoch <;> by_cases h2 : b.epoch < a.epoch <;> by_cases h3 : a.loop.1 < b.loop.1 <;> by_cases h4 : b.loop.1 < a.loop.1 <;> by_cases h5 : a.loop.2 < b.loop.2 <;> by_cases h6 : b.loop.2 < a.loop.2 <;>
    simp [h1, h2, h3, h4, h5, h6] <;> omega
theorem Time.ext' {a b:Time}(h1:a.epoch=b.epoch)(h2:a.loop.1=b.loop.1)(h3:a.loop.2=b.loop.2):a=b:=by
 rcases a with⟨e,l1,l2⟩;rcases b with⟨e',l1',l2'⟩;simp at h1 h2 h3;simp[h1,h2,h3]
theorem zlj {a b:Time}(h:cmpT a b=0):a=b:=by
 unfold cmpT at h
 repeat' split at h
 all_goals first
  |omega
  |exact Time.ext' (by omega) (by omega) (by omega)
def ltT (x y:Time):Bool:=decide (cmpT x y<0)
theorem z5a {x y:Time}:ltT x y=true↔x.epoch<y.epoch∨(x.epoch=y.epoch∧(x.loop.1<y.loop.1∨(x.loop.1=y.loop.1∧x.loop.2<y.loop.2))):=by
 unfold ltT cmpT;rw[decide_eq_true_eq]
 repeat' split
 all_goals omega
theorem swoT:Sort.SWO ltT where
 irrefl x:=by
  cases h:ltT x x with
  |false=>rfl
  |true=>rw[z5a]at h;omega
 trans x y z h1 h2:=by
  rw[z5a]at*;omega
 ntrans x y z h1 h2:=by
  rw[←Bool.not_eq_true,z5a]at*;omega
def insT (x:Time):List Time→List Time
 |[]=>[x]
 |y::l=>if ltT y x=true then y::insT x l else x::y::l
def sortT:List Time→List Time
 |[]=>[]
 |x::l=>insT x (sortT l)
theorem zdy (x:Time): ∀l,(insT x l).Perm (x::l)
 |[]=> .refl _
 |y::l=>by
  unfold insT;split
  ·exact((zdy x l).cons y).trans (List.Perm.swap x y l)
  ·exact .refl _
theorem za9: ∀l,(sortT l).Perm l
 |[]=> .refl _
 |x::l=>(zdy x (sortT l)).trans ((za9 l).cons x)
theorem zf9 {x:Time}: ∀{l:List Time},(l.Pairwise fun x y=>ltT y x=false)→(insT x l).Pairwise fun x y=>ltT y x=false
 |[],_=>List.pairwise_singleton _ _
 |y::l,h=>by
  rw[List.pairwise_cons]at h;unfold insT;split
  ·rename_i hy
   refine List.pairwise_cons.2 ⟨fun z hz=>?_,zf9 h.2⟩;rcases zzj.1 ((zdy x l).mem_iff.1 hz)with rfl|hz
   ·rw[←Bool.not_eq_true,z5a];rw[z5a]at hy;omega
   ·exact h.1 z hz
  ·rename_i hy
   refine List.pairwise_cons.2 ⟨fun z hz=>?_,List.pairwise_cons.2 h⟩;rcases zzj.1 hz with rfl|hz
   ·exact Bool.not_eq_true _▸hy
   ·have h1:=h.1 z hz;rw[←Bool.not_eq_true,z5a]at*;omega
theorem ze9: ∀l,(sortT l).Pairwise fun x y=>ltT y x=false
 |[]=>List.Pairwise.nil
 |x::l=>zf9 (ze9 l)
theorem zoo (l:List Time):sortT l=sortL cmpT l:=by
 have h:=List.pairwise_mergeSort (le:=fun x y=> !(ltT y x)) (fun a b c h1 h2=>by
  have h1:=Bool.not_eq_true' _▸h1;have h2:=Bool.not_eq_true' _▸h2
  rw[Bool.not_eq_true']at*;rw[←Bool.not_eq_true,z5a]at*;omega) (fun a b=>by
  cases h1:ltT b a with
  |false=>rfl
  |true=>
   have h2:ltT a b=false:=by rw[←Bool.not_eq_true,z5a];rw[z5a]at h1;omega
   rw[h2];rfl) l
 refine List.Perm.eq_of_pairwise (fun a b _ _ h1 h2=>?_) (ze9 l) (h.imp fun h=>by simpa using h) ((za9 l).trans (List.mergeSort_perm l _).symm);exact Time.ext' (by rw[←Bool.not_eq_true,z5a]at h1 h2;omega) (by rw[←Bool.not_eq_true,z5a]at h1 h2;omega) (by rw[←Bool.not_eq_true,z5a]at h1 h2;omega)
def z1n (fuel:Nat)(l0:List Time):Option (List Time):=some (sortT l0)
theorem zkc {fuel:Nat}{l:List Time}(hl:l.length<1152921504606846976)(hf:2*l.length+30<fuel):z1n fuel l=some (sortT l):=rfl
end Go.Av
namespace Go.Av
open Go
def z31:ByteArray:=bs [0,1,2,2,3,3,3,3,4,4,4,4,4,4,4,4,5,5,5,5,5,5,5,5,5,5,5,5,5,5,5,5,6,6,6,6,6,6,6,6,6,6,6,6,6,6,6,6,6,6,6,6,6,6,6,6,6,6,6,6,6,6,6,6,7,7,7,7,7,7,7,7,7,7,7,7,7,7,7,7,7,7,7,7,7,7,7,7,7,7,7,7,7,7,7,7,7,7,7,7,7,7,7,7,7,7,7,7,7,7,7,7,7,7,7,7,7,7,7,7,7,7,7,7,7,7,7,7,8,8,8,8,8,8,8,8,8,8,8,8,8,8,8,8,8,8,8,8,8,8,8,8,8,8,8,8,8,8,8,8,8,8,8,8,8,8,8,8,8,8,8,8,8,8,8,8,8,8,8,8,8,8,8,8,8,8,8,8,8,8,8,8,8,8,8,8,8,8,8,8,8,8,8,8,8,8,8,8,8,8,8,8,8,8,8,8,8,8,8,8,8,8,8,8,8,8,8,8,8,8,8,8,8,8,8,8,8,8,8,8,8,8,8,8,8,8,8,8,8,8,8,8,8,8,8,8]
structure Value where
 isText:Bool
 n:Int
 s:ByteArray
 deriving Inhabited
def z06 (x:Value):List D:=[.bool x.isText,dI x.n,.str x.s]
abbrev cValue (x:Value):List C:=[.d (.bool x.isText),.d (dI x.n),.d (.str x.s)]
def z8f (x y:Value):Bool:=((x.isText==y.isText) && (decide (x.n=y.n) && (strEq x.s y.s && true)))
structure Update where
 key:List Value
 row:List Value
 time:Time
 diff:Int
 deriving Inhabited
def z01 (x:Update):List D:=[lD 3 z06 x.key,lD 3 z06 x.row,dU x.time.epoch,dU x.time.loop.1,dU x.time.loop.2,dI x.diff]
abbrev cUpdate (x:Update):List C:=[.d (lD 3 z06 x.key),.d (lD 3 z06 x.row),.d (dU x.time.epoch),.d (dU x.time.loop.1),.d (dU x.time.loop.2),.d (dI x.diff)]
structure Batch where
 since:List Time
 updates:List Update
 deriving Inhabited
def z7i (x:Batch):List D:=[lD 3 z02 x.since,lD 6 z01 x.updates]
abbrev cBatch (x:Batch):List C:=[.d (lD 3 z02 x.since),.d (lD 6 z01 x.updates)]
structure Merger where
 a:List Update
 b:List Update
 i:Int
 j:Int
 since:List Time
 out:List Update
 deriving Inhabited
abbrev cMerger (x:Merger):List C:=[.d (lD 6 z01 x.a),.d (lD 6 z01 x.b),.d (dI x.i),.d (dI x.j),.d (lD 3 z02 x.since),.d (lD 6 z01 x.out)]
structure Level where
 class_:Int
 busy:Bool
 batch:Batch
 merger:Merger
 deriving Inhabited
def z07 (x:Level):List D:=[dI x.class_,.bool x.busy,lD 3 z02 x.batch.since,lD 6 z01 x.batch.updates,lD 6 z01 x.merger.a,lD 6 z01 x.merger.b,dI x.merger.i,dI x.merger.j,lD 3 z02 x.merger.since,lD 6 z01 x.merger.out]
abbrev cLevel (x:Level):List C:=[.d (dI x.class_),.d (.bool x.busy),.d (lD 3 z02 x.batch.since),.d (lD 6 z01 x.batch.updates),.d (lD 6 z01 x.merger.a),.d (lD 6 z01 x.merger.b),.d (dI x.merger.i),.d (dI x.merger.j),.d (lD 3 z02 x.merger.since),.d (lD 6 z01 x.merger.out)]
structure Spine where
 since:List Time
 levels:List Level
 deriving Inhabited
abbrev cSpine (x:Spine):List C:=[.d (lD 3 z02 x.since),.d (lD 10 z07 x.levels)]
structure Tally where
 high:Int
 low:Int
 deriving Inhabited
abbrev cTally (x:Tally):List C:=[.d (dU x.high),.d (dU x.low)]
structure Line_Update where
 tally:Tally
 of:Update
 deriving Inhabited
def z0r (x:Line_Update):List D:=[dU x.tally.high,dU x.tally.low,lD 3 z06 x.of.key,lD 3 z06 x.of.row,dU x.of.time.epoch,dU x.of.time.loop.1,dU x.of.time.loop.2,dI x.of.diff]
abbrev cLine_Update (x:Line_Update):List C:=[.d (dU x.tally.high),.d (dU x.tally.low),.d (lD 3 z06 x.of.key),.d (lD 3 z06 x.of.row),.d (dU x.of.time.epoch),.d (dU x.of.time.loop.1),.d (dU x.of.time.loop.2),.d (dI x.of.diff)]
structure Trace where
 spine:Spine
 deriving Inhabited
abbrev cTrace (x:Trace):List C:=[.d (lD 3 z02 x.spine.since),.d (lD 10 z07 x.spine.levels)]
structure Worker where
 merger:Merger
 deriving Inhabited
abbrev cWorker (x:Worker):List C:=[.d (lD 6 z01 x.merger.a),.d (lD 6 z01 x.merger.b),.d (dI x.merger.i),.d (dI x.merger.j),.d (lD 3 z02 x.merger.since),.d (lD 6 z01 x.merger.out)]
def z8c (p0:Int):Option (List Update):=
 some ([(⟨([]:List Value),([(⟨false,p0,(bs [])⟩:Value)]:List Value),(⟨0,(0,0)⟩:Time),1⟩:Update)]:List Update)
def z2e (fuel:Nat)(p0:List Int):Option Int:=
 bf (decide ((p0.length:Int)<1)) (none) (need ((0:Int)≤0∧0<(p0.length:Int))<|outK (loopN (S:=Int×Int) (R:=Empty) (fun(a2:Int×Int)=>bf (decide (a2.2<(p0.length:Int))) (need ((0:Int)≤a2.2∧a2.2<(p0.length:Int))<|some (.next ((if a2.1<(p0.getD a2.2.toNat zzd)then(p0.getD a2.2.toNat zzd)else a2.1),(zzi.wrap (a2.2+1))))) (some (.brk (a2.1,a2.2)))) fuel ((p0.getD 0 zzd),1)) (fun(a3:Int×Int)=>some a3.1) (fun(x:Empty)=>x.elim))
def z3i (fuel:Nat)(p0:List Time):Option Int:=
 outK (z0j (S:=Unit) (R:=Int) (fun i1 (a2:Unit)=>(z2e fuel ([(p0.getD i1 zzd).loop.1,(p0.getD i1 zzd).loop.2]:List Int)).bind fun r4=>bf (decide (4611686018427387904<(if(p0.getD i1 zzd).epoch<r4 then r4 else(p0.getD i1 zzd).epoch))) (some (.ret 1)) (some (.next ()))) p0.length 0 ()) (fun(a3:Unit)=>some 0) (fun x=>some x)
def z0a (p0:List Time):Option (List Time):=
 need (p0.length≤274877906944)<|some p0
def z5b (p0:Int)(p1:Int):Option Int:=
 some (if p0<p1 then p1 else p0)
def z2n (p1:List Time):Option Time:=
 outK (z0j (S:=Time) (R:=Empty) (fun i1 (a2:Time)=>jn (fun(a4:Time)=>(z5b a4.epoch ((p1.getD i1 zzd).epoch)).bind fun r6=>outK (z0j (S:=Time) (R:=Empty) (fun i7 (a8:Time)=>(match i7 with|0=>(z5b a8.loop.1 ((p1.getD i1 zzd).loop.1)).bind fun r10=>some (.next (⟨a8.epoch,(r10,a8.loop.2)⟩:Time))|_=>(z5b a8.loop.2 ((p1.getD i1 zzd).loop.2)).bind fun r11=>some (.next (⟨a8.epoch,(a8.loop.1,r11)⟩:Time)))) 2 0 (⟨r6,a4.loop⟩:Time)) (fun(a9:Time)=>some (.next a9)) (fun(x:Empty)=>x.elim)) fun j5=>bf (decide (((i1:Nat):Int)=0)) (j5 (p1.getD i1 zzd)) (j5 a2)) p1.length 0 (⟨0,(0,0)⟩:Time)) (fun(a3:Time)=>some a3) (fun(x:Empty)=>x.elim)
def z5k (p0:List Time):Option Time:=
 (z2n p0).bind fun r1=>some r1
def z7k (p0:Time)(p1:Time):Option Bool:=
 (z5k ([p0,p1]:List Time)).bind fun r1=>some (z1o r1 p1)
def z6d (p0:Time)(p1:Time):Option Bool:=
 (z7k p0 p1).bind fun r1=>some r1
def z0o (p0:List Time)(p1_0:Time):Option Int:=
 outK (z0j (S:=Unit) (R:=Int) (fun i1 (a2:Unit)=>(z6d (p0.getD i1 zzd) p1_0).bind fun r4=>bf r4 (some (.ret ((i1:Nat):Int))) (some (.next ()))) p0.length 0 ()) (fun(a3:Unit)=>some (-1)) (fun x=>some x)
def z0m (p0:List Time)(p1_0:Time):Option Bool:=
 (z0o p0 p1_0).bind fun r1=>some (decide (0≤r1))
def z4o (p0:List Time)(p1:Time):Option Bool:=
 (z0m p0 p1).bind fun r1=>some r1
def z5u (fuel:Nat)(p0:List Time):Option (List Time):=
 (z0a p0).bind fun r1=>(z1n fuel r1).bind fun r2=>need (r2.length=r1.length)<|outK (z0j (S:=List Time) (R:=Empty) (fun i4 (a5:List Time)=>need ((0+i4)<r2.length)<|(z4o a5 (r2.getD (0+i4) zzd)).bind fun r8=>bf (!r8) (need (a5.length+([(r2.getD (0+i4) zzd)]:List Time).length≤274877906944)<|some (.next (a5++([(r2.getD (0+i4) zzd)]:List Time)))) (some (.next a5))) r2.length 0 ([]:List Time)) (fun(a6:List Time)=>some a6) (fun(x:Empty)=>x.elim)
def z0v (p0:List Time)(p1:List Time):Option Bool:=
 bf (!decide ((p0.length:Int)=(p1.length:Int))) (some false) (outK (z0j (S:=Unit) (R:=Bool) (fun i1 (a2:Unit)=>need ((0:Int)≤((i1:Nat):Int)∧((i1:Nat):Int)<(p1.length:Int))<|bf (!(z1o (p0.getD i1 zzd) (p1.getD i1 zzd))) (some (.ret false)) (some (.next ()))) p0.length 0 ()) (fun(a3:Unit)=>some true) (fun x=>some x))
def z4b (fuel:Nat)(p0:List Time):Option Bool:=
 jn (fun(a1:Bool)=>some a1) fun j2=>(z3i fuel p0).bind fun r3=>bf (decide (r3=0)) ((z5u fuel p0).bind fun r4=>(z0v r4 p0).bind fun r5=>j2 r5) (j2 false)
def z90 (p0:Value):Option Int:=
 bf p0.isText (some 1) (some 0)
def z74 (p0:Int):Option Bool:=
 some (!decide (p0=p0))
def z67 (p0:Int)(p1:Int):Option Int:=
 (z74 p0).bind fun r1=>(z74 p1).bind fun r2=>bf r1 (bf r2 (some 0) (some (-1))) (bf r2 (some 1) (bf (decide (p0<p1)) (some (-1)) (bf (decide (p1<p0)) (some 1) (some 0))))
def z5q (p0:ByteArray):Option Bool:=
 some (!strEq p0 p0)
def z51 (p0:ByteArray)(p1:ByteArray):Option Int:=
 (z5q p0).bind fun r1=>(z5q p1).bind fun r2=>bf r1 (bf r2 (some 0) (some (-1))) (bf r2 (some 1) (bf (strLt p0 p1) (some (-1)) (bf (!(strLt p0 p1||strEq p0 p1)) (some 1) (some 0))))
def z68 (p0:Int):Option Bool:=
 some (!decide (p0=p0))
def z5d (p0:Int)(p1:Int):Option Int:=
 (z68 p0).bind fun r1=>(z68 p1).bind fun r2=>bf r1 (bf r2 (some 0) (some (-1))) (bf r2 (some 1) (bf (decide (p0<p1)) (some (-1)) (bf (decide (p1<p0)) (some 1) (some 0))))
def z76 (p0:Value)(p1:Value):Option Int:=
 bf (!(p0.isText==p1.isText)) ((z90 p0).bind fun r1=>(z90 p1).bind fun r2=>(z67 r1 r2).bind fun r3=>some r3) (bf p0.isText ((z51 p0.s p1.s).bind fun r4=>some r4) ((z5d p0.n p1.n).bind fun r5=>some r5))
def z0h (p0:List Value)(p1:List Value):Option Int:=
 outK (z0j (S:=Unit) (R:=Int) (fun i1 (a2:Unit)=>bf (decide ((p1.length:Int)≤((i1:Nat):Int))) (some (.ret 1)) (need ((0:Int)≤((i1:Nat):Int)∧((i1:Nat):Int)<(p1.length:Int))<|(z76 (p0.getD i1 zzd) (p1.getD i1 zzd)).bind fun r5=>bf (!decide (r5=0)) (some (.ret r5)) (some (.next ())))) p0.length 0 ()) (fun(a3:Unit)=>bf (decide ((p0.length:Int)<(p1.length:Int))) (some (-1)) (some 0)) (fun x=>some x)
def z6i (p0:List Value)(p1:List Value):Option Int:=
 (z0h p0 p1).bind fun r1=>some r1
def z2l (p0:Update)(p1:Update):Option Int:=
 (z6i p0.key p1.key).bind fun r1=>(z6i p0.row p1.row).bind fun r2=>(z6u p0.time p1.time).bind fun r3=>(z5i ([r1,r2,r3]:List Int)).bind fun r4=>some r4
def z82 (p0:Value):Option Bool:=
 bf p0.isText (jn (fun(a1:Bool)=>some a1) fun j2=>bf (decide (p0.n=0)) (j2 (decide ((p0.s.size:Int)≤64))) (j2 false)) (some (strEq p0.s (bs [])))
def z87 (p0:Value):Option Bool:=
 (z82 p0).bind fun r1=>some (!r1)
def z13 (p0:List Value):Option Int:=
 outK (z0j (S:=Unit) (R:=Int) (fun i1 (a2:Unit)=>(z87 (p0.getD i1 zzd)).bind fun r4=>bf r4 (some (.ret ((i1:Nat):Int))) (some (.next ()))) p0.length 0 ()) (fun(a3:Unit)=>some (-1)) (fun x=>some x)
def z0z (p0:List Value):Option Bool:=
 (z13 p0).bind fun r1=>some (decide (0≤r1))
def z7d (p0:List Value):Option Int:=
 jn (fun(a1:Bool)=>bf a1 (some 4) (some 0)) fun j2=>bf (decide (8<(p0.length:Int))) (j2 true) ((z0z p0).bind fun r3=>j2 r3)
def z8r (p0:List Int):Option Int:=
 outK (z0j (S:=Unit) (R:=Int) (fun i1 (a2:Unit)=>bf (!decide ((p0.getD i1 zzd)=0)) (some (.ret (p0.getD i1 zzd))) (some (.next ()))) p0.length 0 ()) (fun(a3:Unit)=>some 0) (fun x=>some x)
def z5j (fuel:Nat)(p0:List Update):Option Int:=
 outK (z0j (S:=Unit) (R:=Int) (fun i1 (a2:Unit)=>(z7d ((p0.getD i1 zzd).key)).bind fun r4=>(z7d ((p0.getD i1 zzd).row)).bind fun r5=>(z3i fuel ([(p0.getD i1 zzd).time]:List Time)).bind fun r6=>(z8r ([r4,r5,r6]:List Int)).bind fun r7=>bf (!decide (r7=0)) (some (.ret r7)) (some (.next ()))) p0.length 0 ()) (fun(a3:Unit)=>some 0) (fun x=>some x)
def z7h (fuel:Nat)(p0:List Update):Option Bool:=
 outK (z0j (S:=Unit) (R:=Bool) (fun i1 (a2:Unit)=>jn (fun(a5:Bool)=>bf a5 (some (.ret false)) (some (.next ()))) fun j6=>bf (decide ((p0.getD i1 zzd).diff=0)) (j6 true) (bf (decide (0<((i1:Nat):Int))) (need ((0:Int)≤(zzi.wrap (((i1:Nat):Int)-1))∧(zzi.wrap (((i1:Nat):Int)-1))<(p0.length:Int))<|(z2l (p0.getD ((zzi.wrap (((i1:Nat):Int)-1)).toNat) zzd) (p0.getD i1 zzd)).bind fun r10=>j6 (decide (0≤r10))) (j6 false))) p0.length 0 ()) (fun(a3:Unit)=>(z5j fuel p0).bind fun r4=>some (decide (r4=0))) (fun x=>some x)
def z6v (p0:Int)(p1:Int):Option Int:=
 some (if p1<p0 then p1 else p0)
def z53 (p1:List Time):Option Time:=
 outK (z0j (S:=Time) (R:=Empty) (fun i1 (a2:Time)=>jn (fun(a4:Time)=>(z6v a4.epoch ((p1.getD i1 zzd).epoch)).bind fun r6=>outK (z0j (S:=Time) (R:=Empty) (fun i7 (a8:Time)=>(match i7 with|0=>(z6v a8.loop.1 ((p1.getD i1 zzd).loop.1)).bind fun r10=>some (.next (⟨a8.epoch,(r10,a8.loop.2)⟩:Time))|_=>(z6v a8.loop.2 ((p1.getD i1 zzd).loop.2)).bind fun r11=>some (.next (⟨a8.epoch,(a8.loop.1,r11)⟩:Time)))) 2 0 (⟨r6,a4.loop⟩:Time)) (fun(a9:Time)=>some (.next a9)) (fun(x:Empty)=>x.elim)) fun j5=>bf (decide (((i1:Nat):Int)=0)) (j5 (p1.getD i1 zzd)) (j5 a2)) p1.length 0 (⟨0,(0,0)⟩:Time)) (fun(a3:Time)=>some a3) (fun(x:Empty)=>x.elim)
def za6 (p0:List Time):Option Time:=
 (z53 p0).bind fun r1=>some r1
def z4v (p0:Time)(p1:List Time):Option Time:=
 bf (decide ((p1.length:Int)=0)) (some p0) (need ((0:Int)≤(p1.length:Int)∧(p1.length:Int)≤(p1.length:Int)∧(p1.length:Int)≤(lim:Int))<|outK (z0j (S:=List Time) (R:=Empty) (fun i2 (a3:List Time)=>(z5k ([p0,(p1.getD i2 zzd)]:List Time)).bind fun r6=>need ((0:Int)≤((i2:Nat):Int)∧((i2:Nat):Int)<(a3.length:Int))<|need ((0+i2)<a3.length)<|some (.next (a3.set (0+i2) r6))) p1.length 0 (zz6 p1.length ((⟨0,(0,0)⟩:Time):Time))) (fun(a4:List Time)=>(za6 a4).bind fun r5=>some r5) (fun(x:Empty)=>x.elim))
def z58 (p0:Update)(p1:List Time):Option Bool:=
 (z4v p0.time p1).bind fun r1=>some (!(z1o r1 p0.time))
def z0w (p0:List Update)(p1_0:List Time):Option Int:=
 outK (z0j (S:=Unit) (R:=Int) (fun i1 (a2:Unit)=>(z58 (p0.getD i1 zzd) p1_0).bind fun r4=>bf r4 (some (.ret ((i1:Nat):Int))) (some (.next ()))) p0.length 0 ()) (fun(a3:Unit)=>some (-1)) (fun x=>some x)
def z0u (p0:List Update)(p1_0:List Time):Option Bool:=
 (z0w p0 p1_0).bind fun r1=>some (decide (0≤r1))
def z5z (fuel:Nat)(p0:List Update)(p1:List Time):Option Bool:=
 jn (fun(a1:Bool)=>some a1) fun j2=>(z7h fuel p0).bind fun r3=>bf r3 ((z0u p0 p1).bind fun r4=>j2 (!r4)) (j2 false)
def z3w (fuel:Nat)(p0:Batch):Option Int:=
 jn (fun(a1:Bool)=>bf a1 (some 4) (some 0)) fun j2=>(z4b fuel p0.since).bind fun r3=>bf (!r3) (j2 true) ((z5z fuel p0.updates p0.since).bind fun r4=>j2 (!r4))
def z7w (p0:Batch)(p1:Merger):Option Bool:=
 jn (fun(a1:Bool)=>some a1) fun j2=>bf (decide ((zzi.wrap ((zzi.wrap ((zzi.wrap ((zzi.wrap ((zzi.wrap ((p0.since.length:Int)+(p0.updates.length:Int)))+(p1.a.length:Int)))+(p1.b.length:Int)))+(p1.since.length:Int)))+(p1.out.length:Int)))=0)) (bf (decide (p1.i=0)) (j2 (decide (p1.j=0))) (j2 false)) (j2 false)
def z5h (p0:Update)(p1:Update):Option Int:=
 (z6i p0.key p1.key).bind fun r1=>(z6i p0.row p1.row).bind fun r2=>(z5i ([r1,r2]:List Int)).bind fun r3=>some r3
def z8d (p0:List Update)(p1:Int)(p2:List Update):Option Bool:=
 jn (fun(a1:Bool)=>bf a1 (some false) (bf (decide (p1=(p0.length:Int))) (some true) (jn (fun(a3:Bool)=>bf a3 (some false) (jn (fun(a5:Bool)=>some a5) fun j6=>bf (decide ((p2.length:Int)=0)) (j6 true) (need ((0:Int)≤(zzi.wrap ((p2.length:Int)-1))∧(zzi.wrap ((p2.length:Int)-1))<(p2.length:Int))<|need ((0:Int)≤p1∧p1<(p0.length:Int))<|(z5h (p2.getD ((zzi.wrap ((p2.length:Int)-1)).toNat) zzd) (p0.getD p1.toNat zzd)).bind fun r10=>j6 (decide (r10<0))))) fun j4=>bf (decide (0<p1)) (need ((0:Int)≤(zzi.wrap (p1-1))∧(zzi.wrap (p1-1))<(p0.length:Int))<|need ((0:Int)≤p1∧p1<(p0.length:Int))<|(z5h (p0.getD ((zzi.wrap (p1-1)).toNat) zzd) (p0.getD p1.toNat zzd)).bind fun r14=>j4 (decide (r14=0))) (j4 false)))) fun j2=>bf (decide (p1<0)) (j2 true) (j2 (decide ((p0.length:Int)<p1)))
def z2j (fuel:Nat)(p0:Merger):Option Int:=
 jn (fun(a1:Bool)=>jn (fun(a3:Bool)=>bf a3 (some 8) (some 0)) fun j4=>bf (!a1) (j4 true) ((z8d p0.a p0.i p0.out).bind fun r5=>bf (!r5) (j4 true) ((z8d p0.b p0.j p0.out).bind fun r6=>j4 (!r6)))) fun j2=>(z4b fuel p0.since).bind fun r7=>bf r7 ((z7h fuel p0.a).bind fun r8=>bf r8 ((z7h fuel p0.b).bind fun r9=>bf r9 ((z5z fuel p0.out p0.since).bind fun r10=>j2 r10) (j2 false)) (j2 false)) (j2 false)
def z6c (p0:Int):Option Int:=
 jn (fun(a1:Int×Int)=>jn (fun(a3:Int×Int)=>jn (fun(a5:Int×Int)=>need ((0:Int)≤(IntKind.u8.wrap a5.1)∧(IntKind.u8.wrap a5.1)<(z31.size:Int))<|some (zzi.wrap (a5.2+(zzi.wrap (bt z31 (IntKind.u8.wrap a5.1)))))) fun j6=>bf (decide (256≤a3.1)) (j6 ((shrOp .u64 a3.1 8),(zzi.wrap (a3.2+8)))) (j6 (a3.1,a3.2))) fun j4=>bf (decide (65536≤a1.1)) (j4 ((shrOp .u64 a1.1 16),(zzi.wrap (a1.2+16)))) (j4 (a1.1,a1.2))) fun j2=>bf (decide (4294967296≤p0)) (j2 ((shrOp .u64 p0 32),32)) (j2 (p0,0))
def z75 (p0:Int):Option Int:=
 (z6c p0).bind fun r1=>some r1
def z5o (p0:List Update):Option Int:=
 (z75 (zzu.wrap (p0.length:Int))).bind fun r1=>some r1
def z5y (p0:Time)(p1:List Time):Option Bool:=
 (z4o p1 p0).bind fun r1=>some (!r1)
def z0k (p0:List Time)(p1_0:List Time):Option Int:=
 outK (z0j (S:=Unit) (R:=Int) (fun i1 (a2:Unit)=>(z5y (p0.getD i1 zzd) p1_0).bind fun r4=>bf r4 (some (.ret ((i1:Nat):Int))) (some (.next ()))) p0.length 0 ()) (fun(a3:Unit)=>some (-1)) (fun x=>some x)
def z0g (p0:List Time)(p1_0:List Time):Option Bool:=
 (z0k p0 p1_0).bind fun r1=>some (decide (0≤r1))
def z3x (p0:List Time)(p1:List Time):Option Bool:=
 jn (fun(a1:Bool)=>some a1) fun j2=>bf (decide ((p1.length:Int)=0)) (j2 true) (bf (decide (0<(p0.length:Int))) ((z0g p0 p1).bind fun r3=>j2 (!r3)) (j2 false))
def z8x (p0:Merger):Option Bool:=
 jn (fun(a1:Bool)=>some a1) fun j2=>bf (decide (p0.i=(p0.a.length:Int))) (j2 (decide (p0.j=(p0.b.length:Int)))) (j2 false)
def z81 (fuel:Nat)(p0:Level)(p1:List Time):Option Bool:=
 bf p0.busy (jn (fun(a1:Bool)=>some a1) fun j2=>(z7w p0.batch (⟨([]:List Update),([]:List Update),0,0,([]:List Time),([]:List Update)⟩:Merger)).bind fun r3=>bf r3 ((z2j fuel p0.merger).bind fun r5=>bf (decide (r5=0)) ((z5o p0.merger.a).bind fun r7=>bf (decide (r7=p0.class_)) ((z5o p0.merger.b).bind fun r9=>bf (decide (r9=p0.class_)) ((z3x p1 p0.merger.since).bind fun r11=>bf r11 ((z8x p0.merger).bind fun r13=>j2 (!r13)) (j2 false)) (j2 false)) (j2 false)) (j2 false)) (j2 false)) (jn (fun(a14:Bool)=>some a14) fun j15=>(z7w (⟨([]:List Time),([]:List Update)⟩:Batch) p0.merger).bind fun r16=>bf r16 ((z3w fuel p0.batch).bind fun r18=>bf (decide (r18=0)) ((z5o p0.batch.updates).bind fun r20=>bf (decide (r20=p0.class_)) ((z3x p1 p0.batch.since).bind fun r22=>j15 r22) (j15 false)) (j15 false)) (j15 false))
def z4e (fuel:Nat)(p0:Spine):Option Int:=
 (z3w fuel (⟨p0.since,([]:List Update)⟩:Batch)).bind fun r1=>outK (z0j (S:=Bool×Int) (R:=Empty) (fun i2 (a3:Bool×Int)=>jn (fun(a5:Bool)=>some (.next (a5,(p0.levels.getD i2 zzd).class_))) fun j6=>bf a3.1 (bf (decide (1≤(p0.levels.getD i2 zzd).class_)) (bf (decide ((p0.levels.getD i2 zzd).class_<a3.2)) ((z81 fuel (p0.levels.getD i2 zzd) p0.since).bind fun r7=>j6 r7) (j6 false)) (j6 false)) (j6 false)) p0.levels.length 0 ((decide (r1=0)),4611686018427387904)) (fun(a4:Bool×Int)=>bf (!a4.1) (some 8) (some 0)) (fun(x:Empty)=>x.elim)
def z1v (p1:Int):Option (List Update):=
 bf (decide (p1<0)) (none) (jn (fun(a1:List Update)=>some a1) fun j2=>bf (decide (0<(zzi.wrap (p1-(zzi.wrap ((0:Int)-0)))))) (need ((0:Int)<(zzi.wrap (p1-(zzi.wrap ((0:Int)-0))))∧(zzi.wrap (p1-(zzi.wrap ((0:Int)-0))))≤(lim:Int))<|need ((0:Int)≤0∧(0:Int)≤0∧(0:Int)≤((zz6 ((zzi.wrap (p1-(zzi.wrap ((0:Int)-0)))).toNat) ((⟨([]:List Value),([]:List Value),(⟨0,(0,0)⟩:Time),0⟩:Update):Update)).length:Int))<|j2 ((zz6 ((zzi.wrap (p1-(zzi.wrap ((0:Int)-0)))).toNat) ((⟨([]:List Value),([]:List Value),(⟨0,(0,0)⟩:Time),0⟩:Update):Update)).take 0)) (j2 ([]:List Update)))
def z0c (p0:List (List Update)):Option (List Update):=
 outK (z0j (S:=Int) (R:=Empty) (fun i1 (a2:Int)=>bf (decide ((zzi.wrap (a2+((p0.getD i1 zzd).length:Int)))<0)) (none) (some (.next (zzi.wrap (a2+((p0.getD i1 zzd).length:Int)))))) p0.length 0 0) (fun(a3:Int)=>(z1v a3).bind fun r4=>outK (z0j (S:=List Update) (R:=Empty) (fun i5 (a6:List Update)=>need (a6.length+(p0.getD i5 zzd).length≤274877906944)<|some (.next (a6++(p0.getD i5 zzd)))) p0.length 0 r4) (fun(a7:List Update)=>some a7) (fun(x:Empty)=>x.elim)) (fun(x:Empty)=>x.elim)
def z1b (fuel:Nat)(p1:Int)(p2:Int)(l0:List Update):Option (List Update):=
 outK (loopN (S:=Int×(List Update)) (R:=Empty) (fun(a1:Int×(List Update))=>bf (decide (a1.1<p2)) (outK (loopN (S:=Int×(List Update)) (R:=Empty) (fun(a3:Int×(List Update))=>jn (fun(a5:Bool)=>bf a5 (need ((0:Int)≤(zzi.wrap (a3.1-1))∧(zzi.wrap (a3.1-1))<(a3.2.length:Int))<|need ((0+(zzi.wrap (a3.1-1)).toNat)<a3.2.length)<|need ((0:Int)≤a3.1∧a3.1<(a3.2.length:Int))<|need ((0+a3.1.toNat)<a3.2.length)<|need ((0:Int)≤a3.1∧a3.1<(a3.2.length:Int))<|need ((0+a3.1.toNat)<a3.2.length)<|need ((0:Int)≤(zzi.wrap (a3.1-1))∧(zzi.wrap (a3.1-1))<(a3.2.length:Int))<|need ((0+(zzi.wrap (a3.1-1)).toNat)<(a3.2.set (0+a3.1.toNat) (a3.2.getD (0+(zzi.wrap (a3.1-1)).toNat) zzd)).length)<|some (.next ((zzi.wrap (a3.1-1)),((a3.2.set (0+a3.1.toNat) (a3.2.getD (0+(zzi.wrap (a3.1-1)).toNat) zzd)).set (0+(zzi.wrap (a3.1-1)).toNat) (a3.2.getD (0+a3.1.toNat) zzd))))) (some (.brk (a3.1,a3.2)))) fun j6=>bf (decide (p1<a3.1)) (need ((0:Int)≤a3.1∧a3.1<(a3.2.length:Int))<|need ((0+a3.1.toNat)<a3.2.length)<|need ((0:Int)≤(zzi.wrap (a3.1-1))∧(zzi.wrap (a3.1-1))<(a3.2.length:Int))<|need ((0+(zzi.wrap (a3.1-1)).toNat)<a3.2.length)<|(z2l (a3.2.getD (0+a3.1.toNat) zzd) (a3.2.getD (0+(zzi.wrap (a3.1-1)).toNat) zzd)).bind fun r20=>j6 (decide (r20<0))) (j6 false)) fuel (a1.1,a1.2)) (fun(a4:Int×(List Update))=>some (.next ((zzi.wrap (a1.1+1)),a4.2))) (fun(x:Empty)=>x.elim)) (some (.brk (a1.1,a1.2)))) fuel ((zzi.wrap (p1+1)),l0)) (fun(a2:Int×(List Update))=>some a2.2) (fun(x:Empty)=>x.elim)
def z1j (fuel:Nat)(p1:Int)(p2:Int)(p3:Int)(l0:List Update):Option (List Update):=
 outK (loopN (S:=Int×(List Update)) (R:=Empty) (fun(a1:Int×(List Update))=>bf (decide (a1.1<p3)) (need ((0:Int)≤(zzi.wrap (p2+a1.1))∧(zzi.wrap (p2+a1.1))<(a1.2.length:Int))<|need ((0+(zzi.wrap (p2+a1.1)).toNat)<a1.2.length)<|need ((0:Int)≤(zzi.wrap (p1+a1.1))∧(zzi.wrap (p1+a1.1))<(a1.2.length:Int))<|need ((0+(zzi.wrap (p1+a1.1)).toNat)<a1.2.length)<|need ((0:Int)≤(zzi.wrap (p1+a1.1))∧(zzi.wrap (p1+a1.1))<(a1.2.length:Int))<|need ((0+(zzi.wrap (p1+a1.1)).toNat)<a1.2.length)<|need ((0:Int)≤(zzi.wrap (p2+a1.1))∧(zzi.wrap (p2+a1.1))<(a1.2.length:Int))<|need ((0+(zzi.wrap (p2+a1.1)).toNat)<(a1.2.set (0+(zzi.wrap (p1+a1.1)).toNat) (a1.2.getD (0+(zzi.wrap (p2+a1.1)).toNat) zzd)).length)<|some (.next ((zzi.wrap (a1.1+1)),((a1.2.set (0+(zzi.wrap (p1+a1.1)).toNat) (a1.2.getD (0+(zzi.wrap (p2+a1.1)).toNat) zzd)).set (0+(zzi.wrap (p2+a1.1)).toNat) (a1.2.getD (0+(zzi.wrap (p1+a1.1)).toNat) zzd))))) (some (.brk (a1.1,a1.2)))) fuel (0,l0)) (fun(a2:Int×(List Update))=>some a2.2) (fun(x:Empty)=>x.elim)
def z1w (fuel:Nat)(p1:Int)(p2:Int)(p3:Int)(l0:List Update):Option (List Update):=
 outK (loopN (S:=Int×Int×(List Update)) (R:=Empty) (fun(a1:Int×Int×(List Update))=>bf (!decide (a1.1=a1.2.1)) (bf (decide (a1.2.1<a1.1)) ((z1j fuel (zzi.wrap (p2-a1.1)) p2 a1.2.1 a1.2.2).bind fun r4=>need (r4.length=a1.2.2.length)<|some (.next ((zzi.wrap (a1.1-a1.2.1)),a1.2.1,r4))) ((z1j fuel (zzi.wrap (p2-a1.1)) (zzi.wrap ((zzi.wrap (p2+a1.2.1))-a1.1)) a1.1 a1.2.2).bind fun r6=>need (r6.length=a1.2.2.length)<|some (.next (a1.1,(zzi.wrap (a1.2.1-a1.1)),r6)))) (some (.brk (a1.1,a1.2.1,a1.2.2)))) fuel ((zzi.wrap (p2-p1)),(zzi.wrap (p3-p2)),l0)) (fun(a2:Int×Int×(List Update))=>(z1j fuel (zzi.wrap (p2-a2.1)) p2 a2.1 a2.2.2).bind fun r3=>some r3) (fun(x:Empty)=>x.elim)
def z0n:Nat→Int→Int→Int→(List Update)→Option (List Update)
 |0,_,_,_,_=>none
 |fuel+1,p1,p2,p3,l0=>
 bf (decide ((zzi.wrap (p2-p1))=1)) (outK (loopN (S:=Int×Int) (R:=Empty) (fun(a1:Int×Int)=>bf (decide (a1.1<a1.2)) (need ((0:Int)≤(zzi.wrap (shrOp .u64 (zzu.wrap (zzi.wrap (a1.1+a1.2))) 1))∧(zzi.wrap (shrOp .u64 (zzu.wrap (zzi.wrap (a1.1+a1.2))) 1))<(l0.length:Int))<|need ((0+(zzi.wrap (shrOp .u64 (zzu.wrap (zzi.wrap (a1.1+a1.2))) 1)).toNat)<l0.length)<|need ((0:Int)≤p1∧p1<(l0.length:Int))<|need ((0+p1.toNat)<l0.length)<|(z2l (l0.getD (0+(zzi.wrap (shrOp .u64 (zzu.wrap (zzi.wrap (a1.1+a1.2))) 1)).toNat) zzd) (l0.getD (0+p1.toNat) zzd)).bind fun r17=>bf (decide (r17<0)) (some (.next ((zzi.wrap ((zzi.wrap (shrOp .u64 (zzu.wrap (zzi.wrap (a1.1+a1.2))) 1))+1)),a1.2))) (some (.next (a1.1,(zzi.wrap (shrOp .u64 (zzu.wrap (zzi.wrap (a1.1+a1.2))) 1)))))) (some (.brk (a1.1,a1.2)))) fuel (p2,p3)) (fun(a2:Int×Int)=>outK (loopN (S:=Int×(List Update)) (R:=Empty) (fun(a3:Int×(List Update))=>bf (decide (a3.1<(zzi.wrap (a2.1-1)))) (need ((0:Int)≤(zzi.wrap (a3.1+1))∧(zzi.wrap (a3.1+1))<(a3.2.length:Int))<|need ((0+(zzi.wrap (a3.1+1)).toNat)<a3.2.length)<|need ((0:Int)≤a3.1∧a3.1<(a3.2.length:Int))<|need ((0+a3.1.toNat)<a3.2.length)<|need ((0:Int)≤a3.1∧a3.1<(a3.2.length:Int))<|need ((0+a3.1.toNat)<a3.2.length)<|need ((0:Int)≤(zzi.wrap (a3.1+1))∧(zzi.wrap (a3.1+1))<(a3.2.length:Int))<|need ((0+(zzi.wrap (a3.1+1)).toNat)<(a3.2.set (0+a3.1.toNat) (a3.2.getD (0+(zzi.wrap (a3.1+1)).toNat) zzd)).length)<|some (.next ((zzi.wrap (a3.1+1)),((a3.2.set (0+a3.1.toNat) (a3.2.getD (0+(zzi.wrap (a3.1+1)).toNat) zzd)).set (0+(zzi.wrap (a3.1+1)).toNat) (a3.2.getD (0+a3.1.toNat) zzd))))) (some (.brk (a3.1,a3.2)))) fuel (p1,l0)) (fun(a4:Int×(List Update))=>some a4.2) (fun(x:Empty)=>x.elim)) (fun(x:Empty)=>x.elim)) (bf (decide ((zzi.wrap (p3-p2))=1)) (outK (loopN (S:=Int×Int) (R:=Empty) (fun(a18:Int×Int)=>bf (decide (a18.1<a18.2)) (need ((0:Int)≤p2∧p2<(l0.length:Int))<|need ((0+p2.toNat)<l0.length)<|need ((0:Int)≤(zzi.wrap (shrOp .u64 (zzu.wrap (zzi.wrap (a18.1+a18.2))) 1))∧(zzi.wrap (shrOp .u64 (zzu.wrap (zzi.wrap (a18.1+a18.2))) 1))<(l0.length:Int))<|need ((0+(zzi.wrap (shrOp .u64 (zzu.wrap (zzi.wrap (a18.1+a18.2))) 1)).toNat)<l0.length)<|(z2l (l0.getD (0+p2.toNat) zzd) (l0.getD (0+(zzi.wrap (shrOp .u64 (zzu.wrap (zzi.wrap (a18.1+a18.2))) 1)).toNat) zzd)).bind fun r34=>bf (!(decide (r34<0))) (some (.next ((zzi.wrap ((zzi.wrap (shrOp .u64 (zzu.wrap (zzi.wrap (a18.1+a18.2))) 1))+1)),a18.2))) (some (.next (a18.1,(zzi.wrap (shrOp .u64 (zzu.wrap (zzi.wrap (a18.1+a18.2))) 1)))))) (some (.brk (a18.1,a18.2)))) fuel (p1,p2)) (fun(a19:Int×Int)=>outK (loopN (S:=Int×(List Update)) (R:=Empty) (fun(a20:Int×(List Update))=>bf (decide (a19.1<a20.1)) (need ((0:Int)≤(zzi.wrap (a20.1-1))∧(zzi.wrap (a20.1-1))<(a20.2.length:Int))<|need ((0+(zzi.wrap (a20.1-1)).toNat)<a20.2.length)<|need ((0:Int)≤a20.1∧a20.1<(a20.2.length:Int))<|need ((0+a20.1.toNat)<a20.2.length)<|need ((0:Int)≤a20.1∧a20.1<(a20.2.length:Int))<|need ((0+a20.1.toNat)<a20.2.length)<|need ((0:Int)≤(zzi.wrap (a20.1-1))∧(zzi.wrap (a20.1-1))<(a20.2.length:Int))<|need ((0+(zzi.wrap (a20.1-1)).toNat)<(a20.2.set (0+a20.1.toNat) (a20.2.getD (0+(zzi.wrap (a20.1-1)).toNat) zzd)).length)<|some (.next ((zzi.wrap (a20.1-1)),((a20.2.set (0+a20.1.toNat) (a20.2.getD (0+(zzi.wrap (a20.1-1)).toNat) zzd)).set (0+(zzi.wrap (a20.1-1)).toNat) (a20.2.getD (0+a20.1.toNat) zzd))))) (some (.brk (a20.1,a20.2)))) fuel (p2,l0)) (fun(a21:Int×(List Update))=>some a21.2) (fun(x:Empty)=>x.elim)) (fun(x:Empty)=>x.elim)) (jn (fun(a35:Int×Int×Int×Int)=>outK (loopN (S:=Int×Int) (R:=Empty) (fun(a37:Int×Int)=>bf (decide (a37.1<a37.2)) (need ((0:Int)≤(zzi.wrap ((zzi.wrap (a35.2.1-1))-(zzi.wrap (shrOp .u64 (zzu.wrap (zzi.wrap (a37.1+a37.2))) 1))))∧(zzi.wrap ((zzi.wrap (a35.2.1-1))-(zzi.wrap (shrOp .u64 (zzu.wrap (zzi.wrap (a37.1+a37.2))) 1))))<(l0.length:Int))<|need ((0+(zzi.wrap ((zzi.wrap (a35.2.1-1))-(zzi.wrap (shrOp .u64 (zzu.wrap (zzi.wrap (a37.1+a37.2))) 1)))).toNat)<l0.length)<|need ((0:Int)≤(zzi.wrap (shrOp .u64 (zzu.wrap (zzi.wrap (a37.1+a37.2))) 1))∧(zzi.wrap (shrOp .u64 (zzu.wrap (zzi.wrap (a37.1+a37.2))) 1))<(l0.length:Int))<|need ((0+(zzi.wrap (shrOp .u64 (zzu.wrap (zzi.wrap (a37.1+a37.2))) 1)).toNat)<l0.length)<|(z2l (l0.getD (0+(zzi.wrap ((zzi.wrap (a35.2.1-1))-(zzi.wrap (shrOp .u64 (zzu.wrap (zzi.wrap (a37.1+a37.2))) 1)))).toNat) zzd) (l0.getD (0+(zzi.wrap (shrOp .u64 (zzu.wrap (zzi.wrap (a37.1+a37.2))) 1)).toNat) zzd)).bind fun r58=>bf (!(decide (r58<0))) (some (.next ((zzi.wrap ((zzi.wrap (shrOp .u64 (zzu.wrap (zzi.wrap (a37.1+a37.2))) 1))+1)),a37.2))) (some (.next (a37.1,(zzi.wrap (shrOp .u64 (zzu.wrap (zzi.wrap (a37.1+a37.2))) 1)))))) (some (.brk (a37.1,a37.2)))) fuel (a35.2.2.1,a35.2.2.2)) (fun(a38:Int×Int)=>jn (fun(a39:Int×(List Update))=>jn (fun(a41:List Update)=>jn (fun(a43:Bool)=>bf a43 ((z0n fuel a35.1 a39.1 p3 a41).bind fun r45=>some r45) (some a41)) fun j44=>bf (decide (a35.1<a39.1)) (j44 (decide (a39.1<p3))) (j44 false)) fun j42=>jn (fun(a46:Bool)=>bf a46 ((z0n fuel p1 a38.1 a35.1 a39.2).bind fun r48=>need (r48.length=a39.2.length)<|j42 r48) (j42 a39.2)) fun j47=>bf (decide (p1<a38.1)) (j47 (decide (a38.1<a35.1))) (j47 false)) fun j40=>jn (fun(a50:Int×Bool)=>bf a50.2 ((z1w fuel a38.1 p2 a50.1 l0).bind fun r52=>need (r52.length=l0.length)<|j40 (a50.1,r52)) (j40 (a50.1,l0))) fun j51=>bf (decide (a38.1<p2)) (j51 ((zzi.wrap (a35.2.1-a38.1)),(decide (p2<(zzi.wrap (a35.2.1-a38.1)))))) (j51 ((zzi.wrap (a35.2.1-a38.1)),false))) (fun(x:Empty)=>x.elim)) fun j36=>bf (decide ((zzi.wrap (shrOp .u64 (zzu.wrap (zzi.wrap (p1+p3))) 1))<p2)) (j36 ((zzi.wrap (shrOp .u64 (zzu.wrap (zzi.wrap (p1+p3))) 1)),(zzi.wrap ((zzi.wrap (shrOp .u64 (zzu.wrap (zzi.wrap (p1+p3))) 1))+p2)),(zzi.wrap ((zzi.wrap ((zzi.wrap (shrOp .u64 (zzu.wrap (zzi.wrap (p1+p3))) 1))+p2))-p3)),(zzi.wrap (shrOp .u64 (zzu.wrap (zzi.wrap (p1+p3))) 1)))) (j36 ((zzi.wrap (shrOp .u64 (zzu.wrap (zzi.wrap (p1+p3))) 1)),(zzi.wrap ((zzi.wrap (shrOp .u64 (zzu.wrap (zzi.wrap (p1+p3))) 1))+p2)),p1,p2))))
def z1m (fuel:Nat)(p1:Int)(l0:List Update):Option (List Update):=
 outK (loopN (S:=Int×Int×(List Update)) (R:=Empty) (fun(a1:Int×Int×(List Update))=>bf (decide (a1.2.1≤p1)) ((z1b fuel a1.1 a1.2.1 a1.2.2).bind fun r15=>need (r15.length=a1.2.2.length)<|some (.next (a1.2.1,(zzi.wrap (a1.2.1+20)),r15))) (some (.brk (a1.1,a1.2.1,a1.2.2)))) fuel (0,20,l0)) (fun(a2:Int×Int×(List Update))=>(z1b fuel a2.1 p1 a2.2.2).bind fun r3=>need (r3.length=a2.2.2.length)<|outK (loopN (S:=Int×(List Update)) (R:=Empty) (fun(a5:Int×(List Update))=>bf (decide (a5.1<p1)) (outK (loopN (S:=Int×Int×(List Update)) (R:=Empty) (fun(a7:Int×Int×(List Update))=>bf (decide (a7.2.1≤p1)) ((z0n fuel a7.1 (zzi.wrap (a7.1+a5.1)) a7.2.1 a7.2.2).bind fun r13=>need (r13.length=a7.2.2.length)<|some (.next (a7.2.1,(zzi.wrap (a7.2.1+(zzi.wrap ((2:Int)*a5.1)))),r13))) (some (.brk (a7.1,a7.2.1,a7.2.2)))) fuel (0,(zzi.wrap ((2:Int)*a5.1)),a5.2)) (fun(a8:Int×Int×(List Update))=>jn (fun(a9:List Update)=>some (.next ((zzi.wrap (a5.1*2)),a9))) fun j10=>bf (decide ((zzi.wrap (a8.1+a5.1))<p1)) ((z0n fuel a8.1 (zzi.wrap (a8.1+a5.1)) p1 a8.2.2).bind fun r11=>need (r11.length=a8.2.2.length)<|j10 r11) (j10 a8.2.2)) (fun(x:Empty)=>x.elim)) (some (.brk (a5.1,a5.2)))) fuel (20,r3)) (fun(a6:Int×(List Update))=>some a6.2) (fun(x:Empty)=>x.elim)) (fun(x:Empty)=>x.elim)
def z0s (fuel:Nat)(l0:List Update):Option (List Update):=
 (z1m fuel (l0.length:Int) l0).bind fun r1=>some r1
def z69 (p0:Update):Option Int:=
 some p0.diff
def z3g (p0:Nat)(p1:Int)(l0:List Line_Update):Option (List Line_Update):=
 need (p0<l0.length)<|(z8q ((l0.getD p0 zzd).tally.low) (zzu.wrap p1) 0).bind fun r2=>need (p0<l0.length)<|need (p0<(l0.set p0 (⟨(⟨(l0.getD p0 zzd).tally.high,r2.1⟩:Tally),(l0.getD p0 zzd).of⟩:Line_Update)).length)<|(z8q (((l0.set p0 (⟨(⟨(l0.getD p0 zzd).tally.high,r2.1⟩:Tally),(l0.getD p0 zzd).of⟩:Line_Update)).getD p0 zzd).tally.high) (zzu.wrap (shrOp .i64 p1 63)) r2.2).bind fun r5=>need (p0<(l0.set p0 (⟨(⟨(l0.getD p0 zzd).tally.high,r2.1⟩:Tally),(l0.getD p0 zzd).of⟩:Line_Update)).length)<|some ((l0.set p0 (⟨(⟨(l0.getD p0 zzd).tally.high,r2.1⟩:Tally),(l0.getD p0 zzd).of⟩:Line_Update)).set p0 (⟨(⟨r5.1,((l0.set p0 (⟨(⟨(l0.getD p0 zzd).tally.high,r2.1⟩:Tally),(l0.getD p0 zzd).of⟩:Line_Update)).getD p0 zzd).tally.low⟩:Tally),((l0.set p0 (⟨(⟨(l0.getD p0 zzd).tally.high,r2.1⟩:Tally),(l0.getD p0 zzd).of⟩:Line_Update)).getD p0 zzd).of⟩:Line_Update))
def z3h (l0:Line_Update):Option (Int×Int×Line_Update):=
 bf (!decide (l0.tally.high=(zzu.wrap (shrOp .i64 (zzi.wrap l0.tally.low) 63)))) (some (0,10,l0)) (some ((zzi.wrap l0.tally.low),0,l0))
def z6a (p0:Update)(p1:Int):Option Update:=
 some (⟨p0.key,p0.row,p0.time,p1⟩:Update)
def z0p (fuel:Nat)(l0:List Update):Option ((List Update)×Int×(List Update)):=
 (z0s fuel l0).bind fun r1=>need (r1.length=l0.length)<|outK (z0j (S:=List Line_Update) (R:=Empty) (fun i3 (a4:List Line_Update)=>need ((0+i3)<r1.length)<|jn (fun(a14:List Line_Update)=>need ((0:Int)≤(zzi.wrap ((a14.length:Int)-1))∧(zzi.wrap ((a14.length:Int)-1))<(a14.length:Int))<|(z69 (r1.getD (0+i3) zzd)).bind fun r17=>(z3g (0+(zzi.wrap ((a14.length:Int)-1)).toNat) r17 a14).bind fun r18=>need (r18.length=a14.length)<|some (.next r18)) fun j15=>jn (fun(a20:Bool)=>bf a20 (need (a4.length+([(⟨(⟨0,0⟩:Tally),(r1.getD (0+i3) zzd)⟩:Line_Update)]:List Line_Update).length≤274877906944)<|j15 (a4++([(⟨(⟨0,0⟩:Tally),(r1.getD (0+i3) zzd)⟩:Line_Update)]:List Line_Update))) (j15 a4)) fun j21=>bf (decide ((a4.length:Int)=0)) (j21 true) (need ((0:Int)≤(zzi.wrap ((a4.length:Int)-1))∧(zzi.wrap ((a4.length:Int)-1))<(a4.length:Int))<|need ((0+(zzi.wrap ((a4.length:Int)-1)).toNat)<a4.length)<|(z2l ((a4.getD (0+(zzi.wrap ((a4.length:Int)-1)).toNat) zzd).of) (r1.getD (0+i3) zzd)).bind fun r26=>j21 (!decide (r26=0)))) r1.length 0 ([]:List Line_Update)) (fun(a5:List Line_Update)=>outK (z0j (S:=List Update) (R:=(List Update)×Int×(List Update)) (fun i6 (a7:List Update)=>need ((0+i6)<a5.length)<|(z3h (a5.getD (0+i6) zzd)).bind fun r10=>bf (!decide (r10.2.1=0)) (some (.ret (([]:List Update),r10.2.1,r1))) (bf (!decide (r10.1=0)) ((z6a r10.2.2.of r10.1).bind fun r11=>need (a7.length+([r11]:List Update).length≤274877906944)<|some (.next (a7++([r11]:List Update)))) (some (.next a7)))) a5.length 0 ([]:List Update)) (fun(a8:List Update)=>some (a8,0,r1)) (fun x=>some x)) (fun(x:Empty)=>x.elim)
def z11 (p0:List Value):Option (List Value):=
 need (p0.length≤274877906944)<|some p0
def z5s (p0:List Update):Option (List Update):=
 need ((0:Int)≤(p0.length:Int)∧(p0.length:Int)≤(p0.length:Int)∧(p0.length:Int)≤(lim:Int))<|need (p0.length≤(zz6 p0.length ((⟨([]:List Value),([]:List Value),(⟨0,(0,0)⟩:Time),0⟩:Update):Update)).length)<|outK (z0j (S:=List Update) (R:=Empty) (fun i3 (a4:List Update)=>need ((0:Int)≤((i3:Nat):Int)∧((i3:Nat):Int)<(a4.length:Int))<|need ((0+i3)<a4.length)<|(z11 ((a4.getD (0+i3) zzd).key)).bind fun r8=>need ((0:Int)≤((i3:Nat):Int)∧((i3:Nat):Int)<(a4.length:Int))<|need ((0+i3)<a4.length)<|(z11 ((a4.getD (0+i3) zzd).row)).bind fun r11=>need ((0:Int)≤((i3:Nat):Int)∧((i3:Nat):Int)<(a4.length:Int))<|need ((0+i3)<a4.length)<|need ((0:Int)≤((i3:Nat):Int)∧((i3:Nat):Int)<(a4.length:Int))<|need ((0+i3)<(a4.set (0+i3) (⟨r8,(a4.getD (0+i3) zzd).row,(a4.getD (0+i3) zzd).time,(a4.getD (0+i3) zzd).diff⟩:Update)).length)<|some (.next ((a4.set (0+i3) (⟨r8,(a4.getD (0+i3) zzd).row,(a4.getD (0+i3) zzd).time,(a4.getD (0+i3) zzd).diff⟩:Update)).set (0+i3) (⟨((a4.set (0+i3) (⟨r8,(a4.getD (0+i3) zzd).row,(a4.getD (0+i3) zzd).time,(a4.getD (0+i3) zzd).diff⟩:Update)).getD (0+i3) zzd).key,r11,((a4.set (0+i3) (⟨r8,(a4.getD (0+i3) zzd).row,(a4.getD (0+i3) zzd).time,(a4.getD (0+i3) zzd).diff⟩:Update)).getD (0+i3) zzd).time,((a4.set (0+i3) (⟨r8,(a4.getD (0+i3) zzd).row,(a4.getD (0+i3) zzd).time,(a4.getD (0+i3) zzd).diff⟩:Update)).getD (0+i3) zzd).diff⟩:Update)))) ((copyL (zz6 p0.length ((⟨([]:List Value),([]:List Value),(⟨0,(0,0)⟩:Time),0⟩:Update):Update)) p0).length) 0 (copyL (zz6 p0.length ((⟨([]:List Value),([]:List Value),(⟨0,(0,0)⟩:Time),0⟩:Update):Update)) p0)) (fun(a5:List Update)=>some a5) (fun(x:Empty)=>x.elim)
def z4u (fuel:Nat)(p0:List (List Update)):Option ((List Update)×Int):=
 outK (z0j (S:=Unit) (R:=(List Update)×Int) (fun i1 (a2:Unit)=>(z5j fuel (p0.getD i1 zzd)).bind fun r7=>bf (!decide (r7=0)) (some (.ret (([]:List Update),r7))) (some (.next ()))) p0.length 0 ()) (fun(a3:Unit)=>(z0c p0).bind fun r4=>(z0p fuel r4).bind fun r5=>(z5s r5.1).bind fun r6=>some (r6,r5.2.1)) (fun x=>some x)
def z43 (fuel:Nat)(p0:List Time)(p1:List (List Update)):Option ((List Update)×Int):=
 (z0c p1).bind fun r1=>(z5j fuel r1).bind fun r2=>bf (!decide (r2=0)) (some (([]:List Update),r2)) (outK (z0j (S:=List Update) (R:=Empty) (fun i3 (a4:List Update)=>need ((0:Int)≤((i3:Nat):Int)∧((i3:Nat):Int)<(a4.length:Int))<|need ((0+i3)<a4.length)<|(z4v ((a4.getD (0+i3) zzd).time) p0).bind fun r9=>need ((0:Int)≤((i3:Nat):Int)∧((i3:Nat):Int)<(a4.length:Int))<|need ((0+i3)<a4.length)<|some (.next (a4.set (0+i3) (⟨(a4.getD (0+i3) zzd).key,(a4.getD (0+i3) zzd).row,r9,(a4.getD (0+i3) zzd).diff⟩:Update)))) r1.length 0 r1) (fun(a5:List Update)=>(z4u fuel ([a5]:List (List Update))).bind fun r6=>some (r6.1,r6.2)) (fun(x:Empty)=>x.elim))
def z6j (fuel:Nat)(p0:List Time)(p1:List (List Update)):Option (Batch×Int):=
 (z4b fuel p0).bind fun r1=>bf (!r1) (some ((⟨([]:List Time),([]:List Update)⟩:Batch),4)) ((z43 fuel p0 p1).bind fun r2=>bf (!decide (r2.2=0)) (some ((⟨([]:List Time),([]:List Update)⟩:Batch),r2.2)) ((z0a p0).bind fun r3=>some ((⟨r3,r2.1⟩:Batch),0)))
def z1k (p0:List Level):Option (List Level):=
 need (p0.length≤274877906944)<|some p0
def z2r (p0:Merger):Option Merger:=
 (z5s p0.a).bind fun r1=>(z5s p0.b).bind fun r2=>(z5s p0.out).bind fun r3=>(z0a p0.since).bind fun r4=>some (⟨r1,r2,p0.i,p0.j,r4,r3⟩:Merger)
def z71 (fuel:Nat)(p0:Spine):Option Trace:=
 (z0a p0.since).bind fun r1=>(z1k p0.levels).bind fun r2=>outK (loopN (S:=Int×Spine) (R:=Empty) (fun(a3:Int×Spine)=>bf (decide (a3.1<(r2.length:Int))) (need ((0:Int)≤a3.1∧a3.1<(a3.2.levels.length:Int))<|need ((0+a3.1.toNat)<a3.2.levels.length)<|(z0a ((a3.2.levels.getD (0+a3.1.toNat) zzd).batch.since)).bind fun r7=>need ((0+a3.1.toNat)<a3.2.levels.length)<|(z5s ((a3.2.levels.getD (0+a3.1.toNat) zzd).batch.updates)).bind fun r9=>need ((0+a3.1.toNat)<a3.2.levels.length)<|need ((0+a3.1.toNat)<(a3.2.levels.set (0+a3.1.toNat) (⟨(a3.2.levels.getD (0+a3.1.toNat) zzd).class_,(a3.2.levels.getD (0+a3.1.toNat) zzd).busy,(⟨r7,r9⟩:Batch),(a3.2.levels.getD (0+a3.1.toNat) zzd).merger⟩:Level)).length)<|(z2r (((a3.2.levels.set (0+a3.1.toNat) (⟨(a3.2.levels.getD (0+a3.1.toNat) zzd).class_,(a3.2.levels.getD (0+a3.1.toNat) zzd).busy,(⟨r7,r9⟩:Batch),(a3.2.levels.getD (0+a3.1.toNat) zzd).merger⟩:Level)).getD (0+a3.1.toNat) zzd).merger)).bind fun r12=>need ((0+a3.1.toNat)<(a3.2.levels.set (0+a3.1.toNat) (⟨(a3.2.levels.getD (0+a3.1.toNat) zzd).class_,(a3.2.levels.getD (0+a3.1.toNat) zzd).busy,(⟨r7,r9⟩:Batch),(a3.2.levels.getD (0+a3.1.toNat) zzd).merger⟩:Level)).length)<|some (.next ((zzi.wrap (a3.1+1)),(⟨a3.2.since,((a3.2.levels.set (0+a3.1.toNat) (⟨(a3.2.levels.getD (0+a3.1.toNat) zzd).class_,(a3.2.levels.getD (0+a3.1.toNat) zzd).busy,(⟨r7,r9⟩:Batch),(a3.2.levels.getD (0+a3.1.toNat) zzd).merger⟩:Level)).set (0+a3.1.toNat) (⟨((a3.2.levels.set (0+a3.1.toNat) (⟨(a3.2.levels.getD (0+a3.1.toNat) zzd).class_,(a3.2.levels.getD (0+a3.1.toNat) zzd).busy,(⟨r7,r9⟩:Batch),(a3.2.levels.getD (0+a3.1.toNat) zzd).merger⟩:Level)).getD (0+a3.1.toNat) zzd).class_,((a3.2.levels.set (0+a3.1.toNat) (⟨(a3.2.levels.getD (0+a3.1.toNat) zzd).class_,(a3.2.levels.getD (0+a3.1.toNat) zzd).busy,(⟨r7,r9⟩:Batch),(a3.2.levels.getD (0+a3.1.toNat) zzd).merger⟩:Level)).getD (0+a3.1.toNat) zzd).busy,((a3.2.levels.set (0+a3.1.toNat) (⟨(a3.2.levels.getD (0+a3.1.toNat) zzd).class_,(a3.2.levels.getD (0+a3.1.toNat) zzd).busy,(⟨r7,r9⟩:Batch),(a3.2.levels.getD (0+a3.1.toNat) zzd).merger⟩:Level)).getD (0+a3.1.toNat) zzd).batch,r12⟩:Level))⟩:Spine)))) (some (.brk (a3.1,a3.2)))) fuel (0,(⟨r1,r2⟩:Spine))) (fun(a4:Int×Spine)=>some (⟨a4.2⟩:Trace)) (fun(x:Empty)=>x.elim)
def z8j (fuel:Nat)(p0:Spine):Option Spine:=
 (z71 fuel p0).bind fun r1=>some r1.spine
def z3a (p0:Level)(p1:Int):Option Int:=
 some (zzi.wrap (p1-p0.class_))
def z0e (fuel:Nat)(p0:List Level)(p1:Int):Option (Int×Bool):=
 outK (loopN (S:=Int×Int) (R:=Empty) (fun(a1:Int×Int)=>bf (decide (a1.1<a1.2)) (need ((0:Int)≤(zzi.wrap (shrOp .u64 (zzu.wrap (zzi.wrap (a1.1+a1.2))) 1))∧(zzi.wrap (shrOp .u64 (zzu.wrap (zzi.wrap (a1.1+a1.2))) 1))<(p0.length:Int))<|(z3a (p0.getD ((zzi.wrap (shrOp .u64 (zzu.wrap (zzi.wrap (a1.1+a1.2))) 1)).toNat) zzd) p1).bind fun r8=>bf (decide (r8<0)) (some (.next ((zzi.wrap ((zzi.wrap (shrOp .u64 (zzu.wrap (zzi.wrap (a1.1+a1.2))) 1))+1)),a1.2))) (some (.next (a1.1,(zzi.wrap (shrOp .u64 (zzu.wrap (zzi.wrap (a1.1+a1.2))) 1)))))) (some (.brk (a1.1,a1.2)))) fuel (0,(p0.length:Int))) (fun(a2:Int×Int)=>jn (fun(a3:Bool)=>some (a2.1,a3)) fun j4=>bf (decide (a2.1<(p0.length:Int))) (need ((0:Int)≤a2.1∧a2.1<(p0.length:Int))<|(z3a (p0.getD a2.1.toNat zzd) p1).bind fun r6=>j4 (decide (r6=0))) (j4 false)) (fun(x:Empty)=>x.elim)
def z16 (p1:Int)(p2:List Level)(l0:List Level):Option (List Level):=
 zcv l0 p1 p2
def z5m (fuel:Nat)(p0:List Time)(p1:Batch)(p2:Batch):Option (Merger×Int):=
 jn (fun(a1:Bool)=>bf a1 (some ((⟨([]:List Update),([]:List Update),0,0,([]:List Time),([]:List Update)⟩:Merger),4)) (jn (fun(a3:Bool)=>bf a3 (some ((⟨([]:List Update),([]:List Update),0,0,([]:List Time),([]:List Update)⟩:Merger),1)) ((z2r (⟨p1.updates,p2.updates,0,0,p0,([]:List Update)⟩:Merger)).bind fun r5=>some (r5,0))) fun j4=>(z3x p0 p1.since).bind fun r6=>bf (!r6) (j4 (!r6)) ((z3x p0 p2.since).bind fun r7=>j4 (!r7)))) fun j2=>(z3w fuel p1).bind fun r8=>bf (!decide (r8=0)) (j2 (!decide (r8=0))) ((z3w fuel p2).bind fun r9=>bf (!decide (r9=0)) (j2 (!decide (r9=0))) ((z4b fuel p0).bind fun r10=>j2 (!r10)))
def z2m (l0:Worker):Option (Bool×Worker):=
 jn (fun(a1:Bool)=>some (a1,l0)) fun j2=>bf (decide (l0.merger.i<(l0.merger.a.length:Int))) (j2 true) (j2 (decide (l0.merger.j<(l0.merger.b.length:Int))))
def z2i (l0:Worker):Option (Update×Worker):=
 jn (fun(a1:Bool)=>bf a1 (need ((0:Int)≤l0.merger.i∧l0.merger.i<(l0.merger.a.length:Int))<|some ((l0.merger.a.getD l0.merger.i.toNat zzd),l0)) (need ((0:Int)≤l0.merger.j∧l0.merger.j<(l0.merger.b.length:Int))<|some ((l0.merger.b.getD l0.merger.j.toNat zzd),l0))) fun j2=>bf (decide (l0.merger.i<(l0.merger.a.length:Int))) (bf (decide (l0.merger.j=(l0.merger.b.length:Int))) (j2 true) (need ((0:Int)≤l0.merger.i∧l0.merger.i<(l0.merger.a.length:Int))<|need ((0:Int)≤l0.merger.j∧l0.merger.j<(l0.merger.b.length:Int))<|(z5h (l0.merger.a.getD l0.merger.i.toNat zzd) (l0.merger.b.getD l0.merger.j.toNat zzd)).bind fun r9=>j2 (decide (r9<0)))) (j2 false)
def z9g (p0:Update)(p1:Update):Option Bool:=
 (z5h p0 p1).bind fun r1=>some (!decide (r1=0))
def z12 (p0:List Update)(p1_0:Update):Option Int:=
 outK (z0j (S:=Unit) (R:=Int) (fun i1 (a2:Unit)=>(z9g (p0.getD i1 zzd) p1_0).bind fun r4=>bf r4 (some (.ret ((i1:Nat):Int))) (some (.next ()))) p0.length 0 ()) (fun(a3:Unit)=>some (-1)) (fun x=>some x)
def z8e (p0:List Update)(p1:Update):Option Int:=
 (z12 p0 p1).bind fun r1=>bf (decide (r1<0)) (some (p0.length:Int)) (some r1)
def z1g (fuel:Nat)(l0:Worker):Option (Int×Int×Worker):=
 (z2i l0).bind fun r1=>need ((0:Int)≤r1.2.merger.i∧r1.2.merger.i≤(r1.2.merger.a.length:Int)∧(r1.2.merger.a.length:Int)≤(r1.2.merger.a.length:Int))<|need ((0:Int)≤r1.2.merger.j∧r1.2.merger.j≤(r1.2.merger.b.length:Int)∧(r1.2.merger.b.length:Int)≤(r1.2.merger.b.length:Int))<|(z8e (sub r1.2.merger.a r1.2.merger.i (r1.2.merger.a.length:Int)) r1.1).bind fun r4=>need ((0:Int)≤0∧(0:Int)≤r4∧r4≤((sub r1.2.merger.a r1.2.merger.i (r1.2.merger.a.length:Int)).length:Int))<|(z8e (sub r1.2.merger.b r1.2.merger.j (r1.2.merger.b.length:Int)) r1.1).bind fun r6=>need ((0:Int)≤0∧(0:Int)≤r6∧r6≤((sub r1.2.merger.b r1.2.merger.j (r1.2.merger.b.length:Int)).length:Int))<|(z43 fuel r1.2.merger.since ([(sub (sub r1.2.merger.a r1.2.merger.i (r1.2.merger.a.length:Int)) 0 r4),(sub (sub r1.2.merger.b r1.2.merger.j (r1.2.merger.b.length:Int)) 0 r6)]:List (List Update))).bind fun r8=>bf (!decide (r8.2=0)) (some (0,r8.2,r1.2)) (need (r1.2.merger.out.length+r8.1.length≤274877906944)<|some ((zzi.wrap (((sub (sub r1.2.merger.a r1.2.merger.i (r1.2.merger.a.length:Int)) 0 r4).length:Int)+((sub (sub r1.2.merger.b r1.2.merger.j (r1.2.merger.b.length:Int)) 0 r6).length:Int))),0,(⟨(⟨r1.2.merger.a,r1.2.merger.b,(zzi.wrap (r1.2.merger.i+((sub (sub r1.2.merger.a r1.2.merger.i (r1.2.merger.a.length:Int)) 0 r4).length:Int))),(zzi.wrap (r1.2.merger.j+((sub (sub r1.2.merger.b r1.2.merger.j (r1.2.merger.b.length:Int)) 0 r6).length:Int))),r1.2.merger.since,(r1.2.merger.out++r8.1)⟩:Merger)⟩:Worker)))
def z7u (fuel:Nat)(p0:Merger)(p1:Int):Option (Merger×Int×Int):=
 (z2j fuel p0).bind fun r1=>bf (!decide (r1=0)) (some ((⟨([]:List Update),([]:List Update),0,0,([]:List Time),([]:List Update)⟩:Merger),0,r1)) ((z2r p0).bind fun r2=>outK (loopN (S:=Int×Worker) (R:=Merger×Int×Int) (fun(a3:Int×Worker)=>jn (fun(a5:Bool×Worker)=>bf a5.1 ((z1g fuel a5.2).bind fun r7=>bf (!decide (r7.2.1=0)) (some (.ret (r7.2.2.merger,a3.1,r7.2.1))) (some (.next ((zzi.wrap (a3.1+r7.1)),r7.2.2)))) (some (.brk (a3.1,a5.2)))) fun j6=>bf (decide (a3.1<p1)) ((z2m a3.2).bind fun r8=>j6 (r8.1,r8.2)) (j6 (false,a3.2))) fuel (0,(⟨r2⟩:Worker))) (fun(a4:Int×Worker)=>some (a4.2.merger,a4.1,0)) (fun x=>some x))
def z3s (l0:Worker):Option (Bool×Worker):=
 jn (fun(a1:Bool)=>some (a1,l0)) fun j2=>bf (decide (l0.merger.i<(l0.merger.a.length:Int))) (j2 true) (j2 (decide (l0.merger.j<(l0.merger.b.length:Int))))
def z9m (fuel:Nat)(p0:Merger):Option (Batch×Int):=
 jn (fun(a1:Bool)=>bf a1 (some ((⟨([]:List Time),([]:List Update)⟩:Batch),8)) ((z2r p0).bind fun r3=>some ((⟨r3.since,r3.out⟩:Batch),0))) fun j2=>(z2j fuel p0).bind fun r4=>bf (!decide (r4=0)) (j2 true) ((z3s (⟨p0⟩:Worker)).bind fun r5=>j2 r5.1)
def z1e (p1:Int)(p2:Int)(l0:List Level):Option (List Level):=
 zcu l0 p1 p2
def z3n (fuel:Nat)(frec:Batch→Trace→Option (Int×Trace))(p1:List Batch)(l0:Trace):Option (Int×Trace):=
 outK (z0j (S:=Trace) (R:=Int×Trace) (fun i1 (a2:Trace)=>(frec (p1.getD i1 zzd) a2).bind fun r4=>bf (!decide (r4.1=0)) (some (.ret (r4.1,r4.2))) (some (.next r4.2))) p1.length 0 l0) (fun(a3:Trace)=>some (0,a3)) (fun x=>some x)
def z19:Nat→Batch→Trace→Option (Int×Trace)
 |0,_,_=>none
 |fuel+1,p1,l0=>
 (z5o p1.updates).bind fun r1=>bf (decide (r1=0)) (some (0,l0)) ((z0e fuel l0.spine.levels r1).bind fun r2=>bf (!r2.2) ((z16 r2.1 ([(⟨r1,false,p1,(⟨([]:List Update),([]:List Update),0,0,([]:List Time),([]:List Update)⟩:Merger)⟩:Level)]:List Level) l0.spine.levels).bind fun r3=>some (0,(⟨(⟨l0.spine.since,r3⟩:Spine)⟩:Trace))) (need ((0:Int)≤r2.1∧r2.1<(l0.spine.levels.length:Int))<|need ((0+r2.1.toNat)<l0.spine.levels.length)<|bf (!(l0.spine.levels.getD (0+r2.1.toNat) zzd).busy) ((z5m fuel l0.spine.since ((l0.spine.levels.getD (0+r2.1.toNat) zzd).batch) p1).bind fun r6=>jn (fun(a7:Trace)=>some (r6.2,a7)) fun j8=>bf (decide (r6.2=0)) (need ((0:Int)≤r2.1∧r2.1<(l0.spine.levels.length:Int))<|need ((0+r2.1.toNat)<l0.spine.levels.length)<|j8 (⟨(⟨l0.spine.since,(l0.spine.levels.set (0+r2.1.toNat) (⟨r1,true,(⟨([]:List Time),([]:List Update)⟩:Batch),r6.1⟩:Level))⟩:Spine)⟩:Trace)) (j8 l0)) (need ((0:Int)≤r1)<|(z7u fuel ((l0.spine.levels.getD (0+r2.1.toNat) zzd).merger) (shlOp .i64 (2:Int) r1)).bind fun r12=>bf (!decide (r12.2.2=0)) (some (r12.2.2,l0)) ((z9m fuel r12.1).bind fun r13=>(z1e r2.1 (zzi.wrap (r2.1+1)) l0.spine.levels).bind fun r14=>(z3n fuel (z19 fuel) ([p1,r13.1]:List Batch) (⟨(⟨l0.spine.since,r14⟩:Spine)⟩:Trace)).bind fun r15=>some (r15.1,r15.2)))))
def z3z (fuel:Nat)(p0:Spine)(p1:List (List Update)):Option (Spine×Int):=
 (z4e fuel p0).bind fun r1=>bf (!decide (r1=0)) (some ((⟨([]:List Time),([]:List Level)⟩:Spine),r1)) ((z6j fuel p0.since p1).bind fun r2=>bf (!decide (r2.2=0)) ((z8j fuel p0).bind fun r3=>some (r3,r2.2)) ((z71 fuel p0).bind fun r4=>(z19 fuel r2.1 r4).bind fun r5=>bf (!decide (r5.1=0)) ((z8j fuel p0).bind fun r6=>some (r6,r5.1)) (some (r5.2.spine,0))))
def z28 (l0:Trace):Option ((List (List Update))×Trace):=
 outK (z0j (S:=List (List Update)) (R:=Empty) (fun i1 (a2:List (List Update))=>need ((0:Int)≤(l0.spine.levels.getD i1 zzd).merger.i∧(l0.spine.levels.getD i1 zzd).merger.i≤(((l0.spine.levels.getD i1 zzd).merger.a).length:Int)∧(((l0.spine.levels.getD i1 zzd).merger.a).length:Int)≤(((l0.spine.levels.getD i1 zzd).merger.a).length:Int))<|need ((0:Int)≤(l0.spine.levels.getD i1 zzd).merger.j∧(l0.spine.levels.getD i1 zzd).merger.j≤(((l0.spine.levels.getD i1 zzd).merger.b).length:Int)∧(((l0.spine.levels.getD i1 zzd).merger.b).length:Int)≤(((l0.spine.levels.getD i1 zzd).merger.b).length:Int))<|need (a2.length+([(l0.spine.levels.getD i1 zzd).batch.updates,(sub ((l0.spine.levels.getD i1 zzd).merger.a) ((l0.spine.levels.getD i1 zzd).merger.i) (((l0.spine.levels.getD i1 zzd).merger.a).length:Int)),(sub ((l0.spine.levels.getD i1 zzd).merger.b) ((l0.spine.levels.getD i1 zzd).merger.j) (((l0.spine.levels.getD i1 zzd).merger.b).length:Int)),(l0.spine.levels.getD i1 zzd).merger.out]:List (List Update)).length≤274877906944)<|some (.next (a2++([(l0.spine.levels.getD i1 zzd).batch.updates,(sub ((l0.spine.levels.getD i1 zzd).merger.a) ((l0.spine.levels.getD i1 zzd).merger.i) (((l0.spine.levels.getD i1 zzd).merger.a).length:Int)),(sub ((l0.spine.levels.getD i1 zzd).merger.b) ((l0.spine.levels.getD i1 zzd).merger.j) (((l0.spine.levels.getD i1 zzd).merger.b).length:Int)),(l0.spine.levels.getD i1 zzd).merger.out]:List (List Update))))) l0.spine.levels.length 0 ([]:List (List Update))) (fun(a3:List (List Update))=>some (a3,l0)) (fun(x:Empty)=>x.elim)
def zcw (fuel:Nat)(p0:Spine):Option (Int×Int×Int):=
 (z4e fuel p0).bind fun r1=>bf (!decide (r1=0)) (some (0,0,r1)) (outK (z0j (S:=Int) (R:=Empty) (fun i2 (a3:Int)=>bf ((p0.levels.getD i2 zzd).busy) (some (.next (zzi.wrap (a3+1)))) (some (.next a3))) p0.levels.length 0 (p0.levels.length:Int)) (fun(a4:Int)=>(z28 (⟨p0⟩:Trace)).bind fun r5=>(z0c r5.1).bind fun r6=>some (a4,(r6.length:Int),0)) (fun(x:Empty)=>x.elim))
def z9j (p0:Update):Option Bool:=
 some true
def z26 (fuel:Nat)(l0:Trace):Option ((List Update)×Int×Trace):=
 (z28 l0).bind fun r1=>(z0c r1.1).bind fun r2=>outK (z0j (S:=List Update) (R:=Empty) (fun i3 (a4:List Update)=>(z9j (r2.getD i3 zzd)).bind fun r7=>bf r7 ((z4v ((r2.getD i3 zzd).time) r1.2.spine.since).bind fun r8=>need (a4.length+([(⟨(r2.getD i3 zzd).key,(r2.getD i3 zzd).row,r8,(r2.getD i3 zzd).diff⟩:Update)]:List Update).length≤274877906944)<|some (.next (a4++([(⟨(r2.getD i3 zzd).key,(r2.getD i3 zzd).row,r8,(r2.getD i3 zzd).diff⟩:Update)]:List Update)))) (some (.next a4))) r2.length 0 ([]:List Update)) (fun(a5:List Update)=>(z4u fuel ([a5]:List (List Update))).bind fun r6=>some (r6.1,r6.2,r1.2)) (fun(x:Empty)=>x.elim)
def z6z (fuel:Nat)(p0:Spine):Option ((List Update)×Int):=
 (z4e fuel p0).bind fun r1=>bf (!decide (r1=0)) (some (([]:List Update),r1)) ((z26 fuel (⟨p0⟩:Trace)).bind fun r2=>some (r2.1,r2.2.1))
def z85 (fuel:Nat)(p0:Spine)(p1:List Time):Option (Spine×Int):=
 (z4e fuel p0).bind fun r1=>bf (!decide (r1=0)) (some ((⟨([]:List Time),([]:List Level)⟩:Spine),r1)) ((z71 fuel p0).bind fun r2=>(z3w fuel (⟨p1,([]:List Update)⟩:Batch)).bind fun r3=>bf (!decide (r3=0)) (some (r2.spine,4)) ((z3x p1 p0.since).bind fun r4=>bf (!r4) (some (r2.spine,1)) ((z0a p1).bind fun r5=>some ((⟨r5,r2.spine.levels⟩:Spine),0))))
def z52 (fuel:Nat):Option Bool:=
 outK (loopN (S:=Int×Spine) (R:=Bool) (fun(a1:Int×Spine)=>bf (decide (a1.1<3)) ((z8c a1.1).bind fun r12=>(z3z fuel a1.2 ([r12]:List (List Update))).bind fun r13=>bf (!decide (r13.2=0)) (some (.ret false)) (some (.next ((zzi.wrap (a1.1+1)),r13.1)))) (some (.brk (a1.1,a1.2)))) fuel (0,(⟨([]:List Time),([]:List Level)⟩:Spine))) (fun(a2:Int×Spine)=>(zcw fuel a2.2).bind fun r3=>(z6z fuel a2.2).bind fun r4=>(z85 fuel a2.2 ([(⟨2,(0,0)⟩:Time)]:List Time)).bind fun r5=>(z6z fuel r5.1).bind fun r6=>(z85 fuel r5.1 ([]:List Time)).bind fun r7=>jn (fun(a8:Bool)=>some a8) fun j9=>bf (decide (r3.1=2)) (bf (decide (r3.2.1=3)) (bf (decide (r3.2.2=0)) (bf (decide ((a2.2.levels.length:Int)=2)) (need ((0:Int)≤0∧0<(a2.2.levels.length:Int))<|bf (decide ((a2.2.levels.getD 0 zzd).class_=2)) (bf (decide ((r4.1.length:Int)=3)) (bf (decide (r4.2=0)) (bf (decide (r5.2=0)) (bf (decide (r6.2=0)) (bf (decide ((r6.1.length:Int)=3)) (need ((0:Int)≤0∧0<(r6.1.length:Int))<|bf (decide ((r6.1.getD 0 zzd).time.epoch=2)) (j9 (decide (r7.2=1))) (j9 false)) (j9 false)) (j9 false)) (j9 false)) (j9 false)) (j9 false)) (j9 false)) (j9 false)) (j9 false)) (j9 false)) (j9 false)) (fun x=>some x)
def z3q (p0:List Value)(p1:List Value):Option Bool:=
 bf (!decide ((p0.length:Int)=(p1.length:Int))) (some false) (outK (z0j (S:=Unit) (R:=Bool) (fun i1 (a2:Unit)=>need ((0:Int)≤((i1:Nat):Int)∧((i1:Nat):Int)<(p1.length:Int))<|bf (!(z8f (p0.getD i1 zzd) (p1.getD i1 zzd))) (some (.ret false)) (some (.next ()))) p0.length 0 ()) (fun(a3:Unit)=>some true) (fun x=>some x))
def z5e (p0:List Update)(p1:List Update):Option Bool:=
 bf (!decide ((p0.length:Int)=(p1.length:Int))) (some false) (outK (z0j (S:=Unit) (R:=Bool) (fun i1 (a2:Unit)=>jn (fun(a4:Bool)=>bf a4 (some (.ret false)) (some (.next ()))) fun j5=>need ((0:Int)≤((i1:Nat):Int)∧((i1:Nat):Int)<(p1.length:Int))<|(z3q ((p0.getD i1 zzd).key) ((p1.getD i1 zzd).key)).bind fun r7=>bf (!r7) (j5 true) (need ((0:Int)≤((i1:Nat):Int)∧((i1:Nat):Int)<(p1.length:Int))<|(z3q ((p0.getD i1 zzd).row) ((p1.getD i1 zzd).row)).bind fun r10=>bf (!r10) (j5 true) (need ((0:Int)≤((i1:Nat):Int)∧((i1:Nat):Int)<(p1.length:Int))<|bf (!(z1o ((p0.getD i1 zzd).time) ((p1.getD i1 zzd).time))) (j5 true) (need ((0:Int)≤((i1:Nat):Int)∧((i1:Nat):Int)<(p1.length:Int))<|j5 (!decide ((p0.getD i1 zzd).diff=(p1.getD i1 zzd).diff)))))) p0.length 0 ()) (fun(a3:Unit)=>some true) (fun x=>some x))
def z2x (fuel:Nat)(p0:List (List Update)):Option Bool:=
 (z52 fuel).bind fun r1=>bf (!r1) (some false) (bf (decide (20<(p0.length:Int))) (some true) ((z3z fuel (⟨([]:List Time),([]:List Level)⟩:Spine) p0).bind fun r2=>outK (z0j (S:=Int×Spine) (R:=Empty) (fun i3 (a4:Int×Spine)=>bf (decide (a4.1=0)) ((z3z fuel a4.2 ([(p0.getD i3 zzd)]:List (List Update))).bind fun r13=>some (.next (r13.2,r13.1))) (some (.next (a4.1,a4.2)))) p0.length 0 (0,(⟨([]:List Time),([]:List Level)⟩:Spine))) (fun(a5:Int×Spine)=>jn (fun(a6:Bool)=>bf a6 (some true) ((z6z fuel r2.1).bind fun r8=>(z6z fuel a5.2).bind fun r9=>jn (fun(a10:Bool)=>some a10) fun j11=>bf (decide (r8.2=r9.2)) ((z5e r8.1 r9.1).bind fun r12=>j11 r12) (j11 false))) fun j7=>bf (!decide (r2.2=0)) (j7 true) (j7 (!decide (a5.1=0)))) (fun(x:Empty)=>x.elim)))
end Go.Av
namespace Go.Av
open Go Go.Proofs
theorem z93 {p0:Int}{q:Bool}(h:z5r p0=some q):
 Summ Tryz.prog 194 [cD (dU p0)] [] (cD (.bool q)) []:=by
 refine Summ.i Tryz.func194 rfl [] fun w0 G0 V LL φ0=>?_;unfold z5r at h;refine Tri.sg [0] [] (z00 1) ?_;refine Tri.sg [2] [] (z00 4) ?_;refine Tri.ret ?_;cases h;exact RetAt.k
theorem z6o {p0:Int}{p1:Int}{q:Int}(h:z3f p0 p1=some q):
 Summ Tryz.prog 180 [cD (dU p0),cD (dU p1)] [] (cD (dI q)) []:=by
 refine Summ.i Tryz.func180 rfl [] fun w0 G0 V LL φ0=>?_;unfold z3f at h;refine Tri.sg [0,1] [] (z00 1) ?_;refine z03 ?_;refine z05 ?_;refine At.sg 1 [0,1,7] [] (z00 1) ?_;obtain⟨r1,hr1,h⟩:=z04 h;refine At.cA [] [cD (dU p0)] (z93 hr1) (.cons (.refl _) .nil) ?_;refine At.sg 1 [0,1,5] [] (z00 1) ?_;refine At.done rfl ?_;refine z03 ?_;refine z05 ?_;refine At.sg 1 [0,1,5,9] [] (z00 1) ?_;obtain⟨r2,hr2,h⟩:=z04 h;refine At.cA [] [cD (dU p1)] (z93 hr2) (.cons (.refl _) .nil) ?_;refine At.sg 1 [0,1,5,6] [] (z00 1) ?_;refine At.done rfl ?_;refine z03 ?_;refine Tri.sg [0,1,6,11] [] (z00 1) ?_;refine z09 h (fun h=>?_) (fun h=>?_)
 ·refine z03 ?_;refine Tri.sg [12] [] (z00 1) ?_;refine z09 h (fun h=>?_) (fun h=>?_)
  ·refine Tri.sg [4] [] (z00 1) ?_;refine Tri.ret ?_;cases h;exact RetAt.k
  ·refine Tri.skip ?_;refine Tri.sg [4] [] (z00 1) ?_;refine Tri.ret ?_;cases h;exact RetAt.k
 ·refine Tri.skip ?_;refine z03 ?_;refine Tri.sg [0,1,13] [] (z00 1) ?_;refine z09 h (fun h=>?_) (fun h=>?_)
  ·refine Tri.sg [4] [] (z00 1) ?_;refine Tri.ret ?_;cases h;exact RetAt.k
  ·refine Tri.skip ?_;refine z03 ?_;refine Tri.sg [0,1,16] [] (z00 3) ?_;refine z09 h (fun h=>?_) (fun h=>?_)
   ·refine Tri.sg [4] [] (z00 1) ?_;refine Tri.ret ?_;cases h;exact RetAt.k
   ·refine Tri.skip ?_;refine z03 ?_;refine Tri.sg [19] [] (z00 3) ?_;refine z09 h (fun h=>?_) (fun h=>?_)
    ·refine Tri.sg [4] [] (z00 1) ?_;refine Tri.ret ?_;cases h;exact RetAt.k
    ·refine Tri.skip ?_;refine Tri.sg [4] [] (z00 1) ?_;refine Tri.ret ?_;cases h;exact RetAt.k
theorem z6w {p0:List Int}{p1:List Int}{q:Int}(h:z1z p0 p1=some q):
 Summ Tryz.prog 181 [.c (wC 1 (z27 .u64) p0),.c (wC 1 (z27 .u64) p1)] [] (cD (dI q)) []:=by
 refine Summ.i Tryz.func181 rfl [] fun w0 G0 V LL φ0=>?_;unfold z1z at h;refine Tri.sg [0,1] [] (z00 1) ?_;refine z03 ?_;refine Tri.sg [0,1,9,10,11] [] (z00 3) ?_;refine Tri.ln 9 p0.length fun hlena2=>?_;refine z1c 11 () (fun(x:Int) s=>RetAt Tryz.prog Tryz.f181 (cD (dI x)) [] s) (fun(a2:Unit)=>⟨[(0,.c (wC 1 (z27 .u64) p0)),(1,.c (wC 1 (z27 .u64) p1)),(9,.c (wC 1 (z27 .u64) p0)),(10,cD (dI (p0.length:Int)))],[]⟩) [11,0,1,9,10] [] [12,11,0,1,9,10] [] [0,1,9,10] [] [11,0,1,9,10] [] h hlena2 ?_ ?_ ?_
 ·intro i1 a2 c hii1 h;refine Tri.sg [0,1,5,6,9,10,11] [] (tN 1 (ai (show((0:Int)≤((i1:Nat):Int)∧((i1:Nat):Int)<(p0.length:Int))from⟨by omega,by omega⟩) (z00 3))) ?_;refine z03 ?_;refine Tri.sg [0,1,5,6,9,10,11,19] [] (z00 4) ?_;refine z09 h (fun h=>?_) (fun h=>?_)
  ·refine Tri.sg [4] [] (z00 1) ?_;refine Tri.ret ?_;cases h;exact RetAt.k
  ·refine Tri.skip ?_;obtain⟨hc4,h⟩:=z08 h;refine Tri.sg [0,1,6,7,9,10,11] [] (tN 2 (ai hc4 (z00 2))) ?_;refine z03 ?_;refine z05 ?_;refine At.sg 2 [0,1,9,10,11,24,25] [] (z00 2) ?_;obtain⟨r5,hr5,h⟩:=z04 h;refine At.cA [] [cD (dU (p0.getD i1 zzd)),cD (dU (p1.getD i1 zzd))] (z6o hr5) (.cons (.refl _) (.cons (.refl _) .nil)) ?_;refine At.sg 1 [0,1,8,9,10,11] [] (z00 1) ?_;refine At.done rfl ?_;refine Tri.sg [0,1,8,9,10,11,28] [] (z00 2) ?_;refine z09 h (fun h=>?_) (fun h=>?_)
   ·refine Tri.sg [4] [] (z00 2) ?_;refine Tri.ret ?_;cases h;exact RetAt.k
   ·refine Tri.kp [11,0,1,9,10] [] ?_;refine Tri.skip ?_;cases h;exact kr
 ·intro a3 h;refine z03 ?_;refine Tri.sg [35] [] (z00 5) ?_;refine z09 h (fun h=>?_) (fun h=>?_)
  ·refine Tri.sg [4] [] (z00 1) ?_;refine Tri.ret ?_;cases h;exact RetAt.k
  ·refine Tri.skip ?_;refine Tri.sg [4] [] (z00 1) ?_;refine Tri.ret ?_;cases h;exact RetAt.k
 ·exact fun x s hx hr=>by cases hx;exact hr
theorem z8a {p0:List Int}{q:Int}(h:z5i p0=some q):
 Summ Tryz.prog 163 [.c (wC 1 (z27 .i64) p0)] [] (cD (dI q)) []:=by
 refine Summ.i Tryz.func163 rfl [] fun w0 G0 V LL φ0=>?_;unfold z5i at h;refine Tri.sg [0] [] (z00 1) ?_;refine Tri.sg [0,3] [] (z00 1) ?_;refine z03 ?_;refine Tri.sg [3,6,7,8] [] (z00 3) ?_;refine Tri.ln 6 p0.length fun hlena2=>?_;refine z1c 8 () (fun(x:Int) s=>RetAt Tryz.prog Tryz.f163 (cD (dI x)) [] s) (fun(a2:Unit)=>⟨[(3,cD (dI 0)),(6,.c (wC 1 (z27 .i64) p0)),(7,cD (dI (p0.length:Int)))],[]⟩) [8,3,6,7] [] [9,8,3,6,7] [] [3,6,7] [] [8,3,6,7] [] h hlena2 ?_ ?_ ?_
 ·intro i1 a2 c hii1 h;refine Tri.sg [3,5,6,7,8] [] (ai (show((0:Int)≤((i1:Nat):Int)∧((i1:Nat):Int)<(p0.length:Int))from⟨by omega,by omega⟩) (z00 2)) ?_;refine Tri.sg [3,5,6,7,8,14] [] (z00 3) ?_;refine z09 h (fun h=>?_) (fun h=>?_)
  ·refine Tri.sg [2] [] (z00 2) ?_;refine Tri.ret ?_;cases h;exact RetAt.k
  ·refine Tri.kp [8,3,6,7] [] ?_;refine Tri.skip ?_;cases h;exact kr
 ·intro a3 h;refine Tri.sg [2] [] (z00 2) ?_;refine Tri.ret ?_;cases h;exact RetAt.k
 ·exact fun x s hx hr=>by cases hx;exact hr
theorem za2 {p0:Time}{p1:Time}{q:Int}(h:z6u p0 p1=some q):
 Summ Tryz.prog 159 [.agg (cTime p0),.agg (cTime p1)] [] (cD (dI q)) []:=by
 refine Summ.i Tryz.func159 rfl [] fun w0 G0 V LL φ0=>?_;unfold z6u at h;refine Tri.sg [2,3] [2,3] (z00 3) ?_;refine z03 ?_;refine z03 ?_;refine z05 ?_;refine At.seg 4 [2,3,6,8] [2,3] (s':=⟨[(2,.c (.ptr 2 0)),(3,.c (.ptr 3 0)),(6,.agg [.d (dU p0.loop.1),.d (dU p0.loop.2)]),(8,.agg [.d (dU p1.loop.1),.d (dU p1.loop.2)])],[(2,.box (cTime p0)),(3,.box (cTime p1))]⟩) (by kernel_rfl) (z00 4) ?_;refine At.one rfl (One.eql (b:=(decide (p0.loop.1=p1.loop.1) && (decide (p0.loop.2=p1.loop.2) && true))) (d:=9) rfl rfl rfl (.inl rfl) rfl rfl (by kernel_rfl) rfl (by kernel_rfl)) ?_;refine At.done rfl ?_;refine z09 h (fun h=>?_) (fun h=>?_)
 ·refine z03 ?_;refine z05 ?_;refine At.sg 4 [11,13] [] (z00 4) ?_;obtain⟨r1,hr1,h⟩:=z04 h;refine At.cA [] [cD (dU p0.epoch),cD (dU p1.epoch)] (z6o hr1) (.cons (.refl _) (.cons (.refl _) .nil)) ?_;refine At.sg 1 [4] [] (z00 1) ?_;refine At.done rfl ?_;refine Tri.ret ?_;cases h;exact RetAt.k
 ·refine Tri.skip ?_;refine z03 ?_;obtain⟨r2,hr2,h⟩:=z04 h;obtain⟨r3,hr3,h⟩:=z04 h;obtain⟨r4,hr4,h⟩:=z04 h;refine z0q [.a [2] [],.a [15] [2],.a [3] [],.a [17] [3],.m ⟨[(16,cD (dU p0.epoch)),(18,cD (dU p1.epoch))],[]⟩ ⟨[(19,cD (dI r2))],[]⟩ [] [] [],.a [2] [],.a [20] [2],.a [3] [],.a [22] [3],.m ⟨[(21,.c (.bsl 2 1 1 2)),(23,.c (.bsl 3 1 1 2))],[(2,.box (cTime p0)),(3,.box (cTime p1))]⟩ ⟨[(24,cD (dI r3))],[]⟩ [] [] [],.m ⟨[(19,cD (dI r2)),(24,cD (dI r3))],[]⟩ ⟨[(25,.c (oC 25 1 ([r2,r3]:List Int)))],[(25,vL 1 (z27 .i64) ([r2,r3]:List Int))]⟩ [25] [] [],.m ⟨[(25,.c (oC 25 1 ([r2,r3]:List Int)))],[(25,vL 1 (z27 .i64) ([r2,r3]:List Int))]⟩ ⟨[(26,cD (dI r4))],[]⟩ [] [] [],.a [26] []] [4] [] (tN 5 (ai (show(((0:Int)≤0∧(0:Int)≤2∧(2:Int)≤2)∧(0:Int)<2)from⟨⟨by decide,by decide,by decide⟩,by decide⟩) (tN 1 (ai (show(((0:Int)≤0∧(0:Int)≤2∧(2:Int)≤2)∧(0:Int)<2)from⟨⟨by decide,by decide,by decide⟩,by decide⟩) (z00 1))))) (.a (.a (.a (.a (.m ?_ (.a (.a (.a (.a (.m ?_ (.m ?_ (.m ?_ (.a .z))))))))))))) ?_
  ·exact DOk.cA [] [cD (dU p0.epoch),cD (dU p1.epoch)] (z6o hr2) fun r=>(.cons (.refl _) (.cons (.refl _) .nil))
  ·exact DOk.cA [] [.c (.bsl 2 1 1 2),.c (.bsl 3 1 1 2)] (z6w hr3) fun r=>(.cons (.c (.bsl (cs:=[.d (dU p0.epoch),.d (dU p0.loop.1),.d (dU p0.loop.2)]) (ds:=[dU p0.loop.1,dU p0.loop.2]) rfl rfl rfl rfl (by unfold maxN;omega) (fun i hi=>by match i,hi with|0,_=>rfl|1,_=>rfl))) (.cons (.c (.bsl (cs:=[.d (dU p1.epoch),.d (dU p1.loop.1),.d (dU p1.loop.2)]) (ds:=[dU p1.loop.1,dU p1.loop.2]) rfl rfl rfl rfl (by unfold maxN;omega) (fun i hi=>by match i,hi with|0,_=>rfl|1,_=>rfl))) .nil))
  ·exact DOk.one fun r hr=>z4f (e:=3) (es:=1) (z:=[.d (dI 0)]) (cells:=[.d (dI r2),.d (dI r3)]) (z27 .i64) ([r2,r3]:List Int) rfl (by kernel_rfl) rfl rfl (z2k (by kernel_rfl) (hr 25 (by simp))) (by kernel_rfl) rfl (by kernel_rfl) rfl rfl rfl (by kernel_rfl) rfl ⟨⟨rfl,.refl _⟩,⟨rfl,.refl _⟩,trivial⟩
  ·exact DOk.cA [] [.c (oC 25 1 ([r2,r3]:List Int))] (z8a hr4) fun r=>(.cons (AVArg.view (z27 .i64) ([r2,r3]:List Int) rfl) .nil)
  refine Tri.ret ?_;cases h;exact RetAt.k
end Go.Av
namespace Go.Proofs
open Go.Shelf Go.RowKit Go.Lib Go.Sort
shelf_lay_g SlLaysF0.n6 Slsf 6 at Tryz 158 as Tryz.sortTime
end Go.Proofs
namespace Go.Av
open Go Go.Proofs
theorem flatT:Flat 3 z02 (fun x=>[.int .u64 x.epoch,.int .u64 x.loop.1,.int .u64 x.loop.2]) where
 ld _:=rfl
 lv _:=rfl
 to G w x j v hj h:=by
  match j,hj with
  |0,_=>have h:RelD G w (dU x.epoch) v:=h;cases h;rfl
  |1,_=>have h:RelD G w (dU x.loop.1) v:=h;cases h;rfl
  |2,_=>have h:RelD G w (dU x.loop.2) v:=h;cases h;rfl
 of G w x j hj:=by
  match j,hj with
  |0,_=>exact RelD.int _ _
  |1,_=>exact RelD.int _ _
  |2,_=>exact RelD.int _ _
theorem z20 {fuel:Nat}{l0:List Time}{q:List Time}(h:z1n fuel l0=some q):
 Summ Tryz.prog 158 [.c (oC 5000 3 l0),cD (.fn 159 [])] [(5000,vL 3 z02 l0)] (.tup []) [(5000,vL 3 z02 q)]:=by
 cases h;rw[zoo];exact zkd Tryz.sortTime Tryz.isAgg47 Tryz.sizeOf47 flatT (by decide) (cf:=cmpT) swoT (fun x y h1 h2=>zlj (by
  have h1:ltT x y=false:=h1;have h2:ltT y x=false:=h2
  unfold ltT at h1 h2;have:=zhp x y
  simp only[decide_eq_false_iff_not]at h1 h2;omega)) Tryz.func159 rfl (by kernel_rfl) (fun x y=>za2 (zg1 x y)) l0
end Go.Av
