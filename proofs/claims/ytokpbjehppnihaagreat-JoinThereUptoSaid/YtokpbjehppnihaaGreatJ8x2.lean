import Derived.Test.YtokpbjehppnihaaGreatJ8x1
import Derived.Laws.Externs
import Derived.Lib.Join
import Derived.Lib.Overlaps
import Derived.Shelf.SlSortCmp.NoneTotal
import Derived.Sort.LotA
set_option maxRecDepth 100000
set_option linter.unusedVariables false
set_option linter.unusedSimpArgs false
set_option linter.unusedSectionVars false
open Go.IntKind renaming i64→zzi, u64→zzu
open Inhabited renaming default→zzd
open Option renaming bind_some→zz0
open Go.Result renaming andThen_ok→zz1
open List renaming mem_append→zz2, mem_cons_self→zz4, mem_cons_of_mem→zz6, replicate→zz9, length_set→zze, mem_cons→zzf, length_append→zzg, eq_nil_of_length_eq_zero→zzj, mem_map→zzk, length_drop→zzl, mem_filter→zzm, map_cons→zzp
open Nat renaming eq_of_beq_eq_true→zz3, le_of_ble_eq_true→zz5, zero_add→zza, le_refl→zzc, blt_eq→zzo
open Go.Sem renaming run_bind→zz8, run_pure→zzb
open Int renaming toNat_natCast→zzh
open Array renaming length_toList→zzn
/-
 Av,part U:from a function that may have no answer to a walk.
-/
namespace Go.Av
open Go
inductive Ctl (S R:Type) where
 |next (s:S)
 |brk (s:S)
 |ret (r:R)
inductive Out (S R:Type) where
 |done (s:S)
 |ret (r:R)
section
variable {S R Q A:Type}
def z0l (B:Nat→S→Option (Ctl S R)):Nat→Nat→S→Option (Out S R)
 |0,_,s=>some (.done s)
 |k+1,i,s=>match B i s with
  |none=>none
  |some (.next s')=>z0l B k (i+1) s'
  |some (.brk s')=>some (.done s')
  |some (.ret r)=>some (.ret r)
def loopN (B:S→Option (Ctl S R)):Nat→S→Option (Out S R)
 |0,_=>none
 |k+1,s=>match B s with
  |none=>none
  |some (.next s')=>loopN B k s'
  |some (.brk s')=>some (.done s')
  |some (.ret r)=>some (.ret r)
def outK (o:Option (Out S R))(kn:S→Option Q)(kr:R→Option Q):Option Q:=
 match o with
 |none=>none
 |some (.done s)=>kn s
 |some (.ret r)=>kr r
def need (c:Prop)[Decidable c](k:Option Q):Option Q:=if c then k else none
def bf (b:Bool)(x y:Option Q):Option Q:=match b with|true=>x|false=>y
def jn (j:A→Option Q)(k:(A→Option Q)→Option Q):Option Q:=k j
theorem z04 {c:Prop}[Decidable c]{k:Option Q}{q:Q}(h:need c k=some q):c∧k=some q:=by
 unfold need at h;split at h
 ·exact⟨by assumption,h⟩
 ·cases h
theorem z05 {o:Option A}{k:A→Option Q}{q:Q}(h:o.bind k=some q): ∃a,o=some a∧k a=some q:=by
 cases o with
 |none=>cases h
 |some a=>exact⟨a,rfl,h⟩
theorem z2w {b:Bool}{u v:Option Q}{q:Q}(h:bf b u v=some q):(b=true∧u=some q)∨(b=false∧v=some q):=by
 cases b
 ·exact .inr ⟨rfl,h⟩
 ·exact .inl ⟨rfl,h⟩
theorem zfn {o:Option (Out S R)}{kn:S→Option Q}{kr:R→Option Q}{q:Q}(h:outK o kn kr=some q):
 (∃s,o=some (.done s)∧kn s=some q)∨ ∃r,o=some (.ret r)∧kr r=some q:=by
 unfold outK at h;split at h
 ·cases h
 ·exact .inl ⟨_,rfl,h⟩
 ·exact .inr ⟨_,rfl,h⟩
end
section
variable {E:Env} {s:St} {S R Q A:Type} {post:Exit→St→Prop} {q:Q}
@[reducible] def thenJ (σ:A→St) (j:A→Option Q) (q:Q) (post:Exit→St→Prop):Exit→St→Prop
 | .normal,s=> ∃a,j a=some q∧s=σ a
 |e,s=>post e s
@[reducible] def thenS (E:Env) (y:Code) (post:Exit→St→Prop):Exit→St→Prop
 | .normal,s=>Tri E y s post
 |e,s=>post e s
@[reducible] def inB' (id:Nat) (post:Exit→St→Prop):Exit→St→Prop
 | .exit id',s=>match Nat.beq id' id with|true=>post .normal s|false=>post (.exit id') s
 |e,s=>post e s
theorem z02 {x y:Code}(h:Tri E x s (thenS E y post)):Tri E (.seq x y) s post:=
 Tri.seq (h.mono fun e s hp=>by cases e<;>exact hp)
theorem z0g {x y:Code}(σ:A→St){j:A→Option Q}{k:(A→Option Q)→Option Q}(h:jn j k=some q)(hy: ∀a,j a=some q→Tri E y (σ a) post)
 (hx: ∀j',k j'=some q→Tri E x s (thenJ σ j' q post)):Tri E (.seq x y) s post:=
 z02 ((hx j h).mono fun e s hp=>by
  cases e with
  |normal=>obtain⟨a,h1,rfl⟩:=hp;exact hy a h1
  |_=>exact hp)
theorem z0n {id:Nat}{c:Code}(h:Tri E c s (inB' id post)):Tri E (.block id c) s post:=
 Tri.block (h.mono fun e s hp=>by
  cases e with
  |exit id'=>
   show if id'=id then _ else _;have hp:(match Nat.beq id' id with|true=>post .normal s|false=>post (.exit id') s):=hp
   cases hb:Nat.beq id' id with
   |true=>rw[if_pos (zz3 hb)];rw[hb]at hp;exact hp
   |false=>
    have:id'≠id:=fun e=>by rw[e]at hb;simp at hb
    rw[if_neg this];rw[hb]at hp;exact hp
  |_=>exact hp)
theorem zn4 {c:Operand}{x y:Code}{b:Bool}{u v:Option Q}(hb:evO s c=some (.c (.d (.bool b)))) (h:bf b u v=some q) (ht:u=some q→Tri E x s post) (hf:v=some q→Tri E y s post):
 Tri E (.cond c x y) s post:=
 Tri.cond hb (fun e=>ht (by subst e;exact h)) fun e=>hf (by subst e;exact h)
theorem Tri.keep (tk sk:List Nat){s':St}{c:Code}(hk:Av.keep tk sk s=some s')(h:Tri E c s' post):Tri E c s post:=
 Tri.weaken (fun _ _=>ze0 hk) h
def At (E:Env)(L:List Oper)(i:Nat)(s:St)(K:St→Prop):Prop:=Ops E L.toArray (L.drop i) s K
theorem z07 {id:Nat}{L:List Oper}(h:At E L 0 s (post .normal)):Tri E (.region id L.toArray false) s post:=Tri.region h
variable {L:List Oper} {i:Nat} {K:St→Prop}
theorem At.done (hi:Nat.ble L.length i=true)(h:K s):At E L i s K:=by
 unfold At;rw[List.drop_eq_nil_of_le (zz5 hi)];exact Ops.nil h
theorem At.seg (n:Nat)(tk sk:List Nat){s':St}{c:Prop}(he:z6x E.P E.N L.toArray ((L.drop i).take n) tk sk s=some (s',c))(hc:c)(h:At E L (i+n) s' K):At E L i s K:=by
 unfold At at h ⊢;have:=Ops.seg he hc h
 rwa[←List.drop_drop,List.take_append_drop]at this
theorem At.one {o:Oper}(ho:L[i]?=some o){s':St}(h1:One E L.toArray o s s')(h:At E L (i+1) s' K):At E L i s K:=by
 unfold At at h ⊢;obtain⟨hlt,he⟩:=List.getElem?_eq_some_iff.1 ho;rw[List.drop_eq_getElem_cons hlt,he];exact Ops.one h1 h
theorem At.case (f:Bool→St){b:Bool}{u v:Option Q}(h:bf b u v=some q)(ht:u=some q→At E L i (f true) K)(hf:v=some q→At E L i (f false) K):At E L i (f b) K:=by
 cases b
 ·exact hf h
 ·exact ht h
theorem At.keep (tk sk:List Nat){s':St}(hk:Av.keep tk sk s=some s')(h:At E L i s' K):At E L i s K:=
 fun a w hs=>h a w (ze0 hk hs)
theorem At.call {o:Oper}{cl:Call}{f:FuncId}{caps:List D}{xs args:List AV}{res:AV}(ho:L[i]?=some o)
 (hop:o.op= .call cl) (hw:z0v L.toArray s o=some true) (hd:dstOk E.N o.dst=true) (hc:z7k s cl=some (f,caps)) (hx:z91 s cl caps=some xs)
 (hle:AVsArg s xs args) (hfl:z7p args=true) (hsol:res.solid=true) (hS:Summ E.P f args [] res []) (h:At E L (i+1) (putO s o.dst res) K):At E L i s K:=
 At.one ho (One.call hop hw hd hc hx hle hfl hsol hS) h
theorem At.callP {o:Oper}{cl:Call}{f:FuncId}{caps:List D}{args:List AV}{res:AV}(hS:Summ E.P f args [] res [])(ho:L[i]?=some o)
 (hop:o.op= .call cl) (hw:z0v L.toArray s o=some true) (hd:dstOk E.N o.dst=true) (hc:z7k s cl=some (f,caps)) (hx:z91 s cl caps=some args)
 (hfl:z7p args=true) (hsol:res.solid=true) (h:At E L (i+1) (putO s o.dst res) K):At E L i s K:=
 At.one ho (One.call hop hw hd hc hx (AVsArg.refl _ _) hfl hsol hS) h
theorem At.le (fz:List Nat)(hfz: ∀k∈fz,k∉E.lk)(s':St)(ht:LeT s fz s'.tm)(hs:LeS s fz s'.sl)(h:At E L i s' K):At E L i s K:=
 Ops.le fz hfz s' ht hs h
theorem z1x {X:Type}[Inhabited X](e:X→List D)(xs:List X)(i:Nat)(hi:i<xs.length):e (xs.getD i zzd)=(xs.map e).getD (0+i) []:=by
 rw[zza,List.getD_eq_getElem?_getD,List.getD_eq_getElem?_getD,List.getElem?_map,List.getElem?_eq_getElem hi];rfl
def z14 (k:IntKind)(n:Int):List D:=[.int k n]
def bs (l:List Nat):ByteArray:=⟨(l.map UInt8.ofNat).toArray⟩
theorem Tri.lenOf {t es n:Nat}{get:Nat→List D}{c:Code}(ht:look s.tm t=some (.c (.d (.list es n get)))) (h:n≤maxN→Tri E c s post):Tri E c s post:=fun a w hs=>by
 obtain⟨G,φ,hs'⟩:=hs;obtain⟨v,_,hr⟩:=hs'.tm t _ ht;have hr:RelD G w (.list es n get) v:=hr.1
 have hn:n≤maxN:=by
  cases hr with
  |empty _ _ _ _=>exact Nat.zero_le _
  |list _ _ _ _ _ _ _ _ _ hm _ _ _=>exact hm
 exact h hn a w ⟨G,φ,hs'⟩
theorem zme {t es n:Nat}{get:Nat→List D}{c:Code}(ht:look s.tm t=some (.c (.view es n get)))(h:n≤maxN→Tri E c s post):Tri E c s post:=fun a w hs=>by
 obtain⟨G,φ,hs'⟩:=hs;obtain⟨v,_,hr⟩:=hs'.tm t _ ht;have hn:n≤maxN:=by
  rcases hr.1 with⟨h0,_⟩|⟨_,_,_,_,_,_,hm,_⟩
  ·omega
  ·exact hm
 exact h hn a w ⟨G,φ,hs'⟩
theorem z7z {t k es off n N:Nat}{get:Nat→List D}{c:Code}(ht:look s.tm t=some (.c (.own k es off n)))(hk:look s.sl k=some (.vec es N get))(hn:n≤N)(h:n≤maxN→Tri E c s post):Tri E c s post:=fun a w hs=>by
 obtain⟨G,φ,hs'⟩:=hs;obtain⟨h1,_⟩:=hs'.sl k _ hk;exact h (by omega) a w ⟨G,φ,hs'⟩
def idx (ti i:Nat)(s:St):St:=s.put ti (.c (.d (.int .i64 (i:Int))))
@[reducible] def zjx (cid b ti:Nat) (σ F:S→St) (RT:R→St→Prop) (i:Nat):Ctl S R→Exit→St→Prop
 | .next st,.normal,s=>s=idx ti i (σ st)
 | .next st,.exit id,s=>id=cid∧s=idx ti i (σ st)
 | .brk st,.exit id,s=>id=b∧s=F st
 | .ret x,.ret,s=>RT x s
 |_,_,_=>False
@[reducible] def zfs (b:Nat) (σ F:S→St) (RT:R→St→Prop):Ctl S R→Exit→St→Prop
 | .next st,.normal,s=>s=σ st
 | .brk st,.exit id,s=>id=b∧s=F st
 | .ret x,.ret,s=>RT x s
 |_,_,_=>False
@[reducible] def zm0 (F:S→St) (RT:R→St→Prop):Out S R→Exit→St→Prop
 | .done st,.normal,s=>s=F st
 | .ret x,.ret,s=>RT x s
 |_,_,_=>False
theorem zis {b:Nat}{c:Code}{B:S→Option (Ctl S R)}(RT:R→St→Prop)(σ F:S→St){fuel:Nat}{st0:S}{o:Out S R}(h:loopN B fuel st0=some o)
 (hround: ∀st r,B st=some r→Tri E c (σ st) (zfs b σ F RT r)):Tri E (.block b (.loop c)) (σ st0) (zm0 F RT o):=by
 refine Tri.block (Tri.loop (fun n s=> ∃st,s=σ st∧loopN B n st=some o) ?_ (n:=fuel) ⟨st0,rfl,h⟩);rintro n s ⟨st,rfl,hn⟩;cases n with
 |zero=>cases hn
 |succ n=>
  simp only[loopN]at hn;cases hB:B st with
  |none=>rw[hB]at hn;cases hn
  |some r=>
   rw[hB]at hn;refine(hround st r hB).mono fun e s' hp=>?_;cases r with
   |next st'=>
    cases e with
    |normal=>exact⟨n,Nat.lt_succ_self _,st',hp,hn⟩
    |_=>exact hp.elim
   |brk st'=>
    cases hn;cases e with
    |exit id=>
     obtain⟨rfl,rfl⟩:=hp;show inB id _ (.exit id) _;simp[inB]
    |_=>exact hp.elim
   |ret x=>
    cases hn;cases e with
    |ret=>exact hp
    |_=>exact hp.elim
theorem zmg {b:Nat}{c:Code}{B:Nat→S→Option (Ctl S R)}(RT:R→St→Prop)(σ:Nat→S→St)(F:S→St){n:Nat}{st0:S}{o:Out S R}(h:z0l B n 0 st0=some o)
 (hround: ∀i st r,i<n→B i st=some r→Tri E c (σ i st) (match r with| .next st'=>fun e s=>e= .normal∧s=σ (i+1) st'| .brk st'=>fun e s=>e= .exit b∧s=F st'| .ret x=>fun e s=>e= .ret∧RT x s))
 (hstop: ∀st,Tri E c (σ n st) (fun e s=>e= .exit b∧s=F st)):Tri E (.block b (.loop c)) (σ 0 st0) (zm0 F RT o):=by
 refine Tri.block (Tri.loop (fun m s=> ∃i st,m+i=n∧s=σ i st∧z0l B m i st=some o) ?_ (n:=n) ⟨0,st0,by omega,rfl,h⟩);rintro m s ⟨i,st,hm,rfl,hn⟩;cases m with
 |zero=>
  cases hn;have:i=n:=by omega
  subst this;refine(hstop st).mono fun e s' ⟨h1,h2⟩=>?_;subst h1 h2;show inB b _ (.exit b) _;simp[inB]
 |succ m=>
  simp only[z0l]at hn;cases hB:B i st with
  |none=>rw[hB]at hn;cases hn
  |some r=>
   rw[hB]at hn;refine(hround i st r (by omega) hB).mono fun e s' hp=>?_;cases r with
   |next st'=>
    obtain⟨rfl,rfl⟩:=hp;exact⟨m,Nat.lt_succ_self _,i+1,st',by omega,rfl,hn⟩
   |brk st'=>
    cases hn;obtain⟨rfl,rfl⟩:=hp;show inB b _ (.exit b) _;simp[inB]
   |ret x=>
    cases hn;obtain⟨rfl,hp⟩:=hp;exact hp
theorem       z64 {b : Nat} {c : Code} {B : S → Option (Ctl S R)} {kn : S → Option Q} {kr : R → Option Q} {st0 : S} {fuel : Nat} (RT : R → St → Prop) (σ F : S → St)
    (h : outK (loopN B fuel st0) kn kr = some q) (hround : ∀ st r, B st = some r → Tri E c (σ st) (      zfs b σ F RT r))
    (hrest : ∀ st, kn st = some q → post .normal (F st)) (hret : ∀ x s', kr x = some q → RT x s' → post .ret s') : Tri E (.block b (.loop c)) (σ st0) post := by
  obtain ⟨s', ho, hk⟩ | ⟨x, ho, hk⟩ :=       zfn h
  · refine (      zis RT σ F ho hround).mono fun e s hp => ?_
    cases e with
    | normal => have hp : s = F s' := hp
                subst hp; exact hrest _ hk
    | _ => exact hp.elim
  · refine (      zis RT σ F ho hround).mono fun e s hp => ?_
    cases e with
    | ret => exact hret _ _ hk hp
    | _ => exact hp.elim
theorem zoe {i:Nat}(h:i<maxN):zzi.wrap ((i:Int)+1)=((i+1:Nat):Int):=by
 unfold maxN at h;rw[z3r (by omega) (by omega)];simp
theorem Tri.range {ti tc n b cid id1 id2 : Nat} {L1 L2 : List Oper} {body : Code} {B : Nat → S → Option (Ctl S R)} {kn : S → Option Q} {kr : R → Option Q} {st0 : S} (RT : R → St → Prop) (σ F : S → St) (bb : Nat → Bool)
    (tk sk tkF skF tk2 sk2 : List Nat) (h : outK (   z0l B n 0 st0) kn kr = some q) (hn : n ≤ maxN) (hbc : Nat.beq b cid = false)
    (h1 : ∀ i st, ∃ c,     z6x E.P E.N L1.toArray L1 tk sk (idx ti i (σ st)) = some ((idx ti i (σ st)).put tc (.c (.d (.bool (bb i)))), c) ∧ c)
    (hbt : ∀ i, i < n → bb i = true) (hbf : bb n = false) (hF : ∀ st, Av.keep tkF skF ((idx ti n (σ st)).put tc (.c (.d (.bool false)))) = some (F st))
    (h2 : ∀ i st, ∃ c,     z6x E.P E.N L2.toArray L2 tk2 sk2 (idx ti i (σ st)) = some ((σ st).put ti (.c (.d (.int .i64 (        zzi.wrap ((i : Int) + 1))))), c) ∧ c)
    (hbody : ∀ i st c, i < n → B i st = some c → Tri E body ((idx ti i (σ st)).put tc (.c (.d (.bool true)))) (     zjx cid b ti σ F RT i c))
    (hrest : ∀ st, kn st = some q → post .normal (F st)) (hret : ∀ x s', kr x = some q → RT x s' → post .ret s') :
    Tri E (.block b (.loop (.seq (.region id1 L1.toArray false) (.seq (.cond (.tmp tc) .skip (.exit b)) (.seq (.block cid body) (.region id2 L2.toArray false)))))) (idx ti 0 (σ st0)) post := by
  have hfirst : ∀ i st post', Tri E (.seq (.cond (.tmp tc) .skip (.exit b)) (.seq (.block cid body) (.region id2 L2.toArray false))) ((idx ti i (σ st)).put tc (.c (.d (.bool (bb i))))) post' →
      Tri E (.seq (.region id1 L1.toArray false) (.seq (.cond (.tmp tc) .skip (.exit b)) (.seq (.block cid body) (.region id2 L2.toArray false)))) (idx ti i (σ st)) post' := fun i st post' ht => by
    obtain ⟨c, e1, e2⟩ := h1 i st
    refine      z02 (Tri.region ?_)
    have := Ops.seg (rest := []) e1 e2 (Ops.nil (K := (thenS E _ post') .normal) ht)
    simpa using this
  have hlook : ∀ i st (x : Bool), evO ((idx ti i (σ st)).put tc (.c (.d (.bool x)))) (.tmp tc) = some (.c (.d (.bool x))) := fun i st x => by
    simp [evO, St.put,       z0t]
  obtain ⟨s', ho, hk⟩ | ⟨x, ho, hk⟩ :=       zfn h
  all_goals
    refine (       zmg (E := E) (b := b) RT (fun i st => idx ti i (σ st)) F ho (fun i st r hi hB => hfirst i st _ ?_) (fun st => hfirst n st _ ?_)).mono fun e s' hp => ?_
  case inl.refine_1 | inr.refine_1 =>
    rw [hbt i hi]
    refine      z02 (Tri.cond (hlook i st true) (fun _ => Tri.skip ?_) (fun e => by cases e))
    refine      z02 (       z0n ((hbody i st r hi hB).mono fun e s' hp => ?_))
    have fin : ∀ st', s' = idx ti i (σ st') → Tri E (.region id2 L2.toArray false) s' (fun e s => e = .normal ∧ s = idx ti (i + 1) (σ st')) := fun st' e => by
      subst e
      obtain ⟨c, e1, e2⟩ := h2 i st'
      refine Tri.region ?_
      have := Ops.seg (rest := []) e1 e2 (Ops.nil (K := fun s => Exit.normal = .normal ∧ s = idx ti (i + 1) (σ st')) ⟨rfl, by rw [      zoe (by omega)]; rfl⟩)
      simpa using this
    cases r with
    | next st' =>
      cases e with
      | normal => exact fin st' hp
      | exit id =>
        obtain ⟨rfl, hp⟩ := hp
        show (match Nat.beq id id with | true => _ | false => _)
        rw [Nat.beq_refl]
        exact fin st' hp
      | _ => exact hp.elim
    | brk st' =>
      cases e with
      | exit id =>
        obtain ⟨rfl, hp⟩ := hp
        show (match Nat.beq id cid with | true => _ | false => _)
        rw [hbc]
        exact ⟨rfl, hp⟩
      | _ => exact hp.elim
    | ret x =>
      cases e with
      | ret => exact ⟨rfl, hp⟩
      | _ => exact hp.elim
  case inl.refine_2 | inr.refine_2 =>
    rw [hbf]
    refine      z02 (Tri.cond (hlook n st false) (fun e => by cases e) (fun _ => Tri.keep tkF skF (hF st) (Tri.exit ⟨rfl, rfl⟩)))
  case inl.refine_3 =>
    cases e with
    | normal => have hp : s' = F _ := hp
                subst hp; exact hrest _ hk
    | _ => exact hp.elim
  case inr.refine_3 =>
    cases e with
    | ret => exact hret _ _ hk hp
    | _ => exact hp.elim
end
end Go.Av
/-
 Av,part W:rules over lists.
-/
namespace Go.Av
open Go
theorem zhz {X:Type}[Inhabited X](e:X→List D)(xs:List X)(m:Nat): ∀i,i<m→e (xs.getD i zzd)=(fun i=>e (xs.getD i zzd)) (0+i):=fun i _=>by
 show _=e (xs.getD (0+i) zzd);rw[zza]
theorem zff {X:Type}[Inhabited X](xs ys:List X)(i:Nat):(xs++ys).getD i zzd=if i<xs.length then xs.getD i zzd else ys.getD (i-xs.length) zzd:=by
 simp only[List.getD_eq_getElem?_getD,List.getElem?_append];split<;>rfl
section
variable {E:Env} {s:St} {X:Type} [Inhabited X]
theorem AppOk.of {P:Program}{sT xT e:TypeId}{es:Nat}(e':TypeId)(bs:Nat)(z:List C)(h1:P.underlying sT=some (.slice e))(h2:P.underlying xT=some (.slice e'))(h3:sizeT P e=some es)
 (h4:z9s P e=some bs) (h5:Nat.ble bs 256=true) (h6:zeroCells P e=some z) (h7:Nat.beq z.length es=true):AppOk P sT xT e es:=
 ⟨h1,⟨e',h2⟩,h3,⟨bs,h4,zz5 h5⟩,⟨z,h6,zz3 h7⟩⟩
theorem z8o {ops:Array Oper}{o:Oper}{t e:TypeId}{es d:Nat}
 (hop:o.op= .buildSlice t 0 #[]) (hw:z0v ops s o=some true) (hd:o.dst=some d) (hlt:Nat.blt d E.N=true) (hu:E.P.underlying t=some (.slice e)) (hsz:sizeT E.P e=some es):
 One E ops o s (s.put d (.c .zero)):=fun a w hs=>by
 obtain⟨G,φ,h⟩:=hs;refine⟨z2e h hw,fun next Q hn=>?_⟩;have hrun:(Instr.buildSlice t 0 ((#[]:Array (Nat×Operand)).map fun p=>(p.1,a.eval p.2))).run E.P w= .ok (.slice (some ⟨w.heap.size,0,none⟩) 0 0) (w.alloc (.cells #[] e)):=by
  unfold Instr.buildSlice;simp only[zz8,run_underlying hu,zz1,z2s hsz];have hr0: ∀f:Nat→Value,(Array.range 0).map f= #[]:=fun f=>by simp
  simp[z6l,Instr.fill,hr0]
 unfold Oper.wp;have he:execOp a.eval o=(do pure (.value (←Instr.buildSlice t 0 ((#[]:Array (Nat×Operand)).map fun p=>(p.1,a.eval p.2)))):Sem Next):=by unfold execOp;rw[hop]
 rw[he];simp only[zz8,hrun,zz1,zzb,Oper.upon,hd];have hk:Keep w.heap.size (fun _=>False) w (w.alloc (.cells #[] e)):=⟨rfl,⟨rfl,zzc _⟩,rfl,by simp,fun b hb _=>by
  show(w.heap.push _)[b]?=_;rw[Array.getElem?_push,if_neg (by omega)]⟩
 have hg:=h.grow hk (fun _ hb=>hb) (fun _ hb=> .inl hb) fun b hb=>by have:=h.gsz b hb;simp;omega
 exact hn _ _ ⟨G,φ,hg.put (zzo.mp hlt) (z0k ⟨_,rfl⟩ rfl)⟩
theorem z2j {ops:Array Oper}{o:Oper}{d k:Nat}{sT xT e:TypeId}{es:Nat}{b x:Operand}{y:AV}(enc:X→List D)(xs ys:List X)(hkx:anyB (Nat.beq k) E.fx=false)
 (hop:o.op= .call ⟨.builtin .append, #[b,x], #[sT,xT]⟩) (hw:z0v ops s o=some true) (hd:o.dst=some d) (hlt:Nat.blt d E.N=true)
 (hok:AppOk E.P sT xT e es) (hb:evO s b=some (.c (.own k es 0 xs.length))) (hk:look s.sl k=some (.vec es xs.length (fun i=>enc (xs.getD i zzd)))) (hx:evO s x=some y)
 (hsrc:SrcOf s y es ys.length (fun i=>enc (ys.getD i zzd))) (hlim:xs.length+ys.length≤lim):
 One E ops o s (((s.drop k).slot k (.vec es (xs++ys).length (fun i=>enc ((xs++ys).getD i zzd)))).put d (.c (.own k es 0 (xs++ys).length))):=by
 have:=zjk hkx hop hw hd hlt hok hb hk (zzc _) hx hsrc hlim;rw[zzg];have hg:z9p xs.length (fun i=>enc (xs.getD i zzd)) (fun i=>enc (ys.getD i zzd))=fun i=>enc ((xs++ys).getD i zzd):=by
  funext i;unfold z9p;rw[zff];split<;>rfl
 rw[hg]at this;exact this
theorem zex {ops:Array Oper}{o:Oper}{d:Nat}{t e:TypeId}{es bs:Nat}{ln cp:Operand}{kn kc:IntKind}{n c:Int}{z:List C}(enc:X→List D)(x:X)
 (hop:o.op= .makeSlice t ln cp) (hw:z0v ops s o=some true) (hd:o.dst=some d) (hlt:Nat.blt d E.N=true) (hnr:s.noRef d=true)
 (hu:E.P.underlying t=some (.slice e)) (hsz:sizeT E.P e=some es) (hes:Nat.blt 0 es=true) (hbs:z9s E.P e=some bs) (hb:Nat.ble bs 256=true)
 (hz:zeroCells E.P e=some z) (hze:Nat.beq z.length es=true) (hcs:CsLe s [] z ((enc x).map .d)) (hdl:Nat.beq (enc x).length es=true)
 (hn:evO s ln=some (.c (.d (.int kn n)))) (hc:evO s cp=some (.c (.d (.int kc c)))) (hb0:0≤n) (hnc:n≤c) (hlim:c≤lim) (hdef:enc zzd=enc x):
 One E ops o s ((s.slot d (.vec es (zz9 n.toNat x).length (fun i=>enc ((zz9 n.toNat x).getD i zzd)))).put d (.c (.own d es 0 (zz9 n.toNat x).length))):=by
 have:=One.makeSlice hop hw hd hlt hnr hu hsz hes hbs hb hz hze hcs hdl hn hc hb0 hnc hlim;rw[List.length_replicate];have hg:(fun _:Nat=>enc x)=fun i=>enc ((zz9 n.toNat x).getD i zzd):=by
  funext i;rw[List.getD_eq_getElem?_getD,List.getElem?_replicate];split
  ·rfl
  ·exact hdef.symm
 rw[hg]at this;exact this
theorem z0y {ops:Array Oper}{o:Oper}{t:TypeId}{p v:Operand}{k es i o0 sz:Nat}{y:AV}{xs:List C}{ds:List D}(enc:X→List D)(ys:List X)(x:X)
 (hop:o.op= .store t p v) (hw:z0v ops s o=some true) (hd:dstOk E.N o.dst=true) (hp:evO s p=some (.c (.vptr k es i o0))) (hk:look s.sl k=some (.vec es ys.length (fun i=>enc (ys.getD i zzd)))) (hi:i<ys.length)
 (hx:evO s v=some y) (hst:z8l y=some xs) (hcs:CsLe s [] xs (ds.map .d)) (hsz:sizeT E.P t=some sz) (hle:Nat.beq sz ds.length=true) (hin:Nat.ble (o0+ds.length) es=true)
 (hwr:wrD (enc (ys.getD i zzd)) o0 ds=enc x):
 One E ops o s (putO (s.slot k (.vec es (ys.set i x).length (fun j=>enc ((ys.set i x).getD j zzd)))) o.dst (.c .any)):=by
 have:=zjl hop hw hd hp hk hi hx hst hcs hsz hle hin;rw[zze];have hg:zfv (fun i=>enc (ys.getD i zzd)) i (wrD (enc (ys.getD i zzd)) o0 ds)=fun j=>enc ((ys.set i x).getD j zzd):=by
  funext j;unfold zfv;by_cases e:j=i
  ·subst e;rw[if_pos rfl,hwr,List.getD_eq_getElem?_getD,List.getElem?_set_self hi];rfl
  ·rw[if_neg e];show enc (ys.getD j zzd)=enc ((ys.set i x).getD j zzd);rw[List.getD_eq_getElem?_getD,List.getD_eq_getElem?_getD,List.getElem?_set_ne (fun h=>e h.symm)]
 rw[hg]at this;exact this
def sub (xs:List X)(l h:Int):List X:=(xs.drop l.toNat).take (h.toNat-l.toNat)
theorem zmy {xs:List X}{l h:Int}(h0:0≤l)(h1:l≤h)(h2:h≤(xs.length:Int)):(Av.sub xs l h).length=h.toNat-l.toNat:=by
 unfold sub;rw[List.length_take,zzl];omega
theorem zpe {xs:List X}{l h:Int}{i:Nat}(hi:i<h.toNat-l.toNat):(Av.sub xs l h).getD i zzd=xs.getD (l.toNat+i) zzd:=by
 unfold sub;rw[List.getD_eq_getElem?_getD,List.getD_eq_getElem?_getD,List.getElem?_take,if_pos hi,List.getElem?_drop]
theorem CLe.subD {fz:List Nat}{es:Nat}(enc:X→List D){xs:List X}{l h:Int}(h0:0≤l)(h1:l≤h)(h2:h≤(xs.length:Int)):
 CLe s fz (.d (.list es (h.toNat-l.toNat) (fun i=>enc (xs.getD (l.toNat+i) zzd)))) (.d (.list es (Av.sub xs l h).length (fun i=>enc ((Av.sub xs l h).getD i zzd)))):=
 .list (zmy h0 h1 h2) fun i hi=>by rw[zpe hi]
theorem SimE.newOwn {a:Act}{w:World}(h:SimE E s a w){t k es:Nat}{get:Nat→List D}(hkx:anyB (Nat.beq k) E.fx=false)(hz:look s.tm t=some (.c .zero))(hk:s.noRef k=true):
 SimE E ((s.slot k (.vec es 0 get)).put t (.c (.own k es 0 0))) a w:=by
 obtain⟨G,φ,h⟩:=h;have hs:=h.newVec0 (z7m hkx) hk es get
 obtain⟨v,hv,hr⟩:=h.tm t _ hz;refine⟨G,upd φ k none,{hs with tm:=fun t' x hx=>?_}⟩;simp only[St.put,z0t]at hx;by_cases e:t=t'
 ·subst e;rw[if_pos rfl]at hx;cases hx;obtain⟨A,rfl⟩:=hr.1;exact⟨_,hv,z0k (.inl ⟨rfl,A,rfl⟩) rfl⟩
 ·rw[if_neg e]at hx;exact hs.tm t' x hx
theorem Tri.newOwn {c:Code}{post:Exit→St→Prop}{t k es:Nat}(get:Nat→List D)(hkx:anyB (Nat.beq k) E.fx=false)(hz:look s.tm t=some (.c .zero))(hk:s.noRef k=true)
 (h:Tri E c ((s.slot k (.vec es 0 get)).put t (.c (.own k es 0 0))) post):Tri E c s post:=fun a w hs=>h a w (hs.newOwn hkx hz hk)
theorem At.newOwn {L:List Oper}{i:Nat}{K:St→Prop}{t k es:Nat}(get:Nat→List D)(hkx:anyB (Nat.beq k) E.fx=false)(hz:look s.tm t=some (.c .zero))(hk:s.noRef k=true)
 (h:At E L i ((s.slot k (.vec es 0 get)).put t (.c (.own k es 0 0))) K):At E L i s K:=fun a w hs=>h a w (hs.newOwn hkx hz hk)
theorem At.eqS {L:List Oper}{i:Nat}{K:St→Prop}(s':St)(e:s=s')(h:At E L i s' K):At E L i s K:=e▸h
theorem Tri.eqS {c:Code}{post:Exit→St→Prop}(s':St)(e:s=s')(h:Tri E c s' post):Tri E c s post:=e▸h
theorem At.callA {L:List Oper}{i:Nat}{K:St→Prop}{o:Oper}{cl:Call}{f:FuncId}{caps:List D}{xs args:List AV}{res:AV}(hS:Summ E.P f args [] res [])(ho:L[i]?=some o)
 (hop:o.op= .call cl) (hw:z0v L.toArray s o=some true) (hd:dstOk E.N o.dst=true) (hc:z7k s cl=some (f,caps)) (hx:z91 s cl caps=some xs) (hle:AVsArg s xs args)
 (hfl:z7p args=true) (hsol:res.solid=true) (h:At E L (i+1) (putO s o.dst res) K):At E L i s K:=
 At.one ho (One.call hop hw hd hc hx hle hfl hsol hS) h
theorem AVArg.view {k es:Nat}(enc:X→List D)(xs:List X)(hk:look s.sl k=some (.vec es xs.length (fun i=>enc (xs.getD i zzd)))):
 AVArg s (.c (.own k es 0 xs.length)) (.c (.view es xs.length (fun i=>enc (xs.getD i zzd)))):=
 .c (.own hk (by omega) rfl (zhz enc xs _))
theorem CLe.frozen {k es:Nat}{fz:List Nat}(enc:X→List D)(xs:List X)(hk:look s.sl k=some (.vec es xs.length (fun i=>enc (xs.getD i zzd)))) (hf:k∈fz):
 CLe s fz (.own k es 0 xs.length) (.d (.list es xs.length (fun i=>enc (xs.getD i zzd)))):=
 .own hk hf (by omega) rfl (zhz enc xs _)
theorem zey {G:Nat→Prop}{φ:Nat→Option Loc}{a:Act}{w:World}{tm:List (Nat×AV)}{sl:List (Nat×Slot)}{k es n:Nat}{get get':Nat→List D}
 (h:Sim E ⟨tm,(k,.vec es n get)::sl⟩ G φ a w) (hg: ∀i,i<n→get' i=get i):Sim E ⟨tm,(k,.vec es n get')::sl⟩ G φ a w:=by
 have hin: ∀k' c,look ((k,Slot.vec es n get')::sl) k'=some c→(k'=k∧c= .vec es n get')∨(k'≠k∧look ((k,Slot.vec es n get)::sl) k'=some c):=fun k' c hc=>by
  rw[z0t]at hc;by_cases e:k=k'
  ·subst e;rw[if_pos rfl]at hc;cases hc;exact .inl ⟨rfl,rfl⟩
  ·rw[if_neg e]at hc;exact .inr ⟨fun x=>e x.symm,by rw[z0t,if_neg e];exact hc⟩
 have hk:look ((k,Slot.vec es n get)::sl) k=some (.vec es n get):=by simp[z0t]
 have hex: ∀k' c,look ((k,Slot.vec es n get')::sl) k'=some c→ ∃c0,look ((k,Slot.vec es n get)::sl) k'=some c0:=fun k' c hc=>by
  rcases hin k' c hc with⟨rfl,_⟩|⟨_,h⟩
  ·exact⟨_,hk⟩
  ·exact⟨_,h⟩
 exact
 {h with
  sl:=fun k' c hc=>by
   rcases hin k' c hc with⟨rfl,rfl⟩|⟨_,hc⟩
   ·obtain⟨h1,h2⟩:=h.sl _ _ hk;exact⟨h1,h2.imp id fun⟨l,hl,hn,ht,he⟩=>⟨l,hl,hn,ht,fun i hi=>by rw[hg i hi];exact he i hi⟩⟩
   ·exact h.sl k' c hc
  inj:=fun k1 k2 c1 c2 l1 l2 h1 h2=>by
   obtain⟨_,h1⟩:=hex _ _ h1;obtain⟨_,h2⟩:=hex _ _ h2;exact h.inj _ _ _ _ _ _ h1 h2
  own:=fun k' c l h1 h2=>by
   obtain⟨_,h1⟩:=hex _ _ h1;exact h.own _ _ _ h1 h2
  fix:=fun k' c hx h1=>by
   obtain⟨_,h1⟩:=hex _ _ h1;exact h.fix _ _ hx h1}
theorem z3e {ops:Array Oper}{o:Oper}{t e:TypeId}{len es d:Nat}{parts:Array (Nat×Operand)}{z cells:List C}(enc:X→List D)(xs:List X)
 (hop:o.op= .buildSlice t len parts) (hw:z0v ops s o=some true) (hd:o.dst=some d) (hlt:Nat.blt d E.N=true) (hnr:s.noRef d=true)
 (hu:E.P.underlying t=some (.slice e)) (hsz:sizeT E.P e=some es) (hz:zeroCells E.P e=some z) (hze:Nat.beq z.length es=true) (hes:Nat.blt 0 es=true) (hle:Nat.ble (len*es) 16777216=true)
 (hf:fillC (fun i=>some (i*es,es)) (repC z (len*es)) (parts.toList.map fun p=>(p.1,evO s p.2))=some cells) (hlen:Nat.beq xs.length len=true) (hall:AllLe s es cells (xs.map enc)):
 One E ops o s ((s.slot d (.vec es xs.length (fun i=>enc (xs.getD i zzd)))).put d (.c (.own d es 0 xs.length))):=by
 have hl:=zz3 hlen;refine(One.buildSlice hop hw hd hlt hnr hu hsz hz hze hes hle hf (by simpa using hlen) hall).weaken fun a w hs=>?_;obtain⟨G,φ,h⟩:=hs;rw[hl];exact⟨G,φ,zey h fun i hi=>by
  have:=z1x enc xs i (by omega);rw[zza]at this;exact this⟩
theorem zjp {P:Program}{w:World}{t e:TypeId}(hu:P.underlying t=some (.slice e))(D:Nat)(A:Option Addr)(n cap:Nat):
 (Op.equalIn (D+1) t (.slice A n cap) (.slice none 0 0)).run P w= .ok A.isNone w:=by
 simp only[Op.equalIn,zz8,run_underlying hu,zz1];cases A<;>rfl
theorem zft {P:Program}{w:World}{t e:TypeId}{x:Operand}(hu:P.underlying t=some (.slice e))(A:Option Addr)(n cap:Nat):
 (do eqGuard .eql t x (.const (.slice none 0 0)) (.slice A n cap) (.slice none 0 0);Go.binOp .eql t (.slice A n cap) (.slice none 0 0):Sem Value).run P w= .ok (.bool A.isNone) w:=by
 have h1:(eqGuard .eql t x (.const (.slice none 0 0)) (.slice A n cap) (.slice none 0 0)).run P w= .ok () w:=rfl;have h2:(Op.equal t (.slice A n cap) (.slice none 0 0)).run P w= .ok A.isNone w:=zjp hu 9999 A n cap
 have h3:(Go.binOp .eql t (.slice A n cap) (.slice none 0 0)).run P w= .ok (.bool A.isNone) w:=by
  show(do pure (.bool (←Op.equal t (.slice A n cap) (.slice none 0 0))):Sem Value).run P w=_;simp only[zz8,h2,zz1,zzb]
 simp only[zz8,h1,zz1,h3]
theorem z9n {L:List Oper}{i:Nat}{K:St→Prop}{o:Oper}{t e yt:TypeId}{x:Operand}{es n d:Nat}{get:Nat→List D}(ho:L[i]?=some o)
 (hop:o.op= .binOp .eql t x (.const (.slice none 0 0)) yt) (hw:z0v L.toArray s o=some true) (hd:o.dst=some d) (hlt:Nat.blt d E.N=true)
 (hu:E.P.underlying t=some (.slice e)) (hx:evO s x=some (.c (.d (.list es n get))))
 (h1:n=0→At E L (i+1) (s.put d (.c (.d (.bool true)))) K) (h2:At E L (i+1) (s.put d (.c (.d (.bool false)))) K):At E L i s K:=fun a w hs Q hQ=>by
 obtain⟨hlt',he⟩:=List.getElem?_eq_some_iff.1 ho;rw[List.drop_eq_getElem_cons hlt',he];obtain⟨G,φ,h⟩:=hs;unfold wpList;rw[if_pos (z2e h hw)];left;have hv:RelD G w (.list es n get) (a.eval x):=(h.ev hx).1
 have hex:execOp a.eval o=(do pure (.value (←(do eqGuard .eql t x (.const (.slice none 0 0)) (a.eval x) (.slice none 0 0);Go.binOp .eql t (a.eval x) (.slice none 0 0):Sem Value))):Sem Next):=by unfold execOp;rw[hop];rfl
 have key: ∀b,(do eqGuard .eql t x (.const (.slice none 0 0)) (a.eval x) (.slice none 0 0);Go.binOp .eql t (a.eval x) (.slice none 0 0):Sem Value).run E.P w= .ok (.bool b) w→(b=true→n=0)→o.wp E.P a w (wpList E.P L.toArray Q (L.drop (i+1))) Q:=fun b hb hn=>by
  unfold Oper.wp;rw[hex];simp only[zz8]at hb ⊢;rw[hb];simp only[zz1,zzb,Oper.upon,hd];have hp:SimE E (s.put d (.c (.d (.bool b)))) (a.put (some d) (.bool b)) w:=⟨G,φ,h.put (zzo.mp hlt) (z0k (RelD.bool _) rfl)⟩
  cases b with
  |true=>exact h1 (hn rfl) _ _ hp Q hQ
  |false=>exact h2 _ _ hp Q hQ
 generalize a.eval x=u at*;cases hv with
 |empty _ _ A cap=>
  cases A with
  |none=>exact key true (zft hu _ _ _) fun _=>rfl
  |some A=>exact key false (zft hu _ _ _) fun _=>rfl
 |list _ _ _ b off cap vals hG hn hm hc hl hr=>exact key false (zft hu _ _ _) fun e=>by cases e
theorem DOk.stepP {ops:Array Oper}{o:Oper}{x:DOp}(f:Bool→Step){p v:Bool}(hp:p=v)(hw: ∀r,z0v ops (x.need.app r) o=some true)(he: ∀r,z43 E.P (x.need.app r) o.dst o.op=some (f p))(hc:(f v).cond)
 (hok:okDst E.N x.need o.dst (f v)=true) (hm:mksOk x.mks (f v) o.dst=true)
 (heff: ∀r,zb2 (x.need.app r) o.dst (f v)=x.eff.app (x.need.app r)):DOk E ops o x:=
 DOk.step (f v) hw (fun r=>hp▸he r) hc hok hm heff
theorem DOk.callA {ops:Array Oper}{o:Oper}{x:DOp}{cl:Call}{f:FuncId}{caps:List D}{xs args:List AV}{res:AV}(hS:Summ E.P f args [] res [])
 (hop:o.op= .call cl) (hw: ∀r,z0v ops (x.need.app r) o=some true) (hd:dstOk E.N o.dst=true) (hc: ∀r,z7k (x.need.app r) cl=some (f,caps)) (hx: ∀r,z91 (x.need.app r) cl caps=some xs)
 (hle: ∀r,AVsArg (x.need.app r) xs args) (hfl:z7p args=true) (hsol:res.solid=true) (heff: ∀r,putO (x.need.app r) o.dst res=x.eff.app (x.need.app r)):DOk E ops o x:=DOk.one fun r _=>by
 rw[←heff r];exact One.call hop (hw r) hd (hc r) (hx r) (hle r) hfl hsol hS
theorem dropR_noRef {k:Nat}{cs:List C}(h:anyB (C.refs k) cs=false):cs.map (C.dropR k)=cs:=by
 have key: ∀c∈cs,c.dropR k=c:=fun c hc=>by
  unfold C.dropR;rw[z27 h c hc]
 exact(List.map_congr_left key).trans (List.map_id _)
theorem AV.dropR_noRef {k:Nat}{x:AV}(h:x.refs k=false):x.dropR k=x:=by
 cases x with
 |c x=>
  have h':C.refs k x=false:=h;show AV.c (x.dropR k)=AV.c x;unfold C.dropR;rw[h']
 |agg xs=>show AV.agg (xs.map (C.dropR k))=AV.agg xs;rw[Av.dropR_noRef h]
 |tup vs=>
  show AV.tup (vs.map fun p=>(p.1,p.2.map (C.dropR k)))=AV.tup vs;have key: ∀p∈vs,(fun p:Bool×List C=>(p.1,p.2.map (C.dropR k))) p=p:=fun p hp=>by
   have:=z27 h p hp;simp only[Av.dropR_noRef this]
  rw[List.map_congr_left key];simp
theorem zel {k:Nat}: ∀{l:List (Nat×AV)},(∀e∈l,e.2.refs k=false)→z5r k l=l
 |[],_=>rfl
 |(t,x)::l,h=>by
  simp only[z5r,AV.dropR_noRef (h (t,x) (zz4 ..)),zel fun e he=>h e (zz6 _ he)]
theorem zek {k:Nat}: ∀{l:List (Nat×Slot)},(∀e∈l,e.1≠k∧e.2.refs k=false)→z4o k l=l
 |[],_=>rfl
 |(j,c)::l,h=>by
  obtain⟨h1,h2⟩:=h (j,c) (zz4 ..);have hb:Nat.beq j k=false:=by
   cases hb:Nat.beq j k with
   |false=>rfl
   |true=>exact absurd (zz3 hb) h1
  have hc:c.dropR k=c:=by
   cases c with
   |vec es n get=>rfl
   |box cs=>show Slot.box (cs.map (C.dropR k))=Slot.box cs;rw[Av.dropR_noRef h2]
  simp only[z4o,hb,hc,zek fun e he=>h e (zz6 _ he)]
theorem zd6 {k:Nat}: ∀(l r:List (Nat×AV)),z5r k (l++r)=z5r k l++z5r k r
 |[],_=>rfl
 |(t,x)::l,r=>by simp only[List.cons_append,z5r,zd6 l r]
theorem zd5 {k:Nat}: ∀(l r:List (Nat×Slot)),z4o k (l++r)=z4o k l++z4o k r
 |[],_=>rfl
 |(j,c)::l,r=>by
  simp only[List.cons_append,z4o];cases Nat.beq j k<;>simp[zd5 l r]
theorem DOk.drop {ops:Array Oper}{o:Oper}{x:DOp}{k d:Nat}{v:Slot}{av:AV}(hk:memB k x.mks=true)
 (h: ∀r:St,(∀d∈x.mks,r.noRef d=true)→One E ops o (x.need.app r) ((((x.need.app r).drop k).slot k v).put d av))
 (h1:(z1i (x.eff.tm++x.need.tm)).map (look (x.eff.tm++x.need.tm))=(z1i (x.eff.tm++x.need.tm)).map (look ((d,av)::z5r k x.need.tm)))
 (h2:allB (fun t=>z1f t (x.eff.tm++x.need.tm)) (z1i ((d,av)::z5r k x.need.tm))=true)
 (h3:(z1i (x.eff.sl++x.need.sl)).map (look (x.eff.sl++x.need.sl))=(z1i (x.eff.sl++x.need.sl)).map (look ((k,v)::z4o k x.need.sl)))
 (h4:allB (fun t=>z1f t (x.eff.sl++x.need.sl)) (z1i ((k,v)::z4o k x.need.sl))=true):DOk E ops o x:=DOk.one fun r hr=>by
 obtain⟨n1,n2⟩:=z4k (hr k (z2q.1 hk));refine(h r hr).weaken fun a w hs=>hs.weaken (fun t y hy=>?_) fun t y hy=>?_
 ·have e:look (x.eff.app (x.need.app r)).tm t=look (((d,av)::z5r k x.need.tm)++r.tm) t:=by
   have:=cover (r:=r.tm) h1 h2 t;rw[←this];show look (x.eff.tm++(x.need.tm++r.tm)) t=_;rw[List.append_assoc]
  rw[e]at hy;show look ((d,av)::z5r k (x.need.tm++r.tm)) t=some y;rw[zd6,zel n1];exact hy
 ·have e:look (x.eff.app (x.need.app r)).sl t=look (((k,v)::z4o k x.need.sl)++r.sl) t:=by
   have:=cover (r:=r.sl) h3 h4 t;rw[←this];show look (x.eff.sl++(x.need.sl++r.sl)) t=_;rw[List.append_assoc]
  rw[e]at hy;show look ((k,v)::z4o k (x.need.sl++r.sl)) t=some y;rw[zd5,zek n2];exact hy
end
end Go.Av
/-
 Av,part X:calls that get variables of the caller's to write.
-/
namespace Go.Av
open Go
def renN (ρ:List (Nat×Nat))(k:Nat):Nat:=match look ρ k with|some k'=>k'|none=>k
def CC.ren (ρ:List (Nat×Nat)):CC→CC
 | .d x=> .d x
 | .ptr k o=> .ptr (renN ρ k) o
def C.ren (ρ:List (Nat×Nat)):C→C
 | .ptr k o=> .ptr (renN ρ k) o
 | .vptr k es i o=> .vptr (renN ρ k) es i o
 | .own k es off n=> .own (renN ρ k) es off n
 | .bsl k o es n=> .bsl (renN ρ k) o es n
 | .clo f n caps=> .clo f n (caps.map (CC.ren ρ))
 |c=>c
def AV.ren (ρ:List (Nat×Nat)):AV→AV
 | .c x=> .c (x.ren ρ)
 | .agg xs=> .agg (xs.map (C.ren ρ))
 | .tup vs=> .tup (vs.map fun p=>(p.1,p.2.map (C.ren ρ)))
def Slot.ren (ρ:List (Nat×Nat)):Slot→Slot
 | .box cs=> .box (cs.map (C.ren ρ))
 | .vec es n get=> .vec es n get
def CC.inK (ks:List Nat):CC→Bool
 | .d _=>true
 | .ptr k _=>anyB (Nat.beq k) ks
def allC {α:Type}(f:α→Bool):List α→Bool
 |[]=>true
 |x::r=>match f x with|true=>allC f r|false=>false
theorem z3f {α:Type}{f:α→Bool}: ∀{l:List α},allC f l=true→ ∀x∈l,f x=true
 |[],_,x,hx=>by cases hx
 |y::r,h,x,hx=>by
  simp only[allC]at h;split at h
  ·rename_i hy
   rcases zzf.1 hx with rfl|hx
   ·exact hy
   ·exact z3f h x hx
  ·cases h
def C.lent (ks:List Nat):C→Bool
 | .any=>true
 | .d _=>true
 | .zero=>true
 | .ptr k _=>anyB (Nat.beq k) ks
 | .vptr k _ _ _=>anyB (Nat.beq k) ks
 | .own k _ _ _=>anyB (Nat.beq k) ks
 | .bsl k _ _ _=>anyB (Nat.beq k) ks
 | .clo _ _ caps=>allC (CC.inK ks) caps
 | .raw _=>true
 |_=>false
def AV.lent (ks:List Nat):AV→Bool
 | .c x=>x.lent ks
 | .agg xs=>allC (C.lent ks) xs
 | .tup vs=>allC (fun p:Bool×List C=>allC (C.lent ks) p.2) vs
def Slot.lent (ks:List Nat):Slot→Bool
 | .box cs=>allC (C.lent ks) cs
 | .vec _ _ _=>true
theorem z52 {k:Nat}{ks:List Nat}:anyB (Nat.beq k) ks=true↔k∈ks:=by
 constructor
 ·intro h;induction ks with
  |nil=>cases h
  |cons y r ih=>
   simp only[anyB]at h;split at h
   ·rename_i e;rw[zz3 e];exact zz4 ..
   ·exact zz6 _ (ih h)
 ·intro h;exact zar h (by simp)
section
variable {G V V':Nat→Prop} {φ ψ:Nat→Option Loc} {w:World} {ρ:List (Nat×Nat)} {ks:List Nat}
def Agree (ρ:List (Nat×Nat))(ks:List Nat)(φ ψ:Nat→Option Loc):Prop:= ∀k∈ks,ψ (renN ρ k)=φ k
theorem CC.ren_rel (ha:Agree ρ ks φ ψ){x:CC}{v:Value}(hk:x.inK ks=true):RelCC G ψ w (x.ren ρ) v↔RelCC G φ w x v:=by
 cases x with
 |d x=>exact Iff.rfl
 |ptr k o=>
  have:=ha k (z52.1 hk);simp only[CC.ren,RelCC,this]
theorem C.ren_rel (ha:Agree ρ ks φ ψ){x:C}{v:Value}(hk:x.lent ks=true):RelC G V ψ w (x.ren ρ) v↔RelC G V' φ w x v:=by
 cases x with
 |any=>exact Iff.rfl
 |d x=>exact Iff.rfl
 |zero=>exact Iff.rfl
 |raw u=>exact Iff.rfl
 |view es n get=>cases hk
 |eptr cells=>cases hk
 |ptr k o=>simp only[C.ren,RelC,ha k (z52.1 hk)]
 |vptr k es i o=>simp only[C.ren,RelC,ha k (z52.1 hk)]
 |own k es off n=>simp only[C.ren,RelC,ha k (z52.1 hk)]
 |bsl k o es n=>simp only[C.ren,RelC,ha k (z52.1 hk)]
 |clo f n caps=>
  have hk:allC (CC.inK ks) caps=true:=hk;have hm:=z3f hk
  have key: ∀j u,j<caps.length→(RelCC G ψ w ((caps.map (CC.ren ρ)).getD j zzd) u↔RelCC G φ w (caps.getD j zzd) u):=fun j u hj=>by
   have e1:caps.getD j zzd=caps[j]:=by rw[List.getD_eq_getElem?_getD,List.getElem?_eq_getElem hj];rfl
   have e2:(caps.map (CC.ren ρ)).getD j zzd=caps[j].ren ρ:=by rw[List.getD_eq_getElem?_getD,List.getElem?_map,List.getElem?_eq_getElem hj];rfl
   rw[e1,e2];exact CC.ren_rel ha (hm _ (List.getElem_mem hj))
  simp only[C.ren,RelC,List.length_map];constructor
  ·rintro⟨vs,e,hl,hr⟩;exact⟨vs,e,hl,fun j hj=>(key j _ hj).1 (hr j hj)⟩
  ·rintro⟨vs,e,hl,hr⟩;exact⟨vs,e,hl,fun j hj=>(key j _ hj).2 (hr j hj)⟩
theorem RelCs.ren (ha:Agree ρ ks φ ψ): ∀{cs:List C} {vs:List Value},allC (C.lent ks) cs=true→(RelCs (RelC G V ψ w) (cs.map (C.ren ρ)) vs↔RelCs (RelC G V' φ w) cs vs)
 |[],[],_=>Iff.rfl
 |c::cs,v::vs,h=>by
  have h1:=z3f h c (zz4 ..);have h2:allC (C.lent ks) cs=true:=by simp only[allC,h1]at h;exact h
  exact and_congr (C.ren_rel ha h1) (RelCs.ren ha h2)
 |[],_::_,_=>Iff.rfl
 |_::_,[],_=>Iff.rfl
theorem RelSs.ren (ha:Agree ρ ks φ ψ): ∀{xs:List (Bool×List C)} {vs:List Value},allC (fun p:Bool×List C=>allC (C.lent ks) p.2) xs=true→
 (RelSs (RelC G V ψ w) (xs.map fun p=>(p.1,p.2.map (C.ren ρ))) vs↔RelSs (RelC G V' φ w) xs vs)
 |[],[],_=>Iff.rfl
 |p::xs,u::vs,h=>by
  have hp:=z3f h p (zz4 ..);have h2:allC (fun p:Bool×List C=>allC (C.lent ks) p.2) xs=true:=by simp only[allC,hp]at h;exact h
  refine and_congr ?_ (RelSs.ren ha h2);rcases p with⟨b,cs⟩;cases b with
  |true=>
   constructor
   ·rintro⟨us,e,g1,g2⟩;exact⟨us,e,(RelCs.ren ha hp).1 g1,g2⟩
   ·rintro⟨us,e,g1,g2⟩;exact⟨us,e,(RelCs.ren ha hp).2 g1,g2⟩
  |false=>
   match cs,hp with
   |[c],hp=>
    have hc:=z3f hp c (by simp);exact and_congr (C.ren_rel ha hc) Iff.rfl
   |[],_=>exact Iff.rfl
   |_::_::_,_=>exact Iff.rfl
 |[],_::_,_=>Iff.rfl
 |_::_,[],_=>Iff.rfl
theorem AV.ren_rel (ha:Agree ρ ks φ ψ){x:AV}{v:Value}(hk:x.lent ks=true)(h:RelAV (RelC G V' φ w) x v):RelAV (RelC G V ψ w) (x.ren ρ) v:=by
 cases x with
 |c x=>
  by_cases e:x= .any
  ·subst e;trivial
  ·have:RelS (RelC G V' φ w) (false,[x]) v:=by cases x<;>first|exact h|exact(e rfl).elim
   exact z0k ((C.ren_rel ha hk).2 this.1) this.2
 |agg xs=>obtain⟨us,e,h1,h2⟩:=h;exact⟨us,e,(RelCs.ren ha hk).2 h1,h2⟩
 |tup vs=>obtain⟨us,e,h1⟩:=h;exact⟨us,e,(RelSs.ren ha hk).2 h1⟩
theorem zl6 (ha:Agree ρ ks φ ψ){x:AV}{v:Value}(hk:x.lent ks=true)(h:RelAV (RelC G V ψ w) (x.ren ρ) v):RelAV (RelC G V' φ w) x v:=by
 cases x with
 |c x=>
  by_cases e:x= .any
  ·subst e;trivial
  ·have hne:x.ren ρ≠ .any:=by cases x<;>first|exact(e rfl).elim|(intro h;cases h)
   have:RelS (RelC G V ψ w) (false,[x.ren ρ]) v:=by
    have h:RelAV (RelC G V ψ w) (.c (x.ren ρ)) v:=h;generalize x.ren ρ=y at*;cases y<;>first|exact h|exact(hne rfl).elim
   exact z0k ((C.ren_rel ha hk).1 this.1) this.2
 |agg xs=>obtain⟨us,e,h1,h2⟩:=h;exact⟨us,e,(RelCs.ren ha hk).1 h1,h2⟩
 |tup vs=>obtain⟨us,e,h1⟩:=h;exact⟨us,e,(RelSs.ren ha hk).1 h1⟩
theorem Slot.ren_rel (ha:Agree ρ ks φ ψ){k:Nat}(hk:k∈ks){c:Slot}(hc:c.lent ks=true):z54 G V ψ w (renN ρ k) (c.ren ρ)↔z54 G V' φ w k c:=by
 have e:=ha k hk;cases c with
 |vec es n get=>simp only[Slot.ren,z54,e]
 |box cs=>
  simp only[Slot.ren,z54,e,List.length_map];have hc:allC (C.lent ks) cs=true:=hc
  constructor
  ·rintro⟨l,hl,ht,vs,h1,h2⟩;exact⟨l,hl,ht,vs,(RelCs.ren ha hc).1 h1,h2⟩
  ·rintro⟨l,hl,ht,vs,h1,h2⟩;exact⟨l,hl,ht,vs,(RelCs.ren ha hc).2 h1,h2⟩
end
def keysS (sl:List (Nat×Slot)):List Nat:=sl.map (·.1)
theorem z56 {sl:List (Nat×Slot)}{k:Nat}{c:Slot}(h:look sl k=some c):k∈keysS sl:=zzk.2 ⟨(k,c),z2p h,rfl⟩
theorem z8g: ∀{sl:List (Nat×Slot)} {k:Nat},k∈keysS sl→ ∃c,look sl k=some c
 |[],k,h=>by cases h
 |(j,c)::r,k,h=>by
  rw[z0t];by_cases e:j=k
  ·exact⟨c,by rw[if_pos e]⟩
  ·rw[if_neg e];rcases zzf.1 h with h|h
   ·exact absurd h.symm e
   ·exact z8g h
def renSl (ρ:List (Nat×Nat))(sl:List (Nat×Slot)):List (Nat×Slot):=sl.map fun p=>(renN ρ p.1,p.2.ren ρ)
theorem ze1 {ρ:List (Nat×Nat)}: ∀{sl:List (Nat×Slot)} {k':Nat} {c':Slot},look (renSl ρ sl) k'=some c'→ ∃k c,k'=renN ρ k∧look sl k=some c∧c'=c.ren ρ
 |[],_,_,h=>by cases h
 |(j,c)::r,k',c',h=>by
  simp only[renSl,zzp,z0t]at h;by_cases e:renN ρ j=k'
  ·rw[if_pos e]at h;cases h;exact⟨j,c,e.symm,by rw[z0t,if_pos rfl],rfl⟩
  ·rw[if_neg e]at h;obtain⟨k,c1,h1,h2,h3⟩:=ze1 (sl:=r) h;exact⟨k,c1,h1,by rw[z0t,if_neg (fun x=>e (by rw[h1,x]))];exact h2,h3⟩
theorem zgv {α:Type}: ∀{l r:List (Nat×α)} {k:Nat} {x:α},look (l++r) k=some x→look l k=some x∨(look l k=none∧look r k=some x)
 |[],r,k,x,h=> .inr ⟨rfl,h⟩
 |(j,y)::l,r,k,x,h=>by
  simp only[List.cons_append,z0t]at h ⊢;by_cases e:j=k
  ·rw[if_pos e]at h ⊢;exact .inl h
  ·rw[if_neg e]at h ⊢;exact zgv h
def backN (ρ:List (Nat×Nat)):List Nat→Nat→Option Nat
 |[],_=>none
 |k::r,k'=>match Nat.beq (renN ρ k) k' with|true=>some k|false=>backN ρ r k'
theorem z9q {ρ:List (Nat×Nat)}: ∀{ks:List Nat} {k k':Nat},backN ρ ks k'=some k→k∈ks∧renN ρ k=k'
 |[],_,_,h=>by cases h
 |j::r,k,k',h=>by
  simp only[backN]at h;split at h
  ·rename_i e;cases h;exact⟨zz4 ..,zz3 e⟩
  ·obtain⟨h1,h2⟩:=z9q h;exact⟨zz6 _ h1,h2⟩
theorem zh8 {ρ:List (Nat×Nat)}: ∀{ks:List Nat} {k':Nat},backN ρ ks k'=none→ ∀k∈ks,renN ρ k≠k'
 |[],_,_,k,h=>by cases h
 |j::r,k',h,k,hk=>by
  simp only[backN]at h;split at h
  ·cases h
  ·rename_i e
   rcases zzf.1 hk with rfl|hk
   ·intro x;rw[x]at e;simp at e
   ·exact zh8 h k hk
def injB (ρ:List (Nat×Nat))(ks:List Nat):Bool:=allC (fun k=>allC (fun j=>match Nat.beq (renN ρ k) (renN ρ j)with|true=>Nat.beq k j|false=>true) ks) ks
theorem zj4 {ρ:List (Nat×Nat)}{ks:List Nat}(h:injB ρ ks=true){k j:Nat}(hk:k∈ks)(hj:j∈ks)(e:renN ρ k=renN ρ j):k=j:=by
 have:=z3f (z3f h k hk) j hj;simp only[e,Nat.beq_refl]at this;exact zz3 this
def zg0:CC→AV
 | .d x=> .c (.d x)
 | .ptr k o=> .c (.ptr k o)
def z6v (s:St)(c:Call):Option (FuncId×Nat×List CC):=
 match c.callee with
 | .value x=>match evO s x with
  |some (.c (.d (.fn f caps)))=>some (f,0,caps.map .d)
  |some (.c (.clo f n caps))=>some (f,n,caps)
  |_=>none
 |_=>none
def argsL (s:St)(c:Call)(n:Nat)(caps:List CC):Option (List AV):=
 match allAV (c.args.toList.map (evO s))with
 |some xs=>some ((caps.map zg0).take n++(xs++(caps.map zg0).drop n))
 |none=>none
def AV.refsAny (ks:List Nat)(x:AV):Bool:=anyB (fun k=>x.refs k) ks
inductive AVsArgL (s:St) (ρ:List (Nat×Nat)) (ks im:List Nat):List AV→List AV→Prop
 |nil:AVsArgL s ρ ks im [] []
 |ren {x y:AV} {xs ys:List AV} (e:x=y.ren ρ) (h:y.lent ks=true) (t:AVsArgL s ρ ks im xs ys):AVsArgL s ρ ks im (x::xs) (y::ys)
 |flat {x y:AV} {xs ys:List AV} (h:AVArg s x y) (hf:y.flat=true) (hn:x.refsAny im=false) (t:AVsArgL s ρ ks im xs ys):AVsArgL s ρ ks im (x::xs) (y::ys)
def LentS (s:St)(ρ:List (Nat×Nat))(ks:List Nat):List (Nat×Slot)→Prop
 |[]=>True
 |(k,c)::r=>(look s.sl (renN ρ k)=some (c.ren ρ)∧c.lent ks=true)∧LentS s ρ ks r
theorem LentS.look {s:St}{ρ:List (Nat×Nat)}{ks:List Nat}: ∀{sl:List (Nat×Slot)},LentS s ρ ks sl→ ∀{k c},Av.look sl k=some c→Av.look s.sl (renN ρ k)=some (c.ren ρ)∧c.lent ks=true
 |[],_,_,_,h=>by cases h
 |(j,c0)::r,⟨h1,h2⟩,k,c,h=>by
  rw[z0t]at h;by_cases e:j=k
  ·subst e;rw[if_pos rfl]at h;cases h;exact h1
  ·rw[if_neg e]at h;exact LentS.look h2 h
section
variable {E:Env} {s:St} {G:Nat→Prop} {φ:Nat→Option Loc} {a:Act} {w:World}
theorem CArg.relX (h:Sim E s G φ a w){c c':C}(hc:CArg s c c'){v:Value}(hv:RelC G E.V φ w c v)(hf:c'.flat=true){X:Nat→Prop}(hX: ∀b,E.V b→X b)
 (hS: ∀k sc l,c.refs k=true→look s.sl k=some sc→φ k=some l→X l.blk) {ψ:Nat→Option Loc}:RelC G X ψ w c' v:=by
 cases hc with
 |le hc=>exact(zh4 hf hX ((CLe.rel h hc hv).mono (Same.refl _ _) (Same.refl _ _) (fun _ hb=>z8m hb) fun _ _=>rfl))
 | @own k es off m m' n get get' hk hm hm' hg=>
  subst hm';rcases hv with⟨h0,A,rfl⟩|⟨l,hl,hle,rfl⟩
  ·exact .inl ⟨h0,A,0,rfl⟩
  ·obtain⟨hmx,hs|⟨l',hl',hn,_,he⟩⟩:=h.sl _ _ hk
   ·rw[hl]at hs;cases hs.1
   ·rw[hl]at hl';cases hl';refine .inr ⟨l.blk,_,_,.inr (hS k _ l (by simp[C.refs]) hk hl),rfl,by omega,by omega,fun i hi=>?_⟩;rw[hg i hi];exact he.part hm i hi
 | @bsl k o es n n' cs ds get' hk hd hl' hn hmx hg=>
  cases hn;have h2:=CArg.rel h (.bsl hk hd hl' rfl hmx hg) hv rfl (ψ:=ψ)
  obtain⟨l,cap,hl,hc,rfl⟩:=hv;rcases h2 with⟨h0,A,cap',e⟩|⟨b,off,cap',_,e,g1,g2,g3⟩
  ·cases e;exact .inl ⟨rfl,_,_,rfl⟩
  ·cases e;exact .inr ⟨_,_,_,.inr (hS k _ l (by simp[C.refs]) hk hl),rfl,g1,g2,g3⟩
theorem CsArg.relX (h:Sim E s G φ a w){cs cs':List C}(hc:CsArg s cs cs'){X:Nat→Prop}(hX: ∀b,E.V b→X b){ψ:Nat→Option Loc}:
 ∀{vs:List Value},(∀c∈cs,∀k sc l,c.refs k=true→look s.sl k=some sc→φ k=some l→X l.blk)→(∀c∈cs',c.flat=true)→RelCs (RelC G E.V φ w) cs vs→RelCs (RelC G X ψ w) cs' vs:=by
 induction hc with
 |refl cs=>
  intro vs hS hf hv;have key: ∀(cs:List C) (vs:List Value),(∀c∈cs,∀k sc l,c.refs k=true→look s.sl k=some sc→φ k=some l→X l.blk)→(∀c∈cs,c.flat=true)→RelCs (RelC G E.V φ w) cs vs→RelCs (RelC G X ψ w) cs vs:=by
   intro cs;induction cs with
   |nil=>intro vs _ _ hv;cases vs with|nil=>trivial|cons _ _=>exact hv.elim
   |cons c cs ih=>
    intro vs hS hf hv;cases vs with
    |nil=>exact hv.elim
    |cons v vs=>exact⟨CArg.relX h (.le (.refl c)) hv.1 (hf _ (zz4 ..)) hX (hS _ (zz4 ..)),ih vs (fun c hc=>hS c (zz6 _ hc)) (fun c hc=>hf c (zz6 _ hc)) hv.2⟩
  exact key cs vs hS hf hv
 |nil=>intro vs _ _ hv;cases vs with|nil=>trivial|cons _ _=>exact hv.elim
 |cons hc _ ih=>
  intro vs hS hf hv;cases vs with
  |nil=>exact hv.elim
  |cons v vs=>exact⟨CArg.relX h hc hv.1 (hf _ (zz4 ..)) hX (hS _ (zz4 ..)),ih (fun c hc=>hS c (zz6 _ hc)) (fun c hc=>hf c (zz6 _ hc)) hv.2⟩
theorem z9m {k:Nat}{x:AV}{c:C}(hc:c∈x.cells)(h:c.refs k=true):x.refs k=true:=by
 cases e:x.refs k with
 |true=>rfl
 |false=>rw[AV.refs_cells e c hc]at h;cases h
theorem AVArg.relX (h:Sim E s G φ a w){x x':AV}(hx:AVArg s x x')(hf:x'.flat=true){v:Value}(hv:RAV E G φ w x v){X:Nat→Prop}(hX: ∀b,E.V b→X b)
 (hS: ∀k sc l,x.refs k=true→look s.sl k=some sc→φ k=some l→X l.blk) {ψ:Nat→Option Loc}:RelAV (RelC G X ψ w) x' v:=by
 have hcl:=zeg hf;cases hx with
 |refl=>exact hv.mono fun c hc v hcv=>CArg.relX h (.le (.refl c)) hcv (hcl c hc) hX fun k sc l hr=>hS k sc l (z9m hc hr)
 | @c p q hc=>
  have hq:q.flat=true:=hf;by_cases e:p= .any
  ·subst e;cases hc with
   |le hc=>cases hc<;>trivial
  ·obtain⟨h1,h2⟩:=z69 hv e;exact z0k (hc.relX h h1 hq hX hS) h2
 |agg hc=>obtain⟨us,e,h1,h2⟩:=hv;exact⟨us,e,hc.relX h hX (fun c hm k sc l hr=>hS k sc l (z9m hm hr)) hcl h1,h2⟩
theorem AVsArgL.rel (h:Sim E s G φ a w){ρ:List (Nat×Nat)}{ks im:List Nat}{xs ys:List AV}(hx:AVsArgL s ρ ks im xs ys){X:Nat→Prop}(hX: ∀b,E.V b→X b)
 (hS: ∀k sc l,k∉im→look s.sl k=some sc→φ k=some l→X l.blk): ∀{vs:List Value},z24 (RelC G E.V φ w) xs vs→z24 (RelC G X (fun k=>φ (renN ρ k)) w) ys vs:=by
 induction hx with
 |nil=>intro vs hv;cases vs with|nil=>trivial|cons _ _=>exact hv.elim
 |ren e hk _ ih=>
  intro vs hv;cases vs with
  |nil=>exact hv.elim
  |cons v vs=>subst e;exact⟨zl6 (fun k _=>rfl) hk hv.1,ih hv.2⟩
 |flat hc hf hn _ ih=>
  intro vs hv;cases vs with
  |nil=>exact hv.elim
  |cons v vs=>exact⟨hc.relX h hf hv.1 hX (fun k sc l hr=>hS k sc l (fun hm=>by have:=z27 hn k hm;rw[this]at hr;cases hr)),ih hv.2⟩
theorem zf3: ∀{caps:List CC} {us:List Value},caps.length=us.length→(∀j,j<caps.length→RelCC G φ w (caps.getD j zzd) (us.getD j undef))→z24 (RelC G E.V φ w) (caps.map zg0) us
 |[],[],_,_=>trivial
 |x::xs,u::us,hl,h=>by
  refine⟨?_,zf3 (by simpa using hl) fun j hj=>by have:=h (j+1) (by simpa using hj);simpa using this⟩;have h0:RelCC G φ w x u:=by have:=h 0 (by simp);simpa using this
  cases x with
  |d x=>exact z0k (x:= .d x) h0 (RelD.one h0)
  |ptr k o=>obtain⟨l,hl',rfl⟩:=h0;exact z0k (x:= .ptr k o) ⟨l,hl',rfl⟩ rfl
 |[],_::_,hl,_=>by simp at hl
 |_::_,[],hl,_=>by simp at hl
theorem z24.take {R:C→Value→Prop}: ∀{xs:List AV} {vs:List Value},z24 R xs vs→ ∀n,z24 R (xs.take n) (vs.take n)
 |[],[],_,n=>by simp[z24]
 |_::_,_::_,⟨h1,h2⟩,n=>by
  cases n with
  |zero=>simp[z24]
  |succ n=>exact⟨h1,z24.take h2 n⟩
 |[],_::_,h,_=>h.elim
 |_::_,[],h,_=>h.elim
theorem z24.drop {R:C→Value→Prop}: ∀{xs:List AV} {vs:List Value},z24 R xs vs→ ∀n,z24 R (xs.drop n) (vs.drop n)
 |[],[],_,n=>by simp[z24]
 |_::_,_::_,⟨h1,h2⟩,n=>by
  cases n with
  |zero=>exact⟨h1,h2⟩
  |succ n=>exact z24.drop h2 n
 |[],_::_,h,_=>h.elim
 |_::_,[],h,_=>h.elim
theorem zmi (h:Sim E s G φ a w){c:Call}{f:FuncId}{n:Nat}{caps:List CC}{xs:List AV}(hc:z6v s c=some (f,n,caps))(hx:argsL s c n caps=some xs)(ty:TypeId):
 ∃vs:List Value,(∀w,(do let d ←resolve a.eval c ty;invoke d.target d.args:Sem Next).run E.P w=(callFunc f vs.toArray).run E.P w)∧z24 (RelC G E.V φ w) xs vs:=by
 obtain⟨cal,args,ats⟩:=c;unfold z6v at hc;simp only at hc;have key: ∀(x:Operand) (us:List Value),a.eval x= .func (.func f) (us.take n).toArray (us.drop n).toArray→cal= .value x→z24 (RelC G E.V φ w) (caps.map zg0) us→
  ∃vs:List Value,(∀w,(do let d ←resolve a.eval ⟨cal,args,ats⟩ ty;invoke d.target d.args:Sem Next).run E.P w=(callFunc f vs.toArray).run E.P w)∧z24 (RelC G E.V φ w) xs vs:=fun x us hu hcal hr=>by
  simp only[argsL]at hx;split at hx
  ·rename_i ys hys
   cases hx;have h1:=zez h hys
   refine⟨us.take n++(args.toList.map a.eval++us.drop n),fun w=>?_,(hr.take n).append (h1.append (hr.drop n))⟩;subst hcal;simp only[resolve,Deferred.ofValue,hu,zz8,zzb,zz1,invoke];congr 2;apply Array.ext';simp
  ·cases hx
 split at hc
 ·rename_i cal' x
  split at hc
  ·rename_i f' caps' hv
   cases hc;have hfv:RelD G w (.fn f caps') (a.eval x):=(h.ev hv).1
   generalize hu:a.eval x=u at hfv;cases hfv with
   |fn _ _ us hl hr=>
    refine key x us (by simpa using hu) rfl (zf3 (by simpa using hl) fun j hj=>?_);have hj':j<caps'.length:=by simpa using hj
    have:(caps'.map CC.d).getD j zzd=CC.d (D.at caps' j):=by simp[D.at,List.getD_eq_getElem?_getD,List.getElem?_map,List.getElem?_eq_getElem hj']
    rw[this];exact hr j hj'
  ·rename_i f' n' caps' hv
   cases hc;obtain⟨us,hu,hl,hr⟩:=(h.ev hv).1;exact key x us hu rfl (zf3 hl hr)
  ·cases hc
 ·cases hc
def oddK (l r:List Nat):List Nat:=(l.filter fun k=> !anyB (Nat.beq k) r)++(r.filter fun k=> !anyB (Nat.beq k) l)
theorem zki {l r:List Nat}{k:Nat}(h:k∈l++r):k∈oddK l r∨(k∈l∧k∈r):=by
 unfold oddK;by_cases h1:k∈l
 ·by_cases h2:k∈r
  ·exact .inr ⟨h1,h2⟩
  ·refine .inl (List.mem_append_left _ (zzm.2 ⟨h1,?_⟩));cases e:anyB (Nat.beq k) r with
   |true=>exact absurd (z52.1 e) h2
   |false=>rfl
 ·rcases zz2.1 h with h|h
  ·exact absurd h h1
  ·refine .inl (List.mem_append_right _ (zzm.2 ⟨h,?_⟩));cases e:anyB (Nat.beq k) l with
   |true=>exact absurd (z52.1 e) h1
   |false=>rfl
def lkOk (lk im im':List Nat):Bool:=match allC (fun k=>anyB (Nat.beq k) lk) im' with|true=>true|false=> !anyB (fun k=>anyB (Nat.beq k) lk) im
def lkOk3 (lk:List Nat)(ρ:List (Nat×Nat))(ks ks':List Nat):Bool:=
 match allC (fun j=>match anyB (Nat.beq j) ks with|true=>true|false=>anyB (Nat.beq (renN ρ j)) lk) ks' with
 |true=>true
 |false=>allC (fun i=>match anyB (Nat.beq i) ks' with|true=>true|false=> !anyB (Nat.beq (renN ρ i)) lk) ks
theorem One.callP {ops : Array Oper} {o : Oper} {cl : Call} {f : FuncId} {nf : Nat} {caps : List CC} {xs args : List AV} {res : AV} {sl sl' : List (Nat × Slot)} (ρ : List (Nat × Nat)) (s0 : St)
    (hS : Summ E.P f args sl res sl') (hop : o.op = .call cl) (hw :     z0v ops s o = some true) (hd : dstOk E.N o.dst = true) (hc :     z6v s cl = some (f, nf, caps)) (hx : argsL s cl nf caps = some xs)
    (hle : AVsArgL s ρ (keysS sl) ((keysS sl).map (renN ρ)) xs args) (hsl : LentS s ρ (keysS sl) sl) (hinj : injB ρ (keysS sl) = true) (hinj' : injB ρ (keysS sl') = true) (hres : res.lent (keysS sl') = true)
    (hsl' : allC (fun p : Nat × Slot => p.2.lent (keysS sl')) sl' = true) (hs : Sim E s G φ a w) (hs0 : Sim E s0 G φ a w) (s' : St)
    (hook : ∀ {G' : Nat → Prop} {χ : Nat → Option Loc} {w' : World}, (∀ k', (∀ k ∈ keysS sl', renN ρ k ≠ k') → χ k' = φ k') → Same G w w' → Same E.V w w' → (∀ b, G b → G' b) → Sim E ⟨s0.tm, renSl ρ sl' ++ s0.sl⟩ G' χ a w' → Sim E s' G' χ a w') (hkey : ∀ t x, look s0.sl t = some x → ∃ y, look s.sl t = some y)
    (hk0 : allC (fun k => match look s0.sl (renN ρ k) with | some _ => false | none => true) (keysS sl ++ keysS sl') = true) (hodd : allC (fun k => s0.noRef (renN ρ k)) (oddK (keysS sl) (keysS sl')) = true)
    (hfx : allC (fun k => !anyB (Nat.beq (renN ρ k)) E.fx) (oddK (keysS sl) (keysS sl')) = true) (hlk : lkOk3 E.lk ρ (keysS sl) (keysS sl') = true) :
    Region.wanted o (yielded ops a.tmps) = true ∧ ∀ (next : Act → World → Prop) (Q : Exit → Act → World → Prop), (∀ a' w', SimE E (putO s' o.dst (res.ren ρ)) a' w' → next a' w') → o.wp E.P a w next Q := by
  obtain ⟨vs, hrun, hrel⟩ :=        zmi hs hc hx o.type
  let ψ : Nat → Option Loc := fun k => φ (renN ρ k)
  -- the lent blocks
  have lentB : ∀ b, Blks ψ sl b → ∃ k c l, look s.sl (renN ρ k) = some c ∧ k ∈ keysS sl ∧ φ (renN ρ k) = some l ∧ b = l.blk := fun b ⟨k, c, l, h1, h2, h3⟩ => ⟨k, _, l, (hsl.look h1).1,       z56 h1, h2, h3⟩
  have nG : ∀ b, G b → ¬ Blks ψ sl b := fun b hb hB => by
    obtain ⟨k, c, l, h1, _, h2, rfl⟩ := lentB b hB
    exact (hs.own _ _ _ h1 h2).1 hb
  have nV : ∀ b, E.V b → ¬ Blks ψ sl b := fun b hb hB => by
    obtain ⟨k, c, l, h1, _, h2, rfl⟩ := lentB b hB
    exact (hs.own _ _ _ h1 h2).2.1 hb
  have vlt : ∀ b, E.V b → b < w.heap.size := fun b hb => Nat.lt_of_lt_of_le (hs.vsz b hb).1 hs.kp.size
  have nS : ∀ k sc l, k ∉ (keysS sl).map (renN ρ) → look s.sl k = some sc → φ k = some l → ¬ Blks ψ sl l.blk := fun k sc l hk h1 h2 hB => by
    obtain ⟨j, c, l', g1, g2, g3, g4⟩ := lentB _ hB
    exact hk (         zzk.2 ⟨j, g2, (hs.inj _ _ _ _ _ _ h1 g1 h2 g3 g4).symm⟩)
  have hargs := hle.rel hs (X := fun b => b < w.heap.size ∧ ¬ Blks ψ sl b) (fun b hb => ⟨vlt b hb, nV b hb⟩) (fun k sc l hk h1 h2 => ⟨(hs.own _ _ _ h1 h2).2.2.1, nS k sc l hk h1 h2⟩) hrel
  have hslots : SlotsOk G (fun b => b < w.heap.size ∧ ¬ Blks ψ sl b) ψ w sl :=
    { rel := fun k c hk => by
        obtain ⟨h1, h2⟩ := hsl.look hk
        exact (Slot.ren_rel (fun _ _ => rfl) (      z56 hk) h2).1 (hs.sl _ _ h1)
      inj := fun k k' c c' l l' h1 h2 h3 h4 h5 => by
        have := hs.inj _ _ _ _ _ _ (hsl.look h1).1 (hsl.look h2).1 h3 h4 h5
        exact       zj4 hinj (      z56 h1) (      z56 h2) this
      own := fun k c l h1 h2 => by
        have := hs.own _ _ _ (hsl.look h1).1 h2
        exact ⟨this.1, this.2.2.1⟩ }
  have hact := hS G ψ w vs hs.gsz hslots hargs
  refine ⟨         z2e hs hw, fun next Q hn => ?_⟩
  unfold Oper.wp
  have he : execOp a.eval o = (do let d ← resolve a.eval cl o.type; invoke d.target d.args : Sem Next) := by
    unfold execOp; rw [hop]
  rw [he, hrun]
  refine       zit hact fun e w' ⟨v, G', φ', he, hd'⟩ => ⟨v, he, ?_⟩
  let χ : Nat → Option Loc := fun k' => match backN ρ (keysS sl') k' with | some k => φ' k | none => φ k'
  have hagree : Agree ρ (keysS sl') φ' χ := fun k hk => by
    show (match backN ρ (keysS sl') (renN ρ k) with | some k => φ' k | none => φ (renN ρ k)) = φ' k
    cases hb : backN ρ (keysS sl') (renN ρ k) with
    | none => exact absurd rfl (       zh8 hb k hk)
    | some j =>
      obtain ⟨h1, h2⟩ :=        z9q hb
      rw [      zj4 hinj' h1 hk h2]
  have hsame : ∀ b, b < w.heap.size → ¬ Blks ψ sl b → w'.heap[b]? = w.heap[b]? := fun b h1 h2 => hd'.kp.block b h1 h2
  have sg : Same G w w' := fun b hb => hsame b (hs.gsz b hb) (nG b hb)
  have sv : Same E.V w w' := fun b hb => hsame b (vlt b hb) (nV b hb)
  -- what is spoken of in s0
  have hχ : ∀ k', (s0.noRef k' = false) → χ k' = φ k' ∨ False := fun k' hr => by
    show (match backN ρ (keysS sl') k' with | some k => φ' k | none => φ k') = φ k' ∨ False
    cases hb : backN ρ (keysS sl') k' with
    | none => exact .inl rfl
    | some k =>
      obtain ⟨h1, rfl⟩ :=        z9q hb
      rcases      zki (l := keysS sl) (r := keysS sl') (List.mem_append_right _ h1) with h | ⟨h2, _⟩
      · rw [     z3f hodd k h] at hr; cases hr
      · obtain ⟨c, hc⟩ :=       z8g h2
        obtain ⟨c', hc'⟩ :=       z8g h1
        exact .inl (hd'.fix k c c' hc hc')
  have tmRef : ∀ t x, look s0.tm t = some x → ∀ c ∈ x.cells, ∀ k, c.refs k = true → χ k = φ k := fun t x hx c hc k hk => by
    refine (hχ k ?_).resolve_right id
    cases e : s0.noRef k with
    | false => rfl
    | true => rw [AV.refs_cells ((          z4k e).1 _ (     z2p hx)) c hc] at hk; cases hk
  have slRef : ∀ j c, look s0.sl j = some c → ∀ k, Slot.refs k c = true → χ k = φ k := fun j c hc k hk => by
    refine (hχ k ?_).resolve_right id
    cases e : s0.noRef k with
    | false => rfl
    | true => rw [((          z4k e).2 _ (     z2p hc)).2] at hk; cases hk
  have slNot : ∀ j c, look s0.sl j = some c → ∀ k ∈ keysS sl ++ keysS sl', renN ρ k ≠ j := fun j c hc k hk e => by
    have :=      z3f hk0 k hk
    rw [e, hc] at this
    cases this
  have slχ : ∀ j c, look s0.sl j = some c → χ j = φ j := fun j c hc => by
    show (match backN ρ (keysS sl') j with | some k => φ' k | none => φ j) = φ j
    cases hb : backN ρ (keysS sl') j with
    | none => rfl
    | some k =>
      obtain ⟨h1, h2⟩ :=        z9q hb
      exact absurd h2 (slNot j c hc k (List.mem_append_right _ h1))
  have slB : ∀ j c l, look s0.sl j = some c → φ j = some l → l.blk < w.heap.size ∧ ¬ Blks ψ sl l.blk := fun j c l hc hl =>
    ⟨(hs0.own _ _ _ hc hl).2.2.1, nS j _ l (fun hm => by
      obtain ⟨k, hk, e⟩ :=          zzk.1 hm
      exact slNot j c hc k (List.mem_append_left _ hk) e) (hkey _ _ hc).choose_spec hl⟩
  -- the slots that came back
  have hin : ∀ k' c', look (renSl ρ sl' ++ s0.sl) k' = some c' → (∃ k c, k' = renN ρ k ∧ look sl' k = some c ∧ c' = c.ren ρ) ∨ look s0.sl k' = some c' := fun k' c' h => by
    rcases      zgv h with h | ⟨_, h⟩
    · exact .inl (       ze1 h)
    · exact .inr h
  have newB : ∀ k c l, look sl' k = some c → φ' k = some l → Blks ψ sl l.blk ∨ w.heap.size ≤ l.blk := hd'.blk
  have hsim : Sim E ⟨s0.tm, renSl ρ sl' ++ s0.sl⟩ G' χ a w' :=
    { hs with
      tm := fun t x hx => by
        obtain ⟨u, hu, hr⟩ := hs0.tm t x hx
        exact ⟨u, hu, hr.mono fun c hc v hcv => hcv.mono sg sv hd'.up (tmRef t x hx c hc)⟩
      sl := fun k' c' hk' => by
        rcases hin k' c' hk' with ⟨k, c, rfl, hc, rfl⟩ | h
        · exact (Slot.ren_rel hagree (      z56 hc) (     z3f hsl' (k, c) (     z2p hc))).2 (hd'.slots.rel k c hc)
        · exact (hs0.sl _ _ h).mono sg sv hd'.up (slχ _ _ h) (slRef _ _ h) fun l hl => by
            obtain ⟨h1, h2⟩ := slB _ _ _ h hl
            exact hsame _ h1 h2
      inj := fun k1 k2 c1 c2 l1 l2 h1 h2 e1 e2 eb => by
        rcases hin _ _ h1 with ⟨j1, d1, rfl, g1, _⟩ | g1 <;> rcases hin _ _ h2 with ⟨j2, d2, rfl, g2, _⟩ | g2
        · rw [hagree _ (      z56 g1)] at e1
          rw [hagree _ (      z56 g2)] at e2
          rw [hd'.slots.inj _ _ _ _ _ _ g1 g2 e1 e2 eb]
        · rw [hagree _ (      z56 g1)] at e1
          rw [slχ _ _ g2] at e2
          obtain ⟨q1, q2⟩ := slB _ _ _ g2 e2
          rcases newB _ _ _ g1 e1 with hb | hb
          · rw [eb] at hb; exact absurd hb q2
          · omega
        · rw [hagree _ (      z56 g2)] at e2
          rw [slχ _ _ g1] at e1
          obtain ⟨q1, q2⟩ := slB _ _ _ g1 e1
          rcases newB _ _ _ g2 e2 with hb | hb
          · rw [← eb] at hb; exact absurd hb q2
          · omega
        · rw [slχ _ _ g1] at e1
          rw [slχ _ _ g2] at e2
          exact hs0.inj _ _ _ _ _ _ g1 g2 e1 e2 eb
      own := fun k' c' l h1 h2 => by
        rcases hin _ _ h1 with ⟨k, c, rfl, g1, _⟩ | g1
        · rw [hagree _ (      z56 g1)] at h2
          obtain ⟨o1, o2⟩ := hd'.slots.own k c l g1 h2
          rcases newB _ _ _ g1 h2 with hb | hb
          · refine ⟨o1, fun hv => nV _ hv hb, o2, ?_⟩
            obtain ⟨j, cj, lj, q1, q2, q3, q4⟩ := lentB _ hb
            cases hkk : anyB (Nat.beq k) (keysS sl) with
            | true =>
              obtain ⟨c0, hc0⟩ :=       z8g (     z52.1 hkk)
              have hf := hd'.fix k c0 c hc0 g1
              rw [h2] at hf
              exact (hs.own _ _ _ (hsl.look hc0).1 hf.symm).2.2.2
            | false =>
              rcases (hs.own _ _ _ q1 q3).2.2.2 with p | ⟨p1, p2⟩
              · exact .inl (by omega)
              · unfold lkOk3 at hlk
                split at hlk
                · rename_i hall
                  have :=      z3f hall k (      z56 g1)
                  rw [hkk] at this
                  exact .inr ⟨     z52.1 this, by rw [q4]; exact p2⟩
                · have :=      z3f hlk j q2
                  cases hjj : anyB (Nat.beq j) (keysS sl') with
                  | false => rw [hjj] at this; simp only [     z52.2 p1] at this; cases this
                  | true =>
                    exfalso
                    obtain ⟨c1, hc1⟩ :=       z8g (     z52.1 hjj)
                    obtain ⟨c0, hc0⟩ :=       z8g q2
                    have hf := hd'.fix j c0 c1 hc0 hc1
                    have hf : φ' j = some lj := hf.trans q3
                    have := hd'.slots.inj _ _ _ _ _ _ g1 hc1 h2 hf q4
                    subst this
                    rw [     z52.2 q2] at hkk; cases hkk
          · exact ⟨o1, fun hv => by have := vlt _ hv; omega, o2, .inl (Nat.le_trans hs.kp.size hb)⟩
        · rw [slχ _ _ g1] at h2
          obtain ⟨o1, o2, o3, o4⟩ := hs0.own _ _ _ g1 h2
          refine ⟨fun hg => ?_, o2, Nat.lt_of_lt_of_le o3 hd'.kp.size, o4⟩
          rcases hd'.fr _ hg with hg | hg
          · exact o1 hg
          · omega
      gsz := hd'.sz
      g0 := fun b hb => hd'.up _ (hs.g0 b hb)
      gf := fun b hb => by
        rcases hd'.fr b hb with hb | hb
        · exact hs.gf b hb
        · exact .inr (Nat.le_trans hs.kp.size hb)
      kp := hs.kp.trans ⟨hd'.kp.os, hd'.kp.tape, hd'.kp.output, hd'.kp.size, fun b hb hL => hsame b (Nat.lt_of_lt_of_le hb hs.kp.size) fun hB => by
        obtain ⟨k, c, l, h1, _, h2, rfl⟩ := lentB b hB
        rcases (hs.own _ _ _ h1 h2).2.2.2 with p | p
        · omega
        · exact hL p.2⟩
      fix := fun k' c' hfx' h1 => by
        rcases hin _ _ h1 with ⟨k, c, rfl, g1, _⟩ | g1
        · rw [hagree _ (      z56 g1)]
          rcases      zki (l := keysS sl) (r := keysS sl') (List.mem_append_right _ (      z56 g1)) with h | ⟨h2, _⟩
          · have :=      z3f hfx k h
            rw [     z52.2 hfx'] at this; cases this
          · obtain ⟨c0, hc0⟩ :=       z8g h2
            rw [hd'.fix k c0 c hc0 g1]
            exact hs.fix _ _ hfx' (hsl.look hc0).1
        · rw [slχ _ _ g1]
          exact hs0.fix _ _ hfx' g1 }
  have hresr : RAV E G' χ w' (res.ren ρ) v := AV.ren_rel hagree hres hd'.rel
  refine hn _ _ ⟨G', χ, ?_⟩
  replace hsim := hook (fun k' hk => by
    show (match backN ρ (keysS sl') k' with | some k => φ' k | none => φ k') = φ k'
    cases hb : backN ρ (keysS sl') k' with
    | none => rfl
    | some k =>
      obtain ⟨h1, h2⟩ :=        z9q hb
      exact absurd h2 (hk k h1)) sg sv hd'.up hsim
  cases hdd : o.dst with
  | none => exact hsim
  | some d =>
    rw [hdd] at hd
    exact hsim.put (       zzo.mp hd) hresr
theorem zir {ops:Array Oper}{o:Oper}{cl:Call}{f:FuncId}{nf:Nat}{caps:List CC}{xs args:List AV}{res:AV}{sl sl':List (Nat×Slot)}(ρ:List (Nat×Nat))(s0:St)
 (hS:Summ E.P f args sl res sl') (hop:o.op= .call cl) (hw:z0v ops s o=some true) (hd:dstOk E.N o.dst=true) (hc:z6v s cl=some (f,nf,caps)) (hx:argsL s cl nf caps=some xs)
 (hle:AVsArgL s ρ (keysS sl) ((keysS sl).map (renN ρ)) xs args) (hsl:LentS s ρ (keysS sl) sl) (hinj:injB ρ (keysS sl)=true) (hinj':injB ρ (keysS sl')=true) (hres:res.lent (keysS sl')=true)
 (hsl':allC (fun p:Nat×Slot=>p.2.lent (keysS sl')) sl'=true) (hw0: ∀{G:Nat→Prop} {φ:Nat→Option Loc} {a:Act} {w:World},Sim E s G φ a w→Sim E s0 G φ a w) (hkey: ∀t x,look s0.sl t=some x→ ∃y,look s.sl t=some y)
 (hk0:allC (fun k=>match look s0.sl (renN ρ k)with|some _=>false|none=>true) (keysS sl++keysS sl')=true) (hodd:allC (fun k=>s0.noRef (renN ρ k)) (oddK (keysS sl) (keysS sl'))=true)
 (hfx:allC (fun k=> !anyB (Nat.beq (renN ρ k)) E.fx) (oddK (keysS sl) (keysS sl'))=true) (hlk:lkOk3 E.lk ρ (keysS sl) (keysS sl')=true):
 One E ops o s (putO ⟨s0.tm,renSl ρ sl'++s0.sl⟩ o.dst (res.ren ρ)):=fun a w ⟨_,_,hs⟩=>
 One.callP ρ s0 hS hop hw hd hc hx hle hsl hinj hinj' hres hsl' hs (hw0 hs) _ (fun _ _ _ _ h=>h) hkey hk0 hodd hfx hlk
theorem One.callL {ops:Array Oper}{o:Oper}{cl:Call}{f:FuncId}{nf:Nat}{caps:List CC}{xs args:List AV}{res:AV}{sl sl':List (Nat×Slot)}(ρ:List (Nat×Nat))(s0:St)
 (hS:Summ E.P f args sl res sl') (hop:o.op= .call cl) (hw:z0v ops s o=some true) (hd:dstOk E.N o.dst=true) (hc:z6v s cl=some (f,nf,caps)) (hx:argsL s cl nf caps=some xs)
 (hle:AVsArgL s ρ (keysS sl) ((keysS sl).map (renN ρ)) xs args) (hsl:LentS s ρ (keysS sl) sl) (hinj:injB ρ (keysS sl)=true) (hinj':injB ρ (keysS sl')=true) (hres:res.lent (keysS sl')=true)
 (hsl':allC (fun p:Nat×Slot=>p.2.lent (keysS sl')) sl'=true) (h0t: ∀t x,look s0.tm t=some x→look s.tm t=some x) (h0s: ∀t x,look s0.sl t=some x→look s.sl t=some x)
 (hk0:allC (fun k=>match look s0.sl (renN ρ k)with|some _=>false|none=>true) (keysS sl++keysS sl')=true) (hodd:allC (fun k=>s0.noRef (renN ρ k)) (oddK (keysS sl) (keysS sl'))=true)
 (hfx:allC (fun k=> !anyB (Nat.beq (renN ρ k)) E.fx) (oddK (keysS sl) (keysS sl'))=true) (hlk:lkOk3 E.lk ρ (keysS sl) (keysS sl')=true):
 One E ops o s (putO ⟨s0.tm,renSl ρ sl'++s0.sl⟩ o.dst (res.ren ρ)):=
 zir ρ s0 hS hop hw hd hc hx hle hsl hinj hinj' hres hsl' (fun h=>h.weaken h0t h0s) (fun t x h=>⟨x,h0s t x h⟩) hk0 hodd hfx hlk
theorem At.callL {L:List Oper}{i:Nat}{K:St→Prop}{o:Oper}{cl:Call}{f:FuncId}{nf:Nat}{caps:List CC}{xs args:List AV}{res:AV}{sl sl':List (Nat×Slot)}(ρ:List (Nat×Nat))(tk sk:List Nat){s0:St}
 (hS:Summ E.P f args sl res sl') (ho:L[i]?=some o) (hop:o.op= .call cl) (hw:z0v L.toArray s o=some true) (hd:dstOk E.N o.dst=true) (hc:z6v s cl=some (f,nf,caps)) (hx:argsL s cl nf caps=some xs)
 (hle:AVsArgL s ρ (keysS sl) ((keysS sl).map (renN ρ)) xs args) (hsl:LentS s ρ (keysS sl) sl) (hinj:injB ρ (keysS sl)=true) (hinj':injB ρ (keysS sl')=true) (hres:res.lent (keysS sl')=true)
 (hsl':allC (fun p:Nat×Slot=>p.2.lent (keysS sl')) sl'=true) (hk:Av.keep tk sk s=some s0)
 (hk0:allC (fun k=>match look s0.sl (renN ρ k)with|some _=>false|none=>true) (keysS sl++keysS sl')=true) (hodd:allC (fun k=>s0.noRef (renN ρ k)) (oddK (keysS sl) (keysS sl'))=true)
 (hfx:allC (fun k=> !anyB (Nat.beq (renN ρ k)) E.fx) (oddK (keysS sl) (keysS sl'))=true) (hlk:lkOk3 E.lk ρ (keysS sl) (keysS sl')=true)
 (s':St) (he:putO ⟨s0.tm,renSl ρ sl'++s0.sl⟩ o.dst (res.ren ρ)=s') (h:At E L (i+1) s' K):At E L i s K:=by
 have hk2:(∀t x,look s0.tm t=some x→look s.tm t=some x)∧ ∀t x,look s0.sl t=some x→look s.sl t=some x:=by
  unfold Av.keep at hk;split at hk
  ·rename_i tm h1
   split at hk
   ·rename_i sl h2
    cases hk;exact⟨z63 h1,z63 h2⟩
   ·cases hk
  ·cases hk
 exact At.one ho (One.callL ρ s0 hS hop hw hd hc hx hle hsl hinj hinj' hres hsl' hk2.1 hk2.2 hk0 hodd hfx hlk) (he▸h)
theorem C.ren_to {V:Nat→Prop}{ψ:Nat→Option Loc}{ρ:List (Nat×Nat)}{x:C}{v:Value}(h:RelC G V φ w x v)(hφ: ∀k,x.refs k=true→ψ (renN ρ k)=φ k):RelC G V ψ w (x.ren ρ) v:=by
 cases x with
 |any=>trivial
 |d x=>exact h
 |zero=>exact h
 |raw u=>exact h
 |view es n get=>exact h
 |eptr cells=>exact h
 |ptr k o=>simp only[C.ren,RelC,hφ k (by simp[C.refs])];exact h
 |vptr k es i o=>simp only[C.ren,RelC,hφ k (by simp[C.refs])];exact h
 |own k es off n=>simp only[C.ren,RelC,hφ k (by simp[C.refs])];exact h
 |bsl k o es n=>simp only[C.ren,RelC,hφ k (by simp[C.refs])];exact h
 |clo f n caps=>
  obtain⟨vs,e,hl,hr⟩:=h;refine⟨vs,e,by simpa using hl,fun j hj=>?_⟩;have hj:j<caps.length:=by simpa using hj
  have e1:caps.getD j zzd=caps[j]:=by rw[List.getD_eq_getElem?_getD,List.getElem?_eq_getElem hj];rfl
  have e2:(caps.map (CC.ren ρ)).getD j zzd=caps[j].ren ρ:=by rw[List.getD_eq_getElem?_getD,List.getElem?_map,List.getElem?_eq_getElem hj];rfl
  have:=hr j hj;rw[e1]at this;rw[e2];have hm:caps[j]∈caps:=List.getElem_mem hj
  generalize caps[j]=c at*;cases c with
  |d x=>exact this
  |ptr k o=>
   have:ψ (renN ρ k)=φ k:=hφ k (zar (f:=CC.refs k) hm (by simp[CC.refs]));simp only[CC.ren,RelCC,this]
   assumption
theorem RelCs.ren_to {V:Nat→Prop}{ψ:Nat→Option Loc}{ρ:List (Nat×Nat)}: ∀{cs:List C} {vs:List Value},(∀c∈cs,∀k,c.refs k=true→ψ (renN ρ k)=φ k)→RelCs (RelC G V φ w) cs vs→RelCs (RelC G V ψ w) (cs.map (C.ren ρ)) vs
 |[],[],_,_=>trivial
 |c::cs,v::vs,hφ,h=>⟨C.ren_to h.1 (hφ c (zz4 ..)),RelCs.ren_to (fun c hc=>hφ c (zz6 _ hc)) h.2⟩
 |[],_::_,_,h=>h.elim
 |_::_,[],_,h=>h.elim
theorem RelSs.ren_to {V:Nat→Prop}{ψ:Nat→Option Loc}{ρ:List (Nat×Nat)}: ∀{xs:List (Bool×List C)} {vs:List Value},(∀p∈xs,∀c∈p.2,∀k,c.refs k=true→ψ (renN ρ k)=φ k)→RelSs (RelC G V φ w) xs vs→
 RelSs (RelC G V ψ w) (xs.map fun p=>(p.1,p.2.map (C.ren ρ))) vs
 |[],[],_,_=>trivial
 |p::xs,u::vs,hφ,h=>by
  refine⟨?_,RelSs.ren_to (fun p hp=>hφ p (zz6 _ hp)) h.2⟩;have hp:=hφ p (zz4 ..)
  have hx:=h.1;rcases p with⟨b,cs⟩;cases b with
  |true=>obtain⟨us,e,g1,g2⟩:=hx;exact⟨us,e,RelCs.ren_to hp g1,g2⟩
  |false=>
   match cs,hp,hx with
   |[c],hp,hx=>exact⟨C.ren_to hx.1 (hp c (by simp)),hx.2⟩
   |[],_,hx=>exact hx.elim
   |_::_::_,_,hx=>exact hx.elim
 |[],_::_,_,h=>h.elim
 |_::_,[],_,h=>h.elim
theorem AV.ren_to {V:Nat→Prop}{ψ:Nat→Option Loc}{ρ:List (Nat×Nat)}{x:AV}{v:Value}(h:RelAV (RelC G V φ w) x v)(hφ: ∀k,x.refs k=true→ψ (renN ρ k)=φ k):RelAV (RelC G V ψ w) (x.ren ρ) v:=by
 have hc: ∀c∈x.cells,∀k,c.refs k=true→ψ (renN ρ k)=φ k:=fun c hc k hk=>hφ k (z9m hc hk);cases x with
 |c x=>
  by_cases e:x= .any
  ·subst e;trivial
  ·have:RelS (RelC G V φ w) (false,[x]) v:=by cases x<;>first|exact h|exact(e rfl).elim
   exact z0k (C.ren_to this.1 (hc x (by simp[AV.cells]))) this.2
 |agg xs=>obtain⟨us,e,h1,h2⟩:=h;exact⟨us,e,RelCs.ren_to hc h1,h2⟩
 |tup vs=>obtain⟨us,e,h1⟩:=h;exact⟨us,e,RelSs.ren_to (fun p hp c hc'=>hc c (List.mem_flatMap.2 ⟨p,hp,hc'⟩)) h1⟩
def renTm (ρ:List (Nat×Nat))(tm:List (Nat×AV)):List (Nat×AV):=tm.map fun p=>(p.1,p.2.ren ρ)
theorem zhk {ρ:List (Nat×Nat)}: ∀(tm:List (Nat×AV)) (t:Nat),look (renTm ρ tm) t=(look tm t).map (AV.ren ρ)
 |[],t=>rfl
 |(j,x)::r,t=>by
  simp only[renTm,zzp,z0t];by_cases e:j=t
  ·simp[e]
  ·rw[if_neg e,if_neg e];exact zhk r t
theorem Sim.rename (h:Sim E s G φ a w){k k':Nat}(hn:s.noRef k'=true)(hfx:anyB (Nat.beq k') E.fx=false)(hlk:lkOk E.lk [k] [k']=true):
 Sim E ⟨renTm [(k,k')] s.tm,renSl [(k,k')] s.sl⟩ G (upd φ k' (φ k)) a w:=by
 obtain⟨n1,n2⟩:=z4k hn;have hr: ∀j,renN [(k,k')] j=if k=j then k' else j:=fun j=>by
  unfold renN;simp only[z0t];by_cases e:k=j
  ·simp[e]
  ·simp[e,look]
 have key: ∀j,j≠k'→upd φ k' (φ k) (renN [(k,k')] j)=φ j:=fun j hj=>by
  rw[hr];by_cases e:k=j
  ·rw[if_pos e,z53,e]
  ·rw[if_neg e,z40 _ _ _ hj]
 have hin: ∀j c,look (renSl [(k,k')] s.sl) j=some c→ ∃i c0,j=renN [(k,k')] i∧look s.sl i=some c0∧c=c0.ren [(k,k')]∧i≠k':=fun j c hc=>by
  obtain⟨i,c0,h1,h2,h3⟩:=ze1 hc;exact⟨i,c0,h1,h2,h3,(n2 _ (z2p h2)).1⟩
 exact
 {h with
  tm:=fun t x hx=>by
   rw[zhk]at hx;cases hl:look s.tm t with
   |none=>rw[hl]at hx;cases hx
   |some x0=>
    rw[hl]at hx;cases hx;obtain⟨v,hv,hrel⟩:=h.tm t x0 hl;exact⟨v,hv,AV.ren_to hrel fun j hj=>key j fun e=>by rw[e,n1 _ (z2p hl)]at hj;cases hj⟩
  sl:=fun j c hc=>by
   obtain⟨i,c0,rfl,h2,rfl,hne⟩:=hin j c hc;have:=h.sl i c0 h2
   have e:=key i hne;cases c0 with
   |vec es n get=>simp only[Slot.ren,z54,e];exact this
   |box cs=>
    obtain⟨l,hl,ht,vs,g1,g2,g3⟩:=this;refine⟨l,by rw[e];exact hl,by simpa using ht,vs,RelCs.ren_to (fun c hc j hj=>key j fun e=>?_) g1,g2,g3⟩;have:=(n2 _ (z2p h2)).2
    rw[e,Slot.refs_cells this c hc]at hj;cases hj
  inj:=fun j1 j2 c1 c2 l1 l2 h1 h2 e1 e2 eb=>by
   obtain⟨i1,d1,rfl,g1,_,ne1⟩:=hin _ _ h1;obtain⟨i2,d2,rfl,g2,_,ne2⟩:=hin _ _ h2;rw[key _ ne1]at e1;rw[key _ ne2]at e2;rw[h.inj _ _ _ _ _ _ g1 g2 e1 e2 eb]
  own:=fun j c l h1 h2=>by
   obtain⟨i,d,rfl,g,_,ne⟩:=hin _ _ h1;rw[key _ ne]at h2;obtain⟨o1,o2,o3,o4⟩:=h.own _ _ _ g h2;refine⟨o1,o2,o3,?_⟩;rcases o4 with o4|⟨o4,o5⟩
   ·exact .inl o4
   ·refine .inr ⟨?_,o5⟩;rw[hr];by_cases e:k=i
    ·rw[if_pos e];subst e;unfold lkOk at hlk;split at hlk
     ·rename_i hall
      exact z52.1 (z3f hall k' (by simp))
     ·have:anyB (fun k=>anyB (Nat.beq k) E.lk) [k]=true:=zar (by simp) (z52.2 o4);rw[this]at hlk;cases hlk
    ·rw[if_neg e];exact o4
  fix:=fun j c hx h1=>by
   obtain⟨i,d,rfl,g,_,ne⟩:=hin _ _ h1;rw[key _ ne];have hne': ¬k=i:=fun e=>by
    rw[hr,if_pos e]at hx;exact z7m hfx hx
   rw[hr,if_neg hne']at hx ⊢;exact h.fix _ _ hx g}
theorem SimE.rename (k k':Nat)(h:SimE E s a w)(hn:s.noRef k'=true)(hfx:anyB (Nat.beq k') E.fx=false)(hlk:lkOk E.lk [k] [k']=true){s':St}(e:(⟨renTm [(k,k')] s.tm,renSl [(k,k')] s.sl⟩:St)=s'):SimE E s' a w:=by
 obtain⟨G,φ,h⟩:=h;exact e▸⟨G,_,h.rename hn hfx hlk⟩
theorem Tri.rename (k k':Nat)(s':St){c:Code}{post:Exit→St→Prop}(e:(⟨renTm [(k,k')] s.tm,renSl [(k,k')] s.sl⟩:St)=s')(hn:s.noRef k'=true)(hfx:anyB (Nat.beq k') E.fx=false)(hlk:lkOk E.lk [k] [k']=true)
 (h:Tri E c s' post):Tri E c s post:=Tri.weaken (fun _ _ hs=>hs.rename k k' hn hfx hlk e) h
theorem At.rename (k k':Nat)(s':St){L:List Oper}{i:Nat}{K:St→Prop}(e:(⟨renTm [(k,k')] s.tm,renSl [(k,k')] s.sl⟩:St)=s')(hn:s.noRef k'=true)(hfx:anyB (Nat.beq k') E.fx=false)(hlk:lkOk E.lk [k] [k']=true)
 (h:At E L i s' K):At E L i s K:=fun a w hs=>h a w (hs.rename k k' hn hfx hlk e)
theorem SimE.newOwnB {a:Act}{w:World}(h:SimE E s a w){j i k es:Nat}{cs:List C}{get:Nat→List D}(hkx:anyB (Nat.beq k) E.fx=false)(hz:look s.sl j=some (.box cs))(hi:cs[i]?=some .zero)(hk:s.noRef k=true):
 SimE E ((s.slot k (.vec es 0 get)).slot j (.box (cs.set i (.own k es 0 0)))) a w:=by
 obtain⟨G,φ,h⟩:=h;have hs:=h.newVec0 (z7m hkx) hk es get
 have hjk:k≠j:=fun e=>((z4k hk).2 _ (z2p hz)).1 e.symm;have hz':look (s.slot k (.vec es 0 get)).sl j=some (.box cs):=by simp[St.slot,z0t,hjk,hz]
 have hrel:=hs.sl j _ hz';have hin: ∀j' c,look ((s.slot k (.vec es 0 get)).slot j (.box (cs.set i (.own k es 0 0)))).sl j'=some c→(j'=j∧c= .box (cs.set i (.own k es 0 0)))∨(j'≠j∧look (s.slot k (.vec es 0 get)).sl j'=some c):=fun j' c hc=>by
  simp only[St.slot,z0t]at hc ⊢;by_cases e:j=j'
  ·rw[if_pos e]at hc;cases hc;exact .inl ⟨e.symm,rfl⟩
  ·rw[if_neg e]at hc;exact .inr ⟨fun x=>e x.symm,hc⟩
 have hex: ∀j' c,look ((s.slot k (.vec es 0 get)).slot j (.box (cs.set i (.own k es 0 0)))).sl j'=some c→ ∃c0,look (s.slot k (.vec es 0 get)).sl j'=some c0:=fun j' c hc=>by
  rcases hin j' c hc with⟨rfl,_⟩|⟨_,h⟩
  ·exact⟨_,hz'⟩
  ·exact⟨_,h⟩
 refine⟨G,upd φ k none,{hs with tm:=hs.tm,sl:=fun j' c hc=>?_,inj:=fun k1 k2 c1 c2 l1 l2 h1 h2=>?_,own:=fun k' c l h1=>?_,fix:=fun k' c hx h1=>?_}⟩
 ·rcases hin j' c hc with⟨rfl,rfl⟩|⟨_,hc⟩
  ·obtain⟨l,hl,ht,vs,g1,g2,g3⟩:=hrel;refine⟨l,hl,by simpa using ht,vs,?_,g2,g3⟩;clear hz hz' hin hex hc ht g2 g3;induction cs generalizing i vs with
   |nil=>simp at hi
   |cons c cs ih=>
    cases vs with
    |nil=>exact g1.elim
    |cons v vs=>
     cases i with
     |zero=>
      simp at hi;subst hi;obtain⟨A,rfl⟩:=g1.1;exact⟨.inl ⟨rfl,A,rfl⟩,g1.2⟩
     |succ i=>exact⟨g1.1,ih (i:=i) (by simpa using hi) _ g1.2⟩
  ·exact hs.sl _ _ hc
 ·obtain⟨_,h1⟩:=hex _ _ h1;obtain⟨_,h2⟩:=hex _ _ h2;exact hs.inj _ _ _ _ _ _ h1 h2
 ·obtain⟨_,h1⟩:=hex _ _ h1;exact hs.own _ _ _ h1
 ·obtain⟨_,h1⟩:=hex _ _ h1;exact hs.fix _ _ hx h1
theorem Tri.newOwnB {c:Code}{post:Exit→St→Prop}{j i k es:Nat}{cs:List C}(get:Nat→List D)(hkx:anyB (Nat.beq k) E.fx=false)(hz:look s.sl j=some (.box cs))(hi:cs[i]?=some .zero)(hk:s.noRef k=true)
 (h:Tri E c ((s.slot k (.vec es 0 get)).slot j (.box (cs.set i (.own k es 0 0)))) post):Tri E c s post:=fun a w hs=>h a w (hs.newOwnB hkx hz hi hk)
theorem At.newOwnB {L:List Oper}{i':Nat}{K:St→Prop}{j i k es:Nat}{cs:List C}(get:Nat→List D)(hkx:anyB (Nat.beq k) E.fx=false)(hz:look s.sl j=some (.box cs))(hi:cs[i]?=some .zero)(hk:s.noRef k=true)
 (h:At E L i' ((s.slot k (.vec es 0 get)).slot j (.box (cs.set i (.own k es 0 0)))) K):At E L i' s K:=fun a w hs=>h a w (hs.newOwnB hkx hz hi hk)
def SubS:List (Nat×Slot)→List (Nat×Slot)→Prop
 |[],_=>True
 |(k,c)::r,sl=>(look sl k=some c∧c.clean=true)∧SubS r sl
theorem SubS.out: ∀{sl' sl:List (Nat×Slot)},SubS sl' sl→ ∀k c,look sl' k=some c→look sl k=some c∧c.clean=true
 |[],_,_,k,c,h=>by cases h
 |(j,c0)::r,sl,⟨h1,h2⟩,k,c,h=>by
  rw[z0t]at h;by_cases e:j=k
  ·subst e;rw[if_pos rfl]at h;cases h;exact h1
  ·rw[if_neg e]at h;exact SubS.out h2 k c h
theorem ziq {ops:Array Oper}{o:Oper}{x:DOp}{z0:AV}{S':List (Nat×Slot)}(ρ:List (Nat×Nat))(k1 k2:List Nat)
 (hone: ∀r:St,allC (fun k=>match look (lessK ((k1++k2).map (renN ρ)) (x.need.sl++r.sl)) (renN ρ k)with|some _=>false|none=>true) (k1++k2)=true→allC (fun k=>(⟨x.need.tm++r.tm,lessK ((k1++k2).map (renN ρ)) (x.need.sl++r.sl)⟩:St).noRef (renN ρ k)) (oddK k1 k2)=true→
  One E ops o (x.need.app r) (putO ⟨x.need.tm++r.tm,S'++lessK ((k1++k2).map (renN ρ)) (x.need.sl++r.sl)⟩ o.dst z0))
 (hodd:allC (fun k=>(⟨x.need.tm,lessK ((k1++k2).map (renN ρ)) x.need.sl⟩:St).noRef (renN ρ k)) (oddK k1 k2)=true)
 (hmk:allC (fun k=>memB (renN ρ k) x.mks) (oddK k1 k2)=true)
 (hcov:allC (fun k=>z1f (renN ρ k) x.eff.sl) (k1++k2)=true) (hesl:S'=x.eff.sl)
 (het:match o.dst with|some d=>[(d,z0)]=x.eff.tm|none=>x.eff.tm=[]):DOk E ops o x:=DOk.one fun r hr=>by
 let im:=(k1++k2).map (renN ρ)
 have hle0: ∀(l:List (Nat×Slot)) t c,look (lessK im l) t=some c→memB t im=false∧look l t=some c:=fun l t c h=>by
  rw[z57]at h;cases hm:memB t im with
  |true=>rw[hm]at h;cases h
  |false=>rw[hm]at h;exact⟨rfl,h⟩
 refine(hone r ?_ ?_).weaken fun a w hs=>hs.weaken (fun t y hy=>?_) fun t y hy=>?_
 ·have: ∀k∈k1++k2,(match look (lessK im (x.need.sl++r.sl)) (renN ρ k)with|some _=>false|none=>true)=true:=fun k hk=>by
   have hm:memB (renN ρ k) im=true:=z2q.2 (zzk.2 ⟨k,hk,rfl⟩);rw[z57,hm]
  have key: ∀l:List Nat,(∀k∈l,(match look (lessK im (x.need.sl++r.sl)) (renN ρ k)with|some _=>false|none=>true)=true)→allC (fun k=>match look (lessK im (x.need.sl++r.sl)) (renN ρ k)with|some _=>false|none=>true) l=true:=by
   intro l;induction l with
   |nil=>intro _;rfl
   |cons k l ih=>
    intro h;simp only[allC];rw[h k (zz4 ..)];exact ih fun j hj=>h j (zz6 _ hj)
  exact key _ this
 ·have: ∀k∈oddK k1 k2,(⟨x.need.tm++r.tm,lessK im (x.need.sl++r.sl)⟩:St).noRef (renN ρ k)=true:=fun k hk=>by
   have h1:=z3f hodd k hk;have h2:=hr _ (z2q.1 (z3f hmk k hk))
   rw[zbz];have h3:(⟨r.tm,lessK im r.sl⟩:St).noRef (renN ρ k)=true:=by
    obtain⟨p1,p2⟩:=z4k h2;unfold St.noRef;have q1:anyB (fun e:Nat×AV=>AV.refs (renN ρ k) e.2) r.tm=false:=by
     cases e:anyB (fun e:Nat×AV=>AV.refs (renN ρ k) e.2) r.tm with
     |false=>rfl
     |true=>obtain⟨y,hy,hy'⟩:=z9a.1 e;rw[p1 y hy]at hy';cases hy'
    have q2:anyB (z6z (renN ρ k)) (lessK im r.sl)=false:=by
     cases e:anyB (z6z (renN ρ k)) (lessK im r.sl)with
     |false=>rfl
     |true=>
      obtain⟨y,hy,hy'⟩:=z9a.1 e;have hmem: ∀l:List (Nat×Slot),y∈lessK im l→y∈l:=by
       intro l;induction l with
       |nil=>intro h;exact h
       |cons z l ih=>
        rcases z with⟨zk,zc⟩;intro h;simp only[lessK]at h;split at h
        ·exact zz6 _ (ih h)
        ·rcases zzf.1 h with h|h
         ·rw[h];exact zz4 ..
         ·exact zz6 _ (ih h)
      obtain⟨u1,u2⟩:=p2 y (hmem _ hy);unfold z6z at hy';have hb:Nat.beq y.1 (renN ρ k)=false:=by
       cases hb:Nat.beq y.1 (renN ρ k)with
       |false=>rfl
       |true=>exact absurd (zz3 hb) u1
      rw[hb]at hy';simp only[u2]at hy';cases hy'
    simp only[q1,q2]
   exact z22 (n:=⟨x.need.tm,lessK im x.need.sl⟩) (r:=⟨r.tm,lessK im r.sl⟩) h1 h3
  have key: ∀l:List Nat,(∀k∈l,(⟨x.need.tm++r.tm,lessK im (x.need.sl++r.sl)⟩:St).noRef (renN ρ k)=true)→allC (fun k=>(⟨x.need.tm++r.tm,lessK im (x.need.sl++r.sl)⟩:St).noRef (renN ρ k)) l=true:=by
   intro l;induction l with
   |nil=>intro _;rfl
   |cons k l ih=>
    intro h;simp only[allC];rw[h k (zz4 ..)];exact ih fun j hj=>h j (zz6 _ hj)
  exact key _ this
 ·cases hdd:o.dst with
  |none=>
   rw[hdd]at het;have het:x.eff.tm=[]:=het
   simp only[St.app,het,List.nil_append]at hy;exact hy
  |some d=>
   rw[hdd]at het;have het:[(d,z0)]=x.eff.tm:=het
   simp only[St.app,←het]at hy;exact hy
 ·have h1:look (S'++lessK im (x.need.sl++r.sl)) t=some y:=by
   simp only[St.app,←hesl]at hy;rw[z26]at hy ⊢;cases he:look (S') t with
   |some z=>rw[he]at hy;exact hy
   |none=>
    rw[he]at hy;simp only at hy ⊢;rw[z57];cases hm:memB t im with
    |false=>exact hy
    |true=>
     obtain⟨k,hk,rfl⟩:=zzk.1 (z2q.1 hm);obtain⟨z,hz⟩:=z38.1 (z3f hcov k hk);rw[←hesl,he]at hz;cases hz
  cases hdd:o.dst with
  |none=>exact h1
  |some d=>exact h1
theorem DOk.callL {ops:Array Oper}{o:Oper}{x:DOp}{cl:Call}{f:FuncId}{nf:Nat}{caps:List CC}{xs args:List AV}{res:AV}{sl sl':List (Nat×Slot)}(ρ:List (Nat×Nat))
 (hS:Summ E.P f args sl res sl') (hop:o.op= .call cl) (hw: ∀r,z0v ops (x.need.app r) o=some true) (hd:dstOk E.N o.dst=true)
 (hc: ∀r,z6v (x.need.app r) cl=some (f,nf,caps)) (hx: ∀r,argsL (x.need.app r) cl nf caps=some xs)
 (hle: ∀r,AVsArgL (x.need.app r) ρ (keysS sl) ((keysS sl).map (renN ρ)) xs args) (hsl: ∀r,LentS (x.need.app r) ρ (keysS sl) sl) (hinj:injB ρ (keysS sl)=true) (hinj':injB ρ (keysS sl')=true)
 (hres:res.lent (keysS sl')=true) (hsl':allC (fun p:Nat×Slot=>p.2.lent (keysS sl')) sl'=true)
 (hodd:allC (fun k=>(⟨x.need.tm,lessK ((keysS sl++keysS sl').map (renN ρ)) x.need.sl⟩:St).noRef (renN ρ k)) (oddK (keysS sl) (keysS sl'))=true)
 (hmk:allC (fun k=>memB (renN ρ k) x.mks) (oddK (keysS sl) (keysS sl'))=true)
 (hfx:allC (fun k=> !anyB (Nat.beq (renN ρ k)) E.fx) (oddK (keysS sl) (keysS sl'))=true) (hlk:lkOk3 E.lk ρ (keysS sl) (keysS sl')=true)
 (hcov:allC (fun k=>z1f (renN ρ k) x.eff.sl) (keysS sl++keysS sl')=true) (hesl:renSl ρ sl'=x.eff.sl)
 (het:match o.dst with|some d=>[(d,res.ren ρ)]=x.eff.tm|none=>x.eff.tm=[]):DOk E ops o x:=
 ziq ρ (keysS sl) (keysS sl') (fun r q1 q2=>One.callL ρ ⟨x.need.tm++r.tm,lessK ((keysS sl++keysS sl').map (renN ρ)) (x.need.sl++r.sl)⟩ hS hop (hw r) hd (hc r) (hx r) (hle r) (hsl r) hinj hinj' hres hsl' (fun t y h=>h) (fun t c h=>by
  rw[z57]at h;split at h
  ·cases h
  ·exact h) q1 q2 hfx hlk) hodd hmk hcov hesl het
end
end Go.Av
/-
 Av,part Y:more rules over lists;library functions that the model stands in for.
-/
namespace Go.Av
open Go
@[reducible] def onlyS (s1:St):Exit→St→Prop:=fun e s=>e= .normal∧s=s1
section
variable {E:Env} {s:St} {X:Type} [Inhabited X]
theorem z31 (s1:St){c:Code}{post:Exit→St→Prop}(h:Tri E c s (onlyS s1))(hA:At E [] 0 s1 (post .normal)):Tri E c s post:=fun a w hs hc=>
 wpIn_mono (h a w hs hc) fun e a' w' ⟨s',hp,hs'⟩=>by
  obtain⟨rfl,rfl⟩:=hp;exact hA a' w' hs' (fun e a'' w''=> ∃s'',post e s''∧SimE E s'' a'' w'') fun s'' a'' w'' k h'=>⟨s'',k,h'⟩
def znp (s:ByteArray):List Int:=s.data.toList.map fun b=>(b.toNat:Int)
@[simp] theorem zqf (s:ByteArray):(znp s).length=s.size:=by
 unfold znp;rw[List.length_map,zzn];rfl
def copyL (dst src:List X):List X:=src++dst.drop src.length
theorem zf6 {dst src:List X}(h:src.length≤dst.length):(copyL dst src).length=dst.length:=by simp[copyL];omega
theorem zn3 {ops:Array Oper}{o:Oper}{k es:Nat}{dT sT e:TypeId}{p x:Operand}{y:AV}(enc:X→List D)(dst src:List X)
 (hop:o.op= .call ⟨.builtin .copy, #[p,x], #[dT,sT]⟩) (hw:z0v ops s o=some true) (hd:dstOk E.N o.dst=true)
 (hu:E.P.underlying dT=some (.slice e)) (hsz:sizeT E.P e=some es) (hp:evO s p=some (.c (.own k es 0 dst.length))) (hk:look s.sl k=some (.vec es dst.length (fun i=>enc (dst.getD i zzd)))) (hx:evO s x=some y)
 (hsrc:SrcOf s y es src.length (fun i=>enc (src.getD i zzd))) (hm:src.length≤dst.length):
 One E ops o s (putO (s.slot k (.vec es (copyL dst src).length (fun i=>enc ((copyL dst src).getD i zzd)))) o.dst (.c (.d (.int .i64 (src.length:Int))))):=by
 have h:=One.copy hop hw hd hu hsz hp hk hx hsrc hm;rw[zf6 hm];have e1:zae src.length (fun i=>enc (src.getD i zzd)) (fun i=>enc (dst.getD i zzd))=fun i=>enc ((copyL dst src).getD i zzd):=by
  funext i;unfold zae copyL;rw[zff];split
  ·rfl
  ·rename_i hi
   show enc (dst.getD i zzd)=enc ((dst.drop src.length).getD (i-src.length) zzd);rw[List.getD_eq_getElem?_getD,List.getD_eq_getElem?_getD,List.getElem?_drop];congr 3;omega
 rw[e1]at h;exact h
theorem zdn {ops:Array Oper}{o:Oper}{t e:TypeId}{d:Nat}{x:Operand}
 (hop:o.op= .call ⟨.builtin .cap, #[x], #[t]⟩) (hw:z0v ops s o=some true) (hd:o.dst=some d) (hlt:Nat.blt d E.N=true) (hu:E.P.underlying t=some (.slice e)) (hx:evO s x=some (.c .zero)):
 One E ops o s (s.put d (.c (.d (.int .i64 0)))):=fun a w hs=>by
 obtain⟨G,φ,h⟩:=hs;refine⟨z2e h hw,fun next Q hn=>?_⟩;obtain⟨A,hA⟩:=(h.ev hx).1;have he:execOp a.eval o=(do pure (.value (←Builtin.cap_ #[t] o.type #[a.eval x])):Sem Next):=by
  unfold execOp;rw[hop];simp[resolve,invoke,builtin]
 have hrun:(Builtin.cap_ #[t] o.type #[a.eval x]).run E.P w= .ok (.int .i64 0) w:=by
  rw[hA];simp[Builtin.cap_,run_underlying hu,goInt]
 unfold Oper.wp;rw[he];simp only[zz8,hrun,zz1,zzb,Oper.upon,hd];exact hn _ _ ⟨G,φ,h.put (zzo.mp hlt) (z0k (RelD.int _ _) rfl)⟩
theorem zew {ops:Array Oper}{o:Oper}{d:Nat}{sT xT e:TypeId}{es bs:Nat}{kn kx:IntKind}{n:Int}{b x:Operand}{z:List C}{ds:List D}(enc:X→List D)(v0:X)
 (hop:o.op= .call ⟨.builtin .append, #[b,x], #[sT,xT]⟩) (hw:z0v ops s o=some true) (hd:o.dst=some d) (hlt:Nat.blt d E.N=true) (hnr:s.noRef d=true)
 (hu:E.P.underlying sT=some (.slice e)) (hx:E.P.underlying xT=some (.int kx)) (hsz:sizeT E.P e=some es) (hbs:z9s E.P e=some bs) (hbp:Nat.blt 0 bs=true) (hb2:Nat.ble bs 256=true)
 (hz:zeroCells E.P e=some z) (hze:Nat.beq z.length es=true) (hes:Nat.blt 0 es=true) (hzd:CsLe s [] z (ds.map .d)) (hev:enc v0=ds)
 (hb:evO s b=some (.c .zero)) (hxv:evO s x=some (.c (.d (.int kn n)))) (h0:0<n) (h1:n≤(lim:Int)):
 One E ops o s ((s.slot d (.vec es (zz9 n.toNat v0).length (fun i=>enc ((zz9 n.toNat v0).getD i zzd)))).put d (.c (.own d es 0 (zz9 n.toNat v0).length))):=fun a w hs=>by
 obtain⟨G,φ,h⟩:=hs;refine⟨z2e h hw,fun next Q hn=>?_⟩;obtain⟨A,hA⟩:=(h.ev hb).1;have hN:a.eval x= .int kn n:=z5a (h.ev hxv)
 obtain⟨zv,z1,z2,z3⟩:=z6h hz;have hbs0:=zzo.mp hbp
 have hbs2:=zz5 hb2;have hze:=zz3 hze
 have hes0:=zzo.mp hes;have hzsz:zv.cells.size=es:=by rw[←hze,←z2];simp
 have hlimv:(lim:Int)=274877906944:=rfl;have hwr:zzi.wrap n=n:=z3r (by omega) (by omega)
 have hinfo: ∀w,(typeInfo e).run E.P w= .ok ((E.P.info? e).getD zzd) w:=fun w=>by
  unfold sizeT at hsz;cases hi:E.P.info? e with
  |none=>simp[hi]at hsz
  |some i=>simp[typeInfo,hi]
 have hbytes:((E.P.info? e).getD zzd).bytes=bs:=by
  unfold z9s at hbs;cases hi:E.P.info? e with
  |none=>simp[hi]at hbs
  |some i=>simpa [hi]using hbs
 have hn0:n.toNat*es≠0:=by
  have:0<n.toNat:=by omega
  exact Nat.ne_of_gt (Nat.mul_pos this hes0)
 let q:Question:= .appendCap (0+n.toNat) 0 e
 let newCap:=q.cut (w.tape w.drawn q)
 have hge:0+n.toNat≤newCap:=Nat.le_add_right _ _
 let vs:Array Value:= #[]++Builtin.zeroCells zv.cells n.toNat++Builtin.zeroCells zv.cells (newCap-(0+n.toNat))
 have hrun:(Builtin.append_ #[sT,xT] o.type #[.slice A 0 0,.int kn n]).run E.P w= .ok (.slice (some ⟨w.heap.size,0,none⟩) (0+n.toNat) newCap) (World.alloc {w with drawn:=w.drawn+1} (.cells vs e)):=by
  have hlb: ¬(n*(bs:Int)>2^48):=by
   have h2:n*(bs:Int)≤274877906944*256:=Int.mul_le_mul (by omega) (by omega) (by omega) (by omega);have:(274877906944:Int)*256≤2^48:=by decide
   omega
  have hbig: ¬(Builtin.nextslicecap (0+n.toNat) 0*bs>2^48):=by
   have h1:=zhn (need:=0+n.toNat) (old:=0) (by omega);have h2:Builtin.nextslicecap (0+n.toNat) 0≤2*lim+192:=by
    have:lim=274877906944:=rfl;omega
   have h3:Builtin.nextslicecap (0+n.toNat) 0*bs≤(2*lim+192)*256:=Nat.mul_le_mul h2 hbs2;have h4:(2*lim+192)*256≤2^48:=by decide
   omega
  have hmax:zzi.max=9223372036854775807:=by decide
  have hask: ∀b w',(askRoom b).run E.P w'= .ok () w':=fun b w'=>by unfold askRoom;split<;>rfl
  have hch:(choose (.appendCap (0+n.toNat) 0 e)).run E.P w= .ok newCap {w with drawn:=w.drawn+1}:=rfl;have hold: ∀w',(Builtin.firstCells es 0 (.slice A 0 0)).run E.P w'= .ok #[] w':=fun w'=>by cases A<;>simp[Builtin.firstCells,loadCells,loadCellsFrom]
  have hnz: ¬(n.toNat=0∨es=0):=by omega
  unfold Builtin.append_;simp only[List.getElem?_toArray,List.getElem?_cons_zero,List.getElem?_cons_succ,zz8,run_underlying hu,run_underlying hx,zz1,z2s hsz,zzb,if_true,asInt,asIntOf,hwr,hinfo,hbytes];rw[if_neg (by omega: ¬n<0)];simp only[zz8,hinfo,zz1,zzb,hbytes];rw[if_neg hlb];simp only[zz8,zz1,zzb];rw[if_neg (by omega: ¬0+n.toNat≤0)];simp only[zz8,hinfo,zz1,hbytes];have hsmall: ¬(((0+n.toNat:Nat):Int)>zzi.max∧(True∨bs=0)):=by
   rintro⟨h,_⟩;rw[hmax]at h;omega
  rw[if_neg hsmall];simp only[zz8,hinfo,zz1,hbytes];rw[if_neg hbig];simp only[zz8,hch,zz1,hinfo,hask,hold,Bool.not_true,if_false,hn0,z1,z6l,zzb,Bool.false_eq_true];rfl
 have he:execOp a.eval o=(do pure (.value (←Builtin.append_ #[sT,xT] o.type #[a.eval b,a.eval x])):Sem Next):=by
  unfold execOp;rw[hop];simp[resolve,invoke,builtin]
 unfold Oper.wp;rw[he,hA,hN];simp only[zz8,hrun,zz1,zzb,Oper.upon,hd];have hw1:Sim E s G φ a {w with drawn:=w.drawn+1}:=h.world rfl rfl ⟨rfl,Nat.le_succ _⟩ rfl
 have hdl:ds.length=es:=by
  have:=hzd.rel h (vs:=zv.cells.toList) (by rw[←z2];exact z61 G E.V φ w _);have:=this.length
  simp at this;omega
 have hzr:RelCs (RelC G E.V φ w) (ds.map .d) zv.cells.toList:=by
  have h2:=hzd.rel h (vs:=zv.cells.toList) (by rw[←z2];exact z61 G E.V φ w _);exact h2.mono fun c _ v hc=>hc.mono (Same.refl _ _) (Same.refl _ _) (fun _ hb=>z8m hb) fun _ _=>rfl
 have hcell: ∀j,j<es→ ∃u,zv.cells[j]?=some u∧RelD G w (D.at ds j) u:=fun j hj=>by
  obtain⟨u,hu,hr⟩:=hzr.get j (.d (D.at ds j)) (by rw[List.getElem?_map,List.getElem?_eq_getElem (by omega)];simp[D.at,List.getD_eq_getElem?_getD,List.getElem?_eq_getElem (show j<ds.length by omega)]);exact⟨u,by simpa using hu,hr⟩
 have hvsz:vs.size=newCap*es:=by
  simp only[vs,Array.size_append,Builtin.zeroCells,Array.size_map,Array.size_range,hzsz];rw[show(#[]:Array Value).size=0 from rfl,zza,←Nat.add_mul];congr 1;omega
 have hok:z4a G {w with drawn:=w.drawn+1} vs.toList es n.toNat (fun _=>ds):=fun i hi=>⟨hdl,fun j hj=>by
  obtain⟨u,hu,hr⟩:=hcell j hj;refine⟨u,?_,RelD.mono (w:=w) (w':={w with drawn:=w.drawn+1}) (fun b _=>rfl) (fun _ h=>h) hr⟩;have hlt':i*es+j<n.toNat*es:=z60 hi hj
  have hmod:(i*es+j) % zv.cells.size=j:=by rw[hzsz,Nat.add_comm,Nat.add_mul_mod_self_right,Nat.mod_eq_of_lt hj]
  have hz0:(Builtin.zeroCells zv.cells n.toNat).size=n.toNat*es:=by simp[Builtin.zeroCells,hzsz]
  have e1:vs.toList[i*es+j]?=(Builtin.zeroCells zv.cells n.toNat)[i*es+j]?:=by
   rw[Array.getElem?_toList];simp only[vs,Array.empty_append];rw[Array.getElem?_append_left (by omega)]
  rw[e1];unfold Builtin.zeroCells;rw[Array.getElem?_map,Array.getElem?_range,hzsz,if_pos hlt'];rw[hzsz]at hmod;simp only[Option.map_some,hmod];rw[getElem!_def,hu]⟩
 have hs':=hw1.newVec (k:=d) (w:={w with drawn:=w.drawn+1}) (get:=fun _=>ds) (h.notFx (zzo.mp hlt)) hnr e hvsz (by omega) (by unfold maxN;omega) hok;have hput:=hs'.put (zzo.mp hlt) (x:= .c (.own d es 0 n.toNat)) (v:= .slice (some ⟨w.heap.size,0,none⟩) (0+n.toNat) newCap) (z0k (Or.inr ⟨_,z53 _ _ _,(show 0+n.toNat≤newCap by omega),by simp⟩) rfl)
 have hfin:=zey (get':=fun i=>enc ((zz9 n.toNat v0).getD i zzd)) hput fun i hi=>by
  show enc ((zz9 n.toNat v0).getD i zzd)=ds;rw[List.getD_eq_getElem?_getD,List.getElem?_replicate,if_pos hi];exact hev
 rw[List.length_replicate]at hn;exact hn _ _ ⟨G,_,hfin⟩
def z72 (x y c:Int):Option (Int×Int):=
 need (0≤x∧0≤y∧0≤c∧c≤1)<|some ((x+y+c) % 18446744073709551616,(x+y+c) / 18446744073709551616)
theorem z96 {P : Program} {f : FuncId} {fn : Func} (hf : P.funcs[f]? = some fn) (hname : (fn.name == "runtime.NumGoroutine") = false) (hb : fn.body.isNone = true) (hn : Extern.findNext fn = none)
    (he : Extern.find fn = some add64Entry) {x y c : Int} {q : Int × Int} (h : z72 x y c = some q) :
    Summ P f [.c (.d (.int .u64 x)), .c (.d (.int .u64 y)), .c (.d (.int .u64 c))] [] (.tup [(false, [.d (.int .u64 q.1)]), (false, [.d (.int .u64 q.2)])]) [] := by
  unfold z72 at h
  obtain ⟨⟨hx, hy, hc0, hc1⟩, h⟩ := z04 h
  cases h
  intro G φ w vs hG hsl hargs
  match vs, hargs with
  | [a, b, d], ⟨h1, h2, h3, _⟩ =>
    have e1 : RelD G w (.int .u64 x) a := h1.1
    have e2 : RelD G w (.int .u64 y) b := h2.1
    have e3 : RelD G w (.int .u64 c) d := h3.1
    cases e1; cases e2; cases e3
    have hrun : (callFunc f [Value.int .u64 x, .int .u64 y, .int .u64 c].toArray).run P w = .ok (.value (.tuple #[.int .u64 ((x + y + c) % 18446744073709551616), .int .u64 ((x + y + c) / 18446744073709551616)])) w := by
      rw [run_callFunc_extern hf hname hb hn he]
      rw [run_add64 x y c hx hy hc0 hc1]
      rfl
    unfold Acts
    rw [hrun]
    refine ⟨_, G, φ, rfl, ?_⟩
    exact
    { up := fun _ h => h
      fr := fun _ h => .inl h
      sz := hG
      rel := ⟨_, rfl, ⟨RelD.int _ _, rfl⟩, ⟨RelD.int _ _, rfl⟩, trivial⟩
      slots := ⟨(fun _ _ h => by cases h), (fun _ _ _ _ _ _ h => by cases h), (fun _ _ _ h => by cases h)⟩
      blk := fun _ _ _ h => by cases h
      kp := Keep.refl _ _ _
      fix := fun _ _ _ h => by cases h }
end
end Go.Av
namespace Go.Av
section
variable {X:Type} [Inhabited X]
omit [Inhabited X]in
theorem zl0 {xs:List X}{h:Int}(hc:(0:Int)≤0∧(0:Int)≤h∧h≤(xs.length:Int)):min h.toNat xs.length=h.toNat:=by omega
omit [Inhabited X]in
theorem zm8 (xs:List X)(m:Nat):(xs.take m).length≤xs.length:=by rw[List.length_take];omega
theorem zkz (enc:X→List D)(xs:List X)(m:Nat): ∀i,i<(xs.take m).length→(fun i=>enc ((xs.take m).getD i zzd)) i=(fun i=>enc (xs.getD i zzd)) i:=fun i hi=>by
 show enc ((xs.take m).getD i zzd)=enc (xs.getD i zzd);rw[List.length_take]at hi;rw[List.getD_eq_getElem?_getD,List.getD_eq_getElem?_getD,List.getElem?_take,if_pos (by omega)]
end
end Go.Av
namespace Go.Av
abbrev i6 (x:Int):D:= .int .i64 x
abbrev u6 (x:Int):D:= .int .u64 x
abbrev cD (d:D):AV:= .c (.d d)
abbrev lD {X:Type}[Inhabited X](es:Nat)(e:X→List D)(l:List X):D:= .list es l.length (fun i=>e (l.getD i zzd))
abbrev wC {X:Type}[Inhabited X](es:Nat)(e:X→List D)(l:List X):C:= .view es l.length (fun i=>e (l.getD i zzd))
abbrev oC {X:Type}(k es:Nat)(l:List X):C:= .own k es 0 l.length
abbrev vL {X:Type}[Inhabited X](es:Nat)(e:X→List D)(l:List X):Slot:= .vec es l.length (fun i=>e (l.getD i zzd))
theorem DOk.t {E:Env}{ops:Array Oper}{o:Oper}{x:DOp}{d:Nat}{av:AV}(he0:x.eff=⟨[(d,av)],[]⟩)(hd:o.dst=some d)(hw:(fun r=>(z0v ops (x.need.app r) o,z43 E.P (x.need.app r) (some d) o.op))=fun _=>(some true,some (.val av True)))
 (hok:(okDst E.N x.need (some d) (.val av True) && mksOk x.mks (.val av True) (some d))=true):DOk E ops o x:=
 DOk.step (.val av True) (fun r=>congrArg Prod.fst (congrFun hw r)) (fun r=>by rw[hd];exact congrArg Prod.snd (congrFun hw r)) trivial (by rw[hd];exact(Bool.and_eq_true_iff.1 hok).1) (by rw[hd];exact(Bool.and_eq_true_iff.1 hok).2) (fun r=>by rw[hd,he0];rfl)
end Go.Av
namespace Go.Av
open Go
abbrev dI (x:Int):D:= .int .i64 x
abbrev dU (x:Int):D:= .int .u64 x
inductive Sh where
 |a (tm sl:List Nat)
 |m (need eff:St) (mks dead hid:List Nat)
def zcz (P:Program)(ops:Array Oper)(n:St)(o:Oper):St:=
 match o.dst with
 |none=>⟨[],[]⟩
 |some d=>match z0v ops n o with
  |some true=>match z43 P n (some d) o.op with
   |some (.val av _)=>⟨[(d,av)],[]⟩
   |_=>⟨[],[]⟩
  |some false=>⟨[(d,.tup [])],[]⟩
  |none=>⟨[],[]⟩
def zqv (s0:St)(b:List Nat)(acc:List DOp)(tm sl:List Nat):St:=
 match keep tm sl (stD (fun i=>memB i b) 0 acc s0)with
 |some n=>n
 |none=>⟨[],[]⟩
def z2c (P:Program)(ops:Array Oper)(s0:St)(bef:List (List Nat)):Nat→List Oper→List Sh→List DOp→List DOp
 |r,o::os,.a tm sl::xs,acc=>
  (fun x:DOp=>x::z2c P ops s0 bef (r+1) os xs (acc++[x])) ((fun n:St=>⟨n,zcz P ops n o,[],[],[]⟩) (zqv s0 (nth bef r) acc tm sl))
 |r,_::os,.m n e mk dd hd::xs,acc=>⟨n,e,mk,dd,hd⟩::z2c P ops s0 bef (r+1) os xs (acc++[⟨n,e,mk,dd,hd⟩])
 |_,_,_,_=>[]
def z7j (P:Program)(ops:Array Oper)(r:St):List Oper→List DOp→List Sh→List (Option Bool×Option Step)
 |o::os,x::xs,.a _ _::ys=>(z0v ops (x.need.app r) o,z43 P (x.need.app r) o.dst o.op)::z7j P ops r os xs ys
 |_::os,_::xs,.m _ _ _ _ _::ys=>z7j P ops r os xs ys
 |_,_,_=>[]
def z9b (N:Nat)(P:Program)(ops:Array Oper):List Oper→List DOp→List Sh→Bool
 |o::os,x::xs,.a _ _::ys=>
  match(match o.dst with
   |none=>false
   |some d=>match z0v ops x.need o with
    |some true=>match z43 P x.need (some d) o.op with
     |some (.val av c)=>match okDst N x.need (some d) (.val av c)with|true=>mksOk [] (.val av c) (some d)|false=>false
     |_=>false
    |some false=>Nat.blt d N
    |none=>false)with
  |true=>z9b N P ops os xs ys
  |false=>false
 |_::os,_::xs,.m _ _ _ _ _::ys=>z9b N P ops os xs ys
 |_,_,_=>true
def z71 (P:Program)(ops:Array Oper):List Oper→List DOp→List Sh→Prop
 |o::os,x::xs,.a _ _::ys=>
  match z0v ops x.need o with
  |some true=>match z43 P x.need o.dst o.op with
   |some (.val _ c)=>c∧z71 P ops os xs ys
   |_=>z71 P ops os xs ys
  |_=>z71 P ops os xs ys
 |_::os,_::xs,.m _ _ _ _ _::ys=>z71 P ops os xs ys
 |_,_,_=>True
inductive ManOk (E:Env) (ops:Array Oper):List Oper→List Sh→Prop
 |z {os:List Oper}:ManOk E ops os []
 |a {o:Oper} {os:List Oper} {tm sl:List Nat} {ys:List Sh} (h:ManOk E ops os ys):ManOk E ops (o::os) (.a tm sl::ys)
 |m {o:Oper} {os:List Oper} {n e:St} {mk dd hd:List Nat} {ys:List Sh} (h1:DOk E ops o ⟨n,e,mk,dd,hd⟩) (h:ManOk E ops os ys):ManOk E ops (o::os) (.m n e mk dd hd::ys)
theorem zjt {E:Env}{ops:Array Oper}{o:Oper}{n:St}(hl: ∀r:St,z0v ops (n.app r) o=z0v ops n o∧z43 E.P (n.app r) o.dst o.op=z43 E.P n o.dst o.op)
 (hg:(match o.dst with
  |none=>false
  |some d=>match z0v ops n o with
   |some true=>match z43 E.P n (some d) o.op with
    |some (.val av c)=>match okDst E.N n (some d) (.val av c)with|true=>mksOk [] (.val av c) (some d)|false=>false
    |_=>false
   |some false=>Nat.blt d E.N
   |none=>false)=true)
 (hc:match z0v ops n o with
  |some true=>match z43 E.P n o.dst o.op with
   |some (.val _ c)=>c
   |_=>True
  |_=>True):DOk E ops o ⟨n,zcz E.P ops n o,[],[],[]⟩:=by
 cases hd:o.dst with
 |none=>rw[hd]at hg;cases hg
 |some d=>
  rw[hd]at hg;simp only at hg;cases hw:z0v ops n o with
  |none=>rw[hw]at hg;cases hg
  |some b=>
   rw[hw]at hg hc;cases b with
   |false=>
    simp only at hg;refine DOk.skip (d:=d) (fun r=>(hl r).1.trans hw) hd hg (fun r=>?_);unfold zcz;rw[hd];simp only[hw];rfl
   |true=>
    simp only at hg hc;cases he:z43 E.P n (some d) o.op with
    |none=>rw[he]at hg;cases hg
    |some st=>
     rw[he]at hg;cases st with
     |val av c=>
      simp only at hg;rw[hd,he]at hc;simp only at hc;have h1:okDst E.N n (some d) (.val av c)=true:=by
       cases e:okDst E.N n (some d) (.val av c)with
       |true=>rfl
       |false=>rw[e]at hg;cases hg
      rw[h1]at hg;refine DOk.step (.val av c) (fun r=>(hl r).1.trans hw) (fun r=>?_) hc (by rw[hd];exact h1) (by rw[hd];exact hg) (fun r=>?_)
      ·have:=(hl r).2;rw[hd,he]at this;rw[hd];exact this
      ·unfold zcz;rw[hd];simp only[hw,he];rfl
     |new c x=>simp only at hg;cases hg
     |turn k c=>simp only at hg;cases hg
theorem zk6 {E:Env}{ops:Array Oper}{s0:St}{bef:List (List Nat)}: ∀(os:List Oper) (ys:List Sh) (r0:Nat) (acc:List DOp),Nat.beq os.length ys.length=true→
 (∀r:St,z7j E.P ops r os (z2c E.P ops s0 bef r0 os ys acc) ys=z7j E.P ops ⟨[],[]⟩ os (z2c E.P ops s0 bef r0 os ys acc) ys)→
 z9b E.N E.P ops os (z2c E.P ops s0 bef r0 os ys acc) ys=true→z71 E.P ops os (z2c E.P ops s0 bef r0 os ys acc) ys→ManOk E ops os ys→
 zcx E ops os (z2c E.P ops s0 bef r0 os ys acc)
 |[],[],_,_,_,_,_,_,_=>trivial
 |[],_::_,_,_,h,_,_,_,_=>by cases h
 |_::_,[],_,_,h,_,_,_,_=>by cases h
 |o::os,.m n e mk dd hd::ys,r0,acc,hlen,hv,hg,hc,hm=>by
  cases hm with|m h1 h2=>exact⟨h1,zk6 os ys (r0+1) _ hlen hv hg hc h2⟩
 |o::os,.a tm sl::ys,r0,acc,hlen,hv,hg,hc,hm=>by
  have e0: ∀n:St,n.app ⟨[],[]⟩=n:=fun n=>by cases n;simp[St.app]
  have hv1:=fun r=>List.cons.inj (hv r);unfold z2c at hg hc;simp only[z9b,z71]at hg hc;have hg2: ∀{b:Bool} {z:Bool},(match b with|true=>z|false=>false)=true→b=true∧z=true:=fun{b z} h=>by cases b<;>simp_all
  obtain⟨g1,g2⟩:=hg2 hg;refine⟨zjt (fun r=>?_) g1 ?_,zk6 os ys (r0+1) _ hlen (fun r=>(hv1 r).2) g2 ?_ (by cases hm with|a h=>exact h)⟩
  ·have:=(hv1 r).1;simp only[Prod.mk.injEq]at this;rw[e0]at this;exact this
  ·revert hc
   split
   ·split
    ·intro h;exact h.1
    ·intro _;trivial
   ·intro _;trivial
  ·revert hc
   split
   ·split
    ·intro h;exact h.2
    ·intro h;exact h
   ·intro h;exact h
theorem zh6 {E:Env}{s:St}{post:Exit→St→Prop}{id:Nat}{l:List Oper}(ys:List Sh)(bef:List (List Nat)){s':St}{cs:Prop}(tk sk:List Nat)(hm:E.P.follows .mixedOrders=true)
 (hb:(match Nat.beq l.length ys.length with|true=>(match drawB l (z2c E.P l.toArray s bef 0 l ys []) bef s with|true=>z9b E.N E.P l.toArray l (z2c E.P l.toArray s bef 0 l ys []) ys|false=>false)|false=>false)=true)
 (hn:z8t (z2c E.P l.toArray s bef 0 l ys []) bef s 0 (z2c E.P l.toArray s bef 0 l ys [])=z8s (z2c E.P l.toArray s bef 0 l ys []))
 (hv:(fun r=>z7j E.P l.toArray r l (z2c E.P l.toArray s bef 0 l ys []) ys)=fun _=>z7j E.P l.toArray ⟨[],[]⟩ l (z2c E.P l.toArray s bef 0 l ys []) ys)
 (hce:z71 E.P l.toArray l (z2c E.P l.toArray s bef 0 l ys []) ys=cs) (hc:cs) (hman:ManOk E l.toArray l ys)
 (hk:Av.keep tk sk (stD (fun _=>true) 0 (z2c E.P l.toArray s bef 0 l ys []) s)=some s') (hp:post .normal s'):Tri E (.region id l.toArray true) s post:=by
 have h2: ∀{b z:Bool},(match b with|true=>z|false=>false)=true→b=true∧z=true:=fun{b z} h=>by cases b<;>simp_all
 obtain⟨hlen,hb⟩:=h2 hb;obtain⟨hd,hg⟩:=h2 hb;exact Tri.drawn hm hd hn (zk6 l ys 0 [] hlen (fun r=>congrFun hv r) hg (hce▸hc) hman) hk hp
end Go.Av
namespace Go.Av
open Go
section
variable {E:Env} {s:St} {post:Exit→St→Prop} {id:Nat} {l:List Oper} {y:Code}
theorem z1a (tk sk:List Nat)(s':St)(c:Prop)(he:z6x E.P E.N l.toArray l tk sk s=some (s',c))(hc:c)(h:Tri E y s' post):Tri E (.seq (.region id l.toArray false) y) s post:=by
 refine z02 ?_;refine z07 ?_;have hl:(l.drop 0).take l.length=l:=by rw[List.drop_zero,List.take_of_length_le (zzc _)]
 refine At.seg l.length tk sk (s':=s') (c:=c) (by rw[hl];exact he) hc ?_;rw[zza];exact At.done (Nat.ble_eq_true_of_le (zzc _)) h
end
def allT:Nat→Prop
 |0=>True
 |n+1=>True∧allT n
theorem z00: ∀n,allT n
 |0=>trivial
 |n+1=>⟨trivial,z00 n⟩
end Go.Av
namespace Go.Av
open Go
def tNp:Nat→Prop→Prop
 |0,p=>p
 |n+1,p=>True∧tNp n p
theorem tN: ∀(n:Nat) {p:Prop},p→tNp n p
 |0,_,h=>h
 |n+1,_,h=>⟨trivial,tN n h⟩
theorem ai {a b:Prop}(x:a)(y:b):a∧b:=⟨x,y⟩
def zhy (P:Program)(N:Nat)(ops:Array Oper)(l:List Oper)(tk sk:List Nat)(s:St):St:=match z6x P N ops l tk sk s with|some (s',_)=>s'|none=>⟨[],[]⟩
def segPO (P:Program)(N:Nat)(ops:Array Oper)(l:List Oper)(tk sk:List Nat)(s:St):Option Prop:=match z6x P N ops l tk sk s with|some (_,c)=>some c|none=>none
def z94 (tk sk:List Nat)(s:St):St:=match keep tk sk s with|some s'=>s'|none=>⟨[],[]⟩
def zdb (tk sk:List Nat)(s:St):Bool:=match keep tk sk s with|some _=>true|none=>false
theorem zaq {tk sk:List Nat}{s:St}(h:zdb tk sk s=true):keep tk sk s=some (z94 tk sk s):=by
 unfold zdb at h;unfold z94;cases hk:keep tk sk s with
 |none=>rw[hk]at h;cases h
 |some s'=>rfl
theorem zhx {P:Program}{N:Nat}{ops:Array Oper}{l:List Oper}{tk sk:List Nat}{s:St}{c:Prop}(h:segPO P N ops l tk sk s=some c):z6x P N ops l tk sk s=some (zhy P N ops l tk sk s,c):=by
 unfold segPO at h;unfold zhy;cases he:z6x P N ops l tk sk s with
 |none=>rw[he]at h;cases h
 |some r=>
  rw[he]at h;cases h;rfl
theorem kr {α:Type}{a b:α}(h:a=b:=by kernel_rfl):a=b:=h
def retEv (P:Program)(s:St)(rs:List ResultVar):Option (AV×Prop):=match evRes P s rs with|some (l,c)=>some (resAV l,c)|none=>none
theorem RetAt.k {P:Program}{fn:Func}{res:AV}{sl':List (Nat×Slot)}{s:St}(h1:retEv P s fn.results.toList=some (res,allT fn.results.size):=by kernel_rfl)
 (h2:(match res.clean with|true=>allC (fun p:Nat×Slot=>p.2.clean) sl'|false=>false)=true:=by kernel_rfl) (h3:sl'.map (fun p=>look s.sl p.1)=sl'.map (fun p=>some p.2):=by kernel_rfl):RetAt P fn res sl' s:=by
 unfold retEv at h1;cases he:evRes P s fn.results.toList with
 |none=>rw[he]at h1;cases h1
 |some r=>
  obtain⟨l,c⟩:=r;rw[he]at h1;simp only[Option.some.injEq,Prod.mk.injEq]at h1;obtain⟨rfl,rfl⟩:=h1;have h2':(resAV l).clean=true∧allC (fun p:Nat×Slot=>p.2.clean) sl'=true:=by
   cases hc:(resAV l).clean with
   |true=>rw[hc]at h2;exact⟨rfl,h2⟩
   |false=>rw[hc]at h2;cases h2
  refine⟨l,_,he,z00 _,rfl,h2'.1,fun k c hk=>?_⟩;have hm:=z2p hk
  have:=List.map_inj_left.1 h3 _ hm;exact⟨this,z3f h2'.2 _ hm⟩
def putBs (ts:List Nat)(v:Bool)(s:St):St:=⟨ts.map (fun t=>(t,.c (.d (.bool v))))++s.tm,s.sl⟩
def befGo:List Oper→List (List Nat)→List (List Nat)
 |[],acc=>acc
 |o::os,acc=>befGo os (acc++[((o.after.toList.filter fun a=>match a.ground with| .textOnly _=>false| .gcOnly _=>false|_=>true).map (·.on)).foldr (fun j r=>(j::nth acc j).foldr (fun i r=>match memB i r with|true=>r|false=>i::r) r) []])
section
variable {E:Env} {s:St} {post:Exit→St→Prop} {id:Nat} {l:List Oper} {y:Code} {L:List Oper} {i:Nat} {K:St→Prop} {Q:Type} {q:Q} {x:Code}
theorem At.sg (n:Nat)(tk sk:List Nat){c:Prop}(hc:c)(h:At E L (i+n) (zhy E.P E.N L.toArray ((L.drop i).take n) tk sk s) K) (he:segPO E.P E.N L.toArray ((L.drop i).take n) tk sk s=some c:=by kernel_rfl):At E L i s K:=
 At.seg n tk sk (zhx he) hc h
theorem Tri.sg (tk sk:List Nat){c:Prop}(hc:c)(h:Tri E y (zhy E.P E.N l.toArray l tk sk s) post)(he:segPO E.P E.N l.toArray l tk sk s=some c:=by kernel_rfl):Tri E (.seq (.region id l.toArray false) y) s post:=
 z1a tk sk _ c (zhx he) hc h
theorem Tri.kp (tk sk:List Nat)(h:Tri E y (z94 tk sk s) post)(he:zdb tk sk s=true:=by kernel_rfl):Tri E y s post:=Tri.keep tk sk (zaq he) h
theorem z08 {c:Operand}{b:Bool}{u v:Option Q}(h:bf b u v=some q)(ht:u=some q→Tri E x s post)(hf:v=some q→Tri E y s post)(hb:evO s c=some (.c (.d (.bool b))):=by kernel_rfl):
 Tri E (.cond c x y) s post:=zn4 hb h ht hf
theorem z0j (ys:List Sh)(tk sk:List Nat){cs:Prop}(hc:cs)(hman:ManOk E l.toArray l ys)(hp:post .normal (z94 tk sk (stD (fun _=>true) 0 (z2c E.P l.toArray s (befGo l []) 0 l ys []) s)))
 (hm:E.P.follows .mixedOrders=true:=by kernel_rfl)
 (hb:(match Nat.beq l.length ys.length with|true=>(match drawB l (z2c E.P l.toArray s (befGo l []) 0 l ys []) (befGo l []) s with|true=>z9b E.N E.P l.toArray l (z2c E.P l.toArray s (befGo l []) 0 l ys []) ys|false=>false)|false=>false)=true:=by kernel_rfl)
 (hn:z8t (z2c E.P l.toArray s (befGo l []) 0 l ys []) (befGo l []) s 0 (z2c E.P l.toArray s (befGo l []) 0 l ys [])=z8s (z2c E.P l.toArray s (befGo l []) 0 l ys []):=by kernel_rfl)
 (hv:(fun r=>z7j E.P l.toArray r l (z2c E.P l.toArray s (befGo l []) 0 l ys []) ys)=(fun _=>z7j E.P l.toArray ⟨[],[]⟩ l (z2c E.P l.toArray s (befGo l []) 0 l ys []) ys):=by kernel_rfl)
 (hce:z71 E.P l.toArray l (z2c E.P l.toArray s (befGo l []) 0 l ys []) ys=cs:=by kernel_rfl)
 (hk:zdb tk sk (stD (fun _=>true) 0 (z2c E.P l.toArray s (befGo l []) 0 l ys []) s)=true:=by kernel_rfl):Tri E (.region id l.toArray true) s post:=
 zh6 ys (befGo l []) tk sk hm hb hn hv hce hc hman (zaq hk) hp
theorem z5f (s':St)(ys:List Sh)(tk sk:List Nat){cs:Prop}(hc:cs)(hman:ManOk E l.toArray l ys)(hp:post .normal s')
 (hm:E.P.follows .mixedOrders=true:=by kernel_rfl)
 (hb:(match Nat.beq l.length ys.length with|true=>(match drawB l (z2c E.P l.toArray s (befGo l []) 0 l ys []) (befGo l []) s with|true=>z9b E.N E.P l.toArray l (z2c E.P l.toArray s (befGo l []) 0 l ys []) ys|false=>false)|false=>false)=true:=by kernel_rfl)
 (hn:z8t (z2c E.P l.toArray s (befGo l []) 0 l ys []) (befGo l []) s 0 (z2c E.P l.toArray s (befGo l []) 0 l ys [])=z8s (z2c E.P l.toArray s (befGo l []) 0 l ys []):=by kernel_rfl)
 (hv:(fun r=>z7j E.P l.toArray r l (z2c E.P l.toArray s (befGo l []) 0 l ys []) ys)=(fun _=>z7j E.P l.toArray ⟨[],[]⟩ l (z2c E.P l.toArray s (befGo l []) 0 l ys []) ys):=by kernel_rfl)
 (hce:z71 E.P l.toArray l (z2c E.P l.toArray s (befGo l []) 0 l ys []) ys=cs:=by kernel_rfl)
 (hk:Av.keep tk sk (stD (fun _=>true) 0 (z2c E.P l.toArray s (befGo l []) 0 l ys []) s)=some s':=by kernel_rfl):Tri E (.region id l.toArray true) s post:=
 zh6 ys (befGo l []) tk sk hm hb hn hv hce hc hman hk hp
theorem DOk.cA {ops:Array Oper}{o:Oper}{x:DOp}{cl:Call}{f:FuncId}{args:List AV}{res:AV}(caps:List D)(xs:List AV)(hS:Summ E.P f args [] res [])(hle: ∀r,AVsArg (x.need.app r) xs args)
 (hop:o.op= .call cl:=by rfl) (hw: ∀r,z0v ops (x.need.app r) o=some true:=by exact fun r=>by kernel_rfl) (hd:dstOk E.N o.dst=true:=by kernel_rfl) (hc: ∀r,z7k (x.need.app r) cl=some (f,caps):=by exact fun r=>by kernel_rfl)
 (hx: ∀r,z91 (x.need.app r) cl caps=some xs:=by exact fun r=>by kernel_rfl) (hfl:z7p args=true:=by kernel_rfl) (hsol:res.solid=true:=by kernel_rfl) (heff: ∀r,putO (x.need.app r) o.dst res=x.eff.app (x.need.app r):=by exact fun r=>by kernel_rfl):DOk E ops o x:=
 DOk.callA hS hop hw hd hc hx hle hfl hsol heff
def lenS (s:St)(t:Nat):Option Nat:=match look s.tm t with|some (.c (.d (.list _ n _)))=>some n|some (.c (.view _ n _))=>some n|_=>none
theorem Tri.ln (t n:Nat)(h:n≤maxN→Tri E y s post)(he:lenS s t=some n:=by kernel_rfl):Tri E y s post:=by
 unfold lenS at he;split at he
 ·rename_i hl;cases he;exact Tri.lenOf hl h
 ·rename_i hl;cases he;exact zme hl h
 ·cases he
section
variable {S R:Type}
theorem z1b {tc n b cid id1 id2:Nat}{L1 L2:List Oper}{body:Code}{B:Nat→S→Option (Ctl S R)}{kn:S→Option Q}{kr:R→Option Q}(ti:Nat)(st0:S)(RT:R→St→Prop)(σ:S→St)(tk0 sk0 tk sk tkF skF tk2 sk2:List Nat)
 (h:outK (z0l B n 0 st0) kn kr=some q) (hn:n≤maxN)
 (hbody: ∀i st c,i<n→B i st=some c→Tri E body ((idx ti i (σ st)).put tc (.c (.d (.bool true)))) (zjx cid b ti σ (fun st=>z94 tkF skF ((idx ti n (σ st)).put tc (.c (.d (.bool false))))) RT i c))
 (hrest: ∀st,kn st=some q→post .normal (z94 tkF skF ((idx ti n (σ st)).put tc (.c (.d (.bool false)))))) (hret: ∀x s',kr x=some q→RT x s'→post .ret s')
 (hbc:Nat.beq b cid=false:=by kernel_rfl) (hs0:Av.keep tk0 sk0 s=some (idx ti 0 (σ st0)):=by kernel_rfl)
 (h1: ∀i st,z6x E.P E.N L1.toArray L1 tk sk (idx ti i (σ st))=some ((idx ti i (σ st)).put tc (.c (.d (.bool (decide ((i:Int)<(n:Int)))))),allT L1.length):=by exact fun i st=>by kernel_rfl)
 (h2: ∀i st,z6x E.P E.N L2.toArray L2 tk2 sk2 (idx ti i (σ st))=some ((σ st).put ti (.c (.d (.int .i64 (zzi.wrap ((i:Int)+1))))),allT L2.length):=by exact fun i st=>by kernel_rfl)
 (hF: ∀st,zdb tkF skF ((idx ti n (σ st)).put tc (.c (.d (.bool false))))=true:=by exact fun st=>by kernel_rfl):
 Tri E (.block b (.loop (.seq (.region id1 L1.toArray false) (.seq (.cond (.tmp tc) .skip (.exit b)) (.seq (.block cid body) (.region id2 L2.toArray false)))))) s post:=
 Tri.keep tk0 sk0 hs0 (Tri.range RT σ _ (fun i=>decide ((i:Int)<(n:Int))) tk sk tkF skF tk2 sk2 h hn hbc (fun i st=>⟨_,h1 i st,z00 _⟩) (fun i hi=>decide_eq_true (by omega)) (decide_eq_false (by omega)) (fun st=>zaq (hF st)) (fun i st=>⟨_,h2 i st,z00 _⟩) hbody hrest hret)
theorem z28 {b:Nat}{c:Code}{B:S→Option (Ctl S R)}{kn:S→Option Q}{kr:R→Option Q}{fuel:Nat}(st0:S)(RT:R→St→Prop)(σ:S→St)(tk0 sk0:List Nat)
 (h:outK (loopN B fuel st0) kn kr=some q) (hround: ∀st r,B st=some r→Tri E c (σ st) (zfs b σ σ RT r))
 (hrest: ∀st,kn st=some q→post .normal (σ st)) (hret: ∀x s',kr x=some q→RT x s'→post .ret s') (hs0:Av.keep tk0 sk0 s=some (σ st0):=by kernel_rfl):Tri E (.block b (.loop c)) s post:=
 Tri.keep tk0 sk0 hs0 (z64 RT σ σ h hround hrest hret)
end
theorem At.cs (ts:List Nat){b:Bool}{u v:Option Q}(h:bf b u v=some q)(ht:u=some q→At E L i (putBs ts true s) K)(hf:v=some q→At E L i (putBs ts false s) K)
 (hb:ts.map (fun t=>look s.tm t)=ts.map (fun _=>some (.c (.d (.bool b)))):=by kernel_rfl):At E L i s K:=by
 have key:At E L i (putBs ts b s) K:=by
  cases b
  ·exact hf h
  ·exact ht h
 refine fun a w hs=>key a w (hs.weaken (fun t y hy=>?_) fun t y hy=>hy);unfold putBs at hy;simp only at hy;rcases zgv hy with hy|⟨_,hy⟩
 ·have hm:=z2p hy;obtain⟨t',ht',e⟩:=zzk.1 hm;cases e;exact List.map_inj_left.1 hb _ ht'
 ·exact hy
theorem At.cA {o:Oper}{cl:Call}{f:FuncId}{args:List AV}{res:AV}(caps:List D)(xs:List AV)(hS:Summ E.P f args [] res [])(hle:AVsArg s xs args)(h:At E L (i+1) (putO s o.dst res) K)(ho:L[i]?=some o:=by rfl)
 (hop:o.op= .call cl:=by rfl) (hw:z0v L.toArray s o=some true:=by kernel_rfl) (hd:dstOk E.N o.dst=true:=by kernel_rfl) (hc:z7k s cl=some (f,caps):=by kernel_rfl) (hx:z91 s cl caps=some xs:=by kernel_rfl)
 (hfl:z7p args=true:=by kernel_rfl) (hsol:res.solid=true:=by kernel_rfl):At E L i s K:=
 At.callA hS ho hop hw hd hc hx hle hfl hsol h
theorem z2k {o:Oper}{cl:Call}{f:FuncId}{args:List AV}{res:AV}{sl sl':List (Nat×Slot)}(nf:Nat)(caps:List CC)(xs:List AV)(ρ:List (Nat×Nat))(tk sk:List Nat)
 (hS:Summ E.P f args sl res sl') (hle:AVsArgL s ρ (keysS sl) ((keysS sl).map (renN ρ)) xs args) (h:At E L (i+1) (putO ⟨(z94 tk sk s).tm,renSl ρ sl'++(z94 tk sk s).sl⟩ o.dst (res.ren ρ)) K) (ho:L[i]?=some o:=by rfl) (hop:o.op= .call cl:=by rfl)
 (hw:z0v L.toArray s o=some true:=by kernel_rfl) (hd:dstOk E.N o.dst=true:=by kernel_rfl) (hc:z6v s cl=some (f,nf,caps):=by kernel_rfl) (hx:argsL s cl nf caps=some xs:=by kernel_rfl)
 (hsl:LentS s ρ (keysS sl) sl:=by repeat' first|exact trivial|refine⟨⟨by kernel_rfl,by kernel_rfl⟩,?_⟩)
 (hinj:(match injB ρ (keysS sl)with|true=>(match injB ρ (keysS sl')with|true=>(match res.lent (keysS sl')with|true=>allC (fun p:Nat×Slot=>p.2.lent (keysS sl')) sl'|false=>false)|false=>false)|false=>false)=true:=by kernel_rfl)
 (hk:zdb tk sk s=true:=by kernel_rfl)
 (hk0:(match allC (fun k=>match look (z94 tk sk s).sl (renN ρ k)with|some _=>false|none=>true) (keysS sl++keysS sl')with|true=>allC (fun k=>(z94 tk sk s).noRef (renN ρ k)) (oddK (keysS sl) (keysS sl'))|false=>false)=true:=by kernel_rfl)
 (hfx:(match allC (fun k=> !anyB (Nat.beq (renN ρ k)) E.fx) (oddK (keysS sl) (keysS sl'))with|true=>lkOk3 E.lk ρ (keysS sl) (keysS sl')|false=>false)=true:=by kernel_rfl):At E L i s K:=by
 have h2: ∀{b z:Bool},(match b with|true=>z|false=>false)=true→b=true∧z=true:=fun{b z} h=>by cases b<;>simp_all
 obtain⟨a1,hinj⟩:=h2 hinj;obtain⟨a2,hinj⟩:=h2 hinj;obtain⟨a3,a4⟩:=h2 hinj;obtain⟨b1,b2⟩:=h2 hk0;obtain⟨c1,c2⟩:=h2 hfx;exact At.callL ρ tk sk hS ho hop hw hd hc hx hle hsl a1 a2 a3 a4 (zaq hk) b1 b2 c1 c2 _ rfl h
theorem zmd {d:Nat}{x y:C}(hx: ∀v,RelAV (fun c v=> ∃G V φ w,RelC G V φ w c v) (.c x) v→True){a:Act}{w:World}(hle: ∀s:St,CLe s [] x y)(hxa: ∀(R:C→Value→Prop) v,RelAV R (.c x) v→R x v∧v.oneCell'=true)
 (h:SimE E (s.put d (.c x)) a w):SimE E (s.put d (.c y)) a w:=by
 obtain⟨G,φ,h⟩:=h;refine⟨G,φ,{h with tm:=fun t z hz=>?_}⟩;simp only[St.put,z0t]at hz;by_cases e:d=t
 ·rw[if_pos e]at hz;cases hz;obtain⟨v,hv,hr⟩:=h.tm t (.c x) (by simp[St.put,z0t,e]);obtain⟨h1,h2⟩:=hxa _ _ hr;exact⟨v,hv,z0k ((CLe.rel h (hle _) h1).mono (Same.refl _ _) (Same.refl _ _) (fun _ hb=>z8m hb) fun _ _=>rfl) h2⟩
 ·rw[if_neg e]at hz;exact h.tm t z (by simp only[St.put,z0t];rw[if_neg e];exact hz)
theorem zju {X:Type}[Inhabited X]{ops:Array Oper}{o:Oper}{d es:Nat}(enc:X→List D){xs:List X}{l h:Int}{c:Prop}(hc:c)(hb:0≤l∧l≤h∧h≤(xs.length:Int))(hw:z0v ops s o=some true)(hd:o.dst=some d)
 (he:z43 E.P s o.dst o.op=some (.val (.c (.d (.list es (h.toNat-l.toNat) (fun i=>enc (xs.getD (l.toNat+i) zzd))))) c))
 (hok:okDst E.N s o.dst (.val (.c (.d (.list es (h.toNat-l.toNat) (fun i=>enc (xs.getD (l.toNat+i) zzd))))) c)=true):
 One E ops o s (s.put d (.c (.d (.list es (Av.sub xs l h).length (fun i=>enc ((Av.sub xs l h).getD i zzd)))))):=by
 have h1:=One.step hw he hc hok;rw[hd]at h1;exact One.weaken h1 fun a w hs=>zmd (fun _ _=>trivial) (fun s=>CLe.subD enc hb.1 hb.2.1 hb.2.2) (fun R v hr=>hr) hs
end
end Go.Av
namespace Go.Av
open Go
abbrev Alts:=List (Nat×Nat×St)
def altOf:Alts→Nat→Option (Nat×St)
 |[],_=>none
 |(r',i,n)::al,r=>match Nat.beq r' r with|true=>some (i,n)|false=>altOf al r
def hits (x y:DOp):Bool:=
 match anyB (fun e:Nat×AV=>z1f e.1 y.eff.tm) x.eff.tm with
 |true=>true
 |false=>anyB (fun e:Nat×Slot=>z1f e.1 y.eff.sl) x.eff.sl
def softB (al:Alts)(i r:Nat)(x y:DOp):Bool:=
 match altOf al r with
 |some (i',_)=>match Nat.beq i' i with|true=>(match hits x y with|true=>false|false=>true)|false=>false
 |none=>false
def zns (al:Alts)(specs:List DOp)(bef:List (List Nat)):Bool:=
 allB (fun r=>allB (fun i=>match Nat.beq i r with
  |true=>true
  |false=>match specs[i]?,specs[r]? with
   |some x,some y=>match z7y x y with
    |true=>(match memB i (nth bef r)with|true=>true|false=>(match memB r (nth bef i)with|true=>true|false=>softB al i r x y))
    |false=>true
   |_,_=>true) (List.range specs.length)) (List.range specs.length)
theorem zct {al:Alts}{specs:List DOp}{bef:List (List Nat)}(h:zns al specs bef=true){i r:Nat}{x y:DOp}(hx:specs[i]?=some x)(hy:specs[r]?=some y)(hne:i≠r)(hw:z7y x y=true):
 i∈nth bef r∨r∈nth bef i∨((∃n,altOf al r=some (i,n))∧hits x y=false):=by
 have h1:=z5g.1 h r (by simpa using(List.getElem?_eq_some_iff.1 hy).1);have h2:=z5g.1 h1 i (by simpa using(List.getElem?_eq_some_iff.1 hx).1)
 have hb:Nat.beq i r=false:=by
  cases hb:Nat.beq i r with
  |false=>rfl
  |true=>exact absurd (zz3 hb) hne
 rw[hb,hx,hy]at h2;simp only[hw]at h2;cases hm:memB i (nth bef r)with
 |true=>exact .inl (z2q.1 hm)
 |false=>
  rw[hm]at h2;simp only at h2;cases hm2:memB r (nth bef i)with
  |true=>exact .inr (.inl (z2q.1 hm2))
  |false=>
   rw[hm2]at h2;simp only at h2;right;right;unfold softB at h2;cases ha:altOf al r with
   |none=>rw[ha]at h2;cases h2
   |some p=>
    obtain⟨i',n⟩:=p;rw[ha]at h2;simp only at h2;cases hi:Nat.beq i' i with
    |false=>rw[hi]at h2;cases h2
    |true=>
     rw[hi]at h2;simp only at h2;cases hh:hits x y with
     |true=>rw[hh]at h2;cases h2
     |false=>exact⟨⟨n,by rw[zz3 hi]⟩,rfl⟩
theorem zqp {x y:DOp}{t:Nat}(hx:z1f t x.eff.tm=true)(hy:z1f t y.eff.tm=true):hits x y=true:=by
 unfold hits;obtain⟨v,hv⟩:=z38.1 hx;rw[z9a.2 ⟨(t,v),z2p hv,hy⟩]
theorem zqo {x y:DOp}{t:Nat}(hx:z1f t x.eff.sl=true)(hy:z1f t y.eff.sl=true):hits x y=true:=by
 unfold hits;obtain⟨v,hv⟩:=z38.1 hx;split
 ·rfl
 ·exact z9a.2 ⟨(t,v),z2p hv,hy⟩
def z8z (E:Env)(ops:Array Oper)(specs:List DOp)(bef:List (List Nat))(s0:St):Alts→Prop
 |[]=>True
 |(r,i,n)::al=>((Nat.beq i r=false∧specs[r]?.map (fun x=>(z1i x.need.tm,z1i x.need.sl))=some (z1i n.tm,z1i n.sl)∧keep (z1i n.tm) (z1i n.sl) (stD (fun j=>memB j (i::nth bef r)) 0 specs s0)=some n)∧
  ∃o x,ops[r]?=some o∧specs[r]?=some x∧DOk E ops o ⟨n,x.eff,x.mks,x.dead,x.hid⟩)∧z8z E ops specs bef s0 al
theorem z8z.get {E:Env}{ops:Array Oper}{specs:List DOp}{bef:List (List Nat)}{s0:St}: ∀{al:Alts},z8z E ops specs bef s0 al→ ∀{r i:Nat} {n:St} {o:Oper} {x:DOp},altOf al r=some (i,n)→ops[r]?=some o→specs[r]?=some x→
 i≠r∧z1i x.need.tm=z1i n.tm∧z1i x.need.sl=z1i n.sl∧keep (z1i n.tm) (z1i n.sl) (stD (fun j=>memB j (i::nth bef r)) 0 specs s0)=some n∧DOk E ops o ⟨n,x.eff,x.mks,x.dead,x.hid⟩
 |[],_,_,_,_,_,_,h,_,_=>by cases h
 |(r',i',n')::al,⟨⟨⟨h1,h2,h3⟩,o',x',h4,h5,h6⟩,ht⟩,r,i,n,o,x,h,ho,hx=>by
  simp only[altOf]at h;cases hb:Nat.beq r' r with
  |true=>
   rw[hb]at h;cases h;have e:=zz3 hb
   subst e;rw[h4]at ho;cases ho;rw[h5]at hx;cases hx;rw[h5]at h2;simp only[Option.map_some,Option.some.injEq,Prod.mk.injEq]at h2;exact⟨fun e=>by rw[e]at h1;simp at h1,h2.1,h2.2,h3,h6⟩
  |false=>
   rw[hb]at h;exact z8z.get ht h ho hx
section
variable {E:Env} {s:St} {a:Act} {w:World}
structure DrawOkA (E:Env) (ops:Array Oper) (specs:List DOp) (bef:List (List Nat)) (al:Alts) (s0:St):Prop where
 len:Nat.beq specs.length ops.size=true
 back:zcb ops=true
 befs:okBef ops bef=true
 ord:zns al specs bef=true
 fresh:zg6 specs bef s0=true
 needs:z8t specs bef s0 0 specs=z8s specs
 each: ∀(i:Nat) (o:Oper) (x:DOp),ops[i]?=some o→specs[i]?=some x→DOk E ops o x
 alts:z8z E ops specs bef s0 al
theorem zkb {α β:Type}{l:List (Nat×α)}{l':List (Nat×β)}(h:z1i l=z1i l')(t:Nat):z1f t l=z1f t l':=by
 have key: ∀{γ:Type} (l:List (Nat×γ)),z1f t l=memB t (z1i l):=fun l=>by
  induction l with
  |nil=>rfl
  |cons e l ih=>
   rcases e with⟨k,v⟩;simp only[z1f,z1i,zzp,memB]at*;cases Nat.beq k t<;>simp[ih]
 rw[key l,key l',h]
theorem DrawOkA.next {ops:Array Oper}{specs:List DOp}{bef:List (List Nat)}{al:Alts}{s0:St}(h:DrawOkA E ops specs bef al s0){D D':Nat→Bool}(hD:zev ops D){i:Nat}{o:Oper}{x:DOp}(ho:ops[i]?=some o)
 (hx:specs[i]?=some x) (hi:D i=false) (hedge: ∀e∈o.after.toList,Region.binds .any e=true→D e.on=true) (hD': ∀j,D' j=if j=i then true else D j) (hs:SimE E (stD D 0 specs s0) a w)
 {K:Act→World→Prop} {Q:Exit→Act→World→Prop} (hK: ∀a' w',SimE E (stD D' 0 specs s0) a' w'→K a' w'):wpOp E.P ops Q i K a w:=by
 have hlen:=zz3 h.len;have hilt:i<ops.size:=(Array.getElem?_eq_some_iff.1 ho).1
 have hjlt: ∀{j:Nat} {y:DOp},specs[j]?=some y→j<ops.size:=fun hy=>by rw[←hlen];exact(List.getElem?_eq_some_iff.1 hy).1
 have hbef: ∀j∈nth bef i,D j=true∧j<i:=zf2 h.befs hD i hilt fun o' ho' e he hb=>by rw[ho]at ho';cases ho';exact hedge e he hb
 have hafter: ∀j y,specs[j]?=some y→i∈nth bef j→D j=false:=fun j y hy hij=>by
  cases hj:D j with
  |false=>rfl
  |true=>
   have:=(zf2 h.befs hD j (hjlt hy) (fun o' ho' e he hb=>hD j o' ho' hj e he hb) i hij).1;rw[hi]at this;cases this
 have hown:memB i (nth bef i)=false:=by
  cases hm:memB i (nth bef i)with
  |false=>rfl
  |true=>exact absurd (zas h.befs hilt (z2q.1 hm)) (Nat.lt_irrefl _)
 have hx0:=hx;have hlast0: ∀j y,i<j→specs[j]?=some y→hits y x=true→z7y y x=true→D' j=false:=fun j y hlt hy hh hw=>by
  rw[hD',if_neg (by omega)];rcases zct h.ord hy hx (by omega) hw with hm|hm|⟨_,hm⟩
  ·have:=zas h.befs hilt hm;omega
  ·exact hafter j y hy hm
  ·rw[hh]at hm;cases hm
 have pick: ∃(nd:St) (b:List Nat),z1i x.need.tm=z1i nd.tm∧z1i x.need.sl=z1i nd.sl∧keep (z1i nd.tm) (z1i nd.sl) (stD (fun j=>memB j b) 0 specs s0)=some nd∧DOk E ops o ⟨nd,x.eff,x.mks,x.dead,x.hid⟩∧
  ∀j y,specs[j]?=some y→z7y y x=true→D j=memB j b:=by
  have hord: ∀j y,specs[j]?=some y→i∈nth bef j→memB j (nth bef i)=false:=fun j y hy hm=>by
   cases hm':memB j (nth bef i)with
   |false=>rfl
   |true=>
    have h1:=zas h.befs hilt (z2q.1 hm');have h2:=zas h.befs (hjlt hy) hm
    omega
  have plain:(∀j n,altOf al i=some (j,n)→D j=false)→ ∃(nd:St) (b:List Nat),z1i x.need.tm=z1i nd.tm∧z1i x.need.sl=z1i nd.sl∧keep (z1i nd.tm) (z1i nd.sl) (stD (fun j=>memB j b) 0 specs s0)=some nd∧DOk E ops o ⟨nd,x.eff,x.mks,x.dead,x.hid⟩∧
   ∀j y,specs[j]?=some y→z7y y x=true→D j=memB j b:=fun hno=>by
   have hkeep:=zc4 specs 0 h.needs i x hx;rw[zza]at hkeep;refine⟨x.need,nth bef i,rfl,rfl,hkeep,h.each i o x ho hx,fun j y hy hw=>?_⟩;by_cases e:j=i
   ·subst e;rw[hi,hown]
   ·rcases zct h.ord hy hx e hw with hm|hm|⟨⟨n,hm⟩,_⟩
    ·rw[(hbef j hm).1,z2q.2 hm]
    ·rw[hafter j y hy hm,hord j y hy hm]
    ·rw[hno j n hm];cases hm':memB j (nth bef i)with
     |false=>rfl
     |true=>have:=(hbef j (z2q.1 hm')).1;rw[hno j n hm]at this;cases this
  cases ha:altOf al i with
  |none=>exact plain fun j n e=>by rw[ha]at e;cases e
  |some p=>
   obtain⟨i0,n⟩:=p;cases hd0:D i0 with
   |false=>exact plain fun j n' e=>by rw[ha]at e;cases e;exact hd0
   |true=>
    obtain⟨g1,g2,g3,g4,g5⟩:=h.alts.get ha ho hx;refine⟨n,i0::nth bef i,g2,g3,g4,g5,fun j y hy hw=>?_⟩;by_cases ej:j=i0
    ·subst ej;rw[hd0];exact(z2q.2 (zz4 ..)).symm
    ·have hcons:memB j (i0::nth bef i)=memB j (nth bef i):=by
      simp only[memB];cases hb:Nat.beq i0 j with
      |true=>exact absurd (zz3 hb).symm ej
      |false=>rfl
     rw[hcons];by_cases e:j=i
     ·subst e;rw[hi,hown]
     ·rcases zct h.ord hy hx e hw with hm|hm|⟨⟨n',hm⟩,_⟩
      ·rw[(hbef j hm).1,z2q.2 hm]
      ·rw[hafter j y hy hm,hord j y hy hm]
      ·rw[ha]at hm;cases hm;exact absurd rfl ej
 obtain⟨nd,bb,kT,kS,hkeep,hdok,hsame⟩:=pick;obtain⟨fd,fm,ff⟩:=zfe h.fresh hx;unfold keep at hkeep;split at hkeep
 case h_2=>cases hkeep
 rename_i tm htm
 split at hkeep
 case h_2=>cases hkeep
 rename_i sl hsl
 have etm:nd.tm=tm:=by rw[←Option.some.inj hkeep]
 have esl:nd.sl=sl:=by rw[←Option.some.inj hkeep]
 have needT: ∀t y,look nd.tm t=some y→look (stD D 0 specs s0).tm t=some y:=fun t y hy=>by
  have h1:=z63 htm t y (etm▸hy);rw[←h1];refine z6b t specs 0 s0 s0 rfl fun j z hz hk=>?_;rw[zza];exact hsame j z hz (zcn hk (.inl (by rw[zkb kT];exact z5e hy)))
 have needS: ∀t y,look nd.sl t=some y→look (stD D 0 specs s0).sl t=some y:=fun t y hy=>by
  have h1:=z63 hsl t y (esl▸hy);rw[←h1];refine z5q t specs 0 s0 s0 rfl fun j z hz hk=>?_;rw[zza];exact hsame j z hz (zbj hk (.inl (by rw[zkb kS];exact z5e hy)))
 have lessT: ∀t y,look ((stD D 0 specs s0).less x).tm t=some y→look (stD D 0 specs s0).tm t=some y:=fun t y hy=>by
  have hy:look (lessK x.dead _) t=some y:=hy;rw[z57]at hy;cases hm:memB t x.dead with
  |true=>rw[hm]at hy;cases hy
  |false=>rw[hm]at hy;exact hy
 have lessS: ∀t y,look ((stD D 0 specs s0).less x).sl t=some y→look (stD D 0 specs s0).sl t=some y:=fun t y hy=>by
  have hy:look (lessK (x.mks++x.hid) _) t=some y:=hy;rw[z57]at hy;cases hm:memB t (x.mks++x.hid)with
  |true=>rw[hm]at hy;cases hy
  |false=>rw[hm]at hy;exact hy
 have hs1:SimE E (nd.app ((stD D 0 specs s0).less x)) a w:=hs.weaken (fun t y hy=>by
  simp only[St.app,z26]at hy;cases hn:look nd.tm t with
  |none=>rw[hn]at hy;exact lessT t y hy
  |some z=>rw[hn]at hy;cases hy;exact needT t _ hn) fun t y hy=>by
  simp only[St.app,z26]at hy;cases hn:look nd.sl t with
  |none=>rw[hn]at hy;exact lessS t y hy
  |some z=>rw[hn]at hy;cases hy;exact needS t _ hn
 have hfr: ∀d∈x.mks,((stD D 0 specs s0).less x).noRef d=true:=fun d hd=>by
  obtain⟨f1,f2⟩:=ff d hd;refine zcl specs 0 s0 f1 fun j y hy hDj=>?_;rw[zza]at hDj;cases he:zbv d x y with
  |false=>rfl
  |true=>
   have hne:j≠i:=fun e=>by rw[e,hi]at hDj;cases hDj
   have:=hafter j y hy (f2 j y hne hy he);rw[this]at hDj;cases hDj
 have hone:=hdok (stD D 0 specs s0) hfr a w hs1;have hD0:D' i=true:=by rw[hD'];simp
 have hs2: ∀a' w',SimE E (x.eff.app (nd.app ((stD D 0 specs s0).less x))) a' w'→SimE E (stD D' 0 specs s0) a' w':=fun a' w' hs'=>by
  refine hs'.weaken (fun t y hy=>?_) fun t y hy=>?_
  ·simp only[St.app,z26];cases he:look x.eff.tm t with
   |some z=>
    have:=zec (D:=D') t specs 0 i x z s0 hx (by rw[zza];exact hD0) he fun j z' hlt hz hk=>by
     rw[zza];exact hlast0 j z' hlt hz (zqp hk (z5e he)) (zcn hk (.inr (z5e he)))
    rw[this]at hy;cases hy;rfl
   |none=>
    have e:look (stD D' 0 specs s0).tm t=look (stD D 0 specs s0).tm t:=z6b t specs 0 s0 s0 rfl fun j z hz hk=>by
     rw[zza,hD',if_neg];intro e;subst e;rw[hx]at hz;cases hz;obtain⟨v,hv⟩:=z38.1 hk;rw[he]at hv;cases hv
    rw[e]at hy;cases hn:look nd.tm t with
    |none=>
     show look (lessK x.dead _) t=some y;rw[z57];cases hm:memB t x.dead with
     |true=>have:=fd t (z2q.1 hm);obtain⟨v,hv⟩:=z38.1 this;rw[he]at hv;cases hv
     |false=>exact hy
    |some z=>rw[needT t z hn]at hy;exact hy
  ·simp only[St.app,z26];cases he:look x.eff.sl t with
   |some z=>
    have:=zck (D:=D') t specs 0 i x z s0 hx (by rw[zza];exact hD0) he fun j z' hlt hz hk=>by
     rw[zza];exact hlast0 j z' hlt hz (zqo hk (z5e he)) (zbj hk (.inr (z5e he)))
    rw[this]at hy;cases hy;rfl
   |none=>
    have e:look (stD D' 0 specs s0).sl t=look (stD D 0 specs s0).sl t:=z5q t specs 0 s0 s0 rfl fun j z hz hk=>by
     rw[zza,hD',if_neg];intro e;subst e;rw[hx]at hz;cases hz;obtain⟨v,hv⟩:=z38.1 hk;rw[he]at hv;cases hv
    rw[e]at hy;cases hn:look nd.sl t with
    |none=>
     show look (lessK (x.mks++x.hid) _) t=some y;rw[z57];cases hm:memB t (x.mks++x.hid)with
     |true=>have:=fm t (z2q.1 hm);obtain⟨v,hv⟩:=z38.1 this;rw[he]at hv;cases hv
     |false=>exact hy
    |some z=>rw[needS t z hn]at hy;exact hy
 have hfin:=hone K Q fun a' w' hs'=>hK a' w' (hs2 a' w' hs');unfold wpOp;rw[ho];simp only;split
 ·rename_i hw;rw[if_pos hw]at hfin;exact .inl hfin
 ·rename_i hw;rw[if_neg hw]at hfin;exact hfin
theorem DrawOkA.any {ops:Array Oper}{specs:List DOp}{bef:List (List Nat)}{al:Alts}{s0:St}(h:DrawOkA E ops specs bef al s0){Q:Exit→Act→World→Prop}
 (hQ: ∀a' w',SimE E (stD (fun _=>true) 0 specs s0) a' w'→Q .normal a' w'): ∀(fuel:Nat) (listed:Array Bool) (a:Act) (w:World),cnt listed=fuel→listed.size=ops.size→zev ops (inD listed)→
 SimE E (stD (inD listed) 0 specs s0) a w→wpAny E.P .any ops Q fuel listed a w:=by
 have hlen:=zz3 h.len;intro fuel;induction fuel with
 |zero=>
  intro listed a w hc hz hD hs;refine⟨List.filter_eq_nil_iff.2 fun i hi=>?_,hQ a w ?_⟩
  ·have:=zdt hc i (by rw[hz];simpa using hi);simp[Array.getD_eq_getD_getElem?,this]
  ·rw[zdj (D':=inD listed)]
   ·exact hs
   ·intro j hj;have:=zdt hc j (by omega)
    simp[inD,Array.getD_eq_getD_getElem?,this]
 |succ fuel ih=>
  intro listed a w hc hz hD hs;refine⟨fun h0=>?_,fun i hi=>?_⟩
  ·obtain⟨i,h1,h2⟩:=zlu (l:=listed) (by omega);have hilt:i<ops.size:=by rw[←hz];exact(Array.getElem?_eq_some_iff.1 h1).1
   have hmem:i∈Region.ready .any ops listed:=by
    unfold Region.ready;refine zzm.2 ⟨by simpa using hilt,?_⟩;have ho:ops[i]?=some ops[i]:=Array.getElem?_eq_getElem hilt
    simp only[Array.getD_eq_getD_getElem?,h1,ho,Option.getD_some,Bool.not_false,Bool.true_and,Option.map_some,Array.all_eq_true'];intro e he;cases hb:Region.binds .any e with
    |false=>rfl
    |true=>
     have:=h2 e.on (zd7 h.back ho (by simpa using he) hb);simp[this]
   rw[h0]at hmem;cases hmem
  ·unfold Region.ready at hi;obtain⟨hi1,hi2⟩:=zzm.1 hi;have hilt:i<ops.size:=by simpa using hi1
   have ho:ops[i]?=some ops[i]:=Array.getElem?_eq_getElem hilt;simp only[ho,Option.map_some,Option.getD_some,Bool.and_eq_true,Array.all_eq_true']at hi2;obtain⟨hn,hall⟩:=hi2;have hli:listed[i]?=some false:=by
    rw[Array.getElem?_eq_getElem (by omega)];simp[Array.getD_eq_getD_getElem?,Array.getElem?_eq_getElem (show i<listed.size by omega)]at hn;rw[hn]
   have hedge: ∀e∈ops[i].after.toList,Region.binds .any e=true→inD listed e.on=true:=fun e he hb=>by
    have:=hall e (by simpa using he);rw[hb]at this
    simpa [inD]using this
   have hset: ∀j,inD (listed.setIfInBounds i true) j=if j=i then true else inD listed j:=fun j=>by
    unfold inD;simp only[Array.getD_eq_getD_getElem?,Array.getElem?_setIfInBounds];by_cases e:i=j
    ·subst e;simp[show i<listed.size by omega]
    ·rw[if_neg e,if_neg (fun x=>e x.symm)]
   obtain⟨x,hx⟩: ∃x,specs[i]?=some x:=⟨specs[i]'(by omega),List.getElem?_eq_getElem _⟩;refine h.next hD ho hx (by simp[inD,Array.getD_eq_getD_getElem?,hli]) hedge hset hs fun a' w' hs'=>?_;refine ih _ a' w' (by have:=zlv hli;omega) (by simpa using hz) (fun j o hj hDj e he hb=>?_) hs';rw[hset]at hDj ⊢;by_cases e1:e.on=i
   ·rw[if_pos e1]
   ·rw[if_neg e1];by_cases e2:j=i
    ·subst e2;rw[ho]at hj;cases hj;exact hedge e he hb
    ·rw[if_neg e2]at hDj;exact hD j o hj hDj e he hb
def zph (N:Nat)(P:Program)(ops:Array Oper)(n:St)(o:Oper):Bool:=
 match o.dst with
  |none=>false
  |some d=>match z0v ops n o with
   |some true=>match z43 P n (some d) o.op with
    |some (.val av c)=>match okDst N n (some d) (.val av c)with|true=>mksOk [] (.val av c) (some d)|false=>false
    |_=>false
   |some false=>Nat.blt d N
   |none=>false
def zlq (P:Program)(ops:Array Oper)(n:St)(o:Oper):Prop:=
 match z0v ops n o with
  |some true=>match z43 P n o.dst o.op with
   |some (.val _ c)=>c
   |_=>True
  |_=>True
theorem z8z.z {E:Env}{ops:Array Oper}{specs:List DOp}{bef:List (List Nat)}{s0:St}:z8z E ops specs bef s0 []:=trivial
theorem z8z.k {E:Env}{ops:Array Oper}{specs:List DOp}{bef:List (List Nat)}{s0:St}{r i:Nat}{n:St}{al:Alts}(h:z8z E ops specs bef s0 al)
 (h1:Nat.beq i r=false:=by kernel_rfl)
 (h2:specs[r]?.map (fun x=>(z1i x.need.tm,z1i x.need.sl))=some (z1i n.tm,z1i n.sl):=by kernel_rfl)
 (h3:keep (z1i n.tm) (z1i n.sl) (stD (fun j=>memB j (i::nth bef r)) 0 specs s0)=some n:=by kernel_rfl)
 (h4:specs[r]?.map (fun x=>(⟨n,x.eff,x.mks,x.dead,x.hid⟩:DOp))=ops[r]?.map (fun o=>(⟨n,zcz E.P ops n o,[],[],[]⟩:DOp)):=by kernel_rfl)
 (h5:(fun q:St=>ops[r]?.map (fun o=>(z0v ops (n.app q) o,z43 E.P (n.app q) o.dst o.op)))=(fun _=>ops[r]?.map (fun o=>(z0v ops n o,z43 E.P n o.dst o.op))):=by kernel_rfl)
 (h6:ops[r]?.map (zph E.N E.P ops n)=some true:=by kernel_rfl)
 (h7:ops[r]?.map (zlq E.P ops n)=some True:=by kernel_rfl):z8z E ops specs bef s0 ((r,i,n)::al):=by
 refine⟨⟨⟨h1,h2,h3⟩,?_⟩,h⟩;cases ho:ops[r]? with
 |none=>rw[ho]at h6;cases h6
 |some o=>
  cases hx:specs[r]? with
  |none=>rw[hx]at h2;cases h2
  |some x=>
   refine⟨o,x,rfl,rfl,?_⟩;rw[ho,hx]at h4;simp only[Option.map_some,Option.some.injEq]at h4;rw[h4];rw[ho]at h6 h7;simp only[Option.map_some,Option.some.injEq]at h6 h7;refine zjt (fun q=>?_) h6 ?_
   ·have:=congrFun h5 q;rw[ho]at this;simp only[Option.map_some,Option.some.injEq,Prod.mk.injEq]at this;exact this
   ·show zlq E.P ops n o;rw[h7];trivial
end
end Go.Av
namespace Go.Av
open Go
theorem Summ.i {P : Program} {f : FuncId} {fn : Func} {c : Code} {args : List AV} {sl sl' : List (Nat × Slot)} {res : AV} (hf : P.funcs[f]? = some fn) (hb : fn.body = some c) (ex : List Nat)
    (h : ∀ (w : World) (G V L : Nat → Prop) (φ : Nat → Option Loc) (rd : Option Nat), Tri ⟨P, w, G, V, L, sl.map (·.1) ++ ex, fn.ntmps, φ, sl.map (·.1), rd⟩ c ⟨params 0 args, sl⟩ (zlp P fn res sl'))
    (hn : (fn.name == "runtime.NumGoroutine") = false := by kernel_rfl) (ha : Nat.ble args.length fn.ntmps = true := by kernel_rfl) (hlt : anyB (fun p : Nat × Slot => Nat.blt p.1 fn.ntmps) sl = false := by rfl) : Summ P f args sl res sl' := by
  refine Summ.intro hf hb hn ha ex hlt ?_
  rintro ⟨P, w, G, V, L, lk, N, φ, fx, rd⟩ rfl rfl rfl rfl
  exact h w G V L φ rd
section
variable {E:Env}
theorem Tri.l {s:St}{post:Exit→St→Prop}{c:Code}(fz:List Nat)(s':St)(ht:LeT s fz s'.tm)(hs:LeS s fz s'.sl)(h:Tri E c s' post)(hfz: ∀k∈fz,k∉E.lk:=by intro k hk h;first|(cases hk;done)|(cases h;done)|(simp at hk h;omega)):Tri E c s post:=Tri.le fz hfz s' ht hs h
theorem At.l {L:List Oper}{i:Nat}{K:St→Prop}{s:St}(fz:List Nat)(s':St)(ht:LeT s fz s'.tm)(hs:LeS s fz s'.sl)(h:At E L i s' K)(hfz: ∀k∈fz,k∉E.lk:=by intro k hk h;first|(cases hk;done)|(cases h;done)|(simp at hk h;omega)):At E L i s K:=At.le fz hfz s' ht hs h
end
end Go.Av
namespace Go.Av
open Go
def rawC:List Bool→Nat→List C→(Nat→Value)→List C
 |m::ms,i,c::cs,u=>(match m with|true=> .raw (u i)|false=>c)::rawC ms (i+1) cs u
 |_,_,cs,_=>cs
def maskC:List Bool→List C→List C
 |m::ms,c::cs=>match m with|true=>c::maskC ms cs|false=>maskC ms cs
 |_,_=>[]
def setSl (k:Nat)(c:Slot):List (Nat×Slot)→List (Nat×Slot)
 |[]=>[]
 |(j,d)::r=>match Nat.beq j k with|true=>(j,c)::r|false=>(j,d)::setSl k c r
theorem zbf {k:Nat}{c:Slot}: ∀{l:List (Nat×Slot)} {t:Nat},look (setSl k c l) t=if t=k then(look l k).map (fun _=>c)else look l t
 |[],t=>by simp[setSl,look]
 |(j,d)::r,t=>by
  simp only[setSl];by_cases e:j=k
  ·subst e;have:Nat.beq j j=true:=by simp
   rw[this];simp only[z0t];by_cases h:t=j
   ·subst h;simp
   ·have h': ¬j=t:=fun q=>h q.symm;simp[h,h']
  ·have hb:Nat.beq j k=false:=by
    cases hb:Nat.beq j k with
    |false=>rfl
    |true=>exact absurd (zz3 hb) e
   rw[hb];simp only[z0t,zbf (l:=r)];by_cases h:t=k
   ·subst h;simp[e]
   ·by_cases h2:j=t
    ·subst h2;simp[e]
    ·simp[h,h2]
theorem zm2 {R:C→Value→Prop}(hraw: ∀x,R (.raw x) x): ∀{ms:List Bool} {i:Nat} {cs:List C} {u:Nat→Value} {vs:List Value},RelCs R cs vs→(∀j,j<vs.length→u (i+j)=vs.getD j undef)→RelCs R (rawC ms i cs u) vs
 |[],_,_,_,_,h,_=>by simpa [rawC]using h
 |_::_,_,[],_,[],h,_=>h
 |m::ms,i,c::cs,u,v::vs,h,hu=>by
  have h0:=hu 0 (by simp);have hr:RelCs R (rawC ms (i+1) cs u) vs:=zm2 hraw h.2 fun j hj=>by have:=hu (j+1) (by simpa using hj);simpa [Nat.add_assoc,Nat.add_comm 1 j]using this
  cases m with
  |true=>exact⟨by simp at h0;rw[h0];exact hraw v,hr⟩
  |false=>exact⟨h.1,hr⟩
 |_,_,[],_,_::_,h,_=>h.elim
 |_,_,_::_,_,[],h,_=>h.elim
def z9o (R:C→Value→Prop):List Bool→Nat→List C→(Nat→Value)→Prop
 |m::ms,i,c::cs,u=>(m=true→R c (u i))∧z9o R ms (i+1) cs u
 |_,_,_,_=>True
theorem zkp {R:C→Value→Prop}(hraw: ∀x v,R (.raw x) v→v=x): ∀{ms:List Bool} {i:Nat} {ds:List C} {u:Nat→Value} {vs:List Value},RelCs R (rawC ms i ds u) vs→z9o R ms i ds u→RelCs R ds vs
 |[],_,_,_,_,h,_=>by simpa [rawC]using h
 |_::_,_,[],_,_,h,_=>by simpa [rawC]using h
 |m::ms,i,d::ds,u,v::vs,h,hm=>by
  have hr:=zkp hraw h.2 hm.2;cases m with
  |true=>exact⟨by rw[hraw _ _ h.1];exact hm.1 rfl,hr⟩
  |false=>exact⟨h.1,hr⟩
 |_::_,_,_::_,_,[],h,_=>by simp[rawC,RelCs]at h
theorem z9o.of {R R':C→Value→Prop}: ∀{ms:List Bool} {i:Nat} {cs ds:List C} {u:Nat→Value} {vs:List Value},RelCs R cs vs→(∀j,j<vs.length→u (i+j)=vs.getD j undef)→maskC ms cs=maskC ms ds→cs.length=ds.length→(∀c∈maskC ms cs,∀v,R c v→R' c v)→z9o R' ms i ds u
 |[],_,_,_,_,_,_,_,_,_,_=>by simp[z9o]
 |_::_,_,_,[],_,_,_,_,_,_,_=>by simp[z9o]
 |m::ms,i,c::cs,d::ds,u,v::vs,h,hu,he,hl,hR=>by
  have h0:=hu 0 (by simp);have hu': ∀j,j<vs.length→u (i+1+j)=vs.getD j undef:=fun j hj=>by have:=hu (j+1) (by simpa using hj);simpa [Nat.add_assoc,Nat.add_comm 1 j]using this
  have hl':cs.length=ds.length:=by simpa using hl
  cases m with
  |true=>
   simp only[maskC]at he hR;injection he with e1 e2;subst e1;exact⟨fun _=>by simp at h0;rw[h0];exact hR c (zz4 ..) v h.1,z9o.of h.2 hu' e2 hl' fun c hc=>hR c (zz6 _ hc)⟩
  |false=>
   simp only[maskC]at he hR;exact⟨(fun h=>by cases h),z9o.of h.2 hu' he hl' hR⟩
 |_::_,_,[],_::_,_,_,_,_,_,hl,_=>by simp at hl
 |_::_,_,_::_,_,_,[],h,_,_,_,_=>h.elim
theorem zci {k:Nat}{c:Slot}{l:List (Nat×Slot)}{t:Nat}{x:Slot}(h:look (setSl k c l) t=some x): ∃y,look l t=some y:=by
 rw[zbf]at h;split at h
 ·rename_i e
  subst e;cases hl:look l t with
  |none=>rw[hl]at h;cases h
  |some y=>exact⟨y,rfl⟩
 ·exact⟨x,h⟩
theorem zfw {k:Nat}{c d:Slot}{r:List (Nat×Slot)}: ∀{l:List (Nat×Slot)},look l k=some d→setSl k c (l++r)=setSl k c l++r
 |[],h=>by cases h
 |(j,e)::l,h=>by
  simp only[List.cons_append,setSl];cases hb:Nat.beq j k with
  |true=>rfl
  |false=>
   have h':look l k=some d:=by simpa only[look,hb]using h
   simp only[List.cons_append,zfw h']
section
variable {E:Env} {s:St} {G:Nat→Prop} {φ:Nat→Option Loc} {a:Act} {w:World}
theorem zh5 {tm:List (Nat×AV)}{l:List (Nat×Slot)}{k:Nat}{c0 c1:List C}(h:Sim E ⟨tm,l⟩ G φ a w)(hk:look l k=some (.box c0))(hr:z54 G E.V φ w k (.box c1)):Sim E ⟨tm,setSl k (.box c1) l⟩ G φ a w:=
 {h with
  sl:=fun k' c hc=>by
   have hc:look (setSl k (.box c1) l) k'=some c:=hc;rw[zbf]at hc;split at hc
   ·rename_i e
    subst e;rw[hk]at hc;cases hc;exact hr
   ·exact h.sl k' c hc
  inj:=fun k1 k2 d1 d2 l1 l2 h1 h2=>by
   obtain⟨y1,g1⟩:=zci h1;obtain⟨y2,g2⟩:=zci h2;exact h.inj k1 k2 y1 y2 l1 l2 g1 g2
  own:=fun k1 d1 l1 h1=>by
   obtain⟨y1,g1⟩:=zci h1;exact h.own k1 y1 l1 g1
  fix:=fun k1 d1 hf h1=>by
   obtain⟨y1,g1⟩:=zci h1;exact h.fix k1 y1 hf g1}
theorem zcu: ∀(ms:List Bool) (i:Nat) (cs:List C) (u:Nat→Value),(rawC ms i cs u).length=cs.length
 |[],_,cs,_=>by simp[rawC]
 |_::_,_,[],_=>rfl
 |m::ms,i,c::cs,u=>by simp only[rawC,List.length_cons,zcu ms (i+1) cs u]
theorem One.callR {ops:Array Oper}{o:Oper}{cl:Call}{f:FuncId}{nf:Nat}{caps:List CC}{xs args:List AV}{res:AV}{sl sl':(Nat→Value)→List (Nat×Slot)}{sl3:List (Nat×Slot)}(ρ:List (Nat×Nat))(s0:St)(kb:Nat)(ms:List Bool)(cs ds:List C)
 (hS: ∀u,Summ E.P f args (sl u) res (sl' u)) (hop:o.op= .call cl) (hw: ∀u,z0v ops ⟨s.tm,setSl kb (.box (rawC ms 0 cs u)) s.sl⟩ o=some true) (hd:dstOk E.N o.dst=true)
 (hc: ∀u,z6v ⟨s.tm,setSl kb (.box (rawC ms 0 cs u)) s.sl⟩ cl=some (f,nf,caps)) (hx: ∀u,argsL ⟨s.tm,setSl kb (.box (rawC ms 0 cs u)) s.sl⟩ cl nf caps=some xs)
 (hle: ∀u,AVsArgL ⟨s.tm,setSl kb (.box (rawC ms 0 cs u)) s.sl⟩ ρ (keysS (sl u)) ((keysS (sl u)).map (renN ρ)) xs args) (hsl: ∀u,LentS ⟨s.tm,setSl kb (.box (rawC ms 0 cs u)) s.sl⟩ ρ (keysS (sl u)) (sl u))
 (hinj: ∀u,injB ρ (keysS (sl u))=true) (hinj': ∀u,injB ρ (keysS (sl' u))=true) (hres: ∀u,res.lent (keysS (sl' u))=true)
 (hsl': ∀u,allC (fun p:Nat×Slot=>p.2.lent (keysS (sl' u))) (sl' u)=true) (hcs:look s.sl kb=some (.box cs)) (hds: ∀u,look (renSl ρ (sl' u)) kb=some (.box (rawC ms 0 ds u)))
 (h3: ∀u,setSl kb (.box ds) (renSl ρ (sl' u))=sl3) (hm:maskC ms cs=maskC ms ds) (hlen:cs.length=ds.length) (hrf: ∀u,allC (fun k=> !anyB (C.refs (renN ρ k)) (maskC ms cs)) (keysS (sl' u))=true)
 (h0t: ∀t x,look s0.tm t=some x→look s.tm t=some x) (h0s: ∀t x,look s0.sl t=some x→look s.sl t=some x)
 (hk0: ∀u,allC (fun k=>match look s0.sl (renN ρ k)with|some _=>false|none=>true) (keysS (sl u)++keysS (sl' u))=true) (hodd: ∀u,allC (fun k=>s0.noRef (renN ρ k)) (oddK (keysS (sl u)) (keysS (sl' u)))=true)
 (hfx: ∀u,allC (fun k=> !anyB (Nat.beq (renN ρ k)) E.fx) (oddK (keysS (sl u)) (keysS (sl' u)))=true) (hlk: ∀u,lkOk3 E.lk ρ (keysS (sl u)) (keysS (sl' u))=true):
 One E ops o s (putO ⟨s0.tm,sl3++s0.sl⟩ o.dst (res.ren ρ)):=fun a w ⟨G,φ,hs⟩=>by
 obtain⟨lc,g1,g2,vs,g3,g4,g5⟩:=hs.sl kb _ hcs;have hu: ∀j,j<vs.length→(fun i=>vs.getD i undef) (0+j)=vs.getD j undef:=fun j _=>by rw[zza]
 generalize hq:(fun i=>vs.getD i undef)=u at hu;have hlv:=g3.length
 have hs1:Sim E ⟨s.tm,setSl kb (.box (rawC ms 0 cs u)) s.sl⟩ G φ a w:=by
  exact zh5 (c0:=cs) (tm:=s.tm) (l:=s.sl) hs hcs ⟨lc,g1,by rw[zcu];exact g2,vs,zm2 (fun x=>rfl) g3 hu,g4,g5⟩
 refine One.callP ρ s0 (hS u) hop (hw u) hd (hc u) (hx u) (hle u) (hsl u) (hinj u) (hinj' u) (hres u) (hsl' u) hs1 (hs.weaken h0t h0s) ⟨s0.tm,sl3++s0.sl⟩ (fun{G' χ w'} hχ sg sv hup hsim=>?_) (fun t x h=>?_) (hk0 u) (hodd u) (hfx u) (hlk u)
 ·rw[←h3 u,←zfw (hds u)];have hk:look (renSl ρ (sl' u)++s0.sl) kb=some (.box (rawC ms 0 ds u)):=by rw[z26,hds u]
  obtain⟨ld,j1,j2,vs',j3,j4,j5⟩:=hsim.sl kb _ hk;refine zh5 (c0:=rawC ms 0 ds u) hsim hk ⟨ld,j1,by rw[zcu]at j2;exact j2,vs',zkp (fun x v h=>h) j3 (z9o.of g3 hu hm hlen fun c hc v hv=>?_),j4,j5⟩
  ·refine hv.mono sg sv hup fun k' hk'=>hχ k' fun k hk e=>?_;have:=z3f (hrf u) k hk
   rw[e,zar hc hk']at this;cases this
 ·obtain⟨y,hy⟩: ∃y,look s.sl t=some y:=⟨x,h0s t x h⟩;show ∃y,look (setSl kb (.box (rawC ms 0 cs u)) s.sl) t=some y;rw[zbf];split
  ·rw[hcs];exact⟨_,rfl⟩
  ·exact⟨y,hy⟩
theorem At.callR {L:List Oper}{i:Nat}{K:St→Prop}{o:Oper}{cl:Call}{f:FuncId}{nf:Nat}{caps:List CC}{xs args:List AV}{res:AV}{sl sl':(Nat→Value)→List (Nat×Slot)}{sl3:List (Nat×Slot)}(ρ:List (Nat×Nat))(tk sk:List Nat){s0:St}(kb:Nat)(ms:List Bool)(cs ds:List C)
 (hS: ∀u,Summ E.P f args (sl u) res (sl' u)) (ho:L[i]?=some o) (hop:o.op= .call cl) (hw: ∀u,z0v L.toArray ⟨s.tm,setSl kb (.box (rawC ms 0 cs u)) s.sl⟩ o=some true) (hd:dstOk E.N o.dst=true)
 (hc: ∀u,z6v ⟨s.tm,setSl kb (.box (rawC ms 0 cs u)) s.sl⟩ cl=some (f,nf,caps)) (hx: ∀u,argsL ⟨s.tm,setSl kb (.box (rawC ms 0 cs u)) s.sl⟩ cl nf caps=some xs)
 (hle: ∀u,AVsArgL ⟨s.tm,setSl kb (.box (rawC ms 0 cs u)) s.sl⟩ ρ (keysS (sl u)) ((keysS (sl u)).map (renN ρ)) xs args) (hsl: ∀u,LentS ⟨s.tm,setSl kb (.box (rawC ms 0 cs u)) s.sl⟩ ρ (keysS (sl u)) (sl u))
 (hinj: ∀u,injB ρ (keysS (sl u))=true) (hinj': ∀u,injB ρ (keysS (sl' u))=true) (hres: ∀u,res.lent (keysS (sl' u))=true)
 (hsl': ∀u,allC (fun p:Nat×Slot=>p.2.lent (keysS (sl' u))) (sl' u)=true) (hcs:look s.sl kb=some (.box cs)) (hds: ∀u,look (renSl ρ (sl' u)) kb=some (.box (rawC ms 0 ds u)))
 (h3: ∀u,setSl kb (.box ds) (renSl ρ (sl' u))=sl3) (hm:maskC ms cs=maskC ms ds) (hlen:cs.length=ds.length) (hrf: ∀u,allC (fun k=> !anyB (C.refs (renN ρ k)) (maskC ms cs)) (keysS (sl' u))=true)
 (hk:Av.keep tk sk s=some s0)
 (hk0: ∀u,allC (fun k=>match look s0.sl (renN ρ k)with|some _=>false|none=>true) (keysS (sl u)++keysS (sl' u))=true) (hodd: ∀u,allC (fun k=>s0.noRef (renN ρ k)) (oddK (keysS (sl u)) (keysS (sl' u)))=true)
 (hfx: ∀u,allC (fun k=> !anyB (Nat.beq (renN ρ k)) E.fx) (oddK (keysS (sl u)) (keysS (sl' u)))=true) (hlk: ∀u,lkOk3 E.lk ρ (keysS (sl u)) (keysS (sl' u))=true)
 (s':St) (he:putO ⟨s0.tm,sl3++s0.sl⟩ o.dst (res.ren ρ)=s') (h:At E L (i+1) s' K):At E L i s K:=by
 have hk2:(∀t x,look s0.tm t=some x→look s.tm t=some x)∧ ∀t x,look s0.sl t=some x→look s.sl t=some x:=by
  unfold Av.keep at hk;split at hk
  ·rename_i tm h1
   split at hk
   ·rename_i sl h2
    cases hk;exact⟨z63 h1,z63 h2⟩
   ·cases hk
  ·cases hk
 exact At.one ho (One.callR ρ s0 kb ms cs ds hS hop hw hd hc hx hle hsl hinj hinj' hres hsl' hcs hds h3 hm hlen hrf hk2.1 hk2.2 hk0 hodd hfx hlk) (he▸h)
end
section
variable {E:Env} {s:St}
theorem zdo {α:Type}{f:α→Bool}: ∀{l:List α},(∀x∈l,f x=true)→allC f l=true
 |[],_=>rfl
 |x::r,h=>by
  unfold allC;rw[h x (zz4 ..)];exact zdo fun y hy=>h y (zz6 _ hy)
theorem zn2 {ops:Array Oper}{o:Oper}{cl:Call}{f:FuncId}{nf d k:Nat}{caps:List CC}{xs args:List AV}{res av:AV}{v:Slot}{sl sl':List (Nat×Slot)}(ρ:List (Nat×Nat))
 (hS:Summ E.P f args sl res sl') (hop:o.op= .call cl) (hdo:o.dst=some d) (hw:z0v ops s o=some true) (hd:dstOk E.N o.dst=true) (hc:z6v s cl=some (f,nf,caps)) (hx:argsL s cl nf caps=some xs)
 (hle:AVsArgL s ρ (keysS sl) ((keysS sl).map (renN ρ)) xs args) (hsl:LentS s ρ (keysS sl) sl) (hinj:injB ρ (keysS sl)=true) (hinj':injB ρ (keysS sl')=true) (hres:res.lent (keysS sl')=true)
 (hsl':allC (fun p:Nat×Slot=>p.2.lent (keysS sl')) sl'=true) (hk:allC (fun j=>Nat.beq (renN ρ j) k) (keysS sl++keysS sl')=true)
 (hfx:anyB (Nat.beq k) E.fx=false) (hlk:lkOk3 E.lk ρ (keysS sl) (keysS sl')=true) (h1:renSl ρ sl'=[(k,v)]) (h2:res.ren ρ=av):
 One E ops o s (((s.drop k).slot k v).put d av):=by
 have hkk: ∀j∈keysS sl++keysS sl',renN ρ j=k:=fun j hj=>zz3 (z3f hk j hj);have hno:=zbd k s
 have:=zir ρ (s.drop k) hS hop hw hd hc hx hle hsl hinj hinj' hres hsl' (fun h=>h.drop k) ?_ ?_ ?_ ?_ hlk
 ·rw[h1,h2,hdo]at this;exact this
 ·intro t x hx;simp only[St.drop,z7s]at hx;split at hx
  ·cases hx
  ·cases e:look s.sl t with
   |none=>rw[e]at hx;cases hx
   |some y=>exact⟨y,rfl⟩
 ·refine zdo fun j hj=>?_;rw[hkk j hj];simp only[St.drop,z7s];simp
 ·refine zdo fun j hj=>?_;rw[hkk j ?_]
  ·exact hno
  ·unfold oddK at hj;rcases zz2.1 hj with h|h
   ·exact List.mem_append_left _ (zzm.1 h).1
   ·exact List.mem_append_right _ (zzm.1 h).1
 ·refine zdo fun j hj=>?_;rw[hkk j ?_,hfx]
  ·rfl
  ·unfold oddK at hj;rcases zz2.1 hj with h|h
   ·exact List.mem_append_left _ (zzm.1 h).1
   ·exact List.mem_append_right _ (zzm.1 h).1
end
section
variable {E:Env}
theorem DOk.callR {ops:Array Oper}{o:Oper}{x:DOp}{cl:Call}{f:FuncId}{nf:Nat}{caps:List CC}{xs args:List AV}{res:AV}{sl sl':(Nat→Value)→List (Nat×Slot)}{sl3:List (Nat×Slot)}(ρ:List (Nat×Nat))(kb:Nat)(ms:List Bool)(cs ds:List C)(k1 k2:List Nat)
 (hS: ∀u,Summ E.P f args (sl u) res (sl' u)) (hop:o.op= .call cl) (hw: ∀r u,z0v ops ⟨(x.need.app r).tm,setSl kb (.box (rawC ms 0 cs u)) (x.need.app r).sl⟩ o=some true) (hd:dstOk E.N o.dst=true)
 (hc: ∀r u,z6v ⟨(x.need.app r).tm,setSl kb (.box (rawC ms 0 cs u)) (x.need.app r).sl⟩ cl=some (f,nf,caps)) (hx: ∀r u,argsL ⟨(x.need.app r).tm,setSl kb (.box (rawC ms 0 cs u)) (x.need.app r).sl⟩ cl nf caps=some xs)
 (hle: ∀r u,AVsArgL ⟨(x.need.app r).tm,setSl kb (.box (rawC ms 0 cs u)) (x.need.app r).sl⟩ ρ (keysS (sl u)) ((keysS (sl u)).map (renN ρ)) xs args) (hsl: ∀r u,LentS ⟨(x.need.app r).tm,setSl kb (.box (rawC ms 0 cs u)) (x.need.app r).sl⟩ ρ (keysS (sl u)) (sl u))
 (hinj: ∀u,injB ρ (keysS (sl u))=true) (hinj': ∀u,injB ρ (keysS (sl' u))=true) (hres: ∀u,res.lent (keysS (sl' u))=true)
 (hsl': ∀u,allC (fun p:Nat×Slot=>p.2.lent (keysS (sl' u))) (sl' u)=true) (hcs: ∀r,look (x.need.app r).sl kb=some (.box cs)) (hds: ∀u,look (renSl ρ (sl' u)) kb=some (.box (rawC ms 0 ds u)))
 (h3: ∀u,setSl kb (.box ds) (renSl ρ (sl' u))=sl3) (hm:maskC ms cs=maskC ms ds) (hlen:cs.length=ds.length) (hrf: ∀u,allC (fun k=> !anyB (C.refs (renN ρ k)) (maskC ms cs)) (keysS (sl' u))=true)
 (hk1: ∀u,keysS (sl u)=k1) (hk2: ∀u,keysS (sl' u)=k2)
 (hodd:allC (fun k=>(⟨x.need.tm,lessK ((k1++k2).map (renN ρ)) x.need.sl⟩:St).noRef (renN ρ k)) (oddK k1 k2)=true) (hmk:allC (fun k=>memB (renN ρ k) x.mks) (oddK k1 k2)=true)
 (hfx:allC (fun k=> !anyB (Nat.beq (renN ρ k)) E.fx) (oddK k1 k2)=true) (hlk:lkOk3 E.lk ρ k1 k2=true)
 (hcov:allC (fun k=>z1f (renN ρ k) x.eff.sl) (k1++k2)=true) (hesl:sl3=x.eff.sl)
 (het:match o.dst with|some d=>[(d,res.ren ρ)]=x.eff.tm|none=>x.eff.tm=[]):DOk E ops o x:=
 ziq ρ k1 k2 (fun r q1 q2=>One.callR ρ ⟨x.need.tm++r.tm,lessK ((k1++k2).map (renN ρ)) (x.need.sl++r.sl)⟩ kb ms cs ds hS hop (hw r) hd (hc r) (hx r) (hle r) (hsl r) hinj hinj' hres hsl' (hcs r) hds h3 hm hlen hrf
  (fun t y h=>h) (fun t c h=>by
   rw[z57]at h;split at h
   ·cases h
   ·exact h) (fun u=>by rw[hk1 u,hk2 u];exact q1) (fun u=>by rw[hk1 u,hk2 u];exact q2) (fun u=>by rw[hk1 u,hk2 u];exact hfx) (fun u=>by rw[hk1 u,hk2 u];exact hlk)) hodd hmk hcov hesl het
end
end Go.Av
namespace Go.Av
open Go
section
variable {E:Env} {s:St} {G:Nat→Prop} {φ:Nat→Option Loc} {a:Act} {w:World}
theorem Sim.storeAt (h:Sim E s G φ a w){k es N N' m p:Nat}{get get' get2:Nat→List D}{L:Loc}{us:List Value}(hk:look s.sl k=some (.vec es N get))(hL:φ k=some L)(hm:p+m≤L.cap)(hul:us.length=m*es)(hcs:N'≤p∨z4a G w us es m get')
 (hx:N'≤maxN) (hc:N'≤L.cap) (hg: ∀i,i<N'→(p≤i∧i<p+m∧get2 i=get' (i-p))∨((i<p∨p+m≤i)∧i<N∧get2 i=get i)) (h1: ∀u∈us,u.oneCell'=true):
 (storeCells ⟨L.blk,L.off+p*es,none⟩ us).run E.P w= .ok () (w.setCells L.blk (L.off+p*es) us)∧Sim E (s.slot k (.vec es N' get2)) G φ a (w.setCells L.blk (L.off+p*es) us):=by
 obtain⟨_,h0|⟨l,g1,g2,ht,hel⟩⟩:=h.sl _ _ hk
 ·rw[hL]at h0;cases h0.1
 ·rw[hL]at g1;cases g1;have e1:(p+m)*es≤L.cap*es:=Nat.mul_le_mul_right es hm
  have htt:w.there L.blk (L.off+p*es) us.length:=fun j hj=>by
   rw[Nat.add_assoc];refine ht.1 (p*es+j) ?_;rw[Nat.add_mul]at e1;omega
  have hstore:=run_storeCells_cells (P:=E.P) L.blk (L.off+p*es) us 0 w (fun j hj=>(by simpa using htt j hj:_∧_).1) (fun j hj=>(by simpa using htt j hj:_∧_).2) h1;simp only[Nat.add_zero]at hstore;refine⟨hstore,?_⟩;obtain⟨f1,f2,f3,f4,f5⟩:=z6n L.blk us (L.off+p*es) w;have hsame:Same G w (w.setCells L.blk (L.off+p*es) us):=fun b hb=>f5 b fun e=>(h.own k _ L hk hL).1 (e▸hb)
  refine h.turn hk hL f1 f2 f3 f4 f5 ⟨hx,.inr ⟨L,hL,hc,ht.setCells _ _ _,fun i hi=>?_⟩⟩;rcases hg i hi with⟨q1,q2,q3⟩|⟨q1,q2,q3⟩
  ·rw[q3];obtain⟨g1,g2⟩:=(hcs.resolve_left (by omega)) (i-p) (by omega);refine⟨g1,fun j hj=>?_⟩;obtain⟨u,hu,hr⟩:=g2 j (by omega);have hlt':=z60 (show i-p<m by omega) (show j<es by omega)
   have hin':=World.cell?_setCells_in L.blk us (L.off+p*es) w (fun q hq=>(htt q hq).1) ((i-p)*es+j) (by omega);refine⟨u,?_,hr.mono hsame fun _ h=>h⟩;have e2:L.off+i*es+j=L.off+p*es+((i-p)*es+j):=by
    have:i=p+(i-p):=by omega
    rw[this,Nat.add_mul];have:p+(i-p)-p=i-p:=by omega
    rw[this];omega
   rw[e2,hin',←hu,List.getElem?_eq_getElem (by omega)]
  ·rw[q3];obtain⟨g1,g2⟩:=hel i q2;refine⟨g1,fun j hj=>?_⟩;obtain⟨u,hu,hr⟩:=g2 j hj;refine⟨u,?_,hr.mono hsame fun _ h=>h⟩;rw[World.cell?_setCells_out L.blk us (L.off+p*es) w _ (fun _ _=>by
    show L.off+i*es+j<L.off+p*es∨L.off+p*es+us.length≤L.off+i*es+j;rcases q1 with q1|q1
    ·left;have:=z60 q1 (show j<es by omega)
     omega
    ·right;have:(p+m)*es≤i*es:=Nat.mul_le_mul_right es q1
     rw[Nat.add_mul]at this;omega)]
   exact hu
theorem add_add (b o j:Nat):(⟨b,o,none⟩:Addr).add j=⟨b,o+j,none⟩:=Addr.add_mid b o j
theorem Sim.loadAt (h:Sim E s G φ a w){k es N m q:Nat}{get:Nat→List D}{L:Loc}{A:Option Addr}{c:Nat}(hk:look s.sl k=some (.vec es N get))(hL:φ k=some L)(hN:0<N)(hq:q+m≤N)(hA:0<m→A=some ⟨L.blk,L.off+q*es,none⟩):
 ∃us:List Value,us.length=m*es∧z4a G w us es m (fun i=>get (q+i))∧(Builtin.firstCells es m (.slice A m c)).run E.P w= .ok us.toArray w∧ ∀u∈us,u.oneCell'=true:=by
 obtain⟨_,h0|⟨l,g1,g2,ht,hel⟩⟩:=h.sl _ _ hk
 ·omega
 ·rw[hL]at g1;cases g1;have he:z4b G w L.blk (L.off+q*es) es m (fun i=>get (q+i)):=fun i hi=>by
   obtain⟨e1,e2⟩:=hel (q+i) (by omega);refine⟨e1,?_⟩;have e:L.off+q*es+i*es=L.off+(q+i)*es:=by rw[Nat.add_mul];omega
   rw[e];exact e2
  obtain⟨us,h1,h2,h3,h4⟩:=zdx (P:=E.P) he;refine⟨us,h1,h2,?_,h4⟩;by_cases hm:0<m
  ·rw[hA hm];exact h3 w rfl
  ·have:m=0:=by omega
   subst this;have:us=[]:=by cases us<;>simp_all
   subst this;cases A with
   |none=>rfl
   |some A=>simp[Builtin.firstCells,loadCells,loadCellsFrom]
end
end Go.Av
namespace Go.Av
open Go
section
variable {E:Env} {s:St}
theorem SrcOf.g {x:Operand}{y:AV}{es m sn:Nat}{get:Nat→List D}(hx:evO s x=some y)(hs:SrcOf s y es m get)(hsn:sn=m):
 ∀{G:Nat→Prop} {φ:Nat→Option Loc} {a:Act} {w:World},Sim E s G φ a w→ ∃(us:List Value) (A':Option Addr) (c':Nat),a.eval x= .slice A' sn c'∧us.length=m*es∧z4a G w us es m get∧(Builtin.firstCells es m (.slice A' sn c')).run E.P w= .ok us.toArray w∧ ∀u∈us,u.oneCell'=true:=fun{G φ a w} h=>by
 subst hsn;obtain⟨A,cap,hv,_,us,h1,h2,h3,h4⟩:=hs.load h (h.ev hx);refine⟨us,A,cap,hv,h1,h2,?_,h4⟩;have:=h3 w rfl
 rw[hv]at this;exact this
end
end Go.Av
namespace Go.Av
open Go
section
variable {E:Env} {s:St} {G:Nat→Prop} {φ:Nat→Option Loc} {a:Act} {w:World}
end
theorem ziu {p:Prop}[Decidable p]{A:Type}{x y:Option A}{q:A}(h:bf (decide p) x y=some q):(p∧x=some q)∨(¬p∧y=some q):=by
 by_cases hp:p
 ·rw[decide_eq_true hp]at h;exact .inl ⟨hp,h⟩
 ·rw[decide_eq_false hp]at h;exact .inr ⟨hp,h⟩
end Go.Av
/-
 Av,part Y13:loops that are left by an exit to a block around them.
-/
namespace Go.Av
open Go
section
variable {E:Env} {s:St} {S R Q:Type} {q:Q} {post:Exit→St→Prop}
@[reducible] def zhu (X b:Nat) (σ F:S→St) (RT:R→St→Prop):Ctl S R→Exit→St→Prop
 | .next st,.normal,s=>s=σ st
 | .brk st,.exit id,s=>id=b∧s=F st
 | .ret x,.exit id,s=>id=X∧RT x s
 |_,_,_=>False
@[reducible] def zp1 (X:Nat) (F:S→St) (RT:R→St→Prop):Out S R→Exit→St→Prop
 | .done st,.normal,s=>s=F st
 | .ret x,.exit id,s=>id=X∧RT x s
 |_,_,_=>False
theorem zh7 {b:Nat}{c:Code}{B:S→Option (Ctl S R)}(X:Nat)(hXb:Nat.beq X b=false)(RT:R→St→Prop)(σ F:S→St){fuel:Nat}{st0:S}{o:Out S R}(h:loopN B fuel st0=some o)
 (hround: ∀st r,B st=some r→Tri E c (σ st) (zhu X b σ F RT r)):Tri E (.block b (.loop c)) (σ st0) (zp1 X F RT o):=by
 have hne: ¬X=b:=fun e=>by rw[e,Nat.beq_refl]at hXb;cases hXb
 refine Tri.block (Tri.loop (fun n s=> ∃st,s=σ st∧loopN B n st=some o) ?_ (n:=fuel) ⟨st0,rfl,h⟩);rintro n s ⟨st,rfl,hn⟩;cases n with
 |zero=>cases hn
 |succ n=>
  simp only[loopN]at hn;cases hB:B st with
  |none=>rw[hB]at hn;cases hn
  |some r=>
   rw[hB]at hn;refine(hround st r hB).mono fun e s' hp=>?_;cases r with
   |next st'=>
    cases e with
    |normal=>exact⟨n,Nat.lt_succ_self _,st',hp,hn⟩
    |_=>exact hp.elim
   |brk st'=>
    cases hn;cases e with
    |exit id=>
     obtain⟨rfl,rfl⟩:=hp;show inB id _ (.exit id) _;simp[inB]
    |_=>exact hp.elim
   |ret x=>
    cases hn;cases e with
    |exit id=>
     obtain⟨rfl,hp⟩:=hp;show inB b _ (.exit id) _;simp only[inB,if_neg hne];exact⟨rfl,hp⟩
    |_=>exact hp.elim
theorem        zmf {b : Nat} {c : Code} {B : S → Option (Ctl S R)} {kn : S → Option Q} {kr : R → Option Q} {st0 : S} {fuel : Nat} (X : Nat) (RT : R → St → Prop) (σ F : S → St)
    (h : outK (loopN B fuel st0) kn kr = some q) (hXb : Nat.beq X b = false) (hround : ∀ st r, B st = some r → Tri E c (σ st) (       zhu X b σ F RT r))
    (hrest : ∀ st, kn st = some q → post .normal (F st)) (hret : ∀ x s', kr x = some q → RT x s' → post (.exit X) s') : Tri E (.block b (.loop c)) (σ st0) post := by
  obtain ⟨s', ho, hk⟩ | ⟨x, ho, hk⟩ :=       zfn h
  · refine (       zh7 X hXb RT σ F ho hround).mono fun e s hp => ?_
    cases e with
    | normal => have hp : s = F s' := hp
                subst hp; exact hrest _ hk
    | _ => exact hp.elim
  · refine (       zh7 X hXb RT σ F ho hround).mono fun e s hp => ?_
    cases e with
    | exit id =>
      obtain ⟨rfl, hp⟩ := hp
      exact hret _ _ hk hp
    | _ => exact hp.elim
end
end Go.Av
namespace Go.Av
open Go
structure Time where
 epoch:Int
 loop:Int×Int
 deriving Inhabited
def z06 (x:Time):List D:=[dU x.epoch,dU x.loop.1,dU x.loop.2]
abbrev cTime (x:Time):List C:=[.d (dU x.epoch),.d (dU x.loop.1),.d (dU x.loop.2)]
def z3u (x y:Time):Bool:=(decide (x.epoch=y.epoch) && ((decide (x.loop.1=y.loop.1) && (decide (x.loop.2=y.loop.2) && true)) && true))
def z6p (p0:Int):Option Bool:=
 some (!decide (p0=p0))
def z4f (p0:Int)(p1:Int):Option Int:=
 (z6p p0).bind fun r1=>(z6p p1).bind fun r2=>bf r1 (bf r2 (some 0) (some (-1))) (bf r2 (some 1) (bf (decide (p0<p1)) (some (-1)) (bf (decide (p1<p0)) (some 1) (some 0))))
def z2l (p0:List Int)(p1:List Int):Option Int:=
 outK (z0l (S:=Unit) (R:=Int) (fun i1 (a2:Unit)=>bf (decide ((p1.length:Int)≤((i1:Nat):Int))) (some (.ret 1)) (need ((0:Int)≤((i1:Nat):Int)∧((i1:Nat):Int)<(p1.length:Int))<|(z4f (p0.getD i1 zzd) (p1.getD i1 zzd)).bind fun r5=>bf (!decide (r5=0)) (some (.ret r5)) (some (.next ())))) p0.length 0 ()) (fun(a3:Unit)=>bf (decide ((p0.length:Int)<(p1.length:Int))) (some (-1)) (some 0)) (fun x=>some x)
def z77 (p0:List Int):Option Int:=
 outK (z0l (S:=Unit) (R:=Int) (fun i1 (a2:Unit)=>bf (!decide ((p0.getD i1 zzd)=0)) (some (.ret (p0.getD i1 zzd))) (some (.next ()))) p0.length 0 ()) (fun(a3:Unit)=>some 0) (fun x=>some x)
def z58 (p0:Time)(p1:Time):Option Int:=
 bf (decide (p0.loop.1=p1.loop.1) && (decide (p0.loop.2=p1.loop.2) && true)) ((z4f p0.epoch p1.epoch).bind fun r1=>some r1) ((z4f p0.epoch p1.epoch).bind fun r2=>(z2l ([p0.loop.1,p0.loop.2]:List Int) ([p1.loop.1,p1.loop.2]:List Int)).bind fun r3=>(z77 ([r2,r3]:List Int)).bind fun r4=>some r4)
end Go.Av
/-
 Av,part V:of loops,without any program.
-/
namespace Go.Av
section
variable {S R Q A X:Type}
theorem        ze9 {B : Nat → S → Option (Ctl S R)} {n : Nat} (I : Nat → S → Prop) {s : S} (h0 : I 0 s) (hs : ∀ i s, i < n → I i s → ∃ s', B i s = some (.next s') ∧ I (i + 1) s') :
    ∃ s',    z0l B n 0 s = some (.done s') ∧ I n s' := by
  have key : ∀ k i s, i + k = n → I i s → ∃ s',    z0l B k i s = some (.done s') ∧ I n s' := by
    intro k
    induction k with
    | zero => intro i s hi h; exact ⟨s, rfl, by have : i = n := by omega
                                                subst this; exact h⟩
    | succ k ih =>
      intro i s hi h
      obtain ⟨s', h1, h2⟩ := hs i s (by omega) h
      obtain ⟨s2, h3, h4⟩ := ih (i + 1) s' (by omega) h2
      exact ⟨s2, by simp only [   z0l, h1, h3], h4⟩
  exact key n 0 s (by omega) h0
theorem z7f {B:Nat→S→Option (Ctl S R)}{n:Nat}{s:S}(r:S)(I:Nat→S→Prop)(hr: ∀s,I n s→s=r)(hs: ∀i s,i<n→I i s→ ∃s',B i s=some (.next s')∧I (i+1) s')(h0:I 0 s):
 z0l B n 0 s=some (.done r):=by
 obtain⟨s',h1,h2⟩:=ze9 I h0 hs;rw[h1,hr s' h2]
theorem         zgq {B : Nat → S → Option (Ctl S R)} {n : Nat} (I : Nat → S → Prop) (D : S → Prop) (J : R → Prop) {s : S} (h0 : I 0 s)
    (hs : ∀ i s, i < n → I i s → (∃ s', B i s = some (.next s') ∧ I (i + 1) s') ∨ (∃ s', B i s = some (.brk s') ∧ D s') ∨ ∃ r, B i s = some (.ret r) ∧ J r) (hD : ∀ s, I n s → D s) :
    (∃ s',    z0l B n 0 s = some (.done s') ∧ D s') ∨ ∃ r,    z0l B n 0 s = some (.ret r) ∧ J r := by
  have key : ∀ k i s, i + k = n → I i s → (∃ s',    z0l B k i s = some (.done s') ∧ D s') ∨ ∃ r,    z0l B k i s = some (.ret r) ∧ J r := by
    intro k
    induction k with
    | zero => intro i s hi h; exact .inl ⟨s, rfl, by have : i = n := by omega
                                                     subst this; exact hD s h⟩
    | succ k ih =>
      intro i s hi h
      rcases hs i s (by omega) h with ⟨s', h1, h2⟩ | ⟨s', h1, h2⟩ | ⟨r, h1, h2⟩
      · rcases ih (i + 1) s' (by omega) h2 with ⟨s2, h3, h4⟩ | ⟨r, h3, h4⟩
        · exact .inl ⟨s2, by simp only [   z0l, h1, h3], h4⟩
        · exact .inr ⟨r, by simp only [   z0l, h1, h3], h4⟩
      · exact .inl ⟨s', by simp only [   z0l, h1], h2⟩
      · exact .inr ⟨r, by simp only [   z0l, h1], h2⟩
  exact key n 0 s (by omega) h0
theorem z36 [Inhabited X]{l:List X}{i:Nat}(h:i<l.length):l.take (i+1)=l.take i++[l.getD i zzd]:=by
 rw[List.take_add_one,List.getElem?_eq_getElem h,List.getD_eq_getElem?_getD,List.getElem?_eq_getElem h];rfl
theorem z3m [Inhabited X]{l:List X}{i:Nat}(h:i<l.length):l.getD i zzd∈l:=by
 rw[List.getD_eq_getElem?_getD,List.getElem?_eq_getElem h];exact List.getElem_mem h
@[simp] theorem z7e {s:S} {kn:S→Option Q} {kr:R→Option Q}:outK (some (.done s)) kn kr=kn s:=rfl
@[simp] theorem zqz {r:R} {kn:S→Option Q} {kr:R→Option Q}:outK (some (.ret r)) kn kr=kr r:=rfl
@[simp] theorem z6d {x y:Option Q}:bf true x y=x:=rfl
@[simp] theorem z2x {x y:Option Q}:bf false x y=y:=rfl
theorem z0b {c:Prop}[Decidable c]{k:Option Q}(h:c):need c k=k:=by unfold need;rw[if_pos h]
@[simp] theorem jn_eq {j:A→Option Q} {k:(A→Option Q)→Option Q}:jn j k=k j:=rfl
@[simp] theorem z0i {p:Prop} [Decidable p] {x y:Option Q}:bf (decide p) x y=if p then x else y:=by by_cases h:p<;>simp[h,bf]
@[simp] theorem z42 {b:Bool} {x y:Option Q}:bf (!b) x y=bf b y x:=by cases b<;>rfl
end
end Go.Av
/-
 Numbers and bits:without any program.
-/
namespace Go.Av
open Go
theorem z82 (n:Int):zzu.wrap n=n % 18446744073709551616:=by simp[IntKind.wrap,IntKind.bits,IntKind.signed]
theorem z9f (n:Int):zzi.wrap n=if n % 18446744073709551616≥9223372036854775808 then n % 18446744073709551616-18446744073709551616 else n % 18446744073709551616:=by
 simp[IntKind.wrap,IntKind.bits,IntKind.signed]
def in64 (x:Int):Prop:= -9223372036854775808≤x∧x<9223372036854775808
def inU64 (x:Int):Prop:=0≤x∧x<18446744073709551616
theorem zln {x:Int}(h:in64 x):zzi.wrap x=x:=by
 unfold in64 at h;rw[z9f];split<;>omega
theorem shr63 {x:Int}(h:in64 x):shrOp .i64 x 63=if x<0 then -1 else 0:=by
 unfold in64 at h;unfold shrOp;have e:(2:Int)^(min (63:Int).toNat zzi.bits)=9223372036854775808:=by decide
 rw[e,Int.fdiv_eq_ediv_of_nonneg _ (by decide)];split<;>omega
theorem shr32 {x:Int}:shrOp .u64 x 32=x / 4294967296:=by
 unfold shrOp;have e:(2:Int)^(min (32:Int).toNat zzu.bits)=4294967296:=by decide
 rw[e,Int.fdiv_eq_ediv_of_nonneg _ (by decide)]
theorem zq8 (k:IntKind)(n m:Nat)(hm:m≤k.bits):shrOp k (n:Int) (m:Int)=((n / 2^m:Nat):Int):=by
 unfold shrOp;rw[zzh,Nat.min_eq_left hm,Int.fdiv_eq_ediv_of_nonneg _ (by exact Int.le_of_lt (Int.pow_pos (by decide)))]
 push_cast
 rfl
theorem zgn {w:Nat}(n:Nat)(h:n<2^w):(BitVec.ofInt w (n:Int)).toNat=n:=by
 rw[BitVec.toNat_ofInt];have e:((n:Int) % ((2^w:Nat):Int))=(n:Int):=Int.emod_eq_of_lt (by omega) (by exact_mod_cast h);rw[e,zzh]
theorem uwrap {k:IntKind}(hs:k.signed=false){n:Nat}(h:n<2^k.bits):k.wrap (n:Int)=(n:Int):=by
 unfold IntKind.wrap;simp only[hs,Bool.false_and,Bool.false_eq_true,if_false];have:((2:Int)^k.bits)=((2^k.bits:Nat):Int):=by push_cast;rfl
 rw[this];exact Int.emod_eq_of_lt (by omega) (by exact_mod_cast h)
theorem zpi {k:IntKind}(hs:k.signed=false){x y:Nat}(hx:x<2^k.bits)(hy:y<2^k.bits):z5w .and k (x:Int) (y:Int)=((x &&& y:Nat):Int):=by
 unfold z5w;simp only;rw[BitVec.toNat_and,zgn x hx,zgn y hy,uwrap hs (Nat.and_lt_two_pow x hy)]
theorem zdp {x:Int}(h:inU64 x):z5w .and .u64 x 4294967295=x % 4294967296:=by
 obtain⟨h0,h1⟩:=h;obtain⟨n,rfl⟩:=Int.eq_ofNat_of_zero_le h0;have:=zpi (k:= .u64) rfl (x:=n) (y:=4294967295) (by show n<2^64;omega) (by show 4294967295<2^64;decide)
 rw[show((4294967295:Nat):Int)=4294967295 from rfl]at this;rw[this,show(4294967295:Nat)=2^32-1 from rfl,Nat.and_two_pow_sub_one_eq_mod];omega
end Go.Av
/-
 Orders,as comparisons with three answers:without any program.
-/
namespace Go.Av
open Go
structure IsCmp {α:Type} (c:α→α→Int):Prop where
 vals: ∀a b,c a b= -1∨c a b=0∨c a b=1
 anti: ∀a b,c b a= - c a b
 tr: ∀a b d,c a b≤0→c b d≤0→c a d≤0
namespace IsCmp
variable {α β:Type} {c:α→α→Int}
theorem refl (h:IsCmp c)(a:α):c a a=0:=by have:=h.anti a a;omega
theorem lt_tr (h:IsCmp c){a b d:α}(h1:c a b<0)(h2:c b d≤0):c a d<0:=by
 have:=h.tr a b d (by omega) h2;rcases h.vals a d with g|g|g
 ·omega
 ·have g1:=h.anti a d;have g2:=h.tr b d a h2 (by omega)
  have g3:=h.anti a b;omega
 ·omega
theorem le_lt (h:IsCmp c){a b d:α}(h1:c a b≤0)(h2:c b d<0):c a d<0:=by
 have:=h.tr a b d h1 (by omega);rcases h.vals a d with g|g|g
 ·omega
 ·have g1:=h.anti a d;have g2:=h.tr d a b (by omega) h1
  have g3:=h.anti b d;omega
 ·omega
theorem eqL (h:IsCmp c){a b:α}(d:α)(h1:c a b=0):c a d=c b d:=by
 have h2:=h.anti a b;have t1:=h.tr a b d (by omega)
 have t2:=h.tr b a d (by omega);have t3:=h.tr d a b
 have t4:=h.tr d b a;have a1:=h.anti a d
 have a2:=h.anti b d;rcases h.vals a d with g|g|g<;>rcases h.vals b d with k|k|k<;>omega
theorem eqR (h:IsCmp c){a b:α}(d:α)(h1:c a b=0):c d a=c d b:=by
 have:=h.eqL d h1;have a1:=h.anti a d
 have a2:=h.anti b d;omega
theorem symm0 (h:IsCmp c){a b:α}(h1:c a b=0):c b a=0:=by have:=h.anti a b;omega
theorem on (h:IsCmp c)(f:β→α):IsCmp fun x y=>c (f x) (f y):=⟨fun a b=>h.vals _ _,fun a b=>h.anti _ _,fun a b d=>h.tr _ _ _⟩
end IsCmp
def cmpZ (a b:Int):Int:=if a<b then -1 else if b<a then 1 else 0
theorem zad:IsCmp cmpZ where
 vals a b:=by unfold cmpZ;split<;>(try split)<;>simp
 anti a b:=by unfold cmpZ;split<;>(try split)<;>(try split)<;>(try split)<;>omega
 tr a b d:=by unfold cmpZ;split<;>(try split)<;>(try split)<;>(try split)<;>(try split)<;>(try split)<;>omega
theorem ziz {a b:Int}:cmpZ a b=0↔a=b:=by unfold cmpZ;split<;>(try split)<;>omega
def thenC (u v:Int):Int:=if u=0 then v else u
theorem IsCmp.lex {α:Type}{c d:α→α→Int}(hc:IsCmp c)(hd:IsCmp d):IsCmp fun a b=>thenC (c a b) (d a b) where
 vals a b:=by
  unfold thenC;split
  ·exact hd.vals a b
  ·exact hc.vals a b
 anti a b:=by
  have h1:=hc.anti a b;have h2:=hd.anti a b
  unfold thenC;split<;>split<;>omega
 tr a b e h1 h2:=by
  unfold thenC at*;by_cases g1:c a b=0<;>by_cases g2:c b e=0
  ·have:=hc.eqL e g1;rw[if_pos g1]at h1;rw[if_pos g2]at h2;rw[if_pos (by omega)];exact hd.tr a b e h1 h2
  ·have:=hc.eqL e g1;rw[if_neg g2]at h2;rw[if_neg (by omega)];omega
  ·have:=hc.eqR a g2;rw[if_neg g1]at h1;rw[if_neg (by omega)];omega
  ·rw[if_neg g1]at h1;rw[if_neg g2]at h2;have:=hc.lt_tr (a:=a) (b:=b) (d:=e) (by omega) h2
   rw[if_neg (by omega)];omega
def cmpL {α:Type}(c:α→α→Int):List α→List α→Int
 |[],[]=>0
 |[],_::_=> -1
 |_::_,[]=>1
 |a::x,b::y=>thenC (c a b) (cmpL c x y)
theorem IsCmp.list {α:Type}{c:α→α→Int}(h:IsCmp c):IsCmp (cmpL c) where
 vals:=by
  intro a;induction a with
  |nil=>intro b;cases b<;>simp[cmpL]
  |cons x a ih=>
   intro b;cases b with
   |nil=>simp[cmpL]
   |cons y b=>
    simp only[cmpL,thenC];split
    ·exact ih b
    ·exact h.vals x y
 anti:=by
  intro a;induction a with
  |nil=>intro b;cases b<;>simp[cmpL]
  |cons x a ih=>
   intro b;cases b with
   |nil=>simp[cmpL]
   |cons y b=>
    have h1:=h.anti x y;have h2:=ih b
    simp only[cmpL,thenC];split<;>split<;>omega
 tr:=by
  intro a;induction a with
  |nil=>intro b d _ _;cases d<;>simp[cmpL]
  |cons x a ih=>
   intro b d h1 h2;cases b with
   |nil=>simp[cmpL]at h1
   |cons y b=>
    cases d with
    |nil=>simp[cmpL]at h2
    |cons z d=>
     simp only[cmpL]at*;unfold thenC at*;by_cases g1:c x y=0<;>by_cases g2:c y z=0
     ·have:=h.eqL z g1;rw[if_pos g1]at h1;rw[if_pos g2]at h2;rw[if_pos (by omega)];exact ih b d h1 h2
     ·have:=h.eqL z g1;rw[if_neg g2]at h2;rw[if_neg (by omega)];omega
     ·have:=h.eqR x g2;rw[if_neg g1]at h1;rw[if_neg (by omega)];omega
     ·rw[if_neg g1]at h1;rw[if_neg g2]at h2;have:=h.lt_tr (a:=x) (b:=y) (d:=z) (by omega) h2
      rw[if_neg (by omega)];omega
def cmpU8 (a b:UInt8):Int:=cmpZ (a.toNat:Int) (b.toNat:Int)
theorem zon:IsCmp cmpU8:=zad.on fun a:UInt8=>(a.toNat:Int)
theorem zei: ∀x y:List UInt8,Op.bytesLess x y=decide (cmpL cmpU8 x y<0)
 |[],[]=>by simp[Op.bytesLess,cmpL]
 |[],_::_=>by simp[Op.bytesLess,cmpL]
 |_::_,[]=>by simp[Op.bytesLess,cmpL]
 |a::x,b::y=>by
  rw[Op.bytesLess,zei x y,cmpL];have e1:(a<b)↔(a.toNat:Int)<(b.toNat:Int):=by rw[UInt8.lt_iff_toNat_lt];omega
  have e2:(a=b)↔(a.toNat:Int)=(b.toNat:Int):=by rw[←UInt8.toNat_inj];omega
  unfold cmpU8 thenC cmpZ;rw[Bool.eq_iff_iff];simp only[Bool.or_eq_true,Bool.and_eq_true,decide_eq_true_eq,beq_iff_eq,e1,e2];by_cases h1:(a.toNat:Int)<(b.toNat:Int)
  ·simp[h1]
  ·by_cases h2:(b.toNat:Int)<(a.toNat:Int)
   ·simp[h1,h2];omega
   ·have:(a.toNat:Int)=(b.toNat:Int):=by omega
    simp[this]
theorem zgg: ∀x y:List UInt8,(x==y)=decide (cmpL cmpU8 x y=0)
 |[],[]=>by simp[cmpL]
 |[],_::_=>by simp[cmpL]
 |_::_,[]=>by simp[cmpL]
 |a::x,b::y=>by
  rw[List.cons_beq_cons,zgg x y,cmpL];have e2:(a=b)↔(a.toNat:Int)=(b.toNat:Int):=by rw[←UInt8.toNat_inj];omega
  have e3:cmpU8 a b=0↔(a.toNat:Int)=(b.toNat:Int):=ziz;unfold thenC;rw[Bool.eq_iff_iff];simp only[Bool.and_eq_true,decide_eq_true_eq,beq_iff_eq,e2];by_cases h:cmpU8 a b=0
  ·rw[if_pos h];simp[e3.1 h]
  ·rw[if_neg h];constructor
   ·rintro⟨g,_⟩;exact absurd (e3.2 g) h
   ·intro g;exact absurd g h
def cmpS (a b:ByteArray):Int:=cmpL cmpU8 a.toList b.toList
theorem zg3:IsCmp cmpS:=zon.list.on fun a:ByteArray=>a.toList
theorem zjd (a b:ByteArray):strLt a b=decide (cmpS a b<0):=zei _ _
theorem zjc (a b:ByteArray):strEq a b=decide (cmpS a b=0):=zgg _ _
theorem zmx (a:ByteArray):strEq a a=true:=by unfold strEq;simp
theorem zjm {a b:ByteArray}(h:a.toList=b.toList):a=b:=by
 rw[ByteArray.toList_eq,ByteArray.toList_eq]at h;cases a;cases b;simp at h;simp[h]
theorem zfy {a b:ByteArray}:strEq a b=true↔a=b:=by
 unfold strEq;rw[beq_iff_eq];exact⟨zjm,fun h=>by rw[h]⟩
theorem zna {a b:ByteArray}:cmpS a b=0↔a=b:=by
 rw[←zfy,zjc,decide_eq_true_eq]
theorem z4p {α:Type}[Inhabited α]{l:List α}{i:Nat}(h:i<l.length):l.drop i=l.getD i zzd::l.drop (i+1):=by
 rw[List.drop_eq_getElem_cons h,List.getD_eq_getElem?_getD,List.getElem?_eq_getElem h];rfl
theorem zpm {α:Type}[Inhabited α]{c:α→α→Int}{p0 p1:List α}{B:Nat→Unit→Option (Ctl Unit Int)}{kn:Unit→Option Int}
 (hB: ∀i,i<p0.length→B i ()=if p1.length≤i then some (.ret 1)else if c (p0.getD i zzd) (p1.getD i zzd)=0 then some (.next ())else some (.ret (c (p0.getD i zzd) (p1.getD i zzd))))
 (hk:kn ()=some (if p0.length<p1.length then -1 else 0)):outK (z0l B p0.length 0 ()) kn (fun x=>some x)=some (cmpL c p0 p1):=by
 have key: ∀k i,i+k=p0.length→i≤p1.length→outK (z0l B k i ()) kn (fun x=>some x)=some (cmpL c (p0.drop i) (p1.drop i)):=by
  intro k;induction k with
  |zero=>
   intro i hi hle;simp only[z0l,z7e,hk];rw[List.drop_eq_nil_of_le (by omega:p0.length≤i)];by_cases h:p0.length<p1.length
   ·rw[if_pos h,z4p (by omega:i<p1.length)];rfl
   ·rw[if_neg h,List.drop_eq_nil_of_le (by omega:p1.length≤i)];rfl
  |succ k ih=>
   intro i hi hle;simp only[z0l,hB i (by omega)];rw[z4p (by omega:i<p0.length)];by_cases h:p1.length≤i
   ·rw[if_pos h,List.drop_eq_nil_of_le (by omega:p1.length≤i)];rfl
   ·rw[if_neg h,z4p (by omega:i<p1.length)];simp only[cmpL,thenC];by_cases h0:c (p0.getD i zzd) (p1.getD i zzd)=0
    ·rw[if_pos h0,if_pos h0];exact ih (i+1) (by omega) (by omega)
    ·rw[if_neg h0,if_neg h0];rfl
 exact key p0.length 0 (by omega) (by omega)
theorem zlg {S R:Type}{B:S→Option (Ctl S R)}(f:Nat→S){n fuel:Nat}{z:S}(hf:n<fuel)(hs: ∀i,i<n→B (f i)=some (.next (f (i+1)))) (he:B (f n)=some (.brk z)):loopN B fuel (f 0)=some (.done z):=by
 have key: ∀k i fuel,i+k=n→k<fuel→loopN B fuel (f i)=some (.done z):=by
  intro k;induction k with
  |zero=>
   intro i fuel hi hf;have:i=n:=by omega
   subst this;cases fuel with
   |zero=>omega
   |succ fuel=>simp only[loopN,he]
  |succ k ih=>
   intro i fuel hi hf;cases fuel with
   |zero=>omega
   |succ fuel=>simp only[loopN,hs i (by omega)];exact ih (i+1) fuel (by omega) (by omega)
 exact key n 0 fuel (by omega) hf
end Go.Av
/-
 Av,part SF:slices.SortFunc at structs,out of the library's contract.
-/
namespace Go.Av
open Go Go.Shelf Go.RowKit Go.Proofs Go.Sort
theorem zlm {w w':World}{L:Nat→Prop}(h:Keep w.heap.size L w w')(hL: ∀b,¬L b): ∃q os,w'=grow (w.drewN q) os:=by
 refine⟨w'.drawn-w.drawn,w'.heap.extract w.heap.size w'.heap.size,?_⟩;have hh:w'.heap=w.heap++w'.heap.extract w.heap.size w'.heap.size:=by
  apply Array.ext_getElem?;intro i;rw[Array.getElem?_append];split
  ·rename_i hi
   exact h.block i hi (hL i)
  ·rename_i hi
   rw[Array.getElem?_extract];split
   ·congr 1;omega
   ·exact Array.getElem?_eq_none (by omega)
 have hd:w.drawn+(w'.drawn-w.drawn)=w'.drawn:=by have:=h.tape.2;omega
 cases w;cases w';simp only[grow,World.drewN,World.mk.injEq];exact⟨hh,h.tape.1,hd.symm,h.os,h.output⟩
structure Flat {α:Type} (k:Nat) (eD:α→List D) (eV:α→List Go.Value):Prop where
 ld: ∀x,(eD x).length=k
 lv: ∀x,(eV x).length=k
 to: ∀G w x j v,j<k→RelD G w (D.at (eD x) j) v→v=(eV x)[j]!
 of: ∀G w x j,j<k→RelD G w (D.at (eD x) j) ((eV x)[j]!)
theorem Flat.relCs {α:Type}{k:Nat}{eD:α→List D}{eV:α→List Go.Value}(h:Flat k eD eV)(G V:Nat→Prop)(φ:Nat→Option Loc)(w:World)(x:α):
 RelCs (RelC G V φ w) ((eD x).map C.d) (eV x):=by
 have key: ∀(ds:List D) (vs:List Go.Value),ds.length=vs.length→(∀j,j<ds.length→RelD G w (D.at ds j) (vs[j]!))→RelCs (RelC G V φ w) (ds.map C.d) vs:=by
  intro ds;induction ds with
  |nil=>intro vs hl _;cases vs with|nil=>trivial|cons=>cases hl
  |cons d ds ih=>
   intro vs hl hr;cases vs with
   |nil=>cases hl
   |cons v vs=>
    refine⟨hr 0 (by simp),ih vs (by simpa using hl) fun j hj=>?_⟩;have:=hr (j+1) (by simpa using hj)
    simpa [D.at]using this
 exact key _ _ (by rw[h.ld,h.lv]) fun j hj=>h.of G w x j (by rw[←h.ld x];exact hj)
theorem zjb {α:Type}[Inhabited α]{G V:Nat→Prop}{φ:Nat→Option Loc}{w:World}{s k:Nat}{eD:α→List D}{l:List α}(h:z54 G V φ w s (vL k eD l))
 (ho: ∀lc,φ s=some lc→ ¬G lc.blk∧lc.blk<w.heap.size):SlotsOk G (fun _=>False) φ w [(s,vL k eD l)]:=by
 have hk: ∀{k':Nat} {c:Slot},look [(s,vL k eD l)] k'=some c→k'=s∧c=vL k eD l:=fun{k' c} h=>by
  rw[z0t]at h;split at h
  ·rename_i e;cases h;exact⟨e.symm,rfl⟩
  ·cases h
 exact⟨fun k' c h'=>by obtain⟨rfl,rfl⟩:=hk h';exact h,fun k' k'' c c' l l' h' h'' _ _ _=>by rw[(hk h').1,(hk h'').1],fun k' c lc h' h''=>by obtain⟨rfl,rfl⟩:=hk h';exact ho lc h''⟩
def sortL {α:Type}(cf:α→α→Int)(l:List α):List α:=l.mergeSort fun x y=> !(ltOf cf) y x
theorem zli {P : Program} {ρ : Ren} {α : Type} [Inhabited α] (L : SlLaysF0.n6 P ρ) {k : Nat} (aE : ∀ w, (isAgg (ρ.t 24)).run P w = .ok true w) (zE : ∀ w, (Go.sizeOf (ρ.t 24)).run P w = .ok k w)
    {eD : α → List D} {eV : α → List Go.Value} (hF : Flat k eD eV) (hk1 : 1 < k) {cf : α → α → Int} (hO : SWO (ltOf cf)) (hT : ∀ x y, (ltOf cf) x y = false → (ltOf cf) y x = false → x = y)
    {g : Nat} {fn : Func} {c : Code} (hf : P.funcs[g]? = some fn) (hb : fn.body = some c) (hn : (fn.name == "runtime.NumGoroutine") = false) (hS : ∀ x y, Summ P g [.agg ((eD x).map C.d), .agg ((eD y).map C.d)] [] (cD (.int .i64 (cf x y))) []) (l : List α) :
    Summ P (ρ.f 6) [.c (oC 5000 k l), cD (.fn g [])] [(5000, vL k eD l)] (.tup []) [(5000, vL k eD (sortL cf l))] := by
  have h1 : ∀ x, ∀ v ∈ eV x, v.oneCell' = true := fun x v hv => by
    obtain ⟨j, hj, rfl⟩ := List.getElem_of_mem hv
    have := (hF.of (fun _ => False) ⟨#[], zzd, 0, zzd, zzd⟩ x j (by rw [← hF.lv x]; exact hj)).one
    rwa [getElem!_pos (eV x) j hj] at this
  have eg : ∀ args w, (callFunc g args).run P w = .ok (.enter g args) w := fun args w => by
    simp only [callFunc, zz8]
    show Sem.run P (match P.funcs[g]? with | none => _ | some fn => _) w = _
    rw [hf]
    simp [hn, hb]
  have hcmp : ∀ (W : World) (x y : α), Calls P g (#[.agg (eV x).toArray, .agg (eV y).toArray] ++ #[]) W fun e w' => e = .returned (.int .i64 (cf x y)) ∧ ∃ q os', w' = grow (W.drewN q) os' := fun W x y => by
    have hb0 : ∀ b, ¬ Blks (fun _ => none) [] b := fun b ⟨k, c, l, hk, _⟩ => by cases hk
    have h := hS x y (fun _ => False) (fun _ => none) W [.agg (eV x).toArray, .agg (eV y).toArray] (fun _ h => h.elim) ⟨(fun _ _ h => by cases h), (fun _ _ _ _ _ _ h => by cases h), (fun _ _ _ h => by cases h)⟩
      ⟨⟨_, rfl, by simpa using hF.relCs _ _ _ W x, by simpa using h1 x⟩, ⟨_, rfl, by simpa using hF.relCs _ _ _ W y, by simpa using h1 y⟩, trivial⟩
    unfold Acts at h
    rw [eg] at h
    refine h.mono fun e w' ⟨v, G', φ', he, hd⟩ => ?_
    have hr : RelD G' w' (.int .i64 (cf x y)) v := hd.rel.1
    cases hr
    exact ⟨he, zlm hd.kp hb0⟩
  have en : ∀ args w, (callFunc (ρ.f 6) args).run P w = .ok (.enter (ρ.f 6) args) w := fun args w => L.f6.enters rfl args w
  intro G φ w vs hG hsl hargs
  unfold Acts
  rw [en]
  simp only
  match vs, hargs with
  | [a, b], ⟨ha, hb, _⟩ =>
    have hb : RelD G w (.fn g []) b := hb.1
    cases hb with
    | fn _ _ us hl _ =>
    obtain rfl : us = [] := zzj hl.symm
    have hs0 := hsl.rel 5000 (vL k eD l) rfl
    have hle : (sortL cf l).length = l.length := (List.mergeSort_perm l _).length_eq
    rcases ha.1 with ⟨h0, A, rfl⟩ | ⟨lc, hφ, hcap, rfl⟩
    · obtain rfl := zzj h0
      refine (Go.Proofs.AnyF.slices_SortFunc_none L A 0 (.func (.func g) #[] #[]) w).mono fun e w' ⟨h3, h4⟩ => ?_
      subst h4
      refine ⟨_, G, φ, h3, ?_⟩
      have e0 : sortL cf ([] : List α) = [] := zzj hle
      rw [e0]
      exact
      { up := fun _ h => h
        fr := fun _ h => .inl h
        sz := hG
        rel := ⟨#[], rfl, trivial⟩
        slots := zjb hs0 fun lc hl => hsl.own 5000 _ lc rfl hl
        blk := fun k c l h1 h2 => .inl ⟨k, c, l, h1, h2, rfl⟩
        kp := Keep.refl _ _ _
        fix := fun _ _ _ _ _ => rfl }
    · obtain ⟨hm, hs⟩ := hs0
      have hown := hsl.own 5000 (vL k eD l) lc rfl hφ
      obtain ⟨lc', hφ', hcap', hrow, hel⟩ : ∃ lc', φ 5000 = some lc' ∧ l.length ≤ lc'.cap ∧ Rowed k w lc'.blk lc'.off (lc'.cap * k) ∧ z4b G w lc'.blk lc'.off k l.length (fun i => eD (l.getD i zzd)) := by
        rcases hs with ⟨h0, _⟩ | hs
        · rw [hφ] at h0; cases h0
        · exact hs
      rw [hφ] at hφ'
      cases hφ'
      have hfz : ∀ x, w.frozen? ⟨lc.blk, x, none⟩ = false := hrow.2 (by omega)
      have k0 : 0 < k := by omega
      have hcell : ∀ i j, i < l.length → j < k → w.cell? ⟨lc.blk, lc.off + i * k + j, none⟩ = some (eV (l.getD i zzd))[j]! := fun i j hi hj => by
        obtain ⟨u, hu, hr⟩ := (hel i hi).2 j (by rw [(hel i hi).1]; exact hj)
        rw [hu, hF.to _ _ _ _ _ hj hr]
      have hH : HoldsK eV k w lc.blk lc.off l.toArray := fun j hj => by
        rw [size_flatK, List.size_toArray] at hj
        have hi : j / k < l.length := Nat.div_lt_of_lt_mul (by rw [Nat.mul_comm]; exact hj)
        have hq : lc.off + j / k * k + j % k = lc.off + j := by rw [Nat.add_assoc, Nat.mul_comm, Nat.div_add_mod]
        refine ⟨?_, hfz _⟩
        rw [get_flatK _ _ _ _ (by rw [List.size_toArray]; exact hj), ← hq, hcell _ _ hi (Nat.mod_lt _ k0)]
        simp [List.getD_eq_getElem?_getD]
      have hT' := Go.Proofs.AnyQ.slices_SortFunc_total L k aE zE eV hF.lv h1 cf hO g #[] lc.blk lc.off (lc.cap - 0) l.toArray w eg (fun m os dk _ x y => hcmp _ x y) hH hown.2 (by rw [List.size_toArray]; unfold maxN at hm; omega) hT
      rw [List.size_toArray] at hT'
      rw [Nat.zero_mul, Nat.add_zero]
      refine hT'.mono fun e w' ⟨he, n, os, hw⟩ => ⟨_, G, φ, he, ?_⟩
      change w' = sortWorldK eV k w lc.blk lc.off n (sortL cf l).toArray os at hw
      have hp : lc.blk < (Sort.ahead w n).heap.size := hown.2
      have hpw : lc.blk < (putRowK eV k (Sort.ahead w n) lc.blk lc.off (sortL cf l).toArray).heap.size := by
        unfold putRowK putRow mapBlock; rw [Array.size_modify]; exact hown.2
      have hsz : w'.heap.size = w.heap.size + os.size := by
        rw [hw]; unfold sortWorldK putRowK putRow mapBlock; rw [size_grow, Array.size_modify]; rfl
      have hfr : ∀ x, w'.frozen? ⟨lc.blk, x, none⟩ = false := fun x => by
        rw [hw]; unfold sortWorldK; rw [frozen?_grow _ _ _ hpw]; unfold putRowK; rw [frozen?_putRow]; exact hfz x
      have hce : ∀ i j, i < l.length → j < k → w'.cell? ⟨lc.blk, lc.off + i * k + j, none⟩ = some (eV ((sortL cf l).getD i zzd))[j]! := fun i j hi hj => by
        have hh := holdsK_putRowK eV k (Sort.ahead w n) lc.blk lc.off l.toArray (sortL cf l).toArray hH (by simp [hle])
        rw [hw]; unfold sortWorldK; rw [cell?_grow _ _ _ hpw, (hh.cell (i := i) (c := j) (by simpa [hle] using hi) hj).1]
        simp [List.getD_eq_getElem?_getD]
      have hoth : ∀ x, (x < lc.off ∨ lc.off + l.length * k ≤ x) → w'.cell? ⟨lc.blk, x, none⟩ = w.cell? ⟨lc.blk, x, none⟩ := fun x hx => by
        rw [hw]; unfold sortWorldK; rw [cell?_grow _ _ _ hpw]; unfold putRowK
        rw [cell?_putRow_other _ _ _ _ _ _ (.inr (by simpa [hle] using hx))]; rfl
      exact
      { up := fun _ h => h
        fr := fun _ h => .inl h
        sz := fun b hb => by rw [hsz]; exact Nat.lt_of_lt_of_le (hG b hb) (Nat.le_add_right _ _)
        rel := ⟨#[], rfl, trivial⟩
        slots := by
          refine zjb (V := fun _ => False) ⟨by rw [hle]; exact hm, .inr ⟨lc, hφ, by rw [hle]; exact hcap', ⟨fun x hx => ⟨?_, hfr _⟩, fun _ => hfr⟩, ?_⟩⟩ fun lc' h' => ?_
          · by_cases hxl : x < l.length * k
            · have hi : x / k < l.length := Nat.div_lt_of_lt_mul (by rw [Nat.mul_comm]; exact hxl)
              have hq : lc.off + x / k * k + x % k = lc.off + x := by rw [Nat.add_assoc, Nat.mul_comm, Nat.div_add_mod]
              rw [← hq, hce _ _ hi (Nat.mod_lt _ k0)]; rfl
            · rw [hoth _ (.inr (by omega))]; exact (hrow.1 x hx).1
          · intro i hi
            rw [hle] at hi
            refine ⟨hF.ld _, fun j hj => ?_⟩
            rw [hF.ld] at hj
            exact ⟨_, hce i j hi hj, hF.of _ _ _ _ hj⟩
          · rw [hφ] at h'; cases h'
            exact ⟨hown.1, by rw [hsz]; exact Nat.lt_of_lt_of_le hown.2 (Nat.le_add_right _ _)⟩
        blk := fun k' c l' h1 h2 => by
          rw [z0t] at h1
          split at h1
          · rename_i e; subst e; exact .inl ⟨5000, _, l', rfl, h2, rfl⟩
          · cases h1
        kp := ⟨by rw [hw]; rfl, ⟨by rw [hw]; rfl, by rw [hw]; exact Nat.le_add_right _ _⟩, by rw [hw]; rfl, by rw [hsz]; exact Nat.le_add_right _ _, fun b hb hL => by
          have hne : b ≠ lc.blk := fun e => hL ⟨5000, _, lc, rfl, hφ, e⟩
          rw [hw]; unfold sortWorldK; rw [heap_grow_old _ _ (by unfold putRowK putRow mapBlock; rw [Array.size_modify]; exact hb)]
          unfold putRowK putRow mapBlock
          simp only [Array.getElem?_modify]
          rw [if_neg (Ne.symm hne)]; rfl⟩
        fix := fun _ _ _ _ _ => rfl }
end Go.Av
namespace Go.Av
open Go
def cmpT (a b:Time):Int:=
 if a.epoch<b.epoch then -1 else if b.epoch<a.epoch then 1 else if a.loop.1<b.loop.1 then -1 else if b.loop.1<a.loop.1 then 1 else if a.loop.2<b.loop.2 then -1 else if b.loop.2<a.loop.2 then 1 else 0
theorem ziy (x y:Int):z4f x y=some (if x<y then -1 else if y<x then 1 else 0):=by
 unfold z4f z6p;simp only[decide_true,Bool.not_true,zz0,z2x,z0i];split
 ·rfl
 ·split<;>rfl
theorem zpl (x1 x2 y1 y2:Int):z2l [x1,x2] [y1,y2]=some (if x1<y1 then -1 else if y1<x1 then 1 else if x2<y2 then -1 else if y2<x2 then 1 else 0):=by
 unfold z2l;simp only[List.length_cons,List.length_nil,zza,Nat.reduceAdd,z0l,ziy,z0i,z42,zz0];by_cases h3:x1<y1<;>by_cases h4:y1<x1<;>by_cases h5:x2<y2<;>by_cases h6:y2<x2<;>simp[outK,need,h3,h4,h5,h6]
theorem znr (u v:Int):z77 [u,v]=some (if u=0 then v else u):=by
 unfold z77;simp only[List.length_cons,List.length_nil,zza,Nat.reduceAdd,z0l,z0i,z42];by_cases h1:u=0<;>by_cases h2:v=0<;>simp[outK,h1,h2]
theorem zqk {p q:Bool}{A:Type}{x y:Option A}:bf (p && (q && true)) x y=bf p (bf q x y) y:=by cases p<;>cases q<;>rfl
theorem        zb8 (a b : Time) :            z58 a b = some (cmpT a b) := by
  unfold            z58 cmpT
  simp only [      ziy,     zpl,    znr,              zz0,    zqk,       z0i]
  by_cases h1 : a.epoch < b.epoch <;> by_cases h2 : b.epoch < a.epoch <;> by_cases h3 : a.loop.1 < b.loop.1 <;> by_cases h4 : b.loop.1 < a.loop.1 <;> by_cases h5 : a.loop.2 < b.loop.2 <;> by_cases h6 : b.loop.2 < a.loop.2 <;>
    by_cases h7 : a.loop.1 = b.loop.1 <;> by_cases h8 : a.loop.2 = b.loop.2 <;> simp [h1, h2, h3, h4, h5, h6, h7, h8] <;> omega
theorem zmk (a b:Time):cmpT a b= -1∨cmpT a b=0∨cmpT a b=1:=by
 unfold cmpT
 repeat' split
 all_goals omega
theorem       ziw (a b : Time) : cmpT a b = - cmpT b a := by
  unfold cmpT
  by_cases h1 : a.epoch < b.epoch <;> by_cases h2 : b.epoch < a.epoch <;> by_cases h3 : a.loop.1 < b.loop.1 <;> by_cases h4 : b.loop.1 < a.loop.1 <;> by_cases h5 : a.loop.2 < b.loop.2 <;> by_cases h6 : b.loop.2 < a.loop.2 <;>
    simp [h1, h2, h3, h4, h5, h6] <;> omega
theorem Time.ext' {a b:Time}(h1:a.epoch=b.epoch)(h2:a.loop.1=b.loop.1)(h3:a.loop.2=b.loop.2):a=b:=by
 rcases a with⟨e,l1,l2⟩;rcases b with⟨e',l1',l2'⟩;simp at h1 h2 h3;simp[h1,h2,h3]
theorem zml {a b:Time}(h:cmpT a b=0):a=b:=by
 unfold cmpT at h
 repeat' split at h
 all_goals first
  |omega
  |exact Time.ext' (by omega) (by omega) (by omega)
def ltT (x y:Time):Bool:=decide (cmpT x y<0)
theorem z6e {x y:Time}:ltT x y=true↔x.epoch<y.epoch∨(x.epoch=y.epoch∧(x.loop.1<y.loop.1∨(x.loop.1=y.loop.1∧x.loop.2<y.loop.2))):=by
 unfold ltT cmpT;rw[decide_eq_true_eq]
 repeat' split
 all_goals omega
theorem swoT:Sort.SWO ltT where
 irrefl x:=by
  cases h:ltT x x with
  |false=>rfl
  |true=>rw[z6e]at h;omega
 trans x y z h1 h2:=by
  rw[z6e]at*;omega
 ntrans x y z h1 h2:=by
  rw[←Bool.not_eq_true,z6e]at*;omega
def insT (x:Time):List Time→List Time
 |[]=>[x]
 |y::l=>if ltT y x=true then y::insT x l else x::y::l
def sortT:List Time→List Time
 |[]=>[]
 |x::l=>insT x (sortT l)
theorem zfi (x:Time): ∀l,(insT x l).Perm (x::l)
 |[]=> .refl _
 |y::l=>by
  unfold insT;split
  ·exact((zfi x l).cons y).trans (List.Perm.swap x y l)
  ·exact .refl _
theorem zi4: ∀l,(sortT l).Perm l
 |[]=> .refl _
 |x::l=>(zfi x (sortT l)).trans ((zi4 l).cons x)
theorem zgl {x:Time}: ∀{l:List Time},(l.Pairwise fun x y=>ltT y x=false)→(insT x l).Pairwise fun x y=>ltT y x=false
 |[],_=>List.pairwise_singleton _ _
 |y::l,h=>by
  rw[List.pairwise_cons]at h;unfold insT;split
  ·rename_i hy
   refine List.pairwise_cons.2 ⟨fun z hz=>?_,zgl h.2⟩;rcases zzf.1 ((zfi x l).mem_iff.1 hz)with rfl|hz
   ·rw[←Bool.not_eq_true,z6e];rw[z6e]at hy;omega
   ·exact h.1 z hz
  ·rename_i hy
   refine List.pairwise_cons.2 ⟨fun z hz=>?_,List.pairwise_cons.2 h⟩;rcases zzf.1 hz with rfl|hz
   ·exact Bool.not_eq_true _▸hy
   ·have h1:=h.1 z hz;rw[←Bool.not_eq_true,z6e]at*;omega
theorem zfx: ∀l,(sortT l).Pairwise fun x y=>ltT y x=false
 |[]=>List.Pairwise.nil
 |x::l=>zgl (zfx l)
theorem zpb (l:List Time):sortT l=sortL cmpT l:=by
 have h:=List.pairwise_mergeSort (le:=fun x y=> !(ltT y x)) (fun a b c h1 h2=>by
  have h1:=Bool.not_eq_true' _▸h1;have h2:=Bool.not_eq_true' _▸h2
  rw[Bool.not_eq_true']at*;rw[←Bool.not_eq_true,z6e]at*;omega) (fun a b=>by
  cases h1:ltT b a with
  |false=>rfl
  |true=>
   have h2:ltT a b=false:=by rw[←Bool.not_eq_true,z6e];rw[z6e]at h1;omega
   rw[h2];rfl) l
 refine List.Perm.eq_of_pairwise (fun a b _ _ h1 h2=>?_) (zfx l) (h.imp fun h=>by simpa using h) ((zi4 l).trans (List.mergeSort_perm l _).symm);exact Time.ext' (by rw[←Bool.not_eq_true,z6e]at h1 h2;omega) (by rw[←Bool.not_eq_true,z6e]at h1 h2;omega) (by rw[←Bool.not_eq_true,z6e]at h1 h2;omega)
def z2z (fuel:Nat)(l0:List Time):Option (List Time):=some (sortT l0)
end Go.Av
namespace Go.Av
open Go
def zdc:ByteArray:=bs [0,1,2,2,3,3,3,3,4,4,4,4,4,4,4,4,5,5,5,5,5,5,5,5,5,5,5,5,5,5,5,5,6,6,6,6,6,6,6,6,6,6,6,6,6,6,6,6,6,6,6,6,6,6,6,6,6,6,6,6,6,6,6,6,7,7,7,7,7,7,7,7,7,7,7,7,7,7,7,7,7,7,7,7,7,7,7,7,7,7,7,7,7,7,7,7,7,7,7,7,7,7,7,7,7,7,7,7,7,7,7,7,7,7,7,7,7,7,7,7,7,7,7,7,7,7,7,7,8,8,8,8,8,8,8,8,8,8,8,8,8,8,8,8,8,8,8,8,8,8,8,8,8,8,8,8,8,8,8,8,8,8,8,8,8,8,8,8,8,8,8,8,8,8,8,8,8,8,8,8,8,8,8,8,8,8,8,8,8,8,8,8,8,8,8,8,8,8,8,8,8,8,8,8,8,8,8,8,8,8,8,8,8,8,8,8,8,8,8,8,8,8,8,8,8,8,8,8,8,8,8,8,8,8,8,8,8,8,8,8,8,8,8,8,8,8,8,8,8,8,8,8,8,8,8,8]
structure Value where
 isText:Bool
 n:Int
 s:ByteArray
 deriving Inhabited
def z03 (x:Value):List D:=[.bool x.isText,dI x.n,.str x.s]
abbrev cValue (x:Value):List C:=[.d (.bool x.isText),.d (dI x.n),.d (.str x.s)]
def z9i (x y:Value):Bool:=((x.isText==y.isText) && (decide (x.n=y.n) && (strEq x.s y.s && true)))
structure Update where
 key:List Value
 row:List Value
 time:Time
 diff:Int
 deriving Inhabited
def z01 (x:Update):List D:=[lD 3 z03 x.key,lD 3 z03 x.row,dU x.time.epoch,dU x.time.loop.1,dU x.time.loop.2,dI x.diff]
abbrev cUpdate (x:Update):List C:=[.d (lD 3 z03 x.key),.d (lD 3 z03 x.row),.d (dU x.time.epoch),.d (dU x.time.loop.1),.d (dU x.time.loop.2),.d (dI x.diff)]
structure Fault where
 is:Bool
 at_:Time
 deriving Inhabited
abbrev cFault (x:Fault):List C:=[.d (.bool x.is),.d (dU x.at_.epoch),.d (dU x.at_.loop.1),.d (dU x.at_.loop.2)]
structure Maker where
 fault:Fault
 list:List Update
 deriving Inhabited
abbrev cMaker (x:Maker):List C:=[.d (.bool x.fault.is),.d (dU x.fault.at_.epoch),.d (dU x.fault.at_.loop.1),.d (dU x.fault.at_.loop.2),.d (lD 6 z01 x.list)]
structure JoinMaker where
 maker:Maker
 deriving Inhabited
abbrev cJoinMaker (x:JoinMaker):List C:=[.d (.bool x.maker.fault.is),.d (dU x.maker.fault.at_.epoch),.d (dU x.maker.fault.at_.loop.1),.d (dU x.maker.fault.at_.loop.2),.d (lD 6 z01 x.maker.list)]
structure Tally where
 high:Int
 low:Int
 deriving Inhabited
abbrev cTally (x:Tally):List C:=[.d (dU x.high),.d (dU x.low)]
structure Line_Update where
 tally:Tally
 of:Update
 deriving Inhabited
def z0u (x:Line_Update):List D:=[dU x.tally.high,dU x.tally.low,lD 3 z03 x.of.key,lD 3 z03 x.of.row,dU x.of.time.epoch,dU x.of.time.loop.1,dU x.of.time.loop.2,dI x.of.diff]
abbrev cLine_Update (x:Line_Update):List C:=[.d (dU x.tally.high),.d (dU x.tally.low),.d (lD 3 z03 x.of.key),.d (lD 3 z03 x.of.row),.d (dU x.of.time.epoch),.d (dU x.of.time.loop.1),.d (dU x.of.time.loop.2),.d (dI x.of.diff)]
structure Made where
 list:List Update
 fail:Time
 why:Int
 deriving Inhabited
abbrev cMade (x:Made):List C:=[.d (lD 6 z01 x.list),.d (dU x.fail.epoch),.d (dU x.fail.loop.1),.d (dU x.fail.loop.2),.d (dI x.why)]
structure Wide where
 high:Int
 low:Int
 deriving Inhabited
abbrev cWide (x:Wide):List C:=[.d (dI x.high),.d (dU x.low)]
structure Batch where
 since:List Time
 updates:List Update
 deriving Inhabited
abbrev cBatch (x:Batch):List C:=[.d (lD 3 z06 x.since),.d (lD 6 z01 x.updates)]
structure Merger where
 a:List Update
 b:List Update
 i:Int
 j:Int
 since:List Time
 out:List Update
 deriving Inhabited
abbrev cMerger (x:Merger):List C:=[.d (lD 6 z01 x.a),.d (lD 6 z01 x.b),.d (dI x.i),.d (dI x.j),.d (lD 3 z06 x.since),.d (lD 6 z01 x.out)]
structure Level where
 class_:Int
 busy:Bool
 batch:Batch
 merger:Merger
 deriving Inhabited
def z0a (x:Level):List D:=[dI x.class_,.bool x.busy,lD 3 z06 x.batch.since,lD 6 z01 x.batch.updates,lD 6 z01 x.merger.a,lD 6 z01 x.merger.b,dI x.merger.i,dI x.merger.j,lD 3 z06 x.merger.since,lD 6 z01 x.merger.out]
abbrev cLevel (x:Level):List C:=[.d (dI x.class_),.d (.bool x.busy),.d (lD 3 z06 x.batch.since),.d (lD 6 z01 x.batch.updates),.d (lD 6 z01 x.merger.a),.d (lD 6 z01 x.merger.b),.d (dI x.merger.i),.d (dI x.merger.j),.d (lD 3 z06 x.merger.since),.d (lD 6 z01 x.merger.out)]
structure Spine where
 since:List Time
 levels:List Level
 deriving Inhabited
abbrev cSpine (x:Spine):List C:=[.d (lD 3 z06 x.since),.d (lD 10 z0a x.levels)]
structure Trace where
 spine:Spine
 deriving Inhabited
abbrev cTrace (x:Trace):List C:=[.d (lD 3 z06 x.spine.since),.d (lD 10 z0a x.spine.levels)]
def z95 (p0:Value):Option Bool:=
 bf p0.isText (jn (fun(a1:Bool)=>some a1) fun j2=>bf (decide (p0.n=0)) (j2 (decide ((p0.s.size:Int)≤64))) (j2 false)) (some (strEq p0.s (bs [])))
def z99 (p0:Value):Option Bool:=
 (z95 p0).bind fun r1=>some (!r1)
def z17 (p0:List Value):Option Int:=
 outK (z0l (S:=Unit) (R:=Int) (fun i1 (a2:Unit)=>(z99 (p0.getD i1 zzd)).bind fun r4=>bf r4 (some (.ret ((i1:Nat):Int))) (some (.next ()))) p0.length 0 ()) (fun(a3:Unit)=>some (-1)) (fun x=>some x)
def z13 (p0:List Value):Option Bool:=
 (z17 p0).bind fun r1=>some (decide (0≤r1))
def z7n (p0:List Value):Option Int:=
 jn (fun(a1:Bool)=>bf a1 (some 4) (some 0)) fun j2=>bf (decide (8<(p0.length:Int))) (j2 true) ((z13 p0).bind fun r3=>j2 r3)
def z3a (fuel:Nat)(p0:List Int):Option Int:=
 bf (decide ((p0.length:Int)<1)) (none) (need ((0:Int)≤0∧0<(p0.length:Int))<|outK (loopN (S:=Int×Int) (R:=Empty) (fun(a2:Int×Int)=>bf (decide (a2.2<(p0.length:Int))) (need ((0:Int)≤a2.2∧a2.2<(p0.length:Int))<|some (.next ((if a2.1<(p0.getD a2.2.toNat zzd)then(p0.getD a2.2.toNat zzd)else a2.1),(zzi.wrap (a2.2+1))))) (some (.brk (a2.1,a2.2)))) fuel ((p0.getD 0 zzd),1)) (fun(a3:Int×Int)=>some a3.1) (fun(x:Empty)=>x.elim))
def z5k (fuel:Nat)(p0:List Time):Option Int:=
 outK (z0l (S:=Unit) (R:=Int) (fun i1 (a2:Unit)=>(z3a fuel ([(p0.getD i1 zzd).loop.1,(p0.getD i1 zzd).loop.2]:List Int)).bind fun r4=>bf (decide (4611686018427387904<(if(p0.getD i1 zzd).epoch<r4 then r4 else(p0.getD i1 zzd).epoch))) (some (.ret 1)) (some (.next ()))) p0.length 0 ()) (fun(a3:Unit)=>some 0) (fun x=>some x)
def z37 (p0:List Int):Option Int:=
 outK (z0l (S:=Unit) (R:=Int) (fun i1 (a2:Unit)=>bf (!decide ((p0.getD i1 zzd)=0)) (some (.ret (p0.getD i1 zzd))) (some (.next ()))) p0.length 0 ()) (fun(a3:Unit)=>some 0) (fun x=>some x)
def z4n (fuel:Nat)(p0:List Update):Option Int:=
 outK (z0l (S:=Unit) (R:=Int) (fun i1 (a2:Unit)=>(z7n ((p0.getD i1 zzd).key)).bind fun r4=>(z7n ((p0.getD i1 zzd).row)).bind fun r5=>(z5k fuel ([(p0.getD i1 zzd).time]:List Time)).bind fun r6=>(z37 ([r4,r5,r6]:List Int)).bind fun r7=>bf (!decide (r7=0)) (some (.ret r7)) (some (.next ()))) p0.length 0 ()) (fun(a3:Unit)=>some 0) (fun x=>some x)
def z0x (p0:List Update):Option (List Update):=
 need (p0.length≤274877906944)<|some p0
def za7 (p0:Value):Option Int:=
 bf p0.isText (some 1) (some 0)
def z83 (p0:Int):Option Bool:=
 some (!decide (p0=p0))
def z75 (p0:Int)(p1:Int):Option Int:=
 (z83 p0).bind fun r1=>(z83 p1).bind fun r2=>bf r1 (bf r2 (some 0) (some (-1))) (bf r2 (some 1) (bf (decide (p0<p1)) (some (-1)) (bf (decide (p1<p0)) (some 1) (some 0))))
def z6o (p0:ByteArray):Option Bool:=
 some (!strEq p0 p0)
def z65 (p0:ByteArray)(p1:ByteArray):Option Int:=
 (z6o p0).bind fun r1=>(z6o p1).bind fun r2=>bf r1 (bf r2 (some 0) (some (-1))) (bf r2 (some 1) (bf (strLt p0 p1) (some (-1)) (bf (!(strLt p0 p1||strEq p0 p1)) (some 1) (some 0))))
def z78 (p0:Int):Option Bool:=
 some (!decide (p0=p0))
def z6i (p0:Int)(p1:Int):Option Int:=
 (z78 p0).bind fun r1=>(z78 p1).bind fun r2=>bf r1 (bf r2 (some 0) (some (-1))) (bf r2 (some 1) (bf (decide (p0<p1)) (some (-1)) (bf (decide (p1<p0)) (some 1) (some 0))))
def z84 (p0:Value)(p1:Value):Option Int:=
 bf (!(p0.isText==p1.isText)) ((za7 p0).bind fun r1=>(za7 p1).bind fun r2=>(z75 r1 r2).bind fun r3=>some r3) (bf p0.isText ((z65 p0.s p1.s).bind fun r4=>some r4) ((z6i p0.n p1.n).bind fun r5=>some r5))
def z0h (p0:List Value)(p1:List Value):Option Int:=
 outK (z0l (S:=Unit) (R:=Int) (fun i1 (a2:Unit)=>bf (decide ((p1.length:Int)≤((i1:Nat):Int))) (some (.ret 1)) (need ((0:Int)≤((i1:Nat):Int)∧((i1:Nat):Int)<(p1.length:Int))<|(z84 (p0.getD i1 zzd) (p1.getD i1 zzd)).bind fun r5=>bf (!decide (r5=0)) (some (.ret r5)) (some (.next ())))) p0.length 0 ()) (fun(a3:Unit)=>bf (decide ((p0.length:Int)<(p1.length:Int))) (some (-1)) (some 0)) (fun x=>some x)
def z3q (p0:List Value)(p1:List Value):Option Int:=
 (z0h p0 p1).bind fun r1=>some r1
def z1e (p0:Update)(p1:Update):Option Int:=
 (z3q p0.key p1.key).bind fun r1=>some r1
def z12 (fuel:Nat)(p1:Int)(p2:Int)(l0:List Update):Option (List Update):=
 outK (loopN (S:=Int×(List Update)) (R:=Empty) (fun(a1:Int×(List Update))=>bf (decide (a1.1<p2)) (outK (loopN (S:=Int×(List Update)) (R:=Empty) (fun(a3:Int×(List Update))=>jn (fun(a5:Bool)=>bf a5 (need ((0:Int)≤(zzi.wrap (a3.1-1))∧(zzi.wrap (a3.1-1))<(a3.2.length:Int))<|need ((0+(zzi.wrap (a3.1-1)).toNat)<a3.2.length)<|need ((0:Int)≤a3.1∧a3.1<(a3.2.length:Int))<|need ((0+a3.1.toNat)<a3.2.length)<|need ((0:Int)≤a3.1∧a3.1<(a3.2.length:Int))<|need ((0+a3.1.toNat)<a3.2.length)<|need ((0:Int)≤(zzi.wrap (a3.1-1))∧(zzi.wrap (a3.1-1))<(a3.2.length:Int))<|need ((0+(zzi.wrap (a3.1-1)).toNat)<(a3.2.set (0+a3.1.toNat) (a3.2.getD (0+(zzi.wrap (a3.1-1)).toNat) zzd)).length)<|some (.next ((zzi.wrap (a3.1-1)),((a3.2.set (0+a3.1.toNat) (a3.2.getD (0+(zzi.wrap (a3.1-1)).toNat) zzd)).set (0+(zzi.wrap (a3.1-1)).toNat) (a3.2.getD (0+a3.1.toNat) zzd))))) (some (.brk (a3.1,a3.2)))) fun j6=>bf (decide (p1<a3.1)) (need ((0:Int)≤a3.1∧a3.1<(a3.2.length:Int))<|need ((0+a3.1.toNat)<a3.2.length)<|need ((0:Int)≤(zzi.wrap (a3.1-1))∧(zzi.wrap (a3.1-1))<(a3.2.length:Int))<|need ((0+(zzi.wrap (a3.1-1)).toNat)<a3.2.length)<|(z1e (a3.2.getD (0+a3.1.toNat) zzd) (a3.2.getD (0+(zzi.wrap (a3.1-1)).toNat) zzd)).bind fun r20=>j6 (decide (r20<0))) (j6 false)) fuel (a1.1,a1.2)) (fun(a4:Int×(List Update))=>some (.next ((zzi.wrap (a1.1+1)),a4.2))) (fun(x:Empty)=>x.elim)) (some (.brk (a1.1,a1.2)))) fuel ((zzi.wrap (p1+1)),l0)) (fun(a2:Int×(List Update))=>some a2.2) (fun(x:Empty)=>x.elim)
def z18 (fuel:Nat)(p1:Int)(p2:Int)(p3:Int)(l0:List Update):Option (List Update):=
 outK (loopN (S:=Int×(List Update)) (R:=Empty) (fun(a1:Int×(List Update))=>bf (decide (a1.1<p3)) (need ((0:Int)≤(zzi.wrap (p2+a1.1))∧(zzi.wrap (p2+a1.1))<(a1.2.length:Int))<|need ((0+(zzi.wrap (p2+a1.1)).toNat)<a1.2.length)<|need ((0:Int)≤(zzi.wrap (p1+a1.1))∧(zzi.wrap (p1+a1.1))<(a1.2.length:Int))<|need ((0+(zzi.wrap (p1+a1.1)).toNat)<a1.2.length)<|need ((0:Int)≤(zzi.wrap (p1+a1.1))∧(zzi.wrap (p1+a1.1))<(a1.2.length:Int))<|need ((0+(zzi.wrap (p1+a1.1)).toNat)<a1.2.length)<|need ((0:Int)≤(zzi.wrap (p2+a1.1))∧(zzi.wrap (p2+a1.1))<(a1.2.length:Int))<|need ((0+(zzi.wrap (p2+a1.1)).toNat)<(a1.2.set (0+(zzi.wrap (p1+a1.1)).toNat) (a1.2.getD (0+(zzi.wrap (p2+a1.1)).toNat) zzd)).length)<|some (.next ((zzi.wrap (a1.1+1)),((a1.2.set (0+(zzi.wrap (p1+a1.1)).toNat) (a1.2.getD (0+(zzi.wrap (p2+a1.1)).toNat) zzd)).set (0+(zzi.wrap (p2+a1.1)).toNat) (a1.2.getD (0+(zzi.wrap (p1+a1.1)).toNat) zzd))))) (some (.brk (a1.1,a1.2)))) fuel (0,l0)) (fun(a2:Int×(List Update))=>some a2.2) (fun(x:Empty)=>x.elim)
def z1p (fuel:Nat)(p1:Int)(p2:Int)(p3:Int)(l0:List Update):Option (List Update):=
 outK (loopN (S:=Int×Int×(List Update)) (R:=Empty) (fun(a1:Int×Int×(List Update))=>bf (!decide (a1.1=a1.2.1)) (bf (decide (a1.2.1<a1.1)) ((z18 fuel (zzi.wrap (p2-a1.1)) p2 a1.2.1 a1.2.2).bind fun r4=>need (r4.length=a1.2.2.length)<|some (.next ((zzi.wrap (a1.1-a1.2.1)),a1.2.1,r4))) ((z18 fuel (zzi.wrap (p2-a1.1)) (zzi.wrap ((zzi.wrap (p2+a1.2.1))-a1.1)) a1.1 a1.2.2).bind fun r6=>need (r6.length=a1.2.2.length)<|some (.next (a1.1,(zzi.wrap (a1.2.1-a1.1)),r6)))) (some (.brk (a1.1,a1.2.1,a1.2.2)))) fuel ((zzi.wrap (p2-p1)),(zzi.wrap (p3-p2)),l0)) (fun(a2:Int×Int×(List Update))=>(z18 fuel (zzi.wrap (p2-a2.1)) p2 a2.1 a2.2.2).bind fun r3=>some r3) (fun(x:Empty)=>x.elim)
def z0e:Nat→Int→Int→Int→(List Update)→Option (List Update)
 |0,_,_,_,_=>none
 |fuel+1,p1,p2,p3,l0=>
 bf (decide ((zzi.wrap (p2-p1))=1)) (outK (loopN (S:=Int×Int) (R:=Empty) (fun(a1:Int×Int)=>bf (decide (a1.1<a1.2)) (need ((0:Int)≤(zzi.wrap (shrOp .u64 (zzu.wrap (zzi.wrap (a1.1+a1.2))) 1))∧(zzi.wrap (shrOp .u64 (zzu.wrap (zzi.wrap (a1.1+a1.2))) 1))<(l0.length:Int))<|need ((0+(zzi.wrap (shrOp .u64 (zzu.wrap (zzi.wrap (a1.1+a1.2))) 1)).toNat)<l0.length)<|need ((0:Int)≤p1∧p1<(l0.length:Int))<|need ((0+p1.toNat)<l0.length)<|(z1e (l0.getD (0+(zzi.wrap (shrOp .u64 (zzu.wrap (zzi.wrap (a1.1+a1.2))) 1)).toNat) zzd) (l0.getD (0+p1.toNat) zzd)).bind fun r17=>bf (decide (r17<0)) (some (.next ((zzi.wrap ((zzi.wrap (shrOp .u64 (zzu.wrap (zzi.wrap (a1.1+a1.2))) 1))+1)),a1.2))) (some (.next (a1.1,(zzi.wrap (shrOp .u64 (zzu.wrap (zzi.wrap (a1.1+a1.2))) 1)))))) (some (.brk (a1.1,a1.2)))) fuel (p2,p3)) (fun(a2:Int×Int)=>outK (loopN (S:=Int×(List Update)) (R:=Empty) (fun(a3:Int×(List Update))=>bf (decide (a3.1<(zzi.wrap (a2.1-1)))) (need ((0:Int)≤(zzi.wrap (a3.1+1))∧(zzi.wrap (a3.1+1))<(a3.2.length:Int))<|need ((0+(zzi.wrap (a3.1+1)).toNat)<a3.2.length)<|need ((0:Int)≤a3.1∧a3.1<(a3.2.length:Int))<|need ((0+a3.1.toNat)<a3.2.length)<|need ((0:Int)≤a3.1∧a3.1<(a3.2.length:Int))<|need ((0+a3.1.toNat)<a3.2.length)<|need ((0:Int)≤(zzi.wrap (a3.1+1))∧(zzi.wrap (a3.1+1))<(a3.2.length:Int))<|need ((0+(zzi.wrap (a3.1+1)).toNat)<(a3.2.set (0+a3.1.toNat) (a3.2.getD (0+(zzi.wrap (a3.1+1)).toNat) zzd)).length)<|some (.next ((zzi.wrap (a3.1+1)),((a3.2.set (0+a3.1.toNat) (a3.2.getD (0+(zzi.wrap (a3.1+1)).toNat) zzd)).set (0+(zzi.wrap (a3.1+1)).toNat) (a3.2.getD (0+a3.1.toNat) zzd))))) (some (.brk (a3.1,a3.2)))) fuel (p1,l0)) (fun(a4:Int×(List Update))=>some a4.2) (fun(x:Empty)=>x.elim)) (fun(x:Empty)=>x.elim)) (bf (decide ((zzi.wrap (p3-p2))=1)) (outK (loopN (S:=Int×Int) (R:=Empty) (fun(a18:Int×Int)=>bf (decide (a18.1<a18.2)) (need ((0:Int)≤p2∧p2<(l0.length:Int))<|need ((0+p2.toNat)<l0.length)<|need ((0:Int)≤(zzi.wrap (shrOp .u64 (zzu.wrap (zzi.wrap (a18.1+a18.2))) 1))∧(zzi.wrap (shrOp .u64 (zzu.wrap (zzi.wrap (a18.1+a18.2))) 1))<(l0.length:Int))<|need ((0+(zzi.wrap (shrOp .u64 (zzu.wrap (zzi.wrap (a18.1+a18.2))) 1)).toNat)<l0.length)<|(z1e (l0.getD (0+p2.toNat) zzd) (l0.getD (0+(zzi.wrap (shrOp .u64 (zzu.wrap (zzi.wrap (a18.1+a18.2))) 1)).toNat) zzd)).bind fun r34=>bf (!(decide (r34<0))) (some (.next ((zzi.wrap ((zzi.wrap (shrOp .u64 (zzu.wrap (zzi.wrap (a18.1+a18.2))) 1))+1)),a18.2))) (some (.next (a18.1,(zzi.wrap (shrOp .u64 (zzu.wrap (zzi.wrap (a18.1+a18.2))) 1)))))) (some (.brk (a18.1,a18.2)))) fuel (p1,p2)) (fun(a19:Int×Int)=>outK (loopN (S:=Int×(List Update)) (R:=Empty) (fun(a20:Int×(List Update))=>bf (decide (a19.1<a20.1)) (need ((0:Int)≤(zzi.wrap (a20.1-1))∧(zzi.wrap (a20.1-1))<(a20.2.length:Int))<|need ((0+(zzi.wrap (a20.1-1)).toNat)<a20.2.length)<|need ((0:Int)≤a20.1∧a20.1<(a20.2.length:Int))<|need ((0+a20.1.toNat)<a20.2.length)<|need ((0:Int)≤a20.1∧a20.1<(a20.2.length:Int))<|need ((0+a20.1.toNat)<a20.2.length)<|need ((0:Int)≤(zzi.wrap (a20.1-1))∧(zzi.wrap (a20.1-1))<(a20.2.length:Int))<|need ((0+(zzi.wrap (a20.1-1)).toNat)<(a20.2.set (0+a20.1.toNat) (a20.2.getD (0+(zzi.wrap (a20.1-1)).toNat) zzd)).length)<|some (.next ((zzi.wrap (a20.1-1)),((a20.2.set (0+a20.1.toNat) (a20.2.getD (0+(zzi.wrap (a20.1-1)).toNat) zzd)).set (0+(zzi.wrap (a20.1-1)).toNat) (a20.2.getD (0+a20.1.toNat) zzd))))) (some (.brk (a20.1,a20.2)))) fuel (p2,l0)) (fun(a21:Int×(List Update))=>some a21.2) (fun(x:Empty)=>x.elim)) (fun(x:Empty)=>x.elim)) (jn (fun(a35:Int×Int×Int×Int)=>outK (loopN (S:=Int×Int) (R:=Empty) (fun(a37:Int×Int)=>bf (decide (a37.1<a37.2)) (need ((0:Int)≤(zzi.wrap ((zzi.wrap (a35.2.1-1))-(zzi.wrap (shrOp .u64 (zzu.wrap (zzi.wrap (a37.1+a37.2))) 1))))∧(zzi.wrap ((zzi.wrap (a35.2.1-1))-(zzi.wrap (shrOp .u64 (zzu.wrap (zzi.wrap (a37.1+a37.2))) 1))))<(l0.length:Int))<|need ((0+(zzi.wrap ((zzi.wrap (a35.2.1-1))-(zzi.wrap (shrOp .u64 (zzu.wrap (zzi.wrap (a37.1+a37.2))) 1)))).toNat)<l0.length)<|need ((0:Int)≤(zzi.wrap (shrOp .u64 (zzu.wrap (zzi.wrap (a37.1+a37.2))) 1))∧(zzi.wrap (shrOp .u64 (zzu.wrap (zzi.wrap (a37.1+a37.2))) 1))<(l0.length:Int))<|need ((0+(zzi.wrap (shrOp .u64 (zzu.wrap (zzi.wrap (a37.1+a37.2))) 1)).toNat)<l0.length)<|(z1e (l0.getD (0+(zzi.wrap ((zzi.wrap (a35.2.1-1))-(zzi.wrap (shrOp .u64 (zzu.wrap (zzi.wrap (a37.1+a37.2))) 1)))).toNat) zzd) (l0.getD (0+(zzi.wrap (shrOp .u64 (zzu.wrap (zzi.wrap (a37.1+a37.2))) 1)).toNat) zzd)).bind fun r58=>bf (!(decide (r58<0))) (some (.next ((zzi.wrap ((zzi.wrap (shrOp .u64 (zzu.wrap (zzi.wrap (a37.1+a37.2))) 1))+1)),a37.2))) (some (.next (a37.1,(zzi.wrap (shrOp .u64 (zzu.wrap (zzi.wrap (a37.1+a37.2))) 1)))))) (some (.brk (a37.1,a37.2)))) fuel (a35.2.2.1,a35.2.2.2)) (fun(a38:Int×Int)=>jn (fun(a39:Int×(List Update))=>jn (fun(a41:List Update)=>jn (fun(a43:Bool)=>bf a43 ((z0e fuel a35.1 a39.1 p3 a41).bind fun r45=>some r45) (some a41)) fun j44=>bf (decide (a35.1<a39.1)) (j44 (decide (a39.1<p3))) (j44 false)) fun j42=>jn (fun(a46:Bool)=>bf a46 ((z0e fuel p1 a38.1 a35.1 a39.2).bind fun r48=>need (r48.length=a39.2.length)<|j42 r48) (j42 a39.2)) fun j47=>bf (decide (p1<a38.1)) (j47 (decide (a38.1<a35.1))) (j47 false)) fun j40=>jn (fun(a50:Int×Bool)=>bf a50.2 ((z1p fuel a38.1 p2 a50.1 l0).bind fun r52=>need (r52.length=l0.length)<|j40 (a50.1,r52)) (j40 (a50.1,l0))) fun j51=>bf (decide (a38.1<p2)) (j51 ((zzi.wrap (a35.2.1-a38.1)),(decide (p2<(zzi.wrap (a35.2.1-a38.1)))))) (j51 ((zzi.wrap (a35.2.1-a38.1)),false))) (fun(x:Empty)=>x.elim)) fun j36=>bf (decide ((zzi.wrap (shrOp .u64 (zzu.wrap (zzi.wrap (p1+p3))) 1))<p2)) (j36 ((zzi.wrap (shrOp .u64 (zzu.wrap (zzi.wrap (p1+p3))) 1)),(zzi.wrap ((zzi.wrap (shrOp .u64 (zzu.wrap (zzi.wrap (p1+p3))) 1))+p2)),(zzi.wrap ((zzi.wrap ((zzi.wrap (shrOp .u64 (zzu.wrap (zzi.wrap (p1+p3))) 1))+p2))-p3)),(zzi.wrap (shrOp .u64 (zzu.wrap (zzi.wrap (p1+p3))) 1)))) (j36 ((zzi.wrap (shrOp .u64 (zzu.wrap (zzi.wrap (p1+p3))) 1)),(zzi.wrap ((zzi.wrap (shrOp .u64 (zzu.wrap (zzi.wrap (p1+p3))) 1))+p2)),p1,p2))))
def z19 (fuel:Nat)(p1:Int)(l0:List Update):Option (List Update):=
 outK (loopN (S:=Int×Int×(List Update)) (R:=Empty) (fun(a1:Int×Int×(List Update))=>bf (decide (a1.2.1≤p1)) ((z12 fuel a1.1 a1.2.1 a1.2.2).bind fun r15=>need (r15.length=a1.2.2.length)<|some (.next (a1.2.1,(zzi.wrap (a1.2.1+20)),r15))) (some (.brk (a1.1,a1.2.1,a1.2.2)))) fuel (0,20,l0)) (fun(a2:Int×Int×(List Update))=>(z12 fuel a2.1 p1 a2.2.2).bind fun r3=>need (r3.length=a2.2.2.length)<|outK (loopN (S:=Int×(List Update)) (R:=Empty) (fun(a5:Int×(List Update))=>bf (decide (a5.1<p1)) (outK (loopN (S:=Int×Int×(List Update)) (R:=Empty) (fun(a7:Int×Int×(List Update))=>bf (decide (a7.2.1≤p1)) ((z0e fuel a7.1 (zzi.wrap (a7.1+a5.1)) a7.2.1 a7.2.2).bind fun r13=>need (r13.length=a7.2.2.length)<|some (.next (a7.2.1,(zzi.wrap (a7.2.1+(zzi.wrap ((2:Int)*a5.1)))),r13))) (some (.brk (a7.1,a7.2.1,a7.2.2)))) fuel (0,(zzi.wrap ((2:Int)*a5.1)),a5.2)) (fun(a8:Int×Int×(List Update))=>jn (fun(a9:List Update)=>some (.next ((zzi.wrap (a5.1*2)),a9))) fun j10=>bf (decide ((zzi.wrap (a8.1+a5.1))<p1)) ((z0e fuel a8.1 (zzi.wrap (a8.1+a5.1)) p1 a8.2.2).bind fun r11=>need (r11.length=a8.2.2.length)<|j10 r11) (j10 a8.2.2)) (fun(x:Empty)=>x.elim)) (some (.brk (a5.1,a5.2)))) fuel (20,r3)) (fun(a6:Int×(List Update))=>some a6.2) (fun(x:Empty)=>x.elim)) (fun(x:Empty)=>x.elim)
def z0f (fuel:Nat)(l0:List Update):Option (List Update):=
 (z19 fuel (l0.length:Int) l0).bind fun r1=>some r1
def z3v (p0:Update)(p1:List Value):Option Int:=
 (z3q p0.key p1).bind fun r1=>some r1
def z0c (fuel:Nat)(p0:List Update)(p1:List Value):Option (Int×Bool):=
 outK (loopN (S:=Int×Int) (R:=Empty) (fun(a1:Int×Int)=>bf (decide (a1.1<a1.2)) (need ((0:Int)≤(zzi.wrap (shrOp .u64 (zzu.wrap (zzi.wrap (a1.1+a1.2))) 1))∧(zzi.wrap (shrOp .u64 (zzu.wrap (zzi.wrap (a1.1+a1.2))) 1))<(p0.length:Int))<|(z3v (p0.getD ((zzi.wrap (shrOp .u64 (zzu.wrap (zzi.wrap (a1.1+a1.2))) 1)).toNat) zzd) p1).bind fun r8=>bf (decide (r8<0)) (some (.next ((zzi.wrap ((zzi.wrap (shrOp .u64 (zzu.wrap (zzi.wrap (a1.1+a1.2))) 1))+1)),a1.2))) (some (.next (a1.1,(zzi.wrap (shrOp .u64 (zzu.wrap (zzi.wrap (a1.1+a1.2))) 1)))))) (some (.brk (a1.1,a1.2)))) fuel (0,(p0.length:Int))) (fun(a2:Int×Int)=>jn (fun(a3:Bool)=>some (a2.1,a3)) fun j4=>bf (decide (a2.1<(p0.length:Int))) (need ((0:Int)≤a2.1∧a2.1<(p0.length:Int))<|(z3v (p0.getD a2.1.toNat zzd) p1).bind fun r6=>j4 (decide (r6=0))) (j4 false)) (fun(x:Empty)=>x.elim)
def z6f (p0:Int)(p1:Int):Option Int:=
 some (if p0<p1 then p1 else p0)
def z3h (p1:List Time):Option Time:=
 outK (z0l (S:=Time) (R:=Empty) (fun i1 (a2:Time)=>jn (fun(a4:Time)=>(z6f a4.epoch ((p1.getD i1 zzd).epoch)).bind fun r6=>outK (z0l (S:=Time) (R:=Empty) (fun i7 (a8:Time)=>(match i7 with|0=>(z6f a8.loop.1 ((p1.getD i1 zzd).loop.1)).bind fun r10=>some (.next (⟨a8.epoch,(r10,a8.loop.2)⟩:Time))|_=>(z6f a8.loop.2 ((p1.getD i1 zzd).loop.2)).bind fun r11=>some (.next (⟨a8.epoch,(a8.loop.1,r11)⟩:Time)))) 2 0 (⟨r6,a4.loop⟩:Time)) (fun(a9:Time)=>some (.next a9)) (fun(x:Empty)=>x.elim)) fun j5=>bf (decide (((i1:Nat):Int)=0)) (j5 (p1.getD i1 zzd)) (j5 a2)) p1.length 0 (⟨0,(0,0)⟩:Time)) (fun(a3:Time)=>some a3) (fun(x:Empty)=>x.elim)
def z62 (p0:List Time):Option Time:=
 (z3h p0).bind fun r1=>some r1
def z1g (p1:Int):Option (List Value):=
 bf (decide (p1<0)) (none) (jn (fun(a1:List Value)=>some a1) fun j2=>bf (decide (0<(zzi.wrap (p1-(zzi.wrap ((0:Int)-0)))))) (need ((0:Int)<(zzi.wrap (p1-(zzi.wrap ((0:Int)-0))))∧(zzi.wrap (p1-(zzi.wrap ((0:Int)-0))))≤(lim:Int))<|need ((0:Int)≤0∧(0:Int)≤0∧(0:Int)≤((zz9 ((zzi.wrap (p1-(zzi.wrap ((0:Int)-0)))).toNat) ((⟨false,0,(bs [])⟩:Value):Value)).length:Int))<|j2 ((zz9 ((zzi.wrap (p1-(zzi.wrap ((0:Int)-0)))).toNat) ((⟨false,0,(bs [])⟩:Value):Value)).take 0)) (j2 ([]:List Value)))
def z1c (p0:List (List Value)):Option (List Value):=
 outK (z0l (S:=Int) (R:=Empty) (fun i1 (a2:Int)=>bf (decide ((zzi.wrap (a2+((p0.getD i1 zzd).length:Int)))<0)) (none) (some (.next (zzi.wrap (a2+((p0.getD i1 zzd).length:Int)))))) p0.length 0 0) (fun(a3:Int)=>(z1g a3).bind fun r4=>outK (z0l (S:=List Value) (R:=Empty) (fun i5 (a6:List Value)=>need (a6.length+(p0.getD i5 zzd).length≤274877906944)<|some (.next (a6++(p0.getD i5 zzd)))) p0.length 0 r4) (fun(a7:List Value)=>some a7) (fun(x:Empty)=>x.elim)) (fun(x:Empty)=>x.elim)
def z8v (p0:List (List Value)):Option ((List Value)×Int):=
 outK (z0l (S:=Unit) (R:=(List Value)×Int) (fun i1 (a2:Unit)=>(z7n (p0.getD i1 zzd)).bind fun r5=>bf (!decide (r5=0)) (some (.ret (([]:List Value),r5))) (some (.next ()))) p0.length 0 ()) (fun(a3:Unit)=>(z1c p0).bind fun r4=>bf (decide (8<(r4.length:Int))) (some (([]:List Value),2)) (some (r4,0))) (fun x=>some x)
def z9h (p0:Int):Option Int:=
 bf (decide (p0<0)) (some (zzu.wrap (0-(zzu.wrap p0)))) (some (zzu.wrap p0))
def z7c (p0:Int)(p1:Int):Option (Int×Int):=
 some ((zzu.wrap ((zzu.wrap ((zzu.wrap ((shrOp .u64 p0 32)*(shrOp .u64 p1 32)))+(shrOp .u64 (zzu.wrap ((zzu.wrap ((shrOp .u64 p0 32)*(z5w .and .u64 p1 4294967295)))+(shrOp .u64 (zzu.wrap ((z5w .and .u64 p0 4294967295)*(z5w .and .u64 p1 4294967295))) 32))) 32)))+(shrOp .u64 (zzu.wrap ((z5w .and .u64 (zzu.wrap ((zzu.wrap ((shrOp .u64 p0 32)*(z5w .and .u64 p1 4294967295)))+(shrOp .u64 (zzu.wrap ((z5w .and .u64 p0 4294967295)*(z5w .and .u64 p1 4294967295))) 32))) 4294967295)+(zzu.wrap ((z5w .and .u64 p0 4294967295)*(shrOp .u64 p1 32))))) 32))),(zzu.wrap (p0*p1)))
def z81 (p0:Int)(p1:Int):Option (Int×Int):=
 (z9h p0).bind fun r1=>(z9h p1).bind fun r2=>(z7c r1 r2).bind fun r3=>jn (fun(a4:Int)=>jn (fun(a6:Bool)=>bf a6 (some (0,10)) (some ((zzi.wrap (p0*p1)),0))) fun j7=>bf (!decide (r3.1=0)) (j7 true) (j7 (decide (a4<r3.2)))) fun j5=>bf ((decide (p0<0))==(decide (p1<0))) (j5 (zzu.wrap ((9223372036854775808:Int)-1))) (j5 9223372036854775808)
def z3l (p1:Time)(l0:Fault):Option Fault:=
 jn (fun(a1:Bool)=>bf a1 (some (⟨true,p1⟩:Fault)) (some l0)) fun j2=>bf (!l0.is) (j2 true) ((z58 p1 l0.at_).bind fun r4=>j2 (decide (r4<0)))
def z4z (p1:List Update)(l0:JoinMaker):Option JoinMaker:=
 need (l0.maker.list.length+p1.length≤274877906944)<|some (⟨(⟨l0.maker.fault,(l0.maker.list++p1)⟩:Maker)⟩:JoinMaker)
def z3b (p1:Update)(p2:Update)(l0:JoinMaker):Option JoinMaker:=
 (z62 ([p1.time,p2.time]:List Time)).bind fun r1=>(z8v ([p1.row,p2.row]:List (List Value))).bind fun r2=>(z81 p1.diff p2.diff).bind fun r3=>(z37 ([r2.2,r3.2]:List Int)).bind fun r4=>bf (!decide (r4=0)) ((z3l r1 l0.maker.fault).bind fun r5=>some (⟨(⟨r5,l0.maker.list⟩:Maker)⟩:JoinMaker)) ((z4z ([(⟨([]:List Value),r2.1,r1,r3.1⟩:Update)]:List Update) l0).bind fun r6=>some r6)
def z1o (fuel:Nat)(p1:List Update)(p2:List Update)(l0:JoinMaker):Option JoinMaker:=
 (z0x p2).bind fun r1=>(z0f fuel r1).bind fun r2=>need (r2.length=r1.length)<|outK (z0l (S:=JoinMaker) (R:=Empty) (fun i4 (a5:JoinMaker)=>(z0c fuel r2 ((p1.getD i4 zzd).key)).bind fun r7=>need ((0:Int)≤r7.1∧r7.1≤(r2.length:Int)∧(r2.length:Int)≤(r2.length:Int))<|outK (loopN (S:=Int×JoinMaker) (R:=Int×JoinMaker) (fun(a9:Int×JoinMaker)=>bf (decide (a9.1<(((r2.length:Int).toNat-r7.1.toNat:Nat):Int))) (need ((0:Int)≤a9.1∧a9.1<(((r2.length:Int).toNat-r7.1.toNat:Nat):Int))<|need (((0+r7.1.toNat)+a9.1.toNat)<r2.length)<|(z3q ((p1.getD i4 zzd).key) ((r2.getD ((0+r7.1.toNat)+a9.1.toNat) zzd).key)).bind fun r14=>bf (!decide (r14=0)) (some (.ret (a9.1,a9.2))) ((z3b (p1.getD i4 zzd) (r2.getD ((0+r7.1.toNat)+a9.1.toNat) zzd) a9.2).bind fun r15=>some (.next ((zzi.wrap (a9.1+1)),r15)))) (some (.brk (a9.1,a9.2)))) fuel (0,a5)) (fun(a11:Int×JoinMaker)=>some (.next a11.2)) (fun(x10:Int×JoinMaker)=>some (.next x10.2))) p1.length 0 l0) (fun(a6:JoinMaker)=>some a6) (fun(x:Empty)=>x.elim)
def z2d (p1:Int):Option (List Update):=
 bf (decide (p1<0)) (none) (jn (fun(a1:List Update)=>some a1) fun j2=>bf (decide (0<(zzi.wrap (p1-(zzi.wrap ((0:Int)-0)))))) (need ((0:Int)<(zzi.wrap (p1-(zzi.wrap ((0:Int)-0))))∧(zzi.wrap (p1-(zzi.wrap ((0:Int)-0))))≤(lim:Int))<|need ((0:Int)≤0∧(0:Int)≤0∧(0:Int)≤((zz9 ((zzi.wrap (p1-(zzi.wrap ((0:Int)-0)))).toNat) ((⟨([]:List Value),([]:List Value),(⟨0,(0,0)⟩:Time),0⟩:Update):Update)).length:Int))<|j2 ((zz9 ((zzi.wrap (p1-(zzi.wrap ((0:Int)-0)))).toNat) ((⟨([]:List Value),([]:List Value),(⟨0,(0,0)⟩:Time),0⟩:Update):Update)).take 0)) (j2 ([]:List Update)))
def z0m (p0:List (List Update)):Option (List Update):=
 outK (z0l (S:=Int) (R:=Empty) (fun i1 (a2:Int)=>bf (decide ((zzi.wrap (a2+((p0.getD i1 zzd).length:Int)))<0)) (none) (some (.next (zzi.wrap (a2+((p0.getD i1 zzd).length:Int)))))) p0.length 0 0) (fun(a3:Int)=>(z2d a3).bind fun r4=>outK (z0l (S:=List Update) (R:=Empty) (fun i5 (a6:List Update)=>need (a6.length+(p0.getD i5 zzd).length≤274877906944)<|some (.next (a6++(p0.getD i5 zzd)))) p0.length 0 r4) (fun(a7:List Update)=>some a7) (fun(x:Empty)=>x.elim)) (fun(x:Empty)=>x.elim)
def z2y (p0:Update)(p1:Update):Option Int:=
 (z3q p0.key p1.key).bind fun r1=>(z3q p0.row p1.row).bind fun r2=>(z58 p0.time p1.time).bind fun r3=>(z77 ([r1,r2,r3]:List Int)).bind fun r4=>some r4
def z1j (fuel:Nat)(p1:Int)(p2:Int)(l0:List Update):Option (List Update):=
 outK (loopN (S:=Int×(List Update)) (R:=Empty) (fun(a1:Int×(List Update))=>bf (decide (a1.1<p2)) (outK (loopN (S:=Int×(List Update)) (R:=Empty) (fun(a3:Int×(List Update))=>jn (fun(a5:Bool)=>bf a5 (need ((0:Int)≤(zzi.wrap (a3.1-1))∧(zzi.wrap (a3.1-1))<(a3.2.length:Int))<|need ((0+(zzi.wrap (a3.1-1)).toNat)<a3.2.length)<|need ((0:Int)≤a3.1∧a3.1<(a3.2.length:Int))<|need ((0+a3.1.toNat)<a3.2.length)<|need ((0:Int)≤a3.1∧a3.1<(a3.2.length:Int))<|need ((0+a3.1.toNat)<a3.2.length)<|need ((0:Int)≤(zzi.wrap (a3.1-1))∧(zzi.wrap (a3.1-1))<(a3.2.length:Int))<|need ((0+(zzi.wrap (a3.1-1)).toNat)<(a3.2.set (0+a3.1.toNat) (a3.2.getD (0+(zzi.wrap (a3.1-1)).toNat) zzd)).length)<|some (.next ((zzi.wrap (a3.1-1)),((a3.2.set (0+a3.1.toNat) (a3.2.getD (0+(zzi.wrap (a3.1-1)).toNat) zzd)).set (0+(zzi.wrap (a3.1-1)).toNat) (a3.2.getD (0+a3.1.toNat) zzd))))) (some (.brk (a3.1,a3.2)))) fun j6=>bf (decide (p1<a3.1)) (need ((0:Int)≤a3.1∧a3.1<(a3.2.length:Int))<|need ((0+a3.1.toNat)<a3.2.length)<|need ((0:Int)≤(zzi.wrap (a3.1-1))∧(zzi.wrap (a3.1-1))<(a3.2.length:Int))<|need ((0+(zzi.wrap (a3.1-1)).toNat)<a3.2.length)<|(z2y (a3.2.getD (0+a3.1.toNat) zzd) (a3.2.getD (0+(zzi.wrap (a3.1-1)).toNat) zzd)).bind fun r20=>j6 (decide (r20<0))) (j6 false)) fuel (a1.1,a1.2)) (fun(a4:Int×(List Update))=>some (.next ((zzi.wrap (a1.1+1)),a4.2))) (fun(x:Empty)=>x.elim)) (some (.brk (a1.1,a1.2)))) fuel ((zzi.wrap (p1+1)),l0)) (fun(a2:Int×(List Update))=>some a2.2) (fun(x:Empty)=>x.elim)
def z1t (fuel:Nat)(p1:Int)(p2:Int)(p3:Int)(l0:List Update):Option (List Update):=
 outK (loopN (S:=Int×(List Update)) (R:=Empty) (fun(a1:Int×(List Update))=>bf (decide (a1.1<p3)) (need ((0:Int)≤(zzi.wrap (p2+a1.1))∧(zzi.wrap (p2+a1.1))<(a1.2.length:Int))<|need ((0+(zzi.wrap (p2+a1.1)).toNat)<a1.2.length)<|need ((0:Int)≤(zzi.wrap (p1+a1.1))∧(zzi.wrap (p1+a1.1))<(a1.2.length:Int))<|need ((0+(zzi.wrap (p1+a1.1)).toNat)<a1.2.length)<|need ((0:Int)≤(zzi.wrap (p1+a1.1))∧(zzi.wrap (p1+a1.1))<(a1.2.length:Int))<|need ((0+(zzi.wrap (p1+a1.1)).toNat)<a1.2.length)<|need ((0:Int)≤(zzi.wrap (p2+a1.1))∧(zzi.wrap (p2+a1.1))<(a1.2.length:Int))<|need ((0+(zzi.wrap (p2+a1.1)).toNat)<(a1.2.set (0+(zzi.wrap (p1+a1.1)).toNat) (a1.2.getD (0+(zzi.wrap (p2+a1.1)).toNat) zzd)).length)<|some (.next ((zzi.wrap (a1.1+1)),((a1.2.set (0+(zzi.wrap (p1+a1.1)).toNat) (a1.2.getD (0+(zzi.wrap (p2+a1.1)).toNat) zzd)).set (0+(zzi.wrap (p2+a1.1)).toNat) (a1.2.getD (0+(zzi.wrap (p1+a1.1)).toNat) zzd))))) (some (.brk (a1.1,a1.2)))) fuel (0,l0)) (fun(a2:Int×(List Update))=>some a2.2) (fun(x:Empty)=>x.elim)
def z2f (fuel:Nat)(p1:Int)(p2:Int)(p3:Int)(l0:List Update):Option (List Update):=
 outK (loopN (S:=Int×Int×(List Update)) (R:=Empty) (fun(a1:Int×Int×(List Update))=>bf (!decide (a1.1=a1.2.1)) (bf (decide (a1.2.1<a1.1)) ((z1t fuel (zzi.wrap (p2-a1.1)) p2 a1.2.1 a1.2.2).bind fun r4=>need (r4.length=a1.2.2.length)<|some (.next ((zzi.wrap (a1.1-a1.2.1)),a1.2.1,r4))) ((z1t fuel (zzi.wrap (p2-a1.1)) (zzi.wrap ((zzi.wrap (p2+a1.2.1))-a1.1)) a1.1 a1.2.2).bind fun r6=>need (r6.length=a1.2.2.length)<|some (.next (a1.1,(zzi.wrap (a1.2.1-a1.1)),r6)))) (some (.brk (a1.1,a1.2.1,a1.2.2)))) fuel ((zzi.wrap (p2-p1)),(zzi.wrap (p3-p2)),l0)) (fun(a2:Int×Int×(List Update))=>(z1t fuel (zzi.wrap (p2-a2.1)) p2 a2.1 a2.2.2).bind fun r3=>some r3) (fun(x:Empty)=>x.elim)
def z0q:Nat→Int→Int→Int→(List Update)→Option (List Update)
 |0,_,_,_,_=>none
 |fuel+1,p1,p2,p3,l0=>
 bf (decide ((zzi.wrap (p2-p1))=1)) (outK (loopN (S:=Int×Int) (R:=Empty) (fun(a1:Int×Int)=>bf (decide (a1.1<a1.2)) (need ((0:Int)≤(zzi.wrap (shrOp .u64 (zzu.wrap (zzi.wrap (a1.1+a1.2))) 1))∧(zzi.wrap (shrOp .u64 (zzu.wrap (zzi.wrap (a1.1+a1.2))) 1))<(l0.length:Int))<|need ((0+(zzi.wrap (shrOp .u64 (zzu.wrap (zzi.wrap (a1.1+a1.2))) 1)).toNat)<l0.length)<|need ((0:Int)≤p1∧p1<(l0.length:Int))<|need ((0+p1.toNat)<l0.length)<|(z2y (l0.getD (0+(zzi.wrap (shrOp .u64 (zzu.wrap (zzi.wrap (a1.1+a1.2))) 1)).toNat) zzd) (l0.getD (0+p1.toNat) zzd)).bind fun r17=>bf (decide (r17<0)) (some (.next ((zzi.wrap ((zzi.wrap (shrOp .u64 (zzu.wrap (zzi.wrap (a1.1+a1.2))) 1))+1)),a1.2))) (some (.next (a1.1,(zzi.wrap (shrOp .u64 (zzu.wrap (zzi.wrap (a1.1+a1.2))) 1)))))) (some (.brk (a1.1,a1.2)))) fuel (p2,p3)) (fun(a2:Int×Int)=>outK (loopN (S:=Int×(List Update)) (R:=Empty) (fun(a3:Int×(List Update))=>bf (decide (a3.1<(zzi.wrap (a2.1-1)))) (need ((0:Int)≤(zzi.wrap (a3.1+1))∧(zzi.wrap (a3.1+1))<(a3.2.length:Int))<|need ((0+(zzi.wrap (a3.1+1)).toNat)<a3.2.length)<|need ((0:Int)≤a3.1∧a3.1<(a3.2.length:Int))<|need ((0+a3.1.toNat)<a3.2.length)<|need ((0:Int)≤a3.1∧a3.1<(a3.2.length:Int))<|need ((0+a3.1.toNat)<a3.2.length)<|need ((0:Int)≤(zzi.wrap (a3.1+1))∧(zzi.wrap (a3.1+1))<(a3.2.length:Int))<|need ((0+(zzi.wrap (a3.1+1)).toNat)<(a3.2.set (0+a3.1.toNat) (a3.2.getD (0+(zzi.wrap (a3.1+1)).toNat) zzd)).length)<|some (.next ((zzi.wrap (a3.1+1)),((a3.2.set (0+a3.1.toNat) (a3.2.getD (0+(zzi.wrap (a3.1+1)).toNat) zzd)).set (0+(zzi.wrap (a3.1+1)).toNat) (a3.2.getD (0+a3.1.toNat) zzd))))) (some (.brk (a3.1,a3.2)))) fuel (p1,l0)) (fun(a4:Int×(List Update))=>some a4.2) (fun(x:Empty)=>x.elim)) (fun(x:Empty)=>x.elim)) (bf (decide ((zzi.wrap (p3-p2))=1)) (outK (loopN (S:=Int×Int) (R:=Empty) (fun(a18:Int×Int)=>bf (decide (a18.1<a18.2)) (need ((0:Int)≤p2∧p2<(l0.length:Int))<|need ((0+p2.toNat)<l0.length)<|need ((0:Int)≤(zzi.wrap (shrOp .u64 (zzu.wrap (zzi.wrap (a18.1+a18.2))) 1))∧(zzi.wrap (shrOp .u64 (zzu.wrap (zzi.wrap (a18.1+a18.2))) 1))<(l0.length:Int))<|need ((0+(zzi.wrap (shrOp .u64 (zzu.wrap (zzi.wrap (a18.1+a18.2))) 1)).toNat)<l0.length)<|(z2y (l0.getD (0+p2.toNat) zzd) (l0.getD (0+(zzi.wrap (shrOp .u64 (zzu.wrap (zzi.wrap (a18.1+a18.2))) 1)).toNat) zzd)).bind fun r34=>bf (!(decide (r34<0))) (some (.next ((zzi.wrap ((zzi.wrap (shrOp .u64 (zzu.wrap (zzi.wrap (a18.1+a18.2))) 1))+1)),a18.2))) (some (.next (a18.1,(zzi.wrap (shrOp .u64 (zzu.wrap (zzi.wrap (a18.1+a18.2))) 1)))))) (some (.brk (a18.1,a18.2)))) fuel (p1,p2)) (fun(a19:Int×Int)=>outK (loopN (S:=Int×(List Update)) (R:=Empty) (fun(a20:Int×(List Update))=>bf (decide (a19.1<a20.1)) (need ((0:Int)≤(zzi.wrap (a20.1-1))∧(zzi.wrap (a20.1-1))<(a20.2.length:Int))<|need ((0+(zzi.wrap (a20.1-1)).toNat)<a20.2.length)<|need ((0:Int)≤a20.1∧a20.1<(a20.2.length:Int))<|need ((0+a20.1.toNat)<a20.2.length)<|need ((0:Int)≤a20.1∧a20.1<(a20.2.length:Int))<|need ((0+a20.1.toNat)<a20.2.length)<|need ((0:Int)≤(zzi.wrap (a20.1-1))∧(zzi.wrap (a20.1-1))<(a20.2.length:Int))<|need ((0+(zzi.wrap (a20.1-1)).toNat)<(a20.2.set (0+a20.1.toNat) (a20.2.getD (0+(zzi.wrap (a20.1-1)).toNat) zzd)).length)<|some (.next ((zzi.wrap (a20.1-1)),((a20.2.set (0+a20.1.toNat) (a20.2.getD (0+(zzi.wrap (a20.1-1)).toNat) zzd)).set (0+(zzi.wrap (a20.1-1)).toNat) (a20.2.getD (0+a20.1.toNat) zzd))))) (some (.brk (a20.1,a20.2)))) fuel (p2,l0)) (fun(a21:Int×(List Update))=>some a21.2) (fun(x:Empty)=>x.elim)) (fun(x:Empty)=>x.elim)) (jn (fun(a35:Int×Int×Int×Int)=>outK (loopN (S:=Int×Int) (R:=Empty) (fun(a37:Int×Int)=>bf (decide (a37.1<a37.2)) (need ((0:Int)≤(zzi.wrap ((zzi.wrap (a35.2.1-1))-(zzi.wrap (shrOp .u64 (zzu.wrap (zzi.wrap (a37.1+a37.2))) 1))))∧(zzi.wrap ((zzi.wrap (a35.2.1-1))-(zzi.wrap (shrOp .u64 (zzu.wrap (zzi.wrap (a37.1+a37.2))) 1))))<(l0.length:Int))<|need ((0+(zzi.wrap ((zzi.wrap (a35.2.1-1))-(zzi.wrap (shrOp .u64 (zzu.wrap (zzi.wrap (a37.1+a37.2))) 1)))).toNat)<l0.length)<|need ((0:Int)≤(zzi.wrap (shrOp .u64 (zzu.wrap (zzi.wrap (a37.1+a37.2))) 1))∧(zzi.wrap (shrOp .u64 (zzu.wrap (zzi.wrap (a37.1+a37.2))) 1))<(l0.length:Int))<|need ((0+(zzi.wrap (shrOp .u64 (zzu.wrap (zzi.wrap (a37.1+a37.2))) 1)).toNat)<l0.length)<|(z2y (l0.getD (0+(zzi.wrap ((zzi.wrap (a35.2.1-1))-(zzi.wrap (shrOp .u64 (zzu.wrap (zzi.wrap (a37.1+a37.2))) 1)))).toNat) zzd) (l0.getD (0+(zzi.wrap (shrOp .u64 (zzu.wrap (zzi.wrap (a37.1+a37.2))) 1)).toNat) zzd)).bind fun r58=>bf (!(decide (r58<0))) (some (.next ((zzi.wrap ((zzi.wrap (shrOp .u64 (zzu.wrap (zzi.wrap (a37.1+a37.2))) 1))+1)),a37.2))) (some (.next (a37.1,(zzi.wrap (shrOp .u64 (zzu.wrap (zzi.wrap (a37.1+a37.2))) 1)))))) (some (.brk (a37.1,a37.2)))) fuel (a35.2.2.1,a35.2.2.2)) (fun(a38:Int×Int)=>jn (fun(a39:Int×(List Update))=>jn (fun(a41:List Update)=>jn (fun(a43:Bool)=>bf a43 ((z0q fuel a35.1 a39.1 p3 a41).bind fun r45=>some r45) (some a41)) fun j44=>bf (decide (a35.1<a39.1)) (j44 (decide (a39.1<p3))) (j44 false)) fun j42=>jn (fun(a46:Bool)=>bf a46 ((z0q fuel p1 a38.1 a35.1 a39.2).bind fun r48=>need (r48.length=a39.2.length)<|j42 r48) (j42 a39.2)) fun j47=>bf (decide (p1<a38.1)) (j47 (decide (a38.1<a35.1))) (j47 false)) fun j40=>jn (fun(a50:Int×Bool)=>bf a50.2 ((z2f fuel a38.1 p2 a50.1 l0).bind fun r52=>need (r52.length=l0.length)<|j40 (a50.1,r52)) (j40 (a50.1,l0))) fun j51=>bf (decide (a38.1<p2)) (j51 ((zzi.wrap (a35.2.1-a38.1)),(decide (p2<(zzi.wrap (a35.2.1-a38.1)))))) (j51 ((zzi.wrap (a35.2.1-a38.1)),false))) (fun(x:Empty)=>x.elim)) fun j36=>bf (decide ((zzi.wrap (shrOp .u64 (zzu.wrap (zzi.wrap (p1+p3))) 1))<p2)) (j36 ((zzi.wrap (shrOp .u64 (zzu.wrap (zzi.wrap (p1+p3))) 1)),(zzi.wrap ((zzi.wrap (shrOp .u64 (zzu.wrap (zzi.wrap (p1+p3))) 1))+p2)),(zzi.wrap ((zzi.wrap ((zzi.wrap (shrOp .u64 (zzu.wrap (zzi.wrap (p1+p3))) 1))+p2))-p3)),(zzi.wrap (shrOp .u64 (zzu.wrap (zzi.wrap (p1+p3))) 1)))) (j36 ((zzi.wrap (shrOp .u64 (zzu.wrap (zzi.wrap (p1+p3))) 1)),(zzi.wrap ((zzi.wrap (shrOp .u64 (zzu.wrap (zzi.wrap (p1+p3))) 1))+p2)),p1,p2))))
def z1v (fuel:Nat)(p1:Int)(l0:List Update):Option (List Update):=
 outK (loopN (S:=Int×Int×(List Update)) (R:=Empty) (fun(a1:Int×Int×(List Update))=>bf (decide (a1.2.1≤p1)) ((z1j fuel a1.1 a1.2.1 a1.2.2).bind fun r15=>need (r15.length=a1.2.2.length)<|some (.next (a1.2.1,(zzi.wrap (a1.2.1+20)),r15))) (some (.brk (a1.1,a1.2.1,a1.2.2)))) fuel (0,20,l0)) (fun(a2:Int×Int×(List Update))=>(z1j fuel a2.1 p1 a2.2.2).bind fun r3=>need (r3.length=a2.2.2.length)<|outK (loopN (S:=Int×(List Update)) (R:=Empty) (fun(a5:Int×(List Update))=>bf (decide (a5.1<p1)) (outK (loopN (S:=Int×Int×(List Update)) (R:=Empty) (fun(a7:Int×Int×(List Update))=>bf (decide (a7.2.1≤p1)) ((z0q fuel a7.1 (zzi.wrap (a7.1+a5.1)) a7.2.1 a7.2.2).bind fun r13=>need (r13.length=a7.2.2.length)<|some (.next (a7.2.1,(zzi.wrap (a7.2.1+(zzi.wrap ((2:Int)*a5.1)))),r13))) (some (.brk (a7.1,a7.2.1,a7.2.2)))) fuel (0,(zzi.wrap ((2:Int)*a5.1)),a5.2)) (fun(a8:Int×Int×(List Update))=>jn (fun(a9:List Update)=>some (.next ((zzi.wrap (a5.1*2)),a9))) fun j10=>bf (decide ((zzi.wrap (a8.1+a5.1))<p1)) ((z0q fuel a8.1 (zzi.wrap (a8.1+a5.1)) p1 a8.2.2).bind fun r11=>need (r11.length=a8.2.2.length)<|j10 r11) (j10 a8.2.2)) (fun(x:Empty)=>x.elim)) (some (.brk (a5.1,a5.2)))) fuel (20,r3)) (fun(a6:Int×(List Update))=>some a6.2) (fun(x:Empty)=>x.elim)) (fun(x:Empty)=>x.elim)
def z0d (fuel:Nat)(l0:List Update):Option (List Update):=
 (z1v fuel (l0.length:Int) l0).bind fun r1=>some r1
def z79 (p0:Update):Option Int:=
 some p0.diff
def z4g (p0:Nat)(p1:Int)(l0:List Line_Update):Option (List Line_Update):=
 need (p0<l0.length)<|(z72 ((l0.getD p0 zzd).tally.low) (zzu.wrap p1) 0).bind fun r2=>need (p0<l0.length)<|need (p0<(l0.set p0 (⟨(⟨(l0.getD p0 zzd).tally.high,r2.1⟩:Tally),(l0.getD p0 zzd).of⟩:Line_Update)).length)<|(z72 (((l0.set p0 (⟨(⟨(l0.getD p0 zzd).tally.high,r2.1⟩:Tally),(l0.getD p0 zzd).of⟩:Line_Update)).getD p0 zzd).tally.high) (zzu.wrap (shrOp .i64 p1 63)) r2.2).bind fun r5=>need (p0<(l0.set p0 (⟨(⟨(l0.getD p0 zzd).tally.high,r2.1⟩:Tally),(l0.getD p0 zzd).of⟩:Line_Update)).length)<|some ((l0.set p0 (⟨(⟨(l0.getD p0 zzd).tally.high,r2.1⟩:Tally),(l0.getD p0 zzd).of⟩:Line_Update)).set p0 (⟨(⟨r5.1,((l0.set p0 (⟨(⟨(l0.getD p0 zzd).tally.high,r2.1⟩:Tally),(l0.getD p0 zzd).of⟩:Line_Update)).getD p0 zzd).tally.low⟩:Tally),((l0.set p0 (⟨(⟨(l0.getD p0 zzd).tally.high,r2.1⟩:Tally),(l0.getD p0 zzd).of⟩:Line_Update)).getD p0 zzd).of⟩:Line_Update))
def z4h (l0:Line_Update):Option (Int×Int×Line_Update):=
 bf (!decide (l0.tally.high=(zzu.wrap (shrOp .i64 (zzi.wrap l0.tally.low) 63)))) (some (0,10,l0)) (some ((zzi.wrap l0.tally.low),0,l0))
def z7a (p0:Update)(p1:Int):Option Update:=
 some (⟨p0.key,p0.row,p0.time,p1⟩:Update)
def z0s (fuel:Nat)(l0:List Update):Option ((List Update)×Int×(List Update)):=
 (z0d fuel l0).bind fun r1=>need (r1.length=l0.length)<|outK (z0l (S:=List Line_Update) (R:=Empty) (fun i3 (a4:List Line_Update)=>need ((0+i3)<r1.length)<|jn (fun(a14:List Line_Update)=>need ((0:Int)≤(zzi.wrap ((a14.length:Int)-1))∧(zzi.wrap ((a14.length:Int)-1))<(a14.length:Int))<|(z79 (r1.getD (0+i3) zzd)).bind fun r17=>(z4g (0+(zzi.wrap ((a14.length:Int)-1)).toNat) r17 a14).bind fun r18=>need (r18.length=a14.length)<|some (.next r18)) fun j15=>jn (fun(a20:Bool)=>bf a20 (need (a4.length+([(⟨(⟨0,0⟩:Tally),(r1.getD (0+i3) zzd)⟩:Line_Update)]:List Line_Update).length≤274877906944)<|j15 (a4++([(⟨(⟨0,0⟩:Tally),(r1.getD (0+i3) zzd)⟩:Line_Update)]:List Line_Update))) (j15 a4)) fun j21=>bf (decide ((a4.length:Int)=0)) (j21 true) (need ((0:Int)≤(zzi.wrap ((a4.length:Int)-1))∧(zzi.wrap ((a4.length:Int)-1))<(a4.length:Int))<|need ((0+(zzi.wrap ((a4.length:Int)-1)).toNat)<a4.length)<|(z2y ((a4.getD (0+(zzi.wrap ((a4.length:Int)-1)).toNat) zzd).of) (r1.getD (0+i3) zzd)).bind fun r26=>j21 (!decide (r26=0)))) r1.length 0 ([]:List Line_Update)) (fun(a5:List Line_Update)=>outK (z0l (S:=List Update) (R:=(List Update)×Int×(List Update)) (fun i6 (a7:List Update)=>need ((0+i6)<a5.length)<|(z4h (a5.getD (0+i6) zzd)).bind fun r10=>bf (!decide (r10.2.1=0)) (some (.ret (([]:List Update),r10.2.1,r1))) (bf (!decide (r10.1=0)) ((z7a r10.2.2.of r10.1).bind fun r11=>need (a7.length+([r11]:List Update).length≤274877906944)<|some (.next (a7++([r11]:List Update)))) (some (.next a7)))) a5.length 0 ([]:List Update)) (fun(a8:List Update)=>some (a8,0,r1)) (fun x=>some x)) (fun(x:Empty)=>x.elim)
def z0p (p0:List Value):Option (List Value):=
 need (p0.length≤274877906944)<|some p0
def z80 (p0:List Update):Option (List Update):=
 need ((0:Int)≤(p0.length:Int)∧(p0.length:Int)≤(p0.length:Int)∧(p0.length:Int)≤(lim:Int))<|need (p0.length≤(zz9 p0.length ((⟨([]:List Value),([]:List Value),(⟨0,(0,0)⟩:Time),0⟩:Update):Update)).length)<|outK (z0l (S:=List Update) (R:=Empty) (fun i3 (a4:List Update)=>need ((0:Int)≤((i3:Nat):Int)∧((i3:Nat):Int)<(a4.length:Int))<|need ((0+i3)<a4.length)<|(z0p ((a4.getD (0+i3) zzd).key)).bind fun r8=>need ((0:Int)≤((i3:Nat):Int)∧((i3:Nat):Int)<(a4.length:Int))<|need ((0+i3)<a4.length)<|(z0p ((a4.getD (0+i3) zzd).row)).bind fun r11=>need ((0:Int)≤((i3:Nat):Int)∧((i3:Nat):Int)<(a4.length:Int))<|need ((0+i3)<a4.length)<|need ((0:Int)≤((i3:Nat):Int)∧((i3:Nat):Int)<(a4.length:Int))<|need ((0+i3)<(a4.set (0+i3) (⟨r8,(a4.getD (0+i3) zzd).row,(a4.getD (0+i3) zzd).time,(a4.getD (0+i3) zzd).diff⟩:Update)).length)<|some (.next ((a4.set (0+i3) (⟨r8,(a4.getD (0+i3) zzd).row,(a4.getD (0+i3) zzd).time,(a4.getD (0+i3) zzd).diff⟩:Update)).set (0+i3) (⟨((a4.set (0+i3) (⟨r8,(a4.getD (0+i3) zzd).row,(a4.getD (0+i3) zzd).time,(a4.getD (0+i3) zzd).diff⟩:Update)).getD (0+i3) zzd).key,r11,((a4.set (0+i3) (⟨r8,(a4.getD (0+i3) zzd).row,(a4.getD (0+i3) zzd).time,(a4.getD (0+i3) zzd).diff⟩:Update)).getD (0+i3) zzd).time,((a4.set (0+i3) (⟨r8,(a4.getD (0+i3) zzd).row,(a4.getD (0+i3) zzd).time,(a4.getD (0+i3) zzd).diff⟩:Update)).getD (0+i3) zzd).diff⟩:Update)))) ((copyL (zz9 p0.length ((⟨([]:List Value),([]:List Value),(⟨0,(0,0)⟩:Time),0⟩:Update):Update)) p0).length) 0 (copyL (zz9 p0.length ((⟨([]:List Value),([]:List Value),(⟨0,(0,0)⟩:Time),0⟩:Update):Update)) p0)) (fun(a5:List Update)=>some a5) (fun(x:Empty)=>x.elim)
def z3o (fuel:Nat)(p0:List (List Update)):Option ((List Update)×Int):=
 outK (z0l (S:=Unit) (R:=(List Update)×Int) (fun i1 (a2:Unit)=>(z4n fuel (p0.getD i1 zzd)).bind fun r7=>bf (!decide (r7=0)) (some (.ret (([]:List Update),r7))) (some (.next ()))) p0.length 0 ()) (fun(a3:Unit)=>(z0m p0).bind fun r4=>(z0s fuel r4).bind fun r5=>(z80 r5.1).bind fun r6=>some (r6,r5.2.1)) (fun x=>some x)
def z3g (p1:Time)(l0:JoinMaker):Option JoinMaker:=
 jn (fun(a1:Bool)=>bf a1 (some (⟨(⟨(⟨true,p1⟩:Fault),l0.maker.list⟩:Maker)⟩:JoinMaker)) (some l0)) fun j2=>bf (!l0.maker.fault.is) (j2 true) ((z58 p1 l0.maker.fault.at_).bind fun r4=>j2 (decide (r4<0)))
def z3d (fuel:Nat)(l0:JoinMaker):Option ((List Update)×JoinMaker):=
 (z0x l0.maker.list).bind fun r1=>(z0d fuel r1).bind fun r2=>need (r2.length=r1.length)<|outK (loopN (S:=(List Update)×(List Update)×JoinMaker) (R:=Empty) (fun(a4:(List Update)×(List Update)×JoinMaker)=>bf (decide (0<(a4.1.length:Int))) (outK (loopN (S:=Int) (R:=Empty) (fun(a6:Int)=>jn (fun(a16:Bool)=>bf a16 (some (.next (zzi.wrap (a6+1)))) (some (.brk a6))) fun j17=>bf (decide (a6<(a4.1.length:Int))) (need ((0:Int)≤0∧0<(a4.1.length:Int))<|need ((0:Int)≤a6∧a6<(a4.1.length:Int))<|(z2y (a4.1.getD 0 zzd) (a4.1.getD a6.toNat zzd)).bind fun r21=>j17 (decide (r21=0))) (j17 false)) fuel 1) (fun(a7:Int)=>need ((0:Int)≤0∧(0:Int)≤a7∧a7≤(a4.1.length:Int))<|(z3o fuel ([(sub a4.1 0 a7)]:List (List Update))).bind fun r9=>jn (fun(a10:JoinMaker)=>need (a4.2.1.length+r9.1.length≤274877906944)<|need ((0:Int)≤a7∧a7≤(a4.1.length:Int)∧(a4.1.length:Int)≤(a4.1.length:Int))<|some (.next ((sub a4.1 a7 (a4.1.length:Int)),(a4.2.1++r9.1),a10))) fun j11=>bf (!decide (r9.2=0)) (need ((0:Int)≤0∧0<(a4.1.length:Int))<|(z3g ((a4.1.getD 0 zzd).time) a4.2.2).bind fun r15=>j11 r15) (j11 a4.2.2)) (fun(x:Empty)=>x.elim)) (some (.brk (a4.1,a4.2.1,a4.2.2)))) fuel (r2,([]:List Update),l0)) (fun(a5:(List Update)×(List Update)×JoinMaker)=>some (a5.2.1,a5.2.2)) (fun(x:Empty)=>x.elim)
def z1y (fuel:Nat)(l0:JoinMaker):Option ((List Update)×Time×Int×JoinMaker):=
 (z3o fuel ([l0.maker.list]:List (List Update))).bind fun r1=>jn (fun(a2:(List Update)×JoinMaker)=>bf (!a2.2.maker.fault.is) (some (a2.1,(⟨0,(0,0)⟩:Time),0,a2.2)) (some (a2.1,a2.2.maker.fault.at_,10,a2.2))) fun j3=>bf (!decide (r1.2=0)) ((z3d fuel l0).bind fun r4=>j3 (r4.1,r4.2)) (j3 (r1.1,l0))
def z8r (fuel:Nat)(p0:List Update)(p1:List Update):Option ((List Update)×Time×Int):=
 (z4n fuel p0).bind fun r1=>(z4n fuel p1).bind fun r2=>(z37 ([r1,r2]:List Int)).bind fun r3=>bf (!decide (r3=0)) (some (([]:List Update),(⟨0,(0,0)⟩:Time),r3)) ((z1o fuel p0 p1 (⟨(⟨(⟨false,(⟨0,(0,0)⟩:Time)⟩:Fault),([]:List Update)⟩:Maker)⟩:JoinMaker)).bind fun r4=>(z1y fuel r4).bind fun r5=>some (r5.1,r5.2.1,r5.2.2.1))
def z5z (p0:Int):Option (List Value):=
 some ([(⟨false,p0,(bs [])⟩:Value)]:List Value)
def z0o (p0:List Time):Option (List Time):=
 need (p0.length≤274877906944)<|some p0
def z7v (p0:Time)(p1:Time):Option Bool:=
 (z62 ([p0,p1]:List Time)).bind fun r1=>some (z3u r1 p1)
def z9z (p0:Time)(p1:Time):Option Bool:=
 (z7v p0 p1).bind fun r1=>some r1
def z11 (p0:List Time)(p1_0:Time):Option Int:=
 outK (z0l (S:=Unit) (R:=Int) (fun i1 (a2:Unit)=>(z9z (p0.getD i1 zzd) p1_0).bind fun r4=>bf r4 (some (.ret ((i1:Nat):Int))) (some (.next ()))) p0.length 0 ()) (fun(a3:Unit)=>some (-1)) (fun x=>some x)
def z0w (p0:List Time)(p1_0:Time):Option Bool:=
 (z11 p0 p1_0).bind fun r1=>some (decide (0≤r1))
def z6y (p0:List Time)(p1:Time):Option Bool:=
 (z0w p0 p1).bind fun r1=>some r1
def zc1 (fuel:Nat)(p0:List Time):Option (List Time):=
 (z0o p0).bind fun r1=>(z2z fuel r1).bind fun r2=>need (r2.length=r1.length)<|outK (z0l (S:=List Time) (R:=Empty) (fun i4 (a5:List Time)=>need ((0+i4)<r2.length)<|(z6y a5 (r2.getD (0+i4) zzd)).bind fun r8=>bf (!r8) (need (a5.length+([(r2.getD (0+i4) zzd)]:List Time).length≤274877906944)<|some (.next (a5++([(r2.getD (0+i4) zzd)]:List Time)))) (some (.next a5))) r2.length 0 ([]:List Time)) (fun(a6:List Time)=>some a6) (fun(x:Empty)=>x.elim)
def z2r (p0:List Time)(p1:List Time):Option Bool:=
 bf (!decide ((p0.length:Int)=(p1.length:Int))) (some false) (outK (z0l (S:=Unit) (R:=Bool) (fun i1 (a2:Unit)=>need ((0:Int)≤((i1:Nat):Int)∧((i1:Nat):Int)<(p1.length:Int))<|bf (!(z3u (p0.getD i1 zzd) (p1.getD i1 zzd))) (some (.ret false)) (some (.next ()))) p0.length 0 ()) (fun(a3:Unit)=>some true) (fun x=>some x))
def zao (fuel:Nat)(p0:List Time):Option Bool:=
 jn (fun(a1:Bool)=>some a1) fun j2=>(z5k fuel p0).bind fun r3=>bf (decide (r3=0)) ((zc1 fuel p0).bind fun r4=>(z2r r4 p0).bind fun r5=>j2 r5) (j2 false)
def zf8 (fuel:Nat)(p0:List Update):Option Bool:=
 outK (z0l (S:=Unit) (R:=Bool) (fun i1 (a2:Unit)=>jn (fun(a5:Bool)=>bf a5 (some (.ret false)) (some (.next ()))) fun j6=>bf (decide ((p0.getD i1 zzd).diff=0)) (j6 true) (bf (decide (0<((i1:Nat):Int))) (need ((0:Int)≤(zzi.wrap (((i1:Nat):Int)-1))∧(zzi.wrap (((i1:Nat):Int)-1))<(p0.length:Int))<|(z2y (p0.getD ((zzi.wrap (((i1:Nat):Int)-1)).toNat) zzd) (p0.getD i1 zzd)).bind fun r10=>j6 (decide (0≤r10))) (j6 false))) p0.length 0 ()) (fun(a3:Unit)=>(z4n fuel p0).bind fun r4=>some (decide (r4=0))) (fun x=>some x)
def z8i (p0:Int)(p1:Int):Option Int:=
 some (if p1<p0 then p1 else p0)
def z8h (p1:List Time):Option Time:=
 outK (z0l (S:=Time) (R:=Empty) (fun i1 (a2:Time)=>jn (fun(a4:Time)=>(z8i a4.epoch ((p1.getD i1 zzd).epoch)).bind fun r6=>outK (z0l (S:=Time) (R:=Empty) (fun i7 (a8:Time)=>(match i7 with|0=>(z8i a8.loop.1 ((p1.getD i1 zzd).loop.1)).bind fun r10=>some (.next (⟨a8.epoch,(r10,a8.loop.2)⟩:Time))|_=>(z8i a8.loop.2 ((p1.getD i1 zzd).loop.2)).bind fun r11=>some (.next (⟨a8.epoch,(a8.loop.1,r11)⟩:Time)))) 2 0 (⟨r6,a4.loop⟩:Time)) (fun(a9:Time)=>some (.next a9)) (fun(x:Empty)=>x.elim)) fun j5=>bf (decide (((i1:Nat):Int)=0)) (j5 (p1.getD i1 zzd)) (j5 a2)) p1.length 0 (⟨0,(0,0)⟩:Time)) (fun(a3:Time)=>some a3) (fun(x:Empty)=>x.elim)
def ze2 (p0:List Time):Option Time:=
 (z8h p0).bind fun r1=>some r1
def z7u (p0:Time)(p1:List Time):Option Time:=
 bf (decide ((p1.length:Int)=0)) (some p0) (need ((0:Int)≤(p1.length:Int)∧(p1.length:Int)≤(p1.length:Int)∧(p1.length:Int)≤(lim:Int))<|outK (z0l (S:=List Time) (R:=Empty) (fun i2 (a3:List Time)=>(z62 ([p0,(p1.getD i2 zzd)]:List Time)).bind fun r6=>need ((0:Int)≤((i2:Nat):Int)∧((i2:Nat):Int)<(a3.length:Int))<|need ((0+i2)<a3.length)<|some (.next (a3.set (0+i2) r6))) p1.length 0 (zz9 p1.length ((⟨0,(0,0)⟩:Time):Time))) (fun(a4:List Time)=>(ze2 a4).bind fun r5=>some r5) (fun(x:Empty)=>x.elim))
def z9r (p0:Update)(p1:List Time):Option Bool:=
 (z7u p0.time p1).bind fun r1=>some (!(z3u r1 p0.time))
def z1h (p0:List Update)(p1_0:List Time):Option Int:=
 outK (z0l (S:=Unit) (R:=Int) (fun i1 (a2:Unit)=>(z9r (p0.getD i1 zzd) p1_0).bind fun r4=>bf r4 (some (.ret ((i1:Nat):Int))) (some (.next ()))) p0.length 0 ()) (fun(a3:Unit)=>some (-1)) (fun x=>some x)
def z1d (p0:List Update)(p1_0:List Time):Option Bool:=
 (z1h p0 p1_0).bind fun r1=>some (decide (0≤r1))
def zb4 (fuel:Nat)(p0:List Update)(p1:List Time):Option Bool:=
 jn (fun(a1:Bool)=>some a1) fun j2=>(zf8 fuel p0).bind fun r3=>bf r3 ((z1d p0 p1).bind fun r4=>j2 (!r4)) (j2 false)
def zam (fuel:Nat)(p0:Batch):Option Int:=
 jn (fun(a1:Bool)=>bf a1 (some 4) (some 0)) fun j2=>(zao fuel p0.since).bind fun r3=>bf (!r3) (j2 true) ((zb4 fuel p0.updates p0.since).bind fun r4=>j2 (!r4))
def zbg (p0:Batch)(p1:Merger):Option Bool:=
 jn (fun(a1:Bool)=>some a1) fun j2=>bf (decide ((zzi.wrap ((zzi.wrap ((zzi.wrap ((zzi.wrap ((zzi.wrap ((p0.since.length:Int)+(p0.updates.length:Int)))+(p1.a.length:Int)))+(p1.b.length:Int)))+(p1.since.length:Int)))+(p1.out.length:Int)))=0)) (bf (decide (p1.i=0)) (j2 (decide (p1.j=0))) (j2 false)) (j2 false)
def z8w (p0:Merger):Option Int:=
 none
def z9x (p0:Int):Option Int:=
 jn (fun(a1:Int×Int)=>jn (fun(a3:Int×Int)=>jn (fun(a5:Int×Int)=>need ((0:Int)≤(IntKind.u8.wrap a5.1)∧(IntKind.u8.wrap a5.1)<(zdc.size:Int))<|some (zzi.wrap (a5.2+(zzi.wrap (bt zdc (IntKind.u8.wrap a5.1)))))) fun j6=>bf (decide (256≤a3.1)) (j6 ((shrOp .u64 a3.1 8),(zzi.wrap (a3.2+8)))) (j6 (a3.1,a3.2))) fun j4=>bf (decide (65536≤a1.1)) (j4 ((shrOp .u64 a1.1 16),(zzi.wrap (a1.2+16)))) (j4 (a1.1,a1.2))) fun j2=>bf (decide (4294967296≤p0)) (j2 ((shrOp .u64 p0 32),32)) (j2 (p0,0))
def z98 (p0:Int):Option Int:=
 (z9x p0).bind fun r1=>some r1
def z8a (p0:List Update):Option Int:=
 (z98 (zzu.wrap (p0.length:Int))).bind fun r1=>some r1
def zb3 (p0:Time)(p1:List Time):Option Bool:=
 (z6y p1 p0).bind fun r1=>some (!r1)
def z1s (p0:List Time)(p1_0:List Time):Option Int:=
 outK (z0l (S:=Unit) (R:=Int) (fun i1 (a2:Unit)=>(zb3 (p0.getD i1 zzd) p1_0).bind fun r4=>bf r4 (some (.ret ((i1:Nat):Int))) (some (.next ()))) p0.length 0 ()) (fun(a3:Unit)=>some (-1)) (fun x=>some x)
def z1m (p0:List Time)(p1_0:List Time):Option Bool:=
 (z1s p0 p1_0).bind fun r1=>some (decide (0≤r1))
def zan (p0:List Time)(p1:List Time):Option Bool:=
 jn (fun(a1:Bool)=>some a1) fun j2=>bf (decide ((p1.length:Int)=0)) (j2 true) (bf (decide (0<(p0.length:Int))) ((z1m p0 p1).bind fun r3=>j2 (!r3)) (j2 false))
def zeb (p0:Merger):Option Bool:=
 jn (fun(a1:Bool)=>some a1) fun j2=>bf (decide (p0.i=(p0.a.length:Int))) (j2 (decide (p0.j=(p0.b.length:Int)))) (j2 false)
def zcw (fuel:Nat)(p0:Level)(p1:List Time):Option Bool:=
 bf p0.busy (jn (fun(a1:Bool)=>some a1) fun j2=>(zbg p0.batch (⟨([]:List Update),([]:List Update),0,0,([]:List Time),([]:List Update)⟩:Merger)).bind fun r3=>bf r3 ((z8w p0.merger).bind fun r5=>bf (decide (r5=0)) ((z8a p0.merger.a).bind fun r7=>bf (decide (r7=p0.class_)) ((z8a p0.merger.b).bind fun r9=>bf (decide (r9=p0.class_)) ((zan p1 p0.merger.since).bind fun r11=>bf r11 ((zeb p0.merger).bind fun r13=>j2 (!r13)) (j2 false)) (j2 false)) (j2 false)) (j2 false)) (j2 false)) (jn (fun(a14:Bool)=>some a14) fun j15=>(zbg (⟨([]:List Time),([]:List Update)⟩:Batch) p0.merger).bind fun r16=>bf r16 ((zam fuel p0.batch).bind fun r18=>bf (decide (r18=0)) ((z8a p0.batch.updates).bind fun r20=>bf (decide (r20=p0.class_)) ((zan p1 p0.batch.since).bind fun r22=>j15 r22) (j15 false)) (j15 false)) (j15 false))
def z89 (fuel:Nat)(p0:Spine):Option Int:=
 (zam fuel (⟨p0.since,([]:List Update)⟩:Batch)).bind fun r1=>outK (z0l (S:=Bool×Int) (R:=Empty) (fun i2 (a3:Bool×Int)=>jn (fun(a5:Bool)=>some (.next (a5,(p0.levels.getD i2 zzd).class_))) fun j6=>bf a3.1 (bf (decide (1≤(p0.levels.getD i2 zzd).class_)) (bf (decide ((p0.levels.getD i2 zzd).class_<a3.2)) ((zcw fuel (p0.levels.getD i2 zzd) p0.since).bind fun r7=>j6 r7) (j6 false)) (j6 false)) (j6 false)) p0.levels.length 0 ((decide (r1=0)),4611686018427387904)) (fun(a4:Bool×Int)=>bf (!a4.1) (some 8) (some 0)) (fun(x:Empty)=>x.elim)
def z2g (p0:List Level):Option (List Level):=
 need (p0.length≤274877906944)<|some p0
def zf0 (p0:Merger):Option Merger:=
 (z80 p0.a).bind fun r1=>(z80 p0.b).bind fun r2=>(z80 p0.out).bind fun r3=>(z0o p0.since).bind fun r4=>some (⟨r1,r2,p0.i,p0.j,r4,r3⟩:Merger)
def zbh (fuel:Nat)(p0:Spine):Option Trace:=
 (z0o p0.since).bind fun r1=>(z2g p0.levels).bind fun r2=>outK (loopN (S:=Int×Spine) (R:=Empty) (fun(a3:Int×Spine)=>bf (decide (a3.1<(r2.length:Int))) (need ((0:Int)≤a3.1∧a3.1<(a3.2.levels.length:Int))<|need ((0+a3.1.toNat)<a3.2.levels.length)<|(z0o ((a3.2.levels.getD (0+a3.1.toNat) zzd).batch.since)).bind fun r7=>need ((0+a3.1.toNat)<a3.2.levels.length)<|(z80 ((a3.2.levels.getD (0+a3.1.toNat) zzd).batch.updates)).bind fun r9=>need ((0+a3.1.toNat)<a3.2.levels.length)<|need ((0+a3.1.toNat)<(a3.2.levels.set (0+a3.1.toNat) (⟨(a3.2.levels.getD (0+a3.1.toNat) zzd).class_,(a3.2.levels.getD (0+a3.1.toNat) zzd).busy,(⟨r7,r9⟩:Batch),(a3.2.levels.getD (0+a3.1.toNat) zzd).merger⟩:Level)).length)<|(zf0 (((a3.2.levels.set (0+a3.1.toNat) (⟨(a3.2.levels.getD (0+a3.1.toNat) zzd).class_,(a3.2.levels.getD (0+a3.1.toNat) zzd).busy,(⟨r7,r9⟩:Batch),(a3.2.levels.getD (0+a3.1.toNat) zzd).merger⟩:Level)).getD (0+a3.1.toNat) zzd).merger)).bind fun r12=>need ((0+a3.1.toNat)<(a3.2.levels.set (0+a3.1.toNat) (⟨(a3.2.levels.getD (0+a3.1.toNat) zzd).class_,(a3.2.levels.getD (0+a3.1.toNat) zzd).busy,(⟨r7,r9⟩:Batch),(a3.2.levels.getD (0+a3.1.toNat) zzd).merger⟩:Level)).length)<|some (.next ((zzi.wrap (a3.1+1)),(⟨a3.2.since,((a3.2.levels.set (0+a3.1.toNat) (⟨(a3.2.levels.getD (0+a3.1.toNat) zzd).class_,(a3.2.levels.getD (0+a3.1.toNat) zzd).busy,(⟨r7,r9⟩:Batch),(a3.2.levels.getD (0+a3.1.toNat) zzd).merger⟩:Level)).set (0+a3.1.toNat) (⟨((a3.2.levels.set (0+a3.1.toNat) (⟨(a3.2.levels.getD (0+a3.1.toNat) zzd).class_,(a3.2.levels.getD (0+a3.1.toNat) zzd).busy,(⟨r7,r9⟩:Batch),(a3.2.levels.getD (0+a3.1.toNat) zzd).merger⟩:Level)).getD (0+a3.1.toNat) zzd).class_,((a3.2.levels.set (0+a3.1.toNat) (⟨(a3.2.levels.getD (0+a3.1.toNat) zzd).class_,(a3.2.levels.getD (0+a3.1.toNat) zzd).busy,(⟨r7,r9⟩:Batch),(a3.2.levels.getD (0+a3.1.toNat) zzd).merger⟩:Level)).getD (0+a3.1.toNat) zzd).busy,((a3.2.levels.set (0+a3.1.toNat) (⟨(a3.2.levels.getD (0+a3.1.toNat) zzd).class_,(a3.2.levels.getD (0+a3.1.toNat) zzd).busy,(⟨r7,r9⟩:Batch),(a3.2.levels.getD (0+a3.1.toNat) zzd).merger⟩:Level)).getD (0+a3.1.toNat) zzd).batch,r12⟩:Level))⟩:Spine)))) (some (.brk (a3.1,a3.2)))) fuel (0,(⟨r1,r2⟩:Spine))) (fun(a4:Int×Spine)=>some (⟨a4.2⟩:Trace)) (fun(x:Empty)=>x.elim)
def z9k (fuel:Nat)(p0:Spine):Option Spine:=
 (zbh fuel p0).bind fun r1=>some r1.spine
def zac (fuel:Nat)(p0:List Time)(p1:List (List Update)):Option ((List Update)×Int):=
 (z0m p1).bind fun r1=>(z4n fuel r1).bind fun r2=>bf (!decide (r2=0)) (some (([]:List Update),r2)) (outK (z0l (S:=List Update) (R:=Empty) (fun i3 (a4:List Update)=>need ((0:Int)≤((i3:Nat):Int)∧((i3:Nat):Int)<(a4.length:Int))<|need ((0+i3)<a4.length)<|(z7u ((a4.getD (0+i3) zzd).time) p0).bind fun r9=>need ((0:Int)≤((i3:Nat):Int)∧((i3:Nat):Int)<(a4.length:Int))<|need ((0+i3)<a4.length)<|some (.next (a4.set (0+i3) (⟨(a4.getD (0+i3) zzd).key,(a4.getD (0+i3) zzd).row,r9,(a4.getD (0+i3) zzd).diff⟩:Update)))) r1.length 0 r1) (fun(a5:List Update)=>(z3o fuel ([a5]:List (List Update))).bind fun r6=>some (r6.1,r6.2)) (fun(x:Empty)=>x.elim))
def zcp (fuel:Nat)(p0:List Time)(p1:List (List Update)):Option (Batch×Int):=
 (zao fuel p0).bind fun r1=>bf (!r1) (some ((⟨([]:List Time),([]:List Update)⟩:Batch),4)) ((zac fuel p0 p1).bind fun r2=>bf (!decide (r2.2=0)) (some ((⟨([]:List Time),([]:List Update)⟩:Batch),r2.2)) ((z0o p0).bind fun r3=>some ((⟨r3,r2.1⟩:Batch),0)))
def z5b (p0:Level)(p1:Int):Option Int:=
 some (zzi.wrap (p1-p0.class_))
def z15 (fuel:Nat)(p0:List Level)(p1:Int):Option (Int×Bool):=
 outK (loopN (S:=Int×Int) (R:=Empty) (fun(a1:Int×Int)=>bf (decide (a1.1<a1.2)) (need ((0:Int)≤(zzi.wrap (shrOp .u64 (zzu.wrap (zzi.wrap (a1.1+a1.2))) 1))∧(zzi.wrap (shrOp .u64 (zzu.wrap (zzi.wrap (a1.1+a1.2))) 1))<(p0.length:Int))<|(z5b (p0.getD ((zzi.wrap (shrOp .u64 (zzu.wrap (zzi.wrap (a1.1+a1.2))) 1)).toNat) zzd) p1).bind fun r8=>bf (decide (r8<0)) (some (.next ((zzi.wrap ((zzi.wrap (shrOp .u64 (zzu.wrap (zzi.wrap (a1.1+a1.2))) 1))+1)),a1.2))) (some (.next (a1.1,(zzi.wrap (shrOp .u64 (zzu.wrap (zzi.wrap (a1.1+a1.2))) 1)))))) (some (.brk (a1.1,a1.2)))) fuel (0,(p0.length:Int))) (fun(a2:Int×Int)=>jn (fun(a3:Bool)=>some (a2.1,a3)) fun j4=>bf (decide (a2.1<(p0.length:Int))) (need ((0:Int)≤a2.1∧a2.1<(p0.length:Int))<|(z5b (p0.getD a2.1.toNat zzd) p1).bind fun r6=>j4 (decide (r6=0))) (j4 false)) (fun(x:Empty)=>x.elim)
def z29 (p1:Int)(p2:List Level)(l0:List Level):Option (List Level):=
 need ((0:Int)≤p1∧p1≤(l0.length:Int)∧(l0.length:Int)≤(l0.length:Int))<|bf (decide ((p2.length:Int)=0)) (some l0) (bf (decide (p1=(l0.length:Int))) (need (l0.length+p2.length≤274877906944)<|some (l0++p2)) (none))
def zcq (p0:List Time)(p1:Batch)(p2:Batch):Option (Merger×Int):=
 none
def zdq (p0:Merger)(p1:Int):Option (Merger×Int×Int):=
 none
def z6k (fuel:Nat)(p1:Batch)(l0:Trace):Option (Int×Trace):=
 (z8a p1.updates).bind fun r1=>bf (decide (r1=0)) (some (0,l0)) ((z15 fuel l0.spine.levels r1).bind fun r2=>bf (!r2.2) ((z29 r2.1 ([(⟨r1,false,p1,(⟨([]:List Update),([]:List Update),0,0,([]:List Time),([]:List Update)⟩:Merger)⟩:Level)]:List Level) l0.spine.levels).bind fun r3=>some (0,(⟨(⟨l0.spine.since,r3⟩:Spine)⟩:Trace))) (need ((0:Int)≤r2.1∧r2.1<(l0.spine.levels.length:Int))<|need ((0+r2.1.toNat)<l0.spine.levels.length)<|bf (!(l0.spine.levels.getD (0+r2.1.toNat) zzd).busy) ((zcq l0.spine.since ((l0.spine.levels.getD (0+r2.1.toNat) zzd).batch) p1).bind fun r6=>jn (fun(a7:Trace)=>some (r6.2,a7)) fun j8=>bf (decide (r6.2=0)) (need ((0:Int)≤r2.1∧r2.1<(l0.spine.levels.length:Int))<|need ((0+r2.1.toNat)<l0.spine.levels.length)<|j8 (⟨(⟨l0.spine.since,(l0.spine.levels.set (0+r2.1.toNat) (⟨r1,true,(⟨([]:List Time),([]:List Update)⟩:Batch),r6.1⟩:Level))⟩:Spine)⟩:Trace)) (j8 l0)) (need ((0:Int)≤r1)<|(zdq ((l0.spine.levels.getD (0+r2.1.toNat) zzd).merger) (shlOp .i64 (2:Int) r1)).bind fun r12=>bf (!decide (r12.2.2=0)) (some (r12.2.2,l0)) (none))))
def za3 (fuel:Nat)(p0:Spine)(p1:List (List Update)):Option (Spine×Int):=
 (z89 fuel p0).bind fun r1=>bf (!decide (r1=0)) (some ((⟨([]:List Time),([]:List Level)⟩:Spine),r1)) ((zcp fuel p0.since p1).bind fun r2=>bf (!decide (r2.2=0)) ((z9k fuel p0).bind fun r3=>some (r3,r2.2)) ((zbh fuel p0).bind fun r4=>(z6k fuel r2.1 r4).bind fun r5=>bf (!decide (r5.1=0)) ((z9k fuel p0).bind fun r6=>some (r6,r5.1)) (some (r5.2.spine,0))))
def z1w (fuel:Nat)(p1:Int)(p2:Int)(l0:List (List Value)):Option (List (List Value)):=
 outK (loopN (S:=Int×(List (List Value))) (R:=Empty) (fun(a1:Int×(List (List Value)))=>bf (decide (a1.1<p2)) (outK (loopN (S:=Int×(List (List Value))) (R:=Empty) (fun(a3:Int×(List (List Value)))=>jn (fun(a5:Bool)=>bf a5 (need ((0:Int)≤(zzi.wrap (a3.1-1))∧(zzi.wrap (a3.1-1))<(a3.2.length:Int))<|need ((0+(zzi.wrap (a3.1-1)).toNat)<a3.2.length)<|need ((0:Int)≤a3.1∧a3.1<(a3.2.length:Int))<|need ((0+a3.1.toNat)<a3.2.length)<|need ((0:Int)≤a3.1∧a3.1<(a3.2.length:Int))<|need ((0+a3.1.toNat)<a3.2.length)<|need ((0:Int)≤(zzi.wrap (a3.1-1))∧(zzi.wrap (a3.1-1))<(a3.2.length:Int))<|need ((0+(zzi.wrap (a3.1-1)).toNat)<(a3.2.set (0+a3.1.toNat) (a3.2.getD (0+(zzi.wrap (a3.1-1)).toNat) zzd)).length)<|some (.next ((zzi.wrap (a3.1-1)),((a3.2.set (0+a3.1.toNat) (a3.2.getD (0+(zzi.wrap (a3.1-1)).toNat) zzd)).set (0+(zzi.wrap (a3.1-1)).toNat) (a3.2.getD (0+a3.1.toNat) zzd))))) (some (.brk (a3.1,a3.2)))) fun j6=>bf (decide (p1<a3.1)) (need ((0:Int)≤a3.1∧a3.1<(a3.2.length:Int))<|need ((0+a3.1.toNat)<a3.2.length)<|need ((0:Int)≤(zzi.wrap (a3.1-1))∧(zzi.wrap (a3.1-1))<(a3.2.length:Int))<|need ((0+(zzi.wrap (a3.1-1)).toNat)<a3.2.length)<|(z3q (a3.2.getD (0+a3.1.toNat) zzd) (a3.2.getD (0+(zzi.wrap (a3.1-1)).toNat) zzd)).bind fun r20=>j6 (decide (r20<0))) (j6 false)) fuel (a1.1,a1.2)) (fun(a4:Int×(List (List Value)))=>some (.next ((zzi.wrap (a1.1+1)),a4.2))) (fun(x:Empty)=>x.elim)) (some (.brk (a1.1,a1.2)))) fuel ((zzi.wrap (p1+1)),l0)) (fun(a2:Int×(List (List Value)))=>some a2.2) (fun(x:Empty)=>x.elim)
def z25 (fuel:Nat)(p1:Int)(p2:Int)(p3:Int)(l0:List (List Value)):Option (List (List Value)):=
 outK (loopN (S:=Unit) (R:=List (List Value)) (fun(a1:Unit)=>bf (decide ((zzi.wrap (p2-p1))≤12)) ((z1w fuel p1 p2 l0).bind fun r3=>some (.ret r3)) (bf (decide (p3=0)) (none) (none))) fuel ()) (fun(a2:Unit)=>none) (fun x=>some x)
def z1r (fuel:Nat)(l0:List (List Value)):Option (List (List Value)):=
 (z98 (zzu.wrap (l0.length:Int))).bind fun r1=>(z25 fuel 0 (l0.length:Int) r1 l0).bind fun r2=>some r2
def zcs (p0:List Value)(p1:List Value):Option Bool:=
 (z3q p0 p1).bind fun r1=>some (decide (r1=0))
def z1l (fuel:Nat)(p0:List (List Value)):Option (List (List Value)):=
 bf (decide ((p0.length:Int)<2)) (some p0) (outK (loopN (S:=Int) (R:=List (List Value)) (fun(a1:Int)=>bf (decide (a1<(p0.length:Int))) (need ((0:Int)≤a1∧a1<(p0.length:Int))<|need ((0:Int)≤(zzi.wrap (a1-1))∧(zzi.wrap (a1-1))<(p0.length:Int))<|(zcs (p0.getD a1.toNat zzd) (p0.getD ((zzi.wrap (a1-1)).toNat) zzd)).bind fun r5=>bf r5 (none) (some (.next (zzi.wrap (a1+1))))) (some (.brk a1))) fuel 1) (fun(a2:Int)=>some p0) (fun x=>some x))
def zcf (fuel:Nat)(p0:List Update):Option (List (List Value)):=
 need ((0:Int)≤(p0.length:Int)∧(p0.length:Int)≤(p0.length:Int)∧(p0.length:Int)≤(lim:Int))<|outK (z0l (S:=List (List Value)) (R:=Empty) (fun i2 (a3:List (List Value))=>need ((0:Int)≤((i2:Nat):Int)∧((i2:Nat):Int)<(a3.length:Int))<|need ((0+i2)<a3.length)<|some (.next (a3.set (0+i2) ((p0.getD i2 zzd).key)))) p0.length 0 (zz9 p0.length (([]:List Value):List Value))) (fun(a4:List (List Value))=>(z1r fuel a4).bind fun r5=>need (r5.length=a4.length)<|(z1l fuel r5).bind fun r7=>some r7) (fun(x:Empty)=>x.elim)
def z67 (l0:Trace):Option ((List (List Update))×Trace):=
 outK (z0l (S:=List (List Update)) (R:=Empty) (fun i1 (a2:List (List Update))=>need ((0:Int)≤(l0.spine.levels.getD i1 zzd).merger.i∧(l0.spine.levels.getD i1 zzd).merger.i≤(((l0.spine.levels.getD i1 zzd).merger.a).length:Int)∧(((l0.spine.levels.getD i1 zzd).merger.a).length:Int)≤(((l0.spine.levels.getD i1 zzd).merger.a).length:Int))<|need ((0:Int)≤(l0.spine.levels.getD i1 zzd).merger.j∧(l0.spine.levels.getD i1 zzd).merger.j≤(((l0.spine.levels.getD i1 zzd).merger.b).length:Int)∧(((l0.spine.levels.getD i1 zzd).merger.b).length:Int)≤(((l0.spine.levels.getD i1 zzd).merger.b).length:Int))<|need (a2.length+([(l0.spine.levels.getD i1 zzd).batch.updates,(sub ((l0.spine.levels.getD i1 zzd).merger.a) ((l0.spine.levels.getD i1 zzd).merger.i) (((l0.spine.levels.getD i1 zzd).merger.a).length:Int)),(sub ((l0.spine.levels.getD i1 zzd).merger.b) ((l0.spine.levels.getD i1 zzd).merger.j) (((l0.spine.levels.getD i1 zzd).merger.b).length:Int)),(l0.spine.levels.getD i1 zzd).merger.out]:List (List Update)).length≤274877906944)<|some (.next (a2++([(l0.spine.levels.getD i1 zzd).batch.updates,(sub ((l0.spine.levels.getD i1 zzd).merger.a) ((l0.spine.levels.getD i1 zzd).merger.i) (((l0.spine.levels.getD i1 zzd).merger.a).length:Int)),(sub ((l0.spine.levels.getD i1 zzd).merger.b) ((l0.spine.levels.getD i1 zzd).merger.j) (((l0.spine.levels.getD i1 zzd).merger.b).length:Int)),(l0.spine.levels.getD i1 zzd).merger.out]:List (List Update))))) l0.spine.levels.length 0 ([]:List (List Update))) (fun(a3:List (List Update))=>some (a3,l0)) (fun(x:Empty)=>x.elim)
def zb6 (p0:Update)(p1:List Value):Option Bool:=
 (z3q p0.key p1).bind fun r1=>some (decide (r1=0))
def z3k (fuel:Nat)(p1_0:List Value)(l0:Trace):Option ((List Update)×Int×Trace):=
 (z67 l0).bind fun r1=>(z0m r1.1).bind fun r2=>outK (z0l (S:=List Update) (R:=Empty) (fun i3 (a4:List Update)=>(zb6 (r2.getD i3 zzd) p1_0).bind fun r7=>bf r7 ((z7u ((r2.getD i3 zzd).time) r1.2.spine.since).bind fun r8=>need (a4.length+([(⟨(r2.getD i3 zzd).key,(r2.getD i3 zzd).row,r8,(r2.getD i3 zzd).diff⟩:Update)]:List Update).length≤274877906944)<|some (.next (a4++([(⟨(r2.getD i3 zzd).key,(r2.getD i3 zzd).row,r8,(r2.getD i3 zzd).diff⟩:Update)]:List Update)))) (some (.next a4))) r2.length 0 ([]:List Update)) (fun(a5:List Update)=>(z3o fuel ([a5]:List (List Update))).bind fun r6=>some (r6.1,r6.2,r1.2)) (fun(x:Empty)=>x.elim)
def zcv (fuel:Nat)(p0:Spine)(p1:List Value):Option ((List Update)×Int):=
 (z89 fuel p0).bind fun r1=>bf (!decide (r1=0)) (some (([]:List Update),r1)) ((z3k fuel p1 (⟨p0⟩:Trace)).bind fun r2=>some (r2.1,r2.2.1))
def zap (fuel:Nat)(p0:Spine)(p1:List (List Value)):Option ((List Update)×Int):=
 outK (z0l (S:=List Update) (R:=(List Update)×Int) (fun i1 (a2:List Update)=>(zcv fuel p0 (p1.getD i1 zzd)).bind fun r4=>bf (!decide (r4.2=0)) (some (.ret (([]:List Update),r4.2))) (need (a2.length+r4.1.length≤274877906944)<|some (.next (a2++r4.1)))) p1.length 0 ([]:List Update)) (fun(a3:List Update)=>some (a3,0)) (fun x=>some x)
def zbx (p0:Update)(p1:Update):Option Int:=
 (z58 p0.time p1.time).bind fun r1=>some r1
def z1n (fuel:Nat)(p0:List Update):Option Update:=
 bf (decide ((p0.length:Int)<1)) (none) (need ((0:Int)≤0∧0<(p0.length:Int))<|outK (loopN (S:=Int×Update) (R:=Empty) (fun(a2:Int×Update)=>bf (decide (a2.1<(p0.length:Int))) (jn (fun(a4:Update)=>some (.next ((zzi.wrap (a2.1+1)),a4))) fun j5=>need ((0:Int)≤a2.1∧a2.1<(p0.length:Int))<|(zbx (p0.getD a2.1.toNat zzd) a2.2).bind fun r7=>bf (decide (r7<0)) (need ((0:Int)≤a2.1∧a2.1<(p0.length:Int))<|j5 (p0.getD a2.1.toNat zzd)) (j5 a2.2)) (some (.brk (a2.1,a2.2)))) fuel (1,(p0.getD 0 zzd))) (fun(a3:Int×Update)=>some a3.2) (fun(x:Empty)=>x.elim))
def zba (fuel:Nat)(p0:List Update):Option Time:=
 (z1n fuel p0).bind fun r1=>some r1.time
def zay (fuel:Nat)(p0:Spine)(p1:Spine)(p2:Int)(p3:List Update):Option (Spine×Spine×(List Update)×Time×Int):=
 (z89 fuel p0).bind fun r1=>(z89 fuel p1).bind fun r2=>(z37 ([r1,r2]:List Int)).bind fun r3=>jn (fun(a4:Int)=>(z4n fuel p3).bind fun r6=>(z37 ([a4,r6]:List Int)).bind fun r7=>bf (!decide (r7=0)) (some ((⟨([]:List Time),([]:List Level)⟩:Spine),(⟨([]:List Time),([]:List Level)⟩:Spine),([]:List Update),(⟨0,(0,0)⟩:Time),r7)) ((z9k fuel p0).bind fun r8=>(z9k fuel p1).bind fun r9=>bf (decide (p2=0)) ((za3 fuel r8 ([p3]:List (List Update))).bind fun r20=>(zcf fuel p3).bind fun r21=>(zap fuel r9 r21).bind fun r22=>(z37 ([r20.2,r22.2]:List Int)).bind fun r23=>bf (!decide (r23=0)) ((zba fuel p3).bind fun r24=>some (r8,r9,([]:List Update),r24,10)) (jn (fun(a25:JoinMaker)=>(z1y fuel a25).bind fun r27=>some (r20.1,r9,r27.1,r27.2.1,r27.2.2.1)) fun j26=>bf (decide ((0:Int)=0)) ((z1o fuel p3 r22.1 (⟨(⟨(⟨false,(⟨0,(0,0)⟩:Time)⟩:Fault),([]:List Update)⟩:Maker)⟩:JoinMaker)).bind fun r28=>j26 r28) ((z1o fuel r22.1 p3 (⟨(⟨(⟨false,(⟨0,(0,0)⟩:Time)⟩:Fault),([]:List Update)⟩:Maker)⟩:JoinMaker)).bind fun r29=>j26 r29))) (bf (decide (p2=1)) ((za3 fuel r9 ([p3]:List (List Update))).bind fun r10=>(zcf fuel p3).bind fun r11=>(zap fuel r8 r11).bind fun r12=>(z37 ([r10.2,r12.2]:List Int)).bind fun r13=>bf (!decide (r13=0)) ((zba fuel p3).bind fun r14=>some (r8,r9,([]:List Update),r14,10)) (jn (fun(a15:JoinMaker)=>(z1y fuel a15).bind fun r17=>some (r8,r10.1,r17.1,r17.2.1,r17.2.2.1)) fun j16=>bf (decide ((1:Int)=0)) ((z1o fuel p3 r12.1 (⟨(⟨(⟨false,(⟨0,(0,0)⟩:Time)⟩:Fault),([]:List Update)⟩:Maker)⟩:JoinMaker)).bind fun r18=>j16 r18) ((z1o fuel r12.1 p3 (⟨(⟨(⟨false,(⟨0,(0,0)⟩:Time)⟩:Fault),([]:List Update)⟩:Maker)⟩:JoinMaker)).bind fun r19=>j16 r19))) (none)))) fun j5=>jn (fun(a30:Bool)=>bf a30 (j5 1) (j5 r3)) fun j31=>bf (decide (r3=0)) (bf (!decide (p2=0)) (j31 (!decide (p2=1))) (j31 false)) (j31 false)
def z3z (p0:List Value)(p1:List Value):Option Bool:=
 bf (!decide ((p0.length:Int)=(p1.length:Int))) (some false) (outK (z0l (S:=Unit) (R:=Bool) (fun i1 (a2:Unit)=>need ((0:Int)≤((i1:Nat):Int)∧((i1:Nat):Int)<(p1.length:Int))<|bf (!(z9i (p0.getD i1 zzd) (p1.getD i1 zzd))) (some (.ret false)) (some (.next ()))) p0.length 0 ()) (fun(a3:Unit)=>some true) (fun x=>some x))
def z8x (p0:List Update)(p1:List Update):Option Bool:=
 bf (!decide ((p0.length:Int)=(p1.length:Int))) (some false) (outK (z0l (S:=Unit) (R:=Bool) (fun i1 (a2:Unit)=>jn (fun(a4:Bool)=>bf a4 (some (.ret false)) (some (.next ()))) fun j5=>need ((0:Int)≤((i1:Nat):Int)∧((i1:Nat):Int)<(p1.length:Int))<|(z3z ((p0.getD i1 zzd).key) ((p1.getD i1 zzd).key)).bind fun r7=>bf (!r7) (j5 true) (need ((0:Int)≤((i1:Nat):Int)∧((i1:Nat):Int)<(p1.length:Int))<|(z3z ((p0.getD i1 zzd).row) ((p1.getD i1 zzd).row)).bind fun r10=>bf (!r10) (j5 true) (need ((0:Int)≤((i1:Nat):Int)∧((i1:Nat):Int)<(p1.length:Int))<|bf (!(z3u ((p0.getD i1 zzd).time) ((p1.getD i1 zzd).time))) (j5 true) (need ((0:Int)≤((i1:Nat):Int)∧((i1:Nat):Int)<(p1.length:Int))<|j5 (!decide ((p0.getD i1 zzd).diff=(p1.getD i1 zzd).diff)))))) p0.length 0 ()) (fun(a3:Unit)=>some true) (fun x=>some x))
def z68 (fuel:Nat):Option Bool:=
 (z5z 1).bind fun r1=>(z5z 1).bind fun r2=>(z5z 1).bind fun r3=>(z5z 5).bind fun r4=>(z8r fuel ([(⟨r1,r2,(⟨1,(0,0)⟩:Time),2⟩:Update)]:List Update) ([(⟨r3,r4,(⟨2,(0,0)⟩:Time),3⟩:Update)]:List Update)).bind fun r5=>(zay fuel (⟨([]:List Time),([]:List Level)⟩:Spine) (⟨([]:List Time),([]:List Level)⟩:Spine) 0 ([(⟨r1,r2,(⟨1,(0,0)⟩:Time),2⟩:Update)]:List Update)).bind fun r6=>(zay fuel r6.1 r6.2.1 1 ([(⟨r3,r4,(⟨2,(0,0)⟩:Time),3⟩:Update)]:List Update)).bind fun r7=>(zay fuel r6.1 r6.2.1 2 ([(⟨r3,r4,(⟨2,(0,0)⟩:Time),3⟩:Update)]:List Update)).bind fun r8=>jn (fun(a9:Bool)=>some a9) fun j10=>bf (decide (r5.2.2=0)) (bf (decide ((r5.1.length:Int)=1)) (need ((0:Int)≤0∧0<(r5.1.length:Int))<|bf (decide ((r5.1.getD 0 zzd).diff=6)) (need ((0:Int)≤0∧0<(r5.1.length:Int))<|bf (decide ((r5.1.getD 0 zzd).time.epoch=2)) (need ((0:Int)≤0∧0<(r5.1.length:Int))<|bf (decide ((((r5.1.getD 0 zzd).row).length:Int)=2)) (bf (decide (r6.2.2.2.2=0)) (bf (decide ((r6.2.2.1.length:Int)=0)) (bf (decide (r7.2.2.2.2=0)) ((z8x r7.2.2.1 r5.1).bind fun r14=>bf r14 (j10 (decide (r8.2.2.2.2=1))) (j10 false)) (j10 false)) (j10 false)) (j10 false)) (j10 false)) (j10 false)) (j10 false)) (j10 false)) (j10 false)
end Go.Av
