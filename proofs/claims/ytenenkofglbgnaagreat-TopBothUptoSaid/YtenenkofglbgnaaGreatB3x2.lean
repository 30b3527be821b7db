import Derived.Test.YtenenkofglbgnaaGreatB3x1
import Derived.Laws.Externs
import Derived.Lib.Join
import Derived.Lib.Overlaps
import Derived.MapKept
set_option maxRecDepth 100000
set_option linter.unusedVariables false
set_option linter.unusedSimpArgs false
set_option linter.unusedSectionVars false
open Go.IntKind renaming i64→zzi, u64→zzu
open Inhabited renaming default→zzd
open Go.Result renaming andThen_ok→zz1
open List renaming mem_append→zz2, mem_cons_self→zz3, mem_cons_of_mem→zz6, replicate→zz9, length_drop→zzc, mem_map→zzf, mem_cons→zzg, mem_filter→zzh, mem_append_left→zzm
open Nat renaming eq_of_beq_eq_true→zz4, le_of_ble_eq_true→zz7, zero_add→zzb, le_refl→zze, blt_eq→zzk
open Go.Sem renaming run_bind→zz5, run_pure→zza
open Array renaming length_toList→zzl
/-
 Av,part U:from a function that may have no answer to a walk.
-/
namespace Go.Av
open Go
inductive Ctl (S R:Type) where
 |next (s:S)
 |brk (s:S)
 |ret (r:R)
inductive Out (S R:Type) where
 |done (s:S)
 |ret (r:R)
section
variable {S R Q A:Type}
def z0k (B:Nat→S→Option (Ctl S R)):Nat→Nat→S→Option (Out S R)
 |0,_,s=>some (.done s)
 |k+1,i,s=>match B i s with
  |none=>none
  |some (.next s')=>z0k B k (i+1) s'
  |some (.brk s')=>some (.done s')
  |some (.ret r)=>some (.ret r)
def loopN (B:S→Option (Ctl S R)):Nat→S→Option (Out S R)
 |0,_=>none
 |k+1,s=>match B s with
  |none=>none
  |some (.next s')=>loopN B k s'
  |some (.brk s')=>some (.done s')
  |some (.ret r)=>some (.ret r)
def outK (o:Option (Out S R))(kn:S→Option Q)(kr:R→Option Q):Option Q:=
 match o with
 |none=>none
 |some (.done s)=>kn s
 |some (.ret r)=>kr r
def need (c:Prop)[Decidable c](k:Option Q):Option Q:=if c then k else none
def bf (b:Bool)(x y:Option Q):Option Q:=match b with|true=>x|false=>y
def jn (j:A→Option Q)(k:(A→Option Q)→Option Q):Option Q:=k j
theorem z05 {c:Prop}[Decidable c]{k:Option Q}{q:Q}(h:need c k=some q):c∧k=some q:=by
 unfold need at h;split at h
 ·exact⟨by assumption,h⟩
 ·cases h
theorem z03 {o:Option A}{k:A→Option Q}{q:Q}(h:o.bind k=some q): ∃a,o=some a∧k a=some q:=by
 cases o with
 |none=>cases h
 |some a=>exact⟨a,rfl,h⟩
theorem z4w {b:Bool}{u v:Option Q}{q:Q}(h:bf b u v=some q):(b=true∧u=some q)∨(b=false∧v=some q):=by
 cases b
 ·exact .inr ⟨rfl,h⟩
 ·exact .inl ⟨rfl,h⟩
theorem zdg {o:Option (Out S R)}{kn:S→Option Q}{kr:R→Option Q}{q:Q}(h:outK o kn kr=some q):
 (∃s,o=some (.done s)∧kn s=some q)∨ ∃r,o=some (.ret r)∧kr r=some q:=by
 unfold outK at h;split at h
 ·cases h
 ·exact .inl ⟨_,rfl,h⟩
 ·exact .inr ⟨_,rfl,h⟩
end
section
variable {E:Env} {s:St} {S R Q A:Type} {post:Exit→St→Prop} {q:Q}
@[reducible] def thenJ (σ:A→St) (j:A→Option Q) (q:Q) (post:Exit→St→Prop):Exit→St→Prop
 | .normal,s=> ∃a,j a=some q∧s=σ a
 |e,s=>post e s
@[reducible] def thenS (E:Env) (y:Code) (post:Exit→St→Prop):Exit→St→Prop
 | .normal,s=>Tri E y s post
 |e,s=>post e s
@[reducible] def inB' (id:Nat) (post:Exit→St→Prop):Exit→St→Prop
 | .exit id',s=>match Nat.beq id' id with|true=>post .normal s|false=>post (.exit id') s
 |e,s=>post e s
theorem z02 {x y:Code}(h:Tri E x s (thenS E y post)):Tri E (.seq x y) s post:=
 Tri.seq (h.mono fun e s hp=>by cases e<;>exact hp)
theorem z0j {x y:Code}(σ:A→St){j:A→Option Q}{k:(A→Option Q)→Option Q}(h:jn j k=some q)(hy: ∀a,j a=some q→Tri E y (σ a) post)
 (hx: ∀j',k j'=some q→Tri E x s (thenJ σ j' q post)):Tri E (.seq x y) s post:=
 z02 ((hx j h).mono fun e s hp=>by
  cases e with
  |normal=>obtain⟨a,h1,rfl⟩:=hp;exact hy a h1
  |_=>exact hp)
theorem z0p {id:Nat}{c:Code}(h:Tri E c s (inB' id post)):Tri E (.block id c) s post:=
 Tri.block (h.mono fun e s hp=>by
  cases e with
  |exit id'=>
   show if id'=id then _ else _;have hp:(match Nat.beq id' id with|true=>post .normal s|false=>post (.exit id') s):=hp
   cases hb:Nat.beq id' id with
   |true=>rw[if_pos (zz4 hb)];rw[hb]at hp;exact hp
   |false=>
    have:id'≠id:=fun e=>by rw[e]at hb;simp at hb
    rw[if_neg this];rw[hb]at hp;exact hp
  |_=>exact hp)
theorem zk8 {c:Operand}{x y:Code}{b:Bool}{u v:Option Q}(hb:evO s c=some (.c (.d (.bool b)))) (h:bf b u v=some q) (ht:u=some q→Tri E x s post) (hf:v=some q→Tri E y s post):
 Tri E (.cond c x y) s post:=
 Tri.cond hb (fun e=>ht (by subst e;exact h)) fun e=>hf (by subst e;exact h)
theorem Tri.keep (tk sk:List Nat){s':St}{c:Code}(hk:Av.keep tk sk s=some s')(h:Tri E c s' post):Tri E c s post:=
 Tri.weaken (fun _ _=>zby hk) h
def At (E:Env)(L:List Oper)(i:Nat)(s:St)(K:St→Prop):Prop:=Ops E L.toArray (L.drop i) s K
theorem z04 {id:Nat}{L:List Oper}(h:At E L 0 s (post .normal)):Tri E (.region id L.toArray false) s post:=Tri.region h
variable {L:List Oper} {i:Nat} {K:St→Prop}
theorem At.done (hi:Nat.ble L.length i=true)(h:K s):At E L i s K:=by
 unfold At;rw[List.drop_eq_nil_of_le (zz7 hi)];exact Ops.nil h
theorem At.seg (n:Nat)(tk sk:List Nat){s':St}{c:Prop}(he:z5z E.P E.N L.toArray ((L.drop i).take n) tk sk s=some (s',c))(hc:c)(h:At E L (i+n) s' K):At E L i s K:=by
 unfold At at h ⊢;have:=Ops.seg he hc h
 rwa[←List.drop_drop,List.take_append_drop]at this
theorem At.one {o:Oper}(ho:L[i]?=some o){s':St}(h1:One E L.toArray o s s')(h:At E L (i+1) s' K):At E L i s K:=by
 unfold At at h ⊢;obtain⟨hlt,he⟩:=List.getElem?_eq_some_iff.1 ho;rw[List.drop_eq_getElem_cons hlt,he];exact Ops.one h1 h
theorem At.case (f:Bool→St){b:Bool}{u v:Option Q}(h:bf b u v=some q)(ht:u=some q→At E L i (f true) K)(hf:v=some q→At E L i (f false) K):At E L i (f b) K:=by
 cases b
 ·exact hf h
 ·exact ht h
theorem At.keep (tk sk:List Nat){s':St}(hk:Av.keep tk sk s=some s')(h:At E L i s' K):At E L i s K:=
 fun a w hs=>h a w (zby hk hs)
theorem At.call {o:Oper}{cl:Call}{f:FuncId}{caps:List D}{xs args:List AV}{res:AV}(ho:L[i]?=some o)
 (hop:o.op= .call cl) (hw:z0o L.toArray s o=some true) (hd:dstOk E.N o.dst=true) (hc:z6i s cl=some (f,caps)) (hx:z7q s cl caps=some xs)
 (hle:AVsArg s xs args) (hfl:z6n args=true) (hsol:res.solid=true) (hS:Summ E.P f args [] res []) (h:At E L (i+1) (putO s o.dst res) K):At E L i s K:=
 At.one ho (One.call hop hw hd hc hx hle hfl hsol hS) h
theorem At.callP {o:Oper}{cl:Call}{f:FuncId}{caps:List D}{args:List AV}{res:AV}(hS:Summ E.P f args [] res [])(ho:L[i]?=some o)
 (hop:o.op= .call cl) (hw:z0o L.toArray s o=some true) (hd:dstOk E.N o.dst=true) (hc:z6i s cl=some (f,caps)) (hx:z7q s cl caps=some args)
 (hfl:z6n args=true) (hsol:res.solid=true) (h:At E L (i+1) (putO s o.dst res) K):At E L i s K:=
 At.one ho (One.call hop hw hd hc hx (AVsArg.refl _ _) hfl hsol hS) h
theorem At.le (fz:List Nat)(hfz: ∀k∈fz,k∉E.lk)(s':St)(ht:LeT s fz s'.tm)(hs:LeS s fz s'.sl)(h:At E L i s' K):At E L i s K:=
 Ops.le fz hfz s' ht hs h
theorem z1z {X:Type}[Inhabited X](e:X→List D)(xs:List X)(i:Nat)(hi:i<xs.length):e (xs.getD i zzd)=(xs.map e).getD (0+i) []:=by
 rw[zzb,List.getD_eq_getElem?_getD,List.getD_eq_getElem?_getD,List.getElem?_map,List.getElem?_eq_getElem hi];rfl
def z1k (k:IntKind)(n:Int):List D:=[.int k n]
def z1v (s:ByteArray):List D:=[.str s]
def bs (l:List Nat):ByteArray:=⟨(l.map UInt8.ofNat).toArray⟩
theorem Tri.lenOf {t es n:Nat}{get:Nat→List D}{c:Code}(ht:look s.tm t=some (.c (.d (.list es n get)))) (h:n≤maxN→Tri E c s post):Tri E c s post:=fun a w hs=>by
 obtain⟨G,φ,hs'⟩:=hs;obtain⟨v,_,hr⟩:=hs'.tm t _ ht;have hr:RelD G w (.list es n get) v:=hr.1
 have hn:n≤maxN:=by
  cases hr with
  |empty _ _ _ _=>exact Nat.zero_le _
  |list _ _ _ _ _ _ _ _ _ hm _ _ _=>exact hm
 exact h hn a w ⟨G,φ,hs'⟩
theorem zjm {t es n:Nat}{get:Nat→List D}{c:Code}(ht:look s.tm t=some (.c (.view es n get)))(h:n≤maxN→Tri E c s post):Tri E c s post:=fun a w hs=>by
 obtain⟨G,φ,hs'⟩:=hs;obtain⟨v,_,hr⟩:=hs'.tm t _ ht;have hn:n≤maxN:=by
  rcases hr.1 with⟨h0,_⟩|⟨_,_,_,_,_,_,hm,_⟩
  ·omega
  ·exact hm
 exact h hn a w ⟨G,φ,hs'⟩
theorem zbm {t k es off n N:Nat}{get:Nat→List D}{c:Code}(ht:look s.tm t=some (.c (.own k es off n)))(hk:look s.sl k=some (.vec es N get))(hn:n≤N)(h:n≤maxN→Tri E c s post):Tri E c s post:=fun a w hs=>by
 obtain⟨G,φ,hs'⟩:=hs;obtain⟨h1,_⟩:=hs'.sl k _ hk;exact h (by omega) a w ⟨G,φ,hs'⟩
def idx (ti i:Nat)(s:St):St:=s.put ti (.c (.d (.int .i64 (i:Int))))
@[reducible] def zh6 (cid b ti:Nat) (σ F:S→St) (RT:R→St→Prop) (i:Nat):Ctl S R→Exit→St→Prop
 | .next st,.normal,s=>s=idx ti i (σ st)
 | .next st,.exit id,s=>id=cid∧s=idx ti i (σ st)
 | .brk st,.exit id,s=>id=b∧s=F st
 | .ret x,.ret,s=>RT x s
 |_,_,_=>False
@[reducible] def zdj (b:Nat) (σ F:S→St) (RT:R→St→Prop):Ctl S R→Exit→St→Prop
 | .next st,.normal,s=>s=σ st
 | .brk st,.exit id,s=>id=b∧s=F st
 | .ret x,.ret,s=>RT x s
 |_,_,_=>False
@[reducible] def zj7 (F:S→St) (RT:R→St→Prop):Out S R→Exit→St→Prop
 | .done st,.normal,s=>s=F st
 | .ret x,.ret,s=>RT x s
 |_,_,_=>False
theorem zg8 {b:Nat}{c:Code}{B:S→Option (Ctl S R)}(RT:R→St→Prop)(σ F:S→St){fuel:Nat}{st0:S}{o:Out S R}(h:loopN B fuel st0=some o)
 (hround: ∀st r,B st=some r→Tri E c (σ st) (zdj b σ F RT r)):Tri E (.block b (.loop c)) (σ st0) (zj7 F RT o):=by
 refine Tri.block (Tri.loop (fun n s=> ∃st,s=σ st∧loopN B n st=some o) ?_ (n:=fuel) ⟨st0,rfl,h⟩);rintro n s ⟨st,rfl,hn⟩;cases n with
 |zero=>cases hn
 |succ n=>
  simp only[loopN]at hn;cases hB:B st with
  |none=>rw[hB]at hn;cases hn
  |some r=>
   rw[hB]at hn;refine(hround st r hB).mono fun e s' hp=>?_;cases r with
   |next st'=>
    cases e with
    |normal=>exact⟨n,Nat.lt_succ_self _,st',hp,hn⟩
    |_=>exact hp.elim
   |brk st'=>
    cases hn;cases e with
    |exit id=>
     obtain⟨rfl,rfl⟩:=hp;show inB id _ (.exit id) _;simp[inB]
    |_=>exact hp.elim
   |ret x=>
    cases hn;cases e with
    |ret=>exact hp
    |_=>exact hp.elim
theorem zjn {b:Nat}{c:Code}{B:Nat→S→Option (Ctl S R)}(RT:R→St→Prop)(σ:Nat→S→St)(F:S→St){n:Nat}{st0:S}{o:Out S R}(h:z0k B n 0 st0=some o)
 (hround: ∀i st r,i<n→B i st=some r→Tri E c (σ i st) (match r with| .next st'=>fun e s=>e= .normal∧s=σ (i+1) st'| .brk st'=>fun e s=>e= .exit b∧s=F st'| .ret x=>fun e s=>e= .ret∧RT x s))
 (hstop: ∀st,Tri E c (σ n st) (fun e s=>e= .exit b∧s=F st)):Tri E (.block b (.loop c)) (σ 0 st0) (zj7 F RT o):=by
 refine Tri.block (Tri.loop (fun m s=> ∃i st,m+i=n∧s=σ i st∧z0k B m i st=some o) ?_ (n:=n) ⟨0,st0,by omega,rfl,h⟩);rintro m s ⟨i,st,hm,rfl,hn⟩;cases m with
 |zero=>
  cases hn;have:i=n:=by omega
  subst this;refine(hstop st).mono fun e s' ⟨h1,h2⟩=>?_;subst h1 h2;show inB b _ (.exit b) _;simp[inB]
 |succ m=>
  simp only[z0k]at hn;cases hB:B i st with
  |none=>rw[hB]at hn;cases hn
  |some r=>
   rw[hB]at hn;refine(hround i st r (by omega) hB).mono fun e s' hp=>?_;cases r with
   |next st'=>
    obtain⟨rfl,rfl⟩:=hp;exact⟨m,Nat.lt_succ_self _,i+1,st',by omega,rfl,hn⟩
   |brk st'=>
    cases hn;obtain⟨rfl,rfl⟩:=hp;show inB b _ (.exit b) _;simp[inB]
   |ret x=>
    cases hn;obtain⟨rfl,hp⟩:=hp;exact hp
theorem       z76 {b : Nat} {c : Code} {B : S → Option (Ctl S R)} {kn : S → Option Q} {kr : R → Option Q} {st0 : S} {fuel : Nat} (RT : R → St → Prop) (σ F : S → St)
    (h : outK (loopN B fuel st0) kn kr = some q) (hround : ∀ st r, B st = some r → Tri E c (σ st) (      zdj b σ F RT r))
    (hrest : ∀ st, kn st = some q → post .normal (F st)) (hret : ∀ x s', kr x = some q → RT x s' → post .ret s') : Tri E (.block b (.loop c)) (σ st0) post := by
  obtain ⟨s', ho, hk⟩ | ⟨x, ho, hk⟩ :=       zdg h
  · refine (      zg8 RT σ F ho hround).mono fun e s hp => ?_
    cases e with
    | normal => have hp : s = F s' := hp
                subst hp; exact hrest _ hk
    | _ => exact hp.elim
  · refine (      zg8 RT σ F ho hround).mono fun e s hp => ?_
    cases e with
    | ret => exact hret _ _ hk hp
    | _ => exact hp.elim
theorem zld {i:Nat}(h:i<maxN):zzi.wrap ((i:Int)+1)=((i+1:Nat):Int):=by
 unfold maxN at h;rw[z2x (by omega) (by omega)];simp
theorem Tri.range {ti tc n b cid id1 id2 : Nat} {L1 L2 : List Oper} {body : Code} {B : Nat → S → Option (Ctl S R)} {kn : S → Option Q} {kr : R → Option Q} {st0 : S} (RT : R → St → Prop) (σ F : S → St) (bb : Nat → Bool)
    (tk sk tkF skF tk2 sk2 : List Nat) (h : outK (   z0k B n 0 st0) kn kr = some q) (hn : n ≤ maxN) (hbc : Nat.beq b cid = false)
    (h1 : ∀ i st, ∃ c,     z5z E.P E.N L1.toArray L1 tk sk (idx ti i (σ st)) = some ((idx ti i (σ st)).put tc (.c (.d (.bool (bb i)))), c) ∧ c)
    (hbt : ∀ i, i < n → bb i = true) (hbf : bb n = false) (hF : ∀ st, Av.keep tkF skF ((idx ti n (σ st)).put tc (.c (.d (.bool false)))) = some (F st))
    (h2 : ∀ i st, ∃ c,     z5z E.P E.N L2.toArray L2 tk2 sk2 (idx ti i (σ st)) = some ((σ st).put ti (.c (.d (.int .i64 (        zzi.wrap ((i : Int) + 1))))), c) ∧ c)
    (hbody : ∀ i st c, i < n → B i st = some c → Tri E body ((idx ti i (σ st)).put tc (.c (.d (.bool true)))) (     zh6 cid b ti σ F RT i c))
    (hrest : ∀ st, kn st = some q → post .normal (F st)) (hret : ∀ x s', kr x = some q → RT x s' → post .ret s') :
    Tri E (.block b (.loop (.seq (.region id1 L1.toArray false) (.seq (.cond (.tmp tc) .skip (.exit b)) (.seq (.block cid body) (.region id2 L2.toArray false)))))) (idx ti 0 (σ st0)) post := by
  have hfirst : ∀ i st post', Tri E (.seq (.cond (.tmp tc) .skip (.exit b)) (.seq (.block cid body) (.region id2 L2.toArray false))) ((idx ti i (σ st)).put tc (.c (.d (.bool (bb i))))) post' →
      Tri E (.seq (.region id1 L1.toArray false) (.seq (.cond (.tmp tc) .skip (.exit b)) (.seq (.block cid body) (.region id2 L2.toArray false)))) (idx ti i (σ st)) post' := fun i st post' ht => by
    obtain ⟨c, e1, e2⟩ := h1 i st
    refine      z02 (Tri.region ?_)
    have := Ops.seg (rest := []) e1 e2 (Ops.nil (K := (thenS E _ post') .normal) ht)
    simpa using this
  have hlook : ∀ i st (x : Bool), evO ((idx ti i (σ st)).put tc (.c (.d (.bool x)))) (.tmp tc) = some (.c (.d (.bool x))) := fun i st x => by
    simp [evO, St.put,       z0x]
  obtain ⟨s', ho, hk⟩ | ⟨x, ho, hk⟩ :=       zdg h
  all_goals
    refine (       zjn (E := E) (b := b) RT (fun i st => idx ti i (σ st)) F ho (fun i st r hi hB => hfirst i st _ ?_) (fun st => hfirst n st _ ?_)).mono fun e s' hp => ?_
  case inl.refine_1 | inr.refine_1 =>
    rw [hbt i hi]
    refine      z02 (Tri.cond (hlook i st true) (fun _ => Tri.skip ?_) (fun e => by cases e))
    refine      z02 (       z0p ((hbody i st r hi hB).mono fun e s' hp => ?_))
    have fin : ∀ st', s' = idx ti i (σ st') → Tri E (.region id2 L2.toArray false) s' (fun e s => e = .normal ∧ s = idx ti (i + 1) (σ st')) := fun st' e => by
      subst e
      obtain ⟨c, e1, e2⟩ := h2 i st'
      refine Tri.region ?_
      have := Ops.seg (rest := []) e1 e2 (Ops.nil (K := fun s => Exit.normal = .normal ∧ s = idx ti (i + 1) (σ st')) ⟨rfl, by rw [      zld (by omega)]; rfl⟩)
      simpa using this
    cases r with
    | next st' =>
      cases e with
      | normal => exact fin st' hp
      | exit id =>
        obtain ⟨rfl, hp⟩ := hp
        show (match Nat.beq id id with | true => _ | false => _)
        rw [Nat.beq_refl]
        exact fin st' hp
      | _ => exact hp.elim
    | brk st' =>
      cases e with
      | exit id =>
        obtain ⟨rfl, hp⟩ := hp
        show (match Nat.beq id cid with | true => _ | false => _)
        rw [hbc]
        exact ⟨rfl, hp⟩
      | _ => exact hp.elim
    | ret x =>
      cases e with
      | ret => exact ⟨rfl, hp⟩
      | _ => exact hp.elim
  case inl.refine_2 | inr.refine_2 =>
    rw [hbf]
    refine      z02 (Tri.cond (hlook n st false) (fun e => by cases e) (fun _ => Tri.keep tkF skF (hF st) (Tri.exit ⟨rfl, rfl⟩)))
  case inl.refine_3 =>
    cases e with
    | normal => have hp : s' = F _ := hp
                subst hp; exact hrest _ hk
    | _ => exact hp.elim
  case inr.refine_3 =>
    cases e with
    | ret => exact hret _ _ hk hp
    | _ => exact hp.elim
end
end Go.Av
/-
 Av,part W:rules over lists.
-/
namespace Go.Av
open Go
theorem zi2 {X:Type}[Inhabited X](e:X→List D)(xs:List X)(m:Nat): ∀i,i<m→e (xs.getD i zzd)=(fun i=>e (xs.getD i zzd)) (0+i):=fun i _=>by
 show _=e (xs.getD (0+i) zzd);rw[zzb]
theorem zda {X:Type}[Inhabited X](xs ys:List X)(i:Nat):(xs++ys).getD i zzd=if i<xs.length then xs.getD i zzd else ys.getD (i-xs.length) zzd:=by
 simp only[List.getD_eq_getElem?_getD,List.getElem?_append];split<;>rfl
section
variable {E:Env} {s:St} {X:Type} [Inhabited X]
theorem AppOk.of {P:Program}{sT xT e:TypeId}{es:Nat}(e':TypeId)(bs:Nat)(z:List C)(h1:P.underlying sT=some (.slice e))(h2:P.underlying xT=some (.slice e'))(h3:sizeT P e=some es)
 (h4:z8l P e=some bs) (h5:Nat.ble bs 256=true) (h6:zeroCells P e=some z) (h7:Nat.beq z.length es=true):AppOk P sT xT e es:=
 ⟨h1,⟨e',h2⟩,h3,⟨bs,h4,zz7 h5⟩,⟨z,h6,zz4 h7⟩⟩
theorem z6y {ops:Array Oper}{o:Oper}{t e:TypeId}{es d:Nat}
 (hop:o.op= .buildSlice t 0 #[]) (hw:z0o ops s o=some true) (hd:o.dst=some d) (hlt:Nat.blt d E.N=true) (hu:E.P.underlying t=some (.slice e)) (hsz:sizeT E.P e=some es):
 One E ops o s (s.put d (.c .zero)):=fun a w hs=>by
 obtain⟨G,φ,h⟩:=hs;refine⟨z1o h hw,fun next Q hn=>?_⟩;have hrun:(Instr.buildSlice t 0 ((#[]:Array (Nat×Operand)).map fun p=>(p.1,a.eval p.2))).run E.P w= .ok (.slice (some ⟨w.heap.size,0,none⟩) 0 0) (w.alloc (.cells #[] e)):=by
  unfold Instr.buildSlice;simp only[zz5,run_underlying hu,zz1,z27 hsz];have hr0: ∀f:Nat→Value,(Array.range 0).map f= #[]:=fun f=>by simp
  simp[z5i,Instr.fill,hr0]
 unfold Oper.wp;have he:execOp a.eval o=(do pure (.value (←Instr.buildSlice t 0 ((#[]:Array (Nat×Operand)).map fun p=>(p.1,a.eval p.2)))):Sem Next):=by unfold execOp;rw[hop]
 rw[he];simp only[zz5,hrun,zz1,zza,Oper.upon,hd];have hk:Keep w.heap.size (fun _=>False) w (w.alloc (.cells #[] e)):=⟨rfl,⟨rfl,zze _⟩,rfl,by simp,fun b hb _=>by
  show(w.heap.push _)[b]?=_;rw[Array.getElem?_push,if_neg (by omega)]⟩
 have hg:=h.grow hk (fun _ hb=>hb) (fun _ hb=> .inl hb) fun b hb=>by have:=h.gsz b hb;simp;omega
 exact hn _ _ ⟨G,φ,hg.put (zzk.mp hlt) (z0h ⟨_,rfl⟩ rfl)⟩
theorem z2q {ops:Array Oper}{o:Oper}{d k:Nat}{sT xT e:TypeId}{es:Nat}{b x:Operand}{y:AV}(enc:X→List D)(xs ys:List X)(hkx:anyB (Nat.beq k) E.fx=false)
 (hop:o.op= .call ⟨.builtin .append, #[b,x], #[sT,xT]⟩) (hw:z0o ops s o=some true) (hd:o.dst=some d) (hlt:Nat.blt d E.N=true)
 (hok:AppOk E.P sT xT e es) (hb:evO s b=some (.c (.own k es 0 xs.length))) (hk:look s.sl k=some (.vec es xs.length (fun i=>enc (xs.getD i zzd)))) (hx:evO s x=some y)
 (hsrc:SrcOf s y es ys.length (fun i=>enc (ys.getD i zzd))) (hlim:xs.length+ys.length≤lim):
 One E ops o s (((s.drop k).slot k (.vec es (xs++ys).length (fun i=>enc ((xs++ys).getD i zzd)))).put d (.c (.own k es 0 (xs++ys).length))):=by
 have:=zgw hkx hop hw hd hlt hok hb hk (zze _) hx hsrc hlim;rw[List.length_append];have hg:z8i xs.length (fun i=>enc (xs.getD i zzd)) (fun i=>enc (ys.getD i zzd))=fun i=>enc ((xs++ys).getD i zzd):=by
  funext i;unfold z8i;rw[zda];split<;>rfl
 rw[hg]at this;exact this
theorem zg6 {ops:Array Oper}{o:Oper}{d:Nat}{t e:TypeId}{es bs:Nat}{ln cp:Operand}{kn kc:IntKind}{n c:Int}{z:List C}(enc:X→List D)(x:X)
 (hop:o.op= .makeSlice t ln cp) (hw:z0o ops s o=some true) (hd:o.dst=some d) (hlt:Nat.blt d E.N=true) (hnr:s.noRef d=true)
 (hu:E.P.underlying t=some (.slice e)) (hsz:sizeT E.P e=some es) (hes:Nat.blt 0 es=true) (hbs:z8l E.P e=some bs) (hb:Nat.ble bs 256=true)
 (hz:zeroCells E.P e=some z) (hze:Nat.beq z.length es=true) (hcs:CsLe s [] z ((enc x).map .d)) (hdl:Nat.beq (enc x).length es=true)
 (hn:evO s ln=some (.c (.d (.int kn n)))) (hc:evO s cp=some (.c (.d (.int kc c)))) (hb0:0≤n) (hnc:n≤c) (hlim:c≤lim) (hdef:enc zzd=enc x):
 One E ops o s ((s.slot d (.vec es (zz9 n.toNat x).length (fun i=>enc ((zz9 n.toNat x).getD i zzd)))).put d (.c (.own d es 0 (zz9 n.toNat x).length))):=by
 have:=One.makeSlice hop hw hd hlt hnr hu hsz hes hbs hb hz hze hcs hdl hn hc hb0 hnc hlim;rw[List.length_replicate];have hg:(fun _:Nat=>enc x)=fun i=>enc ((zz9 n.toNat x).getD i zzd):=by
  funext i;rw[List.getD_eq_getElem?_getD,List.getElem?_replicate];split
  ·rfl
  ·exact hdef.symm
 rw[hg]at this;exact this
theorem z1s {ops:Array Oper}{o:Oper}{t:TypeId}{p v:Operand}{k es i o0 sz:Nat}{y:AV}{xs:List C}{ds:List D}(enc:X→List D)(ys:List X)(x:X)
 (hop:o.op= .store t p v) (hw:z0o ops s o=some true) (hd:dstOk E.N o.dst=true) (hp:evO s p=some (.c (.vptr k es i o0))) (hk:look s.sl k=some (.vec es ys.length (fun i=>enc (ys.getD i zzd)))) (hi:i<ys.length)
 (hx:evO s v=some y) (hst:z7g y=some xs) (hcs:CsLe s [] xs (ds.map .d)) (hsz:sizeT E.P t=some sz) (hle:Nat.beq sz ds.length=true) (hin:Nat.ble (o0+ds.length) es=true)
 (hwr:wrD (enc (ys.getD i zzd)) o0 ds=enc x):
 One E ops o s (putO (s.slot k (.vec es (ys.set i x).length (fun j=>enc ((ys.set i x).getD j zzd)))) o.dst (.c .any)):=by
 have:=zgx hop hw hd hp hk hi hx hst hcs hsz hle hin;rw[List.length_set];have hg:zdl (fun i=>enc (ys.getD i zzd)) i (wrD (enc (ys.getD i zzd)) o0 ds)=fun j=>enc ((ys.set i x).getD j zzd):=by
  funext j;unfold zdl;by_cases e:j=i
  ·subst e;rw[if_pos rfl,hwr,List.getD_eq_getElem?_getD,List.getElem?_set_self hi];rfl
  ·rw[if_neg e];show enc (ys.getD j zzd)=enc ((ys.set i x).getD j zzd);rw[List.getD_eq_getElem?_getD,List.getD_eq_getElem?_getD,List.getElem?_set_ne (fun h=>e h.symm)]
 rw[hg]at this;exact this
def sub (xs:List X)(l h:Int):List X:=(xs.drop l.toNat).take (h.toNat-l.toNat)
theorem zk5 {xs:List X}{l h:Int}(h0:0≤l)(h1:l≤h)(h2:h≤(xs.length:Int)):(Av.sub xs l h).length=h.toNat-l.toNat:=by
 unfold sub;rw[List.length_take,zzc];omega
theorem zm8 {xs:List X}{l h:Int}{i:Nat}(hi:i<h.toNat-l.toNat):(Av.sub xs l h).getD i zzd=xs.getD (l.toNat+i) zzd:=by
 unfold sub;rw[List.getD_eq_getElem?_getD,List.getD_eq_getElem?_getD,List.getElem?_take,if_pos hi,List.getElem?_drop]
theorem CLe.subD {fz:List Nat}{es:Nat}(enc:X→List D){xs:List X}{l h:Int}(h0:0≤l)(h1:l≤h)(h2:h≤(xs.length:Int)):
 CLe s fz (.d (.list es (h.toNat-l.toNat) (fun i=>enc (xs.getD (l.toNat+i) zzd)))) (.d (.list es (Av.sub xs l h).length (fun i=>enc ((Av.sub xs l h).getD i zzd)))):=
 .list (zk5 h0 h1 h2) fun i hi=>by rw[zm8 hi]
theorem SimE.newOwn {a:Act}{w:World}(h:SimE E s a w){t k es:Nat}{get:Nat→List D}(hkx:anyB (Nat.beq k) E.fx=false)(hz:look s.tm t=some (.c .zero))(hk:s.noRef k=true):
 SimE E ((s.slot k (.vec es 0 get)).put t (.c (.own k es 0 0))) a w:=by
 obtain⟨G,φ,h⟩:=h;have hs:=h.newVec0 (z7w hkx) hk es get
 obtain⟨v,hv,hr⟩:=h.tm t _ hz;refine⟨G,upd φ k none,{hs with tm:=fun t' x hx=>?_}⟩;simp only[St.put,z0x]at hx;by_cases e:t=t'
 ·subst e;rw[if_pos rfl]at hx;cases hx;obtain⟨A,rfl⟩:=hr.1;exact⟨_,hv,z0h (.inl ⟨rfl,A,rfl⟩) rfl⟩
 ·rw[if_neg e]at hx;exact hs.tm t' x hx
theorem Tri.newOwn {c:Code}{post:Exit→St→Prop}{t k es:Nat}(get:Nat→List D)(hkx:anyB (Nat.beq k) E.fx=false)(hz:look s.tm t=some (.c .zero))(hk:s.noRef k=true)
 (h:Tri E c ((s.slot k (.vec es 0 get)).put t (.c (.own k es 0 0))) post):Tri E c s post:=fun a w hs=>h a w (hs.newOwn hkx hz hk)
theorem At.newOwn {L:List Oper}{i:Nat}{K:St→Prop}{t k es:Nat}(get:Nat→List D)(hkx:anyB (Nat.beq k) E.fx=false)(hz:look s.tm t=some (.c .zero))(hk:s.noRef k=true)
 (h:At E L i ((s.slot k (.vec es 0 get)).put t (.c (.own k es 0 0))) K):At E L i s K:=fun a w hs=>h a w (hs.newOwn hkx hz hk)
theorem At.eqS {L:List Oper}{i:Nat}{K:St→Prop}(s':St)(e:s=s')(h:At E L i s' K):At E L i s K:=e▸h
theorem Tri.eqS {c:Code}{post:Exit→St→Prop}(s':St)(e:s=s')(h:Tri E c s' post):Tri E c s post:=e▸h
theorem At.callA {L:List Oper}{i:Nat}{K:St→Prop}{o:Oper}{cl:Call}{f:FuncId}{caps:List D}{xs args:List AV}{res:AV}(hS:Summ E.P f args [] res [])(ho:L[i]?=some o)
 (hop:o.op= .call cl) (hw:z0o L.toArray s o=some true) (hd:dstOk E.N o.dst=true) (hc:z6i s cl=some (f,caps)) (hx:z7q s cl caps=some xs) (hle:AVsArg s xs args)
 (hfl:z6n args=true) (hsol:res.solid=true) (h:At E L (i+1) (putO s o.dst res) K):At E L i s K:=
 At.one ho (One.call hop hw hd hc hx hle hfl hsol hS) h
theorem AVArg.view {k es:Nat}(enc:X→List D)(xs:List X)(hk:look s.sl k=some (.vec es xs.length (fun i=>enc (xs.getD i zzd)))):
 AVArg s (.c (.own k es 0 xs.length)) (.c (.view es xs.length (fun i=>enc (xs.getD i zzd)))):=
 .c (.own hk (by omega) rfl (zi2 enc xs _))
theorem CLe.frozen {k es:Nat}{fz:List Nat}(enc:X→List D)(xs:List X)(hk:look s.sl k=some (.vec es xs.length (fun i=>enc (xs.getD i zzd)))) (hf:k∈fz):
 CLe s fz (.own k es 0 xs.length) (.d (.list es xs.length (fun i=>enc (xs.getD i zzd)))):=
 .own hk hf (by omega) rfl (zi2 enc xs _)
theorem zcu {G:Nat→Prop}{φ:Nat→Option Loc}{a:Act}{w:World}{tm:List (Nat×AV)}{sl:List (Nat×Slot)}{k es n:Nat}{get get':Nat→List D}
 (h:Sim E ⟨tm,(k,.vec es n get)::sl⟩ G φ a w) (hg: ∀i,i<n→get' i=get i):Sim E ⟨tm,(k,.vec es n get')::sl⟩ G φ a w:=by
 have hin: ∀k' c,look ((k,Slot.vec es n get')::sl) k'=some c→(k'=k∧c= .vec es n get')∨(k'≠k∧look ((k,Slot.vec es n get)::sl) k'=some c):=fun k' c hc=>by
  rw[z0x]at hc;by_cases e:k=k'
  ·subst e;rw[if_pos rfl]at hc;cases hc;exact .inl ⟨rfl,rfl⟩
  ·rw[if_neg e]at hc;exact .inr ⟨fun x=>e x.symm,by rw[z0x,if_neg e];exact hc⟩
 have hk:look ((k,Slot.vec es n get)::sl) k=some (.vec es n get):=by simp[z0x]
 have hex: ∀k' c,look ((k,Slot.vec es n get')::sl) k'=some c→ ∃c0,look ((k,Slot.vec es n get)::sl) k'=some c0:=fun k' c hc=>by
  rcases hin k' c hc with⟨rfl,_⟩|⟨_,h⟩
  ·exact⟨_,hk⟩
  ·exact⟨_,h⟩
 exact
 {h with
  sl:=fun k' c hc=>by
   rcases hin k' c hc with⟨rfl,rfl⟩|⟨_,hc⟩
   ·obtain⟨h1,h2⟩:=h.sl _ _ hk;exact⟨h1,h2.imp id fun⟨l,hl,hn,ht,he⟩=>⟨l,hl,hn,ht,fun i hi=>by rw[hg i hi];exact he i hi⟩⟩
   ·exact h.sl k' c hc
  inj:=fun k1 k2 c1 c2 l1 l2 h1 h2=>by
   obtain⟨_,h1⟩:=hex _ _ h1;obtain⟨_,h2⟩:=hex _ _ h2;exact h.inj _ _ _ _ _ _ h1 h2
  own:=fun k' c l h1 h2=>by
   obtain⟨_,h1⟩:=hex _ _ h1;exact h.own _ _ _ h1 h2
  fix:=fun k' c hx h1=>by
   obtain⟨_,h1⟩:=hex _ _ h1;exact h.fix _ _ hx h1}
theorem z3j {ops:Array Oper}{o:Oper}{t e:TypeId}{len es d:Nat}{parts:Array (Nat×Operand)}{z cells:List C}(enc:X→List D)(xs:List X)
 (hop:o.op= .buildSlice t len parts) (hw:z0o ops s o=some true) (hd:o.dst=some d) (hlt:Nat.blt d E.N=true) (hnr:s.noRef d=true)
 (hu:E.P.underlying t=some (.slice e)) (hsz:sizeT E.P e=some es) (hz:zeroCells E.P e=some z) (hze:Nat.beq z.length es=true) (hes:Nat.blt 0 es=true) (hle:Nat.ble (len*es) 16777216=true)
 (hf:fillC (fun i=>some (i*es,es)) (repC z (len*es)) (parts.toList.map fun p=>(p.1,evO s p.2))=some cells) (hlen:Nat.beq xs.length len=true) (hall:AllLe s es cells (xs.map enc)):
 One E ops o s ((s.slot d (.vec es xs.length (fun i=>enc (xs.getD i zzd)))).put d (.c (.own d es 0 xs.length))):=by
 have hl:=zz4 hlen;refine(One.buildSlice hop hw hd hlt hnr hu hsz hz hze hes hle hf (by simpa using hlen) hall).weaken fun a w hs=>?_;obtain⟨G,φ,h⟩:=hs;rw[hl];exact⟨G,φ,zcu h fun i hi=>by
  have:=z1z enc xs i (by omega);rw[zzb]at this;exact this⟩
theorem zgz {P:Program}{w:World}{t e:TypeId}(hu:P.underlying t=some (.slice e))(D:Nat)(A:Option Addr)(n cap:Nat):
 (Op.equalIn (D+1) t (.slice A n cap) (.slice none 0 0)).run P w= .ok A.isNone w:=by
 simp only[Op.equalIn,zz5,run_underlying hu,zz1];cases A<;>rfl
theorem z8a {P:Program}{w:World}{t e:TypeId}{x:Operand}(hu:P.underlying t=some (.slice e))(A:Option Addr)(n cap:Nat):
 (do eqGuard .eql t x (.const (.slice none 0 0)) (.slice A n cap) (.slice none 0 0);Go.binOp .eql t (.slice A n cap) (.slice none 0 0):Sem Value).run P w= .ok (.bool A.isNone) w:=by
 have h1:(eqGuard .eql t x (.const (.slice none 0 0)) (.slice A n cap) (.slice none 0 0)).run P w= .ok () w:=rfl;have h2:(Op.equal t (.slice A n cap) (.slice none 0 0)).run P w= .ok A.isNone w:=zgz hu 9999 A n cap
 have h3:(Go.binOp .eql t (.slice A n cap) (.slice none 0 0)).run P w= .ok (.bool A.isNone) w:=by
  show(do pure (.bool (←Op.equal t (.slice A n cap) (.slice none 0 0))):Sem Value).run P w=_;simp only[zz5,h2,zz1,zza]
 simp only[zz5,h1,zz1,h3]
theorem z9q {L:List Oper}{i:Nat}{K:St→Prop}{o:Oper}{t e yt:TypeId}{x:Operand}{es n d:Nat}{get:Nat→List D}(ho:L[i]?=some o)
 (hop:o.op= .binOp .eql t x (.const (.slice none 0 0)) yt) (hw:z0o L.toArray s o=some true) (hd:o.dst=some d) (hlt:Nat.blt d E.N=true)
 (hu:E.P.underlying t=some (.slice e)) (hx:evO s x=some (.c (.d (.list es n get))))
 (h1:n=0→At E L (i+1) (s.put d (.c (.d (.bool true)))) K) (h2:At E L (i+1) (s.put d (.c (.d (.bool false)))) K):At E L i s K:=fun a w hs Q hQ=>by
 obtain⟨hlt',he⟩:=List.getElem?_eq_some_iff.1 ho;rw[List.drop_eq_getElem_cons hlt',he];obtain⟨G,φ,h⟩:=hs;unfold wpList;rw[if_pos (z1o h hw)];left;have hv:RelD G w (.list es n get) (a.eval x):=(h.ev hx).1
 have hex:execOp a.eval o=(do pure (.value (←(do eqGuard .eql t x (.const (.slice none 0 0)) (a.eval x) (.slice none 0 0);Go.binOp .eql t (a.eval x) (.slice none 0 0):Sem Value))):Sem Next):=by unfold execOp;rw[hop];rfl
 have key: ∀b,(do eqGuard .eql t x (.const (.slice none 0 0)) (a.eval x) (.slice none 0 0);Go.binOp .eql t (a.eval x) (.slice none 0 0):Sem Value).run E.P w= .ok (.bool b) w→(b=true→n=0)→o.wp E.P a w (wpList E.P L.toArray Q (L.drop (i+1))) Q:=fun b hb hn=>by
  unfold Oper.wp;rw[hex];simp only[zz5]at hb ⊢;rw[hb];simp only[zz1,zza,Oper.upon,hd];have hp:SimE E (s.put d (.c (.d (.bool b)))) (a.put (some d) (.bool b)) w:=⟨G,φ,h.put (zzk.mp hlt) (z0h (RelD.bool _) rfl)⟩
  cases b with
  |true=>exact h1 (hn rfl) _ _ hp Q hQ
  |false=>exact h2 _ _ hp Q hQ
 generalize a.eval x=u at*;cases hv with
 |empty _ _ A cap=>
  cases A with
  |none=>exact key true (z8a hu _ _ _) fun _=>rfl
  |some A=>exact key false (z8a hu _ _ _) fun _=>rfl
 |list _ _ _ b off cap vals hG hn hm hc hl hr=>exact key false (z8a hu _ _ _) fun e=>by cases e
theorem DOk.stepP {ops:Array Oper}{o:Oper}{x:DOp}(f:Bool→Step){p v:Bool}(hp:p=v)(hw: ∀r,z0o ops (x.need.app r) o=some true)(he: ∀r,z3e E.P (x.need.app r) o.dst o.op=some (f p))(hc:(f v).cond)
 (hok:okDst E.N x.need o.dst (f v)=true) (hm:mksOk x.mks (f v) o.dst=true)
 (heff: ∀r,z9n (x.need.app r) o.dst (f v)=x.eff.app (x.need.app r)):DOk E ops o x:=
 DOk.step (f v) hw (fun r=>hp▸he r) hc hok hm heff
theorem DOk.callA {ops:Array Oper}{o:Oper}{x:DOp}{cl:Call}{f:FuncId}{caps:List D}{xs args:List AV}{res:AV}(hS:Summ E.P f args [] res [])
 (hop:o.op= .call cl) (hw: ∀r,z0o ops (x.need.app r) o=some true) (hd:dstOk E.N o.dst=true) (hc: ∀r,z6i (x.need.app r) cl=some (f,caps)) (hx: ∀r,z7q (x.need.app r) cl caps=some xs)
 (hle: ∀r,AVsArg (x.need.app r) xs args) (hfl:z6n args=true) (hsol:res.solid=true) (heff: ∀r,putO (x.need.app r) o.dst res=x.eff.app (x.need.app r)):DOk E ops o x:=DOk.one fun r _=>by
 rw[←heff r];exact One.call hop (hw r) hd (hc r) (hx r) (hle r) hfl hsol hS
theorem dropR_noRef {k:Nat}{cs:List C}(h:anyB (C.refs k) cs=false):cs.map (C.dropR k)=cs:=by
 have key: ∀c∈cs,c.dropR k=c:=fun c hc=>by
  unfold C.dropR;rw[z1t h c hc]
 exact(List.map_congr_left key).trans (List.map_id _)
theorem AV.dropR_noRef {k:Nat}{x:AV}(h:x.refs k=false):x.dropR k=x:=by
 cases x with
 |c x=>
  have h':C.refs k x=false:=h;show AV.c (x.dropR k)=AV.c x;unfold C.dropR;rw[h']
 |agg xs=>show AV.agg (xs.map (C.dropR k))=AV.agg xs;rw[Av.dropR_noRef h]
 |tup vs=>
  show AV.tup (vs.map fun p=>(p.1,p.2.map (C.dropR k)))=AV.tup vs;have key: ∀p∈vs,(fun p:Bool×List C=>(p.1,p.2.map (C.dropR k))) p=p:=fun p hp=>by
   have:=z1t h p hp;simp only[Av.dropR_noRef this]
  rw[List.map_congr_left key];simp
theorem zcn {k:Nat}: ∀{l:List (Nat×AV)},(∀e∈l,e.2.refs k=false)→z4k k l=l
 |[],_=>rfl
 |(t,x)::l,h=>by
  simp only[z4k,AV.dropR_noRef (h (t,x) (zz3 ..)),zcn fun e he=>h e (zz6 _ he)]
theorem zcm {k:Nat}: ∀{l:List (Nat×Slot)},(∀e∈l,e.1≠k∧e.2.refs k=false)→z3k k l=l
 |[],_=>rfl
 |(j,c)::l,h=>by
  obtain⟨h1,h2⟩:=h (j,c) (zz3 ..);have hb:Nat.beq j k=false:=by
   cases hb:Nat.beq j k with
   |false=>rfl
   |true=>exact absurd (zz4 hb) h1
  have hc:c.dropR k=c:=by
   cases c with
   |vec es n get=>rfl
   |box cs=>show Slot.box (cs.map (C.dropR k))=Slot.box cs;rw[Av.dropR_noRef h2]
  simp only[z3k,hb,hc,zcm fun e he=>h e (zz6 _ he)]
theorem zb5 {k:Nat}: ∀(l r:List (Nat×AV)),z4k k (l++r)=z4k k l++z4k k r
 |[],_=>rfl
 |(t,x)::l,r=>by simp only[List.cons_append,z4k,zb5 l r]
theorem zb4 {k:Nat}: ∀(l r:List (Nat×Slot)),z3k k (l++r)=z3k k l++z3k k r
 |[],_=>rfl
 |(j,c)::l,r=>by
  simp only[List.cons_append,z3k];cases Nat.beq j k<;>simp[zb4 l r]
theorem DOk.drop {ops:Array Oper}{o:Oper}{x:DOp}{k d:Nat}{v:Slot}{av:AV}(hk:memB k x.mks=true)
 (h: ∀r:St,(∀d∈x.mks,r.noRef d=true)→One E ops o (x.need.app r) ((((x.need.app r).drop k).slot k v).put d av))
 (h1:(z17 (x.eff.tm++x.need.tm)).map (look (x.eff.tm++x.need.tm))=(z17 (x.eff.tm++x.need.tm)).map (look ((d,av)::z4k k x.need.tm)))
 (h2:allB (fun t=>z15 t (x.eff.tm++x.need.tm)) (z17 ((d,av)::z4k k x.need.tm))=true)
 (h3:(z17 (x.eff.sl++x.need.sl)).map (look (x.eff.sl++x.need.sl))=(z17 (x.eff.sl++x.need.sl)).map (look ((k,v)::z3k k x.need.sl)))
 (h4:allB (fun t=>z15 t (x.eff.sl++x.need.sl)) (z17 ((k,v)::z3k k x.need.sl))=true):DOk E ops o x:=DOk.one fun r hr=>by
 obtain⟨n1,n2⟩:=z3q (hr k (z26.1 hk));refine(h r hr).weaken fun a w hs=>hs.weaken (fun t y hy=>?_) fun t y hy=>?_
 ·have e:look (x.eff.app (x.need.app r)).tm t=look (((d,av)::z4k k x.need.tm)++r.tm) t:=by
   have:=cover (r:=r.tm) h1 h2 t;rw[←this];show look (x.eff.tm++(x.need.tm++r.tm)) t=_;rw[List.append_assoc]
  rw[e]at hy;show look ((d,av)::z4k k (x.need.tm++r.tm)) t=some y;rw[zb5,zcn n1];exact hy
 ·have e:look (x.eff.app (x.need.app r)).sl t=look (((k,v)::z3k k x.need.sl)++r.sl) t:=by
   have:=cover (r:=r.sl) h3 h4 t;rw[←this];show look (x.eff.sl++(x.need.sl++r.sl)) t=_;rw[List.append_assoc]
  rw[e]at hy;show look ((k,v)::z3k k (x.need.sl++r.sl)) t=some y;rw[zb4,zcm n2];exact hy
end
end Go.Av
/-
 Av,part X:calls that get variables of the caller's to write.
-/
namespace Go.Av
open Go
def renN (ρ:List (Nat×Nat))(k:Nat):Nat:=match look ρ k with|some k'=>k'|none=>k
def CC.ren (ρ:List (Nat×Nat)):CC→CC
 | .d x=> .d x
 | .ptr k o=> .ptr (renN ρ k) o
def C.ren (ρ:List (Nat×Nat)):C→C
 | .ptr k o=> .ptr (renN ρ k) o
 | .vptr k es i o=> .vptr (renN ρ k) es i o
 | .own k es off n=> .own (renN ρ k) es off n
 | .bsl k o es n=> .bsl (renN ρ k) o es n
 | .clo f n caps=> .clo f n (caps.map (CC.ren ρ))
 |c=>c
def AV.ren (ρ:List (Nat×Nat)):AV→AV
 | .c x=> .c (x.ren ρ)
 | .agg xs=> .agg (xs.map (C.ren ρ))
 | .tup vs=> .tup (vs.map fun p=>(p.1,p.2.map (C.ren ρ)))
def Slot.ren (ρ:List (Nat×Nat)):Slot→Slot
 | .box cs=> .box (cs.map (C.ren ρ))
 | .vec es n get=> .vec es n get
def CC.inK (ks:List Nat):CC→Bool
 | .d _=>true
 | .ptr k _=>anyB (Nat.beq k) ks
def allC {α:Type}(f:α→Bool):List α→Bool
 |[]=>true
 |x::r=>match f x with|true=>allC f r|false=>false
theorem z2l {α:Type}{f:α→Bool}: ∀{l:List α},allC f l=true→ ∀x∈l,f x=true
 |[],_,x,hx=>by cases hx
 |y::r,h,x,hx=>by
  simp only[allC]at h;split at h
  ·rename_i hy
   rcases zzg.1 hx with rfl|hx
   ·exact hy
   ·exact z2l h x hx
  ·cases h
def C.lent (ks:List Nat):C→Bool
 | .any=>true
 | .d _=>true
 | .zero=>true
 | .ptr k _=>anyB (Nat.beq k) ks
 | .vptr k _ _ _=>anyB (Nat.beq k) ks
 | .own k _ _ _=>anyB (Nat.beq k) ks
 | .bsl k _ _ _=>anyB (Nat.beq k) ks
 | .clo _ _ caps=>allC (CC.inK ks) caps
 | .raw _=>true
 |_=>false
def AV.lent (ks:List Nat):AV→Bool
 | .c x=>x.lent ks
 | .agg xs=>allC (C.lent ks) xs
 | .tup vs=>allC (fun p:Bool×List C=>allC (C.lent ks) p.2) vs
def Slot.lent (ks:List Nat):Slot→Bool
 | .box cs=>allC (C.lent ks) cs
 | .vec _ _ _=>true
theorem z3t {k:Nat}{ks:List Nat}:anyB (Nat.beq k) ks=true↔k∈ks:=by
 constructor
 ·intro h;induction ks with
  |nil=>cases h
  |cons y r ih=>
   simp only[anyB]at h;split at h
   ·rename_i e;rw[zz4 e];exact zz3 ..
   ·exact zz6 _ (ih h)
 ·intro h;exact z9a h (by simp)
section
variable {G V V':Nat→Prop} {φ ψ:Nat→Option Loc} {w:World} {ρ:List (Nat×Nat)} {ks:List Nat}
def Agree (ρ:List (Nat×Nat))(ks:List Nat)(φ ψ:Nat→Option Loc):Prop:= ∀k∈ks,ψ (renN ρ k)=φ k
theorem CC.ren_rel (ha:Agree ρ ks φ ψ){x:CC}{v:Value}(hk:x.inK ks=true):RelCC G ψ w (x.ren ρ) v↔RelCC G φ w x v:=by
 cases x with
 |d x=>exact Iff.rfl
 |ptr k o=>
  have:=ha k (z3t.1 hk);simp only[CC.ren,RelCC,this]
theorem C.ren_rel (ha:Agree ρ ks φ ψ){x:C}{v:Value}(hk:x.lent ks=true):RelC G V ψ w (x.ren ρ) v↔RelC G V' φ w x v:=by
 cases x with
 |any=>exact Iff.rfl
 |d x=>exact Iff.rfl
 |zero=>exact Iff.rfl
 |raw u=>exact Iff.rfl
 |view es n get=>cases hk
 |eptr cells=>cases hk
 |ptr k o=>simp only[C.ren,RelC,ha k (z3t.1 hk)]
 |vptr k es i o=>simp only[C.ren,RelC,ha k (z3t.1 hk)]
 |own k es off n=>simp only[C.ren,RelC,ha k (z3t.1 hk)]
 |bsl k o es n=>simp only[C.ren,RelC,ha k (z3t.1 hk)]
 |clo f n caps=>
  have hk:allC (CC.inK ks) caps=true:=hk;have hm:=z2l hk
  have key: ∀j u,j<caps.length→(RelCC G ψ w ((caps.map (CC.ren ρ)).getD j zzd) u↔RelCC G φ w (caps.getD j zzd) u):=fun j u hj=>by
   have e1:caps.getD j zzd=caps[j]:=by rw[List.getD_eq_getElem?_getD,List.getElem?_eq_getElem hj];rfl
   have e2:(caps.map (CC.ren ρ)).getD j zzd=caps[j].ren ρ:=by rw[List.getD_eq_getElem?_getD,List.getElem?_map,List.getElem?_eq_getElem hj];rfl
   rw[e1,e2];exact CC.ren_rel ha (hm _ (List.getElem_mem hj))
  simp only[C.ren,RelC,List.length_map];constructor
  ·rintro⟨vs,e,hl,hr⟩;exact⟨vs,e,hl,fun j hj=>(key j _ hj).1 (hr j hj)⟩
  ·rintro⟨vs,e,hl,hr⟩;exact⟨vs,e,hl,fun j hj=>(key j _ hj).2 (hr j hj)⟩
theorem RelCs.ren (ha:Agree ρ ks φ ψ): ∀{cs:List C} {vs:List Value},allC (C.lent ks) cs=true→(RelCs (RelC G V ψ w) (cs.map (C.ren ρ)) vs↔RelCs (RelC G V' φ w) cs vs)
 |[],[],_=>Iff.rfl
 |c::cs,v::vs,h=>by
  have h1:=z2l h c (zz3 ..);have h2:allC (C.lent ks) cs=true:=by simp only[allC,h1]at h;exact h
  exact and_congr (C.ren_rel ha h1) (RelCs.ren ha h2)
 |[],_::_,_=>Iff.rfl
 |_::_,[],_=>Iff.rfl
theorem RelSs.ren (ha:Agree ρ ks φ ψ): ∀{xs:List (Bool×List C)} {vs:List Value},allC (fun p:Bool×List C=>allC (C.lent ks) p.2) xs=true→
 (RelSs (RelC G V ψ w) (xs.map fun p=>(p.1,p.2.map (C.ren ρ))) vs↔RelSs (RelC G V' φ w) xs vs)
 |[],[],_=>Iff.rfl
 |p::xs,u::vs,h=>by
  have hp:=z2l h p (zz3 ..);have h2:allC (fun p:Bool×List C=>allC (C.lent ks) p.2) xs=true:=by simp only[allC,hp]at h;exact h
  refine and_congr ?_ (RelSs.ren ha h2);rcases p with⟨b,cs⟩;cases b with
  |true=>
   constructor
   ·rintro⟨us,e,g1,g2⟩;exact⟨us,e,(RelCs.ren ha hp).1 g1,g2⟩
   ·rintro⟨us,e,g1,g2⟩;exact⟨us,e,(RelCs.ren ha hp).2 g1,g2⟩
  |false=>
   match cs,hp with
   |[c],hp=>
    have hc:=z2l hp c (by simp);exact and_congr (C.ren_rel ha hc) Iff.rfl
   |[],_=>exact Iff.rfl
   |_::_::_,_=>exact Iff.rfl
 |[],_::_,_=>Iff.rfl
 |_::_,[],_=>Iff.rfl
theorem AV.ren_rel (ha:Agree ρ ks φ ψ){x:AV}{v:Value}(hk:x.lent ks=true)(h:RelAV (RelC G V' φ w) x v):RelAV (RelC G V ψ w) (x.ren ρ) v:=by
 cases x with
 |c x=>
  by_cases e:x= .any
  ·subst e;trivial
  ·have:RelS (RelC G V' φ w) (false,[x]) v:=by cases x<;>first|exact h|exact(e rfl).elim
   exact z0h ((C.ren_rel ha hk).2 this.1) this.2
 |agg xs=>obtain⟨us,e,h1,h2⟩:=h;exact⟨us,e,(RelCs.ren ha hk).2 h1,h2⟩
 |tup vs=>obtain⟨us,e,h1⟩:=h;exact⟨us,e,(RelSs.ren ha hk).2 h1⟩
theorem zic (ha:Agree ρ ks φ ψ){x:AV}{v:Value}(hk:x.lent ks=true)(h:RelAV (RelC G V ψ w) (x.ren ρ) v):RelAV (RelC G V' φ w) x v:=by
 cases x with
 |c x=>
  by_cases e:x= .any
  ·subst e;trivial
  ·have hne:x.ren ρ≠ .any:=by cases x<;>first|exact(e rfl).elim|(intro h;cases h)
   have:RelS (RelC G V ψ w) (false,[x.ren ρ]) v:=by
    have h:RelAV (RelC G V ψ w) (.c (x.ren ρ)) v:=h;generalize x.ren ρ=y at*;cases y<;>first|exact h|exact(hne rfl).elim
   exact z0h ((C.ren_rel ha hk).1 this.1) this.2
 |agg xs=>obtain⟨us,e,h1,h2⟩:=h;exact⟨us,e,(RelCs.ren ha hk).1 h1,h2⟩
 |tup vs=>obtain⟨us,e,h1⟩:=h;exact⟨us,e,(RelSs.ren ha hk).1 h1⟩
theorem Slot.ren_rel (ha:Agree ρ ks φ ψ){k:Nat}(hk:k∈ks){c:Slot}(hc:c.lent ks=true):z4j G V ψ w (renN ρ k) (c.ren ρ)↔z4j G V' φ w k c:=by
 have e:=ha k hk;cases c with
 |vec es n get=>simp only[Slot.ren,z4j,e]
 |box cs=>
  simp only[Slot.ren,z4j,e,List.length_map];have hc:allC (C.lent ks) cs=true:=hc
  constructor
  ·rintro⟨l,hl,ht,vs,h1,h2⟩;exact⟨l,hl,ht,vs,(RelCs.ren ha hc).1 h1,h2⟩
  ·rintro⟨l,hl,ht,vs,h1,h2⟩;exact⟨l,hl,ht,vs,(RelCs.ren ha hc).2 h1,h2⟩
end
def keysS (sl:List (Nat×Slot)):List Nat:=sl.map (·.1)
theorem z40 {sl:List (Nat×Slot)}{k:Nat}{c:Slot}(h:look sl k=some c):k∈keysS sl:=zzf.2 ⟨(k,c),z2b h,rfl⟩
theorem z7a: ∀{sl:List (Nat×Slot)} {k:Nat},k∈keysS sl→ ∃c,look sl k=some c
 |[],k,h=>by cases h
 |(j,c)::r,k,h=>by
  rw[z0x];by_cases e:j=k
  ·exact⟨c,by rw[if_pos e]⟩
  ·rw[if_neg e];rcases zzg.1 h with h|h
   ·exact absurd h.symm e
   ·exact z7a h
def renSl (ρ:List (Nat×Nat))(sl:List (Nat×Slot)):List (Nat×Slot):=sl.map fun p=>(renN ρ p.1,p.2.ren ρ)
theorem zbz {ρ:List (Nat×Nat)}: ∀{sl:List (Nat×Slot)} {k':Nat} {c':Slot},look (renSl ρ sl) k'=some c'→ ∃k c,k'=renN ρ k∧look sl k=some c∧c'=c.ren ρ
 |[],_,_,h=>by cases h
 |(j,c)::r,k',c',h=>by
  simp only[renSl,List.map_cons,z0x]at h;by_cases e:renN ρ j=k'
  ·rw[if_pos e]at h;cases h;exact⟨j,c,e.symm,by rw[z0x,if_pos rfl],rfl⟩
  ·rw[if_neg e]at h;obtain⟨k,c1,h1,h2,h3⟩:=zbz (sl:=r) h;exact⟨k,c1,h1,by rw[z0x,if_neg (fun x=>e (by rw[h1,x]))];exact h2,h3⟩
theorem zei {α:Type}: ∀{l r:List (Nat×α)} {k:Nat} {x:α},look (l++r) k=some x→look l k=some x∨(look l k=none∧look r k=some x)
 |[],r,k,x,h=> .inr ⟨rfl,h⟩
 |(j,y)::l,r,k,x,h=>by
  simp only[List.cons_append,z0x]at h ⊢;by_cases e:j=k
  ·rw[if_pos e]at h ⊢;exact .inl h
  ·rw[if_neg e]at h ⊢;exact zei h
def backN (ρ:List (Nat×Nat)):List Nat→Nat→Option Nat
 |[],_=>none
 |k::r,k'=>match Nat.beq (renN ρ k) k' with|true=>some k|false=>backN ρ r k'
theorem z8j {ρ:List (Nat×Nat)}: ∀{ks:List Nat} {k k':Nat},backN ρ ks k'=some k→k∈ks∧renN ρ k=k'
 |[],_,_,h=>by cases h
 |j::r,k,k',h=>by
  simp only[backN]at h;split at h
  ·rename_i e;cases h;exact⟨zz3 ..,zz4 e⟩
  ·obtain⟨h1,h2⟩:=z8j h;exact⟨zz6 _ h1,h2⟩
theorem zet {ρ:List (Nat×Nat)}: ∀{ks:List Nat} {k':Nat},backN ρ ks k'=none→ ∀k∈ks,renN ρ k≠k'
 |[],_,_,k,h=>by cases h
 |j::r,k',h,k,hk=>by
  simp only[backN]at h;split at h
  ·cases h
  ·rename_i e
   rcases zzg.1 hk with rfl|hk
   ·intro x;rw[x]at e;simp at e
   ·exact zet h k hk
def injB (ρ:List (Nat×Nat))(ks:List Nat):Bool:=allC (fun k=>allC (fun j=>match Nat.beq (renN ρ k) (renN ρ j)with|true=>Nat.beq k j|false=>true) ks) ks
theorem zgk {ρ:List (Nat×Nat)}{ks:List Nat}(h:injB ρ ks=true){k j:Nat}(hk:k∈ks)(hj:j∈ks)(e:renN ρ k=renN ρ j):k=j:=by
 have:=z2l (z2l h k hk) j hj;simp only[e,Nat.beq_refl]at this;exact zz4 this
def zdo:CC→AV
 | .d x=> .c (.d x)
 | .ptr k o=> .c (.ptr k o)
def z5y (s:St)(c:Call):Option (FuncId×Nat×List CC):=
 match c.callee with
 | .value x=>match evO s x with
  |some (.c (.d (.fn f caps)))=>some (f,0,caps.map .d)
  |some (.c (.clo f n caps))=>some (f,n,caps)
  |_=>none
 |_=>none
def argsL (s:St)(c:Call)(n:Nat)(caps:List CC):Option (List AV):=
 match allAV (c.args.toList.map (evO s))with
 |some xs=>some ((caps.map zdo).take n++(xs++(caps.map zdo).drop n))
 |none=>none
def AV.refsAny (ks:List Nat)(x:AV):Bool:=anyB (fun k=>x.refs k) ks
inductive AVsArgL (s:St) (ρ:List (Nat×Nat)) (ks im:List Nat):List AV→List AV→Prop
 |nil:AVsArgL s ρ ks im [] []
 |ren {x y:AV} {xs ys:List AV} (e:x=y.ren ρ) (h:y.lent ks=true) (t:AVsArgL s ρ ks im xs ys):AVsArgL s ρ ks im (x::xs) (y::ys)
 |flat {x y:AV} {xs ys:List AV} (h:AVArg s x y) (hf:y.flat=true) (hn:x.refsAny im=false) (t:AVsArgL s ρ ks im xs ys):AVsArgL s ρ ks im (x::xs) (y::ys)
def LentS (s:St)(ρ:List (Nat×Nat))(ks:List Nat):List (Nat×Slot)→Prop
 |[]=>True
 |(k,c)::r=>(look s.sl (renN ρ k)=some (c.ren ρ)∧c.lent ks=true)∧LentS s ρ ks r
theorem LentS.look {s:St}{ρ:List (Nat×Nat)}{ks:List Nat}: ∀{sl:List (Nat×Slot)},LentS s ρ ks sl→ ∀{k c},Av.look sl k=some c→Av.look s.sl (renN ρ k)=some (c.ren ρ)∧c.lent ks=true
 |[],_,_,_,h=>by cases h
 |(j,c0)::r,⟨h1,h2⟩,k,c,h=>by
  rw[z0x]at h;by_cases e:j=k
  ·subst e;rw[if_pos rfl]at h;cases h;exact h1
  ·rw[if_neg e]at h;exact LentS.look h2 h
section
variable {E:Env} {s:St} {G:Nat→Prop} {φ:Nat→Option Loc} {a:Act} {w:World}
theorem CArg.relX (h:Sim E s G φ a w){c c':C}(hc:CArg s c c'){v:Value}(hv:RelC G E.V φ w c v)(hf:c'.flat=true){X:Nat→Prop}(hX: ∀b,E.V b→X b)
 (hS: ∀k sc l,c.refs k=true→look s.sl k=some sc→φ k=some l→X l.blk) {ψ:Nat→Option Loc}:RelC G X ψ w c' v:=by
 cases hc with
 |le hc=>exact(zeo hf hX ((CLe.rel h hc hv).mono (Same.refl _ _) (Same.refl _ _) (fun _ hb=>z8c hb) fun _ _=>rfl))
 | @own k es off m m' n get get' hk hm hm' hg=>
  subst hm';rcases hv with⟨h0,A,rfl⟩|⟨l,hl,hle,rfl⟩
  ·exact .inl ⟨h0,A,0,rfl⟩
  ·obtain⟨hmx,hs|⟨l',hl',hn,_,he⟩⟩:=h.sl _ _ hk
   ·rw[hl]at hs;cases hs.1
   ·rw[hl]at hl';cases hl';refine .inr ⟨l.blk,_,_,.inr (hS k _ l (by simp[C.refs]) hk hl),rfl,by omega,by omega,fun i hi=>?_⟩;rw[hg i hi];exact he.part hm i hi
 | @bsl k o es n n' cs ds get' hk hd hl' hn hmx hg=>
  cases hn;have h2:=CArg.rel h (.bsl hk hd hl' rfl hmx hg) hv rfl (ψ:=ψ)
  obtain⟨l,cap,hl,hc,rfl⟩:=hv;rcases h2 with⟨h0,A,cap',e⟩|⟨b,off,cap',_,e,g1,g2,g3⟩
  ·cases e;exact .inl ⟨rfl,_,_,rfl⟩
  ·cases e;exact .inr ⟨_,_,_,.inr (hS k _ l (by simp[C.refs]) hk hl),rfl,g1,g2,g3⟩
theorem CsArg.relX (h:Sim E s G φ a w){cs cs':List C}(hc:CsArg s cs cs'){X:Nat→Prop}(hX: ∀b,E.V b→X b){ψ:Nat→Option Loc}:
 ∀{vs:List Value},(∀c∈cs,∀k sc l,c.refs k=true→look s.sl k=some sc→φ k=some l→X l.blk)→(∀c∈cs',c.flat=true)→RelCs (RelC G E.V φ w) cs vs→RelCs (RelC G X ψ w) cs' vs:=by
 induction hc with
 |refl cs=>
  intro vs hS hf hv;have key: ∀(cs:List C) (vs:List Value),(∀c∈cs,∀k sc l,c.refs k=true→look s.sl k=some sc→φ k=some l→X l.blk)→(∀c∈cs,c.flat=true)→RelCs (RelC G E.V φ w) cs vs→RelCs (RelC G X ψ w) cs vs:=by
   intro cs;induction cs with
   |nil=>intro vs _ _ hv;cases vs with|nil=>trivial|cons _ _=>exact hv.elim
   |cons c cs ih=>
    intro vs hS hf hv;cases vs with
    |nil=>exact hv.elim
    |cons v vs=>exact⟨CArg.relX h (.le (.refl c)) hv.1 (hf _ (zz3 ..)) hX (hS _ (zz3 ..)),ih vs (fun c hc=>hS c (zz6 _ hc)) (fun c hc=>hf c (zz6 _ hc)) hv.2⟩
  exact key cs vs hS hf hv
 |nil=>intro vs _ _ hv;cases vs with|nil=>trivial|cons _ _=>exact hv.elim
 |cons hc _ ih=>
  intro vs hS hf hv;cases vs with
  |nil=>exact hv.elim
  |cons v vs=>exact⟨CArg.relX h hc hv.1 (hf _ (zz3 ..)) hX (hS _ (zz3 ..)),ih (fun c hc=>hS c (zz6 _ hc)) (fun c hc=>hf c (zz6 _ hc)) hv.2⟩
theorem z8g {k:Nat}{x:AV}{c:C}(hc:c∈x.cells)(h:c.refs k=true):x.refs k=true:=by
 cases e:x.refs k with
 |true=>rfl
 |false=>rw[AV.refs_cells e c hc]at h;cases h
theorem AVArg.relX (h:Sim E s G φ a w){x x':AV}(hx:AVArg s x x')(hf:x'.flat=true){v:Value}(hv:RAV E G φ w x v){X:Nat→Prop}(hX: ∀b,E.V b→X b)
 (hS: ∀k sc l,x.refs k=true→look s.sl k=some sc→φ k=some l→X l.blk) {ψ:Nat→Option Loc}:RelAV (RelC G X ψ w) x' v:=by
 have hcl:=zcf hf;cases hx with
 |refl=>exact hv.mono fun c hc v hcv=>CArg.relX h (.le (.refl c)) hcv (hcl c hc) hX fun k sc l hr=>hS k sc l (z8g hc hr)
 | @c p q hc=>
  have hq:q.flat=true:=hf;by_cases e:p= .any
  ·subst e;cases hc with
   |le hc=>cases hc<;>trivial
  ·obtain⟨h1,h2⟩:=z4o hv e;exact z0h (hc.relX h h1 hq hX hS) h2
 |agg hc=>obtain⟨us,e,h1,h2⟩:=hv;exact⟨us,e,hc.relX h hX (fun c hm k sc l hr=>hS k sc l (z8g hm hr)) hcl h1,h2⟩
theorem AVsArgL.rel (h:Sim E s G φ a w){ρ:List (Nat×Nat)}{ks im:List Nat}{xs ys:List AV}(hx:AVsArgL s ρ ks im xs ys){X:Nat→Prop}(hX: ∀b,E.V b→X b)
 (hS: ∀k sc l,k∉im→look s.sl k=some sc→φ k=some l→X l.blk): ∀{vs:List Value},z1p (RelC G E.V φ w) xs vs→z1p (RelC G X (fun k=>φ (renN ρ k)) w) ys vs:=by
 induction hx with
 |nil=>intro vs hv;cases vs with|nil=>trivial|cons _ _=>exact hv.elim
 |ren e hk _ ih=>
  intro vs hv;cases vs with
  |nil=>exact hv.elim
  |cons v vs=>subst e;exact⟨zic (fun k _=>rfl) hk hv.1,ih hv.2⟩
 |flat hc hf hn _ ih=>
  intro vs hv;cases vs with
  |nil=>exact hv.elim
  |cons v vs=>exact⟨hc.relX h hf hv.1 hX (fun k sc l hr=>hS k sc l (fun hm=>by have:=z1t hn k hm;rw[this]at hr;cases hr)),ih hv.2⟩
theorem zcx: ∀{caps:List CC} {us:List Value},caps.length=us.length→(∀j,j<caps.length→RelCC G φ w (caps.getD j zzd) (us.getD j undef))→z1p (RelC G E.V φ w) (caps.map zdo) us
 |[],[],_,_=>trivial
 |x::xs,u::us,hl,h=>by
  refine⟨?_,zcx (by simpa using hl) fun j hj=>by have:=h (j+1) (by simpa using hj);simpa using this⟩;have h0:RelCC G φ w x u:=by have:=h 0 (by simp);simpa using this
  cases x with
  |d x=>exact z0h (x:= .d x) h0 (RelD.one h0)
  |ptr k o=>obtain⟨l,hl',rfl⟩:=h0;exact z0h (x:= .ptr k o) ⟨l,hl',rfl⟩ rfl
 |[],_::_,hl,_=>by simp at hl
 |_::_,[],hl,_=>by simp at hl
theorem z1p.take {R:C→Value→Prop}: ∀{xs:List AV} {vs:List Value},z1p R xs vs→ ∀n,z1p R (xs.take n) (vs.take n)
 |[],[],_,n=>by simp[z1p]
 |_::_,_::_,⟨h1,h2⟩,n=>by
  cases n with
  |zero=>simp[z1p]
  |succ n=>exact⟨h1,z1p.take h2 n⟩
 |[],_::_,h,_=>h.elim
 |_::_,[],h,_=>h.elim
theorem z1p.drop {R:C→Value→Prop}: ∀{xs:List AV} {vs:List Value},z1p R xs vs→ ∀n,z1p R (xs.drop n) (vs.drop n)
 |[],[],_,n=>by simp[z1p]
 |_::_,_::_,⟨h1,h2⟩,n=>by
  cases n with
  |zero=>exact⟨h1,h2⟩
  |succ n=>exact z1p.drop h2 n
 |[],_::_,h,_=>h.elim
 |_::_,[],h,_=>h.elim
theorem zjq (h:Sim E s G φ a w){c:Call}{f:FuncId}{n:Nat}{caps:List CC}{xs:List AV}(hc:z5y s c=some (f,n,caps))(hx:argsL s c n caps=some xs)(ty:TypeId):
 ∃vs:List Value,(∀w,(do let d ←resolve a.eval c ty;invoke d.target d.args:Sem Next).run E.P w=(callFunc f vs.toArray).run E.P w)∧z1p (RelC G E.V φ w) xs vs:=by
 obtain⟨cal,args,ats⟩:=c;unfold z5y at hc;simp only at hc;have key: ∀(x:Operand) (us:List Value),a.eval x= .func (.func f) (us.take n).toArray (us.drop n).toArray→cal= .value x→z1p (RelC G E.V φ w) (caps.map zdo) us→
  ∃vs:List Value,(∀w,(do let d ←resolve a.eval ⟨cal,args,ats⟩ ty;invoke d.target d.args:Sem Next).run E.P w=(callFunc f vs.toArray).run E.P w)∧z1p (RelC G E.V φ w) xs vs:=fun x us hu hcal hr=>by
  simp only[argsL]at hx;split at hx
  ·rename_i ys hys
   cases hx;have h1:=zcv h hys
   refine⟨us.take n++(args.toList.map a.eval++us.drop n),fun w=>?_,(hr.take n).append (h1.append (hr.drop n))⟩;subst hcal;simp only[resolve,Deferred.ofValue,hu,zz5,zza,zz1,invoke];congr 2;apply Array.ext';simp
  ·cases hx
 split at hc
 ·rename_i cal' x
  split at hc
  ·rename_i f' caps' hv
   cases hc;have hfv:RelD G w (.fn f caps') (a.eval x):=(h.ev hv).1
   generalize hu:a.eval x=u at hfv;cases hfv with
   |fn _ _ us hl hr=>
    refine key x us (by simpa using hu) rfl (zcx (by simpa using hl) fun j hj=>?_);have hj':j<caps'.length:=by simpa using hj
    have:(caps'.map CC.d).getD j zzd=CC.d (D.at caps' j):=by simp[D.at,List.getD_eq_getElem?_getD,List.getElem?_map,List.getElem?_eq_getElem hj']
    rw[this];exact hr j hj'
  ·rename_i f' n' caps' hv
   cases hc;obtain⟨us,hu,hl,hr⟩:=(h.ev hv).1;exact key x us hu rfl (zcx hl hr)
  ·cases hc
 ·cases hc
def oddK (l r:List Nat):List Nat:=(l.filter fun k=> !anyB (Nat.beq k) r)++(r.filter fun k=> !anyB (Nat.beq k) l)
theorem zhp {l r:List Nat}{k:Nat}(h:k∈l++r):k∈oddK l r∨(k∈l∧k∈r):=by
 unfold oddK;by_cases h1:k∈l
 ·by_cases h2:k∈r
  ·exact .inr ⟨h1,h2⟩
  ·refine .inl (zzm _ (zzh.2 ⟨h1,?_⟩));cases e:anyB (Nat.beq k) r with
   |true=>exact absurd (z3t.1 e) h2
   |false=>rfl
 ·rcases zz2.1 h with h|h
  ·exact absurd h h1
  ·refine .inl (List.mem_append_right _ (zzh.2 ⟨h,?_⟩));cases e:anyB (Nat.beq k) l with
   |true=>exact absurd (z3t.1 e) h1
   |false=>rfl
def lkOk (lk im im':List Nat):Bool:=match allC (fun k=>anyB (Nat.beq k) lk) im' with|true=>true|false=> !anyB (fun k=>anyB (Nat.beq k) lk) im
def lkOk3 (lk:List Nat)(ρ:List (Nat×Nat))(ks ks':List Nat):Bool:=
 match allC (fun j=>match anyB (Nat.beq j) ks with|true=>true|false=>anyB (Nat.beq (renN ρ j)) lk) ks' with
 |true=>true
 |false=>allC (fun i=>match anyB (Nat.beq i) ks' with|true=>true|false=> !anyB (Nat.beq (renN ρ i)) lk) ks
theorem One.callP {ops : Array Oper} {o : Oper} {cl : Call} {f : FuncId} {nf : Nat} {caps : List CC} {xs args : List AV} {res : AV} {sl sl' : List (Nat × Slot)} (ρ : List (Nat × Nat)) (s0 : St)
    (hS : Summ E.P f args sl res sl') (hop : o.op = .call cl) (hw :     z0o ops s o = some true) (hd : dstOk E.N o.dst = true) (hc :     z5y s cl = some (f, nf, caps)) (hx : argsL s cl nf caps = some xs)
    (hle : AVsArgL s ρ (keysS sl) ((keysS sl).map (renN ρ)) xs args) (hsl : LentS s ρ (keysS sl) sl) (hinj : injB ρ (keysS sl) = true) (hinj' : injB ρ (keysS sl') = true) (hres : res.lent (keysS sl') = true)
    (hsl' : allC (fun p : Nat × Slot => p.2.lent (keysS sl')) sl' = true) (hs : Sim E s G φ a w) (hs0 : Sim E s0 G φ a w) (s' : St)
    (hook : ∀ {G' : Nat → Prop} {χ : Nat → Option Loc} {w' : World}, (∀ k', (∀ k ∈ keysS sl', renN ρ k ≠ k') → χ k' = φ k') → Same G w w' → Same E.V w w' → (∀ b, G b → G' b) → Sim E ⟨s0.tm, renSl ρ sl' ++ s0.sl⟩ G' χ a w' → Sim E s' G' χ a w') (hkey : ∀ t x, look s0.sl t = some x → ∃ y, look s.sl t = some y)
    (hk0 : allC (fun k => match look s0.sl (renN ρ k) with | some _ => false | none => true) (keysS sl ++ keysS sl') = true) (hodd : allC (fun k => s0.noRef (renN ρ k)) (oddK (keysS sl) (keysS sl')) = true)
    (hfx : allC (fun k => !anyB (Nat.beq (renN ρ k)) E.fx) (oddK (keysS sl) (keysS sl')) = true) (hlk : lkOk3 E.lk ρ (keysS sl) (keysS sl') = true) :
    Region.wanted o (yielded ops a.tmps) = true ∧ ∀ (next : Act → World → Prop) (Q : Exit → Act → World → Prop), (∀ a' w', SimE E (putO s' o.dst (res.ren ρ)) a' w' → next a' w') → o.wp E.P a w next Q := by
  obtain ⟨vs, hrun, hrel⟩ :=        zjq hs hc hx o.type
  let ψ : Nat → Option Loc := fun k => φ (renN ρ k)
  -- the lent blocks
  have lentB : ∀ b, Blks ψ sl b → ∃ k c l, look s.sl (renN ρ k) = some c ∧ k ∈ keysS sl ∧ φ (renN ρ k) = some l ∧ b = l.blk := fun b ⟨k, c, l, h1, h2, h3⟩ => ⟨k, _, l, (hsl.look h1).1,       z40 h1, h2, h3⟩
  have nG : ∀ b, G b → ¬ Blks ψ sl b := fun b hb hB => by
    obtain ⟨k, c, l, h1, _, h2, rfl⟩ := lentB b hB
    exact (hs.own _ _ _ h1 h2).1 hb
  have nV : ∀ b, E.V b → ¬ Blks ψ sl b := fun b hb hB => by
    obtain ⟨k, c, l, h1, _, h2, rfl⟩ := lentB b hB
    exact (hs.own _ _ _ h1 h2).2.1 hb
  have vlt : ∀ b, E.V b → b < w.heap.size := fun b hb => Nat.lt_of_lt_of_le (hs.vsz b hb).1 hs.kp.size
  have nS : ∀ k sc l, k ∉ (keysS sl).map (renN ρ) → look s.sl k = some sc → φ k = some l → ¬ Blks ψ sl l.blk := fun k sc l hk h1 h2 hB => by
    obtain ⟨j, c, l', g1, g2, g3, g4⟩ := lentB _ hB
    exact hk (         zzf.2 ⟨j, g2, (hs.inj _ _ _ _ _ _ h1 g1 h2 g3 g4).symm⟩)
  have hargs := hle.rel hs (X := fun b => b < w.heap.size ∧ ¬ Blks ψ sl b) (fun b hb => ⟨vlt b hb, nV b hb⟩) (fun k sc l hk h1 h2 => ⟨(hs.own _ _ _ h1 h2).2.2.1, nS k sc l hk h1 h2⟩) hrel
  have hslots : SlotsOk G (fun b => b < w.heap.size ∧ ¬ Blks ψ sl b) ψ w sl :=
    { rel := fun k c hk => by
        obtain ⟨h1, h2⟩ := hsl.look hk
        exact (Slot.ren_rel (fun _ _ => rfl) (      z40 hk) h2).1 (hs.sl _ _ h1)
      inj := fun k k' c c' l l' h1 h2 h3 h4 h5 => by
        have := hs.inj _ _ _ _ _ _ (hsl.look h1).1 (hsl.look h2).1 h3 h4 h5
        exact       zgk hinj (      z40 h1) (      z40 h2) this
      own := fun k c l h1 h2 => by
        have := hs.own _ _ _ (hsl.look h1).1 h2
        exact ⟨this.1, this.2.2.1⟩ }
  have hact := hS G ψ w vs hs.gsz hslots hargs
  refine ⟨         z1o hs hw, fun next Q hn => ?_⟩
  unfold Oper.wp
  have he : execOp a.eval o = (do let d ← resolve a.eval cl o.type; invoke d.target d.args : Sem Next) := by
    unfold execOp; rw [hop]
  rw [he, hrun]
  refine       zg9 hact fun e w' ⟨v, G', φ', he, hd'⟩ => ⟨v, he, ?_⟩
  let χ : Nat → Option Loc := fun k' => match backN ρ (keysS sl') k' with | some k => φ' k | none => φ k'
  have hagree : Agree ρ (keysS sl') φ' χ := fun k hk => by
    show (match backN ρ (keysS sl') (renN ρ k) with | some k => φ' k | none => φ (renN ρ k)) = φ' k
    cases hb : backN ρ (keysS sl') (renN ρ k) with
    | none => exact absurd rfl (       zet hb k hk)
    | some j =>
      obtain ⟨h1, h2⟩ :=        z8j hb
      rw [      zgk hinj' h1 hk h2]
  have hsame : ∀ b, b < w.heap.size → ¬ Blks ψ sl b → w'.heap[b]? = w.heap[b]? := fun b h1 h2 => hd'.kp.block b h1 h2
  have sg : Same G w w' := fun b hb => hsame b (hs.gsz b hb) (nG b hb)
  have sv : Same E.V w w' := fun b hb => hsame b (vlt b hb) (nV b hb)
  -- what is spoken of in s0
  have hχ : ∀ k', (s0.noRef k' = false) → χ k' = φ k' ∨ False := fun k' hr => by
    show (match backN ρ (keysS sl') k' with | some k => φ' k | none => φ k') = φ k' ∨ False
    cases hb : backN ρ (keysS sl') k' with
    | none => exact .inl rfl
    | some k =>
      obtain ⟨h1, rfl⟩ :=        z8j hb
      rcases      zhp (l := keysS sl) (r := keysS sl') (List.mem_append_right _ h1) with h | ⟨h2, _⟩
      · rw [     z2l hodd k h] at hr; cases hr
      · obtain ⟨c, hc⟩ :=       z7a h2
        obtain ⟨c', hc'⟩ :=       z7a h1
        exact .inl (hd'.fix k c c' hc hc')
  have tmRef : ∀ t x, look s0.tm t = some x → ∀ c ∈ x.cells, ∀ k, c.refs k = true → χ k = φ k := fun t x hx c hc k hk => by
    refine (hχ k ?_).resolve_right id
    cases e : s0.noRef k with
    | false => rfl
    | true => rw [AV.refs_cells ((          z3q e).1 _ (     z2b hx)) c hc] at hk; cases hk
  have slRef : ∀ j c, look s0.sl j = some c → ∀ k, Slot.refs k c = true → χ k = φ k := fun j c hc k hk => by
    refine (hχ k ?_).resolve_right id
    cases e : s0.noRef k with
    | false => rfl
    | true => rw [((          z3q e).2 _ (     z2b hc)).2] at hk; cases hk
  have slNot : ∀ j c, look s0.sl j = some c → ∀ k ∈ keysS sl ++ keysS sl', renN ρ k ≠ j := fun j c hc k hk e => by
    have :=      z2l hk0 k hk
    rw [e, hc] at this
    cases this
  have slχ : ∀ j c, look s0.sl j = some c → χ j = φ j := fun j c hc => by
    show (match backN ρ (keysS sl') j with | some k => φ' k | none => φ j) = φ j
    cases hb : backN ρ (keysS sl') j with
    | none => rfl
    | some k =>
      obtain ⟨h1, h2⟩ :=        z8j hb
      exact absurd h2 (slNot j c hc k (List.mem_append_right _ h1))
  have slB : ∀ j c l, look s0.sl j = some c → φ j = some l → l.blk < w.heap.size ∧ ¬ Blks ψ sl l.blk := fun j c l hc hl =>
    ⟨(hs0.own _ _ _ hc hl).2.2.1, nS j _ l (fun hm => by
      obtain ⟨k, hk, e⟩ :=          zzf.1 hm
      exact slNot j c hc k (                 zzm _ hk) e) (hkey _ _ hc).choose_spec hl⟩
  -- the slots that came back
  have hin : ∀ k' c', look (renSl ρ sl' ++ s0.sl) k' = some c' → (∃ k c, k' = renN ρ k ∧ look sl' k = some c ∧ c' = c.ren ρ) ∨ look s0.sl k' = some c' := fun k' c' h => by
    rcases      zei h with h | ⟨_, h⟩
    · exact .inl (       zbz h)
    · exact .inr h
  have newB : ∀ k c l, look sl' k = some c → φ' k = some l → Blks ψ sl l.blk ∨ w.heap.size ≤ l.blk := hd'.blk
  have hsim : Sim E ⟨s0.tm, renSl ρ sl' ++ s0.sl⟩ G' χ a w' :=
    { hs with
      tm := fun t x hx => by
        obtain ⟨u, hu, hr⟩ := hs0.tm t x hx
        exact ⟨u, hu, hr.mono fun c hc v hcv => hcv.mono sg sv hd'.up (tmRef t x hx c hc)⟩
      sl := fun k' c' hk' => by
        rcases hin k' c' hk' with ⟨k, c, rfl, hc, rfl⟩ | h
        · exact (Slot.ren_rel hagree (      z40 hc) (     z2l hsl' (k, c) (     z2b hc))).2 (hd'.slots.rel k c hc)
        · exact (hs0.sl _ _ h).mono sg sv hd'.up (slχ _ _ h) (slRef _ _ h) fun l hl => by
            obtain ⟨h1, h2⟩ := slB _ _ _ h hl
            exact hsame _ h1 h2
      inj := fun k1 k2 c1 c2 l1 l2 h1 h2 e1 e2 eb => by
        rcases hin _ _ h1 with ⟨j1, d1, rfl, g1, _⟩ | g1 <;> rcases hin _ _ h2 with ⟨j2, d2, rfl, g2, _⟩ | g2
        · rw [hagree _ (      z40 g1)] at e1
          rw [hagree _ (      z40 g2)] at e2
          rw [hd'.slots.inj _ _ _ _ _ _ g1 g2 e1 e2 eb]
        · rw [hagree _ (      z40 g1)] at e1
          rw [slχ _ _ g2] at e2
          obtain ⟨q1, q2⟩ := slB _ _ _ g2 e2
          rcases newB _ _ _ g1 e1 with hb | hb
          · rw [eb] at hb; exact absurd hb q2
          · omega
        · rw [hagree _ (      z40 g2)] at e2
          rw [slχ _ _ g1] at e1
          obtain ⟨q1, q2⟩ := slB _ _ _ g1 e1
          rcases newB _ _ _ g2 e2 with hb | hb
          · rw [← eb] at hb; exact absurd hb q2
          · omega
        · rw [slχ _ _ g1] at e1
          rw [slχ _ _ g2] at e2
          exact hs0.inj _ _ _ _ _ _ g1 g2 e1 e2 eb
      own := fun k' c' l h1 h2 => by
        rcases hin _ _ h1 with ⟨k, c, rfl, g1, _⟩ | g1
        · rw [hagree _ (      z40 g1)] at h2
          obtain ⟨o1, o2⟩ := hd'.slots.own k c l g1 h2
          rcases newB _ _ _ g1 h2 with hb | hb
          · refine ⟨o1, fun hv => nV _ hv hb, o2, ?_⟩
            obtain ⟨j, cj, lj, q1, q2, q3, q4⟩ := lentB _ hb
            cases hkk : anyB (Nat.beq k) (keysS sl) with
            | true =>
              obtain ⟨c0, hc0⟩ :=       z7a (     z3t.1 hkk)
              have hf := hd'.fix k c0 c hc0 g1
              rw [h2] at hf
              exact (hs.own _ _ _ (hsl.look hc0).1 hf.symm).2.2.2
            | false =>
              rcases (hs.own _ _ _ q1 q3).2.2.2 with p | ⟨p1, p2⟩
              · exact .inl (by omega)
              · unfold lkOk3 at hlk
                split at hlk
                · rename_i hall
                  have :=      z2l hall k (      z40 g1)
                  rw [hkk] at this
                  exact .inr ⟨     z3t.1 this, by rw [q4]; exact p2⟩
                · have :=      z2l hlk j q2
                  cases hjj : anyB (Nat.beq j) (keysS sl') with
                  | false => rw [hjj] at this; simp only [     z3t.2 p1] at this; cases this
                  | true =>
                    exfalso
                    obtain ⟨c1, hc1⟩ :=       z7a (     z3t.1 hjj)
                    obtain ⟨c0, hc0⟩ :=       z7a q2
                    have hf := hd'.fix j c0 c1 hc0 hc1
                    have hf : φ' j = some lj := hf.trans q3
                    have := hd'.slots.inj _ _ _ _ _ _ g1 hc1 h2 hf q4
                    subst this
                    rw [     z3t.2 q2] at hkk; cases hkk
          · exact ⟨o1, fun hv => by have := vlt _ hv; omega, o2, .inl (Nat.le_trans hs.kp.size hb)⟩
        · rw [slχ _ _ g1] at h2
          obtain ⟨o1, o2, o3, o4⟩ := hs0.own _ _ _ g1 h2
          refine ⟨fun hg => ?_, o2, Nat.lt_of_lt_of_le o3 hd'.kp.size, o4⟩
          rcases hd'.fr _ hg with hg | hg
          · exact o1 hg
          · omega
      gsz := hd'.sz
      g0 := fun b hb => hd'.up _ (hs.g0 b hb)
      gf := fun b hb => by
        rcases hd'.fr b hb with hb | hb
        · exact hs.gf b hb
        · exact .inr (Nat.le_trans hs.kp.size hb)
      kp := hs.kp.trans ⟨hd'.kp.os, hd'.kp.tape, hd'.kp.output, hd'.kp.size, fun b hb hL => hsame b (Nat.lt_of_lt_of_le hb hs.kp.size) fun hB => by
        obtain ⟨k, c, l, h1, _, h2, rfl⟩ := lentB b hB
        rcases (hs.own _ _ _ h1 h2).2.2.2 with p | p
        · omega
        · exact hL p.2⟩
      fix := fun k' c' hfx' h1 => by
        rcases hin _ _ h1 with ⟨k, c, rfl, g1, _⟩ | g1
        · rw [hagree _ (      z40 g1)]
          rcases      zhp (l := keysS sl) (r := keysS sl') (List.mem_append_right _ (      z40 g1)) with h | ⟨h2, _⟩
          · have :=      z2l hfx k h
            rw [     z3t.2 hfx'] at this; cases this
          · obtain ⟨c0, hc0⟩ :=       z7a h2
            rw [hd'.fix k c0 c hc0 g1]
            exact hs.fix _ _ hfx' (hsl.look hc0).1
        · rw [slχ _ _ g1]
          exact hs0.fix _ _ hfx' g1 }
  have hresr : RAV E G' χ w' (res.ren ρ) v := AV.ren_rel hagree hres hd'.rel
  refine hn _ _ ⟨G', χ, ?_⟩
  replace hsim := hook (fun k' hk => by
    show (match backN ρ (keysS sl') k' with | some k => φ' k | none => φ k') = φ k'
    cases hb : backN ρ (keysS sl') k' with
    | none => rfl
    | some k =>
      obtain ⟨h1, h2⟩ :=        z8j hb
      exact absurd h2 (hk k h1)) sg sv hd'.up hsim
  cases hdd : o.dst with
  | none => exact hsim
  | some d =>
    rw [hdd] at hd
    exact hsim.put (       zzk.mp hd) hresr
theorem zg5 {ops:Array Oper}{o:Oper}{cl:Call}{f:FuncId}{nf:Nat}{caps:List CC}{xs args:List AV}{res:AV}{sl sl':List (Nat×Slot)}(ρ:List (Nat×Nat))(s0:St)
 (hS:Summ E.P f args sl res sl') (hop:o.op= .call cl) (hw:z0o ops s o=some true) (hd:dstOk E.N o.dst=true) (hc:z5y s cl=some (f,nf,caps)) (hx:argsL s cl nf caps=some xs)
 (hle:AVsArgL s ρ (keysS sl) ((keysS sl).map (renN ρ)) xs args) (hsl:LentS s ρ (keysS sl) sl) (hinj:injB ρ (keysS sl)=true) (hinj':injB ρ (keysS sl')=true) (hres:res.lent (keysS sl')=true)
 (hsl':allC (fun p:Nat×Slot=>p.2.lent (keysS sl')) sl'=true) (hw0: ∀{G:Nat→Prop} {φ:Nat→Option Loc} {a:Act} {w:World},Sim E s G φ a w→Sim E s0 G φ a w) (hkey: ∀t x,look s0.sl t=some x→ ∃y,look s.sl t=some y)
 (hk0:allC (fun k=>match look s0.sl (renN ρ k)with|some _=>false|none=>true) (keysS sl++keysS sl')=true) (hodd:allC (fun k=>s0.noRef (renN ρ k)) (oddK (keysS sl) (keysS sl'))=true)
 (hfx:allC (fun k=> !anyB (Nat.beq (renN ρ k)) E.fx) (oddK (keysS sl) (keysS sl'))=true) (hlk:lkOk3 E.lk ρ (keysS sl) (keysS sl')=true):
 One E ops o s (putO ⟨s0.tm,renSl ρ sl'++s0.sl⟩ o.dst (res.ren ρ)):=fun a w ⟨_,_,hs⟩=>
 One.callP ρ s0 hS hop hw hd hc hx hle hsl hinj hinj' hres hsl' hs (hw0 hs) _ (fun _ _ _ _ h=>h) hkey hk0 hodd hfx hlk
theorem One.callL {ops:Array Oper}{o:Oper}{cl:Call}{f:FuncId}{nf:Nat}{caps:List CC}{xs args:List AV}{res:AV}{sl sl':List (Nat×Slot)}(ρ:List (Nat×Nat))(s0:St)
 (hS:Summ E.P f args sl res sl') (hop:o.op= .call cl) (hw:z0o ops s o=some true) (hd:dstOk E.N o.dst=true) (hc:z5y s cl=some (f,nf,caps)) (hx:argsL s cl nf caps=some xs)
 (hle:AVsArgL s ρ (keysS sl) ((keysS sl).map (renN ρ)) xs args) (hsl:LentS s ρ (keysS sl) sl) (hinj:injB ρ (keysS sl)=true) (hinj':injB ρ (keysS sl')=true) (hres:res.lent (keysS sl')=true)
 (hsl':allC (fun p:Nat×Slot=>p.2.lent (keysS sl')) sl'=true) (h0t: ∀t x,look s0.tm t=some x→look s.tm t=some x) (h0s: ∀t x,look s0.sl t=some x→look s.sl t=some x)
 (hk0:allC (fun k=>match look s0.sl (renN ρ k)with|some _=>false|none=>true) (keysS sl++keysS sl')=true) (hodd:allC (fun k=>s0.noRef (renN ρ k)) (oddK (keysS sl) (keysS sl'))=true)
 (hfx:allC (fun k=> !anyB (Nat.beq (renN ρ k)) E.fx) (oddK (keysS sl) (keysS sl'))=true) (hlk:lkOk3 E.lk ρ (keysS sl) (keysS sl')=true):
 One E ops o s (putO ⟨s0.tm,renSl ρ sl'++s0.sl⟩ o.dst (res.ren ρ)):=
 zg5 ρ s0 hS hop hw hd hc hx hle hsl hinj hinj' hres hsl' (fun h=>h.weaken h0t h0s) (fun t x h=>⟨x,h0s t x h⟩) hk0 hodd hfx hlk
theorem At.callL {L:List Oper}{i:Nat}{K:St→Prop}{o:Oper}{cl:Call}{f:FuncId}{nf:Nat}{caps:List CC}{xs args:List AV}{res:AV}{sl sl':List (Nat×Slot)}(ρ:List (Nat×Nat))(tk sk:List Nat){s0:St}
 (hS:Summ E.P f args sl res sl') (ho:L[i]?=some o) (hop:o.op= .call cl) (hw:z0o L.toArray s o=some true) (hd:dstOk E.N o.dst=true) (hc:z5y s cl=some (f,nf,caps)) (hx:argsL s cl nf caps=some xs)
 (hle:AVsArgL s ρ (keysS sl) ((keysS sl).map (renN ρ)) xs args) (hsl:LentS s ρ (keysS sl) sl) (hinj:injB ρ (keysS sl)=true) (hinj':injB ρ (keysS sl')=true) (hres:res.lent (keysS sl')=true)
 (hsl':allC (fun p:Nat×Slot=>p.2.lent (keysS sl')) sl'=true) (hk:Av.keep tk sk s=some s0)
 (hk0:allC (fun k=>match look s0.sl (renN ρ k)with|some _=>false|none=>true) (keysS sl++keysS sl')=true) (hodd:allC (fun k=>s0.noRef (renN ρ k)) (oddK (keysS sl) (keysS sl'))=true)
 (hfx:allC (fun k=> !anyB (Nat.beq (renN ρ k)) E.fx) (oddK (keysS sl) (keysS sl'))=true) (hlk:lkOk3 E.lk ρ (keysS sl) (keysS sl')=true)
 (s':St) (he:putO ⟨s0.tm,renSl ρ sl'++s0.sl⟩ o.dst (res.ren ρ)=s') (h:At E L (i+1) s' K):At E L i s K:=by
 have hk2:(∀t x,look s0.tm t=some x→look s.tm t=some x)∧ ∀t x,look s0.sl t=some x→look s.sl t=some x:=by
  unfold Av.keep at hk;split at hk
  ·rename_i tm h1
   split at hk
   ·rename_i sl h2
    cases hk;exact⟨z52 h1,z52 h2⟩
   ·cases hk
  ·cases hk
 exact At.one ho (One.callL ρ s0 hS hop hw hd hc hx hle hsl hinj hinj' hres hsl' hk2.1 hk2.2 hk0 hodd hfx hlk) (he▸h)
theorem C.ren_to {V:Nat→Prop}{ψ:Nat→Option Loc}{ρ:List (Nat×Nat)}{x:C}{v:Value}(h:RelC G V φ w x v)(hφ: ∀k,x.refs k=true→ψ (renN ρ k)=φ k):RelC G V ψ w (x.ren ρ) v:=by
 cases x with
 |any=>trivial
 |d x=>exact h
 |zero=>exact h
 |raw u=>exact h
 |view es n get=>exact h
 |eptr cells=>exact h
 |ptr k o=>simp only[C.ren,RelC,hφ k (by simp[C.refs])];exact h
 |vptr k es i o=>simp only[C.ren,RelC,hφ k (by simp[C.refs])];exact h
 |own k es off n=>simp only[C.ren,RelC,hφ k (by simp[C.refs])];exact h
 |bsl k o es n=>simp only[C.ren,RelC,hφ k (by simp[C.refs])];exact h
 |clo f n caps=>
  obtain⟨vs,e,hl,hr⟩:=h;refine⟨vs,e,by simpa using hl,fun j hj=>?_⟩;have hj:j<caps.length:=by simpa using hj
  have e1:caps.getD j zzd=caps[j]:=by rw[List.getD_eq_getElem?_getD,List.getElem?_eq_getElem hj];rfl
  have e2:(caps.map (CC.ren ρ)).getD j zzd=caps[j].ren ρ:=by rw[List.getD_eq_getElem?_getD,List.getElem?_map,List.getElem?_eq_getElem hj];rfl
  have:=hr j hj;rw[e1]at this;rw[e2];have hm:caps[j]∈caps:=List.getElem_mem hj
  generalize caps[j]=c at*;cases c with
  |d x=>exact this
  |ptr k o=>
   have:ψ (renN ρ k)=φ k:=hφ k (z9a (f:=CC.refs k) hm (by simp[CC.refs]));simp only[CC.ren,RelCC,this]
   assumption
theorem RelCs.ren_to {V:Nat→Prop}{ψ:Nat→Option Loc}{ρ:List (Nat×Nat)}: ∀{cs:List C} {vs:List Value},(∀c∈cs,∀k,c.refs k=true→ψ (renN ρ k)=φ k)→RelCs (RelC G V φ w) cs vs→RelCs (RelC G V ψ w) (cs.map (C.ren ρ)) vs
 |[],[],_,_=>trivial
 |c::cs,v::vs,hφ,h=>⟨C.ren_to h.1 (hφ c (zz3 ..)),RelCs.ren_to (fun c hc=>hφ c (zz6 _ hc)) h.2⟩
 |[],_::_,_,h=>h.elim
 |_::_,[],_,h=>h.elim
theorem RelSs.ren_to {V:Nat→Prop}{ψ:Nat→Option Loc}{ρ:List (Nat×Nat)}: ∀{xs:List (Bool×List C)} {vs:List Value},(∀p∈xs,∀c∈p.2,∀k,c.refs k=true→ψ (renN ρ k)=φ k)→RelSs (RelC G V φ w) xs vs→
 RelSs (RelC G V ψ w) (xs.map fun p=>(p.1,p.2.map (C.ren ρ))) vs
 |[],[],_,_=>trivial
 |p::xs,u::vs,hφ,h=>by
  refine⟨?_,RelSs.ren_to (fun p hp=>hφ p (zz6 _ hp)) h.2⟩;have hp:=hφ p (zz3 ..)
  have hx:=h.1;rcases p with⟨b,cs⟩;cases b with
  |true=>obtain⟨us,e,g1,g2⟩:=hx;exact⟨us,e,RelCs.ren_to hp g1,g2⟩
  |false=>
   match cs,hp,hx with
   |[c],hp,hx=>exact⟨C.ren_to hx.1 (hp c (by simp)),hx.2⟩
   |[],_,hx=>exact hx.elim
   |_::_::_,_,hx=>exact hx.elim
 |[],_::_,_,h=>h.elim
 |_::_,[],_,h=>h.elim
theorem AV.ren_to {V:Nat→Prop}{ψ:Nat→Option Loc}{ρ:List (Nat×Nat)}{x:AV}{v:Value}(h:RelAV (RelC G V φ w) x v)(hφ: ∀k,x.refs k=true→ψ (renN ρ k)=φ k):RelAV (RelC G V ψ w) (x.ren ρ) v:=by
 have hc: ∀c∈x.cells,∀k,c.refs k=true→ψ (renN ρ k)=φ k:=fun c hc k hk=>hφ k (z8g hc hk);cases x with
 |c x=>
  by_cases e:x= .any
  ·subst e;trivial
  ·have:RelS (RelC G V φ w) (false,[x]) v:=by cases x<;>first|exact h|exact(e rfl).elim
   exact z0h (C.ren_to this.1 (hc x (by simp[AV.cells]))) this.2
 |agg xs=>obtain⟨us,e,h1,h2⟩:=h;exact⟨us,e,RelCs.ren_to hc h1,h2⟩
 |tup vs=>obtain⟨us,e,h1⟩:=h;exact⟨us,e,RelSs.ren_to (fun p hp c hc'=>hc c (List.mem_flatMap.2 ⟨p,hp,hc'⟩)) h1⟩
def renTm (ρ:List (Nat×Nat))(tm:List (Nat×AV)):List (Nat×AV):=tm.map fun p=>(p.1,p.2.ren ρ)
theorem zf5 {ρ:List (Nat×Nat)}: ∀(tm:List (Nat×AV)) (t:Nat),look (renTm ρ tm) t=(look tm t).map (AV.ren ρ)
 |[],t=>rfl
 |(j,x)::r,t=>by
  simp only[renTm,List.map_cons,z0x];by_cases e:j=t
  ·simp[e]
  ·rw[if_neg e,if_neg e];exact zf5 r t
theorem Sim.rename (h:Sim E s G φ a w){k k':Nat}(hn:s.noRef k'=true)(hfx:anyB (Nat.beq k') E.fx=false)(hlk:lkOk E.lk [k] [k']=true):
 Sim E ⟨renTm [(k,k')] s.tm,renSl [(k,k')] s.sl⟩ G (upd φ k' (φ k)) a w:=by
 obtain⟨n1,n2⟩:=z3q hn;have hr: ∀j,renN [(k,k')] j=if k=j then k' else j:=fun j=>by
  unfold renN;simp only[z0x];by_cases e:k=j
  ·simp[e]
  ·simp[e,look]
 have key: ∀j,j≠k'→upd φ k' (φ k) (renN [(k,k')] j)=φ j:=fun j hj=>by
  rw[hr];by_cases e:k=j
  ·rw[if_pos e,z3w,e]
  ·rw[if_neg e,z34 _ _ _ hj]
 have hin: ∀j c,look (renSl [(k,k')] s.sl) j=some c→ ∃i c0,j=renN [(k,k')] i∧look s.sl i=some c0∧c=c0.ren [(k,k')]∧i≠k':=fun j c hc=>by
  obtain⟨i,c0,h1,h2,h3⟩:=zbz hc;exact⟨i,c0,h1,h2,h3,(n2 _ (z2b h2)).1⟩
 exact
 {h with
  tm:=fun t x hx=>by
   rw[zf5]at hx;cases hl:look s.tm t with
   |none=>rw[hl]at hx;cases hx
   |some x0=>
    rw[hl]at hx;cases hx;obtain⟨v,hv,hrel⟩:=h.tm t x0 hl;exact⟨v,hv,AV.ren_to hrel fun j hj=>key j fun e=>by rw[e,n1 _ (z2b hl)]at hj;cases hj⟩
  sl:=fun j c hc=>by
   obtain⟨i,c0,rfl,h2,rfl,hne⟩:=hin j c hc;have:=h.sl i c0 h2
   have e:=key i hne;cases c0 with
   |vec es n get=>simp only[Slot.ren,z4j,e];exact this
   |box cs=>
    obtain⟨l,hl,ht,vs,g1,g2,g3⟩:=this;refine⟨l,by rw[e];exact hl,by simpa using ht,vs,RelCs.ren_to (fun c hc j hj=>key j fun e=>?_) g1,g2,g3⟩;have:=(n2 _ (z2b h2)).2
    rw[e,Slot.refs_cells this c hc]at hj;cases hj
  inj:=fun j1 j2 c1 c2 l1 l2 h1 h2 e1 e2 eb=>by
   obtain⟨i1,d1,rfl,g1,_,ne1⟩:=hin _ _ h1;obtain⟨i2,d2,rfl,g2,_,ne2⟩:=hin _ _ h2;rw[key _ ne1]at e1;rw[key _ ne2]at e2;rw[h.inj _ _ _ _ _ _ g1 g2 e1 e2 eb]
  own:=fun j c l h1 h2=>by
   obtain⟨i,d,rfl,g,_,ne⟩:=hin _ _ h1;rw[key _ ne]at h2;obtain⟨o1,o2,o3,o4⟩:=h.own _ _ _ g h2;refine⟨o1,o2,o3,?_⟩;rcases o4 with o4|⟨o4,o5⟩
   ·exact .inl o4
   ·refine .inr ⟨?_,o5⟩;rw[hr];by_cases e:k=i
    ·rw[if_pos e];subst e;unfold lkOk at hlk;split at hlk
     ·rename_i hall
      exact z3t.1 (z2l hall k' (by simp))
     ·have:anyB (fun k=>anyB (Nat.beq k) E.lk) [k]=true:=z9a (by simp) (z3t.2 o4);rw[this]at hlk;cases hlk
    ·rw[if_neg e];exact o4
  fix:=fun j c hx h1=>by
   obtain⟨i,d,rfl,g,_,ne⟩:=hin _ _ h1;rw[key _ ne];have hne': ¬k=i:=fun e=>by
    rw[hr,if_pos e]at hx;exact z7w hfx hx
   rw[hr,if_neg hne']at hx ⊢;exact h.fix _ _ hx g}
theorem SimE.rename (k k':Nat)(h:SimE E s a w)(hn:s.noRef k'=true)(hfx:anyB (Nat.beq k') E.fx=false)(hlk:lkOk E.lk [k] [k']=true){s':St}(e:(⟨renTm [(k,k')] s.tm,renSl [(k,k')] s.sl⟩:St)=s'):SimE E s' a w:=by
 obtain⟨G,φ,h⟩:=h;exact e▸⟨G,_,h.rename hn hfx hlk⟩
theorem Tri.rename (k k':Nat)(s':St){c:Code}{post:Exit→St→Prop}(e:(⟨renTm [(k,k')] s.tm,renSl [(k,k')] s.sl⟩:St)=s')(hn:s.noRef k'=true)(hfx:anyB (Nat.beq k') E.fx=false)(hlk:lkOk E.lk [k] [k']=true)
 (h:Tri E c s' post):Tri E c s post:=Tri.weaken (fun _ _ hs=>hs.rename k k' hn hfx hlk e) h
theorem At.rename (k k':Nat)(s':St){L:List Oper}{i:Nat}{K:St→Prop}(e:(⟨renTm [(k,k')] s.tm,renSl [(k,k')] s.sl⟩:St)=s')(hn:s.noRef k'=true)(hfx:anyB (Nat.beq k') E.fx=false)(hlk:lkOk E.lk [k] [k']=true)
 (h:At E L i s' K):At E L i s K:=fun a w hs=>h a w (hs.rename k k' hn hfx hlk e)
theorem SimE.newOwnB {a:Act}{w:World}(h:SimE E s a w){j i k es:Nat}{cs:List C}{get:Nat→List D}(hkx:anyB (Nat.beq k) E.fx=false)(hz:look s.sl j=some (.box cs))(hi:cs[i]?=some .zero)(hk:s.noRef k=true):
 SimE E ((s.slot k (.vec es 0 get)).slot j (.box (cs.set i (.own k es 0 0)))) a w:=by
 obtain⟨G,φ,h⟩:=h;have hs:=h.newVec0 (z7w hkx) hk es get
 have hjk:k≠j:=fun e=>((z3q hk).2 _ (z2b hz)).1 e.symm;have hz':look (s.slot k (.vec es 0 get)).sl j=some (.box cs):=by simp[St.slot,z0x,hjk,hz]
 have hrel:=hs.sl j _ hz';have hin: ∀j' c,look ((s.slot k (.vec es 0 get)).slot j (.box (cs.set i (.own k es 0 0)))).sl j'=some c→(j'=j∧c= .box (cs.set i (.own k es 0 0)))∨(j'≠j∧look (s.slot k (.vec es 0 get)).sl j'=some c):=fun j' c hc=>by
  simp only[St.slot,z0x]at hc ⊢;by_cases e:j=j'
  ·rw[if_pos e]at hc;cases hc;exact .inl ⟨e.symm,rfl⟩
  ·rw[if_neg e]at hc;exact .inr ⟨fun x=>e x.symm,hc⟩
 have hex: ∀j' c,look ((s.slot k (.vec es 0 get)).slot j (.box (cs.set i (.own k es 0 0)))).sl j'=some c→ ∃c0,look (s.slot k (.vec es 0 get)).sl j'=some c0:=fun j' c hc=>by
  rcases hin j' c hc with⟨rfl,_⟩|⟨_,h⟩
  ·exact⟨_,hz'⟩
  ·exact⟨_,h⟩
 refine⟨G,upd φ k none,{hs with tm:=hs.tm,sl:=fun j' c hc=>?_,inj:=fun k1 k2 c1 c2 l1 l2 h1 h2=>?_,own:=fun k' c l h1=>?_,fix:=fun k' c hx h1=>?_}⟩
 ·rcases hin j' c hc with⟨rfl,rfl⟩|⟨_,hc⟩
  ·obtain⟨l,hl,ht,vs,g1,g2,g3⟩:=hrel;refine⟨l,hl,by simpa using ht,vs,?_,g2,g3⟩;clear hz hz' hin hex hc ht g2 g3;induction cs generalizing i vs with
   |nil=>simp at hi
   |cons c cs ih=>
    cases vs with
    |nil=>exact g1.elim
    |cons v vs=>
     cases i with
     |zero=>
      simp at hi;subst hi;obtain⟨A,rfl⟩:=g1.1;exact⟨.inl ⟨rfl,A,rfl⟩,g1.2⟩
     |succ i=>exact⟨g1.1,ih (i:=i) (by simpa using hi) _ g1.2⟩
  ·exact hs.sl _ _ hc
 ·obtain⟨_,h1⟩:=hex _ _ h1;obtain⟨_,h2⟩:=hex _ _ h2;exact hs.inj _ _ _ _ _ _ h1 h2
 ·obtain⟨_,h1⟩:=hex _ _ h1;exact hs.own _ _ _ h1
 ·obtain⟨_,h1⟩:=hex _ _ h1;exact hs.fix _ _ hx h1
theorem Tri.newOwnB {c:Code}{post:Exit→St→Prop}{j i k es:Nat}{cs:List C}(get:Nat→List D)(hkx:anyB (Nat.beq k) E.fx=false)(hz:look s.sl j=some (.box cs))(hi:cs[i]?=some .zero)(hk:s.noRef k=true)
 (h:Tri E c ((s.slot k (.vec es 0 get)).slot j (.box (cs.set i (.own k es 0 0)))) post):Tri E c s post:=fun a w hs=>h a w (hs.newOwnB hkx hz hi hk)
theorem At.newOwnB {L:List Oper}{i':Nat}{K:St→Prop}{j i k es:Nat}{cs:List C}(get:Nat→List D)(hkx:anyB (Nat.beq k) E.fx=false)(hz:look s.sl j=some (.box cs))(hi:cs[i]?=some .zero)(hk:s.noRef k=true)
 (h:At E L i' ((s.slot k (.vec es 0 get)).slot j (.box (cs.set i (.own k es 0 0)))) K):At E L i' s K:=fun a w hs=>h a w (hs.newOwnB hkx hz hi hk)
def SubS:List (Nat×Slot)→List (Nat×Slot)→Prop
 |[],_=>True
 |(k,c)::r,sl=>(look sl k=some c∧c.clean=true)∧SubS r sl
theorem SubS.out: ∀{sl' sl:List (Nat×Slot)},SubS sl' sl→ ∀k c,look sl' k=some c→look sl k=some c∧c.clean=true
 |[],_,_,k,c,h=>by cases h
 |(j,c0)::r,sl,⟨h1,h2⟩,k,c,h=>by
  rw[z0x]at h;by_cases e:j=k
  ·subst e;rw[if_pos rfl]at h;cases h;exact h1
  ·rw[if_neg e]at h;exact SubS.out h2 k c h
theorem zg3 {ops:Array Oper}{o:Oper}{x:DOp}{z0:AV}{S':List (Nat×Slot)}(ρ:List (Nat×Nat))(k1 k2:List Nat)
 (hone: ∀r:St,allC (fun k=>match look (lessK ((k1++k2).map (renN ρ)) (x.need.sl++r.sl)) (renN ρ k)with|some _=>false|none=>true) (k1++k2)=true→allC (fun k=>(⟨x.need.tm++r.tm,lessK ((k1++k2).map (renN ρ)) (x.need.sl++r.sl)⟩:St).noRef (renN ρ k)) (oddK k1 k2)=true→
  One E ops o (x.need.app r) (putO ⟨x.need.tm++r.tm,S'++lessK ((k1++k2).map (renN ρ)) (x.need.sl++r.sl)⟩ o.dst z0))
 (hodd:allC (fun k=>(⟨x.need.tm,lessK ((k1++k2).map (renN ρ)) x.need.sl⟩:St).noRef (renN ρ k)) (oddK k1 k2)=true)
 (hmk:allC (fun k=>memB (renN ρ k) x.mks) (oddK k1 k2)=true)
 (hcov:allC (fun k=>z15 (renN ρ k) x.eff.sl) (k1++k2)=true) (hesl:S'=x.eff.sl)
 (het:match o.dst with|some d=>[(d,z0)]=x.eff.tm|none=>x.eff.tm=[]):DOk E ops o x:=DOk.one fun r hr=>by
 let im:=(k1++k2).map (renN ρ)
 have hle0: ∀(l:List (Nat×Slot)) t c,look (lessK im l) t=some c→memB t im=false∧look l t=some c:=fun l t c h=>by
  rw[z41]at h;cases hm:memB t im with
  |true=>rw[hm]at h;cases h
  |false=>rw[hm]at h;exact⟨rfl,h⟩
 refine(hone r ?_ ?_).weaken fun a w hs=>hs.weaken (fun t y hy=>?_) fun t y hy=>?_
 ·have: ∀k∈k1++k2,(match look (lessK im (x.need.sl++r.sl)) (renN ρ k)with|some _=>false|none=>true)=true:=fun k hk=>by
   have hm:memB (renN ρ k) im=true:=z26.2 (zzf.2 ⟨k,hk,rfl⟩);rw[z41,hm]
  have key: ∀l:List Nat,(∀k∈l,(match look (lessK im (x.need.sl++r.sl)) (renN ρ k)with|some _=>false|none=>true)=true)→allC (fun k=>match look (lessK im (x.need.sl++r.sl)) (renN ρ k)with|some _=>false|none=>true) l=true:=by
   intro l;induction l with
   |nil=>intro _;rfl
   |cons k l ih=>
    intro h;simp only[allC];rw[h k (zz3 ..)];exact ih fun j hj=>h j (zz6 _ hj)
  exact key _ this
 ·have: ∀k∈oddK k1 k2,(⟨x.need.tm++r.tm,lessK im (x.need.sl++r.sl)⟩:St).noRef (renN ρ k)=true:=fun k hk=>by
   have h1:=z2l hodd k hk;have h2:=hr _ (z26.1 (z2l hmk k hk))
   rw[zae];have h3:(⟨r.tm,lessK im r.sl⟩:St).noRef (renN ρ k)=true:=by
    obtain⟨p1,p2⟩:=z3q h2;unfold St.noRef;have q1:anyB (fun e:Nat×AV=>AV.refs (renN ρ k) e.2) r.tm=false:=by
     cases e:anyB (fun e:Nat×AV=>AV.refs (renN ρ k) e.2) r.tm with
     |false=>rfl
     |true=>obtain⟨y,hy,hy'⟩:=z81.1 e;rw[p1 y hy]at hy';cases hy'
    have q2:anyB (z60 (renN ρ k)) (lessK im r.sl)=false:=by
     cases e:anyB (z60 (renN ρ k)) (lessK im r.sl)with
     |false=>rfl
     |true=>
      obtain⟨y,hy,hy'⟩:=z81.1 e;have hmem: ∀l:List (Nat×Slot),y∈lessK im l→y∈l:=by
       intro l;induction l with
       |nil=>intro h;exact h
       |cons z l ih=>
        rcases z with⟨zk,zc⟩;intro h;simp only[lessK]at h;split at h
        ·exact zz6 _ (ih h)
        ·rcases zzg.1 h with h|h
         ·rw[h];exact zz3 ..
         ·exact zz6 _ (ih h)
      obtain⟨u1,u2⟩:=p2 y (hmem _ hy);unfold z60 at hy';have hb:Nat.beq y.1 (renN ρ k)=false:=by
       cases hb:Nat.beq y.1 (renN ρ k)with
       |false=>rfl
       |true=>exact absurd (zz4 hb) u1
      rw[hb]at hy';simp only[u2]at hy';cases hy'
    simp only[q1,q2]
   exact z2a (n:=⟨x.need.tm,lessK im x.need.sl⟩) (r:=⟨r.tm,lessK im r.sl⟩) h1 h3
  have key: ∀l:List Nat,(∀k∈l,(⟨x.need.tm++r.tm,lessK im (x.need.sl++r.sl)⟩:St).noRef (renN ρ k)=true)→allC (fun k=>(⟨x.need.tm++r.tm,lessK im (x.need.sl++r.sl)⟩:St).noRef (renN ρ k)) l=true:=by
   intro l;induction l with
   |nil=>intro _;rfl
   |cons k l ih=>
    intro h;simp only[allC];rw[h k (zz3 ..)];exact ih fun j hj=>h j (zz6 _ hj)
  exact key _ this
 ·cases hdd:o.dst with
  |none=>
   rw[hdd]at het;have het:x.eff.tm=[]:=het
   simp only[St.app,het,List.nil_append]at hy;exact hy
  |some d=>
   rw[hdd]at het;have het:[(d,z0)]=x.eff.tm:=het
   simp only[St.app,←het]at hy;exact hy
 ·have h1:look (S'++lessK im (x.need.sl++r.sl)) t=some y:=by
   simp only[St.app,←hesl]at hy;rw[z1r]at hy ⊢;cases he:look (S') t with
   |some z=>rw[he]at hy;exact hy
   |none=>
    rw[he]at hy;simp only at hy ⊢;rw[z41];cases hm:memB t im with
    |false=>exact hy
    |true=>
     obtain⟨k,hk,rfl⟩:=zzf.1 (z26.1 hm);obtain⟨z,hz⟩:=z2h.1 (z2l hcov k hk);rw[←hesl,he]at hz;cases hz
  cases hdd:o.dst with
  |none=>exact h1
  |some d=>exact h1
theorem DOk.callL {ops:Array Oper}{o:Oper}{x:DOp}{cl:Call}{f:FuncId}{nf:Nat}{caps:List CC}{xs args:List AV}{res:AV}{sl sl':List (Nat×Slot)}(ρ:List (Nat×Nat))
 (hS:Summ E.P f args sl res sl') (hop:o.op= .call cl) (hw: ∀r,z0o ops (x.need.app r) o=some true) (hd:dstOk E.N o.dst=true)
 (hc: ∀r,z5y (x.need.app r) cl=some (f,nf,caps)) (hx: ∀r,argsL (x.need.app r) cl nf caps=some xs)
 (hle: ∀r,AVsArgL (x.need.app r) ρ (keysS sl) ((keysS sl).map (renN ρ)) xs args) (hsl: ∀r,LentS (x.need.app r) ρ (keysS sl) sl) (hinj:injB ρ (keysS sl)=true) (hinj':injB ρ (keysS sl')=true)
 (hres:res.lent (keysS sl')=true) (hsl':allC (fun p:Nat×Slot=>p.2.lent (keysS sl')) sl'=true)
 (hodd:allC (fun k=>(⟨x.need.tm,lessK ((keysS sl++keysS sl').map (renN ρ)) x.need.sl⟩:St).noRef (renN ρ k)) (oddK (keysS sl) (keysS sl'))=true)
 (hmk:allC (fun k=>memB (renN ρ k) x.mks) (oddK (keysS sl) (keysS sl'))=true)
 (hfx:allC (fun k=> !anyB (Nat.beq (renN ρ k)) E.fx) (oddK (keysS sl) (keysS sl'))=true) (hlk:lkOk3 E.lk ρ (keysS sl) (keysS sl')=true)
 (hcov:allC (fun k=>z15 (renN ρ k) x.eff.sl) (keysS sl++keysS sl')=true) (hesl:renSl ρ sl'=x.eff.sl)
 (het:match o.dst with|some d=>[(d,res.ren ρ)]=x.eff.tm|none=>x.eff.tm=[]):DOk E ops o x:=
 zg3 ρ (keysS sl) (keysS sl') (fun r q1 q2=>One.callL ρ ⟨x.need.tm++r.tm,lessK ((keysS sl++keysS sl').map (renN ρ)) (x.need.sl++r.sl)⟩ hS hop (hw r) hd (hc r) (hx r) (hle r) (hsl r) hinj hinj' hres hsl' (fun t y h=>h) (fun t c h=>by
  rw[z41]at h;split at h
  ·cases h
  ·exact h) q1 q2 hfx hlk) hodd hmk hcov hesl het
end
end Go.Av
/-
 Av,part Y:more rules over lists;library functions that the model stands in for.
-/
namespace Go.Av
open Go
@[reducible] def onlyS (s1:St):Exit→St→Prop:=fun e s=>e= .normal∧s=s1
section
variable {E:Env} {s:St} {X:Type} [Inhabited X]
theorem z3r (s1:St){c:Code}{post:Exit→St→Prop}(h:Tri E c s (onlyS s1))(hA:At E [] 0 s1 (post .normal)):Tri E c s post:=fun a w hs hc=>
 wpIn_mono (h a w hs hc) fun e a' w' ⟨s',hp,hs'⟩=>by
  obtain⟨rfl,rfl⟩:=hp;exact hA a' w' hs' (fun e a'' w''=> ∃s'',post e s''∧SimE E s'' a'' w'') fun s'' a'' w'' k h'=>⟨s'',k,h'⟩
def zkt (s:ByteArray):List Int:=s.data.toList.map fun b=>(b.toNat:Int)
@[simp] theorem zn3 (s:ByteArray):(zkt s).length=s.size:=by
 unfold zkt;rw[List.length_map,zzl];rfl
def copyL (dst src:List X):List X:=src++dst.drop src.length
theorem zd0 {dst src:List X}(h:src.length≤dst.length):(copyL dst src).length=dst.length:=by simp[copyL];omega
theorem zk7 {ops:Array Oper}{o:Oper}{k es:Nat}{dT sT e:TypeId}{p x:Operand}{y:AV}(enc:X→List D)(dst src:List X)
 (hop:o.op= .call ⟨.builtin .copy, #[p,x], #[dT,sT]⟩) (hw:z0o ops s o=some true) (hd:dstOk E.N o.dst=true)
 (hu:E.P.underlying dT=some (.slice e)) (hsz:sizeT E.P e=some es) (hp:evO s p=some (.c (.own k es 0 dst.length))) (hk:look s.sl k=some (.vec es dst.length (fun i=>enc (dst.getD i zzd)))) (hx:evO s x=some y)
 (hsrc:SrcOf s y es src.length (fun i=>enc (src.getD i zzd))) (hm:src.length≤dst.length):
 One E ops o s (putO (s.slot k (.vec es (copyL dst src).length (fun i=>enc ((copyL dst src).getD i zzd)))) o.dst (.c (.d (.int .i64 (src.length:Int))))):=by
 have h:=One.copy hop hw hd hu hsz hp hk hx hsrc hm;rw[zd0 hm];have e1:z92 src.length (fun i=>enc (src.getD i zzd)) (fun i=>enc (dst.getD i zzd))=fun i=>enc ((copyL dst src).getD i zzd):=by
  funext i;unfold z92 copyL;rw[zda];split
  ·rfl
  ·rename_i hi
   show enc (dst.getD i zzd)=enc ((dst.drop src.length).getD (i-src.length) zzd);rw[List.getD_eq_getElem?_getD,List.getD_eq_getElem?_getD,List.getElem?_drop];congr 3;omega
 rw[e1]at h;exact h
theorem zbl {ops:Array Oper}{o:Oper}{t e:TypeId}{d:Nat}{x:Operand}
 (hop:o.op= .call ⟨.builtin .cap, #[x], #[t]⟩) (hw:z0o ops s o=some true) (hd:o.dst=some d) (hlt:Nat.blt d E.N=true) (hu:E.P.underlying t=some (.slice e)) (hx:evO s x=some (.c .zero)):
 One E ops o s (s.put d (.c (.d (.int .i64 0)))):=fun a w hs=>by
 obtain⟨G,φ,h⟩:=hs;refine⟨z1o h hw,fun next Q hn=>?_⟩;obtain⟨A,hA⟩:=(h.ev hx).1;have he:execOp a.eval o=(do pure (.value (←Builtin.cap_ #[t] o.type #[a.eval x])):Sem Next):=by
  unfold execOp;rw[hop];simp[resolve,invoke,builtin]
 have hrun:(Builtin.cap_ #[t] o.type #[a.eval x]).run E.P w= .ok (.int .i64 0) w:=by
  rw[hA];simp[Builtin.cap_,run_underlying hu,goInt]
 unfold Oper.wp;rw[he];simp only[zz5,hrun,zz1,zza,Oper.upon,hd];exact hn _ _ ⟨G,φ,h.put (zzk.mp hlt) (z0h (RelD.int _ _) rfl)⟩
theorem zct {ops:Array Oper}{o:Oper}{d:Nat}{sT xT e:TypeId}{es bs:Nat}{kn kx:IntKind}{n:Int}{b x:Operand}{z:List C}{ds:List D}(enc:X→List D)(v0:X)
 (hop:o.op= .call ⟨.builtin .append, #[b,x], #[sT,xT]⟩) (hw:z0o ops s o=some true) (hd:o.dst=some d) (hlt:Nat.blt d E.N=true) (hnr:s.noRef d=true)
 (hu:E.P.underlying sT=some (.slice e)) (hx:E.P.underlying xT=some (.int kx)) (hsz:sizeT E.P e=some es) (hbs:z8l E.P e=some bs) (hbp:Nat.blt 0 bs=true) (hb2:Nat.ble bs 256=true)
 (hz:zeroCells E.P e=some z) (hze:Nat.beq z.length es=true) (hes:Nat.blt 0 es=true) (hzd:CsLe s [] z (ds.map .d)) (hev:enc v0=ds)
 (hb:evO s b=some (.c .zero)) (hxv:evO s x=some (.c (.d (.int kn n)))) (h0:0<n) (h1:n≤(lim:Int)):
 One E ops o s ((s.slot d (.vec es (zz9 n.toNat v0).length (fun i=>enc ((zz9 n.toNat v0).getD i zzd)))).put d (.c (.own d es 0 (zz9 n.toNat v0).length))):=fun a w hs=>by
 obtain⟨G,φ,h⟩:=hs;refine⟨z1o h hw,fun next Q hn=>?_⟩;obtain⟨A,hA⟩:=(h.ev hb).1;have hN:a.eval x= .int kn n:=z3o (h.ev hxv)
 obtain⟨zv,z1,z2,z3⟩:=z5c hz;have hbs0:=zzk.mp hbp
 have hbs2:=zz7 hb2;have hze:=zz4 hze
 have hes0:=zzk.mp hes;have hzsz:zv.cells.size=es:=by rw[←hze,←z2];simp
 have hlimv:(lim:Int)=274877906944:=rfl;have hwr:zzi.wrap n=n:=z2x (by omega) (by omega)
 have hinfo: ∀w,(typeInfo e).run E.P w= .ok ((E.P.info? e).getD zzd) w:=fun w=>by
  unfold sizeT at hsz;cases hi:E.P.info? e with
  |none=>simp[hi]at hsz
  |some i=>simp[typeInfo,hi]
 have hbytes:((E.P.info? e).getD zzd).bytes=bs:=by
  unfold z8l at hbs;cases hi:E.P.info? e with
  |none=>simp[hi]at hbs
  |some i=>simpa [hi]using hbs
 have hn0:n.toNat*es≠0:=by
  have:0<n.toNat:=by omega
  exact Nat.ne_of_gt (Nat.mul_pos this hes0)
 let q:Question:= .appendCap (0+n.toNat) 0 e
 let newCap:=q.cut (w.tape w.drawn q)
 have hge:0+n.toNat≤newCap:=Nat.le_add_right _ _
 let vs:Array Value:= #[]++Builtin.zeroCells zv.cells n.toNat++Builtin.zeroCells zv.cells (newCap-(0+n.toNat))
 have hrun:(Builtin.append_ #[sT,xT] o.type #[.slice A 0 0,.int kn n]).run E.P w= .ok (.slice (some ⟨w.heap.size,0,none⟩) (0+n.toNat) newCap) (World.alloc {w with drawn:=w.drawn+1} (.cells vs e)):=by
  have hlb: ¬(n*(bs:Int)>2^48):=by
   have h2:n*(bs:Int)≤274877906944*256:=Int.mul_le_mul (by omega) (by omega) (by omega) (by omega);have:(274877906944:Int)*256≤2^48:=by decide
   omega
  have hbig: ¬(Builtin.nextslicecap (0+n.toNat) 0*bs>2^48):=by
   have h1:=zf6 (need:=0+n.toNat) (old:=0) (by omega);have h2:Builtin.nextslicecap (0+n.toNat) 0≤2*lim+192:=by
    have:lim=274877906944:=rfl;omega
   have h3:Builtin.nextslicecap (0+n.toNat) 0*bs≤(2*lim+192)*256:=Nat.mul_le_mul h2 hbs2;have h4:(2*lim+192)*256≤2^48:=by decide
   omega
  have hmax:zzi.max=9223372036854775807:=by decide
  have hask: ∀b w',(askRoom b).run E.P w'= .ok () w':=fun b w'=>by unfold askRoom;split<;>rfl
  have hch:(choose (.appendCap (0+n.toNat) 0 e)).run E.P w= .ok newCap {w with drawn:=w.drawn+1}:=rfl;have hold: ∀w',(Builtin.firstCells es 0 (.slice A 0 0)).run E.P w'= .ok #[] w':=fun w'=>by cases A<;>simp[Builtin.firstCells,loadCells,loadCellsFrom]
  have hnz: ¬(n.toNat=0∨es=0):=by omega
  unfold Builtin.append_;simp only[List.getElem?_toArray,List.getElem?_cons_zero,List.getElem?_cons_succ,zz5,run_underlying hu,run_underlying hx,zz1,z27 hsz,zza,if_true,asInt,asIntOf,hwr,hinfo,hbytes];rw[if_neg (by omega: ¬n<0)];simp only[zz5,hinfo,zz1,zza,hbytes];rw[if_neg hlb];simp only[zz5,zz1,zza];rw[if_neg (by omega: ¬0+n.toNat≤0)];simp only[zz5,hinfo,zz1,hbytes];have hsmall: ¬(((0+n.toNat:Nat):Int)>zzi.max∧(True∨bs=0)):=by
   rintro⟨h,_⟩;rw[hmax]at h;omega
  rw[if_neg hsmall];simp only[zz5,hinfo,zz1,hbytes];rw[if_neg hbig];simp only[zz5,hch,zz1,hinfo,hask,hold,Bool.not_true,if_false,hn0,z1,z5i,zza,Bool.false_eq_true];rfl
 have he:execOp a.eval o=(do pure (.value (←Builtin.append_ #[sT,xT] o.type #[a.eval b,a.eval x])):Sem Next):=by
  unfold execOp;rw[hop];simp[resolve,invoke,builtin]
 unfold Oper.wp;rw[he,hA,hN];simp only[zz5,hrun,zz1,zza,Oper.upon,hd];have hw1:Sim E s G φ a {w with drawn:=w.drawn+1}:=h.world rfl rfl ⟨rfl,Nat.le_succ _⟩ rfl
 have hdl:ds.length=es:=by
  have:=hzd.rel h (vs:=zv.cells.toList) (by rw[←z2];exact z50 G E.V φ w _);have:=this.length
  simp at this;omega
 have hzr:RelCs (RelC G E.V φ w) (ds.map .d) zv.cells.toList:=by
  have h2:=hzd.rel h (vs:=zv.cells.toList) (by rw[←z2];exact z50 G E.V φ w _);exact h2.mono fun c _ v hc=>hc.mono (Same.refl _ _) (Same.refl _ _) (fun _ hb=>z8c hb) fun _ _=>rfl
 have hcell: ∀j,j<es→ ∃u,zv.cells[j]?=some u∧RelD G w (D.at ds j) u:=fun j hj=>by
  obtain⟨u,hu,hr⟩:=hzr.get j (.d (D.at ds j)) (by rw[List.getElem?_map,List.getElem?_eq_getElem (by omega)];simp[D.at,List.getD_eq_getElem?_getD,List.getElem?_eq_getElem (show j<ds.length by omega)]);exact⟨u,by simpa using hu,hr⟩
 have hvsz:vs.size=newCap*es:=by
  simp only[vs,Array.size_append,Builtin.zeroCells,Array.size_map,Array.size_range,hzsz];rw[show(#[]:Array Value).size=0 from rfl,zzb,←Nat.add_mul];congr 1;omega
 have hok:z3a G {w with drawn:=w.drawn+1} vs.toList es n.toNat (fun _=>ds):=fun i hi=>⟨hdl,fun j hj=>by
  obtain⟨u,hu,hr⟩:=hcell j hj;refine⟨u,?_,RelD.mono (w:=w) (w':={w with drawn:=w.drawn+1}) (fun b _=>rfl) (fun _ h=>h) hr⟩;have hlt':i*es+j<n.toNat*es:=z4z hi hj
  have hmod:(i*es+j) % zv.cells.size=j:=by rw[hzsz,Nat.add_comm,Nat.add_mul_mod_self_right,Nat.mod_eq_of_lt hj]
  have hz0:(Builtin.zeroCells zv.cells n.toNat).size=n.toNat*es:=by simp[Builtin.zeroCells,hzsz]
  have e1:vs.toList[i*es+j]?=(Builtin.zeroCells zv.cells n.toNat)[i*es+j]?:=by
   rw[Array.getElem?_toList];simp only[vs,Array.empty_append];rw[Array.getElem?_append_left (by omega)]
  rw[e1];unfold Builtin.zeroCells;rw[Array.getElem?_map,Array.getElem?_range,hzsz,if_pos hlt'];rw[hzsz]at hmod;simp only[Option.map_some,hmod];rw[getElem!_def,hu]⟩
 have hs':=hw1.newVec (k:=d) (w:={w with drawn:=w.drawn+1}) (get:=fun _=>ds) (h.notFx (zzk.mp hlt)) hnr e hvsz (by omega) (by unfold maxN;omega) hok;have hput:=hs'.put (zzk.mp hlt) (x:= .c (.own d es 0 n.toNat)) (v:= .slice (some ⟨w.heap.size,0,none⟩) (0+n.toNat) newCap) (z0h (Or.inr ⟨_,z3w _ _ _,(show 0+n.toNat≤newCap by omega),by simp⟩) rfl)
 have hfin:=zcu (get':=fun i=>enc ((zz9 n.toNat v0).getD i zzd)) hput fun i hi=>by
  show enc ((zz9 n.toNat v0).getD i zzd)=ds;rw[List.getD_eq_getElem?_getD,List.getElem?_replicate,if_pos hi];exact hev
 rw[List.length_replicate]at hn;exact hn _ _ ⟨G,_,hfin⟩
def z8k (x y c:Int):Option (Int×Int):=
 need (0≤x∧0≤y∧0≤c∧c≤1)<|some ((x+y+c) % 18446744073709551616,(x+y+c) / 18446744073709551616)
theorem zch {P : Program} {f : FuncId} {fn : Func} (hf : P.funcs[f]? = some fn) (hname : (fn.name == "runtime.NumGoroutine") = false) (hb : fn.body.isNone = true) (hn : Extern.findNext fn = none)
    (he : Extern.find fn = some add64Entry) {x y c : Int} {q : Int × Int} (h : z8k x y c = some q) :
    Summ P f [.c (.d (.int .u64 x)), .c (.d (.int .u64 y)), .c (.d (.int .u64 c))] [] (.tup [(false, [.d (.int .u64 q.1)]), (false, [.d (.int .u64 q.2)])]) [] := by
  unfold z8k at h
  obtain ⟨⟨hx, hy, hc0, hc1⟩, h⟩ := z05 h
  cases h
  intro G φ w vs hG hsl hargs
  match vs, hargs with
  | [a, b, d], ⟨h1, h2, h3, _⟩ =>
    have e1 : RelD G w (.int .u64 x) a := h1.1
    have e2 : RelD G w (.int .u64 y) b := h2.1
    have e3 : RelD G w (.int .u64 c) d := h3.1
    cases e1; cases e2; cases e3
    have hrun : (callFunc f [Value.int .u64 x, .int .u64 y, .int .u64 c].toArray).run P w = .ok (.value (.tuple #[.int .u64 ((x + y + c) % 18446744073709551616), .int .u64 ((x + y + c) / 18446744073709551616)])) w := by
      rw [run_callFunc_extern hf hname hb hn he]
      rw [run_add64 x y c hx hy hc0 hc1]
      rfl
    unfold Acts
    rw [hrun]
    refine ⟨_, G, φ, rfl, ?_⟩
    exact
    { up := fun _ h => h
      fr := fun _ h => .inl h
      sz := hG
      rel := ⟨_, rfl, ⟨RelD.int _ _, rfl⟩, ⟨RelD.int _ _, rfl⟩, trivial⟩
      slots := ⟨(fun _ _ h => by cases h), (fun _ _ _ _ _ _ h => by cases h), (fun _ _ _ h => by cases h)⟩
      blk := fun _ _ _ h => by cases h
      kp := Keep.refl _ _ _
      fix := fun _ _ _ h => by cases h }
end
end Go.Av
namespace Go.Av
section
variable {X:Type} [Inhabited X]
omit [Inhabited X]in
theorem zi7 {xs:List X}{h:Int}(hc:(0:Int)≤0∧(0:Int)≤h∧h≤(xs.length:Int)):min h.toNat xs.length=h.toNat:=by omega
omit [Inhabited X]in
theorem zjg (xs:List X)(m:Nat):(xs.take m).length≤xs.length:=by rw[List.length_take];omega
theorem zi6 (enc:X→List D)(xs:List X)(m:Nat): ∀i,i<(xs.take m).length→(fun i=>enc ((xs.take m).getD i zzd)) i=(fun i=>enc (xs.getD i zzd)) i:=fun i hi=>by
 show enc ((xs.take m).getD i zzd)=enc (xs.getD i zzd);rw[List.length_take]at hi;rw[List.getD_eq_getElem?_getD,List.getD_eq_getElem?_getD,List.getElem?_take,if_pos (by omega)]
end
end Go.Av
namespace Go.Av
abbrev i6 (x:Int):D:= .int .i64 x
abbrev u6 (x:Int):D:= .int .u64 x
abbrev cD (d:D):AV:= .c (.d d)
abbrev lD {X:Type}[Inhabited X](es:Nat)(e:X→List D)(l:List X):D:= .list es l.length (fun i=>e (l.getD i zzd))
abbrev wC {X:Type}[Inhabited X](es:Nat)(e:X→List D)(l:List X):C:= .view es l.length (fun i=>e (l.getD i zzd))
abbrev oC {X:Type}(k es:Nat)(l:List X):C:= .own k es 0 l.length
abbrev vL {X:Type}[Inhabited X](es:Nat)(e:X→List D)(l:List X):Slot:= .vec es l.length (fun i=>e (l.getD i zzd))
theorem DOk.t {E:Env}{ops:Array Oper}{o:Oper}{x:DOp}{d:Nat}{av:AV}(he0:x.eff=⟨[(d,av)],[]⟩)(hd:o.dst=some d)(hw:(fun r=>(z0o ops (x.need.app r) o,z3e E.P (x.need.app r) (some d) o.op))=fun _=>(some true,some (.val av True)))
 (hok:(okDst E.N x.need (some d) (.val av True) && mksOk x.mks (.val av True) (some d))=true):DOk E ops o x:=
 DOk.step (.val av True) (fun r=>congrArg Prod.fst (congrFun hw r)) (fun r=>by rw[hd];exact congrArg Prod.snd (congrFun hw r)) trivial (by rw[hd];exact(Bool.and_eq_true_iff.1 hok).1) (by rw[hd];exact(Bool.and_eq_true_iff.1 hok).2) (fun r=>by rw[hd,he0];rfl)
end Go.Av
namespace Go.Av
open Go
abbrev dI (x:Int):D:= .int .i64 x
abbrev dU (x:Int):D:= .int .u64 x
inductive Sh where
 |a (tm sl:List Nat)
 |m (need eff:St) (mks dead hid:List Nat)
def zb0 (P:Program)(ops:Array Oper)(n:St)(o:Oper):St:=
 match o.dst with
 |none=>⟨[],[]⟩
 |some d=>match z0o ops n o with
  |some true=>match z3e P n (some d) o.op with
   |some (.val av _)=>⟨[(d,av)],[]⟩
   |_=>⟨[],[]⟩
  |some false=>⟨[(d,.tup [])],[]⟩
  |none=>⟨[],[]⟩
def znl (s0:St)(b:List Nat)(acc:List DOp)(tm sl:List Nat):St:=
 match keep tm sl (stD (fun i=>memB i b) 0 acc s0)with
 |some n=>n
 |none=>⟨[],[]⟩
def z1w (P:Program)(ops:Array Oper)(s0:St)(bef:List (List Nat)):Nat→List Oper→List Sh→List DOp→List DOp
 |r,o::os,.a tm sl::xs,acc=>
  (fun x:DOp=>x::z1w P ops s0 bef (r+1) os xs (acc++[x])) ((fun n:St=>⟨n,zb0 P ops n o,[],[],[]⟩) (znl s0 (nth bef r) acc tm sl))
 |r,_::os,.m n e mk dd hd::xs,acc=>⟨n,e,mk,dd,hd⟩::z1w P ops s0 bef (r+1) os xs (acc++[⟨n,e,mk,dd,hd⟩])
 |_,_,_,_=>[]
def z6h (P:Program)(ops:Array Oper)(r:St):List Oper→List DOp→List Sh→List (Option Bool×Option Step)
 |o::os,x::xs,.a _ _::ys=>(z0o ops (x.need.app r) o,z3e P (x.need.app r) o.dst o.op)::z6h P ops r os xs ys
 |_::os,_::xs,.m _ _ _ _ _::ys=>z6h P ops r os xs ys
 |_,_,_=>[]
def z82 (N:Nat)(P:Program)(ops:Array Oper):List Oper→List DOp→List Sh→Bool
 |o::os,x::xs,.a _ _::ys=>
  match(match o.dst with
   |none=>false
   |some d=>match z0o ops x.need o with
    |some true=>match z3e P x.need (some d) o.op with
     |some (.val av c)=>match okDst N x.need (some d) (.val av c)with|true=>mksOk [] (.val av c) (some d)|false=>false
     |_=>false
    |some false=>Nat.blt d N
    |none=>false)with
  |true=>z82 N P ops os xs ys
  |false=>false
 |_::os,_::xs,.m _ _ _ _ _::ys=>z82 N P ops os xs ys
 |_,_,_=>true
def z63 (P:Program)(ops:Array Oper):List Oper→List DOp→List Sh→Prop
 |o::os,x::xs,.a _ _::ys=>
  match z0o ops x.need o with
  |some true=>match z3e P x.need o.dst o.op with
   |some (.val _ c)=>c∧z63 P ops os xs ys
   |_=>z63 P ops os xs ys
  |_=>z63 P ops os xs ys
 |_::os,_::xs,.m _ _ _ _ _::ys=>z63 P ops os xs ys
 |_,_,_=>True
inductive ManOk (E:Env) (ops:Array Oper):List Oper→List Sh→Prop
 |z {os:List Oper}:ManOk E ops os []
 |a {o:Oper} {os:List Oper} {tm sl:List Nat} {ys:List Sh} (h:ManOk E ops os ys):ManOk E ops (o::os) (.a tm sl::ys)
 |m {o:Oper} {os:List Oper} {n e:St} {mk dd hd:List Nat} {ys:List Sh} (h1:DOk E ops o ⟨n,e,mk,dd,hd⟩) (h:ManOk E ops os ys):ManOk E ops (o::os) (.m n e mk dd hd::ys)
theorem zh3 {E:Env}{ops:Array Oper}{o:Oper}{n:St}(hl: ∀r:St,z0o ops (n.app r) o=z0o ops n o∧z3e E.P (n.app r) o.dst o.op=z3e E.P n o.dst o.op)
 (hg:(match o.dst with
  |none=>false
  |some d=>match z0o ops n o with
   |some true=>match z3e E.P n (some d) o.op with
    |some (.val av c)=>match okDst E.N n (some d) (.val av c)with|true=>mksOk [] (.val av c) (some d)|false=>false
    |_=>false
   |some false=>Nat.blt d E.N
   |none=>false)=true)
 (hc:match z0o ops n o with
  |some true=>match z3e E.P n o.dst o.op with
   |some (.val _ c)=>c
   |_=>True
  |_=>True):DOk E ops o ⟨n,zb0 E.P ops n o,[],[],[]⟩:=by
 cases hd:o.dst with
 |none=>rw[hd]at hg;cases hg
 |some d=>
  rw[hd]at hg;simp only at hg;cases hw:z0o ops n o with
  |none=>rw[hw]at hg;cases hg
  |some b=>
   rw[hw]at hg hc;cases b with
   |false=>
    simp only at hg;refine DOk.skip (d:=d) (fun r=>(hl r).1.trans hw) hd hg (fun r=>?_);unfold zb0;rw[hd];simp only[hw];rfl
   |true=>
    simp only at hg hc;cases he:z3e E.P n (some d) o.op with
    |none=>rw[he]at hg;cases hg
    |some st=>
     rw[he]at hg;cases st with
     |val av c=>
      simp only at hg;rw[hd,he]at hc;simp only at hc;have h1:okDst E.N n (some d) (.val av c)=true:=by
       cases e:okDst E.N n (some d) (.val av c)with
       |true=>rfl
       |false=>rw[e]at hg;cases hg
      rw[h1]at hg;refine DOk.step (.val av c) (fun r=>(hl r).1.trans hw) (fun r=>?_) hc (by rw[hd];exact h1) (by rw[hd];exact hg) (fun r=>?_)
      ·have:=(hl r).2;rw[hd,he]at this;rw[hd];exact this
      ·unfold zb0;rw[hd];simp only[hw,he];rfl
     |new c x=>simp only at hg;cases hg
     |turn k c=>simp only at hg;cases hg
theorem zhe {E:Env}{ops:Array Oper}{s0:St}{bef:List (List Nat)}: ∀(os:List Oper) (ys:List Sh) (r0:Nat) (acc:List DOp),Nat.beq os.length ys.length=true→
 (∀r:St,z6h E.P ops r os (z1w E.P ops s0 bef r0 os ys acc) ys=z6h E.P ops ⟨[],[]⟩ os (z1w E.P ops s0 bef r0 os ys acc) ys)→
 z82 E.N E.P ops os (z1w E.P ops s0 bef r0 os ys acc) ys=true→z63 E.P ops os (z1w E.P ops s0 bef r0 os ys acc) ys→ManOk E ops os ys→
 zaz E ops os (z1w E.P ops s0 bef r0 os ys acc)
 |[],[],_,_,_,_,_,_,_=>trivial
 |[],_::_,_,_,h,_,_,_,_=>by cases h
 |_::_,[],_,_,h,_,_,_,_=>by cases h
 |o::os,.m n e mk dd hd::ys,r0,acc,hlen,hv,hg,hc,hm=>by
  cases hm with|m h1 h2=>exact⟨h1,zhe os ys (r0+1) _ hlen hv hg hc h2⟩
 |o::os,.a tm sl::ys,r0,acc,hlen,hv,hg,hc,hm=>by
  have e0: ∀n:St,n.app ⟨[],[]⟩=n:=fun n=>by cases n;simp[St.app]
  have hv1:=fun r=>List.cons.inj (hv r);unfold z1w at hg hc;simp only[z82,z63]at hg hc;have hg2: ∀{b:Bool} {z:Bool},(match b with|true=>z|false=>false)=true→b=true∧z=true:=fun{b z} h=>by cases b<;>simp_all
  obtain⟨g1,g2⟩:=hg2 hg;refine⟨zh3 (fun r=>?_) g1 ?_,zhe os ys (r0+1) _ hlen (fun r=>(hv1 r).2) g2 ?_ (by cases hm with|a h=>exact h)⟩
  ·have:=(hv1 r).1;simp only[Prod.mk.injEq]at this;rw[e0]at this;exact this
  ·revert hc
   split
   ·split
    ·intro h;exact h.1
    ·intro _;trivial
   ·intro _;trivial
  ·revert hc
   split
   ·split
    ·intro h;exact h.2
    ·intro h;exact h
   ·intro h;exact h
theorem zeq {E:Env}{s:St}{post:Exit→St→Prop}{id:Nat}{l:List Oper}(ys:List Sh)(bef:List (List Nat)){s':St}{cs:Prop}(tk sk:List Nat)(hm:E.P.follows .mixedOrders=true)
 (hb:(match Nat.beq l.length ys.length with|true=>(match drawB l (z1w E.P l.toArray s bef 0 l ys []) bef s with|true=>z82 E.N E.P l.toArray l (z1w E.P l.toArray s bef 0 l ys []) ys|false=>false)|false=>false)=true)
 (hn:z7l (z1w E.P l.toArray s bef 0 l ys []) bef s 0 (z1w E.P l.toArray s bef 0 l ys [])=z7k (z1w E.P l.toArray s bef 0 l ys []))
 (hv:(fun r=>z6h E.P l.toArray r l (z1w E.P l.toArray s bef 0 l ys []) ys)=fun _=>z6h E.P l.toArray ⟨[],[]⟩ l (z1w E.P l.toArray s bef 0 l ys []) ys)
 (hce:z63 E.P l.toArray l (z1w E.P l.toArray s bef 0 l ys []) ys=cs) (hc:cs) (hman:ManOk E l.toArray l ys)
 (hk:Av.keep tk sk (stD (fun _=>true) 0 (z1w E.P l.toArray s bef 0 l ys []) s)=some s') (hp:post .normal s'):Tri E (.region id l.toArray true) s post:=by
 have h2: ∀{b z:Bool},(match b with|true=>z|false=>false)=true→b=true∧z=true:=fun{b z} h=>by cases b<;>simp_all
 obtain⟨hlen,hb⟩:=h2 hb;obtain⟨hd,hg⟩:=h2 hb;exact Tri.drawn hm hd hn (zhe l ys 0 [] hlen (fun r=>congrFun hv r) hg (hce▸hc) hman) hk hp
end Go.Av
namespace Go.Av
open Go
section
variable {E:Env} {s:St} {post:Exit→St→Prop} {id:Nat} {l:List Oper} {y:Code}
theorem z1g (tk sk:List Nat)(s':St)(c:Prop)(he:z5z E.P E.N l.toArray l tk sk s=some (s',c))(hc:c)(h:Tri E y s' post):Tri E (.seq (.region id l.toArray false) y) s post:=by
 refine z02 ?_;refine z04 ?_;have hl:(l.drop 0).take l.length=l:=by rw[List.drop_zero,List.take_of_length_le (zze _)]
 refine At.seg l.length tk sk (s':=s') (c:=c) (by rw[hl];exact he) hc ?_;rw[zzb];exact At.done (Nat.ble_eq_true_of_le (zze _)) h
end
def allT:Nat→Prop
 |0=>True
 |n+1=>True∧allT n
theorem z00: ∀n,allT n
 |0=>trivial
 |n+1=>⟨trivial,z00 n⟩
end Go.Av
namespace Go.Av
open Go
def tNp:Nat→Prop→Prop
 |0,p=>p
 |n+1,p=>True∧tNp n p
theorem tN: ∀(n:Nat) {p:Prop},p→tNp n p
 |0,_,h=>h
 |n+1,_,h=>⟨trivial,tN n h⟩
theorem ai {a b:Prop}(x:a)(y:b):a∧b:=⟨x,y⟩
def zfj (P:Program)(N:Nat)(ops:Array Oper)(l:List Oper)(tk sk:List Nat)(s:St):St:=match z5z P N ops l tk sk s with|some (s',_)=>s'|none=>⟨[],[]⟩
def segPO (P:Program)(N:Nat)(ops:Array Oper)(l:List Oper)(tk sk:List Nat)(s:St):Option Prop:=match z5z P N ops l tk sk s with|some (_,c)=>some c|none=>none
def z7u (tk sk:List Nat)(s:St):St:=match keep tk sk s with|some s'=>s'|none=>⟨[],[]⟩
def zba (tk sk:List Nat)(s:St):Bool:=match keep tk sk s with|some _=>true|none=>false
theorem z98 {tk sk:List Nat}{s:St}(h:zba tk sk s=true):keep tk sk s=some (z7u tk sk s):=by
 unfold zba at h;unfold z7u;cases hk:keep tk sk s with
 |none=>rw[hk]at h;cases h
 |some s'=>rfl
theorem zfi {P:Program}{N:Nat}{ops:Array Oper}{l:List Oper}{tk sk:List Nat}{s:St}{c:Prop}(h:segPO P N ops l tk sk s=some c):z5z P N ops l tk sk s=some (zfj P N ops l tk sk s,c):=by
 unfold segPO at h;unfold zfj;cases he:z5z P N ops l tk sk s with
 |none=>rw[he]at h;cases h
 |some r=>
  rw[he]at h;cases h;rfl
theorem kr {α:Type}{a b:α}(h:a=b:=by kernel_rfl):a=b:=h
def retEv (P:Program)(s:St)(rs:List ResultVar):Option (AV×Prop):=match evRes P s rs with|some (l,c)=>some (resAV l,c)|none=>none
theorem RetAt.k {P:Program}{fn:Func}{res:AV}{sl':List (Nat×Slot)}{s:St}(h1:retEv P s fn.results.toList=some (res,allT fn.results.size):=by kernel_rfl)
 (h2:(match res.clean with|true=>allC (fun p:Nat×Slot=>p.2.clean) sl'|false=>false)=true:=by kernel_rfl) (h3:sl'.map (fun p=>look s.sl p.1)=sl'.map (fun p=>some p.2):=by kernel_rfl):RetAt P fn res sl' s:=by
 unfold retEv at h1;cases he:evRes P s fn.results.toList with
 |none=>rw[he]at h1;cases h1
 |some r=>
  obtain⟨l,c⟩:=r;rw[he]at h1;simp only[Option.some.injEq,Prod.mk.injEq]at h1;obtain⟨rfl,rfl⟩:=h1;have h2':(resAV l).clean=true∧allC (fun p:Nat×Slot=>p.2.clean) sl'=true:=by
   cases hc:(resAV l).clean with
   |true=>rw[hc]at h2;exact⟨rfl,h2⟩
   |false=>rw[hc]at h2;cases h2
  refine⟨l,_,he,z00 _,rfl,h2'.1,fun k c hk=>?_⟩;have hm:=z2b hk
  have:=List.map_inj_left.1 h3 _ hm;exact⟨this,z2l h2'.2 _ hm⟩
def putBs (ts:List Nat)(v:Bool)(s:St):St:=⟨ts.map (fun t=>(t,.c (.d (.bool v))))++s.tm,s.sl⟩
def befGo:List Oper→List (List Nat)→List (List Nat)
 |[],acc=>acc
 |o::os,acc=>befGo os (acc++[((o.after.toList.filter fun a=>match a.ground with| .textOnly _=>false| .gcOnly _=>false|_=>true).map (·.on)).foldr (fun j r=>(j::nth acc j).foldr (fun i r=>match memB i r with|true=>r|false=>i::r) r) []])
section
variable {E:Env} {s:St} {post:Exit→St→Prop} {id:Nat} {l:List Oper} {y:Code} {L:List Oper} {i:Nat} {K:St→Prop} {Q:Type} {q:Q} {x:Code}
theorem At.sg (n:Nat)(tk sk:List Nat){c:Prop}(hc:c)(h:At E L (i+n) (zfj E.P E.N L.toArray ((L.drop i).take n) tk sk s) K) (he:segPO E.P E.N L.toArray ((L.drop i).take n) tk sk s=some c:=by kernel_rfl):At E L i s K:=
 At.seg n tk sk (zfi he) hc h
theorem Tri.sg (tk sk:List Nat){c:Prop}(hc:c)(h:Tri E y (zfj E.P E.N l.toArray l tk sk s) post)(he:segPO E.P E.N l.toArray l tk sk s=some c:=by kernel_rfl):Tri E (.seq (.region id l.toArray false) y) s post:=
 z1g tk sk _ c (zfi he) hc h
theorem Tri.kp (tk sk:List Nat)(h:Tri E y (z7u tk sk s) post)(he:zba tk sk s=true:=by kernel_rfl):Tri E y s post:=Tri.keep tk sk (z98 he) h
theorem z08 {c:Operand}{b:Bool}{u v:Option Q}(h:bf b u v=some q)(ht:u=some q→Tri E x s post)(hf:v=some q→Tri E y s post)(hb:evO s c=some (.c (.d (.bool b))):=by kernel_rfl):
 Tri E (.cond c x y) s post:=zk8 hb h ht hf
theorem z0t (ys:List Sh)(tk sk:List Nat){cs:Prop}(hc:cs)(hman:ManOk E l.toArray l ys)(hp:post .normal (z7u tk sk (stD (fun _=>true) 0 (z1w E.P l.toArray s (befGo l []) 0 l ys []) s)))
 (hm:E.P.follows .mixedOrders=true:=by kernel_rfl)
 (hb:(match Nat.beq l.length ys.length with|true=>(match drawB l (z1w E.P l.toArray s (befGo l []) 0 l ys []) (befGo l []) s with|true=>z82 E.N E.P l.toArray l (z1w E.P l.toArray s (befGo l []) 0 l ys []) ys|false=>false)|false=>false)=true:=by kernel_rfl)
 (hn:z7l (z1w E.P l.toArray s (befGo l []) 0 l ys []) (befGo l []) s 0 (z1w E.P l.toArray s (befGo l []) 0 l ys [])=z7k (z1w E.P l.toArray s (befGo l []) 0 l ys []):=by kernel_rfl)
 (hv:(fun r=>z6h E.P l.toArray r l (z1w E.P l.toArray s (befGo l []) 0 l ys []) ys)=(fun _=>z6h E.P l.toArray ⟨[],[]⟩ l (z1w E.P l.toArray s (befGo l []) 0 l ys []) ys):=by kernel_rfl)
 (hce:z63 E.P l.toArray l (z1w E.P l.toArray s (befGo l []) 0 l ys []) ys=cs:=by kernel_rfl)
 (hk:zba tk sk (stD (fun _=>true) 0 (z1w E.P l.toArray s (befGo l []) 0 l ys []) s)=true:=by kernel_rfl):Tri E (.region id l.toArray true) s post:=
 zeq ys (befGo l []) tk sk hm hb hn hv hce hc hman (z98 hk) hp
theorem z71 (s':St)(ys:List Sh)(tk sk:List Nat){cs:Prop}(hc:cs)(hman:ManOk E l.toArray l ys)(hp:post .normal s')
 (hm:E.P.follows .mixedOrders=true:=by kernel_rfl)
 (hb:(match Nat.beq l.length ys.length with|true=>(match drawB l (z1w E.P l.toArray s (befGo l []) 0 l ys []) (befGo l []) s with|true=>z82 E.N E.P l.toArray l (z1w E.P l.toArray s (befGo l []) 0 l ys []) ys|false=>false)|false=>false)=true:=by kernel_rfl)
 (hn:z7l (z1w E.P l.toArray s (befGo l []) 0 l ys []) (befGo l []) s 0 (z1w E.P l.toArray s (befGo l []) 0 l ys [])=z7k (z1w E.P l.toArray s (befGo l []) 0 l ys []):=by kernel_rfl)
 (hv:(fun r=>z6h E.P l.toArray r l (z1w E.P l.toArray s (befGo l []) 0 l ys []) ys)=(fun _=>z6h E.P l.toArray ⟨[],[]⟩ l (z1w E.P l.toArray s (befGo l []) 0 l ys []) ys):=by kernel_rfl)
 (hce:z63 E.P l.toArray l (z1w E.P l.toArray s (befGo l []) 0 l ys []) ys=cs:=by kernel_rfl)
 (hk:Av.keep tk sk (stD (fun _=>true) 0 (z1w E.P l.toArray s (befGo l []) 0 l ys []) s)=some s':=by kernel_rfl):Tri E (.region id l.toArray true) s post:=
 zeq ys (befGo l []) tk sk hm hb hn hv hce hc hman hk hp
theorem DOk.cA {ops:Array Oper}{o:Oper}{x:DOp}{cl:Call}{f:FuncId}{args:List AV}{res:AV}(caps:List D)(xs:List AV)(hS:Summ E.P f args [] res [])(hle: ∀r,AVsArg (x.need.app r) xs args)
 (hop:o.op= .call cl:=by rfl) (hw: ∀r,z0o ops (x.need.app r) o=some true:=by exact fun r=>by kernel_rfl) (hd:dstOk E.N o.dst=true:=by kernel_rfl) (hc: ∀r,z6i (x.need.app r) cl=some (f,caps):=by exact fun r=>by kernel_rfl)
 (hx: ∀r,z7q (x.need.app r) cl caps=some xs:=by exact fun r=>by kernel_rfl) (hfl:z6n args=true:=by kernel_rfl) (hsol:res.solid=true:=by kernel_rfl) (heff: ∀r,putO (x.need.app r) o.dst res=x.eff.app (x.need.app r):=by exact fun r=>by kernel_rfl):DOk E ops o x:=
 DOk.callA hS hop hw hd hc hx hle hfl hsol heff
def lenS (s:St)(t:Nat):Option Nat:=match look s.tm t with|some (.c (.d (.list _ n _)))=>some n|some (.c (.view _ n _))=>some n|_=>none
theorem Tri.ln (t n:Nat)(h:n≤maxN→Tri E y s post)(he:lenS s t=some n:=by kernel_rfl):Tri E y s post:=by
 unfold lenS at he;split at he
 ·rename_i hl;cases he;exact Tri.lenOf hl h
 ·rename_i hl;cases he;exact zjm hl h
 ·cases he
section
variable {S R:Type}
theorem z1m {tc n b cid id1 id2:Nat}{L1 L2:List Oper}{body:Code}{B:Nat→S→Option (Ctl S R)}{kn:S→Option Q}{kr:R→Option Q}(ti:Nat)(st0:S)(RT:R→St→Prop)(σ:S→St)(tk0 sk0 tk sk tkF skF tk2 sk2:List Nat)
 (h:outK (z0k B n 0 st0) kn kr=some q) (hn:n≤maxN)
 (hbody: ∀i st c,i<n→B i st=some c→Tri E body ((idx ti i (σ st)).put tc (.c (.d (.bool true)))) (zh6 cid b ti σ (fun st=>z7u tkF skF ((idx ti n (σ st)).put tc (.c (.d (.bool false))))) RT i c))
 (hrest: ∀st,kn st=some q→post .normal (z7u tkF skF ((idx ti n (σ st)).put tc (.c (.d (.bool false)))))) (hret: ∀x s',kr x=some q→RT x s'→post .ret s')
 (hbc:Nat.beq b cid=false:=by kernel_rfl) (hs0:Av.keep tk0 sk0 s=some (idx ti 0 (σ st0)):=by kernel_rfl)
 (h1: ∀i st,z5z E.P E.N L1.toArray L1 tk sk (idx ti i (σ st))=some ((idx ti i (σ st)).put tc (.c (.d (.bool (decide ((i:Int)<(n:Int)))))),allT L1.length):=by exact fun i st=>by kernel_rfl)
 (h2: ∀i st,z5z E.P E.N L2.toArray L2 tk2 sk2 (idx ti i (σ st))=some ((σ st).put ti (.c (.d (.int .i64 (zzi.wrap ((i:Int)+1))))),allT L2.length):=by exact fun i st=>by kernel_rfl)
 (hF: ∀st,zba tkF skF ((idx ti n (σ st)).put tc (.c (.d (.bool false))))=true:=by exact fun st=>by kernel_rfl):
 Tri E (.block b (.loop (.seq (.region id1 L1.toArray false) (.seq (.cond (.tmp tc) .skip (.exit b)) (.seq (.block cid body) (.region id2 L2.toArray false)))))) s post:=
 Tri.keep tk0 sk0 hs0 (Tri.range RT σ _ (fun i=>decide ((i:Int)<(n:Int))) tk sk tkF skF tk2 sk2 h hn hbc (fun i st=>⟨_,h1 i st,z00 _⟩) (fun i hi=>decide_eq_true (by omega)) (decide_eq_false (by omega)) (fun st=>z98 (hF st)) (fun i st=>⟨_,h2 i st,z00 _⟩) hbody hrest hret)
theorem z2r {b:Nat}{c:Code}{B:S→Option (Ctl S R)}{kn:S→Option Q}{kr:R→Option Q}{fuel:Nat}(st0:S)(RT:R→St→Prop)(σ:S→St)(tk0 sk0:List Nat)
 (h:outK (loopN B fuel st0) kn kr=some q) (hround: ∀st r,B st=some r→Tri E c (σ st) (zdj b σ σ RT r))
 (hrest: ∀st,kn st=some q→post .normal (σ st)) (hret: ∀x s',kr x=some q→RT x s'→post .ret s') (hs0:Av.keep tk0 sk0 s=some (σ st0):=by kernel_rfl):Tri E (.block b (.loop c)) s post:=
 Tri.keep tk0 sk0 hs0 (z76 RT σ σ h hround hrest hret)
end
theorem At.cs (ts:List Nat){b:Bool}{u v:Option Q}(h:bf b u v=some q)(ht:u=some q→At E L i (putBs ts true s) K)(hf:v=some q→At E L i (putBs ts false s) K)
 (hb:ts.map (fun t=>look s.tm t)=ts.map (fun _=>some (.c (.d (.bool b)))):=by kernel_rfl):At E L i s K:=by
 have key:At E L i (putBs ts b s) K:=by
  cases b
  ·exact hf h
  ·exact ht h
 refine fun a w hs=>key a w (hs.weaken (fun t y hy=>?_) fun t y hy=>hy);unfold putBs at hy;simp only at hy;rcases zei hy with hy|⟨_,hy⟩
 ·have hm:=z2b hy;obtain⟨t',ht',e⟩:=zzf.1 hm;cases e;exact List.map_inj_left.1 hb _ ht'
 ·exact hy
theorem At.cA {o:Oper}{cl:Call}{f:FuncId}{args:List AV}{res:AV}(caps:List D)(xs:List AV)(hS:Summ E.P f args [] res [])(hle:AVsArg s xs args)(h:At E L (i+1) (putO s o.dst res) K)(ho:L[i]?=some o:=by rfl)
 (hop:o.op= .call cl:=by rfl) (hw:z0o L.toArray s o=some true:=by kernel_rfl) (hd:dstOk E.N o.dst=true:=by kernel_rfl) (hc:z6i s cl=some (f,caps):=by kernel_rfl) (hx:z7q s cl caps=some xs:=by kernel_rfl)
 (hfl:z6n args=true:=by kernel_rfl) (hsol:res.solid=true:=by kernel_rfl):At E L i s K:=
 At.callA hS ho hop hw hd hc hx hle hfl hsol h
theorem z2c {o:Oper}{cl:Call}{f:FuncId}{args:List AV}{res:AV}{sl sl':List (Nat×Slot)}(nf:Nat)(caps:List CC)(xs:List AV)(ρ:List (Nat×Nat))(tk sk:List Nat)
 (hS:Summ E.P f args sl res sl') (hle:AVsArgL s ρ (keysS sl) ((keysS sl).map (renN ρ)) xs args) (h:At E L (i+1) (putO ⟨(z7u tk sk s).tm,renSl ρ sl'++(z7u tk sk s).sl⟩ o.dst (res.ren ρ)) K) (ho:L[i]?=some o:=by rfl) (hop:o.op= .call cl:=by rfl)
 (hw:z0o L.toArray s o=some true:=by kernel_rfl) (hd:dstOk E.N o.dst=true:=by kernel_rfl) (hc:z5y s cl=some (f,nf,caps):=by kernel_rfl) (hx:argsL s cl nf caps=some xs:=by kernel_rfl)
 (hsl:LentS s ρ (keysS sl) sl:=by repeat' first|exact trivial|refine⟨⟨by kernel_rfl,by kernel_rfl⟩,?_⟩)
 (hinj:(match injB ρ (keysS sl)with|true=>(match injB ρ (keysS sl')with|true=>(match res.lent (keysS sl')with|true=>allC (fun p:Nat×Slot=>p.2.lent (keysS sl')) sl'|false=>false)|false=>false)|false=>false)=true:=by kernel_rfl)
 (hk:zba tk sk s=true:=by kernel_rfl)
 (hk0:(match allC (fun k=>match look (z7u tk sk s).sl (renN ρ k)with|some _=>false|none=>true) (keysS sl++keysS sl')with|true=>allC (fun k=>(z7u tk sk s).noRef (renN ρ k)) (oddK (keysS sl) (keysS sl'))|false=>false)=true:=by kernel_rfl)
 (hfx:(match allC (fun k=> !anyB (Nat.beq (renN ρ k)) E.fx) (oddK (keysS sl) (keysS sl'))with|true=>lkOk3 E.lk ρ (keysS sl) (keysS sl')|false=>false)=true:=by kernel_rfl):At E L i s K:=by
 have h2: ∀{b z:Bool},(match b with|true=>z|false=>false)=true→b=true∧z=true:=fun{b z} h=>by cases b<;>simp_all
 obtain⟨a1,hinj⟩:=h2 hinj;obtain⟨a2,hinj⟩:=h2 hinj;obtain⟨a3,a4⟩:=h2 hinj;obtain⟨b1,b2⟩:=h2 hk0;obtain⟨c1,c2⟩:=h2 hfx;exact At.callL ρ tk sk hS ho hop hw hd hc hx hle hsl a1 a2 a3 a4 (z98 hk) b1 b2 c1 c2 _ rfl h
end
end Go.Av
namespace Go.Av
open Go
abbrev Alts:=List (Nat×Nat×St)
def altOf:Alts→Nat→Option (Nat×St)
 |[],_=>none
 |(r',i,n)::al,r=>match Nat.beq r' r with|true=>some (i,n)|false=>altOf al r
def hits (x y:DOp):Bool:=
 match anyB (fun e:Nat×AV=>z15 e.1 y.eff.tm) x.eff.tm with
 |true=>true
 |false=>anyB (fun e:Nat×Slot=>z15 e.1 y.eff.sl) x.eff.sl
def softB (al:Alts)(i r:Nat)(x y:DOp):Bool:=
 match altOf al r with
 |some (i',_)=>match Nat.beq i' i with|true=>(match hits x y with|true=>false|false=>true)|false=>false
 |none=>false
def zkx (al:Alts)(specs:List DOp)(bef:List (List Nat)):Bool:=
 allB (fun r=>allB (fun i=>match Nat.beq i r with
  |true=>true
  |false=>match specs[i]?,specs[r]? with
   |some x,some y=>match z6v x y with
    |true=>(match memB i (nth bef r)with|true=>true|false=>(match memB r (nth bef i)with|true=>true|false=>softB al i r x y))
    |false=>true
   |_,_=>true) (List.range specs.length)) (List.range specs.length)
theorem zax {al:Alts}{specs:List DOp}{bef:List (List Nat)}(h:zkx al specs bef=true){i r:Nat}{x y:DOp}(hx:specs[i]?=some x)(hy:specs[r]?=some y)(hne:i≠r)(hw:z6v x y=true):
 i∈nth bef r∨r∈nth bef i∨((∃n,altOf al r=some (i,n))∧hits x y=false):=by
 have h1:=z48.1 h r (by simpa using(List.getElem?_eq_some_iff.1 hy).1);have h2:=z48.1 h1 i (by simpa using(List.getElem?_eq_some_iff.1 hx).1)
 have hb:Nat.beq i r=false:=by
  cases hb:Nat.beq i r with
  |false=>rfl
  |true=>exact absurd (zz4 hb) hne
 rw[hb,hx,hy]at h2;simp only[hw]at h2;cases hm:memB i (nth bef r)with
 |true=>exact .inl (z26.1 hm)
 |false=>
  rw[hm]at h2;simp only at h2;cases hm2:memB r (nth bef i)with
  |true=>exact .inr (.inl (z26.1 hm2))
  |false=>
   rw[hm2]at h2;simp only at h2;right;right;unfold softB at h2;cases ha:altOf al r with
   |none=>rw[ha]at h2;cases h2
   |some p=>
    obtain⟨i',n⟩:=p;rw[ha]at h2;simp only at h2;cases hi:Nat.beq i' i with
    |false=>rw[hi]at h2;cases h2
    |true=>
     rw[hi]at h2;simp only at h2;cases hh:hits x y with
     |true=>rw[hh]at h2;cases h2
     |false=>exact⟨⟨n,by rw[zz4 hi]⟩,rfl⟩
theorem znb {x y:DOp}{t:Nat}(hx:z15 t x.eff.tm=true)(hy:z15 t y.eff.tm=true):hits x y=true:=by
 unfold hits;obtain⟨v,hv⟩:=z2h.1 hx;rw[z81.2 ⟨(t,v),z2b hv,hy⟩]
theorem zna {x y:DOp}{t:Nat}(hx:z15 t x.eff.sl=true)(hy:z15 t y.eff.sl=true):hits x y=true:=by
 unfold hits;obtain⟨v,hv⟩:=z2h.1 hx;split
 ·rfl
 ·exact z81.2 ⟨(t,v),z2b hv,hy⟩
def z7p (E:Env)(ops:Array Oper)(specs:List DOp)(bef:List (List Nat))(s0:St):Alts→Prop
 |[]=>True
 |(r,i,n)::al=>((Nat.beq i r=false∧specs[r]?.map (fun x=>(z17 x.need.tm,z17 x.need.sl))=some (z17 n.tm,z17 n.sl)∧keep (z17 n.tm) (z17 n.sl) (stD (fun j=>memB j (i::nth bef r)) 0 specs s0)=some n)∧
  ∃o x,ops[r]?=some o∧specs[r]?=some x∧DOk E ops o ⟨n,x.eff,x.mks,x.dead,x.hid⟩)∧z7p E ops specs bef s0 al
theorem z7p.get {E:Env}{ops:Array Oper}{specs:List DOp}{bef:List (List Nat)}{s0:St}: ∀{al:Alts},z7p E ops specs bef s0 al→ ∀{r i:Nat} {n:St} {o:Oper} {x:DOp},altOf al r=some (i,n)→ops[r]?=some o→specs[r]?=some x→
 i≠r∧z17 x.need.tm=z17 n.tm∧z17 x.need.sl=z17 n.sl∧keep (z17 n.tm) (z17 n.sl) (stD (fun j=>memB j (i::nth bef r)) 0 specs s0)=some n∧DOk E ops o ⟨n,x.eff,x.mks,x.dead,x.hid⟩
 |[],_,_,_,_,_,_,h,_,_=>by cases h
 |(r',i',n')::al,⟨⟨⟨h1,h2,h3⟩,o',x',h4,h5,h6⟩,ht⟩,r,i,n,o,x,h,ho,hx=>by
  simp only[altOf]at h;cases hb:Nat.beq r' r with
  |true=>
   rw[hb]at h;cases h;have e:=zz4 hb
   subst e;rw[h4]at ho;cases ho;rw[h5]at hx;cases hx;rw[h5]at h2;simp only[Option.map_some,Option.some.injEq,Prod.mk.injEq]at h2;exact⟨fun e=>by rw[e]at h1;simp at h1,h2.1,h2.2,h3,h6⟩
  |false=>
   rw[hb]at h;exact z7p.get ht h ho hx
section
variable {E:Env} {s:St} {a:Act} {w:World}
structure DrawOkA (E:Env) (ops:Array Oper) (specs:List DOp) (bef:List (List Nat)) (al:Alts) (s0:St):Prop where
 len:Nat.beq specs.length ops.size=true
 back:zam ops=true
 befs:okBef ops bef=true
 ord:zkx al specs bef=true
 fresh:zdw specs bef s0=true
 needs:z7l specs bef s0 0 specs=z7k specs
 each: ∀(i:Nat) (o:Oper) (x:DOp),ops[i]?=some o→specs[i]?=some x→DOk E ops o x
 alts:z7p E ops specs bef s0 al
theorem zhi {α β:Type}{l:List (Nat×α)}{l':List (Nat×β)}(h:z17 l=z17 l')(t:Nat):z15 t l=z15 t l':=by
 have key: ∀{γ:Type} (l:List (Nat×γ)),z15 t l=memB t (z17 l):=fun l=>by
  induction l with
  |nil=>rfl
  |cons e l ih=>
   rcases e with⟨k,v⟩;simp only[z15,z17,List.map_cons,memB]at*;cases Nat.beq k t<;>simp[ih]
 rw[key l,key l',h]
theorem DrawOkA.next {ops:Array Oper}{specs:List DOp}{bef:List (List Nat)}{al:Alts}{s0:St}(h:DrawOkA E ops specs bef al s0){D D':Nat→Bool}(hD:zcs ops D){i:Nat}{o:Oper}{x:DOp}(ho:ops[i]?=some o)
 (hx:specs[i]?=some x) (hi:D i=false) (hedge: ∀e∈o.after.toList,Region.binds .any e=true→D e.on=true) (hD': ∀j,D' j=if j=i then true else D j) (hs:SimE E (stD D 0 specs s0) a w)
 {K:Act→World→Prop} {Q:Exit→Act→World→Prop} (hK: ∀a' w',SimE E (stD D' 0 specs s0) a' w'→K a' w'):wpOp E.P ops Q i K a w:=by
 have hlen:=zz4 h.len;have hilt:i<ops.size:=(Array.getElem?_eq_some_iff.1 ho).1
 have hjlt: ∀{j:Nat} {y:DOp},specs[j]?=some y→j<ops.size:=fun hy=>by rw[←hlen];exact(List.getElem?_eq_some_iff.1 hy).1
 have hbef: ∀j∈nth bef i,D j=true∧j<i:=zcw h.befs hD i hilt fun o' ho' e he hb=>by rw[ho]at ho';cases ho';exact hedge e he hb
 have hafter: ∀j y,specs[j]?=some y→i∈nth bef j→D j=false:=fun j y hy hij=>by
  cases hj:D j with
  |false=>rfl
  |true=>
   have:=(zcw h.befs hD j (hjlt hy) (fun o' ho' e he hb=>hD j o' ho' hj e he hb) i hij).1;rw[hi]at this;cases this
 have hown:memB i (nth bef i)=false:=by
  cases hm:memB i (nth bef i)with
  |false=>rfl
  |true=>exact absurd (z9b h.befs hilt (z26.1 hm)) (Nat.lt_irrefl _)
 have hx0:=hx;have hlast0: ∀j y,i<j→specs[j]?=some y→hits y x=true→z6v y x=true→D' j=false:=fun j y hlt hy hh hw=>by
  rw[hD',if_neg (by omega)];rcases zax h.ord hy hx (by omega) hw with hm|hm|⟨_,hm⟩
  ·have:=z9b h.befs hilt hm;omega
  ·exact hafter j y hy hm
  ·rw[hh]at hm;cases hm
 have pick: ∃(nd:St) (b:List Nat),z17 x.need.tm=z17 nd.tm∧z17 x.need.sl=z17 nd.sl∧keep (z17 nd.tm) (z17 nd.sl) (stD (fun j=>memB j b) 0 specs s0)=some nd∧DOk E ops o ⟨nd,x.eff,x.mks,x.dead,x.hid⟩∧
  ∀j y,specs[j]?=some y→z6v y x=true→D j=memB j b:=by
  have hord: ∀j y,specs[j]?=some y→i∈nth bef j→memB j (nth bef i)=false:=fun j y hy hm=>by
   cases hm':memB j (nth bef i)with
   |false=>rfl
   |true=>
    have h1:=z9b h.befs hilt (z26.1 hm');have h2:=z9b h.befs (hjlt hy) hm
    omega
  have plain:(∀j n,altOf al i=some (j,n)→D j=false)→ ∃(nd:St) (b:List Nat),z17 x.need.tm=z17 nd.tm∧z17 x.need.sl=z17 nd.sl∧keep (z17 nd.tm) (z17 nd.sl) (stD (fun j=>memB j b) 0 specs s0)=some nd∧DOk E ops o ⟨nd,x.eff,x.mks,x.dead,x.hid⟩∧
   ∀j y,specs[j]?=some y→z6v y x=true→D j=memB j b:=fun hno=>by
   have hkeep:=zah specs 0 h.needs i x hx;rw[zzb]at hkeep;refine⟨x.need,nth bef i,rfl,rfl,hkeep,h.each i o x ho hx,fun j y hy hw=>?_⟩;by_cases e:j=i
   ·subst e;rw[hi,hown]
   ·rcases zax h.ord hy hx e hw with hm|hm|⟨⟨n,hm⟩,_⟩
    ·rw[(hbef j hm).1,z26.2 hm]
    ·rw[hafter j y hy hm,hord j y hy hm]
    ·rw[hno j n hm];cases hm':memB j (nth bef i)with
     |false=>rfl
     |true=>have:=(hbef j (z26.1 hm')).1;rw[hno j n hm]at this;cases this
  cases ha:altOf al i with
  |none=>exact plain fun j n e=>by rw[ha]at e;cases e
  |some p=>
   obtain⟨i0,n⟩:=p;cases hd0:D i0 with
   |false=>exact plain fun j n' e=>by rw[ha]at e;cases e;exact hd0
   |true=>
    obtain⟨g1,g2,g3,g4,g5⟩:=h.alts.get ha ho hx;refine⟨n,i0::nth bef i,g2,g3,g4,g5,fun j y hy hw=>?_⟩;by_cases ej:j=i0
    ·subst ej;rw[hd0];exact(z26.2 (zz3 ..)).symm
    ·have hcons:memB j (i0::nth bef i)=memB j (nth bef i):=by
      simp only[memB];cases hb:Nat.beq i0 j with
      |true=>exact absurd (zz4 hb).symm ej
      |false=>rfl
     rw[hcons];by_cases e:j=i
     ·subst e;rw[hi,hown]
     ·rcases zax h.ord hy hx e hw with hm|hm|⟨⟨n',hm⟩,_⟩
      ·rw[(hbef j hm).1,z26.2 hm]
      ·rw[hafter j y hy hm,hord j y hy hm]
      ·rw[ha]at hm;cases hm;exact absurd rfl ej
 obtain⟨nd,bb,kT,kS,hkeep,hdok,hsame⟩:=pick;obtain⟨fd,fm,ff⟩:=zd9 h.fresh hx;unfold keep at hkeep;split at hkeep
 case h_2=>cases hkeep
 rename_i tm htm
 split at hkeep
 case h_2=>cases hkeep
 rename_i sl hsl
 have etm:nd.tm=tm:=by rw[←Option.some.inj hkeep]
 have esl:nd.sl=sl:=by rw[←Option.some.inj hkeep]
 have needT: ∀t y,look nd.tm t=some y→look (stD D 0 specs s0).tm t=some y:=fun t y hy=>by
  have h1:=z52 htm t y (etm▸hy);rw[←h1];refine z57 t specs 0 s0 s0 rfl fun j z hz hk=>?_;rw[zzb];exact hsame j z hz (zat hk (.inl (by rw[zhi kT];exact z47 hy)))
 have needS: ∀t y,look nd.sl t=some y→look (stD D 0 specs s0).sl t=some y:=fun t y hy=>by
  have h1:=z52 hsl t y (esl▸hy);rw[←h1];refine z4h t specs 0 s0 s0 rfl fun j z hz hk=>?_;rw[zzb];exact hsame j z hz (z9y hk (.inl (by rw[zhi kS];exact z47 hy)))
 have lessT: ∀t y,look ((stD D 0 specs s0).less x).tm t=some y→look (stD D 0 specs s0).tm t=some y:=fun t y hy=>by
  have hy:look (lessK x.dead _) t=some y:=hy;rw[z41]at hy;cases hm:memB t x.dead with
  |true=>rw[hm]at hy;cases hy
  |false=>rw[hm]at hy;exact hy
 have lessS: ∀t y,look ((stD D 0 specs s0).less x).sl t=some y→look (stD D 0 specs s0).sl t=some y:=fun t y hy=>by
  have hy:look (lessK (x.mks++x.hid) _) t=some y:=hy;rw[z41]at hy;cases hm:memB t (x.mks++x.hid)with
  |true=>rw[hm]at hy;cases hy
  |false=>rw[hm]at hy;exact hy
 have hs1:SimE E (nd.app ((stD D 0 specs s0).less x)) a w:=hs.weaken (fun t y hy=>by
  simp only[St.app,z1r]at hy;cases hn:look nd.tm t with
  |none=>rw[hn]at hy;exact lessT t y hy
  |some z=>rw[hn]at hy;cases hy;exact needT t _ hn) fun t y hy=>by
  simp only[St.app,z1r]at hy;cases hn:look nd.sl t with
  |none=>rw[hn]at hy;exact lessS t y hy
  |some z=>rw[hn]at hy;cases hy;exact needS t _ hn
 have hfr: ∀d∈x.mks,((stD D 0 specs s0).less x).noRef d=true:=fun d hd=>by
  obtain⟨f1,f2⟩:=ff d hd;refine zar specs 0 s0 f1 fun j y hy hDj=>?_;rw[zzb]at hDj;cases he:zac d x y with
  |false=>rfl
  |true=>
   have hne:j≠i:=fun e=>by rw[e,hi]at hDj;cases hDj
   have:=hafter j y hy (f2 j y hne hy he);rw[this]at hDj;cases hDj
 have hone:=hdok (stD D 0 specs s0) hfr a w hs1;have hD0:D' i=true:=by rw[hD'];simp
 have hs2: ∀a' w',SimE E (x.eff.app (nd.app ((stD D 0 specs s0).less x))) a' w'→SimE E (stD D' 0 specs s0) a' w':=fun a' w' hs'=>by
  refine hs'.weaken (fun t y hy=>?_) fun t y hy=>?_
  ·simp only[St.app,z1r];cases he:look x.eff.tm t with
   |some z=>
    have:=zc9 (D:=D') t specs 0 i x z s0 hx (by rw[zzb];exact hD0) he fun j z' hlt hz hk=>by
     rw[zzb];exact hlast0 j z' hlt hz (znb hk (z47 he)) (zat hk (.inr (z47 he)))
    rw[this]at hy;cases hy;rfl
   |none=>
    have e:look (stD D' 0 specs s0).tm t=look (stD D 0 specs s0).tm t:=z57 t specs 0 s0 s0 rfl fun j z hz hk=>by
     rw[zzb,hD',if_neg];intro e;subst e;rw[hx]at hz;cases hz;obtain⟨v,hv⟩:=z2h.1 hk;rw[he]at hv;cases hv
    rw[e]at hy;cases hn:look nd.tm t with
    |none=>
     show look (lessK x.dead _) t=some y;rw[z41];cases hm:memB t x.dead with
     |true=>have:=fd t (z26.1 hm);obtain⟨v,hv⟩:=z2h.1 this;rw[he]at hv;cases hv
     |false=>exact hy
    |some z=>rw[needT t z hn]at hy;exact hy
  ·simp only[St.app,z1r];cases he:look x.eff.sl t with
   |some z=>
    have:=zaq (D:=D') t specs 0 i x z s0 hx (by rw[zzb];exact hD0) he fun j z' hlt hz hk=>by
     rw[zzb];exact hlast0 j z' hlt hz (zna hk (z47 he)) (z9y hk (.inr (z47 he)))
    rw[this]at hy;cases hy;rfl
   |none=>
    have e:look (stD D' 0 specs s0).sl t=look (stD D 0 specs s0).sl t:=z4h t specs 0 s0 s0 rfl fun j z hz hk=>by
     rw[zzb,hD',if_neg];intro e;subst e;rw[hx]at hz;cases hz;obtain⟨v,hv⟩:=z2h.1 hk;rw[he]at hv;cases hv
    rw[e]at hy;cases hn:look nd.sl t with
    |none=>
     show look (lessK (x.mks++x.hid) _) t=some y;rw[z41];cases hm:memB t (x.mks++x.hid)with
     |true=>have:=fm t (z26.1 hm);obtain⟨v,hv⟩:=z2h.1 this;rw[he]at hv;cases hv
     |false=>exact hy
    |some z=>rw[needS t z hn]at hy;exact hy
 have hfin:=hone K Q fun a' w' hs'=>hK a' w' (hs2 a' w' hs');unfold wpOp;rw[ho];simp only;split
 ·rename_i hw;rw[if_pos hw]at hfin;exact .inl hfin
 ·rename_i hw;rw[if_neg hw]at hfin;exact hfin
theorem DrawOkA.any {ops:Array Oper}{specs:List DOp}{bef:List (List Nat)}{al:Alts}{s0:St}(h:DrawOkA E ops specs bef al s0){Q:Exit→Act→World→Prop}
 (hQ: ∀a' w',SimE E (stD (fun _=>true) 0 specs s0) a' w'→Q .normal a' w'): ∀(fuel:Nat) (listed:Array Bool) (a:Act) (w:World),cnt listed=fuel→listed.size=ops.size→zcs ops (inD listed)→
 SimE E (stD (inD listed) 0 specs s0) a w→wpAny E.P .any ops Q fuel listed a w:=by
 have hlen:=zz4 h.len;intro fuel;induction fuel with
 |zero=>
  intro listed a w hc hz hD hs;refine⟨List.filter_eq_nil_iff.2 fun i hi=>?_,hQ a w ?_⟩
  ·have:=zbq hc i (by rw[hz];simpa using hi);simp[Array.getD_eq_getD_getElem?,this]
  ·rw[zbh (D':=inD listed)]
   ·exact hs
   ·intro j hj;have:=zbq hc j (by omega)
    simp[inD,Array.getD_eq_getD_getElem?,this]
 |succ fuel ih=>
  intro listed a w hc hz hD hs;refine⟨fun h0=>?_,fun i hi=>?_⟩
  ·obtain⟨i,h1,h2⟩:=zj0 (l:=listed) (by omega);have hilt:i<ops.size:=by rw[←hz];exact(Array.getElem?_eq_some_iff.1 h1).1
   have hmem:i∈Region.ready .any ops listed:=by
    unfold Region.ready;refine zzh.2 ⟨by simpa using hilt,?_⟩;have ho:ops[i]?=some ops[i]:=Array.getElem?_eq_getElem hilt
    simp only[Array.getD_eq_getD_getElem?,h1,ho,Option.getD_some,Bool.not_false,Bool.true_and,Option.map_some,Array.all_eq_true'];intro e he;cases hb:Region.binds .any e with
    |false=>rfl
    |true=>
     have:=h2 e.on (zb6 h.back ho (by simpa using he) hb);simp[this]
   rw[h0]at hmem;cases hmem
  ·unfold Region.ready at hi;obtain⟨hi1,hi2⟩:=zzh.1 hi;have hilt:i<ops.size:=by simpa using hi1
   have ho:ops[i]?=some ops[i]:=Array.getElem?_eq_getElem hilt;simp only[ho,Option.map_some,Option.getD_some,Bool.and_eq_true,Array.all_eq_true']at hi2;obtain⟨hn,hall⟩:=hi2;have hli:listed[i]?=some false:=by
    rw[Array.getElem?_eq_getElem (by omega)];simp[Array.getD_eq_getD_getElem?,Array.getElem?_eq_getElem (show i<listed.size by omega)]at hn;rw[hn]
   have hedge: ∀e∈ops[i].after.toList,Region.binds .any e=true→inD listed e.on=true:=fun e he hb=>by
    have:=hall e (by simpa using he);rw[hb]at this
    simpa [inD]using this
   have hset: ∀j,inD (listed.setIfInBounds i true) j=if j=i then true else inD listed j:=fun j=>by
    unfold inD;simp only[Array.getD_eq_getD_getElem?,Array.getElem?_setIfInBounds];by_cases e:i=j
    ·subst e;simp[show i<listed.size by omega]
    ·rw[if_neg e,if_neg (fun x=>e x.symm)]
   obtain⟨x,hx⟩: ∃x,specs[i]?=some x:=⟨specs[i]'(by omega),List.getElem?_eq_getElem _⟩;refine h.next hD ho hx (by simp[inD,Array.getD_eq_getD_getElem?,hli]) hedge hset hs fun a' w' hs'=>?_;refine ih _ a' w' (by have:=zj1 hli;omega) (by simpa using hz) (fun j o hj hDj e he hb=>?_) hs';rw[hset]at hDj ⊢;by_cases e1:e.on=i
   ·rw[if_pos e1]
   ·rw[if_neg e1];by_cases e2:j=i
    ·subst e2;rw[ho]at hj;cases hj;exact hedge e he hb
    ·rw[if_neg e2]at hDj;exact hD j o hj hDj e he hb
def zmb (N:Nat)(P:Program)(ops:Array Oper)(n:St)(o:Oper):Bool:=
 match o.dst with
  |none=>false
  |some d=>match z0o ops n o with
   |some true=>match z3e P n (some d) o.op with
    |some (.val av c)=>match okDst N n (some d) (.val av c)with|true=>mksOk [] (.val av c) (some d)|false=>false
    |_=>false
   |some false=>Nat.blt d N
   |none=>false
def ziw (P:Program)(ops:Array Oper)(n:St)(o:Oper):Prop:=
 match z0o ops n o with
  |some true=>match z3e P n o.dst o.op with
   |some (.val _ c)=>c
   |_=>True
  |_=>True
theorem z7p.z {E:Env}{ops:Array Oper}{specs:List DOp}{bef:List (List Nat)}{s0:St}:z7p E ops specs bef s0 []:=trivial
theorem z7p.k {E:Env}{ops:Array Oper}{specs:List DOp}{bef:List (List Nat)}{s0:St}{r i:Nat}{n:St}{al:Alts}(h:z7p E ops specs bef s0 al)
 (h1:Nat.beq i r=false:=by kernel_rfl)
 (h2:specs[r]?.map (fun x=>(z17 x.need.tm,z17 x.need.sl))=some (z17 n.tm,z17 n.sl):=by kernel_rfl)
 (h3:keep (z17 n.tm) (z17 n.sl) (stD (fun j=>memB j (i::nth bef r)) 0 specs s0)=some n:=by kernel_rfl)
 (h4:specs[r]?.map (fun x=>(⟨n,x.eff,x.mks,x.dead,x.hid⟩:DOp))=ops[r]?.map (fun o=>(⟨n,zb0 E.P ops n o,[],[],[]⟩:DOp)):=by kernel_rfl)
 (h5:(fun q:St=>ops[r]?.map (fun o=>(z0o ops (n.app q) o,z3e E.P (n.app q) o.dst o.op)))=(fun _=>ops[r]?.map (fun o=>(z0o ops n o,z3e E.P n o.dst o.op))):=by kernel_rfl)
 (h6:ops[r]?.map (zmb E.N E.P ops n)=some true:=by kernel_rfl)
 (h7:ops[r]?.map (ziw E.P ops n)=some True:=by kernel_rfl):z7p E ops specs bef s0 ((r,i,n)::al):=by
 refine⟨⟨⟨h1,h2,h3⟩,?_⟩,h⟩;cases ho:ops[r]? with
 |none=>rw[ho]at h6;cases h6
 |some o=>
  cases hx:specs[r]? with
  |none=>rw[hx]at h2;cases h2
  |some x=>
   refine⟨o,x,rfl,rfl,?_⟩;rw[ho,hx]at h4;simp only[Option.map_some,Option.some.injEq]at h4;rw[h4];rw[ho]at h6 h7;simp only[Option.map_some,Option.some.injEq]at h6 h7;refine zh3 (fun q=>?_) h6 ?_
   ·have:=congrFun h5 q;rw[ho]at this;simp only[Option.map_some,Option.some.injEq,Prod.mk.injEq]at this;exact this
   ·show ziw E.P ops n o;rw[h7];trivial
end
end Go.Av
namespace Go.Av
open Go
theorem Summ.i {P : Program} {f : FuncId} {fn : Func} {c : Code} {args : List AV} {sl sl' : List (Nat × Slot)} {res : AV} (hf : P.funcs[f]? = some fn) (hb : fn.body = some c) (ex : List Nat)
    (h : ∀ (w : World) (G V L : Nat → Prop) (φ : Nat → Option Loc) (rd : Option Nat), Tri ⟨P, w, G, V, L, sl.map (·.1) ++ ex, fn.ntmps, φ, sl.map (·.1), rd⟩ c ⟨params 0 args, sl⟩ (ziv P fn res sl'))
    (hn : (fn.name == "runtime.NumGoroutine") = false := by kernel_rfl) (ha : Nat.ble args.length fn.ntmps = true := by kernel_rfl) (hlt : anyB (fun p : Nat × Slot => Nat.blt p.1 fn.ntmps) sl = false := by rfl) : Summ P f args sl res sl' := by
  refine Summ.intro hf hb hn ha ex hlt ?_
  rintro ⟨P, w, G, V, L, lk, N, φ, fx, rd⟩ rfl rfl rfl rfl
  exact h w G V L φ rd
section
variable {E:Env}
theorem Tri.l {s:St}{post:Exit→St→Prop}{c:Code}(fz:List Nat)(s':St)(ht:LeT s fz s'.tm)(hs:LeS s fz s'.sl)(h:Tri E c s' post)(hfz: ∀k∈fz,k∉E.lk:=by intro k hk h;first|(cases hk;done)|(cases h;done)|(simp at hk h;omega)):Tri E c s post:=Tri.le fz hfz s' ht hs h
theorem At.l {L:List Oper}{i:Nat}{K:St→Prop}{s:St}(fz:List Nat)(s':St)(ht:LeT s fz s'.tm)(hs:LeS s fz s'.sl)(h:At E L i s' K)(hfz: ∀k∈fz,k∉E.lk:=by intro k hk h;first|(cases hk;done)|(cases h;done)|(simp at hk h;omega)):At E L i s K:=At.le fz hfz s' ht hs h
end
end Go.Av
namespace Go.Av
open Go
def rawC:List Bool→Nat→List C→(Nat→Value)→List C
 |m::ms,i,c::cs,u=>(match m with|true=> .raw (u i)|false=>c)::rawC ms (i+1) cs u
 |_,_,cs,_=>cs
def maskC:List Bool→List C→List C
 |m::ms,c::cs=>match m with|true=>c::maskC ms cs|false=>maskC ms cs
 |_,_=>[]
def setSl (k:Nat)(c:Slot):List (Nat×Slot)→List (Nat×Slot)
 |[]=>[]
 |(j,d)::r=>match Nat.beq j k with|true=>(j,c)::r|false=>(j,d)::setSl k c r
theorem z9w {k:Nat}{c:Slot}: ∀{l:List (Nat×Slot)} {t:Nat},look (setSl k c l) t=if t=k then(look l k).map (fun _=>c)else look l t
 |[],t=>by simp[setSl,look]
 |(j,d)::r,t=>by
  simp only[setSl];by_cases e:j=k
  ·subst e;have:Nat.beq j j=true:=by simp
   rw[this];simp only[z0x];by_cases h:t=j
   ·subst h;simp
   ·have h': ¬j=t:=fun q=>h q.symm;simp[h,h']
  ·have hb:Nat.beq j k=false:=by
    cases hb:Nat.beq j k with
    |false=>rfl
    |true=>exact absurd (zz4 hb) e
   rw[hb];simp only[z0x,z9w (l:=r)];by_cases h:t=k
   ·subst h;simp[e]
   ·by_cases h2:j=t
    ·subst h2;simp[e]
    ·simp[h,h2]
theorem zj9 {R:C→Value→Prop}(hraw: ∀x,R (.raw x) x): ∀{ms:List Bool} {i:Nat} {cs:List C} {u:Nat→Value} {vs:List Value},RelCs R cs vs→(∀j,j<vs.length→u (i+j)=vs.getD j undef)→RelCs R (rawC ms i cs u) vs
 |[],_,_,_,_,h,_=>by simpa [rawC]using h
 |_::_,_,[],_,[],h,_=>h
 |m::ms,i,c::cs,u,v::vs,h,hu=>by
  have h0:=hu 0 (by simp);have hr:RelCs R (rawC ms (i+1) cs u) vs:=zj9 hraw h.2 fun j hj=>by have:=hu (j+1) (by simpa using hj);simpa [Nat.add_assoc,Nat.add_comm 1 j]using this
  cases m with
  |true=>exact⟨by simp at h0;rw[h0];exact hraw v,hr⟩
  |false=>exact⟨h.1,hr⟩
 |_,_,[],_,_::_,h,_=>h.elim
 |_,_,_::_,_,[],h,_=>h.elim
def z8h (R:C→Value→Prop):List Bool→Nat→List C→(Nat→Value)→Prop
 |m::ms,i,c::cs,u=>(m=true→R c (u i))∧z8h R ms (i+1) cs u
 |_,_,_,_=>True
theorem zhu {R:C→Value→Prop}(hraw: ∀x v,R (.raw x) v→v=x): ∀{ms:List Bool} {i:Nat} {ds:List C} {u:Nat→Value} {vs:List Value},RelCs R (rawC ms i ds u) vs→z8h R ms i ds u→RelCs R ds vs
 |[],_,_,_,_,h,_=>by simpa [rawC]using h
 |_::_,_,[],_,_,h,_=>by simpa [rawC]using h
 |m::ms,i,d::ds,u,v::vs,h,hm=>by
  have hr:=zhu hraw h.2 hm.2;cases m with
  |true=>exact⟨by rw[hraw _ _ h.1];exact hm.1 rfl,hr⟩
  |false=>exact⟨h.1,hr⟩
 |_::_,_,_::_,_,[],h,_=>by simp[rawC,RelCs]at h
theorem z8h.of {R R':C→Value→Prop}: ∀{ms:List Bool} {i:Nat} {cs ds:List C} {u:Nat→Value} {vs:List Value},RelCs R cs vs→(∀j,j<vs.length→u (i+j)=vs.getD j undef)→maskC ms cs=maskC ms ds→cs.length=ds.length→(∀c∈maskC ms cs,∀v,R c v→R' c v)→z8h R' ms i ds u
 |[],_,_,_,_,_,_,_,_,_,_=>by simp[z8h]
 |_::_,_,_,[],_,_,_,_,_,_,_=>by simp[z8h]
 |m::ms,i,c::cs,d::ds,u,v::vs,h,hu,he,hl,hR=>by
  have h0:=hu 0 (by simp);have hu': ∀j,j<vs.length→u (i+1+j)=vs.getD j undef:=fun j hj=>by have:=hu (j+1) (by simpa using hj);simpa [Nat.add_assoc,Nat.add_comm 1 j]using this
  have hl':cs.length=ds.length:=by simpa using hl
  cases m with
  |true=>
   simp only[maskC]at he hR;injection he with e1 e2;subst e1;exact⟨fun _=>by simp at h0;rw[h0];exact hR c (zz3 ..) v h.1,z8h.of h.2 hu' e2 hl' fun c hc=>hR c (zz6 _ hc)⟩
  |false=>
   simp only[maskC]at he hR;exact⟨(fun h=>by cases h),z8h.of h.2 hu' he hl' hR⟩
 |_::_,_,[],_::_,_,_,_,_,_,hl,_=>by simp at hl
 |_::_,_,_::_,_,_,[],h,_,_,_,_=>h.elim
theorem zap {k:Nat}{c:Slot}{l:List (Nat×Slot)}{t:Nat}{x:Slot}(h:look (setSl k c l) t=some x): ∃y,look l t=some y:=by
 rw[z9w]at h;split at h
 ·rename_i e
  subst e;cases hl:look l t with
  |none=>rw[hl]at h;cases h
  |some y=>exact⟨y,rfl⟩
 ·exact⟨x,h⟩
theorem zdm {k:Nat}{c d:Slot}{r:List (Nat×Slot)}: ∀{l:List (Nat×Slot)},look l k=some d→setSl k c (l++r)=setSl k c l++r
 |[],h=>by cases h
 |(j,e)::l,h=>by
  simp only[List.cons_append,setSl];cases hb:Nat.beq j k with
  |true=>rfl
  |false=>
   have h':look l k=some d:=by simpa only[look,hb]using h
   simp only[List.cons_append,zdm h']
section
variable {E:Env} {s:St} {G:Nat→Prop} {φ:Nat→Option Loc} {a:Act} {w:World}
theorem zep {tm:List (Nat×AV)}{l:List (Nat×Slot)}{k:Nat}{c0 c1:List C}(h:Sim E ⟨tm,l⟩ G φ a w)(hk:look l k=some (.box c0))(hr:z4j G E.V φ w k (.box c1)):Sim E ⟨tm,setSl k (.box c1) l⟩ G φ a w:=
 {h with
  sl:=fun k' c hc=>by
   have hc:look (setSl k (.box c1) l) k'=some c:=hc;rw[z9w]at hc;split at hc
   ·rename_i e
    subst e;rw[hk]at hc;cases hc;exact hr
   ·exact h.sl k' c hc
  inj:=fun k1 k2 d1 d2 l1 l2 h1 h2=>by
   obtain⟨y1,g1⟩:=zap h1;obtain⟨y2,g2⟩:=zap h2;exact h.inj k1 k2 y1 y2 l1 l2 g1 g2
  own:=fun k1 d1 l1 h1=>by
   obtain⟨y1,g1⟩:=zap h1;exact h.own k1 y1 l1 g1
  fix:=fun k1 d1 hf h1=>by
   obtain⟨y1,g1⟩:=zap h1;exact h.fix k1 y1 hf g1}
theorem zay: ∀(ms:List Bool) (i:Nat) (cs:List C) (u:Nat→Value),(rawC ms i cs u).length=cs.length
 |[],_,cs,_=>by simp[rawC]
 |_::_,_,[],_=>rfl
 |m::ms,i,c::cs,u=>by simp only[rawC,List.length_cons,zay ms (i+1) cs u]
theorem One.callR {ops:Array Oper}{o:Oper}{cl:Call}{f:FuncId}{nf:Nat}{caps:List CC}{xs args:List AV}{res:AV}{sl sl':(Nat→Value)→List (Nat×Slot)}{sl3:List (Nat×Slot)}(ρ:List (Nat×Nat))(s0:St)(kb:Nat)(ms:List Bool)(cs ds:List C)
 (hS: ∀u,Summ E.P f args (sl u) res (sl' u)) (hop:o.op= .call cl) (hw: ∀u,z0o ops ⟨s.tm,setSl kb (.box (rawC ms 0 cs u)) s.sl⟩ o=some true) (hd:dstOk E.N o.dst=true)
 (hc: ∀u,z5y ⟨s.tm,setSl kb (.box (rawC ms 0 cs u)) s.sl⟩ cl=some (f,nf,caps)) (hx: ∀u,argsL ⟨s.tm,setSl kb (.box (rawC ms 0 cs u)) s.sl⟩ cl nf caps=some xs)
 (hle: ∀u,AVsArgL ⟨s.tm,setSl kb (.box (rawC ms 0 cs u)) s.sl⟩ ρ (keysS (sl u)) ((keysS (sl u)).map (renN ρ)) xs args) (hsl: ∀u,LentS ⟨s.tm,setSl kb (.box (rawC ms 0 cs u)) s.sl⟩ ρ (keysS (sl u)) (sl u))
 (hinj: ∀u,injB ρ (keysS (sl u))=true) (hinj': ∀u,injB ρ (keysS (sl' u))=true) (hres: ∀u,res.lent (keysS (sl' u))=true)
 (hsl': ∀u,allC (fun p:Nat×Slot=>p.2.lent (keysS (sl' u))) (sl' u)=true) (hcs:look s.sl kb=some (.box cs)) (hds: ∀u,look (renSl ρ (sl' u)) kb=some (.box (rawC ms 0 ds u)))
 (h3: ∀u,setSl kb (.box ds) (renSl ρ (sl' u))=sl3) (hm:maskC ms cs=maskC ms ds) (hlen:cs.length=ds.length) (hrf: ∀u,allC (fun k=> !anyB (C.refs (renN ρ k)) (maskC ms cs)) (keysS (sl' u))=true)
 (h0t: ∀t x,look s0.tm t=some x→look s.tm t=some x) (h0s: ∀t x,look s0.sl t=some x→look s.sl t=some x)
 (hk0: ∀u,allC (fun k=>match look s0.sl (renN ρ k)with|some _=>false|none=>true) (keysS (sl u)++keysS (sl' u))=true) (hodd: ∀u,allC (fun k=>s0.noRef (renN ρ k)) (oddK (keysS (sl u)) (keysS (sl' u)))=true)
 (hfx: ∀u,allC (fun k=> !anyB (Nat.beq (renN ρ k)) E.fx) (oddK (keysS (sl u)) (keysS (sl' u)))=true) (hlk: ∀u,lkOk3 E.lk ρ (keysS (sl u)) (keysS (sl' u))=true):
 One E ops o s (putO ⟨s0.tm,sl3++s0.sl⟩ o.dst (res.ren ρ)):=fun a w ⟨G,φ,hs⟩=>by
 obtain⟨lc,g1,g2,vs,g3,g4,g5⟩:=hs.sl kb _ hcs;have hu: ∀j,j<vs.length→(fun i=>vs.getD i undef) (0+j)=vs.getD j undef:=fun j _=>by rw[zzb]
 generalize hq:(fun i=>vs.getD i undef)=u at hu;have hlv:=g3.length
 have hs1:Sim E ⟨s.tm,setSl kb (.box (rawC ms 0 cs u)) s.sl⟩ G φ a w:=by
  exact zep (c0:=cs) (tm:=s.tm) (l:=s.sl) hs hcs ⟨lc,g1,by rw[zay];exact g2,vs,zj9 (fun x=>rfl) g3 hu,g4,g5⟩
 refine One.callP ρ s0 (hS u) hop (hw u) hd (hc u) (hx u) (hle u) (hsl u) (hinj u) (hinj' u) (hres u) (hsl' u) hs1 (hs.weaken h0t h0s) ⟨s0.tm,sl3++s0.sl⟩ (fun{G' χ w'} hχ sg sv hup hsim=>?_) (fun t x h=>?_) (hk0 u) (hodd u) (hfx u) (hlk u)
 ·rw[←h3 u,←zdm (hds u)];have hk:look (renSl ρ (sl' u)++s0.sl) kb=some (.box (rawC ms 0 ds u)):=by rw[z1r,hds u]
  obtain⟨ld,j1,j2,vs',j3,j4,j5⟩:=hsim.sl kb _ hk;refine zep (c0:=rawC ms 0 ds u) hsim hk ⟨ld,j1,by rw[zay]at j2;exact j2,vs',zhu (fun x v h=>h) j3 (z8h.of g3 hu hm hlen fun c hc v hv=>?_),j4,j5⟩
  ·refine hv.mono sg sv hup fun k' hk'=>hχ k' fun k hk e=>?_;have:=z2l (hrf u) k hk
   rw[e,z9a hc hk']at this;cases this
 ·obtain⟨y,hy⟩: ∃y,look s.sl t=some y:=⟨x,h0s t x h⟩;show ∃y,look (setSl kb (.box (rawC ms 0 cs u)) s.sl) t=some y;rw[z9w];split
  ·rw[hcs];exact⟨_,rfl⟩
  ·exact⟨y,hy⟩
theorem At.callR {L:List Oper}{i:Nat}{K:St→Prop}{o:Oper}{cl:Call}{f:FuncId}{nf:Nat}{caps:List CC}{xs args:List AV}{res:AV}{sl sl':(Nat→Value)→List (Nat×Slot)}{sl3:List (Nat×Slot)}(ρ:List (Nat×Nat))(tk sk:List Nat){s0:St}(kb:Nat)(ms:List Bool)(cs ds:List C)
 (hS: ∀u,Summ E.P f args (sl u) res (sl' u)) (ho:L[i]?=some o) (hop:o.op= .call cl) (hw: ∀u,z0o L.toArray ⟨s.tm,setSl kb (.box (rawC ms 0 cs u)) s.sl⟩ o=some true) (hd:dstOk E.N o.dst=true)
 (hc: ∀u,z5y ⟨s.tm,setSl kb (.box (rawC ms 0 cs u)) s.sl⟩ cl=some (f,nf,caps)) (hx: ∀u,argsL ⟨s.tm,setSl kb (.box (rawC ms 0 cs u)) s.sl⟩ cl nf caps=some xs)
 (hle: ∀u,AVsArgL ⟨s.tm,setSl kb (.box (rawC ms 0 cs u)) s.sl⟩ ρ (keysS (sl u)) ((keysS (sl u)).map (renN ρ)) xs args) (hsl: ∀u,LentS ⟨s.tm,setSl kb (.box (rawC ms 0 cs u)) s.sl⟩ ρ (keysS (sl u)) (sl u))
 (hinj: ∀u,injB ρ (keysS (sl u))=true) (hinj': ∀u,injB ρ (keysS (sl' u))=true) (hres: ∀u,res.lent (keysS (sl' u))=true)
 (hsl': ∀u,allC (fun p:Nat×Slot=>p.2.lent (keysS (sl' u))) (sl' u)=true) (hcs:look s.sl kb=some (.box cs)) (hds: ∀u,look (renSl ρ (sl' u)) kb=some (.box (rawC ms 0 ds u)))
 (h3: ∀u,setSl kb (.box ds) (renSl ρ (sl' u))=sl3) (hm:maskC ms cs=maskC ms ds) (hlen:cs.length=ds.length) (hrf: ∀u,allC (fun k=> !anyB (C.refs (renN ρ k)) (maskC ms cs)) (keysS (sl' u))=true)
 (hk:Av.keep tk sk s=some s0)
 (hk0: ∀u,allC (fun k=>match look s0.sl (renN ρ k)with|some _=>false|none=>true) (keysS (sl u)++keysS (sl' u))=true) (hodd: ∀u,allC (fun k=>s0.noRef (renN ρ k)) (oddK (keysS (sl u)) (keysS (sl' u)))=true)
 (hfx: ∀u,allC (fun k=> !anyB (Nat.beq (renN ρ k)) E.fx) (oddK (keysS (sl u)) (keysS (sl' u)))=true) (hlk: ∀u,lkOk3 E.lk ρ (keysS (sl u)) (keysS (sl' u))=true)
 (s':St) (he:putO ⟨s0.tm,sl3++s0.sl⟩ o.dst (res.ren ρ)=s') (h:At E L (i+1) s' K):At E L i s K:=by
 have hk2:(∀t x,look s0.tm t=some x→look s.tm t=some x)∧ ∀t x,look s0.sl t=some x→look s.sl t=some x:=by
  unfold Av.keep at hk;split at hk
  ·rename_i tm h1
   split at hk
   ·rename_i sl h2
    cases hk;exact⟨z52 h1,z52 h2⟩
   ·cases hk
  ·cases hk
 exact At.one ho (One.callR ρ s0 kb ms cs ds hS hop hw hd hc hx hle hsl hinj hinj' hres hsl' hcs hds h3 hm hlen hrf hk2.1 hk2.2 hk0 hodd hfx hlk) (he▸h)
end
section
variable {E:Env} {s:St}
theorem zau {L:List Oper}{i:Nat}{K:St→Prop}{o:Oper}{t e yt:TypeId}{x:Operand}{es n d:Nat}{get:Nat→List D}(ho:L[i]?=some o)
 (hop:o.op= .binOp .eql t x (.const (.slice none 0 0)) yt) (hw:z0o L.toArray s o=some true) (hd:o.dst=some d) (hlt:Nat.blt d E.N=true)
 (hu:E.P.underlying t=some (.slice e)) (hx:evO s x=some (.c (.view es n get)))
 (h1:n=0→At E L (i+1) (s.put d (.c (.d (.bool true)))) K) (h2:At E L (i+1) (s.put d (.c (.d (.bool false)))) K):At E L i s K:=fun a w hs Q hQ=>by
 obtain⟨hlt',he⟩:=List.getElem?_eq_some_iff.1 ho;rw[List.drop_eq_getElem_cons hlt',he];obtain⟨G,φ,h⟩:=hs;unfold wpList;rw[if_pos (z1o h hw)];left;have hv:RelC G E.V φ w (.view es n get) (a.eval x):=(h.ev hx).1
 have hex:execOp a.eval o=(do pure (.value (←(do eqGuard .eql t x (.const (.slice none 0 0)) (a.eval x) (.slice none 0 0);Go.binOp .eql t (a.eval x) (.slice none 0 0):Sem Value))):Sem Next):=by unfold execOp;rw[hop];rfl
 have key: ∀b,(do eqGuard .eql t x (.const (.slice none 0 0)) (a.eval x) (.slice none 0 0);Go.binOp .eql t (a.eval x) (.slice none 0 0):Sem Value).run E.P w= .ok (.bool b) w→(b=true→n=0)→o.wp E.P a w (wpList E.P L.toArray Q (L.drop (i+1))) Q:=fun b hb hn=>by
  unfold Oper.wp;rw[hex];simp only[zz5]at hb ⊢;rw[hb];simp only[zz1,zza,Oper.upon,hd];have hp:SimE E (s.put d (.c (.d (.bool b)))) (a.put (some d) (.bool b)) w:=⟨G,φ,h.put (zzk.mp hlt) (z0h (RelD.bool _) rfl)⟩
  cases b with
  |true=>exact h1 (hn rfl) _ _ hp Q hQ
  |false=>exact h2 _ _ hp Q hQ
 generalize a.eval x=u at*;rcases hv with⟨hn,A,cap,rfl⟩|⟨b,off,cap,_,rfl,_⟩
 ·cases A with
  |none=>exact key true (z8a hu _ _ _) fun _=>hn
  |some A=>exact key false (z8a hu _ _ _) fun h=>by cases h
 ·exact key false (z8a hu _ _ _) fun h=>by cases h
theorem zbn {α:Type}{f:α→Bool}: ∀{l:List α},(∀x∈l,f x=true)→allC f l=true
 |[],_=>rfl
 |x::r,h=>by
  unfold allC;rw[h x (zz3 ..)];exact zbn fun y hy=>h y (zz6 _ hy)
theorem zg4 {ops:Array Oper}{o:Oper}{cl:Call}{f:FuncId}{nf d k:Nat}{caps:List CC}{xs args:List AV}{res av:AV}{v:Slot}{sl sl':List (Nat×Slot)}(ρ:List (Nat×Nat))
 (hS:Summ E.P f args sl res sl') (hop:o.op= .call cl) (hdo:o.dst=some d) (hw:z0o ops s o=some true) (hd:dstOk E.N o.dst=true) (hc:z5y s cl=some (f,nf,caps)) (hx:argsL s cl nf caps=some xs)
 (hle:AVsArgL s ρ (keysS sl) ((keysS sl).map (renN ρ)) xs args) (hsl:LentS s ρ (keysS sl) sl) (hinj:injB ρ (keysS sl)=true) (hinj':injB ρ (keysS sl')=true) (hres:res.lent (keysS sl')=true)
 (hsl':allC (fun p:Nat×Slot=>p.2.lent (keysS sl')) sl'=true) (hk:allC (fun j=>Nat.beq (renN ρ j) k) (keysS sl++keysS sl')=true)
 (hfx:anyB (Nat.beq k) E.fx=false) (hlk:lkOk3 E.lk ρ (keysS sl) (keysS sl')=true) (h1:renSl ρ sl'=[(k,v)]) (h2:res.ren ρ=av):
 One E ops o s (((s.drop k).slot k v).put d av):=by
 have hkk: ∀j∈keysS sl++keysS sl',renN ρ j=k:=fun j hj=>zz4 (z2l hk j hj);have hno:=zc1 k s
 have:=zg5 ρ (s.drop k) hS hop hw hd hc hx hle hsl hinj hinj' hres hsl' (fun h=>h.drop k) ?_ ?_ ?_ ?_ hlk
 ·rw[h1,h2,hdo]at this;exact this
 ·intro t x hx;simp only[St.drop,z6q]at hx;split at hx
  ·cases hx
  ·cases e:look s.sl t with
   |none=>rw[e]at hx;cases hx
   |some y=>exact⟨y,rfl⟩
 ·refine zbn fun j hj=>?_;rw[hkk j hj];simp only[St.drop,z6q];simp
 ·refine zbn fun j hj=>?_;rw[hkk j ?_]
  ·exact hno
  ·unfold oddK at hj;rcases zz2.1 hj with h|h
   ·exact zzm _ (zzh.1 h).1
   ·exact List.mem_append_right _ (zzh.1 h).1
 ·refine zbn fun j hj=>?_;rw[hkk j ?_,hfx]
  ·rfl
  ·unfold oddK at hj;rcases zz2.1 hj with h|h
   ·exact zzm _ (zzh.1 h).1
   ·exact List.mem_append_right _ (zzh.1 h).1
end
section
variable {E:Env}
theorem DOk.callR {ops:Array Oper}{o:Oper}{x:DOp}{cl:Call}{f:FuncId}{nf:Nat}{caps:List CC}{xs args:List AV}{res:AV}{sl sl':(Nat→Value)→List (Nat×Slot)}{sl3:List (Nat×Slot)}(ρ:List (Nat×Nat))(kb:Nat)(ms:List Bool)(cs ds:List C)(k1 k2:List Nat)
 (hS: ∀u,Summ E.P f args (sl u) res (sl' u)) (hop:o.op= .call cl) (hw: ∀r u,z0o ops ⟨(x.need.app r).tm,setSl kb (.box (rawC ms 0 cs u)) (x.need.app r).sl⟩ o=some true) (hd:dstOk E.N o.dst=true)
 (hc: ∀r u,z5y ⟨(x.need.app r).tm,setSl kb (.box (rawC ms 0 cs u)) (x.need.app r).sl⟩ cl=some (f,nf,caps)) (hx: ∀r u,argsL ⟨(x.need.app r).tm,setSl kb (.box (rawC ms 0 cs u)) (x.need.app r).sl⟩ cl nf caps=some xs)
 (hle: ∀r u,AVsArgL ⟨(x.need.app r).tm,setSl kb (.box (rawC ms 0 cs u)) (x.need.app r).sl⟩ ρ (keysS (sl u)) ((keysS (sl u)).map (renN ρ)) xs args) (hsl: ∀r u,LentS ⟨(x.need.app r).tm,setSl kb (.box (rawC ms 0 cs u)) (x.need.app r).sl⟩ ρ (keysS (sl u)) (sl u))
 (hinj: ∀u,injB ρ (keysS (sl u))=true) (hinj': ∀u,injB ρ (keysS (sl' u))=true) (hres: ∀u,res.lent (keysS (sl' u))=true)
 (hsl': ∀u,allC (fun p:Nat×Slot=>p.2.lent (keysS (sl' u))) (sl' u)=true) (hcs: ∀r,look (x.need.app r).sl kb=some (.box cs)) (hds: ∀u,look (renSl ρ (sl' u)) kb=some (.box (rawC ms 0 ds u)))
 (h3: ∀u,setSl kb (.box ds) (renSl ρ (sl' u))=sl3) (hm:maskC ms cs=maskC ms ds) (hlen:cs.length=ds.length) (hrf: ∀u,allC (fun k=> !anyB (C.refs (renN ρ k)) (maskC ms cs)) (keysS (sl' u))=true)
 (hk1: ∀u,keysS (sl u)=k1) (hk2: ∀u,keysS (sl' u)=k2)
 (hodd:allC (fun k=>(⟨x.need.tm,lessK ((k1++k2).map (renN ρ)) x.need.sl⟩:St).noRef (renN ρ k)) (oddK k1 k2)=true) (hmk:allC (fun k=>memB (renN ρ k) x.mks) (oddK k1 k2)=true)
 (hfx:allC (fun k=> !anyB (Nat.beq (renN ρ k)) E.fx) (oddK k1 k2)=true) (hlk:lkOk3 E.lk ρ k1 k2=true)
 (hcov:allC (fun k=>z15 (renN ρ k) x.eff.sl) (k1++k2)=true) (hesl:sl3=x.eff.sl)
 (het:match o.dst with|some d=>[(d,res.ren ρ)]=x.eff.tm|none=>x.eff.tm=[]):DOk E ops o x:=
 zg3 ρ k1 k2 (fun r q1 q2=>One.callR ρ ⟨x.need.tm++r.tm,lessK ((k1++k2).map (renN ρ)) (x.need.sl++r.sl)⟩ kb ms cs ds hS hop (hw r) hd (hc r) (hx r) (hle r) (hsl r) hinj hinj' hres hsl' (hcs r) hds h3 hm hlen hrf
  (fun t y h=>h) (fun t c h=>by
   rw[z41]at h;split at h
   ·cases h
   ·exact h) (fun u=>by rw[hk1 u,hk2 u];exact q1) (fun u=>by rw[hk1 u,hk2 u];exact q2) (fun u=>by rw[hk1 u,hk2 u];exact hfx) (fun u=>by rw[hk1 u,hk2 u];exact hlk)) hodd hmk hcov hesl het
end
end Go.Av
namespace Go.Av
open Go
section
variable {E:Env} {s:St} {G:Nat→Prop} {φ:Nat→Option Loc} {a:Act} {w:World}
theorem Sim.storeAt (h:Sim E s G φ a w){k es N N' m p:Nat}{get get' get2:Nat→List D}{L:Loc}{us:List Value}(hk:look s.sl k=some (.vec es N get))(hL:φ k=some L)(hm:p+m≤L.cap)(hul:us.length=m*es)(hcs:N'≤p∨z3a G w us es m get')
 (hx:N'≤maxN) (hc:N'≤L.cap) (hg: ∀i,i<N'→(p≤i∧i<p+m∧get2 i=get' (i-p))∨((i<p∨p+m≤i)∧i<N∧get2 i=get i)) (h1: ∀u∈us,u.oneCell'=true):
 (storeCells ⟨L.blk,L.off+p*es,none⟩ us).run E.P w= .ok () (w.setCells L.blk (L.off+p*es) us)∧Sim E (s.slot k (.vec es N' get2)) G φ a (w.setCells L.blk (L.off+p*es) us):=by
 obtain⟨_,h0|⟨l,g1,g2,ht,hel⟩⟩:=h.sl _ _ hk
 ·rw[hL]at h0;cases h0.1
 ·rw[hL]at g1;cases g1;have e1:(p+m)*es≤L.cap*es:=Nat.mul_le_mul_right es hm
  have htt:w.there L.blk (L.off+p*es) us.length:=fun j hj=>by
   rw[Nat.add_assoc];refine ht.1 (p*es+j) ?_;rw[Nat.add_mul]at e1;omega
  have hstore:=run_storeCells_cells (P:=E.P) L.blk (L.off+p*es) us 0 w (fun j hj=>(by simpa using htt j hj:_∧_).1) (fun j hj=>(by simpa using htt j hj:_∧_).2) h1;simp only[Nat.add_zero]at hstore;refine⟨hstore,?_⟩;obtain⟨f1,f2,f3,f4,f5⟩:=z5n L.blk us (L.off+p*es) w;have hsame:Same G w (w.setCells L.blk (L.off+p*es) us):=fun b hb=>f5 b fun e=>(h.own k _ L hk hL).1 (e▸hb)
  refine h.turn hk hL f1 f2 f3 f4 f5 ⟨hx,.inr ⟨L,hL,hc,ht.setCells _ _ _,fun i hi=>?_⟩⟩;rcases hg i hi with⟨q1,q2,q3⟩|⟨q1,q2,q3⟩
  ·rw[q3];obtain⟨g1,g2⟩:=(hcs.resolve_left (by omega)) (i-p) (by omega);refine⟨g1,fun j hj=>?_⟩;obtain⟨u,hu,hr⟩:=g2 j (by omega);have hlt':=z4z (show i-p<m by omega) (show j<es by omega)
   have hin':=World.cell?_setCells_in L.blk us (L.off+p*es) w (fun q hq=>(htt q hq).1) ((i-p)*es+j) (by omega);refine⟨u,?_,hr.mono hsame fun _ h=>h⟩;have e2:L.off+i*es+j=L.off+p*es+((i-p)*es+j):=by
    have:i=p+(i-p):=by omega
    rw[this,Nat.add_mul];have:p+(i-p)-p=i-p:=by omega
    rw[this];omega
   rw[e2,hin',←hu,List.getElem?_eq_getElem (by omega)]
  ·rw[q3];obtain⟨g1,g2⟩:=hel i q2;refine⟨g1,fun j hj=>?_⟩;obtain⟨u,hu,hr⟩:=g2 j hj;refine⟨u,?_,hr.mono hsame fun _ h=>h⟩;rw[World.cell?_setCells_out L.blk us (L.off+p*es) w _ (fun _ _=>by
    show L.off+i*es+j<L.off+p*es∨L.off+p*es+us.length≤L.off+i*es+j;rcases q1 with q1|q1
    ·left;have:=z4z q1 (show j<es by omega)
     omega
    ·right;have:(p+m)*es≤i*es:=Nat.mul_le_mul_right es q1
     rw[Nat.add_mul]at this;omega)]
   exact hu
theorem add_add (b o j:Nat):(⟨b,o,none⟩:Addr).add j=⟨b,o+j,none⟩:=Addr.add_mid b o j
theorem Sim.loadAt (h:Sim E s G φ a w){k es N m q:Nat}{get:Nat→List D}{L:Loc}{A:Option Addr}{c:Nat}(hk:look s.sl k=some (.vec es N get))(hL:φ k=some L)(hN:0<N)(hq:q+m≤N)(hA:0<m→A=some ⟨L.blk,L.off+q*es,none⟩):
 ∃us:List Value,us.length=m*es∧z3a G w us es m (fun i=>get (q+i))∧(Builtin.firstCells es m (.slice A m c)).run E.P w= .ok us.toArray w∧ ∀u∈us,u.oneCell'=true:=by
 obtain⟨_,h0|⟨l,g1,g2,ht,hel⟩⟩:=h.sl _ _ hk
 ·omega
 ·rw[hL]at g1;cases g1;have he:z3i G w L.blk (L.off+q*es) es m (fun i=>get (q+i)):=fun i hi=>by
   obtain⟨e1,e2⟩:=hel (q+i) (by omega);refine⟨e1,?_⟩;have e:L.off+q*es+i*es=L.off+(q+i)*es:=by rw[Nat.add_mul];omega
   rw[e];exact e2
  obtain⟨us,h1,h2,h3,h4⟩:=zbu (P:=E.P) he;refine⟨us,h1,h2,?_,h4⟩;by_cases hm:0<m
  ·rw[hA hm];exact h3 w rfl
  ·have:m=0:=by omega
   subst this;have:us=[]:=by cases us<;>simp_all
   subst this;cases A with
   |none=>rfl
   |some A=>simp[Builtin.firstCells,loadCells,loadCellsFrom]
end
end Go.Av
namespace Go.Av
open Go
section
variable {E:Env} {s:St}
theorem SrcOf.g {x:Operand}{y:AV}{es m sn:Nat}{get:Nat→List D}(hx:evO s x=some y)(hs:SrcOf s y es m get)(hsn:sn=m):
 ∀{G:Nat→Prop} {φ:Nat→Option Loc} {a:Act} {w:World},Sim E s G φ a w→ ∃(us:List Value) (A':Option Addr) (c':Nat),a.eval x= .slice A' sn c'∧us.length=m*es∧z3a G w us es m get∧(Builtin.firstCells es m (.slice A' sn c')).run E.P w= .ok us.toArray w∧ ∀u∈us,u.oneCell'=true:=fun{G φ a w} h=>by
 subst hsn;obtain⟨A,cap,hv,_,us,h1,h2,h3,h4⟩:=hs.load h (h.ev hx);refine⟨us,A,cap,hv,h1,h2,?_,h4⟩;have:=h3 w rfl
 rw[hv]at this;exact this
end
end Go.Av
/-
 Av,part Y13:loops that are left by an exit to a block around them.
-/
namespace Go.Av
open Go
section
variable {E:Env} {s:St} {S R Q:Type} {q:Q} {post:Exit→St→Prop}
@[reducible] def zfg (X b:Nat) (σ F:S→St) (RT:R→St→Prop):Ctl S R→Exit→St→Prop
 | .next st,.normal,s=>s=σ st
 | .brk st,.exit id,s=>id=b∧s=F st
 | .ret x,.exit id,s=>id=X∧RT x s
 |_,_,_=>False
@[reducible] def zlw (X:Nat) (F:S→St) (RT:R→St→Prop):Out S R→Exit→St→Prop
 | .done st,.normal,s=>s=F st
 | .ret x,.exit id,s=>id=X∧RT x s
 |_,_,_=>False
theorem zer {b:Nat}{c:Code}{B:S→Option (Ctl S R)}(X:Nat)(hXb:Nat.beq X b=false)(RT:R→St→Prop)(σ F:S→St){fuel:Nat}{st0:S}{o:Out S R}(h:loopN B fuel st0=some o)
 (hround: ∀st r,B st=some r→Tri E c (σ st) (zfg X b σ F RT r)):Tri E (.block b (.loop c)) (σ st0) (zlw X F RT o):=by
 have hne: ¬X=b:=fun e=>by rw[e,Nat.beq_refl]at hXb;cases hXb
 refine Tri.block (Tri.loop (fun n s=> ∃st,s=σ st∧loopN B n st=some o) ?_ (n:=fuel) ⟨st0,rfl,h⟩);rintro n s ⟨st,rfl,hn⟩;cases n with
 |zero=>cases hn
 |succ n=>
  simp only[loopN]at hn;cases hB:B st with
  |none=>rw[hB]at hn;cases hn
  |some r=>
   rw[hB]at hn;refine(hround st r hB).mono fun e s' hp=>?_;cases r with
   |next st'=>
    cases e with
    |normal=>exact⟨n,Nat.lt_succ_self _,st',hp,hn⟩
    |_=>exact hp.elim
   |brk st'=>
    cases hn;cases e with
    |exit id=>
     obtain⟨rfl,rfl⟩:=hp;show inB id _ (.exit id) _;simp[inB]
    |_=>exact hp.elim
   |ret x=>
    cases hn;cases e with
    |exit id=>
     obtain⟨rfl,hp⟩:=hp;show inB b _ (.exit id) _;simp only[inB,if_neg hne];exact⟨rfl,hp⟩
    |_=>exact hp.elim
theorem        zes {b : Nat} {c : Code} {B : S → Option (Ctl S R)} {kn : S → Option Q} {kr : R → Option Q} {st0 : S} {fuel : Nat} (X : Nat) (RT : R → St → Prop) (σ F : S → St)
    (h : outK (loopN B fuel st0) kn kr = some q) (hXb : Nat.beq X b = false) (hround : ∀ st r, B st = some r → Tri E c (σ st) (       zfg X b σ F RT r))
    (hrest : ∀ st, kn st = some q → post .normal (F st)) (hret : ∀ x s', kr x = some q → RT x s' → post (.exit X) s') : Tri E (.block b (.loop c)) (σ st0) post := by
  obtain ⟨s', ho, hk⟩ | ⟨x, ho, hk⟩ :=       zdg h
  · refine (       zer X hXb RT σ F ho hround).mono fun e s hp => ?_
    cases e with
    | normal => have hp : s = F s' := hp
                subst hp; exact hrest _ hk
    | _ => exact hp.elim
  · refine (       zer X hXb RT σ F ho hround).mono fun e s hp => ?_
    cases e with
    | exit id =>
      obtain ⟨rfl, hp⟩ := hp
      exact hret _ _ hk hp
    | _ => exact hp.elim
end
end Go.Av
namespace Go.Av
open Go
structure Value where
 isText:Bool
 n:Int
 s:ByteArray
 deriving Inhabited
def z06 (x:Value):List D:=[.bool x.isText,dI x.n,.str x.s]
abbrev cValue (x:Value):List C:=[.d (.bool x.isText),.d (dI x.n),.d (.str x.s)]
structure Time where
 epoch:Int
 loop:Int×Int
 deriving Inhabited
def z31 (x:Time):List D:=[dU x.epoch,dU x.loop.1,dU x.loop.2]
abbrev cTime (x:Time):List C:=[.d (dU x.epoch),.d (dU x.loop.1),.d (dU x.loop.2)]
def zb7 (x y:Time):Bool:=(decide (x.epoch=y.epoch) && ((decide (x.loop.1=y.loop.1) && (decide (x.loop.2=y.loop.2) && true)) && true))
structure Update where
 key:List Value
 row:List Value
 time:Time
 diff:Int
 deriving Inhabited
def z01 (x:Update):List D:=[lD 3 z06 x.key,lD 3 z06 x.row,dU x.time.epoch,dU x.time.loop.1,dU x.time.loop.2,dI x.diff]
abbrev cUpdate (x:Update):List C:=[.d (lD 3 z06 x.key),.d (lD 3 z06 x.row),.d (dU x.time.epoch),.d (dU x.time.loop.1),.d (dU x.time.loop.2),.d (dI x.diff)]
structure Write where
 kind:Int
 name:ByteArray
 to_:ByteArray
 data:ByteArray
 deriving Inhabited
def z09 (x:Write):List D:=[.int .u8 x.kind,.str x.name,.str x.to_,.str x.data]
abbrev cWrite (x:Write):List C:=[.d (.int .u8 x.kind),.d (.str x.name),.d (.str x.to_),.d (.str x.data)]
structure File where
 name:ByteArray
 data:ByteArray
 deriving Inhabited
def z07 (x:File):List D:=[.str x.name,.str x.data]
abbrev cFile (x:File):List C:=[.d (.str x.name),.d (.str x.data)]
structure Disk where
 files:List File
 waits:List Write
 room:Int
 down:Bool
 fuse:Int
 deriving Inhabited
abbrev cDisk (x:Disk):List C:=[.d (lD 2 z07 x.files),.d (lD 4 z09 x.waits),.d (dI x.room),.d (.bool x.down),.d (dI x.fuse)]
structure Desk where
 files:List File
 disk:Disk
 deriving Inhabited
abbrev cDesk (x:Desk):List C:=[.d (lD 2 z07 x.files),.d (lD 2 z07 x.disk.files),.d (lD 4 z09 x.disk.waits),.d (dI x.disk.room),.d (.bool x.disk.down),.d (dI x.disk.fuse)]
structure Count where
 row:List Value
 n:Int
 deriving Inhabited
def z77 (x:Count):List D:=[lD 3 z06 x.row,dI x.n]
abbrev cCount (x:Count):List C:=[.d (lD 3 z06 x.row),.d (dI x.n)]
structure Fault where
 is:Bool
 at_:Time
 deriving Inhabited
abbrev cFault (x:Fault):List C:=[.d (.bool x.is),.d (dU x.at_.epoch),.d (dU x.at_.loop.1),.d (dU x.at_.loop.2)]
structure Maker where
 fault:Fault
 list:List Update
 deriving Inhabited
abbrev cMaker (x:Maker):List C:=[.d (.bool x.fault.is),.d (dU x.fault.at_.epoch),.d (dU x.fault.at_.loop.1),.d (dU x.fault.at_.loop.2),.d (lD 6 z01 x.list)]
structure Tally where
 high:Int
 low:Int
 deriving Inhabited
abbrev cTally (x:Tally):List C:=[.d (dU x.high),.d (dU x.low)]
structure Line_Update where
 tally:Tally
 of:Update
 deriving Inhabited
def z0n (x:Line_Update):List D:=[dU x.tally.high,dU x.tally.low,lD 3 z06 x.of.key,lD 3 z06 x.of.row,dU x.of.time.epoch,dU x.of.time.loop.1,dU x.of.time.loop.2,dI x.of.diff]
abbrev cLine_Update (x:Line_Update):List C:=[.d (dU x.tally.high),.d (dU x.tally.low),.d (lD 3 z06 x.of.key),.d (lD 3 z06 x.of.row),.d (dU x.of.time.epoch),.d (dU x.of.time.loop.1),.d (dU x.of.time.loop.2),.d (dI x.of.diff)]
structure JoinMaker where
 maker:Maker
 deriving Inhabited
abbrev cJoinMaker (x:JoinMaker):List C:=[.d (.bool x.maker.fault.is),.d (dU x.maker.fault.at_.epoch),.d (dU x.maker.fault.at_.loop.1),.d (dU x.maker.fault.at_.loop.2),.d (lD 6 z01 x.maker.list)]
def zab (p0:ByteArray):Option Bool:=
 jn (fun(a1:Bool)=>some a1) fun j2=>bf (strEq p0 (bs [])) (j2 true) (j2 (decide (32<(p0.size:Int))))
def z18 (p0:List ByteArray):Option Int:=
 outK (z0k (S:=Unit) (R:=Int) (fun i1 (a2:Unit)=>(zab (p0.getD i1 zzd)).bind fun r4=>bf r4 (some (.ret ((i1:Nat):Int))) (some (.next ()))) p0.length 0 ()) (fun(a3:Unit)=>some (-1)) (fun x=>some x)
def z13 (p0:List ByteArray):Option Bool:=
 (z18 p0).bind fun r1=>some (decide (0≤r1))
def z6b (p0:List ByteArray):Option Bool:=
 (z13 p0).bind fun r1=>some (!r1)
def z9t (p0:Write):Option Bool:=
 bf (decide (p0.kind=1)) (jn (fun(a1:Bool)=>some a1) fun j2=>(z6b ([p0.name]:List ByteArray)).bind fun r3=>bf r3 (j2 (strEq p0.to_ (bs []))) (j2 false)) (bf (decide (p0.kind=2)) (jn (fun(a4:Bool)=>some a4) fun j5=>(z6b ([p0.name,p0.to_]:List ByteArray)).bind fun r6=>bf r6 (j5 (strEq p0.data (bs []))) (j5 false)) (bf (decide (p0.kind=3)) (jn (fun(a7:Bool)=>some a7) fun j8=>(z6b ([p0.name]:List ByteArray)).bind fun r9=>bf r9 (need (((p0.to_.size+p0.data.size:Nat):Int)≤9223372036854775807)<|j8 (strEq (p0.to_++p0.data) (bs []))) (j8 false)) (some false)))
def za9 (p0:Write):Option Bool:=
 (z9t p0).bind fun r1=>some (!r1)
def z1e (p0:List Write):Option Int:=
 outK (z0k (S:=Unit) (R:=Int) (fun i1 (a2:Unit)=>(za9 (p0.getD i1 zzd)).bind fun r4=>bf r4 (some (.ret ((i1:Nat):Int))) (some (.next ()))) p0.length 0 ()) (fun(a3:Unit)=>some (-1)) (fun x=>some x)
def z1a (p0:List Write):Option Bool:=
 (z1e p0).bind fun r1=>some (decide (0≤r1))
def z5p (p0:ByteArray):Option Bool:=
 some (!strEq p0 p0)
def z3y (p0:ByteArray)(p1:ByteArray):Option Int:=
 (z5p p0).bind fun r1=>(z5p p1).bind fun r2=>bf r1 (bf r2 (some 0) (some (-1))) (bf r2 (some 1) (bf (strLt p0 p1) (some (-1)) (bf (!(strLt p0 p1||strEq p0 p1)) (some 1) (some 0))))
def z3s (p0:File)(p1:ByteArray):Option Int:=
 (z3y p0.name p1).bind fun r1=>some r1
def z0z (fuel:Nat)(p0:List File)(p1:ByteArray):Option (Int×Bool):=
 outK (loopN (S:=Int×Int) (R:=Empty) (fun(a1:Int×Int)=>bf (decide (a1.1<a1.2)) (need ((0:Int)≤(zzi.wrap (shrOp .u64 (zzu.wrap (zzi.wrap (a1.1+a1.2))) 1))∧(zzi.wrap (shrOp .u64 (zzu.wrap (zzi.wrap (a1.1+a1.2))) 1))<(p0.length:Int))<|(z3s (p0.getD ((zzi.wrap (shrOp .u64 (zzu.wrap (zzi.wrap (a1.1+a1.2))) 1)).toNat) zzd) p1).bind fun r8=>bf (decide (r8<0)) (some (.next ((zzi.wrap ((zzi.wrap (shrOp .u64 (zzu.wrap (zzi.wrap (a1.1+a1.2))) 1))+1)),a1.2))) (some (.next (a1.1,(zzi.wrap (shrOp .u64 (zzu.wrap (zzi.wrap (a1.1+a1.2))) 1)))))) (some (.brk (a1.1,a1.2)))) fuel (0,(p0.length:Int))) (fun(a2:Int×Int)=>jn (fun(a3:Bool)=>some (a2.1,a3)) fun j4=>bf (decide (a2.1<(p0.length:Int))) (need ((0:Int)≤a2.1∧a2.1<(p0.length:Int))<|(z3s (p0.getD a2.1.toNat zzd) p1).bind fun r6=>j4 (decide (r6=0))) (j4 false)) (fun(x:Empty)=>x.elim)
def z1i (fuel:Nat)(p0:List File)(p1:ByteArray):Option (Int×Bool):=
 (z0z fuel p0 p1).bind fun r1=>some (r1.1,r1.2)
def z5h (fuel:Nat)(p1:ByteArray)(l0:List File):Option (File×Bool×(List File)):=
 (z1i fuel l0 p1).bind fun r1=>bf (!r1.2) (some ((⟨(bs []),(bs [])⟩:File),false,l0)) (need ((0:Int)≤r1.1∧r1.1<(l0.length:Int))<|need ((0+r1.1.toNat)<l0.length)<|none)
def z5a (p1:Int)(p2:List File)(l0:List File):Option (List File):=
 need ((0:Int)≤p1∧p1≤(l0.length:Int)∧(l0.length:Int)≤(l0.length:Int))<|bf (decide ((p2.length:Int)=0)) (some l0) (bf (decide (p1=(l0.length:Int))) (need (l0.length+p2.length≤274877906944)<|some (l0++p2)) (none))
def z4a (fuel:Nat)(p1:File)(l0:List File):Option (List File):=
 (z1i fuel l0 p1.name).bind fun r1=>bf r1.2 (need ((0:Int)≤r1.1∧r1.1<(l0.length:Int))<|need ((0+r1.1.toNat)<l0.length)<|some (l0.set (0+r1.1.toNat) p1)) ((z5a r1.1 ([p1]:List File) l0).bind fun r4=>some r4)
def z4r (fuel:Nat)(p1:List Write)(l0:List File):Option (List File):=
 outK (z0k (S:=List File) (R:=Empty) (fun i1 (a2:List File)=>(z5h fuel ((p1.getD i1 zzd).name) a2).bind fun r4=>bf (decide ((p1.getD i1 zzd).kind=1)) (need (((r4.1.data.size+((p1.getD i1 zzd).data).size:Nat):Int)≤9223372036854775807)<|(z4a fuel (⟨(p1.getD i1 zzd).name,(r4.1.data++((p1.getD i1 zzd).data))⟩:File) r4.2.2).bind fun r6=>some (.next r6)) (jn (fun(a7:Bool)=>bf a7 ((z4a fuel (⟨(p1.getD i1 zzd).to_,r4.1.data⟩:File) r4.2.2).bind fun r9=>some (.next r9)) (some (.next r4.2.2))) fun j8=>bf r4.2.1 (j8 (decide ((p1.getD i1 zzd).kind=2))) (j8 false))) p1.length 0 l0) (fun(a3:List File)=>some a3) (fun(x:Empty)=>x.elim)
def zaa (fuel:Nat)(p0:Disk):Option Bool:=
 need ((0:Int)≤0∧(0:Int)≤(p0.files.length:Int)∧(p0.files.length:Int)≤(lim:Int))<|outK (z0k (S:=List File) (R:=Empty) (fun i2 (a3:List File)=>need (a3.length+([(⟨(p0.files.getD i2 zzd).name,(bs [])⟩:File)]:List File).length≤274877906944)<|some (.next (a3++([(⟨(p0.files.getD i2 zzd).name,(bs [])⟩:File)]:List File)))) p0.files.length 0 (zz9 0 ((⟨(bs []),(bs [])⟩:File):File))) (fun(a4:List File)=>outK (z0k (S:=List File) (R:=Bool) (fun i5 (a6:List File)=>(z4r fuel ([(⟨(p0.waits.getD i5 zzd).kind,(p0.waits.getD i5 zzd).name,(p0.waits.getD i5 zzd).to_,(bs [])⟩:Write)]:List Write) a6).bind fun r8=>bf (decide (256<(r8.length:Int))) (some (.ret true)) (some (.next r8))) p0.waits.length 0 a4) (fun(a7:List File)=>some false) (fun x=>some x)) (fun(x:Empty)=>x.elim)
def z9s (fuel:Nat)(p0:Disk):Option Int:=
 jn (fun(a1:Bool)=>outK (z0k (S:=Bool) (R:=Empty) (fun i3 (a4:Bool)=>bf a4 ((z6b ([(p0.files.getD i3 zzd).name]:List ByteArray)).bind fun r11=>bf r11 (bf (decide (((i3:Nat):Int)=0)) (some (.next true)) (need ((0:Int)≤(zzi.wrap (((i3:Nat):Int)-1))∧(zzi.wrap (((i3:Nat):Int)-1))<(p0.files.length:Int))<|some (.next (strLt ((p0.files.getD ((zzi.wrap (((i3:Nat):Int)-1)).toNat) zzd).name) ((p0.files.getD i3 zzd).name))))) (some (.next false))) (some (.next false))) p0.files.length 0 a1) (fun(a5:Bool)=>jn (fun(a6:Bool)=>bf a6 (some 8) (some 0)) fun j7=>bf (!a5) (j7 true) ((z1a p0.waits).bind fun r8=>bf r8 (j7 true) ((zaa fuel p0).bind fun r9=>j7 r9))) (fun(x:Empty)=>x.elim)) fun j2=>bf (decide ((p0.files.length:Int)≤256)) (bf (decide ((p0.waits.length:Int)≤4096)) (j2 (decide (0≤p0.room))) (j2 false)) (j2 false)
def z0y (p0:List File):Option (List File):=
 need (p0.length≤274877906944)<|some p0
def z21 (p0:List Write):Option (List Write):=
 need (p0.length≤274877906944)<|some p0
def z5b (fuel:Nat)(p1:ByteArray)(l0:List File):Option (File×Bool×(List File)):=
 (z1i fuel l0 p1).bind fun r1=>bf (!r1.2) (some ((⟨(bs []),(bs [])⟩:File),false,l0)) (need ((0:Int)≤r1.1∧r1.1<(l0.length:Int))<|need ((0+r1.1.toNat)<l0.length)<|none)
def z44 (fuel:Nat)(p1:File)(l0:List File):Option (List File):=
 (z1i fuel l0 p1.name).bind fun r1=>bf r1.2 (need ((0:Int)≤r1.1∧r1.1<(l0.length:Int))<|need ((0+r1.1.toNat)<l0.length)<|some (l0.set (0+r1.1.toNat) p1)) ((z5a r1.1 ([p1]:List File) l0).bind fun r4=>some r4)
def z5s (fuel:Nat)(p1:List Write)(l0:List File):Option (List File):=
 outK (z0k (S:=List File) (R:=Empty) (fun i1 (a2:List File)=>(z5b fuel ((p1.getD i1 zzd).name) a2).bind fun r4=>bf (decide ((p1.getD i1 zzd).kind=1)) (need (((r4.1.data.size+((p1.getD i1 zzd).data).size:Nat):Int)≤9223372036854775807)<|(z44 fuel (⟨(p1.getD i1 zzd).name,(r4.1.data++((p1.getD i1 zzd).data))⟩:File) r4.2.2).bind fun r6=>some (.next r6)) (jn (fun(a7:Bool)=>bf a7 ((z44 fuel (⟨(p1.getD i1 zzd).to_,r4.1.data⟩:File) r4.2.2).bind fun r9=>some (.next r9)) (some (.next r4.2.2))) fun j8=>bf r4.2.1 (j8 (decide ((p1.getD i1 zzd).kind=2))) (j8 false))) p1.length 0 l0) (fun(a3:List File)=>some a3) (fun(x:Empty)=>x.elim)
def zal (fuel:Nat)(p0:Disk):Option Desk:=
 (z0y p0.files).bind fun r1=>(z21 p0.waits).bind fun r2=>(z0y r1).bind fun r3=>(z5s fuel r2 r3).bind fun r4=>some (⟨r4,(⟨r1,r2,p0.room,p0.down,p0.fuse⟩:Disk)⟩:Desk)
def z7o (p0:List File):Option (List File):=
 need (p0.length≤274877906944)<|some p0
def z5g (p0:List File)(p1:Int):Option Bool:=
 outK (z0k (S:=Int) (R:=Bool) (fun i1 (a2:Int)=>bf (decide ((zzi.wrap (a2-(((p0.getD i1 zzd).data).size:Int)))<0)) (some (.ret true)) (some (.next (zzi.wrap (a2-(((p0.getD i1 zzd).data).size:Int)))))) p0.length 0 p1) (fun(a3:Int)=>some (decide (256<(p0.length:Int)))) (fun x=>some x)
def z5r (l0:Desk):Option (Bool×Desk):=
 jn (fun(a1:Desk)=>some ((!a1.disk.down),a1)) fun j2=>bf (decide (0<l0.disk.fuse)) (j2 (⟨l0.files,(⟨l0.disk.files,l0.disk.waits,l0.disk.room,(decide (l0.disk.fuse=0)),(zzi.wrap (l0.disk.fuse-1))⟩:Disk)⟩:Desk)) (j2 (⟨l0.files,(⟨l0.disk.files,l0.disk.waits,l0.disk.room,(decide (l0.disk.fuse=0)),l0.disk.fuse⟩:Disk)⟩:Desk))
def z5f (fuel:Nat)(p1:Write)(l0:Desk):Option (Int×Desk):=
 bf l0.disk.down (some (7,l0)) ((z9t p1).bind fun r1=>bf (!r1) (some (4,l0)) ((z1i fuel l0.files p1.name).bind fun r2=>jn (fun(a3:Bool)=>bf a3 (some (5,l0)) ((z7o l0.files).bind fun r5=>(z4r fuel ([p1]:List Write) r5).bind fun r6=>jn (fun(a7:Bool)=>bf a7 (some (9,l0)) ((z5r l0).bind fun r9=>jn (fun(a10:Bool×Desk)=>bf (!a10.1) (some (7,a10.2)) (some (0,(⟨r6,a10.2.disk⟩:Desk)))) fun j11=>jn (fun(a12:Bool×Bool)=>bf a12.2 (need (r9.2.disk.waits.length+([p1]:List Write).length≤274877906944)<|j11 (a12.1,(⟨r9.2.files,(⟨r9.2.disk.files,(r9.2.disk.waits++([p1]:List Write)),r9.2.disk.room,r9.2.disk.down,r9.2.disk.fuse⟩:Disk)⟩:Desk))) (j11 (a12.1,r9.2))) fun j13=>bf r9.1 (j13 (true,true)) (j13 (false,(decide (p1.kind=1)))))) fun j8=>bf (decide (4096≤(l0.disk.waits.length:Int))) (j8 true) ((z5g r6 l0.disk.room).bind fun r16=>j8 r16))) fun j4=>bf (!r2.2) (j4 (!decide (p1.kind=1))) (j4 false)))
def zfu (fuel:Nat)(p0:Disk)(p1:List Write):Option (Disk×Int):=
 (z9s fuel p0).bind fun r1=>bf (!decide (r1=0)) (some ((⟨([]:List File),([]:List Write),0,false,0⟩:Disk),r1)) ((zal fuel p0).bind fun r2=>outK (z0k (S:=Desk) (R:=Disk×Int) (fun i3 (a4:Desk)=>(z5f fuel (p1.getD i3 zzd) a4).bind fun r6=>bf (!decide (r6.1=0)) (some (.ret (r6.2.disk,r6.1))) (some (.next r6.2))) p1.length 0 r2) (fun(a5:Desk)=>some (a5.disk,0)) (fun x=>some x))
def zef (fuel:Nat)(p0:Disk):Option ((List File)×Int):=
 (z9s fuel p0).bind fun r1=>bf (!decide (r1=0)) (some (([]:List File),r1)) (bf p0.down (some (([]:List File),7)) ((zal fuel p0).bind fun r2=>some (r2.files,0)))
def zd3 (fuel:Nat)(p0:Disk)(p1:ByteArray):Option (ByteArray×Int):=
 (zef fuel p0).bind fun r1=>bf (!decide (r1.2=0)) (some ((bs []),r1.2)) ((z1i fuel r1.1 p1).bind fun r2=>bf (!r2.2) (some ((bs []),5)) (need ((0:Int)≤r2.1∧r2.1<(r1.1.length:Int))<|some ((r1.1.getD r2.1.toNat zzd).data,0)))
def z55 (p1:Int)(l0:Int):Option Int:=
 outK (z0k (S:=Int) (R:=Empty) (fun i1 (a2:Int)=>some (.next (z36 .xor .u32 (shrOp .u32 a2 1) (z36 .and .u32 (2197175160:Int) (IntKind.u32.wrap (0-(z36 .and .u32 a2 1))))))) 8 0 (z36 .xor .u32 l0 (IntKind.u32.wrap p1))) (fun(a3:Int)=>some a3) (fun(x:Empty)=>x.elim)
def zej (p0:ByteArray):Option Int:=
 need (p0.size≤maxN)<|outK (z0k (S:=Int) (R:=Empty) (fun i1 (a2:Int)=>(z55 (bt p0 ((i1:Nat):Int)) a2).bind fun r4=>some (.next r4)) p0.size 0 4294967295) (fun(a3:Int)=>some (z36 .xor .u32 4294967295 a3)) (fun(x:Empty)=>x.elim)
def z5e (fuel:Nat):Option Bool:=
 (zfu fuel (⟨([]:List File),([]:List Write),1099511627776,false,(-1)⟩:Disk) ([(⟨1,(bs [97]),(bs []),(bs [120])⟩:Write)]:List Write)).bind fun r1=>(zd3 fuel r1.1 (bs [97])).bind fun r2=>jn (fun(a3:Bool)=>some a3) fun j4=>(zej (bs [49,50,51,52,53,54,55,56,57])).bind fun r5=>bf (decide (r5=3808858755)) (bf (decide (r1.2=0)) (bf (decide (r2.2=0)) (j4 (strEq r2.1 (bs [120]))) (j4 false)) (j4 false)) (j4 false)
def z7x (p0:Value):Option Bool:=
 bf p0.isText (jn (fun(a1:Bool)=>some a1) fun j2=>bf (decide (p0.n=0)) (j2 (decide ((p0.s.size:Int)≤64))) (j2 false)) (some (strEq p0.s (bs [])))
def z80 (p0:Value):Option Bool:=
 (z7x p0).bind fun r1=>some (!r1)
def z0u (p0:List Value):Option Int:=
 outK (z0k (S:=Unit) (R:=Int) (fun i1 (a2:Unit)=>(z80 (p0.getD i1 zzd)).bind fun r4=>bf r4 (some (.ret ((i1:Nat):Int))) (some (.next ()))) p0.length 0 ()) (fun(a3:Unit)=>some (-1)) (fun x=>some x)
def z0r (p0:List Value):Option Bool:=
 (z0u p0).bind fun r1=>some (decide (0≤r1))
def z5m (p0:List Value):Option Int:=
 jn (fun(a1:Bool)=>bf a1 (some 4) (some 0)) fun j2=>bf (decide (8<(p0.length:Int))) (j2 true) ((z0r p0).bind fun r3=>j2 r3)
def z2i (fuel:Nat)(p0:List Int):Option Int:=
 bf (decide ((p0.length:Int)<1)) (none) (need ((0:Int)≤0∧0<(p0.length:Int))<|outK (loopN (S:=Int×Int) (R:=Empty) (fun(a2:Int×Int)=>bf (decide (a2.2<(p0.length:Int))) (need ((0:Int)≤a2.2∧a2.2<(p0.length:Int))<|some (.next ((if a2.1<(p0.getD a2.2.toNat zzd)then(p0.getD a2.2.toNat zzd)else a2.1),(zzi.wrap (a2.2+1))))) (some (.brk (a2.1,a2.2)))) fuel ((p0.getD 0 zzd),1)) (fun(a3:Int×Int)=>some a3.1) (fun(x:Empty)=>x.elim))
def z7b (fuel:Nat)(p0:List Time):Option Int:=
 outK (z0k (S:=Unit) (R:=Int) (fun i1 (a2:Unit)=>(z2i fuel ([(p0.getD i1 zzd).loop.1,(p0.getD i1 zzd).loop.2]:List Int)).bind fun r4=>bf (decide (4611686018427387904<(if(p0.getD i1 zzd).epoch<r4 then r4 else(p0.getD i1 zzd).epoch))) (some (.ret 1)) (some (.next ()))) p0.length 0 ()) (fun(a3:Unit)=>some 0) (fun x=>some x)
def z49 (p0:List Int):Option Int:=
 outK (z0k (S:=Unit) (R:=Int) (fun i1 (a2:Unit)=>bf (!decide ((p0.getD i1 zzd)=0)) (some (.ret (p0.getD i1 zzd))) (some (.next ()))) p0.length 0 ()) (fun(a3:Unit)=>some 0) (fun x=>some x)
def z51 (fuel:Nat)(p0:List Update):Option Int:=
 outK (z0k (S:=Unit) (R:=Int) (fun i1 (a2:Unit)=>(z5m ((p0.getD i1 zzd).key)).bind fun r4=>(z5m ((p0.getD i1 zzd).row)).bind fun r5=>(z7b fuel ([(p0.getD i1 zzd).time]:List Time)).bind fun r6=>(z49 ([r4,r5,r6]:List Int)).bind fun r7=>bf (!decide (r7=0)) (some (.ret r7)) (some (.next ()))) p0.length 0 ()) (fun(a3:Unit)=>some 0) (fun x=>some x)
def z89 (p0:Int):Option Int:=
 bf (decide (p0<0)) (some (zzu.wrap (0-(zzu.wrap p0)))) (some (zzu.wrap p0))
def z6e (p0:Int)(p1:Int):Option (Int×Int):=
 some ((zzu.wrap ((zzu.wrap ((zzu.wrap ((shrOp .u64 p0 32)*(shrOp .u64 p1 32)))+(shrOp .u64 (zzu.wrap ((zzu.wrap ((shrOp .u64 p0 32)*(z36 .and .u64 p1 4294967295)))+(shrOp .u64 (zzu.wrap ((z36 .and .u64 p0 4294967295)*(z36 .and .u64 p1 4294967295))) 32))) 32)))+(shrOp .u64 (zzu.wrap ((z36 .and .u64 (zzu.wrap ((zzu.wrap ((shrOp .u64 p0 32)*(z36 .and .u64 p1 4294967295)))+(shrOp .u64 (zzu.wrap ((z36 .and .u64 p0 4294967295)*(z36 .and .u64 p1 4294967295))) 32))) 4294967295)+(zzu.wrap ((z36 .and .u64 p0 4294967295)*(shrOp .u64 p1 32))))) 32))),(zzu.wrap (p0*p1)))
def z7j (p0:Int)(p1:Int):Option (Int×Int):=
 (z89 p0).bind fun r1=>(z89 p1).bind fun r2=>(z6e r1 r2).bind fun r3=>jn (fun(a4:Int)=>jn (fun(a6:Bool)=>bf a6 (some (0,10)) (some ((zzi.wrap (p0*p1)),0))) fun j7=>bf (!decide (r3.1=0)) (j7 true) (j7 (decide (a4<r3.2)))) fun j5=>bf ((decide (p0<0))==(decide (p1<0))) (j5 (zzu.wrap ((9223372036854775808:Int)-1))) (j5 9223372036854775808)
def z6l (p1:Count):Option ((List Count)×Int):=
 (z7j p1.n (-1)).bind fun r1=>some (([(⟨p1.row,r1.1⟩:Count)]:List Count),r1.2)
def z4t (p1:Update):Option ((List Update)×Bool):=
 (z6l (⟨p1.row,p1.diff⟩:Count)).bind fun r1=>bf (!decide (r1.2=0)) (some (([]:List Update),false)) (outK (z0k (S:=List Update) (R:=(List Update)×Bool) (fun i2 (a3:List Update)=>need (a3.length+([(⟨([]:List Value),(r1.1.getD i2 zzd).row,p1.time,(r1.1.getD i2 zzd).n⟩:Update)]:List Update).length≤274877906944)<|(z5m ((r1.1.getD i2 zzd).row)).bind fun r6=>bf (!decide (r6=0)) (some (.ret (([]:List Update),false))) (some (.next (a3++([(⟨([]:List Value),(r1.1.getD i2 zzd).row,p1.time,(r1.1.getD i2 zzd).n⟩:Update)]:List Update))))) r1.1.length 0 ([]:List Update)) (fun(a4:List Update)=>some (a4,true)) (fun x=>some x))
def z5q (p0:Int):Option Bool:=
 some (!decide (p0=p0))
def z3d (p0:Int)(p1:Int):Option Int:=
 (z5q p0).bind fun r1=>(z5q p1).bind fun r2=>bf r1 (bf r2 (some 0) (some (-1))) (bf r2 (some 1) (bf (decide (p0<p1)) (some (-1)) (bf (decide (p1<p0)) (some 1) (some 0))))
def z22 (p0:List Int)(p1:List Int):Option Int:=
 outK (z0k (S:=Unit) (R:=Int) (fun i1 (a2:Unit)=>bf (decide ((p1.length:Int)≤((i1:Nat):Int))) (some (.ret 1)) (need ((0:Int)≤((i1:Nat):Int)∧((i1:Nat):Int)<(p1.length:Int))<|(z3d (p0.getD i1 zzd) (p1.getD i1 zzd)).bind fun r5=>bf (!decide (r5=0)) (some (.ret r5)) (some (.next ())))) p0.length 0 ()) (fun(a3:Unit)=>bf (decide ((p0.length:Int)<(p1.length:Int))) (some (-1)) (some 0)) (fun x=>some x)
def z67 (p0:List Int):Option Int:=
 outK (z0k (S:=Unit) (R:=Int) (fun i1 (a2:Unit)=>bf (!decide ((p0.getD i1 zzd)=0)) (some (.ret (p0.getD i1 zzd))) (some (.next ()))) p0.length 0 ()) (fun(a3:Unit)=>some 0) (fun x=>some x)
def z42 (p0:Time)(p1:Time):Option Int:=
 bf (decide (p0.loop.1=p1.loop.1) && (decide (p0.loop.2=p1.loop.2) && true)) ((z3d p0.epoch p1.epoch).bind fun r1=>some r1) ((z3d p0.epoch p1.epoch).bind fun r2=>(z22 ([p0.loop.1,p0.loop.2]:List Int) ([p1.loop.1,p1.loop.2]:List Int)).bind fun r3=>(z67 ([r2,r3]:List Int)).bind fun r4=>some r4)
def z2d (p1:Time)(l0:Fault):Option Fault:=
 jn (fun(a1:Bool)=>bf a1 (some (⟨true,p1⟩:Fault)) (some l0)) fun j2=>bf (!l0.is) (j2 true) ((z42 p1 l0.at_).bind fun r4=>j2 (decide (r4<0)))
def z2t (p1:List Update)(l0:Maker):Option Maker:=
 need (l0.list.length+p1.length≤274877906944)<|some (⟨l0.fault,(l0.list++p1)⟩:Maker)
def z1x (p1:Int):Option (List Update):=
 bf (decide (p1<0)) (none) (jn (fun(a1:List Update)=>some a1) fun j2=>bf (decide (0<(zzi.wrap (p1-(zzi.wrap ((0:Int)-0)))))) (need ((0:Int)<(zzi.wrap (p1-(zzi.wrap ((0:Int)-0))))∧(zzi.wrap (p1-(zzi.wrap ((0:Int)-0))))≤(lim:Int))<|need ((0:Int)≤0∧(0:Int)≤0∧(0:Int)≤((zz9 ((zzi.wrap (p1-(zzi.wrap ((0:Int)-0)))).toNat) ((⟨([]:List Value),([]:List Value),(⟨0,(0,0)⟩:Time),0⟩:Update):Update)).length:Int))<|j2 ((zz9 ((zzi.wrap (p1-(zzi.wrap ((0:Int)-0)))).toNat) ((⟨([]:List Value),([]:List Value),(⟨0,(0,0)⟩:Time),0⟩:Update):Update)).take 0)) (j2 ([]:List Update)))
def z1c (p0:List (List Update)):Option (List Update):=
 outK (z0k (S:=Int) (R:=Empty) (fun i1 (a2:Int)=>bf (decide ((zzi.wrap (a2+((p0.getD i1 zzd).length:Int)))<0)) (none) (some (.next (zzi.wrap (a2+((p0.getD i1 zzd).length:Int)))))) p0.length 0 0) (fun(a3:Int)=>(z1x a3).bind fun r4=>outK (z0k (S:=List Update) (R:=Empty) (fun i5 (a6:List Update)=>need (a6.length+(p0.getD i5 zzd).length≤274877906944)<|some (.next (a6++(p0.getD i5 zzd)))) p0.length 0 r4) (fun(a7:List Update)=>some a7) (fun(x:Empty)=>x.elim)) (fun(x:Empty)=>x.elim)
def z8w (p0:Value):Option Int:=
 bf p0.isText (some 1) (some 0)
def z72 (p0:Int):Option Bool:=
 some (!decide (p0=p0))
def z66 (p0:Int)(p1:Int):Option Int:=
 (z72 p0).bind fun r1=>(z72 p1).bind fun r2=>bf r1 (bf r2 (some 0) (some (-1))) (bf r2 (some 1) (bf (decide (p0<p1)) (some (-1)) (bf (decide (p1<p0)) (some 1) (some 0))))
def z68 (p0:Int):Option Bool:=
 some (!decide (p0=p0))
def z5d (p0:Int)(p1:Int):Option Int:=
 (z68 p0).bind fun r1=>(z68 p1).bind fun r2=>bf r1 (bf r2 (some 0) (some (-1))) (bf r2 (some 1) (bf (decide (p0<p1)) (some (-1)) (bf (decide (p1<p0)) (some 1) (some 0))))
def z74 (p0:Value)(p1:Value):Option Int:=
 bf (!(p0.isText==p1.isText)) ((z8w p0).bind fun r1=>(z8w p1).bind fun r2=>(z66 r1 r2).bind fun r3=>some r3) (bf p0.isText ((z3y p0.s p1.s).bind fun r4=>some r4) ((z5d p0.n p1.n).bind fun r5=>some r5))
def z0i (p0:List Value)(p1:List Value):Option Int:=
 outK (z0k (S:=Unit) (R:=Int) (fun i1 (a2:Unit)=>bf (decide ((p1.length:Int)≤((i1:Nat):Int))) (some (.ret 1)) (need ((0:Int)≤((i1:Nat):Int)∧((i1:Nat):Int)<(p1.length:Int))<|(z74 (p0.getD i1 zzd) (p1.getD i1 zzd)).bind fun r5=>bf (!decide (r5=0)) (some (.ret r5)) (some (.next ())))) p0.length 0 ()) (fun(a3:Unit)=>bf (decide ((p0.length:Int)<(p1.length:Int))) (some (-1)) (some 0)) (fun x=>some x)
def z4i (p0:List Value)(p1:List Value):Option Int:=
 (z0i p0 p1).bind fun r1=>some r1
def z1y (p0:Update)(p1:Update):Option Int:=
 (z4i p0.key p1.key).bind fun r1=>(z4i p0.row p1.row).bind fun r2=>(z42 p0.time p1.time).bind fun r3=>(z67 ([r1,r2,r3]:List Int)).bind fun r4=>some r4
def z19 (fuel:Nat)(p1:Int)(p2:Int)(l0:List Update):Option (List Update):=
 outK (loopN (S:=Int×(List Update)) (R:=Empty) (fun(a1:Int×(List Update))=>bf (decide (a1.1<p2)) (outK (loopN (S:=Int×(List Update)) (R:=Empty) (fun(a3:Int×(List Update))=>jn (fun(a5:Bool)=>bf a5 (need ((0:Int)≤(zzi.wrap (a3.1-1))∧(zzi.wrap (a3.1-1))<(a3.2.length:Int))<|need ((0+(zzi.wrap (a3.1-1)).toNat)<a3.2.length)<|need ((0:Int)≤a3.1∧a3.1<(a3.2.length:Int))<|need ((0+a3.1.toNat)<a3.2.length)<|need ((0:Int)≤a3.1∧a3.1<(a3.2.length:Int))<|need ((0+a3.1.toNat)<a3.2.length)<|need ((0:Int)≤(zzi.wrap (a3.1-1))∧(zzi.wrap (a3.1-1))<(a3.2.length:Int))<|need ((0+(zzi.wrap (a3.1-1)).toNat)<(a3.2.set (0+a3.1.toNat) (a3.2.getD (0+(zzi.wrap (a3.1-1)).toNat) zzd)).length)<|some (.next ((zzi.wrap (a3.1-1)),((a3.2.set (0+a3.1.toNat) (a3.2.getD (0+(zzi.wrap (a3.1-1)).toNat) zzd)).set (0+(zzi.wrap (a3.1-1)).toNat) (a3.2.getD (0+a3.1.toNat) zzd))))) (some (.brk (a3.1,a3.2)))) fun j6=>bf (decide (p1<a3.1)) (need ((0:Int)≤a3.1∧a3.1<(a3.2.length:Int))<|need ((0+a3.1.toNat)<a3.2.length)<|need ((0:Int)≤(zzi.wrap (a3.1-1))∧(zzi.wrap (a3.1-1))<(a3.2.length:Int))<|need ((0+(zzi.wrap (a3.1-1)).toNat)<a3.2.length)<|(z1y (a3.2.getD (0+a3.1.toNat) zzd) (a3.2.getD (0+(zzi.wrap (a3.1-1)).toNat) zzd)).bind fun r20=>j6 (decide (r20<0))) (j6 false)) fuel (a1.1,a1.2)) (fun(a4:Int×(List Update))=>some (.next ((zzi.wrap (a1.1+1)),a4.2))) (fun(x:Empty)=>x.elim)) (some (.brk (a1.1,a1.2)))) fuel ((zzi.wrap (p1+1)),l0)) (fun(a2:Int×(List Update))=>some a2.2) (fun(x:Empty)=>x.elim)
def z1h (fuel:Nat)(p1:Int)(p2:Int)(p3:Int)(l0:List Update):Option (List Update):=
 outK (loopN (S:=Int×(List Update)) (R:=Empty) (fun(a1:Int×(List Update))=>bf (decide (a1.1<p3)) (need ((0:Int)≤(zzi.wrap (p2+a1.1))∧(zzi.wrap (p2+a1.1))<(a1.2.length:Int))<|need ((0+(zzi.wrap (p2+a1.1)).toNat)<a1.2.length)<|need ((0:Int)≤(zzi.wrap (p1+a1.1))∧(zzi.wrap (p1+a1.1))<(a1.2.length:Int))<|need ((0+(zzi.wrap (p1+a1.1)).toNat)<a1.2.length)<|need ((0:Int)≤(zzi.wrap (p1+a1.1))∧(zzi.wrap (p1+a1.1))<(a1.2.length:Int))<|need ((0+(zzi.wrap (p1+a1.1)).toNat)<a1.2.length)<|need ((0:Int)≤(zzi.wrap (p2+a1.1))∧(zzi.wrap (p2+a1.1))<(a1.2.length:Int))<|need ((0+(zzi.wrap (p2+a1.1)).toNat)<(a1.2.set (0+(zzi.wrap (p1+a1.1)).toNat) (a1.2.getD (0+(zzi.wrap (p2+a1.1)).toNat) zzd)).length)<|some (.next ((zzi.wrap (a1.1+1)),((a1.2.set (0+(zzi.wrap (p1+a1.1)).toNat) (a1.2.getD (0+(zzi.wrap (p2+a1.1)).toNat) zzd)).set (0+(zzi.wrap (p2+a1.1)).toNat) (a1.2.getD (0+(zzi.wrap (p1+a1.1)).toNat) zzd))))) (some (.brk (a1.1,a1.2)))) fuel (0,l0)) (fun(a2:Int×(List Update))=>some a2.2) (fun(x:Empty)=>x.elim)
def z20 (fuel:Nat)(p1:Int)(p2:Int)(p3:Int)(l0:List Update):Option (List Update):=
 outK (loopN (S:=Int×Int×(List Update)) (R:=Empty) (fun(a1:Int×Int×(List Update))=>bf (!decide (a1.1=a1.2.1)) (bf (decide (a1.2.1<a1.1)) ((z1h fuel (zzi.wrap (p2-a1.1)) p2 a1.2.1 a1.2.2).bind fun r4=>need (r4.length=a1.2.2.length)<|some (.next ((zzi.wrap (a1.1-a1.2.1)),a1.2.1,r4))) ((z1h fuel (zzi.wrap (p2-a1.1)) (zzi.wrap ((zzi.wrap (p2+a1.2.1))-a1.1)) a1.1 a1.2.2).bind fun r6=>need (r6.length=a1.2.2.length)<|some (.next (a1.1,(zzi.wrap (a1.2.1-a1.1)),r6)))) (some (.brk (a1.1,a1.2.1,a1.2.2)))) fuel ((zzi.wrap (p2-p1)),(zzi.wrap (p3-p2)),l0)) (fun(a2:Int×Int×(List Update))=>(z1h fuel (zzi.wrap (p2-a2.1)) p2 a2.1 a2.2.2).bind fun r3=>some r3) (fun(x:Empty)=>x.elim)
def z0l:Nat→Int→Int→Int→(List Update)→Option (List Update)
 |0,_,_,_,_=>none
 |fuel+1,p1,p2,p3,l0=>
 bf (decide ((zzi.wrap (p2-p1))=1)) (outK (loopN (S:=Int×Int) (R:=Empty) (fun(a1:Int×Int)=>bf (decide (a1.1<a1.2)) (need ((0:Int)≤(zzi.wrap (shrOp .u64 (zzu.wrap (zzi.wrap (a1.1+a1.2))) 1))∧(zzi.wrap (shrOp .u64 (zzu.wrap (zzi.wrap (a1.1+a1.2))) 1))<(l0.length:Int))<|need ((0+(zzi.wrap (shrOp .u64 (zzu.wrap (zzi.wrap (a1.1+a1.2))) 1)).toNat)<l0.length)<|need ((0:Int)≤p1∧p1<(l0.length:Int))<|need ((0+p1.toNat)<l0.length)<|(z1y (l0.getD (0+(zzi.wrap (shrOp .u64 (zzu.wrap (zzi.wrap (a1.1+a1.2))) 1)).toNat) zzd) (l0.getD (0+p1.toNat) zzd)).bind fun r17=>bf (decide (r17<0)) (some (.next ((zzi.wrap ((zzi.wrap (shrOp .u64 (zzu.wrap (zzi.wrap (a1.1+a1.2))) 1))+1)),a1.2))) (some (.next (a1.1,(zzi.wrap (shrOp .u64 (zzu.wrap (zzi.wrap (a1.1+a1.2))) 1)))))) (some (.brk (a1.1,a1.2)))) fuel (p2,p3)) (fun(a2:Int×Int)=>outK (loopN (S:=Int×(List Update)) (R:=Empty) (fun(a3:Int×(List Update))=>bf (decide (a3.1<(zzi.wrap (a2.1-1)))) (need ((0:Int)≤(zzi.wrap (a3.1+1))∧(zzi.wrap (a3.1+1))<(a3.2.length:Int))<|need ((0+(zzi.wrap (a3.1+1)).toNat)<a3.2.length)<|need ((0:Int)≤a3.1∧a3.1<(a3.2.length:Int))<|need ((0+a3.1.toNat)<a3.2.length)<|need ((0:Int)≤a3.1∧a3.1<(a3.2.length:Int))<|need ((0+a3.1.toNat)<a3.2.length)<|need ((0:Int)≤(zzi.wrap (a3.1+1))∧(zzi.wrap (a3.1+1))<(a3.2.length:Int))<|need ((0+(zzi.wrap (a3.1+1)).toNat)<(a3.2.set (0+a3.1.toNat) (a3.2.getD (0+(zzi.wrap (a3.1+1)).toNat) zzd)).length)<|some (.next ((zzi.wrap (a3.1+1)),((a3.2.set (0+a3.1.toNat) (a3.2.getD (0+(zzi.wrap (a3.1+1)).toNat) zzd)).set (0+(zzi.wrap (a3.1+1)).toNat) (a3.2.getD (0+a3.1.toNat) zzd))))) (some (.brk (a3.1,a3.2)))) fuel (p1,l0)) (fun(a4:Int×(List Update))=>some a4.2) (fun(x:Empty)=>x.elim)) (fun(x:Empty)=>x.elim)) (bf (decide ((zzi.wrap (p3-p2))=1)) (outK (loopN (S:=Int×Int) (R:=Empty) (fun(a18:Int×Int)=>bf (decide (a18.1<a18.2)) (need ((0:Int)≤p2∧p2<(l0.length:Int))<|need ((0+p2.toNat)<l0.length)<|need ((0:Int)≤(zzi.wrap (shrOp .u64 (zzu.wrap (zzi.wrap (a18.1+a18.2))) 1))∧(zzi.wrap (shrOp .u64 (zzu.wrap (zzi.wrap (a18.1+a18.2))) 1))<(l0.length:Int))<|need ((0+(zzi.wrap (shrOp .u64 (zzu.wrap (zzi.wrap (a18.1+a18.2))) 1)).toNat)<l0.length)<|(z1y (l0.getD (0+p2.toNat) zzd) (l0.getD (0+(zzi.wrap (shrOp .u64 (zzu.wrap (zzi.wrap (a18.1+a18.2))) 1)).toNat) zzd)).bind fun r34=>bf (!(decide (r34<0))) (some (.next ((zzi.wrap ((zzi.wrap (shrOp .u64 (zzu.wrap (zzi.wrap (a18.1+a18.2))) 1))+1)),a18.2))) (some (.next (a18.1,(zzi.wrap (shrOp .u64 (zzu.wrap (zzi.wrap (a18.1+a18.2))) 1)))))) (some (.brk (a18.1,a18.2)))) fuel (p1,p2)) (fun(a19:Int×Int)=>outK (loopN (S:=Int×(List Update)) (R:=Empty) (fun(a20:Int×(List Update))=>bf (decide (a19.1<a20.1)) (need ((0:Int)≤(zzi.wrap (a20.1-1))∧(zzi.wrap (a20.1-1))<(a20.2.length:Int))<|need ((0+(zzi.wrap (a20.1-1)).toNat)<a20.2.length)<|need ((0:Int)≤a20.1∧a20.1<(a20.2.length:Int))<|need ((0+a20.1.toNat)<a20.2.length)<|need ((0:Int)≤a20.1∧a20.1<(a20.2.length:Int))<|need ((0+a20.1.toNat)<a20.2.length)<|need ((0:Int)≤(zzi.wrap (a20.1-1))∧(zzi.wrap (a20.1-1))<(a20.2.length:Int))<|need ((0+(zzi.wrap (a20.1-1)).toNat)<(a20.2.set (0+a20.1.toNat) (a20.2.getD (0+(zzi.wrap (a20.1-1)).toNat) zzd)).length)<|some (.next ((zzi.wrap (a20.1-1)),((a20.2.set (0+a20.1.toNat) (a20.2.getD (0+(zzi.wrap (a20.1-1)).toNat) zzd)).set (0+(zzi.wrap (a20.1-1)).toNat) (a20.2.getD (0+a20.1.toNat) zzd))))) (some (.brk (a20.1,a20.2)))) fuel (p2,l0)) (fun(a21:Int×(List Update))=>some a21.2) (fun(x:Empty)=>x.elim)) (fun(x:Empty)=>x.elim)) (jn (fun(a35:Int×Int×Int×Int)=>outK (loopN (S:=Int×Int) (R:=Empty) (fun(a37:Int×Int)=>bf (decide (a37.1<a37.2)) (need ((0:Int)≤(zzi.wrap ((zzi.wrap (a35.2.1-1))-(zzi.wrap (shrOp .u64 (zzu.wrap (zzi.wrap (a37.1+a37.2))) 1))))∧(zzi.wrap ((zzi.wrap (a35.2.1-1))-(zzi.wrap (shrOp .u64 (zzu.wrap (zzi.wrap (a37.1+a37.2))) 1))))<(l0.length:Int))<|need ((0+(zzi.wrap ((zzi.wrap (a35.2.1-1))-(zzi.wrap (shrOp .u64 (zzu.wrap (zzi.wrap (a37.1+a37.2))) 1)))).toNat)<l0.length)<|need ((0:Int)≤(zzi.wrap (shrOp .u64 (zzu.wrap (zzi.wrap (a37.1+a37.2))) 1))∧(zzi.wrap (shrOp .u64 (zzu.wrap (zzi.wrap (a37.1+a37.2))) 1))<(l0.length:Int))<|need ((0+(zzi.wrap (shrOp .u64 (zzu.wrap (zzi.wrap (a37.1+a37.2))) 1)).toNat)<l0.length)<|(z1y (l0.getD (0+(zzi.wrap ((zzi.wrap (a35.2.1-1))-(zzi.wrap (shrOp .u64 (zzu.wrap (zzi.wrap (a37.1+a37.2))) 1)))).toNat) zzd) (l0.getD (0+(zzi.wrap (shrOp .u64 (zzu.wrap (zzi.wrap (a37.1+a37.2))) 1)).toNat) zzd)).bind fun r58=>bf (!(decide (r58<0))) (some (.next ((zzi.wrap ((zzi.wrap (shrOp .u64 (zzu.wrap (zzi.wrap (a37.1+a37.2))) 1))+1)),a37.2))) (some (.next (a37.1,(zzi.wrap (shrOp .u64 (zzu.wrap (zzi.wrap (a37.1+a37.2))) 1)))))) (some (.brk (a37.1,a37.2)))) fuel (a35.2.2.1,a35.2.2.2)) (fun(a38:Int×Int)=>jn (fun(a39:Int×(List Update))=>jn (fun(a41:List Update)=>jn (fun(a43:Bool)=>bf a43 ((z0l fuel a35.1 a39.1 p3 a41).bind fun r45=>some r45) (some a41)) fun j44=>bf (decide (a35.1<a39.1)) (j44 (decide (a39.1<p3))) (j44 false)) fun j42=>jn (fun(a46:Bool)=>bf a46 ((z0l fuel p1 a38.1 a35.1 a39.2).bind fun r48=>need (r48.length=a39.2.length)<|j42 r48) (j42 a39.2)) fun j47=>bf (decide (p1<a38.1)) (j47 (decide (a38.1<a35.1))) (j47 false)) fun j40=>jn (fun(a50:Int×Bool)=>bf a50.2 ((z20 fuel a38.1 p2 a50.1 l0).bind fun r52=>need (r52.length=l0.length)<|j40 (a50.1,r52)) (j40 (a50.1,l0))) fun j51=>bf (decide (a38.1<p2)) (j51 ((zzi.wrap (a35.2.1-a38.1)),(decide (p2<(zzi.wrap (a35.2.1-a38.1)))))) (j51 ((zzi.wrap (a35.2.1-a38.1)),false))) (fun(x:Empty)=>x.elim)) fun j36=>bf (decide ((zzi.wrap (shrOp .u64 (zzu.wrap (zzi.wrap (p1+p3))) 1))<p2)) (j36 ((zzi.wrap (shrOp .u64 (zzu.wrap (zzi.wrap (p1+p3))) 1)),(zzi.wrap ((zzi.wrap (shrOp .u64 (zzu.wrap (zzi.wrap (p1+p3))) 1))+p2)),(zzi.wrap ((zzi.wrap ((zzi.wrap (shrOp .u64 (zzu.wrap (zzi.wrap (p1+p3))) 1))+p2))-p3)),(zzi.wrap (shrOp .u64 (zzu.wrap (zzi.wrap (p1+p3))) 1)))) (j36 ((zzi.wrap (shrOp .u64 (zzu.wrap (zzi.wrap (p1+p3))) 1)),(zzi.wrap ((zzi.wrap (shrOp .u64 (zzu.wrap (zzi.wrap (p1+p3))) 1))+p2)),p1,p2))))
def z1j (fuel:Nat)(p1:Int)(l0:List Update):Option (List Update):=
 outK (loopN (S:=Int×Int×(List Update)) (R:=Empty) (fun(a1:Int×Int×(List Update))=>bf (decide (a1.2.1≤p1)) ((z19 fuel a1.1 a1.2.1 a1.2.2).bind fun r15=>need (r15.length=a1.2.2.length)<|some (.next (a1.2.1,(zzi.wrap (a1.2.1+20)),r15))) (some (.brk (a1.1,a1.2.1,a1.2.2)))) fuel (0,20,l0)) (fun(a2:Int×Int×(List Update))=>(z19 fuel a2.1 p1 a2.2.2).bind fun r3=>need (r3.length=a2.2.2.length)<|outK (loopN (S:=Int×(List Update)) (R:=Empty) (fun(a5:Int×(List Update))=>bf (decide (a5.1<p1)) (outK (loopN (S:=Int×Int×(List Update)) (R:=Empty) (fun(a7:Int×Int×(List Update))=>bf (decide (a7.2.1≤p1)) ((z0l fuel a7.1 (zzi.wrap (a7.1+a5.1)) a7.2.1 a7.2.2).bind fun r13=>need (r13.length=a7.2.2.length)<|some (.next (a7.2.1,(zzi.wrap (a7.2.1+(zzi.wrap ((2:Int)*a5.1)))),r13))) (some (.brk (a7.1,a7.2.1,a7.2.2)))) fuel (0,(zzi.wrap ((2:Int)*a5.1)),a5.2)) (fun(a8:Int×Int×(List Update))=>jn (fun(a9:List Update)=>some (.next ((zzi.wrap (a5.1*2)),a9))) fun j10=>bf (decide ((zzi.wrap (a8.1+a5.1))<p1)) ((z0l fuel a8.1 (zzi.wrap (a8.1+a5.1)) p1 a8.2.2).bind fun r11=>need (r11.length=a8.2.2.length)<|j10 r11) (j10 a8.2.2)) (fun(x:Empty)=>x.elim)) (some (.brk (a5.1,a5.2)))) fuel (20,r3)) (fun(a6:Int×(List Update))=>some a6.2) (fun(x:Empty)=>x.elim)) (fun(x:Empty)=>x.elim)
def z0b (fuel:Nat)(l0:List Update):Option (List Update):=
 (z1j fuel (l0.length:Int) l0).bind fun r1=>some r1
def z69 (p0:Update):Option Int:=
 some p0.diff
def z3f (p0:Nat)(p1:Int)(l0:List Line_Update):Option (List Line_Update):=
 need (p0<l0.length)<|(z8k ((l0.getD p0 zzd).tally.low) (zzu.wrap p1) 0).bind fun r2=>need (p0<l0.length)<|need (p0<(l0.set p0 (⟨(⟨(l0.getD p0 zzd).tally.high,r2.1⟩:Tally),(l0.getD p0 zzd).of⟩:Line_Update)).length)<|(z8k (((l0.set p0 (⟨(⟨(l0.getD p0 zzd).tally.high,r2.1⟩:Tally),(l0.getD p0 zzd).of⟩:Line_Update)).getD p0 zzd).tally.high) (zzu.wrap (shrOp .i64 p1 63)) r2.2).bind fun r5=>need (p0<(l0.set p0 (⟨(⟨(l0.getD p0 zzd).tally.high,r2.1⟩:Tally),(l0.getD p0 zzd).of⟩:Line_Update)).length)<|some ((l0.set p0 (⟨(⟨(l0.getD p0 zzd).tally.high,r2.1⟩:Tally),(l0.getD p0 zzd).of⟩:Line_Update)).set p0 (⟨(⟨r5.1,((l0.set p0 (⟨(⟨(l0.getD p0 zzd).tally.high,r2.1⟩:Tally),(l0.getD p0 zzd).of⟩:Line_Update)).getD p0 zzd).tally.low⟩:Tally),((l0.set p0 (⟨(⟨(l0.getD p0 zzd).tally.high,r2.1⟩:Tally),(l0.getD p0 zzd).of⟩:Line_Update)).getD p0 zzd).of⟩:Line_Update))
def z3g (l0:Line_Update):Option (Int×Int×Line_Update):=
 bf (!decide (l0.tally.high=(zzu.wrap (shrOp .i64 (zzi.wrap l0.tally.low) 63)))) (some (0,10,l0)) (some ((zzi.wrap l0.tally.low),0,l0))
def z6a (p0:Update)(p1:Int):Option Update:=
 some (⟨p0.key,p0.row,p0.time,p1⟩:Update)
def z0m (fuel:Nat)(l0:List Update):Option ((List Update)×Int×(List Update)):=
 (z0b fuel l0).bind fun r1=>need (r1.length=l0.length)<|outK (z0k (S:=List Line_Update) (R:=Empty) (fun i3 (a4:List Line_Update)=>need ((0+i3)<r1.length)<|jn (fun(a14:List Line_Update)=>need ((0:Int)≤(zzi.wrap ((a14.length:Int)-1))∧(zzi.wrap ((a14.length:Int)-1))<(a14.length:Int))<|(z69 (r1.getD (0+i3) zzd)).bind fun r17=>(z3f (0+(zzi.wrap ((a14.length:Int)-1)).toNat) r17 a14).bind fun r18=>need (r18.length=a14.length)<|some (.next r18)) fun j15=>jn (fun(a20:Bool)=>bf a20 (need (a4.length+([(⟨(⟨0,0⟩:Tally),(r1.getD (0+i3) zzd)⟩:Line_Update)]:List Line_Update).length≤274877906944)<|j15 (a4++([(⟨(⟨0,0⟩:Tally),(r1.getD (0+i3) zzd)⟩:Line_Update)]:List Line_Update))) (j15 a4)) fun j21=>bf (decide ((a4.length:Int)=0)) (j21 true) (need ((0:Int)≤(zzi.wrap ((a4.length:Int)-1))∧(zzi.wrap ((a4.length:Int)-1))<(a4.length:Int))<|need ((0+(zzi.wrap ((a4.length:Int)-1)).toNat)<a4.length)<|(z1y ((a4.getD (0+(zzi.wrap ((a4.length:Int)-1)).toNat) zzd).of) (r1.getD (0+i3) zzd)).bind fun r26=>j21 (!decide (r26=0)))) r1.length 0 ([]:List Line_Update)) (fun(a5:List Line_Update)=>outK (z0k (S:=List Update) (R:=(List Update)×Int×(List Update)) (fun i6 (a7:List Update)=>need ((0+i6)<a5.length)<|(z3g (a5.getD (0+i6) zzd)).bind fun r10=>bf (!decide (r10.2.1=0)) (some (.ret (([]:List Update),r10.2.1,r1))) (bf (!decide (r10.1=0)) ((z6a r10.2.2.of r10.1).bind fun r11=>need (a7.length+([r11]:List Update).length≤274877906944)<|some (.next (a7++([r11]:List Update)))) (some (.next a7)))) a5.length 0 ([]:List Update)) (fun(a8:List Update)=>some (a8,0,r1)) (fun x=>some x)) (fun(x:Empty)=>x.elim)
def z0s (p0:List Value):Option (List Value):=
 need (p0.length≤274877906944)<|some p0
def za8 (p0:List Update):Option (List Update):=
 need ((0:Int)≤(p0.length:Int)∧(p0.length:Int)≤(p0.length:Int)∧(p0.length:Int)≤(lim:Int))<|need (p0.length≤(zz9 p0.length ((⟨([]:List Value),([]:List Value),(⟨0,(0,0)⟩:Time),0⟩:Update):Update)).length)<|outK (z0k (S:=List Update) (R:=Empty) (fun i3 (a4:List Update)=>need ((0:Int)≤((i3:Nat):Int)∧((i3:Nat):Int)<(a4.length:Int))<|need ((0+i3)<a4.length)<|(z0s ((a4.getD (0+i3) zzd).key)).bind fun r8=>need ((0:Int)≤((i3:Nat):Int)∧((i3:Nat):Int)<(a4.length:Int))<|need ((0+i3)<a4.length)<|(z0s ((a4.getD (0+i3) zzd).row)).bind fun r11=>need ((0:Int)≤((i3:Nat):Int)∧((i3:Nat):Int)<(a4.length:Int))<|need ((0+i3)<a4.length)<|need ((0:Int)≤((i3:Nat):Int)∧((i3:Nat):Int)<(a4.length:Int))<|need ((0+i3)<(a4.set (0+i3) (⟨r8,(a4.getD (0+i3) zzd).row,(a4.getD (0+i3) zzd).time,(a4.getD (0+i3) zzd).diff⟩:Update)).length)<|some (.next ((a4.set (0+i3) (⟨r8,(a4.getD (0+i3) zzd).row,(a4.getD (0+i3) zzd).time,(a4.getD (0+i3) zzd).diff⟩:Update)).set (0+i3) (⟨((a4.set (0+i3) (⟨r8,(a4.getD (0+i3) zzd).row,(a4.getD (0+i3) zzd).time,(a4.getD (0+i3) zzd).diff⟩:Update)).getD (0+i3) zzd).key,r11,((a4.set (0+i3) (⟨r8,(a4.getD (0+i3) zzd).row,(a4.getD (0+i3) zzd).time,(a4.getD (0+i3) zzd).diff⟩:Update)).getD (0+i3) zzd).time,((a4.set (0+i3) (⟨r8,(a4.getD (0+i3) zzd).row,(a4.getD (0+i3) zzd).time,(a4.getD (0+i3) zzd).diff⟩:Update)).getD (0+i3) zzd).diff⟩:Update)))) ((copyL (zz9 p0.length ((⟨([]:List Value),([]:List Value),(⟨0,(0,0)⟩:Time),0⟩:Update):Update)) p0).length) 0 (copyL (zz9 p0.length ((⟨([]:List Value),([]:List Value),(⟨0,(0,0)⟩:Time),0⟩:Update):Update)) p0)) (fun(a5:List Update)=>some a5) (fun(x:Empty)=>x.elim)
def z2w (fuel:Nat)(p0:List (List Update)):Option ((List Update)×Int):=
 outK (z0k (S:=Unit) (R:=(List Update)×Int) (fun i1 (a2:Unit)=>(z51 fuel (p0.getD i1 zzd)).bind fun r7=>bf (!decide (r7=0)) (some (.ret (([]:List Update),r7))) (some (.next ()))) p0.length 0 ()) (fun(a3:Unit)=>(z1c p0).bind fun r4=>(z0m fuel r4).bind fun r5=>(za8 r5.1).bind fun r6=>some (r6,r5.2.1)) (fun x=>some x)
def z0d (p0:List Update):Option (List Update):=
 need (p0.length≤274877906944)<|some p0
def z2m (p1:Time)(l0:Maker):Option Maker:=
 jn (fun(a1:Bool)=>bf a1 (some (⟨(⟨true,p1⟩:Fault),l0.list⟩:Maker)) (some l0)) fun j2=>bf (!l0.fault.is) (j2 true) ((z42 p1 l0.fault.at_).bind fun r4=>j2 (decide (r4<0)))
def z2k (fuel:Nat)(l0:Maker):Option ((List Update)×Maker):=
 (z0d l0.list).bind fun r1=>(z0b fuel r1).bind fun r2=>need (r2.length=r1.length)<|outK (loopN (S:=(List Update)×(List Update)×Maker) (R:=Empty) (fun(a4:(List Update)×(List Update)×Maker)=>bf (decide (0<(a4.1.length:Int))) (outK (loopN (S:=Int) (R:=Empty) (fun(a6:Int)=>jn (fun(a16:Bool)=>bf a16 (some (.next (zzi.wrap (a6+1)))) (some (.brk a6))) fun j17=>bf (decide (a6<(a4.1.length:Int))) (need ((0:Int)≤0∧0<(a4.1.length:Int))<|need ((0:Int)≤a6∧a6<(a4.1.length:Int))<|(z1y (a4.1.getD 0 zzd) (a4.1.getD a6.toNat zzd)).bind fun r21=>j17 (decide (r21=0))) (j17 false)) fuel 1) (fun(a7:Int)=>need ((0:Int)≤0∧(0:Int)≤a7∧a7≤(a4.1.length:Int))<|(z2w fuel ([(sub a4.1 0 a7)]:List (List Update))).bind fun r9=>jn (fun(a10:Maker)=>need (a4.2.1.length+r9.1.length≤274877906944)<|need ((0:Int)≤a7∧a7≤(a4.1.length:Int)∧(a4.1.length:Int)≤(a4.1.length:Int))<|some (.next ((sub a4.1 a7 (a4.1.length:Int)),(a4.2.1++r9.1),a10))) fun j11=>bf (!decide (r9.2=0)) (need ((0:Int)≤0∧0<(a4.1.length:Int))<|(z2m ((a4.1.getD 0 zzd).time) a4.2.2).bind fun r15=>j11 r15) (j11 a4.2.2)) (fun(x:Empty)=>x.elim)) (some (.brk (a4.1,a4.2.1,a4.2.2)))) fuel (r2,([]:List Update),l0)) (fun(a5:(List Update)×(List Update)×Maker)=>some (a5.2.1,a5.2.2)) (fun(x:Empty)=>x.elim)
def z2o (fuel:Nat)(l0:Maker):Option ((List Update)×Time×Int×Maker):=
 (z2w fuel ([l0.list]:List (List Update))).bind fun r1=>jn (fun(a2:(List Update)×Maker)=>bf (!a2.2.fault.is) (some (a2.1,(⟨0,(0,0)⟩:Time),0,a2.2)) (some (a2.1,a2.2.fault.at_,10,a2.2))) fun j3=>bf (!decide (r1.2=0)) ((z2k fuel l0).bind fun r4=>j3 (r4.1,r4.2)) (j3 (r1.1,l0))
def z2u (fuel:Nat)(p1:List Update):Option ((List Update)×Time×Int):=
 (z51 fuel p1).bind fun r1=>jn (fun(a2:Unit)=>bf (!decide (r1=0)) (some (([]:List Update),(⟨0,(0,0)⟩:Time),r1)) (outK (z0k (S:=Maker) (R:=Empty) (fun i4 (a5:Maker)=>(z4t (p1.getD i4 zzd)).bind fun r8=>jn (fun(a9:Maker)=>(z2t r8.1 a9).bind fun r11=>some (.next r11)) fun j10=>bf (!r8.2) ((z2d ((p1.getD i4 zzd).time) a5.fault).bind fun r12=>j10 (⟨r12,a5.list⟩:Maker)) (j10 a5)) p1.length 0 (⟨(⟨false,(⟨0,(0,0)⟩:Time)⟩:Fault),([]:List Update)⟩:Maker)) (fun(a6:Maker)=>(z2o fuel a6).bind fun r7=>some (r7.1,r7.2.1,r7.2.2.1)) (fun(x:Empty)=>x.elim))) fun j3=>bf (decide (r1=0)) (j3 ()) (j3 ())
def z14 (p0:Update)(p1:Update):Option Int:=
 (z4i p0.key p1.key).bind fun r1=>some r1
def z0q (fuel:Nat)(p1:Int)(p2:Int)(l0:List Update):Option (List Update):=
 outK (loopN (S:=Int×(List Update)) (R:=Empty) (fun(a1:Int×(List Update))=>bf (decide (a1.1<p2)) (outK (loopN (S:=Int×(List Update)) (R:=Empty) (fun(a3:Int×(List Update))=>jn (fun(a5:Bool)=>bf a5 (need ((0:Int)≤(zzi.wrap (a3.1-1))∧(zzi.wrap (a3.1-1))<(a3.2.length:Int))<|need ((0+(zzi.wrap (a3.1-1)).toNat)<a3.2.length)<|need ((0:Int)≤a3.1∧a3.1<(a3.2.length:Int))<|need ((0+a3.1.toNat)<a3.2.length)<|need ((0:Int)≤a3.1∧a3.1<(a3.2.length:Int))<|need ((0+a3.1.toNat)<a3.2.length)<|need ((0:Int)≤(zzi.wrap (a3.1-1))∧(zzi.wrap (a3.1-1))<(a3.2.length:Int))<|need ((0+(zzi.wrap (a3.1-1)).toNat)<(a3.2.set (0+a3.1.toNat) (a3.2.getD (0+(zzi.wrap (a3.1-1)).toNat) zzd)).length)<|some (.next ((zzi.wrap (a3.1-1)),((a3.2.set (0+a3.1.toNat) (a3.2.getD (0+(zzi.wrap (a3.1-1)).toNat) zzd)).set (0+(zzi.wrap (a3.1-1)).toNat) (a3.2.getD (0+a3.1.toNat) zzd))))) (some (.brk (a3.1,a3.2)))) fun j6=>bf (decide (p1<a3.1)) (need ((0:Int)≤a3.1∧a3.1<(a3.2.length:Int))<|need ((0+a3.1.toNat)<a3.2.length)<|need ((0:Int)≤(zzi.wrap (a3.1-1))∧(zzi.wrap (a3.1-1))<(a3.2.length:Int))<|need ((0+(zzi.wrap (a3.1-1)).toNat)<a3.2.length)<|(z14 (a3.2.getD (0+a3.1.toNat) zzd) (a3.2.getD (0+(zzi.wrap (a3.1-1)).toNat) zzd)).bind fun r20=>j6 (decide (r20<0))) (j6 false)) fuel (a1.1,a1.2)) (fun(a4:Int×(List Update))=>some (.next ((zzi.wrap (a1.1+1)),a4.2))) (fun(x:Empty)=>x.elim)) (some (.brk (a1.1,a1.2)))) fuel ((zzi.wrap (p1+1)),l0)) (fun(a2:Int×(List Update))=>some a2.2) (fun(x:Empty)=>x.elim)
def z0v (fuel:Nat)(p1:Int)(p2:Int)(p3:Int)(l0:List Update):Option (List Update):=
 outK (loopN (S:=Int×(List Update)) (R:=Empty) (fun(a1:Int×(List Update))=>bf (decide (a1.1<p3)) (need ((0:Int)≤(zzi.wrap (p2+a1.1))∧(zzi.wrap (p2+a1.1))<(a1.2.length:Int))<|need ((0+(zzi.wrap (p2+a1.1)).toNat)<a1.2.length)<|need ((0:Int)≤(zzi.wrap (p1+a1.1))∧(zzi.wrap (p1+a1.1))<(a1.2.length:Int))<|need ((0+(zzi.wrap (p1+a1.1)).toNat)<a1.2.length)<|need ((0:Int)≤(zzi.wrap (p1+a1.1))∧(zzi.wrap (p1+a1.1))<(a1.2.length:Int))<|need ((0+(zzi.wrap (p1+a1.1)).toNat)<a1.2.length)<|need ((0:Int)≤(zzi.wrap (p2+a1.1))∧(zzi.wrap (p2+a1.1))<(a1.2.length:Int))<|need ((0+(zzi.wrap (p2+a1.1)).toNat)<(a1.2.set (0+(zzi.wrap (p1+a1.1)).toNat) (a1.2.getD (0+(zzi.wrap (p2+a1.1)).toNat) zzd)).length)<|some (.next ((zzi.wrap (a1.1+1)),((a1.2.set (0+(zzi.wrap (p1+a1.1)).toNat) (a1.2.getD (0+(zzi.wrap (p2+a1.1)).toNat) zzd)).set (0+(zzi.wrap (p2+a1.1)).toNat) (a1.2.getD (0+(zzi.wrap (p1+a1.1)).toNat) zzd))))) (some (.brk (a1.1,a1.2)))) fuel (0,l0)) (fun(a2:Int×(List Update))=>some a2.2) (fun(x:Empty)=>x.elim)
def z1d (fuel:Nat)(p1:Int)(p2:Int)(p3:Int)(l0:List Update):Option (List Update):=
 outK (loopN (S:=Int×Int×(List Update)) (R:=Empty) (fun(a1:Int×Int×(List Update))=>bf (!decide (a1.1=a1.2.1)) (bf (decide (a1.2.1<a1.1)) ((z0v fuel (zzi.wrap (p2-a1.1)) p2 a1.2.1 a1.2.2).bind fun r4=>need (r4.length=a1.2.2.length)<|some (.next ((zzi.wrap (a1.1-a1.2.1)),a1.2.1,r4))) ((z0v fuel (zzi.wrap (p2-a1.1)) (zzi.wrap ((zzi.wrap (p2+a1.2.1))-a1.1)) a1.1 a1.2.2).bind fun r6=>need (r6.length=a1.2.2.length)<|some (.next (a1.1,(zzi.wrap (a1.2.1-a1.1)),r6)))) (some (.brk (a1.1,a1.2.1,a1.2.2)))) fuel ((zzi.wrap (p2-p1)),(zzi.wrap (p3-p2)),l0)) (fun(a2:Int×Int×(List Update))=>(z0v fuel (zzi.wrap (p2-a2.1)) p2 a2.1 a2.2.2).bind fun r3=>some r3) (fun(x:Empty)=>x.elim)
def z0e:Nat→Int→Int→Int→(List Update)→Option (List Update)
 |0,_,_,_,_=>none
 |fuel+1,p1,p2,p3,l0=>
 bf (decide ((zzi.wrap (p2-p1))=1)) (outK (loopN (S:=Int×Int) (R:=Empty) (fun(a1:Int×Int)=>bf (decide (a1.1<a1.2)) (need ((0:Int)≤(zzi.wrap (shrOp .u64 (zzu.wrap (zzi.wrap (a1.1+a1.2))) 1))∧(zzi.wrap (shrOp .u64 (zzu.wrap (zzi.wrap (a1.1+a1.2))) 1))<(l0.length:Int))<|need ((0+(zzi.wrap (shrOp .u64 (zzu.wrap (zzi.wrap (a1.1+a1.2))) 1)).toNat)<l0.length)<|need ((0:Int)≤p1∧p1<(l0.length:Int))<|need ((0+p1.toNat)<l0.length)<|(z14 (l0.getD (0+(zzi.wrap (shrOp .u64 (zzu.wrap (zzi.wrap (a1.1+a1.2))) 1)).toNat) zzd) (l0.getD (0+p1.toNat) zzd)).bind fun r17=>bf (decide (r17<0)) (some (.next ((zzi.wrap ((zzi.wrap (shrOp .u64 (zzu.wrap (zzi.wrap (a1.1+a1.2))) 1))+1)),a1.2))) (some (.next (a1.1,(zzi.wrap (shrOp .u64 (zzu.wrap (zzi.wrap (a1.1+a1.2))) 1)))))) (some (.brk (a1.1,a1.2)))) fuel (p2,p3)) (fun(a2:Int×Int)=>outK (loopN (S:=Int×(List Update)) (R:=Empty) (fun(a3:Int×(List Update))=>bf (decide (a3.1<(zzi.wrap (a2.1-1)))) (need ((0:Int)≤(zzi.wrap (a3.1+1))∧(zzi.wrap (a3.1+1))<(a3.2.length:Int))<|need ((0+(zzi.wrap (a3.1+1)).toNat)<a3.2.length)<|need ((0:Int)≤a3.1∧a3.1<(a3.2.length:Int))<|need ((0+a3.1.toNat)<a3.2.length)<|need ((0:Int)≤a3.1∧a3.1<(a3.2.length:Int))<|need ((0+a3.1.toNat)<a3.2.length)<|need ((0:Int)≤(zzi.wrap (a3.1+1))∧(zzi.wrap (a3.1+1))<(a3.2.length:Int))<|need ((0+(zzi.wrap (a3.1+1)).toNat)<(a3.2.set (0+a3.1.toNat) (a3.2.getD (0+(zzi.wrap (a3.1+1)).toNat) zzd)).length)<|some (.next ((zzi.wrap (a3.1+1)),((a3.2.set (0+a3.1.toNat) (a3.2.getD (0+(zzi.wrap (a3.1+1)).toNat) zzd)).set (0+(zzi.wrap (a3.1+1)).toNat) (a3.2.getD (0+a3.1.toNat) zzd))))) (some (.brk (a3.1,a3.2)))) fuel (p1,l0)) (fun(a4:Int×(List Update))=>some a4.2) (fun(x:Empty)=>x.elim)) (fun(x:Empty)=>x.elim)) (bf (decide ((zzi.wrap (p3-p2))=1)) (outK (loopN (S:=Int×Int) (R:=Empty) (fun(a18:Int×Int)=>bf (decide (a18.1<a18.2)) (need ((0:Int)≤p2∧p2<(l0.length:Int))<|need ((0+p2.toNat)<l0.length)<|need ((0:Int)≤(zzi.wrap (shrOp .u64 (zzu.wrap (zzi.wrap (a18.1+a18.2))) 1))∧(zzi.wrap (shrOp .u64 (zzu.wrap (zzi.wrap (a18.1+a18.2))) 1))<(l0.length:Int))<|need ((0+(zzi.wrap (shrOp .u64 (zzu.wrap (zzi.wrap (a18.1+a18.2))) 1)).toNat)<l0.length)<|(z14 (l0.getD (0+p2.toNat) zzd) (l0.getD (0+(zzi.wrap (shrOp .u64 (zzu.wrap (zzi.wrap (a18.1+a18.2))) 1)).toNat) zzd)).bind fun r34=>bf (!(decide (r34<0))) (some (.next ((zzi.wrap ((zzi.wrap (shrOp .u64 (zzu.wrap (zzi.wrap (a18.1+a18.2))) 1))+1)),a18.2))) (some (.next (a18.1,(zzi.wrap (shrOp .u64 (zzu.wrap (zzi.wrap (a18.1+a18.2))) 1)))))) (some (.brk (a18.1,a18.2)))) fuel (p1,p2)) (fun(a19:Int×Int)=>outK (loopN (S:=Int×(List Update)) (R:=Empty) (fun(a20:Int×(List Update))=>bf (decide (a19.1<a20.1)) (need ((0:Int)≤(zzi.wrap (a20.1-1))∧(zzi.wrap (a20.1-1))<(a20.2.length:Int))<|need ((0+(zzi.wrap (a20.1-1)).toNat)<a20.2.length)<|need ((0:Int)≤a20.1∧a20.1<(a20.2.length:Int))<|need ((0+a20.1.toNat)<a20.2.length)<|need ((0:Int)≤a20.1∧a20.1<(a20.2.length:Int))<|need ((0+a20.1.toNat)<a20.2.length)<|need ((0:Int)≤(zzi.wrap (a20.1-1))∧(zzi.wrap (a20.1-1))<(a20.2.length:Int))<|need ((0+(zzi.wrap (a20.1-1)).toNat)<(a20.2.set (0+a20.1.toNat) (a20.2.getD (0+(zzi.wrap (a20.1-1)).toNat) zzd)).length)<|some (.next ((zzi.wrap (a20.1-1)),((a20.2.set (0+a20.1.toNat) (a20.2.getD (0+(zzi.wrap (a20.1-1)).toNat) zzd)).set (0+(zzi.wrap (a20.1-1)).toNat) (a20.2.getD (0+a20.1.toNat) zzd))))) (some (.brk (a20.1,a20.2)))) fuel (p2,l0)) (fun(a21:Int×(List Update))=>some a21.2) (fun(x:Empty)=>x.elim)) (fun(x:Empty)=>x.elim)) (jn (fun(a35:Int×Int×Int×Int)=>outK (loopN (S:=Int×Int) (R:=Empty) (fun(a37:Int×Int)=>bf (decide (a37.1<a37.2)) (need ((0:Int)≤(zzi.wrap ((zzi.wrap (a35.2.1-1))-(zzi.wrap (shrOp .u64 (zzu.wrap (zzi.wrap (a37.1+a37.2))) 1))))∧(zzi.wrap ((zzi.wrap (a35.2.1-1))-(zzi.wrap (shrOp .u64 (zzu.wrap (zzi.wrap (a37.1+a37.2))) 1))))<(l0.length:Int))<|need ((0+(zzi.wrap ((zzi.wrap (a35.2.1-1))-(zzi.wrap (shrOp .u64 (zzu.wrap (zzi.wrap (a37.1+a37.2))) 1)))).toNat)<l0.length)<|need ((0:Int)≤(zzi.wrap (shrOp .u64 (zzu.wrap (zzi.wrap (a37.1+a37.2))) 1))∧(zzi.wrap (shrOp .u64 (zzu.wrap (zzi.wrap (a37.1+a37.2))) 1))<(l0.length:Int))<|need ((0+(zzi.wrap (shrOp .u64 (zzu.wrap (zzi.wrap (a37.1+a37.2))) 1)).toNat)<l0.length)<|(z14 (l0.getD (0+(zzi.wrap ((zzi.wrap (a35.2.1-1))-(zzi.wrap (shrOp .u64 (zzu.wrap (zzi.wrap (a37.1+a37.2))) 1)))).toNat) zzd) (l0.getD (0+(zzi.wrap (shrOp .u64 (zzu.wrap (zzi.wrap (a37.1+a37.2))) 1)).toNat) zzd)).bind fun r58=>bf (!(decide (r58<0))) (some (.next ((zzi.wrap ((zzi.wrap (shrOp .u64 (zzu.wrap (zzi.wrap (a37.1+a37.2))) 1))+1)),a37.2))) (some (.next (a37.1,(zzi.wrap (shrOp .u64 (zzu.wrap (zzi.wrap (a37.1+a37.2))) 1)))))) (some (.brk (a37.1,a37.2)))) fuel (a35.2.2.1,a35.2.2.2)) (fun(a38:Int×Int)=>jn (fun(a39:Int×(List Update))=>jn (fun(a41:List Update)=>jn (fun(a43:Bool)=>bf a43 ((z0e fuel a35.1 a39.1 p3 a41).bind fun r45=>some r45) (some a41)) fun j44=>bf (decide (a35.1<a39.1)) (j44 (decide (a39.1<p3))) (j44 false)) fun j42=>jn (fun(a46:Bool)=>bf a46 ((z0e fuel p1 a38.1 a35.1 a39.2).bind fun r48=>need (r48.length=a39.2.length)<|j42 r48) (j42 a39.2)) fun j47=>bf (decide (p1<a38.1)) (j47 (decide (a38.1<a35.1))) (j47 false)) fun j40=>jn (fun(a50:Int×Bool)=>bf a50.2 ((z1d fuel a38.1 p2 a50.1 l0).bind fun r52=>need (r52.length=l0.length)<|j40 (a50.1,r52)) (j40 (a50.1,l0))) fun j51=>bf (decide (a38.1<p2)) (j51 ((zzi.wrap (a35.2.1-a38.1)),(decide (p2<(zzi.wrap (a35.2.1-a38.1)))))) (j51 ((zzi.wrap (a35.2.1-a38.1)),false))) (fun(x:Empty)=>x.elim)) fun j36=>bf (decide ((zzi.wrap (shrOp .u64 (zzu.wrap (zzi.wrap (p1+p3))) 1))<p2)) (j36 ((zzi.wrap (shrOp .u64 (zzu.wrap (zzi.wrap (p1+p3))) 1)),(zzi.wrap ((zzi.wrap (shrOp .u64 (zzu.wrap (zzi.wrap (p1+p3))) 1))+p2)),(zzi.wrap ((zzi.wrap ((zzi.wrap (shrOp .u64 (zzu.wrap (zzi.wrap (p1+p3))) 1))+p2))-p3)),(zzi.wrap (shrOp .u64 (zzu.wrap (zzi.wrap (p1+p3))) 1)))) (j36 ((zzi.wrap (shrOp .u64 (zzu.wrap (zzi.wrap (p1+p3))) 1)),(zzi.wrap ((zzi.wrap (shrOp .u64 (zzu.wrap (zzi.wrap (p1+p3))) 1))+p2)),p1,p2))))
def z10 (fuel:Nat)(p1:Int)(l0:List Update):Option (List Update):=
 outK (loopN (S:=Int×Int×(List Update)) (R:=Empty) (fun(a1:Int×Int×(List Update))=>bf (decide (a1.2.1≤p1)) ((z0q fuel a1.1 a1.2.1 a1.2.2).bind fun r15=>need (r15.length=a1.2.2.length)<|some (.next (a1.2.1,(zzi.wrap (a1.2.1+20)),r15))) (some (.brk (a1.1,a1.2.1,a1.2.2)))) fuel (0,20,l0)) (fun(a2:Int×Int×(List Update))=>(z0q fuel a2.1 p1 a2.2.2).bind fun r3=>need (r3.length=a2.2.2.length)<|outK (loopN (S:=Int×(List Update)) (R:=Empty) (fun(a5:Int×(List Update))=>bf (decide (a5.1<p1)) (outK (loopN (S:=Int×Int×(List Update)) (R:=Empty) (fun(a7:Int×Int×(List Update))=>bf (decide (a7.2.1≤p1)) ((z0e fuel a7.1 (zzi.wrap (a7.1+a5.1)) a7.2.1 a7.2.2).bind fun r13=>need (r13.length=a7.2.2.length)<|some (.next (a7.2.1,(zzi.wrap (a7.2.1+(zzi.wrap ((2:Int)*a5.1)))),r13))) (some (.brk (a7.1,a7.2.1,a7.2.2)))) fuel (0,(zzi.wrap ((2:Int)*a5.1)),a5.2)) (fun(a8:Int×Int×(List Update))=>jn (fun(a9:List Update)=>some (.next ((zzi.wrap (a5.1*2)),a9))) fun j10=>bf (decide ((zzi.wrap (a8.1+a5.1))<p1)) ((z0e fuel a8.1 (zzi.wrap (a8.1+a5.1)) p1 a8.2.2).bind fun r11=>need (r11.length=a8.2.2.length)<|j10 r11) (j10 a8.2.2)) (fun(x:Empty)=>x.elim)) (some (.brk (a5.1,a5.2)))) fuel (20,r3)) (fun(a6:Int×(List Update))=>some a6.2) (fun(x:Empty)=>x.elim)) (fun(x:Empty)=>x.elim)
def z0f (fuel:Nat)(l0:List Update):Option (List Update):=
 (z10 fuel (l0.length:Int) l0).bind fun r1=>some r1
def z2z (p0:Update)(p1:List Value):Option Int:=
 (z4i p0.key p1).bind fun r1=>some r1
def z0c (fuel:Nat)(p0:List Update)(p1:List Value):Option (Int×Bool):=
 outK (loopN (S:=Int×Int) (R:=Empty) (fun(a1:Int×Int)=>bf (decide (a1.1<a1.2)) (need ((0:Int)≤(zzi.wrap (shrOp .u64 (zzu.wrap (zzi.wrap (a1.1+a1.2))) 1))∧(zzi.wrap (shrOp .u64 (zzu.wrap (zzi.wrap (a1.1+a1.2))) 1))<(p0.length:Int))<|(z2z (p0.getD ((zzi.wrap (shrOp .u64 (zzu.wrap (zzi.wrap (a1.1+a1.2))) 1)).toNat) zzd) p1).bind fun r8=>bf (decide (r8<0)) (some (.next ((zzi.wrap ((zzi.wrap (shrOp .u64 (zzu.wrap (zzi.wrap (a1.1+a1.2))) 1))+1)),a1.2))) (some (.next (a1.1,(zzi.wrap (shrOp .u64 (zzu.wrap (zzi.wrap (a1.1+a1.2))) 1)))))) (some (.brk (a1.1,a1.2)))) fuel (0,(p0.length:Int))) (fun(a2:Int×Int)=>jn (fun(a3:Bool)=>some (a2.1,a3)) fun j4=>bf (decide (a2.1<(p0.length:Int))) (need ((0:Int)≤a2.1∧a2.1<(p0.length:Int))<|(z2z (p0.getD a2.1.toNat zzd) p1).bind fun r6=>j4 (decide (r6=0))) (j4 false)) (fun(x:Empty)=>x.elim)
def z59 (p0:Int)(p1:Int):Option Int:=
 some (if p0<p1 then p1 else p0)
def z43 (p1:List Time):Option Time:=
 outK (z0k (S:=Time) (R:=Empty) (fun i1 (a2:Time)=>jn (fun(a4:Time)=>(z59 a4.epoch ((p1.getD i1 zzd).epoch)).bind fun r6=>outK (z0k (S:=Time) (R:=Empty) (fun i7 (a8:Time)=>(match i7 with|0=>(z59 a8.loop.1 ((p1.getD i1 zzd).loop.1)).bind fun r10=>some (.next (⟨a8.epoch,(r10,a8.loop.2)⟩:Time))|_=>(z59 a8.loop.2 ((p1.getD i1 zzd).loop.2)).bind fun r11=>some (.next (⟨a8.epoch,(a8.loop.1,r11)⟩:Time)))) 2 0 (⟨r6,a4.loop⟩:Time)) (fun(a9:Time)=>some (.next a9)) (fun(x:Empty)=>x.elim)) fun j5=>bf (decide (((i1:Nat):Int)=0)) (j5 (p1.getD i1 zzd)) (j5 a2)) p1.length 0 (⟨0,(0,0)⟩:Time)) (fun(a3:Time)=>some a3) (fun(x:Empty)=>x.elim)
def z8r (p0:List Time):Option Time:=
 (z43 p0).bind fun r1=>some r1
def z16 (p1:Int):Option (List Value):=
 bf (decide (p1<0)) (none) (jn (fun(a1:List Value)=>some a1) fun j2=>bf (decide (0<(zzi.wrap (p1-(zzi.wrap ((0:Int)-0)))))) (need ((0:Int)<(zzi.wrap (p1-(zzi.wrap ((0:Int)-0))))∧(zzi.wrap (p1-(zzi.wrap ((0:Int)-0))))≤(lim:Int))<|need ((0:Int)≤0∧(0:Int)≤0∧(0:Int)≤((zz9 ((zzi.wrap (p1-(zzi.wrap ((0:Int)-0)))).toNat) ((⟨false,0,(bs [])⟩:Value):Value)).length:Int))<|j2 ((zz9 ((zzi.wrap (p1-(zzi.wrap ((0:Int)-0)))).toNat) ((⟨false,0,(bs [])⟩:Value):Value)).take 0)) (j2 ([]:List Value)))
def z12 (p0:List (List Value)):Option (List Value):=
 outK (z0k (S:=Int) (R:=Empty) (fun i1 (a2:Int)=>bf (decide ((zzi.wrap (a2+((p0.getD i1 zzd).length:Int)))<0)) (none) (some (.next (zzi.wrap (a2+((p0.getD i1 zzd).length:Int)))))) p0.length 0 0) (fun(a3:Int)=>(z16 a3).bind fun r4=>outK (z0k (S:=List Value) (R:=Empty) (fun i5 (a6:List Value)=>need (a6.length+(p0.getD i5 zzd).length≤274877906944)<|some (.next (a6++(p0.getD i5 zzd)))) p0.length 0 r4) (fun(a7:List Value)=>some a7) (fun(x:Empty)=>x.elim)) (fun(x:Empty)=>x.elim)
def z7m (p0:List (List Value)):Option ((List Value)×Int):=
 outK (z0k (S:=Unit) (R:=(List Value)×Int) (fun i1 (a2:Unit)=>(z5m (p0.getD i1 zzd)).bind fun r5=>bf (!decide (r5=0)) (some (.ret (([]:List Value),r5))) (some (.next ()))) p0.length 0 ()) (fun(a3:Unit)=>(z12 p0).bind fun r4=>bf (decide (8<(r4.length:Int))) (some (([]:List Value),2)) (some (r4,0))) (fun x=>some x)
def z3n (p1:List Update)(l0:JoinMaker):Option JoinMaker:=
 need (l0.maker.list.length+p1.length≤274877906944)<|some (⟨(⟨l0.maker.fault,(l0.maker.list++p1)⟩:Maker)⟩:JoinMaker)
def z2j (p1:Update)(p2:Update)(l0:JoinMaker):Option JoinMaker:=
 (z8r ([p1.time,p2.time]:List Time)).bind fun r1=>(z7m ([p1.row,p2.row]:List (List Value))).bind fun r2=>(z7j p1.diff p2.diff).bind fun r3=>(z49 ([r2.2,r3.2]:List Int)).bind fun r4=>bf (!decide (r4=0)) ((z2d r1 l0.maker.fault).bind fun r5=>some (⟨(⟨r5,l0.maker.list⟩:Maker)⟩:JoinMaker)) ((z3n ([(⟨([]:List Value),r2.1,r1,r3.1⟩:Update)]:List Update) l0).bind fun r6=>some r6)
def z1q (fuel:Nat)(p1:List Update)(p2:List Update)(l0:JoinMaker):Option JoinMaker:=
 (z0d p2).bind fun r1=>(z0f fuel r1).bind fun r2=>need (r2.length=r1.length)<|outK (z0k (S:=JoinMaker) (R:=Empty) (fun i4 (a5:JoinMaker)=>(z0c fuel r2 ((p1.getD i4 zzd).key)).bind fun r7=>need ((0:Int)≤r7.1∧r7.1≤(r2.length:Int)∧(r2.length:Int)≤(r2.length:Int))<|outK (loopN (S:=Int×JoinMaker) (R:=Int×JoinMaker) (fun(a9:Int×JoinMaker)=>bf (decide (a9.1<(((r2.length:Int).toNat-r7.1.toNat:Nat):Int))) (need ((0:Int)≤a9.1∧a9.1<(((r2.length:Int).toNat-r7.1.toNat:Nat):Int))<|need (((0+r7.1.toNat)+a9.1.toNat)<r2.length)<|(z4i ((p1.getD i4 zzd).key) ((r2.getD ((0+r7.1.toNat)+a9.1.toNat) zzd).key)).bind fun r14=>bf (!decide (r14=0)) (some (.ret (a9.1,a9.2))) ((z2j (p1.getD i4 zzd) (r2.getD ((0+r7.1.toNat)+a9.1.toNat) zzd) a9.2).bind fun r15=>some (.next ((zzi.wrap (a9.1+1)),r15)))) (some (.brk (a9.1,a9.2)))) fuel (0,a5)) (fun(a11:Int×JoinMaker)=>some (.next a11.2)) (fun(x10:Int×JoinMaker)=>some (.next x10.2))) p1.length 0 l0) (fun(a6:JoinMaker)=>some a6) (fun(x:Empty)=>x.elim)
def z2n (p1:Time)(l0:JoinMaker):Option JoinMaker:=
 jn (fun(a1:Bool)=>bf a1 (some (⟨(⟨(⟨true,p1⟩:Fault),l0.maker.list⟩:Maker)⟩:JoinMaker)) (some l0)) fun j2=>bf (!l0.maker.fault.is) (j2 true) ((z42 p1 l0.maker.fault.at_).bind fun r4=>j2 (decide (r4<0)))
def z2g (fuel:Nat)(l0:JoinMaker):Option ((List Update)×JoinMaker):=
 (z0d l0.maker.list).bind fun r1=>(z0b fuel r1).bind fun r2=>need (r2.length=r1.length)<|outK (loopN (S:=(List Update)×(List Update)×JoinMaker) (R:=Empty) (fun(a4:(List Update)×(List Update)×JoinMaker)=>bf (decide (0<(a4.1.length:Int))) (outK (loopN (S:=Int) (R:=Empty) (fun(a6:Int)=>jn (fun(a16:Bool)=>bf a16 (some (.next (zzi.wrap (a6+1)))) (some (.brk a6))) fun j17=>bf (decide (a6<(a4.1.length:Int))) (need ((0:Int)≤0∧0<(a4.1.length:Int))<|need ((0:Int)≤a6∧a6<(a4.1.length:Int))<|(z1y (a4.1.getD 0 zzd) (a4.1.getD a6.toNat zzd)).bind fun r21=>j17 (decide (r21=0))) (j17 false)) fuel 1) (fun(a7:Int)=>need ((0:Int)≤0∧(0:Int)≤a7∧a7≤(a4.1.length:Int))<|(z2w fuel ([(sub a4.1 0 a7)]:List (List Update))).bind fun r9=>jn (fun(a10:JoinMaker)=>need (a4.2.1.length+r9.1.length≤274877906944)<|need ((0:Int)≤a7∧a7≤(a4.1.length:Int)∧(a4.1.length:Int)≤(a4.1.length:Int))<|some (.next ((sub a4.1 a7 (a4.1.length:Int)),(a4.2.1++r9.1),a10))) fun j11=>bf (!decide (r9.2=0)) (need ((0:Int)≤0∧0<(a4.1.length:Int))<|(z2n ((a4.1.getD 0 zzd).time) a4.2.2).bind fun r15=>j11 r15) (j11 a4.2.2)) (fun(x:Empty)=>x.elim)) (some (.brk (a4.1,a4.2.1,a4.2.2)))) fuel (r2,([]:List Update),l0)) (fun(a5:(List Update)×(List Update)×JoinMaker)=>some (a5.2.1,a5.2.2)) (fun(x:Empty)=>x.elim)
def z28 (fuel:Nat)(l0:JoinMaker):Option ((List Update)×Time×Int×JoinMaker):=
 (z2w fuel ([l0.maker.list]:List (List Update))).bind fun r1=>jn (fun(a2:(List Update)×JoinMaker)=>bf (!a2.2.maker.fault.is) (some (a2.1,(⟨0,(0,0)⟩:Time),0,a2.2)) (some (a2.1,a2.2.maker.fault.at_,10,a2.2))) fun j3=>bf (!decide (r1.2=0)) ((z2g fuel l0).bind fun r4=>j3 (r4.1,r4.2)) (j3 (r1.1,l0))
def z6d (fuel:Nat)(p0:List Update)(p1:List Update):Option ((List Update)×Time×Int):=
 (z51 fuel p0).bind fun r1=>(z51 fuel p1).bind fun r2=>(z49 ([r1,r2]:List Int)).bind fun r3=>bf (!decide (r3=0)) (some (([]:List Update),(⟨0,(0,0)⟩:Time),r3)) ((z1q fuel p0 p1 (⟨(⟨(⟨false,(⟨0,(0,0)⟩:Time)⟩:Fault),([]:List Update)⟩:Maker)⟩:JoinMaker)).bind fun r4=>(z28 fuel r4).bind fun r5=>some (r5.1,r5.2.1,r5.2.2.1))
def z56 (fuel:Nat)(p0:List Update)(p1:List Update):Option Bool:=
 (z5e fuel).bind fun r1=>bf (!r1) (some false) (outK (z0k (S:=List Update) (R:=Empty) (fun i2 (a3:List Update)=>need (a3.length+([(⟨([]:List Value),(p1.getD i2 zzd).row,(p1.getD i2 zzd).time,(p1.getD i2 zzd).diff⟩:Update)]:List Update).length≤274877906944)<|some (.next (a3++([(⟨([]:List Value),(p1.getD i2 zzd).row,(p1.getD i2 zzd).time,(p1.getD i2 zzd).diff⟩:Update)]:List Update)))) p1.length 0 ([]:List Update)) (fun(a4:List Update)=>outK (z0k (S:=List Update) (R:=Empty) (fun i5 (a6:List Update)=>need (a6.length+([(⟨([]:List Value),(p0.getD i5 zzd).row,(p0.getD i5 zzd).time,(p0.getD i5 zzd).diff⟩:Update)]:List Update).length≤274877906944)<|some (.next (a6++([(⟨([]:List Value),(p0.getD i5 zzd).row,(p0.getD i5 zzd).time,(p0.getD i5 zzd).diff⟩:Update)]:List Update)))) p0.length 0 ([]:List Update)) (fun(a7:List Update)=>(z2u fuel a4).bind fun r8=>(z6d fuel a7 r8.1).bind fun r9=>(z6d fuel a7 a4).bind fun r10=>(z2u fuel r10.1).bind fun r11=>jn (fun(a12:Bool)=>bf a12 (some true) (bf (!decide ((r9.1.length:Int)=(r11.1.length:Int))) (some false) (outK (z0k (S:=Unit) (R:=Bool) (fun i14 (a15:Unit)=>jn (fun(a17:Bool)=>bf a17 (some (.ret false)) (some (.next ()))) fun j18=>need ((0:Int)≤((i14:Nat):Int)∧((i14:Nat):Int)<(r11.1.length:Int))<|(z1y (r9.1.getD i14 zzd) (r11.1.getD i14 zzd)).bind fun r20=>bf (!decide (r20=0)) (j18 true) (need ((0:Int)≤((i14:Nat):Int)∧((i14:Nat):Int)<(r11.1.length:Int))<|j18 (!decide ((r9.1.getD i14 zzd).diff=(r11.1.getD i14 zzd).diff)))) r9.1.length 0 ()) (fun(a16:Unit)=>some true) (fun x=>some x)))) fun j13=>bf (!decide (r8.2.2=0)) (j13 true) (bf (!decide (r9.2.2=0)) (j13 true) (bf (!decide (r10.2.2=0)) (j13 true) (j13 (!decide (r11.2.2=0)))))) (fun(x:Empty)=>x.elim)) (fun(x:Empty)=>x.elim))
end Go.Av
/-
 Av,part Y15:maps that are written out once,and looked up.
-/
namespace Go.Av
open Go
section
variable {E:Env} {s:St} {G:Nat→Prop} {φ:Nat→Option Loc} {a:Act} {w:World}
theorem Sim.allocG (h:Sim E s G φ a w)(o:Obj):Sim E s (fun b=>G b∨b=w.heap.size) φ a (w.alloc o):=by
 have hb: ∀b,b<w.heap.size→(w.alloc o).heap[b]?=w.heap[b]?:=fun b hb=>by
  show(w.heap.push o)[b]?=_;rw[Array.getElem?_push,if_neg (by omega)]
 have hz:(w.alloc o).heap.size=w.heap.size+1:=by simp
 obtain⟨sg,sv⟩:=h.same_of_lt hb;exact
 {h with
  tm:=fun t x hx=>by
   obtain⟨v,hv,hr⟩:=h.tm t x hx;exact⟨v,hv,hr.mono fun c hc v hr=>hr.mono sg sv (fun _ h=> .inl h) fun _ _=>rfl⟩
  sl:=fun k' c' hc'=>(h.sl k' c' hc').mono sg sv (fun _ h=> .inl h) rfl (fun _ _=>rfl) fun l' hl'=>hb _ (h.own k' c' l' hc' hl').2.2.1
  own:=fun k' c' l' h1 h2=>by
   obtain⟨x1,x2,x3,x4⟩:=h.own _ _ _ h1 h2;refine⟨?_,x2,by omega,x4⟩;rintro(g|g)
   ·exact x1 g
   ·omega
  gsz:=fun b hb=>by
   rcases hb with g|g
   ·have:=h.gsz b g;omega
   ·omega
  g0:=fun b hb=> .inl (h.g0 b hb)
  gf:=fun b hb=>by
   rcases hb with g|g
   ·exact h.gf b g
   ·subst g;exact .inr h.kp.size
  kp:=h.kp.trans ⟨rfl,⟨rfl,zze _⟩,rfl,by omega,fun b hb' _=>hb b (Nat.lt_of_lt_of_le hb' h.kp.size)⟩}
def mapEs:List (Go.Value×Go.Value)→Array MapEntry→Array MapEntry
 |[],es=>es
 |(k,v)::r,es=>mapEs r (es.push ⟨k,v,es.size⟩)
inductive InsOps (t:TypeId) (d:Nat) (kind:TypeDesc):List Oper→List (Go.Value×Go.Value)→Array MapEntry→Prop
 |nil (es:Array MapEntry):InsOps t d kind [] [] es
 |cons {o:Oper} {os:List Oper} {k v:Go.Value} {r:List (Go.Value×Go.Value)} {es:Array MapEntry} (h1:o.op= .insert t (.tmp d) (.const k) (.const v)) (h2:o.guard=none) (h3:o.dst=none) (h4:MapKept.IsKey kind k)
  (h5:Instr.findNow kind k es.toList 0=some none) (h:InsOps t d kind os r (es.push ⟨k,v,es.size⟩)):InsOps t d kind (o::os) ((k,v)::r) es
theorem zm3 (w:World)(x y:Obj):({w.alloc x with heap:=(w.alloc x).heap.setIfInBounds w.heap.size y}:World)=w.alloc y:=by
 have:(w.heap.push x).setIfInBounds w.heap.size y=w.heap.push y:=by
  apply Array.ext';simp
 show({w with heap:=(w.heap.push x).setIfInBounds w.heap.size y}:World)={w with heap:=w.heap.push y};rw[this]
theorem zml {P:Program}{t kt et:TypeId}{kind:TypeDesc}(hu:P.underlying t=some (.map kt et))(hk:P.underlying kt=some kind){k v:Go.Value}{es:Array MapEntry}(hi:MapKept.IsKey kind k)(hf:Instr.findNow kind k es.toList 0=some none)(c:Nat):
 (Instr.mapUpdate t (.map (some w.heap.size)) k v).run P (w.alloc (.map es c))= .ok () (w.alloc (.map (es.push ⟨k,v,c⟩) (c+1))):=by
 have hb:(w.alloc (.map es c)).heap[w.heap.size]?=some (.map es c):=by
  show(w.heap.push _)[w.heap.size]?=_;simp
 have hc:(Instr.checkKey false 10000 kt k).run P (w.alloc (.map es c))= .ok () (w.alloc (.map es c)):=MapKept.run_checkKey hk hi false 9999;have hs:=MapKept.run_setObj_map (P:=P) (.map (es.push ⟨k,v,c⟩) (c+1)) hb
 rw[zm3]at hs;simp only[Instr.mapUpdate,zz5,run_underlying hu,zz1,MapKept.run_getObj_map hb,hc,Instr.findKey,run_underlying hk,hf,zza];exact hs
theorem znc {ops:Array Oper}{Q:Exit→Act→World→Prop}{t kt et:TypeId}{kind:TypeDesc}{d:Nat}(hu:E.P.underlying t=some (.map kt et))(hk:E.P.underlying kt=some kind){rest:List Oper}:
 ∀{os:List Oper} {r:List (Go.Value×Go.Value)} {es:Array MapEntry},InsOps t d kind os r es→a.eval (.tmp d)= .map (some w.heap.size)→
  wpList E.P ops Q rest a (w.alloc (.map (mapEs r es) (mapEs r es).size))→wpList E.P ops Q (os++rest) a (w.alloc (.map es es.size)):=by
 intro os r es hI ha;induction hI with
 |nil=>exact id
 | @cons o os k v r es h1 h2 h3 h4 h5 _ ih=>
  intro h;have ih:=ih h
  rw[Array.size_push]at ih;have hw:Region.wanted o (yielded ops a.tmps)=true:=by unfold Region.wanted;rw[h2]
  rw[List.cons_append];unfold wpList;rw[if_pos hw];refine .inl ?_;unfold Oper.wp;have he:execOp a.eval o=(do Instr.mapUpdate t (a.eval (.tmp d)) k v;pure .skip:Sem Next):=by unfold execOp;rw[h1];rfl
  rw[he,ha];simp only[zz5,zml hu hk h4 h5,zz1,zza,Oper.upon,h3];exact ih
theorem zkr {P:Program}(t:TypeId)(w:World):(Instr.makeMap t none).run P w= .ok (.map (some w.heap.size)) (w.alloc (.map #[] 0)):=rfl
theorem zg2 {L:List Oper}{i:Nat}{K:St→Prop}(n:Nat){oM:Oper}{t kt et:TypeId}{kind:TypeDesc}{d:Nat}(r:List (Go.Value×Go.Value))(hL:L[i]?=some oM)
 (hop:oM.op= .makeMap t none) (hg:oM.guard=none) (hd:oM.dst=some d) (hlt:Nat.blt d E.N=true) (hu:E.P.underlying t=some (.map kt et)) (hk:E.P.underlying kt=some kind) (hI:InsOps t d kind ((L.drop (i+1)).take n) r #[])
 (h:At E L (i+1+n) (s.put d (.c (.d (.mp (mapEs r #[]) (mapEs r #[]).size)))) K):At E L i s K:=by
 unfold At at h ⊢;obtain⟨hil,he⟩:=List.getElem?_eq_some_iff.1 hL;rw[List.drop_eq_getElem_cons hil,he,←List.take_append_drop n (L.drop (i+1)),List.drop_drop];generalize (L.drop (i+1)).take n=os at hI;generalize hr:L.drop (i+1+n)=rest at h;intro a w ⟨G,φ,hs⟩ Q hQ;have hN:=zzk.mp hlt
 have hw:Region.wanted oM (yielded L.toArray a.tmps)=true:=by unfold Region.wanted;rw[hg]
 show wpList E.P L.toArray Q (oM::(os++rest)) a w;unfold wpList;rw[if_pos hw];refine .inl ?_;unfold Oper.wp;have he:execOp a.eval oM=(do pure (.value (←Instr.makeMap t none)):Sem Next):=by unfold execOp;rw[hop];rfl
 rw[he];simp only[zz5,zkr,zz1,zza,Oper.upon,hd];have ha:(a.put (some d) (.map (some w.heap.size))).eval (.tmp d)= .map (some w.heap.size):=by
  simp[Act.put,Act.eval,hs.sz,hN]
 refine znc (w:=w) hu hk hI ha (h _ _ ⟨_,φ,(hs.allocG (.map (mapEs r #[]) (mapEs r #[]).size)).put hN (z0h ?_ rfl)⟩ Q hQ);exact .mp _ _ _ (.inr rfl) (by show(w.heap.push _)[w.heap.size]?=_;simp)
def lookB (kind:TypeDesc)(k:Go.Value)(es:Array MapEntry):Option Bool:=
 match Instr.findNow kind k es.toList 0 with
 |some (some (_,.bool b))=>some b
 |_=>none
theorem One.lookB {ops:Array Oper}{o:Oper}{t kt et:TypeId}{kk:IntKind}{m x:Operand}{es:Array MapEntry}{c d:Nat}{n:Int}{b:Bool}
 (hop:o.op= .lookup t m x false) (hw:z0o ops s o=some true) (hd:o.dst=some d) (hlt:Nat.blt d E.N=true) (hu:E.P.underlying t=some (.map kt et)) (hk:E.P.underlying kt=some (.int kk))
 (hm:evO s m=some (.c (.d (.mp es c)))) (hx:evO s x=some (.c (.d (.int kk n)))) (hb:Av.lookB (.int kk) (.int kk n) es=some b):
 One E ops o s (s.put d (.c (.d (.bool b)))):=fun a w hs=>by
 obtain⟨G,φ,h⟩:=hs;refine⟨z1o h hw,fun next Q hn=>?_⟩;have hv:=h.ev hm
 obtain⟨hr,_⟩:=z4o hv (by simp);have hr:RelD G w (.mp es c) (a.eval m):=hr
 generalize hmv:a.eval m=mv at hr;cases hr with
 |mp _ _ B hG hB=>
 unfold Oper.wp;have he:execOp a.eval o=(do pure (.value (←Instr.lookup t (a.eval m) (a.eval x) false)):Sem Next):=by unfold execOp;rw[hop]
 have hc:(Instr.checkKey es.isEmpty 10000 kt (.int kk n)).run E.P w= .ok () w:=MapKept.run_checkKey hk (by simp[MapKept.IsKey]) es.isEmpty 9999;have hl:(Instr.lookup t (.map (some B)) (.int kk n) false).run E.P w= .ok (.bool b) w:=by
  unfold Av.lookB at hb;simp only[Instr.lookup,zz5,run_underlying hu,zz1,MapKept.run_getObj_map hB,zza,hc,Instr.findKey,run_underlying hk];cases hf:Instr.findNow (.int kk) (.int kk n) es.toList 0 with
  |none=>rw[hf]at hb;cases hb
  |some q=>
   rw[hf]at hb;cases q with
   |none=>cases hb
   |some p=>
    obtain⟨i,v⟩:=p;cases v<;>simp at hb;subst hb;simp
 rw[he,hmv,z3o (h.ev hx)];simp only[zz5,hl,zz1,zza,Oper.upon,hd];exact hn _ _ ⟨G,φ,h.put (zzk.mp hlt) (z0h (.bool b) rfl)⟩
end
end Go.Av
