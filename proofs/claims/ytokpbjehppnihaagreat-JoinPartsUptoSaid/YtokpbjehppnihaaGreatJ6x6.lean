import Derived.Test.YtokpbjehppnihaaGreatJ6x5
import Derived.KernelRfl
set_option maxRecDepth 100000
set_option linter.unusedVariables false
set_option linter.unusedSimpArgs false
set_option linter.unusedSectionVars false
open Go.IntKind renaming i64→zzi
open Inhabited renaming default→zzd
open Option renaming bind_some→zz0
open List renaming mem_append→zz2, mem_cons_self→zz4, mem_cons_of_mem→zz7, mem_singleton→zz9, mem_cons→zze, length_drop→zzg, length_append→zzj
open Nat renaming le_refl→zzc
open Int renaming toNat_natCast→zzk
/-
 What a maker's list comes to,piece by piece.
-/
namespace Go.Av
open Go
theorem zo3 (l:List Update){n:Nat}(h:n≤l.length):Av.sub l (n:Int) (l.length:Int)=l.drop n:=by
 unfold Av.sub;simp only[zzk];exact List.take_of_length_le (by simp)
theorem sub_zero (l:List Update)(n:Nat):Av.sub l 0 (n:Int)=l.take n:=by
 unfold Av.sub;simp
theorem zg2: ∀(ps:List (Update×Update)) (m:JoinMaker),(ps.foldl stepP m).maker.list=m.maker.list++(ps.filter fun p=>okP p.1 p.2).map fun p=>mkP p.1 p.2
 |[],m=>by simp
 |p::ps,m=>by
  rw[List.foldl_cons,zg2 ps];unfold stepP;by_cases h:okP p.1 p.2=true
  ·rw[if_pos h,List.filter_cons_of_pos (p:=fun p:Update×Update=>okP p.1 p.2) h];simp
  ·rw[if_neg h,List.filter_cons_of_neg (p:=fun p:Update×Update=>okP p.1 p.2) h]
theorem zf4: ∀(ps:List (Update×Update)) (m:JoinMaker),(ps.foldl stepP m).maker.fault=((ps.filter fun p=> !okP p.1 p.2).map fun p=>lub2 p.1.time p.2.time).foldl note m.maker.fault
 |[],m=>rfl
 |p::ps,m=>by
  rw[List.foldl_cons,zf4 ps];unfold stepP;by_cases h:okP p.1 p.2=true
  ·rw[if_pos h,List.filter_cons_of_neg (p:=fun p:Update×Update=> !okP p.1 p.2) (by simp[h])]
  ·rw[if_neg h,List.filter_cons_of_pos (p:=fun p:Update×Update=> !okP p.1 p.2) (by simp[h])];rfl
def good (L:List Update)(u:Update):Bool:=decide (-9223372036854775808≤sm cU (pU L) u∧sm cU (pU L) u<9223372036854775808)
theorem zaw {L:List Update}{u:Update}:good L u=true↔in64 (sm cU (pU L) u):=by
 unfold good in64;rw[decide_eq_true_eq]
theorem zgl {d:Update}: ∀{D:List Update},(D.Pairwise fun x y=>cU x y≤0)→(∀y∈D,cU d y≤0)→(∀x∈D.take (cntP (fun y=>decide (cU d y=0)) D),cU d x=0)∧ ∀y∈D.drop (cntP (fun y=>decide (cU d y=0)) D),cU d y<0
 |[],_,_=>⟨fun x hx=>(by simp at hx),fun x hx=>(by simp at hx)⟩
 |e::D,hp,hm=>by
  rw[List.pairwise_cons]at hp;unfold cntP;by_cases h:cU d e=0
  ·rw[if_pos (decide_eq_true h),List.take_succ_cons,List.drop_succ_cons];obtain⟨h1,h2⟩:=zgl hp.2 fun y hy=>hm y (zz7 _ hy);refine⟨fun x hx=>?_,h2⟩;rcases zze.1 hx with rfl|hx
   ·exact h
   ·exact h1 x hx
  ·rw[if_neg (by simp[h]),List.take_zero,List.drop_zero];refine⟨fun x hx=>(by cases hx),fun y hy=>?_⟩;have h1:cU d e<0:=by have:=hm e (zz4 ..);omega
   rcases zze.1 hy with rfl|hy
   ·exact h1
   ·exact cU_is.lt_tr h1 (hp.1 y hy)
theorem znd {u v:Update}(h:cU u v=0):u.time=v.time:=by
 unfold cU at h;rw[z7b,z7b,zhn]at h;exact h.2.2
theorem zin {fuel:Nat}{l:List Update}(hf:40000000000≤fuel)(hl:UsOk l)(hn:l.length≤8000000000): ∃R e,z2q fuel [l]=some (R,e)∧TotU l R e∧R.length≤l.length:=by
 have hfl:([l]:List (List Update)).flatten=l:=by simp
 obtain⟨R,e,h1,h2,h3⟩:=zka (fuel:=fuel) (ls:=[l]) hf (by rw[hfl];exact hn) (by rw[hfl];exact hl.d);rw[hfl]at h2 h3;refine⟨R,e,h1,?_,h3⟩;rcases h2 with⟨g,_⟩|⟨_,g⟩
 ·exact absurd (z9t.2 hl.ok) g
 ·exact g
theorem UsOk.sub {l m:List Update}(h:UsOk l)(hs: ∀u∈m,u∈l):UsOk m:=⟨fun u hu=>h.ok u (hs u hu),fun u hu=>h.t u (hs u hu),fun u hu=>h.d u (hs u hu)⟩
structure PInv (L r:List Update) (m:JoinMaker) (k:Nat) (s:List Update×List Update×JoinMaker):Prop where
 kl:k≤r.length
 l:s.1=r.drop k
 tot:TotU ((r.take k).filter (good L)) s.2.1 0
 len:s.2.1.length≤k
 sep: ∀x∈r.take k,∀y∈r.drop k,cU x y<0
 ft: ∃ts:List Time,s.2.2=⟨⟨ts.foldl note m.maker.fault,m.maker.list⟩⟩∧ ∀t,t∈ts↔ ∃u∈r.take k,good L u=false∧u.time=t
theorem zge {l m:List Update}(h:l.Perm m)(y:Update):sm cU (pU l) y=sm cU (pU m) y:=zkk (h.map _) y
theorem zgs {l:List Update}{y:Update}(h: ∀u∈l,cU y u≠0):sm cU (pU l) y=0:=z8l fun p hp=>by
 obtain⟨u,hu,rfl⟩:=List.mem_map.1 hp;exact h u hu
theorem zm1 {fuel:Nat}{m:JoinMaker}(hf:40000000000≤fuel)(hl:UsOk m.maker.list)(hn:m.maker.list.length≤8000000000):
 ∃(out:List Update) (ts:List Time),z2u fuel m=some (out,⟨⟨ts.foldl note m.maker.fault,m.maker.list⟩⟩)∧TotU (m.maker.list.filter (good m.maker.list)) out 0∧out.length≤m.maker.list.length∧ ∀t,t∈ts↔ ∃u∈m.maker.list,good m.maker.list u=false∧u.time=t:=by
 unfold z2u z0u;rw[z0a (by omega)];obtain⟨r,h1,h2,h3⟩:=zn6 (fuel:=fuel) (l:=m.maker.list) (by omega) hf;simp only[zz0];rw[h1];simp only[zz0];have hlen:=h2.length_eq
 have hr:=hl.perm h2;rw[z0a hlen];have hgd: ∀u,sm cU (pU m.maker.list) u=sm cU (pU r) u:=fun u=>(zge h2 u).symm
 generalize hL:m.maker.list=L at*;refine za1 (G:=fun q=> ∃(out:List Update) (ts:List Time),q=some (out,(⟨⟨ts.foldl note m.maker.fault,L⟩⟩:JoinMaker))∧TotU (L.filter (good L)) out 0∧out.length≤L.length∧ ∀t,t∈ts↔ ∃u∈L,good L u=false∧u.time=t) (P:=fun s=>PInv L r m r.length s) ?_ ?_
 case refine_2=>
  rintro⟨l,out,m'⟩ ⟨_,_,q1,q2,_,ts,q3,q4⟩;dsimp only at q1 q2 q3;rw[List.take_length]at q1 q4;refine⟨out,ts,by rw[q3,hL],?_,by omega,fun t=>?_⟩
  ·have hp:(r.filter (good L)).Perm (L.filter (good L)):=h2.filter _;exact zfl (hp.map _) q1
  ·rw[q4];exact⟨fun⟨u,hu,g⟩=>⟨u,h2.mem_iff.1 hu,g⟩,fun⟨u,hu,g⟩=>⟨u,h2.mem_iff.2 hu,g⟩⟩
 ·have hloop:=fun B hB=>zad (S:=List Update×List Update×JoinMaker) (R:=Empty) (B:=B) (fun i s=> ∃k,i≤k∧PInv L r m k s) (fun s=>PInv L r m r.length s) (n:=r.length+1) (fuel:=fuel) (s:=(r,[],m)) (by omega)
   ⟨0,zzc _,⟨Nat.zero_le _,rfl,by rw[List.take_zero];exact .inl ⟨rfl,⟨List.Pairwise.nil,fun r hr=>(by cases hr),fun r hr=>(by cases hr),fun y hy=>(by cases hy)⟩,fun y=>(by show in64 0;unfold in64;omega)⟩,zzc _,fun x hx=>(by simp at hx),[],rfl,by simp⟩⟩ hB
  refine hloop _ ?_;rintro i ⟨l,out,m'⟩ ⟨k,hik,kl,e1,q1,q2,q3,ts,q4,q5⟩;dsimp only at e1 q1 q2 q4;subst e1 q4;simp only[z0i];by_cases hk:k<r.length
  case neg=>
   right;obtain rfl:k=r.length:=by omega
   rw[if_neg (by simp)];exact⟨_,rfl,⟨zzc _,rfl,q1,q2,q3,ts,rfl,q5⟩⟩
  left;rw[if_pos (by rw[zzg];omega)];have hD:=z42 hk
  have hps:=h3.sublist (List.drop_sublist k r);have hhd:(r.drop k).getD 0 zzd=r.getD k zzd:=by rw[hD];rfl
  have hmd: ∀y∈r.drop k,cU (r.getD k zzd) y≤0:=fun y hy=>by
   rw[hD]at hy hps;rcases zze.1 hy with rfl|hy
   ·rw[cU_is.refl];exact Int.le_refl _
   ·exact(List.pairwise_cons.1 hps).1 y hy
  obtain⟨s1,s2⟩:=zgl hps hmd;have hn1:1≤cntP (fun y=>decide (cU (r.getD k zzd) y=0)) (r.drop k):=by
   rw[hD];unfold cntP;rw[if_pos (decide_eq_true (cU_is.refl _))];omega
  have hnle:=zh3 (fun y=>decide (cU (r.getD k zzd) y=0)) (r.drop k);rw[zzg]at hnle;have hlt: ∀j,j<cntP (fun y=>decide (cU (r.getD k zzd) y=0)) (r.drop k)→cU (r.getD k zzd) ((r.drop k).getD j zzd)=0:=fun j hj=>of_decide_eq_true (zh4 (p:=fun y=>decide (cU (r.getD k zzd) y=0)) hj)
  have hat:cntP (fun y=>decide (cU (r.getD k zzd) y=0)) (r.drop k)<(r.drop k).length→ ¬cU (r.getD k zzd) ((r.drop k).getD (cntP (fun y=>decide (cU (r.getD k zzd) y=0)) (r.drop k)) zzd)=0:=fun h=>of_decide_eq_false (zh2 (p:=fun y=>decide (cU (r.getD k zzd) y=0)) h);generalize cntP (fun y=>decide (cU (r.getD k zzd) y=0)) (r.drop k)=n at*;have hinner:=zjv (R:=Empty) (fuel:=fuel) (n:=n-1) (z:=((n:Nat):Int)) (fun j:Nat=>((1+j:Nat):Int)) (B:=fun(a6:Int)=>jn (fun(a16:Bool)=>bf a16 (some (.next (zzi.wrap (a6+1)))) (some (.brk a6))) fun j17=>if a6<((r.drop k).length:Int)then(need ((0:Int)≤0∧0<((r.drop k).length:Int))<|need ((0:Int)≤a6∧a6<((r.drop k).length:Int))<|(z2h ((r.drop k).getD 0 zzd) ((r.drop k).getD a6.toNat zzd)).bind fun r21=>j17 (decide (r21=0)))else(j17 false)) (by omega) (fun j hj=>by
   simp only[jn_eq,zzg,zzk];rw[if_pos (by omega),z0a (by omega),z0a (by omega),hhd,z7i];simp only[zz0];rw[hlt _ (by omega)];simp only[decide_true,z6v];rw[wadd1 (by omega),Nat.add_assoc]) (by
   simp only[jn_eq,zzg,zzk];rw[show 1+(n-1)=n by omega];by_cases h:n<r.length-k
   ·rw[if_pos (by omega),z0a (by omega),z0a (by omega),hhd,z7i];simp only[zz0];rw[decide_eq_false (hat (by rw[zzg];exact h)),z2y]
   ·rw[if_neg (by omega),z2y])
  rw[show((1+0:Nat):Int)=1 from rfl]at hinner;rw[hinner];simp only[z78];rw[z0a (by rw[zzg];omega),sub_zero];have hpm: ∀u∈(r.drop k).take n,u∈r:=fun u hu=>List.mem_of_mem_drop (List.mem_of_mem_take hu)
  have hpl:((r.drop k).take n).length=n:=by rw[List.length_take,zzg];omega
  obtain⟨P,e,c1,c2,c3⟩:=zin (fuel:=fuel) hf (hr.sub hpm) (by rw[hpl];omega);rw[c1];rw[hpl]at c3;simp only[zz0,jn_eq,z4a,z0i];have etk:r.take (k+n)=r.take k++(r.drop k).take n:=List.take_add
  have edr:r.drop (k+n)=(r.drop k).drop n:=by rw[List.drop_drop]
  have hsub:Av.sub (r.drop k) ((n:Nat):Int) ((r.drop k).length:Int)=r.drop (k+n):=by rw[zo3 _ (by rw[zzg];omega),edr]
  have hsep: ∀x∈r.take (k+n),∀y∈r.drop (k+n),cU x y<0:=fun x hx y hy=>by
   rw[etk]at hx;rw[edr]at hy;rcases zz2.1 hx with g|g
   ·exact q3 x g y (List.mem_of_mem_drop hy)
   ·rw[cU_is.eqL y (cU_is.symm0 (s1 x g))];exact s2 y hy
  --the sum of the piece's class
  have hsum: ∀u∈(r.drop k).take n,sm cU (pU L) u=sm cU (pU ((r.drop k).take n)) u:=fun u hu=>by
   have hu0:=s1 u hu;rw[hgd];have er:r=r.take k++((r.drop k).take n++(r.drop k).drop n):=by rw[List.take_append_drop,List.take_append_drop]
   conv=>lhs;rw[er]
   rw[za2,za2,z6o,z6o,zgs (l:=r.take k) (fun x hx h=>by
    have:=q3 x hx _ (List.mem_of_mem_take hu);have:=cU_is.symm0 h
    omega),zgs (l:=(r.drop k).drop n) (fun y hy h=>by
    have:=s2 y hy;rw[cU_is.eqL y hu0]at this;omega)]
   omega
  have hcls: ∀u∈(r.drop k).take n,sm cU (pU ((r.drop k).take n)) u=sm cU (pU ((r.drop k).take n)) (r.getD k zzd):=fun u hu=>(z53 cU_is (s1 u hu) _).symm;have hkn:i+1≤k+n:=by omega
  by_cases he:e=0
  ·subst he;rw[if_pos rfl,z0a (by omega),z0a (by rw[zzg];omega),hsub];refine⟨_,rfl,⟨k+n,hkn,by omega,rfl,?_,?_,hsep,ts,rfl,?_⟩,by omega⟩
   ·rcases c2 with⟨_,c2,cf⟩|⟨c2,_⟩
    case inr=>omega
    have hall:((r.drop k).take n).filter (good L)=(r.drop k).take n:=List.filter_eq_self.2 fun u hu=>zaw.2 (by rw[hsum u hu];exact cf u);rw[etk,List.filter_append,hall];show Tot cU (fun x=>x.diff) z46 (pU (_++_)) (out++P) 0;rw[za2];refine zo5 (put:=z46) cU_is (fun x n y=>rfl) q1 (.inl ⟨rfl,c2,cf⟩) fun p hp q hq=>?_;obtain⟨x,hx,rfl⟩:=List.mem_map.1 hp;obtain⟨y,hy,rfl⟩:=List.mem_map.1 hq;exact q3 x (List.mem_filter.1 hx).1 y (List.mem_of_mem_take hy)
   ·dsimp only;rw[zzj];omega
   ·intro t;rw[q5,etk];constructor
    ·rintro⟨u,hu,g⟩;exact⟨u,List.mem_append_left _ hu,g⟩
    ·rintro⟨u,hu,g1,g2⟩;rcases zz2.1 hu with hu|hu
     ·exact⟨u,hu,g1,g2⟩
     ·rcases c2 with⟨_,_,cf⟩|⟨c2,_⟩
      ·have:=zaw.2 (show in64 (sm cU (pU L) u)by rw[hsum u hu];exact cf u);rw[this]at g1;cases g1
      ·omega
  ·rw[if_neg he,z0a (by rw[zzg];omega),zmu];simp only[zz0];rcases c2 with⟨c2,_⟩|⟨_,rfl,cf⟩
   ·exact absurd c2 he
   rw[z0a (by simp;omega),z0a (by rw[zzg];omega),hsub,hhd,List.append_nil];have hbad: ∀u∈(r.drop k).take n,good L u=false:=fun u hu=>by
    cases hg:good L u with
    |false=>rfl
    |true=>
     exfalso;have hg:=zaw.1 hg
     rw[hsum u hu]at hg;apply cf;intro y;by_cases hy: ∃x∈(r.drop k).take n,cU y x=0
     ·obtain⟨x,hx,hyx⟩:=hy;rw[z53 cU_is hyx,hcls x hx,←hcls u hu];exact hg
     ·rw[zgs fun x hx h=>hy ⟨x,hx,h⟩];unfold in64;omega
   refine⟨_,rfl,⟨k+n,hkn,by omega,rfl,?_,by dsimp only;omega,hsep,ts++[(r.getD k zzd).time],by rw[List.foldl_append];rfl,?_⟩,by omega⟩
   ·have hno:((r.drop k).take n).filter (good L)=[]:=List.filter_eq_nil_iff.2 fun u hu=>by rw[hbad u hu];simp
    rw[etk,List.filter_append,hno,List.append_nil];exact q1
   ·intro t;rw[zz2,q5,etk,zz9];constructor
    ·rintro(⟨u,hu,g⟩|rfl)
     ·exact⟨u,List.mem_append_left _ hu,g⟩
     ·have hm:r.getD k zzd∈(r.drop k).take n:=by
       rw[hD];cases n with
       |zero=>omega
       |succ n=>rw[List.take_succ_cons];exact zz4 ..
      exact⟨_,List.mem_append_right _ hm,hbad _ hm,rfl⟩
    ·rintro⟨u,hu,g1,g2⟩;rcases zz2.1 hu with hu|hu
     ·exact .inl ⟨u,hu,g1,g2⟩
     ·right;rw[←g2,znd (s1 u hu)]
theorem zlm {L R:List Update}{e:Int}(h:TotU L R e):(e=0→ ∀u,good L u=true)∧(e≠0→ ∃u∈L,good L u=false):=by
 rcases h with⟨h1,h2,h3⟩|⟨h1,h2,h3⟩
 ·exact⟨fun _ u=>zaw.2 (h3 u),fun h=>absurd h1 h⟩
 ·refine⟨fun h=>by omega,fun _=>?_⟩;apply Classical.byContradiction;intro hn;apply h3;intro y;by_cases hy: ∃x∈L,cU y x=0
  ·obtain⟨x,hx,hyx⟩:=hy;rw[z53 cU_is hyx];cases hg:good L x with
   |true=>exact zaw.1 hg
   |false=>exact absurd ⟨x,hx,hg⟩ hn
  ·rw[zgs fun x hx h=>hy ⟨x,hx,h⟩];unfold in64;omega
theorem znh {fuel:Nat}{m:JoinMaker}(hf:40000000000≤fuel)(hl:UsOk m.maker.list)(hn:m.maker.list.length≤8000000000):
 ∃(out:List Update) (ts:List Time) (t:Time) (w:Int) (m':JoinMaker),z1r fuel m=some (out,t,w,m')∧TotU (m.maker.list.filter (good m.maker.list)) out 0∧out.length≤m.maker.list.length∧(∀t,t∈ts↔ ∃u∈m.maker.list,good m.maker.list u=false∧u.time=t)∧
  (((ts.foldl note m.maker.fault).is=false∧t=zeroT∧w=0)∨((ts.foldl note m.maker.fault).is=true∧t=(ts.foldl note m.maker.fault).at_∧w=10)):=by
 unfold z1r;obtain⟨R,e,h1,h2,h3⟩:=zin (fuel:=fuel) hf hl hn;rw[h1];simp only[zz0,jn_eq,z4a,z0i];obtain⟨g1,g2⟩:=zlm h2;by_cases he:e=0
 ·subst he;rw[if_pos rfl];have hall:m.maker.list.filter (good m.maker.list)=m.maker.list:=List.filter_eq_self.2 fun u _=>g1 rfl u
  cases hi:m.maker.fault.is with
  |false=>
   rw[z2y];exact⟨R,[],_,_,_,rfl,by rw[hall];exact h2,h3,fun t=>by simp[g1],.inl ⟨hi,rfl,rfl⟩⟩
  |true=>
   rw[z6v];exact⟨R,[],_,_,_,rfl,by rw[hall];exact h2,h3,fun t=>by simp[g1],.inr ⟨hi,rfl,rfl⟩⟩
 ·rw[if_neg he];obtain⟨out,ts,p1,p2,p3,p4⟩:=zm1 (fuel:=fuel) hf hl hn;rw[p1];simp only[zz0];cases hi:(ts.foldl note m.maker.fault).is with
  |false=>
   rw[z2y];exact⟨out,ts,_,_,_,rfl,p2,p3,p4,.inl ⟨hi,rfl,rfl⟩⟩
  |true=>
   rw[z6v];exact⟨out,ts,_,_,_,rfl,p2,p3,p4,.inr ⟨hi,rfl,rfl⟩⟩
end Go.Av
namespace Go.Av
open Go
theorem znm {n:Int}(h:okInt .i64 n):in64 n:=by
 have:=Go.bounds_i64 h;unfold in64;omega
theorem zcz {n:Int}(h:okInt .u64 n):0≤n:=(Go.bounds_u64 h).1
theorem zlu {t:Time}(h:zgb t):z4p t:=⟨zcz h.1,zcz h.2.1.1,zcz h.2.1.2⟩
abbrev okUs (l:List Update):Prop:=l.length≤maxN∧ ∀x∈l,zb7 x
abbrev okTs (l:List Time):Prop:=l.length≤maxN∧ ∀x∈l,zgb x
theorem us_in {l:List Update}(h:okUs l): ∀u∈l,in64 u.diff:=fun u hu=>znm (h.2 u hu).2.2.2.1
theorem us_nn {l:List Update}(h:okUs l): ∀u∈l,z4p u.time:=fun u hu=>zlu (h.2 u hu).2.2.1
end Go.Av
/-
 Pairs of two lists;what two lists make with a third one.
-/
namespace Go.Av
open Go
def First (f:Fault)(T:List Time):Prop:=(f.is=true↔T≠[])∧(f.is=true→f.at_∈T∧ ∀t∈T,cmpT f.at_ t≤0)
theorem First.note {f:Fault}{T:List Time}(h:First f T)(t:Time):First (note f t) (T++[t]):=by
 obtain⟨h1,h2⟩:=h;unfold Av.note;by_cases g:f.is=false∨cmpT t f.at_<0
 ·rw[if_pos g];refine⟨by simp,fun _=>⟨by simp,fun s hs=>?_⟩⟩;rcases zz2.1 hs with hs|hs
  ·cases hf:f.is with
   |false=>rw[hf]at h1;exact absurd (h1.2 fun e=>by rw[e]at hs;cases hs) (by simp)
   |true=>
    obtain⟨h3,h4⟩:=h2 hf;rcases g with g|g
    ·rw[hf]at g;cases g
    ·have:=zbz.lt_tr g (h4 s hs);show cmpT t s≤0;omega
  ·rw[zz9.1 hs];show cmpT t t≤0;rw[zbz.refl];exact Int.le_refl _
 ·rw[if_neg g];have hf:f.is=true:=by cases hf:f.is with
   |true=>rfl
   |false=>exact absurd (.inl hf) g
  obtain⟨h3,h4⟩:=h2 hf;refine⟨by simp[hf],fun _=>⟨List.mem_append_left _ h3,fun s hs=>?_⟩⟩;rcases zz2.1 hs with hs|hs
  ·exact h4 s hs
  ·rw[zz9.1 hs];have: ¬cmpT t f.at_<0:=fun x=>g (.inr x);have:=zbz.anti f.at_ t
   omega
theorem zcj: ∀(ts:List Time) {f:Fault} {T:List Time},First f T→First (ts.foldl Av.note f) (T++ts)
 |[],f,T,h=>by rw[List.append_nil];exact h
 |t::ts,f,T,h=>by
  have:=zcj ts (h.note t);rw[List.append_assoc]at this;exact this
theorem First.nil (t:Time):First ⟨false,t⟩ []:=⟨by simp,by simp⟩
def prodL (a b:List Update):List Update:=(z2f a b).map fun p=>mkP p.1 p.2
def okL (a b:List Update):List Update:=((z2f a b).filter fun p=>okP p.1 p.2).map fun p=>mkP p.1 p.2
theorem zj3 {a r b:List Update}(h:r.Perm b):(z2f a r).Perm (z2f a b):=by
 unfold z2f;induction a with
 |nil=>exact .refl _
 |cons x a ih=>simp only[List.flatMap_cons];exact((h.filter _).map _).append ih
theorem zjw {a b:List Update}{p:Update×Update}(h:p∈z2f a b):p.1∈a∧p.2∈b∧kc p.1.key p.2=0:=by
 unfold z2f at h;obtain⟨x,hx,h⟩:=List.mem_flatMap.1 h;obtain⟨y,hy,rfl⟩:=List.mem_map.1 h;obtain⟨h1,h2⟩:=List.mem_filter.1 hy;exact⟨hx,h1,of_decide_eq_true h2⟩
theorem ze7 {L M:List Update}(h:L.Perm M)(u:Update):good L u=good M u:=by
 unfold good;rw[zge h]
theorem zog {x y:Update}(hx:okU x)(hy:okU y)(h:okP x y=true):okU (mkP x y):=by
 obtain⟨_,h2⟩:=of_decide_eq_true h;refine⟨by rfl,?_,?_⟩
 ·unfold mkP okRow;dsimp only;rw[Bool.and_eq_true,List.all_append,(z6n hx.2.1).1,(z6n hy.2.1).1];exact⟨decide_eq_true h2,rfl⟩
 ·exact znv hx.2.2 hy.2.2
theorem zg6 {a b:List Update}(ha:UsOk a)(hb:UsOk b):UsOk (okL a b):=by
 have key: ∀u∈okL a b,∃x∈a,∃y∈b,okP x y=true∧u=mkP x y:=fun u hu=>by
  obtain⟨p,hp,rfl⟩:=List.mem_map.1 hu;obtain⟨h1,h2⟩:=List.mem_filter.1 hp;obtain⟨h3,h4,_⟩:=zjw h1;exact⟨p.1,h3,p.2,h4,h2,rfl⟩
 refine⟨fun u hu=>?_,fun u hu=>?_,fun u hu=>?_⟩<;>obtain⟨x,hx,y,hy,h,rfl⟩:=key u hu
 ·exact zog (ha.ok x hx) (hb.ok y hy) h
 ·exact znq (ha.t x hx) (hb.t y hy)
 ·exact(of_decide_eq_true h).1
def FT (a b:List Update)(t:Time):Prop:=(∃p∈z2f a b,okP p.1 p.2=false∧lub2 p.1.time p.2.time=t)∨(∃u∈okL a b,good (okL a b) u=false∧u.time=t)
structure PairR (a b out:List Update) (t:Time) (w:Int):Prop where
 tot:TotU ((okL a b).filter (good (okL a b))) out 0
 len:out.length≤a.length*b.length
 ft:(w=0∧t=zeroT∧ ∀s,¬FT a b s)∨(w=10∧FT a b t∧ ∀s,FT a b s→cmpT t s≤0)
theorem zoh {fuel:Nat}{a b:List Update}(hf:40000000000≤fuel)(ha:UsOk a)(hb:UsOk b)(hn:b.length≤4000000000)(hab:a.length*b.length≤8000000000):
 ∃m out t w m',z15 fuel a b (⟨⟨⟨false,⟨0,(0,0)⟩⟩,[]⟩⟩:JoinMaker)=some m∧z1r fuel m=some (out,t,w,m')∧PairR a b out t w:=by
 obtain⟨r,h1,h2⟩:=zmw (fuel:=fuel) (m:=(⟨⟨⟨false,⟨0,(0,0)⟩⟩,[]⟩⟩:JoinMaker)) hf ha hb hn (by simpa using hab);have hlen:=h1.length_eq
 have hL:=zg2 (z2f a r) (⟨⟨⟨false,⟨0,(0,0)⟩⟩,[]⟩⟩:JoinMaker);have hF:=zf4 (z2f a r) (⟨⟨⟨false,⟨0,(0,0)⟩⟩,[]⟩⟩:JoinMaker)
 rw[List.nil_append]at hL;have hpp:=zj3 (a:=a) h1
 have hLp:(okL a r).Perm (okL a b):=(hpp.filter _).map _;have hll:(okL a r).length≤a.length*b.length:=by
  unfold okL;rw[List.length_map];have:=List.length_filter_le (fun p:Update×Update=>okP p.1 p.2) (z2f a r)
  have:=zf8 a r;rw[hlen]at this;omega
 generalize (z2f a r).foldl stepP (⟨⟨⟨false,⟨0,(0,0)⟩⟩,[]⟩⟩:JoinMaker)=m at*;change m.maker.list=okL a r at hL;have hus:UsOk m.maker.list:=by rw[hL];exact zg6 ha (hb.perm h1)
 obtain⟨out,ts,t,w,m',d1,d2,d3,d4,d5⟩:=znh (fuel:=fuel) (m:=m) hf hus (by rw[hL];omega);rw[hL]at d2 d3 d4;refine⟨m,out,t,w,m',h2,d1,?_,by omega,?_⟩
 ·have hp:((okL a r).filter (good (okL a r))).Perm ((okL a b).filter (good (okL a b))):=by
   have e:good (okL a r)=good (okL a b):=funext fun u=>ze7 hLp u;rw[e];exact hLp.filter _
  exact zfl (hp.map _) d2
 ·have hfi:=zcj ts (f:=m.maker.fault) (T:=((z2f a r).filter fun p=> !okP p.1 p.2).map fun p=>lub2 p.1.time p.2.time) (by
   rw[hF];have:=zcj (((z2f a r).filter fun p=> !okP p.1 p.2).map fun p=>lub2 p.1.time p.2.time) (First.nil ⟨0,(0,0)⟩);rw[List.nil_append]at this;exact this)
  have hT: ∀s,s∈(((z2f a r).filter fun p=> !okP p.1 p.2).map fun p=>lub2 p.1.time p.2.time)++ts↔FT a b s:=fun s=>by
   rw[zz2,d4];unfold FT;constructor
   ·rintro(g|⟨u,hu,g1,g2⟩)
    ·obtain⟨p,hp,rfl⟩:=List.mem_map.1 g;obtain⟨k1,k2⟩:=List.mem_filter.1 hp;exact .inl ⟨p,hpp.mem_iff.1 k1,by simpa using k2,rfl⟩
    ·exact .inr ⟨u,hLp.mem_iff.1 hu,by rw[←ze7 hLp];exact g1,g2⟩
   ·rintro(⟨p,hp,g1,g2⟩|⟨u,hu,g1,g2⟩)
    ·exact .inl (List.mem_map.2 ⟨p,List.mem_filter.2 ⟨hpp.mem_iff.2 hp,by simp[g1]⟩,g2⟩)
    ·exact .inr ⟨u,hLp.mem_iff.2 hu,by rw[ze7 hLp];exact g1,g2⟩
  obtain⟨k1,k2⟩:=hfi;rcases d5 with⟨g1,g2,g3⟩|⟨g1,g2,g3⟩
  ·left;refine⟨g3,g2,fun s hs=>?_⟩;have:=k1.2 (fun e=>by have:=(hT s).2 hs;rw[e]at this;cases this)
   rw[g1]at this;cases this
  ·right;obtain⟨k3,k4⟩:=k2 g1;rw[←g2]at k3 k4;exact⟨g3,(hT t).1 k3,fun s hs=>k4 s ((hT s).2 hs)⟩
theorem zax {fuel:Nat}{a b:List Update}(hf:40000000000≤fuel)(da: ∀u∈a,in64 u.diff)(ta: ∀u∈a,z4p u.time)(db: ∀u∈b,in64 u.diff)(tb: ∀u∈b,z4p u.time)(hn:b.length≤4000000000)(hab:a.length*b.length≤8000000000):
 ∃out t w,z5j fuel a b=some (out,t,w)∧((thenC (chkL a) (chkL b)≠0∧out=[]∧t=zeroT∧w=thenC (chkL a) (chkL b))∨(UsOk a∧UsOk b∧PairR a b out t w)):=by
 unfold z5j;rw[zat (by omega),zat (by omega)];simp only[zz0];rw[zly];simp only[zz0,z4a,z0i];by_cases h:thenC (chkL a) (chkL b)=0
 ·rw[if_pos h];obtain⟨h1,h2⟩:=z7b.1 h;have ha:UsOk a:=⟨z9t.1 h1,ta,da⟩
  have hb:UsOk b:=⟨z9t.1 h2,tb,db⟩;obtain⟨m,out,t,w,m',e1,e2,e3⟩:=zoh (fuel:=fuel) hf ha hb hn hab;rw[e1];simp only[zz0];rw[e2];exact⟨out,t,w,rfl,.inr ⟨ha,hb,e3⟩⟩
 ·rw[if_neg h];exact⟨_,_,_,rfl,.inl ⟨h,rfl,rfl,rfl⟩⟩
theorem PairR.fine {a b out:List Update}{t:Time}{w:Int}(h:PairR a b out t w)(hw:w=0):TotU (prodL a b) out 0∧t=zeroT∧okL a b=prodL a b:=by
 rcases h.ft with⟨_,h1,h2⟩|⟨h1,_⟩
 case inr=>omega
 have e:okL a b=prodL a b:=by
  unfold okL prodL;rw[List.filter_eq_self.2 fun p hp=>?_];cases ho:okP p.1 p.2 with
  |true=>rfl
  |false=>exact absurd (.inl ⟨p,hp,ho,rfl⟩) (h2 _)
 have h3:=h.tot;rw[List.filter_eq_self.2 fun u hu=>?_]at h3
 ·rw[e]at h3;exact⟨h3,h1,e⟩
 ·cases hg:good (okL a b) u with
  |true=>rfl
  |false=>exact absurd (.inr ⟨u,hu,hg,rfl⟩) (h2 _)
theorem PairR.w {a b out:List Update}{t:Time}{w:Int}(h:PairR a b out t w):w=0∨w=10:=by
 rcases h.ft with⟨h,_⟩|⟨h,_⟩
 ·exact .inl h
 ·exact .inr h
theorem zj4 (a a' b:List Update):prodL (a++a') b=prodL a b++prodL a' b:=by
 unfold prodL z2f;rw[List.flatMap_append,List.map_append]
theorem zh0 {fuel:Nat}{a b c:List Update}(hL:z5n fuel=some true)(hf:40000000000≤fuel)(da: ∀u∈a,in64 u.diff)(ta: ∀u∈a,z4p u.time)(db: ∀u∈b,in64 u.diff)(tb: ∀u∈b,z4p u.time)(dc: ∀u∈c,in64 u.diff)(tc: ∀u∈c,z4p u.time)
 (hn:a.length+b.length+c.length≤1000000) (hab:(a.length+b.length)*c.length≤8000000000):z4c fuel a b c=some true:=by
 unfold z4c;rw[hL];simp only[zz0,Bool.not_true,z2y];rw[Nat.add_mul]at hab;obtain⟨x,t1,w1,e1,p1⟩:=zax (fuel:=fuel) hf da ta dc tc (by omega) (by omega);obtain⟨y,t2,w2,e2,p2⟩:=zax (fuel:=fuel) hf db tb dc tc (by omega) (by omega);obtain⟨z,t3,w3,e3,p3⟩:=zax (fuel:=fuel) (a:=a++b) hf (fun u hu=>by rcases zz2.1 hu with g|g;exact da u g;exact db u g) (fun u hu=>by rcases zz2.1 hu with g|g;exact ta u g;exact tb u g) dc tc (by omega) (by rw[zzj,Nat.add_mul];omega);rw[e1,e2];simp only[zz0];rw[z0a (by omega),z0a (by omega),e3];simp only[zz0,jn_eq,z4a,z0i];by_cases h1:w1=0
 case neg=>rw[if_neg h1];rfl
 rw[if_pos h1];by_cases h2:w2=0
 case neg=>rw[if_neg h2];rfl
 rw[if_pos h2];by_cases h3:w3=0
 case neg=>rw[if_neg h3]
 rw[if_pos h3];rcases p1 with⟨g,_,_,g'⟩|⟨ha,hc,p1⟩
 ·omega
 rcases p2 with⟨g,_,_,g'⟩|⟨hb,_,p2⟩
 ·omega
 rcases p3 with⟨g,_,_,g'⟩|⟨hab',_,p3⟩
 ·omega
 obtain⟨q1,_,l1⟩:=p1.fine h1;obtain⟨q2,_,l2⟩:=p2.fine h2;obtain⟨q3,_,l3⟩:=p3.fine h3;have o1: ∀u∈prodL a c,okU u:=by rw[←l1];exact(zg6 ha hc).ok
 have o2: ∀u∈prodL b c,okU u:=by rw[←l2];exact(zg6 hb hc).ok
 have o3: ∀u∈prodL (a++b) c,okU u:=by rw[←l3];exact(zg6 hab' hc).ok
 have ox:=zb8 q1 o1;have oy:=zb8 q2 o2
 have lx:=p1.len;have ly:=p2.len
 have hfl:([x,y]:List (List Update)).flatten=x++y:=by simp
 have oxy: ∀u∈x++y,okU u:=fun u hu=>by
  rcases zz2.1 hu with g|g
  ·exact ox u g
  ·exact oy u g
 obtain⟨R,e,c1,c2,_⟩:=zka (fuel:=fuel) (ls:=[x,y]) hf (by rw[hfl,zzj];omega) (by
  rw[hfl];intro u hu;rcases zz2.1 hu with g|g
  ·exact zkn q1 u g
  ·exact zkn q2 u g)
 rw[hfl]at c2;rcases c2 with⟨g,_⟩|⟨_,c2⟩
 ·exact absurd (z9t.2 oxy) g
 have hs: ∀{l X:List Update},TotU l X 0→ ∀v,sm cU (pU X) v=sm cU (pU l) v:=fun{l X} h v=>by
  rcases h with⟨_,g,_⟩|⟨g,_⟩
  ·exact zol cU_is g v
  ·omega
 obtain⟨rfl,rfl⟩:=zk0 c2 q3 oxy o3 fun v=>by
  rw[zj4,za2,za2,z6o,z6o,hs q1,hs q2]
 rw[c1];simp only[zz0];rw[if_pos trivial,zom];rfl
theorem zhd (l:List Update):9*l.length≤(l.map z5h).sum:=by
 induction l with
 |nil=>simp
 |cons u l ih=>
  have:9≤z5h u:=by unfold z5h zfd;dsimp only;omega
  simp only[List.length_cons,List.map_cons,List.sum_cons];omega
theorem znx {p q:Nat}(h:p+q≤116508):p*q≤8000000000:=by
 rcases Nat.le_total p 58254 with g|g
 ·exact Nat.le_trans (Nat.mul_le_mul g (show q≤116508 by omega)) (by decide)
 ·exact Nat.le_trans (Nat.mul_le_mul (show p≤116508 by omega) (show q≤58254 by omega)) (by decide)
theorem znp:z5n 100000000000=some true:=by kernel_rfl
theorem zi5 {a b c:List Update}(h1:okUs a)(h2:okUs b)(h3:okUs c)(hb:((a.map z5h).sum+1)+(((b.map z5h).sum+1)+(((c.map z5h).sum+1)+0))≤1048576):z4c 100000000000 a b c=some true:=by
 have l1:=zhd a;have l2:=zhd b;have l3:=zhd c
 exact zh0 znp (by omega) (us_in h1) (us_nn h1) (us_in h2) (us_nn h2) (us_in h3) (us_nn h3) (by omega) (znx (by omega))
end Go.Av
