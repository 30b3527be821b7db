import Derived.Test.YthiooffeindjdaaGreatS3x4
import Derived.Test.YthiooffeindjdaaGreatProg
import Derived.Sort.LotD3
import Derived.Sort.LotD4
import Derived.Sort.LotA
import Derived.Sort.LotB
import Derived.Sort.LotC
import Derived.Sort.AssemblyPlain
import Derived.Sort.LotD5
import Derived.KernelRfl
set_option maxRecDepth 100000
set_option linter.unusedVariables false
set_option linter.unusedSimpArgs false
set_option linter.unusedSectionVars false
open Go.IntKind renaming i64→zzi, u64→zzu
open Inhabited renaming default→zzd
open Option renaming bind_some→zz0
open List renaming mem_append→zz2, mem_cons_self→zz3, replicate→zz6, mem_cons_of_mem→zz7, eq_nil_of_length_eq_zero→zza, length_append→zze, mem_singleton→zzg, mem_append_right→zzh, mem_cons→zzj, drop_eq_nil_of_le→zzl, mem_append_left→zzo, length_take→zzp, length_cons→zzq, mem_of_mem_drop→zzs
open Int renaming toNat_natCast→zz8
open Nat renaming zero_add→zzc, le_refl→zzf
open Bool renaming false_eq_true→zzm, not_true→zzn
open Array renaming length_toList→zzr
namespace Go.Av
open Go Go.Proofs
def zge (x:Time):Prop:=(okInt .u64) x.epoch∧(fun p=>(okInt .u64) p.1∧(okInt .u64) p.2) x.loop∧True
def zix (x:Time):Nat:=((fun _=>1) x.epoch+((fun p=>(fun _=>1) p.1+(fun _=>1) p.2+1) x.loop+0))+1
def zc1 (x:Value):Prop:=(fun _=>True) x.isText∧(okInt .i64) x.n∧(fun s=>s.size≤maxN) x.s∧True
def z9o (x:Value):Nat:=((fun _=>1) x.isText+((fun _=>1) x.n+((fun s=>s.size+1) x.s+0)))+1
def zcp (x:Update):Prop:=(fun xs=>xs.length≤maxN∧ ∀x∈xs,(zc1) x) x.key∧(fun xs=>xs.length≤maxN∧ ∀x∈xs,(zc1) x) x.row∧(zge) x.time∧(okInt .i64) x.diff∧True
def z66 (x:Update):Nat:=((fun xs=>(xs.map (z9o)).sum+1) x.key+((fun xs=>(xs.map (z9o)).sum+1) x.row+((zix) x.time+((fun _=>1) x.diff+0))))+1
theorem znd {H:Type}{enc:TypeId×Go.Value→H}{W:World}{Z:TypeId→DataW H→Prop}{B:DataW H→Nat}(hZ:Fine Tryz.prog Z)(hB:BulkOk B):Reads enc Tryz.prog W Z B 47 z02 zge zix:=fun n=>by
 have h:=z1f.struct (n:=n) (enc:=enc) (W:=W) (tot:=3) hZ hB Tryz.underlying47 (by kernel_rfl) (fun m _=>(z4r.cons (k:=1) (z1f.int hB Tryz.underlying44) rfl (by kernel_rfl) (z4r.cons (k:=2) (zis hZ hB Tryz.underlying45 (k:=1) (by kernel_rfl) (by kernel_rfl) (fun m _=>(z1f.int hB Tryz.underlying44))) rfl (by kernel_rfl) (z4r.nil (off:=3)))));exact h.map (fun(p:Int×(Int×Int)×Unit)=>(⟨p.1,p.2.1⟩:Time)) (fun _ _=>rfl) (fun _ h=>h) (fun _ _=>zzf _)
theorem zgi {H:Type}{enc:TypeId×Go.Value→H}{W:World}{Z:TypeId→DataW H→Prop}{B:DataW H→Nat}(hZ:Fine Tryz.prog Z)(hB:BulkOk B):Reads enc Tryz.prog W Z B 51 z06 zc1 z9o:=fun n=>by
 have h:=z1f.struct (n:=n) (enc:=enc) (W:=W) (tot:=3) hZ hB Tryz.underlying51 (by kernel_rfl) (fun m _=>(z4r.cons (k:=1) (z1f.bool hB Tryz.underlying4) rfl (by kernel_rfl) (z4r.cons (k:=1) (z1f.int hB Tryz.underlying2) rfl (by kernel_rfl) (z4r.cons (k:=1) (z1f.string hZ hB Tryz.underlying9) rfl (by kernel_rfl) (z4r.nil (off:=3))))));exact h.map (fun(p:Bool×Int×ByteArray×Unit)=>(⟨p.1,p.2.1,p.2.2.1⟩:Value)) (fun _ _=>rfl) (fun _ h=>h) (fun _ _=>zzf _)
theorem zkb {H:Type}{enc:TypeId×Go.Value→H}{W:World}{Z:TypeId→DataW H→Prop}{B:DataW H→Nat}(hZ:Fine Tryz.prog Z)(hB:BulkOk B):Reads enc Tryz.prog W Z B 49 z01 zcp z66:=fun n=>by
 have h:=z1f.struct (n:=n) (enc:=enc) (W:=W) (tot:=6) hZ hB Tryz.underlying49 (by kernel_rfl) (fun m _=>(z4r.cons (k:=1) (z1f.slice (es:=3) (e:=z06) (ok:=zc1) (bulk:=z9o) hZ hB Tryz.underlying43 (by kernel_rfl) (by kernel_rfl) rfl (fun _ _=>rfl) (fun m _=>(zgi hZ hB m))) rfl (by kernel_rfl) (z4r.cons (k:=1) (z1f.slice (es:=3) (e:=z06) (ok:=zc1) (bulk:=z9o) hZ hB Tryz.underlying43 (by kernel_rfl) (by kernel_rfl) rfl (fun _ _=>rfl) (fun m _=>(zgi hZ hB m))) rfl (by kernel_rfl) (z4r.cons (k:=3) (znd hZ hB m) rfl (by kernel_rfl) (z4r.cons (k:=1) (z1f.int hB Tryz.underlying2) rfl (by kernel_rfl) (z4r.nil (off:=6)))))));exact h.map (fun(p:(List Value)×(List Value)×Time×Int×Unit)=>(⟨p.1,p.2.1,p.2.2.1,p.2.2.2.1⟩:Update)) (fun _ _=>rfl) (fun _ h=>h) (fun _ _=>zzf _)
end Go.Av
namespace Go.Av
open Go
section
variable {α:Type} {c:α→α→Int}
def sm (c:α→α→Int):List (α×Int)→α→Int
 |[],_=>0
 |p::l,y=>(if c y p.1=0 then p.2 else 0)+sm c l y
def wt (g:α→Bool):List (α×Int)→Int
 |[]=>0
 |p::l=>(if g p.1=true then p.2 else 0)+wt g l
theorem z8i (l l':List (α×Int))(y:α):sm c (l++l') y=sm c l y+sm c l' y:=by
 induction l with
 |nil=>simp[sm]
 |cons p l ih=>simp only[List.cons_append,sm,ih];omega
theorem zh8 {l l':List (α×Int)}(h:l.Perm l')(y:α):sm c l y=sm c l' y:=by
 induction h with
 |nil=>rfl
 |cons p _ ih=>simp only[sm,ih]
 |swap p q l=>simp only[sm];omega
 |trans _ _ h1 h2=>exact h1.trans h2
theorem z5v (hC:IsCmp c){y z:α}(h:c y z=0): ∀l:List (α×Int),sm c l y=sm c l z
 |[]=>rfl
 |p::l=>by simp only[sm,z5v hC h l,hC.eqL p.1 h]
theorem zah {y:α}: ∀{l:List (α×Int)},(∀p∈l,c y p.1≠0)→sm c l y=0
 |[],_=>rfl
 |p::l,h=>by simp only[sm,if_neg (h p (zz3 ..)),zah fun q hq=>h q (zz7 _ hq)];omega
theorem zc5 {y:α}{l:List (α×Int)}(h:sm c l y≠0): ∃p∈l,c y p.1=0:=by
 apply Classical.byContradiction;intro hn;exact h (zah fun p hp e=>hn ⟨p,hp,e⟩)
theorem znq (g:α→Bool)(l l':List (α×Int)):wt g (l++l')=wt g l+wt g l':=by
 induction l with
 |nil=>simp[wt]
 |cons p l ih=>simp only[List.cons_append,wt,ih];omega
def negP (l:List (α×Int)):List (α×Int):=l.map fun p=>(p.1,-p.2)
theorem zql (l:List (α×Int))(y:α):sm c (negP l) y= - sm c l y:=by
 induction l with
 |nil=>rfl
 |cons p l ih=>
  unfold negP at*;simp only[List.map_cons,sm,ih];split<;>omega
theorem zqp (g:α→Bool)(l:List (α×Int)):wt g (negP l)= - wt g l:=by
 induction l with
 |nil=>rfl
 |cons p l ih=>
  unfold negP at*;simp only[List.map_cons,wt,ih];split<;>omega
theorem grp0 (hC:IsCmp c){g:α→Bool}(hg: ∀x y,c x y=0→g x=g y): ∀(n:Nat) (l:List (α×Int)),l.length≤n→(∀y,sm c l y=0)→wt g l=0
 |0,[],_,_=>rfl
 |0,p::l,h,_=>by simp at h
 |n+1,[],_,_=>rfl
 |n+1,p::l,h,hs=>by
  have key: ∀L:List (α×Int),wt g L=(if g p.1=true then sm c L p.1 else 0)+wt g (L.filter fun q=> !decide (c p.1 q.1=0))∧ ∀y,sm c (L.filter fun q=> !decide (c p.1 q.1=0)) y=if c p.1 y=0 then 0 else sm c L y:=by
   intro L;induction L with
   |nil=>exact⟨by simp[wt,sm],fun y=>by simp[sm]⟩
   |cons q L ih=>
    obtain⟨i1,i2⟩:=ih;by_cases e:c p.1 q.1=0
    ·rw[List.filter_cons_of_neg (by simp[e])];refine⟨?_,fun y=>?_⟩
     ·simp only[wt,sm,i1,if_pos e,←hg _ _ e];split<;>omega
     ·rw[i2];by_cases e2:c p.1 y=0
      ·rw[if_pos e2,if_pos e2]
      ·rw[if_neg e2,if_neg e2];simp only[sm];rw[if_neg]
       ·omega
       ·intro e3;exact e2 (by rw[hC.eqL y e];exact hC.symm0 e3)
    ·rw[List.filter_cons_of_pos (by simp[e])];refine⟨?_,fun y=>?_⟩
     ·simp only[wt,sm,i1,if_neg e]
      repeat' split
      all_goals omega
     ·simp only[sm,i2];by_cases e2:c p.1 y=0
      ·rw[if_pos e2,if_pos e2,if_neg]
       ·rfl
       ·intro e3;exact e (by rw[hC.eqL _ e2];exact e3)
      ·rw[if_neg e2,if_neg e2]
  obtain⟨k1,k2⟩:=key (p::l);rw[k1,hs];have hl:((p::l).filter fun q=> !decide (c p.1 q.1=0)).length≤n:=by
   rw[List.filter_cons_of_neg (by simp[hC.refl])];have:=List.length_filter_le (fun q:α×Int=> !decide (c p.1 q.1=0)) l;simp only[zzq]at h;omega
  rw[grp0 hC hg n _ hl fun y=>by rw[k2,hs];simp];split<;>rfl
theorem grp (hC:IsCmp c){g:α→Bool}(hg: ∀x y,c x y=0→g x=g y){l l':List (α×Int)}(h: ∀y,sm c l y=sm c l' y):wt g l=wt g l':=by
 have:=grp0 hC hg _ (l++negP l') (zzf _) fun y=>by rw[z8i,zql,h];omega
 rw[znq,zqp]at this;omega
structure SS (c:α→α→Int) (l S:List (α×Int)):Prop where
 strict:S.Pairwise fun a b=>c a.1 b.1<0
 sum: ∀p∈S,p.2=sm c l p.1
 mem: ∀p∈S,∃y∈l,y.1=p.1
 all: ∀y∈l,∃p∈S,c p.1 y.1=0
theorem zqn:SS c [] []:=⟨List.Pairwise.nil,fun p h=>(by cases h),fun p h=>(by cases h),fun p h=>(by cases h)⟩
theorem znj (x y:α)(n:Int):sm c [(x,n)] y=if c y x=0 then n else 0:=by simp[sm]
theorem znk (hC:IsCmp c){l A B:List (α×Int)}{x:α}{n:Int}(h:SS c l (A++B))(hA: ∀p∈A,c p.1 x<0)(hB: ∀p∈B,c x p.1<0):SS c (l++[(x,n)]) (A++(x,n)::B):=by
 have hne: ∀p∈A++B,c p.1 x≠0:=fun p hp=>by
  rcases zz2.1 hp with hp|hp
  ·have:=hA p hp;omega
  ·have:=hB p hp;have:=hC.anti x p.1;omega
 have hs:=h.strict;rw[List.pairwise_append]at hs;refine⟨?_,?_,?_,?_⟩
 ·rw[List.pairwise_append];refine⟨hs.1,List.pairwise_cons.2 ⟨hB,hs.2.1⟩,fun a ha b hb=>?_⟩;rcases zzj.1 hb with rfl|hb
  ·exact hA a ha
  ·exact hs.2.2 a ha b hb
 ·intro p hp;rw[z8i,znj];have hp':p=(x,n)∨p∈A++B:=by
   rcases zz2.1 hp with hp|hp
   ·exact .inr (zz2.2 (.inl hp))
   ·rcases zzj.1 hp with hp|hp
    ·exact .inl hp
    ·exact .inr (zz2.2 (.inr hp))
  rcases hp' with rfl|hp'
  ·simp only[hC.refl];rw[zah fun q hq e=>?_]
   ·simp
   ·obtain⟨p,hp,e2⟩:=h.all q hq;exact hne p hp (by rw[hC.eqL x e2];exact hC.symm0 e)
  ·rw[if_neg (hne p hp'),←h.sum p hp'];omega
 ·intro p hp;rcases zz2.1 hp with hp|hp
  ·obtain⟨y,h1,h2⟩:=h.mem p (zz2.2 (.inl hp));exact⟨y,zz2.2 (.inl h1),h2⟩
  ·rcases zzj.1 hp with rfl|hp
   ·exact⟨(x,n),zz2.2 (.inr (zzg.2 rfl)),rfl⟩
   ·obtain⟨y,h1,h2⟩:=h.mem p (zz2.2 (.inr hp));exact⟨y,zz2.2 (.inl h1),h2⟩
 ·intro y hy;rcases zz2.1 hy with hy|hy
  ·obtain⟨p,h1,h2⟩:=h.all y hy;refine⟨p,?_,h2⟩;rcases zz2.1 h1 with h1|h1
   ·exact zz2.2 (.inl h1)
   ·exact zz2.2 (.inr (zz7 _ h1))
  ·rw[zzg.1 hy];exact⟨(x,n),zz2.2 (.inr (zz3 ..)),hC.refl x⟩
theorem zqm (hC:IsCmp c){l A B:List (α×Int)}{x:α}{p:α×Int}{n:Int}(h:SS c l (A++p::B))(hp:c p.1 x=0):SS c (l++[(x,n)]) (A++(p.1,p.2+n)::B):=by
 have hs:=h.strict;rw[List.pairwise_append,List.pairwise_cons]at hs;have hx:=hC.symm0 hp
 have hA: ∀q∈A,c q.1 x≠0:=fun q hq e=>by
  have:=hs.2.2 q hq p (zz3 ..);rw[hC.eqR q.1 hp]at this;omega
 have hB: ∀q∈B,c q.1 x≠0:=fun q hq e=>by
  have:=hs.2.1.1 q hq;rw[hC.eqL q.1 hp,hC.symm0 e]at this;omega
 refine⟨?_,?_,?_,?_⟩
 ·rw[List.pairwise_append,List.pairwise_cons];refine⟨hs.1,⟨hs.2.1.1,hs.2.1.2⟩,fun a ha b hb=>?_⟩;rcases zzj.1 hb with rfl|hb
  ·exact hs.2.2 a ha p (zz3 ..)
  ·exact hs.2.2 a ha b (zz7 _ hb)
 ·intro q hq;rw[z8i,znj];rcases zz2.1 hq with hq|hq
  ·rw[if_neg (hA q hq),h.sum q (zz2.2 (.inl hq))];omega
  ·rcases zzj.1 hq with rfl|hq
   ·simp only;rw[if_pos hp,h.sum p (zz2.2 (.inr (zz3 ..)))]
   ·rw[if_neg (hB q hq),h.sum q (zz2.2 (.inr (zz7 _ hq)))];omega
 ·intro q hq;have: ∃q'∈A++p::B,q'.1=q.1:=by
   rcases zz2.1 hq with hq|hq
   ·exact⟨q,zz2.2 (.inl hq),rfl⟩
   ·rcases zzj.1 hq with rfl|hq
    ·exact⟨p,zz2.2 (.inr (zz3 ..)),rfl⟩
    ·exact⟨q,zz2.2 (.inr (zz7 _ hq)),rfl⟩
  obtain⟨q',h1,h2⟩:=this;obtain⟨y,h3,h4⟩:=h.mem q' h1;exact⟨y,zz2.2 (.inl h3),h4.trans h2⟩
 ·intro y hy;rcases zz2.1 hy with hy|hy
  ·obtain⟨q,h1,h2⟩:=h.all y hy;rcases zz2.1 h1 with h1|h1
   ·exact⟨q,zz2.2 (.inl h1),h2⟩
   ·rcases zzj.1 h1 with rfl|h1
    ·exact⟨(q.1,q.2+n),zz2.2 (.inr (zz3 ..)),h2⟩
    ·exact⟨q,zz2.2 (.inr (zz7 _ h1)),h2⟩
  ·rw[zzg.1 hy];exact⟨(p.1,p.2+n),zz2.2 (.inr (zz3 ..)),hp⟩
def Fits (c:α→α→Int)(l:List (α×Int)):Prop:= ∀y,in64 (sm c l y)
theorem zl5 (hC:IsCmp c){l S:List (α×Int)}(h:SS c l S):Fits c l↔ ∀p∈S,in64 p.2:=by
 constructor
 ·intro hf p hp;rw[h.sum p hp];exact hf p.1
 ·intro hf y;by_cases e:sm c l y=0
  ·rw[e];unfold in64;omega
  ·obtain⟨q,h1,h2⟩:=zc5 e;obtain⟨p,h3,h4⟩:=h.all q h1;have e2:c p.1 y=0:=by rw[hC.eqL y h4];exact hC.symm0 h2
   rw[←z5v hC e2,←h.sum p h3];exact hf p h3
structure Res (c:α→α→Int) (num:α→Int) (put:α→Int→α) (l:List (α×Int)) (R:List α):Prop where
 strict:R.Pairwise fun a b=>c a b<0
 sum: ∀r∈R,num r=sm c l r∧num r≠0
 mem: ∀r∈R,∃y∈l,r=put y.1 (num r)
 all: ∀y∈l,sm c l y.1≠0→ ∃r∈R,c r y.1=0
def Tot (c:α→α→Int)(num:α→Int)(put:α→Int→α)(l:List (α×Int))(R:List α)(e:Int):Prop:=(e=0∧Res c num put l R∧Fits c l)∨(e=10∧R=[]∧ ¬Fits c l)
def left0 (put:α→Int→α)(S:List (α×Int)):List α:=(S.filter fun p=> !decide (p.2=0)).map fun p=>put p.1 p.2
theorem zqh (hC:IsCmp c){num:α→Int}{put:α→Int→α}(h1: ∀x n,num (put x n)=n)(h2: ∀x n y,c (put x n) y=c x y){l S:List (α×Int)}(h:SS c l S):Res c num put l (left0 put S):=by
 have h3: ∀x n y,c y (put x n)=c y x:=fun x n y=>by have:=hC.anti y (put x n);have:=hC.anti y x;have:=h2 x n y;omega
 unfold left0;refine⟨?_,?_,?_,?_⟩
 ·rw[List.pairwise_map];refine List.Pairwise.imp (fun{a b} hab=>?_) (h.strict.filter _);rw[h2,h3];exact hab
 ·intro r hr;obtain⟨p,hp,rfl⟩:=List.mem_map.1 hr;obtain⟨hp,hz⟩:=List.mem_filter.1 hp;rw[h1];refine⟨?_,by simpa using hz⟩;rw[z5v hC (show c (put p.1 p.2) p.1=0 by rw[h2];exact hC.refl _)];exact h.sum p hp
 ·intro r hr;obtain⟨p,hp,rfl⟩:=List.mem_map.1 hr;obtain⟨hp,hz⟩:=List.mem_filter.1 hp;obtain⟨y,g1,g2⟩:=h.mem p hp;exact⟨y,g1,by rw[h1,g2]⟩
 ·intro y hy hn;obtain⟨p,g1,g2⟩:=h.all y hy;refine⟨put p.1 p.2,List.mem_map.2 ⟨p,List.mem_filter.2 ⟨g1,?_⟩,rfl⟩,by rw[h2];exact g2⟩;have:=h.sum p g1
  rw[z5v hC g2]at this;simp only[Bool.not_eq_eq_eq_not,zzn,decide_eq_false_iff_not];omega
theorem zgr (hC:IsCmp c): ∀{R R':List α},R.Pairwise (fun a b=>c a b<0)→R'.Pairwise (fun a b=>c a b<0)→(∀x,x∈R↔x∈R')→R=R'
 |[],[],_,_,_=>rfl
 |[],x::_,_,_,h=>by cases (h x).2 (zz3 ..)
 |x::_,[],_,_,h=>by cases (h x).1 (zz3 ..)
 |a::R,b::R',h1,h2,h=>by
  rw[List.pairwise_cons]at h1 h2;have hab:a=b:=by
   rcases zzj.1 ((h a).1 (zz3 ..))with e|e
   ·exact e
   ·rcases zzj.1 ((h b).2 (zz3 ..))with e2|e2
    ·exact e2.symm
    ·have:=h2.1 a e;have:=h1.1 b e2;have:=hC.anti a b;omega
  subst hab;have ne1:a∉R:=fun g=>by have:=h1.1 a g;rw[hC.refl]at this;omega
  have ne2:a∉R':=fun g=>by have:=h2.1 a g;rw[hC.refl]at this;omega
  rw[zgr hC h1.2 h2.2 fun x=>?_];constructor
  ·intro hx;rcases zzj.1 ((h x).1 (zz7 _ hx))with rfl|g
   ·exact absurd hx ne1
   ·exact g
  ·intro hx;rcases zzj.1 ((h x).2 (zz7 _ hx))with rfl|g
   ·exact absurd hx ne2
   ·exact g
theorem zlu (hC:IsCmp c){num:α→Int}{put:α→Int→α}{l l':List (α×Int)}{R R':List α}(h:Res c num put l R)(h':Res c num put l' R')(hs: ∀y,sm c l y=sm c l' y)
 (hV: ∀r∈R,∀r'∈R',c r r'=0→num r=num r'→r=r'):R=R':=by
 refine zgr hC h.strict h'.strict fun x=>⟨fun hx=>?_,fun hx=>?_⟩
 ·obtain⟨e1,e2⟩:=h.sum x hx;rw[hs]at e1;obtain⟨y,hy,e3⟩:=zc5 (c:=c) (l:=l') (y:=x) (by omega);obtain⟨r,hr,e4⟩:=h'.all y hy (by rw[←z5v hC e3];omega);have e5:c x r=0:=by rw[hC.eqL r e3];exact hC.symm0 e4
  rw[hV x hx r hr e5 (by rw[(h'.sum r hr).1,←z5v hC e5];exact e1)];exact hr
 ·obtain⟨e1,e2⟩:=h'.sum x hx;rw[←hs]at e1;obtain⟨y,hy,e3⟩:=zc5 (c:=c) (l:=l) (y:=x) (by omega);obtain⟨r,hr,e4⟩:=h.all y hy (by rw[←z5v hC e3];omega);have e5:c r x=0:=by rw[hC.eqL x e4];exact hC.symm0 e3
  rw[←hV r hr x hx e5 (by rw[(h.sum r hr).1,z5v hC e5];omega)];exact hr
theorem zm1 (hC:IsCmp c){num:α→Int}{put:α→Int→α}{l l':List (α×Int)}{R R':List α}{e e':Int}(h:Tot c num put l R e)(h':Tot c num put l' R' e')(hs: ∀y,sm c l y=sm c l' y)
 (hV: ∀r∈R,∀r'∈R',c r r'=0→num r=num r'→r=r'):R=R'∧e=e':=by
 have hf:Fits c l↔Fits c l':=by unfold Fits;simp only[hs]
 rcases h with⟨rfl,h1,h2⟩|⟨rfl,rfl,h2⟩
 ·rcases h' with⟨rfl,g1,g2⟩|⟨rfl,rfl,g2⟩
  ·exact⟨zlu hC h1 g1 hs hV,rfl⟩
  ·exact absurd (hf.1 h2) g2
 ·rcases h' with⟨rfl,g1,g2⟩|⟨rfl,rfl,g2⟩
  ·exact absurd (hf.2 g2) h2
  ·exact⟨rfl,rfl⟩
theorem zqi (hC:IsCmp c){num:α→Int}{put:α→Int→α}{l:List (α×Int)}{R:List α}(h:Res c num put l R)(y:α):sm c (R.map fun r=>(r,num r)) y=sm c l y:=by
 by_cases e: ∃r∈R,c y r=0
 ·obtain⟨r,hr,e⟩:=e;rw[z5v hC e,z5v hC e,←(h.sum r hr).1];have hs:=h.strict
  clear h e;induction R with
  |nil=>cases hr
  |cons a R ih=>
   rw[List.pairwise_cons]at hs;simp only[List.map_cons,sm];rcases zzj.1 hr with rfl|hr
   ·rw[if_pos (hC.refl _),zah fun p hp=>?_]
    ·omega
    ·obtain⟨q,hq,rfl⟩:=List.mem_map.1 hp;have:=hs.1 q hq
     simp only;omega
   ·rw[if_neg (by have:=hs.1 r hr;have:=hC.anti r a;omega),ih hr hs.2];omega
 ·rw[zah fun p hp=>?_]
  ·apply Classical.byContradiction;intro hn;obtain⟨q,h1,h2⟩:=zc5 (c:=c) (l:=l) (y:=y) (fun h=>hn h.symm);obtain⟨r,h3,h4⟩:=h.all q h1 (by rw[←z5v hC h2];exact fun h=>hn h.symm);exact e ⟨r,h3,by rw[hC.eqL r h2];exact hC.symm0 h4⟩
  ·obtain⟨q,hq,rfl⟩:=List.mem_map.1 hp;exact fun h=>e ⟨q,hq,h⟩
end
end Go.Av
namespace Go.Av
open Go
section
variable {α:Type} [Inhabited α]
def insG (cmp:α→α→Option Int)(fuel:Nat)(p1:Int)(p2:Int)(l0:List α):Option (List α):=
 outK (loopN (S:=Int×(List α)) (R:=Empty) (fun(a1:Int×(List α))=>bf (decide (a1.1<p2)) (outK (loopN (S:=Int×(List α)) (R:=Empty) (fun(a3:Int×(List α))=>jn (fun(a5:Bool)=>bf a5 (need ((0:Int)≤(zzi.wrap (a3.1-1))∧(zzi.wrap (a3.1-1))<(a3.2.length:Int))<|need ((0+(zzi.wrap (a3.1-1)).toNat)<a3.2.length)<|need ((0:Int)≤a3.1∧a3.1<(a3.2.length:Int))<|need ((0+a3.1.toNat)<a3.2.length)<|need ((0:Int)≤a3.1∧a3.1<(a3.2.length:Int))<|need ((0+a3.1.toNat)<a3.2.length)<|need ((0:Int)≤(zzi.wrap (a3.1-1))∧(zzi.wrap (a3.1-1))<(a3.2.length:Int))<|need ((0+(zzi.wrap (a3.1-1)).toNat)<(a3.2.set (0+a3.1.toNat) (a3.2.getD (0+(zzi.wrap (a3.1-1)).toNat) zzd)).length)<|some (.next ((zzi.wrap (a3.1-1)),((a3.2.set (0+a3.1.toNat) (a3.2.getD (0+(zzi.wrap (a3.1-1)).toNat) zzd)).set (0+(zzi.wrap (a3.1-1)).toNat) (a3.2.getD (0+a3.1.toNat) zzd))))) (some (.brk (a3.1,a3.2)))) fun j6=>bf (decide (p1<a3.1)) (need ((0:Int)≤a3.1∧a3.1<(a3.2.length:Int))<|need ((0+a3.1.toNat)<a3.2.length)<|need ((0:Int)≤(zzi.wrap (a3.1-1))∧(zzi.wrap (a3.1-1))<(a3.2.length:Int))<|need ((0+(zzi.wrap (a3.1-1)).toNat)<a3.2.length)<|(cmp (a3.2.getD (0+a3.1.toNat) zzd) (a3.2.getD (0+(zzi.wrap (a3.1-1)).toNat) zzd)).bind fun r20=>j6 (decide (r20<0))) (j6 false)) fuel (a1.1,a1.2)) (fun(a4:Int×(List α))=>some (.next ((zzi.wrap (a1.1+1)),a4.2))) (fun(x:Empty)=>x.elim)) (some (.brk (a1.1,a1.2)))) fuel ((zzi.wrap (p1+1)),l0)) (fun(a2:Int×(List α))=>some a2.2) (fun(x:Empty)=>x.elim)
def swapG (fuel:Nat)(p1:Int)(p2:Int)(p3:Int)(l0:List α):Option (List α):=
 outK (loopN (S:=Int×(List α)) (R:=Empty) (fun(a1:Int×(List α))=>bf (decide (a1.1<p3)) (need ((0:Int)≤(zzi.wrap (p2+a1.1))∧(zzi.wrap (p2+a1.1))<(a1.2.length:Int))<|need ((0+(zzi.wrap (p2+a1.1)).toNat)<a1.2.length)<|need ((0:Int)≤(zzi.wrap (p1+a1.1))∧(zzi.wrap (p1+a1.1))<(a1.2.length:Int))<|need ((0+(zzi.wrap (p1+a1.1)).toNat)<a1.2.length)<|need ((0:Int)≤(zzi.wrap (p1+a1.1))∧(zzi.wrap (p1+a1.1))<(a1.2.length:Int))<|need ((0+(zzi.wrap (p1+a1.1)).toNat)<a1.2.length)<|need ((0:Int)≤(zzi.wrap (p2+a1.1))∧(zzi.wrap (p2+a1.1))<(a1.2.length:Int))<|need ((0+(zzi.wrap (p2+a1.1)).toNat)<(a1.2.set (0+(zzi.wrap (p1+a1.1)).toNat) (a1.2.getD (0+(zzi.wrap (p2+a1.1)).toNat) zzd)).length)<|some (.next ((zzi.wrap (a1.1+1)),((a1.2.set (0+(zzi.wrap (p1+a1.1)).toNat) (a1.2.getD (0+(zzi.wrap (p2+a1.1)).toNat) zzd)).set (0+(zzi.wrap (p2+a1.1)).toNat) (a1.2.getD (0+(zzi.wrap (p1+a1.1)).toNat) zzd))))) (some (.brk (a1.1,a1.2)))) fuel (0,l0)) (fun(a2:Int×(List α))=>some a2.2) (fun(x:Empty)=>x.elim)
def rotG (fuel:Nat)(p1:Int)(p2:Int)(p3:Int)(l0:List α):Option (List α):=
 outK (loopN (S:=Int×Int×(List α)) (R:=Empty) (fun(a1:Int×Int×(List α))=>bf (!decide (a1.1=a1.2.1)) (bf (decide (a1.2.1<a1.1)) ((swapG fuel (zzi.wrap (p2-a1.1)) p2 a1.2.1 a1.2.2).bind fun r4=>need (r4.length=a1.2.2.length)<|some (.next ((zzi.wrap (a1.1-a1.2.1)),a1.2.1,r4))) ((swapG fuel (zzi.wrap (p2-a1.1)) (zzi.wrap ((zzi.wrap (p2+a1.2.1))-a1.1)) a1.1 a1.2.2).bind fun r6=>need (r6.length=a1.2.2.length)<|some (.next (a1.1,(zzi.wrap (a1.2.1-a1.1)),r6)))) (some (.brk (a1.1,a1.2.1,a1.2.2)))) fuel ((zzi.wrap (p2-p1)),(zzi.wrap (p3-p2)),l0)) (fun(a2:Int×Int×(List α))=>(swapG fuel (zzi.wrap (p2-a2.1)) p2 a2.1 a2.2.2).bind fun r3=>some r3) (fun(x:Empty)=>x.elim)
def symG (cmp:α→α→Option Int):Nat→Int→Int→Int→(List α)→Option (List α)
 |0,_,_,_,_=>none
 |fuel+1,p1,p2,p3,l0=>
 bf (decide ((zzi.wrap (p2-p1))=1)) (outK (loopN (S:=Int×Int) (R:=Empty) (fun(a1:Int×Int)=>bf (decide (a1.1<a1.2)) (need ((0:Int)≤(zzi.wrap (shrOp .u64 (zzu.wrap (zzi.wrap (a1.1+a1.2))) 1))∧(zzi.wrap (shrOp .u64 (zzu.wrap (zzi.wrap (a1.1+a1.2))) 1))<(l0.length:Int))<|need ((0+(zzi.wrap (shrOp .u64 (zzu.wrap (zzi.wrap (a1.1+a1.2))) 1)).toNat)<l0.length)<|need ((0:Int)≤p1∧p1<(l0.length:Int))<|need ((0+p1.toNat)<l0.length)<|(cmp (l0.getD (0+(zzi.wrap (shrOp .u64 (zzu.wrap (zzi.wrap (a1.1+a1.2))) 1)).toNat) zzd) (l0.getD (0+p1.toNat) zzd)).bind fun r17=>bf (decide (r17<0)) (some (.next ((zzi.wrap ((zzi.wrap (shrOp .u64 (zzu.wrap (zzi.wrap (a1.1+a1.2))) 1))+1)),a1.2))) (some (.next (a1.1,(zzi.wrap (shrOp .u64 (zzu.wrap (zzi.wrap (a1.1+a1.2))) 1)))))) (some (.brk (a1.1,a1.2)))) fuel (p2,p3)) (fun(a2:Int×Int)=>outK (loopN (S:=Int×(List α)) (R:=Empty) (fun(a3:Int×(List α))=>bf (decide (a3.1<(zzi.wrap (a2.1-1)))) (need ((0:Int)≤(zzi.wrap (a3.1+1))∧(zzi.wrap (a3.1+1))<(a3.2.length:Int))<|need ((0+(zzi.wrap (a3.1+1)).toNat)<a3.2.length)<|need ((0:Int)≤a3.1∧a3.1<(a3.2.length:Int))<|need ((0+a3.1.toNat)<a3.2.length)<|need ((0:Int)≤a3.1∧a3.1<(a3.2.length:Int))<|need ((0+a3.1.toNat)<a3.2.length)<|need ((0:Int)≤(zzi.wrap (a3.1+1))∧(zzi.wrap (a3.1+1))<(a3.2.length:Int))<|need ((0+(zzi.wrap (a3.1+1)).toNat)<(a3.2.set (0+a3.1.toNat) (a3.2.getD (0+(zzi.wrap (a3.1+1)).toNat) zzd)).length)<|some (.next ((zzi.wrap (a3.1+1)),((a3.2.set (0+a3.1.toNat) (a3.2.getD (0+(zzi.wrap (a3.1+1)).toNat) zzd)).set (0+(zzi.wrap (a3.1+1)).toNat) (a3.2.getD (0+a3.1.toNat) zzd))))) (some (.brk (a3.1,a3.2)))) fuel (p1,l0)) (fun(a4:Int×(List α))=>some a4.2) (fun(x:Empty)=>x.elim)) (fun(x:Empty)=>x.elim)) (bf (decide ((zzi.wrap (p3-p2))=1)) (outK (loopN (S:=Int×Int) (R:=Empty) (fun(a18:Int×Int)=>bf (decide (a18.1<a18.2)) (need ((0:Int)≤p2∧p2<(l0.length:Int))<|need ((0+p2.toNat)<l0.length)<|need ((0:Int)≤(zzi.wrap (shrOp .u64 (zzu.wrap (zzi.wrap (a18.1+a18.2))) 1))∧(zzi.wrap (shrOp .u64 (zzu.wrap (zzi.wrap (a18.1+a18.2))) 1))<(l0.length:Int))<|need ((0+(zzi.wrap (shrOp .u64 (zzu.wrap (zzi.wrap (a18.1+a18.2))) 1)).toNat)<l0.length)<|(cmp (l0.getD (0+p2.toNat) zzd) (l0.getD (0+(zzi.wrap (shrOp .u64 (zzu.wrap (zzi.wrap (a18.1+a18.2))) 1)).toNat) zzd)).bind fun r34=>bf (!(decide (r34<0))) (some (.next ((zzi.wrap ((zzi.wrap (shrOp .u64 (zzu.wrap (zzi.wrap (a18.1+a18.2))) 1))+1)),a18.2))) (some (.next (a18.1,(zzi.wrap (shrOp .u64 (zzu.wrap (zzi.wrap (a18.1+a18.2))) 1)))))) (some (.brk (a18.1,a18.2)))) fuel (p1,p2)) (fun(a19:Int×Int)=>outK (loopN (S:=Int×(List α)) (R:=Empty) (fun(a20:Int×(List α))=>bf (decide (a19.1<a20.1)) (need ((0:Int)≤(zzi.wrap (a20.1-1))∧(zzi.wrap (a20.1-1))<(a20.2.length:Int))<|need ((0+(zzi.wrap (a20.1-1)).toNat)<a20.2.length)<|need ((0:Int)≤a20.1∧a20.1<(a20.2.length:Int))<|need ((0+a20.1.toNat)<a20.2.length)<|need ((0:Int)≤a20.1∧a20.1<(a20.2.length:Int))<|need ((0+a20.1.toNat)<a20.2.length)<|need ((0:Int)≤(zzi.wrap (a20.1-1))∧(zzi.wrap (a20.1-1))<(a20.2.length:Int))<|need ((0+(zzi.wrap (a20.1-1)).toNat)<(a20.2.set (0+a20.1.toNat) (a20.2.getD (0+(zzi.wrap (a20.1-1)).toNat) zzd)).length)<|some (.next ((zzi.wrap (a20.1-1)),((a20.2.set (0+a20.1.toNat) (a20.2.getD (0+(zzi.wrap (a20.1-1)).toNat) zzd)).set (0+(zzi.wrap (a20.1-1)).toNat) (a20.2.getD (0+a20.1.toNat) zzd))))) (some (.brk (a20.1,a20.2)))) fuel (p2,l0)) (fun(a21:Int×(List α))=>some a21.2) (fun(x:Empty)=>x.elim)) (fun(x:Empty)=>x.elim)) (jn (fun(a35:Int×Int×Int×Int)=>outK (loopN (S:=Int×Int) (R:=Empty) (fun(a37:Int×Int)=>bf (decide (a37.1<a37.2)) (need ((0:Int)≤(zzi.wrap ((zzi.wrap (a35.2.1-1))-(zzi.wrap (shrOp .u64 (zzu.wrap (zzi.wrap (a37.1+a37.2))) 1))))∧(zzi.wrap ((zzi.wrap (a35.2.1-1))-(zzi.wrap (shrOp .u64 (zzu.wrap (zzi.wrap (a37.1+a37.2))) 1))))<(l0.length:Int))<|need ((0+(zzi.wrap ((zzi.wrap (a35.2.1-1))-(zzi.wrap (shrOp .u64 (zzu.wrap (zzi.wrap (a37.1+a37.2))) 1)))).toNat)<l0.length)<|need ((0:Int)≤(zzi.wrap (shrOp .u64 (zzu.wrap (zzi.wrap (a37.1+a37.2))) 1))∧(zzi.wrap (shrOp .u64 (zzu.wrap (zzi.wrap (a37.1+a37.2))) 1))<(l0.length:Int))<|need ((0+(zzi.wrap (shrOp .u64 (zzu.wrap (zzi.wrap (a37.1+a37.2))) 1)).toNat)<l0.length)<|(cmp (l0.getD (0+(zzi.wrap ((zzi.wrap (a35.2.1-1))-(zzi.wrap (shrOp .u64 (zzu.wrap (zzi.wrap (a37.1+a37.2))) 1)))).toNat) zzd) (l0.getD (0+(zzi.wrap (shrOp .u64 (zzu.wrap (zzi.wrap (a37.1+a37.2))) 1)).toNat) zzd)).bind fun r58=>bf (!(decide (r58<0))) (some (.next ((zzi.wrap ((zzi.wrap (shrOp .u64 (zzu.wrap (zzi.wrap (a37.1+a37.2))) 1))+1)),a37.2))) (some (.next (a37.1,(zzi.wrap (shrOp .u64 (zzu.wrap (zzi.wrap (a37.1+a37.2))) 1)))))) (some (.brk (a37.1,a37.2)))) fuel (a35.2.2.1,a35.2.2.2)) (fun(a38:Int×Int)=>jn (fun(a39:Int×(List α))=>jn (fun(a41:List α)=>jn (fun(a43:Bool)=>bf a43 ((symG cmp fuel a35.1 a39.1 p3 a41).bind fun r45=>some r45) (some a41)) fun j44=>bf (decide (a35.1<a39.1)) (j44 (decide (a39.1<p3))) (j44 false)) fun j42=>jn (fun(a46:Bool)=>bf a46 ((symG cmp fuel p1 a38.1 a35.1 a39.2).bind fun r48=>need (r48.length=a39.2.length)<|j42 r48) (j42 a39.2)) fun j47=>bf (decide (p1<a38.1)) (j47 (decide (a38.1<a35.1))) (j47 false)) fun j40=>jn (fun(a50:Int×Bool)=>bf a50.2 ((rotG fuel a38.1 p2 a50.1 l0).bind fun r52=>need (r52.length=l0.length)<|j40 (a50.1,r52)) (j40 (a50.1,l0))) fun j51=>bf (decide (a38.1<p2)) (j51 ((zzi.wrap (a35.2.1-a38.1)),(decide (p2<(zzi.wrap (a35.2.1-a38.1)))))) (j51 ((zzi.wrap (a35.2.1-a38.1)),false))) (fun(x:Empty)=>x.elim)) fun j36=>bf (decide ((zzi.wrap (shrOp .u64 (zzu.wrap (zzi.wrap (p1+p3))) 1))<p2)) (j36 ((zzi.wrap (shrOp .u64 (zzu.wrap (zzi.wrap (p1+p3))) 1)),(zzi.wrap ((zzi.wrap (shrOp .u64 (zzu.wrap (zzi.wrap (p1+p3))) 1))+p2)),(zzi.wrap ((zzi.wrap ((zzi.wrap (shrOp .u64 (zzu.wrap (zzi.wrap (p1+p3))) 1))+p2))-p3)),(zzi.wrap (shrOp .u64 (zzu.wrap (zzi.wrap (p1+p3))) 1)))) (j36 ((zzi.wrap (shrOp .u64 (zzu.wrap (zzi.wrap (p1+p3))) 1)),(zzi.wrap ((zzi.wrap (shrOp .u64 (zzu.wrap (zzi.wrap (p1+p3))) 1))+p2)),p1,p2))))
def stabG (cmp:α→α→Option Int)(fuel:Nat)(p1:Int)(l0:List α):Option (List α):=
 outK (loopN (S:=Int×Int×(List α)) (R:=Empty) (fun(a1:Int×Int×(List α))=>bf (decide (a1.2.1≤p1)) ((insG cmp fuel a1.1 a1.2.1 a1.2.2).bind fun r15=>need (r15.length=a1.2.2.length)<|some (.next (a1.2.1,(zzi.wrap (a1.2.1+20)),r15))) (some (.brk (a1.1,a1.2.1,a1.2.2)))) fuel (0,20,l0)) (fun(a2:Int×Int×(List α))=>(insG cmp fuel a2.1 p1 a2.2.2).bind fun r3=>need (r3.length=a2.2.2.length)<|outK (loopN (S:=Int×(List α)) (R:=Empty) (fun(a5:Int×(List α))=>bf (decide (a5.1<p1)) (outK (loopN (S:=Int×Int×(List α)) (R:=Empty) (fun(a7:Int×Int×(List α))=>bf (decide (a7.2.1≤p1)) ((symG cmp fuel a7.1 (zzi.wrap (a7.1+a5.1)) a7.2.1 a7.2.2).bind fun r13=>need (r13.length=a7.2.2.length)<|some (.next (a7.2.1,(zzi.wrap (a7.2.1+(zzi.wrap ((2:Int)*a5.1)))),r13))) (some (.brk (a7.1,a7.2.1,a7.2.2)))) fuel (0,(zzi.wrap ((2:Int)*a5.1)),a5.2)) (fun(a8:Int×Int×(List α))=>jn (fun(a9:List α)=>some (.next ((zzi.wrap (a5.1*2)),a9))) fun j10=>bf (decide ((zzi.wrap (a8.1+a5.1))<p1)) ((symG cmp fuel a8.1 (zzi.wrap (a8.1+a5.1)) p1 a8.2.2).bind fun r11=>need (r11.length=a8.2.2.length)<|j10 r11) (j10 a8.2.2)) (fun(x:Empty)=>x.elim)) (some (.brk (a5.1,a5.2)))) fuel (20,r3)) (fun(a6:Int×(List α))=>some a6.2) (fun(x:Empty)=>x.elim)) (fun(x:Empty)=>x.elim)
end
end Go.Av
namespace Go.Av
open Go
section
variable {α:Type} [Inhabited α]
theorem z7s (d:Array α)(j:Nat):d.toList.getD j zzd=d[j]! :=by
 rw[List.getD_eq_getElem?_getD,Array.getElem?_toList,getElem!_def];cases d[j]?<;>rfl
theorem zeg (d:Array α)(i j:Nat):(d.toList.set i d[j]!).set j d[i]! =(Sort.swp d i j).toList:=by
 unfold Sort.swp;rw[Array.toList_setIfInBounds,Array.toList_setIfInBounds]
theorem zc7 (d:Array α)(i j:Nat):(Sort.swp d i j).size=d.size:=by unfold Sort.swp;simp
theorem wsub1 {j:Nat}(h1:1≤j)(h:j<4611686018427387904):zzi.wrap ((j:Int)-1)=((j-1:Nat):Int):=by
 rw[z23 (by omega) (by omega)];omega
theorem wadd1 {j:Nat}(h:j<4611686018427387904):zzi.wrap ((j:Int)+1)=((j+1:Nat):Int):=by
 rw[z23 (by omega) (by omega)];omega
theorem wsub {i j:Nat}(h1:j≤i)(h:i<4611686018427387904):zzi.wrap ((i:Int)-(j:Int))=((i-j:Nat):Int):=by
 rw[z23 (by omega) (by omega)];omega
theorem wadd {i j:Nat}(h:i+j<4611686018427387904):zzi.wrap ((i:Int)+(j:Int))=((i+j:Nat):Int):=by
 rw[z23 (by omega) (by omega)];omega
theorem wtwo {i:Nat}(h:2*i<4611686018427387904):zzi.wrap ((2:Int)*(i:Int))=((2*i:Nat):Int):=by
 rw[z23 (by omega) (by omega)];omega
theorem intle {i j:Nat}:((i:Int)≤(j:Int))=(i≤j):=propext (by omega)
theorem intlt {i j:Nat}:((i:Int)<(j:Int))=(i<j):=propext (by omega)
theorem z4i {S R:Type}{B:S→Option (Ctl S R)}{fuel:Nat}{s s':S}(h:B s=some (.next s')):loopN B (fuel+1) s=loopN B fuel s':=by rw[loopN,h]
theorem z46 {S R:Type}{B:S→Option (Ctl S R)}{fuel:Nat}{s s':S}(h:B s=some (.brk s')):loopN B (fuel+1) s=some (.done s'):=by rw[loopN,h]
theorem zn2 {S R:Type}{B:S→Option (Ctl S R)}{fuel:Nat}{s:S}{r:R}(h:B s=some (.ret r)):loopN B (fuel+1) s=some (.ret r):=by rw[loopN,h]
theorem zc2 {X Y R Q:Type}{o:Option (Out (X×Y) R)}{kn:X×Y→Option Q}{kr:R→Option Q}{r:Y}{q:Option Q}(h: ∃x:X,o=some (.done (x,r)))(hk: ∀x,kn (x,r)=q):outK o kn kr=q:=by
 obtain⟨x,h⟩:=h;rw[h];exact hk x
end
end Go.Av
namespace Go.Av
open Go
section
variable {α:Type} [Inhabited α]
theorem zjr (d:Array α){i j:Nat}(hi:i<d.size)(hj:j<d.size)(k:Nat):(Sort.swp d i j)[k]! =if k=j then d[i]! else if k=i then d[j]! else d[k]! :=Sort.swp_get d hi hj k
def swpN (p q:Nat):Nat→Array α→Array α
 |0,d=>d
 |k+1,d=>Sort.swp (swpN p q k d) (p+k) (q+k)
theorem z62 (p q:Nat): ∀(n:Nat) (d:Array α),(swpN p q n d).size=d.size
 |0,d=>rfl
 |k+1,d=>by unfold swpN;rw[zc7,z62 p q k]
def srF (p q n:Nat)(d:Array α)(x:Nat):α:=if p≤x∧x<p+n then d[x-p+q]! else if q≤x∧x<q+n then d[x-q+p]! else d[x]!
theorem zcy {p q:Nat}{d:Array α}: ∀{n:Nat},(p+n≤q∨q+n≤p)→p+n≤d.size→q+n≤d.size→ ∀x,(swpN p q n d)[x]! =srF p q n d x
 |0,_,_,_,x=>by
  unfold swpN srF;rw[if_neg (by omega),if_neg (by omega)]
 |k+1,h,hp,hq,x=>by
  have ih:=zcy (p:=p) (q:=q) (d:=d) (n:=k) (by omega) (by omega) (by omega);unfold swpN;rw[zjr _ (by rw[z62];omega) (by rw[z62];omega),ih,ih,ih];unfold srF;by_cases h1:x=q+k
  ·subst h1;rw[if_pos rfl,if_neg (by omega),if_neg (by omega),if_neg (by omega),if_pos (by omega)];congr 1;omega
  ·rw[if_neg h1];by_cases h2:x=p+k
   ·subst h2;rw[if_pos rfl,if_neg (by omega),if_neg (by omega),if_pos (by omega)];congr 1;omega
   ·rw[if_neg h2];by_cases h3:p≤x∧x<p+k
    ·rw[if_pos h3,if_pos (by omega)]
    ·rw[if_neg h3,if_neg (show ¬(p≤x∧x<p+(k+1))by omega)];by_cases h4:q≤x∧x<q+k
     ·rw[if_pos h4,if_pos (by omega)]
     ·rw[if_neg h4,if_neg (by omega)]
theorem zbi {p q a b:Nat}{d:Array α}(hb:b≤d.size): ∀{n:Nat},a≤p→a≤q→p+n≤b→q+n≤b→Sort.PermIn a b d (swpN p q n d)
 |0,_,_,_,_=>Sort.permIn_refl d a b
 |k+1,h1,h2,h3,h4=>by
  unfold swpN;exact Sort.permIn_trans _ _ _ a b (zbi hb h1 h2 (by omega) (by omega)) (Sort.swp_permIn _ a b _ _ (by omega) (by omega) (by omega) (by omega) (by rw[z62];exact hb))
theorem znn {R:Type}{B:Int×List α→Option (Ctl (Int×List α) R)}{p q n fuel:Nat}{d:Array α}(hf:n<fuel)
 (hB: ∀(i:Nat) (d':Array α),d'.size=d.size→i≤n→B ((i:Int),d'.toList)=if i<n then some (.next (((i+1:Nat):Int),(Sort.swp d' (p+i) (q+i)).toList))else some (.brk ((i:Int),d'.toList))):
 ∃x:Int,loopN B fuel ((0:Int),d.toList)=some (.done (x,(swpN p q n d).toList)):=by
 have key: ∀k i fuel,i+k=n→k<fuel→ ∃x:Int,loopN B fuel ((i:Int),(swpN p q i d).toList)=some (.done (x,(swpN p q n d).toList)):=by
  intro k;induction k with
  |zero=>
   intro i fuel hi hf;cases fuel with
   |zero=>omega
   |succ fuel=>
    have h:=hB i (swpN p q i d) (z62 ..) (by omega);rw[if_neg (by omega)]at h;rw[z46 h,show i=n by omega];exact⟨_,rfl⟩
  |succ k ih=>
   intro i fuel hi hf;cases fuel with
   |zero=>omega
   |succ fuel=>
    have h:=hB i (swpN p q i d) (z62 ..) (by omega);rw[if_pos (by omega)]at h;rw[z4i h];exact ih (i+1) fuel (by omega) (by omega)
 exact key n 0 fuel (by omega) hf
def rotF (a m b:Nat)(d:Array α)(x:Nat):α:=if a≤x∧x<a+(b-m)then d[x-a+m]! else if a+(b-m)≤x∧x<b then d[x-(a+(b-m))+a]! else d[x]!
structure RotTo (a m b:Nat) (d d':Array α):Prop where
 perm:Sort.PermIn a b d d'
 get: ∀x,d'[x]! =rotF a m b d x
theorem zok {m i j:Nat}{d:Array α}(him:i≤m)(hij:j<i)(x:Nat)(d':Array α)(hd': ∀x,d'[x]! =srF (m-i) m j d x):rotF (m-i+j) m (m+j) d' x=rotF (m-i) m (m+j) d x:=by
 unfold rotF;rw[hd',hd',hd'];unfold srF
 repeat' split
 all_goals first|omega|(congr 1;done)|(congr 1;omega)
theorem zng {m i j:Nat}{d:Array α}(him:i≤m)(hij:i<j)(x:Nat)(d':Array α)(hd': ∀x,d'[x]! =srF (m-i) (m+j-i) i d x):rotF (m-i) m (m+j-i) d' x=rotF (m-i) m (m+j) d x:=by
 unfold rotF;rw[hd',hd',hd'];unfold srF
 repeat' split
 all_goals first|omega|(congr 1;done)|(congr 1;omega)
theorem zoj {m i:Nat}{d:Array α}(him:i≤m)(x:Nat):srF (m-i) m i d x=rotF (m-i) m (m+i) d x:=by
 unfold rotF srF
 repeat' split
 all_goals first|omega|(congr 1;done)|(congr 1;omega)
theorem zol {R:Type}{B:Int×Int×List α→Option (Ctl (Int×Int×List α) R)}{m a b:Nat}{d0:Array α}(hb:b≤d0.size): ∀(n i j fuel:Nat) (d:Array α),i+j≤n→n<fuel→1≤i→1≤j→a≤m-i→i≤m→m+j≤b→d.size=d0.size→
 (∀(i j:Nat) (d':Array α),d'.size=d0.size→1≤i→1≤j→i≤m→m+j≤b→B ((i:Int),(j:Int),d'.toList)=if i=j then some (.brk ((i:Int),(j:Int),d'.toList))else if j<i then some (.next (((i-j:Nat):Int),(j:Int),(swpN (m-i) m j d').toList))else some (.next ((i:Int),((j-i:Nat):Int),(swpN (m-i) (m+j-i) i d').toList)))→
 ∃(k:Nat) (d':Array α),loopN B fuel ((i:Int),(j:Int),d.toList)=some (.done ((k:Int),(k:Int),d'.toList))∧1≤k∧k≤i∧k≤j∧d'.size=d.size∧Sort.PermIn a b d d'∧ ∀x,rotF (m-k) m (m+k) d' x=rotF (m-i) m (m+j) d x:=by
 intro n;induction n with
 |zero=>intro i j fuel d hn hf h1 h2;omega
 |succ n ih=>
  intro i j fuel d hn hf h1 h2 h3 h4 h5 h6 hB;cases fuel with
  |zero=>omega
  |succ fuel=>
   have h:=hB i j d h6 h1 h2 h4 h5;by_cases e:i=j
   ·rw[if_pos e]at h;subst e;exact⟨i,d,z46 h,h1,zzf _,zzf _,rfl,Sort.permIn_refl d a b,fun x=>rfl⟩
   ·rw[if_neg e]at h;by_cases hl:j<i
    ·rw[if_pos hl]at h;obtain⟨k,d',g1,g2,g3,g4,g5,g6,g7⟩:=ih (i-j) j fuel (swpN (m-i) m j d) (by omega) (by omega) (by omega) h2 (by omega) (by omega) h5 (by rw[z62];exact h6) hB;refine⟨k,d',by rw[z4i h,g1],g2,by omega,g4,by rw[g5,z62],Sort.permIn_trans _ _ _ a b (zbi (by omega) (by omega) (by omega) (by omega) (by omega)) g6,fun x=>?_⟩;rw[g7];have:=zok (m:=m) (i:=i) (j:=j) (d:=d) h4 hl x (swpN (m-i) m j d) (zcy (by omega) (by omega) (by omega))
     rw[show m-(i-j)=m-i+j by omega];exact this
    ·rw[if_neg hl]at h;obtain⟨k,d',g1,g2,g3,g4,g5,g6,g7⟩:=ih i (j-i) fuel (swpN (m-i) (m+j-i) i d) (by omega) (by omega) h1 (by omega) h3 h4 (by omega) (by rw[z62];exact h6) hB;refine⟨k,d',by rw[z4i h,g1],g2,g3,by omega,by rw[g5,z62],Sort.permIn_trans _ _ _ a b (zbi (by omega) (by omega) (by omega) (by omega) (by omega)) g6,fun x=>?_⟩;rw[g7];have:=zng (m:=m) (i:=i) (j:=j) (d:=d) h4 (by omega) x (swpN (m-i) (m+j-i) i d) (zcy (by omega) (by omega) (by omega))
     rw[show m+(j-i)=m+j-i by omega];exact this
end
end Go.Av
namespace Go.Av
open Go
section
variable {α:Type} [Inhabited α]
theorem zkk {R:Type}{B:Int×Int→Option (Ctl (Int×Int) R)}{P:Nat→Bool}{i0 j0:Nat}: ∀(n i j fuel:Nat),j-i≤n→n<fuel→i0≤i→i≤j→j≤j0→(i=i0∨P (i-1)=true)→(j=j0∨P j=false)→
 (∀i j:Nat,i0≤i→i≤j→j≤j0→B ((i:Int),(j:Int))=if i<j then(if P ((i+j) / 2)=true then some (.next ((((i+j) / 2+1:Nat):Int),(j:Int)))else some (.next ((i:Int),(((i+j) / 2:Nat):Int))))else some (.brk ((i:Int),(j:Int))))→
 ∃r:Nat,loopN B fuel ((i:Int),(j:Int))=some (.done ((r:Int),(r:Int)))∧i0≤r∧r≤j0∧(r=i0∨P (r-1)=true)∧(r=j0∨P r=false):=by
 intro n;induction n with
 |zero=>
  intro i j fuel hn hf h1 h2 h3 h4 h5 hB;cases fuel with
  |zero=>omega
  |succ fuel=>
   have h:=hB i j h1 h2 h3;rw[if_neg (by omega)]at h;have:i=j:=by omega
   subst this;exact⟨i,z46 h,h1,h3,h4,h5⟩
 |succ n ih=>
  intro i j fuel hn hf h1 h2 h3 h4 h5 hB;cases fuel with
  |zero=>omega
  |succ fuel=>
   have h:=hB i j h1 h2 h3;by_cases hl:i<j
   ·rw[if_pos hl]at h;by_cases hp:P ((i+j) / 2)=true
    ·rw[if_pos hp]at h;rw[z4i h];exact ih _ j fuel (by omega) (by omega) (by omega) (by omega) h3 (.inr (by rw[Nat.add_sub_cancel];exact hp)) h5 hB
    ·rw[if_neg hp]at h;rw[z4i h];exact ih i _ fuel (by omega) (by omega) h1 (by omega) (by omega) h4 (.inr (by simpa using hp)) hB
   ·rw[if_neg hl]at h;have:i=j:=by omega
    subst this;exact⟨i,z46 h,h1,h3,h4,h5⟩
variable {lt:α→α→Bool}
theorem glue2 {a mid b:Nat}{d:Array α}(h1:Sort.SortedIn lt a mid d)(h2:Sort.SortedIn lt mid b d)(hx: ∀x y,a≤x→x<mid→mid≤y→y<b→lt d[y]! d[x]! =false):Sort.SortedIn lt a b d:=by
 intro i j hi hij hj;by_cases h3:j<mid
 ·exact h1 i j hi hij h3
 ·by_cases h4:mid≤i
  ·exact h2 i j h4 hij hj
  ·exact hx i j hi (by omega) (by omega) hj
theorem ze4 (hS:Sort.SWO lt){a m b s e:Nat}{d d':Array α}(h1:Sort.SortedIn lt a m d)(h2:Sort.SortedIn lt m b d)(hs:a≤s∧s≤m)(he:m≤e∧e≤b)(hr: ∀x,d'[x]! =rotF s m e d x)
 (hA:s=a∨e=b∨lt d[e]! d[s-1]! =false) (hB:s=m∨e=m∨lt d[e-1]! d[s]! =true):
 (∀x y,a≤x→x<s+(e-m)→s+(e-m)≤y→y<b→lt d'[y]! d'[x]! =false)∧Sort.SortedIn lt a s d'∧Sort.SortedIn lt s (s+(e-m)) d'∧Sort.SortedIn lt (s+(e-m)) e d'∧Sort.SortedIn lt e b d':=by
 --where each one comes from
 have f1: ∀x,x<s→d'[x]! =d[x]! :=fun x hx=>by rw[hr];unfold rotF;rw[if_neg (by omega),if_neg (by omega)]
 have f2: ∀x,s≤x→x<s+(e-m)→d'[x]! =d[x-s+m]! :=fun x hx hy=>by rw[hr];unfold rotF;rw[if_pos (by omega)]
 have f3: ∀x,s+(e-m)≤x→x<e→d'[x]! =d[x-(s+(e-m))+s]! :=fun x hx hy=>by rw[hr];unfold rotF;rw[if_neg (by omega),if_pos (by omega)]
 have f4: ∀x,e≤x→d'[x]! =d[x]! :=fun x hx=>by rw[hr];unfold rotF;rw[if_neg (by omega),if_neg (by omega)]
 have le1: ∀x y,a≤x→x≤y→y<m→lt d[y]! d[x]! =false:=fun x y g1 g2 g3=>by
  by_cases g:x=y
  ·subst g;exact hS.irrefl _
  ·exact h1 x y g1 (by omega) g3
 have le2: ∀x y,m≤x→x≤y→y<b→lt d[y]! d[x]! =false:=fun x y g1 g2 g3=>by
  by_cases g:x=y
  ·subst g;exact hS.irrefl _
  ·exact h2 x y g1 (by omega) g3
 refine⟨?_,?_,?_,?_,?_⟩
 ·intro x y hx1 hx2 hy1 hy2;by_cases c1:x<s
  ·rw[f1 x c1];by_cases c2:y<e
   ·rw[f3 y hy1 c2];exact le1 _ _ hx1 (by omega) (by omega)
   ·rw[f4 y (by omega)];rcases hA with h|h|h
    ·omega
    ·omega
    ·exact hS.ntrans _ _ _ (hS.ntrans _ _ _ (le2 e y (by omega) (by omega) hy2) h) (le1 x (s-1) hx1 (by omega) (by omega))
  ·rw[f2 x (by omega) hx2];by_cases c2:y<e
   ·rw[f3 y hy1 c2];rcases hB with h|h|h
    ·omega
    ·omega
    ·exact hS.ntrans _ _ _ (hS.ntrans _ _ _ (le1 s _ hs.1 (by omega) (by omega)) (hS.asymm h)) (le2 (x-s+m) (e-1) (by omega) (by omega) (by omega))
   ·rw[f4 y (by omega)];exact le2 _ _ (by omega) (by omega) hy2
 ·intro i j hi hij hj;rw[f1 i (by omega),f1 j hj];exact h1 i j hi hij (by omega)
 ·intro i j hi hij hj;rw[f2 i hi (by omega),f2 j (by omega) hj];exact h2 _ _ (by omega) (by omega) (by omega)
 ·intro i j hi hij hj;rw[f3 i hi (by omega),f3 j (by omega) hj];exact h1 _ _ (by omega) (by omega) (by omega)
 ·intro i j hi hij hj;rw[f4 i hi,f4 j (by omega)];exact h2 i j (by omega) hij hj
structure MergeTo (lt:α→α→Bool) (a b:Nat) (d d':Array α):Prop where
 perm:Sort.PermIn a b d d'
 sorted:Sort.SortedIn lt a b d'
theorem zje (hS:Sort.SWO lt){a mid b:Nat}{d d1 d2 d3:Array α}(hab:a≤mid∧mid≤b)(hb:b≤d.size)(hp:Sort.PermIn a b d d1)
 (hx: ∀x y,a≤x→x<mid→mid≤y→y<b→lt d1[y]! d1[x]! =false) (h2:MergeTo lt a mid d1 d2) (h3:MergeTo lt mid b d2 d3):MergeTo lt a b d d3:=by
 have s1:d1.size=d.size:=hp.1;have s2:d2.size=d1.size:=h2.perm.1
 have p2:Sort.PermIn a b d1 d2:=Sort.permIn_mono _ _ a mid a b (zzf _) hab.2 (by omega) h2.perm;have p3:Sort.PermIn a b d2 d3:=Sort.permIn_mono _ _ mid b a b hab.1 (zzf _) (by omega) h3.perm
 refine⟨Sort.permIn_trans _ _ _ a b hp (Sort.permIn_trans _ _ _ a b p2 p3),glue2 (mid:=mid) ?_ h3.sorted ?_⟩
 ·intro i j hi hij hj;rw[h3.perm.2.1 i (.inl (by omega)),h3.perm.2.1 j (.inl hj)];exact h2.sorted i j hi hij hj
 ·have c1: ∀x y,a≤x→x<mid→mid≤y→y<b→lt d2[y]! d2[x]! =false:=fun x y g1 g2 g3 g4=>by
   rw[h2.perm.2.1 y (.inr g3)];exact Sort.permIn_all d1 d2 a mid (fun z=>lt d1[y]! z=false) (by omega) h2.perm (fun i k1 k2=>hx i y k1 k2 g3 g4) x g1 g2
  intro x y g1 g2 g3 g4;rw[h3.perm.2.1 x (.inl g2)];exact Sort.permIn_all d2 d3 mid b (fun z=>lt z d2[x]! =false) (by omega) h3.perm (fun i k1 k2=>c1 x i g1 g2 k1 k2) y g3 g4
theorem za5 {a b:Nat}{d:Array α}(h:Sort.SortedIn lt a b d):MergeTo lt a b d d:=⟨Sort.permIn_refl d a b,h⟩
theorem z7n {a b:Nat}{d:Array α}(h:b≤a+1):Sort.SortedIn lt a b d:=fun i j h1 h2 h3=>by omega
end
end Go.Av
namespace Go.Av
open Go
section
variable {α:Type} [Inhabited α] {cmp:α→α→Option Int} {c:α→α→Int}
def ltC (c:α→α→Int)(x y:α):Bool:=decide (c x y<0)
theorem zmv {a fuel:Nat}{B:Int×List α→Option (Ctl (Int×List α) Empty)}{j:Nat}{d:Array α}(hj:j<d.size)(hf:j<fuel)
 (hB: ∀(j:Nat) (d':Array α),j<d'.size→d'.size=d.size→B ((j:Int),d'.toList)=if a<j∧ltC c d'[j]! d'[j-1]! =true then some (.next (((j-1:Nat):Int),(Sort.swp d' j (j-1)).toList))else some (.brk ((j:Int),d'.toList))):
 ∃x:Int,loopN B fuel ((j:Int),d.toList)=some (.done (x,(Sort.insInner (ltC c) a j d).toList)):=by
 induction j generalizing d fuel with
 |zero=>
  cases fuel with
  |zero=>omega
  |succ fuel=>
   refine⟨0,z46 (s':=(((0:Nat):Int),d.toList)) ?_⟩;rw[hB 0 d hj rfl,if_neg (by omega)]
 |succ j ih=>
  cases fuel with
  |zero=>omega
  |succ fuel=>
   have h:=hB (j+1) d hj rfl;rw[Nat.add_sub_cancel]at h;unfold Sort.insInner;by_cases hc:a<j+1∧ltC c d[j+1]! d[j]! =true
   ·rw[if_pos hc]at h;rw[z4i h,if_pos (by simp[hc.1,hc.2])];exact ih (by rw[zc7];omega) (by omega) (fun k d' h1 h2=>hB k d' h1 (by rw[h2,zc7]))
   ·rw[if_neg hc]at h;rw[z46 h,if_neg (by simpa using hc)];exact⟨_,rfl⟩
theorem zmw {a b fuel:Nat}{B:Int×List α→Option (Ctl (Int×List α) Empty)}{n i:Nat}{d:Array α}(hn:b-i=n)(hb:b≤d.size)(hf:b-i<fuel)
 (hB: ∀(i:Nat) (d':Array α),d'.size=d.size→B ((i:Int),d'.toList)=if i<b then some (.next (((i+1:Nat):Int),(Sort.insInner (ltC c) a i d').toList))else some (.brk ((i:Int),d'.toList)))
 (hs: ∀(i:Nat) (d':Array α),(Sort.insInner (ltC c) a i d').size=d'.size):
 ∃x:Int,loopN B fuel ((i:Int),d.toList)=some (.done (x,(Sort.insOuter (ltC c) a b i d).toList)):=by
 induction n generalizing i d fuel with
 |zero=>
  cases fuel with
  |zero=>omega
  |succ fuel=>
   have h:=hB i d rfl;rw[if_neg (by omega)]at h;rw[z46 h,Sort.insOuter,if_neg (by omega)];exact⟨_,rfl⟩
 |succ n ih=>
  cases fuel with
  |zero=>omega
  |succ fuel=>
   have h:=hB i d rfl;rw[if_pos (by omega)]at h;rw[z4i h,Sort.insOuter,if_pos (by omega)];exact ih (by omega) (by rw[hs];omega) (by omega) (fun k d' h1=>hB k d' (by rw[h1,hs]))
theorem zdx (a:Nat): ∀(j:Nat) (d:Array α),(Sort.insInner (ltC c) a j d).size=d.size
 |0,d=>rfl
 |j+1,d=>by
  unfold Sort.insInner;split
  ·rw[zdx a j,zc7]
  ·rfl
theorem zkr (hc: ∀x y,cmp x y=some (c x y)){fuel a b:Nat}{d:Array α}(hb:b≤d.size)(hd:d.size<4611686018427387904)(ha:a<4611686018427387903)(hf:d.size<fuel):
 insG cmp fuel (a:Int) (b:Int) d.toList=some (Sort.insertionSort (ltC c) d a b).toList:=by
 unfold insG Sort.insertionSort;rw[wadd1 (by omega)];refine zc2 (zmw (c:=c) (a:=a) (b:=b) (i:=a+1) (d:=d) rfl hb (by omega) ?_ (zdx a)) (fun x=>rfl);intro i d' hd';simp only[z0d,intlt];by_cases hi:i<b
 ·rw[if_pos hi,if_pos hi];refine zc2 (zmv (c:=c) (a:=a) (j:=i) (d:=d') (by omega) (by omega) ?_) (fun x=>?_)
  ·intro j e hj he;simp only[jn_eq,z0d,intlt];by_cases h1:a<j
   ·simp(disch:=omega) only[h1,if_true,wsub1,z0b,zz8,zzc,zzr,List.length_set,hc,zz0,z7s,zeg,true_and];unfold ltC;by_cases h2:c e[j]! e[j-1]! <0
    ·simp[h2]
    ·simp[h2]
   ·rw[if_neg h1,if_neg (fun h=>h1 h.1)];rfl
  ·rw[wadd1 (by omega)]
 ·rw[if_neg hi,if_neg hi]
theorem zfo {fuel p q n:Nat}{d:Array α}(hp:p+n≤d.size)(hq:q+n≤d.size)(hd:d.size<4611686018427387904)(hf:d.size<fuel):
 swapG fuel (p:Int) (q:Int) (n:Int) d.toList=some (swpN p q n d).toList:=by
 unfold swapG;refine zc2 (znn (p:=p) (q:=q) (n:=n) (d:=d) (by omega) ?_) (fun x=>rfl);intro i d' hd' hi;simp only[z0d,intlt];by_cases h:i<n
 ·rw[if_pos h,if_pos h];simp(disch:=omega) only[wadd,wadd1,z0b,zz8,zzc,zzr,List.length_set,z7s,zeg]
 ·rw[if_neg h,if_neg h]
theorem zpt {fuel s m e:Nat}{d:Array α}(h1:s<m)(h2:m<e)(he:e≤d.size)(hd:d.size<4611686018427387904)(hf:d.size<fuel):
 ∃d':Array α,rotG fuel (s:Int) (m:Int) (e:Int) d.toList=some d'.toList∧RotTo s m e d d':=by
 obtain⟨k,d1,g1,g2,g3,g4,g5,g6,g7⟩:=zol (R:=Empty) (m:=m) (a:=s) (b:=e) (d0:=d) he (m-s+(e-m)) (m-s) (e-m) fuel d (zzf _) (by omega) (by omega) (by omega) (by omega) (by omega) (by omega) rfl
  (B:=fun(a1:Int×Int×(List α))=>bf (!decide (a1.1=a1.2.1)) (bf (decide (a1.2.1<a1.1)) ((swapG fuel (zzi.wrap ((m:Int)-a1.1)) (m:Int) a1.2.1 a1.2.2).bind fun r4=>need (r4.length=a1.2.2.length)<|some (.next ((zzi.wrap (a1.1-a1.2.1)),a1.2.1,r4))) ((swapG fuel (zzi.wrap ((m:Int)-a1.1)) (zzi.wrap ((zzi.wrap ((m:Int)+a1.2.1))-a1.1)) a1.1 a1.2.2).bind fun r6=>need (r6.length=a1.2.2.length)<|some (.next (a1.1,(zzi.wrap (a1.2.1-a1.1)),r6)))) (some (.brk (a1.1,a1.2.1,a1.2.2))))
  (by
   intro i j d' hs hi hj him hjb;simp only[z2h,z0d,intlt];by_cases h:i=j
   ·subst h;rw[if_pos rfl,if_pos rfl]
   ·rw[if_neg (by omega),if_neg h];by_cases h3:j<i
    ·rw[if_pos h3,if_pos h3];rw[wsub (by omega) (by omega),wsub (by omega) (by omega),zfo (by omega) (by omega) (by omega) (by omega)];simp only[zz0];rw[z0b (by simp[z62])]
    ·rw[if_neg h3,if_neg h3];rw[wsub (by omega) (by omega),wadd (by omega),wsub (by omega) (by omega),wsub (by omega) (by omega),zfo (by omega) (by omega) (by omega) (by omega)];simp only[zz0];rw[z0b (by simp[z62])])
 refine⟨swpN (m-k) m k d1,?_,Sort.permIn_trans _ _ _ s e g6 (zbi (by omega) (by omega) (by omega) (by omega) (by omega)),fun x=>?_⟩
 ·unfold rotG;rw[wsub (by omega) (by omega),wsub (by omega) (by omega)];rw[g1];simp only[z6e];rw[wsub (by omega) (by omega),zfo (by omega) (by omega) (by omega) (by omega)];rfl
 ·rw[zcy (by omega) (by omega) (by omega),zoj (by omega),g7];congr 1<;>omega
end
end Go.Av
namespace Go.Av
open Go
section
variable {α:Type} [Inhabited α] {cmp:α→α→Option Int} {c:α→α→Int}
theorem zbx {x y:Nat}(h:x+y<4611686018427387904):zzi.wrap (shrOp .u64 (zzu.wrap (zzi.wrap ((x:Int)+(y:Int)))) 1)=(((x+y) / 2:Nat):Int):=by
 rw[wadd h,zfr,Int.emod_eq_of_lt (by omega) (by omega),show(1:Int)=((1:Nat):Int)from rfl,zer .u64 (x+y) 1 (by decide),z23 (by omega) (by omega)]
def shR (a:Nat):Nat→Array α→Array α
 |0,d=>d
 |k+1,d=>Sort.swp (shR a k d) (a+k) (a+k+1)
def shL (m:Nat):Nat→Array α→Array α
 |0,d=>d
 |k+1,d=>Sort.swp (shL m k d) (m-k) (m-k-1)
theorem zc4 (a:Nat): ∀(k:Nat) (d:Array α),(shR a k d).size=d.size
 |0,d=>rfl
 |k+1,d=>by unfold shR;rw[zc7,zc4 a k]
theorem zc3 (m:Nat): ∀(k:Nat) (d:Array α),(shL m k d).size=d.size
 |0,d=>rfl
 |k+1,d=>by unfold shL;rw[zc7,zc3 m k]
theorem zl4 {a:Nat}{d:Array α}: ∀{k:Nat},a+k<d.size→ ∀x,(shR a k d)[x]! =rotF a (a+1) (a+1+k) d x
 |0,h,x=>by
  unfold shR rotF
  repeat' split
  all_goals first|omega|rfl|(congr 1;omega)
 |k+1,h,x=>by
  have ih:=zl4 (a:=a) (d:=d) (k:=k) (by omega);unfold shR;rw[zjr _ (by rw[zc4];omega) (by rw[zc4];omega),ih,ih,ih];unfold rotF
  repeat' split
  all_goals first|omega|rfl|(congr 1;omega)
theorem zl3 {m:Nat}{d:Array α}(hm:m<d.size): ∀{k:Nat},k≤m→ ∀x,(shL m k d)[x]! =rotF (m-k) m (m+1) d x
 |0,h,x=>by
  unfold shL rotF
  repeat' split
  all_goals first|omega|rfl|(congr 1;omega)
 |k+1,h,x=>by
  have ih:=zl3 (m:=m) (d:=d) hm (k:=k) (by omega);unfold shL;rw[zjr _ (by rw[zc3];omega) (by rw[zc3];omega),ih,ih,ih];unfold rotF
  repeat' split
  all_goals first|omega|rfl|(congr 1;omega)
theorem zjo {a b:Nat}{d:Array α}(hb:b≤d.size): ∀{k:Nat},a+k<b→Sort.PermIn a b d (shR a k d)
 |0,_=>Sort.permIn_refl d a b
 |k+1,h=>by
  unfold shR;exact Sort.permIn_trans _ _ _ a b (zjo hb (by omega)) (Sort.swp_permIn _ a b _ _ (by omega) (by omega) (by omega) (by omega) (by rw[zc4];exact hb))
theorem zjn {a m b:Nat}{d:Array α}(hb:b≤d.size)(hm:m<b): ∀{k:Nat},a+k≤m→Sort.PermIn a b d (shL m k d)
 |0,_=>Sort.permIn_refl d a b
 |k+1,h=>by
  unfold shL;exact Sort.permIn_trans _ _ _ a b (zjn hb hm (by omega)) (Sort.swp_permIn _ a b _ _ (by omega) (by omega) (by omega) (by omega) (by rw[zc3];exact hb))
theorem zon {R:Type}{B:Int×List α→Option (Ctl (Int×List α) R)}{a n fuel:Nat}{d:Array α}(hf:n<fuel)
 (hB: ∀(i:Nat) (d':Array α),d'.size=d.size→i≤n→B (((a+i:Nat):Int),d'.toList)=if i<n then some (.next (((a+i+1:Nat):Int),(Sort.swp d' (a+i) (a+i+1)).toList))else some (.brk (((a+i:Nat):Int),d'.toList))):
 ∃x:Int,loopN B fuel ((a:Int),d.toList)=some (.done (x,(shR a n d).toList)):=by
 have key: ∀k i fuel,i+k=n→k<fuel→ ∃x:Int,loopN B fuel (((a+i:Nat):Int),(shR a i d).toList)=some (.done (x,(shR a n d).toList)):=by
  intro k;induction k with
  |zero=>
   intro i fuel hi hf;cases fuel with
   |zero=>omega
   |succ fuel=>
    have h:=hB i (shR a i d) (zc4 ..) (by omega);rw[if_neg (by omega)]at h;rw[z46 h,show i=n by omega];exact⟨_,rfl⟩
  |succ k ih=>
   intro i fuel hi hf;cases fuel with
   |zero=>omega
   |succ fuel=>
    have h:=hB i (shR a i d) (zc4 ..) (by omega);rw[if_pos (by omega)]at h;rw[z4i h];exact ih (i+1) fuel (by omega) (by omega)
 exact key n 0 fuel (by omega) hf
theorem zom {R:Type}{B:Int×List α→Option (Ctl (Int×List α) R)}{m n fuel:Nat}{d:Array α}(hn:n≤m)(hf:n<fuel)
 (hB: ∀(i:Nat) (d':Array α),d'.size=d.size→i≤n→B (((m-i:Nat):Int),d'.toList)=if i<n then some (.next (((m-i-1:Nat):Int),(Sort.swp d' (m-i) (m-i-1)).toList))else some (.brk (((m-i:Nat):Int),d'.toList))):
 ∃x:Int,loopN B fuel ((m:Int),d.toList)=some (.done (x,(shL m n d).toList)):=by
 have key: ∀k i fuel,i+k=n→k<fuel→ ∃x:Int,loopN B fuel (((m-i:Nat):Int),(shL m i d).toList)=some (.done (x,(shL m n d).toList)):=by
  intro k;induction k with
  |zero=>
   intro i fuel hi hf;cases fuel with
   |zero=>omega
   |succ fuel=>
    have h:=hB i (shL m i d) (zc3 ..) (by omega);rw[if_neg (by omega)]at h;rw[z46 h,show i=n by omega];exact⟨_,rfl⟩
  |succ k ih=>
   intro i fuel hi hf;cases fuel with
   |zero=>omega
   |succ fuel=>
    have h:=hB i (shL m i d) (zc3 ..) (by omega);rw[if_pos (by omega)]at h;rw[z4i h];have:=ih (i+1) fuel (by omega) (by omega)
    rwa[show m-(i+1)=m-i-1 by omega]at this
 exact key n 0 fuel (by omega) hf
omit [Inhabited α]in
theorem znm (h:IsCmp c):Sort.SWO (ltC c) where
 irrefl x:=by unfold ltC;rw[h.refl];rfl
 trans x y z h1 h2:=by
  unfold ltC at*;simp only[decide_eq_true_eq]at*;exact h.lt_tr h1 (by omega)
 ntrans x y z h1 h2:=by
  unfold ltC at*;simp only[decide_eq_false_iff_not,Int.not_lt]at*;have a1:=h.anti x y;have a2:=h.anti y z;have a3:=h.anti x z
  by_cases g:0≤c x z
  ·exact g
  ·exfalso;have:=h.lt_tr (a:=x) (b:=z) (d:=y) (by omega) (by omega)
   omega
end
end Go.Av
namespace Go.Av
open Go
section
variable {α:Type} [Inhabited α] {cmp:α→α→Option Int} {c:α→α→Int}
theorem zoe {lt:α→α→Bool}(hS:Sort.SWO lt){a b r:Nat}{d:Array α}(hr:a+1≤r∧r≤b)(hb:b≤d.size)(h2:Sort.SortedIn lt (a+1) b d)
 (hA:r=a+1∨lt d[r-1]! d[a]! =true) (hB:r=b∨lt d[r]! d[a]! =false):MergeTo lt a b d (shR a (r-(a+1)) d):=by
 have hg: ∀x,(shR a (r-(a+1)) d)[x]! =rotF a (a+1) r d x:=fun x=>by
  rw[zl4 (by omega),show a+1+(r-(a+1))=r by omega]
 obtain⟨h3,_,h5,h6,h7⟩:=ze4 hS (d':=shR a (r-(a+1)) d) (a:=a) (m:=a+1) (b:=b) (s:=a) (e:=r) (z7n (by omega)) h2 ⟨by omega,by omega⟩ hr hg (.inl rfl) (.inr hA);refine⟨zjo hb (by omega),glue2 (mid:=a+(r-(a+1))) h5 (glue2 (mid:=r) h6 h7 ?_) h3⟩;intro x y g1 g2 g3 g4;rw[hg,hg,show x=r-1 by omega];unfold rotF;rw[if_neg (by omega),if_neg (by omega),if_neg (by omega),if_pos (by omega)];rw[show r-1-(a+(r-(a+1)))+a=a by omega];rcases hB with h|h
 ·omega
 ·by_cases e:y=r
  ·subst e;exact h
  ·exact hS.ntrans _ _ _ (h2 r y (by omega) (by omega) g4) h
theorem      zod {lt : α → α → Bool} (hS : Sort.SWO lt) {a m r : Nat} {d : Array α} (hr : a ≤ r ∧ r ≤ m) (hb : m + 1 ≤ d.size) (h1 : Sort.SortedIn lt a m d)
    (hA : r = a ∨ lt d[m]! d[r - 1]! = false) (hB : r = m ∨ lt d[m]! d[r]! = true) : MergeTo lt a (m + 1) d (shL m (m - r) d) := by
  have hg : ∀ x, (shL m (m - r) d)[x]! = rotF r m (m + 1) d x := fun x => by
    rw [    zl3 (by omega) (by omega), show m - (m - r) = r by omega]
  obtain ⟨h3, h4, h5, h6, h7⟩ :=       ze4 hS (d' := shL m (m - r) d) (a := a) (m := m) (b := m + 1) (s := r) (e := m + 1) h1 (         z7n (by omega)) hr ⟨by omega, by omega⟩ hg (.inr (.inl rfl))
    (by rcases hB with h | h
        · exact .inl h
        · exact .inr (.inr (by rw [Nat.add_sub_cancel]; exact h)))
  refine ⟨     zjn hb (by omega) (by omega), glue2 (mid := r + (m + 1 - m)) (glue2 (mid := r) h4 h5 ?_) h6 h3⟩
  intro x y g1 g2 g3 g4
  rw [hg, hg, show y = r by omega]
  unfold rotF
  rw [if_pos (by omega), if_neg (by omega), if_neg (by omega)]
  rw [show r - r + m = m by omega]
  rcases hA with h | h
  · omega
  · by_cases e : x = r - 1
    · subst e; exact h
    · exact hS.ntrans _ _ _ h (h1 x (r - 1) g1 (by omega) (by omega))
theorem zb6 {S R Q:Type}{G:Option Q→Prop}{P:S→Prop}{o:Option (Out S R)}{kn:S→Option Q}{kr:R→Option Q}(h: ∃s,o=some (.done s)∧P s)(hk: ∀s,P s→G (kn s)):G (outK o kn kr):=by
 obtain⟨s,h,hp⟩:=h;rw[h];exact hk s hp
theorem bs_ex {R:Type}{B:Int×Int→Option (Ctl (Int×Int) R)}{P:Nat→Bool}{Q:Int×Int→Prop}{i0 j0 fuel:Nat}(hf:j0-i0<fuel)(hij:i0≤j0)
 (hQ: ∀r:Nat,i0≤r→r≤j0→(r=i0∨P (r-1)=true)→(r=j0∨P r=false)→Q ((r:Int),(r:Int)))
 (hB: ∀i j:Nat,i0≤i→i≤j→j≤j0→B ((i:Int),(j:Int))=if i<j then(if P ((i+j) / 2)=true then some (.next ((((i+j) / 2+1:Nat):Int),(j:Int)))else some (.next ((i:Int),(((i+j) / 2:Nat):Int))))else some (.brk ((i:Int),(j:Int)))):
 ∃s,loopN B fuel ((i0:Int),(j0:Int))=some (.done s)∧Q s:=by
 obtain⟨r,g1,g2,g3,g4,g5⟩:=zkk (P:=P) (j0-i0) i0 j0 fuel (zzf _) hf (zzf _) hij (zzf _) (.inl rfl) (.inl rfl) hB;exact⟨_,g1,hQ r g2 g3 g4 g5⟩
theorem jn_P {A Q:Type}{G:Option Q→Prop}{P:A→Prop}{K:A→Option Q}{f:(A→Option Q)→Option Q}(hK: ∀a,P a→G (K a))(hf: ∃a,P a∧f K=K a):G (jn K f):=by
 obtain⟨a,h1,h2⟩:=hf;rw[jn_eq,h2];exact hK a h1
theorem zet (hc: ∀x y,cmp x y=some (c x y))(hC:IsCmp c): ∀(fuel a m b:Nat) (d:Array α),a<m→m<b→b≤d.size→d.size<1152921504606846976→d.size+(b-a)<fuel→
 Sort.SortedIn (ltC c) a m d→Sort.SortedIn (ltC c) m b d→ ∃d':Array α,symG cmp fuel (a:Int) (m:Int) (b:Int) d.toList=some d'.toList∧MergeTo (ltC c) a b d d'
 |0,a,m,b,d,_,_,_,_,hf,_,_=>by omega
 |fuel+1,a,m,b,d,ham,hmb,hb,hd,hf,h1,h2=>by
  have hS:=znm hC;unfold symG;simp only[z0d];rw[wsub (by omega) (by omega),wsub (by omega) (by omega)];by_cases c1:m-a=1
  ·rw[if_pos (by omega)];have hm:m=a+1:=by omega
   subst hm;refine zb6 (G:=fun q=> ∃d':Array α,q=some d'.toList∧MergeTo (ltC c) a b d d') (P:=fun s=> ∃r:Nat,s=((r:Int),(r:Int))∧a+1≤r∧r≤b∧(r=a+1∨ltC c d[r-1]! d[a]! =true)∧(r=b∨ltC c d[r]! d[a]! =false)) ?_ ?_
   ·refine bs_ex (P:=fun h=>ltC c d[h]! d[a]!) (by omega) (by omega) (fun r g2 g3 g4 g5=>⟨r,rfl,g2,g3,g4,g5⟩) ?_;intro i j hi hij hj;simp only[z0d,intlt];rw[zbx (by omega)];by_cases h:i<j
    ·rw[if_pos h,if_pos h];simp(disch:=omega) only[z0b,wadd1,zz8,zzc,zzr,hc,zz0,z7s];unfold ltC;by_cases g:c d[(i+j) / 2]! d[a]! <0<;>simp[g]
    ·rw[if_neg h,if_neg h]
   ·rintro s ⟨r,rfl,g2,g3,g4,g5⟩;simp only;rw[wsub1 (by omega) (by omega)];refine⟨shR a (r-(a+1)) d,zc2 (zon (a:=a) (n:=r-(a+1)) (by omega) ?_) (fun x=>rfl),zoe hS ⟨g2,g3⟩ hb h2 g4 g5⟩;intro i d' hs hi;simp only[z0d,intlt];by_cases h:i<r-(a+1)
    ·rw[if_pos (by omega),if_pos h];simp(disch:=omega) only[z0b,wadd1,zz8,zzc,zzr,List.length_set,z7s,zeg]
    ·rw[if_neg (by omega),if_neg h]
  ·rw[if_neg (by omega)];by_cases c2:b-m=1
   ·rw[if_pos (by omega)];have hbm:b=m+1:=by omega
    subst hbm;refine zb6 (G:=fun q=> ∃d':Array α,q=some d'.toList∧MergeTo (ltC c) a (m+1) d d') (P:=fun s=> ∃r:Nat,s=((r:Int),(r:Int))∧a≤r∧r≤m∧(r=a∨ltC c d[m]! d[r-1]! =false)∧(r=m∨ltC c d[m]! d[r]! =true)) ?_ ?_
    ·refine bs_ex (P:=fun h=> !ltC c d[m]! d[h]!) (by omega) (by omega) (fun r g2 g3 g4 g5=>⟨r,rfl,g2,g3,by simpa using g4,by simpa using g5⟩) ?_;intro i j hi hij hj;simp only[z0d,z2h,intlt];rw[zbx (by omega)];by_cases h:i<j
     ·rw[if_pos h,if_pos h];simp(disch:=omega) only[z0b,wadd1,zz8,zzc,zzr,hc,zz0,z7s];unfold ltC;by_cases g:c d[m]! d[(i+j) / 2]! <0<;>simp[g]
     ·rw[if_neg h,if_neg h]
    ·rintro s ⟨r,rfl,g2,g3,g4,g5⟩;simp only;refine⟨shL m (m-r) d,zc2 (zom (m:=m) (n:=m-r) (by omega) (by omega) ?_) (fun x=>rfl),zod hS ⟨g2,g3⟩ hb h1 g4 g5⟩;intro i d' hs hi;simp only[z0d,intlt];by_cases h:i<m-r
     ·rw[if_pos (by omega),if_pos h];simp(disch:=omega) only[z0b,wsub1,zz8,zzc,zzr,List.length_set,z7s,zeg]
     ·rw[if_neg (by omega),if_neg h]
   ·rw[if_neg (by omega)];rw[zbx (by omega),wadd (by omega)]
    let G:Option (List α)→Prop:=fun q=> ∃d':Array α,q=some d'.toList∧MergeTo (ltC c) a b d d'
    refine jn_P (G:=G) (P:=fun x=> ∃st r0:Nat,x=((((a+b) / 2:Nat):Int),(((a+b) / 2+m:Nat):Int),(st:Int),(r0:Int))∧a≤st∧st≤r0∧r0≤m∧r0≤(a+b) / 2+m-m∧(st=a∨(a+b) / 2+m-st=b)∧(a+b) / 2+m-st≤b∧(r0=m∨r0=(a+b) / 2)) ?_ ?_
    ·rintro _ ⟨st,r0,rfl,k1,k2,k3,k4,k5,k6,k7⟩;refine zb6 (G:=G) (P:=fun s=> ∃r:Nat,s=((r:Int),(r:Int))∧st≤r∧r≤r0∧(r=st∨ltC c d[(a+b) / 2+m-r]! d[r-1]! =false)∧(r=r0∨ltC c d[(a+b) / 2+m-r-1]! d[r]! =true)) ?_ ?_
     ·refine bs_ex (P:=fun h=> !ltC c d[(a+b) / 2+m-1-h]! d[h]!) (by omega) (by omega) (fun r g2 g3 g4 g5=>⟨r,rfl,g2,g3,?_,?_⟩) ?_
      ·rcases g4 with g4|g4
       ·exact .inl g4
       ·by_cases e:r=st
        ·exact .inl e
        ·right;rw[show(a+b) / 2+m-1-(r-1)=(a+b) / 2+m-r by omega]at g4
         simpa using g4
      ·rcases g5 with g5|g5
       ·exact .inl g5
       ·right;rw[show(a+b) / 2+m-1-r=(a+b) / 2+m-r-1 by omega]at g5
        simpa using g5
      ·intro i j hi hij hj;simp only[z0d,z2h,intlt];rw[zbx (by omega),wsub1 (by omega) (by omega)];by_cases h:i<j
       ·rw[if_pos h,if_pos h,wsub (by omega) (by omega)];simp(disch:=omega) only[z0b,wadd1,zz8,zzc,zzr,hc,zz0,z7s];unfold ltC;by_cases g:c d[(a+b) / 2+m-1-(i+j) / 2]! d[(i+j) / 2]! <0<;>simp[g]
       ·rw[if_neg h,if_neg h]
     ·rintro s ⟨r,rfl,g2,g3,g4,g5⟩;simp only;rw[wsub (by omega) (by omega)];have hmid:r+((a+b) / 2+m-r-m)=(a+b) / 2:=by omega
      refine jn_P (G:=G) (P:=fun x=> ∃d1:Array α,x=((((a+b) / 2+m-r:Nat):Int),d1.toList)∧Sort.PermIn a b d d1∧ ∀x,d1[x]! =rotF r m ((a+b) / 2+m-r) d x) ?_ ?_
      ·rintro _ ⟨d1,rfl,p1,p2⟩;obtain⟨q1,q2,q3,q4,q5⟩:=ze4 hS h1 h2 ⟨by omega,by omega⟩ ⟨by omega,by omega⟩ p2 (by
        rcases g4 with g|g
        ·rcases k5 with k|k
         ·exact .inl (by omega)
         ·exact .inr (.inl (by omega))
        ·exact .inr (.inr g)) (by
        rcases g5 with g|g
        ·rcases k7 with k|k
         ·exact .inl (by omega)
         ·exact .inr (.inl (by omega))
        ·exact .inr (.inr g))
       rw[hmid]at q1 q3 q4;have s1:d1.size=d.size:=p1.1
       refine jn_P (G:=G) (P:=fun x=> ∃d2:Array α,x=d2.toList∧MergeTo (ltC c) a ((a+b) / 2) d1 d2) ?_ ?_
       ·rintro _ ⟨d2,rfl,m1⟩;have s2:d2.size=d1.size:=m1.perm.1
        have e1:Sort.SortedIn (ltC c) ((a+b) / 2) ((a+b) / 2+m-r) d2:=fun i j h1 h2 h3=>by
         rw[m1.perm.2.1 i (.inr (by omega)),m1.perm.2.1 j (.inr (by omega))];exact q4 i j h1 h2 h3
        have e2:Sort.SortedIn (ltC c) ((a+b) / 2+m-r) b d2:=fun i j h1 h2 h3=>by
         rw[m1.perm.2.1 i (.inr (by omega)),m1.perm.2.1 j (.inr (by omega))];exact q5 i j h1 h2 h3
        have fin: ∀d3:Array α,MergeTo (ltC c) ((a+b) / 2) b d2 d3→MergeTo (ltC c) a b d d3:=fun d3 m3=>zje hS ⟨by omega,by omega⟩ hb p1 q1 m1 m3;simp only[jn_eq,z0d,intlt];by_cases w1:(a+b) / 2<(a+b) / 2+m-r
        ·by_cases w2:(a+b) / 2+m-r<b
         ·rw[if_pos w1,if_pos w2];obtain⟨d3,t1,t2⟩:=zet hc hC fuel ((a+b) / 2) ((a+b) / 2+m-r) b d2 w1 w2 (by omega) (by omega) (by omega) e1 e2;rw[t1];exact⟨d3,rfl,fin d3 t2⟩
         ·rw[if_pos w1,if_neg w2];rw[show(a+b) / 2+m-r=b by omega]at e1;exact⟨d2,rfl,fin d2 (za5 e1)⟩
        ·rw[if_neg w1,z17];rw[show(a+b) / 2+m-r=(a+b) / 2 by omega]at e2;exact⟨d2,rfl,fin d2 (za5 e2)⟩
       ·simp only[jn_eq,z0d,intlt];by_cases w1:a<r
        ·by_cases w2:r<(a+b) / 2
         ·rw[if_pos w1,if_pos w2];obtain⟨d3,t1,t2⟩:=zet hc hC fuel a r ((a+b) / 2) d1 w1 w2 (by omega) (by omega) (by omega) q2 q3;refine⟨_,⟨d3,rfl,t2⟩,?_⟩;rw[t1];simp only[zz0];rw[z0b (by have:=t2.perm.1;simp only[zzr];omega)]
         ·rw[if_pos w1,if_neg w2];rw[show r=(a+b) / 2 by omega]at q2;exact⟨_,⟨d1,rfl,za5 q2⟩,rfl⟩
        ·rw[if_neg w1,z17];rw[show r=a by omega]at q3;exact⟨_,⟨d1,rfl,za5 q3⟩,rfl⟩
      ·simp only[jn_eq,z0d,intlt];by_cases w1:r<m
       ·by_cases w2:m<(a+b) / 2+m-r
        ·obtain⟨d1,t1,t2⟩:=zpt (fuel:=fuel) (s:=r) (m:=m) (e:=(a+b) / 2+m-r) (d:=d) w1 w2 (by omega) (by omega) (by omega);refine⟨_,⟨d1,rfl,Sort.permIn_mono _ _ _ _ a b (by omega) (by omega) hb t2.perm,t2.get⟩,?_⟩;rw[if_pos w1,if_pos w2,t1,zz0];rw[z0b (by have:=t2.perm.1;simp only[zzr];omega)];simp only[intlt]
        ·rw[if_pos w1,if_neg w2];refine⟨_,⟨d,rfl,Sort.permIn_refl d a b,fun x=>?_⟩,by simp only[intlt]⟩;unfold rotF
         repeat' split
         all_goals first|omega|rfl|(congr 1;omega)
       ·rw[if_neg w1,z17];refine⟨_,⟨d,rfl,Sort.permIn_refl d a b,fun x=>?_⟩,by simp only[intlt]⟩;unfold rotF
        repeat' split
        all_goals first|omega|rfl|(congr 1;omega)
    ·simp only[z0d,intlt];by_cases w:(a+b) / 2<m
     ·rw[if_pos w,wsub (by omega) (by omega)];exact⟨_,⟨(a+b) / 2+m-b,(a+b) / 2,rfl,by omega,by omega,by omega,by omega,by omega,by omega,.inr rfl⟩,rfl⟩
     ·rw[if_neg w];exact⟨_,⟨a,m,rfl,by omega,by omega,by omega,by omega,.inl rfl,by omega,.inl rfl⟩,rfl⟩
end
end Go.Av
namespace Go.Av
open Go
section
variable {α:Type} [Inhabited α] {cmp:α→α→Option Int} {c:α→α→Int}
theorem zck {S R:Type}{B:S→Option (Ctl S R)}(I:Nat→S→Prop)(Dn:S→Prop){n fuel:Nat}{s:S}(hf:n<fuel)(h0:I 0 s)
 (h: ∀i s,I i s→(∃s',B s=some (.next s')∧I (i+1) s'∧i<n)∨(∃s',B s=some (.brk s')∧Dn s')): ∃s',loopN B fuel s=some (.done s')∧Dn s':=by
 have key: ∀k i s fuel,i+k=n→k<fuel→I i s→ ∃s',loopN B fuel s=some (.done s')∧Dn s':=by
  intro k;induction k with
  |zero=>
   intro i s fuel hi hf hI;cases fuel with
   |zero=>omega
   |succ fuel=>
    rcases h i s hI with⟨s',_,_,g⟩|⟨s',g1,g2⟩
    ·omega
    ·exact⟨s',z46 g1,g2⟩
  |succ k ih=>
   intro i s fuel hi hf hI;cases fuel with
   |zero=>omega
   |succ fuel=>
    rcases h i s hI with⟨s',g1,g2,g⟩|⟨s',g1,g2⟩
    ·rw[z4i g1];exact ih (i+1) s' fuel (by omega) (by omega) g2
    ·exact⟨s',z46 g1,g2⟩
 exact key n 0 s fuel (by omega) hf h0
theorem z8u {lt:α→α→Bool}{a b x y:Nat}{d d':Array α}(h:Sort.SortedIn lt x y d)(hp:Sort.PermIn a b d d')(ho:y≤a∨b≤x):Sort.SortedIn lt x y d':=fun i j h1 h2 h3=>by
 rw[hp.2.1 i (by omega),hp.2.1 j (by omega)];exact h i j h1 h2 h3
theorem z9b {i j k:Nat}(h:i<j):i*k+k≤j*k:=by
 have:=Nat.mul_le_mul_right k (show i+1≤j by omega);rw[Nat.add_mul,Nat.one_mul]at this;exact this
theorem zop (hc: ∀x y,cmp x y=some (c x y))(hC:IsCmp c){fuel:Nat}{d:Array α}(hd:d.size<1152921504606846)(hf:4*d.size+100<fuel):
 ∃d':Array α,stabG cmp fuel (d.size:Int) d.toList=some d'.toList∧Sort.PermIn 0 d.size d d'∧Sort.SortedIn (ltC c) 0 d.size d':=by
 have hS:=znm hC;generalize hn:d.size=n at*
 let G:Option (List α)→Prop:=fun q=> ∃d':Array α,q=some d'.toList∧Sort.PermIn 0 n d d'∧Sort.SortedIn (ltC c) 0 n d'
 unfold stabG;refine zb6 (G:=G) (P:=fun s=> ∃(i:Nat) (d1:Array α),s=(((i*20:Nat):Int),((i*20+20:Nat):Int),d1.toList)∧i*20≤n∧n<i*20+20∧Sort.PermIn 0 n d d1∧ ∀j,j<i→Sort.SortedIn (ltC c) (j*20) (j*20+20) d1) ?_ ?_
 ·refine zck (I:=fun i s=> ∃d1:Array α,s=(((i*20:Nat):Int),((i*20+20:Nat):Int),d1.toList)∧i*20≤n∧Sort.PermIn 0 n d d1∧ ∀j,j<i→Sort.SortedIn (ltC c) (j*20) (j*20+20) d1) (n:=n) _ (by omega) ⟨d,by rfl,by omega,Sort.permIn_refl d 0 n,fun j hj=>by omega⟩ ?_;rintro i _ ⟨d1,rfl,k1,k2,k3⟩;have s1:d1.size=n:=k2.1.trans hn
  simp only[z0d,intle];by_cases h:i*20+20≤n
  ·left;obtain⟨p1,p2⟩:=Sort.insertionSort_holds hS d1 (i*20) (i*20+20) (by omega) (by omega);refine⟨_,?_,⟨Sort.insertionSort (ltC c) d1 (i*20) (i*20+20),rfl,by omega,Sort.permIn_trans _ _ _ 0 n k2 (Sort.permIn_mono _ _ _ _ 0 n (by omega) (by omega) (by omega) p1),?_⟩,by omega⟩
   ·rw[if_pos h,zkr hc (by omega) (by omega) (by omega) (by omega)];simp only[zz0];rw[z0b (by have:=p1.1;simp only[zzr];omega),show(20:Int)=((20:Nat):Int)from rfl,wadd (by omega)];rw[show(i+1)*20=i*20+20 by omega]
   ·intro j hj;by_cases e:j=i
    ·subst e;exact p2
    ·exact z8u (k3 j (by omega)) p1 (by have:=z9b (k:=20) (show j<i by omega);omega)
  ·right;rw[if_neg h];exact⟨_,rfl,i,d1,rfl,k1,by omega,k2,k3⟩
 ·rintro _ ⟨i,d1,rfl,k1,k2,k3,k4⟩;have s1:d1.size=n:=k3.1.trans hn
  simp only;obtain⟨p1,p2⟩:=Sort.insertionSort_holds hS d1 (i*20) n (by omega) (by omega);rw[zkr hc (by omega) (by omega) (by omega) (by omega)];simp only[zz0];rw[z0b (by have:=p1.1;simp only[zzr];omega)];generalize hd2:Sort.insertionSort (ltC c) d1 (i*20) n=d2 at p1 p2;have q1:Sort.PermIn 0 n d d2:=Sort.permIn_trans _ _ _ 0 n k3 (Sort.permIn_mono _ _ _ _ 0 n (by omega) (by omega) (by omega) p1)
  have q2: ∀j,Sort.SortedIn (ltC c) (j*20) (min (j*20+20) n) d2:=fun j=>by
   by_cases e:j<i
   ·have:=z9b (k:=20) e;rw[show min (j*20+20) n=j*20+20 by omega];exact z8u (k4 j e) p1 (by omega)
   ·by_cases e2:j=i
    ·subst e2;rw[show min (j*20+20) n=n by omega];exact p2
    ·exact z7n (by omega)
  refine zb6 (G:=G) (P:=fun s=> ∃(x:Int) (d3:Array α),s=(x,d3.toList)∧Sort.PermIn 0 n d d3∧Sort.SortedIn (ltC c) 0 n d3) ?_ ?_
  ·refine zck (I:=fun r s=> ∃(k:Nat) (d3:Array α),s=((k:Int),d3.toList)∧r+20≤k∧k≤2*n+20∧Sort.PermIn 0 n d d3∧ ∀j,Sort.SortedIn (ltC c) (j*k) (min (j*k+k) n) d3) (n:=n) _ (by omega) ⟨20,d2,by rfl,by omega,by omega,q1,q2⟩ ?_;rintro r _ ⟨k,d3,rfl,g1,g2,g3,g4⟩;have s3:d3.size=n:=g3.1.trans hn
   simp only[z0d,intlt];by_cases h:k<n
   ·left;rw[if_pos h]
    let G2:Option (Ctl (Int×List α) Empty)→Prop:=fun q=> ∃s',q=some (.next s')∧(∃(k:Nat) (d3:Array α),s'=((k:Int),d3.toList)∧r+1+20≤k∧k≤2*n+20∧Sort.PermIn 0 n d d3∧ ∀j,Sort.SortedIn (ltC c) (j*k) (min (j*k+k) n) d3)∧r<n
    refine zb6 (G:=G2) (P:=fun s=> ∃(i:Nat) (d4:Array α),s=(((i*(2*k):Nat):Int),((i*(2*k)+2*k:Nat):Int),d4.toList)∧i*(2*k)≤n∧n<i*(2*k)+2*k∧Sort.PermIn 0 n d d4∧(∀j,j<i→Sort.SortedIn (ltC c) (j*(2*k)) (j*(2*k)+2*k) d4)∧ ∀j,i*(2*k)≤j*k→Sort.SortedIn (ltC c) (j*k) (min (j*k+k) n) d4) ?_ ?_
    ·rw[wtwo (by omega)];refine zck (I:=fun i s=> ∃d4:Array α,s=(((i*(2*k):Nat):Int),((i*(2*k)+2*k:Nat):Int),d4.toList)∧i*(2*k)≤n∧i≤i*(2*k)∧Sort.PermIn 0 n d d4∧(∀j,j<i→Sort.SortedIn (ltC c) (j*(2*k)) (j*(2*k)+2*k) d4)∧ ∀j,i*(2*k)≤j*k→Sort.SortedIn (ltC c) (j*k) (min (j*k+k) n) d4) (n:=n) _ (by omega) ⟨d3,by simp,by omega,by omega,g3,fun j hj=>by omega,fun j _=>g4 j⟩ ?_;rintro i _ ⟨d4,rfl,f1,f0,f2,f3,f4⟩;have s4:d4.size=n:=f2.1.trans hn
     have e1:(2*i)*k=i*(2*k):=by rw[Nat.mul_comm 2 i,Nat.mul_assoc]
     have e2:(2*i+1)*k=i*(2*k)+k:=by rw[Nat.add_mul,Nat.one_mul,e1]
     have e3:(i+1)*(2*k)=i*(2*k)+2*k:=by rw[Nat.add_mul,Nat.one_mul]
     have t1:=f4 (2*i) (by omega);have t2:=f4 (2*i+1) (by omega)
     rw[e1]at t1;rw[e2]at t2;generalize hp:i*(2*k)=p at*;simp only[z0d,intle];by_cases h2:p+2*k≤n
     ·left;rw[if_pos h2,wadd (by omega)];rw[show min (p+k) n=p+k by omega]at t1;rw[show min (p+k+k) n=p+2*k by omega]at t2;obtain⟨d5,u1,u2⟩:=zet hc hC fuel p (p+k) (p+2*k) d4 (by omega) (by omega) (by omega) (by omega) (by omega) t1 t2;refine⟨_,?_,⟨d5,rfl,by omega,by omega,Sort.permIn_trans _ _ _ 0 n f2 (Sort.permIn_mono _ _ _ _ 0 n (by omega) (by omega) (by omega) u2.perm),?_,?_⟩,by omega⟩
      ·rw[u1];simp only[zz0];rw[z0b (by have:=u2.perm.1;simp only[zzr];omega),wadd (by omega),e3]
      ·intro j hj;by_cases e:j=i
       ·subst e;rw[hp];exact u2.sorted
       ·have:=z9b (k:=2*k) (show j<i by omega);exact z8u (f3 j (by omega)) u2.perm (.inl (by omega))
      ·intro j hj;exact z8u (f4 j (by omega)) u2.perm (.inr (by omega))
     ·right;rw[if_neg h2];exact⟨_,rfl,i,d4,by rw[hp],by omega,by omega,f2,f3,by rw[hp];exact f4⟩
    ·rintro _ ⟨i,d4,rfl,f1,f1',f2,f3,f4⟩;have s4:d4.size=n:=f2.1.trans hn
     have e1:(2*i)*k=i*(2*k):=by rw[Nat.mul_comm 2 i,Nat.mul_assoc]
     have e2:(2*i+1)*k=i*(2*k)+k:=by rw[Nat.add_mul,Nat.one_mul,e1]
     have t1:=f4 (2*i) (by omega);have t2:=f4 (2*i+1) (by omega)
     rw[e1]at t1;rw[e2]at t2;have e4: ∀j,i<j→n≤j*(2*k):=fun j hj=>by have:=z9b (k:=2*k) hj;omega
     generalize hp:i*(2*k)=p at*;simp only;refine jn_P (G:=G2) (P:=fun l=> ∃d5:Array α,l=d5.toList∧Sort.PermIn 0 n d d5∧ ∀j,Sort.SortedIn (ltC c) (j*(2*k)) (min (j*(2*k)+2*k) n) d5) ?_ ?_
     ·rintro _ ⟨d5,rfl,u1,u2⟩;refine⟨_,rfl,⟨2*k,d5,?_,by omega,by omega,u1,u2⟩,by omega⟩;rw[show(k:Int)*2=2*(k:Int)by omega,wtwo (by omega)]
     ·simp only[z0d];rw[wadd (by omega)];simp only[intlt];by_cases h2:p+k<n
      ·rw[if_pos h2];rw[show min (p+k) n=p+k by omega]at t1;rw[show min (p+k+k) n=n by omega]at t2;obtain⟨d5,u1,u2⟩:=zet hc hC fuel p (p+k) n d4 (by omega) (by omega) (by omega) (by omega) (by omega) t1 t2;refine⟨_,⟨d5,rfl,Sort.permIn_trans _ _ _ 0 n f2 (Sort.permIn_mono _ _ _ _ 0 n (by omega) (by omega) (by omega) u2.perm),fun j=>?_⟩,?_⟩
       ·by_cases e:j<i
        ·have:=z9b (k:=2*k) e;rw[show min (j*(2*k)+2*k) n=j*(2*k)+2*k by omega];exact z8u (f3 j e) u2.perm (.inl (by omega))
        ·by_cases e5:j=i
         ·subst e5;rw[hp,show min (p+2*k) n=n by omega];exact u2.sorted
         ·have:=e4 j (by omega);exact z7n (by omega)
       ·rw[u1];simp only[zz0];rw[z0b (by have:=u2.perm.1;simp only[zzr];omega)]
      ·rw[if_neg h2];refine⟨_,⟨d4,rfl,f2,fun j=>?_⟩,rfl⟩;by_cases e:j<i
       ·have:=z9b (k:=2*k) e;rw[show min (j*(2*k)+2*k) n=j*(2*k)+2*k by omega];exact f3 j e
       ·by_cases e5:j=i
        ·subst e5;rw[hp,show min (p+2*k) n=n by omega];rw[show min (p+k) n=n by omega]at t1;exact t1
        ·have:=e4 j (by omega);exact z7n (by omega)
   ·right;rw[if_neg h];have:=g4 0
    rw[Nat.zero_mul,show min (0+k) n=n by omega]at this;exact⟨_,rfl,_,d3,rfl,g3,this⟩
  ·rintro _ ⟨x,d3,rfl,u1,u2⟩;exact⟨d3,rfl,u1,u2⟩
theorem zlw (hc: ∀x y,cmp x y=some (c x y))(hC:IsCmp c){fuel:Nat}{l:List α}(hd:l.length<1152921504606846)(hf:4*l.length+100<fuel):
 ∃r:List α,stabG cmp fuel (l.length:Int) l=some r∧r.Perm l∧ ∀i j,i<j→j<r.length→c (r.getD i zzd) (r.getD j zzd)≤0:=by
 obtain⟨d',h1,h2,h3⟩:=zop hc hC (d:=l.toArray) (fuel:=fuel) (by simpa using hd) (by simpa using hf);have hs:d'.size=l.length:=by have:=h2.1;simpa using this
 refine⟨d'.toList,by simpa using h1,?_,fun i j hij hj=>?_⟩
 ·have:=h2.2.2;simp only[List.size_toArray]at this;rw[show d'.extract 0 l.length=d' by rw[←hs];simp,show l.toArray.extract 0 l.length=l.toArray by simp]at this;exact this
 ·rw[zzr]at hj;have:=h3 i j (by omega) hij (by simpa [hs]using hj)
  rw[z7s,z7s];unfold ltC at this;have a1:=hC.anti d'[i]! d'[j]!
  simp only[decide_eq_false_iff_not]at this;omega
end
end Go.Av
namespace Go.Av
open Go
def cmpV (a b:Value):Int:=if a.isText=b.isText then(if a.isText then cmpS a.s b.s else cmpZ a.n b.n)else(if a.isText then 1 else -1)
theorem zei:IsCmp cmpV where
 vals a b:=by
  unfold cmpV;split
  ·split
   ·exact zeh.vals _ _
   ·exact z79.vals _ _
  ·split<;>simp
 anti a b:=by
  unfold cmpV;cases a.isText<;>cases b.isText<;>simp
  ·exact z79.anti _ _
  ·exact zeh.anti _ _
 tr a b d:=by
  unfold cmpV;cases a.isText<;>cases b.isText<;>cases d.isText<;>simp
  ·exact z79.tr _ _ _
  ·exact zeh.tr _ _ _
theorem znl (a b:ByteArray):(strLt a b||strEq a b)=decide (cmpS a b≤0):=by
 rw[zi7,zi6,Bool.eq_iff_iff];simp;omega
theorem zho (x y:Int):z67 x y=some (cmpZ x y):=by
 unfold z67 z74 cmpZ;simp only[decide_true,zzn,zz0,z17,z0d];split<;>(try split)<;>rfl
theorem zk1 (x y:Int):z5d x y=some (cmpZ x y):=by
 unfold z5d z68 cmpZ;simp only[decide_true,zzn,zz0,z17,z0d];split<;>(try split)<;>rfl
theorem zj1 (x y:ByteArray):z51 x y=some (cmpS x y):=by
 unfold z51 z5q;simp only[zlz,zzn,zz0,z17];rw[znl,zi7];simp only[z2h,z0d];rcases zeh.vals x y with h|h|h<;>simp[h]
theorem zgt (a b:Value):z76 a b=some (cmpV a b):=by
 unfold z76 z90 cmpV;simp only[zho,zj1,zk1,z2h];cases a.isText<;>cases b.isText<;>simp[zho,cmpZ]
theorem zb8 (a b:List Value):z6i a b=some (cmpL cmpV a b):=by
 unfold z6i z0h;rw[zp7 (c:=cmpV)]
 ·rfl
 ·intro i hi;simp only[zgt,zz0,z0d,z2h,Int.ofNat_le];split
  ·rfl
  ·rw[z0b (by omega)]
 ·simp only[z0d,Int.ofNat_lt];split<;>rfl
def z5f (v:Value):Bool:=if v.isText then decide (v.n=0) && decide (v.s.size≤64)else strEq v.s (bs [])
def okRow (p:List Value):Bool:=decide (p.length≤8) && p.all z5f
theorem zoh (v:Value):z82 v=some (z5f v):=by
 unfold z82 z5f;have e:((v.s.size:Int)≤64)↔v.s.size≤64:=by omega
 cases v.isText<;>by_cases h:v.n=0<;>simp[h,e]
theorem zlt {S R X:Type}[Inhabited X]{B:Nat→S→Option (Ctl S R)}{l:List X}(P:X→Bool)(f:Nat→R){s:S}
 (hB: ∀i,i<l.length→B i s=if P (l.getD i zzd)then some (.ret (f i))else some (.next s)):
 (l.any P=false∧z0j B l.length 0 s=some (.done s))∨(l.any P=true∧ ∃i,i<l.length∧P (l.getD i zzd)=true∧z0j B l.length 0 s=some (.ret (f i))):=by
 have key: ∀k i,i+k=l.length→((l.drop i).any P=false∧z0j B k i s=some (.done s))∨((l.drop i).any P=true∧ ∃j,j<l.length∧P (l.getD j zzd)=true∧z0j B k i s=some (.ret (f j))):=by
  intro k;induction k with
  |zero=>intro i hi;left;rw[zzl (by omega:l.length≤i)];exact⟨rfl,rfl⟩
  |succ k ih=>
   intro i hi;rw[z0x (by omega:i<l.length)];simp only[z0j,hB i (by omega),List.any_cons];by_cases h:P (l.getD i zzd)=true
   ·rw[if_pos h];right;exact⟨by rw[h];rfl,i,by omega,h,rfl⟩
   ·rw[if_neg h];have hf:P (l.getD i zzd)=false:=by simpa using h
    rw[hf,Bool.false_or];exact ih (i+1) (by omega)
 have:=key l.length 0 (by omega);rwa[List.drop_zero]at this
theorem zd1 (p:List Value):(p.any fun v=> !z5f v)= !(p.all z5f):=by
 rw[List.any_eq_not_all_not];simp
theorem zdb (p:List Value):z7d p=some (if okRow p then 0 else 4):=by
 unfold z7d z0z z13 z87 okRow;simp only[jn_eq,z0d,zoh,zz0];by_cases h:8<(p.length:Int)
 ·rw[if_pos h,decide_eq_false (by omega: ¬p.length≤8)];rfl
 ·rw[if_neg h,decide_eq_true (by omega:p.length≤8)];rcases zlt (S:=Unit) (R:=Int) (l:=p) (fun v=> !z5f v) (fun i=>(i:Int)) (s:=()) (B:=fun i1 a2=>bf (!z5f (p.getD i1 zzd)) (some (.ret ((i1:Nat):Int))) (some (.next ()))) (fun i hi=>by
   cases z5f (p.getD i zzd)<;>rfl)with⟨h1,h2⟩|⟨h1,i,_,_,h2⟩
  ·rw[h2];rw[zd1]at h1;have:p.all z5f=true:=by simpa using h1
   simp[this]
  ·rw[h2];rw[zd1]at h1;have:p.all z5f=false:=by simpa using h1
   simp[this,Int.natCast_nonneg]
theorem zf8 {a b:Value}:z8f a b=true↔a=b:=by
 rcases a with⟨t,n,s⟩;rcases b with⟨t',n',s'⟩;simp[z8f,zeb]
theorem zpu (a b:List Value): ∃r,z3q a b=some r∧(r=true↔a=b):=by
 unfold z3q;by_cases hl:a.length=b.length
 ·rw[decide_eq_true (by omega:(a.length:Int)=(b.length:Int))];simp only[zzn,z17];have key: ∀k i,i+k=a.length→ ∃r,outK (z0j (S:=Unit) (R:=Bool) (fun i1 (a2:Unit)=>need ((0:Int)≤((i1:Nat):Int)∧((i1:Nat):Int)<(b.length:Int))<|bf (!(z8f (a.getD i1 zzd) (b.getD i1 zzd))) (some (.ret false)) (some (.next ()))) k i ()) (fun(a3:Unit)=>some true) (fun x=>some x)=some r∧(r=true↔a.drop i=b.drop i):=by
   intro k;induction k with
   |zero=>
    intro i hi;refine⟨true,rfl,?_⟩;rw[zzl (by omega:a.length≤i),zzl (by omega:b.length≤i)];simp
   |succ k ih=>
    intro i hi;simp only[z0j];rw[z0b (by omega),z0x (by omega:i<a.length),z0x (by omega:i<b.length)];by_cases he:z8f (a.getD i zzd) (b.getD i zzd)=true
    ·rw[he];obtain⟨r,h1,h2⟩:=ih (i+1) (by omega);refine⟨r,h1,?_⟩;rw[h2,zf8.1 he];simp
    ·have he':z8f (a.getD i zzd) (b.getD i zzd)=false:=by simpa using he
     rw[he'];refine⟨false,rfl,?_⟩;simp only[zzm,false_iff,List.cons.injEq,not_and];intro h;exact absurd (zf8.2 h) he
  obtain⟨r,h1,h2⟩:=key a.length 0 (by omega);exact⟨r,h1,by simpa using h2⟩
 ·rw[decide_eq_false (by omega: ¬(a.length:Int)=(b.length:Int))];exact⟨false,rfl,by simp;intro h;exact hl (by rw[h])⟩
theorem zni (a:List Value):z3q a a=some true:=by
 obtain⟨r,h1,h2⟩:=zpu a a;rw[h1,h2.2 rfl]
theorem zmh {a b:Value}(ha:z5f a=true)(hb:z5f b=true):cmpV a b=0↔a=b:=by
 rcases a with⟨t,n,s⟩;rcases b with⟨t',n',s'⟩;unfold cmpV z5f at*;cases t<;>cases t'<;>simp[zmg,zhs,zeb]at*
 ·intro _;rw[ha,hb]
 ·intro h;omega
theorem zaq: ∀{a b:List Value},a.all z5f=true→b.all z5f=true→(cmpL cmpV a b=0↔a=b)
 |[],[],_,_=>by simp[cmpL]
 |[],_::_,_,_=>by simp[cmpL]
 |_::_,[],_,_=>by simp[cmpL]
 |x::a,y::b,ha,hb=>by
  simp only[List.all_cons,Bool.and_eq_true]at ha hb;have h1:=zmh ha.1 hb.1
  have h2:=zaq ha.2 hb.2;simp only[cmpL,thenC];split
  ·rename_i h;rw[h2,h1.1 h];simp
  ·rename_i h
   constructor
   ·intro g;exact absurd g h
   ·intro g;exact absurd (h1.2 (List.cons.inj g).1) h
theorem z8g {p:List Value}(h:okRow p=true):p.all z5f=true∧p.length≤8:=by
 unfold okRow at h;simp only[Bool.and_eq_true,decide_eq_true_eq]at h;exact⟨h.2,h.1⟩
end Go.Av
namespace Go.Av
open Go
def z15 (t:Time):Prop:=0≤t.epoch∧0≤t.loop.1∧0≤t.loop.2
def lub2 (a x:Time):Time:=⟨if a.epoch<x.epoch then x.epoch else a.epoch,(if a.loop.1<x.loop.1 then x.loop.1 else a.loop.1,if a.loop.2<x.loop.2 then x.loop.2 else a.loop.2)⟩
def zeroT:Time:=⟨0,(0,0)⟩
def lubL (l:List Time):Time:=l.foldl lub2 zeroT
theorem max0 {a:Int}(h:0≤a):a=if 0<a then a else 0:=by
 by_cases h1:0<a
 ·rw[if_pos h1]
 ·rw[if_neg h1];omega
theorem zbc {l:List Time}(hl: ∀x∈l,z15 x):z2n l=some (lubL l):=by
 unfold z2n;rw[z5n (lubL l) (fun i a=>a=lubL (l.take i)) (fun s h=>by rw[h,List.take_length])]
 ·rfl
 ·intro i a hi ha;refine⟨_,?_,rfl⟩;rw[z33 hi];have hx:=hl _ (z2b hi)
  generalize l.getD i zzd=x at*;simp only[lubL,List.foldl_append,List.foldl_cons,List.foldl_nil];rw[←lubL,←ha];simp only[jn_eq,z0j,z5b,zz0,z0d];rcases Nat.eq_zero_or_pos i with h0|h0
  ·subst h0;simp[lubL]at ha;subst ha;obtain⟨x1,x2,x3⟩:=hx;simp[outK,lub2,zeroT];exact⟨max0 x1,max0 x2,max0 x3⟩
  ·rw[if_neg (by omega)];simp[outK,lub2]
 ·rfl
theorem mx_eq (a b:Int):(if a<b then b else a)=max a b:=by split<;>omega
theorem znr {x:Time}(h:z15 x):lub2 zeroT x=x:=by
 obtain⟨h1,h2,h3⟩:=h;simp only[lub2,mx_eq,zeroT];refine Time.ext' ?_ ?_ ?_<;>simp only<;>omega
theorem zjd {x y:Time}(hx:z15 x):lubL [x,y]=lub2 x y:=by
 simp[lubL,znr hx]
def leT (a b:Time):Bool:=decide (a.epoch≤b.epoch) && (decide (a.loop.1≤b.loop.1) && decide (a.loop.2≤b.loop.2))
theorem znz {a b:Time}(ha:z15 a)(hb:z15 b):z7k a b=some (leT a b):=by
 unfold z7k z5k;have hl: ∀x∈[a,b],z15 x:=fun x hx=>by
  rcases zzj.1 hx with rfl|hx
  ·exact ha
  ·rw[zzg.1 hx];exact hb
 rw[zbc hl,zjd ha];simp only[zz0,lub2,mx_eq,z1o,leT,Bool.and_true];congr 1;rw[Bool.eq_iff_iff];simp only[Bool.and_eq_true,decide_eq_true_eq];omega
theorem zb1 (a:Time):leT a a=true:=by simp[leT]
theorem zdz {a b c:Time}(h:leT a b=true)(g:leT b c=true):leT a c=true:=by
 simp only[leT,Bool.and_eq_true,decide_eq_true_eq]at*;omega
theorem zeo {a b:Time}:leT a b=true↔a.epoch≤b.epoch∧a.loop.1≤b.loop.1∧a.loop.2≤b.loop.2:=by simp[leT]
theorem zgf (u v w:Int):z5i [u,v,w]=some (thenC u (thenC v w)):=by
 unfold z5i thenC;simp only[zzq,List.length_nil,zzc,Nat.reduceAdd,z0j,z0d,z2h];by_cases h1:u=0<;>by_cases h2:v=0<;>by_cases h3:w=0<;>simp[outK,h1,h2,h3]
theorem zqf (u v w:Int):z8r [u,v,w]=some (thenC u (thenC v w)):=zgf u v w
theorem zkl:IsCmp cmpT where
 vals a b:=by rcases zli a b with h|h|h<;>omega
 anti a b:=by have:=zhp a b;omega
 tr a b d:=by
  have e: ∀a b:Time,cmpT a b=thenC (cmpZ a.epoch b.epoch) (thenC (cmpZ a.loop.1 b.loop.1) (cmpZ a.loop.2 b.loop.2)):=fun a b=>by
   unfold cmpT thenC cmpZ
   repeat' split
   all_goals omega
  have h:=(z79.on fun t:Time=>t.epoch).lex ((z79.on fun t:Time=>t.loop.1).lex (z79.on fun t:Time=>t.loop.2));rw[e,e,e];exact h.tr a b d
theorem       zhq {a b : Time} : cmpT a b = 0 ↔ a = b := by
  constructor
  · intro h
    unfold cmpT at h
    refine Time.ext' ?_ ?_ ?_ <;> · revert h; repeat' split
                                    all_goals omega
  · rintro rfl; exact     zkl.refl a
def okT (t:Time):Bool:=decide (t.epoch≤4611686018427387904) && (decide (t.loop.1≤4611686018427387904) && decide (t.loop.2≤4611686018427387904))
theorem zku {fuel:Nat}(hf:5<fuel)(a b:Int):z2e fuel [a,b]=some (if a<b then b else a):=by
 unfold z2e;obtain⟨f,rfl⟩: ∃f,fuel=f+2:=⟨fuel-2,by omega⟩;have w:zzi.wrap 2=2:=by rw[z23 (by omega) (by omega)]
 simp[loopN,outK,need,bf,w]
theorem zc0 {fuel:Nat}(hf:5<fuel)(t:Time):z3i fuel [t]=some (if okT t then 0 else 1):=by
 unfold z3i okT;simp only[zzq,List.length_nil,zzc,z0j,List.getD_cons_zero,zku hf,zz0,z0d,mx_eq];by_cases h:4611686018427387904<max t.epoch (max t.loop.1 t.loop.2)
 ·rw[if_pos h];simp only[outK];rw[if_neg (by simp only[Bool.and_eq_true,decide_eq_true_eq];omega)]
 ·rw[if_neg h];simp only[outK];rw[if_pos (by simp only[Bool.and_eq_true,decide_eq_true_eq];omega)]
end Go.Av
namespace Go.Av
open Go
section
variable {α X Y:Type}
inductive R2 (r:X→Y→Prop):List X→List Y→Prop
 |nil:R2 r [] []
 |cons {x:X} {y:Y} {a:List X} {b:List Y} (h:r x y) (t:R2 r a b):R2 r (x::a) (y::b)
theorem R2.len {r:X→Y→Prop}{a:List X}{b:List Y}(h:R2 r a b):a.length=b.length:=by induction h<;>simp_all
theorem R2.app {r:X→Y→Prop}{a a':List X}{b b':List Y}(h:R2 r a b)(h':R2 r a' b'):R2 r (a++a') (b++b'):=by
 induction h with
 |nil=>exact h'
 |cons h _ ih=>exact .cons h ih
theorem R2.split {r:X→Y→Prop}: ∀{b b':List Y} {a:List X},R2 r a (b++b')→ ∃a1 a2,a=a1++a2∧R2 r a1 b∧R2 r a2 b'
 |[],b',a,h=>⟨[],a,rfl,.nil,h⟩
 |y::b,b',_,h=>by
  cases h with
  |cons h t=>
   obtain⟨a1,a2,rfl,h1,h2⟩:=R2.split t;exact⟨_::a1,a2,rfl,.cons h h1,h2⟩
theorem R2.get [Inhabited X][Inhabited Y]{r:X→Y→Prop}{a:List X}{b:List Y}(h:R2 r a b): ∀{i:Nat},i<b.length→r (a.getD i zzd) (b.getD i zzd):=by
 induction h with
 |nil=>intro i hi;simp at hi
 |cons h _ ih=>
  intro i hi;cases i with
  |zero=>exact h
  |succ i=>exact ih (by simpa using hi)
theorem R2.one {r:X→Y→Prop}{x:X}{y:Y}(h:r x y):R2 r [x] [y]:= .cons h .nil
theorem z9c {S R Q:Type}{G:Option Q→Prop}{B:Nat→S→Option (Ctl S R)}{n:Nat}{s:S}{kn:S→Option Q}{kr:R→Option Q}(I:Nat→S→Prop)(D:S→Prop)(J:R→Prop)(h0:I 0 s)(hD: ∀s,I n s→D s)(hk: ∀s,D s→G (kn s))(hr: ∀r,J r→G (kr r))
 (hs: ∀i s,i<n→I i s→(∃s',B i s=some (.next s')∧I (i+1) s')∨(∃s',B i s=some (.brk s')∧D s')∨ ∃r,B i s=some (.ret r)∧J r):G (outK (z0j B n 0 s) kn kr):=by
 rcases zka I D J h0 hs hD with⟨s',h1,h2⟩|⟨r,h1,h2⟩
 ·rw[h1];exact hk s' h2
 ·rw[h1];exact hr r h2
theorem zhw [Inhabited X](a:List X)(x:X):(a++[x]).getD a.length zzd=x:=by simp[List.getD_eq_getElem?_getD]
theorem zja [Inhabited X](a b:List X)(x:X):(a++x::b).getD a.length zzd=x:=by simp[List.getD_eq_getElem?_getD]
theorem zh7 (a b:List X)(x y:X):(a++x::b).set a.length y=a++y::b:=by simp[List.set_append]
def PR (num:α→Int)(l:List α):List (α×Int):=l.map fun x=>(x,num x)
theorem zhi (num:α→Int)(l l':List α):PR num (l++l')=PR num l++PR num l':=by simp[PR]
theorem zak {num:α→Int}{l:List α}{p:α×Int}:p∈PR num l↔ ∃x∈l,(x,num x)=p:=by simp[PR]
theorem zjq {c:α→α→Int}{y:α}: ∀{l:List (α×Int)},(∀p∈l,in64 p.2)→ -9223372036854775808*(l.length:Int)≤sm c l y∧sm c l y≤9223372036854775808*(l.length:Int)
 |[],_=>by simp[sm]
 |p::l,h=>by
  have h1:=zjq (c:=c) (y:=y) (l:=l) fun q hq=>h q (zz7 _ hq);have h2:=h p (zz3 ..)
  unfold in64 at h2;simp only[sm,zzq];split<;>omega
theorem zov {c:α→α→Int}{num:α→Int}{put:α→Int→α}{l l':List (α×Int)}{R:List α}{e:Int}(hp:l.Perm l')(h:Tot c num put l R e):Tot c num put l' R e:=by
 have hs: ∀y,sm c l y=sm c l' y:=zh8 hp;rcases h with⟨h1,h2,h3⟩|⟨h1,h2,h3⟩
 ·refine .inl ⟨h1,⟨h2.strict,fun r hr=>?_,fun r hr=>?_,fun y hy hn=>?_⟩,fun y=>?_⟩
  ·rw[←hs];exact h2.sum r hr
  ·obtain⟨y,g1,g2⟩:=h2.mem r hr;exact⟨y,hp.mem_iff.1 g1,g2⟩
  ·exact h2.all y (hp.mem_iff.2 hy) (by rw[hs];exact hn)
  ·rw[←hs];exact h3 y
 ·refine .inr ⟨h1,h2,fun h=>h3 fun y=>?_⟩;rw[hs];exact h y
theorem zn0 (put:α→Int→α)(S S':List (α×Int)):left0 put (S++S')=left0 put S++left0 put S':=by simp[left0]
theorem zn1 (put:α→Int→α)(p:α×Int):left0 put [p]=if p.2=0 then[]else[put p.1 p.2]:=by
 unfold left0;by_cases h:p.2=0<;>simp[h]
theorem zi0 (put:α→Int→α)(S:List (α×Int)):(left0 put S).length≤S.length:=by
 unfold left0;rw[List.length_map];exact List.length_filter_le _ _
def fit64 (s:Int):Int×Int:=if -9223372036854775808≤s∧s<9223372036854775808 then(s,0)else(0,10)
theorem zj7 {s:Int}(h:in64 s):fit64 s=(s,0):=if_pos h
theorem zhu {s:Int}(h: ¬in64 s):fit64 s=(0,10):=if_neg h
def repT (t:Tally)(s:Int):Prop:=inU64 t.high∧inU64 t.low∧(t.high*18446744073709551616+t.low-s) % 340282366920938463463374607431768211456=0
end
end Go.Av
namespace Go.Av
open Go
def cU (a b:Update):Int:=thenC (cmpL cmpV a.key b.key) (thenC (cmpL cmpV a.row b.row) (cmpT a.time b.time))
theorem cU_is:IsCmp cU:=(zei.list.on fun u:Update=>u.key).lex ((zei.list.on fun u:Update=>u.row).lex (zkl.on fun u:Update=>u.time))
theorem zar (a b:Update):z2l a b=some (cU a b):=by
 unfold z2l cU;simp only[zb8,zg1,zgf,zz0]
def z48 (x:Update)(n:Int):Update:=⟨x.key,x.row,x.time,n⟩
theorem zlr {x:Update}{n:Int}(h:x.row.length≤8):z6a x n=some (z48 x n):=rfl
def z9x (x:Line_Update)(p:Update×Int):Prop:=x.of=p.1∧repT x.tally p.2
theorem zld {a:List Line_Update}{x:Line_Update}{p s:Int}(hp:in64 p)(h:repT x.tally s):
 ∃t:Tally,z3g a.length p (a++[x])=some (a++[(⟨t,x.of⟩:Line_Update)])∧repT t (s+p):=by
 obtain⟨hh,hl,hs⟩:=h;unfold in64 inU64 repT at*;unfold z3g z8q;simp only[zhw,zh7,List.length_set,zze,List.length_singleton,shr63 hp,zfr];rw[z0b (by omega),z0b (by omega)];simp only[zz0];rw[z0b (by omega),z0b (by omega),z0b (by split<;>omega)];simp only[zz0];rw[z0b (by omega)];refine⟨_,rfl,?_,?_,?_⟩
 ·simp only[inU64];omega
 ·simp only[inU64];omega
 ·simp only;split<;>omega
theorem zll {x:Line_Update}{s:Int}(h:repT x.tally s)(hb: -85070591730234615865843651857942052864≤s∧s≤85070591730234615865843651857942052864):z3h x=some ((fit64 s).1,(fit64 s).2,x):=by
 obtain⟨hh,hl,hs⟩:=h;unfold inU64 at*;have hw:in64 (zzi.wrap x.tally.low):=by unfold in64;rw[zcz];split<;>omega
 unfold z3h;rw[shr63 hw,zfr];by_cases h: -9223372036854775808≤s∧s<9223372036854775808
 ·rw[zj7 h];have e1:zzi.wrap x.tally.low=s:=by rw[zcz];split<;>omega
  rw[e1];have e2:x.tally.high=(if s<0 then(-1:Int)else 0) % 18446744073709551616:=by split<;>omega
  rw[decide_eq_true e2];rfl
 ·rw[zhu h];have e2: ¬x.tally.high=(if zzi.wrap x.tally.low<0 then(-1:Int)else 0) % 18446744073709551616:=by
   rw[zcz];split<;>split<;>omega
  rw[decide_eq_false e2];rfl
theorem znf:z1w=rotG (α:=Update):=rfl
theorem zmx:z1b=insG (α:=Update) z2l:=rfl
theorem zi9: ∀(fuel:Nat) (a b d:Int) (l:List Update),z0n fuel a b d l=symG (α:=Update) z2l fuel a b d l
 |0,_,_,_,_=>rfl
 |fuel+1,a,b,d,l=>by
  unfold z0n symG;simp only[znf,zi9 fuel]
theorem zlx (fuel:Nat)(n:Int)(l:List Update):z1m fuel n l=stabG (α:=Update) z2l fuel n l:=by
 unfold z1m stabG;simp only[zmx,zi9]
theorem zkg {fuel:Nat}{l:List Update}(hl: ∀x∈l,in64 x.diff)(hr: ∀x∈l,x.row.length≤8)(hn:l.length≤4000000)(hf:20000000≤fuel):
 ∃R e l',z0p fuel l=some (R,e,l')∧Tot cU (fun x=>x.diff) z48 (PR (fun x=>x.diff) l) R e∧R.length≤l.length:=by
 obtain⟨r1,h1,h2,h3⟩:=zlw (c:=cU) zar cU_is (fuel:=fuel) (l:=l) (by omega) (by omega);have hlen:r1.length=l.length:=h2.length_eq
 unfold z0p z0s;rw[zlx,h1];simp only[zz0];rw[z0b hlen]
 suffices hS: ∃R e,(_:Option ((List Update)×Int×(List Update)))=some (R,e,r1)∧Tot cU (fun x=>x.diff) z48 (PR (fun x=>x.diff) r1) R e∧R.length≤r1.length by
  obtain⟨R,e,g1,g2,g3⟩:=hS;refine⟨R,e,r1,?_,zov ?_ g2,by omega⟩
  ·exact g1
  ·exact h2.map _
 have hl1: ∀x∈r1,in64 x.diff:=fun x hx=>hl x (h2.mem_iff.1 hx);have hr1: ∀x∈r1,x.row.length≤8:=fun x hx=>hr x (h2.mem_iff.1 hx)
 refine zb6 (G:=fun q=> ∃R e,q=some (R,e,r1)∧Tot cU (fun x=>x.diff) z48 (PR (fun x=>x.diff) r1) R e∧R.length≤r1.length) (P:=fun a=> ∃S,R2 z9x a S∧SS cU (PR (fun x=>x.diff) r1) S∧S.length≤r1.length) ?_ ?_
 ·have:=fun B h=>za8 (R:=Empty) (B:=B) (n:=r1.length) (fun i (a:List Line_Update)=> ∃S,R2 z9x a S∧SS cU (PR (fun x=>x.diff) (r1.take i)) S∧S.length≤i) (s:=([]:List Line_Update)) ⟨[],.nil,zqn,zzf _⟩ h;simp only[List.take_length]at this;refine this _ ?_;rintro i a hi ⟨S,k1,k2,k3⟩;have hx:=hl1 _ (z2b hi)
  rw[zzc,z0b hi];have htk:PR (fun x:Update=>x.diff) (r1.take (i+1))=PR (fun x=>x.diff) (r1.take i)++[(r1.getD i zzd,(r1.getD i zzd).diff)]:=by
   rw[z33 hi,zhi];rfl
  have hle: ∀p∈S,cU p.1 (r1.getD i zzd)≤0:=fun p hp=>by
   obtain⟨y,g1,g2⟩:=k2.mem p hp;obtain⟨z,g3,g4⟩:=zak.1 g1;obtain⟨j,hj,g5⟩:=List.mem_iff_getElem.1 g3;rw[zzp]at hj;have:=h3 j i (by omega) hi
   rw[←g2,←g4];simp only;rw[←g5,List.getElem_take];rw[List.getD_eq_getElem?_getD,List.getElem?_eq_getElem (by omega:j<r1.length)]at this;exact this
  generalize hxe:r1.getD i zzd=x at*;rw[htk];clear htk
  let G:Option (Ctl (List Line_Update) Empty)→Prop:=fun q=> ∃s',q=some (.next s')∧ ∃S,R2 z9x s' S∧SS cU (PR (fun x=>x.diff) (r1.take i)++[(x,x.diff)]) S∧S.length≤i+1
  refine jn_P (G:=G) (P:=fun b=> ∃(b':List Line_Update) (y:Line_Update) (S':List (Update×Int)) (s:Int),b=b'++[y]∧b.length≤i+1∧R2 z9x b' S'∧repT y.tally s∧SS cU (PR (fun x=>x.diff) (r1.take i)++[(x,x.diff)]) (S'++[(y.of,s+x.diff)])) ?_ ?_
  ·rintro _ ⟨b',y,S',s,rfl,q0,q1,q2,q3⟩;simp only[zze,List.length_singleton]at q0 ⊢;rw[wsub1 (by omega) (by omega),z0b (by omega)];obtain⟨t,g1,g2⟩:=zld (a:=b') (x:=y) hx q2;unfold z69;simp only[zz0,Nat.add_sub_cancel,zzc,zz8];rw[g1];simp only[zz0];rw[z0b (by simp)];refine⟨_,rfl,_,R2.app q1 (R2.one (show z9x ⟨t,y.of⟩ (y.of,s+x.diff)from⟨rfl,g2⟩)),q3,?_⟩;have:=q1.len
   simp only[zze,List.length_singleton];omega
  ·simp only[jn_eq,z0d];have hlen2:=k1.len
   rcases List.eq_nil_or_concat S with rfl|⟨A,p,rfl⟩
   ·have ha:a=[]:=zza hlen2;subst ha;rw[if_pos (by simp),z44,z0b (by simp)];refine⟨_,⟨[],_,[],0,rfl,by simp,.nil,by simp[repT,inU64],?_⟩,rfl⟩;have:=znk (A:=[]) (B:=[]) (x:=x) (n:=x.diff) cU_is k2 (fun p hp=>by cases hp) (fun p hp=>by cases hp)
    simpa using this
   ·simp only[List.concat_eq_append]at*;obtain⟨a1,a2,rfl,u1,u2⟩:=R2.split k1;cases u2 with
    | @cons y _ _ _ v t=>
     cases t;obtain⟨v1,v2⟩:=v;have e1:(a1++[y]).length=a1.length+1:=by simp
     have e2:=u1.len;simp only[zze,List.length_singleton]at k3;rw[if_neg (by omega),e1,wsub1 (by omega) (by omega),z0b (by omega)];simp only[Nat.add_sub_cancel,zzc,zz8,zhw];rw[z0b (by omega),zar,v1];simp only[zz0];by_cases g:cU p.1 x=0
     ·rw[decide_eq_true g];simp only[zzn,z17];refine⟨_,⟨a1,y,A,p.2,rfl,by omega,u1,v2,?_⟩,?_⟩
      ·rw[v1];exact zqm cU_is k2 g
      ·rw[e1,wsub1 (by omega) (by omega)];simp only[Nat.add_sub_cancel,zz8]
     ·rw[decide_eq_false g];simp only[Bool.not_false,z44];rw[z0b (by simp;omega)];refine⟨_,⟨a1++[y],_,A++[p],0,rfl,by simp;omega,k1,by simp[repT,inU64],?_⟩,rfl⟩;have:=znk (A:=A++[p]) (B:=[]) (x:=x) (n:=x.diff) cU_is (by simpa using k2) (fun q hq=>by
       have h4:=hle p (by simp);have h5:cU q.1 p.1≤0:=by
        rcases zz2.1 hq with hq|hq
        ·have h6:=k2.strict;rw[List.pairwise_append]at h6;have:=h6.2.2 q hq p (by simp)
         omega
        ·rw[zzg.1 hq,cU_is.refl];omega
       have h7:=cU_is.tr _ _ _ h5 h4;by_cases h8:cU q.1 x=0
       ·exfalso;have h9:cU x p.1≤0:=by rw[←cU_is.eqL p.1 h8];exact h5
        have:=cU_is.anti p.1 x;omega
       ·omega) (fun q hq=>by cases hq)
      simpa using this
 ·rintro a ⟨S,k1,k2,k3⟩;have hb: ∀i,i<S.length→ -85070591730234615865843651857942052864≤(S.getD i zzd).2∧(S.getD i zzd).2≤85070591730234615865843651857942052864:=fun i hi=>by
   rw[k2.sum _ (z2b hi)];have:=zjq (c:=cU) (y:=(S.getD i zzd).1) (l:=PR (fun x=>x.diff) r1) (fun p hp=>by
    obtain⟨z,g1,g2⟩:=zak.1 hp;rw[←g2];exact hl1 z g1)
   have e:(PR (fun x:Update=>x.diff) r1).length=r1.length:=by simp[PR]
   rw[e]at this;omega
  have hrow: ∀i,i<S.length→(S.getD i zzd).1.row.length≤8:=fun i hi=>by
   obtain⟨y,g1,g2⟩:=k2.mem _ (z2b hi);obtain⟨z,g3,g4⟩:=zak.1 g1;rw[←g2,←g4];exact hr1 z g3
  have hlen2:=k1.len;rw[hlen2];refine z9c (G:=fun q=> ∃R e,q=some (R,e,r1)∧Tot cU (fun x=>x.diff) z48 (PR (fun x=>x.diff) r1) R e∧R.length≤r1.length) (fun i (b:List Update)=>(∀j,j<i→in64 (S.getD j zzd).2)∧b=left0 z48 (S.take i)) (fun b=>(∀j,j<S.length→in64 (S.getD j zzd).2)∧b=left0 z48 S) (fun r=>r=([],10,r1)∧ ∃j,j<S.length∧ ¬in64 (S.getD j zzd).2) ⟨fun j hj=>by omega,rfl⟩ (fun b hb=>by
   rw[List.take_length]at hb;exact hb) ?_ ?_ ?_
  rotate_left 2
  ·rintro i b hi ⟨m1,m2⟩;obtain⟨v1,v2⟩:=k1.get hi;rw[zzc,z0b hi,zll v2 (hb i hi)];simp only[zz0,z2h,z0d];by_cases g:in64 (S.getD i zzd).2
   ·left;rw[zj7 g,v1];have hput:=zlr (x:=(S.getD i zzd).1) (n:=(S.getD i zzd).2) (hrow i hi)
    have hlb:b.length≤i:=by
     rw[m2];have:=zi0 z48 (S.take i);rw[zzp]at this;omega
    rw[z33 hi,zn0,zn1,←m2];have m3: ∀j,j<i+1→in64 (S.getD j zzd).2:=fun j hj=>by
     by_cases e:j=i
     ·subst e;exact g
     ·exact m1 j (by omega)
    by_cases g2:(S.getD i zzd).2=0
    ·exact⟨b,by simp only[if_true,if_pos g2],m3,by rw[if_pos g2,List.append_nil]⟩
    ·refine⟨b++[z48 (S.getD i zzd).1 (S.getD i zzd).2],?_,m3,by rw[if_neg g2]⟩;simp only[if_true,if_neg g2,hput,zz0];rw[z0b (by simp;omega)]
   ·right;right;rw[zhu g];exact⟨_,rfl,rfl,i,hi,g⟩
  ·rintro b ⟨g2,g3⟩;refine⟨_,_,rfl,.inl ⟨rfl,?_,?_⟩,by rw[g3];have:=zi0 z48 S;omega⟩
   ·rw[g3];exact zqh (num:=fun x=>x.diff) (put:=z48) cU_is (fun x n=>rfl) (fun x n y=>rfl) k2
   ·rw[zl5 cU_is k2];intro p hp;obtain⟨j,hj,e⟩:=List.mem_iff_getElem.1 hp;have:=g2 j hj
    rw[List.getD_eq_getElem?_getD,List.getElem?_eq_getElem hj]at this;rw[←e];exact this
  ·rintro r ⟨g2,j,g3,g4⟩;rw[g2];refine⟨_,_,rfl,.inr ⟨rfl,rfl,?_⟩,Nat.zero_le _⟩;rw[zl5 cU_is k2];intro h;exact g4 (h _ (z2b g3))
end Go.Av
namespace Go.Av
open Go
theorem zpz (v:Int):thenC 0 v=v:=rfl
theorem zeu {u v:Int}(h:u≠0):thenC u v=u:=if_neg h
theorem zcr {X:Type}[Inhabited X]{R:Type}{B:Nat→Unit→Option (Ctl Unit R)}{l:List X}(e:X→Int)(f:Int→R)(hB: ∀i,i<l.length→B i ()=if e (l.getD i zzd)=0 then some (.next ())else some (.ret (f (e (l.getD i zzd))))):
 z0j B l.length 0 ()=if l.foldr (fun x v=>thenC (e x) v) 0=0 then some (.done ())else some (.ret (f (l.foldr (fun x v=>thenC (e x) v) 0))):=by
 have key: ∀k i,i+k=l.length→z0j B k i ()=if(l.drop i).foldr (fun x v=>thenC (e x) v) 0=0 then some (.done ())else some (.ret (f ((l.drop i).foldr (fun x v=>thenC (e x) v) 0))):=by
  intro k;induction k with
  |zero=>
   intro i hi;rw[zzl (by omega)];rfl
  |succ k ih=>
   intro i hi;rw[z0x (by omega:i<l.length)];simp only[z0j,hB i (by omega),List.foldr_cons];by_cases h:e (l.getD i zzd)=0
   ·simp only[h,if_true,zpz];exact ih (i+1) (by omega)
   ·simp only[zeu h,if_neg h]
 have:=key l.length 0 (by omega);rwa[List.drop_zero]at this
def errU (u:Update):Int:=thenC (if okRow u.key then 0 else 4) (thenC (if okRow u.row then 0 else 4) (if okT u.time then 0 else 1))
def chkL (l:List Update):Int:=l.foldr (fun u v=>thenC (errU u) v) 0
def okU (u:Update):Prop:=okRow u.key=true∧okRow u.row=true∧okT u.time=true
theorem zmn {u:Update}:errU u=0↔okU u:=by
 unfold errU okU thenC;by_cases h1:okRow u.key=true<;>by_cases h2:okRow u.row=true<;>by_cases h3:okT u.time=true<;>simp[h1,h2,h3]
theorem z8z {u v:Int}:thenC u v=0↔u=0∧v=0:=by unfold thenC;split<;>omega
theorem z7g {l:List Update}:chkL l=0↔ ∀u∈l,okU u:=by
 induction l with
 |nil=>simp[chkL]
 |cons u l ih=>
  unfold chkL at*;rw[List.foldr_cons,z8z,zmn,ih];simp
theorem zke (u v w:Int):thenC (thenC u v) w=thenC u (thenC v w):=by
 by_cases h1:u=0
 ·subst h1;rfl
 ·rw[zeu h1,zeu h1,zeu h1]
theorem zk0 (a b:List Update):chkL (a++b)=thenC (chkL a) (chkL b):=by
 induction a with
 |nil=>simp[chkL,thenC]
 |cons u a ih=>
  unfold chkL at*;rw[List.cons_append,List.foldr_cons,List.foldr_cons,ih,zke]
theorem zav {fuel:Nat}(hf:5<fuel)(l:List Update):z5j fuel l=some (chkL l):=by
 unfold z5j;rw[zcr errU (fun x=>x)]
 ·show outK (if chkL l=0 then _ else some (.ret (chkL l))) _ _=_;split
  ·rename_i h;rw[h];rfl
  ·rfl
 ·intro i hi;rw[zdb,zdb,zc0 hf];simp only[zz0,zqf,z2h,z0d];rfl
theorem zp5 {a b:Update}(ha:okU a)(hb:okU b)(h:cU a b=0)(hd:a.diff=b.diff):a=b:=by
 unfold cU at h;rw[z8z,z8z,zaq (z8g ha.1).1 (z8g hb.1).1,zaq (z8g ha.2.1).1 (z8g hb.2.1).1,zhq]at h;rcases a with⟨k,r,t,d⟩;rcases b with⟨k',r',t',d'⟩;obtain⟨e1,e2,e3⟩:=h;simp only at e1 e2 e3 hd;rw[e1,e2,e3,hd]
theorem zj0 {p:List Value}(h:p.length≤8):z11 p=some p:=by
 unfold z11;rw[z0b (by omega)]
theorem zh6 {u:Update}(h:okU u):u.key.length≤8∧u.row.length≤8:=⟨(z8g h.1).2,(z8g h.2.1).2⟩
theorem zct {X:Type}[Inhabited X]{l:List X}{i:Nat}(h:i<l.length):l.set i (l.getD i zzd)=l:=by
 rw[List.getD_eq_getElem?_getD,List.getElem?_eq_getElem h];exact List.set_getElem_self h
theorem z7m {l:List Update}(h: ∀u∈l,okU u)(hn:l.length≤4000000):z5s l=some l:=by
 unfold z5s;have hlim:(l.length:Int)≤(lim:Int):=by simp only[lim];omega
 rw[z0b ⟨by omega,by omega,hlim⟩,z0b (by simp)];have e:copyL (zz6 l.length ((⟨([]:List Value),([]:List Value),(⟨0,(0,0)⟩:Time),0⟩:Update):Update)) l=l:=by
  unfold copyL;rw[zzl (by simp)];simp
 rw[e];rw[z5n l (fun i a=>a=l) (fun s hs=>hs)]
 ·rfl
 ·intro i a hi ha;subst ha;obtain⟨h1,h2⟩:=zh6 (h _ (z2b hi));refine⟨_,?_,rfl⟩;have e1:(⟨(a.getD i zzd).key,(a.getD i zzd).row,(a.getD i zzd).time,(a.getD i zzd).diff⟩:Update)=a.getD i zzd:=rfl
  simp only[zzc];rw[z0b (by omega),z0b hi,zj0 h1];simp only[zz0];rw[z0b (by omega),z0b hi,zj0 h2];simp only[zz0];rw[z0b (by omega),z0b hi,z0b (by omega),z0b (by simp;exact hi),e1,zct hi,e1,zct hi]
 ·rfl
end Go.Av
namespace Go.Av
open Go
section
variable {α:Type} [Inhabited α]
def growG (z:α)(p1:Int):Option (List α):=
 bf (decide (p1<0)) (none) (jn (fun(a1:List α)=>some a1) fun j2=>bf (decide (0<(zzi.wrap (p1-(zzi.wrap ((0:Int)-0)))))) (need ((0:Int)<(zzi.wrap (p1-(zzi.wrap ((0:Int)-0))))∧(zzi.wrap (p1-(zzi.wrap ((0:Int)-0))))≤(lim:Int))<|need ((0:Int)≤0∧(0:Int)≤0∧(0:Int)≤((zz6 ((zzi.wrap (p1-(zzi.wrap ((0:Int)-0)))).toNat) z).length:Int))<|j2 ((zz6 ((zzi.wrap (p1-(zzi.wrap ((0:Int)-0)))).toNat) z).take 0)) (j2 ([]:List α)))
def concG (z:α)(p0:List (List α)):Option (List α):=
 outK (z0j (S:=Int) (R:=Empty) (fun i1 (a2:Int)=>bf (decide ((zzi.wrap (a2+((p0.getD i1 zzd).length:Int)))<0)) (none) (some (.next (zzi.wrap (a2+((p0.getD i1 zzd).length:Int)))))) p0.length 0 0) (fun(a3:Int)=>(growG z a3).bind fun r4=>outK (z0j (S:=List α) (R:=Empty) (fun i5 (a6:List α)=>need (a6.length+(p0.getD i5 zzd).length≤274877906944)<|some (.next (a6++(p0.getD i5 zzd)))) p0.length 0 r4) (fun(a7:List α)=>some a7) (fun(x:Empty)=>x.elim)) (fun(x:Empty)=>x.elim)
theorem zec {l:List (List α)}{i:Nat}(h:i<l.length):(l.take (i+1)).flatten=(l.take i).flatten++l.getD i zzd:=by
 rw[z33 h];simp
theorem zlm {l:List (List α)}{i:Nat}(h:i<l.length):l.flatten=(l.take i).flatten++(l.getD i zzd++(l.drop (i+1)).flatten):=by
 have e:l=l.take i++l.getD i zzd::l.drop (i+1):=by rw[←z0x h,List.take_append_drop]
 have e2:=congrArg List.flatten e;rw[List.flatten_append,List.flatten_cons]at e2;exact e2
theorem zh3 {l:List (List α)}{i:Nat}(h:i<l.length):(l.take i).flatten.length+(l.getD i zzd).length≤l.flatten.length:=by
 have:=congrArg List.length (zlm h);simp only[zze]at this;omega
theorem zo6 {z:α}{n:Nat}(hn:n≤4000000):growG z (n:Int)=some []:=by
 unfold growG;have e:zzi.wrap ((n:Int)-zzi.wrap ((0:Int)-0))=(n:Int):=by
  rw[show zzi.wrap ((0:Int)-0)=0 by rfl,z23 (by omega) (by omega)];omega
 rw[e];simp only[z0d,jn_eq];rw[if_neg (by omega)];split
 ·rw[z0b (by simp only[lim];omega),z0b (by simp)];simp
 ·rfl
theorem zfg {z:α}{p0:List (List α)}(hn:p0.flatten.length≤4000000):concG z p0=some p0.flatten:=by
 unfold concG;have h1:=fun B h=>z5n (R:=Empty) (B:=B) (n:=p0.length) (s:=(0:Int)) ((p0.flatten.length:Nat):Int) (fun i a=>a=(((p0.take i).flatten.length:Nat):Int)) (fun s hs=>by rw[hs,List.take_length]) h (by rfl)
 rw[h1]
 ·simp only[z6e,zo6 hn,zz0];rw[z5n p0.flatten (fun i a=>a=(p0.take i).flatten) (fun s hs=>by rw[hs,List.take_length])]
  ·rfl
  ·intro i a hi ha;refine⟨_,?_,rfl⟩;have:=zh3 hi
   rw[z0b (by rw[ha];omega),ha,zec hi]
  ·rfl
 ·intro i a hi ha;have:=zh3 hi
  refine⟨_,?_,rfl⟩;rw[ha,wadd (by omega),zec hi,zze];simp only[z0d];rw[if_neg (by omega)]
end
end Go.Av
namespace Go.Av
open Go
abbrev pU (l:List Update):List (Update×Int):=PR (fun x=>x.diff) l
abbrev TotU (l:List Update)(R:List Update)(e:Int):Prop:=Tot cU (fun x=>x.diff) z48 (pU l) R e
theorem z9e {l R:List Update}{e:Int}(h:TotU l R e)(ho: ∀u∈l,okU u): ∀r∈R,okU r:=fun r hr=>by
 rcases h with⟨_,h,_⟩|⟨_,rfl,_⟩
 ·obtain⟨y,h1,h2⟩:=h.mem r hr;obtain⟨z,h3,h4⟩:=zak.1 h1;rw[h2,←h4];exact ho z h3
 ·cases hr
def zm3 (l R:List Update)(e:Int):Prop:=(chkL l≠0∧R=[]∧e=chkL l)∨(chkL l=0∧TotU l R e)
theorem zg8: ∀ls:List (List Update),ls.foldr (fun x v=>thenC (chkL x) v) 0=chkL ls.flatten
 |[]=>rfl
 |l::ls=>by rw[List.foldr_cons,List.flatten_cons,zk0,zg8 ls]
theorem zko {fuel:Nat}{ls:List (List Update)}(hf:20000000≤fuel)(hn:ls.flatten.length≤4000000)(hd: ∀u∈ls.flatten,in64 u.diff):
 ∃R e,z4u fuel ls=some (R,e)∧zm3 ls.flatten R e∧R.length≤ls.flatten.length:=by
 unfold z4u;rw[zcr chkL (fun w=>(([]:List Update),w)),zg8]
 ·by_cases h:chkL ls.flatten=0
  ·rw[if_pos h];simp only[z6e];rw[show z0c ls=some ls.flatten from zfg hn];simp only[zz0];have ho:=z7g.1 h
   obtain⟨R,e,l',h1,h2,h3⟩:=zkg (fuel:=fuel) hd (fun u hu=>(zh6 (ho u hu)).2) hn hf;rw[h1];simp only[zz0];rw[z7m (z9e h2 ho) (by omega)];exact⟨R,e,rfl,.inr ⟨h,h2⟩,h3⟩
  ·rw[if_neg h];exact⟨_,_,rfl,.inl ⟨h,rfl,rfl⟩,Nat.zero_le _⟩
 ·intro i hi;rw[zav (by omega)];simp only[zz0,z2h,z0d]
end Go.Av
namespace Go.Av
open Go
theorem zqj (l:List Update):z5e l l=some true:=by
 unfold z5e;rw[decide_eq_true rfl,zzn,z17];rw[z5n () (fun _ _=>True) (fun _ _=>rfl)]
 ·rfl
 ·intro i a hi ha;refine⟨(),?_,trivial⟩;have e:z1o (l.getD i zzd).time (l.getD i zzd).time=true:=by simp[z1o]
  simp only[jn_eq,zni,zz0,zzn,z17,e,decide_true];rw[z0b (by omega),z0b (by omega),z0b (by omega),z0b (by omega)]
 ·trivial
theorem zkf {l l' R R':List Update}{e e':Int}(h:TotU l R e)(h':TotU l' R' e')(ho: ∀u∈l,okU u)(ho': ∀u∈l',okU u)(hs: ∀y,sm cU (pU l) y=sm cU (pU l') y):R=R'∧e=e':=
 zm1 cU_is h h' hs fun r hr r' hr' h1 h2=>zp5 (z9e h ho r hr) (z9e h' ho' r' hr') h1 h2
def zgp (u:Update):Prop:=u.key.length≤2000000∧u.row.length≤2000000
end Go.Av
namespace Go.Av
open Go
theorem zl7 {l R:List Update}{e:Int}(h:TotU l R e): ∀r∈R,in64 r.diff:=fun r hr=>by
 rcases h with⟨_,g,gf⟩|⟨_,rfl,_⟩
 ·rw[(g.sum r hr).1];exact gf r
 ·cases hr
theorem zow {l R:List Update}{e:Int}(h:TotU l R e)(ht: ∀u∈l,z15 u.time): ∀r∈R,z15 r.time:=fun r hr=>by
 rcases h with⟨_,g,_⟩|⟨_,rfl,_⟩
 ·obtain⟨y,h1,h2⟩:=g.mem r hr;obtain⟨z,h3,h4⟩:=zak.1 h1;rw[h2,←h4];exact ht z h3
 ·cases hr
end Go.Av
namespace Go.Av
open Go
def glb2 (a x:Time):Time:=⟨if x.epoch<a.epoch then x.epoch else a.epoch,(if x.loop.1<a.loop.1 then x.loop.1 else a.loop.1,if x.loop.2<a.loop.2 then x.loop.2 else a.loop.2)⟩
def glbL:List Time→Time
 |[]=>zeroT
 |x::l=>l.foldl glb2 x
theorem zk3 (a:Time):z1o a a=true:=by simp[z1o]
theorem zk6 {l:List Time}(h:l≠[])(x:Time):glbL (l++[x])=glb2 (glbL l) x:=by
 cases l with
 |nil=>exact absurd rfl h
 |cons y l=>simp[glbL,List.foldl_append]
theorem zj9 (l:List Time):z53 l=some (glbL l):=by
 unfold z53;rw[z5n (glbL l) (fun i a=>a=glbL (l.take i)) (fun s h=>by rw[h,List.take_length])]
 ·rfl
 ·intro i a hi ha;refine⟨_,?_,rfl⟩;rw[z33 hi];simp only[jn_eq,z0j,z6v,zz0,z0d];rcases Nat.eq_zero_or_pos i with h0|h0
  ·subst h0;generalize l.getD 0 zzd=x at*;simp[outK,glbL]
  ·rw[if_neg (by omega),zk6 (by intro h;have h2:=congrArg List.length h;rw[zzp]at h2;simp only[List.length_nil]at h2;omega),←ha];generalize l.getD i zzd=x at*;simp[outK,glb2]
 ·rfl
theorem mn_eq (a b:Int):(if b<a then b else a)=min a b:=by split<;>omega
theorem zpm {a b:Time}(ha:z15 a)(hb:z15 b):z15 (lub2 a b):=by
 obtain⟨h1,h2,h3⟩:=ha;obtain⟨g1,g2,g3⟩:=hb;simp only[z15,lub2,mx_eq];omega
theorem zq1:z15 zeroT:=by simp[z15,zeroT]
theorem zo9 {a b:Time}(h:leT a b=true)(g:leT b a=true):z1o a b=true:=by
 simp only[leT,z1o,Bool.and_eq_true,decide_eq_true_eq,Bool.and_true]at*;omega
theorem zpf {a b:Time}(ha:z15 a)(hb:z15 b):z15 (glb2 a b):=by
 obtain⟨h1,h2,h3⟩:=ha;obtain⟨g1,g2,g3⟩:=hb;simp only[z15,glb2,mn_eq];omega
theorem zpe {a b t:Time}:leT t (glb2 a b)=true↔leT t a=true∧leT t b=true:=by
 simp only[zeo,glb2,mn_eq];omega
theorem zd7 {t:Time}: ∀(l:List Time) (a:Time),leT t (l.foldl glb2 a)=true↔leT t a=true∧ ∀x∈l,leT t x=true
 |[],a=>by simp
 |x::l,a=>by
  simp only[List.foldl_cons,zd7 l,zpe,List.forall_mem_cons];constructor<;>intro h<;>simp_all
theorem zd8: ∀(l:List Time) (a:Time),z15 a→(∀x∈l,z15 x)→z15 (l.foldl glb2 a)
 |[],a,ha,_=>ha
 |x::l,a,ha,h=>zd8 l _ (zpf ha (h x (zz3 ..))) fun y hy=>h y (zz7 _ hy)
theorem zpg {l:List Time}(hl: ∀x∈l,z15 x):z15 (glbL l):=by
 cases l with
 |nil=>exact zq1
 |cons x l=>exact zd8 l x (hl x (zz3 ..)) fun y hy=>hl y (zz7 _ hy)
theorem zh5 {l:List Time}{t:Time}(h:l≠[]):leT t (glbL l)=true↔ ∀x∈l,leT t x=true:=by
 cases l with
 |nil=>exact absurd rfl h
 |cons x l=>simp only[glbL,zd7,List.forall_mem_cons]
end Go.Av
namespace Go.Av
open Go
theorem zel {x y:Time}:z1o x y=true↔x=y:=by
 constructor
 ·intro h;simp only[z1o,Bool.and_eq_true,decide_eq_true_eq,Bool.and_true]at h;exact Time.ext' h.1 h.2.1 h.2.2
 ·rintro rfl;exact zk3 x
theorem zpj {a b:Time}(h:leT a b=true)(g:leT b a=true):a=b:=zel.1 (zo9 h g)
theorem zjg {a b:Time}(h:leT a b=true):ltT b a=false:=by
 cases e:ltT b a with
 |false=>rfl
 |true=>rw[zeo]at h;rw[z5a]at e;omega
theorem lt_or {a b:Time}(h:ltT b a=false)(hne:a≠b):ltT a b=true:=by
 cases e:ltT a b with
 |true=>rfl
 |false=>
  refine absurd ?_ hne;rw[←Bool.not_eq_true,z5a]at h e;exact Time.ext' (by omega) (by omega) (by omega)
structure IsF (l f:List Time):Prop where
 sorted:f.Pairwise fun x y=>ltT x y=true
 sub: ∀x∈f,x∈l
 below: ∀y∈l,∃u∈f,leT u y=true
 least: ∀x∈f,∀y∈l,leT y x=true→y=x
theorem IsF.mem {l f:List Time}(h:IsF l f)(x:Time):x∈f↔x∈l∧ ∀y∈l,leT y x=true→y=x:=by
 constructor
 ·exact fun hx=>⟨h.sub x hx,h.least x hx⟩
 ·rintro⟨hx,hm⟩;obtain⟨u,hu,hle⟩:=h.below x hx;rw[←hm u (h.sub u hu) hle];exact hu
theorem IsF.congr {l m f:List Time}(h:IsF l f)(e: ∀x,x∈l↔x∈m):IsF m f:=
 ⟨h.sorted,fun x hx=>(e x).1 (h.sub x hx),fun y hy=>h.below y ((e y).2 hy),fun x hx y hy=>h.least x hx y ((e y).2 hy)⟩
theorem IsF.step {p f:List Time}{t:Time}(h:IsF p f)(hs: ∀x∈p,ltT t x=false):IsF (p++[t]) (if f.any (fun u=>leT u t)then f else f++[t]):=by
 by_cases hc:f.any (fun u=>leT u t)=true
 ·rw[if_pos hc];obtain⟨u,hu,hut⟩:=List.any_eq_true.1 hc;refine⟨h.sorted,fun x hx=>zz2.2 (.inl (h.sub x hx)),?_,?_⟩
  ·intro y hy;rcases zz2.1 hy with hy|hy
   ·exact h.below y hy
   ·rw[zzg.1 hy];exact⟨u,hu,hut⟩
  ·intro x hx y hy hle;rcases zz2.1 hy with hy|hy
   ·exact h.least x hx y hy hle
   ·rw[zzg.1 hy]at hle ⊢;have hux:=h.least x hx u (h.sub u hu) (zdz hut hle)
    subst hux;exact zpj hle hut
 ·rw[if_neg hc];have hno: ∀u∈f,leT u t=false:=fun u hu=>by
   cases e:leT u t with
   |false=>rfl
   |true=>exact absurd (List.any_eq_true.2 ⟨u,hu,e⟩) hc
  have hnp: ∀y∈p,leT y t=false:=fun y hy=>by
   obtain⟨u,hu,hle⟩:=h.below y hy;cases e:leT y t with
   |false=>rfl
   |true=>have:=zdz hle e;rw[hno u hu]at this;cases this
  refine⟨?_,?_,?_,?_⟩
  ·rw[List.pairwise_append];refine⟨h.sorted,by simp,fun x hx y hy=>?_⟩;rw[zzg.1 hy];refine lt_or (hs x (h.sub x hx)) (fun e=>?_);subst e;have:=hno x hx
   rw[zb1]at this;cases this
  ·intro x hx;rcases zz2.1 hx with hx|hx
   ·exact zz2.2 (.inl (h.sub x hx))
   ·exact zz2.2 (.inr hx)
  ·intro y hy;rcases zz2.1 hy with hy|hy
   ·obtain⟨u,hu,hle⟩:=h.below y hy;exact⟨u,zz2.2 (.inl hu),hle⟩
   ·exact⟨y,zz2.2 (.inr hy),zb1 y⟩
  ·intro x hx y hy hle;rcases zz2.1 hx with hx|hx
   ·rcases zz2.1 hy with hy|hy
    ·exact h.least x hx y hy hle
    ·rw[zzg.1 hy]at hle ⊢;have h1:=hs x (h.sub x hx)
     have h2:=zjg hle;by_cases e:t=x
     ·exact e
     ·have:=lt_or h1 (fun h=>e h.symm);rw[h2]at this;cases this
   ·rw[zzg.1 hx]at hle ⊢;rcases zz2.1 hy with hy|hy
    ·rw[hnp y hy]at hle;cases hle
    ·exact zzg.1 hy
def zg9 (l:List Time):List Time:=l.foldl (fun f t=>if f.any (fun u=>leT u t)then f else f++[t]) []
def zae (l:List Time):List Time:=zg9 (sortT l)
theorem ze8 (l:List Time):(sortT l).length=l.length:=(za9 l).length_eq
theorem zd9 (l:List Time):(zg9 l).length≤l.length:=by
 have key: ∀(r f:List Time),(r.foldl (fun f t=>if f.any (fun u=>leT u t)then f else f++[t]) f).length≤f.length+r.length:=by
  intro r;induction r with
  |nil=>intro f;exact zzf _
  |cons t r ih=>
   intro f;rw[List.foldl_cons];refine Nat.le_trans (ih _) ?_;split
   ·rw[zzq];omega
   ·rw[zze,List.length_singleton,zzq];omega
 have:=key l [];rw[List.length_nil,zzc]at this;exact this
theorem zh4 (l:List Time):(zae l).length≤l.length:=by
 have:=zd9 (sortT l);rw[ze8]at this;exact this
end Go.Av
namespace Go.Av
open Go
abbrev NN (l:List Time):Prop:= ∀x∈l,z15 x
theorem zci {X:Type}[Inhabited X]{l:List X}{i:Nat}(h:i<l.length):l.getD i zzd∈l:=by
 rw[List.getD_eq_getElem?_getD,List.getElem?_eq_getElem h];exact List.getElem_mem h
theorem zed {X:Type}[Inhabited X]{l:List X}{i:Nat}(h:i<l.length):l.take (i+1)=l.take i++[l.getD i zzd]:=by
 rw[List.take_add_one,List.getElem?_eq_getElem h,List.getD_eq_getElem?_getD,List.getElem?_eq_getElem h];rfl
theorem zi4 {X R:Type}[Inhabited X]{B:Nat→Unit→Option (Ctl Unit R)}{l:List X}{p:X→Bool}{f:Nat→R}{Q:Type}{kn:Unit→Option Q}{kr:R→Option Q}{q:Option Q}
 (hB: ∀i u,i<l.length→B i u=if p (l.getD i zzd)=true then some (.ret (f i))else some (.next ()))
 (hn:l.any p=false→kn ()=q) (hr: ∀i,i<l.length→l.any p=true→kr (f i)=q):outK (z0j B l.length 0 ()) kn kr=q:=by
 have key: ∀k i,i+k=l.length→(l.take i).any p=false→outK (z0j B k i ()) kn kr=q:=by
  intro k;induction k with
  |zero=>
   intro i hi h;rw[List.take_of_length_le (by omega)]at h;exact hn h
  |succ k ih=>
   intro i hi h;simp only[z0j,hB i () (by omega)];by_cases hp:p (l.getD i zzd)=true
   ·rw[if_pos hp];exact hr i (by omega) (List.any_eq_true.2 ⟨_,zci (by omega),hp⟩)
   ·rw[if_neg hp];refine ih (i+1) (by omega) ?_;rw[zed (by omega),List.any_append,h]
    simpa using hp
 exact key l.length 0 (by omega) rfl
theorem zhl {f:List Time}{t:Time}(hf:NN f)(ht:z15 t):z4o f t=some (f.any fun u=>leT u t):=by
 unfold z4o z0m z0o;have h:(outK (z0j (S:=Unit) (R:=Int) (fun i1 (a2:Unit)=>(z6d (f.getD i1 zzd) t).bind fun r4=>bf r4 (some (.ret ((i1:Nat):Int))) (some (.next ()))) f.length 0 ()) (fun(a3:Unit)=>some (-1)) (fun x=>some x)).bind (fun r1=>some (decide (0≤r1)))=some (f.any fun u=>leT u t):=by
  have: ∀o:Option Int,(o.bind fun r1=>some (decide (0≤r1)))=o.map fun r1=>decide (0≤r1):=fun o=>by cases o<;>rfl
  rw[this];have hm: ∀(o:Option (Out Unit Int)),(outK o (fun(a3:Unit)=>some (-1)) (fun x=>some x)).map (fun r1=>decide (0≤r1))=outK o (fun _=>some false) (fun x=>some (decide (0≤x))):=fun o=>by
   cases o with
   |none=>rfl
   |some o=>cases o<;>rfl
  rw[hm];refine zi4 (p:=fun u=>leT u t) (f:=fun i=>(i:Int)) ?_ (fun h=>by rw[h]) (fun i hi h=>by rw[h,decide_eq_true (by omega)]);intro i u hi;unfold z6d;rw[znz (hf _ (zci hi)) ht];simp only[zz0];cases leT (f.getD i zzd) t<;>rfl
 rw[h];rfl
theorem zo4 {fuel:Nat}{l:List Time}(hl:NN l)(hz:l.length≤274877906944)(hf:2*l.length+30<fuel):z5u fuel l=some (zae l):=by
 unfold z5u z0a;have hs:NN (sortT l):=fun x hx=>hl x ((za9 l).mem_iff.1 hx)
 have hlen:=ze8 l;rw[z0b hz,zz0,zkc (by omega) hf,zz0];show need ((sortT l).length=l.length) _=_;rw[z0b hlen];unfold zae zg9;generalize sortT l=s at*;rw[z5n (s.foldl (fun f t=>if f.any (fun u=>leT u t)then f else f++[t]) []) (fun i a=>a=(s.take i).foldl (fun f t=>if f.any (fun u=>leT u t)then f else f++[t]) []) (fun a h=>by rw[h,List.take_of_length_le (zzf _)])]
 ·rfl
 ·rintro i a hi rfl;have hle:((s.take i).foldl (fun f t=>if f.any (fun u=>leT u t)then f else f++[t]) []).length≤i:=by
   have:=zd9 (s.take i);unfold zg9 at this;rw[zzp]at this;omega
  have hnn:NN ((s.take i).foldl (fun f t=>if f.any (fun u=>leT u t)then f else f++[t]) []):=by
   have key: ∀(r f:List Time),NN r→NN f→NN (r.foldl (fun f t=>if f.any (fun u=>leT u t)then f else f++[t]) f):=by
    intro r;induction r with
    |nil=>intro f _ h;exact h
    |cons t r ih=>
     intro f hr h;rw[List.foldl_cons];refine ih _ (fun x hx=>hr x (zz7 _ hx)) ?_;split
     ·exact h
     ·intro x hx;rcases zz2.1 hx with hx|hx
      ·exact h x hx
      ·rw[zzg.1 hx];exact hr t (zz3 ..)
   exact key _ _ (fun x hx=>hs x (List.mem_of_mem_take hx)) (fun x h=>nomatch h)
  refine⟨_,?_,rfl⟩;rw[zzc,z0b hi,zhl hnn (hs _ (zci hi)),zz0,zed hi,List.foldl_append,List.foldl_cons,List.foldl_nil];generalize (s.take i).foldl (fun f t=>if f.any (fun u=>leT u t)then f else f++[t]) []=f at*;cases hc:f.any (fun u=>leT u (s.getD i zzd))with
  |true=>simp only[zzn,z17,if_true]
  |false=>
   rw[Bool.not_false,z44,z0b (by rw[List.length_singleton];omega)];simp
 ·rfl
end Go.Av
namespace Go.Av
open Go
def adv (t:Time)(f:List Time):Time:=if f=[]then t else lub2 t (glbL f)
theorem zn4 {t a b:Time}:glb2 (lub2 t a) (lub2 t b)=lub2 t (glb2 a b):=by
 refine Time.ext' ?_ ?_ ?_<;>simp only[lub2,glb2,mx_eq,mn_eq]<;>omega
theorem zo5 {t:Time}{f:List Time}(h:f≠[]):glbL (f.map (lub2 t))=lub2 t (glbL f):=by
 cases f with
 |nil=>exact absurd rfl h
 |cons x f=>
  simp only[List.map_cons,glbL];induction f generalizing x with
  |nil=>rfl
  |cons y f ih=>
   simp only[List.map_cons,List.foldl_cons];rw[zn4];exact ih (glb2 x y) (by simp)
theorem zpn {t u:Time}(ht:z15 t)(hu:z15 u):z5k [t,u]=some (lub2 t u):=by
 unfold z5k;rw[zbc (fun x hx=>by
  rcases zzj.1 hx with rfl|hx
  ·exact ht
  ·rw[zzg.1 hx];exact hu),zjd ht]
 rfl
theorem zc8 {t:Time}{f:List Time}(ht:z15 t)(hf:NN f)(hl:f.length≤274877906944):z4v t f=some (adv t f):=by
 unfold z4v adv;by_cases h0:f=[]
 ·rw[if_pos h0,h0];rfl
 ·have hlen:f.length≠0:=fun e=>h0 (zza e);rw[if_neg h0,decide_eq_false (by omega),z17,z0b (by unfold lim;omega)];rw[z5n (f.map (lub2 t)) (fun i a=>a=(f.take i).map (lub2 t)++zz6 (f.length-i) (⟨0,(0,0)⟩:Time)) (fun a h=>by rw[h,List.take_of_length_le (zzf _),Nat.sub_self];simp)]
  ·simp only[z6e];unfold za6;rw[zj9,zo5 h0];rfl
  ·rintro i a hi rfl;refine⟨_,?_,rfl⟩;have hlen2:((f.take i).map (lub2 t)++zz6 (f.length-i) (⟨0,(0,0)⟩:Time)).length=f.length:=by
    rw[zze,List.length_map,zzp,List.length_replicate];omega
   rw[zpn ht (hf _ (zci hi)),zz0,hlen2,zzc,z0b (by omega),z0b (by omega),zed hi,List.map_append,show f.length-i=(f.length-(i+1))+1 by omega,List.replicate_succ];have e:=List.set_append_right (s:=(f.take i).map (lub2 t)) (t:=(⟨0,(0,0)⟩:Time)::zz6 (f.length-(i+1)) (⟨0,(0,0)⟩:Time)) i (lub2 t (f.getD i zzd)) (by rw[List.length_map,zzp];omega);rw[e,List.length_map,zzp,show i-min i f.length=0 by omega];simp
  ·simp
end Go.Av
namespace Go.Av
open Go
theorem zmt:zae []=[]:=zza (Nat.le_zero.1 (zh4 []))
theorem zq5 {t:Time}{f:List Time}(ht:z15 t)(hf:NN f):z15 (adv t f):=by
 unfold adv;split
 ·exact ht
 ·exact zpm ht (zpg hf)
theorem zp0 (t:Time)(f:List Time):adv (adv t f) f=adv t f:=by
 unfold adv;split
 ·rfl
 ·refine Time.ext' ?_ ?_ ?_<;>simp only[lub2,mx_eq]<;>omega
theorem zp2 {t:Time}{f g:List Time}(hg:g≠[])(h: ∀x∈g,f.any (fun u=>leT u x)=true):adv (adv t f) g=adv t g:=by
 by_cases hf:f=[]
 ·cases g with
  |nil=>exact absurd rfl hg
  |cons x g=>have:=h x (zz3 ..);rw[hf]at this;cases this
 ·have hle:leT (glbL f) (glbL g)=true:=by
   rw[zh5 hg];intro x hx;obtain⟨u,hu,hux⟩:=List.any_eq_true.1 (h x hx);exact zdz ((zh5 hf).1 (zb1 _) u hu) hux
  unfold adv;rw[if_neg hf,if_neg hg,if_neg hg];rw[zeo]at hle;refine Time.ext' ?_ ?_ ?_<;>simp only[lub2,mx_eq]<;>omega
end Go.Av
namespace Go.Av
open Go
def Fr (l:List Time):Prop:=(∀t∈l,okT t=true)∧zae l=l
theorem zme {fuel:Nat}(hf:5<fuel)(l:List Time): ∃e,z3i fuel l=some e∧(e=0↔ ∀t∈l,okT t=true):=by
 unfold z3i;rw[zcr (fun t=>if okT t=true then 0 else 1) (fun x=>x)]
 ·have key: ∀l:List Time,l.foldr (fun x v=>thenC (if okT x=true then 0 else 1) v) (0:Int)=0↔ ∀t∈l,okT t=true:=fun l=>by
   induction l with
   |nil=>simp
   |cons t l ih=>
    rw[List.foldr_cons,z8z,ih];by_cases h:okT t=true<;>simp[h]
  refine⟨l.foldr (fun x v=>thenC (if okT x=true then 0 else 1) v) (0:Int),?_,key l⟩;split
  ·rename_i h;rw[h];rfl
  ·rfl
 ·intro i hi;have h:=zc0 hf (l.getD i zzd)
  unfold z3i at h;simp only[zzq,List.length_nil,zzc,z0j,List.getD_cons_zero]at h;simp only[zku hf,zz0,z0d]at h ⊢;generalize l.getD i zzd=t at*;unfold okT at*;simp only[mx_eq]at*;by_cases g:4611686018427387904<max t.epoch (max t.loop.1 t.loop.2)
  ·rw[if_pos g,if_neg (by rw[if_neg (by simp only[Bool.and_eq_true,decide_eq_true_eq];omega)];decide),if_neg (by simp only[Bool.and_eq_true,decide_eq_true_eq];omega)]
  ·rw[if_neg g,if_pos (by rw[if_pos (by simp only[Bool.and_eq_true,decide_eq_true_eq];omega)])]
theorem zmm (a b:List Time): ∃r,z0v a b=some r∧(r=true↔a=b):=by
 unfold z0v;by_cases hl:a.length=b.length
 ·rw[decide_eq_true (by omega:(a.length:Int)=(b.length:Int))];simp only[zzn,z17];have key: ∀k i,i+k=a.length→ ∃r,outK (z0j (S:=Unit) (R:=Bool) (fun i1 (a2:Unit)=>need ((0:Int)≤((i1:Nat):Int)∧((i1:Nat):Int)<(b.length:Int))<|bf (!(z1o (a.getD i1 zzd) (b.getD i1 zzd))) (some (.ret false)) (some (.next ()))) k i ()) (fun(a3:Unit)=>some true) (fun x=>some x)=some r∧(r=true↔a.drop i=b.drop i):=by
   intro k;induction k with
   |zero=>
    intro i hi;refine⟨true,rfl,?_⟩;rw[zzl (by omega:a.length≤i),zzl (by omega:b.length≤i)];simp
   |succ k ih=>
    intro i hi;simp only[z0j];rw[z0b (by omega),z0x (by omega:i<a.length),z0x (by omega:i<b.length)];by_cases he:z1o (a.getD i zzd) (b.getD i zzd)=true
    ·rw[he];obtain⟨r,h1,h2⟩:=ih (i+1) (by omega);refine⟨r,h1,?_⟩;rw[h2,zel.1 he];simp
    ·have he':z1o (a.getD i zzd) (b.getD i zzd)=false:=by simpa using he
     rw[he'];refine⟨false,rfl,?_⟩;simp only[zzm,false_iff,List.cons.injEq,not_and];intro h;exact absurd (zel.2 h) he
  obtain⟨r,h1,h2⟩:=key a.length 0 (by omega);exact⟨r,h1,by simpa using h2⟩
 ·rw[decide_eq_false (by omega: ¬(a.length:Int)=(b.length:Int))];exact⟨false,rfl,by simp;intro h;exact hl (by rw[h])⟩
theorem zaz {fuel:Nat}{l:List Time}(hf:20000000≤fuel)(hn:l.length≤2000000)(hl:NN l): ∃b,z4b fuel l=some b∧(b=true↔Fr l):=by
 unfold z4b;obtain⟨e,h1,h2⟩:=zme (fuel:=fuel) (by omega) l;rw[h1];simp only[zz0,jn_eq,z0d];by_cases h:e=0
 ·rw[if_pos h,zo4 hl (by omega) (by omega)];obtain⟨r,g1,g2⟩:=zmm (zae l) l;simp only[zz0];rw[g1];exact⟨r,rfl,by rw[g2];exact⟨fun g=>⟨h2.1 h,g⟩,fun g=>g.2⟩⟩
 ·rw[if_neg h];exact⟨false,rfl,by simp only[zzm,false_iff];exact fun g=>h (h2.2 g.1)⟩
theorem zq4:Fr []:=⟨fun t ht=>(by cases ht),zmt⟩
def advU (f:List Time)(u:Update):Update:=⟨u.key,u.row,adv u.time f,u.diff⟩
def advL (f:List Time)(l:List Update):List Update:=l.map (advU f)
theorem zny (u:Update):advU [] u=u:=by unfold advU adv;simp
def AdvOk (f:List Time)(l R:List Update)(e:Int):Prop:=(chkL l≠0∧R=[]∧e=chkL l)∨(chkL l=0∧zm3 (advL f l) R e)
theorem zf3 {fuel:Nat}{f:List Time}{ls:List (List Update)}(hf:20000000≤fuel)(hF:NN f)(hl:f.length≤2000000)(hn:ls.flatten.length≤4000000)(hd: ∀u∈ls.flatten,in64 u.diff)(ht: ∀u∈ls.flatten,z15 u.time):
 ∃R e,z43 fuel f ls=some (R,e)∧AdvOk f ls.flatten R e∧R.length≤ls.flatten.length:=by
 unfold z43;rw[show z0c ls=some ls.flatten from zfg hn];simp only[zz0];generalize ls.flatten=l at*;rw[zav (by omega)];simp only[zz0,z2h,z0d];by_cases h:chkL l=0
 ·rw[if_pos h];rw[z5n (advL f l) (fun i a=>a=advL f (l.take i)++l.drop i) (fun s hs=>by rw[hs,List.take_length,List.drop_length,List.append_nil])]
  ·simp only[z6e];have hfl:([advL f l]:List (List Update)).flatten=advL f l:=by simp
   obtain⟨R,e,h1,h2,h3⟩:=zko (fuel:=fuel) (ls:=[advL f l]) hf (by rw[hfl];simp[advL];exact hn) (fun u hu=>by
    rw[hfl]at hu;obtain⟨v,hv,rfl⟩:=List.mem_map.1 hu;exact hd v hv)
   rw[hfl]at h2 h3;rw[h1];exact⟨R,e,rfl,.inr ⟨h,h2⟩,by simpa [advL]using h3⟩
  ·intro i a hi ha;have hla:(advL f (l.take i)).length=i:=by simp[advL];omega
   have hlen:a.length=l.length:=by rw[ha];simp[hla];omega
   have hg:a.getD i zzd=l.getD i zzd:=by
    rw[ha,z0x hi];have:=zja (advL f (l.take i)) (l.drop (i+1)) (l.getD i zzd);rwa[hla]at this
   refine⟨_,?_,rfl⟩;simp only[zzc];rw[z0b (by omega),z0b (by omega),hg,zc8 (ht _ (z2b hi)) hF (by omega)];simp only[zz0];rw[z0b (by omega),z0b (by omega)];congr 2;rw[ha,z0x hi];have:=zh7 (advL f (l.take i)) (l.drop (i+1)) (l.getD i zzd) (advU f (l.getD i zzd))
   rw[hla]at this;have e1:advL f (l.take (i+1))=advL f (l.take i)++[advU f (l.getD i zzd)]:=by rw[z33 hi];simp[advL]
   rw[e1,List.append_assoc];exact this
  ·simp[advL]
 ·rw[if_neg h];exact⟨_,_,rfl,.inl ⟨h,rfl,rfl⟩,Nat.zero_le _⟩
def zee (f:List Time)(l:List Update)(B:Batch)(e:Int):Prop:=
 (¬Fr f∧e=4∧B=⟨[],[]⟩)∨(Fr f∧ ∃R e',AdvOk f l R e'∧R.length≤l.length∧((e'≠0∧e=e'∧B=⟨[],[]⟩)∨(e'=0∧e=0∧B=⟨f,R⟩)))
theorem zo0 {fuel:Nat}{f:List Time}{ls:List (List Update)}(hf:20000000≤fuel)(hF:NN f)(hl:f.length≤2000000)(hn:ls.flatten.length≤4000000)(hd: ∀u∈ls.flatten,in64 u.diff)(ht: ∀u∈ls.flatten,z15 u.time):
 ∃B e,z6j fuel f ls=some (B,e)∧zee f ls.flatten B e:=by
 unfold z6j;obtain⟨b,h1,h2⟩:=zaz (fuel:=fuel) hf hl hF;rw[h1];simp only[zz0];cases b with
 |false=>exact⟨_,_,rfl,.inl ⟨fun g=>(by cases h2.2 g),rfl,rfl⟩⟩
 |true=>
  obtain⟨R,e',g1,g2,g3⟩:=zf3 (fuel:=fuel) hf hF hl hn hd ht;rw[g1];simp only[zzn,z17,zz0,z2h,z0d];by_cases h:e'=0
  ·rw[if_pos h];unfold z0a;rw[z0b (by omega)];exact⟨_,_,rfl,.inr ⟨h2.1 rfl,R,e',g2,g3,.inr ⟨h,rfl,rfl⟩⟩⟩
  ·rw[if_neg h];exact⟨_,_,rfl,.inr ⟨h2.1 rfl,R,e',g2,g3,.inl ⟨h,rfl,rfl⟩⟩⟩
theorem zlf {f:List Time}{l:List Update}{B:Batch}{e:Int}(h:zee f l B e)(he:e=0):
 Fr f∧chkL l=0∧chkL (advL f l)=0∧ ∃R,B=⟨f,R⟩∧TotU (advL f l) R 0∧R.length≤l.length:=by
 rcases h with⟨_,h,_⟩|⟨h1,R,e',h2,h3,⟨h4,h5,_⟩|⟨h4,_,h5⟩⟩
 ·omega
 ·omega
 ·rcases h2 with⟨g1,g2,g3⟩|⟨g1,⟨g2,g3,g4⟩|⟨g2,g3⟩⟩
  ·omega
  ·omega
  ·exact⟨h1,g1,g2,R,h5,h4▸g3,h3⟩
theorem zhb {f:List Time}{l R:List Update}{e:Int}(h:TotU (advL f l) R e): ∀r∈R,advU f r=r:=fun r hr=>by
 rcases h with⟨_,h,_⟩|⟨_,rfl,_⟩
 ·obtain⟨y,h1,h2⟩:=h.mem r hr;obtain⟨z,h3,h4⟩:=zak.1 h1;obtain⟨u,_,rfl⟩:=List.mem_map.1 h3;rw[h2,←h4];unfold advU z48;simp only[zp0]
 ·cases hr
theorem zm8 {f:List Time}{R:List Update}(h: ∀r∈R,advU f r=r):advL f R=R:=by
 unfold advL;exact(List.map_congr_left h).trans (List.map_id R)
theorem zjf {l R:List Update}{e:Int}{f:List Time}(h:TotU (advL f l) R e)(hF:NN f)(ht: ∀u∈l,z15 u.time): ∀r∈R,z15 r.time:=
 zow h fun u hu=>by
  obtain⟨v,hv,rfl⟩:=List.mem_map.1 hu;exact zq5 (ht v hv) hF
end Go.Av
namespace Go.Av
open Go
theorem zi3 {α:Type}[Inhabited α]{c:α→α→Int}(hC:IsCmp c){l:List α}(h: ∀j,0<j→j<l.length→c (l.getD (j-1) zzd) (l.getD j zzd)<0):l.Pairwise fun a b=>c a b<0:=by
 have key: ∀j i,i<j→j<l.length→c (l.getD i zzd) (l.getD j zzd)<0:=by
  intro j;induction j with
  |zero=>intro i hi;omega
  |succ j ih=>
   intro i hi hj;have h1:=h (j+1) (by omega) hj
   rw[Nat.add_sub_cancel]at h1;by_cases e:i=j
   ·subst e;exact h1
   ·exact hC.lt_tr (ih i (by omega) (by omega)) (by omega)
 rw[List.pairwise_iff_getElem];intro i j hi hj hij;have:=key j i hij hj
 rwa[List.getD_eq_getElem?_getD,List.getElem?_eq_getElem hi,List.getD_eq_getElem?_getD,List.getElem?_eq_getElem hj]at this
structure EvenP (l:List Update):Prop where
 lt:l.Pairwise fun a b=>cU a b<0
 nz: ∀r∈l,r.diff≠0
 ok: ∀r∈l,okU r
theorem EvenP.adj {l:List Update}(h:EvenP l){i:Nat}(h0:0<i)(hi:i<l.length):cU (l.getD (i-1) zzd) (l.getD i zzd)<0:=by
 have hs:=h.lt;rw[List.pairwise_iff_getElem]at hs;have:=hs (i-1) i (by omega) hi (by omega)
 rwa[List.getD_eq_getElem?_getD,List.getElem?_eq_getElem (by omega:i-1<l.length),List.getD_eq_getElem?_getD,List.getElem?_eq_getElem hi]
theorem zh2 {fuel:Nat}{l:List Update}(hf:20000000≤fuel)(hn:l.length≤4000000): ∃b,z7h fuel l=some b∧(b=true↔EvenP l):=by
 unfold z7h;rw[zav (by omega)]
 let G:Option Bool→Prop:=fun q=> ∃b,q=some b∧(b=true↔EvenP l)
 refine z9c (G:=G) (fun i _=> ∀j,j<i→(l.getD j zzd).diff≠0∧(0<j→cU (l.getD (j-1) zzd) (l.getD j zzd)<0)) (fun _=> ∀j,j<l.length→(l.getD j zzd).diff≠0∧(0<j→cU (l.getD (j-1) zzd) (l.getD j zzd)<0))
  (fun r=>r=false∧ ¬EvenP l) (fun j hj=>by omega) (fun _ h=>h) ?_ ?_ ?_
 ·intro s h;refine⟨_,rfl,?_⟩;simp only[decide_eq_true_eq];rw[z7g];refine⟨fun ho=>⟨zi3 cU_is fun j h0 hj=>(h j hj).2 h0,fun r hr=>?_,ho⟩,fun hE=>hE.ok⟩;obtain⟨i,hi,rfl⟩:=List.mem_iff_getElem.1 hr;have:=(h i hi).1
  rwa[List.getD_eq_getElem?_getD,List.getElem?_eq_getElem hi]at this
 ·rintro r ⟨rfl,h⟩;exact⟨false,rfl,by simp[h]⟩
 ·intro i s hi h;simp only[jn_eq,z0d];by_cases h0:(l.getD i zzd).diff=0
  ·rw[if_pos h0];exact .inr (.inr ⟨_,rfl,rfl,fun hE=>hE.nz _ (z2b hi) h0⟩)
  ·rw[if_neg h0];by_cases g:0<((i:Nat):Int)
   ·rw[if_pos g,wsub1 (by omega) (by omega),z0b (by omega),zar];simp only[zz0,z0d,zz8];by_cases k:0≤cU (l.getD (i-1) zzd) (l.getD i zzd)
    ·rw[if_pos k];exact .inr (.inr ⟨_,rfl,rfl,fun hE=>by have:=hE.adj (i:=i) (by omega) hi;omega⟩)
    ·rw[if_neg k];refine .inl ⟨_,rfl,fun j hj=>?_⟩;by_cases e:j=i
     ·subst e;exact⟨h0,fun _=>by omega⟩
     ·exact h j (by omega)
   ·rw[if_neg g];refine .inl ⟨_,rfl,fun j hj=>?_⟩;by_cases e:j=i
    ·subst e;exact⟨h0,fun _=>by omega⟩
    ·exact h j (by omega)
def AdvP (f:List Time)(l:List Update):Prop:= ∀r∈l,adv r.time f=r.time
theorem zim {f:List Time}{l:List Update}:AdvP f l↔ ∀r∈l,advU f r=r:=by
 refine forall_congr' fun r=>imp_congr_right fun _=>?_;unfold advU;rcases r with⟨a,b,c,d⟩;simp
theorem zp1 {f:List Time}{l:List Update}:(l.any fun u=> !z1o (adv u.time f) u.time)=false↔AdvP f l:=by
 simp only[List.any_eq_false,AdvP,Bool.not_eq_true,Bool.not_eq_false',zel]
theorem zgl {fuel:Nat}{f:List Time}{l:List Update}(hf:20000000≤fuel)(hF:NN f)(hl:f.length≤2000000)(hn:l.length≤4000000)(ht: ∀r∈l,z15 r.time): ∃b,z5z fuel l f=some b∧(b=true↔EvenP l∧AdvP f l):=by
 unfold z5z;obtain⟨b,h1,h2⟩:=zh2 (l:=l) hf hn;rw[h1];simp only[zz0,jn_eq];cases b with
 |false=>exact⟨false,rfl,by simp only[zzm,false_iff];exact fun g=>by have:=h2.2 g.1;cases this⟩
 |true=>
  rw[z44];have hE:=h2.1 rfl;unfold z0u z0w;have hany:=zp1 (f:=f) (l:=l)
  refine⟨!(l.any fun u=> !z1o (adv u.time f) u.time),?_,by rw[←hany];simp[hE]⟩;have hB: ∀i (u:Unit),i<l.length→(z58 (l.getD i zzd) f).bind (fun r4=>bf r4 (some (.ret ((i:Nat):Int))) (some (.next ())))=if(!z1o (adv (l.getD i zzd).time f) (l.getD i zzd).time)=true then some (Ctl.ret ((i:Nat):Int))else some (.next ()):=fun i u hi=>by
   unfold z58;rw[zc8 (ht _ (z2b hi)) hF (by omega)];simp only[zz0];cases (!z1o (adv (l.getD i zzd).time f) (l.getD i zzd).time)<;>rfl
  cases hc:l.any fun u=> !z1o (adv u.time f) u.time with
  |false=>
   have e:=zi4 (kn:=fun _=>some (-1:Int)) (kr:=fun x:Int=>some x) (p:=fun u:Update=> !z1o (adv u.time f) u.time) (f:=fun i=>(i:Int)) (q:=some (-1)) hB (fun _=>rfl) (fun i hi h=>by rw[hc]at h;cases h);rw[e];rfl
  |true=>
   have: ∃k:Nat,outK (z0j (S:=Unit) (R:=Int) (fun i1 (a2:Unit)=>(z58 (l.getD i1 zzd) f).bind fun r4=>bf r4 (some (.ret ((i1:Nat):Int))) (some (.next ()))) l.length 0 ()) (fun(a3:Unit)=>some (-1)) (fun x=>some x)=some ((k:Nat):Int):=by
    refine z9c (G:=fun q=> ∃k:Nat,q=some ((k:Nat):Int)) (fun i _=>(l.take i).any (fun u=> !z1o (adv u.time f) u.time)=false) (fun _=>False) (fun r=> ∃k:Nat,r=(k:Int)) rfl (fun s h=>by rw[List.take_length,hc]at h;cases h) (fun s h=>h.elim) (fun r ⟨k,h⟩=>⟨k,by rw[h]⟩) ?_;intro i s hi h;rw[hB i s hi];by_cases g:(!z1o (adv (l.getD i zzd).time f) (l.getD i zzd).time)=true
    ·rw[if_pos g];exact .inr (.inr ⟨_,rfl,i,rfl⟩)
    ·rw[if_neg g];refine .inl ⟨_,rfl,?_⟩;rw[z33 hi,List.any_append,h];simp only[List.any_cons,List.any_nil,Bool.or_false,Bool.false_or]
     simpa using g
   obtain⟨k,hk⟩:=this;rw[hk];have:decide (0≤((k:Nat):Int))=true:=by rw[decide_eq_true_eq];omega
   simp only[zz0,this]
def z9k (b:Batch):Prop:=Fr b.since∧EvenP b.updates∧AdvP b.since b.updates
theorem z97 {fuel:Nat}{b:Batch}(hf:20000000≤fuel)(hF:NN b.since)(hl:b.since.length≤2000000)(hn:b.updates.length≤4000000)(ht: ∀r∈b.updates,z15 r.time):(z3w fuel b=some 0∧z9k b)∨(z3w fuel b=some 4∧ ¬z9k b):=by
 unfold z3w;obtain⟨x,h1,h2⟩:=zaz (fuel:=fuel) hf hl hF;rw[h1];simp only[zz0,jn_eq];cases x with
 |false=>right;exact⟨rfl,fun h=>by have:=h2.2 h.1;cases this⟩
 |true=>
  obtain⟨y,g1,g2⟩:=zgl (fuel:=fuel) hf hF hl hn ht;rw[g1];cases y with
  |false=>right;exact⟨rfl,fun h=>by have:=g2.2 h.2;cases this⟩
  |true=>left;exact⟨rfl,h2.1 rfl,g2.1 rfl⟩
end Go.Av
namespace Go.Av
open Go
abbrev kc (key:List Value)(u:Update):Int:=cmpL cmpV u.key key
def cntP (p:Update→Bool):List Update→Nat
 |[]=>0
 |u::l=>if p u then cntP p l+1 else 0
theorem z98 (p:Update→Bool): ∀l,cntP p l≤l.length
 |[]=>zzf _
 |u::l=>by
  unfold cntP;split
  ·simp only[zzq];have:=z98 p l;omega
  ·exact Nat.zero_le _
theorem zgy {p:Update→Bool}: ∀{l:List Update} {i:Nat},i<cntP p l→p (l.getD i zzd)=true
 |[],i,h=>by simp[cntP]at h
 |u::l,i,h=>by
  unfold cntP at h;split at h
  ·rename_i hu
   cases i with
   |zero=>exact hu
   |succ i=>simp only[List.getD_cons_succ];exact zgy (by omega)
  ·omega
theorem zej {p:Update→Bool}: ∀{l:List Update},cntP p l<l.length→p (l.getD (cntP p l) zzd)=false
 |[],h=>by simp at h
 |u::l,h=>by
  unfold cntP at*;split
  ·rename_i hu
   rw[if_pos hu]at h;simp only[List.getD_cons_succ];exact zej (by simp only[zzq]at h;omega)
  ·rename_i hu
   simpa using hu
theorem zmi {p:Update→Bool}{l:List Update}{n:Nat}(hn:n≤l.length)(h1: ∀i,i<n→p (l.getD i zzd)=true)(h2:n<l.length→p (l.getD n zzd)=false):cntP p l=n:=by
 have g1:=z98 p l;rcases Nat.lt_trichotomy (cntP p l) n with h|h|h
 ·have a:=zej (p:=p) (l:=l) (by omega);rw[h1 _ h]at a;cases a
 ·exact h
 ·have a:=zgy h;rw[h2 (by omega)]at a;cases a
end Go.Av
namespace Go.Av
open Go
theorem zln {l:List Update}{p:Update→Bool}{B:Nat→Unit→Option (Ctl Unit Int)}(hB: ∀i (u:Unit),i<l.length→B i u=if p (l.getD i zzd)=true then some (.next ())else some (.ret ((i:Nat):Int))):
 outK (z0j B l.length 0 ()) (fun _=>some (-1)) (fun x=>some x)=some (if cntP p l<l.length then((cntP p l:Nat):Int)else -1):=by
 refine z9c (G:=fun q=>q=some (if cntP p l<l.length then((cntP p l:Nat):Int)else -1)) (fun i _=> ∀j,j<i→p (l.getD j zzd)=true) (fun _=> ¬cntP p l<l.length) (fun r=>cntP p l<l.length∧r=((cntP p l:Nat):Int)) (fun j hj=>by omega) (fun s h hc=>?_) (fun s h=>by rw[if_neg h]) (fun r ⟨h,e⟩=>by rw[if_pos h,e]) ?_
 ·have:=zej hc;rw[h _ hc]at this;cases this
 ·intro i s hi h;rw[hB i s hi];by_cases g:p (l.getD i zzd)=true
  ·rw[if_pos g];refine .inl ⟨_,rfl,fun j hj=>?_⟩;by_cases e:j=i
   ·subst e;exact g
   ·exact h j (by omega)
  ·rw[if_neg g];have:cntP p l=i:=zmi (by omega) h fun _=>by simpa using g
   exact .inr (.inr ⟨_,rfl,by omega,by rw[this]⟩)
end Go.Av
namespace Go.Av
open Go
abbrev upTo (l:List Update)(key:List Value):Nat:=(l.filter fun u=>decide (kc key u≤0)).length
end Go.Av
namespace Go.Av
open Go
def zq3 (f:List Time)(l:List Update)(B:Batch)(e:Int):Prop:=
 (¬Fr f∧e=4∧B=⟨[],[]⟩)∨(Fr f∧ ∃R e',AdvOk f l R e'∧((e'≠0∧e=e'∧B=⟨[],[]⟩)∨(e'=0∧e=0∧B=⟨f,R⟩)))
theorem zee.r {f:List Time}{l:List Update}{B:Batch}{e:Int}(h:zee f l B e):zq3 f l B e:=by
 rcases h with h|⟨h1,R,e',h2,_,h3⟩
 ·exact .inl h
 ·exact .inr ⟨h1,R,e',h2,h3⟩
def z4s (since than:List Time):Bool:=decide (than=[])||(decide (since≠[]) && since.all fun t=>than.any fun u=>leT u t)
theorem zp4 {l:List Time}{p:Time→Bool}:(l.any fun t=> !p t)= !l.all p:=by rw[List.any_eq_not_all_not];simp
theorem zig {since than:List Time}(hF:NN since)(hT:NN than):z0g since than=some (!since.all fun t=>than.any fun u=>leT u t):=by
 unfold z0g z0k;have hB: ∀i (u:Unit),i<since.length→(z5y (since.getD i zzd) than).bind (fun r4=>bf r4 (some (.ret ((i:Nat):Int))) (some (.next ())))=if(!than.any fun u=>leT u (since.getD i zzd))=true then some (Ctl.ret ((i:Nat):Int))else some (.next ()):=fun i u hi=>by
  unfold z5y;rw[zhl hT (hF _ (z2b hi))];simp only[zz0];cases (!than.any fun u=>leT u (since.getD i zzd))<;>rfl
 have hany:=zp4 (l:=since) (p:=fun t=>than.any fun u=>leT u t);rw[←hany];have: ∃z:Int,outK (z0j (S:=Unit) (R:=Int) (fun i1 (a2:Unit)=>(z5y (since.getD i1 zzd) than).bind fun r4=>bf r4 (some (.ret ((i1:Nat):Int))) (some (.next ()))) since.length 0 ()) (fun(a3:Unit)=>some (-1)) (fun x=>some x)=some z∧decide (0≤z)=since.any fun t=> !than.any fun u=>leT u t:=by
  refine z9c (G:=fun q=> ∃z:Int,q=some z∧decide (0≤z)=since.any fun t=> !than.any fun u=>leT u t) (fun i _=>(since.take i).any (fun t=> !than.any fun u=>leT u t)=false) (fun _=>since.any (fun t=> !than.any fun u=>leT u t)=false) (fun r=>0≤r∧since.any (fun t=> !than.any fun u=>leT u t)=true) rfl (fun s h=>by rwa[List.take_length]at h) (fun s h=>⟨_,rfl,by rw[h];rfl⟩) (fun r h=>⟨r,rfl,by rw[h.2];exact decide_eq_true h.1⟩) ?_;intro i s hi h;rw[hB i s hi];by_cases g:(!than.any fun u=>leT u (since.getD i zzd))=true
  ·rw[if_pos g];exact .inr (.inr ⟨_,rfl,by omega,List.any_eq_true.2 ⟨_,z2b hi,g⟩⟩)
  ·rw[if_neg g];refine .inl ⟨_,rfl,?_⟩;rw[z33 hi,List.any_append,h];simp only[List.any_cons,List.any_nil,Bool.or_false,Bool.false_or]
   simpa using g
 obtain⟨z,h1,h2⟩:=this;rw[h1];simp only[zz0,h2]
theorem z9a {since than:List Time}(hF:NN since)(hT:NN than):z3x since than=some (z4s since than):=by
 unfold z3x z4s;simp only[jn_eq,z0d];by_cases h:than=[]
 ·rw[h];rfl
 ·have h0: ¬(than.length:Int)=0:=fun e=>h (zza (by omega));rw[if_neg h0,decide_eq_false h,Bool.false_or];by_cases g:since=[]
  ·rw[g];rfl
  ·have g0:0<(since.length:Int):=by have:=List.length_pos_iff.2 g;omega
   rw[if_pos g0,zig hF hT,decide_eq_true g];simp
end Go.Av
namespace Go.Av
open Go
section
variable {α:Type} {c:α→α→Int} {num:α→Int} {put:α→Int→α}
theorem zmq (hC:IsCmp c){l1 l2:List (α×Int)}(h: ¬Fits c l1)(hne: ∀p∈l1,∀q∈l2,c p.1 q.1≠0): ¬Fits c (l1++l2):=fun hf=>by
 apply h;intro y;by_cases e:sm c l1 y=0
 ·rw[e];unfold in64;omega
 ·obtain⟨p,hp,e'⟩:=zc5 e;have:=hf y
  rw[z8i,zah (l:=l2) fun q hq=>by rw[hC.eqL q.1 e'];exact hne p hp q hq,Int.add_zero]at this;exact this
theorem zmr {l l':List (α×Int)}(h:l.Perm l'):Fits c l↔Fits c l':=by
 unfold Fits;simp only[zh8 h]
end
def krw (u v:Update):Int:=thenC (cmpL cmpV u.key v.key) (cmpL cmpV u.row v.row)
theorem z4h:IsCmp krw:=(zei.list.on fun u:Update=>u.key).lex (zei.list.on fun u:Update=>u.row)
theorem zeq (u v:Update):z5h u v=some (krw u v):=by
 unfold z5h krw;rw[zb8,zb8];simp only[zz0,zna];rfl
theorem zbz (u v:Update):cU u v=thenC (krw u v) (cmpT u.time v.time):=by
 unfold cU krw thenC;by_cases h:cmpL cmpV u.key v.key=0<;>simp[h]
theorem zmz {u v:Update}(h:cU u v<0):krw u v≤0:=by
 rw[zbz]at h;unfold thenC at h;split at h<;>omega
theorem cU_lt {u v:Update}(h:krw u v<0):cU u v<0:=by
 rw[zbz];unfold thenC;rw[if_neg (by omega)];exact h
theorem zkw {t:Time}:okT t=true↔t.epoch≤4611686018427387904∧t.loop.1≤4611686018427387904∧t.loop.2≤4611686018427387904:=by
 unfold okT;simp only[Bool.and_eq_true,decide_eq_true_eq]
theorem zqe {t s:Time}(h:leT t s=true)(hs:okT s=true):okT t=true:=by
 rw[zeo]at h;rw[zkw]at*;omega
theorem zpp {t s:Time}(h:okT t=true)(hs:okT s=true):okT (lub2 t s)=true:=by
 rw[zkw]at*;simp only[lub2,mx_eq];omega
theorem zpo {t:Time}{f:List Time}(ht:okT t=true)(hf: ∀x∈f,okT x=true):okT (adv t f)=true:=by
 unfold adv;split
 ·exact ht
 ·rename_i h
  cases f with
  |nil=>exact absurd rfl h
  |cons x f=>
   exact zpp ht (zqe ((zh5 h).1 (zb1 _) x (zz3 ..)) (hf x (zz3 ..)))
theorem zaf {f:List Time}{l:List Update}(hf: ∀x∈f,okT x=true)(ho: ∀u∈l,okU u): ∀u∈advL f l,okU u:=fun u hu=>by
 obtain⟨v,hv,rfl⟩:=List.mem_map.1 hu;exact⟨(ho v hv).1,(ho v hv).2.1,zpo (ho v hv).2.2 hf⟩
theorem zbk (f:List Time)(a b:List Update):advL f (a++b)=advL f a++advL f b:=List.map_append ..
theorem ze2 (a b:List Update):pU (a++b)=pU a++pU b:=zhi _ a b
theorem zgh {f:List Time}{l:List Update}{p:Update×Int}(h:p∈pU (advL f l)): ∃u∈l,p.1=advU f u:=by
 obtain⟨x,h1,h2⟩:=zak.1 h;obtain⟨u,h3,h4⟩:=List.mem_map.1 h1;exact⟨u,h3,by rw[←h2,←h4]⟩
theorem zl0 {a b:List Update}(h:a.Perm b)(f:List Time):(pU (advL f a)).Perm (pU (advL f b)):=(h.map _).map _
theorem zm9 {f:List Time}{l R:List Update}{e:Int}(hf: ∀x∈f,okT x=true)(ho: ∀u∈l,okU u)(h:AdvOk f l R e):TotU (advL f l) R e:=by
 rcases h with⟨h1,_⟩|⟨_,⟨h1,_⟩|⟨_,h2⟩⟩
 ·exact absurd (z7g.2 ho) h1
 ·exact absurd (z7g.2 (zaf hf ho)) h1
 ·exact h2
end Go.Av
namespace Go.Av
open Go
abbrev PwU (D:List Update):Prop:=D.Pairwise fun a b=>cU a b<0
theorem PwU.drop {D:List Update}(h:PwU D)(n:Nat):PwU (D.drop n):=h.sublist (List.drop_sublist n D)
theorem z70 {d:Update}{D:List Update}(h:PwU (d::D)): ∀y∈d::D,krw d y≤0:=fun y hy=>by
 rcases zzj.1 hy with rfl|hy
 ·rw[z4h.refl];exact Int.le_refl _
 ·exact zmz ((List.pairwise_cons.1 h).1 y hy)
abbrev runN (u:Update)(D:List Update):Nat:=cntP (fun x=>decide (krw x u=0)) D
theorem zbe {u:Update}: ∀{D:List Update},PwU D→(∀y∈D,krw u y≤0)→(∀x∈D.take (runN u D),krw x u=0)∧ ∀y∈D.drop (runN u D),krw u y<0
 |[],_,_=>⟨fun x hx=>(by simp at hx),fun x hx=>(by simp at hx)⟩
 |d::D,hp,hm=>by
  by_cases h:krw d u=0
  ·obtain⟨h1,h2⟩:=zbe (u:=u) (List.pairwise_cons.1 hp).2 fun y hy=>hm y (zz7 _ hy);have e:runN u (d::D)=runN u D+1:=by simp only[runN,cntP,h,decide_true,if_true]
   rw[e,List.take_succ_cons,List.drop_succ_cons];refine⟨fun x hx=>?_,h2⟩;rcases zzj.1 hx with rfl|hx
   ·exact h
   ·exact h1 x hx
  ·have e:runN u (d::D)=0:=by simp only[runN,cntP,decide_eq_false h];rfl
   rw[e,List.take_zero,List.drop_zero];refine⟨fun x hx=>(by cases hx),fun y hy=>?_⟩;have h1:krw u d<0:=by
    have:=hm d (zz3 ..);have:=z4h.anti d u
    omega
   exact z4h.lt_tr h1 (z70 hp y hy)
theorem znh (l:List Update)(u:Update)(hn:l.length≤4000000):z8e l u=some ((runN u l:Nat):Int):=by
 unfold z8e z12;rw[zln (p:=fun x=>decide (krw x u=0)) (fun i s hi=>by
  unfold z9g;rw[zeq];simp only[zz0,z2h,z0d,decide_eq_true_eq])]
 have:=z98 (fun x=>decide (krw x u=0)) l;simp only[zz0,z0d];by_cases h:cntP (fun x=>decide (krw x u=0)) l<l.length
 ·rw[if_pos h,if_neg (by omega)]
 ·rw[if_neg h,if_pos (by omega)];congr 1;show(l.length:Int)=((cntP (fun x=>decide (krw x u=0)) l:Nat):Int);omega
structure MInv (f:List Time) (A B:List Update) (i j:Nat) (out:List Update):Prop where
 hi:i≤A.length
 hj:j≤B.length
 sep: ∀x∈A.take i++B.take j,∀y∈A.drop i++B.drop j,krw x y<0
 tot:TotU (advL f (A.take i++B.take j)) out 0
 len:out.length≤i+j
structure MCtx (f:List Time) (A B:List Update):Prop where
 hF:NN f
 fr:Fr f
 fl:f.length≤2000000
 eA:EvenP A
 eB:EvenP B
 lA:A.length≤2000000
 lB:B.length≤2000000
 tA: ∀r∈A,z15 r.time
 tB: ∀r∈B,z15 r.time
 dA: ∀r∈A,in64 r.diff
 dB: ∀r∈B,in64 r.diff
section
variable {f:List Time} {A B:List Update} {i j:Nat} {out:List Update} {fuel:Nat}
theorem MCtx.ok (c:MCtx f A B): ∀u∈A++B,okU u:=fun u hu=>by
 rcases zz2.1 hu with h|h
 ·exact c.eA.ok u h
 ·exact c.eB.ok u h
theorem zjs (i j:Nat): ∀x∈A.take i++B.take j,x∈A++B:=fun x hx=>by
 rcases zz2.1 hx with h|h
 ·exact zzo _ (List.mem_of_mem_take h)
 ·exact zzh _ (List.mem_of_mem_take h)
theorem MInv.of (h:MInv f A B i j out): ∀r∈out,∃x∈A.take i++B.take j,∀y,krw r y=krw x y:=fun r hr=>by
 rcases h.tot with⟨_,g,_⟩|⟨g,_⟩
 ·obtain⟨p,hp,e⟩:=g.mem r hr;obtain⟨u,hu,e2⟩:=zgh hp;exact⟨u,hu,fun y=>by rw[e,e2];rfl⟩
 ·omega
theorem MInv.even (c:MCtx f A B)(h:MInv f A B i j out):EvenP out:=by
 rcases h.tot with⟨_,g,_⟩|⟨g,_⟩
 ·exact⟨g.strict,fun r hr=>(g.sum r hr).2,z9e h.tot (zaf c.fr.1 fun u hu=>c.ok u (zjs i j u hu))⟩
 ·omega
theorem MInv.nn (c:MCtx f A B)(h:MInv f A B i j out): ∀r∈out,z15 r.time:=zjf h.tot c.hF fun u hu=>by
 rcases zz2.1 (zjs i j u hu)with g|g
 ·exact c.tA u g
 ·exact c.tB u g
theorem zes (l:List Update){n:Nat}(h:n≤l.length):Av.sub l (n:Int) (l.length:Int)=l.drop n:=by
 unfold Av.sub;simp only[zz8];exact List.take_of_length_le (by simp)
theorem sub_zero (l:List Update)(n:Nat):Av.sub l 0 (n:Int)=l.take n:=by
 unfold Av.sub;simp
end
end Go.Av
namespace Go.Av
open Go
section
variable {f:List Time} {A B:List Update} {i j:Nat} {out:List Update} {fuel:Nat}
theorem zpr (c:MCtx f A B)(h:MInv f A B i j out):z2r (⟨A,B,(i:Int),(j:Int),f,out⟩:Merger)=some ⟨A,B,(i:Int),(j:Int),f,out⟩:=by
 have lA:=c.lA;have lB:=c.lB;have hi:=h.hi;have hj:=h.hj;have hlen:=h.len;have hfl:=c.fl
 unfold z2r;rw[z7m c.eA.ok (by omega),z7m c.eB.ok (by omega),z7m (h.even c).ok (by omega)];unfold z0a;dsimp only;rw[z0b (by omega)];rfl
theorem zn5:MInv f A B 0 0 [] where
 hi:=Nat.zero_le _
 hj:=Nat.zero_le _
 sep:=fun x hx=>by simp at hx
 tot:=by
  rw[List.take_zero,List.take_zero];exact .inl ⟨rfl,⟨List.Pairwise.nil,fun r hr=>(by cases hr),fun r hr=>(by cases hr),fun y hy=>(by cases hy)⟩,fun y=>(by show in64 0;unfold in64;omega)⟩
 len:=zzf _
end
end Go.Av
namespace Go.Av
open Go
section
variable {f:List Time} {A B:List Update} {fuel:Nat}
theorem zoq {s:List Time}{a b:Batch}(hf:20000000≤fuel)(hF:NN s)(hl:s.length≤2000000)
 (haF:NN a.since) (hal:a.since.length≤2000000) (han:a.updates.length≤2000000) (hat: ∀r∈a.updates,z15 r.time) (had: ∀r∈a.updates,in64 r.diff)
 (hbF:NN b.since) (hbl:b.since.length≤2000000) (hbn:b.updates.length≤2000000) (hbt: ∀r∈b.updates,z15 r.time) (hbd: ∀r∈b.updates,in64 r.diff):
 (∃e,z5m fuel s a b=some ((⟨([]:List Update),([]:List Update),0,0,([]:List Time),([]:List Update)⟩:Merger),e)∧e≠0)∨(z5m fuel s a b=some (⟨a.updates,b.updates,0,0,s,[]⟩,0)∧MCtx s a.updates b.updates):=by
 unfold z5m;simp only[jn_eq];rcases z97 (fuel:=fuel) hf haF hal (by omega) hat with⟨hc,_,hEA,_⟩|⟨hc,_⟩
 case inr=>rw[hc];exact .inl ⟨4,rfl,by decide⟩
 rw[hc];simp only[zz0,decide_true,zzn,z17];rcases z97 (fuel:=fuel) hf hbF hbl (by omega) hbt with⟨hc,_,hEB,_⟩|⟨hc,_⟩
 case inr=>rw[hc];exact .inl ⟨4,rfl,by decide⟩
 rw[hc];simp only[zz0,decide_true,zzn,z17];obtain⟨x,h1,h2⟩:=zaz (fuel:=fuel) hf hl hF;rw[h1];cases x with
 |false=>exact .inl ⟨4,rfl,by decide⟩
 |true=>
  have hFr:=h2.1 rfl;simp only[zz0,zzn,z17];rw[z9a hF haF,z9a hF hbF];cases z4s s a.since with
  |false=>exact .inl ⟨1,rfl,by decide⟩
  |true=>
   simp only[zz0,zzn,z17];cases z4s s b.since with
   |false=>exact .inl ⟨1,rfl,by decide⟩
   |true=>
    simp only[zz0,zzn,z17];have c:MCtx s a.updates b.updates:=⟨hF,hFr,hl,hEA,hEB,han,hbn,hat,hbt,had,hbd⟩
    have ho:=zpr c zn5;rw[show((0:Nat):Int)=(0:Int)from rfl]at ho;rw[ho];exact .inr ⟨rfl,c⟩
end
end Go.Av
namespace Go.Av
open Go
theorem zfn {u:Update}(h:okU u):zgp u:=by
 have:=zh6 h;exact⟨by omega,by omega⟩
structure CutP (l:List Update) (i:Int) (out:List Update):Prop where
 lo:0≤i
 hi:i≤(l.length:Int)
 ne:0<i→i<(l.length:Int)→krw (l.getD (i.toNat-1) zzd) (l.getD i.toNat zzd)≠0
 lt:i<(l.length:Int)→out.length≠0→krw (out.getD (out.length-1) zzd) (l.getD i.toNat zzd)<0
theorem zmk {l out:List Update}{i:Int}(hl:l.length≤4000000)(ho:out.length≤8000000): ∃b,z8d l i out=some b∧(b=true↔CutP l i out):=by
 unfold z8d;simp only[jn_eq,z0d];by_cases h1:i<0
 ·rw[if_pos h1];exact⟨_,rfl,by simp only[zzm,false_iff];intro h;have:=h.lo;omega⟩
 ·rw[if_neg h1];by_cases h2:(l.length:Int)<i
  ·rw[if_pos h2];exact⟨_,rfl,by simp only[zzm,false_iff];intro h;have:=h.hi;omega⟩
  ·rw[if_neg h2];obtain⟨n,rfl⟩: ∃n:Nat,i=(n:Int):=⟨i.toNat,by omega⟩;by_cases h3:(n:Int)=(l.length:Int)
   ·rw[if_pos h3];exact⟨_,rfl,by simp only[true_iff];exact⟨by omega,by omega,fun _ h=>by omega,fun h=>by omega⟩⟩
   ·rw[if_neg h3];have key:(0<(n:Int)→krw (l.getD (n-1) zzd) (l.getD n zzd)≠0)→ ∃b,(if(out.length:Int)=0 then some true else(need ((0:Int)≤(zzi.wrap ((out.length:Int)-1))∧(zzi.wrap ((out.length:Int)-1))<(out.length:Int))<|need ((0:Int)≤(n:Int)∧(n:Int)<(l.length:Int))<|(z5h (out.getD ((zzi.wrap ((out.length:Int)-1)).toNat) zzd) (l.getD (n:Int).toNat zzd)).bind fun r10=>some (decide (r10<0))))=some b∧(b=true↔CutP l (n:Int) out):=fun hne=>by
     by_cases h0:(out.length:Int)=0
     ·rw[if_pos h0];exact⟨_,rfl,by simp only[true_iff];exact⟨by omega,by omega,fun g _=>by rw[zz8];exact hne g,fun _ g=>absurd (by omega) g⟩⟩
     ·rw[if_neg h0,wsub1 (by omega) (by omega),z0b (by omega),z0b (by omega),zz8,zz8,zeq];simp only[zz0];refine⟨_,rfl,?_⟩;rw[decide_eq_true_eq];constructor
      ·intro g;exact⟨by omega,by omega,fun g _=>by rw[zz8];exact hne g,fun _ _=>by rw[zz8];exact g⟩
      ·intro g;have:=g.lt (by omega) (by omega)
       rwa[zz8]at this
    by_cases g:0<(n:Int)
    ·rw[if_pos g,wsub1 (by omega) (by omega),z0b (by omega),z0b (by omega),zz8,zz8,zeq];simp only[zz0];by_cases g2:krw (l.getD (n-1) zzd) (l.getD n zzd)=0
     ·rw[if_pos g2];refine⟨_,rfl,?_⟩;simp only[zzm,false_iff];intro h;have:=h.ne g (by omega)
      rw[zz8]at this;exact this g2
     ·rw[if_neg g2];have:=key fun _=>g2;rwa[zz8]at this
    ·rw[if_neg g];exact key fun h=>absurd h g
structure MergP (m:Merger):Prop where
 fr:Fr m.since
 eA:EvenP m.a
 eB:EvenP m.b
 eO:EvenP m.out
 aO:AdvP m.since m.out
 cA:CutP m.a m.i m.out
 cB:CutP m.b m.j m.out
structure MergS (m:Merger):Prop where
 hF:NN m.since
 fl:m.since.length≤2000000
 lA:m.a.length≤2000000
 lB:m.b.length≤2000000
 lO:m.out.length≤2000000
 tA: ∀r∈m.a,z15 r.time
 tB: ∀r∈m.b,z15 r.time
 tO: ∀r∈m.out,z15 r.time
 dA: ∀r∈m.a,in64 r.diff
 dB: ∀r∈m.b,in64 r.diff
 kA: ∀r∈m.a,zgp r
 kB: ∀r∈m.b,zgp r
 kO: ∀r∈m.out,zgp r
theorem zhm {fuel:Nat}{m:Merger}(hf:20000000≤fuel)(s:MergS m):(z2j fuel m=some 0∧MergP m)∨(z2j fuel m=some 8∧ ¬MergP m):=by
 have lA:=s.lA;have lB:=s.lB;have lO:=s.lO
 unfold z2j;simp only[jn_eq];obtain⟨b1,g1,e1⟩:=zaz (fuel:=fuel) hf s.fl s.hF;rw[g1];cases b1 with
 |false=>right;exact⟨rfl,fun h=>by cases e1.2 h.fr⟩
 |true=>
  obtain⟨b2,g2,e2⟩:=zh2 (fuel:=fuel) (l:=m.a) hf (by omega);simp only[zz0,z44];rw[g2];cases b2 with
  |false=>right;exact⟨rfl,fun h=>by cases e2.2 h.eA⟩
  |true=>
   obtain⟨b3,g3,e3⟩:=zh2 (fuel:=fuel) (l:=m.b) hf (by omega);simp only[zz0,z44];rw[g3];cases b3 with
   |false=>right;exact⟨rfl,fun h=>by cases e3.2 h.eB⟩
   |true=>
    obtain⟨b4,g4,e4⟩:=zgl (fuel:=fuel) (l:=m.out) hf s.hF s.fl (by omega) s.tO;simp only[zz0,z44];rw[g4];cases b4 with
    |false=>right;exact⟨rfl,fun h=>by cases e4.2 ⟨h.eO,h.aO⟩⟩
    |true=>
     obtain⟨b5,g5,e5⟩:=zmk (l:=m.a) (i:=m.i) (out:=m.out) (by omega) (by omega);simp only[zz0,zzn,z17];rw[g5];cases b5 with
     |false=>right;exact⟨rfl,fun h=>by cases e5.2 h.cA⟩
     |true=>
      obtain⟨b6,g6,e6⟩:=zmk (l:=m.b) (i:=m.j) (out:=m.out) (by omega) (by omega);simp only[zz0,zzn,z17];rw[g6];cases b6 with
      |false=>right;exact⟨rfl,fun h=>by cases e6.2 h.cB⟩
      |true=>left;exact⟨rfl,e1.1 rfl,e2.1 rfl,e3.1 rfl,(e4.1 rfl).1,(e4.1 rfl).2,e5.1 rfl,e6.1 rfl⟩
end Go.Av
namespace Go.Av
open Go
section
variable {f:List Time} {A B:List Update} {i j:Nat} {out:List Update} {fuel:Nat}
def headU (A B:List Update)(i j:Nat):Update:=if i=A.length then B.getD j zzd else if j=B.length∨krw (A.getD i zzd) (B.getD j zzd)≤0 then A.getD i zzd else B.getD j zzd
theorem nextB (hi:i≤A.length)(hj:j≤B.length)(hl:i<A.length∨j<B.length): ∃u,z2i (⟨⟨A,B,(i:Int),(j:Int),f,out⟩⟩:Worker)=some (u,⟨⟨A,B,(i:Int),(j:Int),f,out⟩⟩)∧ ∀x,krw x u=krw x (headU A B i j):=by
 unfold z2i headU;simp only[jn_eq,z0d,zz8];by_cases g:(i:Int)<(A.length:Int)
 ·rw[if_pos g,if_neg (by omega: ¬i=A.length)];by_cases g2:(j:Int)=(B.length:Int)
  ·rw[if_pos g2,z0b (by omega),if_pos (.inl (by omega))];exact⟨_,rfl,fun x=>rfl⟩
  ·rw[if_neg g2,z0b (by omega),z0b (by omega),zeq];simp only[zz0,z0d];by_cases g3:krw (A.getD i zzd) (B.getD j zzd)<0
   ·rw[if_pos g3,z0b (by omega),if_pos (.inr (by omega))];exact⟨_,rfl,fun x=>rfl⟩
   ·rw[if_neg g3,z0b (by omega)];refine⟨_,rfl,fun x=>?_⟩;by_cases g4:krw (A.getD i zzd) (B.getD j zzd)≤0
    ·rw[if_pos (.inr g4)];exact(z4h.eqR x (show krw (A.getD i zzd) (B.getD j zzd)=0 by omega)).symm
    ·rw[if_neg (fun h=>by rcases h with h|h;omega;exact g4 h)]
 ·rw[if_neg g,z17,z0b (by omega),if_pos (by omega:i=A.length)];exact⟨_,rfl,fun x=>rfl⟩
theorem zo8 (hi:i≤A.length)(hj:j≤B.length)(hl:i<A.length∨j<B.length):0<runN (headU A B i j) (A.drop i)+runN (headU A B i j) (B.drop j):=by
 have one: ∀(u:Update) (D:List Update),0<runN u (u::D):=fun u D=>by
  simp only[runN,cntP,z4h.refl,decide_true,if_true];omega
 unfold headU;by_cases g:i=A.length
 ·rw[if_pos g,z0x (show j<B.length by omega)];have:=one (B.getD j zzd) (B.drop (j+1));omega
 ·rw[if_neg g,z0x (show i<A.length by omega)];split
  ·have:=one (A.getD i zzd) (A.drop (i+1));omega
  ·rename_i h
   rw[z0x (show j<B.length by omega)];have:=one (B.getD j zzd) (B.drop (j+1));omega
theorem zor (c:MCtx f A B)(hf:20000000≤fuel)(hi:i≤A.length)(hj:j≤B.length)(hlen:out.length≤8000000)(hl:i<A.length∨j<B.length):
 ∃R e,AdvOk f ((A.drop i).take (runN (headU A B i j) (A.drop i))++(B.drop j).take (runN (headU A B i j) (B.drop j))) R e∧R.length≤runN (headU A B i j) (A.drop i)+runN (headU A B i j) (B.drop j)∧
  z1g fuel (⟨⟨A,B,(i:Int),(j:Int),f,out⟩⟩:Worker)=if e=0 then some (((runN (headU A B i j) (A.drop i)+runN (headU A B i j) (B.drop j):Nat):Int),0,⟨⟨A,B,((i+runN (headU A B i j) (A.drop i):Nat):Int),((j+runN (headU A B i j) (B.drop j):Nat):Int),f,out++R⟩⟩)else some (0,e,⟨⟨A,B,(i:Int),(j:Int),f,out⟩⟩):=by
 have lA:=c.lA;have lB:=c.lB
 obtain⟨u,h1,h2⟩:=nextB (f:=f) (out:=out) hi hj hl;unfold z1g;rw[h1];simp only[zz0];have er: ∀D,runN u D=runN (headU A B i j) D:=fun D=>by unfold runN;simp only[h2]
 rw[z0b (by omega),z0b (by omega),zes A hi,zes B hj,znh _ _ (by simp;omega)];have nA:runN u (A.drop i)≤(A.drop i).length:=z98 _ _;have nB:runN u (B.drop j)≤(B.drop j).length:=z98 _ _
 simp only[zz0];rw[z0b (by omega),znh _ _ (by simp;omega)];simp only[zz0];rw[z0b (by omega),sub_zero,sub_zero,er,er];rw[er]at nA nB;generalize runN (headU A B i j) (A.drop i)=na at*;generalize runN (headU A B i j) (B.drop j)=nb at*;have lx:((A.drop i).take na).length=na:=by simp only[zzp,List.length_drop]at*;omega
 have ly:((B.drop j).take nb).length=nb:=by simp only[zzp,List.length_drop]at*;omega
 simp only[List.length_drop]at nA nB;have mx: ∀z∈(A.drop i).take na,z∈A:=fun z hz=>zzs (List.mem_of_mem_take hz)
 have my: ∀z∈(B.drop j).take nb,z∈B:=fun z hz=>zzs (List.mem_of_mem_take hz);generalize (A.drop i).take na=x at*;generalize (B.drop j).take nb=y at*;have hfl:([x,y]:List (List Update)).flatten=x++y:=by simp
 obtain⟨R,e,g1,g2,g3⟩:=zf3 (fuel:=fuel) (f:=f) (ls:=[x,y]) hf c.hF c.fl (by rw[hfl,zze];omega)
  (fun z hz=>by rw[hfl]at hz;rcases zz2.1 hz with g|g;exact c.dA z (mx z g);exact c.dB z (my z g))
  (fun z hz=>by rw[hfl]at hz;rcases zz2.1 hz with g|g;exact c.tA z (mx z g);exact c.tB z (my z g))
 rw[hfl]at g2 g3;rw[zze,lx,ly]at g3;refine⟨R,e,g2,g3,?_⟩;rw[g1];simp only[zz0,z2h,z0d,lx,ly];by_cases he:e=0
 ·rw[if_pos he,if_pos he,z0b (by omega),wadd (by omega),wadd (by omega),wadd (by omega)]
 ·rw[if_neg he,if_neg he]
end
end Go.Av
/-
 Mergers of any kind,and what their lists come to:what a step takes away and what it brings add up alike.
-/
namespace Go.Av
open Go
def Eqv (f:List Time)(l m:List Update):Prop:= ∀y,sm cU (pU (advL f l)) y=sm cU (pU (advL f m)) y
theorem Eqv.rfl' {f:List Time}{l:List Update}:Eqv f l l:=fun _=>rfl
theorem Eqv.symm {f:List Time}{l m:List Update}(h:Eqv f l m):Eqv f m l:=fun y=>(h y).symm
theorem Eqv.trans {f:List Time}{l m n:List Update}(h:Eqv f l m)(g:Eqv f m n):Eqv f l n:=fun y=>(h y).trans (g y)
theorem Eqv.append {f:List Time}{l m l' m':List Update}(h:Eqv f l m)(g:Eqv f l' m'):Eqv f (l++l') (m++m'):=fun y=>by
 rw[zbk,zbk,ze2,ze2,z8i,z8i,h y,g y]
theorem Eqv.perm {f:List Time}{l m:List Update}(h:l.Perm m):Eqv f l m:=fun y=>zh8 (zl0 h f) y
theorem sm_wt {f:List Time}{l:List Update}(y:Update):sm cU (pU (advL f l)) y=wt (fun u=>decide (cU y (advU f u)=0)) (pU l):=by
 induction l with
 |nil=>rfl
 |cons u l ih=>
  show(if cU y (advU f u)=0 then u.diff else 0)+sm cU (pU (advL f l)) y=(if decide (cU y (advU f u)=0)=true then u.diff else 0)+wt _ (pU l);rw[ih];simp only[decide_eq_true_eq]
theorem zoz {f:List Time}{u v:Update}(h:cU u v=0)(y:Update):cU y (advU f u)=cU y (advU f v):=by
 have ht:u.time=v.time:=by
  unfold cU thenC at h;split at h
  ·split at h
   ·exact zhq.1 h
   ·exact absurd h ‹_›
  ·exact absurd h ‹_›
 have hk:krw u v=0:=by
  rw[zbz]at h;exact(z8z.1 h).1
 rw[zbz,zbz];have e:krw y (advU f u)=krw y (advU f v):=z4h.eqR y (show krw (advU f u) (advU f v)=0 from hk);rw[e];unfold advU;dsimp only;rw[ht]
theorem zm5 {l m:List Update}(h: ∀y,sm cU (pU l) y=sm cU (pU m) y)(f:List Time):Eqv f l m:=fun y=>by
 rw[sm_wt,sm_wt];exact grp cU_is (fun u v e=>by rw[zoz e]) h
theorem zk7 {s f:List Time}(h:z4s s f=true):f=[]∨(s≠[]∧ ∀x∈s,f.any (fun u=>leT u x)=true):=by
 unfold z4s at h;simp only[Bool.or_eq_true,Bool.and_eq_true,decide_eq_true_eq,List.all_eq_true]at h;exact h
theorem zfu {s f:List Time}(h:z4s s f=true)(l:List Update):advL s (advL f l)=advL s l:=by
 unfold advL;rw[List.map_map];refine List.map_congr_left fun u _=>?_;rcases zk7 h with rfl|⟨h1,h2⟩
 ·show advU s (advU [] u)=advU s u;rw[zny]
 ·show advU s (advU f u)=advU s u;unfold advU;dsimp only;rw[zp2 h1 h2]
theorem Eqv.later {s f:List Time}{l m:List Update}(h:Eqv f l m)(hl:z4s s f=true):Eqv s l m:=fun y=>by
 have:=zm5 h s y;rwa[zfu hl,zfu hl]at this
structure GInv (f:List Time) (A B:List Update) (i j:Nat) (out:List Update):Prop where
 hi:i≤A.length
 hj:j≤B.length
 sep: ∀o∈out,∀z∈A.drop i++B.drop j,krw o z<0
 nA:0<i→i<A.length→krw (A.getD (i-1) zzd) (A.getD i zzd)≠0
 nB:0<j→j<B.length→krw (B.getD (j-1) zzd) (B.getD j zzd)≠0
 eO:EvenP out
 aO:AdvP f out
 tO: ∀r∈out,z15 r.time
 dO: ∀r∈out,in64 r.diff
 len:(A.drop i).length+(B.drop j).length+out.length≤4000000
section
variable {f:List Time} {A B:List Update} {i j:Nat} {out:List Update} {fuel:Nat}
theorem zo7 (hi:i≤A.length)(hj:j≤B.length)(hl:i<A.length∨j<B.length):headU A B i j∈A.drop i++B.drop j:=by
 unfold headU;split
 ·exact zzh _ (by rw[z0x (show j<B.length by omega)];exact zz3 ..)
 ·split
  ·exact zzo _ (by rw[z0x (show i<A.length by omega)];exact zz3 ..)
  ·exact zzh _ (by rw[z0x (show j<B.length by rename_i h;omega)];exact zz3 ..)
theorem zph (c:MCtx f A B)(hi:i≤A.length)(hj:j≤B.length)(hl:i<A.length∨j<B.length): ∀z∈A.drop i++B.drop j,krw (headU A B i j) z≤0:=fun z hz=>by
 have pA:=(show PwU A from c.eA.lt).drop i;have pB:=(show PwU B from c.eB.lt).drop j
 unfold headU;by_cases g:i=A.length
 ·rw[if_pos g];rcases zz2.1 hz with h|h
  ·rw[zzl (by omega)]at h;cases h
  ·rw[z0x (show j<B.length by omega)]at pB h;exact z70 pB z h
 ·rw[if_neg g];have eA:=z0x (show i<A.length by omega);by_cases g2:j=B.length
  ·rw[if_pos (.inl g2)];rcases zz2.1 hz with h|h
   ·rw[eA]at pA h;exact z70 pA z h
   ·rw[zzl (by omega)]at h;cases h
  ·have eB:=z0x (show j<B.length by omega);rw[eA]at pA;rw[eB]at pB;rw[eA,eB]at hz;by_cases g3:krw (A.getD i zzd) (B.getD j zzd)≤0
   ·rw[if_pos (.inr g3)];rcases zz2.1 hz with h|h
    ·exact z70 pA z h
    ·exact z4h.tr _ _ _ g3 (z70 pB z h)
   ·rw[if_neg (fun x=>by rcases x with x|x;exact g2 x;exact g3 x)];rcases zz2.1 hz with h|h
    ·have:=z4h.anti (A.getD i zzd) (B.getD j zzd);exact z4h.tr _ _ _ (by omega) (z70 pA z h)
    ·exact z70 pB z h
theorem zn6 (c:MCtx f A B){u:Update}(hm: ∀y∈A.drop i,krw u y≤0)(hi:i≤A.length)(h:0<i→i<A.length→krw (A.getD (i-1) zzd) (A.getD i zzd)≠0):
 0<i+runN u (A.drop i)→i+runN u (A.drop i)<A.length→krw (A.getD (i+runN u (A.drop i)-1) zzd) (A.getD (i+runN u (A.drop i)) zzd)≠0:=fun h0 h1=>by
 rcases Nat.eq_zero_or_pos (runN u (A.drop i))with e|e
 ·rw[e,Nat.add_zero]at h0 h1 ⊢;exact h h0 h1
 ·obtain⟨s1,s2⟩:=zbe (u:=u) ((show PwU A from c.eA.lt).drop i) hm;have hg: ∀t,i+t<A.length→(A.drop i).getD t zzd=A.getD (i+t) zzd:=fun t ht=>by simp[List.getD_eq_getElem?_getD,List.getElem?_drop]
  have a1:=of_decide_eq_true (zgy (p:=fun x=>decide (krw x u=0)) (l:=A.drop i) (i:=runN u (A.drop i)-1) (by show _<runN u (A.drop i);omega));have a2:=of_decide_eq_false (zej (p:=fun x=>decide (krw x u=0)) (l:=A.drop i) (by show runN u (A.drop i)<_;rw[List.length_drop];omega))
  rw[hg _ (by omega),show i+(runN u (A.drop i)-1)=i+runN u (A.drop i)-1 by omega]at a1;rw[hg _ (by show i+runN u (A.drop i)<_;omega)]at a2;rw[z4h.eqL _ a1];intro h;exact a2 (z4h.symm0 h)
theorem zl6 {l R:List Update}(h:TotU (advL f l) R 0):Eqv f R l∧(∀r∈R,∃x∈l,∀y,krw r y=krw x y):=by
 rcases h with⟨_,g,hf⟩|⟨g,_⟩
 ·constructor
  ·intro y;rw[zm8 (zhb (.inl ⟨rfl,g,hf⟩))];exact zqi cU_is g y
  ·intro r hr;obtain⟨p,hp,e⟩:=g.mem r hr;obtain⟨u,hu,e2⟩:=zgh hp;exact⟨u,hu,fun y=>by rw[e,e2];rfl⟩
 ·omega
theorem stepG (c:MCtx f A B)(h:GInv f A B i j out)(hl:i<A.length∨j<B.length)(hf:20000000≤fuel):
 (∃na nb R,z1g fuel (⟨⟨A,B,(i:Int),(j:Int),f,out⟩⟩:Worker)=some (((na+nb:Nat):Int),0,⟨⟨A,B,((i+na:Nat):Int),((j+nb:Nat):Int),f,out++R⟩⟩)∧GInv f A B (i+na) (j+nb) (out++R)∧0<na+nb∧
  Eqv f (A.drop (i+na)++(B.drop (j+nb)++(out++R))) (A.drop i++(B.drop j++out))∧(A.drop (i+na)).length+(B.drop (j+nb)).length+(out++R).length≤(A.drop i).length+(B.drop j).length+out.length∧R.length≤na+nb)∨
 (∃w,z1g fuel (⟨⟨A,B,(i:Int),(j:Int),f,out⟩⟩:Worker)=some (0,10,w)∧ ¬Fits cU (pU (advL f (A.drop i++(B.drop j++out))))):=by
 have lA:=c.lA;have lB:=c.lB;have hi:=h.hi;have hj:=h.hj;have hlen:=h.len
 obtain⟨R,e,h1,h2,h3⟩:=zor (fuel:=fuel) (out:=out) c hf hi hj (by omega) hl;have hpos:=zo8 (A:=A) (B:=B) hi hj hl
 have hm:=zph c hi hj hl;have hin:=zo7 (A:=A) (B:=B) hi hj hl
 have sA:=zbe (u:=headU A B i j) ((show PwU A from c.eA.lt).drop i) fun y hy=>hm y (zzo _ hy);have sB:=zbe (u:=headU A B i j) ((show PwU B from c.eB.lt).drop j) fun y hy=>hm y (zzh _ hy)
 have rA:=zn6 c (u:=headU A B i j) (i:=i) (fun y hy=>hm y (zzo _ hy)) hi h.nA;have rB:=zn6 (A:=B) (B:=A) (f:=f) ⟨c.hF,c.fr,c.fl,c.eB,c.eA,c.lB,c.lA,c.tB,c.tA,c.dB,c.dA⟩ (u:=headU A B i j) (i:=j) (fun y hy=>hm y (zzh _ hy)) hj h.nB
 have nA:runN (headU A B i j) (A.drop i)≤(A.drop i).length:=z98 _ _;have nB:runN (headU A B i j) (B.drop j)≤(B.drop j).length:=z98 _ _
 generalize runN (headU A B i j) (A.drop i)=na at*;generalize runN (headU A B i j) (B.drop j)=nb at*;generalize hu:headU A B i j=u at*;have eAd:A.drop (i+na)=(A.drop i).drop na:=by rw[List.drop_drop]
 have eBd:B.drop (j+nb)=(B.drop j).drop nb:=by rw[List.drop_drop]
 have eA:=List.take_append_drop na (A.drop i);have eB:=List.take_append_drop nb (B.drop j)
 have mx: ∀z∈(A.drop i).take na,z∈A:=fun z hz=>zzs (List.mem_of_mem_take hz);have my: ∀z∈(B.drop j).take nb,z∈B:=fun z hz=>zzs (List.mem_of_mem_take hz)
 have hok: ∀z∈(A.drop i).take na++(B.drop j).take nb,okU z:=fun z hz=>by
  rcases zz2.1 hz with g|g
  ·exact c.eA.ok z (mx z g)
  ·exact c.eB.ok z (my z g)
 have htt: ∀z∈(A.drop i).take na++(B.drop j).take nb,z15 z.time:=fun z hz=>by
  rcases zz2.1 hz with g|g
  ·exact c.tA z (mx z g)
  ·exact c.tB z (my z g)
 have hT:=zm9 c.fr.1 hok h1;have hrest: ∀z∈A.drop (i+na)++B.drop (j+nb),krw u z<0∧z∈A.drop i++B.drop j:=fun z hz=>by
  rw[eAd,eBd]at hz;rcases zz2.1 hz with g|g
  ·exact⟨sA.2 z g,zzo _ (zzs g)⟩
  ·exact⟨sB.2 z g,zzh _ (zzs g)⟩
 have hxy: ∀z∈(A.drop i).take na++(B.drop j).take nb,krw z u=0:=fun z hz=>by
  rcases zz2.1 hz with g|g
  ·exact sA.1 z g
  ·exact sB.1 z g
 have hperm:(A.drop i++(B.drop j++out)).Perm ((A.drop (i+na)++(B.drop (j+nb)++out))++((A.drop i).take na++(B.drop j).take nb)):=by
  haveI:DecidableEq Update:=fun a b=>Classical.propDecidable (a=b)
  rw[List.perm_iff_count];intro a;have cA:=congrArg (List.count a) eA
  have cB:=congrArg (List.count a) eB;rw[eAd,eBd];simp only[List.count_append]at cA cB ⊢;omega
 by_cases he:e=0
 ·subst he;left;rw[if_pos rfl]at h3;obtain⟨q1,q2⟩:=zl6 hT;have hRu: ∀r∈R,krw r u=0:=fun r hr=>by
   obtain⟨x,hx,e⟩:=q2 r hr;rw[e];exact hxy x hx
  have hRe:EvenP R:=by
   rcases hT with⟨_,g,_⟩|⟨g,_⟩
   ·exact⟨g.strict,fun r hr=>(g.sum r hr).2,z9e (.inl ⟨rfl,g,by assumption⟩) (zaf c.fr.1 hok)⟩
   ·omega
  have hlR:((A.drop i).take na++(B.drop j).take nb).length=na+nb:=by
   rw[zze,zzp,zzp];omega
  have hRl:R.length≤na+nb:=h2;refine⟨na,nb,R,h3,⟨?_,?_,?_,rA,rB,?_,?_,?_,?_,?_⟩,hpos,?_,?_,hRl⟩
  ·rw[List.length_drop]at nA;omega
  ·rw[List.length_drop]at nB;omega
  ·intro o ho z hz;have hz':=hrest z hz
   rcases zz2.1 ho with g|g
   ·exact h.sep o g z hz'.2
   ·rw[z4h.eqL z (hRu o g)];exact hz'.1
  ·refine⟨List.pairwise_append.2 ⟨h.eO.lt,hRe.lt,fun o ho r hr=>?_⟩,fun r hr=>?_,fun r hr=>?_⟩
   ·refine cU_lt ?_;rw[z4h.eqR o (hRu r hr)];exact h.sep o ho u hin
   ·rcases zz2.1 hr with g|g
    ·exact h.eO.nz r g
    ·exact hRe.nz r g
   ·rcases zz2.1 hr with g|g
    ·exact h.eO.ok r g
    ·exact hRe.ok r g
  ·intro r hr;rcases zz2.1 hr with g|g
   ·exact h.aO r g
   ·exact(zim.2 (zhb hT)) r g
  ·intro r hr;rcases zz2.1 hr with g|g
   ·exact h.tO r g
   ·exact zjf hT c.hF htt r g
  ·intro r hr;rcases zz2.1 hr with g|g
   ·exact h.dO r g
   ·exact zl7 hT r g
  ·rw[eAd,eBd,zze,List.length_drop,List.length_drop (l:=List.drop j B)];omega
  ·refine Eqv.trans ?_ (Eqv.perm hperm).symm;refine Eqv.trans (m:=(A.drop (i+na)++(B.drop (j+nb)++out))++R) (Eqv.perm ?_) (Eqv.append Eqv.rfl' q1);simp[List.append_assoc]
  ·rw[eAd,eBd,zze,List.length_drop,List.length_drop (l:=List.drop j B)];omega
 ·right;rw[if_neg he]at h3;rcases hT with⟨g,_⟩|⟨rfl,_,g⟩
  ·exact absurd g he
  ·refine⟨_,h3,?_⟩;have hpart:=zmq cU_is g (l2:=pU (advL f (A.drop (i+na)++(B.drop (j+nb)++out)))) fun p hp q hq=>by
    obtain⟨a,ha,e1⟩:=zgh hp;obtain⟨b,hb,e2⟩:=zgh hq;have ka:=hxy a ha
    have kb:krw a b≠0:=by
     rw[z4h.eqL b ka];rw[←List.append_assoc]at hb;rcases zz2.1 hb with k|k
     ·have:=(hrest b k).1;omega
     ·have:=h.sep b k u hin;have:=z4h.anti b u
      omega
    rw[e1,e2,zbz];unfold thenC;rw[if_neg (show krw (advU f a) (advU f b)≠0 from kb)];exact kb
   rw[←ze2,←zbk]at hpart;exact fun hfit=>hpart ((zmr (zl0 (hperm.trans List.perm_append_comm) f)).1 hfit)
end
end Go.Av
namespace Go.Av
open Go
abbrev cont (A B:List Update)(i j:Nat)(out:List Update):List Update:=A.drop i++(B.drop j++out)
theorem znt {f:List Time}{l m:List Update}(h:Eqv f l m)(g: ¬Fits cU (pU (advL f l))): ¬Fits cU (pU (advL f m)):=fun k=>g fun y=>by rw[h y];exact k y
section
variable {f:List Time} {A B:List Update} {i j:Nat} {out:List Update} {fuel:Nat}
theorem GInv.mergS (c:MCtx f A B)(h:GInv f A B i j out)(hl:out.length≤2000000):MergS (⟨A,B,(i:Int),(j:Int),f,out⟩:Merger):=
 ⟨c.hF,c.fl,c.lA,c.lB,hl,c.tA,c.tB,h.tO,c.dA,c.dB,fun r hr=>zfn (c.eA.ok r hr),fun r hr=>zfn (c.eB.ok r hr),fun r hr=>zfn (h.eO.ok r hr)⟩
theorem GInv.mergP (c:MCtx f A B)(h:GInv f A B i j out):MergP (⟨A,B,(i:Int),(j:Int),f,out⟩:Merger):=by
 have hi:=h.hi;have hj:=h.hj
 have last:out.length≠0→out.getD (out.length-1) zzd∈out:=fun g=>z2b (by omega);refine⟨c.fr,c.eA,c.eB,h.eO,h.aO,⟨by dsimp only;omega,by dsimp only;omega,fun g1 g2=>?_,fun g1 g2=>?_⟩,⟨by dsimp only;omega,by dsimp only;omega,fun g1 g2=>?_,fun g1 g2=>?_⟩⟩<;>dsimp only at g1 g2 ⊢ <;>rw[zz8]
 ·exact h.nA (by omega) (by omega)
 ·exact h.sep _ (last g2) _ (zzo _ (by rw[z0x (show i<A.length by omega)];exact zz3 ..))
 ·exact h.nB (by omega) (by omega)
 ·exact h.sep _ (last g2) _ (zzh _ (by rw[z0x (show j<B.length by omega)];exact zz3 ..))
theorem pw_le {l:List Update}(h:PwU l){r:Update}(hr:r∈l):krw r (l.getD (l.length-1) zzd)≤0:=by
 obtain⟨k,hk,rfl⟩:=List.mem_iff_getElem.1 hr;rw[List.getD_eq_getElem?_getD,List.getElem?_eq_getElem (show l.length-1<l.length by omega),Option.getD_some];by_cases e:k=l.length-1
 ·subst e;rw[z4h.refl];exact Int.le_refl _
 ·exact zmz ((List.pairwise_iff_getElem.1 h) k (l.length-1) hk (by omega) (by omega))
theorem zpd {m:Merger}(s:MergS m)(p:MergP m)(hd: ∀r∈m.out,in64 r.diff)(hl:m.a.length+m.b.length+m.out.length≤4000000):
 ∃i j:Nat,m.i=(i:Int)∧m.j=(j:Int)∧MCtx m.since m.a m.b∧GInv m.since m.a m.b i j m.out:=by
 have a1:=p.cA.lo;have a2:=p.cA.hi;have b1:=p.cB.lo;have b2:=p.cB.hi
 obtain⟨i,hi⟩: ∃i:Nat,m.i=(i:Int):=⟨m.i.toNat,by omega⟩;obtain⟨j,hj⟩: ∃j:Nat,m.j=(j:Int):=⟨m.j.toNat,by omega⟩;have cA:=p.cA;have cB:=p.cB
 rw[hi]at cA;rw[hj]at cB;have hA:i<m.a.length→m.out.length≠0→krw (m.out.getD (m.out.length-1) zzd) (m.a.getD i zzd)<0:=fun g k=>by
  have:=cA.lt (by omega) k;rwa[zz8]at this
 have hB:j<m.b.length→m.out.length≠0→krw (m.out.getD (m.out.length-1) zzd) (m.b.getD j zzd)<0:=fun g k=>by
  have:=cB.lt (by omega) k;rwa[zz8]at this
 refine⟨i,j,hi,hj,⟨s.hF,p.fr,s.fl,p.eA,p.eB,s.lA,s.lB,s.tA,s.tB,s.dA,s.dB⟩,⟨by omega,by omega,?_,?_,?_,p.eO,p.aO,s.tO,hd,by rw[List.length_drop,List.length_drop];omega⟩⟩
 ·intro o ho z hz;have h0:m.out.length≠0:=fun e=>by rw[zza e]at ho;cases ho
  have ho':=pw_le p.eO.lt ho;have:krw (m.out.getD (m.out.length-1) zzd) z<0:=by
   rcases zz2.1 hz with g|g
   ·by_cases hl:i<m.a.length
    ·have pA:=(show PwU m.a from p.eA.lt).drop i;rw[z0x hl]at g pA;exact z4h.lt_tr (hA hl h0) (z70 pA z g)
    ·rw[zzl (by omega)]at g;cases g
   ·by_cases hl:j<m.b.length
    ·have pB:=(show PwU m.b from p.eB.lt).drop j;rw[z0x hl]at g pB;exact z4h.lt_tr (hB hl h0) (z70 pB z g)
    ·rw[zzl (by omega)]at g;cases g
  exact z4h.le_lt ho' this
 ·intro g1 g2;have:=cA.ne (by omega) (by omega)
  rwa[zz8]at this
 ·intro g1 g2;have:=cB.ne (by omega) (by omega)
  rwa[zz8]at this
theorem zmd (c:MCtx f A B)(h:GInv f A B i j out)(hl:out.length≤2000000)(hf:20000000≤fuel):z2j fuel (⟨A,B,(i:Int),(j:Int),f,out⟩:Merger)=some 0:=by
 rcases zhm hf (h.mergS c hl)with⟨g,_⟩|⟨_,g⟩
 ·exact g
 ·exact absurd (h.mergP c) g
theorem ownG (c:MCtx f A B)(h:GInv f A B i j out)(hl:out.length≤2000000):z2r (⟨A,B,(i:Int),(j:Int),f,out⟩:Merger)=some ⟨A,B,(i:Int),(j:Int),f,out⟩:=by
 have lA:=c.lA;have lB:=c.lB;have hfl:=c.fl
 unfold z2r;rw[z7m c.eA.ok (by omega),z7m c.eB.ok (by omega),z7m h.eO.ok (by omega)];unfold z0a;dsimp only;rw[z0b (by omega)];rfl
structure WRes (f:List Time) (A B:List Update) (i j:Nat) (out:List Update) (i' j':Nat) (out':List Update):Prop where
 inv:GInv f A B i' j' out'
 ii:i≤i'
 jj:j≤j'
 eqv:Eqv f (cont A B i' j' out') (cont A B i j out)
 len:(cont A B i' j' out').length≤(cont A B i j out).length
 grow:out'.length+(i+j)≤out.length+(i'+j')
def LoopG (f:List Time)(A B:List Update)(i j:Nat)(out:List Update)(p1:Int)(c0:Nat)(o:Option (Out (Int×Worker) (Merger×Int×Int))):Prop:=
 (∃(i' j':Nat) (out':List Update),o=some (.done (((c0+(i'+j'-(i+j)):Nat):Int),⟨⟨A,B,(i':Int),(j':Int),f,out'⟩⟩))∧WRes f A B i j out i' j' out'∧
  (((c0:Int)<p1∧(i<A.length∨j<B.length))↔i+j<i'+j')∧(p1≤((c0+(i'+j'-(i+j)):Nat):Int)∨(i'=A.length∧j'=B.length)))∨
 (∃m n,o=some (.ret (m,n,10))∧ ¬Fits cU (pU (advL f (cont A B i j out))))
theorem zm2 (c:MCtx f A B)(hf:20000000≤fuel)(p1:Int){Bd:Int×Worker→Option (Ctl (Int×Worker) (Merger×Int×Int))}
 (hB: ∀(c0:Nat) (i j:Nat) (out:List Update),i≤A.length→j≤B.length→Bd ((c0:Int),⟨⟨A,B,(i:Int),(j:Int),f,out⟩⟩)=if(c0:Int)<p1∧(i<A.length∨j<B.length)then
  ((z1g fuel (⟨⟨A,B,(i:Int),(j:Int),f,out⟩⟩:Worker)).bind fun r7=>if r7.2.1=0 then some (.next ((zzi.wrap ((c0:Int)+r7.1)),r7.2.2))else some (.ret (r7.2.2.merger,(c0:Int),r7.2.1)))else some (.brk ((c0:Int),⟨⟨A,B,(i:Int),(j:Int),f,out⟩⟩))):
 ∀(k fuelN c0 i j:Nat) (out:List Update),A.length+B.length-(i+j)≤k→k<fuelN→c0+(A.length+B.length-(i+j))≤100000000→GInv f A B i j out→LoopG f A B i j out p1 c0 (loopN Bd fuelN ((c0:Int),⟨⟨A,B,(i:Int),(j:Int),f,out⟩⟩)):=by
 intro k;induction k with
 |zero=>
  intro fuelN c0 i j out hk hfu hc h;have hi:=h.hi;have hj:=h.hj
  cases fuelN with
  |zero=>omega
  |succ fuelN=>
   have e:=hB c0 i j out hi hj;rw[if_neg (by omega)]at e;rw[z46 e];left;refine⟨i,j,out,by rw[Nat.sub_self,Nat.add_zero],⟨h,zzf _,zzf _,.rfl',zzf _,zzf _⟩,?_,.inr ⟨by omega,by omega⟩⟩;omega
 |succ k ih=>
  intro fuelN c0 i j out hk hfu hc h;have hi:=h.hi;have hj:=h.hj
  cases fuelN with
  |zero=>omega
  |succ fuelN=>
   have e:=hB c0 i j out hi hj;by_cases hl:(c0:Int)<p1∧(i<A.length∨j<B.length)
   ·rw[if_pos hl]at e;rcases stepG c h hl.2 hf with⟨na,nb,R,g1,g2,g3,g4,g5,g6⟩|⟨w,g1,g2⟩
    ·rw[g1]at e;simp only[zz0,if_true]at e;have hi2:=g2.hi;have hj2:=g2.hj
     have lA:=c.lA;have lB:=c.lB
     rw[wadd (by omega)]at e;rw[z4i e];have hr:=ih fuelN (c0+(na+nb)) (i+na) (j+nb) (out++R) (by omega) (by omega) (by omega) g2
     rcases hr with⟨i',j',o2,e1,⟨e2,e3,e4,v1,v2,v3⟩,e5,e6⟩|⟨m,n,e1,e2⟩
     ·left;refine⟨i',j',o2,?_,⟨e2,by omega,by omega,v1.trans g4,?_,?_⟩,?_,?_⟩
      ·rw[e1];congr 4;omega
      ·simp only[zze]at v2 g5 ⊢;omega
      ·rw[zze]at v3;omega
      ·constructor
       ·intro _;omega
       ·intro _;exact hl
      ·rcases e6 with e6|e6
       ·left;rw[show c0+(i'+j'-(i+j))=c0+(na+nb)+(i'+j'-(i+na+(j+nb)))by omega];exact e6
       ·exact .inr e6
     ·exact .inr ⟨m,n,e1,znt g4 e2⟩
    ·rw[g1]at e;simp only[zz0]at e;rw[if_neg (by decide)]at e;rw[zn2 e];exact .inr ⟨_,_,rfl,g2⟩
   ·rw[if_neg hl]at e;rw[z46 e];left;refine⟨i,j,out,by rw[Nat.sub_self,Nat.add_zero],⟨h,zzf _,zzf _,.rfl',zzf _,zzf _⟩,?_,?_⟩
    ·constructor
     ·intro g;exact absurd g hl
     ·intro g;omega
    ·rw[Nat.sub_self,Nat.add_zero];by_cases g:(c0:Int)<p1
     ·right;have: ¬(i<A.length∨j<B.length):=fun x=>hl ⟨g,x⟩
      omega
     ·left;omega
theorem workG (c:MCtx f A B)(h:GInv f A B i j out)(hl:out.length≤2000000)(hf:20000000≤fuel)(p1:Int):
 (∃(i' j':Nat) (out':List Update),z7u fuel (⟨A,B,(i:Int),(j:Int),f,out⟩:Merger) p1=some (⟨A,B,(i':Int),(j':Int),f,out'⟩,((i'+j'-(i+j):Nat):Int),0)∧WRes f A B i j out i' j' out'∧
  ((0<p1∧(i<A.length∨j<B.length))↔i+j<i'+j')∧(p1≤((i'+j'-(i+j):Nat):Int)∨(i'=A.length∧j'=B.length)))∨
 (∃m n,z7u fuel (⟨A,B,(i:Int),(j:Int),f,out⟩:Merger) p1=some (m,n,10)∧ ¬Fits cU (pU (advL f (cont A B i j out)))):=by
 have lA:=c.lA;have lB:=c.lB
 unfold z7u;rw[zmd c h hl hf];simp only[zz0,decide_true,zzn,z17];rw[ownG c h hl];simp only[zz0];have hr:=fun Bd hB=>zm2 (f:=f) (A:=A) (B:=B) c hf p1 (Bd:=Bd) hB (A.length+B.length) fuel 0 i j out (by omega) (by omega) (by omega) h
 rw[show((0:Nat):Int)=(0:Int)from rfl]at hr;rcases hr (fun(a3:Int×Worker)=>jn (fun(a5:Bool×Worker)=>bf a5.1 ((z1g fuel a5.2).bind fun r7=>bf (!decide (r7.2.1=0)) (some (.ret (r7.2.2.merger,a3.1,r7.2.1))) (some (.next ((zzi.wrap (a3.1+r7.1)),r7.2.2)))) (some (.brk (a3.1,a5.2)))) fun j6=>bf (decide (a3.1<p1)) ((z2m a3.2).bind fun r8=>j6 (r8.1,r8.2)) (j6 (false,a3.2))) (fun c0 i j out hi hj=>by
  unfold z2m;simp only[jn_eq,z0d,z2h,Int.ofNat_lt];by_cases g:(c0:Int)<p1
  ·rw[if_pos g];by_cases g1:i<A.length
   ·rw[if_pos g1];simp only[zz0,z44];rw[if_pos ⟨g,.inl g1⟩]
   ·rw[if_neg g1];by_cases g2:j<B.length
    ·rw[decide_eq_true g2,if_pos ⟨g,.inr g2⟩];simp only[zz0,z44]
    ·rw[decide_eq_false g2,if_neg (fun x=>by rcases x.2 with y|y;exact g1 y;exact g2 y)];simp only[zz0,z17]
  ·rw[if_neg g,if_neg (fun x=>g x.1),z17])with⟨i',j',o2,e1,e2,e5,e6⟩|⟨m,n,e1,e2⟩
 ·left;rw[e1];rw[zzc]at e6;exact⟨i',j',o2,by rw[zzc];rfl,e2,e5,e6⟩
 ·right;rw[e1];exact⟨m,n,rfl,e2⟩
theorem endG (c:MCtx f A B)(h:GInv f A B A.length B.length out)(hl:out.length≤2000000)(hf:20000000≤fuel):z9m fuel (⟨A,B,(A.length:Int),(B.length:Int),f,out⟩:Merger)=some (⟨f,out⟩,0):=by
 unfold z9m z3s;rw[zmd c h hl hf];simp only[zz0,decide_true,zzn,z17,jn_eq,z0d];rw[if_neg (by omega),decide_eq_false (by omega)];simp only[zz0,z17];rw[ownG c h hl];rfl
end
end Go.Av
namespace Go.Av
open Go
theorem zpk: ∀x:Fin 256,∃l:Fin 9,bt z31 (x.val:Int)=(l.val:Int)∧x.val<2^l.val∧(x.val=0→l.val=0)∧(x.val≠0→2^(l.val-1)≤x.val∧0<l.val):=by decide+kernel
def IsLen (n L:Nat):Prop:=n<2^L∧(n=0→L=0)∧(n≠0→2^(L-1)≤n∧0<L)
theorem IsLen.shift {n L s:Nat}(h:IsLen (n / 2^s) L)(hn:2^s≤n):IsLen n (L+s):=by
 obtain⟨h1,h2,h3⟩:=h;have hp:0<2^s:=Nat.pow_pos (by decide)
 have hq:n / 2^s≠0:=Nat.ne_of_gt (Nat.div_pos hn hp);obtain⟨h4,h5⟩:=h3 hq;refine⟨?_,fun h=>by omega,fun _=>⟨?_,by omega⟩⟩
 ·rw[Nat.pow_add];exact(Nat.div_lt_iff_lt_mul hp).1 h1
 ·rw[show L+s-1=(L-1)+s by omega,Nat.pow_add];exact(Nat.le_div_iff_mul_le hp).1 h4
theorem zoa {n:Nat}(h:n<2^64): ∃L:Nat,z6c (n:Int)=some (L:Int)∧IsLen n L∧L≤64:=by
 have last: ∀(x b:Nat),x<256→b≤56→ ∃L:Nat,(need ((0:Int)≤(IntKind.u8.wrap (x:Int))∧(IntKind.u8.wrap (x:Int))<(z31.size:Int))<|some (zzi.wrap ((b:Int)+(zzi.wrap (bt z31 (IntKind.u8.wrap (x:Int)))))))=some ((L+b:Nat):Int)∧IsLen x L∧L≤8:=fun x b hx hb=>by
  obtain⟨l,h1,h2,h3,h4⟩:=zpk ⟨x,hx⟩;have e:IntKind.u8.wrap (x:Int)=(x:Int):=uwrap (k:= .u8) rfl hx
  have hsz:z31.size=256:=by decide+kernel
  rw[e,hsz,z0b (by omega),h1];have hl:=l.isLt;refine⟨l.val,?_,⟨h2,h3,h4⟩,by omega⟩;rw[z23 (n:=(l.val:Int)) (by omega) (by omega),z23 (by omega) (by omega)];exact congrArg some (by omega)
 have s8: ∀x:Nat,shrOp .u64 (x:Int) 8=((x / 2^8:Nat):Int):=fun x=>zer .u64 x 8 (by decide);have s16: ∀x:Nat,shrOp .u64 (x:Int) 16=((x / 2^16:Nat):Int):=fun x=>zer .u64 x 16 (by decide)
 have s32: ∀x:Nat,shrOp .u64 (x:Int) 32=((x / 2^32:Nat):Int):=fun x=>zer .u64 x 32 (by decide);have p8: ∀(x b:Nat),x<65536→b≤48→ ∃L:Nat,bf (decide (256≤(x:Int))) (need ((0:Int)≤(IntKind.u8.wrap (shrOp .u64 (x:Int) 8))∧(IntKind.u8.wrap (shrOp .u64 (x:Int) 8))<(z31.size:Int))<|some (zzi.wrap ((zzi.wrap ((b:Int)+8))+(zzi.wrap (bt z31 (IntKind.u8.wrap (shrOp .u64 (x:Int) 8))))))) (need ((0:Int)≤(IntKind.u8.wrap (x:Int))∧(IntKind.u8.wrap (x:Int))<(z31.size:Int))<|some (zzi.wrap ((b:Int)+(zzi.wrap (bt z31 (IntKind.u8.wrap (x:Int)))))))=some ((L+b:Nat):Int)∧IsLen x L∧L≤16:=fun x b hx hb=>by
  rw[z0d];by_cases h1:256≤(x:Int)
  ·rw[if_pos h1,s8,z23 (n:=(b:Int)+8) (by omega) (by omega)];obtain⟨L,g1,g2,g3⟩:=last (x / 2^8) (b+8) (by omega) (by omega);rw[show((b+8:Nat):Int)=(b:Int)+8 by omega]at g1;refine⟨L+8,?_,g2.shift (by omega),by omega⟩;exact g1.trans (congrArg some (by omega))
  ·rw[if_neg h1];obtain⟨L,g1,g2,g3⟩:=last x b (by omega) (by omega);exact⟨L,g1,g2,by omega⟩
 unfold z6c;simp only[jn_eq];by_cases h1:4294967296≤(n:Int)
 ·rw[z0d,if_pos h1,s32,z0d];by_cases h2:65536≤((n / 2^32:Nat):Int)
  ·rw[if_pos h2,s16,show zzi.wrap (32+16)=((48:Nat):Int)from by decide];obtain⟨L,g1,g2,g3⟩:=p8 (n / 2^32 / 2^16) 48 (by omega) (by omega);refine⟨L+48,g1,?_,by omega⟩;have:=(g2.shift (by omega)).shift (n:=n) (s:=32) (by omega)
   rw[Nat.add_assoc]at this;exact this
  ·rw[if_neg h2];obtain⟨L,g1,g2,g3⟩:=p8 (n / 2^32) 32 (by omega) (by omega);exact⟨L+32,g1,g2.shift (by omega),by omega⟩
 ·rw[z0d,if_neg h1,z0d];by_cases h2:65536≤(n:Int)
  ·rw[if_pos h2,s16,show zzi.wrap (0+16)=((16:Nat):Int)from by decide];obtain⟨L,g1,g2,g3⟩:=p8 (n / 2^16) 16 (by omega) (by omega);exact⟨L+16,g1,g2.shift (by omega),by omega⟩
  ·rw[if_neg h2];obtain⟨L,g1,g2,g3⟩:=p8 n 0 (by omega) (by omega);exact⟨L,by rw[show((0:Nat):Int)=0 from rfl]at g1;exact g1,g2,by omega⟩
theorem zoc {n L K:Nat}(h:IsLen n L)(g:IsLen n K):L=K:=by
 obtain⟨h1,h2,h3⟩:=h;obtain⟨g1,g2,g3⟩:=g;by_cases h0:n=0
 ·rw[h2 h0,g2 h0]
 ·obtain⟨h4,h5⟩:=h3 h0;obtain⟨g4,g5⟩:=g3 h0;rcases Nat.lt_trichotomy L K with e|e|e
  ·have:=Nat.pow_le_pow_right (n:=2) (by decide) (show L≤K-1 by omega);omega
  ·exact e
  ·have:=Nat.pow_le_pow_right (n:=2) (by decide) (show K≤L-1 by omega);omega
theorem zcb (n:Nat):IsLen n (Sort.bitsLen n):=by
 refine⟨Sort.lt_two_pow_bitsLen n,fun h=>by rw[h];rfl,fun h=>?_⟩;have hp:0<Sort.bitsLen n:=by unfold Sort.bitsLen;rw[if_neg h];omega
 refine⟨?_,hp⟩;have:=mt (Sort.bitsLen_le_iff n (Sort.bitsLen n-1)).2 (by omega)
 omega
theorem zle {n k:Nat}(h:n<2^k):Sort.bitsLen n≤k:=(Sort.bitsLen_le_iff n k).2 h
theorem zqd {n:Nat}(h:n<2^64):z75 (n:Int)=some ((Sort.bitsLen n:Nat):Int):=by
 unfold z75;have e:zzu.wrap (n:Int)=(n:Int):=uwrap (k:= .u64) rfl h
 obtain⟨L,e1,e2,_⟩:=zoa h;rw[show Sort.bitsLen n=L from zoc (zcb n) e2]
 first
  |rw[e,e1];rfl
  |(rw[e1];rfl)
end Go.Av
/-
 Levels,and right spines.
-/
namespace Go.Av
open Go
abbrev zM:Merger:=⟨[],[],0,0,[],[]⟩
abbrev zB:Batch:=⟨[],[]⟩
abbrev cls (l:List Update):Int:=((Sort.bitsLen l.length:Nat):Int)
theorem zap {l:List Update}(h:l.length≤4000000):z5o l=some (cls l):=by
 unfold z5o;rw[show zzu.wrap (l.length:Int)=(l.length:Int)from uwrap (k:= .u64) rfl (show l.length<2^64 by omega),zqd (show l.length<2^64 by omega)];rfl
theorem zg0 {l:List Update}(h:l.length≤4000000):0≤cls l∧cls l≤22:=by
 have:=zle (n:=l.length) (k:=22) (by omega);unfold cls;omega
theorem zo1 {l:List Update}:cls l=0↔l=[]:=by
 have h:=zcb l.length;unfold cls;constructor
 ·intro g;by_cases e:l.length=0
  ·exact zza e
  ·have:=(h.2.2 e).2;omega
 ·rintro rfl;rfl
theorem zhn {l:List Update}{c:Nat}(h:cls l=(c:Int)):l.length<2^c:=by
 unfold cls at h;have:=(zcb l.length).1
 rwa[show Sort.bitsLen l.length=c by omega]at this
structure LevS (l:Level):Prop where
 bF:NN l.batch.since
 bl:l.batch.since.length≤2000000
 bn:l.batch.updates.length≤2000000
 bt: ∀r∈l.batch.updates,z15 r.time
 bd: ∀r∈l.batch.updates,in64 r.diff
 mS:MergS l.merger
 mD: ∀r∈l.merger.out,in64 r.diff
 mL:l.merger.a.length+l.merger.b.length+l.merger.out.length≤4000000
def LevP (s:List Time)(l:Level):Prop:=
 (l.busy=false∧l.merger=zM∧z9k l.batch∧l.class_=cls l.batch.updates∧z4s s l.batch.since=true)∨
 (l.busy=true∧l.batch=zB∧MergP l.merger∧l.class_=cls l.merger.a∧l.class_=cls l.merger.b∧z4s s l.merger.since=true∧ ¬(l.merger.i=(l.merger.a.length:Int)∧l.merger.j=(l.merger.b.length:Int)))
theorem zkv {b:Batch}{m:Merger}(h1:b.since.length≤2000000)(h2:b.updates.length≤2000000)(h3:m.a.length≤2000000)(h4:m.b.length≤2000000)(h5:m.since.length≤2000000)(h6:m.out.length≤2000000):
 ∃r,z7w b m=some r∧(r=true↔b=zB∧m=zM):=by
 unfold z7w;rw[wadd (by omega),wadd (by omega),wadd (by omega),wadd (by omega),wadd (by omega)];simp only[jn_eq,z0d];rcases b with⟨bs,bu⟩;rcases m with⟨a,b,i,j,s,o⟩;dsimp only at*;by_cases g:((bs.length+bu.length+a.length+b.length+s.length+o.length:Nat):Int)=0
 ·rw[if_pos g];have e1:=zza (show bs.length=0 by omega);have e2:=zza (show bu.length=0 by omega)
  have e3:=zza (show a.length=0 by omega);have e4:=zza (show b.length=0 by omega)
  have e5:=zza (show s.length=0 by omega);have e6:=zza (show o.length=0 by omega)
  subst e1 e2 e3 e4 e5 e6;by_cases gi:i=0
  ·rw[if_pos gi];refine⟨_,rfl,?_⟩;rw[decide_eq_true_eq];subst gi;constructor
   ·rintro rfl;exact⟨rfl,rfl⟩
   ·intro h;injection h.2
  ·rw[if_neg gi];refine⟨_,rfl,?_⟩;simp only[zzm,false_iff];intro h;have:=h.2
   injection this with _ _ e;exact gi e
 ·rw[if_neg g];refine⟨_,rfl,?_⟩;simp only[zzm,false_iff];rintro⟨h,k⟩;injection h with x1 x2;injection k with y1 y2 y3 y4 y5 y6;subst x1 x2 y1 y2 y5 y6;exact g rfl
theorem zpq (m:Merger): ∃r,z8x m=some r∧(r=true↔m.i=(m.a.length:Int)∧m.j=(m.b.length:Int)):=by
 unfold z8x;simp only[jn_eq,z0d];by_cases h:m.i=(m.a.length:Int)
 ·rw[if_pos h];exact⟨_,rfl,by rw[decide_eq_true_eq];exact⟨fun g=>⟨h,g⟩,fun g=>g.2⟩⟩
 ·rw[if_neg h];exact⟨_,rfl,by simp[h]⟩
theorem zoi {fuel:Nat}{s:List Time}{l:Level}(hf:20000000≤fuel)(hF:NN s)(hs:LevS l): ∃b,z81 fuel l s=some b∧(b=true↔LevP s l):=by
 have bl:=hs.bl;have bn:=hs.bn;have mS:=hs.mS
 have lA:=mS.lA;have lB:=mS.lB;have lO:=mS.lO;have fl:=mS.fl
 unfold z81;cases hb:l.busy with
 |true=>
  rw[z44];simp only[jn_eq];obtain⟨r1,e1,q1⟩:=zkv (b:=l.batch) (m:=zM) bl bn (by simp) (by simp) (by simp) (by simp);rw[e1];simp only[zz0];have fin: ∀{P:Prop},(LevP s l→P)→ ¬P→ ∃b,(some false:Option Bool)=some b∧(b=true↔LevP s l):=fun h1 h2=>⟨false,rfl,by simp only[zzm,false_iff];exact fun h=>h2 (h1 h)⟩
  have get:LevP s l→l.batch=zB∧MergP l.merger∧l.class_=cls l.merger.a∧l.class_=cls l.merger.b∧z4s s l.merger.since=true∧ ¬(l.merger.i=(l.merger.a.length:Int)∧l.merger.j=(l.merger.b.length:Int)):=fun h=>by
   rcases h with⟨h,_⟩|⟨_,h⟩
   ·rw[hb]at h;cases h
   ·exact h
  cases r1 with
  |false=>exact fin (fun h=>q1.2 ⟨(get h).1,rfl⟩) (by simp)
  |true=>
   rw[z44];rcases zhm hf mS with⟨e2,q2⟩|⟨e2,q2⟩
   case inr=>
    rw[e2];simp only[zz0,z0d];rw[if_neg (by decide)];exact fin (fun h=>(get h).2.1) q2
   rw[e2];simp only[zz0,z0d];rw[if_pos trivial,zap (by omega)];simp only[zz0];by_cases e3:cls l.merger.a=l.class_
   case neg=>rw[if_neg e3];exact fin (fun h=>(get h).2.2.1.symm) e3
   rw[if_pos e3,zap (by omega)];simp only[zz0];by_cases e4:cls l.merger.b=l.class_
   case neg=>rw[if_neg e4];exact fin (fun h=>(get h).2.2.2.1.symm) e4
   rw[if_pos e4,z9a hF mS.hF];simp only[zz0];cases e5:z4s s l.merger.since with
   |false=>exact fin (fun h=>(get h).2.2.2.2.1) (by rw[e5];simp)
   |true=>
    rw[z44];obtain⟨r6,e6,q6⟩:=zpq l.merger;rw[e6];refine⟨!r6,rfl,?_⟩;constructor
    ·intro h;refine .inr ⟨hb,(q1.1 rfl).1,q2,e3.symm,e4.symm,e5,fun g=>?_⟩;rw[q6.2 g]at h;cases h
    ·intro h;cases r6 with
     |false=>rfl
     |true=>exact absurd (q6.1 rfl) (get h).2.2.2.2.2
 |false=>
  rw[z17];simp only[jn_eq];obtain⟨r1,e1,q1⟩:=zkv (b:=zB) (m:=l.merger) (by simp) (by simp) lA lB fl lO;rw[e1];simp only[zz0];have fin: ∀{P:Prop},(LevP s l→P)→ ¬P→ ∃b,(some false:Option Bool)=some b∧(b=true↔LevP s l):=fun h1 h2=>⟨false,rfl,by simp only[zzm,false_iff];exact fun h=>h2 (h1 h)⟩
  have get:LevP s l→l.merger=zM∧z9k l.batch∧l.class_=cls l.batch.updates∧z4s s l.batch.since=true:=fun h=>by
   rcases h with⟨_,h⟩|⟨h,_⟩
   ·exact h
   ·rw[hb]at h;cases h
  cases r1 with
  |false=>exact fin (fun h=>q1.2 ⟨rfl,(get h).1⟩) (by simp)
  |true=>
   rw[z44];rcases z97 hf hs.bF bl (by omega) hs.bt with⟨e2,q2⟩|⟨e2,q2⟩
   case inr=>
    rw[e2];simp only[zz0,z0d];rw[if_neg (by decide)];exact fin (fun h=>(get h).2.1) q2
   rw[e2];simp only[zz0,z0d];rw[if_pos trivial,zap (by omega)];simp only[zz0];by_cases e3:cls l.batch.updates=l.class_
   case neg=>rw[if_neg e3];exact fin (fun h=>(get h).2.2.1.symm) e3
   rw[if_pos e3,z9a hF hs.bF];refine⟨_,rfl,?_⟩;constructor
   ·intro h;exact .inl ⟨hb,(q1.1 rfl).2,q2,e3.symm,h⟩
   ·intro h;exact(get h).2.2.2
structure SpP (s:List Time) (ls:List Level):Prop where
 fr:Fr s
 lev: ∀l∈ls,LevP s l∧1≤l.class_
 dec:ls.Pairwise fun a b=>b.class_<a.class_
theorem zep {s:List Time}{l:Level}(h:LevP s l)(hs:LevS l):0≤l.class_∧l.class_≤22:=by
 have bn:=hs.bn;have lA:=hs.mS.lA
 rcases h with⟨_,_,_,h,_⟩|⟨_,_,_,h,_⟩
 ·rw[h];exact zg0 (by omega)
 ·rw[h];exact zg0 (by omega)
abbrev aboveC (ls:List Level)(i:Nat):Int:=if i=0 then 4611686018427387904 else(ls.getD (i-1) zzd).class_
theorem zpc:IsCmp fun a b:Level=>cmpZ b.class_ a.class_ where
 vals a b:=z79.vals _ _
 anti a b:=z79.anti _ _
 tr a b d h1 h2:=z79.tr _ _ _ h2 h1
theorem zkq {a b:Level}:cmpZ b.class_ a.class_<0↔b.class_<a.class_:=by
 unfold cmpZ
 repeat' split
 all_goals omega
theorem zlv {fuel:Nat}{s:List Time}{ls:List Level}(hf:20000000≤fuel)(hF:NN s)(hl:s.length≤2000000)(hS: ∀l∈ls,LevS l):
 (z4e fuel ⟨s,ls⟩=some 0∧SpP s ls)∨(z4e fuel ⟨s,ls⟩=some 8∧ ¬SpP s ls):=by
 unfold z4e;have hfr: ∃e,z3w fuel (⟨s,([]:List Update)⟩:Batch)=some e∧(e=0↔Fr s):=by
  rcases z97 (b:=⟨s,[]⟩) hf hF hl (by simp) (by simp)with⟨e,q⟩|⟨e,q⟩
  ·exact⟨_,e,by simp only[true_iff];exact q.1⟩
  ·exact⟨_,e,by
    constructor
    ·intro h;omega
    ·intro h;exact absurd ⟨h,⟨List.Pairwise.nil,fun r hr=>(by cases hr),fun r hr=>(by cases hr)⟩,fun r hr=>(by cases hr)⟩ q⟩
 obtain⟨e,he,hq⟩:=hfr;dsimp only;rw[he];simp only[zz0]
 let P:Nat→Prop:=fun i=>Fr s∧ ∀j,j<i→LevP s (ls.getD j zzd)∧1≤(ls.getD j zzd).class_∧(ls.getD j zzd).class_<aboveC ls j
 have hP:P ls.length↔SpP s ls:=by
  constructor
  ·rintro⟨h1,h2⟩;refine⟨h1,fun l hl=>?_,?_⟩
   ·obtain⟨k,hk,rfl⟩:=List.mem_iff_getElem.1 hl;have:=h2 k hk
    rw[List.getD_eq_getElem?_getD,List.getElem?_eq_getElem hk]at this;exact⟨this.1,this.2.1⟩
   ·refine(zi3 zpc (l:=ls) fun j h0 hj=>?_).imp fun h=>zkq.1 h;have:=(h2 j hj).2.2
    rw[aboveC,if_neg (by omega)]at this;exact zkq.2 this
  ·intro h;refine⟨h.fr,fun j hj=>?_⟩;have hm:=z2b hj
   obtain⟨h1,h2⟩:=h.lev _ hm;refine⟨h1,h2,?_⟩;unfold aboveC;split
   ·have:=zep h1 (hS _ hm);omega
   ·have:=(List.pairwise_iff_getElem.1 h.dec) (j-1) j (by omega) hj (by omega);rwa[List.getD_eq_getElem?_getD,List.getElem?_eq_getElem hj,List.getD_eq_getElem?_getD,List.getElem?_eq_getElem (show j-1<ls.length by omega)]
 let G:Option Int→Prop:=fun q=>(q=some 0∧SpP s ls)∨(q=some 8∧ ¬SpP s ls)
 refine z9c (G:=G) (fun i (a:Bool×Int)=>(a.1=true↔P i)∧a.2=aboveC ls i) (fun a=>a.1=true↔P ls.length) (fun _=>True) ⟨?_,rfl⟩ (fun a h=>h.1) ?_ (fun r=>r.elim) ?_
 ·dsimp only;rw[decide_eq_true_eq,hq];exact⟨fun h=>⟨h,fun j hj=>by omega⟩,fun h=>h.1⟩
 ·rintro⟨a,b⟩ h;dsimp only at h;cases a with
  |true=>exact .inl ⟨rfl,hP.1 (h.1 rfl)⟩
  |false=>exact .inr ⟨rfl,fun g=>by have:=h.2 (hP.2 g);cases this⟩
 ·rintro i ⟨a,b⟩ hi ⟨h1,h2⟩;dsimp only at h1 h2;have hab:aboveC ls (i+1)=(ls.getD i zzd).class_:=by unfold aboveC;rw[if_neg (by omega),Nat.add_sub_cancel]
  have step: ∀v:Bool,(v=true↔a=true∧LevP s (ls.getD i zzd)∧1≤(ls.getD i zzd).class_∧(ls.getD i zzd).class_<b)→(v=true↔P (i+1)):=fun v hv=>by
   rw[hv,h1,h2];constructor
   ·rintro⟨⟨f1,f2⟩,f3⟩;refine⟨f1,fun j hj=>?_⟩;by_cases e:j=i
    ·subst e;exact f3
    ·exact f2 j (by omega)
   ·rintro⟨f1,f2⟩;exact⟨⟨f1,fun j hj=>f2 j (by omega)⟩,f2 i (by omega)⟩
  left;simp only[jn_eq,z0d];cases a with
  |false=>
   rw[z17];exact⟨_,rfl,step false (by simp),hab.symm⟩
  |true=>
   rw[z44];by_cases g1:1≤(ls.getD i zzd).class_
   case neg=>rw[if_neg g1];exact⟨_,rfl,step false ⟨fun h=>(by cases h),fun h=>absurd h.2.2.1 g1⟩,hab.symm⟩
   rw[if_pos g1];by_cases g2:(ls.getD i zzd).class_<b
   case neg=>rw[if_neg g2];exact⟨_,rfl,step false ⟨fun h=>(by cases h),fun h=>absurd h.2.2.2 g2⟩,hab.symm⟩
   rw[if_pos g2];obtain⟨r,e,q⟩:=zoi (fuel:=fuel) (s:=s) hf hF (hS _ (z2b hi));rw[e];exact⟨_,rfl,step r (by rw[q];exact⟨fun h=>⟨rfl,h,g1,g2⟩,fun h=>h.2.1⟩),hab.symm⟩
end Go.Av
/-
 A spine's parts and measures;its own memory;where a class stands.
-/
namespace Go.Av
open Go
abbrev partsL (l:Level):List Update:=l.batch.updates++(l.merger.a.drop l.merger.i.toNat++(l.merger.b.drop l.merger.j.toNat++l.merger.out))
def z1i:List Level→List Update
 |[]=>[]
 |l::ls=>partsL l++z1i ls
theorem z6f (a b:List Level):z1i (a++b)=z1i a++z1i b:=by
 induction a with
 |nil=>rfl
 |cons l a ih=>simp only[List.cons_append,z1i,ih,List.append_assoc]
def busyN:List Level→Nat
 |[]=>0
 |l::ls=>(if l.busy then 1 else 0)+busyN ls
theorem z9p (a b:List Level):busyN (a++b)=busyN a+busyN b:=by
 induction a with
 |nil=>simp[busyN]
 |cons l a ih=>simp only[List.cons_append,busyN,ih];omega
def wS:List Level→Nat
 |[]=>0
 |l::ls=>(l.batch.updates.length+l.merger.a.length+l.merger.b.length)+wS ls
theorem zju (a b:List Level):wS (a++b)=wS a+wS b:=by
 induction a with
 |nil=>simp[wS]
 |cons l a ih=>simp only[List.cons_append,wS,ih];omega
def FewS (ls:List Level):Prop:= ∀l∈ls,(l.merger.out.length:Int)≤l.merger.i+l.merger.j
structure SpOk (s:List Time) (ls:List Level):Prop where
 hF:NN s
 fl:s.length≤2000000
 ok:SpP s ls
 sz: ∀l∈ls,LevS l
theorem zkp: ∀{ls:List Level} {c:Nat},(∀l∈ls,1≤l.class_∧l.class_≤(c:Int))→(ls.Pairwise fun a b=>b.class_<a.class_)→ls.length≤c
 |[],_,_,_=>Nat.zero_le _
 |l::ls,c,h,hp=>by
  have hl:=h l (zz3 ..);rw[List.pairwise_cons]at hp;cases c with
  |zero=>omega
  |succ c=>
   have:=zkp (c:=c) (fun x hx=>⟨(h x (zz7 _ hx)).1,by have:=hp.1 x hx;omega⟩) hp.2;rw[zzq];omega
theorem SpOk.len {s:List Time}{ls:List Level}(h:SpOk s ls):ls.length≤22:=
 zkp (fun l hl=>⟨(h.ok.lev l hl).2,(zep (h.ok.lev l hl).1 (h.sz l hl)).2⟩) h.ok.dec
theorem SpOk.sub {s:List Time}{ls ms:List Level}(h:SpOk s ls)(hs:ms.Sublist ls):SpOk s ms:=
 ⟨h.hF,h.fl,⟨h.ok.fr,fun l hl=>h.ok.lev l (hs.subset hl),h.ok.dec.sublist hs⟩,fun l hl=>h.sz l (hs.subset hl)⟩
theorem znu:MergS zM:=⟨fun r hr=>(by cases hr),by simp,by simp,by simp,by simp,fun r hr=>(by cases hr),fun r hr=>(by cases hr),fun r hr=>(by cases hr),fun r hr=>(by cases hr),fun r hr=>(by cases hr),fun r hr=>(by cases hr),fun r hr=>(by cases hr),fun r hr=>(by cases hr)⟩
theorem zps {m:Merger}(s:MergS m)(h1: ∀u∈m.a,okU u)(h2: ∀u∈m.b,okU u)(h3: ∀u∈m.out,okU u):z2r m=some m:=by
 have lA:=s.lA;have lB:=s.lB;have lO:=s.lO;have hfl:=s.fl
 unfold z2r;rw[z7m h1 (by omega),z7m h2 (by omega),z7m h3 (by omega)];unfold z0a;rw[z0b (by omega)];rfl
theorem LevP.okB {s:List Time}{l:Level}(h:LevP s l): ∀u∈l.batch.updates,okU u:=fun u hu=>by
 rcases h with⟨_,_,h,_⟩|⟨_,h,_⟩
 ·exact h.2.1.ok u hu
 ·rw[h]at hu;cases hu
theorem LevP.okM {s:List Time}{l:Level}(h:LevP s l):(∀u∈l.merger.a,okU u)∧(∀u∈l.merger.b,okU u)∧ ∀u∈l.merger.out,okU u:=by
 rcases h with⟨_,h,_⟩|⟨_,_,h,_⟩
 ·rw[h];exact⟨fun u hu=>(by cases hu),fun u hu=>(by cases hu),fun u hu=>(by cases hu)⟩
 ·exact⟨h.eA.ok,h.eB.ok,h.eO.ok⟩
theorem zmf {l:List Time}(h:l.length≤2000000):z0a l=some l:=by
 unfold z0a;rw[z0b (by omega)]
theorem zkx {fuel:Nat}{s:List Time}{ls:List Level}(hf:20000000≤fuel)(h:SpOk s ls):z71 fuel ⟨s,ls⟩=some ⟨⟨s,ls⟩⟩:=by
 have hn:=h.len;unfold z71 z1k;dsimp only;rw[zmf h.fl];simp only[zz0];rw[z0b (by omega)];simp only[zz0];rw[show(0:Int)=((0:Nat):Int)from rfl,zk8 (fun i:Nat=>((i:Int),(⟨s,ls⟩:Spine))) (n:=ls.length) (z:=((ls.length:Int),(⟨s,ls⟩:Spine))) (by omega) ?_ ?_]
 ·rfl
 ·intro i hi;have hm:=z2b hi
  obtain⟨h1,_⟩:=h.ok.lev _ hm;have hs:=h.sz _ hm
  simp only[z0d,zz8,zzc];rw[if_pos (by omega),z0b (by omega),z0b (by omega),zmf hs.bl];simp only[zz0];rw[z0b (by omega),z7m h1.okB (by have:=hs.bn;omega)];simp only[zz0];have e1:(⟨(ls.getD i zzd).class_,(ls.getD i zzd).busy,(⟨(ls.getD i zzd).batch.since,(ls.getD i zzd).batch.updates⟩:Batch),(ls.getD i zzd).merger⟩:Level)=ls.getD i zzd:=rfl
  rw[z0b (by omega),e1,zct hi,z0b (by omega),zps hs.mS h1.okM.1 h1.okM.2.1 h1.okM.2.2];simp only[zz0];rw[z0b (by omega)];have e2:(⟨(ls.getD i zzd).class_,(ls.getD i zzd).busy,(ls.getD i zzd).batch,(ls.getD i zzd).merger⟩:Level)=ls.getD i zzd:=rfl
  rw[e2,zct hi,wadd1 (by omega)]
 ·simp only[z0d];rw[if_neg (by omega)]
theorem znb {fuel:Nat}{s:List Time}{ls:List Level}(hf:20000000≤fuel)(h:SpOk s ls):z8j fuel ⟨s,ls⟩=some ⟨s,ls⟩:=by
 unfold z8j;rw[zkx hf h];rfl
theorem zpb {fuel:Nat}{ls:List Level}{c:Int}(hf:20000000≤fuel)(hn:ls.length≤4000000)(hc:0≤c∧c≤22)(hl: ∀l∈ls,0≤l.class_∧l.class_≤22)(hd:ls.Pairwise fun a b=>b.class_<a.class_):
 ∃r:Nat,r≤ls.length∧z0e fuel ls c=some ((r:Int),decide (r<ls.length∧(ls.getD r zzd).class_=c))∧
  (∀i,i<r→c<(ls.getD i zzd).class_)∧(∀i,r≤i→i<ls.length→(ls.getD i zzd).class_≤c):=by
 unfold z0e z3a;have hcl: ∀i,i<ls.length→zzi.wrap (c-(ls.getD i zzd).class_)=c-(ls.getD i zzd).class_:=fun i hi=>by
  have:=hl _ (z2b hi);exact zfe (by unfold in64;omega)
 have hmono: ∀i j,i<j→j<ls.length→(ls.getD j zzd).class_<(ls.getD i zzd).class_:=fun i j hij hj=>by
  have:=(List.pairwise_iff_getElem.1 hd) i j (by omega) hj hij;rwa[List.getD_eq_getElem?_getD,List.getElem?_eq_getElem hj,List.getD_eq_getElem?_getD,List.getElem?_eq_getElem (show i<ls.length by omega)]
 obtain⟨r,h1,_,h3,h4,h5⟩:=zkk (R:=Empty) (P:=fun i=>decide (c<(ls.getD i zzd).class_)) (i0:=0) (j0:=ls.length) (B:=fun(a1:Int×Int)=>bf (decide (a1.1<a1.2)) (need ((0:Int)≤(zzi.wrap (shrOp .u64 (zzu.wrap (zzi.wrap (a1.1+a1.2))) 1))∧(zzi.wrap (shrOp .u64 (zzu.wrap (zzi.wrap (a1.1+a1.2))) 1))<(ls.length:Int))<|(some (zzi.wrap (c-(ls.getD ((zzi.wrap (shrOp .u64 (zzu.wrap (zzi.wrap (a1.1+a1.2))) 1)).toNat) zzd).class_))).bind fun r8=>bf (decide (r8<0)) (some (.next ((zzi.wrap ((zzi.wrap (shrOp .u64 (zzu.wrap (zzi.wrap (a1.1+a1.2))) 1))+1)),a1.2))) (some (.next (a1.1,(zzi.wrap (shrOp .u64 (zzu.wrap (zzi.wrap (a1.1+a1.2))) 1)))))) (some (.brk (a1.1,a1.2))))
  ls.length 0 ls.length fuel (by omega) (by omega) (zzf _) (Nat.zero_le _) (zzf _) (.inl rfl) (.inl rfl) (fun i j _ hij hj=>by
   simp only[z0d,Int.ofNat_lt];by_cases h:i<j
   ·rw[if_pos h,if_pos h,zbx (by omega),z0b (by omega)];simp only[zz0,z0d,zz8,decide_eq_true_eq];rw[hcl _ (by omega),wadd1 (by omega)];by_cases g:c<(ls.getD ((i+j) / 2) zzd).class_
    ·rw[if_pos (by omega),if_pos g]
    ·rw[if_neg (by omega),if_neg g]
   ·rw[if_neg h,if_neg h])
 rw[show((0:Nat):Int)=(0:Int)from rfl]at h1;rw[h1];refine⟨r,h3,?_,?_,?_⟩
 ·simp only[z6e,jn_eq,z0d,Int.ofNat_lt];by_cases h:r<ls.length
  ·rw[if_pos h,z0b (by omega)];simp only[zz0,zz8];rw[hcl _ h];congr 3;exact propext ⟨fun g=>⟨h,by omega⟩,fun g=>by omega⟩
  ·rw[if_neg h];simp[h]
 ·intro i hi;rcases h4 with h4|h4
  ·omega
  ·have h4':=of_decide_eq_true h4;by_cases e:i=r-1
   ·subst e;exact h4'
   ·have:=hmono i (r-1) (by omega) (by omega);omega
 ·intro i hi hl;rcases h5 with h5|h5
  ·omega
  ·have h5':=of_decide_eq_false h5;by_cases e:i=r
   ·subst e;omega
   ·have:=hmono r i (by omega) hl;omega
end Go.Av
/-
 A batch that is put into a spine.
-/
namespace Go.Av
open Go
theorem zly {fuel:Nat}{s:List Time}{a b:Batch}(hf:20000000≤fuel)(hF:NN s)(hl:s.length≤2000000)
 (haF:NN a.since) (hal:a.since.length≤2000000) (han:a.updates.length≤2000000) (hat: ∀r∈a.updates,z15 r.time) (had: ∀r∈a.updates,in64 r.diff)
 (hbF:NN b.since) (hbl:b.since.length≤2000000) (hbn:b.updates.length≤2000000) (hbt: ∀r∈b.updates,z15 r.time) (hbd: ∀r∈b.updates,in64 r.diff)
 (hA:z9k a) (hB:z9k b) (hS:Fr s) (h1:z4s s a.since=true) (h2:z4s s b.since=true):
 z5m fuel s a b=some (⟨a.updates,b.updates,0,0,s,[]⟩,0)∧MCtx s a.updates b.updates:=by
 rcases zoq (fuel:=fuel) hf hF hl haF hal han hat had hbF hbl hbn hbt hbd with⟨e,g1,g2⟩|g
 ·exfalso;apply g2;unfold z5m at g1;simp only[jn_eq]at g1;rcases z97 (fuel:=fuel) hf haF hal (by omega) hat with⟨hc,_⟩|⟨_,hn⟩
  case inr=>exact absurd hA hn
  rw[hc]at g1;simp only[zz0,decide_true,zzn,z17]at g1;rcases z97 (fuel:=fuel) hf hbF hbl (by omega) hbt with⟨hc,_⟩|⟨_,hn⟩
  case inr=>exact absurd hB hn
  rw[hc]at g1;simp only[zz0,decide_true,zzn,z17]at g1;obtain⟨x,q1,q2⟩:=zaz (fuel:=fuel) hf hl hF;rw[q1,q2.2 hS]at g1;simp only[zz0,zzn,z17]at g1;rw[z9a hF haF,z9a hF hbF,h1,h2]at g1;simp only[zz0,zzn,z17]at g1;cases ho:z2r (⟨a.updates,b.updates,0,0,s,[]⟩:Merger)with
  |none=>rw[ho]at g1;cases g1
  |some m=>
   rw[ho]at g1;simp only[zz0]at g1;injection g1 with g1;exact(congrArg Prod.snd g1).symm
 ·exact g
structure BOk (s:List Time) (b:Batch):Prop where
 hF:NN b.since
 fl:b.since.length≤2000000
 chk:z9k b
 t: ∀r∈b.updates,z15 r.time
 d: ∀r∈b.updates,in64 r.diff
 lat:z4s s b.since=true
structure PutR (s:List Time) (ls:List Level) (b:Batch) (ls':List Level):Prop where
 ok:SpOk s ls'
 eqv:Eqv s (z1i ls') (z1i ls++b.updates)
 len:(z1i ls').length≤(z1i ls).length+b.updates.length
 nb:ls'.length+busyN ls'≤ls.length+busyN ls+1
 few:FewS ls→wS ls'≤wS ls+b.updates.length∧FewS ls'
def zir (s:List Time)(ls:List Level)(b:Batch)(o:Option (Int×Trace)):Prop:= ∃e tr,o=some (e,tr)∧((e=0∧ ∃ls',tr=⟨⟨s,ls'⟩⟩∧PutR s ls b ls')∨e=10)
theorem zfa {s:List Time}:z4s s s=true:=by
 unfold z4s;cases s with
 |nil=>rfl
 |cons t s=>
  simp only[Bool.or_eq_true,Bool.and_eq_true,decide_eq_true_eq,List.all_eq_true];exact .inr ⟨by simp,fun x hx=>List.any_eq_true.2 ⟨x,hx,zb1 x⟩⟩
theorem zg7 {fuel:Nat}{ls:List Level}{c:Int}(hf:20000000≤fuel)(hn:ls.length≤4000000)(hc:0≤c∧c≤22)(hl: ∀l∈ls,0≤l.class_∧l.class_≤22)(hd:ls.Pairwise fun a b=>b.class_<a.class_):
 ∃X Y found,ls=X++Y∧z0e fuel ls c=some ((X.length:Int),found)∧(∀x∈X,c<x.class_)∧
  ((found=false∧ ∀y∈Y,y.class_<c)∨(found=true∧ ∃l Y',Y=l::Y'∧l.class_=c∧ ∀y∈Y',y.class_<c)):=by
 obtain⟨r,h1,h2,h3,h4⟩:=zpb hf hn hc hl hd;have hX:(ls.take r).length=r:=by rw[zzp];omega
 refine⟨ls.take r,ls.drop r,_,(List.take_append_drop r ls).symm,by rw[hX];exact h2,?_,?_⟩
 ·intro x hx;obtain⟨k,hk,rfl⟩:=List.mem_iff_getElem.1 hx;rw[hX]at hk;have:=h3 k hk
  rw[List.getD_eq_getElem?_getD,List.getElem?_eq_getElem (show k<ls.length by omega)]at this;rw[List.getElem_take];exact this
 ·have hdd:=hd.sublist (List.drop_sublist r ls);by_cases g:r<ls.length
  ·have hg:=h4 r (zzf _) g;rw[z0x g]at hdd ⊢;have hY:=(List.pairwise_cons.1 hdd).1
   by_cases e:(ls.getD r zzd).class_=c
   ·right;exact⟨decide_eq_true ⟨g,e⟩,_,_,rfl,e,fun y hy=>by have:=hY y hy;omega⟩
   ·left;refine⟨decide_eq_false fun k=>e k.2,fun y hy=>?_⟩;rcases zzj.1 hy with rfl|hy
    ·omega
    ·have:=hY y hy;omega
  ·left;refine⟨decide_eq_false fun k=>g k.1,fun y hy=>?_⟩;rw[zzl (by omega)]at hy;cases hy
theorem zp8 {X Y:List Level}{n:Level}(hd:(X++Y).Pairwise fun a b=>b.class_<a.class_)(hX: ∀x∈X,n.class_<x.class_)(hY: ∀y∈Y,y.class_<n.class_):(X++n::Y).Pairwise fun a b=>b.class_<a.class_:=by
 rw[List.pairwise_append]at hd ⊢;refine⟨hd.1,List.pairwise_cons.2 ⟨hY,hd.2.1⟩,fun x hx y hy=>?_⟩;rcases zzj.1 hy with rfl|hy
 ·exact hX x hx
 ·exact hd.2.2 x hx y hy
theorem SpOk.mid {s:List Time}{X Y:List Level}{n:Level}(h:SpOk s (X++Y))(hp:LevP s n∧1≤n.class_)(hs:LevS n)(hX: ∀x∈X,n.class_<x.class_)(hY: ∀y∈Y,y.class_<n.class_):SpOk s (X++n::Y):=
 ⟨h.hF,h.fl,⟨h.ok.fr,fun l hl=>by
  rcases zz2.1 hl with g|g
  ·exact h.ok.lev l (zzo _ g)
  ·rcases zzj.1 g with rfl|g
   ·exact hp
   ·exact h.ok.lev l (zzh _ g),zp8 h.ok.dec hX hY⟩,fun l hl=>by
  rcases zz2.1 hl with g|g
  ·exact h.sz l (zzo _ g)
  ·rcases zzj.1 g with rfl|g
   ·exact hs
   ·exact h.sz l (zzh _ g)⟩
theorem zl2 {s:List Time}{X Y:List Level}{b:Batch}(h:SpOk s (X++Y))(hb:BOk s b)(h0:cls b.updates≠0)(hl:b.updates.length≤2000000)(hX: ∀x∈X,cls b.updates<x.class_)(hY: ∀y∈Y,y.class_<cls b.updates):
 PutR s (X++Y) b (X++(⟨cls b.updates,false,b,zM⟩:Level)::Y):=by
 have hc:=zg0 (l:=b.updates) (by omega);refine⟨h.mid ⟨.inl ⟨rfl,rfl,hb.chk,rfl,hb.lat⟩,by dsimp only;omega⟩ ⟨hb.hF,hb.fl,hl,hb.t,hb.d,znu,fun r hr=>(by cases hr),by simp⟩ hX hY,?_,?_,?_,?_⟩
 ·refine Eqv.perm ?_
  haveI:DecidableEq Update:=fun a b=>Classical.propDecidable (a=b)
  rw[List.perm_iff_count];intro a;simp only[z6f,z1i,List.count_append,List.drop_nil,List.count_nil];omega
 ·simp only[z6f,z1i,zze,List.drop_nil,List.length_nil];omega
 ·simp only[z9p,busyN,zze,zzq,zzm,if_false];omega
 ·intro hf;refine⟨?_,fun l hl=>?_⟩
  ·simp only[zju,wS,List.length_nil];omega
  ·rcases zz2.1 hl with g|g
   ·exact hf l (zzo _ g)
   ·rcases zzj.1 g with rfl|g
    ·simp
    ·exact hf l (zzh _ g)
theorem zmu {f:List Time}{A B:List Update}(h:A.length+B.length≤4000000):GInv f A B 0 0 []:=
 ⟨Nat.zero_le _,Nat.zero_le _,fun o ho=>(by cases ho),fun h=>by omega,fun h=>by omega,⟨List.Pairwise.nil,fun r hr=>(by cases hr),fun r hr=>(by cases hr)⟩,fun r hr=>(by cases hr),fun r hr=>(by cases hr),fun r hr=>(by cases hr),by simpa using h⟩
theorem zmy {X Y:List Level}{v:Level}(h:X.length+Y.length≤4000000):zcv (X++Y) (X.length:Int) [v]=some (X++v::Y):=by
 unfold zcv;rw[z0b (by simp;omega),zz8,List.take_left,List.drop_left];simp
theorem zq8 {X Y:List Level}{v:Level}(h:X.length+Y.length≤4000000):zcu (X++v::Y) (X.length:Int) (zzi.wrap ((X.length:Int)+1))=some (X++Y):=by
 unfold zcu;rw[wadd1 (by omega),z0b (by simp;omega),zz8,zz8,List.take_left];have:(X++v::Y).drop (X.length+1)=Y:=by
  rw[←List.drop_drop,List.drop_left];rfl
 rw[this]
theorem zpx {n:Nat}(h:n≤22):shlOp .i64 (2:Int) (n:Int)=((2*2^n:Nat):Int):=by
 rw[show(2:Int)=((2:Nat):Int)from rfl,zpw (k:= .i64) 2 n (by show n≤64;omega)];have:2^n≤2^22:=Nat.pow_le_pow_right (by decide) h;exact zfe (by unfold in64;omega)
theorem zl1 (k fuel:Nat)(ih:0<k→ ∀(fuel:Nat) {s:List Time} {ls:List Level} {b:Batch},busyN ls≤k-1→20000000+(k-1)<fuel→SpOk s ls→BOk s b→(z1i ls).length+b.updates.length≤2000000→zir s ls b (z19 fuel b ⟨⟨s,ls⟩⟩))
 {s:List Time} {ls:List Level} {b:Batch} (hk:busyN ls≤k) (hf:20000000+k<fuel) (h:SpOk s ls) (hb:BOk s b) (hz:(z1i ls).length+b.updates.length≤2000000):zir s ls b (z19 fuel b ⟨⟨s,ls⟩⟩):=by
 cases fuel with
 |zero=>omega
 |succ fuel=>
 have hc:=zg0 (l:=b.updates) (by omega);have hn:=h.len
 rw[z19,zap (by omega)];simp only[zz0,z0d];by_cases h0:cls b.updates=0
 ·rw[if_pos h0];have hb0:=zo1.1 h0;refine⟨0,_,rfl,.inl ⟨rfl,ls,rfl,⟨h,?_,by omega,by omega,fun hf=>⟨by omega,hf⟩⟩⟩⟩;rw[hb0,List.append_nil];exact .rfl'
 rw[if_neg h0];obtain⟨X,Y,found,rfl,hF,hX,hcase⟩:=zg7 (fuel:=fuel) (ls:=ls) (c:=cls b.updates) (by omega) (by omega) hc (fun l hl=>zep (h.ok.lev l hl).1 (h.sz l hl)) h.ok.dec;rw[hF];have hXY:X.length+Y.length≤22:=by rw[zze]at hn;exact hn
 simp only[zz0,z2h];rcases hcase with⟨rfl,hY⟩|⟨rfl,l,Y,rfl,hl,hY⟩
 ·rw[z17];unfold z16;rw[zmy (by omega)];exact⟨0,_,rfl,.inl ⟨rfl,_,rfl,zl2 h hb h0 (by omega) hX hY⟩⟩
 rw[z44];have hml:l∈X++l::Y:=zzh _ (zz3 ..);have hlev:=(h.ok.lev l hml).1
 have hsz:=h.sz l hml;have hsub:SpOk s (X++Y):=h.sub (List.Sublist.append_left (List.sublist_cons_self l Y) X)
 rw[zzq]at hXY;have hgd:(X++l::Y).getD (0+X.length) zzd=l:=by rw[zzc];exact zja X Y l
 simp only[zz8];rw[z0b (by simp;omega),z0b (by simp),hgd];have hps:(z1i (X++l::Y)).length=(z1i X).length+(partsL l).length+(z1i Y).length:=by simp only[z6f,z1i,zze];omega
 rw[hps]at hz;rcases hlev with⟨hbu,hm,hck,hcl,hla⟩|⟨hbu,hbt,hmp,hca,hcb,hla,hov⟩
 ·rw[hbu,z17];have hbn:=hsz.bn;have hl1:l.batch.updates.length≤(partsL l).length:=by simp only[partsL,zze];omega
  obtain⟨g1,g2⟩:=zly (fuel:=fuel) (s:=s) (a:=l.batch) (b:=b) (by omega) h.hF h.fl hsz.bF hsz.bl hbn hsz.bt hsz.bd hb.hF hb.fl (by omega) hb.t hb.d hck hb.chk h.ok.fr hla hb.lat;rw[g1];simp only[zz0,jn_eq,z0d];rw[if_pos trivial,z0b (by simp;omega),z0b (by simp),zzc,zh7];have hG:=zmu (f:=s) (A:=l.batch.updates) (B:=b.updates) (by omega)
  have mS:=hG.mergS g2 (by simp);refine⟨0,_,rfl,.inl ⟨rfl,_,rfl,⟨hsub.mid ⟨.inr ⟨rfl,rfl,hG.mergP g2,by dsimp only;omega,rfl,zfa,?_⟩,by dsimp only;omega⟩ ⟨fun r hr=>(by cases hr),by simp,by simp,fun r hr=>(by cases hr),fun r hr=>(by cases hr),mS,fun r hr=>(by cases hr),by simp;omega⟩ hX hY,?_,?_,?_,?_⟩⟩⟩
  ·intro g;have:=g.1
   dsimp only at this;have:l.batch.updates=[]:=zza (by omega)
   rw[this]at hcl;apply h0;rw[←hl,hcl];rfl
  ·refine Eqv.perm ?_
   haveI:DecidableEq Update:=fun a b=>Classical.propDecidable (a=b)
   rw[List.perm_iff_count];intro a;simp only[z6f,z1i,partsL,hm,List.count_append,List.drop_nil,List.count_nil,Int.toNat_zero,List.drop_zero];omega
  ·rw[hps];simp only[z6f,z1i,partsL,hm,zze,List.drop_nil,List.length_nil,Int.toNat_zero,List.drop_zero];omega
  ·simp only[z9p,busyN,zze,zzq,if_true,hbu,zzm,if_false];omega
  ·intro hf;refine⟨?_,fun x hx=>?_⟩
   ·simp only[zju,wS,hm,List.length_nil];omega
   ·rcases zz2.1 hx with g|g
    ·exact hf x (zzo _ g)
    ·rcases zzj.1 g with rfl|g
     ·simp
     ·exact hf x (zzh _ (zz7 _ g))
 ·rw[hbu,z44];have mS:=hsz.mS;have lA:=mS.lA;have lB:=mS.lB;have lO:=mS.lO;have mL:=hsz.mL
  obtain⟨i,j,hi,hj,c,hG⟩:=zpd mS hmp hsz.mD mL;obtain⟨n,hn2⟩: ∃n:Nat,cls b.updates=(n:Int):=⟨Sort.bitsLen b.updates.length,rfl⟩;have hA:=zhn (l:=l.merger.a) (c:=n) (by omega)
  have hB:=zhn (l:=l.merger.b) (c:=n) (by omega);have hbk:1≤k:=by
   have:busyN (X++l::Y)=busyN X+1+busyN Y:=by simp only[z9p,busyN,hbu,if_true];omega
   omega
  have eM:l.merger=⟨l.merger.a,l.merger.b,(i:Int),(j:Int),l.merger.since,l.merger.out⟩:=by rw[←hi,←hj]
  rw[z0b (by omega),hn2,zpx (by omega)];have hcl:(partsL l).length=(cont l.merger.a l.merger.b i j l.merger.out).length:=by
   simp only[partsL,hbt,hi,hj,zz8,List.nil_append]
  rw[eM];rcases workG c hG lO (fuel:=fuel) (by omega) ((2*2^n:Nat):Int)with⟨i',j',out',w1,w2,w3,w4⟩|⟨m,q,w1,_⟩
  case inr=>
   rw[w1];simp only[zz0,z2h,z0d];rw[if_neg (by decide)];exact⟨10,_,rfl,.inr rfl⟩
  rw[w1];simp only[zz0,z2h,z0d];rw[if_pos trivial];have hi2:=w2.inv.hi;have hj2:=w2.inv.hj
  obtain⟨rfl,rfl⟩:i'=l.merger.a.length∧j'=l.merger.b.length:=by
   rcases w4 with w4|w4
   ·omega
   ·exact w4
  have hw:=w2.len;have hce:cont l.merger.a l.merger.b l.merger.a.length l.merger.b.length out'=out':=by simp[cont]
  rw[hce]at hw;have heq:=w2.eqv
  rw[hce]at heq;rw[endG c w2.inv (by omega) (by omega)];unfold z1e;simp only[zz0];rw[zq8 (by omega)];simp only[zz0];unfold z3n;have hX': ∀x∈X,cls b.updates<x.class_:=hX
  have p1:z19 fuel b ⟨⟨s,X++Y⟩⟩=some (0,⟨⟨s,X++(⟨cls b.updates,false,b,zM⟩:Level)::Y⟩⟩):=by
   cases fuel with
   |zero=>omega
   |succ fuel=>
    rw[z19,zap (by omega)];simp only[zz0,z0d];rw[if_neg h0];obtain⟨X',Y',found,e,hF',hX2,hcase⟩:=zg7 (fuel:=fuel) (ls:=X++Y) (c:=cls b.updates) (by omega) (by rw[zze];omega) hc (fun l hl=>zep (hsub.ok.lev l hl).1 (hsub.sz l hl)) hsub.ok.dec;have hEx:X'=X∧Y'=Y∧found=false:=by
     have hall: ∀x∈X++Y,x.class_≠cls b.updates:=fun x hx=>by
      rcases zz2.1 hx with g|g
      ·have:=hX x g;omega
      ·have:=hY x g;omega
     have hfd:found=false∧ ∀y∈Y',y.class_<cls b.updates:=by
      rcases hcase with hh|⟨_,l',Y2,e2,e3,_⟩
      ·exact hh
      ·exact absurd e3 (hall l' (by rw[e,e2];exact zzh _ (zz3 ..)))
     have hXf:X=(X++Y).filter (fun l=>decide (cls b.updates<l.class_)):=by
      rw[List.filter_append,List.filter_eq_self.2 (fun x hx=>decide_eq_true (hX x hx)),List.filter_eq_nil_iff.2 (fun y hy=>by have:=hY y hy;simp;omega),List.append_nil]
     have hXf':X'=(X'++Y').filter (fun l=>decide (cls b.updates<l.class_)):=by
      rw[List.filter_append,List.filter_eq_self.2 (fun x hx=>decide_eq_true (hX2 x hx)),List.filter_eq_nil_iff.2 (fun y hy=>by have:=hfd.2 y hy;simp;omega),List.append_nil]
     have eX:X'=X:=by rw[hXf',hXf,←e,←hXf]
     subst eX;exact⟨rfl,(List.append_cancel_left e).symm,hfd.1⟩
    obtain⟨rfl,rfl,rfl⟩:=hEx;rw[hF'];simp only[zz0,z2h];rw[z17];unfold z16;rw[zmy (by omega)];rfl
  have r1:=zl2 hsub hb h0 (by omega) hX hY;have heB:BOk s ⟨l.merger.since,out'⟩:=⟨mS.hF,mS.fl,⟨c.fr,w2.inv.eO,w2.inv.aO⟩,w2.inv.tO,w2.inv.dO,hla⟩
  have hps2:(z1i (X++(⟨cls b.updates,false,b,zM⟩:Level)::Y)).length≤(z1i X).length+(z1i Y).length+b.updates.length:=by
   have:=r1.len;simp only[z6f,zze]at this ⊢;exact this
  have hb2:busyN (X++(⟨cls b.updates,false,b,zM⟩:Level)::Y)=busyN X+busyN Y:=by
   simp only[z9p,busyN,zzm,if_false];omega
  have hb1:busyN (X++l::Y)=busyN X+1+busyN Y:=by simp only[z9p,busyN,hbu,if_true];omega
  obtain⟨e,tr,p2,p3⟩:=ih (by omega) fuel (s:=s) (ls:=X++(⟨cls b.updates,false,b,zM⟩:Level)::Y) (b:=⟨l.merger.since,out'⟩) (by omega) (by omega) r1.ok heB (by dsimp only;omega);simp only[zzq,List.length_nil,z0j,List.getD_cons_zero,List.getD_cons_succ,p1,zz0,z2h,z0d,if_true];rw[p2];simp only[zz0,z2h,z0d];by_cases he:e=0
  ·rw[if_pos he];refine⟨0,tr,rfl,.inl ⟨rfl,?_⟩⟩;rcases p3 with⟨_,ls',p4,p5⟩|p3
   case inr=>omega
   refine⟨ls',p4,p5.ok,?_,?_,?_,?_⟩
   ·refine p5.eqv.trans ((Eqv.append r1.eqv (heq.later hla)).trans (Eqv.perm ?_))
    haveI:DecidableEq Update:=fun a b=>Classical.propDecidable (a=b)
    rw[List.perm_iff_count];intro a;simp only[z6f,z1i,partsL,hbt,hi,hj,zz8,List.count_append,List.count_nil];omega
   ·have:=p5.len;dsimp only at this;rw[hps];omega
   ·have:=p5.nb;simp only[zze,zzq]at this ⊢;omega
   ·intro hfew;have hfl:=hfew l hml
    have hg:=w2.grow;have f1:FewS (X++Y):=fun x hx=>hfew x (by
     rcases zz2.1 hx with g|g
     ·exact zzo _ g
     ·exact zzh _ (zz7 _ g))
    obtain⟨a1,a2⟩:=r1.few f1;obtain⟨a3,a4⟩:=p5.few a2;refine⟨?_,a4⟩;dsimp only at a3;simp only[zju,wS,hbt,List.length_nil]at a1 a3 ⊢;omega
  ·rw[if_neg he];rcases p3 with⟨p3,_⟩|p3
   ·exact absurd p3 he
   ·exact⟨e,tr,rfl,.inr p3⟩
theorem zqg: ∀(k fuel:Nat) {s:List Time} {ls:List Level} {b:Batch},busyN ls≤k→20000000+k<fuel→SpOk s ls→BOk s b→(z1i ls).length+b.updates.length≤2000000→zir s ls b (z19 fuel b ⟨⟨s,ls⟩⟩):=by
 intro k;induction k with
 |zero=>exact fun fuel=>zl1 0 fuel (fun h=>by omega)
 |succ k ih=>exact fun fuel=>zl1 (k+1) fuel (fun _=>ih)
end Go.Av
/-
 Updates that are inserted,and all of a spine.
-/
namespace Go.Av
open Go
structure InsR (s:List Time) (ls:List Level) (l:List Update) (ls':List Level):Prop where
 ok:SpOk s ls'
 eqv:Eqv s (z1i ls') (z1i ls++l)
 len:(z1i ls').length≤(z1i ls).length+l.length
 nb:ls'.length+busyN ls'≤ls.length+busyN ls+1
 few:FewS ls→wS ls'≤wS ls+l.length∧FewS ls'
theorem ziy: ∀ls:List Level,busyN ls≤ls.length
 |[]=>zzf _
 |l::ls=>by
  have:=ziy ls;simp only[busyN,zzq];split<;>omega
theorem zlh {f:List Time}{l R:List Update}(hFr:Fr f)(hT:TotU (advL f l) R 0)(h0:chkL (advL f l)=0):z9k ⟨f,R⟩:=by
 refine⟨hFr,?_,zim.2 (zhb hT)⟩;have ho:=z9e hT (z7g.1 h0)
 rcases hT with⟨_,g,_⟩|⟨g,_⟩
 ·exact⟨g.strict,fun r hr=>(g.sum r hr).2,ho⟩
 ·omega
theorem zgq {fuel:Nat}{s:List Time}{ls:List Level}(hf:20000000≤fuel)(h:SpOk s ls):z4e fuel ⟨s,ls⟩=some 0:=by
 rcases zlv hf h.hF h.fl h.sz with⟨e,_⟩|⟨_,e⟩
 ·exact e
 ·exact absurd h.ok e
theorem zhz {fuel:Nat}{s:List Time}{ls:List Level}{lists:List (List Update)}(hf:30000000≤fuel)(h:SpOk s ls)(hn:(z1i ls).length+lists.flatten.length≤2000000)
 (hd: ∀u∈lists.flatten,in64 u.diff) (ht: ∀u∈lists.flatten,z15 u.time):
 ∃S e,z3z fuel ⟨s,ls⟩ lists=some (S,e)∧((e=0∧(∀u∈lists.flatten,okU u)∧ ∃ls',S=⟨s,ls'⟩∧InsR s ls lists.flatten ls')∨(e≠0∧S=⟨s,ls⟩)):=by
 have hlen:=h.len;have hbl:=ziy ls
 unfold z3z;rw[zgq (by omega) h];simp only[zz0,z2h,z0d];rw[if_pos trivial];obtain⟨B,e,h1,h2⟩:=zo0 (fuel:=fuel) (f:=s) (ls:=lists) (by omega) h.hF h.fl (by omega) hd ht;rw[h1];simp only[zz0,z2h,z0d];by_cases he:e=0
 case neg=>
  rw[if_neg he,znb (by omega) h];exact⟨_,_,rfl,.inr ⟨he,rfl⟩⟩
 rw[if_pos he,zkx (by omega) h];obtain⟨b1,b2,b3,R,rfl,b4,b5⟩:=zlf h2 he;obtain⟨q1,_⟩:=zl6 b4;have hnn:=zjf b4 h.hF ht
 have hb:BOk s ⟨s,R⟩:=⟨h.hF,h.fl,zlh b1 b4 b3,hnn,zl7 b4,zfa⟩;obtain⟨e2,tr,p1,p2⟩:=zqg (busyN ls) fuel (zzf _) (by omega) h hb (by dsimp only;omega);simp only[zz0];rw[p1];simp only[zz0,z2h,z0d];rcases p2 with⟨rfl,ls',rfl,p3⟩|rfl
 ·rw[if_pos rfl];refine⟨_,_,rfl,.inl ⟨rfl,z7g.1 b2,ls',rfl,⟨p3.ok,p3.eqv.trans (Eqv.append .rfl' q1),?_,p3.nb,fun hf=>?_⟩⟩⟩
  ·have:=p3.len;dsimp only at this;omega
  ·obtain⟨a1,a2⟩:=p3.few hf;dsimp only at a1;exact⟨by omega,a2⟩
 ·rw[if_neg (by decide),znb (by omega) h];exact⟨_,_,rfl,.inr ⟨by decide,rfl⟩⟩
theorem LevP.place {s:List Time}{l:Level}(h:LevP s l): ∃i j:Nat,l.merger.i=(i:Int)∧l.merger.j=(j:Int)∧i≤l.merger.a.length∧j≤l.merger.b.length:=by
 rcases h with⟨_,h,_⟩|⟨_,_,h,_⟩
 ·rw[h];exact⟨0,0,rfl,rfl,Nat.zero_le _,Nat.zero_le _⟩
 ·have a1:=h.cA.lo;have a2:=h.cA.hi;have b1:=h.cB.lo;have b2:=h.cB.hi
  exact⟨l.merger.i.toNat,l.merger.j.toNat,by omega,by omega,by omega,by omega⟩
theorem zk9 {ls:List Level}{i:Nat}(h:i<ls.length):z1i (ls.take (i+1))=z1i (ls.take i)++partsL (ls.getD i zzd):=by
 rw[z33 h,z6f];simp[z1i]
theorem zog {s:List Time}{ls:List Level}(h:SpOk s ls): ∃L,z28 ⟨⟨s,ls⟩⟩=some (L,⟨⟨s,ls⟩⟩)∧L.flatten=z1i ls:=by
 have hlen:=h.len;unfold z28;dsimp only;obtain⟨L,h1,h2,h3⟩:=za8 (R:=Empty) (n:=ls.length) (s:=([]:List (List Update))) (fun i a=>a.flatten=z1i (ls.take i)∧a.length=4*i) (by simp[z1i]) (B:=fun i1 (a2:List (List Update))=>need ((0:Int)≤(ls.getD i1 zzd).merger.i∧(ls.getD i1 zzd).merger.i≤(((ls.getD i1 zzd).merger.a).length:Int)∧(((ls.getD i1 zzd).merger.a).length:Int)≤(((ls.getD i1 zzd).merger.a).length:Int))<|need ((0:Int)≤(ls.getD i1 zzd).merger.j∧(ls.getD i1 zzd).merger.j≤(((ls.getD i1 zzd).merger.b).length:Int)∧(((ls.getD i1 zzd).merger.b).length:Int)≤(((ls.getD i1 zzd).merger.b).length:Int))<|need (a2.length+([(ls.getD i1 zzd).batch.updates,(sub ((ls.getD i1 zzd).merger.a) ((ls.getD i1 zzd).merger.i) (((ls.getD i1 zzd).merger.a).length:Int)),(sub ((ls.getD i1 zzd).merger.b) ((ls.getD i1 zzd).merger.j) (((ls.getD i1 zzd).merger.b).length:Int)),(ls.getD i1 zzd).merger.out]:List (List Update)).length≤274877906944)<|some (.next (a2++([(ls.getD i1 zzd).batch.updates,(sub ((ls.getD i1 zzd).merger.a) ((ls.getD i1 zzd).merger.i) (((ls.getD i1 zzd).merger.a).length:Int)),(sub ((ls.getD i1 zzd).merger.b) ((ls.getD i1 zzd).merger.j) (((ls.getD i1 zzd).merger.b).length:Int)),(ls.getD i1 zzd).merger.out]:List (List Update))))) (fun i a hi ⟨ha,hal⟩=>by
  obtain⟨x,y,e1,e2,e3,e4⟩:=(h.ok.lev _ (z2b hi)).1.place;rw[e1,e2,z0b (by omega),z0b (by omega),zes _ e3,zes _ e4,z0b (by simp;omega)];refine⟨_,rfl,?_,by simp;omega⟩;rw[List.flatten_append,ha,zk9 hi];simp only[partsL,e1,e2,zz8];simp)
 rw[h1];refine⟨L,rfl,?_⟩;rw[h2,List.take_length]
theorem ze3 {s:List Time}{ls:List Level}(h:SpOk s ls): ∀u∈z1i ls,okU u∧z15 u.time∧in64 u.diff:=by
 have key: ∀ms:List Level,(∀l∈ms,l∈ls)→ ∀u∈z1i ms,okU u∧z15 u.time∧in64 u.diff:=by
  intro ms;induction ms with
  |nil=>intro _ u hu;cases hu
  |cons l ms ih=>
   intro hm u hu;have hl:=hm l (zz3 ..)
   have h1:=(h.ok.lev l hl).1;have h2:=h.sz l hl
   simp only[z1i,zz2]at hu;rcases hu with(hu|hu|hu|hu)|hu
   ·exact⟨h1.okB u hu,h2.bt u hu,h2.bd u hu⟩
   ·have hu:=zzs hu;exact⟨h1.okM.1 u hu,h2.mS.tA u hu,h2.mS.dA u hu⟩
   ·have hu:=zzs hu;exact⟨h1.okM.2.1 u hu,h2.mS.tB u hu,h2.mS.dB u hu⟩
   ·exact⟨h1.okM.2.2 u hu,h2.mS.tO u hu,h2.mD u hu⟩
   ·exact ih (fun x hx=>hm x (zz7 _ hx)) u hu
 exact key ls fun l hl=>hl
theorem zma {fuel:Nat}{s:List Time}{ls:List Level}(hf:20000000≤fuel)(h:SpOk s ls)(hn:(z1i ls).length≤4000000):
 ∃R e,z6z fuel ⟨s,ls⟩=some (R,e)∧TotU (advL s (z1i ls)) R e∧(e=0∨e=10):=by
 unfold z6z;rw[zgq hf h];simp only[zz0,z2h,z0d];rw[if_pos trivial];unfold z26 z9j;obtain⟨L,h1,h2⟩:=zog h;rw[h1];simp only[zz0];rw[show z0c L=some L.flatten from zfg (by rw[h2];exact hn),h2];have hpm:=ze3 h
 have hfl:=h.fl;simp only[zz0,z44];generalize z1i ls=l at*;rw[z5n (advL s l) (fun i a=>a=advL s (l.take i)) (fun a ha=>by rw[ha,List.take_length]) (fun i a hi ha=>by
  have hal:a.length=i:=by rw[ha];simp[advL];omega
  rw[zc8 (hpm _ (z2b hi)).2.1 h.hF (by omega)];simp only[zz0];rw[z0b (by simp;omega)];refine⟨_,rfl,?_⟩;rw[z33 hi,ha];unfold advL advU;rw[List.map_append];rfl) (by rfl)]
 have hfl:([advL s l]:List (List Update)).flatten=advL s l:=by simp
 obtain⟨R,e,g1,g2,g3⟩:=zko (fuel:=fuel) (ls:=[advL s l]) hf (by rw[hfl];simp[advL];exact hn) (fun u hu=>by
  rw[hfl]at hu;obtain⟨v,hv,rfl⟩:=List.mem_map.1 hu;exact(hpm v hv).2.2)
 rw[hfl]at g2;simp only[z6e];rw[g1];refine⟨R,e,rfl,?_⟩;have h0:chkL (advL s l)=0:=z7g.2 (zaf h.ok.fr.1 fun u hu=>(hpm u hu).1)
 rcases g2 with⟨g,_⟩|⟨_,g⟩
 ·exact absurd h0 g
 ·refine⟨g,?_⟩;rcases g with⟨g,_⟩|⟨g,_⟩
  ·exact .inl g
  ·exact .inr g
theorem zit:SpOk [] []:=⟨fun x hx=>(by cases hx),by simp,⟨zq4,fun l hl=>(by cases hl),List.Pairwise.nil⟩,fun l hl=>(by cases hl)⟩
theorem zms {α:Type}[Inhabited α]{l:List (List α)}{i:Nat}(h:i<l.length):(l.take (i+1)).flatten=(l.take i).flatten++l.getD i zzd:=zec h
theorem zdi {fuel:Nat}{p0:List (List Update)}(hL:z52 fuel=some true)(hf:30000000≤fuel)(hn:p0.flatten.length≤2000000)(hd: ∀u∈p0.flatten,in64 u.diff)(ht: ∀u∈p0.flatten,z15 u.time):
 z2x fuel p0=some true:=by
 unfold z2x;rw[hL];simp only[zz0,zzn,z17,z0d];by_cases h20:(20:Int)<(p0.length:Int)
 ·rw[if_pos h20]
 rw[if_neg h20];obtain⟨S,e,h1,h2⟩:=zhz (fuel:=fuel) (lists:=p0) hf zit (by simpa [z1i]using hn) hd ht;rw[h1];simp only[zz0];obtain⟨⟨w,b⟩,h3,ls,rfl,h5,h6,h7⟩:=za8 (R:=Empty) (n:=p0.length) (s:=((0:Int),(⟨([]:List Time),([]:List Level)⟩:Spine))) (fun i a=> ∃ls,a.2=⟨[],ls⟩∧SpOk [] ls∧(a.1=0→Eqv [] (z1i ls) (p0.take i).flatten)∧(z1i ls).length≤(p0.take i).flatten.length)
  ⟨[],rfl,zit,fun _=> .rfl',Nat.zero_le _⟩ (B:=fun i3 (a4:Int×Spine)=>if a4.1=0 then((z3z fuel a4.2 ([(p0.getD i3 zzd)]:List (List Update))).bind fun r13=>some (.next (r13.2,r13.1)))else(some (.next (a4.1,a4.2)))) (fun i a hi ⟨ls,a1,a2,a3,a4⟩=>by
   obtain⟨w,b⟩:=a;dsimp only at a1 a3 a4 ⊢;subst a1;have hft:=zms hi
   have hsub: ∀u∈p0.getD i zzd,u∈p0.flatten:=fun u hu=>List.mem_flatten.2 ⟨_,z2b hi,hu⟩;have hle:=zh3 hi
   by_cases hw:w=0
   ·rw[if_pos hw];have hfl:([p0.getD i zzd]:List (List Update)).flatten=p0.getD i zzd:=by simp
    obtain⟨S,e,g1,g2⟩:=zhz (fuel:=fuel) (lists:=[p0.getD i zzd]) hf a2 (by rw[hfl];omega) (by rw[hfl];exact fun u hu=>hd u (hsub u hu)) (by rw[hfl];exact fun u hu=>ht u (hsub u hu));rw[g1];refine⟨_,rfl,?_⟩;rw[hfl]at g2;rcases g2 with⟨rfl,_,ls',rfl,g3⟩|⟨g2,rfl⟩
    ·refine⟨ls',rfl,g3.ok,fun _=>?_,?_⟩
     ·rw[hft];exact g3.eqv.trans (Eqv.append (a3 hw) .rfl')
     ·have:=g3.len;rw[hft,zze];omega
    ·exact⟨ls,rfl,a2,fun g=>absurd g g2,by rw[hft,zze];omega⟩
   ·rw[if_neg hw];exact⟨_,rfl,ls,rfl,a2,fun g=>absurd g hw,by rw[hft,zze];omega⟩)
 rw[h3];simp only[z6e,jn_eq,z2h,z0d];by_cases he:e=0
 case neg=>rw[if_neg he];rfl
 rw[if_pos he];by_cases hw:w=0
 case neg=>rw[if_neg hw]
 rw[if_pos hw];rcases h2 with⟨_,hok,la,rfl,g3⟩|⟨g,_⟩
 case inr=>exact absurd he g
 have hE:=h6 hw;rw[List.take_length]at hE h7;have g4:=g3.len
 have g5:=g3.eqv;simp only[z1i,List.nil_append,List.length_nil,zzc]at g4 g5;obtain⟨R,e1,r1,r2,_⟩:=zma (fuel:=fuel) (by omega) g3.ok (by omega);obtain⟨R',e1',r1',r2',_⟩:=zma (fuel:=fuel) (by omega) h5 (by omega);rw[r1,r1'];have o1:=zaf g3.ok.ok.fr.1 fun u hu=>(ze3 g3.ok u hu).1
 have o2:=zaf h5.ok.fr.1 fun u hu=>(ze3 h5 u hu).1;obtain⟨rfl,rfl⟩:=zkf r2 r2' o1 o2 (g5.trans hE.symm);simp only[zz0];rw[if_pos trivial,zqj];rfl
end Go.Av
namespace Go.Av
open Go
theorem zpi {n:Int}(h:okInt .i64 n):in64 n:=by
 have:=Go.bounds_i64 h;unfold in64;omega
theorem zcn {n:Int}(h:okInt .u64 n):0≤n:=(Go.bounds_u64 h).1
theorem zn7 {t:Time}(h:zge t):z15 t:=⟨zcn h.1,zcn h.2.1.1,zcn h.2.1.2⟩
abbrev okUs (l:List Update):Prop:=l.length≤maxN∧ ∀x∈l,zcp x
abbrev okTs (l:List Time):Prop:=l.length≤maxN∧ ∀x∈l,zge x
theorem us_in {l:List Update}(h:okUs l): ∀u∈l,in64 u.diff:=fun u hu=>zpi (h.2 u hu).2.2.2.1
theorem us_nn {l:List Update}(h:okUs l): ∀u∈l,z15 u.time:=fun u hu=>zn7 (h.2 u hu).2.2.1
theorem zqo (l:List Update):l.length≤(l.map z66).sum:=z9z (f:=z66) (fun x=>by unfold z66;omega) l
end Go.Av
namespace Go.Av
open Go
theorem zj8 {α:Type}(f:α→Nat)(hf: ∀l:List α,l.length≤(l.map f).sum): ∀ls:List (List α),ls.flatten.length≤(ls.map fun l=>(l.map f).sum+1).sum
 |[]=>by simp
 |l::ls=>by
  have:=hf l;have:=zj8 f hf ls
  simp only[List.flatten_cons,zze,List.map_cons,List.sum_cons];omega
end Go.Av
namespace Go.Av
open Go
set_option maxRecDepth 100000
theorem zpl:z52 100000000=some true:=by kernel_rfl
theorem zev {l:List (List Update)}(h:l.length≤maxN∧ ∀x∈l,okUs x)(hb:((l.map fun xs=>(xs.map z66).sum+1).sum+1)+0≤1048576):z2x 100000000 l=some true:=by
 have hl:=zj8 z66 zqo l;refine zdi zpl (by omega) (by omega) (fun u hu=>?_) (fun u hu=>?_)
 ·obtain⟨x,hx,hu⟩:=List.mem_flatten.1 hu;exact us_in (h.2 x hx) u hu
 ·obtain⟨x,hx,hu⟩:=List.mem_flatten.1 hu;exact us_nn (h.2 x hx) u hu
end Go.Av
