import Derived.Test.YtgpkbkdmpdmmiaaGreatL4x6
import Derived.Sort.LotD5
import Derived.Sort.AssemblyPlain
import Derived.KernelRfl
set_option maxRecDepth 100000
set_option linter.unusedVariables false
set_option linter.unusedSimpArgs false
set_option linter.unusedSectionVars false
open Go.IntKind renaming i64→zzi, u64→zzu
open Inhabited renaming default→zzd
open Option renaming bind_some→zz0
open Int renaming toNat_natCast→zz1
open Array renaming length_toList→zz2
open Nat renaming zero_add→zz4, le_refl→zzc
open List renaming mem_append→zz6, replicate→zz8, mem_singleton→zz9, mem_cons_self→zza, length_set→zze, mem_cons_of_mem→zzf, length_take→zzh, drop_eq_nil_of_le→zzk, mem_cons→zzm, length_drop→zzn, length_append→zzo
open Bool renaming not_true→zzj, false_eq_true→zzl
namespace Go.Av
open Go
section
variable {α:Type} [Inhabited α]
theorem z5p (p:α→Bool)(d:Array α)(j:Nat): ∀(n i:Nat),j+1-i≤n→Sort.scanUp p d j i≤max i (j+1)∧i≤Sort.scanUp p d j i:=by
 intro n;induction n with
 |zero=>
  intro i hn;rw[Sort.scanUp,if_neg (by simp;omega)];omega
 |succ n ih=>
  intro i hn;rw[Sort.scanUp];split
  ·rename_i h
   have:i≤j:=by simp at h;exact h.1
   have:=ih (i+1) (by omega);omega
  ·omega
theorem z3i (p:α→Bool)(d:Array α)(i:Nat): ∀(j:Nat),Sort.scanDown p d i j≤j
 |0=>zzc _
 |j+1=>by
  unfold Sort.scanDown;split
  ·have:=z3i p d i j;omega
  ·omega
theorem ze1 {S R:Type}{B:S→Option (Ctl S R)}(e:Nat→S)(p:α→Bool)(d:Array α){j:Nat}: ∀(n i fuel:Nat),j+1-i≤n→n<fuel→(∀i',i≤i'→i'≤max i (j+1)→B (e i')=if i'≤j∧p d[i']! =true then some (.next (e (i'+1)))else some (.brk (e i')))→
 loopN B fuel (e i)=some (.done (e (Sort.scanUp p d j i))):=by
 intro n;induction n with
 |zero=>
  intro i fuel hn hf hB;cases fuel with
  |zero=>omega
  |succ fuel=>
   have h:=hB i (zzc _) (by omega);rw[if_neg (by omega)]at h;rw[z11 h,Sort.scanUp,if_neg (by simp;omega)]
 |succ n ih=>
  intro i fuel hn hf hB;cases fuel with
  |zero=>omega
  |succ fuel=>
   have h:=hB i (zzc _) (by omega);by_cases hc:i≤j∧p d[i]! =true
   ·rw[if_pos hc]at h;rw[z1i h,Sort.scanUp,if_pos (by simpa using hc)];exact ih (i+1) fuel (by omega) (by omega) (fun i' h1 h2=>hB i' (by omega) (by omega))
   ·rw[if_neg hc]at h;rw[z11 h,Sort.scanUp,if_neg (by simpa using hc)]
theorem zbx {S R:Type}{B:S→Option (Ctl S R)}(e:Nat→S)(p:α→Bool)(d:Array α){i:Nat}(hi:1≤i): ∀(j fuel:Nat),j<fuel→(∀j',j'≤j→B (e j')=if i≤j'∧p d[j']! =true then some (.next (e (j'-1)))else some (.brk (e j')))→
 loopN B fuel (e j)=some (.done (e (Sort.scanDown p d i j))):=by
 intro j;induction j with
 |zero=>
  intro fuel hf hB;cases fuel with
  |zero=>omega
  |succ fuel=>
   have h:=hB 0 (zzc _);rw[if_neg (by omega)]at h;rw[z11 h];rfl
 |succ j ih=>
  intro fuel hf hB;cases fuel with
  |zero=>omega
  |succ fuel=>
   have h:=hB (j+1) (zzc _);unfold Sort.scanDown;by_cases hc:i≤j+1∧p d[j+1]! =true
   ·rw[if_pos hc]at h;rw[z1i h,if_pos (by simpa using hc)];exact ih fuel (by omega) (fun j' h1=>hB j' (by omega))
   ·rw[if_neg hc]at h;rw[z11 h,if_neg (by simpa using hc)]
end
theorem zao (a i j:Nat)(d:Array Time):Sort.partLoop ltT a i j d=
 if Sort.scanUp (fun x=>ltT x d[a]!) d j i>Sort.scanDown (fun x=> !ltT x d[a]!) d (Sort.scanUp (fun x=>ltT x d[a]!) d j i) j then(Sort.scanDown (fun x=> !ltT x d[a]!) d (Sort.scanUp (fun x=>ltT x d[a]!) d j i) j,d)
 else Sort.partLoop ltT a (Sort.scanUp (fun x=>ltT x d[a]!) d j i+1) (Sort.scanDown (fun x=> !ltT x d[a]!) d (Sort.scanUp (fun x=>ltT x d[a]!) d j i) j-1) (Sort.swp d (Sort.scanUp (fun x=>ltT x d[a]!) d j i) (Sort.scanDown (fun x=> !ltT x d[a]!) d (Sort.scanUp (fun x=>ltT x d[a]!) d j i) j)):=Sort.partLoop_eq ltT a i j d
theorem z9e (a i j:Nat)(d:Array Time):Sort.partEqLoop ltT a i j d=
 if Sort.scanUp (fun x=> !ltT d[a]! x) d j i>Sort.scanDown (fun x=>ltT d[a]! x) d (Sort.scanUp (fun x=> !ltT d[a]! x) d j i) j then(Sort.scanUp (fun x=> !ltT d[a]! x) d j i,d)
 else Sort.partEqLoop ltT a (Sort.scanUp (fun x=> !ltT d[a]! x) d j i+1) (Sort.scanDown (fun x=>ltT d[a]! x) d (Sort.scanUp (fun x=> !ltT d[a]! x) d j i) j-1) (Sort.swp d (Sort.scanUp (fun x=> !ltT d[a]! x) d j i) (Sort.scanDown (fun x=>ltT d[a]! x) d (Sort.scanUp (fun x=> !ltT d[a]! x) d j i) j)):=Sort.partEqLoop_eq ltT a i j d
theorem zpj {B:Int×Int×List Time→Option (Ctl (Int×Int×List Time) Empty)}{a:Nat}: ∀(n i j fuel:Nat) (d:Array Time),j+1-i≤n→n<fuel→1≤i→i≤d.size→j<d.size→
 (∀(i j:Nat) (d':Array Time),d'.size=d.size→1≤i→i≤d.size→j<d.size→B ((i:Int),(j:Int),d'.toList)=
  if Sort.scanUp (fun x=>ltT x d'[a]!) d' j i>Sort.scanDown (fun x=> !ltT x d'[a]!) d' (Sort.scanUp (fun x=>ltT x d'[a]!) d' j i) j
  then some (.brk (((Sort.scanUp (fun x=>ltT x d'[a]!) d' j i:Nat):Int),((Sort.scanDown (fun x=> !ltT x d'[a]!) d' (Sort.scanUp (fun x=>ltT x d'[a]!) d' j i) j:Nat):Int),d'.toList))
  else some (.next (((Sort.scanUp (fun x=>ltT x d'[a]!) d' j i+1:Nat):Int),((Sort.scanDown (fun x=> !ltT x d'[a]!) d' (Sort.scanUp (fun x=>ltT x d'[a]!) d' j i) j-1:Nat):Int),(Sort.swp d' (Sort.scanUp (fun x=>ltT x d'[a]!) d' j i) (Sort.scanDown (fun x=> !ltT x d'[a]!) d' (Sort.scanUp (fun x=>ltT x d'[a]!) d' j i) j)).toList)))→
 ∃x:Int,loopN B fuel ((i:Int),(j:Int),d.toList)=some (.done (x,((Sort.partLoop ltT a i j d).1:Int),(Sort.partLoop ltT a i j d).2.toList)):=by
 intro n;induction n with
 |zero=>
  intro i j fuel d hn hf hi hi2 hj hB;cases fuel with
  |zero=>omega
  |succ fuel=>
   have h:=hB i j d rfl hi hi2 hj;have u:=(z5p (fun x=>ltT x d[a]!) d j _ i (zzc _))
   have v:=z3i (fun x=> !ltT x d[a]!) d (Sort.scanUp (fun x=>ltT x d[a]!) d j i) j;rw[if_pos (by omega)]at h;rw[z11 h,zao,if_pos (by omega)];exact⟨_,rfl⟩
 |succ n ih=>
  intro i j fuel d hn hf hi hi2 hj hB;cases fuel with
  |zero=>omega
  |succ fuel=>
   have h:=hB i j d rfl hi hi2 hj;have u:=(z5p (fun x=>ltT x d[a]!) d j _ i (zzc _))
   have v:=z3i (fun x=> !ltT x d[a]!) d (Sort.scanUp (fun x=>ltT x d[a]!) d j i) j;rw[zao];generalize Sort.scanUp (fun x=>ltT x d[a]!) d j i=i2 at*;generalize Sort.scanDown (fun x=> !ltT x d[a]!) d i2 j=j2 at*;by_cases hc:i2>j2
   ·rw[if_pos hc]at h;rw[z11 h,if_pos hc];exact⟨_,rfl⟩
   ·rw[if_neg hc]at h;rw[z1i h,if_neg hc];exact ih _ _ _ _ (by omega) (by omega) (by omega) (by rw[z1f];omega) (by rw[z1f];omega) (fun i' j' d' h1 h2 h3 h4=>hB i' j' d' (by rw[h1,z1f]) h2 (by rw[z1f]at h3;exact h3) (by rw[z1f]at h4;exact h4))
theorem zn0 {B:Int×Int×List Time→Option (Ctl (Int×Int×List Time) Empty)}{a:Nat}: ∀(n i j fuel:Nat) (d:Array Time),j+1-i≤n→n<fuel→1≤i→i≤d.size→j<d.size→
 (∀(i j:Nat) (d':Array Time),d'.size=d.size→1≤i→i≤d.size→j<d.size→B ((i:Int),(j:Int),d'.toList)=
  if Sort.scanUp (fun x=> !ltT d'[a]! x) d' j i>Sort.scanDown (fun x=>ltT d'[a]! x) d' (Sort.scanUp (fun x=> !ltT d'[a]! x) d' j i) j
  then some (.brk (((Sort.scanUp (fun x=> !ltT d'[a]! x) d' j i:Nat):Int),((Sort.scanDown (fun x=>ltT d'[a]! x) d' (Sort.scanUp (fun x=> !ltT d'[a]! x) d' j i) j:Nat):Int),d'.toList))
  else some (.next (((Sort.scanUp (fun x=> !ltT d'[a]! x) d' j i+1:Nat):Int),((Sort.scanDown (fun x=>ltT d'[a]! x) d' (Sort.scanUp (fun x=> !ltT d'[a]! x) d' j i) j-1:Nat):Int),(Sort.swp d' (Sort.scanUp (fun x=> !ltT d'[a]! x) d' j i) (Sort.scanDown (fun x=>ltT d'[a]! x) d' (Sort.scanUp (fun x=> !ltT d'[a]! x) d' j i) j)).toList)))→
 ∃x:Int,loopN B fuel ((i:Int),(j:Int),d.toList)=some (.done (((Sort.partEqLoop ltT a i j d).1:Int),x,(Sort.partEqLoop ltT a i j d).2.toList)):=by
 intro n;induction n with
 |zero=>
  intro i j fuel d hn hf hi hi2 hj hB;cases fuel with
  |zero=>omega
  |succ fuel=>
   have h:=hB i j d rfl hi hi2 hj;have u:=(z5p (fun x=> !ltT d[a]! x) d j _ i (zzc _))
   have v:=z3i (fun x=>ltT d[a]! x) d (Sort.scanUp (fun x=> !ltT d[a]! x) d j i) j;rw[if_pos (by omega)]at h;rw[z11 h,z9e,if_pos (by omega)];exact⟨_,rfl⟩
 |succ n ih=>
  intro i j fuel d hn hf hi hi2 hj hB;cases fuel with
  |zero=>omega
  |succ fuel=>
   have h:=hB i j d rfl hi hi2 hj;have u:=(z5p (fun x=> !ltT d[a]! x) d j _ i (zzc _))
   have v:=z3i (fun x=>ltT d[a]! x) d (Sort.scanUp (fun x=> !ltT d[a]! x) d j i) j;rw[z9e];generalize Sort.scanUp (fun x=> !ltT d[a]! x) d j i=i2 at*;generalize Sort.scanDown (fun x=>ltT d[a]! x) d i2 j=j2 at*;by_cases hc:i2>j2
   ·rw[if_pos hc]at h;rw[z11 h,if_pos hc];exact⟨_,rfl⟩
   ·rw[if_neg hc]at h;rw[z1i h,if_neg hc];exact ih _ _ _ _ (by omega) (by omega) (by omega) (by rw[z1f];omega) (by rw[z1f];omega) (fun i' j' d' h1 h2 h3 h4=>hB i' j' d' (by rw[h1,z1f]) h2 (by rw[z1f]at h3;exact h3) (by rw[z1f]at h4;exact h4))
theorem zqv {X Y Z R Q:Type}{o:Option (Out (X×Y×Z) R)}{kn:X×Y×Z→Option Q}{kr:R→Option Q}{y:Y}{z:Z}{q:Option Q}(h: ∃x:X,o=some (.done (x,y,z)))(hk: ∀x,kn (x,y,z)=q):outK o kn kr=q:=by
 obtain⟨x,h⟩:=h;rw[h];exact hk x
theorem zqw {X Y Z R Q:Type}{o:Option (Out (X×Y×Z) R)}{kn:X×Y×Z→Option Q}{kr:R→Option Q}{x:X}{z:Z}{q:Option Q}(h: ∃y:Y,o=some (.done (x,y,z)))(hk: ∀y,kn (x,y,z)=q):outK o kn kr=q:=by
 obtain⟨y,h⟩:=h;rw[h];exact hk y
theorem zhd {fuel a b pivot:Nat}{d:Array Time}(hp:a≤pivot∧pivot<b)(hab:a+1<b)(hb:b≤d.size)(hd:d.size<1152921504606846976)(hf:d.size+2<fuel):
 z1j fuel (a:Int) (b:Int) (pivot:Int) d.toList=some (((Sort.partitionEqual ltT d a b pivot).1:Int),(Sort.partitionEqual ltT d a b pivot).2.toList):=by
 unfold z1j Sort.partitionEqual;have w1:zzi.wrap ((a:Int)+1)=((a+1:Nat):Int):=wadd1 (by omega)
 have w2:zzi.wrap ((b:Int)-1)=((b-1:Nat):Int):=wsub1 (by omega) (by omega);rw[w1,w2];simp only[zz1,zz4,zz2,zze,z20,z3n];rw[z07 (by omega),z07 (by omega),z07 (by omega),z07 (by omega),z07 (by omega),z07 (by omega),z07 (by omega),z07 (by omega)];have hsz:=z1f d a pivot
 generalize Sort.swp d a pivot=d1 at*;refine zqw (zn0 (a:=a) d1.size (a+1) (b-1) fuel d1 (by omega) (by omega) (by omega) (by omega) (by omega) ?_) (fun x=>rfl);intro i j e he hi hi2 hj;simp only;have u:=(z5p (fun x=> !ltT e[a]! x) e j _ i (zzc _))
 have v:=z3i (fun x=>ltT e[a]! x) e (Sort.scanUp (fun x=> !ltT e[a]! x) e j i) j;rw[ze1 (R:=Empty) (fun i:Nat=>(i:Int)) (fun x=> !ltT e[a]! x) e (j:=j) d1.size i fuel (by omega) (by omega) (fun k h1 h2=>?_)]
 ·simp only[z2k];generalize Sort.scanUp (fun x=> !ltT e[a]! x) e j i=i2 at*;rw[zbx (R:=Empty) (fun i:Nat=>(i:Int)) (fun x=>ltT e[a]! x) e (i:=i2) (by omega) j fuel (by omega) (fun k h1=>?_)]
  ·simp only[z2k,z0b,intlt,gt_iff_lt];generalize Sort.scanDown (fun x=>ltT e[a]! x) e i2 j=j2 at*;by_cases hc:j2<i2
   ·rw[if_pos hc,if_pos hc]
   ·rw[if_neg hc,if_neg hc];simp(disch:=omega) only[wsub1,wadd1,zz1,zz4,z07,zz2,zze,z20,z3n]
  ·simp only[jn_eq,z0b,intle];by_cases hc:i2≤k
   ·rw[if_pos hc];simp(disch:=omega) only[wsub1,zz1,zz4,z07,zz2,z33,zz0,z20,z0b,hc,true_and];unfold ltT;by_cases h:cmpT e[a]! e[k]! <0
    ·simp[h]
    ·simp[h]
   ·rw[if_neg hc,if_neg (fun h=>hc h.1),z0l]
 ·simp only[jn_eq,z0b,intle];by_cases hc:k≤j
  ·rw[if_pos hc];simp(disch:=omega) only[wadd1,zz1,zz4,z07,zz2,z33,zz0,z20,hc,true_and];unfold ltT;by_cases h:cmpT e[a]! e[k]! <0
   ·simp[h]
   ·simp[h]
  ·rw[if_neg hc,if_neg (fun h=>hc h.1),z0l]
theorem zl8 {a:Nat}: ∀(n i j:Nat) (d:Array Time),j+1-i≤n→1≤i→i≤d.size→j<d.size→(Sort.partLoop ltT a i j d).1≤j∧(Sort.partLoop ltT a i j d).2.size=d.size:=by
 intro n;induction n with
 |zero=>
  intro i j d hn hi hi2 hj;have u:=(z5p (fun x=>ltT x d[a]!) d j _ i (zzc _))
  have v:=z3i (fun x=> !ltT x d[a]!) d (Sort.scanUp (fun x=>ltT x d[a]!) d j i) j;rw[zao,if_pos (by omega)];exact⟨v,rfl⟩
 |succ n ih=>
  intro i j d hn hi hi2 hj;have u:=(z5p (fun x=>ltT x d[a]!) d j _ i (zzc _))
  have v:=z3i (fun x=> !ltT x d[a]!) d (Sort.scanUp (fun x=>ltT x d[a]!) d j i) j;rw[zao];generalize Sort.scanUp (fun x=>ltT x d[a]!) d j i=i2 at*;generalize Sort.scanDown (fun x=> !ltT x d[a]!) d i2 j=j2 at*;by_cases hc:i2>j2
  ·rw[if_pos hc];exact⟨v,rfl⟩
  ·rw[if_neg hc];have:=ih (i2+1) (j2-1) (Sort.swp d i2 j2) (by omega) (by omega) (by rw[z1f];omega) (by rw[z1f];omega);rw[z1f]at this;omega
theorem zm2 {fuel a b pivot:Nat}{d:Array Time}(hp:a≤pivot∧pivot<b)(hab:a+1<b)(hb:b≤d.size)(hd:d.size<1152921504606846976)(hf:d.size+2<fuel):
 z1y fuel (a:Int) (b:Int) (pivot:Int) d.toList=some (((Sort.partition ltT d a b pivot).1:Int),(Sort.partition ltT d a b pivot).2.1,(Sort.partition ltT d a b pivot).2.2.toList):=by
 unfold z1y Sort.partition;have w1:zzi.wrap ((a:Int)+1)=((a+1:Nat):Int):=wadd1 (by omega)
 have w2:zzi.wrap ((b:Int)-1)=((b-1:Nat):Int):=wsub1 (by omega) (by omega);rw[w1,w2];simp only[zz1,zz4,zz2,zze,z20,z3n];rw[z07 (by omega),z07 (by omega),z07 (by omega),z07 (by omega),z07 (by omega),z07 (by omega),z07 (by omega),z07 (by omega)];have hsz:=z1f d a pivot
 generalize Sort.swp d a pivot=e at*;have u:=(z5p (fun x=>ltT x e[a]!) e (b-1) _ (a+1) (zzc _))
 have v:=z3i (fun x=> !ltT x e[a]!) e (Sort.scanUp (fun x=>ltT x e[a]!) e (b-1) (a+1)) (b-1);rw[ze1 (R:=Empty) (fun i:Nat=>((i:Int),((b-1:Nat):Int))) (fun x=>ltT x e[a]!) e (j:=b-1) e.size (a+1) fuel (by omega) (by omega) (fun k h1 h2=>?_)]
 ·simp only[z2k];generalize Sort.scanUp (fun x=>ltT x e[a]!) e (b-1) (a+1)=i2 at*;rw[zbx (R:=Empty) (fun i:Nat=>(i:Int)) (fun x=> !ltT x e[a]!) e (i:=i2) (by omega) (b-1) fuel (by omega) (fun k h1=>?_)]
  ·simp only[z2k,z0b,intlt,gt_iff_lt];generalize Sort.scanDown (fun x=> !ltT x e[a]!) e i2 (b-1)=j2 at*;by_cases hc:j2<i2
   ·rw[if_pos hc,if_pos hc];simp(disch:=omega) only[zz1,zz4,z07,zz2,zze,z20,z3n]
   ·rw[if_neg hc,if_neg hc];have w3:zzi.wrap ((i2:Int)+1)=((i2+1:Nat):Int):=wadd1 (by omega);have w4:zzi.wrap ((j2:Int)-1)=((j2-1:Nat):Int):=wsub1 (by omega) (by omega)
    rw[w3,w4];simp only[zz1,zz4,zz2,zze,z20,z3n];rw[z07 (by omega),z07 (by omega),z07 (by omega),z07 (by omega),z07 (by omega),z07 (by omega),z07 (by omega),z07 (by omega)];have hsz2:=z1f e i2 j2
    generalize Sort.swp e i2 j2=f at*;refine zqv (zpj (a:=a) f.size (i2+1) (j2-1) fuel f (by omega) (by omega) (by omega) (by omega) (by omega) ?_) (fun x=>?_)
    ·intro i j g he hi hi2 hj;simp only;have u:=(z5p (fun x=>ltT x g[a]!) g j _ i (zzc _))
     have v:=z3i (fun x=> !ltT x g[a]!) g (Sort.scanUp (fun x=>ltT x g[a]!) g j i) j;rw[ze1 (R:=Empty) (fun i:Nat=>(i:Int)) (fun x=>ltT x g[a]!) g (j:=j) f.size i fuel (by omega) (by omega) (fun k h1 h2=>?_)]
     ·simp only[z2k];generalize Sort.scanUp (fun x=>ltT x g[a]!) g j i=i3 at*;rw[zbx (R:=Empty) (fun i:Nat=>(i:Int)) (fun x=> !ltT x g[a]!) g (i:=i3) (by omega) j fuel (by omega) (fun k h1=>?_)]
      ·simp only[z2k,z0b,intlt,gt_iff_lt];generalize Sort.scanDown (fun x=> !ltT x g[a]!) g i3 j=j3 at*;by_cases hc:j3<i3
       ·rw[if_pos hc,if_pos hc]
       ·rw[if_neg hc,if_neg hc];simp(disch:=omega) only[wsub1,wadd1,zz1,zz4,z07,zz2,zze,z20,z3n]
      ·simp only[jn_eq,z0b,intle];by_cases hc:i3≤k
       ·rw[if_pos hc];simp(disch:=omega) only[wsub1,zz1,zz4,z07,zz2,z33,zz0,z20,z0b,hc,true_and];unfold ltT;by_cases h:cmpT g[k]! g[a]! <0
        ·simp[h]
        ·simp[h]
       ·rw[if_neg hc,if_neg (fun h=>hc h.1),z0l]
     ·simp only[jn_eq,z0b,intle];by_cases hc:k≤j
      ·rw[if_pos hc];simp(disch:=omega) only[wadd1,zz1,zz4,z07,zz2,z33,zz0,z20,hc,true_and];unfold ltT;by_cases h:cmpT g[k]! g[a]! <0
       ·simp[h]
       ·simp[h]
      ·rw[if_neg hc,if_neg (fun h=>hc h.1),z0l]
    ·have hl:=zl8 (a:=a) f.size (i2+1) (j2-1) f (by omega) (by omega) (by omega) (by omega);generalize Sort.partLoop ltT a (i2+1) (j2-1) f=r at*;simp(disch:=omega) only[zz1,zz4,z07,zz2,zze,z20,z3n]
  ·simp only[jn_eq,z0b,intle];by_cases hc:i2≤k
   ·rw[if_pos hc];simp(disch:=omega) only[wsub1,zz1,zz4,z07,zz2,z33,zz0,z20,z0b,hc,true_and];unfold ltT;by_cases h:cmpT e[k]! e[a]! <0
    ·simp[h]
    ·simp[h]
   ·rw[if_neg hc,if_neg (fun h=>hc h.1),z0l]
 ·simp only[jn_eq,z0b,intle];by_cases hc:k≤b-1
  ·rw[if_pos hc];simp(disch:=omega) only[wadd1,zz1,zz4,z07,zz2,z33,zz0,z20,hc,true_and];unfold ltT;by_cases h:cmpT e[k]! e[a]! <0
   ·simp[h]
   ·simp[h]
  ·rw[if_neg hc,if_neg (fun h=>hc h.1),z0l]
end Go.Av
namespace Go.Av
open Go
theorem zd5: ∀(j:Nat) (d:Array Time),(Sort.shiftDown ltT j d).size=d.size
 |0,d=>rfl
 |j+1,d=>by
  unfold Sort.shiftDown;split
  ·rfl
  ·rw[zd5 j,z1f]
theorem zjy {B:Int×List Time→Option (Ctl (Int×List Time) Empty)}: ∀(j fuel:Nat) (d:Array Time),j<fuel→j<d.size→
 (∀(j:Nat) (d':Array Time),d'.size=d.size→j<d.size→B ((j:Int),d'.toList)=if 1≤j∧ltT d'[j]! d'[j-1]! =true then some (.next (((j-1:Nat):Int),(Sort.swp d' j (j-1)).toList))else some (.brk ((j:Int),d'.toList)))→
 ∃x:Int,loopN B fuel ((j:Int),d.toList)=some (.done (x,(Sort.shiftDown ltT j d).toList)):=by
 intro j;induction j with
 |zero=>
  intro fuel d hf hj hB;cases fuel with
  |zero=>omega
  |succ fuel=>
   have h:=hB 0 d rfl hj;rw[if_neg (by omega)]at h;rw[z11 h];exact⟨_,rfl⟩
 |succ j ih=>
  intro fuel d hf hj hB;cases fuel with
  |zero=>omega
  |succ fuel=>
   have h:=hB (j+1) d rfl hj;rw[Nat.add_sub_cancel]at h;unfold Sort.shiftDown;by_cases hc:ltT d[j+1]! d[j]! =true
   ·rw[if_pos ⟨by omega,hc⟩]at h;rw[z1i h,if_neg (by simp[hc])];exact ih fuel _ (by omega) (by rw[z1f];omega) (fun j' d' h1 h2=>hB j' d' (by rw[h1,z1f]) (by rw[z1f]at h2;exact h2))
   ·rw[if_neg (fun h=>hc h.2)]at h;rw[z11 h,if_pos (by simpa using hc)];exact⟨_,rfl⟩
theorem zok (b:Nat): ∀(n j:Nat) (d:Array Time),b-j≤n→(Sort.shiftUp ltT b j d).size=d.size:=by
 intro n;induction n with
 |zero=>intro j d hn;rw[Sort.shiftUp,if_neg (by omega)]
 |succ n ih=>
  intro j d hn;rw[Sort.shiftUp];split
  ·split
   ·rfl
   ·rw[ih _ _ (by omega),z1f]
  ·rfl
theorem zmg {B:Int×List Time→Option (Ctl (Int×List Time) Empty)}{b:Nat}: ∀(n j fuel:Nat) (d:Array Time),b-j≤n→n<fuel→1≤j→b≤d.size→
 (∀(j:Nat) (d':Array Time),d'.size=d.size→1≤j→B ((j:Int),d'.toList)=if j<b∧ltT d'[j]! d'[j-1]! =true then some (.next (((j+1:Nat):Int),(Sort.swp d' j (j-1)).toList))else some (.brk ((j:Int),d'.toList)))→
 ∃x:Int,loopN B fuel ((j:Int),d.toList)=some (.done (x,(Sort.shiftUp ltT b j d).toList)):=by
 intro n;induction n with
 |zero=>
  intro j fuel d hn hf hj hb hB;cases fuel with
  |zero=>omega
  |succ fuel=>
   have h:=hB j d rfl hj;rw[if_neg (by omega)]at h;rw[z11 h,Sort.shiftUp,if_neg (by omega)];exact⟨_,rfl⟩
 |succ n ih=>
  intro j fuel d hn hf hj hb hB;cases fuel with
  |zero=>omega
  |succ fuel=>
   have h:=hB j d rfl hj;rw[Sort.shiftUp];by_cases hjb:j<b
   ·rw[if_pos hjb];by_cases hc:ltT d[j]! d[j-1]! =true
    ·rw[if_pos ⟨hjb,hc⟩]at h;rw[z1i h,if_neg (by simp[hc])];exact ih _ fuel _ (by omega) (by omega) (by omega) (by rw[z1f];omega) (fun j' d' h1 h2=>hB j' d' (by rw[h1,z1f]) h2)
    ·rw[if_neg (fun h=>hc h.2)]at h;rw[z11 h,if_pos (by simpa using hc)];exact⟨_,rfl⟩
   ·rw[if_neg (fun h=>hjb h.1)]at h;rw[z11 h,if_neg hjb];exact⟨_,rfl⟩
theorem zdm {B:Int→Option (Ctl Int Empty)}{b:Nat}{d:Array Time}: ∀(n i fuel:Nat),b-i≤n→n<fuel→1≤i→
 (∀(i':Nat),i≤i'→B (i':Int)=if i'<b∧ltT d[i']! d[i'-1]! =false then some (.next ((i'+1:Nat):Int))else some (.brk (i':Int)))→
 loopN B fuel (i:Int)=some (.done ((Sort.scanSorted ltT d b i:Nat):Int))∧i≤Sort.scanSorted ltT d b i∧(i≤b→Sort.scanSorted ltT d b i≤b):=by
 intro n;induction n with
 |zero=>
  intro i fuel hn hf hi hB;cases fuel with
  |zero=>omega
  |succ fuel=>
   have h:=hB i (zzc _);rw[if_neg (by omega)]at h;rw[z11 h,Sort.scanSorted,if_neg (by simp;omega)];exact⟨rfl,zzc _,fun h=>h⟩
 |succ n ih=>
  intro i fuel hn hf hi hB;cases fuel with
  |zero=>omega
  |succ fuel=>
   have h:=hB i (zzc _);rw[Sort.scanSorted];by_cases hc:i<b∧ltT d[i]! d[i-1]! =false
   ·rw[if_pos hc]at h;rw[z1i h,if_pos (by simpa using hc)];obtain⟨h1,h2,h3⟩:=ih (i+1) fuel (by omega) (by omega) (by omega) (fun i' h=>hB i' (by omega));exact⟨h1,by omega,fun h=>h3 (by omega)⟩
   ·rw[if_neg hc]at h;rw[z11 h,if_neg (by simpa using hc)];exact⟨rfl,zzc _,fun h=>h⟩
def zep (a b i:Nat)(d:Array Time):Array Time:=
 let d:=Sort.swp d i (i-1)
 let d:=if i-a≥2 then Sort.shiftDown ltT (i-1) d else d
 if b-i≥2 then Sort.shiftUp ltT b (i+1) d else d
theorem zf8 (a b i:Nat)(d:Array Time):(zep a b i d).size=d.size:=by
 unfold zep;dsimp only;split<;>split<;>simp[zok b b _ _ (Nat.sub_le _ _),zd5,z1f]
theorem zeo (a b s i:Nat)(d:Array Time):Sort.partialIns ltT a b (s+1) i d=
 if Sort.scanSorted ltT d b i=b then(d,true)else if b-a<50 then(d,false)else Sort.partialIns ltT a b s (Sort.scanSorted ltT d b i) (zep a b (Sort.scanSorted ltT d b i) d):=rfl
theorem zqy {B:Int×Int×List Time→Option (Ctl (Int×Int×List Time) (Bool×List Time))}{a b:Nat}{Q:Type}{kn:Int×Int×List Time→Option Q}{kr:Bool×List Time→Option Q}{q:Option Q}: ∀(s i fuel:Nat) (d:Array Time),s≤5→s<fuel→a<i→i≤b→
 (∀(i:Nat) (d':Array Time),d'.size=d.size→a<i→i≤b→i≤Sort.scanSorted ltT d' b i∧Sort.scanSorted ltT d' b i≤b)→
 (∀(s i:Nat) (d':Array Time),d'.size=d.size→s≤5→a<i→i≤b→B ((i:Int),((5-s:Nat):Int),d'.toList)=match s with
  |0=>some (.brk ((i:Int),5,d'.toList))
  |s+1=>if Sort.scanSorted ltT d' b i=b then some (.ret (true,d'.toList))else if b-a<50 then some (.ret (false,d'.toList))else some (.next (((Sort.scanSorted ltT d' b i:Nat):Int),((5-s:Nat):Int),(zep a b (Sort.scanSorted ltT d' b i) d').toList)))→
 (∀x,(Sort.partialIns ltT a b s i d).2=false→kn (x,5,(Sort.partialIns ltT a b s i d).1.toList)=q)→(kr ((Sort.partialIns ltT a b s i d).2,(Sort.partialIns ltT a b s i d).1.toList)=q)→
 outK (loopN B fuel ((i:Int),((5-s:Nat):Int),d.toList)) kn kr=q:=by
 intro s;induction s with
 |zero=>
  intro i fuel d hs hf hi hib hsc hB hkn hkr;cases fuel with
  |zero=>omega
  |succ fuel=>
   rw[z11 (hB 0 i d rfl hs hi hib)];exact hkn _ rfl
 |succ s ih=>
  intro i fuel d hs hf hi hib hsc hB hkn hkr;cases fuel with
  |zero=>omega
  |succ fuel=>
   have h:=hB (s+1) i d rfl hs hi hib;simp only at h;rw[zeo]at hkn hkr;have hb:=hsc i d rfl hi hib
   by_cases h1:Sort.scanSorted ltT d b i=b
   ·rw[if_pos h1]at h;rw[z8f h];rw[if_pos h1]at hkr;exact hkr
   ·rw[if_neg h1]at h hkn hkr;by_cases h2:b-a<50
    ·rw[if_pos h2]at h;rw[z8f h];rw[if_pos h2]at hkr;exact hkr
    ·rw[if_neg h2]at h hkn hkr;rw[z1i h];exact ih _ fuel _ (by omega) (by omega) (by omega) (by omega) (fun i' d' h1 h2 h3=>hsc i' d' (by rw[h1,zf8]) h2 h3) (fun s' i' d' h1 h2 h3 h4=>hB s' i' d' (by rw[h1,zf8]) h2 h3 h4) hkn hkr
theorem zdc {fuel a b:Nat}{d:Array Time}(hab:a<b)(hb:b≤d.size)(hd:d.size<1152921504606846976)(hf:d.size+10<fuel):
 z0z fuel (a:Int) (b:Int) d.toList=some ((Sort.partialInsertionSort ltT d a b).2,(Sort.partialInsertionSort ltT d a b).1.toList):=by
 unfold z0z Sort.partialInsertionSort;rw[wadd1 (by omega)];refine zqy (a:=a) (b:=b) 5 (a+1) fuel d (by omega) (by omega) (by omega) (by omega) ?_ ?_ (fun x h=>by rw[h]) rfl
 ·intro i e he h1 h2;have:=(zdm (B:=fun x=>if x.toNat<b∧ltT e[x.toNat]! e[x.toNat-1]! =false then some (.next ((x.toNat+1:Nat):Int))else some (.brk (x.toNat:Int))) (b:=b) (d:=e) b i (b+1) (by omega) (by omega) (by omega) (fun i' h=>by simp only[zz1]))
  exact⟨this.2.1,this.2.2 h2⟩
 ·intro s i e he hs hi hib;cases s with
  |zero=>rfl
  |succ s=>
   simp only[z0b,jn_eq];rw[if_pos (show((5-(s+1):Nat):Int)<5 by omega)];obtain⟨g1,g2,g3⟩:=zdm (B:=fun(a5:Int)=>if(a5<(b:Int))then(need ((0:Int)≤a5∧a5<(e.toList.length:Int))<|need ((0+a5.toNat)<e.toList.length)<|need ((0:Int)≤(zzi.wrap (a5-1))∧(zzi.wrap (a5-1))<(e.toList.length:Int))<|need ((0+(zzi.wrap (a5-1)).toNat)<e.toList.length)<|(z1h (e.toList.getD (0+a5.toNat) zzd) (e.toList.getD (0+(zzi.wrap (a5-1)).toNat) zzd)).bind fun r54=>bf (!(decide (r54<0))) (some (.next (zzi.wrap (a5+1)))) (some (.brk a5)))else(bf false (some (.next (zzi.wrap (a5+1)))) (some (.brk a5)))) (b:=b) (d:=e) b i fuel (by omega) (by omega) (by omega) (fun k hk=>by
    simp only[jn_eq,intlt];by_cases hc:k<b
    ·rw[if_pos hc];simp(disch:=omega) only[wsub1,wadd1,zz1,zz4,z07,zz2,z33,zz0,z20,hc,true_and];unfold ltT;by_cases h:cmpT e[k]! e[k-1]! <0
     ·simp[h]
     ·simp[h]
    ·rw[if_neg hc,if_neg (fun h=>hc h.1),z0l])
   rw[g1];simp only[z2k];have g3:=g3 hib
   generalize Sort.scanSorted ltT e b i=i2 at*;by_cases h1:i2=b
   ·rw[if_pos h1,if_pos (by omega)]
   ·rw[if_neg h1,if_neg (by omega),wsub (by omega) (by omega)];by_cases h2:b-a<50
    ·rw[if_pos h2,if_pos (by omega)]
    ·rw[if_neg h2,if_neg (by omega)];have w1:zzi.wrap ((i2:Int)+1)=((i2+1:Nat):Int):=wadd1 (by omega);have w2:zzi.wrap ((i2:Int)-1)=((i2-1:Nat):Int):=wsub1 (by omega) (by omega)
     have w3:zzi.wrap ((i2:Int)-(a:Int))=((i2-a:Nat):Int):=wsub (by omega) (by omega);have w4:zzi.wrap ((b:Int)-(i2:Int))=((b-i2:Nat):Int):=wsub (by omega) (by omega)
     have w5:zzi.wrap (((5-(s+1):Nat):Int)+1)=((5-s:Nat):Int):=by rw[wadd1 (by omega)];omega
     simp only[w1,w2,w3,w4,w5,zz1,zz4,zz2,zze,z20,z3n,jn_eq];rw[z07 (by omega),z07 (by omega),z07 (by omega),z07 (by omega),z07 (by omega),z07 (by omega),z07 (by omega),z07 (by omega)];unfold zep;dsimp only;have hsz:=z1f e i2 (i2-1)
     generalize Sort.swp e i2 (i2-1)=f at*;have up: ∀g:Array Time,g.size=e.size→(if(2:Int)≤((b-i2:Nat):Int)then(outK (loopN (S:=Int×(List Time)) (R:=Empty) (fun(a17:Int×(List Time))=>if(a17.1<(b:Int))then(need ((0:Int)≤a17.1∧a17.1<(a17.2.length:Int))<|need (a17.1.toNat<a17.2.length)<|need ((0:Int)≤(zzi.wrap (a17.1-1))∧(zzi.wrap (a17.1-1))<(a17.2.length:Int))<|need ((zzi.wrap (a17.1-1)).toNat<a17.2.length)<|(z1h (a17.2.getD a17.1.toNat zzd) (a17.2.getD (zzi.wrap (a17.1-1)).toNat zzd)).bind fun r23=>bf (!(decide (r23<0))) (some (.brk (a17.1,a17.2))) (need ((0:Int)≤(zzi.wrap (a17.1-1))∧(zzi.wrap (a17.1-1))<(a17.2.length:Int))<|need ((zzi.wrap (a17.1-1)).toNat<a17.2.length)<|need ((0:Int)≤a17.1∧a17.1<(a17.2.length:Int))<|need (a17.1.toNat<a17.2.length)<|need ((0:Int)≤a17.1∧a17.1<(a17.2.length:Int))<|need (a17.1.toNat<a17.2.length)<|need ((0:Int)≤(zzi.wrap (a17.1-1))∧(zzi.wrap (a17.1-1))<(a17.2.length:Int))<|need ((zzi.wrap (a17.1-1)).toNat<a17.2.length)<|some (.next ((zzi.wrap (a17.1+1)),((a17.2.set a17.1.toNat (a17.2.getD (zzi.wrap (a17.1-1)).toNat zzd)).set (zzi.wrap (a17.1-1)).toNat (a17.2.getD a17.1.toNat zzd))))))else(some (.brk (a17.1,a17.2)))) fuel (((i2+1:Nat):Int),g.toList)) (fun(a18:Int×(List Time))=>some (Ctl.next ((i2:Int),((5-s:Nat):Int),a18.2))) (fun(x:Empty)=>x.elim))else some (Ctl.next ((i2:Int),((5-s:Nat):Int),g.toList)))=(some (Ctl.next ((i2:Int),((5-s:Nat):Int),(if b-i2≥2 then Sort.shiftUp ltT b (i2+1) g else g).toList)):Option (Ctl (Int×Int×List Time) (Bool×List Time))):=fun g hg=>by
      by_cases h3:b-i2≥2
      ·rw[if_pos h3,if_pos (by omega)];refine z87 (zmg (b:=b) b (i2+1) fuel g (by omega) (by omega) (by omega) (by omega) ?_) (fun x=>rfl);intro j g' hg' hj;simp only[intlt];by_cases hc:j<b
       ·rw[if_pos hc];simp(disch:=omega) only[wsub1,wadd1,zz1,zz4,z07,zz2,zze,z33,zz0,z20,z3n,hc,true_and];unfold ltT;by_cases h:cmpT g'[j]! g'[j-1]! <0
        ·simp[h]
        ·simp[h]
       ·rw[if_neg hc,if_neg (fun h=>hc h.1)]
      ·rw[if_neg h3,if_neg (by omega)]
     by_cases h4:i2-a≥2
     ·rw[if_pos h4,if_pos (by omega)];refine z87 (zjy (i2-1) fuel f (by omega) (by omega) ?_) (fun x=>?_)
      ·intro j g' hg' hj;by_cases hc:1≤j
       ·simp only[show((1:Int)≤(j:Int))=True from eq_true (by omega),if_true];simp(disch:=omega) only[wsub1,wadd1,zz1,zz4,z07,zz2,zze,z33,zz0,z20,z3n,hc,true_and];unfold ltT;by_cases h:cmpT g'[j]! g'[j-1]! <0
        ·simp[h]
        ·simp[h]
       ·rw[if_neg (by simp only;omega),if_neg (fun h=>hc h.1)]
      ·exact up (Sort.shiftDown ltT (i2-1) f) (by rw[zd5];omega)
     ·rw[if_neg h4,if_neg (by omega)];exact up f (by omega)
end Go.Av
namespace Go.Av
open Go
theorem zrs: ∀x:Fin 256,∃l:Fin 9,bt z3u (x.val:Int)=(l.val:Int)∧x.val<2^l.val∧(x.val=0→l.val=0)∧(x.val≠0→2^(l.val-1)≤x.val∧0<l.val):=by decide+kernel
def IsLen (n L:Nat):Prop:=n<2^L∧(n=0→L=0)∧(n≠0→2^(L-1)≤n∧0<L)
theorem IsLen.shift {n L s:Nat}(h:IsLen (n / 2^s) L)(hn:2^s≤n):IsLen n (L+s):=by
 obtain⟨h1,h2,h3⟩:=h;have hp:0<2^s:=Nat.pow_pos (by decide)
 have hq:n / 2^s≠0:=Nat.ne_of_gt (Nat.div_pos hn hp);obtain⟨h4,h5⟩:=h3 hq;refine⟨?_,fun h=>by omega,fun _=>⟨?_,by omega⟩⟩
 ·rw[Nat.pow_add];exact(Nat.div_lt_iff_lt_mul hp).1 h1
 ·rw[show L+s-1=(L-1)+s by omega,Nat.pow_add];exact(Nat.le_div_iff_mul_le hp).1 h4
theorem zqk {n:Nat}(h:n<2^64): ∃L:Nat,z7s (n:Int)=some (L:Int)∧IsLen n L∧L≤64:=by
 have last: ∀(x b:Nat),x<256→b≤56→ ∃L:Nat,(need ((0:Int)≤(IntKind.u8.wrap (x:Int))∧(IntKind.u8.wrap (x:Int))<(z3u.size:Int))<|some (zzi.wrap ((b:Int)+(zzi.wrap (bt z3u (IntKind.u8.wrap (x:Int)))))))=some ((L+b:Nat):Int)∧IsLen x L∧L≤8:=fun x b hx hb=>by
  obtain⟨l,h1,h2,h3,h4⟩:=zrs ⟨x,hx⟩;have e:IntKind.u8.wrap (x:Int)=(x:Int):=uwrap (k:= .u8) rfl hx
  have hsz:z3u.size=256:=by decide+kernel
  rw[e,hsz,z07 (by omega),h1];have hl:=l.isLt;refine⟨l.val,?_,⟨h2,h3,h4⟩,by omega⟩;rw[z2b (n:=(l.val:Int)) (by omega) (by omega),z2b (by omega) (by omega)];exact congrArg some (by omega)
 have s8: ∀x:Nat,shrOp .u64 (x:Int) 8=((x / 2^8:Nat):Int):=fun x=>zet .u64 x 8 (by decide);have s16: ∀x:Nat,shrOp .u64 (x:Int) 16=((x / 2^16:Nat):Int):=fun x=>zet .u64 x 16 (by decide)
 have s32: ∀x:Nat,shrOp .u64 (x:Int) 32=((x / 2^32:Nat):Int):=fun x=>zet .u64 x 32 (by decide);have p8: ∀(x b:Nat),x<65536→b≤48→ ∃L:Nat,bf (decide (256≤(x:Int))) (need ((0:Int)≤(IntKind.u8.wrap (shrOp .u64 (x:Int) 8))∧(IntKind.u8.wrap (shrOp .u64 (x:Int) 8))<(z3u.size:Int))<|some (zzi.wrap ((zzi.wrap ((b:Int)+8))+(zzi.wrap (bt z3u (IntKind.u8.wrap (shrOp .u64 (x:Int) 8))))))) (need ((0:Int)≤(IntKind.u8.wrap (x:Int))∧(IntKind.u8.wrap (x:Int))<(z3u.size:Int))<|some (zzi.wrap ((b:Int)+(zzi.wrap (bt z3u (IntKind.u8.wrap (x:Int)))))))=some ((L+b:Nat):Int)∧IsLen x L∧L≤16:=fun x b hx hb=>by
  rw[z0b];by_cases h1:256≤(x:Int)
  ·rw[if_pos h1,s8,z2b (n:=(b:Int)+8) (by omega) (by omega)];obtain⟨L,g1,g2,g3⟩:=last (x / 2^8) (b+8) (by omega) (by omega);rw[show((b+8:Nat):Int)=(b:Int)+8 by omega]at g1;refine⟨L+8,?_,g2.shift (by omega),by omega⟩;exact g1.trans (congrArg some (by omega))
  ·rw[if_neg h1];obtain⟨L,g1,g2,g3⟩:=last x b (by omega) (by omega);exact⟨L,g1,g2,by omega⟩
 unfold z7s;simp only[jn_eq];by_cases h1:4294967296≤(n:Int)
 ·rw[z0b,if_pos h1,s32,z0b];by_cases h2:65536≤((n / 2^32:Nat):Int)
  ·rw[if_pos h2,s16,show zzi.wrap (32+16)=((48:Nat):Int)from by decide];obtain⟨L,g1,g2,g3⟩:=p8 (n / 2^32 / 2^16) 48 (by omega) (by omega);refine⟨L+48,g1,?_,by omega⟩;have:=(g2.shift (by omega)).shift (n:=n) (s:=32) (by omega)
   rw[Nat.add_assoc]at this;exact this
  ·rw[if_neg h2];obtain⟨L,g1,g2,g3⟩:=p8 (n / 2^32) 32 (by omega) (by omega);exact⟨L+32,g1,g2.shift (by omega),by omega⟩
 ·rw[z0b,if_neg h1,z0b];by_cases h2:65536≤(n:Int)
  ·rw[if_pos h2,s16,show zzi.wrap (0+16)=((16:Nat):Int)from by decide];obtain⟨L,g1,g2,g3⟩:=p8 (n / 2^16) 16 (by omega) (by omega);exact⟨L+16,g1,g2.shift (by omega),by omega⟩
  ·rw[if_neg h2];obtain⟨L,g1,g2,g3⟩:=p8 n 0 (by omega) (by omega);exact⟨L,by rw[show((0:Nat):Int)=0 from rfl]at g1;exact g1,g2,by omega⟩
theorem zqm {n L K:Nat}(h:IsLen n L)(g:IsLen n K):L=K:=by
 obtain⟨h1,h2,h3⟩:=h;obtain⟨g1,g2,g3⟩:=g;by_cases h0:n=0
 ·rw[h2 h0,g2 h0]
 ·obtain⟨h4,h5⟩:=h3 h0;obtain⟨g4,g5⟩:=g3 h0;rcases Nat.lt_trichotomy L K with e|e|e
  ·have:=Nat.pow_le_pow_right (n:=2) (by decide) (show L≤K-1 by omega);omega
  ·exact e
  ·have:=Nat.pow_le_pow_right (n:=2) (by decide) (show K≤L-1 by omega);omega
theorem zo0 (n:Nat):IsLen n (Sort.bitsLen n):=by
 refine⟨Sort.lt_two_pow_bitsLen n,fun h=>by rw[h];rfl,fun h=>?_⟩;have hp:0<Sort.bitsLen n:=by unfold Sort.bitsLen;rw[if_neg h];omega
 refine⟨?_,hp⟩;have:=mt (Sort.bitsLen_le_iff n (Sort.bitsLen n-1)).2 (by omega)
 omega
theorem zij {n k:Nat}(h:n<2^k):Sort.bitsLen n≤k:=(Sort.bitsLen_le_iff n k).2 h
theorem zpc {n:Nat}(h:n<2^64):z7i (n:Int)=some ((Sort.bitsLen n:Nat):Int):=by
 unfold z7i;have e:zzu.wrap (n:Int)=(n:Int):=uwrap (k:= .u64) rfl h
 obtain⟨L,e1,e2,_⟩:=zqk h;rw[show Sort.bitsLen n=L from zqm (zo0 n) e2]
 first
  |rw[e,e1];rfl
  |(rw[e1];rfl)
end Go.Av
namespace Go.Av
open Go
theorem zrv {x:Nat}(h:x<2^64):z51 (x:Int)=some (((Sort.xorNextN x:Nat):Int),((Sort.xorNextN x:Nat):Int)):=by
 unfold z51;have s13: ∀y:Nat,shlOp .u64 (y:Int) 13=((y*8192 % 18446744073709551616:Nat):Int):=fun y=>by
  have:=zjz (k:= .u64) y 13 (by decide);rw[show((13:Nat):Int)=13 from rfl]at this;rw[this,z9z];omega
 have s17: ∀y:Nat,shlOp .u64 (y:Int) 17=((y*131072 % 18446744073709551616:Nat):Int):=fun y=>by
  have:=zjz (k:= .u64) y 17 (by decide);rw[show((17:Nat):Int)=17 from rfl]at this;rw[this,z9z];omega
 have s7: ∀y:Nat,shrOp .u64 (y:Int) 7=((y / 128:Nat):Int):=fun y=>zet .u64 y 7 (by decide);have ha:x^^^(x*8192 % 18446744073709551616)<2^64:=Nat.xor_lt_two_pow h (by omega)
 have hb:(x^^^(x*8192 % 18446744073709551616))^^^((x^^^(x*8192 % 18446744073709551616)) / 128)<2^64:=Nat.xor_lt_two_pow ha (by omega);rw[s13,zk3 (k:= .u64) rfl h (show x*8192 % 18446744073709551616<2^64 by omega),s7,zk3 (k:= .u64) rfl ha (show(x^^^(x*8192 % 18446744073709551616)) / 128<2^64 by omega),s17,zk3 (k:= .u64) rfl hb (show((x^^^(x*8192 % 18446744073709551616))^^^((x^^^(x*8192 % 18446744073709551616)) / 128))*131072 % 18446744073709551616<2^64 by omega)];rfl
theorem zg9 (a l m:Nat)(st:UInt64×Array Time)(i:Nat):(Sort.breakStep a l m st i).2.size=st.2.size:=by
 unfold Sort.breakStep;exact z1f _ _ _
theorem zop {l:Nat}(h:l<1152921504606846976):Sort.bitsLen l≤60:=zij h
theorem zo1 {B:Int×Int×Int×List Time→Option (Ctl (Int×Int×Int×List Time) Empty)}{a b l M fuel K:Nat}{d:Array Time}{r0:UInt64}{n0:Nat}(h0:r0.toNat=n0){Q:Type}{kn:Int×Int×Int×List Time→Option Q}{kr:Empty→Option Q}{q:Option Q}(hf:4<fuel)(hK0:1≤K)(hK:a≤K-1)(hK2:K+1<b)(hb:b≤d.size)
 (hB: ∀(k:Nat) (r:UInt64) (e:Array Time),e.size=d.size→a≤k→k≤K+1→k<b→B ((n0:Int),(k:Int),(r.toNat:Int),e.toList)=some (.next ((n0:Int),((k+1:Nat):Int),((Sort.breakStep a l M (r,e) k).1.toNat:Int),(Sort.breakStep a l M (r,e) k).2.toList)))
 (hE: ∀(r:UInt64) (e:Array Time),B ((n0:Int),((K+2:Nat):Int),(r.toNat:Int),e.toList)=some (.brk ((n0:Int),((K+2:Nat):Int),(r.toNat:Int),e.toList)))
 (hk: ∀x y z,kn (x,y,z,(Sort.breakStep a l M (Sort.breakStep a l M (Sort.breakStep a l M (r0,d) (K-1)) (K-1+1)) (K-1+2)).2.toList)=q):
 outK (loopN B fuel ((n0:Int),((K-1:Nat):Int),(n0:Int),d.toList)) kn kr=q:=by
 subst h0;obtain⟨f,rfl⟩: ∃f,fuel=f+1+1+1+1:=⟨fuel-4,by omega⟩;have s1:=zg9 a l M (r0,d) (K-1)
 have s2:=zg9 a l M (Sort.breakStep a l M (r0,d) (K-1)) (K-1+1);have h1:=hB (K-1) r0 d rfl (by omega) (by omega) (by omega)
 have h2:=hB (K-1+1) (Sort.breakStep a l M (r0,d) (K-1)).1 (Sort.breakStep a l M (r0,d) (K-1)).2 s1 (by omega) (by omega) (by omega);have h3:=hB (K-1+1+1) (Sort.breakStep a l M (Sort.breakStep a l M (r0,d) (K-1)) (K-1+1)).1 (Sort.breakStep a l M (Sort.breakStep a l M (r0,d) (K-1)) (K-1+1)).2 (s2.trans s1) (by omega) (by omega) (by omega)
 rw[z1i h1,z1i h2,z1i h3,show K-1+1+1+1=K+2 by omega,z11 (hE _ _)];exact hk _ _ _
theorem zhw {fuel a b:Nat}{d:Array Time}(hab:a<b)(hb:b≤d.size)(hd:d.size<1152921504606846976)(hf:4<fuel):
 z1k fuel (a:Int) (b:Int) d.toList=some (Sort.breakPatterns d a b).toList:=by
 unfold z1k Sort.breakPatterns;have e0:zzi.wrap ((b:Int)-(a:Int))=((b-a:Nat):Int):=wsub (by omega) (by omega)
 simp only[e0,z0b];by_cases h8:b-a≥8
 ·rw[if_pos h8,if_pos (by omega)];have hL:=zop (l:=b-a) (by omega);have hLl:=Sort.lt_two_pow_bitsLen (b-a)
  have hLu:=Sort.two_pow_bitsLen_le (n:=b-a) (by omega);have hp:2^Sort.bitsLen (b-a)≤2^60:=Nat.pow_le_pow_right (by decide) hL
  have hm:z5a ((b-a:Nat):Int)=some ((2^Sort.bitsLen (b-a):Nat):Int):=by
   unfold z5a;have e:zzu.wrap ((b-a:Nat):Int)=((b-a:Nat):Int):=uwrap (k:= .u64) rfl (show b-a<2^64 by omega)
   rw[e,zpc (by omega),zz0,z07 (by omega)];have:=zjz (k:= .u64) 1 (Sort.bitsLen (b-a)) (by show Sort.bitsLen (b-a)≤64;omega);rw[show((1:Nat):Int)=1 from rfl,Nat.one_mul]at this;rw[this,uwrap (k:= .u64) rfl (show 2^Sort.bitsLen (b-a)<2^64 by omega)]
  rw[hm,zz0,Nat.one_shiftLeft];generalize 2^Sort.bitsLen (b-a)=M at*;have e1:zzi.wrap (((b-a:Nat):Int).tdiv 4)=(((b-a) / 4:Nat):Int):=by rw[Int.tdiv_eq_ediv_of_nonneg (by omega),z2b (by omega) (by omega)];omega
  have e2:zzi.wrap ((((b-a) / 4:Nat):Int)*2)=(((b-a) / 4*2:Nat):Int):=by rw[z2b (by omega) (by omega)];omega
  have e3:zzi.wrap ((a:Int)+(((b-a) / 4*2:Nat):Int))=((a+(b-a) / 4*2:Nat):Int):=wadd (by omega);have e4:zzi.wrap (((a+(b-a) / 4*2:Nat):Int)-1)=((a+(b-a) / 4*2-1:Nat):Int):=wsub1 (by omega) (by omega)
  have e5:zzi.wrap (((a+(b-a) / 4*2:Nat):Int)+1)=((a+(b-a) / 4*2+1:Nat):Int):=wadd1 (by omega);have e6:zzi.wrap ((b-a:Nat):Int)=((b-a:Nat):Int):=z6y (by unfold in64;omega)
  have e7:zzu.wrap ((b-a:Nat):Int)=((b-a:Nat):Int):=uwrap (k:= .u64) rfl (show b-a<2^64 by omega);have e8:zzu.wrap ((M:Int)-1)=((M-1:Nat):Int):=by rw[z9z];omega
  simp only[e1,e2,e3,e4,e7,e8,jn_eq];have hr0:(UInt64.ofNat (b-a)).toNat=b-a:=by rw[UInt64.toNat_ofNat'];omega
  refine zo1 (r0:=UInt64.ofNat (b-a)) (n0:=b-a) hr0 (a:=a) (l:=(b-a)) (M:=M) (b:=b) (K:=a+(b-a) / 4*2) hf (by omega) (by omega) (by omega) hb ?_ ?_ (fun x y z=>by dsimp only)
  ·intro k r e he hk1 hk2 hk3;simp only;rw[if_pos (show(k:Int)≤_ by rw[e1,e2,e3,e5];omega)];have hr:=UInt64.toNat_lt r
   rw[zrv (by omega),zz0];unfold Sort.breakStep;dsimp only;rw[Sort.xorNext_toNat];have hx:=Sort.xorNextN_lt r.toNat (by omega)
   have ea:z0v .and .u64 ((Sort.xorNextN r.toNat:Nat):Int) ((M-1:Nat):Int)=((Sort.xorNextN r.toNat &&& (M-1):Nat):Int):=zrf (k:= .u64) rfl (show _<2^64 by omega) (show M-1<2^64 by omega);have hal:Sort.xorNextN r.toNat &&& (M-1)≤M-1:=Nat.and_le_right
   rw[ea];generalize Sort.xorNextN r.toNat &&& (M-1)=o at*;have eo:zzi.wrap (o:Int)=(o:Int):=z6y (by unfold in64;omega)
   rw[eo];have w1:zzi.wrap ((k:Int)+1)=((k+1:Nat):Int):=wadd1 (by omega);by_cases ho:o≥b-a
   ·have w2:zzi.wrap ((o:Int)-((b-a:Nat):Int))=((o-(b-a):Nat):Int):=wsub (by omega) (by omega);have w3:zzi.wrap ((a:Int)+((o-(b-a):Nat):Int))=((a+(o-(b-a)):Nat):Int):=wadd (by omega)
    rw[if_pos ho,if_pos (by omega),w1,w2,w3];simp(disch:=omega) only[zz1,zz4,z07,zz2,zze,z20,z3n]
   ·have w3:zzi.wrap ((a:Int)+(o:Int))=((a+o:Nat):Int):=wadd (by omega);rw[if_neg ho,if_neg (by omega),w1,w3];simp(disch:=omega) only[zz1,zz4,z07,zz2,zze,z20,z3n]
  ·intro r e;simp only;rw[if_neg (show ¬((a+(b-a) / 4*2+2:Nat):Int)≤_ by rw[e1,e2,e3,e5];omega)]
 ·rw[if_neg h8,if_neg (by omega)]
end Go.Av
namespace Go.Av
open Go
abbrev PdqS:=Int×Int×Int×Bool×Bool×(List Time)
def pK12 (fuel : Nat) (a b : Int) (lim len : Int) (pivot : Int) (wb wp : Bool) (l : List Time) (x : Bool) : Option (Ctl PdqS (List Time)) :=
  bf x ((                                         z1j fuel a b pivot l).bind fun r14 => need (r14.2.length = l.length) <| some (.next (r14.1, b, lim, wb, wp, r14.2)))
    ((                                    z1y fuel a b pivot l).bind fun r16 => need (r16.2.2.length = l.length) <| bf (decide ((        zzi.wrap (r16.1 - a)) < (        zzi.wrap (b - r16.1))))
      ((                                  z0t fuel a r16.1 lim r16.2.2).bind fun r18 => need (r18.length = r16.2.2.length) <| some (.next ((        zzi.wrap (r16.1 + 1)), b, lim, (decide ((        zzi.wrap (len.tdiv 8)) ≤ (        zzi.wrap (r16.1 - a)))), r16.2.1, r18)))
      ((                                  z0t fuel (        zzi.wrap (r16.1 + 1)) b lim r16.2.2).bind fun r20 => need (r20.length = r16.2.2.length) <| some (.next (a, r16.1, lim, (decide ((        zzi.wrap (len.tdiv 8)) ≤ (        zzi.wrap (b - r16.1)))), r16.2.1, r20))))
def pK10 (fuel:Nat)(a b:Int)(lim len:Int)(pivot:Int)(wb wp:Bool)(l:List Time):Option (Ctl PdqS (List Time)):=
 jn (fun(a12:Bool)=>pK12 fuel a b lim len pivot wb wp l a12) fun j13=>bf (decide (0<a)) (need ((0:Int)≤(zzi.wrap (a-1))∧(zzi.wrap (a-1))<(l.length:Int))<|need ((0+(zzi.wrap (a-1)).toNat)<l.length)<|need ((0:Int)≤pivot∧pivot<(l.length:Int))<|need ((0+pivot.toNat)<l.length)<|(z1h (l.getD (0+(zzi.wrap (a-1)).toNat) zzd) (l.getD (0+pivot.toNat) zzd)).bind fun r27=>j13 (!(decide (r27<0)))) (j13 false)
def pK8 (fuel:Nat)(a b:Int)(lim len:Int)(wb wp:Bool)(pivot hint:Int)(l:List Time):Option (Ctl PdqS (List Time)):=
 jn (fun(a10:Bool×Bool×(List Time))=>pK10 fuel a b lim len pivot a10.1 a10.2.1 a10.2.2) fun j11=>jn (fun(a28:Bool×Bool×Bool)=>bf a28.2.2 ((z0z fuel a b l).bind fun r30=>need (r30.2.length=l.length)<|bf r30.1 (some (.ret r30.2)) (j11 (a28.1,a28.2.1,r30.2))) (j11 (a28.1,a28.2.1,l))) fun j29=>bf wb (bf wp (j29 (true,true,(decide (hint=1)))) (j29 (true,false,false))) (j29 (false,wp,false))
def pK5 (fuel:Nat)(a b:Int)(wb wp:Bool)(lim len:Int)(l:List Time):Option (Ctl PdqS (List Time)):=
 (z1x l a b).bind fun r7=>jn (fun(a8:Int×Int×(List Time))=>pK8 fuel a b lim len wb wp a8.1 a8.2.1 a8.2.2) fun j9=>bf (decide (r7.2=2)) ((z1r fuel a b l).bind fun r32=>need (r32.length=l.length)<|j9 ((zzi.wrap ((zzi.wrap (b-1))-(zzi.wrap (r7.1-a)))),1,r32)) (j9 (r7.1,r7.2,l))
def pBody (fuel:Nat)(a1:PdqS):Option (Ctl PdqS (List Time)):=
 bf (decide ((zzi.wrap (a1.2.1-a1.1))≤12)) ((z1l fuel a1.1 a1.2.1 a1.2.2.2.2.2).bind fun r3=>some (.ret r3)) (bf (decide (a1.2.2.1=0)) ((z21 fuel a1.1 a1.2.1 a1.2.2.2.2.2).bind fun r4=>some (.ret r4))
  (jn (fun(a5:Int×Int×(List Time))=>pK5 fuel a1.1 a1.2.1 a1.2.2.2.1 a1.2.2.2.2.1 a5.1 a5.2.1 a5.2.2) fun j6=>bf (!a1.2.2.2.1) ((z1k fuel a1.1 a1.2.1 a1.2.2.2.2.2).bind fun r34=>need (r34.length=a1.2.2.2.2.2.length)<|j6 ((zzi.wrap (a1.2.2.1-1)),(zzi.wrap (a1.2.1-a1.1)),r34)) (j6 (a1.2.2.1,(zzi.wrap (a1.2.1-a1.1)),a1.2.2.2.2.2))))
theorem zrw (fuel:Nat)(a b lim:Int)(l:List Time):z0t (fuel+1) a b lim l=outK (loopN (pBody fuel) fuel (a,b,lim,true,true,l)) (fun _=>none) (fun x=>some x):=rfl
def qD (a b lim:Nat)(wb wp:Bool)(pivot:Nat)(d:Array Time):Array Time:=
 if a>0 && !ltT d[a-1]! d[pivot]! then
  match Sort.partitionEqual ltT d a b pivot with
  |(mid,d4)=>if _h:a<mid∧mid≤b then Sort.pdq ltT d4 mid b lim wb wp else d4
 else
  match Sort.partition ltT d a b pivot with
  |(mid,alreadyPartitioned,d4)=>
   if _h:a≤mid∧mid<b then
    if mid-a<b-mid then
     Sort.pdq ltT (Sort.pdq ltT d4 a mid lim true true) (mid+1) b lim (decide (mid-a≥(b-a) / 8)) alreadyPartitioned
    else
     Sort.pdq ltT (Sort.pdq ltT d4 (mid+1) b lim true true) a mid lim (decide (b-mid≥(b-a) / 8)) alreadyPartitioned
   else d4
def qC (a b lim:Nat)(wb wp:Bool)(pivot:Nat)(hint:Sort.Hint)(d:Array Time):Array Time:=
 let pi:=if wb && wp && hint= .increasing then Sort.partialInsertionSort ltT d a b else(d,false)
 if pi.2 then pi.1 else qD a b lim wb wp pivot pi.1
def qB (a b lim:Nat)(wb wp:Bool)(d:Array Time):Array Time:=
 let c:=Sort.choosePivot ltT d a b
 if c.2= .decreasing then qC a b lim wb wp ((b-1)-(c.1-a)) .increasing (Sort.reverseRange d a b)else qC a b lim wb wp c.1 c.2 d
theorem zrx (d:Array Time)(a b lim:Nat)(wb wp:Bool):Sort.pdq ltT d a b lim wb wp=
 if b-a≤12 then Sort.insertionSort ltT d a b else if lim=0 then Sort.heapSort ltT d a b else
  (if wb then qB a b lim wb wp d else qB a b (lim-1) wb wp (Sort.breakPatterns d a b)):=by
 rw[Sort.pdq];by_cases h1:b-a≤12
 ·rw[if_pos h1,if_pos h1]
 ·rw[if_neg h1,if_neg h1];by_cases h2:lim=0
  ·rw[if_pos h2,if_pos h2]
  ·rw[if_neg h2,if_neg h2];cases wb
   ·simp only[Bool.not_false,if_true];unfold qB;dsimp only;by_cases h3:(Sort.choosePivot ltT (Sort.breakPatterns d a b) a b).2= .decreasing
    ·simp only[if_pos h3];rfl
    ·simp only[if_neg h3];rfl
   ·simp only[zzj,zzl,if_false,if_true];unfold qB;dsimp only;by_cases h3:(Sort.choosePivot ltT d a b).2= .decreasing
    ·simp only[if_pos h3];rfl
    ·simp only[if_neg h3];rfl
theorem zhs {α:Type}[Inhabited α](p:α→Bool)(d:Array α)(i:Nat): ∀(j:Nat),i≤j+1→i≤Sort.scanDown p d i j+1
 |0,h=>h
 |j+1,h=>by
  unfold Sort.scanDown;split
  ·rename_i hc
   have:i≤j+1:=by simp at hc;exact hc.1
   exact zhs p d i j this
  ·exact h
theorem zn6 {α:Type}[Inhabited α](p:α→Bool)(d:Array α)(j:Nat): ∀(n i:Nat),j+1-i≤n→Sort.scanUp p d j i≤j→p d[Sort.scanUp p d j i]! =false:=by
 intro n;induction n with
 |zero=>
  intro i hn h;rw[Sort.scanUp]at h ⊢;split at h
  ·rename_i hc;simp at hc;omega
  ·omega
 |succ n ih=>
  intro i hn h;rw[Sort.scanUp]at h ⊢;split at h
  ·rename_i hc
   rw[if_pos hc];exact ih (i+1) (by omega) h
  ·rename_i hc
   rw[if_neg hc];simp at hc;exact hc h
theorem zfq {α:Type}[Inhabited α](p:α→Bool)(d:Array α)(i:Nat): ∀(j:Nat),i≤Sort.scanDown p d i j→1≤i→p d[Sort.scanDown p d i j]! =false
 |0,h,h1=>by have:Sort.scanDown p d i 0=0:=rfl;omega
 |j+1,h,h1=>by
  unfold Sort.scanDown at h ⊢;split at h
  ·rename_i hc
   rw[if_pos hc];exact zfq p d i j h h1
  ·rename_i hc
   rw[if_neg hc];simp at hc;exact hc h
theorem zs2 {α:Type}[Inhabited α](p q:α→Bool)(hq: ∀x,q x= !p x)(d:Array α)(i j:Nat):1≤i→Sort.scanUp p d j i≠Sort.scanDown q d (Sort.scanUp p d j i) j:=fun hi e=>by
 have u:=z5p p d j _ i (zzc _);have v:=z3i q d (Sort.scanUp p d j i) j
 have h1:=zn6 p d j _ i (zzc _) (by omega);have h2:=zfq q d (Sort.scanUp p d j i) j (by omega) (by omega)
 rw[←e,hq,h1]at h2;cases h2
theorem zj4 {a:Nat}: ∀(n i j:Nat) (d:Array Time),j+1-i≤n→1≤i→i≤j+1→j<d.size→i≤(Sort.partEqLoop ltT a i j d).1∧(Sort.partEqLoop ltT a i j d).1≤j+1∧(Sort.partEqLoop ltT a i j d).2.size=d.size:=by
 intro n;induction n with
 |zero=>
  intro i j d hn hi hi2 hj;have u:=(z5p (fun x=> !ltT d[a]! x) d j _ i (zzc _))
  have v:=z3i (fun x=>ltT d[a]! x) d (Sort.scanUp (fun x=> !ltT d[a]! x) d j i) j;rw[z9e,if_pos (by omega)];exact⟨u.2,by show Sort.scanUp _ _ _ _≤_;omega,rfl⟩
 |succ n ih=>
  intro i j d hn hi hi2 hj;have u:=(z5p (fun x=> !ltT d[a]! x) d j _ i (zzc _))
  have v:=z3i (fun x=>ltT d[a]! x) d (Sort.scanUp (fun x=> !ltT d[a]! x) d j i) j;have w:=zhs (fun x=>ltT d[a]! x) d (Sort.scanUp (fun x=> !ltT d[a]! x) d j i) j
  have hno:=zs2 (fun x=> !ltT d[a]! x) (fun x=>ltT d[a]! x) (fun x=>by simp) d i j;rw[z9e];generalize Sort.scanUp (fun x=> !ltT d[a]! x) d j i=i2 at*;generalize Sort.scanDown (fun x=>ltT d[a]! x) d i2 j=j2 at*;by_cases hc:i2>j2
  ·rw[if_pos hc];exact⟨u.2,by show i2≤_;omega,rfl⟩
  ·rw[if_neg hc];have:=ih (i2+1) (j2-1) (Sort.swp d i2 j2) (by omega) (by omega) (by omega) (by rw[z1f];omega);rw[z1f]at this;omega
end Go.Av
namespace Go.Av
open Go
theorem zci {x y:Time}:ltT x y=true↔x.epoch<y.epoch∨(x.epoch=y.epoch∧(x.loop.1<y.loop.1∨(x.loop.1=y.loop.1∧x.loop.2<y.loop.2))):=by
 unfold ltT cmpT;rw[decide_eq_true_eq]
 repeat' split
 all_goals omega
theorem swoT:Sort.SWO ltT where
 irrefl x:=by
  cases h:ltT x x with
  |false=>rfl
  |true=>rw[zci]at h;omega
 trans x y z h1 h2:=by
  rw[zci]at*;omega
 ntrans x y z h1 h2:=by
  rw[←Bool.not_eq_true,zci]at*;omega
theorem zmy (a b:Nat): ∀(n i:Nat) (d:Array Time),b-i≤n→(Sort.insOuter ltT a b i d).size=d.size:=by
 intro n;induction n with
 |zero=>intro i d hn;rw[Sort.insOuter,if_neg (by omega)]
 |succ n ih=>
  intro i d hn;rw[Sort.insOuter];split
  ·rw[ih _ _ (by omega),zdy]
  ·rfl
theorem zlt (a b:Nat)(d:Array Time):(Sort.insertionSort ltT d a b).size=d.size:=zmy a b b _ d (by omega)
theorem ziu (first:Nat): ∀(k:Nat) (d:Array Time),(Sort.heapPop ltT first k d).size=d.size
 |0,d=>rfl
 |k+1,d=>by unfold Sort.heapPop;rw[ziu first k,zck,z1f]
theorem zmx (a b:Nat)(d:Array Time):(Sort.heapSort ltT d a b).size=d.size:=by unfold Sort.heapSort;rw[ziu,zcw]
theorem zfm (a b:Nat): ∀(s i:Nat) (d:Array Time),(Sort.partialIns ltT a b s i d).1.size=d.size
 |0,i,d=>rfl
 |s+1,i,d=>by
  rw[zeo];split
  ·rfl
  ·split
   ·rfl
   ·rw[zfm a b s,zf8]
def zjh (F g:Nat)(o:Option (Ctl PdqS (List Time)))(q:Array Time):Prop:=(∃s,o=some (.next s)∧loopN (pBody F) g s=some (.ret q.toList))∨o=some (.ret q.toList)
def PdqOk (m:Nat):Prop:= ∀(F g a b lim:Nat) (wb wp:Bool) (d:Array Time),b-a<m→a≤b→b≤d.size→d.size<1152921504606846976→lim<1152921504606846976→b-a<g→d.size+(b-a)+20<F→
 loopN (pBody F) g ((a:Int),(b:Int),(lim:Int),wb,wp,d.toList)=some (.ret (Sort.pdq ltT d a b lim wb wp).toList)∧(Sort.pdq ltT d a b lim wb wp).size=d.size
theorem PdqOk.call {m:Nat}(h:PdqOk m){F a b lim:Nat}{d:Array Time}(hm:b-a<m)(hab:a≤b)(hb:b≤d.size)(hd:d.size<1152921504606846976)(hl:lim<1152921504606846976)(hf:d.size+(b-a)+21<F):
 z0t F (a:Int) (b:Int) (lim:Int) d.toList=some (Sort.pdq ltT d a b lim true true).toList∧(Sort.pdq ltT d a b lim true true).size=d.size:=by
 cases F with
 |zero=>omega
 |succ F=>
  obtain⟨h1,h2⟩:=h F F a b lim true true d hm hab hb hd hl (by omega) (by omega);rw[zrw,h1];exact⟨rfl,h2⟩
theorem zq0 {F g a b lim pivot:Nat}{wb wp:Bool}{d:Array Time}(ih:PdqOk (b-a))(hab:a+12<b)(hp:a≤pivot∧pivot<b)(hb:b≤d.size)(hd:d.size<1152921504606846976)(hl:lim<1152921504606846976)(hg:b-a≤g)(hF:d.size+(b-a)+20<F):
 zjh F g (pK10 F (a:Int) (b:Int) (lim:Int) ((b-a:Nat):Int) (pivot:Int) wb wp d.toList) (qD a b lim wb wp pivot d)∧(qD a b lim wb wp pivot d).size=d.size:=by
 have e8:zzi.wrap (((b-a:Nat):Int).tdiv 8)=(((b-a) / 8:Nat):Int):=by rw[Int.tdiv_eq_ediv_of_nonneg (by omega),z2b (by omega) (by omega)];omega
 have hK:pK10 F (a:Int) (b:Int) (lim:Int) ((b-a:Nat):Int) (pivot:Int) wb wp d.toList=pK12 F (a:Int) (b:Int) (lim:Int) ((b-a:Nat):Int) (pivot:Int) wb wp d.toList (a>0 && !ltT d[a-1]! d[pivot]!):=by
  unfold pK10;simp only[jn_eq];by_cases h0:0<a
  ·rw[decide_eq_true (show(0:Int)<(a:Int)by omega),z3o,wsub1 (by omega) (by omega)];simp(disch:=omega) only[zz1,zz4,z07,zz2,z33,zz0,z20];rw[decide_eq_true h0,Bool.true_and];rfl
  ·rw[decide_eq_false (show ¬(0:Int)<(a:Int)by omega),z0l,decide_eq_false h0,Bool.false_and]
 rw[hK];unfold qD;cases hx:(a>0 && !ltT d[a-1]! d[pivot]!)with
 |true=>
  simp only[if_true];unfold pK12;rw[z3o,zhd hp (by omega) hb hd (by omega),zz0];have hr:=zj4 (a:=a) _ (a+1) (b-1) (Sort.swp d a pivot) (zzc _) (by omega) (by omega) (by rw[z1f];omega)
  rw[z1f]at hr;have he:Sort.partEqLoop ltT a (a+1) (b-1) (Sort.swp d a pivot)=Sort.partitionEqual ltT d a b pivot:=rfl
  rw[he]at hr;generalize Sort.partitionEqual ltT d a b pivot=r at*;obtain⟨mid,d4⟩:=r;simp only at hr ⊢;rw[dif_pos (by omega),z07 (by rw[zz2,zz2];omega)];obtain⟨h1,h2⟩:=ih F g mid b lim wb wp d4 (by omega) (by omega) (by omega) (by omega) hl (by omega) (by omega);exact⟨.inl ⟨_,rfl,h1⟩,by omega⟩
 |false=>
  simp only[zzl,if_false];unfold pK12;rw[z0l,zm2 hp (by omega) hb hd (by omega),zz0,e8];obtain⟨g1,g2,g3,_,_⟩:=Sort.partition_holds ltT swoT d a b pivot hp.1 hp.2 hb;have g3:=g3.1
  generalize Sort.partition ltT d a b pivot=r at*;obtain⟨mid,ap,d4⟩:=r;simp only at g1 g2 g3 ⊢;have w1:zzi.wrap ((mid:Int)-(a:Int))=((mid-a:Nat):Int):=wsub (by omega) (by omega)
  have w2:zzi.wrap ((b:Int)-(mid:Int))=((b-mid:Nat):Int):=wsub (by omega) (by omega);have w3:zzi.wrap ((mid:Int)+1)=((mid+1:Nat):Int):=wadd1 (by omega)
  rw[dif_pos ⟨g1,g2⟩,z07 (by rw[zz2,zz2];omega),w1,w2,w3,z0b];by_cases hc:mid-a<b-mid
  ·rw[if_pos hc,if_pos (by omega)];obtain⟨c1,c2⟩:=ih.call (F:=F) (a:=a) (b:=mid) (lim:=lim) (d:=d4) (by omega) (by omega) (by omega) (by omega) hl (by omega);rw[c1,zz0,z07 (by rw[zz2,zz2];omega)];generalize Sort.pdq ltT d4 a mid lim true true=d5 at*;obtain⟨h1,h2⟩:=ih F g (mid+1) b lim (decide (mid-a≥(b-a) / 8)) ap d5 (by omega) (by omega) (by omega) (by omega) hl (by omega) (by omega);refine⟨.inl ⟨_,rfl,?_⟩,by omega⟩;have e:decide ((((b-a) / 8:Nat):Int)≤((mid-a:Nat):Int))=decide (mid-a≥(b-a) / 8):=by
    rw[Bool.eq_iff_iff];simp only[decide_eq_true_eq];omega
   rw[e];exact h1
  ·rw[if_neg hc,if_neg (by omega)];obtain⟨c1,c2⟩:=ih.call (F:=F) (a:=mid+1) (b:=b) (lim:=lim) (d:=d4) (by omega) (by omega) (by omega) (by omega) hl (by omega);rw[c1,zz0,z07 (by rw[zz2,zz2];omega)];generalize Sort.pdq ltT d4 (mid+1) b lim true true=d5 at*;obtain⟨h1,h2⟩:=ih F g a mid lim (decide (b-mid≥(b-a) / 8)) ap d5 (by omega) (by omega) (by omega) (by omega) hl (by omega) (by omega);refine⟨.inl ⟨_,rfl,?_⟩,by omega⟩;have e:decide ((((b-a) / 8:Nat):Int)≤((b-mid:Nat):Int))=decide (b-mid≥(b-a) / 8):=by
    rw[Bool.eq_iff_iff];simp only[decide_eq_true_eq];omega
   rw[e];exact h1
theorem zpz {F g a b lim pivot:Nat}{hint:Sort.Hint}{wb wp:Bool}{d:Array Time}(ih:PdqOk (b-a))(hab:a+12<b)(hp:a≤pivot∧pivot<b)(hb:b≤d.size)(hd:d.size<1152921504606846976)(hl:lim<1152921504606846976)(hg:b-a≤g)(hF:d.size+(b-a)+20<F):
 zjh F g (pK8 F (a:Int) (b:Int) (lim:Int) ((b-a:Nat):Int) wb wp (pivot:Int) (hintN hint) d.toList) (qC a b lim wb wp pivot hint d)∧(qC a b lim wb wp pivot hint d).size=d.size:=by
 have hK:pK8 F (a:Int) (b:Int) (lim:Int) ((b-a:Nat):Int) wb wp (pivot:Int) (hintN hint) d.toList=if wb && wp && hint= .increasing then((z0z F (a:Int) (b:Int) d.toList).bind fun r30=>need (r30.2.length=d.toList.length)<|bf r30.1 (some (.ret r30.2)) (pK10 F (a:Int) (b:Int) (lim:Int) ((b-a:Nat):Int) (pivot:Int) wb wp r30.2))else pK10 F (a:Int) (b:Int) (lim:Int) ((b-a:Nat):Int) (pivot:Int) wb wp d.toList:=by
  unfold pK8;cases wb<;>cases wp<;>cases hint<;>simp[jn,bf,hintN]
 rw[hK];unfold qC;dsimp only;by_cases hc:(wb && wp && decide (hint= .increasing))=true
 ·rw[if_pos hc,if_pos hc,zdc (by omega) hb hd (by omega),zz0];have hsz:(Sort.partialInsertionSort ltT d a b).1.size=d.size:=zfm a b 5 _ d;generalize Sort.partialInsertionSort ltT d a b=r at*;obtain⟨d3,x⟩:=r;simp only at hsz ⊢;rw[z07 (by rw[zz2,zz2];omega)];cases x with
  |true=>exact⟨.inr rfl,hsz⟩
  |false=>
   simp only[z0l,zzl,if_false];have:=zq0 (F:=F) (g:=g) (lim:=lim) (pivot:=pivot) (wb:=wb) (wp:=wp) (d:=d3) ih hab hp (by omega) (by omega) hl hg (by omega)
   exact⟨this.1,by omega⟩
 ·rw[if_neg hc,if_neg hc];simp only[zzl,if_false];exact zq0 ih hab hp hb hd hl hg hF
theorem zpy {F g a b lim:Nat}{wb wp:Bool}{d:Array Time}(ih:PdqOk (b-a))(hab:a+12<b)(hb:b≤d.size)(hd:d.size<1152921504606846976)(hl:lim<1152921504606846976)(hg:b-a≤g)(hF:d.size+(b-a)+20<F):
 zjh F g (pK5 F (a:Int) (b:Int) wb wp (lim:Int) ((b-a:Nat):Int) d.toList) (qB a b lim wb wp d)∧(qB a b lim wb wp d).size=d.size:=by
 unfold pK5 qB;rw[choosePivot_eq (by omega) hb hd,zz0];obtain⟨p1,p2⟩:=Sort.choosePivot_holds ltT d a b (by omega);generalize Sort.choosePivot ltT d a b=c at*;obtain⟨pivot,hint⟩:=c;simp only[jn_eq]at p1 p2 ⊢;by_cases hc:hint= .decreasing
 ·subst hc;have hsz:=(Sort.reverseRange_holds d a b (by omega) hb).1
  rw[decide_eq_true (show hintN Sort.Hint.decreasing=2 from rfl),z3o,zj9 (by omega) hb hd (by omega),zz0,z07 (by rw[zz2,zz2];exact hsz)];have w1:zzi.wrap ((b:Int)-1)=((b-1:Nat):Int):=wsub1 (by omega) (by omega);have w2:zzi.wrap ((pivot:Int)-(a:Int))=((pivot-a:Nat):Int):=wsub (by omega) (by omega)
  have w3:zzi.wrap (((b-1:Nat):Int)-((pivot-a:Nat):Int))=(((b-1)-(pivot-a):Nat):Int):=wsub (by omega) (by omega);rw[w1,w2,w3];simp only[if_true];have:=zpz (F:=F) (g:=g) (lim:=lim) (pivot:=(b-1)-(pivot-a)) (hint:= .increasing) (wb:=wb) (wp:=wp) (d:=Sort.reverseRange d a b) ih hab (by omega) (by omega) (by omega) hl hg (by omega)
  exact⟨this.1,this.2.trans hsz⟩
 ·have hn:hintN hint≠2:=by cases hint<;>simp[hintN]at*
  rw[decide_eq_false hn,z0l,if_neg hc];exact zpz ih hab ⟨p1,p2⟩ hb hd hl hg hF
theorem pdqOk: ∀m,PdqOk m:=by
 intro m;induction m with
 |zero=>intro F g a b lim wb wp d h;omega
 |succ m ihm=>
  intro F g a b lim wb wp d hm hab hb hd hl hg hF;have ih:PdqOk (b-a):=fun F' g' a' b' lim' wb' wp' d' h=>ihm F' g' a' b' lim' wb' wp' d' (by omega)
  cases g with
  |zero=>omega
  |succ g=>
   have e0:zzi.wrap ((b:Int)-(a:Int))=((b-a:Nat):Int):=wsub (by omega) (by omega);rw[zrx];by_cases h1:b-a≤12
   ·rw[if_pos h1];refine⟨?_,zlt a b d⟩;rw[z8f (r:=(Sort.insertionSort ltT d a b).toList)];unfold pBody;simp only[e0];rw[decide_eq_true (by omega),z3o,zls hb (by omega) (by omega) (by omega),zz0]
   ·rw[if_neg h1];by_cases h2:lim=0
    ·rw[if_pos h2];refine⟨?_,zmx a b d⟩;rw[z8f (r:=(Sort.heapSort ltT d a b).toList)];unfold pBody;simp only[e0];rw[decide_eq_false (by omega),z0l,decide_eq_true (by omega),z3o,zmw (by omega) hb hd (by omega),zz0]
    ·rw[if_neg h2];have fin: ∀q:Array Time,zjh F g (pBody F ((a:Int),(b:Int),(lim:Int),wb,wp,d.toList)) q→loopN (pBody F) (g+1) ((a:Int),(b:Int),(lim:Int),wb,wp,d.toList)=some (.ret q.toList):=fun q hq=>by
      rcases hq with⟨s,h3,h4⟩|h3
      ·rw[z1i h3,h4]
      ·rw[z8f h3]
     cases wb with
     |true=>
      simp only[if_true];have hB:pBody F ((a:Int),(b:Int),(lim:Int),true,wp,d.toList)=pK5 F (a:Int) (b:Int) true wp (lim:Int) ((b-a:Nat):Int) d.toList:=by
       unfold pBody;simp only[e0,jn_eq];rw[decide_eq_false (by omega),z0l,decide_eq_false (by omega),z0l,zzj,z0l]
      have:=zpy (F:=F) (g:=g) (a:=a) (b:=b) (lim:=lim) (wb:=true) (wp:=wp) (d:=d) ih (by omega) hb hd hl (by omega) hF;exact⟨fin _ (by rw[hB];exact this.1),this.2⟩
     |false=>
      simp only[zzl,if_false];have hsz:=(Sort.breakPatterns_holds d a b hab hb).1
      have hB:pBody F ((a:Int),(b:Int),(lim:Int),false,wp,d.toList)=pK5 F (a:Int) (b:Int) false wp ((lim-1:Nat):Int) ((b-a:Nat):Int) (Sort.breakPatterns d a b).toList:=by
       unfold pBody;simp only[e0,jn_eq];rw[decide_eq_false (by omega),z0l,decide_eq_false (by omega),z0l,Bool.not_false,z3o,zhw (by omega) hb hd (by omega),zz0,z07 (by rw[zz2,zz2];exact hsz),wsub1 (by omega) (by omega)]
      have:=zpy (F:=F) (g:=g) (a:=a) (b:=b) (lim:=lim-1) (wb:=false) (wp:=wp) (d:=Sort.breakPatterns d a b) ih (by omega) (by omega) (by omega) (by omega) (by omega) (by omega);exact⟨fin _ (by rw[hB];exact this.1),this.2.trans hsz⟩
theorem zn9 {fuel:Nat}{l:List Time}(hl:l.length<1152921504606846976)(hf:2*l.length+30<fuel):
 z13 fuel l=some (Sort.sort ltT l.toArray).toList:=by
 unfold z13;have e:zzu.wrap (l.length:Int)=(l.length:Int):=uwrap (k:= .u64) rfl (show l.length<2^64 by omega)
 rw[e,zpc (by omega),zz0];have hL:Sort.bitsLen l.length≤60:=zij hl;have:=((pdqOk (l.length+1)).call (F:=fuel) (a:=0) (b:=l.length) (lim:=Sort.bitsLen l.length) (d:=l.toArray) (by omega) (by omega) (by simp) (by simpa using hl) (by omega) (by simp;omega)).1
 rw[show((0:Nat):Int)=0 from rfl,List.toList_toArray]at this;rw[this,zz0];unfold Sort.sort;rw[List.size_toArray]
end Go.Av
namespace Go.Av
open Go
theorem zpm (l:List Time):z76 l=some (lubL l):=by
 unfold z76;rw[zm6 lub2]
 ·rfl
 ·intro i a hi;generalize l.getD i zzd=x;by_cases h1:a.epoch<x.epoch<;>by_cases h2:a.loop.1<x.loop.1<;>by_cases h3:a.loop.2<x.loop.2<;>simp[z0c,lub2,outK,h1,h2,h3]
theorem zpl (l:List Time):z75 l=some (glbL l):=by
 unfold z75;simp only[z0b];split
 ·rename_i h
  obtain rfl:l=[]:=List.eq_nil_of_length_eq_zero (by omega);rfl
 ·rename_i h
  have hl:0<l.length:=by omega
  rw[z07 ⟨Int.le_refl _,by omega⟩];rw[z3m (glbL l) (fun i a=>a=if i=0 then l.getD 0 zzd else glbL (l.take i)) (fun s h=>by rw[h,List.take_length,if_neg (by omega)])]
  ·rfl
  ·intro i a hi ha;refine⟨_,?_,rfl⟩;rw[z27 hi,if_neg (by omega)];rcases Nat.eq_zero_or_pos i with h0|h0
   ·subst h0;rw[if_pos rfl]at ha;subst ha;simp[jn_eq,z0c,outK,glbL]
   ·rw[if_neg (by omega)]at ha;rw[zhl (by intro h;have h2:=congrArg List.length h;rw[zzh]at h2;simp only[List.length_nil]at h2;omega),←ha];generalize l.getD i zzd=x at*;by_cases h1:x.epoch<a.epoch<;>by_cases h2:x.loop.1<a.loop.1<;>by_cases h3:x.loop.2<a.loop.2<;>simp[z0c,glb2,outK,h1,h2,h3]
  ·rfl
theorem zb2 {x y:Time}:z0s x y=true↔x=y:=by
 constructor
 ·intro h;simp only[z0s,Bool.and_eq_true,decide_eq_true_eq,Bool.and_true]at h;exact Time.ext' h.1 h.2.1 h.2.2
 ·rintro rfl;exact zdt x
theorem zrr {a b:Time}(h:leT a b=true)(g:leT b a=true):a=b:=zb2.1 (zqj h g)
theorem zlz {a b:Time}(h:leT a b=true):ltT b a=false:=by
 cases e:ltT b a with
 |false=>rfl
 |true=>rw[zrq]at h;rw[zci]at e;omega
theorem lt_or {a b:Time}(h:ltT b a=false)(hne:a≠b):ltT a b=true:=by
 cases e:ltT a b with
 |true=>rfl
 |false=>
  refine absurd ?_ hne;rw[←Bool.not_eq_true,zci]at h e;exact Time.ext' (by omega) (by omega) (by omega)
theorem zpd {a:Time}:ltT a a=false:=swoT.irrefl a
theorem zqp {a b:Time}(h:ltT a b=true):ltT b a=false:=by
 cases e:ltT b a with
 |false=>rfl
 |true=>rw[zci]at h e;omega
structure IsF (l f:List Time):Prop where
 sorted:f.Pairwise fun x y=>ltT x y=true
 sub: ∀x∈f,x∈l
 below: ∀y∈l,∃u∈f,leT u y=true
 least: ∀x∈f,∀y∈l,leT y x=true→y=x
theorem IsF.mem {l f:List Time}(h:IsF l f)(x:Time):x∈f↔x∈l∧ ∀y∈l,leT y x=true→y=x:=by
 constructor
 ·exact fun hx=>⟨h.sub x hx,h.least x hx⟩
 ·rintro⟨hx,hm⟩;obtain⟨u,hu,hle⟩:=h.below x hx;rw[←hm u (h.sub u hu) hle];exact hu
theorem zjg: ∀{f g:List Time},f.Pairwise (fun x y=>ltT x y=true)→g.Pairwise (fun x y=>ltT x y=true)→(∀x,x∈f↔x∈g)→f=g
 |[],[],_,_,_=>rfl
 |[],y::g,_,_,h=>by have:=(h y).2 (zza ..);cases this
 |x::f,[],_,_,h=>by have:=(h x).1 (zza ..);cases this
 |x::f,y::g,hf,hg,h=>by
  rw[List.pairwise_cons]at hf hg;have hxy:x=y:=by
   rcases zzm.1 ((h x).1 (zza ..))with e|hx
   ·exact e
   ·rcases zzm.1 ((h y).2 (zza ..))with e|hy
    ·exact e.symm
    ·have h1:=hg.1 x hx;have h2:=hf.1 y hy
     rw[zqp h1]at h2;cases h2
  subst hxy;have hr:f=g:=zjg hf.2 hg.2 (fun z=>by
   constructor
   ·intro hz;rcases zzm.1 ((h z).1 (zzf _ hz))with e|hz2
    ·subst e;have:=hf.1 z hz
     rw[zpd]at this;cases this
    ·exact hz2
   ·intro hz;rcases zzm.1 ((h z).2 (zzf _ hz))with e|hz2
    ·subst e;have:=hg.1 z hz
     rw[zpd]at this;cases this
    ·exact hz2)
  rw[hr]
theorem IsF.congr {l m f:List Time}(h:IsF l f)(e: ∀x,x∈l↔x∈m):IsF m f:=
 ⟨h.sorted,fun x hx=>(e x).1 (h.sub x hx),fun y hy=>h.below y ((e y).2 hy),fun x hx y hy=>h.least x hx y ((e y).2 hy)⟩
theorem IsF.step {p f:List Time}{t:Time}(h:IsF p f)(hs: ∀x∈p,ltT t x=false):IsF (p++[t]) (if f.any (fun u=>leT u t)then f else f++[t]):=by
 by_cases hc:f.any (fun u=>leT u t)=true
 ·rw[if_pos hc];obtain⟨u,hu,hut⟩:=List.any_eq_true.1 hc;refine⟨h.sorted,fun x hx=>zz6.2 (.inl (h.sub x hx)),?_,?_⟩
  ·intro y hy;rcases zz6.1 hy with hy|hy
   ·exact h.below y hy
   ·rw[zz9.1 hy];exact⟨u,hu,hut⟩
  ·intro x hx y hy hle;rcases zz6.1 hy with hy|hy
   ·exact h.least x hx y hy hle
   ·rw[zz9.1 hy]at hle ⊢;have hux:=h.least x hx u (h.sub u hu) (zkj hut hle)
    subst hux;exact zrr hle hut
 ·rw[if_neg hc];have hno: ∀u∈f,leT u t=false:=fun u hu=>by
   cases e:leT u t with
   |false=>rfl
   |true=>exact absurd (List.any_eq_true.2 ⟨u,hu,e⟩) hc
  have hnp: ∀y∈p,leT y t=false:=fun y hy=>by
   obtain⟨u,hu,hle⟩:=h.below y hy;cases e:leT y t with
   |false=>rfl
   |true=>have:=zkj hle e;rw[hno u hu]at this;cases this
  refine⟨?_,?_,?_,?_⟩
  ·rw[List.pairwise_append];refine⟨h.sorted,by simp,fun x hx y hy=>?_⟩;rw[zz9.1 hy];refine lt_or (hs x (h.sub x hx)) (fun e=>?_);subst e;have:=hno x hx
   rw[zlx]at this;cases this
  ·intro x hx;rcases zz6.1 hx with hx|hx
   ·exact zz6.2 (.inl (h.sub x hx))
   ·exact zz6.2 (.inr hx)
  ·intro y hy;rcases zz6.1 hy with hy|hy
   ·obtain⟨u,hu,hle⟩:=h.below y hy;exact⟨u,zz6.2 (.inl hu),hle⟩
   ·exact⟨y,zz6.2 (.inr hy),zlx y⟩
  ·intro x hx y hy hle;rcases zz6.1 hx with hx|hx
   ·rcases zz6.1 hy with hy|hy
    ·exact h.least x hx y hy hle
    ·rw[zz9.1 hy]at hle ⊢;have h1:=hs x (h.sub x hx)
     have h2:=zlz hle;by_cases e:t=x
     ·exact e
     ·have:=lt_or h1 (fun h=>e h.symm);rw[h2]at this;cases this
   ·rw[zz9.1 hx]at hle ⊢;rcases zz6.1 hy with hy|hy
    ·rw[hnp y hy]at hle;cases hle
    ·exact zz9.1 hy
def zgi (l:List Time):List Time:=l.foldl (fun f t=>if f.any (fun u=>leT u t)then f else f++[t]) []
theorem zp7 {l:List Time}(h:l.Pairwise fun x y=>ltT y x=false):IsF l (zgi l):=by
 have key: ∀(r p f:List Time),IsF p f→(p++r).Pairwise (fun x y=>ltT y x=false)→IsF (p++r) (r.foldl (fun f t=>if f.any (fun u=>leT u t)then f else f++[t]) f):=by
  intro r;induction r with
  |nil=>intro p f hf _;rw[List.append_nil];exact hf
  |cons t r ih=>
   intro p f hf hp;rw[List.foldl_cons];have e:p++t::r=(p++[t])++r:=by simp
   rw[e]at hp ⊢;refine ih (p++[t]) _ (hf.step fun x hx=>?_) hp;rw[List.pairwise_append,List.pairwise_append]at hp;exact hp.1.2.2 x hx t (zz9.2 rfl)
 exact key l [] [] ⟨.nil,(fun x h=>nomatch h),(fun y h=>nomatch h),(fun x h=>nomatch h)⟩ h
def sortT (l:List Time):List Time:=(Sort.sort ltT l.toArray).toList
def zb3 (l:List Time):List Time:=zgi (sortT l)
theorem zfc (l:List Time):(sortT l).Perm l:=by
 have h:=(Sort.sort_sorts ltT swoT l.toArray).1;obtain⟨h1,_,h3⟩:=h;have e1:(Sort.sort ltT l.toArray).extract 0 l.toArray.size=Sort.sort ltT l.toArray:=by rw[←h1];simp
 have e2:l.toArray.extract 0 l.toArray.size=l.toArray:=by simp
 rw[e1,e2]at h3;exact h3
theorem zmi (l:List Time):(sortT l).Pairwise fun x y=>ltT y x=false:=by
 have h:=Sort.sort_sorts ltT swoT l.toArray;rw[List.pairwise_iff_getElem];intro i j hi hj hij;have hsz:(Sort.sort ltT l.toArray).size=l.toArray.size:=h.1.1
 have hj':j<(Sort.sort ltT l.toArray).size:=by unfold sortT at hj;rw[zz2]at hj;exact hj
 have:=h.2 i j (Nat.zero_le _) hij (by omega);have ej:(sortT l)[j]=(Sort.sort ltT l.toArray)[j]'hj':=Array.getElem_toList _
 have ei:(sortT l)[i]=(Sort.sort ltT l.toArray)[i]'(by omega):=Array.getElem_toList _;rw[getElem!_pos _ j hj',getElem!_pos _ i (by omega)]at this;exact(congr (congrArg ltT ej) ei).trans this
theorem zo7 (l:List Time):IsF l (zb3 l):=(zp7 (zmi l)).congr fun x=>(zfc l).mem_iff
theorem zmh (l:List Time):(sortT l).length=l.length:=(zfc l).length_eq
theorem zl4 (l:List Time):(zgi l).length≤l.length:=by
 have key: ∀(r f:List Time),(r.foldl (fun f t=>if f.any (fun u=>leT u t)then f else f++[t]) f).length≤f.length+r.length:=by
  intro r;induction r with
  |nil=>intro f;exact zzc _
  |cons t r ih=>
   intro f;rw[List.foldl_cons];refine Nat.le_trans (ih _) ?_;split
   ·rw[List.length_cons];omega
   ·rw[zzo,List.length_singleton,List.length_cons];omega
 have:=key l [];rw[List.length_nil,zz4]at this;exact this
end Go.Av
namespace Go.Av
open Go
abbrev NN (l:List Time):Prop:= ∀x∈l,z2z x
theorem zcv {X:Type}[Inhabited X]{l:List X}{i:Nat}(h:i<l.length):l.getD i zzd∈l:=by
 rw[List.getD_eq_getElem?_getD,List.getElem?_eq_getElem h];exact List.getElem_mem h
theorem z9a {X:Type}[Inhabited X]{l:List X}{i:Nat}(h:i<l.length):l.take (i+1)=l.take i++[l.getD i zzd]:=by
 rw[List.take_add_one,List.getElem?_eq_getElem h,List.getD_eq_getElem?_getD,List.getElem?_eq_getElem h];rfl
theorem zbs {X R:Type}[Inhabited X]{B:Nat→Unit→Option (Ctl Unit R)}{l:List X}{p:X→Bool}{f:Nat→R}{Q:Type}{kn:Unit→Option Q}{kr:R→Option Q}{q:Option Q}
 (hB: ∀i u,i<l.length→B i u=if p (l.getD i zzd)=true then some (.ret (f i))else some (.next ()))
 (hn:l.any p=false→kn ()=q) (hr: ∀i,i<l.length→l.any p=true→kr (f i)=q):outK (z0c B l.length 0 ()) kn kr=q:=by
 have key: ∀k i,i+k=l.length→(l.take i).any p=false→outK (z0c B k i ()) kn kr=q:=by
  intro k;induction k with
  |zero=>
   intro i hi h;rw[List.take_of_length_le (by omega)]at h;exact hn h
  |succ k ih=>
   intro i hi h;simp only[z0c,hB i () (by omega)];by_cases hp:p (l.getD i zzd)=true
   ·rw[if_pos hp];exact hr i (by omega) (List.any_eq_true.2 ⟨_,zcv (by omega),hp⟩)
   ·rw[if_neg hp];refine ih (i+1) (by omega) ?_;rw[z9a (by omega),List.any_append,h]
    simpa using hp
 exact key l.length 0 (by omega) rfl
theorem zk8 {f:List Time}{t:Time}(hf:NN f)(ht:z2z t):z5o f t=some (f.any fun u=>leT u t):=by
 unfold z5o z0m z0o;have h:(outK (z0c (S:=Unit) (R:=Int) (fun i1 (a2:Unit)=>(z7t (f.getD i1 zzd) t).bind fun r4=>bf r4 (some (.ret ((i1:Nat):Int))) (some (.next ()))) f.length 0 ()) (fun(a3:Unit)=>some (-1)) (fun x=>some x)).bind (fun r1=>some (decide (0≤r1)))=some (f.any fun u=>leT u t):=by
  have: ∀o:Option Int,(o.bind fun r1=>some (decide (0≤r1)))=o.map fun r1=>decide (0≤r1):=fun o=>by cases o<;>rfl
  rw[this];have hm: ∀(o:Option (Out Unit Int)),(outK o (fun(a3:Unit)=>some (-1)) (fun x=>some x)).map (fun r1=>decide (0≤r1))=outK o (fun _=>some false) (fun x=>some (decide (0≤x))):=fun o=>by
   cases o with
   |none=>rfl
   |some o=>cases o<;>rfl
  rw[hm];refine zbs (p:=fun u=>leT u t) (f:=fun i=>(i:Int)) ?_ (fun h=>by rw[h]) (fun i hi h=>by rw[h,decide_eq_true (by omega)]);intro i u hi;unfold z7t;rw[zqa (hf _ (zcv hi)) ht];simp only[zz0];cases leT (f.getD i zzd) t<;>rfl
 rw[h];rfl
theorem zm8 (f:List Time)(t:Time):z5q f t=some (f.any fun u=>leT u t):=by
 unfold z5q;refine zbs (p:=fun u=>leT u t) (f:=fun _=>true) ?_ (fun h=>by rw[h]) (fun i hi h=>by rw[h]);intro i u hi;rw[zhp,zz0];cases leT (f.getD i zzd) t<;>rfl
theorem zgp (a:List Time):z3x a a=some true:=by
 unfold z3x;rw[decide_eq_true (by omega),zzj,z0l,z3m () (fun _ _=>True) (fun _ _=>rfl)]
 ·rfl
 ·intro i u hi _;refine⟨(),?_,trivial⟩;rw[z07 (by omega),zdt];rfl
 ·trivial
theorem zqg {fuel:Nat}{l:List Time}(hl:NN l)(hz:l.length≤274877906944)(hf:2*l.length+30<fuel):z94 fuel l=some (zb3 l):=by
 unfold z94 z0f;have hs:NN (sortT l):=fun x hx=>hl x ((zfc l).mem_iff.1 hx)
 have hlen:=zmh l;rw[z07 hz,zz0,zn9 (by omega) hf,zz0];show need ((sortT l).length=l.length) _=_;rw[z07 hlen];rw[show(Sort.sort ltT l.toArray).toList=sortT l from rfl];unfold zb3 zgi;generalize sortT l=s at*;rw[z3m (s.foldl (fun f t=>if f.any (fun u=>leT u t)then f else f++[t]) []) (fun i a=>a=(s.take i).foldl (fun f t=>if f.any (fun u=>leT u t)then f else f++[t]) []) (fun a h=>by rw[h,List.take_of_length_le (zzc _)])]
 ·rfl
 ·rintro i a hi rfl;have hle:((s.take i).foldl (fun f t=>if f.any (fun u=>leT u t)then f else f++[t]) []).length≤i:=by
   have:=zl4 (s.take i);unfold zgi at this;rw[zzh]at this;omega
  have hnn:NN ((s.take i).foldl (fun f t=>if f.any (fun u=>leT u t)then f else f++[t]) []):=by
   have key: ∀(r f:List Time),NN r→NN f→NN (r.foldl (fun f t=>if f.any (fun u=>leT u t)then f else f++[t]) f):=by
    intro r;induction r with
    |nil=>intro f _ h;exact h
    |cons t r ih=>
     intro f hr h;rw[List.foldl_cons];refine ih _ (fun x hx=>hr x (zzf _ hx)) ?_;split
     ·exact h
     ·intro x hx;rcases zz6.1 hx with hx|hx
      ·exact h x hx
      ·rw[zz9.1 hx];exact hr t (zza ..)
   exact key _ _ (fun x hx=>hs x (List.mem_of_mem_take hx)) (fun x h=>nomatch h)
  refine⟨_,?_,rfl⟩;rw[zz4,z07 hi,zk8 hnn (hs _ (zcv hi)),zz0,z9a hi,List.foldl_append,List.foldl_cons,List.foldl_nil];generalize (s.take i).foldl (fun f t=>if f.any (fun u=>leT u t)then f else f++[t]) []=f at*;cases hc:f.any (fun u=>leT u (s.getD i zzd))with
  |true=>simp only[zzj,z0l,if_true]
  |false=>
   rw[Bool.not_false,z3o,z07 (by rw[List.length_singleton];omega)];simp
 ·rfl
def z78 (l:List Time)(t:Time):Bool:=l.all fun u=> !(!z0s u t && leT u t)
theorem zoc {l:List Time}{t:Time}:z78 l t=true↔ ∀u∈l,leT u t=true→u=t:=by
 unfold z78;rw[List.all_eq_true];constructor
 ·intro h u hu hle;have:=h u hu
  rw[hle]at this;simp at this;exact zb2.1 this
 ·intro h u hu;cases e:leT u t with
  |false=>simp
  |true=>rw[h u hu e,zdt];rfl
theorem zo9 {f:List Time}{t:Time}{B:Int→Option (Ctl Int Empty)}(hB: ∀i:Nat,i≤f.length→B (i:Int)=if i<f.length∧ltT (f.getD i zzd) t=true then some (.next ((i+1:Nat):Int))else some (.brk (i:Int))):
 ∀(k fuel:Nat),k≤f.length→k<fuel→ ∃j:Nat,loopN B fuel ((f.length-k:Nat):Int)=some (.done (j:Int))∧f.length-k≤j∧j≤f.length∧(∀i,f.length-k≤i→i<j→ltT (f.getD i zzd) t=true)∧(j<f.length→ltT (f.getD j zzd) t=false):=by
 intro k;induction k with
 |zero=>
  intro fuel hk hf;cases fuel with
  |zero=>omega
  |succ fuel=>
   have h:=hB (f.length-0) (by omega);rw[if_neg (by omega)]at h;exact⟨_,z11 h,by omega,by omega,fun i h1 h2=>by omega,fun h=>by omega⟩
 |succ k ih=>
  intro fuel hk hf;cases fuel with
  |zero=>omega
  |succ fuel=>
   have h:=hB (f.length-(k+1)) (by omega);by_cases hc:ltT (f.getD (f.length-(k+1)) zzd) t=true
   ·rw[if_pos ⟨by omega,hc⟩,show f.length-(k+1)+1=f.length-k by omega]at h;obtain⟨j,h1,h2,h3,h4,h5⟩:=ih fuel (by omega) (by omega);refine⟨j,by rw[z1i h,h1],by omega,h3,fun i g1 g2=>?_,h5⟩;by_cases hi:i=f.length-(k+1)
    ·rw[hi];exact hc
    ·exact h4 i (by omega) g2
   ·rw[if_neg (fun h=>hc h.2)]at h;refine⟨_,z11 h,by omega,by omega,fun i h1 h2=>by omega,fun _=>?_⟩
    simpa using hc
theorem zru {f:List Time}{j:Nat}(hj:j≤f.length)(t x:Time):x∈(f.take j++[t])++f.drop j↔x∈f∨x=t:=by
 rw[zz6,zz6,zz9];have:x∈f↔x∈f.take j∨x∈f.drop j:=by rw[←zz6,List.take_append_drop]
 rw[this];constructor
 ·rintro((h|h)|h)
  ·exact .inl (.inl h)
  ·exact .inr h
  ·exact .inl (.inr h)
 ·rintro((h|h)|h)
  ·exact .inl (.inl h)
  ·exact .inr h
  ·exact .inl (.inr h)
theorem zob {f:List Time}{t:Time}{j:Nat}(hf:f.Pairwise fun x y=>ltT x y=true)(hj:j≤f.length)(h1: ∀i,i<j→ltT (f.getD i zzd) t=true)(h2:j<f.length→ltT (f.getD j zzd) t=false)(hne: ∀x∈f,x≠t):
 ((f.take j++[t])++f.drop j).Pairwise fun x y=>ltT x y=true:=by
 have hall: ∀x∈f.drop j,ltT t x=true:=by
  intro x hx;obtain⟨i,hi,e⟩:=List.mem_iff_getElem.1 hx;rw[zzn]at hi;rw[List.getElem_drop]at e;have hj2:=h2 (by omega)
  have hjx:ltT t (f.getD j zzd)=true:=lt_or hj2 (fun h=>hne _ (zcv (by omega)) h.symm);rw[List.pairwise_iff_getElem]at hf;by_cases hi0:i=0
  ·subst hi0;rw[List.getD_eq_getElem?_getD,List.getElem?_eq_getElem (by omega)]at hjx;rw[←e];exact hjx
  ·have:=hf j (j+i) (by omega) (by omega) (by omega);rw[e]at this;rw[List.getD_eq_getElem?_getD,List.getElem?_eq_getElem (by omega)]at hjx;exact swoT.trans _ _ _ hjx this
 have htk: ∀x∈f.take j,ltT x t=true:=by
  intro x hx;obtain⟨i,hi,e⟩:=List.mem_iff_getElem.1 hx;rw[zzh]at hi;rw[List.getElem_take]at e;have:=h1 i (by omega)
  rw[List.getD_eq_getElem?_getD,List.getElem?_eq_getElem (by omega)]at this;rw[←e];exact this
 rw[List.pairwise_append,List.pairwise_append];have hp:(f.take j++f.drop j).Pairwise fun x y=>ltT x y=true:=by rw[List.take_append_drop];exact hf
 rw[List.pairwise_append]at hp;refine⟨⟨hp.1,by simp,fun x hx y hy=>by rw[zz9.1 hy];exact htk x hx⟩,hp.2.1,fun x hx y hy=>?_⟩;rcases zz6.1 hx with hx|hx
 ·exact hp.2.2 x hx y hy
 ·rw[zz9.1 hx];exact hall y hy
theorem zqx {S R Q:Type}{B:Nat→S→Option (Ctl S R)}{n:Nat}{s:S}{kn:S→Option Q}{kr:R→Option Q}{q:Option Q}(I:Nat→S→Prop)(h0:I 0 s)(hs: ∀i s,i<n→I i s→ ∃s',B i s=some (.next s')∧I (i+1) s')(hk: ∀s,I n s→kn s=q):outK (z0c B n 0 s) kn kr=q:=by
 obtain⟨s',h1,h2⟩:=zaq I h0 hs;rw[h1];exact hk s' h2
theorem zl9 {fuel:Nat}{l a:List Time}{t:Time}(ha:a.length+1≤274877906944)(hz:a.length+1<fuel):
 ∃j,j≤a.length∧(∀i,i<j→ltT (a.getD i zzd) t=true)∧(j<a.length→ltT (a.getD j zzd) t=false)∧(outK (z0c (S:=Bool) (R:=Empty) (fun i4 (a5:Bool)=>jn (fun(a24:Bool)=>bf a24 (some (.next false)) (some (.next a5))) fun j25=>bf (!(z0s (l.getD i4 zzd) t)) ((z4e (l.getD i4 zzd) t).bind fun r26=>j25 r26) (j25 false)) l.length 0 true) (fun(a6:Bool)=>outK (z0c (S:=Bool) (R:=Empty) (fun i7 (a8:Bool)=>need ((0+i7)<a.length)<|bf (z0s (a.getD (0+i7) zzd) t) (some (.next false)) (some (.next a8))) a.length 0 a6) (fun(a9:Bool)=>bf (!a9) (some (Ctl.next (R:=Empty) a)) (outK (loopN (S:=Int) (R:=Empty) (fun(a10:Int)=>jn (fun(a17:Bool)=>bf a17 (some (.next (zzi.wrap (a10+1)))) (some (.brk a10))) fun j18=>bf (decide (a10<(a.length:Int))) (need ((0:Int)≤a10∧a10<(a.length:Int))<|need ((0+a10.toNat)<a.length)<|(z36 (a.getD (0+a10.toNat) zzd) t).bind fun r22=>j18 (decide (r22<0))) (j18 false)) fuel 0) (fun(a11:Int)=>need ((0:Int)≤0∧(0:Int)≤a11∧a11≤(a.length:Int))<|need ((Av.sub a (0:Int) a11).length≤274877906944)<|need ((Av.sub a (0:Int) a11).length+([t]:List Time).length≤274877906944)<|need ((0:Int)≤a11∧a11≤(a.length:Int)∧(a.length:Int)≤(a.length:Int))<|need (((Av.sub a (0:Int) a11)++([t]:List Time)).length+(Av.sub a a11 (a.length:Int)).length≤274877906944)<|some (.next (((Av.sub a (0:Int) a11)++([t]:List Time))++(Av.sub a a11 (a.length:Int))))) (fun(x:Empty)=>x.elim))) (fun(x:Empty)=>x.elim)) (fun(x:Empty)=>x.elim))
 =some (.next (if z78 l t=true∧a.any (fun u=>z0s u t)=false then((a.take j++[t])++a.drop j)else a)):=by
 obtain⟨j,h1,h2,h3,h4,h5⟩:=zo9 (f:=a) (t:=t) (B:=(fun(a10:Int)=>jn (fun(a17:Bool)=>bf a17 (some (.next (zzi.wrap (a10+1)))) (some (.brk a10))) fun j18=>bf (decide (a10<(a.length:Int))) (need ((0:Int)≤a10∧a10<(a.length:Int))<|need ((0+a10.toNat)<a.length)<|(z36 (a.getD (0+a10.toNat) zzd) t).bind fun r22=>j18 (decide (r22<0))) (j18 false))) (fun i hi=>by
  simp only[jn_eq,z0b,intlt];by_cases hlt:i<a.length
  ·rw[if_pos hlt];simp(disch:=omega) only[zz1,zz4,z07,zfp,zz0,wadd1,hlt,true_and];unfold ltT;by_cases h:cmpT (a.getD i zzd) t<0
   ·simp[h,z07 trivial]
   ·simp[h,z07 trivial]
  ·rw[if_neg hlt,if_neg (fun h=>hlt h.1),z0l]) a.length fuel (zzc _) (by omega)
 rw[Nat.sub_self]at h1 h2 h4;rw[show((0:Nat):Int)=0 from rfl]at h1;refine⟨j,h3,fun i h=>h4 i (Nat.zero_le _) h,h5,?_⟩;rw[z3m (z78 l t) (fun i x=>x=z78 (l.take i) t) (fun x h=>by rw[h,List.take_of_length_le (zzc _)])]
 ·simp only[z2k];rw[z3m (z78 l t && !a.any (fun u=>z0s u t)) (fun i x=>x=(z78 l t && !(a.take i).any (fun u=>z0s u t))) (fun x h=>by rw[h,List.take_of_length_le (zzc _)])]
  ·simp only[z2k];by_cases hc:z78 l t=true∧a.any (fun u=>z0s u t)=false
   ·rw[hc.1,hc.2,if_pos (by simp[hc])];simp only[Bool.not_false,Bool.and_true,zzj,z0l];rw[h1];simp only[z2k];have s1:Av.sub a (0:Int) (j:Int)=a.take j:=by unfold Av.sub;simp
    have s2:Av.sub a (j:Int) (a.length:Int)=a.drop j:=by
     unfold Av.sub;rw[zz1,zz1,List.take_of_length_le (by rw[zzn];exact zzc _)]
    rw[s1,s2,z07 (by omega),z07 (by rw[zzh];omega),z07 (by rw[zzh,List.length_singleton];omega),z07 (by omega),z07 (by rw[zzo,zzh,List.length_singleton,zzn];omega)]
   ·rw[if_neg hc];have:(z78 l t && !a.any (fun u=>z0s u t))=false:=by
     cases h1:z78 l t<;>cases h2:a.any (fun u=>z0s u t)<;>simp_all
    rw[this,Bool.not_false,z3o]
  ·rintro i x hi rfl;refine⟨_,?_,rfl⟩;rw[zz4,z07 hi,z9a hi,List.any_append];generalize a.getD i zzd=u;cases h:z0s u t<;>simp[h]
  ·simp
 ·rintro i x hi rfl;refine⟨_,?_,rfl⟩;simp only[jn_eq,zhp,zz0];rw[z9a hi];have:z78 (l.take i++[l.getD i zzd]) t=(z78 (l.take i) t && !(!z0s (l.getD i zzd) t && leT (l.getD i zzd) t)):=by
   unfold z78;simp
  rw[this];cases z0s (l.getD i zzd) t<;>cases leT (l.getD i zzd) t<;>simp
 ·rfl
theorem zn3 {fuel:Nat}{l:List Time}(hz:l.length≤274877906944)(hf:l.length+2<fuel):z63 fuel l=some (zb3 l):=by
 unfold z63;refine zqx (fun i (a:List Time)=>a.length≤i∧a.Pairwise (fun x y=>ltT x y=true)∧ ∀x,x∈a↔x∈l.take i∧z78 l x=true) ⟨zzc _,.nil,fun x=>by simp⟩ ?_ ?_
 ·rintro i a hi ⟨h1,h2,h3⟩;obtain⟨j,hj2,hj3,hj4,hb⟩:=zl9 (fuel:=fuel) (l:=l) (a:=a) (t:=l.getD i zzd) (by omega) (by omega);refine⟨_,hb,?_⟩;rw[z9a hi];clear hb;generalize l.getD i zzd=t at*;by_cases hc:z78 l t=true∧a.any (fun u=>z0s u t)=false
  ·rw[if_pos hc];have hne: ∀x∈a,x≠t:=fun x hx e=>by
    have:a.any (fun u=>z0s u t)=true:=List.any_eq_true.2 ⟨x,hx,zb2.2 e⟩;rw[hc.2]at this;cases this
   refine⟨by rw[zzo,zzo,zzh,List.length_singleton,zzn];omega,zob h2 hj2 hj3 hj4 hne,fun x=>?_⟩;rw[zru hj2,h3,zz6,zz9];constructor
   ·rintro(⟨g1,g2⟩|rfl)
    ·exact⟨.inl g1,g2⟩
    ·exact⟨.inr rfl,hc.1⟩
   ·rintro⟨g1|rfl,g2⟩
    ·exact .inl ⟨g1,g2⟩
    ·exact .inr rfl
  ·rw[if_neg hc];refine⟨by omega,h2,fun x=>?_⟩;rw[h3,zz6,zz9];constructor
   ·rintro⟨g1,g2⟩;exact⟨.inl g1,g2⟩
   ·rintro⟨g1|rfl,g2⟩
    ·exact⟨g1,g2⟩
    ·have ha:a.any (fun u=>z0s u x)=true:=by
      cases e:a.any (fun u=>z0s u x)with
      |true=>rfl
      |false=>exact absurd ⟨g2,e⟩ hc
     obtain⟨u,hu,he⟩:=List.any_eq_true.1 ha;rw[zb2.1 he]at hu;exact(h3 x).1 hu
 ·rintro a ⟨h1,h2,h3⟩;rw[List.take_of_length_le (zzc _)]at h3;have:=zo7 l
  congr 1;refine zjg h2 this.sorted fun x=>?_;rw[h3,this.mem,zoc]
end Go.Av
namespace Go.Av
open Go
def adv (t:Time)(f:List Time):Time:=if f=[]then t else lub2 t (glbL f)
theorem zpf {t a b:Time}:glb2 (lub2 t a) (lub2 t b)=lub2 t (glb2 a b):=by
 refine Time.ext' ?_ ?_ ?_<;>simp only[lub2,glb2,mx_eq,mn_eq]<;>omega
theorem zlr {t:Time}{f:List Time}(h:f≠[]):glbL (f.map (lub2 t))=lub2 t (glbL f):=by
 cases f with
 |nil=>exact absurd rfl h
 |cons x f=>
  simp only[List.map_cons,glbL];induction f generalizing x with
  |nil=>rfl
  |cons y f ih=>
   simp only[List.map_cons,List.foldl_cons];rw[zpf];exact ih (glb2 x y) (by simp)
theorem zrt {t u:Time}(ht:z2z t)(hu:z2z u):z6t [t,u]=some (lub2 t u):=by
 unfold z6t;rw[zdg (fun x hx=>by
  rcases zzm.1 hx with rfl|hx
  ·exact ht
  ·rw[zz9.1 hx];exact hu),zi2 ht]
 rfl
theorem zig {t:Time}{f:List Time}(ht:z2z t)(hf:NN f)(hl:f.length≤274877906944):z70 t f=some (adv t f):=by
 unfold z70 adv;by_cases h0:f=[]
 ·rw[if_pos h0,h0];rfl
 ·have hlen:f.length≠0:=fun e=>h0 (List.eq_nil_of_length_eq_zero e);rw[if_neg h0,decide_eq_false (by omega),z0l,z07 (by unfold lim;omega)];rw[z3m (f.map (lub2 t)) (fun i a=>a=(f.take i).map (lub2 t)++zz8 (f.length-i) (⟨0,(0,0)⟩:Time)) (fun a h=>by rw[h,List.take_of_length_le (zzc _),Nat.sub_self];simp)]
  ·simp only[z2k];unfold zc8;rw[zlq,zlr h0];rfl
  ·rintro i a hi rfl;refine⟨_,?_,rfl⟩;have hlen2:((f.take i).map (lub2 t)++zz8 (f.length-i) (⟨0,(0,0)⟩:Time)).length=f.length:=by
    rw[zzo,List.length_map,zzh,List.length_replicate];omega
   rw[zrt ht (hf _ (zcv hi)),zz0,hlen2,zz4,z07 (by omega),z07 (by omega),z9a hi,List.map_append,show f.length-i=(f.length-(i+1))+1 by omega,List.replicate_succ];have e:=List.set_append_right (s:=(f.take i).map (lub2 t)) (t:=(⟨0,(0,0)⟩:Time)::zz8 (f.length-(i+1)) (⟨0,(0,0)⟩:Time)) i (lub2 t (f.getD i zzd)) (by rw[List.length_map,zzh];omega);rw[e,List.length_map,zzh,show i-min i f.length=0 by omega];simp
  ·simp
theorem zfn {t:Time}{f:List Time}(ht:z2z t)(hf:NN f)(hl:f.length≤274877906944):z4m t f=some (adv t f):=by
 unfold z4m adv;by_cases h0:f=[]
 ·rw[if_pos h0,h0];rfl
 ·have hlen:f.length≠0:=fun e=>h0 (List.eq_nil_of_length_eq_zero e);rw[if_neg h0,decide_eq_false (by omega),z0l];rw[z3m (f.map (lub2 t)) (fun i a=>a=(f.take i).map (lub2 t)) (fun a h=>by rw[h,List.take_of_length_le (zzc _)])]
  ·simp only[z2k];rw[zpl,zlr h0];rfl
  ·rintro i a hi rfl;refine⟨_,?_,rfl⟩;rw[zpm,zi2 ht,zz0,z07 (by rw[List.length_map,zzh,List.length_singleton];omega),z9a hi,List.map_append];rfl
  ·rfl
end Go.Av
namespace Go.Av
open Go
def Fr (l:List Time):Prop:=(∀t∈l,okT t=true)∧zb3 l=l
theorem zou {fuel:Nat}(hf:5<fuel)(l:List Time): ∃e,z4h fuel l=some e∧(e=0↔ ∀t∈l,okT t=true):=by
 unfold z4h;rw[zap (fun t=>if okT t=true then 0 else 1) (fun x=>x)]
 ·have key: ∀l:List Time,l.foldr (fun x v=>thenC (if okT x=true then 0 else 1) v) (0:Int)=0↔ ∀t∈l,okT t=true:=fun l=>by
   induction l with
   |nil=>simp
   |cons t l ih=>
    rw[List.foldr_cons,zat,ih];by_cases h:okT t=true<;>simp[h]
  refine⟨l.foldr (fun x v=>thenC (if okT x=true then 0 else 1) v) (0:Int),?_,key l⟩;split
  ·rename_i h;rw[h];rfl
  ·rfl
 ·intro i hi;have h:=zem hf (l.getD i zzd)
  unfold z4h at h;simp only[List.length_cons,List.length_nil,zz4,z0c,List.getD_cons_zero]at h;simp only[znn hf,zz0,z0b]at h ⊢;generalize l.getD i zzd=t at*;unfold okT at*;simp only[mx_eq]at*;by_cases g:4611686018427387904<max t.epoch (max t.loop.1 t.loop.2)
  ·rw[if_pos g,if_neg (by rw[if_neg (by simp only[Bool.and_eq_true,decide_eq_true_eq];omega)];decide),if_neg (by simp only[Bool.and_eq_true,decide_eq_true_eq];omega)]
  ·rw[if_neg g,if_pos (by rw[if_pos (by simp only[Bool.and_eq_true,decide_eq_true_eq];omega)])]
theorem zkd (a b:List Time): ∃r,z1p a b=some r∧(r=true↔a=b):=by
 unfold z1p;by_cases hl:a.length=b.length
 ·rw[decide_eq_true (by omega:(a.length:Int)=(b.length:Int))];simp only[zzj,z0l];have key: ∀k i,i+k=a.length→ ∃r,outK (z0c (S:=Unit) (R:=Bool) (fun i1 (a2:Unit)=>need ((0:Int)≤((i1:Nat):Int)∧((i1:Nat):Int)<(b.length:Int))<|bf (!(z0s (a.getD i1 zzd) (b.getD i1 zzd))) (some (.ret false)) (some (.next ()))) k i ()) (fun(a3:Unit)=>some true) (fun x=>some x)=some r∧(r=true↔a.drop i=b.drop i):=by
   intro k;induction k with
   |zero=>
    intro i hi;refine⟨true,rfl,?_⟩;rw[zzk (by omega:a.length≤i),zzk (by omega:b.length≤i)];simp
   |succ k ih=>
    intro i hi;simp only[z0c];rw[z07 (by omega),z1e (by omega:i<a.length),z1e (by omega:i<b.length)];by_cases he:z0s (a.getD i zzd) (b.getD i zzd)=true
    ·rw[he];obtain⟨r,h1,h2⟩:=ih (i+1) (by omega);refine⟨r,h1,?_⟩;rw[h2,zb2.1 he];simp
    ·have he':z0s (a.getD i zzd) (b.getD i zzd)=false:=by simpa using he
     rw[he'];refine⟨false,rfl,?_⟩;simp only[zzl,false_iff,List.cons.injEq,not_and];intro h;exact absurd (zb2.2 h) he
  obtain⟨r,h1,h2⟩:=key a.length 0 (by omega);exact⟨r,h1,by simpa using h2⟩
 ·rw[decide_eq_false (by omega: ¬(a.length:Int)=(b.length:Int))];exact⟨false,rfl,by simp;intro h;exact hl (by rw[h])⟩
theorem zhz {fuel:Nat}{l:List Time}(hf:20000000≤fuel)(hn:l.length≤2000000)(hl:NN l): ∃b,z6x fuel l=some b∧(b=true↔Fr l):=by
 unfold z6x;obtain⟨e,h1,h2⟩:=zou (fuel:=fuel) (by omega) l;rw[h1];simp only[zz0,jn_eq,z0b];by_cases h:e=0
 ·rw[if_pos h,zqg hl (by omega) (by omega)];obtain⟨r,g1,g2⟩:=zkd (zb3 l) l;simp only[zz0];rw[g1];exact⟨r,rfl,by rw[g2];exact⟨fun g=>⟨h2.1 h,g⟩,fun g=>g.2⟩⟩
 ·rw[if_neg h];exact⟨false,rfl,by simp only[zzl,false_iff];exact fun g=>h (h2.2 g.1)⟩
def advU (f:List Time)(u:Update):Update:=⟨u.key,u.row,adv u.time f,u.diff⟩
def advL (f:List Time)(l:List Update):List Update:=l.map (advU f)
def AdvOk (f:List Time)(l R:List Update)(e:Int):Prop:=(chkL l≠0∧R=[]∧e=chkL l)∨(chkL l=0∧ze2 (advL f l) R e)
theorem zmq {fuel:Nat}{f:List Time}{ls:List (List Update)}(hf:20000000≤fuel)(hF:NN f)(hl:f.length≤2000000)(hn:ls.flatten.length≤4000000)(hd: ∀u∈ls.flatten,in64 u.diff)(ht: ∀u∈ls.flatten,z2z u.time):
 ∃R e,z6z fuel f ls=some (R,e)∧AdvOk f ls.flatten R e∧R.length≤ls.flatten.length:=by
 unfold z6z;rw[show z10 ls=some ls.flatten from zlk hn];simp only[zz0];generalize ls.flatten=l at*;rw[z8z (by omega)];simp only[zz0,z4q,z0b];by_cases h:chkL l=0
 ·rw[if_pos h];rw[z3m (advL f l) (fun i a=>a=advL f (l.take i)++l.drop i) (fun s hs=>by rw[hs,List.take_length,List.drop_length,List.append_nil])]
  ·simp only[z2k];have hfl:([advL f l]:List (List Update)).flatten=advL f l:=by simp
   obtain⟨R,e,h1,h2,h3⟩:=zrk (fuel:=fuel) (ls:=[advL f l]) hf (by rw[hfl];simp[advL];exact hn) (fun u hu=>by
    rw[hfl]at hu;obtain⟨v,hv,rfl⟩:=List.mem_map.1 hu;exact hd v hv)
   rw[hfl]at h2 h3;rw[h1];exact⟨R,e,rfl,.inr ⟨h,h2⟩,by simpa [advL]using h3⟩
  ·intro i a hi ha;have hla:(advL f (l.take i)).length=i:=by simp[advL];omega
   have hlen:a.length=l.length:=by rw[ha];simp[hla];omega
   have hg:a.getD i zzd=l.getD i zzd:=by
    rw[ha,z1e hi];have:=zi0 (advL f (l.take i)) (l.drop (i+1)) (l.getD i zzd);rwa[hla]at this
   refine⟨_,?_,rfl⟩;simp only[zz4];rw[z07 (by omega),z07 (by omega),hg,zig (ht _ (z25 hi)) hF (by omega)];simp only[zz0];rw[z07 (by omega),z07 (by omega)];congr 2;rw[ha,z1e hi];have:=zh9 (advL f (l.take i)) (l.drop (i+1)) (l.getD i zzd) (advU f (l.getD i zzd))
   rw[hla]at this;have e1:advL f (l.take (i+1))=advL f (l.take i)++[advU f (l.getD i zzd)]:=by rw[z27 hi];simp[advL]
   rw[e1,List.append_assoc];exact this
  ·simp[advL]
 ·rw[if_neg h];exact⟨_,_,rfl,.inl ⟨h,rfl,rfl⟩,Nat.zero_le _⟩
def znd (f:List Time)(l:List Update)(B:Batch)(e:Int):Prop:=
 (¬Fr f∧e=4∧B=⟨[],[]⟩)∨(Fr f∧ ∃R e',AdvOk f l R e'∧R.length≤l.length∧((e'≠0∧e=e'∧B=⟨[],[]⟩)∨(e'=0∧e=0∧B=⟨f,R⟩)))
theorem zjx (B:Batch):z50 B B=some true:=by
 unfold z50;rw[zgp,zps];rfl
end Go.Av
namespace Go.Av
open Go
theorem zqn:z60 100000000=some true:=by kernel_rfl
theorem zro {n:Int}(h:okInt .i64 n):in64 n:=by
 have:=Go.bounds_i64 h;unfold in64;omega
theorem zf6 {n:Int}(h:okInt .u64 n):0≤n:=(Go.bounds_u64 h).1
theorem zko {t:Time}(h:zam t):z2z t:=⟨zf6 h.1,zf6 h.2.1.1,zf6 h.2.1.2⟩
abbrev okUs (l:List Update):Prop:=l.length≤maxN∧ ∀x∈l,z81 x
abbrev okTs (l:List Time):Prop:=l.length≤maxN∧ ∀x∈l,zam x
theorem us_in {l:List Update}(h:okUs l): ∀u∈l,in64 u.diff:=fun u hu=>zro (h.2 u hu).2.2.2.1
theorem us_nn {l:List Update}(h:okUs l): ∀u∈l,z2z u.time:=fun u hu=>zko (h.2 u hu).2.2.1
theorem ts_nn {l:List Time}(h:okTs l): ∀u∈l,z2z u:=fun u hu=>zko (h.2 u hu)
theorem zgy (l:List Update):l.length≤(l.map z32).sum:=z8l (f:=z32) (fun x=>by unfold z32;omega) l
theorem zjk (l:List Time):l.length≤(l.map z6h).sum:=z8l (f:=z6h) (fun x=>by unfold z6h;omega) l
end Go.Av
namespace Go.Av
open Go
theorem zpk {α:Type}[Inhabited α]{c:α→α→Int}(hC:IsCmp c){l:List α}(h: ∀j,0<j→j<l.length→c (l.getD (j-1) zzd) (l.getD j zzd)<0):l.Pairwise fun a b=>c a b<0:=by
 have key: ∀j i,i<j→j<l.length→c (l.getD i zzd) (l.getD j zzd)<0:=by
  intro j;induction j with
  |zero=>intro i hi;omega
  |succ j ih=>
   intro i hi hj;have h1:=h (j+1) (by omega) hj
   rw[Nat.add_sub_cancel]at h1;by_cases e:i=j
   ·subst e;exact h1
   ·exact hC.lt_tr (ih i (by omega) (by omega)) (by omega)
 rw[List.pairwise_iff_getElem];intro i j hi hj hij;have:=key j i hij hj
 rwa[List.getD_eq_getElem?_getD,List.getElem?_eq_getElem hi,List.getD_eq_getElem?_getD,List.getElem?_eq_getElem hj]at this
structure EvenP (l:List Update):Prop where
 lt:l.Pairwise fun a b=>cU a b<0
 nz: ∀r∈l,r.diff≠0
 ok: ∀r∈l,okU r
theorem EvenP.adj {l:List Update}(h:EvenP l){i:Nat}(h0:0<i)(hi:i<l.length):cU (l.getD (i-1) zzd) (l.getD i zzd)<0:=by
 have hs:=h.lt;rw[List.pairwise_iff_getElem]at hs;have:=hs (i-1) i (by omega) hi (by omega)
 rwa[List.getD_eq_getElem?_getD,List.getElem?_eq_getElem (by omega:i-1<l.length),List.getD_eq_getElem?_getD,List.getElem?_eq_getElem hi]
theorem zh4 {fuel:Nat}{l:List Update}(hf:20000000≤fuel)(hn:l.length≤4000000): ∃b,z5n fuel l=some b∧(b=true↔EvenP l):=by
 unfold z5n;rw[z8z (by omega)]
 let G:Option Bool→Prop:=fun q=> ∃b,q=some b∧(b=true↔EvenP l)
 refine z9x (G:=G) (fun i _=> ∀j,j<i→(l.getD j zzd).diff≠0∧(0<j→cU (l.getD (j-1) zzd) (l.getD j zzd)<0)) (fun _=> ∀j,j<l.length→(l.getD j zzd).diff≠0∧(0<j→cU (l.getD (j-1) zzd) (l.getD j zzd)<0))
  (fun r=>r=false∧ ¬EvenP l) (fun j hj=>by omega) (fun _ h=>h) ?_ ?_ ?_
 ·intro s h;refine⟨_,rfl,?_⟩;simp only[decide_eq_true_eq];rw[za2];refine⟨fun ho=>⟨zpk cU_is fun j h0 hj=>(h j hj).2 h0,fun r hr=>?_,ho⟩,fun hE=>hE.ok⟩;obtain⟨i,hi,rfl⟩:=List.mem_iff_getElem.1 hr;have:=(h i hi).1
  rwa[List.getD_eq_getElem?_getD,List.getElem?_eq_getElem hi]at this
 ·rintro r ⟨rfl,h⟩;exact⟨false,rfl,by simp[h]⟩
 ·intro i s hi h;simp only[jn_eq,z0b];by_cases h0:(l.getD i zzd).diff=0
  ·rw[if_pos h0];exact .inr (.inr ⟨_,rfl,rfl,fun hE=>hE.nz _ (z25 hi) h0⟩)
  ·rw[if_neg h0];by_cases g:0<((i:Nat):Int)
   ·rw[if_pos g,wsub1 (by omega) (by omega),z07 (by omega),z8y];simp only[zz0,z0b,zz1];by_cases k:0≤cU (l.getD (i-1) zzd) (l.getD i zzd)
    ·rw[if_pos k];exact .inr (.inr ⟨_,rfl,rfl,fun hE=>by have:=hE.adj (i:=i) (by omega) hi;omega⟩)
    ·rw[if_neg k];refine .inl ⟨_,rfl,fun j hj=>?_⟩;by_cases e:j=i
     ·subst e;exact⟨h0,fun _=>by omega⟩
     ·exact h j (by omega)
   ·rw[if_neg g];refine .inl ⟨_,rfl,fun j hj=>?_⟩;by_cases e:j=i
    ·subst e;exact⟨h0,fun _=>by omega⟩
    ·exact h j (by omega)
theorem zca {fuel:Nat}{l:List Update}(hf:20000000≤fuel)(hn:l.length≤4000000)(hk: ∀u∈l,z5r u): ∃b,z2x fuel l=some b∧(b=true↔EvenP l):=by
 obtain⟨b,h1,h2⟩:=zrm hf hn hk;obtain⟨b',h3,h4⟩:=zh4 (l:=l) hf hn;rw[h1]at h3;cases h3;exact⟨b,h2,h4⟩
def AdvP (f:List Time)(l:List Update):Prop:= ∀r∈l,adv r.time f=r.time
theorem znf {f:List Time}{l:List Update}:(l.any fun u=> !z0s (adv u.time f) u.time)=false↔AdvP f l:=by
 simp only[List.any_eq_false,AdvP,Bool.not_eq_true,Bool.not_eq_false',zb2]
theorem zjc {fuel:Nat}{f:List Time}{l:List Update}(hf:20000000≤fuel)(hF:NN f)(hl:f.length≤2000000)(hn:l.length≤4000000)(ht: ∀r∈l,z2z r.time): ∃b,z7g fuel l f=some b∧(b=true↔EvenP l∧AdvP f l):=by
 unfold z7g;obtain⟨b,h1,h2⟩:=zh4 (l:=l) hf hn;rw[h1];simp only[zz0,jn_eq];cases b with
 |false=>exact⟨false,rfl,by simp only[zzl,false_iff];exact fun g=>by have:=h2.2 g.1;cases this⟩
 |true=>
  rw[z3o];have hE:=h2.1 rfl;unfold z0y z12;have hany:=znf (f:=f) (l:=l)
  refine⟨!(l.any fun u=> !z0s (adv u.time f) u.time),?_,by rw[←hany];simp[hE]⟩;have hB: ∀i (u:Unit),i<l.length→(z6c (l.getD i zzd) f).bind (fun r4=>bf r4 (some (.ret ((i:Nat):Int))) (some (.next ())))=if(!z0s (adv (l.getD i zzd).time f) (l.getD i zzd).time)=true then some (Ctl.ret ((i:Nat):Int))else some (.next ()):=fun i u hi=>by
   unfold z6c;rw[zig (ht _ (z25 hi)) hF (by omega)];simp only[zz0];cases (!z0s (adv (l.getD i zzd).time f) (l.getD i zzd).time)<;>rfl
  cases hc:l.any fun u=> !z0s (adv u.time f) u.time with
  |false=>
   have e:=zbs (kn:=fun _=>some (-1:Int)) (kr:=fun x:Int=>some x) (p:=fun u:Update=> !z0s (adv u.time f) u.time) (f:=fun i=>(i:Int)) (q:=some (-1)) hB (fun _=>rfl) (fun i hi h=>by rw[hc]at h;cases h);rw[e];rfl
  |true=>
   have: ∃k:Nat,outK (z0c (S:=Unit) (R:=Int) (fun i1 (a2:Unit)=>(z6c (l.getD i1 zzd) f).bind fun r4=>bf r4 (some (.ret ((i1:Nat):Int))) (some (.next ()))) l.length 0 ()) (fun(a3:Unit)=>some (-1)) (fun x=>some x)=some ((k:Nat):Int):=by
    refine z9x (G:=fun q=> ∃k:Nat,q=some ((k:Nat):Int)) (fun i _=>(l.take i).any (fun u=> !z0s (adv u.time f) u.time)=false) (fun _=>False) (fun r=> ∃k:Nat,r=(k:Int)) rfl (fun s h=>by rw[List.take_length,hc]at h;cases h) (fun s h=>h.elim) (fun r ⟨k,h⟩=>⟨k,by rw[h]⟩) ?_;intro i s hi h;rw[hB i s hi];by_cases g:(!z0s (adv (l.getD i zzd).time f) (l.getD i zzd).time)=true
    ·rw[if_pos g];exact .inr (.inr ⟨_,rfl,i,rfl⟩)
    ·rw[if_neg g];refine .inl ⟨_,rfl,?_⟩;rw[z27 hi,List.any_append,h];simp only[List.any_cons,List.any_nil,Bool.or_false,Bool.false_or]
     simpa using g
   obtain⟨k,hk⟩:=this;rw[hk];have:decide (0≤((k:Nat):Int))=true:=by rw[decide_eq_true_eq];omega
   simp only[zz0,this]
def zie (b:Batch):Prop:=Fr b.since∧EvenP b.updates∧AdvP b.since b.updates
theorem zlh {fuel:Nat}{b:Batch}(hf:20000000≤fuel)(hF:NN b.since)(hl:b.since.length≤2000000)(hn:b.updates.length≤4000000)(ht: ∀r∈b.updates,z2z r.time):(z7y fuel b=some 0∧zie b)∨(z7y fuel b=some 4∧ ¬zie b):=by
 unfold z7y;obtain⟨x,h1,h2⟩:=zhz (fuel:=fuel) hf hl hF;rw[h1];simp only[zz0,jn_eq];cases x with
 |false=>right;exact⟨rfl,fun h=>by have:=h2.2 h.1;cases this⟩
 |true=>
  obtain⟨y,g1,g2⟩:=zjc (fuel:=fuel) hf hF hl hn ht;rw[g1];cases y with
  |false=>right;exact⟨rfl,fun h=>by have:=g2.2 h.2;cases this⟩
  |true=>left;exact⟨rfl,h2.1 rfl,g2.1 rfl⟩
end Go.Av
namespace Go.Av
open Go
theorem zm9 (l:List Time): ∃e,z35 l=some e∧(e=0↔ ∀t∈l,okT t=true):=by
 unfold z35;rw[zap (fun t=>if okT t=true then 0 else 1) (fun x=>x)]
 ·have key: ∀l:List Time,l.foldr (fun x v=>thenC (if okT x=true then 0 else 1) v) (0:Int)=0↔ ∀t∈l,okT t=true:=fun l=>by
   induction l with
   |nil=>simp
   |cons t l ih=>
    rw[List.foldr_cons,zat,ih];by_cases h:okT t=true<;>simp[h]
  refine⟨l.foldr (fun x v=>thenC (if okT x=true then 0 else 1) v) (0:Int),?_,key l⟩;split
  ·rename_i h;rw[h];rfl
  ·rfl
 ·intro i hi;have h:=zc0 (l.getD i zzd)
  unfold z35 at h;simp only[List.length_cons,List.length_nil,zz4,List.getD_cons_zero]at h;generalize l.getD i zzd=t at*;rw[show z0c (S:=Unit) (R:=Int) _ 1 0 ()=_ from rfl]at h;simp only[z0c,z0b,List.getD_cons_zero]at h ⊢;by_cases h1:4611686018427387904<t.epoch<;>by_cases h2:4611686018427387904<t.loop.1<;>by_cases h3:4611686018427387904<t.loop.2<;>simp[outK,h1,h2,h3]at h ⊢ <;>cases hk:okT t<;>simp[hk]at h ⊢
theorem zn5 (a b:List Time): ∃r,z3x a b=some r∧(r=true↔a=b):=by
 obtain⟨r,h1,h2⟩:=zkd a b;exact⟨r,h1,h2⟩
theorem ze0 {fuel:Nat}{l:List Time}(hf:20000000≤fuel)(hn:l.length≤2000000): ∃b,z4g fuel l=some b∧(b=true↔Fr l):=by
 unfold z4g z6q;obtain⟨e,h1,h2⟩:=zm9 l;rw[h1];simp only[zz0,jn_eq,z0b];by_cases h:e=0
 ·rw[if_pos h,zn3 (by omega) (by omega)];obtain⟨r,g1,g2⟩:=zn5 l (zb3 l);simp only[zz0];rw[g1];exact⟨r,rfl,by rw[g2];exact⟨fun g=>⟨h2.1 h,g.symm⟩,fun g=>g.2.symm⟩⟩
 ·rw[if_neg h];exact⟨false,rfl,by simp only[zzl,false_iff];exact fun g=>h (h2.2 g.1)⟩
theorem zkq {f:List Time}{l:List Update}(hF:NN f)(hl:f.length≤2000000)(ht: ∀r∈l,z2z r.time): ∃b,z46 l f=some b∧(b=true↔AdvP f l):=by
 unfold z46;have hany:=znf (f:=f) (l:=l)
 refine⟨!(l.any fun u=> !z0s (adv u.time f) u.time),?_,by rw[←hany];simp⟩;refine zbs (p:=fun u:Update=> !z0s (adv u.time f) u.time) (f:=fun i=>false) (fun i u hi=>?_) (fun h=>by rw[h];rfl) (fun i hi h=>by rw[h];rfl);rw[zfn (ht _ (z25 hi)) hF (by omega)];simp only[zz0];cases (!z0s (adv (l.getD i zzd).time f) (l.getD i zzd).time)<;>rfl
theorem zbd {fuel:Nat}{b:Batch}(hf:20000000≤fuel)(hF:NN b.since)(hl:b.since.length≤2000000)(hn:b.updates.length≤4000000)(ht: ∀r∈b.updates,z2z r.time)(hk: ∀u∈b.updates,z5r u):(z4f fuel b=some 0∧zie b)∨(z4f fuel b=some 4∧ ¬zie b):=by
 unfold z4f;obtain⟨x,h1,h2⟩:=ze0 (fuel:=fuel) hf hl;rw[h1];simp only[zz0,jn_eq];cases x with
 |false=>right;exact⟨rfl,fun h=>by have:=h2.2 h.1;cases this⟩
 |true=>
  obtain⟨y,g1,g2⟩:=zca (l:=b.updates) hf hn hk;rw[g1];cases y with
  |false=>right;exact⟨rfl,fun h=>by have:=g2.2 h.2.1;cases this⟩
  |true=>
   obtain⟨z,k1,k2⟩:=zkq (l:=b.updates) hF hl ht;simp only[zz0,zzj,z0l];rw[k1];cases z with
   |false=>right;exact⟨rfl,fun h=>by have:=k2.2 h.2.2;cases this⟩
   |true=>left;exact⟨rfl,h2.1 rfl,g2.1 rfl,k2.1 rfl⟩
abbrev kc (key:List Value)(u:Update):Int:=cmpL cmpV u.key key
def cntP (p:Update→Bool):List Update→Nat
 |[]=>0
 |u::l=>if p u then cntP p l+1 else 0
theorem z8p (p:Update→Bool): ∀l,cntP p l≤l.length
 |[]=>zzc _
 |u::l=>by
  unfold cntP;split
  ·simp only[List.length_cons];have:=z8p p l;omega
  ·exact Nat.zero_le _
theorem zjq {p:Update→Bool}: ∀{l:List Update} {i:Nat},i<cntP p l→p (l.getD i zzd)=true
 |[],i,h=>by simp[cntP]at h
 |u::l,i,h=>by
  unfold cntP at h;split at h
  ·rename_i hu
   cases i with
   |zero=>exact hu
   |succ i=>simp only[List.getD_cons_succ];exact zjq (by omega)
  ·omega
theorem zh1 {p:Update→Bool}: ∀{l:List Update},cntP p l<l.length→p (l.getD (cntP p l) zzd)=false
 |[],h=>by simp at h
 |u::l,h=>by
  unfold cntP at*;split
  ·rename_i hu
   rw[if_pos hu]at h;simp only[List.getD_cons_succ];exact zh1 (by simp only[List.length_cons]at h;omega)
  ·rename_i hu
   simpa using hu
theorem zoz {p:Update→Bool}{l:List Update}{n:Nat}(hn:n≤l.length)(h1: ∀i,i<n→p (l.getD i zzd)=true)(h2:n<l.length→p (l.getD n zzd)=false):cntP p l=n:=by
 have g1:=z8p p l;rcases Nat.lt_trichotomy (cntP p l) n with h|h|h
 ·have a:=zh1 (p:=p) (l:=l) (by omega);rw[h1 _ h]at a;cases a
 ·exact h
 ·have a:=zjq h;rw[h2 (by omega)]at a;cases a
end Go.Av
namespace Go.Av
open Go
theorem zo8 {l:List Update}{p:Update→Bool}{B:Nat→Unit→Option (Ctl Unit Int)}(hB: ∀i (u:Unit),i<l.length→B i u=if p (l.getD i zzd)=true then some (.next ())else some (.ret ((i:Nat):Int))):
 outK (z0c B l.length 0 ()) (fun _=>some (-1)) (fun x=>some x)=some (if cntP p l<l.length then((cntP p l:Nat):Int)else -1):=by
 refine z9x (G:=fun q=>q=some (if cntP p l<l.length then((cntP p l:Nat):Int)else -1)) (fun i _=> ∀j,j<i→p (l.getD j zzd)=true) (fun _=> ¬cntP p l<l.length) (fun r=>cntP p l<l.length∧r=((cntP p l:Nat):Int)) (fun j hj=>by omega) (fun s h hc=>?_) (fun s h=>by rw[if_neg h]) (fun r ⟨h,e⟩=>by rw[if_pos h,e]) ?_
 ·have:=zh1 hc;rw[h _ hc]at this;cases this
 ·intro i s hi h;rw[hB i s hi];by_cases g:p (l.getD i zzd)=true
  ·rw[if_pos g];refine .inl ⟨_,rfl,fun j hj=>?_⟩;by_cases e:j=i
   ·subst e;exact g
   ·exact h j (by omega)
  ·rw[if_neg g];have:cntP p l=i:=zoz (by omega) h fun _=>by simpa using g
   exact .inr (.inr ⟨_,rfl,by omega,by rw[this]⟩)
end Go.Av
namespace Go.Av
open Go
abbrev upTo (l:List Update)(key:List Value):Nat:=(l.filter fun u=>decide (kc key u≤0)).length
end Go.Av
namespace Go.Av
open Go
theorem zkk {α:Type}{f:α→Nat}: ∀{l:List α} {x:α},x∈l→f x≤(l.map f).sum
 |y::l,x,h=>by
  simp only[List.map_cons,List.sum_cons];rcases zzm.1 h with rfl|h
  ·omega
  ·have:=zkk (f:=f) h;omega
theorem zq3 (l:List Value):l.length≤(l.map z8e).sum:=z8l (f:=z8e) (fun x=>by unfold z8e;omega) l
theorem zr6 {u:Update}(h:z32 u≤1048576):z5r u:=by
 unfold z32 at h;have:=zq3 u.key
 have:=zq3 u.row;simp only at h;exact⟨by omega,by omega⟩
theorem zii {b:Batch}:(b.since.map z6h).sum+(b.updates.map z32).sum≤zbh b:=by
 unfold zbh;simp only;omega
theorem zd7 {l:List Update}(h:(l.map z32).sum≤1048576): ∀u∈l,z5r u:=fun u hu=>zr6 (by have:=zkk (f:=z32) hu;omega)
end Go.Av
namespace Go.Av
open Go
def zs7 (f:List Time)(l:List Update)(B:Batch)(e:Int):Prop:=
 (¬Fr f∧e=4∧B=⟨[],[]⟩)∨(Fr f∧ ∃R e',AdvOk f l R e'∧((e'≠0∧e=e'∧B=⟨[],[]⟩)∨(e'=0∧e=0∧B=⟨f,R⟩)))
theorem znd.r {f:List Time}{l:List Update}{B:Batch}{e:Int}(h:znd f l B e):zs7 f l B e:=by
 rcases h with h|⟨h1,R,e',h2,_,h3⟩
 ·exact .inl h
 ·exact .inr ⟨h1,R,e',h2,h3⟩
theorem znz {f:List Time}{l R R':List Update}{e e':Int}(h:AdvOk f l R e)(h':AdvOk f l R' e'):R=R'∧e=e':=by
 rcases h with⟨h1,rfl,rfl⟩|⟨h1,h2⟩
 ·rcases h' with⟨_,rfl,rfl⟩|⟨g1,_⟩
  ·exact⟨rfl,rfl⟩
  ·exact absurd g1 h1
 ·rcases h' with⟨g1,_⟩|⟨_,g2⟩
  ·exact absurd h1 g1
  ·exact zms h2 g2
theorem zm7 {f:List Time}{l:List Update}(hF:NN f)(hl:f.length≤2000000)(hn:l.length≤4000000)(ho: ∀u∈l,okU u)(ht: ∀u∈l,z2z u.time):z4n l f=some (advL f l):=by
 unfold z4n;rw[zgo ho hn];simp only[zz0];rw[z3m (advL f l) (fun i a=>a=advL f (l.take i)++l.drop i) (fun s hs=>by rw[hs,List.take_length,List.drop_length,List.append_nil])]
 ·rfl
 ·intro i a hi ha;have hla:(advL f (l.take i)).length=i:=by simp[advL];omega
  have hlen:a.length=l.length:=by rw[ha];simp[hla];omega
  have hg:a.getD i zzd=l.getD i zzd:=by
   rw[ha,z1e hi];have:=zi0 (advL f (l.take i)) (l.drop (i+1)) (l.getD i zzd);rwa[hla]at this
  refine⟨_,?_,rfl⟩;simp only[zz4];rw[z07 (by omega),z07 (by omega),hg,zfn (ht _ (z25 hi)) hF (by omega)];simp only[zz0];rw[z07 (by omega),z07 (by omega)];congr 2;rw[ha,z1e hi];have:=zh9 (advL f (l.take i)) (l.drop (i+1)) (l.getD i zzd) (advU f (l.getD i zzd))
  rw[hla]at this;have e1:advL f (l.take (i+1))=advL f (l.take i)++[advU f (l.getD i zzd)]:=by rw[z27 hi];simp[advL]
  rw[e1,List.append_assoc];exact this
 ·simp[advL]
def zel (since than:List Time):Bool:=decide (than=[])||(decide (since≠[]) && since.all fun t=>than.any fun u=>leT u t)
theorem znh {l:List Time}{p:Time→Bool}:(l.any fun t=> !p t)= !l.all p:=by rw[List.any_eq_not_all_not];simp
theorem zl1 {since than:List Time}(hF:NN since)(hT:NN than):z0q since than=some (!since.all fun t=>than.any fun u=>leT u t):=by
 unfold z0q z1b;have hB: ∀i (u:Unit),i<since.length→(z7f (since.getD i zzd) than).bind (fun r4=>bf r4 (some (.ret ((i:Nat):Int))) (some (.next ())))=if(!than.any fun u=>leT u (since.getD i zzd))=true then some (Ctl.ret ((i:Nat):Int))else some (.next ()):=fun i u hi=>by
  unfold z7f;rw[zk8 hT (hF _ (z25 hi))];simp only[zz0];cases (!than.any fun u=>leT u (since.getD i zzd))<;>rfl
 have hany:=znh (l:=since) (p:=fun t=>than.any fun u=>leT u t);rw[←hany];have: ∃z:Int,outK (z0c (S:=Unit) (R:=Int) (fun i1 (a2:Unit)=>(z7f (since.getD i1 zzd) than).bind fun r4=>bf r4 (some (.ret ((i1:Nat):Int))) (some (.next ()))) since.length 0 ()) (fun(a3:Unit)=>some (-1)) (fun x=>some x)=some z∧decide (0≤z)=since.any fun t=> !than.any fun u=>leT u t:=by
  refine z9x (G:=fun q=> ∃z:Int,q=some z∧decide (0≤z)=since.any fun t=> !than.any fun u=>leT u t) (fun i _=>(since.take i).any (fun t=> !than.any fun u=>leT u t)=false) (fun _=>since.any (fun t=> !than.any fun u=>leT u t)=false) (fun r=>0≤r∧since.any (fun t=> !than.any fun u=>leT u t)=true) rfl (fun s h=>by rwa[List.take_length]at h) (fun s h=>⟨_,rfl,by rw[h];rfl⟩) (fun r h=>⟨r,rfl,by rw[h.2];exact decide_eq_true h.1⟩) ?_;intro i s hi h;rw[hB i s hi];by_cases g:(!than.any fun u=>leT u (since.getD i zzd))=true
  ·rw[if_pos g];exact .inr (.inr ⟨_,rfl,by omega,List.any_eq_true.2 ⟨_,z25 hi,g⟩⟩)
  ·rw[if_neg g];refine .inl ⟨_,rfl,?_⟩;rw[z27 hi,List.any_append,h];simp only[List.any_cons,List.any_nil,Bool.or_false,Bool.false_or]
   simpa using g
 obtain⟨z,h1,h2⟩:=this;rw[h1];simp only[zz0,h2]
theorem zlv {since than:List Time}(hF:NN since)(hT:NN than):z7z since than=some (zel since than):=by
 unfold z7z zel;simp only[jn_eq,z0b];by_cases h:than=[]
 ·rw[h];rfl
 ·have h0: ¬(than.length:Int)=0:=fun e=>h (List.eq_nil_of_length_eq_zero (by omega));rw[if_neg h0,decide_eq_false h,Bool.false_or];by_cases g:since=[]
  ·rw[g];rfl
  ·have g0:0<(since.length:Int):=by have:=List.length_pos_iff.2 g;omega
   rw[if_pos g0,zl1 hF hT,decide_eq_true g];simp
theorem zhq {since than:List Time}:z55 since than=some (zel since than):=by
 unfold z55 zel;simp only[z0b];by_cases h:than=[]
 ·rw[h];rfl
 ·have h0: ¬(than.length:Int)=0:=fun e=>h (List.eq_nil_of_length_eq_zero (by omega));rw[if_neg h0,decide_eq_false h,Bool.false_or];have hany:=znh (l:=since) (p:=fun t=>than.any fun u=>leT u t)
  refine zbs (p:=fun t:Time=> !than.any fun u=>leT u t) (f:=fun i=>false) (fun i u hi=>?_) (fun h=>?_) (fun i hi h=>?_)
  ·rw[zm8];simp only[zz0];cases (!than.any fun u=>leT u (since.getD i zzd))<;>rfl
  ·rw[hany]at h;have h':since.all (fun t=>than.any fun u=>leT u t)=true:=by simpa using h
   rw[h',Bool.and_true];congr 1;rw[Bool.eq_iff_iff];simp only[decide_eq_true_eq];constructor
   ·intro k e;rw[e]at k;simp at k
   ·intro k;have:=List.length_pos_iff.2 k;omega
  ·rw[hany]at h;have h':since.all (fun t=>than.any fun u=>leT u t)=false:=by simpa using h
   rw[h',Bool.and_false]
end Go.Av
namespace Go.Av
open Go
section
variable {α:Type} {c:α→α→Int} {num:α→Int} {put:α→Int→α}
end
def krw (u v:Update):Int:=thenC (cmpL cmpV u.key v.key) (cmpL cmpV u.row v.row)
theorem zpb:IsCmp krw:=(zh0.list.on fun u:Update=>u.key).lex (zh0.list.on fun u:Update=>u.row)
theorem zh8 (u v:Update):z6m u v=some (krw u v):=by
 unfold z6m krw;rw[zd8,zd8];simp only[zz0,zpi];rfl
theorem zsg {f:List Time}{l:List Update}{p:Update×Int}(h:p∈pU (advL f l)): ∃u∈l,p.1=advU f u:=by
 obtain⟨x,h1,h2⟩:=zbe.1 h;obtain⟨u,h3,h4⟩:=List.mem_map.1 h1;exact⟨u,h3,by rw[←h2,←h4]⟩
end Go.Av
namespace Go.Av
open Go
abbrev PwU (D:List Update):Prop:=D.Pairwise fun a b=>cU a b<0
theorem PwU.drop {D:List Update}(h:PwU D)(n:Nat):PwU (D.drop n):=h.sublist (List.drop_sublist n D)
abbrev runN (u:Update)(D:List Update):Nat:=cntP (fun x=>decide (krw x u=0)) D
theorem zpr (l:List Update)(u:Update)(hn:l.length≤4000000):za1 l u=some ((runN u l:Nat):Int):=by
 unfold za1 z17;rw[zo8 (p:=fun x=>decide (krw x u=0)) (fun i s hi=>by
  unfold zb7;rw[zh8];simp only[zz0,z4q,z0b,decide_eq_true_eq])]
 have:=z8p (fun x=>decide (krw x u=0)) l;simp only[zz0,z0b];by_cases h:cntP (fun x=>decide (krw x u=0)) l<l.length
 ·rw[if_pos h,if_neg (by omega)]
 ·rw[if_neg h,if_pos (by omega)];congr 1;show(l.length:Int)=((cntP (fun x=>decide (krw x u=0)) l:Nat):Int);omega
structure MInv (f:List Time) (A B:List Update) (i j:Nat) (out:List Update):Prop where
 hi:i≤A.length
 hj:j≤B.length
 sep: ∀x∈A.take i++B.take j,∀y∈A.drop i++B.drop j,krw x y<0
 tot:TotU (advL f (A.take i++B.take j)) out 0
 len:out.length≤i+j
structure MCtx (f:List Time) (A B:List Update):Prop where
 hF:NN f
 fr:Fr f
 fl:f.length≤2000000
 eA:EvenP A
 eB:EvenP B
 lA:A.length≤2000000
 lB:B.length≤2000000
 tA: ∀r∈A,z2z r.time
 tB: ∀r∈B,z2z r.time
 dA: ∀r∈A,in64 r.diff
 dB: ∀r∈B,in64 r.diff
section
variable {f:List Time} {A B:List Update} {i j:Nat} {out:List Update} {fuel:Nat}
theorem MCtx.ok (c:MCtx f A B): ∀u∈A++B,okU u:=fun u hu=>by
 rcases zz6.1 hu with h|h
 ·exact c.eA.ok u h
 ·exact c.eB.ok u h
theorem MInv.of (h:MInv f A B i j out): ∀r∈out,∃x∈A.take i++B.take j,∀y,krw r y=krw x y:=fun r hr=>by
 rcases h.tot with⟨_,g,_⟩|⟨g,_⟩
 ·obtain⟨p,hp,e⟩:=g.mem r hr;obtain⟨u,hu,e2⟩:=zsg hp;exact⟨u,hu,fun y=>by rw[e,e2];rfl⟩
 ·omega
theorem znt (l:List Update){n:Nat}(h:n≤l.length):Av.sub l (n:Int) (l.length:Int)=l.drop n:=by
 unfold Av.sub;simp only[zz1];exact List.take_of_length_le (by simp)
theorem sub_zero (l:List Update)(n:Nat):Av.sub l 0 (n:Int)=l.take n:=by
 unfold Av.sub;simp
end
end Go.Av
namespace Go.Av
open Go
theorem zd4 {l:List Update}(h: ∀u∈l,z5r u)(hn:l.length≤4000000):z1d l=some l:=by
 unfold z1d z4r;rw[z3m l (fun i a=>a=l.take i) (fun s hs=>by rw[hs,List.take_length])]
 ·rfl
 ·intro i a hi ha;obtain⟨h1,h2⟩:=h _ (z25 hi);refine⟨_,?_,rfl⟩;rw[z07 (by omega),z07 (by omega)];simp only[zz0];rw[z07 (by rw[ha,zzh];simp;omega),ha,z27 hi]
 ·rfl
theorem z95 {fuel:Nat}{u v:Update}(hf:20000000≤fuel)(h:z5r u):z2e fuel u v=some (krw u v):=by
 unfold z2e krw;rw[zcb _ _ (by have:=h.1;omega) (by have:=h.1;unfold maxN;omega)];simp only[zz0,jn_eq,z0b];unfold thenC;split
 ·rw[zcb _ _ (by have:=h.2;omega) (by have:=h.2;unfold maxN;omega)];rfl
 ·rfl
structure CutP (l:List Update) (i:Int) (out:List Update):Prop where
 lo:0≤i
 hi:i≤(l.length:Int)
 ne:0<i→i<(l.length:Int)→krw (l.getD (i.toNat-1) zzd) (l.getD i.toNat zzd)≠0
 lt:i<(l.length:Int)→out.length≠0→krw (out.getD (out.length-1) zzd) (l.getD i.toNat zzd)<0
theorem zp1 {l out:List Update}{i:Int}(hl:l.length≤4000000)(ho:out.length≤8000000): ∃b,za0 l i out=some b∧(b=true↔CutP l i out):=by
 unfold za0;simp only[jn_eq,z0b];by_cases h1:i<0
 ·rw[if_pos h1];exact⟨_,rfl,by simp only[zzl,false_iff];intro h;have:=h.lo;omega⟩
 ·rw[if_neg h1];by_cases h2:(l.length:Int)<i
  ·rw[if_pos h2];exact⟨_,rfl,by simp only[zzl,false_iff];intro h;have:=h.hi;omega⟩
  ·rw[if_neg h2];obtain⟨n,rfl⟩: ∃n:Nat,i=(n:Int):=⟨i.toNat,by omega⟩;by_cases h3:(n:Int)=(l.length:Int)
   ·rw[if_pos h3];exact⟨_,rfl,by simp only[true_iff];exact⟨by omega,by omega,fun _ h=>by omega,fun h=>by omega⟩⟩
   ·rw[if_neg h3];have key:(0<(n:Int)→krw (l.getD (n-1) zzd) (l.getD n zzd)≠0)→ ∃b,(if(out.length:Int)=0 then some true else(need ((0:Int)≤(zzi.wrap ((out.length:Int)-1))∧(zzi.wrap ((out.length:Int)-1))<(out.length:Int))<|need ((0:Int)≤(n:Int)∧(n:Int)<(l.length:Int))<|(z6m (out.getD ((zzi.wrap ((out.length:Int)-1)).toNat) zzd) (l.getD (n:Int).toNat zzd)).bind fun r10=>some (decide (r10<0))))=some b∧(b=true↔CutP l (n:Int) out):=fun hne=>by
     by_cases h0:(out.length:Int)=0
     ·rw[if_pos h0];exact⟨_,rfl,by simp only[true_iff];exact⟨by omega,by omega,fun g _=>by rw[zz1];exact hne g,fun _ g=>absurd (by omega) g⟩⟩
     ·rw[if_neg h0,wsub1 (by omega) (by omega),z07 (by omega),z07 (by omega),zz1,zz1,zh8];simp only[zz0];refine⟨_,rfl,?_⟩;rw[decide_eq_true_eq];constructor
      ·intro g;exact⟨by omega,by omega,fun g _=>by rw[zz1];exact hne g,fun _ _=>by rw[zz1];exact g⟩
      ·intro g;have:=g.lt (by omega) (by omega)
       rwa[zz1]at this
    by_cases g:0<(n:Int)
    ·rw[if_pos g,wsub1 (by omega) (by omega),z07 (by omega),z07 (by omega),zz1,zz1,zh8];simp only[zz0];by_cases g2:krw (l.getD (n-1) zzd) (l.getD n zzd)=0
     ·rw[if_pos g2];refine⟨_,rfl,?_⟩;simp only[zzl,false_iff];intro h;have:=h.ne g (by omega)
      rw[zz1]at this;exact this g2
     ·rw[if_neg g2];have:=key fun _=>g2;rwa[zz1]at this
    ·rw[if_neg g];exact key fun h=>absurd h g
theorem zkr {fuel:Nat}{l out:List Update}{i:Int}(hf:20000000≤fuel)(hl:l.length≤4000000)(ho:out.length≤8000000)(hk: ∀u∈l,z5r u)(hk': ∀u∈out,z5r u): ∃b,z5t fuel l i out=some b∧(b=true↔CutP l i out):=by
 unfold z5t;simp only[jn_eq,z0b];by_cases h1:i<0
 ·rw[if_pos h1];exact⟨_,rfl,by simp only[zzl,false_iff];intro h;have:=h.lo;omega⟩
 ·rw[if_neg h1];by_cases h2:(l.length:Int)<i
  ·rw[if_pos h2];exact⟨_,rfl,by simp only[zzl,false_iff];intro h;have:=h.hi;omega⟩
  ·rw[if_neg h2];obtain⟨n,rfl⟩: ∃n:Nat,i=(n:Int):=⟨i.toNat,by omega⟩;have key:(0<(n:Int)→(n:Int)<(l.length:Int)→krw (l.getD (n-1) zzd) (l.getD n zzd)≠0)→ ∃b,(if(out.length:Int)=0 then some true else if(n:Int)=(l.length:Int)then some true else(need ((0:Int)≤(zzi.wrap ((out.length:Int)-1))∧(zzi.wrap ((out.length:Int)-1))<(out.length:Int))<|need ((0:Int)≤(n:Int)∧(n:Int)<(l.length:Int))<|(z2e fuel (out.getD ((zzi.wrap ((out.length:Int)-1)).toNat) zzd) (l.getD (n:Int).toNat zzd)).bind fun r10=>some (decide (r10<0))))=some b∧(b=true↔CutP l (n:Int) out):=fun hne=>by
    by_cases h0:(out.length:Int)=0
    ·rw[if_pos h0];exact⟨_,rfl,by simp only[true_iff];exact⟨by omega,by omega,fun g g'=>by rw[zz1];exact hne g g',fun _ g=>absurd (by omega) g⟩⟩
    ·rw[if_neg h0];by_cases h3:(n:Int)=(l.length:Int)
     ·rw[if_pos h3];exact⟨_,rfl,by simp only[true_iff];exact⟨by omega,by omega,fun _ h=>by omega,fun h=>by omega⟩⟩
     ·rw[if_neg h3,wsub1 (by omega) (by omega),z07 (by omega),z07 (by omega),zz1,zz1,z95 hf (hk' _ (z25 (by omega)))];simp only[zz0];refine⟨_,rfl,?_⟩;rw[decide_eq_true_eq];constructor
      ·intro g;exact⟨by omega,by omega,fun g g'=>by rw[zz1];exact hne g g',fun _ _=>by rw[zz1];exact g⟩
      ·intro g;have:=g.lt (by omega) (by omega)
       rwa[zz1]at this
   by_cases g:0<(n:Int)
   ·rw[if_pos g];by_cases g':(n:Int)<(l.length:Int)
    ·rw[if_pos g',wsub1 (by omega) (by omega),z07 (by omega),z07 (by omega),zz1,zz1,z95 hf (hk _ (z25 (by omega)))];simp only[zz0];by_cases g2:krw (l.getD (n-1) zzd) (l.getD n zzd)=0
     ·rw[if_pos g2];refine⟨_,rfl,?_⟩;simp only[zzl,false_iff];intro h;have:=h.ne g (by omega)
      rw[zz1]at this;exact this g2
     ·rw[if_neg g2];have:=key fun _ _=>g2;rwa[zz1]at this
    ·rw[if_neg g'];exact key fun _ h=>absurd h g'
   ·rw[if_neg g];exact key fun h _=>absurd h g
structure MergP (m:Merger):Prop where
 fr:Fr m.since
 eA:EvenP m.a
 eB:EvenP m.b
 eO:EvenP m.out
 aO:AdvP m.since m.out
 cA:CutP m.a m.i m.out
 cB:CutP m.b m.j m.out
structure MergS (m:Merger):Prop where
 hF:NN m.since
 fl:m.since.length≤2000000
 lA:m.a.length≤2000000
 lB:m.b.length≤2000000
 lO:m.out.length≤2000000
 tA: ∀r∈m.a,z2z r.time
 tB: ∀r∈m.b,z2z r.time
 tO: ∀r∈m.out,z2z r.time
 dA: ∀r∈m.a,in64 r.diff
 dB: ∀r∈m.b,in64 r.diff
 kA: ∀r∈m.a,z5r r
 kB: ∀r∈m.b,z5r r
 kO: ∀r∈m.out,z5r r
theorem zgc {fuel:Nat}{m:Merger}(hf:20000000≤fuel)(s:MergS m):(z3v fuel m=some 0∧MergP m)∨(z3v fuel m=some 8∧ ¬MergP m):=by
 have lA:=s.lA;have lB:=s.lB;have lO:=s.lO
 unfold z3v;simp only[jn_eq];obtain⟨b1,g1,e1⟩:=zhz (fuel:=fuel) hf s.fl s.hF;rw[g1];cases b1 with
 |false=>right;exact⟨rfl,fun h=>by cases e1.2 h.fr⟩
 |true=>
  obtain⟨b2,g2,e2⟩:=zh4 (fuel:=fuel) (l:=m.a) hf (by omega);simp only[zz0,z3o];rw[g2];cases b2 with
  |false=>right;exact⟨rfl,fun h=>by cases e2.2 h.eA⟩
  |true=>
   obtain⟨b3,g3,e3⟩:=zh4 (fuel:=fuel) (l:=m.b) hf (by omega);simp only[zz0,z3o];rw[g3];cases b3 with
   |false=>right;exact⟨rfl,fun h=>by cases e3.2 h.eB⟩
   |true=>
    obtain⟨b4,g4,e4⟩:=zjc (fuel:=fuel) (l:=m.out) hf s.hF s.fl (by omega) s.tO;simp only[zz0,z3o];rw[g4];cases b4 with
    |false=>right;exact⟨rfl,fun h=>by cases e4.2 ⟨h.eO,h.aO⟩⟩
    |true=>
     obtain⟨b5,g5,e5⟩:=zp1 (l:=m.a) (i:=m.i) (out:=m.out) (by omega) (by omega);simp only[zz0,zzj,z0l];rw[g5];cases b5 with
     |false=>right;exact⟨rfl,fun h=>by cases e5.2 h.cA⟩
     |true=>
      obtain⟨b6,g6,e6⟩:=zp1 (l:=m.b) (i:=m.j) (out:=m.out) (by omega) (by omega);simp only[zz0,zzj,z0l];rw[g6];cases b6 with
      |false=>right;exact⟨rfl,fun h=>by cases e6.2 h.cB⟩
      |true=>left;exact⟨rfl,e1.1 rfl,e2.1 rfl,e3.1 rfl,(e4.1 rfl).1,(e4.1 rfl).2,e5.1 rfl,e6.1 rfl⟩
theorem z88 {fuel:Nat}{m:Merger}(hf:20000000≤fuel)(s:MergS m):(z2j fuel m=some 0∧MergP m)∨(z2j fuel m=some 8∧ ¬MergP m):=by
 have lA:=s.lA;have lB:=s.lB;have lO:=s.lO
 unfold z2j;simp only[jn_eq];obtain⟨b1,g1,e1⟩:=ze0 (fuel:=fuel) hf s.fl;rw[g1];cases b1 with
 |false=>right;exact⟨rfl,fun h=>by cases e1.2 h.fr⟩
 |true=>
  obtain⟨b2,g2,e2⟩:=zca (fuel:=fuel) (l:=m.a) hf (by omega) s.kA;simp only[zz0,zzj,z0l];rw[g2];cases b2 with
  |false=>right;exact⟨rfl,fun h=>by cases e2.2 h.eA⟩
  |true=>
   obtain⟨b3,g3,e3⟩:=zca (fuel:=fuel) (l:=m.b) hf (by omega) s.kB;simp only[zz0,zzj,z0l];rw[g3];cases b3 with
   |false=>right;exact⟨rfl,fun h=>by cases e3.2 h.eB⟩
   |true=>
    obtain⟨b4,g4,e4⟩:=zca (fuel:=fuel) (l:=m.out) hf (by omega) s.kO;simp only[zz0,zzj,z0l];rw[g4];cases b4 with
    |false=>right;exact⟨rfl,fun h=>by cases e4.2 h.eO⟩
    |true=>
     obtain⟨b7,g7,e7⟩:=zkq (l:=m.out) s.hF s.fl s.tO;simp only[zz0,zzj,z0l];rw[g7];cases b7 with
     |false=>right;exact⟨rfl,fun h=>by cases e7.2 h.aO⟩
     |true=>
      obtain⟨b5,g5,e5⟩:=zkr (fuel:=fuel) (l:=m.a) (i:=m.i) (out:=m.out) hf (by omega) (by omega) s.kA s.kO;simp only[zz0,zzj,z0l];rw[g5];cases b5 with
      |false=>right;exact⟨rfl,fun h=>by cases e5.2 h.cA⟩
      |true=>
       obtain⟨b6,g6,e6⟩:=zkr (fuel:=fuel) (l:=m.b) (i:=m.j) (out:=m.out) hf (by omega) (by omega) s.kB s.kO;simp only[zz0,zzj,z0l];rw[g6];cases b6 with
       |false=>right;exact⟨rfl,fun h=>by cases e6.2 h.cB⟩
       |true=>left;exact⟨rfl,e1.1 rfl,e2.1 rfl,e3.1 rfl,e4.1 rfl,e7.1 rfl,e5.1 rfl,e6.1 rfl⟩
end Go.Av
namespace Go.Av
open Go
section
variable {f:List Time} {A B:List Update} {i j:Nat} {out:List Update} {fuel:Nat}
def headU (A B:List Update)(i j:Nat):Update:=if i=A.length then B.getD j zzd else if j=B.length∨krw (A.getD i zzd) (B.getD j zzd)≤0 then A.getD i zzd else B.getD j zzd
theorem nextB (hi:i≤A.length)(hj:j≤B.length)(hl:i<A.length∨j<B.length): ∃u,z3b (⟨⟨A,B,(i:Int),(j:Int),f,out⟩⟩:Worker)=some (u,⟨⟨A,B,(i:Int),(j:Int),f,out⟩⟩)∧ ∀x,krw x u=krw x (headU A B i j):=by
 unfold z3b headU;simp only[jn_eq,z0b,zz1];by_cases g:(i:Int)<(A.length:Int)
 ·rw[if_pos g,if_neg (by omega: ¬i=A.length)];by_cases g2:(j:Int)=(B.length:Int)
  ·rw[if_pos g2,z07 (by omega),if_pos (.inl (by omega))];exact⟨_,rfl,fun x=>rfl⟩
  ·rw[if_neg g2,z07 (by omega),z07 (by omega),zh8];simp only[zz0,z0b];by_cases g3:krw (A.getD i zzd) (B.getD j zzd)<0
   ·rw[if_pos g3,z07 (by omega),if_pos (.inr (by omega))];exact⟨_,rfl,fun x=>rfl⟩
   ·rw[if_neg g3,z07 (by omega)];refine⟨_,rfl,fun x=>?_⟩;by_cases g4:krw (A.getD i zzd) (B.getD j zzd)≤0
    ·rw[if_pos (.inr g4)];exact(zpb.eqR x (show krw (A.getD i zzd) (B.getD j zzd)=0 by omega)).symm
    ·rw[if_neg (fun h=>by rcases h with h|h;omega;exact g4 h)]
 ·rw[if_neg g,z0l,z07 (by omega),if_pos (by omega:i=A.length)];exact⟨_,rfl,fun x=>rfl⟩
theorem nextR (hf:20000000≤fuel)(hi:i≤A.length)(hj:j≤B.length)(hl:i<A.length∨j<B.length)(hk: ∀u∈A,z5r u):z5l fuel (⟨A,B,(i:Int),(j:Int),f,out⟩:Merger)=some (headU A B i j):=by
 unfold z5l headU;simp only[jn_eq,z0b,zz1];by_cases g:(i:Int)=(A.length:Int)
 ·rw[if_pos g,z07 (by omega),if_pos (by omega:i=A.length)]
 ·rw[if_neg g,if_neg (by omega: ¬i=A.length)];by_cases g2:(j:Int)=(B.length:Int)
  ·rw[if_pos g2,z07 (by omega),if_pos (.inl (by omega))];rfl
  ·rw[if_neg g2,z07 (by omega),z07 (by omega),z95 hf (hk _ (z25 (by omega)))];simp only[zz0,z0b];by_cases g4:krw (A.getD i zzd) (B.getD j zzd)≤0
   ·rw[if_pos g4,z07 (by omega),if_pos (.inr g4)]
   ·rw[if_neg g4,z07 (by omega),if_neg (fun h=>by rcases h with h|h;omega;exact g4 h)]
theorem zqi (hi:i≤A.length)(hj:j≤B.length)(hl:i<A.length∨j<B.length):0<runN (headU A B i j) (A.drop i)+runN (headU A B i j) (B.drop j):=by
 have one: ∀(u:Update) (D:List Update),0<runN u (u::D):=fun u D=>by
  simp only[runN,cntP,zpb.refl,decide_true,if_true];omega
 unfold headU;by_cases g:i=A.length
 ·rw[if_pos g,z1e (show j<B.length by omega)];have:=one (B.getD j zzd) (B.drop (j+1));omega
 ·rw[if_neg g,z1e (show i<A.length by omega)];split
  ·have:=one (A.getD i zzd) (A.drop (i+1));omega
  ·rename_i h
   rw[z1e (show j<B.length by omega)];have:=one (B.getD j zzd) (B.drop (j+1));omega
theorem zr9 (c:MCtx f A B)(hf:20000000≤fuel)(hi:i≤A.length)(hj:j≤B.length)(hlen:out.length≤8000000)(hl:i<A.length∨j<B.length):
 ∃R e,AdvOk f ((A.drop i).take (runN (headU A B i j) (A.drop i))++(B.drop j).take (runN (headU A B i j) (B.drop j))) R e∧R.length≤runN (headU A B i j) (A.drop i)+runN (headU A B i j) (B.drop j)∧
  z2d fuel (⟨⟨A,B,(i:Int),(j:Int),f,out⟩⟩:Worker)=if e=0 then some (((runN (headU A B i j) (A.drop i)+runN (headU A B i j) (B.drop j):Nat):Int),0,⟨⟨A,B,((i+runN (headU A B i j) (A.drop i):Nat):Int),((j+runN (headU A B i j) (B.drop j):Nat):Int),f,out++R⟩⟩)else some (0,e,⟨⟨A,B,(i:Int),(j:Int),f,out⟩⟩):=by
 have lA:=c.lA;have lB:=c.lB
 obtain⟨u,h1,h2⟩:=nextB (f:=f) (out:=out) hi hj hl;unfold z2d;rw[h1];simp only[zz0];have er: ∀D,runN u D=runN (headU A B i j) D:=fun D=>by unfold runN;simp only[h2]
 rw[z07 (by omega),z07 (by omega),znt A hi,znt B hj,zpr _ _ (by simp;omega)];have nA:runN u (A.drop i)≤(A.drop i).length:=z8p _ _;have nB:runN u (B.drop j)≤(B.drop j).length:=z8p _ _
 simp only[zz0];rw[z07 (by omega),zpr _ _ (by simp;omega)];simp only[zz0];rw[z07 (by omega),sub_zero,sub_zero,er,er];rw[er]at nA nB;generalize runN (headU A B i j) (A.drop i)=na at*;generalize runN (headU A B i j) (B.drop j)=nb at*;have lx:((A.drop i).take na).length=na:=by simp only[zzh,zzn]at*;omega
 have ly:((B.drop j).take nb).length=nb:=by simp only[zzh,zzn]at*;omega
 simp only[zzn]at nA nB;have mx: ∀z∈(A.drop i).take na,z∈A:=fun z hz=>List.mem_of_mem_drop (List.mem_of_mem_take hz)
 have my: ∀z∈(B.drop j).take nb,z∈B:=fun z hz=>List.mem_of_mem_drop (List.mem_of_mem_take hz);generalize (A.drop i).take na=x at*;generalize (B.drop j).take nb=y at*;have hfl:([x,y]:List (List Update)).flatten=x++y:=by simp
 obtain⟨R,e,g1,g2,g3⟩:=zmq (fuel:=fuel) (f:=f) (ls:=[x,y]) hf c.hF c.fl (by rw[hfl,zzo];omega)
  (fun z hz=>by rw[hfl]at hz;rcases zz6.1 hz with g|g;exact c.dA z (mx z g);exact c.dB z (my z g))
  (fun z hz=>by rw[hfl]at hz;rcases zz6.1 hz with g|g;exact c.tA z (mx z g);exact c.tB z (my z g))
 rw[hfl]at g2 g3;rw[zzo,lx,ly]at g3;refine⟨R,e,g2,g3,?_⟩;rw[g1];simp only[zz0,z4q,z0b,lx,ly];by_cases he:e=0
 ·rw[if_pos he,if_pos he,z07 (by omega),wadd (by omega),wadd (by omega),wadd (by omega)]
 ·rw[if_neg he,if_neg he]
theorem znl {l:List Update}{u:Update}{p:Nat}{acc:List Update}(hp:p≤l.length)(hl:l.length≤4000000)(hf:20000000≤fuel){Bd:Int×List Update→Option (Ctl (Int×List Update) Empty)}
 (hB: ∀(q:Nat) (a:List Update),q≤l.length→a.length≤acc.length+l.length→Bd ((q:Int),a)=if q<l.length∧krw (l.getD q zzd) u=0 then some (.next (((q+1:Nat):Int),a++[l.getD q zzd]))else some (.brk ((q:Int),a))):
 loopN Bd fuel ((p:Int),acc)=some (.done (((p+runN u (l.drop p):Nat):Int),acc++(l.drop p).take (runN u (l.drop p)))):=by
 have hn:runN u (l.drop p)≤(l.drop p).length:=z8p _ _;simp only[zzn]at hn;have hg: ∀t,p+t<l.length→(l.drop p).getD t zzd=l.getD (p+t) zzd:=fun t ht=>by simp[List.getD_eq_getElem?_getD,List.getElem?_drop]
 have h:=zmz (R:=Empty) (fuel:=fuel) (n:=runN u (l.drop p)) (z:=(((p+runN u (l.drop p):Nat):Int),acc++(l.drop p).take (runN u (l.drop p)))) (fun t:Nat=>(((p+t:Nat):Int),acc++(l.drop p).take t)) (B:=Bd) (by omega) (fun t ht=>?_) ?_
 ·rw[List.take_zero,List.append_nil,Nat.add_zero]at h;exact h
 ·rw[hB _ _ (by omega) (by rw[zzo,zzh,zzn];omega)];have:=of_decide_eq_true (zjq (p:=fun x=>decide (krw x u=0)) ht);rw[hg t (by omega)]at this;rw[if_pos ⟨by omega,this⟩,Nat.add_assoc];rw[z27 (l:=l.drop p) (i:=t) (by rw[zzn];omega),hg t (by omega),List.append_assoc]
 ·rw[hB _ _ (by omega) (by rw[zzo,zzh,zzn];omega)];rw[if_neg];rintro⟨h1,h2⟩;have:=of_decide_eq_false (zh1 (p:=fun x=>decide (krw x u=0)) (l:=l.drop p) (by rw[zzn];show runN u (l.drop p)<_;omega))
  rw[hg _ (by show p+runN u (l.drop p)<_;omega)]at this;exact this h2
end
end Go.Av
namespace Go.Av
open Go
section
variable {f:List Time} {A B:List Update} {i j:Nat} {out:List Update} {fuel:Nat}
def toW:Out (Int×Merger) (Merger×Int×Int)→Out (Int×Worker) (Merger×Int×Int)
 | .done s=> .done (s.1,⟨s.2⟩)
 | .ret r=> .ret r
theorem zqo (c:MCtx f A B)(hf:20000000≤fuel)(p1:Int){Bd:Int×Worker→Option (Ctl (Int×Worker) (Merger×Int×Int))}{Br:Int×Merger→Option (Ctl (Int×Merger) (Merger×Int×Int))}{step:Int→Nat→Nat→List Update→Option (Ctl (Int×Merger) (Merger×Int×Int))}
 (hB: ∀(c0 i j:Nat) (out:List Update),Bd ((c0:Int),⟨⟨A,B,(i:Int),(j:Int),f,out⟩⟩)=if(c0:Int)<p1∧(i<A.length∨j<B.length)then
  ((z2d fuel (⟨⟨A,B,(i:Int),(j:Int),f,out⟩⟩:Worker)).bind fun r7=>if r7.2.1=0 then some (.next ((zzi.wrap ((c0:Int)+r7.1)),r7.2.2))else some (.ret (r7.2.2.merger,(c0:Int),r7.2.1)))else some (.brk ((c0:Int),⟨⟨A,B,(i:Int),(j:Int),f,out⟩⟩)))
 (hR: ∀(c0 i j:Nat) (out:List Update) (R:List Update) (e:Int),i≤A.length→j≤B.length→out.length+R.length≤100000000→c0+A.length+B.length≤100000000→(i<A.length∨j<B.length)→(c0:Int)<p1→
  AdvOk f ((A.drop i).take (runN (headU A B i j) (A.drop i))++(B.drop j).take (runN (headU A B i j) (B.drop j))) R e→Br ((c0:Int),⟨A,B,(i:Int),(j:Int),f,out⟩)=
  if e=0 then some (.next (((c0+(runN (headU A B i j) (A.drop i)+runN (headU A B i j) (B.drop j)):Nat):Int),⟨A,B,((i+runN (headU A B i j) (A.drop i):Nat):Int),((j+runN (headU A B i j) (B.drop j):Nat):Int),f,out++R⟩))else some (.ret (⟨A,B,(i:Int),(j:Int),f,out⟩,(c0:Int),e)))
 (hN: ∀(c0 i j:Nat) (out:List Update),¬((c0:Int)<p1∧(i<A.length∨j<B.length))→Br ((c0:Int),⟨A,B,(i:Int),(j:Int),f,out⟩)=some (.brk ((c0:Int),⟨A,B,(i:Int),(j:Int),f,out⟩))):
 ∀(k fuelN c0 i j:Nat) (out:List Update),A.length+B.length-(i+j)≤k→k<fuelN→c0+(A.length+B.length-(i+j))≤5000000→i≤A.length→j≤B.length→out.length+(A.length+B.length-(i+j))≤7000000→
  ∃o,loopN Bd fuelN ((c0:Int),⟨⟨A,B,(i:Int),(j:Int),f,out⟩⟩)=some (toW o)∧loopN Br fuelN ((c0:Int),⟨A,B,(i:Int),(j:Int),f,out⟩)=some o:=by
 have lA:=c.lA;have lB:=c.lB
 intro k;induction k with
 |zero=>
  intro fuelN c0 i j out hk hfu hc hi hj ho;cases fuelN with
  |zero=>omega
  |succ fuelN=>
   have e:=hB c0 i j out;rw[if_neg (by omega)]at e;rw[z11 e,z11 (hN c0 i j out (by omega))];exact⟨_,rfl,rfl⟩
 |succ k ih=>
  intro fuelN c0 i j out hk hfu hc hi hj ho;cases fuelN with
  |zero=>omega
  |succ fuelN=>
   have e:=hB c0 i j out;by_cases hl:(c0:Int)<p1∧(i<A.length∨j<B.length)
   ·rw[if_pos hl]at e;obtain⟨R,d,h1,h2,h3⟩:=zr9 (out:=out) c hf hi hj (by omega) hl.2;have hp:=zqi hi hj hl.2
    have nA:runN (headU A B i j) (A.drop i)≤(A.drop i).length:=z8p _ _;have nB:runN (headU A B i j) (B.drop j)≤(B.drop j).length:=z8p _ _
    simp only[zzn]at nA nB;have er:=hR c0 i j out R d hi hj (by omega) (by omega) hl.2 hl.1 h1
    rw[h3]at e;generalize runN (headU A B i j) (A.drop i)=na at*;generalize runN (headU A B i j) (B.drop j)=nb at*;by_cases hd:d=0
    ·rw[if_pos hd]at e er;simp only[zz0,if_true]at e;rw[wadd (by omega)]at e;rw[z1i e,z1i er];exact ih fuelN (c0+(na+nb)) (i+na) (j+nb) (out++R) (by omega) (by omega) (by omega) (by omega) (by omega) (by rw[zzo];omega)
    ·rw[if_neg hd]at e er;simp only[zz0]at e;rw[if_neg hd]at e;rw[z8f e,z8f er];exact⟨_,rfl,rfl⟩
   ·rw[if_neg hl]at e;rw[z11 e,z11 (hN c0 i j out hl)];exact⟨_,rfl,rfl⟩
theorem mctx (m:Merger)(s:MergS m)(p:MergP m):MCtx m.since m.a m.b:=⟨s.hF,p.fr,s.fl,p.eA,p.eB,s.lA,s.lB,s.tA,s.tB,s.dA,s.dB⟩
theorem znp {m:Merger}(s:MergS m)(p:MergP m):z6w m=some m:=by
 have lA:=s.lA;have lB:=s.lB;have lO:=s.lO;have hfl:=s.fl
 unfold z6w;rw[zd3 p.eA.ok (by omega),zd3 p.eB.ok (by omega),zd3 p.eO.ok (by omega)];unfold z0f;rw[z07 (by omega)];rfl
theorem zhx {m:Merger}(s:MergS m):z3c m=some m:=by
 have lA:=s.lA;have lB:=s.lB;have lO:=s.lO;have hfl:=s.fl
 unfold z3c;rw[zd4 s.kA (by omega),zd4 s.kB (by omega),zd4 s.kO (by omega)];simp only[zz0];rw[z07 (by omega)]
theorem zs5 {m:Merger}(s:MergS m)(hf:20000000≤fuel)(p1:Int): ∃r,z8g fuel m p1=some r∧z6k fuel m p1=some r:=by
 have lA:=s.lA;have lB:=s.lB;have lO:=s.lO
 unfold z8g z6k;rcases zgc (fuel:=fuel) hf s with⟨h1,p⟩|⟨h1,p⟩
 case inr=>
  rcases z88 (fuel:=fuel) hf s with⟨_,p'⟩|⟨h2,_⟩
  ·exact absurd p' p
  ·rw[h1,h2];exact⟨_,rfl,rfl⟩
 rcases z88 (fuel:=fuel) hf s with⟨h2,_⟩|⟨_,p'⟩
 case inr=>exact absurd p p'
 rw[h1,h2];simp only[zz0,decide_true,zzj,z0l];rw[znp s p,zhx s];simp only[zz0];have c:=mctx m s p
 have cA:=p.cA;have cB:=p.cB
 have kA:=s.kA;have kB:=s.kB
 rcases m with⟨A,B,i,j,f,out⟩;simp only at*;obtain⟨i,rfl⟩: ∃n:Nat,i=(n:Int):=⟨i.toNat,by have:=cA.lo;omega⟩;obtain⟨j,rfl⟩: ∃n:Nat,j=(n:Int):=⟨j.toNat,by have:=cB.lo;omega⟩;have hi:=cA.hi;have hj:=cB.hi
 have hr:=fun Bd Br step hB hR hN=>zqo (f:=f) (A:=A) (B:=B) (fuel:=fuel) c hf p1 (Bd:=Bd) (Br:=Br) (step:=step) hB hR hN (A.length+B.length) fuel 0 i j out (by omega) (by omega) (by omega) (by omega) (by omega) (by omega);rw[show((0:Nat):Int)=(0:Int)from rfl]at hr;refine Exists.elim (hr (fun(a3:Int×Worker)=>jn (fun(a5:Bool×Worker)=>bf a5.1 ((z2d fuel a5.2).bind fun r7=>bf (!decide (r7.2.1=0)) (some (.ret (r7.2.2.merger,a3.1,r7.2.1))) (some (.next ((zzi.wrap (a3.1+r7.1)),r7.2.2)))) (some (.brk (a3.1,a5.2)))) fun j6=>bf (decide (a3.1<p1)) ((z3f a3.2).bind fun r8=>j6 (r8.1,r8.2)) (j6 (false,a3.2)))
  (fun(a3:Int×Merger)=>jn (fun(a5:Bool)=>bf a5 ((z5l fuel a3.2).bind fun r7=>outK (loopN (S:=Int×(List Update)) (R:=Empty) (fun(a8:Int×(List Update))=>jn (fun(a22:Bool)=>bf a22 (need ((0:Int)≤a8.1∧a8.1<(a3.2.a.length:Int))<|need (a8.2.length+([(a3.2.a.getD a8.1.toNat zzd)]:List Update).length≤274877906944)<|some (.next ((zzi.wrap (a8.1+1)),(a8.2++([(a3.2.a.getD a8.1.toNat zzd)]:List Update))))) (some (.brk (a8.1,a8.2)))) fun j23=>bf (decide (a8.1<(a3.2.a.length:Int))) (need ((0:Int)≤a8.1∧a8.1<(a3.2.a.length:Int))<|(z2e fuel (a3.2.a.getD a8.1.toNat zzd) r7).bind fun r28=>j23 (decide (r28=0))) (j23 false)) fuel (a3.2.i,([]:List Update))) (fun(a9:Int×(List Update))=>outK (loopN (S:=Int×(List Update)) (R:=Empty) (fun(a10:Int×(List Update))=>jn (fun(a15:Bool)=>bf a15 (need ((0:Int)≤a10.1∧a10.1<(a3.2.b.length:Int))<|need (a10.2.length+([(a3.2.b.getD a10.1.toNat zzd)]:List Update).length≤274877906944)<|some (.next ((zzi.wrap (a10.1+1)),(a10.2++([(a3.2.b.getD a10.1.toNat zzd)]:List Update))))) (some (.brk (a10.1,a10.2)))) fun j16=>bf (decide (a10.1<(a3.2.b.length:Int))) (need ((0:Int)≤a10.1∧a10.1<(a3.2.b.length:Int))<|(z2e fuel (a3.2.b.getD a10.1.toNat zzd) r7).bind fun r21=>j16 (decide (r21=0))) (j16 false)) fuel (a3.2.j,a9.2)) (fun(a11:Int×(List Update))=>(z4n a11.2 a3.2.since).bind fun r12=>(z3g fuel ([r12]:List (List Update))).bind fun r13=>bf (!decide (r13.2=0)) (some (.ret (a3.2,a3.1,r13.2))) (need (a3.2.out.length+r13.1.length≤274877906944)<|some (.next ((zzi.wrap (a3.1+(a11.2.length:Int))),(⟨a3.2.a,a3.2.b,a9.1,a11.1,a3.2.since,(a3.2.out++r13.1)⟩:Merger))))) (fun(x:Empty)=>x.elim)) (fun(x:Empty)=>x.elim)) (some (.brk (a3.1,a3.2)))) fun j6=>bf (decide (a3.1<p1)) (bf (decide (a3.2.i<(a3.2.a.length:Int))) (j6 true) (j6 (decide (a3.2.j<(a3.2.b.length:Int))))) (j6 false))
  (fun _ _ _ _=>none) (fun c0 i j out=>?_) (fun c0 i j out R e hi hj ho hc hl hp hA=>?_) (fun c0 i j out hn=>?_)) ?_
 ·unfold z3f;simp only[jn_eq,z0b,z4q,Int.ofNat_lt];by_cases g:(c0:Int)<p1
  ·rw[if_pos g];by_cases g1:i<A.length
   ·rw[if_pos g1];simp only[zz0,z3o];rw[if_pos ⟨g,.inl g1⟩]
   ·rw[if_neg g1];by_cases g2:j<B.length
    ·rw[decide_eq_true g2,if_pos ⟨g,.inr g2⟩];simp only[zz0,z3o]
    ·rw[decide_eq_false g2,if_neg (fun x=>by rcases x.2 with y|y;exact g1 y;exact g2 y)];simp only[zz0,z0l]
  ·rw[if_neg g,if_neg (fun x=>g x.1),z0l]
 ·simp only[jn_eq,z0b,Int.ofNat_lt,z3o,z0l];rw[if_pos hp];have go: ∀{X:Type} (a b:X),(if i<A.length then a else if j<B.length then a else b)=a:=fun a b=>by
   rcases hl with h|h
   ·rw[if_pos h]
   ·rw[if_pos h];split<;>rfl
  rw[go,nextR hf hi hj hl kA];simp only[zz0];generalize headU A B i j=u at*;have nA:runN u (A.drop i)≤(A.drop i).length:=z8p _ _
  have nB:runN u (B.drop j)≤(B.drop j).length:=z8p _ _;simp only[zzn]at nA nB;have ea:=fun Bd hB=>znl (fuel:=fuel) (l:=A) (u:=u) (p:=i) (acc:=[]) hi (by omega) hf (Bd:=Bd) hB
  rw[ea]
  rotate_left
  ·intro q a hq ha;simp only[Int.ofNat_lt,zz1];simp only[List.length_nil,zz4]at ha;by_cases h1:q<A.length
   ·rw[if_pos h1,z07 (by omega),z95 hf (kA _ (z25 h1))];simp only[zz0];by_cases h2:krw (A.getD q zzd) u=0
    ·rw[if_pos h2,z07 (by omega),z07 (by simp;omega),wadd1 (by omega),if_pos ⟨h1,h2⟩]
    ·rw[if_neg h2,if_neg (fun h=>h2 h.2)]
   ·rw[if_neg h1,if_neg (fun h=>h1 h.1)]
  simp only[z2k,List.nil_append];have lx:((A.drop i).take (runN u (A.drop i))).length=runN u (A.drop i):=by simp only[zzh,zzn]at*;omega
  have ly:((B.drop j).take (runN u (B.drop j))).length=runN u (B.drop j):=by simp only[zzh,zzn]at*;omega
  have eb:=fun Bd hB=>znl (fuel:=fuel) (l:=B) (u:=u) (p:=j) (acc:=(A.drop i).take (runN u (A.drop i))) hj (by omega) hf (Bd:=Bd) hB;rw[eb]
  rotate_left
  ·intro q a hq ha;simp only[Int.ofNat_lt,zz1];by_cases h1:q<B.length
   ·rw[if_pos h1,z07 (by omega),z95 hf (kB _ (z25 h1))];simp only[zz0];by_cases h2:krw (B.getD q zzd) u=0
    ·rw[if_pos h2,z07 (by omega),z07 (by simp;omega),wadd1 (by omega),if_pos ⟨h1,h2⟩]
    ·rw[if_neg h2,if_neg (fun h=>h2 h.2)]
   ·rw[if_neg h1,if_neg (fun h=>h1 h.1)]
  simp only[z2k];have mx: ∀z∈(A.drop i).take (runN u (A.drop i)),z∈A:=fun z hz=>List.mem_of_mem_drop (List.mem_of_mem_take hz)
  have my: ∀z∈(B.drop j).take (runN u (B.drop j)),z∈B:=fun z hz=>List.mem_of_mem_drop (List.mem_of_mem_take hz);generalize runN u (A.drop i)=na at*;generalize runN u (B.drop j)=nb at*;generalize (A.drop i).take na=x at*;generalize (B.drop j).take nb=y at*;have hok: ∀z∈x++y,okU z:=fun z hz=>by
   rcases zz6.1 hz with g|g
   ·exact c.eA.ok z (mx z g)
   ·exact c.eB.ok z (my z g)
  have hlen:(x++y).length=na+nb:=by rw[zzo,lx,ly]
  rw[zm7 c.hF c.fl (by omega) hok (fun z hz=>by rcases zz6.1 hz with g|g;exact c.tA z (mx z g);exact c.tB z (my z g))];simp only[zz0];have hfl:([advL f (x++y)]:List (List Update)).flatten=advL f (x++y):=by simp
  obtain⟨R',e',g1,g2⟩:=zoi (fuel:=fuel) (ls:=[advL f (x++y)]) hf (by rw[hfl];simp only[advL,List.length_map];omega) (fun z hz=>by
   rw[hfl]at hz;obtain⟨v,hv,rfl⟩:=List.mem_map.1 hz;rcases zz6.1 hv with g|g
   ·exact c.dA v (mx v g)
   ·exact c.dB v (my v g))
  rw[hfl]at g2;obtain⟨rfl,rfl⟩:=znz hA (.inr ⟨za2.2 hok,g2⟩);rw[g1];simp only[zz0,z4q,z0b];by_cases he:e=0
  ·rw[if_pos he,if_pos he,z07 (by omega),hlen,wadd (by omega)]
  ·rw[if_neg he,if_neg he]
 ·simp only[jn_eq,z0b,Int.ofNat_lt];by_cases g:(c0:Int)<p1
  ·rw[if_pos g,if_neg (fun h=>hn ⟨g,.inl h⟩),if_neg (fun h=>hn ⟨g,.inr h⟩)]
  ·rw[if_neg g];rfl
 ·rintro o ⟨e1,e2⟩;rw[e1,e2];cases o with
  |done s=>exact⟨_,rfl,rfl⟩
  |ret r=>exact⟨_,rfl,rfl⟩
end
end Go.Av
namespace Go.Av
open Go
section
variable {fuel:Nat}
theorem zsb {m:Merger}(s:MergS m)(hf:20000000≤fuel): ∃r,z8x fuel m=some r∧z77 fuel m=some r:=by
 unfold z8x z77 z4u;simp only[jn_eq,z0b];rcases zgc (fuel:=fuel) hf s with⟨h1,p⟩|⟨h1,p⟩
 ·rcases z88 (fuel:=fuel) hf s with⟨h2,_⟩|⟨_,p'⟩
  ·rw[h1,h2,znp s p,zhx s];simp only[zz0,decide_true,zzj,z0l];by_cases g1:m.i<(m.a.length:Int)
   ·rw[if_pos g1,if_pos g1];exact⟨_,rfl,rfl⟩
   ·rw[if_neg g1,if_neg g1];by_cases g2:m.j<(m.b.length:Int)
    ·rw[decide_eq_true g2,if_pos g2];exact⟨_,rfl,rfl⟩
    ·rw[decide_eq_false g2,if_neg g2];exact⟨_,rfl,rfl⟩
  ·exact absurd p p'
 ·rcases z88 (fuel:=fuel) hf s with⟨_,p'⟩|⟨h2,_⟩
  ·exact absurd p' p
  ·rw[h1,h2];exact⟨_,rfl,rfl⟩
theorem zr8 {s:List Time}{a b:Batch}(hf:20000000≤fuel)(hF:NN s)(hl:s.length≤2000000)
 (haF:NN a.since) (hal:a.since.length≤2000000) (han:a.updates.length≤2000000) (hat: ∀r∈a.updates,z2z r.time) (hak: ∀r∈a.updates,z5r r)
 (hbF:NN b.since) (hbl:b.since.length≤2000000) (hbn:b.updates.length≤2000000) (hbt: ∀r∈b.updates,z2z r.time) (hbk: ∀r∈b.updates,z5r r):
 ∃r,z8o fuel s a b=some r∧z64 fuel s a b=some r:=by
 unfold z8o z64;simp only[jn_eq];rcases zlh (fuel:=fuel) hf haF hal (by omega) hat with⟨h1,p⟩|⟨h1,p⟩
 case inr=>
  rcases zbd (fuel:=fuel) hf haF hal (by omega) hat hak with⟨_,p'⟩|⟨h2,_⟩
  ·exact absurd p' p
  ·rw[h1,h2];exact⟨_,rfl,rfl⟩
 rcases zbd (fuel:=fuel) hf haF hal (by omega) hat hak with⟨h2,_⟩|⟨_,p'⟩
 case inr=>exact absurd p p'
 rw[h1,h2];simp only[zz0,decide_true,zzj,z0l];rcases zlh (fuel:=fuel) hf hbF hbl (by omega) hbt with⟨h1,q⟩|⟨h1,q⟩
 case inr=>
  rcases zbd (fuel:=fuel) hf hbF hbl (by omega) hbt hbk with⟨_,q'⟩|⟨h2,_⟩
  ·exact absurd q' q
  ·rw[h1,h2];exact⟨_,rfl,rfl⟩
 rcases zbd (fuel:=fuel) hf hbF hbl (by omega) hbt hbk with⟨h2,_⟩|⟨_,q'⟩
 case inr=>exact absurd q q'
 rw[h1,h2];simp only[zz0,decide_true,zzj,z0l];obtain⟨x,g1,g2⟩:=zhz (fuel:=fuel) hf hl hF;obtain⟨y,k1,k2⟩:=ze0 (fuel:=fuel) hf hl;have e:x=y:=by
  cases x<;>cases y<;>simp_all
 subst e;rw[g1,k1];cases x with
 |false=>exact⟨_,rfl,rfl⟩
 |true=>
  simp only[zz0,zzj,z0l];rw[zlv hF haF,zlv hF hbF,zhq,zhq];cases zel s a.since with
  |false=>exact⟨_,rfl,rfl⟩
  |true=>
   simp only[zz0,zzj,z0l];cases zel s b.since with
   |false=>exact⟨_,rfl,rfl⟩
   |true=>
    simp only[zz0,zzj,z0l];unfold z6w z0f;dsimp only;rw[zd3 p.2.1.ok (by omega),zd3 q.2.1.ok (by omega),zd3 (l:=[]) (fun u hu=>by cases hu) (by simp),zd4 hak (by omega),zd4 hbk (by omega)];simp only[zz0];rw[z07 (by omega),z07 (by omega)];exact⟨_,rfl,rfl⟩
theorem zfb (m:Merger):z4t m m=some true:=by
 unfold z4t;simp only[zps,zgp,zz0,z3o,decide_true,jn_eq]
theorem zhu {m:Merger}{p1:Int}{s:List Time}{a b:Batch}(hL:z60 fuel=some true)(hf:20000000≤fuel)(sm:MergS m)(hF:NN s)(hl:s.length≤2000000)
 (haF:NN a.since) (hal:a.since.length≤2000000) (han:a.updates.length≤2000000) (hat: ∀r∈a.updates,z2z r.time) (hak: ∀r∈a.updates,z5r r)
 (hbF:NN b.since) (hbl:b.since.length≤2000000) (hbn:b.updates.length≤2000000) (hbt: ∀r∈b.updates,z2z r.time) (hbk: ∀r∈b.updates,z5r r):
 z4d fuel m p1 s a b=some true:=by
 unfold z4d;obtain⟨r1,a1,a2⟩:=zs5 sm hf p1;obtain⟨r2,b1,b2⟩:=zsb sm hf;obtain⟨r3,c1,c2⟩:=zr8 (fuel:=fuel) hf hF hl haF hal han hat hak hbF hbl hbn hbt hbk;rw[zhx sm];simp only[zz0];rw[a1,a2,b1,b2,c1,c2,hL];simp only[zz0,jn_eq,z3o,zfb,zjx,decide_true];rcases zgc (fuel:=fuel) hf sm with⟨h1,p⟩|⟨h1,p⟩
 ·rcases z88 (fuel:=fuel) hf sm with⟨h2,_⟩|⟨_,p'⟩
  ·rw[h1,h2];simp only[zz0,decide_true,z3o,zfb]
  ·exact absurd p p'
 ·rcases z88 (fuel:=fuel) hf sm with⟨_,p'⟩|⟨h2,_⟩
  ·exact absurd p' p
  ·rw[h1,h2];simp only[zz0,decide_true,z3o,zfb]
end
end Go.Av
namespace Go.Av
open Go
theorem zqq {m:Merger}(h:zi6 m)(hb:zc2 m≤1048576):MergS m:=by
 obtain⟨hA,hB,_,_,hs,hO,_⟩:=h;unfold zc2 at hb;simp only at hb;have lA:=zgy m.a
 have lB:=zgy m.b;have lO:=zgy m.out
 have lS:=zjk m.since;exact⟨ts_nn hs,by omega,by omega,by omega,by omega,us_nn hA,us_nn hB,us_nn hO,us_in hA,us_in hB,zd7 (by omega),zd7 (by omega),zd7 (by omega)⟩
theorem zic {m:Merger}{p:Int}{s:List Time}{a b:Batch}(h1:zi6 m)(h2:okTs s)(h3:zjw a)(h4:zjw b)
 (hb:zc2 m+(1+(((s.map z6h).sum+1)+(zbh a+(zbh b+0))))≤1048576):z4d 100000000 m p s a b=some true:=by
 have:= @zii a;have:=zgy a.updates
 have:=zjk a.since;have:= @zii b
 have:=zgy b.updates;have:=zjk b.since
 have:=zjk s;exact zhu zqn (by omega) (zqq h1 (by omega)) (ts_nn h2) (by omega) (ts_nn h3.1) (by omega) (by omega) (us_nn h3.2.1) (zd7 (by omega)) (ts_nn h4.1) (by omega) (by omega) (us_nn h4.2.1) (zd7 (by omega))
end Go.Av
