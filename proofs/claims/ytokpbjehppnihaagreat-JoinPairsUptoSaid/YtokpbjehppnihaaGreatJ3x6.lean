import Derived.Test.YtokpbjehppnihaaGreatJ3x5
import Derived.Sort.AssemblyPlain
import Derived.KernelRfl
set_option maxRecDepth 100000
set_option linter.unusedVariables false
set_option linter.unusedSimpArgs false
set_option linter.unusedSectionVars false
open Go.IntKind renaming i64→zzi, u64→zzu
open Inhabited renaming default→zzd
open Option renaming bind_some→zz0
open List renaming mem_append→zz3, mem_singleton→zz4, mem_cons_self→zz5, mem_cons_of_mem→zz7, replicate→zz9, mem_cons→zzf, length_set→zzg, mem_filter→zzh, length_drop→zzj, drop_eq_nil_of_le→zzk, length_append→zzl, take_length→zzm, mem_map→zzn, mem_append_left→zzp
open Nat renaming zero_add→zza, le_refl→zzc
open Int renaming toNat_natCast→zze
open Array renaming length_toList→zzo
namespace Go.Av
open Go
section
variable {α:Type} [Inhabited α]
theorem zm9 {R:Type}{B:Int×Int→Option (Ctl (Int×Int) R)}{P:Nat→Bool}{i0 j0:Nat}: ∀(n i j fuel:Nat),j-i≤n→n<fuel→i0≤i→i≤j→j≤j0→(i=i0∨P (i-1)=true)→(j=j0∨P j=false)→
 (∀i j:Nat,i0≤i→i≤j→j≤j0→B ((i:Int),(j:Int))=if i<j then(if P ((i+j) / 2)=true then some (.next ((((i+j) / 2+1:Nat):Int),(j:Int)))else some (.next ((i:Int),(((i+j) / 2:Nat):Int))))else some (.brk ((i:Int),(j:Int))))→
 ∃r:Nat,loopN B fuel ((i:Int),(j:Int))=some (.done ((r:Int),(r:Int)))∧i0≤r∧r≤j0∧(r=i0∨P (r-1)=true)∧(r=j0∨P r=false):=by
 intro n;induction n with
 |zero=>
  intro i j fuel hn hf h1 h2 h3 h4 h5 hB;cases fuel with
  |zero=>omega
  |succ fuel=>
   have h:=hB i j h1 h2 h3;rw[if_neg (by omega)]at h;have:i=j:=by omega
   subst this;exact⟨i,z5r h,h1,h3,h4,h5⟩
 |succ n ih=>
  intro i j fuel hn hf h1 h2 h3 h4 h5 hB;cases fuel with
  |zero=>omega
  |succ fuel=>
   have h:=hB i j h1 h2 h3;by_cases hl:i<j
   ·rw[if_pos hl]at h;by_cases hp:P ((i+j) / 2)=true
    ·rw[if_pos hp]at h;rw[z5j h];exact ih _ j fuel (by omega) (by omega) (by omega) (by omega) h3 (.inr (by rw[Nat.add_sub_cancel];exact hp)) h5 hB
    ·rw[if_neg hp]at h;rw[z5j h];exact ih i _ fuel (by omega) (by omega) h1 (by omega) (by omega) h4 (.inr (by simpa using hp)) hB
   ·rw[if_neg hl]at h;have:i=j:=by omega
    subst this;exact⟨i,z5r h,h1,h3,h4,h5⟩
variable {lt:α→α→Bool}
theorem glue2 {a mid b:Nat}{d:Array α}(h1:Sort.SortedIn lt a mid d)(h2:Sort.SortedIn lt mid b d)(hx: ∀x y,a≤x→x<mid→mid≤y→y<b→lt d[y]! d[x]! =false):Sort.SortedIn lt a b d:=by
 intro i j hi hij hj;by_cases h3:j<mid
 ·exact h1 i j hi hij h3
 ·by_cases h4:mid≤i
  ·exact h2 i j h4 hij hj
  ·exact hx i j hi (by omega) (by omega) hj
theorem zg5 (hS:Sort.SWO lt){a m b s e:Nat}{d d':Array α}(h1:Sort.SortedIn lt a m d)(h2:Sort.SortedIn lt m b d)(hs:a≤s∧s≤m)(he:m≤e∧e≤b)(hr: ∀x,d'[x]! =rotF s m e d x)
 (hA:s=a∨e=b∨lt d[e]! d[s-1]! =false) (hB:s=m∨e=m∨lt d[e-1]! d[s]! =true):
 (∀x y,a≤x→x<s+(e-m)→s+(e-m)≤y→y<b→lt d'[y]! d'[x]! =false)∧Sort.SortedIn lt a s d'∧Sort.SortedIn lt s (s+(e-m)) d'∧Sort.SortedIn lt (s+(e-m)) e d'∧Sort.SortedIn lt e b d':=by
 --where each one comes from
 have f1: ∀x,x<s→d'[x]! =d[x]! :=fun x hx=>by rw[hr];unfold rotF;rw[if_neg (by omega),if_neg (by omega)]
 have f2: ∀x,s≤x→x<s+(e-m)→d'[x]! =d[x-s+m]! :=fun x hx hy=>by rw[hr];unfold rotF;rw[if_pos (by omega)]
 have f3: ∀x,s+(e-m)≤x→x<e→d'[x]! =d[x-(s+(e-m))+s]! :=fun x hx hy=>by rw[hr];unfold rotF;rw[if_neg (by omega),if_pos (by omega)]
 have f4: ∀x,e≤x→d'[x]! =d[x]! :=fun x hx=>by rw[hr];unfold rotF;rw[if_neg (by omega),if_neg (by omega)]
 have le1: ∀x y,a≤x→x≤y→y<m→lt d[y]! d[x]! =false:=fun x y g1 g2 g3=>by
  by_cases g:x=y
  ·subst g;exact hS.irrefl _
  ·exact h1 x y g1 (by omega) g3
 have le2: ∀x y,m≤x→x≤y→y<b→lt d[y]! d[x]! =false:=fun x y g1 g2 g3=>by
  by_cases g:x=y
  ·subst g;exact hS.irrefl _
  ·exact h2 x y g1 (by omega) g3
 refine⟨?_,?_,?_,?_,?_⟩
 ·intro x y hx1 hx2 hy1 hy2;by_cases c1:x<s
  ·rw[f1 x c1];by_cases c2:y<e
   ·rw[f3 y hy1 c2];exact le1 _ _ hx1 (by omega) (by omega)
   ·rw[f4 y (by omega)];rcases hA with h|h|h
    ·omega
    ·omega
    ·exact hS.ntrans _ _ _ (hS.ntrans _ _ _ (le2 e y (by omega) (by omega) hy2) h) (le1 x (s-1) hx1 (by omega) (by omega))
  ·rw[f2 x (by omega) hx2];by_cases c2:y<e
   ·rw[f3 y hy1 c2];rcases hB with h|h|h
    ·omega
    ·omega
    ·exact hS.ntrans _ _ _ (hS.ntrans _ _ _ (le1 s _ hs.1 (by omega) (by omega)) (hS.asymm h)) (le2 (x-s+m) (e-1) (by omega) (by omega) (by omega))
   ·rw[f4 y (by omega)];exact le2 _ _ (by omega) (by omega) hy2
 ·intro i j hi hij hj;rw[f1 i (by omega),f1 j hj];exact h1 i j hi hij (by omega)
 ·intro i j hi hij hj;rw[f2 i hi (by omega),f2 j (by omega) hj];exact h2 _ _ (by omega) (by omega) (by omega)
 ·intro i j hi hij hj;rw[f3 i hi (by omega),f3 j (by omega) hj];exact h1 _ _ (by omega) (by omega) (by omega)
 ·intro i j hi hij hj;rw[f4 i hi,f4 j (by omega)];exact h2 i j (by omega) hij hj
structure MergeTo (lt:α→α→Bool) (a b:Nat) (d d':Array α):Prop where
 perm:Sort.PermIn a b d d'
 sorted:Sort.SortedIn lt a b d'
theorem zky (hS:Sort.SWO lt){a mid b:Nat}{d d1 d2 d3:Array α}(hab:a≤mid∧mid≤b)(hb:b≤d.size)(hp:Sort.PermIn a b d d1)
 (hx: ∀x y,a≤x→x<mid→mid≤y→y<b→lt d1[y]! d1[x]! =false) (h2:MergeTo lt a mid d1 d2) (h3:MergeTo lt mid b d2 d3):MergeTo lt a b d d3:=by
 have s1:d1.size=d.size:=hp.1;have s2:d2.size=d1.size:=h2.perm.1
 have p2:Sort.PermIn a b d1 d2:=Sort.permIn_mono _ _ a mid a b (zzc _) hab.2 (by omega) h2.perm;have p3:Sort.PermIn a b d2 d3:=Sort.permIn_mono _ _ mid b a b hab.1 (zzc _) (by omega) h3.perm
 refine⟨Sort.permIn_trans _ _ _ a b hp (Sort.permIn_trans _ _ _ a b p2 p3),glue2 (mid:=mid) ?_ h3.sorted ?_⟩
 ·intro i j hi hij hj;rw[h3.perm.2.1 i (.inl (by omega)),h3.perm.2.1 j (.inl hj)];exact h2.sorted i j hi hij hj
 ·have c1: ∀x y,a≤x→x<mid→mid≤y→y<b→lt d2[y]! d2[x]! =false:=fun x y g1 g2 g3 g4=>by
   rw[h2.perm.2.1 y (.inr g3)];exact Sort.permIn_all d1 d2 a mid (fun z=>lt d1[y]! z=false) (by omega) h2.perm (fun i k1 k2=>hx i y k1 k2 g3 g4) x g1 g2
  intro x y g1 g2 g3 g4;rw[h3.perm.2.1 x (.inl g2)];exact Sort.permIn_all d2 d3 mid b (fun z=>lt z d2[x]! =false) (by omega) h3.perm (fun i k1 k2=>c1 x i g1 g2 k1 k2) y g3 g4
theorem zbk {a b:Nat}{d:Array α}(h:Sort.SortedIn lt a b d):MergeTo lt a b d d:=⟨Sort.permIn_refl d a b,h⟩
theorem z8n {a b:Nat}{d:Array α}(h:b≤a+1):Sort.SortedIn lt a b d:=fun i j h1 h2 h3=>by omega
end
end Go.Av
namespace Go.Av
open Go
section
variable {α:Type} [Inhabited α] {cmp:α→α→Option Int} {c:α→α→Int}
def ltC (c:α→α→Int)(x y:α):Bool:=decide (c x y<0)
theorem zns {a fuel:Nat}{B:Int×List α→Option (Ctl (Int×List α) Empty)}{j:Nat}{d:Array α}(hj:j<d.size)(hf:j<fuel)
 (hB: ∀(j:Nat) (d':Array α),j<d'.size→d'.size=d.size→B ((j:Int),d'.toList)=if a<j∧ltC c d'[j]! d'[j-1]! =true then some (.next (((j-1:Nat):Int),(Sort.swp d' j (j-1)).toList))else some (.brk ((j:Int),d'.toList))):
 ∃x:Int,loopN B fuel ((j:Int),d.toList)=some (.done (x,(Sort.insInner (ltC c) a j d).toList)):=by
 induction j generalizing d fuel with
 |zero=>
  cases fuel with
  |zero=>omega
  |succ fuel=>
   refine⟨0,z5r (s':=(((0:Nat):Int),d.toList)) ?_⟩;rw[hB 0 d hj rfl,if_neg (by omega)]
 |succ j ih=>
  cases fuel with
  |zero=>omega
  |succ fuel=>
   have h:=hB (j+1) d hj rfl;rw[Nat.add_sub_cancel]at h;unfold Sort.insInner;by_cases hc:a<j+1∧ltC c d[j+1]! d[j]! =true
   ·rw[if_pos hc]at h;rw[z5j h,if_pos (by simp[hc.1,hc.2])];exact ih (by rw[zdz];omega) (by omega) (fun k d' h1 h2=>hB k d' h1 (by rw[h2,zdz]))
   ·rw[if_neg hc]at h;rw[z5r h,if_neg (by simpa using hc)];exact⟨_,rfl⟩
theorem znt {a b fuel:Nat}{B:Int×List α→Option (Ctl (Int×List α) Empty)}{n i:Nat}{d:Array α}(hn:b-i=n)(hb:b≤d.size)(hf:b-i<fuel)
 (hB: ∀(i:Nat) (d':Array α),d'.size=d.size→B ((i:Int),d'.toList)=if i<b then some (.next (((i+1:Nat):Int),(Sort.insInner (ltC c) a i d').toList))else some (.brk ((i:Int),d'.toList)))
 (hs: ∀(i:Nat) (d':Array α),(Sort.insInner (ltC c) a i d').size=d'.size):
 ∃x:Int,loopN B fuel ((i:Int),d.toList)=some (.done (x,(Sort.insOuter (ltC c) a b i d).toList)):=by
 induction n generalizing i d fuel with
 |zero=>
  cases fuel with
  |zero=>omega
  |succ fuel=>
   have h:=hB i d rfl;rw[if_neg (by omega)]at h;rw[z5r h,Sort.insOuter,if_neg (by omega)];exact⟨_,rfl⟩
 |succ n ih=>
  cases fuel with
  |zero=>omega
  |succ fuel=>
   have h:=hB i d rfl;rw[if_pos (by omega)]at h;rw[z5j h,Sort.insOuter,if_pos (by omega)];exact ih (by omega) (by rw[hs];omega) (by omega) (fun k d' h1=>hB k d' (by rw[h1,hs]))
theorem zfy (a:Nat): ∀(j:Nat) (d:Array α),(Sort.insInner (ltC c) a j d).size=d.size
 |0,d=>rfl
 |j+1,d=>by
  unfold Sort.insInner;split
  ·rw[zfy a j,zdz]
  ·rfl
theorem zmd (hc: ∀x y,cmp x y=some (c x y)){fuel a b:Nat}{d:Array α}(hb:b≤d.size)(hd:d.size<4611686018427387904)(ha:a<4611686018427387903)(hf:d.size<fuel):
 insG cmp fuel (a:Int) (b:Int) d.toList=some (Sort.insertionSort (ltC c) d a b).toList:=by
 unfold insG Sort.insertionSort;rw[wadd1 (by omega)];refine zdt (znt (c:=c) (a:=a) (b:=b) (i:=a+1) (d:=d) rfl hb (by omega) ?_ (zfy a)) (fun x=>rfl);intro i d' hd';simp only[z0b,intlt];by_cases hi:i<b
 ·rw[if_pos hi,if_pos hi];refine zdt (zns (c:=c) (a:=a) (j:=i) (d:=d') (by omega) (by omega) ?_) (fun x=>?_)
  ·intro j e hj he;simp only[jn_eq,z0b,intlt];by_cases h1:a<j
   ·simp(disch:=omega) only[h1,if_true,wsub1,z09,zze,zza,zzo,zzg,hc,zz0,z8t,zgj,true_and];unfold ltC;by_cases h2:c e[j]! e[j-1]! <0
    ·simp[h2]
    ·simp[h2]
   ·rw[if_neg h1,if_neg (fun h=>h1 h.1)];rfl
  ·rw[wadd1 (by omega)]
 ·rw[if_neg hi,if_neg hi]
theorem zhk {fuel p q n:Nat}{d:Array α}(hp:p+n≤d.size)(hq:q+n≤d.size)(hd:d.size<4611686018427387904)(hf:d.size<fuel):
 swapG fuel (p:Int) (q:Int) (n:Int) d.toList=some (swpN p q n d).toList:=by
 unfold swapG;refine zdt (zoj (p:=p) (q:=q) (n:=n) (d:=d) (by omega) ?_) (fun x=>rfl);intro i d' hd' hi;simp only[z0b,intlt];by_cases h:i<n
 ·rw[if_pos h,if_pos h];simp(disch:=omega) only[wadd,wadd1,z09,zze,zza,zzo,zzg,z8t,zgj]
 ·rw[if_neg h,if_neg h]
theorem zqc {fuel s m e:Nat}{d:Array α}(h1:s<m)(h2:m<e)(he:e≤d.size)(hd:d.size<4611686018427387904)(hf:d.size<fuel):
 ∃d':Array α,rotG fuel (s:Int) (m:Int) (e:Int) d.toList=some d'.toList∧RotTo s m e d d':=by
 obtain⟨k,d1,g1,g2,g3,g4,g5,g6,g7⟩:=zpb (R:=Empty) (m:=m) (a:=s) (b:=e) (d0:=d) he (m-s+(e-m)) (m-s) (e-m) fuel d (zzc _) (by omega) (by omega) (by omega) (by omega) (by omega) (by omega) rfl
  (B:=fun(a1:Int×Int×(List α))=>bf (!decide (a1.1=a1.2.1)) (bf (decide (a1.2.1<a1.1)) ((swapG fuel (zzi.wrap ((m:Int)-a1.1)) (m:Int) a1.2.1 a1.2.2).bind fun r4=>need (r4.length=a1.2.2.length)<|some (.next ((zzi.wrap (a1.1-a1.2.1)),a1.2.1,r4))) ((swapG fuel (zzi.wrap ((m:Int)-a1.1)) (zzi.wrap ((zzi.wrap ((m:Int)+a1.2.1))-a1.1)) a1.1 a1.2.2).bind fun r6=>need (r6.length=a1.2.2.length)<|some (.next (a1.1,(zzi.wrap (a1.2.1-a1.1)),r6)))) (some (.brk (a1.1,a1.2.1,a1.2.2))))
  (by
   intro i j d' hs hi hj him hjb;simp only[z2y,z0b,intlt];by_cases h:i=j
   ·subst h;rw[if_pos rfl,if_pos rfl]
   ·rw[if_neg (by omega),if_neg h];by_cases h3:j<i
    ·rw[if_pos h3,if_pos h3];rw[wsub (by omega) (by omega),wsub (by omega) (by omega),zhk (by omega) (by omega) (by omega) (by omega)];simp only[zz0];rw[z09 (by simp[z76])]
    ·rw[if_neg h3,if_neg h3];rw[wsub (by omega) (by omega),wadd (by omega),wsub (by omega) (by omega),wsub (by omega) (by omega),zhk (by omega) (by omega) (by omega) (by omega)];simp only[zz0];rw[z09 (by simp[z76])])
 refine⟨swpN (m-k) m k d1,?_,Sort.permIn_trans _ _ _ s e g6 (zcu (by omega) (by omega) (by omega) (by omega) (by omega)),fun x=>?_⟩
 ·unfold rotG;rw[wsub (by omega) (by omega),wsub (by omega) (by omega)];rw[g1];simp only[z4e];rw[wsub (by omega) (by omega),zhk (by omega) (by omega) (by omega) (by omega)];rfl
 ·rw[zer (by omega) (by omega) (by omega),zp9 (by omega),g7];congr 1<;>omega
end
end Go.Av
namespace Go.Av
open Go
section
variable {α:Type} [Inhabited α] {cmp:α→α→Option Int} {c:α→α→Int}
theorem zdn {x y:Nat}(h:x+y<4611686018427387904):zzi.wrap (shrOp .u64 (zzu.wrap (zzi.wrap ((x:Int)+(y:Int)))) 1)=(((x+y) / 2:Nat):Int):=by
 rw[wadd h,z8r,Int.emod_eq_of_lt (by omega) (by omega),show(1:Int)=((1:Nat):Int)from rfl,zqf .u64 (x+y) 1 (by decide),z3c (by omega) (by omega)]
def shR (a:Nat):Nat→Array α→Array α
 |0,d=>d
 |k+1,d=>Sort.swp (shR a k d) (a+k) (a+k+1)
def shL (m:Nat):Nat→Array α→Array α
 |0,d=>d
 |k+1,d=>Sort.swp (shL m k d) (m-k) (m-k-1)
theorem zdv (a:Nat): ∀(k:Nat) (d:Array α),(shR a k d).size=d.size
 |0,d=>rfl
 |k+1,d=>by unfold shR;rw[zdz,zdv a k]
theorem zdu (m:Nat): ∀(k:Nat) (d:Array α),(shL m k d).size=d.size
 |0,d=>rfl
 |k+1,d=>by unfold shL;rw[zdz,zdu m k]
theorem zmk {a:Nat}{d:Array α}: ∀{k:Nat},a+k<d.size→ ∀x,(shR a k d)[x]! =rotF a (a+1) (a+1+k) d x
 |0,h,x=>by
  unfold shR rotF
  repeat' split
  all_goals first|omega|rfl|(congr 1;omega)
 |k+1,h,x=>by
  have ih:=zmk (a:=a) (d:=d) (k:=k) (by omega);unfold shR;rw[zlh _ (by rw[zdv];omega) (by rw[zdv];omega),ih,ih,ih];unfold rotF
  repeat' split
  all_goals first|omega|rfl|(congr 1;omega)
theorem zmj {m:Nat}{d:Array α}(hm:m<d.size): ∀{k:Nat},k≤m→ ∀x,(shL m k d)[x]! =rotF (m-k) m (m+1) d x
 |0,h,x=>by
  unfold shL rotF
  repeat' split
  all_goals first|omega|rfl|(congr 1;omega)
 |k+1,h,x=>by
  have ih:=zmj (m:=m) (d:=d) hm (k:=k) (by omega);unfold shL;rw[zlh _ (by rw[zdu];omega) (by rw[zdu];omega),ih,ih,ih];unfold rotF
  repeat' split
  all_goals first|omega|rfl|(congr 1;omega)
theorem zle {a b:Nat}{d:Array α}(hb:b≤d.size): ∀{k:Nat},a+k<b→Sort.PermIn a b d (shR a k d)
 |0,_=>Sort.permIn_refl d a b
 |k+1,h=>by
  unfold shR;exact Sort.permIn_trans _ _ _ a b (zle hb (by omega)) (Sort.swp_permIn _ a b _ _ (by omega) (by omega) (by omega) (by omega) (by rw[zdv];exact hb))
theorem zld {a m b:Nat}{d:Array α}(hb:b≤d.size)(hm:m<b): ∀{k:Nat},a+k≤m→Sort.PermIn a b d (shL m k d)
 |0,_=>Sort.permIn_refl d a b
 |k+1,h=>by
  unfold shL;exact Sort.permIn_trans _ _ _ a b (zld hb hm (by omega)) (Sort.swp_permIn _ a b _ _ (by omega) (by omega) (by omega) (by omega) (by rw[zdu];exact hb))
theorem zpd {R:Type}{B:Int×List α→Option (Ctl (Int×List α) R)}{a n fuel:Nat}{d:Array α}(hf:n<fuel)
 (hB: ∀(i:Nat) (d':Array α),d'.size=d.size→i≤n→B (((a+i:Nat):Int),d'.toList)=if i<n then some (.next (((a+i+1:Nat):Int),(Sort.swp d' (a+i) (a+i+1)).toList))else some (.brk (((a+i:Nat):Int),d'.toList))):
 ∃x:Int,loopN B fuel ((a:Int),d.toList)=some (.done (x,(shR a n d).toList)):=by
 have key: ∀k i fuel,i+k=n→k<fuel→ ∃x:Int,loopN B fuel (((a+i:Nat):Int),(shR a i d).toList)=some (.done (x,(shR a n d).toList)):=by
  intro k;induction k with
  |zero=>
   intro i fuel hi hf;cases fuel with
   |zero=>omega
   |succ fuel=>
    have h:=hB i (shR a i d) (zdv ..) (by omega);rw[if_neg (by omega)]at h;rw[z5r h,show i=n by omega];exact⟨_,rfl⟩
  |succ k ih=>
   intro i fuel hi hf;cases fuel with
   |zero=>omega
   |succ fuel=>
    have h:=hB i (shR a i d) (zdv ..) (by omega);rw[if_pos (by omega)]at h;rw[z5j h];exact ih (i+1) fuel (by omega) (by omega)
 exact key n 0 fuel (by omega) hf
theorem zpc {R:Type}{B:Int×List α→Option (Ctl (Int×List α) R)}{m n fuel:Nat}{d:Array α}(hn:n≤m)(hf:n<fuel)
 (hB: ∀(i:Nat) (d':Array α),d'.size=d.size→i≤n→B (((m-i:Nat):Int),d'.toList)=if i<n then some (.next (((m-i-1:Nat):Int),(Sort.swp d' (m-i) (m-i-1)).toList))else some (.brk (((m-i:Nat):Int),d'.toList))):
 ∃x:Int,loopN B fuel ((m:Int),d.toList)=some (.done (x,(shL m n d).toList)):=by
 have key: ∀k i fuel,i+k=n→k<fuel→ ∃x:Int,loopN B fuel (((m-i:Nat):Int),(shL m i d).toList)=some (.done (x,(shL m n d).toList)):=by
  intro k;induction k with
  |zero=>
   intro i fuel hi hf;cases fuel with
   |zero=>omega
   |succ fuel=>
    have h:=hB i (shL m i d) (zdu ..) (by omega);rw[if_neg (by omega)]at h;rw[z5r h,show i=n by omega];exact⟨_,rfl⟩
  |succ k ih=>
   intro i fuel hi hf;cases fuel with
   |zero=>omega
   |succ fuel=>
    have h:=hB i (shL m i d) (zdu ..) (by omega);rw[if_pos (by omega)]at h;rw[z5j h];have:=ih (i+1) fuel (by omega) (by omega)
    rwa[show m-(i+1)=m-i-1 by omega]at this
 exact key n 0 fuel (by omega) hf
omit [Inhabited α]in
theorem zoi (h:IsCmp c):Sort.SWO (ltC c) where
 irrefl x:=by unfold ltC;rw[h.refl];rfl
 trans x y z h1 h2:=by
  unfold ltC at*;simp only[decide_eq_true_eq]at*;exact h.lt_tr h1 (by omega)
 ntrans x y z h1 h2:=by
  unfold ltC at*;simp only[decide_eq_false_iff_not,Int.not_lt]at*;have a1:=h.anti x y;have a2:=h.anti y z;have a3:=h.anti x z
  by_cases g:0≤c x z
  ·exact g
  ·exfalso;have:=h.lt_tr (a:=x) (b:=z) (d:=y) (by omega) (by omega)
   omega
end
end Go.Av
namespace Go.Av
open Go
section
variable {α:Type} [Inhabited α] {cmp:α→α→Option Int} {c:α→α→Int}
theorem zp1 {lt:α→α→Bool}(hS:Sort.SWO lt){a b r:Nat}{d:Array α}(hr:a+1≤r∧r≤b)(hb:b≤d.size)(h2:Sort.SortedIn lt (a+1) b d)
 (hA:r=a+1∨lt d[r-1]! d[a]! =true) (hB:r=b∨lt d[r]! d[a]! =false):MergeTo lt a b d (shR a (r-(a+1)) d):=by
 have hg: ∀x,(shR a (r-(a+1)) d)[x]! =rotF a (a+1) r d x:=fun x=>by
  rw[zmk (by omega),show a+1+(r-(a+1))=r by omega]
 obtain⟨h3,_,h5,h6,h7⟩:=zg5 hS (d':=shR a (r-(a+1)) d) (a:=a) (m:=a+1) (b:=b) (s:=a) (e:=r) (z8n (by omega)) h2 ⟨by omega,by omega⟩ hr hg (.inl rfl) (.inr hA);refine⟨zle hb (by omega),glue2 (mid:=a+(r-(a+1))) h5 (glue2 (mid:=r) h6 h7 ?_) h3⟩;intro x y g1 g2 g3 g4;rw[hg,hg,show x=r-1 by omega];unfold rotF;rw[if_neg (by omega),if_neg (by omega),if_neg (by omega),if_pos (by omega)];rw[show r-1-(a+(r-(a+1)))+a=a by omega];rcases hB with h|h
 ·omega
 ·by_cases e:y=r
  ·subst e;exact h
  ·exact hS.ntrans _ _ _ (h2 r y (by omega) (by omega) g4) h
theorem      zp0 {lt : α → α → Bool} (hS : Sort.SWO lt) {a m r : Nat} {d : Array α} (hr : a ≤ r ∧ r ≤ m) (hb : m + 1 ≤ d.size) (h1 : Sort.SortedIn lt a m d)
    (hA : r = a ∨ lt d[m]! d[r - 1]! = false) (hB : r = m ∨ lt d[m]! d[r]! = true) : MergeTo lt a (m + 1) d (shL m (m - r) d) := by
  have hg : ∀ x, (shL m (m - r) d)[x]! = rotF r m (m + 1) d x := fun x => by
    rw [    zmj (by omega) (by omega), show m - (m - r) = r by omega]
  obtain ⟨h3, h4, h5, h6, h7⟩ :=       zg5 hS (d' := shL m (m - r) d) (a := a) (m := m) (b := m + 1) (s := r) (e := m + 1) h1 (         z8n (by omega)) hr ⟨by omega, by omega⟩ hg (.inr (.inl rfl))
    (by rcases hB with h | h
        · exact .inl h
        · exact .inr (.inr (by rw [Nat.add_sub_cancel]; exact h)))
  refine ⟨     zld hb (by omega) (by omega), glue2 (mid := r + (m + 1 - m)) (glue2 (mid := r) h4 h5 ?_) h6 h3⟩
  intro x y g1 g2 g3 g4
  rw [hg, hg, show y = r by omega]
  unfold rotF
  rw [if_pos (by omega), if_neg (by omega), if_neg (by omega)]
  rw [show r - r + m = m by omega]
  rcases hA with h | h
  · omega
  · by_cases e : x = r - 1
    · subst e; exact h
    · exact hS.ntrans _ _ _ h (h1 x (r - 1) g1 (by omega) (by omega))
theorem z9a {S R Q:Type}{G:Option Q→Prop}{P:S→Prop}{o:Option (Out S R)}{kn:S→Option Q}{kr:R→Option Q}(h: ∃s,o=some (.done s)∧P s)(hk: ∀s,P s→G (kn s)):G (outK o kn kr):=by
 obtain⟨s,h,hp⟩:=h;rw[h];exact hk s hp
theorem bs_ex {R:Type}{B:Int×Int→Option (Ctl (Int×Int) R)}{P:Nat→Bool}{Q:Int×Int→Prop}{i0 j0 fuel:Nat}(hf:j0-i0<fuel)(hij:i0≤j0)
 (hQ: ∀r:Nat,i0≤r→r≤j0→(r=i0∨P (r-1)=true)→(r=j0∨P r=false)→Q ((r:Int),(r:Int)))
 (hB: ∀i j:Nat,i0≤i→i≤j→j≤j0→B ((i:Int),(j:Int))=if i<j then(if P ((i+j) / 2)=true then some (.next ((((i+j) / 2+1:Nat):Int),(j:Int)))else some (.next ((i:Int),(((i+j) / 2:Nat):Int))))else some (.brk ((i:Int),(j:Int)))):
 ∃s,loopN B fuel ((i0:Int),(j0:Int))=some (.done s)∧Q s:=by
 obtain⟨r,g1,g2,g3,g4,g5⟩:=zm9 (P:=P) (j0-i0) i0 j0 fuel (zzc _) hf (zzc _) hij (zzc _) (.inl rfl) (.inl rfl) hB;exact⟨_,g1,hQ r g2 g3 g4 g5⟩
theorem jn_P {A Q:Type}{G:Option Q→Prop}{P:A→Prop}{K:A→Option Q}{f:(A→Option Q)→Option Q}(hK: ∀a,P a→G (K a))(hf: ∃a,P a∧f K=K a):G (jn K f):=by
 obtain⟨a,h1,h2⟩:=hf;rw[jn_eq,h2];exact hK a h1
theorem zgp (hc: ∀x y,cmp x y=some (c x y))(hC:IsCmp c): ∀(fuel a m b:Nat) (d:Array α),a<m→m<b→b≤d.size→d.size<1152921504606846976→d.size+(b-a)<fuel→
 Sort.SortedIn (ltC c) a m d→Sort.SortedIn (ltC c) m b d→ ∃d':Array α,symG cmp fuel (a:Int) (m:Int) (b:Int) d.toList=some d'.toList∧MergeTo (ltC c) a b d d'
 |0,a,m,b,d,_,_,_,_,hf,_,_=>by omega
 |fuel+1,a,m,b,d,ham,hmb,hb,hd,hf,h1,h2=>by
  have hS:=zoi hC;unfold symG;simp only[z0b];rw[wsub (by omega) (by omega),wsub (by omega) (by omega)];by_cases c1:m-a=1
  ·rw[if_pos (by omega)];have hm:m=a+1:=by omega
   subst hm;refine z9a (G:=fun q=> ∃d':Array α,q=some d'.toList∧MergeTo (ltC c) a b d d') (P:=fun s=> ∃r:Nat,s=((r:Int),(r:Int))∧a+1≤r∧r≤b∧(r=a+1∨ltC c d[r-1]! d[a]! =true)∧(r=b∨ltC c d[r]! d[a]! =false)) ?_ ?_
   ·refine bs_ex (P:=fun h=>ltC c d[h]! d[a]!) (by omega) (by omega) (fun r g2 g3 g4 g5=>⟨r,rfl,g2,g3,g4,g5⟩) ?_;intro i j hi hij hj;simp only[z0b,intlt];rw[zdn (by omega)];by_cases h:i<j
    ·rw[if_pos h,if_pos h];simp(disch:=omega) only[z09,wadd1,zze,zza,zzo,hc,zz0,z8t];unfold ltC;by_cases g:c d[(i+j) / 2]! d[a]! <0<;>simp[g]
    ·rw[if_neg h,if_neg h]
   ·rintro s ⟨r,rfl,g2,g3,g4,g5⟩;simp only;rw[wsub1 (by omega) (by omega)];refine⟨shR a (r-(a+1)) d,zdt (zpd (a:=a) (n:=r-(a+1)) (by omega) ?_) (fun x=>rfl),zp1 hS ⟨g2,g3⟩ hb h2 g4 g5⟩;intro i d' hs hi;simp only[z0b,intlt];by_cases h:i<r-(a+1)
    ·rw[if_pos (by omega),if_pos h];simp(disch:=omega) only[z09,wadd1,zze,zza,zzo,zzg,z8t,zgj]
    ·rw[if_neg (by omega),if_neg h]
  ·rw[if_neg (by omega)];by_cases c2:b-m=1
   ·rw[if_pos (by omega)];have hbm:b=m+1:=by omega
    subst hbm;refine z9a (G:=fun q=> ∃d':Array α,q=some d'.toList∧MergeTo (ltC c) a (m+1) d d') (P:=fun s=> ∃r:Nat,s=((r:Int),(r:Int))∧a≤r∧r≤m∧(r=a∨ltC c d[m]! d[r-1]! =false)∧(r=m∨ltC c d[m]! d[r]! =true)) ?_ ?_
    ·refine bs_ex (P:=fun h=> !ltC c d[m]! d[h]!) (by omega) (by omega) (fun r g2 g3 g4 g5=>⟨r,rfl,g2,g3,by simpa using g4,by simpa using g5⟩) ?_;intro i j hi hij hj;simp only[z0b,z2y,intlt];rw[zdn (by omega)];by_cases h:i<j
     ·rw[if_pos h,if_pos h];simp(disch:=omega) only[z09,wadd1,zze,zza,zzo,hc,zz0,z8t];unfold ltC;by_cases g:c d[m]! d[(i+j) / 2]! <0<;>simp[g]
     ·rw[if_neg h,if_neg h]
    ·rintro s ⟨r,rfl,g2,g3,g4,g5⟩;simp only;refine⟨shL m (m-r) d,zdt (zpc (m:=m) (n:=m-r) (by omega) (by omega) ?_) (fun x=>rfl),zp0 hS ⟨g2,g3⟩ hb h1 g4 g5⟩;intro i d' hs hi;simp only[z0b,intlt];by_cases h:i<m-r
     ·rw[if_pos (by omega),if_pos h];simp(disch:=omega) only[z09,wsub1,zze,zza,zzo,zzg,z8t,zgj]
     ·rw[if_neg (by omega),if_neg h]
   ·rw[if_neg (by omega)];rw[zdn (by omega),wadd (by omega)]
    let G:Option (List α)→Prop:=fun q=> ∃d':Array α,q=some d'.toList∧MergeTo (ltC c) a b d d'
    refine jn_P (G:=G) (P:=fun x=> ∃st r0:Nat,x=((((a+b) / 2:Nat):Int),(((a+b) / 2+m:Nat):Int),(st:Int),(r0:Int))∧a≤st∧st≤r0∧r0≤m∧r0≤(a+b) / 2+m-m∧(st=a∨(a+b) / 2+m-st=b)∧(a+b) / 2+m-st≤b∧(r0=m∨r0=(a+b) / 2)) ?_ ?_
    ·rintro _ ⟨st,r0,rfl,k1,k2,k3,k4,k5,k6,k7⟩;refine z9a (G:=G) (P:=fun s=> ∃r:Nat,s=((r:Int),(r:Int))∧st≤r∧r≤r0∧(r=st∨ltC c d[(a+b) / 2+m-r]! d[r-1]! =false)∧(r=r0∨ltC c d[(a+b) / 2+m-r-1]! d[r]! =true)) ?_ ?_
     ·refine bs_ex (P:=fun h=> !ltC c d[(a+b) / 2+m-1-h]! d[h]!) (by omega) (by omega) (fun r g2 g3 g4 g5=>⟨r,rfl,g2,g3,?_,?_⟩) ?_
      ·rcases g4 with g4|g4
       ·exact .inl g4
       ·by_cases e:r=st
        ·exact .inl e
        ·right;rw[show(a+b) / 2+m-1-(r-1)=(a+b) / 2+m-r by omega]at g4
         simpa using g4
      ·rcases g5 with g5|g5
       ·exact .inl g5
       ·right;rw[show(a+b) / 2+m-1-r=(a+b) / 2+m-r-1 by omega]at g5
        simpa using g5
      ·intro i j hi hij hj;simp only[z0b,z2y,intlt];rw[zdn (by omega),wsub1 (by omega) (by omega)];by_cases h:i<j
       ·rw[if_pos h,if_pos h,wsub (by omega) (by omega)];simp(disch:=omega) only[z09,wadd1,zze,zza,zzo,hc,zz0,z8t];unfold ltC;by_cases g:c d[(a+b) / 2+m-1-(i+j) / 2]! d[(i+j) / 2]! <0<;>simp[g]
       ·rw[if_neg h,if_neg h]
     ·rintro s ⟨r,rfl,g2,g3,g4,g5⟩;simp only;rw[wsub (by omega) (by omega)];have hmid:r+((a+b) / 2+m-r-m)=(a+b) / 2:=by omega
      refine jn_P (G:=G) (P:=fun x=> ∃d1:Array α,x=((((a+b) / 2+m-r:Nat):Int),d1.toList)∧Sort.PermIn a b d d1∧ ∀x,d1[x]! =rotF r m ((a+b) / 2+m-r) d x) ?_ ?_
      ·rintro _ ⟨d1,rfl,p1,p2⟩;obtain⟨q1,q2,q3,q4,q5⟩:=zg5 hS h1 h2 ⟨by omega,by omega⟩ ⟨by omega,by omega⟩ p2 (by
        rcases g4 with g|g
        ·rcases k5 with k|k
         ·exact .inl (by omega)
         ·exact .inr (.inl (by omega))
        ·exact .inr (.inr g)) (by
        rcases g5 with g|g
        ·rcases k7 with k|k
         ·exact .inl (by omega)
         ·exact .inr (.inl (by omega))
        ·exact .inr (.inr g))
       rw[hmid]at q1 q3 q4;have s1:d1.size=d.size:=p1.1
       refine jn_P (G:=G) (P:=fun x=> ∃d2:Array α,x=d2.toList∧MergeTo (ltC c) a ((a+b) / 2) d1 d2) ?_ ?_
       ·rintro _ ⟨d2,rfl,m1⟩;have s2:d2.size=d1.size:=m1.perm.1
        have e1:Sort.SortedIn (ltC c) ((a+b) / 2) ((a+b) / 2+m-r) d2:=fun i j h1 h2 h3=>by
         rw[m1.perm.2.1 i (.inr (by omega)),m1.perm.2.1 j (.inr (by omega))];exact q4 i j h1 h2 h3
        have e2:Sort.SortedIn (ltC c) ((a+b) / 2+m-r) b d2:=fun i j h1 h2 h3=>by
         rw[m1.perm.2.1 i (.inr (by omega)),m1.perm.2.1 j (.inr (by omega))];exact q5 i j h1 h2 h3
        have fin: ∀d3:Array α,MergeTo (ltC c) ((a+b) / 2) b d2 d3→MergeTo (ltC c) a b d d3:=fun d3 m3=>zky hS ⟨by omega,by omega⟩ hb p1 q1 m1 m3;simp only[jn_eq,z0b,intlt];by_cases w1:(a+b) / 2<(a+b) / 2+m-r
        ·by_cases w2:(a+b) / 2+m-r<b
         ·rw[if_pos w1,if_pos w2];obtain⟨d3,t1,t2⟩:=zgp hc hC fuel ((a+b) / 2) ((a+b) / 2+m-r) b d2 w1 w2 (by omega) (by omega) (by omega) e1 e2;rw[t1];exact⟨d3,rfl,fin d3 t2⟩
         ·rw[if_pos w1,if_neg w2];rw[show(a+b) / 2+m-r=b by omega]at e1;exact⟨d2,rfl,fin d2 (zbk e1)⟩
        ·rw[if_neg w1,z2m];rw[show(a+b) / 2+m-r=(a+b) / 2 by omega]at e2;exact⟨d2,rfl,fin d2 (zbk e2)⟩
       ·simp only[jn_eq,z0b,intlt];by_cases w1:a<r
        ·by_cases w2:r<(a+b) / 2
         ·rw[if_pos w1,if_pos w2];obtain⟨d3,t1,t2⟩:=zgp hc hC fuel a r ((a+b) / 2) d1 w1 w2 (by omega) (by omega) (by omega) q2 q3;refine⟨_,⟨d3,rfl,t2⟩,?_⟩;rw[t1];simp only[zz0];rw[z09 (by have:=t2.perm.1;simp only[zzo];omega)]
         ·rw[if_pos w1,if_neg w2];rw[show r=(a+b) / 2 by omega]at q2;exact⟨_,⟨d1,rfl,zbk q2⟩,rfl⟩
        ·rw[if_neg w1,z2m];rw[show r=a by omega]at q3;exact⟨_,⟨d1,rfl,zbk q3⟩,rfl⟩
      ·simp only[jn_eq,z0b,intlt];by_cases w1:r<m
       ·by_cases w2:m<(a+b) / 2+m-r
        ·obtain⟨d1,t1,t2⟩:=zqc (fuel:=fuel) (s:=r) (m:=m) (e:=(a+b) / 2+m-r) (d:=d) w1 w2 (by omega) (by omega) (by omega);refine⟨_,⟨d1,rfl,Sort.permIn_mono _ _ _ _ a b (by omega) (by omega) hb t2.perm,t2.get⟩,?_⟩;rw[if_pos w1,if_pos w2,t1,zz0];rw[z09 (by have:=t2.perm.1;simp only[zzo];omega)];simp only[intlt]
        ·rw[if_pos w1,if_neg w2];refine⟨_,⟨d,rfl,Sort.permIn_refl d a b,fun x=>?_⟩,by simp only[intlt]⟩;unfold rotF
         repeat' split
         all_goals first|omega|rfl|(congr 1;omega)
       ·rw[if_neg w1,z2m];refine⟨_,⟨d,rfl,Sort.permIn_refl d a b,fun x=>?_⟩,by simp only[intlt]⟩;unfold rotF
        repeat' split
        all_goals first|omega|rfl|(congr 1;omega)
    ·simp only[z0b,intlt];by_cases w:(a+b) / 2<m
     ·rw[if_pos w,wsub (by omega) (by omega)];exact⟨_,⟨(a+b) / 2+m-b,(a+b) / 2,rfl,by omega,by omega,by omega,by omega,by omega,by omega,.inr rfl⟩,rfl⟩
     ·rw[if_neg w];exact⟨_,⟨a,m,rfl,by omega,by omega,by omega,by omega,.inl rfl,by omega,.inl rfl⟩,rfl⟩
end
end Go.Av
namespace Go.Av
open Go
section
variable {α:Type} [Inhabited α] {cmp:α→α→Option Int} {c:α→α→Int}
theorem za6 {S R:Type}{B:S→Option (Ctl S R)}(I:Nat→S→Prop)(Dn:S→Prop){n fuel:Nat}{s:S}(hf:n<fuel)(h0:I 0 s)
 (h: ∀i s,I i s→(∃s',B s=some (.next s')∧I (i+1) s'∧i<n)∨(∃s',B s=some (.brk s')∧Dn s')): ∃s',loopN B fuel s=some (.done s')∧Dn s':=by
 have key: ∀k i s fuel,i+k=n→k<fuel→I i s→ ∃s',loopN B fuel s=some (.done s')∧Dn s':=by
  intro k;induction k with
  |zero=>
   intro i s fuel hi hf hI;cases fuel with
   |zero=>omega
   |succ fuel=>
    rcases h i s hI with⟨s',_,_,g⟩|⟨s',g1,g2⟩
    ·omega
    ·exact⟨s',z5r g1,g2⟩
  |succ k ih=>
   intro i s fuel hi hf hI;cases fuel with
   |zero=>omega
   |succ fuel=>
    rcases h i s hI with⟨s',g1,g2,g⟩|⟨s',g1,g2⟩
    ·rw[z5j g1];exact ih (i+1) s' fuel (by omega) (by omega) g2
    ·exact⟨s',z5r g1,g2⟩
 exact key n 0 s fuel (by omega) hf h0
theorem zac {lt:α→α→Bool}{a b x y:Nat}{d d':Array α}(h:Sort.SortedIn lt x y d)(hp:Sort.PermIn a b d d')(ho:y≤a∨b≤x):Sort.SortedIn lt x y d':=fun i j h1 h2 h3=>by
 rw[hp.2.1 i (by omega),hp.2.1 j (by omega)];exact h i j h1 h2 h3
theorem zaq {i j k:Nat}(h:i<j):i*k+k≤j*k:=by
 have:=Nat.mul_le_mul_right k (show i+1≤j by omega);rw[Nat.add_mul,Nat.one_mul]at this;exact this
theorem zph (hc: ∀x y,cmp x y=some (c x y))(hC:IsCmp c){fuel:Nat}{d:Array α}(hd:d.size<1152921504606846)(hf:4*d.size+100<fuel):
 ∃d':Array α,stabG cmp fuel (d.size:Int) d.toList=some d'.toList∧Sort.PermIn 0 d.size d d'∧Sort.SortedIn (ltC c) 0 d.size d':=by
 have hS:=zoi hC;generalize hn:d.size=n at*
 let G:Option (List α)→Prop:=fun q=> ∃d':Array α,q=some d'.toList∧Sort.PermIn 0 n d d'∧Sort.SortedIn (ltC c) 0 n d'
 unfold stabG;refine z9a (G:=G) (P:=fun s=> ∃(i:Nat) (d1:Array α),s=(((i*20:Nat):Int),((i*20+20:Nat):Int),d1.toList)∧i*20≤n∧n<i*20+20∧Sort.PermIn 0 n d d1∧ ∀j,j<i→Sort.SortedIn (ltC c) (j*20) (j*20+20) d1) ?_ ?_
 ·refine za6 (I:=fun i s=> ∃d1:Array α,s=(((i*20:Nat):Int),((i*20+20:Nat):Int),d1.toList)∧i*20≤n∧Sort.PermIn 0 n d d1∧ ∀j,j<i→Sort.SortedIn (ltC c) (j*20) (j*20+20) d1) (n:=n) _ (by omega) ⟨d,by rfl,by omega,Sort.permIn_refl d 0 n,fun j hj=>by omega⟩ ?_;rintro i _ ⟨d1,rfl,k1,k2,k3⟩;have s1:d1.size=n:=k2.1.trans hn
  simp only[z0b,intle];by_cases h:i*20+20≤n
  ·left;obtain⟨p1,p2⟩:=Sort.insertionSort_holds hS d1 (i*20) (i*20+20) (by omega) (by omega);refine⟨_,?_,⟨Sort.insertionSort (ltC c) d1 (i*20) (i*20+20),rfl,by omega,Sort.permIn_trans _ _ _ 0 n k2 (Sort.permIn_mono _ _ _ _ 0 n (by omega) (by omega) (by omega) p1),?_⟩,by omega⟩
   ·rw[if_pos h,zmd hc (by omega) (by omega) (by omega) (by omega)];simp only[zz0];rw[z09 (by have:=p1.1;simp only[zzo];omega),show(20:Int)=((20:Nat):Int)from rfl,wadd (by omega)];rw[show(i+1)*20=i*20+20 by omega]
   ·intro j hj;by_cases e:j=i
    ·subst e;exact p2
    ·exact zac (k3 j (by omega)) p1 (by have:=zaq (k:=20) (show j<i by omega);omega)
  ·right;rw[if_neg h];exact⟨_,rfl,i,d1,rfl,k1,by omega,k2,k3⟩
 ·rintro _ ⟨i,d1,rfl,k1,k2,k3,k4⟩;have s1:d1.size=n:=k3.1.trans hn
  simp only;obtain⟨p1,p2⟩:=Sort.insertionSort_holds hS d1 (i*20) n (by omega) (by omega);rw[zmd hc (by omega) (by omega) (by omega) (by omega)];simp only[zz0];rw[z09 (by have:=p1.1;simp only[zzo];omega)];generalize hd2:Sort.insertionSort (ltC c) d1 (i*20) n=d2 at p1 p2;have q1:Sort.PermIn 0 n d d2:=Sort.permIn_trans _ _ _ 0 n k3 (Sort.permIn_mono _ _ _ _ 0 n (by omega) (by omega) (by omega) p1)
  have q2: ∀j,Sort.SortedIn (ltC c) (j*20) (min (j*20+20) n) d2:=fun j=>by
   by_cases e:j<i
   ·have:=zaq (k:=20) e;rw[show min (j*20+20) n=j*20+20 by omega];exact zac (k4 j e) p1 (by omega)
   ·by_cases e2:j=i
    ·subst e2;rw[show min (j*20+20) n=n by omega];exact p2
    ·exact z8n (by omega)
  refine z9a (G:=G) (P:=fun s=> ∃(x:Int) (d3:Array α),s=(x,d3.toList)∧Sort.PermIn 0 n d d3∧Sort.SortedIn (ltC c) 0 n d3) ?_ ?_
  ·refine za6 (I:=fun r s=> ∃(k:Nat) (d3:Array α),s=((k:Int),d3.toList)∧r+20≤k∧k≤2*n+20∧Sort.PermIn 0 n d d3∧ ∀j,Sort.SortedIn (ltC c) (j*k) (min (j*k+k) n) d3) (n:=n) _ (by omega) ⟨20,d2,by rfl,by omega,by omega,q1,q2⟩ ?_;rintro r _ ⟨k,d3,rfl,g1,g2,g3,g4⟩;have s3:d3.size=n:=g3.1.trans hn
   simp only[z0b,intlt];by_cases h:k<n
   ·left;rw[if_pos h]
    let G2:Option (Ctl (Int×List α) Empty)→Prop:=fun q=> ∃s',q=some (.next s')∧(∃(k:Nat) (d3:Array α),s'=((k:Int),d3.toList)∧r+1+20≤k∧k≤2*n+20∧Sort.PermIn 0 n d d3∧ ∀j,Sort.SortedIn (ltC c) (j*k) (min (j*k+k) n) d3)∧r<n
    refine z9a (G:=G2) (P:=fun s=> ∃(i:Nat) (d4:Array α),s=(((i*(2*k):Nat):Int),((i*(2*k)+2*k:Nat):Int),d4.toList)∧i*(2*k)≤n∧n<i*(2*k)+2*k∧Sort.PermIn 0 n d d4∧(∀j,j<i→Sort.SortedIn (ltC c) (j*(2*k)) (j*(2*k)+2*k) d4)∧ ∀j,i*(2*k)≤j*k→Sort.SortedIn (ltC c) (j*k) (min (j*k+k) n) d4) ?_ ?_
    ·rw[wtwo (by omega)];refine za6 (I:=fun i s=> ∃d4:Array α,s=(((i*(2*k):Nat):Int),((i*(2*k)+2*k:Nat):Int),d4.toList)∧i*(2*k)≤n∧i≤i*(2*k)∧Sort.PermIn 0 n d d4∧(∀j,j<i→Sort.SortedIn (ltC c) (j*(2*k)) (j*(2*k)+2*k) d4)∧ ∀j,i*(2*k)≤j*k→Sort.SortedIn (ltC c) (j*k) (min (j*k+k) n) d4) (n:=n) _ (by omega) ⟨d3,by simp,by omega,by omega,g3,fun j hj=>by omega,fun j _=>g4 j⟩ ?_;rintro i _ ⟨d4,rfl,f1,f0,f2,f3,f4⟩;have s4:d4.size=n:=f2.1.trans hn
     have e1:(2*i)*k=i*(2*k):=by rw[Nat.mul_comm 2 i,Nat.mul_assoc]
     have e2:(2*i+1)*k=i*(2*k)+k:=by rw[Nat.add_mul,Nat.one_mul,e1]
     have e3:(i+1)*(2*k)=i*(2*k)+2*k:=by rw[Nat.add_mul,Nat.one_mul]
     have t1:=f4 (2*i) (by omega);have t2:=f4 (2*i+1) (by omega)
     rw[e1]at t1;rw[e2]at t2;generalize hp:i*(2*k)=p at*;simp only[z0b,intle];by_cases h2:p+2*k≤n
     ·left;rw[if_pos h2,wadd (by omega)];rw[show min (p+k) n=p+k by omega]at t1;rw[show min (p+k+k) n=p+2*k by omega]at t2;obtain⟨d5,u1,u2⟩:=zgp hc hC fuel p (p+k) (p+2*k) d4 (by omega) (by omega) (by omega) (by omega) (by omega) t1 t2;refine⟨_,?_,⟨d5,rfl,by omega,by omega,Sort.permIn_trans _ _ _ 0 n f2 (Sort.permIn_mono _ _ _ _ 0 n (by omega) (by omega) (by omega) u2.perm),?_,?_⟩,by omega⟩
      ·rw[u1];simp only[zz0];rw[z09 (by have:=u2.perm.1;simp only[zzo];omega),wadd (by omega),e3]
      ·intro j hj;by_cases e:j=i
       ·subst e;rw[hp];exact u2.sorted
       ·have:=zaq (k:=2*k) (show j<i by omega);exact zac (f3 j (by omega)) u2.perm (.inl (by omega))
      ·intro j hj;exact zac (f4 j (by omega)) u2.perm (.inr (by omega))
     ·right;rw[if_neg h2];exact⟨_,rfl,i,d4,by rw[hp],by omega,by omega,f2,f3,by rw[hp];exact f4⟩
    ·rintro _ ⟨i,d4,rfl,f1,f1',f2,f3,f4⟩;have s4:d4.size=n:=f2.1.trans hn
     have e1:(2*i)*k=i*(2*k):=by rw[Nat.mul_comm 2 i,Nat.mul_assoc]
     have e2:(2*i+1)*k=i*(2*k)+k:=by rw[Nat.add_mul,Nat.one_mul,e1]
     have t1:=f4 (2*i) (by omega);have t2:=f4 (2*i+1) (by omega)
     rw[e1]at t1;rw[e2]at t2;have e4: ∀j,i<j→n≤j*(2*k):=fun j hj=>by have:=zaq (k:=2*k) hj;omega
     generalize hp:i*(2*k)=p at*;simp only;refine jn_P (G:=G2) (P:=fun l=> ∃d5:Array α,l=d5.toList∧Sort.PermIn 0 n d d5∧ ∀j,Sort.SortedIn (ltC c) (j*(2*k)) (min (j*(2*k)+2*k) n) d5) ?_ ?_
     ·rintro _ ⟨d5,rfl,u1,u2⟩;refine⟨_,rfl,⟨2*k,d5,?_,by omega,by omega,u1,u2⟩,by omega⟩;rw[show(k:Int)*2=2*(k:Int)by omega,wtwo (by omega)]
     ·simp only[z0b];rw[wadd (by omega)];simp only[intlt];by_cases h2:p+k<n
      ·rw[if_pos h2];rw[show min (p+k) n=p+k by omega]at t1;rw[show min (p+k+k) n=n by omega]at t2;obtain⟨d5,u1,u2⟩:=zgp hc hC fuel p (p+k) n d4 (by omega) (by omega) (by omega) (by omega) (by omega) t1 t2;refine⟨_,⟨d5,rfl,Sort.permIn_trans _ _ _ 0 n f2 (Sort.permIn_mono _ _ _ _ 0 n (by omega) (by omega) (by omega) u2.perm),fun j=>?_⟩,?_⟩
       ·by_cases e:j<i
        ·have:=zaq (k:=2*k) e;rw[show min (j*(2*k)+2*k) n=j*(2*k)+2*k by omega];exact zac (f3 j e) u2.perm (.inl (by omega))
        ·by_cases e5:j=i
         ·subst e5;rw[hp,show min (p+2*k) n=n by omega];exact u2.sorted
         ·have:=e4 j (by omega);exact z8n (by omega)
       ·rw[u1];simp only[zz0];rw[z09 (by have:=u2.perm.1;simp only[zzo];omega)]
      ·rw[if_neg h2];refine⟨_,⟨d4,rfl,f2,fun j=>?_⟩,rfl⟩;by_cases e:j<i
       ·have:=zaq (k:=2*k) e;rw[show min (j*(2*k)+2*k) n=j*(2*k)+2*k by omega];exact f3 j e
       ·by_cases e5:j=i
        ·subst e5;rw[hp,show min (p+2*k) n=n by omega];rw[show min (p+k) n=n by omega]at t1;exact t1
        ·have:=e4 j (by omega);exact z8n (by omega)
   ·right;rw[if_neg h];have:=g4 0
    rw[Nat.zero_mul,show min (0+k) n=n by omega]at this;exact⟨_,rfl,_,d3,rfl,g3,this⟩
  ·rintro _ ⟨x,d3,rfl,u1,u2⟩;exact⟨d3,rfl,u1,u2⟩
theorem zeq (hc: ∀x y,cmp x y=some (c x y))(hC:IsCmp c){fuel:Nat}{l:List α}(hd:l.length<1152921504606846)(hf:4*l.length+100<fuel):
 ∃r:List α,stabG cmp fuel (l.length:Int) l=some r∧r.Perm l∧ ∀i j,i<j→j<r.length→c (r.getD i zzd) (r.getD j zzd)≤0:=by
 obtain⟨d',h1,h2,h3⟩:=zph hc hC (d:=l.toArray) (fuel:=fuel) (by simpa using hd) (by simpa using hf);have hs:d'.size=l.length:=by have:=h2.1;simpa using this
 refine⟨d'.toList,by simpa using h1,?_,fun i j hij hj=>?_⟩
 ·have:=h2.2.2;simp only[List.size_toArray]at this;rw[show d'.extract 0 l.length=d' by rw[←hs];simp,show l.toArray.extract 0 l.length=l.toArray by simp]at this;exact this
 ·rw[zzo]at hj;have:=h3 i j (by omega) hij (by simpa [hs]using hj)
  rw[z8t,z8t];unfold ltC at this;have a1:=hC.anti d'[i]! d'[j]!
  simp only[decide_eq_false_iff_not]at this;omega
end
end Go.Av
namespace Go.Av
open Go
def cmpV (a b:Value):Int:=if a.isText=b.isText then(if a.isText then cmpS a.s b.s else cmpZ a.n b.n)else(if a.isText then 1 else -1)
theorem z89:IsCmp cmpV where
 vals a b:=by
  unfold cmpV;split
  ·split
   ·exact zda.vals _ _
   ·exact zam.vals _ _
  ·split<;>simp
 anti a b:=by
  unfold cmpV;cases a.isText<;>cases b.isText<;>simp
  ·exact zam.anti _ _
  ·exact zda.anti _ _
 tr a b d:=by
  unfold cmpV;cases a.isText<;>cases b.isText<;>cases d.isText<;>simp
  ·exact zam.tr _ _ _
  ·exact zda.tr _ _ _
theorem zjx (a b:ByteArray):(strLt a b||strEq a b)=decide (cmpS a b≤0):=by
 rw[zgg,zjw,Bool.eq_iff_iff];simp;omega
theorem zjh (x y:Int):z7c x y=some (cmpZ x y):=by
 unfold z7c z86 cmpZ;simp only[decide_true,Bool.not_true,zz0,z2m,z0b];split<;>(try split)<;>rfl
theorem zlq (x y:Int):z6h x y=some (cmpZ x y):=by
 unfold z6h z7f cmpZ;simp only[decide_true,Bool.not_true,zz0,z2m,z0b];split<;>(try split)<;>rfl
theorem zki (x y:ByteArray):z62 x y=some (cmpS x y):=by
 unfold z62 z6s;simp only[znb,Bool.not_true,zz0,z2m];rw[zjx,zgg];simp only[z2y,z0b];rcases zda.vals x y with h|h|h<;>simp[h]
theorem ziu (a b:Value):z88 a b=some (cmpV a b):=by
 unfold z88 zag cmpV;simp only[zjh,zki,zlq,z2y];cases a.isText<;>cases b.isText<;>simp[zjh,cmpZ]
theorem z7v (a b:List Value):z43 a b=some (cmpL cmpV a b):=by
 unfold z43 z0j;rw[zpq (c:=cmpV)]
 ·rfl
 ·intro i hi;simp only[ziu,zz0,z0b,z2y,Int.ofNat_le];split
  ·rfl
  ·rw[z09 (by omega)]
 ·simp only[z0b,Int.ofNat_lt];split<;>rfl
theorem zg4 (a b:Value):z5i a b=some (cmpV a b):=by
 unfold z5i cmpV;rw[zjx,zgg];cases a.isText<;>cases b.isText<;>simp
 ·unfold cmpZ;split<;>(try split)<;>simp_all
 ·rcases zda.vals a.s b.s with h|h|h<;>simp[h]
theorem zem (a b:List Value){fuel:Nat}(hf:a.length<fuel)(hn:a.length≤maxN):z4n fuel a b=some (cmpL cmpV a b):=by
 unfold z4n;unfold maxN at hn;refine zoq (c:=cmpV) hf ?_ ?_
 ·intro i hi hi';simp only[jn_eq,zg4,zz0,z0b,z2y,Int.ofNat_lt,zze];have e:zzi.wrap ((i:Int)+1)=((i+1:Nat):Int):=by rw[z3c (by omega) (by omega)];omega
  by_cases h1:i<a.length
  ·by_cases h2:i<b.length
   ·rw[if_pos (⟨h1,h2⟩:i<a.length∧i<b.length),if_pos h1,if_pos h2,z09 (by omega),z09 (by omega),e]
   ·rw[if_neg (fun h=>h2 h.2: ¬(i<a.length∧i<b.length)),if_pos h1,if_neg h2]
  ·rw[if_neg (fun h=>h1 h.1: ¬(i<a.length∧i<b.length)),if_neg h1,z2m]
 ·intro i;simp only[z0b,Int.ofNat_lt];split
  ·rfl
  ·split<;>rfl
def z3m (v:Value):Bool:=if v.isText then decide (v.n=0) && decide (v.s.size≤64)else strEq v.s (bs [])
def okRow (p:List Value):Bool:=decide (p.length≤8) && p.all z3m
theorem zp8 (v:Value):z9b v=some (z3m v):=by
 unfold z9b z3m;have e:((v.s.size:Int)≤64)↔v.s.size≤64:=by omega
 cases v.isText<;>by_cases h:v.n=0<;>simp[h,e]
theorem zlz (v:Value):z65 v=some (z3m v):=by
 unfold z65 z3m;have e:((v.s.size:Int)≤64)↔v.s.size≤64:=by omega
 cases v.isText<;>by_cases h:v.n=0<;>simp[h,e]
theorem zbm {S R X:Type}[Inhabited X]{B:Nat→S→Option (Ctl S R)}{l:List X}(P:X→Bool)(f:Nat→R){s:S}
 (hB: ∀i,i<l.length→B i s=if P (l.getD i zzd)then some (.ret (f i))else some (.next s)):
 (l.any P=false∧z0f B l.length 0 s=some (.done s))∨(l.any P=true∧ ∃i,i<l.length∧P (l.getD i zzd)=true∧z0f B l.length 0 s=some (.ret (f i))):=by
 have key: ∀k i,i+k=l.length→((l.drop i).any P=false∧z0f B k i s=some (.done s))∨((l.drop i).any P=true∧ ∃j,j<l.length∧P (l.getD j zzd)=true∧z0f B k i s=some (.ret (f j))):=by
  intro k;induction k with
  |zero=>intro i hi;left;rw[zzk (by omega:l.length≤i)];exact⟨rfl,rfl⟩
  |succ k ih=>
   intro i hi;rw[z25 (by omega:i<l.length)];simp only[z0f,hB i (by omega),List.any_cons];by_cases h:P (l.getD i zzd)=true
   ·rw[if_pos h];right;exact⟨by rw[h];rfl,i,by omega,h,rfl⟩
   ·rw[if_neg h];have hf:P (l.getD i zzd)=false:=by simpa using h
    rw[hf,Bool.false_or];exact ih (i+1) (by omega)
 have:=key l.length 0 (by omega);rwa[List.drop_zero]at this
theorem z9c (p:List Value):(p.any fun v=> !z3m v)= !(p.all z3m):=by
 rw[List.any_eq_not_all_not];simp
theorem zbg (p:List Value):z7m p=some (if okRow p then 0 else 4):=by
 unfold z7m z0y z11 z9f okRow;simp only[jn_eq,z0b,zp8,zz0];by_cases h:8<(p.length:Int)
 ·rw[if_pos h,decide_eq_false (by omega: ¬p.length≤8)];rfl
 ·rw[if_neg h,decide_eq_true (by omega:p.length≤8)];rcases zbm (S:=Unit) (R:=Int) (l:=p) (fun v=> !z3m v) (fun i=>(i:Int)) (s:=()) (B:=fun i1 a2=>bf (!z3m (p.getD i1 zzd)) (some (.ret ((i1:Nat):Int))) (some (.next ()))) (fun i hi=>by
   cases z3m (p.getD i zzd)<;>rfl)with⟨h1,h2⟩|⟨h1,i,_,_,h2⟩
  ·rw[h2];rw[z9c]at h1;have:p.all z3m=true:=by simpa using h1
   simp[this]
  ·rw[h2];rw[z9c]at h1;have:p.all z3m=false:=by simpa using h1
   simp[this,Int.natCast_nonneg]
theorem zh8 (p:List Value):z54 p=some (if okRow p then 0 else 4):=by
 unfold z54 okRow;simp only[zlz,zz0];rcases zbm (S:=Unit) (R:=Int) (l:=p) (fun v=> !z3m v) (fun i=>(4:Int)) (s:=()) (B:=fun i1 a2=>bf (!z3m (p.getD i1 zzd)) (some (.ret 4)) (some (.next ()))) (fun i hi=>by
  cases z3m (p.getD i zzd)<;>rfl)with⟨h1,h2⟩|⟨h1,i,_,_,h2⟩
 ·rw[h2];rw[z9c]at h1;have:p.all z3m=true:=by simpa using h1
  simp only[z4e,z0b,this,Bool.and_true];by_cases h:8<(p.length:Int)
  ·rw[if_pos h,decide_eq_false (by omega: ¬p.length≤8)];rfl
  ·rw[if_neg h,decide_eq_true (by omega:p.length≤8)];rfl
 ·rw[h2];rw[z9c]at h1;have:p.all z3m=false:=by simpa using h1
  simp[this]
theorem zh0 {a b:Value}:z9n a b=true↔a=b:=by
 rcases a with⟨t,n,s⟩;rcases b with⟨t',n',s'⟩;simp[z9n,zgf]
theorem zqd (a b:List Value): ∃r,z4o a b=some r∧(r=true↔a=b):=by
 unfold z4o;by_cases hl:a.length=b.length
 ·rw[decide_eq_true (by omega:(a.length:Int)=(b.length:Int))];simp only[Bool.not_true,z2m];have key: ∀k i,i+k=a.length→ ∃r,outK (z0f (S:=Unit) (R:=Bool) (fun i1 (a2:Unit)=>need ((0:Int)≤((i1:Nat):Int)∧((i1:Nat):Int)<(b.length:Int))<|bf (!(z9n (a.getD i1 zzd) (b.getD i1 zzd))) (some (.ret false)) (some (.next ()))) k i ()) (fun(a3:Unit)=>some true) (fun x=>some x)=some r∧(r=true↔a.drop i=b.drop i):=by
   intro k;induction k with
   |zero=>
    intro i hi;refine⟨true,rfl,?_⟩;rw[zzk (by omega:a.length≤i),zzk (by omega:b.length≤i)];simp
   |succ k ih=>
    intro i hi;simp only[z0f];rw[z09 (by omega),z25 (by omega:i<a.length),z25 (by omega:i<b.length)];by_cases he:z9n (a.getD i zzd) (b.getD i zzd)=true
    ·rw[he];obtain⟨r,h1,h2⟩:=ih (i+1) (by omega);refine⟨r,h1,?_⟩;rw[h2,zh0.1 he];simp
    ·have he':z9n (a.getD i zzd) (b.getD i zzd)=false:=by simpa using he
     rw[he'];refine⟨false,rfl,?_⟩;simp only[Bool.false_eq_true,false_iff,List.cons.injEq,not_and];intro h;exact absurd (zh0.2 h) he
  obtain⟨r,h1,h2⟩:=key a.length 0 (by omega);exact⟨r,h1,by simpa using h2⟩
 ·rw[decide_eq_false (by omega: ¬(a.length:Int)=(b.length:Int))];exact⟨false,rfl,by simp;intro h;exact hl (by rw[h])⟩
theorem zoc (a:List Value):z4o a a=some true:=by
 obtain⟨r,h1,h2⟩:=zqd a a;rw[h1,h2.2 rfl]
theorem znl {a b:Value}(ha:z3m a=true)(hb:z3m b=true):cmpV a b=0↔a=b:=by
 rcases a with⟨t,n,s⟩;rcases b with⟨t',n',s'⟩;unfold cmpV z3m at*;cases t<;>cases t'<;>simp[znk,zjk,zgf]at*
 ·intro _;rw[ha,hb]
 ·intro h;omega
theorem zbz: ∀{a b:List Value},a.all z3m=true→b.all z3m=true→(cmpL cmpV a b=0↔a=b)
 |[],[],_,_=>by simp[cmpL]
 |[],_::_,_,_=>by simp[cmpL]
 |_::_,[],_,_=>by simp[cmpL]
 |x::a,y::b,ha,hb=>by
  simp only[List.all_cons,Bool.and_eq_true]at ha hb;have h1:=znl ha.1 hb.1
  have h2:=zbz ha.2 hb.2;simp only[cmpL,thenC];split
  ·rename_i h;rw[h2,h1.1 h];simp
  ·rename_i h
   constructor
   ·intro g;exact absurd g h
   ·intro g;exact absurd (h1.2 (List.cons.inj g).1) h
theorem z6o {p:List Value}(h:okRow p=true):p.all z3m=true∧p.length≤8:=by
 unfold okRow at h;simp only[Bool.and_eq_true,decide_eq_true_eq]at h;exact⟨h.2,h.1⟩
end Go.Av
namespace Go.Av
open Go
def z4w (t:Time):Prop:=0≤t.epoch∧0≤t.loop.1∧0≤t.loop.2
def lub2 (a x:Time):Time:=⟨if a.epoch<x.epoch then x.epoch else a.epoch,(if a.loop.1<x.loop.1 then x.loop.1 else a.loop.1,if a.loop.2<x.loop.2 then x.loop.2 else a.loop.2)⟩
def zeroT:Time:=⟨0,(0,0)⟩
def lubL (l:List Time):Time:=l.foldl lub2 zeroT
theorem max0 {a:Int}(h:0≤a):a=if 0<a then a else 0:=by
 by_cases h1:0<a
 ·rw[if_pos h1]
 ·rw[if_neg h1];omega
theorem zi1 {l:List Time}(hl: ∀x∈l,z4w x):z3g l=some (lubL l):=by
 unfold z3g;rw[z59 (lubL l) (fun i a=>a=lubL (l.take i)) (fun s h=>by rw[h,zzm])]
 ·rfl
 ·intro i a hi ha;refine⟨_,?_,rfl⟩;rw[z2h hi];have hx:=hl _ (z34 hi)
  generalize l.getD i zzd=x at*;simp only[lubL,List.foldl_append,List.foldl_cons,List.foldl_nil];rw[←lubL,←ha];simp only[jn_eq,z0f,z6f,zz0,z0b];rcases Nat.eq_zero_or_pos i with h0|h0
  ·subst h0;simp[lubL]at ha;subst ha;obtain⟨x1,x2,x3⟩:=hx;simp[outK,lub2,zeroT];exact⟨max0 x1,max0 x2,max0 x3⟩
  ·rw[if_neg (by omega)];simp[outK,lub2]
 ·rfl
theorem mx_eq (a b:Int):(if a<b then b else a)=max a b:=by split<;>omega
theorem zoo {x:Time}(h:z4w x):lub2 zeroT x=x:=by
 obtain⟨h1,h2,h3⟩:=h;simp only[lub2,mx_eq,zeroT];refine Time.ext' ?_ ?_ ?_<;>simp only<;>omega
theorem zkx {x y:Time}(hx:z4w x):lubL [x,y]=lub2 x y:=by
 simp[lubL,zoo hx]
def leT (a b:Time):Bool:=decide (a.epoch≤b.epoch) && (decide (a.loop.1≤b.loop.1) && decide (a.loop.2≤b.loop.2))
theorem           zf3 (a b : Time) :                  z3p a b = some (cmpT a b) := by
  unfold                  z3p cmpT
  simp only [   z0f,       z0b,    z2y]
  by_cases h1 : a.epoch < b.epoch <;> by_cases h2 : b.epoch < a.epoch <;> by_cases h3 : a.loop.1 < b.loop.1 <;> by_cases h4 : b.loop.1 < a.loop.1 <;> by_cases h5 : a.loop.2 < b.loop.2 <;> by_cases h6 : b.loop.2 < a.loop.2 <;>
    simp [outK, h1, h2, h3, h4, h5, h6] <;> omega
theorem zkw (a:Time):leT a a=true:=by simp[leT]
theorem zjr {a b c:Time}(h:leT a b=true)(g:leT b c=true):leT a c=true:=by
 simp only[leT,Bool.and_eq_true,decide_eq_true_eq]at*;omega
theorem zq1 {a b:Time}:leT a b=true↔a.epoch≤b.epoch∧a.loop.1≤b.loop.1∧a.loop.2≤b.loop.2:=by simp[leT]
theorem zia (u v w:Int):z7e [u,v,w]=some (thenC u (thenC v w)):=by
 unfold z7e thenC;simp only[List.length_cons,List.length_nil,zza,Nat.reduceAdd,z0f,z0b,z2y];by_cases h1:u=0<;>by_cases h2:v=0<;>by_cases h3:w=0<;>simp[outK,h1,h2,h3]
theorem zqv (u v w:Int):z3e [u,v,w]=some (thenC u (thenC v w)):=zia u v w
theorem zo2 (u v:Int):z3e [u,v]=some (thenC u v):=zo1 u v
theorem zbs:IsCmp cmpT where
 vals a b:=by rcases zmx a b with h|h|h<;>omega
 anti a b:=by have:=zji a b;omega
 tr a b d:=by
  have e: ∀a b:Time,cmpT a b=thenC (cmpZ a.epoch b.epoch) (thenC (cmpZ a.loop.1 b.loop.1) (cmpZ a.loop.2 b.loop.2)):=fun a b=>by
   unfold cmpT thenC cmpZ
   repeat' split
   all_goals omega
  have h:=(zam.on fun t:Time=>t.epoch).lex ((zam.on fun t:Time=>t.loop.1).lex (zam.on fun t:Time=>t.loop.2));rw[e,e,e];exact h.tr a b d
theorem       zfl {a b : Time} : cmpT a b = 0 ↔ a = b := by
  constructor
  · intro h
    unfold cmpT at h
    refine Time.ext' ?_ ?_ ?_ <;> · revert h; repeat' split
                                    all_goals omega
  · rintro rfl; exact     zbs.refl a
def okT (t:Time):Bool:=decide (t.epoch≤4611686018427387904) && (decide (t.loop.1≤4611686018427387904) && decide (t.loop.2≤4611686018427387904))
theorem zq6 {fuel:Nat}(hf:5<fuel)(a b:Int):z37 fuel [a,b]=some (if a<b then b else a):=by
 unfold z37;obtain⟨f,rfl⟩: ∃f,fuel=f+2:=⟨fuel-2,by omega⟩;have w:zzi.wrap 2=2:=by rw[z3c (by omega) (by omega)]
 simp[loopN,outK,need,bf,w]
theorem zj8 {fuel:Nat}(hf:5<fuel)(t:Time):z69 fuel [t]=some (if okT t then 0 else 1):=by
 unfold z69 okT;simp only[List.length_cons,List.length_nil,zza,z0f,List.getD_cons_zero,zq6 hf,zz0,z0b,mx_eq];by_cases h:4611686018427387904<max t.epoch (max t.loop.1 t.loop.2)
 ·rw[if_pos h];simp only[outK];rw[if_neg (by simp only[Bool.and_eq_true,decide_eq_true_eq];omega)]
 ·rw[if_neg h];simp only[outK];rw[if_pos (by simp only[Bool.and_eq_true,decide_eq_true_eq];omega)]
theorem zgs (t:Time):z66 [t]=some (if okT t then 0 else 1):=by
 unfold z66 okT;simp only[List.length_cons,List.length_nil,zza,z0f,List.getD_cons_zero,z0b];by_cases h1:4611686018427387904<t.epoch<;>by_cases h2:4611686018427387904<t.loop.1<;>by_cases h3:4611686018427387904<t.loop.2<;>simp[outK,h1,h2,h3]<;>omega
end Go.Av
namespace Go.Av
open Go
section
variable {α X Y:Type}
inductive R2 (r:X→Y→Prop):List X→List Y→Prop
 |nil:R2 r [] []
 |cons {x:X} {y:Y} {a:List X} {b:List Y} (h:r x y) (t:R2 r a b):R2 r (x::a) (y::b)
theorem R2.len {r:X→Y→Prop}{a:List X}{b:List Y}(h:R2 r a b):a.length=b.length:=by induction h<;>simp_all
theorem R2.app {r:X→Y→Prop}{a a':List X}{b b':List Y}(h:R2 r a b)(h':R2 r a' b'):R2 r (a++a') (b++b'):=by
 induction h with
 |nil=>exact h'
 |cons h _ ih=>exact .cons h ih
theorem R2.split {r:X→Y→Prop}: ∀{b b':List Y} {a:List X},R2 r a (b++b')→ ∃a1 a2,a=a1++a2∧R2 r a1 b∧R2 r a2 b'
 |[],b',a,h=>⟨[],a,rfl,.nil,h⟩
 |y::b,b',_,h=>by
  cases h with
  |cons h t=>
   obtain⟨a1,a2,rfl,h1,h2⟩:=R2.split t;exact⟨_::a1,a2,rfl,.cons h h1,h2⟩
theorem R2.get [Inhabited X][Inhabited Y]{r:X→Y→Prop}{a:List X}{b:List Y}(h:R2 r a b): ∀{i:Nat},i<b.length→r (a.getD i zzd) (b.getD i zzd):=by
 induction h with
 |nil=>intro i hi;simp at hi
 |cons h _ ih=>
  intro i hi;cases i with
  |zero=>exact h
  |succ i=>exact ih (by simpa using hi)
theorem R2.one {r:X→Y→Prop}{x:X}{y:Y}(h:r x y):R2 r [x] [y]:= .cons h .nil
theorem zl4 {S R Q:Type}{G:Option Q→Prop}{B:Nat→S→Option (Ctl S R)}{n:Nat}{s:S}{kn:S→Option Q}{kr:R→Option Q}(I:Nat→S→Prop)(D:S→Prop)(J:R→Prop)(h0:I 0 s)(hD: ∀s,I n s→D s)(hk: ∀s,D s→G (kn s))(hr: ∀r,J r→G (kr r))
 (hs: ∀i s,i<n→I i s→(∃s',B i s=some (.next s')∧I (i+1) s')∨(∃s',B i s=some (.brk s')∧D s')∨ ∃r,B i s=some (.ret r)∧J r):G (outK (z0f B n 0 s) kn kr):=by
 rcases zh6 I D J h0 hs hD with⟨s',h1,h2⟩|⟨r,h1,h2⟩
 ·rw[h1];exact hk s' h2
 ·rw[h1];exact hr r h2
theorem zjo [Inhabited X](a:List X)(x:X):(a++[x]).getD a.length zzd=x:=by simp[List.getD_eq_getElem?_getD]
theorem zou [Inhabited X](a b:List X)(x:X):(a++x::b).getD a.length zzd=x:=by simp[List.getD_eq_getElem?_getD]
theorem zmi (a b:List X)(x y:X):(a++x::b).set a.length y=a++y::b:=by simp[List.set_append]
def PR (num:α→Int)(l:List α):List (α×Int):=l.map fun x=>(x,num x)
theorem zfd (num:α→Int)(l l':List α):PR num (l++l')=PR num l++PR num l':=by simp[PR]
theorem zb0 {num:α→Int}{l:List α}{p:α×Int}:p∈PR num l↔ ∃x∈l,(x,num x)=p:=by simp[PR]
theorem zhi {c:α→α→Int}{y:α}: ∀{l:List (α×Int)},(∀p∈l,in64 p.2)→ -9223372036854775808*(l.length:Int)≤sm c l y∧sm c l y≤9223372036854775808*(l.length:Int)
 |[],_=>by simp[sm]
 |p::l,h=>by
  have h1:=zhi (c:=c) (y:=y) (l:=l) fun q hq=>h q (zz7 _ hq);have h2:=h p (zz5 ..)
  unfold in64 at h2;simp only[sm,List.length_cons];split<;>omega
theorem zhl {c:α→α→Int}{num:α→Int}{put:α→Int→α}{l l':List (α×Int)}{R:List α}{e:Int}(hp:l.Perm l')(h:Tot c num put l R e):Tot c num put l' R e:=by
 have hs: ∀y,sm c l y=sm c l' y:=zmm hp;rcases h with⟨h1,h2,h3⟩|⟨h1,h2,h3⟩
 ·refine .inl ⟨h1,⟨h2.strict,fun r hr=>?_,fun r hr=>?_,fun y hy hn=>?_⟩,fun y=>?_⟩
  ·rw[←hs];exact h2.sum r hr
  ·obtain⟨y,g1,g2⟩:=h2.mem r hr;exact⟨y,hp.mem_iff.1 g1,g2⟩
  ·exact h2.all y (hp.mem_iff.2 hy) (by rw[hs];exact hn)
  ·rw[←hs];exact h3 y
 ·refine .inr ⟨h1,h2,fun h=>h3 fun y=>?_⟩;rw[hs];exact h y
theorem zjs (put:α→Int→α)(S S':List (α×Int)):left0 put (S++S')=left0 put S++left0 put S':=by simp[left0]
theorem zjt (put:α→Int→α)(p:α×Int):left0 put [p]=if p.2=0 then[]else[put p.1 p.2]:=by
 unfold left0;by_cases h:p.2=0<;>simp[h]
theorem zcl (put:α→Int→α)(S:List (α×Int)):(left0 put S).length≤S.length:=by
 unfold left0;rw[List.length_map];exact List.length_filter_le _ _
def fit64 (s:Int):Int×Int:=if -9223372036854775808≤s∧s<9223372036854775808 then(s,0)else(0,10)
theorem z8i {s:Int}(h:in64 s):fit64 s=(s,0):=if_pos h
theorem z7z {s:Int}(h: ¬in64 s):fit64 s=(0,10):=if_neg h
def repT (t:Tally)(s:Int):Prop:=inU64 t.high∧inU64 t.low∧(t.high*18446744073709551616+t.low-s) % 340282366920938463463374607431768211456=0
def repW (w:Wide)(s:Int):Prop:=inU64 w.low∧w.high*18446744073709551616+w.low=s
theorem zol {w:Wide}{p s:Int}(hp:in64 p)(h:repW w s)(hb: -85070591730234615865843651857942052864≤s∧s≤85070591730234615865843651857942052864):
 ∃w',z2e w p=some w'∧repW w' (s+p):=by
 obtain⟨hl,hs⟩:=h;unfold repW in64 inU64 at*;unfold z2e;have e1:zzi.wrap (w.high+1)=w.high+1:=z6p (by unfold in64;omega)
 have e2:zzi.wrap (w.high-1)=w.high-1:=z6p (by unfold in64;omega);have e3:zzi.wrap (w.high+1-1)=w.high:=by rw[z6p (by unfold in64;omega)];omega
 simp only[jn_eq,z8r,z0b,e1];split<;>split<;>refine⟨_,rfl,?_,?_⟩<;>simp only[e2,e3]<;>omega
theorem zln {w:Wide}{s:Int}(h:repW w s):z2k w=some (fit64 s):=by
 obtain⟨hl,hs⟩:=h;unfold inU64 at*;unfold z2k;by_cases h: -9223372036854775808≤s∧s<9223372036854775808
 ·have e1:zzi.wrap w.low=s:=by rw[z6v];split<;>omega
  rw[z8i h];simp only[jn_eq,e1,z0b];have:(w.high=0∧0≤s)∨(w.high= -1∧s<0):=by omega
  rcases this with⟨g1,g2⟩|⟨g1,g2⟩
  ·rw[if_pos g1,if_pos g2];rfl
  ·rw[if_neg (by omega),if_pos g1,if_pos g2]
 ·rw[z7z h];simp only[jn_eq,z0b];by_cases g1:w.high=0
  ·have g2: ¬0≤zzi.wrap w.low:=by rw[z6v];split<;>omega
   rw[if_pos g1,if_neg g2,if_neg (by omega)];rfl
  ·rw[if_neg g1];by_cases g2:w.high= -1
   ·have g3: ¬zzi.wrap w.low<0:=by rw[z6v];split<;>omega
    rw[if_pos g2,if_neg g3]
   ·rw[if_neg g2];rfl
end
end Go.Av
namespace Go.Av
open Go
def cU (a b:Update):Int:=thenC (cmpL cmpV a.key b.key) (thenC (cmpL cmpV a.row b.row) (cmpT a.time b.time))
theorem cU_is:IsCmp cU:=(z89.list.on fun u:Update=>u.key).lex ((z89.list.on fun u:Update=>u.row).lex (zbs.on fun u:Update=>u.time))
theorem z8f (a b:Update):z2t a b=some (cU a b):=by
 unfold z2t cU;simp only[z7v,zbh,zia,zz0]
def z3b (x:Update)(n:Int):Update:=⟨x.key,x.row,x.time,n⟩
theorem zn7 {x:Update}{n:Int}(h:x.row.length≤8):z7h x n=some (z3b x n):=rfl
def zbb (x:Line_Update)(p:Update×Int):Prop:=x.of=p.1∧repT x.tally p.2
theorem zmu {a:List Line_Update}{x:Line_Update}{p s:Int}(hp:in64 p)(h:repT x.tally s):
 ∃t:Tally,z4a a.length p (a++[x])=some (a++[(⟨t,x.of⟩:Line_Update)])∧repT t (s+p):=by
 obtain⟨hh,hl,hs⟩:=h;unfold in64 inU64 repT at*;unfold z4a z9z;simp only[zjo,zmi,zzg,zzl,List.length_singleton,shr63 hp,z8r];rw[z09 (by omega),z09 (by omega)];simp only[zz0];rw[z09 (by omega),z09 (by omega),z09 (by split<;>omega)];simp only[zz0];rw[z09 (by omega)];refine⟨_,rfl,?_,?_,?_⟩
 ·simp only[inU64];omega
 ·simp only[inU64];omega
 ·simp only;split<;>omega
theorem zn2 {x:Line_Update}{s:Int}(h:repT x.tally s)(hb: -85070591730234615865843651857942052864≤s∧s≤85070591730234615865843651857942052864):z4b x=some ((fit64 s).1,(fit64 s).2,x):=by
 obtain⟨hh,hl,hs⟩:=h;unfold inU64 at*;have hw:in64 (zzi.wrap x.tally.low):=by unfold in64;rw[z6v];split<;>omega
 unfold z4b;rw[shr63 hw,z8r];by_cases h: -9223372036854775808≤s∧s<9223372036854775808
 ·rw[z8i h];have e1:zzi.wrap x.tally.low=s:=by rw[z6v];split<;>omega
  rw[e1];have e2:x.tally.high=(if s<0 then(-1:Int)else 0) % 18446744073709551616:=by split<;>omega
  rw[decide_eq_true e2];rfl
 ·rw[z7z h];have e2: ¬x.tally.high=(if zzi.wrap x.tally.low<0 then(-1:Int)else 0) % 18446744073709551616:=by
   rw[z6v];split<;>split<;>omega
  rw[decide_eq_false e2];rfl
theorem zoa:z2b=rotG (α:=Update):=rfl
theorem znu:z1h=insG (α:=Update) z2t:=rfl
theorem zjz: ∀(fuel:Nat) (a b d:Int) (l:List Update),z0n fuel a b d l=symG (α:=Update) z2t fuel a b d l
 |0,_,_,_,_=>rfl
 |fuel+1,a,b,d,l=>by
  unfold z0n symG;simp only[zoa,zjz fuel]
theorem ziq (fuel:Nat)(n:Int)(l:List Update):z1s fuel n l=stabG (α:=Update) z2t fuel n l:=by
 unfold z1s stabG;simp only[znu,zjz]
theorem zm4 {fuel:Nat}{l:List Update}(hl: ∀x∈l,in64 x.diff)(hr: ∀x∈l,x.row.length≤8)(hn:l.length≤8000000000)(hf:40000000000≤fuel):
 ∃R e l',z0o fuel l=some (R,e,l')∧Tot cU (fun x=>x.diff) z3b (PR (fun x=>x.diff) l) R e∧R.length≤l.length:=by
 obtain⟨r1,h1,h2,h3⟩:=zeq (c:=cU) z8f cU_is (fuel:=fuel) (l:=l) (by omega) (by omega);have hlen:r1.length=l.length:=h2.length_eq
 unfold z0o z0e;rw[ziq,h1];simp only[zz0];rw[z09 hlen]
 suffices hS: ∃R e,(_:Option ((List Update)×Int×(List Update)))=some (R,e,r1)∧Tot cU (fun x=>x.diff) z3b (PR (fun x=>x.diff) r1) R e∧R.length≤r1.length by
  obtain⟨R,e,g1,g2,g3⟩:=hS;refine⟨R,e,r1,?_,zhl ?_ g2,by omega⟩
  ·exact g1
  ·exact h2.map _
 have hl1: ∀x∈r1,in64 x.diff:=fun x hx=>hl x (h2.mem_iff.1 hx);have hr1: ∀x∈r1,x.row.length≤8:=fun x hx=>hr x (h2.mem_iff.1 hx)
 refine z9a (G:=fun q=> ∃R e,q=some (R,e,r1)∧Tot cU (fun x=>x.diff) z3b (PR (fun x=>x.diff) r1) R e∧R.length≤r1.length) (P:=fun a=> ∃S,R2 zbb a S∧SS cU (PR (fun x=>x.diff) r1) S∧S.length≤r1.length) ?_ ?_
 ·have:=fun B h=>zab (R:=Empty) (B:=B) (n:=r1.length) (fun i (a:List Line_Update)=> ∃S,R2 zbb a S∧SS cU (PR (fun x=>x.diff) (r1.take i)) S∧S.length≤i) (s:=([]:List Line_Update)) ⟨[],.nil,zof,zzc _⟩ h;simp only[zzm]at this;refine this _ ?_;rintro i a hi ⟨S,k1,k2,k3⟩;have hx:=hl1 _ (z34 hi)
  rw[zza,z09 hi];have htk:PR (fun x:Update=>x.diff) (r1.take (i+1))=PR (fun x=>x.diff) (r1.take i)++[(r1.getD i zzd,(r1.getD i zzd).diff)]:=by
   rw[z2h hi,zfd];rfl
  have hle: ∀p∈S,cU p.1 (r1.getD i zzd)≤0:=fun p hp=>by
   obtain⟨y,g1,g2⟩:=k2.mem p hp;obtain⟨z,g3,g4⟩:=zb0.1 g1;obtain⟨j,hj,g5⟩:=List.mem_iff_getElem.1 g3;rw[List.length_take]at hj;have:=h3 j i (by omega) hi
   rw[←g2,←g4];simp only;rw[←g5,List.getElem_take];rw[List.getD_eq_getElem?_getD,List.getElem?_eq_getElem (by omega:j<r1.length)]at this;exact this
  generalize hxe:r1.getD i zzd=x at*;rw[htk];clear htk
  let G:Option (Ctl (List Line_Update) Empty)→Prop:=fun q=> ∃s',q=some (.next s')∧ ∃S,R2 zbb s' S∧SS cU (PR (fun x=>x.diff) (r1.take i)++[(x,x.diff)]) S∧S.length≤i+1
  refine jn_P (G:=G) (P:=fun b=> ∃(b':List Line_Update) (y:Line_Update) (S':List (Update×Int)) (s:Int),b=b'++[y]∧b.length≤i+1∧R2 zbb b' S'∧repT y.tally s∧SS cU (PR (fun x=>x.diff) (r1.take i)++[(x,x.diff)]) (S'++[(y.of,s+x.diff)])) ?_ ?_
  ·rintro _ ⟨b',y,S',s,rfl,q0,q1,q2,q3⟩;simp only[zzl,List.length_singleton]at q0 ⊢;rw[wsub1 (by omega) (by omega),z09 (by omega)];obtain⟨t,g1,g2⟩:=zmu (a:=b') (x:=y) hx q2;unfold z7g;simp only[zz0,Nat.add_sub_cancel,zza,zze];rw[g1];simp only[zz0];rw[z09 (by simp)];refine⟨_,rfl,_,R2.app q1 (R2.one (show zbb ⟨t,y.of⟩ (y.of,s+x.diff)from⟨rfl,g2⟩)),q3,?_⟩;have:=q1.len
   simp only[zzl,List.length_singleton];omega
  ·simp only[jn_eq,z0b];have hlen2:=k1.len
   rcases List.eq_nil_or_concat S with rfl|⟨A,p,rfl⟩
   ·have ha:a=[]:=List.eq_nil_of_length_eq_zero hlen2;subst ha;rw[if_pos (by simp),z4j,z09 (by simp)];refine⟨_,⟨[],_,[],0,rfl,by simp,.nil,by simp[repT,inU64],?_⟩,rfl⟩;have:=zlf (A:=[]) (B:=[]) (x:=x) (n:=x.diff) cU_is k2 (fun p hp=>by cases hp) (fun p hp=>by cases hp)
    simpa using this
   ·simp only[List.concat_eq_append]at*;obtain⟨a1,a2,rfl,u1,u2⟩:=R2.split k1;cases u2 with
    | @cons y _ _ _ v t=>
     cases t;obtain⟨v1,v2⟩:=v;have e1:(a1++[y]).length=a1.length+1:=by simp
     have e2:=u1.len;simp only[zzl,List.length_singleton]at k3;rw[if_neg (by omega),e1,wsub1 (by omega) (by omega),z09 (by omega)];simp only[Nat.add_sub_cancel,zza,zze,zjo];rw[z09 (by omega),z8f,v1];simp only[zz0];by_cases g:cU p.1 x=0
     ·rw[decide_eq_true g];simp only[Bool.not_true,z2m];refine⟨_,⟨a1,y,A,p.2,rfl,by omega,u1,v2,?_⟩,?_⟩
      ·rw[v1];exact zoe cU_is k2 g
      ·rw[e1,wsub1 (by omega) (by omega)];simp only[Nat.add_sub_cancel,zze]
     ·rw[decide_eq_false g];simp only[Bool.not_false,z4j];rw[z09 (by simp;omega)];refine⟨_,⟨a1++[y],_,A++[p],0,rfl,by simp;omega,k1,by simp[repT,inU64],?_⟩,rfl⟩;have:=zlf (A:=A++[p]) (B:=[]) (x:=x) (n:=x.diff) cU_is (by simpa using k2) (fun q hq=>by
       have h4:=hle p (by simp);have h5:cU q.1 p.1≤0:=by
        rcases zz3.1 hq with hq|hq
        ·have h6:=k2.strict;rw[List.pairwise_append]at h6;have:=h6.2.2 q hq p (by simp)
         omega
        ·rw[zz4.1 hq,cU_is.refl];omega
       have h7:=cU_is.tr _ _ _ h5 h4;by_cases h8:cU q.1 x=0
       ·exfalso;have h9:cU x p.1≤0:=by rw[←cU_is.eqL p.1 h8];exact h5
        have:=cU_is.anti p.1 x;omega
       ·omega) (fun q hq=>by cases hq)
      simpa using this
 ·rintro a ⟨S,k1,k2,k3⟩;have hb: ∀i,i<S.length→ -85070591730234615865843651857942052864≤(S.getD i zzd).2∧(S.getD i zzd).2≤85070591730234615865843651857942052864:=fun i hi=>by
   rw[k2.sum _ (z34 hi)];have:=zhi (c:=cU) (y:=(S.getD i zzd).1) (l:=PR (fun x=>x.diff) r1) (fun p hp=>by
    obtain⟨z,g1,g2⟩:=zb0.1 hp;rw[←g2];exact hl1 z g1)
   have e:(PR (fun x:Update=>x.diff) r1).length=r1.length:=by simp[PR]
   rw[e]at this;omega
  have hrow: ∀i,i<S.length→(S.getD i zzd).1.row.length≤8:=fun i hi=>by
   obtain⟨y,g1,g2⟩:=k2.mem _ (z34 hi);obtain⟨z,g3,g4⟩:=zb0.1 g1;rw[←g2,←g4];exact hr1 z g3
  have hlen2:=k1.len;rw[hlen2];refine zl4 (G:=fun q=> ∃R e,q=some (R,e,r1)∧Tot cU (fun x=>x.diff) z3b (PR (fun x=>x.diff) r1) R e∧R.length≤r1.length) (fun i (b:List Update)=>(∀j,j<i→in64 (S.getD j zzd).2)∧b=left0 z3b (S.take i)) (fun b=>(∀j,j<S.length→in64 (S.getD j zzd).2)∧b=left0 z3b S) (fun r=>r=([],10,r1)∧ ∃j,j<S.length∧ ¬in64 (S.getD j zzd).2) ⟨fun j hj=>by omega,rfl⟩ (fun b hb=>by
   rw[zzm]at hb;exact hb) ?_ ?_ ?_
  rotate_left 2
  ·rintro i b hi ⟨m1,m2⟩;obtain⟨v1,v2⟩:=k1.get hi;rw[zza,z09 hi,zn2 v2 (hb i hi)];simp only[zz0,z2y,z0b];by_cases g:in64 (S.getD i zzd).2
   ·left;rw[z8i g,v1];have hput:=zn7 (x:=(S.getD i zzd).1) (n:=(S.getD i zzd).2) (hrow i hi)
    have hlb:b.length≤i:=by
     rw[m2];have:=zcl z3b (S.take i);rw[List.length_take]at this;omega
    rw[z2h hi,zjs,zjt,←m2];have m3: ∀j,j<i+1→in64 (S.getD j zzd).2:=fun j hj=>by
     by_cases e:j=i
     ·subst e;exact g
     ·exact m1 j (by omega)
    by_cases g2:(S.getD i zzd).2=0
    ·exact⟨b,by simp only[if_true,if_pos g2],m3,by rw[if_pos g2,List.append_nil]⟩
    ·refine⟨b++[z3b (S.getD i zzd).1 (S.getD i zzd).2],?_,m3,by rw[if_neg g2]⟩;simp only[if_true,if_neg g2,hput,zz0];rw[z09 (by simp;omega)]
   ·right;right;rw[z7z g];exact⟨_,rfl,rfl,i,hi,g⟩
  ·rintro b ⟨g2,g3⟩;refine⟨_,_,rfl,.inl ⟨rfl,?_,?_⟩,by rw[g3];have:=zcl z3b S;omega⟩
   ·rw[g3];exact zo9 (num:=fun x=>x.diff) (put:=z3b) cU_is (fun x n=>rfl) (fun x n y=>rfl) k2
   ·rw[zgo cU_is k2];intro p hp;obtain⟨j,hj,e⟩:=List.mem_iff_getElem.1 hp;have:=g2 j hj
    rw[List.getD_eq_getElem?_getD,List.getElem?_eq_getElem hj]at this;rw[←e];exact this
  ·rintro r ⟨g2,j,g3,g4⟩;rw[g2];refine⟨_,_,rfl,.inr ⟨rfl,rfl,?_⟩,Nat.zero_le _⟩;rw[zgo cU_is k2];intro h;exact g4 (h _ (z34 g3))
end Go.Av
namespace Go.Av
open Go
section
variable {α:Type} [Inhabited α]
def zgn (cmp:α→α→Option Int)(num:α→Int)(fuel:Nat)(a5:(List α)×(List Wide))(x:α):Option (Ctl ((List α)×(List Wide)) Empty):=
 outK (loopN (S:=Int) (R:=Empty) (fun(a17:Int)=>jn (fun(a42:Bool)=>bf a42 (some (.next (zzi.wrap (a17+1)))) (some (.brk a17))) fun j43=>bf (decide (a17<(a5.1.length:Int))) (need ((0:Int)≤a17∧a17<(a5.1.length:Int))<|need ((0+a17.toNat)<a5.1.length)<|(cmp (a5.1.getD (0+a17.toNat) zzd) x).bind fun r47=>j43 (decide (r47<0))) (j43 false)) fuel 0) (fun(a18:Int)=>jn (fun(a19:(List α)×(List Wide))=>need ((0:Int)≤a18∧a18<(a19.2.length:Int))<|need ((0+a18.toNat)<a19.2.length)<|(z2e (a19.2.getD (0+a18.toNat) zzd) (num x)).bind fun r23=>need ((0:Int)≤a18∧a18<(a19.2.length:Int))<|need ((0+a18.toNat)<a19.2.length)<|some (.next (a19.1,(a19.2.set (0+a18.toNat) r23)))) fun j20=>jn (fun(a26:Bool)=>bf a26 (need ((0:Int)≤0∧(0:Int)≤a18∧a18≤(a5.1.length:Int))<|need ((sub a5.1 (0:Int) a18).length≤274877906944)<|need ((sub a5.1 (0:Int) a18).length+([x]:List α).length≤274877906944)<|need ((0:Int)≤a18∧a18≤(a5.1.length:Int)∧(a5.1.length:Int)≤(a5.1.length:Int))<|need (((sub a5.1 (0:Int) a18)++([x]:List α)).length+(sub a5.1 a18 (a5.1.length:Int)).length≤274877906944)<|need ((0:Int)≤0∧(0:Int)≤a18∧a18≤(a5.2.length:Int))<|need ((sub a5.2 (0:Int) a18).length≤274877906944)<|need ((sub a5.2 (0:Int) a18).length+([(⟨0,0⟩:Wide)]:List Wide).length≤274877906944)<|need ((0:Int)≤a18∧a18≤(a5.2.length:Int)∧(a5.2.length:Int)≤(a5.2.length:Int))<|need (((sub a5.2 (0:Int) a18)++([(⟨0,0⟩:Wide)]:List Wide)).length+(sub a5.2 a18 (a5.2.length:Int)).length≤274877906944)<|j20 ((((sub a5.1 (0:Int) a18)++([x]:List α))++(sub a5.1 a18 (a5.1.length:Int))),(((sub a5.2 (0:Int) a18)++([(⟨0,0⟩:Wide)]:List Wide))++(sub a5.2 a18 (a5.2.length:Int))))) (j20 (a5.1,a5.2))) fun j27=>bf (decide (a18=(a5.1.length:Int))) (j27 true) (need ((0:Int)≤a18∧a18<(a5.1.length:Int))<|need ((0+a18.toNat)<a5.1.length)<|(cmp (a5.1.getD (0+a18.toNat) zzd) x).bind fun r41=>j27 (decide (0<r41)))) (fun(x:Empty)=>x.elim)
def relS (a:(List α)×(List Wide))(S:List (α×Int)):Prop:=a.1=S.map (·.1)∧R2 repW a.2 (S.map (·.2))
theorem zn3 {cmp:α→α→Option Int}{c:α→α→Int}{num:α→Int}{fuel:Nat}{a:(List α)×(List Wide)}{l S:List (α×Int)}{x:α}(hC:IsCmp c)(hc: ∀p∈S,cmp p.1 x=some (c p.1 x))(h:SS c l S)(ha:relS a S)
 (hn:S.length≤8000000000) (hf:S.length<fuel) (hx:in64 (num x)) (hb: ∀p∈S,-85070591730234615865843651857942052864≤p.2∧p.2≤85070591730234615865843651857942052864):
 ∃a' S',zgn cmp num fuel a x=some (.next a')∧relS a' S'∧SS c (l++[(x,num x)]) S'∧S'.length≤S.length+1:=by
 obtain⟨a1,a2⟩:=a;obtain⟨r1,r2⟩:=ha;simp only at r1 r2;subst r1;unfold zgn;have hl:((S.map (·.1)).length:Int)=(S.length:Int):=by simp
 let G:Option (Ctl ((List α)×(List Wide)) Empty)→Prop:=fun q=> ∃a' S',q=some (.next a')∧relS a' S'∧SS c (l++[(x,num x)]) S'∧S'.length≤S.length+1
 have hget: ∀i,i<S.length→(S.map (·.1)).getD i zzd=(S.getD i zzd).1:=fun i hi=>by
  simp[List.getD_eq_getElem?_getD,List.getElem?_eq_getElem hi]
 refine z9a (G:=G) (P:=fun s=> ∃k:Nat,s=(k:Int)∧k≤S.length∧(∀j,j<k→c (S.getD j zzd).1 x<0)∧(k=S.length∨ ¬c (S.getD k zzd).1 x<0)) ?_ ?_
 ·refine za6 (I:=fun i s=>s=(i:Int)∧i≤S.length∧ ∀j,j<i→c (S.getD j zzd).1 x<0) (n:=S.length) _ hf ⟨rfl,Nat.zero_le _,fun j hj=>by omega⟩ ?_;rintro i _ ⟨rfl,k1,k2⟩;simp only[jn_eq,z0b,hl,intlt];by_cases g:i<S.length
  ·rw[if_pos g,z09 (by omega),z09 (by simp;omega)];simp only[zza,zze,hget i g];rw[hc _ (z34 g)];simp only[zz0];by_cases g2:c (S.getD i zzd).1 x<0
   ·left;refine⟨((i+1:Nat):Int),?_,⟨rfl,by omega,fun j hj=>?_⟩,g⟩
    ·rw[if_pos g2,wadd1 (by omega)]
    ·by_cases e:j=i
     ·subst e;exact g2
     ·exact k2 j (by omega)
   ·right;rw[if_neg g2];exact⟨_,rfl,i,rfl,k1,k2,.inr g2⟩
  ·right;rw[if_neg g,z2m];exact⟨_,rfl,i,rfl,k1,k2,.inl (by omega)⟩
 ·rintro _ ⟨k,rfl,k1,k2,k3⟩;have hS:S=S.take k++S.drop k:=(List.take_append_drop k S).symm
  have hkl:(S.take k).length=k:=by rw[List.length_take];omega
  have hA: ∀p∈S.take k,c p.1 x<0:=fun p hp=>by
   obtain⟨j,hj,e⟩:=List.mem_iff_getElem.1 hp;have:=k2 j (by omega)
   rw[List.getElem_take]at e;rw[List.getD_eq_getElem?_getD,List.getElem?_eq_getElem (by omega:j<S.length)]at this;rw[←e];exact this
  have hr2:R2 repW a2 (S.map (·.2)):=r2;refine jn_P (G:=G) (P:=fun b=> ∃(A:List (α×Int)) (p:α×Int) (B:List (α×Int)),k=A.length∧relS b (A++p::B)∧in64 (num x)∧(-85070591730234615865843651857942052864≤p.2∧p.2≤85070591730234615865843651857942052864)∧SS c (l++[(x,num x)]) (A++(p.1,p.2+num x)::B)∧(A++p::B).length≤S.length+1) ?_ ?_
  ·rintro⟨b1,b2⟩ ⟨A,p,B,q0,⟨q1,q2⟩,q3,q4,q5,q6⟩;simp only at q1 q2;rw[List.map_append,List.map_cons]at q2;obtain⟨w1,w2,rfl,u1,u2⟩:=R2.split q2;cases u2 with
   | @cons w _ w3 _ v t=>
    have e1:k=w1.length:=by rw[q0,u1.len];simp
    have e2:=t.len;simp only;rw[z09 (by simp;omega),z09 (by simp;omega)];simp only[zze,zza];rw[e1,zou];obtain⟨w',g1,g2⟩:=zol q3 v q4;rw[g1];simp only[zz0];rw[z09 (by simp;omega),z09 (by simp),zmi];refine⟨_,_,rfl,⟨?_,?_⟩,q5,?_⟩
    ·simp only;rw[q1];simp
    ·simp only[List.map_append,List.map_cons];exact R2.app u1 (.cons g2 t)
    ·simpa using q6
  ·simp only[jn_eq,z0b,hl];have hnew:(k=S.length∨0<c (S.getD k zzd).1 x)→ ∀p∈S.drop k,c x p.1<0:=fun hk p hp=>by
    rcases hk with hk|hk
    ·rw[hk,List.drop_length]at hp;cases hp
    ·by_cases e:k<S.length
     ·rw[z25 e]at hp;have h0:c x (S.getD k zzd).1<0:=hC.gt_iff.1 hk
      rcases zzf.1 hp with rfl|hp
      ·exact h0
      ·have hs:=h.strict;rw[hS,z25 e,List.pairwise_append,List.pairwise_cons]at hs;have:=hs.2.1.1 p hp
       exact hC.lt_tr h0 (by omega)
     ·rw[zzk (by omega)]at hp;cases hp
   have fin:(k=S.length∨0<c (S.getD k zzd).1 x)→relS (((S.map (·.1)).take k++[x])++(S.map (·.1)).drop k,(a2.take k++[(⟨0,0⟩:Wide)])++a2.drop k) (S.take k++(x,0)::S.drop k)∧SS c (l++[(x,num x)]) (S.take k++(x,0+num x)::S.drop k):=fun hk=>by
    refine⟨⟨?_,?_⟩,?_⟩
    ·simp
    ·rw[hS,List.map_append]at hr2;obtain⟨w1,w2,e,u1,u2⟩:=R2.split hr2;have e1:w1.length=k:=by rw[u1.len,List.length_map,hkl]
     simp only[e,List.map_append,List.map_cons,←e1,List.take_left,List.drop_left,List.append_assoc];rw[e1];exact R2.app u1 (.cons ⟨by simp[inU64],by simp⟩ u2)
    ·rw[Int.zero_add];refine zlf hC (by rw[←hS];exact h) hA (hnew hk)
   have hsub: ∀{β:Type} (L:List β),L.length=S.length→sub L (0:Int) (k:Int)=L.take k∧sub L (k:Int) (S.length:Int)=L.drop k:=fun{β} L hL=>by
    unfold sub;constructor
    ·simp
    ·rw[List.take_of_length_le]
     ·simp
     ·rw[zzj];simp;omega
   have hl2:a2.length=S.length:=by rw[r2.len];simp
   have i1:=hsub (S.map (·.1)) (by simp);have i2:=hsub a2 hl2
   by_cases g:k=S.length
   ·rw[if_pos (by omega),z4j];obtain⟨f1,f2⟩:=fin (.inl g);refine⟨_,⟨S.take k,(x,0),S.drop k,hkl.symm,f1,hx,by simp,f2,by simp;omega⟩,?_⟩;rw[hl2,i1.1,i1.2,i2.1,i2.2,z09 (by omega),z09 (by simp;omega),z09 (by simp;omega),z09 (by omega),z09 (by simp;omega),z09 (by omega),z09 (by simp;omega),z09 (by simp;omega),z09 (by omega),z09 (by simp;omega)]
   ·have gl:k<S.length:=by omega
    rw[if_neg (by omega),z09 (by omega),z09 (by simp;omega)];simp only[zza,zze,hget k gl];rw[hc _ (z34 gl)];simp only[zz0];by_cases g2:0<c (S.getD k zzd).1 x
    ·rw[if_pos g2];obtain⟨f1,f2⟩:=fin (.inr g2);refine⟨_,⟨S.take k,(x,0),S.drop k,hkl.symm,f1,hx,by simp,f2,by simp;omega⟩,?_⟩;rw[hl2,i1.1,i1.2,i2.1,i2.2,z09 (by omega),z09 (by simp;omega),z09 (by simp;omega),z09 (by omega),z09 (by simp;omega),z09 (by omega),z09 (by simp;omega),z09 (by simp;omega),z09 (by omega),z09 (by simp;omega)]
    ·rw[if_neg g2];have g3:c (S.getD k zzd).1 x=0:=by
      rcases k3 with k3|k3
      ·omega
      ·omega
     rw[z25 gl]at hS;refine⟨(S.map (·.1),a2),⟨S.take k,S.getD k zzd,S.drop (k+1),hkl.symm,⟨?_,?_⟩,hx,hb _ (z34 gl),zoe hC (by rw[←hS];exact h) g3,?_⟩,by simp only[zza,zze]⟩
     ·rw[←hS]
     ·rw[←hS];exact r2
     ·rw[←hS];omega
end
end Go.Av
namespace Go.Av
open Go
theorem zmo (v:Int):thenC 0 v=v:=rfl
theorem ze0 {u v:Int}(h:u≠0):thenC u v=u:=if_neg h
theorem zbn {X:Type}[Inhabited X]{R:Type}{B:Nat→Unit→Option (Ctl Unit R)}{l:List X}(e:X→Int)(f:Int→R)(hB: ∀i,i<l.length→B i ()=if e (l.getD i zzd)=0 then some (.next ())else some (.ret (f (e (l.getD i zzd))))):
 z0f B l.length 0 ()=if l.foldr (fun x v=>thenC (e x) v) 0=0 then some (.done ())else some (.ret (f (l.foldr (fun x v=>thenC (e x) v) 0))):=by
 have key: ∀k i,i+k=l.length→z0f B k i ()=if(l.drop i).foldr (fun x v=>thenC (e x) v) 0=0 then some (.done ())else some (.ret (f ((l.drop i).foldr (fun x v=>thenC (e x) v) 0))):=by
  intro k;induction k with
  |zero=>
   intro i hi;rw[zzk (by omega)];rfl
  |succ k ih=>
   intro i hi;rw[z25 (by omega:i<l.length)];simp only[z0f,hB i (by omega),List.foldr_cons];by_cases h:e (l.getD i zzd)=0
   ·simp only[h,if_true,zmo];exact ih (i+1) (by omega)
   ·simp only[ze0 h,if_neg h]
 have:=key l.length 0 (by omega);rwa[List.drop_zero]at this
def errU (u:Update):Int:=thenC (if okRow u.key then 0 else 4) (thenC (if okRow u.row then 0 else 4) (if okT u.time then 0 else 1))
def chkL (l:List Update):Int:=l.foldr (fun u v=>thenC (errU u) v) 0
def okU (u:Update):Prop:=okRow u.key=true∧okRow u.row=true∧okT u.time=true
theorem zno {u:Update}:errU u=0↔okU u:=by
 unfold errU okU thenC;by_cases h1:okRow u.key=true<;>by_cases h2:okRow u.row=true<;>by_cases h3:okT u.time=true<;>simp[h1,h2,h3]
theorem z85 {u v:Int}:thenC u v=0↔u=0∧v=0:=by unfold thenC;split<;>omega
theorem z7b {l:List Update}:chkL l=0↔ ∀u∈l,okU u:=by
 induction l with
 |nil=>simp[chkL]
 |cons u l ih=>
  unfold chkL at*;rw[List.foldr_cons,z85,zno,ih];simp
theorem zm2 (u v w:Int):thenC (thenC u v) w=thenC u (thenC v w):=by
 by_cases h1:u=0
 ·subst h1;rfl
 ·rw[ze0 h1,ze0 h1,ze0 h1]
theorem zaw (a b:List Update):chkL (a++b)=thenC (chkL a) (chkL b):=by
 induction a with
 |nil=>simp[chkL,thenC]
 |cons u a ih=>
  unfold chkL at*;rw[List.cons_append,List.foldr_cons,List.foldr_cons,ih,zm2]
theorem zc3 {fuel:Nat}(hf:5<fuel)(l:List Update):z4y fuel l=some (chkL l):=by
 unfold z4y;rw[zbn errU (fun x=>x)]
 ·show outK (if chkL l=0 then _ else some (.ret (chkL l))) _ _=_;split
  ·rename_i h;rw[h];rfl
  ·rfl
 ·intro i hi;rw[zbg,zbg,zj8 hf];simp only[zz0,zqv,z2y,z0b];rfl
theorem zf2 (l:List Update):z4c l=some (chkL l):=by
 unfold z4c;rw[zbn errU (fun x=>x)]
 ·show outK (if chkL l=0 then _ else some (.ret (chkL l))) _ _=_;split
  ·rename_i h;rw[h];rfl
  ·rfl
 ·intro i hi;simp only[List.length_cons,List.length_nil,zza,Nat.reduceAdd,z0f,List.getD_cons_zero,List.getD_cons_succ,zh8,zgs,zz0,z2y,z0b];generalize l.getD i zzd=u;unfold errU thenC;by_cases h1:okRow u.key=true<;>by_cases h2:okRow u.row=true<;>by_cases h3:okT u.time=true<;>simp[h1,h2,h3,outK]
theorem zco {fuel:Nat}{a b:Update}(h1:a.key.length<fuel)(h2:a.row.length<fuel)(h3:a.key.length≤maxN)(h4:a.row.length≤maxN):z27 fuel a b=some (cU a b):=by
 unfold z27 cU thenC;simp only[zem _ _ h1 h3,zem _ _ h2 h4,zf3,zz0,jn_eq,z0b];by_cases e1:cmpL cmpV a.key b.key=0
 ·rw[if_pos e1,if_pos e1];by_cases e2:cmpL cmpV a.row b.row=0
  ·rw[if_pos e2,if_pos e2]
  ·rw[if_neg e2,if_neg e2]
 ·rw[if_neg e1,if_neg e1,if_neg e1]
theorem zpo {a b:Update}(ha:okU a)(hb:okU b)(h:cU a b=0)(hd:a.diff=b.diff):a=b:=by
 unfold cU at h;rw[z85,z85,zbz (z6o ha.1).1 (z6o hb.1).1,zbz (z6o ha.2.1).1 (z6o hb.2.1).1,zfl]at h;rcases a with⟨k,r,t,d⟩;rcases b with⟨k',r',t',d'⟩;obtain⟨e1,e2,e3⟩:=h;simp only at e1 e2 e3 hd;rw[e1,e2,e3,hd]
theorem zig {p:List Value}(h:p.length≤8):z5p p=some p:=by
 unfold z5p;rw[z09 (by omega)]
theorem zkh {p:List Value}(h:p.length≤8):z10 p=some p:=by
 unfold z10;rw[z09 (by omega)]
theorem zbw {u:Update}(h:okU u):u.key.length≤8∧u.row.length≤8:=⟨(z6o h.1).2,(z6o h.2.1).2⟩
theorem zl8 {l:List Update}(h: ∀u∈l,okU u)(hn:l.length≤8000000000):z6i l=some l:=by
 unfold z6i;rw[z59 l (fun i a=>a=l.take i) (fun s hs=>by rw[hs,zzm])]
 ·rfl
 ·intro i a hi ha;obtain⟨h1,h2⟩:=zbw (h _ (z34 hi));refine⟨_,?_,rfl⟩;rw[zig h1,zig h2];simp only[zz0];rw[z09 (by rw[ha,List.length_take];simp;omega),ha,z2h hi]
 ·rfl
theorem zlc {X:Type}[Inhabited X]{l:List X}{i:Nat}(h:i<l.length):l.set i (l.getD i zzd)=l:=by
 rw[List.getD_eq_getElem?_getD,List.getElem?_eq_getElem h];exact List.set_getElem_self h
theorem zqw {l:List Update}(h: ∀u∈l,okU u)(hn:l.length≤8000000000):z83 l=some l:=by
 unfold z83;have hlim:(l.length:Int)≤(lim:Int):=by simp only[lim];omega
 rw[z09 ⟨by omega,by omega,hlim⟩,z09 (by simp)];have e:copyL (zz9 l.length ((⟨([]:List Value),([]:List Value),(⟨0,(0,0)⟩:Time),0⟩:Update):Update)) l=l:=by
  unfold copyL;rw[zzk (by simp)];simp
 rw[e];rw[z59 l (fun i a=>a=l) (fun s hs=>hs)]
 ·rfl
 ·intro i a hi ha;subst ha;obtain⟨h1,h2⟩:=zbw (h _ (z34 hi));refine⟨_,?_,rfl⟩;have e1:(⟨(a.getD i zzd).key,(a.getD i zzd).row,(a.getD i zzd).time,(a.getD i zzd).diff⟩:Update)=a.getD i zzd:=rfl
  simp only[zza];rw[z09 (by omega),z09 hi,zkh h1];simp only[zz0];rw[z09 (by omega),z09 hi,zkh h2];simp only[zz0];rw[z09 (by omega),z09 hi,z09 (by omega),z09 (by simp;exact hi),e1,zlc hi,e1,zlc hi]
 ·rfl
end Go.Av
namespace Go.Av
open Go
theorem zml {x:Int}(h:in64 x):z9m x=some (if x<0 then -x else x):=by
 unfold in64 at h;unfold z9m;simp only[z0b,z8r];split
 ·congr 1;omega
 ·congr 1;omega
theorem zp2 {x y:Int}(hx:0≤x∧x≤9223372036854775808)(hy:0≤y∧y≤9223372036854775808):z7i x y=some (x*y / 18446744073709551616,x*y % 18446744073709551616):=by
 unfold z7i;rw[ze3 (x:=x) ⟨by omega,by omega⟩,ze3 (x:=y) ⟨by omega,by omega⟩];simp only[shr32,z8r];obtain⟨a,b,rfl,ha,hb⟩: ∃a b,x=a*4294967296+b∧(0≤a∧a≤2147483648)∧(0≤b∧b<4294967296):=⟨x / 4294967296,x % 4294967296,by omega,by omega,by omega⟩;obtain⟨c,d,rfl,hc,hd⟩: ∃c d,y=c*4294967296+d∧(0≤c∧c≤2147483648)∧(0≤d∧d<4294967296):=⟨y / 4294967296,y % 4294967296,by omega,by omega,by omega⟩;have e1:(a*4294967296+b) / 4294967296=a:=by omega
 have e2:(a*4294967296+b) % 4294967296=b:=by omega
 have e3:(c*4294967296+d) / 4294967296=c:=by omega
 have e4:(c*4294967296+d) % 4294967296=d:=by omega
 rw[e1,e2,e3,e4];have hexp:(a*4294967296+b)*(c*4294967296+d)=(a*c)*18446744073709551616+(a*d+b*c)*4294967296+b*d:=by
  rw[Int.add_mul,Int.mul_add,Int.mul_add,Int.add_mul];have p1:a*4294967296*(c*4294967296)=(a*c)*18446744073709551616:=by
   rw[Int.mul_assoc,←Int.mul_assoc 4294967296,Int.mul_comm 4294967296 c,Int.mul_assoc c,←Int.mul_assoc a];rfl
  have p2:a*4294967296*d=a*d*4294967296:=by rw[Int.mul_assoc,Int.mul_comm 4294967296 d,←Int.mul_assoc]
  have p3:b*(c*4294967296)=b*c*4294967296:=by rw[←Int.mul_assoc]
  rw[p1,p2,p3];omega
 rw[hexp];have q1:0≤a*c∧a*c≤2147483648*2147483648:=⟨Int.mul_nonneg ha.1 hc.1,Int.mul_le_mul ha.2 hc.2 hc.1 (by omega)⟩;have q2:0≤a*d∧a*d≤2147483648*4294967295:=⟨Int.mul_nonneg ha.1 hd.1,Int.mul_le_mul ha.2 (by omega) hd.1 (by omega)⟩
 have q3:0≤b*c∧b*c≤4294967295*2147483648:=⟨Int.mul_nonneg hb.1 hc.1,Int.mul_le_mul (by omega) hc.2 hc.1 (by omega)⟩;have q4:0≤b*d∧b*d≤4294967295*4294967295:=⟨Int.mul_nonneg hb.1 hd.1,Int.mul_le_mul (by omega) (by omega) hd.1 (by omega)⟩
 generalize a*c=A at*;generalize a*d=B at*;generalize b*c=C at*;generalize b*d=D at*;have m1:(B % 18446744073709551616+D % 18446744073709551616 / 4294967296) % 18446744073709551616=B+D / 4294967296:=by omega
 rw[m1,ze3 (x:=B+D / 4294967296) ⟨by omega,by omega⟩];congr 2;omega
theorem zkl {a b:Int}(ha:in64 a)(hb:in64 b):za1 a b=some (fit64 (a*b)):=by
 unfold za1;rw[zml ha,zml hb];unfold in64 at ha hb;simp only[zz0];rw[zp2 (by split<;>omega) (by split<;>omega)];simp only[zz0,jn_eq];have hneg: ∀x y:Int,(-x)*y= -(x*y):=Int.neg_mul
 have key: ∀(P m:Int),0≤P→(m=9223372036854775807∨m=9223372036854775808)→(a*b=P∧m=9223372036854775807∨a*b= -P∧m=9223372036854775808)→P<340282366920938463463374607431768211456→
  (bf (!decide (P / 18446744073709551616=0)) (bf true (some ((0:Int),(10:Int))) (some (zzi.wrap (a*b),0))) (bf (decide (m<P % 18446744073709551616)) (some (0,10)) (some (zzi.wrap (a*b),0))))=some (fit64 (a*b)):=by
  intro P m hP hm hab hlt;by_cases h:in64 (a*b)
  ·rw[z8i h,z6p h];unfold in64 at h;have h1:P / 18446744073709551616=0:=by omega
   have h2: ¬m<P % 18446744073709551616:=by omega
   rw[decide_eq_true h1,decide_eq_false h2];rfl
  ·rw[z7z h];unfold in64 at h;by_cases h1:P / 18446744073709551616=0
   ·have h2:m<P % 18446744073709551616:=by omega
    rw[decide_eq_true h1,decide_eq_true h2];rfl
   ·rw[decide_eq_false h1];rfl
 have hbnd: ∀x y:Int,0≤x→x≤9223372036854775808→0≤y→y≤9223372036854775808→0≤x*y∧x*y<340282366920938463463374607431768211456:=fun x y h1 h2 h3 h4=>⟨Int.mul_nonneg h1 h3,by
  have:=Int.mul_le_mul h2 h4 h3 (by omega);omega⟩
 by_cases h1:a<0<;>by_cases h2:b<0
 ·rw[if_pos h1,if_pos h2,decide_eq_true h1,decide_eq_true h2];have hb:=hbnd (-a) (-b) (by omega) (by omega) (by omega) (by omega);have e: -a* -b=a*b:=Int.neg_mul_neg a b
  simp only[beq_self_eq_true,z4j];rw[z8r];exact key _ _ hb.1 (.inl (by omega)) (.inl ⟨e.symm,by omega⟩) hb.2
 ·rw[if_pos h1,if_neg h2,decide_eq_true h1,decide_eq_false h2];have hb:=hbnd (-a) b (by omega) (by omega) (by omega) (by omega);have e: -a*b= -(a*b):=Int.neg_mul a b
  show bf false _ _=_;simp only[z2m];exact key _ _ hb.1 (.inr rfl) (.inr ⟨by omega,rfl⟩) hb.2
 ·rw[if_neg h1,if_pos h2,decide_eq_false h1,decide_eq_true h2];have hb:=hbnd a (-b) (by omega) (by omega) (by omega) (by omega);have e:a* -b= -(a*b):=Int.mul_neg a b
  show bf false _ _=_;simp only[z2m];exact key _ _ hb.1 (.inr rfl) (.inr ⟨by omega,rfl⟩) hb.2
 ·rw[if_neg h1,if_neg h2,decide_eq_false h1,decide_eq_false h2];have hb:=hbnd a b (by omega) (by omega) (by omega) (by omega);simp only[beq_self_eq_true,z4j];rw[z8r];exact key _ _ hb.1 (.inl (by omega)) (.inl ⟨rfl,by omega⟩) hb.2
theorem znc {n a b:Int}(hb:in64 b)(hn:in64 n)(h:n=zzi.wrap (a*b))(hd:n.tdiv b=a):n=a*b:=by
 have e:=Int.tmod_add_mul_tdiv n b;rw[hd]at e;have hm: -9223372036854775808≤n.tmod b∧n.tmod b≤9223372036854775808:=by
  by_cases h0:b=0
  ·subst h0;rw[Int.tmod_zero];unfold in64 at hn;omega
  ·have h1:=Int.tmod_lt_of_pos;have h2:(n.tmod b).natAbs<b.natAbs:=by
    rw[Int.natAbs_tmod];exact Nat.mod_lt _ (by omega)
   unfold in64 at hb;omega
 rw[Int.mul_comm b a]at e;rw[z6v]at h;generalize a*b=P at*;split at h<;>omega
theorem zm0 {a b:Int}(ha:in64 a)(hb:in64 b):z67 a b=some (fit64 (a*b)):=by
 by_cases hsp:a= -9223372036854775808∧b= -1
 ·obtain⟨rfl,rfl⟩:=hsp;rfl
 unfold z67;by_cases ha0:a=0
 ·subst ha0;simp[fit64]
 by_cases hb0:b=0
 ·subst hb0;simp[fit64,ha0]
 have hn:in64 (zzi.wrap (a*b)):=by unfold in64;rw[z6v];split<;>omega
 have hout: ¬in64 (a*b)→(zzi.wrap (a*b)).tdiv b≠a:=fun h hd=>by
  have:=znc hb hn rfl hd;rw[this]at hn;exact h hn
 have hin:in64 (a*b)→zzi.wrap (a*b)=a*b:=z6p;have d1:(a*b).tdiv b=a:=Int.mul_tdiv_cancel a hb0
 have d2:(a*b).tdiv a=b:=Int.mul_tdiv_cancel_left b ha0;simp only[jn_eq,z0b,z2y,if_neg ha0,if_neg hb0,decide_eq_false ha0,decide_eq_false hb0,z2m,z4j];have s1:b<0→0<zzi.wrap (b-1)→b= -9223372036854775808:=fun h1 h2=>by
  unfold in64 at hb;rw[z6v]at h2;split at h2<;>omega
 have s2:a<0→0<zzi.wrap (a-1)→a= -9223372036854775808:=fun h1 h2=>by
  unfold in64 at ha;rw[z6v]at h2;split at h2<;>omega
 by_cases h:in64 (a*b)
 ·rw[z8i h,hin h];simp only[d1,d2,z6p ha,z6p hb,z09 hb0,z09 ha0,if_true];unfold in64 at h;have t1:a= -1→b<0→0<zzi.wrap (b-1)→False:=fun g1 g2 g3=>by
   have:=s1 g2 g3;subst g1 this;omega
  have t2:b= -1→a<0→0<zzi.wrap (a-1)→False:=fun g1 g2 g3=>by
   have:=s2 g2 g3;subst g1 this;omega
  repeat' split
  all_goals first|rfl|exact(t1 ‹_› ‹_› ‹_›).elim|exact(t2 ‹_› ‹_› ‹_›).elim
 ·rw[z7z h];have hy:zzi.wrap ((zzi.wrap (a*b)).tdiv b)≠a:=fun e=>by
   by_cases hr:in64 ((zzi.wrap (a*b)).tdiv b)
   ·rw[z6p hr]at e;exact hout h e
   ·have hab:=Int.natAbs_tdiv (zzi.wrap (a*b)) b;have hle:((zzi.wrap (a*b)).tdiv b).natAbs≤(zzi.wrap (a*b)).natAbs:=by rw[hab];exact Nat.div_le_self _ _
    have hq:(zzi.wrap (a*b)).tdiv b=9223372036854775808:=by
     unfold in64 at hr hn;omega
    have hn1:zzi.wrap (a*b)= -9223372036854775808:=by unfold in64 at hn;omega
    rw[hn1]at hab hq;rw[hq]at hab;have f1:(9223372036854775808:Int).natAbs=9223372036854775808:=by decide
    have f2:(-9223372036854775808:Int).natAbs=9223372036854775808:=by decide
    rw[f1,f2]at hab;have hb2:b.natAbs=1:=by
     have hbn:0<b.natAbs:=by omega
     rcases Nat.lt_or_ge 1 b.natAbs with g|g
     ·have:9223372036854775808 / b.natAbs≤9223372036854775808 / 2:=Nat.div_le_div_left g (by omega);have hab:9223372036854775808=9223372036854775808 / b.natAbs:=hab
      rw[←hab]at this;exact absurd this (by decide)
     ·omega
    have:b=1∨b= -1:=by omega
    rcases this with rfl|rfl
    ·simp at hq
    ·refine hsp ⟨?_,rfl⟩;rw[←e,hn1,hq];decide
  simp only[z09 hb0,if_neg hy,ite_self]
end Go.Av
namespace Go.Av
open Go
def zdo (rows:List (List Value)):List Value×Int:=
 if rows.all okRow then(if 8<rows.flatten.length then([],2)else(rows.flatten,0))else([],4)
theorem zh1 {rows:List (List Value)}(h: ∀r∈rows,r.length≤8):rows.flatten.length≤8*rows.length:=by
 induction rows with
 |nil=>simp
 |cons r rows ih=>
  have h1:=h r (zz5 ..);have h2:=ih fun x hx=>h x (zz7 _ hx)
  simp only[List.flatten_cons,zzl,List.length_cons];omega
theorem z8p {X:Type}{rows:List (List X)}{i:Nat}(h:i<rows.length):(rows.take (i+1)).flatten=(rows.take i).flatten++rows.getD i zzd:=by
 rw[z2h h,List.flatten_append];simp
theorem zpy {n:Int}(h:0≤n∧n≤274877906944):z1b n=some []:=by
 unfold z1b;have e:zzi.wrap (n-zzi.wrap ((0:Int)-0))=n:=by
  rw[z3c (n:=(0:Int)-0) (by omega) (by omega)];rw[z3c (by omega) (by omega)];omega
 simp only[e,z0b,jn_eq,if_neg (by omega: ¬n<0)];have hlim:(lim:Int)=274877906944:=rfl
 by_cases h0:0<n
 ·rw[if_pos h0,z09 (by omega),z09 (by refine⟨by omega,by omega,by omega⟩)];rw[List.take_zero]
 ·rw[if_neg h0]
theorem znn {rows:List (List Value)}(h:rows.flatten.length≤274877906944):z16 rows=some rows.flatten:=by
 unfold z16;have hpre: ∀i,(rows.take i).flatten.length≤rows.flatten.length:=fun i=>by
  have:rows.flatten=(rows.take i).flatten++(rows.drop i).flatten:=by rw[←List.flatten_append,List.take_append_drop]
  rw[this,zzl];omega
 rw[z59 (rows.flatten.length:Int) (fun i a=>a=((rows.take i).flatten.length:Int)) (fun s h=>by rw[h,zzm])]
 ·simp only[z4e];rw[zpy (by omega),zz0];rw[z59 rows.flatten (fun i a=>a=(rows.take i).flatten) (fun s h=>by rw[h,zzm])]
  ·rfl
  ·intro i a hi ha;have h1:=hpre (i+1)
   rw[z8p hi,zzl]at h1;refine⟨_,?_,rfl⟩;rw[z09 (by rw[ha];omega),z8p hi,ha]
  ·rfl
 ·intro i a hi ha;have h1:=hpre (i+1)
  rw[z8p hi,zzl]at h1;refine⟨_,?_,rfl⟩;rw[z8p hi,zzl,ha];rw[z3c (by omega) (by omega),decide_eq_false (by omega)];simp
 ·rfl
theorem zll {rows:List (List Value)}(h:rows.length≤1048576):z8z rows=some (zdo rows):=by
 unfold z8z zdo
 simp only[zbg,zz0];have hall:(rows.any fun r=> !okRow r)= !(rows.all okRow):=by rw[List.any_eq_not_all_not];simp
 rcases zbm (S:=Unit) (R:=List Value×Int) (l:=rows) (fun r=> !okRow r) (fun _=>([],4)) (s:=()) (B:=fun i1 (a2:Unit)=>bf (!decide ((if okRow (rows.getD i1 zzd)=true then(0:Int)else 4)=0)) (some (.ret (([]:List Value),(if okRow (rows.getD i1 zzd)=true then(0:Int)else 4)))) (some (.next ()))) (fun i hi=>by
  cases okRow (rows.getD i zzd)<;>rfl)with⟨h1,h2⟩|⟨h1,i,_,_,h2⟩
 ·rw[h2];rw[hall]at h1;have ha:rows.all okRow=true:=by simpa using h1
  rw[if_pos ha];have hl:=zh1 (rows:=rows) fun r hr=>(z6o (List.all_eq_true.1 ha r hr)).2;simp only[z4e];rw[znn (by omega)];simp only[zz0,z0b];by_cases h8:8<rows.flatten.length
  ·rw[if_pos h8,if_pos (by omega)]
  ·rw[if_neg h8,if_neg (by omega)]
 ·rw[h2];rw[hall]at h1;have ha:rows.all okRow=false:=by simpa using h1
  rw[ha];rfl
theorem zn9 {rows:List (List Value)}(h:rows.length≤1048576):z5q rows=some (zdo rows):=by
 unfold z5q zdo
 simp only[zh8,zz0];have hall:(rows.any fun r=> !okRow r)= !(rows.all okRow):=by rw[List.any_eq_not_all_not];simp
 rcases zbm (S:=Unit) (R:=List Value×Int) (l:=rows) (fun r=> !okRow r) (fun _=>([],4)) (s:=()) (B:=fun i1 (a2:Unit)=>bf (!decide ((if okRow (rows.getD i1 zzd)=true then(0:Int)else 4)=0)) (some (.ret (([]:List Value),(if okRow (rows.getD i1 zzd)=true then(0:Int)else 4)))) (some (.next ()))) (fun i hi=>by
  cases okRow (rows.getD i zzd)<;>rfl)with⟨h1,h2⟩|⟨h1,i,_,_,h2⟩
 ·rw[h2];rw[hall]at h1;have ha:rows.all okRow=true:=by simpa using h1
  rw[if_pos ha];have hl:=zh1 (rows:=rows) fun r hr=>(z6o (List.all_eq_true.1 ha r hr)).2;simp only[z4e];have hpre: ∀i,(rows.take i).flatten.length≤rows.flatten.length:=fun i=>by
   have:rows.flatten=(rows.take i).flatten++(rows.drop i).flatten:=by rw[←List.flatten_append,List.take_append_drop]
   rw[this,zzl];omega
  have hB: ∀i,i<rows.length→ ∀a,a=(rows.take i).flatten→need (a.length+(rows.getD i zzd).length≤274877906944) (bf (decide (8<((a++(rows.getD i zzd)).length:Int))) (some (Ctl.ret (S:=List Value) (([]:List Value),(2:Int)))) (some (.next (a++(rows.getD i zzd)))))=if 8<(rows.take (i+1)).flatten.length then some (.ret ([],2))else some (.next (rows.take (i+1)).flatten):=fun i hi a ha=>by
   have h1:=hpre (i+1);rw[z8p hi]at h1 ⊢;rw[zzl]at h1;rw[z09 (by rw[ha];omega),ha,z0b];by_cases h8:8<((rows.take i).flatten++rows.getD i zzd).length
   ·rw[if_pos h8,if_pos (by omega)]
   ·rw[if_neg h8,if_neg (by omega)]
  by_cases h8:8<rows.flatten.length
  ·rw[if_pos h8];have key: ∀k i,i+k=rows.length→(rows.take i).flatten.length≤8→z0f (S:=List Value) (R:=(List Value)×Int) (fun i4 (a5:List Value)=>need (a5.length+(rows.getD i4 zzd).length≤274877906944)<|bf (decide (8<((a5++(rows.getD i4 zzd)).length:Int))) (some (.ret (([]:List Value),2))) (some (.next (a5++(rows.getD i4 zzd))))) k i (rows.take i).flatten=some (.ret ([],2)):=by
    intro k;induction k with
    |zero=>
     intro i hi hle;rw[List.take_of_length_le (by omega)]at hle;omega
    |succ k ih=>
     intro i hi hle;simp only[z0f];rw[hB i (by omega) _ rfl];by_cases h9:8<(rows.take (i+1)).flatten.length
     ·rw[if_pos h9]
     ·rw[if_neg h9];exact ih (i+1) (by omega) (by omega)
   have:=key rows.length 0 (by omega) (by simp);rw[show(rows.take 0).flatten=[]from rfl]at this;rw[this];rfl
  ·rw[if_neg h8];rw[z59 rows.flatten (fun i a=>a=(rows.take i).flatten) (fun s h=>by rw[h,zzm])]
   ·rfl
   ·intro i a hi ha;refine⟨_,?_,rfl⟩;rw[hB i hi a ha,if_neg (by have:=hpre (i+1);omega)]
   ·rfl
 ·rw[h2];rw[hall]at h1;have ha:rows.all okRow=false:=by simpa using h1
  rw[ha];rfl
theorem all_append {a b:List Value}:(a++b).all z3m=(a.all z3m && b.all z3m):=List.all_append ..
end Go.Av
namespace Go.Av
open Go
section
variable {α:Type} [Inhabited α]
def growG (z:α)(p1:Int):Option (List α):=
 bf (decide (p1<0)) (none) (jn (fun(a1:List α)=>some a1) fun j2=>bf (decide (0<(zzi.wrap (p1-(zzi.wrap ((0:Int)-0)))))) (need ((0:Int)<(zzi.wrap (p1-(zzi.wrap ((0:Int)-0))))∧(zzi.wrap (p1-(zzi.wrap ((0:Int)-0))))≤(lim:Int))<|need ((0:Int)≤0∧(0:Int)≤0∧(0:Int)≤((zz9 ((zzi.wrap (p1-(zzi.wrap ((0:Int)-0)))).toNat) z).length:Int))<|j2 ((zz9 ((zzi.wrap (p1-(zzi.wrap ((0:Int)-0)))).toNat) z).take 0)) (j2 ([]:List α)))
def concG (z:α)(p0:List (List α)):Option (List α):=
 outK (z0f (S:=Int) (R:=Empty) (fun i1 (a2:Int)=>bf (decide ((zzi.wrap (a2+((p0.getD i1 zzd).length:Int)))<0)) (none) (some (.next (zzi.wrap (a2+((p0.getD i1 zzd).length:Int)))))) p0.length 0 0) (fun(a3:Int)=>(growG z a3).bind fun r4=>outK (z0f (S:=List α) (R:=Empty) (fun i5 (a6:List α)=>need (a6.length+(p0.getD i5 zzd).length≤274877906944)<|some (.next (a6++(p0.getD i5 zzd)))) p0.length 0 r4) (fun(a7:List α)=>some a7) (fun(x:Empty)=>x.elim)) (fun(x:Empty)=>x.elim)
theorem zcv {l:List (List α)}{i:Nat}(h:i<l.length):(l.take (i+1)).flatten=(l.take i).flatten++l.getD i zzd:=by
 rw[z2h h];simp
theorem zi0 {l:List (List α)}{i:Nat}(h:i<l.length):l.flatten=(l.take i).flatten++(l.getD i zzd++(l.drop (i+1)).flatten):=by
 have e:l=l.take i++l.getD i zzd::l.drop (i+1):=by rw[←z25 h,List.take_append_drop]
 have e2:=congrArg List.flatten e;rw[List.flatten_append,List.flatten_cons]at e2;exact e2
theorem zj6 {l:List (List α)}{i:Nat}(h:i<l.length):(l.take i).flatten.length+(l.getD i zzd).length≤l.flatten.length:=by
 have:=congrArg List.length (zi0 h);simp only[zzl]at this;omega
theorem zov {z:α}{n:Nat}(hn:n≤8000000000):growG z (n:Int)=some []:=by
 unfold growG;have e:zzi.wrap ((n:Int)-zzi.wrap ((0:Int)-0))=(n:Int):=by
  rw[show zzi.wrap ((0:Int)-0)=0 by rfl,z3c (by omega) (by omega)];omega
 rw[e];simp only[z0b,jn_eq];rw[if_neg (by omega)];split
 ·rw[z09 (by simp only[lim];omega),z09 (by simp)];simp
 ·rfl
theorem zos {z:α}{p0:List (List α)}(hn:p0.flatten.length≤8000000000):concG z p0=some p0.flatten:=by
 unfold concG;have h1:=fun B h=>z59 (R:=Empty) (B:=B) (n:=p0.length) (s:=(0:Int)) ((p0.flatten.length:Nat):Int) (fun i a=>a=(((p0.take i).flatten.length:Nat):Int)) (fun s hs=>by rw[hs,zzm]) h (by rfl)
 rw[h1]
 ·simp only[z4e,zov hn,zz0];rw[z59 p0.flatten (fun i a=>a=(p0.take i).flatten) (fun s hs=>by rw[hs,zzm])]
  ·rfl
  ·intro i a hi ha;refine⟨_,?_,rfl⟩;have:=zj6 hi
   rw[z09 (by rw[ha];omega),ha,zcv hi]
  ·rfl
 ·intro i a hi ha;have:=zj6 hi
  refine⟨_,?_,rfl⟩;rw[ha,wadd (by omega),zcv hi,zzl];simp only[z0b];rw[if_neg (by omega)]
theorem zq0 {cmp:α→α→Option Int}{c:α→α→Int}{num:α→Int}{fuel:Nat}{l:List α}(hC:IsCmp c)(hc: ∀x∈l,∀y∈l,cmp x y=some (c x y))(hn:l.length≤8000000000)(hf:l.length<fuel)(hl: ∀x∈l,in64 (num x))
 {B:Nat→(List α)×(List Wide)→Option (Ctl ((List α)×(List Wide)) Empty)} (hB: ∀i a,i<l.length→B i a=zgn cmp num fuel a (l.getD i zzd)):
 ∃a,z0f B l.length 0 ([],[])=some (.done a)∧ ∃S,relS a S∧SS c (PR num l) S∧S.length≤l.length:=by
 have:=zab (B:=B) (n:=l.length) (fun i a=> ∃S,relS a S∧SS c (PR num (l.take i)) S∧S.length≤i) (s:=([],[])) ⟨[],⟨rfl,.nil⟩,zof,zzc _⟩ (by
  rintro i a hi ⟨S,k1,k2,k3⟩;have hm: ∀p∈S,p.1∈l:=fun p hp=>by
   obtain⟨y,g1,g2⟩:=k2.mem p hp;obtain⟨z,g3,g4⟩:=zb0.1 g1;rw[←g2,←g4];exact List.mem_of_mem_take g3
  obtain⟨a',S',g1,g2,g3,g4⟩:=zn3 (fuel:=fuel) (num:=num) hC (x:=l.getD i zzd) (fun p hp=>hc _ (hm p hp) _ (z34 hi)) k2 k1 (by omega) (by omega) (hl _ (z34 hi)) (fun p hp=>by
   rw[k2.sum p hp];have:=zhi (c:=c) (y:=p.1) (l:=PR num (l.take i)) (fun p hp=>by
    obtain⟨z,g1,g2⟩:=zb0.1 hp;rw[←g2];exact hl z (List.mem_of_mem_take g1))
   have e:(PR num (l.take i)).length=i:=by simp[PR];omega
   rw[e]at this;omega)
  refine⟨a',by rw[hB i a hi,g1],S',g2,?_,by omega⟩;rw[z2h hi,zfd];exact g3)
 simpa only[zzm]using this
theorem zpw {put:α→Int→α}{l S:List (α×Int)}{n:Nat}(hSn:n=S.length){B:Nat→List α→Option (Ctl (List α) ((List α)×Int))}
 (hB: ∀i b,i<S.length→b.length≤i→in64 (S.getD i zzd).2→B i b=some (.next (if(S.getD i zzd).2=0 then b else b++[put (S.getD i zzd).1 (S.getD i zzd).2])))
 (hB2: ∀i b,i<S.length→ ¬in64 (S.getD i zzd).2→B i b=some (.ret ([],10))):
 (z0f B n 0 []=some (.done (left0 put S))∧ ∀p∈S,in64 p.2)∨(z0f B n 0 []=some (.ret ([],10))∧ ¬ ∀p∈S,in64 p.2):=by
 subst hSn;rcases zh6 (B:=B) (n:=S.length) (fun i (b:List α)=>(∀j,j<i→in64 (S.getD j zzd).2)∧b=left0 put (S.take i)) (fun b=>(∀j,j<S.length→in64 (S.getD j zzd).2)∧b=left0 put S) (fun r=>r=([],10)∧ ∃j,j<S.length∧ ¬in64 (S.getD j zzd).2) (s:=[]) ⟨fun j hj=>by omega,rfl⟩ (by
  rintro i b hi ⟨m1,m2⟩;have hlb:b.length≤i:=by
   rw[m2];have:=zcl put (S.take i);rw[List.length_take]at this;omega
  by_cases g:in64 (S.getD i zzd).2
  ·left;rw[hB i b hi hlb g];refine⟨_,rfl,fun j hj=>?_,?_⟩
   ·by_cases e:j=i
    ·subst e;exact g
    ·exact m1 j (by omega)
   ·rw[z2h hi,zjs,zjt,←m2];split<;>simp
  ·right;right;rw[hB2 i b hi g];exact⟨_,rfl,rfl,i,hi,g⟩) (fun b hb=>by rw[zzm]at hb;exact hb)with⟨b,g1,g2,g3⟩|⟨r,g1,g2,j,g3,g4⟩
 ·left;refine⟨by rw[g1,g3],fun p hp=>?_⟩;obtain⟨j,hj,e⟩:=List.mem_iff_getElem.1 hp;have:=g2 j hj
  rw[List.getD_eq_getElem?_getD,List.getElem?_eq_getElem hj]at this;rw[←e];exact this
 ·right;exact⟨by rw[g1,g2],fun h=>g4 (h _ (z34 g3))⟩
end
end Go.Av
namespace Go.Av
open Go
abbrev pU (l:List Update):List (Update×Int):=PR (fun x=>x.diff) l
abbrev TotU (l:List Update)(R:List Update)(e:Int):Prop:=Tot cU (fun x=>x.diff) z3b (pU l) R e
theorem zce {l R:List Update}{e:Int}(h:TotU l R e)(ho: ∀u∈l,okU u): ∀r∈R,okU r:=fun r hr=>by
 rcases h with⟨_,h,_⟩|⟨_,rfl,_⟩
 ·obtain⟨y,h1,h2⟩:=h.mem r hr;obtain⟨z,h3,h4⟩:=zb0.1 h1;rw[h2,←h4];exact ho z h3
 ·cases hr
def zhp (l R:List Update)(e:Int):Prop:=(chkL l≠0∧R=[]∧e=chkL l)∨(chkL l=0∧TotU l R e)
theorem zi2: ∀ls:List (List Update),ls.foldr (fun x v=>thenC (chkL x) v) 0=chkL ls.flatten
 |[]=>rfl
 |l::ls=>by rw[List.foldr_cons,List.flatten_cons,zaw,zi2 ls]
theorem zpr {fuel:Nat}{ls:List (List Update)}(hf:40000000000≤fuel)(hn:ls.flatten.length≤8000000000)(hd: ∀u∈ls.flatten,in64 u.diff):
 ∃R e,z3n fuel ls=some (R,e)∧zhp ls.flatten R e∧R.length≤ls.flatten.length:=by
 unfold z3n;rw[zbn chkL (fun w=>(([]:List Update),w)),zi2]
 ·by_cases h:chkL ls.flatten=0
  ·rw[if_pos h];simp only[z4e];rw[show z0l ls=some ls.flatten from zos hn];simp only[zz0];have ho:=z7b.1 h
   obtain⟨R,e,l',h1,h2,h3⟩:=zm4 (fuel:=fuel) hd (fun u hu=>(zbw (ho u hu)).2) hn hf;rw[h1];simp only[zz0];rw[zqw (zce h2 ho) (by omega)];exact⟨R,e,rfl,.inr ⟨h,h2⟩,h3⟩
  ·rw[if_neg h];exact⟨_,_,rfl,.inl ⟨h,rfl,rfl⟩,Nat.zero_le _⟩
 ·intro i hi;rw[zc3 (by omega)];simp only[zz0,z2y,z0b]
theorem zif {fuel:Nat}{ls:List (List Update)}(hf:40000000000≤fuel)(hn:ls.flatten.length≤8000000000)(hd: ∀u∈ls.flatten,in64 u.diff):
 ∃R e,z2u fuel ls=some (R,e)∧zhp ls.flatten R e:=by
 unfold z2u
 let G:Option ((List Update)×Int)→Prop:=fun q=> ∃R e,q=some (R,e)∧zhp ls.flatten R e
 refine zl4 (G:=G) (fun i a=>a=(ls.take i).flatten∧chkL (ls.take i).flatten=0) (fun a=>a=ls.flatten∧chkL ls.flatten=0) (fun r=>r=([],chkL ls.flatten)∧chkL ls.flatten≠0) ⟨rfl,rfl⟩ (fun a h=>by rw[zzm]at h;exact h) ?_ ?_ ?_
 ·rintro a ⟨rfl,h⟩;have ho:=z7b.1 h
  obtain⟨a,h1,S,h2,h3,h4⟩:=zq0 (cmp:=fun x y=>z27 fuel x y) (num:=fun x:Update=>x.diff) (l:=ls.flatten) (fuel:=fuel) cU_is (fun x hx y hy=>by
   have:=zbw (ho x hx);exact zco (by omega) (by omega) (by unfold maxN;omega) (by unfold maxN;omega)) hn (by omega) hd
   (B:=fun i a5=>need ((0+i)<ls.flatten.length)<|zgn (fun x y=>z27 fuel x y) (fun x:Update=>x.diff) fuel a5 (ls.flatten.getD (0+i) zzd)) (fun i a hi=>by
    rw[zza,z09 hi])
  refine z9a (G:=G) (P:=fun s=>s=a) ⟨a,h1,rfl⟩ ?_;rintro⟨a1,a2⟩ rfl;obtain⟨r1,r2⟩:=h2;simp only at r1 r2;subst r1;have hmem: ∀p∈S,∃u∈ls.flatten,u=p.1:=fun p hp=>by
   obtain⟨y,g1,g2⟩:=h3.mem p hp;obtain⟨z,g3,g4⟩:=zb0.1 g1;exact⟨z,g3,by rw[←g2,←g4]⟩
  have hget: ∀i,i<S.length→(S.map (·.1)).getD i zzd=(S.getD i zzd).1:=fun i hi=>by
   simp[List.getD_eq_getElem?_getD,List.getElem?_eq_getElem hi]
  have hget2: ∀i,i<S.length→(S.map (·.2)).getD i zzd=(S.getD i zzd).2:=fun i hi=>by
   simp[List.getD_eq_getElem?_getD,List.getElem?_eq_getElem hi]
  have hl2:a2.length=S.length:=by rw[r2.len];simp
  rcases zpw (put:=z3b) (l:=pU ls.flatten) (S:=S) (n:=(S.map (·.1)).length) (by simp) (B:=fun i7 (a8:List Update)=>need ((0+i7)<(S.map (·.1)).length)<|need ((0:Int)≤((i7:Nat):Int)∧((i7:Nat):Int)<(a2.length:Int))<|need ((0+i7)<a2.length)<|(z2k (a2.getD (0+i7) zzd)).bind fun r14=>bf (!decide (r14.2=0)) (some (.ret (([]:List Update),r14.2))) (bf (!decide (r14.1=0)) (need (a8.length+([(⟨((S.map (·.1)).getD (0+i7) zzd).key,((S.map (·.1)).getD (0+i7) zzd).row,((S.map (·.1)).getD (0+i7) zzd).time,r14.1⟩:Update)]:List Update).length≤274877906944)<|some (.next (a8++([(⟨((S.map (·.1)).getD (0+i7) zzd).key,((S.map (·.1)).getD (0+i7) zzd).row,((S.map (·.1)).getD (0+i7) zzd).time,r14.1⟩:Update)]:List Update)))) (some (.next a8))))
   (fun i b hi hb g=>by
    have hw:=r2.get (i:=i) (by simpa using hi);rw[hget2 i hi]at hw;simp only[zza];rw[z09 (by simpa using hi),z09 (by omega),z09 (by omega),zln hw,z8i g,hget i hi];simp only[zz0,z2y,z0b,if_true];by_cases g2:(S.getD i zzd).2=0
    ·rw[if_pos g2,if_pos g2]
    ·rw[if_neg g2,if_neg g2,z09 (by simp;omega)];rfl)
   (fun i b hi g=>by
    have hw:=r2.get (i:=i) (by simpa using hi);rw[hget2 i hi]at hw;simp only[zza];rw[z09 (by simpa using hi),z09 (by omega),z09 (by omega),zln hw,z7z g];rfl)with⟨g1,g2⟩|⟨g1,g2⟩
  ·rw[←zgo cU_is h3]at g2;have hT:TotU ls.flatten (left0 z3b S) 0:= .inl ⟨rfl,zo9 (num:=fun x=>x.diff) (put:=z3b) cU_is (fun x n=>rfl) (fun x n y=>rfl) h3,g2⟩
   simp only;rw[g1];simp only[z4e];rw[zl8 (zce hT ho) (by have:=zcl z3b S;omega)];exact⟨_,_,rfl,.inr ⟨h,hT⟩⟩
  ·rw[←zgo cU_is h3]at g2;simp only;rw[g1];exact⟨_,_,rfl,.inr ⟨h,.inr ⟨rfl,rfl,g2⟩⟩⟩
 ·rintro r ⟨rfl,h⟩;exact⟨_,_,rfl,.inl ⟨h,rfl,rfl⟩⟩
 ·rintro i a hi ⟨rfl,h⟩;rw[zf2];simp only[zz0,z2y,z0b];by_cases g:chkL (ls.getD i zzd)=0
  ·left;have:=zj6 hi
   rw[if_pos g,z09 (by omega)];exact⟨_,rfl,by rw[zcv hi],by rw[zcv hi,zaw,h,g];rfl⟩
  ·right;right;have e:chkL ls.flatten=chkL (ls.getD i zzd):=by rw[zi0 hi,zaw,zaw,h,zmo,ze0 g]
   rw[if_neg g,e];exact⟨_,rfl,rfl,g⟩
end Go.Av
namespace Go.Av
open Go
theorem zqy (l:List Update):z4p l l=some true:=by
 unfold z4p;rw[decide_eq_true rfl,Bool.not_true,z2m];rw[z59 () (fun _ _=>True) (fun _ _=>rfl)]
 ·rfl
 ·intro i a hi ha;refine⟨(),?_,trivial⟩;have e:z33 (l.getD i zzd).time (l.getD i zzd).time=true:=by simp[z33]
  simp only[jn_eq,zoc,zz0,Bool.not_true,z2m,e,decide_true];rw[z09 (by omega),z09 (by omega),z09 (by omega),z09 (by omega)]
 ·trivial
theorem zm3 {l l' R R':List Update}{e e':Int}(h:TotU l R e)(h':TotU l' R' e')(ho: ∀u∈l,okU u)(ho': ∀u∈l',okU u)(hs: ∀y,sm cU (pU l) y=sm cU (pU l') y):R=R'∧e=e':=
 znd cU_is h h' hs fun r hr r' hr' h1 h2=>zpo (zce h ho r hr) (zce h' ho' r' hr') h1 h2
end Go.Av
namespace Go.Av
open Go
theorem zqi {l R:List Update}{e:Int}(h:TotU l R e): ∀r∈R,in64 r.diff:=fun r hr=>by
 rcases h with⟨_,g,gf⟩|⟨_,rfl,_⟩
 ·rw[(g.sum r hr).1];exact gf r
 ·cases hr
theorem zpj {l R:List Update}{e:Int}(h:TotU l R e)(ht: ∀u∈l,z4w u.time): ∀r∈R,z4w r.time:=fun r hr=>by
 rcases h with⟨_,g,_⟩|⟨_,rfl,_⟩
 ·obtain⟨y,h1,h2⟩:=g.mem r hr;obtain⟨z,h3,h4⟩:=zb0.1 h1;rw[h2,←h4];exact ht z h3
 ·cases hr
end Go.Av
namespace Go.Av
open Go
def glb2 (a x:Time):Time:=⟨if x.epoch<a.epoch then x.epoch else a.epoch,(if x.loop.1<a.loop.1 then x.loop.1 else a.loop.1,if x.loop.2<a.loop.2 then x.loop.2 else a.loop.2)⟩
def glbL:List Time→Time
 |[]=>zeroT
 |x::l=>l.foldl glb2 x
theorem zgz (a:Time):z33 a a=true:=by simp[z33]
theorem zq4 {a b:Time}(ha:z4w a)(hb:z4w b):z4w (lub2 a b):=by
 obtain⟨h1,h2,h3⟩:=ha;obtain⟨g1,g2,g3⟩:=hb;simp only[z4w,lub2,mx_eq];omega
theorem zoy {a b:Time}(h:leT a b=true)(g:leT b a=true):z33 a b=true:=by
 simp only[leT,z33,Bool.and_eq_true,decide_eq_true_eq,Bool.and_true]at*;omega
end Go.Av
namespace Go.Av
open Go
theorem zo7 (l:List Time):z6u l=some (lubL l):=by
 unfold z6u;rw[zl5 lub2]
 ·rfl
 ·intro i a hi;generalize l.getD i zzd=x;by_cases h1:a.epoch<x.epoch<;>by_cases h2:a.loop.1<x.loop.1<;>by_cases h3:a.loop.2<x.loop.2<;>simp[z0f,lub2,outK,h1,h2,h3]
theorem zpu {x y:Time}:z33 x y=true↔x=y:=by
 constructor
 ·intro h;simp only[z33,Bool.and_eq_true,decide_eq_true_eq,Bool.and_true]at h;exact Time.ext' h.1 h.2.1 h.2.2
 ·rintro rfl;exact zgz x
theorem zq2 {a b:Time}(h:leT a b=true)(g:leT b a=true):a=b:=zpu.1 (zoy h g)
theorem zkz {a b:Time}(h:leT a b=true):ltT b a=false:=by
 cases e:ltT b a with
 |false=>rfl
 |true=>rw[zq1]at h;rw[z6e]at e;omega
theorem lt_or {a b:Time}(h:ltT b a=false)(hne:a≠b):ltT a b=true:=by
 cases e:ltT a b with
 |true=>rfl
 |false=>
  refine absurd ?_ hne;rw[←Bool.not_eq_true,z6e]at h e;exact Time.ext' (by omega) (by omega) (by omega)
structure IsF (l f:List Time):Prop where
 sorted:f.Pairwise fun x y=>ltT x y=true
 sub: ∀x∈f,x∈l
 below: ∀y∈l,∃u∈f,leT u y=true
 least: ∀x∈f,∀y∈l,leT y x=true→y=x
theorem IsF.mem {l f:List Time}(h:IsF l f)(x:Time):x∈f↔x∈l∧ ∀y∈l,leT y x=true→y=x:=by
 constructor
 ·exact fun hx=>⟨h.sub x hx,h.least x hx⟩
 ·rintro⟨hx,hm⟩;obtain⟨u,hu,hle⟩:=h.below x hx;rw[←hm u (h.sub u hu) hle];exact hu
theorem IsF.congr {l m f:List Time}(h:IsF l f)(e: ∀x,x∈l↔x∈m):IsF m f:=
 ⟨h.sorted,fun x hx=>(e x).1 (h.sub x hx),fun y hy=>h.below y ((e y).2 hy),fun x hx y hy=>h.least x hx y ((e y).2 hy)⟩
theorem IsF.step {p f:List Time}{t:Time}(h:IsF p f)(hs: ∀x∈p,ltT t x=false):IsF (p++[t]) (if f.any (fun u=>leT u t)then f else f++[t]):=by
 by_cases hc:f.any (fun u=>leT u t)=true
 ·rw[if_pos hc];obtain⟨u,hu,hut⟩:=List.any_eq_true.1 hc;refine⟨h.sorted,fun x hx=>zz3.2 (.inl (h.sub x hx)),?_,?_⟩
  ·intro y hy;rcases zz3.1 hy with hy|hy
   ·exact h.below y hy
   ·rw[zz4.1 hy];exact⟨u,hu,hut⟩
  ·intro x hx y hy hle;rcases zz3.1 hy with hy|hy
   ·exact h.least x hx y hy hle
   ·rw[zz4.1 hy]at hle ⊢;have hux:=h.least x hx u (h.sub u hu) (zjr hut hle)
    subst hux;exact zq2 hle hut
 ·rw[if_neg hc];have hno: ∀u∈f,leT u t=false:=fun u hu=>by
   cases e:leT u t with
   |false=>rfl
   |true=>exact absurd (List.any_eq_true.2 ⟨u,hu,e⟩) hc
  have hnp: ∀y∈p,leT y t=false:=fun y hy=>by
   obtain⟨u,hu,hle⟩:=h.below y hy;cases e:leT y t with
   |false=>rfl
   |true=>have:=zjr hle e;rw[hno u hu]at this;cases this
  refine⟨?_,?_,?_,?_⟩
  ·rw[List.pairwise_append];refine⟨h.sorted,by simp,fun x hx y hy=>?_⟩;rw[zz4.1 hy];refine lt_or (hs x (h.sub x hx)) (fun e=>?_);subst e;have:=hno x hx
   rw[zkw]at this;cases this
  ·intro x hx;rcases zz3.1 hx with hx|hx
   ·exact zz3.2 (.inl (h.sub x hx))
   ·exact zz3.2 (.inr hx)
  ·intro y hy;rcases zz3.1 hy with hy|hy
   ·obtain⟨u,hu,hle⟩:=h.below y hy;exact⟨u,zz3.2 (.inl hu),hle⟩
   ·exact⟨y,zz3.2 (.inr hy),zkw y⟩
  ·intro x hx y hy hle;rcases zz3.1 hx with hx|hx
   ·rcases zz3.1 hy with hy|hy
    ·exact h.least x hx y hy hle
    ·rw[zz4.1 hy]at hle ⊢;have h1:=hs x (h.sub x hx)
     have h2:=zkz hle;by_cases e:t=x
     ·exact e
     ·have:=lt_or h1 (fun h=>e h.symm);rw[h2]at this;cases this
   ·rw[zz4.1 hx]at hle ⊢;rcases zz3.1 hy with hy|hy
    ·rw[hnp y hy]at hle;cases hle
    ·exact zz4.1 hy
def zqp (l:List Time):List Time:=l.foldl (fun f t=>if f.any (fun u=>leT u t)then f else f++[t]) []
def zpx (l:List Time):List Time:=zqp (sortT l)
end Go.Av
namespace Go.Av
open Go
abbrev NN (l:List Time):Prop:= ∀x∈l,z4w x
end Go.Av
namespace Go.Av
open Go
def adv (t:Time)(f:List Time):Time:=if f=[]then t else lub2 t (glbL f)
theorem zq5 {t u:Time}(ht:z4w t)(hu:z4w u):z6l [t,u]=some (lub2 t u):=by
 unfold z6l;rw[zi1 (fun x hx=>by
  rcases zzf.1 hx with rfl|hx
  ·exact ht
  ·rw[zz4.1 hx];exact hu),zkx ht]
 rfl
end Go.Av
namespace Go.Av
open Go
def Fr (l:List Time):Prop:=(∀t∈l,okT t=true)∧zpx l=l
def advU (f:List Time)(u:Update):Update:=⟨u.key,u.row,adv u.time f,u.diff⟩
def advL (f:List Time)(l:List Update):List Update:=l.map (advU f)
def AdvOk (f:List Time)(l R:List Update)(e:Int):Prop:=(chkL l≠0∧R=[]∧e=chkL l)∨(chkL l=0∧zhp (advL f l) R e)
def zm6 (f:List Time)(l:List Update)(B:Batch)(e:Int):Prop:=
 (¬Fr f∧e=4∧B=⟨[],[]⟩)∨(Fr f∧ ∃R e',AdvOk f l R e'∧R.length≤l.length∧((e'≠0∧e=e'∧B=⟨[],[]⟩)∨(e'=0∧e=0∧B=⟨f,R⟩)))
end Go.Av
namespace Go.Av
open Go
structure EvenP (l:List Update):Prop where
 lt:l.Pairwise fun a b=>cU a b<0
 nz: ∀r∈l,r.diff≠0
 ok: ∀r∈l,okU r
end Go.Av
namespace Go.Av
open Go
abbrev kc (key:List Value)(u:Update):Int:=cmpL cmpV u.key key
def cntP (p:Update→Bool):List Update→Nat
 |[]=>0
 |u::l=>if p u then cntP p l+1 else 0
theorem zj0 (p:Update→Bool): ∀l,cntP p l≤l.length
 |[]=>zzc _
 |u::l=>by
  unfold cntP;split
  ·simp only[List.length_cons];have:=zj0 p l;omega
  ·exact Nat.zero_le _
theorem zj1 {p:Update→Bool}: ∀{l:List Update} {i:Nat},i<cntP p l→p (l.getD i zzd)=true
 |[],i,h=>by simp[cntP]at h
 |u::l,i,h=>by
  unfold cntP at h;split at h
  ·rename_i hu
   cases i with
   |zero=>exact hu
   |succ i=>simp only[List.getD_cons_succ];exact zj1 (by omega)
  ·omega
theorem ziz {p:Update→Bool}: ∀{l:List Update},cntP p l<l.length→p (l.getD (cntP p l) zzd)=false
 |[],h=>by simp at h
 |u::l,h=>by
  unfold cntP at*;split
  ·rename_i hu
   rw[if_pos hu]at h;simp only[List.getD_cons_succ];exact ziz (by simp only[List.length_cons]at h;omega)
  ·rename_i hu
   simpa using hu
end Go.Av
namespace Go.Av
open Go
abbrev upTo (l:List Update)(key:List Value):Nat:=(l.filter fun u=>decide (kc key u≤0)).length
end Go.Av
namespace Go.Av
open Go
def zqk (f:List Time)(l:List Update)(B:Batch)(e:Int):Prop:=
 (¬Fr f∧e=4∧B=⟨[],[]⟩)∨(Fr f∧ ∃R e',AdvOk f l R e'∧((e'≠0∧e=e'∧B=⟨[],[]⟩)∨(e'=0∧e=0∧B=⟨f,R⟩)))
theorem zm6.r {f:List Time}{l:List Update}{B:Batch}{e:Int}(h:zm6 f l B e):zqk f l B e:=by
 rcases h with h|⟨h1,R,e',h2,_,h3⟩
 ·exact .inl h
 ·exact .inr ⟨h1,R,e',h2,h3⟩
end Go.Av
namespace Go.Av
open Go
section
variable {α:Type} {c:α→α→Int} {num:α→Int} {put:α→Int→α}
theorem zqh (hC:IsCmp c)(h2: ∀x n y,c (put x n) y=c x y){l1 l2:List (α×Int)}{R1 R2:List α}(ha:Tot c num put l1 R1 0)(hb:Tot c num put l2 R2 0)(hlt: ∀p∈l1,∀q∈l2,c p.1 q.1<0):Tot c num put (l1++l2) (R1++R2) 0:=by
 rcases ha with⟨_,a,fa⟩|⟨h,_⟩
 case inr=>omega
 rcases hb with⟨_,b,fb⟩|⟨h,_⟩
 case inr=>omega
 have h3: ∀x n y,c y (put x n)=c y x:=fun x n y=>by have:=hC.anti y (put x n);have:=hC.anti y x;have:=h2 x n y;omega
 have ne12: ∀p∈l1,∀q∈l2,c p.1 q.1≠0:=fun p hp q hq=>by have:=hlt p hp q hq;omega
 have ne21: ∀p∈l1,∀q∈l2,c q.1 p.1≠0:=fun p hp q hq=>by have:=hlt p hp q hq;have:=hC.anti p.1 q.1;omega
 have z2: ∀y,(∃p∈l1,c y p.1=0)→sm c l2 y=0:=fun y ⟨p,hp,e⟩=>z9q fun q hq=>by rw[hC.eqL q.1 e];exact ne12 p hp q hq
 have z1: ∀y,(∃p∈l2,c y p.1=0)→sm c l1 y=0:=fun y ⟨q,hq,e⟩=>z9q fun p hp=>by rw[hC.eqL p.1 e];exact ne21 p hp q hq
 have of1: ∀r∈R1,∃p∈l1,c r p.1=0:=fun r hr=>by
  obtain⟨p,hp,e⟩:=a.mem r hr;exact⟨p,hp,by rw[e,h2];exact hC.refl _⟩
 have of2: ∀r∈R2,∃p∈l2,c r p.1=0:=fun r hr=>by
  obtain⟨p,hp,e⟩:=b.mem r hr;exact⟨p,hp,by rw[e,h2];exact hC.refl _⟩
 refine .inl ⟨rfl,⟨?_,?_,?_,?_⟩,?_⟩
 ·rw[List.pairwise_append];refine⟨a.strict,b.strict,fun r hr s hs=>?_⟩;obtain⟨p,hp,e⟩:=of1 r hr;obtain⟨q,hq,e'⟩:=of2 s hs;rw[hC.eqL s e,hC.eqR p.1 e'];exact hlt p hp q hq
 ·intro r hr;rw[z81];rcases zz3.1 hr with hr|hr
  ·rw[z2 r (of1 r hr),Int.add_zero];exact a.sum r hr
  ·rw[z1 r (of2 r hr),Int.zero_add];exact b.sum r hr
 ·intro r hr;rcases zz3.1 hr with hr|hr
  ·obtain⟨y,g1,g2⟩:=a.mem r hr;exact⟨y,zzp _ g1,g2⟩
  ·obtain⟨y,g1,g2⟩:=b.mem r hr;exact⟨y,List.mem_append_right _ g1,g2⟩
 ·intro y hy hn;rw[z81]at hn;rcases zz3.1 hy with hy|hy
  ·rw[z2 y.1 ⟨y,hy,hC.refl _⟩,Int.add_zero]at hn;obtain⟨r,g1,g2⟩:=a.all y hy hn;exact⟨r,zzp _ g1,g2⟩
  ·rw[z1 y.1 ⟨y,hy,hC.refl _⟩,Int.zero_add]at hn;obtain⟨r,g1,g2⟩:=b.all y hy hn;exact⟨r,List.mem_append_right _ g1,g2⟩
 ·intro y;rw[z81];by_cases e:sm c l1 y=0
  ·rw[e,Int.zero_add];exact fb y
  ·rw[z2 y (zdw e),Int.add_zero];exact fa y
end
theorem zq8 {t:Time}:okT t=true↔t.epoch≤4611686018427387904∧t.loop.1≤4611686018427387904∧t.loop.2≤4611686018427387904:=by
 unfold okT;simp only[Bool.and_eq_true,decide_eq_true_eq]
theorem zq9 {t s:Time}(h:okT t=true)(hs:okT s=true):okT (lub2 t s)=true:=by
 rw[zq8]at*;simp only[lub2,mx_eq];omega
theorem zcm (a b:List Update):pU (a++b)=pU a++pU b:=zfd _ a b
end Go.Av
/-
 Pairs of updates:what the maker makes.
-/
namespace Go.Av
open Go
def cKy (x y:Update):Int:=cmpL cmpV x.key y.key
theorem znh:IsCmp cKy:=(IsCmp.list z89).on (fun u:Update=>u.key)
theorem zo4 (x y:Update):z19 x y=some (cKy x y):=by
 unfold z19;rw[z7v];rfl
theorem rotK:z1m=rotG (α:=Update):=rfl
theorem insK:z0x=insG (α:=Update) z19:=rfl
theorem symK: ∀(fuel:Nat) (a b d:Int) (l:List Update),z0g fuel a b d l=symG (α:=Update) z19 fuel a b d l
 |0,_,_,_,_=>rfl
 |fuel+1,a,b,d,l=>by
  unfold z0g symG;simp only[rotK,symK fuel]
theorem stabK (fuel:Nat)(n:Int)(l:List Update):z14 fuel n l=stabG (α:=Update) z19 fuel n l:=by
 unfold z14 stabG;simp only[insK,symK]
theorem zid {α:Type}[Inhabited α]{R:α→α→Prop}{l:List α}(h: ∀i j,i<j→j<l.length→R (l.getD i zzd) (l.getD j zzd)):l.Pairwise R:=by
 rw[List.pairwise_iff_getElem];intro i j hi hj hij;have:=h i j hij hj
 rwa[List.getD_eq_getElem?_getD,List.getElem?_eq_getElem hi,List.getD_eq_getElem?_getD,List.getElem?_eq_getElem hj]at this
theorem zpe {fuel:Nat}{l:List Update}(hn:l.length≤8000000000)(hf:40000000000≤fuel): ∃r,z0i fuel l=some r∧r.Perm l∧r.Pairwise fun x y=>cKy x y≤0:=by
 obtain⟨r,h1,h2,h3⟩:=zeq (c:=cKy) zo4 znh (fuel:=fuel) (l:=l) (by omega) (by omega);refine⟨r,?_,h2,zid h3⟩;unfold z0i;rw[stabK,h1];rfl
theorem zpg {fuel:Nat}{l:List Update}(hn:l.length≤8000000000)(hf:40000000000≤fuel): ∃r,z0e fuel l=some r∧r.Perm l∧r.Pairwise fun x y=>cU x y≤0:=by
 obtain⟨r,h1,h2,h3⟩:=zeq (c:=cU) z8f cU_is (fuel:=fuel) (l:=l) (by omega) (by omega);refine⟨r,?_,h2,zid h3⟩;unfold z0e;rw[ziq,h1];rfl
theorem zij {key:List Value}: ∀{D:List Update},(D.Pairwise fun x y=>cKy x y≤0)→(∀y∈D,0≤kc key y)→D.filter (fun y=>decide (kc key y=0))=D.take (cntP (fun y=>decide (kc key y=0)) D)
 |[],_,_=>rfl
 |d::D,hp,hm=>by
  rw[List.pairwise_cons]at hp;unfold cntP;by_cases h:kc key d=0
  ·rw[List.filter_cons_of_pos (by simp[h]),if_pos (by simp[h]),List.take_succ_cons,zij hp.2 fun y hy=>hm y (zz7 _ hy)]
  ·rw[List.filter_cons_of_neg (by simp[h]),if_neg (by simp[h]),List.take_zero,List.filter_eq_nil_iff];intro y hy hk;have h1:=hp.1 y hy
   have h2:=hm d (zz5 ..);have hk:=of_decide_eq_true hk
   have h3:=(IsCmp.list z89).tr d.key y.key key h1 (by show kc key y≤0;omega);have h3:kc key d≤0:=h3
   omega
theorem zql {fuel:Nat}{r:List Update}{key:List Value}(hf:40000000000≤fuel)(hn:r.length≤8000000000)(hs:r.Pairwise fun x y=>cKy x y≤0):
 ∃(n:Nat) (b:Bool),n≤r.length∧z0c fuel r key=some ((n:Int),b)∧
  r.filter (fun y=>decide (kc key y=0))=(r.drop n).take (cntP (fun y=>decide (kc key y=0)) (r.drop n)):=by
 unfold z0c z3s;have hmono: ∀i j,i≤j→j<r.length→cKy (r.getD i zzd) (r.getD j zzd)≤0:=fun i j hij hj=>by
  by_cases e:i=j
  ·subst e;rw[znh.refl];exact Int.le_refl _
  ·have:=(List.pairwise_iff_getElem.1 hs) i j (by omega) hj (by omega);rwa[List.getD_eq_getElem?_getD,List.getElem?_eq_getElem (show i<r.length by omega),List.getD_eq_getElem?_getD,List.getElem?_eq_getElem hj]
 obtain⟨n,h1,_,h3,h4,h5⟩:=zm9 (R:=Empty) (P:=fun i=>decide (kc key (r.getD i zzd)<0)) (i0:=0) (j0:=r.length) (B:=fun(a1:Int×Int)=>bf (decide (a1.1<a1.2)) (need ((0:Int)≤(zzi.wrap (shrOp .u64 (zzu.wrap (zzi.wrap (a1.1+a1.2))) 1))∧(zzi.wrap (shrOp .u64 (zzu.wrap (zzi.wrap (a1.1+a1.2))) 1))<(r.length:Int))<|((z43 (r.getD ((zzi.wrap (shrOp .u64 (zzu.wrap (zzi.wrap (a1.1+a1.2))) 1)).toNat) zzd).key key).bind fun r1=>some r1).bind fun r8=>bf (decide (r8<0)) (some (.next ((zzi.wrap ((zzi.wrap (shrOp .u64 (zzu.wrap (zzi.wrap (a1.1+a1.2))) 1))+1)),a1.2))) (some (.next (a1.1,(zzi.wrap (shrOp .u64 (zzu.wrap (zzi.wrap (a1.1+a1.2))) 1)))))) (some (.brk (a1.1,a1.2))))
  r.length 0 r.length fuel (by omega) (by omega) (zzc _) (Nat.zero_le _) (zzc _) (.inl rfl) (.inl rfl) (fun i j _ hij hj=>by
   simp only[z0b,Int.ofNat_lt];by_cases h:i<j
   ·rw[if_pos h,if_pos h,zdn (by omega),z09 (by omega),z7v];simp only[zz0,z0b,zze,decide_eq_true_eq];rw[wadd1 (by omega)]
   ·rw[if_neg h,if_neg h])
 rw[show((0:Nat):Int)=(0:Int)from rfl]at h1;rw[h1];have hlow: ∀y∈r.take n,kc key y<0:=fun y hy=>by
  obtain⟨k,hk,rfl⟩:=List.mem_iff_getElem.1 hy;simp only[List.length_take]at hk;rcases h4 with h4|h4
  ·omega
  ·have h4:=of_decide_eq_true h4;have:=hmono k (n-1) (by omega) (by omega)
   have h2:=(IsCmp.list z89).le_lt (a:=(r.getD k zzd).key) this h4;rw[List.getElem_take];rwa[List.getD_eq_getElem?_getD,List.getElem?_eq_getElem (show k<r.length by omega)]at h2
 have hhigh: ∀y∈r.drop n,0≤kc key y:=fun y hy=>by
  obtain⟨k,hk,rfl⟩:=List.mem_iff_getElem.1 hy;simp only[zzj]at hk;rw[List.getElem_drop];rcases h5 with h5|h5
  ·omega
  ·have h5:=of_decide_eq_false h5;have:=hmono n (n+k) (by omega) (by omega)
   rw[List.getD_eq_getElem?_getD,List.getElem?_eq_getElem (show n<r.length by omega),List.getD_eq_getElem?_getD,List.getElem?_eq_getElem (show n+k<r.length by omega)]at this;rw[List.getD_eq_getElem?_getD,List.getElem?_eq_getElem (show n<r.length by omega)]at h5;rcases Int.lt_or_le (kc key (r[n+k]'(by omega))) 0 with g|g
   ·exact absurd ((IsCmp.list z89).le_lt (a:=(r[n]'(by omega)).key) this g) h5
   ·exact g
 have hfil:r.filter (fun y=>decide (kc key y=0))=(r.drop n).take (cntP (fun y=>decide (kc key y=0)) (r.drop n)):=by
  rw[←zij (hs.sublist (List.drop_sublist n r)) hhigh]
  conv=>lhs;rw[←List.take_append_drop n r,List.filter_append]
  rw[List.filter_eq_nil_iff.2 (fun y hy=>by have:=hlow y hy;simp;omega),List.nil_append]
 simp only[z4e,jn_eq,z0b,Int.ofNat_lt];by_cases h:n<r.length
 ·rw[if_pos h,z09 (by omega),z7v];exact⟨n,_,h3,rfl,hfil⟩
 ·rw[if_neg h];exact⟨n,_,h3,rfl,hfil⟩
def mkP (x y:Update):Update:=⟨[],x.row++y.row,lub2 x.time y.time,x.diff*y.diff⟩
def okP (x y:Update):Bool:=decide ((-9223372036854775808≤x.diff*y.diff∧x.diff*y.diff<9223372036854775808)∧(x.row++y.row).length≤8)
def note (f:Fault)(t:Time):Fault:=if f.is=false∨cmpT t f.at_<0 then⟨true,t⟩else f
def stepP (m:JoinMaker)(p:Update×Update):JoinMaker:=if okP p.1 p.2=true then⟨⟨m.maker.fault,m.maker.list++[mkP p.1 p.2]⟩⟩else⟨⟨note m.maker.fault (lub2 p.1.time p.2.time),m.maker.list⟩⟩
theorem zq7 (f:Fault)(t:Time):z3l t f=some (note f t):=by
 unfold z3l note;simp only[jn_eq,z2y];cases hf:f.is with
 |false=>rw[z2m,z4j,if_pos (.inl rfl)]
 |true=>
  rw[z4j,zbh];simp only[zz0,z0b];by_cases h:cmpT t f.at_<0
  ·rw[if_pos h,if_pos (.inr h)]
  ·rw[if_neg h,if_neg (fun g=>by rcases g with g|g;cases g;exact h g)]
theorem zp4 (m:JoinMaker)(t:Time):z3f t m=some ⟨⟨note m.maker.fault t,m.maker.list⟩⟩:=by
 unfold z3f note;simp only[jn_eq,z2y];cases hf:m.maker.fault.is with
 |false=>rw[z2m,z4j,if_pos (.inl rfl)]
 |true=>
  rw[z4j,zbh];simp only[zz0,z0b];by_cases h:cmpT t m.maker.fault.at_<0
  ·rw[if_pos h,if_pos (.inr h)]
  ·rw[if_neg h,if_neg (fun g=>by rcases g with g|g;cases g;exact h g)]
theorem zox {p q:List Value}(hp:okRow p=true)(hq:okRow q=true):z8z [p,q]=some (if(p++q).length≤8 then(p++q,0)else([],2)):=by
 rw[zll (by simp)];unfold zdo
 simp only[List.all_cons,List.all_nil,hp,hq,Bool.and_true,if_true,List.flatten_cons,List.flatten_nil,List.append_nil];congr 1;by_cases h:(p++q).length≤8
 ·rw[if_pos h,if_neg (by omega)]
 ·rw[if_neg h,if_pos (by omega)]
theorem zqa {x y:Update}{m:JoinMaker}(hx:okU x)(hy:okU y)(tx:z4w x.time)(ty:z4w y.time)(dx:in64 x.diff)(dy:in64 y.diff)(hm:m.maker.list.length≤8000000000):z38 x y m=some (stepP m (x,y)):=by
 unfold z38 stepP;rw[zq5 tx ty];simp only[zz0];rw[zox hx.2.1 hy.2.1];simp only[zz0];rw[zkl dx dy];simp only[zz0];rw[zo2];simp only[zz0,z2y,z0b];by_cases h:okP x y=true
 ·rw[if_pos h];obtain⟨h1,h2⟩:=of_decide_eq_true h;rw[if_pos h2,z8i h1,if_pos (by simp[thenC])];unfold z4z;rw[z09 (by simp;omega)];rfl
 ·rw[if_neg h,if_neg,zq7]
  ·rfl
  ·intro g;rw[z85]at g;apply h;unfold okP;rw[decide_eq_true_eq];constructor
   ·by_cases k:in64 (x.diff*y.diff)
    ·exact k
    ·rw[z7z k]at g;exact absurd g.2 (by decide)
   ·by_cases k:(x.row++y.row).length≤8
    ·exact k
    ·rw[if_neg k]at g;exact absurd g.1 (by decide)
def z1e (a r:List Update):List (Update×Update):=a.flatMap fun x=>(r.filter fun y=>decide (kc x.key y=0)).map fun y=>(x,y)
theorem zoh (m:JoinMaker)(p:Update×Update):(stepP m p).maker.list.length≤m.maker.list.length+1:=by
 unfold stepP;split<;>simp
theorem zfu: ∀(ps:List (Update×Update)) (m:JoinMaker),(ps.foldl stepP m).maker.list.length≤m.maker.list.length+ps.length
 |[],m=>by simp
 |p::ps,m=>by
  have:=zfu ps (stepP m p);have:=zoh m p
  simp only[List.foldl_cons,List.length_cons];omega
theorem zaz (a r:List Update):(z1e a r).length≤a.length*r.length:=by
 unfold z1e;induction a with
 |nil=>simp
 |cons x a ih=>
  have:=List.length_filter_le (fun y=>decide (kc x.key y=0)) r;simp only[List.flatMap_cons,zzl,List.length_map,List.length_cons,Nat.succ_mul];omega
theorem zaa {a r:List Update}{i:Nat}(h:i<a.length):z1e (a.take (i+1)) r=z1e (a.take i) r++(r.filter fun y=>decide (kc (a.getD i zzd).key y=0)).map fun y=>(a.getD i zzd,y):=by
 unfold z1e;rw[z2h h,List.flatMap_append];simp
structure UsOk (l:List Update):Prop where
 ok: ∀u∈l,okU u
 t: ∀u∈l,z4w u.time
 d: ∀u∈l,in64 u.diff
theorem UsOk.perm {l m:List Update}(h:UsOk l)(p:m.Perm l):UsOk m:=⟨fun u hu=>h.ok u (p.mem_iff.1 hu),fun u hu=>h.t u (p.mem_iff.1 hu),fun u hu=>h.d u (p.mem_iff.1 hu)⟩
theorem zow {x:Update}{G:List Update}{s:JoinMaker}{fuel:Nat}{B:Int×JoinMaker→Option (Ctl (Int×JoinMaker) (Int×JoinMaker))}(hf:G.length+1<fuel)
 (hB: ∀(j:Nat) (s':JoinMaker),j<G.length→s'=((G.take j).map fun y=>(x,y)).foldl stepP s→B ((j:Int),s')=some (.next (((j+1:Nat):Int),stepP s' (x,G.getD j zzd))))
 (hE: ∀s',B ((G.length:Int),s')=some (.brk ((G.length:Int),s'))∨B ((G.length:Int),s')=some (.ret ((G.length:Int),s'))):
 (∃z,loopN B fuel (0,s)=some (.done (z,(G.map fun y=>(x,y)).foldl stepP s)))∨(∃z,loopN B fuel (0,s)=some (.ret (z,(G.map fun y=>(x,y)).foldl stepP s))):=by
 have key: ∀(k j g:Nat) (s':JoinMaker),j+k=G.length→k+1<g→s'=((G.take j).map fun y=>(x,y)).foldl stepP s→
  (∃z,loopN B g ((j:Int),s')=some (.done (z,(G.map fun y=>(x,y)).foldl stepP s)))∨(∃z,loopN B g ((j:Int),s')=some (.ret (z,(G.map fun y=>(x,y)).foldl stepP s))):=by
  intro k;induction k with
  |zero=>
   intro j g s' hj hg hs;obtain rfl:j=G.length:=by omega
   rw[zzm]at hs;subst hs;cases g with
   |zero=>omega
   |succ g=>
    rcases hE _ with h|h
    ·left;exact⟨_,z5r h⟩
    ·right;exact⟨_,znv h⟩
  |succ k ih=>
   intro j g s' hj hg hs;cases g with
   |zero=>omega
   |succ g=>
    rw[z5j (hB j s' (by omega) hs)];refine ih (j+1) g _ (by omega) (by omega) ?_;rw[z2h (by omega),List.map_append,List.foldl_append,←hs];rfl
 exact key G.length 0 fuel s (by omega) hf rfl
theorem zp6 {fuel:Nat}{a b:List Update}{m:JoinMaker}(hf:40000000000≤fuel)(ha:UsOk a)(hb:UsOk b)(hn:b.length≤4000000000)(hab:m.maker.list.length+a.length*b.length≤8000000000):
 ∃r,r.Perm b∧z1l fuel a b m=some ((z1e a r).foldl stepP m):=by
 unfold z1l z0u;rw[z09 (by omega)];obtain⟨r,h1,h2,h3⟩:=zpe (fuel:=fuel) (l:=b) (by omega) hf;simp only[zz0];rw[h1];simp only[zz0];have hlen:=h2.length_eq
 have hr:=hb.perm h2;rw[z09 hlen];refine⟨r,h2,?_⟩;rw[←hlen]at hab hn;rw[z59 ((z1e a r).foldl stepP m) (fun i s=>s=(z1e (a.take i) r).foldl stepP m) (fun s hs=>by rw[hs,zzm])]
 ·rfl
 ·intro i s hi hs;have hx:=z34 hi
  obtain⟨n,fb,n1,n2,n3⟩:=zql (fuel:=fuel) (key:=(a.getD i zzd).key) hf (by omega) h3;rw[n2];simp only[zz0];rw[z09 (by omega)];have hc:=zj0 (fun y=>decide (kc (a.getD i zzd).key y=0)) (r.drop n)
  rw[zzj]at hc;have hpl:=zaz (a.take (i+1)) r
  have hle:(a.take (i+1)).length*r.length≤a.length*r.length:=Nat.mul_le_mul_right _ (by rw[List.length_take];omega);rw[zaa hi,n3,zzl,List.length_map,List.length_take,zzj,Nat.min_eq_left hc]at hpl;have hsl:=zfu (z1e (a.take i) r) m
  generalize hc':cntP (fun y=>decide (kc (a.getD i zzd).key y=0)) (r.drop n)=c at*;have hg: ∀t,n+t<r.length→(r.drop n).getD t zzd=r.getD (n+t) zzd:=fun t ht=>by simp[List.getD_eq_getElem?_getD,List.getElem?_drop]
  have hcl:((r.drop n).take c).length=c:=by rw[List.length_take,zzj];omega
  have hgc: ∀t,t<c→((r.drop n).take c).getD t zzd=r.getD (n+t) zzd:=fun t ht=>by
   rw[←hg _ (by omega)];simp[List.getD_eq_getElem?_getD,List.getElem?_take,ht]
  have key:=zow (x:=a.getD i zzd) (G:=(r.drop n).take c) (s:=s) (fuel:=fuel) (B:=fun(a9:Int×JoinMaker)=>bf (decide (a9.1<(((r.length:Int).toNat-(n:Int).toNat:Nat):Int))) (need ((0:Int)≤a9.1∧a9.1<(((r.length:Int).toNat-(n:Int).toNat:Nat):Int))<|need (((0+(n:Int).toNat)+a9.1.toNat)<r.length)<|(z43 ((a.getD i zzd).key) ((r.getD ((0+(n:Int).toNat)+a9.1.toNat) zzd).key)).bind fun r14=>bf (!decide (r14=0)) (some (.ret (a9.1,a9.2))) ((z38 (a.getD i zzd) (r.getD ((0+(n:Int).toNat)+a9.1.toNat) zzd) a9.2).bind fun r15=>some (.next ((zzi.wrap (a9.1+1)),r15)))) (some (.brk (a9.1,a9.2)))) (by omega) (fun j s' hj hs'=>by
   rw[hcl]at hj;simp only[z0b,zze,zza];rw[if_pos (by omega),z09 (by omega),z09 (by omega),z7v];have hz:=of_decide_eq_true (zj1 (p:=fun y=>decide (kc (a.getD i zzd).key y=0)) (l:=r.drop n) (i:=j) (by omega))
   rw[hg _ (by omega)]at hz;have hy:=z34 (show n+j<r.length by omega)
   have hsl':=zfu ((((r.drop n).take c).take j).map fun y=>(a.getD i zzd,y)) s;rw[←hs',List.length_map,List.length_take]at hsl';simp only[zz0,z2y,z0b];rw[if_pos ((IsCmp.list z89).symm0 hz),zqa (ha.ok _ hx) (hr.ok _ hy) (ha.t _ hx) (hr.t _ hy) (ha.d _ hx) (hr.d _ hy) (by rw[hs]at hsl';omega)];simp only[zz0];rw[wadd1 (by omega),hgc _ hj]) (fun s'=>by
   simp only[z0b,zze,zza,hcl];by_cases hl:c<r.length-n
   ·rw[if_pos (by omega),z09 (by omega),z09 (by omega),z7v];have hz:=of_decide_eq_false (ziz (p:=fun y=>decide (kc (a.getD i zzd).key y=0)) (l:=r.drop n) (by rw[hc',zzj];exact hl));rw[hc',hg _ (by omega)]at hz;simp only[zz0,z2y,z0b];rw[if_neg (fun h=>hz ((IsCmp.list z89).symm0 h))];exact .inr rfl
   ·rw[if_neg (by omega)];exact .inl rfl)
  have hfin:(((r.drop n).take c).map fun y=>(a.getD i zzd,y)).foldl stepP s=(z1e (a.take (i+1)) r).foldl stepP m:=by
   rw[zaa hi,n3,List.foldl_append,←hs]
  refine⟨_,?_,rfl⟩;rw[←hfin];rcases key with⟨z,hz⟩|⟨z,hz⟩
  ·rw[hz];rfl
  ·rw[hz];rfl
 ·simp[z1e]
end Go.Av
/-
 What a maker's list comes to,piece by piece.
-/
namespace Go.Av
open Go
theorem zqg (l:List Update){n:Nat}(h:n≤l.length):Av.sub l (n:Int) (l.length:Int)=l.drop n:=by
 unfold Av.sub;simp only[zze];exact List.take_of_length_le (by simp)
theorem sub_zero (l:List Update)(n:Nat):Av.sub l 0 (n:Int)=l.take n:=by
 unfold Av.sub;simp
theorem zeb: ∀(ps:List (Update×Update)) (m:JoinMaker),(ps.foldl stepP m).maker.list=m.maker.list++(ps.filter fun p=>okP p.1 p.2).map fun p=>mkP p.1 p.2
 |[],m=>by simp
 |p::ps,m=>by
  rw[List.foldl_cons,zeb ps];unfold stepP;by_cases h:okP p.1 p.2=true
  ·rw[if_pos h,List.filter_cons_of_pos (p:=fun p:Update×Update=>okP p.1 p.2) h];simp
  ·rw[if_neg h,List.filter_cons_of_neg (p:=fun p:Update×Update=>okP p.1 p.2) h]
theorem zd1: ∀(ps:List (Update×Update)) (m:JoinMaker),(ps.foldl stepP m).maker.fault=((ps.filter fun p=> !okP p.1 p.2).map fun p=>lub2 p.1.time p.2.time).foldl note m.maker.fault
 |[],m=>rfl
 |p::ps,m=>by
  rw[List.foldl_cons,zd1 ps];unfold stepP;by_cases h:okP p.1 p.2=true
  ·rw[if_pos h,List.filter_cons_of_neg (p:=fun p:Update×Update=> !okP p.1 p.2) (by simp[h])]
  ·rw[if_neg h,List.filter_cons_of_pos (p:=fun p:Update×Update=> !okP p.1 p.2) (by simp[h])];rfl
theorem zme (f:Fault)(t:Time):(note f t).is=true:=by
 unfold note;by_cases h:f.is=false∨cmpT t f.at_<0
 ·rw[if_pos h]
 ·rw[if_neg h];cases hf:f.is with
  |true=>rfl
  |false=>exact absurd (.inl hf) h
theorem zks: ∀(ts:List Time) (f:Fault),(ts.foldl note f).is=true↔f.is=true∨ts≠[]
 |[],f=>by simp
 |t::ts,f=>by
  rw[List.foldl_cons,zks ts];simp[zme]
def good (L:List Update)(u:Update):Bool:=decide (-9223372036854775808≤sm cU (pU L) u∧sm cU (pU L) u<9223372036854775808)
theorem z9l {L:List Update}{u:Update}:good L u=true↔in64 (sm cU (pU L) u):=by
 unfold good in64;rw[decide_eq_true_eq]
theorem zii {d:Update}: ∀{D:List Update},(D.Pairwise fun x y=>cU x y≤0)→(∀y∈D,cU d y≤0)→(∀x∈D.take (cntP (fun y=>decide (cU d y=0)) D),cU d x=0)∧ ∀y∈D.drop (cntP (fun y=>decide (cU d y=0)) D),cU d y<0
 |[],_,_=>⟨fun x hx=>(by simp at hx),fun x hx=>(by simp at hx)⟩
 |e::D,hp,hm=>by
  rw[List.pairwise_cons]at hp;unfold cntP;by_cases h:cU d e=0
  ·rw[if_pos (decide_eq_true h),List.take_succ_cons,List.drop_succ_cons];obtain⟨h1,h2⟩:=zii hp.2 fun y hy=>hm y (zz7 _ hy);refine⟨fun x hx=>?_,h2⟩;rcases zzf.1 hx with rfl|hx
   ·exact h
   ·exact h1 x hx
  ·rw[if_neg (by simp[h]),List.take_zero,List.drop_zero];refine⟨fun x hx=>(by cases hx),fun y hy=>?_⟩;have h1:cU d e<0:=by have:=hm e (zz5 ..);omega
   rcases zzf.1 hy with rfl|hy
   ·exact h1
   ·exact cU_is.lt_tr h1 (hp.1 y hy)
theorem zma {u v:Update}(h:cU u v=0):u.time=v.time:=by
 unfold cU at h;rw[z85,z85,zfl]at h;exact h.2.2
theorem zkj {fuel:Nat}{l:List Update}(hf:40000000000≤fuel)(hl:UsOk l)(hn:l.length≤8000000000): ∃R e,z3n fuel [l]=some (R,e)∧TotU l R e∧R.length≤l.length:=by
 have hfl:([l]:List (List Update)).flatten=l:=by simp
 obtain⟨R,e,h1,h2,h3⟩:=zpr (fuel:=fuel) (ls:=[l]) hf (by rw[hfl];exact hn) (by rw[hfl];exact hl.d);rw[hfl]at h2 h3;refine⟨R,e,h1,?_,h3⟩;rcases h2 with⟨g,_⟩|⟨_,g⟩
 ·exact absurd (z7b.2 hl.ok) g
 ·exact g
theorem UsOk.sub {l m:List Update}(h:UsOk l)(hs: ∀u∈m,u∈l):UsOk m:=⟨fun u hu=>h.ok u (hs u hu),fun u hu=>h.t u (hs u hu),fun u hu=>h.d u (hs u hu)⟩
structure PInv (L r:List Update) (m:JoinMaker) (k:Nat) (s:List Update×List Update×JoinMaker):Prop where
 kl:k≤r.length
 l:s.1=r.drop k
 tot:TotU ((r.take k).filter (good L)) s.2.1 0
 len:s.2.1.length≤k
 sep: ∀x∈r.take k,∀y∈r.drop k,cU x y<0
 ft: ∃ts:List Time,s.2.2=⟨⟨ts.foldl note m.maker.fault,m.maker.list⟩⟩∧ ∀t,t∈ts↔ ∃u∈r.take k,good L u=false∧u.time=t
theorem zic {l m:List Update}(h:l.Perm m)(y:Update):sm cU (pU l) y=sm cU (pU m) y:=zmm (h.map _) y
theorem zgc {l:List Update}{y:Update}(h: ∀u∈l,cU y u≠0):sm cU (pU l) y=0:=z9q fun p hp=>by
 obtain⟨u,hu,rfl⟩:=zzn.1 hp;exact h u hu
theorem zo5 {fuel:Nat}{m:JoinMaker}(hf:40000000000≤fuel)(hl:UsOk m.maker.list)(hn:m.maker.list.length≤8000000000):
 ∃(out:List Update) (ts:List Time),z3a fuel m=some (out,⟨⟨ts.foldl note m.maker.fault,m.maker.list⟩⟩)∧TotU (m.maker.list.filter (good m.maker.list)) out 0∧out.length≤m.maker.list.length∧ ∀t,t∈ts↔ ∃u∈m.maker.list,good m.maker.list u=false∧u.time=t:=by
 unfold z3a z0u;rw[z09 (by omega)];obtain⟨r,h1,h2,h3⟩:=zpg (fuel:=fuel) (l:=m.maker.list) (by omega) hf;simp only[zz0];rw[h1];simp only[zz0];have hlen:=h2.length_eq
 have hr:=hl.perm h2;rw[z09 hlen];have hgd: ∀u,sm cU (pU m.maker.list) u=sm cU (pU r) u:=fun u=>(zic h2 u).symm
 generalize hL:m.maker.list=L at*;refine z9a (G:=fun q=> ∃(out:List Update) (ts:List Time),q=some (out,(⟨⟨ts.foldl note m.maker.fault,L⟩⟩:JoinMaker))∧TotU (L.filter (good L)) out 0∧out.length≤L.length∧ ∀t,t∈ts↔ ∃u∈L,good L u=false∧u.time=t) (P:=fun s=>PInv L r m r.length s) ?_ ?_
 case refine_2=>
  rintro⟨l,out,m'⟩ ⟨_,_,q1,q2,_,ts,q3,q4⟩;dsimp only at q1 q2 q3;rw[zzm]at q1 q4;refine⟨out,ts,by rw[q3,hL],?_,by omega,fun t=>?_⟩
  ·have hp:(r.filter (good L)).Perm (L.filter (good L)):=h2.filter _;exact zhl (hp.map _) q1
  ·rw[q4];exact⟨fun⟨u,hu,g⟩=>⟨u,h2.mem_iff.1 hu,g⟩,fun⟨u,hu,g⟩=>⟨u,h2.mem_iff.2 hu,g⟩⟩
 ·have hloop:=fun B hB=>za6 (S:=List Update×List Update×JoinMaker) (R:=Empty) (B:=B) (fun i s=> ∃k,i≤k∧PInv L r m k s) (fun s=>PInv L r m r.length s) (n:=r.length+1) (fuel:=fuel) (s:=(r,[],m)) (by omega)
   ⟨0,zzc _,⟨Nat.zero_le _,rfl,by rw[List.take_zero];exact .inl ⟨rfl,⟨List.Pairwise.nil,fun r hr=>(by cases hr),fun r hr=>(by cases hr),fun y hy=>(by cases hy)⟩,fun y=>(by show in64 0;unfold in64;omega)⟩,zzc _,fun x hx=>(by simp at hx),[],rfl,by simp⟩⟩ hB
  refine hloop _ ?_;rintro i ⟨l,out,m'⟩ ⟨k,hik,kl,e1,q1,q2,q3,ts,q4,q5⟩;dsimp only at e1 q1 q2 q4;subst e1 q4;simp only[z0b];by_cases hk:k<r.length
  case neg=>
   right;obtain rfl:k=r.length:=by omega
   rw[if_neg (by simp)];exact⟨_,rfl,⟨zzc _,rfl,q1,q2,q3,ts,rfl,q5⟩⟩
  left;rw[if_pos (by rw[zzj];omega)];have hD:=z25 hk
  have hps:=h3.sublist (List.drop_sublist k r);have hhd:(r.drop k).getD 0 zzd=r.getD k zzd:=by rw[hD];rfl
  have hmd: ∀y∈r.drop k,cU (r.getD k zzd) y≤0:=fun y hy=>by
   rw[hD]at hy hps;rcases zzf.1 hy with rfl|hy
   ·rw[cU_is.refl];exact Int.le_refl _
   ·exact(List.pairwise_cons.1 hps).1 y hy
  obtain⟨s1,s2⟩:=zii hps hmd;have hn1:1≤cntP (fun y=>decide (cU (r.getD k zzd) y=0)) (r.drop k):=by
   rw[hD];unfold cntP;rw[if_pos (decide_eq_true (cU_is.refl _))];omega
  have hnle:=zj0 (fun y=>decide (cU (r.getD k zzd) y=0)) (r.drop k);rw[zzj]at hnle;have hlt: ∀j,j<cntP (fun y=>decide (cU (r.getD k zzd) y=0)) (r.drop k)→cU (r.getD k zzd) ((r.drop k).getD j zzd)=0:=fun j hj=>of_decide_eq_true (zj1 (p:=fun y=>decide (cU (r.getD k zzd) y=0)) hj)
  have hat:cntP (fun y=>decide (cU (r.getD k zzd) y=0)) (r.drop k)<(r.drop k).length→ ¬cU (r.getD k zzd) ((r.drop k).getD (cntP (fun y=>decide (cU (r.getD k zzd) y=0)) (r.drop k)) zzd)=0:=fun h=>of_decide_eq_false (ziz (p:=fun y=>decide (cU (r.getD k zzd) y=0)) h);generalize cntP (fun y=>decide (cU (r.getD k zzd) y=0)) (r.drop k)=n at*;have hinner:=zlu (R:=Empty) (fuel:=fuel) (n:=n-1) (z:=((n:Nat):Int)) (fun j:Nat=>((1+j:Nat):Int)) (B:=fun(a6:Int)=>jn (fun(a16:Bool)=>bf a16 (some (.next (zzi.wrap (a6+1)))) (some (.brk a6))) fun j17=>if a6<((r.drop k).length:Int)then(need ((0:Int)≤0∧0<((r.drop k).length:Int))<|need ((0:Int)≤a6∧a6<((r.drop k).length:Int))<|(z2t ((r.drop k).getD 0 zzd) ((r.drop k).getD a6.toNat zzd)).bind fun r21=>j17 (decide (r21=0)))else(j17 false)) (by omega) (fun j hj=>by
   simp only[jn_eq,zzj,zze];rw[if_pos (by omega),z09 (by omega),z09 (by omega),hhd,z8f];simp only[zz0];rw[hlt _ (by omega)];simp only[decide_true,z4j];rw[wadd1 (by omega),Nat.add_assoc]) (by
   simp only[jn_eq,zzj,zze];rw[show 1+(n-1)=n by omega];by_cases h:n<r.length-k
   ·rw[if_pos (by omega),z09 (by omega),z09 (by omega),hhd,z8f];simp only[zz0];rw[decide_eq_false (hat (by rw[zzj];exact h)),z2m]
   ·rw[if_neg (by omega),z2m])
  rw[show((1+0:Nat):Int)=1 from rfl]at hinner;rw[hinner];simp only[z4e];rw[z09 (by rw[zzj];omega),sub_zero];have hpm: ∀u∈(r.drop k).take n,u∈r:=fun u hu=>List.mem_of_mem_drop (List.mem_of_mem_take hu)
  have hpl:((r.drop k).take n).length=n:=by rw[List.length_take,zzj];omega
  obtain⟨P,e,c1,c2,c3⟩:=zkj (fuel:=fuel) hf (hr.sub hpm) (by rw[hpl];omega);rw[c1];rw[hpl]at c3;simp only[zz0,jn_eq,z2y,z0b];have etk:r.take (k+n)=r.take k++(r.drop k).take n:=List.take_add
  have edr:r.drop (k+n)=(r.drop k).drop n:=by rw[List.drop_drop]
  have hsub:Av.sub (r.drop k) ((n:Nat):Int) ((r.drop k).length:Int)=r.drop (k+n):=by rw[zqg _ (by rw[zzj];omega),edr]
  have hsep: ∀x∈r.take (k+n),∀y∈r.drop (k+n),cU x y<0:=fun x hx y hy=>by
   rw[etk]at hx;rw[edr]at hy;rcases zz3.1 hx with g|g
   ·exact q3 x g y (List.mem_of_mem_drop hy)
   ·rw[cU_is.eqL y (cU_is.symm0 (s1 x g))];exact s2 y hy
  --the sum of the piece's class
  have hsum: ∀u∈(r.drop k).take n,sm cU (pU L) u=sm cU (pU ((r.drop k).take n)) u:=fun u hu=>by
   have hu0:=s1 u hu;rw[hgd];have er:r=r.take k++((r.drop k).take n++(r.drop k).drop n):=by rw[List.take_append_drop,List.take_append_drop]
   conv=>lhs;rw[er]
   rw[zcm,zcm,z81,z81,zgc (l:=r.take k) (fun x hx h=>by
    have:=q3 x hx _ (List.mem_of_mem_take hu);have:=cU_is.symm0 h
    omega),zgc (l:=(r.drop k).drop n) (fun y hy h=>by
    have:=s2 y hy;rw[cU_is.eqL y hu0]at this;omega)]
   omega
  have hcls: ∀u∈(r.drop k).take n,sm cU (pU ((r.drop k).take n)) u=sm cU (pU ((r.drop k).take n)) (r.getD k zzd):=fun u hu=>(z4q cU_is (s1 u hu) _).symm;have hkn:i+1≤k+n:=by omega
  by_cases he:e=0
  ·subst he;rw[if_pos rfl,z09 (by omega),z09 (by rw[zzj];omega),hsub];refine⟨_,rfl,⟨k+n,hkn,by omega,rfl,?_,?_,hsep,ts,rfl,?_⟩,by omega⟩
   ·rcases c2 with⟨_,c2,cf⟩|⟨c2,_⟩
    case inr=>omega
    have hall:((r.drop k).take n).filter (good L)=(r.drop k).take n:=List.filter_eq_self.2 fun u hu=>z9l.2 (by rw[hsum u hu];exact cf u);rw[etk,List.filter_append,hall];show Tot cU (fun x=>x.diff) z3b (pU (_++_)) (out++P) 0;rw[zcm];refine zqh (put:=z3b) cU_is (fun x n y=>rfl) q1 (.inl ⟨rfl,c2,cf⟩) fun p hp q hq=>?_;obtain⟨x,hx,rfl⟩:=zzn.1 hp;obtain⟨y,hy,rfl⟩:=zzn.1 hq;exact q3 x (zzh.1 hx).1 y (List.mem_of_mem_take hy)
   ·dsimp only;rw[zzl];omega
   ·intro t;rw[q5,etk];constructor
    ·rintro⟨u,hu,g⟩;exact⟨u,zzp _ hu,g⟩
    ·rintro⟨u,hu,g1,g2⟩;rcases zz3.1 hu with hu|hu
     ·exact⟨u,hu,g1,g2⟩
     ·rcases c2 with⟨_,_,cf⟩|⟨c2,_⟩
      ·have:=z9l.2 (show in64 (sm cU (pU L) u)by rw[hsum u hu];exact cf u);rw[this]at g1;cases g1
      ·omega
  ·rw[if_neg he,z09 (by rw[zzj];omega),zp4];simp only[zz0];rcases c2 with⟨c2,_⟩|⟨_,rfl,cf⟩
   ·exact absurd c2 he
   rw[z09 (by simp;omega),z09 (by rw[zzj];omega),hsub,hhd,List.append_nil];have hbad: ∀u∈(r.drop k).take n,good L u=false:=fun u hu=>by
    cases hg:good L u with
    |false=>rfl
    |true=>
     exfalso;have hg:=z9l.1 hg
     rw[hsum u hu]at hg;apply cf;intro y;by_cases hy: ∃x∈(r.drop k).take n,cU y x=0
     ·obtain⟨x,hx,hyx⟩:=hy;rw[z4q cU_is hyx,hcls x hx,←hcls u hu];exact hg
     ·rw[zgc fun x hx h=>hy ⟨x,hx,h⟩];unfold in64;omega
   refine⟨_,rfl,⟨k+n,hkn,by omega,rfl,?_,by dsimp only;omega,hsep,ts++[(r.getD k zzd).time],by rw[List.foldl_append];rfl,?_⟩,by omega⟩
   ·have hno:((r.drop k).take n).filter (good L)=[]:=List.filter_eq_nil_iff.2 fun u hu=>by rw[hbad u hu];simp
    rw[etk,List.filter_append,hno,List.append_nil];exact q1
   ·intro t;rw[zz3,q5,etk,zz4];constructor
    ·rintro(⟨u,hu,g⟩|rfl)
     ·exact⟨u,zzp _ hu,g⟩
     ·have hm:r.getD k zzd∈(r.drop k).take n:=by
       rw[hD];cases n with
       |zero=>omega
       |succ n=>rw[List.take_succ_cons];exact zz5 ..
      exact⟨_,List.mem_append_right _ hm,hbad _ hm,rfl⟩
    ·rintro⟨u,hu,g1,g2⟩;rcases zz3.1 hu with hu|hu
     ·exact .inl ⟨u,hu,g1,g2⟩
     ·right;rw[←g2,zma (s1 u hu)]
theorem znr {L R:List Update}{e:Int}(h:TotU L R e):(e=0→ ∀u,good L u=true)∧(e≠0→ ∃u∈L,good L u=false):=by
 rcases h with⟨h1,h2,h3⟩|⟨h1,h2,h3⟩
 ·exact⟨fun _ u=>z9l.2 (h3 u),fun h=>absurd h1 h⟩
 ·refine⟨fun h=>by omega,fun _=>?_⟩;apply Classical.byContradiction;intro hn;apply h3;intro y;by_cases hy: ∃x∈L,cU y x=0
  ·obtain⟨x,hx,hyx⟩:=hy;rw[z4q cU_is hyx];cases hg:good L x with
   |true=>exact z9l.1 hg
   |false=>exact absurd ⟨x,hx,hg⟩ hn
  ·rw[zgc fun x hx h=>hy ⟨x,hx,h⟩];unfold in64;omega
theorem zps {fuel:Nat}{m:JoinMaker}(hf:40000000000≤fuel)(hl:UsOk m.maker.list)(hn:m.maker.list.length≤8000000000):
 ∃(out:List Update) (ts:List Time) (t:Time) (w:Int) (m':JoinMaker),z1u fuel m=some (out,t,w,m')∧TotU (m.maker.list.filter (good m.maker.list)) out 0∧out.length≤m.maker.list.length∧(∀t,t∈ts↔ ∃u∈m.maker.list,good m.maker.list u=false∧u.time=t)∧
  (((ts.foldl note m.maker.fault).is=false∧t=zeroT∧w=0)∨((ts.foldl note m.maker.fault).is=true∧t=(ts.foldl note m.maker.fault).at_∧w=10)):=by
 unfold z1u;obtain⟨R,e,h1,h2,h3⟩:=zkj (fuel:=fuel) hf hl hn;rw[h1];simp only[zz0,jn_eq,z2y,z0b];obtain⟨g1,g2⟩:=znr h2;by_cases he:e=0
 ·subst he;rw[if_pos rfl];have hall:m.maker.list.filter (good m.maker.list)=m.maker.list:=List.filter_eq_self.2 fun u _=>g1 rfl u
  cases hi:m.maker.fault.is with
  |false=>
   rw[z2m];exact⟨R,[],_,_,_,rfl,by rw[hall];exact h2,h3,fun t=>by simp[g1],.inl ⟨hi,rfl,rfl⟩⟩
  |true=>
   rw[z4j];exact⟨R,[],_,_,_,rfl,by rw[hall];exact h2,h3,fun t=>by simp[g1],.inr ⟨hi,rfl,rfl⟩⟩
 ·rw[if_neg he];obtain⟨out,ts,p1,p2,p3,p4⟩:=zo5 (fuel:=fuel) hf hl hn;rw[p1];simp only[zz0];cases hi:(ts.foldl note m.maker.fault).is with
  |false=>
   rw[z2m];exact⟨out,ts,_,_,_,rfl,p2,p3,p4,.inl ⟨hi,rfl,rfl⟩⟩
  |true=>
   rw[z4j];exact⟨out,ts,_,_,_,rfl,p2,p3,p4,.inr ⟨hi,rfl,rfl⟩⟩
end Go.Av
namespace Go.Av
open Go
theorem zpz {n:Int}(h:okInt .i64 n):in64 n:=by
 have:=Go.bounds_i64 h;unfold in64;omega
theorem zei {n:Int}(h:okInt .u64 n):0≤n:=(Go.bounds_u64 h).1
theorem zny {t:Time}(h:zi9 t):z4w t:=⟨zei h.1,zei h.2.1.1,zei h.2.1.2⟩
abbrev okUs (l:List Update):Prop:=l.length≤maxN∧ ∀x∈l,zek x
abbrev okTs (l:List Time):Prop:=l.length≤maxN∧ ∀x∈l,zi9 x
theorem us_in {l:List Update}(h:okUs l): ∀u∈l,in64 u.diff:=fun u hu=>zpz (h.2 u hu).2.2.2.1
theorem us_nn {l:List Update}(h:okUs l): ∀u∈l,z4w u.time:=fun u hu=>zny (h.2 u hu).2.2.1
end Go.Av
/-
 Pairs of two lists;what two lists make with a third one.
-/
namespace Go.Av
open Go
def First (f:Fault)(T:List Time):Prop:=(f.is=true↔T≠[])∧(f.is=true→f.at_∈T∧ ∀t∈T,cmpT f.at_ t≤0)
theorem First.note {f:Fault}{T:List Time}(h:First f T)(t:Time):First (note f t) (T++[t]):=by
 obtain⟨h1,h2⟩:=h;unfold Av.note;by_cases g:f.is=false∨cmpT t f.at_<0
 ·rw[if_pos g];refine⟨by simp,fun _=>⟨by simp,fun s hs=>?_⟩⟩;rcases zz3.1 hs with hs|hs
  ·cases hf:f.is with
   |false=>rw[hf]at h1;exact absurd (h1.2 fun e=>by rw[e]at hs;cases hs) (by simp)
   |true=>
    obtain⟨h3,h4⟩:=h2 hf;rcases g with g|g
    ·rw[hf]at g;cases g
    ·have:=zbs.lt_tr g (h4 s hs);show cmpT t s≤0;omega
  ·rw[zz4.1 hs];show cmpT t t≤0;rw[zbs.refl];exact Int.le_refl _
 ·rw[if_neg g];have hf:f.is=true:=by cases hf:f.is with
   |true=>rfl
   |false=>exact absurd (.inl hf) g
  obtain⟨h3,h4⟩:=h2 hf;refine⟨by simp[hf],fun _=>⟨zzp _ h3,fun s hs=>?_⟩⟩;rcases zz3.1 hs with hs|hs
  ·exact h4 s hs
  ·rw[zz4.1 hs];have: ¬cmpT t f.at_<0:=fun x=>g (.inr x);have:=zbs.anti f.at_ t
   omega
theorem First.fold: ∀(ts:List Time) {f:Fault} {T:List Time},First f T→First (ts.foldl Av.note f) (T++ts)
 |[],f,T,h=>by rw[List.append_nil];exact h
 |t::ts,f,T,h=>by
  have:=First.fold ts (h.note t);rw[List.append_assoc]at this;exact this
theorem First.nil (t:Time):First ⟨false,t⟩ []:=⟨by simp,by simp⟩
def okL (a b:List Update):List Update:=((z1e a b).filter fun p=>okP p.1 p.2).map fun p=>mkP p.1 p.2
theorem zl1 {a r b:List Update}(h:r.Perm b):(z1e a r).Perm (z1e a b):=by
 unfold z1e;induction a with
 |nil=>exact .refl _
 |cons x a ih=>simp only[List.flatMap_cons];exact((h.filter _).map _).append ih
theorem zlv {a b:List Update}{p:Update×Update}(h:p∈z1e a b):p.1∈a∧p.2∈b∧kc p.1.key p.2=0:=by
 unfold z1e at h;obtain⟨x,hx,h⟩:=List.mem_flatMap.1 h;obtain⟨y,hy,rfl⟩:=zzn.1 h;obtain⟨h1,h2⟩:=zzh.1 hy;exact⟨hx,h1,of_decide_eq_true h2⟩
theorem zfx {L M:List Update}(h:L.Perm M)(u:Update):good L u=good M u:=by
 unfold good;rw[zic h]
theorem zqt {x y:Update}(hx:okU x)(hy:okU y)(h:okP x y=true):okU (mkP x y):=by
 obtain⟨_,h2⟩:=of_decide_eq_true h;refine⟨by rfl,?_,?_⟩
 ·unfold mkP okRow;dsimp only;rw[Bool.and_eq_true,List.all_append,(z6o hx.2.1).1,(z6o hy.2.1).1];exact⟨decide_eq_true h2,rfl⟩
 ·exact zq9 hx.2.2 hy.2.2
theorem znx {a b:List Update}(ha:UsOk a)(hb:UsOk b):UsOk (okL a b):=by
 have key: ∀u∈okL a b,∃x∈a,∃y∈b,okP x y=true∧u=mkP x y:=fun u hu=>by
  obtain⟨p,hp,rfl⟩:=zzn.1 hu;obtain⟨h1,h2⟩:=zzh.1 hp;obtain⟨h3,h4,_⟩:=zlv h1;exact⟨p.1,h3,p.2,h4,h2,rfl⟩
 refine⟨fun u hu=>?_,fun u hu=>?_,fun u hu=>?_⟩<;>obtain⟨x,hx,y,hy,h,rfl⟩:=key u hu
 ·exact zqt (ha.ok x hx) (hb.ok y hy) h
 ·exact zq4 (ha.t x hx) (hb.t y hy)
 ·exact(of_decide_eq_true h).1
def FT (a b:List Update)(t:Time):Prop:=(∃p∈z1e a b,okP p.1 p.2=false∧lub2 p.1.time p.2.time=t)∨(∃u∈okL a b,good (okL a b) u=false∧u.time=t)
structure PairR (a b out:List Update) (t:Time) (w:Int):Prop where
 tot:TotU ((okL a b).filter (good (okL a b))) out 0
 len:out.length≤a.length*b.length
 ft:(w=0∧t=zeroT∧ ∀s,¬FT a b s)∨(w=10∧FT a b t∧ ∀s,FT a b s→cmpT t s≤0)
theorem zqu {fuel:Nat}{a b:List Update}(hf:40000000000≤fuel)(ha:UsOk a)(hb:UsOk b)(hn:b.length≤4000000000)(hab:a.length*b.length≤8000000000):
 ∃m out t w m',z1l fuel a b (⟨⟨⟨false,⟨0,(0,0)⟩⟩,[]⟩⟩:JoinMaker)=some m∧z1u fuel m=some (out,t,w,m')∧PairR a b out t w:=by
 obtain⟨r,h1,h2⟩:=zp6 (fuel:=fuel) (m:=(⟨⟨⟨false,⟨0,(0,0)⟩⟩,[]⟩⟩:JoinMaker)) hf ha hb hn (by simpa using hab);have hlen:=h1.length_eq
 have hL:=zeb (z1e a r) (⟨⟨⟨false,⟨0,(0,0)⟩⟩,[]⟩⟩:JoinMaker);have hF:=zd1 (z1e a r) (⟨⟨⟨false,⟨0,(0,0)⟩⟩,[]⟩⟩:JoinMaker)
 rw[List.nil_append]at hL;have hpp:=zl1 (a:=a) h1
 have hLp:(okL a r).Perm (okL a b):=(hpp.filter _).map _;have hll:(okL a r).length≤a.length*b.length:=by
  unfold okL;rw[List.length_map];have:=List.length_filter_le (fun p:Update×Update=>okP p.1 p.2) (z1e a r)
  have:=zaz a r;rw[hlen]at this;omega
 generalize (z1e a r).foldl stepP (⟨⟨⟨false,⟨0,(0,0)⟩⟩,[]⟩⟩:JoinMaker)=m at*;change m.maker.list=okL a r at hL;have hus:UsOk m.maker.list:=by rw[hL];exact znx ha (hb.perm h1)
 obtain⟨out,ts,t,w,m',d1,d2,d3,d4,d5⟩:=zps (fuel:=fuel) (m:=m) hf hus (by rw[hL];omega);rw[hL]at d2 d3 d4;refine⟨m,out,t,w,m',h2,d1,?_,by omega,?_⟩
 ·have hp:((okL a r).filter (good (okL a r))).Perm ((okL a b).filter (good (okL a b))):=by
   have e:good (okL a r)=good (okL a b):=funext fun u=>zfx hLp u;rw[e];exact hLp.filter _
  exact zhl (hp.map _) d2
 ·have hfi:=First.fold ts (f:=m.maker.fault) (T:=((z1e a r).filter fun p=> !okP p.1 p.2).map fun p=>lub2 p.1.time p.2.time) (by
   rw[hF];have:=First.fold (((z1e a r).filter fun p=> !okP p.1 p.2).map fun p=>lub2 p.1.time p.2.time) (First.nil ⟨0,(0,0)⟩);rw[List.nil_append]at this;exact this)
  have hT: ∀s,s∈(((z1e a r).filter fun p=> !okP p.1 p.2).map fun p=>lub2 p.1.time p.2.time)++ts↔FT a b s:=fun s=>by
   rw[zz3,d4];unfold FT;constructor
   ·rintro(g|⟨u,hu,g1,g2⟩)
    ·obtain⟨p,hp,rfl⟩:=zzn.1 g;obtain⟨k1,k2⟩:=zzh.1 hp;exact .inl ⟨p,hpp.mem_iff.1 k1,by simpa using k2,rfl⟩
    ·exact .inr ⟨u,hLp.mem_iff.1 hu,by rw[←zfx hLp];exact g1,g2⟩
   ·rintro(⟨p,hp,g1,g2⟩|⟨u,hu,g1,g2⟩)
    ·exact .inl (zzn.2 ⟨p,zzh.2 ⟨hpp.mem_iff.2 hp,by simp[g1]⟩,g2⟩)
    ·exact .inr ⟨u,hLp.mem_iff.2 hu,by rw[zfx hLp];exact g1,g2⟩
  obtain⟨k1,k2⟩:=hfi;rcases d5 with⟨g1,g2,g3⟩|⟨g1,g2,g3⟩
  ·left;refine⟨g3,g2,fun s hs=>?_⟩;have:=k1.2 (fun e=>by have:=(hT s).2 hs;rw[e]at this;cases this)
   rw[g1]at this;cases this
  ·right;obtain⟨k3,k4⟩:=k2 g1;rw[←g2]at k3 k4;exact⟨g3,(hT t).1 k3,fun s hs=>k4 s ((hT s).2 hs)⟩
theorem zkt {fuel:Nat}{a b:List Update}(hf:40000000000≤fuel)(da: ∀u∈a,in64 u.diff)(ta: ∀u∈a,z4w u.time)(db: ∀u∈b,in64 u.diff)(tb: ∀u∈b,z4w u.time)(hn:b.length≤4000000000)(hab:a.length*b.length≤8000000000):
 ∃out t w,z8v fuel a b=some (out,t,w)∧((thenC (chkL a) (chkL b)≠0∧out=[]∧t=zeroT∧w=thenC (chkL a) (chkL b))∨(UsOk a∧UsOk b∧PairR a b out t w)):=by
 unfold z8v;rw[zc3 (by omega),zc3 (by omega)];simp only[zz0];rw[zo2];simp only[zz0,z2y,z0b];by_cases h:thenC (chkL a) (chkL b)=0
 ·rw[if_pos h];obtain⟨h1,h2⟩:=z85.1 h;have ha:UsOk a:=⟨z7b.1 h1,ta,da⟩
  have hb:UsOk b:=⟨z7b.1 h2,tb,db⟩;obtain⟨m,out,t,w,m',e1,e2,e3⟩:=zqu (fuel:=fuel) hf ha hb hn hab;rw[e1];simp only[zz0];rw[e2];exact⟨out,t,w,rfl,.inr ⟨ha,hb,e3⟩⟩
 ·rw[if_neg h];exact⟨_,_,_,rfl,.inl ⟨h,rfl,rfl,rfl⟩⟩
theorem PairR.w {a b out:List Update}{t:Time}{w:Int}(h:PairR a b out t w):w=0∨w=10:=by
 rcases h.ft with⟨h,_⟩|⟨h,_⟩
 ·exact .inl h
 ·exact .inr h
theorem zmp (l:List Update):9*l.length≤(l.map z7a).sum:=by
 induction l with
 |nil=>simp
 |cons u l ih=>
  have:9≤z7a u:=by unfold z7a zhc;dsimp only;omega
  simp only[List.length_cons,List.map_cons,List.sum_cons];omega
theorem zqb {p q:Nat}(h:p+q≤116508):p*q≤8000000000:=by
 rcases Nat.le_total p 58254 with g|g
 ·exact Nat.le_trans (Nat.mul_le_mul g (show q≤116508 by omega)) (by decide)
 ·exact Nat.le_trans (Nat.mul_le_mul (show p≤116508 by omega) (show q≤58254 by omega)) (by decide)
theorem zq3:z64 100000000000=some true:=by kernel_rfl
end Go.Av
/-
 The document's pairs.
-/
namespace Go.Av
open Go
def toF (m:Made):Fault:=⟨!decide (m.why=0),m.fail⟩
def failM (m:Made)(t:Time):Made:=⟨m.list,(note (toF m) t).at_,10⟩
theorem zlk (m:Made)(t:Time):toF (failM m t)=note (toF m) t:=by
 have:=zme (toF m) t;unfold failM toF at*;generalize note (⟨!decide (m.why=0),m.fail⟩:Fault) t=f at*;rcases f with⟨i,a⟩;dsimp only at this ⊢;rw[this];rfl
theorem zn1 (m:Made)(t:Time):(if m.why=0 then(some (⟨m.list,t,10⟩:Made))else if cmpT t m.fail<0 then some (⟨m.list,t,10⟩:Made)else some (⟨m.list,m.fail,10⟩:Made))=some (failM m t):=by
 unfold failM note toF;dsimp only;by_cases h:m.why=0
 ·rw[if_pos h,if_pos (.inl (by rw[decide_eq_true h];rfl))]
 ·rw[if_neg h];by_cases g:cmpT t m.fail<0
  ·rw[if_pos g,if_pos (.inr g)]
  ·rw[if_neg g,if_neg (fun k=>by rcases k with k|k;rw[decide_eq_false h]at k;cases k;exact g k)]
theorem zjm (m:Made)(t:Time):z2i t m=some (failM m t):=by
 rw[←zn1];unfold z2i;simp only[jn_eq,z0b];by_cases h:m.why=0
 ·rw[if_pos h,if_pos h,z4j]
 ·rw[if_neg h,if_neg h,zf3];simp only[zz0,z0b]
theorem zn0 (m:Made)(t:Time):z2g t m=some (failM m t):=zjm m t
def stepM (m:Made)(p:Update×Update):Made:=if okP p.1 p.2=true then⟨m.list++[mkP p.1 p.2],m.fail,m.why⟩else failM m (lub2 p.1.time p.2.time)
structure RelM (M:JoinMaker) (m:Made):Prop where
 l:M.maker.list=m.list
 f:M.maker.fault=toF m
 w:m.why=0∨m.why=10
theorem RelM.step {M:JoinMaker}{m:Made}(h:RelM M m)(p:Update×Update):RelM (stepP M p) (stepM m p):=by
 unfold stepP stepM;split
 ·exact⟨by dsimp only;rw[h.l],h.f,h.w⟩
 ·exact⟨h.l,by rw[zlk,h.f],.inr rfl⟩
theorem RelM.fold: ∀(ps:List (Update×Update)) {M:JoinMaker} {m:Made},RelM M m→RelM (ps.foldl stepP M) (ps.foldl stepM m)
 |[],_,_,h=>h
 |p::ps,_,_,h=>RelM.fold ps (h.step p)
theorem zog (m:Made)(p:Update×Update):(stepM m p).list.length≤m.list.length+1:=by
 unfold stepM failM;split<;>simp
theorem zft: ∀(ps:List (Update×Update)) (m:Made),(ps.foldl stepM m).list.length≤m.list.length+ps.length
 |[],m=>by simp
 |p::ps,m=>by
  have:=zft ps (stepM m p);have:=zog m p
  simp only[List.foldl_cons,List.length_cons];omega
theorem zlw {p q:List Value}(hp:okRow p=true)(hq:okRow q=true):z5q [p,q]=some (if(p++q).length≤8 then(p++q,0)else([],2)):=by
 rw[zn9 (by simp)];unfold zdo
 simp only[List.all_cons,List.all_nil,hp,hq,Bool.and_true,if_true,List.flatten_cons,List.flatten_nil,List.append_nil];congr 1;by_cases h:(p++q).length≤8
 ·rw[if_pos h,if_neg (by omega)]
 ·rw[if_neg h,if_pos (by omega)]
theorem zly {fuel:Nat}{a b:List Update}(hf:40000000000≤fuel)(ha:UsOk a)(hb:UsOk b)(hab:a.length*b.length≤8000000000):
 z4d fuel a b=(z2f fuel ((z1e a b).foldl stepM ⟨[],⟨0,(0,0)⟩,0⟩)).bind fun r4=>some (r4.1,r4.2.1,r4.2.2):=by
 unfold z4d;rw[z59 ((z1e a b).foldl stepM ⟨[],⟨0,(0,0)⟩,0⟩) (fun i s=>s=(z1e (a.take i) b).foldl stepM ⟨[],⟨0,(0,0)⟩,0⟩) (fun s hs=>by rw[hs,zzm])]
 ·rfl
 ·intro i s hi hs;have hx:=z34 hi
  have hpl:=zaz (a.take (i+1)) b;have hle:(a.take (i+1)).length*b.length≤a.length*b.length:=Nat.mul_le_mul_right _ (by rw[List.length_take];omega)
  rw[zaa hi,zzl,List.length_map]at hpl;have hsl:=zft (z1e (a.take i) b) ⟨[],⟨0,(0,0)⟩,0⟩
  rw[←hs]at hsl;simp only[List.length_nil,zza]at hsl;refine⟨_,?_,rfl⟩;rw[zaa hi,List.foldl_append,←hs];generalize a.getD i zzd=x at*;rw[z59 (((b.filter fun y=>decide (kc x.key y=0)).map fun y=>(x,y)).foldl stepM s) (fun k s'=>s'=(((b.take k).filter fun y=>decide (kc x.key y=0)).map fun y=>(x,y)).foldl stepM s) (fun s' hs'=>by rw[hs',zzm])]
  ·rfl
  ·intro k s' hk hs';have hy:=z34 hk
   have hxk:=zbw (ha.ok x hx);rw[zem _ _ (by omega) (by unfold maxN;omega),z2h hk,List.filter_append,List.map_append,List.foldl_append,←hs'];have hl':=zft (((b.take k).filter fun y=>decide (kc x.key y=0)).map fun y=>(x,y)) s
   rw[←hs',List.length_map]at hl';have hsub:((b.take k).filter fun y=>decide (kc x.key y=0)).length≤(b.filter fun y=>decide (kc x.key y=0)).length:=((List.take_sublist k b).filter _).length_le
   generalize b.getD k zzd=y at*;simp only[zz0,z2y,z0b];by_cases hk0:cmpL cmpV x.key y.key=0
   ·have hk1:kc x.key y=0:=(IsCmp.list z89).symm0 hk0;rw[if_pos hk0,zo7,zkx (ha.t x hx)];simp only[zz0];rw[zlw (ha.ok x hx).2.1 (hb.ok y hy).2.1];simp only[zz0];rw[zm0 (ha.d x hx) (hb.d y hy)];simp only[zz0,jn_eq];have hfil:([y].filter fun y=>decide (kc x.key y=0))=[y]:=by simp[hk1]
    rw[hfil];simp only[List.map_cons,List.map_nil,List.foldl_cons,List.foldl_nil];refine⟨_,?_,rfl⟩;unfold stepM;by_cases h:okP x y=true
    ·obtain⟨h1,h2⟩:=of_decide_eq_true h;rw[if_pos h2,z8i h1];dsimp only;rw[if_pos rfl,decide_eq_true (show(0:Int)=0 from rfl)];simp only[Bool.not_true,z2m];rw[z09 (by simp;omega),if_pos h];rfl
    ·rw[if_neg h,zjm];simp only[zz0,z4j];by_cases h8:(x.row++y.row).length≤8
     ·rw[if_pos h8];dsimp only;rw[if_pos rfl];have: ¬in64 (x.diff*y.diff):=fun k=>h (decide_eq_true ⟨k,h8⟩)
      rw[z7z this];rfl
     ·rw[if_neg h8];dsimp only;rw[if_neg (by decide)]
   ·have hk1: ¬kc x.key y=0:=fun h=>hk0 ((IsCmp.list z89).symm0 h);rw[if_neg hk0];have hfil:([y].filter fun y=>decide (kc x.key y=0))=[]:=by simp[hk1]
    rw[hfil];exact⟨_,rfl,rfl⟩
  ·simp
 ·simp[z1e]
theorem zok {l R:List Update}{e:Int}{d:Update}(h:TotU l R e)(hd: ∀u∈l,cU d u=0):R.length≤1:=by
 rcases h with⟨_,g,_⟩|⟨_,rfl,_⟩
 ·match R,g with
  |[],_=>simp
  |[_],_=>simp
  |r::s::R,g=>
   exfalso;have key: ∀x∈r::s::R,cU d x=0:=fun x hx=>by
    obtain⟨p,hp,e⟩:=g.mem x hx;obtain⟨u,hu,rfl⟩:=zzn.1 hp;rw[e];exact hd u hu
   have:=(List.pairwise_cons.1 g.strict).1 s (zz5 ..);have h1:=key r (zz5 ..)
   have h2:=key s (zz7 _ (zz5 ..));rw[cU_is.eqR r (cU_is.symm0 h2 |>cU_is.symm0 |>cU_is.symm0)]at this;have:=cU_is.symm0 h1
   omega
 ·simp
theorem zgd {p q:Update→Bool}(y:Update): ∀{L:List Update},(∀u∈L,p u=true→q u=false)→sm cU (pU (L.filter fun u=>p u||q u)) y=sm cU (pU (L.filter p)) y+sm cU (pU (L.filter q)) y
 |[],_=>rfl
 |u::L,h=>by
  have ih:=zgd y fun v hv=>h v (zz7 _ hv);have h1:=h u (zz5 ..)
  have hc: ∀M:List Update,sm cU (pU (u::M)) y=(if cU y u=0 then u.diff else 0)+sm cU (pU M) y:=fun M=>rfl;cases hp:p u with
  |true=>
   have hq:=h1 hp;rw[List.filter_cons_of_pos (by simp[hp]),List.filter_cons_of_pos hp,List.filter_cons_of_neg (by simp[hq]),hc,hc,ih];omega
  |false=>
   cases hq:q u with
   |true=>rw[List.filter_cons_of_pos (by simp[hq]),List.filter_cons_of_neg (by simp[hp]),List.filter_cons_of_pos hq,hc,hc,ih];omega
   |false=>rw[List.filter_cons_of_neg (by simp[hp,hq]),List.filter_cons_of_neg (by simp[hp]),List.filter_cons_of_neg (by simp[hq]),ih]
theorem zcq {L:List Update}{d u:Update}(h:cU d u=0):sm cU (pU (L.filter fun v=>decide (cU d v=0))) u=sm cU (pU L) u:=by
 induction L with
 |nil=>rfl
 |cons v L ih=>
  have hc: ∀M:List Update,sm cU (pU (v::M)) u=(if cU u v=0 then v.diff else 0)+sm cU (pU M) u:=fun M=>rfl;by_cases g:cU d v=0
  ·rw[List.filter_cons_of_pos (by simp[g]),hc,hc,ih]
  ·rw[List.filter_cons_of_neg (by simp[g]),hc,ih,if_neg]
   ·omega
   ·intro k;exact g (by rw[cU_is.eqL v h];exact k)
theorem zed {L:List Update}{u v:Update}(h:cU u v=0):good L u=good L v:=by
 unfold good;rw[z4q cU_is h]
structure EInv (L:List Update) (f0:Fault) (i:Nat) (s:Made×List Update):Prop where
 l:s.1.list=L
 ft: ∃ts:List Time,toF s.1=ts.foldl note f0∧ ∀t,t∈ts↔ ∃u∈L.take i,good L u=false∧u.time=t
 w:s.1.why=0∨s.1.why=10
 us:UsOk s.2
 len:s.2.length≤i
 sums: ∀y,sm cU (pU s.2) y=sm cU (pU (L.filter fun u=>good L u && (L.take i).any fun x=>decide (cU x u=0))) y
theorem zpv {fuel:Nat}{m:Made}(hf:40000000000≤fuel)(hl:UsOk m.list)(hn:m.list.length≤8000000000)(hw:m.why=0∨m.why=10):
 ∃(R:List Update) (ts:List Time) (f:Made),z2f fuel m=some (R,f.fail,f.why)∧toF f=ts.foldl note (toF m)∧(f.why=0∨f.why=10)∧(∀t,t∈ts↔ ∃u∈m.list,good m.list u=false∧u.time=t)∧
  (∀out,TotU (m.list.filter (good m.list)) out 0→R=out):=by
 unfold z2f;generalize hL:m.list=L at*;have h0:EInv L (toF m) 0 (m,[]):=⟨hL,⟨[],rfl,by simp⟩,hw,⟨fun u hu=>(by cases hu),fun u hu=>(by cases hu),fun u hu=>(by cases hu)⟩,Nat.zero_le _,fun y=>by rw[List.filter_eq_nil_iff.2 fun u _=>by simp]⟩
 obtain⟨⟨f,o⟩,h1,h2⟩:=zab (R:=Empty) (n:=L.length) (I:=EInv L (toF m)) (s:=(m,[])) h0 (B:=fun i1 (a2:Made×(List Update))=>outK (z0f (S:=Bool×(List Update)) (R:=Empty) (fun i5 (a6:Bool×(List Update))=>(z27 fuel (L.getD i1 zzd) (a2.1.list.getD i5 zzd)).bind fun r13=>bf (decide (r13=0)) (need (a6.2.length+([(a2.1.list.getD i5 zzd)]:List Update).length≤274877906944)<|bf a6.1 (some (.next ((decide (((i1:Nat):Int)≤((i5:Nat):Int))),(a6.2++([(a2.1.list.getD i5 zzd)]:List Update))))) (some (.next (false,(a6.2++([(a2.1.list.getD i5 zzd)]:List Update)))))) (some (.next (a6.1,a6.2)))) a2.1.list.length 0 (true,([]:List Update))) (fun(a7:Bool×(List Update))=>bf (!a7.1) (some (.next (a2.1,a2.2))) ((z2u fuel ([a7.2]:List (List Update))).bind fun r8=>jn (fun(a9:Made)=>need (a2.2.length+r8.1.length≤274877906944)<|some (.next (a9,(a2.2++r8.1)))) fun j10=>bf (!decide (r8.2=0)) ((z2g ((L.getD i1 zzd).time) a2.1).bind fun r12=>j10 r12) (j10 a2.1))) (fun(x:Empty)=>x.elim)) (by
  rintro i ⟨f,o⟩ hi ⟨e1,⟨ts,e2,e3⟩,e4,e5,e6,e7⟩;dsimp only at e1 e2 e4 e5 e6 e7 ⊢;have hu:=z34 hi
  have huk:=zbw (hl.ok _ hu);rw[e1];generalize hd:L.getD i zzd=d at*;rw[z59 (!((L.take i).any fun x=>decide (cU d x=0)),L.filter fun v=>decide (cU d v=0)) (fun k s=>s=(!((L.take (min i k)).any fun x=>decide (cU d x=0)),(L.take k).filter fun v=>decide (cU d v=0))) (fun s hs=>by rw[hs,Nat.min_eq_left (by omega),zzm])]
  ·simp only[z4e,z2y];have htk:=z2h hi
   rw[hd]at htk;cases hfst:(L.take i).any fun x=>decide (cU d x=0)with
   |true=>
    obtain⟨x,hx,hxd⟩:=List.any_eq_true.1 hfst;have hxd:=of_decide_eq_true hxd
    simp only[z4j];refine⟨_,rfl,e1,⟨ts,e2,fun t=>?_⟩,e4,e5,by dsimp only;omega,fun y=>?_⟩
    ·rw[e3,htk];constructor
     ·rintro⟨u,hu,g⟩;exact⟨u,zzp _ hu,g⟩
     ·rintro⟨u,hu,g1,g2⟩;rcases zz3.1 hu with hu|hu
      ·exact⟨u,hu,g1,g2⟩
      ·rw[zz4.1 hu]at g1 g2;exact⟨x,hx,by rw[←zed hxd];exact g1,by rw[←zma hxd];exact g2⟩
    ·dsimp only;rw[e7];congr 2;refine List.filter_congr fun u _=>?_;rw[htk,List.any_append];congr 1;cases ha:(L.take i).any fun x=>decide (cU x u=0)with
     |true=>rfl
     |false=>
      have: ¬cU d u=0:=fun h=>by
       have h2:cU x u=0:=by rw[cU_is.eqL u (cU_is.symm0 hxd)];exact h
       have:((L.take i).any fun x=>decide (cU x u=0))=true:=List.any_eq_true.2 ⟨x,hx,decide_eq_true h2⟩;rw[ha]at this;cases this
      simp[this]
   |false=>
    simp only[z2m];have hfl:([L.filter fun v=>decide (cU d v=0)]:List (List Update)).flatten=L.filter fun v=>decide (cU d v=0):=by simp
    have hgl:=List.length_filter_le (fun v=>decide (cU d v=0)) L;have hgu:UsOk (L.filter fun v=>decide (cU d v=0)):=hl.sub fun u hu=>(zzh.1 hu).1
    obtain⟨P,e,c1,c2⟩:=zif (fuel:=fuel) (ls:=[L.filter fun v=>decide (cU d v=0)]) hf (by rw[hfl];omega) (by rw[hfl];exact hgu.d);rw[hfl]at c2;have c2:TotU (L.filter fun v=>decide (cU d v=0)) P e:=by
     rcases c2 with⟨g,_⟩|⟨_,g⟩
     ·exact absurd (z7b.2 hgu.ok) g
     ·exact g
    have hP1:=zok c2 fun u hu=>of_decide_eq_true (zzh.1 hu).2;rw[c1];simp only[zz0,jn_eq,z2y,z0b];have hdd:cU d d=0:=cU_is.refl d
    have hsd:=zcq (L:=L) hdd;have hnew: ∀u∈L,(good L u && (L.take i).any fun x=>decide (cU x u=0))=true→(good L u && decide (cU d u=0))=false:=fun u hu h=>by
     rw[Bool.and_eq_true]at h;obtain⟨x,hx,hxu⟩:=List.any_eq_true.1 h.2;have hxu:=of_decide_eq_true hxu
     have: ¬cU d u=0:=fun g=>by
      have h2:cU d x=0:=by rw[cU_is.eqR d hxu];exact g
      have:((L.take i).any fun x=>decide (cU d x=0))=true:=List.any_eq_true.2 ⟨x,hx,decide_eq_true h2⟩;rw[hfst]at this;cases this
     simp[this]
    have hor: ∀u,(good L u && (L.take (i+1)).any fun x=>decide (cU x u=0))=((good L u && (L.take i).any fun x=>decide (cU x u=0))||(good L u && decide (cU d u=0))):=fun u=>by
     rw[htk,List.any_append];cases good L u<;>simp
    by_cases he:e=0
    ·subst he;rw[if_pos rfl,z09 (by omega)];have hg:good L d=true:=by
      rcases c2 with⟨_,_,cf⟩|⟨c2,_⟩
      ·exact z9l.2 (by rw[←hsd];exact cf d)
      ·omega
     refine⟨_,rfl,e1,⟨ts,e2,fun t=>?_⟩,e4,⟨fun u hu=>?_,fun u hu=>?_,fun u hu=>?_⟩,by dsimp only;rw[zzl];omega,fun y=>?_⟩
     ·rw[e3,htk];constructor
      ·rintro⟨u,hu,g⟩;exact⟨u,zzp _ hu,g⟩
      ·rintro⟨u,hu,g1,g2⟩;rcases zz3.1 hu with hu|hu
       ·exact⟨u,hu,g1,g2⟩
       ·rw[zz4.1 hu,hg]at g1;cases g1
     ·rcases zz3.1 hu with hu|hu
      ·exact e5.ok u hu
      ·exact zce c2 hgu.ok u hu
     ·rcases zz3.1 hu with hu|hu
      ·exact e5.t u hu
      ·exact zpj c2 hgu.t u hu
     ·rcases zz3.1 hu with hu|hu
      ·exact e5.d u hu
      ·exact zqi c2 u hu
     ·dsimp only;rw[zcm,z81,e7];have hPs:sm cU (pU P) y=sm cU (pU (L.filter fun u=>good L u && decide (cU d u=0))) y:=by
       have h1:sm cU (pU P) y=sm cU (pU (L.filter fun v=>decide (cU d v=0))) y:=by
        rcases c2 with⟨_,g,_⟩|⟨g,_⟩
        ·exact zqx cU_is g y
        ·omega
       rw[h1];congr 2;refine List.filter_congr fun u _=>?_;by_cases g:cU d u=0
       ·rw[←zed g,hg];rfl
       ·simp[g]
      rw[hPs,←zgd y hnew];congr 2;exact List.filter_congr fun u _=>(hor u).symm
    ·rw[if_neg he,zn0];simp only[zz0];rcases c2 with⟨c2,_⟩|⟨_,rfl,cf⟩
     ·exact absurd c2 he
     rw[z09 (by simp;omega),List.append_nil];have hg:good L d=false:=by
      cases hg:good L d with
      |false=>rfl
      |true=>
       exfalso;have hg:=z9l.1 hg
       apply cf;intro y;by_cases hy:cU d y=0
       ·rw[zcq hy,←z4q cU_is hy];exact hg
       ·rw[zgc fun x hx h=>hy (by
         have:=of_decide_eq_true (zzh.1 hx).2;rw[cU_is.eqR d h];exact this)]
        unfold in64;omega
     refine⟨_,rfl,e1,⟨ts++[d.time],by rw[zlk,e2,List.foldl_append];rfl,fun t=>?_⟩,.inr rfl,e5,by dsimp only;omega,fun y=>?_⟩
     ·rw[zz3,e3,htk,zz4];constructor
      ·rintro(⟨u,hu,g⟩|rfl)
       ·exact⟨u,zzp _ hu,g⟩
       ·exact⟨d,List.mem_append_right _ (zz4.2 rfl),hg,rfl⟩
      ·rintro⟨u,hu,g1,g2⟩;rcases zz3.1 hu with hu|hu
       ·exact .inl ⟨u,hu,g1,g2⟩
       ·rw[zz4.1 hu]at g2;exact .inr g2.symm
     ·dsimp only;rw[e7];congr 2;refine List.filter_congr fun u _=>?_;rw[hor];by_cases g:cU d u=0
      ·rw[←zed g,hg];rfl
      ·simp[g]
  ·intro k s hk hs;have hv:=z34 hk
   have htk2:=z2h hk;rw[zco (by omega) (by omega) (by unfold maxN;omega) (by unfold maxN;omega),hs,htk2,List.filter_append];have hgl:=List.length_filter_le (fun v=>decide (cU d v=0)) (L.take k)
   rw[List.length_take]at hgl;generalize L.getD k zzd=v at*;simp only[zz0,z0b];by_cases g:cU d v=0
   ·rw[if_pos g,z09 (by simp;omega)];have hfil:([v].filter fun v=>decide (cU d v=0))=[v]:=by rw[List.filter_cons_of_pos (by simp[g])];rfl
    rw[hfil];by_cases hki:k<i
    ·rw[Nat.min_eq_right (by omega),Nat.min_eq_right (by omega),htk2,List.any_append];have:([v].any fun x=>decide (cU d x=0))=true:=by simp[g]
     rw[this,Bool.or_true];refine⟨_,?_,rfl⟩;cases (L.take k).any fun x=>decide (cU d x=0)with
     |true=>rfl
     |false=>
      simp only[Bool.not_false,z4j];rw[decide_eq_false (by omega)];rfl
    ·rw[Nat.min_eq_left (by omega),Nat.min_eq_left (by omega)];refine⟨_,?_,rfl⟩;cases (L.take i).any fun x=>decide (cU d x=0)with
     |true=>rfl
     |false=>
      simp only[Bool.not_false,z4j];rw[decide_eq_true (by omega)]
   ·rw[if_neg g];have hfil:([v].filter fun v=>decide (cU d v=0))=[]:=by rw[List.filter_cons_of_neg (by simp[g])];rfl
    rw[hfil,List.append_nil];by_cases hki:k<i
    ·rw[Nat.min_eq_right (by omega),Nat.min_eq_right (by omega),htk2,List.any_append];have:([v].any fun x=>decide (cU d x=0))=false:=by simp[g]
     rw[this,Bool.or_false];exact⟨_,rfl,rfl⟩
    ·rw[Nat.min_eq_left (by omega),Nat.min_eq_left (by omega)];exact⟨_,rfl,rfl⟩
  ·simp)
 rw[h1];obtain⟨e1,⟨ts,e2,e3⟩,e4,e5,e6,e7⟩:=h2;dsimp only at e1 e2 e4 e5 e6 e7;rw[zzm]at e3;simp only[z4e];have hfl:([o]:List (List Update)).flatten=o:=by simp
 obtain⟨R,e,c1,c2⟩:=zif (fuel:=fuel) (ls:=[o]) hf (by rw[hfl];omega) (by rw[hfl];exact e5.d);rw[hfl]at c2;rw[c1];refine⟨R,ts,f,rfl,e2,e4,e3,fun out ht=>?_⟩;rcases c2 with⟨g,_⟩|⟨_,c2⟩
 ·exact absurd (z7b.2 e5.ok) g
 refine(zm3 c2 ht e5.ok (fun u hu=>hl.ok u (zzh.1 hu).1) fun y=>?_).1;rw[e7,zzm];congr 2;refine List.filter_congr fun u hu=>?_;have:(L.any fun x=>decide (cU x u=0))=true:=List.any_eq_true.2 ⟨u,hu,decide_eq_true (cU_is.refl u)⟩
 rw[this,Bool.and_true]
end Go.Av
namespace Go.Av
open Go
theorem zpi (u:Int):thenC u 0=u:=by
 unfold thenC;split
 ·rename_i h;exact h.symm
 ·rfl
theorem zlx (fuel:Nat)(a b:List Update):z68 fuel a b=if thenC (chkL a) (chkL b)=0 then(z4d fuel a b).bind fun r4=>some (r4.1,r4.2.1,r4.2.2)else some ([],zeroT,thenC (chkL a) (chkL b)):=by
 unfold z68;have h:=zbn (l:=[a,b]) chkL (fun w=>(([]:List Update),zeroT,w)) (B:=fun i1 (a2:Unit)=>(z4c (([a,b]:List (List Update)).getD i1 zzd)).bind fun r5=>bf (!decide (r5=0)) (some (.ret (([]:List Update),(⟨0,(0,0)⟩:Time),r5))) (some (.next ()))) (fun i hi=>by
  rw[zf2];simp only[zz0,z2y,z0b];rfl)
 rw[h];simp only[List.foldr_cons,List.foldr_nil,zpi];split
 ·rfl
 ·rfl
theorem zp7 {fuel:Nat}{a b out:List Update}{t:Time}{w:Int}(hf:40000000000≤fuel)(ha:UsOk a)(hb:UsOk b)(hab:a.length*b.length≤8000000000)(h:PairR a b out t w):
 z4d fuel a b=some (out,t,w):=by
 rw[zly hf ha hb hab];have hrel:=RelM.fold (z1e a b) (M:=(⟨⟨⟨false,⟨0,(0,0)⟩⟩,[]⟩⟩:JoinMaker)) (m:=⟨[],⟨0,(0,0)⟩,0⟩) ⟨rfl,rfl,.inl rfl⟩;have hL:=zeb (z1e a b) (⟨⟨⟨false,⟨0,(0,0)⟩⟩,[]⟩⟩:JoinMaker)
 have hF:=zd1 (z1e a b) (⟨⟨⟨false,⟨0,(0,0)⟩⟩,[]⟩⟩:JoinMaker);rw[List.nil_append]at hL;have hll:(okL a b).length≤a.length*b.length:=by
  unfold okL;rw[List.length_map];have:=List.length_filter_le (fun p:Update×Update=>okP p.1 p.2) (z1e a b)
  have:=zaz a b;omega
 generalize (z1e a b).foldl stepP (⟨⟨⟨false,⟨0,(0,0)⟩⟩,[]⟩⟩:JoinMaker)=M at*;generalize (z1e a b).foldl stepM ⟨[],⟨0,(0,0)⟩,0⟩=m at*;have hml:m.list=okL a b:=by rw[←hrel.l];exact hL
 obtain⟨R,ts,f,e1,e2,e3,e4,e5⟩:=zpv (fuel:=fuel) (m:=m) hf (by rw[hml];exact znx ha hb) (by rw[hml];omega) hrel.w;rw[hml]at e4 e5;rw[e1,e5 out h.tot];simp only[zz0];have hfi:=First.fold ts (f:=toF m) (T:=((z1e a b).filter fun p=> !okP p.1 p.2).map fun p=>lub2 p.1.time p.2.time) (by
  rw[←hrel.f,hF];have:=First.fold (((z1e a b).filter fun p=> !okP p.1 p.2).map fun p=>lub2 p.1.time p.2.time) (First.nil ⟨0,(0,0)⟩);rw[List.nil_append]at this;exact this)
 rw[←e2]at hfi;have hT: ∀s,s∈(((z1e a b).filter fun p=> !okP p.1 p.2).map fun p=>lub2 p.1.time p.2.time)++ts↔FT a b s:=fun s=>by
  rw[zz3,e4];unfold FT;constructor
  ·rintro(g|g)
   ·obtain⟨p,hp,rfl⟩:=zzn.1 g;obtain⟨k1,k2⟩:=zzh.1 hp;exact .inl ⟨p,k1,by simpa using k2,rfl⟩
   ·exact .inr g
  ·rintro(⟨p,hp,g1,g2⟩|g)
   ·exact .inl (zzn.2 ⟨p,zzh.2 ⟨hp,by simp[g1]⟩,g2⟩)
   ·exact .inr g
 obtain⟨k1,k2⟩:=hfi
 --where nothing failed the time is zero
 have hz: ∀(ts:List Time) (f:Fault),(ts.foldl note f).is=false→ts.foldl note f=f:=fun ts f h=>by
  cases ts with
  |nil=>rfl
  |cons t ts=>
   have:=(zks (t::ts) f).2 (.inr (by simp));rw[h]at this;cases this
 rcases h.ft with⟨h1,h2,h3⟩|⟨h1,h2,h3⟩
 ·have hne:(((z1e a b).filter fun p=> !okP p.1 p.2).map fun p=>lub2 p.1.time p.2.time)++ts=[]:=by
   cases hc:(((z1e a b).filter fun p=> !okP p.1 p.2).map fun p=>lub2 p.1.time p.2.time)++ts with
   |nil=>rfl
   |cons s S=>exact absurd ((hT s).1 (by rw[hc];exact zz5 ..)) (h3 s)
  have his:(toF f).is=false:=by
   cases hi:(toF f).is with
   |false=>rfl
   |true=>exact absurd hne (k1.1 hi)
  have hw:f.why=0:=by
   unfold toF at his
   simpa using his
  have hf0:=hz ts (toF m) (by rw[←e2];exact his);have hm0:(toF m).is=false:=by rw[←hf0,←e2];exact his
  rw[←hrel.f,hF]at hm0;have hf1:=hz _ _ hm0
  have:toF f=⟨false,⟨0,(0,0)⟩⟩:=by rw[e2,hf0,←hrel.f,hF,hf1]
  have hft:f.fail=⟨0,(0,0)⟩:=by
   unfold toF at this;injection this
  rw[hft,hw,h1,h2];rfl
 ·have hne:(((z1e a b).filter fun p=> !okP p.1 p.2).map fun p=>lub2 p.1.time p.2.time)++ts≠[]:=fun e=>by
   have:=(hT t).2 h2;rw[e]at this;cases this
  have his:=k1.2 hne;obtain⟨k3,k4⟩:=k2 his;have hw:f.why=10:=by
   rcases e3 with g|g
   ·unfold toF at his;rw[g]at his;cases his
   ·exact g
  have q1:=k4 t ((hT t).2 h2);have q2:=h3 _ ((hT _).1 k3)
  have hat:(toF f).at_=f.fail:=rfl;rw[hat]at q1 q2;have:=zbs.anti t f.fail
  rw[hw,h1,zfl.1 (show cmpT f.fail t=0 by omega)]
theorem zix {fuel:Nat}{a b:List Update}(hL:z64 fuel=some true)(hf:40000000000≤fuel)(da: ∀u∈a,in64 u.diff)(ta: ∀u∈a,z4w u.time)(db: ∀u∈b,in64 u.diff)(tb: ∀u∈b,z4w u.time)
 (hn:b.length≤1000000) (hab:a.length*b.length≤8000000000):z4v fuel a b=some true:=by
 unfold z4v;obtain⟨x,t,w,e1,p1⟩:=zkt (fuel:=fuel) hf da ta db tb (by omega) hab;rw[e1,zlx,hL];have key: ∀v:List Update×Time×Int,v=(x,t,w)→((some v).bind fun r2=>jn (fun(a3:Bool)=>some a3) fun j4=>(some true).bind fun r5=>bf r5 ((z4p x r2.1).bind fun r6=>bf r6 (bf (z33 t r2.2.1) (j4 (decide (w=r2.2.2))) (j4 false)) (j4 false)) (j4 false))=some true:=fun v hv=>by
  subst hv;simp only[zz0,jn_eq,z4j];rw[zqy,zgz];simp
 simp only[zz0];rcases p1 with⟨h,rfl,rfl,rfl⟩|⟨ha,hb,hp⟩
 ·rw[if_neg h];exact key _ rfl
 ·rw[if_pos (by rw[z7b.2 ha.ok,z7b.2 hb.ok];rfl),zp7 hf ha hb hab hp];exact key _ rfl
theorem zk1 {a b:List Update}(h1:okUs a)(h2:okUs b)(hb:((a.map z7a).sum+1)+(((b.map z7a).sum+1)+0)≤1048576):z4v 100000000000 a b=some true:=by
 have l1:=zmp a;have l2:=zmp b
 exact zix zq3 (by omega) (us_in h1) (us_nn h1) (us_in h2) (us_nn h2) (by omega) (zqb (by omega))
end Go.Av
