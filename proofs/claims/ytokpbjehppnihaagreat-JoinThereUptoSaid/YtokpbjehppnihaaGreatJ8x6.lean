import Derived.Test.YtokpbjehppnihaaGreatJ8x5
import Derived.Sort.AssemblyPlain
import Derived.KernelRfl
set_option maxRecDepth 100000
set_option linter.unusedVariables false
set_option linter.unusedSimpArgs false
set_option linter.unusedSectionVars false
open Go.IntKind renaming i64→zzi, u64→zzu
open Inhabited renaming default→zzd
open Option renaming bind_some→zz0
open List renaming mem_append→zz2, mem_cons_self→zz4, mem_cons_of_mem→zz6, mem_singleton→zz7, replicate→zz9, length_set→zze, mem_cons→zzf, length_append→zzg, eq_nil_of_length_eq_zero→zzj, mem_map→zzk, length_drop→zzl, mem_filter→zzm, map_cons→zzp
open Nat renaming zero_add→zza, le_refl→zzc
open Int renaming toNat_natCast→zzh
open Array renaming length_toList→zzn
namespace Go.Av
open Go
section
variable {α:Type} [Inhabited α] {cmp:α→α→Option Int} {c:α→α→Int}
theorem zd9 {x y:Nat}(h:x+y<4611686018427387904):zzi.wrap (shrOp .u64 (zzu.wrap (zzi.wrap ((x:Int)+(y:Int)))) 1)=(((x+y) / 2:Nat):Int):=by
 rw[wadd h,z82,Int.emod_eq_of_lt (by omega) (by omega),show(1:Int)=((1:Nat):Int)from rfl,zq8 .u64 (x+y) 1 (by decide),z3r (by omega) (by omega)]
def shR (a:Nat):Nat→Array α→Array α
 |0,d=>d
 |k+1,d=>Sort.swp (shR a k d) (a+k) (a+k+1)
def shL (m:Nat):Nat→Array α→Array α
 |0,d=>d
 |k+1,d=>Sort.swp (shL m k d) (m-k) (m-k-1)
theorem zdh (a:Nat): ∀(k:Nat) (d:Array α),(shR a k d).size=d.size
 |0,d=>rfl
 |k+1,d=>by unfold shR;rw[zdl,zdh a k]
theorem zdg (m:Nat): ∀(k:Nat) (d:Array α),(shL m k d).size=d.size
 |0,d=>rfl
 |k+1,d=>by unfold shL;rw[zdl,zdg m k]
theorem zm5 {a:Nat}{d:Array α}: ∀{k:Nat},a+k<d.size→ ∀x,(shR a k d)[x]! =rotF a (a+1) (a+1+k) d x
 |0,h,x=>by
  unfold shR rotF
  repeat' split
  all_goals first|omega|rfl|(congr 1;omega)
 |k+1,h,x=>by
  have ih:=zm5 (a:=a) (d:=d) (k:=k) (by omega);unfold shR;rw[zkx _ (by rw[zdh];omega) (by rw[zdh];omega),ih,ih,ih];unfold rotF
  repeat' split
  all_goals first|omega|rfl|(congr 1;omega)
theorem zm4 {m:Nat}{d:Array α}(hm:m<d.size): ∀{k:Nat},k≤m→ ∀x,(shL m k d)[x]! =rotF (m-k) m (m+1) d x
 |0,h,x=>by
  unfold shL rotF
  repeat' split
  all_goals first|omega|rfl|(congr 1;omega)
 |k+1,h,x=>by
  have ih:=zm4 (m:=m) (d:=d) hm (k:=k) (by omega);unfold shL;rw[zkx _ (by rw[zdg];omega) (by rw[zdg];omega),ih,ih,ih];unfold rotF
  repeat' split
  all_goals first|omega|rfl|(congr 1;omega)
theorem zkw {a b:Nat}{d:Array α}(hb:b≤d.size): ∀{k:Nat},a+k<b→Sort.PermIn a b d (shR a k d)
 |0,_=>Sort.permIn_refl d a b
 |k+1,h=>by
  unfold shR;exact Sort.permIn_trans _ _ _ a b (zkw hb (by omega)) (Sort.swp_permIn _ a b _ _ (by omega) (by omega) (by omega) (by omega) (by rw[zdh];exact hb))
theorem zkv {a m b:Nat}{d:Array α}(hb:b≤d.size)(hm:m<b): ∀{k:Nat},a+k≤m→Sort.PermIn a b d (shL m k d)
 |0,_=>Sort.permIn_refl d a b
 |k+1,h=>by
  unfold shL;exact Sort.permIn_trans _ _ _ a b (zkv hb hm (by omega)) (Sort.swp_permIn _ a b _ _ (by omega) (by omega) (by omega) (by omega) (by rw[zdg];exact hb))
theorem zp9 {R:Type}{B:Int×List α→Option (Ctl (Int×List α) R)}{a n fuel:Nat}{d:Array α}(hf:n<fuel)
 (hB: ∀(i:Nat) (d':Array α),d'.size=d.size→i≤n→B (((a+i:Nat):Int),d'.toList)=if i<n then some (.next (((a+i+1:Nat):Int),(Sort.swp d' (a+i) (a+i+1)).toList))else some (.brk (((a+i:Nat):Int),d'.toList))):
 ∃x:Int,loopN B fuel ((a:Int),d.toList)=some (.done (x,(shR a n d).toList)):=by
 have key: ∀k i fuel,i+k=n→k<fuel→ ∃x:Int,loopN B fuel (((a+i:Nat):Int),(shR a i d).toList)=some (.done (x,(shR a n d).toList)):=by
  intro k;induction k with
  |zero=>
   intro i fuel hi hf;cases fuel with
   |zero=>omega
   |succ fuel=>
    have h:=hB i (shR a i d) (zdh ..) (by omega);rw[if_neg (by omega)]at h;rw[z5s h,show i=n by omega];exact⟨_,rfl⟩
  |succ k ih=>
   intro i fuel hi hf;cases fuel with
   |zero=>omega
   |succ fuel=>
    have h:=hB i (shR a i d) (zdh ..) (by omega);rw[if_pos (by omega)]at h;rw[z5j h];exact ih (i+1) fuel (by omega) (by omega)
 exact key n 0 fuel (by omega) hf
theorem zp8 {R:Type}{B:Int×List α→Option (Ctl (Int×List α) R)}{m n fuel:Nat}{d:Array α}(hn:n≤m)(hf:n<fuel)
 (hB: ∀(i:Nat) (d':Array α),d'.size=d.size→i≤n→B (((m-i:Nat):Int),d'.toList)=if i<n then some (.next (((m-i-1:Nat):Int),(Sort.swp d' (m-i) (m-i-1)).toList))else some (.brk (((m-i:Nat):Int),d'.toList))):
 ∃x:Int,loopN B fuel ((m:Int),d.toList)=some (.done (x,(shL m n d).toList)):=by
 have key: ∀k i fuel,i+k=n→k<fuel→ ∃x:Int,loopN B fuel (((m-i:Nat):Int),(shL m i d).toList)=some (.done (x,(shL m n d).toList)):=by
  intro k;induction k with
  |zero=>
   intro i fuel hi hf;cases fuel with
   |zero=>omega
   |succ fuel=>
    have h:=hB i (shL m i d) (zdg ..) (by omega);rw[if_neg (by omega)]at h;rw[z5s h,show i=n by omega];exact⟨_,rfl⟩
  |succ k ih=>
   intro i fuel hi hf;cases fuel with
   |zero=>omega
   |succ fuel=>
    have h:=hB i (shL m i d) (zdg ..) (by omega);rw[if_pos (by omega)]at h;rw[z5j h];have:=ih (i+1) fuel (by omega) (by omega)
    rwa[show m-(i+1)=m-i-1 by omega]at this
 exact key n 0 fuel (by omega) hf
omit [Inhabited α]in
theorem zo9 (h:IsCmp c):Sort.SWO (ltC c) where
 irrefl x:=by unfold ltC;rw[h.refl];rfl
 trans x y z h1 h2:=by
  unfold ltC at*;simp only[decide_eq_true_eq]at*;exact h.lt_tr h1 (by omega)
 ntrans x y z h1 h2:=by
  unfold ltC at*;simp only[decide_eq_false_iff_not,Int.not_lt]at*;have a1:=h.anti x y;have a2:=h.anti y z;have a3:=h.anti x z
  by_cases g:0≤c x z
  ·exact g
  ·exfalso;have:=h.lt_tr (a:=x) (b:=z) (d:=y) (by omega) (by omega)
   omega
end
end Go.Av
namespace Go.Av
open Go
section
variable {α:Type} [Inhabited α] {cmp:α→α→Option Int} {c:α→α→Int}
theorem zox {lt:α→α→Bool}(hS:Sort.SWO lt){a b r:Nat}{d:Array α}(hr:a+1≤r∧r≤b)(hb:b≤d.size)(h2:Sort.SortedIn lt (a+1) b d)
 (hA:r=a+1∨lt d[r-1]! d[a]! =true) (hB:r=b∨lt d[r]! d[a]! =false):MergeTo lt a b d (shR a (r-(a+1)) d):=by
 have hg: ∀x,(shR a (r-(a+1)) d)[x]! =rotF a (a+1) r d x:=fun x=>by
  rw[zm5 (by omega),show a+1+(r-(a+1))=r by omega]
 obtain⟨h3,_,h5,h6,h7⟩:=zfr hS (d':=shR a (r-(a+1)) d) (a:=a) (m:=a+1) (b:=b) (s:=a) (e:=r) (z8k (by omega)) h2 ⟨by omega,by omega⟩ hr hg (.inl rfl) (.inr hA);refine⟨zkw hb (by omega),glue2 (mid:=a+(r-(a+1))) h5 (glue2 (mid:=r) h6 h7 ?_) h3⟩;intro x y g1 g2 g3 g4;rw[hg,hg,show x=r-1 by omega];unfold rotF;rw[if_neg (by omega),if_neg (by omega),if_neg (by omega),if_pos (by omega)];rw[show r-1-(a+(r-(a+1)))+a=a by omega];rcases hB with h|h
 ·omega
 ·by_cases e:y=r
  ·subst e;exact h
  ·exact hS.ntrans _ _ _ (h2 r y (by omega) (by omega) g4) h
theorem      zow {lt : α → α → Bool} (hS : Sort.SWO lt) {a m r : Nat} {d : Array α} (hr : a ≤ r ∧ r ≤ m) (hb : m + 1 ≤ d.size) (h1 : Sort.SortedIn lt a m d)
    (hA : r = a ∨ lt d[m]! d[r - 1]! = false) (hB : r = m ∨ lt d[m]! d[r]! = true) : MergeTo lt a (m + 1) d (shL m (m - r) d) := by
  have hg : ∀ x, (shL m (m - r) d)[x]! = rotF r m (m + 1) d x := fun x => by
    rw [    zm4 (by omega) (by omega), show m - (m - r) = r by omega]
  obtain ⟨h3, h4, h5, h6, h7⟩ :=       zfr hS (d' := shL m (m - r) d) (a := a) (m := m) (b := m + 1) (s := r) (e := m + 1) h1 (         z8k (by omega)) hr ⟨by omega, by omega⟩ hg (.inr (.inl rfl))
    (by rcases hB with h | h
        · exact .inl h
        · exact .inr (.inr (by rw [Nat.add_sub_cancel]; exact h)))
  refine ⟨     zkv hb (by omega) (by omega), glue2 (mid := r + (m + 1 - m)) (glue2 (mid := r) h4 h5 ?_) h6 h3⟩
  intro x y g1 g2 g3 g4
  rw [hg, hg, show y = r by omega]
  unfold rotF
  rw [if_pos (by omega), if_neg (by omega), if_neg (by omega)]
  rw [show r - r + m = m by omega]
  rcases hA with h | h
  · omega
  · by_cases e : x = r - 1
    · subst e; exact h
    · exact hS.ntrans _ _ _ h (h1 x (r - 1) g1 (by omega) (by omega))
theorem za1 {S R Q:Type}{G:Option Q→Prop}{P:S→Prop}{o:Option (Out S R)}{kn:S→Option Q}{kr:R→Option Q}(h: ∃s,o=some (.done s)∧P s)(hk: ∀s,P s→G (kn s)):G (outK o kn kr):=by
 obtain⟨s,h,hp⟩:=h;rw[h];exact hk s hp
theorem bs_ex {R:Type}{B:Int×Int→Option (Ctl (Int×Int) R)}{P:Nat→Bool}{Q:Int×Int→Prop}{i0 j0 fuel:Nat}(hf:j0-i0<fuel)(hij:i0≤j0)
 (hQ: ∀r:Nat,i0≤r→r≤j0→(r=i0∨P (r-1)=true)→(r=j0∨P r=false)→Q ((r:Int),(r:Int)))
 (hB: ∀i j:Nat,i0≤i→i≤j→j≤j0→B ((i:Int),(j:Int))=if i<j then(if P ((i+j) / 2)=true then some (.next ((((i+j) / 2+1:Nat):Int),(j:Int)))else some (.next ((i:Int),(((i+j) / 2:Nat):Int))))else some (.brk ((i:Int),(j:Int)))):
 ∃s,loopN B fuel ((i0:Int),(j0:Int))=some (.done s)∧Q s:=by
 obtain⟨r,g1,g2,g3,g4,g5⟩:=zlt (P:=P) (j0-i0) i0 j0 fuel (zzc _) hf (zzc _) hij (zzc _) (.inl rfl) (.inl rfl) hB;exact⟨_,g1,hQ r g2 g3 g4 g5⟩
theorem jn_P {A Q:Type}{G:Option Q→Prop}{P:A→Prop}{K:A→Option Q}{f:(A→Option Q)→Option Q}(hK: ∀a,P a→G (K a))(hf: ∃a,P a∧f K=K a):G (jn K f):=by
 obtain⟨a,h1,h2⟩:=hf;rw[jn_eq,h2];exact hK a h1
theorem zg8 (hc: ∀x y,cmp x y=some (c x y))(hC:IsCmp c): ∀(fuel a m b:Nat) (d:Array α),a<m→m<b→b≤d.size→d.size<1152921504606846976→d.size+(b-a)<fuel→
 Sort.SortedIn (ltC c) a m d→Sort.SortedIn (ltC c) m b d→ ∃d':Array α,symG cmp fuel (a:Int) (m:Int) (b:Int) d.toList=some d'.toList∧MergeTo (ltC c) a b d d'
 |0,a,m,b,d,_,_,_,_,hf,_,_=>by omega
 |fuel+1,a,m,b,d,ham,hmb,hb,hd,hf,h1,h2=>by
  have hS:=zo9 hC;unfold symG;simp only[z0i];rw[wsub (by omega) (by omega),wsub (by omega) (by omega)];by_cases c1:m-a=1
  ·rw[if_pos (by omega)];have hm:m=a+1:=by omega
   subst hm;refine za1 (G:=fun q=> ∃d':Array α,q=some d'.toList∧MergeTo (ltC c) a b d d') (P:=fun s=> ∃r:Nat,s=((r:Int),(r:Int))∧a+1≤r∧r≤b∧(r=a+1∨ltC c d[r-1]! d[a]! =true)∧(r=b∨ltC c d[r]! d[a]! =false)) ?_ ?_
   ·refine bs_ex (P:=fun h=>ltC c d[h]! d[a]!) (by omega) (by omega) (fun r g2 g3 g4 g5=>⟨r,rfl,g2,g3,g4,g5⟩) ?_;intro i j hi hij hj;simp only[z0i,intlt];rw[zd9 (by omega)];by_cases h:i<j
    ·rw[if_pos h,if_pos h];simp(disch:=omega) only[z0b,wadd1,zzh,zza,zzn,hc,zz0,z8p];unfold ltC;by_cases g:c d[(i+j) / 2]! d[a]! <0<;>simp[g]
    ·rw[if_neg h,if_neg h]
   ·rintro s ⟨r,rfl,g2,g3,g4,g5⟩;simp only;rw[wsub1 (by omega) (by omega)];refine⟨shR a (r-(a+1)) d,zdf (zp9 (a:=a) (n:=r-(a+1)) (by omega) ?_) (fun x=>rfl),zox hS ⟨g2,g3⟩ hb h2 g4 g5⟩;intro i d' hs hi;simp only[z0i,intlt];by_cases h:i<r-(a+1)
    ·rw[if_pos (by omega),if_pos h];simp(disch:=omega) only[z0b,wadd1,zzh,zza,zzn,zze,z8p,zg1]
    ·rw[if_neg (by omega),if_neg h]
  ·rw[if_neg (by omega)];by_cases c2:b-m=1
   ·rw[if_pos (by omega)];have hbm:b=m+1:=by omega
    subst hbm;refine za1 (G:=fun q=> ∃d':Array α,q=some d'.toList∧MergeTo (ltC c) a (m+1) d d') (P:=fun s=> ∃r:Nat,s=((r:Int),(r:Int))∧a≤r∧r≤m∧(r=a∨ltC c d[m]! d[r-1]! =false)∧(r=m∨ltC c d[m]! d[r]! =true)) ?_ ?_
    ·refine bs_ex (P:=fun h=> !ltC c d[m]! d[h]!) (by omega) (by omega) (fun r g2 g3 g4 g5=>⟨r,rfl,g2,g3,by simpa using g4,by simpa using g5⟩) ?_;intro i j hi hij hj;simp only[z0i,z42,intlt];rw[zd9 (by omega)];by_cases h:i<j
     ·rw[if_pos h,if_pos h];simp(disch:=omega) only[z0b,wadd1,zzh,zza,zzn,hc,zz0,z8p];unfold ltC;by_cases g:c d[m]! d[(i+j) / 2]! <0<;>simp[g]
     ·rw[if_neg h,if_neg h]
    ·rintro s ⟨r,rfl,g2,g3,g4,g5⟩;simp only;refine⟨shL m (m-r) d,zdf (zp8 (m:=m) (n:=m-r) (by omega) (by omega) ?_) (fun x=>rfl),zow hS ⟨g2,g3⟩ hb h1 g4 g5⟩;intro i d' hs hi;simp only[z0i,intlt];by_cases h:i<m-r
     ·rw[if_pos (by omega),if_pos h];simp(disch:=omega) only[z0b,wsub1,zzh,zza,zzn,zze,z8p,zg1]
     ·rw[if_neg (by omega),if_neg h]
   ·rw[if_neg (by omega)];rw[zd9 (by omega),wadd (by omega)]
    let G:Option (List α)→Prop:=fun q=> ∃d':Array α,q=some d'.toList∧MergeTo (ltC c) a b d d'
    refine jn_P (G:=G) (P:=fun x=> ∃st r0:Nat,x=((((a+b) / 2:Nat):Int),(((a+b) / 2+m:Nat):Int),(st:Int),(r0:Int))∧a≤st∧st≤r0∧r0≤m∧r0≤(a+b) / 2+m-m∧(st=a∨(a+b) / 2+m-st=b)∧(a+b) / 2+m-st≤b∧(r0=m∨r0=(a+b) / 2)) ?_ ?_
    ·rintro _ ⟨st,r0,rfl,k1,k2,k3,k4,k5,k6,k7⟩;refine za1 (G:=G) (P:=fun s=> ∃r:Nat,s=((r:Int),(r:Int))∧st≤r∧r≤r0∧(r=st∨ltC c d[(a+b) / 2+m-r]! d[r-1]! =false)∧(r=r0∨ltC c d[(a+b) / 2+m-r-1]! d[r]! =true)) ?_ ?_
     ·refine bs_ex (P:=fun h=> !ltC c d[(a+b) / 2+m-1-h]! d[h]!) (by omega) (by omega) (fun r g2 g3 g4 g5=>⟨r,rfl,g2,g3,?_,?_⟩) ?_
      ·rcases g4 with g4|g4
       ·exact .inl g4
       ·by_cases e:r=st
        ·exact .inl e
        ·right;rw[show(a+b) / 2+m-1-(r-1)=(a+b) / 2+m-r by omega]at g4
         simpa using g4
      ·rcases g5 with g5|g5
       ·exact .inl g5
       ·right;rw[show(a+b) / 2+m-1-r=(a+b) / 2+m-r-1 by omega]at g5
        simpa using g5
      ·intro i j hi hij hj;simp only[z0i,z42,intlt];rw[zd9 (by omega),wsub1 (by omega) (by omega)];by_cases h:i<j
       ·rw[if_pos h,if_pos h,wsub (by omega) (by omega)];simp(disch:=omega) only[z0b,wadd1,zzh,zza,zzn,hc,zz0,z8p];unfold ltC;by_cases g:c d[(a+b) / 2+m-1-(i+j) / 2]! d[(i+j) / 2]! <0<;>simp[g]
       ·rw[if_neg h,if_neg h]
     ·rintro s ⟨r,rfl,g2,g3,g4,g5⟩;simp only;rw[wsub (by omega) (by omega)];have hmid:r+((a+b) / 2+m-r-m)=(a+b) / 2:=by omega
      refine jn_P (G:=G) (P:=fun x=> ∃d1:Array α,x=((((a+b) / 2+m-r:Nat):Int),d1.toList)∧Sort.PermIn a b d d1∧ ∀x,d1[x]! =rotF r m ((a+b) / 2+m-r) d x) ?_ ?_
      ·rintro _ ⟨d1,rfl,p1,p2⟩;obtain⟨q1,q2,q3,q4,q5⟩:=zfr hS h1 h2 ⟨by omega,by omega⟩ ⟨by omega,by omega⟩ p2 (by
        rcases g4 with g|g
        ·rcases k5 with k|k
         ·exact .inl (by omega)
         ·exact .inr (.inl (by omega))
        ·exact .inr (.inr g)) (by
        rcases g5 with g|g
        ·rcases k7 with k|k
         ·exact .inl (by omega)
         ·exact .inr (.inl (by omega))
        ·exact .inr (.inr g))
       rw[hmid]at q1 q3 q4;have s1:d1.size=d.size:=p1.1
       refine jn_P (G:=G) (P:=fun x=> ∃d2:Array α,x=d2.toList∧MergeTo (ltC c) a ((a+b) / 2) d1 d2) ?_ ?_
       ·rintro _ ⟨d2,rfl,m1⟩;have s2:d2.size=d1.size:=m1.perm.1
        have e1:Sort.SortedIn (ltC c) ((a+b) / 2) ((a+b) / 2+m-r) d2:=fun i j h1 h2 h3=>by
         rw[m1.perm.2.1 i (.inr (by omega)),m1.perm.2.1 j (.inr (by omega))];exact q4 i j h1 h2 h3
        have e2:Sort.SortedIn (ltC c) ((a+b) / 2+m-r) b d2:=fun i j h1 h2 h3=>by
         rw[m1.perm.2.1 i (.inr (by omega)),m1.perm.2.1 j (.inr (by omega))];exact q5 i j h1 h2 h3
        have fin: ∀d3:Array α,MergeTo (ltC c) ((a+b) / 2) b d2 d3→MergeTo (ltC c) a b d d3:=fun d3 m3=>zkf hS ⟨by omega,by omega⟩ hb p1 q1 m1 m3;simp only[jn_eq,z0i,intlt];by_cases w1:(a+b) / 2<(a+b) / 2+m-r
        ·by_cases w2:(a+b) / 2+m-r<b
         ·rw[if_pos w1,if_pos w2];obtain⟨d3,t1,t2⟩:=zg8 hc hC fuel ((a+b) / 2) ((a+b) / 2+m-r) b d2 w1 w2 (by omega) (by omega) (by omega) e1 e2;rw[t1];exact⟨d3,rfl,fin d3 t2⟩
         ·rw[if_pos w1,if_neg w2];rw[show(a+b) / 2+m-r=b by omega]at e1;exact⟨d2,rfl,fin d2 (zbc e1)⟩
        ·rw[if_neg w1,z2x];rw[show(a+b) / 2+m-r=(a+b) / 2 by omega]at e2;exact⟨d2,rfl,fin d2 (zbc e2)⟩
       ·simp only[jn_eq,z0i,intlt];by_cases w1:a<r
        ·by_cases w2:r<(a+b) / 2
         ·rw[if_pos w1,if_pos w2];obtain⟨d3,t1,t2⟩:=zg8 hc hC fuel a r ((a+b) / 2) d1 w1 w2 (by omega) (by omega) (by omega) q2 q3;refine⟨_,⟨d3,rfl,t2⟩,?_⟩;rw[t1];simp only[zz0];rw[z0b (by have:=t2.perm.1;simp only[zzn];omega)]
         ·rw[if_pos w1,if_neg w2];rw[show r=(a+b) / 2 by omega]at q2;exact⟨_,⟨d1,rfl,zbc q2⟩,rfl⟩
        ·rw[if_neg w1,z2x];rw[show r=a by omega]at q3;exact⟨_,⟨d1,rfl,zbc q3⟩,rfl⟩
      ·simp only[jn_eq,z0i,intlt];by_cases w1:r<m
       ·by_cases w2:m<(a+b) / 2+m-r
        ·obtain⟨d1,t1,t2⟩:=zq5 (fuel:=fuel) (s:=r) (m:=m) (e:=(a+b) / 2+m-r) (d:=d) w1 w2 (by omega) (by omega) (by omega);refine⟨_,⟨d1,rfl,Sort.permIn_mono _ _ _ _ a b (by omega) (by omega) hb t2.perm,t2.get⟩,?_⟩;rw[if_pos w1,if_pos w2,t1,zz0];rw[z0b (by have:=t2.perm.1;simp only[zzn];omega)];simp only[intlt]
        ·rw[if_pos w1,if_neg w2];refine⟨_,⟨d,rfl,Sort.permIn_refl d a b,fun x=>?_⟩,by simp only[intlt]⟩;unfold rotF
         repeat' split
         all_goals first|omega|rfl|(congr 1;omega)
       ·rw[if_neg w1,z2x];refine⟨_,⟨d,rfl,Sort.permIn_refl d a b,fun x=>?_⟩,by simp only[intlt]⟩;unfold rotF
        repeat' split
        all_goals first|omega|rfl|(congr 1;omega)
    ·simp only[z0i,intlt];by_cases w:(a+b) / 2<m
     ·rw[if_pos w,wsub (by omega) (by omega)];exact⟨_,⟨(a+b) / 2+m-b,(a+b) / 2,rfl,by omega,by omega,by omega,by omega,by omega,by omega,.inr rfl⟩,rfl⟩
     ·rw[if_neg w];exact⟨_,⟨a,m,rfl,by omega,by omega,by omega,by omega,.inl rfl,by omega,.inl rfl⟩,rfl⟩
end
end Go.Av
namespace Go.Av
open Go
section
variable {α:Type} [Inhabited α] {cmp:α→α→Option Int} {c:α→α→Int}
theorem zbb {S R:Type}{B:S→Option (Ctl S R)}(I:Nat→S→Prop)(Dn:S→Prop){n fuel:Nat}{s:S}(hf:n<fuel)(h0:I 0 s)
 (h: ∀i s,I i s→(∃s',B s=some (.next s')∧I (i+1) s'∧i<n)∨(∃s',B s=some (.brk s')∧Dn s')): ∃s',loopN B fuel s=some (.done s')∧Dn s':=by
 have key: ∀k i s fuel,i+k=n→k<fuel→I i s→ ∃s',loopN B fuel s=some (.done s')∧Dn s':=by
  intro k;induction k with
  |zero=>
   intro i s fuel hi hf hI;cases fuel with
   |zero=>omega
   |succ fuel=>
    rcases h i s hI with⟨s',_,_,g⟩|⟨s',g1,g2⟩
    ·omega
    ·exact⟨s',z5s g1,g2⟩
  |succ k ih=>
   intro i s fuel hi hf hI;cases fuel with
   |zero=>omega
   |succ fuel=>
    rcases h i s hI with⟨s',g1,g2,g⟩|⟨s',g1,g2⟩
    ·rw[z5j g1];exact ih (i+1) s' fuel (by omega) (by omega) g2
    ·exact⟨s',z5s g1,g2⟩
 exact key n 0 s fuel (by omega) hf h0
theorem za2 {lt:α→α→Bool}{a b x y:Nat}{d d':Array α}(h:Sort.SortedIn lt x y d)(hp:Sort.PermIn a b d d')(ho:y≤a∨b≤x):Sort.SortedIn lt x y d':=fun i j h1 h2 h3=>by
 rw[hp.2.1 i (by omega),hp.2.1 j (by omega)];exact h i j h1 h2 h3
theorem zaj {i j k:Nat}(h:i<j):i*k+k≤j*k:=by
 have:=Nat.mul_le_mul_right k (show i+1≤j by omega);rw[Nat.add_mul,Nat.one_mul]at this;exact this
theorem zpd (hc: ∀x y,cmp x y=some (c x y))(hC:IsCmp c){fuel:Nat}{d:Array α}(hd:d.size<1152921504606846)(hf:4*d.size+100<fuel):
 ∃d':Array α,stabG cmp fuel (d.size:Int) d.toList=some d'.toList∧Sort.PermIn 0 d.size d d'∧Sort.SortedIn (ltC c) 0 d.size d':=by
 have hS:=zo9 hC;generalize hn:d.size=n at*
 let G:Option (List α)→Prop:=fun q=> ∃d':Array α,q=some d'.toList∧Sort.PermIn 0 n d d'∧Sort.SortedIn (ltC c) 0 n d'
 unfold stabG;refine za1 (G:=G) (P:=fun s=> ∃(i:Nat) (d1:Array α),s=(((i*20:Nat):Int),((i*20+20:Nat):Int),d1.toList)∧i*20≤n∧n<i*20+20∧Sort.PermIn 0 n d d1∧ ∀j,j<i→Sort.SortedIn (ltC c) (j*20) (j*20+20) d1) ?_ ?_
 ·refine zbb (I:=fun i s=> ∃d1:Array α,s=(((i*20:Nat):Int),((i*20+20:Nat):Int),d1.toList)∧i*20≤n∧Sort.PermIn 0 n d d1∧ ∀j,j<i→Sort.SortedIn (ltC c) (j*20) (j*20+20) d1) (n:=n) _ (by omega) ⟨d,by rfl,by omega,Sort.permIn_refl d 0 n,fun j hj=>by omega⟩ ?_;rintro i _ ⟨d1,rfl,k1,k2,k3⟩;have s1:d1.size=n:=k2.1.trans hn
  simp only[z0i,intle];by_cases h:i*20+20≤n
  ·left;obtain⟨p1,p2⟩:=Sort.insertionSort_holds hS d1 (i*20) (i*20+20) (by omega) (by omega);refine⟨_,?_,⟨Sort.insertionSort (ltC c) d1 (i*20) (i*20+20),rfl,by omega,Sort.permIn_trans _ _ _ 0 n k2 (Sort.permIn_mono _ _ _ _ 0 n (by omega) (by omega) (by omega) p1),?_⟩,by omega⟩
   ·rw[if_pos h,zlx hc (by omega) (by omega) (by omega) (by omega)];simp only[zz0];rw[z0b (by have:=p1.1;simp only[zzn];omega),show(20:Int)=((20:Nat):Int)from rfl,wadd (by omega)];rw[show(i+1)*20=i*20+20 by omega]
   ·intro j hj;by_cases e:j=i
    ·subst e;exact p2
    ·exact za2 (k3 j (by omega)) p1 (by have:=zaj (k:=20) (show j<i by omega);omega)
  ·right;rw[if_neg h];exact⟨_,rfl,i,d1,rfl,k1,by omega,k2,k3⟩
 ·rintro _ ⟨i,d1,rfl,k1,k2,k3,k4⟩;have s1:d1.size=n:=k3.1.trans hn
  simp only;obtain⟨p1,p2⟩:=Sort.insertionSort_holds hS d1 (i*20) n (by omega) (by omega);rw[zlx hc (by omega) (by omega) (by omega) (by omega)];simp only[zz0];rw[z0b (by have:=p1.1;simp only[zzn];omega)];generalize hd2:Sort.insertionSort (ltC c) d1 (i*20) n=d2 at p1 p2;have q1:Sort.PermIn 0 n d d2:=Sort.permIn_trans _ _ _ 0 n k3 (Sort.permIn_mono _ _ _ _ 0 n (by omega) (by omega) (by omega) p1)
  have q2: ∀j,Sort.SortedIn (ltC c) (j*20) (min (j*20+20) n) d2:=fun j=>by
   by_cases e:j<i
   ·have:=zaj (k:=20) e;rw[show min (j*20+20) n=j*20+20 by omega];exact za2 (k4 j e) p1 (by omega)
   ·by_cases e2:j=i
    ·subst e2;rw[show min (j*20+20) n=n by omega];exact p2
    ·exact z8k (by omega)
  refine za1 (G:=G) (P:=fun s=> ∃(x:Int) (d3:Array α),s=(x,d3.toList)∧Sort.PermIn 0 n d d3∧Sort.SortedIn (ltC c) 0 n d3) ?_ ?_
  ·refine zbb (I:=fun r s=> ∃(k:Nat) (d3:Array α),s=((k:Int),d3.toList)∧r+20≤k∧k≤2*n+20∧Sort.PermIn 0 n d d3∧ ∀j,Sort.SortedIn (ltC c) (j*k) (min (j*k+k) n) d3) (n:=n) _ (by omega) ⟨20,d2,by rfl,by omega,by omega,q1,q2⟩ ?_;rintro r _ ⟨k,d3,rfl,g1,g2,g3,g4⟩;have s3:d3.size=n:=g3.1.trans hn
   simp only[z0i,intlt];by_cases h:k<n
   ·left;rw[if_pos h]
    let G2:Option (Ctl (Int×List α) Empty)→Prop:=fun q=> ∃s',q=some (.next s')∧(∃(k:Nat) (d3:Array α),s'=((k:Int),d3.toList)∧r+1+20≤k∧k≤2*n+20∧Sort.PermIn 0 n d d3∧ ∀j,Sort.SortedIn (ltC c) (j*k) (min (j*k+k) n) d3)∧r<n
    refine za1 (G:=G2) (P:=fun s=> ∃(i:Nat) (d4:Array α),s=(((i*(2*k):Nat):Int),((i*(2*k)+2*k:Nat):Int),d4.toList)∧i*(2*k)≤n∧n<i*(2*k)+2*k∧Sort.PermIn 0 n d d4∧(∀j,j<i→Sort.SortedIn (ltC c) (j*(2*k)) (j*(2*k)+2*k) d4)∧ ∀j,i*(2*k)≤j*k→Sort.SortedIn (ltC c) (j*k) (min (j*k+k) n) d4) ?_ ?_
    ·rw[wtwo (by omega)];refine zbb (I:=fun i s=> ∃d4:Array α,s=(((i*(2*k):Nat):Int),((i*(2*k)+2*k:Nat):Int),d4.toList)∧i*(2*k)≤n∧i≤i*(2*k)∧Sort.PermIn 0 n d d4∧(∀j,j<i→Sort.SortedIn (ltC c) (j*(2*k)) (j*(2*k)+2*k) d4)∧ ∀j,i*(2*k)≤j*k→Sort.SortedIn (ltC c) (j*k) (min (j*k+k) n) d4) (n:=n) _ (by omega) ⟨d3,by simp,by omega,by omega,g3,fun j hj=>by omega,fun j _=>g4 j⟩ ?_;rintro i _ ⟨d4,rfl,f1,f0,f2,f3,f4⟩;have s4:d4.size=n:=f2.1.trans hn
     have e1:(2*i)*k=i*(2*k):=by rw[Nat.mul_comm 2 i,Nat.mul_assoc]
     have e2:(2*i+1)*k=i*(2*k)+k:=by rw[Nat.add_mul,Nat.one_mul,e1]
     have e3:(i+1)*(2*k)=i*(2*k)+2*k:=by rw[Nat.add_mul,Nat.one_mul]
     have t1:=f4 (2*i) (by omega);have t2:=f4 (2*i+1) (by omega)
     rw[e1]at t1;rw[e2]at t2;generalize hp:i*(2*k)=p at*;simp only[z0i,intle];by_cases h2:p+2*k≤n
     ·left;rw[if_pos h2,wadd (by omega)];rw[show min (p+k) n=p+k by omega]at t1;rw[show min (p+k+k) n=p+2*k by omega]at t2;obtain⟨d5,u1,u2⟩:=zg8 hc hC fuel p (p+k) (p+2*k) d4 (by omega) (by omega) (by omega) (by omega) (by omega) t1 t2;refine⟨_,?_,⟨d5,rfl,by omega,by omega,Sort.permIn_trans _ _ _ 0 n f2 (Sort.permIn_mono _ _ _ _ 0 n (by omega) (by omega) (by omega) u2.perm),?_,?_⟩,by omega⟩
      ·rw[u1];simp only[zz0];rw[z0b (by have:=u2.perm.1;simp only[zzn];omega),wadd (by omega),e3]
      ·intro j hj;by_cases e:j=i
       ·subst e;rw[hp];exact u2.sorted
       ·have:=zaj (k:=2*k) (show j<i by omega);exact za2 (f3 j (by omega)) u2.perm (.inl (by omega))
      ·intro j hj;exact za2 (f4 j (by omega)) u2.perm (.inr (by omega))
     ·right;rw[if_neg h2];exact⟨_,rfl,i,d4,by rw[hp],by omega,by omega,f2,f3,by rw[hp];exact f4⟩
    ·rintro _ ⟨i,d4,rfl,f1,f1',f2,f3,f4⟩;have s4:d4.size=n:=f2.1.trans hn
     have e1:(2*i)*k=i*(2*k):=by rw[Nat.mul_comm 2 i,Nat.mul_assoc]
     have e2:(2*i+1)*k=i*(2*k)+k:=by rw[Nat.add_mul,Nat.one_mul,e1]
     have t1:=f4 (2*i) (by omega);have t2:=f4 (2*i+1) (by omega)
     rw[e1]at t1;rw[e2]at t2;have e4: ∀j,i<j→n≤j*(2*k):=fun j hj=>by have:=zaj (k:=2*k) hj;omega
     generalize hp:i*(2*k)=p at*;simp only;refine jn_P (G:=G2) (P:=fun l=> ∃d5:Array α,l=d5.toList∧Sort.PermIn 0 n d d5∧ ∀j,Sort.SortedIn (ltC c) (j*(2*k)) (min (j*(2*k)+2*k) n) d5) ?_ ?_
     ·rintro _ ⟨d5,rfl,u1,u2⟩;refine⟨_,rfl,⟨2*k,d5,?_,by omega,by omega,u1,u2⟩,by omega⟩;rw[show(k:Int)*2=2*(k:Int)by omega,wtwo (by omega)]
     ·simp only[z0i];rw[wadd (by omega)];simp only[intlt];by_cases h2:p+k<n
      ·rw[if_pos h2];rw[show min (p+k) n=p+k by omega]at t1;rw[show min (p+k+k) n=n by omega]at t2;obtain⟨d5,u1,u2⟩:=zg8 hc hC fuel p (p+k) n d4 (by omega) (by omega) (by omega) (by omega) (by omega) t1 t2;refine⟨_,⟨d5,rfl,Sort.permIn_trans _ _ _ 0 n f2 (Sort.permIn_mono _ _ _ _ 0 n (by omega) (by omega) (by omega) u2.perm),fun j=>?_⟩,?_⟩
       ·by_cases e:j<i
        ·have:=zaj (k:=2*k) e;rw[show min (j*(2*k)+2*k) n=j*(2*k)+2*k by omega];exact za2 (f3 j e) u2.perm (.inl (by omega))
        ·by_cases e5:j=i
         ·subst e5;rw[hp,show min (p+2*k) n=n by omega];exact u2.sorted
         ·have:=e4 j (by omega);exact z8k (by omega)
       ·rw[u1];simp only[zz0];rw[z0b (by have:=u2.perm.1;simp only[zzn];omega)]
      ·rw[if_neg h2];refine⟨_,⟨d4,rfl,f2,fun j=>?_⟩,rfl⟩;by_cases e:j<i
       ·have:=zaj (k:=2*k) e;rw[show min (j*(2*k)+2*k) n=j*(2*k)+2*k by omega];exact f3 j e
       ·by_cases e5:j=i
        ·subst e5;rw[hp,show min (p+2*k) n=n by omega];rw[show min (p+k) n=n by omega]at t1;exact t1
        ·have:=e4 j (by omega);exact z8k (by omega)
   ·right;rw[if_neg h];have:=g4 0
    rw[Nat.zero_mul,show min (0+k) n=n by omega]at this;exact⟨_,rfl,_,d3,rfl,g3,this⟩
  ·rintro _ ⟨x,d3,rfl,u1,u2⟩;exact⟨d3,rfl,u1,u2⟩
theorem zbi (hc: ∀x y,cmp x y=some (c x y))(hC:IsCmp c){fuel:Nat}{l:List α}(hd:l.length<1152921504606846)(hf:4*l.length+100<fuel):
 ∃r:List α,stabG cmp fuel (l.length:Int) l=some r∧r.Perm l∧ ∀i j,i<j→j<r.length→c (r.getD i zzd) (r.getD j zzd)≤0:=by
 obtain⟨d',h1,h2,h3⟩:=zpd hc hC (d:=l.toArray) (fuel:=fuel) (by simpa using hd) (by simpa using hf);have hs:d'.size=l.length:=by have:=h2.1;simpa using this
 refine⟨d'.toList,by simpa using h1,?_,fun i j hij hj=>?_⟩
 ·have:=h2.2.2;simp only[List.size_toArray]at this;rw[show d'.extract 0 l.length=d' by rw[←hs];simp,show l.toArray.extract 0 l.length=l.toArray by simp]at this;exact this
 ·rw[zzn]at hj;have:=h3 i j (by omega) hij (by simpa [hs]using hj)
  rw[z8p,z8p];unfold ltC at this;have a1:=hC.anti d'[i]! d'[j]!
  simp only[decide_eq_false_iff_not]at this;omega
end
end Go.Av
namespace Go.Av
open Go
def cmpV (a b:Value):Int:=if a.isText=b.isText then(if a.isText then cmpS a.s b.s else cmpZ a.n b.n)else(if a.isText then 1 else -1)
theorem z86:IsCmp cmpV where
 vals a b:=by
  unfold cmpV;split
  ·split
   ·exact zg3.vals _ _
   ·exact zad.vals _ _
  ·split<;>simp
 anti a b:=by
  unfold cmpV;cases a.isText<;>cases b.isText<;>simp
  ·exact zad.anti _ _
  ·exact zg3.anti _ _
 tr a b d:=by
  unfold cmpV;cases a.isText<;>cases b.isText<;>cases d.isText<;>simp
  ·exact zad.tr _ _ _
  ·exact zg3.tr _ _ _
theorem zo8 (a b:ByteArray):(strLt a b||strEq a b)=decide (cmpS a b≤0):=by
 rw[zjd,zjc,Bool.eq_iff_iff];simp;omega
theorem ziv (x y:Int):z75 x y=some (cmpZ x y):=by
 unfold z75 z83 cmpZ;simp only[decide_true,Bool.not_true,zz0,z2x,z0i];split<;>(try split)<;>rfl
theorem zla (x y:Int):z6i x y=some (cmpZ x y):=by
 unfold z6i z78 cmpZ;simp only[decide_true,Bool.not_true,zz0,z2x,z0i];split<;>(try split)<;>rfl
theorem zk0 (x y:ByteArray):z65 x y=some (cmpS x y):=by
 unfold z65 z6o;simp only[zmx,Bool.not_true,zz0,z2x];rw[zo8,zjd];simp only[z42,z0i];rcases zg3.vals x y with h|h|h<;>simp[h]
theorem zi9 (a b:Value):z84 a b=some (cmpV a b):=by
 unfold z84 za7 cmpV;simp only[ziv,zk0,zla,z42];cases a.isText<;>cases b.isText<;>simp[ziv,cmpZ]
theorem z6q (a b:List Value):z3q a b=some (cmpL cmpV a b):=by
 unfold z3q z0h;rw[zpm (c:=cmpV)]
 ·rfl
 ·intro i hi;simp only[zi9,zz0,z0i,z42,Int.ofNat_le];split
  ·rfl
  ·rw[z0b (by omega)]
 ·simp only[z0i,Int.ofNat_lt];split<;>rfl
def z5l (v:Value):Bool:=if v.isText then decide (v.n=0) && decide (v.s.size≤64)else strEq v.s (bs [])
def okRow (p:List Value):Bool:=decide (p.length≤8) && p.all z5l
theorem zp3 (v:Value):z95 v=some (z5l v):=by
 unfold z95 z5l;have e:((v.s.size:Int)≤64)↔v.s.size≤64:=by omega
 cases v.isText<;>by_cases h:v.n=0<;>simp[h,e]
theorem ze8 {S R X:Type}[Inhabited X]{B:Nat→S→Option (Ctl S R)}{l:List X}(P:X→Bool)(f:Nat→R){s:S}
 (hB: ∀i,i<l.length→B i s=if P (l.getD i zzd)then some (.ret (f i))else some (.next s)):
 (l.any P=false∧z0l B l.length 0 s=some (.done s))∨(l.any P=true∧ ∃i,i<l.length∧P (l.getD i zzd)=true∧z0l B l.length 0 s=some (.ret (f i))):=by
 have key: ∀k i,i+k=l.length→((l.drop i).any P=false∧z0l B k i s=some (.done s))∨((l.drop i).any P=true∧ ∃j,j<l.length∧P (l.getD j zzd)=true∧z0l B k i s=some (.ret (f j))):=by
  intro k;induction k with
  |zero=>intro i hi;left;rw[List.drop_eq_nil_of_le (by omega:l.length≤i)];exact⟨rfl,rfl⟩
  |succ k ih=>
   intro i hi;rw[z4p (by omega:i<l.length)];simp only[z0l,hB i (by omega),List.any_cons];by_cases h:P (l.getD i zzd)=true
   ·rw[if_pos h];right;exact⟨by rw[h];rfl,i,by omega,h,rfl⟩
   ·rw[if_neg h];have hf:P (l.getD i zzd)=false:=by simpa using h
    rw[hf,Bool.false_or];exact ih (i+1) (by omega)
 have:=key l.length 0 (by omega);rwa[List.drop_zero]at this
theorem zeh (p:List Value):(p.any fun v=> !z5l v)= !(p.all z5l):=by
 rw[List.any_eq_not_all_not];simp
theorem zb7 (p:List Value):z7n p=some (if okRow p then 0 else 4):=by
 unfold z7n z13 z17 z99 okRow;simp only[jn_eq,z0i,zp3,zz0];by_cases h:8<(p.length:Int)
 ·rw[if_pos h,decide_eq_false (by omega: ¬p.length≤8)];rfl
 ·rw[if_neg h,decide_eq_true (by omega:p.length≤8)];rcases ze8 (S:=Unit) (R:=Int) (l:=p) (fun v=> !z5l v) (fun i=>(i:Int)) (s:=()) (B:=fun i1 a2=>bf (!z5l (p.getD i1 zzd)) (some (.ret ((i1:Nat):Int))) (some (.next ()))) (fun i hi=>by
   cases z5l (p.getD i zzd)<;>rfl)with⟨h1,h2⟩|⟨h1,i,_,_,h2⟩
  ·rw[h2];rw[zeh]at h1;have:p.all z5l=true:=by simpa using h1
   simp[this]
  ·rw[h2];rw[zeh]at h1;have:p.all z5l=false:=by simpa using h1
   simp[this,Int.natCast_nonneg]
theorem zgj {a b:Value}:z9i a b=true↔a=b:=by
 rcases a with⟨t,n,s⟩;rcases b with⟨t',n',s'⟩;simp[z9i,zfy]
theorem zq6 (a b:List Value): ∃r,z3z a b=some r∧(r=true↔a=b):=by
 unfold z3z;by_cases hl:a.length=b.length
 ·rw[decide_eq_true (by omega:(a.length:Int)=(b.length:Int))];simp only[Bool.not_true,z2x];have key: ∀k i,i+k=a.length→ ∃r,outK (z0l (S:=Unit) (R:=Bool) (fun i1 (a2:Unit)=>need ((0:Int)≤((i1:Nat):Int)∧((i1:Nat):Int)<(b.length:Int))<|bf (!(z9i (a.getD i1 zzd) (b.getD i1 zzd))) (some (.ret false)) (some (.next ()))) k i ()) (fun(a3:Unit)=>some true) (fun x=>some x)=some r∧(r=true↔a.drop i=b.drop i):=by
   intro k;induction k with
   |zero=>
    intro i hi;refine⟨true,rfl,?_⟩;rw[List.drop_eq_nil_of_le (by omega:a.length≤i),List.drop_eq_nil_of_le (by omega:b.length≤i)];simp
   |succ k ih=>
    intro i hi;simp only[z0l];rw[z0b (by omega),z4p (by omega:i<a.length),z4p (by omega:i<b.length)];by_cases he:z9i (a.getD i zzd) (b.getD i zzd)=true
    ·rw[he];obtain⟨r,h1,h2⟩:=ih (i+1) (by omega);refine⟨r,h1,?_⟩;rw[h2,zgj.1 he];simp
    ·have he':z9i (a.getD i zzd) (b.getD i zzd)=false:=by simpa using he
     rw[he'];refine⟨false,rfl,?_⟩;simp only[Bool.false_eq_true,false_iff,List.cons.injEq,not_and];intro h;exact absurd (zgj.2 h) he
  obtain⟨r,h1,h2⟩:=key a.length 0 (by omega);exact⟨r,h1,by simpa using h2⟩
 ·rw[decide_eq_false (by omega: ¬(a.length:Int)=(b.length:Int))];exact⟨false,rfl,by simp;intro h;exact hl (by rw[h])⟩
theorem zo1 (a:List Value):z3z a a=some true:=by
 obtain⟨r,h1,h2⟩:=zq6 a a;rw[h1,h2.2 rfl]
theorem znb {a b:Value}(ha:z5l a=true)(hb:z5l b=true):cmpV a b=0↔a=b:=by
 rcases a with⟨t,n,s⟩;rcases b with⟨t',n',s'⟩;unfold cmpV z5l at*;cases t<;>cases t'<;>simp[zna,ziz,zfy]at*
 ·intro _;rw[ha,hb]
 ·intro h;omega
theorem zbq: ∀{a b:List Value},a.all z5l=true→b.all z5l=true→(cmpL cmpV a b=0↔a=b)
 |[],[],_,_=>by simp[cmpL]
 |[],_::_,_,_=>by simp[cmpL]
 |_::_,[],_,_=>by simp[cmpL]
 |x::a,y::b,ha,hb=>by
  simp only[List.all_cons,Bool.and_eq_true]at ha hb;have h1:=znb ha.1 hb.1
  have h2:=zbq ha.2 hb.2;simp only[cmpL,thenC];split
  ·rename_i h;rw[h2,h1.1 h];simp
  ·rename_i h
   constructor
   ·intro g;exact absurd g h
   ·intro g;exact absurd (h1.2 (List.cons.inj g).1) h
theorem z5t {p:List Value}(h:okRow p=true):p.all z5l=true∧p.length≤8:=by
 unfold okRow at h;simp only[Bool.and_eq_true,decide_eq_true_eq]at h;exact⟨h.2,h.1⟩
end Go.Av
namespace Go.Av
open Go
def z32 (t:Time):Prop:=0≤t.epoch∧0≤t.loop.1∧0≤t.loop.2
def lub2 (a x:Time):Time:=⟨if a.epoch<x.epoch then x.epoch else a.epoch,(if a.loop.1<x.loop.1 then x.loop.1 else a.loop.1,if a.loop.2<x.loop.2 then x.loop.2 else a.loop.2)⟩
def zeroT:Time:=⟨0,(0,0)⟩
def lubL (l:List Time):Time:=l.foldl lub2 zeroT
theorem max0 {a:Int}(h:0≤a):a=if 0<a then a else 0:=by
 by_cases h1:0<a
 ·rw[if_pos h1]
 ·rw[if_neg h1];omega
theorem zcd {l:List Time}(hl: ∀x∈l,z32 x):z3h l=some (lubL l):=by
 unfold z3h;rw[z7f (lubL l) (fun i a=>a=lubL (l.take i)) (fun s h=>by rw[h,List.take_length])]
 ·rfl
 ·intro i a hi ha;refine⟨_,?_,rfl⟩;rw[z36 hi];have hx:=hl _ (z3m hi)
  generalize l.getD i zzd=x at*;simp only[lubL,List.foldl_append,List.foldl_cons,List.foldl_nil];rw[←lubL,←ha];simp only[jn_eq,z0l,z6f,zz0,z0i];rcases Nat.eq_zero_or_pos i with h0|h0
  ·subst h0;simp[lubL]at ha;subst ha;obtain⟨x1,x2,x3⟩:=hx;simp[outK,lub2,zeroT];exact⟨max0 x1,max0 x2,max0 x3⟩
  ·rw[if_neg (by omega)];simp[outK,lub2]
 ·rfl
theorem mx_eq (a b:Int):(if a<b then b else a)=max a b:=by split<;>omega
theorem zog {x:Time}(h:z32 x):lub2 zeroT x=x:=by
 obtain⟨h1,h2,h3⟩:=h;simp only[lub2,mx_eq,zeroT];refine Time.ext' ?_ ?_ ?_<;>simp only<;>omega
theorem zke {x y:Time}(hx:z32 x):lubL [x,y]=lub2 x y:=by
 simp[lubL,zog hx]
def leT (a b:Time):Bool:=decide (a.epoch≤b.epoch) && (decide (a.loop.1≤b.loop.1) && decide (a.loop.2≤b.loop.2))
theorem zoj {a b:Time}(ha:z32 a)(hb:z32 b):z7v a b=some (leT a b):=by
 unfold z7v z62;have hl: ∀x∈[a,b],z32 x:=fun x hx=>by
  rcases zzf.1 hx with rfl|hx
  ·exact ha
  ·rw[zz7.1 hx];exact hb
 rw[zcd hl,zke ha];simp only[zz0,lub2,mx_eq,z3u,leT,Bool.and_true];congr 1;rw[Bool.eq_iff_iff];simp only[Bool.and_eq_true,decide_eq_true_eq];omega
theorem zkd (a:Time):leT a a=true:=by simp[leT]
theorem zj5 {a b c:Time}(h:leT a b=true)(g:leT b c=true):leT a c=true:=by
 simp only[leT,Bool.and_eq_true,decide_eq_true_eq]at*;omega
theorem zly {a b:Time}:leT a b=true↔a.epoch≤b.epoch∧a.loop.1≤b.loop.1∧a.loop.2≤b.loop.2:=by simp[leT]
theorem zho (u v w:Int):z77 [u,v,w]=some (thenC u (thenC v w)):=by
 unfold z77 thenC;simp only[List.length_cons,List.length_nil,zza,Nat.reduceAdd,z0l,z0i,z42];by_cases h1:u=0<;>by_cases h2:v=0<;>by_cases h3:w=0<;>simp[outK,h1,h2,h3]
theorem zqt (u v w:Int):z37 [u,v,w]=some (thenC u (thenC v w)):=zho u v w
theorem zkj (u v:Int):z37 [u,v]=some (thenC u v):=znr u v
theorem zd1:IsCmp cmpT where
 vals a b:=by rcases zmk a b with h|h|h<;>omega
 anti a b:=by have:=ziw a b;omega
 tr a b d:=by
  have e: ∀a b:Time,cmpT a b=thenC (cmpZ a.epoch b.epoch) (thenC (cmpZ a.loop.1 b.loop.1) (cmpZ a.loop.2 b.loop.2)):=fun a b=>by
   unfold cmpT thenC cmpZ
   repeat' split
   all_goals omega
  have h:=(zad.on fun t:Time=>t.epoch).lex ((zad.on fun t:Time=>t.loop.1).lex (zad.on fun t:Time=>t.loop.2));rw[e,e,e];exact h.tr a b d
theorem       zix {a b : Time} : cmpT a b = 0 ↔ a = b := by
  constructor
  · intro h
    unfold cmpT at h
    refine Time.ext' ?_ ?_ ?_ <;> · revert h; repeat' split
                                    all_goals omega
  · rintro rfl; exact     zd1.refl a
def okT (t:Time):Bool:=decide (t.epoch≤4611686018427387904) && (decide (t.loop.1≤4611686018427387904) && decide (t.loop.2≤4611686018427387904))
theorem zpz {fuel:Nat}(hf:5<fuel)(a b:Int):z3a fuel [a,b]=some (if a<b then b else a):=by
 unfold z3a;obtain⟨f,rfl⟩: ∃f,fuel=f+2:=⟨fuel-2,by omega⟩;have w:zzi.wrap 2=2:=by rw[z3r (by omega) (by omega)]
 simp[loopN,outK,need,bf,w]
theorem zdd {fuel:Nat}(hf:5<fuel)(t:Time):z5k fuel [t]=some (if okT t then 0 else 1):=by
 unfold z5k okT;simp only[List.length_cons,List.length_nil,zza,z0l,List.getD_cons_zero,zpz hf,zz0,z0i,mx_eq];by_cases h:4611686018427387904<max t.epoch (max t.loop.1 t.loop.2)
 ·rw[if_pos h];simp only[outK];rw[if_neg (by simp only[Bool.and_eq_true,decide_eq_true_eq];omega)]
 ·rw[if_neg h];simp only[outK];rw[if_pos (by simp only[Bool.and_eq_true,decide_eq_true_eq];omega)]
end Go.Av
namespace Go.Av
open Go
section
variable {α X Y:Type}
inductive R2 (r:X→Y→Prop):List X→List Y→Prop
 |nil:R2 r [] []
 |cons {x:X} {y:Y} {a:List X} {b:List Y} (h:r x y) (t:R2 r a b):R2 r (x::a) (y::b)
theorem R2.len {r:X→Y→Prop}{a:List X}{b:List Y}(h:R2 r a b):a.length=b.length:=by induction h<;>simp_all
theorem R2.app {r:X→Y→Prop}{a a':List X}{b b':List Y}(h:R2 r a b)(h':R2 r a' b'):R2 r (a++a') (b++b'):=by
 induction h with
 |nil=>exact h'
 |cons h _ ih=>exact .cons h ih
theorem R2.split {r:X→Y→Prop}: ∀{b b':List Y} {a:List X},R2 r a (b++b')→ ∃a1 a2,a=a1++a2∧R2 r a1 b∧R2 r a2 b'
 |[],b',a,h=>⟨[],a,rfl,.nil,h⟩
 |y::b,b',_,h=>by
  cases h with
  |cons h t=>
   obtain⟨a1,a2,rfl,h1,h2⟩:=R2.split t;exact⟨_::a1,a2,rfl,.cons h h1,h2⟩
theorem R2.get [Inhabited X][Inhabited Y]{r:X→Y→Prop}{a:List X}{b:List Y}(h:R2 r a b): ∀{i:Nat},i<b.length→r (a.getD i zzd) (b.getD i zzd):=by
 induction h with
 |nil=>intro i hi;simp at hi
 |cons h _ ih=>
  intro i hi;cases i with
  |zero=>exact h
  |succ i=>exact ih (by simpa using hi)
theorem R2.one {r:X→Y→Prop}{x:X}{y:Y}(h:r x y):R2 r [x] [y]:= .cons h .nil
theorem ze7 {S R Q:Type}{G:Option Q→Prop}{B:Nat→S→Option (Ctl S R)}{n:Nat}{s:S}{kn:S→Option Q}{kr:R→Option Q}(I:Nat→S→Prop)(D:S→Prop)(J:R→Prop)(h0:I 0 s)(hD: ∀s,I n s→D s)(hk: ∀s,D s→G (kn s))(hr: ∀r,J r→G (kr r))
 (hs: ∀i s,i<n→I i s→(∃s',B i s=some (.next s')∧I (i+1) s')∨(∃s',B i s=some (.brk s')∧D s')∨ ∃r,B i s=some (.ret r)∧J r):G (outK (z0l B n 0 s) kn kr):=by
 rcases zgq I D J h0 hs hD with⟨s',h1,h2⟩|⟨r,h1,h2⟩
 ·rw[h1];exact hk s' h2
 ·rw[h1];exact hr r h2
theorem zce [Inhabited X](a:List X)(x:X):(a++[x]).getD a.length zzd=x:=by simp[List.getD_eq_getElem?_getD]
theorem zm3 (a b:List X)(x y:X):(a++x::b).set a.length y=a++y::b:=by simp[List.set_append]
def PR (num:α→Int)(l:List α):List (α×Int):=l.map fun x=>(x,num x)
theorem z9g (num:α→Int)(l l':List α):PR num (l++l')=PR num l++PR num l':=by simp[PR]
theorem z90 {num:α→Int}{l:List α}{p:α×Int}:p∈PR num l↔ ∃x∈l,(x,num x)=p:=by simp[PR]
theorem zgz {c:α→α→Int}{y:α}: ∀{l:List (α×Int)},(∀p∈l,in64 p.2)→ -9223372036854775808*(l.length:Int)≤sm c l y∧sm c l y≤9223372036854775808*(l.length:Int)
 |[],_=>by simp[sm]
 |p::l,h=>by
  have h1:=zgz (c:=c) (y:=y) (l:=l) fun q hq=>h q (zz6 _ hq);have h2:=h p (zz4 ..)
  unfold in64 at h2;simp only[sm,List.length_cons];split<;>omega
theorem zee {c:α→α→Int}{num:α→Int}{put:α→Int→α}{l l':List (α×Int)}{R:List α}{e:Int}(hp:l.Perm l')(h:Tot c num put l R e):Tot c num put l' R e:=by
 have hs: ∀y,sm c l y=sm c l' y:=zm7 hp;rcases h with⟨h1,h2,h3⟩|⟨h1,h2,h3⟩
 ·refine .inl ⟨h1,⟨h2.strict,fun r hr=>?_,fun r hr=>?_,fun y hy hn=>?_⟩,fun y=>?_⟩
  ·rw[←hs];exact h2.sum r hr
  ·obtain⟨y,g1,g2⟩:=h2.mem r hr;exact⟨y,hp.mem_iff.1 g1,g2⟩
  ·exact h2.all y (hp.mem_iff.2 hy) (by rw[hs];exact hn)
  ·rw[←hs];exact h3 y
 ·refine .inr ⟨h1,h2,fun h=>h3 fun y=>?_⟩;rw[hs];exact h y
theorem zj6 (put:α→Int→α)(S S':List (α×Int)):left0 put (S++S')=left0 put S++left0 put S':=by simp[left0]
theorem zj7 (put:α→Int→α)(p:α×Int):left0 put [p]=if p.2=0 then[]else[put p.1 p.2]:=by
 unfold left0;by_cases h:p.2=0<;>simp[h]
theorem zcg (put:α→Int→α)(S:List (α×Int)):(left0 put S).length≤S.length:=by
 unfold left0;rw[List.length_map];exact List.length_filter_le _ _
def fit64 (s:Int):Int×Int:=if -9223372036854775808≤s∧s<9223372036854775808 then(s,0)else(0,10)
theorem z9c {s:Int}(h:in64 s):fit64 s=(s,0):=if_pos h
theorem z8f {s:Int}(h: ¬in64 s):fit64 s=(0,10):=if_neg h
def repT (t:Tally)(s:Int):Prop:=inU64 t.high∧inU64 t.low∧(t.high*18446744073709551616+t.low-s) % 340282366920938463463374607431768211456=0
end
end Go.Av
namespace Go.Av
open Go
def cU (a b:Update):Int:=thenC (cmpL cmpV a.key b.key) (thenC (cmpL cmpV a.row b.row) (cmpT a.time b.time))
theorem cU_is:IsCmp cU:=(z86.list.on fun u:Update=>u.key).lex ((z86.list.on fun u:Update=>u.row).lex (zd1.on fun u:Update=>u.time))
theorem z8b (a b:Update):z2y a b=some (cU a b):=by
 unfold z2y cU;simp only[z6q,zb8,zho,zz0]
def z4t (x:Update)(n:Int):Update:=⟨x.key,x.row,x.time,n⟩
theorem zmu {x:Update}{n:Int}(h:x.row.length≤8):z7a x n=some (z4t x n):=rfl
def zb1 (x:Line_Update)(p:Update×Int):Prop:=x.of=p.1∧repT x.tally p.2
theorem zmh {a:List Line_Update}{x:Line_Update}{p s:Int}(hp:in64 p)(h:repT x.tally s):
 ∃t:Tally,z4g a.length p (a++[x])=some (a++[(⟨t,x.of⟩:Line_Update)])∧repT t (s+p):=by
 obtain⟨hh,hl,hs⟩:=h;unfold in64 inU64 repT at*;unfold z4g z72;simp only[zce,zm3,zze,zzg,List.length_singleton,shr63 hp,z82];rw[z0b (by omega),z0b (by omega)];simp only[zz0];rw[z0b (by omega),z0b (by omega),z0b (by split<;>omega)];simp only[zz0];rw[z0b (by omega)];refine⟨_,rfl,?_,?_,?_⟩
 ·simp only[inU64];omega
 ·simp only[inU64];omega
 ·simp only;split<;>omega
theorem zmn {x:Line_Update}{s:Int}(h:repT x.tally s)(hb: -85070591730234615865843651857942052864≤s∧s≤85070591730234615865843651857942052864):z4h x=some ((fit64 s).1,(fit64 s).2,x):=by
 obtain⟨hh,hl,hs⟩:=h;unfold inU64 at*;have hw:in64 (zzi.wrap x.tally.low):=by unfold in64;rw[z9f];split<;>omega
 unfold z4h;rw[shr63 hw,z82];by_cases h: -9223372036854775808≤s∧s<9223372036854775808
 ·rw[z9c h];have e1:zzi.wrap x.tally.low=s:=by rw[z9f];split<;>omega
  rw[e1];have e2:x.tally.high=(if s<0 then(-1:Int)else 0) % 18446744073709551616:=by split<;>omega
  rw[decide_eq_true e2];rfl
 ·rw[z8f h];have e2: ¬x.tally.high=(if zzi.wrap x.tally.low<0 then(-1:Int)else 0) % 18446744073709551616:=by
   rw[z9f];split<;>split<;>omega
  rw[decide_eq_false e2];rfl
theorem znz:z2f=rotG (α:=Update):=rfl
theorem znl:z1j=insG (α:=Update) z2y:=rfl
theorem zjf: ∀(fuel:Nat) (a b d:Int) (l:List Update),z0q fuel a b d l=symG (α:=Update) z2y fuel a b d l
 |0,_,_,_,_=>rfl
 |fuel+1,a,b,d,l=>by
  unfold z0q symG;simp only[znz,zjf fuel]
theorem zi6 (fuel:Nat)(n:Int)(l:List Update):z1v fuel n l=stabG (α:=Update) z2y fuel n l:=by
 unfold z1v stabG;simp only[znl,zjf]
theorem zll {fuel:Nat}{l:List Update}(hl: ∀x∈l,in64 x.diff)(hr: ∀x∈l,x.row.length≤8)(hn:l.length≤8000000000)(hf:40000000000≤fuel):
 ∃R e l',z0s fuel l=some (R,e,l')∧Tot cU (fun x=>x.diff) z4t (PR (fun x=>x.diff) l) R e∧R.length≤l.length:=by
 obtain⟨r1,h1,h2,h3⟩:=zbi (c:=cU) z8b cU_is (fuel:=fuel) (l:=l) (by omega) (by omega);have hlen:r1.length=l.length:=h2.length_eq
 unfold z0s z0d;rw[zi6,h1];simp only[zz0];rw[z0b hlen]
 suffices hS: ∃R e,(_:Option ((List Update)×Int×(List Update)))=some (R,e,r1)∧Tot cU (fun x=>x.diff) z4t (PR (fun x=>x.diff) r1) R e∧R.length≤r1.length by
  obtain⟨R,e,g1,g2,g3⟩:=hS;refine⟨R,e,r1,?_,zee ?_ g2,by omega⟩
  ·exact g1
  ·exact h2.map _
 have hl1: ∀x∈r1,in64 x.diff:=fun x hx=>hl x (h2.mem_iff.1 hx);have hr1: ∀x∈r1,x.row.length≤8:=fun x hx=>hr x (h2.mem_iff.1 hx)
 refine za1 (G:=fun q=> ∃R e,q=some (R,e,r1)∧Tot cU (fun x=>x.diff) z4t (PR (fun x=>x.diff) r1) R e∧R.length≤r1.length) (P:=fun a=> ∃S,R2 zb1 a S∧SS cU (PR (fun x=>x.diff) r1) S∧S.length≤r1.length) ?_ ?_
 ·have:=fun B h=>ze9 (R:=Empty) (B:=B) (n:=r1.length) (fun i (a:List Line_Update)=> ∃S,R2 zb1 a S∧SS cU (PR (fun x=>x.diff) (r1.take i)) S∧S.length≤i) (s:=([]:List Line_Update)) ⟨[],.nil,zo5,zzc _⟩ h;simp only[List.take_length]at this;refine this _ ?_;rintro i a hi ⟨S,k1,k2,k3⟩;have hx:=hl1 _ (z3m hi)
  rw[zza,z0b hi];have htk:PR (fun x:Update=>x.diff) (r1.take (i+1))=PR (fun x=>x.diff) (r1.take i)++[(r1.getD i zzd,(r1.getD i zzd).diff)]:=by
   rw[z36 hi,z9g];rfl
  have hle: ∀p∈S,cU p.1 (r1.getD i zzd)≤0:=fun p hp=>by
   obtain⟨y,g1,g2⟩:=k2.mem p hp;obtain⟨z,g3,g4⟩:=z90.1 g1;obtain⟨j,hj,g5⟩:=List.mem_iff_getElem.1 g3;rw[List.length_take]at hj;have:=h3 j i (by omega) hi
   rw[←g2,←g4];simp only;rw[←g5,List.getElem_take];rw[List.getD_eq_getElem?_getD,List.getElem?_eq_getElem (by omega:j<r1.length)]at this;exact this
  generalize hxe:r1.getD i zzd=x at*;rw[htk];clear htk
  let G:Option (Ctl (List Line_Update) Empty)→Prop:=fun q=> ∃s',q=some (.next s')∧ ∃S,R2 zb1 s' S∧SS cU (PR (fun x=>x.diff) (r1.take i)++[(x,x.diff)]) S∧S.length≤i+1
  refine jn_P (G:=G) (P:=fun b=> ∃(b':List Line_Update) (y:Line_Update) (S':List (Update×Int)) (s:Int),b=b'++[y]∧b.length≤i+1∧R2 zb1 b' S'∧repT y.tally s∧SS cU (PR (fun x=>x.diff) (r1.take i)++[(x,x.diff)]) (S'++[(y.of,s+x.diff)])) ?_ ?_
  ·rintro _ ⟨b',y,S',s,rfl,q0,q1,q2,q3⟩;simp only[zzg,List.length_singleton]at q0 ⊢;rw[wsub1 (by omega) (by omega),z0b (by omega)];obtain⟨t,g1,g2⟩:=zmh (a:=b') (x:=y) hx q2;unfold z79;simp only[zz0,Nat.add_sub_cancel,zza,zzh];rw[g1];simp only[zz0];rw[z0b (by simp)];refine⟨_,rfl,_,R2.app q1 (R2.one (show zb1 ⟨t,y.of⟩ (y.of,s+x.diff)from⟨rfl,g2⟩)),q3,?_⟩;have:=q1.len
   simp only[zzg,List.length_singleton];omega
  ·simp only[jn_eq,z0i];have hlen2:=k1.len
   rcases List.eq_nil_or_concat S with rfl|⟨A,p,rfl⟩
   ·have ha:a=[]:=zzj hlen2;subst ha;rw[if_pos (by simp),z6d,z0b (by simp)];refine⟨_,⟨[],_,[],0,rfl,by simp,.nil,by simp[repT,inU64],?_⟩,rfl⟩;have:=zi5 (A:=[]) (B:=[]) (x:=x) (n:=x.diff) cU_is k2 (fun p hp=>by cases hp) (fun p hp=>by cases hp)
    simpa using this
   ·simp only[List.concat_eq_append]at*;obtain⟨a1,a2,rfl,u1,u2⟩:=R2.split k1;cases u2 with
    | @cons y _ _ _ v t=>
     cases t;obtain⟨v1,v2⟩:=v;have e1:(a1++[y]).length=a1.length+1:=by simp
     have e2:=u1.len;simp only[zzg,List.length_singleton]at k3;rw[if_neg (by omega),e1,wsub1 (by omega) (by omega),z0b (by omega)];simp only[Nat.add_sub_cancel,zza,zzh,zce];rw[z0b (by omega),z8b,v1];simp only[zz0];by_cases g:cU p.1 x=0
     ·rw[decide_eq_true g];simp only[Bool.not_true,z2x];refine⟨_,⟨a1,y,A,p.2,rfl,by omega,u1,v2,?_⟩,?_⟩
      ·rw[v1];exact zo4 cU_is k2 g
      ·rw[e1,wsub1 (by omega) (by omega)];simp only[Nat.add_sub_cancel,zzh]
     ·rw[decide_eq_false g];simp only[Bool.not_false,z6d];rw[z0b (by simp;omega)];refine⟨_,⟨a1++[y],_,A++[p],0,rfl,by simp;omega,k1,by simp[repT,inU64],?_⟩,rfl⟩;have:=zi5 (A:=A++[p]) (B:=[]) (x:=x) (n:=x.diff) cU_is (by simpa using k2) (fun q hq=>by
       have h4:=hle p (by simp);have h5:cU q.1 p.1≤0:=by
        rcases zz2.1 hq with hq|hq
        ·have h6:=k2.strict;rw[List.pairwise_append]at h6;have:=h6.2.2 q hq p (by simp)
         omega
        ·rw[zz7.1 hq,cU_is.refl];omega
       have h7:=cU_is.tr _ _ _ h5 h4;by_cases h8:cU q.1 x=0
       ·exfalso;have h9:cU x p.1≤0:=by rw[←cU_is.eqL p.1 h8];exact h5
        have:=cU_is.anti p.1 x;omega
       ·omega) (fun q hq=>by cases hq)
      simpa using this
 ·rintro a ⟨S,k1,k2,k3⟩;have hb: ∀i,i<S.length→ -85070591730234615865843651857942052864≤(S.getD i zzd).2∧(S.getD i zzd).2≤85070591730234615865843651857942052864:=fun i hi=>by
   rw[k2.sum _ (z3m hi)];have:=zgz (c:=cU) (y:=(S.getD i zzd).1) (l:=PR (fun x=>x.diff) r1) (fun p hp=>by
    obtain⟨z,g1,g2⟩:=z90.1 hp;rw[←g2];exact hl1 z g1)
   have e:(PR (fun x:Update=>x.diff) r1).length=r1.length:=by simp[PR]
   rw[e]at this;omega
  have hrow: ∀i,i<S.length→(S.getD i zzd).1.row.length≤8:=fun i hi=>by
   obtain⟨y,g1,g2⟩:=k2.mem _ (z3m hi);obtain⟨z,g3,g4⟩:=z90.1 g1;rw[←g2,←g4];exact hr1 z g3
  have hlen2:=k1.len;rw[hlen2];refine ze7 (G:=fun q=> ∃R e,q=some (R,e,r1)∧Tot cU (fun x=>x.diff) z4t (PR (fun x=>x.diff) r1) R e∧R.length≤r1.length) (fun i (b:List Update)=>(∀j,j<i→in64 (S.getD j zzd).2)∧b=left0 z4t (S.take i)) (fun b=>(∀j,j<S.length→in64 (S.getD j zzd).2)∧b=left0 z4t S) (fun r=>r=([],10,r1)∧ ∃j,j<S.length∧ ¬in64 (S.getD j zzd).2) ⟨fun j hj=>by omega,rfl⟩ (fun b hb=>by
   rw[List.take_length]at hb;exact hb) ?_ ?_ ?_
  rotate_left 2
  ·rintro i b hi ⟨m1,m2⟩;obtain⟨v1,v2⟩:=k1.get hi;rw[zza,z0b hi,zmn v2 (hb i hi)];simp only[zz0,z42,z0i];by_cases g:in64 (S.getD i zzd).2
   ·left;rw[z9c g,v1];have hput:=zmu (x:=(S.getD i zzd).1) (n:=(S.getD i zzd).2) (hrow i hi)
    have hlb:b.length≤i:=by
     rw[m2];have:=zcg z4t (S.take i);rw[List.length_take]at this;omega
    rw[z36 hi,zj6,zj7,←m2];have m3: ∀j,j<i+1→in64 (S.getD j zzd).2:=fun j hj=>by
     by_cases e:j=i
     ·subst e;exact g
     ·exact m1 j (by omega)
    by_cases g2:(S.getD i zzd).2=0
    ·exact⟨b,by simp only[if_true,if_pos g2],m3,by rw[if_pos g2,List.append_nil]⟩
    ·refine⟨b++[z4t (S.getD i zzd).1 (S.getD i zzd).2],?_,m3,by rw[if_neg g2]⟩;simp only[if_true,if_neg g2,hput,zz0];rw[z0b (by simp;omega)]
   ·right;right;rw[z8f g];exact⟨_,rfl,rfl,i,hi,g⟩
  ·rintro b ⟨g2,g3⟩;refine⟨_,_,rfl,.inl ⟨rfl,?_,?_⟩,by rw[g3];have:=zcg z4t S;omega⟩
   ·rw[g3];exact znx (num:=fun x=>x.diff) (put:=z4t) cU_is (fun x n=>rfl) (fun x n y=>rfl) k2
   ·rw[zg7 cU_is k2];intro p hp;obtain⟨j,hj,e⟩:=List.mem_iff_getElem.1 hp;have:=g2 j hj
    rw[List.getD_eq_getElem?_getD,List.getElem?_eq_getElem hj]at this;rw[←e];exact this
  ·rintro r ⟨g2,j,g3,g4⟩;rw[g2];refine⟨_,_,rfl,.inr ⟨rfl,rfl,?_⟩,Nat.zero_le _⟩;rw[zg7 cU_is k2];intro h;exact g4 (h _ (z3m g3))
end Go.Av
namespace Go.Av
open Go
theorem zqa (v:Int):thenC 0 v=v:=rfl
theorem zg9 {u v:Int}(h:u≠0):thenC u v=u:=if_neg h
theorem zhs {X:Type}[Inhabited X]{R:Type}{B:Nat→Unit→Option (Ctl Unit R)}{l:List X}(e:X→Int)(f:Int→R)(hB: ∀i,i<l.length→B i ()=if e (l.getD i zzd)=0 then some (.next ())else some (.ret (f (e (l.getD i zzd))))):
 z0l B l.length 0 ()=if l.foldr (fun x v=>thenC (e x) v) 0=0 then some (.done ())else some (.ret (f (l.foldr (fun x v=>thenC (e x) v) 0))):=by
 have key: ∀k i,i+k=l.length→z0l B k i ()=if(l.drop i).foldr (fun x v=>thenC (e x) v) 0=0 then some (.done ())else some (.ret (f ((l.drop i).foldr (fun x v=>thenC (e x) v) 0))):=by
  intro k;induction k with
  |zero=>
   intro i hi;rw[List.drop_eq_nil_of_le (by omega)];rfl
  |succ k ih=>
   intro i hi;rw[z4p (by omega:i<l.length)];simp only[z0l,hB i (by omega),List.foldr_cons];by_cases h:e (l.getD i zzd)=0
   ·simp only[h,if_true,zqa];exact ih (i+1) (by omega)
   ·simp only[zg9 h,if_neg h]
 have:=key l.length 0 (by omega);rwa[List.drop_zero]at this
def errU (u:Update):Int:=thenC (if okRow u.key then 0 else 4) (thenC (if okRow u.row then 0 else 4) (if okT u.time then 0 else 1))
def chkL (l:List Update):Int:=l.foldr (fun u v=>thenC (errU u) v) 0
def okU (u:Update):Prop:=okRow u.key=true∧okRow u.row=true∧okT u.time=true
theorem zne {u:Update}:errU u=0↔okU u:=by
 unfold errU okU thenC;by_cases h1:okRow u.key=true<;>by_cases h2:okRow u.row=true<;>by_cases h3:okT u.time=true<;>simp[h1,h2,h3]
theorem z7i {u v:Int}:thenC u v=0↔u=0∧v=0:=by unfold thenC;split<;>omega
theorem zau {l:List Update}:chkL l=0↔ ∀u∈l,okU u:=by
 induction l with
 |nil=>simp[chkL]
 |cons u l ih=>
  unfold chkL at*;rw[List.foldr_cons,z7i,zne,ih];simp
theorem zlj (u v w:Int):thenC (thenC u v) w=thenC u (thenC v w):=by
 by_cases h1:u=0
 ·subst h1;rfl
 ·rw[zg9 h1,zg9 h1,zg9 h1]
theorem zl9 (a b:List Update):chkL (a++b)=thenC (chkL a) (chkL b):=by
 induction a with
 |nil=>simp[chkL,thenC]
 |cons u a ih=>
  unfold chkL at*;rw[List.cons_append,List.foldr_cons,List.foldr_cons,ih,zlj]
theorem z9t {fuel:Nat}(hf:5<fuel)(l:List Update):z4n fuel l=some (chkL l):=by
 unfold z4n;rw[zhs errU (fun x=>x)]
 ·show outK (if chkL l=0 then _ else some (.ret (chkL l))) _ _=_;split
  ·rename_i h;rw[h];rfl
  ·rfl
 ·intro i hi;rw[zb7,zb7,zdd hf];simp only[zz0,zqt,z42,z0i];rfl
theorem zjz {p:List Value}(h:p.length≤8):z0p p=some p:=by
 unfold z0p;rw[z0b (by omega)]
theorem zlz {u:Update}(h:okU u):u.key.length≤8∧u.row.length≤8:=⟨(z5t h.1).2,(z5t h.2.1).2⟩
theorem zku {X:Type}[Inhabited X]{l:List X}{i:Nat}(h:i<l.length):l.set i (l.getD i zzd)=l:=by
 rw[List.getD_eq_getElem?_getD,List.getElem?_eq_getElem h];exact List.set_getElem_self h
theorem zqu {l:List Update}(h: ∀u∈l,okU u)(hn:l.length≤8000000000):z80 l=some l:=by
 unfold z80;have hlim:(l.length:Int)≤(lim:Int):=by simp only[lim];omega
 rw[z0b ⟨by omega,by omega,hlim⟩,z0b (by simp)];have e:copyL (zz9 l.length ((⟨([]:List Value),([]:List Value),(⟨0,(0,0)⟩:Time),0⟩:Update):Update)) l=l:=by
  unfold copyL;rw[List.drop_eq_nil_of_le (by simp)];simp
 rw[e];rw[z7f l (fun i a=>a=l) (fun s hs=>hs)]
 ·rfl
 ·intro i a hi ha;subst ha;obtain⟨h1,h2⟩:=zlz (h _ (z3m hi));refine⟨_,?_,rfl⟩;have e1:(⟨(a.getD i zzd).key,(a.getD i zzd).row,(a.getD i zzd).time,(a.getD i zzd).diff⟩:Update)=a.getD i zzd:=rfl
  simp only[zza];rw[z0b (by omega),z0b hi,zjz h1];simp only[zz0];rw[z0b (by omega),z0b hi,zjz h2];simp only[zz0];rw[z0b (by omega),z0b hi,z0b (by omega),z0b (by simp;exact hi),e1,zku hi,e1,zku hi]
 ·rfl
end Go.Av
namespace Go.Av
open Go
theorem zm6 {x:Int}(h:in64 x):z9h x=some (if x<0 then -x else x):=by
 unfold in64 at h;unfold z9h;simp only[z0i,z82];split
 ·congr 1;omega
 ·congr 1;omega
theorem zoy {x y:Int}(hx:0≤x∧x≤9223372036854775808)(hy:0≤y∧y≤9223372036854775808):z7c x y=some (x*y / 18446744073709551616,x*y % 18446744073709551616):=by
 unfold z7c;rw[zdp (x:=x) ⟨by omega,by omega⟩,zdp (x:=y) ⟨by omega,by omega⟩];simp only[shr32,z82];obtain⟨a,b,rfl,ha,hb⟩: ∃a b,x=a*4294967296+b∧(0≤a∧a≤2147483648)∧(0≤b∧b<4294967296):=⟨x / 4294967296,x % 4294967296,by omega,by omega,by omega⟩;obtain⟨c,d,rfl,hc,hd⟩: ∃c d,y=c*4294967296+d∧(0≤c∧c≤2147483648)∧(0≤d∧d<4294967296):=⟨y / 4294967296,y % 4294967296,by omega,by omega,by omega⟩;have e1:(a*4294967296+b) / 4294967296=a:=by omega
 have e2:(a*4294967296+b) % 4294967296=b:=by omega
 have e3:(c*4294967296+d) / 4294967296=c:=by omega
 have e4:(c*4294967296+d) % 4294967296=d:=by omega
 rw[e1,e2,e3,e4];have hexp:(a*4294967296+b)*(c*4294967296+d)=(a*c)*18446744073709551616+(a*d+b*c)*4294967296+b*d:=by
  rw[Int.add_mul,Int.mul_add,Int.mul_add,Int.add_mul];have p1:a*4294967296*(c*4294967296)=(a*c)*18446744073709551616:=by
   rw[Int.mul_assoc,←Int.mul_assoc 4294967296,Int.mul_comm 4294967296 c,Int.mul_assoc c,←Int.mul_assoc a];rfl
  have p2:a*4294967296*d=a*d*4294967296:=by rw[Int.mul_assoc,Int.mul_comm 4294967296 d,←Int.mul_assoc]
  have p3:b*(c*4294967296)=b*c*4294967296:=by rw[←Int.mul_assoc]
  rw[p1,p2,p3];omega
 rw[hexp];have q1:0≤a*c∧a*c≤2147483648*2147483648:=⟨Int.mul_nonneg ha.1 hc.1,Int.mul_le_mul ha.2 hc.2 hc.1 (by omega)⟩;have q2:0≤a*d∧a*d≤2147483648*4294967295:=⟨Int.mul_nonneg ha.1 hd.1,Int.mul_le_mul ha.2 (by omega) hd.1 (by omega)⟩
 have q3:0≤b*c∧b*c≤4294967295*2147483648:=⟨Int.mul_nonneg hb.1 hc.1,Int.mul_le_mul (by omega) hc.2 hc.1 (by omega)⟩;have q4:0≤b*d∧b*d≤4294967295*4294967295:=⟨Int.mul_nonneg hb.1 hd.1,Int.mul_le_mul (by omega) (by omega) hd.1 (by omega)⟩
 generalize a*c=A at*;generalize a*d=B at*;generalize b*c=C at*;generalize b*d=D at*;have m1:(B % 18446744073709551616+D % 18446744073709551616 / 4294967296) % 18446744073709551616=B+D / 4294967296:=by omega
 rw[m1,zdp (x:=B+D / 4294967296) ⟨by omega,by omega⟩];congr 2;omega
theorem zf7 {a b:Int}(ha:in64 a)(hb:in64 b):z81 a b=some (fit64 (a*b)):=by
 unfold z81;rw[zm6 ha,zm6 hb];unfold in64 at ha hb;simp only[zz0];rw[zoy (by split<;>omega) (by split<;>omega)];simp only[zz0,jn_eq];have hneg: ∀x y:Int,(-x)*y= -(x*y):=Int.neg_mul
 have key: ∀(P m:Int),0≤P→(m=9223372036854775807∨m=9223372036854775808)→(a*b=P∧m=9223372036854775807∨a*b= -P∧m=9223372036854775808)→P<340282366920938463463374607431768211456→
  (bf (!decide (P / 18446744073709551616=0)) (bf true (some ((0:Int),(10:Int))) (some (zzi.wrap (a*b),0))) (bf (decide (m<P % 18446744073709551616)) (some (0,10)) (some (zzi.wrap (a*b),0))))=some (fit64 (a*b)):=by
  intro P m hP hm hab hlt;by_cases h:in64 (a*b)
  ·rw[z9c h,zln h];unfold in64 at h;have h1:P / 18446744073709551616=0:=by omega
   have h2: ¬m<P % 18446744073709551616:=by omega
   rw[decide_eq_true h1,decide_eq_false h2];rfl
  ·rw[z8f h];unfold in64 at h;by_cases h1:P / 18446744073709551616=0
   ·have h2:m<P % 18446744073709551616:=by omega
    rw[decide_eq_true h1,decide_eq_true h2];rfl
   ·rw[decide_eq_false h1];rfl
 have hbnd: ∀x y:Int,0≤x→x≤9223372036854775808→0≤y→y≤9223372036854775808→0≤x*y∧x*y<340282366920938463463374607431768211456:=fun x y h1 h2 h3 h4=>⟨Int.mul_nonneg h1 h3,by
  have:=Int.mul_le_mul h2 h4 h3 (by omega);omega⟩
 by_cases h1:a<0<;>by_cases h2:b<0
 ·rw[if_pos h1,if_pos h2,decide_eq_true h1,decide_eq_true h2];have hb:=hbnd (-a) (-b) (by omega) (by omega) (by omega) (by omega);have e: -a* -b=a*b:=Int.neg_mul_neg a b
  simp only[beq_self_eq_true,z6d];rw[z82];exact key _ _ hb.1 (.inl (by omega)) (.inl ⟨e.symm,by omega⟩) hb.2
 ·rw[if_pos h1,if_neg h2,decide_eq_true h1,decide_eq_false h2];have hb:=hbnd (-a) b (by omega) (by omega) (by omega) (by omega);have e: -a*b= -(a*b):=Int.neg_mul a b
  show bf false _ _=_;simp only[z2x];exact key _ _ hb.1 (.inr rfl) (.inr ⟨by omega,rfl⟩) hb.2
 ·rw[if_neg h1,if_pos h2,decide_eq_false h1,decide_eq_true h2];have hb:=hbnd a (-b) (by omega) (by omega) (by omega) (by omega);have e:a* -b= -(a*b):=Int.mul_neg a b
  show bf false _ _=_;simp only[z2x];exact key _ _ hb.1 (.inr rfl) (.inr ⟨by omega,rfl⟩) hb.2
 ·rw[if_neg h1,if_neg h2,decide_eq_false h1,decide_eq_false h2];have hb:=hbnd a b (by omega) (by omega) (by omega) (by omega);simp only[beq_self_eq_true,z6d];rw[z82];exact key _ _ hb.1 (.inl (by omega)) (.inl ⟨rfl,by omega⟩) hb.2
end Go.Av
namespace Go.Av
open Go
def zk9 (rows:List (List Value)):List Value×Int:=
 if rows.all okRow then(if 8<rows.flatten.length then([],2)else(rows.flatten,0))else([],4)
theorem zlf {rows:List (List Value)}(h: ∀r∈rows,r.length≤8):rows.flatten.length≤8*rows.length:=by
 induction rows with
 |nil=>simp
 |cons r rows ih=>
  have h1:=h r (zz4 ..);have h2:=ih fun x hx=>h x (zz6 _ hx)
  simp only[List.flatten_cons,zzg,List.length_cons];omega
theorem za6 {X:Type}{rows:List (List X)}{i:Nat}(h:i<rows.length):(rows.take (i+1)).flatten=(rows.take i).flatten++rows.getD i zzd:=by
 rw[z36 h,List.flatten_append];simp
theorem zps {n:Int}(h:0≤n∧n≤274877906944):z1g n=some []:=by
 unfold z1g;have e:zzi.wrap (n-zzi.wrap ((0:Int)-0))=n:=by
  rw[z3r (n:=(0:Int)-0) (by omega) (by omega)];rw[z3r (by omega) (by omega)];omega
 simp only[e,z0i,jn_eq,if_neg (by omega: ¬n<0)];have hlim:(lim:Int)=274877906944:=rfl
 by_cases h0:0<n
 ·rw[if_pos h0,z0b (by omega),z0b (by refine⟨by omega,by omega,by omega⟩)];rw[List.take_zero]
 ·rw[if_neg h0]
theorem znd {rows:List (List Value)}(h:rows.flatten.length≤274877906944):z1c rows=some rows.flatten:=by
 unfold z1c;have hpre: ∀i,(rows.take i).flatten.length≤rows.flatten.length:=fun i=>by
  have:rows.flatten=(rows.take i).flatten++(rows.drop i).flatten:=by rw[←List.flatten_append,List.take_append_drop]
  rw[this,zzg];omega
 rw[z7f (rows.flatten.length:Int) (fun i a=>a=((rows.take i).flatten.length:Int)) (fun s h=>by rw[h,List.take_length])]
 ·simp only[z7e];rw[zps (by omega),zz0];rw[z7f rows.flatten (fun i a=>a=(rows.take i).flatten) (fun s h=>by rw[h,List.take_length])]
  ·rfl
  ·intro i a hi ha;have h1:=hpre (i+1)
   rw[za6 hi,zzg]at h1;refine⟨_,?_,rfl⟩;rw[z0b (by rw[ha];omega),za6 hi,ha]
  ·rfl
 ·intro i a hi ha;have h1:=hpre (i+1)
  rw[za6 hi,zzg]at h1;refine⟨_,?_,rfl⟩;rw[za6 hi,zzg,ha];rw[z3r (by omega) (by omega),decide_eq_false (by omega)];simp
 ·rfl
theorem zl2 {rows:List (List Value)}(h:rows.length≤1048576):z8v rows=some (zk9 rows):=by
 unfold z8v zk9;simp only[zb7,zz0];have hall:(rows.any fun r=> !okRow r)= !(rows.all okRow):=by rw[List.any_eq_not_all_not];simp
 rcases ze8 (S:=Unit) (R:=List Value×Int) (l:=rows) (fun r=> !okRow r) (fun _=>([],4)) (s:=()) (B:=fun i1 (a2:Unit)=>bf (!decide ((if okRow (rows.getD i1 zzd)=true then(0:Int)else 4)=0)) (some (.ret (([]:List Value),(if okRow (rows.getD i1 zzd)=true then(0:Int)else 4)))) (some (.next ()))) (fun i hi=>by
  cases okRow (rows.getD i zzd)<;>rfl)with⟨h1,h2⟩|⟨h1,i,_,_,h2⟩
 ·rw[h2];rw[hall]at h1;have ha:rows.all okRow=true:=by simpa using h1
  rw[if_pos ha];have hl:=zlf (rows:=rows) fun r hr=>(z5t (List.all_eq_true.1 ha r hr)).2;simp only[z7e];rw[znd (by omega)];simp only[zz0,z0i];by_cases h8:8<rows.flatten.length
  ·rw[if_pos h8,if_pos (by omega)]
  ·rw[if_neg h8,if_neg (by omega)]
 ·rw[h2];rw[hall]at h1;have ha:rows.all okRow=false:=by simpa using h1
  rw[ha];rfl
theorem all_append {a b:List Value}:(a++b).all z5l=(a.all z5l && b.all z5l):=List.all_append ..
end Go.Av
namespace Go.Av
open Go
section
variable {α:Type} [Inhabited α]
def growG (z:α)(p1:Int):Option (List α):=
 bf (decide (p1<0)) (none) (jn (fun(a1:List α)=>some a1) fun j2=>bf (decide (0<(zzi.wrap (p1-(zzi.wrap ((0:Int)-0)))))) (need ((0:Int)<(zzi.wrap (p1-(zzi.wrap ((0:Int)-0))))∧(zzi.wrap (p1-(zzi.wrap ((0:Int)-0))))≤(lim:Int))<|need ((0:Int)≤0∧(0:Int)≤0∧(0:Int)≤((zz9 ((zzi.wrap (p1-(zzi.wrap ((0:Int)-0)))).toNat) z).length:Int))<|j2 ((zz9 ((zzi.wrap (p1-(zzi.wrap ((0:Int)-0)))).toNat) z).take 0)) (j2 ([]:List α)))
def concG (z:α)(p0:List (List α)):Option (List α):=
 outK (z0l (S:=Int) (R:=Empty) (fun i1 (a2:Int)=>bf (decide ((zzi.wrap (a2+((p0.getD i1 zzd).length:Int)))<0)) (none) (some (.next (zzi.wrap (a2+((p0.getD i1 zzd).length:Int)))))) p0.length 0 0) (fun(a3:Int)=>(growG z a3).bind fun r4=>outK (z0l (S:=List α) (R:=Empty) (fun i5 (a6:List α)=>need (a6.length+(p0.getD i5 zzd).length≤274877906944)<|some (.next (a6++(p0.getD i5 zzd)))) p0.length 0 r4) (fun(a7:List α)=>some a7) (fun(x:Empty)=>x.elim)) (fun(x:Empty)=>x.elim)
theorem zjg {l:List (List α)}{i:Nat}(h:i<l.length):(l.take (i+1)).flatten=(l.take i).flatten++l.getD i zzd:=by
 rw[z36 h];simp
theorem zmo {l:List (List α)}{i:Nat}(h:i<l.length):l.flatten=(l.take i).flatten++(l.getD i zzd++(l.drop (i+1)).flatten):=by
 have e:l=l.take i++l.getD i zzd::l.drop (i+1):=by rw[←z4p h,List.take_append_drop]
 have e2:=congrArg List.flatten e;rw[List.flatten_append,List.flatten_cons]at e2;exact e2
theorem zlw {l:List (List α)}{i:Nat}(h:i<l.length):(l.take i).flatten.length+(l.getD i zzd).length≤l.flatten.length:=by
 have:=congrArg List.length (zmo h);simp only[zzg]at this;omega
theorem zoq {z:α}{n:Nat}(hn:n≤8000000000):growG z (n:Int)=some []:=by
 unfold growG;have e:zzi.wrap ((n:Int)-zzi.wrap ((0:Int)-0))=(n:Int):=by
  rw[show zzi.wrap ((0:Int)-0)=0 by rfl,z3r (by omega) (by omega)];omega
 rw[e];simp only[z0i,jn_eq];rw[if_neg (by omega)];split
 ·rw[z0b (by simp only[lim];omega),z0b (by simp)];simp
 ·rfl
theorem zoo {z:α}{p0:List (List α)}(hn:p0.flatten.length≤8000000000):concG z p0=some p0.flatten:=by
 unfold concG;have h1:=fun B h=>z7f (R:=Empty) (B:=B) (n:=p0.length) (s:=(0:Int)) ((p0.flatten.length:Nat):Int) (fun i a=>a=(((p0.take i).flatten.length:Nat):Int)) (fun s hs=>by rw[hs,List.take_length]) h (by rfl)
 rw[h1]
 ·simp only[z7e,zoq hn,zz0];rw[z7f p0.flatten (fun i a=>a=(p0.take i).flatten) (fun s hs=>by rw[hs,List.take_length])]
  ·rfl
  ·intro i a hi ha;refine⟨_,?_,rfl⟩;have:=zlw hi
   rw[z0b (by rw[ha];omega),ha,zjg hi]
  ·rfl
 ·intro i a hi ha;have:=zlw hi
  refine⟨_,?_,rfl⟩;rw[ha,wadd (by omega),zjg hi,zzg];simp only[z0i];rw[if_neg (by omega)]
end
end Go.Av
namespace Go.Av
open Go
abbrev pU (l:List Update):List (Update×Int):=PR (fun x=>x.diff) l
abbrev TotU (l:List Update)(R:List Update)(e:Int):Prop:=Tot cU (fun x=>x.diff) z4t (pU l) R e
theorem zl1 {l R:List Update}{e:Int}(h:TotU l R e)(ho: ∀u∈l,okU u): ∀r∈R,okU r:=fun r hr=>by
 rcases h with⟨_,h,_⟩|⟨_,rfl,_⟩
 ·obtain⟨y,h1,h2⟩:=h.mem r hr;obtain⟨z,h3,h4⟩:=z90.1 h1;rw[h2,←h4];exact ho z h3
 ·cases hr
def zn1 (l R:List Update)(e:Int):Prop:=(chkL l≠0∧R=[]∧e=chkL l)∨(chkL l=0∧TotU l R e)
theorem zhi: ∀ls:List (List Update),ls.foldr (fun x v=>thenC (chkL x) v) 0=chkL ls.flatten
 |[]=>rfl
 |l::ls=>by rw[List.foldr_cons,List.flatten_cons,zl9,zhi ls]
theorem zpn {fuel:Nat}{ls:List (List Update)}(hf:40000000000≤fuel)(hn:ls.flatten.length≤8000000000)(hd: ∀u∈ls.flatten,in64 u.diff):
 ∃R e,z3o fuel ls=some (R,e)∧zn1 ls.flatten R e∧R.length≤ls.flatten.length:=by
 unfold z3o;rw[zhs chkL (fun w=>(([]:List Update),w)),zhi]
 ·by_cases h:chkL ls.flatten=0
  ·rw[if_pos h];simp only[z7e];rw[show z0m ls=some ls.flatten from zoo hn];simp only[zz0];have ho:=zau.1 h
   obtain⟨R,e,l',h1,h2,h3⟩:=zll (fuel:=fuel) hd (fun u hu=>(zlz (ho u hu)).2) hn hf;rw[h1];simp only[zz0];rw[zqu (zl1 h2 ho) (by omega)];exact⟨R,e,rfl,.inr ⟨h,h2⟩,h3⟩
  ·rw[if_neg h];exact⟨_,_,rfl,.inl ⟨h,rfl,rfl⟩,Nat.zero_le _⟩
 ·intro i hi;rw[z9t (by omega)];simp only[zz0,z42,z0i]
end Go.Av
namespace Go.Av
open Go
def errA (l:List Update)(t:Time):Int:=thenC (chkL l) (if okT t then 0 else 1)
theorem zj0 {l:List Update}{t:Time}:errA l t=0↔(∀u∈l,okU u)∧okT t=true:=by
 unfold errA;rw[z7i,zau];simp
end Go.Av
namespace Go.Av
open Go
theorem zqd {l R:List Update}{e:Int}(h:TotU l R e): ∀r∈R,in64 r.diff:=fun r hr=>by
 rcases h with⟨_,g,gf⟩|⟨_,rfl,_⟩
 ·rw[(g.sum r hr).1];exact gf r
 ·cases hr
theorem zpf {l R:List Update}{e:Int}(h:TotU l R e)(ht: ∀u∈l,z32 u.time): ∀r∈R,z32 r.time:=fun r hr=>by
 rcases h with⟨_,g,_⟩|⟨_,rfl,_⟩
 ·obtain⟨y,h1,h2⟩:=g.mem r hr;obtain⟨z,h3,h4⟩:=z90.1 h1;rw[h2,←h4];exact ht z h3
 ·cases hr
end Go.Av
namespace Go.Av
open Go
def glb2 (a x:Time):Time:=⟨if x.epoch<a.epoch then x.epoch else a.epoch,(if x.loop.1<a.loop.1 then x.loop.1 else a.loop.1,if x.loop.2<a.loop.2 then x.loop.2 else a.loop.2)⟩
def glbL:List Time→Time
 |[]=>zeroT
 |x::l=>l.foldl glb2 x
theorem zlc (a:Time):z3u a a=true:=by simp[z3u]
theorem zpx {a b:Time}(ha:z32 a)(hb:z32 b):z32 (lub2 a b):=by
 obtain⟨h1,h2,h3⟩:=ha;obtain⟨g1,g2,g3⟩:=hb;simp only[z32,lub2,mx_eq];omega
theorem zou {a b:Time}(h:leT a b=true)(g:leT b a=true):z3u a b=true:=by
 simp only[leT,z3u,Bool.and_eq_true,decide_eq_true_eq,Bool.and_true]at*;omega
theorem zpw {a b t:Time}:leT (lub2 a b) t=true↔leT a t=true∧leT b t=true:=by
 simp only[zly,lub2,mx_eq];omega
end Go.Av
namespace Go.Av
open Go
theorem zpq {x y:Time}:z3u x y=true↔x=y:=by
 constructor
 ·intro h;simp only[z3u,Bool.and_eq_true,decide_eq_true_eq,Bool.and_true]at h;exact Time.ext' h.1 h.2.1 h.2.2
 ·rintro rfl;exact zlc x
theorem zpu {a b:Time}(h:leT a b=true)(g:leT b a=true):a=b:=zpq.1 (zou h g)
theorem zkh {a b:Time}(h:leT a b=true):ltT b a=false:=by
 cases e:ltT b a with
 |false=>rfl
 |true=>rw[zly]at h;rw[z6e]at e;omega
theorem lt_or {a b:Time}(h:ltT b a=false)(hne:a≠b):ltT a b=true:=by
 cases e:ltT a b with
 |true=>rfl
 |false=>
  refine absurd ?_ hne;rw[←Bool.not_eq_true,z6e]at h e;exact Time.ext' (by omega) (by omega) (by omega)
structure IsF (l f:List Time):Prop where
 sorted:f.Pairwise fun x y=>ltT x y=true
 sub: ∀x∈f,x∈l
 below: ∀y∈l,∃u∈f,leT u y=true
 least: ∀x∈f,∀y∈l,leT y x=true→y=x
theorem IsF.mem {l f:List Time}(h:IsF l f)(x:Time):x∈f↔x∈l∧ ∀y∈l,leT y x=true→y=x:=by
 constructor
 ·exact fun hx=>⟨h.sub x hx,h.least x hx⟩
 ·rintro⟨hx,hm⟩;obtain⟨u,hu,hle⟩:=h.below x hx;rw[←hm u (h.sub u hu) hle];exact hu
theorem IsF.congr {l m f:List Time}(h:IsF l f)(e: ∀x,x∈l↔x∈m):IsF m f:=
 ⟨h.sorted,fun x hx=>(e x).1 (h.sub x hx),fun y hy=>h.below y ((e y).2 hy),fun x hx y hy=>h.least x hx y ((e y).2 hy)⟩
theorem IsF.step {p f:List Time}{t:Time}(h:IsF p f)(hs: ∀x∈p,ltT t x=false):IsF (p++[t]) (if f.any (fun u=>leT u t)then f else f++[t]):=by
 by_cases hc:f.any (fun u=>leT u t)=true
 ·rw[if_pos hc];obtain⟨u,hu,hut⟩:=List.any_eq_true.1 hc;refine⟨h.sorted,fun x hx=>zz2.2 (.inl (h.sub x hx)),?_,?_⟩
  ·intro y hy;rcases zz2.1 hy with hy|hy
   ·exact h.below y hy
   ·rw[zz7.1 hy];exact⟨u,hu,hut⟩
  ·intro x hx y hy hle;rcases zz2.1 hy with hy|hy
   ·exact h.least x hx y hy hle
   ·rw[zz7.1 hy]at hle ⊢;have hux:=h.least x hx u (h.sub u hu) (zj5 hut hle)
    subst hux;exact zpu hle hut
 ·rw[if_neg hc];have hno: ∀u∈f,leT u t=false:=fun u hu=>by
   cases e:leT u t with
   |false=>rfl
   |true=>exact absurd (List.any_eq_true.2 ⟨u,hu,e⟩) hc
  have hnp: ∀y∈p,leT y t=false:=fun y hy=>by
   obtain⟨u,hu,hle⟩:=h.below y hy;cases e:leT y t with
   |false=>rfl
   |true=>have:=zj5 hle e;rw[hno u hu]at this;cases this
  refine⟨?_,?_,?_,?_⟩
  ·rw[List.pairwise_append];refine⟨h.sorted,by simp,fun x hx y hy=>?_⟩;rw[zz7.1 hy];refine lt_or (hs x (h.sub x hx)) (fun e=>?_);subst e;have:=hno x hx
   rw[zkd]at this;cases this
  ·intro x hx;rcases zz2.1 hx with hx|hx
   ·exact zz2.2 (.inl (h.sub x hx))
   ·exact zz2.2 (.inr hx)
  ·intro y hy;rcases zz2.1 hy with hy|hy
   ·obtain⟨u,hu,hle⟩:=h.below y hy;exact⟨u,zz2.2 (.inl hu),hle⟩
   ·exact⟨y,zz2.2 (.inr hy),zkd y⟩
  ·intro x hx y hy hle;rcases zz2.1 hx with hx|hx
   ·rcases zz2.1 hy with hy|hy
    ·exact h.least x hx y hy hle
    ·rw[zz7.1 hy]at hle ⊢;have h1:=hs x (h.sub x hx)
     have h2:=zkh hle;by_cases e:t=x
     ·exact e
     ·have:=lt_or h1 (fun h=>e h.symm);rw[h2]at this;cases this
   ·rw[zz7.1 hx]at hle ⊢;rcases zz2.1 hy with hy|hy
    ·rw[hnp y hy]at hle;cases hle
    ·exact zz7.1 hy
def zqn (l:List Time):List Time:=l.foldl (fun f t=>if f.any (fun u=>leT u t)then f else f++[t]) []
def zpr (l:List Time):List Time:=zqn (sortT l)
end Go.Av
namespace Go.Av
open Go
abbrev NN (l:List Time):Prop:= ∀x∈l,z32 x
end Go.Av
namespace Go.Av
open Go
def adv (t:Time)(f:List Time):Time:=if f=[]then t else lub2 t (glbL f)
theorem zpy {t u:Time}(ht:z32 t)(hu:z32 u):z62 [t,u]=some (lub2 t u):=by
 unfold z62;rw[zcd (fun x hx=>by
  rcases zzf.1 hx with rfl|hx
  ·exact ht
  ·rw[zz7.1 hx];exact hu),zke ht]
 rfl
end Go.Av
namespace Go.Av
open Go
def Fr (l:List Time):Prop:=(∀t∈l,okT t=true)∧zpr l=l
def advU (f:List Time)(u:Update):Update:=⟨u.key,u.row,adv u.time f,u.diff⟩
def advL (f:List Time)(l:List Update):List Update:=l.map (advU f)
def AdvOk (f:List Time)(l R:List Update)(e:Int):Prop:=(chkL l≠0∧R=[]∧e=chkL l)∨(chkL l=0∧zn1 (advL f l) R e)
def zlo (f:List Time)(l:List Update)(B:Batch)(e:Int):Prop:=
 (¬Fr f∧e=4∧B=⟨[],[]⟩)∨(Fr f∧ ∃R e',AdvOk f l R e'∧R.length≤l.length∧((e'≠0∧e=e'∧B=⟨[],[]⟩)∨(e'=0∧e=0∧B=⟨f,R⟩)))
end Go.Av
namespace Go.Av
open Go
structure EvenP (l:List Update):Prop where
 lt:l.Pairwise fun a b=>cU a b<0
 nz: ∀r∈l,r.diff≠0
 ok: ∀r∈l,okU r
end Go.Av
namespace Go.Av
open Go
abbrev kc (key:List Value)(u:Update):Int:=cmpL cmpV u.key key
def cntP (p:Update→Bool):List Update→Nat
 |[]=>0
 |u::l=>if p u then cntP p l+1 else 0
theorem zig (p:Update→Bool): ∀l,cntP p l≤l.length
 |[]=>zzc _
 |u::l=>by
  unfold cntP;split
  ·simp only[List.length_cons];have:=zig p l;omega
  ·exact Nat.zero_le _
theorem zih {p:Update→Bool}: ∀{l:List Update} {i:Nat},i<cntP p l→p (l.getD i zzd)=true
 |[],i,h=>by simp[cntP]at h
 |u::l,i,h=>by
  unfold cntP at h;split at h
  ·rename_i hu
   cases i with
   |zero=>exact hu
   |succ i=>simp only[List.getD_cons_succ];exact zih (by omega)
  ·omega
theorem zif {p:Update→Bool}: ∀{l:List Update},cntP p l<l.length→p (l.getD (cntP p l) zzd)=false
 |[],h=>by simp at h
 |u::l,h=>by
  unfold cntP at*;split
  ·rename_i hu
   rw[if_pos hu]at h;simp only[List.getD_cons_succ];exact zif (by simp only[List.length_cons]at h;omega)
  ·rename_i hu
   simpa using hu
end Go.Av
namespace Go.Av
open Go
abbrev upTo (l:List Update)(key:List Value):Nat:=(l.filter fun u=>decide (kc key u≤0)).length
end Go.Av
namespace Go.Av
open Go
def zqg (f:List Time)(l:List Update)(B:Batch)(e:Int):Prop:=
 (¬Fr f∧e=4∧B=⟨[],[]⟩)∨(Fr f∧ ∃R e',AdvOk f l R e'∧((e'≠0∧e=e'∧B=⟨[],[]⟩)∨(e'=0∧e=0∧B=⟨f,R⟩)))
theorem zlo.r {f:List Time}{l:List Update}{B:Batch}{e:Int}(h:zlo f l B e):zqg f l B e:=by
 rcases h with h|⟨h1,R,e',h2,_,h3⟩
 ·exact .inl h
 ·exact .inr ⟨h1,R,e',h2,h3⟩
end Go.Av
namespace Go.Av
open Go
section
variable {α:Type} {c:α→α→Int} {num:α→Int} {put:α→Int→α}
theorem zqc (hC:IsCmp c)(h2: ∀x n y,c (put x n) y=c x y){l1 l2:List (α×Int)}{R1 R2:List α}(ha:Tot c num put l1 R1 0)(hb:Tot c num put l2 R2 0)(hlt: ∀p∈l1,∀q∈l2,c p.1 q.1<0):Tot c num put (l1++l2) (R1++R2) 0:=by
 rcases ha with⟨_,a,fa⟩|⟨h,_⟩
 case inr=>omega
 rcases hb with⟨_,b,fb⟩|⟨h,_⟩
 case inr=>omega
 have h3: ∀x n y,c y (put x n)=c y x:=fun x n y=>by have:=hC.anti y (put x n);have:=hC.anti y x;have:=h2 x n y;omega
 have ne12: ∀p∈l1,∀q∈l2,c p.1 q.1≠0:=fun p hp q hq=>by have:=hlt p hp q hq;omega
 have ne21: ∀p∈l1,∀q∈l2,c q.1 p.1≠0:=fun p hp q hq=>by have:=hlt p hp q hq;have:=hC.anti p.1 q.1;omega
 have z2: ∀y,(∃p∈l1,c y p.1=0)→sm c l2 y=0:=fun y ⟨p,hp,e⟩=>z9j fun q hq=>by rw[hC.eqL q.1 e];exact ne12 p hp q hq
 have z1: ∀y,(∃p∈l2,c y p.1=0)→sm c l1 y=0:=fun y ⟨q,hq,e⟩=>z9j fun p hp=>by rw[hC.eqL p.1 e];exact ne21 p hp q hq
 have of1: ∀r∈R1,∃p∈l1,c r p.1=0:=fun r hr=>by
  obtain⟨p,hp,e⟩:=a.mem r hr;exact⟨p,hp,by rw[e,h2];exact hC.refl _⟩
 have of2: ∀r∈R2,∃p∈l2,c r p.1=0:=fun r hr=>by
  obtain⟨p,hp,e⟩:=b.mem r hr;exact⟨p,hp,by rw[e,h2];exact hC.refl _⟩
 refine .inl ⟨rfl,⟨?_,?_,?_,?_⟩,?_⟩
 ·rw[List.pairwise_append];refine⟨a.strict,b.strict,fun r hr s hs=>?_⟩;obtain⟨p,hp,e⟩:=of1 r hr;obtain⟨q,hq,e'⟩:=of2 s hs;rw[hC.eqL s e,hC.eqR p.1 e'];exact hlt p hp q hq
 ·intro r hr;rw[z6m];rcases zz2.1 hr with hr|hr
  ·rw[z2 r (of1 r hr),Int.add_zero];exact a.sum r hr
  ·rw[z1 r (of2 r hr),Int.zero_add];exact b.sum r hr
 ·intro r hr;rcases zz2.1 hr with hr|hr
  ·obtain⟨y,g1,g2⟩:=a.mem r hr;exact⟨y,List.mem_append_left _ g1,g2⟩
  ·obtain⟨y,g1,g2⟩:=b.mem r hr;exact⟨y,List.mem_append_right _ g1,g2⟩
 ·intro y hy hn;rw[z6m]at hn;rcases zz2.1 hy with hy|hy
  ·rw[z2 y.1 ⟨y,hy,hC.refl _⟩,Int.add_zero]at hn;obtain⟨r,g1,g2⟩:=a.all y hy hn;exact⟨r,List.mem_append_left _ g1,g2⟩
  ·rw[z1 y.1 ⟨y,hy,hC.refl _⟩,Int.zero_add]at hn;obtain⟨r,g1,g2⟩:=b.all y hy hn;exact⟨r,List.mem_append_right _ g1,g2⟩
 ·intro y;rw[z6m];by_cases e:sm c l1 y=0
  ·rw[e,Int.zero_add];exact fb y
  ·rw[z2 y (zdi e),Int.add_zero];exact fa y
end
theorem zq1 {t:Time}:okT t=true↔t.epoch≤4611686018427387904∧t.loop.1≤4611686018427387904∧t.loop.2≤4611686018427387904:=by
 unfold okT;simp only[Bool.and_eq_true,decide_eq_true_eq]
theorem zq2 {t s:Time}(h:okT t=true)(hs:okT s=true):okT (lub2 t s)=true:=by
 rw[zq1]at*;simp only[lub2,mx_eq];omega
theorem zfo (a b:List Update):pU (a++b)=pU a++pU b:=z9g _ a b
end Go.Av
/-
 Pairs of updates:what the maker makes.
-/
namespace Go.Av
open Go
def cKy (x y:Update):Int:=cmpL cmpV x.key y.key
theorem zn7:IsCmp cKy:=(IsCmp.list z86).on (fun u:Update=>u.key)
theorem znt (x y:Update):z1e x y=some (cKy x y):=by
 unfold z1e;rw[z6q];rfl
theorem rotK:z1p=rotG (α:=Update):=rfl
theorem insK:z12=insG (α:=Update) z1e:=rfl
theorem symK: ∀(fuel:Nat) (a b d:Int) (l:List Update),z0e fuel a b d l=symG (α:=Update) z1e fuel a b d l
 |0,_,_,_,_=>rfl
 |fuel+1,a,b,d,l=>by
  unfold z0e symG;simp only[rotK,symK fuel]
theorem stabK (fuel:Nat)(n:Int)(l:List Update):z19 fuel n l=stabG (α:=Update) z1e fuel n l:=by
 unfold z19 stabG;simp only[insK,symK]
theorem zhr {α:Type}[Inhabited α]{R:α→α→Prop}{l:List α}(h: ∀i j,i<j→j<l.length→R (l.getD i zzd) (l.getD j zzd)):l.Pairwise R:=by
 rw[List.pairwise_iff_getElem];intro i j hi hj hij;have:=h i j hij hj
 rwa[List.getD_eq_getElem?_getD,List.getElem?_eq_getElem hi,List.getD_eq_getElem?_getD,List.getElem?_eq_getElem hj]at this
theorem zpa {fuel:Nat}{l:List Update}(hn:l.length≤8000000000)(hf:40000000000≤fuel): ∃r,z0f fuel l=some r∧r.Perm l∧r.Pairwise fun x y=>cKy x y≤0:=by
 obtain⟨r,h1,h2,h3⟩:=zbi (c:=cKy) znt zn7 (fuel:=fuel) (l:=l) (by omega) (by omega);refine⟨r,?_,h2,zhr h3⟩;unfold z0f;rw[stabK,h1];rfl
theorem zpc {fuel:Nat}{l:List Update}(hn:l.length≤8000000000)(hf:40000000000≤fuel): ∃r,z0d fuel l=some r∧r.Perm l∧r.Pairwise fun x y=>cU x y≤0:=by
 obtain⟨r,h1,h2,h3⟩:=zbi (c:=cU) z8b cU_is (fuel:=fuel) (l:=l) (by omega) (by omega);refine⟨r,?_,h2,zhr h3⟩;unfold z0d;rw[zi6,h1];rfl
theorem zhw {key:List Value}: ∀{D:List Update},(D.Pairwise fun x y=>cKy x y≤0)→(∀y∈D,0≤kc key y)→D.filter (fun y=>decide (kc key y=0))=D.take (cntP (fun y=>decide (kc key y=0)) D)
 |[],_,_=>rfl
 |d::D,hp,hm=>by
  rw[List.pairwise_cons]at hp;unfold cntP;by_cases h:kc key d=0
  ·rw[List.filter_cons_of_pos (by simp[h]),if_pos (by simp[h]),List.take_succ_cons,zhw hp.2 fun y hy=>hm y (zz6 _ hy)]
  ·rw[List.filter_cons_of_neg (by simp[h]),if_neg (by simp[h]),List.take_zero,List.filter_eq_nil_iff];intro y hy hk;have h1:=hp.1 y hy
   have h2:=hm d (zz4 ..);have hk:=of_decide_eq_true hk
   have h3:=(IsCmp.list z86).tr d.key y.key key h1 (by show kc key y≤0;omega);have h3:kc key d≤0:=h3
   omega
theorem zqj {fuel:Nat}{r:List Update}{key:List Value}(hf:40000000000≤fuel)(hn:r.length≤8000000000)(hs:r.Pairwise fun x y=>cKy x y≤0):
 ∃(n:Nat) (b:Bool),n≤r.length∧z0c fuel r key=some ((n:Int),b)∧
  r.filter (fun y=>decide (kc key y=0))=(r.drop n).take (cntP (fun y=>decide (kc key y=0)) (r.drop n)):=by
 unfold z0c z3v;have hmono: ∀i j,i≤j→j<r.length→cKy (r.getD i zzd) (r.getD j zzd)≤0:=fun i j hij hj=>by
  by_cases e:i=j
  ·subst e;rw[zn7.refl];exact Int.le_refl _
  ·have:=(List.pairwise_iff_getElem.1 hs) i j (by omega) hj (by omega);rwa[List.getD_eq_getElem?_getD,List.getElem?_eq_getElem (show i<r.length by omega),List.getD_eq_getElem?_getD,List.getElem?_eq_getElem hj]
 obtain⟨n,h1,_,h3,h4,h5⟩:=zlt (R:=Empty) (P:=fun i=>decide (kc key (r.getD i zzd)<0)) (i0:=0) (j0:=r.length) (B:=fun(a1:Int×Int)=>bf (decide (a1.1<a1.2)) (need ((0:Int)≤(zzi.wrap (shrOp .u64 (zzu.wrap (zzi.wrap (a1.1+a1.2))) 1))∧(zzi.wrap (shrOp .u64 (zzu.wrap (zzi.wrap (a1.1+a1.2))) 1))<(r.length:Int))<|((z3q (r.getD ((zzi.wrap (shrOp .u64 (zzu.wrap (zzi.wrap (a1.1+a1.2))) 1)).toNat) zzd).key key).bind fun r1=>some r1).bind fun r8=>bf (decide (r8<0)) (some (.next ((zzi.wrap ((zzi.wrap (shrOp .u64 (zzu.wrap (zzi.wrap (a1.1+a1.2))) 1))+1)),a1.2))) (some (.next (a1.1,(zzi.wrap (shrOp .u64 (zzu.wrap (zzi.wrap (a1.1+a1.2))) 1)))))) (some (.brk (a1.1,a1.2))))
  r.length 0 r.length fuel (by omega) (by omega) (zzc _) (Nat.zero_le _) (zzc _) (.inl rfl) (.inl rfl) (fun i j _ hij hj=>by
   simp only[z0i,Int.ofNat_lt];by_cases h:i<j
   ·rw[if_pos h,if_pos h,zd9 (by omega),z0b (by omega),z6q];simp only[zz0,z0i,zzh,decide_eq_true_eq];rw[wadd1 (by omega)]
   ·rw[if_neg h,if_neg h])
 rw[show((0:Nat):Int)=(0:Int)from rfl]at h1;rw[h1];have hlow: ∀y∈r.take n,kc key y<0:=fun y hy=>by
  obtain⟨k,hk,rfl⟩:=List.mem_iff_getElem.1 hy;simp only[List.length_take]at hk;rcases h4 with h4|h4
  ·omega
  ·have h4:=of_decide_eq_true h4;have:=hmono k (n-1) (by omega) (by omega)
   have h2:=(IsCmp.list z86).le_lt (a:=(r.getD k zzd).key) this h4;rw[List.getElem_take];rwa[List.getD_eq_getElem?_getD,List.getElem?_eq_getElem (show k<r.length by omega)]at h2
 have hhigh: ∀y∈r.drop n,0≤kc key y:=fun y hy=>by
  obtain⟨k,hk,rfl⟩:=List.mem_iff_getElem.1 hy;simp only[zzl]at hk;rw[List.getElem_drop];rcases h5 with h5|h5
  ·omega
  ·have h5:=of_decide_eq_false h5;have:=hmono n (n+k) (by omega) (by omega)
   rw[List.getD_eq_getElem?_getD,List.getElem?_eq_getElem (show n<r.length by omega),List.getD_eq_getElem?_getD,List.getElem?_eq_getElem (show n+k<r.length by omega)]at this;rw[List.getD_eq_getElem?_getD,List.getElem?_eq_getElem (show n<r.length by omega)]at h5;rcases Int.lt_or_le (kc key (r[n+k]'(by omega))) 0 with g|g
   ·exact absurd ((IsCmp.list z86).le_lt (a:=(r[n]'(by omega)).key) this g) h5
   ·exact g
 have hfil:r.filter (fun y=>decide (kc key y=0))=(r.drop n).take (cntP (fun y=>decide (kc key y=0)) (r.drop n)):=by
  rw[←zhw (hs.sublist (List.drop_sublist n r)) hhigh]
  conv=>lhs;rw[←List.take_append_drop n r,List.filter_append]
  rw[List.filter_eq_nil_iff.2 (fun y hy=>by have:=hlow y hy;simp;omega),List.nil_append]
 simp only[z7e,jn_eq,z0i,Int.ofNat_lt];by_cases h:n<r.length
 ·rw[if_pos h,z0b (by omega),z6q];exact⟨n,_,h3,rfl,hfil⟩
 ·rw[if_neg h];exact⟨n,_,h3,rfl,hfil⟩
def mkP (x y:Update):Update:=⟨[],x.row++y.row,lub2 x.time y.time,x.diff*y.diff⟩
def okP (x y:Update):Bool:=decide ((-9223372036854775808≤x.diff*y.diff∧x.diff*y.diff<9223372036854775808)∧(x.row++y.row).length≤8)
def note (f:Fault)(t:Time):Fault:=if f.is=false∨cmpT t f.at_<0 then⟨true,t⟩else f
def stepP (m:JoinMaker)(p:Update×Update):JoinMaker:=if okP p.1 p.2=true then⟨⟨m.maker.fault,m.maker.list++[mkP p.1 p.2]⟩⟩else⟨⟨note m.maker.fault (lub2 p.1.time p.2.time),m.maker.list⟩⟩
theorem zq0 (f:Fault)(t:Time):z3l t f=some (note f t):=by
 unfold z3l note;simp only[jn_eq,z42];cases hf:f.is with
 |false=>rw[z2x,z6d,if_pos (.inl rfl)]
 |true=>
  rw[z6d,zb8];simp only[zz0,z0i];by_cases h:cmpT t f.at_<0
  ·rw[if_pos h,if_pos (.inr h)]
  ·rw[if_neg h,if_neg (fun g=>by rcases g with g|g;cases g;exact h g)]
theorem zp0 (m:JoinMaker)(t:Time):z3g t m=some ⟨⟨note m.maker.fault t,m.maker.list⟩⟩:=by
 unfold z3g note;simp only[jn_eq,z42];cases hf:m.maker.fault.is with
 |false=>rw[z2x,z6d,if_pos (.inl rfl)]
 |true=>
  rw[z6d,zb8];simp only[zz0,z0i];by_cases h:cmpT t m.maker.fault.at_<0
  ·rw[if_pos h,if_pos (.inr h)]
  ·rw[if_neg h,if_neg (fun g=>by rcases g with g|g;cases g;exact h g)]
theorem zot {p q:List Value}(hp:okRow p=true)(hq:okRow q=true):z8v [p,q]=some (if(p++q).length≤8 then(p++q,0)else([],2)):=by
 rw[zl2 (by simp)];unfold zk9;simp only[List.all_cons,List.all_nil,hp,hq,Bool.and_true,if_true,List.flatten_cons,List.flatten_nil,List.append_nil];congr 1;by_cases h:(p++q).length≤8
 ·rw[if_pos h,if_neg (by omega)]
 ·rw[if_neg h,if_pos (by omega)]
theorem zq3 {x y:Update}{m:JoinMaker}(hx:okU x)(hy:okU y)(tx:z32 x.time)(ty:z32 y.time)(dx:in64 x.diff)(dy:in64 y.diff)(hm:m.maker.list.length≤8000000000):z3b x y m=some (stepP m (x,y)):=by
 unfold z3b stepP;rw[zpy tx ty];simp only[zz0];rw[zot hx.2.1 hy.2.1];simp only[zz0];rw[zf7 dx dy];simp only[zz0];rw[zkj];simp only[zz0,z42,z0i];by_cases h:okP x y=true
 ·rw[if_pos h];obtain⟨h1,h2⟩:=of_decide_eq_true h;rw[if_pos h2,z9c h1,if_pos (by simp[thenC])];unfold z4z;rw[z0b (by simp;omega)];rfl
 ·rw[if_neg h,if_neg,zq0]
  ·rfl
  ·intro g;rw[z7i]at g;apply h;unfold okP;rw[decide_eq_true_eq];constructor
   ·by_cases k:in64 (x.diff*y.diff)
    ·exact k
    ·rw[z8f k]at g;exact absurd g.2 (by decide)
   ·by_cases k:(x.row++y.row).length≤8
    ·exact k
    ·rw[if_neg k]at g;exact absurd g.1 (by decide)
def z2m (a r:List Update):List (Update×Update):=a.flatMap fun x=>(r.filter fun y=>decide (kc x.key y=0)).map fun y=>(x,y)
theorem zo7 (m:JoinMaker)(p:Update×Update):(stepP m p).maker.list.length≤m.maker.list.length+1:=by
 unfold stepP;split<;>simp
theorem zfd: ∀(ps:List (Update×Update)) (m:JoinMaker),(ps.foldl stepP m).maker.list.length≤m.maker.list.length+ps.length
 |[],m=>by simp
 |p::ps,m=>by
  have:=zfd ps (stepP m p);have:=zo7 m p
  simp only[List.foldl_cons,List.length_cons];omega
theorem zgo (a r:List Update):(z2m a r).length≤a.length*r.length:=by
 unfold z2m;induction a with
 |nil=>simp
 |cons x a ih=>
  have:=List.length_filter_le (fun y=>decide (kc x.key y=0)) r;simp only[List.flatMap_cons,zzg,List.length_map,List.length_cons,Nat.succ_mul];omega
theorem zfp {a r:List Update}{i:Nat}(h:i<a.length):z2m (a.take (i+1)) r=z2m (a.take i) r++(r.filter fun y=>decide (kc (a.getD i zzd).key y=0)).map fun y=>(a.getD i zzd,y):=by
 unfold z2m;rw[z36 h,List.flatMap_append];simp
structure UsOk (l:List Update):Prop where
 ok: ∀u∈l,okU u
 t: ∀u∈l,z32 u.time
 d: ∀u∈l,in64 u.diff
theorem UsOk.perm {l m:List Update}(h:UsOk l)(p:m.Perm l):UsOk m:=⟨fun u hu=>h.ok u (p.mem_iff.1 hu),fun u hu=>h.t u (p.mem_iff.1 hu),fun u hu=>h.d u (p.mem_iff.1 hu)⟩
theorem zor {x:Update}{G:List Update}{s:JoinMaker}{fuel:Nat}{B:Int×JoinMaker→Option (Ctl (Int×JoinMaker) (Int×JoinMaker))}(hf:G.length+1<fuel)
 (hB: ∀(j:Nat) (s':JoinMaker),j<G.length→s'=((G.take j).map fun y=>(x,y)).foldl stepP s→B ((j:Int),s')=some (.next (((j+1:Nat):Int),stepP s' (x,G.getD j zzd))))
 (hE: ∀s',B ((G.length:Int),s')=some (.brk ((G.length:Int),s'))∨B ((G.length:Int),s')=some (.ret ((G.length:Int),s'))):
 (∃z,loopN B fuel (0,s)=some (.done (z,(G.map fun y=>(x,y)).foldl stepP s)))∨(∃z,loopN B fuel (0,s)=some (.ret (z,(G.map fun y=>(x,y)).foldl stepP s))):=by
 have key: ∀(k j g:Nat) (s':JoinMaker),j+k=G.length→k+1<g→s'=((G.take j).map fun y=>(x,y)).foldl stepP s→
  (∃z,loopN B g ((j:Int),s')=some (.done (z,(G.map fun y=>(x,y)).foldl stepP s)))∨(∃z,loopN B g ((j:Int),s')=some (.ret (z,(G.map fun y=>(x,y)).foldl stepP s))):=by
  intro k;induction k with
  |zero=>
   intro j g s' hj hg hs;obtain rfl:j=G.length:=by omega
   rw[List.take_length]at hs;subst hs;cases g with
   |zero=>omega
   |succ g=>
    rcases hE _ with h|h
    ·left;exact⟨_,z5s h⟩
    ·right;exact⟨_,znn h⟩
  |succ k ih=>
   intro j g s' hj hg hs;cases g with
   |zero=>omega
   |succ g=>
    rw[z5j (hB j s' (by omega) hs)];refine ih (j+1) g _ (by omega) (by omega) ?_;rw[z36 (by omega),List.map_append,List.foldl_append,←hs];rfl
 exact key G.length 0 fuel s (by omega) hf rfl
theorem zp2 {fuel:Nat}{a b:List Update}{m:JoinMaker}(hf:40000000000≤fuel)(ha:UsOk a)(hb:UsOk b)(hn:b.length≤4000000000)(hab:m.maker.list.length+a.length*b.length≤8000000000):
 ∃r,r.Perm b∧z1o fuel a b m=some ((z2m a r).foldl stepP m):=by
 unfold z1o z0x;rw[z0b (by omega)];obtain⟨r,h1,h2,h3⟩:=zpa (fuel:=fuel) (l:=b) (by omega) hf;simp only[zz0];rw[h1];simp only[zz0];have hlen:=h2.length_eq
 have hr:=hb.perm h2;rw[z0b hlen];refine⟨r,h2,?_⟩;rw[←hlen]at hab hn;rw[z7f ((z2m a r).foldl stepP m) (fun i s=>s=(z2m (a.take i) r).foldl stepP m) (fun s hs=>by rw[hs,List.take_length])]
 ·rfl
 ·intro i s hi hs;have hx:=z3m hi
  obtain⟨n,fb,n1,n2,n3⟩:=zqj (fuel:=fuel) (key:=(a.getD i zzd).key) hf (by omega) h3;rw[n2];simp only[zz0];rw[z0b (by omega)];have hc:=zig (fun y=>decide (kc (a.getD i zzd).key y=0)) (r.drop n)
  rw[zzl]at hc;have hpl:=zgo (a.take (i+1)) r
  have hle:(a.take (i+1)).length*r.length≤a.length*r.length:=Nat.mul_le_mul_right _ (by rw[List.length_take];omega);rw[zfp hi,n3,zzg,List.length_map,List.length_take,zzl,Nat.min_eq_left hc]at hpl;have hsl:=zfd (z2m (a.take i) r) m
  generalize hc':cntP (fun y=>decide (kc (a.getD i zzd).key y=0)) (r.drop n)=c at*;have hg: ∀t,n+t<r.length→(r.drop n).getD t zzd=r.getD (n+t) zzd:=fun t ht=>by simp[List.getD_eq_getElem?_getD,List.getElem?_drop]
  have hcl:((r.drop n).take c).length=c:=by rw[List.length_take,zzl];omega
  have hgc: ∀t,t<c→((r.drop n).take c).getD t zzd=r.getD (n+t) zzd:=fun t ht=>by
   rw[←hg _ (by omega)];simp[List.getD_eq_getElem?_getD,List.getElem?_take,ht]
  have key:=zor (x:=a.getD i zzd) (G:=(r.drop n).take c) (s:=s) (fuel:=fuel) (B:=fun(a9:Int×JoinMaker)=>bf (decide (a9.1<(((r.length:Int).toNat-(n:Int).toNat:Nat):Int))) (need ((0:Int)≤a9.1∧a9.1<(((r.length:Int).toNat-(n:Int).toNat:Nat):Int))<|need (((0+(n:Int).toNat)+a9.1.toNat)<r.length)<|(z3q ((a.getD i zzd).key) ((r.getD ((0+(n:Int).toNat)+a9.1.toNat) zzd).key)).bind fun r14=>bf (!decide (r14=0)) (some (.ret (a9.1,a9.2))) ((z3b (a.getD i zzd) (r.getD ((0+(n:Int).toNat)+a9.1.toNat) zzd) a9.2).bind fun r15=>some (.next ((zzi.wrap (a9.1+1)),r15)))) (some (.brk (a9.1,a9.2)))) (by omega) (fun j s' hj hs'=>by
   rw[hcl]at hj;simp only[z0i,zzh,zza];rw[if_pos (by omega),z0b (by omega),z0b (by omega),z6q];have hz:=of_decide_eq_true (zih (p:=fun y=>decide (kc (a.getD i zzd).key y=0)) (l:=r.drop n) (i:=j) (by omega))
   rw[hg _ (by omega)]at hz;have hy:=z3m (show n+j<r.length by omega)
   have hsl':=zfd ((((r.drop n).take c).take j).map fun y=>(a.getD i zzd,y)) s;rw[←hs',List.length_map,List.length_take]at hsl';simp only[zz0,z42,z0i];rw[if_pos ((IsCmp.list z86).symm0 hz),zq3 (ha.ok _ hx) (hr.ok _ hy) (ha.t _ hx) (hr.t _ hy) (ha.d _ hx) (hr.d _ hy) (by rw[hs]at hsl';omega)];simp only[zz0];rw[wadd1 (by omega),hgc _ hj]) (fun s'=>by
   simp only[z0i,zzh,zza,hcl];by_cases hl:c<r.length-n
   ·rw[if_pos (by omega),z0b (by omega),z0b (by omega),z6q];have hz:=of_decide_eq_false (zif (p:=fun y=>decide (kc (a.getD i zzd).key y=0)) (l:=r.drop n) (by rw[hc',zzl];exact hl));rw[hc',hg _ (by omega)]at hz;simp only[zz0,z42,z0i];rw[if_neg (fun h=>hz ((IsCmp.list z86).symm0 h))];exact .inr rfl
   ·rw[if_neg (by omega)];exact .inl rfl)
  have hfin:(((r.drop n).take c).map fun y=>(a.getD i zzd,y)).foldl stepP s=(z2m (a.take (i+1)) r).foldl stepP m:=by
   rw[zfp hi,n3,List.foldl_append,←hs]
  refine⟨_,?_,rfl⟩;rw[←hfin];rcases key with⟨z,hz⟩|⟨z,hz⟩
  ·rw[hz];rfl
  ·rw[hz];rfl
 ·simp[z2m]
end Go.Av
/-
 What a maker's list comes to,piece by piece.
-/
namespace Go.Av
open Go
theorem zq9 (l:List Update){n:Nat}(h:n≤l.length):Av.sub l (n:Int) (l.length:Int)=l.drop n:=by
 unfold Av.sub;simp only[zzh];exact List.take_of_length_le (by simp)
theorem sub_zero (l:List Update)(n:Nat):Av.sub l 0 (n:Int)=l.take n:=by
 unfold Av.sub;simp
theorem zhh: ∀(ps:List (Update×Update)) (m:JoinMaker),(ps.foldl stepP m).maker.list=m.maker.list++(ps.filter fun p=>okP p.1 p.2).map fun p=>mkP p.1 p.2
 |[],m=>by simp
 |p::ps,m=>by
  rw[List.foldl_cons,zhh ps];unfold stepP;by_cases h:okP p.1 p.2=true
  ·rw[if_pos h,List.filter_cons_of_pos (p:=fun p:Update×Update=>okP p.1 p.2) h];simp
  ·rw[if_neg h,List.filter_cons_of_neg (p:=fun p:Update×Update=>okP p.1 p.2) h]
theorem zgk: ∀(ps:List (Update×Update)) (m:JoinMaker),(ps.foldl stepP m).maker.fault=((ps.filter fun p=> !okP p.1 p.2).map fun p=>lub2 p.1.time p.2.time).foldl note m.maker.fault
 |[],m=>rfl
 |p::ps,m=>by
  rw[List.foldl_cons,zgk ps];unfold stepP;by_cases h:okP p.1 p.2=true
  ·rw[if_pos h,List.filter_cons_of_neg (p:=fun p:Update×Update=> !okP p.1 p.2) (by simp[h])]
  ·rw[if_neg h,List.filter_cons_of_pos (p:=fun p:Update×Update=> !okP p.1 p.2) (by simp[h])];rfl
def good (L:List Update)(u:Update):Bool:=decide (-9223372036854775808≤sm cU (pU L) u∧sm cU (pU L) u<9223372036854775808)
theorem zbw {L:List Update}{u:Update}:good L u=true↔in64 (sm cU (pU L) u):=by
 unfold good in64;rw[decide_eq_true_eq]
theorem zhv {d:Update}: ∀{D:List Update},(D.Pairwise fun x y=>cU x y≤0)→(∀y∈D,cU d y≤0)→(∀x∈D.take (cntP (fun y=>decide (cU d y=0)) D),cU d x=0)∧ ∀y∈D.drop (cntP (fun y=>decide (cU d y=0)) D),cU d y<0
 |[],_,_=>⟨fun x hx=>(by simp at hx),fun x hx=>(by simp at hx)⟩
 |e::D,hp,hm=>by
  rw[List.pairwise_cons]at hp;unfold cntP;by_cases h:cU d e=0
  ·rw[if_pos (decide_eq_true h),List.take_succ_cons,List.drop_succ_cons];obtain⟨h1,h2⟩:=zhv hp.2 fun y hy=>hm y (zz6 _ hy);refine⟨fun x hx=>?_,h2⟩;rcases zzf.1 hx with rfl|hx
   ·exact h
   ·exact h1 x hx
  ·rw[if_neg (by simp[h]),List.take_zero,List.drop_zero];refine⟨fun x hx=>(by cases hx),fun y hy=>?_⟩;have h1:cU d e<0:=by have:=hm e (zz4 ..);omega
   rcases zzf.1 hy with rfl|hy
   ·exact h1
   ·exact cU_is.lt_tr h1 (hp.1 y hy)
theorem zpk {u v:Update}(h:cU u v=0):u.time=v.time:=by
 unfold cU at h;rw[z7i,z7i,zix]at h;exact h.2.2
theorem zk1 {fuel:Nat}{l:List Update}(hf:40000000000≤fuel)(hl:UsOk l)(hn:l.length≤8000000000): ∃R e,z3o fuel [l]=some (R,e)∧TotU l R e∧R.length≤l.length:=by
 have hfl:([l]:List (List Update)).flatten=l:=by simp
 obtain⟨R,e,h1,h2,h3⟩:=zpn (fuel:=fuel) (ls:=[l]) hf (by rw[hfl];exact hn) (by rw[hfl];exact hl.d);rw[hfl]at h2 h3;refine⟨R,e,h1,?_,h3⟩;rcases h2 with⟨g,_⟩|⟨_,g⟩
 ·exact absurd (zau.2 hl.ok) g
 ·exact g
theorem UsOk.sub {l m:List Update}(h:UsOk l)(hs: ∀u∈m,u∈l):UsOk m:=⟨fun u hu=>h.ok u (hs u hu),fun u hu=>h.t u (hs u hu),fun u hu=>h.d u (hs u hu)⟩
structure PInv (L r:List Update) (m:JoinMaker) (k:Nat) (s:List Update×List Update×JoinMaker):Prop where
 kl:k≤r.length
 l:s.1=r.drop k
 tot:TotU ((r.take k).filter (good L)) s.2.1 0
 len:s.2.1.length≤k
 sep: ∀x∈r.take k,∀y∈r.drop k,cU x y<0
 ft: ∃ts:List Time,s.2.2=⟨⟨ts.foldl note m.maker.fault,m.maker.list⟩⟩∧ ∀t,t∈ts↔ ∃u∈r.take k,good L u=false∧u.time=t
theorem zhq {l m:List Update}(h:l.Perm m)(y:Update):sm cU (pU l) y=sm cU (pU m) y:=zm7 (h.map _) y
theorem zi3 {l:List Update}{y:Update}(h: ∀u∈l,cU y u≠0):sm cU (pU l) y=0:=z9j fun p hp=>by
 obtain⟨u,hu,rfl⟩:=zzk.1 hp;exact h u hu
theorem znu {fuel:Nat}{m:JoinMaker}(hf:40000000000≤fuel)(hl:UsOk m.maker.list)(hn:m.maker.list.length≤8000000000):
 ∃(out:List Update) (ts:List Time),z3d fuel m=some (out,⟨⟨ts.foldl note m.maker.fault,m.maker.list⟩⟩)∧TotU (m.maker.list.filter (good m.maker.list)) out 0∧out.length≤m.maker.list.length∧ ∀t,t∈ts↔ ∃u∈m.maker.list,good m.maker.list u=false∧u.time=t:=by
 unfold z3d z0x;rw[z0b (by omega)];obtain⟨r,h1,h2,h3⟩:=zpc (fuel:=fuel) (l:=m.maker.list) (by omega) hf;simp only[zz0];rw[h1];simp only[zz0];have hlen:=h2.length_eq
 have hr:=hl.perm h2;rw[z0b hlen];have hgd: ∀u,sm cU (pU m.maker.list) u=sm cU (pU r) u:=fun u=>(zhq h2 u).symm
 generalize hL:m.maker.list=L at*;refine za1 (G:=fun q=> ∃(out:List Update) (ts:List Time),q=some (out,(⟨⟨ts.foldl note m.maker.fault,L⟩⟩:JoinMaker))∧TotU (L.filter (good L)) out 0∧out.length≤L.length∧ ∀t,t∈ts↔ ∃u∈L,good L u=false∧u.time=t) (P:=fun s=>PInv L r m r.length s) ?_ ?_
 case refine_2=>
  rintro⟨l,out,m'⟩ ⟨_,_,q1,q2,_,ts,q3,q4⟩;dsimp only at q1 q2 q3;rw[List.take_length]at q1 q4;refine⟨out,ts,by rw[q3,hL],?_,by omega,fun t=>?_⟩
  ·have hp:(r.filter (good L)).Perm (L.filter (good L)):=h2.filter _;exact zee (hp.map _) q1
  ·rw[q4];exact⟨fun⟨u,hu,g⟩=>⟨u,h2.mem_iff.1 hu,g⟩,fun⟨u,hu,g⟩=>⟨u,h2.mem_iff.2 hu,g⟩⟩
 ·have hloop:=fun B hB=>zbb (S:=List Update×List Update×JoinMaker) (R:=Empty) (B:=B) (fun i s=> ∃k,i≤k∧PInv L r m k s) (fun s=>PInv L r m r.length s) (n:=r.length+1) (fuel:=fuel) (s:=(r,[],m)) (by omega)
   ⟨0,zzc _,⟨Nat.zero_le _,rfl,by rw[List.take_zero];exact .inl ⟨rfl,⟨List.Pairwise.nil,fun r hr=>(by cases hr),fun r hr=>(by cases hr),fun y hy=>(by cases hy)⟩,fun y=>(by show in64 0;unfold in64;omega)⟩,zzc _,fun x hx=>(by simp at hx),[],rfl,by simp⟩⟩ hB
  refine hloop _ ?_;rintro i ⟨l,out,m'⟩ ⟨k,hik,kl,e1,q1,q2,q3,ts,q4,q5⟩;dsimp only at e1 q1 q2 q4;subst e1 q4;simp only[z0i];by_cases hk:k<r.length
  case neg=>
   right;obtain rfl:k=r.length:=by omega
   rw[if_neg (by simp)];exact⟨_,rfl,⟨zzc _,rfl,q1,q2,q3,ts,rfl,q5⟩⟩
  left;rw[if_pos (by rw[zzl];omega)];have hD:=z4p hk
  have hps:=h3.sublist (List.drop_sublist k r);have hhd:(r.drop k).getD 0 zzd=r.getD k zzd:=by rw[hD];rfl
  have hmd: ∀y∈r.drop k,cU (r.getD k zzd) y≤0:=fun y hy=>by
   rw[hD]at hy hps;rcases zzf.1 hy with rfl|hy
   ·rw[cU_is.refl];exact Int.le_refl _
   ·exact(List.pairwise_cons.1 hps).1 y hy
  obtain⟨s1,s2⟩:=zhv hps hmd;have hn1:1≤cntP (fun y=>decide (cU (r.getD k zzd) y=0)) (r.drop k):=by
   rw[hD];unfold cntP;rw[if_pos (decide_eq_true (cU_is.refl _))];omega
  have hnle:=zig (fun y=>decide (cU (r.getD k zzd) y=0)) (r.drop k);rw[zzl]at hnle;have hlt: ∀j,j<cntP (fun y=>decide (cU (r.getD k zzd) y=0)) (r.drop k)→cU (r.getD k zzd) ((r.drop k).getD j zzd)=0:=fun j hj=>of_decide_eq_true (zih (p:=fun y=>decide (cU (r.getD k zzd) y=0)) hj)
  have hat:cntP (fun y=>decide (cU (r.getD k zzd) y=0)) (r.drop k)<(r.drop k).length→ ¬cU (r.getD k zzd) ((r.drop k).getD (cntP (fun y=>decide (cU (r.getD k zzd) y=0)) (r.drop k)) zzd)=0:=fun h=>of_decide_eq_false (zif (p:=fun y=>decide (cU (r.getD k zzd) y=0)) h);generalize cntP (fun y=>decide (cU (r.getD k zzd) y=0)) (r.drop k)=n at*;have hinner:=zlg (R:=Empty) (fuel:=fuel) (n:=n-1) (z:=((n:Nat):Int)) (fun j:Nat=>((1+j:Nat):Int)) (B:=fun(a6:Int)=>jn (fun(a16:Bool)=>bf a16 (some (.next (zzi.wrap (a6+1)))) (some (.brk a6))) fun j17=>if a6<((r.drop k).length:Int)then(need ((0:Int)≤0∧0<((r.drop k).length:Int))<|need ((0:Int)≤a6∧a6<((r.drop k).length:Int))<|(z2y ((r.drop k).getD 0 zzd) ((r.drop k).getD a6.toNat zzd)).bind fun r21=>j17 (decide (r21=0)))else(j17 false)) (by omega) (fun j hj=>by
   simp only[jn_eq,zzl,zzh];rw[if_pos (by omega),z0b (by omega),z0b (by omega),hhd,z8b];simp only[zz0];rw[hlt _ (by omega)];simp only[decide_true,z6d];rw[wadd1 (by omega),Nat.add_assoc]) (by
   simp only[jn_eq,zzl,zzh];rw[show 1+(n-1)=n by omega];by_cases h:n<r.length-k
   ·rw[if_pos (by omega),z0b (by omega),z0b (by omega),hhd,z8b];simp only[zz0];rw[decide_eq_false (hat (by rw[zzl];exact h)),z2x]
   ·rw[if_neg (by omega),z2x])
  rw[show((1+0:Nat):Int)=1 from rfl]at hinner;rw[hinner];simp only[z7e];rw[z0b (by rw[zzl];omega),sub_zero];have hpm: ∀u∈(r.drop k).take n,u∈r:=fun u hu=>List.mem_of_mem_drop (List.mem_of_mem_take hu)
  have hpl:((r.drop k).take n).length=n:=by rw[List.length_take,zzl];omega
  obtain⟨P,e,c1,c2,c3⟩:=zk1 (fuel:=fuel) hf (hr.sub hpm) (by rw[hpl];omega);rw[c1];rw[hpl]at c3;simp only[zz0,jn_eq,z42,z0i];have etk:r.take (k+n)=r.take k++(r.drop k).take n:=List.take_add
  have edr:r.drop (k+n)=(r.drop k).drop n:=by rw[List.drop_drop]
  have hsub:Av.sub (r.drop k) ((n:Nat):Int) ((r.drop k).length:Int)=r.drop (k+n):=by rw[zq9 _ (by rw[zzl];omega),edr]
  have hsep: ∀x∈r.take (k+n),∀y∈r.drop (k+n),cU x y<0:=fun x hx y hy=>by
   rw[etk]at hx;rw[edr]at hy;rcases zz2.1 hx with g|g
   ·exact q3 x g y (List.mem_of_mem_drop hy)
   ·rw[cU_is.eqL y (cU_is.symm0 (s1 x g))];exact s2 y hy
  --the sum of the piece's class
  have hsum: ∀u∈(r.drop k).take n,sm cU (pU L) u=sm cU (pU ((r.drop k).take n)) u:=fun u hu=>by
   have hu0:=s1 u hu;rw[hgd];have er:r=r.take k++((r.drop k).take n++(r.drop k).drop n):=by rw[List.take_append_drop,List.take_append_drop]
   conv=>lhs;rw[er]
   rw[zfo,zfo,z6m,z6m,zi3 (l:=r.take k) (fun x hx h=>by
    have:=q3 x hx _ (List.mem_of_mem_take hu);have:=cU_is.symm0 h
    omega),zi3 (l:=(r.drop k).drop n) (fun y hy h=>by
    have:=s2 y hy;rw[cU_is.eqL y hu0]at this;omega)]
   omega
  have hcls: ∀u∈(r.drop k).take n,sm cU (pU ((r.drop k).take n)) u=sm cU (pU ((r.drop k).take n)) (r.getD k zzd):=fun u hu=>(z5p cU_is (s1 u hu) _).symm;have hkn:i+1≤k+n:=by omega
  by_cases he:e=0
  ·subst he;rw[if_pos rfl,z0b (by omega),z0b (by rw[zzl];omega),hsub];refine⟨_,rfl,⟨k+n,hkn,by omega,rfl,?_,?_,hsep,ts,rfl,?_⟩,by omega⟩
   ·rcases c2 with⟨_,c2,cf⟩|⟨c2,_⟩
    case inr=>omega
    have hall:((r.drop k).take n).filter (good L)=(r.drop k).take n:=List.filter_eq_self.2 fun u hu=>zbw.2 (by rw[hsum u hu];exact cf u);rw[etk,List.filter_append,hall];show Tot cU (fun x=>x.diff) z4t (pU (_++_)) (out++P) 0;rw[zfo];refine zqc (put:=z4t) cU_is (fun x n y=>rfl) q1 (.inl ⟨rfl,c2,cf⟩) fun p hp q hq=>?_;obtain⟨x,hx,rfl⟩:=zzk.1 hp;obtain⟨y,hy,rfl⟩:=zzk.1 hq;exact q3 x (zzm.1 hx).1 y (List.mem_of_mem_take hy)
   ·dsimp only;rw[zzg];omega
   ·intro t;rw[q5,etk];constructor
    ·rintro⟨u,hu,g⟩;exact⟨u,List.mem_append_left _ hu,g⟩
    ·rintro⟨u,hu,g1,g2⟩;rcases zz2.1 hu with hu|hu
     ·exact⟨u,hu,g1,g2⟩
     ·rcases c2 with⟨_,_,cf⟩|⟨c2,_⟩
      ·have:=zbw.2 (show in64 (sm cU (pU L) u)by rw[hsum u hu];exact cf u);rw[this]at g1;cases g1
      ·omega
  ·rw[if_neg he,z0b (by rw[zzl];omega),zp0];simp only[zz0];rcases c2 with⟨c2,_⟩|⟨_,rfl,cf⟩
   ·exact absurd c2 he
   rw[z0b (by simp;omega),z0b (by rw[zzl];omega),hsub,hhd,List.append_nil];have hbad: ∀u∈(r.drop k).take n,good L u=false:=fun u hu=>by
    cases hg:good L u with
    |false=>rfl
    |true=>
     exfalso;have hg:=zbw.1 hg
     rw[hsum u hu]at hg;apply cf;intro y;by_cases hy: ∃x∈(r.drop k).take n,cU y x=0
     ·obtain⟨x,hx,hyx⟩:=hy;rw[z5p cU_is hyx,hcls x hx,←hcls u hu];exact hg
     ·rw[zi3 fun x hx h=>hy ⟨x,hx,h⟩];unfold in64;omega
   refine⟨_,rfl,⟨k+n,hkn,by omega,rfl,?_,by dsimp only;omega,hsep,ts++[(r.getD k zzd).time],by rw[List.foldl_append];rfl,?_⟩,by omega⟩
   ·have hno:((r.drop k).take n).filter (good L)=[]:=List.filter_eq_nil_iff.2 fun u hu=>by rw[hbad u hu];simp
    rw[etk,List.filter_append,hno,List.append_nil];exact q1
   ·intro t;rw[zz2,q5,etk,zz7];constructor
    ·rintro(⟨u,hu,g⟩|rfl)
     ·exact⟨u,List.mem_append_left _ hu,g⟩
     ·have hm:r.getD k zzd∈(r.drop k).take n:=by
       rw[hD];cases n with
       |zero=>omega
       |succ n=>rw[List.take_succ_cons];exact zz4 ..
      exact⟨_,List.mem_append_right _ hm,hbad _ hm,rfl⟩
    ·rintro⟨u,hu,g1,g2⟩;rcases zz2.1 hu with hu|hu
     ·exact .inl ⟨u,hu,g1,g2⟩
     ·right;rw[←g2,zpk (s1 u hu)]
theorem zni {L R:List Update}{e:Int}(h:TotU L R e):(e=0→ ∀u,good L u=true)∧(e≠0→ ∃u∈L,good L u=false):=by
 rcases h with⟨h1,h2,h3⟩|⟨h1,h2,h3⟩
 ·exact⟨fun _ u=>zbw.2 (h3 u),fun h=>absurd h1 h⟩
 ·refine⟨fun h=>by omega,fun _=>?_⟩;apply Classical.byContradiction;intro hn;apply h3;intro y;by_cases hy: ∃x∈L,cU y x=0
  ·obtain⟨x,hx,hyx⟩:=hy;rw[z5p cU_is hyx];cases hg:good L x with
   |true=>exact zbw.1 hg
   |false=>exact absurd ⟨x,hx,hg⟩ hn
  ·rw[zi3 fun x hx h=>hy ⟨x,hx,h⟩];unfold in64;omega
theorem zpo {fuel:Nat}{m:JoinMaker}(hf:40000000000≤fuel)(hl:UsOk m.maker.list)(hn:m.maker.list.length≤8000000000):
 ∃(out:List Update) (ts:List Time) (t:Time) (w:Int) (m':JoinMaker),z1y fuel m=some (out,t,w,m')∧TotU (m.maker.list.filter (good m.maker.list)) out 0∧out.length≤m.maker.list.length∧(∀t,t∈ts↔ ∃u∈m.maker.list,good m.maker.list u=false∧u.time=t)∧
  (((ts.foldl note m.maker.fault).is=false∧t=zeroT∧w=0)∨((ts.foldl note m.maker.fault).is=true∧t=(ts.foldl note m.maker.fault).at_∧w=10)):=by
 unfold z1y;obtain⟨R,e,h1,h2,h3⟩:=zk1 (fuel:=fuel) hf hl hn;rw[h1];simp only[zz0,jn_eq,z42,z0i];obtain⟨g1,g2⟩:=zni h2;by_cases he:e=0
 ·subst he;rw[if_pos rfl];have hall:m.maker.list.filter (good m.maker.list)=m.maker.list:=List.filter_eq_self.2 fun u _=>g1 rfl u
  cases hi:m.maker.fault.is with
  |false=>
   rw[z2x];exact⟨R,[],_,_,_,rfl,by rw[hall];exact h2,h3,fun t=>by simp[g1],.inl ⟨hi,rfl,rfl⟩⟩
  |true=>
   rw[z6d];exact⟨R,[],_,_,_,rfl,by rw[hall];exact h2,h3,fun t=>by simp[g1],.inr ⟨hi,rfl,rfl⟩⟩
 ·rw[if_neg he];obtain⟨out,ts,p1,p2,p3,p4⟩:=znu (fuel:=fuel) hf hl hn;rw[p1];simp only[zz0];cases hi:(ts.foldl note m.maker.fault).is with
  |false=>
   rw[z2x];exact⟨out,ts,_,_,_,rfl,p2,p3,p4,.inl ⟨hi,rfl,rfl⟩⟩
  |true=>
   rw[z6d];exact⟨out,ts,_,_,_,rfl,p2,p3,p4,.inr ⟨hi,rfl,rfl⟩⟩
end Go.Av
namespace Go.Av
open Go
theorem zpt {n:Int}(h:okInt .i64 n):in64 n:=by
 have:=Go.bounds_i64 h;unfold in64;omega
theorem ze3 {n:Int}(h:okInt .u64 n):0≤n:=(Go.bounds_u64 h).1
theorem zj9 {t:Time}(h:zfm t):z32 t:=⟨ze3 h.1,ze3 h.2.1.1,ze3 h.2.1.2⟩
abbrev okUs (l:List Update):Prop:=l.length≤maxN∧ ∀x∈l,ze5 x
abbrev okTs (l:List Time):Prop:=l.length≤maxN∧ ∀x∈l,zfm x
theorem us_in {l:List Update}(h:okUs l): ∀u∈l,in64 u.diff:=fun u hu=>zpt (h.2 u hu).2.2.2.1
theorem us_nn {l:List Update}(h:okUs l): ∀u∈l,z32 u.time:=fun u hu=>zj9 (h.2 u hu).2.2.1
end Go.Av
/-
 Pairs of two lists;what two lists make with a third one.
-/
namespace Go.Av
open Go
def First (f:Fault)(T:List Time):Prop:=(f.is=true↔T≠[])∧(f.is=true→f.at_∈T∧ ∀t∈T,cmpT f.at_ t≤0)
theorem First.note {f:Fault}{T:List Time}(h:First f T)(t:Time):First (note f t) (T++[t]):=by
 obtain⟨h1,h2⟩:=h;unfold Av.note;by_cases g:f.is=false∨cmpT t f.at_<0
 ·rw[if_pos g];refine⟨by simp,fun _=>⟨by simp,fun s hs=>?_⟩⟩;rcases zz2.1 hs with hs|hs
  ·cases hf:f.is with
   |false=>rw[hf]at h1;exact absurd (h1.2 fun e=>by rw[e]at hs;cases hs) (by simp)
   |true=>
    obtain⟨h3,h4⟩:=h2 hf;rcases g with g|g
    ·rw[hf]at g;cases g
    ·have:=zd1.lt_tr g (h4 s hs);show cmpT t s≤0;omega
  ·rw[zz7.1 hs];show cmpT t t≤0;rw[zd1.refl];exact Int.le_refl _
 ·rw[if_neg g];have hf:f.is=true:=by cases hf:f.is with
   |true=>rfl
   |false=>exact absurd (.inl hf) g
  obtain⟨h3,h4⟩:=h2 hf;refine⟨by simp[hf],fun _=>⟨List.mem_append_left _ h3,fun s hs=>?_⟩⟩;rcases zz2.1 hs with hs|hs
  ·exact h4 s hs
  ·rw[zz7.1 hs];have: ¬cmpT t f.at_<0:=fun x=>g (.inr x);have:=zd1.anti f.at_ t
   omega
theorem zdm: ∀(ts:List Time) {f:Fault} {T:List Time},First f T→First (ts.foldl Av.note f) (T++ts)
 |[],f,T,h=>by rw[List.append_nil];exact h
 |t::ts,f,T,h=>by
  have:=zdm ts (h.note t);rw[List.append_assoc]at this;exact this
theorem First.nil (t:Time):First ⟨false,t⟩ []:=⟨by simp,by simp⟩
def prodL (a b:List Update):List Update:=(z2m a b).map fun p=>mkP p.1 p.2
def okL (a b:List Update):List Update:=((z2m a b).filter fun p=>okP p.1 p.2).map fun p=>mkP p.1 p.2
theorem zkk {a r b:List Update}(h:r.Perm b):(z2m a r).Perm (z2m a b):=by
 unfold z2m;induction a with
 |nil=>exact .refl _
 |cons x a ih=>simp only[List.flatMap_cons];exact((h.filter _).map _).append ih
theorem zlh {a b:List Update}{p:Update×Update}(h:p∈z2m a b):p.1∈a∧p.2∈b∧kc p.1.key p.2=0:=by
 unfold z2m at h;obtain⟨x,hx,h⟩:=List.mem_flatMap.1 h;obtain⟨y,hy,rfl⟩:=zzk.1 h;obtain⟨h1,h2⟩:=zzm.1 hy;exact⟨hx,h1,of_decide_eq_true h2⟩
theorem zfg {L M:List Update}(h:L.Perm M)(u:Update):good L u=good M u:=by
 unfold good;rw[zhq h]
theorem zqr {x y:Update}(hx:okU x)(hy:okU y)(h:okP x y=true):okU (mkP x y):=by
 obtain⟨_,h2⟩:=of_decide_eq_true h;refine⟨by rfl,?_,?_⟩
 ·unfold mkP okRow;dsimp only;rw[Bool.and_eq_true,List.all_append,(z5t hx.2.1).1,(z5t hy.2.1).1];exact⟨decide_eq_true h2,rfl⟩
 ·exact zq2 hx.2.2 hy.2.2
theorem zkg {a b:List Update}(ha:UsOk a)(hb:UsOk b):UsOk (okL a b):=by
 have key: ∀u∈okL a b,∃x∈a,∃y∈b,okP x y=true∧u=mkP x y:=fun u hu=>by
  obtain⟨p,hp,rfl⟩:=zzk.1 hu;obtain⟨h1,h2⟩:=zzm.1 hp;obtain⟨h3,h4,_⟩:=zlh h1;exact⟨p.1,h3,p.2,h4,h2,rfl⟩
 refine⟨fun u hu=>?_,fun u hu=>?_,fun u hu=>?_⟩<;>obtain⟨x,hx,y,hy,h,rfl⟩:=key u hu
 ·exact zqr (ha.ok x hx) (hb.ok y hy) h
 ·exact zpx (ha.t x hx) (hb.t y hy)
 ·exact(of_decide_eq_true h).1
def FT (a b:List Update)(t:Time):Prop:=(∃p∈z2m a b,okP p.1 p.2=false∧lub2 p.1.time p.2.time=t)∨(∃u∈okL a b,good (okL a b) u=false∧u.time=t)
structure PairR (a b out:List Update) (t:Time) (w:Int):Prop where
 tot:TotU ((okL a b).filter (good (okL a b))) out 0
 len:out.length≤a.length*b.length
 ft:(w=0∧t=zeroT∧ ∀s,¬FT a b s)∨(w=10∧FT a b t∧ ∀s,FT a b s→cmpT t s≤0)
theorem zqs {fuel:Nat}{a b:List Update}(hf:40000000000≤fuel)(ha:UsOk a)(hb:UsOk b)(hn:b.length≤4000000000)(hab:a.length*b.length≤8000000000):
 ∃m out t w m',z1o fuel a b (⟨⟨⟨false,⟨0,(0,0)⟩⟩,[]⟩⟩:JoinMaker)=some m∧z1y fuel m=some (out,t,w,m')∧PairR a b out t w:=by
 obtain⟨r,h1,h2⟩:=zp2 (fuel:=fuel) (m:=(⟨⟨⟨false,⟨0,(0,0)⟩⟩,[]⟩⟩:JoinMaker)) hf ha hb hn (by simpa using hab);have hlen:=h1.length_eq
 have hL:=zhh (z2m a r) (⟨⟨⟨false,⟨0,(0,0)⟩⟩,[]⟩⟩:JoinMaker);have hF:=zgk (z2m a r) (⟨⟨⟨false,⟨0,(0,0)⟩⟩,[]⟩⟩:JoinMaker)
 rw[List.nil_append]at hL;have hpp:=zkk (a:=a) h1
 have hLp:(okL a r).Perm (okL a b):=(hpp.filter _).map _;have hll:(okL a r).length≤a.length*b.length:=by
  unfold okL;rw[List.length_map];have:=List.length_filter_le (fun p:Update×Update=>okP p.1 p.2) (z2m a r)
  have:=zgo a r;rw[hlen]at this;omega
 generalize (z2m a r).foldl stepP (⟨⟨⟨false,⟨0,(0,0)⟩⟩,[]⟩⟩:JoinMaker)=m at*;change m.maker.list=okL a r at hL;have hus:UsOk m.maker.list:=by rw[hL];exact zkg ha (hb.perm h1)
 obtain⟨out,ts,t,w,m',d1,d2,d3,d4,d5⟩:=zpo (fuel:=fuel) (m:=m) hf hus (by rw[hL];omega);rw[hL]at d2 d3 d4;refine⟨m,out,t,w,m',h2,d1,?_,by omega,?_⟩
 ·have hp:((okL a r).filter (good (okL a r))).Perm ((okL a b).filter (good (okL a b))):=by
   have e:good (okL a r)=good (okL a b):=funext fun u=>zfg hLp u;rw[e];exact hLp.filter _
  exact zee (hp.map _) d2
 ·have hfi:=zdm ts (f:=m.maker.fault) (T:=((z2m a r).filter fun p=> !okP p.1 p.2).map fun p=>lub2 p.1.time p.2.time) (by
   rw[hF];have:=zdm (((z2m a r).filter fun p=> !okP p.1 p.2).map fun p=>lub2 p.1.time p.2.time) (First.nil ⟨0,(0,0)⟩);rw[List.nil_append]at this;exact this)
  have hT: ∀s,s∈(((z2m a r).filter fun p=> !okP p.1 p.2).map fun p=>lub2 p.1.time p.2.time)++ts↔FT a b s:=fun s=>by
   rw[zz2,d4];unfold FT;constructor
   ·rintro(g|⟨u,hu,g1,g2⟩)
    ·obtain⟨p,hp,rfl⟩:=zzk.1 g;obtain⟨k1,k2⟩:=zzm.1 hp;exact .inl ⟨p,hpp.mem_iff.1 k1,by simpa using k2,rfl⟩
    ·exact .inr ⟨u,hLp.mem_iff.1 hu,by rw[←zfg hLp];exact g1,g2⟩
   ·rintro(⟨p,hp,g1,g2⟩|⟨u,hu,g1,g2⟩)
    ·exact .inl (zzk.2 ⟨p,zzm.2 ⟨hpp.mem_iff.2 hp,by simp[g1]⟩,g2⟩)
    ·exact .inr ⟨u,hLp.mem_iff.2 hu,by rw[zfg hLp];exact g1,g2⟩
  obtain⟨k1,k2⟩:=hfi;rcases d5 with⟨g1,g2,g3⟩|⟨g1,g2,g3⟩
  ·left;refine⟨g3,g2,fun s hs=>?_⟩;have:=k1.2 (fun e=>by have:=(hT s).2 hs;rw[e]at this;cases this)
   rw[g1]at this;cases this
  ·right;obtain⟨k3,k4⟩:=k2 g1;rw[←g2]at k3 k4;exact⟨g3,(hT t).1 k3,fun s hs=>k4 s ((hT s).2 hs)⟩
theorem zka {fuel:Nat}{a b:List Update}(hf:40000000000≤fuel)(da: ∀u∈a,in64 u.diff)(ta: ∀u∈a,z32 u.time)(db: ∀u∈b,in64 u.diff)(tb: ∀u∈b,z32 u.time)(hn:b.length≤4000000000)(hab:a.length*b.length≤8000000000):
 ∃out t w,z8r fuel a b=some (out,t,w)∧((thenC (chkL a) (chkL b)≠0∧out=[]∧t=zeroT∧w=thenC (chkL a) (chkL b))∨(UsOk a∧UsOk b∧PairR a b out t w)):=by
 unfold z8r;rw[z9t (by omega),z9t (by omega)];simp only[zz0];rw[zkj];simp only[zz0,z42,z0i];by_cases h:thenC (chkL a) (chkL b)=0
 ·rw[if_pos h];obtain⟨h1,h2⟩:=z7i.1 h;have ha:UsOk a:=⟨zau.1 h1,ta,da⟩
  have hb:UsOk b:=⟨zau.1 h2,tb,db⟩;obtain⟨m,out,t,w,m',e1,e2,e3⟩:=zqs (fuel:=fuel) hf ha hb hn hab;rw[e1];simp only[zz0];rw[e2];exact⟨out,t,w,rfl,.inr ⟨ha,hb,e3⟩⟩
 ·rw[if_neg h];exact⟨_,_,_,rfl,.inl ⟨h,rfl,rfl,rfl⟩⟩
theorem PairR.fine {a b out:List Update}{t:Time}{w:Int}(h:PairR a b out t w)(hw:w=0):TotU (prodL a b) out 0∧t=zeroT∧okL a b=prodL a b:=by
 rcases h.ft with⟨_,h1,h2⟩|⟨h1,_⟩
 case inr=>omega
 have e:okL a b=prodL a b:=by
  unfold okL prodL;rw[List.filter_eq_self.2 fun p hp=>?_];cases ho:okP p.1 p.2 with
  |true=>rfl
  |false=>exact absurd (.inl ⟨p,hp,ho,rfl⟩) (h2 _)
 have h3:=h.tot;rw[List.filter_eq_self.2 fun u hu=>?_]at h3
 ·rw[e]at h3;exact⟨h3,h1,e⟩
 ·cases hg:good (okL a b) u with
  |true=>rfl
  |false=>exact absurd (.inr ⟨u,hu,hg,rfl⟩) (h2 _)
theorem PairR.w {a b out:List Update}{t:Time}{w:Int}(h:PairR a b out t w):w=0∨w=10:=by
 rcases h.ft with⟨h,_⟩|⟨h,_⟩
 ·exact .inl h
 ·exact .inr h
theorem zkm (a a' b:List Update):prodL (a++a') b=prodL a b++prodL a' b:=by
 unfold prodL z2m;rw[List.flatMap_append,List.map_append]
theorem zmc (l:List Update):9*l.length≤(l.map z74).sum:=by
 induction l with
 |nil=>simp
 |cons u l ih=>
  have:9≤z74 u:=by unfold z74 zdr;dsimp only;omega
  simp only[List.length_cons,zzp,List.sum_cons];omega
theorem zq4 {p q:Nat}(h:p+q≤116508):p*q≤8000000000:=by
 rcases Nat.le_total p 58254 with g|g
 ·exact Nat.le_trans (Nat.mul_le_mul g (show q≤116508 by omega)) (by decide)
 ·exact Nat.le_trans (Nat.mul_le_mul (show p≤116508 by omega) (show q≤58254 by omega)) (by decide)
theorem zpv:z68 100000000000=some true:=by kernel_rfl
end Go.Av
/-
 What PVC6 .. PZ56 say of counts,for r12.
-/
namespace Go.Av
open Go
def cK (a b:Count):Int:=cmpL cmpV a.row b.row
theorem cK_is:IsCmp cK:=z86.list.on fun u:Count=>u.row
theorem zgi (a b:Count):z3t a b=some (cK a b):=by
 unfold z3t cK;simp only[z6q,zz0]
def z6g (x:Count)(n:Int):Count:=⟨x.row,n⟩
theorem znv {x:Count}{n:Int}(h:x.row.length≤8):z8c x n=some (z6g x n):=by
 unfold z8c z0p;rw[z0b (by omega)];rfl
def zc7 (x:Line_Count)(p:Count×Int):Prop:=x.of=p.1∧repT x.tally p.2
theorem zn5 {a:List Line_Count}{x:Line_Count}{p s:Int}(hp:in64 p)(h:repT x.tally s):
 ∃t:Tally,z44 a.length p (a++[x])=some (a++[(⟨t,x.of⟩:Line_Count)])∧repT t (s+p):=by
 obtain⟨hh,hl,hs⟩:=h;unfold in64 inU64 repT at*;unfold z44 z72;simp only[zce,zm3,zze,zzg,List.length_singleton,shr63 hp,z82];rw[z0b (by omega),z0b (by omega)];simp only[zz0];rw[z0b (by omega),z0b (by omega),z0b (by split<;>omega)];simp only[zz0];rw[z0b (by omega)];refine⟨_,rfl,?_,?_,?_⟩
 ·simp only[inU64];omega
 ·simp only[inU64];omega
 ·simp only;split<;>omega
theorem znh {x:Line_Count}{s:Int}(h:repT x.tally s)(hb: -85070591730234615865843651857942052864≤s∧s≤85070591730234615865843651857942052864):z45 x=some ((fit64 s).1,(fit64 s).2,x):=by
 obtain⟨hh,hl,hs⟩:=h;unfold inU64 at*;have hw:in64 (zzi.wrap x.tally.low):=by unfold in64;rw[z9f];split<;>omega
 unfold z45;rw[shr63 hw,z82];by_cases h: -9223372036854775808≤s∧s<9223372036854775808
 ·rw[z9c h];have e1:zzi.wrap x.tally.low=s:=by rw[z9f];split<;>omega
  rw[e1];have e2:x.tally.high=(if s<0 then(-1:Int)else 0) % 18446744073709551616:=by split<;>omega
  rw[decide_eq_true e2];rfl
 ·rw[z8f h];have e2: ¬x.tally.high=(if zzi.wrap x.tally.low<0 then(-1:Int)else 0) % 18446744073709551616:=by
   rw[z9f];split<;>split<;>omega
  rw[decide_eq_false e2];rfl
theorem zp4:z2i=rotG (α:=Count):=rfl
theorem zos:z1k=insG (α:=Count) z3t:=rfl
theorem zky: ∀(fuel:Nat) (a b d:Int) (l:List Count),z0r fuel a b d l=symG (α:=Count) z3t fuel a b d l
 |0,_,_,_,_=>rfl
 |fuel+1,a,b,d,l=>by
  unfold z0r symG;simp only[zp4,zky fuel]
theorem zo6 (fuel:Nat)(n:Int)(l:List Count):z20 fuel n l=stabG (α:=Count) z3t fuel n l:=by
 unfold z20 stabG;simp only[zos,zky]
theorem zn0 {fuel:Nat}{l:List Count}(hl: ∀x∈l,in64 x.n)(hr: ∀x∈l,x.row.length≤8)(hn:l.length≤8000000000)(hf:40000000000≤fuel):
 ∃R e l',z16 fuel l=some (R,e,l')∧Tot cK (fun x=>x.n) z6g (PR (fun x=>x.n) l) R e∧R.length≤l.length:=by
 obtain⟨r1,h1,h2,h3⟩:=zbi (c:=cK) zgi cK_is (fuel:=fuel) (l:=l) (by omega) (by omega);have hlen:r1.length=l.length:=h2.length_eq
 unfold z16 z10;rw[zo6,h1];simp only[zz0];rw[z0b hlen]
 suffices hS: ∃R e,(_:Option ((List Count)×Int×(List Count)))=some (R,e,r1)∧Tot cK (fun x=>x.n) z6g (PR (fun x=>x.n) r1) R e∧R.length≤r1.length by
  obtain⟨R,e,g1,g2,g3⟩:=hS;refine⟨R,e,r1,?_,zee ?_ g2,by omega⟩
  ·exact g1
  ·exact h2.map _
 have hl1: ∀x∈r1,in64 x.n:=fun x hx=>hl x (h2.mem_iff.1 hx);have hr1: ∀x∈r1,x.row.length≤8:=fun x hx=>hr x (h2.mem_iff.1 hx)
 refine za1 (G:=fun q=> ∃R e,q=some (R,e,r1)∧Tot cK (fun x=>x.n) z6g (PR (fun x=>x.n) r1) R e∧R.length≤r1.length) (P:=fun a=> ∃S,R2 zc7 a S∧SS cK (PR (fun x=>x.n) r1) S∧S.length≤r1.length) ?_ ?_
 ·have:=fun B h=>ze9 (R:=Empty) (B:=B) (n:=r1.length) (fun i (a:List Line_Count)=> ∃S,R2 zc7 a S∧SS cK (PR (fun x=>x.n) (r1.take i)) S∧S.length≤i) (s:=([]:List Line_Count)) ⟨[],.nil,zo5,zzc _⟩ h;simp only[List.take_length]at this;refine this _ ?_;rintro i a hi ⟨S,k1,k2,k3⟩;have hx:=hl1 _ (z3m hi)
  rw[zza,z0b hi];have htk:PR (fun x:Count=>x.n) (r1.take (i+1))=PR (fun x=>x.n) (r1.take i)++[(r1.getD i zzd,(r1.getD i zzd).n)]:=by
   rw[z36 hi,z9g];rfl
  have hle: ∀p∈S,cK p.1 (r1.getD i zzd)≤0:=fun p hp=>by
   obtain⟨y,g1,g2⟩:=k2.mem p hp;obtain⟨z,g3,g4⟩:=z90.1 g1;obtain⟨j,hj,g5⟩:=List.mem_iff_getElem.1 g3;rw[List.length_take]at hj;have:=h3 j i (by omega) hi
   rw[←g2,←g4];simp only;rw[←g5,List.getElem_take];rw[List.getD_eq_getElem?_getD,List.getElem?_eq_getElem (by omega:j<r1.length)]at this;exact this
  generalize hxe:r1.getD i zzd=x at*;rw[htk];clear htk
  let G:Option (Ctl (List Line_Count) Empty)→Prop:=fun q=> ∃s',q=some (.next s')∧ ∃S,R2 zc7 s' S∧SS cK (PR (fun x=>x.n) (r1.take i)++[(x,x.n)]) S∧S.length≤i+1
  refine jn_P (G:=G) (P:=fun b=> ∃(b':List Line_Count) (y:Line_Count) (S':List (Count×Int)) (s:Int),b=b'++[y]∧b.length≤i+1∧R2 zc7 b' S'∧repT y.tally s∧SS cK (PR (fun x=>x.n) (r1.take i)++[(x,x.n)]) (S'++[(y.of,s+x.n)])) ?_ ?_
  ·rintro _ ⟨b',y,S',s,rfl,q0,q1,q2,q3⟩;simp only[zzg,List.length_singleton]at q0 ⊢;rw[wsub1 (by omega) (by omega),z0b (by omega)];obtain⟨t,g1,g2⟩:=zn5 (a:=b') (x:=y) hx q2;unfold z9u;simp only[zz0,Nat.add_sub_cancel,zza,zzh];rw[g1];simp only[zz0];rw[z0b (by simp)];refine⟨_,rfl,_,R2.app q1 (R2.one (show zc7 ⟨t,y.of⟩ (y.of,s+x.n)from⟨rfl,g2⟩)),q3,?_⟩;have:=q1.len
   simp only[zzg,List.length_singleton];omega
  ·simp only[jn_eq,z0i];have hlen2:=k1.len
   rcases List.eq_nil_or_concat S with rfl|⟨A,p,rfl⟩
   ·have ha:a=[]:=zzj hlen2;subst ha;rw[if_pos (by simp),z6d,z0b (by simp)];refine⟨_,⟨[],_,[],0,rfl,by simp,.nil,by simp[repT,inU64],?_⟩,rfl⟩;have:=zi5 (A:=[]) (B:=[]) (x:=x) (n:=x.n) cK_is k2 (fun p hp=>by cases hp) (fun p hp=>by cases hp)
    simpa using this
   ·simp only[List.concat_eq_append]at*;obtain⟨a1,a2,rfl,u1,u2⟩:=R2.split k1;cases u2 with
    | @cons y _ _ _ v t=>
     cases t;obtain⟨v1,v2⟩:=v;have e1:(a1++[y]).length=a1.length+1:=by simp
     have e2:=u1.len;simp only[zzg,List.length_singleton]at k3;rw[if_neg (by omega),e1,wsub1 (by omega) (by omega),z0b (by omega)];simp only[Nat.add_sub_cancel,zza,zzh,zce];rw[z0b (by omega),zgi,v1];simp only[zz0];by_cases g:cK p.1 x=0
     ·rw[decide_eq_true g];simp only[Bool.not_true,z2x];refine⟨_,⟨a1,y,A,p.2,rfl,by omega,u1,v2,?_⟩,?_⟩
      ·rw[v1];exact zo4 cK_is k2 g
      ·rw[e1,wsub1 (by omega) (by omega)];simp only[Nat.add_sub_cancel,zzh]
     ·rw[decide_eq_false g];simp only[Bool.not_false,z6d];rw[z0b (by simp;omega)];refine⟨_,⟨a1++[y],_,A++[p],0,rfl,by simp;omega,k1,by simp[repT,inU64],?_⟩,rfl⟩;have:=zi5 (A:=A++[p]) (B:=[]) (x:=x) (n:=x.n) cK_is (by simpa using k2) (fun q hq=>by
       have h4:=hle p (by simp);have h5:cK q.1 p.1≤0:=by
        rcases zz2.1 hq with hq|hq
        ·have h6:=k2.strict;rw[List.pairwise_append]at h6;have:=h6.2.2 q hq p (by simp)
         omega
        ·rw[zz7.1 hq,cK_is.refl];omega
       have h7:=cK_is.tr _ _ _ h5 h4;by_cases h8:cK q.1 x=0
       ·exfalso;have h9:cK x p.1≤0:=by rw[←cK_is.eqL p.1 h8];exact h5
        have:=cK_is.anti p.1 x;omega
       ·omega) (fun q hq=>by cases hq)
      simpa using this
 ·rintro a ⟨S,k1,k2,k3⟩;have hb: ∀i,i<S.length→ -85070591730234615865843651857942052864≤(S.getD i zzd).2∧(S.getD i zzd).2≤85070591730234615865843651857942052864:=fun i hi=>by
   rw[k2.sum _ (z3m hi)];have:=zgz (c:=cK) (y:=(S.getD i zzd).1) (l:=PR (fun x=>x.n) r1) (fun p hp=>by
    obtain⟨z,g1,g2⟩:=z90.1 hp;rw[←g2];exact hl1 z g1)
   have e:(PR (fun x:Count=>x.n) r1).length=r1.length:=by simp[PR]
   rw[e]at this;omega
  have hrow: ∀i,i<S.length→(S.getD i zzd).1.row.length≤8:=fun i hi=>by
   obtain⟨y,g1,g2⟩:=k2.mem _ (z3m hi);obtain⟨z,g3,g4⟩:=z90.1 g1;rw[←g2,←g4];exact hr1 z g3
  have hlen2:=k1.len;rw[hlen2];refine ze7 (G:=fun q=> ∃R e,q=some (R,e,r1)∧Tot cK (fun x=>x.n) z6g (PR (fun x=>x.n) r1) R e∧R.length≤r1.length) (fun i (b:List Count)=>(∀j,j<i→in64 (S.getD j zzd).2)∧b=left0 z6g (S.take i)) (fun b=>(∀j,j<S.length→in64 (S.getD j zzd).2)∧b=left0 z6g S) (fun r=>r=([],10,r1)∧ ∃j,j<S.length∧ ¬in64 (S.getD j zzd).2) ⟨fun j hj=>by omega,rfl⟩ (fun b hb=>by
   rw[List.take_length]at hb;exact hb) ?_ ?_ ?_
  rotate_left 2
  ·rintro i b hi ⟨m1,m2⟩;obtain⟨v1,v2⟩:=k1.get hi;rw[zza,z0b hi,znh v2 (hb i hi)];simp only[zz0,z42,z0i];by_cases g:in64 (S.getD i zzd).2
   ·left;rw[z9c g,v1];have hput:=znv (x:=(S.getD i zzd).1) (n:=(S.getD i zzd).2) (hrow i hi)
    have hlb:b.length≤i:=by
     rw[m2];have:=zcg z6g (S.take i);rw[List.length_take]at this;omega
    rw[z36 hi,zj6,zj7,←m2];have m3: ∀j,j<i+1→in64 (S.getD j zzd).2:=fun j hj=>by
     by_cases e:j=i
     ·subst e;exact g
     ·exact m1 j (by omega)
    by_cases g2:(S.getD i zzd).2=0
    ·exact⟨b,by simp only[if_true,if_pos g2],m3,by rw[if_pos g2,List.append_nil]⟩
    ·refine⟨b++[z6g (S.getD i zzd).1 (S.getD i zzd).2],?_,m3,by rw[if_neg g2]⟩;simp only[if_true,if_neg g2,hput,zz0];rw[z0b (by simp;omega)]
   ·right;right;rw[z8f g];exact⟨_,rfl,rfl,i,hi,g⟩
  ·rintro b ⟨g2,g3⟩;refine⟨_,_,rfl,.inl ⟨rfl,?_,?_⟩,by rw[g3];have:=zcg z6g S;omega⟩
   ·rw[g3];exact znx (num:=fun x=>x.n) (put:=z6g) cK_is (fun x n=>rfl) (fun x n y=>rfl) k2
   ·rw[zg7 cK_is k2];intro p hp;obtain⟨j,hj,e⟩:=List.mem_iff_getElem.1 hp;have:=g2 j hj
    rw[List.getD_eq_getElem?_getD,List.getElem?_eq_getElem hj]at this;rw[←e];exact this
  ·rintro r ⟨g2,j,g3,g4⟩;rw[g2];refine⟨_,_,rfl,.inr ⟨rfl,rfl,?_⟩,Nat.zero_le _⟩;rw[zg7 cK_is k2];intro h;exact g4 (h _ (z3m g3))
theorem zpj {a b:Count}(ha:okRow a.row=true)(hb:okRow b.row=true)(h:cK a b=0)(hd:a.n=b.n):a=b:=by
 unfold cK at h;rw[zbq (z5t ha).1 (z5t hb).1]at h;rcases a with⟨r,d⟩;rcases b with⟨r',d'⟩;simp only at h hd;rw[h,hd]
abbrev pK (l:List Count):List (Count×Int):=PR (fun x=>x.n) l
abbrev TotK (l:List Count)(R:List Count)(e:Int):Prop:=Tot cK (fun x=>x.n) z6g (pK l) R e
theorem zc8 {l R:List Count}{e:Int}(h:TotK l R e)(ho: ∀u∈l,okRow u.row=true): ∀r∈R,okRow r.row=true:=fun r hr=>by
 rcases h with⟨_,h,_⟩|⟨_,rfl,_⟩
 ·obtain⟨y,h1,h2⟩:=h.mem r hr;obtain⟨z,h3,h4⟩:=z90.1 h1;rw[h2,←h4];exact ho z h3
 ·cases hr
theorem zoi {fuel:Nat}{l:List Count}(hf:40000000000≤fuel)(hn:l.length≤8000000000)(hd: ∀u∈l,in64 u.n)(ho: ∀u∈l,okRow u.row=true):
 ∃R e l',z8d fuel l=some (R,e,l')∧TotK l R e∧R.length≤l.length:=by
 unfold z8d;obtain⟨R,e,l',h1,h2,h3⟩:=zn0 (fuel:=fuel) hd (fun u hu=>(z5t (ho u hu)).2) hn hf;rw[h1];exact⟨R,e,l',rfl,h2,h3⟩
def atL (l:List Update)(t:Time):List Count:=(l.filter fun u=>leT u.time t).map fun u=>⟨u.row,u.diff⟩
theorem zcy (l l':List Update)(t:Time):atL (l++l') t=atL l t++atL l' t:=by simp[atL]
theorem zid (u:Update)(t:Time):atL [u] t=if leT u.time t=true then[⟨u.row,u.diff⟩]else[]:=by
 unfold atL;by_cases h:leT u.time t=true<;>simp[h]
theorem zlr (l:List Update)(t:Time):(atL l t).length≤l.length:=by
 unfold atL;rw[List.length_map];exact List.length_filter_le _ _
theorem zls {l:List Update}{t:Time}{c:Count}(h:c∈atL l t): ∃u∈l,leT u.time t=true∧c=⟨u.row,u.diff⟩:=by
 unfold atL at h;obtain⟨u,h1,h2⟩:=zzk.1 h;obtain⟨h3,h4⟩:=zzm.1 h1;exact⟨u,h3,h4,h2.symm⟩
def AtOk (l:List Update)(t:Time)(R:List Count)(e:Int):Prop:=(errA l t≠0∧R=[]∧e=errA l t)∨(errA l t=0∧TotK (atL l t) R e)
theorem zqi {l:List Update}{t:Time}(hn:l.length≤8000000000){B:Nat→List Count→Option (Ctl (List Count) Empty)}(hB: ∀i a,i<l.length→B i a=bf (leT (l.getD i zzd).time t) (need (a.length+([(⟨(l.getD i zzd).row,(l.getD i zzd).diff⟩:Count)]:List Count).length≤274877906944)<|some (.next (a++([(⟨(l.getD i zzd).row,(l.getD i zzd).diff⟩:Count)]:List Count)))) (some (.next a))):
 z0l B l.length 0 []=some (.done (atL l t)):=by
 refine z7f (atL l t) (fun i a=>a=atL (l.take i) t) (fun s hs=>by rw[hs,List.take_length]) ?_ rfl;intro i a hi ha;rw[hB i a hi,z36 hi,zcy,←ha,zid];have hl:a.length≤i:=by
  have:=zlr (l.take i) t;rw[ha];rw[List.length_take]at this;omega
 by_cases h:leT (l.getD i zzd).time t=true
 ·rw[h,z6d,z0b (by simp;omega)];exact⟨_,rfl,rfl⟩
 ·have h':leT (l.getD i zzd).time t=false:=by simpa using h
  rw[h',z2x];exact⟨_,rfl,by simp⟩
theorem zbp {l:List Update}{t:Time}(ho: ∀u∈l,okU u): ∀c∈atL l t,okRow c.row=true:=fun c hc=>by
 obtain⟨u,h1,_,h2⟩:=zls hc;rw[h2];exact(ho u h1).2.1
theorem zqh {l:List Update}{t:Time}(ho: ∀u∈l,in64 u.diff): ∀c∈atL l t,in64 c.n:=fun c hc=>by
 obtain⟨u,h1,_,h2⟩:=zls hc;rw[h2];exact ho u h1
theorem at_ok {fuel:Nat}{l:List Update}{t:Time}(hf:40000000000≤fuel)(hn:l.length≤8000000000)(hd: ∀u∈l,in64 u.diff)(ht: ∀u∈l,z32 u.time)(ht':z32 t):
 ∃R e,z87 fuel l t=some (R,e)∧AtOk l t R e∧R.length≤l.length:=by
 unfold z87;rw[z9t (by omega),zdd (by omega)];simp only[zz0,zkj,z42,z0i];show ∃R e,(if errA l t=0 then _ else some (([]:List Count),errA l t))=some (R,e)∧AtOk l t R e∧R.length≤l.length;by_cases h:errA l t=0
 ·rw[if_pos h];obtain⟨ho,hT⟩:=zj0.1 h;rw[zqi (t:=t) hn]
  ·simp only[z7e];have hl:=zlr l t
   obtain⟨R,e,l',h1,h2,h3⟩:=zoi (fuel:=fuel) hf (by omega) (zqh (t:=t) hd) (zbp (t:=t) ho);rw[h1];exact⟨R,e,rfl,.inr ⟨h,h2⟩,by omega⟩
  ·intro i a hi;rw[zoj (ht _ (z3m hi)) ht'];rfl
 ·rw[if_neg h];exact⟨_,_,rfl,.inl ⟨h,rfl,rfl⟩,Nat.zero_le _⟩
theorem sameC (l:List Count):z4s l l=some true:=by
 unfold z4s;rw[decide_eq_true rfl,Bool.not_true,z2x];rw[z7f () (fun _ _=>True) (fun _ _=>rfl)]
 ·rfl
 ·intro i a hi ha;refine⟨(),?_,trivial⟩;simp only[jn_eq,zo1,zz0,Bool.not_true,z2x,decide_true];rw[z0b (by omega),z0b (by omega)]
 ·trivial
theorem zlk {l l' R R':List Count}{e e':Int}(h:TotK l R e)(h':TotK l' R' e')(ho: ∀u∈l,okRow u.row=true)(ho': ∀u∈l',okRow u.row=true)(hs: ∀y,sm cK (pK l) y=sm cK (pK l') y):R=R'∧e=e':=
 zmz cK_is h h' hs fun r hr r' hr' h1 h2=>zpj (zc8 h ho r hr) (zc8 h' ho' r' hr') h1 h2
theorem at_wt (l:List Update)(t:Time)(y:Count):sm cK (pK (atL l t)) y=wt (fun u=>leT u.time t && decide (cmpL cmpV y.row u.row=0)) (pU l):=by
 induction l with
 |nil=>rfl
 |cons u l ih=>
  have e:atL (u::l) t=atL [u] t++atL l t:=zcy [u] l t;rw[e,show pK (atL [u] t++atL l t)=pK (atL [u] t)++pK (atL l t)from z9g ..,z6m,ih,zid];simp only[pU,PR,zzp,wt];by_cases h:leT u.time t=true
  ·simp only[h,if_true,pK,PR,zzp,List.map_nil,sm,Bool.true_and,decide_eq_true_eq,cK];omega
  ·have h':leT u.time t=false:=by simpa using h
   simp[h',sm,PR]
theorem zom {l l':List Update}(t:Time)(h: ∀y,sm cU (pU l) y=sm cU (pU l') y)(y:Count):sm cK (pK (atL l t)) y=sm cK (pK (atL l' t)) y:=by
 rw[at_wt,at_wt];refine grp cU_is (fun a b hab=>?_) h;unfold cU at hab;rw[z7i,z7i,zix]at hab;rw[hab.2.2,z86.list.eqR y.row hab.2.1]
theorem zm9 {l R:List Count}{e:Int}(h:TotK l R e): ∀r∈R,in64 r.n:=fun r hr=>by
 rcases h with⟨_,g,gf⟩|⟨_,rfl,_⟩
 ·rw[(g.sum r hr).1];exact gf r
 ·cases hr
theorem zma {l R:List Count}(h:TotK l R 0)(y:Count):sm cK (pK R) y=sm cK (pK l) y:=by
 rcases h with⟨_,g,_⟩|⟨g,_⟩
 ·exact zny cK_is g y
 ·omega
theorem zg2 {l:List Update}{t:Time}{R:List Count}{e:Int}(h:AtOk l t R e)(he:e=0):errA l t=0∧TotK (atL l t) R 0:=by
 rcases h with⟨h1,_,h2⟩|⟨h1,h2⟩
 ·omega
 ·exact⟨h1,he▸h2⟩
end Go.Av
/-
 JoinThere:what two lists make is made,at each time,of what is there of both.
-/
namespace Go.Av
open Go
def prodK (X Y:List Count):List Count:=X.flatMap fun c=>Y.map fun d=>⟨c.row++d.row,c.n*d.n⟩
def prodV (X Y:List Count):List Update:=X.flatMap fun c=>Y.map fun d=>⟨[],c.row++d.row,zeroT,c.n*d.n⟩
theorem zc5 (X X' Y:List Count):prodK (X++X') Y=prodK X Y++prodK X' Y:=by simp[prodK]
theorem zc6 (X X' Y:List Count):prodV (X++X') Y=prodV X Y++prodV X' Y:=by simp[prodV]
theorem zfq (X Y:List Count):(prodV X Y).length=X.length*Y.length:=by
 induction X with
 |nil=>simp[prodV]
 |cons c X ih=>
  have:prodV (c::X) Y=prodV [c] Y++prodV X Y:=zc6 [c] X Y;rw[this,zzg,ih,List.length_cons,Nat.succ_mul];simp[prodV];omega
theorem zms (X Y:List Count):pK (prodK X Y)=pairL (fun c d:Count=>(⟨c.row++d.row,c.n*d.n⟩:Count)) (fun _ _=>true) (pK X) (pK Y):=by
 induction X with
 |nil=>rfl
 |cons c X ih=>
  have:prodK (c::X) Y=prodK [c] Y++prodK X Y:=zc5 [c] X Y;rw[this,show pK (prodK [c] Y++prodK X Y)=pK (prodK [c] Y)++pK (prodK X Y)from z9g ..,ih];simp only[PR,pairL,prodK,List.flatMap_cons,List.flatMap_nil,List.append_nil,zzp,List.map_map];rw[List.filter_eq_self.2 fun _ _=>rfl,List.map_map];rfl
theorem zkl (X Y:List Count)(y:Count):sm cK (pK (prodK X Y)) y=wi (fun c:Count=>wi (fun d:Count=>if cmpL cmpV y.row (c.row++d.row)=0 then 1 else 0) (pK Y)) (pK X):=by
 rw[sm_wi,zms,zqe];rfl
theorem zmt {X X' Y Y':List Count}(hX: ∀c∈X++X',okRow c.row=true)(hY: ∀c∈Y++Y',okRow c.row=true)(h1: ∀y,sm cK (pK X) y=sm cK (pK X') y)(h2: ∀y,sm cK (pK Y) y=sm cK (pK Y') y)(y:Count):
 sm cK (pK (prodK X Y)) y=sm cK (pK (prodK X' Y')) y:=by
 have row: ∀{Z Z':List Count},(∀c∈Z++Z',okRow c.row=true)→ ∀p∈pK Z++pK Z',okRow p.1.row=true:=fun{Z Z'} h p hp=>by
  rw[←show pK (Z++Z')=pK Z++pK Z' from z9g ..]at hp;obtain⟨x,hx,rfl⟩:=z90.1 hp;exact h x hx
 have eq: ∀{p q:Count},okRow p.row=true→okRow q.row=true→cK p q=0→p.row=q.row:=fun hp hq e=>(zbq (z5t hp).1 (z5t hq).1).1 e;rw[zkl,zkl];rw[zoc cK_is (l:=pK X) (l':=pK X') (fun p hp q hq e=>by rw[eq (row hX p hp) (row hX q hq) e]) h1];refine zl4 fun p hp=>?_;exact zoc cK_is (fun p' hp' q' hq' e=>by rw[eq (row hY p' hp') (row hY q' hq') e]) h2
theorem zol (X Y:List Count):atL (prodV X Y) zeroT=prodK X Y:=by
 induction X with
 |nil=>rfl
 |cons c X ih=>
  rw[show prodV (c::X) Y=prodV [c] Y++prodV X Y from zc6 [c] X Y,show prodK (c::X) Y=prodK [c] Y++prodK X Y from zc5 [c] X Y,zcy,ih];congr 1;unfold atL prodV prodK;simp only[List.flatMap_cons,List.flatMap_nil,List.append_nil];rw[List.filter_eq_self.2 fun u hu=>by obtain⟨d,_,rfl⟩:=zzk.1 hu;rfl,List.map_map];rfl
theorem zn6 {x:Update}{b:List Update}(ka:x.key=[])(kb: ∀u∈b,u.key=[])(t:Time):atL (prodL [x] b) t=prodK (atL [x] t) (atL b t):=by
 have e:prodL [x] b=b.map (mkP x):=by
  unfold prodL z2m;simp only[List.flatMap_cons,List.flatMap_nil,List.append_nil];rw[List.filter_eq_self.2 fun y hy=>by simp[kc,ka,kb y hy,cmpL],List.map_map];rfl
 rw[e,zid];unfold atL;rw[List.filter_map,List.map_map];have e2: ∀y:Update,leT (mkP x y).time t=(leT x.time t && leT y.time t):=fun y=>by
  show leT (lub2 x.time y.time) t=_;rw[Bool.eq_iff_iff,zpw,Bool.and_eq_true]
 by_cases h:leT x.time t=true
 ·rw[if_pos h];simp only[prodK,List.flatMap_cons,List.flatMap_nil,List.append_nil,List.map_map];congr 1;exact List.filter_congr fun y _=>by simp only[Function.comp_apply,e2,h,Bool.true_and]
 ·rw[if_neg h];have h':leT x.time t=false:=by simpa using h
  rw[List.filter_eq_nil_iff.2 fun y _=>by simp only[Function.comp_apply,e2,h',Bool.false_and];simp];rfl
theorem zok {a b:List Update}(ka: ∀u∈a,u.key=[])(kb: ∀u∈b,u.key=[])(t:Time):atL (prodL a b) t=prodK (atL a t) (atL b t):=by
 induction a with
 |nil=>rfl
 |cons x a ih=>
  rw[show prodL (x::a) b=prodL [x] b++prodL a b from zkm [x] a b,zcy,show atL (x::a) t=atL [x] t++atL a t from zcy [x] a t,zc5,ih fun u hu=>ka u (zz6 _ hu),
   zn6 (ka x (zz4 ..)) kb]
theorem znm {l:List Update}(h:(l.any fun u=>decide (0<(u.key.length:Int)))=false): ∀u∈l,u.key=[]:=fun u hu=>by
 have:=List.any_eq_false.1 h u hu;have: ¬0<(u.key.length:Int):=by simpa using this
 exact zzj (by omega)
theorem zqb {l X:List Update}(h:TotU l X 0)(v:Update):sm cU (pU X) v=sm cU (pU l) v:=by
 rcases h with⟨_,g,_⟩|⟨g,_⟩
 ·exact zny cU_is g v
 ·omega
theorem zmb {l R:List Count}{e:Int}(h:TotK l R e)(ho: ∀u∈l,okRow u.row=true)(he:e=0): ∀c∈R++l,okRow c.row=true:=fun c hc=>by
 rcases zz2.1 hc with g|g
 ·exact zc8 h ho c g
 ·exact ho c g
theorem zic {fuel:Nat}{a b:List Update}{t:Time}(hL:z68 fuel=some true)(hf:40000000000≤fuel)(da: ∀u∈a,in64 u.diff)(ta: ∀u∈a,z32 u.time)(db: ∀u∈b,in64 u.diff)(tb: ∀u∈b,z32 u.time)(ht:z32 t)
 (hn:a.length+b.length≤1000000) (hab:a.length*b.length≤8000000000):z4y fuel a b t=some true:=by
 unfold z4y;rw[hL];simp only[zz0,Bool.not_true,z2x];refine ze7 (G:=fun q=>q=some true) (fun i _=>(0<i→ ∀u∈a,u.key=[])∧(1<i→ ∀u∈b,u.key=[])) (fun _=>(∀u∈a,u.key=[])∧ ∀u∈b,u.key=[]) (fun r=>r=true) ⟨by omega,by omega⟩ (fun _ h=>⟨h.1 (show 0<2 by decide),h.2 (show 1<2 by decide)⟩) ?_ (fun r hr=>by rw[hr]) ?_
 case refine_2=>
  intro i s hi hI;have hi:i<2:=hi
  rcases ze8 (l:=([a,b]:List (List Update)).getD i zzd) (fun u=>decide (0<(u.key.length:Int))) (fun _=>true) (s:=()) (B:=fun i25 (a26:Unit)=>bf (decide (0<(((([a,b]:List (List Update)).getD i zzd).getD i25 zzd).key.length:Int))) (some (.ret true)) (some (.next ()))) (fun j hj=>by
   simp only[z0i,decide_eq_true_eq])with⟨h1,h2⟩|⟨_,j,_,_,h2⟩
  ·left;refine⟨(),by rw[h2];rfl,?_⟩;have hk:=znm h1
   match i,hi,hI,hk with
   |0,_,_,hk=>exact⟨fun _=>hk,by omega⟩
   |1,_,hI,hk=>exact⟨fun _=>hI.1 (by omega),fun _=>hk⟩
  ·exact .inr (.inr ⟨true,by rw[h2];rfl,rfl⟩)
 intro _ ⟨ka,kb⟩;obtain⟨out,t1,w1,e1,p1⟩:=zka (fuel:=fuel) hf da ta db tb (by omega) hab;rw[e1];simp only[zz0];have hout:out.length≤8000000000∧(∀u∈out,in64 u.diff)∧ ∀u∈out,z32 u.time:=by
  rcases p1 with⟨_,rfl,_⟩|⟨ha,hb,p⟩
  ·simp
  ·have:=p.len;refine⟨by omega,zqd p.tot,zpf p.tot fun u hu=>(zkg ha hb).t u (zzm.1 hu).1⟩
 obtain⟨X,x2,e2,a2,l2⟩:=at_ok (fuel:=fuel) (t:=t) hf (by omega) da ta ht;obtain⟨Y,x3,e3,a3,l3⟩:=at_ok (fuel:=fuel) (t:=t) hf (by omega) db tb ht;obtain⟨Z,x4,e4,a4,l4⟩:=at_ok (fuel:=fuel) (t:=t) hf hout.1 hout.2.1 hout.2.2 ht;rw[e2,e3,e4];simp only[zz0,jn_eq,z42,z0i];by_cases h1:w1=0
 case neg=>rw[if_neg h1];rfl
 rw[if_pos h1];by_cases h2:x2=0
 case neg=>rw[if_neg h2];rfl
 rw[if_pos h2];by_cases h3:x3=0
 case neg=>rw[if_neg h3];rfl
 rw[if_pos h3];by_cases h4:x4=0
 case neg=>simp[h4]
 simp only[h4,decide_true,Bool.not_true,z2x];rcases p1 with⟨g,_,_,g'⟩|⟨ha,hb,p1⟩
 ·omega
 obtain⟨q1,_,l1⟩:=p1.fine h1;obtain⟨_,q2⟩:=zg2 a2 h2;obtain⟨_,q3⟩:=zg2 a3 h3;obtain⟨_,q4⟩:=zg2 a4 h4;have hXY:X.length*Y.length≤8000000000:=Nat.le_trans (Nat.mul_le_mul l2 l3) hab
 refine ze7 (G:=fun q=>q=some true) (fun i s=>s=prodV (X.take i) Y∧ ∀u∈s,in64 u.diff) (fun s=>s=prodV X Y∧ ∀u∈s,in64 u.diff) (fun r=>r=true) ⟨rfl,by simp⟩ (fun s h=>by rw[List.take_length]at h;exact h) ?_ (fun r hr=>by rw[hr]) ?_
 case refine_2=>
  intro i s hi ⟨hs,hd⟩;have hsl:s.length=i*Y.length:=by rw[hs,zfq,List.length_take,Nat.min_eq_left (by omega)]
  have hbnd:i*Y.length+Y.length≤8000000000:=by
   have:=Nat.mul_le_mul_right Y.length (show i+1≤X.length from hi);rw[Nat.add_mul,Nat.one_mul]at this;omega
  rcases zgq (n:=Y.length) (s:=s) (fun j s'=>s'=s++prodV [X.getD i zzd] (Y.take j)∧ ∀u∈s',in64 u.diff) (fun s'=>s'=s++prodV [X.getD i zzd] Y∧ ∀u∈s',in64 u.diff) (fun r=>r=true)
   (B:=fun i18 (a19:List Update)=>(z81 ((X.getD i zzd).n) ((Y.getD i18 zzd).n)).bind fun r21=>if r21.2=0 then(need (((X.getD i zzd).row).length≤274877906944)<|need (((X.getD i zzd).row).length+((Y.getD i18 zzd).row).length≤274877906944)<|need (a19.length+([(⟨([]:List Value),((X.getD i zzd).row++(Y.getD i18 zzd).row),(⟨0,(0,0)⟩:Time),r21.1⟩:Update)]:List Update).length≤274877906944)<|some (.next (a19++([(⟨([]:List Value),((X.getD i zzd).row++(Y.getD i18 zzd).row),(⟨0,(0,0)⟩:Time),r21.1⟩:Update)]:List Update))))else some (.ret true))
   ⟨by simp[prodV],hd⟩ (fun j s' hj ⟨hs',hd'⟩=>by
    have ix:=zm9 q2 _ (z3m hi);have iy:=zm9 q3 _ (z3m hj)
    have rx:=(z5t (zc8 q2 (zbp ha.ok) _ (z3m hi))).2;have ry:=(z5t (zc8 q3 (zbp hb.ok) _ (z3m hj))).2
    have hl':s'.length≤i*Y.length+Y.length:=by
     rw[hs',zzg,hsl,zfq,List.length_take,List.length_singleton];omega
    rw[zf7 ix iy];simp only[zz0,z42,z0i];by_cases hfit:in64 ((X.getD i zzd).n*(Y.getD j zzd).n)
    ·rw[z9c hfit];left;rw[if_pos rfl,z0b (by omega),z0b (by omega),z0b (by simp;omega)];refine⟨_,rfl,?_,fun u hu=>?_⟩
     ·rw[hs',z36 hj,List.append_assoc];congr 1;simp[prodV,zeroT]
     ·rcases zz2.1 hu with g|g
      ·exact hd' u g
      ·rw[zz7.1 g];exact hfit
    ·rw[z8f hfit];right;right;rw[if_neg (by decide)];exact⟨true,rfl,rfl⟩) (fun s' h=>by rw[List.take_length]at h;exact h)with⟨s',g1,g2,g3⟩|⟨r,g1,g2⟩
  ·left;refine⟨s',by rw[g1];rfl,?_,g3⟩;rw[g2,hs,z36 hi,zc6]
  ·exact .inr (.inr ⟨r,by rw[g1];rfl,g2⟩)
 intro L ⟨hL1,hL2⟩;have hLt: ∀u∈L,u.time=zeroT:=fun u hu=>by
  rw[hL1]at hu;obtain⟨c,_,hc⟩:=List.mem_flatMap.1 hu;obtain⟨d,_,rfl⟩:=zzk.1 hc;rfl
 have nz:z32 zeroT:=by simp[z32,zeroT]
 obtain⟨W,x5,e5,a5,_⟩:=at_ok (fuel:=fuel) (l:=L) (t:=zeroT) hf (by rw[hL1,zfq];exact hXY) hL2 (fun u hu=>by rw[hLt u hu];exact nz) nz;rw[show(⟨0,(0,0)⟩:Time)=zeroT from rfl,e5];simp only[zz0,jn_eq];by_cases h5:x5=0
 case neg=>rw[if_neg h5]
 rw[if_pos h5];obtain⟨c5,q5⟩:=zg2 a5 h5;have oL:=(zj0.1 c5).1
 have oP: ∀u∈prodL a b,okU u:=by rw[←l1];exact(zkg ha hb).ok
 obtain⟨rfl,_⟩:=zlk q5 q4 (zbp oL) (zbp (zl1 q1 oP)) fun y=>by
  rw[hL1,zol,zom t (fun v=>zqb q1 v),zok ka kb];exact zmt (zmb q2 (zbp ha.ok) rfl) (zmb q3 (zbp hb.ok) rfl) (zma q2) (zma q3) y
 rw[sameC];rfl
theorem zjj {a b:List Update}{t:Time}(h1:okUs a)(h2:okUs b)(h3:zfm t)(hb:((a.map z74).sum+1)+(((b.map z74).sum+1)+(zdr t+0))≤1048576):z4y 100000000000 a b t=some true:=by
 have l1:=zmc a;have l2:=zmc b
 exact zic zpv (by omega) (us_in h1) (us_nn h1) (us_in h2) (us_nn h2) (zj9 h3) (by omega) (zq4 (by omega))
end Go.Av
