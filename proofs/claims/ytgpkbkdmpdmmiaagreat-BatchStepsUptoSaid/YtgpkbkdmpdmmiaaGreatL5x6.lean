import Derived.Test.YtgpkbkdmpdmmiaaGreatL5x5
import Derived.Sort.LotD5
import Derived.Sort.AssemblyPlain
import Derived.KernelRfl
set_option maxRecDepth 100000
namespace Go.Av
open Go
set_option linter.unusedVariables false
set_option linter.unusedSimpArgs false
def glb2 (a x:Time):Time:=⟨if x.epoch < a.epoch then x.epoch else a.epoch,(if x.loop.1 < a.loop.1 then x.loop.1 else a.loop.1,if x.loop.2 < a.loop.2 then x.loop.2 else a.loop.2)⟩
def glbL:List Time→Time
 | []=>zeroT
 | x :: l=>l.foldl glb2 x
theorem zdo (a:Time):z1r a a=true:=by simp [z1r]
theorem zil {l:List Time} (h:l ≠ []) (x:Time):glbL (l++[x])=glb2 (glbL l) x:=by
 cases l with
 | nil=>exact absurd rfl h
 | cons y l=>simp [glbL,List.foldl_append]
theorem zhw (l:List Time):z49 l=some (glbL l):=by
 unfold z49
 rw [z4w (glbL l) (fun i a=>a=glbL (l.take i)) (fun s h=>by rw [h,List.take_length])]
 ·rfl
 ·intro i a hi ha
  refine ⟨_,?_,rfl⟩
  rw [z2r hi]
  simp only [jn_eq,z0b,z63,Option.bind_some,z07]
  rcases Nat.eq_zero_or_pos i with h0 | h0
  ·subst h0
   generalize l.getD 0 default=x at *
   simp [outK,glbL]
  ·rw [if_neg (by omega),zil (by intro h; have h2:=congrArg List.length h; rw [List.length_take] at h2; simp only [List.length_nil] at h2; omega),← ha]
   generalize l.getD i default=x at *
   simp [outK,glb2]
 ·rfl
theorem mn_eq (a b:Int):(if b < a then b else a)=min a b:=by split <;> omega
theorem zmk {a b:Time} (ha:z1g a) (hb:z1g b):z1g (lub2 a b):=by
 obtain ⟨h1,h2,h3⟩:=ha
 obtain ⟨g1,g2,g3⟩:=hb
 simp only [z1g,lub2,mx_eq]
 omega
theorem zmu:z1g zeroT:=by simp [z1g,zeroT]
theorem zls {a b:Time} (h:leT a b=true) (g:leT b a=true):z1r a b=true:=by
 simp only [leT,z1r,Bool.and_eq_true,decide_eq_true_eq,Bool.and_true] at *
 omega
theorem zmj {a b:Time} (ha:z1g a) (hb:z1g b):z1g (glb2 a b):=by
 obtain ⟨h1,h2,h3⟩:=ha
 obtain ⟨g1,g2,g3⟩:=hb
 simp only [z1g,glb2,mn_eq]
 omega
theorem zn7 {a b t:Time}:leT t (glb2 a b)=true↔leT t a=true∧leT t b=true:=by
 simp only [zfv,glb2,mn_eq]; omega
theorem zby {t:Time}:∀ (l:List Time) (a:Time),leT t (l.foldl glb2 a)=true↔leT t a=true∧∀ x ∈ l,leT t x=true
 | [],a=>by simp
 | x :: l,a=>by
  simp only [List.foldl_cons,zby l,zn7,List.forall_mem_cons]
  constructor <;> intro h <;> simp_all
theorem zc5:∀ (l:List Time) (a:Time),z1g a→(∀ x ∈ l,z1g x)→z1g (l.foldl glb2 a)
 | [],a,ha,_=>ha
 | x :: l,a,ha,h=>zc5 l _ (zmj ha (h x (List.mem_cons_self ..))) fun y hy=>h y (List.mem_cons_of_mem _ hy)
theorem zn3 {l:List Time} (hl:∀ x ∈ l,z1g x):z1g (glbL l):=by
 cases l with
 | nil=>exact zmu
 | cons x l=>exact zc5 l x (hl x (List.mem_cons_self ..)) fun y hy=>hl y (List.mem_cons_of_mem _ hy)
theorem zmt {l:List Time} {t:Time} (h:l ≠ []):leT t (glbL l)=true↔∀ x ∈ l,leT t x=true:=by
 cases l with
 | nil=>exact absurd rfl h
 | cons x l=>simp only [glbL,zby,List.forall_mem_cons]
end Go.Av
namespace Go.Av
open Go
set_option linter.unusedVariables false
set_option linter.unusedSimpArgs false
def ltT (x y:Time):Bool:=decide (cmpT x y < 0)
theorem zgz {a fuel:Nat} {B:Int × List Time→Option (Ctl (Int × List Time) Empty)} {j:Nat} {d:Array Time} (hj:j < d.size) (hf:j < fuel)
  (hB:∀ (j:Nat) (d' : Array Time),j < d'.size→d'.size=d.size→B ((j:Int),d'.toList)=if a < j∧ltT d'[j]! d'[j - 1]! = true then some (.next (((j - 1:Nat):Int),(Sort.swp d' j (j - 1)).toList)) else some (.brk ((j:Int),d'.toList))) :
  ∃ x:Int,loopN B fuel ((j:Int),d.toList)=some (.done (x,(Sort.insInner ltT a j d).toList)):=by
 induction j generalizing d fuel with
 | zero =>
  cases fuel with
  | zero=>omega
  | succ fuel =>
   refine ⟨0,z0x (s':=(((0:Nat):Int),d.toList)) ?_⟩
   rw [hB 0 d hj rfl,if_neg (by omega)]
 | succ j ih =>
  cases fuel with
  | zero=>omega
  | succ fuel =>
   have h:=hB (j + 1) d hj rfl
   rw [Nat.add_sub_cancel] at h
   unfold Sort.insInner
   by_cases hc:a < j + 1∧ltT d[j + 1]! d[j]! = true
   ·rw [if_pos hc] at h
    rw [z1c h,if_pos (by simp [hc.1,hc.2])]
    exact ih (by rw [z10]; omega) (by omega) (fun k d' h1 h2=>hB k d' h1 (by rw [h2,z10]))
   ·rw [if_neg hc] at h
    rw [z0x h,if_neg (by simpa using hc)]
    exact ⟨_,rfl⟩
theorem zgw {a b fuel:Nat} {B:Int × List Time→Option (Ctl (Int × List Time) Empty)} {n i:Nat} {d:Array Time} (hn:b - i=n) (hb:b≤d.size) (hf:b - i < fuel)
  (hB:∀ (i:Nat) (d' : Array Time),d'.size=d.size→B ((i:Int),d'.toList)=if i < b then some (.next (((i + 1:Nat):Int),(Sort.insInner ltT a i d').toList)) else some (.brk ((i:Int),d'.toList)))
  (hs:∀ (i:Nat) (d' : Array Time),(Sort.insInner ltT a i d').size=d'.size) :
  ∃ x:Int,loopN B fuel ((i:Int),d.toList)=some (.done (x,(Sort.insOuter ltT a b i d).toList)):=by
 induction n generalizing i d fuel with
 | zero =>
  cases fuel with
  | zero=>omega
  | succ fuel =>
   have h:=hB i d rfl
   rw [if_neg (by omega)] at h
   rw [z0x h,Sort.insOuter,if_neg (by omega)]
   exact ⟨_,rfl⟩
 | succ n ih =>
  cases fuel with
  | zero=>omega
  | succ fuel =>
   have h:=hB i d rfl
   rw [if_pos (by omega)] at h
   rw [z1c h,Sort.insOuter,if_pos (by omega)]
   exact ih (by omega) (by rw [hs]; omega) (by omega) (fun k d' h1=>hB k d' (by rw [h1,hs]))
theorem zam (a:Nat):∀ (j:Nat) (d:Array Time),(Sort.insInner ltT a j d).size=d.size
 | 0,d=>rfl
 | j + 1,d=>by
  unfold Sort.insInner
  split
  ·rw [zam a j,z10]
  ·rfl
theorem zh5 {fuel a b:Nat} {d:Array Time} (hb:b≤d.size) (hd:d.size < 4611686018427387904) (ha:a < 4611686018427387903) (hf:d.size < fuel) :
  z15 fuel (a:Int) (b:Int) d.toList=some (Sort.insertionSort ltT d a b).toList:=by
 unfold z15 Sort.insertionSort
 rw [wadd1 (by omega)]
 refine z64 (zgw (a:=a) (b:=b) (i:=a + 1) (d:=d) rfl hb (by omega) ?_ (zam a)) (fun x=>rfl)
 intro i d' hd'
 simp only [z07,intlt]
 by_cases hi:i < b
 ·rw [if_pos hi,if_pos hi]
  refine z64 (zgz (a:=a) (j:=i) (d:=d') (by omega) (by omega) ?_) (fun x => ?_)
  ·intro j e hj he
   simp only [jn_eq,z07,intlt]
   by_cases h1:a < j
   ·simp (disch:=omega) only [h1,if_true,wsub1,z06,Int.toNat_natCast,Nat.zero_add,Array.length_toList,List.length_set,z2a,Option.bind_some,z1n,z2m,true_and]
    unfold ltT
    by_cases h2:cmpT e[j]! e[j - 1]! < 0
    ·simp [h2]
    ·simp [h2]
   ·rw [if_neg h1,if_neg (fun h=>h1 h.1)]
    rfl
  ·rw [wadd1 (by omega)]
 ·rw [if_neg hi,if_neg hi]
end Go.Av
namespace Go.Av
open Go
set_option linter.unusedVariables false
set_option linter.unusedSimpArgs false
theorem zio (hi first:Nat):∀ (n root:Nat) (d:Array Time),hi - root≤n→(Sort.siftDown ltT hi first root d).size=d.size:=by
 intro n
 induction n with
 | zero =>
  intro root d hn
  rw [Sort.siftDown,dif_pos (by omega)]
 | succ n ih =>
  intro root d hn
  rw [Sort.siftDown]
  split
  ·rfl
  ·split
   ·split
    ·rfl
    ·split
     ·rw [ih _ _ (by omega),z10]
     ·rfl
   ·split
    ·rfl
    ·rw [ih _ _ (by omega),z10]
def z5w (hi first root:Nat) (d:Array Time):Option Nat :=
 if 2 * root + 1 ≥ hi then none else
  let c:=if 2 * root + 1 + 1 < hi∧ltT d[first + (2 * root + 1)]! d[first + (2 * root + 1) + 1]! = true then 2 * root + 2 else 2 * root + 1
  if ltT d[first + root]! d[first + c]! = true then some c else none
theorem zc4 (hi first root:Nat) (d:Array Time):Sort.siftDown ltT hi first root d=match z5w hi first root d with
  | some c=>Sort.siftDown ltT hi first c (Sort.swp d (first + root) (first + c))
  | none=>d:=by
 rw [Sort.siftDown]
 unfold z5w
 by_cases h1:2 * root + 1 ≥ hi
 ·rw [dif_pos h1,if_pos h1]
 ·rw [dif_neg h1,if_neg h1]
  by_cases h2:2 * root + 1 + 1 < hi∧ltT d[first + (2 * root + 1)]! d[first + (2 * root + 1) + 1]! = true
  ·rw [if_pos (by simpa using h2)]
   simp only [if_pos h2]
   by_cases h3:ltT d[first + root]! d[first + (2 * root + 2)]! = true
   ·rw [if_neg (by simp [h3]),dif_pos (by omega)]
    simp only [h3,if_true]
   ·rw [if_pos (by simpa using h3)]
    simp only [if_neg h3]
  ·rw [if_neg (by simpa using h2)]
   simp only [if_neg h2]
   by_cases h3:ltT d[first + root]! d[first + (2 * root + 1)]! = true
   ·rw [if_neg (by simp [h3])]
    simp only [h3,if_true]
   ·rw [if_pos (by simpa using h3)]
    simp only [if_neg h3]
theorem zic {hi first root c:Nat} {d:Array Time} (h:z5w hi first root d=some c):root < c∧c < hi:=by
 unfold z5w at h
 split at h
 ·cases h
 ·dsimp only at h
  generalize hc:(if 2 * root + 1 + 1 < hi∧ltT d[first + (2 * root + 1)]! d[first + (2 * root + 1) + 1]! = true then 2 * root + 2 else 2 * root + 1)=k at h
  have hk:root < k∧k < hi:=by
   split at hc <;> omega
  split at h
  ·cases h; exact hk
  ·cases h
theorem zkv {hi first fuel:Nat} {B:Int × List Time→Option (Ctl (Int × List Time) (List Time))} {Q:Type} {kn:Int × List Time→Option Q} {kr:List Time→Option Q} {q:Option Q} {n root:Nat} {d:Array Time}
  (hn:hi - root≤n) (hf:n < fuel) (hsz:first + hi≤d.size)
  (hB:∀ (root:Nat) (d' : Array Time),d'.size=d.size→root≤1152921504606846976→B ((root:Int),d'.toList)=if 2 * root + 1 ≥ hi then some (.brk ((root:Int),d'.toList)) else match z5w hi first root d' with
   | some c=>some (.next ((c:Int),(Sort.swp d' (first + root) (first + c)).toList))
   | none=>some (.ret d'.toList))
  (hr:root≤1152921504606846976) (hd:d.size≤1152921504606846976) (hkn:∀ x,kn (x,(Sort.siftDown ltT hi first root d).toList)=q) (hkr:kr (Sort.siftDown ltT hi first root d).toList=q) :
  outK (loopN B fuel ((root:Int),d.toList)) kn kr=q:=by
 induction n generalizing root d fuel with
 | zero =>
  cases fuel with
  | zero=>omega
  | succ fuel =>
   have h:=hB root d rfl hr
   have hs:=zc4 hi first root d
   have e:z5w hi first root d=none:=by unfold z5w; rw [if_pos (by omega)]
   rw [e] at hs
   simp only at hs
   rw [hs] at hkn hkr
   rw [if_pos (by omega)] at h
   rw [z0x h]; exact hkn _
 | succ n ih =>
  cases fuel with
  | zero=>omega
  | succ fuel =>
   have h:=hB root d rfl hr
   have hs:=zc4 hi first root d
   cases e:z5w hi first root d with
   | none =>
    rw [e] at h hs
    simp only at h hs
    rw [hs] at hkn hkr
    split at h
    ·rw [z0x h]; exact hkn _
    ·rw [z6q h]; exact hkr
   | some c =>
    have hc:=zic e
    have hlt:¬ 2 * root + 1 ≥ hi:=fun hh=>by unfold z5w at e; rw [if_pos hh] at e; cases e
    rw [e] at h hs
    rw [if_neg hlt] at h
    simp only at h hs
    rw [hs] at hkn hkr
    rw [z1c h]
    exact ih (by omega) (by omega) (by rw [z10]; omega) (fun r d' h1 h2=>hB r d' (by rw [h1,z10]) h2) (by omega) (by rw [z10]; omega) hkn hkr
theorem zdn {fuel lo hi first:Nat} {d:Array Time} (hsz:first + hi≤d.size) (hd:d.size < 1152921504606846976) (hlo:lo < 1152921504606846976) (hf:d.size < fuel) :
  z1m fuel (lo:Int) (hi:Int) (first:Int) d.toList=some (Sort.siftDown ltT hi first lo d).toList:=by
 unfold z1m
 refine zkv (hi:=hi) (first:=first) (n:=hi) (by omega) (by omega) hsz ?_ (by omega) (by omega) (fun x=>rfl) rfl
 intro root e he hroot
 have hw1:IntKind.i64.wrap (IntKind.i64.wrap ((2:Int) * (root:Int)) + 1)=((2 * root + 1:Nat):Int):=by rw [wtwo (by omega),wadd1 (by omega)]
 simp only [hw1,z07,jn_eq]
 by_cases h1:2 * root + 1 ≥ hi
 ·rw [if_pos h1,if_pos (by omega)]
 ·rw [if_neg h1,if_neg (by omega)]
  unfold z5w
  rw [if_neg h1]
  have hw2:IntKind.i64.wrap (((2 * root + 1:Nat):Int) + 1)=((2 * root + 1 + 1:Nat):Int):=wadd1 (by omega)
  have hw3:IntKind.i64.wrap ((first:Int) + ((2 * root + 1:Nat):Int))=((first + (2 * root + 1):Nat):Int):=wadd (by omega)
  have hw4:IntKind.i64.wrap (((first + (2 * root + 1):Nat):Int) + 1)=((first + (2 * root + 1) + 1:Nat):Int):=wadd1 (by omega)
  have hw5:IntKind.i64.wrap ((first:Int) + (root:Int))=((first + root:Nat):Int):=wadd (by omega)
  have hw6:IntKind.i64.wrap ((first:Int) + ((2 * root + 1 + 1:Nat):Int))=((first + (2 * root + 2):Nat):Int):=by rw [wadd (by omega)]
  simp only [hw2,hw3,hw4,hw5,hw6,intlt,Int.toNat_natCast,Nat.zero_add]
  by_cases h2:2 * root + 1 + 1 < hi
  ·rw [if_pos h2]
   simp (disch:=omega) only [z06,Array.length_toList,z2a,Option.bind_some,z1n]
   by_cases h3:cmpT e[first + (2 * root + 1)]! e[first + (2 * root + 1) + 1]! < 0
   ·have h4:2 * root + 1 + 1 < hi∧ltT e[first + (2 * root + 1)]! e[first + (2 * root + 1) + 1]! = true:=⟨h2,by unfold ltT; simp [h3]⟩
    simp (disch:=omega) only [h3,if_true,if_pos h4,hw6,Int.toNat_natCast,Nat.zero_add,z06,Array.length_toList,List.length_set,z2a,Option.bind_some,z1n,z2m]
    unfold ltT
    by_cases h:cmpT e[first + root]! e[first + (2 * root + 2)]! < 0
    ·simp [h]; omega
    ·simp [h]
   ·have h4:¬ (2 * root + 1 + 1 < hi∧ltT e[first + (2 * root + 1)]! e[first + (2 * root + 1) + 1]! = true):=fun h=>h3 (by have:=h.2; unfold ltT at this; simpa using this)
    simp (disch:=omega) only [h3,if_false,if_neg h4,hw3,Int.toNat_natCast,Nat.zero_add,z06,Array.length_toList,List.length_set,z2a,Option.bind_some,z1n,z2m]
    unfold ltT
    by_cases h:cmpT e[first + root]! e[first + (2 * root + 1)]! < 0
    ·simp [h]
    ·simp [h]
  ·rw [if_neg h2]
   have h4:¬ (2 * root + 1 + 1 < hi∧ltT e[first + (2 * root + 1)]! e[first + (2 * root + 1) + 1]! = true):=fun h=>h2 h.1
   simp (disch:=omega) only [z0e,if_neg h4,hw3,Int.toNat_natCast,Nat.zero_add,z06,Array.length_toList,List.length_set,z2a,Option.bind_some,z1n,z2m]
   unfold ltT
   by_cases h:cmpT e[first + root]! e[first + (2 * root + 1)]! < 0
   ·simp [h]
   ·simp [h]
end Go.Av
namespace Go.Av
open Go
set_option linter.unusedVariables false
set_option linter.unusedSimpArgs false
theorem z9b (hi first root:Nat) (d:Array Time):(Sort.siftDown ltT hi first root d).size=d.size:=zio hi first hi root d (by omega)
theorem zgm {B:Int × List Time→Option (Ctl (Int × List Time) Empty)} (g h:Nat→Array Time→Array Time) {k k0 fuel:Nat} {d:Array Time} (hk:k≤k0) (hg:∀ k d,(g k d).size=d.size) (hf:k < fuel)
  (hB:∀ (k:Nat) (d' : Array Time),k≤k0→d'.size=d.size→B ((k:Int) - 1,d'.toList)=match k with | 0=>some (.brk (-1,d'.toList)) | k + 1=>some (.next ((k:Int) - 1,(g k d').toList)))
  (h0:∀ d,h 0 d=d) (h1:∀ k d,h (k + 1) d=h k (g k d)) :
  ∃ x:Int,loopN B fuel ((k:Int) - 1,d.toList)=some (.done (x,(h k d).toList)):=by
 induction k generalizing d fuel with
 | zero =>
  cases fuel with
  | zero=>omega
  | succ fuel=>exact ⟨-1,by rw [z0x (hB 0 d hk rfl),h0]⟩
 | succ k ih =>
  cases fuel with
  | zero=>omega
  | succ fuel =>
   rw [z1c (hB (k + 1) d hk rfl),h1]
   exact ih (by omega) (by omega) (fun k' d' h2 h=>hB k' d' h2 (by rw [h,hg]))
theorem za6 (hi first:Nat):∀ (k:Nat) (d:Array Time),(Sort.heapBuild ltT hi first k d).size=d.size
 | 0,d=>rfl
 | k + 1,d=>by unfold Sort.heapBuild; rw [za6 hi first k,z9b]
theorem zi8 {fuel a b:Nat} {d:Array Time} (hab:a < b) (hb:b≤d.size) (hd:d.size < 1152921504606846976) (hf:d.size + 2 < fuel) :
  z1p fuel (a:Int) (b:Int) d.toList=some (Sort.heapSort ltT d a b).toList:=by
 unfold z1p Sort.heapSort
 have e0:IntKind.i64.wrap ((b:Int) - (a:Int))=((b - a:Nat):Int):=wsub (by omega) (by omega)
 have e1:IntKind.i64.wrap (((b - a:Nat):Int) - 1)=(((b - a:Nat):Int) - 1):=z1w (by omega) (by omega)
 have e2:IntKind.i64.wrap ((((b - a:Nat):Int) - 1).tdiv 2)=(((b - a - 1) / 2 + 1:Nat):Int) - 1:=by
  rw [Int.tdiv_eq_ediv_of_nonneg (by omega),z1w (by omega) (by omega)]; omega
 rw [e0,e1,e2]
 refine z64 (zgm (k0:=(b - a - 1) / 2 + 1) (fun k d=>Sort.siftDown ltT (b - a) a k d) (fun k d=>Sort.heapBuild ltT (b - a) a k d) (Nat.le_refl _) (fun k d=>z9b _ _ _ _) (by omega) ?_ (fun d=>rfl) (fun k d=>rfl)) (fun x => ?_)
 ·intro k e hk he
  simp only [z07]
  cases k with
  | zero=>rw [if_neg (by omega)]; rfl
  | succ k =>
   rw [if_pos (by omega),show ((k + 1:Nat):Int) - 1=(k:Int) by omega,zdn (by omega) (by omega) (by omega) (by omega),Option.bind_some]
   rw [z06 (by rw [Array.length_toList,Array.length_toList,z9b]),z7a (by unfold in64; omega)]
 ·have hsz:=za6 (b - a) a ((b - a - 1) / 2 + 1) d
  simp only
  generalize Sort.heapBuild ltT (b - a) a ((b - a - 1) / 2 + 1) d=d1 at *
  refine z64 (zgm (k0:=b - a) (fun k d=>Sort.siftDown ltT k a 0 (Sort.swp d a (a + k))) (fun k d=>Sort.heapPop ltT a k d) (Nat.le_refl _) (fun k d=>by rw [z9b,z10]) (by omega) ?_ (fun d=>rfl) (fun k d=>rfl)) (fun x=>rfl)
  intro k e hk he
  simp only [z07]
  cases k with
  | zero=>rw [if_neg (by omega)]; rfl
  | succ k =>
   rw [if_pos (by omega),show ((k + 1:Nat):Int) - 1=(k:Int) by omega]
   have w1:IntKind.i64.wrap ((a:Int) + (k:Int))=((a + k:Nat):Int):=wadd (by omega)
   have w2:IntKind.i64.wrap ((k:Int) - 1)=(k:Int) - 1:=z7a (by unfold in64; omega)
   have hs:=zdn (fuel:=fuel) (lo:=0) (hi:=k) (first:=a) (d:=Sort.swp e a (a + k)) (by rw [z10]; omega) (by rw [z10]; omega) (by omega) (by rw [z10]; omega)
   rw [show ((0:Nat):Int)=0 from rfl] at hs
   simp (disch:=omega) only [w1,w2,Int.toNat_natCast,Nat.zero_add,z06,Array.length_toList,List.length_set,z1n,z2m,hs,Option.bind_some,z9b,z10]
   rw [z06 trivial]
theorem zce {a b s:Nat} {d:Array Time} (ha:a < d.size) (hb:b < d.size) (hs:s < 1000):z1d d.toList (a:Int) (b:Int) (s:Int)=some (((Sort.order2 ltT d a b s).1:Int),((Sort.order2 ltT d a b s).2.1:Int),((Sort.order2 ltT d a b s).2.2:Int)):=by
 unfold z1d Sort.order2
 simp (disch:=omega) only [Int.toNat_natCast,z06,Array.length_toList,z2a,Option.bind_some,z1n,wadd1,z07]
 unfold ltT
 by_cases h:cmpT d[b]! d[a]! < 0
 ·simp [h]
 ·simp [h]
theorem z78 {a b s:Nat} {d:Array Time}:((Sort.order2 ltT d a b s).1=a∧(Sort.order2 ltT d a b s).2.1=b∨(Sort.order2 ltT d a b s).1=b∧(Sort.order2 ltT d a b s).2.1=a)∧(Sort.order2 ltT d a b s).2.2≤s + 1:=by
 unfold Sort.order2
 split
 ·exact ⟨.inr ⟨rfl,rfl⟩,Nat.le_refl _⟩
 ·exact ⟨.inl ⟨rfl,rfl⟩,Nat.le_succ _⟩
theorem zd0 {a b c s:Nat} {d:Array Time} (ha:a < d.size) (hb:b < d.size) (hc:c < d.size) (hs:s < 900):z1f d.toList (a:Int) (b:Int) (c:Int) (s:Int)=some (((Sort.median ltT d a b c s).1:Int),((Sort.median ltT d a b c s).2:Int)):=by
 unfold z1f
 have m1:=z78 (a:=a) (b:=b) (s:=s) (d:=d)
 rw [zce ha hb (by omega),Option.bind_some]
 have e:Sort.median ltT d a b c s=(let r2:=Sort.order2 ltT d (Sort.order2 ltT d a b s).2.1 c (Sort.order2 ltT d a b s).2.2; let r3:=Sort.order2 ltT d (Sort.order2 ltT d a b s).1 r2.1 r2.2.2; (r3.2.1,r3.2.2)):=rfl
 rw [e]
 generalize Sort.order2 ltT d a b s=r1 at *
 have m2:=z78 (a:=r1.2.1) (b:=c) (s:=r1.2.2) (d:=d)
 simp only
 rw [zce (by omega) hc (by omega),Option.bind_some]
 generalize Sort.order2 ltT d r1.2.1 c r1.2.2=r2 at *
 simp only
 rw [zce (by omega) (by omega) (by omega),Option.bind_some]
theorem zfd {a b c s:Nat} {d:Array Time}:(Sort.median ltT d a b c s).2≤s + 3:=by
 have e:Sort.median ltT d a b c s=(let r2:=Sort.order2 ltT d (Sort.order2 ltT d a b s).2.1 c (Sort.order2 ltT d a b s).2.2; let r3:=Sort.order2 ltT d (Sort.order2 ltT d a b s).1 r2.1 r2.2.2; (r3.2.1,r3.2.2)):=rfl
 rw [e]
 have m1:=z78 (a:=a) (b:=b) (s:=s) (d:=d)
 generalize Sort.order2 ltT d a b s=r1 at *
 have m2:=z78 (a:=r1.2.1) (b:=c) (s:=r1.2.2) (d:=d)
 simp only
 generalize Sort.order2 ltT d r1.2.1 c r1.2.2=r2 at *
 have m3:=z78 (a:=r1.1) (b:=r2.1) (s:=r2.2.2) (d:=d)
 omega
theorem z77 {a s:Nat} {d:Array Time} (h1:1≤a) (ha:a + 1 < d.size) (hd:d.size < 1152921504606846976) (hs:s < 900):z0c d.toList (a:Int) (s:Int)=some (((Sort.medianAdjacent ltT d a s).1:Int),((Sort.medianAdjacent ltT d a s).2:Int)):=by
 unfold z0c Sort.medianAdjacent
 rw [wsub1 h1 (by omega),wadd1 (by omega),zd0 (by omega) (by omega) ha hs,Option.bind_some]
def hintN:Sort.Hint→Int
 | .unknown=>0
 | .increasing=>1
 | .decreasing=>2
theorem z70 {a s:Nat} {d:Array Time}:(Sort.medianAdjacent ltT d a s).2≤s + 3:=zfd
theorem     zmq {Q : Type} {i j k : Nat} {d : Array Time} (hd : d.size < 1152921504606846976) (hi : 1 ≤ i ∧ i + 1 < d.size) (hj : 1 ≤ j ∧ j + 1 < d.size) (hk : 1 ≤ k ∧ k + 1 < d.size) {K : Int × Int → Option Q} {r1 r2 r3 : Nat × Nat}
    (h1 : Sort.medianAdjacent ltT d i 0 = r1) (h2 : Sort.medianAdjacent ltT d j r1.2 = r2) (h3 : Sort.medianAdjacent ltT d k r2.2 = r3) :
    ((                                         z0c d.toList (i : Int) 0).bind fun r6 => (                                         z0c d.toList (j : Int) r6.2).bind fun r7 => (                                         z0c d.toList (k : Int) r7.2).bind fun r8 => (                                 z1f d.toList r6.1 r7.1 r8.1 r8.2).bind K)
      = K (((Sort.median ltT d r1.1 r2.1 r3.1 r3.2).1 : Int), ((Sort.median ltT d r1.1 r2.1 r3.1 r3.2).2 : Int)) ∧ (Sort.median ltT d r1.1 r2.1 r3.1 r3.2).2 < 1000 := by
  have z : ((0 : Nat) : Int) = 0 := rfl
  have q1 :=               z77 (a := i) (s := 0) (d := d) hi.1 hi.2 hd (by omega)
  have c1 :=                z70 (a := i) (s := 0) (d := d)
  have p1 := Sort.medianAdjacent_mem ltT d i 0
  rw [z, h1] at q1
  rw [h1] at c1 p1
  have q2 :=               z77 (a := j) (s := r1.2) (d := d) hj.1 hj.2 hd (by omega)
  have c2 :=                z70 (a := j) (s := r1.2) (d := d)
  have p2 := Sort.medianAdjacent_mem ltT d j r1.2
  rw [h2] at q2 c2 p2
  have q3 :=               z77 (a := k) (s := r2.2) (d := d) hk.1 hk.2 hd (by omega)
  have c3 :=                z70 (a := k) (s := r2.2) (d := d)
  have p3 := Sort.medianAdjacent_mem ltT d k r2.2
  rw [h3] at q3 c3 p3
  have q4 :=       zd0 (a := r1.1) (b := r2.1) (c := r3.1) (s := r3.2) (d := d) (by omega) (by omega) (by omega) (by omega)
  have c4 :=        zfd (a := r1.1) (b := r2.1) (c := r3.1) (s := r3.2) (d := d)
  rw [q1, Option.bind_some]
  simp only
  rw [q2, Option.bind_some]
  simp only
  rw [q3, Option.bind_some]
  simp only
  rw [q4, Option.bind_some]
  exact ⟨rfl, by omega⟩
theorem ze0 {r:Nat × Nat}:(if ((r.2:Nat):Int)=0 then some (((r.1:Nat):Int),(1:Int)) else if ((r.2:Nat):Int)=12 then some (((r.1:Nat):Int),2) else some (((r.1:Nat):Int),0))=some (((r.1:Nat):Int),hintN (Sort.hintOf r.2)):=by
 unfold Sort.hintOf
 by_cases h1:r.2=0
 ·rw [if_pos (by omega),if_pos h1]; rfl
 ·rw [if_neg (by omega),if_neg h1]
  by_cases h2:r.2=12
  ·rw [if_pos (by omega),if_pos h2]; rfl
  ·rw [if_neg (by omega),if_neg h2]; rfl
theorem choosePivot_eq {a b:Nat} {d:Array Time} (hab:a < b) (hb:b≤d.size) (hd:d.size < 1152921504606846976) :
  z1k d.toList (a:Int) (b:Int)=some (((Sort.choosePivot ltT d a b).1:Int),hintN (Sort.choosePivot ltT d a b).2):=by
 unfold z1k
 have e0:IntKind.i64.wrap ((b:Int) - (a:Int))=((b - a:Nat):Int):=wsub (by omega) (by omega)
 have e1:IntKind.i64.wrap (((b - a:Nat):Int).tdiv 4)=(((b - a) / 4:Nat):Int):=by rw [Int.tdiv_eq_ediv_of_nonneg (by omega),z1w (by omega) (by omega)]; omega
 have m:∀ k:Nat,k≤3→IntKind.i64.wrap ((a:Int) + IntKind.i64.wrap ((((b - a) / 4:Nat):Int) * (k:Int)))=((a + (b - a) / 4 * k:Nat):Int):=fun k hk=>by
  have h1:(b - a) / 4 * k≤b - a:=Nat.le_trans (Nat.mul_le_mul_left _ hk) (by omega)
  have h2:(((b - a) / 4:Nat):Int) * (k:Int)=(((b - a) / 4 * k:Nat):Int):=by rw [Int.natCast_mul]
  have h3:IntKind.i64.wrap (((b - a) / 4 * k:Nat):Int)=(((b - a) / 4 * k:Nat):Int):=z7a (by unfold in64; omega)
  rw [h2,h3,wadd (by omega)]
 have m1:=m 1 (by omega)
 have m2:=m 2 (by omega)
 have m3:=m 3 (by omega)
 rw [show ((1:Nat):Int)=1 from rfl] at m1
 rw [show ((2:Nat):Int)=2 from rfl] at m2
 rw [show ((3:Nat):Int)=3 from rfl] at m3
 simp only [e0,e1,m1,m2,m3,jn_eq,z07]
 rw [Sort.choosePivot_eq]
 clear e0 e1 m m1 m2 m3
 have hraw:Sort.rawPivot ltT d a b=if b - a ≥ 8 then (if b - a ≥ 50 then (Sort.median ltT d (Sort.medianAdjacent ltT d (a + (b - a) / 4 * 1) 0).1 (Sort.medianAdjacent ltT d (a + (b - a) / 4 * 2) (Sort.medianAdjacent ltT d (a + (b - a) / 4 * 1) 0).2).1 (Sort.medianAdjacent ltT d (a + (b - a) / 4 * 3) (Sort.medianAdjacent ltT d (a + (b - a) / 4 * 2) (Sort.medianAdjacent ltT d (a + (b - a) / 4 * 1) 0).2).2).1 (Sort.medianAdjacent ltT d (a + (b - a) / 4 * 3) (Sort.medianAdjacent ltT d (a + (b - a) / 4 * 2) (Sort.medianAdjacent ltT d (a + (b - a) / 4 * 1) 0).2).2).2)
   else (Sort.median ltT d (a + (b - a) / 4 * 1) (a + (b - a) / 4 * 2) (a + (b - a) / 4 * 3) 0)) else (a + (b - a) / 4 * 2,0):=rfl
 rw [hraw]
 by_cases h8:b - a ≥ 8
 ·rw [if_pos (by omega),if_pos h8]
  by_cases h50:b - a ≥ 50
  ·rw [if_pos (by omega),if_pos h50]
   obtain ⟨q,_⟩:=zmq (d:=d) (i:=a + (b - a) / 4 * 1) (j:=a + (b - a) / 4 * 2) (k:=a + (b - a) / 4 * 3) (K:=fun (a1:Int × Int)=>if a1.2=0 then some (a1.1,(1:Int)) else if a1.2=12 then some (a1.1,2) else some (a1.1,0)) hd (by omega) (by omega) (by omega) rfl rfl rfl
   exact q.trans ze0
  ·rw [if_neg (by omega),if_neg h50]
   have z:((0:Nat):Int)=0:=rfl
   have q1:=zd0 (a:=a + (b - a) / 4 * 1) (b:=a + (b - a) / 4 * 2) (c:=a + (b - a) / 4 * 3) (s:=0) (d:=d) (by omega) (by omega) (by omega) (by omega)
   rw [z] at q1
   simp only
   rw [q1,Option.bind_some]
   exact ze0
 ·rw [if_neg (by omega),if_neg h8]
  exact ze0 (r:=(a + (b - a) / 4 * 2,0))
theorem zh3 {B:Int × Int × List Time→Option (Ctl (Int × Int × List Time) Empty)} {n i j fuel:Nat} {d:Array Time} (hn:j - i≤n) (hf:n < fuel) (hj:j < d.size)
  (hB:∀ (i j:Nat) (d' : Array Time),d'.size=d.size→j < d.size→B ((i:Int),(j:Int),d'.toList)=if i < j then some (.next (((i + 1:Nat):Int),((j - 1:Nat):Int),(Sort.swp d' i j).toList)) else some (.brk ((i:Int),(j:Int),d'.toList))) :
  ∃ x y:Int,loopN B fuel ((i:Int),(j:Int),d.toList)=some (.done (x,y,(Sort.reverseLoop i j d).toList)):=by
 induction n generalizing i j d fuel with
 | zero =>
  cases fuel with
  | zero=>omega
  | succ fuel =>
   have h:=hB i j d rfl hj
   rw [if_neg (by omega)] at h
   rw [z0x h,Sort.reverseLoop,if_neg (by omega)]
   exact ⟨_,_,rfl⟩
 | succ n ih =>
  cases fuel with
  | zero=>omega
  | succ fuel =>
   have h:=hB i j d rfl hj
   by_cases hij:i < j
   ·rw [if_pos hij] at h
    rw [z1c h,Sort.reverseLoop,if_pos hij]
    exact ih (by omega) (by omega) (by rw [z10]; omega) (fun i' j' d' h1 h2=>hB i' j' d' (by rw [h1,z10]) (by rw [z10] at h2; exact h2))
   ·rw [if_neg hij] at h
    rw [z0x h,Sort.reverseLoop,if_neg hij]
    exact ⟨_,_,rfl⟩
theorem zlq {X Y Z R Q:Type} {o:Option (Out (X × Y × Z) R)} {kn:X × Y × Z→Option Q} {kr:R→Option Q} {r:Z} {q:Option Q} (h:∃ (x:X) (y:Y),o=some (.done (x,y,r))) (hk:∀ x y,kn (x,y,r)=q):outK o kn kr=q:=by
 obtain ⟨x,y,h⟩:=h
 rw [h]
 exact hk x y
theorem zen {fuel a b:Nat} {d:Array Time} (hab:a < b) (hb:b≤d.size) (hd:d.size < 1152921504606846976) (hf:d.size + 2 < fuel) :
  z1b fuel (a:Int) (b:Int) d.toList=some (Sort.reverseRange d a b).toList:=by
 unfold z1b Sort.reverseRange
 rw [wsub1 (by omega) (by omega)]
 refine zlq (zh3 (n:=d.size) (by omega) (by omega) (by omega) ?_) (fun x y=>rfl)
 intro i j e he hj
 simp only [z07,intlt]
 by_cases hij:i < j
 ·rw [if_pos hij,if_pos hij]
  simp (disch:=omega) only [wsub1,wadd1,Int.toNat_natCast,Nat.zero_add,z06,Array.length_toList,List.length_set,z1n,z2m]
 ·rw [if_neg hij,if_neg hij]
end Go.Av
namespace Go.Av
open Go
set_option linter.unusedVariables false
set_option linter.unusedSimpArgs false
section
variable {α:Type} [Inhabited α]
theorem z41 (p : α → Bool) (d:Array α) (j:Nat):∀ (n i:Nat),j + 1 - i≤n→Sort.scanUp p d j i≤max i (j + 1)∧i≤Sort.scanUp p d j i:=by
 intro n
 induction n with
 | zero =>
  intro i hn
  rw [Sort.scanUp,if_neg (by simp; omega)]
  omega
 | succ n ih =>
  intro i hn
  rw [Sort.scanUp]
  split
  ·rename_i h
   have:i≤j:=by simp at h; exact h.1
   have:=ih (i + 1) (by omega)
   omega
  ·omega
theorem z2g (p : α → Bool) (d:Array α) (i:Nat):∀ (j:Nat),Sort.scanDown p d i j≤j
 | 0=>Nat.le_refl _
 | j + 1=>by
  unfold Sort.scanDown
  split
  ·have:=z2g p d i j; omega
  ·omega
theorem zak {S R:Type} {B:S→Option (Ctl S R)} (e:Nat→S) (p : α → Bool) (d:Array α) {j:Nat}:∀ (n i fuel:Nat),j + 1 - i≤n→n < fuel→(∀ i',i≤i' → i' ≤ max i (j + 1)→B (e i')=if i' ≤ j∧p d[i']! = true then some (.next (e (i' + 1))) else some (.brk (e i'))) →
  loopN B fuel (e i)=some (.done (e (Sort.scanUp p d j i))):=by
 intro n
 induction n with
 | zero =>
  intro i fuel hn hf hB
  cases fuel with
  | zero=>omega
  | succ fuel =>
   have h:=hB i (Nat.le_refl _) (by omega)
   rw [if_neg (by omega)] at h
   rw [z0x h,Sort.scanUp,if_neg (by simp; omega)]
 | succ n ih =>
  intro i fuel hn hf hB
  cases fuel with
  | zero=>omega
  | succ fuel =>
   have h:=hB i (Nat.le_refl _) (by omega)
   by_cases hc:i≤j∧p d[i]! = true
   ·rw [if_pos hc] at h
    rw [z1c h,Sort.scanUp,if_pos (by simpa using hc)]
    exact ih (i + 1) fuel (by omega) (by omega) (fun i' h1 h2=>hB i' (by omega) (by omega))
   ·rw [if_neg hc] at h
    rw [z0x h,Sort.scanUp,if_neg (by simpa using hc)]
theorem z8x {S R:Type} {B:S→Option (Ctl S R)} (e:Nat→S) (p : α → Bool) (d:Array α) {i:Nat} (hi:1≤i):∀ (j fuel:Nat),j < fuel→(∀ j',j' ≤ j→B (e j')=if i≤j' ∧ p d[j']! = true then some (.next (e (j' - 1))) else some (.brk (e j'))) →
  loopN B fuel (e j)=some (.done (e (Sort.scanDown p d i j))):=by
 intro j
 induction j with
 | zero =>
  intro fuel hf hB
  cases fuel with
  | zero=>omega
  | succ fuel =>
   have h:=hB 0 (Nat.le_refl _)
   rw [if_neg (by omega)] at h
   rw [z0x h]; rfl
 | succ j ih =>
  intro fuel hf hB
  cases fuel with
  | zero=>omega
  | succ fuel =>
   have h:=hB (j + 1) (Nat.le_refl _)
   unfold Sort.scanDown
   by_cases hc:i≤j + 1∧p d[j + 1]! = true
   ·rw [if_pos hc] at h
    rw [z1c h,if_pos (by simpa using hc)]
    exact ih fuel (by omega) (fun j' h1=>hB j' (by omega))
   ·rw [if_neg hc] at h
    rw [z0x h,if_neg (by simpa using hc)]
end
theorem z7x (a i j:Nat) (d:Array Time):Sort.partLoop ltT a i j d =
  if Sort.scanUp (fun x=>ltT x d[a]!) d j i > Sort.scanDown (fun x => !ltT x d[a]!) d (Sort.scanUp (fun x=>ltT x d[a]!) d j i) j then (Sort.scanDown (fun x => !ltT x d[a]!) d (Sort.scanUp (fun x=>ltT x d[a]!) d j i) j,d)
  else Sort.partLoop ltT a (Sort.scanUp (fun x=>ltT x d[a]!) d j i + 1) (Sort.scanDown (fun x => !ltT x d[a]!) d (Sort.scanUp (fun x=>ltT x d[a]!) d j i) j - 1) (Sort.swp d (Sort.scanUp (fun x=>ltT x d[a]!) d j i) (Sort.scanDown (fun x => !ltT x d[a]!) d (Sort.scanUp (fun x=>ltT x d[a]!) d j i) j)):=Sort.partLoop_eq ltT a i j d
theorem z76 (a i j:Nat) (d:Array Time):Sort.partEqLoop ltT a i j d =
  if Sort.scanUp (fun x => !ltT d[a]! x) d j i > Sort.scanDown (fun x=>ltT d[a]! x) d (Sort.scanUp (fun x => !ltT d[a]! x) d j i) j then (Sort.scanUp (fun x => !ltT d[a]! x) d j i,d)
  else Sort.partEqLoop ltT a (Sort.scanUp (fun x => !ltT d[a]! x) d j i + 1) (Sort.scanDown (fun x=>ltT d[a]! x) d (Sort.scanUp (fun x => !ltT d[a]! x) d j i) j - 1) (Sort.swp d (Sort.scanUp (fun x => !ltT d[a]! x) d j i) (Sort.scanDown (fun x=>ltT d[a]! x) d (Sort.scanUp (fun x => !ltT d[a]! x) d j i) j)):=Sort.partEqLoop_eq ltT a i j d
theorem zkk {B:Int × Int × List Time→Option (Ctl (Int × Int × List Time) Empty)} {a:Nat}:∀ (n i j fuel:Nat) (d:Array Time),j + 1 - i≤n→n < fuel→1≤i→i≤d.size→j < d.size →
  (∀ (i j:Nat) (d' : Array Time),d'.size=d.size→1≤i→i≤d.size→j < d.size→B ((i:Int),(j:Int),d'.toList) =
   if Sort.scanUp (fun x=>ltT x d'[a]!) d' j i > Sort.scanDown (fun x => !ltT x d'[a]!) d' (Sort.scanUp (fun x=>ltT x d'[a]!) d' j i) j
   then some (.brk (((Sort.scanUp (fun x=>ltT x d'[a]!) d' j i:Nat):Int),((Sort.scanDown (fun x => !ltT x d'[a]!) d' (Sort.scanUp (fun x=>ltT x d'[a]!) d' j i) j:Nat):Int),d'.toList))
   else some (.next (((Sort.scanUp (fun x=>ltT x d'[a]!) d' j i + 1:Nat):Int),((Sort.scanDown (fun x => !ltT x d'[a]!) d' (Sort.scanUp (fun x=>ltT x d'[a]!) d' j i) j - 1:Nat):Int),(Sort.swp d' (Sort.scanUp (fun x=>ltT x d'[a]!) d' j i) (Sort.scanDown (fun x => !ltT x d'[a]!) d' (Sort.scanUp (fun x=>ltT x d'[a]!) d' j i) j)).toList))) →
  ∃ x:Int,loopN B fuel ((i:Int),(j:Int),d.toList)=some (.done (x,((Sort.partLoop ltT a i j d).1:Int),(Sort.partLoop ltT a i j d).2.toList)):=by
 intro n
 induction n with
 | zero =>
  intro i j fuel d hn hf hi hi2 hj hB
  cases fuel with
  | zero=>omega
  | succ fuel =>
   have h:=hB i j d rfl hi hi2 hj
   have u:=(z41 (fun x=>ltT x d[a]!) d j _ i (Nat.le_refl _))
   have v:=z2g (fun x => !ltT x d[a]!) d (Sort.scanUp (fun x=>ltT x d[a]!) d j i) j
   rw [if_pos (by omega)] at h
   rw [z0x h,z7x,if_pos (by omega)]
   exact ⟨_,rfl⟩
 | succ n ih =>
  intro i j fuel d hn hf hi hi2 hj hB
  cases fuel with
  | zero=>omega
  | succ fuel =>
   have h:=hB i j d rfl hi hi2 hj
   have u:=(z41 (fun x=>ltT x d[a]!) d j _ i (Nat.le_refl _))
   have v:=z2g (fun x => !ltT x d[a]!) d (Sort.scanUp (fun x=>ltT x d[a]!) d j i) j
   rw [z7x]
   generalize Sort.scanUp (fun x=>ltT x d[a]!) d j i=i2 at *
   generalize Sort.scanDown (fun x => !ltT x d[a]!) d i2 j=j2 at *
   by_cases hc:i2 > j2
   ·rw [if_pos hc] at h
    rw [z0x h,if_pos hc]
    exact ⟨_,rfl⟩
   ·rw [if_neg hc] at h
    rw [z1c h,if_neg hc]
    exact ih _ _ _ _ (by omega) (by omega) (by omega) (by rw [z10]; omega) (by rw [z10]; omega) (fun i' j' d' h1 h2 h3 h4=>hB i' j' d' (by rw [h1,z10]) h2 (by rw [z10] at h3; exact h3) (by rw [z10] at h4; exact h4))
theorem zie {B:Int × Int × List Time→Option (Ctl (Int × Int × List Time) Empty)} {a:Nat}:∀ (n i j fuel:Nat) (d:Array Time),j + 1 - i≤n→n < fuel→1≤i→i≤d.size→j < d.size →
  (∀ (i j:Nat) (d' : Array Time),d'.size=d.size→1≤i→i≤d.size→j < d.size→B ((i:Int),(j:Int),d'.toList) =
   if Sort.scanUp (fun x => !ltT d'[a]! x) d' j i > Sort.scanDown (fun x=>ltT d'[a]! x) d' (Sort.scanUp (fun x => !ltT d'[a]! x) d' j i) j
   then some (.brk (((Sort.scanUp (fun x => !ltT d'[a]! x) d' j i:Nat):Int),((Sort.scanDown (fun x=>ltT d'[a]! x) d' (Sort.scanUp (fun x => !ltT d'[a]! x) d' j i) j:Nat):Int),d'.toList))
   else some (.next (((Sort.scanUp (fun x => !ltT d'[a]! x) d' j i + 1:Nat):Int),((Sort.scanDown (fun x=>ltT d'[a]! x) d' (Sort.scanUp (fun x => !ltT d'[a]! x) d' j i) j - 1:Nat):Int),(Sort.swp d' (Sort.scanUp (fun x => !ltT d'[a]! x) d' j i) (Sort.scanDown (fun x=>ltT d'[a]! x) d' (Sort.scanUp (fun x => !ltT d'[a]! x) d' j i) j)).toList))) →
  ∃ x:Int,loopN B fuel ((i:Int),(j:Int),d.toList)=some (.done (((Sort.partEqLoop ltT a i j d).1:Int),x,(Sort.partEqLoop ltT a i j d).2.toList)):=by
 intro n
 induction n with
 | zero =>
  intro i j fuel d hn hf hi hi2 hj hB
  cases fuel with
  | zero=>omega
  | succ fuel =>
   have h:=hB i j d rfl hi hi2 hj
   have u:=(z41 (fun x => !ltT d[a]! x) d j _ i (Nat.le_refl _))
   have v:=z2g (fun x=>ltT d[a]! x) d (Sort.scanUp (fun x => !ltT d[a]! x) d j i) j
   rw [if_pos (by omega)] at h
   rw [z0x h,z76,if_pos (by omega)]
   exact ⟨_,rfl⟩
 | succ n ih =>
  intro i j fuel d hn hf hi hi2 hj hB
  cases fuel with
  | zero=>omega
  | succ fuel =>
   have h:=hB i j d rfl hi hi2 hj
   have u:=(z41 (fun x => !ltT d[a]! x) d j _ i (Nat.le_refl _))
   have v:=z2g (fun x=>ltT d[a]! x) d (Sort.scanUp (fun x => !ltT d[a]! x) d j i) j
   rw [z76]
   generalize Sort.scanUp (fun x => !ltT d[a]! x) d j i=i2 at *
   generalize Sort.scanDown (fun x=>ltT d[a]! x) d i2 j=j2 at *
   by_cases hc:i2 > j2
   ·rw [if_pos hc] at h
    rw [z0x h,if_pos hc]
    exact ⟨_,rfl⟩
   ·rw [if_neg hc] at h
    rw [z1c h,if_neg hc]
    exact ih _ _ _ _ (by omega) (by omega) (by omega) (by rw [z10]; omega) (by rw [z10]; omega) (fun i' j' d' h1 h2 h3 h4=>hB i' j' d' (by rw [h1,z10]) h2 (by rw [z10] at h3; exact h3) (by rw [z10] at h4; exact h4))
theorem zli {X Y Z R Q:Type} {o:Option (Out (X × Y × Z) R)} {kn:X × Y × Z→Option Q} {kr:R→Option Q} {y:Y} {z:Z} {q:Option Q} (h:∃ x:X,o=some (.done (x,y,z))) (hk:∀ x,kn (x,y,z)=q):outK o kn kr=q:=by
 obtain ⟨x,h⟩:=h
 rw [h]
 exact hk x
theorem zm7 {X Y Z R Q:Type} {o:Option (Out (X × Y × Z) R)} {kn:X × Y × Z→Option Q} {kr:R→Option Q} {x:X} {z:Z} {q:Option Q} (h:∃ y:Y,o=some (.done (x,y,z))) (hk:∀ y,kn (x,y,z)=q):outK o kn kr=q:=by
 obtain ⟨y,h⟩:=h
 rw [h]
 exact hk y
theorem zdl {fuel a b pivot:Nat} {d:Array Time} (hp:a≤pivot∧pivot < b) (hab:a + 1 < b) (hb:b≤d.size) (hd:d.size < 1152921504606846976) (hf:d.size + 2 < fuel) :
  z13 fuel (a:Int) (b:Int) (pivot:Int) d.toList=some (((Sort.partitionEqual ltT d a b pivot).1:Int),(Sort.partitionEqual ltT d a b pivot).2.toList):=by
 unfold z13 Sort.partitionEqual
 have w1:IntKind.i64.wrap ((a:Int) + 1)=((a + 1:Nat):Int):=wadd1 (by omega)
 have w2:IntKind.i64.wrap ((b:Int) - 1)=((b - 1:Nat):Int):=wsub1 (by omega) (by omega)
 rw [w1,w2]
 simp only [Int.toNat_natCast,Nat.zero_add,Array.length_toList,List.length_set,z1n,z2m]
 rw [z06 (by omega),z06 (by omega),z06 (by omega),z06 (by omega),z06 (by omega),z06 (by omega),z06 (by omega),z06 (by omega)]
 have hsz:=z10 d a pivot
 generalize Sort.swp d a pivot=d1 at *
 refine zm7 (zie (a:=a) d1.size (a + 1) (b - 1) fuel d1 (by omega) (by omega) (by omega) (by omega) (by omega) ?_) (fun x=>rfl)
 intro i j e he hi hi2 hj
 simp only
 have u:=(z41 (fun x => !ltT e[a]! x) e j _ i (Nat.le_refl _))
 have v:=z2g (fun x=>ltT e[a]! x) e (Sort.scanUp (fun x => !ltT e[a]! x) e j i) j
 rw [zak (R:=Empty) (fun i:Nat=>(i:Int)) (fun x => !ltT e[a]! x) e (j:=j) d1.size i fuel (by omega) (by omega) (fun k h1 h2 => ?_)]
 ·simp only [z3q]
  generalize Sort.scanUp (fun x => !ltT e[a]! x) e j i=i2 at *
  rw [z8x (R:=Empty) (fun i:Nat=>(i:Int)) (fun x=>ltT e[a]! x) e (i:=i2) (by omega) j fuel (by omega) (fun k h1 => ?_)]
  ·simp only [z3q,z07,intlt,gt_iff_lt]
   generalize Sort.scanDown (fun x=>ltT e[a]! x) e i2 j=j2 at *
   by_cases hc:j2 < i2
   ·rw [if_pos hc,if_pos hc]
   ·rw [if_neg hc,if_neg hc]
    simp (disch:=omega) only [wsub1,wadd1,Int.toNat_natCast,Nat.zero_add,z06,Array.length_toList,List.length_set,z1n,z2m]
  ·simp only [jn_eq,z07,intle]
   by_cases hc:i2≤k
   ·rw [if_pos hc]
    simp (disch:=omega) only [wsub1,Int.toNat_natCast,Nat.zero_add,z06,Array.length_toList,z2a,Option.bind_some,z1n,z07,hc,true_and]
    unfold ltT
    by_cases h:cmpT e[a]! e[k]! < 0
    ·simp [h]
    ·simp [h]
   ·rw [if_neg hc,if_neg (fun h=>hc h.1),z0e]
 ·simp only [jn_eq,z07,intle]
  by_cases hc:k≤j
  ·rw [if_pos hc]
   simp (disch:=omega) only [wadd1,Int.toNat_natCast,Nat.zero_add,z06,Array.length_toList,z2a,Option.bind_some,z1n,hc,true_and]
   unfold ltT
   by_cases h:cmpT e[a]! e[k]! < 0
   ·simp [h]
   ·simp [h]
  ·rw [if_neg hc,if_neg (fun h=>hc h.1),z0e]
theorem zgr {a:Nat}:∀ (n i j:Nat) (d:Array Time),j + 1 - i≤n→1≤i→i≤d.size→j < d.size→(Sort.partLoop ltT a i j d).1≤j∧(Sort.partLoop ltT a i j d).2.size=d.size:=by
 intro n
 induction n with
 | zero =>
  intro i j d hn hi hi2 hj
  have u:=(z41 (fun x=>ltT x d[a]!) d j _ i (Nat.le_refl _))
  have v:=z2g (fun x => !ltT x d[a]!) d (Sort.scanUp (fun x=>ltT x d[a]!) d j i) j
  rw [z7x,if_pos (by omega)]
  exact ⟨v,rfl⟩
 | succ n ih =>
  intro i j d hn hi hi2 hj
  have u:=(z41 (fun x=>ltT x d[a]!) d j _ i (Nat.le_refl _))
  have v:=z2g (fun x => !ltT x d[a]!) d (Sort.scanUp (fun x=>ltT x d[a]!) d j i) j
  rw [z7x]
  generalize Sort.scanUp (fun x=>ltT x d[a]!) d j i=i2 at *
  generalize Sort.scanDown (fun x => !ltT x d[a]!) d i2 j=j2 at *
  by_cases hc:i2 > j2
  ·rw [if_pos hc]; exact ⟨v,rfl⟩
  ·rw [if_neg hc]
   have:=ih (i2 + 1) (j2 - 1) (Sort.swp d i2 j2) (by omega) (by omega) (by rw [z10]; omega) (by rw [z10]; omega)
   rw [z10] at this
   omega
theorem zhg {fuel a b pivot:Nat} {d:Array Time} (hp:a≤pivot∧pivot < b) (hab:a + 1 < b) (hb:b≤d.size) (hd:d.size < 1152921504606846976) (hf:d.size + 2 < fuel) :
  z1j fuel (a:Int) (b:Int) (pivot:Int) d.toList=some (((Sort.partition ltT d a b pivot).1:Int),(Sort.partition ltT d a b pivot).2.1,(Sort.partition ltT d a b pivot).2.2.toList):=by
 unfold z1j Sort.partition
 have w1:IntKind.i64.wrap ((a:Int) + 1)=((a + 1:Nat):Int):=wadd1 (by omega)
 have w2:IntKind.i64.wrap ((b:Int) - 1)=((b - 1:Nat):Int):=wsub1 (by omega) (by omega)
 rw [w1,w2]
 simp only [Int.toNat_natCast,Nat.zero_add,Array.length_toList,List.length_set,z1n,z2m]
 rw [z06 (by omega),z06 (by omega),z06 (by omega),z06 (by omega),z06 (by omega),z06 (by omega),z06 (by omega),z06 (by omega)]
 have hsz:=z10 d a pivot
 generalize Sort.swp d a pivot=e at *
 have u:=(z41 (fun x=>ltT x e[a]!) e (b - 1) _ (a + 1) (Nat.le_refl _))
 have v:=z2g (fun x => !ltT x e[a]!) e (Sort.scanUp (fun x=>ltT x e[a]!) e (b - 1) (a + 1)) (b - 1)
 rw [zak (R:=Empty) (fun i:Nat=>((i:Int),((b - 1:Nat):Int))) (fun x=>ltT x e[a]!) e (j:=b - 1) e.size (a + 1) fuel (by omega) (by omega) (fun k h1 h2 => ?_)]
 ·simp only [z3q]
  generalize Sort.scanUp (fun x=>ltT x e[a]!) e (b - 1) (a + 1)=i2 at *
  rw [z8x (R:=Empty) (fun i:Nat=>(i:Int)) (fun x => !ltT x e[a]!) e (i:=i2) (by omega) (b - 1) fuel (by omega) (fun k h1 => ?_)]
  ·simp only [z3q,z07,intlt,gt_iff_lt]
   generalize Sort.scanDown (fun x => !ltT x e[a]!) e i2 (b - 1)=j2 at *
   by_cases hc:j2 < i2
   ·rw [if_pos hc,if_pos hc]
    simp (disch:=omega) only [Int.toNat_natCast,Nat.zero_add,z06,Array.length_toList,List.length_set,z1n,z2m]
   ·rw [if_neg hc,if_neg hc]
    have w3:IntKind.i64.wrap ((i2:Int) + 1)=((i2 + 1:Nat):Int):=wadd1 (by omega)
    have w4:IntKind.i64.wrap ((j2:Int) - 1)=((j2 - 1:Nat):Int):=wsub1 (by omega) (by omega)
    rw [w3,w4]
    simp only [Int.toNat_natCast,Nat.zero_add,Array.length_toList,List.length_set,z1n,z2m]
    rw [z06 (by omega),z06 (by omega),z06 (by omega),z06 (by omega),z06 (by omega),z06 (by omega),z06 (by omega),z06 (by omega)]
    have hsz2:=z10 e i2 j2
    generalize Sort.swp e i2 j2=f at *
    refine zli (zkk (a:=a) f.size (i2 + 1) (j2 - 1) fuel f (by omega) (by omega) (by omega) (by omega) (by omega) ?_) (fun x => ?_)
    ·intro i j g he hi hi2 hj
     simp only
     have u:=(z41 (fun x=>ltT x g[a]!) g j _ i (Nat.le_refl _))
     have v:=z2g (fun x => !ltT x g[a]!) g (Sort.scanUp (fun x=>ltT x g[a]!) g j i) j
     rw [zak (R:=Empty) (fun i:Nat=>(i:Int)) (fun x=>ltT x g[a]!) g (j:=j) f.size i fuel (by omega) (by omega) (fun k h1 h2 => ?_)]
     ·simp only [z3q]
      generalize Sort.scanUp (fun x=>ltT x g[a]!) g j i=i3 at *
      rw [z8x (R:=Empty) (fun i:Nat=>(i:Int)) (fun x => !ltT x g[a]!) g (i:=i3) (by omega) j fuel (by omega) (fun k h1 => ?_)]
      ·simp only [z3q,z07,intlt,gt_iff_lt]
       generalize Sort.scanDown (fun x => !ltT x g[a]!) g i3 j=j3 at *
       by_cases hc:j3 < i3
       ·rw [if_pos hc,if_pos hc]
       ·rw [if_neg hc,if_neg hc]
        simp (disch:=omega) only [wsub1,wadd1,Int.toNat_natCast,Nat.zero_add,z06,Array.length_toList,List.length_set,z1n,z2m]
      ·simp only [jn_eq,z07,intle]
       by_cases hc:i3≤k
       ·rw [if_pos hc]
        simp (disch:=omega) only [wsub1,Int.toNat_natCast,Nat.zero_add,z06,Array.length_toList,z2a,Option.bind_some,z1n,z07,hc,true_and]
        unfold ltT
        by_cases h:cmpT g[k]! g[a]! < 0
        ·simp [h]
        ·simp [h]
       ·rw [if_neg hc,if_neg (fun h=>hc h.1),z0e]
     ·simp only [jn_eq,z07,intle]
      by_cases hc:k≤j
      ·rw [if_pos hc]
       simp (disch:=omega) only [wadd1,Int.toNat_natCast,Nat.zero_add,z06,Array.length_toList,z2a,Option.bind_some,z1n,hc,true_and]
       unfold ltT
       by_cases h:cmpT g[k]! g[a]! < 0
       ·simp [h]
       ·simp [h]
      ·rw [if_neg hc,if_neg (fun h=>hc h.1),z0e]
    ·have hl:=zgr (a:=a) f.size (i2 + 1) (j2 - 1) f (by omega) (by omega) (by omega) (by omega)
     generalize Sort.partLoop ltT a (i2 + 1) (j2 - 1) f=r at *
     simp (disch:=omega) only [Int.toNat_natCast,Nat.zero_add,z06,Array.length_toList,List.length_set,z1n,z2m]
  ·simp only [jn_eq,z07,intle]
   by_cases hc:i2≤k
   ·rw [if_pos hc]
    simp (disch:=omega) only [wsub1,Int.toNat_natCast,Nat.zero_add,z06,Array.length_toList,z2a,Option.bind_some,z1n,z07,hc,true_and]
    unfold ltT
    by_cases h:cmpT e[k]! e[a]! < 0
    ·simp [h]
    ·simp [h]
   ·rw [if_neg hc,if_neg (fun h=>hc h.1),z0e]
 ·simp only [jn_eq,z07,intle]
  by_cases hc:k≤b - 1
  ·rw [if_pos hc]
   simp (disch:=omega) only [wadd1,Int.toNat_natCast,Nat.zero_add,z06,Array.length_toList,z2a,Option.bind_some,z1n,hc,true_and]
   unfold ltT
   by_cases h:cmpT e[k]! e[a]! < 0
   ·simp [h]
   ·simp [h]
  ·rw [if_neg hc,if_neg (fun h=>hc h.1),z0e]
end Go.Av
namespace Go.Av
open Go
set_option linter.unusedVariables false
set_option linter.unusedSimpArgs false
theorem z9q:∀ (j:Nat) (d:Array Time),(Sort.shiftDown ltT j d).size=d.size
 | 0,d=>rfl
 | j + 1,d=>by
  unfold Sort.shiftDown
  split
  ·rfl
  ·rw [z9q j,z10]
theorem zfo {B:Int × List Time→Option (Ctl (Int × List Time) Empty)}:∀ (j fuel:Nat) (d:Array Time),j < fuel→j < d.size →
  (∀ (j:Nat) (d' : Array Time),d'.size=d.size→j < d.size→B ((j:Int),d'.toList)=if 1≤j∧ltT d'[j]! d'[j - 1]! = true then some (.next (((j - 1:Nat):Int),(Sort.swp d' j (j - 1)).toList)) else some (.brk ((j:Int),d'.toList))) →
  ∃ x:Int,loopN B fuel ((j:Int),d.toList)=some (.done (x,(Sort.shiftDown ltT j d).toList)):=by
 intro j
 induction j with
 | zero =>
  intro fuel d hf hj hB
  cases fuel with
  | zero=>omega
  | succ fuel =>
   have h:=hB 0 d rfl hj
   rw [if_neg (by omega)] at h
   rw [z0x h]
   exact ⟨_,rfl⟩
 | succ j ih =>
  intro fuel d hf hj hB
  cases fuel with
  | zero=>omega
  | succ fuel =>
   have h:=hB (j + 1) d rfl hj
   rw [Nat.add_sub_cancel] at h
   unfold Sort.shiftDown
   by_cases hc:ltT d[j + 1]! d[j]! = true
   ·rw [if_pos ⟨by omega,hc⟩] at h
    rw [z1c h,if_neg (by simp [hc])]
    exact ih fuel _ (by omega) (by rw [z10]; omega) (fun j' d' h1 h2=>hB j' d' (by rw [h1,z10]) (by rw [z10] at h2; exact h2))
   ·rw [if_neg (fun h=>hc h.2)] at h
    rw [z0x h,if_pos (by simpa using hc)]
    exact ⟨_,rfl⟩
theorem zjf (b:Nat):∀ (n j:Nat) (d:Array Time),b - j≤n→(Sort.shiftUp ltT b j d).size=d.size:=by
 intro n
 induction n with
 | zero=>intro j d hn; rw [Sort.shiftUp,if_neg (by omega)]
 | succ n ih =>
  intro j d hn
  rw [Sort.shiftUp]
  split
  ·split
   ·rfl
   ·rw [ih _ _ (by omega),z10]
  ·rfl
theorem zhs {B:Int × List Time→Option (Ctl (Int × List Time) Empty)} {b:Nat}:∀ (n j fuel:Nat) (d:Array Time),b - j≤n→n < fuel→1≤j→b≤d.size →
  (∀ (j:Nat) (d' : Array Time),d'.size=d.size→1≤j→B ((j:Int),d'.toList)=if j < b∧ltT d'[j]! d'[j - 1]! = true then some (.next (((j + 1:Nat):Int),(Sort.swp d' j (j - 1)).toList)) else some (.brk ((j:Int),d'.toList))) →
  ∃ x:Int,loopN B fuel ((j:Int),d.toList)=some (.done (x,(Sort.shiftUp ltT b j d).toList)):=by
 intro n
 induction n with
 | zero =>
  intro j fuel d hn hf hj hb hB
  cases fuel with
  | zero=>omega
  | succ fuel =>
   have h:=hB j d rfl hj
   rw [if_neg (by omega)] at h
   rw [z0x h,Sort.shiftUp,if_neg (by omega)]
   exact ⟨_,rfl⟩
 | succ n ih =>
  intro j fuel d hn hf hj hb hB
  cases fuel with
  | zero=>omega
  | succ fuel =>
   have h:=hB j d rfl hj
   rw [Sort.shiftUp]
   by_cases hjb:j < b
   ·rw [if_pos hjb]
    by_cases hc:ltT d[j]! d[j - 1]! = true
    ·rw [if_pos ⟨hjb,hc⟩] at h
     rw [z1c h,if_neg (by simp [hc])]
     exact ih _ fuel _ (by omega) (by omega) (by omega) (by rw [z10]; omega) (fun j' d' h1 h2=>hB j' d' (by rw [h1,z10]) h2)
    ·rw [if_neg (fun h=>hc h.2)] at h
     rw [z0x h,if_pos (by simpa using hc)]
     exact ⟨_,rfl⟩
   ·rw [if_neg (fun h=>hjb h.1)] at h
    rw [z0x h,if_neg hjb]
    exact ⟨_,rfl⟩
theorem zad {B:Int→Option (Ctl Int Empty)} {b:Nat} {d:Array Time}:∀ (n i fuel:Nat),b - i≤n→n < fuel→1≤i →
  (∀ (i' : Nat),i≤i' → B (i' : Int)=if i' < b∧ltT d[i']! d[i' - 1]! = false then some (.next ((i' + 1:Nat):Int)) else some (.brk (i' : Int))) →
  loopN B fuel (i:Int)=some (.done ((Sort.scanSorted ltT d b i:Nat):Int))∧i≤Sort.scanSorted ltT d b i∧(i≤b→Sort.scanSorted ltT d b i≤b):=by
 intro n
 induction n with
 | zero =>
  intro i fuel hn hf hi hB
  cases fuel with
  | zero=>omega
  | succ fuel =>
   have h:=hB i (Nat.le_refl _)
   rw [if_neg (by omega)] at h
   rw [z0x h,Sort.scanSorted,if_neg (by simp; omega)]
   exact ⟨rfl,Nat.le_refl _,fun h=>h⟩
 | succ n ih =>
  intro i fuel hn hf hi hB
  cases fuel with
  | zero=>omega
  | succ fuel =>
   have h:=hB i (Nat.le_refl _)
   rw [Sort.scanSorted]
   by_cases hc:i < b∧ltT d[i]! d[i - 1]! = false
   ·rw [if_pos hc] at h
    rw [z1c h,if_pos (by simpa using hc)]
    obtain ⟨h1,h2,h3⟩:=ih (i + 1) fuel (by omega) (by omega) (by omega) (fun i' h=>hB i' (by omega))
    exact ⟨h1,by omega,fun h=>h3 (by omega)⟩
   ·rw [if_neg hc] at h
    rw [z0x h,if_neg (by simpa using hc)]
    exact ⟨rfl,Nat.le_refl _,fun h=>h⟩
def zb4 (a b i:Nat) (d:Array Time):Array Time :=
 let d:=Sort.swp d i (i - 1)
 let d:=if i - a ≥ 2 then Sort.shiftDown ltT (i - 1) d else d
 if b - i ≥ 2 then Sort.shiftUp ltT b (i + 1) d else d
theorem zbl (a b i:Nat) (d:Array Time):(zb4 a b i d).size=d.size:=by
 unfold zb4
 dsimp only
 split <;> split <;> simp [zjf b b _ _ (Nat.sub_le _ _),z9q,z10]
theorem zb1 (a b s i:Nat) (d:Array Time):Sort.partialIns ltT a b (s + 1) i d =
  if Sort.scanSorted ltT d b i=b then (d,true) else if b - a < 50 then (d,false) else Sort.partialIns ltT a b s (Sort.scanSorted ltT d b i) (zb4 a b (Sort.scanSorted ltT d b i) d):=rfl
theorem zmb {B:Int × Int × List Time→Option (Ctl (Int × Int × List Time) (Bool × List Time))} {a b:Nat} {Q:Type} {kn:Int × Int × List Time→Option Q} {kr:Bool × List Time→Option Q} {q:Option Q}:∀ (s i fuel:Nat) (d:Array Time),s≤5→s < fuel→a < i→i≤b →
  (∀ (i:Nat) (d' : Array Time),d'.size=d.size→a < i→i≤b→i≤Sort.scanSorted ltT d' b i∧Sort.scanSorted ltT d' b i≤b) →
  (∀ (s i:Nat) (d' : Array Time),d'.size=d.size→s≤5→a < i→i≤b→B ((i:Int),((5 - s:Nat):Int),d'.toList)=match s with
   | 0=>some (.brk ((i:Int),5,d'.toList))
   | s + 1=>if Sort.scanSorted ltT d' b i=b then some (.ret (true,d'.toList)) else if b - a < 50 then some (.ret (false,d'.toList)) else some (.next (((Sort.scanSorted ltT d' b i:Nat):Int),((5 - s:Nat):Int),(zb4 a b (Sort.scanSorted ltT d' b i) d').toList))) →
  (∀ x,(Sort.partialIns ltT a b s i d).2=false→kn (x,5,(Sort.partialIns ltT a b s i d).1.toList)=q)→(kr ((Sort.partialIns ltT a b s i d).2,(Sort.partialIns ltT a b s i d).1.toList)=q) →
  outK (loopN B fuel ((i:Int),((5 - s:Nat):Int),d.toList)) kn kr=q:=by
 intro s
 induction s with
 | zero =>
  intro i fuel d hs hf hi hib hsc hB hkn hkr
  cases fuel with
  | zero=>omega
  | succ fuel =>
   rw [z0x (hB 0 i d rfl hs hi hib)]
   exact hkn _ rfl
 | succ s ih =>
  intro i fuel d hs hf hi hib hsc hB hkn hkr
  cases fuel with
  | zero=>omega
  | succ fuel =>
   have h:=hB (s + 1) i d rfl hs hi hib
   simp only at h
   rw [zb1] at hkn hkr
   have hb:=hsc i d rfl hi hib
   by_cases h1:Sort.scanSorted ltT d b i=b
   ·rw [if_pos h1] at h
    rw [z6q h]
    rw [if_pos h1] at hkr
    exact hkr
   ·rw [if_neg h1] at h hkn hkr
    by_cases h2:b - a < 50
    ·rw [if_pos h2] at h
     rw [z6q h]
     rw [if_pos h2] at hkr
     exact hkr
    ·rw [if_neg h2] at h hkn hkr
     rw [z1c h]
     exact ih _ fuel _ (by omega) (by omega) (by omega) (by omega) (fun i' d' h1 h2 h3=>hsc i' d' (by rw [h1,zbl]) h2 h3) (fun s' i' d' h1 h2 h3 h4=>hB s' i' d' (by rw [h1,zbl]) h2 h3 h4) hkn hkr
theorem za7 {fuel a b:Nat} {d:Array Time} (hab:a < b) (hb:b≤d.size) (hd:d.size < 1152921504606846976) (hf:d.size + 10 < fuel) :
  z0n fuel (a:Int) (b:Int) d.toList=some ((Sort.partialInsertionSort ltT d a b).2,(Sort.partialInsertionSort ltT d a b).1.toList):=by
 unfold z0n Sort.partialInsertionSort
 rw [wadd1 (by omega)]
 refine zmb (a:=a) (b:=b) 5 (a + 1) fuel d (by omega) (by omega) (by omega) (by omega) ?_ ?_ (fun x h=>by rw [h]) rfl
 ·intro i e he h1 h2
  have:=(zad (B:=fun x=>if x.toNat < b∧ltT e[x.toNat]! e[x.toNat - 1]! = false then some (.next ((x.toNat + 1:Nat):Int)) else some (.brk (x.toNat:Int))) (b:=b) (d:=e) b i (b + 1) (by omega) (by omega) (by omega) (fun i' h=>by simp only [Int.toNat_natCast]))
  exact ⟨this.2.1,this.2.2 h2⟩
 ·intro s i e he hs hi hib
  cases s with
  | zero=>rfl
  | succ s =>
   simp only [z07,jn_eq]
   rw [if_pos (show ((5 - (s + 1):Nat):Int) < 5 by omega)]
   obtain ⟨g1,g2,g3⟩:=zad (B:=fun (a5:Int)=>if (a5 < (b:Int)) then (need ((0:Int)≤a5∧a5 < (e.toList.length:Int)) <| need ((0 + a5.toNat) < e.toList.length) <| need ((0:Int)≤(IntKind.i64.wrap (a5 - 1))∧(IntKind.i64.wrap (a5 - 1)) < (e.toList.length:Int)) <| need ((0 + (IntKind.i64.wrap (a5 - 1)).toNat) < e.toList.length) <| (z11 (e.toList.getD (0 + a5.toNat) default) (e.toList.getD (0 + (IntKind.i64.wrap (a5 - 1)).toNat) default)).bind fun r54=>bf (!(decide (r54 < 0))) (some (.next (IntKind.i64.wrap (a5 + 1)))) (some (.brk a5))) else (bf false (some (.next (IntKind.i64.wrap (a5 + 1)))) (some (.brk a5)))) (b:=b) (d:=e) b i fuel (by omega) (by omega) (by omega) (fun k hk=>by
    simp only [jn_eq,intlt]
    by_cases hc:k < b
    ·rw [if_pos hc]
     simp (disch:=omega) only [wsub1,wadd1,Int.toNat_natCast,Nat.zero_add,z06,Array.length_toList,z2a,Option.bind_some,z1n,hc,true_and]
     unfold ltT
     by_cases h:cmpT e[k]! e[k - 1]! < 0
     ·simp [h]
     ·simp [h]
    ·rw [if_neg hc,if_neg (fun h=>hc h.1),z0e])
   rw [g1]
   simp only [z3q]
   have g3:=g3 hib
   generalize Sort.scanSorted ltT e b i=i2 at *
   by_cases h1:i2=b
   ·rw [if_pos h1,if_pos (by omega)]
   ·rw [if_neg h1,if_neg (by omega),wsub (by omega) (by omega)]
    by_cases h2:b - a < 50
    ·rw [if_pos h2,if_pos (by omega)]
    ·rw [if_neg h2,if_neg (by omega)]
     have w1:IntKind.i64.wrap ((i2:Int) + 1)=((i2 + 1:Nat):Int):=wadd1 (by omega)
     have w2:IntKind.i64.wrap ((i2:Int) - 1)=((i2 - 1:Nat):Int):=wsub1 (by omega) (by omega)
     have w3:IntKind.i64.wrap ((i2:Int) - (a:Int))=((i2 - a:Nat):Int):=wsub (by omega) (by omega)
     have w4:IntKind.i64.wrap ((b:Int) - (i2:Int))=((b - i2:Nat):Int):=wsub (by omega) (by omega)
     have w5:IntKind.i64.wrap (((5 - (s + 1):Nat):Int) + 1)=((5 - s:Nat):Int):=by rw [wadd1 (by omega)]; omega
     simp only [w1,w2,w3,w4,w5,Int.toNat_natCast,Nat.zero_add,Array.length_toList,List.length_set,z1n,z2m,jn_eq]
     rw [z06 (by omega),z06 (by omega),z06 (by omega),z06 (by omega),z06 (by omega),z06 (by omega),z06 (by omega),z06 (by omega)]
     unfold zb4
     dsimp only
     have hsz:=z10 e i2 (i2 - 1)
     generalize Sort.swp e i2 (i2 - 1)=f at *
     have up:∀ g:Array Time,g.size=e.size→(if (2:Int)≤((b - i2:Nat):Int) then (outK (loopN (S:=Int × (List Time)) (R:=Empty) (fun (a17:Int × (List Time))=>if (a17.1 < (b:Int)) then (need ((0:Int)≤a17.1∧a17.1 < (a17.2.length:Int)) <| need (a17.1.toNat < a17.2.length) <| need ((0:Int)≤(IntKind.i64.wrap (a17.1 - 1))∧(IntKind.i64.wrap (a17.1 - 1)) < (a17.2.length:Int)) <| need ((IntKind.i64.wrap (a17.1 - 1)).toNat < a17.2.length) <| (z11 (a17.2.getD a17.1.toNat default) (a17.2.getD (IntKind.i64.wrap (a17.1 - 1)).toNat default)).bind fun r23=>bf (!(decide (r23 < 0))) (some (.brk (a17.1,a17.2))) (need ((0:Int)≤(IntKind.i64.wrap (a17.1 - 1))∧(IntKind.i64.wrap (a17.1 - 1)) < (a17.2.length:Int)) <| need ((IntKind.i64.wrap (a17.1 - 1)).toNat < a17.2.length) <| need ((0:Int)≤a17.1∧a17.1 < (a17.2.length:Int)) <| need (a17.1.toNat < a17.2.length) <| need ((0:Int)≤a17.1∧a17.1 < (a17.2.length:Int)) <| need (a17.1.toNat < a17.2.length) <| need ((0:Int)≤(IntKind.i64.wrap (a17.1 - 1))∧(IntKind.i64.wrap (a17.1 - 1)) < (a17.2.length:Int)) <| need ((IntKind.i64.wrap (a17.1 - 1)).toNat < a17.2.length) <| some (.next ((IntKind.i64.wrap (a17.1 + 1)),((a17.2.set a17.1.toNat (a17.2.getD (IntKind.i64.wrap (a17.1 - 1)).toNat default)).set (IntKind.i64.wrap (a17.1 - 1)).toNat (a17.2.getD a17.1.toNat default)))))) else (some (.brk (a17.1,a17.2)))) fuel (((i2 + 1:Nat):Int),g.toList)) (fun (a18:Int × (List Time))=>some (Ctl.next ((i2:Int),((5 - s:Nat):Int),a18.2))) (fun (x:Empty)=>x.elim)) else some (Ctl.next ((i2:Int),((5 - s:Nat):Int),g.toList)))=(some (Ctl.next ((i2:Int),((5 - s:Nat):Int),(if b - i2 ≥ 2 then Sort.shiftUp ltT b (i2 + 1) g else g).toList)):Option (Ctl (Int × Int × List Time) (Bool × List Time))):=fun g hg=>by
      by_cases h3:b - i2 ≥ 2
      ·rw [if_pos h3,if_pos (by omega)]
       refine z64 (zhs (b:=b) b (i2 + 1) fuel g (by omega) (by omega) (by omega) (by omega) ?_) (fun x=>rfl)
       intro j g' hg' hj
       simp only [intlt]
       by_cases hc:j < b
       ·rw [if_pos hc]
        simp (disch:=omega) only [wsub1,wadd1,Int.toNat_natCast,Nat.zero_add,z06,Array.length_toList,List.length_set,z2a,Option.bind_some,z1n,z2m,hc,true_and]
        unfold ltT
        by_cases h:cmpT g'[j]! g'[j - 1]! < 0
        ·simp [h]
        ·simp [h]
       ·rw [if_neg hc,if_neg (fun h=>hc h.1)]
      ·rw [if_neg h3,if_neg (by omega)]
     by_cases h4:i2 - a ≥ 2
     ·rw [if_pos h4,if_pos (by omega)]
      refine z64 (zfo (i2 - 1) fuel f (by omega) (by omega) ?_) (fun x => ?_)
      ·intro j g' hg' hj
       by_cases hc:1≤j
       ·simp only [show ((1:Int)≤(j:Int))=True from eq_true (by omega),if_true]
        simp (disch:=omega) only [wsub1,wadd1,Int.toNat_natCast,Nat.zero_add,z06,Array.length_toList,List.length_set,z2a,Option.bind_some,z1n,z2m,hc,true_and]
        unfold ltT
        by_cases h:cmpT g'[j]! g'[j - 1]! < 0
        ·simp [h]
        ·simp [h]
       ·rw [if_neg (by simp only; omega),if_neg (fun h=>hc h.1)]
      ·exact up (Sort.shiftDown ltT (i2 - 1) f) (by rw [z9q]; omega)
     ·rw [if_neg h4,if_neg (by omega)]
      exact up f (by omega)
end Go.Av
namespace Go.Av
open Go
set_option linter.unusedVariables false
set_option linter.unusedSimpArgs false
theorem zng:∀ x:Fin 256,∃ l:Fin 9,bt z2s (x.val:Int)=(l.val:Int)∧x.val < 2 ^ l.val∧(x.val=0→l.val=0)∧(x.val ≠ 0→2 ^ (l.val - 1)≤x.val∧0 < l.val):=by decide +kernel
def IsLen (n L:Nat):Prop:=n < 2 ^ L∧(n=0→L=0)∧(n ≠ 0→2 ^ (L - 1)≤n∧0 < L)
theorem IsLen.shift {n L s:Nat} (h:IsLen (n / 2 ^ s) L) (hn:2 ^ s≤n):IsLen n (L + s):=by
 obtain ⟨h1,h2,h3⟩:=h
 have hp:0 < 2 ^ s:=Nat.pow_pos (by decide)
 have hq:n / 2 ^ s ≠ 0:=Nat.ne_of_gt (Nat.div_pos hn hp)
 obtain ⟨h4,h5⟩:=h3 hq
 refine ⟨?_,fun h=>by omega,fun _=>⟨?_,by omega⟩⟩
 ·rw [Nat.pow_add]
  exact (Nat.div_lt_iff_lt_mul hp).1 h1
 ·rw [show L + s - 1=(L - 1) + s by omega,Nat.pow_add]
  exact (Nat.le_div_iff_mul_le hp).1 h4
theorem zlv {n:Nat} (h:n < 2 ^ 64):∃ L:Nat,z5t (n:Int)=some (L:Int)∧IsLen n L∧L≤64:=by
 have last:∀ (x b:Nat),x < 256→b≤56→∃ L:Nat,(need ((0:Int)≤(IntKind.u8.wrap (x:Int))∧(IntKind.u8.wrap (x:Int)) < (z2s.size:Int)) <| some (IntKind.i64.wrap ((b:Int) + (IntKind.i64.wrap (bt z2s (IntKind.u8.wrap (x:Int)))))))=some ((L + b:Nat):Int)∧IsLen x L∧L≤8:=fun x b hx hb=>by
  obtain ⟨l,h1,h2,h3,h4⟩:=zng ⟨x,hx⟩
  have e:IntKind.u8.wrap (x:Int)=(x:Int):=uwrap (k:=.u8) rfl hx
  have hsz:z2s.size=256:=by decide +kernel
  rw [e,hsz,z06 (by omega),h1]
  have hl:=l.isLt
  refine ⟨l.val,?_,⟨h2,h3,h4⟩,by omega⟩
  rw [z1w (n:=(l.val:Int)) (by omega) (by omega),z1w (by omega) (by omega)]
  exact congrArg some (by omega)
 have s8:∀ x:Nat,shrOp .u64 (x:Int) 8=((x / 2 ^ 8:Nat):Int):=fun x=>zaq .u64 x 8 (by decide)
 have s16:∀ x:Nat,shrOp .u64 (x:Int) 16=((x / 2 ^ 16:Nat):Int):=fun x=>zaq .u64 x 16 (by decide)
 have s32:∀ x:Nat,shrOp .u64 (x:Int) 32=((x / 2 ^ 32:Nat):Int):=fun x=>zaq .u64 x 32 (by decide)
 have p8:∀ (x b:Nat),x < 65536→b≤48→∃ L:Nat,bf (decide (256≤(x:Int))) (need ((0:Int)≤(IntKind.u8.wrap (shrOp .u64 (x:Int) 8))∧(IntKind.u8.wrap (shrOp .u64 (x:Int) 8)) < (z2s.size:Int)) <| some (IntKind.i64.wrap ((IntKind.i64.wrap ((b:Int) + 8)) + (IntKind.i64.wrap (bt z2s (IntKind.u8.wrap (shrOp .u64 (x:Int) 8))))))) (need ((0:Int)≤(IntKind.u8.wrap (x:Int))∧(IntKind.u8.wrap (x:Int)) < (z2s.size:Int)) <| some (IntKind.i64.wrap ((b:Int) + (IntKind.i64.wrap (bt z2s (IntKind.u8.wrap (x:Int)))))))=some ((L + b:Nat):Int)∧IsLen x L∧L≤16:=fun x b hx hb=>by
  rw [z07]
  by_cases h1:256≤(x:Int)
  ·rw [if_pos h1,s8,z1w (n:=(b:Int) + 8) (by omega) (by omega)]
   obtain ⟨L,g1,g2,g3⟩:=last (x / 2 ^ 8) (b + 8) (by omega) (by omega)
   rw [show ((b + 8:Nat):Int)=(b:Int) + 8 by omega] at g1
   refine ⟨L + 8,?_,g2.shift (by omega),by omega⟩
   exact g1.trans (congrArg some (by omega))
  ·rw [if_neg h1]
   obtain ⟨L,g1,g2,g3⟩:=last x b (by omega) (by omega)
   exact ⟨L,g1,g2,by omega⟩
 unfold z5t
 simp only [jn_eq]
 by_cases h1:4294967296≤(n:Int)
 ·rw [z07,if_pos h1,s32,z07]
  by_cases h2:65536≤((n / 2 ^ 32:Nat):Int)
  ·rw [if_pos h2,s16,show IntKind.i64.wrap (32 + 16)=((48:Nat):Int) from by decide]
   obtain ⟨L,g1,g2,g3⟩:=p8 (n / 2 ^ 32 / 2 ^ 16) 48 (by omega) (by omega)
   refine ⟨L + 48,g1,?_,by omega⟩
   have:=(g2.shift (by omega)).shift (n:=n) (s:=32) (by omega)
   rw [Nat.add_assoc] at this
   exact this
  ·rw [if_neg h2]
   obtain ⟨L,g1,g2,g3⟩:=p8 (n / 2 ^ 32) 32 (by omega) (by omega)
   exact ⟨L + 32,g1,g2.shift (by omega),by omega⟩
 ·rw [z07,if_neg h1,z07]
  by_cases h2:65536≤(n:Int)
  ·rw [if_pos h2,s16,show IntKind.i64.wrap (0 + 16)=((16:Nat):Int) from by decide]
   obtain ⟨L,g1,g2,g3⟩:=p8 (n / 2 ^ 16) 16 (by omega) (by omega)
   exact ⟨L + 16,g1,g2.shift (by omega),by omega⟩
  ·rw [if_neg h2]
   obtain ⟨L,g1,g2,g3⟩:=p8 n 0 (by omega) (by omega)
   exact ⟨L,by rw [show ((0:Nat):Int)=0 from rfl] at g1; exact g1,g2,by omega⟩
theorem zlx {n L K:Nat} (h:IsLen n L) (g:IsLen n K):L=K:=by
 obtain ⟨h1,h2,h3⟩:=h
 obtain ⟨g1,g2,g3⟩:=g
 by_cases h0:n=0
 ·rw [h2 h0,g2 h0]
 ·obtain ⟨h4,h5⟩:=h3 h0
  obtain ⟨g4,g5⟩:=g3 h0
  rcases Nat.lt_trichotomy L K with e | e | e
  ·have:=Nat.pow_le_pow_right (n:=2) (by decide) (show L≤K - 1 by omega); omega
  ·exact e
  ·have:=Nat.pow_le_pow_right (n:=2) (by decide) (show K≤L - 1 by omega); omega
theorem zjr (n:Nat):IsLen n (Sort.bitsLen n):=by
 refine ⟨Sort.lt_two_pow_bitsLen n,fun h=>by rw [h]; rfl,fun h => ?_⟩
 have hp:0 < Sort.bitsLen n:=by unfold Sort.bitsLen; rw [if_neg h]; omega
 refine ⟨?_,hp⟩
 have:=mt (Sort.bitsLen_le_iff n (Sort.bitsLen n - 1)).2 (by omega)
 omega
theorem zek {n k:Nat} (h:n < 2 ^ k):Sort.bitsLen n≤k:=(Sort.bitsLen_le_iff n k).2 h
theorem zki {n:Nat} (h:n < 2 ^ 64):z5g (n:Int)=some ((Sort.bitsLen n:Nat):Int):=by
 unfold z5g
 have e:IntKind.u64.wrap (n:Int)=(n:Int):=uwrap (k:=.u64) rfl h
 obtain ⟨L,e1,e2,_⟩:=zlv h
 rw [show Sort.bitsLen n=L from zlx (zjr n) e2]
 first
  | rw [e,e1]; rfl
  | (rw [e1]; rfl)
end Go.Av
namespace Go.Av
open Go
set_option linter.unusedVariables false
set_option linter.unusedSimpArgs false
theorem zn5 {x:Nat} (h:x < 2 ^ 64):z3m (x:Int)=some (((Sort.xorNextN x:Nat):Int),((Sort.xorNextN x:Nat):Int)):=by
 unfold z3m
 have s13:∀ y:Nat,shlOp .u64 (y:Int) 13=((y * 8192 % 18446744073709551616:Nat):Int):=fun y=>by
  have:=zfr (k:=.u64) y 13 (by decide)
  rw [show ((13:Nat):Int)=13 from rfl] at this
  rw [this,z8a]; omega
 have s17:∀ y:Nat,shlOp .u64 (y:Int) 17=((y * 131072 % 18446744073709551616:Nat):Int):=fun y=>by
  have:=zfr (k:=.u64) y 17 (by decide)
  rw [show ((17:Nat):Int)=17 from rfl] at this
  rw [this,z8a]; omega
 have s7:∀ y:Nat,shrOp .u64 (y:Int) 7=((y / 128:Nat):Int):=fun y=>zaq .u64 y 7 (by decide)
 have ha:x ^^^ (x * 8192 % 18446744073709551616) < 2 ^ 64:=Nat.xor_lt_two_pow h (by omega)
 have hb:(x ^^^ (x * 8192 % 18446744073709551616)) ^^^ ((x ^^^ (x * 8192 % 18446744073709551616)) / 128) < 2 ^ 64:=Nat.xor_lt_two_pow ha (by omega)
 rw [s13,zfw (k:=.u64) rfl h (show x * 8192 % 18446744073709551616 < 2 ^ 64 by omega),s7,zfw (k:=.u64) rfl ha (show (x ^^^ (x * 8192 % 18446744073709551616)) / 128 < 2 ^ 64 by omega),s17,zfw (k:=.u64) rfl hb (show ((x ^^^ (x * 8192 % 18446744073709551616)) ^^^ ((x ^^^ (x * 8192 % 18446744073709551616)) / 128)) * 131072 % 18446744073709551616 < 2 ^ 64 by omega)]
 rfl
theorem zcl (a l m:Nat) (st:UInt64 × Array Time) (i:Nat):(Sort.breakStep a l m st i).2.size=st.2.size:=by
 unfold Sort.breakStep
 exact z10 _ _ _
theorem zjl {l:Nat} (h:l < 1152921504606846976):Sort.bitsLen l≤60:=zek h
theorem zjq {B:Int × Int × Int × List Time→Option (Ctl (Int × Int × Int × List Time) Empty)} {a b l M fuel K:Nat} {d:Array Time} {r0:UInt64} {n0:Nat} (h0:r0.toNat=n0) {Q:Type} {kn:Int × Int × Int × List Time→Option Q} {kr:Empty→Option Q} {q:Option Q} (hf:4 < fuel) (hK0:1≤K) (hK:a≤K - 1) (hK2:K + 1 < b) (hb:b≤d.size)
  (hB:∀ (k:Nat) (r:UInt64) (e:Array Time),e.size=d.size→a≤k→k≤K + 1→k < b→B ((n0:Int),(k:Int),(r.toNat:Int),e.toList)=some (.next ((n0:Int),((k + 1:Nat):Int),((Sort.breakStep a l M (r,e) k).1.toNat:Int),(Sort.breakStep a l M (r,e) k).2.toList)))
  (hE:∀ (r:UInt64) (e:Array Time),B ((n0:Int),((K + 2:Nat):Int),(r.toNat:Int),e.toList)=some (.brk ((n0:Int),((K + 2:Nat):Int),(r.toNat:Int),e.toList)))
  (hk:∀ x y z,kn (x,y,z,(Sort.breakStep a l M (Sort.breakStep a l M (Sort.breakStep a l M (r0,d) (K - 1)) (K - 1 + 1)) (K - 1 + 2)).2.toList)=q) :
  outK (loopN B fuel ((n0:Int),((K - 1:Nat):Int),(n0:Int),d.toList)) kn kr=q:=by
 subst h0
 obtain ⟨f,rfl⟩:∃ f,fuel=f + 1 + 1 + 1 + 1:=⟨fuel - 4,by omega⟩
 have s1:=zcl a l M (r0,d) (K - 1)
 have s2:=zcl a l M (Sort.breakStep a l M (r0,d) (K - 1)) (K - 1 + 1)
 have h1:=hB (K - 1) r0 d rfl (by omega) (by omega) (by omega)
 have h2:=hB (K - 1 + 1) (Sort.breakStep a l M (r0,d) (K - 1)).1 (Sort.breakStep a l M (r0,d) (K - 1)).2 s1 (by omega) (by omega) (by omega)
 have h3:=hB (K - 1 + 1 + 1) (Sort.breakStep a l M (Sort.breakStep a l M (r0,d) (K - 1)) (K - 1 + 1)).1 (Sort.breakStep a l M (Sort.breakStep a l M (r0,d) (K - 1)) (K - 1 + 1)).2 (s2.trans s1) (by omega) (by omega) (by omega)
 rw [z1c h1,z1c h2,z1c h3,show K - 1 + 1 + 1 + 1=K + 2 by omega,z0x (hE _ _)]
 exact hk _ _ _
theorem zeb {fuel a b:Nat} {d:Array Time} (hab:a < b) (hb:b≤d.size) (hd:d.size < 1152921504606846976) (hf:4 < fuel) :
  z14 fuel (a:Int) (b:Int) d.toList=some (Sort.breakPatterns d a b).toList:=by
 unfold z14 Sort.breakPatterns
 have e0:IntKind.i64.wrap ((b:Int) - (a:Int))=((b - a:Nat):Int):=wsub (by omega) (by omega)
 simp only [e0,z07]
 by_cases h8:b - a ≥ 8
 ·rw [if_pos h8,if_pos (by omega)]
  have hL:=zjl (l:=b - a) (by omega)
  have hLl:=Sort.lt_two_pow_bitsLen (b - a)
  have hLu:=Sort.two_pow_bitsLen_le (n:=b - a) (by omega)
  have hp:2 ^ Sort.bitsLen (b - a)≤2 ^ 60:=Nat.pow_le_pow_right (by decide) hL
  have hm:z3o ((b - a:Nat):Int)=some ((2 ^ Sort.bitsLen (b - a):Nat):Int):=by
   unfold z3o
   have e:IntKind.u64.wrap ((b - a:Nat):Int)=((b - a:Nat):Int):=uwrap (k:=.u64) rfl (show b - a < 2 ^ 64 by omega)
   rw [e,zki (by omega),Option.bind_some,z06 (by omega)]
   have:=zfr (k:=.u64) 1 (Sort.bitsLen (b - a)) (by show Sort.bitsLen (b - a)≤64; omega)
   rw [show ((1:Nat):Int)=1 from rfl,Nat.one_mul] at this
   rw [this,uwrap (k:=.u64) rfl (show 2 ^ Sort.bitsLen (b - a) < 2 ^ 64 by omega)]
  rw [hm,Option.bind_some,Nat.one_shiftLeft]
  generalize 2 ^ Sort.bitsLen (b - a)=M at *
  have e1:IntKind.i64.wrap (((b - a:Nat):Int).tdiv 4)=(((b - a) / 4:Nat):Int):=by rw [Int.tdiv_eq_ediv_of_nonneg (by omega),z1w (by omega) (by omega)]; omega
  have e2:IntKind.i64.wrap ((((b - a) / 4:Nat):Int) * 2)=(((b - a) / 4 * 2:Nat):Int):=by rw [z1w (by omega) (by omega)]; omega
  have e3:IntKind.i64.wrap ((a:Int) + (((b - a) / 4 * 2:Nat):Int))=((a + (b - a) / 4 * 2:Nat):Int):=wadd (by omega)
  have e4:IntKind.i64.wrap (((a + (b - a) / 4 * 2:Nat):Int) - 1)=((a + (b - a) / 4 * 2 - 1:Nat):Int):=wsub1 (by omega) (by omega)
  have e5:IntKind.i64.wrap (((a + (b - a) / 4 * 2:Nat):Int) + 1)=((a + (b - a) / 4 * 2 + 1:Nat):Int):=wadd1 (by omega)
  have e6:IntKind.i64.wrap ((b - a:Nat):Int)=((b - a:Nat):Int):=z7a (by unfold in64; omega)
  have e7:IntKind.u64.wrap ((b - a:Nat):Int)=((b - a:Nat):Int):=uwrap (k:=.u64) rfl (show b - a < 2 ^ 64 by omega)
  have e8:IntKind.u64.wrap ((M:Int) - 1)=((M - 1:Nat):Int):=by rw [z8a]; omega
  simp only [e1,e2,e3,e4,e7,e8,jn_eq]
  have hr0:(UInt64.ofNat (b - a)).toNat=b - a:=by rw [UInt64.toNat_ofNat']; omega
  refine zjq (r0:=UInt64.ofNat (b - a)) (n0:=b - a) hr0 (a:=a) (l:=(b - a)) (M:=M) (b:=b) (K:=a + (b - a) / 4 * 2) hf (by omega) (by omega) (by omega) hb ?_ ?_ (fun x y z=>by dsimp only)
  ·intro k r e he hk1 hk2 hk3
   simp only
   rw [if_pos (show (k:Int)≤_ by rw [e1,e2,e3,e5]; omega)]
   have hr:=UInt64.toNat_lt r
   rw [zn5 (by omega),Option.bind_some]
   unfold Sort.breakStep
   dsimp only
   rw [Sort.xorNext_toNat]
   have hx:=Sort.xorNextN_lt r.toNat (by omega)
   have ea:z0m .and .u64 ((Sort.xorNextN r.toNat:Nat):Int) ((M - 1:Nat):Int)=((Sort.xorNextN r.toNat &&& (M - 1):Nat):Int):=zme (k:=.u64) rfl (show _ < 2 ^ 64 by omega) (show M - 1 < 2 ^ 64 by omega)
   have hal:Sort.xorNextN r.toNat &&& (M - 1)≤M - 1:=Nat.and_le_right
   rw [ea]
   generalize Sort.xorNextN r.toNat &&& (M - 1)=o at *
   have eo:IntKind.i64.wrap (o:Int)=(o:Int):=z7a (by unfold in64; omega)
   rw [eo]
   have w1:IntKind.i64.wrap ((k:Int) + 1)=((k + 1:Nat):Int):=wadd1 (by omega)
   by_cases ho:o ≥ b - a
   ·have w2:IntKind.i64.wrap ((o:Int) - ((b - a:Nat):Int))=((o - (b - a):Nat):Int):=wsub (by omega) (by omega)
    have w3:IntKind.i64.wrap ((a:Int) + ((o - (b - a):Nat):Int))=((a + (o - (b - a)):Nat):Int):=wadd (by omega)
    rw [if_pos ho,if_pos (by omega),w1,w2,w3]
    simp (disch:=omega) only [Int.toNat_natCast,Nat.zero_add,z06,Array.length_toList,List.length_set,z1n,z2m]
   ·have w3:IntKind.i64.wrap ((a:Int) + (o:Int))=((a + o:Nat):Int):=wadd (by omega)
    rw [if_neg ho,if_neg (by omega),w1,w3]
    simp (disch:=omega) only [Int.toNat_natCast,Nat.zero_add,z06,Array.length_toList,List.length_set,z1n,z2m]
  ·intro r e
   simp only
   rw [if_neg (show ¬ ((a + (b - a) / 4 * 2 + 2:Nat):Int)≤_ by rw [e1,e2,e3,e5]; omega)]
 ·rw [if_neg h8,if_neg (by omega)]
end Go.Av
namespace Go.Av
open Go
set_option linter.unusedVariables false
set_option linter.unusedSimpArgs false
abbrev PdqS:=Int × Int × Int × Bool × Bool × (List Time)
def pK12 (fuel : Nat) (a b : Int) (lim len : Int) (pivot : Int) (wb wp : Bool) (l : List Time) (x : Bool) : Option (Ctl PdqS (List Time)) :=
  bf x ((                                         z13 fuel a b pivot l).bind fun r14 => need (r14.2.length = l.length) <| some (.next (r14.1, b, lim, wb, wp, r14.2)))
    ((                                    z1j fuel a b pivot l).bind fun r16 => need (r16.2.2.length = l.length) <| bf (decide ((IntKind.i64.wrap (r16.1 - a)) < (IntKind.i64.wrap (b - r16.1))))
      ((                                  z0k fuel a r16.1 lim r16.2.2).bind fun r18 => need (r18.length = r16.2.2.length) <| some (.next ((IntKind.i64.wrap (r16.1 + 1)), b, lim, (decide ((IntKind.i64.wrap (len.tdiv 8)) ≤ (IntKind.i64.wrap (r16.1 - a)))), r16.2.1, r18)))
      ((                                  z0k fuel (IntKind.i64.wrap (r16.1 + 1)) b lim r16.2.2).bind fun r20 => need (r20.length = r16.2.2.length) <| some (.next (a, r16.1, lim, (decide ((IntKind.i64.wrap (len.tdiv 8)) ≤ (IntKind.i64.wrap (b - r16.1)))), r16.2.1, r20))))
def pK10 (fuel:Nat) (a b:Int) (lim len:Int) (pivot:Int) (wb wp:Bool) (l:List Time):Option (Ctl PdqS (List Time)) :=
 jn (fun (a12:Bool)=>pK12 fuel a b lim len pivot wb wp l a12) fun j13=>bf (decide (0 < a)) (need ((0:Int)≤(IntKind.i64.wrap (a - 1))∧(IntKind.i64.wrap (a - 1)) < (l.length:Int)) <| need ((0 + (IntKind.i64.wrap (a - 1)).toNat) < l.length) <| need ((0:Int)≤pivot∧pivot < (l.length:Int)) <| need ((0 + pivot.toNat) < l.length) <| (z11 (l.getD (0 + (IntKind.i64.wrap (a - 1)).toNat) default) (l.getD (0 + pivot.toNat) default)).bind fun r27=>j13 (!(decide (r27 < 0)))) (j13 false)
def pK8 (fuel:Nat) (a b:Int) (lim len:Int) (wb wp:Bool) (pivot hint:Int) (l:List Time):Option (Ctl PdqS (List Time)) :=
 jn (fun (a10:Bool × Bool × (List Time))=>pK10 fuel a b lim len pivot a10.1 a10.2.1 a10.2.2) fun j11=>jn (fun (a28:Bool × Bool × Bool)=>bf a28.2.2 ((z0n fuel a b l).bind fun r30=>need (r30.2.length=l.length) <| bf r30.1 (some (.ret r30.2)) (j11 (a28.1,a28.2.1,r30.2))) (j11 (a28.1,a28.2.1,l))) fun j29=>bf wb (bf wp (j29 (true,true,(decide (hint=1)))) (j29 (true,false,false))) (j29 (false,wp,false))
def pK5 (fuel:Nat) (a b:Int) (wb wp:Bool) (lim len:Int) (l:List Time):Option (Ctl PdqS (List Time)) :=
 (z1k l a b).bind fun r7=>jn (fun (a8:Int × Int × (List Time))=>pK8 fuel a b lim len wb wp a8.1 a8.2.1 a8.2.2) fun j9=>bf (decide (r7.2=2)) ((z1b fuel a b l).bind fun r32=>need (r32.length=l.length) <| j9 ((IntKind.i64.wrap ((IntKind.i64.wrap (b - 1)) - (IntKind.i64.wrap (r7.1 - a)))),1,r32)) (j9 (r7.1,r7.2,l))
def pBody (fuel:Nat) (a1:PdqS):Option (Ctl PdqS (List Time)) :=
 bf (decide ((IntKind.i64.wrap (a1.2.1 - a1.1))≤12)) ((z15 fuel a1.1 a1.2.1 a1.2.2.2.2.2).bind fun r3=>some (.ret r3)) (bf (decide (a1.2.2.1=0)) ((z1p fuel a1.1 a1.2.1 a1.2.2.2.2.2).bind fun r4=>some (.ret r4))
  (jn (fun (a5:Int × Int × (List Time))=>pK5 fuel a1.1 a1.2.1 a1.2.2.2.1 a1.2.2.2.2.1 a5.1 a5.2.1 a5.2.2) fun j6=>bf (!a1.2.2.2.1) ((z14 fuel a1.1 a1.2.1 a1.2.2.2.2.2).bind fun r34=>need (r34.length=a1.2.2.2.2.2.length) <| j6 ((IntKind.i64.wrap (a1.2.2.1 - 1)),(IntKind.i64.wrap (a1.2.1 - a1.1)),r34)) (j6 (a1.2.2.1,(IntKind.i64.wrap (a1.2.1 - a1.1)),a1.2.2.2.2.2))))
theorem zms (fuel:Nat) (a b lim:Int) (l:List Time):z0k (fuel + 1) a b lim l=outK (loopN (pBody fuel) fuel (a,b,lim,true,true,l)) (fun _=>none) (fun x=>some x):=rfl
def qD (a b lim:Nat) (wb wp:Bool) (pivot:Nat) (d:Array Time):Array Time :=
 if a > 0 && !ltT d[a - 1]! d[pivot]! then
  match Sort.partitionEqual ltT d a b pivot with
  | (mid,d4)=>if _h:a < mid∧mid≤b then Sort.pdq ltT d4 mid b lim wb wp else d4
 else
  match Sort.partition ltT d a b pivot with
  | (mid,alreadyPartitioned,d4) =>
   if _h:a≤mid∧mid < b then
    if mid - a < b - mid then
     Sort.pdq ltT (Sort.pdq ltT d4 a mid lim true true) (mid + 1) b lim (decide (mid - a ≥ (b - a) / 8)) alreadyPartitioned
    else
     Sort.pdq ltT (Sort.pdq ltT d4 (mid + 1) b lim true true) a mid lim (decide (b - mid ≥ (b - a) / 8)) alreadyPartitioned
   else d4
def qC (a b lim:Nat) (wb wp:Bool) (pivot:Nat) (hint:Sort.Hint) (d:Array Time):Array Time :=
 let pi:=if wb && wp && hint = .increasing then Sort.partialInsertionSort ltT d a b else (d,false)
 if pi.2 then pi.1 else qD a b lim wb wp pivot pi.1
def qB (a b lim:Nat) (wb wp:Bool) (d:Array Time):Array Time :=
 let c:=Sort.choosePivot ltT d a b
 if c.2 = .decreasing then qC a b lim wb wp ((b - 1) - (c.1 - a)) .increasing (Sort.reverseRange d a b) else qC a b lim wb wp c.1 c.2 d
theorem zmg (d:Array Time) (a b lim:Nat) (wb wp:Bool):Sort.pdq ltT d a b lim wb wp =
  if b - a≤12 then Sort.insertionSort ltT d a b else if lim=0 then Sort.heapSort ltT d a b else
   (if wb then qB a b lim wb wp d else qB a b (lim - 1) wb wp (Sort.breakPatterns d a b)):=by
 rw [Sort.pdq]
 by_cases h1:b - a≤12
 ·rw [if_pos h1,if_pos h1]
 ·rw [if_neg h1,if_neg h1]
  by_cases h2:lim=0
  ·rw [if_pos h2,if_pos h2]
  ·rw [if_neg h2,if_neg h2]
   cases wb
   ·simp only [Bool.not_false,if_true]
    unfold qB
    dsimp only
    by_cases h3:(Sort.choosePivot ltT (Sort.breakPatterns d a b) a b).2 = .decreasing
    ·simp only [if_pos h3]; rfl
    ·simp only [if_neg h3]; rfl
   ·simp only [Bool.not_true,Bool.false_eq_true,if_false,if_true]
    unfold qB
    dsimp only
    by_cases h3:(Sort.choosePivot ltT d a b).2 = .decreasing
    ·simp only [if_pos h3]; rfl
    ·simp only [if_neg h3]; rfl
theorem zdp {α:Type} [Inhabited α] (p : α → Bool) (d:Array α) (i:Nat):∀ (j:Nat),i≤j + 1→i≤Sort.scanDown p d i j + 1
 | 0,h=>h
 | j + 1,h=>by
  unfold Sort.scanDown
  split
  ·rename_i hc
   have:i≤j + 1:=by simp at hc; exact hc.1
   exact zdp p d i j this
  ·exact h
theorem zid {α:Type} [Inhabited α] (p : α → Bool) (d:Array α) (j:Nat):∀ (n i:Nat),j + 1 - i≤n→Sort.scanUp p d j i≤j→p d[Sort.scanUp p d j i]! = false:=by
 intro n
 induction n with
 | zero =>
  intro i hn h
  rw [Sort.scanUp] at h ⊢
  split at h
  ·rename_i hc; simp at hc; omega
  ·omega
 | succ n ih =>
  intro i hn h
  rw [Sort.scanUp] at h ⊢
  split at h
  ·rename_i hc
   rw [if_pos hc]
   exact ih (i + 1) (by omega) h
  ·rename_i hc
   rw [if_neg hc]
   simp at hc
   exact hc h
theorem zc9 {α:Type} [Inhabited α] (p : α → Bool) (d:Array α) (i:Nat):∀ (j:Nat),i≤Sort.scanDown p d i j→1≤i→p d[Sort.scanDown p d i j]! = false
 | 0,h,h1=>by have:Sort.scanDown p d i 0=0:=rfl; omega
 | j + 1,h,h1=>by
  unfold Sort.scanDown at h ⊢
  split at h
  ·rename_i hc
   rw [if_pos hc]
   exact zc9 p d i j h h1
  ·rename_i hc
   rw [if_neg hc]
   simp at hc
   exact hc h
theorem zmp {α:Type} [Inhabited α] (p q : α → Bool) (hq:∀ x,q x = !p x) (d:Array α) (i j:Nat):1≤i→Sort.scanUp p d j i ≠ Sort.scanDown q d (Sort.scanUp p d j i) j:=fun hi e=>by
 have u:=z41 p d j _ i (Nat.le_refl _)
 have v:=z2g q d (Sort.scanUp p d j i) j
 have h1:=zid p d j _ i (Nat.le_refl _) (by omega)
 have h2:=zc9 q d (Sort.scanUp p d j i) j (by omega) (by omega)
 rw [← e,hq,h1] at h2
 cases h2
theorem zef {a:Nat}:∀ (n i j:Nat) (d:Array Time),j + 1 - i≤n→1≤i→i≤j + 1→j < d.size→i≤(Sort.partEqLoop ltT a i j d).1∧(Sort.partEqLoop ltT a i j d).1≤j + 1∧(Sort.partEqLoop ltT a i j d).2.size=d.size:=by
 intro n
 induction n with
 | zero =>
  intro i j d hn hi hi2 hj
  have u:=(z41 (fun x => !ltT d[a]! x) d j _ i (Nat.le_refl _))
  have v:=z2g (fun x=>ltT d[a]! x) d (Sort.scanUp (fun x => !ltT d[a]! x) d j i) j
  rw [z76,if_pos (by omega)]
  exact ⟨u.2,by show Sort.scanUp _ _ _ _≤_; omega,rfl⟩
 | succ n ih =>
  intro i j d hn hi hi2 hj
  have u:=(z41 (fun x => !ltT d[a]! x) d j _ i (Nat.le_refl _))
  have v:=z2g (fun x=>ltT d[a]! x) d (Sort.scanUp (fun x => !ltT d[a]! x) d j i) j
  have w:=zdp (fun x=>ltT d[a]! x) d (Sort.scanUp (fun x => !ltT d[a]! x) d j i) j
  have hno:=zmp (fun x => !ltT d[a]! x) (fun x=>ltT d[a]! x) (fun x=>by simp) d i j
  rw [z76]
  generalize Sort.scanUp (fun x => !ltT d[a]! x) d j i=i2 at *
  generalize Sort.scanDown (fun x=>ltT d[a]! x) d i2 j=j2 at *
  by_cases hc:i2 > j2
  ·rw [if_pos hc]
   exact ⟨u.2,by show i2≤_; omega,rfl⟩
  ·rw [if_neg hc]
   have:=ih (i2 + 1) (j2 - 1) (Sort.swp d i2 j2) (by omega) (by omega) (by omega) (by rw [z10]; omega)
   rw [z10] at this
   omega
end Go.Av
namespace Go.Av
open Go
set_option linter.unusedVariables false
set_option linter.unusedSimpArgs false
theorem zaz {x y:Time}:ltT x y=true↔x.epoch < y.epoch∨(x.epoch=y.epoch∧(x.loop.1 < y.loop.1∨(x.loop.1=y.loop.1∧x.loop.2 < y.loop.2))):=by
 unfold ltT cmpT
 rw [decide_eq_true_eq]
 repeat' split
 all_goals omega
theorem swoT:Sort.SWO ltT where
 irrefl x:=by
  cases h:ltT x x with
  | false=>rfl
  | true=>rw [zaz] at h; omega
 trans x y z h1 h2:=by
  rw [zaz] at *
  omega
 ntrans x y z h1 h2:=by
  rw [← Bool.not_eq_true,zaz] at *
  omega
theorem zii (a b:Nat):∀ (n i:Nat) (d:Array Time),b - i≤n→(Sort.insOuter ltT a b i d).size=d.size:=by
 intro n
 induction n with
 | zero=>intro i d hn; rw [Sort.insOuter,if_neg (by omega)]
 | succ n ih =>
  intro i d hn
  rw [Sort.insOuter]
  split
  ·rw [ih _ _ (by omega),zam]
  ·rfl
theorem zi5 (a b:Nat) (d:Array Time):(Sort.insertionSort ltT d a b).size=d.size:=zii a b b _ d (by omega)
theorem zeh (first:Nat):∀ (k:Nat) (d:Array Time),(Sort.heapPop ltT first k d).size=d.size
 | 0,d=>rfl
 | k + 1,d=>by unfold Sort.heapPop; rw [zeh first k,z9b,z10]
theorem zib (a b:Nat) (d:Array Time):(Sort.heapSort ltT d a b).size=d.size:=by unfold Sort.heapSort; rw [zeh,za6]
theorem zbw (a b:Nat):∀ (s i:Nat) (d:Array Time),(Sort.partialIns ltT a b s i d).1.size=d.size
 | 0,i,d=>rfl
 | s + 1,i,d=>by
  rw [zb1]
  split
  ·rfl
  ·split
   ·rfl
   ·rw [zbw a b s,zbl]
def zeg (F g:Nat) (o:Option (Ctl PdqS (List Time))) (q:Array Time):Prop:=(∃ s,o=some (.next s)∧loopN (pBody F) g s=some (.ret q.toList))∨o=some (.ret q.toList)
def PdqOk (m:Nat):Prop := ∀ (F g a b lim:Nat) (wb wp:Bool) (d:Array Time),b - a < m→a≤b→b≤d.size→d.size < 1152921504606846976→lim < 1152921504606846976→b - a < g→d.size + (b - a) + 20 < F →
 loopN (pBody F) g ((a:Int),(b:Int),(lim:Int),wb,wp,d.toList)=some (.ret (Sort.pdq ltT d a b lim wb wp).toList)∧(Sort.pdq ltT d a b lim wb wp).size=d.size
theorem PdqOk.call {m:Nat} (h:PdqOk m) {F a b lim:Nat} {d:Array Time} (hm:b - a < m) (hab:a≤b) (hb:b≤d.size) (hd:d.size < 1152921504606846976) (hl:lim < 1152921504606846976) (hf:d.size + (b - a) + 21 < F) :
  z0k F (a:Int) (b:Int) (lim:Int) d.toList=some (Sort.pdq ltT d a b lim true true).toList∧(Sort.pdq ltT d a b lim true true).size=d.size:=by
 cases F with
 | zero=>omega
 | succ F =>
  obtain ⟨h1,h2⟩:=h F F a b lim true true d hm hab hb hd hl (by omega) (by omega)
  rw [zms,h1]
  exact ⟨rfl,h2⟩
theorem zk7 {F g a b lim pivot:Nat} {wb wp:Bool} {d:Array Time} (ih:PdqOk (b - a)) (hab:a + 12 < b) (hp:a≤pivot∧pivot < b) (hb:b≤d.size) (hd:d.size < 1152921504606846976) (hl:lim < 1152921504606846976) (hg:b - a≤g) (hF:d.size + (b - a) + 20 < F) :
  zeg F g (pK10 F (a:Int) (b:Int) (lim:Int) ((b - a:Nat):Int) (pivot:Int) wb wp d.toList) (qD a b lim wb wp pivot d)∧(qD a b lim wb wp pivot d).size=d.size:=by
 have e8:IntKind.i64.wrap (((b - a:Nat):Int).tdiv 8)=(((b - a) / 8:Nat):Int):=by rw [Int.tdiv_eq_ediv_of_nonneg (by omega),z1w (by omega) (by omega)]; omega
 have hK:pK10 F (a:Int) (b:Int) (lim:Int) ((b - a:Nat):Int) (pivot:Int) wb wp d.toList=pK12 F (a:Int) (b:Int) (lim:Int) ((b - a:Nat):Int) (pivot:Int) wb wp d.toList (a > 0 && !ltT d[a - 1]! d[pivot]!):=by
  unfold pK10
  simp only [jn_eq]
  by_cases h0:0 < a
  ·rw [decide_eq_true (show (0:Int) < (a:Int) by omega),z39,wsub1 (by omega) (by omega)]
   simp (disch:=omega) only [Int.toNat_natCast,Nat.zero_add,z06,Array.length_toList,z2a,Option.bind_some,z1n]
   rw [decide_eq_true h0,Bool.true_and]
   rfl
  ·rw [decide_eq_false (show ¬ (0:Int) < (a:Int) by omega),z0e,decide_eq_false h0,Bool.false_and]
 rw [hK]
 unfold qD
 cases hx:(a > 0 && !ltT d[a - 1]! d[pivot]!) with
 | true =>
  simp only [if_true]
  unfold pK12
  rw [z39,zdl hp (by omega) hb hd (by omega),Option.bind_some]
  have hr:=zef (a:=a) _ (a + 1) (b - 1) (Sort.swp d a pivot) (Nat.le_refl _) (by omega) (by omega) (by rw [z10]; omega)
  rw [z10] at hr
  have he:Sort.partEqLoop ltT a (a + 1) (b - 1) (Sort.swp d a pivot)=Sort.partitionEqual ltT d a b pivot:=rfl
  rw [he] at hr
  generalize Sort.partitionEqual ltT d a b pivot=r at *
  obtain ⟨mid,d4⟩:=r
  simp only at hr ⊢
  rw [dif_pos (by omega),z06 (by rw [Array.length_toList,Array.length_toList]; omega)]
  obtain ⟨h1,h2⟩:=ih F g mid b lim wb wp d4 (by omega) (by omega) (by omega) (by omega) hl (by omega) (by omega)
  exact ⟨.inl ⟨_,rfl,h1⟩,by omega⟩
 | false =>
  simp only [Bool.false_eq_true,if_false]
  unfold pK12
  rw [z0e,zhg hp (by omega) hb hd (by omega),Option.bind_some,e8]
  obtain ⟨g1,g2,g3,_,_⟩:=Sort.partition_holds ltT swoT d a b pivot hp.1 hp.2 hb
  have g3:=g3.1
  generalize Sort.partition ltT d a b pivot=r at *
  obtain ⟨mid,ap,d4⟩:=r
  simp only at g1 g2 g3 ⊢
  have w1:IntKind.i64.wrap ((mid:Int) - (a:Int))=((mid - a:Nat):Int):=wsub (by omega) (by omega)
  have w2:IntKind.i64.wrap ((b:Int) - (mid:Int))=((b - mid:Nat):Int):=wsub (by omega) (by omega)
  have w3:IntKind.i64.wrap ((mid:Int) + 1)=((mid + 1:Nat):Int):=wadd1 (by omega)
  rw [dif_pos ⟨g1,g2⟩,z06 (by rw [Array.length_toList,Array.length_toList]; omega),w1,w2,w3,z07]
  by_cases hc:mid - a < b - mid
  ·rw [if_pos hc,if_pos (by omega)]
   obtain ⟨c1,c2⟩:=ih.call (F:=F) (a:=a) (b:=mid) (lim:=lim) (d:=d4) (by omega) (by omega) (by omega) (by omega) hl (by omega)
   rw [c1,Option.bind_some,z06 (by rw [Array.length_toList,Array.length_toList]; omega)]
   generalize Sort.pdq ltT d4 a mid lim true true=d5 at *
   obtain ⟨h1,h2⟩:=ih F g (mid + 1) b lim (decide (mid - a ≥ (b - a) / 8)) ap d5 (by omega) (by omega) (by omega) (by omega) hl (by omega) (by omega)
   refine ⟨.inl ⟨_,rfl,?_⟩,by omega⟩
   have e:decide ((((b - a) / 8:Nat):Int)≤((mid - a:Nat):Int))=decide (mid - a ≥ (b - a) / 8):=by
    rw [Bool.eq_iff_iff]; simp only [decide_eq_true_eq]; omega
   rw [e]
   exact h1
  ·rw [if_neg hc,if_neg (by omega)]
   obtain ⟨c1,c2⟩:=ih.call (F:=F) (a:=mid + 1) (b:=b) (lim:=lim) (d:=d4) (by omega) (by omega) (by omega) (by omega) hl (by omega)
   rw [c1,Option.bind_some,z06 (by rw [Array.length_toList,Array.length_toList]; omega)]
   generalize Sort.pdq ltT d4 (mid + 1) b lim true true=d5 at *
   obtain ⟨h1,h2⟩:=ih F g a mid lim (decide (b - mid ≥ (b - a) / 8)) ap d5 (by omega) (by omega) (by omega) (by omega) hl (by omega) (by omega)
   refine ⟨.inl ⟨_,rfl,?_⟩,by omega⟩
   have e:decide ((((b - a) / 8:Nat):Int)≤((b - mid:Nat):Int))=decide (b - mid ≥ (b - a) / 8):=by
    rw [Bool.eq_iff_iff]; simp only [decide_eq_true_eq]; omega
   rw [e]
   exact h1
theorem zkg {F g a b lim pivot:Nat} {hint:Sort.Hint} {wb wp:Bool} {d:Array Time} (ih:PdqOk (b - a)) (hab:a + 12 < b) (hp:a≤pivot∧pivot < b) (hb:b≤d.size) (hd:d.size < 1152921504606846976) (hl:lim < 1152921504606846976) (hg:b - a≤g) (hF:d.size + (b - a) + 20 < F) :
  zeg F g (pK8 F (a:Int) (b:Int) (lim:Int) ((b - a:Nat):Int) wb wp (pivot:Int) (hintN hint) d.toList) (qC a b lim wb wp pivot hint d)∧(qC a b lim wb wp pivot hint d).size=d.size:=by
 have hK:pK8 F (a:Int) (b:Int) (lim:Int) ((b - a:Nat):Int) wb wp (pivot:Int) (hintN hint) d.toList=if wb && wp && hint = .increasing then ((z0n F (a:Int) (b:Int) d.toList).bind fun r30=>need (r30.2.length=d.toList.length) <| bf r30.1 (some (.ret r30.2)) (pK10 F (a:Int) (b:Int) (lim:Int) ((b - a:Nat):Int) (pivot:Int) wb wp r30.2)) else pK10 F (a:Int) (b:Int) (lim:Int) ((b - a:Nat):Int) (pivot:Int) wb wp d.toList:=by
  unfold pK8
  cases wb <;> cases wp <;> cases hint <;> simp [jn,bf,hintN]
 rw [hK]
 unfold qC
 dsimp only
 by_cases hc:(wb && wp && decide (hint = .increasing))=true
 ·rw [if_pos hc,if_pos hc,za7 (by omega) hb hd (by omega),Option.bind_some]
  have hsz:(Sort.partialInsertionSort ltT d a b).1.size=d.size:=zbw a b 5 _ d
  generalize Sort.partialInsertionSort ltT d a b=r at *
  obtain ⟨d3,x⟩:=r
  simp only at hsz ⊢
  rw [z06 (by rw [Array.length_toList,Array.length_toList]; omega)]
  cases x with
  | true=>exact ⟨.inr rfl,hsz⟩
  | false =>
   simp only [z0e,Bool.false_eq_true,if_false]
   have:=zk7 (F:=F) (g:=g) (lim:=lim) (pivot:=pivot) (wb:=wb) (wp:=wp) (d:=d3) ih hab hp (by omega) (by omega) hl hg (by omega)
   exact ⟨this.1,by omega⟩
 ·rw [if_neg hc,if_neg hc]
  simp only [Bool.false_eq_true,if_false]
  exact zk7 ih hab hp hb hd hl hg hF
theorem zlb {F g a b lim:Nat} {wb wp:Bool} {d:Array Time} (ih:PdqOk (b - a)) (hab:a + 12 < b) (hb:b≤d.size) (hd:d.size < 1152921504606846976) (hl:lim < 1152921504606846976) (hg:b - a≤g) (hF:d.size + (b - a) + 20 < F) :
  zeg F g (pK5 F (a:Int) (b:Int) wb wp (lim:Int) ((b - a:Nat):Int) d.toList) (qB a b lim wb wp d)∧(qB a b lim wb wp d).size=d.size:=by
 unfold pK5 qB
 rw [choosePivot_eq (by omega) hb hd,Option.bind_some]
 obtain ⟨p1,p2⟩:=Sort.choosePivot_holds ltT d a b (by omega)
 generalize Sort.choosePivot ltT d a b=c at *
 obtain ⟨pivot,hint⟩:=c
 simp only [jn_eq] at p1 p2 ⊢
 by_cases hc:hint = .decreasing
 ·subst hc
  have hsz:=(Sort.reverseRange_holds d a b (by omega) hb).1
  rw [decide_eq_true (show hintN Sort.Hint.decreasing=2 from rfl),z39,zen (by omega) hb hd (by omega),Option.bind_some,z06 (by rw [Array.length_toList,Array.length_toList]; exact hsz)]
  have w1:IntKind.i64.wrap ((b:Int) - 1)=((b - 1:Nat):Int):=wsub1 (by omega) (by omega)
  have w2:IntKind.i64.wrap ((pivot:Int) - (a:Int))=((pivot - a:Nat):Int):=wsub (by omega) (by omega)
  have w3:IntKind.i64.wrap (((b - 1:Nat):Int) - ((pivot - a:Nat):Int))=(((b - 1) - (pivot - a):Nat):Int):=wsub (by omega) (by omega)
  rw [w1,w2,w3]
  simp only [if_true]
  have:=zkg (F:=F) (g:=g) (lim:=lim) (pivot:=(b - 1) - (pivot - a)) (hint:=.increasing) (wb:=wb) (wp:=wp) (d:=Sort.reverseRange d a b) ih hab (by omega) (by omega) (by omega) hl hg (by omega)
  exact ⟨this.1,this.2.trans hsz⟩
 ·have hn:hintN hint ≠ 2:=by cases hint <;> simp [hintN] at *
  rw [decide_eq_false hn,z0e,if_neg hc]
  exact zkg ih hab ⟨p1,p2⟩ hb hd hl hg hF
theorem pdqOk:∀ m,PdqOk m:=by
 intro m
 induction m with
 | zero=>intro F g a b lim wb wp d h; omega
 | succ m ihm =>
  intro F g a b lim wb wp d hm hab hb hd hl hg hF
  have ih:PdqOk (b - a):=fun F' g' a' b' lim' wb' wp' d' h=>ihm F' g' a' b' lim' wb' wp' d' (by omega)
  cases g with
  | zero=>omega
  | succ g =>
   have e0:IntKind.i64.wrap ((b:Int) - (a:Int))=((b - a:Nat):Int):=wsub (by omega) (by omega)
   rw [zmg]
   by_cases h1:b - a≤12
   ·rw [if_pos h1]
    refine ⟨?_,zi5 a b d⟩
    rw [z6q (r:=(Sort.insertionSort ltT d a b).toList)]
    unfold pBody
    simp only [e0]
    rw [decide_eq_true (by omega),z39,zh5 hb (by omega) (by omega) (by omega),Option.bind_some]
   ·rw [if_neg h1]
    by_cases h2:lim=0
    ·rw [if_pos h2]
     refine ⟨?_,zib a b d⟩
     rw [z6q (r:=(Sort.heapSort ltT d a b).toList)]
     unfold pBody
     simp only [e0]
     rw [decide_eq_false (by omega),z0e,decide_eq_true (by omega),z39,zi8 (by omega) hb hd (by omega),Option.bind_some]
    ·rw [if_neg h2]
     have fin:∀ q:Array Time,zeg F g (pBody F ((a:Int),(b:Int),(lim:Int),wb,wp,d.toList)) q→loopN (pBody F) (g + 1) ((a:Int),(b:Int),(lim:Int),wb,wp,d.toList)=some (.ret q.toList):=fun q hq=>by
      rcases hq with ⟨s,h3,h4⟩ | h3
      ·rw [z1c h3,h4]
      ·rw [z6q h3]
     cases wb with
     | true =>
      simp only [if_true]
      have hB:pBody F ((a:Int),(b:Int),(lim:Int),true,wp,d.toList)=pK5 F (a:Int) (b:Int) true wp (lim:Int) ((b - a:Nat):Int) d.toList:=by
       unfold pBody
       simp only [e0,jn_eq]
       rw [decide_eq_false (by omega),z0e,decide_eq_false (by omega),z0e,Bool.not_true,z0e]
      have:=zlb (F:=F) (g:=g) (a:=a) (b:=b) (lim:=lim) (wb:=true) (wp:=wp) (d:=d) ih (by omega) hb hd hl (by omega) hF
      exact ⟨fin _ (by rw [hB]; exact this.1),this.2⟩
     | false =>
      simp only [Bool.false_eq_true,if_false]
      have hsz:=(Sort.breakPatterns_holds d a b hab hb).1
      have hB:pBody F ((a:Int),(b:Int),(lim:Int),false,wp,d.toList)=pK5 F (a:Int) (b:Int) false wp ((lim - 1:Nat):Int) ((b - a:Nat):Int) (Sort.breakPatterns d a b).toList:=by
       unfold pBody
       simp only [e0,jn_eq]
       rw [decide_eq_false (by omega),z0e,decide_eq_false (by omega),z0e,Bool.not_false,z39,zeb (by omega) hb hd (by omega),Option.bind_some,z06 (by rw [Array.length_toList,Array.length_toList]; exact hsz),wsub1 (by omega) (by omega)]
      have:=zlb (F:=F) (g:=g) (a:=a) (b:=b) (lim:=lim - 1) (wb:=false) (wp:=wp) (d:=Sort.breakPatterns d a b) ih (by omega) (by omega) (by omega) (by omega) (by omega) (by omega)
      exact ⟨fin _ (by rw [hB]; exact this.1),this.2.trans hsz⟩
theorem zik {fuel:Nat} {l:List Time} (hl:l.length < 1152921504606846976) (hf:2 * l.length + 30 < fuel) :
  z0r fuel l=some (Sort.sort ltT l.toArray).toList:=by
 unfold z0r
 have e:IntKind.u64.wrap (l.length:Int)=(l.length:Int):=uwrap (k:=.u64) rfl (show l.length < 2 ^ 64 by omega)
 rw [e,zki (by omega),Option.bind_some]
 have hL:Sort.bitsLen l.length≤60:=zek hl
 have:=((pdqOk (l.length + 1)).call (F:=fuel) (a:=0) (b:=l.length) (lim:=Sort.bitsLen l.length) (d:=l.toArray) (by omega) (by omega) (by simp) (by simpa using hl) (by omega) (by simp; omega)).1
 rw [show ((0:Nat):Int)=0 from rfl,List.toList_toArray] at this
 rw [this,Option.bind_some]
 unfold Sort.sort
 rw [List.size_toArray]
end Go.Av
namespace Go.Av
open Go
set_option linter.unusedVariables false
set_option linter.unusedSimpArgs false
theorem zdh {x y:Time}:z1r x y=true↔x=y:=by
 constructor
 ·intro h
  simp only [z1r,Bool.and_eq_true,decide_eq_true_eq,Bool.and_true] at h
  exact Time.ext' h.1 h.2.1 h.2.2
 ·rintro rfl; exact zdo x
theorem znd {a b:Time} (h:leT a b=true) (g:leT b a=true):a=b:=zdh.1 (zls h g)
theorem zht {a b:Time} (h:leT a b=true):ltT b a=false:=by
 cases e:ltT b a with
 | false=>rfl
 | true=>rw [zfv] at h; rw [zaz] at e; omega
theorem lt_or {a b:Time} (h:ltT b a=false) (hne:a ≠ b):ltT a b=true:=by
 cases e:ltT a b with
 | true=>rfl
 | false =>
  refine absurd ?_ hne
  rw [← Bool.not_eq_true,zaz] at h e
  exact Time.ext' (by omega) (by omega) (by omega)
structure IsF (l f:List Time):Prop where
 sorted:f.Pairwise fun x y=>ltT x y=true
 sub:∀ x ∈ f,x ∈ l
 below:∀ y ∈ l,∃ u ∈ f,leT u y=true
 least:∀ x ∈ f,∀ y ∈ l,leT y x=true→y=x
theorem IsF.mem {l f:List Time} (h:IsF l f) (x:Time):x ∈ f↔x ∈ l∧∀ y ∈ l,leT y x=true→y=x:=by
 constructor
 ·exact fun hx=>⟨h.sub x hx,h.least x hx⟩
 ·rintro ⟨hx,hm⟩
  obtain ⟨u,hu,hle⟩:=h.below x hx
  rw [← hm u (h.sub u hu) hle]
  exact hu
theorem IsF.congr {l m f:List Time} (h:IsF l f) (e:∀ x,x ∈ l↔x ∈ m):IsF m f :=
 ⟨h.sorted,fun x hx=>(e x).1 (h.sub x hx),fun y hy=>h.below y ((e y).2 hy),fun x hx y hy=>h.least x hx y ((e y).2 hy)⟩
theorem IsF.step {p f:List Time} {t:Time} (h:IsF p f) (hs:∀ x ∈ p,ltT t x=false):IsF (p++[t]) (if f.any (fun u=>leT u t) then f else f++[t]):=by
 by_cases hc:f.any (fun u=>leT u t)=true
 ·rw [if_pos hc]
  obtain ⟨u,hu,hut⟩:=List.any_eq_true.1 hc
  refine ⟨h.sorted,fun x hx=>List.mem_append.2 (.inl (h.sub x hx)),?_,?_⟩
  ·intro y hy
   rcases List.mem_append.1 hy with hy | hy
   ·exact h.below y hy
   ·rw [List.mem_singleton.1 hy]; exact ⟨u,hu,hut⟩
  ·intro x hx y hy hle
   rcases List.mem_append.1 hy with hy | hy
   ·exact h.least x hx y hy hle
   ·rw [List.mem_singleton.1 hy] at hle ⊢
    have hux:=h.least x hx u (h.sub u hu) (zgg hut hle)
    subst hux
    exact znd hle hut
 ·rw [if_neg hc]
  have hno:∀ u ∈ f,leT u t=false:=fun u hu=>by
   cases e:leT u t with
   | false=>rfl
   | true=>exact absurd (List.any_eq_true.2 ⟨u,hu,e⟩) hc
  have hnp:∀ y ∈ p,leT y t=false:=fun y hy=>by
   obtain ⟨u,hu,hle⟩:=h.below y hy
   cases e:leT y t with
   | false=>rfl
   | true=>have:=zgg hle e; rw [hno u hu] at this; cases this
  refine ⟨?_,?_,?_,?_⟩
  ·rw [List.pairwise_append]
   refine ⟨h.sorted,by simp,fun x hx y hy => ?_⟩
   rw [List.mem_singleton.1 hy]
   refine lt_or (hs x (h.sub x hx)) (fun e => ?_)
   subst e
   have:=hno x hx
   rw [ze6] at this; cases this
  ·intro x hx
   rcases List.mem_append.1 hx with hx | hx
   ·exact List.mem_append.2 (.inl (h.sub x hx))
   ·exact List.mem_append.2 (.inr hx)
  ·intro y hy
   rcases List.mem_append.1 hy with hy | hy
   ·obtain ⟨u,hu,hle⟩:=h.below y hy
    exact ⟨u,List.mem_append.2 (.inl hu),hle⟩
   ·exact ⟨y,List.mem_append.2 (.inr hy),ze6 y⟩
  ·intro x hx y hy hle
   rcases List.mem_append.1 hx with hx | hx
   ·rcases List.mem_append.1 hy with hy | hy
    ·exact h.least x hx y hy hle
    ·rw [List.mem_singleton.1 hy] at hle ⊢
     have h1:=hs x (h.sub x hx)
     have h2:=zht hle
     by_cases e:t=x
     ·exact e
     ·have:=lt_or h1 (fun h=>e h.symm); rw [h2] at this; cases this
   ·rw [List.mem_singleton.1 hx] at hle ⊢
    rcases List.mem_append.1 hy with hy | hy
    ·rw [hnp y hy] at hle; cases hle
    ·exact List.mem_singleton.1 hy
def zei (l:List Time):List Time:=l.foldl (fun f t=>if f.any (fun u=>leT u t) then f else f++[t]) []
def sortT (l:List Time):List Time:=(Sort.sort ltT l.toArray).toList
def zdg (l:List Time):List Time:=zei (sortT l)
theorem zfh (l:List Time):(sortT l).Perm l:=by
 have h:=(Sort.sort_sorts ltT swoT l.toArray).1
 obtain ⟨h1,_,h3⟩:=h
 have e1:(Sort.sort ltT l.toArray).extract 0 l.toArray.size=Sort.sort ltT l.toArray:=by rw [← h1]; simp
 have e2:l.toArray.extract 0 l.toArray.size=l.toArray:=by simp
 rw [e1,e2] at h3
 exact h3
theorem zho (l:List Time):(sortT l).length=l.length:=(zfh l).length_eq
theorem zgs (l:List Time):(zei l).length≤l.length:=by
 have key:∀ (r f:List Time),(r.foldl (fun f t=>if f.any (fun u=>leT u t) then f else f++[t]) f).length≤f.length + r.length:=by
  intro r
  induction r with
  | nil=>intro f; exact Nat.le_refl _
  | cons t r ih =>
   intro f
   rw [List.foldl_cons]
   refine Nat.le_trans (ih _) ?_
   split
   ·rw [List.length_cons]; omega
   ·rw [List.length_append,List.length_singleton,List.length_cons]; omega
 have:=key l []
 rw [List.length_nil,Nat.zero_add] at this
 exact this
end Go.Av
namespace Go.Av
open Go
set_option linter.unusedVariables false
set_option linter.unusedSimpArgs false
abbrev NN (l:List Time):Prop := ∀ x ∈ l,z1g x
theorem zbo {X:Type} [Inhabited X] {l:List X} {i:Nat} (h:i < l.length):l.getD i default ∈ l:=by
 rw [List.getD_eq_getElem?_getD,List.getElem?_eq_getElem h]
 exact List.getElem_mem h
theorem zch {X:Type} [Inhabited X] {l:List X} {i:Nat} (h:i < l.length):l.take (i + 1)=l.take i++[l.getD i default]:=by
 rw [List.take_add_one,List.getElem?_eq_getElem h,List.getD_eq_getElem?_getD,List.getElem?_eq_getElem h]
 rfl
theorem zgn {X R:Type} [Inhabited X] {B:Nat→Unit→Option (Ctl Unit R)} {l:List X} {p:X→Bool} {f:Nat→R} {Q:Type} {kn:Unit→Option Q} {kr:R→Option Q} {q:Option Q}
  (hB:∀ i u,i < l.length→B i u=if p (l.getD i default)=true then some (.ret (f i)) else some (.next ()))
  (hn:l.any p=false→kn ()=q) (hr:∀ i,i < l.length→l.any p=true→kr (f i)=q):outK (z0b B l.length 0 ()) kn kr=q:=by
 have key:∀ k i,i + k=l.length→(l.take i).any p=false→outK (z0b B k i ()) kn kr=q:=by
  intro k
  induction k with
  | zero =>
   intro i hi h
   rw [List.take_of_length_le (by omega)] at h
   exact hn h
  | succ k ih =>
   intro i hi h
   simp only [z0b,hB i () (by omega)]
   by_cases hp:p (l.getD i default)=true
   ·rw [if_pos hp]
    exact hr i (by omega) (List.any_eq_true.2 ⟨_,zbo (by omega),hp⟩)
   ·rw [if_neg hp]
    refine ih (i + 1) (by omega) ?_
    rw [zch (by omega),List.any_append,h]
    simpa using hp
 exact key l.length 0 (by omega) rfl
theorem zgk {f:List Time} {t:Time} (hf:NN f) (ht:z1g t):z43 f t=some (f.any fun u=>leT u t):=by
 unfold z43 z0d z0g
 have h:(outK (z0b (S:=Unit) (R:=Int) (fun i1 (a2:Unit)=>(z5j (f.getD i1 default) t).bind fun r4=>bf r4 (some (.ret ((i1:Nat):Int))) (some (.next ()))) f.length 0 ()) (fun (a3:Unit)=>some (-1)) (fun x=>some x)).bind (fun r1=>some (decide (0≤r1)))=some (f.any fun u=>leT u t):=by
  have:∀ o:Option Int,(o.bind fun r1=>some (decide (0≤r1)))=o.map fun r1=>decide (0≤r1):=fun o=>by cases o <;> rfl
  rw [this]
  have hm:∀ (o:Option (Out Unit Int)),(outK o (fun (a3:Unit)=>some (-1)) (fun x=>some x)).map (fun r1=>decide (0≤r1))=outK o (fun _=>some false) (fun x=>some (decide (0≤x))):=fun o=>by
   cases o with
   | none=>rfl
   | some o=>cases o <;> rfl
  rw [hm]
  refine zgn (p:=fun u=>leT u t) (f:=fun i=>(i:Int)) ?_ (fun h=>by rw [h]) (fun i hi h=>by rw [h,decide_eq_true (by omega)])
  intro i u hi
  unfold z5j
  rw [zlk (hf _ (zbo hi)) ht]
  simp only [Option.bind_some]
  cases leT (f.getD i default) t <;> rfl
 rw [h]; rfl
theorem zh4 (a:List Time):z4n a a=some true:=by
 unfold z4n
 rw [decide_eq_true (by omega),Bool.not_true,z0e,z4w () (fun _ _=>True) (fun _ _=>rfl)]
 ·rfl
 ·intro i u hi _
  refine ⟨(),?_,trivial⟩
  rw [z06 (by omega),zdo]
  rfl
 ·trivial
theorem zln {fuel:Nat} {l:List Time} (hl:NN l) (hz:l.length≤274877906944) (hf:2 * l.length + 30 < fuel):z6t fuel l=some (zdg l):=by
 unfold z6t z09
 have hs:NN (sortT l):=fun x hx=>hl x ((zfh l).mem_iff.1 hx)
 have hlen:=zho l
 rw [z06 hz,Option.bind_some,zik (by omega) hf,Option.bind_some]
 show need ((sortT l).length=l.length) _=_
 rw [z06 hlen]
 rw [show (Sort.sort ltT l.toArray).toList=sortT l from rfl]
 unfold zdg zei
 generalize sortT l=s at *
 rw [z4w (s.foldl (fun f t=>if f.any (fun u=>leT u t) then f else f++[t]) []) (fun i a=>a=(s.take i).foldl (fun f t=>if f.any (fun u=>leT u t) then f else f++[t]) []) (fun a h=>by rw [h,List.take_of_length_le (Nat.le_refl _)])]
 ·rfl
 ·rintro i a hi rfl
  have hle:((s.take i).foldl (fun f t=>if f.any (fun u=>leT u t) then f else f++[t]) []).length≤i:=by
   have:=zgs (s.take i)
   unfold zei at this
   rw [List.length_take] at this
   omega
  have hnn:NN ((s.take i).foldl (fun f t=>if f.any (fun u=>leT u t) then f else f++[t]) []):=by
   have key:∀ (r f:List Time),NN r→NN f→NN (r.foldl (fun f t=>if f.any (fun u=>leT u t) then f else f++[t]) f):=by
    intro r
    induction r with
    | nil=>intro f _ h; exact h
    | cons t r ih =>
     intro f hr h
     rw [List.foldl_cons]
     refine ih _ (fun x hx=>hr x (List.mem_cons_of_mem _ hx)) ?_
     split
     ·exact h
     ·intro x hx
      rcases List.mem_append.1 hx with hx | hx
      ·exact h x hx
      ·rw [List.mem_singleton.1 hx]; exact hr t (List.mem_cons_self ..)
   exact key _ _ (fun x hx=>hs x (List.mem_of_mem_take hx)) (fun x h=>nomatch h)
  refine ⟨_,?_,rfl⟩
  rw [Nat.zero_add,z06 hi,zgk hnn (hs _ (zbo hi)),Option.bind_some,zch hi,List.foldl_append,List.foldl_cons,List.foldl_nil]
  generalize (s.take i).foldl (fun f t=>if f.any (fun u=>leT u t) then f else f++[t]) []=f at *
  cases hc:f.any (fun u=>leT u (s.getD i default)) with
  | true=>simp only [Bool.not_true,z0e,if_true]
  | false =>
   rw [Bool.not_false,z39,z06 (by rw [List.length_singleton]; omega)]
   simp
 ·rfl
end Go.Av
namespace Go.Av
open Go
set_option linter.unusedVariables false
set_option linter.unusedSimpArgs false
def adv (t:Time) (f:List Time):Time:=if f=[] then t else lub2 t (glbL f)
theorem zl9 {t a b:Time}:glb2 (lub2 t a) (lub2 t b)=lub2 t (glb2 a b):=by
 refine Time.ext' ?_ ?_ ?_ <;> simp only [lub2,glb2,mx_eq,mn_eq] <;> omega
theorem zm8 {t:Time} {f:List Time} (h:f ≠ []):glbL (f.map (lub2 t))=lub2 t (glbL f):=by
 cases f with
 | nil=>exact absurd rfl h
 | cons x f =>
  simp only [List.map_cons,glbL]
  induction f generalizing x with
  | nil=>rfl
  | cons y f ih =>
   simp only [List.map_cons,List.foldl_cons]
   rw [zl9]
   exact ih (glb2 x y) (by simp)
theorem zn0 {t u:Time} (ht:z1g t) (hu:z1g u):z4v [t,u]=some (lub2 t u):=by
 unfold z4v
 rw [zae (fun x hx=>by
  rcases List.mem_cons.1 hx with rfl | hx
  ·exact ht
  ·rw [List.mem_singleton.1 hx]; exact hu),zh6 ht]
 rfl
theorem zem {t:Time} {f:List Time} (ht:z1g t) (hf:NN f) (hl:f.length≤274877906944):z50 t f=some (adv t f):=by
 unfold z50 adv
 by_cases h0:f=[]
 ·rw [if_pos h0,h0]; rfl
 ·have hlen:f.length ≠ 0:=fun e=>h0 (List.eq_nil_of_length_eq_zero e)
  rw [if_neg h0,decide_eq_false (by omega),z0e,z06 (by unfold lim; omega)]
  rw [z4w (f.map (lub2 t)) (fun i a=>a=(f.take i).map (lub2 t)++List.replicate (f.length - i) (⟨0,(0,0)⟩:Time)) (fun a h=>by rw [h,List.take_of_length_le (Nat.le_refl _),Nat.sub_self]; simp)]
  ·simp only [z3q]
   unfold z96
   rw [zhw,zm8 h0]; rfl
  ·rintro i a hi rfl
   refine ⟨_,?_,rfl⟩
   have hlen2:((f.take i).map (lub2 t)++List.replicate (f.length - i) (⟨0,(0,0)⟩:Time)).length=f.length:=by
    rw [List.length_append,List.length_map,List.length_take,List.length_replicate]; omega
   rw [zn0 ht (hf _ (zbo hi)),Option.bind_some,hlen2,Nat.zero_add,z06 (by omega),z06 (by omega),zch hi,List.map_append,show f.length - i=(f.length - (i + 1)) + 1 by omega,List.replicate_succ]
   have e:=List.set_append_right (s:=(f.take i).map (lub2 t)) (t:=(⟨0,(0,0)⟩:Time) :: List.replicate (f.length - (i + 1)) (⟨0,(0,0)⟩:Time)) i (lub2 t (f.getD i default)) (by rw [List.length_map,List.length_take]; omega)
   rw [e,List.length_map,List.length_take,show i - min i f.length=0 by omega]
   simp
  ·simp
end Go.Av
namespace Go.Av
open Go
set_option linter.unusedVariables false
set_option linter.unusedSimpArgs false
theorem zno {t:Time} {f:List Time} (ht:z1g t) (hf:NN f):z1g (adv t f):=by
 unfold adv
 split
 ·exact ht
 ·exact zmk ht (zn3 hf)
theorem zmx (t:Time) (f:List Time):adv (adv t f) f=adv t f:=by
 unfold adv
 split
 ·rfl
 ·refine Time.ext' ?_ ?_ ?_ <;> simp only [lub2,mx_eq] <;> omega
end Go.Av
namespace Go.Av
open Go
set_option linter.unusedVariables false
set_option linter.unusedSimpArgs false
def Fr (l:List Time):Prop:=(∀ t ∈ l,okT t=true)∧zdg l=l
theorem zl8 {fuel:Nat} (hf:5 < fuel) (l:List Time):∃ e,z34 fuel l=some e∧(e=0↔∀ t ∈ l,okT t=true):=by
 unfold z34
 rw [zbu (fun t=>if okT t=true then 0 else 1) (fun x=>x)]
 ·have key:∀ l:List Time,l.foldr (fun x v=>thenC (if okT x=true then 0 else 1) v) (0:Int)=0↔∀ t ∈ l,okT t=true:=fun l=>by
   induction l with
   | nil=>simp
   | cons t l ih =>
    rw [List.foldr_cons,z94,ih]
    by_cases h:okT t=true <;> simp [h]
  refine ⟨l.foldr (fun x v=>thenC (if okT x=true then 0 else 1) v) (0:Int),?_,key l⟩
  split
  ·rename_i h; rw [h]; rfl
  ·rfl
 ·intro i hi
  have h:=zb9 hf (l.getD i default)
  unfold z34 at h
  simp only [List.length_cons,List.length_nil,Nat.zero_add,z0b,List.getD_cons_zero] at h
  simp only [zj7 hf,Option.bind_some,z07] at h ⊢
  generalize l.getD i default=t at *
  unfold okT at *
  simp only [mx_eq] at *
  by_cases g:4611686018427387904 < max t.epoch (max t.loop.1 t.loop.2)
  ·rw [if_pos g,if_neg (by rw [if_neg (by simp only [Bool.and_eq_true,decide_eq_true_eq]; omega)]; decide),if_neg (by simp only [Bool.and_eq_true,decide_eq_true_eq]; omega)]
  ·rw [if_neg g,if_pos (by rw [if_pos (by simp only [Bool.and_eq_true,decide_eq_true_eq]; omega)])]
theorem zkp (a b:List Time):∃ r,z19 a b=some r∧(r=true↔a=b):=by
 unfold z19
 by_cases hl:a.length=b.length
 ·rw [decide_eq_true (by omega:(a.length:Int)=(b.length:Int))]
  simp only [Bool.not_true,z0e]
  have key:∀ k i,i + k=a.length→∃ r,outK (z0b (S:=Unit) (R:=Bool) (fun i1 (a2:Unit)=>need ((0:Int)≤((i1:Nat):Int)∧((i1:Nat):Int) < (b.length:Int)) <| bf (!(z1r (a.getD i1 default) (b.getD i1 default))) (some (.ret false)) (some (.next ()))) k i ()) (fun (a3:Unit)=>some true) (fun x=>some x)=some r∧(r=true↔a.drop i=b.drop i):=by
   intro k
   induction k with
   | zero =>
    intro i hi
    refine ⟨true,rfl,?_⟩
    rw [List.drop_eq_nil_of_le (by omega:a.length≤i),List.drop_eq_nil_of_le (by omega:b.length≤i)]
    simp
   | succ k ih =>
    intro i hi
    simp only [z0b]
    rw [z06 (by omega),z1o (by omega:i < a.length),z1o (by omega:i < b.length)]
    by_cases he:z1r (a.getD i default) (b.getD i default)=true
    ·rw [he]
     obtain ⟨r,h1,h2⟩:=ih (i + 1) (by omega)
     refine ⟨r,h1,?_⟩
     rw [h2,zdh.1 he]
     simp
    ·have he' : z1r (a.getD i default) (b.getD i default)=false:=by simpa using he
     rw [he']
     refine ⟨false,rfl,?_⟩
     simp only [Bool.false_eq_true,false_iff,List.cons.injEq,not_and]
     intro h
     exact absurd (zdh.2 h) he
  obtain ⟨r,h1,h2⟩:=key a.length 0 (by omega)
  exact ⟨r,h1,by simpa using h2⟩
 ·rw [decide_eq_false (by omega:¬ (a.length:Int)=(b.length:Int))]
  exact ⟨false,rfl,by simp; intro h; exact hl (by rw [h])⟩
theorem zbm {fuel:Nat} {l:List Time} (hf:20000000≤fuel) (hn:l.length≤2000000) (hl:NN l):∃ b,z4z fuel l=some b∧(b=true↔Fr l):=by
 unfold z4z
 obtain ⟨e,h1,h2⟩:=zl8 (fuel:=fuel) (by omega) l
 rw [h1]
 simp only [Option.bind_some,jn_eq,z07]
 by_cases h:e=0
 ·rw [if_pos h,zln hl (by omega) (by omega)]
  obtain ⟨r,g1,g2⟩:=zkp (zdg l) l
  simp only [Option.bind_some]
  rw [g1]
  exact ⟨r,rfl,by rw [g2]; exact ⟨fun g=>⟨h2.1 h,g⟩,fun g=>g.2⟩⟩
 ·rw [if_neg h]
  exact ⟨false,rfl,by simp only [Bool.false_eq_true,false_iff]; exact fun g=>h (h2.2 g.1)⟩
def advU (f:List Time) (u:Update):Update:=⟨u.key,u.row,adv u.time f,u.diff⟩
def advL (f:List Time) (l:List Update):List Update:=l.map (advU f)
def AdvOk (f:List Time) (l R:List Update) (e:Int):Prop:=(chkL l ≠ 0∧R=[]∧e=chkL l)∨(chkL l=0∧zl1 (advL f l) R e)
theorem zdr {fuel:Nat} {f:List Time} {ls:List (List Update)} (hf:20000000≤fuel) (hF:NN f) (hl:f.length≤2000000) (hn:ls.flatten.length≤4000000) (hd:∀ u ∈ ls.flatten,in64 u.diff) (ht:∀ u ∈ ls.flatten,z1g u.time) :
  ∃ R e,z51 fuel f ls=some (R,e)∧AdvOk f ls.flatten R e∧R.length≤ls.flatten.length:=by
 unfold z51
 rw [show z0p ls=some ls.flatten from zhf hn]
 simp only [Option.bind_some]
 generalize ls.flatten=l at *
 rw [z9j (by omega)]
 simp only [Option.bind_some,z47,z07]
 by_cases h:chkL l=0
 ·rw [if_pos h]
  rw [z4w (advL f l) (fun i a=>a=advL f (l.take i)++l.drop i) (fun s hs=>by rw [hs,List.take_length,List.drop_length,List.append_nil])]
  ·simp only [z3q]
   have hfl:([advL f l]:List (List Update)).flatten=advL f l:=by simp
   obtain ⟨R,e,h1,h2,h3⟩:=zmo (fuel:=fuel) (ls:=[advL f l]) hf (by rw [hfl]; simp [advL]; exact hn) (fun u hu=>by
    rw [hfl] at hu
    obtain ⟨v,hv,rfl⟩:=List.mem_map.1 hu
    exact hd v hv)
   rw [hfl] at h2 h3
   rw [h1]
   exact ⟨R,e,rfl,.inr ⟨h,h2⟩,by simpa [advL] using h3⟩
  ·intro i a hi ha
   have hla:(advL f (l.take i)).length=i:=by simp [advL]; omega
   have hlen:a.length=l.length:=by rw [ha]; simp [hla]; omega
   have hg:a.getD i default=l.getD i default:=by
    rw [ha,z1o hi]
    have:=zlw (advL f (l.take i)) (l.drop (i + 1)) (l.getD i default)
    rwa [hla] at this
   refine ⟨_,?_,rfl⟩
   simp only [Nat.zero_add]
   rw [z06 (by omega),z06 (by omega),hg,zem (ht _ (z42 hi)) hF (by omega)]
   simp only [Option.bind_some]
   rw [z06 (by omega),z06 (by omega)]
   congr 2
   rw [ha,z1o hi]
   have:=zj1 (advL f (l.take i)) (l.drop (i + 1)) (l.getD i default) (advU f (l.getD i default))
   rw [hla] at this
   have e1:advL f (l.take (i + 1))=advL f (l.take i)++[advU f (l.getD i default)]:=by rw [z2r hi]; simp [advL]
   rw [e1,List.append_assoc]
   exact this
  ·simp [advL]
 ·rw [if_neg h]
  exact ⟨_,_,rfl,.inl ⟨h,rfl,rfl⟩,Nat.zero_le _⟩
def zd8 (f:List Time) (l:List Update) (B:Batch) (e:Int):Prop :=
 (¬ Fr f∧e=4∧B=⟨[],[]⟩)∨(Fr f∧∃ R e',AdvOk f l R e' ∧ R.length≤l.length∧((e' ≠ 0∧e=e' ∧ B=⟨[],[]⟩)∨(e' = 0∧e=0∧B=⟨f,R⟩)))
theorem zlt {fuel:Nat} {f:List Time} {ls:List (List Update)} (hf:20000000≤fuel) (hF:NN f) (hl:f.length≤2000000) (hn:ls.flatten.length≤4000000) (hd:∀ u ∈ ls.flatten,in64 u.diff) (ht:∀ u ∈ ls.flatten,z1g u.time) :
  ∃ B e,z5x fuel f ls=some (B,e)∧zd8 f ls.flatten B e:=by
 unfold z5x
 obtain ⟨b,h1,h2⟩:=zbm (fuel:=fuel) hf hl hF
 rw [h1]
 simp only [Option.bind_some]
 cases b with
 | false=>exact ⟨_,_,rfl,.inl ⟨fun g=>(by cases h2.2 g),rfl,rfl⟩⟩
 | true =>
  obtain ⟨R,e',g1,g2,g3⟩:=zdr (fuel:=fuel) hf hF hl hn hd ht
  rw [g1]
  simp only [Bool.not_true,z0e,Option.bind_some,z47,z07]
  by_cases h:e' = 0
  ·rw [if_pos h]
   unfold z09
   rw [z06 (by omega)]
   exact ⟨_,_,rfl,.inr ⟨h2.1 rfl,R,e',g2,g3,.inr ⟨h,rfl,rfl⟩⟩⟩
  ·rw [if_neg h]
   exact ⟨_,_,rfl,.inr ⟨h2.1 rfl,R,e',g2,g3,.inl ⟨h,rfl,rfl⟩⟩⟩
theorem zmm {f:List Time} {l R:List Update} {e:Int} (h:TotU (advL f l) R e):∀ r ∈ R,advU f r=r:=fun r hr=>by
 rcases h with ⟨_,h,_⟩ | ⟨_,rfl,_⟩
 ·obtain ⟨y,h1,h2⟩:=h.mem r hr
  obtain ⟨z,h3,h4⟩:=z9o.1 h1
  obtain ⟨u,_,rfl⟩:=List.mem_map.1 h3
  rw [h2,← h4]
  unfold advU z3e
  simp only [zmx]
 ·cases hr
theorem zfn (B:Batch):z3j B B=some true:=by
 unfold z3j
 rw [zh4,znk]
 rfl
theorem zny {l R:List Update} {e:Int} {f:List Time} (h:TotU (advL f l) R e) (hF:NN f) (ht:∀ u ∈ l,z1g u.time):∀ r ∈ R,z1g r.time :=
 zm9 h fun u hu=>by
  obtain ⟨v,hv,rfl⟩:=List.mem_map.1 hu
  exact zno (ht v hv) hF
end Go.Av
namespace Go.Av
open Go
set_option linter.unusedVariables false
theorem zm1:z48 100000000=some true:=by kernel_rfl
theorem znc {n:Int} (h:okInt .i64 n):in64 n:=by
 have:=Go.bounds_i64 h
 unfold in64
 omega
theorem zbb {n:Int} (h:okInt .u64 n):0≤n:=(Go.bounds_u64 h).1
theorem zgp {t:Time} (h:za1 t):z1g t:=⟨zbb h.1,zbb h.2.1.1,zbb h.2.1.2⟩
abbrev okUs (l:List Update):Prop:=l.length≤maxN∧∀ x ∈ l,zbd x
abbrev okTs (l:List Time):Prop:=l.length≤maxN∧∀ x ∈ l,za1 x
theorem us_in {l:List Update} (h:okUs l):∀ u ∈ l,in64 u.diff:=fun u hu=>znc (h.2 u hu).2.2.2.1
theorem us_nn {l:List Update} (h:okUs l):∀ u ∈ l,z1g u.time:=fun u hu=>zgp (h.2 u hu).2.2.1
theorem ts_nn {l:List Time} (h:okTs l):∀ u ∈ l,z1g u:=fun u hu=>zgp (h.2 u hu)
theorem zl0 (l:List Update):l.length≤(l.map z6e).sum:=z6f (f:=z6e) (fun x=>by unfold z6e; omega) l
theorem zhk (l:List Time):l.length≤(l.map z5z).sum:=z6f (f:=z5z) (fun x=>by unfold z5z; omega) l
end Go.Av
namespace Go.Av
open Go
set_option linter.unusedVariables false
set_option linter.unusedSimpArgs false
theorem zl5 {α:Type} [Inhabited α] {c : α → α → Int} (hC:IsCmp c) {l:List α} (h:∀ j,0 < j→j < l.length→c (l.getD (j - 1) default) (l.getD j default) < 0):l.Pairwise fun a b=>c a b < 0:=by
 have key:∀ j i,i < j→j < l.length→c (l.getD i default) (l.getD j default) < 0:=by
  intro j
  induction j with
  | zero=>intro i hi; omega
  | succ j ih =>
   intro i hi hj
   have h1:=h (j + 1) (by omega) hj
   rw [Nat.add_sub_cancel] at h1
   by_cases e:i=j
   ·subst e; exact h1
   ·exact hC.lt_tr (ih i (by omega) (by omega)) (by omega)
 rw [List.pairwise_iff_getElem]
 intro i j hi hj hij
 have:=key j i hij hj
 rwa [List.getD_eq_getElem?_getD,List.getElem?_eq_getElem hi,List.getD_eq_getElem?_getD,List.getElem?_eq_getElem hj] at this
structure EvenP (l:List Update):Prop where
 lt:l.Pairwise fun a b=>cU a b < 0
 nz:∀ r ∈ l,r.diff ≠ 0
 ok:∀ r ∈ l,okU r
theorem EvenP.adj {l:List Update} (h:EvenP l) {i:Nat} (h0:0 < i) (hi:i < l.length):cU (l.getD (i - 1) default) (l.getD i default) < 0:=by
 have hs:=h.lt
 rw [List.pairwise_iff_getElem] at hs
 have:=hs (i - 1) i (by omega) hi (by omega)
 rwa [List.getD_eq_getElem?_getD,List.getElem?_eq_getElem (by omega:i - 1 < l.length),List.getD_eq_getElem?_getD,List.getElem?_eq_getElem hi]
theorem zfq {fuel:Nat} {l:List Update} (hf:20000000≤fuel) (hn:l.length≤4000000):∃ b,z6u fuel l=some b∧(b=true↔EvenP l):=by
 unfold z6u
 rw [z9j (by omega)]
 let G:Option Bool→Prop:=fun q=>∃ b,q=some b∧(b=true↔EvenP l)
 refine z88 (G:=G) (fun i _=>∀ j,j < i→(l.getD j default).diff ≠ 0∧(0 < j→cU (l.getD (j - 1) default) (l.getD j default) < 0)) (fun _=>∀ j,j < l.length→(l.getD j default).diff ≠ 0∧(0 < j→cU (l.getD (j - 1) default) (l.getD j default) < 0))
  (fun r=>r=false∧¬ EvenP l) (fun j hj=>by omega) (fun _ h=>h) ?_ ?_ ?_
 ·intro s h
  refine ⟨_,rfl,?_⟩
  simp only [decide_eq_true_eq]
  rw [za9]
  refine ⟨fun ho=>⟨zl5 cU_is fun j h0 hj=>(h j hj).2 h0,fun r hr => ?_,ho⟩,fun hE=>hE.ok⟩
  obtain ⟨i,hi,rfl⟩:=List.mem_iff_getElem.1 hr
  have:=(h i hi).1
  rwa [List.getD_eq_getElem?_getD,List.getElem?_eq_getElem hi] at this
 ·rintro r ⟨rfl,h⟩
  exact ⟨false,rfl,by simp [h]⟩
 ·intro i s hi h
  simp only [jn_eq,z07]
  by_cases h0:(l.getD i default).diff=0
  ·rw [if_pos h0]
   exact .inr (.inr ⟨_,rfl,rfl,fun hE=>hE.nz _ (z42 hi) h0⟩)
  ·rw [if_neg h0]
   by_cases g:0 < ((i:Nat):Int)
   ·rw [if_pos g,wsub1 (by omega) (by omega),z06 (by omega),z9z]
    simp only [Option.bind_some,z07,Int.toNat_natCast]
    by_cases k:0≤cU (l.getD (i - 1) default) (l.getD i default)
    ·rw [if_pos k]
     exact .inr (.inr ⟨_,rfl,rfl,fun hE=>by have:=hE.adj (i:=i) (by omega) hi; omega⟩)
    ·rw [if_neg k]
     refine .inl ⟨_,rfl,fun j hj => ?_⟩
     by_cases e:j=i
     ·subst e; exact ⟨h0,fun _=>by omega⟩
     ·exact h j (by omega)
   ·rw [if_neg g]
    refine .inl ⟨_,rfl,fun j hj => ?_⟩
    by_cases e:j=i
    ·subst e; exact ⟨h0,fun _=>by omega⟩
    ·exact h j (by omega)
def AdvP (f:List Time) (l:List Update):Prop := ∀ r ∈ l,adv r.time f=r.time
theorem zlu {f:List Time} {l:List Update}:AdvP f l↔∀ r ∈ l,advU f r=r:=by
 refine forall_congr' fun r=>imp_congr_right fun _ => ?_
 unfold advU
 rcases r with ⟨a,b,c,d⟩
 simp
theorem zn8 {f:List Time} {l:List Update}:(l.any fun u => !z1r (adv u.time f) u.time)=false↔AdvP f l:=by
 simp only [List.any_eq_false,AdvP,Bool.not_eq_true,Bool.not_eq_false',zdh]
theorem zf0 {fuel:Nat} {f:List Time} {l:List Update} (hf:20000000≤fuel) (hF:NN f) (hl:f.length≤2000000) (hn:l.length≤4000000) (ht:∀ r ∈ l,z1g r.time):∃ b,z5c fuel l f=some b∧(b=true↔EvenP l∧AdvP f l):=by
 unfold z5c
 obtain ⟨b,h1,h2⟩:=zfq (l:=l) hf hn
 rw [h1]
 simp only [Option.bind_some,jn_eq]
 cases b with
 | false=>exact ⟨false,rfl,by simp only [Bool.false_eq_true,false_iff]; exact fun g=>by have:=h2.2 g.1; cases this⟩
 | true =>
  rw [z39]
  have hE:=h2.1 rfl
  unfold z0o z0q
  have hany:=zn8 (f:=f) (l:=l)
  refine ⟨!(l.any fun u => !z1r (adv u.time f) u.time),?_,by rw [← hany]; simp [hE]⟩
  have hB:∀ i (u:Unit),i < l.length→(z4j (l.getD i default) f).bind (fun r4=>bf r4 (some (.ret ((i:Nat):Int))) (some (.next ())))=if (!z1r (adv (l.getD i default).time f) (l.getD i default).time)=true then some (Ctl.ret ((i:Nat):Int)) else some (.next ()):=fun i u hi=>by
   unfold z4j
   rw [zem (ht _ (z42 hi)) hF (by omega)]
   simp only [Option.bind_some]
   cases (!z1r (adv (l.getD i default).time f) (l.getD i default).time) <;> rfl
  cases hc:l.any fun u => !z1r (adv u.time f) u.time with
  | false =>
   have e:=zgn (kn:=fun _=>some (-1:Int)) (kr:=fun x:Int=>some x) (p:=fun u:Update => !z1r (adv u.time f) u.time) (f:=fun i=>(i:Int)) (q:=some (-1)) hB (fun _=>rfl) (fun i hi h=>by rw [hc] at h; cases h)
   rw [e]
   rfl
  | true =>
   have:∃ k:Nat,outK (z0b (S:=Unit) (R:=Int) (fun i1 (a2:Unit)=>(z4j (l.getD i1 default) f).bind fun r4=>bf r4 (some (.ret ((i1:Nat):Int))) (some (.next ()))) l.length 0 ()) (fun (a3:Unit)=>some (-1)) (fun x=>some x)=some ((k:Nat):Int):=by
    refine z88 (G:=fun q=>∃ k:Nat,q=some ((k:Nat):Int)) (fun i _=>(l.take i).any (fun u => !z1r (adv u.time f) u.time)=false) (fun _=>False) (fun r=>∃ k:Nat,r=(k:Int)) rfl (fun s h=>by rw [List.take_length,hc] at h; cases h) (fun s h=>h.elim) (fun r ⟨k,h⟩=>⟨k,by rw [h]⟩) ?_
    intro i s hi h
    rw [hB i s hi]
    by_cases g:(!z1r (adv (l.getD i default).time f) (l.getD i default).time)=true
    ·rw [if_pos g]; exact .inr (.inr ⟨_,rfl,i,rfl⟩)
    ·rw [if_neg g]
     refine .inl ⟨_,rfl,?_⟩
     rw [z2r hi,List.any_append,h]
     simp only [List.any_cons,List.any_nil,Bool.or_false,Bool.false_or]
     simpa using g
   obtain ⟨k,hk⟩:=this
   rw [hk]
   have:decide (0≤((k:Nat):Int))=true:=by rw [decide_eq_true_eq]; omega
   simp only [Option.bind_some,this]
def zkw (b:Batch):Prop:=Fr b.since∧EvenP b.updates∧AdvP b.since b.updates
theorem ze3 {fuel:Nat} {b:Batch} (hf:20000000≤fuel) (hF:NN b.since) (hl:b.since.length≤2000000) (hn:b.updates.length≤4000000) (ht:∀ r ∈ b.updates,z1g r.time):(z4x fuel b=some 0∧zkw b)∨(z4x fuel b=some 4∧¬ zkw b):=by
 unfold z4x
 obtain ⟨x,h1,h2⟩:=zbm (fuel:=fuel) hf hl hF
 rw [h1]
 simp only [Option.bind_some,jn_eq]
 cases x with
 | false=>right; exact ⟨rfl,fun h=>by have:=h2.2 h.1; cases this⟩
 | true =>
  obtain ⟨y,g1,g2⟩:=zf0 (fuel:=fuel) hf hF hl hn ht
  rw [g1]
  cases y with
  | false=>right; exact ⟨rfl,fun h=>by have:=g2.2 h.2; cases this⟩
  | true=>left; exact ⟨rfl,h2.1 rfl,g2.1 rfl⟩
end Go.Av
namespace Go.Av
open Go
set_option linter.unusedVariables false
set_option linter.unusedSimpArgs false
abbrev kc (key:List Value) (u:Update):Int:=cmpL cmpV u.key key
def cntP (p:Update→Bool):List Update→Nat
 | []=>0
 | u :: l=>if p u then cntP p l + 1 else 0
theorem zan (p:Update→Bool):∀ l,cntP p l≤l.length
 | []=>Nat.le_refl _
 | u :: l=>by
  unfold cntP
  split
  ·simp only [List.length_cons]; have:=zan p l; omega
  ·exact Nat.zero_le _
theorem ziq {p:Update→Bool}:∀ {l:List Update} {i:Nat},i < cntP p l→p (l.getD i default)=true
 | [],i,h=>by simp [cntP] at h
 | u :: l,i,h=>by
  unfold cntP at h
  split at h
  ·rename_i hu
   cases i with
   | zero=>exact hu
   | succ i=>simp only [List.getD_cons_succ]; exact ziq (by omega)
  ·omega
theorem zfl {p:Update→Bool}:∀ {l:List Update},cntP p l < l.length→p (l.getD (cntP p l) default)=false
 | [],h=>by simp at h
 | u :: l,h=>by
  unfold cntP at *
  split
  ·rename_i hu
   rw [if_pos hu] at h
   simp only [List.getD_cons_succ]
   exact zfl (by simp only [List.length_cons] at h; omega)
  ·rename_i hu
   simpa using hu
theorem zkj {p:Update→Bool} {l:List Update} {n:Nat} (hn:n≤l.length) (h1:∀ i,i < n→p (l.getD i default)=true) (h2:n < l.length→p (l.getD n default)=false):cntP p l=n:=by
 have g1:=zan p l
 rcases Nat.lt_trichotomy (cntP p l) n with h | h | h
 ·have a:=zfl (p:=p) (l:=l) (by omega)
  rw [h1 _ h] at a; cases a
 ·exact h
 ·have a:=ziq h
  rw [h2 (by omega)] at a; cases a
end Go.Av
namespace Go.Av
open Go
set_option linter.unusedVariables false
set_option linter.unusedSimpArgs false
theorem zjp {l:List Update} {p:Update→Bool} {B:Nat→Unit→Option (Ctl Unit Int)} (hB:∀ i (u:Unit),i < l.length→B i u=if p (l.getD i default)=true then some (.next ()) else some (.ret ((i:Nat):Int))) :
  outK (z0b B l.length 0 ()) (fun _=>some (-1)) (fun x=>some x)=some (if cntP p l < l.length then ((cntP p l:Nat):Int) else -1):=by
 refine z88 (G:=fun q=>q=some (if cntP p l < l.length then ((cntP p l:Nat):Int) else -1)) (fun i _=>∀ j,j < i→p (l.getD j default)=true) (fun _=>¬ cntP p l < l.length) (fun r=>cntP p l < l.length∧r=((cntP p l:Nat):Int)) (fun j hj=>by omega) (fun s h hc => ?_) (fun s h=>by rw [if_neg h]) (fun r ⟨h,e⟩=>by rw [if_pos h,e]) ?_
 ·have:=zfl hc
  rw [h _ hc] at this; cases this
 ·intro i s hi h
  rw [hB i s hi]
  by_cases g:p (l.getD i default)=true
  ·rw [if_pos g]
   refine .inl ⟨_,rfl,fun j hj => ?_⟩
   by_cases e:j=i
   ·subst e; exact g
   ·exact h j (by omega)
  ·rw [if_neg g]
   have:cntP p l=i:=zkj (by omega) h fun _=>by simpa using g
   exact .inr (.inr ⟨_,rfl,by omega,by rw [this]⟩)
end Go.Av
namespace Go.Av
open Go
set_option linter.unusedVariables false
set_option linter.unusedSimpArgs false
abbrev upTo (l:List Update) (key:List Value):Nat:=(l.filter fun u=>decide (kc key u≤0)).length
end Go.Av
namespace Go.Av
open Go
set_option linter.unusedVariables false
theorem zf9 {b:Batch}:(b.since.map z5z).sum + (b.updates.map z6e).sum≤z8o b:=by
 unfold z8o
 simp only
 omega
end Go.Av
namespace Go.Av
open Go
set_option linter.unusedVariables false
set_option linter.unusedSimpArgs false
def zns (f:List Time) (l:List Update) (B:Batch) (e:Int):Prop :=
 (¬ Fr f∧e=4∧B=⟨[],[]⟩)∨(Fr f∧∃ R e',AdvOk f l R e' ∧ ((e' ≠ 0∧e=e' ∧ B=⟨[],[]⟩)∨(e' = 0∧e=0∧B=⟨f,R⟩)))
theorem zd8.r {f:List Time} {l:List Update} {B:Batch} {e:Int} (h:zd8 f l B e):zns f l B e:=by
 rcases h with h | ⟨h1,R,e',h2,_,h3⟩
 ·exact .inl h
 ·exact .inr ⟨h1,R,e',h2,h3⟩
def zew (since than:List Time):Bool:=decide (than=[]) || (decide (since ≠ []) && since.all fun t=>than.any fun u=>leT u t)
theorem zmn {l:List Time} {p:Time→Bool}:(l.any fun t => !p t) = !l.all p:=by rw [List.any_eq_not_all_not]; simp
theorem zgv {since than:List Time} (hF:NN since) (hT:NN than):z0i since than=some (!since.all fun t=>than.any fun u=>leT u t):=by
 unfold z0i z0y
 have hB:∀ i (u:Unit),i < since.length→(z5d (since.getD i default) than).bind (fun r4=>bf r4 (some (.ret ((i:Nat):Int))) (some (.next ())))=if (!than.any fun u=>leT u (since.getD i default))=true then some (Ctl.ret ((i:Nat):Int)) else some (.next ()):=fun i u hi=>by
  unfold z5d
  rw [zgk hT (hF _ (z42 hi))]
  simp only [Option.bind_some]
  cases (!than.any fun u=>leT u (since.getD i default)) <;> rfl
 have hany:=zmn (l:=since) (p:=fun t=>than.any fun u=>leT u t)
 rw [← hany]
 have:∃ z:Int,outK (z0b (S:=Unit) (R:=Int) (fun i1 (a2:Unit)=>(z5d (since.getD i1 default) than).bind fun r4=>bf r4 (some (.ret ((i1:Nat):Int))) (some (.next ()))) since.length 0 ()) (fun (a3:Unit)=>some (-1)) (fun x=>some x)=some z∧decide (0≤z)=since.any fun t => !than.any fun u=>leT u t:=by
  refine z88 (G:=fun q=>∃ z:Int,q=some z∧decide (0≤z)=since.any fun t => !than.any fun u=>leT u t) (fun i _=>(since.take i).any (fun t => !than.any fun u=>leT u t)=false) (fun _=>since.any (fun t => !than.any fun u=>leT u t)=false) (fun r=>0≤r∧since.any (fun t => !than.any fun u=>leT u t)=true) rfl (fun s h=>by rwa [List.take_length] at h) (fun s h=>⟨_,rfl,by rw [h]; rfl⟩) (fun r h=>⟨r,rfl,by rw [h.2]; exact decide_eq_true h.1⟩) ?_
  intro i s hi h
  rw [hB i s hi]
  by_cases g:(!than.any fun u=>leT u (since.getD i default))=true
  ·rw [if_pos g]
   exact .inr (.inr ⟨_,rfl,by omega,List.any_eq_true.2 ⟨_,z42 hi,g⟩⟩)
  ·rw [if_neg g]
   refine .inl ⟨_,rfl,?_⟩
   rw [z2r hi,List.any_append,h]
   simp only [List.any_cons,List.any_nil,Bool.or_false,Bool.false_or]
   simpa using g
 obtain ⟨z,h1,h2⟩:=this
 rw [h1]
 simp only [Option.bind_some,h2]
theorem zh2 {since than:List Time} (hF:NN since) (hT:NN than):z5y since than=some (zew since than):=by
 unfold z5y zew
 simp only [jn_eq,z07]
 by_cases h:than=[]
 ·rw [h]; rfl
 ·have h0:¬ (than.length:Int)=0:=fun e=>h (List.eq_nil_of_length_eq_zero (by omega))
  rw [if_neg h0,decide_eq_false h,Bool.false_or]
  by_cases g:since=[]
  ·rw [g]; rfl
  ·have g0:0 < (since.length:Int):=by have:=List.length_pos_iff.2 g; omega
   rw [if_pos g0,zgv hF hT,decide_eq_true g]
   simp
end Go.Av
namespace Go.Av
open Go
set_option linter.unusedVariables false
set_option linter.unusedSimpArgs false
section
variable {α:Type} {c : α → α → Int} {num : α → Int} {put : α → Int → α}
theorem zn9 (hC:IsCmp c) (h2:∀ x n y,c (put x n) y=c x y) {l1 l2:List (α × Int)} {R1 R2:List α} (ha:Tot c num put l1 R1 0) (hb:Tot c num put l2 R2 0) (hlt:∀ p ∈ l1,∀ q ∈ l2,c p.1 q.1 < 0):Tot c num put (l1++l2) (R1++R2) 0:=by
 rcases ha with ⟨_,a,fa⟩ | ⟨h,_⟩
 case inr=>omega
 rcases hb with ⟨_,b,fb⟩ | ⟨h,_⟩
 case inr=>omega
 have h3:∀ x n y,c y (put x n)=c y x:=fun x n y=>by have:=hC.anti y (put x n); have:=hC.anti y x; have:=h2 x n y; omega
 have ne12:∀ p ∈ l1,∀ q ∈ l2,c p.1 q.1 ≠ 0:=fun p hp q hq=>by have:=hlt p hp q hq; omega
 have ne21:∀ p ∈ l1,∀ q ∈ l2,c q.1 p.1 ≠ 0:=fun p hp q hq=>by have:=hlt p hp q hq; have:=hC.anti p.1 q.1; omega
 have z2:∀ y,(∃ p ∈ l1,c y p.1=0)→sm c l2 y=0:=fun y ⟨p,hp,e⟩=>z9h fun q hq=>by rw [hC.eqL q.1 e]; exact ne12 p hp q hq
 have z1:∀ y,(∃ p ∈ l2,c y p.1=0)→sm c l1 y=0:=fun y ⟨q,hq,e⟩=>z9h fun p hp=>by rw [hC.eqL p.1 e]; exact ne21 p hp q hq
 have of1:∀ r ∈ R1,∃ p ∈ l1,c r p.1=0:=fun r hr=>by
  obtain ⟨p,hp,e⟩:=a.mem r hr
  exact ⟨p,hp,by rw [e,h2]; exact hC.refl _⟩
 have of2:∀ r ∈ R2,∃ p ∈ l2,c r p.1=0:=fun r hr=>by
  obtain ⟨p,hp,e⟩:=b.mem r hr
  exact ⟨p,hp,by rw [e,h2]; exact hC.refl _⟩
 refine .inl ⟨rfl,⟨?_,?_,?_,?_⟩,?_⟩
 ·rw [List.pairwise_append]
  refine ⟨a.strict,b.strict,fun r hr s hs => ?_⟩
  obtain ⟨p,hp,e⟩:=of1 r hr
  obtain ⟨q,hq,e'⟩:=of2 s hs
  rw [hC.eqL s e,hC.eqR p.1 e']
  exact hlt p hp q hq
 ·intro r hr
  rw [z7k]
  rcases List.mem_append.1 hr with hr | hr
  ·rw [z2 r (of1 r hr),Int.add_zero]; exact a.sum r hr
  ·rw [z1 r (of2 r hr),Int.zero_add]; exact b.sum r hr
 ·intro r hr
  rcases List.mem_append.1 hr with hr | hr
  ·obtain ⟨y,g1,g2⟩:=a.mem r hr; exact ⟨y,List.mem_append_left _ g1,g2⟩
  ·obtain ⟨y,g1,g2⟩:=b.mem r hr; exact ⟨y,List.mem_append_right _ g1,g2⟩
 ·intro y hy hn
  rw [z7k] at hn
  rcases List.mem_append.1 hy with hy | hy
  ·rw [z2 y.1 ⟨y,hy,hC.refl _⟩,Int.add_zero] at hn
   obtain ⟨r,g1,g2⟩:=a.all y hy hn
   exact ⟨r,List.mem_append_left _ g1,g2⟩
  ·rw [z1 y.1 ⟨y,hy,hC.refl _⟩,Int.zero_add] at hn
   obtain ⟨r,g1,g2⟩:=b.all y hy hn
   exact ⟨r,List.mem_append_right _ g1,g2⟩
 ·intro y
  rw [z7k]
  by_cases e:sm c l1 y=0
  ·rw [e,Int.zero_add]; exact fb y
  ·rw [z2 y (zb8 e),Int.add_zero]; exact fa y
theorem zjz (hC:IsCmp c) {l1 l2:List (α × Int)} (h:¬ Fits c l1) (hne:∀ p ∈ l1,∀ q ∈ l2,c p.1 q.1 ≠ 0):¬ Fits c (l1++l2):=fun hf=>by
 apply h
 intro y
 by_cases e:sm c l1 y=0
 ·rw [e]; unfold in64; omega
 ·obtain ⟨p,hp,e'⟩:=zb8 e
  have:=hf y
  rw [z7k,z9h (l:=l2) fun q hq=>by rw [hC.eqL q.1 e']; exact hne p hp q hq,Int.add_zero] at this
  exact this
theorem zkd {l l' : List (α × Int)} (h:l.Perm l'):Fits c l↔Fits c l':=by
 unfold Fits
 simp only [ziv h]
end
def krw (u v:Update):Int:=thenC (cmpL cmpV u.key v.key) (cmpL cmpV u.row v.row)
theorem z6z:IsCmp krw:=(zdi.list.on fun u:Update=>u.key).lex (zdi.list.on fun u:Update=>u.row)
theorem zde (u v:Update):z4u u v=some (krw u v):=by
 unfold z4u krw
 rw [z9r,z9r]
 simp only [Option.bind_some,zkh]
 rfl
theorem zhx (u v:Update):cU u v=thenC (krw u v) (cmpT u.time v.time):=by
 unfold cU krw thenC
 by_cases h:cmpL cmpV u.key v.key=0 <;> simp [h]
theorem znn {u v:Update} (h:cU u v < 0):krw u v≤0:=by
 rw [zhx] at h
 unfold thenC at h
 split at h <;> omega
theorem cU_lt {u v:Update} (h:krw u v < 0):cU u v < 0:=by
 rw [zhx]
 unfold thenC
 rw [if_neg (by omega)]
 exact h
theorem zj5 {t:Time}:okT t=true↔t.epoch≤4611686018427387904∧t.loop.1≤4611686018427387904∧t.loop.2≤4611686018427387904:=by
 unfold okT
 simp only [Bool.and_eq_true,decide_eq_true_eq]
theorem znm {t s:Time} (h:leT t s=true) (hs:okT s=true):okT t=true:=by
 rw [zfv] at h
 rw [zj5] at *
 omega
theorem zml {t s:Time} (h:okT t=true) (hs:okT s=true):okT (lub2 t s)=true:=by
 rw [zj5] at *
 simp only [lub2,mx_eq]
 omega
theorem zne {t:Time} {f:List Time} (ht:okT t=true) (hf:∀ x ∈ f,okT x=true):okT (adv t f)=true:=by
 unfold adv
 split
 ·exact ht
 ·rename_i h
  cases f with
  | nil=>exact absurd rfl h
  | cons x f =>
   exact zml ht (znm ((zmt h).1 (ze6 _) x (List.mem_cons_self ..)) (hf x (List.mem_cons_self ..)))
theorem zda {f:List Time} {l:List Update} (hf:∀ x ∈ f,okT x=true) (ho:∀ u ∈ l,okU u):∀ u ∈ advL f l,okU u:=fun u hu=>by
 obtain ⟨v,hv,rfl⟩:=List.mem_map.1 hu
 exact ⟨(ho v hv).1,(ho v hv).2.1,zne (ho v hv).2.2 hf⟩
theorem zdv (f:List Time) (a b:List Update):advL f (a++b)=advL f a++advL f b:=List.map_append ..
theorem zgh (a b:List Update):pU (a++b)=pU a++pU b:=zga _ a b
theorem zd1 {f:List Time} {l:List Update} {p:Update × Int} (h:p ∈ pU (advL f l)):∃ u ∈ l,p.1=advU f u:=by
 obtain ⟨x,h1,h2⟩:=z9o.1 h
 obtain ⟨u,h3,h4⟩:=List.mem_map.1 h1
 exact ⟨u,h3,by rw [← h2,← h4]⟩
theorem zj4 {a b:List Update} (h:a.Perm b) (f:List Time):(pU (advL f a)).Perm (pU (advL f b)):=(h.map _).map _
theorem zgb {f:List Time} {l R:List Update} {e:Int} (hf:∀ x ∈ f,okT x=true) (ho:∀ u ∈ l,okU u) (h:AdvOk f l R e):TotU (advL f l) R e:=by
 rcases h with ⟨h1,_⟩ | ⟨_,⟨h1,_⟩ | ⟨_,h2⟩⟩
 ·exact absurd (za9.2 ho) h1
 ·exact absurd (za9.2 (zda hf ho)) h1
 ·exact h2
end Go.Av
namespace Go.Av
open Go
set_option linter.unusedVariables false
set_option linter.unusedSimpArgs false
abbrev PwU (D:List Update):Prop:=D.Pairwise fun a b=>cU a b < 0
theorem PwU.drop {D:List Update} (h:PwU D) (n:Nat):PwU (D.drop n):=h.sublist (List.drop_sublist n D)
theorem z9m {d:Update} {D:List Update} (h:PwU (d :: D)):∀ y ∈ d :: D,krw d y≤0:=fun y hy=>by
 rcases List.mem_cons.1 hy with rfl | hy
 ·rw [z6z.refl]; exact Int.le_refl _
 ·exact znn ((List.pairwise_cons.1 h).1 y hy)
abbrev runN (u:Update) (D:List Update):Nat:=cntP (fun x=>decide (krw x u=0)) D
theorem zd3 {u:Update}:∀ {D:List Update},PwU D→(∀ y ∈ D,krw u y≤0)→(∀ x ∈ D.take (runN u D),krw x u=0)∧∀ y ∈ D.drop (runN u D),krw u y < 0
 | [],_,_=>⟨fun x hx=>(by simp at hx),fun x hx=>(by simp at hx)⟩
 | d :: D,hp,hm=>by
  by_cases h:krw d u=0
  ·obtain ⟨h1,h2⟩:=zd3 (u:=u) (List.pairwise_cons.1 hp).2 fun y hy=>hm y (List.mem_cons_of_mem _ hy)
   have e:runN u (d :: D)=runN u D + 1:=by simp only [runN,cntP,h,decide_true,if_true]
   rw [e,List.take_succ_cons,List.drop_succ_cons]
   refine ⟨fun x hx => ?_,h2⟩
   rcases List.mem_cons.1 hx with rfl | hx
   ·exact h
   ·exact h1 x hx
  ·have e:runN u (d :: D)=0:=by simp only [runN,cntP,decide_eq_false h]; rfl
   rw [e,List.take_zero,List.drop_zero]
   refine ⟨fun x hx=>(by cases hx),fun y hy => ?_⟩
   have h1:krw u d < 0:=by
    have:=hm d (List.mem_cons_self ..)
    have:=z6z.anti d u
    omega
   exact z6z.lt_tr h1 (z9m hp y hy)
theorem zk9 (l:List Update) (u:Update) (hn:l.length≤4000000):z7l l u=some ((runN u l:Nat):Int):=by
 unfold z7l z0u
 rw [zjp (p:=fun x=>decide (krw x u=0)) (fun i s hi=>by
  unfold z8i
  rw [zde]
  simp only [Option.bind_some,z47,z07,decide_eq_true_eq])]
 have:=zan (fun x=>decide (krw x u=0)) l
 simp only [Option.bind_some,z07]
 by_cases h:cntP (fun x=>decide (krw x u=0)) l < l.length
 ·rw [if_pos h,if_neg (by omega)]
 ·rw [if_neg h,if_pos (by omega)]
  congr 1
  show (l.length:Int)=((cntP (fun x=>decide (krw x u=0)) l:Nat):Int)
  omega
theorem zhz {l out:List Update} {i:Nat} (hi:i≤l.length) (hl:l.length≤4000000) (ho:out.length≤8000000) (h1:0 < i→i < l.length→krw (l.getD (i - 1) default) (l.getD i default) ≠ 0) (h2:i < l.length→∀ r ∈ out,krw r (l.getD i default) < 0):z7m l (i:Int) out=some true:=by
 unfold z7m
 simp only [jn_eq,z07]
 rw [if_neg (by omega),if_neg (by omega)]
 by_cases h:(i:Int)=(l.length:Int)
 ·rw [if_pos h]
 ·rw [if_neg h]
  have hlast:(if (out.length:Int)=0 then some true else (need ((0:Int)≤(IntKind.i64.wrap ((out.length:Int) - 1))∧(IntKind.i64.wrap ((out.length:Int) - 1)) < (out.length:Int)) <| need ((0:Int)≤(i:Int)∧(i:Int) < (l.length:Int)) <| (z4u (out.getD ((IntKind.i64.wrap ((out.length:Int) - 1)).toNat) default) (l.getD (i:Int).toNat default)).bind fun r10=>some (decide (r10 < 0))))=some true:=by
   by_cases h0:(out.length:Int)=0
   ·rw [if_pos h0]
   ·rw [if_neg h0,wsub1 (by omega) (by omega),z06 (by omega),z06 (by omega),Int.toNat_natCast,Int.toNat_natCast,zde]
    simp only [Option.bind_some]
    rw [decide_eq_true (h2 (by omega) _ (z42 (by omega)))]
  by_cases g:0 < (i:Int)
  ·rw [if_pos g,wsub1 (by omega) (by omega),z06 (by omega),z06 (by omega),Int.toNat_natCast,Int.toNat_natCast,zde]
   simp only [Option.bind_some]
   rw [if_neg (h1 (by omega) (by omega))]
   rw [Int.toNat_natCast] at hlast
   exact hlast
  ·rw [if_neg g,z0e]
   exact hlast
structure MInv (f:List Time) (A B:List Update) (i j:Nat) (out:List Update):Prop where
 hi:i≤A.length
 hj:j≤B.length
 sep:∀ x ∈ A.take i++B.take j,∀ y ∈ A.drop i++B.drop j,krw x y < 0
 tot:TotU (advL f (A.take i++B.take j)) out 0
 len:out.length≤i + j
structure MCtx (f:List Time) (A B:List Update):Prop where
 hF:NN f
 fr:Fr f
 fl:f.length≤2000000
 eA:EvenP A
 eB:EvenP B
 lA:A.length≤2000000
 lB:B.length≤2000000
 tA:∀ r ∈ A,z1g r.time
 tB:∀ r ∈ B,z1g r.time
 dA:∀ r ∈ A,in64 r.diff
 dB:∀ r ∈ B,in64 r.diff
section
variable {f:List Time} {A B:List Update} {i j:Nat} {out:List Update} {fuel:Nat}
theorem MCtx.ok (c:MCtx f A B):∀ u ∈ A++B,okU u:=fun u hu=>by
 rcases List.mem_append.1 hu with h | h
 ·exact c.eA.ok u h
 ·exact c.eB.ok u h
theorem zhq (i j:Nat):∀ x ∈ A.take i++B.take j,x ∈ A++B:=fun x hx=>by
 rcases List.mem_append.1 hx with h | h
 ·exact List.mem_append_left _ (List.mem_of_mem_take h)
 ·exact List.mem_append_right _ (List.mem_of_mem_take h)
theorem zmd (i j:Nat):∀ x ∈ A.drop i++B.drop j,x ∈ A++B:=fun x hx=>by
 rcases List.mem_append.1 hx with h | h
 ·exact List.mem_append_left _ (List.mem_of_mem_drop h)
 ·exact List.mem_append_right _ (List.mem_of_mem_drop h)
theorem MInv.of (h:MInv f A B i j out):∀ r ∈ out,∃ x ∈ A.take i++B.take j,∀ y,krw r y=krw x y:=fun r hr=>by
 rcases h.tot with ⟨_,g,_⟩ | ⟨g,_⟩
 ·obtain ⟨p,hp,e⟩:=g.mem r hr
  obtain ⟨u,hu,e2⟩:=zd1 hp
  exact ⟨u,hu,fun y=>by rw [e,e2]; rfl⟩
 ·omega
theorem MInv.even (c:MCtx f A B) (h:MInv f A B i j out):EvenP out:=by
 rcases h.tot with ⟨_,g,_⟩ | ⟨g,_⟩
 ·exact ⟨g.strict,fun r hr=>(g.sum r hr).2,zbj h.tot (zda c.fr.1 fun u hu=>c.ok u (zhq i j u hu))⟩
 ·omega
theorem MInv.settled (c:MCtx f A B) (h:MInv f A B i j out):EvenP out∧AdvP f out:=⟨h.even c,zlu.2 (zmm h.tot)⟩
theorem MInv.nn (c:MCtx f A B) (h:MInv f A B i j out):∀ r ∈ out,z1g r.time:=zny h.tot c.hF fun u hu=>by
 rcases List.mem_append.1 (zhq i j u hu) with g | g
 ·exact c.tA u g
 ·exact c.tB u g
theorem MInv.check (c:MCtx f A B) (h:MInv f A B i j out) (hf:20000000≤fuel):z3d fuel (⟨A,B,(i:Int),(j:Int),f,out⟩:Merger)=some 0:=by
 have lA:=c.lA; have lB:=c.lB; have hi:=h.hi; have hj:=h.hj; have hl:=h.len
 unfold z3d
 simp only [jn_eq]
 obtain ⟨b,h1,h2⟩:=zbm (fuel:=fuel) hf c.fl c.hF
 rw [h1,h2.2 c.fr]
 obtain ⟨b,h1,h2⟩:=zfq (fuel:=fuel) (l:=A) hf (by omega)
 rw [h1,h2.2 c.eA]
 simp only [Option.bind_some,z39]
 obtain ⟨b,h1,h2⟩:=zfq (fuel:=fuel) (l:=B) hf (by omega)
 rw [h1,h2.2 c.eB]
 simp only [Option.bind_some,z39]
 obtain ⟨b,h1,h2⟩:=zf0 (fuel:=fuel) hf c.hF c.fl (by omega) (h.nn c)
 rw [h1,h2.2 (h.settled c)]
 simp only [Option.bind_some,Bool.not_true,z0e]
 have sepR:∀ r ∈ out,∀ y ∈ A.drop i++B.drop j,krw r y < 0:=fun r hr y hy=>by
  obtain ⟨x,hx,e⟩:=h.of r hr
  rw [e]
  exact h.sep x hx y hy
 have mA:i < A.length→A.getD i default ∈ A.drop i++B.drop j:=fun g=>List.mem_append_left _ (by rw [z1o g]; exact List.mem_cons_self ..)
 have mB:j < B.length→B.getD j default ∈ A.drop i++B.drop j:=fun g=>List.mem_append_right _ (by rw [z1o g]; exact List.mem_cons_self ..)
 have pA:0 < i→A.getD (i - 1) default ∈ A.take i++B.take j:=fun g=>List.mem_append_left _ (by
  have e:=z2r (l:=A) (i:=i - 1) (by omega)
  rw [show i - 1 + 1=i by omega] at e
  rw [e]; simp)
 have pB:0 < j→B.getD (j - 1) default ∈ A.take i++B.take j:=fun g=>List.mem_append_right _ (by
  have e:=z2r (l:=B) (i:=j - 1) (by omega)
  rw [show j - 1 + 1=j by omega] at e
  rw [e]; simp)
 rw [zhz hi (by omega) (by omega) (fun g1 g2=>by have:=h.sep _ (pA g1) _ (mA g2); omega) (fun g r hr=>sepR r hr _ (mA g))]
 simp only [Option.bind_some,Bool.not_true,z0e]
 rw [zhz hj (by omega) (by omega) (fun g1 g2=>by have:=h.sep _ (pB g1) _ (mB g2); omega) (fun g r hr=>sepR r hr _ (mB g))]
 rfl
theorem zlo (c:MCtx f A B) (h:MInv f A B i j out) (hl:i < A.length∨j < B.length):∃ u,z2d (⟨⟨A,B,(i:Int),(j:Int),f,out⟩⟩:Worker)=some (u,⟨⟨A,B,(i:Int),(j:Int),f,out⟩⟩)∧u ∈ A.drop i++B.drop j∧∀ y ∈ A.drop i++B.drop j,krw u y≤0:=by
 have hj:=h.hj
 have pA:=(show PwU A from c.eA.lt).drop i
 have pB:=(show PwU B from c.eB.lt).drop j
 unfold z2d
 simp only [jn_eq,z07,Int.toNat_natCast]
 have onB:j < B.length→(∀ y ∈ A.drop i,krw (B.getD j default) y≤0)→∃ u,(need ((0:Int)≤(j:Int)∧(j:Int) < (B.length:Int)) <| some ((B.getD j default),(⟨⟨A,B,(i:Int),(j:Int),f,out⟩⟩:Worker)))=some (u,⟨⟨A,B,(i:Int),(j:Int),f,out⟩⟩)∧u ∈ A.drop i++B.drop j∧∀ y ∈ A.drop i++B.drop j,krw u y≤0:=fun g hm=>by
  rw [z06 (by omega)]
  rw [z1o g] at pB ⊢
  refine ⟨_,rfl,List.mem_append_right _ (List.mem_cons_self ..),fun y hy => ?_⟩
  rcases List.mem_append.1 hy with hy | hy
  ·exact hm y hy
  ·exact z9m pB y hy
 have onA:i < A.length→(∀ y ∈ B.drop j,krw (A.getD i default) y≤0)→∃ u,(need ((0:Int)≤(i:Int)∧(i:Int) < (A.length:Int)) <| some ((A.getD i default),(⟨⟨A,B,(i:Int),(j:Int),f,out⟩⟩:Worker)))=some (u,⟨⟨A,B,(i:Int),(j:Int),f,out⟩⟩)∧u ∈ A.drop i++B.drop j∧∀ y ∈ A.drop i++B.drop j,krw u y≤0:=fun g hm=>by
  rw [z06 (by omega)]
  rw [z1o g] at pA ⊢
  refine ⟨_,rfl,List.mem_append_left _ (List.mem_cons_self ..),fun y hy => ?_⟩
  rcases List.mem_append.1 hy with hy | hy
  ·exact z9m pA y hy
  ·exact hm y hy
 by_cases g:(i:Int) < (A.length:Int)
 ·rw [if_pos g]
  by_cases g2:(j:Int)=(B.length:Int)
  ·rw [if_pos g2]
   exact onA (by omega) fun y hy=>by rw [List.drop_eq_nil_of_le (by omega)] at hy; cases hy
  ·rw [if_neg g2,z06 (by omega),z06 (by omega),zde]
   simp only [Option.bind_some,z07]
   have hB:=z1o (show j < B.length by omega)
   have hA:=z1o (show i < A.length by omega)
   by_cases g3:krw (A.getD i default) (B.getD j default) < 0
   ·rw [if_pos g3]
    exact onA (by omega) fun y hy=>by
     rw [hB] at hy pB
     have:=z6z.lt_tr g3 (z9m pB y hy)
     omega
   ·rw [if_neg g3]
    refine onB (by omega) fun y hy => ?_
    rw [hA] at hy pA
    have:=z6z.anti (A.getD i default) (B.getD j default)
    exact z6z.tr _ _ _ (by omega) (z9m pA y hy)
 ·rw [if_neg g,z0e]
  exact onB (by omega) fun y hy=>by rw [List.drop_eq_nil_of_le (by omega)] at hy; cases hy
theorem zj8 (l:List Update) {n:Nat} (h:n≤l.length):Av.sub l (n:Int) (l.length:Int)=l.drop n:=by
 unfold Av.sub
 simp only [Int.toNat_natCast]
 exact List.take_of_length_le (by simp)
theorem sub_zero (l:List Update) (n:Nat):Av.sub l 0 (n:Int)=l.take n:=by
 unfold Av.sub
 simp
theorem zmi (c:MCtx f A B) (h:MInv f A B i j out) (hl:i < A.length∨j < B.length) (hf:20000000≤fuel) :
  (∃ na nb out',z1s fuel (⟨⟨A,B,(i:Int),(j:Int),f,out⟩⟩:Worker)=some (((na + nb:Nat):Int),0,⟨⟨A,B,((i + na:Nat):Int),((j + nb:Nat):Int),f,out'⟩⟩)∧MInv f A B (i + na) (j + nb) out' ∧ 0 < na + nb) ∨
  (∃ w,z1s fuel (⟨⟨A,B,(i:Int),(j:Int),f,out⟩⟩:Worker)=some (0,10,w)∧¬ Fits cU (pU (advL f (A++B)))):=by
 have lA:=c.lA; have lB:=c.lB; have hi:=h.hi; have hj:=h.hj; have hlen:=h.len
 obtain ⟨u,h1,h2,h3⟩:=zlo c h hl
 unfold z1s
 rw [h1]
 simp only [Option.bind_some]
 rw [z06 (by omega),z06 (by omega),zj8 A hi,zj8 B hj,zk9 _ _ (by simp; omega)]
 have nA:runN u (A.drop i)≤(A.drop i).length:=zan _ _
 have nB:runN u (B.drop j)≤(B.drop j).length:=zan _ _
 simp only [Option.bind_some]
 rw [z06 (by omega),zk9 _ _ (by simp; omega)]
 simp only [Option.bind_some]
 rw [z06 (by omega),sub_zero,sub_zero]
 have sA:=zd3 (u:=u) ((show PwU A from c.eA.lt).drop i) fun y hy=>h3 y (List.mem_append_left _ hy)
 have sB:=zd3 (u:=u) ((show PwU B from c.eB.lt).drop j) fun y hy=>h3 y (List.mem_append_right _ hy)
 have hpos:0 < runN u (A.drop i) + runN u (B.drop j):=by
  rcases List.mem_append.1 h2 with g | g
  ·rcases Nat.eq_zero_or_pos (runN u (A.drop i)) with e | e
   ·rw [e,List.drop_zero] at sA
    have:=sA.2 u g
    rw [z6z.refl] at this; omega
   ·omega
  ·rcases Nat.eq_zero_or_pos (runN u (B.drop j)) with e | e
   ·rw [e,List.drop_zero] at sB
    have:=sB.2 u g
    rw [z6z.refl] at this; omega
   ·omega
 generalize hna:runN u (A.drop i)=na at *
 generalize hnb:runN u (B.drop j)=nb at *
 have eAt:A.take (i + na)=A.take i++(A.drop i).take na:=List.take_add
 have eBt:B.take (j + nb)=B.take j++(B.drop j).take nb:=List.take_add
 have eAd:A.drop (i + na)=(A.drop i).drop na:=by rw [List.drop_drop]
 have eBd:B.drop (j + nb)=(B.drop j).drop nb:=by rw [List.drop_drop]
 have lx:((A.drop i).take na).length=na:=by simp only [List.length_take,List.length_drop] at *; omega
 have ly:((B.drop j).take nb).length=nb:=by simp only [List.length_take,List.length_drop] at *; omega
 simp only [List.length_drop] at nA nB
 generalize hx:(A.drop i).take na=x at *
 generalize hy:(B.drop j).take nb=y at *
 have hxy:∀ z ∈ x++y,krw z u=0∧z ∈ A.drop i++B.drop j:=fun z hz=>by
  rcases List.mem_append.1 hz with g | g
  ·exact ⟨sA.1 z g,List.mem_append_left _ (by rw [← hx] at g; exact List.mem_of_mem_take g)⟩
  ·exact ⟨sB.1 z g,List.mem_append_right _ (by rw [← hy] at g; exact List.mem_of_mem_take g)⟩
 have hrest:∀ z ∈ A.drop (i + na)++B.drop (j + nb),krw u z < 0∧z ∈ A.drop i++B.drop j:=fun z hz=>by
  rw [eAd,eBd] at hz
  rcases List.mem_append.1 hz with g | g
  ·exact ⟨sA.2 z g,List.mem_append_left _ (List.mem_of_mem_drop g)⟩
  ·exact ⟨sB.2 z g,List.mem_append_right _ (List.mem_of_mem_drop g)⟩
 have hfl:([x,y]:List (List Update)).flatten=x++y:=by simp
 have hmem:∀ z ∈ x++y,z ∈ A++B:=fun z hz=>zmd i j z (hxy z hz).2
 obtain ⟨R,e,g1,g2,g3⟩:=zdr (fuel:=fuel) (f:=f) (ls:=[x,y]) hf c.hF c.fl (by rw [hfl,List.length_append]; omega)
  (fun z hz=>by rw [hfl] at hz; rcases List.mem_append.1 (hmem z hz) with g | g; exact c.dA z g; exact c.dB z g)
  (fun z hz=>by rw [hfl] at hz; rcases List.mem_append.1 (hmem z hz) with g | g; exact c.tA z g; exact c.tB z g)
 rw [hfl] at g2 g3
 have hT:=zgb c.fr.1 (fun z hz=>c.ok z (hmem z hz)) g2
 rw [g1]
 simp only [Option.bind_some,z47,z07,lx,ly]
 by_cases he:e=0
 ·subst he
  left
  rw [List.length_append,lx,ly] at g3
  rw [if_pos rfl,z06 (by omega),wadd (by omega),wadd (by omega),wadd (by omega)]
  refine ⟨na,nb,out++R,rfl,⟨by omega,by omega,fun z hz w hw => ?_,?_,by rw [List.length_append]; omega⟩,hpos⟩
  ·have hw':=hrest w hw
   rw [eAt,eBt] at hz
   have hz' : z ∈ A.take i++B.take j∨z ∈ x++y:=by
    simp only [List.mem_append] at hz ⊢
    rcases hz with (g | g) | (g | g)
    ·exact .inl (.inl g)
    ·exact .inr (.inl g)
    ·exact .inl (.inr g)
    ·exact .inr (.inr g)
   rcases hz' with g | g
   ·exact h.sep z g w hw'.2
   ·rw [z6z.eqL w (hxy z g).1]; exact hw'.1
  ·have hap:=zn9 (put:=z3e) cU_is (fun x n y=>rfl) h.tot hT fun p hp q hq=>by
    obtain ⟨a,ha,e1⟩:=zd1 hp
    obtain ⟨b,hb,e2⟩:=zd1 hq
    rw [e1,e2]
    exact cU_lt (h.sep a ha b (hxy b hb).2)
   rw [← zgh,← zdv] at hap
   refine zh9 (zj4 ?_ f) hap
   rw [eAt,eBt]
   haveI:DecidableEq Update:=fun a b=>Classical.propDecidable (a=b)
   rw [List.perm_iff_count]
   intro a
   simp only [List.count_append]
   omega
 ·right
  rw [if_neg he]
  rcases hT with ⟨g,_⟩ | ⟨rfl,_,g⟩
  ·exact absurd g he
  ·refine ⟨_,rfl,?_⟩
   have hpart:=zjz cU_is g (l2:=pU (advL f ((A.take i++B.take j)++(A.drop (i + na)++B.drop (j + nb))))) fun p hp q hq=>by
    obtain ⟨a,ha,e1⟩:=zd1 hp
    obtain ⟨b,hb,e2⟩:=zd1 hq
    have ka:=hxy a ha
    have kb:krw a b ≠ 0:=by
     rcases List.mem_append.1 hb with k | k
     ·have:=h.sep b k a ka.2
      have:=z6z.anti b a
      omega
     ·rw [z6z.eqL b ka.1]
      have:=(hrest b k).1
      omega
    rw [e1,e2,zhx]
    unfold thenC
    rw [if_neg (show krw (advU f a) (advU f b) ≠ 0 from kb)]
    exact kb
   rw [← zgh,← zdv] at hpart
   refine fun hfit=>hpart ((zkd (zj4 ?_ f)).1 hfit)
   haveI:DecidableEq Update:=fun a b=>Classical.propDecidable (a=b)
   rw [List.perm_iff_count]
   intro a
   have eA:A=A.take i++(x++A.drop (i + na)):=by rw [eAd,← hx,List.take_append_drop,List.take_append_drop]
   have eB:B=B.take j++(y++B.drop (j + nb)):=by rw [eBd,← hy,List.take_append_drop,List.take_append_drop]
   have cA:=congrArg (List.count a) eA
   have cB:=congrArg (List.count a) eB
   simp only [List.count_append] at cA cB ⊢
   omega
end
end Go.Av
namespace Go.Av
open Go
set_option linter.unusedVariables false
set_option linter.unusedSimpArgs false
section
variable {f:List Time} {A B:List Update} {i j:Nat} {out:List Update} {fuel:Nat}
theorem zfp (c:MCtx f A B) (h:MInv f A B i j out):z5s (⟨A,B,(i:Int),(j:Int),f,out⟩:Merger)=some ⟨A,B,(i:Int),(j:Int),f,out⟩:=by
 have lA:=c.lA; have lB:=c.lB; have hi:=h.hi; have hj:=h.hj; have hlen:=h.len; have hfl:=c.fl
 unfold z5s
 rw [zf7 c.eA.ok (by omega),zf7 c.eB.ok (by omega),zf7 (h.even c).ok (by omega)]
 unfold z09
 dsimp only
 rw [z06 (by omega)]
 rfl
def zmh (f:List Time) (A B:List Update) (i j:Nat) (p1:Int) (c0:Nat) (o:Option (Out (Int × Worker) (Merger × Int × Int))):Prop :=
 (∃ (i' j' : Nat) (out' : List Update),o=some (.done (((c0 + (i' + j' - (i + j)):Nat):Int),⟨⟨A,B,(i' : Int),(j' : Int),f,out'⟩⟩))∧MInv f A B i' j' out' ∧ i≤i' ∧ j≤j' ∧
  (((c0:Int) < p1∧(i < A.length∨j < B.length))↔i + j < i' + j')∧(p1≤((c0 + (i' + j' - (i + j)):Nat):Int)∨(i' = A.length∧j' = B.length))) ∨
 (∃ m n,o=some (.ret (m,n,10))∧¬ Fits cU (pU (advL f (A++B))))
theorem zjx (c:MCtx f A B) (hf:20000000≤fuel) (p1:Int) {Bd:Int × Worker→Option (Ctl (Int × Worker) (Merger × Int × Int))}
  (hB:∀ (c0:Nat) (i j:Nat) (out:List Update),MInv f A B i j out→Bd ((c0:Int),⟨⟨A,B,(i:Int),(j:Int),f,out⟩⟩)=if (c0:Int) < p1∧(i < A.length∨j < B.length) then
   ((z1s fuel (⟨⟨A,B,(i:Int),(j:Int),f,out⟩⟩:Worker)).bind fun r7=>if r7.2.1=0 then some (.next ((IntKind.i64.wrap ((c0:Int) + r7.1)),r7.2.2)) else some (.ret (r7.2.2.merger,(c0:Int),r7.2.1))) else some (.brk ((c0:Int),⟨⟨A,B,(i:Int),(j:Int),f,out⟩⟩))) :
  ∀ (k fuelN c0 i j:Nat) (out:List Update),A.length + B.length - (i + j)≤k→k < fuelN→c0 + (A.length + B.length - (i + j))≤100000000→MInv f A B i j out→zmh f A B i j p1 c0 (loopN Bd fuelN ((c0:Int),⟨⟨A,B,(i:Int),(j:Int),f,out⟩⟩)):=by
 intro k
 induction k with
 | zero =>
  intro fuelN c0 i j out hk hfu hc h
  have hi:=h.hi; have hj:=h.hj
  cases fuelN with
  | zero=>omega
  | succ fuelN =>
   have e:=hB c0 i j out h
   rw [if_neg (by omega)] at e
   rw [z0x e]
   left
   refine ⟨i,j,out,by rw [Nat.sub_self,Nat.add_zero],h,Nat.le_refl _,Nat.le_refl _,?_,.inr ⟨by omega,by omega⟩⟩
   omega
 | succ k ih =>
  intro fuelN c0 i j out hk hfu hc h
  have hi:=h.hi; have hj:=h.hj
  cases fuelN with
  | zero=>omega
  | succ fuelN =>
   have e:=hB c0 i j out h
   by_cases hl:(c0:Int) < p1∧(i < A.length∨j < B.length)
   ·rw [if_pos hl] at e
    rcases zmi c h hl.2 hf with ⟨na,nb,out',g1,g2,g3⟩ | ⟨w,g1,g2⟩
    ·rw [g1] at e
     simp only [Option.bind_some,if_true] at e
     have hi2:=g2.hi; have hj2:=g2.hj
     have lA:=c.lA; have lB:=c.lB
     rw [wadd (by omega)] at e
     rw [z1c e]
     have hr:=ih fuelN (c0 + (na + nb)) (i + na) (j + nb) out' (by omega) (by omega) (by omega) g2
     rcases hr with ⟨i',j',o2,e1,e2,e3,e4,e5,e6⟩ | hr
     ·left
      refine ⟨i',j',o2,?_,e2,by omega,by omega,?_,?_⟩
      ·rw [e1]
       congr 4
       omega
      ·constructor
       ·intro _; omega
       ·intro _; exact hl
      ·rcases e6 with e6 | e6
       ·left
        rw [show c0 + (i' + j' - (i + j))=c0 + (na + nb) + (i' + j' - (i + na + (j + nb))) by omega]
        exact e6
       ·exact .inr e6
     ·exact .inr hr
    ·rw [g1] at e
     simp only [Option.bind_some] at e
     rw [if_neg (by decide)] at e
     rw [z6q e]
     exact .inr ⟨_,_,rfl,g2⟩
   ·rw [if_neg hl] at e
    rw [z0x e]
    left
    refine ⟨i,j,out,by rw [Nat.sub_self,Nat.add_zero],h,Nat.le_refl _,Nat.le_refl _,?_,?_⟩
    ·constructor
     ·intro g; exact absurd g hl
     ·intro g; omega
    ·rw [Nat.sub_self,Nat.add_zero]
     by_cases g:(c0:Int) < p1
     ·right
      have:¬ (i < A.length∨j < B.length):=fun x=>hl ⟨g,x⟩
      omega
     ·left; omega
theorem zmr (c:MCtx f A B) (h:MInv f A B i j out) (hf:20000000≤fuel) (p1:Int) :
  (∃ (i' j' : Nat) (out' : List Update),z5p fuel (⟨A,B,(i:Int),(j:Int),f,out⟩:Merger) p1=some (⟨A,B,(i' : Int),(j' : Int),f,out'⟩,((i' + j' - (i + j):Nat):Int),0)∧MInv f A B i' j' out' ∧ i≤i' ∧ j≤j' ∧
   ((0 < p1∧(i < A.length∨j < B.length))↔i + j < i' + j')∧(p1≤((i' + j' - (i + j):Nat):Int)∨(i' = A.length∧j' = B.length))) ∨
  (∃ m n,z5p fuel (⟨A,B,(i:Int),(j:Int),f,out⟩:Merger) p1=some (m,n,10)∧¬ Fits cU (pU (advL f (A++B)))):=by
 have lA:=c.lA; have lB:=c.lB
 unfold z5p
 rw [h.check c hf]
 simp only [Option.bind_some,decide_true,Bool.not_true,z0e]
 rw [zfp c h]
 simp only [Option.bind_some]
 have hr:=fun Bd hB=>zjx (f:=f) (A:=A) (B:=B) c hf p1 (Bd:=Bd) hB (A.length + B.length) fuel 0 i j out (by omega) (by omega) (by omega) h
 rw [show ((0:Nat):Int)=(0:Int) from rfl] at hr
 rcases hr (fun (a3:Int × Worker)=>jn (fun (a5:Bool × Worker)=>bf a5.1 ((z1s fuel a5.2).bind fun r7=>bf (!decide (r7.2.1=0)) (some (.ret (r7.2.2.merger,a3.1,r7.2.1))) (some (.next ((IntKind.i64.wrap (a3.1 + r7.1)),r7.2.2)))) (some (.brk (a3.1,a5.2)))) fun j6=>bf (decide (a3.1 < p1)) ((z2e a3.2).bind fun r8=>j6 (r8.1,r8.2)) (j6 (false,a3.2))) (fun c0 i j out h=>by
  unfold z2e
  simp only [jn_eq,z07,z47,Int.ofNat_lt]
  by_cases g:(c0:Int) < p1
  ·rw [if_pos g]
   by_cases g1:i < A.length
   ·rw [if_pos g1]
    simp only [Option.bind_some,z39]
    rw [if_pos ⟨g,.inl g1⟩]
   ·rw [if_neg g1]
    by_cases g2:j < B.length
    ·rw [decide_eq_true g2,if_pos ⟨g,.inr g2⟩]
     simp only [Option.bind_some,z39]
    ·rw [decide_eq_false g2,if_neg (fun x=>by rcases x.2 with y | y; exact g1 y; exact g2 y)]
     simp only [Option.bind_some,z0e]
  ·rw [if_neg g,if_neg (fun x=>g x.1),z0e]) with ⟨i',j',o2,e1,e2,e3,e4,e5,e6⟩ | ⟨m,n,e1,e2⟩
 ·left
  rw [e1]
  rw [Nat.zero_add] at e6
  exact ⟨i',j',o2,by rw [Nat.zero_add]; rfl,e2,e3,e4,e5,e6⟩
 ·right
  rw [e1]
  exact ⟨m,n,rfl,e2⟩
theorem znr (c:MCtx f A B) (h:MInv f A B A.length B.length out) (hf:20000000≤fuel):z71 fuel (⟨A,B,(A.length:Int),(B.length:Int),f,out⟩:Merger)=some (⟨f,out⟩,0):=by
 unfold z71 z3f
 rw [h.check c hf]
 simp only [Option.bind_some,decide_true,Bool.not_true,z0e,jn_eq,z07]
 rw [if_neg (by omega),decide_eq_false (by omega)]
 simp only [Option.bind_some,z0e]
 rw [zfp c h]
 rfl
theorem zfz:MInv f A B 0 0 [] where
 hi:=Nat.zero_le _
 hj:=Nat.zero_le _
 sep:=fun x hx=>by simp at hx
 tot:=by
  rw [List.take_zero,List.take_zero]
  exact .inl ⟨rfl,⟨List.Pairwise.nil,fun r hr=>(by cases hr),fun r hr=>(by cases hr),fun y hy=>(by cases hy)⟩,fun y=>(by show in64 0; unfold in64; omega)⟩
 len:=Nat.le_refl _
theorem zg0 (c:MCtx f A B) {W:Batch} {e:Int} (hb:zd8 f (A++B) W e):(¬ Fits cU (pU (advL f (A++B)))→e=10)∧(MInv f A B A.length B.length out→e=0∧W=⟨f,out⟩):=by
 rcases hb with ⟨h,_⟩ | ⟨_,R,e',h2,_,h3⟩
 ·exact absurd c.fr h
 ·have hT:=zgb c.fr.1 c.ok h2
  constructor
  ·intro hf
   rcases hT with ⟨_,_,g⟩ | ⟨rfl,_,_⟩
   ·exact absurd g hf
   ·rcases h3 with ⟨_,h,_⟩ | ⟨h,_⟩
    ·exact h
    ·omega
  ·intro h
   have ht:=h.tot
   rw [List.take_length,List.take_length] at ht
   obtain ⟨rfl,rfl⟩:=zi7 hT ht (zda c.fr.1 c.ok) (zda c.fr.1 c.ok) fun _=>rfl
   rcases h3 with ⟨h,_⟩ | ⟨_,h,h'⟩
   ·exact absurd rfl h
   ·exact ⟨h,h'⟩
end
end Go.Av
namespace Go.Av
open Go
set_option linter.unusedVariables false
set_option linter.unusedSimpArgs false
section
variable {f:List Time} {A B:List Update} {fuel:Nat}
theorem ziy {a b i j:Nat} (hi:i≤a) (hj:j≤b) (h:a + b < 4611686018427387904):IntKind.i64.wrap ((IntKind.i64.wrap ((IntKind.i64.wrap ((a:Int) - (i:Int))) + (b:Int))) - (j:Int))=((a + b - (i + j):Nat):Int):=by
 rw [wsub hi (by omega),wadd (by omega),wsub (by omega) (by omega),show a - i + b - j=a + b - (i + j) by omega]
theorem jn_if {X Y:Type} (F:X→Option Y) (p:Prop) [Decidable p] (x y:X):jn F (fun j=>bf (decide p) (j x) (j y))=F (if p then x else y):=by
 by_cases h:p
 ·rw [if_pos h,decide_eq_true h]; rfl
 ·rw [if_neg h,decide_eq_false h]; rfl
theorem zlf {s:List Time} {a b:Batch} (hf:20000000≤fuel) (hF:NN s) (hl:s.length≤2000000)
  (haF:NN a.since) (hal:a.since.length≤2000000) (han:a.updates.length≤2000000) (hat:∀ r ∈ a.updates,z1g r.time) (had:∀ r ∈ a.updates,in64 r.diff)
  (hbF:NN b.since) (hbl:b.since.length≤2000000) (hbn:b.updates.length≤2000000) (hbt:∀ r ∈ b.updates,z1g r.time) (hbd:∀ r ∈ b.updates,in64 r.diff) :
  (∃ e,z61 fuel s a b=some ((⟨([]:List Update),([]:List Update),0,0,([]:List Time),([]:List Update)⟩:Merger),e)∧e ≠ 0)∨(z61 fuel s a b=some (⟨a.updates,b.updates,0,0,s,[]⟩,0)∧MCtx s a.updates b.updates):=by
 unfold z61
 simp only [jn_eq]
 rcases ze3 (fuel:=fuel) hf haF hal (by omega) hat with ⟨hc,_,hEA,_⟩ | ⟨hc,_⟩
 case inr=>rw [hc]; exact .inl ⟨4,rfl,by decide⟩
 rw [hc]
 simp only [Option.bind_some,decide_true,Bool.not_true,z0e]
 rcases ze3 (fuel:=fuel) hf hbF hbl (by omega) hbt with ⟨hc,_,hEB,_⟩ | ⟨hc,_⟩
 case inr=>rw [hc]; exact .inl ⟨4,rfl,by decide⟩
 rw [hc]
 simp only [Option.bind_some,decide_true,Bool.not_true,z0e]
 obtain ⟨x,h1,h2⟩:=zbm (fuel:=fuel) hf hl hF
 rw [h1]
 cases x with
 | false=>exact .inl ⟨4,rfl,by decide⟩
 | true =>
  have hFr:=h2.1 rfl
  simp only [Option.bind_some,Bool.not_true,z0e]
  rw [zh2 hF haF,zh2 hF hbF]
  cases zew s a.since with
  | false=>exact .inl ⟨1,rfl,by decide⟩
  | true =>
   simp only [Option.bind_some,Bool.not_true,z0e]
   cases zew s b.since with
   | false=>exact .inl ⟨1,rfl,by decide⟩
   | true =>
    simp only [Option.bind_some,Bool.not_true,z0e]
    have c:MCtx s a.updates b.updates:=⟨hF,hFr,hl,hEA,hEB,han,hbn,hat,hbt,had,hbd⟩
    have ho:=zfp c zfz
    rw [show ((0:Nat):Int)=(0:Int) from rfl] at ho
    rw [ho]
    exact .inr ⟨rfl,c⟩
theorem zfe {s:List Time} {a b:Batch} {fs:List Int} (hL:z48 fuel=some true) (hf:20000000≤fuel) (hF:NN s) (hl:s.length≤2000000)
  (haF:NN a.since) (hal:a.since.length≤2000000) (han:a.updates.length≤2000000) (hat:∀ r ∈ a.updates,z1g r.time) (had:∀ r ∈ a.updates,in64 r.diff)
  (hbF:NN b.since) (hbl:b.since.length≤2000000) (hbn:b.updates.length≤2000000) (hbt:∀ r ∈ b.updates,z1g r.time) (hbd:∀ r ∈ b.updates,in64 r.diff) (hfs:fs.length≤2000000) :
  z3b fuel s a b fs=some true:=by
 unfold z3b
 rw [hL]
 simp only [Option.bind_some,Bool.not_true,z0e]
 rcases zlf (fuel:=fuel) hf hF hl haF hal han hat had hbF hbl hbn hbt hbd with ⟨e,h1,h2⟩ | ⟨h1,c⟩
 ·rw [h1]
  simp only [Option.bind_some,decide_eq_false h2,Bool.not_false,z39]
  rfl
 ·rw [h1]
  simp only [Option.bind_some,decide_true,Bool.not_true,z0e]
  have hFr:=c.fr
  generalize a.updates=A at *
  generalize b.updates=B at *
  have hfl:([A,B]:List (List Update)).flatten=A++B:=by simp
  obtain ⟨W,w1,b1,b2⟩:=zlt (fuel:=fuel) (f:=s) (ls:=[A,B]) hf hF hl (by rw [hfl,List.length_append]; omega)
   (fun u hu=>by rw [hfl] at hu; rcases List.mem_append.1 hu with h | h; exact had u h; exact hbd u h)
   (fun u hu=>by rw [hfl] at hu; rcases List.mem_append.1 hu with h | h; exact hat u h; exact hbt u h)
  rw [hfl] at b2
  have bad:¬ Fits cU (pU (advL s (A++B)))→w1=10:=(zg0 (out:=[]) c b2).1
  rw [b1]
  simp only [Option.bind_some]
  rw [z06 (by omega),z06 (by simp; omega)]
  have hlen:(fs++[4611686018427387904]).length=fs.length + 1:=by simp
  let Good:Merger→Prop:=fun m=>∃ out,m=⟨A,B,(A.length:Int),(B.length:Int),s,out⟩∧MInv s A B A.length B.length out
  refine z88 (G:=fun q=>q=some true) (fun k m=>∃ (i j:Nat) (out:List Update),m=⟨A,B,(i:Int),(j:Int),s,out⟩∧MInv s A B i j out∧(k=(fs++[4611686018427387904]).length→i=A.length∧j=B.length)) Good (fun r=>r=true) ⟨0,0,[],rfl,zfz,fun h=>by omega⟩ ?_ ?_ ?_ ?_
  ·rintro m ⟨i,j,out,rfl,h3,h4⟩
   obtain ⟨rfl,rfl⟩:=h4 rfl
   exact ⟨out,rfl,h3⟩
  ·rintro m ⟨out,rfl,h3⟩
   obtain ⟨e1,e2⟩:=(zg0 c b2).2 h3
   rw [znr c h3 hf]
   simp only [Option.bind_some]
   rw [e1,e2]
   simp only [decide_true,z39,zfn,Option.bind_some]
   rcases ze3 (fuel:=fuel) (b:=⟨s,out⟩) hf hF hl (by have:=h3.len; simp only; omega) (h3.nn c) with ⟨hc,_⟩ | ⟨_,hn⟩
   ·rw [hc]; rfl
   ·exact absurd ⟨hFr,h3.settled c⟩ hn
  ·rintro r rfl; rfl
  ·rintro k m hk ⟨i,j,out,rfl,h3,_⟩
   have lA:=c.lA; have lB:=c.lB; have hi:=h3.hi; have hj:=h3.hj
   rw [z06 (by omega),jn_if]
   have hlast:((k:Int)=40∨k + 1=(fs++[4611686018427387904]).length)→(if (k:Int)=40 then (4611686018427387904:Int) else (fs++[4611686018427387904]).getD (0 + k) default)=4611686018427387904:=fun h=>by
    by_cases g:(k:Int)=40
    ·rw [if_pos g]
    ·rw [if_neg g]
     have:k=fs.length:=by omega
     rw [this,Nat.zero_add]
     exact zd2 fs _
   generalize (if (k:Int)=40 then (4611686018427387904:Int) else (fs++[4611686018427387904]).getD (0 + k) default)=a15 at hlast ⊢
   rcases zmr c h3 hf a15 with ⟨i',j',o2,g1,g2,g3,g4,g5,g6⟩ | ⟨m,n,g1,g2⟩
   ·rw [g1]
    have hi':=g2.hi; have hj':=g2.hj
    simp only [Option.bind_some,decide_true,Bool.not_true,z0e,jn_eq]
    rw [g2.check c hf]
    simp only [Option.bind_some,decide_true,Bool.not_true,z0e]
    rw [ziy hi hj (by omega),ziy hi' hj' (by omega),wsub (by omega) (by omega),decide_eq_true (show ((A.length + B.length - (i' + j'):Nat):Int)=((A.length + B.length - (i + j) - (i' + j' - (i + j)):Nat):Int) by omega)]
    have hend:(∃ s',(bf (decide ((k:Int)=40)) (some (.brk (⟨A,B,(i' : Int),(j' : Int),s,o2⟩:Merger))) (some (.next ⟨A,B,(i' : Int),(j' : Int),s,o2⟩)):Option (Ctl Merger Bool))=some (.next s')∧∃ (i j:Nat) (out:List Update),s' = ⟨A,B,(i:Int),(j:Int),s,out⟩∧MInv s A B i j out∧(k + 1=(fs++[4611686018427387904]).length→i=A.length∧j=B.length)) ∨
      (∃ s',(bf (decide ((k:Int)=40)) (some (.brk (⟨A,B,(i' : Int),(j' : Int),s,o2⟩:Merger))) (some (.next ⟨A,B,(i' : Int),(j' : Int),s,o2⟩)):Option (Ctl Merger Bool))=some (.brk s')∧Good s') ∨
      (∃ r,(bf (decide ((k:Int)=40)) (some (.brk (⟨A,B,(i' : Int),(j' : Int),s,o2⟩:Merger))) (some (.next ⟨A,B,(i' : Int),(j' : Int),s,o2⟩)):Option (Ctl Merger Bool))=some (.ret r)∧r=true):=by
     have hdone:((k:Int)=40∨k + 1=(fs++[4611686018427387904]).length)→i' = A.length∧j' = B.length:=fun h=>by
      have:=hlast h
      rcases g6 with g | g
      ·omega
      ·exact g
     by_cases g:(k:Int)=40
     ·rw [decide_eq_true g,z39]
      obtain ⟨rfl,rfl⟩:=hdone (.inl g)
      exact .inr (.inl ⟨_,rfl,o2,rfl,g2⟩)
     ·rw [decide_eq_false g,z0e]
      exact .inl ⟨_,rfl,i',j',o2,rfl,g2,fun h=>hdone (.inr h)⟩
    by_cases g0:0 < a15
    ·rw [decide_eq_true g0,z39]
     have e:(decide ((0:Int) < ((i' + j' - (i + j):Nat):Int)) == decide ((0:Int) < ((A.length + B.length - (i + j):Nat):Int)))=true:=by
      rw [beq_iff_eq,Bool.eq_iff_iff,decide_eq_true_eq,decide_eq_true_eq]
      omega
     rw [e]
     simp only [Bool.not_true,z0e]
     exact hend
    ·rw [decide_eq_false g0,z0e]
     have e:(decide ((0:Int) < ((i' + j' - (i + j):Nat):Int)) == false)=true:=by
      rw [beq_iff_eq,decide_eq_false_iff_not]
      omega
     rw [e]
     simp only [Bool.not_true,z0e]
     exact hend
   ·rw [g1]
    simp only [Option.bind_some,show decide ((10:Int)=0)=false from rfl,Bool.not_false,z39]
    exact .inr (.inr ⟨_,rfl,decide_eq_true (bad g2).symm⟩)
end
end Go.Av
namespace Go.Av
open Go
set_option linter.unusedVariables false
theorem zfm {s:List Time} {a b:Batch} {fs:List Int} (h1:okTs s) (h2:zfy a) (h3:zfy b)
  (hb:((s.map z5z).sum + 1) + (z8o a + (z8o b + (((fs.map fun _=>1).sum + 1) + 0)))≤1048576):z3b 100000000 s a b fs=some true:=by
 have:=@zf9 a
 have:=zl0 a.updates
 have:=zhk a.since
 have:=@zf9 b
 have:=zl0 b.updates
 have:=zhk b.since
 have:=zhk s
 have:fs.length≤(fs.map fun _=>1).sum:=z6f (f:=fun _=>1) (fun _=>Nat.le_refl _) fs
 exact zfe zm1 (by omega) (ts_nn h1) (by omega) (ts_nn h2.1) (by omega) (by omega) (us_nn h2.2.1) (us_in h2.2.1) (ts_nn h3.1) (by omega) (by omega) (us_nn h3.2.1) (us_in h3.2.1) (by omega)
end Go.Av
