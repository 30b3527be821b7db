import Derived.Test.YtgpkbkdmpdmmiaaGreatL3x5
import Derived.Sort.AssemblyPlain
import Derived.Sort.LotD5
import Derived.KernelRfl
set_option maxRecDepth 100000
namespace Go.Av
open Go
set_option linter.unusedVariables false
set_option linter.unusedSimpArgs false
section
variable {α:Type} [Inhabited α]
theorem zj3 (d:Array α) {i j:Nat} (hi:i < d.size) (hj:j < d.size) (k:Nat):(Sort.swp d i j)[k]! = if k=j then d[i]! else if k=i then d[j]! else d[k]!:=Sort.swp_get d hi hj k
def swpN (p q:Nat):Nat→Array α → Array α
 | 0,d=>d
 | k + 1,d=>Sort.swp (swpN p q k d) (p + k) (q + k)
theorem z6e (p q:Nat):∀ (n:Nat) (d:Array α),(swpN p q n d).size=d.size
 | 0,d=>rfl
 | k + 1,d=>by unfold swpN; rw [z10,z6e p q k]
def srF (p q n:Nat) (d:Array α) (x:Nat) : α:=if p≤x∧x < p + n then d[x - p + q]! else if q≤x∧x < q + n then d[x - q + p]! else d[x]!
theorem zdq {p q:Nat} {d:Array α}:∀ {n:Nat},(p + n≤q∨q + n≤p)→p + n≤d.size→q + n≤d.size→∀ x,(swpN p q n d)[x]! = srF p q n d x
 | 0,_,_,_,x=>by
  unfold swpN srF
  rw [if_neg (by omega),if_neg (by omega)]
 | k + 1,h,hp,hq,x=>by
  have ih:=zdq (p:=p) (q:=q) (d:=d) (n:=k) (by omega) (by omega) (by omega)
  unfold swpN
  rw [zj3 _ (by rw [z6e]; omega) (by rw [z6e]; omega),ih,ih,ih]
  unfold srF
  by_cases h1:x=q + k
  ·subst h1
   rw [if_pos rfl,if_neg (by omega),if_neg (by omega),if_neg (by omega),if_pos (by omega)]
   congr 1; omega
  ·rw [if_neg h1]
   by_cases h2:x=p + k
   ·subst h2
    rw [if_pos rfl,if_neg (by omega),if_neg (by omega),if_pos (by omega)]
    congr 1; omega
   ·rw [if_neg h2]
    by_cases h3:p≤x∧x < p + k
    ·rw [if_pos h3,if_pos (by omega)]
    ·rw [if_neg h3,if_neg (show ¬ (p≤x∧x < p + (k + 1)) by omega)]
     by_cases h4:q≤x∧x < q + k
     ·rw [if_pos h4,if_pos (by omega)]
     ·rw [if_neg h4,if_neg (by omega)]
theorem zc4 {p q a b:Nat} {d:Array α} (hb:b≤d.size):∀ {n:Nat},a≤p→a≤q→p + n≤b→q + n≤b→Sort.PermIn a b d (swpN p q n d)
 | 0,_,_,_,_=>Sort.permIn_refl d a b
 | k + 1,h1,h2,h3,h4=>by
  unfold swpN
  exact Sort.permIn_trans _ _ _ a b (zc4 hb h1 h2 (by omega) (by omega)) (Sort.swp_permIn _ a b _ _ (by omega) (by omega) (by omega) (by omega) (by rw [z6e]; exact hb))
theorem zmw {R:Type} {B:Int × List α → Option (Ctl (Int × List α) R)} {p q n fuel:Nat} {d:Array α} (hf:n < fuel)
  (hB:∀ (i:Nat) (d' : Array α),d'.size=d.size→i≤n→B ((i:Int),d'.toList)=if i < n then some (.next (((i + 1:Nat):Int),(Sort.swp d' (p + i) (q + i)).toList)) else some (.brk ((i:Int),d'.toList))) :
  ∃ x:Int,loopN B fuel ((0:Int),d.toList)=some (.done (x,(swpN p q n d).toList)):=by
 have key:∀ k i fuel,i + k=n→k < fuel→∃ x:Int,loopN B fuel ((i:Int),(swpN p q i d).toList)=some (.done (x,(swpN p q n d).toList)):=by
  intro k
  induction k with
  | zero =>
   intro i fuel hi hf
   cases fuel with
   | zero=>omega
   | succ fuel =>
    have h:=hB i (swpN p q i d) (z6e ..) (by omega)
    rw [if_neg (by omega)] at h
    rw [z0w h,show i=n by omega]
    exact ⟨_,rfl⟩
  | succ k ih =>
   intro i fuel hi hf
   cases fuel with
   | zero=>omega
   | succ fuel =>
    have h:=hB i (swpN p q i d) (z6e ..) (by omega)
    rw [if_pos (by omega)] at h
    rw [z1e h]
    exact ih (i + 1) fuel (by omega) (by omega)
 exact key n 0 fuel (by omega) hf
def rotF (a m b:Nat) (d:Array α) (x:Nat) : α:=if a≤x∧x < a + (b - m) then d[x - a + m]! else if a + (b - m)≤x∧x < b then d[x - (a + (b - m)) + a]! else d[x]!
structure RotTo (a m b:Nat) (d d' : Array α):Prop where
 perm:Sort.PermIn a b d d'
 get:∀ x,d'[x]! = rotF a m b d x
theorem znv {m i j:Nat} {d:Array α} (him:i≤m) (hij:j < i) (x:Nat) (d' : Array α) (hd' : ∀ x,d'[x]! = srF (m - i) m j d x):rotF (m - i + j) m (m + j) d' x=rotF (m - i) m (m + j) d x:=by
 unfold rotF
 rw [hd',hd',hd']
 unfold srF
 repeat' split
 all_goals first | omega | (congr 1; done) | (congr 1; omega)
theorem zn0 {m i j:Nat} {d:Array α} (him:i≤m) (hij:i < j) (x:Nat) (d' : Array α) (hd' : ∀ x,d'[x]! = srF (m - i) (m + j - i) i d x):rotF (m - i) m (m + j - i) d' x=rotF (m - i) m (m + j) d x:=by
 unfold rotF
 rw [hd',hd',hd']
 unfold srF
 repeat' split
 all_goals first | omega | (congr 1; done) | (congr 1; omega)
theorem zog {m i:Nat} {d:Array α} (him:i≤m) (x:Nat):srF (m - i) m i d x=rotF (m - i) m (m + i) d x:=by
 unfold rotF srF
 repeat' split
 all_goals first | omega | (congr 1; done) | (congr 1; omega)
theorem znr {R:Type} {B:Int × Int × List α → Option (Ctl (Int × Int × List α) R)} {m a b:Nat} {d0:Array α} (hb:b≤d0.size):∀ (n i j fuel:Nat) (d:Array α),i + j≤n→n < fuel→1≤i→1≤j→a≤m - i→i≤m→m + j≤b→d.size=d0.size →
  (∀ (i j:Nat) (d' : Array α),d'.size=d0.size→1≤i→1≤j→i≤m→m + j≤b→B ((i:Int),(j:Int),d'.toList)=if i=j then some (.brk ((i:Int),(j:Int),d'.toList)) else if j < i then some (.next (((i - j:Nat):Int),(j:Int),(swpN (m - i) m j d').toList)) else some (.next ((i:Int),((j - i:Nat):Int),(swpN (m - i) (m + j - i) i d').toList))) →
  ∃ (k:Nat) (d' : Array α),loopN B fuel ((i:Int),(j:Int),d.toList)=some (.done ((k:Int),(k:Int),d'.toList))∧1≤k∧k≤i∧k≤j∧d'.size=d.size∧Sort.PermIn a b d d' ∧ ∀ x,rotF (m - k) m (m + k) d' x=rotF (m - i) m (m + j) d x:=by
 intro n
 induction n with
 | zero=>intro i j fuel d hn hf h1 h2; omega
 | succ n ih =>
  intro i j fuel d hn hf h1 h2 h3 h4 h5 h6 hB
  cases fuel with
  | zero=>omega
  | succ fuel =>
   have h:=hB i j d h6 h1 h2 h4 h5
   by_cases e:i=j
   ·rw [if_pos e] at h
    subst e
    exact ⟨i,d,z0w h,h1,Nat.le_refl _,Nat.le_refl _,rfl,Sort.permIn_refl d a b,fun x=>rfl⟩
   ·rw [if_neg e] at h
    by_cases hl:j < i
    ·rw [if_pos hl] at h
     obtain ⟨k,d',g1,g2,g3,g4,g5,g6,g7⟩:=ih (i - j) j fuel (swpN (m - i) m j d) (by omega) (by omega) (by omega) h2 (by omega) (by omega) h5 (by rw [z6e]; exact h6) hB
     refine ⟨k,d',by rw [z1e h,g1],g2,by omega,g4,by rw [g5,z6e],Sort.permIn_trans _ _ _ a b (zc4 (by omega) (by omega) (by omega) (by omega) (by omega)) g6,fun x => ?_⟩
     rw [g7]
     have:=znv (m:=m) (i:=i) (j:=j) (d:=d) h4 hl x (swpN (m - i) m j d) (zdq (by omega) (by omega) (by omega))
     rw [show m - (i - j)=m - i + j by omega]
     exact this
    ·rw [if_neg hl] at h
     obtain ⟨k,d',g1,g2,g3,g4,g5,g6,g7⟩:=ih i (j - i) fuel (swpN (m - i) (m + j - i) i d) (by omega) (by omega) h1 (by omega) h3 h4 (by omega) (by rw [z6e]; exact h6) hB
     refine ⟨k,d',by rw [z1e h,g1],g2,g3,by omega,by rw [g5,z6e],Sort.permIn_trans _ _ _ a b (zc4 (by omega) (by omega) (by omega) (by omega) (by omega)) g6,fun x => ?_⟩
     rw [g7]
     have:=zn0 (m:=m) (i:=i) (j:=j) (d:=d) h4 (by omega) x (swpN (m - i) (m + j - i) i d) (zdq (by omega) (by omega) (by omega))
     rw [show m + (j - i)=m + j - i by omega]
     exact this
end
end Go.Av
namespace Go.Av
open Go
set_option linter.unusedVariables false
set_option linter.unusedSimpArgs false
section
variable {α:Type} [Inhabited α]
theorem zoq {R:Type} {B:Int × Int→Option (Ctl (Int × Int) R)} {P:Nat→Bool} {i0 j0:Nat}:∀ (n i j fuel:Nat),j - i≤n→n < fuel→i0≤i→i≤j→j≤j0→(i=i0∨P (i - 1)=true)→(j=j0∨P j=false) →
  (∀ i j:Nat,i0≤i→i≤j→j≤j0→B ((i:Int),(j:Int))=if i < j then (if P ((i + j) / 2)=true then some (.next ((((i + j) / 2 + 1:Nat):Int),(j:Int))) else some (.next ((i:Int),(((i + j) / 2:Nat):Int)))) else some (.brk ((i:Int),(j:Int)))) →
  ∃ r:Nat,loopN B fuel ((i:Int),(j:Int))=some (.done ((r:Int),(r:Int)))∧i0≤r∧r≤j0∧(r=i0∨P (r - 1)=true)∧(r=j0∨P r=false):=by
 intro n
 induction n with
 | zero =>
  intro i j fuel hn hf h1 h2 h3 h4 h5 hB
  cases fuel with
  | zero=>omega
  | succ fuel =>
   have h:=hB i j h1 h2 h3
   rw [if_neg (by omega)] at h
   have:i=j:=by omega
   subst this
   exact ⟨i,z0w h,h1,h3,h4,h5⟩
 | succ n ih =>
  intro i j fuel hn hf h1 h2 h3 h4 h5 hB
  cases fuel with
  | zero=>omega
  | succ fuel =>
   have h:=hB i j h1 h2 h3
   by_cases hl:i < j
   ·rw [if_pos hl] at h
    by_cases hp:P ((i + j) / 2)=true
    ·rw [if_pos hp] at h
     rw [z1e h]
     exact ih _ j fuel (by omega) (by omega) (by omega) (by omega) h3 (.inr (by rw [Nat.add_sub_cancel]; exact hp)) h5 hB
    ·rw [if_neg hp] at h
     rw [z1e h]
     exact ih i _ fuel (by omega) (by omega) h1 (by omega) (by omega) h4 (.inr (by simpa using hp)) hB
   ·rw [if_neg hl] at h
    have:i=j:=by omega
    subst this
    exact ⟨i,z0w h,h1,h3,h4,h5⟩
variable {lt : α → α → Bool}
theorem glue2 {a mid b:Nat} {d:Array α} (h1:Sort.SortedIn lt a mid d) (h2:Sort.SortedIn lt mid b d) (hx:∀ x y,a≤x→x < mid→mid≤y→y < b→lt d[y]! d[x]! = false):Sort.SortedIn lt a b d:=by
 intro i j hi hij hj
 by_cases h3:j < mid
 ·exact h1 i j hi hij h3
 ·by_cases h4:mid≤i
  ·exact h2 i j h4 hij hj
  ·exact hx i j hi (by omega) (by omega) hj
theorem zek (hS:Sort.SWO lt) {a m b s e:Nat} {d d' : Array α} (h1:Sort.SortedIn lt a m d) (h2:Sort.SortedIn lt m b d) (hs:a≤s∧s≤m) (he:m≤e∧e≤b) (hr:∀ x,d'[x]! = rotF s m e d x)
  (hA:s=a∨e=b∨lt d[e]! d[s - 1]! = false) (hB:s=m∨e=m∨lt d[e - 1]! d[s]! = true) :
  (∀ x y,a≤x→x < s + (e - m)→s + (e - m)≤y→y < b→lt d'[y]! d'[x]! = false)∧Sort.SortedIn lt a s d' ∧ Sort.SortedIn lt s (s + (e - m)) d' ∧ Sort.SortedIn lt (s + (e - m)) e d' ∧ Sort.SortedIn lt e b d':=by
 -- where each one comes from
 have f1:∀ x,x < s→d'[x]! = d[x]!:=fun x hx=>by rw [hr]; unfold rotF; rw [if_neg (by omega),if_neg (by omega)]
 have f2:∀ x,s≤x→x < s + (e - m)→d'[x]! = d[x - s + m]!:=fun x hx hy=>by rw [hr]; unfold rotF; rw [if_pos (by omega)]
 have f3:∀ x,s + (e - m)≤x→x < e→d'[x]! = d[x - (s + (e - m)) + s]!:=fun x hx hy=>by rw [hr]; unfold rotF; rw [if_neg (by omega),if_pos (by omega)]
 have f4:∀ x,e≤x→d'[x]! = d[x]!:=fun x hx=>by rw [hr]; unfold rotF; rw [if_neg (by omega),if_neg (by omega)]
 have le1:∀ x y,a≤x→x≤y→y < m→lt d[y]! d[x]! = false:=fun x y g1 g2 g3=>by
  by_cases g:x=y
  ·subst g; exact hS.irrefl _
  ·exact h1 x y g1 (by omega) g3
 have le2:∀ x y,m≤x→x≤y→y < b→lt d[y]! d[x]! = false:=fun x y g1 g2 g3=>by
  by_cases g:x=y
  ·subst g; exact hS.irrefl _
  ·exact h2 x y g1 (by omega) g3
 refine ⟨?_,?_,?_,?_,?_⟩
 ·intro x y hx1 hx2 hy1 hy2
  by_cases c1:x < s
  ·rw [f1 x c1]
   by_cases c2:y < e
   ·rw [f3 y hy1 c2]
    exact le1 _ _ hx1 (by omega) (by omega)
   ·rw [f4 y (by omega)]
    rcases hA with h | h | h
    ·omega
    ·omega
    ·exact hS.ntrans _ _ _ (hS.ntrans _ _ _ (le2 e y (by omega) (by omega) hy2) h) (le1 x (s - 1) hx1 (by omega) (by omega))
  ·rw [f2 x (by omega) hx2]
   by_cases c2:y < e
   ·rw [f3 y hy1 c2]
    rcases hB with h | h | h
    ·omega
    ·omega
    ·exact hS.ntrans _ _ _ (hS.ntrans _ _ _ (le1 s _ hs.1 (by omega) (by omega)) (hS.asymm h)) (le2 (x - s + m) (e - 1) (by omega) (by omega) (by omega))
   ·rw [f4 y (by omega)]
    exact le2 _ _ (by omega) (by omega) hy2
 ·intro i j hi hij hj
  rw [f1 i (by omega),f1 j hj]
  exact h1 i j hi hij (by omega)
 ·intro i j hi hij hj
  rw [f2 i hi (by omega),f2 j (by omega) hj]
  exact h2 _ _ (by omega) (by omega) (by omega)
 ·intro i j hi hij hj
  rw [f3 i hi (by omega),f3 j (by omega) hj]
  exact h1 _ _ (by omega) (by omega) (by omega)
 ·intro i j hi hij hj
  rw [f4 i hi,f4 j (by omega)]
  exact h2 i j (by omega) hij hj
structure MergeTo (lt : α → α → Bool) (a b:Nat) (d d' : Array α):Prop where
 perm:Sort.PermIn a b d d'
 sorted:Sort.SortedIn lt a b d'
theorem zjn (hS:Sort.SWO lt) {a mid b:Nat} {d d1 d2 d3:Array α} (hab:a≤mid∧mid≤b) (hb:b≤d.size) (hp:Sort.PermIn a b d d1)
  (hx:∀ x y,a≤x→x < mid→mid≤y→y < b→lt d1[y]! d1[x]! = false) (h2:MergeTo lt a mid d1 d2) (h3:MergeTo lt mid b d2 d3):MergeTo lt a b d d3:=by
 have s1:d1.size=d.size:=hp.1
 have s2:d2.size=d1.size:=h2.perm.1
 have p2:Sort.PermIn a b d1 d2:=Sort.permIn_mono _ _ a mid a b (Nat.le_refl _) hab.2 (by omega) h2.perm
 have p3:Sort.PermIn a b d2 d3:=Sort.permIn_mono _ _ mid b a b hab.1 (Nat.le_refl _) (by omega) h3.perm
 refine ⟨Sort.permIn_trans _ _ _ a b hp (Sort.permIn_trans _ _ _ a b p2 p3),glue2 (mid:=mid) ?_ h3.sorted ?_⟩
 ·intro i j hi hij hj
  rw [h3.perm.2.1 i (.inl (by omega)),h3.perm.2.1 j (.inl hj)]
  exact h2.sorted i j hi hij hj
 ·have c1:∀ x y,a≤x→x < mid→mid≤y→y < b→lt d2[y]! d2[x]! = false:=fun x y g1 g2 g3 g4=>by
   rw [h2.perm.2.1 y (.inr g3)]
   exact Sort.permIn_all d1 d2 a mid (fun z=>lt d1[y]! z=false) (by omega) h2.perm (fun i k1 k2=>hx i y k1 k2 g3 g4) x g1 g2
  intro x y g1 g2 g3 g4
  rw [h3.perm.2.1 x (.inl g2)]
  exact Sort.permIn_all d2 d3 mid b (fun z=>lt z d2[x]! = false) (by omega) h3.perm (fun i k1 k2=>c1 x i g1 g2 k1 k2) y g3 g4
theorem zaq {a b:Nat} {d:Array α} (h:Sort.SortedIn lt a b d):MergeTo lt a b d d:=⟨Sort.permIn_refl d a b,h⟩
theorem z7r {a b:Nat} {d:Array α} (h:b≤a + 1):Sort.SortedIn lt a b d:=fun i j h1 h2 h3=>by omega
end
end Go.Av
namespace Go.Av
open Go
set_option linter.unusedVariables false
set_option linter.unusedSimpArgs false
section
variable {α:Type} [Inhabited α] {cmp : α → α → Option Int} {c : α → α → Int}
def ltC (c : α → α → Int) (x y : α):Bool:=decide (c x y < 0)
theorem zn1 {a fuel:Nat} {B:Int × List α → Option (Ctl (Int × List α) Empty)} {j:Nat} {d:Array α} (hj:j < d.size) (hf:j < fuel)
  (hB:∀ (j:Nat) (d' : Array α),j < d'.size→d'.size=d.size→B ((j:Int),d'.toList)=if a < j∧ltC c d'[j]! d'[j - 1]! = true then some (.next (((j - 1:Nat):Int),(Sort.swp d' j (j - 1)).toList)) else some (.brk ((j:Int),d'.toList))) :
  ∃ x:Int,loopN B fuel ((j:Int),d.toList)=some (.done (x,(Sort.insInner (ltC c) a j d).toList)):=by
 induction j generalizing d fuel with
 | zero =>
  cases fuel with
  | zero=>omega
  | succ fuel =>
   refine ⟨0,z0w (s':=(((0:Nat):Int),d.toList)) ?_⟩
   rw [hB 0 d hj rfl,if_neg (by omega)]
 | succ j ih =>
  cases fuel with
  | zero=>omega
  | succ fuel =>
   have h:=hB (j + 1) d hj rfl
   rw [Nat.add_sub_cancel] at h
   unfold Sort.insInner
   by_cases hc:a < j + 1∧ltC c d[j + 1]! d[j]! = true
   ·rw [if_pos hc] at h
    rw [z1e h,if_pos (by simp [hc.1,hc.2])]
    exact ih (by rw [z10]; omega) (by omega) (fun k d' h1 h2=>hB k d' h1 (by rw [h2,z10]))
   ·rw [if_neg hc] at h
    rw [z0w h,if_neg (by simpa using hc)]
    exact ⟨_,rfl⟩
theorem zng {a b fuel:Nat} {B:Int × List α → Option (Ctl (Int × List α) Empty)} {n i:Nat} {d:Array α} (hn:b - i=n) (hb:b≤d.size) (hf:b - i < fuel)
  (hB:∀ (i:Nat) (d' : Array α),d'.size=d.size→B ((i:Int),d'.toList)=if i < b then some (.next (((i + 1:Nat):Int),(Sort.insInner (ltC c) a i d').toList)) else some (.brk ((i:Int),d'.toList)))
  (hs:∀ (i:Nat) (d' : Array α),(Sort.insInner (ltC c) a i d').size=d'.size) :
  ∃ x:Int,loopN B fuel ((i:Int),d.toList)=some (.done (x,(Sort.insOuter (ltC c) a b i d).toList)):=by
 induction n generalizing i d fuel with
 | zero =>
  cases fuel with
  | zero=>omega
  | succ fuel =>
   have h:=hB i d rfl
   rw [if_neg (by omega)] at h
   rw [z0w h,Sort.insOuter,if_neg (by omega)]
   exact ⟨_,rfl⟩
 | succ n ih =>
  cases fuel with
  | zero=>omega
  | succ fuel =>
   have h:=hB i d rfl
   rw [if_pos (by omega)] at h
   rw [z1e h,Sort.insOuter,if_pos (by omega)]
   exact ih (by omega) (by rw [hs]; omega) (by omega) (fun k d' h1=>hB k d' (by rw [h1,hs]))
theorem zej (a:Nat):∀ (j:Nat) (d:Array α),(Sort.insInner (ltC c) a j d).size=d.size
 | 0,d=>rfl
 | j + 1,d=>by
  unfold Sort.insInner
  split
  ·rw [zej a j,z10]
  ·rfl
theorem zky (hc:∀ x y,cmp x y=some (c x y)) {fuel a b:Nat} {d:Array α} (hb:b≤d.size) (hd:d.size < 4611686018427387904) (ha:a < 4611686018427387903) (hf:d.size < fuel) :
  insG cmp fuel (a:Int) (b:Int) d.toList=some (Sort.insertionSort (ltC c) d a b).toList:=by
 unfold insG Sort.insertionSort
 rw [wadd1 (by omega)]
 refine z6z (zng (c:=c) (a:=a) (b:=b) (i:=a + 1) (d:=d) rfl hb (by omega) ?_ (zej a)) (fun x=>rfl)
 intro i d' hd'
 simp only [z07,intlt]
 by_cases hi:i < b
 ·rw [if_pos hi,if_pos hi]
  refine z6z (zn1 (c:=c) (a:=a) (j:=i) (d:=d') (by omega) (by omega) ?_) (fun x => ?_)
  ·intro j e hj he
   simp only [jn_eq,z07,intlt]
   by_cases h1:a < j
   ·simp (disch:=omega) only [h1,if_true,wsub1,z06,Int.toNat_natCast,Nat.zero_add,Array.length_toList,List.length_set,hc,Option.bind_some,z1p,z2r,true_and]
    unfold ltC
    by_cases h2:c e[j]! e[j - 1]! < 0
    ·simp [h2]
    ·simp [h2]
   ·rw [if_neg h1,if_neg (fun h=>h1 h.1)]
    rfl
  ·rw [wadd1 (by omega)]
 ·rw [if_neg hi,if_neg hi]
theorem zg4 {fuel p q n:Nat} {d:Array α} (hp:p + n≤d.size) (hq:q + n≤d.size) (hd:d.size < 4611686018427387904) (hf:d.size < fuel) :
  swapG fuel (p:Int) (q:Int) (n:Int) d.toList=some (swpN p q n d).toList:=by
 unfold swapG
 refine z6z (zmw (p:=p) (q:=q) (n:=n) (d:=d) (by omega) ?_) (fun x=>rfl)
 intro i d' hd' hi
 simp only [z07,intlt]
 by_cases h:i < n
 ·rw [if_pos h,if_pos h]
  simp (disch:=omega) only [wadd,wadd1,z06,Int.toNat_natCast,Nat.zero_add,Array.length_toList,List.length_set,z1p,z2r]
 ·rw [if_neg h,if_neg h]
theorem zon {fuel s m e:Nat} {d:Array α} (h1:s < m) (h2:m < e) (he:e≤d.size) (hd:d.size < 4611686018427387904) (hf:d.size < fuel) :
  ∃ d' : Array α,rotG fuel (s:Int) (m:Int) (e:Int) d.toList=some d'.toList∧RotTo s m e d d':=by
 obtain ⟨k,d1,g1,g2,g3,g4,g5,g6,g7⟩:=znr (R:=Empty) (m:=m) (a:=s) (b:=e) (d0:=d) he (m - s + (e - m)) (m - s) (e - m) fuel d (Nat.le_refl _) (by omega) (by omega) (by omega) (by omega) (by omega) (by omega) rfl
  (B:=fun (a1:Int × Int × (List α))=>bf (!decide (a1.1=a1.2.1)) (bf (decide (a1.2.1 < a1.1)) ((swapG fuel (IntKind.i64.wrap ((m:Int) - a1.1)) (m:Int) a1.2.1 a1.2.2).bind fun r4=>need (r4.length=a1.2.2.length) <| some (.next ((IntKind.i64.wrap (a1.1 - a1.2.1)),a1.2.1,r4))) ((swapG fuel (IntKind.i64.wrap ((m:Int) - a1.1)) (IntKind.i64.wrap ((IntKind.i64.wrap ((m:Int) + a1.2.1)) - a1.1)) a1.1 a1.2.2).bind fun r6=>need (r6.length=a1.2.2.length) <| some (.next (a1.1,(IntKind.i64.wrap (a1.2.1 - a1.1)),r6)))) (some (.brk (a1.1,a1.2.1,a1.2.2))))
  (by
   intro i j d' hs hi hj him hjb
   simp only [z3x,z07,intlt]
   by_cases h:i=j
   ·subst h
    rw [if_pos rfl,if_pos rfl]
   ·rw [if_neg (by omega),if_neg h]
    by_cases h3:j < i
    ·rw [if_pos h3,if_pos h3]
     rw [wsub (by omega) (by omega),wsub (by omega) (by omega),zg4 (by omega) (by omega) (by omega) (by omega)]
     simp only [Option.bind_some]
     rw [z06 (by simp [z6e])]
    ·rw [if_neg h3,if_neg h3]
     rw [wsub (by omega) (by omega),wadd (by omega),wsub (by omega) (by omega),wsub (by omega) (by omega),zg4 (by omega) (by omega) (by omega) (by omega)]
     simp only [Option.bind_some]
     rw [z06 (by simp [z6e])])
 refine ⟨swpN (m - k) m k d1,?_,Sort.permIn_trans _ _ _ s e g6 (zc4 (by omega) (by omega) (by omega) (by omega) (by omega)),fun x => ?_⟩
 ·unfold rotG
  rw [wsub (by omega) (by omega),wsub (by omega) (by omega)]
  rw [g1]
  simp only [z2a]
  rw [wsub (by omega) (by omega),zg4 (by omega) (by omega) (by omega) (by omega)]
  rfl
 ·rw [zdq (by omega) (by omega) (by omega),zog (by omega),g7]
  congr 1 <;> omega
end
end Go.Av
namespace Go.Av
open Go
set_option linter.unusedVariables false
set_option linter.unusedSimpArgs false
section
variable {α:Type} [Inhabited α] {cmp : α → α → Option Int} {c : α → α → Int}
theorem zf7 {x y:Nat} (h:x + y < 4611686018427387904):IntKind.i64.wrap (shrOp .u64 (IntKind.u64.wrap (IntKind.i64.wrap ((x:Int) + (y:Int)))) 1)=(((x + y) / 2:Nat):Int):=by
 rw [wadd h,z8m,Int.emod_eq_of_lt (by omega) (by omega),show (1:Int)=((1:Nat):Int) from rfl,zct .u64 (x + y) 1 (by decide),z1t (by omega) (by omega)]
def shR (a:Nat):Nat→Array α → Array α
 | 0,d=>d
 | k + 1,d=>Sort.swp (shR a k d) (a + k) (a + k + 1)
def shL (m:Nat):Nat→Array α → Array α
 | 0,d=>d
 | k + 1,d=>Sort.swp (shL m k d) (m - k) (m - k - 1)
theorem zd3 (a:Nat):∀ (k:Nat) (d:Array α),(shR a k d).size=d.size
 | 0,d=>rfl
 | k + 1,d=>by unfold shR; rw [z10,zd3 a k]
theorem zcm (m:Nat):∀ (k:Nat) (d:Array α),(shL m k d).size=d.size
 | 0,d=>rfl
 | k + 1,d=>by unfold shL; rw [z10,zcm m k]
theorem zl4 {a:Nat} {d:Array α}:∀ {k:Nat},a + k < d.size→∀ x,(shR a k d)[x]! = rotF a (a + 1) (a + 1 + k) d x
 | 0,h,x=>by
  unfold shR rotF
  repeat' split
  all_goals first | omega | rfl | (congr 1; omega)
 | k + 1,h,x=>by
  have ih:=zl4 (a:=a) (d:=d) (k:=k) (by omega)
  unfold shR
  rw [zj3 _ (by rw [zd3]; omega) (by rw [zd3]; omega),ih,ih,ih]
  unfold rotF
  repeat' split
  all_goals first | omega | rfl | (congr 1; omega)
theorem zl9 {m:Nat} {d:Array α} (hm:m < d.size):∀ {k:Nat},k≤m→∀ x,(shL m k d)[x]! = rotF (m - k) m (m + 1) d x
 | 0,h,x=>by
  unfold shL rotF
  repeat' split
  all_goals first | omega | rfl | (congr 1; omega)
 | k + 1,h,x=>by
  have ih:=zl9 (m:=m) (d:=d) hm (k:=k) (by omega)
  unfold shL
  rw [zj3 _ (by rw [zcm]; omega) (by rw [zcm]; omega),ih,ih,ih]
  unfold rotF
  repeat' split
  all_goals first | omega | rfl | (congr 1; omega)
theorem zju {a b:Nat} {d:Array α} (hb:b≤d.size):∀ {k:Nat},a + k < b→Sort.PermIn a b d (shR a k d)
 | 0,_=>Sort.permIn_refl d a b
 | k + 1,h=>by
  unfold shR
  exact Sort.permIn_trans _ _ _ a b (zju hb (by omega)) (Sort.swp_permIn _ a b _ _ (by omega) (by omega) (by omega) (by omega) (by rw [zd3]; exact hb))
theorem zjz {a m b:Nat} {d:Array α} (hb:b≤d.size) (hm:m < b):∀ {k:Nat},a + k≤m→Sort.PermIn a b d (shL m k d)
 | 0,_=>Sort.permIn_refl d a b
 | k + 1,h=>by
  unfold shL
  exact Sort.permIn_trans _ _ _ a b (zjz hb hm (by omega)) (Sort.swp_permIn _ a b _ _ (by omega) (by omega) (by omega) (by omega) (by rw [zcm]; exact hb))
theorem zoc {R:Type} {B:Int × List α → Option (Ctl (Int × List α) R)} {a n fuel:Nat} {d:Array α} (hf:n < fuel)
  (hB:∀ (i:Nat) (d' : Array α),d'.size=d.size→i≤n→B (((a + i:Nat):Int),d'.toList)=if i < n then some (.next (((a + i + 1:Nat):Int),(Sort.swp d' (a + i) (a + i + 1)).toList)) else some (.brk (((a + i:Nat):Int),d'.toList))) :
  ∃ x:Int,loopN B fuel ((a:Int),d.toList)=some (.done (x,(shR a n d).toList)):=by
 have key:∀ k i fuel,i + k=n→k < fuel→∃ x:Int,loopN B fuel (((a + i:Nat):Int),(shR a i d).toList)=some (.done (x,(shR a n d).toList)):=by
  intro k
  induction k with
  | zero =>
   intro i fuel hi hf
   cases fuel with
   | zero=>omega
   | succ fuel =>
    have h:=hB i (shR a i d) (zd3 ..) (by omega)
    rw [if_neg (by omega)] at h
    rw [z0w h,show i=n by omega]
    exact ⟨_,rfl⟩
  | succ k ih =>
   intro i fuel hi hf
   cases fuel with
   | zero=>omega
   | succ fuel =>
    have h:=hB i (shR a i d) (zd3 ..) (by omega)
    rw [if_pos (by omega)] at h
    rw [z1e h]
    exact ih (i + 1) fuel (by omega) (by omega)
 exact key n 0 fuel (by omega) hf
theorem zo4 {R:Type} {B:Int × List α → Option (Ctl (Int × List α) R)} {m n fuel:Nat} {d:Array α} (hn:n≤m) (hf:n < fuel)
  (hB:∀ (i:Nat) (d' : Array α),d'.size=d.size→i≤n→B (((m - i:Nat):Int),d'.toList)=if i < n then some (.next (((m - i - 1:Nat):Int),(Sort.swp d' (m - i) (m - i - 1)).toList)) else some (.brk (((m - i:Nat):Int),d'.toList))) :
  ∃ x:Int,loopN B fuel ((m:Int),d.toList)=some (.done (x,(shL m n d).toList)):=by
 have key:∀ k i fuel,i + k=n→k < fuel→∃ x:Int,loopN B fuel (((m - i:Nat):Int),(shL m i d).toList)=some (.done (x,(shL m n d).toList)):=by
  intro k
  induction k with
  | zero =>
   intro i fuel hi hf
   cases fuel with
   | zero=>omega
   | succ fuel =>
    have h:=hB i (shL m i d) (zcm ..) (by omega)
    rw [if_neg (by omega)] at h
    rw [z0w h,show i=n by omega]
    exact ⟨_,rfl⟩
  | succ k ih =>
   intro i fuel hi hf
   cases fuel with
   | zero=>omega
   | succ fuel =>
    have h:=hB i (shL m i d) (zcm ..) (by omega)
    rw [if_pos (by omega)] at h
    rw [z1e h]
    have:=ih (i + 1) fuel (by omega) (by omega)
    rwa [show m - (i + 1)=m - i - 1 by omega] at this
 exact key n 0 fuel (by omega) hf
omit [Inhabited α] in
theorem zne (h:IsCmp c):Sort.SWO (ltC c) where
 irrefl x:=by unfold ltC; rw [h.refl]; rfl
 trans x y z h1 h2:=by
  unfold ltC at *
  simp only [decide_eq_true_eq] at *
  exact h.lt_tr h1 (by omega)
 ntrans x y z h1 h2:=by
  unfold ltC at *
  simp only [decide_eq_false_iff_not,Int.not_lt] at *
  have a1:=h.anti x y; have a2:=h.anti y z; have a3:=h.anti x z
  by_cases g:0≤c x z
  ·exact g
  ·exfalso
   have:=h.lt_tr (a:=x) (b:=z) (d:=y) (by omega) (by omega)
   omega
end
end Go.Av
namespace Go.Av
open Go
set_option linter.unusedVariables false
set_option linter.unusedSimpArgs false
section
variable {α:Type} [Inhabited α] {cmp : α → α → Option Int} {c : α → α → Int}
theorem zo9 {lt : α → α → Bool} (hS:Sort.SWO lt) {a b r:Nat} {d:Array α} (hr:a + 1≤r∧r≤b) (hb:b≤d.size) (h2:Sort.SortedIn lt (a + 1) b d)
  (hA:r=a + 1∨lt d[r - 1]! d[a]! = true) (hB:r=b∨lt d[r]! d[a]! = false):MergeTo lt a b d (shR a (r - (a + 1)) d):=by
 have hg:∀ x,(shR a (r - (a + 1)) d)[x]! = rotF a (a + 1) r d x:=fun x=>by
  rw [zl4 (by omega),show a + 1 + (r - (a + 1))=r by omega]
 obtain ⟨h3,_,h5,h6,h7⟩:=zek hS (d':=shR a (r - (a + 1)) d) (a:=a) (m:=a + 1) (b:=b) (s:=a) (e:=r) (z7r (by omega)) h2 ⟨by omega,by omega⟩ hr hg (.inl rfl) (.inr hA)
 refine ⟨zju hb (by omega),glue2 (mid:=a + (r - (a + 1))) h5 (glue2 (mid:=r) h6 h7 ?_) h3⟩
 intro x y g1 g2 g3 g4
 rw [hg,hg,show x=r - 1 by omega]
 unfold rotF
 rw [if_neg (by omega),if_neg (by omega),if_neg (by omega),if_pos (by omega)]
 rw [show r - 1 - (a + (r - (a + 1))) + a=a by omega]
 rcases hB with h | h
 ·omega
 ·by_cases e:y=r
  ·subst e; exact h
  ·exact hS.ntrans _ _ _ (h2 r y (by omega) (by omega) g4) h
theorem      zo3 {lt : α → α → Bool} (hS : Sort.SWO lt) {a m r : Nat} {d : Array α} (hr : a ≤ r ∧ r ≤ m) (hb : m + 1 ≤ d.size) (h1 : Sort.SortedIn lt a m d)
    (hA : r = a ∨ lt d[m]! d[r - 1]! = false) (hB : r = m ∨ lt d[m]! d[r]! = true) : MergeTo lt a (m + 1) d (shL m (m - r) d) := by
  have hg : ∀ x, (shL m (m - r) d)[x]! = rotF r m (m + 1) d x := fun x => by
    rw [    zl9 (by omega) (by omega), show m - (m - r) = r by omega]
  obtain ⟨h3, h4, h5, h6, h7⟩ :=       zek hS (d' := shL m (m - r) d) (a := a) (m := m) (b := m + 1) (s := r) (e := m + 1) h1 (         z7r (by omega)) hr ⟨by omega, by omega⟩ hg (.inr (.inl rfl))
    (by rcases hB with h | h
        · exact .inl h
        · exact .inr (.inr (by rw [Nat.add_sub_cancel]; exact h)))
  refine ⟨     zjz hb (by omega) (by omega), glue2 (mid := r + (m + 1 - m)) (glue2 (mid := r) h4 h5 ?_) h6 h3⟩
  intro x y g1 g2 g3 g4
  rw [hg, hg, show y = r by omega]
  unfold rotF
  rw [if_pos (by omega), if_neg (by omega), if_neg (by omega)]
  rw [show r - r + m = m by omega]
  rcases hA with h | h
  · omega
  · by_cases e : x = r - 1
    · subst e; exact h
    · exact hS.ntrans _ _ _ h (h1 x (r - 1) g1 (by omega) (by omega))
theorem z9a {S R Q:Type} {G:Option Q→Prop} {P:S→Prop} {o:Option (Out S R)} {kn:S→Option Q} {kr:R→Option Q} (h:∃ s,o=some (.done s)∧P s) (hk:∀ s,P s→G (kn s)):G (outK o kn kr):=by
 obtain ⟨s,h,hp⟩:=h
 rw [h]
 exact hk s hp
theorem bs_ex {R:Type} {B:Int × Int→Option (Ctl (Int × Int) R)} {P:Nat→Bool} {Q:Int × Int→Prop} {i0 j0 fuel:Nat} (hf:j0 - i0 < fuel) (hij:i0≤j0)
  (hQ:∀ r:Nat,i0≤r→r≤j0→(r=i0∨P (r - 1)=true)→(r=j0∨P r=false)→Q ((r:Int),(r:Int)))
  (hB:∀ i j:Nat,i0≤i→i≤j→j≤j0→B ((i:Int),(j:Int))=if i < j then (if P ((i + j) / 2)=true then some (.next ((((i + j) / 2 + 1:Nat):Int),(j:Int))) else some (.next ((i:Int),(((i + j) / 2:Nat):Int)))) else some (.brk ((i:Int),(j:Int)))) :
  ∃ s,loopN B fuel ((i0:Int),(j0:Int))=some (.done s)∧Q s:=by
 obtain ⟨r,g1,g2,g3,g4,g5⟩:=zoq (P:=P) (j0 - i0) i0 j0 fuel (Nat.le_refl _) hf (Nat.le_refl _) hij (Nat.le_refl _) (.inl rfl) (.inl rfl) hB
 exact ⟨_,g1,hQ r g2 g3 g4 g5⟩
theorem jn_P {A Q:Type} {G:Option Q→Prop} {P:A→Prop} {K:A→Option Q} {f:(A→Option Q)→Option Q} (hK:∀ a,P a→G (K a)) (hf:∃ a,P a∧f K=K a):G (jn K f):=by
 obtain ⟨a,h1,h2⟩:=hf
 rw [jn_eq,h2]
 exact hK a h1
theorem zfd (hc:∀ x y,cmp x y=some (c x y)) (hC:IsCmp c):∀ (fuel a m b:Nat) (d:Array α),a < m→m < b→b≤d.size→d.size < 1152921504606846976→d.size + (b - a) < fuel →
  Sort.SortedIn (ltC c) a m d→Sort.SortedIn (ltC c) m b d→∃ d' : Array α,symG cmp fuel (a:Int) (m:Int) (b:Int) d.toList=some d'.toList∧MergeTo (ltC c) a b d d'
 | 0,a,m,b,d,_,_,_,_,hf,_,_=>by omega
 | fuel + 1,a,m,b,d,ham,hmb,hb,hd,hf,h1,h2=>by
  have hS:=zne hC
  unfold symG
  simp only [z07]
  rw [wsub (by omega) (by omega),wsub (by omega) (by omega)]
  by_cases c1:m - a=1
  ·rw [if_pos (by omega)]
   have hm:m=a + 1:=by omega
   subst hm
   refine z9a (G:=fun q=>∃ d' : Array α,q=some d'.toList∧MergeTo (ltC c) a b d d') (P:=fun s=>∃ r:Nat,s=((r:Int),(r:Int))∧a + 1≤r∧r≤b∧(r=a + 1∨ltC c d[r - 1]! d[a]! = true)∧(r=b∨ltC c d[r]! d[a]! = false)) ?_ ?_
   ·refine bs_ex (P:=fun h=>ltC c d[h]! d[a]!) (by omega) (by omega) (fun r g2 g3 g4 g5=>⟨r,rfl,g2,g3,g4,g5⟩) ?_
    intro i j hi hij hj
    simp only [z07,intlt]
    rw [zf7 (by omega)]
    by_cases h:i < j
    ·rw [if_pos h,if_pos h]
     simp (disch:=omega) only [z06,wadd1,Int.toNat_natCast,Nat.zero_add,Array.length_toList,hc,Option.bind_some,z1p]
     unfold ltC
     by_cases g:c d[(i + j) / 2]! d[a]! < 0 <;> simp [g]
    ·rw [if_neg h,if_neg h]
   ·rintro s ⟨r,rfl,g2,g3,g4,g5⟩
    simp only
    rw [wsub1 (by omega) (by omega)]
    refine ⟨shR a (r - (a + 1)) d,z6z (zoc (a:=a) (n:=r - (a + 1)) (by omega) ?_) (fun x=>rfl),zo9 hS ⟨g2,g3⟩ hb h2 g4 g5⟩
    intro i d' hs hi
    simp only [z07,intlt]
    by_cases h:i < r - (a + 1)
    ·rw [if_pos (by omega),if_pos h]
     simp (disch:=omega) only [z06,wadd1,Int.toNat_natCast,Nat.zero_add,Array.length_toList,List.length_set,z1p,z2r]
    ·rw [if_neg (by omega),if_neg h]
  ·rw [if_neg (by omega)]
   by_cases c2:b - m=1
   ·rw [if_pos (by omega)]
    have hbm:b=m + 1:=by omega
    subst hbm
    refine z9a (G:=fun q=>∃ d' : Array α,q=some d'.toList∧MergeTo (ltC c) a (m + 1) d d') (P:=fun s=>∃ r:Nat,s=((r:Int),(r:Int))∧a≤r∧r≤m∧(r=a∨ltC c d[m]! d[r - 1]! = false)∧(r=m∨ltC c d[m]! d[r]! = true)) ?_ ?_
    ·refine bs_ex (P:=fun h => !ltC c d[m]! d[h]!) (by omega) (by omega) (fun r g2 g3 g4 g5=>⟨r,rfl,g2,g3,by simpa using g4,by simpa using g5⟩) ?_
     intro i j hi hij hj
     simp only [z07,z3x,intlt]
     rw [zf7 (by omega)]
     by_cases h:i < j
     ·rw [if_pos h,if_pos h]
      simp (disch:=omega) only [z06,wadd1,Int.toNat_natCast,Nat.zero_add,Array.length_toList,hc,Option.bind_some,z1p]
      unfold ltC
      by_cases g:c d[m]! d[(i + j) / 2]! < 0 <;> simp [g]
     ·rw [if_neg h,if_neg h]
    ·rintro s ⟨r,rfl,g2,g3,g4,g5⟩
     simp only
     refine ⟨shL m (m - r) d,z6z (zo4 (m:=m) (n:=m - r) (by omega) (by omega) ?_) (fun x=>rfl),zo3 hS ⟨g2,g3⟩ hb h1 g4 g5⟩
     intro i d' hs hi
     simp only [z07,intlt]
     by_cases h:i < m - r
     ·rw [if_pos (by omega),if_pos h]
      simp (disch:=omega) only [z06,wsub1,Int.toNat_natCast,Nat.zero_add,Array.length_toList,List.length_set,z1p,z2r]
     ·rw [if_neg (by omega),if_neg h]
   ·rw [if_neg (by omega)]
    rw [zf7 (by omega),wadd (by omega)]
    let G:Option (List α)→Prop:=fun q=>∃ d' : Array α,q=some d'.toList∧MergeTo (ltC c) a b d d'
    refine jn_P (G:=G) (P:=fun x=>∃ st r0:Nat,x=((((a + b) / 2:Nat):Int),(((a + b) / 2 + m:Nat):Int),(st:Int),(r0:Int))∧a≤st∧st≤r0∧r0≤m∧r0≤(a + b) / 2 + m - m∧(st=a∨(a + b) / 2 + m - st=b)∧(a + b) / 2 + m - st≤b∧(r0=m∨r0=(a + b) / 2)) ?_ ?_
    ·rintro _ ⟨st,r0,rfl,k1,k2,k3,k4,k5,k6,k7⟩
     refine z9a (G:=G) (P:=fun s=>∃ r:Nat,s=((r:Int),(r:Int))∧st≤r∧r≤r0∧(r=st∨ltC c d[(a + b) / 2 + m - r]! d[r - 1]! = false)∧(r=r0∨ltC c d[(a + b) / 2 + m - r - 1]! d[r]! = true)) ?_ ?_
     ·refine bs_ex (P:=fun h => !ltC c d[(a + b) / 2 + m - 1 - h]! d[h]!) (by omega) (by omega) (fun r g2 g3 g4 g5=>⟨r,rfl,g2,g3,?_,?_⟩) ?_
      ·rcases g4 with g4 | g4
       ·exact .inl g4
       ·by_cases e:r=st
        ·exact .inl e
        ·right
         rw [show (a + b) / 2 + m - 1 - (r - 1)=(a + b) / 2 + m - r by omega] at g4
         simpa using g4
      ·rcases g5 with g5 | g5
       ·exact .inl g5
       ·right
        rw [show (a + b) / 2 + m - 1 - r=(a + b) / 2 + m - r - 1 by omega] at g5
        simpa using g5
      ·intro i j hi hij hj
       simp only [z07,z3x,intlt]
       rw [zf7 (by omega),wsub1 (by omega) (by omega)]
       by_cases h:i < j
       ·rw [if_pos h,if_pos h,wsub (by omega) (by omega)]
        simp (disch:=omega) only [z06,wadd1,Int.toNat_natCast,Nat.zero_add,Array.length_toList,hc,Option.bind_some,z1p]
        unfold ltC
        by_cases g:c d[(a + b) / 2 + m - 1 - (i + j) / 2]! d[(i + j) / 2]! < 0 <;> simp [g]
       ·rw [if_neg h,if_neg h]
     ·rintro s ⟨r,rfl,g2,g3,g4,g5⟩
      simp only
      rw [wsub (by omega) (by omega)]
      have hmid:r + ((a + b) / 2 + m - r - m)=(a + b) / 2:=by omega
      refine jn_P (G:=G) (P:=fun x=>∃ d1:Array α,x=((((a + b) / 2 + m - r:Nat):Int),d1.toList)∧Sort.PermIn a b d d1∧∀ x,d1[x]! = rotF r m ((a + b) / 2 + m - r) d x) ?_ ?_
      ·rintro _ ⟨d1,rfl,p1,p2⟩
       obtain ⟨q1,q2,q3,q4,q5⟩:=zek hS h1 h2 ⟨by omega,by omega⟩ ⟨by omega,by omega⟩ p2 (by
        rcases g4 with g | g
        ·rcases k5 with k | k
         ·exact .inl (by omega)
         ·exact .inr (.inl (by omega))
        ·exact .inr (.inr g)) (by
        rcases g5 with g | g
        ·rcases k7 with k | k
         ·exact .inl (by omega)
         ·exact .inr (.inl (by omega))
        ·exact .inr (.inr g))
       rw [hmid] at q1 q3 q4
       have s1:d1.size=d.size:=p1.1
       refine jn_P (G:=G) (P:=fun x=>∃ d2:Array α,x=d2.toList∧MergeTo (ltC c) a ((a + b) / 2) d1 d2) ?_ ?_
       ·rintro _ ⟨d2,rfl,m1⟩
        have s2:d2.size=d1.size:=m1.perm.1
        have e1:Sort.SortedIn (ltC c) ((a + b) / 2) ((a + b) / 2 + m - r) d2:=fun i j h1 h2 h3=>by
         rw [m1.perm.2.1 i (.inr (by omega)),m1.perm.2.1 j (.inr (by omega))]; exact q4 i j h1 h2 h3
        have e2:Sort.SortedIn (ltC c) ((a + b) / 2 + m - r) b d2:=fun i j h1 h2 h3=>by
         rw [m1.perm.2.1 i (.inr (by omega)),m1.perm.2.1 j (.inr (by omega))]; exact q5 i j h1 h2 h3
        have fin:∀ d3:Array α,MergeTo (ltC c) ((a + b) / 2) b d2 d3→MergeTo (ltC c) a b d d3:=fun d3 m3=>zjn hS ⟨by omega,by omega⟩ hb p1 q1 m1 m3
        simp only [jn_eq,z07,intlt]
        by_cases w1:(a + b) / 2 < (a + b) / 2 + m - r
        ·by_cases w2:(a + b) / 2 + m - r < b
         ·rw [if_pos w1,if_pos w2]
          obtain ⟨d3,t1,t2⟩:=zfd hc hC fuel ((a + b) / 2) ((a + b) / 2 + m - r) b d2 w1 w2 (by omega) (by omega) (by omega) e1 e2
          rw [t1]
          exact ⟨d3,rfl,fin d3 t2⟩
         ·rw [if_pos w1,if_neg w2]
          rw [show (a + b) / 2 + m - r=b by omega] at e1
          exact ⟨d2,rfl,fin d2 (zaq e1)⟩
        ·rw [if_neg w1,z0z]
         rw [show (a + b) / 2 + m - r=(a + b) / 2 by omega] at e2
         exact ⟨d2,rfl,fin d2 (zaq e2)⟩
       ·simp only [jn_eq,z07,intlt]
        by_cases w1:a < r
        ·by_cases w2:r < (a + b) / 2
         ·rw [if_pos w1,if_pos w2]
          obtain ⟨d3,t1,t2⟩:=zfd hc hC fuel a r ((a + b) / 2) d1 w1 w2 (by omega) (by omega) (by omega) q2 q3
          refine ⟨_,⟨d3,rfl,t2⟩,?_⟩
          rw [t1]
          simp only [Option.bind_some]
          rw [z06 (by have:=t2.perm.1; simp only [Array.length_toList]; omega)]
         ·rw [if_pos w1,if_neg w2]
          rw [show r=(a + b) / 2 by omega] at q2
          exact ⟨_,⟨d1,rfl,zaq q2⟩,rfl⟩
        ·rw [if_neg w1,z0z]
         rw [show r=a by omega] at q3
         exact ⟨_,⟨d1,rfl,zaq q3⟩,rfl⟩
      ·simp only [jn_eq,z07,intlt]
       by_cases w1:r < m
       ·by_cases w2:m < (a + b) / 2 + m - r
        ·obtain ⟨d1,t1,t2⟩:=zon (fuel:=fuel) (s:=r) (m:=m) (e:=(a + b) / 2 + m - r) (d:=d) w1 w2 (by omega) (by omega) (by omega)
         refine ⟨_,⟨d1,rfl,Sort.permIn_mono _ _ _ _ a b (by omega) (by omega) hb t2.perm,t2.get⟩,?_⟩
         rw [if_pos w1,if_pos w2,t1,Option.bind_some]
         rw [z06 (by have:=t2.perm.1; simp only [Array.length_toList]; omega)]
         simp only [intlt]
        ·rw [if_pos w1,if_neg w2]
         refine ⟨_,⟨d,rfl,Sort.permIn_refl d a b,fun x => ?_⟩,by simp only [intlt]⟩
         unfold rotF
         repeat' split
         all_goals first | omega | rfl | (congr 1; omega)
       ·rw [if_neg w1,z0z]
        refine ⟨_,⟨d,rfl,Sort.permIn_refl d a b,fun x => ?_⟩,by simp only [intlt]⟩
        unfold rotF
        repeat' split
        all_goals first | omega | rfl | (congr 1; omega)
    ·simp only [z07,intlt]
     by_cases w:(a + b) / 2 < m
     ·rw [if_pos w,wsub (by omega) (by omega)]
      exact ⟨_,⟨(a + b) / 2 + m - b,(a + b) / 2,rfl,by omega,by omega,by omega,by omega,by omega,by omega,.inr rfl⟩,rfl⟩
     ·rw [if_neg w]
      exact ⟨_,⟨a,m,rfl,by omega,by omega,by omega,by omega,.inl rfl,by omega,.inl rfl⟩,rfl⟩
end
end Go.Av
namespace Go.Av
open Go
set_option linter.unusedVariables false
set_option linter.unusedSimpArgs false
section
variable {α:Type} [Inhabited α] {cmp : α → α → Option Int} {c : α → α → Int}
theorem zal {S R:Type} {B:S→Option (Ctl S R)} (I:Nat→S→Prop) (Dn:S→Prop) {n fuel:Nat} {s:S} (hf:n < fuel) (h0:I 0 s)
  (h:∀ i s,I i s→(∃ s',B s=some (.next s')∧I (i + 1) s' ∧ i < n)∨(∃ s',B s=some (.brk s')∧Dn s')):∃ s',loopN B fuel s=some (.done s')∧Dn s':=by
 have key:∀ k i s fuel,i + k=n→k < fuel→I i s→∃ s',loopN B fuel s=some (.done s')∧Dn s':=by
  intro k
  induction k with
  | zero =>
   intro i s fuel hi hf hI
   cases fuel with
   | zero=>omega
   | succ fuel =>
    rcases h i s hI with ⟨s',_,_,g⟩ | ⟨s',g1,g2⟩
    ·omega
    ·exact ⟨s',z0w g1,g2⟩
  | succ k ih =>
   intro i s fuel hi hf hI
   cases fuel with
   | zero=>omega
   | succ fuel =>
    rcases h i s hI with ⟨s',g1,g2,g⟩ | ⟨s',g1,g2⟩
    ·rw [z1e g1]
     exact ih (i + 1) s' fuel (by omega) (by omega) g2
    ·exact ⟨s',z0w g1,g2⟩
 exact key n 0 s fuel (by omega) hf h0
theorem z97 {lt : α → α → Bool} {a b x y:Nat} {d d' : Array α} (h:Sort.SortedIn lt x y d) (hp:Sort.PermIn a b d d') (ho:y≤a∨b≤x):Sort.SortedIn lt x y d':=fun i j h1 h2 h3=>by
 rw [hp.2.1 i (by omega),hp.2.1 j (by omega)]
 exact h i j h1 h2 h3
theorem z9q {i j k:Nat} (h:i < j):i * k + k≤j * k:=by
 have:=Nat.mul_le_mul_right k (show i + 1≤j by omega)
 rw [Nat.add_mul,Nat.one_mul] at this
 exact this
theorem zoi (hc:∀ x y,cmp x y=some (c x y)) (hC:IsCmp c) {fuel:Nat} {d:Array α} (hd:d.size < 1152921504606846) (hf:4 * d.size + 100 < fuel) :
  ∃ d' : Array α,stabG cmp fuel (d.size:Int) d.toList=some d'.toList∧Sort.PermIn 0 d.size d d' ∧ Sort.SortedIn (ltC c) 0 d.size d':=by
 have hS:=zne hC
 generalize hn:d.size=n at *
 let G:Option (List α)→Prop:=fun q=>∃ d' : Array α,q=some d'.toList∧Sort.PermIn 0 n d d' ∧ Sort.SortedIn (ltC c) 0 n d'
 unfold stabG
 refine z9a (G:=G) (P:=fun s=>∃ (i:Nat) (d1:Array α),s=(((i * 20:Nat):Int),((i * 20 + 20:Nat):Int),d1.toList)∧i * 20≤n∧n < i * 20 + 20∧Sort.PermIn 0 n d d1∧∀ j,j < i→Sort.SortedIn (ltC c) (j * 20) (j * 20 + 20) d1) ?_ ?_
 ·refine zal (I:=fun i s=>∃ d1:Array α,s=(((i * 20:Nat):Int),((i * 20 + 20:Nat):Int),d1.toList)∧i * 20≤n∧Sort.PermIn 0 n d d1∧∀ j,j < i→Sort.SortedIn (ltC c) (j * 20) (j * 20 + 20) d1) (n:=n) _ (by omega) ⟨d,by rfl,by omega,Sort.permIn_refl d 0 n,fun j hj=>by omega⟩ ?_
  rintro i _ ⟨d1,rfl,k1,k2,k3⟩
  have s1:d1.size=n:=k2.1.trans hn
  simp only [z07,intle]
  by_cases h:i * 20 + 20≤n
  ·left
   obtain ⟨p1,p2⟩:=Sort.insertionSort_holds hS d1 (i * 20) (i * 20 + 20) (by omega) (by omega)
   refine ⟨_,?_,⟨Sort.insertionSort (ltC c) d1 (i * 20) (i * 20 + 20),rfl,by omega,Sort.permIn_trans _ _ _ 0 n k2 (Sort.permIn_mono _ _ _ _ 0 n (by omega) (by omega) (by omega) p1),?_⟩,by omega⟩
   ·rw [if_pos h,zky hc (by omega) (by omega) (by omega) (by omega)]
    simp only [Option.bind_some]
    rw [z06 (by have:=p1.1; simp only [Array.length_toList]; omega),show (20:Int)=((20:Nat):Int) from rfl,wadd (by omega)]
    rw [show (i + 1) * 20=i * 20 + 20 by omega]
   ·intro j hj
    by_cases e:j=i
    ·subst e; exact p2
    ·exact z97 (k3 j (by omega)) p1 (by have:=z9q (k:=20) (show j < i by omega); omega)
  ·right
   rw [if_neg h]
   exact ⟨_,rfl,i,d1,rfl,k1,by omega,k2,k3⟩
 ·rintro _ ⟨i,d1,rfl,k1,k2,k3,k4⟩
  have s1:d1.size=n:=k3.1.trans hn
  simp only
  obtain ⟨p1,p2⟩:=Sort.insertionSort_holds hS d1 (i * 20) n (by omega) (by omega)
  rw [zky hc (by omega) (by omega) (by omega) (by omega)]
  simp only [Option.bind_some]
  rw [z06 (by have:=p1.1; simp only [Array.length_toList]; omega)]
  generalize hd2:Sort.insertionSort (ltC c) d1 (i * 20) n=d2 at p1 p2
  have q1:Sort.PermIn 0 n d d2:=Sort.permIn_trans _ _ _ 0 n k3 (Sort.permIn_mono _ _ _ _ 0 n (by omega) (by omega) (by omega) p1)
  have q2:∀ j,Sort.SortedIn (ltC c) (j * 20) (min (j * 20 + 20) n) d2:=fun j=>by
   by_cases e:j < i
   ·have:=z9q (k:=20) e
    rw [show min (j * 20 + 20) n=j * 20 + 20 by omega]
    exact z97 (k4 j e) p1 (by omega)
   ·by_cases e2:j=i
    ·subst e2
     rw [show min (j * 20 + 20) n=n by omega]
     exact p2
    ·exact z7r (by omega)
  refine z9a (G:=G) (P:=fun s=>∃ (x:Int) (d3:Array α),s=(x,d3.toList)∧Sort.PermIn 0 n d d3∧Sort.SortedIn (ltC c) 0 n d3) ?_ ?_
  ·refine zal (I:=fun r s=>∃ (k:Nat) (d3:Array α),s=((k:Int),d3.toList)∧r + 20≤k∧k≤2 * n + 20∧Sort.PermIn 0 n d d3∧∀ j,Sort.SortedIn (ltC c) (j * k) (min (j * k + k) n) d3) (n:=n) _ (by omega) ⟨20,d2,by rfl,by omega,by omega,q1,q2⟩ ?_
   rintro r _ ⟨k,d3,rfl,g1,g2,g3,g4⟩
   have s3:d3.size=n:=g3.1.trans hn
   simp only [z07,intlt]
   by_cases h:k < n
   ·left
    rw [if_pos h]
    let G2:Option (Ctl (Int × List α) Empty)→Prop:=fun q=>∃ s',q=some (.next s')∧(∃ (k:Nat) (d3:Array α),s' = ((k:Int),d3.toList)∧r + 1 + 20≤k∧k≤2 * n + 20∧Sort.PermIn 0 n d d3∧∀ j,Sort.SortedIn (ltC c) (j * k) (min (j * k + k) n) d3)∧r < n
    refine z9a (G:=G2) (P:=fun s=>∃ (i:Nat) (d4:Array α),s=(((i * (2 * k):Nat):Int),((i * (2 * k) + 2 * k:Nat):Int),d4.toList)∧i * (2 * k)≤n∧n < i * (2 * k) + 2 * k∧Sort.PermIn 0 n d d4∧(∀ j,j < i→Sort.SortedIn (ltC c) (j * (2 * k)) (j * (2 * k) + 2 * k) d4)∧∀ j,i * (2 * k)≤j * k→Sort.SortedIn (ltC c) (j * k) (min (j * k + k) n) d4) ?_ ?_
    ·rw [wtwo (by omega)]
     refine zal (I:=fun i s=>∃ d4:Array α,s=(((i * (2 * k):Nat):Int),((i * (2 * k) + 2 * k:Nat):Int),d4.toList)∧i * (2 * k)≤n∧i≤i * (2 * k)∧Sort.PermIn 0 n d d4∧(∀ j,j < i→Sort.SortedIn (ltC c) (j * (2 * k)) (j * (2 * k) + 2 * k) d4)∧∀ j,i * (2 * k)≤j * k→Sort.SortedIn (ltC c) (j * k) (min (j * k + k) n) d4) (n:=n) _ (by omega) ⟨d3,by simp,by omega,by omega,g3,fun j hj=>by omega,fun j _=>g4 j⟩ ?_
     rintro i _ ⟨d4,rfl,f1,f0,f2,f3,f4⟩
     have s4:d4.size=n:=f2.1.trans hn
     have e1:(2 * i) * k=i * (2 * k):=by rw [Nat.mul_comm 2 i,Nat.mul_assoc]
     have e2:(2 * i + 1) * k=i * (2 * k) + k:=by rw [Nat.add_mul,Nat.one_mul,e1]
     have e3:(i + 1) * (2 * k)=i * (2 * k) + 2 * k:=by rw [Nat.add_mul,Nat.one_mul]
     have t1:=f4 (2 * i) (by omega)
     have t2:=f4 (2 * i + 1) (by omega)
     rw [e1] at t1
     rw [e2] at t2
     generalize hp:i * (2 * k)=p at *
     simp only [z07,intle]
     by_cases h2:p + 2 * k≤n
     ·left
      rw [if_pos h2,wadd (by omega)]
      rw [show min (p + k) n=p + k by omega] at t1
      rw [show min (p + k + k) n=p + 2 * k by omega] at t2
      obtain ⟨d5,u1,u2⟩:=zfd hc hC fuel p (p + k) (p + 2 * k) d4 (by omega) (by omega) (by omega) (by omega) (by omega) t1 t2
      refine ⟨_,?_,⟨d5,rfl,by omega,by omega,Sort.permIn_trans _ _ _ 0 n f2 (Sort.permIn_mono _ _ _ _ 0 n (by omega) (by omega) (by omega) u2.perm),?_,?_⟩,by omega⟩
      ·rw [u1]
       simp only [Option.bind_some]
       rw [z06 (by have:=u2.perm.1; simp only [Array.length_toList]; omega),wadd (by omega),e3]
      ·intro j hj
       by_cases e:j=i
       ·subst e
        rw [hp]
        exact u2.sorted
       ·have:=z9q (k:=2 * k) (show j < i by omega)
        exact z97 (f3 j (by omega)) u2.perm (.inl (by omega))
      ·intro j hj
       exact z97 (f4 j (by omega)) u2.perm (.inr (by omega))
     ·right
      rw [if_neg h2]
      exact ⟨_,rfl,i,d4,by rw [hp],by omega,by omega,f2,f3,by rw [hp]; exact f4⟩
    ·rintro _ ⟨i,d4,rfl,f1,f1',f2,f3,f4⟩
     have s4:d4.size=n:=f2.1.trans hn
     have e1:(2 * i) * k=i * (2 * k):=by rw [Nat.mul_comm 2 i,Nat.mul_assoc]
     have e2:(2 * i + 1) * k=i * (2 * k) + k:=by rw [Nat.add_mul,Nat.one_mul,e1]
     have t1:=f4 (2 * i) (by omega)
     have t2:=f4 (2 * i + 1) (by omega)
     rw [e1] at t1
     rw [e2] at t2
     have e4:∀ j,i < j→n≤j * (2 * k):=fun j hj=>by have:=z9q (k:=2 * k) hj; omega
     generalize hp:i * (2 * k)=p at *
     simp only
     refine jn_P (G:=G2) (P:=fun l=>∃ d5:Array α,l=d5.toList∧Sort.PermIn 0 n d d5∧∀ j,Sort.SortedIn (ltC c) (j * (2 * k)) (min (j * (2 * k) + 2 * k) n) d5) ?_ ?_
     ·rintro _ ⟨d5,rfl,u1,u2⟩
      refine ⟨_,rfl,⟨2 * k,d5,?_,by omega,by omega,u1,u2⟩,by omega⟩
      rw [show (k:Int) * 2=2 * (k:Int) by omega,wtwo (by omega)]
     ·simp only [z07]
      rw [wadd (by omega)]
      simp only [intlt]
      by_cases h2:p + k < n
      ·rw [if_pos h2]
       rw [show min (p + k) n=p + k by omega] at t1
       rw [show min (p + k + k) n=n by omega] at t2
       obtain ⟨d5,u1,u2⟩:=zfd hc hC fuel p (p + k) n d4 (by omega) (by omega) (by omega) (by omega) (by omega) t1 t2
       refine ⟨_,⟨d5,rfl,Sort.permIn_trans _ _ _ 0 n f2 (Sort.permIn_mono _ _ _ _ 0 n (by omega) (by omega) (by omega) u2.perm),fun j => ?_⟩,?_⟩
       ·by_cases e:j < i
        ·have:=z9q (k:=2 * k) e
         rw [show min (j * (2 * k) + 2 * k) n=j * (2 * k) + 2 * k by omega]
         exact z97 (f3 j e) u2.perm (.inl (by omega))
        ·by_cases e5:j=i
         ·subst e5
          rw [hp,show min (p + 2 * k) n=n by omega]
          exact u2.sorted
         ·have:=e4 j (by omega)
          exact z7r (by omega)
       ·rw [u1]
        simp only [Option.bind_some]
        rw [z06 (by have:=u2.perm.1; simp only [Array.length_toList]; omega)]
      ·rw [if_neg h2]
       refine ⟨_,⟨d4,rfl,f2,fun j => ?_⟩,rfl⟩
       by_cases e:j < i
       ·have:=z9q (k:=2 * k) e
        rw [show min (j * (2 * k) + 2 * k) n=j * (2 * k) + 2 * k by omega]
        exact f3 j e
       ·by_cases e5:j=i
        ·subst e5
         rw [hp,show min (p + 2 * k) n=n by omega]
         rw [show min (p + k) n=n by omega] at t1
         exact t1
        ·have:=e4 j (by omega)
         exact z7r (by omega)
   ·right
    rw [if_neg h]
    have:=g4 0
    rw [Nat.zero_mul,show min (0 + k) n=n by omega] at this
    exact ⟨_,rfl,_,d3,rfl,g3,this⟩
  ·rintro _ ⟨x,d3,rfl,u1,u2⟩
   exact ⟨d3,rfl,u1,u2⟩
theorem zm5 (hc:∀ x y,cmp x y=some (c x y)) (hC:IsCmp c) {fuel:Nat} {l:List α} (hd:l.length < 1152921504606846) (hf:4 * l.length + 100 < fuel) :
  ∃ r:List α,stabG cmp fuel (l.length:Int) l=some r∧r.Perm l∧∀ i j,i < j→j < r.length→c (r.getD i default) (r.getD j default)≤0:=by
 obtain ⟨d',h1,h2,h3⟩:=zoi hc hC (d:=l.toArray) (fuel:=fuel) (by simpa using hd) (by simpa using hf)
 have hs:d'.size=l.length:=by have:=h2.1; simpa using this
 refine ⟨d'.toList,by simpa using h1,?_,fun i j hij hj => ?_⟩
 ·have:=h2.2.2
  simp only [List.size_toArray] at this
  rw [show d'.extract 0 l.length=d' by rw [← hs]; simp,show l.toArray.extract 0 l.length=l.toArray by simp] at this
  exact this
 ·rw [Array.length_toList] at hj
  have:=h3 i j (by omega) hij (by simpa [hs] using hj)
  rw [z1p,z1p]
  unfold ltC at this
  have a1:=hC.anti d'[i]! d'[j]!
  simp only [decide_eq_false_iff_not] at this
  omega
end
end Go.Av
namespace Go.Av
open Go
set_option linter.unusedVariables false
set_option linter.unusedSimpArgs false
def cmpV (a b:Value):Int:=if a.isText=b.isText then (if a.isText then cmpS a.s b.s else cmpZ a.n b.n) else (if a.isText then 1 else -1)
theorem zl1:IsCmp cmpV where
 vals a b:=by
  unfold cmpV
  split
  ·split
   ·exact zcw.vals _ _
   ·exact z9v.vals _ _
  ·split <;> simp
 anti a b:=by
  unfold cmpV
  cases a.isText <;> cases b.isText <;> simp
  ·exact z9v.anti _ _
  ·exact zcw.anti _ _
 tr a b d:=by
  unfold cmpV
  cases a.isText <;> cases b.isText <;> cases d.isText <;> simp
  ·exact z9v.tr _ _ _
  ·exact zcw.tr _ _ _
theorem zhx (a b:ByteArray):(strLt a b || strEq a b)=decide (cmpS a b≤0):=by
 rw [zeo,zik,Bool.eq_iff_iff]
 simp
 omega
theorem zi1 (x y:Int):z6i x y=some (cmpZ x y):=by
 unfold z6i z7e cmpZ
 simp only [decide_true,Bool.not_true,Option.bind_some,z0z,z07]
 split <;> (try split) <;> rfl
theorem zkl (x y:Int):z5i x y=some (cmpZ x y):=by
 unfold z5i z6s cmpZ
 simp only [decide_true,Bool.not_true,Option.bind_some,z0z,z07]
 split <;> (try split) <;> rfl
theorem zjy (x y:ByteArray):z52 x y=some (cmpS x y):=by
 unfold z52 z63
 simp only [zlt,Bool.not_true,Option.bind_some,z0z]
 rw [zhx,zeo]
 simp only [z3x,z07]
 rcases zcw.vals x y with h | h | h <;> simp [h]
theorem zgr (a b:Value):z7c a b=some (cmpV a b):=by
 unfold z7c z9h cmpV
 simp only [zi1,zjy,zkl,z3x]
 cases a.isText <;> cases b.isText <;> simp [zi1,cmpZ]
theorem zje (a b:List Value):z6t a b=some (cmpL cmpV a b):=by
 unfold z6t z09
 rw [zp4 (c:=cmpV)]
 ·rfl
 ·intro i hi
  simp only [zgr,Option.bind_some,z07,z3x,Int.ofNat_le]
  split
  ·rfl
  ·rw [z06 (by omega)]
 ·simp only [z07,Int.ofNat_lt]
  split <;> rfl
theorem ze8 (a b:Value):z4i a b=some (cmpV a b):=by
 unfold z4i cmpV
 rw [zhx,zeo]
 cases a.isText <;> cases b.isText <;> simp
 ·unfold cmpZ; split <;> (try split) <;> simp_all
 ·rcases zcw.vals a.s b.s with h | h | h <;> simp [h]
theorem zhg (a b:List Value) {fuel:Nat} (hf:a.length < fuel) (hn:a.length≤maxN):z4k fuel a b=some (cmpL cmpV a b):=by
 unfold z4k
 unfold maxN at hn
 refine znm (c:=cmpV) hf ?_ ?_
 ·intro i hi hi'
  simp only [jn_eq,ze8,Option.bind_some,z07,z3x,Int.ofNat_lt,Int.toNat_natCast]
  have e:IntKind.i64.wrap ((i:Int) + 1)=((i + 1:Nat):Int):=by rw [z1t (by omega) (by omega)]; omega
  by_cases h1:i < a.length
  ·by_cases h2:i < b.length
   ·rw [if_pos (⟨h1,h2⟩:i < a.length∧i < b.length),if_pos h1,if_pos h2,z06 (by omega),z06 (by omega),e]
   ·rw [if_neg (fun h=>h2 h.2:¬ (i < a.length∧i < b.length)),if_pos h1,if_neg h2]
  ·rw [if_neg (fun h=>h1 h.1:¬ (i < a.length∧i < b.length)),if_neg h1,z0z]
 ·intro i
  simp only [z07,Int.ofNat_lt]
  split
  ·rfl
  ·split <;> rfl
def z3f (v:Value):Bool:=if v.isText then decide (v.n=0) && decide (v.s.size≤64) else strEq v.s (bs [])
def okRow (p:List Value):Bool:=decide (p.length≤8) && p.all z3f
theorem zno (v:Value):z8e v=some (z3f v):=by
 unfold z8e z3f
 have e:((v.s.size:Int)≤64)↔v.s.size≤64:=by omega
 cases v.isText <;> by_cases h:v.n=0 <;> simp [h,e]
theorem zkp (v:Value):z56 v=some (z3f v):=by
 unfold z56 z3f
 have e:((v.s.size:Int)≤64)↔v.s.size≤64:=by omega
 cases v.isText <;> by_cases h:v.n=0 <;> simp [h,e]
theorem zhc {S R X:Type} [Inhabited X] {B:Nat→S→Option (Ctl S R)} {l:List X} (P:X→Bool) (f:Nat→R) {s:S}
  (hB:∀ i,i < l.length→B i s=if P (l.getD i default) then some (.ret (f i)) else some (.next s)) :
  (l.any P=false∧z08 B l.length 0 s=some (.done s))∨(l.any P=true∧∃ i,i < l.length∧P (l.getD i default)=true∧z08 B l.length 0 s=some (.ret (f i))):=by
 have key:∀ k i,i + k=l.length→((l.drop i).any P=false∧z08 B k i s=some (.done s))∨((l.drop i).any P=true∧∃ j,j < l.length∧P (l.getD j default)=true∧z08 B k i s=some (.ret (f j))):=by
  intro k
  induction k with
  | zero=>intro i hi; left; rw [List.drop_eq_nil_of_le (by omega:l.length≤i)]; exact ⟨rfl,rfl⟩
  | succ k ih =>
   intro i hi
   rw [z1b (by omega:i < l.length)]
   simp only [z08,hB i (by omega),List.any_cons]
   by_cases h:P (l.getD i default)=true
   ·rw [if_pos h]; right; exact ⟨by rw [h]; rfl,i,by omega,h,rfl⟩
   ·rw [if_neg h]
    have hf:P (l.getD i default)=false:=by simpa using h
    rw [hf,Bool.false_or]
    exact ih (i + 1) (by omega)
 have:=key l.length 0 (by omega)
 rwa [List.drop_zero] at this
theorem z8f (p:List Value):(p.any fun v => !z3f v) = !(p.all z3f):=by
 rw [List.any_eq_not_all_not]
 simp
theorem zdw (p:List Value):z7i p=some (if okRow p then 0 else 4):=by
 unfold z7i z0s z0u z8j okRow
 simp only [jn_eq,z07,zno,Option.bind_some]
 by_cases h:8 < (p.length:Int)
 ·rw [if_pos h,decide_eq_false (by omega:¬ p.length≤8)]; rfl
 ·rw [if_neg h,decide_eq_true (by omega:p.length≤8)]
  rcases zhc (S:=Unit) (R:=Int) (l:=p) (fun v => !z3f v) (fun i=>(i:Int)) (s:=()) (B:=fun i1 a2=>bf (!z3f (p.getD i1 default)) (some (.ret ((i1:Nat):Int))) (some (.next ()))) (fun i hi=>by
   cases z3f (p.getD i default) <;> rfl) with ⟨h1,h2⟩ | ⟨h1,i,_,_,h2⟩
  ·rw [h2]
   rw [z8f] at h1
   have:p.all z3f=true:=by simpa using h1
   simp [this]
  ·rw [h2]
   rw [z8f] at h1
   have:p.all z3f=false:=by simpa using h1
   simp [this,Int.natCast_nonneg]
theorem zkm (p:List Value):z4w p=some (if okRow p then 0 else 4):=by
 unfold z4w okRow
 simp only [zkp,Option.bind_some]
 rcases zhc (S:=Unit) (R:=Int) (l:=p) (fun v => !z3f v) (fun i=>(4:Int)) (s:=()) (B:=fun i1 a2=>bf (!z3f (p.getD i1 default)) (some (.ret 4)) (some (.next ()))) (fun i hi=>by
   cases z3f (p.getD i default) <;> rfl) with ⟨h1,h2⟩ | ⟨h1,i,_,_,h2⟩
 ·rw [h2]
  rw [z8f] at h1
  have:p.all z3f=true:=by simpa using h1
  simp only [z2a,z07,this,Bool.and_true]
  by_cases h:8 < (p.length:Int)
  ·rw [if_pos h,decide_eq_false (by omega:¬ p.length≤8)]; rfl
  ·rw [if_neg h,decide_eq_true (by omega:p.length≤8)]; rfl
 ·rw [h2]
  rw [z8f] at h1
  have:p.all z3f=false:=by simpa using h1
  simp [this]
theorem zfh {a b:Value}:z8y a b=true↔a=b:=by
 rcases a with ⟨t,n,s⟩
 rcases b with ⟨t',n',s'⟩
 simp [z8y,zf4]
theorem zp1 (a b:List Value):∃ r,z3p a b=some r∧(r=true↔a=b):=by
 unfold z3p
 by_cases hl:a.length=b.length
 ·rw [decide_eq_true (by omega:(a.length:Int)=(b.length:Int))]
  simp only [Bool.not_true,z0z]
  have key:∀ k i,i + k=a.length→∃ r,outK (z08 (S:=Unit) (R:=Bool) (fun i1 (a2:Unit)=>need ((0:Int)≤((i1:Nat):Int)∧((i1:Nat):Int) < (b.length:Int)) <| bf (!(z8y (a.getD i1 default) (b.getD i1 default))) (some (.ret false)) (some (.next ()))) k i ()) (fun (a3:Unit)=>some true) (fun x=>some x)=some r∧(r=true↔a.drop i=b.drop i):=by
   intro k
   induction k with
   | zero =>
    intro i hi
    refine ⟨true,rfl,?_⟩
    rw [List.drop_eq_nil_of_le (by omega:a.length≤i),List.drop_eq_nil_of_le (by omega:b.length≤i)]
    simp
   | succ k ih =>
    intro i hi
    simp only [z08]
    rw [z06 (by omega),z1b (by omega:i < a.length),z1b (by omega:i < b.length)]
    by_cases he:z8y (a.getD i default) (b.getD i default)=true
    ·rw [he]
     obtain ⟨r,h1,h2⟩:=ih (i + 1) (by omega)
     refine ⟨r,h1,?_⟩
     rw [h2,zfh.1 he]
     simp
    ·have he' : z8y (a.getD i default) (b.getD i default)=false:=by simpa using he
     rw [he']
     refine ⟨false,rfl,?_⟩
     simp only [Bool.false_eq_true,false_iff,List.cons.injEq,not_and]
     intro h
     exact absurd (zfh.2 h) he
  obtain ⟨r,h1,h2⟩:=key a.length 0 (by omega)
  exact ⟨r,h1,by simpa using h2⟩
 ·rw [decide_eq_false (by omega:¬ (a.length:Int)=(b.length:Int))]
  exact ⟨false,rfl,by simp; intro h; exact hl (by rw [h])⟩
theorem zmc (a:List Value):z3p a a=some true:=by
 obtain ⟨r,h1,h2⟩:=zp1 a a
 rw [h1,h2.2 rfl]
theorem zmu {a b:Value} (ha:z3f a=true) (hb:z3f b=true):cmpV a b=0↔a=b:=by
 rcases a with ⟨t,n,s⟩
 rcases b with ⟨t',n',s'⟩
 unfold cmpV z3f at *
 cases t <;> cases t' <;> simp [zmi,zij,zf4] at *
 ·intro _; rw [ha,hb]
 ·intro h; omega
theorem zbh:∀ {a b:List Value},a.all z3f=true→b.all z3f=true→(cmpL cmpV a b=0↔a=b)
 | [],[],_,_=>by simp [cmpL]
 | [],_ :: _,_,_=>by simp [cmpL]
 | _ :: _,[],_,_=>by simp [cmpL]
 | x :: a,y :: b,ha,hb=>by
  simp only [List.all_cons,Bool.and_eq_true] at ha hb
  have h1:=zmu ha.1 hb.1
  have h2:=zbh ha.2 hb.2
  simp only [cmpL,thenC]
  split
  ·rename_i h; rw [h2,h1.1 h]; simp
  ·rename_i h
   constructor
   ·intro g; exact absurd g h
   ·intro g; exact absurd (h1.2 (List.cons.inj g).1) h
theorem z8z {p:List Value} (h:okRow p=true):p.all z3f=true∧p.length≤8:=by
 unfold okRow at h
 simp only [Bool.and_eq_true,decide_eq_true_eq] at h
 exact ⟨h.2,h.1⟩
end Go.Av
namespace Go.Av
open Go
set_option linter.unusedVariables false
set_option linter.unusedSimpArgs false
def z2w (t:Time):Prop:=0≤t.epoch∧0≤t.loop.1∧0≤t.loop.2
def lub2 (a x:Time):Time:=⟨if a.epoch < x.epoch then x.epoch else a.epoch,(if a.loop.1 < x.loop.1 then x.loop.1 else a.loop.1,if a.loop.2 < x.loop.2 then x.loop.2 else a.loop.2)⟩
def zeroT:Time:=⟨0,(0,0)⟩
def lubL (l:List Time):Time:=l.foldl lub2 zeroT
theorem Time.ext' {a b:Time} (h1:a.epoch=b.epoch) (h2:a.loop.1=b.loop.1) (h3:a.loop.2=b.loop.2):a=b:=by
 rcases a with ⟨e,l1,l2⟩; rcases b with ⟨e',l1',l2'⟩; simp at h1 h2 h3; simp [h1,h2,h3]
theorem max0 {a:Int} (h:0≤a):a=if 0 < a then a else 0:=by
 by_cases h1:0 < a
 ·rw [if_pos h1]
 ·rw [if_neg h1]; omega
theorem zc6 {l:List Time} (hl:∀ x ∈ l,z2w x):z2l l=some (lubL l):=by
 unfold z2l
 rw [z31 (lubL l) (fun i a=>a=lubL (l.take i)) (fun s h=>by rw [h,List.take_length])]
 ·rfl
 ·intro i a hi ha
  refine ⟨_,?_,rfl⟩
  rw [z22 hi]
  have hx:=hl _ (z2b hi)
  generalize l.getD i default=x at *
  simp only [lubL,List.foldl_append,List.foldl_cons,List.foldl_nil]
  rw [← lubL,← ha]
  simp only [jn_eq,z08,z5b,Option.bind_some,z07]
  rcases Nat.eq_zero_or_pos i with h0 | h0
  ·subst h0
   simp [lubL] at ha
   subst ha
   obtain ⟨x1,x2,x3⟩:=hx
   simp [outK,lub2,zeroT]
   exact ⟨max0 x1,max0 x2,max0 x3⟩
  ·rw [if_neg (by omega)]
   simp [outK,lub2]
 ·rfl
theorem mx_eq (a b:Int):(if a < b then b else a)=max a b:=by split <;> omega
theorem znb {x:Time} (h:z2w x):lub2 zeroT x=x:=by
 obtain ⟨h1,h2,h3⟩:=h
 simp only [lub2,mx_eq,zeroT]
 refine Time.ext' ?_ ?_ ?_ <;> simp only <;> omega
theorem zfz {x y:Time} (hx:z2w x):lubL [x,y]=lub2 x y:=by
 simp [lubL,znb hx]
def leT (a b:Time):Bool:=decide (a.epoch≤b.epoch) && (decide (a.loop.1≤b.loop.1) && decide (a.loop.2≤b.loop.2))
theorem zns {a b:Time} (ha:z2w a) (hb:z2w b):z7w a b=some (leT a b):=by
 unfold z7w z5k
 have hl:∀ x ∈ [a,b],z2w x:=fun x hx=>by
  rcases List.mem_cons.1 hx with rfl | hx
  ·exact ha
  ·rw [List.mem_singleton.1 hx]; exact hb
 rw [zc6 hl,zfz ha]
 simp only [Option.bind_some,lub2,mx_eq,z0j,leT,Bool.and_true]
 congr 1
 rw [Bool.eq_iff_iff]
 simp only [Bool.and_eq_true,decide_eq_true_eq]
 omega
theorem zfs (a b:Time):z39 a b=some (leT a b):=by
 unfold z39 leT
 simp only [z08,z07]
 by_cases h1:b.loop.1 < a.loop.1 <;> by_cases h2:b.loop.2 < a.loop.2 <;> by_cases h3:a.epoch≤b.epoch <;> simp [outK,h1,h2,h3] <;> omega
def cmpT (a b:Time):Int :=
 if a.epoch < b.epoch then -1 else if b.epoch < a.epoch then 1 else if a.loop.1 < b.loop.1 then -1 else if b.loop.1 < a.loop.1 then 1 else if a.loop.2 < b.loop.2 then -1 else if b.loop.2 < a.loop.2 then 1 else 0
theorem           zdv (a b : Time) :                  z2j a b = some (cmpT a b) := by
  unfold                  z2j cmpT
  simp only [   z08,       z07,    z3x]
  by_cases h1 : a.epoch < b.epoch <;> by_cases h2 : b.epoch < a.epoch <;> by_cases h3 : a.loop.1 < b.loop.1 <;> by_cases h4 : b.loop.1 < a.loop.1 <;> by_cases h5 : a.loop.2 < b.loop.2 <;> by_cases h6 : b.loop.2 < a.loop.2 <;>
    simp [outK, h1, h2, h3, h4, h5, h6] <;> omega
theorem zi7 (x y:Int):z3d x y=some (if x < y then -1 else if y < x then 1 else 0):=by
 unfold z3d z64
 simp only [decide_true,Bool.not_true,Option.bind_some,z0z,z07]
 split
 ·rfl
 ·split <;> rfl
theorem zp5 (x1 x2 y1 y2:Int):z25 [x1,x2] [y1,y2]=some (if x1 < y1 then -1 else if y1 < x1 then 1 else if x2 < y2 then -1 else if y2 < x2 then 1 else 0):=by
 unfold z25
 simp only [List.length_cons,List.length_nil,Nat.zero_add,Nat.reduceAdd,z08,zi7,z07,z3x,Option.bind_some]
 by_cases h3:x1 < y1 <;> by_cases h4:y1 < x1 <;> by_cases h5:x2 < y2 <;> by_cases h6:y2 < x2 <;> simp [outK,need,h3,h4,h5,h6]
theorem zpi (u v:Int):z5p [u,v]=some (if u=0 then v else u):=by
 unfold z5p
 simp only [List.length_cons,List.length_nil,Nat.zero_add,Nat.reduceAdd,z08,z07,z3x]
 by_cases h1:u=0 <;> by_cases h2:v=0 <;> simp [outK,h1,h2]
theorem zpg {p q:Bool} {A:Type} {x y:Option A}:bf (p && (q && true)) x y=bf p (bf q x y) y:=by cases p <;> cases q <;> rfl
theorem        z2k (a b : Time) :            z11 a b = some (cmpT a b) := by
  unfold            z11 cmpT
  simp only [      zi7,     zp5,    zpi, Option.bind_some,    zpg,       z07]
  by_cases h1 : a.epoch < b.epoch <;> by_cases h2 : b.epoch < a.epoch <;> by_cases h3 : a.loop.1 < b.loop.1 <;> by_cases h4 : b.loop.1 < a.loop.1 <;> by_cases h5 : a.loop.2 < b.loop.2 <;> by_cases h6 : b.loop.2 < a.loop.2 <;>
    by_cases h7 : a.loop.1 = b.loop.1 <;> by_cases h8 : a.loop.2 = b.loop.2 <;> simp [h1, h2, h3, h4, h5, h6, h7, h8] <;> omega
theorem zlv (a b:Time):cmpT a b = -1∨cmpT a b=0∨cmpT a b=1:=by
 unfold cmpT
 repeat' split
 all_goals omega
theorem       znd (a b : Time) : cmpT a b = - cmpT b a := by
  unfold cmpT
  by_cases h1 : a.epoch < b.epoch <;> by_cases h2 : b.epoch < a.epoch <;> by_cases h3 : a.loop.1 < b.loop.1 <;> by_cases h4 : b.loop.1 < a.loop.1 <;> by_cases h5 : a.loop.2 < b.loop.2 <;> by_cases h6 : b.loop.2 < a.loop.2 <;>
    simp [h1, h2, h3, h4, h5, h6] <;> omega
theorem zj9 (a:Time):leT a a=true:=by simp [leT]
theorem zim {a b c:Time} (h:leT a b=true) (g:leT b c=true):leT a c=true:=by
 simp only [leT,Bool.and_eq_true,decide_eq_true_eq] at *
 omega
theorem zp6 {a b:Time}:leT a b=true↔a.epoch≤b.epoch∧a.loop.1≤b.loop.1∧a.loop.2≤b.loop.2:=by simp [leT]
theorem zh1 (u v w:Int):z5p [u,v,w]=some (thenC u (thenC v w)):=by
 unfold z5p thenC
 simp only [List.length_cons,List.length_nil,Nat.zero_add,Nat.reduceAdd,z08,z07,z3x]
 by_cases h1:u=0 <;> by_cases h2:v=0 <;> by_cases h3:w=0 <;> simp [outK,h1,h2,h3]
theorem zph (u v w:Int):z99 [u,v,w]=some (thenC u (thenC v w)):=zh1 u v w
theorem zl2:IsCmp cmpT where
 vals a b:=by rcases zlv a b with h | h | h <;> omega
 anti a b:=by have:=znd a b; omega
 tr a b d:=by
  have e:∀ a b:Time,cmpT a b=thenC (cmpZ a.epoch b.epoch) (thenC (cmpZ a.loop.1 b.loop.1) (cmpZ a.loop.2 b.loop.2)):=fun a b=>by
   unfold cmpT thenC cmpZ
   repeat' split
   all_goals omega
  have h:=(z9v.on fun t:Time=>t.epoch).lex ((z9v.on fun t:Time=>t.loop.1).lex (z9v.on fun t:Time=>t.loop.2))
  rw [e,e,e]
  exact h.tr a b d
theorem       zmr {a b : Time} : cmpT a b = 0 ↔ a = b := by
  constructor
  · intro h
    unfold cmpT at h
    refine Time.ext' ?_ ?_ ?_ <;> · revert h; repeat' split
                                    all_goals omega
  · rintro rfl; exact     zl2.refl a
def okT (t:Time):Bool:=decide (t.epoch≤4611686018427387904) && (decide (t.loop.1≤4611686018427387904) && decide (t.loop.2≤4611686018427387904))
theorem zl0 {fuel:Nat} (hf:5 < fuel) (a b:Int):z2h fuel [a,b]=some (if a < b then b else a):=by
 unfold z2h
 obtain ⟨f,rfl⟩:∃ f,fuel=f + 2:=⟨fuel - 2,by omega⟩
 have w:IntKind.i64.wrap 2=2:=by rw [z1t (by omega) (by omega)]
 simp [loopN,outK,need,bf,w]
theorem zcz {fuel:Nat} (hf:5 < fuel) (t:Time):z3b fuel [t]=some (if okT t then 0 else 1):=by
 unfold z3b okT
 simp only [List.length_cons,List.length_nil,Nat.zero_add,z08,List.getD_cons_zero,zl0 hf,Option.bind_some,z07,mx_eq]
 by_cases h:4611686018427387904 < max t.epoch (max t.loop.1 t.loop.2)
 ·rw [if_pos h]
  simp only [outK]
  rw [if_neg (by simp only [Bool.and_eq_true,decide_eq_true_eq]; omega)]
 ·rw [if_neg h]
  simp only [outK]
  rw [if_pos (by simp only [Bool.and_eq_true,decide_eq_true_eq]; omega)]
theorem zai (t:Time):z2g [t]=some (if okT t then 0 else 1):=by
 unfold z2g okT
 simp only [List.length_cons,List.length_nil,Nat.zero_add,z08,List.getD_cons_zero,z07]
 by_cases h1:4611686018427387904 < t.epoch <;> by_cases h2:4611686018427387904 < t.loop.1 <;> by_cases h3:4611686018427387904 < t.loop.2 <;> simp [outK,h1,h2,h3] <;> omega
end Go.Av
namespace Go.Av
open Go
set_option linter.unusedVariables false
set_option linter.unusedSimpArgs false
section
variable {α X Y:Type}
inductive R2 (r:X→Y→Prop):List X→List Y→Prop
 | nil:R2 r [] []
 | cons {x:X} {y:Y} {a:List X} {b:List Y} (h:r x y) (t:R2 r a b):R2 r (x :: a) (y :: b)
theorem R2.len {r:X→Y→Prop} {a:List X} {b:List Y} (h:R2 r a b):a.length=b.length:=by induction h <;> simp_all
theorem R2.app {r:X→Y→Prop} {a a' : List X} {b b' : List Y} (h:R2 r a b) (h' : R2 r a' b'):R2 r (a++a') (b++b'):=by
 induction h with
 | nil=>exact h'
 | cons h _ ih=>exact .cons h ih
theorem R2.split {r:X→Y→Prop}:∀ {b b' : List Y} {a:List X},R2 r a (b++b')→∃ a1 a2,a=a1++a2∧R2 r a1 b∧R2 r a2 b'
 | [],b',a,h=>⟨[],a,rfl,.nil,h⟩
 | y :: b,b',_,h=>by
  cases h with
  | cons h t =>
   obtain ⟨a1,a2,rfl,h1,h2⟩:=R2.split t
   exact ⟨_ :: a1,a2,rfl,.cons h h1,h2⟩
theorem R2.get [Inhabited X] [Inhabited Y] {r:X→Y→Prop} {a:List X} {b:List Y} (h:R2 r a b):∀ {i:Nat},i < b.length→r (a.getD i default) (b.getD i default):=by
 induction h with
 | nil=>intro i hi; simp at hi
 | cons h _ ih =>
  intro i hi
  cases i with
  | zero=>exact h
  | succ i=>exact ih (by simpa using hi)
theorem R2.one {r:X→Y→Prop} {x:X} {y:Y} (h:r x y):R2 r [x] [y]:=.cons h .nil
theorem z8q {S R Q:Type} {G:Option Q→Prop} {B:Nat→S→Option (Ctl S R)} {n:Nat} {s:S} {kn:S→Option Q} {kr:R→Option Q} (I:Nat→S→Prop) (D:S→Prop) (J:R→Prop) (h0:I 0 s) (hD:∀ s,I n s→D s) (hk:∀ s,D s→G (kn s)) (hr:∀ r,J r→G (kr r))
  (hs:∀ i s,i < n→I i s→(∃ s',B i s=some (.next s')∧I (i + 1) s')∨(∃ s',B i s=some (.brk s')∧D s')∨∃ r,B i s=some (.ret r)∧J r):G (outK (z08 B n 0 s) kn kr):=by
 rcases zfl I D J h0 hs hD with ⟨s',h1,h2⟩ | ⟨r,h1,h2⟩
 ·rw [h1]; exact hk s' h2
 ·rw [h1]; exact hr r h2
theorem zih [Inhabited X] (a:List X) (x:X):(a++[x]).getD a.length default=x:=by simp [List.getD_eq_getElem?_getD]
theorem zgb [Inhabited X] (a b:List X) (x:X):(a++x :: b).getD a.length default=x:=by simp [List.getD_eq_getElem?_getD]
theorem zfa (a b:List X) (x y:X):(a++x :: b).set a.length y=a++y :: b:=by simp [List.set_append]
def PR (num : α → Int) (l:List α):List (α × Int):=l.map fun x=>(x,num x)
theorem zi9 (num : α → Int) (l l' : List α):PR num (l++l')=PR num l++PR num l':=by simp [PR]
theorem zb6 {num : α → Int} {l:List α} {p : α × Int}:p ∈ PR num l↔∃ x ∈ l,(x,num x)=p:=by simp [PR]
theorem zfy {c : α → α → Int} {y : α}:∀ {l:List (α × Int)},(∀ p ∈ l,in64 p.2) → -9223372036854775808 * (l.length:Int)≤sm c l y∧sm c l y≤9223372036854775808 * (l.length:Int)
 | [],_=>by simp [sm]
 | p :: l,h=>by
  have h1:=zfy (c:=c) (y:=y) (l:=l) fun q hq=>h q (List.mem_cons_of_mem _ hq)
  have h2:=h p (List.mem_cons_self ..)
  unfold in64 at h2
  simp only [sm,List.length_cons]
  split <;> omega
theorem zod {c : α → α → Int} {num : α → Int} {put : α → Int → α} {l l' : List (α × Int)} {R:List α} {e:Int} (hp:l.Perm l') (h:Tot c num put l R e):Tot c num put l' R e:=by
 have hs:∀ y,sm c l y=sm c l' y:=zop hp
 rcases h with ⟨h1,h2,h3⟩ | ⟨h1,h2,h3⟩
 ·refine .inl ⟨h1,⟨h2.strict,fun r hr => ?_,fun r hr => ?_,fun y hy hn => ?_⟩,fun y => ?_⟩
  ·rw [← hs]; exact h2.sum r hr
  ·obtain ⟨y,g1,g2⟩:=h2.mem r hr
   exact ⟨y,hp.mem_iff.1 g1,g2⟩
  ·exact h2.all y (hp.mem_iff.2 hy) (by rw [hs]; exact hn)
  ·rw [← hs]; exact h3 y
 ·refine .inr ⟨h1,h2,fun h=>h3 fun y => ?_⟩
  rw [hs]; exact h y
theorem zi4 (put : α → Int → α) (S S' : List (α × Int)):left0 put (S++S')=left0 put S++left0 put S':=by simp [left0]
theorem zhz (put : α → Int → α) (p : α × Int):left0 put [p]=if p.2=0 then [] else [put p.1 p.2]:=by
 unfold left0
 by_cases h:p.2=0 <;> simp [h]
theorem zbt (put : α → Int → α) (S:List (α × Int)):(left0 put S).length≤S.length:=by
 unfold left0
 rw [List.length_map]
 exact List.length_filter_le _ _
def fit64 (s:Int):Int × Int:=if -9223372036854775808≤s∧s < 9223372036854775808 then (s,0) else (0,10)
theorem zdi {s:Int} (h:in64 s):fit64 s=(s,0):=if_pos h
theorem zc5 {s:Int} (h:¬ in64 s):fit64 s=(0,10):=if_neg h
def repT (t:Tally) (s:Int):Prop:=inU64 t.high∧inU64 t.low∧(t.high * 18446744073709551616 + t.low - s) % 340282366920938463463374607431768211456=0
def repW (w:Wide) (s:Int):Prop:=inU64 w.low∧w.high * 18446744073709551616 + w.low=s
theorem zmp {w:Wide} {p s:Int} (hp:in64 p) (h:repW w s) (hb : -85070591730234615865843651857942052864≤s∧s≤85070591730234615865843651857942052864) :
  ∃ w',z23 w p=some w' ∧ repW w' (s + p):=by
 obtain ⟨hl,hs⟩:=h
 unfold repW in64 inU64 at *
 unfold z23
 have e1:IntKind.i64.wrap (w.high + 1)=w.high + 1:=z5q (by unfold in64; omega)
 have e2:IntKind.i64.wrap (w.high - 1)=w.high - 1:=z5q (by unfold in64; omega)
 have e3:IntKind.i64.wrap (w.high + 1 - 1)=w.high:=by rw [z5q (by unfold in64; omega)]; omega
 simp only [jn_eq,z8m,z07,e1]
 split <;> split <;> refine ⟨_,rfl,?_,?_⟩ <;> simp only [e2,e3] <;> omega
theorem zjv {w:Wide} {s:Int} (h:repW w s):z26 w=some (fit64 s):=by
 obtain ⟨hl,hs⟩:=h
 unfold inU64 at *
 unfold z26
 by_cases h : -9223372036854775808≤s∧s < 9223372036854775808
 ·have e1:IntKind.i64.wrap w.low=s:=by rw [z8p]; split <;> omega
  rw [zdi h]
  simp only [jn_eq,e1,z07]
  have:(w.high=0∧0≤s)∨(w.high = -1∧s < 0):=by omega
  rcases this with ⟨g1,g2⟩ | ⟨g1,g2⟩
  ·rw [if_pos g1,if_pos g2]; rfl
  ·rw [if_neg (by omega),if_pos g1,if_pos g2]
 ·rw [zc5 h]
  simp only [jn_eq,z07]
  by_cases g1:w.high=0
  ·have g2:¬ 0≤IntKind.i64.wrap w.low:=by rw [z8p]; split <;> omega
   rw [if_pos g1,if_neg g2,if_neg (by omega)]; rfl
  ·rw [if_neg g1]
   by_cases g2:w.high = -1
   ·have g3:¬ IntKind.i64.wrap w.low < 0:=by rw [z8p]; split <;> omega
    rw [if_pos g2,if_neg g3]
   ·rw [if_neg g2]; rfl
end
end Go.Av
namespace Go.Av
open Go
set_option linter.unusedVariables false
set_option linter.unusedSimpArgs false
def cU (a b:Update):Int:=thenC (cmpL cmpV a.key b.key) (thenC (cmpL cmpV a.row b.row) (cmpT a.time b.time))
theorem cU_is:IsCmp cU:=(zl1.list.on fun u:Update=>u.key).lex ((zl1.list.on fun u:Update=>u.row).lex (zl2.on fun u:Update=>u.time))
theorem z7p (a b:Update):z2n a b=some (cU a b):=by
 unfold z2n cU
 simp only [zje,z2k,zh1,Option.bind_some]
def z2z (x:Update) (n:Int):Update:=⟨x.key,x.row,x.time,n⟩
theorem zm6 {x:Update} {n:Int} (h:x.row.length≤8):z6p x n=some (z2z x n):=rfl
def za7 (x:Line_Update) (p:Update × Int):Prop:=x.of=p.1∧repT x.tally p.2
theorem zm2 {a:List Line_Update} {x:Line_Update} {p s:Int} (hp:in64 p) (h:repT x.tally s) :
  ∃ t:Tally,z3e a.length p (a++[x])=some (a++[(⟨t,x.of⟩:Line_Update)])∧repT t (s + p):=by
 obtain ⟨hh,hl,hs⟩:=h
 unfold in64 inU64 repT at *
 unfold z3e z9g
 simp only [zih,zfa,List.length_set,List.length_append,List.length_singleton,shr63 hp,z8m]
 rw [z06 (by omega),z06 (by omega)]
 simp only [Option.bind_some]
 rw [z06 (by omega),z06 (by omega),z06 (by split <;> omega)]
 simp only [Option.bind_some]
 rw [z06 (by omega)]
 refine ⟨_,rfl,?_,?_,?_⟩
 ·simp only [inU64]; omega
 ·simp only [inU64]; omega
 ·simp only; split <;> omega
theorem zlr {x:Line_Update} {s:Int} (h:repT x.tally s) (hb : -85070591730234615865843651857942052864≤s∧s≤85070591730234615865843651857942052864):z3j x=some ((fit64 s).1,(fit64 s).2,x):=by
 obtain ⟨hh,hl,hs⟩:=h
 unfold inU64 at *
 have hw:in64 (IntKind.i64.wrap x.tally.low):=by unfold in64; rw [z8p]; split <;> omega
 unfold z3j
 rw [shr63 hw,z8m]
 by_cases h : -9223372036854775808≤s∧s < 9223372036854775808
 ·rw [zdi h]
  have e1:IntKind.i64.wrap x.tally.low=s:=by rw [z8p]; split <;> omega
  rw [e1]
  have e2:x.tally.high=(if s < 0 then (-1:Int) else 0) % 18446744073709551616:=by split <;> omega
  rw [decide_eq_true e2]
  rfl
 ·rw [zc5 h]
  have e2:¬ x.tally.high=(if IntKind.i64.wrap x.tally.low < 0 then (-1:Int) else 0) % 18446744073709551616:=by
   rw [z8p]
   split <;> split <;> omega
  rw [decide_eq_false e2]
  rfl
theorem zma:z20=rotG (α:=Update):=rfl
theorem zm9:z17=insG (α:=Update) z2n:=rfl
theorem zia:∀ (fuel:Nat) (a b d:Int) (l:List Update),z0e fuel a b d l=symG (α:=Update) z2n fuel a b d l
 | 0,_,_,_,_=>rfl
 | fuel + 1,a,b,d,l=>by
  unfold z0e symG
  simp only [zma,zia fuel]
theorem zlo (fuel:Nat) (n:Int) (l:List Update):z1r fuel n l=stabG (α:=Update) z2n fuel n l:=by
 unfold z1r stabG
 simp only [zm9,zia]
theorem zkd {fuel:Nat} {l:List Update} (hl:∀ x ∈ l,in64 x.diff) (hr:∀ x ∈ l,x.row.length≤8) (hn:l.length≤4000000) (hf:20000000≤fuel) :
  ∃ R e l',z0g fuel l=some (R,e,l')∧Tot cU (fun x=>x.diff) z2z (PR (fun x=>x.diff) l) R e∧R.length≤l.length:=by
 obtain ⟨r1,h1,h2,h3⟩:=zm5 (c:=cU) z7p cU_is (fuel:=fuel) (l:=l) (by omega) (by omega)
 have hlen:r1.length=l.length:=h2.length_eq
 unfold z0g z0l
 rw [zlo,h1]
 simp only [Option.bind_some]
 rw [z06 hlen]
 suffices hS:∃ R e,(_:Option ((List Update) × Int × (List Update)))=some (R,e,r1)∧Tot cU (fun x=>x.diff) z2z (PR (fun x=>x.diff) r1) R e∧R.length≤r1.length by
  obtain ⟨R,e,g1,g2,g3⟩:=hS
  refine ⟨R,e,r1,?_,zod ?_ g2,by omega⟩
  ·exact g1
  ·exact h2.map _
 have hl1:∀ x ∈ r1,in64 x.diff:=fun x hx=>hl x (h2.mem_iff.1 hx)
 have hr1:∀ x ∈ r1,x.row.length≤8:=fun x hx=>hr x (h2.mem_iff.1 hx)
 refine z9a (G:=fun q=>∃ R e,q=some (R,e,r1)∧Tot cU (fun x=>x.diff) z2z (PR (fun x=>x.diff) r1) R e∧R.length≤r1.length) (P:=fun a=>∃ S,R2 za7 a S∧SS cU (PR (fun x=>x.diff) r1) S∧S.length≤r1.length) ?_ ?_
 ·have:=fun B h=>z98 (R:=Empty) (B:=B) (n:=r1.length) (fun i (a:List Line_Update)=>∃ S,R2 za7 a S∧SS cU (PR (fun x=>x.diff) (r1.take i)) S∧S.length≤i) (s:=([]:List Line_Update)) ⟨[],.nil,zmb,Nat.le_refl _⟩ h
  simp only [List.take_length] at this
  refine this _ ?_
  rintro i a hi ⟨S,k1,k2,k3⟩
  have hx:=hl1 _ (z2b hi)
  rw [Nat.zero_add,z06 hi]
  have htk:PR (fun x:Update=>x.diff) (r1.take (i + 1))=PR (fun x=>x.diff) (r1.take i)++[(r1.getD i default,(r1.getD i default).diff)]:=by
   rw [z22 hi,zi9]; rfl
  have hle:∀ p ∈ S,cU p.1 (r1.getD i default)≤0:=fun p hp=>by
   obtain ⟨y,g1,g2⟩:=k2.mem p hp
   obtain ⟨z,g3,g4⟩:=zb6.1 g1
   obtain ⟨j,hj,g5⟩:=List.mem_iff_getElem.1 g3
   rw [List.length_take] at hj
   have:=h3 j i (by omega) hi
   rw [← g2,← g4]
   simp only
   rw [← g5,List.getElem_take]
   rw [List.getD_eq_getElem?_getD,List.getElem?_eq_getElem (by omega:j < r1.length)] at this
   exact this
  generalize hxe:r1.getD i default=x at *
  rw [htk]
  clear htk
  let G:Option (Ctl (List Line_Update) Empty)→Prop:=fun q=>∃ s',q=some (.next s')∧∃ S,R2 za7 s' S∧SS cU (PR (fun x=>x.diff) (r1.take i)++[(x,x.diff)]) S∧S.length≤i + 1
  refine jn_P (G:=G) (P:=fun b=>∃ (b' : List Line_Update) (y:Line_Update) (S' : List (Update × Int)) (s:Int),b=b' ++ [y]∧b.length≤i + 1∧R2 za7 b' S' ∧ repT y.tally s∧SS cU (PR (fun x=>x.diff) (r1.take i)++[(x,x.diff)]) (S' ++ [(y.of,s + x.diff)])) ?_ ?_
  ·rintro _ ⟨b',y,S',s,rfl,q0,q1,q2,q3⟩
   simp only [List.length_append,List.length_singleton] at q0 ⊢
   rw [wsub1 (by omega) (by omega),z06 (by omega)]
   obtain ⟨t,g1,g2⟩:=zm2 (a:=b') (x:=y) hx q2
   unfold z6l
   simp only [Option.bind_some,Nat.add_sub_cancel,Nat.zero_add,Int.toNat_natCast]
   rw [g1]
   simp only [Option.bind_some]
   rw [z06 (by simp)]
   refine ⟨_,rfl,_,R2.app q1 (R2.one (show za7 ⟨t,y.of⟩ (y.of,s + x.diff) from ⟨rfl,g2⟩)),q3,?_⟩
   have:=q1.len
   simp only [List.length_append,List.length_singleton]
   omega
  ·simp only [jn_eq,z07]
   have hlen2:=k1.len
   rcases List.eq_nil_or_concat S with rfl | ⟨A,p,rfl⟩
   ·have ha:a=[]:=List.eq_nil_of_length_eq_zero hlen2
    subst ha
    rw [if_pos (by simp),z5w,z06 (by simp)]
    refine ⟨_,⟨[],_,[],0,rfl,by simp,.nil,by simp [repT,inU64],?_⟩,rfl⟩
    have:=zjo (A:=[]) (B:=[]) (x:=x) (n:=x.diff) cU_is k2 (fun p hp=>by cases hp) (fun p hp=>by cases hp)
    simpa using this
   ·simp only [List.concat_eq_append] at *
    obtain ⟨a1,a2,rfl,u1,u2⟩:=R2.split k1
    cases u2 with
    | @cons y _ _ _ v t =>
     cases t
     obtain ⟨v1,v2⟩:=v
     have e1:(a1++[y]).length=a1.length + 1:=by simp
     have e2:=u1.len
     simp only [List.length_append,List.length_singleton] at k3
     rw [if_neg (by omega),e1,wsub1 (by omega) (by omega),z06 (by omega)]
     simp only [Nat.add_sub_cancel,Nat.zero_add,Int.toNat_natCast,zih]
     rw [z06 (by omega),z7p,v1]
     simp only [Option.bind_some]
     by_cases g:cU p.1 x=0
     ·rw [decide_eq_true g]
      simp only [Bool.not_true,z0z]
      refine ⟨_,⟨a1,y,A,p.2,rfl,by omega,u1,v2,?_⟩,?_⟩
      ·rw [v1]
       exact zna cU_is k2 g
      ·rw [e1,wsub1 (by omega) (by omega)]
       simp only [Nat.add_sub_cancel,Int.toNat_natCast]
     ·rw [decide_eq_false g]
      simp only [Bool.not_false,z5w]
      rw [z06 (by simp; omega)]
      refine ⟨_,⟨a1++[y],_,A++[p],0,rfl,by simp; omega,k1,by simp [repT,inU64],?_⟩,rfl⟩
      have:=zjo (A:=A++[p]) (B:=[]) (x:=x) (n:=x.diff) cU_is (by simpa using k2) (fun q hq=>by
       have h4:=hle p (by simp)
       have h5:cU q.1 p.1≤0:=by
        rcases List.mem_append.1 hq with hq | hq
        ·have h6:=k2.strict
         rw [List.pairwise_append] at h6
         have:=h6.2.2 q hq p (by simp)
         omega
        ·rw [List.mem_singleton.1 hq,cU_is.refl]; omega
       have h7:=cU_is.tr _ _ _ h5 h4
       by_cases h8:cU q.1 x=0
       ·exfalso
        have h9:cU x p.1≤0:=by rw [← cU_is.eqL p.1 h8]; exact h5
        have:=cU_is.anti p.1 x
        omega
       ·omega) (fun q hq=>by cases hq)
      simpa using this
 ·rintro a ⟨S,k1,k2,k3⟩
  have hb:∀ i,i < S.length → -85070591730234615865843651857942052864≤(S.getD i default).2∧(S.getD i default).2≤85070591730234615865843651857942052864:=fun i hi=>by
   rw [k2.sum _ (z2b hi)]
   have:=zfy (c:=cU) (y:=(S.getD i default).1) (l:=PR (fun x=>x.diff) r1) (fun p hp=>by
    obtain ⟨z,g1,g2⟩:=zb6.1 hp
    rw [← g2]; exact hl1 z g1)
   have e:(PR (fun x:Update=>x.diff) r1).length=r1.length:=by simp [PR]
   rw [e] at this
   omega
  have hrow:∀ i,i < S.length→(S.getD i default).1.row.length≤8:=fun i hi=>by
   obtain ⟨y,g1,g2⟩:=k2.mem _ (z2b hi)
   obtain ⟨z,g3,g4⟩:=zb6.1 g1
   rw [← g2,← g4]
   exact hr1 z g3
  have hlen2:=k1.len
  rw [hlen2]
  refine z8q (G:=fun q=>∃ R e,q=some (R,e,r1)∧Tot cU (fun x=>x.diff) z2z (PR (fun x=>x.diff) r1) R e∧R.length≤r1.length) (fun i (b:List Update)=>(∀ j,j < i→in64 (S.getD j default).2)∧b=left0 z2z (S.take i)) (fun b=>(∀ j,j < S.length→in64 (S.getD j default).2)∧b=left0 z2z S) (fun r=>r=([],10,r1)∧∃ j,j < S.length∧¬ in64 (S.getD j default).2) ⟨fun j hj=>by omega,rfl⟩ (fun b hb=>by
   rw [List.take_length] at hb; exact hb) ?_ ?_ ?_
  rotate_left 2
  ·rintro i b hi ⟨m1,m2⟩
   obtain ⟨v1,v2⟩:=k1.get hi
   rw [Nat.zero_add,z06 hi,zlr v2 (hb i hi)]
   simp only [Option.bind_some,z3x,z07]
   by_cases g:in64 (S.getD i default).2
   ·left
    rw [zdi g,v1]
    have hput:=zm6 (x:=(S.getD i default).1) (n:=(S.getD i default).2) (hrow i hi)
    have hlb:b.length≤i:=by
     rw [m2]
     have:=zbt z2z (S.take i)
     rw [List.length_take] at this
     omega
    rw [z22 hi,zi4,zhz,← m2]
    have m3:∀ j,j < i + 1→in64 (S.getD j default).2:=fun j hj=>by
     by_cases e:j=i
     ·subst e; exact g
     ·exact m1 j (by omega)
    by_cases g2:(S.getD i default).2=0
    ·exact ⟨b,by simp only [if_true,if_pos g2],m3,by rw [if_pos g2,List.append_nil]⟩
    ·refine ⟨b++[z2z (S.getD i default).1 (S.getD i default).2],?_,m3,by rw [if_neg g2]⟩
     simp only [if_true,if_neg g2,hput,Option.bind_some]
     rw [z06 (by simp; omega)]
   ·right; right
    rw [zc5 g]
    exact ⟨_,rfl,rfl,i,hi,g⟩
  ·rintro b ⟨g2,g3⟩
   refine ⟨_,_,rfl,.inl ⟨rfl,?_,?_⟩,by rw [g3]; have:=zbt z2z S; omega⟩
   ·rw [g3]
    exact zn9 (num:=fun x=>x.diff) (put:=z2z) cU_is (fun x n=>rfl) (fun x n y=>rfl) k2
   ·rw [zf6 cU_is k2]
    intro p hp
    obtain ⟨j,hj,e⟩:=List.mem_iff_getElem.1 hp
    have:=g2 j hj
    rw [List.getD_eq_getElem?_getD,List.getElem?_eq_getElem hj] at this
    rw [← e]; exact this
  ·rintro r ⟨g2,j,g3,g4⟩
   rw [g2]
   refine ⟨_,_,rfl,.inr ⟨rfl,rfl,?_⟩,Nat.zero_le _⟩
   rw [zf6 cU_is k2]
   intro h
   exact g4 (h _ (z2b g3))
end Go.Av
namespace Go.Av
open Go
set_option linter.unusedVariables false
set_option linter.unusedSimpArgs false
def cK (a b:Count):Int:=cmpL cmpV a.row b.row
def znj (x:Count) (n:Int):Count:=⟨x.row,n⟩
end Go.Av
namespace Go.Av
open Go
set_option linter.unusedVariables false
set_option linter.unusedSimpArgs false
section
variable {α:Type} [Inhabited α]
def zf8 (cmp : α → α → Option Int) (num : α → Int) (fuel:Nat) (a5:(List α) × (List Wide)) (x : α):Option (Ctl ((List α) × (List Wide)) Empty) :=
 outK (loopN (S:=Int) (R:=Empty) (fun (a17:Int)=>jn (fun (a42:Bool)=>bf a42 (some (.next (IntKind.i64.wrap (a17 + 1)))) (some (.brk a17))) fun j43=>bf (decide (a17 < (a5.1.length:Int))) (need ((0:Int)≤a17∧a17 < (a5.1.length:Int)) <| need ((0 + a17.toNat) < a5.1.length) <| (cmp (a5.1.getD (0 + a17.toNat) default) x).bind fun r47=>j43 (decide (r47 < 0))) (j43 false)) fuel 0) (fun (a18:Int)=>jn (fun (a19:(List α) × (List Wide))=>need ((0:Int)≤a18∧a18 < (a19.2.length:Int)) <| need ((0 + a18.toNat) < a19.2.length) <| (z23 (a19.2.getD (0 + a18.toNat) default) (num x)).bind fun r23=>need ((0:Int)≤a18∧a18 < (a19.2.length:Int)) <| need ((0 + a18.toNat) < a19.2.length) <| some (.next (a19.1,(a19.2.set (0 + a18.toNat) r23)))) fun j20=>jn (fun (a26:Bool)=>bf a26 (need ((0:Int)≤0∧(0:Int)≤a18∧a18≤(a5.1.length:Int)) <| need ((sub a5.1 (0:Int) a18).length≤274877906944) <| need ((sub a5.1 (0:Int) a18).length + ([x]:List α).length≤274877906944) <| need ((0:Int)≤a18∧a18≤(a5.1.length:Int)∧(a5.1.length:Int)≤(a5.1.length:Int)) <| need (((sub a5.1 (0:Int) a18)++([x]:List α)).length + (sub a5.1 a18 (a5.1.length:Int)).length≤274877906944) <| need ((0:Int)≤0∧(0:Int)≤a18∧a18≤(a5.2.length:Int)) <| need ((sub a5.2 (0:Int) a18).length≤274877906944) <| need ((sub a5.2 (0:Int) a18).length + ([(⟨0,0⟩:Wide)]:List Wide).length≤274877906944) <| need ((0:Int)≤a18∧a18≤(a5.2.length:Int)∧(a5.2.length:Int)≤(a5.2.length:Int)) <| need (((sub a5.2 (0:Int) a18)++([(⟨0,0⟩:Wide)]:List Wide)).length + (sub a5.2 a18 (a5.2.length:Int)).length≤274877906944) <| j20 ((((sub a5.1 (0:Int) a18)++([x]:List α))++(sub a5.1 a18 (a5.1.length:Int))),(((sub a5.2 (0:Int) a18)++([(⟨0,0⟩:Wide)]:List Wide))++(sub a5.2 a18 (a5.2.length:Int))))) (j20 (a5.1,a5.2))) fun j27=>bf (decide (a18=(a5.1.length:Int))) (j27 true) (need ((0:Int)≤a18∧a18 < (a5.1.length:Int)) <| need ((0 + a18.toNat) < a5.1.length) <| (cmp (a5.1.getD (0 + a18.toNat) default) x).bind fun r41=>j27 (decide (0 < r41)))) (fun (x:Empty)=>x.elim)
def relS (a:(List α) × (List Wide)) (S:List (α × Int)):Prop:=a.1=S.map (·.1)∧R2 repW a.2 (S.map (·.2))
theorem zlc {cmp : α → α → Option Int} {c : α → α → Int} {num : α → Int} {fuel:Nat} {a:(List α) × (List Wide)} {l S:List (α × Int)} {x : α} (hC:IsCmp c) (hc:∀ p ∈ S,cmp p.1 x=some (c p.1 x)) (h:SS c l S) (ha:relS a S)
  (hn:S.length≤4000000) (hf:S.length < fuel) (hx:in64 (num x)) (hb:∀ p ∈ S, -85070591730234615865843651857942052864≤p.2∧p.2≤85070591730234615865843651857942052864) :
  ∃ a' S',zf8 cmp num fuel a x=some (.next a')∧relS a' S' ∧ SS c (l++[(x,num x)]) S' ∧ S'.length≤S.length + 1:=by
 obtain ⟨a1,a2⟩:=a
 obtain ⟨r1,r2⟩:=ha
 simp only at r1 r2
 subst r1
 unfold zf8
 have hl:((S.map (·.1)).length:Int)=(S.length:Int):=by simp
 let G:Option (Ctl ((List α) × (List Wide)) Empty)→Prop:=fun q=>∃ a' S',q=some (.next a')∧relS a' S' ∧ SS c (l++[(x,num x)]) S' ∧ S'.length≤S.length + 1
 have hget:∀ i,i < S.length→(S.map (·.1)).getD i default=(S.getD i default).1:=fun i hi=>by
  simp [List.getD_eq_getElem?_getD,List.getElem?_eq_getElem hi]
 refine z9a (G:=G) (P:=fun s=>∃ k:Nat,s=(k:Int)∧k≤S.length∧(∀ j,j < k→c (S.getD j default).1 x < 0)∧(k=S.length∨¬ c (S.getD k default).1 x < 0)) ?_ ?_
 ·refine zal (I:=fun i s=>s=(i:Int)∧i≤S.length∧∀ j,j < i→c (S.getD j default).1 x < 0) (n:=S.length) _ hf ⟨rfl,Nat.zero_le _,fun j hj=>by omega⟩ ?_
  rintro i _ ⟨rfl,k1,k2⟩
  simp only [jn_eq,z07,hl,intlt]
  by_cases g:i < S.length
  ·rw [if_pos g,z06 (by omega),z06 (by simp; omega)]
   simp only [Nat.zero_add,Int.toNat_natCast,hget i g]
   rw [hc _ (z2b g)]
   simp only [Option.bind_some]
   by_cases g2:c (S.getD i default).1 x < 0
   ·left
    refine ⟨((i + 1:Nat):Int),?_,⟨rfl,by omega,fun j hj => ?_⟩,g⟩
    ·rw [if_pos g2,wadd1 (by omega)]
    ·by_cases e:j=i
     ·subst e; exact g2
     ·exact k2 j (by omega)
   ·right
    rw [if_neg g2]
    exact ⟨_,rfl,i,rfl,k1,k2,.inr g2⟩
  ·right
   rw [if_neg g,z0z]
   exact ⟨_,rfl,i,rfl,k1,k2,.inl (by omega)⟩
 ·rintro _ ⟨k,rfl,k1,k2,k3⟩
  have hS:S=S.take k++S.drop k:=(List.take_append_drop k S).symm
  have hkl:(S.take k).length=k:=by rw [List.length_take]; omega
  have hA:∀ p ∈ S.take k,c p.1 x < 0:=fun p hp=>by
   obtain ⟨j,hj,e⟩:=List.mem_iff_getElem.1 hp
   have:=k2 j (by omega)
   rw [List.getElem_take] at e
   rw [List.getD_eq_getElem?_getD,List.getElem?_eq_getElem (by omega:j < S.length)] at this
   rw [← e]; exact this
  have hr2:R2 repW a2 (S.map (·.2)):=r2
  refine jn_P (G:=G) (P:=fun b=>∃ (A:List (α × Int)) (p : α × Int) (B:List (α × Int)),k=A.length∧relS b (A++p :: B)∧in64 (num x)∧(-85070591730234615865843651857942052864≤p.2∧p.2≤85070591730234615865843651857942052864)∧SS c (l++[(x,num x)]) (A++(p.1,p.2 + num x) :: B)∧(A++p :: B).length≤S.length + 1) ?_ ?_
  ·rintro ⟨b1,b2⟩ ⟨A,p,B,q0,⟨q1,q2⟩,q3,q4,q5,q6⟩
   simp only at q1 q2
   rw [List.map_append,List.map_cons] at q2
   obtain ⟨w1,w2,rfl,u1,u2⟩:=R2.split q2
   cases u2 with
   | @cons w _ w3 _ v t =>
    have e1:k=w1.length:=by rw [q0,u1.len]; simp
    have e2:=t.len
    simp only
    rw [z06 (by simp; omega),z06 (by simp; omega)]
    simp only [Int.toNat_natCast,Nat.zero_add]
    rw [e1,zgb]
    obtain ⟨w',g1,g2⟩:=zmp q3 v q4
    rw [g1]
    simp only [Option.bind_some]
    rw [z06 (by simp; omega),z06 (by simp),zfa]
    refine ⟨_,_,rfl,⟨?_,?_⟩,q5,?_⟩
    ·simp only; rw [q1]; simp
    ·simp only [List.map_append,List.map_cons]
     exact R2.app u1 (.cons g2 t)
    ·simpa using q6
  ·simp only [jn_eq,z07,hl]
   have hnew:(k=S.length∨0 < c (S.getD k default).1 x)→∀ p ∈ S.drop k,c x p.1 < 0:=fun hk p hp=>by
    rcases hk with hk | hk
    ·rw [hk,List.drop_length] at hp; cases hp
    ·by_cases e:k < S.length
     ·rw [z1b e] at hp
      have h0:c x (S.getD k default).1 < 0:=hC.gt_iff.1 hk
      rcases List.mem_cons.1 hp with rfl | hp
      ·exact h0
      ·have hs:=h.strict
       rw [hS,z1b e,List.pairwise_append,List.pairwise_cons] at hs
       have:=hs.2.1.1 p hp
       exact hC.lt_tr h0 (by omega)
     ·rw [List.drop_eq_nil_of_le (by omega)] at hp; cases hp
   have fin:(k=S.length∨0 < c (S.getD k default).1 x)→relS (((S.map (·.1)).take k++[x])++(S.map (·.1)).drop k,(a2.take k++[(⟨0,0⟩:Wide)])++a2.drop k) (S.take k++(x,0) :: S.drop k)∧SS c (l++[(x,num x)]) (S.take k++(x,0 + num x) :: S.drop k):=fun hk=>by
    refine ⟨⟨?_,?_⟩,?_⟩
    ·simp
    ·rw [hS,List.map_append] at hr2
     obtain ⟨w1,w2,e,u1,u2⟩:=R2.split hr2
     have e1:w1.length=k:=by rw [u1.len,List.length_map,hkl]
     simp only [e,List.map_append,List.map_cons,← e1,List.take_left,List.drop_left,List.append_assoc]
     rw [e1]
     exact R2.app u1 (.cons ⟨by simp [inU64],by simp⟩ u2)
    ·rw [Int.zero_add]
     refine zjo hC (by rw [← hS]; exact h) hA (hnew hk)
   have hsub:∀ {β:Type} (L:List β),L.length=S.length→sub L (0:Int) (k:Int)=L.take k∧sub L (k:Int) (S.length:Int)=L.drop k:=fun {β} L hL=>by
    unfold sub
    constructor
    ·simp
    ·rw [List.take_of_length_le]
     ·simp
     ·rw [List.length_drop]; simp; omega
   have hl2:a2.length=S.length:=by rw [r2.len]; simp
   have i1:=hsub (S.map (·.1)) (by simp)
   have i2:=hsub a2 hl2
   by_cases g:k=S.length
   ·rw [if_pos (by omega),z5w]
    obtain ⟨f1,f2⟩:=fin (.inl g)
    refine ⟨_,⟨S.take k,(x,0),S.drop k,hkl.symm,f1,hx,by simp,f2,by simp; omega⟩,?_⟩
    rw [hl2,i1.1,i1.2,i2.1,i2.2,z06 (by omega),z06 (by simp; omega),z06 (by simp; omega),z06 (by omega),z06 (by simp; omega),z06 (by omega),z06 (by simp; omega),z06 (by simp; omega),z06 (by omega),z06 (by simp; omega)]
   ·have gl:k < S.length:=by omega
    rw [if_neg (by omega),z06 (by omega),z06 (by simp; omega)]
    simp only [Nat.zero_add,Int.toNat_natCast,hget k gl]
    rw [hc _ (z2b gl)]
    simp only [Option.bind_some]
    by_cases g2:0 < c (S.getD k default).1 x
    ·rw [if_pos g2]
     obtain ⟨f1,f2⟩:=fin (.inr g2)
     refine ⟨_,⟨S.take k,(x,0),S.drop k,hkl.symm,f1,hx,by simp,f2,by simp; omega⟩,?_⟩
     rw [hl2,i1.1,i1.2,i2.1,i2.2,z06 (by omega),z06 (by simp; omega),z06 (by simp; omega),z06 (by omega),z06 (by simp; omega),z06 (by omega),z06 (by simp; omega),z06 (by simp; omega),z06 (by omega),z06 (by simp; omega)]
    ·rw [if_neg g2]
     have g3:c (S.getD k default).1 x=0:=by
      rcases k3 with k3 | k3
      ·omega
      ·omega
     rw [z1b gl] at hS
     refine ⟨(S.map (·.1),a2),⟨S.take k,S.getD k default,S.drop (k + 1),hkl.symm,⟨?_,?_⟩,hx,hb _ (z2b gl),zna hC (by rw [← hS]; exact h) g3,?_⟩,by simp only [Nat.zero_add,Int.toNat_natCast]⟩
     ·rw [← hS]
     ·rw [← hS]; exact r2
     ·rw [← hS]; omega
end
end Go.Av
namespace Go.Av
open Go
set_option linter.unusedVariables false
set_option linter.unusedSimpArgs false
theorem zhv (v:Int):thenC 0 v=v:=rfl
theorem zau {u v:Int} (h:u ≠ 0):thenC u v=u:=if_neg h
theorem z9c {X:Type} [Inhabited X] {R:Type} {B:Nat→Unit→Option (Ctl Unit R)} {l:List X} (e:X→Int) (f:Int→R) (hB:∀ i,i < l.length→B i ()=if e (l.getD i default)=0 then some (.next ()) else some (.ret (f (e (l.getD i default))))) :
  z08 B l.length 0 ()=if l.foldr (fun x v=>thenC (e x) v) 0=0 then some (.done ()) else some (.ret (f (l.foldr (fun x v=>thenC (e x) v) 0))):=by
 have key:∀ k i,i + k=l.length→z08 B k i ()=if (l.drop i).foldr (fun x v=>thenC (e x) v) 0=0 then some (.done ()) else some (.ret (f ((l.drop i).foldr (fun x v=>thenC (e x) v) 0))):=by
  intro k
  induction k with
  | zero =>
   intro i hi
   rw [List.drop_eq_nil_of_le (by omega)]
   rfl
  | succ k ih =>
   intro i hi
   rw [z1b (by omega:i < l.length)]
   simp only [z08,hB i (by omega),List.foldr_cons]
   by_cases h:e (l.getD i default)=0
   ·simp only [h,if_true,zhv]
    exact ih (i + 1) (by omega)
   ·simp only [zau h,if_neg h]
 have:=key l.length 0 (by omega)
 rwa [List.drop_zero] at this
theorem zk0 {S R:Type} {B B' : Nat→S→Option (Ctl S R)} {n:Nat} {s:S} (h:∀ i s,i < n→B i s=B' i s):z08 B n 0 s=z08 B' n 0 s:=by
 have key:∀ k i s,i + k=n→z08 B k i s=z08 B' k i s:=by
  intro k
  induction k with
  | zero=>intro i s hi; rfl
  | succ k ih =>
   intro i s hi
   simp only [z08,h i s (by omega)]
   cases B' i s with
   | none=>rfl
   | some c=>cases c <;> simp only [ih (i + 1) _ (by omega)]
 exact key n 0 s (by omega)
def errU (u:Update):Int:=thenC (if okRow u.key then 0 else 4) (thenC (if okRow u.row then 0 else 4) (if okT u.time then 0 else 1))
def chkL (l:List Update):Int:=l.foldr (fun u v=>thenC (errU u) v) 0
def okU (u:Update):Prop:=okRow u.key=true∧okRow u.row=true∧okT u.time=true
theorem zmy {u:Update}:errU u=0↔okU u:=by
 unfold errU okU thenC
 by_cases h1:okRow u.key=true <;> by_cases h2:okRow u.row=true <;> by_cases h3:okT u.time=true <;> simp [h1,h2,h3]
theorem z9d {u v:Int}:thenC u v=0↔u=0∧v=0:=by unfold thenC; split <;> omega
theorem z8t {l:List Update}:chkL l=0↔∀ u ∈ l,okU u:=by
 induction l with
 | nil=>simp [chkL]
 | cons u l ih =>
  unfold chkL at *
  rw [List.foldr_cons,z9d,zmy,ih]
  simp
theorem zko (u v w:Int):thenC (thenC u v) w=thenC u (thenC v w):=by
 by_cases h1:u=0
 ·subst h1; rfl
 ·rw [zau h1,zau h1,zau h1]
theorem z6u (a b:List Update):chkL (a++b)=thenC (chkL a) (chkL b):=by
 induction a with
 | nil=>simp [chkL,thenC]
 | cons u a ih =>
  unfold chkL at *
  rw [List.cons_append,List.foldr_cons,List.foldr_cons,ih,zko]
theorem z7n {fuel:Nat} (hf:5 < fuel) (l:List Update):z5m fuel l=some (chkL l):=by
 unfold z5m
 rw [z9c errU (fun x=>x)]
 ·show outK (if chkL l=0 then _ else some (.ret (chkL l))) _ _=_
  split
  ·rename_i h; rw [h]; rfl
  ·rfl
 ·intro i hi
  rw [zdw,zdw,zcz hf]
  simp only [Option.bind_some,zph,z3x,z07]
  rfl
theorem zaf (l:List Update):z3i l=some (chkL l):=by
 unfold z3i
 rw [z9c errU (fun x=>x)]
 ·show outK (if chkL l=0 then _ else some (.ret (chkL l))) _ _=_
  split
  ·rename_i h; rw [h]; rfl
  ·rfl
 ·intro i hi
  simp only [List.length_cons,List.length_nil,Nat.zero_add,Nat.reduceAdd,z08,List.getD_cons_zero,List.getD_cons_succ,zkm,zai,Option.bind_some,z3x,z07]
  generalize l.getD i default=u
  unfold errU thenC
  by_cases h1:okRow u.key=true <;> by_cases h2:okRow u.row=true <;> by_cases h3:okT u.time=true <;> simp [h1,h2,h3,outK]
theorem zc1 {fuel:Nat} {a b:Update} (h1:a.key.length < fuel) (h2:a.row.length < fuel) (h3:a.key.length≤maxN) (h4:a.row.length≤maxN):z1w fuel a b=some (cU a b):=by
 unfold z1w cU thenC
 simp only [zhg _ _ h1 h3,zhg _ _ h2 h4,zdv,Option.bind_some,jn_eq,z07]
 by_cases e1:cmpL cmpV a.key b.key=0
 ·rw [if_pos e1,if_pos e1]
  by_cases e2:cmpL cmpV a.row b.row=0
  ·rw [if_pos e2,if_pos e2]
  ·rw [if_neg e2,if_neg e2]
 ·rw [if_neg e1,if_neg e1,if_neg e1]
theorem zol {a b:Update} (ha:okU a) (hb:okU b) (h:cU a b=0) (hd:a.diff=b.diff):a=b:=by
 unfold cU at h
 rw [z9d,z9d,zbh (z8z ha.1).1 (z8z hb.1).1,zbh (z8z ha.2.1).1 (z8z hb.2.1).1,zmr] at h
 rcases a with ⟨k,r,t,d⟩; rcases b with ⟨k',r',t',d'⟩
 obtain ⟨e1,e2,e3⟩:=h
 simp only at e1 e2 e3 hd
 rw [e1,e2,e3,hd]
theorem zgc {p:List Value} (h:p.length≤8):z4l p=some p:=by
 unfold z4l
 rw [z06 (by omega)]
theorem zjs {p:List Value} (h:p.length≤8):z0t p=some p:=by
 unfold z0t
 rw [z06 (by omega)]
theorem zf5 {u:Update} (h:okU u):u.key.length≤8∧u.row.length≤8:=⟨(z8z h.1).2,(z8z h.2.1).2⟩
theorem zec {l:List Update} (h:∀ u ∈ l,okU u) (hn:l.length≤4000000):z30 l=some l:=by
 unfold z30
 rw [z31 l (fun i a=>a=l.take i) (fun s hs=>by rw [hs,List.take_length])]
 ·rfl
 ·intro i a hi ha
  obtain ⟨h1,h2⟩:=zf5 (h _ (z2b hi))
  refine ⟨_,?_,rfl⟩
  rw [zgc h1,zgc h2]
  simp only [Option.bind_some]
  rw [z06 (by rw [ha,List.length_take]; simp; omega),ha,z22 hi]
 ·rfl
theorem ziy {X:Type} [Inhabited X] {l:List X} {i:Nat} (h:i < l.length):l.set i (l.getD i default)=l:=by
 rw [List.getD_eq_getElem?_getD,List.getElem?_eq_getElem h]
 exact List.set_getElem_self h
theorem zpo {l:List Update} (h:∀ u ∈ l,okU u) (hn:l.length≤4000000):z6v l=some l:=by
 unfold z6v
 have hlim:(l.length:Int)≤(lim:Int):=by simp only [lim]; omega
 rw [z06 ⟨by omega,by omega,hlim⟩,z06 (by simp)]
 have e:copyL (List.replicate l.length ((⟨([]:List Value),([]:List Value),(⟨0,(0,0)⟩:Time),0⟩:Update):Update)) l=l:=by
  unfold copyL
  rw [List.drop_eq_nil_of_le (by simp)]
  simp
 rw [e]
 rw [z31 l (fun i a=>a=l) (fun s hs=>hs)]
 ·rfl
 ·intro i a hi ha
  subst ha
  obtain ⟨h1,h2⟩:=zf5 (h _ (z2b hi))
  refine ⟨_,?_,rfl⟩
  have e1:(⟨(a.getD i default).key,(a.getD i default).row,(a.getD i default).time,(a.getD i default).diff⟩:Update)=a.getD i default:=rfl
  simp only [Nat.zero_add]
  rw [z06 (by omega),z06 hi,zjs h1]
  simp only [Option.bind_some]
  rw [z06 (by omega),z06 hi,zjs h2]
  simp only [Option.bind_some]
  rw [z06 (by omega),z06 hi,z06 (by omega),z06 (by simp; exact hi),e1,ziy hi,e1,ziy hi]
 ·rfl
end Go.Av
namespace Go.Av
open Go
set_option linter.unusedVariables false
set_option linter.unusedSimpArgs false
set_option linter.unusedSectionVars false
section
variable {α:Type} [Inhabited α]
def growG (z : α) (p1:Int):Option (List α) :=
 bf (decide (p1 < 0)) (none) (jn (fun (a1:List α)=>some a1) fun j2=>bf (decide (0 < (IntKind.i64.wrap (p1 - (IntKind.i64.wrap ((0:Int) - 0)))))) (need ((0:Int) < (IntKind.i64.wrap (p1 - (IntKind.i64.wrap ((0:Int) - 0))))∧(IntKind.i64.wrap (p1 - (IntKind.i64.wrap ((0:Int) - 0))))≤(lim:Int)) <| need ((0:Int)≤0∧(0:Int)≤0∧(0:Int)≤((List.replicate ((IntKind.i64.wrap (p1 - (IntKind.i64.wrap ((0:Int) - 0)))).toNat) z).length:Int)) <| j2 ((List.replicate ((IntKind.i64.wrap (p1 - (IntKind.i64.wrap ((0:Int) - 0)))).toNat) z).take 0)) (j2 ([]:List α)))
def concG (z : α) (p0:List (List α)):Option (List α) :=
 outK (z08 (S:=Int) (R:=Empty) (fun i1 (a2:Int)=>bf (decide ((IntKind.i64.wrap (a2 + ((p0.getD i1 default).length:Int))) < 0)) (none) (some (.next (IntKind.i64.wrap (a2 + ((p0.getD i1 default).length:Int)))))) p0.length 0 0) (fun (a3:Int)=>(growG z a3).bind fun r4=>outK (z08 (S:=List α) (R:=Empty) (fun i5 (a6:List α)=>need (a6.length + (p0.getD i5 default).length≤274877906944) <| some (.next (a6++(p0.getD i5 default)))) p0.length 0 r4) (fun (a7:List α)=>some a7) (fun (x:Empty)=>x.elim)) (fun (x:Empty)=>x.elim)
theorem z8w {l:List (List α)} {i:Nat} (h:i < l.length):(l.take (i + 1)).flatten=(l.take i).flatten++l.getD i default:=by
 rw [z22 h]; simp
theorem zde {l:List (List α)} {i:Nat} (h:i < l.length):l.flatten=(l.take i).flatten++(l.getD i default++(l.drop (i + 1)).flatten):=by
 have e:l=l.take i++l.getD i default :: l.drop (i + 1):=by rw [← z1b h,List.take_append_drop]
 have e2:=congrArg List.flatten e
 rw [List.flatten_append,List.flatten_cons] at e2
 exact e2
theorem zfc {l:List (List α)} {i:Nat} (h:i < l.length):(l.take i).flatten.length + (l.getD i default).length≤l.flatten.length:=by
 have:=congrArg List.length (zde h)
 simp only [List.length_append] at this
 omega
theorem zoa {z : α} {n:Nat} (hn:n≤4000000):growG z (n:Int)=some []:=by
 unfold growG
 have e:IntKind.i64.wrap ((n:Int) - IntKind.i64.wrap ((0:Int) - 0))=(n:Int):=by
  rw [show IntKind.i64.wrap ((0:Int) - 0)=0 by rfl,z1t (by omega) (by omega)]; omega
 rw [e]
 simp only [z07,jn_eq]
 rw [if_neg (by omega)]
 split
 ·rw [z06 (by simp only [lim]; omega),z06 (by simp)]
  simp
 ·rfl
theorem zjc {z : α} {p0:List (List α)} (hn:p0.flatten.length≤4000000):concG z p0=some p0.flatten:=by
 unfold concG
 have h1:=fun B h=>z31 (R:=Empty) (B:=B) (n:=p0.length) (s:=(0:Int)) ((p0.flatten.length:Nat):Int) (fun i a=>a=(((p0.take i).flatten.length:Nat):Int)) (fun s hs=>by rw [hs,List.take_length]) h (by rfl)
 rw [h1]
 ·simp only [z2a,zoa hn,Option.bind_some]
  rw [z31 p0.flatten (fun i a=>a=(p0.take i).flatten) (fun s hs=>by rw [hs,List.take_length])]
  ·rfl
  ·intro i a hi ha
   refine ⟨_,?_,rfl⟩
   have:=zfc hi
   rw [z06 (by rw [ha]; omega),ha,z8w hi]
  ·rfl
 ·intro i a hi ha
  have:=zfc hi
  refine ⟨_,?_,rfl⟩
  rw [ha,wadd (by omega),z8w hi,List.length_append]
  simp only [z07]
  rw [if_neg (by omega)]
theorem zp7 {cmp : α → α → Option Int} {c : α → α → Int} {num : α → Int} {fuel:Nat} {l:List α} (hC:IsCmp c) (hc:∀ x ∈ l,∀ y ∈ l,cmp x y=some (c x y)) (hn:l.length≤4000000) (hf:l.length < fuel) (hl:∀ x ∈ l,in64 (num x))
  {B:Nat→(List α) × (List Wide)→Option (Ctl ((List α) × (List Wide)) Empty)} (hB:∀ i a,i < l.length→B i a=zf8 cmp num fuel a (l.getD i default)) :
  ∃ a,z08 B l.length 0 ([],[])=some (.done a)∧∃ S,relS a S∧SS c (PR num l) S∧S.length≤l.length:=by
 have:=z98 (B:=B) (n:=l.length) (fun i a=>∃ S,relS a S∧SS c (PR num (l.take i)) S∧S.length≤i) (s:=([],[])) ⟨[],⟨rfl,.nil⟩,zmb,Nat.le_refl _⟩ (by
  rintro i a hi ⟨S,k1,k2,k3⟩
  have hm:∀ p ∈ S,p.1 ∈ l:=fun p hp=>by
   obtain ⟨y,g1,g2⟩:=k2.mem p hp
   obtain ⟨z,g3,g4⟩:=zb6.1 g1
   rw [← g2,← g4]
   exact List.mem_of_mem_take g3
  obtain ⟨a',S',g1,g2,g3,g4⟩:=zlc (fuel:=fuel) (num:=num) hC (x:=l.getD i default) (fun p hp=>hc _ (hm p hp) _ (z2b hi)) k2 k1 (by omega) (by omega) (hl _ (z2b hi)) (fun p hp=>by
   rw [k2.sum p hp]
   have:=zfy (c:=c) (y:=p.1) (l:=PR num (l.take i)) (fun p hp=>by
    obtain ⟨z,g1,g2⟩:=zb6.1 hp
    rw [← g2]; exact hl z (List.mem_of_mem_take g1))
   have e:(PR num (l.take i)).length=i:=by simp [PR]; omega
   rw [e] at this
   omega)
  refine ⟨a',by rw [hB i a hi,g1],S',g2,?_,by omega⟩
  rw [z22 hi,zi9]
  exact g3)
 simpa only [List.take_length] using this
theorem zou {put : α → Int → α} {l S:List (α × Int)} {n:Nat} (hSn:n=S.length) {B:Nat→List α → Option (Ctl (List α) ((List α) × Int))}
  (hB:∀ i b,i < S.length→b.length≤i→in64 (S.getD i default).2→B i b=some (.next (if (S.getD i default).2=0 then b else b++[put (S.getD i default).1 (S.getD i default).2])))
  (hB2:∀ i b,i < S.length→¬ in64 (S.getD i default).2→B i b=some (.ret ([],10))) :
  (z08 B n 0 []=some (.done (left0 put S))∧∀ p ∈ S,in64 p.2)∨(z08 B n 0 []=some (.ret ([],10))∧¬ ∀ p ∈ S,in64 p.2):=by
 subst hSn
 rcases zfl (B:=B) (n:=S.length) (fun i (b:List α)=>(∀ j,j < i→in64 (S.getD j default).2)∧b=left0 put (S.take i)) (fun b=>(∀ j,j < S.length→in64 (S.getD j default).2)∧b=left0 put S) (fun r=>r=([],10)∧∃ j,j < S.length∧¬ in64 (S.getD j default).2) (s:=[]) ⟨fun j hj=>by omega,rfl⟩ (by
  rintro i b hi ⟨m1,m2⟩
  have hlb:b.length≤i:=by
   rw [m2]
   have:=zbt put (S.take i)
   rw [List.length_take] at this
   omega
  by_cases g:in64 (S.getD i default).2
  ·left
   rw [hB i b hi hlb g]
   refine ⟨_,rfl,fun j hj => ?_,?_⟩
   ·by_cases e:j=i
    ·subst e; exact g
    ·exact m1 j (by omega)
   ·rw [z22 hi,zi4,zhz,← m2]
    split <;> simp
  ·right; right
   rw [hB2 i b hi g]
   exact ⟨_,rfl,rfl,i,hi,g⟩) (fun b hb=>by rw [List.take_length] at hb; exact hb) with ⟨b,g1,g2,g3⟩ | ⟨r,g1,g2,j,g3,g4⟩
 ·left
  refine ⟨by rw [g1,g3],fun p hp => ?_⟩
  obtain ⟨j,hj,e⟩:=List.mem_iff_getElem.1 hp
  have:=g2 j hj
  rw [List.getD_eq_getElem?_getD,List.getElem?_eq_getElem hj] at this
  rw [← e]; exact this
 ·right
  exact ⟨by rw [g1,g2],fun h=>g4 (h _ (z2b g3))⟩
end
end Go.Av
namespace Go.Av
open Go
set_option linter.unusedVariables false
set_option linter.unusedSimpArgs false
abbrev pU (l:List Update):List (Update × Int):=PR (fun x=>x.diff) l
abbrev pK (l:List Count):List (Count × Int):=PR (fun x=>x.n) l
abbrev TotU (l:List Update) (R:List Update) (e:Int):Prop:=Tot cU (fun x=>x.diff) z2z (pU l) R e
abbrev TotK (l:List Count) (R:List Count) (e:Int):Prop:=Tot cK (fun x=>x.n) znj (pK l) R e
theorem zdm {l R:List Update} {e:Int} (h:TotU l R e) (ho:∀ u ∈ l,okU u):∀ r ∈ R,okU r:=fun r hr=>by
 rcases h with ⟨_,h,_⟩ | ⟨_,rfl,_⟩
 ·obtain ⟨y,h1,h2⟩:=h.mem r hr
  obtain ⟨z,h3,h4⟩:=zb6.1 h1
  rw [h2,← h4]
  exact ho z h3
 ·cases hr
def zd7 (l R:List Update) (e:Int):Prop:=(chkL l ≠ 0∧R=[]∧e=chkL l)∨(chkL l=0∧TotU l R e)
theorem zhf:∀ ls:List (List Update),ls.foldr (fun x v=>thenC (chkL x) v) 0=chkL ls.flatten
 | []=>rfl
 | l :: ls=>by rw [List.foldr_cons,List.flatten_cons,z6u,zhf ls]
theorem zp2 {fuel:Nat} {ls:List (List Update)} (hf:20000000≤fuel) (hn:ls.flatten.length≤4000000) (hd:∀ u ∈ ls.flatten,in64 u.diff) :
  ∃ R e,z62 fuel ls=some (R,e)∧zd7 ls.flatten R e∧R.length≤ls.flatten.length:=by
 unfold z62
 rw [z9c chkL (fun w=>(([]:List Update),w)),zhf]
 ·by_cases h:chkL ls.flatten=0
  ·rw [if_pos h]
   simp only [z2a]
   rw [show z0p ls=some ls.flatten from zjc hn]
   simp only [Option.bind_some]
   have ho:=z8t.1 h
   obtain ⟨R,e,l',h1,h2,h3⟩:=zkd (fuel:=fuel) hd (fun u hu=>(zf5 (ho u hu)).2) hn hf
   rw [h1]
   simp only [Option.bind_some]
   rw [zpo (zdm h2 ho) (by omega)]
   exact ⟨R,e,rfl,.inr ⟨h,h2⟩,h3⟩
  ·rw [if_neg h]
   exact ⟨_,_,rfl,.inl ⟨h,rfl,rfl⟩,Nat.zero_le _⟩
 ·intro i hi
  rw [z7n (by omega)]
  simp only [Option.bind_some,z3x,z07]
theorem zlq {fuel:Nat} {ls:List (List Update)} (hf:20000000≤fuel) (hn:ls.flatten.length≤4000000) (hd:∀ u ∈ ls.flatten,in64 u.diff) :
  ∃ R e,z3c fuel ls=some (R,e)∧zd7 ls.flatten R e:=by
 unfold z3c
 let G:Option ((List Update) × Int)→Prop:=fun q=>∃ R e,q=some (R,e)∧zd7 ls.flatten R e
 refine z8q (G:=G) (fun i a=>a=(ls.take i).flatten∧chkL (ls.take i).flatten=0) (fun a=>a=ls.flatten∧chkL ls.flatten=0) (fun r=>r=([],chkL ls.flatten)∧chkL ls.flatten ≠ 0) ⟨rfl,rfl⟩ (fun a h=>by rw [List.take_length] at h; exact h) ?_ ?_ ?_
 ·rintro a ⟨rfl,h⟩
  have ho:=z8t.1 h
  obtain ⟨a,h1,S,h2,h3,h4⟩:=zp7 (cmp:=fun x y=>z1w fuel x y) (num:=fun x:Update=>x.diff) (l:=ls.flatten) (fuel:=fuel) cU_is (fun x hx y hy=>by
   have:=zf5 (ho x hx)
   exact zc1 (by omega) (by omega) (by unfold maxN; omega) (by unfold maxN; omega)) hn (by omega) hd
   (B:=fun i a5=>need ((0 + i) < ls.flatten.length) <| zf8 (fun x y=>z1w fuel x y) (fun x:Update=>x.diff) fuel a5 (ls.flatten.getD (0 + i) default)) (fun i a hi=>by
    rw [Nat.zero_add,z06 hi])
  refine z9a (G:=G) (P:=fun s=>s=a) ⟨a,h1,rfl⟩ ?_
  rintro ⟨a1,a2⟩ rfl
  obtain ⟨r1,r2⟩:=h2
  simp only at r1 r2
  subst r1
  have hmem:∀ p ∈ S,∃ u ∈ ls.flatten,u=p.1:=fun p hp=>by
   obtain ⟨y,g1,g2⟩:=h3.mem p hp
   obtain ⟨z,g3,g4⟩:=zb6.1 g1
   exact ⟨z,g3,by rw [← g2,← g4]⟩
  have hget:∀ i,i < S.length→(S.map (·.1)).getD i default=(S.getD i default).1:=fun i hi=>by
   simp [List.getD_eq_getElem?_getD,List.getElem?_eq_getElem hi]
  have hget2:∀ i,i < S.length→(S.map (·.2)).getD i default=(S.getD i default).2:=fun i hi=>by
   simp [List.getD_eq_getElem?_getD,List.getElem?_eq_getElem hi]
  have hl2:a2.length=S.length:=by rw [r2.len]; simp
  rcases zou (put:=z2z) (l:=pU ls.flatten) (S:=S) (n:=(S.map (·.1)).length) (by simp) (B:=fun i7 (a8:List Update)=>need ((0 + i7) < (S.map (·.1)).length) <| need ((0:Int)≤((i7:Nat):Int)∧((i7:Nat):Int) < (a2.length:Int)) <| need ((0 + i7) < a2.length) <| (z26 (a2.getD (0 + i7) default)).bind fun r14=>bf (!decide (r14.2=0)) (some (.ret (([]:List Update),r14.2))) (bf (!decide (r14.1=0)) (need (a8.length + ([(⟨((S.map (·.1)).getD (0 + i7) default).key,((S.map (·.1)).getD (0 + i7) default).row,((S.map (·.1)).getD (0 + i7) default).time,r14.1⟩:Update)]:List Update).length≤274877906944) <| some (.next (a8++([(⟨((S.map (·.1)).getD (0 + i7) default).key,((S.map (·.1)).getD (0 + i7) default).row,((S.map (·.1)).getD (0 + i7) default).time,r14.1⟩:Update)]:List Update)))) (some (.next a8))))
   (fun i b hi hb g=>by
    have hw:=r2.get (i:=i) (by simpa using hi)
    rw [hget2 i hi] at hw
    simp only [Nat.zero_add]
    rw [z06 (by simpa using hi),z06 (by omega),z06 (by omega),zjv hw,zdi g,hget i hi]
    simp only [Option.bind_some,z3x,z07,if_true]
    by_cases g2:(S.getD i default).2=0
    ·rw [if_pos g2,if_pos g2]
    ·rw [if_neg g2,if_neg g2,z06 (by simp; omega)]
     rfl)
   (fun i b hi g=>by
    have hw:=r2.get (i:=i) (by simpa using hi)
    rw [hget2 i hi] at hw
    simp only [Nat.zero_add]
    rw [z06 (by simpa using hi),z06 (by omega),z06 (by omega),zjv hw,zc5 g]
    rfl) with ⟨g1,g2⟩ | ⟨g1,g2⟩
  ·rw [← zf6 cU_is h3] at g2
   have hT:TotU ls.flatten (left0 z2z S) 0:=.inl ⟨rfl,zn9 (num:=fun x=>x.diff) (put:=z2z) cU_is (fun x n=>rfl) (fun x n y=>rfl) h3,g2⟩
   simp only
   rw [g1]
   simp only [z2a]
   rw [zec (zdm hT ho) (by have:=zbt z2z S; omega)]
   exact ⟨_,_,rfl,.inr ⟨h,hT⟩⟩
  ·rw [← zf6 cU_is h3] at g2
   simp only
   rw [g1]
   exact ⟨_,_,rfl,.inr ⟨h,.inr ⟨rfl,rfl,g2⟩⟩⟩
 ·rintro r ⟨rfl,h⟩
  exact ⟨_,_,rfl,.inl ⟨h,rfl,rfl⟩⟩
 ·rintro i a hi ⟨rfl,h⟩
  rw [zaf]
  simp only [Option.bind_some,z3x,z07]
  by_cases g:chkL (ls.getD i default)=0
  ·left
   have:=zfc hi
   rw [if_pos g,z06 (by omega)]
   exact ⟨_,rfl,by rw [z8w hi],by rw [z8w hi,z6u,h,g]; rfl⟩
  ·right; right
   have e:chkL ls.flatten=chkL (ls.getD i default):=by rw [zde hi,z6u,z6u,h,zhv,zau g]
   rw [if_neg g,e]
   exact ⟨_,rfl,rfl,g⟩
end Go.Av
namespace Go.Av
open Go
set_option linter.unusedVariables false
set_option linter.unusedSimpArgs false
theorem zpk (l:List Update):z5j l l=some true:=by
 unfold z5j
 rw [decide_eq_true rfl,Bool.not_true,z0z]
 rw [z31 () (fun _ _=>True) (fun _ _=>rfl)]
 ·rfl
 ·intro i a hi ha
  refine ⟨(),?_,trivial⟩
  have e:z0j (l.getD i default).time (l.getD i default).time=true:=by simp [z0j]
  simp only [jn_eq,zmc,Option.bind_some,Bool.not_true,z0z,e,decide_true]
  rw [z06 (by omega),z06 (by omega),z06 (by omega),z06 (by omega)]
 ·trivial
theorem zke {l l' R R' : List Update} {e e' : Int} (h:TotU l R e) (h' : TotU l' R' e') (ho:∀ u ∈ l,okU u) (ho' : ∀ u ∈ l',okU u) (hs:∀ y,sm cU (pU l) y=sm cU (pU l') y):R=R' ∧ e=e' :=
 zly cU_is h h' hs fun r hr r' hr' h1 h2=>zol (zdm h ho r hr) (zdm h' ho' r' hr') h1 h2
theorem zku {l R R' : List Update} {e e' : Int} (h:zd7 l R e) (h' : zd7 l R' e'):R=R' ∧ e=e':=by
 rcases h with ⟨h1,rfl,rfl⟩ | ⟨h1,h2⟩
 ·rcases h' with ⟨_,rfl,rfl⟩ | ⟨g1,_⟩
  ·exact ⟨rfl,rfl⟩
  ·exact absurd g1 h1
 ·rcases h' with ⟨g1,_⟩ | ⟨_,g2⟩
  ·exact absurd h1 g1
  ·exact zke h2 g2 (z8t.1 h1) (z8t.1 h1) fun _=>rfl
def zbe (u:Update):Prop:=u.key.length≤2000000∧u.row.length≤2000000
theorem zny {fuel:Nat} {a b:Update} (hf:20000000≤fuel) (h:zbe a):z1w fuel a b=some (cU a b) :=
 zc1 (by have:=h.1; omega) (by have:=h.2; omega) (by have:=h.1; unfold maxN; omega) (by have:=h.2; unfold maxN; omega)
theorem zot {fuel:Nat} {l:List Update} (hf:20000000≤fuel) (hn:l.length≤4000000) (hk:∀ u ∈ l,zbe u):∃ b,z4n fuel l=some b∧z3q fuel l=some b:=by
 have e:z3q fuel l=z4n fuel l:=by
  unfold z3q z4n
  rw [zaf,z7n (by omega)]
  congr 1
  refine zk0 fun i s hi => ?_
  simp only [jn_eq,z07]
  split
  ·rfl
  ·by_cases g:0 < ((i:Nat):Int)
   ·rw [if_pos g,if_pos g,wsub1 (by omega) (by omega),z06 (by omega),z06 (by omega),z7p,zny hf (hk _ (z2b (by rw [Int.toNat_natCast]; omega)))]
   ·rw [if_neg g,if_neg g]
 have hs:∃ b,z4n fuel l=some b:=by
  unfold z4n
  rw [z7n (by omega)]
  refine z8q (G:=fun q=>∃ b,q=some b) (fun _ _=>True) (fun _=>True) (fun _=>True) trivial (fun _ _=>trivial) (fun s _=>⟨_,rfl⟩) (fun r _=>⟨_,rfl⟩) ?_
  intro i s hi _
  simp only [jn_eq,z07]
  by_cases h0:(l.getD i default).diff=0
  ·rw [if_pos h0]
   exact .inr (.inr ⟨_,rfl,trivial⟩)
  ·rw [if_neg h0]
   by_cases g:0 < ((i:Nat):Int)
   ·rw [if_pos g,wsub1 (by omega) (by omega),z06 (by omega),z7p]
    simp only [Option.bind_some,z07]
    split
    ·exact .inr (.inr ⟨_,rfl,trivial⟩)
    ·exact .inl ⟨_,rfl,trivial⟩
   ·rw [if_neg g]
    exact .inl ⟨_,rfl,trivial⟩
 obtain ⟨b,hb⟩:=hs
 exact ⟨b,hb,e.trans hb⟩
end Go.Av
namespace Go.Av
open Go
set_option linter.unusedVariables false
set_option linter.unusedSimpArgs false
def glb2 (a x:Time):Time:=⟨if x.epoch < a.epoch then x.epoch else a.epoch,(if x.loop.1 < a.loop.1 then x.loop.1 else a.loop.1,if x.loop.2 < a.loop.2 then x.loop.2 else a.loop.2)⟩
def glbL:List Time→Time
 | []=>zeroT
 | x :: l=>l.foldl glb2 x
theorem zc9 (a:Time):z0j a a=true:=by simp [z0j]
theorem zft {l:List Time} (h:l ≠ []) (x:Time):glbL (l++[x])=glb2 (glbL l) x:=by
 cases l with
 | nil=>exact absurd rfl h
 | cons y l=>simp [glbL,List.foldl_append]
theorem zk9 (l:List Time):z4z l=some (glbL l):=by
 unfold z4z
 rw [z31 (glbL l) (fun i a=>a=glbL (l.take i)) (fun s h=>by rw [h,List.take_length])]
 ·rfl
 ·intro i a hi ha
  refine ⟨_,?_,rfl⟩
  rw [z22 hi]
  simp only [jn_eq,z08,z75,Option.bind_some,z07]
  rcases Nat.eq_zero_or_pos i with h0 | h0
  ·subst h0
   generalize l.getD 0 default=x at *
   simp [outK,glbL]
  ·rw [if_neg (by omega),zft (by intro h; have h2:=congrArg List.length h; rw [List.length_take] at h2; simp only [List.length_nil] at h2; omega),← ha]
   generalize l.getD i default=x at *
   simp [outK,glb2]
 ·rfl
theorem mn_eq (a b:Int):(if b < a then b else a)=min a b:=by split <;> omega
theorem zo0 {a b:Time} (h:leT a b=true) (g:leT b a=true):z0j a b=true:=by
 simp only [leT,z0j,Bool.and_eq_true,decide_eq_true_eq,Bool.and_true] at *
 omega
end Go.Av
namespace Go.Av
open Go
set_option linter.unusedVariables false
set_option linter.unusedSimpArgs false
def ltT (x y:Time):Bool:=decide (cmpT x y < 0)
theorem zin {a fuel:Nat} {B:Int × List Time→Option (Ctl (Int × List Time) Empty)} {j:Nat} {d:Array Time} (hj:j < d.size) (hf:j < fuel)
  (hB:∀ (j:Nat) (d' : Array Time),j < d'.size→d'.size=d.size→B ((j:Int),d'.toList)=if a < j∧ltT d'[j]! d'[j - 1]! = true then some (.next (((j - 1:Nat):Int),(Sort.swp d' j (j - 1)).toList)) else some (.brk ((j:Int),d'.toList))) :
  ∃ x:Int,loopN B fuel ((j:Int),d.toList)=some (.done (x,(Sort.insInner ltT a j d).toList)):=by
 induction j generalizing d fuel with
 | zero =>
  cases fuel with
  | zero=>omega
  | succ fuel =>
   refine ⟨0,z0w (s':=(((0:Nat):Int),d.toList)) ?_⟩
   rw [hB 0 d hj rfl,if_neg (by omega)]
 | succ j ih =>
  cases fuel with
  | zero=>omega
  | succ fuel =>
   have h:=hB (j + 1) d hj rfl
   rw [Nat.add_sub_cancel] at h
   unfold Sort.insInner
   by_cases hc:a < j + 1∧ltT d[j + 1]! d[j]! = true
   ·rw [if_pos hc] at h
    rw [z1e h,if_pos (by simp [hc.1,hc.2])]
    exact ih (by rw [z10]; omega) (by omega) (fun k d' h1 h2=>hB k d' h1 (by rw [h2,z10]))
   ·rw [if_neg hc] at h
    rw [z0w h,if_neg (by simpa using hc)]
    exact ⟨_,rfl⟩
theorem ziu {a b fuel:Nat} {B:Int × List Time→Option (Ctl (Int × List Time) Empty)} {n i:Nat} {d:Array Time} (hn:b - i=n) (hb:b≤d.size) (hf:b - i < fuel)
  (hB:∀ (i:Nat) (d' : Array Time),d'.size=d.size→B ((i:Int),d'.toList)=if i < b then some (.next (((i + 1:Nat):Int),(Sort.insInner ltT a i d').toList)) else some (.brk ((i:Int),d'.toList)))
  (hs:∀ (i:Nat) (d' : Array Time),(Sort.insInner ltT a i d').size=d'.size) :
  ∃ x:Int,loopN B fuel ((i:Int),d.toList)=some (.done (x,(Sort.insOuter ltT a b i d).toList)):=by
 induction n generalizing i d fuel with
 | zero =>
  cases fuel with
  | zero=>omega
  | succ fuel =>
   have h:=hB i d rfl
   rw [if_neg (by omega)] at h
   rw [z0w h,Sort.insOuter,if_neg (by omega)]
   exact ⟨_,rfl⟩
 | succ n ih =>
  cases fuel with
  | zero=>omega
  | succ fuel =>
   have h:=hB i d rfl
   rw [if_pos (by omega)] at h
   rw [z1e h,Sort.insOuter,if_pos (by omega)]
   exact ih (by omega) (by rw [hs]; omega) (by omega) (fun k d' h1=>hB k d' (by rw [h1,hs]))
theorem zcc (a:Nat):∀ (j:Nat) (d:Array Time),(Sort.insInner ltT a j d).size=d.size
 | 0,d=>rfl
 | j + 1,d=>by
  unfold Sort.insInner
  split
  ·rw [zcc a j,z10]
  ·rfl
theorem zk4 {fuel a b:Nat} {d:Array Time} (hb:b≤d.size) (hd:d.size < 4611686018427387904) (ha:a < 4611686018427387903) (hf:d.size < fuel) :
  z15 fuel (a:Int) (b:Int) d.toList=some (Sort.insertionSort ltT d a b).toList:=by
 unfold z15 Sort.insertionSort
 rw [wadd1 (by omega)]
 refine z6z (ziu (a:=a) (b:=b) (i:=a + 1) (d:=d) rfl hb (by omega) ?_ (zcc a)) (fun x=>rfl)
 intro i d' hd'
 simp only [z07,intlt]
 by_cases hi:i < b
 ·rw [if_pos hi,if_pos hi]
  refine z6z (zin (a:=a) (j:=i) (d:=d') (by omega) (by omega) ?_) (fun x => ?_)
  ·intro j e hj he
   simp only [jn_eq,z07,intlt]
   by_cases h1:a < j
   ·simp (disch:=omega) only [h1,if_true,wsub1,z06,Int.toNat_natCast,Nat.zero_add,Array.length_toList,List.length_set,z2k,Option.bind_some,z1p,z2r,true_and]
    unfold ltT
    by_cases h2:cmpT e[j]! e[j - 1]! < 0
    ·simp [h2]
    ·simp [h2]
   ·rw [if_neg h1,if_neg (fun h=>h1 h.1)]
    rfl
  ·rw [wadd1 (by omega)]
 ·rw [if_neg hi,if_neg hi]
end Go.Av
namespace Go.Av
open Go
set_option linter.unusedVariables false
set_option linter.unusedSimpArgs false
theorem zkj (hi first:Nat):∀ (n root:Nat) (d:Array Time),hi - root≤n→(Sort.siftDown ltT hi first root d).size=d.size:=by
 intro n
 induction n with
 | zero =>
  intro root d hn
  rw [Sort.siftDown,dif_pos (by omega)]
 | succ n ih =>
  intro root d hn
  rw [Sort.siftDown]
  split
  ·rfl
  ·split
   ·split
    ·rfl
    ·split
     ·rw [ih _ _ (by omega),z10]
     ·rfl
   ·split
    ·rfl
    ·rw [ih _ _ (by omega),z10]
def z6x (hi first root:Nat) (d:Array Time):Option Nat :=
 if 2 * root + 1 ≥ hi then none else
  let c:=if 2 * root + 1 + 1 < hi∧ltT d[first + (2 * root + 1)]! d[first + (2 * root + 1) + 1]! = true then 2 * root + 2 else 2 * root + 1
  if ltT d[first + root]! d[first + c]! = true then some c else none
theorem ze0 (hi first root:Nat) (d:Array Time):Sort.siftDown ltT hi first root d=match z6x hi first root d with
  | some c=>Sort.siftDown ltT hi first c (Sort.swp d (first + root) (first + c))
  | none=>d:=by
 rw [Sort.siftDown]
 unfold z6x
 by_cases h1:2 * root + 1 ≥ hi
 ·rw [dif_pos h1,if_pos h1]
 ·rw [dif_neg h1,if_neg h1]
  by_cases h2:2 * root + 1 + 1 < hi∧ltT d[first + (2 * root + 1)]! d[first + (2 * root + 1) + 1]! = true
  ·rw [if_pos (by simpa using h2)]
   simp only [if_pos h2]
   by_cases h3:ltT d[first + root]! d[first + (2 * root + 2)]! = true
   ·rw [if_neg (by simp [h3]),dif_pos (by omega)]
    simp only [h3,if_true]
   ·rw [if_pos (by simpa using h3)]
    simp only [if_neg h3]
  ·rw [if_neg (by simpa using h2)]
   simp only [if_neg h2]
   by_cases h3:ltT d[first + root]! d[first + (2 * root + 1)]! = true
   ·rw [if_neg (by simp [h3])]
    simp only [h3,if_true]
   ·rw [if_pos (by simpa using h3)]
    simp only [if_neg h3]
theorem zks {hi first root c:Nat} {d:Array Time} (h:z6x hi first root d=some c):root < c∧c < hi:=by
 unfold z6x at h
 split at h
 ·cases h
 ·dsimp only at h
  generalize hc:(if 2 * root + 1 + 1 < hi∧ltT d[first + (2 * root + 1)]! d[first + (2 * root + 1) + 1]! = true then 2 * root + 2 else 2 * root + 1)=k at h
  have hk:root < k∧k < hi:=by
   split at hc <;> omega
  split at h
  ·cases h; exact hk
  ·cases h
theorem zme {hi first fuel:Nat} {B:Int × List Time→Option (Ctl (Int × List Time) (List Time))} {Q:Type} {kn:Int × List Time→Option Q} {kr:List Time→Option Q} {q:Option Q} {n root:Nat} {d:Array Time}
  (hn:hi - root≤n) (hf:n < fuel) (hsz:first + hi≤d.size)
  (hB:∀ (root:Nat) (d' : Array Time),d'.size=d.size→root≤1152921504606846976→B ((root:Int),d'.toList)=if 2 * root + 1 ≥ hi then some (.brk ((root:Int),d'.toList)) else match z6x hi first root d' with
   | some c=>some (.next ((c:Int),(Sort.swp d' (first + root) (first + c)).toList))
   | none=>some (.ret d'.toList))
  (hr:root≤1152921504606846976) (hd:d.size≤1152921504606846976) (hkn:∀ x,kn (x,(Sort.siftDown ltT hi first root d).toList)=q) (hkr:kr (Sort.siftDown ltT hi first root d).toList=q) :
  outK (loopN B fuel ((root:Int),d.toList)) kn kr=q:=by
 induction n generalizing root d fuel with
 | zero =>
  cases fuel with
  | zero=>omega
  | succ fuel =>
   have h:=hB root d rfl hr
   have hs:=ze0 hi first root d
   have e:z6x hi first root d=none:=by unfold z6x; rw [if_pos (by omega)]
   rw [e] at hs
   simp only at hs
   rw [hs] at hkn hkr
   rw [if_pos (by omega)] at h
   rw [z0w h]; exact hkn _
 | succ n ih =>
  cases fuel with
  | zero=>omega
  | succ fuel =>
   have h:=hB root d rfl hr
   have hs:=ze0 hi first root d
   cases e:z6x hi first root d with
   | none =>
    rw [e] at h hs
    simp only at h hs
    rw [hs] at hkn hkr
    split at h
    ·rw [z0w h]; exact hkn _
    ·rw [z8r h]; exact hkr
   | some c =>
    have hc:=zks e
    have hlt:¬ 2 * root + 1 ≥ hi:=fun hh=>by unfold z6x at e; rw [if_pos hh] at e; cases e
    rw [e] at h hs
    rw [if_neg hlt] at h
    simp only at h hs
    rw [hs] at hkn hkr
    rw [z1e h]
    exact ih (by omega) (by omega) (by rw [z10]; omega) (fun r d' h1 h2=>hB r d' (by rw [h1,z10]) h2) (by omega) (by rw [z10]; omega) hkn hkr
theorem zfu {fuel lo hi first:Nat} {d:Array Time} (hsz:first + hi≤d.size) (hd:d.size < 1152921504606846976) (hlo:lo < 1152921504606846976) (hf:d.size < fuel) :
  z1q fuel (lo:Int) (hi:Int) (first:Int) d.toList=some (Sort.siftDown ltT hi first lo d).toList:=by
 unfold z1q
 refine zme (hi:=hi) (first:=first) (n:=hi) (by omega) (by omega) hsz ?_ (by omega) (by omega) (fun x=>rfl) rfl
 intro root e he hroot
 have hw1:IntKind.i64.wrap (IntKind.i64.wrap ((2:Int) * (root:Int)) + 1)=((2 * root + 1:Nat):Int):=by rw [wtwo (by omega),wadd1 (by omega)]
 simp only [hw1,z07,jn_eq]
 by_cases h1:2 * root + 1 ≥ hi
 ·rw [if_pos h1,if_pos (by omega)]
 ·rw [if_neg h1,if_neg (by omega)]
  unfold z6x
  rw [if_neg h1]
  have hw2:IntKind.i64.wrap (((2 * root + 1:Nat):Int) + 1)=((2 * root + 1 + 1:Nat):Int):=wadd1 (by omega)
  have hw3:IntKind.i64.wrap ((first:Int) + ((2 * root + 1:Nat):Int))=((first + (2 * root + 1):Nat):Int):=wadd (by omega)
  have hw4:IntKind.i64.wrap (((first + (2 * root + 1):Nat):Int) + 1)=((first + (2 * root + 1) + 1:Nat):Int):=wadd1 (by omega)
  have hw5:IntKind.i64.wrap ((first:Int) + (root:Int))=((first + root:Nat):Int):=wadd (by omega)
  have hw6:IntKind.i64.wrap ((first:Int) + ((2 * root + 1 + 1:Nat):Int))=((first + (2 * root + 2):Nat):Int):=by rw [wadd (by omega)]
  simp only [hw2,hw3,hw4,hw5,hw6,intlt,Int.toNat_natCast,Nat.zero_add]
  by_cases h2:2 * root + 1 + 1 < hi
  ·rw [if_pos h2]
   simp (disch:=omega) only [z06,Array.length_toList,z2k,Option.bind_some,z1p]
   by_cases h3:cmpT e[first + (2 * root + 1)]! e[first + (2 * root + 1) + 1]! < 0
   ·have h4:2 * root + 1 + 1 < hi∧ltT e[first + (2 * root + 1)]! e[first + (2 * root + 1) + 1]! = true:=⟨h2,by unfold ltT; simp [h3]⟩
    simp (disch:=omega) only [h3,if_true,if_pos h4,hw6,Int.toNat_natCast,Nat.zero_add,z06,Array.length_toList,List.length_set,z2k,Option.bind_some,z1p,z2r]
    unfold ltT
    by_cases h:cmpT e[first + root]! e[first + (2 * root + 2)]! < 0
    ·simp [h]; omega
    ·simp [h]
   ·have h4:¬ (2 * root + 1 + 1 < hi∧ltT e[first + (2 * root + 1)]! e[first + (2 * root + 1) + 1]! = true):=fun h=>h3 (by have:=h.2; unfold ltT at this; simpa using this)
    simp (disch:=omega) only [h3,if_false,if_neg h4,hw3,Int.toNat_natCast,Nat.zero_add,z06,Array.length_toList,List.length_set,z2k,Option.bind_some,z1p,z2r]
    unfold ltT
    by_cases h:cmpT e[first + root]! e[first + (2 * root + 1)]! < 0
    ·simp [h]
    ·simp [h]
  ·rw [if_neg h2]
   have h4:¬ (2 * root + 1 + 1 < hi∧ltT e[first + (2 * root + 1)]! e[first + (2 * root + 1) + 1]! = true):=fun h=>h2 h.1
   simp (disch:=omega) only [z0z,if_neg h4,hw3,Int.toNat_natCast,Nat.zero_add,z06,Array.length_toList,List.length_set,z2k,Option.bind_some,z1p,z2r]
   unfold ltT
   by_cases h:cmpT e[first + root]! e[first + (2 * root + 1)]! < 0
   ·simp [h]
   ·simp [h]
end Go.Av
namespace Go.Av
open Go
set_option linter.unusedVariables false
set_option linter.unusedSimpArgs false
theorem zb1 (hi first root:Nat) (d:Array Time):(Sort.siftDown ltT hi first root d).size=d.size:=zkj hi first hi root d (by omega)
theorem zif {B:Int × List Time→Option (Ctl (Int × List Time) Empty)} (g h:Nat→Array Time→Array Time) {k k0 fuel:Nat} {d:Array Time} (hk:k≤k0) (hg:∀ k d,(g k d).size=d.size) (hf:k < fuel)
  (hB:∀ (k:Nat) (d' : Array Time),k≤k0→d'.size=d.size→B ((k:Int) - 1,d'.toList)=match k with | 0=>some (.brk (-1,d'.toList)) | k + 1=>some (.next ((k:Int) - 1,(g k d').toList)))
  (h0:∀ d,h 0 d=d) (h1:∀ k d,h (k + 1) d=h k (g k d)) :
  ∃ x:Int,loopN B fuel ((k:Int) - 1,d.toList)=some (.done (x,(h k d).toList)):=by
 induction k generalizing d fuel with
 | zero =>
  cases fuel with
  | zero=>omega
  | succ fuel=>exact ⟨-1,by rw [z0w (hB 0 d hk rfl),h0]⟩
 | succ k ih =>
  cases fuel with
  | zero=>omega
  | succ fuel =>
   rw [z1e (hB (k + 1) d hk rfl),h1]
   exact ih (by omega) (by omega) (fun k' d' h2 h=>hB k' d' h2 (by rw [h,hg]))
theorem zbf (hi first:Nat):∀ (k:Nat) (d:Array Time),(Sort.heapBuild ltT hi first k d).size=d.size
 | 0,d=>rfl
 | k + 1,d=>by unfold Sort.heapBuild; rw [zbf hi first k,zb1]
theorem zkh {fuel a b:Nat} {d:Array Time} (hab:a < b) (hb:b≤d.size) (hd:d.size < 1152921504606846976) (hf:d.size + 2 < fuel) :
  z1o fuel (a:Int) (b:Int) d.toList=some (Sort.heapSort ltT d a b).toList:=by
 unfold z1o Sort.heapSort
 have e0:IntKind.i64.wrap ((b:Int) - (a:Int))=((b - a:Nat):Int):=wsub (by omega) (by omega)
 have e1:IntKind.i64.wrap (((b - a:Nat):Int) - 1)=(((b - a:Nat):Int) - 1):=z1t (by omega) (by omega)
 have e2:IntKind.i64.wrap ((((b - a:Nat):Int) - 1).tdiv 2)=(((b - a - 1) / 2 + 1:Nat):Int) - 1:=by
  rw [Int.tdiv_eq_ediv_of_nonneg (by omega),z1t (by omega) (by omega)]; omega
 rw [e0,e1,e2]
 refine z6z (zif (k0:=(b - a - 1) / 2 + 1) (fun k d=>Sort.siftDown ltT (b - a) a k d) (fun k d=>Sort.heapBuild ltT (b - a) a k d) (Nat.le_refl _) (fun k d=>zb1 _ _ _ _) (by omega) ?_ (fun d=>rfl) (fun k d=>rfl)) (fun x => ?_)
 ·intro k e hk he
  simp only [z07]
  cases k with
  | zero=>rw [if_neg (by omega)]; rfl
  | succ k =>
   rw [if_pos (by omega),show ((k + 1:Nat):Int) - 1=(k:Int) by omega,zfu (by omega) (by omega) (by omega) (by omega),Option.bind_some]
   rw [z06 (by rw [Array.length_toList,Array.length_toList,zb1]),z5q (by unfold in64; omega)]
 ·have hsz:=zbf (b - a) a ((b - a - 1) / 2 + 1) d
  simp only
  generalize Sort.heapBuild ltT (b - a) a ((b - a - 1) / 2 + 1) d=d1 at *
  refine z6z (zif (k0:=b - a) (fun k d=>Sort.siftDown ltT k a 0 (Sort.swp d a (a + k))) (fun k d=>Sort.heapPop ltT a k d) (Nat.le_refl _) (fun k d=>by rw [zb1,z10]) (by omega) ?_ (fun d=>rfl) (fun k d=>rfl)) (fun x=>rfl)
  intro k e hk he
  simp only [z07]
  cases k with
  | zero=>rw [if_neg (by omega)]; rfl
  | succ k =>
   rw [if_pos (by omega),show ((k + 1:Nat):Int) - 1=(k:Int) by omega]
   have w1:IntKind.i64.wrap ((a:Int) + (k:Int))=((a + k:Nat):Int):=wadd (by omega)
   have w2:IntKind.i64.wrap ((k:Int) - 1)=(k:Int) - 1:=z5q (by unfold in64; omega)
   have hs:=zfu (fuel:=fuel) (lo:=0) (hi:=k) (first:=a) (d:=Sort.swp e a (a + k)) (by rw [z10]; omega) (by rw [z10]; omega) (by omega) (by rw [z10]; omega)
   rw [show ((0:Nat):Int)=0 from rfl] at hs
   simp (disch:=omega) only [w1,w2,Int.toNat_natCast,Nat.zero_add,z06,Array.length_toList,List.length_set,z1p,z2r,hs,Option.bind_some,zb1,z10]
   rw [z06 trivial]
theorem zed {a b s:Nat} {d:Array Time} (ha:a < d.size) (hb:b < d.size) (hs:s < 1000):z1i d.toList (a:Int) (b:Int) (s:Int)=some (((Sort.order2 ltT d a b s).1:Int),((Sort.order2 ltT d a b s).2.1:Int),((Sort.order2 ltT d a b s).2.2:Int)):=by
 unfold z1i Sort.order2
 simp (disch:=omega) only [Int.toNat_natCast,z06,Array.length_toList,z2k,Option.bind_some,z1p,wadd1,z07]
 unfold ltT
 by_cases h:cmpT d[b]! d[a]! < 0
 ·simp [h]
 ·simp [h]
theorem z8d {a b s:Nat} {d:Array Time}:((Sort.order2 ltT d a b s).1=a∧(Sort.order2 ltT d a b s).2.1=b∨(Sort.order2 ltT d a b s).1=b∧(Sort.order2 ltT d a b s).2.1=a)∧(Sort.order2 ltT d a b s).2.2≤s + 1:=by
 unfold Sort.order2
 split
 ·exact ⟨.inr ⟨rfl,rfl⟩,Nat.le_refl _⟩
 ·exact ⟨.inl ⟨rfl,rfl⟩,Nat.le_succ _⟩
theorem zen {a b c s:Nat} {d:Array Time} (ha:a < d.size) (hb:b < d.size) (hc:c < d.size) (hs:s < 900):z1g d.toList (a:Int) (b:Int) (c:Int) (s:Int)=some (((Sort.median ltT d a b c s).1:Int),((Sort.median ltT d a b c s).2:Int)):=by
 unfold z1g
 have m1:=z8d (a:=a) (b:=b) (s:=s) (d:=d)
 rw [zed ha hb (by omega),Option.bind_some]
 have e:Sort.median ltT d a b c s=(let r2:=Sort.order2 ltT d (Sort.order2 ltT d a b s).2.1 c (Sort.order2 ltT d a b s).2.2; let r3:=Sort.order2 ltT d (Sort.order2 ltT d a b s).1 r2.1 r2.2.2; (r3.2.1,r3.2.2)):=rfl
 rw [e]
 generalize Sort.order2 ltT d a b s=r1 at *
 have m2:=z8d (a:=r1.2.1) (b:=c) (s:=r1.2.2) (d:=d)
 simp only
 rw [zed (by omega) hc (by omega),Option.bind_some]
 generalize Sort.order2 ltT d r1.2.1 c r1.2.2=r2 at *
 simp only
 rw [zed (by omega) (by omega) (by omega),Option.bind_some]
theorem zgp {a b c s:Nat} {d:Array Time}:(Sort.median ltT d a b c s).2≤s + 3:=by
 have e:Sort.median ltT d a b c s=(let r2:=Sort.order2 ltT d (Sort.order2 ltT d a b s).2.1 c (Sort.order2 ltT d a b s).2.2; let r3:=Sort.order2 ltT d (Sort.order2 ltT d a b s).1 r2.1 r2.2.2; (r3.2.1,r3.2.2)):=rfl
 rw [e]
 have m1:=z8d (a:=a) (b:=b) (s:=s) (d:=d)
 generalize Sort.order2 ltT d a b s=r1 at *
 have m2:=z8d (a:=r1.2.1) (b:=c) (s:=r1.2.2) (d:=d)
 simp only
 generalize Sort.order2 ltT d r1.2.1 c r1.2.2=r2 at *
 have m3:=z8d (a:=r1.1) (b:=r2.1) (s:=r2.2.2) (d:=d)
 omega
theorem z89 {a s:Nat} {d:Array Time} (h1:1≤a) (ha:a + 1 < d.size) (hd:d.size < 1152921504606846976) (hs:s < 900):z0c d.toList (a:Int) (s:Int)=some (((Sort.medianAdjacent ltT d a s).1:Int),((Sort.medianAdjacent ltT d a s).2:Int)):=by
 unfold z0c Sort.medianAdjacent
 rw [wsub1 h1 (by omega),wadd1 (by omega),zen (by omega) (by omega) ha hs,Option.bind_some]
def hintN:Sort.Hint→Int
 | .unknown=>0
 | .increasing=>1
 | .decreasing=>2
theorem z7t {a s:Nat} {d:Array Time}:(Sort.medianAdjacent ltT d a s).2≤s + 3:=zgp
theorem     zoy {Q : Type} {i j k : Nat} {d : Array Time} (hd : d.size < 1152921504606846976) (hi : 1 ≤ i ∧ i + 1 < d.size) (hj : 1 ≤ j ∧ j + 1 < d.size) (hk : 1 ≤ k ∧ k + 1 < d.size) {K : Int × Int → Option Q} {r1 r2 r3 : Nat × Nat}
    (h1 : Sort.medianAdjacent ltT d i 0 = r1) (h2 : Sort.medianAdjacent ltT d j r1.2 = r2) (h3 : Sort.medianAdjacent ltT d k r2.2 = r3) :
    ((                                         z0c d.toList (i : Int) 0).bind fun r6 => (                                         z0c d.toList (j : Int) r6.2).bind fun r7 => (                                         z0c d.toList (k : Int) r7.2).bind fun r8 => (                                 z1g d.toList r6.1 r7.1 r8.1 r8.2).bind K)
      = K (((Sort.median ltT d r1.1 r2.1 r3.1 r3.2).1 : Int), ((Sort.median ltT d r1.1 r2.1 r3.1 r3.2).2 : Int)) ∧ (Sort.median ltT d r1.1 r2.1 r3.1 r3.2).2 < 1000 := by
  have z : ((0 : Nat) : Int) = 0 := rfl
  have q1 :=               z89 (a := i) (s := 0) (d := d) hi.1 hi.2 hd (by omega)
  have c1 :=                z7t (a := i) (s := 0) (d := d)
  have p1 := Sort.medianAdjacent_mem ltT d i 0
  rw [z, h1] at q1
  rw [h1] at c1 p1
  have q2 :=               z89 (a := j) (s := r1.2) (d := d) hj.1 hj.2 hd (by omega)
  have c2 :=                z7t (a := j) (s := r1.2) (d := d)
  have p2 := Sort.medianAdjacent_mem ltT d j r1.2
  rw [h2] at q2 c2 p2
  have q3 :=               z89 (a := k) (s := r2.2) (d := d) hk.1 hk.2 hd (by omega)
  have c3 :=                z7t (a := k) (s := r2.2) (d := d)
  have p3 := Sort.medianAdjacent_mem ltT d k r2.2
  rw [h3] at q3 c3 p3
  have q4 :=       zen (a := r1.1) (b := r2.1) (c := r3.1) (s := r3.2) (d := d) (by omega) (by omega) (by omega) (by omega)
  have c4 :=        zgp (a := r1.1) (b := r2.1) (c := r3.1) (s := r3.2) (d := d)
  rw [q1, Option.bind_some]
  simp only
  rw [q2, Option.bind_some]
  simp only
  rw [q3, Option.bind_some]
  simp only
  rw [q4, Option.bind_some]
  exact ⟨rfl, by omega⟩
theorem zg0 {r:Nat × Nat}:(if ((r.2:Nat):Int)=0 then some (((r.1:Nat):Int),(1:Int)) else if ((r.2:Nat):Int)=12 then some (((r.1:Nat):Int),2) else some (((r.1:Nat):Int),0))=some (((r.1:Nat):Int),hintN (Sort.hintOf r.2)):=by
 unfold Sort.hintOf
 by_cases h1:r.2=0
 ·rw [if_pos (by omega),if_pos h1]; rfl
 ·rw [if_neg (by omega),if_neg h1]
  by_cases h2:r.2=12
  ·rw [if_pos (by omega),if_pos h2]; rfl
  ·rw [if_neg (by omega),if_neg h2]; rfl
theorem choosePivot_eq {a b:Nat} {d:Array Time} (hab:a < b) (hb:b≤d.size) (hd:d.size < 1152921504606846976) :
  z1l d.toList (a:Int) (b:Int)=some (((Sort.choosePivot ltT d a b).1:Int),hintN (Sort.choosePivot ltT d a b).2):=by
 unfold z1l
 have e0:IntKind.i64.wrap ((b:Int) - (a:Int))=((b - a:Nat):Int):=wsub (by omega) (by omega)
 have e1:IntKind.i64.wrap (((b - a:Nat):Int).tdiv 4)=(((b - a) / 4:Nat):Int):=by rw [Int.tdiv_eq_ediv_of_nonneg (by omega),z1t (by omega) (by omega)]; omega
 have m:∀ k:Nat,k≤3→IntKind.i64.wrap ((a:Int) + IntKind.i64.wrap ((((b - a) / 4:Nat):Int) * (k:Int)))=((a + (b - a) / 4 * k:Nat):Int):=fun k hk=>by
  have h1:(b - a) / 4 * k≤b - a:=Nat.le_trans (Nat.mul_le_mul_left _ hk) (by omega)
  have h2:(((b - a) / 4:Nat):Int) * (k:Int)=(((b - a) / 4 * k:Nat):Int):=by rw [Int.natCast_mul]
  have h3:IntKind.i64.wrap (((b - a) / 4 * k:Nat):Int)=(((b - a) / 4 * k:Nat):Int):=z5q (by unfold in64; omega)
  rw [h2,h3,wadd (by omega)]
 have m1:=m 1 (by omega)
 have m2:=m 2 (by omega)
 have m3:=m 3 (by omega)
 rw [show ((1:Nat):Int)=1 from rfl] at m1
 rw [show ((2:Nat):Int)=2 from rfl] at m2
 rw [show ((3:Nat):Int)=3 from rfl] at m3
 simp only [e0,e1,m1,m2,m3,jn_eq,z07]
 rw [Sort.choosePivot_eq]
 clear e0 e1 m m1 m2 m3
 have hraw:Sort.rawPivot ltT d a b=if b - a ≥ 8 then (if b - a ≥ 50 then (Sort.median ltT d (Sort.medianAdjacent ltT d (a + (b - a) / 4 * 1) 0).1 (Sort.medianAdjacent ltT d (a + (b - a) / 4 * 2) (Sort.medianAdjacent ltT d (a + (b - a) / 4 * 1) 0).2).1 (Sort.medianAdjacent ltT d (a + (b - a) / 4 * 3) (Sort.medianAdjacent ltT d (a + (b - a) / 4 * 2) (Sort.medianAdjacent ltT d (a + (b - a) / 4 * 1) 0).2).2).1 (Sort.medianAdjacent ltT d (a + (b - a) / 4 * 3) (Sort.medianAdjacent ltT d (a + (b - a) / 4 * 2) (Sort.medianAdjacent ltT d (a + (b - a) / 4 * 1) 0).2).2).2)
   else (Sort.median ltT d (a + (b - a) / 4 * 1) (a + (b - a) / 4 * 2) (a + (b - a) / 4 * 3) 0)) else (a + (b - a) / 4 * 2,0):=rfl
 rw [hraw]
 by_cases h8:b - a ≥ 8
 ·rw [if_pos (by omega),if_pos h8]
  by_cases h50:b - a ≥ 50
  ·rw [if_pos (by omega),if_pos h50]
   obtain ⟨q,_⟩:=zoy (d:=d) (i:=a + (b - a) / 4 * 1) (j:=a + (b - a) / 4 * 2) (k:=a + (b - a) / 4 * 3) (K:=fun (a1:Int × Int)=>if a1.2=0 then some (a1.1,(1:Int)) else if a1.2=12 then some (a1.1,2) else some (a1.1,0)) hd (by omega) (by omega) (by omega) rfl rfl rfl
   exact q.trans zg0
  ·rw [if_neg (by omega),if_neg h50]
   have z:((0:Nat):Int)=0:=rfl
   have q1:=zen (a:=a + (b - a) / 4 * 1) (b:=a + (b - a) / 4 * 2) (c:=a + (b - a) / 4 * 3) (s:=0) (d:=d) (by omega) (by omega) (by omega) (by omega)
   rw [z] at q1
   simp only
   rw [q1,Option.bind_some]
   exact zg0
 ·rw [if_neg (by omega),if_neg h8]
  exact zg0 (r:=(a + (b - a) / 4 * 2,0))
theorem zk6 {B:Int × Int × List Time→Option (Ctl (Int × Int × List Time) Empty)} {n i j fuel:Nat} {d:Array Time} (hn:j - i≤n) (hf:n < fuel) (hj:j < d.size)
  (hB:∀ (i j:Nat) (d' : Array Time),d'.size=d.size→j < d.size→B ((i:Int),(j:Int),d'.toList)=if i < j then some (.next (((i + 1:Nat):Int),((j - 1:Nat):Int),(Sort.swp d' i j).toList)) else some (.brk ((i:Int),(j:Int),d'.toList))) :
  ∃ x y:Int,loopN B fuel ((i:Int),(j:Int),d.toList)=some (.done (x,y,(Sort.reverseLoop i j d).toList)):=by
 induction n generalizing i j d fuel with
 | zero =>
  cases fuel with
  | zero=>omega
  | succ fuel =>
   have h:=hB i j d rfl hj
   rw [if_neg (by omega)] at h
   rw [z0w h,Sort.reverseLoop,if_neg (by omega)]
   exact ⟨_,_,rfl⟩
 | succ n ih =>
  cases fuel with
  | zero=>omega
  | succ fuel =>
   have h:=hB i j d rfl hj
   by_cases hij:i < j
   ·rw [if_pos hij] at h
    rw [z1e h,Sort.reverseLoop,if_pos hij]
    exact ih (by omega) (by omega) (by rw [z10]; omega) (fun i' j' d' h1 h2=>hB i' j' d' (by rw [h1,z10]) (by rw [z10] at h2; exact h2))
   ·rw [if_neg hij] at h
    rw [z0w h,Sort.reverseLoop,if_neg hij]
    exact ⟨_,_,rfl⟩
theorem zo1 {X Y Z R Q:Type} {o:Option (Out (X × Y × Z) R)} {kn:X × Y × Z→Option Q} {kr:R→Option Q} {r:Z} {q:Option Q} (h:∃ (x:X) (y:Y),o=some (.done (x,y,r))) (hk:∀ x y,kn (x,y,r)=q):outK o kn kr=q:=by
 obtain ⟨x,y,h⟩:=h
 rw [h]
 exact hk x y
theorem zhb {fuel a b:Nat} {d:Array Time} (hab:a < b) (hb:b≤d.size) (hd:d.size < 1152921504606846976) (hf:d.size + 2 < fuel) :
  z1c fuel (a:Int) (b:Int) d.toList=some (Sort.reverseRange d a b).toList:=by
 unfold z1c Sort.reverseRange
 rw [wsub1 (by omega) (by omega)]
 refine zo1 (zk6 (n:=d.size) (by omega) (by omega) (by omega) ?_) (fun x y=>rfl)
 intro i j e he hj
 simp only [z07,intlt]
 by_cases hij:i < j
 ·rw [if_pos hij,if_pos hij]
  simp (disch:=omega) only [wsub1,wadd1,Int.toNat_natCast,Nat.zero_add,z06,Array.length_toList,List.length_set,z1p,z2r]
 ·rw [if_neg hij,if_neg hij]
end Go.Av
namespace Go.Av
open Go
set_option linter.unusedVariables false
set_option linter.unusedSimpArgs false
section
variable {α:Type} [Inhabited α]
theorem z4o (p : α → Bool) (d:Array α) (j:Nat):∀ (n i:Nat),j + 1 - i≤n→Sort.scanUp p d j i≤max i (j + 1)∧i≤Sort.scanUp p d j i:=by
 intro n
 induction n with
 | zero =>
  intro i hn
  rw [Sort.scanUp,if_neg (by simp; omega)]
  omega
 | succ n ih =>
  intro i hn
  rw [Sort.scanUp]
  split
  ·rename_i h
   have:i≤j:=by simp at h; exact h.1
   have:=ih (i + 1) (by omega)
   omega
  ·omega
theorem z2m (p : α → Bool) (d:Array α) (i:Nat):∀ (j:Nat),Sort.scanDown p d i j≤j
 | 0=>Nat.le_refl _
 | j + 1=>by
  unfold Sort.scanDown
  split
  ·have:=z2m p d i j; omega
  ·omega
theorem zcb {S R:Type} {B:S→Option (Ctl S R)} (e:Nat→S) (p : α → Bool) (d:Array α) {j:Nat}:∀ (n i fuel:Nat),j + 1 - i≤n→n < fuel→(∀ i',i≤i' → i' ≤ max i (j + 1)→B (e i')=if i' ≤ j∧p d[i']! = true then some (.next (e (i' + 1))) else some (.brk (e i'))) →
  loopN B fuel (e i)=some (.done (e (Sort.scanUp p d j i))):=by
 intro n
 induction n with
 | zero =>
  intro i fuel hn hf hB
  cases fuel with
  | zero=>omega
  | succ fuel =>
   have h:=hB i (Nat.le_refl _) (by omega)
   rw [if_neg (by omega)] at h
   rw [z0w h,Sort.scanUp,if_neg (by simp; omega)]
 | succ n ih =>
  intro i fuel hn hf hB
  cases fuel with
  | zero=>omega
  | succ fuel =>
   have h:=hB i (Nat.le_refl _) (by omega)
   by_cases hc:i≤j∧p d[i]! = true
   ·rw [if_pos hc] at h
    rw [z1e h,Sort.scanUp,if_pos (by simpa using hc)]
    exact ih (i + 1) fuel (by omega) (by omega) (fun i' h1 h2=>hB i' (by omega) (by omega))
   ·rw [if_neg hc] at h
    rw [z0w h,Sort.scanUp,if_neg (by simpa using hc)]
theorem zag {S R:Type} {B:S→Option (Ctl S R)} (e:Nat→S) (p : α → Bool) (d:Array α) {i:Nat} (hi:1≤i):∀ (j fuel:Nat),j < fuel→(∀ j',j' ≤ j→B (e j')=if i≤j' ∧ p d[j']! = true then some (.next (e (j' - 1))) else some (.brk (e j'))) →
  loopN B fuel (e j)=some (.done (e (Sort.scanDown p d i j))):=by
 intro j
 induction j with
 | zero =>
  intro fuel hf hB
  cases fuel with
  | zero=>omega
  | succ fuel =>
   have h:=hB 0 (Nat.le_refl _)
   rw [if_neg (by omega)] at h
   rw [z0w h]; rfl
 | succ j ih =>
  intro fuel hf hB
  cases fuel with
  | zero=>omega
  | succ fuel =>
   have h:=hB (j + 1) (Nat.le_refl _)
   unfold Sort.scanDown
   by_cases hc:i≤j + 1∧p d[j + 1]! = true
   ·rw [if_pos hc] at h
    rw [z1e h,if_pos (by simpa using hc)]
    exact ih fuel (by omega) (fun j' h1=>hB j' (by omega))
   ·rw [if_neg hc] at h
    rw [z0w h,if_neg (by simpa using hc)]
end
theorem z9k (a i j:Nat) (d:Array Time):Sort.partLoop ltT a i j d =
  if Sort.scanUp (fun x=>ltT x d[a]!) d j i > Sort.scanDown (fun x => !ltT x d[a]!) d (Sort.scanUp (fun x=>ltT x d[a]!) d j i) j then (Sort.scanDown (fun x => !ltT x d[a]!) d (Sort.scanUp (fun x=>ltT x d[a]!) d j i) j,d)
  else Sort.partLoop ltT a (Sort.scanUp (fun x=>ltT x d[a]!) d j i + 1) (Sort.scanDown (fun x => !ltT x d[a]!) d (Sort.scanUp (fun x=>ltT x d[a]!) d j i) j - 1) (Sort.swp d (Sort.scanUp (fun x=>ltT x d[a]!) d j i) (Sort.scanDown (fun x => !ltT x d[a]!) d (Sort.scanUp (fun x=>ltT x d[a]!) d j i) j)):=Sort.partLoop_eq ltT a i j d
theorem z82 (a i j:Nat) (d:Array Time):Sort.partEqLoop ltT a i j d =
  if Sort.scanUp (fun x => !ltT d[a]! x) d j i > Sort.scanDown (fun x=>ltT d[a]! x) d (Sort.scanUp (fun x => !ltT d[a]! x) d j i) j then (Sort.scanUp (fun x => !ltT d[a]! x) d j i,d)
  else Sort.partEqLoop ltT a (Sort.scanUp (fun x => !ltT d[a]! x) d j i + 1) (Sort.scanDown (fun x=>ltT d[a]! x) d (Sort.scanUp (fun x => !ltT d[a]! x) d j i) j - 1) (Sort.swp d (Sort.scanUp (fun x => !ltT d[a]! x) d j i) (Sort.scanDown (fun x=>ltT d[a]! x) d (Sort.scanUp (fun x => !ltT d[a]! x) d j i) j)):=Sort.partEqLoop_eq ltT a i j d
theorem zmo {B:Int × Int × List Time→Option (Ctl (Int × Int × List Time) Empty)} {a:Nat}:∀ (n i j fuel:Nat) (d:Array Time),j + 1 - i≤n→n < fuel→1≤i→i≤d.size→j < d.size →
  (∀ (i j:Nat) (d' : Array Time),d'.size=d.size→1≤i→i≤d.size→j < d.size→B ((i:Int),(j:Int),d'.toList) =
   if Sort.scanUp (fun x=>ltT x d'[a]!) d' j i > Sort.scanDown (fun x => !ltT x d'[a]!) d' (Sort.scanUp (fun x=>ltT x d'[a]!) d' j i) j
   then some (.brk (((Sort.scanUp (fun x=>ltT x d'[a]!) d' j i:Nat):Int),((Sort.scanDown (fun x => !ltT x d'[a]!) d' (Sort.scanUp (fun x=>ltT x d'[a]!) d' j i) j:Nat):Int),d'.toList))
   else some (.next (((Sort.scanUp (fun x=>ltT x d'[a]!) d' j i + 1:Nat):Int),((Sort.scanDown (fun x => !ltT x d'[a]!) d' (Sort.scanUp (fun x=>ltT x d'[a]!) d' j i) j - 1:Nat):Int),(Sort.swp d' (Sort.scanUp (fun x=>ltT x d'[a]!) d' j i) (Sort.scanDown (fun x => !ltT x d'[a]!) d' (Sort.scanUp (fun x=>ltT x d'[a]!) d' j i) j)).toList))) →
  ∃ x:Int,loopN B fuel ((i:Int),(j:Int),d.toList)=some (.done (x,((Sort.partLoop ltT a i j d).1:Int),(Sort.partLoop ltT a i j d).2.toList)):=by
 intro n
 induction n with
 | zero =>
  intro i j fuel d hn hf hi hi2 hj hB
  cases fuel with
  | zero=>omega
  | succ fuel =>
   have h:=hB i j d rfl hi hi2 hj
   have u:=(z4o (fun x=>ltT x d[a]!) d j _ i (Nat.le_refl _))
   have v:=z2m (fun x => !ltT x d[a]!) d (Sort.scanUp (fun x=>ltT x d[a]!) d j i) j
   rw [if_pos (by omega)] at h
   rw [z0w h,z9k,if_pos (by omega)]
   exact ⟨_,rfl⟩
 | succ n ih =>
  intro i j fuel d hn hf hi hi2 hj hB
  cases fuel with
  | zero=>omega
  | succ fuel =>
   have h:=hB i j d rfl hi hi2 hj
   have u:=(z4o (fun x=>ltT x d[a]!) d j _ i (Nat.le_refl _))
   have v:=z2m (fun x => !ltT x d[a]!) d (Sort.scanUp (fun x=>ltT x d[a]!) d j i) j
   rw [z9k]
   generalize Sort.scanUp (fun x=>ltT x d[a]!) d j i=i2 at *
   generalize Sort.scanDown (fun x => !ltT x d[a]!) d i2 j=j2 at *
   by_cases hc:i2 > j2
   ·rw [if_pos hc] at h
    rw [z0w h,if_pos hc]
    exact ⟨_,rfl⟩
   ·rw [if_neg hc] at h
    rw [z1e h,if_neg hc]
    exact ih _ _ _ _ (by omega) (by omega) (by omega) (by rw [z10]; omega) (by rw [z10]; omega) (fun i' j' d' h1 h2 h3 h4=>hB i' j' d' (by rw [h1,z10]) h2 (by rw [z10] at h3; exact h3) (by rw [z10] at h4; exact h4))
theorem zkv {B:Int × Int × List Time→Option (Ctl (Int × Int × List Time) Empty)} {a:Nat}:∀ (n i j fuel:Nat) (d:Array Time),j + 1 - i≤n→n < fuel→1≤i→i≤d.size→j < d.size →
  (∀ (i j:Nat) (d' : Array Time),d'.size=d.size→1≤i→i≤d.size→j < d.size→B ((i:Int),(j:Int),d'.toList) =
   if Sort.scanUp (fun x => !ltT d'[a]! x) d' j i > Sort.scanDown (fun x=>ltT d'[a]! x) d' (Sort.scanUp (fun x => !ltT d'[a]! x) d' j i) j
   then some (.brk (((Sort.scanUp (fun x => !ltT d'[a]! x) d' j i:Nat):Int),((Sort.scanDown (fun x=>ltT d'[a]! x) d' (Sort.scanUp (fun x => !ltT d'[a]! x) d' j i) j:Nat):Int),d'.toList))
   else some (.next (((Sort.scanUp (fun x => !ltT d'[a]! x) d' j i + 1:Nat):Int),((Sort.scanDown (fun x=>ltT d'[a]! x) d' (Sort.scanUp (fun x => !ltT d'[a]! x) d' j i) j - 1:Nat):Int),(Sort.swp d' (Sort.scanUp (fun x => !ltT d'[a]! x) d' j i) (Sort.scanDown (fun x=>ltT d'[a]! x) d' (Sort.scanUp (fun x => !ltT d'[a]! x) d' j i) j)).toList))) →
  ∃ x:Int,loopN B fuel ((i:Int),(j:Int),d.toList)=some (.done (((Sort.partEqLoop ltT a i j d).1:Int),x,(Sort.partEqLoop ltT a i j d).2.toList)):=by
 intro n
 induction n with
 | zero =>
  intro i j fuel d hn hf hi hi2 hj hB
  cases fuel with
  | zero=>omega
  | succ fuel =>
   have h:=hB i j d rfl hi hi2 hj
   have u:=(z4o (fun x => !ltT d[a]! x) d j _ i (Nat.le_refl _))
   have v:=z2m (fun x=>ltT d[a]! x) d (Sort.scanUp (fun x => !ltT d[a]! x) d j i) j
   rw [if_pos (by omega)] at h
   rw [z0w h,z82,if_pos (by omega)]
   exact ⟨_,rfl⟩
 | succ n ih =>
  intro i j fuel d hn hf hi hi2 hj hB
  cases fuel with
  | zero=>omega
  | succ fuel =>
   have h:=hB i j d rfl hi hi2 hj
   have u:=(z4o (fun x => !ltT d[a]! x) d j _ i (Nat.le_refl _))
   have v:=z2m (fun x=>ltT d[a]! x) d (Sort.scanUp (fun x => !ltT d[a]! x) d j i) j
   rw [z82]
   generalize Sort.scanUp (fun x => !ltT d[a]! x) d j i=i2 at *
   generalize Sort.scanDown (fun x=>ltT d[a]! x) d i2 j=j2 at *
   by_cases hc:i2 > j2
   ·rw [if_pos hc] at h
    rw [z0w h,if_pos hc]
    exact ⟨_,rfl⟩
   ·rw [if_neg hc] at h
    rw [z1e h,if_neg hc]
    exact ih _ _ _ _ (by omega) (by omega) (by omega) (by rw [z10]; omega) (by rw [z10]; omega) (fun i' j' d' h1 h2 h3 h4=>hB i' j' d' (by rw [h1,z10]) h2 (by rw [z10] at h3; exact h3) (by rw [z10] at h4; exact h4))
theorem zok {X Y Z R Q:Type} {o:Option (Out (X × Y × Z) R)} {kn:X × Y × Z→Option Q} {kr:R→Option Q} {y:Y} {z:Z} {q:Option Q} (h:∃ x:X,o=some (.done (x,y,z))) (hk:∀ x,kn (x,y,z)=q):outK o kn kr=q:=by
 obtain ⟨x,h⟩:=h
 rw [h]
 exact hk x
theorem zoh {X Y Z R Q:Type} {o:Option (Out (X × Y × Z) R)} {kn:X × Y × Z→Option Q} {kr:R→Option Q} {x:X} {z:Z} {q:Option Q} (h:∃ y:Y,o=some (.done (x,y,z))) (hk:∀ y,kn (x,y,z)=q):outK o kn kr=q:=by
 obtain ⟨y,h⟩:=h
 rw [h]
 exact hk y
theorem zfe {fuel a b pivot:Nat} {d:Array Time} (hp:a≤pivot∧pivot < b) (hab:a + 1 < b) (hb:b≤d.size) (hd:d.size < 1152921504606846976) (hf:d.size + 2 < fuel) :
  z14 fuel (a:Int) (b:Int) (pivot:Int) d.toList=some (((Sort.partitionEqual ltT d a b pivot).1:Int),(Sort.partitionEqual ltT d a b pivot).2.toList):=by
 unfold z14 Sort.partitionEqual
 have w1:IntKind.i64.wrap ((a:Int) + 1)=((a + 1:Nat):Int):=wadd1 (by omega)
 have w2:IntKind.i64.wrap ((b:Int) - 1)=((b - 1:Nat):Int):=wsub1 (by omega) (by omega)
 rw [w1,w2]
 simp only [Int.toNat_natCast,Nat.zero_add,Array.length_toList,List.length_set,z1p,z2r]
 rw [z06 (by omega),z06 (by omega),z06 (by omega),z06 (by omega),z06 (by omega),z06 (by omega),z06 (by omega),z06 (by omega)]
 have hsz:=z10 d a pivot
 generalize Sort.swp d a pivot=d1 at *
 refine zoh (zkv (a:=a) d1.size (a + 1) (b - 1) fuel d1 (by omega) (by omega) (by omega) (by omega) (by omega) ?_) (fun x=>rfl)
 intro i j e he hi hi2 hj
 simp only
 have u:=(z4o (fun x => !ltT e[a]! x) e j _ i (Nat.le_refl _))
 have v:=z2m (fun x=>ltT e[a]! x) e (Sort.scanUp (fun x => !ltT e[a]! x) e j i) j
 rw [zcb (R:=Empty) (fun i:Nat=>(i:Int)) (fun x => !ltT e[a]! x) e (j:=j) d1.size i fuel (by omega) (by omega) (fun k h1 h2 => ?_)]
 ·simp only [z2a]
  generalize Sort.scanUp (fun x => !ltT e[a]! x) e j i=i2 at *
  rw [zag (R:=Empty) (fun i:Nat=>(i:Int)) (fun x=>ltT e[a]! x) e (i:=i2) (by omega) j fuel (by omega) (fun k h1 => ?_)]
  ·simp only [z2a,z07,intlt,gt_iff_lt]
   generalize Sort.scanDown (fun x=>ltT e[a]! x) e i2 j=j2 at *
   by_cases hc:j2 < i2
   ·rw [if_pos hc,if_pos hc]
   ·rw [if_neg hc,if_neg hc]
    simp (disch:=omega) only [wsub1,wadd1,Int.toNat_natCast,Nat.zero_add,z06,Array.length_toList,List.length_set,z1p,z2r]
  ·simp only [jn_eq,z07,intle]
   by_cases hc:i2≤k
   ·rw [if_pos hc]
    simp (disch:=omega) only [wsub1,Int.toNat_natCast,Nat.zero_add,z06,Array.length_toList,z2k,Option.bind_some,z1p,z07,hc,true_and]
    unfold ltT
    by_cases h:cmpT e[a]! e[k]! < 0
    ·simp [h]
    ·simp [h]
   ·rw [if_neg hc,if_neg (fun h=>hc h.1),z0z]
 ·simp only [jn_eq,z07,intle]
  by_cases hc:k≤j
  ·rw [if_pos hc]
   simp (disch:=omega) only [wadd1,Int.toNat_natCast,Nat.zero_add,z06,Array.length_toList,z2k,Option.bind_some,z1p,hc,true_and]
   unfold ltT
   by_cases h:cmpT e[a]! e[k]! < 0
   ·simp [h]
   ·simp [h]
  ·rw [if_neg hc,if_neg (fun h=>hc h.1),z0z]
theorem zip {a:Nat}:∀ (n i j:Nat) (d:Array Time),j + 1 - i≤n→1≤i→i≤d.size→j < d.size→(Sort.partLoop ltT a i j d).1≤j∧(Sort.partLoop ltT a i j d).2.size=d.size:=by
 intro n
 induction n with
 | zero =>
  intro i j d hn hi hi2 hj
  have u:=(z4o (fun x=>ltT x d[a]!) d j _ i (Nat.le_refl _))
  have v:=z2m (fun x => !ltT x d[a]!) d (Sort.scanUp (fun x=>ltT x d[a]!) d j i) j
  rw [z9k,if_pos (by omega)]
  exact ⟨v,rfl⟩
 | succ n ih =>
  intro i j d hn hi hi2 hj
  have u:=(z4o (fun x=>ltT x d[a]!) d j _ i (Nat.le_refl _))
  have v:=z2m (fun x => !ltT x d[a]!) d (Sort.scanUp (fun x=>ltT x d[a]!) d j i) j
  rw [z9k]
  generalize Sort.scanUp (fun x=>ltT x d[a]!) d j i=i2 at *
  generalize Sort.scanDown (fun x => !ltT x d[a]!) d i2 j=j2 at *
  by_cases hc:i2 > j2
  ·rw [if_pos hc]; exact ⟨v,rfl⟩
  ·rw [if_neg hc]
   have:=ih (i2 + 1) (j2 - 1) (Sort.swp d i2 j2) (by omega) (by omega) (by rw [z10]; omega) (by rw [z10]; omega)
   rw [z10] at this
   omega
theorem zji {fuel a b pivot:Nat} {d:Array Time} (hp:a≤pivot∧pivot < b) (hab:a + 1 < b) (hb:b≤d.size) (hd:d.size < 1152921504606846976) (hf:d.size + 2 < fuel) :
  z1m fuel (a:Int) (b:Int) (pivot:Int) d.toList=some (((Sort.partition ltT d a b pivot).1:Int),(Sort.partition ltT d a b pivot).2.1,(Sort.partition ltT d a b pivot).2.2.toList):=by
 unfold z1m Sort.partition
 have w1:IntKind.i64.wrap ((a:Int) + 1)=((a + 1:Nat):Int):=wadd1 (by omega)
 have w2:IntKind.i64.wrap ((b:Int) - 1)=((b - 1:Nat):Int):=wsub1 (by omega) (by omega)
 rw [w1,w2]
 simp only [Int.toNat_natCast,Nat.zero_add,Array.length_toList,List.length_set,z1p,z2r]
 rw [z06 (by omega),z06 (by omega),z06 (by omega),z06 (by omega),z06 (by omega),z06 (by omega),z06 (by omega),z06 (by omega)]
 have hsz:=z10 d a pivot
 generalize Sort.swp d a pivot=e at *
 have u:=(z4o (fun x=>ltT x e[a]!) e (b - 1) _ (a + 1) (Nat.le_refl _))
 have v:=z2m (fun x => !ltT x e[a]!) e (Sort.scanUp (fun x=>ltT x e[a]!) e (b - 1) (a + 1)) (b - 1)
 rw [zcb (R:=Empty) (fun i:Nat=>((i:Int),((b - 1:Nat):Int))) (fun x=>ltT x e[a]!) e (j:=b - 1) e.size (a + 1) fuel (by omega) (by omega) (fun k h1 h2 => ?_)]
 ·simp only [z2a]
  generalize Sort.scanUp (fun x=>ltT x e[a]!) e (b - 1) (a + 1)=i2 at *
  rw [zag (R:=Empty) (fun i:Nat=>(i:Int)) (fun x => !ltT x e[a]!) e (i:=i2) (by omega) (b - 1) fuel (by omega) (fun k h1 => ?_)]
  ·simp only [z2a,z07,intlt,gt_iff_lt]
   generalize Sort.scanDown (fun x => !ltT x e[a]!) e i2 (b - 1)=j2 at *
   by_cases hc:j2 < i2
   ·rw [if_pos hc,if_pos hc]
    simp (disch:=omega) only [Int.toNat_natCast,Nat.zero_add,z06,Array.length_toList,List.length_set,z1p,z2r]
   ·rw [if_neg hc,if_neg hc]
    have w3:IntKind.i64.wrap ((i2:Int) + 1)=((i2 + 1:Nat):Int):=wadd1 (by omega)
    have w4:IntKind.i64.wrap ((j2:Int) - 1)=((j2 - 1:Nat):Int):=wsub1 (by omega) (by omega)
    rw [w3,w4]
    simp only [Int.toNat_natCast,Nat.zero_add,Array.length_toList,List.length_set,z1p,z2r]
    rw [z06 (by omega),z06 (by omega),z06 (by omega),z06 (by omega),z06 (by omega),z06 (by omega),z06 (by omega),z06 (by omega)]
    have hsz2:=z10 e i2 j2
    generalize Sort.swp e i2 j2=f at *
    refine zok (zmo (a:=a) f.size (i2 + 1) (j2 - 1) fuel f (by omega) (by omega) (by omega) (by omega) (by omega) ?_) (fun x => ?_)
    ·intro i j g he hi hi2 hj
     simp only
     have u:=(z4o (fun x=>ltT x g[a]!) g j _ i (Nat.le_refl _))
     have v:=z2m (fun x => !ltT x g[a]!) g (Sort.scanUp (fun x=>ltT x g[a]!) g j i) j
     rw [zcb (R:=Empty) (fun i:Nat=>(i:Int)) (fun x=>ltT x g[a]!) g (j:=j) f.size i fuel (by omega) (by omega) (fun k h1 h2 => ?_)]
     ·simp only [z2a]
      generalize Sort.scanUp (fun x=>ltT x g[a]!) g j i=i3 at *
      rw [zag (R:=Empty) (fun i:Nat=>(i:Int)) (fun x => !ltT x g[a]!) g (i:=i3) (by omega) j fuel (by omega) (fun k h1 => ?_)]
      ·simp only [z2a,z07,intlt,gt_iff_lt]
       generalize Sort.scanDown (fun x => !ltT x g[a]!) g i3 j=j3 at *
       by_cases hc:j3 < i3
       ·rw [if_pos hc,if_pos hc]
       ·rw [if_neg hc,if_neg hc]
        simp (disch:=omega) only [wsub1,wadd1,Int.toNat_natCast,Nat.zero_add,z06,Array.length_toList,List.length_set,z1p,z2r]
      ·simp only [jn_eq,z07,intle]
       by_cases hc:i3≤k
       ·rw [if_pos hc]
        simp (disch:=omega) only [wsub1,Int.toNat_natCast,Nat.zero_add,z06,Array.length_toList,z2k,Option.bind_some,z1p,z07,hc,true_and]
        unfold ltT
        by_cases h:cmpT g[k]! g[a]! < 0
        ·simp [h]
        ·simp [h]
       ·rw [if_neg hc,if_neg (fun h=>hc h.1),z0z]
     ·simp only [jn_eq,z07,intle]
      by_cases hc:k≤j
      ·rw [if_pos hc]
       simp (disch:=omega) only [wadd1,Int.toNat_natCast,Nat.zero_add,z06,Array.length_toList,z2k,Option.bind_some,z1p,hc,true_and]
       unfold ltT
       by_cases h:cmpT g[k]! g[a]! < 0
       ·simp [h]
       ·simp [h]
      ·rw [if_neg hc,if_neg (fun h=>hc h.1),z0z]
    ·have hl:=zip (a:=a) f.size (i2 + 1) (j2 - 1) f (by omega) (by omega) (by omega) (by omega)
     generalize Sort.partLoop ltT a (i2 + 1) (j2 - 1) f=r at *
     simp (disch:=omega) only [Int.toNat_natCast,Nat.zero_add,z06,Array.length_toList,List.length_set,z1p,z2r]
  ·simp only [jn_eq,z07,intle]
   by_cases hc:i2≤k
   ·rw [if_pos hc]
    simp (disch:=omega) only [wsub1,Int.toNat_natCast,Nat.zero_add,z06,Array.length_toList,z2k,Option.bind_some,z1p,z07,hc,true_and]
    unfold ltT
    by_cases h:cmpT e[k]! e[a]! < 0
    ·simp [h]
    ·simp [h]
   ·rw [if_neg hc,if_neg (fun h=>hc h.1),z0z]
 ·simp only [jn_eq,z07,intle]
  by_cases hc:k≤b - 1
  ·rw [if_pos hc]
   simp (disch:=omega) only [wadd1,Int.toNat_natCast,Nat.zero_add,z06,Array.length_toList,z2k,Option.bind_some,z1p,hc,true_and]
   unfold ltT
   by_cases h:cmpT e[k]! e[a]! < 0
   ·simp [h]
   ·simp [h]
  ·rw [if_neg hc,if_neg (fun h=>hc h.1),z0z]
end Go.Av
namespace Go.Av
open Go
set_option linter.unusedVariables false
set_option linter.unusedSimpArgs false
theorem zb3:∀ (j:Nat) (d:Array Time),(Sort.shiftDown ltT j d).size=d.size
 | 0,d=>rfl
 | j + 1,d=>by
  unfold Sort.shiftDown
  split
  ·rfl
  ·rw [zb3 j,z10]
theorem zhm {B:Int × List Time→Option (Ctl (Int × List Time) Empty)}:∀ (j fuel:Nat) (d:Array Time),j < fuel→j < d.size →
  (∀ (j:Nat) (d' : Array Time),d'.size=d.size→j < d.size→B ((j:Int),d'.toList)=if 1≤j∧ltT d'[j]! d'[j - 1]! = true then some (.next (((j - 1:Nat):Int),(Sort.swp d' j (j - 1)).toList)) else some (.brk ((j:Int),d'.toList))) →
  ∃ x:Int,loopN B fuel ((j:Int),d.toList)=some (.done (x,(Sort.shiftDown ltT j d).toList)):=by
 intro j
 induction j with
 | zero =>
  intro fuel d hf hj hB
  cases fuel with
  | zero=>omega
  | succ fuel =>
   have h:=hB 0 d rfl hj
   rw [if_neg (by omega)] at h
   rw [z0w h]
   exact ⟨_,rfl⟩
 | succ j ih =>
  intro fuel d hf hj hB
  cases fuel with
  | zero=>omega
  | succ fuel =>
   have h:=hB (j + 1) d rfl hj
   rw [Nat.add_sub_cancel] at h
   unfold Sort.shiftDown
   by_cases hc:ltT d[j + 1]! d[j]! = true
   ·rw [if_pos ⟨by omega,hc⟩] at h
    rw [z1e h,if_neg (by simp [hc])]
    exact ih fuel _ (by omega) (by rw [z10]; omega) (fun j' d' h1 h2=>hB j' d' (by rw [h1,z10]) (by rw [z10] at h2; exact h2))
   ·rw [if_neg (fun h=>hc h.2)] at h
    rw [z0w h,if_pos (by simpa using hc)]
    exact ⟨_,rfl⟩
theorem zlj (b:Nat):∀ (n j:Nat) (d:Array Time),b - j≤n→(Sort.shiftUp ltT b j d).size=d.size:=by
 intro n
 induction n with
 | zero=>intro j d hn; rw [Sort.shiftUp,if_neg (by omega)]
 | succ n ih =>
  intro j d hn
  rw [Sort.shiftUp]
  split
  ·split
   ·rfl
   ·rw [ih _ _ (by omega),z10]
  ·rfl
theorem zjh {B:Int × List Time→Option (Ctl (Int × List Time) Empty)} {b:Nat}:∀ (n j fuel:Nat) (d:Array Time),b - j≤n→n < fuel→1≤j→b≤d.size →
  (∀ (j:Nat) (d' : Array Time),d'.size=d.size→1≤j→B ((j:Int),d'.toList)=if j < b∧ltT d'[j]! d'[j - 1]! = true then some (.next (((j + 1:Nat):Int),(Sort.swp d' j (j - 1)).toList)) else some (.brk ((j:Int),d'.toList))) →
  ∃ x:Int,loopN B fuel ((j:Int),d.toList)=some (.done (x,(Sort.shiftUp ltT b j d).toList)):=by
 intro n
 induction n with
 | zero =>
  intro j fuel d hn hf hj hb hB
  cases fuel with
  | zero=>omega
  | succ fuel =>
   have h:=hB j d rfl hj
   rw [if_neg (by omega)] at h
   rw [z0w h,Sort.shiftUp,if_neg (by omega)]
   exact ⟨_,rfl⟩
 | succ n ih =>
  intro j fuel d hn hf hj hb hB
  cases fuel with
  | zero=>omega
  | succ fuel =>
   have h:=hB j d rfl hj
   rw [Sort.shiftUp]
   by_cases hjb:j < b
   ·rw [if_pos hjb]
    by_cases hc:ltT d[j]! d[j - 1]! = true
    ·rw [if_pos ⟨hjb,hc⟩] at h
     rw [z1e h,if_neg (by simp [hc])]
     exact ih _ fuel _ (by omega) (by omega) (by omega) (by rw [z10]; omega) (fun j' d' h1 h2=>hB j' d' (by rw [h1,z10]) h2)
    ·rw [if_neg (fun h=>hc h.2)] at h
     rw [z0w h,if_pos (by simpa using hc)]
     exact ⟨_,rfl⟩
   ·rw [if_neg (fun h=>hjb h.1)] at h
    rw [z0w h,if_neg hjb]
    exact ⟨_,rfl⟩
theorem zby {B:Int→Option (Ctl Int Empty)} {b:Nat} {d:Array Time}:∀ (n i fuel:Nat),b - i≤n→n < fuel→1≤i →
  (∀ (i' : Nat),i≤i' → B (i' : Int)=if i' < b∧ltT d[i']! d[i' - 1]! = false then some (.next ((i' + 1:Nat):Int)) else some (.brk (i' : Int))) →
  loopN B fuel (i:Int)=some (.done ((Sort.scanSorted ltT d b i:Nat):Int))∧i≤Sort.scanSorted ltT d b i∧(i≤b→Sort.scanSorted ltT d b i≤b):=by
 intro n
 induction n with
 | zero =>
  intro i fuel hn hf hi hB
  cases fuel with
  | zero=>omega
  | succ fuel =>
   have h:=hB i (Nat.le_refl _)
   rw [if_neg (by omega)] at h
   rw [z0w h,Sort.scanSorted,if_neg (by simp; omega)]
   exact ⟨rfl,Nat.le_refl _,fun h=>h⟩
 | succ n ih =>
  intro i fuel hn hf hi hB
  cases fuel with
  | zero=>omega
  | succ fuel =>
   have h:=hB i (Nat.le_refl _)
   rw [Sort.scanSorted]
   by_cases hc:i < b∧ltT d[i]! d[i - 1]! = false
   ·rw [if_pos hc] at h
    rw [z1e h,if_pos (by simpa using hc)]
    obtain ⟨h1,h2,h3⟩:=ih (i + 1) fuel (by omega) (by omega) (by omega) (fun i' h=>hB i' (by omega))
    exact ⟨h1,by omega,fun h=>h3 (by omega)⟩
   ·rw [if_neg hc] at h
    rw [z0w h,if_neg (by simpa using hc)]
    exact ⟨rfl,Nat.le_refl _,fun h=>h⟩
def zd4 (a b i:Nat) (d:Array Time):Array Time :=
 let d:=Sort.swp d i (i - 1)
 let d:=if i - a ≥ 2 then Sort.shiftDown ltT (i - 1) d else d
 if b - i ≥ 2 then Sort.shiftUp ltT b (i + 1) d else d
theorem zdf (a b i:Nat) (d:Array Time):(zd4 a b i d).size=d.size:=by
 unfold zd4
 dsimp only
 split <;> split <;> simp [zlj b b _ _ (Nat.sub_le _ _),zb3,z10]
theorem zcs (a b s i:Nat) (d:Array Time):Sort.partialIns ltT a b (s + 1) i d =
  if Sort.scanSorted ltT d b i=b then (d,true) else if b - a < 50 then (d,false) else Sort.partialIns ltT a b s (Sort.scanSorted ltT d b i) (zd4 a b (Sort.scanSorted ltT d b i) d):=rfl
theorem znn {B:Int × Int × List Time→Option (Ctl (Int × Int × List Time) (Bool × List Time))} {a b:Nat} {Q:Type} {kn:Int × Int × List Time→Option Q} {kr:Bool × List Time→Option Q} {q:Option Q}:∀ (s i fuel:Nat) (d:Array Time),s≤5→s < fuel→a < i→i≤b →
  (∀ (i:Nat) (d' : Array Time),d'.size=d.size→a < i→i≤b→i≤Sort.scanSorted ltT d' b i∧Sort.scanSorted ltT d' b i≤b) →
  (∀ (s i:Nat) (d' : Array Time),d'.size=d.size→s≤5→a < i→i≤b→B ((i:Int),((5 - s:Nat):Int),d'.toList)=match s with
   | 0=>some (.brk ((i:Int),5,d'.toList))
   | s + 1=>if Sort.scanSorted ltT d' b i=b then some (.ret (true,d'.toList)) else if b - a < 50 then some (.ret (false,d'.toList)) else some (.next (((Sort.scanSorted ltT d' b i:Nat):Int),((5 - s:Nat):Int),(zd4 a b (Sort.scanSorted ltT d' b i) d').toList))) →
  (∀ x,(Sort.partialIns ltT a b s i d).2=false→kn (x,5,(Sort.partialIns ltT a b s i d).1.toList)=q)→(kr ((Sort.partialIns ltT a b s i d).2,(Sort.partialIns ltT a b s i d).1.toList)=q) →
  outK (loopN B fuel ((i:Int),((5 - s:Nat):Int),d.toList)) kn kr=q:=by
 intro s
 induction s with
 | zero =>
  intro i fuel d hs hf hi hib hsc hB hkn hkr
  cases fuel with
  | zero=>omega
  | succ fuel =>
   rw [z0w (hB 0 i d rfl hs hi hib)]
   exact hkn _ rfl
 | succ s ih =>
  intro i fuel d hs hf hi hib hsc hB hkn hkr
  cases fuel with
  | zero=>omega
  | succ fuel =>
   have h:=hB (s + 1) i d rfl hs hi hib
   simp only at h
   rw [zcs] at hkn hkr
   have hb:=hsc i d rfl hi hib
   by_cases h1:Sort.scanSorted ltT d b i=b
   ·rw [if_pos h1] at h
    rw [z8r h]
    rw [if_pos h1] at hkr
    exact hkr
   ·rw [if_neg h1] at h hkn hkr
    by_cases h2:b - a < 50
    ·rw [if_pos h2] at h
     rw [z8r h]
     rw [if_pos h2] at hkr
     exact hkr
    ·rw [if_neg h2] at h hkn hkr
     rw [z1e h]
     exact ih _ fuel _ (by omega) (by omega) (by omega) (by omega) (fun i' d' h1 h2 h3=>hsc i' d' (by rw [h1,zdf]) h2 h3) (fun s' i' d' h1 h2 h3 h4=>hB s' i' d' (by rw [h1,zdf]) h2 h3 h4) hkn hkr
theorem zbp {fuel a b:Nat} {d:Array Time} (hab:a < b) (hb:b≤d.size) (hd:d.size < 1152921504606846976) (hf:d.size + 10 < fuel) :
  z0n fuel (a:Int) (b:Int) d.toList=some ((Sort.partialInsertionSort ltT d a b).2,(Sort.partialInsertionSort ltT d a b).1.toList):=by
 unfold z0n Sort.partialInsertionSort
 rw [wadd1 (by omega)]
 refine znn (a:=a) (b:=b) 5 (a + 1) fuel d (by omega) (by omega) (by omega) (by omega) ?_ ?_ (fun x h=>by rw [h]) rfl
 ·intro i e he h1 h2
  have:=(zby (B:=fun x=>if x.toNat < b∧ltT e[x.toNat]! e[x.toNat - 1]! = false then some (.next ((x.toNat + 1:Nat):Int)) else some (.brk (x.toNat:Int))) (b:=b) (d:=e) b i (b + 1) (by omega) (by omega) (by omega) (fun i' h=>by simp only [Int.toNat_natCast]))
  exact ⟨this.2.1,this.2.2 h2⟩
 ·intro s i e he hs hi hib
  cases s with
  | zero=>rfl
  | succ s =>
   simp only [z07,jn_eq]
   rw [if_pos (show ((5 - (s + 1):Nat):Int) < 5 by omega)]
   obtain ⟨g1,g2,g3⟩:=zby (B:=fun (a5:Int)=>if (a5 < (b:Int)) then (need ((0:Int)≤a5∧a5 < (e.toList.length:Int)) <| need ((0 + a5.toNat) < e.toList.length) <| need ((0:Int)≤(IntKind.i64.wrap (a5 - 1))∧(IntKind.i64.wrap (a5 - 1)) < (e.toList.length:Int)) <| need ((0 + (IntKind.i64.wrap (a5 - 1)).toNat) < e.toList.length) <| (z11 (e.toList.getD (0 + a5.toNat) default) (e.toList.getD (0 + (IntKind.i64.wrap (a5 - 1)).toNat) default)).bind fun r54=>bf (!(decide (r54 < 0))) (some (.next (IntKind.i64.wrap (a5 + 1)))) (some (.brk a5))) else (bf false (some (.next (IntKind.i64.wrap (a5 + 1)))) (some (.brk a5)))) (b:=b) (d:=e) b i fuel (by omega) (by omega) (by omega) (fun k hk=>by
    simp only [jn_eq,intlt]
    by_cases hc:k < b
    ·rw [if_pos hc]
     simp (disch:=omega) only [wsub1,wadd1,Int.toNat_natCast,Nat.zero_add,z06,Array.length_toList,z2k,Option.bind_some,z1p,hc,true_and]
     unfold ltT
     by_cases h:cmpT e[k]! e[k - 1]! < 0
     ·simp [h]
     ·simp [h]
    ·rw [if_neg hc,if_neg (fun h=>hc h.1),z0z])
   rw [g1]
   simp only [z2a]
   have g3:=g3 hib
   generalize Sort.scanSorted ltT e b i=i2 at *
   by_cases h1:i2=b
   ·rw [if_pos h1,if_pos (by omega)]
   ·rw [if_neg h1,if_neg (by omega),wsub (by omega) (by omega)]
    by_cases h2:b - a < 50
    ·rw [if_pos h2,if_pos (by omega)]
    ·rw [if_neg h2,if_neg (by omega)]
     have w1:IntKind.i64.wrap ((i2:Int) + 1)=((i2 + 1:Nat):Int):=wadd1 (by omega)
     have w2:IntKind.i64.wrap ((i2:Int) - 1)=((i2 - 1:Nat):Int):=wsub1 (by omega) (by omega)
     have w3:IntKind.i64.wrap ((i2:Int) - (a:Int))=((i2 - a:Nat):Int):=wsub (by omega) (by omega)
     have w4:IntKind.i64.wrap ((b:Int) - (i2:Int))=((b - i2:Nat):Int):=wsub (by omega) (by omega)
     have w5:IntKind.i64.wrap (((5 - (s + 1):Nat):Int) + 1)=((5 - s:Nat):Int):=by rw [wadd1 (by omega)]; omega
     simp only [w1,w2,w3,w4,w5,Int.toNat_natCast,Nat.zero_add,Array.length_toList,List.length_set,z1p,z2r,jn_eq]
     rw [z06 (by omega),z06 (by omega),z06 (by omega),z06 (by omega),z06 (by omega),z06 (by omega),z06 (by omega),z06 (by omega)]
     unfold zd4
     dsimp only
     have hsz:=z10 e i2 (i2 - 1)
     generalize Sort.swp e i2 (i2 - 1)=f at *
     have up:∀ g:Array Time,g.size=e.size→(if (2:Int)≤((b - i2:Nat):Int) then (outK (loopN (S:=Int × (List Time)) (R:=Empty) (fun (a17:Int × (List Time))=>if (a17.1 < (b:Int)) then (need ((0:Int)≤a17.1∧a17.1 < (a17.2.length:Int)) <| need (a17.1.toNat < a17.2.length) <| need ((0:Int)≤(IntKind.i64.wrap (a17.1 - 1))∧(IntKind.i64.wrap (a17.1 - 1)) < (a17.2.length:Int)) <| need ((IntKind.i64.wrap (a17.1 - 1)).toNat < a17.2.length) <| (z11 (a17.2.getD a17.1.toNat default) (a17.2.getD (IntKind.i64.wrap (a17.1 - 1)).toNat default)).bind fun r23=>bf (!(decide (r23 < 0))) (some (.brk (a17.1,a17.2))) (need ((0:Int)≤(IntKind.i64.wrap (a17.1 - 1))∧(IntKind.i64.wrap (a17.1 - 1)) < (a17.2.length:Int)) <| need ((IntKind.i64.wrap (a17.1 - 1)).toNat < a17.2.length) <| need ((0:Int)≤a17.1∧a17.1 < (a17.2.length:Int)) <| need (a17.1.toNat < a17.2.length) <| need ((0:Int)≤a17.1∧a17.1 < (a17.2.length:Int)) <| need (a17.1.toNat < a17.2.length) <| need ((0:Int)≤(IntKind.i64.wrap (a17.1 - 1))∧(IntKind.i64.wrap (a17.1 - 1)) < (a17.2.length:Int)) <| need ((IntKind.i64.wrap (a17.1 - 1)).toNat < a17.2.length) <| some (.next ((IntKind.i64.wrap (a17.1 + 1)),((a17.2.set a17.1.toNat (a17.2.getD (IntKind.i64.wrap (a17.1 - 1)).toNat default)).set (IntKind.i64.wrap (a17.1 - 1)).toNat (a17.2.getD a17.1.toNat default)))))) else (some (.brk (a17.1,a17.2)))) fuel (((i2 + 1:Nat):Int),g.toList)) (fun (a18:Int × (List Time))=>some (Ctl.next ((i2:Int),((5 - s:Nat):Int),a18.2))) (fun (x:Empty)=>x.elim)) else some (Ctl.next ((i2:Int),((5 - s:Nat):Int),g.toList)))=(some (Ctl.next ((i2:Int),((5 - s:Nat):Int),(if b - i2 ≥ 2 then Sort.shiftUp ltT b (i2 + 1) g else g).toList)):Option (Ctl (Int × Int × List Time) (Bool × List Time))):=fun g hg=>by
      by_cases h3:b - i2 ≥ 2
      ·rw [if_pos h3,if_pos (by omega)]
       refine z6z (zjh (b:=b) b (i2 + 1) fuel g (by omega) (by omega) (by omega) (by omega) ?_) (fun x=>rfl)
       intro j g' hg' hj
       simp only [intlt]
       by_cases hc:j < b
       ·rw [if_pos hc]
        simp (disch:=omega) only [wsub1,wadd1,Int.toNat_natCast,Nat.zero_add,z06,Array.length_toList,List.length_set,z2k,Option.bind_some,z1p,z2r,hc,true_and]
        unfold ltT
        by_cases h:cmpT g'[j]! g'[j - 1]! < 0
        ·simp [h]
        ·simp [h]
       ·rw [if_neg hc,if_neg (fun h=>hc h.1)]
      ·rw [if_neg h3,if_neg (by omega)]
     by_cases h4:i2 - a ≥ 2
     ·rw [if_pos h4,if_pos (by omega)]
      refine z6z (zhm (i2 - 1) fuel f (by omega) (by omega) ?_) (fun x => ?_)
      ·intro j g' hg' hj
       by_cases hc:1≤j
       ·simp only [show ((1:Int)≤(j:Int))=True from eq_true (by omega),if_true]
        simp (disch:=omega) only [wsub1,wadd1,Int.toNat_natCast,Nat.zero_add,z06,Array.length_toList,List.length_set,z2k,Option.bind_some,z1p,z2r,hc,true_and]
        unfold ltT
        by_cases h:cmpT g'[j]! g'[j - 1]! < 0
        ·simp [h]
        ·simp [h]
       ·rw [if_neg (by simp only; omega),if_neg (fun h=>hc h.1)]
      ·exact up (Sort.shiftDown ltT (i2 - 1) f) (by rw [zb3]; omega)
     ·rw [if_neg h4,if_neg (by omega)]
      exact up f (by omega)
end Go.Av
namespace Go.Av
open Go
set_option linter.unusedVariables false
set_option linter.unusedSimpArgs false
theorem zp9:∀ x:Fin 256,∃ l:Fin 9,bt z2y (x.val:Int)=(l.val:Int)∧x.val < 2 ^ l.val∧(x.val=0→l.val=0)∧(x.val ≠ 0→2 ^ (l.val - 1)≤x.val∧0 < l.val):=by decide +kernel
def IsLen (n L:Nat):Prop:=n < 2 ^ L∧(n=0→L=0)∧(n ≠ 0→2 ^ (L - 1)≤n∧0 < L)
theorem IsLen.shift {n L s:Nat} (h:IsLen (n / 2 ^ s) L) (hn:2 ^ s≤n):IsLen n (L + s):=by
 obtain ⟨h1,h2,h3⟩:=h
 have hp:0 < 2 ^ s:=Nat.pow_pos (by decide)
 have hq:n / 2 ^ s ≠ 0:=Nat.ne_of_gt (Nat.div_pos hn hp)
 obtain ⟨h4,h5⟩:=h3 hq
 refine ⟨?_,fun h=>by omega,fun _=>⟨?_,by omega⟩⟩
 ·rw [Nat.pow_add]
  exact (Nat.div_lt_iff_lt_mul hp).1 h1
 ·rw [show L + s - 1=(L - 1) + s by omega,Nat.pow_add]
  exact (Nat.le_div_iff_mul_le hp).1 h4
theorem zni {n:Nat} (h:n < 2 ^ 64):∃ L:Nat,z6q (n:Int)=some (L:Int)∧IsLen n L∧L≤64:=by
 have last:∀ (x b:Nat),x < 256→b≤56→∃ L:Nat,(need ((0:Int)≤(IntKind.u8.wrap (x:Int))∧(IntKind.u8.wrap (x:Int)) < (z2y.size:Int)) <| some (IntKind.i64.wrap ((b:Int) + (IntKind.i64.wrap (bt z2y (IntKind.u8.wrap (x:Int)))))))=some ((L + b:Nat):Int)∧IsLen x L∧L≤8:=fun x b hx hb=>by
  obtain ⟨l,h1,h2,h3,h4⟩:=zp9 ⟨x,hx⟩
  have e:IntKind.u8.wrap (x:Int)=(x:Int):=uwrap (k:=.u8) rfl hx
  have hsz:z2y.size=256:=by decide +kernel
  rw [e,hsz,z06 (by omega),h1]
  have hl:=l.isLt
  refine ⟨l.val,?_,⟨h2,h3,h4⟩,by omega⟩
  rw [z1t (n:=(l.val:Int)) (by omega) (by omega),z1t (by omega) (by omega)]
  exact congrArg some (by omega)
 have s8:∀ x:Nat,shrOp .u64 (x:Int) 8=((x / 2 ^ 8:Nat):Int):=fun x=>zct .u64 x 8 (by decide)
 have s16:∀ x:Nat,shrOp .u64 (x:Int) 16=((x / 2 ^ 16:Nat):Int):=fun x=>zct .u64 x 16 (by decide)
 have s32:∀ x:Nat,shrOp .u64 (x:Int) 32=((x / 2 ^ 32:Nat):Int):=fun x=>zct .u64 x 32 (by decide)
 have p8:∀ (x b:Nat),x < 65536→b≤48→∃ L:Nat,bf (decide (256≤(x:Int))) (need ((0:Int)≤(IntKind.u8.wrap (shrOp .u64 (x:Int) 8))∧(IntKind.u8.wrap (shrOp .u64 (x:Int) 8)) < (z2y.size:Int)) <| some (IntKind.i64.wrap ((IntKind.i64.wrap ((b:Int) + 8)) + (IntKind.i64.wrap (bt z2y (IntKind.u8.wrap (shrOp .u64 (x:Int) 8))))))) (need ((0:Int)≤(IntKind.u8.wrap (x:Int))∧(IntKind.u8.wrap (x:Int)) < (z2y.size:Int)) <| some (IntKind.i64.wrap ((b:Int) + (IntKind.i64.wrap (bt z2y (IntKind.u8.wrap (x:Int)))))))=some ((L + b:Nat):Int)∧IsLen x L∧L≤16:=fun x b hx hb=>by
  rw [z07]
  by_cases h1:256≤(x:Int)
  ·rw [if_pos h1,s8,z1t (n:=(b:Int) + 8) (by omega) (by omega)]
   obtain ⟨L,g1,g2,g3⟩:=last (x / 2 ^ 8) (b + 8) (by omega) (by omega)
   rw [show ((b + 8:Nat):Int)=(b:Int) + 8 by omega] at g1
   refine ⟨L + 8,?_,g2.shift (by omega),by omega⟩
   exact g1.trans (congrArg some (by omega))
  ·rw [if_neg h1]
   obtain ⟨L,g1,g2,g3⟩:=last x b (by omega) (by omega)
   exact ⟨L,g1,g2,by omega⟩
 unfold z6q
 simp only [jn_eq]
 by_cases h1:4294967296≤(n:Int)
 ·rw [z07,if_pos h1,s32,z07]
  by_cases h2:65536≤((n / 2 ^ 32:Nat):Int)
  ·rw [if_pos h2,s16,show IntKind.i64.wrap (32 + 16)=((48:Nat):Int) from by decide]
   obtain ⟨L,g1,g2,g3⟩:=p8 (n / 2 ^ 32 / 2 ^ 16) 48 (by omega) (by omega)
   refine ⟨L + 48,g1,?_,by omega⟩
   have:=(g2.shift (by omega)).shift (n:=n) (s:=32) (by omega)
   rw [Nat.add_assoc] at this
   exact this
  ·rw [if_neg h2]
   obtain ⟨L,g1,g2,g3⟩:=p8 (n / 2 ^ 32) 32 (by omega) (by omega)
   exact ⟨L + 32,g1,g2.shift (by omega),by omega⟩
 ·rw [z07,if_neg h1,z07]
  by_cases h2:65536≤(n:Int)
  ·rw [if_pos h2,s16,show IntKind.i64.wrap (0 + 16)=((16:Nat):Int) from by decide]
   obtain ⟨L,g1,g2,g3⟩:=p8 (n / 2 ^ 16) 16 (by omega) (by omega)
   exact ⟨L + 16,g1,g2.shift (by omega),by omega⟩
  ·rw [if_neg h2]
   obtain ⟨L,g1,g2,g3⟩:=p8 n 0 (by omega) (by omega)
   exact ⟨L,by rw [show ((0:Nat):Int)=0 from rfl] at g1; exact g1,g2,by omega⟩
theorem zo6 {n L K:Nat} (h:IsLen n L) (g:IsLen n K):L=K:=by
 obtain ⟨h1,h2,h3⟩:=h
 obtain ⟨g1,g2,g3⟩:=g
 by_cases h0:n=0
 ·rw [h2 h0,g2 h0]
 ·obtain ⟨h4,h5⟩:=h3 h0
  obtain ⟨g4,g5⟩:=g3 h0
  rcases Nat.lt_trichotomy L K with e | e | e
  ·have:=Nat.pow_le_pow_right (n:=2) (by decide) (show L≤K - 1 by omega); omega
  ·exact e
  ·have:=Nat.pow_le_pow_right (n:=2) (by decide) (show K≤L - 1 by omega); omega
theorem zlk (n:Nat):IsLen n (Sort.bitsLen n):=by
 refine ⟨Sort.lt_two_pow_bitsLen n,fun h=>by rw [h]; rfl,fun h => ?_⟩
 have hp:0 < Sort.bitsLen n:=by unfold Sort.bitsLen; rw [if_neg h]; omega
 refine ⟨?_,hp⟩
 have:=mt (Sort.bitsLen_le_iff n (Sort.bitsLen n - 1)).2 (by omega)
 omega
theorem zgu {n k:Nat} (h:n < 2 ^ k):Sort.bitsLen n≤k:=(Sort.bitsLen_le_iff n k).2 h
theorem zmf {n:Nat} (h:n < 2 ^ 64):z6g (n:Int)=some ((Sort.bitsLen n:Nat):Int):=by
 unfold z6g
 have e:IntKind.u64.wrap (n:Int)=(n:Int):=uwrap (k:=.u64) rfl h
 obtain ⟨L,e1,e2,_⟩:=zni h
 rw [show Sort.bitsLen n=L from zo6 (zlk n) e2]
 first
  | rw [e,e1]; rfl
  | (rw [e1]; rfl)
end Go.Av
namespace Go.Av
open Go
set_option linter.unusedVariables false
set_option linter.unusedSimpArgs false
theorem zpa {x:Nat} (h:x < 2 ^ 64):z3v (x:Int)=some (((Sort.xorNextN x:Nat):Int),((Sort.xorNextN x:Nat):Int)):=by
 unfold z3v
 have s13:∀ y:Nat,shlOp .u64 (y:Int) 13=((y * 8192 % 18446744073709551616:Nat):Int):=fun y=>by
  have:=zhl (k:=.u64) y 13 (by decide)
  rw [show ((13:Nat):Int)=13 from rfl] at this
  rw [this,z8m]; omega
 have s17:∀ y:Nat,shlOp .u64 (y:Int) 17=((y * 131072 % 18446744073709551616:Nat):Int):=fun y=>by
  have:=zhl (k:=.u64) y 17 (by decide)
  rw [show ((17:Nat):Int)=17 from rfl] at this
  rw [this,z8m]; omega
 have s7:∀ y:Nat,shrOp .u64 (y:Int) 7=((y / 128:Nat):Int):=fun y=>zct .u64 y 7 (by decide)
 have ha:x ^^^ (x * 8192 % 18446744073709551616) < 2 ^ 64:=Nat.xor_lt_two_pow h (by omega)
 have hb:(x ^^^ (x * 8192 % 18446744073709551616)) ^^^ ((x ^^^ (x * 8192 % 18446744073709551616)) / 128) < 2 ^ 64:=Nat.xor_lt_two_pow ha (by omega)
 rw [s13,zhr (k:=.u64) rfl h (show x * 8192 % 18446744073709551616 < 2 ^ 64 by omega),s7,zhr (k:=.u64) rfl ha (show (x ^^^ (x * 8192 % 18446744073709551616)) / 128 < 2 ^ 64 by omega),s17,zhr (k:=.u64) rfl hb (show ((x ^^^ (x * 8192 % 18446744073709551616)) ^^^ ((x ^^^ (x * 8192 % 18446744073709551616)) / 128)) * 131072 % 18446744073709551616 < 2 ^ 64 by omega)]
 rfl
theorem zef (a l m:Nat) (st:UInt64 × Array Time) (i:Nat):(Sort.breakStep a l m st i).2.size=st.2.size:=by
 unfold Sort.breakStep
 exact z10 _ _ _
theorem zlh {l:Nat} (h:l < 1152921504606846976):Sort.bitsLen l≤60:=zgu h
theorem zlp {B:Int × Int × Int × List Time→Option (Ctl (Int × Int × Int × List Time) Empty)} {a b l M fuel K:Nat} {d:Array Time} {r0:UInt64} {n0:Nat} (h0:r0.toNat=n0) {Q:Type} {kn:Int × Int × Int × List Time→Option Q} {kr:Empty→Option Q} {q:Option Q} (hf:4 < fuel) (hK0:1≤K) (hK:a≤K - 1) (hK2:K + 1 < b) (hb:b≤d.size)
  (hB:∀ (k:Nat) (r:UInt64) (e:Array Time),e.size=d.size→a≤k→k≤K + 1→k < b→B ((n0:Int),(k:Int),(r.toNat:Int),e.toList)=some (.next ((n0:Int),((k + 1:Nat):Int),((Sort.breakStep a l M (r,e) k).1.toNat:Int),(Sort.breakStep a l M (r,e) k).2.toList)))
  (hE:∀ (r:UInt64) (e:Array Time),B ((n0:Int),((K + 2:Nat):Int),(r.toNat:Int),e.toList)=some (.brk ((n0:Int),((K + 2:Nat):Int),(r.toNat:Int),e.toList)))
  (hk:∀ x y z,kn (x,y,z,(Sort.breakStep a l M (Sort.breakStep a l M (Sort.breakStep a l M (r0,d) (K - 1)) (K - 1 + 1)) (K - 1 + 2)).2.toList)=q) :
  outK (loopN B fuel ((n0:Int),((K - 1:Nat):Int),(n0:Int),d.toList)) kn kr=q:=by
 subst h0
 obtain ⟨f,rfl⟩:∃ f,fuel=f + 1 + 1 + 1 + 1:=⟨fuel - 4,by omega⟩
 have s1:=zef a l M (r0,d) (K - 1)
 have s2:=zef a l M (Sort.breakStep a l M (r0,d) (K - 1)) (K - 1 + 1)
 have h1:=hB (K - 1) r0 d rfl (by omega) (by omega) (by omega)
 have h2:=hB (K - 1 + 1) (Sort.breakStep a l M (r0,d) (K - 1)).1 (Sort.breakStep a l M (r0,d) (K - 1)).2 s1 (by omega) (by omega) (by omega)
 have h3:=hB (K - 1 + 1 + 1) (Sort.breakStep a l M (Sort.breakStep a l M (r0,d) (K - 1)) (K - 1 + 1)).1 (Sort.breakStep a l M (Sort.breakStep a l M (r0,d) (K - 1)) (K - 1 + 1)).2 (s2.trans s1) (by omega) (by omega) (by omega)
 rw [z1e h1,z1e h2,z1e h3,show K - 1 + 1 + 1 + 1=K + 2 by omega,z0w (hE _ _)]
 exact hk _ _ _
theorem zg7 {fuel a b:Nat} {d:Array Time} (hab:a < b) (hb:b≤d.size) (hd:d.size < 1152921504606846976) (hf:4 < fuel) :
  z16 fuel (a:Int) (b:Int) d.toList=some (Sort.breakPatterns d a b).toList:=by
 unfold z16 Sort.breakPatterns
 have e0:IntKind.i64.wrap ((b:Int) - (a:Int))=((b - a:Nat):Int):=wsub (by omega) (by omega)
 simp only [e0,z07]
 by_cases h8:b - a ≥ 8
 ·rw [if_pos h8,if_pos (by omega)]
  have hL:=zlh (l:=b - a) (by omega)
  have hLl:=Sort.lt_two_pow_bitsLen (b - a)
  have hLu:=Sort.two_pow_bitsLen_le (n:=b - a) (by omega)
  have hp:2 ^ Sort.bitsLen (b - a)≤2 ^ 60:=Nat.pow_le_pow_right (by decide) hL
  have hm:z47 ((b - a:Nat):Int)=some ((2 ^ Sort.bitsLen (b - a):Nat):Int):=by
   unfold z47
   have e:IntKind.u64.wrap ((b - a:Nat):Int)=((b - a:Nat):Int):=uwrap (k:=.u64) rfl (show b - a < 2 ^ 64 by omega)
   rw [e,zmf (by omega),Option.bind_some,z06 (by omega)]
   have:=zhl (k:=.u64) 1 (Sort.bitsLen (b - a)) (by show Sort.bitsLen (b - a)≤64; omega)
   rw [show ((1:Nat):Int)=1 from rfl,Nat.one_mul] at this
   rw [this,uwrap (k:=.u64) rfl (show 2 ^ Sort.bitsLen (b - a) < 2 ^ 64 by omega)]
  rw [hm,Option.bind_some,Nat.one_shiftLeft]
  generalize 2 ^ Sort.bitsLen (b - a)=M at *
  have e1:IntKind.i64.wrap (((b - a:Nat):Int).tdiv 4)=(((b - a) / 4:Nat):Int):=by rw [Int.tdiv_eq_ediv_of_nonneg (by omega),z1t (by omega) (by omega)]; omega
  have e2:IntKind.i64.wrap ((((b - a) / 4:Nat):Int) * 2)=(((b - a) / 4 * 2:Nat):Int):=by rw [z1t (by omega) (by omega)]; omega
  have e3:IntKind.i64.wrap ((a:Int) + (((b - a) / 4 * 2:Nat):Int))=((a + (b - a) / 4 * 2:Nat):Int):=wadd (by omega)
  have e4:IntKind.i64.wrap (((a + (b - a) / 4 * 2:Nat):Int) - 1)=((a + (b - a) / 4 * 2 - 1:Nat):Int):=wsub1 (by omega) (by omega)
  have e5:IntKind.i64.wrap (((a + (b - a) / 4 * 2:Nat):Int) + 1)=((a + (b - a) / 4 * 2 + 1:Nat):Int):=wadd1 (by omega)
  have e6:IntKind.i64.wrap ((b - a:Nat):Int)=((b - a:Nat):Int):=z5q (by unfold in64; omega)
  have e7:IntKind.u64.wrap ((b - a:Nat):Int)=((b - a:Nat):Int):=uwrap (k:=.u64) rfl (show b - a < 2 ^ 64 by omega)
  have e8:IntKind.u64.wrap ((M:Int) - 1)=((M - 1:Nat):Int):=by rw [z8m]; omega
  simp only [e1,e2,e3,e4,e7,e8,jn_eq]
  have hr0:(UInt64.ofNat (b - a)).toNat=b - a:=by rw [UInt64.toNat_ofNat']; omega
  refine zlp (r0:=UInt64.ofNat (b - a)) (n0:=b - a) hr0 (a:=a) (l:=(b - a)) (M:=M) (b:=b) (K:=a + (b - a) / 4 * 2) hf (by omega) (by omega) (by omega) hb ?_ ?_ (fun x y z=>by dsimp only)
  ·intro k r e he hk1 hk2 hk3
   simp only
   rw [if_pos (show (k:Int)≤_ by rw [e1,e2,e3,e5]; omega)]
   have hr:=UInt64.toNat_lt r
   rw [zpa (by omega),Option.bind_some]
   unfold Sort.breakStep
   dsimp only
   rw [Sort.xorNext_toNat]
   have hx:=Sort.xorNextN_lt r.toNat (by omega)
   have ea:z0m .and .u64 ((Sort.xorNextN r.toNat:Nat):Int) ((M - 1:Nat):Int)=((Sort.xorNextN r.toNat &&& (M - 1):Nat):Int):=zpb (k:=.u64) rfl (show _ < 2 ^ 64 by omega) (show M - 1 < 2 ^ 64 by omega)
   have hal:Sort.xorNextN r.toNat &&& (M - 1)≤M - 1:=Nat.and_le_right
   rw [ea]
   generalize Sort.xorNextN r.toNat &&& (M - 1)=o at *
   have eo:IntKind.i64.wrap (o:Int)=(o:Int):=z5q (by unfold in64; omega)
   rw [eo]
   have w1:IntKind.i64.wrap ((k:Int) + 1)=((k + 1:Nat):Int):=wadd1 (by omega)
   by_cases ho:o ≥ b - a
   ·have w2:IntKind.i64.wrap ((o:Int) - ((b - a:Nat):Int))=((o - (b - a):Nat):Int):=wsub (by omega) (by omega)
    have w3:IntKind.i64.wrap ((a:Int) + ((o - (b - a):Nat):Int))=((a + (o - (b - a)):Nat):Int):=wadd (by omega)
    rw [if_pos ho,if_pos (by omega),w1,w2,w3]
    simp (disch:=omega) only [Int.toNat_natCast,Nat.zero_add,z06,Array.length_toList,List.length_set,z1p,z2r]
   ·have w3:IntKind.i64.wrap ((a:Int) + (o:Int))=((a + o:Nat):Int):=wadd (by omega)
    rw [if_neg ho,if_neg (by omega),w1,w3]
    simp (disch:=omega) only [Int.toNat_natCast,Nat.zero_add,z06,Array.length_toList,List.length_set,z1p,z2r]
  ·intro r e
   simp only
   rw [if_neg (show ¬ ((a + (b - a) / 4 * 2 + 2:Nat):Int)≤_ by rw [e1,e2,e3,e5]; omega)]
 ·rw [if_neg h8,if_neg (by omega)]
end Go.Av
namespace Go.Av
open Go
set_option linter.unusedVariables false
set_option linter.unusedSimpArgs false
abbrev PdqS:=Int × Int × Int × Bool × Bool × (List Time)
def pK12 (fuel : Nat) (a b : Int) (lim len : Int) (pivot : Int) (wb wp : Bool) (l : List Time) (x : Bool) : Option (Ctl PdqS (List Time)) :=
  bf x ((                                         z14 fuel a b pivot l).bind fun r14 => need (r14.2.length = l.length) <| some (.next (r14.1, b, lim, wb, wp, r14.2)))
    ((                                    z1m fuel a b pivot l).bind fun r16 => need (r16.2.2.length = l.length) <| bf (decide ((IntKind.i64.wrap (r16.1 - a)) < (IntKind.i64.wrap (b - r16.1))))
      ((                                  z0k fuel a r16.1 lim r16.2.2).bind fun r18 => need (r18.length = r16.2.2.length) <| some (.next ((IntKind.i64.wrap (r16.1 + 1)), b, lim, (decide ((IntKind.i64.wrap (len.tdiv 8)) ≤ (IntKind.i64.wrap (r16.1 - a)))), r16.2.1, r18)))
      ((                                  z0k fuel (IntKind.i64.wrap (r16.1 + 1)) b lim r16.2.2).bind fun r20 => need (r20.length = r16.2.2.length) <| some (.next (a, r16.1, lim, (decide ((IntKind.i64.wrap (len.tdiv 8)) ≤ (IntKind.i64.wrap (b - r16.1)))), r16.2.1, r20))))
def pK10 (fuel:Nat) (a b:Int) (lim len:Int) (pivot:Int) (wb wp:Bool) (l:List Time):Option (Ctl PdqS (List Time)) :=
 jn (fun (a12:Bool)=>pK12 fuel a b lim len pivot wb wp l a12) fun j13=>bf (decide (0 < a)) (need ((0:Int)≤(IntKind.i64.wrap (a - 1))∧(IntKind.i64.wrap (a - 1)) < (l.length:Int)) <| need ((0 + (IntKind.i64.wrap (a - 1)).toNat) < l.length) <| need ((0:Int)≤pivot∧pivot < (l.length:Int)) <| need ((0 + pivot.toNat) < l.length) <| (z11 (l.getD (0 + (IntKind.i64.wrap (a - 1)).toNat) default) (l.getD (0 + pivot.toNat) default)).bind fun r27=>j13 (!(decide (r27 < 0)))) (j13 false)
def pK8 (fuel:Nat) (a b:Int) (lim len:Int) (wb wp:Bool) (pivot hint:Int) (l:List Time):Option (Ctl PdqS (List Time)) :=
 jn (fun (a10:Bool × Bool × (List Time))=>pK10 fuel a b lim len pivot a10.1 a10.2.1 a10.2.2) fun j11=>jn (fun (a28:Bool × Bool × Bool)=>bf a28.2.2 ((z0n fuel a b l).bind fun r30=>need (r30.2.length=l.length) <| bf r30.1 (some (.ret r30.2)) (j11 (a28.1,a28.2.1,r30.2))) (j11 (a28.1,a28.2.1,l))) fun j29=>bf wb (bf wp (j29 (true,true,(decide (hint=1)))) (j29 (true,false,false))) (j29 (false,wp,false))
def pK5 (fuel:Nat) (a b:Int) (wb wp:Bool) (lim len:Int) (l:List Time):Option (Ctl PdqS (List Time)) :=
 (z1l l a b).bind fun r7=>jn (fun (a8:Int × Int × (List Time))=>pK8 fuel a b lim len wb wp a8.1 a8.2.1 a8.2.2) fun j9=>bf (decide (r7.2=2)) ((z1c fuel a b l).bind fun r32=>need (r32.length=l.length) <| j9 ((IntKind.i64.wrap ((IntKind.i64.wrap (b - 1)) - (IntKind.i64.wrap (r7.1 - a)))),1,r32)) (j9 (r7.1,r7.2,l))
def pBody (fuel:Nat) (a1:PdqS):Option (Ctl PdqS (List Time)) :=
 bf (decide ((IntKind.i64.wrap (a1.2.1 - a1.1))≤12)) ((z15 fuel a1.1 a1.2.1 a1.2.2.2.2.2).bind fun r3=>some (.ret r3)) (bf (decide (a1.2.2.1=0)) ((z1o fuel a1.1 a1.2.1 a1.2.2.2.2.2).bind fun r4=>some (.ret r4))
  (jn (fun (a5:Int × Int × (List Time))=>pK5 fuel a1.1 a1.2.1 a1.2.2.2.1 a1.2.2.2.2.1 a5.1 a5.2.1 a5.2.2) fun j6=>bf (!a1.2.2.2.1) ((z16 fuel a1.1 a1.2.1 a1.2.2.2.2.2).bind fun r34=>need (r34.length=a1.2.2.2.2.2.length) <| j6 ((IntKind.i64.wrap (a1.2.2.1 - 1)),(IntKind.i64.wrap (a1.2.1 - a1.1)),r34)) (j6 (a1.2.2.1,(IntKind.i64.wrap (a1.2.1 - a1.1)),a1.2.2.2.2.2))))
theorem zp8 (fuel:Nat) (a b lim:Int) (l:List Time):z0k (fuel + 1) a b lim l=outK (loopN (pBody fuel) fuel (a,b,lim,true,true,l)) (fun _=>none) (fun x=>some x):=rfl
def qD (a b lim:Nat) (wb wp:Bool) (pivot:Nat) (d:Array Time):Array Time :=
 if a > 0 && !ltT d[a - 1]! d[pivot]! then
  match Sort.partitionEqual ltT d a b pivot with
  | (mid,d4)=>if _h:a < mid∧mid≤b then Sort.pdq ltT d4 mid b lim wb wp else d4
 else
  match Sort.partition ltT d a b pivot with
  | (mid,alreadyPartitioned,d4) =>
   if _h:a≤mid∧mid < b then
    if mid - a < b - mid then
     Sort.pdq ltT (Sort.pdq ltT d4 a mid lim true true) (mid + 1) b lim (decide (mid - a ≥ (b - a) / 8)) alreadyPartitioned
    else
     Sort.pdq ltT (Sort.pdq ltT d4 (mid + 1) b lim true true) a mid lim (decide (b - mid ≥ (b - a) / 8)) alreadyPartitioned
   else d4
def qC (a b lim:Nat) (wb wp:Bool) (pivot:Nat) (hint:Sort.Hint) (d:Array Time):Array Time :=
 let pi:=if wb && wp && hint = .increasing then Sort.partialInsertionSort ltT d a b else (d,false)
 if pi.2 then pi.1 else qD a b lim wb wp pivot pi.1
def qB (a b lim:Nat) (wb wp:Bool) (d:Array Time):Array Time :=
 let c:=Sort.choosePivot ltT d a b
 if c.2 = .decreasing then qC a b lim wb wp ((b - 1) - (c.1 - a)) .increasing (Sort.reverseRange d a b) else qC a b lim wb wp c.1 c.2 d
theorem zor (d:Array Time) (a b lim:Nat) (wb wp:Bool):Sort.pdq ltT d a b lim wb wp =
  if b - a≤12 then Sort.insertionSort ltT d a b else if lim=0 then Sort.heapSort ltT d a b else
   (if wb then qB a b lim wb wp d else qB a b (lim - 1) wb wp (Sort.breakPatterns d a b)):=by
 rw [Sort.pdq]
 by_cases h1:b - a≤12
 ·rw [if_pos h1,if_pos h1]
 ·rw [if_neg h1,if_neg h1]
  by_cases h2:lim=0
  ·rw [if_pos h2,if_pos h2]
  ·rw [if_neg h2,if_neg h2]
   cases wb
   ·simp only [Bool.not_false,if_true]
    unfold qB
    dsimp only
    by_cases h3:(Sort.choosePivot ltT (Sort.breakPatterns d a b) a b).2 = .decreasing
    ·simp only [if_pos h3]; rfl
    ·simp only [if_neg h3]; rfl
   ·simp only [Bool.not_true,Bool.false_eq_true,if_false,if_true]
    unfold qB
    dsimp only
    by_cases h3:(Sort.choosePivot ltT d a b).2 = .decreasing
    ·simp only [if_pos h3]; rfl
    ·simp only [if_neg h3]; rfl
theorem zfr {α:Type} [Inhabited α] (p : α → Bool) (d:Array α) (i:Nat):∀ (j:Nat),i≤j + 1→i≤Sort.scanDown p d i j + 1
 | 0,h=>h
 | j + 1,h=>by
  unfold Sort.scanDown
  split
  ·rename_i hc
   have:i≤j + 1:=by simp at hc; exact hc.1
   exact zfr p d i j this
  ·exact h
theorem zkr {α:Type} [Inhabited α] (p : α → Bool) (d:Array α) (j:Nat):∀ (n i:Nat),j + 1 - i≤n→Sort.scanUp p d j i≤j→p d[Sort.scanUp p d j i]! = false:=by
 intro n
 induction n with
 | zero =>
  intro i hn h
  rw [Sort.scanUp] at h ⊢
  split at h
  ·rename_i hc; simp at hc; omega
  ·omega
 | succ n ih =>
  intro i hn h
  rw [Sort.scanUp] at h ⊢
  split at h
  ·rename_i hc
   rw [if_pos hc]
   exact ih (i + 1) (by omega) h
  ·rename_i hc
   rw [if_neg hc]
   simp at hc
   exact hc h
theorem zdx {α:Type} [Inhabited α] (p : α → Bool) (d:Array α) (i:Nat):∀ (j:Nat),i≤Sort.scanDown p d i j→1≤i→p d[Sort.scanDown p d i j]! = false
 | 0,h,h1=>by have:Sort.scanDown p d i 0=0:=rfl; omega
 | j + 1,h,h1=>by
  unfold Sort.scanDown at h ⊢
  split at h
  ·rename_i hc
   rw [if_pos hc]
   exact zdx p d i j h h1
  ·rename_i hc
   rw [if_neg hc]
   simp at hc
   exact hc h
theorem zox {α:Type} [Inhabited α] (p q : α → Bool) (hq:∀ x,q x = !p x) (d:Array α) (i j:Nat):1≤i→Sort.scanUp p d j i ≠ Sort.scanDown q d (Sort.scanUp p d j i) j:=fun hi e=>by
 have u:=z4o p d j _ i (Nat.le_refl _)
 have v:=z2m q d (Sort.scanUp p d j i) j
 have h1:=zkr p d j _ i (Nat.le_refl _) (by omega)
 have h2:=zdx q d (Sort.scanUp p d j i) j (by omega) (by omega)
 rw [← e,hq,h1] at h2
 cases h2
theorem zgz {a:Nat}:∀ (n i j:Nat) (d:Array Time),j + 1 - i≤n→1≤i→i≤j + 1→j < d.size→i≤(Sort.partEqLoop ltT a i j d).1∧(Sort.partEqLoop ltT a i j d).1≤j + 1∧(Sort.partEqLoop ltT a i j d).2.size=d.size:=by
 intro n
 induction n with
 | zero =>
  intro i j d hn hi hi2 hj
  have u:=(z4o (fun x => !ltT d[a]! x) d j _ i (Nat.le_refl _))
  have v:=z2m (fun x=>ltT d[a]! x) d (Sort.scanUp (fun x => !ltT d[a]! x) d j i) j
  rw [z82,if_pos (by omega)]
  exact ⟨u.2,by show Sort.scanUp _ _ _ _≤_; omega,rfl⟩
 | succ n ih =>
  intro i j d hn hi hi2 hj
  have u:=(z4o (fun x => !ltT d[a]! x) d j _ i (Nat.le_refl _))
  have v:=z2m (fun x=>ltT d[a]! x) d (Sort.scanUp (fun x => !ltT d[a]! x) d j i) j
  have w:=zfr (fun x=>ltT d[a]! x) d (Sort.scanUp (fun x => !ltT d[a]! x) d j i) j
  have hno:=zox (fun x => !ltT d[a]! x) (fun x=>ltT d[a]! x) (fun x=>by simp) d i j
  rw [z82]
  generalize Sort.scanUp (fun x => !ltT d[a]! x) d j i=i2 at *
  generalize Sort.scanDown (fun x=>ltT d[a]! x) d i2 j=j2 at *
  by_cases hc:i2 > j2
  ·rw [if_pos hc]
   exact ⟨u.2,by show i2≤_; omega,rfl⟩
  ·rw [if_neg hc]
   have:=ih (i2 + 1) (j2 - 1) (Sort.swp d i2 j2) (by omega) (by omega) (by omega) (by rw [z10]; omega)
   rw [z10] at this
   omega
end Go.Av
namespace Go.Av
open Go
set_option linter.unusedVariables false
set_option linter.unusedSimpArgs false
theorem zb0 {x y:Time}:ltT x y=true↔x.epoch < y.epoch∨(x.epoch=y.epoch∧(x.loop.1 < y.loop.1∨(x.loop.1=y.loop.1∧x.loop.2 < y.loop.2))):=by
 unfold ltT cmpT
 rw [decide_eq_true_eq]
 repeat' split
 all_goals omega
theorem swoT:Sort.SWO ltT where
 irrefl x:=by
  cases h:ltT x x with
  | false=>rfl
  | true=>rw [zb0] at h; omega
 trans x y z h1 h2:=by
  rw [zb0] at *
  omega
 ntrans x y z h1 h2:=by
  rw [← Bool.not_eq_true,zb0] at *
  omega
theorem zka (a b:Nat):∀ (n i:Nat) (d:Array Time),b - i≤n→(Sort.insOuter ltT a b i d).size=d.size:=by
 intro n
 induction n with
 | zero=>intro i d hn; rw [Sort.insOuter,if_neg (by omega)]
 | succ n ih =>
  intro i d hn
  rw [Sort.insOuter]
  split
  ·rw [ih _ _ (by omega),zcc]
  ·rfl
theorem zj8 (a b:Nat) (d:Array Time):(Sort.insertionSort ltT d a b).size=d.size:=zka a b b _ d (by omega)
theorem zgo (first:Nat):∀ (k:Nat) (d:Array Time),(Sort.heapPop ltT first k d).size=d.size
 | 0,d=>rfl
 | k + 1,d=>by unfold Sort.heapPop; rw [zgo first k,zb1,z10]
theorem zkn (a b:Nat) (d:Array Time):(Sort.heapSort ltT d a b).size=d.size:=by unfold Sort.heapSort; rw [zgo,zbf]
theorem ze1 (a b:Nat):∀ (s i:Nat) (d:Array Time),(Sort.partialIns ltT a b s i d).1.size=d.size
 | 0,i,d=>rfl
 | s + 1,i,d=>by
  rw [zcs]
  split
  ·rfl
  ·split
   ·rfl
   ·rw [ze1 a b s,zdf]
def zgw (F g:Nat) (o:Option (Ctl PdqS (List Time))) (q:Array Time):Prop:=(∃ s,o=some (.next s)∧loopN (pBody F) g s=some (.ret q.toList))∨o=some (.ret q.toList)
def PdqOk (m:Nat):Prop := ∀ (F g a b lim:Nat) (wb wp:Bool) (d:Array Time),b - a < m→a≤b→b≤d.size→d.size < 1152921504606846976→lim < 1152921504606846976→b - a < g→d.size + (b - a) + 20 < F →
 loopN (pBody F) g ((a:Int),(b:Int),(lim:Int),wb,wp,d.toList)=some (.ret (Sort.pdq ltT d a b lim wb wp).toList)∧(Sort.pdq ltT d a b lim wb wp).size=d.size
theorem PdqOk.call {m:Nat} (h:PdqOk m) {F a b lim:Nat} {d:Array Time} (hm:b - a < m) (hab:a≤b) (hb:b≤d.size) (hd:d.size < 1152921504606846976) (hl:lim < 1152921504606846976) (hf:d.size + (b - a) + 21 < F) :
  z0k F (a:Int) (b:Int) (lim:Int) d.toList=some (Sort.pdq ltT d a b lim true true).toList∧(Sort.pdq ltT d a b lim true true).size=d.size:=by
 cases F with
 | zero=>omega
 | succ F =>
  obtain ⟨h1,h2⟩:=h F F a b lim true true d hm hab hb hd hl (by omega) (by omega)
  rw [zp8,h1]
  exact ⟨rfl,h2⟩
theorem znh {F g a b lim pivot:Nat} {wb wp:Bool} {d:Array Time} (ih:PdqOk (b - a)) (hab:a + 12 < b) (hp:a≤pivot∧pivot < b) (hb:b≤d.size) (hd:d.size < 1152921504606846976) (hl:lim < 1152921504606846976) (hg:b - a≤g) (hF:d.size + (b - a) + 20 < F) :
  zgw F g (pK10 F (a:Int) (b:Int) (lim:Int) ((b - a:Nat):Int) (pivot:Int) wb wp d.toList) (qD a b lim wb wp pivot d)∧(qD a b lim wb wp pivot d).size=d.size:=by
 have e8:IntKind.i64.wrap (((b - a:Nat):Int).tdiv 8)=(((b - a) / 8:Nat):Int):=by rw [Int.tdiv_eq_ediv_of_nonneg (by omega),z1t (by omega) (by omega)]; omega
 have hK:pK10 F (a:Int) (b:Int) (lim:Int) ((b - a:Nat):Int) (pivot:Int) wb wp d.toList=pK12 F (a:Int) (b:Int) (lim:Int) ((b - a:Nat):Int) (pivot:Int) wb wp d.toList (a > 0 && !ltT d[a - 1]! d[pivot]!):=by
  unfold pK10
  simp only [jn_eq]
  by_cases h0:0 < a
  ·rw [decide_eq_true (show (0:Int) < (a:Int) by omega),z5w,wsub1 (by omega) (by omega)]
   simp (disch:=omega) only [Int.toNat_natCast,Nat.zero_add,z06,Array.length_toList,z2k,Option.bind_some,z1p]
   rw [decide_eq_true h0,Bool.true_and]
   rfl
  ·rw [decide_eq_false (show ¬ (0:Int) < (a:Int) by omega),z0z,decide_eq_false h0,Bool.false_and]
 rw [hK]
 unfold qD
 cases hx:(a > 0 && !ltT d[a - 1]! d[pivot]!) with
 | true =>
  simp only [if_true]
  unfold pK12
  rw [z5w,zfe hp (by omega) hb hd (by omega),Option.bind_some]
  have hr:=zgz (a:=a) _ (a + 1) (b - 1) (Sort.swp d a pivot) (Nat.le_refl _) (by omega) (by omega) (by rw [z10]; omega)
  rw [z10] at hr
  have he:Sort.partEqLoop ltT a (a + 1) (b - 1) (Sort.swp d a pivot)=Sort.partitionEqual ltT d a b pivot:=rfl
  rw [he] at hr
  generalize Sort.partitionEqual ltT d a b pivot=r at *
  obtain ⟨mid,d4⟩:=r
  simp only at hr ⊢
  rw [dif_pos (by omega),z06 (by rw [Array.length_toList,Array.length_toList]; omega)]
  obtain ⟨h1,h2⟩:=ih F g mid b lim wb wp d4 (by omega) (by omega) (by omega) (by omega) hl (by omega) (by omega)
  exact ⟨.inl ⟨_,rfl,h1⟩,by omega⟩
 | false =>
  simp only [Bool.false_eq_true,if_false]
  unfold pK12
  rw [z0z,zji hp (by omega) hb hd (by omega),Option.bind_some,e8]
  obtain ⟨g1,g2,g3,_,_⟩:=Sort.partition_holds ltT swoT d a b pivot hp.1 hp.2 hb
  have g3:=g3.1
  generalize Sort.partition ltT d a b pivot=r at *
  obtain ⟨mid,ap,d4⟩:=r
  simp only at g1 g2 g3 ⊢
  have w1:IntKind.i64.wrap ((mid:Int) - (a:Int))=((mid - a:Nat):Int):=wsub (by omega) (by omega)
  have w2:IntKind.i64.wrap ((b:Int) - (mid:Int))=((b - mid:Nat):Int):=wsub (by omega) (by omega)
  have w3:IntKind.i64.wrap ((mid:Int) + 1)=((mid + 1:Nat):Int):=wadd1 (by omega)
  rw [dif_pos ⟨g1,g2⟩,z06 (by rw [Array.length_toList,Array.length_toList]; omega),w1,w2,w3,z07]
  by_cases hc:mid - a < b - mid
  ·rw [if_pos hc,if_pos (by omega)]
   obtain ⟨c1,c2⟩:=ih.call (F:=F) (a:=a) (b:=mid) (lim:=lim) (d:=d4) (by omega) (by omega) (by omega) (by omega) hl (by omega)
   rw [c1,Option.bind_some,z06 (by rw [Array.length_toList,Array.length_toList]; omega)]
   generalize Sort.pdq ltT d4 a mid lim true true=d5 at *
   obtain ⟨h1,h2⟩:=ih F g (mid + 1) b lim (decide (mid - a ≥ (b - a) / 8)) ap d5 (by omega) (by omega) (by omega) (by omega) hl (by omega) (by omega)
   refine ⟨.inl ⟨_,rfl,?_⟩,by omega⟩
   have e:decide ((((b - a) / 8:Nat):Int)≤((mid - a:Nat):Int))=decide (mid - a ≥ (b - a) / 8):=by
    rw [Bool.eq_iff_iff]; simp only [decide_eq_true_eq]; omega
   rw [e]
   exact h1
  ·rw [if_neg hc,if_neg (by omega)]
   obtain ⟨c1,c2⟩:=ih.call (F:=F) (a:=mid + 1) (b:=b) (lim:=lim) (d:=d4) (by omega) (by omega) (by omega) (by omega) hl (by omega)
   rw [c1,Option.bind_some,z06 (by rw [Array.length_toList,Array.length_toList]; omega)]
   generalize Sort.pdq ltT d4 (mid + 1) b lim true true=d5 at *
   obtain ⟨h1,h2⟩:=ih F g a mid lim (decide (b - mid ≥ (b - a) / 8)) ap d5 (by omega) (by omega) (by omega) (by omega) hl (by omega) (by omega)
   refine ⟨.inl ⟨_,rfl,?_⟩,by omega⟩
   have e:decide ((((b - a) / 8:Nat):Int)≤((b - mid:Nat):Int))=decide (b - mid ≥ (b - a) / 8):=by
    rw [Bool.eq_iff_iff]; simp only [decide_eq_true_eq]; omega
   rw [e]
   exact h1
theorem zn3 {F g a b lim pivot:Nat} {hint:Sort.Hint} {wb wp:Bool} {d:Array Time} (ih:PdqOk (b - a)) (hab:a + 12 < b) (hp:a≤pivot∧pivot < b) (hb:b≤d.size) (hd:d.size < 1152921504606846976) (hl:lim < 1152921504606846976) (hg:b - a≤g) (hF:d.size + (b - a) + 20 < F) :
  zgw F g (pK8 F (a:Int) (b:Int) (lim:Int) ((b - a:Nat):Int) wb wp (pivot:Int) (hintN hint) d.toList) (qC a b lim wb wp pivot hint d)∧(qC a b lim wb wp pivot hint d).size=d.size:=by
 have hK:pK8 F (a:Int) (b:Int) (lim:Int) ((b - a:Nat):Int) wb wp (pivot:Int) (hintN hint) d.toList=if wb && wp && hint = .increasing then ((z0n F (a:Int) (b:Int) d.toList).bind fun r30=>need (r30.2.length=d.toList.length) <| bf r30.1 (some (.ret r30.2)) (pK10 F (a:Int) (b:Int) (lim:Int) ((b - a:Nat):Int) (pivot:Int) wb wp r30.2)) else pK10 F (a:Int) (b:Int) (lim:Int) ((b - a:Nat):Int) (pivot:Int) wb wp d.toList:=by
  unfold pK8
  cases wb <;> cases wp <;> cases hint <;> simp [jn,bf,hintN]
 rw [hK]
 unfold qC
 dsimp only
 by_cases hc:(wb && wp && decide (hint = .increasing))=true
 ·rw [if_pos hc,if_pos hc,zbp (by omega) hb hd (by omega),Option.bind_some]
  have hsz:(Sort.partialInsertionSort ltT d a b).1.size=d.size:=ze1 a b 5 _ d
  generalize Sort.partialInsertionSort ltT d a b=r at *
  obtain ⟨d3,x⟩:=r
  simp only at hsz ⊢
  rw [z06 (by rw [Array.length_toList,Array.length_toList]; omega)]
  cases x with
  | true=>exact ⟨.inr rfl,hsz⟩
  | false =>
   simp only [z0z,Bool.false_eq_true,if_false]
   have:=znh (F:=F) (g:=g) (lim:=lim) (pivot:=pivot) (wb:=wb) (wp:=wp) (d:=d3) ih hab hp (by omega) (by omega) hl hg (by omega)
   exact ⟨this.1,by omega⟩
 ·rw [if_neg hc,if_neg hc]
  simp only [Bool.false_eq_true,if_false]
  exact znh ih hab hp hb hd hl hg hF
theorem zmv {F g a b lim:Nat} {wb wp:Bool} {d:Array Time} (ih:PdqOk (b - a)) (hab:a + 12 < b) (hb:b≤d.size) (hd:d.size < 1152921504606846976) (hl:lim < 1152921504606846976) (hg:b - a≤g) (hF:d.size + (b - a) + 20 < F) :
  zgw F g (pK5 F (a:Int) (b:Int) wb wp (lim:Int) ((b - a:Nat):Int) d.toList) (qB a b lim wb wp d)∧(qB a b lim wb wp d).size=d.size:=by
 unfold pK5 qB
 rw [choosePivot_eq (by omega) hb hd,Option.bind_some]
 obtain ⟨p1,p2⟩:=Sort.choosePivot_holds ltT d a b (by omega)
 generalize Sort.choosePivot ltT d a b=c at *
 obtain ⟨pivot,hint⟩:=c
 simp only [jn_eq] at p1 p2 ⊢
 by_cases hc:hint = .decreasing
 ·subst hc
  have hsz:=(Sort.reverseRange_holds d a b (by omega) hb).1
  rw [decide_eq_true (show hintN Sort.Hint.decreasing=2 from rfl),z5w,zhb (by omega) hb hd (by omega),Option.bind_some,z06 (by rw [Array.length_toList,Array.length_toList]; exact hsz)]
  have w1:IntKind.i64.wrap ((b:Int) - 1)=((b - 1:Nat):Int):=wsub1 (by omega) (by omega)
  have w2:IntKind.i64.wrap ((pivot:Int) - (a:Int))=((pivot - a:Nat):Int):=wsub (by omega) (by omega)
  have w3:IntKind.i64.wrap (((b - 1:Nat):Int) - ((pivot - a:Nat):Int))=(((b - 1) - (pivot - a):Nat):Int):=wsub (by omega) (by omega)
  rw [w1,w2,w3]
  simp only [if_true]
  have:=zn3 (F:=F) (g:=g) (lim:=lim) (pivot:=(b - 1) - (pivot - a)) (hint:=.increasing) (wb:=wb) (wp:=wp) (d:=Sort.reverseRange d a b) ih hab (by omega) (by omega) (by omega) hl hg (by omega)
  exact ⟨this.1,this.2.trans hsz⟩
 ·have hn:hintN hint ≠ 2:=by cases hint <;> simp [hintN] at *
  rw [decide_eq_false hn,z0z,if_neg hc]
  exact zn3 ih hab ⟨p1,p2⟩ hb hd hl hg hF
theorem pdqOk:∀ m,PdqOk m:=by
 intro m
 induction m with
 | zero=>intro F g a b lim wb wp d h; omega
 | succ m ihm =>
  intro F g a b lim wb wp d hm hab hb hd hl hg hF
  have ih:PdqOk (b - a):=fun F' g' a' b' lim' wb' wp' d' h=>ihm F' g' a' b' lim' wb' wp' d' (by omega)
  cases g with
  | zero=>omega
  | succ g =>
   have e0:IntKind.i64.wrap ((b:Int) - (a:Int))=((b - a:Nat):Int):=wsub (by omega) (by omega)
   rw [zor]
   by_cases h1:b - a≤12
   ·rw [if_pos h1]
    refine ⟨?_,zj8 a b d⟩
    rw [z8r (r:=(Sort.insertionSort ltT d a b).toList)]
    unfold pBody
    simp only [e0]
    rw [decide_eq_true (by omega),z5w,zk4 hb (by omega) (by omega) (by omega),Option.bind_some]
   ·rw [if_neg h1]
    by_cases h2:lim=0
    ·rw [if_pos h2]
     refine ⟨?_,zkn a b d⟩
     rw [z8r (r:=(Sort.heapSort ltT d a b).toList)]
     unfold pBody
     simp only [e0]
     rw [decide_eq_false (by omega),z0z,decide_eq_true (by omega),z5w,zkh (by omega) hb hd (by omega),Option.bind_some]
    ·rw [if_neg h2]
     have fin:∀ q:Array Time,zgw F g (pBody F ((a:Int),(b:Int),(lim:Int),wb,wp,d.toList)) q→loopN (pBody F) (g + 1) ((a:Int),(b:Int),(lim:Int),wb,wp,d.toList)=some (.ret q.toList):=fun q hq=>by
      rcases hq with ⟨s,h3,h4⟩ | h3
      ·rw [z1e h3,h4]
      ·rw [z8r h3]
     cases wb with
     | true =>
      simp only [if_true]
      have hB:pBody F ((a:Int),(b:Int),(lim:Int),true,wp,d.toList)=pK5 F (a:Int) (b:Int) true wp (lim:Int) ((b - a:Nat):Int) d.toList:=by
       unfold pBody
       simp only [e0,jn_eq]
       rw [decide_eq_false (by omega),z0z,decide_eq_false (by omega),z0z,Bool.not_true,z0z]
      have:=zmv (F:=F) (g:=g) (a:=a) (b:=b) (lim:=lim) (wb:=true) (wp:=wp) (d:=d) ih (by omega) hb hd hl (by omega) hF
      exact ⟨fin _ (by rw [hB]; exact this.1),this.2⟩
     | false =>
      simp only [Bool.false_eq_true,if_false]
      have hsz:=(Sort.breakPatterns_holds d a b hab hb).1
      have hB:pBody F ((a:Int),(b:Int),(lim:Int),false,wp,d.toList)=pK5 F (a:Int) (b:Int) false wp ((lim - 1:Nat):Int) ((b - a:Nat):Int) (Sort.breakPatterns d a b).toList:=by
       unfold pBody
       simp only [e0,jn_eq]
       rw [decide_eq_false (by omega),z0z,decide_eq_false (by omega),z0z,Bool.not_false,z5w,zg7 (by omega) hb hd (by omega),Option.bind_some,z06 (by rw [Array.length_toList,Array.length_toList]; exact hsz),wsub1 (by omega) (by omega)]
      have:=zmv (F:=F) (g:=g) (a:=a) (b:=b) (lim:=lim - 1) (wb:=false) (wp:=wp) (d:=Sort.breakPatterns d a b) ih (by omega) (by omega) (by omega) (by omega) (by omega) (by omega)
      exact ⟨fin _ (by rw [hB]; exact this.1),this.2.trans hsz⟩
theorem zkt {fuel:Nat} {l:List Time} (hl:l.length < 1152921504606846976) (hf:2 * l.length + 30 < fuel) :
  z0r fuel l=some (Sort.sort ltT l.toArray).toList:=by
 unfold z0r
 have e:IntKind.u64.wrap (l.length:Int)=(l.length:Int):=uwrap (k:=.u64) rfl (show l.length < 2 ^ 64 by omega)
 rw [e,zmf (by omega),Option.bind_some]
 have hL:Sort.bitsLen l.length≤60:=zgu hl
 have:=((pdqOk (l.length + 1)).call (F:=fuel) (a:=0) (b:=l.length) (lim:=Sort.bitsLen l.length) (d:=l.toArray) (by omega) (by omega) (by simp) (by simpa using hl) (by omega) (by simp; omega)).1
 rw [show ((0:Nat):Int)=0 from rfl,List.toList_toArray] at this
 rw [this,Option.bind_some]
 unfold Sort.sort
 rw [List.size_toArray]
end Go.Av
namespace Go.Av
open Go
set_option linter.unusedVariables false
set_option linter.unusedSimpArgs false
theorem zn2 (l:List Time):z60 l=some (lubL l):=by
 unfold z60
 rw [zk7 lub2]
 ·rfl
 ·intro i a hi
  generalize l.getD i default=x
  by_cases h1:a.epoch < x.epoch <;> by_cases h2:a.loop.1 < x.loop.1 <;> by_cases h3:a.loop.2 < x.loop.2 <;> simp [z08,lub2,outK,h1,h2,h3]
theorem zmg (l:List Time):z5z l=some (glbL l):=by
 unfold z5z
 simp only [z07]
 split
 ·rename_i h
  obtain rfl:l=[]:=List.eq_nil_of_length_eq_zero (by omega)
  rfl
 ·rename_i h
  have hl:0 < l.length:=by omega
  rw [z06 ⟨Int.le_refl _,by omega⟩]
  rw [z31 (glbL l) (fun i a=>a=if i=0 then l.getD 0 default else glbL (l.take i)) (fun s h=>by rw [h,List.take_length,if_neg (by omega)])]
  ·rfl
  ·intro i a hi ha
   refine ⟨_,?_,rfl⟩
   rw [z22 hi,if_neg (by omega)]
   rcases Nat.eq_zero_or_pos i with h0 | h0
   ·subst h0
    rw [if_pos rfl] at ha
    subst ha
    simp [jn_eq,z08,outK,glbL]
   ·rw [if_neg (by omega)] at ha
    rw [zft (by intro h; have h2:=congrArg List.length h; rw [List.length_take] at h2; simp only [List.length_nil] at h2; omega),← ha]
    generalize l.getD i default=x at *
    by_cases h1:x.epoch < a.epoch <;> by_cases h2:x.loop.1 < a.loop.1 <;> by_cases h3:x.loop.2 < a.loop.2 <;> simp [z08,glb2,outK,h1,h2,h3]
  ·rfl
theorem z9p {x y:Time}:z0j x y=true↔x=y:=by
 constructor
 ·intro h
  simp only [z0j,Bool.and_eq_true,decide_eq_true_eq,Bool.and_true] at h
  exact Time.ext' h.1 h.2.1 h.2.2
 ·rintro rfl; exact zc9 x
theorem zoz {a b:Time} (h:leT a b=true) (g:leT b a=true):a=b:=z9p.1 (zo0 h g)
theorem zjw {a b:Time} (h:leT a b=true):ltT b a=false:=by
 cases e:ltT b a with
 | false=>rfl
 | true=>rw [zp6] at h; rw [zb0] at e; omega
theorem lt_or {a b:Time} (h:ltT b a=false) (hne:a ≠ b):ltT a b=true:=by
 cases e:ltT a b with
 | true=>rfl
 | false =>
  refine absurd ?_ hne
  rw [← Bool.not_eq_true,zb0] at h e
  exact Time.ext' (by omega) (by omega) (by omega)
theorem zmk {a:Time}:ltT a a=false:=swoT.irrefl a
theorem znk {a b:Time} (h:ltT a b=true):ltT b a=false:=by
 cases e:ltT b a with
 | false=>rfl
 | true=>rw [zb0] at h e; omega
structure IsF (l f:List Time):Prop where
 sorted:f.Pairwise fun x y=>ltT x y=true
 sub:∀ x ∈ f,x ∈ l
 below:∀ y ∈ l,∃ u ∈ f,leT u y=true
 least:∀ x ∈ f,∀ y ∈ l,leT y x=true→y=x
theorem IsF.mem {l f:List Time} (h:IsF l f) (x:Time):x ∈ f↔x ∈ l∧∀ y ∈ l,leT y x=true→y=x:=by
 constructor
 ·exact fun hx=>⟨h.sub x hx,h.least x hx⟩
 ·rintro ⟨hx,hm⟩
  obtain ⟨u,hu,hle⟩:=h.below x hx
  rw [← hm u (h.sub u hu) hle]
  exact hu
theorem zge:∀ {f g:List Time},f.Pairwise (fun x y=>ltT x y=true)→g.Pairwise (fun x y=>ltT x y=true)→(∀ x,x ∈ f↔x ∈ g)→f=g
 | [],[],_,_,_=>rfl
 | [],y :: g,_,_,h=>by have:=(h y).2 (List.mem_cons_self ..); cases this
 | x :: f,[],_,_,h=>by have:=(h x).1 (List.mem_cons_self ..); cases this
 | x :: f,y :: g,hf,hg,h=>by
  rw [List.pairwise_cons] at hf hg
  have hxy:x=y:=by
   rcases List.mem_cons.1 ((h x).1 (List.mem_cons_self ..)) with e | hx
   ·exact e
   ·rcases List.mem_cons.1 ((h y).2 (List.mem_cons_self ..)) with e | hy
    ·exact e.symm
    ·have h1:=hg.1 x hx
     have h2:=hf.1 y hy
     rw [znk h1] at h2
     cases h2
  subst hxy
  have hr:f=g:=zge hf.2 hg.2 (fun z=>by
   constructor
   ·intro hz
    rcases List.mem_cons.1 ((h z).1 (List.mem_cons_of_mem _ hz)) with e | hz2
    ·subst e
     have:=hf.1 z hz
     rw [zmk] at this; cases this
    ·exact hz2
   ·intro hz
    rcases List.mem_cons.1 ((h z).2 (List.mem_cons_of_mem _ hz)) with e | hz2
    ·subst e
     have:=hg.1 z hz
     rw [zmk] at this; cases this
    ·exact hz2)
  rw [hr]
theorem IsF.congr {l m f:List Time} (h:IsF l f) (e:∀ x,x ∈ l↔x ∈ m):IsF m f :=
 ⟨h.sorted,fun x hx=>(e x).1 (h.sub x hx),fun y hy=>h.below y ((e y).2 hy),fun x hx y hy=>h.least x hx y ((e y).2 hy)⟩
theorem IsF.step {p f:List Time} {t:Time} (h:IsF p f) (hs:∀ x ∈ p,ltT t x=false):IsF (p++[t]) (if f.any (fun u=>leT u t) then f else f++[t]):=by
 by_cases hc:f.any (fun u=>leT u t)=true
 ·rw [if_pos hc]
  obtain ⟨u,hu,hut⟩:=List.any_eq_true.1 hc
  refine ⟨h.sorted,fun x hx=>List.mem_append.2 (.inl (h.sub x hx)),?_,?_⟩
  ·intro y hy
   rcases List.mem_append.1 hy with hy | hy
   ·exact h.below y hy
   ·rw [List.mem_singleton.1 hy]; exact ⟨u,hu,hut⟩
  ·intro x hx y hy hle
   rcases List.mem_append.1 hy with hy | hy
   ·exact h.least x hx y hy hle
   ·rw [List.mem_singleton.1 hy] at hle ⊢
    have hux:=h.least x hx u (h.sub u hu) (zim hut hle)
    subst hux
    exact zoz hle hut
 ·rw [if_neg hc]
  have hno:∀ u ∈ f,leT u t=false:=fun u hu=>by
   cases e:leT u t with
   | false=>rfl
   | true=>exact absurd (List.any_eq_true.2 ⟨u,hu,e⟩) hc
  have hnp:∀ y ∈ p,leT y t=false:=fun y hy=>by
   obtain ⟨u,hu,hle⟩:=h.below y hy
   cases e:leT y t with
   | false=>rfl
   | true=>have:=zim hle e; rw [hno u hu] at this; cases this
  refine ⟨?_,?_,?_,?_⟩
  ·rw [List.pairwise_append]
   refine ⟨h.sorted,by simp,fun x hx y hy => ?_⟩
   rw [List.mem_singleton.1 hy]
   refine lt_or (hs x (h.sub x hx)) (fun e => ?_)
   subst e
   have:=hno x hx
   rw [zj9] at this; cases this
  ·intro x hx
   rcases List.mem_append.1 hx with hx | hx
   ·exact List.mem_append.2 (.inl (h.sub x hx))
   ·exact List.mem_append.2 (.inr hx)
  ·intro y hy
   rcases List.mem_append.1 hy with hy | hy
   ·obtain ⟨u,hu,hle⟩:=h.below y hy
    exact ⟨u,List.mem_append.2 (.inl hu),hle⟩
   ·exact ⟨y,List.mem_append.2 (.inr hy),zj9 y⟩
  ·intro x hx y hy hle
   rcases List.mem_append.1 hx with hx | hx
   ·rcases List.mem_append.1 hy with hy | hy
    ·exact h.least x hx y hy hle
    ·rw [List.mem_singleton.1 hy] at hle ⊢
     have h1:=hs x (h.sub x hx)
     have h2:=zjw hle
     by_cases e:t=x
     ·exact e
     ·have:=lt_or h1 (fun h=>e h.symm); rw [h2] at this; cases this
   ·rw [List.mem_singleton.1 hx] at hle ⊢
    rcases List.mem_append.1 hy with hy | hy
    ·rw [hnp y hy] at hle; cases hle
    ·exact List.mem_singleton.1 hy
def zee (l:List Time):List Time:=l.foldl (fun f t=>if f.any (fun u=>leT u t) then f else f++[t]) []
theorem zm8 {l:List Time} (h:l.Pairwise fun x y=>ltT y x=false):IsF l (zee l):=by
 have key:∀ (r p f:List Time),IsF p f→(p++r).Pairwise (fun x y=>ltT y x=false)→IsF (p++r) (r.foldl (fun f t=>if f.any (fun u=>leT u t) then f else f++[t]) f):=by
  intro r
  induction r with
  | nil=>intro p f hf _; rw [List.append_nil]; exact hf
  | cons t r ih =>
   intro p f hf hp
   rw [List.foldl_cons]
   have e:p++t :: r=(p++[t])++r:=by simp
   rw [e] at hp ⊢
   refine ih (p++[t]) _ (hf.step fun x hx => ?_) hp
   rw [List.pairwise_append,List.pairwise_append] at hp
   exact hp.1.2.2 x hx t (List.mem_singleton.2 rfl)
 exact key l [] [] ⟨.nil,(fun x h=>nomatch h),(fun y h=>nomatch h),(fun x h=>nomatch h)⟩ h
def sortT (l:List Time):List Time:=(Sort.sort ltT l.toArray).toList
def z9o (l:List Time):List Time:=zee (sortT l)
theorem zd8 (l:List Time):(sortT l).Perm l:=by
 have h:=(Sort.sort_sorts ltT swoT l.toArray).1
 obtain ⟨h1,_,h3⟩:=h
 have e1:(Sort.sort ltT l.toArray).extract 0 l.toArray.size=Sort.sort ltT l.toArray:=by rw [← h1]; simp
 have e2:l.toArray.extract 0 l.toArray.size=l.toArray:=by simp
 rw [e1,e2] at h3
 exact h3
theorem zjd (l:List Time):(sortT l).Pairwise fun x y=>ltT y x=false:=by
 have h:=Sort.sort_sorts ltT swoT l.toArray
 rw [List.pairwise_iff_getElem]
 intro i j hi hj hij
 have hsz:(Sort.sort ltT l.toArray).size=l.toArray.size:=h.1.1
 have hj' : j < (Sort.sort ltT l.toArray).size:=by unfold sortT at hj; rw [Array.length_toList] at hj; exact hj
 have:=h.2 i j (Nat.zero_le _) hij (by omega)
 have ej:(sortT l)[j]=(Sort.sort ltT l.toArray)[j]'hj':=Array.getElem_toList _
 have ei:(sortT l)[i]=(Sort.sort ltT l.toArray)[i]'(by omega):=Array.getElem_toList _
 rw [getElem!_pos _ j hj',getElem!_pos _ i (by omega)] at this
 exact (congr (congrArg ltT ej) ei).trans this
theorem zlg (l:List Time):IsF l (z9o l):=(zm8 (zjd l)).congr fun x=>(zd8 l).mem_iff
theorem zk8 (l:List Time):(sortT l).length=l.length:=(zd8 l).length_eq
theorem ziq (l:List Time):(zee l).length≤l.length:=by
 have key:∀ (r f:List Time),(r.foldl (fun f t=>if f.any (fun u=>leT u t) then f else f++[t]) f).length≤f.length + r.length:=by
  intro r
  induction r with
  | nil=>intro f; exact Nat.le_refl _
  | cons t r ih =>
   intro f
   rw [List.foldl_cons]
   refine Nat.le_trans (ih _) ?_
   split
   ·rw [List.length_cons]; omega
   ·rw [List.length_append,List.length_singleton,List.length_cons]; omega
 have:=key l []
 rw [List.length_nil,Nat.zero_add] at this
 exact this
end Go.Av
namespace Go.Av
open Go
set_option linter.unusedVariables false
set_option linter.unusedSimpArgs false
abbrev NN (l:List Time):Prop := ∀ x ∈ l,z2w x
theorem zbn {X:Type} [Inhabited X] {l:List X} {i:Nat} (h:i < l.length):l.getD i default ∈ l:=by
 rw [List.getD_eq_getElem?_getD,List.getElem?_eq_getElem h]
 exact List.getElem_mem h
theorem z7m {X:Type} [Inhabited X] {l:List X} {i:Nat} (h:i < l.length):l.take (i + 1)=l.take i++[l.getD i default]:=by
 rw [List.take_add_one,List.getElem?_eq_getElem h,List.getD_eq_getElem?_getD,List.getElem?_eq_getElem h]
 rfl
theorem zab {X R:Type} [Inhabited X] {B:Nat→Unit→Option (Ctl Unit R)} {l:List X} {p:X→Bool} {f:Nat→R} {Q:Type} {kn:Unit→Option Q} {kr:R→Option Q} {q:Option Q}
  (hB:∀ i u,i < l.length→B i u=if p (l.getD i default)=true then some (.ret (f i)) else some (.next ()))
  (hn:l.any p=false→kn ()=q) (hr:∀ i,i < l.length→l.any p=true→kr (f i)=q):outK (z08 B l.length 0 ()) kn kr=q:=by
 have key:∀ k i,i + k=l.length→(l.take i).any p=false→outK (z08 B k i ()) kn kr=q:=by
  intro k
  induction k with
  | zero =>
   intro i hi h
   rw [List.take_of_length_le (by omega)] at h
   exact hn h
  | succ k ih =>
   intro i hi h
   simp only [z08,hB i () (by omega)]
   by_cases hp:p (l.getD i default)=true
   ·rw [if_pos hp]
    exact hr i (by omega) (List.any_eq_true.2 ⟨_,zbn (by omega),hp⟩)
   ·rw [if_neg hp]
    refine ih (i + 1) (by omega) ?_
    rw [z7m (by omega),List.any_append,h]
    simpa using hp
 exact key l.length 0 (by omega) rfl
theorem zi6 {f:List Time} {t:Time} (hf:NN f) (ht:z2w t):z4m f t=some (f.any fun u=>leT u t):=by
 unfold z4m z0d z0f
 have h:(outK (z08 (S:=Unit) (R:=Int) (fun i1 (a2:Unit)=>(z6j (f.getD i1 default) t).bind fun r4=>bf r4 (some (.ret ((i1:Nat):Int))) (some (.next ()))) f.length 0 ()) (fun (a3:Unit)=>some (-1)) (fun x=>some x)).bind (fun r1=>some (decide (0≤r1)))=some (f.any fun u=>leT u t):=by
  have:∀ o:Option Int,(o.bind fun r1=>some (decide (0≤r1)))=o.map fun r1=>decide (0≤r1):=fun o=>by cases o <;> rfl
  rw [this]
  have hm:∀ (o:Option (Out Unit Int)),(outK o (fun (a3:Unit)=>some (-1)) (fun x=>some x)).map (fun r1=>decide (0≤r1))=outK o (fun _=>some false) (fun x=>some (decide (0≤x))):=fun o=>by
   cases o with
   | none=>rfl
   | some o=>cases o <;> rfl
  rw [hm]
  refine zab (p:=fun u=>leT u t) (f:=fun i=>(i:Int)) ?_ (fun h=>by rw [h]) (fun i hi h=>by rw [h,decide_eq_true (by omega)])
  intro i u hi
  unfold z6j
  rw [zns (hf _ (zbn hi)) ht]
  simp only [Option.bind_some]
  cases leT (f.getD i default) t <;> rfl
 rw [h]; rfl
theorem zix (f:List Time) (t:Time):z4q f t=some (f.any fun u=>leT u t):=by
 unfold z4q
 refine zab (p:=fun u=>leT u t) (f:=fun _=>true) ?_ (fun h=>by rw [h]) (fun i hi h=>by rw [h])
 intro i u hi
 rw [zfs,Option.bind_some]
 cases leT (f.getD i default) t <;> rfl
theorem zj7 (a:List Time):z3r a a=some true:=by
 unfold z3r
 rw [decide_eq_true (by omega),Bool.not_true,z0z,z31 () (fun _ _=>True) (fun _ _=>rfl)]
 ·rfl
 ·intro i u hi _
  refine ⟨(),?_,trivial⟩
  rw [z06 (by omega),zc9]
  rfl
 ·trivial
theorem zoe {fuel:Nat} {l:List Time} (hl:NN l) (hz:l.length≤274877906944) (hf:2 * l.length + 30 < fuel):z7z fuel l=some (z9o l):=by
 unfold z7z z0b
 have hs:NN (sortT l):=fun x hx=>hl x ((zd8 l).mem_iff.1 hx)
 have hlen:=zk8 l
 rw [z06 hz,Option.bind_some,zkt (by omega) hf,Option.bind_some]
 show need ((sortT l).length=l.length) _=_
 rw [z06 hlen]
 rw [show (Sort.sort ltT l.toArray).toList=sortT l from rfl]
 unfold z9o zee
 generalize sortT l=s at *
 rw [z31 (s.foldl (fun f t=>if f.any (fun u=>leT u t) then f else f++[t]) []) (fun i a=>a=(s.take i).foldl (fun f t=>if f.any (fun u=>leT u t) then f else f++[t]) []) (fun a h=>by rw [h,List.take_of_length_le (Nat.le_refl _)])]
 ·rfl
 ·rintro i a hi rfl
  have hle:((s.take i).foldl (fun f t=>if f.any (fun u=>leT u t) then f else f++[t]) []).length≤i:=by
   have:=ziq (s.take i)
   unfold zee at this
   rw [List.length_take] at this
   omega
  have hnn:NN ((s.take i).foldl (fun f t=>if f.any (fun u=>leT u t) then f else f++[t]) []):=by
   have key:∀ (r f:List Time),NN r→NN f→NN (r.foldl (fun f t=>if f.any (fun u=>leT u t) then f else f++[t]) f):=by
    intro r
    induction r with
    | nil=>intro f _ h; exact h
    | cons t r ih =>
     intro f hr h
     rw [List.foldl_cons]
     refine ih _ (fun x hx=>hr x (List.mem_cons_of_mem _ hx)) ?_
     split
     ·exact h
     ·intro x hx
      rcases List.mem_append.1 hx with hx | hx
      ·exact h x hx
      ·rw [List.mem_singleton.1 hx]; exact hr t (List.mem_cons_self ..)
   exact key _ _ (fun x hx=>hs x (List.mem_of_mem_take hx)) (fun x h=>nomatch h)
  refine ⟨_,?_,rfl⟩
  rw [Nat.zero_add,z06 hi,zi6 hnn (hs _ (zbn hi)),Option.bind_some,z7m hi,List.foldl_append,List.foldl_cons,List.foldl_nil]
  generalize (s.take i).foldl (fun f t=>if f.any (fun u=>leT u t) then f else f++[t]) []=f at *
  cases hc:f.any (fun u=>leT u (s.getD i default)) with
  | true=>simp only [Bool.not_true,z0z,if_true]
  | false =>
   rw [Bool.not_false,z5w,z06 (by rw [List.length_singleton]; omega)]
   simp
 ·rfl
def z5y (l:List Time) (t:Time):Bool:=l.all fun u => !(!z0j u t && leT u t)
theorem zli {l:List Time} {t:Time}:z5y l t=true↔∀ u ∈ l,leT u t=true→u=t:=by
 unfold z5y
 rw [List.all_eq_true]
 constructor
 ·intro h u hu hle
  have:=h u hu
  rw [hle] at this
  simp at this
  exact z9p.1 this
 ·intro h u hu
  cases e:leT u t with
  | false=>simp
  | true=>rw [h u hu e,zc9]; rfl
theorem zlz {f:List Time} {t:Time} {B:Int→Option (Ctl Int Empty)} (hB:∀ i:Nat,i≤f.length→B (i:Int)=if i < f.length∧ltT (f.getD i default) t=true then some (.next ((i + 1:Nat):Int)) else some (.brk (i:Int))) :
  ∀ (k fuel:Nat),k≤f.length→k < fuel→∃ j:Nat,loopN B fuel ((f.length - k:Nat):Int)=some (.done (j:Int))∧f.length - k≤j∧j≤f.length∧(∀ i,f.length - k≤i→i < j→ltT (f.getD i default) t=true)∧(j < f.length→ltT (f.getD j default) t=false):=by
 intro k
 induction k with
 | zero =>
  intro fuel hk hf
  cases fuel with
  | zero=>omega
  | succ fuel =>
   have h:=hB (f.length - 0) (by omega)
   rw [if_neg (by omega)] at h
   exact ⟨_,z0w h,by omega,by omega,fun i h1 h2=>by omega,fun h=>by omega⟩
 | succ k ih =>
  intro fuel hk hf
  cases fuel with
  | zero=>omega
  | succ fuel =>
   have h:=hB (f.length - (k + 1)) (by omega)
   by_cases hc:ltT (f.getD (f.length - (k + 1)) default) t=true
   ·rw [if_pos ⟨by omega,hc⟩,show f.length - (k + 1) + 1=f.length - k by omega] at h
    obtain ⟨j,h1,h2,h3,h4,h5⟩:=ih fuel (by omega) (by omega)
    refine ⟨j,by rw [z1e h,h1],by omega,h3,fun i g1 g2 => ?_,h5⟩
    by_cases hi:i=f.length - (k + 1)
    ·rw [hi]; exact hc
    ·exact h4 i (by omega) g2
   ·rw [if_neg (fun h=>hc h.2)] at h
    refine ⟨_,z0w h,by omega,by omega,fun i h1 h2=>by omega,fun _ => ?_⟩
    simpa using hc
theorem zov {f:List Time} {j:Nat} (hj:j≤f.length) (t x:Time):x ∈ (f.take j++[t])++f.drop j↔x ∈ f∨x=t:=by
 rw [List.mem_append,List.mem_append,List.mem_singleton]
 have:x ∈ f↔x ∈ f.take j∨x ∈ f.drop j:=by rw [← List.mem_append,List.take_append_drop]
 rw [this]
 constructor
 ·rintro ((h | h) | h)
  ·exact .inl (.inl h)
  ·exact .inr h
  ·exact .inl (.inr h)
 ·rintro ((h | h) | h)
  ·exact .inl (.inl h)
  ·exact .inr h
  ·exact .inl (.inr h)
theorem zls {f:List Time} {t:Time} {j:Nat} (hf:f.Pairwise fun x y=>ltT x y=true) (hj:j≤f.length) (h1:∀ i,i < j→ltT (f.getD i default) t=true) (h2:j < f.length→ltT (f.getD j default) t=false) (hne:∀ x ∈ f,x ≠ t) :
  ((f.take j++[t])++f.drop j).Pairwise fun x y=>ltT x y=true:=by
 have hall:∀ x ∈ f.drop j,ltT t x=true:=by
  intro x hx
  obtain ⟨i,hi,e⟩:=List.mem_iff_getElem.1 hx
  rw [List.length_drop] at hi
  rw [List.getElem_drop] at e
  have hj2:=h2 (by omega)
  have hjx:ltT t (f.getD j default)=true:=lt_or hj2 (fun h=>hne _ (zbn (by omega)) h.symm)
  rw [List.pairwise_iff_getElem] at hf
  by_cases hi0:i=0
  ·subst hi0
   rw [List.getD_eq_getElem?_getD,List.getElem?_eq_getElem (by omega)] at hjx
   rw [← e]
   exact hjx
  ·have:=hf j (j + i) (by omega) (by omega) (by omega)
   rw [e] at this
   rw [List.getD_eq_getElem?_getD,List.getElem?_eq_getElem (by omega)] at hjx
   exact swoT.trans _ _ _ hjx this
 have htk:∀ x ∈ f.take j,ltT x t=true:=by
  intro x hx
  obtain ⟨i,hi,e⟩:=List.mem_iff_getElem.1 hx
  rw [List.length_take] at hi
  rw [List.getElem_take] at e
  have:=h1 i (by omega)
  rw [List.getD_eq_getElem?_getD,List.getElem?_eq_getElem (by omega)] at this
  rw [← e]
  exact this
 rw [List.pairwise_append,List.pairwise_append]
 have hp:(f.take j++f.drop j).Pairwise fun x y=>ltT x y=true:=by rw [List.take_append_drop]; exact hf
 rw [List.pairwise_append] at hp
 refine ⟨⟨hp.1,by simp,fun x hx y hy=>by rw [List.mem_singleton.1 hy]; exact htk x hx⟩,hp.2.1,fun x hx y hy => ?_⟩
 rcases List.mem_append.1 hx with hx | hx
 ·exact hp.2.2 x hx y hy
 ·rw [List.mem_singleton.1 hx]; exact hall y hy
theorem znp {S R Q:Type} {B:Nat→S→Option (Ctl S R)} {n:Nat} {s:S} {kn:S→Option Q} {kr:R→Option Q} {q:Option Q} (I:Nat→S→Prop) (h0:I 0 s) (hs:∀ i s,i < n→I i s→∃ s',B i s=some (.next s')∧I (i + 1) s') (hk:∀ s,I n s→kn s=q):outK (z08 B n 0 s) kn kr=q:=by
 obtain ⟨s',h1,h2⟩:=z98 I h0 hs
 rw [h1]
 exact hk s' h2
theorem zir {fuel:Nat} {l a:List Time} {t:Time} (ha:a.length + 1≤274877906944) (hz:a.length + 1 < fuel) :
  ∃ j,j≤a.length∧(∀ i,i < j→ltT (a.getD i default) t=true)∧(j < a.length→ltT (a.getD j default) t=false)∧(outK (z08 (S:=Bool) (R:=Empty) (fun i4 (a5:Bool)=>jn (fun (a24:Bool)=>bf a24 (some (.next false)) (some (.next a5))) fun j25=>bf (!(z0j (l.getD i4 default) t)) ((z39 (l.getD i4 default) t).bind fun r26=>j25 r26) (j25 false)) l.length 0 true) (fun (a6:Bool)=>outK (z08 (S:=Bool) (R:=Empty) (fun i7 (a8:Bool)=>need ((0 + i7) < a.length) <| bf (z0j (a.getD (0 + i7) default) t) (some (.next false)) (some (.next a8))) a.length 0 a6) (fun (a9:Bool)=>bf (!a9) (some (Ctl.next (R:=Empty) a)) (outK (loopN (S:=Int) (R:=Empty) (fun (a10:Int)=>jn (fun (a17:Bool)=>bf a17 (some (.next (IntKind.i64.wrap (a10 + 1)))) (some (.brk a10))) fun j18=>bf (decide (a10 < (a.length:Int))) (need ((0:Int)≤a10∧a10 < (a.length:Int)) <| need ((0 + a10.toNat) < a.length) <| (z2j (a.getD (0 + a10.toNat) default) t).bind fun r22=>j18 (decide (r22 < 0))) (j18 false)) fuel 0) (fun (a11:Int)=>need ((0:Int)≤0∧(0:Int)≤a11∧a11≤(a.length:Int)) <| need ((Av.sub a (0:Int) a11).length≤274877906944) <| need ((Av.sub a (0:Int) a11).length + ([t]:List Time).length≤274877906944) <| need ((0:Int)≤a11∧a11≤(a.length:Int)∧(a.length:Int)≤(a.length:Int)) <| need (((Av.sub a (0:Int) a11)++([t]:List Time)).length + (Av.sub a a11 (a.length:Int)).length≤274877906944) <| some (.next (((Av.sub a (0:Int) a11)++([t]:List Time))++(Av.sub a a11 (a.length:Int))))) (fun (x:Empty)=>x.elim))) (fun (x:Empty)=>x.elim)) (fun (x:Empty)=>x.elim))
  = some (.next (if z5y l t=true∧a.any (fun u=>z0j u t)=false then ((a.take j++[t])++a.drop j) else a)):=by
 obtain ⟨j,h1,h2,h3,h4,h5⟩:=zlz (f:=a) (t:=t) (B:=(fun (a10:Int)=>jn (fun (a17:Bool)=>bf a17 (some (.next (IntKind.i64.wrap (a10 + 1)))) (some (.brk a10))) fun j18=>bf (decide (a10 < (a.length:Int))) (need ((0:Int)≤a10∧a10 < (a.length:Int)) <| need ((0 + a10.toNat) < a.length) <| (z2j (a.getD (0 + a10.toNat) default) t).bind fun r22=>j18 (decide (r22 < 0))) (j18 false))) (fun i hi=>by
  simp only [jn_eq,z07,intlt]
  by_cases hlt:i < a.length
  ·rw [if_pos hlt]
   simp (disch:=omega) only [Int.toNat_natCast,Nat.zero_add,z06,zdv,Option.bind_some,wadd1,hlt,true_and]
   unfold ltT
   by_cases h:cmpT (a.getD i default) t < 0
   ·simp [h,z06 trivial]
   ·simp [h,z06 trivial]
  ·rw [if_neg hlt,if_neg (fun h=>hlt h.1),z0z]) a.length fuel (Nat.le_refl _) (by omega)
 rw [Nat.sub_self] at h1 h2 h4
 rw [show ((0:Nat):Int)=0 from rfl] at h1
 refine ⟨j,h3,fun i h=>h4 i (Nat.zero_le _) h,h5,?_⟩
 rw [z31 (z5y l t) (fun i x=>x=z5y (l.take i) t) (fun x h=>by rw [h,List.take_of_length_le (Nat.le_refl _)])]
 ·simp only [z2a]
  rw [z31 (z5y l t && !a.any (fun u=>z0j u t)) (fun i x=>x=(z5y l t && !(a.take i).any (fun u=>z0j u t))) (fun x h=>by rw [h,List.take_of_length_le (Nat.le_refl _)])]
  ·simp only [z2a]
   by_cases hc:z5y l t=true∧a.any (fun u=>z0j u t)=false
   ·rw [hc.1,hc.2,if_pos (by simp [hc])]
    simp only [Bool.not_false,Bool.and_true,Bool.not_true,z0z]
    rw [h1]
    simp only [z2a]
    have s1:Av.sub a (0:Int) (j:Int)=a.take j:=by unfold Av.sub; simp
    have s2:Av.sub a (j:Int) (a.length:Int)=a.drop j:=by
     unfold Av.sub
     rw [Int.toNat_natCast,Int.toNat_natCast,List.take_of_length_le (by rw [List.length_drop]; exact Nat.le_refl _)]
    rw [s1,s2,z06 (by omega),z06 (by rw [List.length_take]; omega),z06 (by rw [List.length_take,List.length_singleton]; omega),z06 (by omega),z06 (by rw [List.length_append,List.length_take,List.length_singleton,List.length_drop]; omega)]
   ·rw [if_neg hc]
    have:(z5y l t && !a.any (fun u=>z0j u t))=false:=by
     cases h1:z5y l t <;> cases h2:a.any (fun u=>z0j u t) <;> simp_all
    rw [this,Bool.not_false,z5w]
  ·rintro i x hi rfl
   refine ⟨_,?_,rfl⟩
   rw [Nat.zero_add,z06 hi,z7m hi,List.any_append]
   generalize a.getD i default=u
   cases h:z0j u t <;> simp [h]
  ·simp
 ·rintro i x hi rfl
  refine ⟨_,?_,rfl⟩
  simp only [jn_eq,zfs,Option.bind_some]
  rw [z7m hi]
  have:z5y (l.take i++[l.getD i default]) t=(z5y (l.take i) t && !(!z0j (l.getD i default) t && leT (l.getD i default) t)):=by
   unfold z5y; simp
  rw [this]
  cases z0j (l.getD i default) t <;> cases leT (l.getD i default) t <;> simp
 ·rfl
theorem zkk {fuel:Nat} {l:List Time} (hz:l.length≤274877906944) (hf:l.length + 2 < fuel):z51 fuel l=some (z9o l):=by
 unfold z51
 refine znp (fun i (a:List Time)=>a.length≤i∧a.Pairwise (fun x y=>ltT x y=true)∧∀ x,x ∈ a↔x ∈ l.take i∧z5y l x=true) ⟨Nat.le_refl _,.nil,fun x=>by simp⟩ ?_ ?_
 ·rintro i a hi ⟨h1,h2,h3⟩
  obtain ⟨j,hj2,hj3,hj4,hb⟩:=zir (fuel:=fuel) (l:=l) (a:=a) (t:=l.getD i default) (by omega) (by omega)
  refine ⟨_,hb,?_⟩
  rw [z7m hi]
  clear hb
  generalize l.getD i default=t at *
  by_cases hc:z5y l t=true∧a.any (fun u=>z0j u t)=false
  ·rw [if_pos hc]
   have hne:∀ x ∈ a,x ≠ t:=fun x hx e=>by
    have:a.any (fun u=>z0j u t)=true:=List.any_eq_true.2 ⟨x,hx,z9p.2 e⟩
    rw [hc.2] at this; cases this
   refine ⟨by rw [List.length_append,List.length_append,List.length_take,List.length_singleton,List.length_drop]; omega,zls h2 hj2 hj3 hj4 hne,fun x => ?_⟩
   rw [zov hj2,h3,List.mem_append,List.mem_singleton]
   constructor
   ·rintro (⟨g1,g2⟩ | rfl)
    ·exact ⟨.inl g1,g2⟩
    ·exact ⟨.inr rfl,hc.1⟩
   ·rintro ⟨g1 | rfl,g2⟩
    ·exact .inl ⟨g1,g2⟩
    ·exact .inr rfl
  ·rw [if_neg hc]
   refine ⟨by omega,h2,fun x => ?_⟩
   rw [h3,List.mem_append,List.mem_singleton]
   constructor
   ·rintro ⟨g1,g2⟩; exact ⟨.inl g1,g2⟩
   ·rintro ⟨g1 | rfl,g2⟩
    ·exact ⟨g1,g2⟩
    ·have ha:a.any (fun u=>z0j u x)=true:=by
      cases e:a.any (fun u=>z0j u x) with
      | true=>rfl
      | false=>exact absurd ⟨g2,e⟩ hc
     obtain ⟨u,hu,he⟩:=List.any_eq_true.1 ha
     rw [z9p.1 he] at hu
     exact (h3 x).1 hu
 ·rintro a ⟨h1,h2,h3⟩
  rw [List.take_of_length_le (Nat.le_refl _)] at h3
  have:=zlg l
  congr 1
  refine zge h2 this.sorted fun x => ?_
  rw [h3,this.mem,zli]
end Go.Av
namespace Go.Av
open Go
set_option linter.unusedVariables false
set_option linter.unusedSimpArgs false
def adv (t:Time) (f:List Time):Time:=if f=[] then t else lub2 t (glbL f)
theorem zn6 {t a b:Time}:glb2 (lub2 t a) (lub2 t b)=lub2 t (glb2 a b):=by
 refine Time.ext' ?_ ?_ ?_ <;> simp only [lub2,glb2,mx_eq,mn_eq] <;> omega
theorem zjg {t:Time} {f:List Time} (h:f ≠ []):glbL (f.map (lub2 t))=lub2 t (glbL f):=by
 cases f with
 | nil=>exact absurd rfl h
 | cons x f =>
  simp only [List.map_cons,glbL]
  induction f generalizing x with
  | nil=>rfl
  | cons y f ih =>
   simp only [List.map_cons,List.foldl_cons]
   rw [zn6]
   exact ih (glb2 x y) (by simp)
theorem zow {t u:Time} (ht:z2w t) (hu:z2w u):z5k [t,u]=some (lub2 t u):=by
 unfold z5k
 rw [zc6 (fun x hx=>by
  rcases List.mem_cons.1 hx with rfl | hx
  ·exact ht
  ·rw [List.mem_singleton.1 hx]; exact hu),zfz ht]
 rfl
theorem zh6 {t:Time} {f:List Time} (ht:z2w t) (hf:NN f) (hl:f.length≤274877906944):z5v t f=some (adv t f):=by
 unfold z5v adv
 by_cases h0:f=[]
 ·rw [if_pos h0,h0]; rfl
 ·have hlen:f.length ≠ 0:=fun e=>h0 (List.eq_nil_of_length_eq_zero e)
  rw [if_neg h0,decide_eq_false (by omega),z0z,z06 (by unfold lim; omega)]
  rw [z31 (f.map (lub2 t)) (fun i a=>a=(f.take i).map (lub2 t)++List.replicate (f.length - i) (⟨0,(0,0)⟩:Time)) (fun a h=>by rw [h,List.take_of_length_le (Nat.le_refl _),Nat.sub_self]; simp)]
  ·simp only [z2a]
   unfold zat
   rw [zk9,zjg h0]; rfl
  ·rintro i a hi rfl
   refine ⟨_,?_,rfl⟩
   have hlen2:((f.take i).map (lub2 t)++List.replicate (f.length - i) (⟨0,(0,0)⟩:Time)).length=f.length:=by
    rw [List.length_append,List.length_map,List.length_take,List.length_replicate]; omega
   rw [zow ht (hf _ (zbn hi)),Option.bind_some,hlen2,Nat.zero_add,z06 (by omega),z06 (by omega),z7m hi,List.map_append,show f.length - i=(f.length - (i + 1)) + 1 by omega,List.replicate_succ]
   have e:=List.set_append_right (s:=(f.take i).map (lub2 t)) (t:=(⟨0,(0,0)⟩:Time) :: List.replicate (f.length - (i + 1)) (⟨0,(0,0)⟩:Time)) i (lub2 t (f.getD i default)) (by rw [List.length_map,List.length_take]; omega)
   rw [e,List.length_map,List.length_take,show i - min i f.length=0 by omega]
   simp
  ·simp
theorem zds {t:Time} {f:List Time} (ht:z2w t) (hf:NN f) (hl:f.length≤274877906944):z3o t f=some (adv t f):=by
 unfold z3o adv
 by_cases h0:f=[]
 ·rw [if_pos h0,h0]; rfl
 ·have hlen:f.length ≠ 0:=fun e=>h0 (List.eq_nil_of_length_eq_zero e)
  rw [if_neg h0,decide_eq_false (by omega),z0z]
  rw [z31 (f.map (lub2 t)) (fun i a=>a=(f.take i).map (lub2 t)) (fun a h=>by rw [h,List.take_of_length_le (Nat.le_refl _)])]
  ·simp only [z2a]
   rw [zmg,zjg h0]; rfl
  ·rintro i a hi rfl
   refine ⟨_,?_,rfl⟩
   rw [zn2,zfz ht,Option.bind_some,z06 (by rw [List.length_map,List.length_take,List.length_singleton]; omega),z7m hi,List.map_append]
   rfl
  ·rfl
end Go.Av
namespace Go.Av
open Go
set_option linter.unusedVariables false
set_option linter.unusedSimpArgs false
def Fr (l:List Time):Prop:=(∀ t ∈ l,okT t=true)∧z9o l=l
theorem zmm {fuel:Nat} (hf:5 < fuel) (l:List Time):∃ e,z3b fuel l=some e∧(e=0↔∀ t ∈ l,okT t=true):=by
 unfold z3b
 rw [z9c (fun t=>if okT t=true then 0 else 1) (fun x=>x)]
 ·have key:∀ l:List Time,l.foldr (fun x v=>thenC (if okT x=true then 0 else 1) v) (0:Int)=0↔∀ t ∈ l,okT t=true:=fun l=>by
   induction l with
   | nil=>simp
   | cons t l ih =>
    rw [List.foldr_cons,z9d,ih]
    by_cases h:okT t=true <;> simp [h]
  refine ⟨l.foldr (fun x v=>thenC (if okT x=true then 0 else 1) v) (0:Int),?_,key l⟩
  split
  ·rename_i h; rw [h]; rfl
  ·rfl
 ·intro i hi
  have h:=zcz hf (l.getD i default)
  unfold z3b at h
  simp only [List.length_cons,List.length_nil,Nat.zero_add,z08,List.getD_cons_zero] at h
  simp only [zl0 hf,Option.bind_some,z07] at h ⊢
  generalize l.getD i default=t at *
  unfold okT at *
  simp only [mx_eq] at *
  by_cases g:4611686018427387904 < max t.epoch (max t.loop.1 t.loop.2)
  ·rw [if_pos g,if_neg (by rw [if_neg (by simp only [Bool.and_eq_true,decide_eq_true_eq]; omega)]; decide),if_neg (by simp only [Bool.and_eq_true,decide_eq_true_eq]; omega)]
  ·rw [if_neg g,if_pos (by rw [if_pos (by simp only [Bool.and_eq_true,decide_eq_true_eq]; omega)])]
theorem zi8 (a b:List Time):∃ r,z19 a b=some r∧(r=true↔a=b):=by
 unfold z19
 by_cases hl:a.length=b.length
 ·rw [decide_eq_true (by omega:(a.length:Int)=(b.length:Int))]
  simp only [Bool.not_true,z0z]
  have key:∀ k i,i + k=a.length→∃ r,outK (z08 (S:=Unit) (R:=Bool) (fun i1 (a2:Unit)=>need ((0:Int)≤((i1:Nat):Int)∧((i1:Nat):Int) < (b.length:Int)) <| bf (!(z0j (a.getD i1 default) (b.getD i1 default))) (some (.ret false)) (some (.next ()))) k i ()) (fun (a3:Unit)=>some true) (fun x=>some x)=some r∧(r=true↔a.drop i=b.drop i):=by
   intro k
   induction k with
   | zero =>
    intro i hi
    refine ⟨true,rfl,?_⟩
    rw [List.drop_eq_nil_of_le (by omega:a.length≤i),List.drop_eq_nil_of_le (by omega:b.length≤i)]
    simp
   | succ k ih =>
    intro i hi
    simp only [z08]
    rw [z06 (by omega),z1b (by omega:i < a.length),z1b (by omega:i < b.length)]
    by_cases he:z0j (a.getD i default) (b.getD i default)=true
    ·rw [he]
     obtain ⟨r,h1,h2⟩:=ih (i + 1) (by omega)
     refine ⟨r,h1,?_⟩
     rw [h2,z9p.1 he]
     simp
    ·have he' : z0j (a.getD i default) (b.getD i default)=false:=by simpa using he
     rw [he']
     refine ⟨false,rfl,?_⟩
     simp only [Bool.false_eq_true,false_iff,List.cons.injEq,not_and]
     intro h
     exact absurd (z9p.2 h) he
  obtain ⟨r,h1,h2⟩:=key a.length 0 (by omega)
  exact ⟨r,h1,by simpa using h2⟩
 ·rw [decide_eq_false (by omega:¬ (a.length:Int)=(b.length:Int))]
  exact ⟨false,rfl,by simp; intro h; exact hl (by rw [h])⟩
theorem zjb {fuel:Nat} {l:List Time} (hf:20000000≤fuel) (hn:l.length≤2000000) (hl:NN l):∃ b,z5s fuel l=some b∧(b=true↔Fr l):=by
 unfold z5s
 obtain ⟨e,h1,h2⟩:=zmm (fuel:=fuel) (by omega) l
 rw [h1]
 simp only [Option.bind_some,jn_eq,z07]
 by_cases h:e=0
 ·rw [if_pos h,zoe hl (by omega) (by omega)]
  obtain ⟨r,g1,g2⟩:=zi8 (z9o l) l
  simp only [Option.bind_some]
  rw [g1]
  exact ⟨r,rfl,by rw [g2]; exact ⟨fun g=>⟨h2.1 h,g⟩,fun g=>g.2⟩⟩
 ·rw [if_neg h]
  exact ⟨false,rfl,by simp only [Bool.false_eq_true,false_iff]; exact fun g=>h (h2.2 g.1)⟩
def advU (f:List Time) (u:Update):Update:=⟨u.key,u.row,adv u.time f,u.diff⟩
def advL (f:List Time) (l:List Update):List Update:=l.map (advU f)
def AdvOk (f:List Time) (l R:List Update) (e:Int):Prop:=(chkL l ≠ 0∧R=[]∧e=chkL l)∨(chkL l=0∧zd7 (advL f l) R e)
theorem zkb {fuel:Nat} {f:List Time} {ls:List (List Update)} (hf:20000000≤fuel) (hF:NN f) (hl:f.length≤2000000) (hn:ls.flatten.length≤4000000) (hd:∀ u ∈ ls.flatten,in64 u.diff) (ht:∀ u ∈ ls.flatten,z2w u.time) :
  ∃ R e,z5x fuel f ls=some (R,e)∧AdvOk f ls.flatten R e∧R.length≤ls.flatten.length:=by
 unfold z5x
 rw [show z0p ls=some ls.flatten from zjc hn]
 simp only [Option.bind_some]
 generalize ls.flatten=l at *
 rw [z7n (by omega)]
 simp only [Option.bind_some,z3x,z07]
 by_cases h:chkL l=0
 ·rw [if_pos h]
  rw [z31 (advL f l) (fun i a=>a=advL f (l.take i)++l.drop i) (fun s hs=>by rw [hs,List.take_length,List.drop_length,List.append_nil])]
  ·simp only [z2a]
   have hfl:([advL f l]:List (List Update)).flatten=advL f l:=by simp
   obtain ⟨R,e,h1,h2,h3⟩:=zp2 (fuel:=fuel) (ls:=[advL f l]) hf (by rw [hfl]; simp [advL]; exact hn) (fun u hu=>by
    rw [hfl] at hu
    obtain ⟨v,hv,rfl⟩:=List.mem_map.1 hu
    exact hd v hv)
   rw [hfl] at h2 h3
   rw [h1]
   exact ⟨R,e,rfl,.inr ⟨h,h2⟩,by simpa [advL] using h3⟩
  ·intro i a hi ha
   have hla:(advL f (l.take i)).length=i:=by simp [advL]; omega
   have hlen:a.length=l.length:=by rw [ha]; simp [hla]; omega
   have hg:a.getD i default=l.getD i default:=by
    rw [ha,z1b hi]
    have:=zgb (advL f (l.take i)) (l.drop (i + 1)) (l.getD i default)
    rwa [hla] at this
   refine ⟨_,?_,rfl⟩
   simp only [Nat.zero_add]
   rw [z06 (by omega),z06 (by omega),hg,zh6 (ht _ (z2b hi)) hF (by omega)]
   simp only [Option.bind_some]
   rw [z06 (by omega),z06 (by omega)]
   congr 2
   rw [ha,z1b hi]
   have:=zfa (advL f (l.take i)) (l.drop (i + 1)) (l.getD i default) (advU f (l.getD i default))
   rw [hla] at this
   have e1:advL f (l.take (i + 1))=advL f (l.take i)++[advU f (l.getD i default)]:=by rw [z22 hi]; simp [advL]
   rw [e1,List.append_assoc]
   exact this
  ·simp [advL]
 ·rw [if_neg h]
  exact ⟨_,_,rfl,.inl ⟨h,rfl,rfl⟩,Nat.zero_le _⟩
def zhj (f:List Time) (l:List Update) (B:Batch) (e:Int):Prop :=
 (¬ Fr f∧e=4∧B=⟨[],[]⟩)∨(Fr f∧∃ R e',AdvOk f l R e' ∧ R.length≤l.length∧((e' ≠ 0∧e=e' ∧ B=⟨[],[]⟩)∨(e' = 0∧e=0∧B=⟨f,R⟩)))
theorem znx {fuel:Nat} {f:List Time} {ls:List (List Update)} (hf:20000000≤fuel) (hF:NN f) (hl:f.length≤2000000) (hn:ls.flatten.length≤4000000) (hd:∀ u ∈ ls.flatten,in64 u.diff) (ht:∀ u ∈ ls.flatten,z2w u.time) :
  ∃ B e,z6w fuel f ls=some (B,e)∧zhj f ls.flatten B e:=by
 unfold z6w
 obtain ⟨b,h1,h2⟩:=zjb (fuel:=fuel) hf hl hF
 rw [h1]
 simp only [Option.bind_some]
 cases b with
 | false=>exact ⟨_,_,rfl,.inl ⟨fun g=>(by cases h2.2 g),rfl,rfl⟩⟩
 | true =>
  obtain ⟨R,e',g1,g2,g3⟩:=zkb (fuel:=fuel) hf hF hl hn hd ht
  rw [g1]
  simp only [Bool.not_true,z0z,Option.bind_some,z3x,z07]
  by_cases h:e' = 0
  ·rw [if_pos h]
   unfold z0b
   rw [z06 (by omega)]
   exact ⟨_,_,rfl,.inr ⟨h2.1 rfl,R,e',g2,g3,.inr ⟨h,rfl,rfl⟩⟩⟩
  ·rw [if_neg h]
   exact ⟨_,_,rfl,.inr ⟨h2.1 rfl,R,e',g2,g3,.inl ⟨h,rfl,rfl⟩⟩⟩
theorem zht (B:Batch):z3w B B=some true:=by
 unfold z3w
 rw [zj7,zpk]
 rfl
end Go.Av
namespace Go.Av
open Go
set_option linter.unusedVariables false
theorem znw:z50 100000000=some true:=by kernel_rfl
theorem zp0 {n:Int} (h:okInt .i64 n):in64 n:=by
 have:=Go.bounds_i64 h
 unfold in64
 omega
theorem zdj {n:Int} (h:okInt .u64 n):0≤n:=(Go.bounds_u64 h).1
theorem zig {t:Time} (h:za9 t):z2w t:=⟨zdj h.1,zdj h.2.1.1,zdj h.2.1.2⟩
abbrev okUs (l:List Update):Prop:=l.length≤maxN∧∀ x ∈ l,z9n x
abbrev okTs (l:List Time):Prop:=l.length≤maxN∧∀ x ∈ l,za9 x
theorem us_in {l:List Update} (h:okUs l):∀ u ∈ l,in64 u.diff:=fun u hu=>zp0 (h.2 u hu).2.2.2.1
theorem us_nn {l:List Update} (h:okUs l):∀ u ∈ l,z2w u.time:=fun u hu=>zig (h.2 u hu).2.2.1
theorem ts_nn {l:List Time} (h:okTs l):∀ u ∈ l,z2w u:=fun u hu=>zig (h.2 u hu)
theorem zmx (l:List Update):l.length≤(l.map z2u).sum:=z7d (f:=z2u) (fun x=>by unfold z2u; omega) l
theorem zjm (l:List Time):l.length≤(l.map z5h).sum:=z7d (f:=z5h) (fun x=>by unfold z5h; omega) l
end Go.Av
namespace Go.Av
open Go
set_option linter.unusedVariables false
set_option linter.unusedSimpArgs false
theorem zn5 {α:Type} [Inhabited α] {c : α → α → Int} (hC:IsCmp c) {l:List α} (h:∀ j,0 < j→j < l.length→c (l.getD (j - 1) default) (l.getD j default) < 0):l.Pairwise fun a b=>c a b < 0:=by
 have key:∀ j i,i < j→j < l.length→c (l.getD i default) (l.getD j default) < 0:=by
  intro j
  induction j with
  | zero=>intro i hi; omega
  | succ j ih =>
   intro i hi hj
   have h1:=h (j + 1) (by omega) hj
   rw [Nat.add_sub_cancel] at h1
   by_cases e:i=j
   ·subst e; exact h1
   ·exact hC.lt_tr (ih i (by omega) (by omega)) (by omega)
 rw [List.pairwise_iff_getElem]
 intro i j hi hj hij
 have:=key j i hij hj
 rwa [List.getD_eq_getElem?_getD,List.getElem?_eq_getElem hi,List.getD_eq_getElem?_getD,List.getElem?_eq_getElem hj] at this
structure EvenP (l:List Update):Prop where
 lt:l.Pairwise fun a b=>cU a b < 0
 nz:∀ r ∈ l,r.diff ≠ 0
 ok:∀ r ∈ l,okU r
theorem EvenP.adj {l:List Update} (h:EvenP l) {i:Nat} (h0:0 < i) (hi:i < l.length):cU (l.getD (i - 1) default) (l.getD i default) < 0:=by
 have hs:=h.lt
 rw [List.pairwise_iff_getElem] at hs
 have:=hs (i - 1) i (by omega) hi (by omega)
 rwa [List.getD_eq_getElem?_getD,List.getElem?_eq_getElem (by omega:i - 1 < l.length),List.getD_eq_getElem?_getD,List.getElem?_eq_getElem hi]
theorem zl8 {fuel:Nat} {l:List Update} (hf:20000000≤fuel) (hn:l.length≤4000000):∃ b,z4n fuel l=some b∧(b=true↔EvenP l):=by
 unfold z4n
 rw [z7n (by omega)]
 let G:Option Bool→Prop:=fun q=>∃ b,q=some b∧(b=true↔EvenP l)
 refine z8q (G:=G) (fun i _=>∀ j,j < i→(l.getD j default).diff ≠ 0∧(0 < j→cU (l.getD (j - 1) default) (l.getD j default) < 0)) (fun _=>∀ j,j < l.length→(l.getD j default).diff ≠ 0∧(0 < j→cU (l.getD (j - 1) default) (l.getD j default) < 0))
  (fun r=>r=false∧¬ EvenP l) (fun j hj=>by omega) (fun _ h=>h) ?_ ?_ ?_
 ·intro s h
  refine ⟨_,rfl,?_⟩
  simp only [decide_eq_true_eq]
  rw [z8t]
  refine ⟨fun ho=>⟨zn5 cU_is fun j h0 hj=>(h j hj).2 h0,fun r hr => ?_,ho⟩,fun hE=>hE.ok⟩
  obtain ⟨i,hi,rfl⟩:=List.mem_iff_getElem.1 hr
  have:=(h i hi).1
  rwa [List.getD_eq_getElem?_getD,List.getElem?_eq_getElem hi] at this
 ·rintro r ⟨rfl,h⟩
  exact ⟨false,rfl,by simp [h]⟩
 ·intro i s hi h
  simp only [jn_eq,z07]
  by_cases h0:(l.getD i default).diff=0
  ·rw [if_pos h0]
   exact .inr (.inr ⟨_,rfl,rfl,fun hE=>hE.nz _ (z2b hi) h0⟩)
  ·rw [if_neg h0]
   by_cases g:0 < ((i:Nat):Int)
   ·rw [if_pos g,wsub1 (by omega) (by omega),z06 (by omega),z7p]
    simp only [Option.bind_some,z07,Int.toNat_natCast]
    by_cases k:0≤cU (l.getD (i - 1) default) (l.getD i default)
    ·rw [if_pos k]
     exact .inr (.inr ⟨_,rfl,rfl,fun hE=>by have:=hE.adj (i:=i) (by omega) hi; omega⟩)
    ·rw [if_neg k]
     refine .inl ⟨_,rfl,fun j hj => ?_⟩
     by_cases e:j=i
     ·subst e; exact ⟨h0,fun _=>by omega⟩
     ·exact h j (by omega)
   ·rw [if_neg g]
    refine .inl ⟨_,rfl,fun j hj => ?_⟩
    by_cases e:j=i
    ·subst e; exact ⟨h0,fun _=>by omega⟩
    ·exact h j (by omega)
theorem zm4 {fuel:Nat} {l:List Update} (hf:20000000≤fuel) (hn:l.length≤4000000) (hk:∀ u ∈ l,zbe u):∃ b,z3q fuel l=some b∧(b=true↔EvenP l):=by
 obtain ⟨b,h1,h2⟩:=zot hf hn hk
 obtain ⟨b',h3,h4⟩:=zl8 (l:=l) hf hn
 rw [h1] at h3; cases h3
 exact ⟨b,h2,h4⟩
def AdvP (f:List Time) (l:List Update):Prop := ∀ r ∈ l,adv r.time f=r.time
theorem zlb {f:List Time} {l:List Update}:(l.any fun u => !z0j (adv u.time f) u.time)=false↔AdvP f l:=by
 simp only [List.any_eq_false,AdvP,Bool.not_eq_true,Bool.not_eq_false',z9p]
theorem zld {fuel:Nat} {f:List Time} {l:List Update} (hf:20000000≤fuel) (hF:NN f) (hl:f.length≤2000000) (hn:l.length≤4000000) (ht:∀ r ∈ l,z2w r.time):∃ b,z6f fuel l f=some b∧(b=true↔EvenP l∧AdvP f l):=by
 unfold z6f
 obtain ⟨b,h1,h2⟩:=zl8 (l:=l) hf hn
 rw [h1]
 simp only [Option.bind_some,jn_eq]
 cases b with
 | false=>exact ⟨false,rfl,by simp only [Bool.false_eq_true,false_iff]; exact fun g=>by have:=h2.2 g.1; cases this⟩
 | true =>
  rw [z5w]
  have hE:=h2.1 rfl
  unfold z0o z0q
  have hany:=zlb (f:=f) (l:=l)
  refine ⟨!(l.any fun u => !z0j (adv u.time f) u.time),?_,by rw [← hany]; simp [hE]⟩
  have hB:∀ i (u:Unit),i < l.length→(z5d (l.getD i default) f).bind (fun r4=>bf r4 (some (.ret ((i:Nat):Int))) (some (.next ())))=if (!z0j (adv (l.getD i default).time f) (l.getD i default).time)=true then some (Ctl.ret ((i:Nat):Int)) else some (.next ()):=fun i u hi=>by
   unfold z5d
   rw [zh6 (ht _ (z2b hi)) hF (by omega)]
   simp only [Option.bind_some]
   cases (!z0j (adv (l.getD i default).time f) (l.getD i default).time) <;> rfl
  cases hc:l.any fun u => !z0j (adv u.time f) u.time with
  | false =>
   have e:=zab (kn:=fun _=>some (-1:Int)) (kr:=fun x:Int=>some x) (p:=fun u:Update => !z0j (adv u.time f) u.time) (f:=fun i=>(i:Int)) (q:=some (-1)) hB (fun _=>rfl) (fun i hi h=>by rw [hc] at h; cases h)
   rw [e]
   rfl
  | true =>
   have:∃ k:Nat,outK (z08 (S:=Unit) (R:=Int) (fun i1 (a2:Unit)=>(z5d (l.getD i1 default) f).bind fun r4=>bf r4 (some (.ret ((i1:Nat):Int))) (some (.next ()))) l.length 0 ()) (fun (a3:Unit)=>some (-1)) (fun x=>some x)=some ((k:Nat):Int):=by
    refine z8q (G:=fun q=>∃ k:Nat,q=some ((k:Nat):Int)) (fun i _=>(l.take i).any (fun u => !z0j (adv u.time f) u.time)=false) (fun _=>False) (fun r=>∃ k:Nat,r=(k:Int)) rfl (fun s h=>by rw [List.take_length,hc] at h; cases h) (fun s h=>h.elim) (fun r ⟨k,h⟩=>⟨k,by rw [h]⟩) ?_
    intro i s hi h
    rw [hB i s hi]
    by_cases g:(!z0j (adv (l.getD i default).time f) (l.getD i default).time)=true
    ·rw [if_pos g]; exact .inr (.inr ⟨_,rfl,i,rfl⟩)
    ·rw [if_neg g]
     refine .inl ⟨_,rfl,?_⟩
     rw [z22 hi,List.any_append,h]
     simp only [List.any_cons,List.any_nil,Bool.or_false,Bool.false_or]
     simpa using g
   obtain ⟨k,hk⟩:=this
   rw [hk]
   have:decide (0≤((k:Nat):Int))=true:=by rw [decide_eq_true_eq]; omega
   simp only [Option.bind_some,this]
def zgi (b:Batch):Prop:=Fr b.since∧EvenP b.updates∧AdvP b.since b.updates
theorem zob {fuel:Nat} {b:Batch} (hf:20000000≤fuel) (hF:NN b.since) (hl:b.since.length≤2000000) (hn:b.updates.length≤4000000) (ht:∀ r ∈ b.updates,z2w r.time):(z5t fuel b=some 0∧zgi b)∨(z5t fuel b=some 4∧¬ zgi b):=by
 unfold z5t
 obtain ⟨x,h1,h2⟩:=zjb (fuel:=fuel) hf hl hF
 rw [h1]
 simp only [Option.bind_some,jn_eq]
 cases x with
 | false=>right; exact ⟨rfl,fun h=>by have:=h2.2 h.1; cases this⟩
 | true =>
  obtain ⟨y,g1,g2⟩:=zld (fuel:=fuel) hf hF hl hn ht
  rw [g1]
  cases y with
  | false=>right; exact ⟨rfl,fun h=>by have:=g2.2 h.2; cases this⟩
  | true=>left; exact ⟨rfl,h2.1 rfl,g2.1 rfl⟩
end Go.Av
namespace Go.Av
open Go
set_option linter.unusedVariables false
set_option linter.unusedSimpArgs false
theorem zjr (l:List Time):∃ e,z2g l=some e∧(e=0↔∀ t ∈ l,okT t=true):=by
 unfold z2g
 rw [z9c (fun t=>if okT t=true then 0 else 1) (fun x=>x)]
 ·have key:∀ l:List Time,l.foldr (fun x v=>thenC (if okT x=true then 0 else 1) v) (0:Int)=0↔∀ t ∈ l,okT t=true:=fun l=>by
   induction l with
   | nil=>simp
   | cons t l ih =>
    rw [List.foldr_cons,z9d,ih]
    by_cases h:okT t=true <;> simp [h]
  refine ⟨l.foldr (fun x v=>thenC (if okT x=true then 0 else 1) v) (0:Int),?_,key l⟩
  split
  ·rename_i h; rw [h]; rfl
  ·rfl
 ·intro i hi
  have h:=zai (l.getD i default)
  unfold z2g at h
  simp only [List.length_cons,List.length_nil,Nat.zero_add,List.getD_cons_zero] at h
  generalize l.getD i default=t at *
  rw [show z08 (S:=Unit) (R:=Int) _ 1 0 ()=_ from rfl] at h
  simp only [z08,z07,List.getD_cons_zero] at h ⊢
  by_cases h1:4611686018427387904 < t.epoch <;> by_cases h2:4611686018427387904 < t.loop.1 <;> by_cases h3:4611686018427387904 < t.loop.2 <;> simp [outK,h1,h2,h3] at h ⊢ <;> cases hk:okT t <;> simp [hk] at h ⊢
theorem zkc (a b:List Time):∃ r,z3r a b=some r∧(r=true↔a=b):=by
 obtain ⟨r,h1,h2⟩:=zi8 a b
 exact ⟨r,h1,h2⟩
theorem zfo {fuel:Nat} {l:List Time} (hf:20000000≤fuel) (hn:l.length≤2000000):∃ b,z44 fuel l=some b∧(b=true↔Fr l):=by
 unfold z44 z5o
 obtain ⟨e,h1,h2⟩:=zjr l
 rw [h1]
 simp only [Option.bind_some,jn_eq,z07]
 by_cases h:e=0
 ·rw [if_pos h,zkk (by omega) (by omega)]
  obtain ⟨r,g1,g2⟩:=zkc l (z9o l)
  simp only [Option.bind_some]
  rw [g1]
  exact ⟨r,rfl,by rw [g2]; exact ⟨fun g=>⟨h2.1 h,g.symm⟩,fun g=>g.2.symm⟩⟩
 ·rw [if_neg h]
  exact ⟨false,rfl,by simp only [Bool.false_eq_true,false_iff]; exact fun g=>h (h2.2 g.1)⟩
theorem zmn {f:List Time} {l:List Update} (hF:NN f) (hl:f.length≤2000000) (ht:∀ r ∈ l,z2w r.time):∃ b,z48 l f=some b∧(b=true↔AdvP f l):=by
 unfold z48
 have hany:=zlb (f:=f) (l:=l)
 refine ⟨!(l.any fun u => !z0j (adv u.time f) u.time),?_,by rw [← hany]; simp⟩
 refine zab (p:=fun u:Update => !z0j (adv u.time f) u.time) (f:=fun i=>false) (fun i u hi => ?_) (fun h=>by rw [h]; rfl) (fun i hi h=>by rw [h]; rfl)
 rw [zds (ht _ (z2b hi)) hF (by omega)]
 simp only [Option.bind_some]
 cases (!z0j (adv (l.getD i default).time f) (l.getD i default).time) <;> rfl
theorem zfm {fuel:Nat} {b:Batch} (hf:20000000≤fuel) (hF:NN b.since) (hl:b.since.length≤2000000) (hn:b.updates.length≤4000000) (ht:∀ r ∈ b.updates,z2w r.time) (hk:∀ u ∈ b.updates,zbe u):(z42 fuel b=some 0∧zgi b)∨(z42 fuel b=some 4∧¬ zgi b):=by
 unfold z42
 obtain ⟨x,h1,h2⟩:=zfo (fuel:=fuel) hf hl
 rw [h1]
 simp only [Option.bind_some,jn_eq]
 cases x with
 | false=>right; exact ⟨rfl,fun h=>by have:=h2.2 h.1; cases this⟩
 | true =>
  obtain ⟨y,g1,g2⟩:=zm4 (l:=b.updates) hf hn hk
  rw [g1]
  cases y with
  | false=>right; exact ⟨rfl,fun h=>by have:=g2.2 h.2.1; cases this⟩
  | true =>
   obtain ⟨z,k1,k2⟩:=zmn (l:=b.updates) hF hl ht
   simp only [Option.bind_some,Bool.not_true,z0z]
   rw [k1]
   cases z with
   | false=>right; exact ⟨rfl,fun h=>by have:=k2.2 h.2.2; cases this⟩
   | true=>left; exact ⟨rfl,h2.1 rfl,g2.1 rfl,k2.1 rfl⟩
abbrev kc (key:List Value) (u:Update):Int:=cmpL cmpV u.key key
end Go.Av
namespace Go.Av
open Go
set_option linter.unusedVariables false
set_option linter.unusedSimpArgs false
abbrev upTo (l:List Update) (key:List Value):Nat:=(l.filter fun u=>decide (kc key u≤0)).length
end Go.Av
namespace Go.Av
open Go
set_option linter.unusedVariables false
theorem zil {α:Type} {f : α → Nat}:∀ {l:List α} {x : α},x ∈ l→f x≤(l.map f).sum
 | y :: l,x,h=>by
  simp only [List.map_cons,List.sum_cons]
  rcases List.mem_cons.1 h with rfl | h
  ·omega
  ·have:=zil (f:=f) h; omega
theorem zn8 (l:List Value):l.length≤(l.map z79).sum:=z7d (f:=z79) (fun x=>by unfold z79; omega) l
theorem znu {u:Update} (h:z2u u≤1048576):zbe u:=by
 unfold z2u at h
 have:=zn8 u.key
 have:=zn8 u.row
 simp only at h
 exact ⟨by omega,by omega⟩
theorem zlm {b:Batch}:(b.since.map z5h).sum + (b.updates.map z2u).sum≤zbz b:=by
 unfold zbz
 simp only
 omega
theorem zo7 {l:List Update} (h:(l.map z2u).sum≤1048576):∀ u ∈ l,zbe u:=fun u hu=>znu (by have:=zil (f:=z2u) hu; omega)
end Go.Av
namespace Go.Av
open Go
set_option linter.unusedVariables false
set_option linter.unusedSimpArgs false
def zew (f:List Time) (l:List Update) (B:Batch) (e:Int):Prop :=
 (¬ Fr f∧e=4∧B=⟨[],[]⟩)∨(Fr f∧∃ R e',AdvOk f l R e' ∧ ((e' ≠ 0∧e=e' ∧ B=⟨[],[]⟩)∨(e' = 0∧e=0∧B=⟨f,R⟩)))
theorem zhj.r {f:List Time} {l:List Update} {B:Batch} {e:Int} (h:zhj f l B e):zew f l B e:=by
 rcases h with h | ⟨h1,R,e',h2,_,h3⟩
 ·exact .inl h
 ·exact .inr ⟨h1,R,e',h2,h3⟩
theorem zlu {f:List Time} {l R R' : List Update} {e e' : Int} (h:AdvOk f l R e) (h' : AdvOk f l R' e'):R=R' ∧ e=e':=by
 rcases h with ⟨h1,rfl,rfl⟩ | ⟨h1,h2⟩
 ·rcases h' with ⟨_,rfl,rfl⟩ | ⟨g1,_⟩
  ·exact ⟨rfl,rfl⟩
  ·exact absurd g1 h1
 ·rcases h' with ⟨g1,_⟩ | ⟨_,g2⟩
  ·exact absurd h1 g1
  ·exact zku h2 g2
theorem zk2 {f:List Time} {l:List Update} {B B' : Batch} {e e' : Int} (h:zew f l B e) (h' : zew f l B' e'):B=B' ∧ e=e':=by
 rcases h with ⟨h1,rfl,rfl⟩ | ⟨h1,R,d,h2,h3⟩
 ·rcases h' with ⟨_,rfl,rfl⟩ | ⟨g1,_⟩
  ·exact ⟨rfl,rfl⟩
  ·exact absurd g1 h1
 ·rcases h' with ⟨g1,_⟩ | ⟨_,R',d',g2,g3⟩
  ·exact absurd h1 g1
  ·obtain ⟨rfl,rfl⟩:=zlu h2 g2
   rcases h3 with ⟨a,rfl,rfl⟩ | ⟨a,rfl,rfl⟩ <;> rcases g3 with ⟨c,rfl,rfl⟩ | ⟨c,rfl,rfl⟩
   ·exact ⟨rfl,rfl⟩
   ·exact absurd c a
   ·exact absurd a c
   ·exact ⟨rfl,rfl⟩
theorem zjp {f:List Time} {l:List Update} (hF:NN f) (hl:f.length≤2000000) (hn:l.length≤4000000) (ho:∀ u ∈ l,okU u) (ht:∀ u ∈ l,z2w u.time):z4e l f=some (advL f l):=by
 unfold z4e
 rw [zec ho hn]
 simp only [Option.bind_some]
 rw [z31 (advL f l) (fun i a=>a=advL f (l.take i)++l.drop i) (fun s hs=>by rw [hs,List.take_length,List.drop_length,List.append_nil])]
 ·rfl
 ·intro i a hi ha
  have hla:(advL f (l.take i)).length=i:=by simp [advL]; omega
  have hlen:a.length=l.length:=by rw [ha]; simp [hla]; omega
  have hg:a.getD i default=l.getD i default:=by
   rw [ha,z1b hi]
   have:=zgb (advL f (l.take i)) (l.drop (i + 1)) (l.getD i default)
   rwa [hla] at this
  refine ⟨_,?_,rfl⟩
  simp only [Nat.zero_add]
  rw [z06 (by omega),z06 (by omega),hg,zds (ht _ (z2b hi)) hF (by omega)]
  simp only [Option.bind_some]
  rw [z06 (by omega),z06 (by omega)]
  congr 2
  rw [ha,z1b hi]
  have:=zfa (advL f (l.take i)) (l.drop (i + 1)) (l.getD i default) (advU f (l.getD i default))
  rw [hla] at this
  have e1:advL f (l.take (i + 1))=advL f (l.take i)++[advU f (l.getD i default)]:=by rw [z22 hi]; simp [advL]
  rw [e1,List.append_assoc]
  exact this
 ·simp [advL]
theorem zkq {fuel:Nat} {f:List Time} {ls:List (List Update)} (hf:20000000≤fuel) (hF:NN f) (hl:f.length≤2000000) (hn:ls.flatten.length≤4000000) (hd:∀ u ∈ ls.flatten,in64 u.diff) (ht:∀ u ∈ ls.flatten,z2w u.time) :
  ∃ B e,z4x fuel f ls=some (B,e)∧zew f ls.flatten B e:=by
 unfold z4x
 obtain ⟨b,h1,h2⟩:=zfo (fuel:=fuel) hf hl
 rw [h1]
 simp only [Option.bind_some]
 cases b with
 | false=>exact ⟨_,_,rfl,.inl ⟨fun g=>(by cases h2.2 g),rfl,rfl⟩⟩
 | true =>
  have hFr:=h2.1 rfl
  simp only [Bool.not_true,z0z]
  let G:Option (Batch × Int)→Prop:=fun q=>∃ B e,q=some (B,e)∧zew f ls.flatten B e
  refine z8q (G:=G) (fun i a=>a=(ls.take i).flatten∧chkL (ls.take i).flatten=0) (fun a=>a=ls.flatten∧chkL ls.flatten=0) (fun r=>r=(⟨[],[]⟩,chkL ls.flatten)∧chkL ls.flatten ≠ 0) ⟨rfl,rfl⟩ (fun a h=>by rw [List.take_length] at h; exact h) ?_ ?_ ?_
  ·rintro a ⟨rfl,h⟩
   have ho:=z8t.1 h
   rw [zjp hF hl hn ho ht]
   simp only [Option.bind_some]
   have hfl:([advL f ls.flatten]:List (List Update)).flatten=advL f ls.flatten:=by simp
   obtain ⟨R,e,g1,g2⟩:=zlq (fuel:=fuel) (ls:=[advL f ls.flatten]) hf (by rw [hfl]; simp only [advL,List.length_map]; exact hn) (fun u hu=>by
    rw [hfl] at hu
    obtain ⟨v,hv,rfl⟩:=List.mem_map.1 hu
    exact hd v hv)
   rw [hfl] at g2
   rw [g1]
   simp only [Option.bind_some,z3x,z07]
   by_cases he:e=0
   ·rw [if_pos he,z06 (by omega)]
    exact ⟨_,_,rfl,.inr ⟨hFr,R,e,.inr ⟨h,g2⟩,.inr ⟨he,rfl,rfl⟩⟩⟩
   ·rw [if_neg he]
    exact ⟨_,_,rfl,.inr ⟨hFr,R,e,.inr ⟨h,g2⟩,.inl ⟨he,rfl,rfl⟩⟩⟩
  ·rintro r ⟨rfl,h⟩
   exact ⟨_,_,rfl,.inr ⟨hFr,[],chkL ls.flatten,.inl ⟨h,rfl,rfl⟩,.inl ⟨h,rfl,rfl⟩⟩⟩
  ·rintro i a hi ⟨rfl,h⟩
   rw [zaf]
   simp only [Option.bind_some,z3x,z07]
   by_cases g:chkL (ls.getD i default)=0
   ·left
    have:=zfc hi
    rw [if_pos g,z06 (by omega)]
    exact ⟨_,rfl,by rw [z8w hi],by rw [z8w hi,z6u,h,g]; rfl⟩
   ·right; right
    have e:chkL ls.flatten=chkL (ls.getD i default):=by rw [zde hi,z6u,z6u,h,zhv,zau g]
    rw [if_neg g]
    exact ⟨_,rfl,by rw [e],by rw [e]; exact g⟩
def zh7 (since than:List Time):Bool:=decide (than=[]) || (decide (since ≠ []) && since.all fun t=>than.any fun u=>leT u t)
theorem zl3 {l:List Time} {p:Time→Bool}:(l.any fun t => !p t) = !l.all p:=by rw [List.any_eq_not_all_not]; simp
theorem zit {since than:List Time} (hF:NN since) (hT:NN than):z0h since than=some (!since.all fun t=>than.any fun u=>leT u t):=by
 unfold z0h z0x
 have hB:∀ i (u:Unit),i < since.length→(z6b (since.getD i default) than).bind (fun r4=>bf r4 (some (.ret ((i:Nat):Int))) (some (.next ())))=if (!than.any fun u=>leT u (since.getD i default))=true then some (Ctl.ret ((i:Nat):Int)) else some (.next ()):=fun i u hi=>by
  unfold z6b
  rw [zi6 hT (hF _ (z2b hi))]
  simp only [Option.bind_some]
  cases (!than.any fun u=>leT u (since.getD i default)) <;> rfl
 have hany:=zl3 (l:=since) (p:=fun t=>than.any fun u=>leT u t)
 rw [← hany]
 have:∃ z:Int,outK (z08 (S:=Unit) (R:=Int) (fun i1 (a2:Unit)=>(z6b (since.getD i1 default) than).bind fun r4=>bf r4 (some (.ret ((i1:Nat):Int))) (some (.next ()))) since.length 0 ()) (fun (a3:Unit)=>some (-1)) (fun x=>some x)=some z∧decide (0≤z)=since.any fun t => !than.any fun u=>leT u t:=by
  refine z8q (G:=fun q=>∃ z:Int,q=some z∧decide (0≤z)=since.any fun t => !than.any fun u=>leT u t) (fun i _=>(since.take i).any (fun t => !than.any fun u=>leT u t)=false) (fun _=>since.any (fun t => !than.any fun u=>leT u t)=false) (fun r=>0≤r∧since.any (fun t => !than.any fun u=>leT u t)=true) rfl (fun s h=>by rwa [List.take_length] at h) (fun s h=>⟨_,rfl,by rw [h]; rfl⟩) (fun r h=>⟨r,rfl,by rw [h.2]; exact decide_eq_true h.1⟩) ?_
  intro i s hi h
  rw [hB i s hi]
  by_cases g:(!than.any fun u=>leT u (since.getD i default))=true
  ·rw [if_pos g]
   exact .inr (.inr ⟨_,rfl,by omega,List.any_eq_true.2 ⟨_,z2b hi,g⟩⟩)
  ·rw [if_neg g]
   refine .inl ⟨_,rfl,?_⟩
   rw [z22 hi,List.any_append,h]
   simp only [List.any_cons,List.any_nil,Bool.or_false,Bool.false_or]
   simpa using g
 obtain ⟨z,h1,h2⟩:=this
 rw [h1]
 simp only [Option.bind_some,h2]
theorem zof {since than:List Time} (hF:NN since) (hT:NN than):z5r since than=some (zh7 since than):=by
 unfold z5r zh7
 simp only [jn_eq,z07]
 by_cases h:than=[]
 ·rw [h]; rfl
 ·have h0:¬ (than.length:Int)=0:=fun e=>h (List.eq_nil_of_length_eq_zero (by omega))
  rw [if_neg h0,decide_eq_false h,Bool.false_or]
  by_cases g:since=[]
  ·rw [g]; rfl
  ·have g0:0 < (since.length:Int):=by have:=List.length_pos_iff.2 g; omega
   rw [if_pos g0,zit hF hT,decide_eq_true g]
   simp
theorem zkg {since than:List Time}:z55 since than=some (zh7 since than):=by
 unfold z55 zh7
 simp only [z07]
 by_cases h:than=[]
 ·rw [h]; rfl
 ·have h0:¬ (than.length:Int)=0:=fun e=>h (List.eq_nil_of_length_eq_zero (by omega))
  rw [if_neg h0,decide_eq_false h,Bool.false_or]
  have hany:=zl3 (l:=since) (p:=fun t=>than.any fun u=>leT u t)
  refine zab (p:=fun t:Time => !than.any fun u=>leT u t) (f:=fun i=>false) (fun i u hi => ?_) (fun h => ?_) (fun i hi h => ?_)
  ·rw [zix]
   simp only [Option.bind_some]
   cases (!than.any fun u=>leT u (since.getD i default)) <;> rfl
  ·rw [hany] at h
   have h' : since.all (fun t=>than.any fun u=>leT u t)=true:=by simpa using h
   rw [h',Bool.and_true]
   congr 1
   rw [Bool.eq_iff_iff]
   simp only [decide_eq_true_eq]
   constructor
   ·intro k e; rw [e] at k; simp at k
   ·intro k; have:=List.length_pos_iff.2 k; omega
  ·rw [hany] at h
   have h' : since.all (fun t=>than.any fun u=>leT u t)=false:=by simpa using h
   rw [h',Bool.and_false]
theorem zg3 {fuel:Nat} {f:List Time} {ls:List (List Update)} {b:Batch} {than:List Time} (hL:z50 fuel=some true) (hf:20000000≤fuel) (hF:NN f) (hl:f.length≤2000000)
  (hn:ls.flatten.length≤2000000) (hd:∀ u ∈ ls.flatten,in64 u.diff) (ht:∀ u ∈ ls.flatten,z2w u.time)
  (hbF:NN b.since) (hbl:b.since.length≤2000000) (hbn:b.updates.length≤2000000) (hbt:∀ r ∈ b.updates,z2w r.time) (hbk:∀ u ∈ b.updates,zbe u) (hT:NN than) :
  z3g fuel f ls b than=some true:=by
 unfold z3g
 obtain ⟨B,e,h1,h2⟩:=znx (fuel:=fuel) hf hF hl (by omega) hd ht
 obtain ⟨B',e',g1,g2⟩:=zkq (fuel:=fuel) hf hF hl (by omega) hd ht
 obtain ⟨rfl,rfl⟩:=zk2 h2.r g2
 rw [h1]
 simp only [Option.bind_some]
 rw [g1]
 simp only [Option.bind_some,jn_eq]
 rw [hL]
 simp only [Option.bind_some,z5w,zht,decide_true]
 rw [zof hF hT,zkg]
 rcases zob (fuel:=fuel) hf hbF hbl (by omega) hbt with ⟨hc,hP⟩ | ⟨hc,hP⟩
 ·rcases zfm (fuel:=fuel) hf hbF hbl (by omega) hbt hbk with ⟨hc',_⟩ | ⟨_,h⟩
  ·rw [hc,hc']; simp
  ·exact absurd hP h
 ·rcases zfm (fuel:=fuel) hf hbF hbl (by omega) hbt hbk with ⟨_,h⟩ | ⟨hc',_⟩
  ·exact absurd h hP
  ·rw [hc,hc']; simp
end Go.Av
namespace Go.Av
open Go
set_option linter.unusedVariables false
theorem zjl {α:Type} (f : α → Nat) (hf:∀ l:List α,l.length≤(l.map f).sum):∀ ls:List (List α),ls.flatten.length≤(ls.map fun l=>(l.map f).sum + 1).sum
 | []=>by simp
 | l :: ls=>by
  have:=hf l
  have:=zjl f hf ls
  simp only [List.flatten_cons,List.length_append,List.map_cons,List.sum_cons]
  omega
theorem zgf {f:List Time} {l:List (List Update)} {b:Batch} {t:List Time} (h1:okTs f) (h2:l.length≤maxN∧∀ x ∈ l,okUs x) (h3:zl7 b) (h4:okTs t)
  (hb:((f.map z5h).sum + 1) + (((l.map fun xs=>(xs.map z2u).sum + 1).sum + 1) + (zbz b + (((t.map z5h).sum + 1) + 0)))≤1048576):z3g 100000000 f l b t=some true:=by
 have:=@zlm b
 have:=zmx b.updates
 have:=zjm b.since
 have:=zjm f
 have:=zjm t
 have:=zjl z2u zmx l
 refine zg3 znw (by omega) (ts_nn h1) (by omega) (by omega) (fun u hu => ?_) (fun u hu => ?_) (ts_nn h3.1) (by omega) (by omega) (us_nn h3.2.1) (zo7 (by omega)) (ts_nn h4)
 ·obtain ⟨x,g1,g2⟩:=List.mem_flatten.1 hu
  exact us_in (h2.2 x g1) u g2
 ·obtain ⟨x,g1,g2⟩:=List.mem_flatten.1 hu
  exact us_nn (h2.2 x g1) u g2
end Go.Av
