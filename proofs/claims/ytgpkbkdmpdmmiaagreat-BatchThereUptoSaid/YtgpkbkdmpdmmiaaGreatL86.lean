import Derived.Test.YtgpkbkdmpdmmiaaGreatL85
import Derived.Sort.AssemblyPlain
import Derived.Sort.LotD5
import Derived.KernelRfl
namespace Go.Av
open Go
set_option linter.unusedVariables false
set_option linter.unusedSimpArgs false
section
variable {α:Type} [Inhabited α]
theorem swp_at (d:Array α) {i j:Nat} (hi:i < d.size) (hj:j < d.size) (k:Nat):(Sort.swp d i j)[k]! = if k=j then d[i]! else if k=i then d[j]! else d[k]!:=Sort.swp_get d hi hj k
def swpN (p q:Nat):Nat→Array α → Array α
 | 0,d=>d
 | k + 1,d=>Sort.swp (swpN p q k d) (p + k) (q + k)
theorem swpN_sz (p q:Nat):∀ (n:Nat) (d:Array α),(swpN p q n d).size=d.size
 | 0,d=>rfl
 | k + 1,d=>by unfold swpN; rw [swp_sz,swpN_sz p q k]
def srF (p q n:Nat) (d:Array α) (x:Nat) : α:=if p≤x∧x < p + n then d[x - p + q]! else if q≤x∧x < q + n then d[x - q + p]! else d[x]!
theorem swpN_get {p q:Nat} {d:Array α}:∀ {n:Nat},(p + n≤q∨q + n≤p)→p + n≤d.size→q + n≤d.size→∀ x,(swpN p q n d)[x]! = srF p q n d x
 | 0,_,_,_,x=>by
  unfold swpN srF
  rw [if_neg (by omega),if_neg (by omega)]
 | k + 1,h,hp,hq,x=>by
  have ih:=swpN_get (p:=p) (q:=q) (d:=d) (n:=k) (by omega) (by omega) (by omega)
  unfold swpN
  rw [swp_at _ (by rw [swpN_sz]; omega) (by rw [swpN_sz]; omega),ih,ih,ih]
  unfold srF
  by_cases h1:x=q + k
  ·subst h1
   rw [if_pos rfl,if_neg (by omega),if_neg (by omega),if_neg (by omega),if_pos (by omega)]
   congr 1; omega
  ·rw [if_neg h1]
   by_cases h2:x=p + k
   ·subst h2
    rw [if_pos rfl,if_neg (by omega),if_neg (by omega),if_pos (by omega)]
    congr 1; omega
   ·rw [if_neg h2]
    by_cases h3:p≤x∧x < p + k
    ·rw [if_pos h3,if_pos (by omega)]
    ·rw [if_neg h3,if_neg (show ¬ (p≤x∧x < p + (k + 1)) by omega)]
     by_cases h4:q≤x∧x < q + k
     ·rw [if_pos h4,if_pos (by omega)]
     ·rw [if_neg h4,if_neg (by omega)]
theorem swpN_perm {p q a b:Nat} {d:Array α} (hb:b≤d.size):∀ {n:Nat},a≤p→a≤q→p + n≤b→q + n≤b→Sort.PermIn a b d (swpN p q n d)
 | 0,_,_,_,_=>Sort.permIn_refl d a b
 | k + 1,h1,h2,h3,h4=>by
  unfold swpN
  exact Sort.permIn_trans _ _ _ a b (swpN_perm hb h1 h2 (by omega) (by omega)) (Sort.swp_permIn _ a b _ _ (by omega) (by omega) (by omega) (by omega) (by rw [swpN_sz]; exact hb))
theorem swpN_loop {R:Type} {B:Int × List α → Option (Ctl (Int × List α) R)} {p q n fuel:Nat} {d:Array α} (hf:n < fuel)
  (hB:∀ (i:Nat) (d' : Array α),d'.size=d.size→i≤n→B ((i:Int),d'.toList)=if i < n then some (.next (((i + 1:Nat):Int),(Sort.swp d' (p + i) (q + i)).toList)) else some (.brk ((i:Int),d'.toList))) :
  ∃ x:Int,loopN B fuel ((0:Int),d.toList)=some (.done (x,(swpN p q n d).toList)):=by
 have key:∀ k i fuel,i + k=n→k < fuel→∃ x:Int,loopN B fuel ((i:Int),(swpN p q i d).toList)=some (.done (x,(swpN p q n d).toList)):=by
  intro k
  induction k with
  | zero =>
   intro i fuel hi hf
   cases fuel with
   | zero=>omega
   | succ fuel =>
    have h:=hB i (swpN p q i d) (swpN_sz ..) (by omega)
    rw [if_neg (by omega)] at h
    rw [loopN_brk h,show i=n by omega]
    exact ⟨_,rfl⟩
  | succ k ih =>
   intro i fuel hi hf
   cases fuel with
   | zero=>omega
   | succ fuel =>
    have h:=hB i (swpN p q i d) (swpN_sz ..) (by omega)
    rw [if_pos (by omega)] at h
    rw [loopN_next h]
    exact ih (i + 1) fuel (by omega) (by omega)
 exact key n 0 fuel (by omega) hf
def rotF (a m b:Nat) (d:Array α) (x:Nat) : α:=if a≤x∧x < a + (b - m) then d[x - a + m]! else if a + (b - m)≤x∧x < b then d[x - (a + (b - m)) + a]! else d[x]!
structure RotTo (a m b:Nat) (d d' : Array α):Prop where
 perm:Sort.PermIn a b d d'
 get:∀ x,d'[x]! = rotF a m b d x
theorem rot_left {m i j:Nat} {d:Array α} (him:i≤m) (hij:j < i) (x:Nat) (d' : Array α) (hd' : ∀ x,d'[x]! = srF (m - i) m j d x):rotF (m - i + j) m (m + j) d' x=rotF (m - i) m (m + j) d x:=by
 unfold rotF
 rw [hd',hd',hd']
 unfold srF
 repeat' split
 all_goals first | omega | (congr 1; done) | (congr 1; omega)
theorem rot_right {m i j:Nat} {d:Array α} (him:i≤m) (hij:i < j) (x:Nat) (d' : Array α) (hd' : ∀ x,d'[x]! = srF (m - i) (m + j - i) i d x):rotF (m - i) m (m + j - i) d' x=rotF (m - i) m (m + j) d x:=by
 unfold rotF
 rw [hd',hd',hd']
 unfold srF
 repeat' split
 all_goals first | omega | (congr 1; done) | (congr 1; omega)
theorem rot_last {m i:Nat} {d:Array α} (him:i≤m) (x:Nat):srF (m - i) m i d x=rotF (m - i) m (m + i) d x:=by
 unfold rotF srF
 repeat' split
 all_goals first | omega | (congr 1; done) | (congr 1; omega)
theorem rot_loop {R:Type} {B:Int × Int × List α → Option (Ctl (Int × Int × List α) R)} {m a b:Nat} {d0:Array α} (hb:b≤d0.size):∀ (n i j fuel:Nat) (d:Array α),i + j≤n→n < fuel→1≤i→1≤j→a≤m - i→i≤m→m + j≤b→d.size=d0.size →
  (∀ (i j:Nat) (d' : Array α),d'.size=d0.size→1≤i→1≤j→i≤m→m + j≤b→B ((i:Int),(j:Int),d'.toList)=if i=j then some (.brk ((i:Int),(j:Int),d'.toList)) else if j < i then some (.next (((i - j:Nat):Int),(j:Int),(swpN (m - i) m j d').toList)) else some (.next ((i:Int),((j - i:Nat):Int),(swpN (m - i) (m + j - i) i d').toList))) →
  ∃ (k:Nat) (d' : Array α),loopN B fuel ((i:Int),(j:Int),d.toList)=some (.done ((k:Int),(k:Int),d'.toList))∧1≤k∧k≤i∧k≤j∧d'.size=d.size∧Sort.PermIn a b d d' ∧ ∀ x,rotF (m - k) m (m + k) d' x=rotF (m - i) m (m + j) d x:=by
 intro n
 induction n with
 | zero=>intro i j fuel d hn hf h1 h2; omega
 | succ n ih =>
  intro i j fuel d hn hf h1 h2 h3 h4 h5 h6 hB
  cases fuel with
  | zero=>omega
  | succ fuel =>
   have h:=hB i j d h6 h1 h2 h4 h5
   by_cases e:i=j
   ·rw [if_pos e] at h
    subst e
    exact ⟨i,d,loopN_brk h,h1,Nat.le_refl _,Nat.le_refl _,rfl,Sort.permIn_refl d a b,fun x=>rfl⟩
   ·rw [if_neg e] at h
    by_cases hl:j < i
    ·rw [if_pos hl] at h
     obtain ⟨k,d',g1,g2,g3,g4,g5,g6,g7⟩:=ih (i - j) j fuel (swpN (m - i) m j d) (by omega) (by omega) (by omega) h2 (by omega) (by omega) h5 (by rw [swpN_sz]; exact h6) hB
     refine ⟨k,d',by rw [loopN_next h,g1],g2,by omega,g4,by rw [g5,swpN_sz],Sort.permIn_trans _ _ _ a b (swpN_perm (by omega) (by omega) (by omega) (by omega) (by omega)) g6,fun x => ?_⟩
     rw [g7]
     have:=rot_left (m:=m) (i:=i) (j:=j) (d:=d) h4 hl x (swpN (m - i) m j d) (swpN_get (by omega) (by omega) (by omega))
     rw [show m - (i - j)=m - i + j by omega]
     exact this
    ·rw [if_neg hl] at h
     obtain ⟨k,d',g1,g2,g3,g4,g5,g6,g7⟩:=ih i (j - i) fuel (swpN (m - i) (m + j - i) i d) (by omega) (by omega) h1 (by omega) h3 h4 (by omega) (by rw [swpN_sz]; exact h6) hB
     refine ⟨k,d',by rw [loopN_next h,g1],g2,g3,by omega,by rw [g5,swpN_sz],Sort.permIn_trans _ _ _ a b (swpN_perm (by omega) (by omega) (by omega) (by omega) (by omega)) g6,fun x => ?_⟩
     rw [g7]
     have:=rot_right (m:=m) (i:=i) (j:=j) (d:=d) h4 (by omega) x (swpN (m - i) (m + j - i) i d) (swpN_get (by omega) (by omega) (by omega))
     rw [show m + (j - i)=m + j - i by omega]
     exact this
end
end Go.Av
namespace Go.Av
open Go
set_option linter.unusedVariables false
set_option linter.unusedSimpArgs false
section
variable {α:Type} [Inhabited α]
theorem bs_loop {R:Type} {B:Int × Int→Option (Ctl (Int × Int) R)} {P:Nat→Bool} {i0 j0:Nat}:∀ (n i j fuel:Nat),j - i≤n→n < fuel→i0≤i→i≤j→j≤j0→(i=i0∨P (i - 1)=true)→(j=j0∨P j=false) →
  (∀ i j:Nat,i0≤i→i≤j→j≤j0→B ((i:Int),(j:Int))=if i < j then (if P ((i + j) / 2)=true then some (.next ((((i + j) / 2 + 1:Nat):Int),(j:Int))) else some (.next ((i:Int),(((i + j) / 2:Nat):Int)))) else some (.brk ((i:Int),(j:Int)))) →
  ∃ r:Nat,loopN B fuel ((i:Int),(j:Int))=some (.done ((r:Int),(r:Int)))∧i0≤r∧r≤j0∧(r=i0∨P (r - 1)=true)∧(r=j0∨P r=false):=by
 intro n
 induction n with
 | zero =>
  intro i j fuel hn hf h1 h2 h3 h4 h5 hB
  cases fuel with
  | zero=>omega
  | succ fuel =>
   have h:=hB i j h1 h2 h3
   rw [if_neg (by omega)] at h
   have:i=j:=by omega
   subst this
   exact ⟨i,loopN_brk h,h1,h3,h4,h5⟩
 | succ n ih =>
  intro i j fuel hn hf h1 h2 h3 h4 h5 hB
  cases fuel with
  | zero=>omega
  | succ fuel =>
   have h:=hB i j h1 h2 h3
   by_cases hl:i < j
   ·rw [if_pos hl] at h
    by_cases hp:P ((i + j) / 2)=true
    ·rw [if_pos hp] at h
     rw [loopN_next h]
     exact ih _ j fuel (by omega) (by omega) (by omega) (by omega) h3 (.inr (by rw [Nat.add_sub_cancel]; exact hp)) h5 hB
    ·rw [if_neg hp] at h
     rw [loopN_next h]
     exact ih i _ fuel (by omega) (by omega) h1 (by omega) (by omega) h4 (.inr (by simpa using hp)) hB
   ·rw [if_neg hl] at h
    have:i=j:=by omega
    subst this
    exact ⟨i,loopN_brk h,h1,h3,h4,h5⟩
variable {lt : α → α → Bool}
theorem glue2 {a mid b:Nat} {d:Array α} (h1:Sort.SortedIn lt a mid d) (h2:Sort.SortedIn lt mid b d) (hx:∀ x y,a≤x→x < mid→mid≤y→y < b→lt d[y]! d[x]! = false):Sort.SortedIn lt a b d:=by
 intro i j hi hij hj
 by_cases h3:j < mid
 ·exact h1 i j hi hij h3
 ·by_cases h4:mid≤i
  ·exact h2 i j h4 hij hj
  ·exact hx i j hi (by omega) (by omega) hj
theorem rot_cross (hS:Sort.SWO lt) {a m b s e:Nat} {d d' : Array α} (h1:Sort.SortedIn lt a m d) (h2:Sort.SortedIn lt m b d) (hs:a≤s∧s≤m) (he:m≤e∧e≤b) (hr:∀ x,d'[x]! = rotF s m e d x)
  (hA:s=a∨e=b∨lt d[e]! d[s - 1]! = false) (hB:s=m∨e=m∨lt d[e - 1]! d[s]! = true) :
  (∀ x y,a≤x→x < s + (e - m)→s + (e - m)≤y→y < b→lt d'[y]! d'[x]! = false)∧Sort.SortedIn lt a s d' ∧ Sort.SortedIn lt s (s + (e - m)) d' ∧ Sort.SortedIn lt (s + (e - m)) e d' ∧ Sort.SortedIn lt e b d':=by
 -- where each one comes from
 have f1:∀ x,x < s→d'[x]! = d[x]!:=fun x hx=>by rw [hr]; unfold rotF; rw [if_neg (by omega),if_neg (by omega)]
 have f2:∀ x,s≤x→x < s + (e - m)→d'[x]! = d[x - s + m]!:=fun x hx hy=>by rw [hr]; unfold rotF; rw [if_pos (by omega)]
 have f3:∀ x,s + (e - m)≤x→x < e→d'[x]! = d[x - (s + (e - m)) + s]!:=fun x hx hy=>by rw [hr]; unfold rotF; rw [if_neg (by omega),if_pos (by omega)]
 have f4:∀ x,e≤x→d'[x]! = d[x]!:=fun x hx=>by rw [hr]; unfold rotF; rw [if_neg (by omega),if_neg (by omega)]
 have le1:∀ x y,a≤x→x≤y→y < m→lt d[y]! d[x]! = false:=fun x y g1 g2 g3=>by
  by_cases g:x=y
  ·subst g; exact hS.irrefl _
  ·exact h1 x y g1 (by omega) g3
 have le2:∀ x y,m≤x→x≤y→y < b→lt d[y]! d[x]! = false:=fun x y g1 g2 g3=>by
  by_cases g:x=y
  ·subst g; exact hS.irrefl _
  ·exact h2 x y g1 (by omega) g3
 refine ⟨?_,?_,?_,?_,?_⟩
 ·intro x y hx1 hx2 hy1 hy2
  by_cases c1:x < s
  ·rw [f1 x c1]
   by_cases c2:y < e
   ·rw [f3 y hy1 c2]
    exact le1 _ _ hx1 (by omega) (by omega)
   ·rw [f4 y (by omega)]
    rcases hA with h | h | h
    ·omega
    ·omega
    ·exact hS.ntrans _ _ _ (hS.ntrans _ _ _ (le2 e y (by omega) (by omega) hy2) h) (le1 x (s - 1) hx1 (by omega) (by omega))
  ·rw [f2 x (by omega) hx2]
   by_cases c2:y < e
   ·rw [f3 y hy1 c2]
    rcases hB with h | h | h
    ·omega
    ·omega
    ·exact hS.ntrans _ _ _ (hS.ntrans _ _ _ (le1 s _ hs.1 (by omega) (by omega)) (hS.asymm h)) (le2 (x - s + m) (e - 1) (by omega) (by omega) (by omega))
   ·rw [f4 y (by omega)]
    exact le2 _ _ (by omega) (by omega) hy2
 ·intro i j hi hij hj
  rw [f1 i (by omega),f1 j hj]
  exact h1 i j hi hij (by omega)
 ·intro i j hi hij hj
  rw [f2 i hi (by omega),f2 j (by omega) hj]
  exact h2 _ _ (by omega) (by omega) (by omega)
 ·intro i j hi hij hj
  rw [f3 i hi (by omega),f3 j (by omega) hj]
  exact h1 _ _ (by omega) (by omega) (by omega)
 ·intro i j hi hij hj
  rw [f4 i hi,f4 j (by omega)]
  exact h2 i j (by omega) hij hj
structure MergeTo (lt : α → α → Bool) (a b:Nat) (d d' : Array α):Prop where
 perm:Sort.PermIn a b d d'
 sorted:Sort.SortedIn lt a b d'
theorem merge_halves (hS:Sort.SWO lt) {a mid b:Nat} {d d1 d2 d3:Array α} (hab:a≤mid∧mid≤b) (hb:b≤d.size) (hp:Sort.PermIn a b d d1)
  (hx:∀ x y,a≤x→x < mid→mid≤y→y < b→lt d1[y]! d1[x]! = false) (h2:MergeTo lt a mid d1 d2) (h3:MergeTo lt mid b d2 d3):MergeTo lt a b d d3:=by
 have s1:d1.size=d.size:=hp.1
 have s2:d2.size=d1.size:=h2.perm.1
 have p2:Sort.PermIn a b d1 d2:=Sort.permIn_mono _ _ a mid a b (Nat.le_refl _) hab.2 (by omega) h2.perm
 have p3:Sort.PermIn a b d2 d3:=Sort.permIn_mono _ _ mid b a b hab.1 (Nat.le_refl _) (by omega) h3.perm
 refine ⟨Sort.permIn_trans _ _ _ a b hp (Sort.permIn_trans _ _ _ a b p2 p3),glue2 (mid:=mid) ?_ h3.sorted ?_⟩
 ·intro i j hi hij hj
  rw [h3.perm.2.1 i (.inl (by omega)),h3.perm.2.1 j (.inl hj)]
  exact h2.sorted i j hi hij hj
 ·have c1:∀ x y,a≤x→x < mid→mid≤y→y < b→lt d2[y]! d2[x]! = false:=fun x y g1 g2 g3 g4=>by
   rw [h2.perm.2.1 y (.inr g3)]
   exact Sort.permIn_all d1 d2 a mid (fun z=>lt d1[y]! z=false) (by omega) h2.perm (fun i k1 k2=>hx i y k1 k2 g3 g4) x g1 g2
  intro x y g1 g2 g3 g4
  rw [h3.perm.2.1 x (.inl g2)]
  exact Sort.permIn_all d2 d3 mid b (fun z=>lt z d2[x]! = false) (by omega) h3.perm (fun i k1 k2=>c1 x i g1 g2 k1 k2) y g3 g4
theorem merge_self {a b:Nat} {d:Array α} (h:Sort.SortedIn lt a b d):MergeTo lt a b d d:=⟨Sort.permIn_refl d a b,h⟩
theorem sorted_empty {a b:Nat} {d:Array α} (h:b≤a + 1):Sort.SortedIn lt a b d:=fun i j h1 h2 h3=>by omega
end
end Go.Av
namespace Go.Av
open Go
set_option linter.unusedVariables false
set_option linter.unusedSimpArgs false
section
variable {α:Type} [Inhabited α] {cmp : α → α → Option Int} {c : α → α → Int}
def ltC (c : α → α → Int) (x y : α):Bool:=decide (c x y < 0)
theorem insInnerG {a fuel:Nat} {B:Int × List α → Option (Ctl (Int × List α) Empty)} {j:Nat} {d:Array α} (hj:j < d.size) (hf:j < fuel)
  (hB:∀ (j:Nat) (d' : Array α),j < d'.size→d'.size=d.size→B ((j:Int),d'.toList)=if a < j∧ltC c d'[j]! d'[j - 1]! = true then some (.next (((j - 1:Nat):Int),(Sort.swp d' j (j - 1)).toList)) else some (.brk ((j:Int),d'.toList))) :
  ∃ x:Int,loopN B fuel ((j:Int),d.toList)=some (.done (x,(Sort.insInner (ltC c) a j d).toList)):=by
 induction j generalizing d fuel with
 | zero =>
  cases fuel with
  | zero=>omega
  | succ fuel =>
   refine ⟨0,loopN_brk (s':=(((0:Nat):Int),d.toList)) ?_⟩
   rw [hB 0 d hj rfl,if_neg (by omega)]
 | succ j ih =>
  cases fuel with
  | zero=>omega
  | succ fuel =>
   have h:=hB (j + 1) d hj rfl
   rw [Nat.add_sub_cancel] at h
   unfold Sort.insInner
   by_cases hc:a < j + 1∧ltC c d[j + 1]! d[j]! = true
   ·rw [if_pos hc] at h
    rw [loopN_next h,if_pos (by simp [hc.1,hc.2])]
    exact ih (by rw [swp_sz]; omega) (by omega) (fun k d' h1 h2=>hB k d' h1 (by rw [h2,swp_sz]))
   ·rw [if_neg hc] at h
    rw [loopN_brk h,if_neg (by simpa using hc)]
    exact ⟨_,rfl⟩
theorem insOuterG {a b fuel:Nat} {B:Int × List α → Option (Ctl (Int × List α) Empty)} {n i:Nat} {d:Array α} (hn:b - i=n) (hb:b≤d.size) (hf:b - i < fuel)
  (hB:∀ (i:Nat) (d' : Array α),d'.size=d.size→B ((i:Int),d'.toList)=if i < b then some (.next (((i + 1:Nat):Int),(Sort.insInner (ltC c) a i d').toList)) else some (.brk ((i:Int),d'.toList)))
  (hs:∀ (i:Nat) (d' : Array α),(Sort.insInner (ltC c) a i d').size=d'.size) :
  ∃ x:Int,loopN B fuel ((i:Int),d.toList)=some (.done (x,(Sort.insOuter (ltC c) a b i d).toList)):=by
 induction n generalizing i d fuel with
 | zero =>
  cases fuel with
  | zero=>omega
  | succ fuel =>
   have h:=hB i d rfl
   rw [if_neg (by omega)] at h
   rw [loopN_brk h,Sort.insOuter,if_neg (by omega)]
   exact ⟨_,rfl⟩
 | succ n ih =>
  cases fuel with
  | zero=>omega
  | succ fuel =>
   have h:=hB i d rfl
   rw [if_pos (by omega)] at h
   rw [loopN_next h,Sort.insOuter,if_pos (by omega)]
   exact ih (by omega) (by rw [hs]; omega) (by omega) (fun k d' h1=>hB k d' (by rw [h1,hs]))
theorem insInner_szG (a:Nat):∀ (j:Nat) (d:Array α),(Sort.insInner (ltC c) a j d).size=d.size
 | 0,d=>rfl
 | j + 1,d=>by
  unfold Sort.insInner
  split
  ·rw [insInner_szG a j,swp_sz]
  ·rfl
theorem insG_eq (hc:∀ x y,cmp x y=some (c x y)) {fuel a b:Nat} {d:Array α} (hb:b≤d.size) (hd:d.size < 4611686018427387904) (ha:a < 4611686018427387903) (hf:d.size < fuel) :
  insG cmp fuel (a:Int) (b:Int) d.toList=some (Sort.insertionSort (ltC c) d a b).toList:=by
 unfold insG Sort.insertionSort
 rw [wadd1 (by omega)]
 refine outK_ex (insOuterG (c:=c) (a:=a) (b:=b) (i:=a + 1) (d:=d) rfl hb (by omega) ?_ (insInner_szG a)) (fun x=>rfl)
 intro i d' hd'
 simp only [bf_decide,intlt]
 by_cases hi:i < b
 ·rw [if_pos hi,if_pos hi]
  refine outK_ex (insInnerG (c:=c) (a:=a) (j:=i) (d:=d') (by omega) (by omega) ?_) (fun x => ?_)
  ·intro j e hj he
   simp only [jn_eq,bf_decide,intlt]
   by_cases h1:a < j
   ·simp (disch:=omega) only [h1,if_true,wsub1,need_true,Int.toNat_natCast,Nat.zero_add,Array.length_toList,List.length_set,hc,Option.bind_some,arr_get,arr_swp,true_and]
    unfold ltC
    by_cases h2:c e[j]! e[j - 1]! < 0
    ·simp [h2]
    ·simp [h2]
   ·rw [if_neg h1,if_neg (fun h=>h1 h.1)]
    rfl
  ·rw [wadd1 (by omega)]
 ·rw [if_neg hi,if_neg hi]
theorem swapG_eq {fuel p q n:Nat} {d:Array α} (hp:p + n≤d.size) (hq:q + n≤d.size) (hd:d.size < 4611686018427387904) (hf:d.size < fuel) :
  swapG fuel (p:Int) (q:Int) (n:Int) d.toList=some (swpN p q n d).toList:=by
 unfold swapG
 refine outK_ex (swpN_loop (p:=p) (q:=q) (n:=n) (d:=d) (by omega) ?_) (fun x=>rfl)
 intro i d' hd' hi
 simp only [bf_decide,intlt]
 by_cases h:i < n
 ·rw [if_pos h,if_pos h]
  simp (disch:=omega) only [wadd,wadd1,need_true,Int.toNat_natCast,Nat.zero_add,Array.length_toList,List.length_set,arr_get,arr_swp]
 ·rw [if_neg h,if_neg h]
theorem rotG_eq {fuel s m e:Nat} {d:Array α} (h1:s < m) (h2:m < e) (he:e≤d.size) (hd:d.size < 4611686018427387904) (hf:d.size < fuel) :
  ∃ d' : Array α,rotG fuel (s:Int) (m:Int) (e:Int) d.toList=some d'.toList∧RotTo s m e d d':=by
 obtain ⟨k,d1,g1,g2,g3,g4,g5,g6,g7⟩:=rot_loop (R:=Empty) (m:=m) (a:=s) (b:=e) (d0:=d) he (m - s + (e - m)) (m - s) (e - m) fuel d (Nat.le_refl _) (by omega) (by omega) (by omega) (by omega) (by omega) (by omega) rfl
  (B:=fun (a1:Int × Int × (List α))=>bf (!decide (a1.1=a1.2.1)) (bf (decide (a1.2.1 < a1.1)) ((swapG fuel (IntKind.i64.wrap ((m:Int) - a1.1)) (m:Int) a1.2.1 a1.2.2).bind fun r4=>need (r4.length=a1.2.2.length) <| some (.next ((IntKind.i64.wrap (a1.1 - a1.2.1)),a1.2.1,r4))) ((swapG fuel (IntKind.i64.wrap ((m:Int) - a1.1)) (IntKind.i64.wrap ((IntKind.i64.wrap ((m:Int) + a1.2.1)) - a1.1)) a1.1 a1.2.2).bind fun r6=>need (r6.length=a1.2.2.length) <| some (.next (a1.1,(IntKind.i64.wrap (a1.2.1 - a1.1)),r6)))) (some (.brk (a1.1,a1.2.1,a1.2.2))))
  (by
   intro i j d' hs hi hj him hjb
   simp only [bf_not,bf_decide,intlt]
   by_cases h:i=j
   ·subst h
    rw [if_pos rfl,if_pos rfl]
   ·rw [if_neg (by omega),if_neg h]
    by_cases h3:j < i
    ·rw [if_pos h3,if_pos h3]
     rw [wsub (by omega) (by omega),wsub (by omega) (by omega),swapG_eq (by omega) (by omega) (by omega) (by omega)]
     simp only [Option.bind_some]
     rw [need_true (by simp [swpN_sz])]
    ·rw [if_neg h3,if_neg h3]
     rw [wsub (by omega) (by omega),wadd (by omega),wsub (by omega) (by omega),wsub (by omega) (by omega),swapG_eq (by omega) (by omega) (by omega) (by omega)]
     simp only [Option.bind_some]
     rw [need_true (by simp [swpN_sz])])
 refine ⟨swpN (m - k) m k d1,?_,Sort.permIn_trans _ _ _ s e g6 (swpN_perm (by omega) (by omega) (by omega) (by omega) (by omega)),fun x => ?_⟩
 ·unfold rotG
  rw [wsub (by omega) (by omega),wsub (by omega) (by omega)]
  rw [g1]
  simp only [outK_done]
  rw [wsub (by omega) (by omega),swapG_eq (by omega) (by omega) (by omega) (by omega)]
  rfl
 ·rw [swpN_get (by omega) (by omega) (by omega),rot_last (by omega),g7]
  congr 1 <;> omega
end
end Go.Av
namespace Go.Av
open Go
set_option linter.unusedVariables false
set_option linter.unusedSimpArgs false
section
variable {α:Type} [Inhabited α] {cmp : α → α → Option Int} {c : α → α → Int}
theorem half_eq {x y:Nat} (h:x + y < 4611686018427387904):IntKind.i64.wrap (shrOp .u64 (IntKind.u64.wrap (IntKind.i64.wrap ((x:Int) + (y:Int)))) 1)=(((x + y) / 2:Nat):Int):=by
 rw [wadd h,wrap_u64,Int.emod_eq_of_lt (by omega) (by omega),show (1:Int)=((1:Nat):Int) from rfl,shr_nat .u64 (x + y) 1 (by decide),wrap_small (by omega) (by omega)]
def shR (a:Nat):Nat→Array α → Array α
 | 0,d=>d
 | k + 1,d=>Sort.swp (shR a k d) (a + k) (a + k + 1)
def shL (m:Nat):Nat→Array α → Array α
 | 0,d=>d
 | k + 1,d=>Sort.swp (shL m k d) (m - k) (m - k - 1)
theorem shR_sz (a:Nat):∀ (k:Nat) (d:Array α),(shR a k d).size=d.size
 | 0,d=>rfl
 | k + 1,d=>by unfold shR; rw [swp_sz,shR_sz a k]
theorem shL_sz (m:Nat):∀ (k:Nat) (d:Array α),(shL m k d).size=d.size
 | 0,d=>rfl
 | k + 1,d=>by unfold shL; rw [swp_sz,shL_sz m k]
theorem shR_get {a:Nat} {d:Array α}:∀ {k:Nat},a + k < d.size→∀ x,(shR a k d)[x]! = rotF a (a + 1) (a + 1 + k) d x
 | 0,h,x=>by
  unfold shR rotF
  repeat' split
  all_goals first | omega | rfl | (congr 1; omega)
 | k + 1,h,x=>by
  have ih:=shR_get (a:=a) (d:=d) (k:=k) (by omega)
  unfold shR
  rw [swp_at _ (by rw [shR_sz]; omega) (by rw [shR_sz]; omega),ih,ih,ih]
  unfold rotF
  repeat' split
  all_goals first | omega | rfl | (congr 1; omega)
theorem shL_get {m:Nat} {d:Array α} (hm:m < d.size):∀ {k:Nat},k≤m→∀ x,(shL m k d)[x]! = rotF (m - k) m (m + 1) d x
 | 0,h,x=>by
  unfold shL rotF
  repeat' split
  all_goals first | omega | rfl | (congr 1; omega)
 | k + 1,h,x=>by
  have ih:=shL_get (m:=m) (d:=d) hm (k:=k) (by omega)
  unfold shL
  rw [swp_at _ (by rw [shL_sz]; omega) (by rw [shL_sz]; omega),ih,ih,ih]
  unfold rotF
  repeat' split
  all_goals first | omega | rfl | (congr 1; omega)
theorem shR_perm {a b:Nat} {d:Array α} (hb:b≤d.size):∀ {k:Nat},a + k < b→Sort.PermIn a b d (shR a k d)
 | 0,_=>Sort.permIn_refl d a b
 | k + 1,h=>by
  unfold shR
  exact Sort.permIn_trans _ _ _ a b (shR_perm hb (by omega)) (Sort.swp_permIn _ a b _ _ (by omega) (by omega) (by omega) (by omega) (by rw [shR_sz]; exact hb))
theorem shL_perm {a m b:Nat} {d:Array α} (hb:b≤d.size) (hm:m < b):∀ {k:Nat},a + k≤m→Sort.PermIn a b d (shL m k d)
 | 0,_=>Sort.permIn_refl d a b
 | k + 1,h=>by
  unfold shL
  exact Sort.permIn_trans _ _ _ a b (shL_perm hb hm (by omega)) (Sort.swp_permIn _ a b _ _ (by omega) (by omega) (by omega) (by omega) (by rw [shL_sz]; exact hb))
theorem shR_loop {R:Type} {B:Int × List α → Option (Ctl (Int × List α) R)} {a n fuel:Nat} {d:Array α} (hf:n < fuel)
  (hB:∀ (i:Nat) (d' : Array α),d'.size=d.size→i≤n→B (((a + i:Nat):Int),d'.toList)=if i < n then some (.next (((a + i + 1:Nat):Int),(Sort.swp d' (a + i) (a + i + 1)).toList)) else some (.brk (((a + i:Nat):Int),d'.toList))) :
  ∃ x:Int,loopN B fuel ((a:Int),d.toList)=some (.done (x,(shR a n d).toList)):=by
 have key:∀ k i fuel,i + k=n→k < fuel→∃ x:Int,loopN B fuel (((a + i:Nat):Int),(shR a i d).toList)=some (.done (x,(shR a n d).toList)):=by
  intro k
  induction k with
  | zero =>
   intro i fuel hi hf
   cases fuel with
   | zero=>omega
   | succ fuel =>
    have h:=hB i (shR a i d) (shR_sz ..) (by omega)
    rw [if_neg (by omega)] at h
    rw [loopN_brk h,show i=n by omega]
    exact ⟨_,rfl⟩
  | succ k ih =>
   intro i fuel hi hf
   cases fuel with
   | zero=>omega
   | succ fuel =>
    have h:=hB i (shR a i d) (shR_sz ..) (by omega)
    rw [if_pos (by omega)] at h
    rw [loopN_next h]
    exact ih (i + 1) fuel (by omega) (by omega)
 exact key n 0 fuel (by omega) hf
theorem shL_loop {R:Type} {B:Int × List α → Option (Ctl (Int × List α) R)} {m n fuel:Nat} {d:Array α} (hn:n≤m) (hf:n < fuel)
  (hB:∀ (i:Nat) (d' : Array α),d'.size=d.size→i≤n→B (((m - i:Nat):Int),d'.toList)=if i < n then some (.next (((m - i - 1:Nat):Int),(Sort.swp d' (m - i) (m - i - 1)).toList)) else some (.brk (((m - i:Nat):Int),d'.toList))) :
  ∃ x:Int,loopN B fuel ((m:Int),d.toList)=some (.done (x,(shL m n d).toList)):=by
 have key:∀ k i fuel,i + k=n→k < fuel→∃ x:Int,loopN B fuel (((m - i:Nat):Int),(shL m i d).toList)=some (.done (x,(shL m n d).toList)):=by
  intro k
  induction k with
  | zero =>
   intro i fuel hi hf
   cases fuel with
   | zero=>omega
   | succ fuel =>
    have h:=hB i (shL m i d) (shL_sz ..) (by omega)
    rw [if_neg (by omega)] at h
    rw [loopN_brk h,show i=n by omega]
    exact ⟨_,rfl⟩
  | succ k ih =>
   intro i fuel hi hf
   cases fuel with
   | zero=>omega
   | succ fuel =>
    have h:=hB i (shL m i d) (shL_sz ..) (by omega)
    rw [if_pos (by omega)] at h
    rw [loopN_next h]
    have:=ih (i + 1) fuel (by omega) (by omega)
    rwa [show m - (i + 1)=m - i - 1 by omega] at this
 exact key n 0 fuel (by omega) hf
omit [Inhabited α] in
theorem swo_of (h:IsCmp c):Sort.SWO (ltC c) where
 irrefl x:=by unfold ltC; rw [h.refl]; rfl
 trans x y z h1 h2:=by
  unfold ltC at *
  simp only [decide_eq_true_eq] at *
  exact h.lt_tr h1 (by omega)
 ntrans x y z h1 h2:=by
  unfold ltC at *
  simp only [decide_eq_false_iff_not,Int.not_lt] at *
  have a1:=h.anti x y; have a2:=h.anti y z; have a3:=h.anti x z
  by_cases g:0≤c x z
  ·exact g
  ·exfalso
   have:=h.lt_tr (a:=x) (b:=z) (d:=y) (by omega) (by omega)
   omega
end
end Go.Av
namespace Go.Av
open Go
set_option linter.unusedVariables false
set_option linter.unusedSimpArgs false
section
variable {α:Type} [Inhabited α] {cmp : α → α → Option Int} {c : α → α → Int}
theorem merge_r1 {lt : α → α → Bool} (hS:Sort.SWO lt) {a b r:Nat} {d:Array α} (hr:a + 1≤r∧r≤b) (hb:b≤d.size) (h2:Sort.SortedIn lt (a + 1) b d)
  (hA:r=a + 1∨lt d[r - 1]! d[a]! = true) (hB:r=b∨lt d[r]! d[a]! = false):MergeTo lt a b d (shR a (r - (a + 1)) d):=by
 have hg:∀ x,(shR a (r - (a + 1)) d)[x]! = rotF a (a + 1) r d x:=fun x=>by
  rw [shR_get (by omega),show a + 1 + (r - (a + 1))=r by omega]
 obtain ⟨h3,_,h5,h6,h7⟩:=rot_cross hS (d':=shR a (r - (a + 1)) d) (a:=a) (m:=a + 1) (b:=b) (s:=a) (e:=r) (sorted_empty (by omega)) h2 ⟨by omega,by omega⟩ hr hg (.inl rfl) (.inr hA)
 refine ⟨shR_perm hb (by omega),glue2 (mid:=a + (r - (a + 1))) h5 (glue2 (mid:=r) h6 h7 ?_) h3⟩
 intro x y g1 g2 g3 g4
 rw [hg,hg,show x=r - 1 by omega]
 unfold rotF
 rw [if_neg (by omega),if_neg (by omega),if_neg (by omega),if_pos (by omega)]
 rw [show r - 1 - (a + (r - (a + 1))) + a=a by omega]
 rcases hB with h | h
 ·omega
 ·by_cases e:y=r
  ·subst e; exact h
  ·exact hS.ntrans _ _ _ (h2 r y (by omega) (by omega) g4) h
theorem merge_l1 {lt : α → α → Bool} (hS : Sort.SWO lt) {a m r : Nat} {d : Array α} (hr : a ≤ r ∧ r ≤ m) (hb : m + 1 ≤ d.size) (h1 : Sort.SortedIn lt a m d)
    (hA : r = a ∨ lt d[m]! d[r - 1]! = false) (hB : r = m ∨ lt d[m]! d[r]! = true) : MergeTo lt a (m + 1) d (shL m (m - r) d) := by
  have hg : ∀ x, (shL m (m - r) d)[x]! = rotF r m (m + 1) d x := fun x => by
    rw [shL_get (by omega) (by omega), show m - (m - r) = r by omega]
  obtain ⟨h3, h4, h5, h6, h7⟩ := rot_cross hS (d' := shL m (m - r) d) (a := a) (m := m) (b := m + 1) (s := r) (e := m + 1) h1 (sorted_empty (by omega)) hr ⟨by omega, by omega⟩ hg (.inr (.inl rfl))
    (by rcases hB with h | h
        · exact .inl h
        · exact .inr (.inr (by rw [Nat.add_sub_cancel]; exact h)))
  refine ⟨shL_perm hb (by omega) (by omega), glue2 (mid := r + (m + 1 - m)) (glue2 (mid := r) h4 h5 ?_) h6 h3⟩
  intro x y g1 g2 g3 g4
  rw [hg, hg, show y = r by omega]
  unfold rotF
  rw [if_pos (by omega), if_neg (by omega), if_neg (by omega)]
  rw [show r - r + m = m by omega]
  rcases hA with h | h
  · omega
  · by_cases e : x = r - 1
    · subst e; exact h
    · exact hS.ntrans _ _ _ h (h1 x (r - 1) g1 (by omega) (by omega))
theorem outK_P {S R Q:Type} {G:Option Q→Prop} {P:S→Prop} {o:Option (Out S R)} {kn:S→Option Q} {kr:R→Option Q} (h:∃ s,o=some (.done s)∧P s) (hk:∀ s,P s→G (kn s)):G (outK o kn kr):=by
 obtain ⟨s,h,hp⟩:=h
 rw [h]
 exact hk s hp
theorem bs_ex {R:Type} {B:Int × Int→Option (Ctl (Int × Int) R)} {P:Nat→Bool} {Q:Int × Int→Prop} {i0 j0 fuel:Nat} (hf:j0 - i0 < fuel) (hij:i0≤j0)
  (hQ:∀ r:Nat,i0≤r→r≤j0→(r=i0∨P (r - 1)=true)→(r=j0∨P r=false)→Q ((r:Int),(r:Int)))
  (hB:∀ i j:Nat,i0≤i→i≤j→j≤j0→B ((i:Int),(j:Int))=if i < j then (if P ((i + j) / 2)=true then some (.next ((((i + j) / 2 + 1:Nat):Int),(j:Int))) else some (.next ((i:Int),(((i + j) / 2:Nat):Int)))) else some (.brk ((i:Int),(j:Int)))) :
  ∃ s,loopN B fuel ((i0:Int),(j0:Int))=some (.done s)∧Q s:=by
 obtain ⟨r,g1,g2,g3,g4,g5⟩:=bs_loop (P:=P) (j0 - i0) i0 j0 fuel (Nat.le_refl _) hf (Nat.le_refl _) hij (Nat.le_refl _) (.inl rfl) (.inl rfl) hB
 exact ⟨_,g1,hQ r g2 g3 g4 g5⟩
theorem jn_P {A Q:Type} {G:Option Q→Prop} {P:A→Prop} {K:A→Option Q} {f:(A→Option Q)→Option Q} (hK:∀ a,P a→G (K a)) (hf:∃ a,P a∧f K=K a):G (jn K f):=by
 obtain ⟨a,h1,h2⟩:=hf
 rw [jn_eq,h2]
 exact hK a h1
theorem symG_ok (hc:∀ x y,cmp x y=some (c x y)) (hC:IsCmp c):∀ (fuel a m b:Nat) (d:Array α),a < m→m < b→b≤d.size→d.size < 1152921504606846976→d.size + (b - a) < fuel →
  Sort.SortedIn (ltC c) a m d→Sort.SortedIn (ltC c) m b d→∃ d' : Array α,symG cmp fuel (a:Int) (m:Int) (b:Int) d.toList=some d'.toList∧MergeTo (ltC c) a b d d'
 | 0,a,m,b,d,_,_,_,_,hf,_,_=>by omega
 | fuel + 1,a,m,b,d,ham,hmb,hb,hd,hf,h1,h2=>by
  have hS:=swo_of hC
  unfold symG
  simp only [bf_decide]
  rw [wsub (by omega) (by omega),wsub (by omega) (by omega)]
  by_cases c1:m - a=1
  ·rw [if_pos (by omega)]
   have hm:m=a + 1:=by omega
   subst hm
   refine outK_P (G:=fun q=>∃ d' : Array α,q=some d'.toList∧MergeTo (ltC c) a b d d') (P:=fun s=>∃ r:Nat,s=((r:Int),(r:Int))∧a + 1≤r∧r≤b∧(r=a + 1∨ltC c d[r - 1]! d[a]! = true)∧(r=b∨ltC c d[r]! d[a]! = false)) ?_ ?_
   ·refine bs_ex (P:=fun h=>ltC c d[h]! d[a]!) (by omega) (by omega) (fun r g2 g3 g4 g5=>⟨r,rfl,g2,g3,g4,g5⟩) ?_
    intro i j hi hij hj
    simp only [bf_decide,intlt]
    rw [half_eq (by omega)]
    by_cases h:i < j
    ·rw [if_pos h,if_pos h]
     simp (disch:=omega) only [need_true,wadd1,Int.toNat_natCast,Nat.zero_add,Array.length_toList,hc,Option.bind_some,arr_get]
     unfold ltC
     by_cases g:c d[(i + j) / 2]! d[a]! < 0 <;> simp [g]
    ·rw [if_neg h,if_neg h]
   ·rintro s ⟨r,rfl,g2,g3,g4,g5⟩
    simp only
    rw [wsub1 (by omega) (by omega)]
    refine ⟨shR a (r - (a + 1)) d,outK_ex (shR_loop (a:=a) (n:=r - (a + 1)) (by omega) ?_) (fun x=>rfl),merge_r1 hS ⟨g2,g3⟩ hb h2 g4 g5⟩
    intro i d' hs hi
    simp only [bf_decide,intlt]
    by_cases h:i < r - (a + 1)
    ·rw [if_pos (by omega),if_pos h]
     simp (disch:=omega) only [need_true,wadd1,Int.toNat_natCast,Nat.zero_add,Array.length_toList,List.length_set,arr_get,arr_swp]
    ·rw [if_neg (by omega),if_neg h]
  ·rw [if_neg (by omega)]
   by_cases c2:b - m=1
   ·rw [if_pos (by omega)]
    have hbm:b=m + 1:=by omega
    subst hbm
    refine outK_P (G:=fun q=>∃ d' : Array α,q=some d'.toList∧MergeTo (ltC c) a (m + 1) d d') (P:=fun s=>∃ r:Nat,s=((r:Int),(r:Int))∧a≤r∧r≤m∧(r=a∨ltC c d[m]! d[r - 1]! = false)∧(r=m∨ltC c d[m]! d[r]! = true)) ?_ ?_
    ·refine bs_ex (P:=fun h => !ltC c d[m]! d[h]!) (by omega) (by omega) (fun r g2 g3 g4 g5=>⟨r,rfl,g2,g3,by simpa using g4,by simpa using g5⟩) ?_
     intro i j hi hij hj
     simp only [bf_decide,bf_not,intlt]
     rw [half_eq (by omega)]
     by_cases h:i < j
     ·rw [if_pos h,if_pos h]
      simp (disch:=omega) only [need_true,wadd1,Int.toNat_natCast,Nat.zero_add,Array.length_toList,hc,Option.bind_some,arr_get]
      unfold ltC
      by_cases g:c d[m]! d[(i + j) / 2]! < 0 <;> simp [g]
     ·rw [if_neg h,if_neg h]
    ·rintro s ⟨r,rfl,g2,g3,g4,g5⟩
     simp only
     refine ⟨shL m (m - r) d,outK_ex (shL_loop (m:=m) (n:=m - r) (by omega) (by omega) ?_) (fun x=>rfl),merge_l1 hS ⟨g2,g3⟩ hb h1 g4 g5⟩
     intro i d' hs hi
     simp only [bf_decide,intlt]
     by_cases h:i < m - r
     ·rw [if_pos (by omega),if_pos h]
      simp (disch:=omega) only [need_true,wsub1,Int.toNat_natCast,Nat.zero_add,Array.length_toList,List.length_set,arr_get,arr_swp]
     ·rw [if_neg (by omega),if_neg h]
   ·rw [if_neg (by omega)]
    rw [half_eq (by omega),wadd (by omega)]
    let G:Option (List α)→Prop:=fun q=>∃ d' : Array α,q=some d'.toList∧MergeTo (ltC c) a b d d'
    refine jn_P (G:=G) (P:=fun x=>∃ st r0:Nat,x=((((a + b) / 2:Nat):Int),(((a + b) / 2 + m:Nat):Int),(st:Int),(r0:Int))∧a≤st∧st≤r0∧r0≤m∧r0≤(a + b) / 2 + m - m∧(st=a∨(a + b) / 2 + m - st=b)∧(a + b) / 2 + m - st≤b∧(r0=m∨r0=(a + b) / 2)) ?_ ?_
    ·rintro _ ⟨st,r0,rfl,k1,k2,k3,k4,k5,k6,k7⟩
     refine outK_P (G:=G) (P:=fun s=>∃ r:Nat,s=((r:Int),(r:Int))∧st≤r∧r≤r0∧(r=st∨ltC c d[(a + b) / 2 + m - r]! d[r - 1]! = false)∧(r=r0∨ltC c d[(a + b) / 2 + m - r - 1]! d[r]! = true)) ?_ ?_
     ·refine bs_ex (P:=fun h => !ltC c d[(a + b) / 2 + m - 1 - h]! d[h]!) (by omega) (by omega) (fun r g2 g3 g4 g5=>⟨r,rfl,g2,g3,?_,?_⟩) ?_
      ·rcases g4 with g4 | g4
       ·exact .inl g4
       ·by_cases e:r=st
        ·exact .inl e
        ·right
         rw [show (a + b) / 2 + m - 1 - (r - 1)=(a + b) / 2 + m - r by omega] at g4
         simpa using g4
      ·rcases g5 with g5 | g5
       ·exact .inl g5
       ·right
        rw [show (a + b) / 2 + m - 1 - r=(a + b) / 2 + m - r - 1 by omega] at g5
        simpa using g5
      ·intro i j hi hij hj
       simp only [bf_decide,bf_not,intlt]
       rw [half_eq (by omega),wsub1 (by omega) (by omega)]
       by_cases h:i < j
       ·rw [if_pos h,if_pos h,wsub (by omega) (by omega)]
        simp (disch:=omega) only [need_true,wadd1,Int.toNat_natCast,Nat.zero_add,Array.length_toList,hc,Option.bind_some,arr_get]
        unfold ltC
        by_cases g:c d[(a + b) / 2 + m - 1 - (i + j) / 2]! d[(i + j) / 2]! < 0 <;> simp [g]
       ·rw [if_neg h,if_neg h]
     ·rintro s ⟨r,rfl,g2,g3,g4,g5⟩
      simp only
      rw [wsub (by omega) (by omega)]
      have hmid:r + ((a + b) / 2 + m - r - m)=(a + b) / 2:=by omega
      refine jn_P (G:=G) (P:=fun x=>∃ d1:Array α,x=((((a + b) / 2 + m - r:Nat):Int),d1.toList)∧Sort.PermIn a b d d1∧∀ x,d1[x]! = rotF r m ((a + b) / 2 + m - r) d x) ?_ ?_
      ·rintro _ ⟨d1,rfl,p1,p2⟩
       obtain ⟨q1,q2,q3,q4,q5⟩:=rot_cross hS h1 h2 ⟨by omega,by omega⟩ ⟨by omega,by omega⟩ p2 (by
        rcases g4 with g | g
        ·rcases k5 with k | k
         ·exact .inl (by omega)
         ·exact .inr (.inl (by omega))
        ·exact .inr (.inr g)) (by
        rcases g5 with g | g
        ·rcases k7 with k | k
         ·exact .inl (by omega)
         ·exact .inr (.inl (by omega))
        ·exact .inr (.inr g))
       rw [hmid] at q1 q3 q4
       have s1:d1.size=d.size:=p1.1
       refine jn_P (G:=G) (P:=fun x=>∃ d2:Array α,x=d2.toList∧MergeTo (ltC c) a ((a + b) / 2) d1 d2) ?_ ?_
       ·rintro _ ⟨d2,rfl,m1⟩
        have s2:d2.size=d1.size:=m1.perm.1
        have e1:Sort.SortedIn (ltC c) ((a + b) / 2) ((a + b) / 2 + m - r) d2:=fun i j h1 h2 h3=>by
         rw [m1.perm.2.1 i (.inr (by omega)),m1.perm.2.1 j (.inr (by omega))]; exact q4 i j h1 h2 h3
        have e2:Sort.SortedIn (ltC c) ((a + b) / 2 + m - r) b d2:=fun i j h1 h2 h3=>by
         rw [m1.perm.2.1 i (.inr (by omega)),m1.perm.2.1 j (.inr (by omega))]; exact q5 i j h1 h2 h3
        have fin:∀ d3:Array α,MergeTo (ltC c) ((a + b) / 2) b d2 d3→MergeTo (ltC c) a b d d3:=fun d3 m3=>merge_halves hS ⟨by omega,by omega⟩ hb p1 q1 m1 m3
        simp only [jn_eq,bf_decide,intlt]
        by_cases w1:(a + b) / 2 < (a + b) / 2 + m - r
        ·by_cases w2:(a + b) / 2 + m - r < b
         ·rw [if_pos w1,if_pos w2]
          obtain ⟨d3,t1,t2⟩:=symG_ok hc hC fuel ((a + b) / 2) ((a + b) / 2 + m - r) b d2 w1 w2 (by omega) (by omega) (by omega) e1 e2
          rw [t1]
          exact ⟨d3,rfl,fin d3 t2⟩
         ·rw [if_pos w1,if_neg w2]
          rw [show (a + b) / 2 + m - r=b by omega] at e1
          exact ⟨d2,rfl,fin d2 (merge_self e1)⟩
        ·rw [if_neg w1,bf_false]
         rw [show (a + b) / 2 + m - r=(a + b) / 2 by omega] at e2
         exact ⟨d2,rfl,fin d2 (merge_self e2)⟩
       ·simp only [jn_eq,bf_decide,intlt]
        by_cases w1:a < r
        ·by_cases w2:r < (a + b) / 2
         ·rw [if_pos w1,if_pos w2]
          obtain ⟨d3,t1,t2⟩:=symG_ok hc hC fuel a r ((a + b) / 2) d1 w1 w2 (by omega) (by omega) (by omega) q2 q3
          refine ⟨_,⟨d3,rfl,t2⟩,?_⟩
          rw [t1]
          simp only [Option.bind_some]
          rw [need_true (by have:=t2.perm.1; simp only [Array.length_toList]; omega)]
         ·rw [if_pos w1,if_neg w2]
          rw [show r=(a + b) / 2 by omega] at q2
          exact ⟨_,⟨d1,rfl,merge_self q2⟩,rfl⟩
        ·rw [if_neg w1,bf_false]
         rw [show r=a by omega] at q3
         exact ⟨_,⟨d1,rfl,merge_self q3⟩,rfl⟩
      ·simp only [jn_eq,bf_decide,intlt]
       by_cases w1:r < m
       ·by_cases w2:m < (a + b) / 2 + m - r
        ·obtain ⟨d1,t1,t2⟩:=rotG_eq (fuel:=fuel) (s:=r) (m:=m) (e:=(a + b) / 2 + m - r) (d:=d) w1 w2 (by omega) (by omega) (by omega)
         refine ⟨_,⟨d1,rfl,Sort.permIn_mono _ _ _ _ a b (by omega) (by omega) hb t2.perm,t2.get⟩,?_⟩
         rw [if_pos w1,if_pos w2,t1,Option.bind_some]
         rw [need_true (by have:=t2.perm.1; simp only [Array.length_toList]; omega)]
         simp only [intlt]
        ·rw [if_pos w1,if_neg w2]
         refine ⟨_,⟨d,rfl,Sort.permIn_refl d a b,fun x => ?_⟩,by simp only [intlt]⟩
         unfold rotF
         repeat' split
         all_goals first | omega | rfl | (congr 1; omega)
       ·rw [if_neg w1,bf_false]
        refine ⟨_,⟨d,rfl,Sort.permIn_refl d a b,fun x => ?_⟩,by simp only [intlt]⟩
        unfold rotF
        repeat' split
        all_goals first | omega | rfl | (congr 1; omega)
    ·simp only [bf_decide,intlt]
     by_cases w:(a + b) / 2 < m
     ·rw [if_pos w,wsub (by omega) (by omega)]
      exact ⟨_,⟨(a + b) / 2 + m - b,(a + b) / 2,rfl,by omega,by omega,by omega,by omega,by omega,by omega,.inr rfl⟩,rfl⟩
     ·rw [if_neg w]
      exact ⟨_,⟨a,m,rfl,by omega,by omega,by omega,by omega,.inl rfl,by omega,.inl rfl⟩,rfl⟩
end
end Go.Av
namespace Go.Av
open Go
set_option linter.unusedVariables false
set_option linter.unusedSimpArgs false
section
variable {α:Type} [Inhabited α] {cmp : α → α → Option Int} {c : α → α → Int}
theorem loopN_iter {S R:Type} {B:S→Option (Ctl S R)} (I:Nat→S→Prop) (Dn:S→Prop) {n fuel:Nat} {s:S} (hf:n < fuel) (h0:I 0 s)
  (h:∀ i s,I i s→(∃ s',B s=some (.next s')∧I (i + 1) s' ∧ i < n)∨(∃ s',B s=some (.brk s')∧Dn s')):∃ s',loopN B fuel s=some (.done s')∧Dn s':=by
 have key:∀ k i s fuel,i + k=n→k < fuel→I i s→∃ s',loopN B fuel s=some (.done s')∧Dn s':=by
  intro k
  induction k with
  | zero =>
   intro i s fuel hi hf hI
   cases fuel with
   | zero=>omega
   | succ fuel =>
    rcases h i s hI with ⟨s',_,_,g⟩ | ⟨s',g1,g2⟩
    ·omega
    ·exact ⟨s',loopN_brk g1,g2⟩
  | succ k ih =>
   intro i s fuel hi hf hI
   cases fuel with
   | zero=>omega
   | succ fuel =>
    rcases h i s hI with ⟨s',g1,g2,g⟩ | ⟨s',g1,g2⟩
    ·rw [loopN_next g1]
     exact ih (i + 1) s' fuel (by omega) (by omega) g2
    ·exact ⟨s',loopN_brk g1,g2⟩
 exact key n 0 s fuel (by omega) hf h0
theorem sorted_out {lt : α → α → Bool} {a b x y:Nat} {d d' : Array α} (h:Sort.SortedIn lt x y d) (hp:Sort.PermIn a b d d') (ho:y≤a∨b≤x):Sort.SortedIn lt x y d':=fun i j h1 h2 h3=>by
 rw [hp.2.1 i (by omega),hp.2.1 j (by omega)]
 exact h i j h1 h2 h3
theorem mul_step {i j k:Nat} (h:i < j):i * k + k≤j * k:=by
 have:=Nat.mul_le_mul_right k (show i + 1≤j by omega)
 rw [Nat.add_mul,Nat.one_mul] at this
 exact this
theorem stabG_ok (hc:∀ x y,cmp x y=some (c x y)) (hC:IsCmp c) {fuel:Nat} {d:Array α} (hd:d.size < 1152921504606846) (hf:4 * d.size + 100 < fuel) :
  ∃ d' : Array α,stabG cmp fuel (d.size:Int) d.toList=some d'.toList∧Sort.PermIn 0 d.size d d' ∧ Sort.SortedIn (ltC c) 0 d.size d':=by
 have hS:=swo_of hC
 generalize hn:d.size=n at *
 let G:Option (List α)→Prop:=fun q=>∃ d' : Array α,q=some d'.toList∧Sort.PermIn 0 n d d' ∧ Sort.SortedIn (ltC c) 0 n d'
 unfold stabG
 refine outK_P (G:=G) (P:=fun s=>∃ (i:Nat) (d1:Array α),s=(((i * 20:Nat):Int),((i * 20 + 20:Nat):Int),d1.toList)∧i * 20≤n∧n < i * 20 + 20∧Sort.PermIn 0 n d d1∧∀ j,j < i→Sort.SortedIn (ltC c) (j * 20) (j * 20 + 20) d1) ?_ ?_
 ·refine loopN_iter (I:=fun i s=>∃ d1:Array α,s=(((i * 20:Nat):Int),((i * 20 + 20:Nat):Int),d1.toList)∧i * 20≤n∧Sort.PermIn 0 n d d1∧∀ j,j < i→Sort.SortedIn (ltC c) (j * 20) (j * 20 + 20) d1) (n:=n) _ (by omega) ⟨d,by rfl,by omega,Sort.permIn_refl d 0 n,fun j hj=>by omega⟩ ?_
  rintro i _ ⟨d1,rfl,k1,k2,k3⟩
  have s1:d1.size=n:=k2.1.trans hn
  simp only [bf_decide,intle]
  by_cases h:i * 20 + 20≤n
  ·left
   obtain ⟨p1,p2⟩:=Sort.insertionSort_holds hS d1 (i * 20) (i * 20 + 20) (by omega) (by omega)
   refine ⟨_,?_,⟨Sort.insertionSort (ltC c) d1 (i * 20) (i * 20 + 20),rfl,by omega,Sort.permIn_trans _ _ _ 0 n k2 (Sort.permIn_mono _ _ _ _ 0 n (by omega) (by omega) (by omega) p1),?_⟩,by omega⟩
   ·rw [if_pos h,insG_eq hc (by omega) (by omega) (by omega) (by omega)]
    simp only [Option.bind_some]
    rw [need_true (by have:=p1.1; simp only [Array.length_toList]; omega),show (20:Int)=((20:Nat):Int) from rfl,wadd (by omega)]
    rw [show (i + 1) * 20=i * 20 + 20 by omega]
   ·intro j hj
    by_cases e:j=i
    ·subst e; exact p2
    ·exact sorted_out (k3 j (by omega)) p1 (by have:=mul_step (k:=20) (show j < i by omega); omega)
  ·right
   rw [if_neg h]
   exact ⟨_,rfl,i,d1,rfl,k1,by omega,k2,k3⟩
 ·rintro _ ⟨i,d1,rfl,k1,k2,k3,k4⟩
  have s1:d1.size=n:=k3.1.trans hn
  simp only
  obtain ⟨p1,p2⟩:=Sort.insertionSort_holds hS d1 (i * 20) n (by omega) (by omega)
  rw [insG_eq hc (by omega) (by omega) (by omega) (by omega)]
  simp only [Option.bind_some]
  rw [need_true (by have:=p1.1; simp only [Array.length_toList]; omega)]
  generalize hd2:Sort.insertionSort (ltC c) d1 (i * 20) n=d2 at p1 p2
  have q1:Sort.PermIn 0 n d d2:=Sort.permIn_trans _ _ _ 0 n k3 (Sort.permIn_mono _ _ _ _ 0 n (by omega) (by omega) (by omega) p1)
  have q2:∀ j,Sort.SortedIn (ltC c) (j * 20) (min (j * 20 + 20) n) d2:=fun j=>by
   by_cases e:j < i
   ·have:=mul_step (k:=20) e
    rw [show min (j * 20 + 20) n=j * 20 + 20 by omega]
    exact sorted_out (k4 j e) p1 (by omega)
   ·by_cases e2:j=i
    ·subst e2
     rw [show min (j * 20 + 20) n=n by omega]
     exact p2
    ·exact sorted_empty (by omega)
  refine outK_P (G:=G) (P:=fun s=>∃ (x:Int) (d3:Array α),s=(x,d3.toList)∧Sort.PermIn 0 n d d3∧Sort.SortedIn (ltC c) 0 n d3) ?_ ?_
  ·refine loopN_iter (I:=fun r s=>∃ (k:Nat) (d3:Array α),s=((k:Int),d3.toList)∧r + 20≤k∧k≤2 * n + 20∧Sort.PermIn 0 n d d3∧∀ j,Sort.SortedIn (ltC c) (j * k) (min (j * k + k) n) d3) (n:=n) _ (by omega) ⟨20,d2,by rfl,by omega,by omega,q1,q2⟩ ?_
   rintro r _ ⟨k,d3,rfl,g1,g2,g3,g4⟩
   have s3:d3.size=n:=g3.1.trans hn
   simp only [bf_decide,intlt]
   by_cases h:k < n
   ·left
    rw [if_pos h]
    let G2:Option (Ctl (Int × List α) Empty)→Prop:=fun q=>∃ s',q=some (.next s')∧(∃ (k:Nat) (d3:Array α),s' = ((k:Int),d3.toList)∧r + 1 + 20≤k∧k≤2 * n + 20∧Sort.PermIn 0 n d d3∧∀ j,Sort.SortedIn (ltC c) (j * k) (min (j * k + k) n) d3)∧r < n
    refine outK_P (G:=G2) (P:=fun s=>∃ (i:Nat) (d4:Array α),s=(((i * (2 * k):Nat):Int),((i * (2 * k) + 2 * k:Nat):Int),d4.toList)∧i * (2 * k)≤n∧n < i * (2 * k) + 2 * k∧Sort.PermIn 0 n d d4∧(∀ j,j < i→Sort.SortedIn (ltC c) (j * (2 * k)) (j * (2 * k) + 2 * k) d4)∧∀ j,i * (2 * k)≤j * k→Sort.SortedIn (ltC c) (j * k) (min (j * k + k) n) d4) ?_ ?_
    ·rw [wtwo (by omega)]
     refine loopN_iter (I:=fun i s=>∃ d4:Array α,s=(((i * (2 * k):Nat):Int),((i * (2 * k) + 2 * k:Nat):Int),d4.toList)∧i * (2 * k)≤n∧i≤i * (2 * k)∧Sort.PermIn 0 n d d4∧(∀ j,j < i→Sort.SortedIn (ltC c) (j * (2 * k)) (j * (2 * k) + 2 * k) d4)∧∀ j,i * (2 * k)≤j * k→Sort.SortedIn (ltC c) (j * k) (min (j * k + k) n) d4) (n:=n) _ (by omega) ⟨d3,by simp,by omega,by omega,g3,fun j hj=>by omega,fun j _=>g4 j⟩ ?_
     rintro i _ ⟨d4,rfl,f1,f0,f2,f3,f4⟩
     have s4:d4.size=n:=f2.1.trans hn
     have e1:(2 * i) * k=i * (2 * k):=by rw [Nat.mul_comm 2 i,Nat.mul_assoc]
     have e2:(2 * i + 1) * k=i * (2 * k) + k:=by rw [Nat.add_mul,Nat.one_mul,e1]
     have e3:(i + 1) * (2 * k)=i * (2 * k) + 2 * k:=by rw [Nat.add_mul,Nat.one_mul]
     have t1:=f4 (2 * i) (by omega)
     have t2:=f4 (2 * i + 1) (by omega)
     rw [e1] at t1
     rw [e2] at t2
     generalize hp:i * (2 * k)=p at *
     simp only [bf_decide,intle]
     by_cases h2:p + 2 * k≤n
     ·left
      rw [if_pos h2,wadd (by omega)]
      rw [show min (p + k) n=p + k by omega] at t1
      rw [show min (p + k + k) n=p + 2 * k by omega] at t2
      obtain ⟨d5,u1,u2⟩:=symG_ok hc hC fuel p (p + k) (p + 2 * k) d4 (by omega) (by omega) (by omega) (by omega) (by omega) t1 t2
      refine ⟨_,?_,⟨d5,rfl,by omega,by omega,Sort.permIn_trans _ _ _ 0 n f2 (Sort.permIn_mono _ _ _ _ 0 n (by omega) (by omega) (by omega) u2.perm),?_,?_⟩,by omega⟩
      ·rw [u1]
       simp only [Option.bind_some]
       rw [need_true (by have:=u2.perm.1; simp only [Array.length_toList]; omega),wadd (by omega),e3]
      ·intro j hj
       by_cases e:j=i
       ·subst e
        rw [hp]
        exact u2.sorted
       ·have:=mul_step (k:=2 * k) (show j < i by omega)
        exact sorted_out (f3 j (by omega)) u2.perm (.inl (by omega))
      ·intro j hj
       exact sorted_out (f4 j (by omega)) u2.perm (.inr (by omega))
     ·right
      rw [if_neg h2]
      exact ⟨_,rfl,i,d4,by rw [hp],by omega,by omega,f2,f3,by rw [hp]; exact f4⟩
    ·rintro _ ⟨i,d4,rfl,f1,f1',f2,f3,f4⟩
     have s4:d4.size=n:=f2.1.trans hn
     have e1:(2 * i) * k=i * (2 * k):=by rw [Nat.mul_comm 2 i,Nat.mul_assoc]
     have e2:(2 * i + 1) * k=i * (2 * k) + k:=by rw [Nat.add_mul,Nat.one_mul,e1]
     have t1:=f4 (2 * i) (by omega)
     have t2:=f4 (2 * i + 1) (by omega)
     rw [e1] at t1
     rw [e2] at t2
     have e4:∀ j,i < j→n≤j * (2 * k):=fun j hj=>by have:=mul_step (k:=2 * k) hj; omega
     generalize hp:i * (2 * k)=p at *
     simp only
     refine jn_P (G:=G2) (P:=fun l=>∃ d5:Array α,l=d5.toList∧Sort.PermIn 0 n d d5∧∀ j,Sort.SortedIn (ltC c) (j * (2 * k)) (min (j * (2 * k) + 2 * k) n) d5) ?_ ?_
     ·rintro _ ⟨d5,rfl,u1,u2⟩
      refine ⟨_,rfl,⟨2 * k,d5,?_,by omega,by omega,u1,u2⟩,by omega⟩
      rw [show (k:Int) * 2=2 * (k:Int) by omega,wtwo (by omega)]
     ·simp only [bf_decide]
      rw [wadd (by omega)]
      simp only [intlt]
      by_cases h2:p + k < n
      ·rw [if_pos h2]
       rw [show min (p + k) n=p + k by omega] at t1
       rw [show min (p + k + k) n=n by omega] at t2
       obtain ⟨d5,u1,u2⟩:=symG_ok hc hC fuel p (p + k) n d4 (by omega) (by omega) (by omega) (by omega) (by omega) t1 t2
       refine ⟨_,⟨d5,rfl,Sort.permIn_trans _ _ _ 0 n f2 (Sort.permIn_mono _ _ _ _ 0 n (by omega) (by omega) (by omega) u2.perm),fun j => ?_⟩,?_⟩
       ·by_cases e:j < i
        ·have:=mul_step (k:=2 * k) e
         rw [show min (j * (2 * k) + 2 * k) n=j * (2 * k) + 2 * k by omega]
         exact sorted_out (f3 j e) u2.perm (.inl (by omega))
        ·by_cases e5:j=i
         ·subst e5
          rw [hp,show min (p + 2 * k) n=n by omega]
          exact u2.sorted
         ·have:=e4 j (by omega)
          exact sorted_empty (by omega)
       ·rw [u1]
        simp only [Option.bind_some]
        rw [need_true (by have:=u2.perm.1; simp only [Array.length_toList]; omega)]
      ·rw [if_neg h2]
       refine ⟨_,⟨d4,rfl,f2,fun j => ?_⟩,rfl⟩
       by_cases e:j < i
       ·have:=mul_step (k:=2 * k) e
        rw [show min (j * (2 * k) + 2 * k) n=j * (2 * k) + 2 * k by omega]
        exact f3 j e
       ·by_cases e5:j=i
        ·subst e5
         rw [hp,show min (p + 2 * k) n=n by omega]
         rw [show min (p + k) n=n by omega] at t1
         exact t1
        ·have:=e4 j (by omega)
         exact sorted_empty (by omega)
   ·right
    rw [if_neg h]
    have:=g4 0
    rw [Nat.zero_mul,show min (0 + k) n=n by omega] at this
    exact ⟨_,rfl,_,d3,rfl,g3,this⟩
  ·rintro _ ⟨x,d3,rfl,u1,u2⟩
   exact ⟨d3,rfl,u1,u2⟩
theorem stabG_list (hc:∀ x y,cmp x y=some (c x y)) (hC:IsCmp c) {fuel:Nat} {l:List α} (hd:l.length < 1152921504606846) (hf:4 * l.length + 100 < fuel) :
  ∃ r:List α,stabG cmp fuel (l.length:Int) l=some r∧r.Perm l∧∀ i j,i < j→j < r.length→c (r.getD i default) (r.getD j default)≤0:=by
 obtain ⟨d',h1,h2,h3⟩:=stabG_ok hc hC (d:=l.toArray) (fuel:=fuel) (by simpa using hd) (by simpa using hf)
 have hs:d'.size=l.length:=by have:=h2.1; simpa using this
 refine ⟨d'.toList,by simpa using h1,?_,fun i j hij hj => ?_⟩
 ·have:=h2.2.2
  simp only [List.size_toArray] at this
  rw [show d'.extract 0 l.length=d' by rw [← hs]; simp,show l.toArray.extract 0 l.length=l.toArray by simp] at this
  exact this
 ·rw [Array.length_toList] at hj
  have:=h3 i j (by omega) hij (by simpa [hs] using hj)
  rw [arr_get,arr_get]
  unfold ltC at this
  have a1:=hC.anti d'[i]! d'[j]!
  simp only [decide_eq_false_iff_not] at this
  omega
end
end Go.Av
namespace Go.Av
open Go
set_option linter.unusedVariables false
set_option linter.unusedSimpArgs false
def cmpV (a b:Value):Int:=if a.isText=b.isText then (if a.isText then cmpS a.s b.s else cmpZ a.n b.n) else (if a.isText then 1 else -1)
theorem cmpV_is:IsCmp cmpV where
 vals a b:=by
  unfold cmpV
  split
  ·split
   ·exact cmpS_is.vals _ _
   ·exact cmpZ_is.vals _ _
  ·split <;> simp
 anti a b:=by
  unfold cmpV
  cases a.isText <;> cases b.isText <;> simp
  ·exact cmpZ_is.anti _ _
  ·exact cmpS_is.anti _ _
 tr a b d:=by
  unfold cmpV
  cases a.isText <;> cases b.isText <;> cases d.isText <;> simp
  ·exact cmpZ_is.tr _ _ _
  ·exact cmpS_is.tr _ _ _
theorem strLe_cmp (a b:ByteArray):(strLt a b || strEq a b)=decide (cmpS a b≤0):=by
 rw [strLt_cmp,strEq_cmp,Bool.eq_iff_iff]
 simp
 omega
theorem cmpInt_eq (x y:Int):cmp_Compare_int x y=some (cmpZ x y):=by
 unfold cmp_Compare_int cmp_isNaN_int cmpZ
 simp only [decide_true,Bool.not_true,Option.bind_some,bf_false,bf_decide]
 split <;> (try split) <;> rfl
theorem cmpInt64_eq (x y:Int):cmp_Compare_int64 x y=some (cmpZ x y):=by
 unfold cmp_Compare_int64 cmp_isNaN_int64 cmpZ
 simp only [decide_true,Bool.not_true,Option.bind_some,bf_false,bf_decide]
 split <;> (try split) <;> rfl
theorem cmpString_eq (x y:ByteArray):cmp_Compare_string x y=some (cmpS x y):=by
 unfold cmp_Compare_string cmp_isNaN_string
 simp only [strEq_self,Bool.not_true,Option.bind_some,bf_false]
 rw [strLe_cmp,strLt_cmp]
 simp only [bf_not,bf_decide]
 rcases cmpS_is.vals x y with h | h | h <;> simp [h]
theorem valueCompare_eq (a b:Value):value_Compare a b=some (cmpV a b):=by
 unfold value_Compare value_mark cmpV
 simp only [cmpInt_eq,cmpString_eq,cmpInt64_eq,bf_not]
 cases a.isText <;> cases b.isText <;> simp [cmpInt_eq,cmpZ]
theorem valueRows_eq (a b:List Value):value_Rows a b=some (cmpL cmpV a b):=by
 unfold value_Rows slices_CompareFuncfreshet_api_Value_freshet_api_Value_freshet_api_Value_freshet_api_Value_Value__value_Compare
 rw [cmpLoop (c:=cmpV)]
 ·rfl
 ·intro i hi
  simp only [valueCompare_eq,Option.bind_some,bf_decide,bf_not,Int.ofNat_le]
  split
  ·rfl
  ·rw [need_true (by omega)]
 ·simp only [bf_decide,Int.ofNat_lt]
  split <;> rfl
def rightV (v:Value):Bool:=if v.isText then decide (v.n=0) && decide (v.s.size≤64) else strEq v.s (bs [])
def okRow (p:List Value):Bool:=decide (p.length≤8) && p.all rightV
theorem right_eq (v:Value):value_right v=some (rightV v):=by
 unfold value_right rightV
 have e:((v.s.size:Int)≤64)↔v.s.size≤64:=by omega
 cases v.isText <;> by_cases h:v.n=0 <;> simp [h,e]
theorem rangeN_any {S R X:Type} [Inhabited X] {B:Nat→S→Option (Ctl S R)} {l:List X} (P:X→Bool) (f:Nat→R) {s:S}
  (hB:∀ i,i < l.length→B i s=if P (l.getD i default) then some (.ret (f i)) else some (.next s)) :
  (l.any P=false∧rangeN B l.length 0 s=some (.done s))∨(l.any P=true∧∃ i,i < l.length∧P (l.getD i default)=true∧rangeN B l.length 0 s=some (.ret (f i))):=by
 have key:∀ k i,i + k=l.length→((l.drop i).any P=false∧rangeN B k i s=some (.done s))∨((l.drop i).any P=true∧∃ j,j < l.length∧P (l.getD j default)=true∧rangeN B k i s=some (.ret (f j))):=by
  intro k
  induction k with
  | zero=>intro i hi; left; rw [List.drop_eq_nil_of_le (by omega:l.length≤i)]; exact ⟨rfl,rfl⟩
  | succ k ih =>
   intro i hi
   rw [drop_cons_getD (by omega:i < l.length)]
   simp only [rangeN,hB i (by omega),List.any_cons]
   by_cases h:P (l.getD i default)=true
   ·rw [if_pos h]; right; exact ⟨by rw [h]; rfl,i,by omega,h,rfl⟩
   ·rw [if_neg h]
    have hf:P (l.getD i default)=false:=by simpa using h
    rw [hf,Bool.false_or]
    exact ih (i + 1) (by omega)
 have:=key l.length 0 (by omega)
 rwa [List.drop_zero] at this
theorem any_not_right (p:List Value):(p.any fun v => !rightV v) = !(p.all rightV):=by
 rw [List.any_eq_not_all_not]
 simp
theorem valueCheck_eq (p:List Value):value_Check p=some (if okRow p then 0 else 4):=by
 unfold value_Check slices_ContainsFuncfreshet_api_Value_freshet_api_Value_Value__value_Check_1 slices_IndexFuncfreshet_api_Value_freshet_api_Value_Value__value_Check_1 value_Check_1 okRow
 simp only [jn_eq,bf_decide,right_eq,Option.bind_some]
 by_cases h:8 < (p.length:Int)
 ·rw [if_pos h,decide_eq_false (by omega:¬ p.length≤8)]; rfl
 ·rw [if_neg h,decide_eq_true (by omega:p.length≤8)]
  rcases rangeN_any (S:=Unit) (R:=Int) (l:=p) (fun v => !rightV v) (fun i=>(i:Int)) (s:=()) (B:=fun i1 a2=>bf (!rightV (p.getD i1 default)) (some (.ret ((i1:Nat):Int))) (some (.next ()))) (fun i hi=>by
   cases rightV (p.getD i default) <;> rfl) with ⟨h1,h2⟩ | ⟨h1,i,_,_,h2⟩
  ·rw [h2]
   rw [any_not_right] at h1
   have:p.all rightV=true:=by simpa using h1
   simp [this]
  ·rw [h2]
   rw [any_not_right] at h1
   have:p.all rightV=false:=by simpa using h1
   simp [this,Int.natCast_nonneg]
theorem eqValue_iff {a b:Value}:eqValue a b=true↔a=b:=by
 rcases a with ⟨t,n,s⟩
 rcases b with ⟨t',n',s'⟩
 simp [eqValue,strEq_iff]
theorem same_eq (a b:List Value):∃ r,freshetref03_Same a b=some r∧(r=true↔a=b):=by
 unfold freshetref03_Same
 by_cases hl:a.length=b.length
 ·rw [decide_eq_true (by omega:(a.length:Int)=(b.length:Int))]
  simp only [Bool.not_true,bf_false]
  have key:∀ k i,i + k=a.length→∃ r,outK (rangeN (S:=Unit) (R:=Bool) (fun i1 (a2:Unit)=>need ((0:Int)≤((i1:Nat):Int)∧((i1:Nat):Int) < (b.length:Int)) <| bf (!(eqValue (a.getD i1 default) (b.getD i1 default))) (some (.ret false)) (some (.next ()))) k i ()) (fun (a3:Unit)=>some true) (fun x=>some x)=some r∧(r=true↔a.drop i=b.drop i):=by
   intro k
   induction k with
   | zero =>
    intro i hi
    refine ⟨true,rfl,?_⟩
    rw [List.drop_eq_nil_of_le (by omega:a.length≤i),List.drop_eq_nil_of_le (by omega:b.length≤i)]
    simp
   | succ k ih =>
    intro i hi
    simp only [rangeN]
    rw [need_true (by omega),drop_cons_getD (by omega:i < a.length),drop_cons_getD (by omega:i < b.length)]
    by_cases he:eqValue (a.getD i default) (b.getD i default)=true
    ·rw [he]
     obtain ⟨r,h1,h2⟩:=ih (i + 1) (by omega)
     refine ⟨r,h1,?_⟩
     rw [h2,eqValue_iff.1 he]
     simp
    ·have he' : eqValue (a.getD i default) (b.getD i default)=false:=by simpa using he
     rw [he']
     refine ⟨false,rfl,?_⟩
     simp only [Bool.false_eq_true,false_iff,List.cons.injEq,not_and]
     intro h
     exact absurd (eqValue_iff.2 h) he
  obtain ⟨r,h1,h2⟩:=key a.length 0 (by omega)
  exact ⟨r,h1,by simpa using h2⟩
 ·rw [decide_eq_false (by omega:¬ (a.length:Int)=(b.length:Int))]
  exact ⟨false,rfl,by simp; intro h; exact hl (by rw [h])⟩
theorem same_self (a:List Value):freshetref03_Same a a=some true:=by
 obtain ⟨r,h1,h2⟩:=same_eq a a
 rw [h1,h2.2 rfl]
theorem cmpV_zero {a b:Value} (ha:rightV a=true) (hb:rightV b=true):cmpV a b=0↔a=b:=by
 rcases a with ⟨t,n,s⟩
 rcases b with ⟨t',n',s'⟩
 unfold cmpV rightV at *
 cases t <;> cases t' <;> simp [cmpS_zero,cmpZ_zero,strEq_iff] at *
 ·intro _; rw [ha,hb]
 ·intro h; omega
theorem cmpRows_zero:∀ {a b:List Value},a.all rightV=true→b.all rightV=true→(cmpL cmpV a b=0↔a=b)
 | [],[],_,_=>by simp [cmpL]
 | [],_ :: _,_,_=>by simp [cmpL]
 | _ :: _,[],_,_=>by simp [cmpL]
 | x :: a,y :: b,ha,hb=>by
  simp only [List.all_cons,Bool.and_eq_true] at ha hb
  have h1:=cmpV_zero ha.1 hb.1
  have h2:=cmpRows_zero ha.2 hb.2
  simp only [cmpL,thenC]
  split
  ·rename_i h; rw [h2,h1.1 h]; simp
  ·rename_i h
   constructor
   ·intro g; exact absurd g h
   ·intro g; exact absurd (h1.2 (List.cons.inj g).1) h
theorem okRow_all {p:List Value} (h:okRow p=true):p.all rightV=true∧p.length≤8:=by
 unfold okRow at h
 simp only [Bool.and_eq_true,decide_eq_true_eq] at h
 exact ⟨h.2,h.1⟩
end Go.Av
namespace Go.Av
open Go
set_option linter.unusedVariables false
set_option linter.unusedSimpArgs false
def nnTime (t:Time):Prop:=0≤t.epoch∧0≤t.loop.1∧0≤t.loop.2
def lub2 (a x:Time):Time:=⟨if a.epoch < x.epoch then x.epoch else a.epoch,(if a.loop.1 < x.loop.1 then x.loop.1 else a.loop.1,if a.loop.2 < x.loop.2 then x.loop.2 else a.loop.2)⟩
def zeroT:Time:=⟨0,(0,0)⟩
def lubL (l:List Time):Time:=l.foldl lub2 zeroT
theorem Time.ext' {a b:Time} (h1:a.epoch=b.epoch) (h2:a.loop.1=b.loop.1) (h3:a.loop.2=b.loop.2):a=b:=by
 rcases a with ⟨e,l1,l2⟩; rcases b with ⟨e',l1',l2'⟩; simp at h1 h2 h3; simp [h1,h2,h3]
theorem max0 {a:Int} (h:0≤a):a=if 0 < a then a else 0:=by
 by_cases h1:0 < a
 ·rw [if_pos h1]
 ·rw [if_neg h1]; omega
theorem foldGreatest_eq {l:List Time} (hl:∀ x ∈ l,nnTime x):moment_fold__greatest l=some (lubL l):=by
 unfold moment_fold__greatest
 rw [rangeN_to (lubL l) (fun i a=>a=lubL (l.take i)) (fun s h=>by rw [h,List.take_length])]
 ·rfl
 ·intro i a hi ha
  refine ⟨_,?_,rfl⟩
  rw [take_succ_getD hi]
  have hx:=hl _ (getD_mem' hi)
  generalize l.getD i default=x at *
  simp only [lubL,List.foldl_append,List.foldl_cons,List.foldl_nil]
  rw [← lubL,← ha]
  simp only [jn_eq,rangeN,moment_greatest,Option.bind_some,bf_decide]
  rcases Nat.eq_zero_or_pos i with h0 | h0
  ·subst h0
   simp [lubL] at ha
   subst ha
   obtain ⟨x1,x2,x3⟩:=hx
   simp [outK,lub2,zeroT]
   exact ⟨max0 x1,max0 x2,max0 x3⟩
  ·rw [if_neg (by omega)]
   simp [outK,lub2]
 ·rfl
theorem mx_eq (a b:Int):(if a < b then b else a)=max a b:=by split <;> omega
theorem zero_lub2 {x:Time} (h:nnTime x):lub2 zeroT x=x:=by
 obtain ⟨h1,h2,h3⟩:=h
 simp only [lub2,mx_eq,zeroT]
 refine Time.ext' ?_ ?_ ?_ <;> simp only <;> omega
theorem lubL_two {x y:Time} (hx:nnTime x):lubL [x,y]=lub2 x y:=by
 simp [lubL,zero_lub2 hx]
def leT (a b:Time):Bool:=decide (a.epoch≤b.epoch) && (decide (a.loop.1≤b.loop.1) && decide (a.loop.2≤b.loop.2))
theorem ahead_eq {a b:Time} (ha:nnTime a) (hb:nnTime b):moment_Ahead a b=some (leT a b):=by
 unfold moment_Ahead moment_Lub
 have hl:∀ x ∈ [a,b],nnTime x:=fun x hx=>by
  rcases List.mem_cons.1 hx with rfl | hx
  ·exact ha
  ·rw [List.mem_singleton.1 hx]; exact hb
 rw [foldGreatest_eq hl,lubL_two ha]
 simp only [Option.bind_some,lub2,mx_eq,eqTime,leT,Bool.and_true]
 congr 1
 rw [Bool.eq_iff_iff]
 simp only [Bool.and_eq_true,decide_eq_true_eq]
 omega
def cmpT (a b:Time):Int :=
 if a.epoch < b.epoch then -1 else if b.epoch < a.epoch then 1 else if a.loop.1 < b.loop.1 then -1 else if b.loop.1 < a.loop.1 then 1 else if a.loop.2 < b.loop.2 then -1 else if b.loop.2 < a.loop.2 then 1 else 0
theorem cmpU64_eq (x y:Int):cmp_Compare_uint64 x y=some (if x < y then -1 else if y < x then 1 else 0):=by
 unfold cmp_Compare_uint64 cmp_isNaN_uint64
 simp only [decide_true,Bool.not_true,Option.bind_some,bf_false,bf_decide]
 split
 ·rfl
 ·split <;> rfl
theorem cmp2_eq (x1 x2 y1 y2:Int):slices_Compareuint64_uint64_uint64 [x1,x2] [y1,y2]=some (if x1 < y1 then -1 else if y1 < x1 then 1 else if x2 < y2 then -1 else if y2 < x2 then 1 else 0):=by
 unfold slices_Compareuint64_uint64_uint64
 simp only [List.length_cons,List.length_nil,Nat.zero_add,Nat.reduceAdd,rangeN,cmpU64_eq,bf_decide,bf_not,Option.bind_some]
 by_cases h3:x1 < y1 <;> by_cases h4:y1 < x1 <;> by_cases h5:x2 < y2 <;> by_cases h6:y2 < x2 <;> simp [outK,need,h3,h4,h5,h6]
theorem or2_eq (u v:Int):cmp_Or_int [u,v]=some (if u=0 then v else u):=by
 unfold cmp_Or_int
 simp only [List.length_cons,List.length_nil,Nat.zero_add,Nat.reduceAdd,rangeN,bf_decide,bf_not]
 by_cases h1:u=0 <;> by_cases h2:v=0 <;> simp [outK,h1,h2]
theorem bf_and {p q:Bool} {A:Type} {x y:Option A}:bf (p && (q && true)) x y=bf p (bf q x y) y:=by cases p <;> cases q <;> rfl
theorem compare_eq (a b : Time) : moment_Compare a b = some (cmpT a b) := by
  unfold moment_Compare cmpT
  simp only [cmpU64_eq, cmp2_eq, or2_eq, Option.bind_some, bf_and, bf_decide]
  by_cases h1 : a.epoch < b.epoch <;> by_cases h2 : b.epoch < a.epoch <;> by_cases h3 : a.loop.1 < b.loop.1 <;> by_cases h4 : b.loop.1 < a.loop.1 <;> by_cases h5 : a.loop.2 < b.loop.2 <;> by_cases h6 : b.loop.2 < a.loop.2 <;>
    by_cases h7 : a.loop.1 = b.loop.1 <;> by_cases h8 : a.loop.2 = b.loop.2 <;> simp [h1, h2, h3, h4, h5, h6, h7, h8] <;> omega
theorem cmpT_cases (a b:Time):cmpT a b = -1∨cmpT a b=0∨cmpT a b=1:=by
 unfold cmpT
 repeat' split
 all_goals omega
theorem cmpT_anti (a b : Time) : cmpT a b = - cmpT b a := by
  unfold cmpT
  by_cases h1 : a.epoch < b.epoch <;> by_cases h2 : b.epoch < a.epoch <;> by_cases h3 : a.loop.1 < b.loop.1 <;> by_cases h4 : b.loop.1 < a.loop.1 <;> by_cases h5 : a.loop.2 < b.loop.2 <;> by_cases h6 : b.loop.2 < a.loop.2 <;>
    simp [h1, h2, h3, h4, h5, h6] <;> omega
theorem leT_refl (a:Time):leT a a=true:=by simp [leT]
theorem leT_trans {a b c:Time} (h:leT a b=true) (g:leT b c=true):leT a c=true:=by
 simp only [leT,Bool.and_eq_true,decide_eq_true_eq] at *
 omega
theorem leT_iff {a b:Time}:leT a b=true↔a.epoch≤b.epoch∧a.loop.1≤b.loop.1∧a.loop.2≤b.loop.2:=by simp [leT]
theorem orList_eq3 (u v w:Int):cmp_Or_int [u,v,w]=some (thenC u (thenC v w)):=by
 unfold cmp_Or_int thenC
 simp only [List.length_cons,List.length_nil,Nat.zero_add,Nat.reduceAdd,rangeN,bf_decide,bf_not]
 by_cases h1:u=0 <;> by_cases h2:v=0 <;> by_cases h3:w=0 <;> simp [outK,h1,h2,h3]
theorem orErr3 (u v w:Int):cmp_Or_Errno [u,v,w]=some (thenC u (thenC v w)):=orList_eq3 u v w
theorem orErr2 (u v:Int):cmp_Or_Errno [u,v]=some (thenC u v):=or2_eq u v
theorem cmpT_is:IsCmp cmpT where
 vals a b:=by rcases cmpT_cases a b with h | h | h <;> omega
 anti a b:=by have:=cmpT_anti a b; omega
 tr a b d:=by
  have e:∀ a b:Time,cmpT a b=thenC (cmpZ a.epoch b.epoch) (thenC (cmpZ a.loop.1 b.loop.1) (cmpZ a.loop.2 b.loop.2)):=fun a b=>by
   unfold cmpT thenC cmpZ
   repeat' split
   all_goals omega
  have h:=(cmpZ_is.on fun t:Time=>t.epoch).lex ((cmpZ_is.on fun t:Time=>t.loop.1).lex (cmpZ_is.on fun t:Time=>t.loop.2))
  rw [e,e,e]
  exact h.tr a b d
theorem cmpT_zero {a b : Time} : cmpT a b = 0 ↔ a = b := by
  constructor
  · intro h
    unfold cmpT at h
    refine Time.ext' ?_ ?_ ?_ <;> · revert h; repeat' split
                                    all_goals omega
  · rintro rfl; exact cmpT_is.refl a
def okT (t:Time):Bool:=decide (t.epoch≤4611686018427387904) && (decide (t.loop.1≤4611686018427387904) && decide (t.loop.2≤4611686018427387904))
theorem max2_eq {fuel:Nat} (hf:5 < fuel) (a b:Int):slices_Maxuint64_uint64_uint64 fuel [a,b]=some (if a < b then b else a):=by
 unfold slices_Maxuint64_uint64_uint64
 obtain ⟨f,rfl⟩:∃ f,fuel=f + 2:=⟨fuel - 2,by omega⟩
 have w:IntKind.i64.wrap 2=2:=by rw [wrap_small (by omega) (by omega)]
 simp [loopN,outK,need,bf,w]
theorem momentCheck_eq {fuel:Nat} (hf:5 < fuel) (t:Time):moment_Check fuel [t]=some (if okT t then 0 else 1):=by
 unfold moment_Check okT
 simp only [List.length_cons,List.length_nil,Nat.zero_add,rangeN,List.getD_cons_zero,max2_eq hf,Option.bind_some,bf_decide,mx_eq]
 by_cases h:4611686018427387904 < max t.epoch (max t.loop.1 t.loop.2)
 ·rw [if_pos h]
  simp only [outK]
  rw [if_neg (by simp only [Bool.and_eq_true,decide_eq_true_eq]; omega)]
 ·rw [if_neg h]
  simp only [outK]
  rw [if_pos (by simp only [Bool.and_eq_true,decide_eq_true_eq]; omega)]
end Go.Av
namespace Go.Av
open Go
set_option linter.unusedVariables false
set_option linter.unusedSimpArgs false
section
variable {α X Y:Type}
inductive R2 (r:X→Y→Prop):List X→List Y→Prop
 | nil:R2 r [] []
 | cons {x:X} {y:Y} {a:List X} {b:List Y} (h:r x y) (t:R2 r a b):R2 r (x :: a) (y :: b)
theorem R2.len {r:X→Y→Prop} {a:List X} {b:List Y} (h:R2 r a b):a.length=b.length:=by induction h <;> simp_all
theorem R2.app {r:X→Y→Prop} {a a' : List X} {b b' : List Y} (h:R2 r a b) (h' : R2 r a' b'):R2 r (a++a') (b++b'):=by
 induction h with
 | nil=>exact h'
 | cons h _ ih=>exact .cons h ih
theorem R2.split {r:X→Y→Prop}:∀ {b b' : List Y} {a:List X},R2 r a (b++b')→∃ a1 a2,a=a1++a2∧R2 r a1 b∧R2 r a2 b'
 | [],b',a,h=>⟨[],a,rfl,.nil,h⟩
 | y :: b,b',_,h=>by
  cases h with
  | cons h t =>
   obtain ⟨a1,a2,rfl,h1,h2⟩:=R2.split t
   exact ⟨_ :: a1,a2,rfl,.cons h h1,h2⟩
theorem R2.get [Inhabited X] [Inhabited Y] {r:X→Y→Prop} {a:List X} {b:List Y} (h:R2 r a b):∀ {i:Nat},i < b.length→r (a.getD i default) (b.getD i default):=by
 induction h with
 | nil=>intro i hi; simp at hi
 | cons h _ ih =>
  intro i hi
  cases i with
  | zero=>exact h
  | succ i=>exact ih (by simpa using hi)
theorem R2.one {r:X→Y→Prop} {x:X} {y:Y} (h:r x y):R2 r [x] [y]:=.cons h .nil
theorem rangeN_P {S R Q:Type} {G:Option Q→Prop} {B:Nat→S→Option (Ctl S R)} {n:Nat} {s:S} {kn:S→Option Q} {kr:R→Option Q} (I:Nat→S→Prop) (D:S→Prop) (J:R→Prop) (h0:I 0 s) (hD:∀ s,I n s→D s) (hk:∀ s,D s→G (kn s)) (hr:∀ r,J r→G (kr r))
  (hs:∀ i s,i < n→I i s→(∃ s',B i s=some (.next s')∧I (i + 1) s')∨(∃ s',B i s=some (.brk s')∧D s')∨∃ r,B i s=some (.ret r)∧J r):G (outK (rangeN B n 0 s) kn kr):=by
 rcases rangeN_inv' I D J h0 hs hD with ⟨s',h1,h2⟩ | ⟨r,h1,h2⟩
 ·rw [h1]; exact hk s' h2
 ·rw [h1]; exact hr r h2
theorem getD_last [Inhabited X] (a:List X) (x:X):(a++[x]).getD a.length default=x:=by simp [List.getD_eq_getElem?_getD]
theorem getD_mid [Inhabited X] (a b:List X) (x:X):(a++x :: b).getD a.length default=x:=by simp [List.getD_eq_getElem?_getD]
theorem set_mid (a b:List X) (x y:X):(a++x :: b).set a.length y=a++y :: b:=by simp [List.set_append]
def PR (num : α → Int) (l:List α):List (α × Int):=l.map fun x=>(x,num x)
theorem PR_append (num : α → Int) (l l' : List α):PR num (l++l')=PR num l++PR num l':=by simp [PR]
theorem PR_mem {num : α → Int} {l:List α} {p : α × Int}:p ∈ PR num l↔∃ x ∈ l,(x,num x)=p:=by simp [PR]
theorem sm_bound {c : α → α → Int} {y : α}:∀ {l:List (α × Int)},(∀ p ∈ l,in64 p.2) → -9223372036854775808 * (l.length:Int)≤sm c l y∧sm c l y≤9223372036854775808 * (l.length:Int)
 | [],_=>by simp [sm]
 | p :: l,h=>by
  have h1:=sm_bound (c:=c) (y:=y) (l:=l) fun q hq=>h q (List.mem_cons_of_mem _ hq)
  have h2:=h p (List.mem_cons_self ..)
  unfold in64 at h2
  simp only [sm,List.length_cons]
  split <;> omega
theorem tot_perm {c : α → α → Int} {num : α → Int} {put : α → Int → α} {l l' : List (α × Int)} {R:List α} {e:Int} (hp:l.Perm l') (h:Tot c num put l R e):Tot c num put l' R e:=by
 have hs:∀ y,sm c l y=sm c l' y:=sm_perm hp
 rcases h with ⟨h1,h2,h3⟩ | ⟨h1,h2,h3⟩
 ·refine .inl ⟨h1,⟨h2.strict,fun r hr => ?_,fun r hr => ?_,fun y hy hn => ?_⟩,fun y => ?_⟩
  ·rw [← hs]; exact h2.sum r hr
  ·obtain ⟨y,g1,g2⟩:=h2.mem r hr
   exact ⟨y,hp.mem_iff.1 g1,g2⟩
  ·exact h2.all y (hp.mem_iff.2 hy) (by rw [hs]; exact hn)
  ·rw [← hs]; exact h3 y
 ·refine .inr ⟨h1,h2,fun h=>h3 fun y => ?_⟩
  rw [hs]; exact h y
theorem left0_app (put : α → Int → α) (S S' : List (α × Int)):left0 put (S++S')=left0 put S++left0 put S':=by simp [left0]
theorem left0_one (put : α → Int → α) (p : α × Int):left0 put [p]=if p.2=0 then [] else [put p.1 p.2]:=by
 unfold left0
 by_cases h:p.2=0 <;> simp [h]
theorem left0_len (put : α → Int → α) (S:List (α × Int)):(left0 put S).length≤S.length:=by
 unfold left0
 rw [List.length_map]
 exact List.length_filter_le _ _
def fit64 (s:Int):Int × Int:=if -9223372036854775808≤s∧s < 9223372036854775808 then (s,0) else (0,10)
theorem fit64_in {s:Int} (h:in64 s):fit64 s=(s,0):=if_pos h
theorem fit64_out {s:Int} (h:¬ in64 s):fit64 s=(0,10):=if_neg h
def repT (t:Tally) (s:Int):Prop:=inU64 t.high∧inU64 t.low∧(t.high * 18446744073709551616 + t.low - s) % 340282366920938463463374607431768211456=0
end
end Go.Av
namespace Go.Av
open Go
set_option linter.unusedVariables false
set_option linter.unusedSimpArgs false
def cU (a b:Update):Int:=thenC (cmpL cmpV a.key b.key) (thenC (cmpL cmpV a.row b.row) (cmpT a.time b.time))
theorem cU_is:IsCmp cU:=(cmpV_is.list.on fun u:Update=>u.key).lex ((cmpV_is.list.on fun u:Update=>u.row).lex (cmpT_is.on fun u:Update=>u.time))
theorem cmpUpdate_eq (a b:Update):diff_Compare a b=some (cU a b):=by
 unfold diff_Compare cU
 simp only [valueRows_eq,compare_eq,orList_eq3,Option.bind_some]
def putUpdate (x:Update) (n:Int):Update:=⟨x.key,x.row,x.time,n⟩
theorem putFUpdate {x:Update} {n:Int} (h:x.row.length≤8):diff_Consolidate_2 x n=some (putUpdate x n):=rfl
def relUpdate (x:Line_Update) (p:Update × Int):Prop:=x.of=p.1∧repT x.tally p.2
theorem addFUpdate {a:List Line_Update} {x:Line_Update} {p s:Int} (hp:in64 p) (h:repT x.tally s) :
  ∃ t:Tally,freshet_diff_tally_add_w a.length p (a++[x])=some (a++[(⟨t,x.of⟩:Line_Update)])∧repT t (s + p):=by
 obtain ⟨hh,hl,hs⟩:=h
 unfold in64 inU64 repT at *
 unfold freshet_diff_tally_add_w bits_Add64
 simp only [getD_last,set_mid,List.length_set,List.length_append,List.length_singleton,shr63 hp,wrap_u64]
 rw [need_true (by omega),need_true (by omega)]
 simp only [Option.bind_some]
 rw [need_true (by omega),need_true (by omega),need_true (by split <;> omega)]
 simp only [Option.bind_some]
 rw [need_true (by omega)]
 refine ⟨_,rfl,?_,?_,?_⟩
 ·simp only [inU64]; omega
 ·simp only [inU64]; omega
 ·simp only; split <;> omega
theorem fitFUpdate {x:Line_Update} {s:Int} (h:repT x.tally s) (hb : -85070591730234615865843651857942052864≤s∧s≤85070591730234615865843651857942052864):freshet_diff_tally_fit_w x=some ((fit64 s).1,(fit64 s).2,x):=by
 obtain ⟨hh,hl,hs⟩:=h
 unfold inU64 at *
 have hw:in64 (IntKind.i64.wrap x.tally.low):=by unfold in64; rw [wrap_i64]; split <;> omega
 unfold freshet_diff_tally_fit_w
 rw [shr63 hw,wrap_u64]
 by_cases h : -9223372036854775808≤s∧s < 9223372036854775808
 ·rw [fit64_in h]
  have e1:IntKind.i64.wrap x.tally.low=s:=by rw [wrap_i64]; split <;> omega
  rw [e1]
  have e2:x.tally.high=(if s < 0 then (-1:Int) else 0) % 18446744073709551616:=by split <;> omega
  rw [decide_eq_true e2]
  rfl
 ·rw [fit64_out h]
  have e2:¬ x.tally.high=(if IntKind.i64.wrap x.tally.low < 0 then (-1:Int) else 0) % 18446744073709551616:=by
   rw [wrap_i64]
   split <;> split <;> omega
  rw [decide_eq_false e2]
  rfl
theorem rotUpdate:slices_rotateCmpFunc_Update__diff_Compare_w=rotG (α:=Update):=rfl
theorem insUpdate:slices_insertionSortCmpFunc_Update__diff_Compare_w=insG (α:=Update) diff_Compare:=rfl
theorem symUpdate:∀ (fuel:Nat) (a b d:Int) (l:List Update),slices_symMergeCmpFunc_Update__diff_Compare_w fuel a b d l=symG (α:=Update) diff_Compare fuel a b d l
 | 0,_,_,_,_=>rfl
 | fuel + 1,a,b,d,l=>by
  unfold slices_symMergeCmpFunc_Update__diff_Compare_w symG
  simp only [rotUpdate,symUpdate fuel]
theorem stabUpdate (fuel:Nat) (n:Int) (l:List Update):slices_stableCmpFunc_Update__diff_Compare_w fuel n l=stabG (α:=Update) diff_Compare fuel n l:=by
 unfold slices_stableCmpFunc_Update__diff_Compare_w stabG
 simp only [insUpdate,symUpdate]
theorem totalUpdate {fuel:Nat} {l:List Update} (hl:∀ x ∈ l,in64 x.diff) (hr:∀ x ∈ l,x.row.length≤8) (hn:l.length≤4000000) (hf:20000000≤fuel) :
  ∃ R e l',diff_total_Update__diff_Compare__diff_Consolidate_1__diff_Consolidate_2_w fuel l=some (R,e,l')∧Tot cU (fun x=>x.diff) putUpdate (PR (fun x=>x.diff) l) R e∧R.length≤l.length:=by
 obtain ⟨r1,h1,h2,h3⟩:=stabG_list (c:=cU) cmpUpdate_eq cU_is (fuel:=fuel) (l:=l) (by omega) (by omega)
 have hlen:r1.length=l.length:=h2.length_eq
 unfold diff_total_Update__diff_Compare__diff_Consolidate_1__diff_Consolidate_2_w slices_SortStableFuncfreshet_api_Update_freshet_api_Update_Update__diff_Compare_w
 rw [stabUpdate,h1]
 simp only [Option.bind_some]
 rw [need_true hlen]
 suffices hS:∃ R e,(_:Option ((List Update) × Int × (List Update)))=some (R,e,r1)∧Tot cU (fun x=>x.diff) putUpdate (PR (fun x=>x.diff) r1) R e∧R.length≤r1.length by
  obtain ⟨R,e,g1,g2,g3⟩:=hS
  refine ⟨R,e,r1,?_,tot_perm ?_ g2,by omega⟩
  ·exact g1
  ·exact h2.map _
 have hl1:∀ x ∈ r1,in64 x.diff:=fun x hx=>hl x (h2.mem_iff.1 hx)
 have hr1:∀ x ∈ r1,x.row.length≤8:=fun x hx=>hr x (h2.mem_iff.1 hx)
 refine outK_P (G:=fun q=>∃ R e,q=some (R,e,r1)∧Tot cU (fun x=>x.diff) putUpdate (PR (fun x=>x.diff) r1) R e∧R.length≤r1.length) (P:=fun a=>∃ S,R2 relUpdate a S∧SS cU (PR (fun x=>x.diff) r1) S∧S.length≤r1.length) ?_ ?_
 ·have:=fun B h=>rangeN_inv (R:=Empty) (B:=B) (n:=r1.length) (fun i (a:List Line_Update)=>∃ S,R2 relUpdate a S∧SS cU (PR (fun x=>x.diff) (r1.take i)) S∧S.length≤i) (s:=([]:List Line_Update)) ⟨[],.nil,ss_nil,Nat.le_refl _⟩ h
  simp only [List.take_length] at this
  refine this _ ?_
  rintro i a hi ⟨S,k1,k2,k3⟩
  have hx:=hl1 _ (getD_mem' hi)
  rw [Nat.zero_add,need_true hi]
  have htk:PR (fun x:Update=>x.diff) (r1.take (i + 1))=PR (fun x=>x.diff) (r1.take i)++[(r1.getD i default,(r1.getD i default).diff)]:=by
   rw [take_succ_getD hi,PR_append]; rfl
  have hle:∀ p ∈ S,cU p.1 (r1.getD i default)≤0:=fun p hp=>by
   obtain ⟨y,g1,g2⟩:=k2.mem p hp
   obtain ⟨z,g3,g4⟩:=PR_mem.1 g1
   obtain ⟨j,hj,g5⟩:=List.mem_iff_getElem.1 g3
   rw [List.length_take] at hj
   have:=h3 j i (by omega) hi
   rw [← g2,← g4]
   simp only
   rw [← g5,List.getElem_take]
   rw [List.getD_eq_getElem?_getD,List.getElem?_eq_getElem (by omega:j < r1.length)] at this
   exact this
  generalize hxe:r1.getD i default=x at *
  rw [htk]
  clear htk
  let G:Option (Ctl (List Line_Update) Empty)→Prop:=fun q=>∃ s',q=some (.next s')∧∃ S,R2 relUpdate s' S∧SS cU (PR (fun x=>x.diff) (r1.take i)++[(x,x.diff)]) S∧S.length≤i + 1
  refine jn_P (G:=G) (P:=fun b=>∃ (b' : List Line_Update) (y:Line_Update) (S' : List (Update × Int)) (s:Int),b=b' ++ [y]∧b.length≤i + 1∧R2 relUpdate b' S' ∧ repT y.tally s∧SS cU (PR (fun x=>x.diff) (r1.take i)++[(x,x.diff)]) (S' ++ [(y.of,s + x.diff)])) ?_ ?_
  ·rintro _ ⟨b',y,S',s,rfl,q0,q1,q2,q3⟩
   simp only [List.length_append,List.length_singleton] at q0 ⊢
   rw [wsub1 (by omega) (by omega),need_true (by omega)]
   obtain ⟨t,g1,g2⟩:=addFUpdate (a:=b') (x:=y) hx q2
   unfold diff_Consolidate_1
   simp only [Option.bind_some,Nat.add_sub_cancel,Nat.zero_add,Int.toNat_natCast]
   rw [g1]
   simp only [Option.bind_some]
   rw [need_true (by simp)]
   refine ⟨_,rfl,_,R2.app q1 (R2.one (show relUpdate ⟨t,y.of⟩ (y.of,s + x.diff) from ⟨rfl,g2⟩)),q3,?_⟩
   have:=q1.len
   simp only [List.length_append,List.length_singleton]
   omega
  ·simp only [jn_eq,bf_decide]
   have hlen2:=k1.len
   rcases List.eq_nil_or_concat S with rfl | ⟨A,p,rfl⟩
   ·have ha:a=[]:=List.eq_nil_of_length_eq_zero hlen2
    subst ha
    rw [if_pos (by simp),bf_true,need_true (by simp)]
    refine ⟨_,⟨[],_,[],0,rfl,by simp,.nil,by simp [repT,inU64],?_⟩,rfl⟩
    have:=ss_new (A:=[]) (B:=[]) (x:=x) (n:=x.diff) cU_is k2 (fun p hp=>by cases hp) (fun p hp=>by cases hp)
    simpa using this
   ·simp only [List.concat_eq_append] at *
    obtain ⟨a1,a2,rfl,u1,u2⟩:=R2.split k1
    cases u2 with
    | @cons y _ _ _ v t =>
     cases t
     obtain ⟨v1,v2⟩:=v
     have e1:(a1++[y]).length=a1.length + 1:=by simp
     have e2:=u1.len
     simp only [List.length_append,List.length_singleton] at k3
     rw [if_neg (by omega),e1,wsub1 (by omega) (by omega),need_true (by omega)]
     simp only [Nat.add_sub_cancel,Nat.zero_add,Int.toNat_natCast,getD_last]
     rw [need_true (by omega),cmpUpdate_eq,v1]
     simp only [Option.bind_some]
     by_cases g:cU p.1 x=0
     ·rw [decide_eq_true g]
      simp only [Bool.not_true,bf_false]
      refine ⟨_,⟨a1,y,A,p.2,rfl,by omega,u1,v2,?_⟩,?_⟩
      ·rw [v1]
       exact ss_add cU_is k2 g
      ·rw [e1,wsub1 (by omega) (by omega)]
       simp only [Nat.add_sub_cancel,Int.toNat_natCast]
     ·rw [decide_eq_false g]
      simp only [Bool.not_false,bf_true]
      rw [need_true (by simp; omega)]
      refine ⟨_,⟨a1++[y],_,A++[p],0,rfl,by simp; omega,k1,by simp [repT,inU64],?_⟩,rfl⟩
      have:=ss_new (A:=A++[p]) (B:=[]) (x:=x) (n:=x.diff) cU_is (by simpa using k2) (fun q hq=>by
       have h4:=hle p (by simp)
       have h5:cU q.1 p.1≤0:=by
        rcases List.mem_append.1 hq with hq | hq
        ·have h6:=k2.strict
         rw [List.pairwise_append] at h6
         have:=h6.2.2 q hq p (by simp)
         omega
        ·rw [List.mem_singleton.1 hq,cU_is.refl]; omega
       have h7:=cU_is.tr _ _ _ h5 h4
       by_cases h8:cU q.1 x=0
       ·exfalso
        have h9:cU x p.1≤0:=by rw [← cU_is.eqL p.1 h8]; exact h5
        have:=cU_is.anti p.1 x
        omega
       ·omega) (fun q hq=>by cases hq)
      simpa using this
 ·rintro a ⟨S,k1,k2,k3⟩
  have hb:∀ i,i < S.length → -85070591730234615865843651857942052864≤(S.getD i default).2∧(S.getD i default).2≤85070591730234615865843651857942052864:=fun i hi=>by
   rw [k2.sum _ (getD_mem' hi)]
   have:=sm_bound (c:=cU) (y:=(S.getD i default).1) (l:=PR (fun x=>x.diff) r1) (fun p hp=>by
    obtain ⟨z,g1,g2⟩:=PR_mem.1 hp
    rw [← g2]; exact hl1 z g1)
   have e:(PR (fun x:Update=>x.diff) r1).length=r1.length:=by simp [PR]
   rw [e] at this
   omega
  have hrow:∀ i,i < S.length→(S.getD i default).1.row.length≤8:=fun i hi=>by
   obtain ⟨y,g1,g2⟩:=k2.mem _ (getD_mem' hi)
   obtain ⟨z,g3,g4⟩:=PR_mem.1 g1
   rw [← g2,← g4]
   exact hr1 z g3
  have hlen2:=k1.len
  rw [hlen2]
  refine rangeN_P (G:=fun q=>∃ R e,q=some (R,e,r1)∧Tot cU (fun x=>x.diff) putUpdate (PR (fun x=>x.diff) r1) R e∧R.length≤r1.length) (fun i (b:List Update)=>(∀ j,j < i→in64 (S.getD j default).2)∧b=left0 putUpdate (S.take i)) (fun b=>(∀ j,j < S.length→in64 (S.getD j default).2)∧b=left0 putUpdate S) (fun r=>r=([],10,r1)∧∃ j,j < S.length∧¬ in64 (S.getD j default).2) ⟨fun j hj=>by omega,rfl⟩ (fun b hb=>by
   rw [List.take_length] at hb; exact hb) ?_ ?_ ?_
  rotate_left 2
  ·rintro i b hi ⟨m1,m2⟩
   obtain ⟨v1,v2⟩:=k1.get hi
   rw [Nat.zero_add,need_true hi,fitFUpdate v2 (hb i hi)]
   simp only [Option.bind_some,bf_not,bf_decide]
   by_cases g:in64 (S.getD i default).2
   ·left
    rw [fit64_in g,v1]
    have hput:=putFUpdate (x:=(S.getD i default).1) (n:=(S.getD i default).2) (hrow i hi)
    have hlb:b.length≤i:=by
     rw [m2]
     have:=left0_len putUpdate (S.take i)
     rw [List.length_take] at this
     omega
    rw [take_succ_getD hi,left0_app,left0_one,← m2]
    have m3:∀ j,j < i + 1→in64 (S.getD j default).2:=fun j hj=>by
     by_cases e:j=i
     ·subst e; exact g
     ·exact m1 j (by omega)
    by_cases g2:(S.getD i default).2=0
    ·exact ⟨b,by simp only [if_true,if_pos g2],m3,by rw [if_pos g2,List.append_nil]⟩
    ·refine ⟨b++[putUpdate (S.getD i default).1 (S.getD i default).2],?_,m3,by rw [if_neg g2]⟩
     simp only [if_true,if_neg g2,hput,Option.bind_some]
     rw [need_true (by simp; omega)]
   ·right; right
    rw [fit64_out g]
    exact ⟨_,rfl,rfl,i,hi,g⟩
  ·rintro b ⟨g2,g3⟩
   refine ⟨_,_,rfl,.inl ⟨rfl,?_,?_⟩,by rw [g3]; have:=left0_len putUpdate S; omega⟩
   ·rw [g3]
    exact res_of (num:=fun x=>x.diff) (put:=putUpdate) cU_is (fun x n=>rfl) (fun x n y=>rfl) k2
   ·rw [ss_fits cU_is k2]
    intro p hp
    obtain ⟨j,hj,e⟩:=List.mem_iff_getElem.1 hp
    have:=g2 j hj
    rw [List.getD_eq_getElem?_getD,List.getElem?_eq_getElem hj] at this
    rw [← e]; exact this
  ·rintro r ⟨g2,j,g3,g4⟩
   rw [g2]
   refine ⟨_,_,rfl,.inr ⟨rfl,rfl,?_⟩,Nat.zero_le _⟩
   rw [ss_fits cU_is k2]
   intro h
   exact g4 (h _ (getD_mem' g3))
end Go.Av
namespace Go.Av
open Go
set_option linter.unusedVariables false
set_option linter.unusedSimpArgs false
def cK (a b:Count):Int:=cmpL cmpV a.row b.row
theorem cK_is:IsCmp cK:=cmpV_is.list.on fun u:Count=>u.row
theorem cmpCount_eq (a b:Count):diff_added_1 a b=some (cK a b):=by
 unfold diff_added_1 cK
 simp only [valueRows_eq,Option.bind_some]
def putCount (x:Count) (n:Int):Count:=⟨x.row,n⟩
theorem putFCount {x:Count} {n:Int} (h:x.row.length≤8):diff_added_3 x n=some (putCount x n):=by
 unfold diff_added_3 slices_Clonefreshet_api_Value_freshet_api_Value_Value
 rw [need_true (by omega)]
 rfl
def relCount (x:Line_Count) (p:Count × Int):Prop:=x.of=p.1∧repT x.tally p.2
theorem addFCount {a:List Line_Count} {x:Line_Count} {p s:Int} (hp:in64 p) (h:repT x.tally s) :
  ∃ t:Tally,freshet_diff_tally_add_w1 a.length p (a++[x])=some (a++[(⟨t,x.of⟩:Line_Count)])∧repT t (s + p):=by
 obtain ⟨hh,hl,hs⟩:=h
 unfold in64 inU64 repT at *
 unfold freshet_diff_tally_add_w1 bits_Add64
 simp only [getD_last,set_mid,List.length_set,List.length_append,List.length_singleton,shr63 hp,wrap_u64]
 rw [need_true (by omega),need_true (by omega)]
 simp only [Option.bind_some]
 rw [need_true (by omega),need_true (by omega),need_true (by split <;> omega)]
 simp only [Option.bind_some]
 rw [need_true (by omega)]
 refine ⟨_,rfl,?_,?_,?_⟩
 ·simp only [inU64]; omega
 ·simp only [inU64]; omega
 ·simp only; split <;> omega
theorem fitFCount {x:Line_Count} {s:Int} (h:repT x.tally s) (hb : -85070591730234615865843651857942052864≤s∧s≤85070591730234615865843651857942052864):freshet_diff_tally_fit_w1 x=some ((fit64 s).1,(fit64 s).2,x):=by
 obtain ⟨hh,hl,hs⟩:=h
 unfold inU64 at *
 have hw:in64 (IntKind.i64.wrap x.tally.low):=by unfold in64; rw [wrap_i64]; split <;> omega
 unfold freshet_diff_tally_fit_w1
 rw [shr63 hw,wrap_u64]
 by_cases h : -9223372036854775808≤s∧s < 9223372036854775808
 ·rw [fit64_in h]
  have e1:IntKind.i64.wrap x.tally.low=s:=by rw [wrap_i64]; split <;> omega
  rw [e1]
  have e2:x.tally.high=(if s < 0 then (-1:Int) else 0) % 18446744073709551616:=by split <;> omega
  rw [decide_eq_true e2]
  rfl
 ·rw [fit64_out h]
  have e2:¬ x.tally.high=(if IntKind.i64.wrap x.tally.low < 0 then (-1:Int) else 0) % 18446744073709551616:=by
   rw [wrap_i64]
   split <;> split <;> omega
  rw [decide_eq_false e2]
  rfl
theorem rotCount:slices_rotateCmpFunc_Count__diff_added_1_w=rotG (α:=Count):=rfl
theorem insCount:slices_insertionSortCmpFunc_Count__diff_added_1_w=insG (α:=Count) diff_added_1:=rfl
theorem symCount:∀ (fuel:Nat) (a b d:Int) (l:List Count),slices_symMergeCmpFunc_Count__diff_added_1_w fuel a b d l=symG (α:=Count) diff_added_1 fuel a b d l
 | 0,_,_,_,_=>rfl
 | fuel + 1,a,b,d,l=>by
  unfold slices_symMergeCmpFunc_Count__diff_added_1_w symG
  simp only [rotCount,symCount fuel]
theorem stabCount (fuel:Nat) (n:Int) (l:List Count):slices_stableCmpFunc_Count__diff_added_1_w fuel n l=stabG (α:=Count) diff_added_1 fuel n l:=by
 unfold slices_stableCmpFunc_Count__diff_added_1_w stabG
 simp only [insCount,symCount]
theorem totalCount {fuel:Nat} {l:List Count} (hl:∀ x ∈ l,in64 x.n) (hr:∀ x ∈ l,x.row.length≤8) (hn:l.length≤4000000) (hf:20000000≤fuel) :
  ∃ R e l',diff_total_Count__diff_added_1__diff_added_2__diff_added_3_w fuel l=some (R,e,l')∧Tot cK (fun x=>x.n) putCount (PR (fun x=>x.n) l) R e∧R.length≤l.length:=by
 obtain ⟨r1,h1,h2,h3⟩:=stabG_list (c:=cK) cmpCount_eq cK_is (fuel:=fuel) (l:=l) (by omega) (by omega)
 have hlen:r1.length=l.length:=h2.length_eq
 unfold diff_total_Count__diff_added_1__diff_added_2__diff_added_3_w slices_SortStableFuncfreshet_api_Count_freshet_api_Count_Count__diff_added_1_w
 rw [stabCount,h1]
 simp only [Option.bind_some]
 rw [need_true hlen]
 suffices hS:∃ R e,(_:Option ((List Count) × Int × (List Count)))=some (R,e,r1)∧Tot cK (fun x=>x.n) putCount (PR (fun x=>x.n) r1) R e∧R.length≤r1.length by
  obtain ⟨R,e,g1,g2,g3⟩:=hS
  refine ⟨R,e,r1,?_,tot_perm ?_ g2,by omega⟩
  ·exact g1
  ·exact h2.map _
 have hl1:∀ x ∈ r1,in64 x.n:=fun x hx=>hl x (h2.mem_iff.1 hx)
 have hr1:∀ x ∈ r1,x.row.length≤8:=fun x hx=>hr x (h2.mem_iff.1 hx)
 refine outK_P (G:=fun q=>∃ R e,q=some (R,e,r1)∧Tot cK (fun x=>x.n) putCount (PR (fun x=>x.n) r1) R e∧R.length≤r1.length) (P:=fun a=>∃ S,R2 relCount a S∧SS cK (PR (fun x=>x.n) r1) S∧S.length≤r1.length) ?_ ?_
 ·have:=fun B h=>rangeN_inv (R:=Empty) (B:=B) (n:=r1.length) (fun i (a:List Line_Count)=>∃ S,R2 relCount a S∧SS cK (PR (fun x=>x.n) (r1.take i)) S∧S.length≤i) (s:=([]:List Line_Count)) ⟨[],.nil,ss_nil,Nat.le_refl _⟩ h
  simp only [List.take_length] at this
  refine this _ ?_
  rintro i a hi ⟨S,k1,k2,k3⟩
  have hx:=hl1 _ (getD_mem' hi)
  rw [Nat.zero_add,need_true hi]
  have htk:PR (fun x:Count=>x.n) (r1.take (i + 1))=PR (fun x=>x.n) (r1.take i)++[(r1.getD i default,(r1.getD i default).n)]:=by
   rw [take_succ_getD hi,PR_append]; rfl
  have hle:∀ p ∈ S,cK p.1 (r1.getD i default)≤0:=fun p hp=>by
   obtain ⟨y,g1,g2⟩:=k2.mem p hp
   obtain ⟨z,g3,g4⟩:=PR_mem.1 g1
   obtain ⟨j,hj,g5⟩:=List.mem_iff_getElem.1 g3
   rw [List.length_take] at hj
   have:=h3 j i (by omega) hi
   rw [← g2,← g4]
   simp only
   rw [← g5,List.getElem_take]
   rw [List.getD_eq_getElem?_getD,List.getElem?_eq_getElem (by omega:j < r1.length)] at this
   exact this
  generalize hxe:r1.getD i default=x at *
  rw [htk]
  clear htk
  let G:Option (Ctl (List Line_Count) Empty)→Prop:=fun q=>∃ s',q=some (.next s')∧∃ S,R2 relCount s' S∧SS cK (PR (fun x=>x.n) (r1.take i)++[(x,x.n)]) S∧S.length≤i + 1
  refine jn_P (G:=G) (P:=fun b=>∃ (b' : List Line_Count) (y:Line_Count) (S' : List (Count × Int)) (s:Int),b=b' ++ [y]∧b.length≤i + 1∧R2 relCount b' S' ∧ repT y.tally s∧SS cK (PR (fun x=>x.n) (r1.take i)++[(x,x.n)]) (S' ++ [(y.of,s + x.n)])) ?_ ?_
  ·rintro _ ⟨b',y,S',s,rfl,q0,q1,q2,q3⟩
   simp only [List.length_append,List.length_singleton] at q0 ⊢
   rw [wsub1 (by omega) (by omega),need_true (by omega)]
   obtain ⟨t,g1,g2⟩:=addFCount (a:=b') (x:=y) hx q2
   unfold diff_added_2
   simp only [Option.bind_some,Nat.add_sub_cancel,Nat.zero_add,Int.toNat_natCast]
   rw [g1]
   simp only [Option.bind_some]
   rw [need_true (by simp)]
   refine ⟨_,rfl,_,R2.app q1 (R2.one (show relCount ⟨t,y.of⟩ (y.of,s + x.n) from ⟨rfl,g2⟩)),q3,?_⟩
   have:=q1.len
   simp only [List.length_append,List.length_singleton]
   omega
  ·simp only [jn_eq,bf_decide]
   have hlen2:=k1.len
   rcases List.eq_nil_or_concat S with rfl | ⟨A,p,rfl⟩
   ·have ha:a=[]:=List.eq_nil_of_length_eq_zero hlen2
    subst ha
    rw [if_pos (by simp),bf_true,need_true (by simp)]
    refine ⟨_,⟨[],_,[],0,rfl,by simp,.nil,by simp [repT,inU64],?_⟩,rfl⟩
    have:=ss_new (A:=[]) (B:=[]) (x:=x) (n:=x.n) cK_is k2 (fun p hp=>by cases hp) (fun p hp=>by cases hp)
    simpa using this
   ·simp only [List.concat_eq_append] at *
    obtain ⟨a1,a2,rfl,u1,u2⟩:=R2.split k1
    cases u2 with
    | @cons y _ _ _ v t =>
     cases t
     obtain ⟨v1,v2⟩:=v
     have e1:(a1++[y]).length=a1.length + 1:=by simp
     have e2:=u1.len
     simp only [List.length_append,List.length_singleton] at k3
     rw [if_neg (by omega),e1,wsub1 (by omega) (by omega),need_true (by omega)]
     simp only [Nat.add_sub_cancel,Nat.zero_add,Int.toNat_natCast,getD_last]
     rw [need_true (by omega),cmpCount_eq,v1]
     simp only [Option.bind_some]
     by_cases g:cK p.1 x=0
     ·rw [decide_eq_true g]
      simp only [Bool.not_true,bf_false]
      refine ⟨_,⟨a1,y,A,p.2,rfl,by omega,u1,v2,?_⟩,?_⟩
      ·rw [v1]
       exact ss_add cK_is k2 g
      ·rw [e1,wsub1 (by omega) (by omega)]
       simp only [Nat.add_sub_cancel,Int.toNat_natCast]
     ·rw [decide_eq_false g]
      simp only [Bool.not_false,bf_true]
      rw [need_true (by simp; omega)]
      refine ⟨_,⟨a1++[y],_,A++[p],0,rfl,by simp; omega,k1,by simp [repT,inU64],?_⟩,rfl⟩
      have:=ss_new (A:=A++[p]) (B:=[]) (x:=x) (n:=x.n) cK_is (by simpa using k2) (fun q hq=>by
       have h4:=hle p (by simp)
       have h5:cK q.1 p.1≤0:=by
        rcases List.mem_append.1 hq with hq | hq
        ·have h6:=k2.strict
         rw [List.pairwise_append] at h6
         have:=h6.2.2 q hq p (by simp)
         omega
        ·rw [List.mem_singleton.1 hq,cK_is.refl]; omega
       have h7:=cK_is.tr _ _ _ h5 h4
       by_cases h8:cK q.1 x=0
       ·exfalso
        have h9:cK x p.1≤0:=by rw [← cK_is.eqL p.1 h8]; exact h5
        have:=cK_is.anti p.1 x
        omega
       ·omega) (fun q hq=>by cases hq)
      simpa using this
 ·rintro a ⟨S,k1,k2,k3⟩
  have hb:∀ i,i < S.length → -85070591730234615865843651857942052864≤(S.getD i default).2∧(S.getD i default).2≤85070591730234615865843651857942052864:=fun i hi=>by
   rw [k2.sum _ (getD_mem' hi)]
   have:=sm_bound (c:=cK) (y:=(S.getD i default).1) (l:=PR (fun x=>x.n) r1) (fun p hp=>by
    obtain ⟨z,g1,g2⟩:=PR_mem.1 hp
    rw [← g2]; exact hl1 z g1)
   have e:(PR (fun x:Count=>x.n) r1).length=r1.length:=by simp [PR]
   rw [e] at this
   omega
  have hrow:∀ i,i < S.length→(S.getD i default).1.row.length≤8:=fun i hi=>by
   obtain ⟨y,g1,g2⟩:=k2.mem _ (getD_mem' hi)
   obtain ⟨z,g3,g4⟩:=PR_mem.1 g1
   rw [← g2,← g4]
   exact hr1 z g3
  have hlen2:=k1.len
  rw [hlen2]
  refine rangeN_P (G:=fun q=>∃ R e,q=some (R,e,r1)∧Tot cK (fun x=>x.n) putCount (PR (fun x=>x.n) r1) R e∧R.length≤r1.length) (fun i (b:List Count)=>(∀ j,j < i→in64 (S.getD j default).2)∧b=left0 putCount (S.take i)) (fun b=>(∀ j,j < S.length→in64 (S.getD j default).2)∧b=left0 putCount S) (fun r=>r=([],10,r1)∧∃ j,j < S.length∧¬ in64 (S.getD j default).2) ⟨fun j hj=>by omega,rfl⟩ (fun b hb=>by
   rw [List.take_length] at hb; exact hb) ?_ ?_ ?_
  rotate_left 2
  ·rintro i b hi ⟨m1,m2⟩
   obtain ⟨v1,v2⟩:=k1.get hi
   rw [Nat.zero_add,need_true hi,fitFCount v2 (hb i hi)]
   simp only [Option.bind_some,bf_not,bf_decide]
   by_cases g:in64 (S.getD i default).2
   ·left
    rw [fit64_in g,v1]
    have hput:=putFCount (x:=(S.getD i default).1) (n:=(S.getD i default).2) (hrow i hi)
    have hlb:b.length≤i:=by
     rw [m2]
     have:=left0_len putCount (S.take i)
     rw [List.length_take] at this
     omega
    rw [take_succ_getD hi,left0_app,left0_one,← m2]
    have m3:∀ j,j < i + 1→in64 (S.getD j default).2:=fun j hj=>by
     by_cases e:j=i
     ·subst e; exact g
     ·exact m1 j (by omega)
    by_cases g2:(S.getD i default).2=0
    ·exact ⟨b,by simp only [if_true,if_pos g2],m3,by rw [if_pos g2,List.append_nil]⟩
    ·refine ⟨b++[putCount (S.getD i default).1 (S.getD i default).2],?_,m3,by rw [if_neg g2]⟩
     simp only [if_true,if_neg g2,hput,Option.bind_some]
     rw [need_true (by simp; omega)]
   ·right; right
    rw [fit64_out g]
    exact ⟨_,rfl,rfl,i,hi,g⟩
  ·rintro b ⟨g2,g3⟩
   refine ⟨_,_,rfl,.inl ⟨rfl,?_,?_⟩,by rw [g3]; have:=left0_len putCount S; omega⟩
   ·rw [g3]
    exact res_of (num:=fun x=>x.n) (put:=putCount) cK_is (fun x n=>rfl) (fun x n y=>rfl) k2
   ·rw [ss_fits cK_is k2]
    intro p hp
    obtain ⟨j,hj,e⟩:=List.mem_iff_getElem.1 hp
    have:=g2 j hj
    rw [List.getD_eq_getElem?_getD,List.getElem?_eq_getElem hj] at this
    rw [← e]; exact this
  ·rintro r ⟨g2,j,g3,g4⟩
   rw [g2]
   refine ⟨_,_,rfl,.inr ⟨rfl,rfl,?_⟩,Nat.zero_le _⟩
   rw [ss_fits cK_is k2]
   intro h
   exact g4 (h _ (getD_mem' g3))
end Go.Av
namespace Go.Av
open Go
set_option linter.unusedVariables false
set_option linter.unusedSimpArgs false
theorem thenC_z (v:Int):thenC 0 v=v:=rfl
theorem thenC_n {u v:Int} (h:u ≠ 0):thenC u v=u:=if_neg h
theorem rangeN_chk {X:Type} [Inhabited X] {R:Type} {B:Nat→Unit→Option (Ctl Unit R)} {l:List X} (e:X→Int) (f:Int→R) (hB:∀ i,i < l.length→B i ()=if e (l.getD i default)=0 then some (.next ()) else some (.ret (f (e (l.getD i default))))) :
  rangeN B l.length 0 ()=if l.foldr (fun x v=>thenC (e x) v) 0=0 then some (.done ()) else some (.ret (f (l.foldr (fun x v=>thenC (e x) v) 0))):=by
 have key:∀ k i,i + k=l.length→rangeN B k i ()=if (l.drop i).foldr (fun x v=>thenC (e x) v) 0=0 then some (.done ()) else some (.ret (f ((l.drop i).foldr (fun x v=>thenC (e x) v) 0))):=by
  intro k
  induction k with
  | zero =>
   intro i hi
   rw [List.drop_eq_nil_of_le (by omega)]
   rfl
  | succ k ih =>
   intro i hi
   rw [drop_cons_getD (by omega:i < l.length)]
   simp only [rangeN,hB i (by omega),List.foldr_cons]
   by_cases h:e (l.getD i default)=0
   ·simp only [h,if_true,thenC_z]
    exact ih (i + 1) (by omega)
   ·simp only [thenC_n h,if_neg h]
 have:=key l.length 0 (by omega)
 rwa [List.drop_zero] at this
def errU (u:Update):Int:=thenC (if okRow u.key then 0 else 4) (thenC (if okRow u.row then 0 else 4) (if okT u.time then 0 else 1))
def chkL (l:List Update):Int:=l.foldr (fun u v=>thenC (errU u) v) 0
def okU (u:Update):Prop:=okRow u.key=true∧okRow u.row=true∧okT u.time=true
theorem errU_zero {u:Update}:errU u=0↔okU u:=by
 unfold errU okU thenC
 by_cases h1:okRow u.key=true <;> by_cases h2:okRow u.row=true <;> by_cases h3:okT u.time=true <;> simp [h1,h2,h3]
theorem thenC_zero {u v:Int}:thenC u v=0↔u=0∧v=0:=by unfold thenC; split <;> omega
theorem chkL_zero {l:List Update}:chkL l=0↔∀ u ∈ l,okU u:=by
 induction l with
 | nil=>simp [chkL]
 | cons u l ih =>
  unfold chkL at *
  rw [List.foldr_cons,thenC_zero,errU_zero,ih]
  simp
theorem thenC_assoc (u v w:Int):thenC (thenC u v) w=thenC u (thenC v w):=by
 by_cases h1:u=0
 ·subst h1; rfl
 ·rw [thenC_n h1,thenC_n h1,thenC_n h1]
theorem chkL_append (a b:List Update):chkL (a++b)=thenC (chkL a) (chkL b):=by
 induction a with
 | nil=>simp [chkL,thenC]
 | cons u a ih =>
  unfold chkL at *
  rw [List.cons_append,List.foldr_cons,List.foldr_cons,ih,thenC_assoc]
theorem diffCheck_eq {fuel:Nat} (hf:5 < fuel) (l:List Update):diff_Check fuel l=some (chkL l):=by
 unfold diff_Check
 rw [rangeN_chk errU (fun x=>x)]
 ·show outK (if chkL l=0 then _ else some (.ret (chkL l))) _ _=_
  split
  ·rename_i h; rw [h]; rfl
  ·rfl
 ·intro i hi
  rw [valueCheck_eq,valueCheck_eq,momentCheck_eq hf]
  simp only [Option.bind_some,orErr3,bf_not,bf_decide]
  rfl
theorem cK_zero {a b:Count} (ha:okRow a.row=true) (hb:okRow b.row=true) (h:cK a b=0) (hd:a.n=b.n):a=b:=by
 unfold cK at h
 rw [cmpRows_zero (okRow_all ha).1 (okRow_all hb).1] at h
 rcases a with ⟨r,d⟩; rcases b with ⟨r',d'⟩
 simp only at h hd
 rw [h,hd]
theorem clone_eq {p:List Value} (h:p.length≤8):slices_Clonefreshet_api_Value_freshet_api_Value_Value p=some p:=by
 unfold slices_Clonefreshet_api_Value_freshet_api_Value_Value
 rw [need_true (by omega)]
theorem okU_len {u:Update} (h:okU u):u.key.length≤8∧u.row.length≤8:=⟨(okRow_all h.1).2,(okRow_all h.2.1).2⟩
theorem set_same {X:Type} [Inhabited X] {l:List X} {i:Nat} (h:i < l.length):l.set i (l.getD i default)=l:=by
 rw [List.getD_eq_getElem?_getD,List.getElem?_eq_getElem h]
 exact List.set_getElem_self h
theorem own_eq {l:List Update} (h:∀ u ∈ l,okU u) (hn:l.length≤4000000):diff_Own l=some l:=by
 unfold diff_Own
 have hlim:(l.length:Int)≤(lim:Int):=by simp only [lim]; omega
 rw [need_true ⟨by omega,by omega,hlim⟩,need_true (by simp)]
 have e:copyL (List.replicate l.length ((⟨([]:List Value),([]:List Value),(⟨0,(0,0)⟩:Time),0⟩:Update):Update)) l=l:=by
  unfold copyL
  rw [List.drop_eq_nil_of_le (by simp)]
  simp
 rw [e]
 rw [rangeN_to l (fun i a=>a=l) (fun s hs=>hs)]
 ·rfl
 ·intro i a hi ha
  subst ha
  obtain ⟨h1,h2⟩:=okU_len (h _ (getD_mem' hi))
  refine ⟨_,?_,rfl⟩
  have e1:(⟨(a.getD i default).key,(a.getD i default).row,(a.getD i default).time,(a.getD i default).diff⟩:Update)=a.getD i default:=rfl
  simp only [Nat.zero_add]
  rw [need_true (by omega),need_true hi,clone_eq h1]
  simp only [Option.bind_some]
  rw [need_true (by omega),need_true hi,clone_eq h2]
  simp only [Option.bind_some]
  rw [need_true (by omega),need_true hi,need_true (by omega),need_true (by simp; exact hi),e1,set_same hi,e1,set_same hi]
 ·rfl
end Go.Av
namespace Go.Av
open Go
set_option linter.unusedVariables false
set_option linter.unusedSimpArgs false
set_option linter.unusedSectionVars false
section
variable {α:Type} [Inhabited α]
def growG (z : α) (p1:Int):Option (List α) :=
 bf (decide (p1 < 0)) (none) (jn (fun (a1:List α)=>some a1) fun j2=>bf (decide (0 < (IntKind.i64.wrap (p1 - (IntKind.i64.wrap ((0:Int) - 0)))))) (need ((0:Int) < (IntKind.i64.wrap (p1 - (IntKind.i64.wrap ((0:Int) - 0))))∧(IntKind.i64.wrap (p1 - (IntKind.i64.wrap ((0:Int) - 0))))≤(lim:Int)) <| need ((0:Int)≤0∧(0:Int)≤0∧(0:Int)≤((List.replicate ((IntKind.i64.wrap (p1 - (IntKind.i64.wrap ((0:Int) - 0)))).toNat) z).length:Int)) <| j2 ((List.replicate ((IntKind.i64.wrap (p1 - (IntKind.i64.wrap ((0:Int) - 0)))).toNat) z).take 0)) (j2 ([]:List α)))
def concG (z : α) (p0:List (List α)):Option (List α) :=
 outK (rangeN (S:=Int) (R:=Empty) (fun i1 (a2:Int)=>bf (decide ((IntKind.i64.wrap (a2 + ((p0.getD i1 default).length:Int))) < 0)) (none) (some (.next (IntKind.i64.wrap (a2 + ((p0.getD i1 default).length:Int)))))) p0.length 0 0) (fun (a3:Int)=>(growG z a3).bind fun r4=>outK (rangeN (S:=List α) (R:=Empty) (fun i5 (a6:List α)=>need (a6.length + (p0.getD i5 default).length≤274877906944) <| some (.next (a6++(p0.getD i5 default)))) p0.length 0 r4) (fun (a7:List α)=>some a7) (fun (x:Empty)=>x.elim)) (fun (x:Empty)=>x.elim)
theorem take_flat {l:List (List α)} {i:Nat} (h:i < l.length):(l.take (i + 1)).flatten=(l.take i).flatten++l.getD i default:=by
 rw [take_succ_getD h]; simp
theorem flat_split {l:List (List α)} {i:Nat} (h:i < l.length):l.flatten=(l.take i).flatten++(l.getD i default++(l.drop (i + 1)).flatten):=by
 have e:l=l.take i++l.getD i default :: l.drop (i + 1):=by rw [← drop_cons_getD h,List.take_append_drop]
 have e2:=congrArg List.flatten e
 rw [List.flatten_append,List.flatten_cons] at e2
 exact e2
theorem flat_le {l:List (List α)} {i:Nat} (h:i < l.length):(l.take i).flatten.length + (l.getD i default).length≤l.flatten.length:=by
 have:=congrArg List.length (flat_split h)
 simp only [List.length_append] at this
 omega
theorem growG_eq {z : α} {n:Nat} (hn:n≤4000000):growG z (n:Int)=some []:=by
 unfold growG
 have e:IntKind.i64.wrap ((n:Int) - IntKind.i64.wrap ((0:Int) - 0))=(n:Int):=by
  rw [show IntKind.i64.wrap ((0:Int) - 0)=0 by rfl,wrap_small (by omega) (by omega)]; omega
 rw [e]
 simp only [bf_decide,jn_eq]
 rw [if_neg (by omega)]
 split
 ·rw [need_true (by simp only [lim]; omega),need_true (by simp)]
  simp
 ·rfl
theorem concG_eq {z : α} {p0:List (List α)} (hn:p0.flatten.length≤4000000):concG z p0=some p0.flatten:=by
 unfold concG
 have h1:=fun B h=>rangeN_to (R:=Empty) (B:=B) (n:=p0.length) (s:=(0:Int)) ((p0.flatten.length:Nat):Int) (fun i a=>a=(((p0.take i).flatten.length:Nat):Int)) (fun s hs=>by rw [hs,List.take_length]) h (by rfl)
 rw [h1]
 ·simp only [outK_done,growG_eq hn,Option.bind_some]
  rw [rangeN_to p0.flatten (fun i a=>a=(p0.take i).flatten) (fun s hs=>by rw [hs,List.take_length])]
  ·rfl
  ·intro i a hi ha
   refine ⟨_,?_,rfl⟩
   have:=flat_le hi
   rw [need_true (by rw [ha]; omega),ha,take_flat hi]
  ·rfl
 ·intro i a hi ha
  have:=flat_le hi
  refine ⟨_,?_,rfl⟩
  rw [ha,wadd (by omega),take_flat hi,List.length_append]
  simp only [bf_decide]
  rw [if_neg (by omega)]
end
end Go.Av
namespace Go.Av
open Go
set_option linter.unusedVariables false
set_option linter.unusedSimpArgs false
abbrev pU (l:List Update):List (Update × Int):=PR (fun x=>x.diff) l
abbrev pK (l:List Count):List (Count × Int):=PR (fun x=>x.n) l
abbrev TotU (l:List Update) (R:List Update) (e:Int):Prop:=Tot cU (fun x=>x.diff) putUpdate (pU l) R e
abbrev TotK (l:List Count) (R:List Count) (e:Int):Prop:=Tot cK (fun x=>x.n) putCount (pK l) R e
theorem tot_memU {l R:List Update} {e:Int} (h:TotU l R e) (ho:∀ u ∈ l,okU u):∀ r ∈ R,okU r:=fun r hr=>by
 rcases h with ⟨_,h,_⟩ | ⟨_,rfl,_⟩
 ·obtain ⟨y,h1,h2⟩:=h.mem r hr
  obtain ⟨z,h3,h4⟩:=PR_mem.1 h1
  rw [h2,← h4]
  exact ho z h3
 ·cases hr
theorem tot_memK {l R:List Count} {e:Int} (h:TotK l R e) (ho:∀ u ∈ l,okRow u.row=true):∀ r ∈ R,okRow r.row=true:=fun r hr=>by
 rcases h with ⟨_,h,_⟩ | ⟨_,rfl,_⟩
 ·obtain ⟨y,h1,h2⟩:=h.mem r hr
  obtain ⟨z,h3,h4⟩:=PR_mem.1 h1
  rw [h2,← h4]
  exact ho z h3
 ·cases hr
def ConsOk (l R:List Update) (e:Int):Prop:=(chkL l ≠ 0∧R=[]∧e=chkL l)∨(chkL l=0∧TotU l R e)
theorem foldr_flat:∀ ls:List (List Update),ls.foldr (fun x v=>thenC (chkL x) v) 0=chkL ls.flatten
 | []=>rfl
 | l :: ls=>by rw [List.foldr_cons,List.flatten_cons,chkL_append,foldr_flat ls]
theorem cons_ok {fuel:Nat} {ls:List (List Update)} (hf:20000000≤fuel) (hn:ls.flatten.length≤4000000) (hd:∀ u ∈ ls.flatten,in64 u.diff) :
  ∃ R e,diff_Consolidate fuel ls=some (R,e)∧ConsOk ls.flatten R e∧R.length≤ls.flatten.length:=by
 unfold diff_Consolidate
 rw [rangeN_chk chkL (fun w=>(([]:List Update),w)),foldr_flat]
 ·by_cases h:chkL ls.flatten=0
  ·rw [if_pos h]
   simp only [outK_done]
   rw [show slices_Concatfreshet_api_Update_freshet_api_Update_Update ls=some ls.flatten from concG_eq hn]
   simp only [Option.bind_some]
   have ho:=chkL_zero.1 h
   obtain ⟨R,e,l',h1,h2,h3⟩:=totalUpdate (fuel:=fuel) hd (fun u hu=>(okU_len (ho u hu)).2) hn hf
   rw [h1]
   simp only [Option.bind_some]
   rw [own_eq (tot_memU h2 ho) (by omega)]
   exact ⟨R,e,rfl,.inr ⟨h,h2⟩,h3⟩
  ·rw [if_neg h]
   exact ⟨_,_,rfl,.inl ⟨h,rfl,rfl⟩,Nat.zero_le _⟩
 ·intro i hi
  rw [diffCheck_eq (by omega)]
  simp only [Option.bind_some,bf_not,bf_decide]
end Go.Av
namespace Go.Av
open Go
set_option linter.unusedVariables false
set_option linter.unusedSimpArgs false
theorem added_ok {fuel:Nat} {l:List Count} (hf:20000000≤fuel) (hn:l.length≤4000000) (hd:∀ u ∈ l,in64 u.n) (ho:∀ u ∈ l,okRow u.row=true) :
  ∃ R e l',diff_added_w fuel l=some (R,e,l')∧TotK l R e∧R.length≤l.length:=by
 unfold diff_added_w
 obtain ⟨R,e,l',h1,h2,h3⟩:=totalCount (fuel:=fuel) hd (fun u hu=>(okRow_all (ho u hu)).2) hn hf
 rw [h1]
 exact ⟨R,e,l',rfl,h2,h3⟩
def atL (l:List Update) (t:Time):List Count:=(l.filter fun u=>leT u.time t).map fun u=>⟨u.row,u.diff⟩
theorem atL_app (l l' : List Update) (t:Time):atL (l++l') t=atL l t++atL l' t:=by simp [atL]
theorem atL_one (u:Update) (t:Time):atL [u] t=if leT u.time t=true then [⟨u.row,u.diff⟩] else []:=by
 unfold atL
 by_cases h:leT u.time t=true <;> simp [h]
theorem atL_len (l:List Update) (t:Time):(atL l t).length≤l.length:=by
 unfold atL
 rw [List.length_map]
 exact List.length_filter_le _ _
theorem atL_mem {l:List Update} {t:Time} {c:Count} (h:c ∈ atL l t):∃ u ∈ l,leT u.time t=true∧c=⟨u.row,u.diff⟩:=by
 unfold atL at h
 obtain ⟨u,h1,h2⟩:=List.mem_map.1 h
 obtain ⟨h3,h4⟩:=List.mem_filter.1 h1
 exact ⟨u,h3,h4,h2.symm⟩
def errA (l:List Update) (t:Time):Int:=thenC (chkL l) (if okT t then 0 else 1)
def AtOk (l:List Update) (t:Time) (R:List Count) (e:Int):Prop:=(errA l t ≠ 0∧R=[]∧e=errA l t)∨(errA l t=0∧TotK (atL l t) R e)
theorem atLoop {l:List Update} {t:Time} (hn:l.length≤4000000) {B:Nat→List Count→Option (Ctl (List Count) Empty)} (hB:∀ i a,i < l.length→B i a=bf (leT (l.getD i default).time t) (need (a.length + ([(⟨(l.getD i default).row,(l.getD i default).diff⟩:Count)]:List Count).length≤274877906944) <| some (.next (a++([(⟨(l.getD i default).row,(l.getD i default).diff⟩:Count)]:List Count)))) (some (.next a))) :
  rangeN B l.length 0 []=some (.done (atL l t)):=by
 refine rangeN_to (atL l t) (fun i a=>a=atL (l.take i) t) (fun s hs=>by rw [hs,List.take_length]) ?_ rfl
 intro i a hi ha
 rw [hB i a hi,take_succ_getD hi,atL_app,← ha,atL_one]
 have hl:a.length≤i:=by
  have:=atL_len (l.take i) t
  rw [ha]
  rw [List.length_take] at this
  omega
 by_cases h:leT (l.getD i default).time t=true
 ·rw [h,bf_true,need_true (by simp; omega)]
  exact ⟨_,rfl,rfl⟩
 ·have h' : leT (l.getD i default).time t=false:=by simpa using h
  rw [h',bf_false]
  exact ⟨_,rfl,by simp⟩
theorem errA_zero {l:List Update} {t:Time}:errA l t=0↔(∀ u ∈ l,okU u)∧okT t=true:=by
 unfold errA
 rw [thenC_zero,chkL_zero]
 simp
theorem atL_ok {l:List Update} {t:Time} (ho:∀ u ∈ l,okU u):∀ c ∈ atL l t,okRow c.row=true:=fun c hc=>by
 obtain ⟨u,h1,_,h2⟩:=atL_mem hc
 rw [h2]; exact (ho u h1).2.1
theorem atL_in {l:List Update} {t:Time} (ho:∀ u ∈ l,in64 u.diff):∀ c ∈ atL l t,in64 c.n:=fun c hc=>by
 obtain ⟨u,h1,_,h2⟩:=atL_mem hc
 rw [h2]; exact ho u h1
theorem at_ok {fuel:Nat} {l:List Update} {t:Time} (hf:20000000≤fuel) (hn:l.length≤4000000) (hd:∀ u ∈ l,in64 u.diff) (ht:∀ u ∈ l,nnTime u.time) (ht' : nnTime t) :
  ∃ R e,diff_At fuel l t=some (R,e)∧AtOk l t R e∧R.length≤l.length:=by
 unfold diff_At
 rw [diffCheck_eq (by omega),momentCheck_eq (by omega)]
 simp only [Option.bind_some,orErr2,bf_not,bf_decide]
 show ∃ R e,(if errA l t=0 then _ else some (([]:List Count),errA l t))=some (R,e)∧AtOk l t R e∧R.length≤l.length
 by_cases h:errA l t=0
 ·rw [if_pos h]
  obtain ⟨ho,hT⟩:=errA_zero.1 h
  rw [atLoop (t:=t) hn]
  ·simp only [outK_done]
   have hl:=atL_len l t
   obtain ⟨R,e,l',h1,h2,h3⟩:=added_ok (fuel:=fuel) hf (by omega) (atL_in (t:=t) hd) (atL_ok (t:=t) ho)
   rw [h1]
   exact ⟨R,e,rfl,.inr ⟨h,h2⟩,by omega⟩
  ·intro i a hi
   rw [ahead_eq (ht _ (getD_mem' hi)) ht']
   rfl
 ·rw [if_neg h]
  exact ⟨_,_,rfl,.inl ⟨h,rfl,rfl⟩,Nat.zero_le _⟩
end Go.Av
namespace Go.Av
open Go
set_option linter.unusedVariables false
set_option linter.unusedSimpArgs false
theorem sameC (l:List Count):freshetref05_SameCounts l l=some true:=by
 unfold freshetref05_SameCounts
 rw [decide_eq_true rfl,Bool.not_true,bf_false]
 rw [rangeN_to () (fun _ _=>True) (fun _ _=>rfl)]
 ·rfl
 ·intro i a hi ha
  refine ⟨(),?_,trivial⟩
  simp only [jn_eq,same_self,Option.bind_some,Bool.not_true,bf_false,decide_true]
  rw [need_true (by omega),need_true (by omega)]
 ·trivial
theorem tot_uniqueK {l l' R R' : List Count} {e e' : Int} (h:TotK l R e) (h' : TotK l' R' e') (ho:∀ u ∈ l,okRow u.row=true) (ho' : ∀ u ∈ l',okRow u.row=true) (hs:∀ y,sm cK (pK l) y=sm cK (pK l') y):R=R' ∧ e=e' :=
 tot_unique cK_is h h' hs fun r hr r' hr' h1 h2=>cK_zero (tot_memK h ho r hr) (tot_memK h' ho' r' hr') h1 h2
theorem even_true {fuel:Nat} {R:List Update} (hf:20000000≤fuel) (hn:R.length≤4000000) (hs:R.Pairwise fun a b=>cU a b < 0) (hz:∀ r ∈ R,r.diff ≠ 0) (ho:∀ r ∈ R,okU r):diff_Even fuel R=some true:=by
 unfold diff_Even
 rw [diffCheck_eq (by omega),chkL_zero.2 ho]
 rw [rangeN_to () (fun _ _=>True) (fun _ _=>rfl)]
 ·rfl
 ·intro i a hi _
  refine ⟨(),?_,trivial⟩
  simp only [jn_eq,bf_decide]
  rw [if_neg (hz _ (getD_mem' hi))]
  by_cases g:0 < ((i:Nat):Int)
  ·rw [if_pos g,wsub1 (by omega) (by omega),need_true (by omega),cmpUpdate_eq]
   simp only [Option.bind_some,bf_decide,Int.toNat_natCast]
   rw [if_neg]
   rw [List.pairwise_iff_getElem] at hs
   have:=hs (i - 1) i (by omega) hi (by omega)
   rw [List.getD_eq_getElem?_getD,List.getElem?_eq_getElem (by omega:i - 1 < R.length),List.getD_eq_getElem?_getD,List.getElem?_eq_getElem hi]
   simp only [Option.getD_some]
   omega
  ·rw [if_neg g]
   rfl
 ·trivial
end Go.Av
namespace Go.Av
open Go
set_option linter.unusedVariables false
set_option linter.unusedSimpArgs false
theorem at_wt (l:List Update) (t:Time) (y:Count):sm cK (pK (atL l t)) y=wt (fun u=>leT u.time t && decide (cmpL cmpV y.row u.row=0)) (pU l):=by
 induction l with
 | nil=>rfl
 | cons u l ih =>
  have e:atL (u :: l) t=atL [u] t++atL l t:=atL_app [u] l t
  rw [e,show pK (atL [u] t++atL l t)=pK (atL [u] t)++pK (atL l t) from PR_append ..,sm_append,ih,atL_one]
  simp only [pU,PR,List.map_cons,wt]
  by_cases h:leT u.time t=true
  ·simp only [h,if_true,pK,PR,List.map_cons,List.map_nil,sm,Bool.true_and,decide_eq_true_eq,cK]
   omega
  ·have h' : leT u.time t=false:=by simpa using h
   simp [h',sm,PR]
theorem at_group {l l' : List Update} (t:Time) (h:∀ y,sm cU (pU l) y=sm cU (pU l') y) (y:Count):sm cK (pK (atL l t)) y=sm cK (pK (atL l' t)) y:=by
 rw [at_wt,at_wt]
 refine grp cU_is (fun a b hab => ?_) h
 unfold cU at hab
 rw [thenC_zero,thenC_zero,cmpT_zero] at hab
 rw [hab.2.2,cmpV_is.list.eqR y.row hab.2.1]
theorem tot_inU {l R:List Update} {e:Int} (h:TotU l R e):∀ r ∈ R,in64 r.diff:=fun r hr=>by
 rcases h with ⟨_,g,gf⟩ | ⟨_,rfl,_⟩
 ·rw [(g.sum r hr).1]; exact gf r
 ·cases hr
theorem tot_time {l R:List Update} {e:Int} (h:TotU l R e) (ht:∀ u ∈ l,nnTime u.time):∀ r ∈ R,nnTime r.time:=fun r hr=>by
 rcases h with ⟨_,g,_⟩ | ⟨_,rfl,_⟩
 ·obtain ⟨y,h1,h2⟩:=g.mem r hr
  obtain ⟨z,h3,h4⟩:=PR_mem.1 h1
  rw [h2,← h4]
  exact ht z h3
 ·cases hr
end Go.Av
namespace Go.Av
open Go
set_option linter.unusedVariables false
set_option linter.unusedSimpArgs false
def glb2 (a x:Time):Time:=⟨if x.epoch < a.epoch then x.epoch else a.epoch,(if x.loop.1 < a.loop.1 then x.loop.1 else a.loop.1,if x.loop.2 < a.loop.2 then x.loop.2 else a.loop.2)⟩
def glbL:List Time→Time
 | []=>zeroT
 | x :: l=>l.foldl glb2 x
theorem eqTime_self (a:Time):eqTime a a=true:=by simp [eqTime]
theorem glbL_append {l:List Time} (h:l ≠ []) (x:Time):glbL (l++[x])=glb2 (glbL l) x:=by
 cases l with
 | nil=>exact absurd rfl h
 | cons y l=>simp [glbL,List.foldl_append]
theorem foldLeast_eq (l:List Time):moment_fold__least l=some (glbL l):=by
 unfold moment_fold__least
 rw [rangeN_to (glbL l) (fun i a=>a=glbL (l.take i)) (fun s h=>by rw [h,List.take_length])]
 ·rfl
 ·intro i a hi ha
  refine ⟨_,?_,rfl⟩
  rw [take_succ_getD hi]
  simp only [jn_eq,rangeN,moment_least,Option.bind_some,bf_decide]
  rcases Nat.eq_zero_or_pos i with h0 | h0
  ·subst h0
   generalize l.getD 0 default=x at *
   simp [outK,glbL]
  ·rw [if_neg (by omega),glbL_append (by intro h; have h2:=congrArg List.length h; rw [List.length_take] at h2; simp only [List.length_nil] at h2; omega),← ha]
   generalize l.getD i default=x at *
   simp [outK,glb2]
 ·rfl
theorem mn_eq (a b:Int):(if b < a then b else a)=min a b:=by split <;> omega
theorem lub2_nn {a b:Time} (ha:nnTime a) (hb:nnTime b):nnTime (lub2 a b):=by
 obtain ⟨h1,h2,h3⟩:=ha
 obtain ⟨g1,g2,g3⟩:=hb
 simp only [nnTime,lub2,mx_eq]
 omega
theorem zero_nn:nnTime zeroT:=by simp [nnTime,zeroT]
theorem leT_anti {a b:Time} (h:leT a b=true) (g:leT b a=true):eqTime a b=true:=by
 simp only [leT,eqTime,Bool.and_eq_true,decide_eq_true_eq,Bool.and_true] at *
 omega
theorem glb2_nn {a b:Time} (ha:nnTime a) (hb:nnTime b):nnTime (glb2 a b):=by
 obtain ⟨h1,h2,h3⟩:=ha
 obtain ⟨g1,g2,g3⟩:=hb
 simp only [nnTime,glb2,mn_eq]
 omega
theorem lub2_le {a b t:Time}:leT (lub2 a b) t=true↔leT a t=true∧leT b t=true:=by
 simp only [leT_iff,lub2,mx_eq]; omega
theorem glb2_le {a b t:Time}:leT t (glb2 a b)=true↔leT t a=true∧leT t b=true:=by
 simp only [leT_iff,glb2,mn_eq]; omega
theorem foldl_glb2_le {t:Time}:∀ (l:List Time) (a:Time),leT t (l.foldl glb2 a)=true↔leT t a=true∧∀ x ∈ l,leT t x=true
 | [],a=>by simp
 | x :: l,a=>by
  simp only [List.foldl_cons,foldl_glb2_le l,glb2_le,List.forall_mem_cons]
  constructor <;> intro h <;> simp_all
theorem foldl_glb2_nn:∀ (l:List Time) (a:Time),nnTime a→(∀ x ∈ l,nnTime x)→nnTime (l.foldl glb2 a)
 | [],a,ha,_=>ha
 | x :: l,a,ha,h=>foldl_glb2_nn l _ (glb2_nn ha (h x (List.mem_cons_self ..))) fun y hy=>h y (List.mem_cons_of_mem _ hy)
theorem glbL_nn {l:List Time} (hl:∀ x ∈ l,nnTime x):nnTime (glbL l):=by
 cases l with
 | nil=>exact zero_nn
 | cons x l=>exact foldl_glb2_nn l x (hl x (List.mem_cons_self ..)) fun y hy=>hl y (List.mem_cons_of_mem _ hy)
theorem glbL_le {l:List Time} {t:Time} (h:l ≠ []):leT t (glbL l)=true↔∀ x ∈ l,leT t x=true:=by
 cases l with
 | nil=>exact absurd rfl h
 | cons x l=>simp only [glbL,foldl_glb2_le,List.forall_mem_cons]
end Go.Av
namespace Go.Av
open Go
set_option linter.unusedVariables false
set_option linter.unusedSimpArgs false
def ltT (x y:Time):Bool:=decide (cmpT x y < 0)
theorem insInner_loop {a fuel:Nat} {B:Int × List Time→Option (Ctl (Int × List Time) Empty)} {j:Nat} {d:Array Time} (hj:j < d.size) (hf:j < fuel)
  (hB:∀ (j:Nat) (d' : Array Time),j < d'.size→d'.size=d.size→B ((j:Int),d'.toList)=if a < j∧ltT d'[j]! d'[j - 1]! = true then some (.next (((j - 1:Nat):Int),(Sort.swp d' j (j - 1)).toList)) else some (.brk ((j:Int),d'.toList))) :
  ∃ x:Int,loopN B fuel ((j:Int),d.toList)=some (.done (x,(Sort.insInner ltT a j d).toList)):=by
 induction j generalizing d fuel with
 | zero =>
  cases fuel with
  | zero=>omega
  | succ fuel =>
   refine ⟨0,loopN_brk (s':=(((0:Nat):Int),d.toList)) ?_⟩
   rw [hB 0 d hj rfl,if_neg (by omega)]
 | succ j ih =>
  cases fuel with
  | zero=>omega
  | succ fuel =>
   have h:=hB (j + 1) d hj rfl
   rw [Nat.add_sub_cancel] at h
   unfold Sort.insInner
   by_cases hc:a < j + 1∧ltT d[j + 1]! d[j]! = true
   ·rw [if_pos hc] at h
    rw [loopN_next h,if_pos (by simp [hc.1,hc.2])]
    exact ih (by rw [swp_sz]; omega) (by omega) (fun k d' h1 h2=>hB k d' h1 (by rw [h2,swp_sz]))
   ·rw [if_neg hc] at h
    rw [loopN_brk h,if_neg (by simpa using hc)]
    exact ⟨_,rfl⟩
theorem insOuter_loop {a b fuel:Nat} {B:Int × List Time→Option (Ctl (Int × List Time) Empty)} {n i:Nat} {d:Array Time} (hn:b - i=n) (hb:b≤d.size) (hf:b - i < fuel)
  (hB:∀ (i:Nat) (d' : Array Time),d'.size=d.size→B ((i:Int),d'.toList)=if i < b then some (.next (((i + 1:Nat):Int),(Sort.insInner ltT a i d').toList)) else some (.brk ((i:Int),d'.toList)))
  (hs:∀ (i:Nat) (d' : Array Time),(Sort.insInner ltT a i d').size=d'.size) :
  ∃ x:Int,loopN B fuel ((i:Int),d.toList)=some (.done (x,(Sort.insOuter ltT a b i d).toList)):=by
 induction n generalizing i d fuel with
 | zero =>
  cases fuel with
  | zero=>omega
  | succ fuel =>
   have h:=hB i d rfl
   rw [if_neg (by omega)] at h
   rw [loopN_brk h,Sort.insOuter,if_neg (by omega)]
   exact ⟨_,rfl⟩
 | succ n ih =>
  cases fuel with
  | zero=>omega
  | succ fuel =>
   have h:=hB i d rfl
   rw [if_pos (by omega)] at h
   rw [loopN_next h,Sort.insOuter,if_pos (by omega)]
   exact ih (by omega) (by rw [hs]; omega) (by omega) (fun k d' h1=>hB k d' (by rw [h1,hs]))
theorem insInner_sz (a:Nat):∀ (j:Nat) (d:Array Time),(Sort.insInner ltT a j d).size=d.size
 | 0,d=>rfl
 | j + 1,d=>by
  unfold Sort.insInner
  split
  ·rw [insInner_sz a j,swp_sz]
  ·rfl
theorem insertion_eq {fuel a b:Nat} {d:Array Time} (hb:b≤d.size) (hd:d.size < 4611686018427387904) (ha:a < 4611686018427387903) (hf:d.size < fuel) :
  slices_insertionSortCmpFunc_Time__Compare_w fuel (a:Int) (b:Int) d.toList=some (Sort.insertionSort ltT d a b).toList:=by
 unfold slices_insertionSortCmpFunc_Time__Compare_w Sort.insertionSort
 rw [wadd1 (by omega)]
 refine outK_ex (insOuter_loop (a:=a) (b:=b) (i:=a + 1) (d:=d) rfl hb (by omega) ?_ (insInner_sz a)) (fun x=>rfl)
 intro i d' hd'
 simp only [bf_decide,intlt]
 by_cases hi:i < b
 ·rw [if_pos hi,if_pos hi]
  refine outK_ex (insInner_loop (a:=a) (j:=i) (d:=d') (by omega) (by omega) ?_) (fun x => ?_)
  ·intro j e hj he
   simp only [jn_eq,bf_decide,intlt]
   by_cases h1:a < j
   ·simp (disch:=omega) only [h1,if_true,wsub1,need_true,Int.toNat_natCast,Nat.zero_add,Array.length_toList,List.length_set,compare_eq,Option.bind_some,arr_get,arr_swp,true_and]
    unfold ltT
    by_cases h2:cmpT e[j]! e[j - 1]! < 0
    ·simp [h2]
    ·simp [h2]
   ·rw [if_neg h1,if_neg (fun h=>h1 h.1)]
    rfl
  ·rw [wadd1 (by omega)]
 ·rw [if_neg hi,if_neg hi]
end Go.Av
namespace Go.Av
open Go
set_option linter.unusedVariables false
set_option linter.unusedSimpArgs false
theorem siftDown_sz (hi first:Nat):∀ (n root:Nat) (d:Array Time),hi - root≤n→(Sort.siftDown ltT hi first root d).size=d.size:=by
 intro n
 induction n with
 | zero =>
  intro root d hn
  rw [Sort.siftDown,dif_pos (by omega)]
 | succ n ih =>
  intro root d hn
  rw [Sort.siftDown]
  split
  ·rfl
  ·split
   ·split
    ·rfl
    ·split
     ·rw [ih _ _ (by omega),swp_sz]
     ·rfl
   ·split
    ·rfl
    ·rw [ih _ _ (by omega),swp_sz]
def siftStep (hi first root:Nat) (d:Array Time):Option Nat :=
 if 2 * root + 1 ≥ hi then none else
  let c:=if 2 * root + 1 + 1 < hi∧ltT d[first + (2 * root + 1)]! d[first + (2 * root + 1) + 1]! = true then 2 * root + 2 else 2 * root + 1
  if ltT d[first + root]! d[first + c]! = true then some c else none
theorem siftDown_step (hi first root:Nat) (d:Array Time):Sort.siftDown ltT hi first root d=match siftStep hi first root d with
  | some c=>Sort.siftDown ltT hi first c (Sort.swp d (first + root) (first + c))
  | none=>d:=by
 rw [Sort.siftDown]
 unfold siftStep
 by_cases h1:2 * root + 1 ≥ hi
 ·rw [dif_pos h1,if_pos h1]
 ·rw [dif_neg h1,if_neg h1]
  by_cases h2:2 * root + 1 + 1 < hi∧ltT d[first + (2 * root + 1)]! d[first + (2 * root + 1) + 1]! = true
  ·rw [if_pos (by simpa using h2)]
   simp only [if_pos h2]
   by_cases h3:ltT d[first + root]! d[first + (2 * root + 2)]! = true
   ·rw [if_neg (by simp [h3]),dif_pos (by omega)]
    simp only [h3,if_true]
   ·rw [if_pos (by simpa using h3)]
    simp only [if_neg h3]
  ·rw [if_neg (by simpa using h2)]
   simp only [if_neg h2]
   by_cases h3:ltT d[first + root]! d[first + (2 * root + 1)]! = true
   ·rw [if_neg (by simp [h3])]
    simp only [h3,if_true]
   ·rw [if_pos (by simpa using h3)]
    simp only [if_neg h3]
theorem siftStep_gt {hi first root c:Nat} {d:Array Time} (h:siftStep hi first root d=some c):root < c∧c < hi:=by
 unfold siftStep at h
 split at h
 ·cases h
 ·dsimp only at h
  generalize hc:(if 2 * root + 1 + 1 < hi∧ltT d[first + (2 * root + 1)]! d[first + (2 * root + 1) + 1]! = true then 2 * root + 2 else 2 * root + 1)=k at h
  have hk:root < k∧k < hi:=by
   split at hc <;> omega
  split at h
  ·cases h; exact hk
  ·cases h
theorem sift_loop {hi first fuel:Nat} {B:Int × List Time→Option (Ctl (Int × List Time) (List Time))} {Q:Type} {kn:Int × List Time→Option Q} {kr:List Time→Option Q} {q:Option Q} {n root:Nat} {d:Array Time}
  (hn:hi - root≤n) (hf:n < fuel) (hsz:first + hi≤d.size)
  (hB:∀ (root:Nat) (d' : Array Time),d'.size=d.size→root≤1152921504606846976→B ((root:Int),d'.toList)=if 2 * root + 1 ≥ hi then some (.brk ((root:Int),d'.toList)) else match siftStep hi first root d' with
   | some c=>some (.next ((c:Int),(Sort.swp d' (first + root) (first + c)).toList))
   | none=>some (.ret d'.toList))
  (hr:root≤1152921504606846976) (hd:d.size≤1152921504606846976) (hkn:∀ x,kn (x,(Sort.siftDown ltT hi first root d).toList)=q) (hkr:kr (Sort.siftDown ltT hi first root d).toList=q) :
  outK (loopN B fuel ((root:Int),d.toList)) kn kr=q:=by
 induction n generalizing root d fuel with
 | zero =>
  cases fuel with
  | zero=>omega
  | succ fuel =>
   have h:=hB root d rfl hr
   have hs:=siftDown_step hi first root d
   have e:siftStep hi first root d=none:=by unfold siftStep; rw [if_pos (by omega)]
   rw [e] at hs
   simp only at hs
   rw [hs] at hkn hkr
   rw [if_pos (by omega)] at h
   rw [loopN_brk h]; exact hkn _
 | succ n ih =>
  cases fuel with
  | zero=>omega
  | succ fuel =>
   have h:=hB root d rfl hr
   have hs:=siftDown_step hi first root d
   cases e:siftStep hi first root d with
   | none =>
    rw [e] at h hs
    simp only at h hs
    rw [hs] at hkn hkr
    split at h
    ·rw [loopN_brk h]; exact hkn _
    ·rw [loopN_ret h]; exact hkr
   | some c =>
    have hc:=siftStep_gt e
    have hlt:¬ 2 * root + 1 ≥ hi:=fun hh=>by unfold siftStep at e; rw [if_pos hh] at e; cases e
    rw [e] at h hs
    rw [if_neg hlt] at h
    simp only at h hs
    rw [hs] at hkn hkr
    rw [loopN_next h]
    exact ih (by omega) (by omega) (by rw [swp_sz]; omega) (fun r d' h1 h2=>hB r d' (by rw [h1,swp_sz]) h2) (by omega) (by rw [swp_sz]; omega) hkn hkr
theorem siftDown_eq {fuel lo hi first:Nat} {d:Array Time} (hsz:first + hi≤d.size) (hd:d.size < 1152921504606846976) (hlo:lo < 1152921504606846976) (hf:d.size < fuel) :
  slices_siftDownCmpFunc_Time__Compare_w fuel (lo:Int) (hi:Int) (first:Int) d.toList=some (Sort.siftDown ltT hi first lo d).toList:=by
 unfold slices_siftDownCmpFunc_Time__Compare_w
 refine sift_loop (hi:=hi) (first:=first) (n:=hi) (by omega) (by omega) hsz ?_ (by omega) (by omega) (fun x=>rfl) rfl
 intro root e he hroot
 have hw1:IntKind.i64.wrap (IntKind.i64.wrap ((2:Int) * (root:Int)) + 1)=((2 * root + 1:Nat):Int):=by rw [wtwo (by omega),wadd1 (by omega)]
 simp only [hw1,bf_decide,jn_eq]
 by_cases h1:2 * root + 1 ≥ hi
 ·rw [if_pos h1,if_pos (by omega)]
 ·rw [if_neg h1,if_neg (by omega)]
  unfold siftStep
  rw [if_neg h1]
  have hw2:IntKind.i64.wrap (((2 * root + 1:Nat):Int) + 1)=((2 * root + 1 + 1:Nat):Int):=wadd1 (by omega)
  have hw3:IntKind.i64.wrap ((first:Int) + ((2 * root + 1:Nat):Int))=((first + (2 * root + 1):Nat):Int):=wadd (by omega)
  have hw4:IntKind.i64.wrap (((first + (2 * root + 1):Nat):Int) + 1)=((first + (2 * root + 1) + 1:Nat):Int):=wadd1 (by omega)
  have hw5:IntKind.i64.wrap ((first:Int) + (root:Int))=((first + root:Nat):Int):=wadd (by omega)
  have hw6:IntKind.i64.wrap ((first:Int) + ((2 * root + 1 + 1:Nat):Int))=((first + (2 * root + 2):Nat):Int):=by rw [wadd (by omega)]
  simp only [hw2,hw3,hw4,hw5,hw6,intlt,Int.toNat_natCast,Nat.zero_add]
  by_cases h2:2 * root + 1 + 1 < hi
  ·rw [if_pos h2]
   simp (disch:=omega) only [need_true,Array.length_toList,compare_eq,Option.bind_some,arr_get]
   by_cases h3:cmpT e[first + (2 * root + 1)]! e[first + (2 * root + 1) + 1]! < 0
   ·have h4:2 * root + 1 + 1 < hi∧ltT e[first + (2 * root + 1)]! e[first + (2 * root + 1) + 1]! = true:=⟨h2,by unfold ltT; simp [h3]⟩
    simp (disch:=omega) only [h3,if_true,if_pos h4,hw6,Int.toNat_natCast,Nat.zero_add,need_true,Array.length_toList,List.length_set,compare_eq,Option.bind_some,arr_get,arr_swp]
    unfold ltT
    by_cases h:cmpT e[first + root]! e[first + (2 * root + 2)]! < 0
    ·simp [h]; omega
    ·simp [h]
   ·have h4:¬ (2 * root + 1 + 1 < hi∧ltT e[first + (2 * root + 1)]! e[first + (2 * root + 1) + 1]! = true):=fun h=>h3 (by have:=h.2; unfold ltT at this; simpa using this)
    simp (disch:=omega) only [h3,if_false,if_neg h4,hw3,Int.toNat_natCast,Nat.zero_add,need_true,Array.length_toList,List.length_set,compare_eq,Option.bind_some,arr_get,arr_swp]
    unfold ltT
    by_cases h:cmpT e[first + root]! e[first + (2 * root + 1)]! < 0
    ·simp [h]
    ·simp [h]
  ·rw [if_neg h2]
   have h4:¬ (2 * root + 1 + 1 < hi∧ltT e[first + (2 * root + 1)]! e[first + (2 * root + 1) + 1]! = true):=fun h=>h2 h.1
   simp (disch:=omega) only [bf_false,if_neg h4,hw3,Int.toNat_natCast,Nat.zero_add,need_true,Array.length_toList,List.length_set,compare_eq,Option.bind_some,arr_get,arr_swp]
   unfold ltT
   by_cases h:cmpT e[first + root]! e[first + (2 * root + 1)]! < 0
   ·simp [h]
   ·simp [h]
end Go.Av
namespace Go.Av
open Go
set_option linter.unusedVariables false
set_option linter.unusedSimpArgs false
theorem sift_sz (hi first root:Nat) (d:Array Time):(Sort.siftDown ltT hi first root d).size=d.size:=siftDown_sz hi first hi root d (by omega)
theorem down_loop {B:Int × List Time→Option (Ctl (Int × List Time) Empty)} (g h:Nat→Array Time→Array Time) {k k0 fuel:Nat} {d:Array Time} (hk:k≤k0) (hg:∀ k d,(g k d).size=d.size) (hf:k < fuel)
  (hB:∀ (k:Nat) (d' : Array Time),k≤k0→d'.size=d.size→B ((k:Int) - 1,d'.toList)=match k with | 0=>some (.brk (-1,d'.toList)) | k + 1=>some (.next ((k:Int) - 1,(g k d').toList)))
  (h0:∀ d,h 0 d=d) (h1:∀ k d,h (k + 1) d=h k (g k d)) :
  ∃ x:Int,loopN B fuel ((k:Int) - 1,d.toList)=some (.done (x,(h k d).toList)):=by
 induction k generalizing d fuel with
 | zero =>
  cases fuel with
  | zero=>omega
  | succ fuel=>exact ⟨-1,by rw [loopN_brk (hB 0 d hk rfl),h0]⟩
 | succ k ih =>
  cases fuel with
  | zero=>omega
  | succ fuel =>
   rw [loopN_next (hB (k + 1) d hk rfl),h1]
   exact ih (by omega) (by omega) (fun k' d' h2 h=>hB k' d' h2 (by rw [h,hg]))
theorem heapBuild_sz (hi first:Nat):∀ (k:Nat) (d:Array Time),(Sort.heapBuild ltT hi first k d).size=d.size
 | 0,d=>rfl
 | k + 1,d=>by unfold Sort.heapBuild; rw [heapBuild_sz hi first k,sift_sz]
theorem heapSort_eq {fuel a b:Nat} {d:Array Time} (hab:a < b) (hb:b≤d.size) (hd:d.size < 1152921504606846976) (hf:d.size + 2 < fuel) :
  slices_heapSortCmpFunc_Time__Compare_w fuel (a:Int) (b:Int) d.toList=some (Sort.heapSort ltT d a b).toList:=by
 unfold slices_heapSortCmpFunc_Time__Compare_w Sort.heapSort
 have e0:IntKind.i64.wrap ((b:Int) - (a:Int))=((b - a:Nat):Int):=wsub (by omega) (by omega)
 have e1:IntKind.i64.wrap (((b - a:Nat):Int) - 1)=(((b - a:Nat):Int) - 1):=wrap_small (by omega) (by omega)
 have e2:IntKind.i64.wrap ((((b - a:Nat):Int) - 1).tdiv 2)=(((b - a - 1) / 2 + 1:Nat):Int) - 1:=by
  rw [Int.tdiv_eq_ediv_of_nonneg (by omega),wrap_small (by omega) (by omega)]; omega
 rw [e0,e1,e2]
 refine outK_ex (down_loop (k0:=(b - a - 1) / 2 + 1) (fun k d=>Sort.siftDown ltT (b - a) a k d) (fun k d=>Sort.heapBuild ltT (b - a) a k d) (Nat.le_refl _) (fun k d=>sift_sz _ _ _ _) (by omega) ?_ (fun d=>rfl) (fun k d=>rfl)) (fun x => ?_)
 ·intro k e hk he
  simp only [bf_decide]
  cases k with
  | zero=>rw [if_neg (by omega)]; rfl
  | succ k =>
   rw [if_pos (by omega),show ((k + 1:Nat):Int) - 1=(k:Int) by omega,siftDown_eq (by omega) (by omega) (by omega) (by omega),Option.bind_some]
   rw [need_true (by rw [Array.length_toList,Array.length_toList,sift_sz]),wrap_i64_in (by unfold in64; omega)]
 ·have hsz:=heapBuild_sz (b - a) a ((b - a - 1) / 2 + 1) d
  simp only
  generalize Sort.heapBuild ltT (b - a) a ((b - a - 1) / 2 + 1) d=d1 at *
  refine outK_ex (down_loop (k0:=b - a) (fun k d=>Sort.siftDown ltT k a 0 (Sort.swp d a (a + k))) (fun k d=>Sort.heapPop ltT a k d) (Nat.le_refl _) (fun k d=>by rw [sift_sz,swp_sz]) (by omega) ?_ (fun d=>rfl) (fun k d=>rfl)) (fun x=>rfl)
  intro k e hk he
  simp only [bf_decide]
  cases k with
  | zero=>rw [if_neg (by omega)]; rfl
  | succ k =>
   rw [if_pos (by omega),show ((k + 1:Nat):Int) - 1=(k:Int) by omega]
   have w1:IntKind.i64.wrap ((a:Int) + (k:Int))=((a + k:Nat):Int):=wadd (by omega)
   have w2:IntKind.i64.wrap ((k:Int) - 1)=(k:Int) - 1:=wrap_i64_in (by unfold in64; omega)
   have hs:=siftDown_eq (fuel:=fuel) (lo:=0) (hi:=k) (first:=a) (d:=Sort.swp e a (a + k)) (by rw [swp_sz]; omega) (by rw [swp_sz]; omega) (by omega) (by rw [swp_sz]; omega)
   rw [show ((0:Nat):Int)=0 from rfl] at hs
   simp (disch:=omega) only [w1,w2,Int.toNat_natCast,Nat.zero_add,need_true,Array.length_toList,List.length_set,arr_get,arr_swp,hs,Option.bind_some,sift_sz,swp_sz]
   rw [need_true trivial]
theorem order2_eq {a b s:Nat} {d:Array Time} (ha:a < d.size) (hb:b < d.size) (hs:s < 1000):slices_order2CmpFunc_Time__Compare_w d.toList (a:Int) (b:Int) (s:Int)=some (((Sort.order2 ltT d a b s).1:Int),((Sort.order2 ltT d a b s).2.1:Int),((Sort.order2 ltT d a b s).2.2:Int)):=by
 unfold slices_order2CmpFunc_Time__Compare_w Sort.order2
 simp (disch:=omega) only [Int.toNat_natCast,need_true,Array.length_toList,compare_eq,Option.bind_some,arr_get,wadd1,bf_decide]
 unfold ltT
 by_cases h:cmpT d[b]! d[a]! < 0
 ·simp [h]
 ·simp [h]
theorem order2_mem2 {a b s:Nat} {d:Array Time}:((Sort.order2 ltT d a b s).1=a∧(Sort.order2 ltT d a b s).2.1=b∨(Sort.order2 ltT d a b s).1=b∧(Sort.order2 ltT d a b s).2.1=a)∧(Sort.order2 ltT d a b s).2.2≤s + 1:=by
 unfold Sort.order2
 split
 ·exact ⟨.inr ⟨rfl,rfl⟩,Nat.le_refl _⟩
 ·exact ⟨.inl ⟨rfl,rfl⟩,Nat.le_succ _⟩
theorem median_eq {a b c s:Nat} {d:Array Time} (ha:a < d.size) (hb:b < d.size) (hc:c < d.size) (hs:s < 900):slices_medianCmpFunc_Time__Compare_w d.toList (a:Int) (b:Int) (c:Int) (s:Int)=some (((Sort.median ltT d a b c s).1:Int),((Sort.median ltT d a b c s).2:Int)):=by
 unfold slices_medianCmpFunc_Time__Compare_w
 have m1:=order2_mem2 (a:=a) (b:=b) (s:=s) (d:=d)
 rw [order2_eq ha hb (by omega),Option.bind_some]
 have e:Sort.median ltT d a b c s=(let r2:=Sort.order2 ltT d (Sort.order2 ltT d a b s).2.1 c (Sort.order2 ltT d a b s).2.2; let r3:=Sort.order2 ltT d (Sort.order2 ltT d a b s).1 r2.1 r2.2.2; (r3.2.1,r3.2.2)):=rfl
 rw [e]
 generalize Sort.order2 ltT d a b s=r1 at *
 have m2:=order2_mem2 (a:=r1.2.1) (b:=c) (s:=r1.2.2) (d:=d)
 simp only
 rw [order2_eq (by omega) hc (by omega),Option.bind_some]
 generalize Sort.order2 ltT d r1.2.1 c r1.2.2=r2 at *
 simp only
 rw [order2_eq (by omega) (by omega) (by omega),Option.bind_some]
theorem median_cnt {a b c s:Nat} {d:Array Time}:(Sort.median ltT d a b c s).2≤s + 3:=by
 have e:Sort.median ltT d a b c s=(let r2:=Sort.order2 ltT d (Sort.order2 ltT d a b s).2.1 c (Sort.order2 ltT d a b s).2.2; let r3:=Sort.order2 ltT d (Sort.order2 ltT d a b s).1 r2.1 r2.2.2; (r3.2.1,r3.2.2)):=rfl
 rw [e]
 have m1:=order2_mem2 (a:=a) (b:=b) (s:=s) (d:=d)
 generalize Sort.order2 ltT d a b s=r1 at *
 have m2:=order2_mem2 (a:=r1.2.1) (b:=c) (s:=r1.2.2) (d:=d)
 simp only
 generalize Sort.order2 ltT d r1.2.1 c r1.2.2=r2 at *
 have m3:=order2_mem2 (a:=r1.1) (b:=r2.1) (s:=r2.2.2) (d:=d)
 omega
theorem medianAdjacent_eq {a s:Nat} {d:Array Time} (h1:1≤a) (ha:a + 1 < d.size) (hd:d.size < 1152921504606846976) (hs:s < 900):slices_medianAdjacentCmpFunc_Time__Compare_w d.toList (a:Int) (s:Int)=some (((Sort.medianAdjacent ltT d a s).1:Int),((Sort.medianAdjacent ltT d a s).2:Int)):=by
 unfold slices_medianAdjacentCmpFunc_Time__Compare_w Sort.medianAdjacent
 rw [wsub1 h1 (by omega),wadd1 (by omega),median_eq (by omega) (by omega) ha hs,Option.bind_some]
def hintN:Sort.Hint→Int
 | .unknown=>0
 | .increasing=>1
 | .decreasing=>2
theorem medianAdjacent_cnt {a s:Nat} {d:Array Time}:(Sort.medianAdjacent ltT d a s).2≤s + 3:=median_cnt
theorem pivot50 {Q : Type} {i j k : Nat} {d : Array Time} (hd : d.size < 1152921504606846976) (hi : 1 ≤ i ∧ i + 1 < d.size) (hj : 1 ≤ j ∧ j + 1 < d.size) (hk : 1 ≤ k ∧ k + 1 < d.size) {K : Int × Int → Option Q} {r1 r2 r3 : Nat × Nat}
    (h1 : Sort.medianAdjacent ltT d i 0 = r1) (h2 : Sort.medianAdjacent ltT d j r1.2 = r2) (h3 : Sort.medianAdjacent ltT d k r2.2 = r3) :
    ((slices_medianAdjacentCmpFunc_Time__Compare_w d.toList (i : Int) 0).bind fun r6 => (slices_medianAdjacentCmpFunc_Time__Compare_w d.toList (j : Int) r6.2).bind fun r7 => (slices_medianAdjacentCmpFunc_Time__Compare_w d.toList (k : Int) r7.2).bind fun r8 => (slices_medianCmpFunc_Time__Compare_w d.toList r6.1 r7.1 r8.1 r8.2).bind K)
      = K (((Sort.median ltT d r1.1 r2.1 r3.1 r3.2).1 : Int), ((Sort.median ltT d r1.1 r2.1 r3.1 r3.2).2 : Int)) ∧ (Sort.median ltT d r1.1 r2.1 r3.1 r3.2).2 < 1000 := by
  have z : ((0 : Nat) : Int) = 0 := rfl
  have q1 := medianAdjacent_eq (a := i) (s := 0) (d := d) hi.1 hi.2 hd (by omega)
  have c1 := medianAdjacent_cnt (a := i) (s := 0) (d := d)
  have p1 := Sort.medianAdjacent_mem ltT d i 0
  rw [z, h1] at q1
  rw [h1] at c1 p1
  have q2 := medianAdjacent_eq (a := j) (s := r1.2) (d := d) hj.1 hj.2 hd (by omega)
  have c2 := medianAdjacent_cnt (a := j) (s := r1.2) (d := d)
  have p2 := Sort.medianAdjacent_mem ltT d j r1.2
  rw [h2] at q2 c2 p2
  have q3 := medianAdjacent_eq (a := k) (s := r2.2) (d := d) hk.1 hk.2 hd (by omega)
  have c3 := medianAdjacent_cnt (a := k) (s := r2.2) (d := d)
  have p3 := Sort.medianAdjacent_mem ltT d k r2.2
  rw [h3] at q3 c3 p3
  have q4 := median_eq (a := r1.1) (b := r2.1) (c := r3.1) (s := r3.2) (d := d) (by omega) (by omega) (by omega) (by omega)
  have c4 := median_cnt (a := r1.1) (b := r2.1) (c := r3.1) (s := r3.2) (d := d)
  rw [q1, Option.bind_some]
  simp only
  rw [q2, Option.bind_some]
  simp only
  rw [q3, Option.bind_some]
  simp only
  rw [q4, Option.bind_some]
  exact ⟨rfl, by omega⟩
theorem pivotFin {r:Nat × Nat}:(if ((r.2:Nat):Int)=0 then some (((r.1:Nat):Int),(1:Int)) else if ((r.2:Nat):Int)=12 then some (((r.1:Nat):Int),2) else some (((r.1:Nat):Int),0))=some (((r.1:Nat):Int),hintN (Sort.hintOf r.2)):=by
 unfold Sort.hintOf
 by_cases h1:r.2=0
 ·rw [if_pos (by omega),if_pos h1]; rfl
 ·rw [if_neg (by omega),if_neg h1]
  by_cases h2:r.2=12
  ·rw [if_pos (by omega),if_pos h2]; rfl
  ·rw [if_neg (by omega),if_neg h2]; rfl
theorem choosePivot_eq {a b:Nat} {d:Array Time} (hab:a < b) (hb:b≤d.size) (hd:d.size < 1152921504606846976) :
  slices_choosePivotCmpFunc_Time__Compare d.toList (a:Int) (b:Int)=some (((Sort.choosePivot ltT d a b).1:Int),hintN (Sort.choosePivot ltT d a b).2):=by
 unfold slices_choosePivotCmpFunc_Time__Compare
 have e0:IntKind.i64.wrap ((b:Int) - (a:Int))=((b - a:Nat):Int):=wsub (by omega) (by omega)
 have e1:IntKind.i64.wrap (((b - a:Nat):Int).tdiv 4)=(((b - a) / 4:Nat):Int):=by rw [Int.tdiv_eq_ediv_of_nonneg (by omega),wrap_small (by omega) (by omega)]; omega
 have m:∀ k:Nat,k≤3→IntKind.i64.wrap ((a:Int) + IntKind.i64.wrap ((((b - a) / 4:Nat):Int) * (k:Int)))=((a + (b - a) / 4 * k:Nat):Int):=fun k hk=>by
  have h1:(b - a) / 4 * k≤b - a:=Nat.le_trans (Nat.mul_le_mul_left _ hk) (by omega)
  have h2:(((b - a) / 4:Nat):Int) * (k:Int)=(((b - a) / 4 * k:Nat):Int):=by rw [Int.natCast_mul]
  have h3:IntKind.i64.wrap (((b - a) / 4 * k:Nat):Int)=(((b - a) / 4 * k:Nat):Int):=wrap_i64_in (by unfold in64; omega)
  rw [h2,h3,wadd (by omega)]
 have m1:=m 1 (by omega)
 have m2:=m 2 (by omega)
 have m3:=m 3 (by omega)
 rw [show ((1:Nat):Int)=1 from rfl] at m1
 rw [show ((2:Nat):Int)=2 from rfl] at m2
 rw [show ((3:Nat):Int)=3 from rfl] at m3
 simp only [e0,e1,m1,m2,m3,jn_eq,bf_decide]
 rw [Sort.choosePivot_eq]
 clear e0 e1 m m1 m2 m3
 have hraw:Sort.rawPivot ltT d a b=if b - a ≥ 8 then (if b - a ≥ 50 then (Sort.median ltT d (Sort.medianAdjacent ltT d (a + (b - a) / 4 * 1) 0).1 (Sort.medianAdjacent ltT d (a + (b - a) / 4 * 2) (Sort.medianAdjacent ltT d (a + (b - a) / 4 * 1) 0).2).1 (Sort.medianAdjacent ltT d (a + (b - a) / 4 * 3) (Sort.medianAdjacent ltT d (a + (b - a) / 4 * 2) (Sort.medianAdjacent ltT d (a + (b - a) / 4 * 1) 0).2).2).1 (Sort.medianAdjacent ltT d (a + (b - a) / 4 * 3) (Sort.medianAdjacent ltT d (a + (b - a) / 4 * 2) (Sort.medianAdjacent ltT d (a + (b - a) / 4 * 1) 0).2).2).2)
   else (Sort.median ltT d (a + (b - a) / 4 * 1) (a + (b - a) / 4 * 2) (a + (b - a) / 4 * 3) 0)) else (a + (b - a) / 4 * 2,0):=rfl
 rw [hraw]
 by_cases h8:b - a ≥ 8
 ·rw [if_pos (by omega),if_pos h8]
  by_cases h50:b - a ≥ 50
  ·rw [if_pos (by omega),if_pos h50]
   obtain ⟨q,_⟩:=pivot50 (d:=d) (i:=a + (b - a) / 4 * 1) (j:=a + (b - a) / 4 * 2) (k:=a + (b - a) / 4 * 3) (K:=fun (a1:Int × Int)=>if a1.2=0 then some (a1.1,(1:Int)) else if a1.2=12 then some (a1.1,2) else some (a1.1,0)) hd (by omega) (by omega) (by omega) rfl rfl rfl
   exact q.trans pivotFin
  ·rw [if_neg (by omega),if_neg h50]
   have z:((0:Nat):Int)=0:=rfl
   have q1:=median_eq (a:=a + (b - a) / 4 * 1) (b:=a + (b - a) / 4 * 2) (c:=a + (b - a) / 4 * 3) (s:=0) (d:=d) (by omega) (by omega) (by omega) (by omega)
   rw [z] at q1
   simp only
   rw [q1,Option.bind_some]
   exact pivotFin
 ·rw [if_neg (by omega),if_neg h8]
  exact pivotFin (r:=(a + (b - a) / 4 * 2,0))
theorem reverse_loop {B:Int × Int × List Time→Option (Ctl (Int × Int × List Time) Empty)} {n i j fuel:Nat} {d:Array Time} (hn:j - i≤n) (hf:n < fuel) (hj:j < d.size)
  (hB:∀ (i j:Nat) (d' : Array Time),d'.size=d.size→j < d.size→B ((i:Int),(j:Int),d'.toList)=if i < j then some (.next (((i + 1:Nat):Int),((j - 1:Nat):Int),(Sort.swp d' i j).toList)) else some (.brk ((i:Int),(j:Int),d'.toList))) :
  ∃ x y:Int,loopN B fuel ((i:Int),(j:Int),d.toList)=some (.done (x,y,(Sort.reverseLoop i j d).toList)):=by
 induction n generalizing i j d fuel with
 | zero =>
  cases fuel with
  | zero=>omega
  | succ fuel =>
   have h:=hB i j d rfl hj
   rw [if_neg (by omega)] at h
   rw [loopN_brk h,Sort.reverseLoop,if_neg (by omega)]
   exact ⟨_,_,rfl⟩
 | succ n ih =>
  cases fuel with
  | zero=>omega
  | succ fuel =>
   have h:=hB i j d rfl hj
   by_cases hij:i < j
   ·rw [if_pos hij] at h
    rw [loopN_next h,Sort.reverseLoop,if_pos hij]
    exact ih (by omega) (by omega) (by rw [swp_sz]; omega) (fun i' j' d' h1 h2=>hB i' j' d' (by rw [h1,swp_sz]) (by rw [swp_sz] at h2; exact h2))
   ·rw [if_neg hij] at h
    rw [loopN_brk h,Sort.reverseLoop,if_neg hij]
    exact ⟨_,_,rfl⟩
theorem outK_ex2 {X Y Z R Q:Type} {o:Option (Out (X × Y × Z) R)} {kn:X × Y × Z→Option Q} {kr:R→Option Q} {r:Z} {q:Option Q} (h:∃ (x:X) (y:Y),o=some (.done (x,y,r))) (hk:∀ x y,kn (x,y,r)=q):outK o kn kr=q:=by
 obtain ⟨x,y,h⟩:=h
 rw [h]
 exact hk x y
theorem reverseRange_eq {fuel a b:Nat} {d:Array Time} (hab:a < b) (hb:b≤d.size) (hd:d.size < 1152921504606846976) (hf:d.size + 2 < fuel) :
  slices_reverseRangeCmpFunc_Time__Compare_w fuel (a:Int) (b:Int) d.toList=some (Sort.reverseRange d a b).toList:=by
 unfold slices_reverseRangeCmpFunc_Time__Compare_w Sort.reverseRange
 rw [wsub1 (by omega) (by omega)]
 refine outK_ex2 (reverse_loop (n:=d.size) (by omega) (by omega) (by omega) ?_) (fun x y=>rfl)
 intro i j e he hj
 simp only [bf_decide,intlt]
 by_cases hij:i < j
 ·rw [if_pos hij,if_pos hij]
  simp (disch:=omega) only [wsub1,wadd1,Int.toNat_natCast,Nat.zero_add,need_true,Array.length_toList,List.length_set,arr_get,arr_swp]
 ·rw [if_neg hij,if_neg hij]
end Go.Av
namespace Go.Av
open Go
set_option linter.unusedVariables false
set_option linter.unusedSimpArgs false
section
variable {α:Type} [Inhabited α]
theorem scanUp_le (p : α → Bool) (d:Array α) (j:Nat):∀ (n i:Nat),j + 1 - i≤n→Sort.scanUp p d j i≤max i (j + 1)∧i≤Sort.scanUp p d j i:=by
 intro n
 induction n with
 | zero =>
  intro i hn
  rw [Sort.scanUp,if_neg (by simp; omega)]
  omega
 | succ n ih =>
  intro i hn
  rw [Sort.scanUp]
  split
  ·rename_i h
   have:i≤j:=by simp at h; exact h.1
   have:=ih (i + 1) (by omega)
   omega
  ·omega
theorem scanDown_le' (p : α → Bool) (d:Array α) (i:Nat):∀ (j:Nat),Sort.scanDown p d i j≤j
 | 0=>Nat.le_refl _
 | j + 1=>by
  unfold Sort.scanDown
  split
  ·have:=scanDown_le' p d i j; omega
  ·omega
theorem scanUp_loop {S R:Type} {B:S→Option (Ctl S R)} (e:Nat→S) (p : α → Bool) (d:Array α) {j:Nat}:∀ (n i fuel:Nat),j + 1 - i≤n→n < fuel→(∀ i',i≤i' → i' ≤ max i (j + 1)→B (e i')=if i' ≤ j∧p d[i']! = true then some (.next (e (i' + 1))) else some (.brk (e i'))) →
  loopN B fuel (e i)=some (.done (e (Sort.scanUp p d j i))):=by
 intro n
 induction n with
 | zero =>
  intro i fuel hn hf hB
  cases fuel with
  | zero=>omega
  | succ fuel =>
   have h:=hB i (Nat.le_refl _) (by omega)
   rw [if_neg (by omega)] at h
   rw [loopN_brk h,Sort.scanUp,if_neg (by simp; omega)]
 | succ n ih =>
  intro i fuel hn hf hB
  cases fuel with
  | zero=>omega
  | succ fuel =>
   have h:=hB i (Nat.le_refl _) (by omega)
   by_cases hc:i≤j∧p d[i]! = true
   ·rw [if_pos hc] at h
    rw [loopN_next h,Sort.scanUp,if_pos (by simpa using hc)]
    exact ih (i + 1) fuel (by omega) (by omega) (fun i' h1 h2=>hB i' (by omega) (by omega))
   ·rw [if_neg hc] at h
    rw [loopN_brk h,Sort.scanUp,if_neg (by simpa using hc)]
theorem scanDown_loop {S R:Type} {B:S→Option (Ctl S R)} (e:Nat→S) (p : α → Bool) (d:Array α) {i:Nat} (hi:1≤i):∀ (j fuel:Nat),j < fuel→(∀ j',j' ≤ j→B (e j')=if i≤j' ∧ p d[j']! = true then some (.next (e (j' - 1))) else some (.brk (e j'))) →
  loopN B fuel (e j)=some (.done (e (Sort.scanDown p d i j))):=by
 intro j
 induction j with
 | zero =>
  intro fuel hf hB
  cases fuel with
  | zero=>omega
  | succ fuel =>
   have h:=hB 0 (Nat.le_refl _)
   rw [if_neg (by omega)] at h
   rw [loopN_brk h]; rfl
 | succ j ih =>
  intro fuel hf hB
  cases fuel with
  | zero=>omega
  | succ fuel =>
   have h:=hB (j + 1) (Nat.le_refl _)
   unfold Sort.scanDown
   by_cases hc:i≤j + 1∧p d[j + 1]! = true
   ·rw [if_pos hc] at h
    rw [loopN_next h,if_pos (by simpa using hc)]
    exact ih fuel (by omega) (fun j' h1=>hB j' (by omega))
   ·rw [if_neg hc] at h
    rw [loopN_brk h,if_neg (by simpa using hc)]
end
theorem partLoop_unf (a i j:Nat) (d:Array Time):Sort.partLoop ltT a i j d =
  if Sort.scanUp (fun x=>ltT x d[a]!) d j i > Sort.scanDown (fun x => !ltT x d[a]!) d (Sort.scanUp (fun x=>ltT x d[a]!) d j i) j then (Sort.scanDown (fun x => !ltT x d[a]!) d (Sort.scanUp (fun x=>ltT x d[a]!) d j i) j,d)
  else Sort.partLoop ltT a (Sort.scanUp (fun x=>ltT x d[a]!) d j i + 1) (Sort.scanDown (fun x => !ltT x d[a]!) d (Sort.scanUp (fun x=>ltT x d[a]!) d j i) j - 1) (Sort.swp d (Sort.scanUp (fun x=>ltT x d[a]!) d j i) (Sort.scanDown (fun x => !ltT x d[a]!) d (Sort.scanUp (fun x=>ltT x d[a]!) d j i) j)):=Sort.partLoop_eq ltT a i j d
theorem partEqLoop_unf (a i j:Nat) (d:Array Time):Sort.partEqLoop ltT a i j d =
  if Sort.scanUp (fun x => !ltT d[a]! x) d j i > Sort.scanDown (fun x=>ltT d[a]! x) d (Sort.scanUp (fun x => !ltT d[a]! x) d j i) j then (Sort.scanUp (fun x => !ltT d[a]! x) d j i,d)
  else Sort.partEqLoop ltT a (Sort.scanUp (fun x => !ltT d[a]! x) d j i + 1) (Sort.scanDown (fun x=>ltT d[a]! x) d (Sort.scanUp (fun x => !ltT d[a]! x) d j i) j - 1) (Sort.swp d (Sort.scanUp (fun x => !ltT d[a]! x) d j i) (Sort.scanDown (fun x=>ltT d[a]! x) d (Sort.scanUp (fun x => !ltT d[a]! x) d j i) j)):=Sort.partEqLoop_eq ltT a i j d
theorem part_loop {B:Int × Int × List Time→Option (Ctl (Int × Int × List Time) Empty)} {a:Nat}:∀ (n i j fuel:Nat) (d:Array Time),j + 1 - i≤n→n < fuel→1≤i→i≤d.size→j < d.size →
  (∀ (i j:Nat) (d' : Array Time),d'.size=d.size→1≤i→i≤d.size→j < d.size→B ((i:Int),(j:Int),d'.toList) =
   if Sort.scanUp (fun x=>ltT x d'[a]!) d' j i > Sort.scanDown (fun x => !ltT x d'[a]!) d' (Sort.scanUp (fun x=>ltT x d'[a]!) d' j i) j
   then some (.brk (((Sort.scanUp (fun x=>ltT x d'[a]!) d' j i:Nat):Int),((Sort.scanDown (fun x => !ltT x d'[a]!) d' (Sort.scanUp (fun x=>ltT x d'[a]!) d' j i) j:Nat):Int),d'.toList))
   else some (.next (((Sort.scanUp (fun x=>ltT x d'[a]!) d' j i + 1:Nat):Int),((Sort.scanDown (fun x => !ltT x d'[a]!) d' (Sort.scanUp (fun x=>ltT x d'[a]!) d' j i) j - 1:Nat):Int),(Sort.swp d' (Sort.scanUp (fun x=>ltT x d'[a]!) d' j i) (Sort.scanDown (fun x => !ltT x d'[a]!) d' (Sort.scanUp (fun x=>ltT x d'[a]!) d' j i) j)).toList))) →
  ∃ x:Int,loopN B fuel ((i:Int),(j:Int),d.toList)=some (.done (x,((Sort.partLoop ltT a i j d).1:Int),(Sort.partLoop ltT a i j d).2.toList)):=by
 intro n
 induction n with
 | zero =>
  intro i j fuel d hn hf hi hi2 hj hB
  cases fuel with
  | zero=>omega
  | succ fuel =>
   have h:=hB i j d rfl hi hi2 hj
   have u:=(scanUp_le (fun x=>ltT x d[a]!) d j _ i (Nat.le_refl _))
   have v:=scanDown_le' (fun x => !ltT x d[a]!) d (Sort.scanUp (fun x=>ltT x d[a]!) d j i) j
   rw [if_pos (by omega)] at h
   rw [loopN_brk h,partLoop_unf,if_pos (by omega)]
   exact ⟨_,rfl⟩
 | succ n ih =>
  intro i j fuel d hn hf hi hi2 hj hB
  cases fuel with
  | zero=>omega
  | succ fuel =>
   have h:=hB i j d rfl hi hi2 hj
   have u:=(scanUp_le (fun x=>ltT x d[a]!) d j _ i (Nat.le_refl _))
   have v:=scanDown_le' (fun x => !ltT x d[a]!) d (Sort.scanUp (fun x=>ltT x d[a]!) d j i) j
   rw [partLoop_unf]
   generalize Sort.scanUp (fun x=>ltT x d[a]!) d j i=i2 at *
   generalize Sort.scanDown (fun x => !ltT x d[a]!) d i2 j=j2 at *
   by_cases hc:i2 > j2
   ·rw [if_pos hc] at h
    rw [loopN_brk h,if_pos hc]
    exact ⟨_,rfl⟩
   ·rw [if_neg hc] at h
    rw [loopN_next h,if_neg hc]
    exact ih _ _ _ _ (by omega) (by omega) (by omega) (by rw [swp_sz]; omega) (by rw [swp_sz]; omega) (fun i' j' d' h1 h2 h3 h4=>hB i' j' d' (by rw [h1,swp_sz]) h2 (by rw [swp_sz] at h3; exact h3) (by rw [swp_sz] at h4; exact h4))
theorem partEq_loop {B:Int × Int × List Time→Option (Ctl (Int × Int × List Time) Empty)} {a:Nat}:∀ (n i j fuel:Nat) (d:Array Time),j + 1 - i≤n→n < fuel→1≤i→i≤d.size→j < d.size →
  (∀ (i j:Nat) (d' : Array Time),d'.size=d.size→1≤i→i≤d.size→j < d.size→B ((i:Int),(j:Int),d'.toList) =
   if Sort.scanUp (fun x => !ltT d'[a]! x) d' j i > Sort.scanDown (fun x=>ltT d'[a]! x) d' (Sort.scanUp (fun x => !ltT d'[a]! x) d' j i) j
   then some (.brk (((Sort.scanUp (fun x => !ltT d'[a]! x) d' j i:Nat):Int),((Sort.scanDown (fun x=>ltT d'[a]! x) d' (Sort.scanUp (fun x => !ltT d'[a]! x) d' j i) j:Nat):Int),d'.toList))
   else some (.next (((Sort.scanUp (fun x => !ltT d'[a]! x) d' j i + 1:Nat):Int),((Sort.scanDown (fun x=>ltT d'[a]! x) d' (Sort.scanUp (fun x => !ltT d'[a]! x) d' j i) j - 1:Nat):Int),(Sort.swp d' (Sort.scanUp (fun x => !ltT d'[a]! x) d' j i) (Sort.scanDown (fun x=>ltT d'[a]! x) d' (Sort.scanUp (fun x => !ltT d'[a]! x) d' j i) j)).toList))) →
  ∃ x:Int,loopN B fuel ((i:Int),(j:Int),d.toList)=some (.done (((Sort.partEqLoop ltT a i j d).1:Int),x,(Sort.partEqLoop ltT a i j d).2.toList)):=by
 intro n
 induction n with
 | zero =>
  intro i j fuel d hn hf hi hi2 hj hB
  cases fuel with
  | zero=>omega
  | succ fuel =>
   have h:=hB i j d rfl hi hi2 hj
   have u:=(scanUp_le (fun x => !ltT d[a]! x) d j _ i (Nat.le_refl _))
   have v:=scanDown_le' (fun x=>ltT d[a]! x) d (Sort.scanUp (fun x => !ltT d[a]! x) d j i) j
   rw [if_pos (by omega)] at h
   rw [loopN_brk h,partEqLoop_unf,if_pos (by omega)]
   exact ⟨_,rfl⟩
 | succ n ih =>
  intro i j fuel d hn hf hi hi2 hj hB
  cases fuel with
  | zero=>omega
  | succ fuel =>
   have h:=hB i j d rfl hi hi2 hj
   have u:=(scanUp_le (fun x => !ltT d[a]! x) d j _ i (Nat.le_refl _))
   have v:=scanDown_le' (fun x=>ltT d[a]! x) d (Sort.scanUp (fun x => !ltT d[a]! x) d j i) j
   rw [partEqLoop_unf]
   generalize Sort.scanUp (fun x => !ltT d[a]! x) d j i=i2 at *
   generalize Sort.scanDown (fun x=>ltT d[a]! x) d i2 j=j2 at *
   by_cases hc:i2 > j2
   ·rw [if_pos hc] at h
    rw [loopN_brk h,if_pos hc]
    exact ⟨_,rfl⟩
   ·rw [if_neg hc] at h
    rw [loopN_next h,if_neg hc]
    exact ih _ _ _ _ (by omega) (by omega) (by omega) (by rw [swp_sz]; omega) (by rw [swp_sz]; omega) (fun i' j' d' h1 h2 h3 h4=>hB i' j' d' (by rw [h1,swp_sz]) h2 (by rw [swp_sz] at h3; exact h3) (by rw [swp_sz] at h4; exact h4))
theorem outK_exA {X Y Z R Q:Type} {o:Option (Out (X × Y × Z) R)} {kn:X × Y × Z→Option Q} {kr:R→Option Q} {y:Y} {z:Z} {q:Option Q} (h:∃ x:X,o=some (.done (x,y,z))) (hk:∀ x,kn (x,y,z)=q):outK o kn kr=q:=by
 obtain ⟨x,h⟩:=h
 rw [h]
 exact hk x
theorem outK_exB {X Y Z R Q:Type} {o:Option (Out (X × Y × Z) R)} {kn:X × Y × Z→Option Q} {kr:R→Option Q} {x:X} {z:Z} {q:Option Q} (h:∃ y:Y,o=some (.done (x,y,z))) (hk:∀ y,kn (x,y,z)=q):outK o kn kr=q:=by
 obtain ⟨y,h⟩:=h
 rw [h]
 exact hk y
theorem partitionEqual_eq {fuel a b pivot:Nat} {d:Array Time} (hp:a≤pivot∧pivot < b) (hab:a + 1 < b) (hb:b≤d.size) (hd:d.size < 1152921504606846976) (hf:d.size + 2 < fuel) :
  slices_partitionEqualCmpFunc_Time__Compare_w fuel (a:Int) (b:Int) (pivot:Int) d.toList=some (((Sort.partitionEqual ltT d a b pivot).1:Int),(Sort.partitionEqual ltT d a b pivot).2.toList):=by
 unfold slices_partitionEqualCmpFunc_Time__Compare_w Sort.partitionEqual
 have w1:IntKind.i64.wrap ((a:Int) + 1)=((a + 1:Nat):Int):=wadd1 (by omega)
 have w2:IntKind.i64.wrap ((b:Int) - 1)=((b - 1:Nat):Int):=wsub1 (by omega) (by omega)
 rw [w1,w2]
 simp only [Int.toNat_natCast,Nat.zero_add,Array.length_toList,List.length_set,arr_get,arr_swp]
 rw [need_true (by omega),need_true (by omega),need_true (by omega),need_true (by omega),need_true (by omega),need_true (by omega),need_true (by omega),need_true (by omega)]
 have hsz:=swp_sz d a pivot
 generalize Sort.swp d a pivot=d1 at *
 refine outK_exB (partEq_loop (a:=a) d1.size (a + 1) (b - 1) fuel d1 (by omega) (by omega) (by omega) (by omega) (by omega) ?_) (fun x=>rfl)
 intro i j e he hi hi2 hj
 simp only
 have u:=(scanUp_le (fun x => !ltT e[a]! x) e j _ i (Nat.le_refl _))
 have v:=scanDown_le' (fun x=>ltT e[a]! x) e (Sort.scanUp (fun x => !ltT e[a]! x) e j i) j
 rw [scanUp_loop (R:=Empty) (fun i:Nat=>(i:Int)) (fun x => !ltT e[a]! x) e (j:=j) d1.size i fuel (by omega) (by omega) (fun k h1 h2 => ?_)]
 ·simp only [outK_done]
  generalize Sort.scanUp (fun x => !ltT e[a]! x) e j i=i2 at *
  rw [scanDown_loop (R:=Empty) (fun i:Nat=>(i:Int)) (fun x=>ltT e[a]! x) e (i:=i2) (by omega) j fuel (by omega) (fun k h1 => ?_)]
  ·simp only [outK_done,bf_decide,intlt,gt_iff_lt]
   generalize Sort.scanDown (fun x=>ltT e[a]! x) e i2 j=j2 at *
   by_cases hc:j2 < i2
   ·rw [if_pos hc,if_pos hc]
   ·rw [if_neg hc,if_neg hc]
    simp (disch:=omega) only [wsub1,wadd1,Int.toNat_natCast,Nat.zero_add,need_true,Array.length_toList,List.length_set,arr_get,arr_swp]
  ·simp only [jn_eq,bf_decide,intle]
   by_cases hc:i2≤k
   ·rw [if_pos hc]
    simp (disch:=omega) only [wsub1,Int.toNat_natCast,Nat.zero_add,need_true,Array.length_toList,compare_eq,Option.bind_some,arr_get,bf_decide,hc,true_and]
    unfold ltT
    by_cases h:cmpT e[a]! e[k]! < 0
    ·simp [h]
    ·simp [h]
   ·rw [if_neg hc,if_neg (fun h=>hc h.1),bf_false]
 ·simp only [jn_eq,bf_decide,intle]
  by_cases hc:k≤j
  ·rw [if_pos hc]
   simp (disch:=omega) only [wadd1,Int.toNat_natCast,Nat.zero_add,need_true,Array.length_toList,compare_eq,Option.bind_some,arr_get,hc,true_and]
   unfold ltT
   by_cases h:cmpT e[a]! e[k]! < 0
   ·simp [h]
   ·simp [h]
  ·rw [if_neg hc,if_neg (fun h=>hc h.1),bf_false]
theorem partLoop_fact {a:Nat}:∀ (n i j:Nat) (d:Array Time),j + 1 - i≤n→1≤i→i≤d.size→j < d.size→(Sort.partLoop ltT a i j d).1≤j∧(Sort.partLoop ltT a i j d).2.size=d.size:=by
 intro n
 induction n with
 | zero =>
  intro i j d hn hi hi2 hj
  have u:=(scanUp_le (fun x=>ltT x d[a]!) d j _ i (Nat.le_refl _))
  have v:=scanDown_le' (fun x => !ltT x d[a]!) d (Sort.scanUp (fun x=>ltT x d[a]!) d j i) j
  rw [partLoop_unf,if_pos (by omega)]
  exact ⟨v,rfl⟩
 | succ n ih =>
  intro i j d hn hi hi2 hj
  have u:=(scanUp_le (fun x=>ltT x d[a]!) d j _ i (Nat.le_refl _))
  have v:=scanDown_le' (fun x => !ltT x d[a]!) d (Sort.scanUp (fun x=>ltT x d[a]!) d j i) j
  rw [partLoop_unf]
  generalize Sort.scanUp (fun x=>ltT x d[a]!) d j i=i2 at *
  generalize Sort.scanDown (fun x => !ltT x d[a]!) d i2 j=j2 at *
  by_cases hc:i2 > j2
  ·rw [if_pos hc]; exact ⟨v,rfl⟩
  ·rw [if_neg hc]
   have:=ih (i2 + 1) (j2 - 1) (Sort.swp d i2 j2) (by omega) (by omega) (by rw [swp_sz]; omega) (by rw [swp_sz]; omega)
   rw [swp_sz] at this
   omega
theorem partition_eq {fuel a b pivot:Nat} {d:Array Time} (hp:a≤pivot∧pivot < b) (hab:a + 1 < b) (hb:b≤d.size) (hd:d.size < 1152921504606846976) (hf:d.size + 2 < fuel) :
  slices_partitionCmpFunc_Time__Compare_w fuel (a:Int) (b:Int) (pivot:Int) d.toList=some (((Sort.partition ltT d a b pivot).1:Int),(Sort.partition ltT d a b pivot).2.1,(Sort.partition ltT d a b pivot).2.2.toList):=by
 unfold slices_partitionCmpFunc_Time__Compare_w Sort.partition
 have w1:IntKind.i64.wrap ((a:Int) + 1)=((a + 1:Nat):Int):=wadd1 (by omega)
 have w2:IntKind.i64.wrap ((b:Int) - 1)=((b - 1:Nat):Int):=wsub1 (by omega) (by omega)
 rw [w1,w2]
 simp only [Int.toNat_natCast,Nat.zero_add,Array.length_toList,List.length_set,arr_get,arr_swp]
 rw [need_true (by omega),need_true (by omega),need_true (by omega),need_true (by omega),need_true (by omega),need_true (by omega),need_true (by omega),need_true (by omega)]
 have hsz:=swp_sz d a pivot
 generalize Sort.swp d a pivot=e at *
 have u:=(scanUp_le (fun x=>ltT x e[a]!) e (b - 1) _ (a + 1) (Nat.le_refl _))
 have v:=scanDown_le' (fun x => !ltT x e[a]!) e (Sort.scanUp (fun x=>ltT x e[a]!) e (b - 1) (a + 1)) (b - 1)
 rw [scanUp_loop (R:=Empty) (fun i:Nat=>((i:Int),((b - 1:Nat):Int))) (fun x=>ltT x e[a]!) e (j:=b - 1) e.size (a + 1) fuel (by omega) (by omega) (fun k h1 h2 => ?_)]
 ·simp only [outK_done]
  generalize Sort.scanUp (fun x=>ltT x e[a]!) e (b - 1) (a + 1)=i2 at *
  rw [scanDown_loop (R:=Empty) (fun i:Nat=>(i:Int)) (fun x => !ltT x e[a]!) e (i:=i2) (by omega) (b - 1) fuel (by omega) (fun k h1 => ?_)]
  ·simp only [outK_done,bf_decide,intlt,gt_iff_lt]
   generalize Sort.scanDown (fun x => !ltT x e[a]!) e i2 (b - 1)=j2 at *
   by_cases hc:j2 < i2
   ·rw [if_pos hc,if_pos hc]
    simp (disch:=omega) only [Int.toNat_natCast,Nat.zero_add,need_true,Array.length_toList,List.length_set,arr_get,arr_swp]
   ·rw [if_neg hc,if_neg hc]
    have w3:IntKind.i64.wrap ((i2:Int) + 1)=((i2 + 1:Nat):Int):=wadd1 (by omega)
    have w4:IntKind.i64.wrap ((j2:Int) - 1)=((j2 - 1:Nat):Int):=wsub1 (by omega) (by omega)
    rw [w3,w4]
    simp only [Int.toNat_natCast,Nat.zero_add,Array.length_toList,List.length_set,arr_get,arr_swp]
    rw [need_true (by omega),need_true (by omega),need_true (by omega),need_true (by omega),need_true (by omega),need_true (by omega),need_true (by omega),need_true (by omega)]
    have hsz2:=swp_sz e i2 j2
    generalize Sort.swp e i2 j2=f at *
    refine outK_exA (part_loop (a:=a) f.size (i2 + 1) (j2 - 1) fuel f (by omega) (by omega) (by omega) (by omega) (by omega) ?_) (fun x => ?_)
    ·intro i j g he hi hi2 hj
     simp only
     have u:=(scanUp_le (fun x=>ltT x g[a]!) g j _ i (Nat.le_refl _))
     have v:=scanDown_le' (fun x => !ltT x g[a]!) g (Sort.scanUp (fun x=>ltT x g[a]!) g j i) j
     rw [scanUp_loop (R:=Empty) (fun i:Nat=>(i:Int)) (fun x=>ltT x g[a]!) g (j:=j) f.size i fuel (by omega) (by omega) (fun k h1 h2 => ?_)]
     ·simp only [outK_done]
      generalize Sort.scanUp (fun x=>ltT x g[a]!) g j i=i3 at *
      rw [scanDown_loop (R:=Empty) (fun i:Nat=>(i:Int)) (fun x => !ltT x g[a]!) g (i:=i3) (by omega) j fuel (by omega) (fun k h1 => ?_)]
      ·simp only [outK_done,bf_decide,intlt,gt_iff_lt]
       generalize Sort.scanDown (fun x => !ltT x g[a]!) g i3 j=j3 at *
       by_cases hc:j3 < i3
       ·rw [if_pos hc,if_pos hc]
       ·rw [if_neg hc,if_neg hc]
        simp (disch:=omega) only [wsub1,wadd1,Int.toNat_natCast,Nat.zero_add,need_true,Array.length_toList,List.length_set,arr_get,arr_swp]
      ·simp only [jn_eq,bf_decide,intle]
       by_cases hc:i3≤k
       ·rw [if_pos hc]
        simp (disch:=omega) only [wsub1,Int.toNat_natCast,Nat.zero_add,need_true,Array.length_toList,compare_eq,Option.bind_some,arr_get,bf_decide,hc,true_and]
        unfold ltT
        by_cases h:cmpT g[k]! g[a]! < 0
        ·simp [h]
        ·simp [h]
       ·rw [if_neg hc,if_neg (fun h=>hc h.1),bf_false]
     ·simp only [jn_eq,bf_decide,intle]
      by_cases hc:k≤j
      ·rw [if_pos hc]
       simp (disch:=omega) only [wadd1,Int.toNat_natCast,Nat.zero_add,need_true,Array.length_toList,compare_eq,Option.bind_some,arr_get,hc,true_and]
       unfold ltT
       by_cases h:cmpT g[k]! g[a]! < 0
       ·simp [h]
       ·simp [h]
      ·rw [if_neg hc,if_neg (fun h=>hc h.1),bf_false]
    ·have hl:=partLoop_fact (a:=a) f.size (i2 + 1) (j2 - 1) f (by omega) (by omega) (by omega) (by omega)
     generalize Sort.partLoop ltT a (i2 + 1) (j2 - 1) f=r at *
     simp (disch:=omega) only [Int.toNat_natCast,Nat.zero_add,need_true,Array.length_toList,List.length_set,arr_get,arr_swp]
  ·simp only [jn_eq,bf_decide,intle]
   by_cases hc:i2≤k
   ·rw [if_pos hc]
    simp (disch:=omega) only [wsub1,Int.toNat_natCast,Nat.zero_add,need_true,Array.length_toList,compare_eq,Option.bind_some,arr_get,bf_decide,hc,true_and]
    unfold ltT
    by_cases h:cmpT e[k]! e[a]! < 0
    ·simp [h]
    ·simp [h]
   ·rw [if_neg hc,if_neg (fun h=>hc h.1),bf_false]
 ·simp only [jn_eq,bf_decide,intle]
  by_cases hc:k≤b - 1
  ·rw [if_pos hc]
   simp (disch:=omega) only [wadd1,Int.toNat_natCast,Nat.zero_add,need_true,Array.length_toList,compare_eq,Option.bind_some,arr_get,hc,true_and]
   unfold ltT
   by_cases h:cmpT e[k]! e[a]! < 0
   ·simp [h]
   ·simp [h]
  ·rw [if_neg hc,if_neg (fun h=>hc h.1),bf_false]
end Go.Av
namespace Go.Av
open Go
set_option linter.unusedVariables false
set_option linter.unusedSimpArgs false
theorem shiftDown_sz:∀ (j:Nat) (d:Array Time),(Sort.shiftDown ltT j d).size=d.size
 | 0,d=>rfl
 | j + 1,d=>by
  unfold Sort.shiftDown
  split
  ·rfl
  ·rw [shiftDown_sz j,swp_sz]
theorem shiftDown_loop {B:Int × List Time→Option (Ctl (Int × List Time) Empty)}:∀ (j fuel:Nat) (d:Array Time),j < fuel→j < d.size →
  (∀ (j:Nat) (d' : Array Time),d'.size=d.size→j < d.size→B ((j:Int),d'.toList)=if 1≤j∧ltT d'[j]! d'[j - 1]! = true then some (.next (((j - 1:Nat):Int),(Sort.swp d' j (j - 1)).toList)) else some (.brk ((j:Int),d'.toList))) →
  ∃ x:Int,loopN B fuel ((j:Int),d.toList)=some (.done (x,(Sort.shiftDown ltT j d).toList)):=by
 intro j
 induction j with
 | zero =>
  intro fuel d hf hj hB
  cases fuel with
  | zero=>omega
  | succ fuel =>
   have h:=hB 0 d rfl hj
   rw [if_neg (by omega)] at h
   rw [loopN_brk h]
   exact ⟨_,rfl⟩
 | succ j ih =>
  intro fuel d hf hj hB
  cases fuel with
  | zero=>omega
  | succ fuel =>
   have h:=hB (j + 1) d rfl hj
   rw [Nat.add_sub_cancel] at h
   unfold Sort.shiftDown
   by_cases hc:ltT d[j + 1]! d[j]! = true
   ·rw [if_pos ⟨by omega,hc⟩] at h
    rw [loopN_next h,if_neg (by simp [hc])]
    exact ih fuel _ (by omega) (by rw [swp_sz]; omega) (fun j' d' h1 h2=>hB j' d' (by rw [h1,swp_sz]) (by rw [swp_sz] at h2; exact h2))
   ·rw [if_neg (fun h=>hc h.2)] at h
    rw [loopN_brk h,if_pos (by simpa using hc)]
    exact ⟨_,rfl⟩
theorem shiftUp_sz (b:Nat):∀ (n j:Nat) (d:Array Time),b - j≤n→(Sort.shiftUp ltT b j d).size=d.size:=by
 intro n
 induction n with
 | zero=>intro j d hn; rw [Sort.shiftUp,if_neg (by omega)]
 | succ n ih =>
  intro j d hn
  rw [Sort.shiftUp]
  split
  ·split
   ·rfl
   ·rw [ih _ _ (by omega),swp_sz]
  ·rfl
theorem shiftUp_loop {B:Int × List Time→Option (Ctl (Int × List Time) Empty)} {b:Nat}:∀ (n j fuel:Nat) (d:Array Time),b - j≤n→n < fuel→1≤j→b≤d.size →
  (∀ (j:Nat) (d' : Array Time),d'.size=d.size→1≤j→B ((j:Int),d'.toList)=if j < b∧ltT d'[j]! d'[j - 1]! = true then some (.next (((j + 1:Nat):Int),(Sort.swp d' j (j - 1)).toList)) else some (.brk ((j:Int),d'.toList))) →
  ∃ x:Int,loopN B fuel ((j:Int),d.toList)=some (.done (x,(Sort.shiftUp ltT b j d).toList)):=by
 intro n
 induction n with
 | zero =>
  intro j fuel d hn hf hj hb hB
  cases fuel with
  | zero=>omega
  | succ fuel =>
   have h:=hB j d rfl hj
   rw [if_neg (by omega)] at h
   rw [loopN_brk h,Sort.shiftUp,if_neg (by omega)]
   exact ⟨_,rfl⟩
 | succ n ih =>
  intro j fuel d hn hf hj hb hB
  cases fuel with
  | zero=>omega
  | succ fuel =>
   have h:=hB j d rfl hj
   rw [Sort.shiftUp]
   by_cases hjb:j < b
   ·rw [if_pos hjb]
    by_cases hc:ltT d[j]! d[j - 1]! = true
    ·rw [if_pos ⟨hjb,hc⟩] at h
     rw [loopN_next h,if_neg (by simp [hc])]
     exact ih _ fuel _ (by omega) (by omega) (by omega) (by rw [swp_sz]; omega) (fun j' d' h1 h2=>hB j' d' (by rw [h1,swp_sz]) h2)
    ·rw [if_neg (fun h=>hc h.2)] at h
     rw [loopN_brk h,if_pos (by simpa using hc)]
     exact ⟨_,rfl⟩
   ·rw [if_neg (fun h=>hjb h.1)] at h
    rw [loopN_brk h,if_neg hjb]
    exact ⟨_,rfl⟩
theorem scanSorted_loop {B:Int→Option (Ctl Int Empty)} {b:Nat} {d:Array Time}:∀ (n i fuel:Nat),b - i≤n→n < fuel→1≤i →
  (∀ (i' : Nat),i≤i' → B (i' : Int)=if i' < b∧ltT d[i']! d[i' - 1]! = false then some (.next ((i' + 1:Nat):Int)) else some (.brk (i' : Int))) →
  loopN B fuel (i:Int)=some (.done ((Sort.scanSorted ltT d b i:Nat):Int))∧i≤Sort.scanSorted ltT d b i∧(i≤b→Sort.scanSorted ltT d b i≤b):=by
 intro n
 induction n with
 | zero =>
  intro i fuel hn hf hi hB
  cases fuel with
  | zero=>omega
  | succ fuel =>
   have h:=hB i (Nat.le_refl _)
   rw [if_neg (by omega)] at h
   rw [loopN_brk h,Sort.scanSorted,if_neg (by simp; omega)]
   exact ⟨rfl,Nat.le_refl _,fun h=>h⟩
 | succ n ih =>
  intro i fuel hn hf hi hB
  cases fuel with
  | zero=>omega
  | succ fuel =>
   have h:=hB i (Nat.le_refl _)
   rw [Sort.scanSorted]
   by_cases hc:i < b∧ltT d[i]! d[i - 1]! = false
   ·rw [if_pos hc] at h
    rw [loopN_next h,if_pos (by simpa using hc)]
    obtain ⟨h1,h2,h3⟩:=ih (i + 1) fuel (by omega) (by omega) (by omega) (fun i' h=>hB i' (by omega))
    exact ⟨h1,by omega,fun h=>h3 (by omega)⟩
   ·rw [if_neg hc] at h
    rw [loopN_brk h,if_neg (by simpa using hc)]
    exact ⟨rfl,Nat.le_refl _,fun h=>h⟩
def pisStep (a b i:Nat) (d:Array Time):Array Time :=
 let d:=Sort.swp d i (i - 1)
 let d:=if i - a ≥ 2 then Sort.shiftDown ltT (i - 1) d else d
 if b - i ≥ 2 then Sort.shiftUp ltT b (i + 1) d else d
theorem pisStep_sz (a b i:Nat) (d:Array Time):(pisStep a b i d).size=d.size:=by
 unfold pisStep
 dsimp only
 split <;> split <;> simp [shiftUp_sz b b _ _ (Nat.sub_le _ _),shiftDown_sz,swp_sz]
theorem partialIns_unf (a b s i:Nat) (d:Array Time):Sort.partialIns ltT a b (s + 1) i d =
  if Sort.scanSorted ltT d b i=b then (d,true) else if b - a < 50 then (d,false) else Sort.partialIns ltT a b s (Sort.scanSorted ltT d b i) (pisStep a b (Sort.scanSorted ltT d b i) d):=rfl
theorem pis_loop {B:Int × Int × List Time→Option (Ctl (Int × Int × List Time) (Bool × List Time))} {a b:Nat} {Q:Type} {kn:Int × Int × List Time→Option Q} {kr:Bool × List Time→Option Q} {q:Option Q}:∀ (s i fuel:Nat) (d:Array Time),s≤5→s < fuel→a < i→i≤b →
  (∀ (i:Nat) (d' : Array Time),d'.size=d.size→a < i→i≤b→i≤Sort.scanSorted ltT d' b i∧Sort.scanSorted ltT d' b i≤b) →
  (∀ (s i:Nat) (d' : Array Time),d'.size=d.size→s≤5→a < i→i≤b→B ((i:Int),((5 - s:Nat):Int),d'.toList)=match s with
   | 0=>some (.brk ((i:Int),5,d'.toList))
   | s + 1=>if Sort.scanSorted ltT d' b i=b then some (.ret (true,d'.toList)) else if b - a < 50 then some (.ret (false,d'.toList)) else some (.next (((Sort.scanSorted ltT d' b i:Nat):Int),((5 - s:Nat):Int),(pisStep a b (Sort.scanSorted ltT d' b i) d').toList))) →
  (∀ x,(Sort.partialIns ltT a b s i d).2=false→kn (x,5,(Sort.partialIns ltT a b s i d).1.toList)=q)→(kr ((Sort.partialIns ltT a b s i d).2,(Sort.partialIns ltT a b s i d).1.toList)=q) →
  outK (loopN B fuel ((i:Int),((5 - s:Nat):Int),d.toList)) kn kr=q:=by
 intro s
 induction s with
 | zero =>
  intro i fuel d hs hf hi hib hsc hB hkn hkr
  cases fuel with
  | zero=>omega
  | succ fuel =>
   rw [loopN_brk (hB 0 i d rfl hs hi hib)]
   exact hkn _ rfl
 | succ s ih =>
  intro i fuel d hs hf hi hib hsc hB hkn hkr
  cases fuel with
  | zero=>omega
  | succ fuel =>
   have h:=hB (s + 1) i d rfl hs hi hib
   simp only at h
   rw [partialIns_unf] at hkn hkr
   have hb:=hsc i d rfl hi hib
   by_cases h1:Sort.scanSorted ltT d b i=b
   ·rw [if_pos h1] at h
    rw [loopN_ret h]
    rw [if_pos h1] at hkr
    exact hkr
   ·rw [if_neg h1] at h hkn hkr
    by_cases h2:b - a < 50
    ·rw [if_pos h2] at h
     rw [loopN_ret h]
     rw [if_pos h2] at hkr
     exact hkr
    ·rw [if_neg h2] at h hkn hkr
     rw [loopN_next h]
     exact ih _ fuel _ (by omega) (by omega) (by omega) (by omega) (fun i' d' h1 h2 h3=>hsc i' d' (by rw [h1,pisStep_sz]) h2 h3) (fun s' i' d' h1 h2 h3 h4=>hB s' i' d' (by rw [h1,pisStep_sz]) h2 h3 h4) hkn hkr
theorem partialInsertionSort_eq {fuel a b:Nat} {d:Array Time} (hab:a < b) (hb:b≤d.size) (hd:d.size < 1152921504606846976) (hf:d.size + 10 < fuel) :
  slices_partialInsertionSortCmpFunc_Time__Compare_w fuel (a:Int) (b:Int) d.toList=some ((Sort.partialInsertionSort ltT d a b).2,(Sort.partialInsertionSort ltT d a b).1.toList):=by
 unfold slices_partialInsertionSortCmpFunc_Time__Compare_w Sort.partialInsertionSort
 rw [wadd1 (by omega)]
 refine pis_loop (a:=a) (b:=b) 5 (a + 1) fuel d (by omega) (by omega) (by omega) (by omega) ?_ ?_ (fun x h=>by rw [h]) rfl
 ·intro i e he h1 h2
  have:=(scanSorted_loop (B:=fun x=>if x.toNat < b∧ltT e[x.toNat]! e[x.toNat - 1]! = false then some (.next ((x.toNat + 1:Nat):Int)) else some (.brk (x.toNat:Int))) (b:=b) (d:=e) b i (b + 1) (by omega) (by omega) (by omega) (fun i' h=>by simp only [Int.toNat_natCast]))
  exact ⟨this.2.1,this.2.2 h2⟩
 ·intro s i e he hs hi hib
  cases s with
  | zero=>rfl
  | succ s =>
   simp only [bf_decide,jn_eq]
   rw [if_pos (show ((5 - (s + 1):Nat):Int) < 5 by omega)]
   obtain ⟨g1,g2,g3⟩:=scanSorted_loop (B:=fun (a5:Int)=>if (a5 < (b:Int)) then (need ((0:Int)≤a5∧a5 < (e.toList.length:Int)) <| need ((0 + a5.toNat) < e.toList.length) <| need ((0:Int)≤(IntKind.i64.wrap (a5 - 1))∧(IntKind.i64.wrap (a5 - 1)) < (e.toList.length:Int)) <| need ((0 + (IntKind.i64.wrap (a5 - 1)).toNat) < e.toList.length) <| (moment_Compare (e.toList.getD (0 + a5.toNat) default) (e.toList.getD (0 + (IntKind.i64.wrap (a5 - 1)).toNat) default)).bind fun r54=>bf (!(decide (r54 < 0))) (some (.next (IntKind.i64.wrap (a5 + 1)))) (some (.brk a5))) else (bf false (some (.next (IntKind.i64.wrap (a5 + 1)))) (some (.brk a5)))) (b:=b) (d:=e) b i fuel (by omega) (by omega) (by omega) (fun k hk=>by
    simp only [jn_eq,intlt]
    by_cases hc:k < b
    ·rw [if_pos hc]
     simp (disch:=omega) only [wsub1,wadd1,Int.toNat_natCast,Nat.zero_add,need_true,Array.length_toList,compare_eq,Option.bind_some,arr_get,hc,true_and]
     unfold ltT
     by_cases h:cmpT e[k]! e[k - 1]! < 0
     ·simp [h]
     ·simp [h]
    ·rw [if_neg hc,if_neg (fun h=>hc h.1),bf_false])
   rw [g1]
   simp only [outK_done]
   have g3:=g3 hib
   generalize Sort.scanSorted ltT e b i=i2 at *
   by_cases h1:i2=b
   ·rw [if_pos h1,if_pos (by omega)]
   ·rw [if_neg h1,if_neg (by omega),wsub (by omega) (by omega)]
    by_cases h2:b - a < 50
    ·rw [if_pos h2,if_pos (by omega)]
    ·rw [if_neg h2,if_neg (by omega)]
     have w1:IntKind.i64.wrap ((i2:Int) + 1)=((i2 + 1:Nat):Int):=wadd1 (by omega)
     have w2:IntKind.i64.wrap ((i2:Int) - 1)=((i2 - 1:Nat):Int):=wsub1 (by omega) (by omega)
     have w3:IntKind.i64.wrap ((i2:Int) - (a:Int))=((i2 - a:Nat):Int):=wsub (by omega) (by omega)
     have w4:IntKind.i64.wrap ((b:Int) - (i2:Int))=((b - i2:Nat):Int):=wsub (by omega) (by omega)
     have w5:IntKind.i64.wrap (((5 - (s + 1):Nat):Int) + 1)=((5 - s:Nat):Int):=by rw [wadd1 (by omega)]; omega
     simp only [w1,w2,w3,w4,w5,Int.toNat_natCast,Nat.zero_add,Array.length_toList,List.length_set,arr_get,arr_swp,jn_eq]
     rw [need_true (by omega),need_true (by omega),need_true (by omega),need_true (by omega),need_true (by omega),need_true (by omega),need_true (by omega),need_true (by omega)]
     unfold pisStep
     dsimp only
     have hsz:=swp_sz e i2 (i2 - 1)
     generalize Sort.swp e i2 (i2 - 1)=f at *
     have up:∀ g:Array Time,g.size=e.size→(if (2:Int)≤((b - i2:Nat):Int) then (outK (loopN (S:=Int × (List Time)) (R:=Empty) (fun (a17:Int × (List Time))=>if (a17.1 < (b:Int)) then (need ((0:Int)≤a17.1∧a17.1 < (a17.2.length:Int)) <| need (a17.1.toNat < a17.2.length) <| need ((0:Int)≤(IntKind.i64.wrap (a17.1 - 1))∧(IntKind.i64.wrap (a17.1 - 1)) < (a17.2.length:Int)) <| need ((IntKind.i64.wrap (a17.1 - 1)).toNat < a17.2.length) <| (moment_Compare (a17.2.getD a17.1.toNat default) (a17.2.getD (IntKind.i64.wrap (a17.1 - 1)).toNat default)).bind fun r23=>bf (!(decide (r23 < 0))) (some (.brk (a17.1,a17.2))) (need ((0:Int)≤(IntKind.i64.wrap (a17.1 - 1))∧(IntKind.i64.wrap (a17.1 - 1)) < (a17.2.length:Int)) <| need ((IntKind.i64.wrap (a17.1 - 1)).toNat < a17.2.length) <| need ((0:Int)≤a17.1∧a17.1 < (a17.2.length:Int)) <| need (a17.1.toNat < a17.2.length) <| need ((0:Int)≤a17.1∧a17.1 < (a17.2.length:Int)) <| need (a17.1.toNat < a17.2.length) <| need ((0:Int)≤(IntKind.i64.wrap (a17.1 - 1))∧(IntKind.i64.wrap (a17.1 - 1)) < (a17.2.length:Int)) <| need ((IntKind.i64.wrap (a17.1 - 1)).toNat < a17.2.length) <| some (.next ((IntKind.i64.wrap (a17.1 + 1)),((a17.2.set a17.1.toNat (a17.2.getD (IntKind.i64.wrap (a17.1 - 1)).toNat default)).set (IntKind.i64.wrap (a17.1 - 1)).toNat (a17.2.getD a17.1.toNat default)))))) else (some (.brk (a17.1,a17.2)))) fuel (((i2 + 1:Nat):Int),g.toList)) (fun (a18:Int × (List Time))=>some (Ctl.next ((i2:Int),((5 - s:Nat):Int),a18.2))) (fun (x:Empty)=>x.elim)) else some (Ctl.next ((i2:Int),((5 - s:Nat):Int),g.toList)))=(some (Ctl.next ((i2:Int),((5 - s:Nat):Int),(if b - i2 ≥ 2 then Sort.shiftUp ltT b (i2 + 1) g else g).toList)):Option (Ctl (Int × Int × List Time) (Bool × List Time))):=fun g hg=>by
      by_cases h3:b - i2 ≥ 2
      ·rw [if_pos h3,if_pos (by omega)]
       refine outK_ex (shiftUp_loop (b:=b) b (i2 + 1) fuel g (by omega) (by omega) (by omega) (by omega) ?_) (fun x=>rfl)
       intro j g' hg' hj
       simp only [intlt]
       by_cases hc:j < b
       ·rw [if_pos hc]
        simp (disch:=omega) only [wsub1,wadd1,Int.toNat_natCast,Nat.zero_add,need_true,Array.length_toList,List.length_set,compare_eq,Option.bind_some,arr_get,arr_swp,hc,true_and]
        unfold ltT
        by_cases h:cmpT g'[j]! g'[j - 1]! < 0
        ·simp [h]
        ·simp [h]
       ·rw [if_neg hc,if_neg (fun h=>hc h.1)]
      ·rw [if_neg h3,if_neg (by omega)]
     by_cases h4:i2 - a ≥ 2
     ·rw [if_pos h4,if_pos (by omega)]
      refine outK_ex (shiftDown_loop (i2 - 1) fuel f (by omega) (by omega) ?_) (fun x => ?_)
      ·intro j g' hg' hj
       by_cases hc:1≤j
       ·simp only [show ((1:Int)≤(j:Int))=True from eq_true (by omega),if_true]
        simp (disch:=omega) only [wsub1,wadd1,Int.toNat_natCast,Nat.zero_add,need_true,Array.length_toList,List.length_set,compare_eq,Option.bind_some,arr_get,arr_swp,hc,true_and]
        unfold ltT
        by_cases h:cmpT g'[j]! g'[j - 1]! < 0
        ·simp [h]
        ·simp [h]
       ·rw [if_neg (by simp only; omega),if_neg (fun h=>hc h.1)]
      ·exact up (Sort.shiftDown ltT (i2 - 1) f) (by rw [shiftDown_sz]; omega)
     ·rw [if_neg h4,if_neg (by omega)]
      exact up f (by omega)
end Go.Av
namespace Go.Av
open Go
set_option linter.unusedVariables false
set_option linter.unusedSimpArgs false
theorem len_tab:∀ x:Fin 256,∃ l:Fin 9,bt lit_256_1d3e63 (x.val:Int)=(l.val:Int)∧x.val < 2 ^ l.val∧(x.val=0→l.val=0)∧(x.val ≠ 0→2 ^ (l.val - 1)≤x.val∧0 < l.val):=by decide +kernel
def IsLen (n L:Nat):Prop:=n < 2 ^ L∧(n=0→L=0)∧(n ≠ 0→2 ^ (L - 1)≤n∧0 < L)
theorem IsLen.shift {n L s:Nat} (h:IsLen (n / 2 ^ s) L) (hn:2 ^ s≤n):IsLen n (L + s):=by
 obtain ⟨h1,h2,h3⟩:=h
 have hp:0 < 2 ^ s:=Nat.pow_pos (by decide)
 have hq:n / 2 ^ s ≠ 0:=Nat.ne_of_gt (Nat.div_pos hn hp)
 obtain ⟨h4,h5⟩:=h3 hq
 refine ⟨?_,fun h=>by omega,fun _=>⟨?_,by omega⟩⟩
 ·rw [Nat.pow_add]
  exact (Nat.div_lt_iff_lt_mul hp).1 h1
 ·rw [show L + s - 1=(L - 1) + s by omega,Nat.pow_add]
  exact (Nat.le_div_iff_mul_le hp).1 h4
theorem len64_eq {n:Nat} (h:n < 2 ^ 64):∃ L:Nat,math_bits_Len64 (n:Int)=some (L:Int)∧IsLen n L∧L≤64:=by
 have last:∀ (x b:Nat),x < 256→b≤56→∃ L:Nat,(need ((0:Int)≤(IntKind.u8.wrap (x:Int))∧(IntKind.u8.wrap (x:Int)) < (lit_256_1d3e63.size:Int)) <| some (IntKind.i64.wrap ((b:Int) + (IntKind.i64.wrap (bt lit_256_1d3e63 (IntKind.u8.wrap (x:Int)))))))=some ((L + b:Nat):Int)∧IsLen x L∧L≤8:=fun x b hx hb=>by
  obtain ⟨l,h1,h2,h3,h4⟩:=len_tab ⟨x,hx⟩
  have e:IntKind.u8.wrap (x:Int)=(x:Int):=uwrap (k:=.u8) rfl hx
  have hsz:lit_256_1d3e63.size=256:=by decide +kernel
  rw [e,hsz,need_true (by omega),h1]
  have hl:=l.isLt
  refine ⟨l.val,?_,⟨h2,h3,h4⟩,by omega⟩
  rw [wrap_small (n:=(l.val:Int)) (by omega) (by omega),wrap_small (by omega) (by omega)]
  exact congrArg some (by omega)
 have s8:∀ x:Nat,shrOp .u64 (x:Int) 8=((x / 2 ^ 8:Nat):Int):=fun x=>shr_nat .u64 x 8 (by decide)
 have s16:∀ x:Nat,shrOp .u64 (x:Int) 16=((x / 2 ^ 16:Nat):Int):=fun x=>shr_nat .u64 x 16 (by decide)
 have s32:∀ x:Nat,shrOp .u64 (x:Int) 32=((x / 2 ^ 32:Nat):Int):=fun x=>shr_nat .u64 x 32 (by decide)
 have p8:∀ (x b:Nat),x < 65536→b≤48→∃ L:Nat,bf (decide (256≤(x:Int))) (need ((0:Int)≤(IntKind.u8.wrap (shrOp .u64 (x:Int) 8))∧(IntKind.u8.wrap (shrOp .u64 (x:Int) 8)) < (lit_256_1d3e63.size:Int)) <| some (IntKind.i64.wrap ((IntKind.i64.wrap ((b:Int) + 8)) + (IntKind.i64.wrap (bt lit_256_1d3e63 (IntKind.u8.wrap (shrOp .u64 (x:Int) 8))))))) (need ((0:Int)≤(IntKind.u8.wrap (x:Int))∧(IntKind.u8.wrap (x:Int)) < (lit_256_1d3e63.size:Int)) <| some (IntKind.i64.wrap ((b:Int) + (IntKind.i64.wrap (bt lit_256_1d3e63 (IntKind.u8.wrap (x:Int)))))))=some ((L + b:Nat):Int)∧IsLen x L∧L≤16:=fun x b hx hb=>by
  rw [bf_decide]
  by_cases h1:256≤(x:Int)
  ·rw [if_pos h1,s8,wrap_small (n:=(b:Int) + 8) (by omega) (by omega)]
   obtain ⟨L,g1,g2,g3⟩:=last (x / 2 ^ 8) (b + 8) (by omega) (by omega)
   rw [show ((b + 8:Nat):Int)=(b:Int) + 8 by omega] at g1
   refine ⟨L + 8,?_,g2.shift (by omega),by omega⟩
   exact g1.trans (congrArg some (by omega))
  ·rw [if_neg h1]
   obtain ⟨L,g1,g2,g3⟩:=last x b (by omega) (by omega)
   exact ⟨L,g1,g2,by omega⟩
 unfold math_bits_Len64
 simp only [jn_eq]
 by_cases h1:4294967296≤(n:Int)
 ·rw [bf_decide,if_pos h1,s32,bf_decide]
  by_cases h2:65536≤((n / 2 ^ 32:Nat):Int)
  ·rw [if_pos h2,s16,show IntKind.i64.wrap (32 + 16)=((48:Nat):Int) from by decide]
   obtain ⟨L,g1,g2,g3⟩:=p8 (n / 2 ^ 32 / 2 ^ 16) 48 (by omega) (by omega)
   refine ⟨L + 48,g1,?_,by omega⟩
   have:=(g2.shift (by omega)).shift (n:=n) (s:=32) (by omega)
   rw [Nat.add_assoc] at this
   exact this
  ·rw [if_neg h2]
   obtain ⟨L,g1,g2,g3⟩:=p8 (n / 2 ^ 32) 32 (by omega) (by omega)
   exact ⟨L + 32,g1,g2.shift (by omega),by omega⟩
 ·rw [bf_decide,if_neg h1,bf_decide]
  by_cases h2:65536≤(n:Int)
  ·rw [if_pos h2,s16,show IntKind.i64.wrap (0 + 16)=((16:Nat):Int) from by decide]
   obtain ⟨L,g1,g2,g3⟩:=p8 (n / 2 ^ 16) 16 (by omega) (by omega)
   exact ⟨L + 16,g1,g2.shift (by omega),by omega⟩
  ·rw [if_neg h2]
   obtain ⟨L,g1,g2,g3⟩:=p8 n 0 (by omega) (by omega)
   exact ⟨L,by rw [show ((0:Nat):Int)=0 from rfl] at g1; exact g1,g2,by omega⟩
theorem len_uniq {n L K:Nat} (h:IsLen n L) (g:IsLen n K):L=K:=by
 obtain ⟨h1,h2,h3⟩:=h
 obtain ⟨g1,g2,g3⟩:=g
 by_cases h0:n=0
 ·rw [h2 h0,g2 h0]
 ·obtain ⟨h4,h5⟩:=h3 h0
  obtain ⟨g4,g5⟩:=g3 h0
  rcases Nat.lt_trichotomy L K with e | e | e
  ·have:=Nat.pow_le_pow_right (n:=2) (by decide) (show L≤K - 1 by omega); omega
  ·exact e
  ·have:=Nat.pow_le_pow_right (n:=2) (by decide) (show K≤L - 1 by omega); omega
theorem bitsLen_is (n:Nat):IsLen n (Sort.bitsLen n):=by
 refine ⟨Sort.lt_two_pow_bitsLen n,fun h=>by rw [h]; rfl,fun h => ?_⟩
 have hp:0 < Sort.bitsLen n:=by unfold Sort.bitsLen; rw [if_neg h]; omega
 refine ⟨?_,hp⟩
 have:=mt (Sort.bitsLen_le_iff n (Sort.bitsLen n - 1)).2 (by omega)
 omega
theorem bitsLen_lt {n k:Nat} (h:n < 2 ^ k):Sort.bitsLen n≤k:=(Sort.bitsLen_le_iff n k).2 h
theorem len_eq {n:Nat} (h:n < 2 ^ 64):math_bits_Len (n:Int)=some ((Sort.bitsLen n:Nat):Int):=by
 unfold math_bits_Len
 have e:IntKind.u64.wrap (n:Int)=(n:Int):=uwrap (k:=.u64) rfl h
 obtain ⟨L,e1,e2,_⟩:=len64_eq h
 rw [show Sort.bitsLen n=L from len_uniq (bitsLen_is n) e2]
 first
  | rw [e,e1]; rfl
  | (rw [e1]; rfl)
end Go.Av
namespace Go.Av
open Go
set_option linter.unusedVariables false
set_option linter.unusedSimpArgs false
theorem next_eq {x:Nat} (h:x < 2 ^ 64):slices_xorshift_Next_w (x:Int)=some (((Sort.xorNextN x:Nat):Int),((Sort.xorNextN x:Nat):Int)):=by
 unfold slices_xorshift_Next_w
 have s13:∀ y:Nat,shlOp .u64 (y:Int) 13=((y * 8192 % 18446744073709551616:Nat):Int):=fun y=>by
  have:=shl_nat (k:=.u64) y 13 (by decide)
  rw [show ((13:Nat):Int)=13 from rfl] at this
  rw [this,wrap_u64]; omega
 have s17:∀ y:Nat,shlOp .u64 (y:Int) 17=((y * 131072 % 18446744073709551616:Nat):Int):=fun y=>by
  have:=shl_nat (k:=.u64) y 17 (by decide)
  rw [show ((17:Nat):Int)=17 from rfl] at this
  rw [this,wrap_u64]; omega
 have s7:∀ y:Nat,shrOp .u64 (y:Int) 7=((y / 128:Nat):Int):=fun y=>shr_nat .u64 y 7 (by decide)
 have ha:x ^^^ (x * 8192 % 18446744073709551616) < 2 ^ 64:=Nat.xor_lt_two_pow h (by omega)
 have hb:(x ^^^ (x * 8192 % 18446744073709551616)) ^^^ ((x ^^^ (x * 8192 % 18446744073709551616)) / 128) < 2 ^ 64:=Nat.xor_lt_two_pow ha (by omega)
 rw [s13,xor_nat (k:=.u64) rfl h (show x * 8192 % 18446744073709551616 < 2 ^ 64 by omega),s7,xor_nat (k:=.u64) rfl ha (show (x ^^^ (x * 8192 % 18446744073709551616)) / 128 < 2 ^ 64 by omega),s17,xor_nat (k:=.u64) rfl hb (show ((x ^^^ (x * 8192 % 18446744073709551616)) ^^^ ((x ^^^ (x * 8192 % 18446744073709551616)) / 128)) * 131072 % 18446744073709551616 < 2 ^ 64 by omega)]
 rfl
theorem breakStep_sz (a l m:Nat) (st:UInt64 × Array Time) (i:Nat):(Sort.breakStep a l m st i).2.size=st.2.size:=by
 unfold Sort.breakStep
 exact swp_sz _ _ _
theorem two_pow_lt {l:Nat} (h:l < 1152921504606846976):Sort.bitsLen l≤60:=bitsLen_lt h
theorem break_loop {B:Int × Int × Int × List Time→Option (Ctl (Int × Int × Int × List Time) Empty)} {a b l M fuel K:Nat} {d:Array Time} {r0:UInt64} {n0:Nat} (h0:r0.toNat=n0) {Q:Type} {kn:Int × Int × Int × List Time→Option Q} {kr:Empty→Option Q} {q:Option Q} (hf:4 < fuel) (hK0:1≤K) (hK:a≤K - 1) (hK2:K + 1 < b) (hb:b≤d.size)
  (hB:∀ (k:Nat) (r:UInt64) (e:Array Time),e.size=d.size→a≤k→k≤K + 1→k < b→B ((n0:Int),(k:Int),(r.toNat:Int),e.toList)=some (.next ((n0:Int),((k + 1:Nat):Int),((Sort.breakStep a l M (r,e) k).1.toNat:Int),(Sort.breakStep a l M (r,e) k).2.toList)))
  (hE:∀ (r:UInt64) (e:Array Time),B ((n0:Int),((K + 2:Nat):Int),(r.toNat:Int),e.toList)=some (.brk ((n0:Int),((K + 2:Nat):Int),(r.toNat:Int),e.toList)))
  (hk:∀ x y z,kn (x,y,z,(Sort.breakStep a l M (Sort.breakStep a l M (Sort.breakStep a l M (r0,d) (K - 1)) (K - 1 + 1)) (K - 1 + 2)).2.toList)=q) :
  outK (loopN B fuel ((n0:Int),((K - 1:Nat):Int),(n0:Int),d.toList)) kn kr=q:=by
 subst h0
 obtain ⟨f,rfl⟩:∃ f,fuel=f + 1 + 1 + 1 + 1:=⟨fuel - 4,by omega⟩
 have s1:=breakStep_sz a l M (r0,d) (K - 1)
 have s2:=breakStep_sz a l M (Sort.breakStep a l M (r0,d) (K - 1)) (K - 1 + 1)
 have h1:=hB (K - 1) r0 d rfl (by omega) (by omega) (by omega)
 have h2:=hB (K - 1 + 1) (Sort.breakStep a l M (r0,d) (K - 1)).1 (Sort.breakStep a l M (r0,d) (K - 1)).2 s1 (by omega) (by omega) (by omega)
 have h3:=hB (K - 1 + 1 + 1) (Sort.breakStep a l M (Sort.breakStep a l M (r0,d) (K - 1)) (K - 1 + 1)).1 (Sort.breakStep a l M (Sort.breakStep a l M (r0,d) (K - 1)) (K - 1 + 1)).2 (s2.trans s1) (by omega) (by omega) (by omega)
 rw [loopN_next h1,loopN_next h2,loopN_next h3,show K - 1 + 1 + 1 + 1=K + 2 by omega,loopN_brk (hE _ _)]
 exact hk _ _ _
theorem breakPatterns_eq {fuel a b:Nat} {d:Array Time} (hab:a < b) (hb:b≤d.size) (hd:d.size < 1152921504606846976) (hf:4 < fuel) :
  slices_breakPatternsCmpFunc_Time__Compare_w fuel (a:Int) (b:Int) d.toList=some (Sort.breakPatterns d a b).toList:=by
 unfold slices_breakPatternsCmpFunc_Time__Compare_w Sort.breakPatterns
 have e0:IntKind.i64.wrap ((b:Int) - (a:Int))=((b - a:Nat):Int):=wsub (by omega) (by omega)
 simp only [e0,bf_decide]
 by_cases h8:b - a ≥ 8
 ·rw [if_pos h8,if_pos (by omega)]
  have hL:=two_pow_lt (l:=b - a) (by omega)
  have hLl:=Sort.lt_two_pow_bitsLen (b - a)
  have hLu:=Sort.two_pow_bitsLen_le (n:=b - a) (by omega)
  have hp:2 ^ Sort.bitsLen (b - a)≤2 ^ 60:=Nat.pow_le_pow_right (by decide) hL
  have hm:slices_nextPowerOfTwo ((b - a:Nat):Int)=some ((2 ^ Sort.bitsLen (b - a):Nat):Int):=by
   unfold slices_nextPowerOfTwo
   have e:IntKind.u64.wrap ((b - a:Nat):Int)=((b - a:Nat):Int):=uwrap (k:=.u64) rfl (show b - a < 2 ^ 64 by omega)
   rw [e,len_eq (by omega),Option.bind_some,need_true (by omega)]
   have:=shl_nat (k:=.u64) 1 (Sort.bitsLen (b - a)) (by show Sort.bitsLen (b - a)≤64; omega)
   rw [show ((1:Nat):Int)=1 from rfl,Nat.one_mul] at this
   rw [this,uwrap (k:=.u64) rfl (show 2 ^ Sort.bitsLen (b - a) < 2 ^ 64 by omega)]
  rw [hm,Option.bind_some,Nat.one_shiftLeft]
  generalize 2 ^ Sort.bitsLen (b - a)=M at *
  have e1:IntKind.i64.wrap (((b - a:Nat):Int).tdiv 4)=(((b - a) / 4:Nat):Int):=by rw [Int.tdiv_eq_ediv_of_nonneg (by omega),wrap_small (by omega) (by omega)]; omega
  have e2:IntKind.i64.wrap ((((b - a) / 4:Nat):Int) * 2)=(((b - a) / 4 * 2:Nat):Int):=by rw [wrap_small (by omega) (by omega)]; omega
  have e3:IntKind.i64.wrap ((a:Int) + (((b - a) / 4 * 2:Nat):Int))=((a + (b - a) / 4 * 2:Nat):Int):=wadd (by omega)
  have e4:IntKind.i64.wrap (((a + (b - a) / 4 * 2:Nat):Int) - 1)=((a + (b - a) / 4 * 2 - 1:Nat):Int):=wsub1 (by omega) (by omega)
  have e5:IntKind.i64.wrap (((a + (b - a) / 4 * 2:Nat):Int) + 1)=((a + (b - a) / 4 * 2 + 1:Nat):Int):=wadd1 (by omega)
  have e6:IntKind.i64.wrap ((b - a:Nat):Int)=((b - a:Nat):Int):=wrap_i64_in (by unfold in64; omega)
  have e7:IntKind.u64.wrap ((b - a:Nat):Int)=((b - a:Nat):Int):=uwrap (k:=.u64) rfl (show b - a < 2 ^ 64 by omega)
  have e8:IntKind.u64.wrap ((M:Int) - 1)=((M - 1:Nat):Int):=by rw [wrap_u64]; omega
  simp only [e1,e2,e3,e4,e7,e8,jn_eq]
  have hr0:(UInt64.ofNat (b - a)).toNat=b - a:=by rw [UInt64.toNat_ofNat']; omega
  refine break_loop (r0:=UInt64.ofNat (b - a)) (n0:=b - a) hr0 (a:=a) (l:=(b - a)) (M:=M) (b:=b) (K:=a + (b - a) / 4 * 2) hf (by omega) (by omega) (by omega) hb ?_ ?_ (fun x y z=>by dsimp only)
  ·intro k r e he hk1 hk2 hk3
   simp only
   rw [if_pos (show (k:Int)≤_ by rw [e1,e2,e3,e5]; omega)]
   have hr:=UInt64.toNat_lt r
   rw [next_eq (by omega),Option.bind_some]
   unfold Sort.breakStep
   dsimp only
   rw [Sort.xorNext_toNat]
   have hx:=Sort.xorNextN_lt r.toNat (by omega)
   have ea:bitsOp .and .u64 ((Sort.xorNextN r.toNat:Nat):Int) ((M - 1:Nat):Int)=((Sort.xorNextN r.toNat &&& (M - 1):Nat):Int):=and_nat (k:=.u64) rfl (show _ < 2 ^ 64 by omega) (show M - 1 < 2 ^ 64 by omega)
   have hal:Sort.xorNextN r.toNat &&& (M - 1)≤M - 1:=Nat.and_le_right
   rw [ea]
   generalize Sort.xorNextN r.toNat &&& (M - 1)=o at *
   have eo:IntKind.i64.wrap (o:Int)=(o:Int):=wrap_i64_in (by unfold in64; omega)
   rw [eo]
   have w1:IntKind.i64.wrap ((k:Int) + 1)=((k + 1:Nat):Int):=wadd1 (by omega)
   by_cases ho:o ≥ b - a
   ·have w2:IntKind.i64.wrap ((o:Int) - ((b - a:Nat):Int))=((o - (b - a):Nat):Int):=wsub (by omega) (by omega)
    have w3:IntKind.i64.wrap ((a:Int) + ((o - (b - a):Nat):Int))=((a + (o - (b - a)):Nat):Int):=wadd (by omega)
    rw [if_pos ho,if_pos (by omega),w1,w2,w3]
    simp (disch:=omega) only [Int.toNat_natCast,Nat.zero_add,need_true,Array.length_toList,List.length_set,arr_get,arr_swp]
   ·have w3:IntKind.i64.wrap ((a:Int) + (o:Int))=((a + o:Nat):Int):=wadd (by omega)
    rw [if_neg ho,if_neg (by omega),w1,w3]
    simp (disch:=omega) only [Int.toNat_natCast,Nat.zero_add,need_true,Array.length_toList,List.length_set,arr_get,arr_swp]
  ·intro r e
   simp only
   rw [if_neg (show ¬ ((a + (b - a) / 4 * 2 + 2:Nat):Int)≤_ by rw [e1,e2,e3,e5]; omega)]
 ·rw [if_neg h8,if_neg (by omega)]
end Go.Av
namespace Go.Av
open Go
set_option linter.unusedVariables false
set_option linter.unusedSimpArgs false
abbrev PdqS:=Int × Int × Int × Bool × Bool × (List Time)
def pK12 (fuel : Nat) (a b : Int) (lim len : Int) (pivot : Int) (wb wp : Bool) (l : List Time) (x : Bool) : Option (Ctl PdqS (List Time)) :=
  bf x ((slices_partitionEqualCmpFunc_Time__Compare_w fuel a b pivot l).bind fun r14 => need (r14.2.length = l.length) <| some (.next (r14.1, b, lim, wb, wp, r14.2)))
    ((slices_partitionCmpFunc_Time__Compare_w fuel a b pivot l).bind fun r16 => need (r16.2.2.length = l.length) <| bf (decide ((IntKind.i64.wrap (r16.1 - a)) < (IntKind.i64.wrap (b - r16.1))))
      ((slices_pdqsortCmpFunc_Time__Compare_w fuel a r16.1 lim r16.2.2).bind fun r18 => need (r18.length = r16.2.2.length) <| some (.next ((IntKind.i64.wrap (r16.1 + 1)), b, lim, (decide ((IntKind.i64.wrap (len.tdiv 8)) ≤ (IntKind.i64.wrap (r16.1 - a)))), r16.2.1, r18)))
      ((slices_pdqsortCmpFunc_Time__Compare_w fuel (IntKind.i64.wrap (r16.1 + 1)) b lim r16.2.2).bind fun r20 => need (r20.length = r16.2.2.length) <| some (.next (a, r16.1, lim, (decide ((IntKind.i64.wrap (len.tdiv 8)) ≤ (IntKind.i64.wrap (b - r16.1)))), r16.2.1, r20))))
def pK10 (fuel:Nat) (a b:Int) (lim len:Int) (pivot:Int) (wb wp:Bool) (l:List Time):Option (Ctl PdqS (List Time)) :=
 jn (fun (a12:Bool)=>pK12 fuel a b lim len pivot wb wp l a12) fun j13=>bf (decide (0 < a)) (need ((0:Int)≤(IntKind.i64.wrap (a - 1))∧(IntKind.i64.wrap (a - 1)) < (l.length:Int)) <| need ((0 + (IntKind.i64.wrap (a - 1)).toNat) < l.length) <| need ((0:Int)≤pivot∧pivot < (l.length:Int)) <| need ((0 + pivot.toNat) < l.length) <| (moment_Compare (l.getD (0 + (IntKind.i64.wrap (a - 1)).toNat) default) (l.getD (0 + pivot.toNat) default)).bind fun r27=>j13 (!(decide (r27 < 0)))) (j13 false)
def pK8 (fuel:Nat) (a b:Int) (lim len:Int) (wb wp:Bool) (pivot hint:Int) (l:List Time):Option (Ctl PdqS (List Time)) :=
 jn (fun (a10:Bool × Bool × (List Time))=>pK10 fuel a b lim len pivot a10.1 a10.2.1 a10.2.2) fun j11=>jn (fun (a28:Bool × Bool × Bool)=>bf a28.2.2 ((slices_partialInsertionSortCmpFunc_Time__Compare_w fuel a b l).bind fun r30=>need (r30.2.length=l.length) <| bf r30.1 (some (.ret r30.2)) (j11 (a28.1,a28.2.1,r30.2))) (j11 (a28.1,a28.2.1,l))) fun j29=>bf wb (bf wp (j29 (true,true,(decide (hint=1)))) (j29 (true,false,false))) (j29 (false,wp,false))
def pK5 (fuel:Nat) (a b:Int) (wb wp:Bool) (lim len:Int) (l:List Time):Option (Ctl PdqS (List Time)) :=
 (slices_choosePivotCmpFunc_Time__Compare l a b).bind fun r7=>jn (fun (a8:Int × Int × (List Time))=>pK8 fuel a b lim len wb wp a8.1 a8.2.1 a8.2.2) fun j9=>bf (decide (r7.2=2)) ((slices_reverseRangeCmpFunc_Time__Compare_w fuel a b l).bind fun r32=>need (r32.length=l.length) <| j9 ((IntKind.i64.wrap ((IntKind.i64.wrap (b - 1)) - (IntKind.i64.wrap (r7.1 - a)))),1,r32)) (j9 (r7.1,r7.2,l))
def pBody (fuel:Nat) (a1:PdqS):Option (Ctl PdqS (List Time)) :=
 bf (decide ((IntKind.i64.wrap (a1.2.1 - a1.1))≤12)) ((slices_insertionSortCmpFunc_Time__Compare_w fuel a1.1 a1.2.1 a1.2.2.2.2.2).bind fun r3=>some (.ret r3)) (bf (decide (a1.2.2.1=0)) ((slices_heapSortCmpFunc_Time__Compare_w fuel a1.1 a1.2.1 a1.2.2.2.2.2).bind fun r4=>some (.ret r4))
  (jn (fun (a5:Int × Int × (List Time))=>pK5 fuel a1.1 a1.2.1 a1.2.2.2.1 a1.2.2.2.2.1 a5.1 a5.2.1 a5.2.2) fun j6=>bf (!a1.2.2.2.1) ((slices_breakPatternsCmpFunc_Time__Compare_w fuel a1.1 a1.2.1 a1.2.2.2.2.2).bind fun r34=>need (r34.length=a1.2.2.2.2.2.length) <| j6 ((IntKind.i64.wrap (a1.2.2.1 - 1)),(IntKind.i64.wrap (a1.2.1 - a1.1)),r34)) (j6 (a1.2.2.1,(IntKind.i64.wrap (a1.2.1 - a1.1)),a1.2.2.2.2.2))))
theorem pdq_gen (fuel:Nat) (a b lim:Int) (l:List Time):slices_pdqsortCmpFunc_Time__Compare_w (fuel + 1) a b lim l=outK (loopN (pBody fuel) fuel (a,b,lim,true,true,l)) (fun _=>none) (fun x=>some x):=rfl
def qD (a b lim:Nat) (wb wp:Bool) (pivot:Nat) (d:Array Time):Array Time :=
 if a > 0 && !ltT d[a - 1]! d[pivot]! then
  match Sort.partitionEqual ltT d a b pivot with
  | (mid,d4)=>if _h:a < mid∧mid≤b then Sort.pdq ltT d4 mid b lim wb wp else d4
 else
  match Sort.partition ltT d a b pivot with
  | (mid,alreadyPartitioned,d4) =>
   if _h:a≤mid∧mid < b then
    if mid - a < b - mid then
     Sort.pdq ltT (Sort.pdq ltT d4 a mid lim true true) (mid + 1) b lim (decide (mid - a ≥ (b - a) / 8)) alreadyPartitioned
    else
     Sort.pdq ltT (Sort.pdq ltT d4 (mid + 1) b lim true true) a mid lim (decide (b - mid ≥ (b - a) / 8)) alreadyPartitioned
   else d4
def qC (a b lim:Nat) (wb wp:Bool) (pivot:Nat) (hint:Sort.Hint) (d:Array Time):Array Time :=
 let pi:=if wb && wp && hint = .increasing then Sort.partialInsertionSort ltT d a b else (d,false)
 if pi.2 then pi.1 else qD a b lim wb wp pivot pi.1
def qB (a b lim:Nat) (wb wp:Bool) (d:Array Time):Array Time :=
 let c:=Sort.choosePivot ltT d a b
 if c.2 = .decreasing then qC a b lim wb wp ((b - 1) - (c.1 - a)) .increasing (Sort.reverseRange d a b) else qC a b lim wb wp c.1 c.2 d
theorem pdq_unf (d:Array Time) (a b lim:Nat) (wb wp:Bool):Sort.pdq ltT d a b lim wb wp =
  if b - a≤12 then Sort.insertionSort ltT d a b else if lim=0 then Sort.heapSort ltT d a b else
   (if wb then qB a b lim wb wp d else qB a b (lim - 1) wb wp (Sort.breakPatterns d a b)):=by
 rw [Sort.pdq]
 by_cases h1:b - a≤12
 ·rw [if_pos h1,if_pos h1]
 ·rw [if_neg h1,if_neg h1]
  by_cases h2:lim=0
  ·rw [if_pos h2,if_pos h2]
  ·rw [if_neg h2,if_neg h2]
   cases wb
   ·simp only [Bool.not_false,if_true]
    unfold qB
    dsimp only
    by_cases h3:(Sort.choosePivot ltT (Sort.breakPatterns d a b) a b).2 = .decreasing
    ·simp only [if_pos h3]; rfl
    ·simp only [if_neg h3]; rfl
   ·simp only [Bool.not_true,Bool.false_eq_true,if_false,if_true]
    unfold qB
    dsimp only
    by_cases h3:(Sort.choosePivot ltT d a b).2 = .decreasing
    ·simp only [if_pos h3]; rfl
    ·simp only [if_neg h3]; rfl
theorem scanDown_ge {α:Type} [Inhabited α] (p : α → Bool) (d:Array α) (i:Nat):∀ (j:Nat),i≤j + 1→i≤Sort.scanDown p d i j + 1
 | 0,h=>h
 | j + 1,h=>by
  unfold Sort.scanDown
  split
  ·rename_i hc
   have:i≤j + 1:=by simp at hc; exact hc.1
   exact scanDown_ge p d i j this
  ·exact h
theorem scanUp_stop {α:Type} [Inhabited α] (p : α → Bool) (d:Array α) (j:Nat):∀ (n i:Nat),j + 1 - i≤n→Sort.scanUp p d j i≤j→p d[Sort.scanUp p d j i]! = false:=by
 intro n
 induction n with
 | zero =>
  intro i hn h
  rw [Sort.scanUp] at h ⊢
  split at h
  ·rename_i hc; simp at hc; omega
  ·omega
 | succ n ih =>
  intro i hn h
  rw [Sort.scanUp] at h ⊢
  split at h
  ·rename_i hc
   rw [if_pos hc]
   exact ih (i + 1) (by omega) h
  ·rename_i hc
   rw [if_neg hc]
   simp at hc
   exact hc h
theorem scanDown_stop {α:Type} [Inhabited α] (p : α → Bool) (d:Array α) (i:Nat):∀ (j:Nat),i≤Sort.scanDown p d i j→1≤i→p d[Sort.scanDown p d i j]! = false
 | 0,h,h1=>by have:Sort.scanDown p d i 0=0:=rfl; omega
 | j + 1,h,h1=>by
  unfold Sort.scanDown at h ⊢
  split at h
  ·rename_i hc
   rw [if_pos hc]
   exact scanDown_stop p d i j h h1
  ·rename_i hc
   rw [if_neg hc]
   simp at hc
   exact hc h
theorem scan_ne {α:Type} [Inhabited α] (p q : α → Bool) (hq:∀ x,q x = !p x) (d:Array α) (i j:Nat):1≤i→Sort.scanUp p d j i ≠ Sort.scanDown q d (Sort.scanUp p d j i) j:=fun hi e=>by
 have u:=scanUp_le p d j _ i (Nat.le_refl _)
 have v:=scanDown_le' q d (Sort.scanUp p d j i) j
 have h1:=scanUp_stop p d j _ i (Nat.le_refl _) (by omega)
 have h2:=scanDown_stop q d (Sort.scanUp p d j i) j (by omega) (by omega)
 rw [← e,hq,h1] at h2
 cases h2
theorem partEqLoop_fact {a:Nat}:∀ (n i j:Nat) (d:Array Time),j + 1 - i≤n→1≤i→i≤j + 1→j < d.size→i≤(Sort.partEqLoop ltT a i j d).1∧(Sort.partEqLoop ltT a i j d).1≤j + 1∧(Sort.partEqLoop ltT a i j d).2.size=d.size:=by
 intro n
 induction n with
 | zero =>
  intro i j d hn hi hi2 hj
  have u:=(scanUp_le (fun x => !ltT d[a]! x) d j _ i (Nat.le_refl _))
  have v:=scanDown_le' (fun x=>ltT d[a]! x) d (Sort.scanUp (fun x => !ltT d[a]! x) d j i) j
  rw [partEqLoop_unf,if_pos (by omega)]
  exact ⟨u.2,by show Sort.scanUp _ _ _ _≤_; omega,rfl⟩
 | succ n ih =>
  intro i j d hn hi hi2 hj
  have u:=(scanUp_le (fun x => !ltT d[a]! x) d j _ i (Nat.le_refl _))
  have v:=scanDown_le' (fun x=>ltT d[a]! x) d (Sort.scanUp (fun x => !ltT d[a]! x) d j i) j
  have w:=scanDown_ge (fun x=>ltT d[a]! x) d (Sort.scanUp (fun x => !ltT d[a]! x) d j i) j
  have hno:=scan_ne (fun x => !ltT d[a]! x) (fun x=>ltT d[a]! x) (fun x=>by simp) d i j
  rw [partEqLoop_unf]
  generalize Sort.scanUp (fun x => !ltT d[a]! x) d j i=i2 at *
  generalize Sort.scanDown (fun x=>ltT d[a]! x) d i2 j=j2 at *
  by_cases hc:i2 > j2
  ·rw [if_pos hc]
   exact ⟨u.2,by show i2≤_; omega,rfl⟩
  ·rw [if_neg hc]
   have:=ih (i2 + 1) (j2 - 1) (Sort.swp d i2 j2) (by omega) (by omega) (by omega) (by rw [swp_sz]; omega)
   rw [swp_sz] at this
   omega
end Go.Av
namespace Go.Av
open Go
set_option linter.unusedVariables false
set_option linter.unusedSimpArgs false
theorem ltT_iff {x y:Time}:ltT x y=true↔x.epoch < y.epoch∨(x.epoch=y.epoch∧(x.loop.1 < y.loop.1∨(x.loop.1=y.loop.1∧x.loop.2 < y.loop.2))):=by
 unfold ltT cmpT
 rw [decide_eq_true_eq]
 repeat' split
 all_goals omega
theorem swoT:Sort.SWO ltT where
 irrefl x:=by
  cases h:ltT x x with
  | false=>rfl
  | true=>rw [ltT_iff] at h; omega
 trans x y z h1 h2:=by
  rw [ltT_iff] at *
  omega
 ntrans x y z h1 h2:=by
  rw [← Bool.not_eq_true,ltT_iff] at *
  omega
theorem insOuter_sz (a b:Nat):∀ (n i:Nat) (d:Array Time),b - i≤n→(Sort.insOuter ltT a b i d).size=d.size:=by
 intro n
 induction n with
 | zero=>intro i d hn; rw [Sort.insOuter,if_neg (by omega)]
 | succ n ih =>
  intro i d hn
  rw [Sort.insOuter]
  split
  ·rw [ih _ _ (by omega),insInner_sz]
  ·rfl
theorem insertion_sz (a b:Nat) (d:Array Time):(Sort.insertionSort ltT d a b).size=d.size:=insOuter_sz a b b _ d (by omega)
theorem heapPop_sz (first:Nat):∀ (k:Nat) (d:Array Time),(Sort.heapPop ltT first k d).size=d.size
 | 0,d=>rfl
 | k + 1,d=>by unfold Sort.heapPop; rw [heapPop_sz first k,sift_sz,swp_sz]
theorem heapSort_sz (a b:Nat) (d:Array Time):(Sort.heapSort ltT d a b).size=d.size:=by unfold Sort.heapSort; rw [heapPop_sz,heapBuild_sz]
theorem partialIns_sz (a b:Nat):∀ (s i:Nat) (d:Array Time),(Sort.partialIns ltT a b s i d).1.size=d.size
 | 0,i,d=>rfl
 | s + 1,i,d=>by
  rw [partialIns_unf]
  split
  ·rfl
  ·split
   ·rfl
   ·rw [partialIns_sz a b s,pisStep_sz]
def stepTo (F g:Nat) (o:Option (Ctl PdqS (List Time))) (q:Array Time):Prop:=(∃ s,o=some (.next s)∧loopN (pBody F) g s=some (.ret q.toList))∨o=some (.ret q.toList)
def PdqOk (m:Nat):Prop := ∀ (F g a b lim:Nat) (wb wp:Bool) (d:Array Time),b - a < m→a≤b→b≤d.size→d.size < 1152921504606846976→lim < 1152921504606846976→b - a < g→d.size + (b - a) + 20 < F →
 loopN (pBody F) g ((a:Int),(b:Int),(lim:Int),wb,wp,d.toList)=some (.ret (Sort.pdq ltT d a b lim wb wp).toList)∧(Sort.pdq ltT d a b lim wb wp).size=d.size
theorem PdqOk.call {m:Nat} (h:PdqOk m) {F a b lim:Nat} {d:Array Time} (hm:b - a < m) (hab:a≤b) (hb:b≤d.size) (hd:d.size < 1152921504606846976) (hl:lim < 1152921504606846976) (hf:d.size + (b - a) + 21 < F) :
  slices_pdqsortCmpFunc_Time__Compare_w F (a:Int) (b:Int) (lim:Int) d.toList=some (Sort.pdq ltT d a b lim true true).toList∧(Sort.pdq ltT d a b lim true true).size=d.size:=by
 cases F with
 | zero=>omega
 | succ F =>
  obtain ⟨h1,h2⟩:=h F F a b lim true true d hm hab hb hd hl (by omega) (by omega)
  rw [pdq_gen,h1]
  exact ⟨rfl,h2⟩
theorem stageD {F g a b lim pivot:Nat} {wb wp:Bool} {d:Array Time} (ih:PdqOk (b - a)) (hab:a + 12 < b) (hp:a≤pivot∧pivot < b) (hb:b≤d.size) (hd:d.size < 1152921504606846976) (hl:lim < 1152921504606846976) (hg:b - a≤g) (hF:d.size + (b - a) + 20 < F) :
  stepTo F g (pK10 F (a:Int) (b:Int) (lim:Int) ((b - a:Nat):Int) (pivot:Int) wb wp d.toList) (qD a b lim wb wp pivot d)∧(qD a b lim wb wp pivot d).size=d.size:=by
 have e8:IntKind.i64.wrap (((b - a:Nat):Int).tdiv 8)=(((b - a) / 8:Nat):Int):=by rw [Int.tdiv_eq_ediv_of_nonneg (by omega),wrap_small (by omega) (by omega)]; omega
 have hK:pK10 F (a:Int) (b:Int) (lim:Int) ((b - a:Nat):Int) (pivot:Int) wb wp d.toList=pK12 F (a:Int) (b:Int) (lim:Int) ((b - a:Nat):Int) (pivot:Int) wb wp d.toList (a > 0 && !ltT d[a - 1]! d[pivot]!):=by
  unfold pK10
  simp only [jn_eq]
  by_cases h0:0 < a
  ·rw [decide_eq_true (show (0:Int) < (a:Int) by omega),bf_true,wsub1 (by omega) (by omega)]
   simp (disch:=omega) only [Int.toNat_natCast,Nat.zero_add,need_true,Array.length_toList,compare_eq,Option.bind_some,arr_get]
   rw [decide_eq_true h0,Bool.true_and]
   rfl
  ·rw [decide_eq_false (show ¬ (0:Int) < (a:Int) by omega),bf_false,decide_eq_false h0,Bool.false_and]
 rw [hK]
 unfold qD
 cases hx:(a > 0 && !ltT d[a - 1]! d[pivot]!) with
 | true =>
  simp only [if_true]
  unfold pK12
  rw [bf_true,partitionEqual_eq hp (by omega) hb hd (by omega),Option.bind_some]
  have hr:=partEqLoop_fact (a:=a) _ (a + 1) (b - 1) (Sort.swp d a pivot) (Nat.le_refl _) (by omega) (by omega) (by rw [swp_sz]; omega)
  rw [swp_sz] at hr
  have he:Sort.partEqLoop ltT a (a + 1) (b - 1) (Sort.swp d a pivot)=Sort.partitionEqual ltT d a b pivot:=rfl
  rw [he] at hr
  generalize Sort.partitionEqual ltT d a b pivot=r at *
  obtain ⟨mid,d4⟩:=r
  simp only at hr ⊢
  rw [dif_pos (by omega),need_true (by rw [Array.length_toList,Array.length_toList]; omega)]
  obtain ⟨h1,h2⟩:=ih F g mid b lim wb wp d4 (by omega) (by omega) (by omega) (by omega) hl (by omega) (by omega)
  exact ⟨.inl ⟨_,rfl,h1⟩,by omega⟩
 | false =>
  simp only [Bool.false_eq_true,if_false]
  unfold pK12
  rw [bf_false,partition_eq hp (by omega) hb hd (by omega),Option.bind_some,e8]
  obtain ⟨g1,g2,g3,_,_⟩:=Sort.partition_holds ltT swoT d a b pivot hp.1 hp.2 hb
  have g3:=g3.1
  generalize Sort.partition ltT d a b pivot=r at *
  obtain ⟨mid,ap,d4⟩:=r
  simp only at g1 g2 g3 ⊢
  have w1:IntKind.i64.wrap ((mid:Int) - (a:Int))=((mid - a:Nat):Int):=wsub (by omega) (by omega)
  have w2:IntKind.i64.wrap ((b:Int) - (mid:Int))=((b - mid:Nat):Int):=wsub (by omega) (by omega)
  have w3:IntKind.i64.wrap ((mid:Int) + 1)=((mid + 1:Nat):Int):=wadd1 (by omega)
  rw [dif_pos ⟨g1,g2⟩,need_true (by rw [Array.length_toList,Array.length_toList]; omega),w1,w2,w3,bf_decide]
  by_cases hc:mid - a < b - mid
  ·rw [if_pos hc,if_pos (by omega)]
   obtain ⟨c1,c2⟩:=ih.call (F:=F) (a:=a) (b:=mid) (lim:=lim) (d:=d4) (by omega) (by omega) (by omega) (by omega) hl (by omega)
   rw [c1,Option.bind_some,need_true (by rw [Array.length_toList,Array.length_toList]; omega)]
   generalize Sort.pdq ltT d4 a mid lim true true=d5 at *
   obtain ⟨h1,h2⟩:=ih F g (mid + 1) b lim (decide (mid - a ≥ (b - a) / 8)) ap d5 (by omega) (by omega) (by omega) (by omega) hl (by omega) (by omega)
   refine ⟨.inl ⟨_,rfl,?_⟩,by omega⟩
   have e:decide ((((b - a) / 8:Nat):Int)≤((mid - a:Nat):Int))=decide (mid - a ≥ (b - a) / 8):=by
    rw [Bool.eq_iff_iff]; simp only [decide_eq_true_eq]; omega
   rw [e]
   exact h1
  ·rw [if_neg hc,if_neg (by omega)]
   obtain ⟨c1,c2⟩:=ih.call (F:=F) (a:=mid + 1) (b:=b) (lim:=lim) (d:=d4) (by omega) (by omega) (by omega) (by omega) hl (by omega)
   rw [c1,Option.bind_some,need_true (by rw [Array.length_toList,Array.length_toList]; omega)]
   generalize Sort.pdq ltT d4 (mid + 1) b lim true true=d5 at *
   obtain ⟨h1,h2⟩:=ih F g a mid lim (decide (b - mid ≥ (b - a) / 8)) ap d5 (by omega) (by omega) (by omega) (by omega) hl (by omega) (by omega)
   refine ⟨.inl ⟨_,rfl,?_⟩,by omega⟩
   have e:decide ((((b - a) / 8:Nat):Int)≤((b - mid:Nat):Int))=decide (b - mid ≥ (b - a) / 8):=by
    rw [Bool.eq_iff_iff]; simp only [decide_eq_true_eq]; omega
   rw [e]
   exact h1
theorem stageC {F g a b lim pivot:Nat} {hint:Sort.Hint} {wb wp:Bool} {d:Array Time} (ih:PdqOk (b - a)) (hab:a + 12 < b) (hp:a≤pivot∧pivot < b) (hb:b≤d.size) (hd:d.size < 1152921504606846976) (hl:lim < 1152921504606846976) (hg:b - a≤g) (hF:d.size + (b - a) + 20 < F) :
  stepTo F g (pK8 F (a:Int) (b:Int) (lim:Int) ((b - a:Nat):Int) wb wp (pivot:Int) (hintN hint) d.toList) (qC a b lim wb wp pivot hint d)∧(qC a b lim wb wp pivot hint d).size=d.size:=by
 have hK:pK8 F (a:Int) (b:Int) (lim:Int) ((b - a:Nat):Int) wb wp (pivot:Int) (hintN hint) d.toList=if wb && wp && hint = .increasing then ((slices_partialInsertionSortCmpFunc_Time__Compare_w F (a:Int) (b:Int) d.toList).bind fun r30=>need (r30.2.length=d.toList.length) <| bf r30.1 (some (.ret r30.2)) (pK10 F (a:Int) (b:Int) (lim:Int) ((b - a:Nat):Int) (pivot:Int) wb wp r30.2)) else pK10 F (a:Int) (b:Int) (lim:Int) ((b - a:Nat):Int) (pivot:Int) wb wp d.toList:=by
  unfold pK8
  cases wb <;> cases wp <;> cases hint <;> simp [jn,bf,hintN]
 rw [hK]
 unfold qC
 dsimp only
 by_cases hc:(wb && wp && decide (hint = .increasing))=true
 ·rw [if_pos hc,if_pos hc,partialInsertionSort_eq (by omega) hb hd (by omega),Option.bind_some]
  have hsz:(Sort.partialInsertionSort ltT d a b).1.size=d.size:=partialIns_sz a b 5 _ d
  generalize Sort.partialInsertionSort ltT d a b=r at *
  obtain ⟨d3,x⟩:=r
  simp only at hsz ⊢
  rw [need_true (by rw [Array.length_toList,Array.length_toList]; omega)]
  cases x with
  | true=>exact ⟨.inr rfl,hsz⟩
  | false =>
   simp only [bf_false,Bool.false_eq_true,if_false]
   have:=stageD (F:=F) (g:=g) (lim:=lim) (pivot:=pivot) (wb:=wb) (wp:=wp) (d:=d3) ih hab hp (by omega) (by omega) hl hg (by omega)
   exact ⟨this.1,by omega⟩
 ·rw [if_neg hc,if_neg hc]
  simp only [Bool.false_eq_true,if_false]
  exact stageD ih hab hp hb hd hl hg hF
theorem stageB {F g a b lim:Nat} {wb wp:Bool} {d:Array Time} (ih:PdqOk (b - a)) (hab:a + 12 < b) (hb:b≤d.size) (hd:d.size < 1152921504606846976) (hl:lim < 1152921504606846976) (hg:b - a≤g) (hF:d.size + (b - a) + 20 < F) :
  stepTo F g (pK5 F (a:Int) (b:Int) wb wp (lim:Int) ((b - a:Nat):Int) d.toList) (qB a b lim wb wp d)∧(qB a b lim wb wp d).size=d.size:=by
 unfold pK5 qB
 rw [choosePivot_eq (by omega) hb hd,Option.bind_some]
 obtain ⟨p1,p2⟩:=Sort.choosePivot_holds ltT d a b (by omega)
 generalize Sort.choosePivot ltT d a b=c at *
 obtain ⟨pivot,hint⟩:=c
 simp only [jn_eq] at p1 p2 ⊢
 by_cases hc:hint = .decreasing
 ·subst hc
  have hsz:=(Sort.reverseRange_holds d a b (by omega) hb).1
  rw [decide_eq_true (show hintN Sort.Hint.decreasing=2 from rfl),bf_true,reverseRange_eq (by omega) hb hd (by omega),Option.bind_some,need_true (by rw [Array.length_toList,Array.length_toList]; exact hsz)]
  have w1:IntKind.i64.wrap ((b:Int) - 1)=((b - 1:Nat):Int):=wsub1 (by omega) (by omega)
  have w2:IntKind.i64.wrap ((pivot:Int) - (a:Int))=((pivot - a:Nat):Int):=wsub (by omega) (by omega)
  have w3:IntKind.i64.wrap (((b - 1:Nat):Int) - ((pivot - a:Nat):Int))=(((b - 1) - (pivot - a):Nat):Int):=wsub (by omega) (by omega)
  rw [w1,w2,w3]
  simp only [if_true]
  have:=stageC (F:=F) (g:=g) (lim:=lim) (pivot:=(b - 1) - (pivot - a)) (hint:=.increasing) (wb:=wb) (wp:=wp) (d:=Sort.reverseRange d a b) ih hab (by omega) (by omega) (by omega) hl hg (by omega)
  exact ⟨this.1,this.2.trans hsz⟩
 ·have hn:hintN hint ≠ 2:=by cases hint <;> simp [hintN] at *
  rw [decide_eq_false hn,bf_false,if_neg hc]
  exact stageC ih hab ⟨p1,p2⟩ hb hd hl hg hF
theorem pdqOk:∀ m,PdqOk m:=by
 intro m
 induction m with
 | zero=>intro F g a b lim wb wp d h; omega
 | succ m ihm =>
  intro F g a b lim wb wp d hm hab hb hd hl hg hF
  have ih:PdqOk (b - a):=fun F' g' a' b' lim' wb' wp' d' h=>ihm F' g' a' b' lim' wb' wp' d' (by omega)
  cases g with
  | zero=>omega
  | succ g =>
   have e0:IntKind.i64.wrap ((b:Int) - (a:Int))=((b - a:Nat):Int):=wsub (by omega) (by omega)
   rw [pdq_unf]
   by_cases h1:b - a≤12
   ·rw [if_pos h1]
    refine ⟨?_,insertion_sz a b d⟩
    rw [loopN_ret (r:=(Sort.insertionSort ltT d a b).toList)]
    unfold pBody
    simp only [e0]
    rw [decide_eq_true (by omega),bf_true,insertion_eq hb (by omega) (by omega) (by omega),Option.bind_some]
   ·rw [if_neg h1]
    by_cases h2:lim=0
    ·rw [if_pos h2]
     refine ⟨?_,heapSort_sz a b d⟩
     rw [loopN_ret (r:=(Sort.heapSort ltT d a b).toList)]
     unfold pBody
     simp only [e0]
     rw [decide_eq_false (by omega),bf_false,decide_eq_true (by omega),bf_true,heapSort_eq (by omega) hb hd (by omega),Option.bind_some]
    ·rw [if_neg h2]
     have fin:∀ q:Array Time,stepTo F g (pBody F ((a:Int),(b:Int),(lim:Int),wb,wp,d.toList)) q→loopN (pBody F) (g + 1) ((a:Int),(b:Int),(lim:Int),wb,wp,d.toList)=some (.ret q.toList):=fun q hq=>by
      rcases hq with ⟨s,h3,h4⟩ | h3
      ·rw [loopN_next h3,h4]
      ·rw [loopN_ret h3]
     cases wb with
     | true =>
      simp only [if_true]
      have hB:pBody F ((a:Int),(b:Int),(lim:Int),true,wp,d.toList)=pK5 F (a:Int) (b:Int) true wp (lim:Int) ((b - a:Nat):Int) d.toList:=by
       unfold pBody
       simp only [e0,jn_eq]
       rw [decide_eq_false (by omega),bf_false,decide_eq_false (by omega),bf_false,Bool.not_true,bf_false]
      have:=stageB (F:=F) (g:=g) (a:=a) (b:=b) (lim:=lim) (wb:=true) (wp:=wp) (d:=d) ih (by omega) hb hd hl (by omega) hF
      exact ⟨fin _ (by rw [hB]; exact this.1),this.2⟩
     | false =>
      simp only [Bool.false_eq_true,if_false]
      have hsz:=(Sort.breakPatterns_holds d a b hab hb).1
      have hB:pBody F ((a:Int),(b:Int),(lim:Int),false,wp,d.toList)=pK5 F (a:Int) (b:Int) false wp ((lim - 1:Nat):Int) ((b - a:Nat):Int) (Sort.breakPatterns d a b).toList:=by
       unfold pBody
       simp only [e0,jn_eq]
       rw [decide_eq_false (by omega),bf_false,decide_eq_false (by omega),bf_false,Bool.not_false,bf_true,breakPatterns_eq (by omega) hb hd (by omega),Option.bind_some,need_true (by rw [Array.length_toList,Array.length_toList]; exact hsz),wsub1 (by omega) (by omega)]
      have:=stageB (F:=F) (g:=g) (a:=a) (b:=b) (lim:=lim - 1) (wb:=false) (wp:=wp) (d:=Sort.breakPatterns d a b) ih (by omega) (by omega) (by omega) (by omega) (by omega) (by omega)
      exact ⟨fin _ (by rw [hB]; exact this.1),this.2.trans hsz⟩
theorem sortFunc_eq {fuel:Nat} {l:List Time} (hl:l.length < 1152921504606846976) (hf:2 * l.length + 30 < fuel) :
  slices_SortFuncfreshet_api_Time_freshet_api_Time_Time__Compare_w fuel l=some (Sort.sort ltT l.toArray).toList:=by
 unfold slices_SortFuncfreshet_api_Time_freshet_api_Time_Time__Compare_w
 have e:IntKind.u64.wrap (l.length:Int)=(l.length:Int):=uwrap (k:=.u64) rfl (show l.length < 2 ^ 64 by omega)
 rw [e,len_eq (by omega),Option.bind_some]
 have hL:Sort.bitsLen l.length≤60:=bitsLen_lt hl
 have:=((pdqOk (l.length + 1)).call (F:=fuel) (a:=0) (b:=l.length) (lim:=Sort.bitsLen l.length) (d:=l.toArray) (by omega) (by omega) (by simp) (by simpa using hl) (by omega) (by simp; omega)).1
 rw [show ((0:Nat):Int)=0 from rfl,List.toList_toArray] at this
 rw [this,Option.bind_some]
 unfold Sort.sort
 rw [List.size_toArray]
end Go.Av
namespace Go.Av
open Go
set_option linter.unusedVariables false
set_option linter.unusedSimpArgs false
theorem eqT_iff {x y:Time}:eqTime x y=true↔x=y:=by
 constructor
 ·intro h
  simp only [eqTime,Bool.and_eq_true,decide_eq_true_eq,Bool.and_true] at h
  exact Time.ext' h.1 h.2.1 h.2.2
 ·rintro rfl; exact eqTime_self x
theorem le_anti {a b:Time} (h:leT a b=true) (g:leT b a=true):a=b:=eqT_iff.1 (leT_anti h g)
theorem not_lt_of_le {a b:Time} (h:leT a b=true):ltT b a=false:=by
 cases e:ltT b a with
 | false=>rfl
 | true=>rw [leT_iff] at h; rw [ltT_iff] at e; omega
theorem lt_or {a b:Time} (h:ltT b a=false) (hne:a ≠ b):ltT a b=true:=by
 cases e:ltT a b with
 | true=>rfl
 | false =>
  refine absurd ?_ hne
  rw [← Bool.not_eq_true,ltT_iff] at h e
  exact Time.ext' (by omega) (by omega) (by omega)
structure IsF (l f:List Time):Prop where
 sorted:f.Pairwise fun x y=>ltT x y=true
 sub:∀ x ∈ f,x ∈ l
 below:∀ y ∈ l,∃ u ∈ f,leT u y=true
 least:∀ x ∈ f,∀ y ∈ l,leT y x=true→y=x
theorem IsF.mem {l f:List Time} (h:IsF l f) (x:Time):x ∈ f↔x ∈ l∧∀ y ∈ l,leT y x=true→y=x:=by
 constructor
 ·exact fun hx=>⟨h.sub x hx,h.least x hx⟩
 ·rintro ⟨hx,hm⟩
  obtain ⟨u,hu,hle⟩:=h.below x hx
  rw [← hm u (h.sub u hu) hle]
  exact hu
theorem IsF.congr {l m f:List Time} (h:IsF l f) (e:∀ x,x ∈ l↔x ∈ m):IsF m f :=
 ⟨h.sorted,fun x hx=>(e x).1 (h.sub x hx),fun y hy=>h.below y ((e y).2 hy),fun x hx y hy=>h.least x hx y ((e y).2 hy)⟩
theorem IsF.step {p f:List Time} {t:Time} (h:IsF p f) (hs:∀ x ∈ p,ltT t x=false):IsF (p++[t]) (if f.any (fun u=>leT u t) then f else f++[t]):=by
 by_cases hc:f.any (fun u=>leT u t)=true
 ·rw [if_pos hc]
  obtain ⟨u,hu,hut⟩:=List.any_eq_true.1 hc
  refine ⟨h.sorted,fun x hx=>List.mem_append.2 (.inl (h.sub x hx)),?_,?_⟩
  ·intro y hy
   rcases List.mem_append.1 hy with hy | hy
   ·exact h.below y hy
   ·rw [List.mem_singleton.1 hy]; exact ⟨u,hu,hut⟩
  ·intro x hx y hy hle
   rcases List.mem_append.1 hy with hy | hy
   ·exact h.least x hx y hy hle
   ·rw [List.mem_singleton.1 hy] at hle ⊢
    have hux:=h.least x hx u (h.sub u hu) (leT_trans hut hle)
    subst hux
    exact le_anti hle hut
 ·rw [if_neg hc]
  have hno:∀ u ∈ f,leT u t=false:=fun u hu=>by
   cases e:leT u t with
   | false=>rfl
   | true=>exact absurd (List.any_eq_true.2 ⟨u,hu,e⟩) hc
  have hnp:∀ y ∈ p,leT y t=false:=fun y hy=>by
   obtain ⟨u,hu,hle⟩:=h.below y hy
   cases e:leT y t with
   | false=>rfl
   | true=>have:=leT_trans hle e; rw [hno u hu] at this; cases this
  refine ⟨?_,?_,?_,?_⟩
  ·rw [List.pairwise_append]
   refine ⟨h.sorted,by simp,fun x hx y hy => ?_⟩
   rw [List.mem_singleton.1 hy]
   refine lt_or (hs x (h.sub x hx)) (fun e => ?_)
   subst e
   have:=hno x hx
   rw [leT_refl] at this; cases this
  ·intro x hx
   rcases List.mem_append.1 hx with hx | hx
   ·exact List.mem_append.2 (.inl (h.sub x hx))
   ·exact List.mem_append.2 (.inr hx)
  ·intro y hy
   rcases List.mem_append.1 hy with hy | hy
   ·obtain ⟨u,hu,hle⟩:=h.below y hy
    exact ⟨u,List.mem_append.2 (.inl hu),hle⟩
   ·exact ⟨y,List.mem_append.2 (.inr hy),leT_refl y⟩
  ·intro x hx y hy hle
   rcases List.mem_append.1 hx with hx | hx
   ·rcases List.mem_append.1 hy with hy | hy
    ·exact h.least x hx y hy hle
    ·rw [List.mem_singleton.1 hy] at hle ⊢
     have h1:=hs x (h.sub x hx)
     have h2:=not_lt_of_le hle
     by_cases e:t=x
     ·exact e
     ·have:=lt_or h1 (fun h=>e h.symm); rw [h2] at this; cases this
   ·rw [List.mem_singleton.1 hx] at hle ⊢
    rcases List.mem_append.1 hy with hy | hy
    ·rw [hnp y hy] at hle; cases hle
    ·exact List.mem_singleton.1 hy
def frontS (l:List Time):List Time:=l.foldl (fun f t=>if f.any (fun u=>leT u t) then f else f++[t]) []
def sortT (l:List Time):List Time:=(Sort.sort ltT l.toArray).toList
def frontOf (l:List Time):List Time:=frontS (sortT l)
theorem sortT_perm (l:List Time):(sortT l).Perm l:=by
 have h:=(Sort.sort_sorts ltT swoT l.toArray).1
 obtain ⟨h1,_,h3⟩:=h
 have e1:(Sort.sort ltT l.toArray).extract 0 l.toArray.size=Sort.sort ltT l.toArray:=by rw [← h1]; simp
 have e2:l.toArray.extract 0 l.toArray.size=l.toArray:=by simp
 rw [e1,e2] at h3
 exact h3
theorem sortT_length (l:List Time):(sortT l).length=l.length:=(sortT_perm l).length_eq
theorem frontS_length (l:List Time):(frontS l).length≤l.length:=by
 have key:∀ (r f:List Time),(r.foldl (fun f t=>if f.any (fun u=>leT u t) then f else f++[t]) f).length≤f.length + r.length:=by
  intro r
  induction r with
  | nil=>intro f; exact Nat.le_refl _
  | cons t r ih =>
   intro f
   rw [List.foldl_cons]
   refine Nat.le_trans (ih _) ?_
   split
   ·rw [List.length_cons]; omega
   ·rw [List.length_append,List.length_singleton,List.length_cons]; omega
 have:=key l []
 rw [List.length_nil,Nat.zero_add] at this
 exact this
end Go.Av
namespace Go.Av
open Go
set_option linter.unusedVariables false
set_option linter.unusedSimpArgs false
abbrev NN (l:List Time):Prop := ∀ x ∈ l,nnTime x
theorem getD_mem {X:Type} [Inhabited X] {l:List X} {i:Nat} (h:i < l.length):l.getD i default ∈ l:=by
 rw [List.getD_eq_getElem?_getD,List.getElem?_eq_getElem h]
 exact List.getElem_mem h
theorem take_succ {X:Type} [Inhabited X] {l:List X} {i:Nat} (h:i < l.length):l.take (i + 1)=l.take i++[l.getD i default]:=by
 rw [List.take_add_one,List.getElem?_eq_getElem h,List.getD_eq_getElem?_getD,List.getElem?_eq_getElem h]
 rfl
theorem range_any {X R:Type} [Inhabited X] {B:Nat→Unit→Option (Ctl Unit R)} {l:List X} {p:X→Bool} {f:Nat→R} {Q:Type} {kn:Unit→Option Q} {kr:R→Option Q} {q:Option Q}
  (hB:∀ i u,i < l.length→B i u=if p (l.getD i default)=true then some (.ret (f i)) else some (.next ()))
  (hn:l.any p=false→kn ()=q) (hr:∀ i,i < l.length→l.any p=true→kr (f i)=q):outK (rangeN B l.length 0 ()) kn kr=q:=by
 have key:∀ k i,i + k=l.length→(l.take i).any p=false→outK (rangeN B k i ()) kn kr=q:=by
  intro k
  induction k with
  | zero =>
   intro i hi h
   rw [List.take_of_length_le (by omega)] at h
   exact hn h
  | succ k ih =>
   intro i hi h
   simp only [rangeN,hB i () (by omega)]
   by_cases hp:p (l.getD i default)=true
   ·rw [if_pos hp]
    exact hr i (by omega) (List.any_eq_true.2 ⟨_,getD_mem (by omega),hp⟩)
   ·rw [if_neg hp]
    refine ih (i + 1) (by omega) ?_
    rw [take_succ (by omega),List.any_append,h]
    simpa using hp
 exact key l.length 0 (by omega) rfl
theorem beyond_eq {f:List Time} {t:Time} (hf:NN f) (ht:nnTime t):moment_Beyond f t=some (f.any fun u=>leT u t):=by
 unfold moment_Beyond slices_ContainsFuncfreshet_api_Time_freshet_api_Time_Time__Beyond_1 slices_IndexFuncfreshet_api_Time_freshet_api_Time_Time__Beyond_1
 have h:(outK (rangeN (S:=Unit) (R:=Int) (fun i1 (a2:Unit)=>(moment_Beyond_1 (f.getD i1 default) t).bind fun r4=>bf r4 (some (.ret ((i1:Nat):Int))) (some (.next ()))) f.length 0 ()) (fun (a3:Unit)=>some (-1)) (fun x=>some x)).bind (fun r1=>some (decide (0≤r1)))=some (f.any fun u=>leT u t):=by
  have:∀ o:Option Int,(o.bind fun r1=>some (decide (0≤r1)))=o.map fun r1=>decide (0≤r1):=fun o=>by cases o <;> rfl
  rw [this]
  have hm:∀ (o:Option (Out Unit Int)),(outK o (fun (a3:Unit)=>some (-1)) (fun x=>some x)).map (fun r1=>decide (0≤r1))=outK o (fun _=>some false) (fun x=>some (decide (0≤x))):=fun o=>by
   cases o with
   | none=>rfl
   | some o=>cases o <;> rfl
  rw [hm]
  refine range_any (p:=fun u=>leT u t) (f:=fun i=>(i:Int)) ?_ (fun h=>by rw [h]) (fun i hi h=>by rw [h,decide_eq_true (by omega)])
  intro i u hi
  unfold moment_Beyond_1
  rw [ahead_eq (hf _ (getD_mem hi)) ht]
  simp only [Option.bind_some]
  cases leT (f.getD i default) t <;> rfl
 rw [h]; rfl
theorem front_eq {fuel:Nat} {l:List Time} (hl:NN l) (hz:l.length≤274877906944) (hf:2 * l.length + 30 < fuel):moment_Front fuel l=some (frontOf l):=by
 unfold moment_Front slices_Clonefreshet_api_Time_freshet_api_Time_Time
 have hs:NN (sortT l):=fun x hx=>hl x ((sortT_perm l).mem_iff.1 hx)
 have hlen:=sortT_length l
 rw [need_true hz,Option.bind_some,sortFunc_eq (by omega) hf,Option.bind_some]
 show need ((sortT l).length=l.length) _=_
 rw [need_true hlen]
 rw [show (Sort.sort ltT l.toArray).toList=sortT l from rfl]
 unfold frontOf frontS
 generalize sortT l=s at *
 rw [rangeN_to (s.foldl (fun f t=>if f.any (fun u=>leT u t) then f else f++[t]) []) (fun i a=>a=(s.take i).foldl (fun f t=>if f.any (fun u=>leT u t) then f else f++[t]) []) (fun a h=>by rw [h,List.take_of_length_le (Nat.le_refl _)])]
 ·rfl
 ·rintro i a hi rfl
  have hle:((s.take i).foldl (fun f t=>if f.any (fun u=>leT u t) then f else f++[t]) []).length≤i:=by
   have:=frontS_length (s.take i)
   unfold frontS at this
   rw [List.length_take] at this
   omega
  have hnn:NN ((s.take i).foldl (fun f t=>if f.any (fun u=>leT u t) then f else f++[t]) []):=by
   have key:∀ (r f:List Time),NN r→NN f→NN (r.foldl (fun f t=>if f.any (fun u=>leT u t) then f else f++[t]) f):=by
    intro r
    induction r with
    | nil=>intro f _ h; exact h
    | cons t r ih =>
     intro f hr h
     rw [List.foldl_cons]
     refine ih _ (fun x hx=>hr x (List.mem_cons_of_mem _ hx)) ?_
     split
     ·exact h
     ·intro x hx
      rcases List.mem_append.1 hx with hx | hx
      ·exact h x hx
      ·rw [List.mem_singleton.1 hx]; exact hr t (List.mem_cons_self ..)
   exact key _ _ (fun x hx=>hs x (List.mem_of_mem_take hx)) (fun x h=>nomatch h)
  refine ⟨_,?_,rfl⟩
  rw [Nat.zero_add,need_true hi,beyond_eq hnn (hs _ (getD_mem hi)),Option.bind_some,take_succ hi,List.foldl_append,List.foldl_cons,List.foldl_nil]
  generalize (s.take i).foldl (fun f t=>if f.any (fun u=>leT u t) then f else f++[t]) []=f at *
  cases hc:f.any (fun u=>leT u (s.getD i default)) with
  | true=>simp only [Bool.not_true,bf_false,if_true]
  | false =>
   rw [Bool.not_false,bf_true,need_true (by rw [List.length_singleton]; omega)]
   simp
 ·rfl
end Go.Av
namespace Go.Av
open Go
set_option linter.unusedVariables false
set_option linter.unusedSimpArgs false
def adv (t:Time) (f:List Time):Time:=if f=[] then t else lub2 t (glbL f)
theorem lub2_glb2 {t a b:Time}:glb2 (lub2 t a) (lub2 t b)=lub2 t (glb2 a b):=by
 refine Time.ext' ?_ ?_ ?_ <;> simp only [lub2,glb2,mx_eq,mn_eq] <;> omega
theorem glbL_map {t:Time} {f:List Time} (h:f ≠ []):glbL (f.map (lub2 t))=lub2 t (glbL f):=by
 cases f with
 | nil=>exact absurd rfl h
 | cons x f =>
  simp only [List.map_cons,glbL]
  induction f generalizing x with
  | nil=>rfl
  | cons y f ih =>
   simp only [List.map_cons,List.foldl_cons]
   rw [lub2_glb2]
   exact ih (glb2 x y) (by simp)
theorem lub_two {t u:Time} (ht:nnTime t) (hu:nnTime u):moment_Lub [t,u]=some (lub2 t u):=by
 unfold moment_Lub
 rw [foldGreatest_eq (fun x hx=>by
  rcases List.mem_cons.1 hx with rfl | hx
  ·exact ht
  ·rw [List.mem_singleton.1 hx]; exact hu),lubL_two ht]
 rfl
theorem advance_eq {t:Time} {f:List Time} (ht:nnTime t) (hf:NN f) (hl:f.length≤274877906944):moment_Advance t f=some (adv t f):=by
 unfold moment_Advance adv
 by_cases h0:f=[]
 ·rw [if_pos h0,h0]; rfl
 ·have hlen:f.length ≠ 0:=fun e=>h0 (List.eq_nil_of_length_eq_zero e)
  rw [if_neg h0,decide_eq_false (by omega),bf_false,need_true (by unfold lim; omega)]
  rw [rangeN_to (f.map (lub2 t)) (fun i a=>a=(f.take i).map (lub2 t)++List.replicate (f.length - i) (⟨0,(0,0)⟩:Time)) (fun a h=>by rw [h,List.take_of_length_le (Nat.le_refl _),Nat.sub_self]; simp)]
  ·simp only [outK_done]
   unfold moment_Glb
   rw [foldLeast_eq,glbL_map h0]; rfl
  ·rintro i a hi rfl
   refine ⟨_,?_,rfl⟩
   have hlen2:((f.take i).map (lub2 t)++List.replicate (f.length - i) (⟨0,(0,0)⟩:Time)).length=f.length:=by
    rw [List.length_append,List.length_map,List.length_take,List.length_replicate]; omega
   rw [lub_two ht (hf _ (getD_mem hi)),Option.bind_some,hlen2,Nat.zero_add,need_true (by omega),need_true (by omega),take_succ hi,List.map_append,show f.length - i=(f.length - (i + 1)) + 1 by omega,List.replicate_succ]
   have e:=List.set_append_right (s:=(f.take i).map (lub2 t)) (t:=(⟨0,(0,0)⟩:Time) :: List.replicate (f.length - (i + 1)) (⟨0,(0,0)⟩:Time)) i (lub2 t (f.getD i default)) (by rw [List.length_map,List.length_take]; omega)
   rw [e,List.length_map,List.length_take,show i - min i f.length=0 by omega]
   simp
  ·simp
end Go.Av
namespace Go.Av
open Go
set_option linter.unusedVariables false
set_option linter.unusedSimpArgs false
theorem adv_nn {t:Time} {f:List Time} (ht:nnTime t) (hf:NN f):nnTime (adv t f):=by
 unfold adv
 split
 ·exact ht
 ·exact lub2_nn ht (glbL_nn hf)
theorem adv_adv (t:Time) (f:List Time):adv (adv t f) f=adv t f:=by
 unfold adv
 split
 ·rfl
 ·refine Time.ext' ?_ ?_ ?_ <;> simp only [lub2,mx_eq] <;> omega
theorem le_adv_iff {t s:Time} {f:List Time} (h:f.any (fun u=>leT u s)=true):leT (adv t f) s=leT t s:=by
 obtain ⟨u,hu,hus⟩:=List.any_eq_true.1 h
 have hf:f ≠ []:=fun e=>by rw [e] at hu; cases hu
 have hg:leT (glbL f) s=true:=leT_trans ((glbL_le hf).1 (leT_refl _) u hu) hus
 unfold adv
 rw [if_neg hf,Bool.eq_iff_iff,lub2_le]
 exact ⟨fun h=>h.1,fun h=>⟨h,hg⟩⟩
end Go.Av
namespace Go.Av
open Go
set_option linter.unusedVariables false
set_option linter.unusedSimpArgs false
def Fr (l:List Time):Prop:=(∀ t ∈ l,okT t=true)∧frontOf l=l
theorem checkT_eq {fuel:Nat} (hf:5 < fuel) (l:List Time):∃ e,moment_Check fuel l=some e∧(e=0↔∀ t ∈ l,okT t=true):=by
 unfold moment_Check
 rw [rangeN_chk (fun t=>if okT t=true then 0 else 1) (fun x=>x)]
 ·have key:∀ l:List Time,l.foldr (fun x v=>thenC (if okT x=true then 0 else 1) v) (0:Int)=0↔∀ t ∈ l,okT t=true:=fun l=>by
   induction l with
   | nil=>simp
   | cons t l ih =>
    rw [List.foldr_cons,thenC_zero,ih]
    by_cases h:okT t=true <;> simp [h]
  refine ⟨l.foldr (fun x v=>thenC (if okT x=true then 0 else 1) v) (0:Int),?_,key l⟩
  split
  ·rename_i h; rw [h]; rfl
  ·rfl
 ·intro i hi
  have h:=momentCheck_eq hf (l.getD i default)
  unfold moment_Check at h
  simp only [List.length_cons,List.length_nil,Nat.zero_add,rangeN,List.getD_cons_zero] at h
  simp only [max2_eq hf,Option.bind_some,bf_decide] at h ⊢
  generalize l.getD i default=t at *
  unfold okT at *
  simp only [mx_eq] at *
  by_cases g:4611686018427387904 < max t.epoch (max t.loop.1 t.loop.2)
  ·rw [if_pos g,if_neg (by rw [if_neg (by simp only [Bool.and_eq_true,decide_eq_true_eq]; omega)]; decide),if_neg (by simp only [Bool.and_eq_true,decide_eq_true_eq]; omega)]
  ·rw [if_neg g,if_pos (by rw [if_pos (by simp only [Bool.and_eq_true,decide_eq_true_eq]; omega)])]
theorem equalT_eq (a b:List Time):∃ r,slices_Equalfreshet_api_Time_freshet_api_Time_Time a b=some r∧(r=true↔a=b):=by
 unfold slices_Equalfreshet_api_Time_freshet_api_Time_Time
 by_cases hl:a.length=b.length
 ·rw [decide_eq_true (by omega:(a.length:Int)=(b.length:Int))]
  simp only [Bool.not_true,bf_false]
  have key:∀ k i,i + k=a.length→∃ r,outK (rangeN (S:=Unit) (R:=Bool) (fun i1 (a2:Unit)=>need ((0:Int)≤((i1:Nat):Int)∧((i1:Nat):Int) < (b.length:Int)) <| bf (!(eqTime (a.getD i1 default) (b.getD i1 default))) (some (.ret false)) (some (.next ()))) k i ()) (fun (a3:Unit)=>some true) (fun x=>some x)=some r∧(r=true↔a.drop i=b.drop i):=by
   intro k
   induction k with
   | zero =>
    intro i hi
    refine ⟨true,rfl,?_⟩
    rw [List.drop_eq_nil_of_le (by omega:a.length≤i),List.drop_eq_nil_of_le (by omega:b.length≤i)]
    simp
   | succ k ih =>
    intro i hi
    simp only [rangeN]
    rw [need_true (by omega),drop_cons_getD (by omega:i < a.length),drop_cons_getD (by omega:i < b.length)]
    by_cases he:eqTime (a.getD i default) (b.getD i default)=true
    ·rw [he]
     obtain ⟨r,h1,h2⟩:=ih (i + 1) (by omega)
     refine ⟨r,h1,?_⟩
     rw [h2,eqT_iff.1 he]
     simp
    ·have he' : eqTime (a.getD i default) (b.getD i default)=false:=by simpa using he
     rw [he']
     refine ⟨false,rfl,?_⟩
     simp only [Bool.false_eq_true,false_iff,List.cons.injEq,not_and]
     intro h
     exact absurd (eqT_iff.2 h) he
  obtain ⟨r,h1,h2⟩:=key a.length 0 (by omega)
  exact ⟨r,h1,by simpa using h2⟩
 ·rw [decide_eq_false (by omega:¬ (a.length:Int)=(b.length:Int))]
  exact ⟨false,rfl,by simp; intro h; exact hl (by rw [h])⟩
theorem front_ex {fuel:Nat} {l:List Time} (hf:20000000≤fuel) (hn:l.length≤2000000) (hl:NN l):∃ b,batch_front fuel l=some b∧(b=true↔Fr l):=by
 unfold batch_front
 obtain ⟨e,h1,h2⟩:=checkT_eq (fuel:=fuel) (by omega) l
 rw [h1]
 simp only [Option.bind_some,jn_eq,bf_decide]
 by_cases h:e=0
 ·rw [if_pos h,front_eq hl (by omega) (by omega)]
  obtain ⟨r,g1,g2⟩:=equalT_eq (frontOf l) l
  simp only [Option.bind_some]
  rw [g1]
  exact ⟨r,rfl,by rw [g2]; exact ⟨fun g=>⟨h2.1 h,g⟩,fun g=>g.2⟩⟩
 ·rw [if_neg h]
  exact ⟨false,rfl,by simp only [Bool.false_eq_true,false_iff]; exact fun g=>h (h2.2 g.1)⟩
def advU (f:List Time) (u:Update):Update:=⟨u.key,u.row,adv u.time f,u.diff⟩
def advL (f:List Time) (l:List Update):List Update:=l.map (advU f)
def AdvOk (f:List Time) (l R:List Update) (e:Int):Prop:=(chkL l ≠ 0∧R=[]∧e=chkL l)∨(chkL l=0∧ConsOk (advL f l) R e)
theorem advanced_ok {fuel:Nat} {f:List Time} {ls:List (List Update)} (hf:20000000≤fuel) (hF:NN f) (hl:f.length≤2000000) (hn:ls.flatten.length≤4000000) (hd:∀ u ∈ ls.flatten,in64 u.diff) (ht:∀ u ∈ ls.flatten,nnTime u.time) :
  ∃ R e,batch_advanced fuel f ls=some (R,e)∧AdvOk f ls.flatten R e∧R.length≤ls.flatten.length:=by
 unfold batch_advanced
 rw [show slices_Concatfreshet_api_Update_freshet_api_Update_Update ls=some ls.flatten from concG_eq hn]
 simp only [Option.bind_some]
 generalize ls.flatten=l at *
 rw [diffCheck_eq (by omega)]
 simp only [Option.bind_some,bf_not,bf_decide]
 by_cases h:chkL l=0
 ·rw [if_pos h]
  rw [rangeN_to (advL f l) (fun i a=>a=advL f (l.take i)++l.drop i) (fun s hs=>by rw [hs,List.take_length,List.drop_length,List.append_nil])]
  ·simp only [outK_done]
   have hfl:([advL f l]:List (List Update)).flatten=advL f l:=by simp
   obtain ⟨R,e,h1,h2,h3⟩:=cons_ok (fuel:=fuel) (ls:=[advL f l]) hf (by rw [hfl]; simp [advL]; exact hn) (fun u hu=>by
    rw [hfl] at hu
    obtain ⟨v,hv,rfl⟩:=List.mem_map.1 hu
    exact hd v hv)
   rw [hfl] at h2 h3
   rw [h1]
   exact ⟨R,e,rfl,.inr ⟨h,h2⟩,by simpa [advL] using h3⟩
  ·intro i a hi ha
   have hla:(advL f (l.take i)).length=i:=by simp [advL]; omega
   have hlen:a.length=l.length:=by rw [ha]; simp [hla]; omega
   have hg:a.getD i default=l.getD i default:=by
    rw [ha,drop_cons_getD hi]
    have:=getD_mid (advL f (l.take i)) (l.drop (i + 1)) (l.getD i default)
    rwa [hla] at this
   refine ⟨_,?_,rfl⟩
   simp only [Nat.zero_add]
   rw [need_true (by omega),need_true (by omega),hg,advance_eq (ht _ (getD_mem' hi)) hF (by omega)]
   simp only [Option.bind_some]
   rw [need_true (by omega),need_true (by omega)]
   congr 2
   rw [ha,drop_cons_getD hi]
   have:=set_mid (advL f (l.take i)) (l.drop (i + 1)) (l.getD i default) (advU f (l.getD i default))
   rw [hla] at this
   have e1:advL f (l.take (i + 1))=advL f (l.take i)++[advU f (l.getD i default)]:=by rw [take_succ_getD hi]; simp [advL]
   rw [e1,List.append_assoc]
   exact this
  ·simp [advL]
 ·rw [if_neg h]
  exact ⟨_,_,rfl,.inl ⟨h,rfl,rfl⟩,Nat.zero_le _⟩
def BuildOk (f:List Time) (l:List Update) (B:Batch) (e:Int):Prop :=
 (¬ Fr f∧e=4∧B=⟨[],[]⟩)∨(Fr f∧∃ R e',AdvOk f l R e' ∧ R.length≤l.length∧((e' ≠ 0∧e=e' ∧ B=⟨[],[]⟩)∨(e' = 0∧e=0∧B=⟨f,R⟩)))
theorem build_ok {fuel:Nat} {f:List Time} {ls:List (List Update)} (hf:20000000≤fuel) (hF:NN f) (hl:f.length≤2000000) (hn:ls.flatten.length≤4000000) (hd:∀ u ∈ ls.flatten,in64 u.diff) (ht:∀ u ∈ ls.flatten,nnTime u.time) :
  ∃ B e,batch_Build fuel f ls=some (B,e)∧BuildOk f ls.flatten B e:=by
 unfold batch_Build
 obtain ⟨b,h1,h2⟩:=front_ex (fuel:=fuel) hf hl hF
 rw [h1]
 simp only [Option.bind_some]
 cases b with
 | false=>exact ⟨_,_,rfl,.inl ⟨fun g=>(by cases h2.2 g),rfl,rfl⟩⟩
 | true =>
  obtain ⟨R,e',g1,g2,g3⟩:=advanced_ok (fuel:=fuel) hf hF hl hn hd ht
  rw [g1]
  simp only [Bool.not_true,bf_false,Option.bind_some,bf_not,bf_decide]
  by_cases h:e' = 0
  ·rw [if_pos h]
   unfold slices_Clonefreshet_api_Time_freshet_api_Time_Time
   rw [need_true (by omega)]
   exact ⟨_,_,rfl,.inr ⟨h2.1 rfl,R,e',g2,g3,.inr ⟨h,rfl,rfl⟩⟩⟩
  ·rw [if_neg h]
   exact ⟨_,_,rfl,.inr ⟨h2.1 rfl,R,e',g2,g3,.inl ⟨h,rfl,rfl⟩⟩⟩
theorem build_fine {f:List Time} {l:List Update} {B:Batch} {e:Int} (h:BuildOk f l B e) (he:e=0) :
  Fr f∧chkL l=0∧chkL (advL f l)=0∧∃ R,B=⟨f,R⟩∧TotU (advL f l) R 0∧R.length≤l.length:=by
 rcases h with ⟨_,h,_⟩ | ⟨h1,R,e',h2,h3,⟨h4,h5,_⟩ | ⟨h4,_,h5⟩⟩
 ·omega
 ·omega
 ·rcases h2 with ⟨g1,g2,g3⟩ | ⟨g1,⟨g2,g3,g4⟩ | ⟨g2,g3⟩⟩
  ·omega
  ·omega
  ·exact ⟨h1,g1,g2,R,h5,h4 ▸ g3,h3⟩
theorem tot_adv {f:List Time} {l R:List Update} {e:Int} (h:TotU (advL f l) R e):∀ r ∈ R,advU f r=r:=fun r hr=>by
 rcases h with ⟨_,h,_⟩ | ⟨_,rfl,_⟩
 ·obtain ⟨y,h1,h2⟩:=h.mem r hr
  obtain ⟨z,h3,h4⟩:=PR_mem.1 h1
  obtain ⟨u,_,rfl⟩:=List.mem_map.1 h3
  rw [h2,← h4]
  unfold advU putUpdate
  simp only [adv_adv]
 ·cases hr
theorem nn_mem {l R:List Update} {e:Int} {f:List Time} (h:TotU (advL f l) R e) (hF:NN f) (ht:∀ u ∈ l,nnTime u.time):∀ r ∈ R,nnTime r.time :=
 tot_time h fun u hu=>by
  obtain ⟨v,hv,rfl⟩:=List.mem_map.1 hu
  exact adv_nn (ht v hv) hF
theorem settled_true {fuel:Nat} {f:List Time} {R:List Update} (hf:20000000≤fuel) (hF:NN f) (hl:f.length≤2000000) (hn:R.length≤4000000) (hE:diff_Even fuel R=some true) (hA:∀ r ∈ R,advU f r=r) (ht:∀ r ∈ R,nnTime r.time):batch_settled fuel R f=some true:=by
 unfold batch_settled
 rw [hE]
 simp only [Option.bind_some,jn_eq,bf_true]
 unfold slices_ContainsFuncfreshet_api_Update_freshet_api_Update_Update__batch_settled_1 slices_IndexFuncfreshet_api_Update_freshet_api_Update_Update__batch_settled_1
 rw [rangeN_to () (fun _ _=>True) (fun _ _=>rfl)]
 ·rfl
 ·intro i a hi _
  refine ⟨(),?_,trivial⟩
  have hm:=getD_mem' hi
  have e:=congrArg Update.time (hA _ hm)
  unfold batch_settled_1
  rw [advance_eq (ht _ hm) hF (by omega)]
  have e2:adv (R.getD i default).time f=(R.getD i default).time:=e
  rw [e2]
  have e3:eqTime (R.getD i default).time (R.getD i default).time=true:=eqT_iff.2 rfl
  simp only [Option.bind_some,e3,Bool.not_true,bf_false]
 ·trivial
theorem check_true {fuel:Nat} {f:List Time} {l R:List Update} (hf:20000000≤fuel) (hF:NN f) (hl:f.length≤2000000) (hn:R.length≤4000000) (hFr:Fr f) (hT:TotU (advL f l) R 0) (h0:chkL (advL f l)=0) (ht:∀ u ∈ l,nnTime u.time) :
  batch_Check fuel ⟨f,R⟩=some 0:=by
 unfold batch_Check
 obtain ⟨b,h1,h2⟩:=front_ex (fuel:=fuel) hf hl hF
 rw [h1,h2.2 hFr]
 have hR:Res cU (fun x=>x.diff) putUpdate (pU (advL f l)) R:=by
  rcases hT with ⟨_,h,_⟩ | ⟨h,_⟩
  ·exact h
  ·omega
 have hE:=even_true hf hn hR.strict (fun r hr=>(hR.sum r hr).2) (tot_memU hT (chkL_zero.1 h0))
 simp only [Option.bind_some,jn_eq,Bool.not_true,bf_false]
 rw [settled_true hf hF hl hn hE (tot_adv hT) (nn_mem hT hF ht)]
 rfl
theorem at_adv {f:List Time} {t:Time} (h:f=[]∨f.any (fun u=>leT u t)=true) (l:List Update):atL (advL f l) t=atL l t:=by
 induction l with
 | nil=>rfl
 | cons u l ih =>
  have e:atL (u :: l) t=atL [u] t++atL l t:=atL_app [u] l t
  have e2:atL (advL f (u :: l)) t=atL [advU f u] t++atL (advL f l) t:=atL_app [advU f u] (advL f l) t
  rw [e,e2,ih,atL_one,atL_one]
  have:leT (adv u.time f) t=leT u.time t:=by
   rcases h with rfl | h
   ·unfold adv; simp
   ·exact le_adv_iff h
  simp only [advU,this]
theorem BatchThere_true {fuel:Nat} {f:List Time} {l:List Update} {t:Time} (hL:freshetlaw06_lives fuel=some true) (hf:20000000≤fuel) (hF:NN f) (hl:f.length≤2000000) (hn:l.length≤2000000) (hd:∀ u ∈ l,in64 u.diff) (ht:∀ u ∈ l,nnTime u.time) (ht' : nnTime t) :
  freshetlaw06_BatchThere fuel f l t=some true:=by
 unfold freshetlaw06_BatchThere
 have e1:∀ x:List Update,([x]:List (List Update)).flatten=x:=fun x=>by simp
 obtain ⟨B,e,h1,h2⟩:=build_ok (fuel:=fuel) (f:=f) (ls:=[l]) hf hF hl (by rw [e1]; omega) (by rw [e1]; exact hd) (by rw [e1]; exact ht)
 rw [hL,h1]
 rw [e1] at h2
 simp only [Option.bind_some,Bool.not_true,bf_false,bf_not,bf_decide,jn_eq]
 by_cases h:e=0
 ·rw [if_pos h]
  obtain ⟨g1,g2,g3,R,rfl,g4,g5⟩:=build_fine h2 h
  have hc:=check_true (fuel:=fuel) hf hF hl (by omega) g1 g4 g3 ht
  have htR:=nn_mem g4 hF ht
  simp only [hc,Option.bind_some,decide_true]
  have main:(f=[]∨f.any (fun u=>leT u t)=true)→((diff_At fuel l t).bind fun r6=>(diff_At fuel R t).bind fun r7=>if r6.2=r7.2 then (freshetref05_SameCounts r6.1 r7.1).bind fun r10=>bf r10 (some true) (some false) else some false)=some true:=fun hfr=>by
   obtain ⟨X,w1,a1,a2,_⟩:=at_ok (fuel:=fuel) (l:=l) (t:=t) hf (by omega) hd ht ht'
   obtain ⟨Y,w2,b1,b2,_⟩:=at_ok (fuel:=fuel) (l:=R) (t:=t) hf (by omega) (tot_inU g4) htR ht'
   rw [a1]
   simp only [Option.bind_some]
   rw [b1]
   simp only [Option.bind_some]
   have ho:=chkL_zero.1 g2
   have hoR:=tot_memU g4 (chkL_zero.1 g3)
   have eA:errA l t=errA R t:=by unfold errA; rw [g2,chkL_zero.2 hoR]
   have hXY:X=Y∧w1=w2:=by
    rcases a2 with ⟨k1,k2,k3⟩ | ⟨k1,k2⟩
    ·rcases b2 with ⟨m1,m2,m3⟩ | ⟨m1,m2⟩
     ·exact ⟨by rw [k2,m2],by rw [k3,m3,eA]⟩
     ·exact absurd (eA.trans m1) k1
    ·rcases b2 with ⟨m1,m2,m3⟩ | ⟨m1,m2⟩
     ·exact absurd (eA.symm.trans k1) m1
     ·have hs:∀ y,sm cU (pU (advL f l)) y=sm cU (pU R) y:=fun y=>by
       rcases g4 with ⟨_,q,_⟩ | ⟨q,_⟩
       ·exact (res_sm cU_is q y).symm
       ·omega
      exact tot_uniqueK k2 m2 (atL_ok (t:=t) ho) (atL_ok (t:=t) hoR) fun y=>by rw [← at_adv hfr l]; exact at_group t hs y
   rw [if_pos hXY.2,hXY.1,sameC]
   rfl
  by_cases hl0:0 < (f.length:Int)
  ·rw [if_pos hl0,beyond_eq hF ht']
   simp only [Option.bind_some]
   cases hb:f.any (fun u=>leT u t) with
   | true=>exact main (.inr hb)
   | false=>rfl
  ·rw [if_neg hl0]
   exact main (.inl (List.eq_nil_of_length_eq_zero (by omega)))
 ·rw [if_neg h]
  rcases h2 with ⟨_,_,rfl⟩ | ⟨_,R,e',_,_,⟨_,_,rfl⟩ | ⟨_,h5,_⟩⟩
  ·rfl
  ·rfl
  ·exact absurd h5 h
end Go.Av
namespace Go.Av
open Go
set_option linter.unusedVariables false
theorem lives_eq:freshetlaw06_lives 100000000=some true:=by kernel_rfl
theorem in64_of {n:Int} (h:okInt .i64 n):in64 n:=by
 have:=Go.bounds_i64 h
 unfold in64
 omega
theorem nonneg_u64 {n:Int} (h:okInt .u64 n):0≤n:=(Go.bounds_u64 h).1
theorem nnTime_of {t:Time} (h:okTime t):nnTime t:=⟨nonneg_u64 h.1,nonneg_u64 h.2.1.1,nonneg_u64 h.2.1.2⟩
abbrev okUs (l:List Update):Prop:=l.length≤maxN∧∀ x ∈ l,okUpdate x
abbrev okTs (l:List Time):Prop:=l.length≤maxN∧∀ x ∈ l,okTime x
theorem us_in {l:List Update} (h:okUs l):∀ u ∈ l,in64 u.diff:=fun u hu=>in64_of (h.2 u hu).2.2.2.1
theorem us_nn {l:List Update} (h:okUs l):∀ u ∈ l,nnTime u.time:=fun u hu=>nnTime_of (h.2 u hu).2.2.1
theorem ts_nn {l:List Time} (h:okTs l):∀ u ∈ l,nnTime u:=fun u hu=>nnTime_of (h.2 u hu)
theorem us_len (l:List Update):l.length≤(l.map bulkUpdate).sum:=length_le_sum (f:=bulkUpdate) (fun x=>by unfold bulkUpdate; omega) l
theorem ts_len (l:List Time):l.length≤(l.map bulkTime).sum:=length_le_sum (f:=bulkTime) (fun x=>by unfold bulkTime; omega) l
theorem BatchThere_row {f:List Time} {l:List Update} {t:Time} (h1:okTs f) (h2:okUs l) (h3:okTime t) (hb:((f.map bulkTime).sum + 1) + (((l.map bulkUpdate).sum + 1) + (bulkTime t + 0))≤1048576):freshetlaw06_BatchThere 100000000 f l t=some true:=by
 have:=us_len l
 have:=ts_len f
 exact BatchThere_true lives_eq (by omega) (ts_nn h1) (by omega) (by omega) (us_in h2) (us_nn h2) (nnTime_of h3)
end Go.Av
