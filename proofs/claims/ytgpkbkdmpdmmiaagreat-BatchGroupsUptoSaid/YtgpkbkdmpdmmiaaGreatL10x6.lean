import Derived.Test.YtgpkbkdmpdmmiaaGreatL10x5
import Derived.Sort.AssemblyPlain
import Derived.KernelRfl
set_option maxRecDepth 100000
namespace Go.Av
open Go
set_option linter.unusedVariables false
set_option linter.unusedSimpArgs false
theorem zaq {x y:Time}:ltT x y=true↔x.epoch < y.epoch∨(x.epoch=y.epoch∧(x.loop.1 < y.loop.1∨(x.loop.1=y.loop.1∧x.loop.2 < y.loop.2))):=by
 unfold ltT cmpT
 rw [decide_eq_true_eq]
 repeat' split
 all_goals omega
theorem swoT:Sort.SWO ltT where
 irrefl x:=by
  cases h:ltT x x with
  | false=>rfl
  | true=>rw [zaq] at h; omega
 trans x y z h1 h2:=by
  rw [zaq] at *
  omega
 ntrans x y z h1 h2:=by
  rw [← Bool.not_eq_true,zaq] at *
  omega
theorem zgi (a b:Nat):∀ (n i:Nat) (d:Array Time),b - i≤n→(Sort.insOuter ltT a b i d).size=d.size:=by
 intro n
 induction n with
 | zero=>intro i d hn; rw [Sort.insOuter,if_neg (by omega)]
 | succ n ih =>
  intro i d hn
  rw [Sort.insOuter]
  split
  ·rw [ih _ _ (by omega),za0]
  ·rfl
theorem zfw (a b:Nat) (d:Array Time):(Sort.insertionSort ltT d a b).size=d.size:=zgi a b b _ d (by omega)
theorem ze3 (first:Nat):∀ (k:Nat) (d:Array Time),(Sort.heapPop ltT first k d).size=d.size
 | 0,d=>rfl
 | k + 1,d=>by unfold Sort.heapPop; rw [ze3 first k,z8y,z18]
theorem zgp (a b:Nat) (d:Array Time):(Sort.heapSort ltT d a b).size=d.size:=by unfold Sort.heapSort; rw [ze3,z96]
theorem zbg (a b:Nat):∀ (s i:Nat) (d:Array Time),(Sort.partialIns ltT a b s i d).1.size=d.size
 | 0,i,d=>rfl
 | s + 1,i,d=>by
  rw [za7]
  split
  ·rfl
  ·split
   ·rfl
   ·rw [zbg a b s,zb4]
def zdo (F g:Nat) (o:Option (Ctl PdqS (List Time))) (q:Array Time):Prop:=(∃ s,o=some (.next s)∧loopN (pBody F) g s=some (.ret q.toList))∨o=some (.ret q.toList)
def PdqOk (m:Nat):Prop := ∀ (F g a b lim:Nat) (wb wp:Bool) (d:Array Time),b - a < m→a≤b→b≤d.size→d.size < 1152921504606846976→lim < 1152921504606846976→b - a < g→d.size + (b - a) + 20 < F →
 loopN (pBody F) g ((a:Int),(b:Int),(lim:Int),wb,wp,d.toList)=some (.ret (Sort.pdq ltT d a b lim wb wp).toList)∧(Sort.pdq ltT d a b lim wb wp).size=d.size
theorem PdqOk.call {m:Nat} (h:PdqOk m) {F a b lim:Nat} {d:Array Time} (hm:b - a < m) (hab:a≤b) (hb:b≤d.size) (hd:d.size < 1152921504606846976) (hl:lim < 1152921504606846976) (hf:d.size + (b - a) + 21 < F) :
  z0h F (a:Int) (b:Int) (lim:Int) d.toList=some (Sort.pdq ltT d a b lim true true).toList∧(Sort.pdq ltT d a b lim true true).size=d.size:=by
 cases F with
 | zero=>omega
 | succ F =>
  obtain ⟨h1,h2⟩:=h F F a b lim true true d hm hab hb hd hl (by omega) (by omega)
  rw [zk3,h1]
  exact ⟨rfl,h2⟩
theorem zhp {F g a b lim pivot:Nat} {wb wp:Bool} {d:Array Time} (ih:PdqOk (b - a)) (hab:a + 12 < b) (hp:a≤pivot∧pivot < b) (hb:b≤d.size) (hd:d.size < 1152921504606846976) (hl:lim < 1152921504606846976) (hg:b - a≤g) (hF:d.size + (b - a) + 20 < F) :
  zdo F g (pK10 F (a:Int) (b:Int) (lim:Int) ((b - a:Nat):Int) (pivot:Int) wb wp d.toList) (qD a b lim wb wp pivot d)∧(qD a b lim wb wp pivot d).size=d.size:=by
 have e8:IntKind.i64.wrap (((b - a:Nat):Int).tdiv 8)=(((b - a) / 8:Nat):Int):=by rw [Int.tdiv_eq_ediv_of_nonneg (by omega),z1q (by omega) (by omega)]; omega
 have hK:pK10 F (a:Int) (b:Int) (lim:Int) ((b - a:Nat):Int) (pivot:Int) wb wp d.toList=pK12 F (a:Int) (b:Int) (lim:Int) ((b - a:Nat):Int) (pivot:Int) wb wp d.toList (a > 0 && !ltT d[a - 1]! d[pivot]!):=by
  unfold pK10
  simp only [jn_eq]
  by_cases h0:0 < a
  ·rw [decide_eq_true (show (0:Int) < (a:Int) by omega),z6o,wsub1 (by omega) (by omega)]
   simp (disch:=omega) only [Int.toNat_natCast,Nat.zero_add,z06,Array.length_toList,z28,Option.bind_some,z1y]
   rw [decide_eq_true h0,Bool.true_and]
   rfl
  ·rw [decide_eq_false (show ¬ (0:Int) < (a:Int) by omega),z1h,decide_eq_false h0,Bool.false_and]
 rw [hK]
 unfold qD
 cases hx:(a > 0 && !ltT d[a - 1]! d[pivot]!) with
 | true =>
  simp only [if_true]
  unfold pK12
  rw [z6o,zcm hp (by omega) hb hd (by omega),Option.bind_some]
  have hr:=zef (a:=a) _ (a + 1) (b - 1) (Sort.swp d a pivot) (Nat.le_refl _) (by omega) (by omega) (by rw [z18]; omega)
  rw [z18] at hr
  have he:Sort.partEqLoop ltT a (a + 1) (b - 1) (Sort.swp d a pivot)=Sort.partitionEqual ltT d a b pivot:=rfl
  rw [he] at hr
  generalize Sort.partitionEqual ltT d a b pivot=r at *
  obtain ⟨mid,d4⟩:=r
  simp only at hr ⊢
  rw [dif_pos (by omega),z06 (by rw [Array.length_toList,Array.length_toList]; omega)]
  obtain ⟨h1,h2⟩:=ih F g mid b lim wb wp d4 (by omega) (by omega) (by omega) (by omega) hl (by omega) (by omega)
  exact ⟨.inl ⟨_,rfl,h1⟩,by omega⟩
 | false =>
  simp only [Bool.false_eq_true,if_false]
  unfold pK12
  rw [z1h,zfp hp (by omega) hb hd (by omega),Option.bind_some,e8]
  obtain ⟨g1,g2,g3,_,_⟩:=Sort.partition_holds ltT swoT d a b pivot hp.1 hp.2 hb
  have g3:=g3.1
  generalize Sort.partition ltT d a b pivot=r at *
  obtain ⟨mid,ap,d4⟩:=r
  simp only at g1 g2 g3 ⊢
  have w1:IntKind.i64.wrap ((mid:Int) - (a:Int))=((mid - a:Nat):Int):=wsub (by omega) (by omega)
  have w2:IntKind.i64.wrap ((b:Int) - (mid:Int))=((b - mid:Nat):Int):=wsub (by omega) (by omega)
  have w3:IntKind.i64.wrap ((mid:Int) + 1)=((mid + 1:Nat):Int):=wadd1 (by omega)
  rw [dif_pos ⟨g1,g2⟩,z06 (by rw [Array.length_toList,Array.length_toList]; omega),w1,w2,w3,z0a]
  by_cases hc:mid - a < b - mid
  ·rw [if_pos hc,if_pos (by omega)]
   obtain ⟨c1,c2⟩:=ih.call (F:=F) (a:=a) (b:=mid) (lim:=lim) (d:=d4) (by omega) (by omega) (by omega) (by omega) hl (by omega)
   rw [c1,Option.bind_some,z06 (by rw [Array.length_toList,Array.length_toList]; omega)]
   generalize Sort.pdq ltT d4 a mid lim true true=d5 at *
   obtain ⟨h1,h2⟩:=ih F g (mid + 1) b lim (decide (mid - a ≥ (b - a) / 8)) ap d5 (by omega) (by omega) (by omega) (by omega) hl (by omega) (by omega)
   refine ⟨.inl ⟨_,rfl,?_⟩,by omega⟩
   have e:decide ((((b - a) / 8:Nat):Int)≤((mid - a:Nat):Int))=decide (mid - a ≥ (b - a) / 8):=by
    rw [Bool.eq_iff_iff]; simp only [decide_eq_true_eq]; omega
   rw [e]
   exact h1
  ·rw [if_neg hc,if_neg (by omega)]
   obtain ⟨c1,c2⟩:=ih.call (F:=F) (a:=mid + 1) (b:=b) (lim:=lim) (d:=d4) (by omega) (by omega) (by omega) (by omega) hl (by omega)
   rw [c1,Option.bind_some,z06 (by rw [Array.length_toList,Array.length_toList]; omega)]
   generalize Sort.pdq ltT d4 (mid + 1) b lim true true=d5 at *
   obtain ⟨h1,h2⟩:=ih F g a mid lim (decide (b - mid ≥ (b - a) / 8)) ap d5 (by omega) (by omega) (by omega) (by omega) hl (by omega) (by omega)
   refine ⟨.inl ⟨_,rfl,?_⟩,by omega⟩
   have e:decide ((((b - a) / 8:Nat):Int)≤((b - mid:Nat):Int))=decide (b - mid ≥ (b - a) / 8):=by
    rw [Bool.eq_iff_iff]; simp only [decide_eq_true_eq]; omega
   rw [e]
   exact h1
theorem zif {F g a b lim pivot:Nat} {hint:Sort.Hint} {wb wp:Bool} {d:Array Time} (ih:PdqOk (b - a)) (hab:a + 12 < b) (hp:a≤pivot∧pivot < b) (hb:b≤d.size) (hd:d.size < 1152921504606846976) (hl:lim < 1152921504606846976) (hg:b - a≤g) (hF:d.size + (b - a) + 20 < F) :
  zdo F g (pK8 F (a:Int) (b:Int) (lim:Int) ((b - a:Nat):Int) wb wp (pivot:Int) (hintN hint) d.toList) (qC a b lim wb wp pivot hint d)∧(qC a b lim wb wp pivot hint d).size=d.size:=by
 have hK:pK8 F (a:Int) (b:Int) (lim:Int) ((b - a:Nat):Int) wb wp (pivot:Int) (hintN hint) d.toList=if wb && wp && hint = .increasing then ((z0j F (a:Int) (b:Int) d.toList).bind fun r30=>need (r30.2.length=d.toList.length) <| bf r30.1 (some (.ret r30.2)) (pK10 F (a:Int) (b:Int) (lim:Int) ((b - a:Nat):Int) (pivot:Int) wb wp r30.2)) else pK10 F (a:Int) (b:Int) (lim:Int) ((b - a:Nat):Int) (pivot:Int) wb wp d.toList:=by
  unfold pK8
  cases wb <;> cases wp <;> cases hint <;> simp [jn,bf,hintN]
 rw [hK]
 unfold qC
 dsimp only
 by_cases hc:(wb && wp && decide (hint = .increasing))=true
 ·rw [if_pos hc,if_pos hc,z9l (by omega) hb hd (by omega),Option.bind_some]
  have hsz:(Sort.partialInsertionSort ltT d a b).1.size=d.size:=zbg a b 5 _ d
  generalize Sort.partialInsertionSort ltT d a b=r at *
  obtain ⟨d3,x⟩:=r
  simp only at hsz ⊢
  rw [z06 (by rw [Array.length_toList,Array.length_toList]; omega)]
  cases x with
  | true=>exact ⟨.inr rfl,hsz⟩
  | false =>
   simp only [z1h,Bool.false_eq_true,if_false]
   have:=zhp (F:=F) (g:=g) (lim:=lim) (pivot:=pivot) (wb:=wb) (wp:=wp) (d:=d3) ih hab hp (by omega) (by omega) hl hg (by omega)
   exact ⟨this.1,by omega⟩
 ·rw [if_neg hc,if_neg hc]
  simp only [Bool.false_eq_true,if_false]
  exact zhp ih hab hp hb hd hl hg hF
theorem zie {F g a b lim:Nat} {wb wp:Bool} {d:Array Time} (ih:PdqOk (b - a)) (hab:a + 12 < b) (hb:b≤d.size) (hd:d.size < 1152921504606846976) (hl:lim < 1152921504606846976) (hg:b - a≤g) (hF:d.size + (b - a) + 20 < F) :
  zdo F g (pK5 F (a:Int) (b:Int) wb wp (lim:Int) ((b - a:Nat):Int) d.toList) (qB a b lim wb wp d)∧(qB a b lim wb wp d).size=d.size:=by
 unfold pK5 qB
 rw [choosePivot_eq (by omega) hb hd,Option.bind_some]
 obtain ⟨p1,p2⟩:=Sort.choosePivot_holds ltT d a b (by omega)
 generalize Sort.choosePivot ltT d a b=c at *
 obtain ⟨pivot,hint⟩:=c
 simp only [jn_eq] at p1 p2 ⊢
 by_cases hc:hint = .decreasing
 ·subst hc
  have hsz:=(Sort.reverseRange_holds d a b (by omega) hb).1
  rw [decide_eq_true (show hintN Sort.Hint.decreasing=2 from rfl),z6o,zea (by omega) hb hd (by omega),Option.bind_some,z06 (by rw [Array.length_toList,Array.length_toList]; exact hsz)]
  have w1:IntKind.i64.wrap ((b:Int) - 1)=((b - 1:Nat):Int):=wsub1 (by omega) (by omega)
  have w2:IntKind.i64.wrap ((pivot:Int) - (a:Int))=((pivot - a:Nat):Int):=wsub (by omega) (by omega)
  have w3:IntKind.i64.wrap (((b - 1:Nat):Int) - ((pivot - a:Nat):Int))=(((b - 1) - (pivot - a):Nat):Int):=wsub (by omega) (by omega)
  rw [w1,w2,w3]
  simp only [if_true]
  have:=zif (F:=F) (g:=g) (lim:=lim) (pivot:=(b - 1) - (pivot - a)) (hint:=.increasing) (wb:=wb) (wp:=wp) (d:=Sort.reverseRange d a b) ih hab (by omega) (by omega) (by omega) hl hg (by omega)
  exact ⟨this.1,this.2.trans hsz⟩
 ·have hn:hintN hint ≠ 2:=by cases hint <;> simp [hintN] at *
  rw [decide_eq_false hn,z1h,if_neg hc]
  exact zif ih hab ⟨p1,p2⟩ hb hd hl hg hF
theorem pdqOk:∀ m,PdqOk m:=by
 intro m
 induction m with
 | zero=>intro F g a b lim wb wp d h; omega
 | succ m ihm =>
  intro F g a b lim wb wp d hm hab hb hd hl hg hF
  have ih:PdqOk (b - a):=fun F' g' a' b' lim' wb' wp' d' h=>ihm F' g' a' b' lim' wb' wp' d' (by omega)
  cases g with
  | zero=>omega
  | succ g =>
   have e0:IntKind.i64.wrap ((b:Int) - (a:Int))=((b - a:Nat):Int):=wsub (by omega) (by omega)
   rw [zk5]
   by_cases h1:b - a≤12
   ·rw [if_pos h1]
    refine ⟨?_,zfw a b d⟩
    rw [z7d (r:=(Sort.insertionSort ltT d a b).toList)]
    unfold pBody
    simp only [e0]
    rw [decide_eq_true (by omega),z6o,zfz hb (by omega) (by omega) (by omega),Option.bind_some]
   ·rw [if_neg h1]
    by_cases h2:lim=0
    ·rw [if_pos h2]
     refine ⟨?_,zgp a b d⟩
     rw [z7d (r:=(Sort.heapSort ltT d a b).toList)]
     unfold pBody
     simp only [e0]
     rw [decide_eq_false (by omega),z1h,decide_eq_true (by omega),z6o,zgn (by omega) hb hd (by omega),Option.bind_some]
    ·rw [if_neg h2]
     have fin:∀ q:Array Time,zdo F g (pBody F ((a:Int),(b:Int),(lim:Int),wb,wp,d.toList)) q→loopN (pBody F) (g + 1) ((a:Int),(b:Int),(lim:Int),wb,wp,d.toList)=some (.ret q.toList):=fun q hq=>by
      rcases hq with ⟨s,h3,h4⟩ | h3
      ·rw [z21 h3,h4]
      ·rw [z7d h3]
     cases wb with
     | true =>
      simp only [if_true]
      have hB:pBody F ((a:Int),(b:Int),(lim:Int),true,wp,d.toList)=pK5 F (a:Int) (b:Int) true wp (lim:Int) ((b - a:Nat):Int) d.toList:=by
       unfold pBody
       simp only [e0,jn_eq]
       rw [decide_eq_false (by omega),z1h,decide_eq_false (by omega),z1h,Bool.not_true,z1h]
      have:=zie (F:=F) (g:=g) (a:=a) (b:=b) (lim:=lim) (wb:=true) (wp:=wp) (d:=d) ih (by omega) hb hd hl (by omega) hF
      exact ⟨fin _ (by rw [hB]; exact this.1),this.2⟩
     | false =>
      simp only [Bool.false_eq_true,if_false]
      have hsz:=(Sort.breakPatterns_holds d a b hab hb).1
      have hB:pBody F ((a:Int),(b:Int),(lim:Int),false,wp,d.toList)=pK5 F (a:Int) (b:Int) false wp ((lim - 1:Nat):Int) ((b - a:Nat):Int) (Sort.breakPatterns d a b).toList:=by
       unfold pBody
       simp only [e0,jn_eq]
       rw [decide_eq_false (by omega),z1h,decide_eq_false (by omega),z1h,Bool.not_false,z6o,zd2 (by omega) hb hd (by omega),Option.bind_some,z06 (by rw [Array.length_toList,Array.length_toList]; exact hsz),wsub1 (by omega) (by omega)]
      have:=zie (F:=F) (g:=g) (a:=a) (b:=b) (lim:=lim - 1) (wb:=false) (wp:=wp) (d:=Sort.breakPatterns d a b) ih (by omega) (by omega) (by omega) (by omega) (by omega) (by omega)
      exact ⟨fin _ (by rw [hB]; exact this.1),this.2.trans hsz⟩
theorem zgs {fuel:Nat} {l:List Time} (hl:l.length < 1152921504606846976) (hf:2 * l.length + 30 < fuel) :
  z0m fuel l=some (Sort.sort ltT l.toArray).toList:=by
 unfold z0m
 have e:IntKind.u64.wrap (l.length:Int)=(l.length:Int):=uwrap (k:=.u64) rfl (show l.length < 2 ^ 64 by omega)
 rw [e,zig (by omega),Option.bind_some]
 have hL:Sort.bitsLen l.length≤60:=ze2 hl
 have:=((pdqOk (l.length + 1)).call (F:=fuel) (a:=0) (b:=l.length) (lim:=Sort.bitsLen l.length) (d:=l.toArray) (by omega) (by omega) (by simp) (by simpa using hl) (by omega) (by simp; omega)).1
 rw [show ((0:Nat):Int)=0 from rfl,List.toList_toArray] at this
 rw [this,Option.bind_some]
 unfold Sort.sort
 rw [List.size_toArray]
end Go.Av
namespace Go.Av
open Go
set_option linter.unusedVariables false
set_option linter.unusedSimpArgs false
theorem zcf {x y:Time}:z1o x y=true↔x=y:=by
 constructor
 ·intro h
  simp only [z1o,Bool.and_eq_true,decide_eq_true_eq,Bool.and_true] at h
  exact Time.ext' h.1 h.2.1 h.2.2
 ·rintro rfl; exact zgu x
theorem zjy {a b:Time} (h:leT a b=true) (g:leT b a=true):a=b:=zcf.1 (zjb h g)
theorem zft {a b:Time} (h:leT a b=true):ltT b a=false:=by
 cases e:ltT b a with
 | false=>rfl
 | true=>rw [zk6] at h; rw [zaq] at e; omega
theorem lt_or {a b:Time} (h:ltT b a=false) (hne:a ≠ b):ltT a b=true:=by
 cases e:ltT a b with
 | true=>rfl
 | false =>
  refine absurd ?_ hne
  rw [← Bool.not_eq_true,zaq] at h e
  exact Time.ext' (by omega) (by omega) (by omega)
structure IsF (l f:List Time):Prop where
 sorted:f.Pairwise fun x y=>ltT x y=true
 sub:∀ x ∈ f,x ∈ l
 below:∀ y ∈ l,∃ u ∈ f,leT u y=true
 least:∀ x ∈ f,∀ y ∈ l,leT y x=true→y=x
theorem IsF.mem {l f:List Time} (h:IsF l f) (x:Time):x ∈ f↔x ∈ l∧∀ y ∈ l,leT y x=true→y=x:=by
 constructor
 ·exact fun hx=>⟨h.sub x hx,h.least x hx⟩
 ·rintro ⟨hx,hm⟩
  obtain ⟨u,hu,hle⟩:=h.below x hx
  rw [← hm u (h.sub u hu) hle]
  exact hu
theorem IsF.congr {l m f:List Time} (h:IsF l f) (e:∀ x,x ∈ l↔x ∈ m):IsF m f :=
 ⟨h.sorted,fun x hx=>(e x).1 (h.sub x hx),fun y hy=>h.below y ((e y).2 hy),fun x hx y hy=>h.least x hx y ((e y).2 hy)⟩
theorem IsF.step {p f:List Time} {t:Time} (h:IsF p f) (hs:∀ x ∈ p,ltT t x=false):IsF (p++[t]) (if f.any (fun u=>leT u t) then f else f++[t]):=by
 by_cases hc:f.any (fun u=>leT u t)=true
 ·rw [if_pos hc]
  obtain ⟨u,hu,hut⟩:=List.any_eq_true.1 hc
  refine ⟨h.sorted,fun x hx=>List.mem_append.2 (.inl (h.sub x hx)),?_,?_⟩
  ·intro y hy
   rcases List.mem_append.1 hy with hy | hy
   ·exact h.below y hy
   ·rw [List.mem_singleton.1 hy]; exact ⟨u,hu,hut⟩
  ·intro x hx y hy hle
   rcases List.mem_append.1 hy with hy | hy
   ·exact h.least x hx y hy hle
   ·rw [List.mem_singleton.1 hy] at hle ⊢
    have hux:=h.least x hx u (h.sub u hu) (zew hut hle)
    subst hux
    exact zjy hle hut
 ·rw [if_neg hc]
  have hno:∀ u ∈ f,leT u t=false:=fun u hu=>by
   cases e:leT u t with
   | false=>rfl
   | true=>exact absurd (List.any_eq_true.2 ⟨u,hu,e⟩) hc
  have hnp:∀ y ∈ p,leT y t=false:=fun y hy=>by
   obtain ⟨u,hu,hle⟩:=h.below y hy
   cases e:leT y t with
   | false=>rfl
   | true=>have:=zew hle e; rw [hno u hu] at this; cases this
  refine ⟨?_,?_,?_,?_⟩
  ·rw [List.pairwise_append]
   refine ⟨h.sorted,by simp,fun x hx y hy => ?_⟩
   rw [List.mem_singleton.1 hy]
   refine lt_or (hs x (h.sub x hx)) (fun e => ?_)
   subst e
   have:=hno x hx
   rw [zg5] at this; cases this
  ·intro x hx
   rcases List.mem_append.1 hx with hx | hx
   ·exact List.mem_append.2 (.inl (h.sub x hx))
   ·exact List.mem_append.2 (.inr hx)
  ·intro y hy
   rcases List.mem_append.1 hy with hy | hy
   ·obtain ⟨u,hu,hle⟩:=h.below y hy
    exact ⟨u,List.mem_append.2 (.inl hu),hle⟩
   ·exact ⟨y,List.mem_append.2 (.inr hy),zg5 y⟩
  ·intro x hx y hy hle
   rcases List.mem_append.1 hx with hx | hx
   ·rcases List.mem_append.1 hy with hy | hy
    ·exact h.least x hx y hy hle
    ·rw [List.mem_singleton.1 hy] at hle ⊢
     have h1:=hs x (h.sub x hx)
     have h2:=zft hle
     by_cases e:t=x
     ·exact e
     ·have:=lt_or h1 (fun h=>e h.symm); rw [h2] at this; cases this
   ·rw [List.mem_singleton.1 hx] at hle ⊢
    rcases List.mem_append.1 hy with hy | hy
    ·rw [hnp y hy] at hle; cases hle
    ·exact List.mem_singleton.1 hy
def zdd (l:List Time):List Time:=l.foldl (fun f t=>if f.any (fun u=>leT u t) then f else f++[t]) []
def sortT (l:List Time):List Time:=(Sort.sort ltT l.toArray).toList
def zcl (l:List Time):List Time:=zdd (sortT l)
theorem zdt (l:List Time):(sortT l).Perm l:=by
 have h:=(Sort.sort_sorts ltT swoT l.toArray).1
 obtain ⟨h1,_,h3⟩:=h
 have e1:(Sort.sort ltT l.toArray).extract 0 l.toArray.size=Sort.sort ltT l.toArray:=by rw [← h1]; simp
 have e2:l.toArray.extract 0 l.toArray.size=l.toArray:=by simp
 rw [e1,e2] at h3
 exact h3
theorem zfv (l:List Time):(sortT l).length=l.length:=(zdt l).length_eq
theorem zfj (l:List Time):(zdd l).length≤l.length:=by
 have key:∀ (r f:List Time),(r.foldl (fun f t=>if f.any (fun u=>leT u t) then f else f++[t]) f).length≤f.length + r.length:=by
  intro r
  induction r with
  | nil=>intro f; exact Nat.le_refl _
  | cons t r ih =>
   intro f
   rw [List.foldl_cons]
   refine Nat.le_trans (ih _) ?_
   split
   ·rw [List.length_cons]; omega
   ·rw [List.length_append,List.length_singleton,List.length_cons]; omega
 have:=key l []
 rw [List.length_nil,Nat.zero_add] at this
 exact this
end Go.Av
namespace Go.Av
open Go
set_option linter.unusedVariables false
set_option linter.unusedSimpArgs false
abbrev NN (l:List Time):Prop := ∀ x ∈ l,z4a x
theorem zax {X:Type} [Inhabited X] {l:List X} {i:Nat} (h:i < l.length):l.getD i default ∈ l:=by
 rw [List.getD_eq_getElem?_getD,List.getElem?_eq_getElem h]
 exact List.getElem_mem h
theorem zce {X:Type} [Inhabited X] {l:List X} {i:Nat} (h:i < l.length):l.take (i + 1)=l.take i++[l.getD i default]:=by
 rw [List.take_add_one,List.getElem?_eq_getElem h,List.getD_eq_getElem?_getD,List.getElem?_eq_getElem h]
 rfl
theorem zeu {X R:Type} [Inhabited X] {B:Nat→Unit→Option (Ctl Unit R)} {l:List X} {p:X→Bool} {f:Nat→R} {Q:Type} {kn:Unit→Option Q} {kr:R→Option Q} {q:Option Q}
  (hB:∀ i u,i < l.length→B i u=if p (l.getD i default)=true then some (.ret (f i)) else some (.next ()))
  (hn:l.any p=false→kn ()=q) (hr:∀ i,i < l.length→l.any p=true→kr (f i)=q):outK (z0c B l.length 0 ()) kn kr=q:=by
 have key:∀ k i,i + k=l.length→(l.take i).any p=false→outK (z0c B k i ()) kn kr=q:=by
  intro k
  induction k with
  | zero =>
   intro i hi h
   rw [List.take_of_length_le (by omega)] at h
   exact hn h
  | succ k ih =>
   intro i hi h
   simp only [z0c,hB i () (by omega)]
   by_cases hp:p (l.getD i default)=true
   ·rw [if_pos hp]
    exact hr i (by omega) (List.any_eq_true.2 ⟨_,zax (by omega),hp⟩)
   ·rw [if_neg hp]
    refine ih (i + 1) (by omega) ?_
    rw [zce (by omega),List.any_append,h]
    simpa using hp
 exact key l.length 0 (by omega) rfl
theorem zhu {f:List Time} {t:Time} (hf:NN f) (ht:z4a t):z3x f t=some (f.any fun u=>leT u t):=by
 unfold z3x z0d z0f
 have h:(outK (z0c (S:=Unit) (R:=Int) (fun i1 (a2:Unit)=>(z5c (f.getD i1 default) t).bind fun r4=>bf r4 (some (.ret ((i1:Nat):Int))) (some (.next ()))) f.length 0 ()) (fun (a3:Unit)=>some (-1)) (fun x=>some x)).bind (fun r1=>some (decide (0≤r1)))=some (f.any fun u=>leT u t):=by
  have:∀ o:Option Int,(o.bind fun r1=>some (decide (0≤r1)))=o.map fun r1=>decide (0≤r1):=fun o=>by cases o <;> rfl
  rw [this]
  have hm:∀ (o:Option (Out Unit Int)),(outK o (fun (a3:Unit)=>some (-1)) (fun x=>some x)).map (fun r1=>decide (0≤r1))=outK o (fun _=>some false) (fun x=>some (decide (0≤x))):=fun o=>by
   cases o with
   | none=>rfl
   | some o=>cases o <;> rfl
  rw [hm]
  refine zeu (p:=fun u=>leT u t) (f:=fun i=>(i:Int)) ?_ (fun h=>by rw [h]) (fun i hi h=>by rw [h,decide_eq_true (by omega)])
  intro i u hi
  unfold z5c
  rw [zj1 (hf _ (zax hi)) ht]
  simp only [Option.bind_some]
  cases leT (f.getD i default) t <;> rfl
 rw [h]; rfl
theorem zj3 {fuel:Nat} {l:List Time} (hl:NN l) (hz:l.length≤274877906944) (hf:2 * l.length + 30 < fuel):z6h fuel l=some (zcl l):=by
 unfold z6h z0e
 have hs:NN (sortT l):=fun x hx=>hl x ((zdt l).mem_iff.1 hx)
 have hlen:=zfv l
 rw [z06 hz,Option.bind_some,zgs (by omega) hf,Option.bind_some]
 show need ((sortT l).length=l.length) _=_
 rw [z06 hlen]
 rw [show (Sort.sort ltT l.toArray).toList=sortT l from rfl]
 unfold zcl zdd
 generalize sortT l=s at *
 rw [z7c (s.foldl (fun f t=>if f.any (fun u=>leT u t) then f else f++[t]) []) (fun i a=>a=(s.take i).foldl (fun f t=>if f.any (fun u=>leT u t) then f else f++[t]) []) (fun a h=>by rw [h,List.take_of_length_le (Nat.le_refl _)])]
 ·rfl
 ·rintro i a hi rfl
  have hle:((s.take i).foldl (fun f t=>if f.any (fun u=>leT u t) then f else f++[t]) []).length≤i:=by
   have:=zfj (s.take i)
   unfold zdd at this
   rw [List.length_take] at this
   omega
  have hnn:NN ((s.take i).foldl (fun f t=>if f.any (fun u=>leT u t) then f else f++[t]) []):=by
   have key:∀ (r f:List Time),NN r→NN f→NN (r.foldl (fun f t=>if f.any (fun u=>leT u t) then f else f++[t]) f):=by
    intro r
    induction r with
    | nil=>intro f _ h; exact h
    | cons t r ih =>
     intro f hr h
     rw [List.foldl_cons]
     refine ih _ (fun x hx=>hr x (List.mem_cons_of_mem _ hx)) ?_
     split
     ·exact h
     ·intro x hx
      rcases List.mem_append.1 hx with hx | hx
      ·exact h x hx
      ·rw [List.mem_singleton.1 hx]; exact hr t (List.mem_cons_self ..)
   exact key _ _ (fun x hx=>hs x (List.mem_of_mem_take hx)) (fun x h=>nomatch h)
  refine ⟨_,?_,rfl⟩
  rw [Nat.zero_add,z06 hi,zhu hnn (hs _ (zax hi)),Option.bind_some,zce hi,List.foldl_append,List.foldl_cons,List.foldl_nil]
  generalize (s.take i).foldl (fun f t=>if f.any (fun u=>leT u t) then f else f++[t]) []=f at *
  cases hc:f.any (fun u=>leT u (s.getD i default)) with
  | true=>simp only [Bool.not_true,z1h,if_true]
  | false =>
   rw [Bool.not_false,z6o,z06 (by rw [List.length_singleton]; omega)]
   simp
 ·rfl
theorem zje {S R Q:Type} {B:Nat→S→Option (Ctl S R)} {n:Nat} {s:S} {kn:S→Option Q} {kr:R→Option Q} {q:Option Q} (I:Nat→S→Prop) (h0:I 0 s) (hs:∀ i s,i < n→I i s→∃ s',B i s=some (.next s')∧I (i + 1) s') (hk:∀ s,I n s→kn s=q):outK (z0c B n 0 s) kn kr=q:=by
 obtain ⟨s',h1,h2⟩:=ze8 I h0 hs
 rw [h1]
 exact hk s' h2
end Go.Av
namespace Go.Av
open Go
set_option linter.unusedVariables false
set_option linter.unusedSimpArgs false
def adv (t:Time) (f:List Time):Time:=if f=[] then t else lub2 t (glbL f)
theorem zih {t a b:Time}:glb2 (lub2 t a) (lub2 t b)=lub2 t (glb2 a b):=by
 refine Time.ext' ?_ ?_ ?_ <;> simp only [lub2,glb2,mx_eq,mn_eq] <;> omega
theorem zj9 {t:Time} {f:List Time} (h:f ≠ []):glbL (f.map (lub2 t))=lub2 t (glbL f):=by
 cases f with
 | nil=>exact absurd rfl h
 | cons x f =>
  simp only [List.map_cons,glbL]
  induction f generalizing x with
  | nil=>rfl
  | cons y f ih =>
   simp only [List.map_cons,List.foldl_cons]
   rw [zih]
   exact ih (glb2 x y) (by simp)
theorem zjz {t u:Time} (ht:z4a t) (hu:z4a u):z4n [t,u]=some (lub2 t u):=by
 unfold z4n
 rw [z9w (fun x hx=>by
  rcases List.mem_cons.1 hx with rfl | hx
  ·exact ht
  ·rw [List.mem_singleton.1 hx]; exact hu),zg4 ht]
 rfl
theorem zh6 {t:Time} {f:List Time} (ht:z4a t) (hf:NN f) (hl:f.length≤274877906944):z4v t f=some (adv t f):=by
 unfold z4v adv
 by_cases h0:f=[]
 ·rw [if_pos h0,h0]; rfl
 ·have hlen:f.length ≠ 0:=fun e=>h0 (List.eq_nil_of_length_eq_zero e)
  rw [if_neg h0,decide_eq_false (by omega),z1h,z06 (by unfold lim; omega)]
  rw [z7c (f.map (lub2 t)) (fun i a=>a=(f.take i).map (lub2 t)++List.replicate (f.length - i) (⟨0,(0,0)⟩:Time)) (fun a h=>by rw [h,List.take_of_length_le (Nat.le_refl _),Nat.sub_self]; simp)]
  ·simp only [z4r]
   unfold z8r
   rw [zg2,zj9 h0]; rfl
  ·rintro i a hi rfl
   refine ⟨_,?_,rfl⟩
   have hlen2:((f.take i).map (lub2 t)++List.replicate (f.length - i) (⟨0,(0,0)⟩:Time)).length=f.length:=by
    rw [List.length_append,List.length_map,List.length_take,List.length_replicate]; omega
   rw [zjz ht (hf _ (zax hi)),Option.bind_some,hlen2,Nat.zero_add,z06 (by omega),z06 (by omega),zce hi,List.map_append,show f.length - i=(f.length - (i + 1)) + 1 by omega,List.replicate_succ]
   have e:=List.set_append_right (s:=(f.take i).map (lub2 t)) (t:=(⟨0,(0,0)⟩:Time) :: List.replicate (f.length - (i + 1)) (⟨0,(0,0)⟩:Time)) i (lub2 t (f.getD i default)) (by rw [List.length_map,List.length_take]; omega)
   rw [e,List.length_map,List.length_take,show i - min i f.length=0 by omega]
   simp
  ·simp
end Go.Av
namespace Go.Av
open Go
set_option linter.unusedVariables false
set_option linter.unusedSimpArgs false
def Fr (l:List Time):Prop:=(∀ t ∈ l,okT t=true)∧zcl l=l
theorem zi6 {fuel:Nat} (hf:5 < fuel) (l:List Time):∃ e,z2w fuel l=some e∧(e=0↔∀ t ∈ l,okT t=true):=by
 unfold z2w
 rw [zde (fun t=>if okT t=true then 0 else 1) (fun x=>x)]
 ·have key:∀ l:List Time,l.foldr (fun x v=>thenC (if okT x=true then 0 else 1) v) (0:Int)=0↔∀ t ∈ l,okT t=true:=fun l=>by
   induction l with
   | nil=>simp
   | cons t l ih =>
    rw [List.foldr_cons,zdp,ih]
    by_cases h:okT t=true <;> simp [h]
  refine ⟨l.foldr (fun x v=>thenC (if okT x=true then 0 else 1) v) (0:Int),?_,key l⟩
  split
  ·rename_i h; rw [h]; rfl
  ·rfl
 ·intro i hi
  have h:=zab hf (l.getD i default)
  unfold z2w at h
  simp only [List.length_cons,List.length_nil,Nat.zero_add,z0c,List.getD_cons_zero] at h
  simp only [zgz hf,Option.bind_some,z0a] at h ⊢
  generalize l.getD i default=t at *
  unfold okT at *
  simp only [mx_eq] at *
  by_cases g:4611686018427387904 < max t.epoch (max t.loop.1 t.loop.2)
  ·rw [if_pos g,if_neg (by rw [if_neg (by simp only [Bool.and_eq_true,decide_eq_true_eq]; omega)]; decide),if_neg (by simp only [Bool.and_eq_true,decide_eq_true_eq]; omega)]
  ·rw [if_neg g,if_pos (by rw [if_pos (by simp only [Bool.and_eq_true,decide_eq_true_eq]; omega)])]
theorem zij (a b:List Time):∃ r,z11 a b=some r∧(r=true↔a=b):=by
 unfold z11
 by_cases hl:a.length=b.length
 ·rw [decide_eq_true (by omega:(a.length:Int)=(b.length:Int))]
  simp only [Bool.not_true,z1h]
  have key:∀ k i,i + k=a.length→∃ r,outK (z0c (S:=Unit) (R:=Bool) (fun i1 (a2:Unit)=>need ((0:Int)≤((i1:Nat):Int)∧((i1:Nat):Int) < (b.length:Int)) <| bf (!(z1o (a.getD i1 default) (b.getD i1 default))) (some (.ret false)) (some (.next ()))) k i ()) (fun (a3:Unit)=>some true) (fun x=>some x)=some r∧(r=true↔a.drop i=b.drop i):=by
   intro k
   induction k with
   | zero =>
    intro i hi
    refine ⟨true,rfl,?_⟩
    rw [List.drop_eq_nil_of_le (by omega:a.length≤i),List.drop_eq_nil_of_le (by omega:b.length≤i)]
    simp
   | succ k ih =>
    intro i hi
    simp only [z0c]
    rw [z06 (by omega),z36 (by omega:i < a.length),z36 (by omega:i < b.length)]
    by_cases he:z1o (a.getD i default) (b.getD i default)=true
    ·rw [he]
     obtain ⟨r,h1,h2⟩:=ih (i + 1) (by omega)
     refine ⟨r,h1,?_⟩
     rw [h2,zcf.1 he]
     simp
    ·have he' : z1o (a.getD i default) (b.getD i default)=false:=by simpa using he
     rw [he']
     refine ⟨false,rfl,?_⟩
     simp only [Bool.false_eq_true,false_iff,List.cons.injEq,not_and]
     intro h
     exact absurd (zcf.2 h) he
  obtain ⟨r,h1,h2⟩:=key a.length 0 (by omega)
  exact ⟨r,h1,by simpa using h2⟩
 ·rw [decide_eq_false (by omega:¬ (a.length:Int)=(b.length:Int))]
  exact ⟨false,rfl,by simp; intro h; exact hl (by rw [h])⟩
theorem zj0 {fuel:Nat} {l:List Time} (hf:20000000≤fuel) (hn:l.length≤2000000) (hl:NN l):∃ b,z4s fuel l=some b∧(b=true↔Fr l):=by
 unfold z4s
 obtain ⟨e,h1,h2⟩:=zi6 (fuel:=fuel) (by omega) l
 rw [h1]
 simp only [Option.bind_some,jn_eq,z0a]
 by_cases h:e=0
 ·rw [if_pos h,zj3 hl (by omega) (by omega)]
  obtain ⟨r,g1,g2⟩:=zij (zcl l) l
  simp only [Option.bind_some]
  rw [g1]
  exact ⟨r,rfl,by rw [g2]; exact ⟨fun g=>⟨h2.1 h,g⟩,fun g=>g.2⟩⟩
 ·rw [if_neg h]
  exact ⟨false,rfl,by simp only [Bool.false_eq_true,false_iff]; exact fun g=>h (h2.2 g.1)⟩
end Go.Av
namespace Go.Av
open Go
set_option linter.unusedVariables false
theorem zj4:z44 100000000=some true:=by kernel_rfl
theorem zb8 {n:Int} (h:okInt .u64 n):0≤n:=(Go.bounds_u64 h).1
theorem zfa {t:Time} (h:zae t):z4a t:=⟨zb8 h.1,zb8 h.2.1.1,zb8 h.2.1.2⟩
abbrev okUs (l:List Update):Prop:=l.length≤maxN∧∀ x ∈ l,zb7 x
abbrev okTs (l:List Time):Prop:=l.length≤maxN∧∀ x ∈ l,zae x
theorem us_nn {l:List Update} (h:okUs l):∀ u ∈ l,z4a u.time:=fun u hu=>zfa (h.2 u hu).2.2.1
theorem ts_nn {l:List Time} (h:okTs l):∀ u ∈ l,z4a u:=fun u hu=>zfa (h.2 u hu)
theorem zkb (l:List Update):l.length≤(l.map z5x).sum:=z76 (f:=z5x) (fun x=>by unfold z5x; omega) l
theorem zk9 (l:List Time):l.length≤(l.map z6f).sum:=z76 (f:=z6f) (fun x=>by unfold z6f; omega) l
end Go.Av
namespace Go.Av
open Go
set_option linter.unusedVariables false
set_option linter.unusedSimpArgs false
theorem zhy {α:Type} [Inhabited α] {c : α → α → Int} (hC:IsCmp c) {l:List α} (h:∀ j,0 < j→j < l.length→c (l.getD (j - 1) default) (l.getD j default) < 0):l.Pairwise fun a b=>c a b < 0:=by
 have key:∀ j i,i < j→j < l.length→c (l.getD i default) (l.getD j default) < 0:=by
  intro j
  induction j with
  | zero=>intro i hi; omega
  | succ j ih =>
   intro i hi hj
   have h1:=h (j + 1) (by omega) hj
   rw [Nat.add_sub_cancel] at h1
   by_cases e:i=j
   ·subst e; exact h1
   ·exact hC.lt_tr (ih i (by omega) (by omega)) (by omega)
 rw [List.pairwise_iff_getElem]
 intro i j hi hj hij
 have:=key j i hij hj
 rwa [List.getD_eq_getElem?_getD,List.getElem?_eq_getElem hi,List.getD_eq_getElem?_getD,List.getElem?_eq_getElem hj] at this
structure EvenP (l:List Update):Prop where
 lt:l.Pairwise fun a b=>cU a b < 0
 nz:∀ r ∈ l,r.diff ≠ 0
 ok:∀ r ∈ l,okU r
theorem EvenP.adj {l:List Update} (h:EvenP l) {i:Nat} (h0:0 < i) (hi:i < l.length):cU (l.getD (i - 1) default) (l.getD i default) < 0:=by
 have hs:=h.lt
 rw [List.pairwise_iff_getElem] at hs
 have:=hs (i - 1) i (by omega) hi (by omega)
 rwa [List.getD_eq_getElem?_getD,List.getElem?_eq_getElem (by omega:i - 1 < l.length),List.getD_eq_getElem?_getD,List.getElem?_eq_getElem hi]
theorem zjo {fuel:Nat} {l:List Update} (hf:20000000≤fuel) (hn:l.length≤4000000):∃ b,z6e fuel l=some b∧(b=true↔EvenP l):=by
 unfold z6e
 rw [zg6 (by omega)]
 let G:Option Bool→Prop:=fun q=>∃ b,q=some b∧(b=true↔EvenP l)
 refine zd7 (G:=G) (fun i _=>∀ j,j < i→(l.getD j default).diff ≠ 0∧(0 < j→cU (l.getD (j - 1) default) (l.getD j default) < 0)) (fun _=>∀ j,j < l.length→(l.getD j default).diff ≠ 0∧(0 < j→cU (l.getD (j - 1) default) (l.getD j default) < 0))
  (fun r=>r=false∧¬ EvenP l) (fun j hj=>by omega) (fun _ h=>h) ?_ ?_ ?_
 ·intro s h
  refine ⟨_,rfl,?_⟩
  simp only [decide_eq_true_eq]
  rw [zht]
  refine ⟨fun ho=>⟨zhy cU_is fun j h0 hj=>(h j hj).2 h0,fun r hr => ?_,ho⟩,fun hE=>hE.ok⟩
  obtain ⟨i,hi,rfl⟩:=List.mem_iff_getElem.1 hr
  have:=(h i hi).1
  rwa [List.getD_eq_getElem?_getD,List.getElem?_eq_getElem hi] at this
 ·rintro r ⟨rfl,h⟩
  exact ⟨false,rfl,by simp [h]⟩
 ·intro i s hi h
  simp only [jn_eq,z0a]
  by_cases h0:(l.getD i default).diff=0
  ·rw [if_pos h0]
   exact .inr (.inr ⟨_,rfl,rfl,fun hE=>hE.nz _ (z9r hi) h0⟩)
  ·rw [if_neg h0]
   by_cases g:0 < ((i:Nat):Int)
   ·rw [if_pos g,wsub1 (by omega) (by omega),z06 (by omega),zca]
    simp only [Option.bind_some,z0a,Int.toNat_natCast]
    by_cases k:0≤cU (l.getD (i - 1) default) (l.getD i default)
    ·rw [if_pos k]
     exact .inr (.inr ⟨_,rfl,rfl,fun hE=>by have:=hE.adj (i:=i) (by omega) hi; omega⟩)
    ·rw [if_neg k]
     refine .inl ⟨_,rfl,fun j hj => ?_⟩
     by_cases e:j=i
     ·subst e; exact ⟨h0,fun _=>by omega⟩
     ·exact h j (by omega)
   ·rw [if_neg g]
    refine .inl ⟨_,rfl,fun j hj => ?_⟩
    by_cases e:j=i
    ·subst e; exact ⟨h0,fun _=>by omega⟩
    ·exact h j (by omega)
def AdvP (f:List Time) (l:List Update):Prop := ∀ r ∈ l,adv r.time f=r.time
theorem zjn {f:List Time} {l:List Update}:(l.any fun u => !z1o (adv u.time f) u.time)=false↔AdvP f l:=by
 simp only [List.any_eq_false,AdvP,Bool.not_eq_true,Bool.not_eq_false',zcf]
theorem zh8 {fuel:Nat} {f:List Time} {l:List Update} (hf:20000000≤fuel) (hF:NN f) (hl:f.length≤2000000) (hn:l.length≤4000000) (ht:∀ r ∈ l,z4a r.time):∃ b,z56 fuel l f=some b∧(b=true↔EvenP l∧AdvP f l):=by
 unfold z56
 obtain ⟨b,h1,h2⟩:=zjo (l:=l) hf hn
 rw [h1]
 simp only [Option.bind_some,jn_eq]
 cases b with
 | false=>exact ⟨false,rfl,by simp only [Bool.false_eq_true,false_iff]; exact fun g=>by have:=h2.2 g.1; cases this⟩
 | true =>
  rw [z6o]
  have hE:=h2.1 rfl
  unfold z0k z0l
  have hany:=zjn (f:=f) (l:=l)
  refine ⟨!(l.any fun u => !z1o (adv u.time f) u.time),?_,by rw [← hany]; simp [hE]⟩
  have hB:∀ i (u:Unit),i < l.length→(z4f (l.getD i default) f).bind (fun r4=>bf r4 (some (.ret ((i:Nat):Int))) (some (.next ())))=if (!z1o (adv (l.getD i default).time f) (l.getD i default).time)=true then some (Ctl.ret ((i:Nat):Int)) else some (.next ()):=fun i u hi=>by
   unfold z4f
   rw [zh6 (ht _ (z9r hi)) hF (by omega)]
   simp only [Option.bind_some]
   cases (!z1o (adv (l.getD i default).time f) (l.getD i default).time) <;> rfl
  cases hc:l.any fun u => !z1o (adv u.time f) u.time with
  | false =>
   have e:=zeu (kn:=fun _=>some (-1:Int)) (kr:=fun x:Int=>some x) (p:=fun u:Update => !z1o (adv u.time f) u.time) (f:=fun i=>(i:Int)) (q:=some (-1)) hB (fun _=>rfl) (fun i hi h=>by rw [hc] at h; cases h)
   rw [e]
   rfl
  | true =>
   have:∃ k:Nat,outK (z0c (S:=Unit) (R:=Int) (fun i1 (a2:Unit)=>(z4f (l.getD i1 default) f).bind fun r4=>bf r4 (some (.ret ((i1:Nat):Int))) (some (.next ()))) l.length 0 ()) (fun (a3:Unit)=>some (-1)) (fun x=>some x)=some ((k:Nat):Int):=by
    refine zd7 (G:=fun q=>∃ k:Nat,q=some ((k:Nat):Int)) (fun i _=>(l.take i).any (fun u => !z1o (adv u.time f) u.time)=false) (fun _=>False) (fun r=>∃ k:Nat,r=(k:Int)) rfl (fun s h=>by rw [List.take_length,hc] at h; cases h) (fun s h=>h.elim) (fun r ⟨k,h⟩=>⟨k,by rw [h]⟩) ?_
    intro i s hi h
    rw [hB i s hi]
    by_cases g:(!z1o (adv (l.getD i default).time f) (l.getD i default).time)=true
    ·rw [if_pos g]; exact .inr (.inr ⟨_,rfl,i,rfl⟩)
    ·rw [if_neg g]
     refine .inl ⟨_,rfl,?_⟩
     rw [z7y hi,List.any_append,h]
     simp only [List.any_cons,List.any_nil,Bool.or_false,Bool.false_or]
     simpa using g
   obtain ⟨k,hk⟩:=this
   rw [hk]
   have:decide (0≤((k:Nat):Int))=true:=by rw [decide_eq_true_eq]; omega
   simp only [Option.bind_some,this]
def zim (b:Batch):Prop:=Fr b.since∧EvenP b.updates∧AdvP b.since b.updates
theorem zix {fuel:Nat} {b:Batch} (hf:20000000≤fuel) (hF:NN b.since) (hl:b.since.length≤2000000) (hn:b.updates.length≤4000000) (ht:∀ r ∈ b.updates,z4a r.time):(z3f fuel b=some 0∧zim b)∨(z3f fuel b=some 4∧¬ zim b):=by
 unfold z3f
 obtain ⟨x,h1,h2⟩:=zj0 (fuel:=fuel) hf hl hF
 rw [h1]
 simp only [Option.bind_some,jn_eq]
 cases x with
 | false=>right; exact ⟨rfl,fun h=>by have:=h2.2 h.1; cases this⟩
 | true =>
  obtain ⟨y,g1,g2⟩:=zh8 (fuel:=fuel) hf hF hl hn ht
  rw [g1]
  cases y with
  | false=>right; exact ⟨rfl,fun h=>by have:=g2.2 h.2; cases this⟩
  | true=>left; exact ⟨rfl,h2.1 rfl,g2.1 rfl⟩
end Go.Av
namespace Go.Av
open Go
set_option linter.unusedVariables false
set_option linter.unusedSimpArgs false
abbrev kc (key:List Value) (u:Update):Int:=cmpL cmpV u.key key
theorem zan {l:List Update} (h:EvenP l) {key:List Value} {i j:Nat} (hij:i≤j) (hj:j < l.length):kc key (l.getD j default)≤0→kc key (l.getD i default)≤0:=fun g=>by
 by_cases e:i=j
 ·subst e; exact g
 ·have hs:=h.lt
  rw [List.pairwise_iff_getElem] at hs
  have h1:=hs i j (by omega) hj (by omega)
  rw [List.getD_eq_getElem?_getD,List.getElem?_eq_getElem hj] at g
  rw [List.getD_eq_getElem?_getD,List.getElem?_eq_getElem (by omega:i < l.length)]
  simp only [Option.getD_some] at g ⊢
  have h2:cmpL cmpV l[i].key l[j].key≤0:=by
   unfold cU thenC at h1
   split at h1 <;> omega
  exact z3i.list.tr _ _ _ h2 g
theorem zds {l:List Update} (h:EvenP l) {key:List Value} {i j:Nat} (hij:i≤j) (hj:j < l.length):kc key (l.getD j default) < 0→kc key (l.getD i default) < 0:=fun g=>by
 by_cases e:i=j
 ·subst e; exact g
 ·have hs:=h.lt
  rw [List.pairwise_iff_getElem] at hs
  have h1:=hs i j (by omega) hj (by omega)
  rw [List.getD_eq_getElem?_getD,List.getElem?_eq_getElem hj] at g
  rw [List.getD_eq_getElem?_getD,List.getElem?_eq_getElem (by omega:i < l.length)]
  simp only [Option.getD_some] at g ⊢
  have h2:cmpL cmpV l[i].key l[j].key≤0:=by
   unfold cU thenC at h1
   split at h1 <;> omega
  exact z3i.list.le_lt h2 g
def cntP (p:Update→Bool):List Update→Nat
 | []=>0
 | u :: l=>if p u then cntP p l + 1 else 0
theorem zci (p:Update→Bool):∀ l,cntP p l≤l.length
 | []=>Nat.le_refl _
 | u :: l=>by
  unfold cntP
  split
  ·simp only [List.length_cons]; have:=zci p l; omega
  ·exact Nat.zero_le _
theorem zcg {p:Update→Bool}:∀ {l:List Update} {i:Nat},i < cntP p l→p (l.getD i default)=true
 | [],i,h=>by simp [cntP] at h
 | u :: l,i,h=>by
  unfold cntP at h
  split at h
  ·rename_i hu
   cases i with
   | zero=>exact hu
   | succ i=>simp only [List.getD_cons_succ]; exact zcg (by omega)
  ·omega
theorem zap {p:Update→Bool}:∀ {l:List Update},cntP p l < l.length→p (l.getD (cntP p l) default)=false
 | [],h=>by simp at h
 | u :: l,h=>by
  unfold cntP at *
  split
  ·rename_i hu
   rw [if_pos hu] at h
   simp only [List.getD_cons_succ]
   exact zap (by simp only [List.length_cons] at h; omega)
  ·rename_i hu
   simpa using hu
theorem zf2 {p:Update→Bool} {l:List Update} {n:Nat} (hn:n≤l.length) (h1:∀ i,i < n→p (l.getD i default)=true) (h2:n < l.length→p (l.getD n default)=false):cntP p l=n:=by
 have g1:=zci p l
 rcases Nat.lt_trichotomy (cntP p l) n with h | h | h
 ·have a:=zap (p:=p) (l:=l) (by omega)
  rw [h1 _ h] at a; cases a
 ·exact h
 ·have a:=zcg h
  rw [h2 (by omega)] at a; cases a
def atK (key:List Value) (l:List Update):Nat:=cntP (fun u=>decide (kc key u < 0)) l
end Go.Av
namespace Go.Av
open Go
set_option linter.unusedVariables false
set_option linter.unusedSimpArgs false
theorem zga (key:List Value) (l:List Update):atK key l≤l.length:=zci _ _
theorem zka {l:List Update} {key:List Value} (hE:EvenP l) {r:Nat} (h1:r≤l.length) (h2:r=0∨decide (kc key (l.getD (r - 1) default) < 0)=true) (h3:r=l.length∨decide (kc key (l.getD r default) < 0)=false):atK key l=r:=by
 refine zf2 h1 (fun i hi => ?_) (fun h => ?_)
 ·rcases h2 with h2 | h2
  ·omega
  ·have h2':=of_decide_eq_true h2
   exact decide_eq_true (zds hE (by omega:i≤r - 1) (by omega) h2')
 ·rcases h3 with h3 | h3
  ·omega
  ·exact h3
theorem zg0 {fuel:Nat} {l:List Update} {key:List Value} (hf:20000000≤fuel) (hn:l.length≤4000000) (hE:EvenP l):z64 fuel l key=some ((atK key l:Nat):Int):=by
 unfold z64 z09 z5z
 obtain ⟨r,h1,_,h3,h4,h5⟩:=zjr (R:=Empty) (P:=fun i=>decide (kc key (l.getD i default) < 0)) (i0:=0) (j0:=l.length) (B:=fun (a1:Int × Int)=>bf (decide (a1.1 < a1.2)) (need ((0:Int)≤(IntKind.i64.wrap (shrOp .u64 (IntKind.u64.wrap (IntKind.i64.wrap (a1.1 + a1.2))) 1))∧(IntKind.i64.wrap (shrOp .u64 (IntKind.u64.wrap (IntKind.i64.wrap (a1.1 + a1.2))) 1)) < (l.length:Int)) <| ((z3t (l.getD ((IntKind.i64.wrap (shrOp .u64 (IntKind.u64.wrap (IntKind.i64.wrap (a1.1 + a1.2))) 1)).toNat) default).key key).bind fun r1=>some r1).bind fun r8=>bf (decide (r8 < 0)) (some (.next ((IntKind.i64.wrap ((IntKind.i64.wrap (shrOp .u64 (IntKind.u64.wrap (IntKind.i64.wrap (a1.1 + a1.2))) 1)) + 1)),a1.2))) (some (.next (a1.1,(IntKind.i64.wrap (shrOp .u64 (IntKind.u64.wrap (IntKind.i64.wrap (a1.1 + a1.2))) 1)))))) (some (.brk (a1.1,a1.2))))
  l.length 0 l.length fuel (by omega) (by omega) (Nat.le_refl _) (Nat.zero_le _) (Nat.le_refl _) (.inl rfl) (.inl rfl) (fun i j _ hij hj=>by
   simp only [z0a,Int.ofNat_lt]
   by_cases h:i < j
   ·rw [if_pos h,if_pos h,zk7 (by omega),z06 (by omega),z7t]
    simp only [Option.bind_some,z0a,Int.toNat_natCast,decide_eq_true_eq]
    rw [z1q (by omega) (by omega)]
    split
    ·rfl
    ·rfl
   ·rw [if_neg h,if_neg h])
 have ea:=zka (key:=key) hE h3 h4 h5
 rw [show ((0:Nat):Int)=(0:Int) from rfl] at h1
 rw [h1]
 simp only [z4r,jn_eq,z0a,Int.ofNat_lt]
 rw [ea]
 by_cases h:r < l.length
 ·rw [if_pos h,z06 (by omega),z7t]
  rfl
 ·rw [if_neg h]
  rfl
def grpK (key:List Value) (l:List Update):List Update:=l.filter fun u=>decide (kc key u=0)
theorem zer {l:List Update} (hE:EvenP l) (key:List Value):l=l.take (atK key l)++(grpK key l++(l.drop (atK key l)).drop (grpK key l).length) ∧
  cntP (fun u=>decide (kc key u=0)) (l.drop (atK key l))=(grpK key l).length:=by
 have hat:=zga key l
 have hA:∀ u ∈ l.take (atK key l),kc key u < 0:=fun u hu=>by
  obtain ⟨i,hi,rfl⟩:=List.mem_iff_getElem.1 hu
  simp only [List.length_take] at hi
  have:=of_decide_eq_true (zcg (p:=fun u=>decide (kc key u < 0)) (l:=l) (i:=i) (by unfold atK at hi; omega))
  rw [List.getD_eq_getElem?_getD,List.getElem?_eq_getElem (by omega)] at this
  simpa using this
 have hpos:∀ i,atK key l≤i→i < l.length→¬ kc key (l.getD i default) < 0:=fun i hi hl h=>by
  have h1:=zds hE hi hl h
  have h2:=zap (p:=fun u=>decide (kc key u < 0)) (l:=l) (by unfold atK at hi; omega)
  have h2':=of_decide_eq_false h2
  exact h2' h1
 generalize hD:l.drop (atK key l)=D at *
 have hDg:∀ i,i < D.length→D.getD i default=l.getD (atK key l + i) default:=fun i hi=>by
  rw [← hD]
  simp [List.getD_eq_getElem?_getD,List.getElem?_drop]
 have hDl:D.length=l.length - atK key l:=by rw [← hD]; simp
 generalize hm:cntP (fun u=>decide (kc key u=0)) D=m at *
 have hmD:m≤D.length:=by rw [← hm]; exact zci _ _
 have hG:∀ u ∈ D.take m,decide (kc key u=0)=true:=fun u hu=>by
  obtain ⟨i,hi,rfl⟩:=List.mem_iff_getElem.1 hu
  simp only [List.length_take] at hi
  have:=zcg (p:=fun u=>decide (kc key u=0)) (l:=D) (i:=i) (by omega)
  rw [List.getD_eq_getElem?_getD,List.getElem?_eq_getElem (by omega)] at this
  simpa using this
 have hC:∀ u ∈ D.drop m,¬ decide (kc key u=0)=true:=fun u hu h=>by
  have h:=of_decide_eq_true h
  obtain ⟨i,hi,rfl⟩:=List.mem_iff_getElem.1 hu
  simp only [List.length_drop] at hi
  have e1:(D.drop m)[i]=l.getD (atK key l + (m + i)) default:=by
   rw [← hDg (m + i) (by omega),List.getD_eq_getElem?_getD,List.getElem?_eq_getElem (by omega)]
   simp
  rw [e1] at h
  have h1:=zan hE (key:=key) (i:=atK key l + m) (j:=atK key l + (m + i)) (by omega) (by omega) (by omega)
  have h2:=hpos (atK key l + m) (by omega) (by omega)
  have h3:=zap (p:=fun u=>decide (kc key u=0)) (l:=D) (by omega)
  have h3:=of_decide_eq_false h3
  rw [hm,hDg m (by omega)] at h3
  omega
 have e0:l=l.take (atK key l)++(D.take m++D.drop m):=by rw [List.take_append_drop,← hD,List.take_append_drop]
 have e1:grpK key l=D.take m:=by
  unfold grpK
  conv=>lhs; rw [e0]
  rw [List.filter_append,List.filter_append,List.filter_eq_nil_iff.2 (fun u hu h=>by have:=hA u hu; have h:=of_decide_eq_true h; omega),List.filter_eq_self.2 hG,List.filter_eq_nil_iff.2 hC]
  simp
 have e2:(grpK key l).length=m:=by rw [e1]; simp; omega
 rw [e2]
 refine ⟨?_,rfl⟩
 rw [e1]
 exact e0
theorem zh5 {l:List Update} {p:Update→Bool} {B:Nat→Unit→Option (Ctl Unit Int)} (hB:∀ i (u:Unit),i < l.length→B i u=if p (l.getD i default)=true then some (.next ()) else some (.ret ((i:Nat):Int))) :
  outK (z0c B l.length 0 ()) (fun _=>some (-1)) (fun x=>some x)=some (if cntP p l < l.length then ((cntP p l:Nat):Int) else -1):=by
 refine zd7 (G:=fun q=>q=some (if cntP p l < l.length then ((cntP p l:Nat):Int) else -1)) (fun i _=>∀ j,j < i→p (l.getD j default)=true) (fun _=>¬ cntP p l < l.length) (fun r=>cntP p l < l.length∧r=((cntP p l:Nat):Int)) (fun j hj=>by omega) (fun s h hc => ?_) (fun s h=>by rw [if_neg h]) (fun r ⟨h,e⟩=>by rw [if_pos h,e]) ?_
 ·have:=zap hc
  rw [h _ hc] at this; cases this
 ·intro i s hi h
  rw [hB i s hi]
  by_cases g:p (l.getD i default)=true
  ·rw [if_pos g]
   refine .inl ⟨_,rfl,fun j hj => ?_⟩
   by_cases e:j=i
   ·subst e; exact g
   ·exact h j (by omega)
  ·rw [if_neg g]
   have:cntP p l=i:=zf2 (by omega) h fun _=>by simpa using g
   exact .inr (.inr ⟨_,rfl,by omega,by rw [this]⟩)
theorem zk1 {fuel:Nat} {l:List Update} {key:List Value} (hf:20000000≤fuel) (hn:l.length≤4000000) (hE:EvenP l):z7i fuel l key=some (grpK key l):=by
 unfold z7i
 rw [zg0 hf hn hE]
 simp only [Option.bind_some]
 have hat:=zga key l
 rw [z06 (by omega)]
 have e1:Av.sub l ((atK key l:Nat):Int) (l.length:Int)=l.drop (atK key l):=by
  unfold Av.sub
  simp only [Int.toNat_natCast]
  exact List.take_of_length_le (by simp)
 rw [e1]
 obtain ⟨h1,h2⟩:=zer hE key
 unfold z0p
 rw [zh5 (p:=fun u=>decide (kc key u=0)) (fun i u hi=>by
  unfold z7j
  rw [z7t]
  simp only [Option.bind_some,z8h,z0a,decide_eq_true_eq])]
 rw [h2]
 simp only [Option.bind_some,jn_eq,z0a]
 generalize hD:l.drop (atK key l)=D at *
 have hG:D=grpK key l++D.drop (grpK key l).length:=by
  have h3:l.take (atK key l)++D=l.take (atK key l)++(grpK key l++D.drop (grpK key l).length):=by rw [← h1,← hD,List.take_append_drop]
  exact List.append_cancel_left h3
 have hle:(grpK key l).length≤D.length:=by
  have:=congrArg List.length hG
  simp only [List.length_append] at this
  omega
 have hDl:D.length≤l.length:=by rw [← hD]; simp
 have hres:∀ n:Int,n=((grpK key l).length:Int)→(need ((0:Int)≤0∧(0:Int)≤n∧n≤n∧n≤(D.length:Int)) <| (z4j (Av.sub D 0 n)).bind fun r7=>some r7)=some (grpK key l):=fun n e=>by
  rw [e,z06 (by omega)]
  have e2:Av.sub D 0 ((grpK key l).length:Int)=grpK key l:=by
   unfold Av.sub
   simp only [Int.toNat_zero,Nat.sub_zero,List.drop_zero,Int.toNat_natCast]
   conv=>lhs; rw [hG]
   exact List.take_left
  rw [e2,zkc (l:=grpK key l) (fun u hu=>hE.ok u (List.mem_filter.1 hu).1) (by omega)]
  rfl
 by_cases h:(grpK key l).length < D.length
 ·rw [if_pos h,if_neg (by omega)]
  exact hres _ rfl
 ·rw [if_neg h,if_pos (by omega)]
  exact hres _ (by omega)
end Go.Av
namespace Go.Av
open Go
set_option linter.unusedVariables false
set_option linter.unusedSimpArgs false
theorem zg7 {fuel:Nat} {b:Batch} {key:List Value} (hf:20000000≤fuel) (hn:b.updates.length≤4000000) (hc:z3f fuel b=some 0) (hE:EvenP b.updates):z4u fuel b key=some (grpK key b.updates,0):=by
 unfold z4u
 rw [hc]
 simp only [Option.bind_some,decide_true,Bool.not_true,z1h]
 rw [zk1 hf hn hE]
 rfl
theorem zk0 {fuel:Nat} {b:Batch} {key:List Value} (hf:20000000≤fuel) (hn:b.updates.length≤4000000) (hc:z3f fuel b=some 0) (hE:EvenP b.updates):z6w fuel b key=some (((atK key b.updates:Nat):Int),0):=by
 unfold z6w
 rw [hc]
 simp only [Option.bind_some,decide_true,Bool.not_true,z1h]
 rw [zg0 hf hn hE]
 rfl
theorem zdy {p q r:Update→Bool}:∀ {l:List Update},(∀ u ∈ l,(p u=true↔q u=true∨r u=true)∧¬ (q u=true∧r u=true))→(l.filter p).length=(l.filter q).length + (l.filter r).length
 | [],_=>rfl
 | u :: l,h=>by
  have ih:=zdy (l:=l) fun x hx=>h x (List.mem_cons_of_mem _ hx)
  obtain ⟨h1,h2⟩:=h u (List.mem_cons_self ..)
  simp only [List.filter_cons]
  cases hp:p u <;> cases hq:q u <;> cases hr:r u <;> simp_all <;> omega
abbrev upTo (l:List Update) (key:List Value):Nat:=(l.filter fun u=>decide (kc key u≤0)).length
theorem zkg {l:List Update} (hE:EvenP l) {i:Nat} (h0:0 < i) (hi:i < l.length):cmpL cmpV (l.getD (i - 1) default).key (l.getD i default).key≤0:=by
 have h1:=hE.adj h0 hi
 unfold cU thenC at h1
 split at h1 <;> omega
theorem zia {l:List Update} {a b:List Value} (h:cmpL cmpV a b=0):upTo l b=upTo l a:=by
 unfold upTo
 congr 2
 funext u
 have g:=z3i.list.anti a b
 rw [Bool.eq_iff_iff]
 simp only [decide_eq_true_eq]
 exact ⟨fun x=>z3i.list.tr _ _ _ x (by omega),fun x=>z3i.list.tr _ _ _ x (by omega)⟩
theorem zey {l:List Update} (hE:EvenP l) {i:Nat} (h0:0 < i) (hi:i < l.length) (h:cmpL cmpV (l.getD (i - 1) default).key (l.getD i default).key ≠ 0) :
  upTo l (l.getD i default).key=upTo l (l.getD (i - 1) default).key + (grpK (l.getD i default).key l).length:=by
 have h1:=zkg hE h0 hi
 refine zdy fun u hu => ?_
 obtain ⟨j,hj,rfl⟩:=List.mem_iff_getElem.1 hu
 have ej:l.getD j default=l[j]:=by rw [List.getD_eq_getElem?_getD,List.getElem?_eq_getElem hj]; rfl
 rw [← ej]
 simp only [decide_eq_true_eq]
 have hanti:=z3i.list.anti (l.getD (i - 1) default).key (l.getD i default).key
 refine ⟨⟨fun g => ?_,fun g => ?_⟩,fun g => ?_⟩
 ·by_cases c:j < i
  ·left
   exact zan hE (key:=(l.getD (i - 1) default).key) (i:=j) (j:=i - 1) (by omega) (by omega) (by unfold kc; rw [z3i.list.refl]; exact Int.le_refl _)
  ·right
   have g1:=zan hE (key:=(l.getD j default).key) (i:=i) (j:=j) (by omega) hj (by unfold kc; rw [z3i.list.refl]; exact Int.le_refl _)
   have g2:=z3i.list.anti (l.getD i default).key (l.getD j default).key
   have g3:cmpL cmpV (l.getD i default).key (l.getD j default).key≤0:=g1
   have g4:cmpL cmpV (l.getD j default).key (l.getD i default).key≤0:=g
   show cmpL cmpV (l.getD j default).key (l.getD i default).key=0
   omega
 ·rcases g with g | g
  ·exact z3i.list.tr _ _ _ g h1
  ·have g4:cmpL cmpV (l.getD j default).key (l.getD i default).key=0:=g
   show cmpL cmpV (l.getD j default).key (l.getD i default).key≤0
   omega
 ·obtain ⟨g1,g2⟩:=g
  have g3:cmpL cmpV (l.getD j default).key (l.getD i default).key=0:=g2
  have g4:=z3i.list.anti (l.getD j default).key (l.getD i default).key
  have g5:=z3i.list.tr (l.getD i default).key (l.getD j default).key (l.getD (i - 1) default).key (by omega) g1
  omega
theorem zdh {l:List Update} (hE:EvenP l) (hi:0 < l.length):upTo l (l.getD 0 default).key=(grpK (l.getD 0 default).key l).length:=by
 unfold upTo grpK
 congr 1
 refine List.filter_congr fun u hu => ?_
 obtain ⟨j,hj,rfl⟩:=List.mem_iff_getElem.1 hu
 have ej:l.getD j default=l[j]:=by rw [List.getD_eq_getElem?_getD,List.getElem?_eq_getElem hj]; rfl
 rw [← ej,Bool.eq_iff_iff]
 simp only [decide_eq_true_eq]
 have g1:=zan hE (key:=(l.getD j default).key) (i:=0) (j:=j) (by omega) hj (by unfold kc; rw [z3i.list.refl]; exact Int.le_refl _)
 have g3:cmpL cmpV (l.getD 0 default).key (l.getD j default).key≤0:=g1
 have g2:=z3i.list.anti (l.getD 0 default).key (l.getD j default).key
 show cmpL cmpV (l.getD j default).key (l.getD 0 default).key≤0↔cmpL cmpV (l.getD j default).key (l.getD 0 default).key=0
 omega
theorem zhz {l:List Update} (hE:EvenP l) (hi:0 < l.length):upTo l (l.getD (l.length - 1) default).key=l.length:=by
 unfold upTo
 rw [List.filter_eq_self.2]
 intro u hu
 obtain ⟨j,hj,rfl⟩:=List.mem_iff_getElem.1 hu
 have ej:l.getD j default=l[j]:=by rw [List.getD_eq_getElem?_getD,List.getElem?_eq_getElem hj]; rfl
 rw [← ej]
 exact decide_eq_true (zan hE (i:=j) (j:=l.length - 1) (by omega) (by omega) (by unfold kc; rw [z3i.list.refl]; exact Int.le_refl _))
theorem zjj (l:List Update) (key:List Value):upTo l key≤l.length:=List.length_filter_le _ _
theorem zd3 {fuel:Nat} {b:Batch} {key:List Value} (hL:z44 fuel=some true) (hf:20000000≤fuel) (hF:NN b.since) (hl:b.since.length≤2000000) (hn:b.updates.length≤2000000) (ht:∀ r ∈ b.updates,z4a r.time) :
  z31 fuel b key=some true:=by
 unfold z31
 rw [hL]
 simp only [Option.bind_some,Bool.not_true,z1h]
 rcases zix (fuel:=fuel) hf hF hl (by omega) ht with ⟨hc,_,hE,_⟩ | ⟨hc,_⟩
 ·rw [zk0 hf (by omega) hc hE]
  simp only [Option.bind_some]
  rw [zg7 hf (by omega) hc hE]
  simp only [Option.bind_some,decide_true,Bool.not_true,z1h,jn_eq]
  generalize hu:b.updates=l at *
  obtain ⟨h1,h2⟩:=zer hE key
  have hat:=zga key l
  have hlen:=congrArg List.length h1
  simp only [List.length_append,List.length_take,List.length_drop] at hlen
  have hle:atK key l + (grpK key l).length≤l.length:=by omega
  rw [wadd (by omega)]
  simp only [z0a]
  rw [if_neg (by omega),if_neg (by omega),z06 (by omega)]
  have e1:Av.sub l ((atK key l:Nat):Int) ((atK key l + (grpK key l).length:Nat):Int)=grpK key l:=by
   unfold Av.sub
   simp only [Int.toNat_natCast]
   have e2:l.drop (atK key l)=grpK key l++(l.drop (atK key l)).drop (grpK key l).length:=by
    have h3:l.take (atK key l)++l.drop (atK key l)=l.take (atK key l)++(grpK key l++(l.drop (atK key l)).drop (grpK key l).length):=by rw [← h1,List.take_append_drop]
    exact List.append_cancel_left h3
   rw [show atK key l + (grpK key l).length - atK key l=(grpK key l).length by omega,e2]
   exact List.take_left
  rw [e1,zki]
  simp only [Option.bind_some,Bool.not_true,z1h]
  refine zje (fun i a=>a=((if i=0 then 0 else upTo l (l.getD (i - 1) default).key:Nat):Int)) rfl ?_ ?_
  ·intro i a hi ha
   refine ⟨_,?_,rfl⟩
   rw [show (if i + 1=0 then 0 else upTo l (l.getD (i + 1 - 1) default).key)=upTo l (l.getD i default).key from if_neg (by omega)]
   have hg:z4u fuel b (l.getD i default).key=some (grpK (l.getD i default).key l,0):=by
    rw [zg7 hf (by rw [hu]; omega) hc (by rw [hu]; exact hE),hu]
   rw [hg]
   simp only [Option.bind_some,z0a]
   have hul:=zjj l (l.getD i default).key
   by_cases h0:0 < ((i:Nat):Int)
   ·rw [if_pos h0,wsub1 (by omega) (by omega),z06 (by omega),zca]
    rw [if_neg (by omega)] at ha
    have hcmp:cU (⟨(l.getD (i - 1) default).key,([]:List Value),(⟨0,(0,0)⟩:Time),0⟩:Update) (⟨(l.getD i default).key,([]:List Value),(⟨0,(0,0)⟩:Time),0⟩:Update)=cmpL cmpV (l.getD (i - 1) default).key (l.getD i default).key:=by
     unfold cU thenC
     simp only [cmpL]
     split
     ·rename_i h; rw [h]; decide
     ·rfl
    rw [Int.toNat_natCast,hcmp]
    simp only [Option.bind_some]
    by_cases h3:cmpL cmpV (l.getD (i - 1) default).key (l.getD i default).key=0
    ·rw [if_pos h3,ha,← zia h3]
    ·rw [if_neg h3,ha,wadd (by have:=zey hE (by omega) hi h3; omega),← zey hE (by omega) hi h3]
   ·rw [if_neg h0]
    have:i=0:=by omega
    subst this
    rw [if_pos rfl] at ha
    rw [ha,wadd (by have:=zdh hE hi; omega),zdh hE hi,Nat.zero_add]
  ·intro a ha
   by_cases h0:l.length=0
   ·rw [if_pos h0] at ha
    rw [ha,h0]
    rfl
   ·rw [if_neg h0,zhz hE (by omega)] at ha
    rw [ha]
    simp
 ·unfold z6w z4u
  rw [hc]
  simp only [Option.bind_some,show decide ((4:Int)=0)=false from rfl,Bool.not_false,z6o,jn_eq]
  rfl
end Go.Av
namespace Go.Av
open Go
set_option linter.unusedVariables false
theorem zhb {b:Batch}:(b.since.map z6f).sum + (b.updates.map z5x).sum≤z9t b:=by
 unfold z9t
 simp only
 omega
theorem ze7 {b:Batch} {k:List Value} (h:zh1 b) (hb:z9t b + (((k.map z6j).sum + 1) + 0)≤1048576):z31 100000000 b k=some true:=by
 have:=@zhb b
 have:=zkb b.updates
 have:=zk9 b.since
 exact zd3 zj4 (by omega) (ts_nn h.1) (by omega) (by omega) (us_nn h.2.1)
end Go.Av
