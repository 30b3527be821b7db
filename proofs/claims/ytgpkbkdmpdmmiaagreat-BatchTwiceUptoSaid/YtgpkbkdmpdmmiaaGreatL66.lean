import Derived.Test.YtgpkbkdmpdmmiaaGreatL65
import Derived.Sort.LotD5
import Derived.Sort.AssemblyPlain
import Derived.KernelRfl
namespace Go.Av
open Go
set_option linter.unusedVariables false
set_option linter.unusedSimpArgs false
theorem thenC_z (v:Int):thenC 0 v=v:=rfl
theorem thenC_n {u v:Int} (h:u ≠ 0):thenC u v=u:=if_neg h
theorem rangeN_chk {X:Type} [Inhabited X] {R:Type} {B:Nat→Unit→Option (Ctl Unit R)} {l:List X} (e:X→Int) (f:Int→R) (hB:∀ i,i < l.length→B i ()=if e (l.getD i default)=0 then some (.next ()) else some (.ret (f (e (l.getD i default))))) :
  rangeN B l.length 0 ()=if l.foldr (fun x v=>thenC (e x) v) 0=0 then some (.done ()) else some (.ret (f (l.foldr (fun x v=>thenC (e x) v) 0))):=by
 have key:∀ k i,i + k=l.length→rangeN B k i ()=if (l.drop i).foldr (fun x v=>thenC (e x) v) 0=0 then some (.done ()) else some (.ret (f ((l.drop i).foldr (fun x v=>thenC (e x) v) 0))):=by
  intro k
  induction k with
  | zero =>
   intro i hi
   rw [List.drop_eq_nil_of_le (by omega)]
   rfl
  | succ k ih =>
   intro i hi
   rw [drop_cons_getD (by omega:i < l.length)]
   simp only [rangeN,hB i (by omega),List.foldr_cons]
   by_cases h:e (l.getD i default)=0
   ·simp only [h,if_true,thenC_z]
    exact ih (i + 1) (by omega)
   ·simp only [thenC_n h,if_neg h]
 have:=key l.length 0 (by omega)
 rwa [List.drop_zero] at this
def errU (u:Update):Int:=thenC (if okRow u.key then 0 else 4) (thenC (if okRow u.row then 0 else 4) (if okT u.time then 0 else 1))
def chkL (l:List Update):Int:=l.foldr (fun u v=>thenC (errU u) v) 0
def okU (u:Update):Prop:=okRow u.key=true∧okRow u.row=true∧okT u.time=true
theorem errU_zero {u:Update}:errU u=0↔okU u:=by
 unfold errU okU thenC
 by_cases h1:okRow u.key=true <;> by_cases h2:okRow u.row=true <;> by_cases h3:okT u.time=true <;> simp [h1,h2,h3]
theorem thenC_zero {u v:Int}:thenC u v=0↔u=0∧v=0:=by unfold thenC; split <;> omega
theorem chkL_zero {l:List Update}:chkL l=0↔∀ u ∈ l,okU u:=by
 induction l with
 | nil=>simp [chkL]
 | cons u l ih =>
  unfold chkL at *
  rw [List.foldr_cons,thenC_zero,errU_zero,ih]
  simp
theorem thenC_assoc (u v w:Int):thenC (thenC u v) w=thenC u (thenC v w):=by
 by_cases h1:u=0
 ·subst h1; rfl
 ·rw [thenC_n h1,thenC_n h1,thenC_n h1]
theorem chkL_append (a b:List Update):chkL (a++b)=thenC (chkL a) (chkL b):=by
 induction a with
 | nil=>simp [chkL,thenC]
 | cons u a ih =>
  unfold chkL at *
  rw [List.cons_append,List.foldr_cons,List.foldr_cons,ih,thenC_assoc]
theorem diffCheck_eq {fuel:Nat} (hf:5 < fuel) (l:List Update):diff_Check fuel l=some (chkL l):=by
 unfold diff_Check
 rw [rangeN_chk errU (fun x=>x)]
 ·show outK (if chkL l=0 then _ else some (.ret (chkL l))) _ _=_
  split
  ·rename_i h; rw [h]; rfl
  ·rfl
 ·intro i hi
  rw [valueCheck_eq,valueCheck_eq,momentCheck_eq hf]
  simp only [Option.bind_some,orErr3,bf_not,bf_decide]
  rfl
theorem cU_zero {a b:Update} (ha:okU a) (hb:okU b) (h:cU a b=0) (hd:a.diff=b.diff):a=b:=by
 unfold cU at h
 rw [thenC_zero,thenC_zero,cmpRows_zero (okRow_all ha.1).1 (okRow_all hb.1).1,cmpRows_zero (okRow_all ha.2.1).1 (okRow_all hb.2.1).1,cmpT_zero] at h
 rcases a with ⟨k,r,t,d⟩; rcases b with ⟨k',r',t',d'⟩
 obtain ⟨e1,e2,e3⟩:=h
 simp only at e1 e2 e3 hd
 rw [e1,e2,e3,hd]
theorem clone_eq {p:List Value} (h:p.length≤8):slices_Clonefreshet_api_Value_freshet_api_Value_Value p=some p:=by
 unfold slices_Clonefreshet_api_Value_freshet_api_Value_Value
 rw [need_true (by omega)]
theorem okU_len {u:Update} (h:okU u):u.key.length≤8∧u.row.length≤8:=⟨(okRow_all h.1).2,(okRow_all h.2.1).2⟩
theorem set_same {X:Type} [Inhabited X] {l:List X} {i:Nat} (h:i < l.length):l.set i (l.getD i default)=l:=by
 rw [List.getD_eq_getElem?_getD,List.getElem?_eq_getElem h]
 exact List.set_getElem_self h
theorem own_eq {l:List Update} (h:∀ u ∈ l,okU u) (hn:l.length≤4000000):diff_Own l=some l:=by
 unfold diff_Own
 have hlim:(l.length:Int)≤(lim:Int):=by simp only [lim]; omega
 rw [need_true ⟨by omega,by omega,hlim⟩,need_true (by simp)]
 have e:copyL (List.replicate l.length ((⟨([]:List Value),([]:List Value),(⟨0,(0,0)⟩:Time),0⟩:Update):Update)) l=l:=by
  unfold copyL
  rw [List.drop_eq_nil_of_le (by simp)]
  simp
 rw [e]
 rw [rangeN_to l (fun i a=>a=l) (fun s hs=>hs)]
 ·rfl
 ·intro i a hi ha
  subst ha
  obtain ⟨h1,h2⟩:=okU_len (h _ (getD_mem' hi))
  refine ⟨_,?_,rfl⟩
  have e1:(⟨(a.getD i default).key,(a.getD i default).row,(a.getD i default).time,(a.getD i default).diff⟩:Update)=a.getD i default:=rfl
  simp only [Nat.zero_add]
  rw [need_true (by omega),need_true hi,clone_eq h1]
  simp only [Option.bind_some]
  rw [need_true (by omega),need_true hi,clone_eq h2]
  simp only [Option.bind_some]
  rw [need_true (by omega),need_true hi,need_true (by omega),need_true (by simp; exact hi),e1,set_same hi,e1,set_same hi]
 ·rfl
end Go.Av
namespace Go.Av
open Go
set_option linter.unusedVariables false
set_option linter.unusedSimpArgs false
set_option linter.unusedSectionVars false
section
variable {α:Type} [Inhabited α]
def growG (z : α) (p1:Int):Option (List α) :=
 bf (decide (p1 < 0)) (none) (jn (fun (a1:List α)=>some a1) fun j2=>bf (decide (0 < (IntKind.i64.wrap (p1 - (IntKind.i64.wrap ((0:Int) - 0)))))) (need ((0:Int) < (IntKind.i64.wrap (p1 - (IntKind.i64.wrap ((0:Int) - 0))))∧(IntKind.i64.wrap (p1 - (IntKind.i64.wrap ((0:Int) - 0))))≤(lim:Int)) <| need ((0:Int)≤0∧(0:Int)≤0∧(0:Int)≤((List.replicate ((IntKind.i64.wrap (p1 - (IntKind.i64.wrap ((0:Int) - 0)))).toNat) z).length:Int)) <| j2 ((List.replicate ((IntKind.i64.wrap (p1 - (IntKind.i64.wrap ((0:Int) - 0)))).toNat) z).take 0)) (j2 ([]:List α)))
def concG (z : α) (p0:List (List α)):Option (List α) :=
 outK (rangeN (S:=Int) (R:=Empty) (fun i1 (a2:Int)=>bf (decide ((IntKind.i64.wrap (a2 + ((p0.getD i1 default).length:Int))) < 0)) (none) (some (.next (IntKind.i64.wrap (a2 + ((p0.getD i1 default).length:Int)))))) p0.length 0 0) (fun (a3:Int)=>(growG z a3).bind fun r4=>outK (rangeN (S:=List α) (R:=Empty) (fun i5 (a6:List α)=>need (a6.length + (p0.getD i5 default).length≤274877906944) <| some (.next (a6++(p0.getD i5 default)))) p0.length 0 r4) (fun (a7:List α)=>some a7) (fun (x:Empty)=>x.elim)) (fun (x:Empty)=>x.elim)
theorem take_flat {l:List (List α)} {i:Nat} (h:i < l.length):(l.take (i + 1)).flatten=(l.take i).flatten++l.getD i default:=by
 rw [take_succ_getD h]; simp
theorem flat_split {l:List (List α)} {i:Nat} (h:i < l.length):l.flatten=(l.take i).flatten++(l.getD i default++(l.drop (i + 1)).flatten):=by
 have e:l=l.take i++l.getD i default :: l.drop (i + 1):=by rw [← drop_cons_getD h,List.take_append_drop]
 have e2:=congrArg List.flatten e
 rw [List.flatten_append,List.flatten_cons] at e2
 exact e2
theorem flat_le {l:List (List α)} {i:Nat} (h:i < l.length):(l.take i).flatten.length + (l.getD i default).length≤l.flatten.length:=by
 have:=congrArg List.length (flat_split h)
 simp only [List.length_append] at this
 omega
theorem growG_eq {z : α} {n:Nat} (hn:n≤4000000):growG z (n:Int)=some []:=by
 unfold growG
 have e:IntKind.i64.wrap ((n:Int) - IntKind.i64.wrap ((0:Int) - 0))=(n:Int):=by
  rw [show IntKind.i64.wrap ((0:Int) - 0)=0 by rfl,wrap_small (by omega) (by omega)]; omega
 rw [e]
 simp only [bf_decide,jn_eq]
 rw [if_neg (by omega)]
 split
 ·rw [need_true (by simp only [lim]; omega),need_true (by simp)]
  simp
 ·rfl
theorem concG_eq {z : α} {p0:List (List α)} (hn:p0.flatten.length≤4000000):concG z p0=some p0.flatten:=by
 unfold concG
 have h1:=fun B h=>rangeN_to (R:=Empty) (B:=B) (n:=p0.length) (s:=(0:Int)) ((p0.flatten.length:Nat):Int) (fun i a=>a=(((p0.take i).flatten.length:Nat):Int)) (fun s hs=>by rw [hs,List.take_length]) h (by rfl)
 rw [h1]
 ·simp only [outK_done,growG_eq hn,Option.bind_some]
  rw [rangeN_to p0.flatten (fun i a=>a=(p0.take i).flatten) (fun s hs=>by rw [hs,List.take_length])]
  ·rfl
  ·intro i a hi ha
   refine ⟨_,?_,rfl⟩
   have:=flat_le hi
   rw [need_true (by rw [ha]; omega),ha,take_flat hi]
  ·rfl
 ·intro i a hi ha
  have:=flat_le hi
  refine ⟨_,?_,rfl⟩
  rw [ha,wadd (by omega),take_flat hi,List.length_append]
  simp only [bf_decide]
  rw [if_neg (by omega)]
end
end Go.Av
namespace Go.Av
open Go
set_option linter.unusedVariables false
set_option linter.unusedSimpArgs false
abbrev pU (l:List Update):List (Update × Int):=PR (fun x=>x.diff) l
abbrev pK (l:List Count):List (Count × Int):=PR (fun x=>x.n) l
abbrev TotU (l:List Update) (R:List Update) (e:Int):Prop:=Tot cU (fun x=>x.diff) putUpdate (pU l) R e
abbrev TotK (l:List Count) (R:List Count) (e:Int):Prop:=Tot cK (fun x=>x.n) putCount (pK l) R e
theorem tot_memU {l R:List Update} {e:Int} (h:TotU l R e) (ho:∀ u ∈ l,okU u):∀ r ∈ R,okU r:=fun r hr=>by
 rcases h with ⟨_,h,_⟩ | ⟨_,rfl,_⟩
 ·obtain ⟨y,h1,h2⟩:=h.mem r hr
  obtain ⟨z,h3,h4⟩:=PR_mem.1 h1
  rw [h2,← h4]
  exact ho z h3
 ·cases hr
def ConsOk (l R:List Update) (e:Int):Prop:=(chkL l ≠ 0∧R=[]∧e=chkL l)∨(chkL l=0∧TotU l R e)
theorem foldr_flat:∀ ls:List (List Update),ls.foldr (fun x v=>thenC (chkL x) v) 0=chkL ls.flatten
 | []=>rfl
 | l :: ls=>by rw [List.foldr_cons,List.flatten_cons,chkL_append,foldr_flat ls]
theorem cons_ok {fuel:Nat} {ls:List (List Update)} (hf:20000000≤fuel) (hn:ls.flatten.length≤4000000) (hd:∀ u ∈ ls.flatten,in64 u.diff) :
  ∃ R e,diff_Consolidate fuel ls=some (R,e)∧ConsOk ls.flatten R e∧R.length≤ls.flatten.length:=by
 unfold diff_Consolidate
 rw [rangeN_chk chkL (fun w=>(([]:List Update),w)),foldr_flat]
 ·by_cases h:chkL ls.flatten=0
  ·rw [if_pos h]
   simp only [outK_done]
   rw [show slices_Concatfreshet_api_Update_freshet_api_Update_Update ls=some ls.flatten from concG_eq hn]
   simp only [Option.bind_some]
   have ho:=chkL_zero.1 h
   obtain ⟨R,e,l',h1,h2,h3⟩:=totalUpdate (fuel:=fuel) hd (fun u hu=>(okU_len (ho u hu)).2) hn hf
   rw [h1]
   simp only [Option.bind_some]
   rw [own_eq (tot_memU h2 ho) (by omega)]
   exact ⟨R,e,rfl,.inr ⟨h,h2⟩,h3⟩
  ·rw [if_neg h]
   exact ⟨_,_,rfl,.inl ⟨h,rfl,rfl⟩,Nat.zero_le _⟩
 ·intro i hi
  rw [diffCheck_eq (by omega)]
  simp only [Option.bind_some,bf_not,bf_decide]
end Go.Av
namespace Go.Av
open Go
set_option linter.unusedVariables false
set_option linter.unusedSimpArgs false
theorem same05 (l:List Update):freshetref05_Same l l=some true:=by
 unfold freshetref05_Same
 rw [decide_eq_true rfl,Bool.not_true,bf_false]
 rw [rangeN_to () (fun _ _=>True) (fun _ _=>rfl)]
 ·rfl
 ·intro i a hi ha
  refine ⟨(),?_,trivial⟩
  have e:eqTime (l.getD i default).time (l.getD i default).time=true:=by simp [eqTime]
  simp only [jn_eq,same_self,Option.bind_some,Bool.not_true,bf_false,e,decide_true]
  rw [need_true (by omega),need_true (by omega),need_true (by omega),need_true (by omega)]
 ·trivial
theorem tot_uniqueU {l l' R R' : List Update} {e e' : Int} (h:TotU l R e) (h' : TotU l' R' e') (ho:∀ u ∈ l,okU u) (ho' : ∀ u ∈ l',okU u) (hs:∀ y,sm cU (pU l) y=sm cU (pU l') y):R=R' ∧ e=e' :=
 tot_unique cU_is h h' hs fun r hr r' hr' h1 h2=>cU_zero (tot_memU h ho r hr) (tot_memU h' ho' r' hr') h1 h2
theorem cons_again {l R:List Update} {R' : List Update} {e e' : Int} (h:ConsOk l R e) (he:e=0) (h0:chkL l=0) (h' : ConsOk R R' e'):R' = R∧e' = 0:=by
 have ho:=chkL_zero.1 h0
 rcases h with ⟨h1,_⟩ | ⟨_,h2⟩
 ·exact absurd h0 h1
 ·have hoR:=tot_memU h2 ho
  rcases h' with ⟨g1,_⟩ | ⟨_,g2⟩
  ·exact absurd (chkL_zero.2 hoR) g1
  ·rcases h2 with ⟨_,k1,k2⟩ | ⟨k,_⟩
   ·have hs:=res_sm cU_is k1
    obtain ⟨a,b⟩:=tot_uniqueU (R:=R) (e:=0) (.inl ⟨rfl,k1,k2⟩) g2 ho hoR fun y=>(hs y).symm
    exact ⟨a.symm,b.symm⟩
   ·omega
end Go.Av
namespace Go.Av
open Go
set_option linter.unusedVariables false
set_option linter.unusedSimpArgs false
theorem tot_inU {l R:List Update} {e:Int} (h:TotU l R e):∀ r ∈ R,in64 r.diff:=fun r hr=>by
 rcases h with ⟨_,g,gf⟩ | ⟨_,rfl,_⟩
 ·rw [(g.sum r hr).1]; exact gf r
 ·cases hr
theorem tot_time {l R:List Update} {e:Int} (h:TotU l R e) (ht:∀ u ∈ l,nnTime u.time):∀ r ∈ R,nnTime r.time:=fun r hr=>by
 rcases h with ⟨_,g,_⟩ | ⟨_,rfl,_⟩
 ·obtain ⟨y,h1,h2⟩:=g.mem r hr
  obtain ⟨z,h3,h4⟩:=PR_mem.1 h1
  rw [h2,← h4]
  exact ht z h3
 ·cases hr
end Go.Av
namespace Go.Av
open Go
set_option linter.unusedVariables false
set_option linter.unusedSimpArgs false
def glb2 (a x:Time):Time:=⟨if x.epoch < a.epoch then x.epoch else a.epoch,(if x.loop.1 < a.loop.1 then x.loop.1 else a.loop.1,if x.loop.2 < a.loop.2 then x.loop.2 else a.loop.2)⟩
def glbL:List Time→Time
 | []=>zeroT
 | x :: l=>l.foldl glb2 x
theorem eqTime_self (a:Time):eqTime a a=true:=by simp [eqTime]
theorem glbL_append {l:List Time} (h:l ≠ []) (x:Time):glbL (l++[x])=glb2 (glbL l) x:=by
 cases l with
 | nil=>exact absurd rfl h
 | cons y l=>simp [glbL,List.foldl_append]
theorem foldLeast_eq (l:List Time):moment_fold__least l=some (glbL l):=by
 unfold moment_fold__least
 rw [rangeN_to (glbL l) (fun i a=>a=glbL (l.take i)) (fun s h=>by rw [h,List.take_length])]
 ·rfl
 ·intro i a hi ha
  refine ⟨_,?_,rfl⟩
  rw [take_succ_getD hi]
  simp only [jn_eq,rangeN,moment_least,Option.bind_some,bf_decide]
  rcases Nat.eq_zero_or_pos i with h0 | h0
  ·subst h0
   generalize l.getD 0 default=x at *
   simp [outK,glbL]
  ·rw [if_neg (by omega),glbL_append (by intro h; have h2:=congrArg List.length h; rw [List.length_take] at h2; simp only [List.length_nil] at h2; omega),← ha]
   generalize l.getD i default=x at *
   simp [outK,glb2]
 ·rfl
theorem mn_eq (a b:Int):(if b < a then b else a)=min a b:=by split <;> omega
theorem lub2_nn {a b:Time} (ha:nnTime a) (hb:nnTime b):nnTime (lub2 a b):=by
 obtain ⟨h1,h2,h3⟩:=ha
 obtain ⟨g1,g2,g3⟩:=hb
 simp only [nnTime,lub2,mx_eq]
 omega
theorem zero_nn:nnTime zeroT:=by simp [nnTime,zeroT]
theorem leT_anti {a b:Time} (h:leT a b=true) (g:leT b a=true):eqTime a b=true:=by
 simp only [leT,eqTime,Bool.and_eq_true,decide_eq_true_eq,Bool.and_true] at *
 omega
theorem glb2_nn {a b:Time} (ha:nnTime a) (hb:nnTime b):nnTime (glb2 a b):=by
 obtain ⟨h1,h2,h3⟩:=ha
 obtain ⟨g1,g2,g3⟩:=hb
 simp only [nnTime,glb2,mn_eq]
 omega
theorem foldl_glb2_nn:∀ (l:List Time) (a:Time),nnTime a→(∀ x ∈ l,nnTime x)→nnTime (l.foldl glb2 a)
 | [],a,ha,_=>ha
 | x :: l,a,ha,h=>foldl_glb2_nn l _ (glb2_nn ha (h x (List.mem_cons_self ..))) fun y hy=>h y (List.mem_cons_of_mem _ hy)
theorem glbL_nn {l:List Time} (hl:∀ x ∈ l,nnTime x):nnTime (glbL l):=by
 cases l with
 | nil=>exact zero_nn
 | cons x l=>exact foldl_glb2_nn l x (hl x (List.mem_cons_self ..)) fun y hy=>hl y (List.mem_cons_of_mem _ hy)
end Go.Av
namespace Go.Av
open Go
set_option linter.unusedVariables false
set_option linter.unusedSimpArgs false
def ltT (x y:Time):Bool:=decide (cmpT x y < 0)
theorem insInner_loop {a fuel:Nat} {B:Int × List Time→Option (Ctl (Int × List Time) Empty)} {j:Nat} {d:Array Time} (hj:j < d.size) (hf:j < fuel)
  (hB:∀ (j:Nat) (d' : Array Time),j < d'.size→d'.size=d.size→B ((j:Int),d'.toList)=if a < j∧ltT d'[j]! d'[j - 1]! = true then some (.next (((j - 1:Nat):Int),(Sort.swp d' j (j - 1)).toList)) else some (.brk ((j:Int),d'.toList))) :
  ∃ x:Int,loopN B fuel ((j:Int),d.toList)=some (.done (x,(Sort.insInner ltT a j d).toList)):=by
 induction j generalizing d fuel with
 | zero =>
  cases fuel with
  | zero=>omega
  | succ fuel =>
   refine ⟨0,loopN_brk (s':=(((0:Nat):Int),d.toList)) ?_⟩
   rw [hB 0 d hj rfl,if_neg (by omega)]
 | succ j ih =>
  cases fuel with
  | zero=>omega
  | succ fuel =>
   have h:=hB (j + 1) d hj rfl
   rw [Nat.add_sub_cancel] at h
   unfold Sort.insInner
   by_cases hc:a < j + 1∧ltT d[j + 1]! d[j]! = true
   ·rw [if_pos hc] at h
    rw [loopN_next h,if_pos (by simp [hc.1,hc.2])]
    exact ih (by rw [swp_sz]; omega) (by omega) (fun k d' h1 h2=>hB k d' h1 (by rw [h2,swp_sz]))
   ·rw [if_neg hc] at h
    rw [loopN_brk h,if_neg (by simpa using hc)]
    exact ⟨_,rfl⟩
theorem insOuter_loop {a b fuel:Nat} {B:Int × List Time→Option (Ctl (Int × List Time) Empty)} {n i:Nat} {d:Array Time} (hn:b - i=n) (hb:b≤d.size) (hf:b - i < fuel)
  (hB:∀ (i:Nat) (d' : Array Time),d'.size=d.size→B ((i:Int),d'.toList)=if i < b then some (.next (((i + 1:Nat):Int),(Sort.insInner ltT a i d').toList)) else some (.brk ((i:Int),d'.toList)))
  (hs:∀ (i:Nat) (d' : Array Time),(Sort.insInner ltT a i d').size=d'.size) :
  ∃ x:Int,loopN B fuel ((i:Int),d.toList)=some (.done (x,(Sort.insOuter ltT a b i d).toList)):=by
 induction n generalizing i d fuel with
 | zero =>
  cases fuel with
  | zero=>omega
  | succ fuel =>
   have h:=hB i d rfl
   rw [if_neg (by omega)] at h
   rw [loopN_brk h,Sort.insOuter,if_neg (by omega)]
   exact ⟨_,rfl⟩
 | succ n ih =>
  cases fuel with
  | zero=>omega
  | succ fuel =>
   have h:=hB i d rfl
   rw [if_pos (by omega)] at h
   rw [loopN_next h,Sort.insOuter,if_pos (by omega)]
   exact ih (by omega) (by rw [hs]; omega) (by omega) (fun k d' h1=>hB k d' (by rw [h1,hs]))
theorem insInner_sz (a:Nat):∀ (j:Nat) (d:Array Time),(Sort.insInner ltT a j d).size=d.size
 | 0,d=>rfl
 | j + 1,d=>by
  unfold Sort.insInner
  split
  ·rw [insInner_sz a j,swp_sz]
  ·rfl
theorem insertion_eq {fuel a b:Nat} {d:Array Time} (hb:b≤d.size) (hd:d.size < 4611686018427387904) (ha:a < 4611686018427387903) (hf:d.size < fuel) :
  slices_insertionSortCmpFunc_Time__Compare_w fuel (a:Int) (b:Int) d.toList=some (Sort.insertionSort ltT d a b).toList:=by
 unfold slices_insertionSortCmpFunc_Time__Compare_w Sort.insertionSort
 rw [wadd1 (by omega)]
 refine outK_ex (insOuter_loop (a:=a) (b:=b) (i:=a + 1) (d:=d) rfl hb (by omega) ?_ (insInner_sz a)) (fun x=>rfl)
 intro i d' hd'
 simp only [bf_decide,intlt]
 by_cases hi:i < b
 ·rw [if_pos hi,if_pos hi]
  refine outK_ex (insInner_loop (a:=a) (j:=i) (d:=d') (by omega) (by omega) ?_) (fun x => ?_)
  ·intro j e hj he
   simp only [jn_eq,bf_decide,intlt]
   by_cases h1:a < j
   ·simp (disch:=omega) only [h1,if_true,wsub1,need_true,Int.toNat_natCast,Nat.zero_add,Array.length_toList,List.length_set,compare_eq,Option.bind_some,arr_get,arr_swp,true_and]
    unfold ltT
    by_cases h2:cmpT e[j]! e[j - 1]! < 0
    ·simp [h2]
    ·simp [h2]
   ·rw [if_neg h1,if_neg (fun h=>h1 h.1)]
    rfl
  ·rw [wadd1 (by omega)]
 ·rw [if_neg hi,if_neg hi]
end Go.Av
namespace Go.Av
open Go
set_option linter.unusedVariables false
set_option linter.unusedSimpArgs false
theorem siftDown_sz (hi first:Nat):∀ (n root:Nat) (d:Array Time),hi - root≤n→(Sort.siftDown ltT hi first root d).size=d.size:=by
 intro n
 induction n with
 | zero =>
  intro root d hn
  rw [Sort.siftDown,dif_pos (by omega)]
 | succ n ih =>
  intro root d hn
  rw [Sort.siftDown]
  split
  ·rfl
  ·split
   ·split
    ·rfl
    ·split
     ·rw [ih _ _ (by omega),swp_sz]
     ·rfl
   ·split
    ·rfl
    ·rw [ih _ _ (by omega),swp_sz]
def siftStep (hi first root:Nat) (d:Array Time):Option Nat :=
 if 2 * root + 1 ≥ hi then none else
  let c:=if 2 * root + 1 + 1 < hi∧ltT d[first + (2 * root + 1)]! d[first + (2 * root + 1) + 1]! = true then 2 * root + 2 else 2 * root + 1
  if ltT d[first + root]! d[first + c]! = true then some c else none
theorem siftDown_step (hi first root:Nat) (d:Array Time):Sort.siftDown ltT hi first root d=match siftStep hi first root d with
  | some c=>Sort.siftDown ltT hi first c (Sort.swp d (first + root) (first + c))
  | none=>d:=by
 rw [Sort.siftDown]
 unfold siftStep
 by_cases h1:2 * root + 1 ≥ hi
 ·rw [dif_pos h1,if_pos h1]
 ·rw [dif_neg h1,if_neg h1]
  by_cases h2:2 * root + 1 + 1 < hi∧ltT d[first + (2 * root + 1)]! d[first + (2 * root + 1) + 1]! = true
  ·rw [if_pos (by simpa using h2)]
   simp only [if_pos h2]
   by_cases h3:ltT d[first + root]! d[first + (2 * root + 2)]! = true
   ·rw [if_neg (by simp [h3]),dif_pos (by omega)]
    simp only [h3,if_true]
   ·rw [if_pos (by simpa using h3)]
    simp only [if_neg h3]
  ·rw [if_neg (by simpa using h2)]
   simp only [if_neg h2]
   by_cases h3:ltT d[first + root]! d[first + (2 * root + 1)]! = true
   ·rw [if_neg (by simp [h3])]
    simp only [h3,if_true]
   ·rw [if_pos (by simpa using h3)]
    simp only [if_neg h3]
theorem siftStep_gt {hi first root c:Nat} {d:Array Time} (h:siftStep hi first root d=some c):root < c∧c < hi:=by
 unfold siftStep at h
 split at h
 ·cases h
 ·dsimp only at h
  generalize hc:(if 2 * root + 1 + 1 < hi∧ltT d[first + (2 * root + 1)]! d[first + (2 * root + 1) + 1]! = true then 2 * root + 2 else 2 * root + 1)=k at h
  have hk:root < k∧k < hi:=by
   split at hc <;> omega
  split at h
  ·cases h; exact hk
  ·cases h
theorem sift_loop {hi first fuel:Nat} {B:Int × List Time→Option (Ctl (Int × List Time) (List Time))} {Q:Type} {kn:Int × List Time→Option Q} {kr:List Time→Option Q} {q:Option Q} {n root:Nat} {d:Array Time}
  (hn:hi - root≤n) (hf:n < fuel) (hsz:first + hi≤d.size)
  (hB:∀ (root:Nat) (d' : Array Time),d'.size=d.size→root≤1152921504606846976→B ((root:Int),d'.toList)=if 2 * root + 1 ≥ hi then some (.brk ((root:Int),d'.toList)) else match siftStep hi first root d' with
   | some c=>some (.next ((c:Int),(Sort.swp d' (first + root) (first + c)).toList))
   | none=>some (.ret d'.toList))
  (hr:root≤1152921504606846976) (hd:d.size≤1152921504606846976) (hkn:∀ x,kn (x,(Sort.siftDown ltT hi first root d).toList)=q) (hkr:kr (Sort.siftDown ltT hi first root d).toList=q) :
  outK (loopN B fuel ((root:Int),d.toList)) kn kr=q:=by
 induction n generalizing root d fuel with
 | zero =>
  cases fuel with
  | zero=>omega
  | succ fuel =>
   have h:=hB root d rfl hr
   have hs:=siftDown_step hi first root d
   have e:siftStep hi first root d=none:=by unfold siftStep; rw [if_pos (by omega)]
   rw [e] at hs
   simp only at hs
   rw [hs] at hkn hkr
   rw [if_pos (by omega)] at h
   rw [loopN_brk h]; exact hkn _
 | succ n ih =>
  cases fuel with
  | zero=>omega
  | succ fuel =>
   have h:=hB root d rfl hr
   have hs:=siftDown_step hi first root d
   cases e:siftStep hi first root d with
   | none =>
    rw [e] at h hs
    simp only at h hs
    rw [hs] at hkn hkr
    split at h
    ·rw [loopN_brk h]; exact hkn _
    ·rw [loopN_ret h]; exact hkr
   | some c =>
    have hc:=siftStep_gt e
    have hlt:¬ 2 * root + 1 ≥ hi:=fun hh=>by unfold siftStep at e; rw [if_pos hh] at e; cases e
    rw [e] at h hs
    rw [if_neg hlt] at h
    simp only at h hs
    rw [hs] at hkn hkr
    rw [loopN_next h]
    exact ih (by omega) (by omega) (by rw [swp_sz]; omega) (fun r d' h1 h2=>hB r d' (by rw [h1,swp_sz]) h2) (by omega) (by rw [swp_sz]; omega) hkn hkr
theorem siftDown_eq {fuel lo hi first:Nat} {d:Array Time} (hsz:first + hi≤d.size) (hd:d.size < 1152921504606846976) (hlo:lo < 1152921504606846976) (hf:d.size < fuel) :
  slices_siftDownCmpFunc_Time__Compare_w fuel (lo:Int) (hi:Int) (first:Int) d.toList=some (Sort.siftDown ltT hi first lo d).toList:=by
 unfold slices_siftDownCmpFunc_Time__Compare_w
 refine sift_loop (hi:=hi) (first:=first) (n:=hi) (by omega) (by omega) hsz ?_ (by omega) (by omega) (fun x=>rfl) rfl
 intro root e he hroot
 have hw1:IntKind.i64.wrap (IntKind.i64.wrap ((2:Int) * (root:Int)) + 1)=((2 * root + 1:Nat):Int):=by rw [wtwo (by omega),wadd1 (by omega)]
 simp only [hw1,bf_decide,jn_eq]
 by_cases h1:2 * root + 1 ≥ hi
 ·rw [if_pos h1,if_pos (by omega)]
 ·rw [if_neg h1,if_neg (by omega)]
  unfold siftStep
  rw [if_neg h1]
  have hw2:IntKind.i64.wrap (((2 * root + 1:Nat):Int) + 1)=((2 * root + 1 + 1:Nat):Int):=wadd1 (by omega)
  have hw3:IntKind.i64.wrap ((first:Int) + ((2 * root + 1:Nat):Int))=((first + (2 * root + 1):Nat):Int):=wadd (by omega)
  have hw4:IntKind.i64.wrap (((first + (2 * root + 1):Nat):Int) + 1)=((first + (2 * root + 1) + 1:Nat):Int):=wadd1 (by omega)
  have hw5:IntKind.i64.wrap ((first:Int) + (root:Int))=((first + root:Nat):Int):=wadd (by omega)
  have hw6:IntKind.i64.wrap ((first:Int) + ((2 * root + 1 + 1:Nat):Int))=((first + (2 * root + 2):Nat):Int):=by rw [wadd (by omega)]
  simp only [hw2,hw3,hw4,hw5,hw6,intlt,Int.toNat_natCast,Nat.zero_add]
  by_cases h2:2 * root + 1 + 1 < hi
  ·rw [if_pos h2]
   simp (disch:=omega) only [need_true,Array.length_toList,compare_eq,Option.bind_some,arr_get]
   by_cases h3:cmpT e[first + (2 * root + 1)]! e[first + (2 * root + 1) + 1]! < 0
   ·have h4:2 * root + 1 + 1 < hi∧ltT e[first + (2 * root + 1)]! e[first + (2 * root + 1) + 1]! = true:=⟨h2,by unfold ltT; simp [h3]⟩
    simp (disch:=omega) only [h3,if_true,if_pos h4,hw6,Int.toNat_natCast,Nat.zero_add,need_true,Array.length_toList,List.length_set,compare_eq,Option.bind_some,arr_get,arr_swp]
    unfold ltT
    by_cases h:cmpT e[first + root]! e[first + (2 * root + 2)]! < 0
    ·simp [h]; omega
    ·simp [h]
   ·have h4:¬ (2 * root + 1 + 1 < hi∧ltT e[first + (2 * root + 1)]! e[first + (2 * root + 1) + 1]! = true):=fun h=>h3 (by have:=h.2; unfold ltT at this; simpa using this)
    simp (disch:=omega) only [h3,if_false,if_neg h4,hw3,Int.toNat_natCast,Nat.zero_add,need_true,Array.length_toList,List.length_set,compare_eq,Option.bind_some,arr_get,arr_swp]
    unfold ltT
    by_cases h:cmpT e[first + root]! e[first + (2 * root + 1)]! < 0
    ·simp [h]
    ·simp [h]
  ·rw [if_neg h2]
   have h4:¬ (2 * root + 1 + 1 < hi∧ltT e[first + (2 * root + 1)]! e[first + (2 * root + 1) + 1]! = true):=fun h=>h2 h.1
   simp (disch:=omega) only [bf_false,if_neg h4,hw3,Int.toNat_natCast,Nat.zero_add,need_true,Array.length_toList,List.length_set,compare_eq,Option.bind_some,arr_get,arr_swp]
   unfold ltT
   by_cases h:cmpT e[first + root]! e[first + (2 * root + 1)]! < 0
   ·simp [h]
   ·simp [h]
end Go.Av
namespace Go.Av
open Go
set_option linter.unusedVariables false
set_option linter.unusedSimpArgs false
theorem sift_sz (hi first root:Nat) (d:Array Time):(Sort.siftDown ltT hi first root d).size=d.size:=siftDown_sz hi first hi root d (by omega)
theorem down_loop {B:Int × List Time→Option (Ctl (Int × List Time) Empty)} (g h:Nat→Array Time→Array Time) {k k0 fuel:Nat} {d:Array Time} (hk:k≤k0) (hg:∀ k d,(g k d).size=d.size) (hf:k < fuel)
  (hB:∀ (k:Nat) (d' : Array Time),k≤k0→d'.size=d.size→B ((k:Int) - 1,d'.toList)=match k with | 0=>some (.brk (-1,d'.toList)) | k + 1=>some (.next ((k:Int) - 1,(g k d').toList)))
  (h0:∀ d,h 0 d=d) (h1:∀ k d,h (k + 1) d=h k (g k d)) :
  ∃ x:Int,loopN B fuel ((k:Int) - 1,d.toList)=some (.done (x,(h k d).toList)):=by
 induction k generalizing d fuel with
 | zero =>
  cases fuel with
  | zero=>omega
  | succ fuel=>exact ⟨-1,by rw [loopN_brk (hB 0 d hk rfl),h0]⟩
 | succ k ih =>
  cases fuel with
  | zero=>omega
  | succ fuel =>
   rw [loopN_next (hB (k + 1) d hk rfl),h1]
   exact ih (by omega) (by omega) (fun k' d' h2 h=>hB k' d' h2 (by rw [h,hg]))
theorem heapBuild_sz (hi first:Nat):∀ (k:Nat) (d:Array Time),(Sort.heapBuild ltT hi first k d).size=d.size
 | 0,d=>rfl
 | k + 1,d=>by unfold Sort.heapBuild; rw [heapBuild_sz hi first k,sift_sz]
theorem heapSort_eq {fuel a b:Nat} {d:Array Time} (hab:a < b) (hb:b≤d.size) (hd:d.size < 1152921504606846976) (hf:d.size + 2 < fuel) :
  slices_heapSortCmpFunc_Time__Compare_w fuel (a:Int) (b:Int) d.toList=some (Sort.heapSort ltT d a b).toList:=by
 unfold slices_heapSortCmpFunc_Time__Compare_w Sort.heapSort
 have e0:IntKind.i64.wrap ((b:Int) - (a:Int))=((b - a:Nat):Int):=wsub (by omega) (by omega)
 have e1:IntKind.i64.wrap (((b - a:Nat):Int) - 1)=(((b - a:Nat):Int) - 1):=wrap_small (by omega) (by omega)
 have e2:IntKind.i64.wrap ((((b - a:Nat):Int) - 1).tdiv 2)=(((b - a - 1) / 2 + 1:Nat):Int) - 1:=by
  rw [Int.tdiv_eq_ediv_of_nonneg (by omega),wrap_small (by omega) (by omega)]; omega
 rw [e0,e1,e2]
 refine outK_ex (down_loop (k0:=(b - a - 1) / 2 + 1) (fun k d=>Sort.siftDown ltT (b - a) a k d) (fun k d=>Sort.heapBuild ltT (b - a) a k d) (Nat.le_refl _) (fun k d=>sift_sz _ _ _ _) (by omega) ?_ (fun d=>rfl) (fun k d=>rfl)) (fun x => ?_)
 ·intro k e hk he
  simp only [bf_decide]
  cases k with
  | zero=>rw [if_neg (by omega)]; rfl
  | succ k =>
   rw [if_pos (by omega),show ((k + 1:Nat):Int) - 1=(k:Int) by omega,siftDown_eq (by omega) (by omega) (by omega) (by omega),Option.bind_some]
   rw [need_true (by rw [Array.length_toList,Array.length_toList,sift_sz]),wrap_i64_in (by unfold in64; omega)]
 ·have hsz:=heapBuild_sz (b - a) a ((b - a - 1) / 2 + 1) d
  simp only
  generalize Sort.heapBuild ltT (b - a) a ((b - a - 1) / 2 + 1) d=d1 at *
  refine outK_ex (down_loop (k0:=b - a) (fun k d=>Sort.siftDown ltT k a 0 (Sort.swp d a (a + k))) (fun k d=>Sort.heapPop ltT a k d) (Nat.le_refl _) (fun k d=>by rw [sift_sz,swp_sz]) (by omega) ?_ (fun d=>rfl) (fun k d=>rfl)) (fun x=>rfl)
  intro k e hk he
  simp only [bf_decide]
  cases k with
  | zero=>rw [if_neg (by omega)]; rfl
  | succ k =>
   rw [if_pos (by omega),show ((k + 1:Nat):Int) - 1=(k:Int) by omega]
   have w1:IntKind.i64.wrap ((a:Int) + (k:Int))=((a + k:Nat):Int):=wadd (by omega)
   have w2:IntKind.i64.wrap ((k:Int) - 1)=(k:Int) - 1:=wrap_i64_in (by unfold in64; omega)
   have hs:=siftDown_eq (fuel:=fuel) (lo:=0) (hi:=k) (first:=a) (d:=Sort.swp e a (a + k)) (by rw [swp_sz]; omega) (by rw [swp_sz]; omega) (by omega) (by rw [swp_sz]; omega)
   rw [show ((0:Nat):Int)=0 from rfl] at hs
   simp (disch:=omega) only [w1,w2,Int.toNat_natCast,Nat.zero_add,need_true,Array.length_toList,List.length_set,arr_get,arr_swp,hs,Option.bind_some,sift_sz,swp_sz]
   rw [need_true trivial]
theorem order2_eq {a b s:Nat} {d:Array Time} (ha:a < d.size) (hb:b < d.size) (hs:s < 1000):slices_order2CmpFunc_Time__Compare_w d.toList (a:Int) (b:Int) (s:Int)=some (((Sort.order2 ltT d a b s).1:Int),((Sort.order2 ltT d a b s).2.1:Int),((Sort.order2 ltT d a b s).2.2:Int)):=by
 unfold slices_order2CmpFunc_Time__Compare_w Sort.order2
 simp (disch:=omega) only [Int.toNat_natCast,need_true,Array.length_toList,compare_eq,Option.bind_some,arr_get,wadd1,bf_decide]
 unfold ltT
 by_cases h:cmpT d[b]! d[a]! < 0
 ·simp [h]
 ·simp [h]
theorem order2_mem2 {a b s:Nat} {d:Array Time}:((Sort.order2 ltT d a b s).1=a∧(Sort.order2 ltT d a b s).2.1=b∨(Sort.order2 ltT d a b s).1=b∧(Sort.order2 ltT d a b s).2.1=a)∧(Sort.order2 ltT d a b s).2.2≤s + 1:=by
 unfold Sort.order2
 split
 ·exact ⟨.inr ⟨rfl,rfl⟩,Nat.le_refl _⟩
 ·exact ⟨.inl ⟨rfl,rfl⟩,Nat.le_succ _⟩
theorem median_eq {a b c s:Nat} {d:Array Time} (ha:a < d.size) (hb:b < d.size) (hc:c < d.size) (hs:s < 900):slices_medianCmpFunc_Time__Compare_w d.toList (a:Int) (b:Int) (c:Int) (s:Int)=some (((Sort.median ltT d a b c s).1:Int),((Sort.median ltT d a b c s).2:Int)):=by
 unfold slices_medianCmpFunc_Time__Compare_w
 have m1:=order2_mem2 (a:=a) (b:=b) (s:=s) (d:=d)
 rw [order2_eq ha hb (by omega),Option.bind_some]
 have e:Sort.median ltT d a b c s=(let r2:=Sort.order2 ltT d (Sort.order2 ltT d a b s).2.1 c (Sort.order2 ltT d a b s).2.2; let r3:=Sort.order2 ltT d (Sort.order2 ltT d a b s).1 r2.1 r2.2.2; (r3.2.1,r3.2.2)):=rfl
 rw [e]
 generalize Sort.order2 ltT d a b s=r1 at *
 have m2:=order2_mem2 (a:=r1.2.1) (b:=c) (s:=r1.2.2) (d:=d)
 simp only
 rw [order2_eq (by omega) hc (by omega),Option.bind_some]
 generalize Sort.order2 ltT d r1.2.1 c r1.2.2=r2 at *
 simp only
 rw [order2_eq (by omega) (by omega) (by omega),Option.bind_some]
theorem median_cnt {a b c s:Nat} {d:Array Time}:(Sort.median ltT d a b c s).2≤s + 3:=by
 have e:Sort.median ltT d a b c s=(let r2:=Sort.order2 ltT d (Sort.order2 ltT d a b s).2.1 c (Sort.order2 ltT d a b s).2.2; let r3:=Sort.order2 ltT d (Sort.order2 ltT d a b s).1 r2.1 r2.2.2; (r3.2.1,r3.2.2)):=rfl
 rw [e]
 have m1:=order2_mem2 (a:=a) (b:=b) (s:=s) (d:=d)
 generalize Sort.order2 ltT d a b s=r1 at *
 have m2:=order2_mem2 (a:=r1.2.1) (b:=c) (s:=r1.2.2) (d:=d)
 simp only
 generalize Sort.order2 ltT d r1.2.1 c r1.2.2=r2 at *
 have m3:=order2_mem2 (a:=r1.1) (b:=r2.1) (s:=r2.2.2) (d:=d)
 omega
theorem medianAdjacent_eq {a s:Nat} {d:Array Time} (h1:1≤a) (ha:a + 1 < d.size) (hd:d.size < 1152921504606846976) (hs:s < 900):slices_medianAdjacentCmpFunc_Time__Compare_w d.toList (a:Int) (s:Int)=some (((Sort.medianAdjacent ltT d a s).1:Int),((Sort.medianAdjacent ltT d a s).2:Int)):=by
 unfold slices_medianAdjacentCmpFunc_Time__Compare_w Sort.medianAdjacent
 rw [wsub1 h1 (by omega),wadd1 (by omega),median_eq (by omega) (by omega) ha hs,Option.bind_some]
def hintN:Sort.Hint→Int
 | .unknown=>0
 | .increasing=>1
 | .decreasing=>2
theorem medianAdjacent_cnt {a s:Nat} {d:Array Time}:(Sort.medianAdjacent ltT d a s).2≤s + 3:=median_cnt
theorem pivot50 {Q : Type} {i j k : Nat} {d : Array Time} (hd : d.size < 1152921504606846976) (hi : 1 ≤ i ∧ i + 1 < d.size) (hj : 1 ≤ j ∧ j + 1 < d.size) (hk : 1 ≤ k ∧ k + 1 < d.size) {K : Int × Int → Option Q} {r1 r2 r3 : Nat × Nat}
    (h1 : Sort.medianAdjacent ltT d i 0 = r1) (h2 : Sort.medianAdjacent ltT d j r1.2 = r2) (h3 : Sort.medianAdjacent ltT d k r2.2 = r3) :
    ((slices_medianAdjacentCmpFunc_Time__Compare_w d.toList (i : Int) 0).bind fun r6 => (slices_medianAdjacentCmpFunc_Time__Compare_w d.toList (j : Int) r6.2).bind fun r7 => (slices_medianAdjacentCmpFunc_Time__Compare_w d.toList (k : Int) r7.2).bind fun r8 => (slices_medianCmpFunc_Time__Compare_w d.toList r6.1 r7.1 r8.1 r8.2).bind K)
      = K (((Sort.median ltT d r1.1 r2.1 r3.1 r3.2).1 : Int), ((Sort.median ltT d r1.1 r2.1 r3.1 r3.2).2 : Int)) ∧ (Sort.median ltT d r1.1 r2.1 r3.1 r3.2).2 < 1000 := by
  have z : ((0 : Nat) : Int) = 0 := rfl
  have q1 := medianAdjacent_eq (a := i) (s := 0) (d := d) hi.1 hi.2 hd (by omega)
  have c1 := medianAdjacent_cnt (a := i) (s := 0) (d := d)
  have p1 := Sort.medianAdjacent_mem ltT d i 0
  rw [z, h1] at q1
  rw [h1] at c1 p1
  have q2 := medianAdjacent_eq (a := j) (s := r1.2) (d := d) hj.1 hj.2 hd (by omega)
  have c2 := medianAdjacent_cnt (a := j) (s := r1.2) (d := d)
  have p2 := Sort.medianAdjacent_mem ltT d j r1.2
  rw [h2] at q2 c2 p2
  have q3 := medianAdjacent_eq (a := k) (s := r2.2) (d := d) hk.1 hk.2 hd (by omega)
  have c3 := medianAdjacent_cnt (a := k) (s := r2.2) (d := d)
  have p3 := Sort.medianAdjacent_mem ltT d k r2.2
  rw [h3] at q3 c3 p3
  have q4 := median_eq (a := r1.1) (b := r2.1) (c := r3.1) (s := r3.2) (d := d) (by omega) (by omega) (by omega) (by omega)
  have c4 := median_cnt (a := r1.1) (b := r2.1) (c := r3.1) (s := r3.2) (d := d)
  rw [q1, Option.bind_some]
  simp only
  rw [q2, Option.bind_some]
  simp only
  rw [q3, Option.bind_some]
  simp only
  rw [q4, Option.bind_some]
  exact ⟨rfl, by omega⟩
theorem pivotFin {r:Nat × Nat}:(if ((r.2:Nat):Int)=0 then some (((r.1:Nat):Int),(1:Int)) else if ((r.2:Nat):Int)=12 then some (((r.1:Nat):Int),2) else some (((r.1:Nat):Int),0))=some (((r.1:Nat):Int),hintN (Sort.hintOf r.2)):=by
 unfold Sort.hintOf
 by_cases h1:r.2=0
 ·rw [if_pos (by omega),if_pos h1]; rfl
 ·rw [if_neg (by omega),if_neg h1]
  by_cases h2:r.2=12
  ·rw [if_pos (by omega),if_pos h2]; rfl
  ·rw [if_neg (by omega),if_neg h2]; rfl
theorem choosePivot_eq {a b:Nat} {d:Array Time} (hab:a < b) (hb:b≤d.size) (hd:d.size < 1152921504606846976) :
  slices_choosePivotCmpFunc_Time__Compare d.toList (a:Int) (b:Int)=some (((Sort.choosePivot ltT d a b).1:Int),hintN (Sort.choosePivot ltT d a b).2):=by
 unfold slices_choosePivotCmpFunc_Time__Compare
 have e0:IntKind.i64.wrap ((b:Int) - (a:Int))=((b - a:Nat):Int):=wsub (by omega) (by omega)
 have e1:IntKind.i64.wrap (((b - a:Nat):Int).tdiv 4)=(((b - a) / 4:Nat):Int):=by rw [Int.tdiv_eq_ediv_of_nonneg (by omega),wrap_small (by omega) (by omega)]; omega
 have m:∀ k:Nat,k≤3→IntKind.i64.wrap ((a:Int) + IntKind.i64.wrap ((((b - a) / 4:Nat):Int) * (k:Int)))=((a + (b - a) / 4 * k:Nat):Int):=fun k hk=>by
  have h1:(b - a) / 4 * k≤b - a:=Nat.le_trans (Nat.mul_le_mul_left _ hk) (by omega)
  have h2:(((b - a) / 4:Nat):Int) * (k:Int)=(((b - a) / 4 * k:Nat):Int):=by rw [Int.natCast_mul]
  have h3:IntKind.i64.wrap (((b - a) / 4 * k:Nat):Int)=(((b - a) / 4 * k:Nat):Int):=wrap_i64_in (by unfold in64; omega)
  rw [h2,h3,wadd (by omega)]
 have m1:=m 1 (by omega)
 have m2:=m 2 (by omega)
 have m3:=m 3 (by omega)
 rw [show ((1:Nat):Int)=1 from rfl] at m1
 rw [show ((2:Nat):Int)=2 from rfl] at m2
 rw [show ((3:Nat):Int)=3 from rfl] at m3
 simp only [e0,e1,m1,m2,m3,jn_eq,bf_decide]
 rw [Sort.choosePivot_eq]
 clear e0 e1 m m1 m2 m3
 have hraw:Sort.rawPivot ltT d a b=if b - a ≥ 8 then (if b - a ≥ 50 then (Sort.median ltT d (Sort.medianAdjacent ltT d (a + (b - a) / 4 * 1) 0).1 (Sort.medianAdjacent ltT d (a + (b - a) / 4 * 2) (Sort.medianAdjacent ltT d (a + (b - a) / 4 * 1) 0).2).1 (Sort.medianAdjacent ltT d (a + (b - a) / 4 * 3) (Sort.medianAdjacent ltT d (a + (b - a) / 4 * 2) (Sort.medianAdjacent ltT d (a + (b - a) / 4 * 1) 0).2).2).1 (Sort.medianAdjacent ltT d (a + (b - a) / 4 * 3) (Sort.medianAdjacent ltT d (a + (b - a) / 4 * 2) (Sort.medianAdjacent ltT d (a + (b - a) / 4 * 1) 0).2).2).2)
   else (Sort.median ltT d (a + (b - a) / 4 * 1) (a + (b - a) / 4 * 2) (a + (b - a) / 4 * 3) 0)) else (a + (b - a) / 4 * 2,0):=rfl
 rw [hraw]
 by_cases h8:b - a ≥ 8
 ·rw [if_pos (by omega),if_pos h8]
  by_cases h50:b - a ≥ 50
  ·rw [if_pos (by omega),if_pos h50]
   obtain ⟨q,_⟩:=pivot50 (d:=d) (i:=a + (b - a) / 4 * 1) (j:=a + (b - a) / 4 * 2) (k:=a + (b - a) / 4 * 3) (K:=fun (a1:Int × Int)=>if a1.2=0 then some (a1.1,(1:Int)) else if a1.2=12 then some (a1.1,2) else some (a1.1,0)) hd (by omega) (by omega) (by omega) rfl rfl rfl
   exact q.trans pivotFin
  ·rw [if_neg (by omega),if_neg h50]
   have z:((0:Nat):Int)=0:=rfl
   have q1:=median_eq (a:=a + (b - a) / 4 * 1) (b:=a + (b - a) / 4 * 2) (c:=a + (b - a) / 4 * 3) (s:=0) (d:=d) (by omega) (by omega) (by omega) (by omega)
   rw [z] at q1
   simp only
   rw [q1,Option.bind_some]
   exact pivotFin
 ·rw [if_neg (by omega),if_neg h8]
  exact pivotFin (r:=(a + (b - a) / 4 * 2,0))
theorem reverse_loop {B:Int × Int × List Time→Option (Ctl (Int × Int × List Time) Empty)} {n i j fuel:Nat} {d:Array Time} (hn:j - i≤n) (hf:n < fuel) (hj:j < d.size)
  (hB:∀ (i j:Nat) (d' : Array Time),d'.size=d.size→j < d.size→B ((i:Int),(j:Int),d'.toList)=if i < j then some (.next (((i + 1:Nat):Int),((j - 1:Nat):Int),(Sort.swp d' i j).toList)) else some (.brk ((i:Int),(j:Int),d'.toList))) :
  ∃ x y:Int,loopN B fuel ((i:Int),(j:Int),d.toList)=some (.done (x,y,(Sort.reverseLoop i j d).toList)):=by
 induction n generalizing i j d fuel with
 | zero =>
  cases fuel with
  | zero=>omega
  | succ fuel =>
   have h:=hB i j d rfl hj
   rw [if_neg (by omega)] at h
   rw [loopN_brk h,Sort.reverseLoop,if_neg (by omega)]
   exact ⟨_,_,rfl⟩
 | succ n ih =>
  cases fuel with
  | zero=>omega
  | succ fuel =>
   have h:=hB i j d rfl hj
   by_cases hij:i < j
   ·rw [if_pos hij] at h
    rw [loopN_next h,Sort.reverseLoop,if_pos hij]
    exact ih (by omega) (by omega) (by rw [swp_sz]; omega) (fun i' j' d' h1 h2=>hB i' j' d' (by rw [h1,swp_sz]) (by rw [swp_sz] at h2; exact h2))
   ·rw [if_neg hij] at h
    rw [loopN_brk h,Sort.reverseLoop,if_neg hij]
    exact ⟨_,_,rfl⟩
theorem outK_ex2 {X Y Z R Q:Type} {o:Option (Out (X × Y × Z) R)} {kn:X × Y × Z→Option Q} {kr:R→Option Q} {r:Z} {q:Option Q} (h:∃ (x:X) (y:Y),o=some (.done (x,y,r))) (hk:∀ x y,kn (x,y,r)=q):outK o kn kr=q:=by
 obtain ⟨x,y,h⟩:=h
 rw [h]
 exact hk x y
theorem reverseRange_eq {fuel a b:Nat} {d:Array Time} (hab:a < b) (hb:b≤d.size) (hd:d.size < 1152921504606846976) (hf:d.size + 2 < fuel) :
  slices_reverseRangeCmpFunc_Time__Compare_w fuel (a:Int) (b:Int) d.toList=some (Sort.reverseRange d a b).toList:=by
 unfold slices_reverseRangeCmpFunc_Time__Compare_w Sort.reverseRange
 rw [wsub1 (by omega) (by omega)]
 refine outK_ex2 (reverse_loop (n:=d.size) (by omega) (by omega) (by omega) ?_) (fun x y=>rfl)
 intro i j e he hj
 simp only [bf_decide,intlt]
 by_cases hij:i < j
 ·rw [if_pos hij,if_pos hij]
  simp (disch:=omega) only [wsub1,wadd1,Int.toNat_natCast,Nat.zero_add,need_true,Array.length_toList,List.length_set,arr_get,arr_swp]
 ·rw [if_neg hij,if_neg hij]
end Go.Av
namespace Go.Av
open Go
set_option linter.unusedVariables false
set_option linter.unusedSimpArgs false
section
variable {α:Type} [Inhabited α]
theorem scanUp_le (p : α → Bool) (d:Array α) (j:Nat):∀ (n i:Nat),j + 1 - i≤n→Sort.scanUp p d j i≤max i (j + 1)∧i≤Sort.scanUp p d j i:=by
 intro n
 induction n with
 | zero =>
  intro i hn
  rw [Sort.scanUp,if_neg (by simp; omega)]
  omega
 | succ n ih =>
  intro i hn
  rw [Sort.scanUp]
  split
  ·rename_i h
   have:i≤j:=by simp at h; exact h.1
   have:=ih (i + 1) (by omega)
   omega
  ·omega
theorem scanDown_le' (p : α → Bool) (d:Array α) (i:Nat):∀ (j:Nat),Sort.scanDown p d i j≤j
 | 0=>Nat.le_refl _
 | j + 1=>by
  unfold Sort.scanDown
  split
  ·have:=scanDown_le' p d i j; omega
  ·omega
theorem scanUp_loop {S R:Type} {B:S→Option (Ctl S R)} (e:Nat→S) (p : α → Bool) (d:Array α) {j:Nat}:∀ (n i fuel:Nat),j + 1 - i≤n→n < fuel→(∀ i',i≤i' → i' ≤ max i (j + 1)→B (e i')=if i' ≤ j∧p d[i']! = true then some (.next (e (i' + 1))) else some (.brk (e i'))) →
  loopN B fuel (e i)=some (.done (e (Sort.scanUp p d j i))):=by
 intro n
 induction n with
 | zero =>
  intro i fuel hn hf hB
  cases fuel with
  | zero=>omega
  | succ fuel =>
   have h:=hB i (Nat.le_refl _) (by omega)
   rw [if_neg (by omega)] at h
   rw [loopN_brk h,Sort.scanUp,if_neg (by simp; omega)]
 | succ n ih =>
  intro i fuel hn hf hB
  cases fuel with
  | zero=>omega
  | succ fuel =>
   have h:=hB i (Nat.le_refl _) (by omega)
   by_cases hc:i≤j∧p d[i]! = true
   ·rw [if_pos hc] at h
    rw [loopN_next h,Sort.scanUp,if_pos (by simpa using hc)]
    exact ih (i + 1) fuel (by omega) (by omega) (fun i' h1 h2=>hB i' (by omega) (by omega))
   ·rw [if_neg hc] at h
    rw [loopN_brk h,Sort.scanUp,if_neg (by simpa using hc)]
theorem scanDown_loop {S R:Type} {B:S→Option (Ctl S R)} (e:Nat→S) (p : α → Bool) (d:Array α) {i:Nat} (hi:1≤i):∀ (j fuel:Nat),j < fuel→(∀ j',j' ≤ j→B (e j')=if i≤j' ∧ p d[j']! = true then some (.next (e (j' - 1))) else some (.brk (e j'))) →
  loopN B fuel (e j)=some (.done (e (Sort.scanDown p d i j))):=by
 intro j
 induction j with
 | zero =>
  intro fuel hf hB
  cases fuel with
  | zero=>omega
  | succ fuel =>
   have h:=hB 0 (Nat.le_refl _)
   rw [if_neg (by omega)] at h
   rw [loopN_brk h]; rfl
 | succ j ih =>
  intro fuel hf hB
  cases fuel with
  | zero=>omega
  | succ fuel =>
   have h:=hB (j + 1) (Nat.le_refl _)
   unfold Sort.scanDown
   by_cases hc:i≤j + 1∧p d[j + 1]! = true
   ·rw [if_pos hc] at h
    rw [loopN_next h,if_pos (by simpa using hc)]
    exact ih fuel (by omega) (fun j' h1=>hB j' (by omega))
   ·rw [if_neg hc] at h
    rw [loopN_brk h,if_neg (by simpa using hc)]
end
theorem partLoop_unf (a i j:Nat) (d:Array Time):Sort.partLoop ltT a i j d =
  if Sort.scanUp (fun x=>ltT x d[a]!) d j i > Sort.scanDown (fun x => !ltT x d[a]!) d (Sort.scanUp (fun x=>ltT x d[a]!) d j i) j then (Sort.scanDown (fun x => !ltT x d[a]!) d (Sort.scanUp (fun x=>ltT x d[a]!) d j i) j,d)
  else Sort.partLoop ltT a (Sort.scanUp (fun x=>ltT x d[a]!) d j i + 1) (Sort.scanDown (fun x => !ltT x d[a]!) d (Sort.scanUp (fun x=>ltT x d[a]!) d j i) j - 1) (Sort.swp d (Sort.scanUp (fun x=>ltT x d[a]!) d j i) (Sort.scanDown (fun x => !ltT x d[a]!) d (Sort.scanUp (fun x=>ltT x d[a]!) d j i) j)):=Sort.partLoop_eq ltT a i j d
theorem partEqLoop_unf (a i j:Nat) (d:Array Time):Sort.partEqLoop ltT a i j d =
  if Sort.scanUp (fun x => !ltT d[a]! x) d j i > Sort.scanDown (fun x=>ltT d[a]! x) d (Sort.scanUp (fun x => !ltT d[a]! x) d j i) j then (Sort.scanUp (fun x => !ltT d[a]! x) d j i,d)
  else Sort.partEqLoop ltT a (Sort.scanUp (fun x => !ltT d[a]! x) d j i + 1) (Sort.scanDown (fun x=>ltT d[a]! x) d (Sort.scanUp (fun x => !ltT d[a]! x) d j i) j - 1) (Sort.swp d (Sort.scanUp (fun x => !ltT d[a]! x) d j i) (Sort.scanDown (fun x=>ltT d[a]! x) d (Sort.scanUp (fun x => !ltT d[a]! x) d j i) j)):=Sort.partEqLoop_eq ltT a i j d
theorem part_loop {B:Int × Int × List Time→Option (Ctl (Int × Int × List Time) Empty)} {a:Nat}:∀ (n i j fuel:Nat) (d:Array Time),j + 1 - i≤n→n < fuel→1≤i→i≤d.size→j < d.size →
  (∀ (i j:Nat) (d' : Array Time),d'.size=d.size→1≤i→i≤d.size→j < d.size→B ((i:Int),(j:Int),d'.toList) =
   if Sort.scanUp (fun x=>ltT x d'[a]!) d' j i > Sort.scanDown (fun x => !ltT x d'[a]!) d' (Sort.scanUp (fun x=>ltT x d'[a]!) d' j i) j
   then some (.brk (((Sort.scanUp (fun x=>ltT x d'[a]!) d' j i:Nat):Int),((Sort.scanDown (fun x => !ltT x d'[a]!) d' (Sort.scanUp (fun x=>ltT x d'[a]!) d' j i) j:Nat):Int),d'.toList))
   else some (.next (((Sort.scanUp (fun x=>ltT x d'[a]!) d' j i + 1:Nat):Int),((Sort.scanDown (fun x => !ltT x d'[a]!) d' (Sort.scanUp (fun x=>ltT x d'[a]!) d' j i) j - 1:Nat):Int),(Sort.swp d' (Sort.scanUp (fun x=>ltT x d'[a]!) d' j i) (Sort.scanDown (fun x => !ltT x d'[a]!) d' (Sort.scanUp (fun x=>ltT x d'[a]!) d' j i) j)).toList))) →
  ∃ x:Int,loopN B fuel ((i:Int),(j:Int),d.toList)=some (.done (x,((Sort.partLoop ltT a i j d).1:Int),(Sort.partLoop ltT a i j d).2.toList)):=by
 intro n
 induction n with
 | zero =>
  intro i j fuel d hn hf hi hi2 hj hB
  cases fuel with
  | zero=>omega
  | succ fuel =>
   have h:=hB i j d rfl hi hi2 hj
   have u:=(scanUp_le (fun x=>ltT x d[a]!) d j _ i (Nat.le_refl _))
   have v:=scanDown_le' (fun x => !ltT x d[a]!) d (Sort.scanUp (fun x=>ltT x d[a]!) d j i) j
   rw [if_pos (by omega)] at h
   rw [loopN_brk h,partLoop_unf,if_pos (by omega)]
   exact ⟨_,rfl⟩
 | succ n ih =>
  intro i j fuel d hn hf hi hi2 hj hB
  cases fuel with
  | zero=>omega
  | succ fuel =>
   have h:=hB i j d rfl hi hi2 hj
   have u:=(scanUp_le (fun x=>ltT x d[a]!) d j _ i (Nat.le_refl _))
   have v:=scanDown_le' (fun x => !ltT x d[a]!) d (Sort.scanUp (fun x=>ltT x d[a]!) d j i) j
   rw [partLoop_unf]
   generalize Sort.scanUp (fun x=>ltT x d[a]!) d j i=i2 at *
   generalize Sort.scanDown (fun x => !ltT x d[a]!) d i2 j=j2 at *
   by_cases hc:i2 > j2
   ·rw [if_pos hc] at h
    rw [loopN_brk h,if_pos hc]
    exact ⟨_,rfl⟩
   ·rw [if_neg hc] at h
    rw [loopN_next h,if_neg hc]
    exact ih _ _ _ _ (by omega) (by omega) (by omega) (by rw [swp_sz]; omega) (by rw [swp_sz]; omega) (fun i' j' d' h1 h2 h3 h4=>hB i' j' d' (by rw [h1,swp_sz]) h2 (by rw [swp_sz] at h3; exact h3) (by rw [swp_sz] at h4; exact h4))
theorem partEq_loop {B:Int × Int × List Time→Option (Ctl (Int × Int × List Time) Empty)} {a:Nat}:∀ (n i j fuel:Nat) (d:Array Time),j + 1 - i≤n→n < fuel→1≤i→i≤d.size→j < d.size →
  (∀ (i j:Nat) (d' : Array Time),d'.size=d.size→1≤i→i≤d.size→j < d.size→B ((i:Int),(j:Int),d'.toList) =
   if Sort.scanUp (fun x => !ltT d'[a]! x) d' j i > Sort.scanDown (fun x=>ltT d'[a]! x) d' (Sort.scanUp (fun x => !ltT d'[a]! x) d' j i) j
   then some (.brk (((Sort.scanUp (fun x => !ltT d'[a]! x) d' j i:Nat):Int),((Sort.scanDown (fun x=>ltT d'[a]! x) d' (Sort.scanUp (fun x => !ltT d'[a]! x) d' j i) j:Nat):Int),d'.toList))
   else some (.next (((Sort.scanUp (fun x => !ltT d'[a]! x) d' j i + 1:Nat):Int),((Sort.scanDown (fun x=>ltT d'[a]! x) d' (Sort.scanUp (fun x => !ltT d'[a]! x) d' j i) j - 1:Nat):Int),(Sort.swp d' (Sort.scanUp (fun x => !ltT d'[a]! x) d' j i) (Sort.scanDown (fun x=>ltT d'[a]! x) d' (Sort.scanUp (fun x => !ltT d'[a]! x) d' j i) j)).toList))) →
  ∃ x:Int,loopN B fuel ((i:Int),(j:Int),d.toList)=some (.done (((Sort.partEqLoop ltT a i j d).1:Int),x,(Sort.partEqLoop ltT a i j d).2.toList)):=by
 intro n
 induction n with
 | zero =>
  intro i j fuel d hn hf hi hi2 hj hB
  cases fuel with
  | zero=>omega
  | succ fuel =>
   have h:=hB i j d rfl hi hi2 hj
   have u:=(scanUp_le (fun x => !ltT d[a]! x) d j _ i (Nat.le_refl _))
   have v:=scanDown_le' (fun x=>ltT d[a]! x) d (Sort.scanUp (fun x => !ltT d[a]! x) d j i) j
   rw [if_pos (by omega)] at h
   rw [loopN_brk h,partEqLoop_unf,if_pos (by omega)]
   exact ⟨_,rfl⟩
 | succ n ih =>
  intro i j fuel d hn hf hi hi2 hj hB
  cases fuel with
  | zero=>omega
  | succ fuel =>
   have h:=hB i j d rfl hi hi2 hj
   have u:=(scanUp_le (fun x => !ltT d[a]! x) d j _ i (Nat.le_refl _))
   have v:=scanDown_le' (fun x=>ltT d[a]! x) d (Sort.scanUp (fun x => !ltT d[a]! x) d j i) j
   rw [partEqLoop_unf]
   generalize Sort.scanUp (fun x => !ltT d[a]! x) d j i=i2 at *
   generalize Sort.scanDown (fun x=>ltT d[a]! x) d i2 j=j2 at *
   by_cases hc:i2 > j2
   ·rw [if_pos hc] at h
    rw [loopN_brk h,if_pos hc]
    exact ⟨_,rfl⟩
   ·rw [if_neg hc] at h
    rw [loopN_next h,if_neg hc]
    exact ih _ _ _ _ (by omega) (by omega) (by omega) (by rw [swp_sz]; omega) (by rw [swp_sz]; omega) (fun i' j' d' h1 h2 h3 h4=>hB i' j' d' (by rw [h1,swp_sz]) h2 (by rw [swp_sz] at h3; exact h3) (by rw [swp_sz] at h4; exact h4))
theorem outK_exA {X Y Z R Q:Type} {o:Option (Out (X × Y × Z) R)} {kn:X × Y × Z→Option Q} {kr:R→Option Q} {y:Y} {z:Z} {q:Option Q} (h:∃ x:X,o=some (.done (x,y,z))) (hk:∀ x,kn (x,y,z)=q):outK o kn kr=q:=by
 obtain ⟨x,h⟩:=h
 rw [h]
 exact hk x
theorem outK_exB {X Y Z R Q:Type} {o:Option (Out (X × Y × Z) R)} {kn:X × Y × Z→Option Q} {kr:R→Option Q} {x:X} {z:Z} {q:Option Q} (h:∃ y:Y,o=some (.done (x,y,z))) (hk:∀ y,kn (x,y,z)=q):outK o kn kr=q:=by
 obtain ⟨y,h⟩:=h
 rw [h]
 exact hk y
theorem partitionEqual_eq {fuel a b pivot:Nat} {d:Array Time} (hp:a≤pivot∧pivot < b) (hab:a + 1 < b) (hb:b≤d.size) (hd:d.size < 1152921504606846976) (hf:d.size + 2 < fuel) :
  slices_partitionEqualCmpFunc_Time__Compare_w fuel (a:Int) (b:Int) (pivot:Int) d.toList=some (((Sort.partitionEqual ltT d a b pivot).1:Int),(Sort.partitionEqual ltT d a b pivot).2.toList):=by
 unfold slices_partitionEqualCmpFunc_Time__Compare_w Sort.partitionEqual
 have w1:IntKind.i64.wrap ((a:Int) + 1)=((a + 1:Nat):Int):=wadd1 (by omega)
 have w2:IntKind.i64.wrap ((b:Int) - 1)=((b - 1:Nat):Int):=wsub1 (by omega) (by omega)
 rw [w1,w2]
 simp only [Int.toNat_natCast,Nat.zero_add,Array.length_toList,List.length_set,arr_get,arr_swp]
 rw [need_true (by omega),need_true (by omega),need_true (by omega),need_true (by omega),need_true (by omega),need_true (by omega),need_true (by omega),need_true (by omega)]
 have hsz:=swp_sz d a pivot
 generalize Sort.swp d a pivot=d1 at *
 refine outK_exB (partEq_loop (a:=a) d1.size (a + 1) (b - 1) fuel d1 (by omega) (by omega) (by omega) (by omega) (by omega) ?_) (fun x=>rfl)
 intro i j e he hi hi2 hj
 simp only
 have u:=(scanUp_le (fun x => !ltT e[a]! x) e j _ i (Nat.le_refl _))
 have v:=scanDown_le' (fun x=>ltT e[a]! x) e (Sort.scanUp (fun x => !ltT e[a]! x) e j i) j
 rw [scanUp_loop (R:=Empty) (fun i:Nat=>(i:Int)) (fun x => !ltT e[a]! x) e (j:=j) d1.size i fuel (by omega) (by omega) (fun k h1 h2 => ?_)]
 ·simp only [outK_done]
  generalize Sort.scanUp (fun x => !ltT e[a]! x) e j i=i2 at *
  rw [scanDown_loop (R:=Empty) (fun i:Nat=>(i:Int)) (fun x=>ltT e[a]! x) e (i:=i2) (by omega) j fuel (by omega) (fun k h1 => ?_)]
  ·simp only [outK_done,bf_decide,intlt,gt_iff_lt]
   generalize Sort.scanDown (fun x=>ltT e[a]! x) e i2 j=j2 at *
   by_cases hc:j2 < i2
   ·rw [if_pos hc,if_pos hc]
   ·rw [if_neg hc,if_neg hc]
    simp (disch:=omega) only [wsub1,wadd1,Int.toNat_natCast,Nat.zero_add,need_true,Array.length_toList,List.length_set,arr_get,arr_swp]
  ·simp only [jn_eq,bf_decide,intle]
   by_cases hc:i2≤k
   ·rw [if_pos hc]
    simp (disch:=omega) only [wsub1,Int.toNat_natCast,Nat.zero_add,need_true,Array.length_toList,compare_eq,Option.bind_some,arr_get,bf_decide,hc,true_and]
    unfold ltT
    by_cases h:cmpT e[a]! e[k]! < 0
    ·simp [h]
    ·simp [h]
   ·rw [if_neg hc,if_neg (fun h=>hc h.1),bf_false]
 ·simp only [jn_eq,bf_decide,intle]
  by_cases hc:k≤j
  ·rw [if_pos hc]
   simp (disch:=omega) only [wadd1,Int.toNat_natCast,Nat.zero_add,need_true,Array.length_toList,compare_eq,Option.bind_some,arr_get,hc,true_and]
   unfold ltT
   by_cases h:cmpT e[a]! e[k]! < 0
   ·simp [h]
   ·simp [h]
  ·rw [if_neg hc,if_neg (fun h=>hc h.1),bf_false]
theorem partLoop_fact {a:Nat}:∀ (n i j:Nat) (d:Array Time),j + 1 - i≤n→1≤i→i≤d.size→j < d.size→(Sort.partLoop ltT a i j d).1≤j∧(Sort.partLoop ltT a i j d).2.size=d.size:=by
 intro n
 induction n with
 | zero =>
  intro i j d hn hi hi2 hj
  have u:=(scanUp_le (fun x=>ltT x d[a]!) d j _ i (Nat.le_refl _))
  have v:=scanDown_le' (fun x => !ltT x d[a]!) d (Sort.scanUp (fun x=>ltT x d[a]!) d j i) j
  rw [partLoop_unf,if_pos (by omega)]
  exact ⟨v,rfl⟩
 | succ n ih =>
  intro i j d hn hi hi2 hj
  have u:=(scanUp_le (fun x=>ltT x d[a]!) d j _ i (Nat.le_refl _))
  have v:=scanDown_le' (fun x => !ltT x d[a]!) d (Sort.scanUp (fun x=>ltT x d[a]!) d j i) j
  rw [partLoop_unf]
  generalize Sort.scanUp (fun x=>ltT x d[a]!) d j i=i2 at *
  generalize Sort.scanDown (fun x => !ltT x d[a]!) d i2 j=j2 at *
  by_cases hc:i2 > j2
  ·rw [if_pos hc]; exact ⟨v,rfl⟩
  ·rw [if_neg hc]
   have:=ih (i2 + 1) (j2 - 1) (Sort.swp d i2 j2) (by omega) (by omega) (by rw [swp_sz]; omega) (by rw [swp_sz]; omega)
   rw [swp_sz] at this
   omega
theorem partition_eq {fuel a b pivot:Nat} {d:Array Time} (hp:a≤pivot∧pivot < b) (hab:a + 1 < b) (hb:b≤d.size) (hd:d.size < 1152921504606846976) (hf:d.size + 2 < fuel) :
  slices_partitionCmpFunc_Time__Compare_w fuel (a:Int) (b:Int) (pivot:Int) d.toList=some (((Sort.partition ltT d a b pivot).1:Int),(Sort.partition ltT d a b pivot).2.1,(Sort.partition ltT d a b pivot).2.2.toList):=by
 unfold slices_partitionCmpFunc_Time__Compare_w Sort.partition
 have w1:IntKind.i64.wrap ((a:Int) + 1)=((a + 1:Nat):Int):=wadd1 (by omega)
 have w2:IntKind.i64.wrap ((b:Int) - 1)=((b - 1:Nat):Int):=wsub1 (by omega) (by omega)
 rw [w1,w2]
 simp only [Int.toNat_natCast,Nat.zero_add,Array.length_toList,List.length_set,arr_get,arr_swp]
 rw [need_true (by omega),need_true (by omega),need_true (by omega),need_true (by omega),need_true (by omega),need_true (by omega),need_true (by omega),need_true (by omega)]
 have hsz:=swp_sz d a pivot
 generalize Sort.swp d a pivot=e at *
 have u:=(scanUp_le (fun x=>ltT x e[a]!) e (b - 1) _ (a + 1) (Nat.le_refl _))
 have v:=scanDown_le' (fun x => !ltT x e[a]!) e (Sort.scanUp (fun x=>ltT x e[a]!) e (b - 1) (a + 1)) (b - 1)
 rw [scanUp_loop (R:=Empty) (fun i:Nat=>((i:Int),((b - 1:Nat):Int))) (fun x=>ltT x e[a]!) e (j:=b - 1) e.size (a + 1) fuel (by omega) (by omega) (fun k h1 h2 => ?_)]
 ·simp only [outK_done]
  generalize Sort.scanUp (fun x=>ltT x e[a]!) e (b - 1) (a + 1)=i2 at *
  rw [scanDown_loop (R:=Empty) (fun i:Nat=>(i:Int)) (fun x => !ltT x e[a]!) e (i:=i2) (by omega) (b - 1) fuel (by omega) (fun k h1 => ?_)]
  ·simp only [outK_done,bf_decide,intlt,gt_iff_lt]
   generalize Sort.scanDown (fun x => !ltT x e[a]!) e i2 (b - 1)=j2 at *
   by_cases hc:j2 < i2
   ·rw [if_pos hc,if_pos hc]
    simp (disch:=omega) only [Int.toNat_natCast,Nat.zero_add,need_true,Array.length_toList,List.length_set,arr_get,arr_swp]
   ·rw [if_neg hc,if_neg hc]
    have w3:IntKind.i64.wrap ((i2:Int) + 1)=((i2 + 1:Nat):Int):=wadd1 (by omega)
    have w4:IntKind.i64.wrap ((j2:Int) - 1)=((j2 - 1:Nat):Int):=wsub1 (by omega) (by omega)
    rw [w3,w4]
    simp only [Int.toNat_natCast,Nat.zero_add,Array.length_toList,List.length_set,arr_get,arr_swp]
    rw [need_true (by omega),need_true (by omega),need_true (by omega),need_true (by omega),need_true (by omega),need_true (by omega),need_true (by omega),need_true (by omega)]
    have hsz2:=swp_sz e i2 j2
    generalize Sort.swp e i2 j2=f at *
    refine outK_exA (part_loop (a:=a) f.size (i2 + 1) (j2 - 1) fuel f (by omega) (by omega) (by omega) (by omega) (by omega) ?_) (fun x => ?_)
    ·intro i j g he hi hi2 hj
     simp only
     have u:=(scanUp_le (fun x=>ltT x g[a]!) g j _ i (Nat.le_refl _))
     have v:=scanDown_le' (fun x => !ltT x g[a]!) g (Sort.scanUp (fun x=>ltT x g[a]!) g j i) j
     rw [scanUp_loop (R:=Empty) (fun i:Nat=>(i:Int)) (fun x=>ltT x g[a]!) g (j:=j) f.size i fuel (by omega) (by omega) (fun k h1 h2 => ?_)]
     ·simp only [outK_done]
      generalize Sort.scanUp (fun x=>ltT x g[a]!) g j i=i3 at *
      rw [scanDown_loop (R:=Empty) (fun i:Nat=>(i:Int)) (fun x => !ltT x g[a]!) g (i:=i3) (by omega) j fuel (by omega) (fun k h1 => ?_)]
      ·simp only [outK_done,bf_decide,intlt,gt_iff_lt]
       generalize Sort.scanDown (fun x => !ltT x g[a]!) g i3 j=j3 at *
       by_cases hc:j3 < i3
       ·rw [if_pos hc,if_pos hc]
       ·rw [if_neg hc,if_neg hc]
        simp (disch:=omega) only [wsub1,wadd1,Int.toNat_natCast,Nat.zero_add,need_true,Array.length_toList,List.length_set,arr_get,arr_swp]
      ·simp only [jn_eq,bf_decide,intle]
       by_cases hc:i3≤k
       ·rw [if_pos hc]
        simp (disch:=omega) only [wsub1,Int.toNat_natCast,Nat.zero_add,need_true,Array.length_toList,compare_eq,Option.bind_some,arr_get,bf_decide,hc,true_and]
        unfold ltT
        by_cases h:cmpT g[k]! g[a]! < 0
        ·simp [h]
        ·simp [h]
       ·rw [if_neg hc,if_neg (fun h=>hc h.1),bf_false]
     ·simp only [jn_eq,bf_decide,intle]
      by_cases hc:k≤j
      ·rw [if_pos hc]
       simp (disch:=omega) only [wadd1,Int.toNat_natCast,Nat.zero_add,need_true,Array.length_toList,compare_eq,Option.bind_some,arr_get,hc,true_and]
       unfold ltT
       by_cases h:cmpT g[k]! g[a]! < 0
       ·simp [h]
       ·simp [h]
      ·rw [if_neg hc,if_neg (fun h=>hc h.1),bf_false]
    ·have hl:=partLoop_fact (a:=a) f.size (i2 + 1) (j2 - 1) f (by omega) (by omega) (by omega) (by omega)
     generalize Sort.partLoop ltT a (i2 + 1) (j2 - 1) f=r at *
     simp (disch:=omega) only [Int.toNat_natCast,Nat.zero_add,need_true,Array.length_toList,List.length_set,arr_get,arr_swp]
  ·simp only [jn_eq,bf_decide,intle]
   by_cases hc:i2≤k
   ·rw [if_pos hc]
    simp (disch:=omega) only [wsub1,Int.toNat_natCast,Nat.zero_add,need_true,Array.length_toList,compare_eq,Option.bind_some,arr_get,bf_decide,hc,true_and]
    unfold ltT
    by_cases h:cmpT e[k]! e[a]! < 0
    ·simp [h]
    ·simp [h]
   ·rw [if_neg hc,if_neg (fun h=>hc h.1),bf_false]
 ·simp only [jn_eq,bf_decide,intle]
  by_cases hc:k≤b - 1
  ·rw [if_pos hc]
   simp (disch:=omega) only [wadd1,Int.toNat_natCast,Nat.zero_add,need_true,Array.length_toList,compare_eq,Option.bind_some,arr_get,hc,true_and]
   unfold ltT
   by_cases h:cmpT e[k]! e[a]! < 0
   ·simp [h]
   ·simp [h]
  ·rw [if_neg hc,if_neg (fun h=>hc h.1),bf_false]
end Go.Av
namespace Go.Av
open Go
set_option linter.unusedVariables false
set_option linter.unusedSimpArgs false
theorem shiftDown_sz:∀ (j:Nat) (d:Array Time),(Sort.shiftDown ltT j d).size=d.size
 | 0,d=>rfl
 | j + 1,d=>by
  unfold Sort.shiftDown
  split
  ·rfl
  ·rw [shiftDown_sz j,swp_sz]
theorem shiftDown_loop {B:Int × List Time→Option (Ctl (Int × List Time) Empty)}:∀ (j fuel:Nat) (d:Array Time),j < fuel→j < d.size →
  (∀ (j:Nat) (d' : Array Time),d'.size=d.size→j < d.size→B ((j:Int),d'.toList)=if 1≤j∧ltT d'[j]! d'[j - 1]! = true then some (.next (((j - 1:Nat):Int),(Sort.swp d' j (j - 1)).toList)) else some (.brk ((j:Int),d'.toList))) →
  ∃ x:Int,loopN B fuel ((j:Int),d.toList)=some (.done (x,(Sort.shiftDown ltT j d).toList)):=by
 intro j
 induction j with
 | zero =>
  intro fuel d hf hj hB
  cases fuel with
  | zero=>omega
  | succ fuel =>
   have h:=hB 0 d rfl hj
   rw [if_neg (by omega)] at h
   rw [loopN_brk h]
   exact ⟨_,rfl⟩
 | succ j ih =>
  intro fuel d hf hj hB
  cases fuel with
  | zero=>omega
  | succ fuel =>
   have h:=hB (j + 1) d rfl hj
   rw [Nat.add_sub_cancel] at h
   unfold Sort.shiftDown
   by_cases hc:ltT d[j + 1]! d[j]! = true
   ·rw [if_pos ⟨by omega,hc⟩] at h
    rw [loopN_next h,if_neg (by simp [hc])]
    exact ih fuel _ (by omega) (by rw [swp_sz]; omega) (fun j' d' h1 h2=>hB j' d' (by rw [h1,swp_sz]) (by rw [swp_sz] at h2; exact h2))
   ·rw [if_neg (fun h=>hc h.2)] at h
    rw [loopN_brk h,if_pos (by simpa using hc)]
    exact ⟨_,rfl⟩
theorem shiftUp_sz (b:Nat):∀ (n j:Nat) (d:Array Time),b - j≤n→(Sort.shiftUp ltT b j d).size=d.size:=by
 intro n
 induction n with
 | zero=>intro j d hn; rw [Sort.shiftUp,if_neg (by omega)]
 | succ n ih =>
  intro j d hn
  rw [Sort.shiftUp]
  split
  ·split
   ·rfl
   ·rw [ih _ _ (by omega),swp_sz]
  ·rfl
theorem shiftUp_loop {B:Int × List Time→Option (Ctl (Int × List Time) Empty)} {b:Nat}:∀ (n j fuel:Nat) (d:Array Time),b - j≤n→n < fuel→1≤j→b≤d.size →
  (∀ (j:Nat) (d' : Array Time),d'.size=d.size→1≤j→B ((j:Int),d'.toList)=if j < b∧ltT d'[j]! d'[j - 1]! = true then some (.next (((j + 1:Nat):Int),(Sort.swp d' j (j - 1)).toList)) else some (.brk ((j:Int),d'.toList))) →
  ∃ x:Int,loopN B fuel ((j:Int),d.toList)=some (.done (x,(Sort.shiftUp ltT b j d).toList)):=by
 intro n
 induction n with
 | zero =>
  intro j fuel d hn hf hj hb hB
  cases fuel with
  | zero=>omega
  | succ fuel =>
   have h:=hB j d rfl hj
   rw [if_neg (by omega)] at h
   rw [loopN_brk h,Sort.shiftUp,if_neg (by omega)]
   exact ⟨_,rfl⟩
 | succ n ih =>
  intro j fuel d hn hf hj hb hB
  cases fuel with
  | zero=>omega
  | succ fuel =>
   have h:=hB j d rfl hj
   rw [Sort.shiftUp]
   by_cases hjb:j < b
   ·rw [if_pos hjb]
    by_cases hc:ltT d[j]! d[j - 1]! = true
    ·rw [if_pos ⟨hjb,hc⟩] at h
     rw [loopN_next h,if_neg (by simp [hc])]
     exact ih _ fuel _ (by omega) (by omega) (by omega) (by rw [swp_sz]; omega) (fun j' d' h1 h2=>hB j' d' (by rw [h1,swp_sz]) h2)
    ·rw [if_neg (fun h=>hc h.2)] at h
     rw [loopN_brk h,if_pos (by simpa using hc)]
     exact ⟨_,rfl⟩
   ·rw [if_neg (fun h=>hjb h.1)] at h
    rw [loopN_brk h,if_neg hjb]
    exact ⟨_,rfl⟩
theorem scanSorted_loop {B:Int→Option (Ctl Int Empty)} {b:Nat} {d:Array Time}:∀ (n i fuel:Nat),b - i≤n→n < fuel→1≤i →
  (∀ (i' : Nat),i≤i' → B (i' : Int)=if i' < b∧ltT d[i']! d[i' - 1]! = false then some (.next ((i' + 1:Nat):Int)) else some (.brk (i' : Int))) →
  loopN B fuel (i:Int)=some (.done ((Sort.scanSorted ltT d b i:Nat):Int))∧i≤Sort.scanSorted ltT d b i∧(i≤b→Sort.scanSorted ltT d b i≤b):=by
 intro n
 induction n with
 | zero =>
  intro i fuel hn hf hi hB
  cases fuel with
  | zero=>omega
  | succ fuel =>
   have h:=hB i (Nat.le_refl _)
   rw [if_neg (by omega)] at h
   rw [loopN_brk h,Sort.scanSorted,if_neg (by simp; omega)]
   exact ⟨rfl,Nat.le_refl _,fun h=>h⟩
 | succ n ih =>
  intro i fuel hn hf hi hB
  cases fuel with
  | zero=>omega
  | succ fuel =>
   have h:=hB i (Nat.le_refl _)
   rw [Sort.scanSorted]
   by_cases hc:i < b∧ltT d[i]! d[i - 1]! = false
   ·rw [if_pos hc] at h
    rw [loopN_next h,if_pos (by simpa using hc)]
    obtain ⟨h1,h2,h3⟩:=ih (i + 1) fuel (by omega) (by omega) (by omega) (fun i' h=>hB i' (by omega))
    exact ⟨h1,by omega,fun h=>h3 (by omega)⟩
   ·rw [if_neg hc] at h
    rw [loopN_brk h,if_neg (by simpa using hc)]
    exact ⟨rfl,Nat.le_refl _,fun h=>h⟩
def pisStep (a b i:Nat) (d:Array Time):Array Time :=
 let d:=Sort.swp d i (i - 1)
 let d:=if i - a ≥ 2 then Sort.shiftDown ltT (i - 1) d else d
 if b - i ≥ 2 then Sort.shiftUp ltT b (i + 1) d else d
theorem pisStep_sz (a b i:Nat) (d:Array Time):(pisStep a b i d).size=d.size:=by
 unfold pisStep
 dsimp only
 split <;> split <;> simp [shiftUp_sz b b _ _ (Nat.sub_le _ _),shiftDown_sz,swp_sz]
theorem partialIns_unf (a b s i:Nat) (d:Array Time):Sort.partialIns ltT a b (s + 1) i d =
  if Sort.scanSorted ltT d b i=b then (d,true) else if b - a < 50 then (d,false) else Sort.partialIns ltT a b s (Sort.scanSorted ltT d b i) (pisStep a b (Sort.scanSorted ltT d b i) d):=rfl
theorem pis_loop {B:Int × Int × List Time→Option (Ctl (Int × Int × List Time) (Bool × List Time))} {a b:Nat} {Q:Type} {kn:Int × Int × List Time→Option Q} {kr:Bool × List Time→Option Q} {q:Option Q}:∀ (s i fuel:Nat) (d:Array Time),s≤5→s < fuel→a < i→i≤b →
  (∀ (i:Nat) (d' : Array Time),d'.size=d.size→a < i→i≤b→i≤Sort.scanSorted ltT d' b i∧Sort.scanSorted ltT d' b i≤b) →
  (∀ (s i:Nat) (d' : Array Time),d'.size=d.size→s≤5→a < i→i≤b→B ((i:Int),((5 - s:Nat):Int),d'.toList)=match s with
   | 0=>some (.brk ((i:Int),5,d'.toList))
   | s + 1=>if Sort.scanSorted ltT d' b i=b then some (.ret (true,d'.toList)) else if b - a < 50 then some (.ret (false,d'.toList)) else some (.next (((Sort.scanSorted ltT d' b i:Nat):Int),((5 - s:Nat):Int),(pisStep a b (Sort.scanSorted ltT d' b i) d').toList))) →
  (∀ x,(Sort.partialIns ltT a b s i d).2=false→kn (x,5,(Sort.partialIns ltT a b s i d).1.toList)=q)→(kr ((Sort.partialIns ltT a b s i d).2,(Sort.partialIns ltT a b s i d).1.toList)=q) →
  outK (loopN B fuel ((i:Int),((5 - s:Nat):Int),d.toList)) kn kr=q:=by
 intro s
 induction s with
 | zero =>
  intro i fuel d hs hf hi hib hsc hB hkn hkr
  cases fuel with
  | zero=>omega
  | succ fuel =>
   rw [loopN_brk (hB 0 i d rfl hs hi hib)]
   exact hkn _ rfl
 | succ s ih =>
  intro i fuel d hs hf hi hib hsc hB hkn hkr
  cases fuel with
  | zero=>omega
  | succ fuel =>
   have h:=hB (s + 1) i d rfl hs hi hib
   simp only at h
   rw [partialIns_unf] at hkn hkr
   have hb:=hsc i d rfl hi hib
   by_cases h1:Sort.scanSorted ltT d b i=b
   ·rw [if_pos h1] at h
    rw [loopN_ret h]
    rw [if_pos h1] at hkr
    exact hkr
   ·rw [if_neg h1] at h hkn hkr
    by_cases h2:b - a < 50
    ·rw [if_pos h2] at h
     rw [loopN_ret h]
     rw [if_pos h2] at hkr
     exact hkr
    ·rw [if_neg h2] at h hkn hkr
     rw [loopN_next h]
     exact ih _ fuel _ (by omega) (by omega) (by omega) (by omega) (fun i' d' h1 h2 h3=>hsc i' d' (by rw [h1,pisStep_sz]) h2 h3) (fun s' i' d' h1 h2 h3 h4=>hB s' i' d' (by rw [h1,pisStep_sz]) h2 h3 h4) hkn hkr
theorem partialInsertionSort_eq {fuel a b:Nat} {d:Array Time} (hab:a < b) (hb:b≤d.size) (hd:d.size < 1152921504606846976) (hf:d.size + 10 < fuel) :
  slices_partialInsertionSortCmpFunc_Time__Compare_w fuel (a:Int) (b:Int) d.toList=some ((Sort.partialInsertionSort ltT d a b).2,(Sort.partialInsertionSort ltT d a b).1.toList):=by
 unfold slices_partialInsertionSortCmpFunc_Time__Compare_w Sort.partialInsertionSort
 rw [wadd1 (by omega)]
 refine pis_loop (a:=a) (b:=b) 5 (a + 1) fuel d (by omega) (by omega) (by omega) (by omega) ?_ ?_ (fun x h=>by rw [h]) rfl
 ·intro i e he h1 h2
  have:=(scanSorted_loop (B:=fun x=>if x.toNat < b∧ltT e[x.toNat]! e[x.toNat - 1]! = false then some (.next ((x.toNat + 1:Nat):Int)) else some (.brk (x.toNat:Int))) (b:=b) (d:=e) b i (b + 1) (by omega) (by omega) (by omega) (fun i' h=>by simp only [Int.toNat_natCast]))
  exact ⟨this.2.1,this.2.2 h2⟩
 ·intro s i e he hs hi hib
  cases s with
  | zero=>rfl
  | succ s =>
   simp only [bf_decide,jn_eq]
   rw [if_pos (show ((5 - (s + 1):Nat):Int) < 5 by omega)]
   obtain ⟨g1,g2,g3⟩:=scanSorted_loop (B:=fun (a5:Int)=>if (a5 < (b:Int)) then (need ((0:Int)≤a5∧a5 < (e.toList.length:Int)) <| need ((0 + a5.toNat) < e.toList.length) <| need ((0:Int)≤(IntKind.i64.wrap (a5 - 1))∧(IntKind.i64.wrap (a5 - 1)) < (e.toList.length:Int)) <| need ((0 + (IntKind.i64.wrap (a5 - 1)).toNat) < e.toList.length) <| (moment_Compare (e.toList.getD (0 + a5.toNat) default) (e.toList.getD (0 + (IntKind.i64.wrap (a5 - 1)).toNat) default)).bind fun r54=>bf (!(decide (r54 < 0))) (some (.next (IntKind.i64.wrap (a5 + 1)))) (some (.brk a5))) else (bf false (some (.next (IntKind.i64.wrap (a5 + 1)))) (some (.brk a5)))) (b:=b) (d:=e) b i fuel (by omega) (by omega) (by omega) (fun k hk=>by
    simp only [jn_eq,intlt]
    by_cases hc:k < b
    ·rw [if_pos hc]
     simp (disch:=omega) only [wsub1,wadd1,Int.toNat_natCast,Nat.zero_add,need_true,Array.length_toList,compare_eq,Option.bind_some,arr_get,hc,true_and]
     unfold ltT
     by_cases h:cmpT e[k]! e[k - 1]! < 0
     ·simp [h]
     ·simp [h]
    ·rw [if_neg hc,if_neg (fun h=>hc h.1),bf_false])
   rw [g1]
   simp only [outK_done]
   have g3:=g3 hib
   generalize Sort.scanSorted ltT e b i=i2 at *
   by_cases h1:i2=b
   ·rw [if_pos h1,if_pos (by omega)]
   ·rw [if_neg h1,if_neg (by omega),wsub (by omega) (by omega)]
    by_cases h2:b - a < 50
    ·rw [if_pos h2,if_pos (by omega)]
    ·rw [if_neg h2,if_neg (by omega)]
     have w1:IntKind.i64.wrap ((i2:Int) + 1)=((i2 + 1:Nat):Int):=wadd1 (by omega)
     have w2:IntKind.i64.wrap ((i2:Int) - 1)=((i2 - 1:Nat):Int):=wsub1 (by omega) (by omega)
     have w3:IntKind.i64.wrap ((i2:Int) - (a:Int))=((i2 - a:Nat):Int):=wsub (by omega) (by omega)
     have w4:IntKind.i64.wrap ((b:Int) - (i2:Int))=((b - i2:Nat):Int):=wsub (by omega) (by omega)
     have w5:IntKind.i64.wrap (((5 - (s + 1):Nat):Int) + 1)=((5 - s:Nat):Int):=by rw [wadd1 (by omega)]; omega
     simp only [w1,w2,w3,w4,w5,Int.toNat_natCast,Nat.zero_add,Array.length_toList,List.length_set,arr_get,arr_swp,jn_eq]
     rw [need_true (by omega),need_true (by omega),need_true (by omega),need_true (by omega),need_true (by omega),need_true (by omega),need_true (by omega),need_true (by omega)]
     unfold pisStep
     dsimp only
     have hsz:=swp_sz e i2 (i2 - 1)
     generalize Sort.swp e i2 (i2 - 1)=f at *
     have up:∀ g:Array Time,g.size=e.size→(if (2:Int)≤((b - i2:Nat):Int) then (outK (loopN (S:=Int × (List Time)) (R:=Empty) (fun (a17:Int × (List Time))=>if (a17.1 < (b:Int)) then (need ((0:Int)≤a17.1∧a17.1 < (a17.2.length:Int)) <| need (a17.1.toNat < a17.2.length) <| need ((0:Int)≤(IntKind.i64.wrap (a17.1 - 1))∧(IntKind.i64.wrap (a17.1 - 1)) < (a17.2.length:Int)) <| need ((IntKind.i64.wrap (a17.1 - 1)).toNat < a17.2.length) <| (moment_Compare (a17.2.getD a17.1.toNat default) (a17.2.getD (IntKind.i64.wrap (a17.1 - 1)).toNat default)).bind fun r23=>bf (!(decide (r23 < 0))) (some (.brk (a17.1,a17.2))) (need ((0:Int)≤(IntKind.i64.wrap (a17.1 - 1))∧(IntKind.i64.wrap (a17.1 - 1)) < (a17.2.length:Int)) <| need ((IntKind.i64.wrap (a17.1 - 1)).toNat < a17.2.length) <| need ((0:Int)≤a17.1∧a17.1 < (a17.2.length:Int)) <| need (a17.1.toNat < a17.2.length) <| need ((0:Int)≤a17.1∧a17.1 < (a17.2.length:Int)) <| need (a17.1.toNat < a17.2.length) <| need ((0:Int)≤(IntKind.i64.wrap (a17.1 - 1))∧(IntKind.i64.wrap (a17.1 - 1)) < (a17.2.length:Int)) <| need ((IntKind.i64.wrap (a17.1 - 1)).toNat < a17.2.length) <| some (.next ((IntKind.i64.wrap (a17.1 + 1)),((a17.2.set a17.1.toNat (a17.2.getD (IntKind.i64.wrap (a17.1 - 1)).toNat default)).set (IntKind.i64.wrap (a17.1 - 1)).toNat (a17.2.getD a17.1.toNat default)))))) else (some (.brk (a17.1,a17.2)))) fuel (((i2 + 1:Nat):Int),g.toList)) (fun (a18:Int × (List Time))=>some (Ctl.next ((i2:Int),((5 - s:Nat):Int),a18.2))) (fun (x:Empty)=>x.elim)) else some (Ctl.next ((i2:Int),((5 - s:Nat):Int),g.toList)))=(some (Ctl.next ((i2:Int),((5 - s:Nat):Int),(if b - i2 ≥ 2 then Sort.shiftUp ltT b (i2 + 1) g else g).toList)):Option (Ctl (Int × Int × List Time) (Bool × List Time))):=fun g hg=>by
      by_cases h3:b - i2 ≥ 2
      ·rw [if_pos h3,if_pos (by omega)]
       refine outK_ex (shiftUp_loop (b:=b) b (i2 + 1) fuel g (by omega) (by omega) (by omega) (by omega) ?_) (fun x=>rfl)
       intro j g' hg' hj
       simp only [intlt]
       by_cases hc:j < b
       ·rw [if_pos hc]
        simp (disch:=omega) only [wsub1,wadd1,Int.toNat_natCast,Nat.zero_add,need_true,Array.length_toList,List.length_set,compare_eq,Option.bind_some,arr_get,arr_swp,hc,true_and]
        unfold ltT
        by_cases h:cmpT g'[j]! g'[j - 1]! < 0
        ·simp [h]
        ·simp [h]
       ·rw [if_neg hc,if_neg (fun h=>hc h.1)]
      ·rw [if_neg h3,if_neg (by omega)]
     by_cases h4:i2 - a ≥ 2
     ·rw [if_pos h4,if_pos (by omega)]
      refine outK_ex (shiftDown_loop (i2 - 1) fuel f (by omega) (by omega) ?_) (fun x => ?_)
      ·intro j g' hg' hj
       by_cases hc:1≤j
       ·simp only [show ((1:Int)≤(j:Int))=True from eq_true (by omega),if_true]
        simp (disch:=omega) only [wsub1,wadd1,Int.toNat_natCast,Nat.zero_add,need_true,Array.length_toList,List.length_set,compare_eq,Option.bind_some,arr_get,arr_swp,hc,true_and]
        unfold ltT
        by_cases h:cmpT g'[j]! g'[j - 1]! < 0
        ·simp [h]
        ·simp [h]
       ·rw [if_neg (by simp only; omega),if_neg (fun h=>hc h.1)]
      ·exact up (Sort.shiftDown ltT (i2 - 1) f) (by rw [shiftDown_sz]; omega)
     ·rw [if_neg h4,if_neg (by omega)]
      exact up f (by omega)
end Go.Av
namespace Go.Av
open Go
set_option linter.unusedVariables false
set_option linter.unusedSimpArgs false
theorem len_tab:∀ x:Fin 256,∃ l:Fin 9,bt lit_256_1d3e63 (x.val:Int)=(l.val:Int)∧x.val < 2 ^ l.val∧(x.val=0→l.val=0)∧(x.val ≠ 0→2 ^ (l.val - 1)≤x.val∧0 < l.val):=by decide +kernel
def IsLen (n L:Nat):Prop:=n < 2 ^ L∧(n=0→L=0)∧(n ≠ 0→2 ^ (L - 1)≤n∧0 < L)
theorem IsLen.shift {n L s:Nat} (h:IsLen (n / 2 ^ s) L) (hn:2 ^ s≤n):IsLen n (L + s):=by
 obtain ⟨h1,h2,h3⟩:=h
 have hp:0 < 2 ^ s:=Nat.pow_pos (by decide)
 have hq:n / 2 ^ s ≠ 0:=Nat.ne_of_gt (Nat.div_pos hn hp)
 obtain ⟨h4,h5⟩:=h3 hq
 refine ⟨?_,fun h=>by omega,fun _=>⟨?_,by omega⟩⟩
 ·rw [Nat.pow_add]
  exact (Nat.div_lt_iff_lt_mul hp).1 h1
 ·rw [show L + s - 1=(L - 1) + s by omega,Nat.pow_add]
  exact (Nat.le_div_iff_mul_le hp).1 h4
theorem len64_eq {n:Nat} (h:n < 2 ^ 64):∃ L:Nat,math_bits_Len64 (n:Int)=some (L:Int)∧IsLen n L∧L≤64:=by
 have last:∀ (x b:Nat),x < 256→b≤56→∃ L:Nat,(need ((0:Int)≤(IntKind.u8.wrap (x:Int))∧(IntKind.u8.wrap (x:Int)) < (lit_256_1d3e63.size:Int)) <| some (IntKind.i64.wrap ((b:Int) + (IntKind.i64.wrap (bt lit_256_1d3e63 (IntKind.u8.wrap (x:Int)))))))=some ((L + b:Nat):Int)∧IsLen x L∧L≤8:=fun x b hx hb=>by
  obtain ⟨l,h1,h2,h3,h4⟩:=len_tab ⟨x,hx⟩
  have e:IntKind.u8.wrap (x:Int)=(x:Int):=uwrap (k:=.u8) rfl hx
  have hsz:lit_256_1d3e63.size=256:=by decide +kernel
  rw [e,hsz,need_true (by omega),h1]
  have hl:=l.isLt
  refine ⟨l.val,?_,⟨h2,h3,h4⟩,by omega⟩
  rw [wrap_small (n:=(l.val:Int)) (by omega) (by omega),wrap_small (by omega) (by omega)]
  exact congrArg some (by omega)
 have s8:∀ x:Nat,shrOp .u64 (x:Int) 8=((x / 2 ^ 8:Nat):Int):=fun x=>shr_nat .u64 x 8 (by decide)
 have s16:∀ x:Nat,shrOp .u64 (x:Int) 16=((x / 2 ^ 16:Nat):Int):=fun x=>shr_nat .u64 x 16 (by decide)
 have s32:∀ x:Nat,shrOp .u64 (x:Int) 32=((x / 2 ^ 32:Nat):Int):=fun x=>shr_nat .u64 x 32 (by decide)
 have p8:∀ (x b:Nat),x < 65536→b≤48→∃ L:Nat,bf (decide (256≤(x:Int))) (need ((0:Int)≤(IntKind.u8.wrap (shrOp .u64 (x:Int) 8))∧(IntKind.u8.wrap (shrOp .u64 (x:Int) 8)) < (lit_256_1d3e63.size:Int)) <| some (IntKind.i64.wrap ((IntKind.i64.wrap ((b:Int) + 8)) + (IntKind.i64.wrap (bt lit_256_1d3e63 (IntKind.u8.wrap (shrOp .u64 (x:Int) 8))))))) (need ((0:Int)≤(IntKind.u8.wrap (x:Int))∧(IntKind.u8.wrap (x:Int)) < (lit_256_1d3e63.size:Int)) <| some (IntKind.i64.wrap ((b:Int) + (IntKind.i64.wrap (bt lit_256_1d3e63 (IntKind.u8.wrap (x:Int)))))))=some ((L + b:Nat):Int)∧IsLen x L∧L≤16:=fun x b hx hb=>by
  rw [bf_decide]
  by_cases h1:256≤(x:Int)
  ·rw [if_pos h1,s8,wrap_small (n:=(b:Int) + 8) (by omega) (by omega)]
   obtain ⟨L,g1,g2,g3⟩:=last (x / 2 ^ 8) (b + 8) (by omega) (by omega)
   rw [show ((b + 8:Nat):Int)=(b:Int) + 8 by omega] at g1
   refine ⟨L + 8,?_,g2.shift (by omega),by omega⟩
   exact g1.trans (congrArg some (by omega))
  ·rw [if_neg h1]
   obtain ⟨L,g1,g2,g3⟩:=last x b (by omega) (by omega)
   exact ⟨L,g1,g2,by omega⟩
 unfold math_bits_Len64
 simp only [jn_eq]
 by_cases h1:4294967296≤(n:Int)
 ·rw [bf_decide,if_pos h1,s32,bf_decide]
  by_cases h2:65536≤((n / 2 ^ 32:Nat):Int)
  ·rw [if_pos h2,s16,show IntKind.i64.wrap (32 + 16)=((48:Nat):Int) from by decide]
   obtain ⟨L,g1,g2,g3⟩:=p8 (n / 2 ^ 32 / 2 ^ 16) 48 (by omega) (by omega)
   refine ⟨L + 48,g1,?_,by omega⟩
   have:=(g2.shift (by omega)).shift (n:=n) (s:=32) (by omega)
   rw [Nat.add_assoc] at this
   exact this
  ·rw [if_neg h2]
   obtain ⟨L,g1,g2,g3⟩:=p8 (n / 2 ^ 32) 32 (by omega) (by omega)
   exact ⟨L + 32,g1,g2.shift (by omega),by omega⟩
 ·rw [bf_decide,if_neg h1,bf_decide]
  by_cases h2:65536≤(n:Int)
  ·rw [if_pos h2,s16,show IntKind.i64.wrap (0 + 16)=((16:Nat):Int) from by decide]
   obtain ⟨L,g1,g2,g3⟩:=p8 (n / 2 ^ 16) 16 (by omega) (by omega)
   exact ⟨L + 16,g1,g2.shift (by omega),by omega⟩
  ·rw [if_neg h2]
   obtain ⟨L,g1,g2,g3⟩:=p8 n 0 (by omega) (by omega)
   exact ⟨L,by rw [show ((0:Nat):Int)=0 from rfl] at g1; exact g1,g2,by omega⟩
theorem len_uniq {n L K:Nat} (h:IsLen n L) (g:IsLen n K):L=K:=by
 obtain ⟨h1,h2,h3⟩:=h
 obtain ⟨g1,g2,g3⟩:=g
 by_cases h0:n=0
 ·rw [h2 h0,g2 h0]
 ·obtain ⟨h4,h5⟩:=h3 h0
  obtain ⟨g4,g5⟩:=g3 h0
  rcases Nat.lt_trichotomy L K with e | e | e
  ·have:=Nat.pow_le_pow_right (n:=2) (by decide) (show L≤K - 1 by omega); omega
  ·exact e
  ·have:=Nat.pow_le_pow_right (n:=2) (by decide) (show K≤L - 1 by omega); omega
theorem bitsLen_is (n:Nat):IsLen n (Sort.bitsLen n):=by
 refine ⟨Sort.lt_two_pow_bitsLen n,fun h=>by rw [h]; rfl,fun h => ?_⟩
 have hp:0 < Sort.bitsLen n:=by unfold Sort.bitsLen; rw [if_neg h]; omega
 refine ⟨?_,hp⟩
 have:=mt (Sort.bitsLen_le_iff n (Sort.bitsLen n - 1)).2 (by omega)
 omega
theorem bitsLen_lt {n k:Nat} (h:n < 2 ^ k):Sort.bitsLen n≤k:=(Sort.bitsLen_le_iff n k).2 h
theorem len_eq {n:Nat} (h:n < 2 ^ 64):math_bits_Len (n:Int)=some ((Sort.bitsLen n:Nat):Int):=by
 unfold math_bits_Len
 have e:IntKind.u64.wrap (n:Int)=(n:Int):=uwrap (k:=.u64) rfl h
 obtain ⟨L,e1,e2,_⟩:=len64_eq h
 rw [show Sort.bitsLen n=L from len_uniq (bitsLen_is n) e2]
 first
  | rw [e,e1]; rfl
  | (rw [e1]; rfl)
end Go.Av
namespace Go.Av
open Go
set_option linter.unusedVariables false
set_option linter.unusedSimpArgs false
theorem next_eq {x:Nat} (h:x < 2 ^ 64):slices_xorshift_Next_w (x:Int)=some (((Sort.xorNextN x:Nat):Int),((Sort.xorNextN x:Nat):Int)):=by
 unfold slices_xorshift_Next_w
 have s13:∀ y:Nat,shlOp .u64 (y:Int) 13=((y * 8192 % 18446744073709551616:Nat):Int):=fun y=>by
  have:=shl_nat (k:=.u64) y 13 (by decide)
  rw [show ((13:Nat):Int)=13 from rfl] at this
  rw [this,wrap_u64]; omega
 have s17:∀ y:Nat,shlOp .u64 (y:Int) 17=((y * 131072 % 18446744073709551616:Nat):Int):=fun y=>by
  have:=shl_nat (k:=.u64) y 17 (by decide)
  rw [show ((17:Nat):Int)=17 from rfl] at this
  rw [this,wrap_u64]; omega
 have s7:∀ y:Nat,shrOp .u64 (y:Int) 7=((y / 128:Nat):Int):=fun y=>shr_nat .u64 y 7 (by decide)
 have ha:x ^^^ (x * 8192 % 18446744073709551616) < 2 ^ 64:=Nat.xor_lt_two_pow h (by omega)
 have hb:(x ^^^ (x * 8192 % 18446744073709551616)) ^^^ ((x ^^^ (x * 8192 % 18446744073709551616)) / 128) < 2 ^ 64:=Nat.xor_lt_two_pow ha (by omega)
 rw [s13,xor_nat (k:=.u64) rfl h (show x * 8192 % 18446744073709551616 < 2 ^ 64 by omega),s7,xor_nat (k:=.u64) rfl ha (show (x ^^^ (x * 8192 % 18446744073709551616)) / 128 < 2 ^ 64 by omega),s17,xor_nat (k:=.u64) rfl hb (show ((x ^^^ (x * 8192 % 18446744073709551616)) ^^^ ((x ^^^ (x * 8192 % 18446744073709551616)) / 128)) * 131072 % 18446744073709551616 < 2 ^ 64 by omega)]
 rfl
theorem breakStep_sz (a l m:Nat) (st:UInt64 × Array Time) (i:Nat):(Sort.breakStep a l m st i).2.size=st.2.size:=by
 unfold Sort.breakStep
 exact swp_sz _ _ _
theorem two_pow_lt {l:Nat} (h:l < 1152921504606846976):Sort.bitsLen l≤60:=bitsLen_lt h
theorem break_loop {B:Int × Int × Int × List Time→Option (Ctl (Int × Int × Int × List Time) Empty)} {a b l M fuel K:Nat} {d:Array Time} {r0:UInt64} {n0:Nat} (h0:r0.toNat=n0) {Q:Type} {kn:Int × Int × Int × List Time→Option Q} {kr:Empty→Option Q} {q:Option Q} (hf:4 < fuel) (hK0:1≤K) (hK:a≤K - 1) (hK2:K + 1 < b) (hb:b≤d.size)
  (hB:∀ (k:Nat) (r:UInt64) (e:Array Time),e.size=d.size→a≤k→k≤K + 1→k < b→B ((n0:Int),(k:Int),(r.toNat:Int),e.toList)=some (.next ((n0:Int),((k + 1:Nat):Int),((Sort.breakStep a l M (r,e) k).1.toNat:Int),(Sort.breakStep a l M (r,e) k).2.toList)))
  (hE:∀ (r:UInt64) (e:Array Time),B ((n0:Int),((K + 2:Nat):Int),(r.toNat:Int),e.toList)=some (.brk ((n0:Int),((K + 2:Nat):Int),(r.toNat:Int),e.toList)))
  (hk:∀ x y z,kn (x,y,z,(Sort.breakStep a l M (Sort.breakStep a l M (Sort.breakStep a l M (r0,d) (K - 1)) (K - 1 + 1)) (K - 1 + 2)).2.toList)=q) :
  outK (loopN B fuel ((n0:Int),((K - 1:Nat):Int),(n0:Int),d.toList)) kn kr=q:=by
 subst h0
 obtain ⟨f,rfl⟩:∃ f,fuel=f + 1 + 1 + 1 + 1:=⟨fuel - 4,by omega⟩
 have s1:=breakStep_sz a l M (r0,d) (K - 1)
 have s2:=breakStep_sz a l M (Sort.breakStep a l M (r0,d) (K - 1)) (K - 1 + 1)
 have h1:=hB (K - 1) r0 d rfl (by omega) (by omega) (by omega)
 have h2:=hB (K - 1 + 1) (Sort.breakStep a l M (r0,d) (K - 1)).1 (Sort.breakStep a l M (r0,d) (K - 1)).2 s1 (by omega) (by omega) (by omega)
 have h3:=hB (K - 1 + 1 + 1) (Sort.breakStep a l M (Sort.breakStep a l M (r0,d) (K - 1)) (K - 1 + 1)).1 (Sort.breakStep a l M (Sort.breakStep a l M (r0,d) (K - 1)) (K - 1 + 1)).2 (s2.trans s1) (by omega) (by omega) (by omega)
 rw [loopN_next h1,loopN_next h2,loopN_next h3,show K - 1 + 1 + 1 + 1=K + 2 by omega,loopN_brk (hE _ _)]
 exact hk _ _ _
theorem breakPatterns_eq {fuel a b:Nat} {d:Array Time} (hab:a < b) (hb:b≤d.size) (hd:d.size < 1152921504606846976) (hf:4 < fuel) :
  slices_breakPatternsCmpFunc_Time__Compare_w fuel (a:Int) (b:Int) d.toList=some (Sort.breakPatterns d a b).toList:=by
 unfold slices_breakPatternsCmpFunc_Time__Compare_w Sort.breakPatterns
 have e0:IntKind.i64.wrap ((b:Int) - (a:Int))=((b - a:Nat):Int):=wsub (by omega) (by omega)
 simp only [e0,bf_decide]
 by_cases h8:b - a ≥ 8
 ·rw [if_pos h8,if_pos (by omega)]
  have hL:=two_pow_lt (l:=b - a) (by omega)
  have hLl:=Sort.lt_two_pow_bitsLen (b - a)
  have hLu:=Sort.two_pow_bitsLen_le (n:=b - a) (by omega)
  have hp:2 ^ Sort.bitsLen (b - a)≤2 ^ 60:=Nat.pow_le_pow_right (by decide) hL
  have hm:slices_nextPowerOfTwo ((b - a:Nat):Int)=some ((2 ^ Sort.bitsLen (b - a):Nat):Int):=by
   unfold slices_nextPowerOfTwo
   have e:IntKind.u64.wrap ((b - a:Nat):Int)=((b - a:Nat):Int):=uwrap (k:=.u64) rfl (show b - a < 2 ^ 64 by omega)
   rw [e,len_eq (by omega),Option.bind_some,need_true (by omega)]
   have:=shl_nat (k:=.u64) 1 (Sort.bitsLen (b - a)) (by show Sort.bitsLen (b - a)≤64; omega)
   rw [show ((1:Nat):Int)=1 from rfl,Nat.one_mul] at this
   rw [this,uwrap (k:=.u64) rfl (show 2 ^ Sort.bitsLen (b - a) < 2 ^ 64 by omega)]
  rw [hm,Option.bind_some,Nat.one_shiftLeft]
  generalize 2 ^ Sort.bitsLen (b - a)=M at *
  have e1:IntKind.i64.wrap (((b - a:Nat):Int).tdiv 4)=(((b - a) / 4:Nat):Int):=by rw [Int.tdiv_eq_ediv_of_nonneg (by omega),wrap_small (by omega) (by omega)]; omega
  have e2:IntKind.i64.wrap ((((b - a) / 4:Nat):Int) * 2)=(((b - a) / 4 * 2:Nat):Int):=by rw [wrap_small (by omega) (by omega)]; omega
  have e3:IntKind.i64.wrap ((a:Int) + (((b - a) / 4 * 2:Nat):Int))=((a + (b - a) / 4 * 2:Nat):Int):=wadd (by omega)
  have e4:IntKind.i64.wrap (((a + (b - a) / 4 * 2:Nat):Int) - 1)=((a + (b - a) / 4 * 2 - 1:Nat):Int):=wsub1 (by omega) (by omega)
  have e5:IntKind.i64.wrap (((a + (b - a) / 4 * 2:Nat):Int) + 1)=((a + (b - a) / 4 * 2 + 1:Nat):Int):=wadd1 (by omega)
  have e6:IntKind.i64.wrap ((b - a:Nat):Int)=((b - a:Nat):Int):=wrap_i64_in (by unfold in64; omega)
  have e7:IntKind.u64.wrap ((b - a:Nat):Int)=((b - a:Nat):Int):=uwrap (k:=.u64) rfl (show b - a < 2 ^ 64 by omega)
  have e8:IntKind.u64.wrap ((M:Int) - 1)=((M - 1:Nat):Int):=by rw [wrap_u64]; omega
  simp only [e1,e2,e3,e4,e7,e8,jn_eq]
  have hr0:(UInt64.ofNat (b - a)).toNat=b - a:=by rw [UInt64.toNat_ofNat']; omega
  refine break_loop (r0:=UInt64.ofNat (b - a)) (n0:=b - a) hr0 (a:=a) (l:=(b - a)) (M:=M) (b:=b) (K:=a + (b - a) / 4 * 2) hf (by omega) (by omega) (by omega) hb ?_ ?_ (fun x y z=>by dsimp only)
  ·intro k r e he hk1 hk2 hk3
   simp only
   rw [if_pos (show (k:Int)≤_ by rw [e1,e2,e3,e5]; omega)]
   have hr:=UInt64.toNat_lt r
   rw [next_eq (by omega),Option.bind_some]
   unfold Sort.breakStep
   dsimp only
   rw [Sort.xorNext_toNat]
   have hx:=Sort.xorNextN_lt r.toNat (by omega)
   have ea:bitsOp .and .u64 ((Sort.xorNextN r.toNat:Nat):Int) ((M - 1:Nat):Int)=((Sort.xorNextN r.toNat &&& (M - 1):Nat):Int):=and_nat (k:=.u64) rfl (show _ < 2 ^ 64 by omega) (show M - 1 < 2 ^ 64 by omega)
   have hal:Sort.xorNextN r.toNat &&& (M - 1)≤M - 1:=Nat.and_le_right
   rw [ea]
   generalize Sort.xorNextN r.toNat &&& (M - 1)=o at *
   have eo:IntKind.i64.wrap (o:Int)=(o:Int):=wrap_i64_in (by unfold in64; omega)
   rw [eo]
   have w1:IntKind.i64.wrap ((k:Int) + 1)=((k + 1:Nat):Int):=wadd1 (by omega)
   by_cases ho:o ≥ b - a
   ·have w2:IntKind.i64.wrap ((o:Int) - ((b - a:Nat):Int))=((o - (b - a):Nat):Int):=wsub (by omega) (by omega)
    have w3:IntKind.i64.wrap ((a:Int) + ((o - (b - a):Nat):Int))=((a + (o - (b - a)):Nat):Int):=wadd (by omega)
    rw [if_pos ho,if_pos (by omega),w1,w2,w3]
    simp (disch:=omega) only [Int.toNat_natCast,Nat.zero_add,need_true,Array.length_toList,List.length_set,arr_get,arr_swp]
   ·have w3:IntKind.i64.wrap ((a:Int) + (o:Int))=((a + o:Nat):Int):=wadd (by omega)
    rw [if_neg ho,if_neg (by omega),w1,w3]
    simp (disch:=omega) only [Int.toNat_natCast,Nat.zero_add,need_true,Array.length_toList,List.length_set,arr_get,arr_swp]
  ·intro r e
   simp only
   rw [if_neg (show ¬ ((a + (b - a) / 4 * 2 + 2:Nat):Int)≤_ by rw [e1,e2,e3,e5]; omega)]
 ·rw [if_neg h8,if_neg (by omega)]
end Go.Av
namespace Go.Av
open Go
set_option linter.unusedVariables false
set_option linter.unusedSimpArgs false
abbrev PdqS:=Int × Int × Int × Bool × Bool × (List Time)
def pK12 (fuel : Nat) (a b : Int) (lim len : Int) (pivot : Int) (wb wp : Bool) (l : List Time) (x : Bool) : Option (Ctl PdqS (List Time)) :=
  bf x ((slices_partitionEqualCmpFunc_Time__Compare_w fuel a b pivot l).bind fun r14 => need (r14.2.length = l.length) <| some (.next (r14.1, b, lim, wb, wp, r14.2)))
    ((slices_partitionCmpFunc_Time__Compare_w fuel a b pivot l).bind fun r16 => need (r16.2.2.length = l.length) <| bf (decide ((IntKind.i64.wrap (r16.1 - a)) < (IntKind.i64.wrap (b - r16.1))))
      ((slices_pdqsortCmpFunc_Time__Compare_w fuel a r16.1 lim r16.2.2).bind fun r18 => need (r18.length = r16.2.2.length) <| some (.next ((IntKind.i64.wrap (r16.1 + 1)), b, lim, (decide ((IntKind.i64.wrap (len.tdiv 8)) ≤ (IntKind.i64.wrap (r16.1 - a)))), r16.2.1, r18)))
      ((slices_pdqsortCmpFunc_Time__Compare_w fuel (IntKind.i64.wrap (r16.1 + 1)) b lim r16.2.2).bind fun r20 => need (r20.length = r16.2.2.length) <| some (.next (a, r16.1, lim, (decide ((IntKind.i64.wrap (len.tdiv 8)) ≤ (IntKind.i64.wrap (b - r16.1)))), r16.2.1, r20))))
def pK10 (fuel:Nat) (a b:Int) (lim len:Int) (pivot:Int) (wb wp:Bool) (l:List Time):Option (Ctl PdqS (List Time)) :=
 jn (fun (a12:Bool)=>pK12 fuel a b lim len pivot wb wp l a12) fun j13=>bf (decide (0 < a)) (need ((0:Int)≤(IntKind.i64.wrap (a - 1))∧(IntKind.i64.wrap (a - 1)) < (l.length:Int)) <| need ((0 + (IntKind.i64.wrap (a - 1)).toNat) < l.length) <| need ((0:Int)≤pivot∧pivot < (l.length:Int)) <| need ((0 + pivot.toNat) < l.length) <| (moment_Compare (l.getD (0 + (IntKind.i64.wrap (a - 1)).toNat) default) (l.getD (0 + pivot.toNat) default)).bind fun r27=>j13 (!(decide (r27 < 0)))) (j13 false)
def pK8 (fuel:Nat) (a b:Int) (lim len:Int) (wb wp:Bool) (pivot hint:Int) (l:List Time):Option (Ctl PdqS (List Time)) :=
 jn (fun (a10:Bool × Bool × (List Time))=>pK10 fuel a b lim len pivot a10.1 a10.2.1 a10.2.2) fun j11=>jn (fun (a28:Bool × Bool × Bool)=>bf a28.2.2 ((slices_partialInsertionSortCmpFunc_Time__Compare_w fuel a b l).bind fun r30=>need (r30.2.length=l.length) <| bf r30.1 (some (.ret r30.2)) (j11 (a28.1,a28.2.1,r30.2))) (j11 (a28.1,a28.2.1,l))) fun j29=>bf wb (bf wp (j29 (true,true,(decide (hint=1)))) (j29 (true,false,false))) (j29 (false,wp,false))
def pK5 (fuel:Nat) (a b:Int) (wb wp:Bool) (lim len:Int) (l:List Time):Option (Ctl PdqS (List Time)) :=
 (slices_choosePivotCmpFunc_Time__Compare l a b).bind fun r7=>jn (fun (a8:Int × Int × (List Time))=>pK8 fuel a b lim len wb wp a8.1 a8.2.1 a8.2.2) fun j9=>bf (decide (r7.2=2)) ((slices_reverseRangeCmpFunc_Time__Compare_w fuel a b l).bind fun r32=>need (r32.length=l.length) <| j9 ((IntKind.i64.wrap ((IntKind.i64.wrap (b - 1)) - (IntKind.i64.wrap (r7.1 - a)))),1,r32)) (j9 (r7.1,r7.2,l))
def pBody (fuel:Nat) (a1:PdqS):Option (Ctl PdqS (List Time)) :=
 bf (decide ((IntKind.i64.wrap (a1.2.1 - a1.1))≤12)) ((slices_insertionSortCmpFunc_Time__Compare_w fuel a1.1 a1.2.1 a1.2.2.2.2.2).bind fun r3=>some (.ret r3)) (bf (decide (a1.2.2.1=0)) ((slices_heapSortCmpFunc_Time__Compare_w fuel a1.1 a1.2.1 a1.2.2.2.2.2).bind fun r4=>some (.ret r4))
  (jn (fun (a5:Int × Int × (List Time))=>pK5 fuel a1.1 a1.2.1 a1.2.2.2.1 a1.2.2.2.2.1 a5.1 a5.2.1 a5.2.2) fun j6=>bf (!a1.2.2.2.1) ((slices_breakPatternsCmpFunc_Time__Compare_w fuel a1.1 a1.2.1 a1.2.2.2.2.2).bind fun r34=>need (r34.length=a1.2.2.2.2.2.length) <| j6 ((IntKind.i64.wrap (a1.2.2.1 - 1)),(IntKind.i64.wrap (a1.2.1 - a1.1)),r34)) (j6 (a1.2.2.1,(IntKind.i64.wrap (a1.2.1 - a1.1)),a1.2.2.2.2.2))))
theorem pdq_gen (fuel:Nat) (a b lim:Int) (l:List Time):slices_pdqsortCmpFunc_Time__Compare_w (fuel + 1) a b lim l=outK (loopN (pBody fuel) fuel (a,b,lim,true,true,l)) (fun _=>none) (fun x=>some x):=rfl
def qD (a b lim:Nat) (wb wp:Bool) (pivot:Nat) (d:Array Time):Array Time :=
 if a > 0 && !ltT d[a - 1]! d[pivot]! then
  match Sort.partitionEqual ltT d a b pivot with
  | (mid,d4)=>if _h:a < mid∧mid≤b then Sort.pdq ltT d4 mid b lim wb wp else d4
 else
  match Sort.partition ltT d a b pivot with
  | (mid,alreadyPartitioned,d4) =>
   if _h:a≤mid∧mid < b then
    if mid - a < b - mid then
     Sort.pdq ltT (Sort.pdq ltT d4 a mid lim true true) (mid + 1) b lim (decide (mid - a ≥ (b - a) / 8)) alreadyPartitioned
    else
     Sort.pdq ltT (Sort.pdq ltT d4 (mid + 1) b lim true true) a mid lim (decide (b - mid ≥ (b - a) / 8)) alreadyPartitioned
   else d4
def qC (a b lim:Nat) (wb wp:Bool) (pivot:Nat) (hint:Sort.Hint) (d:Array Time):Array Time :=
 let pi:=if wb && wp && hint = .increasing then Sort.partialInsertionSort ltT d a b else (d,false)
 if pi.2 then pi.1 else qD a b lim wb wp pivot pi.1
def qB (a b lim:Nat) (wb wp:Bool) (d:Array Time):Array Time :=
 let c:=Sort.choosePivot ltT d a b
 if c.2 = .decreasing then qC a b lim wb wp ((b - 1) - (c.1 - a)) .increasing (Sort.reverseRange d a b) else qC a b lim wb wp c.1 c.2 d
theorem pdq_unf (d:Array Time) (a b lim:Nat) (wb wp:Bool):Sort.pdq ltT d a b lim wb wp =
  if b - a≤12 then Sort.insertionSort ltT d a b else if lim=0 then Sort.heapSort ltT d a b else
   (if wb then qB a b lim wb wp d else qB a b (lim - 1) wb wp (Sort.breakPatterns d a b)):=by
 rw [Sort.pdq]
 by_cases h1:b - a≤12
 ·rw [if_pos h1,if_pos h1]
 ·rw [if_neg h1,if_neg h1]
  by_cases h2:lim=0
  ·rw [if_pos h2,if_pos h2]
  ·rw [if_neg h2,if_neg h2]
   cases wb
   ·simp only [Bool.not_false,if_true]
    unfold qB
    dsimp only
    by_cases h3:(Sort.choosePivot ltT (Sort.breakPatterns d a b) a b).2 = .decreasing
    ·simp only [if_pos h3]; rfl
    ·simp only [if_neg h3]; rfl
   ·simp only [Bool.not_true,Bool.false_eq_true,if_false,if_true]
    unfold qB
    dsimp only
    by_cases h3:(Sort.choosePivot ltT d a b).2 = .decreasing
    ·simp only [if_pos h3]; rfl
    ·simp only [if_neg h3]; rfl
theorem scanDown_ge {α:Type} [Inhabited α] (p : α → Bool) (d:Array α) (i:Nat):∀ (j:Nat),i≤j + 1→i≤Sort.scanDown p d i j + 1
 | 0,h=>h
 | j + 1,h=>by
  unfold Sort.scanDown
  split
  ·rename_i hc
   have:i≤j + 1:=by simp at hc; exact hc.1
   exact scanDown_ge p d i j this
  ·exact h
theorem scanUp_stop {α:Type} [Inhabited α] (p : α → Bool) (d:Array α) (j:Nat):∀ (n i:Nat),j + 1 - i≤n→Sort.scanUp p d j i≤j→p d[Sort.scanUp p d j i]! = false:=by
 intro n
 induction n with
 | zero =>
  intro i hn h
  rw [Sort.scanUp] at h ⊢
  split at h
  ·rename_i hc; simp at hc; omega
  ·omega
 | succ n ih =>
  intro i hn h
  rw [Sort.scanUp] at h ⊢
  split at h
  ·rename_i hc
   rw [if_pos hc]
   exact ih (i + 1) (by omega) h
  ·rename_i hc
   rw [if_neg hc]
   simp at hc
   exact hc h
theorem scanDown_stop {α:Type} [Inhabited α] (p : α → Bool) (d:Array α) (i:Nat):∀ (j:Nat),i≤Sort.scanDown p d i j→1≤i→p d[Sort.scanDown p d i j]! = false
 | 0,h,h1=>by have:Sort.scanDown p d i 0=0:=rfl; omega
 | j + 1,h,h1=>by
  unfold Sort.scanDown at h ⊢
  split at h
  ·rename_i hc
   rw [if_pos hc]
   exact scanDown_stop p d i j h h1
  ·rename_i hc
   rw [if_neg hc]
   simp at hc
   exact hc h
theorem scan_ne {α:Type} [Inhabited α] (p q : α → Bool) (hq:∀ x,q x = !p x) (d:Array α) (i j:Nat):1≤i→Sort.scanUp p d j i ≠ Sort.scanDown q d (Sort.scanUp p d j i) j:=fun hi e=>by
 have u:=scanUp_le p d j _ i (Nat.le_refl _)
 have v:=scanDown_le' q d (Sort.scanUp p d j i) j
 have h1:=scanUp_stop p d j _ i (Nat.le_refl _) (by omega)
 have h2:=scanDown_stop q d (Sort.scanUp p d j i) j (by omega) (by omega)
 rw [← e,hq,h1] at h2
 cases h2
theorem partEqLoop_fact {a:Nat}:∀ (n i j:Nat) (d:Array Time),j + 1 - i≤n→1≤i→i≤j + 1→j < d.size→i≤(Sort.partEqLoop ltT a i j d).1∧(Sort.partEqLoop ltT a i j d).1≤j + 1∧(Sort.partEqLoop ltT a i j d).2.size=d.size:=by
 intro n
 induction n with
 | zero =>
  intro i j d hn hi hi2 hj
  have u:=(scanUp_le (fun x => !ltT d[a]! x) d j _ i (Nat.le_refl _))
  have v:=scanDown_le' (fun x=>ltT d[a]! x) d (Sort.scanUp (fun x => !ltT d[a]! x) d j i) j
  rw [partEqLoop_unf,if_pos (by omega)]
  exact ⟨u.2,by show Sort.scanUp _ _ _ _≤_; omega,rfl⟩
 | succ n ih =>
  intro i j d hn hi hi2 hj
  have u:=(scanUp_le (fun x => !ltT d[a]! x) d j _ i (Nat.le_refl _))
  have v:=scanDown_le' (fun x=>ltT d[a]! x) d (Sort.scanUp (fun x => !ltT d[a]! x) d j i) j
  have w:=scanDown_ge (fun x=>ltT d[a]! x) d (Sort.scanUp (fun x => !ltT d[a]! x) d j i) j
  have hno:=scan_ne (fun x => !ltT d[a]! x) (fun x=>ltT d[a]! x) (fun x=>by simp) d i j
  rw [partEqLoop_unf]
  generalize Sort.scanUp (fun x => !ltT d[a]! x) d j i=i2 at *
  generalize Sort.scanDown (fun x=>ltT d[a]! x) d i2 j=j2 at *
  by_cases hc:i2 > j2
  ·rw [if_pos hc]
   exact ⟨u.2,by show i2≤_; omega,rfl⟩
  ·rw [if_neg hc]
   have:=ih (i2 + 1) (j2 - 1) (Sort.swp d i2 j2) (by omega) (by omega) (by omega) (by rw [swp_sz]; omega)
   rw [swp_sz] at this
   omega
end Go.Av
namespace Go.Av
open Go
set_option linter.unusedVariables false
set_option linter.unusedSimpArgs false
theorem ltT_iff {x y:Time}:ltT x y=true↔x.epoch < y.epoch∨(x.epoch=y.epoch∧(x.loop.1 < y.loop.1∨(x.loop.1=y.loop.1∧x.loop.2 < y.loop.2))):=by
 unfold ltT cmpT
 rw [decide_eq_true_eq]
 repeat' split
 all_goals omega
theorem swoT:Sort.SWO ltT where
 irrefl x:=by
  cases h:ltT x x with
  | false=>rfl
  | true=>rw [ltT_iff] at h; omega
 trans x y z h1 h2:=by
  rw [ltT_iff] at *
  omega
 ntrans x y z h1 h2:=by
  rw [← Bool.not_eq_true,ltT_iff] at *
  omega
theorem insOuter_sz (a b:Nat):∀ (n i:Nat) (d:Array Time),b - i≤n→(Sort.insOuter ltT a b i d).size=d.size:=by
 intro n
 induction n with
 | zero=>intro i d hn; rw [Sort.insOuter,if_neg (by omega)]
 | succ n ih =>
  intro i d hn
  rw [Sort.insOuter]
  split
  ·rw [ih _ _ (by omega),insInner_sz]
  ·rfl
theorem insertion_sz (a b:Nat) (d:Array Time):(Sort.insertionSort ltT d a b).size=d.size:=insOuter_sz a b b _ d (by omega)
theorem heapPop_sz (first:Nat):∀ (k:Nat) (d:Array Time),(Sort.heapPop ltT first k d).size=d.size
 | 0,d=>rfl
 | k + 1,d=>by unfold Sort.heapPop; rw [heapPop_sz first k,sift_sz,swp_sz]
theorem heapSort_sz (a b:Nat) (d:Array Time):(Sort.heapSort ltT d a b).size=d.size:=by unfold Sort.heapSort; rw [heapPop_sz,heapBuild_sz]
theorem partialIns_sz (a b:Nat):∀ (s i:Nat) (d:Array Time),(Sort.partialIns ltT a b s i d).1.size=d.size
 | 0,i,d=>rfl
 | s + 1,i,d=>by
  rw [partialIns_unf]
  split
  ·rfl
  ·split
   ·rfl
   ·rw [partialIns_sz a b s,pisStep_sz]
def stepTo (F g:Nat) (o:Option (Ctl PdqS (List Time))) (q:Array Time):Prop:=(∃ s,o=some (.next s)∧loopN (pBody F) g s=some (.ret q.toList))∨o=some (.ret q.toList)
def PdqOk (m:Nat):Prop := ∀ (F g a b lim:Nat) (wb wp:Bool) (d:Array Time),b - a < m→a≤b→b≤d.size→d.size < 1152921504606846976→lim < 1152921504606846976→b - a < g→d.size + (b - a) + 20 < F →
 loopN (pBody F) g ((a:Int),(b:Int),(lim:Int),wb,wp,d.toList)=some (.ret (Sort.pdq ltT d a b lim wb wp).toList)∧(Sort.pdq ltT d a b lim wb wp).size=d.size
theorem PdqOk.call {m:Nat} (h:PdqOk m) {F a b lim:Nat} {d:Array Time} (hm:b - a < m) (hab:a≤b) (hb:b≤d.size) (hd:d.size < 1152921504606846976) (hl:lim < 1152921504606846976) (hf:d.size + (b - a) + 21 < F) :
  slices_pdqsortCmpFunc_Time__Compare_w F (a:Int) (b:Int) (lim:Int) d.toList=some (Sort.pdq ltT d a b lim true true).toList∧(Sort.pdq ltT d a b lim true true).size=d.size:=by
 cases F with
 | zero=>omega
 | succ F =>
  obtain ⟨h1,h2⟩:=h F F a b lim true true d hm hab hb hd hl (by omega) (by omega)
  rw [pdq_gen,h1]
  exact ⟨rfl,h2⟩
theorem stageD {F g a b lim pivot:Nat} {wb wp:Bool} {d:Array Time} (ih:PdqOk (b - a)) (hab:a + 12 < b) (hp:a≤pivot∧pivot < b) (hb:b≤d.size) (hd:d.size < 1152921504606846976) (hl:lim < 1152921504606846976) (hg:b - a≤g) (hF:d.size + (b - a) + 20 < F) :
  stepTo F g (pK10 F (a:Int) (b:Int) (lim:Int) ((b - a:Nat):Int) (pivot:Int) wb wp d.toList) (qD a b lim wb wp pivot d)∧(qD a b lim wb wp pivot d).size=d.size:=by
 have e8:IntKind.i64.wrap (((b - a:Nat):Int).tdiv 8)=(((b - a) / 8:Nat):Int):=by rw [Int.tdiv_eq_ediv_of_nonneg (by omega),wrap_small (by omega) (by omega)]; omega
 have hK:pK10 F (a:Int) (b:Int) (lim:Int) ((b - a:Nat):Int) (pivot:Int) wb wp d.toList=pK12 F (a:Int) (b:Int) (lim:Int) ((b - a:Nat):Int) (pivot:Int) wb wp d.toList (a > 0 && !ltT d[a - 1]! d[pivot]!):=by
  unfold pK10
  simp only [jn_eq]
  by_cases h0:0 < a
  ·rw [decide_eq_true (show (0:Int) < (a:Int) by omega),bf_true,wsub1 (by omega) (by omega)]
   simp (disch:=omega) only [Int.toNat_natCast,Nat.zero_add,need_true,Array.length_toList,compare_eq,Option.bind_some,arr_get]
   rw [decide_eq_true h0,Bool.true_and]
   rfl
  ·rw [decide_eq_false (show ¬ (0:Int) < (a:Int) by omega),bf_false,decide_eq_false h0,Bool.false_and]
 rw [hK]
 unfold qD
 cases hx:(a > 0 && !ltT d[a - 1]! d[pivot]!) with
 | true =>
  simp only [if_true]
  unfold pK12
  rw [bf_true,partitionEqual_eq hp (by omega) hb hd (by omega),Option.bind_some]
  have hr:=partEqLoop_fact (a:=a) _ (a + 1) (b - 1) (Sort.swp d a pivot) (Nat.le_refl _) (by omega) (by omega) (by rw [swp_sz]; omega)
  rw [swp_sz] at hr
  have he:Sort.partEqLoop ltT a (a + 1) (b - 1) (Sort.swp d a pivot)=Sort.partitionEqual ltT d a b pivot:=rfl
  rw [he] at hr
  generalize Sort.partitionEqual ltT d a b pivot=r at *
  obtain ⟨mid,d4⟩:=r
  simp only at hr ⊢
  rw [dif_pos (by omega),need_true (by rw [Array.length_toList,Array.length_toList]; omega)]
  obtain ⟨h1,h2⟩:=ih F g mid b lim wb wp d4 (by omega) (by omega) (by omega) (by omega) hl (by omega) (by omega)
  exact ⟨.inl ⟨_,rfl,h1⟩,by omega⟩
 | false =>
  simp only [Bool.false_eq_true,if_false]
  unfold pK12
  rw [bf_false,partition_eq hp (by omega) hb hd (by omega),Option.bind_some,e8]
  obtain ⟨g1,g2,g3,_,_⟩:=Sort.partition_holds ltT swoT d a b pivot hp.1 hp.2 hb
  have g3:=g3.1
  generalize Sort.partition ltT d a b pivot=r at *
  obtain ⟨mid,ap,d4⟩:=r
  simp only at g1 g2 g3 ⊢
  have w1:IntKind.i64.wrap ((mid:Int) - (a:Int))=((mid - a:Nat):Int):=wsub (by omega) (by omega)
  have w2:IntKind.i64.wrap ((b:Int) - (mid:Int))=((b - mid:Nat):Int):=wsub (by omega) (by omega)
  have w3:IntKind.i64.wrap ((mid:Int) + 1)=((mid + 1:Nat):Int):=wadd1 (by omega)
  rw [dif_pos ⟨g1,g2⟩,need_true (by rw [Array.length_toList,Array.length_toList]; omega),w1,w2,w3,bf_decide]
  by_cases hc:mid - a < b - mid
  ·rw [if_pos hc,if_pos (by omega)]
   obtain ⟨c1,c2⟩:=ih.call (F:=F) (a:=a) (b:=mid) (lim:=lim) (d:=d4) (by omega) (by omega) (by omega) (by omega) hl (by omega)
   rw [c1,Option.bind_some,need_true (by rw [Array.length_toList,Array.length_toList]; omega)]
   generalize Sort.pdq ltT d4 a mid lim true true=d5 at *
   obtain ⟨h1,h2⟩:=ih F g (mid + 1) b lim (decide (mid - a ≥ (b - a) / 8)) ap d5 (by omega) (by omega) (by omega) (by omega) hl (by omega) (by omega)
   refine ⟨.inl ⟨_,rfl,?_⟩,by omega⟩
   have e:decide ((((b - a) / 8:Nat):Int)≤((mid - a:Nat):Int))=decide (mid - a ≥ (b - a) / 8):=by
    rw [Bool.eq_iff_iff]; simp only [decide_eq_true_eq]; omega
   rw [e]
   exact h1
  ·rw [if_neg hc,if_neg (by omega)]
   obtain ⟨c1,c2⟩:=ih.call (F:=F) (a:=mid + 1) (b:=b) (lim:=lim) (d:=d4) (by omega) (by omega) (by omega) (by omega) hl (by omega)
   rw [c1,Option.bind_some,need_true (by rw [Array.length_toList,Array.length_toList]; omega)]
   generalize Sort.pdq ltT d4 (mid + 1) b lim true true=d5 at *
   obtain ⟨h1,h2⟩:=ih F g a mid lim (decide (b - mid ≥ (b - a) / 8)) ap d5 (by omega) (by omega) (by omega) (by omega) hl (by omega) (by omega)
   refine ⟨.inl ⟨_,rfl,?_⟩,by omega⟩
   have e:decide ((((b - a) / 8:Nat):Int)≤((b - mid:Nat):Int))=decide (b - mid ≥ (b - a) / 8):=by
    rw [Bool.eq_iff_iff]; simp only [decide_eq_true_eq]; omega
   rw [e]
   exact h1
theorem stageC {F g a b lim pivot:Nat} {hint:Sort.Hint} {wb wp:Bool} {d:Array Time} (ih:PdqOk (b - a)) (hab:a + 12 < b) (hp:a≤pivot∧pivot < b) (hb:b≤d.size) (hd:d.size < 1152921504606846976) (hl:lim < 1152921504606846976) (hg:b - a≤g) (hF:d.size + (b - a) + 20 < F) :
  stepTo F g (pK8 F (a:Int) (b:Int) (lim:Int) ((b - a:Nat):Int) wb wp (pivot:Int) (hintN hint) d.toList) (qC a b lim wb wp pivot hint d)∧(qC a b lim wb wp pivot hint d).size=d.size:=by
 have hK:pK8 F (a:Int) (b:Int) (lim:Int) ((b - a:Nat):Int) wb wp (pivot:Int) (hintN hint) d.toList=if wb && wp && hint = .increasing then ((slices_partialInsertionSortCmpFunc_Time__Compare_w F (a:Int) (b:Int) d.toList).bind fun r30=>need (r30.2.length=d.toList.length) <| bf r30.1 (some (.ret r30.2)) (pK10 F (a:Int) (b:Int) (lim:Int) ((b - a:Nat):Int) (pivot:Int) wb wp r30.2)) else pK10 F (a:Int) (b:Int) (lim:Int) ((b - a:Nat):Int) (pivot:Int) wb wp d.toList:=by
  unfold pK8
  cases wb <;> cases wp <;> cases hint <;> simp [jn,bf,hintN]
 rw [hK]
 unfold qC
 dsimp only
 by_cases hc:(wb && wp && decide (hint = .increasing))=true
 ·rw [if_pos hc,if_pos hc,partialInsertionSort_eq (by omega) hb hd (by omega),Option.bind_some]
  have hsz:(Sort.partialInsertionSort ltT d a b).1.size=d.size:=partialIns_sz a b 5 _ d
  generalize Sort.partialInsertionSort ltT d a b=r at *
  obtain ⟨d3,x⟩:=r
  simp only at hsz ⊢
  rw [need_true (by rw [Array.length_toList,Array.length_toList]; omega)]
  cases x with
  | true=>exact ⟨.inr rfl,hsz⟩
  | false =>
   simp only [bf_false,Bool.false_eq_true,if_false]
   have:=stageD (F:=F) (g:=g) (lim:=lim) (pivot:=pivot) (wb:=wb) (wp:=wp) (d:=d3) ih hab hp (by omega) (by omega) hl hg (by omega)
   exact ⟨this.1,by omega⟩
 ·rw [if_neg hc,if_neg hc]
  simp only [Bool.false_eq_true,if_false]
  exact stageD ih hab hp hb hd hl hg hF
theorem stageB {F g a b lim:Nat} {wb wp:Bool} {d:Array Time} (ih:PdqOk (b - a)) (hab:a + 12 < b) (hb:b≤d.size) (hd:d.size < 1152921504606846976) (hl:lim < 1152921504606846976) (hg:b - a≤g) (hF:d.size + (b - a) + 20 < F) :
  stepTo F g (pK5 F (a:Int) (b:Int) wb wp (lim:Int) ((b - a:Nat):Int) d.toList) (qB a b lim wb wp d)∧(qB a b lim wb wp d).size=d.size:=by
 unfold pK5 qB
 rw [choosePivot_eq (by omega) hb hd,Option.bind_some]
 obtain ⟨p1,p2⟩:=Sort.choosePivot_holds ltT d a b (by omega)
 generalize Sort.choosePivot ltT d a b=c at *
 obtain ⟨pivot,hint⟩:=c
 simp only [jn_eq] at p1 p2 ⊢
 by_cases hc:hint = .decreasing
 ·subst hc
  have hsz:=(Sort.reverseRange_holds d a b (by omega) hb).1
  rw [decide_eq_true (show hintN Sort.Hint.decreasing=2 from rfl),bf_true,reverseRange_eq (by omega) hb hd (by omega),Option.bind_some,need_true (by rw [Array.length_toList,Array.length_toList]; exact hsz)]
  have w1:IntKind.i64.wrap ((b:Int) - 1)=((b - 1:Nat):Int):=wsub1 (by omega) (by omega)
  have w2:IntKind.i64.wrap ((pivot:Int) - (a:Int))=((pivot - a:Nat):Int):=wsub (by omega) (by omega)
  have w3:IntKind.i64.wrap (((b - 1:Nat):Int) - ((pivot - a:Nat):Int))=(((b - 1) - (pivot - a):Nat):Int):=wsub (by omega) (by omega)
  rw [w1,w2,w3]
  simp only [if_true]
  have:=stageC (F:=F) (g:=g) (lim:=lim) (pivot:=(b - 1) - (pivot - a)) (hint:=.increasing) (wb:=wb) (wp:=wp) (d:=Sort.reverseRange d a b) ih hab (by omega) (by omega) (by omega) hl hg (by omega)
  exact ⟨this.1,this.2.trans hsz⟩
 ·have hn:hintN hint ≠ 2:=by cases hint <;> simp [hintN] at *
  rw [decide_eq_false hn,bf_false,if_neg hc]
  exact stageC ih hab ⟨p1,p2⟩ hb hd hl hg hF
theorem pdqOk:∀ m,PdqOk m:=by
 intro m
 induction m with
 | zero=>intro F g a b lim wb wp d h; omega
 | succ m ihm =>
  intro F g a b lim wb wp d hm hab hb hd hl hg hF
  have ih:PdqOk (b - a):=fun F' g' a' b' lim' wb' wp' d' h=>ihm F' g' a' b' lim' wb' wp' d' (by omega)
  cases g with
  | zero=>omega
  | succ g =>
   have e0:IntKind.i64.wrap ((b:Int) - (a:Int))=((b - a:Nat):Int):=wsub (by omega) (by omega)
   rw [pdq_unf]
   by_cases h1:b - a≤12
   ·rw [if_pos h1]
    refine ⟨?_,insertion_sz a b d⟩
    rw [loopN_ret (r:=(Sort.insertionSort ltT d a b).toList)]
    unfold pBody
    simp only [e0]
    rw [decide_eq_true (by omega),bf_true,insertion_eq hb (by omega) (by omega) (by omega),Option.bind_some]
   ·rw [if_neg h1]
    by_cases h2:lim=0
    ·rw [if_pos h2]
     refine ⟨?_,heapSort_sz a b d⟩
     rw [loopN_ret (r:=(Sort.heapSort ltT d a b).toList)]
     unfold pBody
     simp only [e0]
     rw [decide_eq_false (by omega),bf_false,decide_eq_true (by omega),bf_true,heapSort_eq (by omega) hb hd (by omega),Option.bind_some]
    ·rw [if_neg h2]
     have fin:∀ q:Array Time,stepTo F g (pBody F ((a:Int),(b:Int),(lim:Int),wb,wp,d.toList)) q→loopN (pBody F) (g + 1) ((a:Int),(b:Int),(lim:Int),wb,wp,d.toList)=some (.ret q.toList):=fun q hq=>by
      rcases hq with ⟨s,h3,h4⟩ | h3
      ·rw [loopN_next h3,h4]
      ·rw [loopN_ret h3]
     cases wb with
     | true =>
      simp only [if_true]
      have hB:pBody F ((a:Int),(b:Int),(lim:Int),true,wp,d.toList)=pK5 F (a:Int) (b:Int) true wp (lim:Int) ((b - a:Nat):Int) d.toList:=by
       unfold pBody
       simp only [e0,jn_eq]
       rw [decide_eq_false (by omega),bf_false,decide_eq_false (by omega),bf_false,Bool.not_true,bf_false]
      have:=stageB (F:=F) (g:=g) (a:=a) (b:=b) (lim:=lim) (wb:=true) (wp:=wp) (d:=d) ih (by omega) hb hd hl (by omega) hF
      exact ⟨fin _ (by rw [hB]; exact this.1),this.2⟩
     | false =>
      simp only [Bool.false_eq_true,if_false]
      have hsz:=(Sort.breakPatterns_holds d a b hab hb).1
      have hB:pBody F ((a:Int),(b:Int),(lim:Int),false,wp,d.toList)=pK5 F (a:Int) (b:Int) false wp ((lim - 1:Nat):Int) ((b - a:Nat):Int) (Sort.breakPatterns d a b).toList:=by
       unfold pBody
       simp only [e0,jn_eq]
       rw [decide_eq_false (by omega),bf_false,decide_eq_false (by omega),bf_false,Bool.not_false,bf_true,breakPatterns_eq (by omega) hb hd (by omega),Option.bind_some,need_true (by rw [Array.length_toList,Array.length_toList]; exact hsz),wsub1 (by omega) (by omega)]
      have:=stageB (F:=F) (g:=g) (a:=a) (b:=b) (lim:=lim - 1) (wb:=false) (wp:=wp) (d:=Sort.breakPatterns d a b) ih (by omega) (by omega) (by omega) (by omega) (by omega) (by omega)
      exact ⟨fin _ (by rw [hB]; exact this.1),this.2.trans hsz⟩
theorem sortFunc_eq {fuel:Nat} {l:List Time} (hl:l.length < 1152921504606846976) (hf:2 * l.length + 30 < fuel) :
  slices_SortFuncfreshet_api_Time_freshet_api_Time_Time__Compare_w fuel l=some (Sort.sort ltT l.toArray).toList:=by
 unfold slices_SortFuncfreshet_api_Time_freshet_api_Time_Time__Compare_w
 have e:IntKind.u64.wrap (l.length:Int)=(l.length:Int):=uwrap (k:=.u64) rfl (show l.length < 2 ^ 64 by omega)
 rw [e,len_eq (by omega),Option.bind_some]
 have hL:Sort.bitsLen l.length≤60:=bitsLen_lt hl
 have:=((pdqOk (l.length + 1)).call (F:=fuel) (a:=0) (b:=l.length) (lim:=Sort.bitsLen l.length) (d:=l.toArray) (by omega) (by omega) (by simp) (by simpa using hl) (by omega) (by simp; omega)).1
 rw [show ((0:Nat):Int)=0 from rfl,List.toList_toArray] at this
 rw [this,Option.bind_some]
 unfold Sort.sort
 rw [List.size_toArray]
end Go.Av
namespace Go.Av
open Go
set_option linter.unusedVariables false
set_option linter.unusedSimpArgs false
theorem eqT_iff {x y:Time}:eqTime x y=true↔x=y:=by
 constructor
 ·intro h
  simp only [eqTime,Bool.and_eq_true,decide_eq_true_eq,Bool.and_true] at h
  exact Time.ext' h.1 h.2.1 h.2.2
 ·rintro rfl; exact eqTime_self x
theorem le_anti {a b:Time} (h:leT a b=true) (g:leT b a=true):a=b:=eqT_iff.1 (leT_anti h g)
theorem not_lt_of_le {a b:Time} (h:leT a b=true):ltT b a=false:=by
 cases e:ltT b a with
 | false=>rfl
 | true=>rw [leT_iff] at h; rw [ltT_iff] at e; omega
theorem lt_or {a b:Time} (h:ltT b a=false) (hne:a ≠ b):ltT a b=true:=by
 cases e:ltT a b with
 | true=>rfl
 | false =>
  refine absurd ?_ hne
  rw [← Bool.not_eq_true,ltT_iff] at h e
  exact Time.ext' (by omega) (by omega) (by omega)
structure IsF (l f:List Time):Prop where
 sorted:f.Pairwise fun x y=>ltT x y=true
 sub:∀ x ∈ f,x ∈ l
 below:∀ y ∈ l,∃ u ∈ f,leT u y=true
 least:∀ x ∈ f,∀ y ∈ l,leT y x=true→y=x
theorem IsF.mem {l f:List Time} (h:IsF l f) (x:Time):x ∈ f↔x ∈ l∧∀ y ∈ l,leT y x=true→y=x:=by
 constructor
 ·exact fun hx=>⟨h.sub x hx,h.least x hx⟩
 ·rintro ⟨hx,hm⟩
  obtain ⟨u,hu,hle⟩:=h.below x hx
  rw [← hm u (h.sub u hu) hle]
  exact hu
theorem IsF.congr {l m f:List Time} (h:IsF l f) (e:∀ x,x ∈ l↔x ∈ m):IsF m f :=
 ⟨h.sorted,fun x hx=>(e x).1 (h.sub x hx),fun y hy=>h.below y ((e y).2 hy),fun x hx y hy=>h.least x hx y ((e y).2 hy)⟩
theorem IsF.step {p f:List Time} {t:Time} (h:IsF p f) (hs:∀ x ∈ p,ltT t x=false):IsF (p++[t]) (if f.any (fun u=>leT u t) then f else f++[t]):=by
 by_cases hc:f.any (fun u=>leT u t)=true
 ·rw [if_pos hc]
  obtain ⟨u,hu,hut⟩:=List.any_eq_true.1 hc
  refine ⟨h.sorted,fun x hx=>List.mem_append.2 (.inl (h.sub x hx)),?_,?_⟩
  ·intro y hy
   rcases List.mem_append.1 hy with hy | hy
   ·exact h.below y hy
   ·rw [List.mem_singleton.1 hy]; exact ⟨u,hu,hut⟩
  ·intro x hx y hy hle
   rcases List.mem_append.1 hy with hy | hy
   ·exact h.least x hx y hy hle
   ·rw [List.mem_singleton.1 hy] at hle ⊢
    have hux:=h.least x hx u (h.sub u hu) (leT_trans hut hle)
    subst hux
    exact le_anti hle hut
 ·rw [if_neg hc]
  have hno:∀ u ∈ f,leT u t=false:=fun u hu=>by
   cases e:leT u t with
   | false=>rfl
   | true=>exact absurd (List.any_eq_true.2 ⟨u,hu,e⟩) hc
  have hnp:∀ y ∈ p,leT y t=false:=fun y hy=>by
   obtain ⟨u,hu,hle⟩:=h.below y hy
   cases e:leT y t with
   | false=>rfl
   | true=>have:=leT_trans hle e; rw [hno u hu] at this; cases this
  refine ⟨?_,?_,?_,?_⟩
  ·rw [List.pairwise_append]
   refine ⟨h.sorted,by simp,fun x hx y hy => ?_⟩
   rw [List.mem_singleton.1 hy]
   refine lt_or (hs x (h.sub x hx)) (fun e => ?_)
   subst e
   have:=hno x hx
   rw [leT_refl] at this; cases this
  ·intro x hx
   rcases List.mem_append.1 hx with hx | hx
   ·exact List.mem_append.2 (.inl (h.sub x hx))
   ·exact List.mem_append.2 (.inr hx)
  ·intro y hy
   rcases List.mem_append.1 hy with hy | hy
   ·obtain ⟨u,hu,hle⟩:=h.below y hy
    exact ⟨u,List.mem_append.2 (.inl hu),hle⟩
   ·exact ⟨y,List.mem_append.2 (.inr hy),leT_refl y⟩
  ·intro x hx y hy hle
   rcases List.mem_append.1 hx with hx | hx
   ·rcases List.mem_append.1 hy with hy | hy
    ·exact h.least x hx y hy hle
    ·rw [List.mem_singleton.1 hy] at hle ⊢
     have h1:=hs x (h.sub x hx)
     have h2:=not_lt_of_le hle
     by_cases e:t=x
     ·exact e
     ·have:=lt_or h1 (fun h=>e h.symm); rw [h2] at this; cases this
   ·rw [List.mem_singleton.1 hx] at hle ⊢
    rcases List.mem_append.1 hy with hy | hy
    ·rw [hnp y hy] at hle; cases hle
    ·exact List.mem_singleton.1 hy
def frontS (l:List Time):List Time:=l.foldl (fun f t=>if f.any (fun u=>leT u t) then f else f++[t]) []
def sortT (l:List Time):List Time:=(Sort.sort ltT l.toArray).toList
def frontOf (l:List Time):List Time:=frontS (sortT l)
theorem sortT_perm (l:List Time):(sortT l).Perm l:=by
 have h:=(Sort.sort_sorts ltT swoT l.toArray).1
 obtain ⟨h1,_,h3⟩:=h
 have e1:(Sort.sort ltT l.toArray).extract 0 l.toArray.size=Sort.sort ltT l.toArray:=by rw [← h1]; simp
 have e2:l.toArray.extract 0 l.toArray.size=l.toArray:=by simp
 rw [e1,e2] at h3
 exact h3
theorem sortT_length (l:List Time):(sortT l).length=l.length:=(sortT_perm l).length_eq
theorem frontS_length (l:List Time):(frontS l).length≤l.length:=by
 have key:∀ (r f:List Time),(r.foldl (fun f t=>if f.any (fun u=>leT u t) then f else f++[t]) f).length≤f.length + r.length:=by
  intro r
  induction r with
  | nil=>intro f; exact Nat.le_refl _
  | cons t r ih =>
   intro f
   rw [List.foldl_cons]
   refine Nat.le_trans (ih _) ?_
   split
   ·rw [List.length_cons]; omega
   ·rw [List.length_append,List.length_singleton,List.length_cons]; omega
 have:=key l []
 rw [List.length_nil,Nat.zero_add] at this
 exact this
theorem frontOf_length (l:List Time):(frontOf l).length≤l.length:=by
 have:=frontS_length (sortT l)
 rw [sortT_length] at this
 exact this
end Go.Av
namespace Go.Av
open Go
set_option linter.unusedVariables false
set_option linter.unusedSimpArgs false
abbrev NN (l:List Time):Prop := ∀ x ∈ l,nnTime x
theorem getD_mem {X:Type} [Inhabited X] {l:List X} {i:Nat} (h:i < l.length):l.getD i default ∈ l:=by
 rw [List.getD_eq_getElem?_getD,List.getElem?_eq_getElem h]
 exact List.getElem_mem h
theorem take_succ {X:Type} [Inhabited X] {l:List X} {i:Nat} (h:i < l.length):l.take (i + 1)=l.take i++[l.getD i default]:=by
 rw [List.take_add_one,List.getElem?_eq_getElem h,List.getD_eq_getElem?_getD,List.getElem?_eq_getElem h]
 rfl
theorem range_any {X R:Type} [Inhabited X] {B:Nat→Unit→Option (Ctl Unit R)} {l:List X} {p:X→Bool} {f:Nat→R} {Q:Type} {kn:Unit→Option Q} {kr:R→Option Q} {q:Option Q}
  (hB:∀ i u,i < l.length→B i u=if p (l.getD i default)=true then some (.ret (f i)) else some (.next ()))
  (hn:l.any p=false→kn ()=q) (hr:∀ i,i < l.length→l.any p=true→kr (f i)=q):outK (rangeN B l.length 0 ()) kn kr=q:=by
 have key:∀ k i,i + k=l.length→(l.take i).any p=false→outK (rangeN B k i ()) kn kr=q:=by
  intro k
  induction k with
  | zero =>
   intro i hi h
   rw [List.take_of_length_le (by omega)] at h
   exact hn h
  | succ k ih =>
   intro i hi h
   simp only [rangeN,hB i () (by omega)]
   by_cases hp:p (l.getD i default)=true
   ·rw [if_pos hp]
    exact hr i (by omega) (List.any_eq_true.2 ⟨_,getD_mem (by omega),hp⟩)
   ·rw [if_neg hp]
    refine ih (i + 1) (by omega) ?_
    rw [take_succ (by omega),List.any_append,h]
    simpa using hp
 exact key l.length 0 (by omega) rfl
theorem beyond_eq {f:List Time} {t:Time} (hf:NN f) (ht:nnTime t):moment_Beyond f t=some (f.any fun u=>leT u t):=by
 unfold moment_Beyond slices_ContainsFuncfreshet_api_Time_freshet_api_Time_Time__Beyond_1 slices_IndexFuncfreshet_api_Time_freshet_api_Time_Time__Beyond_1
 have h:(outK (rangeN (S:=Unit) (R:=Int) (fun i1 (a2:Unit)=>(moment_Beyond_1 (f.getD i1 default) t).bind fun r4=>bf r4 (some (.ret ((i1:Nat):Int))) (some (.next ()))) f.length 0 ()) (fun (a3:Unit)=>some (-1)) (fun x=>some x)).bind (fun r1=>some (decide (0≤r1)))=some (f.any fun u=>leT u t):=by
  have:∀ o:Option Int,(o.bind fun r1=>some (decide (0≤r1)))=o.map fun r1=>decide (0≤r1):=fun o=>by cases o <;> rfl
  rw [this]
  have hm:∀ (o:Option (Out Unit Int)),(outK o (fun (a3:Unit)=>some (-1)) (fun x=>some x)).map (fun r1=>decide (0≤r1))=outK o (fun _=>some false) (fun x=>some (decide (0≤x))):=fun o=>by
   cases o with
   | none=>rfl
   | some o=>cases o <;> rfl
  rw [hm]
  refine range_any (p:=fun u=>leT u t) (f:=fun i=>(i:Int)) ?_ (fun h=>by rw [h]) (fun i hi h=>by rw [h,decide_eq_true (by omega)])
  intro i u hi
  unfold moment_Beyond_1
  rw [ahead_eq (hf _ (getD_mem hi)) ht]
  simp only [Option.bind_some]
  cases leT (f.getD i default) t <;> rfl
 rw [h]; rfl
theorem refSame_self (a:List Time):freshetref04_Same a a=some true:=by
 unfold freshetref04_Same
 rw [decide_eq_true (by omega),Bool.not_true,bf_false,rangeN_to () (fun _ _=>True) (fun _ _=>rfl)]
 ·rfl
 ·intro i u hi _
  refine ⟨(),?_,trivial⟩
  rw [need_true (by omega),eqTime_self]
  rfl
 ·trivial
theorem front_eq {fuel:Nat} {l:List Time} (hl:NN l) (hz:l.length≤274877906944) (hf:2 * l.length + 30 < fuel):moment_Front fuel l=some (frontOf l):=by
 unfold moment_Front slices_Clonefreshet_api_Time_freshet_api_Time_Time
 have hs:NN (sortT l):=fun x hx=>hl x ((sortT_perm l).mem_iff.1 hx)
 have hlen:=sortT_length l
 rw [need_true hz,Option.bind_some,sortFunc_eq (by omega) hf,Option.bind_some]
 show need ((sortT l).length=l.length) _=_
 rw [need_true hlen]
 rw [show (Sort.sort ltT l.toArray).toList=sortT l from rfl]
 unfold frontOf frontS
 generalize sortT l=s at *
 rw [rangeN_to (s.foldl (fun f t=>if f.any (fun u=>leT u t) then f else f++[t]) []) (fun i a=>a=(s.take i).foldl (fun f t=>if f.any (fun u=>leT u t) then f else f++[t]) []) (fun a h=>by rw [h,List.take_of_length_le (Nat.le_refl _)])]
 ·rfl
 ·rintro i a hi rfl
  have hle:((s.take i).foldl (fun f t=>if f.any (fun u=>leT u t) then f else f++[t]) []).length≤i:=by
   have:=frontS_length (s.take i)
   unfold frontS at this
   rw [List.length_take] at this
   omega
  have hnn:NN ((s.take i).foldl (fun f t=>if f.any (fun u=>leT u t) then f else f++[t]) []):=by
   have key:∀ (r f:List Time),NN r→NN f→NN (r.foldl (fun f t=>if f.any (fun u=>leT u t) then f else f++[t]) f):=by
    intro r
    induction r with
    | nil=>intro f _ h; exact h
    | cons t r ih =>
     intro f hr h
     rw [List.foldl_cons]
     refine ih _ (fun x hx=>hr x (List.mem_cons_of_mem _ hx)) ?_
     split
     ·exact h
     ·intro x hx
      rcases List.mem_append.1 hx with hx | hx
      ·exact h x hx
      ·rw [List.mem_singleton.1 hx]; exact hr t (List.mem_cons_self ..)
   exact key _ _ (fun x hx=>hs x (List.mem_of_mem_take hx)) (fun x h=>nomatch h)
  refine ⟨_,?_,rfl⟩
  rw [Nat.zero_add,need_true hi,beyond_eq hnn (hs _ (getD_mem hi)),Option.bind_some,take_succ hi,List.foldl_append,List.foldl_cons,List.foldl_nil]
  generalize (s.take i).foldl (fun f t=>if f.any (fun u=>leT u t) then f else f++[t]) []=f at *
  cases hc:f.any (fun u=>leT u (s.getD i default)) with
  | true=>simp only [Bool.not_true,bf_false,if_true]
  | false =>
   rw [Bool.not_false,bf_true,need_true (by rw [List.length_singleton]; omega)]
   simp
 ·rfl
end Go.Av
namespace Go.Av
open Go
set_option linter.unusedVariables false
set_option linter.unusedSimpArgs false
def adv (t:Time) (f:List Time):Time:=if f=[] then t else lub2 t (glbL f)
theorem lub2_glb2 {t a b:Time}:glb2 (lub2 t a) (lub2 t b)=lub2 t (glb2 a b):=by
 refine Time.ext' ?_ ?_ ?_ <;> simp only [lub2,glb2,mx_eq,mn_eq] <;> omega
theorem glbL_map {t:Time} {f:List Time} (h:f ≠ []):glbL (f.map (lub2 t))=lub2 t (glbL f):=by
 cases f with
 | nil=>exact absurd rfl h
 | cons x f =>
  simp only [List.map_cons,glbL]
  induction f generalizing x with
  | nil=>rfl
  | cons y f ih =>
   simp only [List.map_cons,List.foldl_cons]
   rw [lub2_glb2]
   exact ih (glb2 x y) (by simp)
theorem lub_two {t u:Time} (ht:nnTime t) (hu:nnTime u):moment_Lub [t,u]=some (lub2 t u):=by
 unfold moment_Lub
 rw [foldGreatest_eq (fun x hx=>by
  rcases List.mem_cons.1 hx with rfl | hx
  ·exact ht
  ·rw [List.mem_singleton.1 hx]; exact hu),lubL_two ht]
 rfl
theorem advance_eq {t:Time} {f:List Time} (ht:nnTime t) (hf:NN f) (hl:f.length≤274877906944):moment_Advance t f=some (adv t f):=by
 unfold moment_Advance adv
 by_cases h0:f=[]
 ·rw [if_pos h0,h0]; rfl
 ·have hlen:f.length ≠ 0:=fun e=>h0 (List.eq_nil_of_length_eq_zero e)
  rw [if_neg h0,decide_eq_false (by omega),bf_false,need_true (by unfold lim; omega)]
  rw [rangeN_to (f.map (lub2 t)) (fun i a=>a=(f.take i).map (lub2 t)++List.replicate (f.length - i) (⟨0,(0,0)⟩:Time)) (fun a h=>by rw [h,List.take_of_length_le (Nat.le_refl _),Nat.sub_self]; simp)]
  ·simp only [outK_done]
   unfold moment_Glb
   rw [foldLeast_eq,glbL_map h0]; rfl
  ·rintro i a hi rfl
   refine ⟨_,?_,rfl⟩
   have hlen2:((f.take i).map (lub2 t)++List.replicate (f.length - i) (⟨0,(0,0)⟩:Time)).length=f.length:=by
    rw [List.length_append,List.length_map,List.length_take,List.length_replicate]; omega
   rw [lub_two ht (hf _ (getD_mem hi)),Option.bind_some,hlen2,Nat.zero_add,need_true (by omega),need_true (by omega),take_succ hi,List.map_append,show f.length - i=(f.length - (i + 1)) + 1 by omega,List.replicate_succ]
   have e:=List.set_append_right (s:=(f.take i).map (lub2 t)) (t:=(⟨0,(0,0)⟩:Time) :: List.replicate (f.length - (i + 1)) (⟨0,(0,0)⟩:Time)) i (lub2 t (f.getD i default)) (by rw [List.length_map,List.length_take]; omega)
   rw [e,List.length_map,List.length_take,show i - min i f.length=0 by omega]
   simp
  ·simp
end Go.Av
namespace Go.Av
open Go
set_option linter.unusedVariables false
set_option linter.unusedSimpArgs false
theorem front_nil:frontOf []=[]:=List.eq_nil_of_length_eq_zero (Nat.le_zero.1 (frontOf_length []))
theorem adv_nn {t:Time} {f:List Time} (ht:nnTime t) (hf:NN f):nnTime (adv t f):=by
 unfold adv
 split
 ·exact ht
 ·exact lub2_nn ht (glbL_nn hf)
theorem adv_adv (t:Time) (f:List Time):adv (adv t f) f=adv t f:=by
 unfold adv
 split
 ·rfl
 ·refine Time.ext' ?_ ?_ ?_ <;> simp only [lub2,mx_eq] <;> omega
end Go.Av
namespace Go.Av
open Go
set_option linter.unusedVariables false
set_option linter.unusedSimpArgs false
def Fr (l:List Time):Prop:=(∀ t ∈ l,okT t=true)∧frontOf l=l
theorem checkT_eq {fuel:Nat} (hf:5 < fuel) (l:List Time):∃ e,moment_Check fuel l=some e∧(e=0↔∀ t ∈ l,okT t=true):=by
 unfold moment_Check
 rw [rangeN_chk (fun t=>if okT t=true then 0 else 1) (fun x=>x)]
 ·have key:∀ l:List Time,l.foldr (fun x v=>thenC (if okT x=true then 0 else 1) v) (0:Int)=0↔∀ t ∈ l,okT t=true:=fun l=>by
   induction l with
   | nil=>simp
   | cons t l ih =>
    rw [List.foldr_cons,thenC_zero,ih]
    by_cases h:okT t=true <;> simp [h]
  refine ⟨l.foldr (fun x v=>thenC (if okT x=true then 0 else 1) v) (0:Int),?_,key l⟩
  split
  ·rename_i h; rw [h]; rfl
  ·rfl
 ·intro i hi
  have h:=momentCheck_eq hf (l.getD i default)
  unfold moment_Check at h
  simp only [List.length_cons,List.length_nil,Nat.zero_add,rangeN,List.getD_cons_zero] at h
  simp only [max2_eq hf,Option.bind_some,bf_decide] at h ⊢
  generalize l.getD i default=t at *
  unfold okT at *
  simp only [mx_eq] at *
  by_cases g:4611686018427387904 < max t.epoch (max t.loop.1 t.loop.2)
  ·rw [if_pos g,if_neg (by rw [if_neg (by simp only [Bool.and_eq_true,decide_eq_true_eq]; omega)]; decide),if_neg (by simp only [Bool.and_eq_true,decide_eq_true_eq]; omega)]
  ·rw [if_neg g,if_pos (by rw [if_pos (by simp only [Bool.and_eq_true,decide_eq_true_eq]; omega)])]
theorem equalT_eq (a b:List Time):∃ r,slices_Equalfreshet_api_Time_freshet_api_Time_Time a b=some r∧(r=true↔a=b):=by
 unfold slices_Equalfreshet_api_Time_freshet_api_Time_Time
 by_cases hl:a.length=b.length
 ·rw [decide_eq_true (by omega:(a.length:Int)=(b.length:Int))]
  simp only [Bool.not_true,bf_false]
  have key:∀ k i,i + k=a.length→∃ r,outK (rangeN (S:=Unit) (R:=Bool) (fun i1 (a2:Unit)=>need ((0:Int)≤((i1:Nat):Int)∧((i1:Nat):Int) < (b.length:Int)) <| bf (!(eqTime (a.getD i1 default) (b.getD i1 default))) (some (.ret false)) (some (.next ()))) k i ()) (fun (a3:Unit)=>some true) (fun x=>some x)=some r∧(r=true↔a.drop i=b.drop i):=by
   intro k
   induction k with
   | zero =>
    intro i hi
    refine ⟨true,rfl,?_⟩
    rw [List.drop_eq_nil_of_le (by omega:a.length≤i),List.drop_eq_nil_of_le (by omega:b.length≤i)]
    simp
   | succ k ih =>
    intro i hi
    simp only [rangeN]
    rw [need_true (by omega),drop_cons_getD (by omega:i < a.length),drop_cons_getD (by omega:i < b.length)]
    by_cases he:eqTime (a.getD i default) (b.getD i default)=true
    ·rw [he]
     obtain ⟨r,h1,h2⟩:=ih (i + 1) (by omega)
     refine ⟨r,h1,?_⟩
     rw [h2,eqT_iff.1 he]
     simp
    ·have he' : eqTime (a.getD i default) (b.getD i default)=false:=by simpa using he
     rw [he']
     refine ⟨false,rfl,?_⟩
     simp only [Bool.false_eq_true,false_iff,List.cons.injEq,not_and]
     intro h
     exact absurd (eqT_iff.2 h) he
  obtain ⟨r,h1,h2⟩:=key a.length 0 (by omega)
  exact ⟨r,h1,by simpa using h2⟩
 ·rw [decide_eq_false (by omega:¬ (a.length:Int)=(b.length:Int))]
  exact ⟨false,rfl,by simp; intro h; exact hl (by rw [h])⟩
theorem front_ex {fuel:Nat} {l:List Time} (hf:20000000≤fuel) (hn:l.length≤2000000) (hl:NN l):∃ b,batch_front fuel l=some b∧(b=true↔Fr l):=by
 unfold batch_front
 obtain ⟨e,h1,h2⟩:=checkT_eq (fuel:=fuel) (by omega) l
 rw [h1]
 simp only [Option.bind_some,jn_eq,bf_decide]
 by_cases h:e=0
 ·rw [if_pos h,front_eq hl (by omega) (by omega)]
  obtain ⟨r,g1,g2⟩:=equalT_eq (frontOf l) l
  simp only [Option.bind_some]
  rw [g1]
  exact ⟨r,rfl,by rw [g2]; exact ⟨fun g=>⟨h2.1 h,g⟩,fun g=>g.2⟩⟩
 ·rw [if_neg h]
  exact ⟨false,rfl,by simp only [Bool.false_eq_true,false_iff]; exact fun g=>h (h2.2 g.1)⟩
theorem Fr_nil:Fr []:=⟨fun t ht=>(by cases ht),front_nil⟩
def advU (f:List Time) (u:Update):Update:=⟨u.key,u.row,adv u.time f,u.diff⟩
def advL (f:List Time) (l:List Update):List Update:=l.map (advU f)
theorem advU_nil (u:Update):advU [] u=u:=by unfold advU adv; simp
theorem advL_nil (l:List Update):advL [] l=l:=by
 unfold advL
 rw [show advU []=id from funext advU_nil,List.map_id]
def AdvOk (f:List Time) (l R:List Update) (e:Int):Prop:=(chkL l ≠ 0∧R=[]∧e=chkL l)∨(chkL l=0∧ConsOk (advL f l) R e)
theorem advanced_ok {fuel:Nat} {f:List Time} {ls:List (List Update)} (hf:20000000≤fuel) (hF:NN f) (hl:f.length≤2000000) (hn:ls.flatten.length≤4000000) (hd:∀ u ∈ ls.flatten,in64 u.diff) (ht:∀ u ∈ ls.flatten,nnTime u.time) :
  ∃ R e,batch_advanced fuel f ls=some (R,e)∧AdvOk f ls.flatten R e∧R.length≤ls.flatten.length:=by
 unfold batch_advanced
 rw [show slices_Concatfreshet_api_Update_freshet_api_Update_Update ls=some ls.flatten from concG_eq hn]
 simp only [Option.bind_some]
 generalize ls.flatten=l at *
 rw [diffCheck_eq (by omega)]
 simp only [Option.bind_some,bf_not,bf_decide]
 by_cases h:chkL l=0
 ·rw [if_pos h]
  rw [rangeN_to (advL f l) (fun i a=>a=advL f (l.take i)++l.drop i) (fun s hs=>by rw [hs,List.take_length,List.drop_length,List.append_nil])]
  ·simp only [outK_done]
   have hfl:([advL f l]:List (List Update)).flatten=advL f l:=by simp
   obtain ⟨R,e,h1,h2,h3⟩:=cons_ok (fuel:=fuel) (ls:=[advL f l]) hf (by rw [hfl]; simp [advL]; exact hn) (fun u hu=>by
    rw [hfl] at hu
    obtain ⟨v,hv,rfl⟩:=List.mem_map.1 hu
    exact hd v hv)
   rw [hfl] at h2 h3
   rw [h1]
   exact ⟨R,e,rfl,.inr ⟨h,h2⟩,by simpa [advL] using h3⟩
  ·intro i a hi ha
   have hla:(advL f (l.take i)).length=i:=by simp [advL]; omega
   have hlen:a.length=l.length:=by rw [ha]; simp [hla]; omega
   have hg:a.getD i default=l.getD i default:=by
    rw [ha,drop_cons_getD hi]
    have:=getD_mid (advL f (l.take i)) (l.drop (i + 1)) (l.getD i default)
    rwa [hla] at this
   refine ⟨_,?_,rfl⟩
   simp only [Nat.zero_add]
   rw [need_true (by omega),need_true (by omega),hg,advance_eq (ht _ (getD_mem' hi)) hF (by omega)]
   simp only [Option.bind_some]
   rw [need_true (by omega),need_true (by omega)]
   congr 2
   rw [ha,drop_cons_getD hi]
   have:=set_mid (advL f (l.take i)) (l.drop (i + 1)) (l.getD i default) (advU f (l.getD i default))
   rw [hla] at this
   have e1:advL f (l.take (i + 1))=advL f (l.take i)++[advU f (l.getD i default)]:=by rw [take_succ_getD hi]; simp [advL]
   rw [e1,List.append_assoc]
   exact this
  ·simp [advL]
 ·rw [if_neg h]
  exact ⟨_,_,rfl,.inl ⟨h,rfl,rfl⟩,Nat.zero_le _⟩
def BuildOk (f:List Time) (l:List Update) (B:Batch) (e:Int):Prop :=
 (¬ Fr f∧e=4∧B=⟨[],[]⟩)∨(Fr f∧∃ R e',AdvOk f l R e' ∧ R.length≤l.length∧((e' ≠ 0∧e=e' ∧ B=⟨[],[]⟩)∨(e' = 0∧e=0∧B=⟨f,R⟩)))
theorem build_ok {fuel:Nat} {f:List Time} {ls:List (List Update)} (hf:20000000≤fuel) (hF:NN f) (hl:f.length≤2000000) (hn:ls.flatten.length≤4000000) (hd:∀ u ∈ ls.flatten,in64 u.diff) (ht:∀ u ∈ ls.flatten,nnTime u.time) :
  ∃ B e,batch_Build fuel f ls=some (B,e)∧BuildOk f ls.flatten B e:=by
 unfold batch_Build
 obtain ⟨b,h1,h2⟩:=front_ex (fuel:=fuel) hf hl hF
 rw [h1]
 simp only [Option.bind_some]
 cases b with
 | false=>exact ⟨_,_,rfl,.inl ⟨fun g=>(by cases h2.2 g),rfl,rfl⟩⟩
 | true =>
  obtain ⟨R,e',g1,g2,g3⟩:=advanced_ok (fuel:=fuel) hf hF hl hn hd ht
  rw [g1]
  simp only [Bool.not_true,bf_false,Option.bind_some,bf_not,bf_decide]
  by_cases h:e' = 0
  ·rw [if_pos h]
   unfold slices_Clonefreshet_api_Time_freshet_api_Time_Time
   rw [need_true (by omega)]
   exact ⟨_,_,rfl,.inr ⟨h2.1 rfl,R,e',g2,g3,.inr ⟨h,rfl,rfl⟩⟩⟩
  ·rw [if_neg h]
   exact ⟨_,_,rfl,.inr ⟨h2.1 rfl,R,e',g2,g3,.inl ⟨h,rfl,rfl⟩⟩⟩
theorem build_fine {f:List Time} {l:List Update} {B:Batch} {e:Int} (h:BuildOk f l B e) (he:e=0) :
  Fr f∧chkL l=0∧chkL (advL f l)=0∧∃ R,B=⟨f,R⟩∧TotU (advL f l) R 0∧R.length≤l.length:=by
 rcases h with ⟨_,h,_⟩ | ⟨h1,R,e',h2,h3,⟨h4,h5,_⟩ | ⟨h4,_,h5⟩⟩
 ·omega
 ·omega
 ·rcases h2 with ⟨g1,g2,g3⟩ | ⟨g1,⟨g2,g3,g4⟩ | ⟨g2,g3⟩⟩
  ·omega
  ·omega
  ·exact ⟨h1,g1,g2,R,h5,h4 ▸ g3,h3⟩
theorem tot_adv {f:List Time} {l R:List Update} {e:Int} (h:TotU (advL f l) R e):∀ r ∈ R,advU f r=r:=fun r hr=>by
 rcases h with ⟨_,h,_⟩ | ⟨_,rfl,_⟩
 ·obtain ⟨y,h1,h2⟩:=h.mem r hr
  obtain ⟨z,h3,h4⟩:=PR_mem.1 h1
  obtain ⟨u,_,rfl⟩:=List.mem_map.1 h3
  rw [h2,← h4]
  unfold advU putUpdate
  simp only [adv_adv]
 ·cases hr
theorem advL_self {f:List Time} {R:List Update} (h:∀ r ∈ R,advU f r=r):advL f R=R:=by
 unfold advL
 exact (List.map_congr_left h).trans (List.map_id R)
theorem build_again {f g:List Time} {l R:List Update} {B:Batch} {e:Int} (hT:TotU (advL f l) R 0) (h0:chkL (advL f l)=0) (hg:Fr g) (hR:advL g R=R) (h:BuildOk g R B e):e=0∧B=⟨g,R⟩:=by
 have hoR:=tot_memU hT (chkL_zero.1 h0)
 have hC:ConsOk (advL f l) R 0:=.inr ⟨h0,hT⟩
 rcases h with ⟨h,_⟩ | ⟨_,R',e',h2,_,h4⟩
 ·exact absurd hg h
 ·rcases h2 with ⟨g1,_⟩ | ⟨_,g2⟩
  ·exact absurd (chkL_zero.2 hoR) g1
  ·rw [hR] at g2
   obtain ⟨rfl,rfl⟩:=cons_again hC rfl h0 g2
   rcases h4 with ⟨h5,_⟩ | ⟨_,h6,h7⟩
   ·exact absurd rfl h5
   ·exact ⟨h6,h7⟩
theorem sameBatch_self (B:Batch):freshetref06_SameBatch B B=some true:=by
 unfold freshetref06_SameBatch
 rw [refSame_self,same05]
 rfl
theorem nn_mem {l R:List Update} {e:Int} {f:List Time} (h:TotU (advL f l) R e) (hF:NN f) (ht:∀ u ∈ l,nnTime u.time):∀ r ∈ R,nnTime r.time :=
 tot_time h fun u hu=>by
  obtain ⟨v,hv,rfl⟩:=List.mem_map.1 hu
  exact adv_nn (ht v hv) hF
theorem BatchTwice_true {fuel:Nat} {f:List Time} {l:List Update} (hL:freshetlaw06_lives fuel=some true) (hf:20000000≤fuel) (hF:NN f) (hl:f.length≤2000000) (hn:l.length≤2000000) (hd:∀ u ∈ l,in64 u.diff) (ht:∀ u ∈ l,nnTime u.time) :
  freshetlaw06_BatchTwice fuel f l=some true:=by
 unfold freshetlaw06_BatchTwice
 have e1:∀ x:List Update,([x]:List (List Update)).flatten=x:=fun x=>by simp
 obtain ⟨B,e,h1,h2⟩:=build_ok (fuel:=fuel) (f:=f) (ls:=[l]) hf hF hl (by rw [e1]; omega) (by rw [e1]; exact hd) (by rw [e1]; exact ht)
 rw [hL,h1]
 rw [e1] at h2
 simp only [Option.bind_some,Bool.not_true,bf_false,bf_not,bf_decide,jn_eq]
 by_cases h:e=0
 ·rw [if_pos h]
  obtain ⟨g1,g2,g3,R,rfl,g4,g5⟩:=build_fine h2 h
  have hself:=tot_adv g4
  have hdR:=tot_inU g4
  have htR:=nn_mem g4 hF ht
  obtain ⟨B2,e2,k1,k2⟩:=build_ok (fuel:=fuel) (f:=f) (ls:=[R]) hf hF hl (by rw [e1]; omega) (by rw [e1]; exact hdR) (by rw [e1]; exact htR)
  obtain ⟨B3,e3,m1,m2⟩:=build_ok (fuel:=fuel) (f:=[]) (ls:=[R]) hf (fun x hx=>by cases hx) (by simp) (by rw [e1]; omega) (by rw [e1]; exact hdR) (by rw [e1]; exact htR)
  rw [e1] at k2 m2
  obtain ⟨rfl,rfl⟩:=build_again g4 g3 g1 (advL_self hself) k2
  obtain ⟨rfl,rfl⟩:=build_again g4 g3 Fr_nil (advL_nil R) m2
  rw [k1]
  simp only [Option.bind_some]
  rw [m1]
  simp only [Option.bind_some,if_true,sameBatch_self,bf_true,same05]
 ·rw [if_neg h]
  rfl
end Go.Av
namespace Go.Av
open Go
set_option linter.unusedVariables false
theorem lives_eq:freshetlaw06_lives 100000000=some true:=by kernel_rfl
theorem in64_of {n:Int} (h:okInt .i64 n):in64 n:=by
 have:=Go.bounds_i64 h
 unfold in64
 omega
theorem nonneg_u64 {n:Int} (h:okInt .u64 n):0≤n:=(Go.bounds_u64 h).1
theorem nnTime_of {t:Time} (h:okTime t):nnTime t:=⟨nonneg_u64 h.1,nonneg_u64 h.2.1.1,nonneg_u64 h.2.1.2⟩
abbrev okUs (l:List Update):Prop:=l.length≤maxN∧∀ x ∈ l,okUpdate x
abbrev okTs (l:List Time):Prop:=l.length≤maxN∧∀ x ∈ l,okTime x
theorem us_in {l:List Update} (h:okUs l):∀ u ∈ l,in64 u.diff:=fun u hu=>in64_of (h.2 u hu).2.2.2.1
theorem us_nn {l:List Update} (h:okUs l):∀ u ∈ l,nnTime u.time:=fun u hu=>nnTime_of (h.2 u hu).2.2.1
theorem ts_nn {l:List Time} (h:okTs l):∀ u ∈ l,nnTime u:=fun u hu=>nnTime_of (h.2 u hu)
theorem us_len (l:List Update):l.length≤(l.map bulkUpdate).sum:=length_le_sum (f:=bulkUpdate) (fun x=>by unfold bulkUpdate; omega) l
theorem ts_len (l:List Time):l.length≤(l.map bulkTime).sum:=length_le_sum (f:=bulkTime) (fun x=>by unfold bulkTime; omega) l
theorem BatchTwice_row {f:List Time} {l:List Update} (h1:okTs f) (h2:okUs l) (hb:((f.map bulkTime).sum + 1) + (((l.map bulkUpdate).sum + 1) + 0)≤1048576):freshetlaw06_BatchTwice 100000000 f l=some true:=by
 have:=us_len l
 have:=ts_len f
 exact BatchTwice_true lives_eq (by omega) (ts_nn h1) (by omega) (by omega) (us_in h2) (us_nn h2)
end Go.Av
