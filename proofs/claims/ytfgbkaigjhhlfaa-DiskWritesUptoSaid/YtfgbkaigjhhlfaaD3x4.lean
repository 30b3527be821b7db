import Derived.Test.YtfgbkaigjhhlfaaD3x3
import Derived.KernelRfl
set_option maxRecDepth 100000
set_option linter.unusedVariables false
set_option linter.unusedSimpArgs false
set_option linter.unusedSectionVars false
open Go.IntKind renaming i64→zzi
open Inhabited renaming default→zzd
open Option renaming bind_some→zz3
open List renaming mem_cons_self→zz6, mem_cons_of_mem→zz7, take_append_drop→zzc
open Int renaming toNat_natCast→zz8
open Nat renaming zero_add→zza, le_refl→zzb
namespace Go.Av
open Go
theorem z83 {S R X:Type}[Inhabited X]{B:Nat→S→Option (Ctl S R)}{l:List X}(P:X→Bool)(f:Nat→R){s:S}
 (hB: ∀i,i<l.length→B i s=if P (l.getD i zzd)then some (.ret (f i))else some (.next s)):
 (l.any P=false∧z0l B l.length 0 s=some (.done s))∨(l.any P=true∧ ∃i,i<l.length∧P (l.getD i zzd)=true∧(∀j,j<i→P (l.getD j zzd)=false)∧z0l B l.length 0 s=some (.ret (f i))):=by
 have key: ∀k i,i+k=l.length→(∀j,j<i→P (l.getD j zzd)=false)→((l.drop i).any P=false∧z0l B k i s=some (.done s))∨((l.drop i).any P=true∧ ∃j,j<l.length∧P (l.getD j zzd)=true∧(∀m,m<j→P (l.getD m zzd)=false)∧z0l B k i s=some (.ret (f j))):=by
  intro k;induction k with
  |zero=>intro i hi _;left;rw[List.drop_eq_nil_of_le (by omega:l.length≤i)];exact⟨rfl,rfl⟩
  |succ k ih=>
   intro i hi hp;rw[zbe (by omega:i<l.length)];simp only[z0l,hB i (by omega),List.any_cons];by_cases h:P (l.getD i zzd)=true
   ·rw[if_pos h];right;exact⟨by rw[h];rfl,i,by omega,h,hp,rfl⟩
   ·rw[if_neg h];have hf:P (l.getD i zzd)=false:=by simpa using h
    rw[hf,Bool.false_or];exact ih (i+1) (by omega) fun j hj=>by
     rcases Nat.lt_or_ge j i with h3|h3
     ·exact hp j h3
     ·have:j=i:=by omega
      subst this;exact hf
 have:=key l.length 0 (by omega) (fun j hj=>by omega);rwa[List.drop_zero]at this
def nmB (s:ByteArray):Bool:= !strEq s (bs []) && decide (s.size≤32)
def z21 (w:Write):Bool:=
 if w.kind=1 then nmB w.name && strEq w.to_ (bs [])else if w.kind=2 then nmB w.name && (nmB w.to_ && strEq w.data (bs []))else if w.kind=3 then nmB w.name && (strEq w.to_ (bs []) && strEq w.data (bs []))else false
theorem zcx (l:List ByteArray):z2u l=some (l.all nmB):=by
 unfold z2u z0e z0i z5j;have e: ∀s:ByteArray,(32<(s.size:Int))↔ ¬s.size≤32:=fun s=>by omega
 rcases z83 (S:=Unit) (R:=Int) (s:=()) (l:=l) (B:=fun i1 (a2:Unit)=>(jn (fun(a1:Bool)=>some a1) fun j2=>bf (strEq (l.getD i1 zzd) (bs [])) (j2 true) (j2 (decide (32<((l.getD i1 zzd).size:Int))))).bind fun r4=>bf r4 (some (.ret ((i1:Nat):Int))) (some (.next ()))) (fun s=> !nmB s) (fun i=>(i:Int)) (fun i hi=>by
  simp only[jn_eq];unfold nmB;by_cases h:strEq (l.getD i zzd) (bs [])=true
  ·rw[h];simp
  ·rw[(by simpa using h:strEq (l.getD i zzd) (bs [])=false)];simp only[z0k,zz3,z2h,e];by_cases h2:(l.getD i zzd).size≤32<;>simp[h2])with⟨h1,h2⟩|⟨h1,i,_,_,_,h2⟩
 ·rw[h2];have:l.all nmB=true:=by
   rw[List.all_eq_true];intro x hx;have:=List.any_eq_false.1 h1 x hx
   simpa using this
  rw[this];rfl
 ·rw[h2];have:l.all nmB=false:=by
   obtain⟨x,hx,hp⟩:=List.any_eq_true.1 h1;rw[List.all_eq_false];exact⟨x,hx,by simpa using hp⟩
  rw[this];simp
theorem zcy (a:ByteArray):[a].all nmB=nmB a:=by simp
theorem zfs (a b:ByteArray):[a,b].all nmB=(nmB a && nmB b):=by simp
theorem zc7 {a b:ByteArray}:strEq (a++b) (bs [])=(strEq a (bs []) && strEq b (bs [])):=by
 have h: ∀c:ByteArray,strEq c (bs [])=decide (c.size=0):=fun c=>by
  by_cases h:c.size=0
  ·have:c=bs []:=ByteArray.ext (by
    have:c.data.size=0:=h;rw[Array.eq_empty_of_size_eq_zero this];rfl)
   rw[this,z4w];rfl
  ·rw[decide_eq_false h];cases hq:strEq c (bs [])with
   |false=>rfl
   |true=>rw[zfg]at hq;rw[hq]at h;exact absurd rfl h
 rw[h,h,h,ByteArray.size_append];by_cases h1:a.size=0<;>by_cases h2:b.size=0<;>simp[h1,h2]
theorem zdb {w:Write}(h:w.to_.size+w.data.size≤9223372036854775807):z4g w=some (z21 w):=by
 unfold z4g z21;simp only[zcx,zcy,zfs,zz3,jn_eq,z2h];by_cases h1:w.kind=1
 ·rw[if_pos h1,if_pos h1];cases nmB w.name<;>rfl
 ·rw[if_neg h1,if_neg h1];by_cases h2:w.kind=2
  ·rw[if_pos h2,if_pos h2];cases nmB w.name<;>cases nmB w.to_<;>rfl
  ·rw[if_neg h2,if_neg h2];by_cases h3:w.kind=3
   ·rw[if_pos h3,if_pos h3,z0c (by omega),zc7];cases nmB w.name<;>rfl
   ·rw[if_neg h3,if_neg h3]
theorem zb0 (s:ByteArray):z14 s=some (nmB s):=by
 unfold z14 nmB;have e:((s.size:Int)≤32)↔s.size≤32:=by omega
 simp only[jn_eq,e];cases strEq s (bs [])<;>simp
theorem z9t (w:Write):z20 w=some (z21 w):=by
 unfold z20 z21;simp only[zb0,zz3,jn_eq,z2h];by_cases h1:w.kind=1
 ·rw[if_pos h1,if_pos h1];cases nmB w.name<;>rfl
 ·rw[if_neg h1,if_neg h1];by_cases h2:w.kind=2
  ·rw[if_pos h2,if_pos h2];cases nmB w.name<;>cases nmB w.to_<;>rfl
  ·rw[if_neg h2,if_neg h2];by_cases h3:w.kind=3
   ·rw[if_pos h3,if_pos h3];cases nmB w.name<;>cases strEq w.to_ (bs [])<;>rfl
   ·rw[if_neg h3,if_neg h3]
theorem z86 {w:Write}(h:z21 w=true):w.kind=1∨w.kind=2∨w.kind=3:=by
 unfold z21 at h;by_cases h1:w.kind=1
 ·exact .inl h1
 ·by_cases h2:w.kind=2
  ·exact .inr (.inl h2)
  ·by_cases h3:w.kind=3
   ·exact .inr (.inr h3)
   ·rw[if_neg h1,if_neg h2,if_neg h3]at h;cases h
def z0v (l:List File):List File:=l.map fun f=>⟨f.name,bs []⟩
def bareW (w:Write):Write:=⟨w.kind,w.name,w.to_,bs []⟩
theorem z7x (l:List File):(z0v l).length=l.length:=by unfold z0v;rw[List.length_map]
theorem zbz (n:ByteArray)(l:List File):ltF n (z0v l)=z0v (ltF n l):=by
 unfold ltF z0v;rw[List.filter_map];rfl
theorem zby (n:ByteArray)(l:List File):gtF n (z0v l)=z0v (gtF n l):=by
 unfold gtF z0v;rw[List.filter_map];rfl
theorem zeh (n:ByteArray)(l:List File):delF n (z0v l)=z0v (delF n l):=by
 unfold delF;rw[zbz,zby];unfold z0v;rw[List.map_append]
theorem zav (f:File)(l:List File):z0v (putF f l)=putF ⟨f.name,bs []⟩ (z0v l):=by
 unfold putF;rw[zbz,zby];unfold z0v;rw[List.map_append];rfl
theorem zei (n:ByteArray)(l:List File):hasF n (z0v l)=hasF n l:=by
 unfold hasF z0v;rw[List.any_map];rfl
theorem zej (n:ByteArray)(l:List File):oldF n (z0v l)=bs []:=by
 unfold oldF z0v;cases h:(l.map fun f=>(⟨f.name,bs []⟩:File)).find? (fun f=>decide (cmpS f.name n=0))with
 |none=>rfl
 |some f=>
  have:=List.mem_of_find?_eq_some h;obtain⟨g,_,rfl⟩:=List.mem_map.1 this;rfl
theorem zdq (l:List File)(w:Write):z0v (doneF l w)=doneF (z0v l) (bareW w):=by
 unfold doneF bareW;rw[zej,zei,zeh];by_cases h1:w.kind=1
 ·rw[if_pos h1,if_pos h1,zav];rfl
 ·rw[if_neg h1,if_neg h1];by_cases h2:w.kind=2∧hasF w.name l=true
  ·rw[if_pos h2,if_pos h2,zav]
  ·rw[if_neg h2,if_neg h2]
theorem z91: ∀(ws:List Write) (l:List File),z0v (ws.foldl doneF l)=(ws.map bareW).foldl doneF (z0v l)
 |[],l=>rfl
 |w::ws,l=>by rw[List.foldl_cons,z91 ws,zdq];rfl
theorem zbx {l:List File}(h:SF l):SF (z0v l):=by
 unfold SF z0v;rw[List.pairwise_map];exact h
theorem zfh (l:List File):szF (z0v l)=0:=by
 unfold szF z0v;induction l with
 |nil=>rfl
 |cons f l ih=>simp only[List.map_cons,List.sum_cons,ih];rfl
end Go.Av
namespace Go.Av
open Go
theorem    zgo {l : List File} : SF l ↔ ∀ j, j < l.length → j = 0 ∨ cmpS (l.getD (j - 1)     zzd).name (l.getD j     zzd).name < 0 := by
  constructor
  · intro h j hj
    by_cases h0 : j = 0
    · exact .inl h0
    · right
      have := List.pairwise_iff_getElem.1 h (j - 1) j (by omega) hj (by omega)
      simpa [List.getD_eq_getElem?_getD, List.getElem?_eq_getElem hj, List.getElem?_eq_getElem (show j - 1 < l.length by omega)] using this
  · intro h
    have key : ∀ d i, i + (d + 1) < l.length → cmpS (l.getD i     zzd).name (l.getD (i + (d + 1))     zzd).name < 0 := by
      intro d
      induction d with
      | zero => intro i hi
                rcases h (i + 1) hi with h1 | h1
                · omega
                · exact h1
      | succ d ih => intro i hi
                     have h1 := ih i (by omega)
                     rcases h (i + (d + 1) + 1) hi with h2 | h2
                     · omega
                     · exact     z1j.lt_tr h1 (by
                         have e : i + (d + 1) + 1 - 1 = i + (d + 1) := by omega
                         rw [e] at h2
                         exact Int.le_of_lt h2)
    refine List.pairwise_iff_getElem.2 fun i j hi hj hij => ?_
    have := key (j - i - 1) i (by omega)
    rw [show i + (j - i - 1 + 1) = j by omega] at this
    simpa [List.getD_eq_getElem?_getD, List.getElem?_eq_getElem hj, List.getElem?_eq_getElem hi] using this
def goodF (l:List File)(j:Nat):Prop:=nmB (l.getD j zzd).name=true∧(j=0∨cmpS (l.getD (j-1) zzd).name (l.getD j zzd).name<0)
theorem z9y {l:List File}:(∀j,j<l.length→goodF l j)↔((∀f∈l,nmB f.name=true)∧SF l):=by
 rw[zgo];constructor
 ·intro h;refine⟨fun f hf=>?_,fun j hj=>(h j hj).2⟩;obtain⟨i,hi,rfl⟩:=List.mem_iff_getElem.1 hf;have:=(h i hi).1
  simpa [List.getD_eq_getElem?_getD,List.getElem?_eq_getElem hi]using this
 ·exact fun h j hj=>⟨h.1 _ (z4e hj),h.2 j hj⟩
def chkP (d:Disk):Prop:=
 d.files.length≤256∧d.waits.length≤4096∧0≤d.room∧(∀f∈d.files,nmB f.name=true)∧SF d.files∧(∀w∈d.waits,z21 w=true)∧ ∀k,k≤d.waits.length→((d.waits.take k).foldl doneF d.files).length≤256
theorem z9s {l:List File}(hl:l.length≤256){s:List File}(hs:s=[]):z0l (S:=List File) (R:=Empty) (fun i2 (a3:List File)=>need (a3.length+([(⟨(l.getD i2 zzd).name,(bs [])⟩:File)]:List File).length≤274877906944)<|some (.next (a3++([(⟨(l.getD i2 zzd).name,(bs [])⟩:File)]:List File)))) l.length 0 s=some (.done (z0v l)):=by
 subst hs;refine z6z (z0v l) (fun i a=>a=z0v (l.take i)) (fun s h=>by rw[h,List.take_length]) (fun i s hi h=>⟨s++[⟨(l.getD i zzd).name,bs []⟩],?_,?_⟩) (by simp[z0v])
 ·rw[z0c];subst h;rw[z7x,List.length_take];simp only[List.length_cons,List.length_nil];omega
 ·rw[z13 hi,h];unfold z0v;rw[List.map_append];rfl
theorem z8e {ws:List Write}{l:List File}{k:Nat}:(((ws.map bareW).take k).foldl doneF (z0v l)).length=((ws.take k).foldl doneF l).length:=by
 rw[←List.map_take,←z91,z7x]
theorem z9e: ∀(ws:List Write) {l:List File},SF l→SF (ws.foldl doneF l)
 |[],l,h=>h
 |w::ws,l,h=>z9e ws (z9x h)
theorem z9f: ∀(ws:List Write) {l:List File},l.length+ws.length≤4000000→SF l→szF (ws.foldl doneF l)≤szF l+szW ws
 |[],l,_,_=>zzb _
 |w::ws,l,hn,h=>by
  rw[List.length_cons]at hn;have h2:=z8t l w
  have h1:=z9f ws (l:=doneF l w) (by omega) (z9x h);have h3:=zbd w (show l.length≤4000000 by omega) h
  rw[List.foldl_cons];have:szW (w::ws)=w.data.size+szW ws:=by unfold szW;simp
  omega
theorem zdd: ∀ws:List Write,szW (ws.map bareW)=0
 |[]=>rfl
 |w::ws=>by
  have:=zdd ws;unfold szW at this ⊢;rw[List.map_cons,List.map_cons,List.sum_cons,this];rfl
theorem        zak {l : List File} {ws : List Write} {G : Write → List File → Option (List File)} (hG : ∀ w ∈ ws, ∀ a : List File, a.length ≤ 256 → SF a → szF a = 0 → G (bareW w) a = some (doneF a (bareW w))) (hl : l.length ≤ 256) (hs : SF l) (hw : ws.length ≤ 4096) {S R : Type} {c : R} :
    ((∀ k, k ≤ ws.length → ((ws.take k).foldl doneF l).length ≤ 256) ∧ ∃ a,    z0l (R := R) (fun i (a : List File) => (G (⟨(ws.getD i     zzd).kind, (ws.getD i     zzd).name, (ws.getD i     zzd).to_, bs []⟩ : Write) a).bind fun r => bf (decide (256 < (r.length : Int))) (some (.ret c)) (some (.next r))) ws.length 0 (   z0v l) = some (.done a)) ∨
    ((¬ ∀ k, k ≤ ws.length → ((ws.take k).foldl doneF l).length ≤ 256) ∧    z0l (R := R) (fun i (a : List File) => (G (⟨(ws.getD i     zzd).kind, (ws.getD i     zzd).name, (ws.getD i     zzd).to_, bs []⟩ : Write) a).bind fun r => bf (decide (256 < (r.length : Int))) (some (.ret c)) (some (.next r))) ws.length 0 (   z0v l) = some (.ret c)) := by
  have key :=         z4l (B := fun i (a : List File) => (G (⟨(ws.getD i     zzd).kind, (ws.getD i     zzd).name, (ws.getD i     zzd).to_, bs []⟩ : Write) a).bind fun r => bf (decide (256 < (r.length : Int))) (some (.ret c)) (some (.next r))) (n := ws.length) (s :=    z0v l)
    (fun i a => a = ((ws.map bareW).take i).foldl doneF (   z0v l) ∧ ∀ k, k ≤ i → ((ws.take k).foldl doneF l).length ≤ 256) (fun a => ∀ k, k ≤ ws.length → ((ws.take k).foldl doneF l).length ≤ 256) (fun r => r = c ∧ ¬ ∀ k, k ≤ ws.length → ((ws.take k).foldl doneF l).length ≤ 256)
    ⟨by simp, fun k hk => by have : k = 0 := by omega
                             subst this; exact hl⟩
    (fun i a hi ⟨h1, h2⟩ => ?_) (fun a h => h.2)
  · rcases key with ⟨a, h1, h2⟩ | ⟨r, h1, h2, h3⟩
    · exact .inl ⟨h2, a, h1⟩
    · subst h2; exact .inr ⟨h3, h1⟩
  · have hm :=       z4e (l := ws) hi
    have hal : a.length ≤ 256 := by rw [h1,           z8e]; exact h2 i (        zzb _)
    have haS : SF a := by rw [h1]; exact     z9e _ (      zbx hs)
    have hsz : szF a = 0 := by
      have :=     z9f ((ws.map bareW).take i) (l :=    z0v l) (by rw [       z7x, List.length_take]; omega) (      zbx hs)
      rw [      zfh] at this
      have h5 : szW ((ws.map bareW).take i) = 0 := by rw [← List.map_take]; exact      zdd _
      rw [← h1] at this; omega
    have e := hG _ hm a hal haS hsz
    unfold bareW at e
    have hn : doneF a (bareW (ws.getD i     zzd)) = ((ws.map bareW).take (i + 1)).foldl doneF (   z0v l) := by
      rw [← List.map_take,            z13 hi, List.map_append, List.foldl_append, List.map_take, ← h1]; rfl
    have hnl : (doneF a (bareW (ws.getD i     zzd))).length = ((ws.take (i + 1)).foldl doneF l).length := by rw [hn,           z8e]
    simp only [e,              zz3,       z2h]
    by_cases hc : 256 < ((ws.take (i + 1)).foldl doneF l).length
    · right; right
      refine ⟨c, ?_, rfl, fun h => ?_⟩
      · rw [if_pos]
        have := hnl; unfold bareW at this; omega
      · have := h (i + 1) (by omega); omega
    · left
      refine ⟨doneF a (bareW (ws.getD i     zzd)), by rw [if_neg (by have := hnl; unfold bareW at this; omega)]; rfl, hn, fun k hk => ?_⟩
      rcases Nat.lt_or_ge k (i + 1) with h3 | h3
      · exact h2 k (by omega)
      · have : k = i + 1 := by omega
        subst this; omega
end Go.Av
namespace Go.Av
open Go
theorem zd8 (l:List File)(n:ByteArray):
 (∃i:Nat,z17 l n=some (i:Int)∧i<l.length∧hasF n l=true∧(l.getD i zzd).data=oldF n l)∨(z17 l n=some (-1)∧hasF n l=false):=by
 unfold z17;rcases z83 (S:=Unit) (R:=Int) (s:=()) (l:=l) (B:=fun i1 (a2:Unit)=>bf (strEq ((l.getD i1 zzd).name) n) (some (.ret ((i1:Nat):Int))) (some (.next ()))) (fun f=>strEq f.name n) (fun i=>(i:Int)) (fun i hi=>by
  cases strEq (l.getD i zzd).name n<;>rfl)with⟨h1,h2⟩|⟨h1,i,hi,h3,h4,h2⟩
 ·right;rw[h2];refine⟨rfl,?_⟩;unfold hasF;rw[←h1];congr 1;funext f;rw[z4q]
 ·left;rw[h2];refine⟨i,rfl,hi,?_,?_⟩
  ·unfold hasF;rw[←h1];congr 1;funext f;rw[z4q]
  ·unfold oldF;have:l.find? (fun f=>decide (cmpS f.name n=0))=some (l.getD i zzd):=by
    rw[List.find?_eq_some_iff_getElem];have e:l.getD i zzd=l[i]:=by simp[List.getD_eq_getElem?_getD,List.getElem?_eq_getElem hi]
    refine⟨by rw[←z4q];exact h3,i,hi,e.symm,fun j hj=>?_⟩;have:=h4 j hj
    rw[z4q]at this;have e2:l.getD j zzd=l[j]:=by simp[List.getD_eq_getElem?_getD,List.getElem?_eq_getElem (show j<l.length by omega)]
    rw[e2]at this
    simpa using this
   rw[this];rfl
theorem zf1 {l:List File}(n:ByteArray)(hs:SF l):(l.filter fun f=> !strEq f.name n)=delF n l:=by
 unfold delF ltF gtF;induction l with
 |nil=>rfl
 |cons f l ih=>
  have hs2:=List.pairwise_cons.1 hs;have ih:=ih hs2.2
  simp only[List.filter_cons,z4q]at ih ⊢;by_cases h1:cmpS f.name n<0
  ·rw[if_pos (by rw[Bool.not_eq_true',decide_eq_false_iff_not];omega),if_pos (by rw[decide_eq_true_eq];exact h1),if_neg (by rw[decide_eq_true_eq];omega),List.cons_append,ih]
  ·have hg: ∀g∈l,0<cmpS g.name n:=fun g hg=>z99 (hs2.1 g hg) (by omega);have e1:(l.filter fun f=>decide (cmpS f.name n<0))=[]:=List.filter_eq_nil_iff.2 fun g hm=>by have:=hg g hm;rw[decide_eq_true_eq];omega
   have e2:(l.filter fun f=>decide (0<cmpS f.name n))=l:=List.filter_eq_self.2 fun g hm=>decide_eq_true (hg g hm);rw[e1,e2]at ih;have d1:decide (cmpS f.name n<0)=false:=decide_eq_false h1
   by_cases h2:cmpS f.name n=0
   ·have d2:decide (0<cmpS f.name n)=false:=decide_eq_false (by omega);rw[e1,e2,d1,d2,ih,decide_eq_true h2];rfl
   ·have d2:decide (0<cmpS f.name n)=true:=decide_eq_true (by omega);rw[e1,e2,d1,d2,ih,decide_eq_false h2];rfl
theorem z9u {l:List File}(n:ByteArray)(hn:l.length≤4000000)(hs:SF l):z23 l n=some (delF n l):=by
 unfold z23;rw[z6z (l.filter fun f=> !strEq f.name n) (fun i a=>a=(l.take i).filter fun f=> !strEq f.name n) (fun s h=>by rw[h,List.take_length]) (fun i s hi h=>?_) (by simp)]
 ·rw[z2l,zf1 n hs]
 ·rw[z13 hi,List.filter_append,←h];have hsl:s.length≤i:=by
   rw[h];refine Nat.le_trans (List.length_filter_le _ _) ?_;rw[List.length_take];omega
  by_cases hc:strEq (l.getD i zzd).name n=true
  ·refine⟨s,by rw[hc];rfl,?_⟩;rw[List.filter_cons,hc];simp
  ·have hc:strEq (l.getD i zzd).name n=false:=by simpa using hc
   refine⟨s++[l.getD i zzd],?_,?_⟩
   ·rw[hc,Bool.not_false,z1y,z0c];simp only[List.length_cons,List.length_nil];omega
   ·rw[List.filter_cons,hc];simp
theorem zfz {X:Type}(l:List X)(n:Nat):Av.sub l 0 (n:Int)=l.take n:=by unfold Av.sub;simp
theorem zfx {X:Type}(l:List X){n:Nat}(h:n≤l.length):Av.sub l (n:Int) (l.length:Int)=l.drop n:=by
 unfold Av.sub;rw[zz8,zz8];exact List.take_of_length_le (by rw[List.length_drop];omega)
theorem lt_lt {n:ByteArray}{l:List File}: ∀f∈ltF n l,cmpS f.name n<0:=fun f h=>of_decide_eq_true (List.mem_filter.1 h).2
theorem gt_gt {n:ByteArray}{l:List File}: ∀f∈gtF n l,0<cmpS f.name n:=fun f h=>of_decide_eq_true (List.mem_filter.1 h).2
theorem zh1 (n:ByteArray)(l:List File):(ltF n l).length≤l.length:=List.length_filter_le _ _
theorem za2 {fuel:Nat}{l:List File}(f:File)(hf:20000000≤fuel)(hn:l.length≤4000000)(hs:SF l):z30 fuel l f=some (putF f l):=by
 unfold z30;rw[z9u f.name hn hs,zz3];have hl:=zh1 f.name l
 have hdl:=z5u f.name l;have hd:(delF f.name l).length=(ltF f.name l).length+(gtF f.name l).length:=by unfold delF;rw[List.length_append]
 have h0:=z9p (B:=fun(a2:Int)=>jn (fun(a9:Bool)=>bf a9 (some (.next (zzi.wrap (a2+1)))) (some (Ctl.brk (R:=Empty) a2))) fun j10=>bf (decide (a2<((delF f.name l).length:Int))) (need ((0:Int)≤a2∧a2<((delF f.name l).length:Int))<|j10 (strLt (((delF f.name l).getD a2.toNat zzd).name) f.name)) (j10 false)) (fun i=>(i:Int)) (n:=(ltF f.name l).length) (fuel:=fuel) (z:=((ltF f.name l).length:Int)) (by omega)
  (fun i hi=>by
   have e:(delF f.name l).getD i zzd=(ltF f.name l).getD i zzd:=by unfold delF;simp[List.getD_eq_getElem?_getD,List.getElem?_append_left hi]
   have:=lt_lt _ (z4e hi);rw[jn_eq,decide_eq_true (by omega:(i:Int)<((delF f.name l).length:Int)),z1y,z0c (by omega),zz8,e,z66,decide_eq_true this];show some (Ctl.next (zzi.wrap ((i:Int)+1)))=_;rw[z73 (by unfold maxN;omega)])
  (by
   rw[jn_eq];by_cases h:(ltF f.name l).length<(delF f.name l).length
   ·have hg:0<(gtF f.name l).length:=by omega
    have e:(delF f.name l).getD (ltF f.name l).length zzd=(gtF f.name l).getD 0 zzd:=by unfold delF;simp[List.getD_eq_getElem?_getD,List.getElem?_append_right (zzb _)]
    have:=gt_gt _ (z4e hg);rw[decide_eq_true (by omega),z1y,z0c (by omega),zz8,e,z66,decide_eq_false (by omega)];rfl
   ·rw[decide_eq_false (by omega),z0k];rfl)
 rw[show((0:Nat):Int)=0 from rfl]at h0;rw[h0,z2l];have hsub1:Av.sub (delF f.name l) 0 ((ltF f.name l).length:Int)=ltF f.name l:=by
  rw[zfz];unfold delF;exact List.take_left
 have hsub2:Av.sub (delF f.name l) ((ltF f.name l).length:Int) ((delF f.name l).length:Int)=gtF f.name l:=by
  rw[zfx _ (by omega)];unfold delF;exact List.drop_left
 have h1:[f].length=1:=rfl;rw[hsub1,hsub2,z0c (by omega),z0c (by omega),z0c (by omega),z0c (by omega),z0c (by rw[List.length_append];omega)];unfold putF;simp
theorem zgz (n:ByteArray)(a b:List File):ltF n (a++b)=ltF n a++ltF n b:=List.filter_append ..
theorem zgs (n:ByteArray)(a b:List File):gtF n (a++b)=gtF n a++gtF n b:=List.filter_append ..
theorem zh2 (n:ByteArray)(l:List File):ltF n (ltF n l)=ltF n l:=List.filter_eq_self.2 fun f h=>decide_eq_true (lt_lt f h)
theorem zgt (n:ByteArray)(l:List File):gtF n (gtF n l)=gtF n l:=List.filter_eq_self.2 fun f h=>decide_eq_true (gt_gt f h)
theorem zh0 (n:ByteArray)(l:List File):ltF n (gtF n l)=[]:=List.filter_eq_nil_iff.2 fun f h=>by have:=gt_gt f h;rw[decide_eq_true_eq];omega
theorem zgu (n:ByteArray)(l:List File):gtF n (ltF n l)=[]:=List.filter_eq_nil_iff.2 fun f h=>by have:=lt_lt f h;rw[decide_eq_true_eq];omega
theorem za0 {fuel:Nat}{l:List File}{w:Write}(hf:20000000≤fuel)(hn:l.length≤4000000)(hs:SF l)(hz:szF l+w.data.size≤9223372036854775807)(hk:w.kind=1∨w.kind=2∨w.kind=3):
 z0t fuel l w=some (doneF l w):=by
 unfold z0t;have hdl:=z5u w.name l
 have hdz:=zal w.name hn hs;have hsd:=z4t (n:=w.name) hs
 have hput: ∀x:ByteArray,putF ⟨w.name,x⟩ (delF w.name l)=putF ⟨w.name,x⟩ l:=fun x=>by
  unfold putF delF;have e1:ltF w.name (ltF w.name l++gtF w.name l)=ltF w.name l:=by rw[zgz,zh2,zh0,List.append_nil]
  have e2:gtF w.name (ltF w.name l++gtF w.name l)=gtF w.name l:=by rw[zgs,zgu,zgt,List.nil_append]
  show ltF w.name _++_::gtF w.name _=ltF w.name l++_::gtF w.name l;rw[e1,e2]
 unfold doneF;rcases zd8 l w.name with⟨i,h1,h2,h3,h4⟩|⟨h1,h3⟩
 ·rw[h1];simp only[zz3,jn_eq,z2h,zz8];by_cases hk1:w.kind=1
  ·rw[if_pos hk1,if_pos hk1,if_pos (by omega),z0c (by omega),z0c (by rw[h4];omega),h4,za2 _ hf hn hs,hput];rfl
  ·rw[if_neg hk1,if_neg hk1,if_neg (by omega),z0c (by omega),z9u _ hn hs,h4,h3];simp only[zz3];by_cases hk3:w.kind=3
   ·rw[if_pos hk3,if_neg (by omega)]
   ·rw[if_neg hk3,if_pos ⟨by omega,by trivial⟩,za2 _ hf (by omega) hsd];rfl
 ·rw[h1];simp only[zz3,jn_eq,z2h];have hno: ∀f∈l,cmpS f.name w.name≠0:=fun f hf=>by
   have:=List.any_eq_false.1 h3 f hf
   simpa using this
  have ho:oldF w.name l=bs []:=by
   unfold oldF;rw[List.find?_eq_none.2 (fun g hg=>by rw[decide_eq_true_eq];exact hno g hg)];rfl
  by_cases hk1:w.kind=1
  ·rw[if_pos hk1,if_pos hk1,if_neg (by omega),za2 _ hf hn hs,hput,ho];have:bs []++w.data=w.data:=ByteArray.empty_append;rw[this];rfl
  ·rw[if_neg hk1,if_neg hk1,if_pos (by omega),if_neg (by rw[h3];simp),z8q hs hno]
end Go.Av
namespace Go.Av
open Go
theorem zgh {Q:Type}(j:Bool→Option Q)(A B c:Bool):jn j (fun j2=>bf A (bf B (j2 c) (j2 false)) (j2 false))=j (A && (B && c)):=by cases A<;>cases B<;>rfl
theorem zgy {Q:Type}(j:Bool→Option Q)(A B c:Bool):jn j (fun j2=>bf A (j2 true) (bf B (j2 true) (j2 c)))=j (A||(B||c)):=by cases A<;>cases B<;>rfl
theorem zex {fuel:Nat}{w:Write}{l:List File}(hf:20000000≤fuel)(hn:l.length≤1000000)(hz:szF l+w.data.size≤4611686018427387904)(hs:SF l):z0p fuel [w] l=some (doneF l w):=
 (do_ok (ws:=[w]) hf (by simp only[List.length_cons,List.length_nil];omega) (by unfold szW;simpa using hz) hs).1
theorem zef {fuel:Nat}{d:Disk}(hf:20000000≤fuel)(hl:d.files.length≤256)(hw:d.waits.length≤4096)(hs:SF d.files):
 ((∀k,k≤d.waits.length→((d.waits.take k).foldl doneF d.files).length≤256)∧z47 fuel d=some false)∨((¬ ∀k,k≤d.waits.length→((d.waits.take k).foldl doneF d.files).length≤256)∧z47 fuel d=some true):=by
 unfold z47;rw[z0c (by unfold lim;omega),z9s hl (s:=List.replicate 0 ⟨bs [],bs []⟩) rfl,z2l];rcases zak (ws:=d.waits) (l:=d.files) (R:=Bool) (S:=Unit) (c:=true) (G:=fun w a=>z0p fuel [w] a) (fun w _ a ha hs hz=>zex hf (by omega) (by rw[hz];show 0+0≤_;omega) hs) hl hs hw with⟨h1,a,h2⟩|⟨h1,h2⟩
 ·exact .inl ⟨h1,by rw[h2];rfl⟩
 ·exact .inr ⟨h1,by rw[h2];rfl⟩
theorem zdl {l:List Write}(h: ∀w∈l,w.to_.size+w.data.size≤9223372036854775807):z0b l=some (!(l.all z21)):=by
 unfold z0b z0h z5i;rcases z83 (S:=Unit) (R:=Int) (s:=()) (l:=l) (B:=fun i1 (a2:Unit)=>((z4g (l.getD i1 zzd)).bind fun r1=>some (!r1)).bind fun r4=>bf r4 (some (.ret ((i1:Nat):Int))) (some (.next ()))) (fun w=> !z21 w) (fun i=>(i:Int)) (fun i hi=>by
  rw[zdb (h _ (z4e hi))];cases z21 (l.getD i zzd)<;>rfl)with⟨h1,h2⟩|⟨h1,i,_,_,_,h2⟩
 ·rw[h2];have:l.all z21=true:=by
   rw[List.all_eq_true];intro x hx;have:=List.any_eq_false.1 h1 x hx
   simpa using this
  rw[this];rfl
 ·rw[h2];have:l.all z21=false:=by
   obtain⟨x,hx,hp⟩:=List.any_eq_true.1 h1;rw[List.all_eq_false];exact⟨x,hx,by simpa using hp⟩
  rw[this];simp
theorem zf0 (l:List File)(hl:l.length≤4000000)(b:Bool):
 ∃c:Bool,z0l (S:=Bool) (R:=Empty) (fun i3 (a4:Bool)=>bf a4 ((z2u ([(l.getD i3 zzd).name]:List ByteArray)).bind fun r11=>bf r11 (bf (decide (((i3:Nat):Int)=0)) (some (.next true)) (need ((0:Int)≤(zzi.wrap (((i3:Nat):Int)-1))∧(zzi.wrap (((i3:Nat):Int)-1))<(l.length:Int))<|some (.next (strLt ((l.getD ((zzi.wrap (((i3:Nat):Int)-1)).toNat) zzd).name) ((l.getD i3 zzd).name))))) (some (.next false))) (some (.next false))) l.length 0 b=some (.done c)∧(c=true↔b=true∧ ∀j,j<l.length→goodF l j):=by
 refine z84 (fun i (c:Bool)=>c=true↔b=true∧ ∀j,j<i→goodF l j) (by simp) fun i c hi hc=>?_;have ext:(∀j,j<i+1→goodF l j)↔(∀j,j<i→goodF l j)∧goodF l i:=⟨fun h=>⟨fun j hj=>h j (by omega),h i (by omega)⟩,fun h j hj=>by
  rcases Nat.lt_or_ge j i with h1|h1
  ·exact h.1 j h1
  ·have:j=i:=by omega
   subst this;exact h.2⟩
 rw[ext];cases c with
 |false=>
  refine⟨false,rfl,⟨fun h=>by(cases h),fun h=>?_⟩⟩;have:=hc.2 ⟨h.1,h.2.1⟩
  cases this
 |true=>
  obtain⟨h1,h2⟩:=hc.1 rfl;rw[z1y,zcx,zz3,zcy];cases hn:nmB (l.getD i zzd).name with
  |false=>
   refine⟨false,rfl,⟨fun h=>by(cases h),fun h=>?_⟩⟩;have:=h.2.2.1
   rw[hn]at this;cases this
  |true=>
   rw[z1y];by_cases h0:i=0
   ·subst h0;exact⟨true,rfl,⟨fun _=>⟨h1,h2,hn,.inl rfl⟩,fun _=>rfl⟩⟩
   ·have e:zzi.wrap ((i:Int)-1)=((i-1:Nat):Int):=by rw[z1v (by omega) (by omega)];omega
    rw[decide_eq_false (by omega),z0k,e,z0c (by omega),zz8,z66];refine⟨_,rfl,?_⟩;rw[decide_eq_true_eq];refine⟨fun h=>⟨h1,h2,hn,.inr h⟩,fun h=>?_⟩;rcases h.2.2.2 with h3|h3
    ·exact absurd h3 h0
    ·exact h3
theorem zgc {fuel:Nat}{d:Disk}(hf:20000000≤fuel)(hn:d.files.length≤4000000)(hw: ∀w∈d.waits,w.to_.size+w.data.size≤9223372036854775807):(chkP d∧z2b fuel d=some 0)∨(¬chkP d∧z2b fuel d=some 8):=by
 unfold z2b;rw[zgh];obtain⟨c,h1,h2⟩:=zf0 d.files hn (decide ((d.files.length:Int)≤256) && (decide ((d.waits.length:Int)≤4096) && decide (0≤d.room)));rw[h1,z2l,jn_eq];simp only[Bool.and_eq_true,decide_eq_true_eq,z9y]at h2;cases c with
 |false=>
  right;refine⟨fun h=>?_,rfl⟩;unfold chkP at h;have:=h2.2 ⟨⟨by omega,by omega,h.2.2.1⟩,h.2.2.2.1,h.2.2.2.2.1⟩
  cases this
 |true=>
  obtain⟨⟨h3,h4,h5⟩,h6,h7⟩:=h2.1 rfl;rw[Bool.not_true,z0k,zdl hw,zz3];cases hr:d.waits.all z21 with
  |false=>
   right;refine⟨fun h=>?_,rfl⟩;have:=List.all_eq_true.2 h.2.2.2.2.2.1
   rw[hr]at this;cases this
  |true=>
   rw[Bool.not_true,z0k];rcases zef hf (d:=d) (by omega) (by omega) h7 with⟨h8,h9⟩|⟨h8,h9⟩
   ·left;exact⟨⟨by omega,by omega,h5,h6,h7,List.all_eq_true.1 hr,h8⟩,by rw[h9];rfl⟩
   ·right;exact⟨fun h=>h8 h.2.2.2.2.2.2,by rw[h9];rfl⟩
theorem zcb (l:List File)(hl:l.length≤4000000):
 (∃s,z0l (S:=Unit) (R:=Int) (fun i3 (a4:Unit)=>jn (fun(a18:Bool)=>bf a18 (some (.ret 8)) (some (.next ()))) fun j19=>(z14 ((l.getD i3 zzd).name)).bind fun r20=>bf (!r20) (j19 true) (bf (decide (0<((i3:Nat):Int))) (need ((0:Int)≤(zzi.wrap (((i3:Nat):Int)-1))∧(zzi.wrap (((i3:Nat):Int)-1))<(l.length:Int))<|j19 (!strLt ((l.getD ((zzi.wrap (((i3:Nat):Int)-1)).toNat) zzd).name) ((l.getD i3 zzd).name))) (j19 false))) l.length 0 ()=some (.done s)∧ ∀j,j<l.length→goodF l j)∨
 (∃r,z0l (S:=Unit) (R:=Int) (fun i3 (a4:Unit)=>jn (fun(a18:Bool)=>bf a18 (some (.ret 8)) (some (.next ()))) fun j19=>(z14 ((l.getD i3 zzd).name)).bind fun r20=>bf (!r20) (j19 true) (bf (decide (0<((i3:Nat):Int))) (need ((0:Int)≤(zzi.wrap (((i3:Nat):Int)-1))∧(zzi.wrap (((i3:Nat):Int)-1))<(l.length:Int))<|j19 (!strLt ((l.getD ((zzi.wrap (((i3:Nat):Int)-1)).toNat) zzd).name) ((l.getD i3 zzd).name))) (j19 false))) l.length 0 ()=some (.ret r)∧r=8∧ ¬ ∀j,j<l.length→goodF l j):=by
 refine z4l (fun i (s:Unit)=> ∀j,j<i→goodF l j) (fun s=> ∀j,j<l.length→goodF l j) (fun r=>r=8∧ ¬ ∀j,j<l.length→goodF l j) (fun j hj=>by omega) (fun i s hi hc=>?_) (fun s h=>h);have ext:goodF l i→(∀j,j<i+1→goodF l j):=fun h j hj=>by
  rcases Nat.lt_or_ge j i with h1|h1
  ·exact hc j h1
  ·have:j=i:=by omega
   subst this;exact h
 rw[jn_eq,zb0,zz3];cases hn:nmB (l.getD i zzd).name with
 |false=>
  right;right;refine⟨8,rfl,rfl,fun h=>?_⟩;have:=(h i hi).1
  rw[hn]at this;cases this
 |true=>
  rw[Bool.not_true,z0k];by_cases h0:i=0
  ·subst h0;left;exact⟨(),rfl,ext ⟨hn,.inl rfl⟩⟩
  ·have e:zzi.wrap ((i:Int)-1)=((i-1:Nat):Int):=by rw[z1v (by omega) (by omega)];omega
   rw[decide_eq_true (by omega),z1y,e,z0c (by omega),zz8,z66];by_cases h3:cmpS (l.getD (i-1) zzd).name (l.getD i zzd).name<0
   ·left;exact⟨(),by rw[decide_eq_true h3];rfl,ext ⟨hn,.inr h3⟩⟩
   ·right;right;refine⟨8,by rw[decide_eq_false h3];rfl,rfl,fun h=>?_⟩;rcases(h i hi).2 with h4|h4
    ·exact h0 h4
    ·exact h3 h4
theorem zd7 {fuel:Nat}{d:Disk}(hf:20000000≤fuel)(hn:d.files.length≤4000000):(chkP d∧z11 fuel d=some 0)∨(¬chkP d∧z11 fuel d=some 8):=by
 unfold z11;rw[zgy];by_cases hb:d.files.length≤256∧d.waits.length≤4096∧0≤d.room
 ·obtain⟨h3,h4,h5⟩:=hb;rw[decide_eq_false (by omega),decide_eq_false (by omega),decide_eq_false (by omega)];rw[Bool.or_false,Bool.or_false,z0k];rcases zcb d.files hn with⟨s,h1,h2⟩|⟨r,h1,h2,h6⟩
  ·rw[h1,z2l];rw[z9y]at h2;rcases z83 (S:=Unit) (R:=Int) (s:=()) (l:=d.waits) (B:=fun i6 (a7:Unit)=>(z20 (d.waits.getD i6 zzd)).bind fun r17=>bf (!r17) (some (.ret 8)) (some (.next ()))) (fun w=> !z21 w) (fun i=>8) (fun i hi=>by
    rw[z9t];cases z21 (d.waits.getD i zzd)<;>rfl)with⟨g1,g2⟩|⟨g1,i,_,_,_,g2⟩
   ·rw[g2,z2l,z9s h3 rfl,z2l];have hr: ∀w∈d.waits,z21 w=true:=fun w hw=>by
     have:=List.any_eq_false.1 g1 w hw
     simpa using this
    rcases zak (ws:=d.waits) (l:=d.files) (R:=Int) (S:=Unit) (c:=8) (G:=fun w a=>z0t fuel a w) (fun w hw a ha hs hz=>za0 hf (by omega) hs (by rw[hz];show 0+0≤_;omega) (z86 (w:=w) (hr w hw))) h3 h2.2 h4 with⟨h8,a,h9⟩|⟨h8,h9⟩
    ·exact .inl ⟨⟨h3,h4,h5,h2.1,h2.2,hr,h8⟩,by rw[h9];rfl⟩
    ·exact .inr ⟨fun h=>h8 h.2.2.2.2.2.2,by rw[h9];rfl⟩
   ·right;refine⟨fun h=>?_,by rw[g2];rfl⟩;obtain⟨x,hx,hp⟩:=List.any_eq_true.1 g1;have:=h.2.2.2.2.2.1 x hx
    rw[this]at hp;cases hp
  ·right;subst h2;exact⟨fun h=>h6 (z9y.2 ⟨h.2.2.2.1,h.2.2.2.2.1⟩),by rw[h1];rfl⟩
 ·right;refine⟨fun h=>hb ⟨h.1,h.2.1,h.2.2.1⟩,?_⟩;have:(decide (256<(d.files.length:Int))||(decide (4096<(d.waits.length:Int))||decide (d.room<0)))=true:=by
   simp only[Bool.or_eq_true,decide_eq_true_eq];omega
  rw[this];rfl
end Go.Av
namespace Go.Av
open Go
theorem zgq:z2v=z0p:=rfl
theorem zfu {fuel:Nat}{l:List File}{n:ByteArray}(hf:20000000≤fuel)(hn:l.length≤4000000)(hs:SF l):
 ∃k:Nat,z0g fuel l n=some ((k:Int),hasF n l)∧(hasF n l=true→k<l.length∧(l.getD k zzd).data=oldF n l):=by
 obtain⟨k,b,h1,h2,h3,h4⟩:=z62 (n:=n) hf hn hs;obtain⟨f,g1,g2⟩:=zbj (n:=n) hf hn hs;unfold z0q at g1;rw[h1]at g1;rcases h4 with⟨rfl,h5,h6⟩|⟨rfl,h5,h8,h6,h7⟩
 ·have hh:hasF n l=false:=by
   unfold hasF;rw[List.any_eq_false];intro g hg;rw[decide_eq_true_eq];exact h6 g hg
  refine⟨k,by rw[h1,hh],fun h=>?_⟩;rw[hh]at h;cases h
 ·simp only[zz3,Bool.not_true,z0k]at g1;rw[z0c (by omega),z0c (by simp only[zz8];omega)]at g1;cases hd:z1l (k:Int) (zzi.wrap ((k:Int)+1)) l with
  |none=>rw[hd]at g1;cases g1
  |some r=>
   rw[hd]at g1;simp only[zz3,zz8,zza]at g1;injection g1 with g1;have e:l.getD k zzd=f:=congrArg Prod.fst g1
   have e2:true=hasF n l:=congrArg (fun q=>q.2.1) g1;exact⟨k,by rw[h1,←e2],fun _=>⟨h5,by rw[e,g2]⟩⟩
def seenF (d:Disk):List File:=d.waits.foldl doneF d.files
def smP (B:Nat)(d:Disk):Prop:=d.files.length≤4000000∧(∀w∈d.waits,w.to_.size+w.data.size≤9223372036854775807)∧szF d.files+szW d.waits≤B∧d.room<9223372036854775808
theorem zdc {d:Disk}(h:chkP d):(seenF d).length≤256:=by
 have:=h.2.2.2.2.2.2 d.waits.length (zzb _);rwa[List.take_length]at this
theorem ze6 {d:Disk}(h:chkP d):SF (seenF d):=z9e _ h.2.2.2.2.1
theorem ze7 {d:Disk}{B:Nat}(h:chkP d)(hs:smP B d):szF (seenF d)≤B:=by
 have h1:=h.1;have h2:=h.2.1
 have:=z9f d.waits (l:=d.files) (by omega) h.2.2.2.2.1;have:=hs.2.2.1
 unfold seenF;omega
theorem z4f {fuel:Nat}{d:Disk}{B:Nat}(hf:20000000≤fuel)(hs:smP B d):
 (chkP d∧z2b fuel d=some 0∧z11 fuel d=some 0)∨(¬chkP d∧z2b fuel d=some 8∧z11 fuel d=some 8):=by
 rcases zgc hf hs.1 hs.2.1 with⟨h1,h2⟩|⟨h1,h2⟩<;>rcases zd7 (d:=d) hf hs.1 with⟨h3,h4⟩|⟨h3,h4⟩
 ·exact .inl ⟨h1,h2,h4⟩
 ·exact absurd h1 h3
 ·exact absurd h3 h1
 ·exact .inr ⟨h1,h2,h4⟩
theorem zbk {fuel:Nat}{d:Disk}{B:Nat}(hf:20000000≤fuel)(hs:smP B d)(h:chkP d):z2b fuel d=some 0:=by
 rcases z4f hf hs with⟨_,h2,_⟩|⟨h1,_⟩
 ·exact h2
 ·exact absurd h h1
section
variable {fuel B:Nat} {d:Disk} (hf:20000000≤fuel) (hB:B≤4611686018427387904)
include hf hB
theorem ze1 (hs:smP B d)(hc:chkP d):z4o fuel d=some ⟨seenF d,d⟩:=by
 have h1:=hc.1;have h2:=hc.2.1
 have h3:=hs.2.2.1;unfold z4o z0a z0r;rw[z0c (by omega),z0c (by omega),zgq];simp only[zz3];rw[z0c (by omega),zz3,(do_ok hf (by omega) (by omega) hc.2.2.2.2.1).1];rfl
theorem za1 (hs:smP B d)(hc:chkP d):z1h fuel d=some (seenF d):=by
 have h1:=hc.1;have h2:=hc.2.1
 have h3:=hs.2.2.1;unfold z1h;rw[z0c (by omega)];have key:=z6z (R:=Empty) (B:=fun i2 (a3:List File)=>(z0t fuel a3 (d.waits.getD i2 zzd)).bind fun r5=>some (.next r5)) (n:=d.waits.length) (s:=d.files) (seenF d) (fun i a=>a=(d.waits.take i).foldl doneF d.files) (fun s h=>by rw[h,List.take_length];rfl)
  (fun i a hi h=>by
   refine⟨doneF a (d.waits.getD i zzd),?_,by rw[z13 hi,List.foldl_append,←h];rfl⟩;have hm:=z4e (l:=d.waits) hi
   have hal:=hc.2.2.2.2.2.2 i (by omega);have haS:SF a:=by rw[h];exact z9e _ hc.2.2.2.2.1
   have hsz:=z9f (d.waits.take i) (l:=d.files) (by rw[List.length_take];omega) hc.2.2.2.2.1;have hwz:szW (d.waits.take i)+(d.waits.getD i zzd).data.size≤szW d.waits:=by
    unfold szW
    conv=>rhs;rw[←zzc (i+1) d.waits,List.map_append,List.sum_append,z13 hi,List.map_append,List.sum_append]
    simp
   rw[←h]at hal hsz;rw[za0 hf (by omega) haS (by omega) (z86 (hc.2.2.2.2.2.1 _ hm))];rfl) rfl
 rw[key];rfl
end
theorem zdn (f:File):z8v f f=true:=by unfold z8v;rw[z4w,z4w];rfl
theorem zcq (w:Write):z6g w w=true:=by unfold z6g;rw[z4w,z4w,z4w];simp
theorem zbb (l:List File):z2a l l=some true:=by
 unfold z2a;rw[decide_eq_true rfl,Bool.not_true,z0k];rw[z6z (R:=Bool) () (fun i (s:Unit)=>True) (fun s _=>rfl) (fun i s hi _=>⟨(),by rw[z0c (by omega),zdn];rfl,trivial⟩) trivial];rfl
theorem zbo {fuel:Nat}{d:Disk}(hf:d.waits.length<fuel)(hn:d.waits.length≤maxN):z1g fuel d d=some true:=by
 unfold z1g;rw[decide_eq_true rfl,Bool.not_true,z0k];have h0:=z9p (R:=Bool) (B:=fun(a1:Int)=>bf (decide (a1<(d.waits.length:Int))) (need ((0:Int)≤a1∧a1<(d.waits.length:Int))<|need ((0:Int)≤a1∧a1<(d.waits.length:Int))<|bf (!(z6g (d.waits.getD a1.toNat zzd) (d.waits.getD a1.toNat zzd))) (some (.ret false)) (some (.next (zzi.wrap (a1+1))))) (some (.brk a1))) (fun i=>(i:Int)) (n:=d.waits.length) (z:=(d.waits.length:Int)) hf
  (fun i hi=>by rw[decide_eq_true (by omega),z1y,z0c (by omega),z0c (by omega),zcq,Bool.not_true,z0k,z73 (by omega)])
  (by rw[decide_eq_false (by omega)];rfl)
 rw[show((0:Nat):Int)=0 from rfl]at h0;rw[h0,z2l,jn_eq,zbb];simp
end Go.Av
namespace Go.Av
open Go
theorem zes {l:List File}{room:Int}(h0:0≤room)(h1:room<9223372036854775808)(hz:szF l≤4611686018427387904):
 z1u l room=some (decide (room<(szF l:Int))||decide (256<l.length)):=by
 unfold z1u;have pre: ∀i,i<l.length→szF (l.take (i+1))=szF (l.take i)+(l.getD i zzd).data.size:=fun i hi=>by
  unfold szF;rw[z13 hi,List.map_append,List.sum_append];simp
 have all: ∀i,szF (l.take i)≤szF l:=fun i=>by
  conv=>rhs;rw[←zzc i l,z7m]
  omega
 have key:=z4l (S:=Int) (R:=Bool) (B:=fun i1 (a2:Int)=>bf (decide ((zzi.wrap (a2-(((l.getD i1 zzd).data).size:Int)))<0)) (some (.ret true)) (some (.next (zzi.wrap (a2-(((l.getD i1 zzd).data).size:Int)))))) (n:=l.length)
  (fun i a=>a=room-(szF (l.take i):Int)∧0≤a) (fun a=> ¬room<(szF l:Int)) (fun r=>r=true∧room<(szF l:Int)) (s:=room) ⟨by simp[szF],h0⟩
  (fun i a hi ⟨h2,h3⟩=>by
   have hp:=pre i hi;have ha:=all (i+1)
   have e:zzi.wrap (a-(((l.getD i zzd).data).size:Int))=a-(((l.getD i zzd).data).size:Int):=by
    rcases Int.lt_or_le (a-(((l.getD i zzd).data).size:Int)) 0 with h|h
    ·exact zdt ⟨by omega,by omega⟩
    ·exact z1v h (by omega)
   rw[e];by_cases hc:a-(((l.getD i zzd).data).size:Int)<0
   ·right;right;exact⟨true,by rw[decide_eq_true hc];rfl,rfl,by omega⟩
   ·left;exact⟨_,by rw[decide_eq_false hc];rfl,by omega,by omega⟩)
  (fun a ⟨h2,h3⟩=>by rw[List.take_length]at h2;omega)
 rcases key with⟨a,h2,h3⟩|⟨r,h2,rfl,h3⟩
 ·rw[h2,z2l,decide_eq_false h3,Bool.false_or];congr 1;have e:(256<(l.length:Int))↔256<l.length:=by omega
  simp only[e]
 ·rw[h2,z81,decide_eq_true h3];rfl
def burnD (n:Int):Int:=if 0<n then zzi.wrap (n-1)else n
def oneF (d:Disk)(w:Write):Disk×Int:=
 if d.down=true then(d,7)else if z21 w=false then(d,4)else if hasF w.name (seenF d)=false∧w.kind≠1 then(d,5)else
 if 4096≤d.waits.length∨d.room<(szF (doneF (seenF d) w):Int)∨256<(doneF (seenF d) w).length then(d,9)else
 if d.fuse=0 then(⟨d.files,if w.kind=1 then d.waits++[w]else d.waits,d.room,true,d.fuse⟩,7)else(⟨d.files,d.waits++[w],d.room,false,burnD d.fuse⟩,0)
def doF (d:Disk):List Write→Disk×Int
 |[]=>(d,0)
 |w::l=>if(oneF d w).2=0 then doF (oneF d w).1 l else oneF d w
theorem z5v (d:Disk)(w:Write)(l:List Write):doF d (w::l)=if(oneF d w).2=0 then doF (oneF d w).1 l else oneF d w:=rfl
theorem z4s (a b:List Write): ∀d,doF d (a++b)=if(doF d a).2=0 then doF (doF d a).1 b else doF d a:=by
 induction a with
 |nil=>intro d;rfl
 |cons w a ih=>
  intro d;rw[List.cons_append,z5v,z5v];by_cases h:(oneF d w).2=0
  ·rw[if_pos h,if_pos h];exact ih _
  ·rw[if_neg h,if_neg h,if_neg h]
theorem z80 (d:Disk)(w:Write):(oneF d w).1.files=d.files:=by
 unfold oneF;repeat' (first|rfl|split)
theorem z92 (d:Disk)(w:Write):(oneF d w).1.room=d.room:=by
 unfold oneF;repeat' (first|rfl|split)
theorem zax (d:Disk)(w:Write):(oneF d w).1.waits=d.waits∨((oneF d w).1.waits=d.waits++[w]∧d.down=false∧z21 w=true∧d.waits.length<4096∧(szF (doneF (seenF d) w):Int)≤d.room∧(doneF (seenF d) w).length≤256):=by
 unfold oneF;by_cases h1:d.down=true
 ·rw[if_pos h1];exact .inl rfl
 ·rw[if_neg h1];by_cases h2:z21 w=false
  ·rw[if_pos h2];exact .inl rfl
  ·rw[if_neg h2];by_cases h3:hasF w.name (seenF d)=false∧w.kind≠1
   ·rw[if_pos h3];exact .inl rfl
   ·rw[if_neg h3];by_cases h4:4096≤d.waits.length∨d.room<(szF (doneF (seenF d) w):Int)∨256<(doneF (seenF d) w).length
    ·rw[if_pos h4];exact .inl rfl
    ·rw[if_neg h4];have h5:d.down=false∧z21 w=true∧d.waits.length<4096∧(szF (doneF (seenF d) w):Int)≤d.room∧(doneF (seenF d) w).length≤256:=⟨by simpa using h1,by simpa using h2,by omega,by omega,by omega⟩;by_cases h6:d.fuse=0
     ·rw[if_pos h6];by_cases h7:w.kind=1
      ·rw[if_pos h7];exact .inr ⟨rfl,h5⟩
      ·rw[if_neg h7];exact .inl rfl
     ·rw[if_neg h6];exact .inr ⟨rfl,h5⟩
theorem zc1 {d:Disk}{w:Write}{fs:List File}{ws:List Write}{r:Int}{b:Bool}{f:Int}(hf:fs=d.files)(hw:ws=d.waits++[w]):seenF ⟨fs,ws,r,b,f⟩=doneF (seenF d) w:=by
 subst hf;subst hw;unfold seenF;rw[List.foldl_append];rfl
theorem zfn {d e:Disk}{w:Write}(hc:chkP d)(hf:e.files=d.files)(hr:e.room=d.room)(hw:e.waits=d.waits++[w])(h1:z21 w=true)(h2:d.waits.length<4096)(h3:(doneF (seenF d) w).length≤256):chkP e:=by
 unfold chkP;rw[hf,hr,hw];refine⟨hc.1,by rw[List.length_append];simp only[List.length_cons,List.length_nil];omega,hc.2.2.1,hc.2.2.2.1,hc.2.2.2.2.1,fun x hx=>?_,fun k hk=>?_⟩
 ·rcases List.mem_append.1 hx with hx|hx
  ·exact hc.2.2.2.2.2.1 x hx
  ·rw[List.mem_singleton.1 hx];exact h1
 ·rw[List.length_append]at hk;simp only[List.length_cons,List.length_nil]at hk;by_cases h:k≤d.waits.length
  ·rw[List.take_append_of_le_length h];exact hc.2.2.2.2.2.2 k h
  ·rw[List.take_of_length_le (by rw[List.length_append];simp only[List.length_cons,List.length_nil];omega),List.foldl_append];exact h3
theorem zcj {d e:Disk}(hc:chkP d)(hf:e.files=d.files)(hr:e.room=d.room)(hw:e.waits=d.waits):chkP e:=by
 unfold chkP at hc ⊢;rw[hf,hr,hw];exact hc
theorem zd2 {d:Disk}(hc:chkP d)(w:Write):chkP (oneF d w).1:=by
 rcases zax d w with h|⟨h,_,h1,h2,_,h3⟩
 ·exact zcj hc (z80 d w) (z92 d w) h
 ·exact zfn hc (z80 d w) (z92 d w) h h1 h2 h3
theorem ze0 {d:Disk}{w:Write}{B C:Nat}(hs:smP B d)(hC:B+w.data.size≤C)(hw:w.to_.size+w.data.size≤9223372036854775807):smP C (oneF d w).1:=by
 unfold smP;rw[z80,z92];have:=hs.2.2.1
 rcases zax d w with h|⟨h,_⟩<;>rw[h]
 ·exact⟨hs.1,hs.2.1,by omega,hs.2.2.2⟩
 ·refine⟨hs.1,fun x hx=>?_,?_,hs.2.2.2⟩
  ·rcases List.mem_append.1 hx with hx|hx
   ·exact hs.2.1 x hx
   ·rw[List.mem_singleton.1 hx];exact hw
  ·have:szW (d.waits++[w])=szW d.waits+w.data.size:=by unfold szW;simp
   omega
theorem zg0 (w:Write)(l:List Write):szW (w::l)=w.data.size+szW l:=by unfold szW;simp
theorem z9b: ∀(l:List Write) {d:Disk},chkP d→chkP (doF d l).1
 |[],d,h=>h
 |w::l,d,h=>by
  unfold doF;split
  ·exact z9b l (zd2 h w)
  ·exact zd2 h w
theorem zcm: ∀(l:List Write) {d:Disk} {B C:Nat},smP B d→B+szW l≤C→(∀w∈l,w.to_.size+w.data.size≤9223372036854775807)→smP C (doF d l).1
 |[],d,B,C,h,hC,_=>⟨h.1,h.2.1,by have:=h.2.2.1;show szF d.files+szW d.waits≤C;omega,h.2.2.2⟩
 |w::l,d,B,C,h,hC,hw=>by
  rw[zg0]at hC;have hw0:=hw w (zz6 ..)
  unfold doF;split
  ·exact zcm l (ze0 h (zzb _) hw0) (by omega) (fun x hx=>hw x (zz7 _ hx))
  ·exact ze0 h (by omega) hw0
theorem jn_x {Q:Type}{b c:Bool}(j:Bool→Option Q)(h:b=true→c=false):jn j (fun j4=>bf b (j4 c) (j4 false))=j false:=by
 cases b with
 |false=>rfl
 |true=>rw[h rfl];rfl
theorem jn_z {Q:Type}{b c:Bool}(j:Bool→Option Q):jn j (fun j8=>bf b (j8 true) ((some c).bind fun r=>j8 r))=j (b||c):=by cases b<;>rfl
theorem zg5 {fuel:Nat}{d:Disk}{w:Write}{B:Nat}(hf:20000000≤fuel)(hB:B+w.data.size≤4611686018427387904)(hs:smP B d)(hc:chkP d)(hw:w.to_.size+w.data.size≤9223372036854775807):
 ∃k,z1d fuel w ⟨seenF d,d⟩=some ((oneF d w).2,k)∧k.disk=(oneF d w).1∧((oneF d w).2=0→k=⟨seenF (oneF d w).1,(oneF d w).1⟩):=by
 have hl:=zdc hc;have hS:=ze6 hc
 have hz:=ze7 hc hs;have hdl:=z8t (seenF d) w
 have hdz:=zbd w (show(seenF d).length≤4000000 by omega) hS;have hwl:=hc.2.1
 unfold z1d oneF;dsimp only;by_cases h1:d.down=true
 ·rw[h1,if_pos rfl];exact⟨_,rfl,rfl,fun h=>by cases h⟩
 ·rw[if_neg h1,(by simpa using h1:d.down=false),z0k,zdb hw,zz3];cases h2:z21 w with
  |false=>exact⟨_,rfl,rfl,fun h=>by cases h⟩
  |true=>
   rw[if_neg (by simp),Bool.not_true,z0k];obtain⟨k,p1,p2⟩:=zfu (n:=w.name) hf (show(seenF d).length≤4000000 by omega) hS;rw[p1,zz3];dsimp only;by_cases h3:hasF w.name (seenF d)=false∧w.kind≠1
   ·rw[if_pos h3,h3.1,jn_eq,Bool.not_false,z1y,decide_eq_false h3.2,Bool.not_false];exact⟨_,rfl,rfl,fun h=>by cases h⟩
   ·rw[if_neg h3];have hx:(!hasF w.name (seenF d))=true→(!decide (w.kind=1))=false:=fun hh=>by
     have:w.kind=1:=by
      rcases Classical.em (w.kind=1)with h|h
      ·exact h
      ·exact absurd ⟨by simpa using hh,h⟩ h3
     rw[decide_eq_true this];rfl
    rw[jn_x _ hx,z0k];unfold z44;rw[z0c (by omega),zz3,zex hf (by omega) (by omega) hS,zz3,zes hc.2.2.1 hs.2.2.2 (by omega),jn_z];generalize hg:doneF (seenF d) w=nx at hdl hdz;by_cases h4:4096≤d.waits.length∨d.room<(szF nx:Int)∨256<nx.length
    ·rw[if_pos h4];have e4:(decide (4096≤(d.waits.length:Int))||(decide (d.room<(szF nx:Int))||decide (256<nx.length)))=true:=by
      simp only[Bool.or_eq_true,decide_eq_true_eq];omega
     rw[e4];exact⟨_,rfl,rfl,fun h=>by cases h⟩
    ·rw[if_neg h4];have e4:(decide (4096≤(d.waits.length:Int))||(decide (d.room<(szF nx:Int))||decide (256<nx.length)))=false:=by
      simp only[Bool.or_eq_false_iff,decide_eq_false_iff_not];omega
     rw[e4,z0k];unfold z1k;simp only[jn_eq,z2h];have hwl2:d.waits.length+[w].length≤274877906944:=by simp only[List.length_cons,List.length_nil];omega
     by_cases h6:d.fuse=0
     ·rw[if_pos h6,if_neg (by omega)];simp only[zz3,h6,decide_true,Bool.not_true,z0k];by_cases h7:w.kind=1
      ·rw[if_pos h7,z0c hwl2];exact⟨_,rfl,by rw[if_pos h7],fun h=>by cases h⟩
      ·rw[if_neg h7];exact⟨_,rfl,by rw[if_neg h7],fun h=>by cases h⟩
     ·rw[if_neg h6];have e6:decide (d.fuse=0)=false:=decide_eq_false h6;unfold burnD;by_cases h8:0<d.fuse
      ·rw[if_pos h8,if_pos h8];simp only[zz3,e6,Bool.not_false,z1y,Bool.not_true,z0k];rw[z0c hwl2];exact⟨_,rfl,rfl,fun _=>by rw[zc1 rfl rfl,hg]⟩
      ·rw[if_neg h8,if_neg h8];simp only[zz3,e6,Bool.not_false,z1y,Bool.not_true,z0k];rw[z0c hwl2];exact⟨_,rfl,rfl,fun _=>by rw[zc1 rfl rfl,hg]⟩
end Go.Av
namespace Go.Av
open Go
theorem zg1 (l:List Write)(i:Nat):szW (l.take i)≤szW l:=by
 unfold szW
 conv=>rhs;rw[←zzc i l,List.map_append,List.sum_append]
 omega
theorem z8g {l:List Write}{i:Nat}(hi:i<l.length):szW (l.take i)+(l.getD i zzd).data.size≤szW l:=by
 have h:=zg1 l (i+1);rw[z13 hi]at h;have:szW (l.take i++[l.getD i zzd])=szW (l.take i)+(l.getD i zzd).data.size:=by unfold szW;simp
 omega
def zeroD:Disk:=⟨[],[],0,false,0⟩
theorem Do_ok {fuel B:Nat}{d:Disk}{l:List Write}(hf:20000000≤fuel)(hB:B+szW l≤4611686018427387904)(hs:smP B d)(hc:chkP d)(hw: ∀w∈l,w.to_.size+w.data.size≤9223372036854775807):z3t fuel d l=some (doF d l):=by
 unfold z3t;rw[zbk hf hs hc,zz3,decide_eq_true rfl,Bool.not_true,z0k,ze1 hf (by omega) hs hc,zz3];have key:=z4l (S:=Desk) (R:=Disk×Int) (B:=fun i3 (a4:Desk)=>(z1d fuel (l.getD i3 zzd) a4).bind fun r6=>bf (!decide (r6.1=0)) (some (.ret (r6.2.disk,r6.1))) (some (.next r6.2))) (n:=l.length) (s:=⟨seenF d,d⟩)
  (fun i k=>k=⟨seenF k.disk,k.disk⟩∧doF d (l.take i)=(k.disk,0)) (fun k=>doF d l=(k.disk,0)) (fun r=>r=doF d l) ⟨rfl,rfl⟩
  (fun i k hi ⟨h1,h2⟩=>by
   have hm:=z4e (l:=l) hi;have hz:=z8g hi
   have e:k.disk=(doF d (l.take i)).1:=by rw[h2]
   have hc2:chkP k.disk:=by rw[e];exact z9b _ hc
   have hs2:smP (B+szW (l.take i)) k.disk:=by rw[e];exact zcm _ hs (zzb _) (fun w h=>hw w (List.mem_of_mem_take h))
   obtain⟨k2,g1,g2,g3⟩:=zg5 hf (by omega) hs2 hc2 (hw _ hm);rw[←h1]at g1;rw[g1,zz3];dsimp only;by_cases hz0:(oneF k.disk (l.getD i zzd)).2=0
   ·left;refine⟨k2,by rw[decide_eq_true hz0];rfl,?_,?_⟩
    ·rw[g2];exact g3 hz0
    ·rw[z13 hi,z4s,h2,if_pos rfl,z5v,if_pos hz0,g2];rfl
   ·right;right;refine⟨_,by rw[decide_eq_false hz0];rfl,?_⟩;have e2:doF d (l.take (i+1)++l.drop (i+1))=oneF k.disk (l.getD i zzd):=by
     rw[z4s,z13 hi,z4s,h2,if_pos rfl,z5v,if_neg hz0,if_neg hz0]
    rw[zzc]at e2;rw[e2,g2])
  (fun k ⟨h1,h2⟩=>by rwa[List.take_length]at h2)
 rcases key with⟨k,h1,h2⟩|⟨r,h1,h2⟩
 ·rw[h1,z2l,h2]
 ·rw[h1,z81,h2]
theorem Do_no {fuel B:Nat}{d:Disk}{l:List Write}(hf:20000000≤fuel)(hs:smP B d)(hc: ¬chkP d):z3t fuel d l=some (zeroD,8):=by
 unfold z3t;rcases z4f hf hs with⟨h1,_⟩|⟨_,h2,_⟩
 ·exact absurd h1 hc
 ·rw[h2];rfl
def syncF (d:Disk):Disk×Int:=if d.down=true∨d.fuse=0 then(⟨d.files,d.waits,d.room,true,d.fuse⟩,7)else(⟨seenF d,[],d.room,false,burnD d.fuse⟩,0)
theorem zg8 {fuel B:Nat}{d:Disk}(hf:20000000≤fuel)(hB:B≤4611686018427387904)(hs:smP B d)(hc:chkP d):z4b fuel d=some (syncF d):=by
 unfold z4b syncF;rw[zbk hf hs hc,zz3,decide_eq_true rfl,Bool.not_true,z0k,ze1 hf hB hs hc,zz3,jn_eq];by_cases h1:d.down=true
 ·rw[if_pos (.inl h1),h1];obtain⟨a,b,c,e,f⟩:=d;cases h1;rfl
 ·rw[(by simpa using h1:d.down=false),z0k];unfold z1k;simp only[jn_eq,z2h];by_cases h2:d.fuse=0
  ·rw[if_pos (Or.inr h2:false=true∨d.fuse=0),if_neg (by omega: ¬0<d.fuse),h2];rfl
  ·rw[if_neg (by simp[h2]: ¬(false=true∨d.fuse=0))];have e6:decide (d.fuse=0)=false:=decide_eq_false h2;unfold burnD;by_cases h8:0<d.fuse
   ·rw[if_pos h8,if_pos h8];simp only[zz3,e6,Bool.not_false,Bool.not_true,z0k]
   ·rw[if_neg h8,if_neg h8];simp only[zz3,e6,Bool.not_false,Bool.not_true,z0k]
theorem zg7 {fuel B:Nat}{d:Disk}(hf:20000000≤fuel)(hs:smP B d)(hc: ¬chkP d):z4b fuel d=some (zeroD,8):=by
 unfold z4b;rcases z4f hf hs with⟨h1,_⟩|⟨_,h2,_⟩
 ·exact absurd h1 hc
 ·rw[h2];rfl
end Go.Av
namespace Go.Av
open Go
set_option maxRecDepth 100000
theorem zcw:z3y 100000000=some true:=by kernel_rfl
theorem zgk (l:List File):l.length≤(l.map z56).sum∧szF l≤(l.map z56).sum:=by
 unfold szF;induction l with
 |nil=>simp
 |cons f l ih=>
  simp only[List.map_cons,List.sum_cons,List.length_cons];have:f.data.size+1≤z56 f:=by unfold z56;simp only;omega
  omega
theorem zbi (l:List Write):l.length≤(l.map z3n).sum∧szW l≤(l.map z3n).sum∧ ∀w∈l,w.to_.size+w.data.size≤(l.map z3n).sum:=by
 unfold szW;induction l with
 |nil=>simp
 |cons f l ih=>
  simp only[List.map_cons,List.sum_cons,List.length_cons];have:f.to_.size+f.data.size+1≤z3n f:=by unfold z3n;simp only;omega
  refine⟨by omega,by omega,fun w hw=>?_⟩;rcases List.mem_cons.1 hw with rfl|hw
  ·omega
  ·have:=ih.2.2 w hw;omega
theorem zh5 {d:Disk}(h:zd0 d)(hb:z6m d≤1048576):smP 1048576 d:=by
 unfold z6m at hb;simp only at hb;have h1:=zgk d.files
 have h2:=zbi d.waits;refine⟨by omega,fun w hw=>by have:=h2.2.2 w hw;omega,by omega,?_⟩;have:=Go.bounds_i64 h.2.2.1
 omega
end Go.Av
namespace Go.Av
open Go
theorem zbc {d:Disk}(h:d.waits.length≤4096):z1g 100000000 d d=some true:=zbo (by omega) (by unfold maxN;omega)
theorem zb9 {d:Disk}{B:Nat}(h:d.files.length≤4000000)(h2:d.waits.length≤4000000):z1f d=some d:=by
 unfold z1f;rw[z0c (by omega),z0c (by omega)]
end Go.Av
namespace Go.Av
open Go
theorem zfq {l:List File}{room:Int}(h0:0≤room)(h1:room<9223372036854775808):
 z2i l room=some (decide (room<(szF l:Int))||decide (256<l.length)):=by
 unfold z2i;have pre: ∀i,i<l.length→szF (l.take (i+1))=szF (l.take i)+(l.getD i zzd).data.size:=fun i hi=>by
  unfold szF;rw[z13 hi,List.map_append,List.sum_append];simp
 have all: ∀i,szF (l.take i)≤szF l:=fun i=>by
  conv=>rhs;rw[←zzc i l,z7m]
  omega
 have key:=z4l (S:=Int) (R:=Bool) (B:=fun i1 (a2:Int)=>bf (decide (a2<(((l.getD i1 zzd).data).size:Int))) (some (.ret true)) (some (.next (zzi.wrap (a2-(((l.getD i1 zzd).data).size:Int)))))) (n:=l.length)
  (fun i a=>a=room-(szF (l.take i):Int)∧0≤a) (fun a=> ¬room<(szF l:Int)) (fun r=>r=true∧room<(szF l:Int)) (s:=room) ⟨by simp[szF],h0⟩
  (fun i a hi ⟨h2,h3⟩=>by
   have hp:=pre i hi;have ha:=all (i+1)
   by_cases hc:a<(((l.getD i zzd).data).size:Int)
   ·right;right;exact⟨true,by rw[decide_eq_true hc];rfl,rfl,by omega⟩
   ·left;exact⟨_,by rw[decide_eq_false hc,z1v (by omega) (by omega)];rfl,by omega,by omega⟩)
  (fun a ⟨h2,h3⟩=>by rw[List.take_length]at h2;omega)
 rcases key with⟨a,h2,h3⟩|⟨r,h2,rfl,h3⟩
 ·rw[h2,z2l,decide_eq_false h3,Bool.false_or];congr 1;have e:(256<(l.length:Int))↔256<l.length:=by omega
  simp only[e]
 ·rw[h2,z81,decide_eq_true h3];rfl
theorem zff {fuel:Nat}(d:Disk):z37 fuel d=z1h fuel d:=by
 unfold z37 z1h;have: ∀(n:Nat) (i:Nat) (s:List File),i+n=d.waits.length→z0l (S:=List File) (R:=Empty) (fun i2 (a3:List File)=>need ((0+i2)<d.waits.length)<|(z0t fuel a3 (d.waits.getD (0+i2) zzd)).bind fun r6=>some (.next r6)) n i s=z0l (S:=List File) (R:=Empty) (fun i2 (a3:List File)=>(z0t fuel a3 (d.waits.getD i2 zzd)).bind fun r5=>some (.next r5)) n i s:=by
  intro n;induction n with
  |zero=>intro i s _;rfl
  |succ n ih=>
   intro i s hi;unfold z0l;rw[z0c (by omega),zza];cases z0t fuel s (d.waits.getD i zzd)with
   |none=>rfl
   |some r=>exact ih (i+1) r (by omega)
 rw[this d.waits.length 0 _ (by omega)]
theorem jn_z2 {A Q:Type}{b c:Bool}{o:Option A}{g:A→Option Bool}(j:Bool→Option Q)(h:o.bind g=some c):jn j (fun j8=>bf b (j8 true) (o.bind fun r=>(g r).bind fun q=>j8 q))=j (b||c):=by
 cases o with
 |none=>cases h
 |some a=>
  have h:g a=some c:=h;cases b with
  |true=>rfl
  |false=>
   show(g a).bind (fun q=>j q)=j c;rw[h];rfl
theorem zh3 {fuel:Nat}{d:Disk}{w:Write}{B:Nat}(hf:20000000≤fuel)(hB:B+w.data.size≤4611686018427387904)(hs:smP B d)(hc:chkP d):z27 fuel d w=some (oneF d w):=by
 have hl:=zdc hc;have hS:=ze6 hc
 have hz:=ze7 hc hs;have hwl:=hc.2.1
 unfold z27 oneF;rw[zff,za1 hf (by omega) hs hc,zz3];by_cases h1:d.down=true
 ·rw[h1,if_pos rfl];rfl
 ·rw[if_neg h1,(by simpa using h1:d.down=false),z0k,z9t,zz3];cases h2:z21 w with
  |false=>rfl
  |true=>
   rw[if_neg (by simp),Bool.not_true,z0k];have hfind:(z17 (seenF d) w.name).bind (fun r17=>some (decide (r17<0)))=some (!hasF w.name (seenF d)):=by
    rcases zd8 (seenF d) w.name with⟨i,g1,_,g3,_⟩|⟨g1,g3⟩
    ·rw[g1,g3,zz3,decide_eq_false (by omega)];rfl
    ·rw[g1,g3];rfl
   have hjn: ∀J:Bool→Option (Disk×Int),jn J (fun j4=>bf (!decide (w.kind=1)) ((z17 (seenF d) w.name).bind fun r17=>j4 (decide (r17<0))) (j4 false))=J (!decide (w.kind=1) && !hasF w.name (seenF d)):=fun J=>by
    rw[jn_eq];by_cases hk:w.kind=1
    ·rw[decide_eq_true hk];rfl
    ·rw[decide_eq_false hk,Bool.not_false,z1y,Bool.true_and];cases hq:z17 (seenF d) w.name with
     |none=>rw[hq]at hfind;cases hfind
     |some v=>
      rw[hq,zz3]at hfind;injection hfind with hfind;rw[zz3,hfind]
   rw[hjn];by_cases h3:hasF w.name (seenF d)=false∧w.kind≠1
   ·rw[if_pos h3,h3.1,decide_eq_false h3.2];rfl
   ·rw[if_neg h3];have e3:(!decide (w.kind=1) && !hasF w.name (seenF d))=false:=by
     cases hh:hasF w.name (seenF d)with
     |true=>simp
     |false=>
      have:w.kind=1:=by
       rcases Classical.em (w.kind=1)with h|h
       ·exact h
       ·exact absurd ⟨hh,h⟩ h3
      rw[decide_eq_true this];rfl
    have hgr:(z0t fuel (seenF d) w).bind (fun r15=>z2i r15 d.room)=some (decide (d.room<(szF (doneF (seenF d) w):Int))||decide (256<(doneF (seenF d) w).length)):=by
     rw[za0 hf (by omega) hS (by omega) (z86 h2),zz3,zfq hc.2.2.1 hs.2.2.2]
    rw[e3,z0k,jn_z2 _ hgr];by_cases h4:4096≤d.waits.length∨d.room<(szF (doneF (seenF d) w):Int)∨256<(doneF (seenF d) w).length
    ·rw[if_pos h4];have e4:(decide (4096≤(d.waits.length:Int))||(decide (d.room<(szF (doneF (seenF d) w):Int))||decide (256<(doneF (seenF d) w).length)))=true:=by
      simp only[Bool.or_eq_true,decide_eq_true_eq];omega
     rw[e4];rfl
    ·rw[if_neg h4];have e4:(decide (4096≤(d.waits.length:Int))||(decide (d.room<(szF (doneF (seenF d) w):Int))||decide (256<(doneF (seenF d) w).length)))=false:=by
      simp only[Bool.or_eq_false_iff,decide_eq_false_iff_not];omega
     rw[e4,z0k];have hwl2:d.waits.length+[w].length≤274877906944:=by simp only[List.length_cons,List.length_nil];omega
     simp only[jn_eq,z2h];by_cases h6:d.fuse=0
     ·rw[if_pos h6];simp only[h6,decide_true,Bool.not_true,z0k,if_true];by_cases h7:w.kind=1
      ·rw[if_pos h7,if_pos h7,z0c hwl2]
      ·rw[if_neg h7,if_neg h7]
     ·rw[if_neg h6];simp only[h6,decide_false,Bool.not_false,z1y,if_false];rw[z0c hwl2];unfold burnD;by_cases h8:0<d.fuse
      ·rw[if_pos h8,if_pos h8]
      ·rw[if_neg h8,if_neg h8]
theorem zfd {fuel B:Nat}{d:Disk}{l:List Write}(hf:20000000≤fuel)(hB:B+szW l≤4611686018427387904)(hs:smP B d)(hc:chkP d)(hw: ∀w∈l,w.to_.size+w.data.size≤9223372036854775807):z2w fuel d l=some (doF d l):=by
 unfold z2w;have h1:=hc.1
 have h2:=hc.2.1;have hch:z11 fuel d=some 0:=by
  rcases z4f hf hs with⟨_,_,h⟩|⟨h,_⟩
  ·exact h
  ·exact absurd hc h
 rw[hch,zz3,decide_eq_true rfl,Bool.not_true,z0k,zb9 (B:=0) hs.1 (by omega),zz3];have key:=z4l (S:=Disk) (R:=Disk×Int) (B:=fun i3 (a4:Disk)=>(z27 fuel a4 (l.getD i3 zzd)).bind fun r6=>bf (!decide (r6.2=0)) (some (.ret (r6.1,r6.2))) (some (.next r6.1))) (n:=l.length) (s:=d)
  (fun i k=>doF d (l.take i)=(k,0)) (fun k=>doF d l=(k,0)) (fun r=>r=doF d l) rfl
  (fun i k hi h2=>by
   have hm:=z4e (l:=l) hi;have hz:=z8g hi
   have e:k=(doF d (l.take i)).1:=by rw[h2]
   have hc2:chkP k:=by rw[e];exact z9b _ hc
   have hs2:smP (B+szW (l.take i)) k:=by rw[e];exact zcm _ hs (zzb _) (fun w h=>hw w (List.mem_of_mem_take h))
   rw[zh3 hf (by omega) hs2 hc2,zz3];by_cases hz0:(oneF k (l.getD i zzd)).2=0
   ·left;refine⟨(oneF k (l.getD i zzd)).1,by rw[decide_eq_true hz0];rfl,?_⟩;rw[z13 hi,z4s,h2,if_pos rfl,z5v,if_pos hz0];rfl
   ·right;right;refine⟨_,by rw[decide_eq_false hz0];rfl,?_⟩;have e2:doF d (l.take (i+1)++l.drop (i+1))=oneF k (l.getD i zzd):=by
     rw[z4s,z13 hi,z4s,h2,if_pos rfl,z5v,if_neg hz0,if_neg hz0]
    rw[zzc]at e2;rw[e2])
  (fun k h2=>by rwa[List.take_length]at h2)
 rcases key with⟨k,h1,h2⟩|⟨r,h1,h2⟩
 ·rw[h1,z2l,h2]
 ·rw[h1,z81,h2]
theorem zfc {fuel B:Nat}{d:Disk}{l:List Write}(hf:20000000≤fuel)(hs:smP B d)(hc: ¬chkP d):z2w fuel d l=some (zeroD,8):=by
 unfold z2w;rcases z4f hf hs with⟨h1,_⟩|⟨_,_,h2⟩
 ·exact absurd h1 hc
 ·rw[h2];rfl
theorem zds {fuel B:Nat}{d:Disk}(hf:20000000≤fuel)(hB:B≤4611686018427387904)(hs:smP B d)(hc:chkP d):z26 fuel d=some (syncF d):=by
 unfold z26 syncF;have h2:=hc.2.1
 have hch:z11 fuel d=some 0:=by
  rcases z4f hf hs with⟨_,_,h⟩|⟨h,_⟩
  ·exact h
  ·exact absurd hc h
 rw[hch,zz3,decide_eq_true rfl,Bool.not_true,z0k,zb9 (B:=0) hs.1 (by omega),zz3,jn_eq];by_cases h1:d.down=true
 ·rw[if_pos (.inl h1),h1,z1y];rfl
 ·rw[(by simpa using h1:d.down=false),z0k];by_cases h3:d.fuse=0
  ·rw[if_pos (Or.inr h3:false=true∨d.fuse=0),decide_eq_true h3];rfl
  ·rw[if_neg (by simp[h3]: ¬(false=true∨d.fuse=0)),decide_eq_false h3];dsimp only;rw[z0k,jn_eq];unfold burnD;by_cases h8:0<d.fuse
   ·rw[if_pos h8,decide_eq_true h8,z1y];have:=za1 (d:=⟨d.files,d.waits,d.room,false,zzi.wrap (d.fuse-1)⟩) hf hB ⟨hs.1,hs.2.1,hs.2.2.1,hs.2.2.2⟩ (zcj hc rfl rfl rfl);show(z1h fuel _).bind _=_;rw[this];rfl
   ·rw[if_neg h8,decide_eq_false h8,z0k];show(z1h fuel _).bind _=_;rw[za1 hf hB hs hc];rw[zz3,(by simpa using h1:d.down=false)]
theorem zdr {fuel B:Nat}{d:Disk}(hf:20000000≤fuel)(hs:smP B d)(hc: ¬chkP d):z26 fuel d=some (zeroD,8):=by
 unfold z26;rcases z4f hf hs with⟨h1,_⟩|⟨_,_,h2⟩
 ·exact absurd h1 hc
 ·rw[h2];rfl
theorem za8 {d:Disk}{l:List Write}(hs:smP 1048576 d)(hdw:d.waits.length≤1048576)(hz:szW l≤1048576)(hw: ∀w∈l,w.to_.size+w.data.size≤9223372036854775807):z25 100000000 d l=some true:=by
 unfold z25;have hf:20000000≤100000000:=by omega
 have hS:z1g 100000000 d d=some true:=zbo (by omega) (by unfold maxN;omega);rw[zb9 (B:=0) hs.1 (by omega),zz3];by_cases hc:chkP d
 ·have hy:(syncF d).1.waits.length≤4096:=by
   unfold syncF;split
   ·exact hc.2.1
   ·exact Nat.zero_le _
  rw[Do_ok hf (by omega) hs hc hw,zfd hf (by omega) hs hc hw,zg8 hf (by omega) hs hc,zds hf (by omega) hs hc,zcw];simp only[zz3,jn_eq,hS,decide_true,z1y,zbc (z9b l hc).2.1,zbc hy]
 ·rw[Do_no hf hs hc,zfc hf hs hc,zg7 hf hs hc,zdr hf hs hc,zcw];simp only[zz3,jn_eq,hS,decide_true,z1y,zbc (d:=zeroD) (Nat.zero_le _)]
theorem zba {d:Disk}{l:List Write}(h:zd0 d)(hb:z6m d+((l.map z3n).sum+1+0)≤1048576):z25 100000000 d l=some true:=by
 have h2:=zbi l;refine za8 (zh5 h (by omega)) ?_ (by omega) (fun w hw=>by have:=h2.2.2 w hw;omega);unfold z6m at hb;simp only at hb;have:=(zbi d.waits).1
 omega
end Go.Av
