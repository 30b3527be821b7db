import Derived.Calls
import Derived.Orders
import Derived.Tactics
import Derived.LoopN
import Derived.LoopNIn
import Derived.OrdersIn
import Derived.TacticsIn
import Derived.Scope
import Derived.KernelRfl
import Derived.Deep.MidRow
import Derived.Laws.AppendOwn
import Derived.Laws.StructEq
import Derived.Laws.BytesArg
import Derived.Lib.ConvBytes
import Derived.ChangeOld
import Derived.ChangeArms
import Derived.Carry
import Derived.OpenShut
import Derived.WalkKit
import Derived.ProofKit
import Derived.SizedLaws
import Derived.JoinedCond
set_option maxRecDepth 100000
set_option linter.unusedVariables false
set_option linter.unusedSimpArgs false
set_option linter.unusedSectionVars false
open Go.IntKind renaming i64→zzi
open Inhabited renaming default→zzd
open Option renaming bind_some→zz0
open Go.Result renaming andThen_ok→zz1
open List renaming mem_append→zz2, mem_cons_self→zz3, mem_cons_of_mem→zz6, length_drop→zzc, mem_map→zzf, mem_cons→zzg, mem_filter→zzh, mem_append_left→zzm
open Nat renaming eq_of_beq_eq_true→zz4, le_of_ble_eq_true→zz7, zero_add→zzb, le_refl→zze, blt_eq→zzk
open Go.Sem renaming run_bind→zz5, run_pure→zza
open Array renaming length_toList→zzl
/-
 Av,part A:abstract values,and how they lie in the model's memory.
-/
namespace Go.Av
open Go
inductive D where
 |bool (b:Bool)
 |int (k:IntKind) (n:Int)
 |str (s:ByteArray)
 |list (es n:Nat) (get:Nat→List D)
 |fn (f:Nat) (caps:List D)
 |cptr (cells:List D)
 |nilf
 |mp (es:Array MapEntry) (clock:Nat)
instance:Inhabited D:=⟨.bool false⟩
def D.at (xs:List D)(j:Nat):D:=xs.getD j (.bool false)
def maxN:Nat:=281474976710656
inductive RelD (G:Nat→Prop) (w:World):D→Value→Prop
 |bool (b:Bool):RelD G w (.bool b) (.bool b)
 |int (k:IntKind) (n:Int):RelD G w (.int k n) (.int k n)
 |str (s:ByteArray):RelD G w (.str s) (.string s)
 |empty (es:Nat) (get:Nat→List D) (a:Option Addr) (cap:Nat):RelD G w (.list es 0 get) (.slice a 0 cap)
 |list (es n:Nat) (get:Nat→List D) (b off cap:Nat) (vals:Nat→Nat→Value) (hG:G b) (hn:n≤cap) (hm:n≤maxN)
  (hc: ∀i j,i<n→j<es→w.cell? ⟨b,off+i*es+j,none⟩=some (vals i j))
  (hl: ∀i,i<n→(get i).length=es)
  (hr: ∀i j,i<n→j<es→RelD G w (D.at (get i) j) (vals i j)):
  RelD G w (.list es n get) (.slice (some ⟨b,off,none⟩) n cap)
 |fn (f:Nat) (caps:List D) (vs:List Value) (hl:caps.length=vs.length)
  (hr: ∀j,j<caps.length→RelD G w (D.at caps j) (vs.getD j undef)):RelD G w (.fn f caps) (.func (.func f) #[] vs.toArray)
 |cptr (cells:List D) (b off:Nat) (vals:Nat→Value) (hG:G b)
  (hc: ∀j,j<cells.length→w.cell? ⟨b,off+j,none⟩=some (vals j))
  (hr: ∀j,j<cells.length→RelD G w (D.at cells j) (vals j)):RelD G w (.cptr cells) (.pointer (some ⟨b,off,none⟩))
 |nilf:RelD G w .nilf .nilFunc
 |mp (es:Array MapEntry) (clock b:Nat) (hG:G b) (hc:w.heap[b]?=some (.map es clock)):RelD G w (.mp es clock) (.map (some b))
def Same (G:Nat→Prop)(w w':World):Prop:= ∀b,G b→w'.heap[b]?=w.heap[b]?
theorem Same.refl (G:Nat→Prop)(w:World):Same G w w:=fun _ _=>rfl
theorem Same.trans {G:Nat→Prop}{a b c:World}(h:Same G a b)(k:Same G b c):Same G a c:=fun i hi=>(k i hi).trans (h i hi)
theorem Same.cell {G:Nat→Prop}{w w':World}(h:Same G w w'){b o:Nat}(hb:G b):w'.cell? ⟨b,o,none⟩=w.cell? ⟨b,o,none⟩:=
 World.cell?_of_block (w:=w) (h b hb)
theorem RelD.mono {G G':Nat→Prop}{w w':World}(hs:Same G w w')(hg: ∀b,G b→G' b){x:D}{v:Value}(h:RelD G w x v):RelD G' w' x v:=by
 induction h with
 |bool b=>exact .bool b
 |int k n=>exact .int k n
 |str s=>exact .str s
 |empty es get a cap=>exact .empty es get a cap
 |list es n get b off cap vals hG hn hm hc hl _ ih=>exact .list es n get b off cap vals (hg b hG) hn hm (fun i j hi hj=>by rw[hs.cell hG];exact hc i j hi hj) hl ih
 |fn f caps vs hl _ ih=>exact .fn f caps vs hl ih
 |cptr cells b off vals hG hc _ ih=>exact .cptr cells b off vals (hg b hG) (fun j hj=>by rw[hs.cell hG];exact hc j hj) ih
 |nilf=>exact .nilf
 |mp es c b hG hc=>exact .mp es c b (hg b hG) (by rw[hs b hG];exact hc)
theorem zaj {G:Nat→Prop}{w:World}{es n:Nat}{get get':Nat→List D}{v:Value}(h:RelD G w (.list es n get) v)
 (he: ∀i,i<n→get' i=get i):RelD G w (.list es n get') v:=by
 cases h with
 |empty _ _ a cap=>exact .empty es get' a cap
 |list _ _ _ b off cap vals hG hn hm hc hl hr=>
  exact .list es n get' b off cap vals hG hn hm hc (fun i hi=>by rw[he i hi];exact hl i hi) (fun i j hi hj=>by rw[he i hi];exact hr i j hi hj)
theorem RelD.one {G:Nat→Prop}{w:World}{x:D}{v:Value}(h:RelD G w x v):v.oneCell'=true:=by
 cases h<;>rfl
inductive CC where
 |d (x:D)
 |ptr (k o:Nat)
instance:Inhabited CC:=⟨.d zzd⟩
inductive C where
 |any
 |d (x:D)
 |view (es n:Nat) (get:Nat→List D)
 |zero
 |ptr (k o:Nat)
 |vptr (k es i o:Nat)
 |eptr (cells:List D)
 |own (k es off n:Nat)
 |bsl (k o es n:Nat)
 |clo (f n:Nat) (caps:List CC)
 |raw (v:Value)
instance:Inhabited C:=⟨.any⟩
inductive AV where
 |c (x:C)
 |agg (xs:List C)
 |tup (vs:List (Bool×List C))
instance:Inhabited AV:=⟨.c .any⟩
inductive Slot where
 |box (cs:List C)
 |vec (es n:Nat) (get:Nat→List D)
structure Loc where
 blk:Nat
 off:Nat
 cap:Nat
def z7h (G:Nat→Prop)(w:World)(b off:Nat)(cells:List D):Prop:=
 ∀j,j<cells.length→ ∃u,w.cell? ⟨b,off+j,none⟩=some u∧RelD G w (D.at cells j) u
def z3i (G:Nat→Prop)(w:World)(b off es n:Nat)(get:Nat→List D):Prop:=
 ∀i,i<n→(get i).length=es∧z7h G w b (off+i*es) (get i)
def RelCC (G:Nat→Prop)(φ:Nat→Option Loc)(w:World):CC→Value→Prop
 | .d x,v=>RelD G w x v
 | .ptr k o,v=> ∃l,φ k=some l∧v= .pointer (some ⟨l.blk,l.off+o,none⟩)
def RelC (G V:Nat→Prop)(φ:Nat→Option Loc)(w:World):C→Value→Prop
 | .any,_=>True
 | .d x,v=>RelD G w x v
 | .view es n get,v=>(n=0∧ ∃a cap,v= .slice a 0 cap)∨ ∃b off cap,(G b∨V b)∧v= .slice (some ⟨b,off,none⟩) n cap∧n≤cap∧n≤maxN∧z3i G w b off es n get
 | .zero,v=> ∃a,v= .slice a 0 0
 | .ptr k o,v=> ∃l,φ k=some l∧v= .pointer (some ⟨l.blk,l.off+o,none⟩)
 | .vptr k es i o,v=> ∃l,φ k=some l∧v= .pointer (some ⟨l.blk,l.off+i*es+o,none⟩)
 | .eptr cells,v=> ∃b off,(G b∨V b)∧v= .pointer (some ⟨b,off,none⟩)∧z7h G w b off cells
 | .own k es off n,v=>(n=0∧ ∃a,v= .slice a 0 0)∨
  ∃l,φ k=some l∧off+n≤l.cap∧v= .slice (some ⟨l.blk,l.off+off*es,none⟩) n (l.cap-off)
 | .clo f n caps,v=> ∃vs:List Value,v= .func (.func f) (vs.take n).toArray (vs.drop n).toArray∧caps.length=vs.length∧ ∀j,j<caps.length→RelCC G φ w (caps.getD j zzd) (vs.getD j undef)
 | .raw u,v=>v=u
 | .bsl k o _ n,v=> ∃l cap,φ k=some l∧n≤cap∧v= .slice (some ⟨l.blk,l.off+o,none⟩) n cap
def RelCs (R:C→Value→Prop):List C→List Value→Prop
 |[],[]=>True
 |c::cs,v::vs=>R c v∧RelCs R cs vs
 |_,_=>False
def RelS (R:C→Value→Prop):Bool×List C→Value→Prop
 |(false,[x]),v=>R x v∧v.oneCell'=true
 |(true,xs),v=> ∃vs,v= .agg vs∧RelCs R xs vs.toList∧ ∀u∈vs.toList,u.oneCell'=true
 |_,_=>False
def RelSs (R:C→Value→Prop):List (Bool×List C)→List Value→Prop
 |[],[]=>True
 |x::xs,v::vs=>RelS R x v∧RelSs R xs vs
 |_,_=>False
def RelAV (R:C→Value→Prop):AV→Value→Prop
 | .c .any,_=>True
 | .c x,v=>RelS R (false,[x]) v
 | .agg xs,v=>RelS R (true,xs) v
 | .tup xs,v=> ∃vs,v= .tuple vs∧RelSs R xs vs.toList
def Rowed (es:Nat)(w:World)(b o n:Nat):Prop:=w.there b o n∧(es≠1→ ∀x,w.frozen? ⟨b,x,none⟩=false)
def z4j (G V:Nat→Prop)(φ:Nat→Option Loc)(w:World)(k:Nat):Slot→Prop
 | .box cs=> ∃l,φ k=some l∧w.there l.blk l.off cs.length∧ ∃vs,RelCs (RelC G V φ w) cs vs∧(∀u∈vs,u.oneCell'=true)∧w.rangeAt l.blk l.off vs
 | .vec es n get=>n≤maxN∧((φ k=none∧n=0)∨ ∃l,φ k=some l∧n≤l.cap∧Rowed es w l.blk l.off (l.cap*es)∧z3i G w l.blk l.off es n get)
end Go.Av
/-
 Av,part B:states,and how they stand to the model's.
-/
namespace Go.Av
open Go
def look {α:Type}:List (Nat×α)→Nat→Option α
 |[],_=>none
 |(k,v)::r,t=>match Nat.beq k t with|true=>some v|false=>look r t
theorem z0x {α:Type}(k:Nat)(v:α)(r:List (Nat×α))(t:Nat):look ((k,v)::r) t=if k=t then some v else look r t:=by
 simp only[look];by_cases h:k=t
 ·subst h;simp
 ·have:Nat.beq k t=false:=by
   cases e:Nat.beq k t with
   |false=>rfl
   |true=>exact absurd (zz4 e) h
  simp[this,h]
def CC.refs (k:Nat):CC→Bool
 | .d _=>false
 | .ptr k' _=>Nat.beq k' k
def anyB {α:Type}(f:α→Bool):List α→Bool
 |[]=>false
 |x::r=>match f x with|true=>true|false=>anyB f r
def C.refs (k:Nat):C→Bool
 | .ptr k' _=>Nat.beq k' k
 | .vptr k' _ _ _=>Nat.beq k' k
 | .own k' _ _ _=>Nat.beq k' k
 | .bsl k' _ _ _=>Nat.beq k' k
 | .clo _ _ caps=>anyB (CC.refs k) caps
 |_=>false
theorem z1t {α:Type}{f:α→Bool}{l:List α}(h:anyB f l=false): ∀x∈l,f x=false:=by
 induction l with
 |nil=>simp
 |cons y r ih=>
  simp only[anyB]at h;cases hy:f y with
  |true=>simp[hy]at h
  |false=>
   simp only[hy]at h;intro x hx;rcases zzg.1 hx with rfl|hx
   ·exact hy
   ·exact ih h x hx
def AV.refs (k:Nat):AV→Bool
 | .c x=>x.refs k
 | .agg xs=>anyB (C.refs k) xs
 | .tup vs=>anyB (fun p:Bool×List C=>anyB (C.refs k) p.2) vs
def Slot.refs (k:Nat):Slot→Bool
 | .box cs=>anyB (C.refs k) cs
 | .vec _ _ _=>false
theorem z7w {k:Nat}{l:List Nat}(h:anyB (Nat.beq k) l=false):k∉l:=fun hm=>by
 have:=z1t h k hm;simp at this
structure St where
 tm:List (Nat×AV)
 sl:List (Nat×Slot)
def St.put (s:St)(d:Nat)(x:AV):St:={s with tm:=(d,x)::s.tm}
def St.slot (s:St)(k:Nat)(c:Slot):St:={s with sl:=(k,c)::s.sl}
def z60 (k:Nat)(e:Nat×Slot):Bool:=match Nat.beq e.1 k with|true=>true|false=>Slot.refs k e.2
def St.noRef (s:St)(k:Nat):Bool:=
 match anyB (fun e:Nat×AV=>AV.refs k e.2) s.tm with
 |true=>false
 |false=>match anyB (z60 k) s.sl with
  |true=>false
  |false=>true
structure Env where
 P:Program
 w0:World
 G0:Nat→Prop
 V:Nat→Prop
 L:Nat→Prop
 lk:List Nat
 N:Nat
 φ0:Nat→Option Loc
 fx:List Nat
 /--the round of a range over a function that this is the body of -/
 rd:Option Nat:=none
def Tp (w w':World):Prop:=w'.tape=w.tape∧w.drawn≤w'.drawn
structure Keep (n:Nat) (L:Nat→Prop) (w w':World):Prop where
 os:w'.os=w.os
 tape:Tp w w'
 output:w'.output=w.output
 size:w.heap.size≤w'.heap.size
 block: ∀b,b<n→ ¬L b→w'.heap[b]?=w.heap[b]?
theorem Keep.refl (n:Nat)(L:Nat→Prop)(w:World):Keep n L w w:=⟨rfl,⟨rfl,zze _⟩,rfl,zze _,fun _ _ _=>rfl⟩
theorem Keep.trans {n:Nat}{L:Nat→Prop}{a b c:World}(h:Keep n L a b)(k:Keep n L b c):Keep n L a c:=
 ⟨k.os.trans h.os,⟨k.tape.1.trans h.tape.1,Nat.le_trans h.tape.2 k.tape.2⟩,k.output.trans h.output,Nat.le_trans h.size k.size,fun i hi hl=>(k.block i hi hl).trans (h.block i hi hl)⟩
theorem Keep.mono {n m:Nat}{L L':Nat→Prop}{a b:World}(h:Keep n L a b)(hm:m≤n)(hl: ∀b,b<m→L b→L' b):Keep m L' a b:=
 ⟨h.os,h.tape,h.output,h.size,fun i hi hL=>h.block i (Nat.lt_of_lt_of_le hi hm) (fun k=>hL (hl i hi k))⟩
structure Sim (E:Env) (s:St) (G:Nat→Prop) (φ:Nat→Option Loc) (a:Act) (w:World):Prop where
 df:a.defers=[]
 sz:a.tmps.size=E.N
 tm: ∀t x,look s.tm t=some x→ ∃v,a.tmps[t]?=some v∧RelAV (RelC G E.V φ w) x v
 sl: ∀k c,look s.sl k=some c→z4j G E.V φ w k c
 inj: ∀k k' c c' l l',look s.sl k=some c→look s.sl k'=some c'→φ k=some l→φ k'=some l'→l.blk=l'.blk→k=k'
 own: ∀k c l,look s.sl k=some c→φ k=some l→ ¬G l.blk∧ ¬E.V l.blk∧l.blk<w.heap.size∧(E.w0.heap.size≤l.blk∨(k∈E.lk∧E.L l.blk))
 gsz: ∀b,G b→b<w.heap.size
 g0: ∀b,E.G0 b→G b
 gf: ∀b,G b→E.G0 b∨E.w0.heap.size≤b
 vsz: ∀b,E.V b→b<E.w0.heap.size∧ ¬E.L b
 gl: ∀b,E.G0 b→b<E.w0.heap.size∧ ¬E.L b
 kp:Keep E.w0.heap.size E.L E.w0 w
 fix: ∀k c,k∈E.fx→look s.sl k=some c→φ k=E.φ0 k
 fxN: ∀k,k∈E.fx→E.N≤k
theorem z7h.mono {G G':Nat→Prop}{w w':World}{b off:Nat}{cells:List D}(h:z7h G w b off cells)(hs:Same G w w')(hg: ∀b,G b→G' b)
 (hb:w'.heap[b]?=w.heap[b]?):z7h G' w' b off cells:=fun j hj=>by
 obtain⟨u,hu,hr⟩:=h j hj;exact⟨u,by rw[World.cell?_of_block (w:=w) hb];exact hu,hr.mono hs hg⟩
theorem z3i.mono {G G':Nat→Prop}{w w':World}{b off es n:Nat}{get:Nat→List D}(h:z3i G w b off es n get)(hs:Same G w w')(hg: ∀b,G b→G' b)
 (hb:w'.heap[b]?=w.heap[b]?):z3i G' w' b off es n get:=fun i hi=>⟨(h i hi).1,(h i hi).2.mono hs hg hb⟩
theorem z9a {α:Type}{f:α→Bool}{l:List α}{x:α}(hx:x∈l)(h:f x=true):anyB f l=true:=by
 cases e:anyB f l with
 |true=>rfl
 |false=>rw[z1t e x hx]at h;cases h
theorem RelCC.mono {G G':Nat→Prop}{φ φ':Nat→Option Loc}{w w':World}{x:CC}{v:Value}(h:RelCC G φ w x v)(hs:Same G w w')
 (hg: ∀b,G b→G' b) (hφ: ∀k,x.refs k=true→φ' k=φ k):RelCC G' φ' w' x v:=by
 cases x with
 |d x=>exact RelD.mono hs hg h
 |ptr k o=>obtain⟨l,hl,rfl⟩:=h;exact⟨l,by rw[hφ k (by simp[CC.refs])];exact hl,rfl⟩
theorem RelC.mono {G G' V:Nat→Prop}{φ φ':Nat→Option Loc}{w w':World}{x:C}{v:Value}(h:RelC G V φ w x v)(hs:Same G w w')(hv:Same V w w')
 (hg: ∀b,G b→G' b) (hφ: ∀k,x.refs k=true→φ' k=φ k):RelC G' V φ' w' x v:=by
 cases x with
 |any=>trivial
 |d x=>exact RelD.mono hs hg h
 |view es n get=>
  rcases h with h|⟨b,off,cap,hb,rfl,hn,hm,he⟩
  ·exact .inl h
  ·exact .inr ⟨b,off,cap,hb.imp (hg b) id,rfl,hn,hm,he.mono hs hg (hb.elim (hs b) (hv b))⟩
 |zero=>exact h
 |raw u=>exact h
 |ptr k o=>obtain⟨l,hl,rfl⟩:=h;exact⟨l,by rw[hφ k (by simp[C.refs])];exact hl,rfl⟩
 |vptr k es i o=>obtain⟨l,hl,rfl⟩:=h;exact⟨l,by rw[hφ k (by simp[C.refs])];exact hl,rfl⟩
 |eptr cells=>
  obtain⟨b,off,hb,rfl,he⟩:=h;exact⟨b,off,hb.imp (hg b) id,rfl,he.mono hs hg (hb.elim (hs b) (hv b))⟩
 |own k es off n=>
  have e:=hφ k (by simp[C.refs]);rcases h with h|⟨l,hl,h2⟩
  ·exact .inl h
  ·exact .inr ⟨l,by rw[e];exact hl,h2⟩
 |bsl k o es n=>obtain⟨l,cap,hl,h2⟩:=h;exact⟨l,cap,by rw[hφ k (by simp[C.refs])];exact hl,h2⟩
 |clo f n caps=>
  obtain⟨vs,e,hl,hr⟩:=h;refine⟨vs,e,hl,fun j hj=>(hr j hj).mono hs hg fun k hk=>hφ k ?_⟩;have hm:caps.getD j zzd∈caps:=by rw[List.getD_eq_getElem?_getD,List.getElem?_eq_getElem hj];exact List.getElem_mem hj
  exact z9a (f:=CC.refs k) hm hk
theorem RelCs.mono {R R':C→Value→Prop}: ∀{cs:List C} {vs:List Value},RelCs R cs vs→(∀c∈cs,∀v,R c v→R' c v)→RelCs R' cs vs
 |[],[],_,_=>trivial
 |_::_,_::_,⟨h1,h2⟩,h=>⟨h _ (zz3 ..) _ h1,RelCs.mono h2 fun c hc=>h c (zz6 _ hc)⟩
 |[],_::_,h,_=>h.elim
 |_::_,[],h,_=>h.elim
theorem RelCs.length {R:C→Value→Prop}: ∀{cs:List C} {vs:List Value},RelCs R cs vs→cs.length=vs.length
 |[],[],_=>rfl
 |_::_,_::_,⟨_,h2⟩=>by simp[RelCs.length h2]
 |[],_::_,h=>h.elim
 |_::_,[],h=>h.elim
theorem RelCs.get {R:C→Value→Prop}: ∀{cs:List C} {vs:List Value},RelCs R cs vs→ ∀(j:Nat) (c:C),cs[j]?=some c→ ∃v,vs[j]?=some v∧R c v
 |[],[],_,j,c,h=>by simp at h
 |_::_,_::_,⟨h1,h2⟩,j,c,h=>by
  cases j with
  |zero=>simp at h;subst h;exact⟨_,rfl,h1⟩
  |succ j=>simp at h;obtain⟨v,hv,hr⟩:=RelCs.get h2 j c h;exact⟨v,by simpa using hv,hr⟩
 |[],_::_,h,_,_,_=>h.elim
 |_::_,[],h,_,_,_=>h.elim
theorem RelCs.take {R:C→Value→Prop}: ∀{cs:List C} {vs:List Value},RelCs R cs vs→ ∀n,RelCs R (cs.take n) (vs.take n)
 |[],[],_,n=>by simp[RelCs]
 |_::_,_::_,⟨h1,h2⟩,n=>by
  cases n with
  |zero=>simp[RelCs]
  |succ n=>exact⟨h1,RelCs.take h2 n⟩
 |[],_::_,h,_=>h.elim
 |_::_,[],h,_=>h.elim
theorem RelCs.drop {R:C→Value→Prop}: ∀{cs:List C} {vs:List Value},RelCs R cs vs→ ∀n,RelCs R (cs.drop n) (vs.drop n)
 |[],[],_,n=>by simp[RelCs]
 |_::_,_::_,⟨h1,h2⟩,n=>by
  cases n with
  |zero=>exact⟨h1,h2⟩
  |succ n=>exact RelCs.drop h2 n
 |[],_::_,h,_=>h.elim
 |_::_,[],h,_=>h.elim
theorem RelCs.append {R:C→Value→Prop}: ∀{cs:List C} {vs:List Value} {cs':List C} {vs':List Value},RelCs R cs vs→RelCs R cs' vs'→RelCs R (cs++cs') (vs++vs')
 |[],[],_,_,_,h=>h
 |_::_,_::_,_,_,⟨h1,h2⟩,h=>⟨h1,RelCs.append h2 h⟩
 |[],_::_,_,_,h,_=>h.elim
 |_::_,[],_,_,h,_=>h.elim
theorem RelS.mono {R R':C→Value→Prop}{x:Bool×List C}{v:Value}(h:RelS R x v)(hR: ∀c∈x.2,∀v,R c v→R' c v):RelS R' x v:=by
 rcases x with⟨b,cs⟩;cases b with
 |true=>obtain⟨vs,e,h,h1⟩:=h;exact⟨vs,e,h.mono hR,h1⟩
 |false=>
  match cs,h,hR with
  |[c],h,hR=>exact⟨hR c (by simp) _ h.1,h.2⟩
  |[],h,_=>exact h.elim
  |_::_::_,h,_=>exact h.elim
theorem RelSs.mono {R R':C→Value→Prop}: ∀{xs:List (Bool×List C)} {vs:List Value},RelSs R xs vs→(∀x∈xs,∀c∈x.2,∀v,R c v→R' c v)→RelSs R' xs vs
 |[],[],_,_=>trivial
 |_::_,_::_,⟨h1,h2⟩,h=>⟨h1.mono (h _ (zz3 ..)),RelSs.mono h2 fun x hx=>h x (zz6 _ hx)⟩
 |[],_::_,h,_=>h.elim
 |_::_,[],h,_=>h.elim
def AV.cells:AV→List C
 | .c x=>[x]
 | .agg xs=>xs
 | .tup vs=>vs.flatMap (·.2)
theorem RelAV.mono {R R':C→Value→Prop}{x:AV}{v:Value}(h:RelAV R x v)(hR: ∀c∈x.cells,∀v,R c v→R' c v):RelAV R' x v:=by
 cases x with
 |c x=>cases x<;>first|trivial|exact RelS.mono (x:=(false,[_])) h hR
 |agg xs=>exact RelS.mono (x:=(true,xs)) h hR
 |tup vs=>
  obtain⟨us,e,h⟩:=h;exact⟨us,e,h.mono fun x hx c hc=>hR c (List.mem_flatMap.2 ⟨x,hx,hc⟩)⟩
theorem AV.refs_cells {k:Nat}{x:AV}(h:x.refs k=false): ∀c∈x.cells,c.refs k=false:=by
 cases x with
 |c x=>intro c hc;simp[AV.cells]at hc;subst hc;exact h
 |agg xs=>exact z1t h
 |tup vs=>
  intro c hc;obtain⟨p,hp,hc⟩:=List.mem_flatMap.1 hc;exact z1t (z1t h p hp) c hc
theorem Slot.refs_cells {k:Nat}{cs:List C}(h:(Slot.box cs).refs k=false): ∀c∈cs,c.refs k=false:=z1t h
theorem z4j.mono {G G' V:Nat→Prop}{φ φ':Nat→Option Loc}{w w':World}{k:Nat}{c:Slot}(h:z4j G V φ w k c)(hs:Same G w w')(hv:Same V w w')
 (hg: ∀b,G b→G' b) (hφ:φ' k=φ k) (hr: ∀k',Slot.refs k' c=true→φ' k'=φ k') (hb: ∀l,φ k=some l→w'.heap[l.blk]?=w.heap[l.blk]?):z4j G' V φ' w' k c:=by
 have cell: ∀l,φ k=some l→ ∀o,w'.cell? ⟨l.blk,o,none⟩=w.cell? ⟨l.blk,o,none⟩:=fun l hl o=>World.cell?_of_block (w:=w) (hb l hl);have frz: ∀l,φ k=some l→ ∀o,w'.frozen? ⟨l.blk,o,none⟩=w.frozen? ⟨l.blk,o,none⟩:=fun l hl o=>World.frozen?_of_block (w:=w) (hb l hl)
 cases c with
 |box cs=>
  obtain⟨l,hl,ht,vs,h1,h2,h3⟩:=h;refine⟨l,by rw[hφ];exact hl,fun j hj=>?_,vs,h1.mono fun c hc v h=>h.mono hs hv hg fun k' hk'=>hr k' ?_,h2,fun j v hj=>by rw[cell l hl];exact h3 j v hj⟩
  ·rw[cell l hl,frz l hl];exact ht j hj
  ·cases e:Slot.refs k' (.box cs)with
   |true=>rfl
   |false=>rw[Slot.refs_cells e c hc]at hk';cases hk'
 |vec es n get=>
  refine⟨h.1,h.2.imp (fun h=>⟨by rw[hφ];exact h.1,h.2⟩) fun⟨l,hl,hn,ht,he⟩=>⟨l,by rw[hφ];exact hl,hn,⟨fun j hj=>?_,fun h1 x=>?_⟩,he.mono hs hg (hb l hl)⟩⟩
  ·rw[cell l hl,frz l hl];exact ht.1 j hj
  ·rw[frz l hl];exact ht.2 h1 x
theorem z3q {s:St}{k:Nat}(h:s.noRef k=true):
 (∀e∈s.tm,e.2.refs k=false)∧ ∀e∈s.sl,e.1≠k∧e.2.refs k=false:=by
 unfold St.noRef at h;cases h1:anyB (fun e:Nat×AV=>AV.refs k e.2) s.tm with
 |true=>simp[h1]at h
 |false=>
  simp only[h1]at h;cases h2:anyB (z60 k) s.sl with
  |true=>simp[h2]at h
  |false=>
   refine⟨z1t h1,fun e he=>?_⟩;have:=z1t h2 e he
   unfold z60 at this;cases hb:Nat.beq e.1 k with
   |true=>simp[hb]at this
   |false=>simp only[hb]at this;exact⟨fun e=>by rw[e]at hb;simp at hb,this⟩
theorem z2b {α:Type}{l:List (Nat×α)}{t:Nat}{x:α}(h:look l t=some x):(t,x)∈l:=by
 induction l with
 |nil=>simp[look]at h
 |cons e r ih=>
  rcases e with⟨k,v⟩;rw[z0x]at h;split at h
  ·rename_i e;subst e;cases h;exact zz3 ..
  ·exact zz6 _ (ih h)
section
variable {E:Env} {s:St} {G:Nat→Prop} {φ:Nat→Option Loc} {a:Act} {w:World}
theorem Sim.put (h:Sim E s G φ a w){d:Nat}(hd:d<E.N){x:AV}{v:Value}(hx:RelAV (RelC G E.V φ w) x v):Sim E (s.put d x) G φ (a.put (some d) v) w:=
 {h with
  sz:=by simp[Act.put,h.sz]
  tm:=fun t y hy=>by
   simp only[St.put,z0x]at hy;simp only[Act.put,Array.getElem?_setIfInBounds];by_cases e:d=t
   ·subst e;rw[if_pos rfl]at hy;cases hy;exact⟨v,by simp[h.sz,hd],hx⟩
   ·rw[if_neg e]at hy
    simpa [e]using h.tm t y hy}
theorem Sim.world (h:Sim E s G φ a w){w':World}(hh:w'.heap=w.heap)(ho:w'.os=w.os)(ht:Tp w w')(hu:w'.output=w.output):Sim E s G φ a w':=by
 have sm: ∀G,Same G w w':=fun G b _=>by rw[hh]
 exact
 {h with
  tm:=fun t x hx=>by obtain⟨v,hv,hr⟩:=h.tm t x hx;exact⟨v,hv,hr.mono fun c _ v hc=>hc.mono (sm _) (sm _) (fun _ h=>h) fun _ _=>rfl⟩
  sl:=fun k c hc=>(h.sl k c hc).mono (sm _) (sm _) (fun _ h=>h) rfl (fun _ _=>rfl) fun l _=>by rw[hh]
  own:=fun k c l h1 h2=>by rw[hh];exact h.own k c l h1 h2
  gsz:=fun b hb=>by rw[hh];exact h.gsz b hb
  kp:=h.kp.trans ⟨ho,ht,hu,by rw[hh];exact zze _,fun b _ _=>by rw[hh]⟩}
theorem Sim.weaken (h:Sim E s G φ a w){s':St}(ht: ∀t x,look s'.tm t=some x→look s.tm t=some x)(hs: ∀k c,look s'.sl k=some c→look s.sl k=some c):Sim E s' G φ a w:=
 {h with
  tm:=fun t x hx=>h.tm t x (ht t x hx)
  sl:=fun k c hc=>h.sl k c (hs k c hc)
  inj:=fun k k' c c' l l' h1 h2=>h.inj k k' c c' l l' (hs _ _ h1) (hs _ _ h2)
  own:=fun k c l h1 h2=>h.own k c l (hs _ _ h1) h2
  fix:=fun k c hk h1=>h.fix k c hk (hs _ _ h1)}
def upd (φ:Nat→Option Loc)(k:Nat)(l:Option Loc):Nat→Option Loc:=fun k'=>if k'=k then l else φ k'
theorem z3w (φ:Nat→Option Loc)(k:Nat)(l:Option Loc):upd φ k l k=l:=by simp[upd]
theorem z34 (φ:Nat→Option Loc)(k:Nat)(l:Option Loc){k':Nat}(h:k'≠k):upd φ k l k'=φ k':=by simp[upd,h]
theorem zcr {k k':Nat}{c:C}(h:c.refs k=false)(h':c.refs k'=true):k'≠k:=fun e=>by rw[e,h]at h';cases h'
theorem zjx (h:Sim E s G φ a w): ¬G w.heap.size:=fun hg=>Nat.lt_irrefl _ (h.gsz _ hg)
theorem zjy (h:Sim E s G φ a w): ¬E.V w.heap.size:=fun hg=>Nat.lt_irrefl _ (Nat.lt_of_lt_of_le (h.vsz _ hg).1 h.kp.size)
theorem Sim.same_of_lt (h:Sim E s G φ a w){w':World}(hb: ∀b,b<w.heap.size→w'.heap[b]?=w.heap[b]?):Same G w w'∧Same E.V w w':=
 ⟨fun b hg=>hb b (h.gsz b hg),fun b hv=>hb b (Nat.lt_of_lt_of_le (h.vsz b hv).1 h.kp.size)⟩
theorem Sim.allocW (h:Sim E s G φ a w){w':World}(hb: ∀b,b<w.heap.size→w'.heap[b]?=w.heap[b]?)(hz:w'.heap.size=w.heap.size+1)(ho:w'.os=w.os)(ht:Tp w w')(hu:w'.output=w.output)
 {k:Nat} (hkx:k∉E.fx) (hk:s.noRef k=true) {c:Slot} {l:Loc} (hl:l.blk=w.heap.size)
 (hc:z4j G E.V (upd φ k (some l)) w' k c):Sim E (s.slot k c) G (upd φ k (some l)) a w':=by
 obtain⟨n1,n2⟩:=z3q hk;obtain⟨sg,sv⟩:=h.same_of_lt hb;have hin: ∀k' c',look (s.slot k c).sl k'=some c'→(k'=k∧c'=c)∨(k'≠k∧look s.sl k'=some c'):=fun k' c' hc'=>by
  simp only[St.slot,z0x]at hc';by_cases e:k=k'
  ·subst e;rw[if_pos rfl]at hc';cases hc';exact .inl ⟨rfl,rfl⟩
  ·rw[if_neg e]at hc';exact .inr ⟨fun x=>e x.symm,hc'⟩
 exact
 {h with
  tm:=fun t x hx=>by
   obtain⟨v,hv,hr⟩:=h.tm t x hx;refine⟨v,hv,hr.mono fun c hc v hr=>hr.mono sg sv (fun _ h=>h) fun k' hk'=>z34 _ _ _ ?_⟩;exact zcr (AV.refs_cells (n1 _ (z2b hx)) c hc) hk'
  sl:=fun k' c' hc'=>by
   rcases hin k' c' hc' with⟨rfl,rfl⟩|⟨hne,hc'⟩
   ·exact hc
   ·refine(h.sl k' c' hc').mono sg sv (fun _ h=>h) (z34 _ _ _ hne) (fun k'' hk''=>z34 _ _ _ fun e=>?_) fun l' hl'=>hb _ (h.own k' c' l' hc' hl').2.2.1;have:=(n2 _ (z2b hc')).2
    rw[e,this]at hk'';cases hk''
  inj:=fun k1 k2 c1 c2 l1 l2 h1 h2 e1 e2 eb=>by
   rcases hin _ _ h1 with⟨p1,q1⟩|⟨ne1,g1⟩<;>rcases hin _ _ h2 with⟨p2,q2⟩|⟨ne2,g2⟩
   ·rw[p1,p2]
   ·rw[p1,z3w]at e1;cases e1;rw[z34 _ _ _ ne2]at e2;have:=(h.own _ _ _ g2 e2).2.2.1
    omega
   ·rw[p2,z3w]at e2;cases e2;rw[z34 _ _ _ ne1]at e1;have:=(h.own _ _ _ g1 e1).2.2.1
    omega
   ·rw[z34 _ _ _ ne1]at e1;rw[z34 _ _ _ ne2]at e2;exact h.inj _ _ _ _ _ _ g1 g2 e1 e2 eb
  own:=fun k' c' l' h1 h2=>by
   rcases hin _ _ h1 with⟨rfl,rfl⟩|⟨ne1,h1⟩
   ·rw[z3w]at h2;cases h2;rw[hl];exact⟨zjx h,zjy h,by omega,.inl h.kp.size⟩
   ·rw[z34 _ _ _ ne1]at h2;obtain⟨x1,x2,x3,x4⟩:=h.own _ _ _ h1 h2;exact⟨x1,x2,by omega,x4⟩
  gsz:=fun b hb=>by have:=h.gsz b hb;omega
  kp:=h.kp.trans ⟨ho,ht,hu,by omega,fun b hb' _=>hb b (Nat.lt_of_lt_of_le hb' h.kp.size)⟩
  fix:=fun k' c' hx h1=>by
   rcases hin _ _ h1 with⟨rfl,rfl⟩|⟨ne1,h1⟩
   ·exact absurd hx hkx
   ·rw[z34 _ _ _ ne1];exact h.fix _ _ hx h1}
theorem Sim.alloc (h:Sim E s G φ a w){k:Nat}(hkx:k∉E.fx)(hk:s.noRef k=true){c:Slot}{o:Obj}{l:Loc}(hl:l.blk=w.heap.size)
 (hc:z4j G E.V (upd φ k (some l)) (w.alloc o) k c):Sim E (s.slot k c) G (upd φ k (some l)) a (w.alloc o):=
 h.allocW (w':=w.alloc o) (fun b hb=>by
  show(w.heap.push o)[b]?=_;rw[Array.getElem?_push,if_neg (by omega)]) (by simp) rfl ⟨rfl,zze _⟩ rfl hkx hk hl hc
theorem Sim.turn (h:Sim E s G φ a w){k:Nat}{c c':Slot}{l:Loc}(hk:look s.sl k=some c)(hl:φ k=some l){w':World}
 (hsz:w'.heap.size=w.heap.size) (ho:w'.os=w.os) (ht:Tp w w') (hu:w'.output=w.output) (hb: ∀b,b≠l.blk→w'.heap[b]?=w.heap[b]?)
 (hc:z4j G E.V φ w' k c'):Sim E (s.slot k c') G φ a w':=by
 obtain⟨o1,o2,o3,o4⟩:=h.own k c l hk hl;have sg:Same G w w':=fun b hg=>hb b fun e=>o1 (e▸hg)
 have sv:Same E.V w w':=fun b hg=>hb b fun e=>o2 (e▸hg);have hin: ∀k' c'',look (s.slot k c').sl k'=some c''→(k'=k∧c''=c')∨(k'≠k∧look s.sl k'=some c''):=fun k' c'' hc'=>by
  simp only[St.slot,z0x]at hc';by_cases e:k=k'
  ·subst e;rw[if_pos rfl]at hc';cases hc';exact .inl ⟨rfl,rfl⟩
  ·rw[if_neg e]at hc';exact .inr ⟨fun x=>e x.symm,hc'⟩
 have hol: ∀k' c'',look (s.slot k c').sl k'=some c''→ ∃c0,look s.sl k'=some c0:=fun k' c'' hc''=>by
  rcases hin _ _ hc'' with⟨rfl,_⟩|⟨_,h⟩
  ·exact⟨c,hk⟩
  ·exact⟨_,h⟩
 exact
 {h with
  tm:=fun t x hx=>by
   obtain⟨v,hv,hr⟩:=h.tm t x hx;exact⟨v,hv,hr.mono fun c hc v hr=>hr.mono sg sv (fun _ h=>h) fun _ _=>rfl⟩
  sl:=fun k' c'' hc''=>by
   rcases hin _ _ hc'' with⟨rfl,rfl⟩|⟨hne,hc''⟩
   ·exact hc
   ·exact(h.sl k' c'' hc'').mono sg sv (fun _ h=>h) rfl (fun _ _=>rfl) fun l' hl'=>hb _ fun e=>hne (h.inj _ _ _ _ _ _ hc'' hk hl' hl e)
  inj:=fun k1 k2 c1 c2 l1 l2 h1 h2 e1 e2 eb=>by
   obtain⟨_,h1⟩:=hol _ _ h1;obtain⟨_,h2⟩:=hol _ _ h2;exact h.inj _ _ _ _ _ _ h1 h2 e1 e2 eb
  own:=fun k' c'' l' h1 h2=>by
   obtain⟨_,h1⟩:=hol _ _ h1;rw[hsz];exact h.own _ _ _ h1 h2
  gsz:=fun b hb=>by rw[hsz];exact h.gsz b hb
  kp:=h.kp.trans ⟨ho,ht,hu,by omega,fun b hb' hL=>hb b fun e=>by
   subst e;rcases o4 with o4|o4
   ·omega
   ·exact hL o4.2⟩
  fix:=fun k' c'' hx h1=>by
   obtain⟨_,h1⟩:=hol _ _ h1;exact h.fix _ _ hx h1}
theorem Sim.notFx (h:Sim E s G φ a w){d:Nat}(hd:d<E.N):d∉E.fx:=fun hx=>Nat.lt_irrefl _ (Nat.lt_of_lt_of_le hd (h.fxN d hx))
end
end Go.Av
/-
 Av,part C:operations that leave the world alone.
-/
namespace Go.Av
open Go
def z36 (op:BinOp)(k:IntKind)(x y:Int):Int:=
 let a:=BitVec.ofInt k.bits x
 let b:=BitVec.ofInt k.bits y
 match op with
 | .and=>k.wrap (a &&& b).toNat
 | .or=>k.wrap (a|||b).toNat
 | .xor=>k.wrap (a^^^b).toNat
 |_=>k.wrap (a &&& ~~~b).toNat
def shlOp (k:IntKind)(x y:Int):Int:=k.wrap (x*2^(min y.toNat k.bits))
def shrOp (k:IntKind)(x y:Int):Int:=x.fdiv (2^(min y.toNat k.bits))
def strLt (x y:ByteArray):Bool:=Op.bytesLess x.toList y.toList
def strEq (x y:ByteArray):Bool:=x.toList==y.toList
def bt (s:ByteArray)(i:Int):Int:=((s.data.getD i.toNat 0).toNat:Int)
def z6p:Value→C
 | .bool b=> .d (.bool b)
 | .int k n=> .d (.int k n)
 | .string s=> .d (.str s)
 | .slice none 0 0=> .zero
 | .nilFunc=> .d .nilf
 | .pointer none=> .raw (.pointer none)
 |_=> .any
def zdu:Value→Option AV
 | .agg cs=>match cs.toList.all (·.oneCell')with|true=>some (.agg (cs.toList.map z6p))|false=>none
 | .tuple _=>none
 |v=>match z6p v with| .any=>none|c=>some (.c c)
def evO (s:St):Operand→Option AV
 | .tmp t=>look s.tm t
 | .const v=>zdu v
 | .func f=>some (.c (.d (.fn f [])))
 | .global _=>none
abbrev RAV (E:Env)(G:Nat→Prop)(φ:Nat→Option Loc)(w:World):AV→Value→Prop:=RelAV (RelC G E.V φ w)
theorem zew (G V:Nat→Prop)(φ:Nat→Option Loc)(w:World)(v:Value):RelC G V φ w (z6p v) v:=by
 unfold z6p;split<;>first
  |rfl|exact RelD.bool _|exact RelD.int _ _|exact RelD.str _|exact RelD.nilf|exact⟨_,rfl⟩|trivial
theorem z50 (G V:Nat→Prop)(φ:Nat→Option Loc)(w:World): ∀vs:List Value,RelCs (RelC G V φ w) (vs.map z6p) vs
 |[]=>trivial
 |v::vs=>⟨zew G V φ w v,z50 G V φ w vs⟩
theorem z0h {R:C→Value→Prop}{x:C}{v:Value}(h:R x v)(h1:v.oneCell'=true):RelAV R (.c x) v:=by
 cases x<;>first|trivial|exact⟨h,h1⟩
theorem zih {G V:Nat→Prop}{φ:Nat→Option Loc}{w:World}{v:Value}{x:AV}(h:zdu v=some x):RelAV (RelC G V φ w) x v:=by
 have hc:=zew G V φ w v;unfold zdu at h;split at h
 ·rename_i cs
  split at h
  ·rename_i ha
   cases h;exact⟨cs,rfl,z50 G V φ w _,fun u hu=>List.all_eq_true.1 ha u hu⟩
  ·cases h
 ·cases h
 ·rename_i v h1 h2
  split at h
  ·cases h
  ·cases h;exact z0h hc (by cases v<;>simp_all[Value.oneCell'])
section
variable {E:Env} {s:St} {G:Nat→Prop} {φ:Nat→Option Loc} {a:Act} {w:World}
theorem Sim.ev (h:Sim E s G φ a w){o:Operand}{x:AV}(hx:evO s o=some x):RAV E G φ w x (a.eval o):=by
 cases o with
 |tmp t=>
  obtain⟨v,hv,hr⟩:=h.tm t x hx;have:a.eval (.tmp t)=v:=by simp[Act.eval,Array.getD_eq_getD_getElem?,hv]
  rw[this];exact hr
 |const v=>exact zih hx
 |func f=>cases hx;exact⟨RelD.fn f [] [] rfl (fun j hj=>by simp at hj),rfl⟩
 |global g=>cases hx
def rdC (s:St):C→Nat→Option (List C×Prop)
 | .ptr k o,n=>match look s.sl k with
  |some (.box cs)=>match Nat.ble (o+n) cs.length with
   |true=>some ((cs.drop o).take n,True)
   |false=>none
  |_=>none
 | .vptr k es i o,n=>match look s.sl k with
  |some (.vec es' n' get)=>match Nat.beq es es' with
   |true=>match Nat.ble (o+n) es with
    |true=>some ((((get i).drop o).take n).map .d,i<n')
    |false=>none
   |false=>none
  |_=>none
 | .eptr cells,n=>match Nat.ble n cells.length with
  |true=>some ((cells.take n).map .d,True)
  |false=>none
 |_,_=>none
theorem zhd {V:Nat→Prop}: ∀{b off:Nat} {cells:List D},z7h G w b off cells→
 ∃vs,RelCs (RelC G V φ w) (cells.map .d) vs∧(∀u∈vs,u.oneCell'=true)∧w.rangeAt b off vs
 |_,_,[],_=>⟨[],trivial,by simp,fun j v hj=>by simp at hj⟩
 |b,off,c::cs,h=>by
  obtain⟨u,hu,hr⟩:=h 0 (by simp);obtain⟨vs,h1,h2,h3⟩:=zhd (V:=V) (b:=b) (off:=off+1) (cells:=cs) fun j hj=>by
   obtain⟨u,hu,hr⟩:=h (j+1) (by simp;omega);exact⟨u,by rw[←hu];congr 2;omega,by simpa [D.at]using hr⟩
  refine⟨u::vs,⟨(by simpa [D.at]using hr:RelD G w c u),h1⟩,fun x hx=>?_,fun j v hj=>?_⟩
  ·rcases zzg.1 hx with rfl|hx
   ·exact hr.one
   ·exact h2 x hx
  ·cases j with
   |zero=>simp at hj;subst hj;simpa using hu
   |succ j=>simp at hj;have:=h3 j v hj;rw[←this];congr 2;omega
theorem z7h.part {b off:Nat}{cells:List D}(h:z7h G w b off cells)(o n:Nat):z7h G w b (off+o) ((cells.drop o).take n):=fun j hj=>by
 simp only[List.length_take,zzc]at hj;obtain⟨u,hu,hr⟩:=h (o+j) (by omega);refine⟨u,by rw[←hu];congr 2;omega,?_⟩;have:D.at ((cells.drop o).take n) j=D.at cells (o+j):=by
  simp only[D.at,List.getD_eq_getElem?_getD,List.getElem?_take,List.getElem?_drop];rw[if_pos (by omega)]
 rw[this];exact hr
theorem zht {b off:Nat}{vs:List Value}(h:w.rangeAt b off vs)(n:Nat):w.rangeAt b off (vs.take n):=fun j v hj=>by
 rw[List.getElem?_take]at hj;split at hj
 ·exact h j v hj
 ·cases hj
theorem zhs {b off:Nat}{vs:List Value}(h:w.rangeAt b off vs)(o:Nat):w.rangeAt b (off+o) (vs.drop o):=fun j v hj=>by
 rw[List.getElem?_drop]at hj;rw[Nat.add_assoc];exact h _ v hj
theorem Sim.rd (h:Sim E s G φ a w){p:C}{v:Value}(hp:RelC G E.V φ w p v){n:Nat}{cs:List C}{c:Prop}(hr:rdC s p n=some (cs,c))(hc:c):
 ∃b off vs,v= .pointer (some ⟨b,off,none⟩)∧RelCs (RelC G E.V φ w) cs vs∧(∀u∈vs,u.oneCell'=true)∧w.rangeAt b off vs∧cs.length=n:=by
 cases p with
 |ptr k o=>
  obtain⟨l,hl,rfl⟩:=hp;simp only[rdC]at hr;split at hr
  ·rename_i cs0 hk
   split at hr
   ·rename_i hle
    cases hr;obtain⟨l',hl',_,vs,h1,h2,h3⟩:=h.sl k _ hk;rw[hl]at hl';cases hl';have hlen:=h1.length
    have hle':=zz7 hle;exact⟨l.blk,l.off+o,(vs.drop o).take n,rfl,(h1.drop o).take n,fun u hu=>h2 u (List.mem_of_mem_drop (List.mem_of_mem_take hu)),
     zht (zhs h3 o) n,by simp;omega⟩
   ·cases hr
  ·cases hr
 |vptr k es i o=>
  obtain⟨l,hl,rfl⟩:=hp;simp only[rdC]at hr;split at hr
  ·rename_i es' n' get hk
   split at hr
   ·rename_i hes
    have hes:=zz4 hes;subst hes;split at hr
    ·rename_i hle
     have hle':=zz7 hle;cases hr;obtain⟨_,h0|⟨l',hl',_,_,he⟩⟩:=h.sl k _ hk
     ·rw[hl]at h0;cases h0.1
     ·rw[hl]at hl';cases hl';obtain⟨hlen,hh⟩:=he i hc;obtain⟨vs,h1,h2,h3⟩:=zhd (V:=E.V) (φ:=φ) (hh.part o n);exact⟨_,_,vs,rfl,h1,h2,h3,by simp;omega⟩
    ·cases hr
   ·cases hr
  ·cases hr
 |eptr cells=>
  obtain⟨b,off,_,rfl,hh⟩:=hp;simp only[rdC]at hr;split at hr
  ·rename_i hle
   have hle':=zz7 hle;cases hr;obtain⟨vs,h1,h2,h3⟩:=zhd (V:=E.V) (φ:=φ) (hh.part 0 n);simp only[List.drop_zero,Nat.add_zero]at h1 h3;exact⟨b,off,vs,rfl,h1,h2,h3,by simp;omega⟩
  ·cases hr
 |_=>cases hr
def aggT (P:Program)(t:TypeId):Option Bool:=
 match P.underlying t with
 |some (.struct _)=>some true
 |some (.array _ _)=>some true
 |some _=>some false
 |none=>none
def sizeT (P:Program)(t:TypeId):Option Nat:=(P.info? t).map (·.size)
def z7r (P:Program)(s:St)(t:TypeId):Option AV→Option (AV×Prop)
 |some (.c p)=>match aggT P t,sizeT P t with
  |some true,some n=>match rdC s p n with
   |some (cs,c)=>some (.agg cs,c)
   |none=>none
  |some false,_=>match rdC s p 1 with
   |some ([x],c)=>some (.c x,c)
   |_=>none
  |_,_=>none
 |_=>none
theorem z4o {x:C}{v:Value}(h:RAV E G φ w (.c x) v)(hx:x≠ .any):RelC G E.V φ w x v∧v.oneCell'=true:=by
 cases x<;>first|exact(hx rfl).elim|exact h
theorem Sim.load (h:Sim E s G φ a w){t:TypeId}{o:Operand}{x:AV}{c:Prop}(he:z7r E.P s t (evO s o)=some (x,c))(hc:c):
 ∃v,(Instr.loadAt t (a.eval o)).run E.P w= .ok v w∧RAV E G φ w x v:=by
 cases ho:evO s o with
 |none=>simp[ho,z7r]at he
 |some p=>
  have hp:=h.ev ho;rw[ho]at he;cases p with
  |agg _=>simp[z7r]at he
  |tup _=>simp[z7r]at he
  |c p=>
   have hne:p≠ .any:=by
    rintro rfl;simp only[z7r,rdC]at he;split at he<;>cases he
   have hp:=(z4o hp hne).1;simp only[z7r]at he;split at he
   ·rename_i n hag hsz
    split at he
    ·rename_i cs c' hrd
     cases he;obtain⟨b,off,vs,hv,h1,h2,h3,h4⟩:=h.rd hp hrd hc;have hl:=h1.length
     refine⟨.agg vs.toArray,?_,vs.toArray,rfl,by simpa using h1,by simpa using h2⟩;rw[hv];unfold aggT at hag;unfold sizeT at hsz;split at hag
     ·rename_i d hu
      exact run_loadAt_mid w b off t vs _ h3 hu rfl (by rw[hsz];congr 1;omega)
     ·rename_i d e hu
      exact run_loadAt_mid w b off t vs _ h3 hu rfl (by rw[hsz];congr 1;omega)
     ·cases hag
     ·cases hag
    ·cases he
   ·rename_i hag
    split at he
    ·rename_i y c' hrd
     cases he;obtain⟨b,off,vs,hv,h1,h2,h3,h4⟩:=h.rd hp hrd hc
     match vs,h1 with
     |[u],h1=>
      refine⟨u,?_,z0h h1.1 (h2 u (by simp))⟩;rw[hv];have hu:(isAgg t).run E.P w= .ok false w:=by
       unfold aggT at hag;split at hag
       ·cases hag
       ·cases hag
       ·rename_i d hn1 hn2 hu
        unfold isAgg;rw[zz5,run_underlying hu w];cases d<;>simp_all
       ·cases hag
      have h30:=h3 0 u (by simp);simp only[Nat.add_zero]at h30;simp[Instr.loadAt,Instr.sureAddr,loadVar,hu,h30]
    ·cases he
   ·cases he
end
end Go.Av
/-
 Av,part D:more operations that leave the world alone.
-/
namespace Go.Av
open Go
def zfk (n:Nat):C→Option C
 | .ptr k o=>some (.ptr k (o+n))
 | .vptr k es i o=>some (.vptr k es i (o+n))
 | .eptr cells=>some (.eptr (cells.drop n))
 |_=>none
def zbv (P:Program)(t:TypeId)(f:Nat):Option (Nat×TypeId×Nat):=
 match P.underlying t with
 |some (.struct fs)=>match fs[f]? with
  |some fd=>match sizeT P fd.type with
   |some n=>some (fd.offset,fd.type,n)
   |none=>none
  |none=>none
 |_=>none
def z75 (P:Program)(t:TypeId)(f:Nat):Option AV→Option (AV×Prop)
 |some (.c p)=>match zbv P t f with
  |some (off,_,_+1)=>match zfk off p with
   |some p'=>some (.c p',True)
   |none=>none
  |_=>none
 |_=>none
def za0 (P:Program)(t:TypeId)(f:Nat):Option AV→Option (AV×Prop)
 |some (.agg cs)=>match zbv P t f with
  |some (off,ft,n)=>match aggT P ft with
   |some true=>some (.agg ((cs.drop off).take n),True)
   |some false=>match cs.drop off with
    |x::_=>some (.c x,True)
    |[]=>none
   |none=>none
  |none=>none
 |_=>none
def zaw (P:Program)(t:TypeId):Option AV→Option AV→Option (AV×Prop)
 |some (.c p),some (.c (.d (.int _ i)))=>match P.underlying t with
  |some (.array len e)=>match sizeT P e with
   |some n=>match decide (0≤i∧i<(len:Int))with
    |true=>match zfk (i.toNat*n) p with
     |some p'=>some (.c p',True)
     |none=>none
    |false=>none
   |none=>none
  |some (.slice e)=>match sizeT P e with
   |some n=>match p with
    | .d (.list es len get)=>match Nat.beq es n with
     |true=>some (.c (.eptr (get i.toNat)),0≤i∧i<(len:Int))
     |false=>none
    | .view es len get=>match Nat.beq es n with
     |true=>some (.c (.eptr (get i.toNat)),0≤i∧i<(len:Int))
     |false=>none
    | .own k es off len=>match Nat.beq es n with
     |true=>some (.c (.vptr k es (off+i.toNat) 0),0≤i∧i<(len:Int))
     |false=>none
    |_=>none
   |none=>none
  |_=>none
 |_,_=>none
def zfw (P:Program)(t:TypeId):Option AV→Option AV→Option (AV×Prop)
 |some (.c (.d (.str s))),some (.c (.d (.int _ i)))=>match P.underlying t with
  |some .string=>some (.c (.d (.int .u8 (bt s i))),0≤i∧i<(s.size:Int))
  |_=>none
 |some (.agg cs),some (.c (.d (.int _ i)))=>match P.underlying t with
  |some (.array len e)=>match decide (0≤i∧i<(len:Int))with
   |true=>match sizeT P e,aggT P e with
    |some n,some true=>some (.agg ((cs.drop (i.toNat*n)).take n),True)
    |some n,some false=>match cs.drop (i.toNat*n)with
     |x::_=>some (.c x,True)
     |[]=>none
    |_,_=>none
   |false=>none
  |_=>none
 |_,_=>none
def zdv (n:Int):Option (Option AV)→Option Int
 |none=>some n
 |some (some (.c (.d (.int _ i))))=>some i
 |_=>none
def z78 (n:Nat)(lo hi mx:Option (Option AV)):Option (Int×Int×Option Int):=
 match zdv 0 lo with
 |some l=>match mx with
  |none=>match zdv n hi with
   |some h=>some (l,h,none)
   |none=>none
  |some (some (.c (.d (.int _ m))))=>match hi with
   |some (some (.c (.d (.int _ h))))=>some (l,h,some m)
   |_=>none
  |_=>none
 |none=>none
def bndOk (n:Nat)(l h:Int):Option Int→Prop
 |none=>0≤l∧l≤h∧h≤(n:Int)
 |some m=>0≤l∧l≤h∧h≤m∧m≤(n:Int)
def zeroB:Option Int→Bool
 |some m=>decide (m=0)
 |none=>false
def zfx (P:Program)(t:TypeId)(x:Option AV)(lo hi mx:Option (Option AV)):Option (AV×Prop):=
 match x with
 |some (.c (.d (.str s)))=>match P.underlying t with
  |some .string=>match z78 s.size lo hi mx with
   |some (l,h,none)=>some (.c (.d (.str (s.extract l.toNat h.toNat))),bndOk s.size l h none)
   |_=>none
  |_=>none
 |some (.c p)=>match P.underlying t with
  |some (.array len e)=>match sizeT P e,p with
   |some sz,.ptr k o=>match z78 len lo hi mx with
    |some (l,h,none)=>some (.c (.bsl k (o+l.toNat*sz) sz (h.toNat-l.toNat)),bndOk len l h none∧l<(len:Int))
    |_=>none
   |_,_=>none
  |some (.slice e)=>match sizeT P e with
   |some sz=>match p with
    | .d (.list es n get)=>match Nat.beq es sz with
     |true=>match z78 n lo hi mx with
      |some (l,h,m)=>match zeroB m with
       |true=>some (.c .zero,bndOk n l h m)
       |false=>some (.c (.d (.list es (h.toNat-l.toNat) (fun i=>get (l.toNat+i)))),bndOk n l h m)
      |none=>none
     |false=>none
    | .view es n get=>match Nat.beq es sz with
     |true=>match z78 n lo hi mx with
      |some (l,h,m)=>match zeroB m with
       |true=>some (.c .zero,bndOk n l h m)
       |false=>some (.c (.view es (h.toNat-l.toNat) (fun i=>get (l.toNat+i))),bndOk n l h m)
      |none=>none
     |false=>none
    | .own k es off n=>match Nat.beq es sz with
     |true=>match z78 n lo hi mx with
      |some (l,h,none)=>some (.c (.own k es (off+l.toNat) (h.toNat-l.toNat)),bndOk n l h none)
      |_=>none
     |false=>none
    | .zero=>match z78 0 lo hi mx with
     |some (l,h,m)=>some (.c .zero,bndOk 0 l h m)
     |none=>none
    |_=>none
   |none=>none
  |_=>none
 |_=>none
section
variable {E:Env} {s:St} {G:Nat→Prop} {φ:Nat→Option Loc} {a:Act} {w:World}
theorem z3o {k:IntKind}{n:Int}{v:Value}(h:RAV E G φ w (.c (.d (.int k n))) v):v= .int k n:=by
 have h:RelD G w (.int k n) v:=h.1;cases h;rfl
theorem z96 {b:Bool}{v:Value}(h:RAV E G φ w (.c (.d (.bool b))) v):v= .bool b:=by
 have h:RelD G w (.bool b) v:=h.1;cases h;rfl
theorem za2 {b:ByteArray}{v:Value}(h:RAV E G φ w (.c (.d (.str b))) v):v= .string b:=by
 have h:RelD G w (.str b) v:=h.1;cases h;rfl
theorem zfm {n:Nat}{p p':C}{v:Value}(hp:RelC G E.V φ w p v)(h:zfk n p=some p'):
 ∃b off,v= .pointer (some ⟨b,off,none⟩)∧RelC G E.V φ w p' (.pointer (some ⟨b,off+n,none⟩)):=by
 cases p with
 |ptr k o=>
  obtain⟨l,hl,rfl⟩:=hp;cases h;exact⟨_,_,rfl,l,hl,by rw[Nat.add_assoc]⟩
 |vptr k es i o=>
  obtain⟨l,hl,rfl⟩:=hp;cases h;exact⟨_,_,rfl,l,hl,by rw[Nat.add_assoc]⟩
 |eptr cells=>
  obtain⟨b,off,hb,rfl,hh⟩:=hp;cases h;refine⟨b,off,rfl,b,off+n,hb,rfl,fun j hj=>?_⟩;simp only[zzc]at hj;obtain⟨u,hu,hr⟩:=hh (n+j) (by omega);exact⟨u,by rw[←hu];congr 2;omega,by simpa [D.at,List.getD_eq_getElem?_getD]using hr⟩
 |_=>cases h
theorem zfl {n:Nat}{p p':C}(h:zfk n p=some p'):p≠ .any:=by rintro rfl;cases h
theorem z27 {P:Program}{t:TypeId}{n:Nat}(h:sizeT P t=some n)(w:World):(sizeOf t).run P w= .ok n w:=by
 unfold sizeT at h;cases hi:P.info? t with
 |none=>simp[hi]at h
 |some i=>simp[hi]at h;subst h;simp[sizeOf,typeInfo,hi]
theorem Sim.fieldAddr (h:Sim E s G φ a w){t:TypeId}{f:Nat}{o:Operand}{x:AV}{c:Prop}(he:z75 E.P t f (evO s o)=some (x,c)):
 ∃v,(Instr.fieldAt t (a.eval o) f).run E.P w= .ok v w∧RAV E G φ w x v:=by
 cases ho:evO s o with
 |none=>simp[ho,z75]at he
 |some p=>
  have hp:=h.ev ho;rw[ho]at he;cases p with
  |agg _=>simp[z75]at he
  |tup _=>simp[z75]at he
  |c p=>
   simp only[z75]at he;split at he
   ·rename_i off ft n hf
    split at he
    ·rename_i p' hs
     cases he;obtain⟨b,o',hv,hr⟩:=zfm (z4o hp (zfl hs)).1 hs;refine⟨_,?_,z0h hr rfl⟩;rw[hv];unfold zbv at hf;split at hf
     ·rename_i fs hu
      split at hf
      ·rename_i fd hfd
       split at hf
       ·rename_i n' hn
        cases hf;simp[Instr.fieldAt,run_underlying hu,hfd,Instr.sureAddr,fieldPlace,z27 hn,Addr.add_mid]
       ·cases hf
      ·cases hf
     ·cases hf
    ·cases he
   ·cases he
theorem RelS.part {R:C→Value→Prop}{cs:List C}{vs:Array Value}(h:RelCs R cs vs.toList)(h1: ∀u∈vs.toList,u.oneCell'=true)(off n:Nat):
 RelAV R (.agg ((cs.drop off).take n)) (.agg (vs.extract off (off+n))):=by
 refine⟨_,rfl,?_,fun u hu=>?_⟩
 ·rw[Array.toList_extract,List.extract_eq_take_drop,Nat.add_sub_cancel_left];exact(h.drop off).take n
 ·rw[Array.toList_extract,List.extract_eq_take_drop]at hu;exact h1 u (List.mem_of_mem_drop (List.mem_of_mem_take hu))
theorem z90 {P:Program}{t:TypeId}{b:Bool}(h:aggT P t=some b)(w:World):(isAgg t).run P w= .ok b w:=by
 unfold aggT at h;unfold isAgg;split at h
 ·rename_i hu;cases h;rw[zz5,run_underlying hu w];rfl
 ·rename_i hu;cases h;rw[zz5,run_underlying hu w];rfl
 ·rename_i d hn1 hn2 hu
  cases h;rw[zz5,run_underlying hu w];cases d<;>simp_all
 ·cases h
theorem Sim.field (h : Sim E s G φ a w) {t : TypeId} {f : Nat} {o : Operand} {x : AV} {c : Prop} (he :     za0 E.P t f (evO s o) = some (x, c)) :
    ∃ v, (Instr.field t (a.eval o) f).run E.P w = .ok v w ∧ RAV E G φ w x v := by
  cases ho : evO s o with
  | none => simp [ho,     za0] at he
  | some p =>
    have hp := h.ev ho
    rw [ho] at he
    cases p with
    | c _ => simp [    za0] at he
    | tup _ => simp [    za0] at he
    | agg cs =>
      obtain ⟨vs, hv, hcs, h1⟩ := hp
      simp only [    za0] at he
      split at he
      · rename_i off ft n hf
        unfold      zbv at hf
        split at hf
        · rename_i fs hu
          split at hf
          · rename_i fd hfd
            split at hf
            · rename_i n' hn
              cases hf
              split at he
              · rename_i hag
                cases he
                refine ⟨_, ?_, RelS.part hcs h1 fd.offset n⟩
                rw [hv]
                simp [Instr.field, run_underlying hu, hfd, asAgg, part,      z90 hag,       z27 hn]
              · rename_i hag
                split at he
                · rename_i y r hy
                  cases he
                  have hd := hcs.drop fd.offset
                  rw [hy] at hd
                  cases hvd : vs.toList.drop fd.offset with
                  | nil => rw [hvd] at hd; exact hd.elim
                  | cons u us =>
                    rw [hvd] at hd
                    have hu' : vs[fd.offset]? = some u := by
                      have : (vs.toList.drop fd.offset)[0]? = some u := by rw [hvd]; rfl
                      rw [List.getElem?_drop] at this
                      simpa using this
                    refine ⟨u, ?_,     z0h hd.1 (h1 u (by have : u ∈ vs.toList.drop fd.offset := by rw [hvd]; simp
                                                          exact List.mem_of_mem_drop this))⟩
                    rw [hv]
                    simp [Instr.field, run_underlying hu, hfd, asAgg, part,      z90 hag, hu']
                · cases he
              · cases he
            · cases hf
          · cases hf
        · cases hf
      · cases he
theorem zez {b off es n:Nat}{get:Nat→List D}{V:Nat→Prop}(hb:G b∨V b)(he:z3i G w b off es n get){i:Nat}(hi:i<n):
 RelC G V φ w (.eptr (get i)) (.pointer (some ⟨b,off+i*es,none⟩)):=⟨b,_,hb,rfl,(he i hi).2⟩
theorem RelD.elems {es n:Nat}{get:Nat→List D}{v:Value}(h:RelD G w (.list es n get) v):
 (n=0∧ ∃a cap,v= .slice a 0 cap)∨ ∃b off cap,G b∧v= .slice (some ⟨b,off,none⟩) n cap∧n≤cap∧n≤maxN∧z3i G w b off es n get:=by
 cases h with
 |empty _ _ a cap=>exact .inl ⟨rfl,a,cap,rfl⟩
 |list _ _ _ b off cap vals hG hn hm hc hl hr=>
  exact .inr ⟨b,off,cap,hG,rfl,hn,hm,fun i hi=>⟨hl i hi,fun j hj=>⟨vals i j,hc i j hi (by rw[hl i hi]at hj;exact hj),hr i j hi (by rw[hl i hi]at hj;exact hj)⟩⟩⟩
theorem z3i.relD {b off cap es n:Nat}{get:Nat→List D}(hb:G b)(hn:n≤cap)(hm:n≤maxN)(h:z3i G w b off es n get):
 RelD G w (.list es n get) (.slice (some ⟨b,off,none⟩) n cap):=by
 have hex: ∀i j,i<n→j<es→ ∃u,w.cell? ⟨b,off+i*es+j,none⟩=some u∧RelD G w (D.at (get i) j) u:=fun i j hi hj=>
  (h i hi).2 j (by rw[(h i hi).1];exact hj)
 refine .list es n get b off cap (fun i j=>(w.cell? ⟨b,off+i*es+j,none⟩).getD undef) hb hn hm (fun i j hi hj=>?_) (fun i hi=>(h i hi).1) (fun i j hi hj=>?_)
 ·obtain⟨u,hu,_⟩:=hex i j hi hj;rw[hu];rfl
 ·obtain⟨u,hu,hr⟩:=hex i j hi hj;rw[hu];exact hr
theorem Sim.indexAddr (h:Sim E s G φ a w){t:TypeId}{o i:Operand}{x:AV}{c:Prop}(he:zaw E.P t (evO s o) (evO s i)=some (x,c))(hc:c):
 ∃v,(Instr.indexAt t (a.eval o) (a.eval i)).run E.P w= .ok v w∧RAV E G φ w x v:=by
 unfold zaw at he;split at he
 ·rename_i _ _ p k n ho hi
  have hp:=h.ev ho;have hn:=h.ev hi
  have hi':a.eval i= .int k n:=z3o hn;rw[hi'];split at he
  ·rename_i len e hu
   split at he
   ·rename_i sz hsz
    split at he
    ·rename_i hin
     have hin:=of_decide_eq_true hin;split at he
     ·rename_i p' hs
      cases he;obtain⟨b,o',hv,hr⟩:=zfm (z4o hp (zfl hs)).1 hs;refine⟨_,?_,z0h hr rfl⟩;rw[hv];simp[Instr.indexAt,asIntOf,run_underlying hu,Instr.sureAddr,hin,z27 hsz,Addr.add_mid]
     ·cases he
    ·cases he
   ·cases he
  ·rename_i e hu
   split at he
   ·rename_i sz hsz
    have key: ∀(b off cap len:Nat),0≤n∧n<(len:Int)→(Instr.indexAt t (.slice (some ⟨b,off,none⟩) len cap) (.int k n)).run E.P w= .ok (.pointer (some ⟨b,off+n.toNat*sz,none⟩)) w:=fun b off cap len hin=>by
     simp[Instr.indexAt,asIntOf,run_underlying hu,hin,z27 hsz,Addr.add_mid]
    split at he
    ·rename_i es len get
     split at he
     ·rename_i hes
      have hes:=zz4 hes;subst hes;cases he;rcases RelD.elems hp.1 with⟨h0,_⟩|⟨b,off,cap,hb,hv,_,_,hel⟩
      ·omega
      ·rw[hv];exact⟨_,key b off cap len hc,z0h (zez (.inl hb) hel (by omega)) rfl⟩
     ·cases he
    ·rename_i es len get
     split at he
     ·rename_i hes
      have hes:=zz4 hes;subst hes;cases he;rcases hp.1 with⟨h0,_⟩|⟨b,off,cap,hb,hv,_,_,hel⟩
      ·omega
      ·rw[hv];exact⟨_,key b off cap len hc,z0h (zez hb hel (by omega)) rfl⟩
     ·cases he
    ·rename_i k' es off len
     split at he
     ·rename_i hes
      have hes:=zz4 hes;subst hes;cases he;rcases hp.1 with⟨h0,_⟩|⟨l,hl,_,hv⟩
      ·omega
      ·rw[hv];refine⟨_,key _ _ _ len hc,z0h ⟨l,hl,?_⟩ rfl⟩;rw[Nat.add_mul,Nat.add_zero,Nat.add_assoc]
     ·cases he
    ·cases he
   ·cases he
  ·cases he
 ·cases he
theorem zn7 {sx:ByteArray}{i:Int}(h0:0≤i)(h:i<(sx.size:Int)):sx[i.toNat]?=some (sx.data.getD i.toNat 0):=by
 have hlt:i.toNat<sx.size:=by omega
 have hd:i.toNat<sx.data.size:=hlt;rw[getElem?_pos sx i.toNat hlt];congr 1;rw[Array.getD_eq_getD_getElem?,Array.getElem?_eq_getElem hd];rfl
theorem Sim.index (h : Sim E s G φ a w) {t : TypeId} {o i : Operand} {x : AV} {c : Prop} (he :     zfw E.P t (evO s o) (evO s i) = some (x, c)) (hc : c) :
    ∃ v, (Instr.index t (a.eval o) (a.eval i)).run E.P w = .ok v w ∧ RAV E G φ w x v := by
  unfold     zfw at he
  split at he
  · rename_i _ _ sx k n ho hi
    have hp := h.ev ho
    have hn := h.ev hi
    have hi' : a.eval i = .int k n :=     z3o hn
    have ho' : a.eval o = .string sx :=     za2 hp
    split at he
    · rename_i hu
      cases he
      refine ⟨.int .u8 (bt sx n), ?_,     z0h (RelD.int _ _) rfl⟩
      rw [hi', ho']
      simp [Instr.index, asIntOf, run_underlying hu, hc.1,    zn7 hc.1 hc.2, bt]
    · cases he
  · rename_i _ _ cs k n ho hi
    have hn := h.ev hi
    have hi' : a.eval i = .int k n :=     z3o hn
    obtain ⟨vs, hv, hcs, h1⟩ := h.ev ho
    split at he
    · rename_i len e hu
      split at he
      · rename_i hdec
        have hb := of_decide_eq_true hdec
        split at he
        · rename_i m hm hag
          cases he
          refine ⟨_, ?_, RelS.part hcs h1 (n.toNat * m) m⟩
          rw [hv, hi']
          simp [Instr.index, asIntOf, run_underlying hu, hb.1, hb.2, part,      z90 hag,       z27 hm]
        · rename_i m hm hag
          split at he
          · rename_i y r hy
            cases he
            have hd := hcs.drop (n.toNat * m)
            rw [hy] at hd
            cases hvd : vs.toList.drop (n.toNat * m) with
            | nil => rw [hvd] at hd; exact hd.elim
            | cons u us =>
              rw [hvd] at hd
              have hu' : vs[n.toNat * m]? = some u := by
                have : (vs.toList.drop (n.toNat * m))[0]? = some u := by rw [hvd]; rfl
                rw [List.getElem?_drop] at this
                simpa using this
              refine ⟨u, ?_,     z0h hd.1 (h1 u (by have : u ∈ vs.toList.drop (n.toNat * m) := by rw [hvd]; simp
                                                    exact List.mem_of_mem_drop this))⟩
              rw [hv, hi']
              simp [Instr.index, asIntOf, run_underlying hu, hb.1, hb.2, part,      z90 hag,       z27 hm, hu']
          · cases he
        · cases he
      · cases he
    · cases he
  · cases he
end
end Go.Av
/-
 Av,part E:slice expressions,arithmetic,conversions,builtins.
-/
namespace Go.Av
open Go
def cmpB:BinOp→Int→Int→Option Bool
 | .eql,x,y=>some (decide (x=y))
 | .neq,x,y=>some (!decide (x=y))
 | .lss,x,y=>some (decide (x<y))
 | .leq,x,y=>some (decide (x≤y))
 | .gtr,x,y=>some (decide (y<x))
 | .geq,x,y=>some (decide (y≤x))
 |_,_,_=>none
def dOf:Option AV→Option D
 |some (.c (.d x))=>some x
 |_=>none
def zki (P:Program)(op:BinOp)(t:TypeId):D→D→Option (AV×Prop)
 | .int k x,.int k' y=>match op with
  | .shl=>some (.c (.d (.int k (shlOp k x y))),0≤y)
  | .shr=>some (.c (.d (.int k (shrOp k x y))),0≤y)
  |_=>match decide (k=k')with
   |false=>none
   |true=>match op with
    | .add=>some (.c (.d (.int k (k.wrap (x+y)))),True)
    | .sub=>some (.c (.d (.int k (k.wrap (x-y)))),True)
    | .mul=>some (.c (.d (.int k (k.wrap (x*y)))),True)
    | .quo=>some (.c (.d (.int k (k.wrap (x.tdiv y)))),y≠0)
    | .rem=>some (.c (.d (.int k (x.tmod y))),y≠0)
    | .and=>some (.c (.d (.int k (z36 .and k x y))),True)
    | .or=>some (.c (.d (.int k (z36 .or k x y))),True)
    | .xor=>some (.c (.d (.int k (z36 .xor k x y))),True)
    | .andNot=>some (.c (.d (.int k (z36 .andNot k x y))),True)
    |_=>match cmpB op x y with
     |some b=>some (.c (.d (.bool b)),True)
     |none=>none
 | .str x,.str y=>match op with
  | .add=>some (.c (.d (.str (x++y))),((x.size+y.size:Nat):Int)≤9223372036854775807)
  | .eql=>some (.c (.d (.bool (strEq x y))),True)
  | .neq=>some (.c (.d (.bool (!strEq x y))),True)
  | .lss=>some (.c (.d (.bool (strLt x y))),True)
  | .leq=>some (.c (.d (.bool (strLt x y||strEq x y))),True)
  | .gtr=>some (.c (.d (.bool (!(strLt x y||strEq x y)))),True)
  | .geq=>some (.c (.d (.bool (!strLt x y))),True)
  |_=>none
 | .bool x,.bool y=>match P.underlying t with
  |some .bool=>match op with
   | .eql=>some (.c (.d (.bool (x==y))),True)
   | .neq=>some (.c (.d (.bool (!(x==y)))),True)
   |_=>none
  |_=>none
 |_,_=>none
def evBin (P:Program)(op:BinOp)(t:TypeId)(x y:Option AV):Option (AV×Prop):=
 match dOf x,dOf y with
 |some x,some y=>zki P op t x y
 |_,_=>none
def evUn (op:UnOp):Option AV→Option (AV×Prop)
 |some (.c (.d (.int k n)))=>match op with
  | .neg=>some (.c (.d (.int k (k.wrap (0-n)))),True)
  | .xor=>some (.c (.d (.int k (z36 .xor k (if k.signed then -1 else k.max) n))),True)
  |_=>none
 |some (.c (.d (.bool b)))=>match op with
  | .not=>some (.c (.d (.bool (!b))),True)
  |_=>none
 |_=>none
def zd6 (P:Program)(src dst:TypeId):Option AV→Option (AV×Prop)
 |some (.c (.d (.int _ n)))=>match P.underlying src,P.underlying dst with
  |some _,some (.int k)=>some (.c (.d (.int k (k.wrap n))),True)
  |_,_=>none
 |some (.c (.d (.str x)))=>match P.underlying src,P.underlying dst with
  |some .string,some .string=>some (.c (.d (.str x)),True)
  |_,_=>none
 |_=>none
def lenC:AV→Option Nat
 | .c (.d (.str s))=>some s.size
 | .c (.d (.list _ n _))=>some n
 | .c (.view _ n _)=>some n
 | .c (.own _ _ _ n)=>some n
 | .c (.bsl _ _ _ n)=>some n
 | .c .zero=>some 0
 |_=>none
def evLen (P:Program)(t:TypeId):Option AV→Option (AV×Prop)
 |some x=>match P.underlying t with
  |some .string=>match x with
   | .c (.d (.str s))=>some (.c (.d (.int .i64 (s.size:Int))),True)
   |_=>none
  |some (.slice _)=>match x with
   | .c (.d (.str _))=>none
   |_=>match lenC x with
    |some n=>some (.c (.d (.int .i64 (n:Int))),True)
    |none=>none
  |some (.array n _)=>some (.c (.d (.int .i64 (n:Int))),True)
  |_=>none
 |none=>none
def evMax:Option AV→Option AV→Option (AV×Prop)
 |some (.c (.d (.int k x))),some (.c (.d (.int _ y)))=>some (.c (.d (.int k (if x<y then y else x))),True)
 |_,_=>none
def evMin:Option AV→Option AV→Option (AV×Prop)
 |some (.c (.d (.int k x))),some (.c (.d (.int _ y)))=>some (.c (.d (.int k (if y<x then y else x))),True)
 |_,_=>none
def zd7 (i:Nat):Option AV→Option (AV×Prop)
 |some (.tup vs)=>match vs[i]? with
  |some (true,cs)=>some (.agg cs,True)
  |some (false,[x])=>some (.c x,True)
  |_=>none
 |_=>none
def zhf:Option AV→Option AV→Option AV→Option (AV×Prop)
 |some (.c (.d (.bool b))),some x,some y=>match b with
  |true=>some (x,True)
  |false=>some (y,True)
 |_,_,_=>none
def zeu:List (Option AV)→Option (List D)
 |[]=>some []
 |some (.c (.d x))::r=>match zeu r with
  |some xs=>some (x::xs)
  |none=>none
 |_=>none
def ccsOf:List (Option AV)→Option (List CC)
 |[]=>some []
 |some (.c (.d x))::r=>match ccsOf r with
  |some xs=>some (.d x::xs)
  |none=>none
 |some (.c (.ptr k o))::r=>match ccsOf r with
  |some xs=>some (.ptr k o::xs)
  |none=>none
 |_=>none
section
variable {E:Env} {s:St} {G:Nat→Prop} {φ:Nat→Option Loc} {a:Act} {w:World}
theorem Sim.bound (h:Sim E s G φ a w){d:Int}{o:Option Operand}{i:Int}(he:zdv d (o.map (evO s))=some i):
 (o=none∧i=d)∨ ∃x k,o=some x∧a.eval x= .int k i:=by
 cases o with
 |none=>cases he;exact .inl ⟨rfl,rfl⟩
 |some x=>
  simp only[Option.map_some]at he;cases hx:evO s x with
  |none=>simp[hx,zdv]at he
  |some v=>
   rw[hx]at he
   match v,he,hx with
   | .c (.d (.int k n)),he,hx=>cases he;exact .inr ⟨x,k,rfl,z3o (h.ev hx)⟩
theorem z64 {P:Program}{k:IntKind}{i:Int}{y:Nat}{code:BoundsCode}(h0:0≤i)(h1:i≤(y:Int))(w:World):
 (Instr.sliceBound (.int k i) y code).run P w= .ok i.toNat w:=by
 simp[Instr.sliceBound,asIntOf,h0,h1]
theorem Sim.bnds (h:Sim E s G φ a w){lo hi mx:Option Operand}{l hh:Int}{mm:Option Int}{n cap:Nat}{isS:Bool}
 (he:z78 n (lo.map (evO s)) (hi.map (evO s)) (mx.map (evO s))=some (l,hh,mm)) (hc:bndOk n l hh mm) (hn:n≤cap):
 ∃M:Nat,(Instr.sliceBounds isS n cap (lo.map a.eval) (hi.map a.eval) (mx.map a.eval)).run E.P w= .ok (l.toNat,hh.toNat,M) w∧
  l.toNat≤hh.toNat∧hh.toNat≤M∧hh.toNat≤n∧M≤cap∧(∀m,mm=some m→M=m.toNat)∧(mm=none→mx=none∧M=cap)∧(∀m,mm=some m→hh≤m∧0≤l):=by
 unfold z78 at he;split at he
 ·rename_i l' hl
  split at he
  ·rename_i hmx
   have hmx:mx=none:=by cases mx<;>simp_all
   subst hmx;split at he
   ·rename_i h' hhi
    cases he;have hc:0≤l∧l≤hh∧hh≤(n:Int):=hc
    have h1:(hh.toNat:Int)=hh:=by omega
    refine⟨cap,?_,by omega,by omega,by omega,zze _,by simp,fun _=>⟨rfl,rfl⟩,by simp⟩;unfold Instr.sliceBounds;rcases h.bound hhi with⟨rfl,rfl⟩|⟨x,k,rfl,hx⟩<;>rcases h.bound hl with⟨rfl,rfl⟩|⟨y,k',rfl,hy⟩
    ·simp
    ·simp[hy,z64 hc.1 hc.2.1]
    ·simp[hx,z64 (by omega:0≤hh) (by omega:hh≤(cap:Int))]
    ·simp[hx,hy,z64 (by omega:0≤hh) (by omega:hh≤(cap:Int)),z64 hc.1 (by omega:l≤(hh.toNat:Int))]
   ·cases he
  ·rename_i km m hmx
   split at he
   ·rename_i kh h' hhi
    cases he;have hc:0≤l∧l≤hh∧hh≤m∧m≤(n:Int):=hc
    have h1:(hh.toNat:Int)=hh:=by omega
    have h2:(m.toNat:Int)=m:=by omega
    cases mx with
    |none=>simp at hmx
    |some mo=>
    cases hi with
    |none=>simp at hhi
    |some ho=>
    simp only[Option.map_some,Option.some.injEq]at hmx hhi;have em:=z3o (h.ev hmx)
    have eh:=z3o (h.ev hhi);refine⟨m.toNat,?_,by omega,by omega,by omega,by omega,by simp,by simp,by simp;omega⟩;unfold Instr.sliceBounds;rcases h.bound hl with⟨rfl,rfl⟩|⟨y,k',rfl,hy⟩
    ·simp[em,eh,z64 (by omega:0≤m) (by omega:m≤(cap:Int)),z64 (by omega:0≤hh) (by omega:hh≤(m.toNat:Int))]
    ·simp[em,eh,hy,z64 (by omega:0≤m) (by omega:m≤(cap:Int)),z64 (by omega:0≤hh) (by omega:hh≤(m.toNat:Int)),z64 hc.1 (by omega:l≤(hh.toNat:Int))]
   ·cases he
  ·cases he
 ·cases he
theorem z3i.part {b off es n:Nat}{get:Nat→List D}(h:z3i G w b off es n get){l m:Nat}(hlm:l+m≤n):z3i G w b (off+l*es) es m (fun i=>get (l+i)):=fun i hi=>by
 obtain⟨h1,h2⟩:=h (l+i) (by omega);refine⟨h1,?_⟩;have:off+l*es+i*es=off+(l+i)*es:=by rw[Nat.add_mul];omega
 rw[this];exact h2
theorem zgu {b off es n:Nat}{get:Nat→List D}{V:Nat→Prop}(hb:G b∨V b)(hm:n≤maxN)(he:z3i G w b off es n get){l h m:Nat}(hlh:l≤h)(hhm:h≤m)(hhn:h≤n):
 RelC G V φ w (.view es (h-l) (fun i=>get (l+i))) (.slice (if m=l then some ⟨b,off,none⟩else(some (⟨b,off,none⟩:Addr)).map (·.add (l*es))) (h-l) (m-l)):=by
 by_cases e:m=l
 ·left;have:h-l=0:=by omega
  exact⟨this,_,_,by rw[if_pos e,this]⟩
 ·right;rw[if_neg e];exact⟨b,off+l*es,m-l,hb,by simp[Addr.add_mid],by omega,by omega,he.part (by omega)⟩
theorem zhw {es n:Nat}{get:Nat→List D}{v:Value}(h:RelC G (fun _=>False) φ w (.view es n get) v):RelD G w (.list es n get) v:=by
 rcases h with⟨h0,a,cap,rfl⟩|⟨b,off,cap,hb,rfl,hn,hm,he⟩
 ·subst h0;exact .empty es get a cap
 ·exact he.relD (hb.resolve_right id) hn hm
theorem z7d {P:Program}{t e:TypeId}{es:Nat}(hu:P.underlying t=some (.slice e))(hsz:sizeT P e=some es)(A:Option Addr)(n cap L H M:Nat)(lo hi mx:Option Value)
 (hb:(Instr.sliceBounds true n cap lo hi mx).run P w= .ok (L,H,M) w):
 (Instr.sliceAt t (.slice A n cap) lo hi mx).run P w= .ok (.slice (if M=L then A else A.map (·.add (L*es))) (H-L) (M-L)) w:=by
 simp[Instr.sliceAt,run_underlying hu,Instr.slice,hb,z27 hsz]
theorem Sim.slice (h:Sim E s G φ a w){t:TypeId}{o:Operand}{lo hi mx:Option Operand}{x:AV}{c:Prop}
 (he:zfx E.P t (evO s o) (lo.map (evO s)) (hi.map (evO s)) (mx.map (evO s))=some (x,c)) (hc:c):
 ∃v,(Instr.sliceAt t (a.eval o) (lo.map a.eval) (hi.map a.eval) (mx.map a.eval)).run E.P w= .ok v w∧RAV E G φ w x v:=by
 unfold zfx at he;split at he
 ·--a text
  rename_i sx ho
  have ho':a.eval o= .string sx:=za2 (h.ev ho);split at he
  ·rename_i hu
   split at he
   ·rename_i l hh hb
    cases he;obtain⟨M,hr,_,_,_,_,_,hmx,_⟩:=h.bnds (isS:=false) hb hc (zze _);obtain⟨hmx,_⟩:=hmx rfl;subst hmx;refine⟨.string (sx.extract l.toNat hh.toNat),?_,z0h (RelD.str _) rfl⟩;rw[ho'];simp only[Option.map_none]at hr ⊢;simp[Instr.sliceAt,run_underlying hu,Instr.slice,hr]
   ·cases he
  ·cases he
 ·rename_i p hnot ho
  have hp:=h.ev ho;split at he
  ·rename_i len e hu
   split at he
   ·rename_i sz k o hsz
    split at he
    ·rename_i l hh hb
     cases he;obtain⟨M,hr,x1,x2,x3,x4,x5,hmx,x6⟩:=h.bnds (cap:=len) (isS:=false) hb hc.1 (zze _);obtain⟨hmx,hM⟩:=hmx rfl;obtain⟨lc,hl,hv⟩:=hp.1;rw[hv];have hc1:0≤l∧l≤hh∧hh≤(len:Int):=hc.1
     have hne: ¬M=l.toNat:=by have:=hc.2;omega
     refine⟨.slice (some ⟨lc.blk,lc.off+o+l.toNat*sz,none⟩) (hh.toNat-l.toNat) (M-l.toNat),?_,z0h ⟨lc,M-l.toNat,hl,by omega,by rw[Nat.add_assoc]⟩ rfl⟩;simp[Instr.sliceAt,run_underlying hu,Instr.sureAddr,hr,z27 hsz,hne,Addr.add_mid]
    ·cases he
   ·cases he
  ·rename_i e hu
   split at he
   ·rename_i sz hsz
    split at he
    ·--data
     rename_i es n get
     split at he
     ·rename_i hes
      have hes:=zz4 hes;subst hes;split at he
      ·rename_i l hh m hb
       have hc':bndOk n l hh m:=by split at he<;>cases he<;>exact hc
       rcases RelD.elems hp.1 with⟨h0,A,cap,hv⟩|⟨b,off,cap,hb',hv,hn,hm,hel⟩
       ·subst h0;obtain⟨M,hr,x1,x2,x3,x4,x5,_,x6⟩:=h.bnds (cap:=cap) (isS:=true) hb hc' (Nat.zero_le _);rw[hv];refine⟨_,z7d hu hsz A 0 cap _ _ M _ _ _ hr,?_⟩;have e1:l.toNat=0:=by omega
        have e2:hh.toNat=0:=by omega
        rw[e1,e2];split at he
        ·rename_i hz
         cases he;cases m with
         |none=>cases hz
         |some m=>
          have hz:m=0:=of_decide_eq_true hz;have:=x5 m rfl
          subst hz;subst this;exact z0h ⟨_,rfl⟩ rfl
        ·cases he;rw[e1,e2];exact z0h (RelD.empty _ _ _ _) rfl
       ·obtain⟨M,hr,x1,x2,x3,x4,x5,_,x6⟩:=h.bnds (isS:=true) hb hc' hn;rw[hv];refine⟨_,z7d hu hsz _ n cap _ _ M _ _ _ hr,?_⟩;split at he
        ·rename_i hz
         cases he;cases m with
         |none=>cases hz
         |some m=>
          have hz:m=0:=of_decide_eq_true hz;have hM:=x5 m rfl
          subst hz;have e1:l.toNat=0:=by omega
          have e2:hh.toNat=0:=by omega
          have e3:M=0:=by omega
          rw[e1,e2,e3];exact z0h ⟨_,rfl⟩ rfl
        ·cases he;exact z0h (zhw (φ:=φ) (zgu (.inl hb') hm hel x1 x2 x3)) rfl
      ·cases he
     ·cases he
    ·--a view
     rename_i es n get
     split at he
     ·rename_i hes
      have hes:=zz4 hes;subst hes;split at he
      ·rename_i l hh m hb
       have hc':bndOk n l hh m:=by split at he<;>cases he<;>exact hc
       rcases hp.1 with⟨h0,A,cap,hv⟩|⟨b,off,cap,hb',hv,hn,hm,hel⟩
       ·subst h0;obtain⟨M,hr,x1,x2,x3,x4,x5,_,x6⟩:=h.bnds (cap:=cap) (isS:=true) hb hc' (Nat.zero_le _);rw[hv];refine⟨_,z7d hu hsz A 0 cap _ _ M _ _ _ hr,?_⟩;have e1:l.toNat=0:=by omega
        have e2:hh.toNat=0:=by omega
        rw[e1,e2];split at he
        ·rename_i hz
         cases he;cases m with
         |none=>cases hz
         |some m=>
          have hz:m=0:=of_decide_eq_true hz;have:=x5 m rfl
          subst hz;subst this;exact z0h ⟨_,rfl⟩ rfl
        ·cases he;rw[e1,e2];exact z0h (.inl ⟨rfl,_,_,rfl⟩) rfl
       ·obtain⟨M,hr,x1,x2,x3,x4,x5,_,x6⟩:=h.bnds (isS:=true) hb hc' hn;rw[hv];refine⟨_,z7d hu hsz _ n cap _ _ M _ _ _ hr,?_⟩;split at he
        ·rename_i hz
         cases he;cases m with
         |none=>cases hz
         |some m=>
          have hz:m=0:=of_decide_eq_true hz;have hM:=x5 m rfl
          subst hz;have e1:l.toNat=0:=by omega
          have e2:hh.toNat=0:=by omega
          have e3:M=0:=by omega
          rw[e1,e2,e3];exact z0h ⟨_,rfl⟩ rfl
        ·cases he;exact z0h (zgu hb' hm hel x1 x2 x3) rfl
      ·cases he
     ·cases he
    ·--one's own
     rename_i k es off n
     split at he
     ·rename_i hes
      have hes:=zz4 hes;subst hes;split at he
      ·rename_i l hh hb
       cases he;rcases hp.1 with⟨h0,A,hv⟩|⟨lc,hl,hle,hv⟩
       ·subst h0;obtain⟨M,hr,x1,x2,x3,x4,x5,_,x6⟩:=h.bnds (cap:=0) (isS:=true) hb hc (zze _);rw[hv];refine⟨_,z7d hu hsz A 0 0 _ _ M _ _ _ hr,z0h ?_ rfl⟩;have e1:l.toNat=0:=by omega
        have e2:hh.toNat=0:=by omega
        have e3:M=0:=by omega
        rw[e1,e2,e3];exact .inl ⟨rfl,_,rfl⟩
       ·obtain⟨M,hr,x1,x2,x3,x4,x5,hmx,x6⟩:=h.bnds (cap:=lc.cap-off) (isS:=true) hb hc (by omega);obtain⟨hmx,hM⟩:=hmx rfl;rw[hv];refine⟨_,z7d hu hsz _ n (lc.cap-off) _ _ M _ _ _ hr,z0h ?_ rfl⟩;by_cases e:M=l.toNat
        ·have e1:hh.toNat-l.toNat=0:=by omega
         have e2:M-l.toNat=0:=by omega
         rw[e1,e2];exact .inl ⟨rfl,_,rfl⟩
        ·refine .inr ⟨lc,hl,by omega,?_⟩;rw[if_neg e,hM];have e1:lc.off+off*es+l.toNat*es=lc.off+(off+l.toNat)*es:=by rw[Nat.add_mul];omega
         have e2:lc.cap-off-l.toNat=lc.cap-(off+l.toNat):=by omega
         simp[Addr.add_mid,e1,e2]
      ·cases he
     ·cases he
    ·--of nothing
     split at he
     ·rename_i l hh m hb
      cases he;obtain⟨A,hv⟩:=hp.1;obtain⟨M,hr,x1,x2,x3,x4,x5,_,x6⟩:=h.bnds (cap:=0) (isS:=true) hb hc (zze _);rw[hv];refine⟨_,z7d hu hsz A 0 0 _ _ M _ _ _ hr,z0h ?_ rfl⟩;have e1:l.toNat=0:=by omega
      have e2:hh.toNat=0:=by omega
      have e3:M=0:=by omega
      rw[e1,e2,e3];exact⟨_,rfl⟩
     ·cases he
    ·cases he
   ·cases he
  ·cases he
 ·cases he
end
end Go.Av
/-
 Av,part F:arithmetic and the like are what the model does.
-/
namespace Go.Av
open Go
section
variable {E:Env} {s:St} {G:Nat→Prop} {φ:Nat→Option Loc} {a:Act} {w:World}
theorem zf0 {P:Program}{t:TypeId}(hu:P.underlying t=some .bool)(m n:Bool)(w:World):(Op.equal t (.bool m) (.bool n)).run P w= .ok (m==n) w:=by
 show(Op.equalIn (9999+1) t (.bool m) (.bool n)).run P w=_;rw[Op.equalIn,zz5,run_underlying hu];rfl
theorem zha {x:Option AV}{d:D}(h:dOf x=some d):x=some (.c (.d d)):=by
 unfold dOf at h;split at h
 ·cases h;rfl
 ·cases h
theorem Sim.bin (h:Sim E s G φ a w){op:BinOp}{t:TypeId}{o i:Operand}{x:AV}{c:Prop}(he:evBin E.P op t (evO s o) (evO s i)=some (x,c))(hc:c):
 ∃v,(do eqGuard op t o i (a.eval o) (a.eval i);binOp op t (a.eval o) (a.eval i):Sem Value).run E.P w= .ok v w∧RAV E G φ w x v:=by
 unfold evBin at he;split at he
 case h_2=>cases he
 rename_i dx dy hdx hdy
 have ho:=zha hdx;have hi:=zha hdy
 clear hdx hdy;unfold zki at he;split at he
 ·rename_i k m k' n
  rw[z3o (h.ev ho),z3o (h.ev hi)];have hg:(eqGuard op t o i (.int k m) (.int k' n)).run E.P w= .ok () w:=by
   unfold eqGuard;cases op<;>rfl
  rw[zz5,hg];simp only[zz1];split at he
  ·cases he;have hc: ¬n<0:=by omega
   exact⟨_,by simp[binOp,Op.shift,hc,shlOp],z0h (RelD.int _ _) rfl⟩
  ·cases he;have hc: ¬n<0:=by omega
   exact⟨_,by simp[binOp,Op.shift,hc,shrOp],z0h (RelD.int _ _) rfl⟩
  ·rename_i hshl hshr
   split at he
   ·cases he
   ·rename_i hk
    have hk:=of_decide_eq_true hk;subst hk;split at he
    all_goals first
     |(cases he;refine⟨_,?_,z0h (RelD.int _ _) rfl⟩;simp[binOp,Op.intArith];done)
     |(cases he;refine⟨_,?_,z0h (RelD.int _ _) rfl⟩;simp[binOp,Op.intDiv,hc];done)
     |(cases he;refine⟨_,?_,z0h (RelD.int _ _) rfl⟩;simp[binOp,Op.intBits,z36];done)
     |skip
    rename_i n1 n2 n3 n4 n5 n6 n7 n8 n9
    split at he
    ·rename_i b hb
     cases he;refine⟨.bool b,?_,z0h (RelD.bool _) rfl⟩;cases op<;>first
      |(exact(hshl rfl).elim)|(exact(hshr rfl).elim)|(exact(n1 rfl).elim)|(exact(n2 rfl).elim)|(exact(n3 rfl).elim)|(exact(n4 rfl).elim)|(exact(n5 rfl).elim)
      |(exact(n6 rfl).elim)|(exact(n7 rfl).elim)|(exact(n8 rfl).elim)|(exact(n9 rfl).elim)
      |(cases hb;simp[binOp,Op.intCmp];done)
      |(cases hb;simp[binOp,Op.intCmp];rfl)
    ·cases he
 ·rename_i m n
  rw[za2 (h.ev ho),za2 (h.ev hi)];have hg:(eqGuard op t o i (.string m) (.string n)).run E.P w= .ok () w:=by
   unfold eqGuard;cases op<;>rfl
  rw[zz5,hg];simp only[zz1];split at he
  ·cases he;refine⟨_,?_,z0h (RelD.str _) rfl⟩;have hn: ¬((m.size+n.size:Nat):Int)>zzi.max:=by
    have:zzi.max=9223372036854775807:=by decide
    rw[this];omega
   simp only[binOp,Op.stringOp];rw[if_neg hn];rfl
  all_goals first
   |(cases he;refine⟨_,?_,z0h (RelD.bool _) rfl⟩;simp[binOp,Op.stringOp,strEq,strLt];done)
   |(cases he;done)
 ·rename_i m n
  rw[z96 (h.ev ho),z96 (h.ev hi)];have hg:(eqGuard op t o i (.bool m) (.bool n)).run E.P w= .ok () w:=by
   unfold eqGuard;cases op<;>rfl
  rw[zz5,hg];simp only[zz1];split at he
  ·rename_i hu
   split at he
   ·cases he;exact⟨_,by simp[binOp,zf0 hu],z0h (RelD.bool _) rfl⟩
   ·cases he;exact⟨_,by simp[binOp,zf0 hu],z0h (RelD.bool _) rfl⟩
   ·cases he
  ·cases he
 ·cases he
theorem Sim.un (h:Sim E s G φ a w){op:UnOp}{o:Operand}{x:AV}{c:Prop}(he:evUn op (evO s o)=some (x,c)):
 ∃v,(Op.unary op (a.eval o)).run E.P w= .ok v w∧RAV E G φ w x v:=by
 unfold evUn at he;split at he
 ·rename_i k n ho
  rw[z3o (h.ev ho)];split at he
  ·cases he;exact⟨_,by simp[Op.unary,Op.intArith],z0h (RelD.int _ _) rfl⟩
  ·cases he;exact⟨_,by simp[Op.unary,Op.intBits,z36],z0h (RelD.int _ _) rfl⟩
  ·cases he
 ·rename_i b ho
  rw[z96 (h.ev ho)];split at he
  ·cases he;exact⟨_,by simp[Op.unary],z0h (RelD.bool _) rfl⟩
  ·cases he
 ·cases he
theorem Sim.convert (h:Sim E s G φ a w){src dst:TypeId}{o:Operand}{x:AV}{c:Prop}(he:zd6 E.P src dst (evO s o)=some (x,c)):
 ∃v,(Go.convert src dst (a.eval o)).run E.P w= .ok v w∧RAV E G φ w x v:=by
 unfold zd6 at he;split at he
 ·rename_i k n ho
  rw[z3o (h.ev ho)];split at he
  ·rename_i hs hd
   cases he;exact⟨_,by simp[Go.convert,run_underlying hs,run_underlying hd,Conv.intToInt],z0h (RelD.int _ _) rfl⟩
  ·cases he
 ·rename_i sx ho
  rw[za2 (h.ev ho)];split at he
  ·rename_i hs hd
   cases he;exact⟨_,by simp[Go.convert,run_underlying hs,run_underlying hd],z0h (RelD.str _) rfl⟩
  ·cases he
 ·cases he
theorem zlo {x:AV}{v:Value}{n:Nat}(h:RAV E G φ w x v)(hn:lenC x=some n)(hs: ∀sx,x≠ .c (.d (.str sx))): ∃A cap,v= .slice A n cap:=by
 unfold lenC at hn;split at hn
 ·rename_i sx;exact(hs sx rfl).elim
 ·cases hn;rcases RelD.elems h.1 with⟨h0,A,cap,hv⟩|⟨b,off,cap,_,hv,_⟩
  ·exact⟨A,cap,by rw[hv,h0]⟩
  ·exact⟨_,_,hv⟩
 ·cases hn;rcases h.1 with⟨h0,A,cap,hv⟩|⟨b,off,cap,_,hv,_⟩
  ·exact⟨A,cap,by rw[hv,h0]⟩
  ·exact⟨_,_,hv⟩
 ·cases hn;rcases h.1 with⟨h0,A,hv⟩|⟨l,_,_,hv⟩
  ·exact⟨A,0,by rw[hv,h0]⟩
  ·exact⟨_,_,hv⟩
 ·cases hn;obtain⟨l,cap,_,_,hv⟩:=h.1;exact⟨_,_,hv⟩
 ·cases hn;obtain⟨A,hv⟩:=h.1;exact⟨A,0,hv⟩
 ·cases hn
theorem Sim.len (h:Sim E s G φ a w){t ty:TypeId}{o:Operand}{x:AV}{c:Prop}(he:evLen E.P t (evO s o)=some (x,c)):
 ∃v,(Builtin.len_ #[t] ty #[a.eval o]).run E.P w= .ok v w∧RAV E G φ w x v:=by
 unfold evLen at he;split at he
 ·rename_i y ho
  have hy:=h.ev ho;split at he
  ·rename_i hu
   split at he
   ·rename_i sx
    cases he;rw[za2 hy];exact⟨_,by simp[Builtin.len_,run_underlying hu,goInt],z0h (RelD.int _ _) rfl⟩
   ·cases he
  ·rename_i e hu
   split at he
   ·cases he
   ·rename_i hns
    split at he
    ·rename_i n hn
     cases he;obtain⟨A,cap,hv⟩:=zlo hy hn hns;rw[hv];exact⟨_,by simp[Builtin.len_,run_underlying hu,goInt],z0h (RelD.int _ _) rfl⟩
    ·cases he
  ·rename_i n e hu
   cases he;exact⟨_,by simp[Builtin.len_,run_underlying hu,goInt],z0h (RelD.int _ _) rfl⟩
  ·cases he
 ·cases he
theorem Sim.max (h:Sim E s G φ a w){ts:Array TypeId}{ty:TypeId}{o i:Operand}{x:AV}{c:Prop}(he:evMax (evO s o) (evO s i)=some (x,c)):
 ∃v,(Builtin.max_ ts ty #[a.eval o,a.eval i]).run E.P w= .ok v w∧RAV E G φ w x v:=by
 unfold evMax at he;split at he
 ·rename_i k m k' n ho hi
  cases he;rw[z3o (h.ev ho),z3o (h.ev hi)];exact⟨_,by simp[Builtin.max_,Builtin.max2],z0h (RelD.int _ _) rfl⟩
 ·cases he
theorem Sim.min (h:Sim E s G φ a w){ts:Array TypeId}{ty:TypeId}{o i:Operand}{x:AV}{c:Prop}(he:evMin (evO s o) (evO s i)=some (x,c)):
 ∃v,(Builtin.min_ ts ty #[a.eval o,a.eval i]).run E.P w= .ok v w∧RAV E G φ w x v:=by
 unfold evMin at he;split at he
 ·rename_i k m k' n ho hi
  cases he;rw[z3o (h.ev ho),z3o (h.ev hi)];exact⟨_,by simp[Builtin.min_,Builtin.min2],z0h (RelD.int _ _) rfl⟩
 ·cases he
theorem RelSs.get {R:C→Value→Prop}: ∀{xs:List (Bool×List C)} {vs:List Value},RelSs R xs vs→ ∀(i:Nat) (p:Bool×List C),xs[i]?=some p→ ∃v,vs[i]?=some v∧RelS R p v
 |[],[],_,i,p,h=>by simp at h
 |_::xs,_::vs,⟨h1,h2⟩,i,p,h=>by
  cases i with
  |zero=>simp at h;subst h;exact⟨_,rfl,h1⟩
  |succ i=>simp at h;obtain⟨v,hv,hr⟩:=RelSs.get h2 i p h;exact⟨v,by simpa using hv,hr⟩
 |[],_::_,h,_,_,_=>h.elim
 |_::_,[],h,_,_,_=>h.elim
theorem Sim.extract (h:Sim E s G φ a w){i:Nat}{o:Operand}{x:AV}{c:Prop}(he:zd7 i (evO s o)=some (x,c)):
 ∃v,(Instr.extract (a.eval o) i).run E.P w= .ok v w∧RAV E G φ w x v:=by
 unfold zd7 at he;split at he
 ·rename_i vs ho
  obtain⟨us,hv,hr⟩:=h.ev ho;rw[hv];split at he
  ·rename_i cs hi
   cases he;obtain⟨v,hv,hr⟩:=hr.get i _ hi;exact⟨v,by simp[Instr.extract];simp at hv;simp[hv],hr⟩
  ·rename_i y hi
   cases he;obtain⟨v,hv,hr⟩:=hr.get i _ hi;exact⟨v,by simp[Instr.extract];simp at hv;simp[hv],z0h hr.1 hr.2⟩
  ·cases he
 ·cases he
theorem Sim.pick (h:Sim E s G φ a w){o x y:Operand}{z:AV}{c:Prop}(he:zhf (evO s o) (evO s x) (evO s y)=some (z,c)):
 ∃v,(do pure (.value (if ←asBool (a.eval o)then a.eval x else a.eval y)):Sem Next).run E.P w= .ok (.value v) w∧RAV E G φ w z v:=by
 unfold zhf at he;split at he
 ·rename_i b p q ho hx hy
  rw[z96 (h.ev ho)];split at he
  ·cases he;exact⟨_,by simp[asBool],h.ev hx⟩
  ·cases he;exact⟨_,by simp[asBool],h.ev hy⟩
 ·cases he
theorem zev (h:Sim E s G φ a w): ∀{os:List Operand} {ds:List D},zeu (os.map (evO s))=some ds→
 ds.length=os.length∧ ∀j,j<ds.length→RelD G w (D.at ds j) ((os.map a.eval).getD j undef)
 |[],ds,he=>by cases he;exact⟨rfl,fun j hj=>by simp at hj⟩
 |o::os,ds,he=>by
  simp only[List.map_cons]at he;cases ho:evO s o with
  |none=>rw[ho]at he;cases he
  |some v=>
   rw[ho]at he;cases v with
   |agg _=>cases he
   |tup _=>cases he
   |c x=>
    cases x with
    |d x=>
     simp only[zeu]at he;split at he
     ·rename_i xs hxs
      cases he;obtain⟨h1,h2⟩:=zev h hxs;refine⟨by simp[h1],fun j hj=>?_⟩;cases j with
      |zero=>exact(h.ev ho).1
      |succ j=>simpa [D.at]using h2 j (by simpa using hj)
     ·cases he
    |_=>cases he
theorem zcy (h:Sim E s G φ a w): ∀{os:List Operand} {ds:List CC},ccsOf (os.map (evO s))=some ds→
 ds.length=os.length∧ ∀j,j<ds.length→RelCC G φ w (ds.getD j zzd) ((os.map a.eval).getD j undef)
 |[],ds,he=>by cases he;exact⟨rfl,fun j hj=>by simp at hj⟩
 |o::os,ds,he=>by
  simp only[List.map_cons]at he;cases ho:evO s o with
  |none=>rw[ho]at he;cases he
  |some v=>
   rw[ho]at he;cases v with
   |agg _=>cases he
   |tup _=>cases he
   |c x=>
    cases x with
    |d x=>
     simp only[ccsOf]at he;split at he
     ·rename_i xs hxs
      cases he;obtain⟨h1,h2⟩:=zcy h hxs;refine⟨by simp[h1],fun j hj=>?_⟩;cases j with
      |zero=>exact(h.ev ho).1
      |succ j=>simpa using h2 j (by simpa using hj)
     ·cases he
    |ptr k q=>
     simp only[ccsOf]at he;split at he
     ·rename_i xs hxs
      cases he;obtain⟨h1,h2⟩:=zcy h hxs;refine⟨by simp[h1],fun j hj=>?_⟩;cases j with
      |zero=>exact(h.ev ho).1
      |succ j=>simpa using h2 j (by simpa using hj)
     ·cases he
    |_=>cases he
end
end Go.Av
/-
 Av,part G:variables are made and written;a list of operations.
-/
namespace Go.Av
open Go
inductive Step where
 |val (x:AV) (c:Prop)
 |new (c:Slot) (x:AV)
 |turn (k:Nat) (c:Slot)
def Step.cond:Step→Prop
 | .val _ c=>c
 |_=>True
def ofVal:Option (AV×Prop)→Option Step
 |some (x,c)=>some (.val x c)
 |none=>none
def zeroCells (P:Program)(t:TypeId):Option (List C):=
 match P.info? t with
 |some i=>match i.zero with
  |some z=>match z.cells.toList.all (·.oneCell')with
   |true=>some (z.cells.toList.map z6p)
   |false=>none
  |none=>none
 |none=>none
def z7g:AV→Option (List C)
 | .c .any=>none
 | .c x=>some [x]
 | .agg xs=>some xs
 | .tup _=>none
def wr (cs:List C)(o:Nat)(xs:List C):List C:=cs.take o++xs++cs.drop (o+xs.length)
def zfy (P:Program)(s:St)(t:TypeId):Option AV→Option AV→Option Step
 |some (.c (.ptr k o)),some x=>match z7g x,sizeT P t,look s.sl k with
  |some xs,some n,some (.box cs)=>match Nat.beq n xs.length with
   |true=>match Nat.ble (o+n) cs.length with
    |true=>some (.turn k (.box (wr cs o xs)))
    |false=>none
   |false=>none
  |_,_,_=>none
 |_,_=>none
def fillC (place:Nat→Option (Nat×Nat)):List C→List (Nat×Option AV)→Option (List C)
 |cs,[]=>some cs
 |cs,(i,some x)::r=>match place i,z7g x with
  |some (off,n),some xs=>match Nat.beq n xs.length with
   |true=>match Nat.ble (off+n) cs.length with
    |true=>fillC place (wr cs off xs) r
    |false=>none
   |false=>none
  |_,_=>none
 |_,(_,none)::_=>none
def zc6 (P:Program):List Field→Option (List (Nat×Nat))
 |[]=>some []
 |f::r=>match sizeT P f.type,zc6 P r with
  |some n,some ps=>some ((f.offset,n)::ps)
  |_,_=>none
def zfv (P:Program)(t:TypeId)(parts:List (Nat×Option AV)):Option (AV×Prop):=
 match zeroCells P t,P.underlying t with
 |some z,some (.struct fs)=>match zc6 P fs.toList with
  |some ps=>match fillC (fun i=>ps[i]?) z parts with
   |some cs=>some (.agg cs,True)
   |none=>none
  |none=>none
 |some z,some (.array _ e)=>match sizeT P e with
  |some n=>match fillC (fun i=>some (i*n,n)) z parts with
   |some cs=>some (.agg cs,True)
   |none=>none
  |none=>none
 |_,_=>none
def evNil:Option AV→Option (AV×Prop)
 |some (.c (.ptr k o))=>some (.c (.ptr k o),True)
 |some (.c (.vptr k es i o))=>some (.c (.vptr k es i o),True)
 |some (.c (.eptr cells))=>some (.c (.eptr cells),True)
 |some (.c (.d (.fn f caps)))=>some (.c (.d (.fn f caps)),True)
 |some (.c (.clo f n caps))=>some (.c (.clo f n caps),True)
 |_=>none
def zkj (P:Program)(s:St)(c:Call):Option (AV×Prop):=
 match c.callee,c.args.toList,c.argTypes.toList with
 | .builtin .len,[x],[t]=>evLen P t (evO s x)
 | .builtin .max,[x,y],_=>evMax (evO s x) (evO s y)
 | .builtin .min,[x,y],_=>evMin (evO s x) (evO s y)
 |_,_,_=>none
def z3e (P:Program)(s:St)(d:Option Nat):Op→Option Step
 | .move x=>match evO s x with
  |some v=>some (.val v True)
  |none=>none
 | .assign x=>match evO s x with
  |some v=>some (.val v True)
  |none=>none
 | .pick c x y=>ofVal (zhf (evO s c) (evO s x) (evO s y))
 | .alloc t=>match zeroCells P t,d with
  |some z,some d=>some (.new (.box z) (.c (.ptr d 0)))
  |_,_=>none
 | .box _ x=>match evO s x,d with
  |some x,some d=>match z7g x with
   |some xs=>some (.new (.box xs) (.c (.ptr d 0)))
   |none=>none
  |_,_=>none
 | .build t parts=>ofVal (zfv P t (parts.toList.map fun p=>(p.1,evO s p.2)))
 | .load t p=>ofVal (z7r P s t (evO s p))
 | .store t p x=>zfy P s t (evO s p) (evO s x)
 | .nilCheck x=>ofVal (evNil (evO s x))
 | .binOp op t x y _=>ofVal (evBin P op t (evO s x) (evO s y))
 | .unOp op _ x=>ofVal (evUn op (evO s x))
 | .convert a b x=>ofVal (zd6 P a b (evO s x))
 | .makeFunc (.func f) first caps=>match first.toList,zeu (caps.toList.map (evO s))with
  |[],some ds=>some (.val (.c (.d (.fn f ds))) True)
  |_,_=>match ccsOf ((first.toList++caps.toList).map (evO s))with
   |some ds=>some (.val (.c (.clo f first.size ds)) True)
   |none=>none
 | .slice t x lo hi mx=>ofVal (zfx P t (evO s x) (lo.map (evO s)) (hi.map (evO s)) (mx.map (evO s)))
 | .fieldAddr t x f=>ofVal (z75 P t f (evO s x))
 | .field t x f=>ofVal (za0 P t f (evO s x))
 | .indexAddr t x i=>ofVal (zaw P t (evO s x) (evO s i))
 | .index t x i=>ofVal (zfw P t (evO s x) (evO s i))
 | .extract x i=>ofVal (zd7 i (evO s x))
 | .call c=>ofVal (zkj P s c)
 |_=>none
def z9n (s:St)(d:Option Nat):Step→St
 | .val x _=>match d with|some d=>s.put d x|none=>s
 | .new c x=>match d with|some d=>(s.slot d c).put d x|none=>s
 | .turn k c=>match d with|some d=>(s.slot k c).put d (.c .any)|none=>s.slot k c
def okDst (N:Nat)(s:St)(d:Option Nat)(st:Step):Bool:=
 match d with
 |none=>true
 |some d=>match Nat.blt d N with
  |false=>false
  |true=>match st with
   | .new _ _=>s.noRef d
   |_=>true
def zn9 (d:Nat)(s:St):St:=s.put d (.tup [])
section
variable {E:Env} {s:St} {G:Nat→Prop} {φ:Nat→Option Loc} {a:Act} {w:World}
theorem z5n (b:Nat): ∀(vs:List Value) (o:Nat) (w:World),(w.setCells b o vs).heap.size=w.heap.size∧(w.setCells b o vs).os=w.os∧Tp w (w.setCells b o vs)∧
 (w.setCells b o vs).output=w.output∧ ∀b',b'≠b→(w.setCells b o vs).heap[b']?=w.heap[b']?
 |[],_,_=>⟨rfl,rfl,⟨rfl,zze _⟩,rfl,fun _ _=>rfl⟩
 |v::r,o,w=>by
  rw[World.setCells];obtain⟨h1,h2,h3,h4,h5⟩:=z5n b r (o+1) (w.setCell ⟨b,o,none⟩ v);refine⟨by rw[h1];simp,h2,h3,h4,fun b' hb=>?_⟩;rw[h5 b' hb];simp only[World.setCell,Array.getElem?_modify];rw[if_neg (fun e=>hb e.symm)]
theorem zk2 {b off:Nat}{vs:List Value}(h:w.rangeAt b off vs)(ht:w.there b off vs.length){o:Nat}{us:List Value}(ho:o+us.length≤vs.length):
 (w.setCells b (off+o) us).rangeAt b off (vs.take o++us++vs.drop (o+us.length)):=fun j v hj=>by
 rcases Nat.lt_or_ge j o with h1|h1
 ·rw[World.cell?_setCells_out b us (off+o) w ⟨b,off+j,none⟩ (fun _ _=>by left;show off+j<off+o;omega)];apply h;rw[List.append_assoc,List.getElem?_append_left (by simp;omega),List.getElem?_take]at hj
  simpa [h1]using hj
 ·rcases Nat.lt_or_ge j (o+us.length)with h2|h2
  ·have hin:=World.cell?_setCells_in b us (off+o) w (fun i hi=>by rw[Nat.add_assoc];exact(ht (o+i) (by omega)).1) (j-o) (by omega);have e:off+o+(j-o)=off+j:=by omega
   rw[e]at hin;rw[hin,←hj,List.append_assoc,List.getElem?_append_right (by simp;omega),List.getElem?_append_left (by simp;omega)];have:j-(vs.take o).length=j-o:=by simp;omega
   rw[this,List.getElem?_eq_getElem (by omega)]
  ·rw[World.cell?_setCells_out b us (off+o) w ⟨b,off+j,none⟩ (fun _ _=>by right;show off+o+us.length≤off+j;omega)];apply h;rw[List.getElem?_append_right (by simp;omega),List.getElem?_drop]at hj;rw[←hj];congr 1;simp;omega
theorem zdk {P:Program}{b o:Nat}{t:TypeId}{v:Value}{vs:List Value}(hv:v.cells.toList=vs)(hs:sizeT P t=some vs.length)(ht:w.there b o vs.length)
 (h1: ∀u∈vs,u.oneCell'=true):(Instr.storeAt t (.pointer (some ⟨b,o,none⟩)) v).run P w= .ok () (w.setCells b o vs):=by
 have:=run_storeCells_cells (P:=P) b o vs 0 w (fun j hj=>(by simpa using ht j hj:_∧_).1) (fun j hj=>(by simpa using ht j hj:_∧_).2) h1;have hsz:v.cells.size=vs.length:=by rw[←hv];simp
 simp only[Nat.add_zero]at this;simp[Instr.storeAt,Instr.sureAddr,storeVar,z27 hs,hsz,hv,this]
theorem z8u {x:AV}{v:Value}{xs:List C}(h:RAV E G φ w x v)(hx:z7g x=some xs):
 RelCs (RelC G E.V φ w) xs v.cells.toList∧ ∀u∈v.cells.toList,u.oneCell'=true:=by
 unfold z7g at hx;split at hx
 ·cases hx
 ·rename_i y hne
  cases hx;obtain⟨h1,h2⟩:=z4o h (fun e=>hne e);have:v.cells.toList=[v]:=by cases v<;>first|rfl|(simp[Value.oneCell']at h2)
  rw[this];exact⟨⟨h1,trivial⟩,by simpa using h2⟩
 ·cases hx;obtain⟨vs,rfl,h1,h2⟩:=h;exact⟨h1,h2⟩
 ·cases hx
theorem zlc {R:C→Value→Prop}{cs:List C}{vs:List Value}{xs:List C}{us:List Value}(h:RelCs R cs vs)(hx:RelCs R xs us)(o:Nat):
 RelCs R (wr cs o xs) (vs.take o++us++vs.drop (o+us.length)):=by
 unfold wr;rw[hx.length];exact((h.take o).append hx).append (h.drop _)
theorem Sim.store (h:Sim E s G φ a w){t:TypeId}{p x:Operand}{st:Step}(he:zfy E.P s t (evO s p) (evO s x)=some st):
 ∃k c w',st= .turn k c∧(Instr.storeAt t (a.eval p) (a.eval x)).run E.P w= .ok () w'∧Sim E (s.slot k c) G φ a w':=by
 unfold zfy at he;split at he
 ·rename_i k o y hp hx
  split at he
  ·rename_i xs n cs hst hsz hk
   split at he
   ·rename_i hn
    have hn:=zz4 hn;split at he
    ·rename_i hle
     have hle:=zz7 hle;cases he;obtain⟨h1,h2⟩:=z8u (h.ev hx) hst;obtain⟨l,hl,hv⟩:=(z4o (h.ev hp) (by simp)).1;obtain⟨l',hl',ht,vs,g1,g2,g3⟩:=h.sl k _ hk;rw[hl]at hl';cases hl';have e1:=g1.length
     have e2:=h1.length;have htt:w.there l.blk (l.off+o) (a.eval x).cells.toList.length:=fun j hj=>by
      rw[Nat.add_assoc];exact ht (o+j) (by omega)
     refine⟨_,_,_,rfl,by rw[hv];exact zdk rfl (by rw[hsz];congr 1;omega) htt h2,?_⟩;obtain⟨f1,f2,f3,f4,f5⟩:=z5n l.blk (a.eval x).cells.toList (l.off+o) w;refine h.turn hk hl f1 f2 f3 f4 f5 ⟨l,hl,?_,_,zlc (g1.mono fun c _ v hc=>hc.mono (G':=G) (V:=E.V) (φ':=φ) (w':=w.setCells l.blk (l.off+o) (a.eval x).cells.toList) ?_ ?_ (fun _ h=>h) fun _ _=>rfl)
      (h1.mono fun c _ v hc=>hc.mono (G':=G) (V:=E.V) (φ':=φ) (w':=w.setCells l.blk (l.off+o) (a.eval x).cells.toList) ?_ ?_ (fun _ h=>h) fun _ _=>rfl) o,?_,zk2 g3 (by rw[←e1];exact ht) (by omega)⟩
     ·have:(wr cs o xs).length=cs.length:=by simp[wr];omega
      rw[this];exact World.there_setCells ht _ _ _
     all_goals first
      |(intro b hb;exact f5 b fun e=>(h.own k _ l hk hl).1 (e▸hb))
      |(intro b hb;exact f5 b fun e=>(h.own k _ l hk hl).2.1 (e▸hb))
      |skip
     intro u hu;simp only[zz2]at hu;rcases hu with(hu|hu)|hu
     ·exact g2 u (List.mem_of_mem_take hu)
     ·exact h2 u hu
     ·exact g2 u (List.mem_of_mem_drop hu)
    ·cases he
   ·cases he
  ·cases he
 ·cases he
theorem Sim.newBox (h:Sim E s G φ a w){d:Nat}(hlt:d<E.N)(hd:s.noRef d=true){cs:List C}{vs:Array Value}(t:TypeId)(hr:RelCs (RelC G E.V φ w) cs vs.toList)(h1: ∀u∈vs.toList,u.oneCell'=true)
 (hrf:anyB (C.refs d) cs=false):
 Sim E (s.slot d (.box cs)) G (upd φ d (some ⟨w.heap.size,0,0⟩)) a (w.alloc (.cells vs t)):=by
 refine h.alloc (h.notFx hlt) hd rfl ?_;have hb: ∀b,b<w.heap.size→(w.alloc (.cells vs t)).heap[b]?=w.heap[b]?:=fun b hb=>by
  show(w.heap.push _)[b]?=_;rw[Array.getElem?_push,if_neg (by omega)]
 obtain⟨sg,sv⟩:=h.same_of_lt hb;have hc: ∀j,(w.alloc (.cells vs t)).cell? ⟨w.heap.size,0+j,none⟩=vs[j]?:=fun j=>by rw[zzb];exact World.cell?_alloc_new w vs t j
 refine⟨_,z3w _ _ _,fun j hj=>?_,vs.toList,hr.mono fun c hc v hcv=>hcv.mono sg sv (fun _ h=>h) fun k hk=>z34 _ _ _ (zcr (z1t hrf c hc) hk),h1,fun j v hj=>by rw[hc];simpa using hj⟩;have hlt:j<vs.size:=by rw[hr.length]at hj;simpa using hj
 refine⟨by rw[hc];simp[hlt],?_⟩;simp only[World.frozen?,World.alloc,Array.getElem?_push,if_true];simp
end
end Go.Av
/-
 Av,part H:an operation,a list of operations,a region.
-/
namespace Go.Av
open Go
def z0o (ops:Array Oper)(s:St)(o:Oper):Option Bool:=
 match o.guard with
 |none=>some true
 |some (j,want)=>match ops[j]? with
  |some oj=>match oj.dst with
   |some d=>match look s.tm d with
    |some (.c (.d (.bool b)))=>some (b==want)
    |some (.tup _)=>some false
    |_=>none
   |none=>none
  |none=>none
def za1 (P:Program)(N:Nat)(ops:Array Oper):List Oper→St→Option (St×Prop)
 |[],s=>some (s,True)
 |o::r,s=>match z0o ops s o with
  |some true=>match z3e P s o.dst o.op with
   |some st=>match okDst N s o.dst st with
    |true=>match za1 P N ops r (z9n s o.dst st)with
     |some (s',c)=>some (s',st.cond∧c)
     |none=>none
    |false=>none
   |none=>none
  |some false=>match o.dst with
   |some d=>match Nat.blt d N with
    |true=>za1 P N ops r (zn9 d s)
    |false=>none
   |none=>za1 P N ops r s
  |none=>none
def SimE (E:Env)(s:St)(a:Act)(w:World):Prop:= ∃G φ,Sim E s G φ a w
section
variable {E:Env} {s:St} {G:Nat→Prop} {φ:Nat→Option Loc} {a:Act} {w:World}
theorem za7 (d:Nat): ∀vs:List Value,anyB (C.refs d) (vs.map z6p)=false
 |[]=>rfl
 |v::vs=>by
  have hc:(z6p v).refs d=false:=by unfold z6p;split<;>rfl
  simp only[List.map_cons,anyB,hc];exact za7 d vs
theorem zlt {d:Nat}(hd:s.noRef d=true){o:Operand}{x:AV}(hx:evO s o=some x):x.refs d=false:=by
 cases o with
 |tmp t=>exact(z3q hd).1 _ (z2b hx)
 |const v=>
  have hc: ∀v,(z6p v).refs d=false:=fun v=>by unfold z6p;split<;>rfl
  simp only[evO,zdu]at hx;split at hx
  ·split at hx
   ·cases hx;exact za7 d _
   ·cases hx
  ·cases hx
  ·split at hx
   ·cases hx
   ·cases hx;exact hc _
 |func f=>cases hx;rfl
 |global g=>cases hx
theorem zc3 {N d:Nat}{st:Step}(h:okDst N s (some d) st=true):d<N:=by
 unfold okDst at h;simp only at h;split at h
 ·cases h
 ·rename_i hlt;exact zzk.mp hlt
theorem Sim.putAt (h:Sim E s G φ a w){dst:Option Nat}{st:Step}(hok:okDst E.N s dst st=true){x:AV}{c:Prop}(hst:st= .val x c){v:Value}(hx:RAV E G φ w x v):
 Sim E (z9n s dst st) G φ (a.put dst v) w:=by
 subst hst;cases dst with
 |none=>exact h
 |some d=>exact h.put (zc3 hok) hx
theorem z9v {r:Option (AV×Prop)}{st:Step}(h:ofVal r=some st): ∃x c,r=some (x,c)∧st= .val x c:=by
 unfold ofVal at h;split at h
 ·cases h;exact⟨_,_,rfl,rfl⟩
 ·cases h
def Comes (E:Env)(s':St)(G:Nat→Prop)(a:Act)(dst:Option Nat):Result Next→Prop
 | .ok (.value v) w'=> ∃φ',Sim E s' G φ' (a.put dst v) w'
 | .ok .skip w'=> ∃φ',Sim E s' G φ' (a.put dst undef) w'
 |_=>False
theorem zkf {s':St}{dst:Option Nat}{m:Sem Value}(h: ∃v,m.run E.P w= .ok v w∧Sim E s' G φ (a.put dst v) w):
 Comes E s' G a dst ((do pure (.value (←m)):Sem Next).run E.P w):=by
 obtain⟨v,hr,hs⟩:=h;simp only[zz5,hr,zz1,zza];exact⟨φ,hs⟩
theorem zgh (off:Nat): ∀(us:List Value) (k:Nat) (A:Array Value),off+k+us.length≤A.size→
 ((us.zipIdx k).foldl (fun cs (x:Value×Nat)=>cs.setIfInBounds (off+x.2) x.1) A).toList=A.toList.take (off+k)++us++A.toList.drop (off+k+us.length)
 |[],k,A,_=>by simp
 |u::us,k,A,hA=>by
  simp only[List.length_cons]at hA;rw[List.zipIdx_cons,List.foldl_cons,zgh off us (k+1) _ (by simp;omega)];simp only[Array.toList_setIfInBounds];have hp:off+k<A.toList.length:=by simp;omega
  have e1:(A.toList.set (off+k) u).take (off+(k+1))=A.toList.take (off+k)++[u]:=by
   rw[List.set_eq_take_append_cons_drop,if_pos hp,List.take_append];have:off+(k+1)-(A.toList.take (off+k)).length=1:=by simp;omega
   rw[this,List.take_take];have:min (off+(k+1)) (off+k)=off+k:=by omega
   rw[this];rfl
  have e2:(A.toList.set (off+k) u).drop (off+(k+1)+us.length)=A.toList.drop (off+k+(us.length+1)):=by
   rw[List.drop_set_of_lt (by omega)];congr 1;omega
  rw[e1,e2];simp
theorem zan {P:Program}{place:Nat→Option (Nat×Nat)}: ∀(parts:List (Nat×Operand)) {cs:List C} {vs:Array Value} {cs':List C},Sim E s G φ a w→RelCs (RelC G E.V φ w) cs vs.toList→(∀u∈vs.toList,u.oneCell'=true)→
 fillC place cs (parts.map fun p=>(p.1,evO s p.2))=some cs'→
 ∃vs',Instr.fill place vs (parts.map fun p=>(p.1,a.eval p.2))=some vs'∧RelCs (RelC G E.V φ w) cs' vs'.toList∧ ∀u∈vs'.toList,u.oneCell'=true
 |[],cs,vs,cs',_,h1,h2,hf=>by cases hf;exact⟨vs,rfl,h1,h2⟩
 |(i,o)::r,cs,vs,cs',h,h1,h2,hf=>by
  simp only[List.map_cons]at hf ⊢;cases ho:evO s o with
  |none=>rw[ho]at hf;cases hf
  |some x=>
   rw[ho]at hf;simp only[fillC]at hf;split at hf
   ·rename_i off n xs hp hst
    split at hf
    ·rename_i hn
     have hn:=zz4 hn;split at hf
     ·rename_i hle
      have hle:=zz7 hle;obtain⟨g1,g2⟩:=z8u (h.ev ho) hst;have e1:=h1.length
      have e2:=g1.length;have hk:=zgh off (a.eval o).cells.toList 0 vs (by simp at e1 e2 ⊢;omega)
      simp only[Nat.add_zero]at hk;have hsz:(a.eval o).cells.size=n:=by rw[hn,e2];simp
      have hzip:(a.eval o).cells.zipIdx.foldl (fun cs (x:Value×Nat)=>cs.setIfInBounds (off+x.2) x.1) vs=(vs.toList.take off++(a.eval o).cells.toList++vs.toList.drop (off+(a.eval o).cells.toList.length)).toArray:=by
       apply Array.ext';rw[←hk,←Array.foldl_toList];congr 1;simp
      obtain⟨vs',r1,r2,r3⟩:=zan (P:=P) r (cs:=wr cs off xs) (vs:=(vs.toList.take off++(a.eval o).cells.toList++vs.toList.drop (off+(a.eval o).cells.toList.length)).toArray) h
       (by simpa using zlc h1 g1 off) (fun u hu=>by
        simp only[zz2]at hu;rcases hu with(hu|hu)|hu
        ·exact h2 u (List.mem_of_mem_take hu)
        ·exact g2 u hu
        ·exact h2 u (List.mem_of_mem_drop hu)) hf
      refine⟨vs',?_,r2,r3⟩;simp only[Instr.fill,hp];simp only[zzl]at e1;rw[if_neg (by simp[hsz];omega),←r1,←hzip]
     ·cases hf
    ·cases hf
   ·cases hf
end
end Go.Av
/-
 Av,part I:each operation is sound;lists of them;plain regions.
-/
namespace Go.Av
open Go
section
variable {E:Env} {s:St} {G:Nat→Prop} {φ:Nat→Option Loc} {a:Act} {w:World}
theorem z5i {P:Program}(t:TypeId)(cs:Array Value)(w:World):(newRow t cs).run P w= .ok ⟨w.heap.size,0,none⟩ (w.alloc (.cells cs t)):=rfl
theorem z3p (h:Sim E s G φ a w){dst:Option Nat}{r:Option (AV×Prop)}{st:Step}(he:ofVal r=some st)(hc:st.cond)(hok:okDst E.N s dst st=true){m:Sem Value}
 (hm: ∀x c,r=some (x,c)→c→ ∃v,m.run E.P w= .ok v w∧RAV E G φ w x v):Comes E (z9n s dst st) G a dst ((do pure (.value (←m)):Sem Next).run E.P w):=by
 obtain⟨x,c,hr,rfl⟩:=z9v he;obtain⟨v,h1,h2⟩:=hm x c hr hc;exact zkf ⟨v,h1,h.putAt hok rfl h2⟩
theorem z5c {P:Program}{t:TypeId}{z:List C}(hz:zeroCells P t=some z):
 ∃v:Value,(∀w,(zeroValue t).run P w= .ok v w)∧v.cells.toList.map z6p=z∧ ∀u∈v.cells.toList,u.oneCell'=true:=by
 unfold zeroCells at hz;split at hz
 ·rename_i i hi
  split at hz
  ·rename_i v hv
   split at hz
   ·rename_i hall
    cases hz;refine⟨v,fun w=>by simp[zeroValue,typeInfo,hi,hv],rfl,fun u hu=>List.all_eq_true.1 hall u hu⟩
   ·cases hz
  ·cases hz
 ·cases hz
theorem ze8 {P:Program}: ∀(fs:List Field) (ps:List (Nat×Nat)),zc6 P fs=some ps→ ∀w,
 (fs.mapM fun f=>(do pure (f.offset,←sizeOf f.type):Sem (Nat×Nat))).run P w= .ok ps w
 |[],ps,h,w=>by cases h;rfl
 |f::r,ps,h,w=>by
  simp only[zc6]at h;split at h
  ·rename_i n ps' hn hps
   cases h;have ih:=ze8 r ps' hps w
   rw[List.mapM_cons];simp only[zz5,z27 hn,zz1,zza,ih]
  ·cases h
theorem zil (h:Sim E s G φ a w){t:TypeId}{parts:Array (Nat×Operand)}{x:AV}{c:Prop}
 (he:zfv E.P t (parts.toList.map fun p=>(p.1,evO s p.2))=some (x,c)):
 ∃v,(Instr.build t (parts.map fun p=>(p.1,a.eval p.2))).run E.P w= .ok v w∧RAV E G φ w x v:=by
 unfold zfv at he;split at he
 ·rename_i z fs hz hu
  split at he
  ·rename_i ps hps
   split at he
   ·rename_i cs hf
    cases he;obtain⟨zv,z1,z2,z3⟩:=z5c hz;obtain⟨vs',r1,r2,r3⟩:=zan (P:=E.P) parts.toList (vs:=zv.cells) h (by rw[←z2];exact z50 G E.V φ w _) z3 hf;refine⟨.agg vs',?_,vs',rfl,r2,r3⟩;have hm:(fs.mapM fun f=>(do pure (f.offset,←sizeOf f.type):Sem (Nat×Nat))).run E.P w= .ok ps.toArray w:=by
     rw[Array.mapM_eq_mapM_toList];simp only[Sem.run_map,ze8 fs.toList ps hps w,zz1]
    have hpl:(fun i:Nat=>ps.toArray[i]?)=fun i:Nat=>ps[i]?:=by funext i;simp
    simp only[Instr.build,zz5,z1,zz1,run_underlying hu,hm,hpl,Array.toList_map,r1,zza]
   ·cases he
  ·cases he
 ·rename_i z n0 e hz hu
  split at he
  ·rename_i n hn
   split at he
   ·rename_i cs hf
    cases he;obtain⟨zv,z1,z2,z3⟩:=z5c hz;obtain⟨vs',r1,r2,r3⟩:=zan (P:=E.P) parts.toList (vs:=zv.cells) h (by rw[←z2];exact z50 G E.V φ w _) z3 hf;refine⟨.agg vs',?_,vs',rfl,r2,r3⟩;simp only[Instr.build,zz5,z1,zz1,run_underlying hu,z27 hn,Array.toList_map,r1,zza]
   ·cases he
  ·cases he
 ·cases he
theorem Sim.step (h:Sim E s G φ a w){o:Oper}{st:Step}(he:z3e E.P s o.dst o.op=some st)(hc:st.cond)(hok:okDst E.N s o.dst st=true):
 Av.Comes E (z9n s o.dst st) G a o.dst ((execOp a.eval o).run E.P w):=by
 have mv: ∀x:Operand,(match evO s x with|some v=>some (Step.val v True)|none=>none)=some st→Av.Comes E (z9n s o.dst st) G a o.dst (.ok (.value (a.eval x)) w):=fun x hx=>by
  cases hv:evO s x with
  |none=>rw[hv]at hx;cases hx
  |some v=>rw[hv]at hx;cases hx;exact⟨φ,h.putAt hok rfl (h.ev hv)⟩
 unfold execOp;cases hop:o.op with
 |move x=>rw[hop]at he;exact mv x he
 |assign x=>rw[hop]at he;exact mv x he
 |pick c x y=>
  rw[hop]at he;obtain⟨z,k,hr,rfl⟩:=z9v he;obtain⟨v,h1,h2⟩:=h.pick hr;simp only;rw[h1];exact⟨φ,h.putAt hok rfl h2⟩
 |alloc t=>
  rw[hop]at he;simp only[z3e]at he;split at he
  ·rename_i z d hz hd
   cases he;obtain⟨zv,z1,z2,z3⟩:=z5c hz;rw[hd]at hok ⊢;have hlt:=zc3 hok
   have hnr:s.noRef d=true:=by
    simp only[okDst]at hok;rw[zzk.mpr hlt]at hok;exact hok
   have run:(Instr.alloc t true (.tuple #[])).run E.P w= .ok (.pointer (some ⟨w.heap.size,0,none⟩)) (w.alloc (.cells zv.cells t)):=by
    simp[Instr.alloc,z1,newVar,z5i]
   have hs:=h.newBox (cs:=z) (vs:=zv.cells) hlt hnr t (by rw[←z2];exact z50 G E.V φ w _) z3 (by rw[←z2];exact za7 d _);simp only[zz5,run,zz1,zza];exact⟨_,hs.put hlt (z0h ⟨_,z3w _ _ _,rfl⟩ rfl)⟩
  ·cases he
 |box t x=>
  rw[hop]at he;simp only[z3e]at he;split at he
  ·rename_i y d hx hd
   split at he
   ·rename_i xs hst
    cases he;rw[hd]at hok ⊢;have hlt:=zc3 hok
    have hnr:s.noRef d=true:=by
     simp only[okDst]at hok;rw[zzk.mpr hlt]at hok;exact hok
    obtain⟨g1,g2⟩:=z8u (h.ev hx) hst;have run:(Instr.box t (a.eval x)).run E.P w= .ok (.pointer (some ⟨w.heap.size,0,none⟩)) (w.alloc (.cells (a.eval x).cells t)):=by
     simp[Instr.box,newVar,z5i]
    have hrf:=zlt hnr hx;have hrx:anyB (C.refs d) xs=false:=by
     unfold z7g at hst;split at hst
     ·cases hst
     ·cases hst;have hrf:C.refs d _=false:=hrf
      simp[anyB,hrf]
     ·cases hst;exact hrf
     ·cases hst
    have hs:=h.newBox (vs:=(a.eval x).cells) hlt hnr t g1 g2 hrx;simp only[zz5,run,zz1,zza];exact⟨_,hs.put hlt (z0h ⟨_,z3w _ _ _,rfl⟩ rfl)⟩
   ·cases he
  ·cases he
 |build t parts=>rw[hop]at he;exact z3p h he hc hok fun x c hr _=>zil h hr
 |load t p=>rw[hop]at he;exact z3p h he hc hok fun x c hr hc=>h.load hr hc
 |store t p x=>
  rw[hop]at he;obtain⟨k,c,w',rfl,hr,hs⟩:=h.store he;simp only[zz5,hr,zz1,zza];cases hd:o.dst with
  |none=>exact⟨φ,hs⟩
  |some d=>rw[hd]at hok;exact⟨φ,hs.put (zc3 hok) trivial⟩
 |nilCheck x=>
  rw[hop]at he;obtain⟨z,k,hr,rfl⟩:=z9v he;unfold evNil at hr;split at hr
  ·rename_i kk oo hx
   cases hr;have hv:=h.ev hx
   obtain⟨l,_,e⟩:=hv.1;have:=h.putAt hok rfl hv
   rw[e]at this;simp only[e,zza];exact⟨φ,this⟩
  ·rename_i hx
   cases hr;have hv:=h.ev hx
   obtain⟨l,_,e⟩:=hv.1;have:=h.putAt hok rfl hv
   rw[e]at this;simp only[e,zza];exact⟨φ,this⟩
  ·rename_i hx
   cases hr;have hv:=h.ev hx
   obtain⟨b,off,_,e,_⟩:=hv.1;have:=h.putAt hok rfl hv
   rw[e]at this;simp only[e,zza];exact⟨φ,this⟩
  ·rename_i f caps hx
   cases hr;have hv:=h.ev hx
   have hv1:RelD G w (.fn f caps) (a.eval x):=hv.1;have:=h.putAt hok rfl hv
   dsimp only;generalize a.eval x=u at*;cases hv1 with
   |fn _ _ vs _ _=>exact(show ∃φ',Sim E _ G φ' (a.put o.dst (.func (.func f) #[] vs.toArray)) w from⟨φ,this⟩)
  ·rename_i f n caps hx
   cases hr;have hv:=h.ev hx
   obtain⟨vs,e,_,_⟩:=hv.1;have:=h.putAt hok rfl hv
   rw[e]at this;dsimp only;rw[e];exact(show ∃φ',Sim E _ G φ' (a.put o.dst (.func (.func f) (vs.take n).toArray (vs.drop n).toArray)) w from⟨φ,this⟩)
  ·cases hr
 |binOp op t x y yt=>rw[hop]at he;exact z3p h he hc hok fun z c hr hc=>h.bin hr hc
 |unOp op t x=>rw[hop]at he;exact z3p h he hc hok fun z c hr _=>h.un hr
 |convert p q x=>rw[hop]at he;exact z3p h he hc hok fun z c hr _=>h.convert hr
 |makeFunc fn first caps=>
  rw[hop]at he;cases fn with
  |func f=>
   simp only[z3e]at he;split at he
   ·rename_i ds hf hds
    cases he;obtain⟨c1,c2⟩:=zev h hds;have hfe:first= #[]:=by cases first;simp_all
    subst hfe;have hcaps:caps.map a.eval=(caps.toList.map a.eval).toArray:=by apply Array.ext';simp
    have:=h.putAt (v:= .func (.func f) #[] (caps.map a.eval)) hok rfl (z0h (by rw[hcaps];exact RelD.fn f ds _ (by rw[c1];simp) c2) rfl);simp only[Instr.makeFunc,zz5,zza,zz1,Array.map_empty];exact⟨φ,this⟩
   ·split at he
    ·rename_i ds hds
     cases he;obtain⟨c1,c2⟩:=zcy h hds;have e1:first.map a.eval=(((first.toList++caps.toList).map a.eval).take first.size).toArray:=by
      apply Array.ext';simp
     have e2:caps.map a.eval=(((first.toList++caps.toList).map a.eval).drop first.size).toArray:=by
      apply Array.ext';simp
     have:=h.putAt (x:= .c (.clo f first.size ds)) (v:= .func (.func f) (first.map a.eval) (caps.map a.eval)) hok rfl (z0h ⟨_,by rw[e1,e2],by rw[c1];simp,c2⟩ rfl);simp only[Instr.makeFunc,zz5,zza,zz1];exact⟨φ,this⟩
    ·cases he
  |_=>cases he
 |slice t x lo hi mx=>rw[hop]at he;exact z3p h he hc hok fun z c hr hc=>h.slice hr hc
 |fieldAddr t x f=>rw[hop]at he;exact z3p h he hc hok fun z c hr _=>h.fieldAddr hr
 |field t x f=>rw[hop]at he;exact z3p h he hc hok fun z c hr _=>h.field hr
 |indexAddr t x i=>rw[hop]at he;exact z3p h he hc hok fun z c hr hc=>h.indexAddr hr hc
 |index t x i=>rw[hop]at he;exact z3p h he hc hok fun z c hr hc=>h.index hr hc
 |extract x i=>rw[hop]at he;exact z3p h he hc hok fun z c hr _=>h.extract hr
 |call c=>
  rw[hop]at he;obtain⟨cal,args,ats⟩:=c;simp only[z3e]at he;obtain⟨z,k,hr,rfl⟩:=z9v he;unfold zkj at hr;simp only at hr;split at hr
  ·rename_i x t hargs hts
   obtain⟨v,h1,h2⟩:=h.len (ty:=o.type) hr;have e1:args= #[x]:=by apply Array.ext';exact hargs
   have e2:ats= #[t]:=by apply Array.ext';exact hts
   subst e1 e2;simp only[resolve,zz5,zza,zz1,invoke,builtin];simp[h1];exact⟨φ,h.putAt hok rfl h2⟩
  ·rename_i x y hargs
   obtain⟨v,h1,h2⟩:=h.max (ts:=ats) (ty:=o.type) hr;have e1:args= #[x,y]:=by apply Array.ext';exact hargs
   subst e1;simp only[resolve,zz5,zza,zz1,invoke,builtin];simp[h1];exact⟨φ,h.putAt hok rfl h2⟩
  ·rename_i x y hargs
   obtain⟨v,h1,h2⟩:=h.min (ts:=ats) (ty:=o.type) hr;have e1:args= #[x,y]:=by apply Array.ext';exact hargs
   subst e1;simp only[resolve,zz5,zza,zz1,invoke,builtin];simp[h1];exact⟨φ,h.putAt hok rfl h2⟩
  ·cases hr
 |_=>rw[hop]at he;cases he
end
end Go.Av
/-
 Av,part J:lists of operations,regions,triples.
-/
namespace Go.Av
open Go
section
variable {E:Env} {s:St} {G:Nat→Prop} {φ:Nat→Option Loc} {a:Act} {w:World}
theorem z1o (h:Sim E s G φ a w){ops:Array Oper}{o:Oper}{b:Bool}(hb:z0o ops s o=some b):Region.wanted o (yielded ops a.tmps)=b:=by
 unfold z0o at hb;unfold Region.wanted;cases hg:o.guard with
 |none=>rw[hg]at hb;cases hb;rfl
 |some g=>
  obtain⟨j,want⟩:=g;rw[hg]at hb;simp only at hb ⊢;split at hb
  ·rename_i oj hj
   split at hb
   ·rename_i d hd
    split at hb
    ·rename_i x hx
     cases hb;obtain⟨v,hv,hr⟩:=h.tm _ _ hx;have:=z96 hr
     subst this;simp only[yielded,hj,zz0,hd,hv];cases x<;>cases want<;>rfl
    ·rename_i xs hx
     cases hb;obtain⟨v,hv,hr⟩:=h.tm _ _ hx;obtain⟨vs,rfl,_⟩:=hr;simp only[yielded,hj,zz0,hd,hv];cases want<;>rfl
    ·cases hb
   ·cases hb
  ·cases hb
theorem zfq {o:Oper}{s':St}{r:Result Next}{next:Act→World→Prop}{Q:Exit→Act→World→Prop}(h:Av.Comes E s' G a o.dst r)(hn: ∀a' w',SimE E s' a' w'→next a' w'):
 o.upon E.P a next Q r:=by
 match r,h with
 | .ok (.value v) w',h=>obtain⟨φ',h⟩:=h;exact hn _ _ ⟨G,φ',h⟩
 | .ok .skip w',h=>obtain⟨φ',h⟩:=h;exact hn _ _ ⟨G,φ',h⟩
theorem z7y {ops:Array Oper}: ∀(l:List Oper) {s s':St} {c:Prop} {a:Act} {w:World},za1 E.P E.N ops l s=some (s',c)→c→SimE E s a w→
 ∀(Q:Exit→Act→World→Prop) (rest:List Oper),(∀a' w',SimE E s' a' w'→wpList E.P ops Q rest a' w')→wpList E.P ops Q (l++rest) a w
 |[],s,s',c,a,w,he,_,h,Q,rest,hk=>by cases he;exact hk a w h
 |o::l,s,s',c,a,w,he,hc,h,Q,rest,hk=>by
  obtain⟨G,φ,h⟩:=h;simp only[za1]at he;split at he
  ·rename_i hw
   have hw:=z1o h hw;split at he
   ·rename_i st hst
    split at he
    ·rename_i hok
     split at he
     ·rename_i s2 c2 he2
      cases he;have:=h.step hst hc.1 hok
      show wpList E.P ops Q (o::(l++rest)) a w;unfold wpList;rw[if_pos hw];exact .inl (zfq this fun a' w' h'=>z7y l he2 hc.2 h' Q rest hk)
     ·cases he
    ·cases he
   ·cases he
  ·rename_i hw
   have hw:=z1o h hw;show wpList E.P ops Q (o::(l++rest)) a w;unfold wpList;rw[if_neg (by rw[hw];simp)];split at he
   ·rename_i d hd
    split at he
    ·rename_i hlt
     rw[hd];exact z7y l he hc ⟨G,φ,h.put (x:= .tup []) (v:=undef) (zzk.mp hlt) ⟨#[],rfl,trivial⟩⟩ Q rest hk
    ·cases he
   ·rename_i hd
    rw[hd];exact z7y l he hc ⟨G,φ,h⟩ Q rest hk
  ·cases he
def pickK {α:Type}(l:List (Nat×α)):List Nat→Option (List (Nat×α))
 |[]=>some []
 |k::ks=>match look l k with
  |some x=>match pickK l ks with
   |some r=>some ((k,x)::r)
   |none=>none
  |none=>none
theorem z52 {α:Type}{l r:List (Nat×α)}: ∀{ks:List Nat},pickK l ks=some r→ ∀t x,look r t=some x→look l t=some x:=by
 intro ks;induction ks generalizing r with
 |nil=>intro h t x hx;cases h;cases hx
 |cons k ks ih=>
  intro h t x hx;simp only[pickK]at h;split at h
  ·rename_i y hy
   split at h
   ·rename_i r' hr'
    cases h;rw[z0x]at hx;split at hx
    ·rename_i e;subst e;cases hx;exact hy
    ·exact ih hr' t x hx
   ·cases h
  ·cases h
def keep (tk sk:List Nat)(s:St):Option St:=
 match pickK s.tm tk with
 |some tm=>match pickK s.sl sk with
  |some sl=>some ⟨tm,sl⟩
  |none=>none
 |none=>none
theorem SimE.weaken (h:SimE E s a w){s':St}(ht: ∀t x,look s'.tm t=some x→look s.tm t=some x)(hs: ∀k c,look s'.sl k=some c→look s.sl k=some c):SimE E s' a w:=by
 obtain⟨G,φ,h⟩:=h;exact⟨G,φ,h.weaken ht hs⟩
theorem zby {tk sk:List Nat}{s':St}(hk:keep tk sk s=some s')(h:SimE E s a w):SimE E s' a w:=by
 unfold keep at hk;split at hk
 ·rename_i tm h1
  split at hk
  ·rename_i sl h2
   cases hk;exact h.weaken (z52 h1) (z52 h2)
  ·cases hk
 ·cases hk
def z5z (P:Program)(N:Nat)(ops:Array Oper)(l:List Oper)(tk sk:List Nat)(s:St):Option (St×Prop):=
 match za1 P N ops l s with
 |some (s',c)=>match keep tk sk s' with
  |some s''=>some (s'',c)
  |none=>none
 |none=>none
def Ops (E:Env)(ops:Array Oper)(l:List Oper)(s:St)(K:St→Prop):Prop:=
 ∀a w,SimE E s a w→ ∀(Q:Exit→Act→World→Prop),(∀s' a' w',K s'→SimE E s' a' w'→Q .normal a' w')→wpList E.P ops Q l a w
theorem Ops.nil {ops:Array Oper}{K:St→Prop}(h:K s):Ops E ops [] s K:=fun a w hs _ hQ=>hQ s a w h hs
theorem Ops.seg {ops:Array Oper}{l rest:List Oper}{tk sk:List Nat}{s':St}{c:Prop}{K:St→Prop}(he:z5z E.P E.N ops l tk sk s=some (s',c))(hc:c)
 (h:Ops E ops rest s' K):Ops E ops (l++rest) s K:=fun a w hs Q hQ=>by
 unfold z5z at he;split at he
 ·rename_i s1 c1 h1
  split at he
  ·rename_i s2 h2
   cases he;exact z7y l h1 hc hs Q rest fun a' w' hs'=>h a' w' (zby h2 hs') Q hQ
  ·cases he
 ·cases he
theorem Ops.weaken {ops:Array Oper}{l:List Oper}{K K':St→Prop}(h:Ops E ops l s K)(hk: ∀s,K s→K' s):Ops E ops l s K':=
 fun a w hs Q hQ=>h a w hs Q fun s' a' w' k=>hQ s' a' w' (hk s' k)
def Env.fence (E:Env):Fence:={Fence.wide with round:=E.rd}
def opDef:Op→Bool
 | .defer _=>true
 |_=>false
def calmC:Code→Bool
 | .region _ ops _=> !(anyB (fun o:Oper=>opDef o.op) ops.toList)
 | .seq a b=>calmC a && calmC b
 | .cond _ a b=>calmC a && calmC b
 | .block _ c=>calmC c
 | .loop c=>calmC c
 | .rangeFunc ..=>false
 | .scope _=>false
 |_=>true
theorem zhy {n:Nat}{P:Program}{row:String}{args:Array Go.Value}{w:World}{R:Go.Value→World→Prop}(h:Rows P row args w R):RowsIn Fence.wide n P row args w R:=fun c cs _=>by
 obtain⟨v,w',r,s⟩:=h c cs;exact⟨v,w',r,stepsIn_wide.2 s⟩
theorem op_in {r:Option Nat}{P:Program}{o:Oper}{a:Act}{w:World}{next next':Act→World→Prop}{Q:Exit→Act→World→Prop}(hd:opDef o.op=false)(hn: ∀a w,next a w→next' a w)(hq: ¬LetsOut Q)(h:o.wp P a w next Q):
 o.wpIn {Fence.wide with round:=r} 3 P a w next' Q:=by
 refine⟨fun _ _=>trivial,?_⟩;rw[Oper.semAt_eq _ _ _ (fun c e=>by rw[e]at hd;cases hd)];unfold Oper.wp at h
 revert h
 generalize (execOp a.eval o).run P w=x;intro h
 match x,h with
 | .ok (.value v) w',h=>exact hn _ _ h
 | .ok .skip w',h=>exact hn _ _ h
 | .ok (.defer d) w',h=>exact hn _ _ h
 | .ok (.enter f args) w',h=>
  refine⟨fun e=>(by cases e),?_⟩;show CallsIn Fence.wide (3-1) P f args w' _;refine callsIn_wide.2 (Calls.mono h fun e w'' he=>?_);cases e with
  |returned v=>exact hn _ _ he
  |panicked c=>exact he
  |outgrown=>exact he
 | .ok (.row row args) w',h=>
  refine⟨fun e=>(by cases e),?_⟩;have h2:RowsIn Fence.wide (3-1) P row args w' _:=zhy (Rows.mono h fun v w'' he=>hn _ _ he)
  exact h2
 | .halt (.panic v) w',h=>exact h
theorem zdn {r:Option Nat}{P:Program}{ops:Array Oper}{Q:Exit→Act→World→Prop}(hq: ¬LetsOut Q): ∀(l:List Oper) {a:Act} {w:World},anyB (fun o:Oper=>opDef o.op) l=false→wpList P ops Q l a w→wpListIn {Fence.wide with round:=r} 3 P ops Q l a w
 |[],_,_,_,h=>h
 |o::l,a,w,hd,h=>by
  have h1:opDef o.op=false:=z1t hd o (zz3 ..);have h2:anyB (fun o:Oper=>opDef o.op) l=false:=by
   simp only[anyB,h1]at hd;exact hd
  unfold wpList at h;unfold wpListIn;split at h
  ·rename_i hw
   rw[if_pos hw];rcases h with h|⟨_,h⟩
   ·exact op_in h1 (fun a w=>zdn hq l h2) hq h
   ·exact absurd h hq
  ·rename_i hw
   rw[if_neg hw];exact⟨fun _ _=>trivial,zdn hq l h2 h⟩
theorem zcd {r:Option Nat}{P:Program}{md:Region.Mode}{ops:Array Oper}{Q:Exit→Act→World→Prop}(hq: ¬LetsOut Q)(hd:anyB (fun o:Oper=>opDef o.op) ops.toList=false): ∀(fuel:Nat) {listed:Array Bool} {a:Act} {w:World},wpAny P md ops Q fuel listed a w→wpAnyIn {Fence.wide with round:=r} 3 P md ops Q fuel listed a w
 |0,_,_,_,h=>h
 |fuel+1,listed,a,w,h=>by
  refine⟨h.1,fun i hi=>?_⟩;have h2:=h.2 i hi
  unfold wpOp at h2;unfold wpOpIn;cases ho:ops[i]? with
  |none=>rw[ho]at h2;exact zcd hq hd fuel h2
  |some o=>
   rw[ho]at h2;simp only at h2 ⊢;have h1:opDef o.op=false:=z1t hd o (Array.mem_toList_iff.2 (Array.mem_of_getElem? ho))
   split at h2
   ·rename_i hw
    rw[if_pos hw];rcases h2 with h2|⟨_,h2⟩
    ·exact op_in h1 (fun a w=>zcd hq hd fuel) hq h2
    ·exact absurd h2 hq
   ·rename_i hw
    rw[if_neg hw];exact⟨fun _ _=>trivial,zcd hq hd fuel h2⟩
theorem zh1 {E:Env}{id:Nat}{l:List Oper}{Q:Act→World→Prop}{a:Act}{w:World}(hc:E.rd=none∨calmC (Code.region id l.toArray true)=true)(hm:E.P.follows .mixedOrders=true)
 (h:wpAny E.P .any l.toArray (fun e a w=>e= .normal∧Q a w) l.toArray.size (Array.replicate l.toArray.size false) a {w with drawn:=w.drawn+1}):(Code.region id l.toArray true).wpIn E.fence 3 E.P (fun e a w=>e= .normal∧Q a w) a w:=by
 rcases hc with hc|hc
 ·have e:E.fence=Fence.wide:=by unfold Env.fence;rw[hc];rfl
  rw[e];exact wpIn_wide.2 (wp_region_any hm h)
 ·have h2:anyB (fun o:Oper=>opDef o.op) l=false:=by
   simp only[calmC]at hc;cases e:anyB (fun o:Oper=>opDef o.op) l with
   |false=>rfl
   |true=>rw[e]at hc;cases hc
  exact wpIn_region_any hm (zcd (fun h=>by obtain⟨_,_,e,_⟩:=h;cases e) h2 _ h)
def Tri (E:Env)(c:Code)(s:St)(post:Exit→St→Prop):Prop:=
 ∀a w,SimE E s a w→(E.rd=none∨calmC c=true)→c.wpIn E.fence 3 E.P (fun e a' w'=> ∃s',post e s'∧SimE E s' a' w') a w
def thenT (K:St→Prop)(post:Exit→St→Prop):Exit→St→Prop
 | .normal,s=>K s
 |e,s=>post e s
def inB (id:Nat)(post:Exit→St→Prop):Exit→St→Prop
 | .exit id',s=>if id'=id then post .normal s else post (.exit id') s
 |e,s=>post e s
theorem Tri.skip {post:Exit→St→Prop}(h:post .normal s):Tri E .skip s post:=fun _ _ hs _=>wpIn_skip ⟨s,h,hs⟩
theorem Tri.ret {post:Exit→St→Prop}(h:post .ret s):Tri E .ret s post:=fun _ _ hs _=>wpIn_ret ⟨s,h,hs⟩
theorem Tri.exit {post:Exit→St→Prop}{id:Nat}(h:post (.exit id) s):Tri E (.exit id) s post:=fun _ _ hs _=>wpIn_exit ⟨s,h,hs⟩
theorem Tri.label {post:Exit→St→Prop}{l:Nat}(h:post .normal s):Tri E (.label l) s post:=fun _ _ hs _=>wpIn_label ⟨s,h,hs⟩
def noGo (post:Exit→St→Prop):Exit→St→Prop
 | .goto _,_=>False
 |e,s=>post e s
theorem Tri.scope {post:Exit→St→Prop}{c:Code}(h:Tri E c s (noGo post)):Tri E (.scope c) s post:=fun a w hs hc=>by
 have hr:E.rd=none:=hc.resolve_right (by simp[calmC]);have e:E.fence=Fence.wide:=by unfold Env.fence;rw[hr];rfl
 have h1:=h a w hs (.inl hr);rw[e]at h1 ⊢;refine wpIn_wide.2 (wp_scope_straight (wp_mono (wpIn_wide.1 h1) fun e a' w' ⟨s',p,h'⟩=>?_));cases e with
 |goto l=>exact p
 |_=>exact⟨s',p,h'⟩
theorem Tri.mono {post post':Exit→St→Prop}{c:Code}(h:Tri E c s post)(hp: ∀e s,post e s→post' e s):Tri E c s post':=
 fun a w hs hc=>wpIn_mono (h a w hs hc) fun e _ _ ⟨s',p,h'⟩=>⟨s',hp e s' p,h'⟩
theorem Tri.seq {post:Exit→St→Prop}{x y:Code}(h:Tri E x s (thenT (fun s'=>Tri E y s' post) post)):Tri E (.seq x y) s post:=fun a w hs hc=>
 wpIn_seq (wpIn_mono (h a w hs (hc.imp id fun h=>by simp only[calmC,Bool.and_eq_true]at h;exact h.1)) fun e a' w' ⟨s',p,h'⟩=>by
  cases e with
  |normal=>exact p a' w' h' (hc.imp id fun h=>by simp only[calmC,Bool.and_eq_true]at h;exact h.2)
  |_=>exact⟨s',p,h'⟩)
theorem Tri.block {post:Exit→St→Prop}{id:Nat}{c:Code}(h:Tri E c s (inB id post)):Tri E (.block id c) s post:=fun a w hs hc=>
 wpIn_block (wpIn_mono (h a w hs hc) fun e _ _ ⟨s',p,h'⟩=>by
  cases e with
  |exit id'=>
   simp only[Exit.inBlock];by_cases e:id'=id
   ·simp only[inB,if_pos e]at p;rw[if_pos e];exact⟨s',p,h'⟩
   ·simp only[inB,if_neg e]at p;rw[if_neg e];exact⟨s',p,h'⟩
  |_=>exact⟨s',p,h'⟩)
theorem Tri.cond {post:Exit→St→Prop}{c:Operand}{x y:Code}{b:Bool}(hb:evO s c=some (.c (.d (.bool b)))) (ht:b=true→Tri E x s post) (hf:b=false→Tri E y s post):
 Tri E (.cond c x y) s post:=fun a w hs hc=>by
 have hv:a.eval c= .bool b:=by obtain⟨G,φ,h⟩:=hs;exact z96 (h.ev hb)
 exact wpIn_cond_split hv (fun e=>ht e a w hs (hc.imp id fun h=>by simp only[calmC,Bool.and_eq_true]at h;exact h.1)) fun e=>hf e a w hs (hc.imp id fun h=>by simp only[calmC,Bool.and_eq_true]at h;exact h.2)
theorem Tri.region {post:Exit→St→Prop}{id:Nat}{l:List Oper}(h:Ops E l.toArray l s (post .normal)):Tri E (.region id l.toArray false) s post:=fun a w hs hc=>by
 rcases hc with hc|hc
 ·have e:E.fence=Fence.wide:=by unfold Env.fence;rw[hc];rfl
  rw[e];exact wpIn_wide.2 (wp_region_list (h a w hs _ fun s' _ _ k h'=>⟨s',k,h'⟩))
 ·have h1:=h a w hs (fun e a' w'=>e= .normal∧ ∃s',post .normal s'∧SimE E s' a' w') fun s' _ _ k h'=>⟨rfl,s',k,h'⟩;have h2:anyB (fun o:Oper=>opDef o.op) l=false:=by
   simp only[calmC]at hc;cases e:anyB (fun o:Oper=>opDef o.op) l with
   |false=>rfl
   |true=>rw[e]at hc;cases hc
  exact wpIn_mono (wpIn_region_list (zdn (fun h=>by obtain⟨_,_,e,_⟩:=h;cases e) l h2 h1)) fun e _ _ ⟨he,h⟩=>by subst he;exact h
theorem Tri.weaken {post:Exit→St→Prop}{c:Code}{s':St}(hs: ∀a w,SimE E s a w→SimE E s' a w)(h:Tri E c s' post):Tri E c s post:=fun a w h' hc=>h a w (hs a w h') hc
theorem zed {F:Fence}{k:Nat}{P:Program}{c:Code}{Q:Exit→Act→World→Prop}: ∀(m n:Nat),m≤n→ ∀a w,Code.roundsIn F k P c Q m a w→Code.roundsIn F k P c Q n a w
 |0,_,_,_,_,h=>h.elim
 |m+1,0,h,_,_,_=>absurd h (by omega)
 |m+1,n+1,h,a,w,hr=>wpIn_mono (show c.wpIn F k P (Exit.then (Code.roundsIn F k P c Q m) Q) a w from hr) fun e a₁ w₁ q=>by
  cases e with
  |normal=>exact zed m n (by omega) a₁ w₁ q
  |_=>exact q
theorem Tri.loop {post:Exit→St→Prop}{c:Code}(J:Nat→St→Prop)(round: ∀n s,J n s→Tri E c s (thenT (fun s'=> ∃m,m<n∧J m s') post)){n:Nat}(h0:J n s):
 Tri E (.loop c) s post:=fun a w hs hc=>by
 have key: ∀n,∀s,J n s→ ∀a w,SimE E s a w→Code.roundsIn E.fence 3 E.P c (fun e a' w'=> ∃s',post e s'∧SimE E s' a' w') (n+1) a w:=by
  intro n;induction n using Nat.strongRecOn with
  |_ n ih=>
   intro s hJ a w hs;refine wpIn_mono (round n s hJ a w hs hc) fun e a' w' ⟨s',p,h'⟩=>?_;cases e with
   |normal=>
    obtain⟨m,hm,hJ'⟩:=p;exact zed (m+1) n (by omega) a' w' (ih m hm s' hJ' a' w' h')
   |_=>exact⟨s',p,h'⟩
 exact wpIn_loop_rounds (n+1) (key n s h0 a w hs)
end
end Go.Av
/-
 Av,part K:less is known;what is one's own is handed over for good.
-/
namespace Go.Av
open Go
inductive CLe (s:St) (fz:List Nat):C→C→Prop
 |refl (c:C):CLe s fz c c
 |any (c:C):CLe s fz c .any
 |zero (es:Nat) (get:Nat→List D):CLe s fz .zero (.d (.list es 0 get))
 |zeroV (es:Nat) (get:Nat→List D):CLe s fz .zero (.view es 0 get)
 |list {es n n':Nat} {get get':Nat→List D} (hn:n'=n) (h: ∀i,i<n→get' i=get i):CLe s fz (.d (.list es n get)) (.d (.list es n' get'))
 |listV {es n n':Nat} {get get':Nat→List D} (hn:n'=n) (h: ∀i,i<n→get' i=get i):CLe s fz (.d (.list es n get)) (.view es n' get')
 |view {es n n':Nat} {get get':Nat→List D} (hn:n'=n) (h: ∀i,i<n→get' i=get i):CLe s fz (.view es n get) (.view es n' get')
 |own {k es off m m' n:Nat} {get get':Nat→List D} (hk:look s.sl k=some (.vec es n get)) (hf:k∈fz) (hm:off+m≤n) (hm':m'=m)
  (h: ∀i,i<m→get' i=get (off+i)):CLe s fz (.own k es off m) (.d (.list es m' get'))
 |cptrE (cells:List D):CLe s fz (.d (.cptr cells)) (.eptr cells)
 |box {k o:Nat} {ds:List D} (hk:look s.sl k=some (.box (ds.map .d))) (hf:k∈fz):CLe s fz (.ptr k o) (.d (.cptr (ds.drop o)))
inductive CsLe (s:St) (fz:List Nat):List C→List C→Prop
 |refl (cs:List C):CsLe s fz cs cs
 |nil:CsLe s fz [] []
 |cons {c c':C} {cs cs':List C} (h:CLe s fz c c') (t:CsLe s fz cs cs'):CsLe s fz (c::cs) (c'::cs')
inductive SsLe (s:St) (fz:List Nat):List (Bool×List C)→List (Bool×List C)→Prop
 |nil:SsLe s fz [] []
 |cons {b:Bool} {cs cs':List C} {r r':List (Bool×List C)} (h:CsLe s fz cs cs') (t:SsLe s fz r r'):SsLe s fz ((b,cs)::r) ((b,cs')::r')
inductive AVLe (s:St) (fz:List Nat):AV→AV→Prop
 |refl (x:AV):AVLe s fz x x
 |none (x:AV):AVLe s fz x (.c .any)
 |c {x y:C} (h:CLe s fz x y):AVLe s fz (.c x) (.c y)
 |agg {xs ys:List C} (h:CsLe s fz xs ys):AVLe s fz (.agg xs) (.agg ys)
 |tup {xs ys:List (Bool×List C)} (h:SsLe s fz xs ys):AVLe s fz (.tup xs) (.tup ys)
inductive SlotLe (s:St) (fz:List Nat):Slot→Slot→Prop
 |refl (c:Slot):SlotLe s fz c c
 |box {xs ys:List C} (h:CsLe s fz xs ys):SlotLe s fz (.box xs) (.box ys)
 |vec {es n n':Nat} {get get':Nat→List D} (hn:n'=n) (h: ∀i,i<n→get' i=get i):SlotLe s fz (.vec es n get) (.vec es n' get')
 |take {es n n':Nat} {get get':Nat→List D} (hn:n'≤n) (h: ∀i,i<n'→get' i=get i):SlotLe s fz (.vec es n get) (.vec es n' get')
def LeT (s:St)(fz:List Nat):List (Nat×AV)→Prop
 |[]=>True
 |(t,x')::r=>(∃x,look s.tm t=some x∧AVLe s fz x x')∧LeT s fz r
def LeS (s:St)(fz:List Nat):List (Nat×Slot)→Prop
 |[]=>True
 |(k,c')::r=>(∃c,look s.sl k=some c∧SlotLe s fz c c'∧k∉fz)∧LeS s fz r
theorem LeT.look {s:St}{fz:List Nat}: ∀{l:List (Nat×AV)},LeT s fz l→ ∀t x',look l t=some x'→ ∃x,Av.look s.tm t=some x∧AVLe s fz x x'
 |[],_,t,x',h=>by cases h
 |(t0,x0)::r,⟨h1,h2⟩,t,x',h=>by
  rw[z0x]at h;split at h
  ·rename_i e;subst e;cases h;exact h1
  ·exact LeT.look h2 t x' h
theorem LeS.look {s:St}{fz:List Nat}: ∀{l:List (Nat×Slot)},LeS s fz l→ ∀k c',look l k=some c'→ ∃c,Av.look s.sl k=some c∧SlotLe s fz c c'∧k∉fz
 |[],_,t,x',h=>by cases h
 |(t0,x0)::r,⟨h1,h2⟩,t,x',h=>by
  rw[z0x]at h;split at h
  ·rename_i e;subst e;cases h;exact h1
  ·exact LeS.look h2 t x' h
section
variable {E:Env} {s:St} {G:Nat→Prop} {φ:Nat→Option Loc} {a:Act} {w:World}
def withF (s:St)(φ:Nat→Option Loc)(fz:List Nat)(G:Nat→Prop):Nat→Prop:=
 fun b=>G b∨ ∃k c l,k∈fz∧look s.sl k=some c∧φ k=some l∧b=l.blk
theorem zgn {G V:Nat→Prop}{es n n':Nat}{get get':Nat→List D}{v:Value}(hn:n'=n)(h: ∀i,i<n→get' i=get i)(hv:RelC G V φ w (.view es n get) v):RelC G V φ w (.view es n' get') v:=by
 subst hn;rcases hv with hv|⟨b,off,cap,hb,hv,h1,h2,he⟩
 ·exact .inl hv
 ·exact .inr ⟨b,off,cap,hb,hv,h1,h2,fun i hi=>by rw[h i hi];exact he i hi⟩
theorem zia {V:Nat→Prop}{es n:Nat}{get:Nat→List D}{v:Value}(h:RelD G w (.list es n get) v):RelC G V φ w (.view es n get) v:=by
 rcases RelD.elems h with⟨h0,h⟩|⟨b,off,cap,hb,h⟩
 ·exact .inl ⟨h0,h⟩
 ·exact .inr ⟨b,off,cap,.inl hb,h⟩
theorem CLe.rel (h:Sim E s G φ a w){fz:List Nat}{c c':C}(hc:CLe s fz c c'){v:Value}(hv:RelC G E.V φ w c v):RelC (withF s φ fz G) E.V φ w c' v:=by
 have up: ∀c,RelC G E.V φ w c v→RelC (withF s φ fz G) E.V φ w c v:=fun c hv=>hv.mono (Same.refl _ _) (Same.refl _ _) (fun _ hb=> .inl hb) fun _ _=>rfl;cases hc with
 |refl=>exact up _ hv
 |any=>trivial
 |zero es get=>obtain⟨A,rfl⟩:=hv;exact RelD.empty _ _ _ _
 |zeroV es get=>obtain⟨A,rfl⟩:=hv;exact .inl ⟨rfl,_,_,rfl⟩
 |list hn hg=>subst hn;exact zaj (up _ hv) hg
 |listV hn hg=>exact zgn hn hg (up _ (zia (φ:=φ) hv))
 |view hn hg=>exact zgn hn hg (up _ hv)
 |own hk hf hm hm' hg=>
  subst hm';rcases hv with⟨h0,A,rfl⟩|⟨l,hl,hle,rfl⟩
  ·subst h0;exact RelD.empty _ _ _ _
  ·obtain⟨hmx,hs|⟨l',hl',hn,_,he⟩⟩:=h.sl _ _ hk
   ·rw[hl]at hs;cases hs.1
   ·rw[hl]at hl';cases hl';refine zaj (z3i.relD (.inr ⟨_,_,l,hf,hk,hl,rfl⟩) (by omega) (by omega) ?_) hg;exact(he.part (l:=_) (m:=_) hm).mono (Same.refl _ _) (fun _ hb=> .inl hb) rfl
 |cptrE cells=>
  have hv:RelD G w (.cptr cells) v:=hv;cases hv with
  |cptr _ b off vals hG hc hr=>exact⟨b,off,.inl (.inl hG),rfl,fun j hj=>⟨vals j,hc j hj,(hr j hj).mono (Same.refl _ _) fun _ hb=> .inl hb⟩⟩
 | @box k o ds hk hf=>
  obtain⟨l,hl,rfl⟩:=hv;obtain⟨l',hl',_,vs,h1,h2,h3⟩:=h.sl _ _ hk;rw[hl]at hl';cases hl';have hlen:=h1.length
  simp only[List.length_map]at hlen;refine RelD.cptr (ds.drop o) l.blk (l.off+o) (fun j=>vs.getD (o+j) undef) (.inr ⟨_,_,l,hf,hk,hl,rfl⟩) (fun j hj=>?_) (fun j hj=>?_)
  ·simp only[zzc]at hj;have:vs[o+j]?=some (vs.getD (o+j) undef):=by rw[List.getD_eq_getElem?_getD,List.getElem?_eq_getElem (by omega)];rfl
   rw[Nat.add_assoc];exact h3 (o+j) _ this
  ·simp only[zzc]at hj;obtain⟨u,hu,hr⟩:=h1.get (o+j) (.d (D.at (ds.drop o) j)) (by
    rw[List.getElem?_map,List.getElem?_eq_getElem (by omega)];simp[D.at,List.getD_eq_getElem?_getD,List.getElem?_eq_getElem (show o+j<ds.length by omega)])
   have:vs.getD (o+j) undef=u:=by rw[List.getD_eq_getElem?_getD,hu];rfl
   rw[this];exact RelD.mono (Same.refl _ _) (fun _ hb=> .inl hb) hr
theorem CsLe.rel (h:Sim E s G φ a w){fz:List Nat}{cs cs':List C}(hc:CsLe s fz cs cs'): ∀{vs:List Value},RelCs (RelC G E.V φ w) cs vs→RelCs (RelC (withF s φ fz G) E.V φ w) cs' vs:=by
 induction hc with
 |refl cs=>intro vs hv;exact hv.mono fun c _ v hc=>CLe.rel h (.refl c) hc
 |nil=>intro vs hv;cases vs with|nil=>trivial|cons _ _=>exact hv.elim
 |cons hc _ ih=>
  intro vs hv;cases vs with
  |nil=>exact hv.elim
  |cons v vs=>exact⟨CLe.rel h hc hv.1,ih hv.2⟩
theorem CsLe.one {fz:List Nat}{c:C}{cs':List C}(hc:CsLe s fz [c] cs'): ∃c',cs'=[c']∧CLe s fz c c':=by
 cases hc with
 |refl=>exact⟨c,rfl,.refl c⟩
 |cons h t=>
  cases t with
  |refl=>exact⟨_,rfl,h⟩
  |nil=>exact⟨_,rfl,h⟩
theorem SsLe.rel (h:Sim E s G φ a w){fz:List Nat}{xs xs':List (Bool×List C)}(hc:SsLe s fz xs xs'): ∀{vs:List Value},RelSs (RelC G E.V φ w) xs vs→RelSs (RelC (withF s φ fz G) E.V φ w) xs' vs:=by
 induction hc with
 |nil=>intro vs hv;cases vs with|nil=>trivial|cons _ _=>exact hv.elim
 | @cons b cs cs' r r' hc _ ih=>
  intro vs hv;cases vs with
  |nil=>exact hv.elim
  |cons v vs=>
   refine⟨?_,ih hv.2⟩;cases b with
   |true=>obtain⟨us,e,h1,h2⟩:=hv.1;exact⟨us,e,hc.rel h h1,h2⟩
   |false=>
    have h1:=hv.1
    match cs,h1,hc with
    |[c],h1,hc=>
     obtain⟨c',rfl,hc'⟩:=hc.one;exact⟨CLe.rel h hc' h1.1,h1.2⟩
    |[],h1,_=>exact h1.elim
    |_::_::_,h1,_=>exact h1.elim
theorem AVLe.rel (h:Sim E s G φ a w){fz:List Nat}{x x':AV}(hx:AVLe s fz x x'){v:Value}(hv:RAV E G φ w x v):RelAV (RelC (withF s φ fz G) E.V φ w) x' v:=by
 cases hx with
 |refl=>exact hv.mono fun c _ v hc=>CLe.rel h (.refl c) hc
 |none=>trivial
 | @c p q hc=>
  by_cases e:p= .any
  ·subst e;cases hc<;>trivial
  ·obtain⟨h1,h2⟩:=z4o hv e;exact z0h (hc.rel h h1) h2
 |agg hc=>obtain⟨us,e,h1,h2⟩:=hv;exact⟨us,e,hc.rel h h1,h2⟩
 |tup hc=>obtain⟨us,e,h1⟩:=hv;exact⟨us,e,hc.rel h h1⟩
theorem zm9 (h:Sim E s G φ a w){fz:List Nat}{b:Nat}(hb:withF s φ fz G b):b<w.heap.size:=by
 rcases hb with hb|⟨k,c,l,_,hk,hl,rfl⟩
 ·exact h.gsz b hb
 ·exact(h.own k c l hk hl).2.2.1
theorem Sim.le (h:Sim E s G φ a w){fz:List Nat}(hfz: ∀k∈fz,k∉E.lk){s':St}(ht:LeT s fz s'.tm)(hs:LeS s fz s'.sl):Sim E s' (withF s φ fz G) φ a w:=
 {h with
  tm:=fun t x' hx=>by
   obtain⟨x,hx,hl⟩:=ht.look t x' hx;obtain⟨v,hv,hr⟩:=h.tm t x hx;exact⟨v,hv,hl.rel h hr⟩
  sl:=fun k c' hc'=>by
   obtain⟨c,hc,hl,_⟩:=hs.look k c' hc';have up:=(h.sl k c hc).mono (G':=withF s φ fz G) (φ':=φ) (w':=w) (Same.refl _ _) (Same.refl _ _) (fun _ hb=> .inl hb) rfl (fun _ _=>rfl) fun _ _=>rfl
   cases hl with
   |refl=>exact up
   |box hcs=>
    obtain⟨l,hl,ht,vs,h1,h2,h3⟩:=h.sl _ _ hc;have:=hcs.rel h h1
    refine⟨l,hl,?_,vs,this,h2,h3⟩;rw[this.length,←h1.length];exact ht
   |vec hn hg=>
    subst hn;refine⟨up.1,up.2.imp id fun⟨l,hl,hn,ht,he⟩=>⟨l,hl,hn,ht,fun i hi=>by rw[hg i hi];exact he i hi⟩⟩
   |take hn hg=>
    exact⟨Nat.le_trans hn up.1,up.2.imp (fun h=>⟨h.1,by omega⟩) fun⟨l,hl,hn',ht,he⟩=>⟨l,hl,Nat.le_trans hn hn',ht,fun i hi=>by rw[hg i hi];exact he i (by omega)⟩⟩
  inj:=fun k k' c c' l l' h1 h2=>by
   obtain⟨_,h1,_⟩:=hs.look _ _ h1;obtain⟨_,h2,_⟩:=hs.look _ _ h2;exact h.inj _ _ _ _ _ _ h1 h2
  own:=fun k c l h1 h2=>by
   obtain⟨c0,h1,_,hnf⟩:=hs.look _ _ h1;obtain⟨o1,o2,o3,o4⟩:=h.own k c0 l h1 h2;refine⟨?_,o2,o3,o4⟩;rintro(hg|⟨k',c',l',hf,hk',hl',e⟩)
   ·exact o1 hg
   ·have:=h.inj _ _ _ _ _ _ h1 hk' h2 hl' e;subst this;exact hnf hf
  gsz:=fun b hb=>zm9 h hb
  g0:=fun b hb=> .inl (h.g0 b hb)
  gf:=fun b hb=>by
   rcases hb with hb|⟨k,c,l,hf,hk,hl,rfl⟩
   ·exact h.gf b hb
   ·rcases(h.own k c l hk hl).2.2.2 with h1|⟨h1,_⟩
    ·exact .inr h1
    ·exact absurd h1 (hfz k hf)
  fix:=fun k c' hx h1=>by
   obtain⟨_,h1,_⟩:=hs.look _ _ h1;exact h.fix _ _ hx h1}
theorem SimE.le (h:SimE E s a w)(fz:List Nat)(hfz: ∀k∈fz,k∉E.lk){s':St}(ht:LeT s fz s'.tm)(hs:LeS s fz s'.sl):SimE E s' a w:=by
 obtain⟨G,φ,h⟩:=h;exact⟨_,φ,h.le hfz ht hs⟩
theorem Tri.le {post:Exit→St→Prop}{c:Code}(fz:List Nat)(hfz: ∀k∈fz,k∉E.lk)(s':St)(ht:LeT s fz s'.tm)(hs:LeS s fz s'.sl)(h:Tri E c s' post):Tri E c s post:=
 Tri.weaken (fun _ _ h=>h.le fz hfz ht hs) h
theorem Ops.le {ops:Array Oper}{l:List Oper}{K:St→Prop}(fz:List Nat)(hfz: ∀k∈fz,k∉E.lk)(s':St)(ht:LeT s fz s'.tm)(hs:LeS s fz s'.sl)(h:Ops E ops l s' K):Ops E ops l s K:=
 fun a w hs' Q hQ=>h a w (hs'.le fz hfz ht hs) Q hQ
end
end Go.Av
/-
 Av,part L:what a function does,and calls.
-/
namespace Go.Av
open Go
structure SlotsOk (G V:Nat→Prop) (φ:Nat→Option Loc) (w:World) (sl:List (Nat×Slot)):Prop where
 rel: ∀k c,look sl k=some c→z4j G V φ w k c
 inj: ∀k k' c c' l l',look sl k=some c→look sl k'=some c'→φ k=some l→φ k'=some l'→l.blk=l'.blk→k=k'
 own: ∀k c l,look sl k=some c→φ k=some l→ ¬G l.blk∧l.blk<w.heap.size
def Blks (φ:Nat→Option Loc)(sl:List (Nat×Slot)):Nat→Prop:=fun b=> ∃k c l,look sl k=some c∧φ k=some l∧b=l.blk
def Acts (P:Program)(f:FuncId)(vs:Array Value)(w:World)(R:Ending→World→Prop):Prop:=
 match(callFunc f vs).run P w with
 | .ok (.enter f' vs') w'=>Calls P f' vs' w' R
 | .ok (.value v) w'=>R (.returned v) w'
 |_=>False
def z1p (R:C→Value→Prop):List AV→List Value→Prop
 |[],[]=>True
 |x::xs,v::vs=>RelAV R x v∧z1p R xs vs
 |_,_=>False
structure Done (G:Nat→Prop) (φ:Nat→Option Loc) (sl:List (Nat×Slot)) (res:AV) (sl':List (Nat×Slot)) (w w':World) (v:Value) (G':Nat→Prop) (φ':Nat→Option Loc):Prop where
 up: ∀b,G b→G' b
 fr: ∀b,G' b→G b∨w.heap.size≤b
 sz: ∀b,G' b→b<w'.heap.size
 rel:RelAV (RelC G' (fun _=>False) φ' w') res v
 slots:SlotsOk G' (fun _=>False) φ' w' sl'
 blk: ∀k c l,look sl' k=some c→φ' k=some l→Blks φ sl l.blk∨w.heap.size≤l.blk
 kp:Keep w.heap.size (Blks φ sl) w w'
 fix: ∀k c c',look sl k=some c→look sl' k=some c'→φ' k=φ k
def Summ (P:Program)(f:FuncId)(args:List AV)(sl:List (Nat×Slot))(res:AV)(sl':List (Nat×Slot)):Prop:=
 ∀(G:Nat→Prop) (φ:Nat→Option Loc) (w:World) (vs:List Value),(∀b,G b→b<w.heap.size)→SlotsOk G (fun b=>b<w.heap.size∧ ¬Blks φ sl b) φ w sl→
  z1p (RelC G (fun b=>b<w.heap.size∧ ¬Blks φ sl b) φ w) args vs→
  Acts P f vs.toArray w fun e w'=> ∃v G' φ',e= .returned v∧Done G φ sl res sl' w w' v G' φ'
def zf1 (P:Program)(s:St):ResultVar→Option ((Bool×List C)×Prop)
 | .tmp t=>match look s.tm t with
  |some (.c .any)=>none
  |some (.c x)=>some ((false,[x]),True)
  |some (.agg xs)=>some ((true,xs),True)
  |_=>none
 | .cell t ty=>match z7r P s ty (look s.tm t)with
  |some (.c .any,_)=>none
  |some (.c x,c)=>some ((false,[x]),c)
  |some (.agg xs,c)=>some ((true,xs),c)
  |_=>none
def evRes (P:Program)(s:St):List ResultVar→Option (List (Bool×List C)×Prop)
 |[]=>some ([],True)
 |r::rs=>match zf1 P s r with
  |some (x,c)=>match evRes P s rs with
   |some (xs,c')=>some (x::xs,c∧c')
   |none=>none
  |none=>none
def resAV:List (Bool×List C)→AV
 |[(false,[x])]=> .c x
 |[(true,xs)]=> .agg xs
 |l=> .tup l
def C.clean:C→Bool
 | .d _=>true
 | .zero=>true
 | .any=>true
 | .own _ _ _ _=>true
 | .ptr _ _=>true
 | .raw _=>true
 |_=>false
def AV.clean:AV→Bool
 | .c x=>x.clean
 | .agg xs=>match anyB (fun x=> !C.clean x) xs with|true=>false|false=>true
 | .tup vs=>match anyB (fun p:Bool×List C=>anyB (fun x=> !C.clean x) p.2) vs with|true=>false|false=>true
def Slot.clean:Slot→Bool
 | .box cs=>match anyB (fun x=> !C.clean x) cs with|true=>false|false=>true
 | .vec _ _ _=>true
def params:Nat→List AV→List (Nat×AV)
 |_,[]=>[]
 |i,x::xs=>(i,x)::params (i+1) xs
def RetAt (P:Program)(fn:Func)(res:AV)(sl':List (Nat×Slot))(s:St):Prop:=
 ∃l c,evRes P s fn.results.toList=some (l,c)∧c∧resAV l=res∧res.clean=true∧ ∀k c,look sl' k=some c→look s.sl k=some c∧c.clean=true
def ziv (P:Program)(fn:Func)(res:AV)(sl':List (Nat×Slot)):Exit→St→Prop
 | .normal,s=>RetAt P fn res sl' s
 | .ret,s=>RetAt P fn res sl' s
 |_,_=>False
section
variable {E:Env} {s:St} {G:Nat→Prop} {φ:Nat→Option Loc} {a:Act} {w:World}
theorem C.clean_rel {V V':Nat→Prop}{x:C}{v:Value}(hx:x.clean=true)(h:RelC G V φ w x v):RelC G V' φ w x v:=by
 cases x<;>first|exact h|cases hx
theorem zfs {x:AV}(h:x.clean=true): ∀c∈x.cells,c.clean=true:=by
 have key: ∀xs:List C,anyB (fun x=> !C.clean x) xs=false→ ∀c∈xs,c.clean=true:=fun xs h c hc=>by simpa using z1t h c hc
 cases x with
 |c x=>intro c hc;simp[AV.cells]at hc;subst hc;exact h
 |agg xs=>
  simp only[AV.clean]at h;split at h
  ·cases h
  ·rename_i h';exact key xs h'
 |tup vs=>
  simp only[AV.clean]at h;split at h
  ·cases h
  ·rename_i h'
   intro c hc;obtain⟨p,hp,hc⟩:=List.mem_flatMap.1 hc;exact key p.2 (z1t h' p hp) c hc
theorem Slot.clean_rel {V V':Nat→Prop}{k:Nat}{c:Slot}(hc:c.clean=true)(h:z4j G V φ w k c):z4j G V' φ w k c:=by
 cases c with
 |vec es n get=>exact h
 |box cs=>
  simp only[Slot.clean]at hc;split at hc
  ·cases hc
  ·rename_i h'
   obtain⟨l,hl,ht,vs,h1,h2,h3⟩:=h;exact⟨l,hl,ht,vs,h1.mono fun c hc v hv=>C.clean_rel (by simpa using z1t h' c hc) hv,h2,h3⟩
theorem zju (h:Sim E s G φ a w){r:ResultVar}{x:Bool×List C}{c:Prop}(he:zf1 E.P s r=some (x,c))(hc:c):
 ∃v,(match r with| .tmp t=>pure (a.tmps.getD t undef)| .cell t ty=>(do loadVar ty (←asAddr (a.tmps.getD t undef))):Sem Value).run E.P w= .ok v w∧RelS (RelC G E.V φ w) x v:=by
 have tmpv: ∀t x,look s.tm t=some x→RAV E G φ w x (a.tmps.getD t undef):=fun t x hx=>by
  obtain⟨v,hv,hr⟩:=h.tm t x hx;rw[Array.getD_eq_getD_getElem?,hv];exact hr
 cases r with
 |tmp t=>
  simp only[zf1]at he;refine⟨a.tmps.getD t undef,rfl,?_⟩;split at he
  ·cases he
  ·rename_i y hne hy
   cases he;exact z4o (tmpv t _ hy) (fun e=>hne e)
  ·rename_i xs hy
   cases he;exact tmpv t _ hy
  ·cases he
 |cell t ty=>
  simp only[zf1]at he;have key: ∀y c',z7r E.P s ty (look s.tm t)=some (y,c')→c'→ ∃v,(loadVar ty=<<asAddr (a.tmps.getD t undef):Sem Value).run E.P w= .ok v w∧RAV E G φ w y v:=fun y c' hy hc'=>by
   obtain⟨v,h1,h2⟩:=h.load (o:= .tmp t) (t:=ty) (x:=y) (c:=c') hy hc';refine⟨v,?_,h2⟩;rw[←h1];have he:a.eval (.tmp t)=a.tmps.getD t undef:=rfl
   cases hl:look s.tm t with
   |none=>rw[hl]at hy;cases hy
   |some p=>
    have hp:=tmpv t p hl;rw[hl]at hy;rw[he];generalize a.tmps.getD t undef=u at*;have hu: ∃A,u= .pointer (some A):=by
     cases p with
     |agg _=>cases hy
     |tup _=>cases hy
     |c p=>
      simp only[z7r]at hy;have hrd: ∃n cs c,rdC s p n=some (cs,c):=by
       split at hy
       ·split at hy
        ·rename_i h;exact⟨_,_,_,h⟩
        ·cases hy
       ·split at hy
        ·rename_i h;exact⟨_,_,_,h⟩
        ·cases hy
       ·cases hy
      obtain⟨n,cs,c,hrd⟩:=hrd;cases p with
      |ptr k o=>obtain⟨l,_,e⟩:=hp.1;exact⟨_,e⟩
      |vptr k es i o=>obtain⟨l,_,e⟩:=hp.1;exact⟨_,e⟩
      |eptr cells=>obtain⟨b,off,_,e,_⟩:=hp.1;exact⟨_,e⟩
      |_=>cases hrd
    obtain⟨A,rfl⟩:=hu;rfl
  split at he
  ·cases he
  ·rename_i y c' hne hy
   cases he;obtain⟨v,h1,h2⟩:=key _ _ hy hc;exact⟨v,h1,z4o h2 (fun e=>hne e)⟩
  ·rename_i xs c' hy
   cases he;obtain⟨v,h1,h2⟩:=key _ _ hy hc;exact⟨v,h1,h2⟩
  ·cases he
theorem zge (h:Sim E s G φ a w): ∀{rs:List ResultVar} {xs:List (Bool×List C)} {c:Prop},evRes E.P s rs=some (xs,c)→c→
 ∃vs,(rs.mapM fun| .tmp t=>pure (a.tmps.getD t undef)| .cell t ty=>(do loadVar ty (←asAddr (a.tmps.getD t undef))):Sem (List Value)).run E.P w= .ok vs w∧RelSs (RelC G E.V φ w) xs vs
 |[],xs,c,he,_=>by cases he;exact⟨[],rfl,trivial⟩
 |r::rs,xs,c,he,hc=>by
  simp only[evRes]at he;split at he
  ·rename_i x c1 h1
   split at he
   ·rename_i xs' c2 h2
    cases he;obtain⟨v,r1,r2⟩:=zju h h1 hc.1;obtain⟨vs,r3,r4⟩:=zge h h2 hc.2;refine⟨v::vs,?_,r2,r4⟩;rw[List.mapM_cons];cases r with
    |tmp t=>simp only[zz5,zza,zz1]at r1 ⊢;simp only[r3,zz1];cases r1;rfl
    |cell t ty=>simp only at r1;simp only[zz5]at r1 ⊢;rw[r1];simp only[zz1,r3,zza]
   ·cases he
  ·cases he
theorem zl2 {R:C→Value→Prop}: ∀{xs:List (Bool×List C)} {vs:List Value},RelSs R xs vs→RelAV R (resAV xs) (if h:vs.toArray.size=1 then vs.toArray[0]else .tuple vs.toArray)
 |[],[],h=>⟨#[],rfl,h⟩
 |[(false,[x])],[v],h=>by simpa [resAV]using z0h h.1.1 h.1.2
 |[(false,[])],[v],h=>h.1.elim
 |[(false,_::_::_)],[v],h=>h.1.elim
 |[(true,xs)],[v],h=>by simpa [resAV,RelAV]using h.1
 |x::y::xs,[],h=>h.elim
 |x::y::xs,[v],h=>h.2.elim
 |x::y::xs,v::u::vs,h=>by
  have:resAV (x::y::xs)= .tup (x::y::xs):=by unfold resAV;split<;>simp_all
  rw[this];exact⟨(v::u::vs).toArray,by simp,h⟩
 |[],_::_,h=>h.elim
 |[_],[],h=>h.elim
 |[_],_::_::_,h=>h.2.elim
theorem z1p.length {R:C→Value→Prop}: ∀{xs:List AV} {vs:List Value},z1p R xs vs→xs.length=vs.length
 |[],[],_=>rfl
 |_::_,_::_,h=>by simp[z1p.length h.2]
 |[],_::_,h=>h.elim
 |_::_,[],h=>h.elim
theorem zeb {R:C→Value→Prop}: ∀{xs:List AV} {vs:List Value} {i:Nat},z1p R xs vs→ ∀t x,look (params i xs) t=some x→ ∃j v,t=i+j∧vs[j]?=some v∧RelAV R x v
 |[],[],_,_,t,x,h=>by cases h
 |y::xs,v::vs,i,hr,t,x,h=>by
  simp only[params,z0x]at h;split at h
  ·rename_i e;cases h;exact⟨0,v,by omega,rfl,hr.1⟩
  ·obtain⟨j,u,e,hu,hx⟩:=zeb hr.2 t x h;exact⟨j+1,u,by omega,by simpa using hu,hx⟩
 |[],_::_,_,h,_,_,_=>h.elim
 |_::_,[],_,h,_,_,_=>h.elim
theorem Summ.intro {P : Program} {f : FuncId} {fn : Func} {c : Code} {args : List AV} {sl sl' : List (Nat × Slot)} {res : AV} (hf : P.funcs[f]? = some fn) (hb : fn.body = some c)
    (hn : (fn.name == "runtime.NumGoroutine") = false) (ha : Nat.ble args.length fn.ntmps = true) (ex : List Nat) (hlt : anyB (fun p : Nat × Slot => Nat.blt p.1 fn.ntmps) sl = false)
    (h : ∀ E : Env, E.P = P → E.N = fn.ntmps → E.lk = sl.map (·.1) ++ ex → E.fx = sl.map (·.1) → Tri E c ⟨params 0 args, sl⟩ (ziv P fn res sl')) : Summ P f args sl res sl' := by
  intro G φ w vs hG hsl hargs
  have hcall : (callFunc f vs.toArray).run P w = .ok (.enter f vs.toArray) w := by
    simp only [callFunc, zz5]
    show Sem.run P (match P.funcs[f]? with | none => _ | some fn => _) w = _
    rw [hf]
    simp [hn, hb]
  unfold Acts
  rw [hcall]
  simp only
  let E : Env := ⟨P, w, G, fun b => b < w.heap.size ∧ ¬ Blks φ sl b, Blks φ sl, sl.map (·.1) ++ ex, fn.ntmps, φ, sl.map (·.1), none⟩
  have hlen := hargs.length
  have ha := zz7 ha
  have hsim : Sim E ⟨params 0 args, sl⟩ G φ { tmps := vs.toArray ++ Array.replicate (fn.ntmps - vs.toArray.size) undef, defers := [] } w :=
    { df := rfl
      sz := by simp [E]; omega
      tm := fun t x hx => by
        obtain ⟨j, v, e, hv, hr⟩ := zeb hargs t x hx
        have hj := (List.getElem?_eq_some_iff.1 hv).1
        refine ⟨v, ?_, hr⟩
        rw [Array.getElem?_append_left (by simp; omega)]
        simp [e, hv]
      sl := hsl.rel
      inj := hsl.inj
      own := fun k c l h1 h2 => ⟨(hsl.own k c l h1 h2).1, fun hv => hv.2 ⟨k, c, l, h1, h2, rfl⟩, (hsl.own k c l h1 h2).2, .inr ⟨zzm _ (zzf.2 ⟨(k, c), z2b h1, rfl⟩), k, c, l, h1, h2, rfl⟩⟩
      gsz := hG
      g0 := fun _ h => h
      gf := fun _ h => .inl h
      vsz := fun b hb => hb
      gl := fun b hb => ⟨hG b hb, fun ⟨k, c, l, h1, h2, e⟩ => (hsl.own k c l h1 h2).1 (e ▸ hb)⟩
      kp := Keep.refl _ _ _
      fix := fun k c hk h1 => rfl
      fxN := fun k hk => by
        obtain ⟨p, hp, rfl⟩ := zzf.1 hk
        have := z1t hlt p hp
        exact Nat.le_of_not_lt fun h => by rw [zzk.mpr h] at this; cases this }
  refine calls_of_wp hf hb (wp_mono (wpIn_wide.1 (h E rfl rfl rfl rfl _ _ ⟨G, φ, hsim⟩ (.inl rfl))) fun e a' w' ⟨s', hp, G', φ', hs'⟩ => ?_)
  have fin : RetAt P fn res sl' s' → a'.defers = [] ∧ ∃ v, (results fn a'.tmps).run P w' = .ok v w' ∧ ∃ v1 G' φ', Ending.returned v = .returned v1 ∧ Done G φ sl res sl' w w' v1 G' φ' := by
    rintro ⟨l, c, h1, hc, rfl, hcl, hsl'⟩
    obtain ⟨us, r1, r2⟩ := zge hs' h1 hc
    refine ⟨hs'.df, if h : us.toArray.size = 1 then us.toArray[0] else .tuple us.toArray, ?_, _, G', φ', rfl, ?_⟩
    · unfold results
      rw [zz5, Array.mapM_eq_mapM_toList, Sem.run_map]
      erw [r1]
      rfl
    · exact
      { up := hs'.g0
        fr := hs'.gf
        sz := hs'.gsz
        rel := (zl2 r2).mono fun c hc v hv => C.clean_rel (zfs hcl c hc) hv
        slots :=
          { rel := fun k c hk => Slot.clean_rel (hsl' k c hk).2 (hs'.sl k c (hsl' k c hk).1)
            inj := fun k k' c c' l l' h1 h2 => hs'.inj k k' c c' l l' (hsl' _ _ h1).1 (hsl' _ _ h2).1
            own := fun k c l h1 h2 => ⟨(hs'.own k c l (hsl' _ _ h1).1 h2).1, (hs'.own k c l (hsl' _ _ h1).1 h2).2.2.1⟩ }
        blk := fun k c l h1 h2 => ((hs'.own k c l (hsl' _ _ h1).1 h2).2.2.2).symm.imp (fun h => h.2) id
        kp := hs'.kp
        fix := fun k c c' h1 h2 => hs'.fix k c' (zzf.2 ⟨(k, c), z2b h1, rfl⟩) (hsl' _ _ h2).1 }
  cases e with
  | normal => exact fin hp
  | ret => exact fin hp
  | _ => exact hp.elim
end
end Go.Av
/-
 Av,part M:calls that get nothing of the caller's to write.
-/
namespace Go.Av
open Go
def z6i (s:St)(c:Call):Option (FuncId×List D):=
 match c.callee with
 | .value x=>match evO s x with
  |some (.c (.d (.fn f caps)))=>some (f,caps)
  |_=>none
 |_=>none
def allAV:List (Option AV)→Option (List AV)
 |[]=>some []
 |some x::r=>match allAV r with
  |some xs=>some (x::xs)
  |none=>none
 |none::_=>none
def z7q (s:St)(c:Call)(caps:List D):Option (List AV):=
 match allAV (c.args.toList.map (evO s))with
 |some xs=>some (xs++caps.map fun x=> .c (.d x))
 |none=>none
inductive CArg (s:St):C→C→Prop
 |le {c c':C} (h:CLe s [] c c'):CArg s c c'
 |own {k es off m m' n:Nat} {get get':Nat→List D} (hk:look s.sl k=some (.vec es n get)) (hm:off+m≤n) (hm':m'=m)
  (h: ∀i,i<m→get' i=get (off+i)):CArg s (.own k es off m) (.view es m' get')
 |bsl {k o es n n':Nat} {cs:List C} {ds:List D} {get':Nat→List D} (hk:look s.sl k=some (.box cs)) (hd:(cs.drop o).take (n*es)=ds.map .d) (hl:ds.length=n*es) (hn:n'=n) (hmx:n≤maxN)
  (h: ∀i,i<n→get' i=(ds.drop (i*es)).take es):CArg s (.bsl k o es n) (.view es n' get')
inductive CsArg (s:St):List C→List C→Prop
 |refl (cs:List C):CsArg s cs cs
 |nil:CsArg s [] []
 |cons {c c':C} {cs cs':List C} (h:CArg s c c') (t:CsArg s cs cs'):CsArg s (c::cs) (c'::cs')
inductive AVArg (s:St):AV→AV→Prop
 |refl (x:AV):AVArg s x x
 |c {x y:C} (h:CArg s x y):AVArg s (.c x) (.c y)
 |agg {xs ys:List C} (h:CsArg s xs ys):AVArg s (.agg xs) (.agg ys)
inductive AVsArg (s:St):List AV→List AV→Prop
 |nil:AVsArg s [] []
 |cons {x y:AV} {xs ys:List AV} (h:AVArg s x y) (t:AVsArg s xs ys):AVsArg s (x::xs) (y::ys)
theorem AVsArg.refl (s:St): ∀xs:List AV,AVsArg s xs xs
 |[]=> .nil
 |_::xs=> .cons (.refl _) (AVsArg.refl s xs)
def C.flat:C→Bool
 | .d _=>true
 | .zero=>true
 | .any=>true
 | .view _ _ _=>true
 | .eptr _=>true
 |_=>false
def AV.flat:AV→Bool
 | .c x=>x.flat
 | .agg xs=>match anyB (fun x=> !C.flat x) xs with|true=>false|false=>true
 | .tup vs=>match anyB (fun p:Bool×List C=>anyB (fun x=> !C.flat x) p.2) vs with|true=>false|false=>true
def C.solid:C→Bool
 | .d _=>true
 | .zero=>true
 | .any=>true
 |_=>false
def AV.solid:AV→Bool
 | .c x=>x.solid
 | .agg xs=>match anyB (fun x=> !C.solid x) xs with|true=>false|false=>true
 | .tup vs=>match anyB (fun p:Bool×List C=>anyB (fun x=> !C.solid x) p.2) vs with|true=>false|false=>true
def z6n:List AV→Bool
 |[]=>true
 |x::xs=>match x.flat with|true=>z6n xs|false=>false
def putO (s:St)(d:Option Nat)(x:AV):St:=match d with|some d=>s.put d x|none=>s
def dstOk (N:Nat):Option Nat→Bool
 |some d=>Nat.blt d N
 |none=>true
section
variable {E:Env} {s:St} {G:Nat→Prop} {φ:Nat→Option Loc} {a:Act} {w:World}
theorem Sim.grow (h:Sim E s G φ a w){w':World}{G':Nat→Prop}(hk:Keep w.heap.size (fun _=>False) w w')(hg: ∀b,G b→G' b)(hf: ∀b,G' b→G b∨w.heap.size≤b)(hz: ∀b,G' b→b<w'.heap.size):
 Sim E s G' φ a w':=by
 have hb: ∀b,b<w.heap.size→w'.heap[b]?=w.heap[b]?:=fun b hb=>hk.block b hb id;obtain⟨sg,sv⟩:=h.same_of_lt hb;exact
 {h with
  tm:=fun t x hx=>by obtain⟨v,hv,hr⟩:=h.tm t x hx;exact⟨v,hv,hr.mono fun c _ v hc=>hc.mono sg sv hg fun _ _=>rfl⟩
  sl:=fun k c hc=>(h.sl k c hc).mono sg sv hg rfl (fun _ _=>rfl) fun l hl=>hb _ (h.own k c l hc hl).2.2.1
  own:=fun k c l h1 h2=>by
   obtain⟨o1,o2,o3,o4⟩:=h.own k c l h1 h2;refine⟨fun hg'=>?_,o2,Nat.lt_of_lt_of_le o3 hk.size,o4⟩;rcases hf _ hg' with hg'|hg'
   ·exact o1 hg'
   ·omega
  gsz:=hz
  g0:=fun b hb=>hg b (h.g0 b hb)
  gf:=fun b hb=>by
   rcases hf b hb with hb|hb
   ·exact h.gf b hb
   ·exact .inr (Nat.le_trans h.kp.size hb)
  kp:=h.kp.trans ⟨hk.os,hk.tape,hk.output,hk.size,fun b hb' _=>hb b (Nat.lt_of_lt_of_le hb' h.kp.size)⟩}
theorem z8c {b:Nat}(h:withF s φ [] G b):G b:=by
 rcases h with h|⟨k,_,_,hk,_⟩
 ·exact h
 ·cases hk
theorem zeo {V V':Nat→Prop}{φ':Nat→Option Loc}{x:C}{v:Value}(hx:x.flat=true)(hv: ∀b,V b→V' b)(h:RelC G V φ w x v):RelC G V' φ' w x v:=by
 cases x with
 |view es n get=>exact Or.imp id (fun⟨b,off,cap,hb,h⟩=>⟨b,off,cap,hb.imp id (hv b),h⟩) h
 |d x=>exact h
 |eptr cells=>exact h.elim fun b h=>h.elim fun off h=>⟨b,off,h.1.imp id (hv b),h.2⟩
 |zero=>exact h
 |any=>trivial
 |_=>cases hx
theorem CArg.rel (h:Sim E s G φ a w){c c':C}(hc:CArg s c c'){v:Value}(hv:RelC G E.V φ w c v)(hf:c'.flat=true){ψ:Nat→Option Loc}:
 RelC G (fun b=>b<w.heap.size) ψ w c' v:=by
 have vlt: ∀b,E.V b→b<w.heap.size:=fun b hb=>Nat.lt_of_lt_of_le (h.vsz b hb).1 h.kp.size;cases hc with
 |le hc=>exact(zeo hf vlt ((CLe.rel h hc hv).mono (Same.refl _ _) (Same.refl _ _) (fun _ hb=>z8c hb) fun _ _=>rfl))
 |own hk hm hm' hg=>
  subst hm';rcases hv with⟨h0,A,rfl⟩|⟨l,hl,hle,rfl⟩
  ·exact .inl ⟨h0,A,0,rfl⟩
  ·obtain⟨hmx,hs|⟨l',hl',hn,_,he⟩⟩:=h.sl _ _ hk
   ·rw[hl]at hs;cases hs.1
   ·rw[hl]at hl';cases hl';refine .inr ⟨l.blk,_,_,.inr (h.own _ _ l hk hl).2.2.1,rfl,by omega,by omega,fun i hi=>?_⟩;rw[hg i hi];exact he.part hm i hi
 | @bsl k o es n n' cs ds get' hk hd hl' hn hmx hg=>
  cases hn;obtain⟨l,cap,hl,hc,rfl⟩:=hv;obtain⟨l',hl'',_,vs,h1,h2,h3⟩:=h.sl _ _ hk;rw[hl]at hl'';cases hl'';refine .inr ⟨l.blk,_,_,.inr (h.own _ _ l hk hl).2.2.1,rfl,hc,hmx,fun i hi=>?_⟩;have hlen:i*es+es≤ds.length:=by
   rw[hl']
   calc i*es+es=(i+1)*es:=by rw[Nat.add_mul,Nat.one_mul]
    _≤n*es:=Nat.mul_le_mul_right es hi
  rw[hg i hi];refine⟨by simp;omega,fun j hj=>?_⟩;have hj:j<es:=by simp at hj;omega
  have e1:((cs.drop o).take (n*es))[i*es+j]?=some (.d (D.at ((ds.drop (i*es)).take es) j)):=by
   rw[hd,List.getElem?_map,List.getElem?_eq_getElem (by omega)];have:D.at ((ds.drop (i*es)).take es) j=ds[i*es+j]'(by omega):=by
    simp[D.at,List.getD_eq_getElem?_getD,hj,List.getElem?_drop,List.getElem?_eq_getElem (show i*es+j<ds.length by omega)]
   rw[this];rfl
  have e2:cs[o+(i*es+j)]?=some (.d (D.at ((ds.drop (i*es)).take es) j)):=by
   rw[List.getElem?_take,List.getElem?_drop]at e1;split at e1
   ·exact e1
   ·cases e1
  obtain⟨u,hu,hr⟩:=h1.get _ _ e2;exact⟨u,by have:=h3 _ u hu;rw[←this];congr 2;omega,hr⟩
theorem CsArg.rel (h:Sim E s G φ a w){cs cs':List C}(hc:CsArg s cs cs'){ψ:Nat→Option Loc}: ∀{vs:List Value},(∀c∈cs',c.flat=true)→RelCs (RelC G E.V φ w) cs vs→RelCs (RelC G (fun b=>b<w.heap.size) ψ w) cs' vs:=by
 induction hc with
 |refl cs=>intro vs hf hv;exact hv.mono fun c hc v hcv=>CArg.rel h (.le (.refl c)) hcv (hf c hc)
 |nil=>intro vs _ hv;cases vs with|nil=>trivial|cons _ _=>exact hv.elim
 |cons hc _ ih=>
  intro vs hf hv;cases vs with
  |nil=>exact hv.elim
  |cons v vs=>exact⟨CArg.rel h hc hv.1 (hf _ (zz3 ..)),ih (fun c hc=>hf c (zz6 _ hc)) hv.2⟩
theorem zcf {x:AV}(h:x.flat=true): ∀c∈x.cells,c.flat=true:=by
 have key: ∀xs:List C,anyB (fun x=> !C.flat x) xs=false→ ∀c∈xs,c.flat=true:=fun xs h c hc=>by simpa using z1t h c hc
 cases x with
 |c x=>intro c hc;simp[AV.cells]at hc;subst hc;exact h
 |agg xs=>
  simp only[AV.flat]at h;split at h
  ·cases h
  ·rename_i h';exact key xs h'
 |tup vs=>
  simp only[AV.flat]at h;split at h
  ·cases h
  ·rename_i h'
   intro c hc;obtain⟨p,hp,hc⟩:=List.mem_flatMap.1 hc;exact key p.2 (z1t h' p hp) c hc
theorem zft {x:AV}(h:x.solid=true): ∀c∈x.cells,c.solid=true:=by
 have key: ∀xs:List C,anyB (fun x=> !C.solid x) xs=false→ ∀c∈xs,c.solid=true:=fun xs h c hc=>by simpa using z1t h c hc
 cases x with
 |c x=>intro c hc;simp[AV.cells]at hc;subst hc;exact h
 |agg xs=>
  simp only[AV.solid]at h;split at h
  ·cases h
  ·rename_i h';exact key xs h'
 |tup vs=>
  simp only[AV.solid]at h;split at h
  ·cases h
  ·rename_i h'
   intro c hc;obtain⟨p,hp,hc⟩:=List.mem_flatMap.1 hc;exact key p.2 (z1t h' p hp) c hc
theorem zid {V V':Nat→Prop}{φ':Nat→Option Loc}{x:C}{v:Value}(hx:x.solid=true)(h:RelC G V φ w x v):RelC G V' φ' w x v:=by
 cases x<;>first|exact h|cases hx
theorem AVArg.rel (h:Sim E s G φ a w){x x':AV}(hx:AVArg s x x')(hf:x'.flat=true){v:Value}(hv:RAV E G φ w x v){ψ:Nat→Option Loc}:RelAV (RelC G (fun b=>b<w.heap.size) ψ w) x' v:=by
 have hcl:=zcf hf;cases hx with
 |refl=>exact hv.mono fun c hc v hcv=>CArg.rel h (.le (.refl c)) hcv (hcl c hc)
 | @c p q hc=>
  have hq:q.flat=true:=hf;by_cases e:p= .any
  ·subst e;cases hc with
   |le hc=>cases hc<;>trivial
  ·obtain⟨h1,h2⟩:=z4o hv e;exact z0h (hc.rel h h1 hq) h2
 |agg hc=>obtain⟨us,e,h1,h2⟩:=hv;exact⟨us,e,hc.rel h hcl h1,h2⟩
theorem ze1: ∀{xs:List AV},z6n xs=true→ ∀x∈xs,x.flat=true
 |[],_,x,hx=>by cases hx
 |y::ys,h,x,hx=>by
  simp only[z6n]at h;split at h
  ·rename_i hy
   rcases zzg.1 hx with rfl|hx
   ·exact hy
   ·exact ze1 h x hx
  ·cases h
theorem AVsArg.rel (h:Sim E s G φ a w){xs ys:List AV}(hx:AVsArg s xs ys){ψ:Nat→Option Loc}:(∀y∈ys,y.flat=true)→ ∀{vs:List Value},z1p (RelC G E.V φ w) xs vs→
 z1p (RelC G (fun b=>b<w.heap.size) ψ w) ys vs:=by
 induction hx with
 |nil=>intro _ vs hv;cases vs with|nil=>trivial|cons _ _=>exact hv.elim
 |cons hc _ ih=>
  intro hf vs hv;cases vs with
  |nil=>exact hv.elim
  |cons v vs=>exact⟨hc.rel h (hf _ (zz3 ..)) hv.1,ih (fun y hy=>hf y (zz6 _ hy)) hv.2⟩
theorem zcv (h:Sim E s G φ a w): ∀{os:List Operand} {xs:List AV},allAV (os.map (evO s))=some xs→z1p (RelC G E.V φ w) xs (os.map a.eval)
 |[],xs,he=>by cases he;trivial
 |o::os,xs,he=>by
  simp only[List.map_cons]at he;cases ho:evO s o with
  |none=>rw[ho]at he;cases he
  |some x=>
   rw[ho]at he;simp only[allAV]at he;split at he
   ·rename_i ys hys
    cases he;exact⟨h.ev ho,zcv h hys⟩
   ·cases he
theorem z1p.append {R:C→Value→Prop}: ∀{xs:List AV} {vs:List Value} {ys:List AV} {us:List Value},z1p R xs vs→z1p R ys us→z1p R (xs++ys) (vs++us)
 |[],[],_,_,_,h=>h
 |_::_,_::_,_,_,⟨h1,h2⟩,h=>⟨h1,z1p.append h2 h⟩
 |[],_::_,_,_,h,_=>h.elim
 |_::_,[],_,_,h,_=>h.elim
theorem zh7 {R:C→Value→Prop}: ∀{caps:List D} {us:List Value},caps.length=us.length→(∀j,j<caps.length→R (.d (D.at caps j)) (us.getD j undef)∧(us.getD j undef).oneCell'=true)→z1p R (caps.map fun x=> .c (.d x)) us
 |[],[],_,_=>trivial
 |x::xs,u::us,hl,h=>⟨by have:=h 0 (by simp);exact this,zh7 (by simpa using hl) fun j hj=>by have:=h (j+1) (by simpa using hj);simpa [D.at]using this⟩
 |[],_::_,hl,_=>by simp at hl
 |_::_,[],hl,_=>by simp at hl
theorem zka (h:Sim E s G φ a w){c:Call}{f:FuncId}{caps:List D}{xs:List AV}(hc:z6i s c=some (f,caps))(hx:z7q s c caps=some xs)(ty:TypeId):
 ∃vs:List Value,(∀w,(do let d ←resolve a.eval c ty;invoke d.target d.args:Sem Next).run E.P w=(callFunc f vs.toArray).run E.P w)∧z1p (RelC G E.V φ w) xs vs:=by
 obtain⟨cal,args,ats⟩:=c;unfold z6i at hc;simp only at hc;split at hc
 ·rename_i cal' x
  split at hc
  ·rename_i f' caps' hv
   cases hc;have hfv:=(h.ev hv).1
   have hfv:RelD G w (.fn f caps) (a.eval x):=hfv;simp only[z7q]at hx;split at hx
   ·rename_i ys hys
    cases hx;have h1:=zcv h hys
    generalize hu:a.eval x=u at hfv;cases hfv with
    |fn _ _ us hl hr=>
     refine⟨args.toList.map a.eval++us,fun w=>?_,h1.append (zh7 hl fun j hj=>⟨hr j hj,(hr j hj).one⟩)⟩;simp only[resolve,Deferred.ofValue,hu,zz5,zza,zz1,invoke];congr 2;apply Array.ext';simp
   ·cases hx
  ·cases hc
 ·cases hc
theorem zg9 {o:Oper}{f:FuncId}{vs:List Value}{R:Ending→World→Prop}{next:Act→World→Prop}{Q:Exit→Act→World→Prop}(h:Acts E.P f vs.toArray w R)
 (hr: ∀e w',R e w'→ ∃v,e= .returned v∧next (a.put o.dst v) w'):o.upon E.P a next Q ((callFunc f vs.toArray).run E.P w):=by
 unfold Acts at h;split at h
 ·rename_i f' vs' w' hrun
  rw[hrun];exact h.mono fun e w' hR=>by
   obtain⟨v,rfl,hn⟩:=hr e w' hR;exact hn
 ·rename_i v w' hrun
  rw[hrun];obtain⟨v',e,hn⟩:=hr _ _ h;cases e;exact hn
 ·exact h.elim
def One (E:Env)(ops:Array Oper)(o:Oper)(s s':St):Prop:=
 ∀a w,SimE E s a w→Region.wanted o (yielded ops a.tmps)=true∧ ∀(next:Act→World→Prop) (Q:Exit→Act→World→Prop),(∀a' w',SimE E s' a' w'→next a' w')→o.wp E.P a w next Q
theorem Ops.one {ops:Array Oper}{o:Oper}{rest:List Oper}{s':St}{K:St→Prop}(h:One E ops o s s')(hk:Ops E ops rest s' K):Ops E ops (o::rest) s K:=fun a w hs Q hQ=>by
 obtain⟨h1,h2⟩:=h a w hs;show wpList E.P ops Q (o::rest) a w;unfold wpList;rw[if_pos h1];exact .inl (h2 _ _ fun a' w' hs'=>hk a' w' hs' Q hQ)
theorem One.step {ops:Array Oper}{o:Oper}{st:Step}(hw:z0o ops s o=some true)(he:z3e E.P s o.dst o.op=some st)(hc:st.cond)(hok:okDst E.N s o.dst st=true):
 One E ops o s (z9n s o.dst st):=fun a w hs=>by
 obtain⟨G,φ,h⟩:=hs;exact⟨z1o h hw,fun next Q hn=>zfq (h.step he hc hok) hn⟩
theorem One.call {ops:Array Oper}{o:Oper}{cl:Call}{f:FuncId}{caps:List D}{xs args:List AV}{res:AV}
 (hop:o.op= .call cl) (hw:z0o ops s o=some true) (hd:dstOk E.N o.dst=true) (hc:z6i s cl=some (f,caps)) (hx:z7q s cl caps=some xs)
 (hle:AVsArg s xs args) (hfl:z6n args=true) (hsol:res.solid=true) (hS:Summ E.P f args [] res []):One E ops o s (putO s o.dst res):=fun a w hs=>by
 obtain⟨G,φ,hs⟩:=hs;obtain⟨vs,hrun,hrel⟩:=zka hs hc hx o.type;have hb0: ∀ψ b,¬Blks ψ [] b:=fun ψ b ⟨k,c,l,hk,_⟩=>by cases hk
 have hargs:=AVsArg.rel hs hle (ψ:=fun _=>none) (ze1 hfl) hrel;have hV:(fun b=>b<w.heap.size)=(fun b=>b<w.heap.size∧ ¬Blks (fun _=>none) [] b):=by
  funext b;exact propext ⟨fun h=>⟨h,hb0 _ b⟩,fun h=>h.1⟩
 rw[hV]at hargs;have hact:=hS G (fun _=>none) w vs hs.gsz ⟨(fun _ _ h=>by cases h),(fun _ _ _ _ _ _ h=>by cases h),(fun _ _ _ h=>by cases h)⟩ hargs
 refine⟨z1o hs hw,fun next Q hn=>?_⟩;unfold Oper.wp;have he:execOp a.eval o=(do let d ←resolve a.eval cl o.type;invoke d.target d.args:Sem Next):=by
  unfold execOp;rw[hop]
 rw[he,hrun];refine zg9 hact fun e w' ⟨v,G',φ',he,hd'⟩=>⟨v,he,?_⟩;have hk:Keep w.heap.size (fun _=>False) w w':=hd'.kp.mono (zze _) fun b _ hb=>(hb0 _ b hb).elim
 have hg:=hs.grow hk hd'.up hd'.fr hd'.sz;refine hn _ _ ⟨G',φ,?_⟩;have hres:RAV E G' φ w' res v:=hd'.rel.mono fun c hc v hcv=>zid (zft hsol c hc) hcv
 cases hdd:o.dst with
 |none=>exact hg
 |some d=>
  rw[hdd]at hd;exact hg.put (zzk.mp hd) hres
end
end Go.Av
/-
 Av,part N:slices are made.
-/
namespace Go.Av
open Go
def C.dropR (k:Nat)(c:C):C:=match c.refs k with|true=> .any|false=>c
def AV.dropR (k:Nat):AV→AV
 | .c x=> .c (x.dropR k)
 | .agg xs=> .agg (xs.map (C.dropR k))
 | .tup vs=> .tup (vs.map fun p=>(p.1,p.2.map (C.dropR k)))
def Slot.dropR (k:Nat):Slot→Slot
 | .box cs=> .box (cs.map (C.dropR k))
 | .vec es n get=> .vec es n get
def z4k (k:Nat):List (Nat×AV)→List (Nat×AV)
 |[]=>[]
 |(t,x)::r=>(t,x.dropR k)::z4k k r
def z3k (k:Nat):List (Nat×Slot)→List (Nat×Slot)
 |[]=>[]
 |(j,c)::r=>match Nat.beq j k with
  |true=>z3k k r
  |false=>(j,c.dropR k)::z3k k r
def St.drop (k:Nat)(s:St):St:=⟨z4k k s.tm,z3k k s.sl⟩
theorem C.dropR_refs (k:Nat)(c:C):(c.dropR k).refs k=false:=by
 unfold C.dropR;split
 ·rfl
 ·assumption
theorem za3 {α β:Type}(f:β→Bool)(g:α→β): ∀l:List α,(∀x,f (g x)=false)→anyB f (l.map g)=false
 |[],_=>rfl
 |x::r,h=>by simp only[List.map_cons,anyB,h x];exact za3 f g r h
theorem AV.dropR_refs (k:Nat)(x:AV):(x.dropR k).refs k=false:=by
 cases x with
 |c x=>exact C.dropR_refs k x
 |agg xs=>exact za3 _ _ xs (C.dropR_refs k)
 |tup vs=>exact za3 _ _ vs fun p=>za3 _ _ p.2 (C.dropR_refs k)
theorem zd5 (k:Nat): ∀(l:List (Nat×AV)) (t:Nat),look (z4k k l) t=(look l t).map (AV.dropR k)
 |[],t=>rfl
 |(j,x)::r,t=>by
  simp only[z4k,z0x];by_cases e:j=t
  ·simp[e]
  ·simp[e,zd5 k r t]
theorem z6q (k:Nat): ∀(l:List (Nat×Slot)) (t:Nat),look (z3k k l) t=if t=k then none else(look l t).map (Slot.dropR k)
 |[],t=>by simp[z3k,look]
 |(j,c)::r,t=>by
  simp only[z3k];cases hb:Nat.beq j k with
  |true=>
   have e:=zz4 hb;subst e;simp only[z6q j r t,z0x];by_cases e:t=j
   ·simp[e]
   ·have: ¬j=t:=fun x=>e x.symm;simp[e,this]
  |false=>
   have hne:j≠k:=fun e=>by rw[e]at hb;simp at hb
   simp only[z0x,z6q k r t];by_cases e:j=t
   ·subst e;simp[hne]
   ·simp[e]
theorem zc1 (k:Nat)(s:St):(s.drop k).noRef k=true:=by
 have h1: ∀l,anyB (fun e:Nat×AV=>AV.refs k e.2) (z4k k l)=false:=by
  intro l;induction l with
  |nil=>rfl
  |cons e r ih=>simp only[z4k,anyB,AV.dropR_refs];exact ih
 have h2: ∀l,anyB (z60 k) (z3k k l)=false:=by
  intro l;induction l with
  |nil=>rfl
  |cons e r ih=>
   simp only[z3k];cases hb:Nat.beq e.1 k with
   |true=>exact ih
   |false=>
    simp only[anyB,z60,hb];have:Slot.refs k (e.2.dropR k)=false:=by
     cases e.2 with
     |box cs=>exact za3 _ _ cs (C.dropR_refs k)
     |vec=>rfl
    simp only[this];exact ih
 have h2:=h2 s.sl;have h1:=h1 s.tm
 unfold St.noRef St.drop;simp only[h1];rw[h2]
section
variable {E:Env} {s:St} {G:Nat→Prop} {φ:Nat→Option Loc} {a:Act} {w:World}
theorem C.dropR_rel {V:Nat→Prop}{k:Nat}{c:C}{v:Value}(h:RelC G V φ w c v):RelC G V φ w (c.dropR k) v:=by
 unfold C.dropR;split
 ·trivial
 ·exact h
theorem zbs {V:Nat→Prop}{k:Nat}: ∀{cs:List C} {vs:List Value},RelCs (RelC G V φ w) cs vs→RelCs (RelC G V φ w) (cs.map (C.dropR k)) vs
 |[],[],_=>trivial
 |_::_,_::_,h=>⟨C.dropR_rel h.1,zbs h.2⟩
 |[],_::_,h=>h.elim
 |_::_,[],h=>h.elim
theorem zhc {V:Nat→Prop}{k:Nat}: ∀{xs:List (Bool×List C)} {vs:List Value},RelSs (RelC G V φ w) xs vs→RelSs (RelC G V φ w) (xs.map fun p=>(p.1,p.2.map (C.dropR k))) vs
 |[],[],_=>trivial
 |(b,cs)::_,_::_,h=>by
  refine⟨?_,zhc h.2⟩;have h1:=h.1
  cases b with
  |true=>obtain⟨us,e,h1,h2⟩:=h1;exact⟨us,e,zbs h1,h2⟩
  |false=>
   match cs,h1 with
   |[c],h1=>exact⟨C.dropR_rel h1.1,h1.2⟩
   |[],h1=>exact h1.elim
   |_::_::_,h1=>exact h1.elim
 |[],_::_,h=>h.elim
 |_::_,[],h=>h.elim
theorem AV.dropR_rel {V:Nat→Prop}{k:Nat}{x:AV}{v:Value}(h:RelAV (RelC G V φ w) x v):RelAV (RelC G V φ w) (x.dropR k) v:=by
 cases x with
 |c x=>
  by_cases e:x= .any
  ·subst e;trivial
  ·have:RelS (RelC G V φ w) (false,[x]) v:=by cases x<;>first|exact h|exact(e rfl).elim
   exact z0h (C.dropR_rel this.1) this.2
 |agg xs=>obtain⟨us,e,h1,h2⟩:=h;exact⟨us,e,zbs h1,h2⟩
 |tup vs=>obtain⟨us,e,h1⟩:=h;exact⟨us,e,zhc h1⟩
theorem Sim.drop (h:Sim E s G φ a w)(k:Nat):Sim E (s.drop k) G φ a w:=by
 have hin: ∀j c,look (s.drop k).sl j=some c→j≠k∧ ∃c0,look s.sl j=some c0∧c=c0.dropR k:=fun j c hc=>by
  simp only[St.drop,z6q]at hc;split at hc
  ·cases hc
  ·rename_i hne
   refine⟨hne,?_⟩;cases hl:look s.sl j with
   |none=>rw[hl]at hc;cases hc
   |some c0=>rw[hl]at hc;cases hc;exact⟨c0,rfl,rfl⟩
 exact
 {h with
  tm:=fun t x hx=>by
   simp only[St.drop,zd5]at hx;cases hl:look s.tm t with
   |none=>rw[hl]at hx;cases hx
   |some x0=>
    rw[hl]at hx;cases hx;obtain⟨v,hv,hr⟩:=h.tm t x0 hl;exact⟨v,hv,AV.dropR_rel hr⟩
  sl:=fun j c hc=>by
   obtain⟨_,c0,h0,rfl⟩:=hin j c hc;have:=h.sl j c0 h0
   cases c0 with
   |vec=>exact this
   |box cs=>
    obtain⟨l,hl,ht,vs,h1,h2,h3⟩:=this;exact⟨l,hl,by simpa using ht,vs,zbs h1,h2,h3⟩
  inj:=fun j j' c c' l l' h1 h2=>by
   obtain⟨_,_,h1,_⟩:=hin j c h1;obtain⟨_,_,h2,_⟩:=hin j' c' h2;exact h.inj _ _ _ _ _ _ h1 h2
  own:=fun j c l h1=>by
   obtain⟨_,_,h1,_⟩:=hin j c h1;exact h.own _ _ _ h1
  fix:=fun j c hx h1=>by
   obtain⟨_,_,h1,_⟩:=hin j c h1;exact h.fix _ _ hx h1}
def z3a (G:Nat→Prop)(w:World)(vs:List Value)(es n:Nat)(get:Nat→List D):Prop:=
 ∀i,i<n→(get i).length=es∧ ∀j,j<es→ ∃u,vs[i*es+j]?=some u∧RelD G w (D.at (get i) j) u
theorem Sim.newVec (h:Sim E s G φ a w){k:Nat}(hkx:k∉E.fx)(hk:s.noRef k=true){es n cap:Nat}{get:Nat→List D}{vs:Array Value}(t:TypeId)(hsz:vs.size=cap*es)(hn:n≤cap)(hm:n≤maxN)
 (hc:z3a G w vs.toList es n get):
 Sim E (s.slot k (.vec es n get)) G (upd φ k (some ⟨w.heap.size,0,cap⟩)) a (w.alloc (.cells vs t)):=by
 have hb: ∀b,b<w.heap.size→(w.alloc (.cells vs t)).heap[b]?=w.heap[b]?:=fun b hb=>by
  show(w.heap.push _)[b]?=_;rw[Array.getElem?_push,if_neg (by omega)]
 obtain⟨sg,_⟩:=h.same_of_lt hb;have hcell: ∀j,(w.alloc (.cells vs t)).cell? ⟨w.heap.size,j,none⟩=vs[j]?:=fun j=>World.cell?_alloc_new w vs t j
 refine h.alloc hkx hk rfl ⟨hm,.inr ⟨_,z3w _ _ _,hn,⟨fun j hj=>?_,fun _ x=>by simp only[World.frozen?,World.alloc,Array.getElem?_push,if_true];simp⟩,fun i hi=>⟨(hc i hi).1,fun j hj=>?_⟩⟩⟩
 ·rw[zzb];have hj:j<cap*es:=hj;refine⟨by rw[hcell];simp;omega,?_⟩;simp only[World.frozen?,World.alloc,Array.getElem?_push,if_true];simp
 ·obtain⟨u,hu,hr⟩:=(hc i hi).2 j (by rw[(hc i hi).1]at hj;exact hj);refine⟨u,?_,hr.mono sg fun _ h=>h⟩;rw[hcell,←hu];simp
theorem Sim.newVec0 (h:Sim E s G φ a w){k:Nat}(hkx:k∉E.fx)(hk:s.noRef k=true)(es:Nat)(get:Nat→List D):Sim E (s.slot k (.vec es 0 get)) G (upd φ k none) a w:=by
 obtain⟨n1,n2⟩:=z3q hk;have hin: ∀k' c',look (s.slot k (.vec es 0 get)).sl k'=some c'→(k'=k∧c'= .vec es 0 get)∨(k'≠k∧look s.sl k'=some c'):=fun k' c' hc'=>by
  simp only[St.slot,z0x]at hc';by_cases e:k=k'
  ·subst e;rw[if_pos rfl]at hc';cases hc';exact .inl ⟨rfl,rfl⟩
  ·rw[if_neg e]at hc';exact .inr ⟨fun x=>e x.symm,hc'⟩
 have old: ∀k' c' l,look (s.slot k (.vec es 0 get)).sl k'=some c'→upd φ k none k'=some l→look s.sl k'=some c'∧φ k'=some l:=fun k' c' l h1 h2=>by
  rcases hin _ _ h1 with⟨rfl,_⟩|⟨hne,h1⟩
  ·rw[z3w]at h2;cases h2
  ·rw[z34 _ _ _ hne]at h2;exact⟨h1,h2⟩
 exact
 {h with
  tm:=fun t x hx=>by
   obtain⟨v,hv,hr⟩:=h.tm t x hx;refine⟨v,hv,hr.mono fun c hc v hr=>hr.mono (Same.refl _ _) (Same.refl _ _) (fun _ h=>h) fun k' hk'=>z34 _ _ _ ?_⟩;exact zcr (AV.refs_cells (n1 _ (z2b hx)) c hc) hk'
  sl:=fun k' c' hc'=>by
   rcases hin k' c' hc' with⟨rfl,rfl⟩|⟨hne,hc'⟩
   ·exact⟨Nat.zero_le _,.inl ⟨z3w _ _ _,rfl⟩⟩
   ·refine(h.sl k' c' hc').mono (Same.refl _ _) (Same.refl _ _) (fun _ h=>h) (z34 _ _ _ hne) (fun k'' hk''=>z34 _ _ _ fun e=>?_) fun _ _=>rfl;have:=(n2 _ (z2b hc')).2
    rw[e,this]at hk'';cases hk''
  inj:=fun k1 k2 c1 c2 l1 l2 h1 h2 e1 e2=>by
   obtain⟨h1,e1⟩:=old _ _ _ h1 e1;obtain⟨h2,e2⟩:=old _ _ _ h2 e2;exact h.inj _ _ _ _ _ _ h1 h2 e1 e2
  own:=fun k' c' l' h1 h2=>by
   obtain⟨h1,h2⟩:=old _ _ _ h1 h2;exact h.own _ _ _ h1 h2
  fix:=fun k' c' hx h1=>by
   rcases hin _ _ h1 with⟨rfl,_⟩|⟨hne,h1⟩
   ·exact absurd hx hkx
   ·rw[z34 _ _ _ hne];exact h.fix _ _ hx h1}
def AllLe (s:St)(es:Nat):List C→List (List D)→Prop
 |_,[]=>True
 |cs,x::r=>(x.length=es∧CsLe s [] (cs.take es) (x.map .d))∧AllLe s es (cs.drop es) r
theorem zc7: ∀{ds:List D} {vs:List Value},RelCs (RelC G (fun _=>False) φ w) (ds.map .d) vs→ ∀j,j<ds.length→ ∃u,vs[j]?=some u∧RelD G w (D.at ds j) u:=by
 intro ds vs h j hj;obtain⟨u,hu,hr⟩:=h.get j (.d (D.at ds j)) (by rw[List.getElem?_map,List.getElem?_eq_getElem hj];simp[D.at,List.getD_eq_getElem?_getD,List.getElem?_eq_getElem hj]);exact⟨u,hu,hr⟩
theorem zbt {V V':Nat→Prop}{φ':Nat→Option Loc}: ∀{ds:List D} {vs:List Value},RelCs (RelC G V φ w) (ds.map .d) vs→RelCs (RelC G V' φ' w) (ds.map .d) vs
 |[],[],_=>trivial
 |_::_,_::_,h=>⟨h.1,zbt h.2⟩
 |[],_::_,h=>h.elim
 |_::_,[],h=>h.elim
theorem AllLe.ok (h:Sim E s G φ a w){es:Nat}: ∀{xs:List (List D)} {cs:List C} {vs:List Value},AllLe s es cs xs→RelCs (RelC G E.V φ w) cs vs→z3a G w vs es xs.length (fun i=>xs.getD i [])
 |[],_,_,_,_=>fun i hi=>absurd hi (Nat.not_lt_zero i)
 |x::xs,cs,vs,⟨⟨h1,h2⟩,h3⟩,hr=>fun i hi=>by
  cases i with
  |zero=>
   refine⟨h1,fun j hj=>?_⟩;have:=h2.rel h (hr.take es)
   have:=zbt (V':=fun _=>False) (φ':=φ) (this.mono fun c _ v hc=>hc.mono (Same.refl _ _) (Same.refl _ _) (G':=G) (φ':=φ) (fun _ hb=>z8c hb) fun _ _=>rfl);obtain⟨u,hu,hd⟩:=zc7 this j (by rw[h1];exact hj);refine⟨u,?_,hd⟩;rw[List.getElem?_take,if_pos hj]at hu
   simpa using hu
  |succ i=>
   obtain⟨g1,g2⟩:=AllLe.ok h h3 (hr.drop es) i (by simpa using hi);refine⟨by simpa using g1,fun j hj=>?_⟩;obtain⟨u,hu,hd⟩:=g2 j hj;refine⟨u,?_,by simpa using hd⟩;rw[List.getElem?_drop]at hu;rw[←hu];congr 1;rw[Nat.add_mul];omega
def repC (zc:List C)(n:Nat):List C:=(List.range n).map fun j=>zc.getD (j % zc.length) .any
theorem zhx {P:Program}{t:TypeId}{z:List C}(hz:zeroCells P t=some z)(hne:z≠[])(n:Nat)(V:Nat→Prop):
 ∃v:Value,(∀w,(zeroValue t).run P w= .ok v w)∧v.cells.size=z.length∧
  RelCs (RelC G V φ w) (repC z n) ((Array.range n).map (v.cells[· % v.cells.size]!)).toList∧(∀u∈((Array.range n).map (v.cells[· % v.cells.size]!)).toList,u.oneCell'=true):=by
 obtain⟨v,h1,h2,h3⟩:=z5c hz;have hsz:v.cells.size=z.length:=by rw[←h2];simp
 have hpos:0<v.cells.size:=by rw[hsz];exact List.length_pos_iff.2 hne
 have hl:((Array.range n).map (v.cells[· % v.cells.size]!)).toList=(List.range n).map fun j=>v.cells[j % v.cells.size]! :=by simp
 refine⟨v,h1,hsz,?_,?_⟩
 ·rw[hl];have hr:repC z n=((List.range n).map fun j=>v.cells[j % v.cells.size]!).map z6p:=by
   unfold repC;rw[List.map_map];apply List.map_congr_left;intro j _;have hlt:j % v.cells.size<v.cells.size:=Nat.mod_lt _ hpos
   subst h2;simp[List.getD_eq_getElem?_getD,hlt]
  rw[hr];exact z50 G V φ w _
 ·rw[hl];intro u hu;obtain⟨j,_,rfl⟩:=zzf.1 hu;have hlt:j % v.cells.size<v.cells.size:=Nat.mod_lt _ hpos
  apply h3;simp[hlt]
theorem One.buildSlice {ops:Array Oper}{o:Oper}{t e:TypeId}{len es d:Nat}{parts:Array (Nat×Operand)}{z cells:List C}{xs:List (List D)}
 (hop:o.op= .buildSlice t len parts) (hw:z0o ops s o=some true) (hd:o.dst=some d) (hlt:Nat.blt d E.N=true) (hnr:s.noRef d=true)
 (hu:E.P.underlying t=some (.slice e)) (hsz:sizeT E.P e=some es) (hz:zeroCells E.P e=some z) (hze:Nat.beq z.length es=true) (hes:Nat.blt 0 es=true) (hle:Nat.ble (len*es) 16777216=true)
 (hf:fillC (fun i=>some (i*es,es)) (repC z (len*es)) (parts.toList.map fun p=>(p.1,evO s p.2))=some cells) (hlen:Nat.beq xs.length len=true) (hall:AllLe s es cells xs):
 One E ops o s ((s.slot d (.vec es len (fun i=>xs.getD i []))).put d (.c (.own d es 0 len))):=fun a w hs=>by
 obtain⟨G,φ,h⟩:=hs;refine⟨z1o h hw,fun next Q hn=>?_⟩;have hze:=zz4 hze
 have hlen:=zz4 hlen;have hle:=zz7 hle
 have hes:=zzk.mp hes;have hzne:z≠[]:=by rintro rfl;simp at hze;omega
 obtain⟨zv,z1,z2,z3,z4⟩:=zhx (G:=G) (φ:=φ) (w:=w) hz hzne (len*es) E.V;obtain⟨vs',r1,r2,r3⟩:=zan (P:=E.P) parts.toList h z3 z4 hf;have hcl:cells.length=len*es:=by
  have: ∀(ps:List (Nat×Option AV)) (cs cs':List C),fillC (fun i=>some (i*es,es)) cs ps=some cs'→cs'.length=cs.length:=by
   intro ps;induction ps with
   |nil=>intro cs cs' h;cases h;rfl
   |cons p ps ih=>
    intro cs cs' h;obtain⟨i,x⟩:=p;cases x with
    |none=>cases h
    |some x=>
     simp only[fillC]at h;split at h
     ·split at h
      ·rename_i hb2
       split at h
       ·rename_i hle2
        rw[ih _ _ h];have e1:=zz4 hb2;have e2:=zz7 hle2
        simp[wr];omega
       ·cases h
      ·cases h
     ·cases h
  rw[this _ _ _ hf];simp[repC]
 have hrun:(Instr.buildSlice t len (parts.map fun p=>(p.1,a.eval p.2))).run E.P w= .ok (.slice (some ⟨w.heap.size,0,none⟩) len len) (w.alloc (.cells vs' e)):=by
  unfold Instr.buildSlice;simp only[zz5,run_underlying hu,zz1,z27 hsz,Array.toList_map];rw[if_neg (by omega)];by_cases h0:len*es=0
  ·have hv:((Array.range (len*es)).map (zv.cells[· % zv.cells.size]!))= #[]:=by rw[h0];simp
   rw[hv]at r1;have hr0: ∀f:Nat→Value,(Array.range 0).map f= #[]:=fun f=>by simp
   simp only[h0,if_true,zz5,zza,zz1];rw[hr0,r1];simp[z5i]
  ·simp[h0,z1,r1,z5i]
 have hsize:vs'.size=len*es:=by have:=r2.length;rw[hcl]at this;simpa using this.symm
 have hmx:len≤maxN:=by
  have:len≤len*es:=Nat.le_mul_of_pos_right _ hes;unfold maxN;omega
 have hs':=h.newVec (k:=d) (h.notFx (zzk.mp hlt)) hnr e hsize (zze len) hmx (hlen▸AllLe.ok h hall r2);unfold Oper.wp;have he:execOp a.eval o=(do pure (.value (←Instr.buildSlice t len (parts.map fun p=>(p.1,a.eval p.2)))):Sem Next):=by unfold execOp;rw[hop]
 rw[he];simp only[zz5,hrun,zz1,zza,Oper.upon,hd];refine hn _ _ ⟨G,_,hs'.put (zzk.mp hlt) (z0h (.inr ⟨_,z3w _ _ _,(show 0+len≤len by omega),?_⟩) rfl)⟩;simp
end
end Go.Av
/-
 Av,part O:append.
-/
namespace Go.Av
open Go
inductive SrcOf (s:St):AV→Nat→Nat→(Nat→List D)→Prop
 |zero (es:Nat) (get:Nat→List D):SrcOf s (.c .zero) es 0 get
 |list {es m m':Nat} {get get':Nat→List D} (hm:m'=m) (h: ∀i,i<m→get' i=get i):SrcOf s (.c (.d (.list es m get))) es m' get'
 |view {es m m':Nat} {get get':Nat→List D} (hm:m'=m) (h: ∀i,i<m→get' i=get i):SrcOf s (.c (.view es m get)) es m' get'
 |own {k es off m m' n:Nat} {get get':Nat→List D} (hk:look s.sl k=some (.vec es n get)) (hl:off+m≤n) (hm:m'=m) (h: ∀i,i<m→get' i=get (off+i)):SrcOf s (.c (.own k es off m)) es m' get'
def lim:Nat:=274877906944
section
variable {E:Env} {s:St} {G:Nat→Prop} {φ:Nat→Option Loc} {a:Act} {w:World}
theorem zkq {m es k:Nat}(h:k<m*es):k / es<m∧k % es<es∧k=k / es*es+k % es:=by
 have hpos:0<es:=by
  rcases Nat.eq_zero_or_pos es with h0|h0
  ·subst h0;simp at h
  ·exact h0
 refine⟨(Nat.div_lt_iff_lt_mul hpos).2 h,Nat.mod_lt _ hpos,?_⟩;have:=Nat.div_add_mod k es
 rw[Nat.mul_comm]at this;exact this.symm
theorem z4z {i j m es:Nat}(hi:i<m)(hj:j<es):i*es+j<m*es:=by
 calc i*es+j<i*es+es:=by omega
  _=(i+1)*es:=by rw[Nat.add_mul,Nat.one_mul]
  _≤m*es:=Nat.mul_le_mul_right es hi
theorem zbu {P:Program}{b off es m:Nat}{get:Nat→List D}(he:z3i G w b off es m get):
 ∃us:List Value,us.length=m*es∧z3a G w us es m get∧(∀w',w'.heap=w.heap→(loadCells ⟨b,off,none⟩ (m*es)).run P w'= .ok us.toArray w')∧ ∀u∈us,u.oneCell'=true:=by
 have hex: ∀k,k<m*es→ ∃u,w.cell? ⟨b,off+k,none⟩=some u∧u.oneCell'=true:=fun k hk=>by
  obtain⟨h1,h2,h3⟩:=zkq hk;obtain⟨g1,g2⟩:=he _ h1;obtain⟨u,hu,hr⟩:=g2 (k % es) (by rw[g1];exact h2);exact⟨u,by rw[←hu];congr 2;omega,hr.one⟩
 refine⟨(List.range (m*es)).map fun k=>(w.cell? ⟨b,off+k,none⟩).getD undef,by simp,fun i hi=>⟨(he i hi).1,fun j hj=>?_⟩,?_,fun u hu=>?_⟩
 ·obtain⟨g1,g2⟩:=he i hi;obtain⟨u,hu,hr⟩:=g2 j (by rw[g1];exact hj);have hlt:=z4z hi hj
  refine⟨u,?_,hr⟩;have:w.cell? ⟨b,off+(i*es+j),none⟩=some u:=by rw[←hu];congr 2;omega
  simp[List.getElem?_map,List.getElem?_range hlt,this]
 ·intro w' hw';rw[run_loadCells w' ⟨b,off,none⟩ (m*es) (fun k=>(w.cell? ⟨b,off+k,none⟩).getD undef) fun k hk=>by
   rw[Addr.add_mid,World.cell?_of_block (w:=w) (w':=w') (by rw[hw'])];obtain⟨u,hu,_⟩:=hex k hk;rw[hu];rfl]
 ·obtain⟨k,hk,rfl⟩:=zzf.1 hu;obtain⟨u,hu,h1⟩:=hex k (by simpa using hk);rw[hu];exact h1
theorem SrcOf.load (h:Sim E s G φ a w){x:AV}{es m:Nat}{get:Nat→List D}(hx:SrcOf s x es m get){v:Value}(hv:RAV E G φ w x v):
 ∃A cap,v= .slice A m cap∧m≤maxN∧ ∃us:List Value,us.length=m*es∧z3a G w us es m get∧(∀w',w'.heap=w.heap→(Builtin.firstCells es m v).run E.P w'= .ok us.toArray w')∧ ∀u∈us,u.oneCell'=true:=by
 have none0: ∀A cap,v= .slice A 0 cap→ ∃A cap,v= .slice A 0 cap∧0≤maxN∧ ∃us:List Value,us.length=0*es∧z3a G w us es 0 get∧(∀w',w'.heap=w.heap→(Builtin.firstCells es 0 v).run E.P w'= .ok us.toArray w')∧ ∀u∈us,u.oneCell'=true:=fun A cap e=>by
  refine⟨A,cap,e,Nat.zero_le _,[],by simp,fun i hi=>absurd hi (Nat.not_lt_zero i),?_,by simp⟩;intro w' _;rw[e];cases A<;>simp[Builtin.firstCells,loadCells,loadCellsFrom]
 have some1: ∀(b off cap n:Nat) (get0:Nat→List D),m≤maxN→v= .slice (some ⟨b,off,none⟩) m cap→z3i G w b off es m get0→(∀i,i<m→get i=get0 i)→
  ∃A cap,v= .slice A m cap∧m≤maxN∧ ∃us:List Value,us.length=m*es∧z3a G w us es m get∧(∀w',w'.heap=w.heap→(Builtin.firstCells es m v).run E.P w'= .ok us.toArray w')∧ ∀u∈us,u.oneCell'=true:=fun b off cap n get0 hm e he hg=>by
  obtain⟨us,h1,h2,h3,h4⟩:=zbu (P:=E.P) he;exact⟨_,cap,e,hm,us,h1,fun i hi=>by rw[hg i hi];exact h2 i hi,by rw[e];exact h3,h4⟩
 cases hx with
 |zero=>obtain⟨A,e⟩:=hv.1;exact none0 A 0 e
 |list hm hg=>
  subst hm;rcases RelD.elems hv.1 with⟨h0,A,cap,e⟩|⟨b,off,cap,hb,e,hn,hmx,he⟩
  ·subst h0;exact none0 A cap e
  ·exact some1 b off cap 0 _ hmx e he hg
 |view hm hg=>
  subst hm;rcases hv.1 with⟨h0,A,cap,e⟩|⟨b,off,cap,hb,e,hn,hmx,he⟩
  ·subst h0;exact none0 A cap e
  ·exact some1 b off cap 0 _ hmx e he hg
 |own hk hl hm hg=>
  subst hm;rcases hv.1 with⟨h0,A,e⟩|⟨l,hl',hle,e⟩
  ·subst h0;exact none0 A 0 e
  ·obtain⟨hmx,hs|⟨l',hl'',hn,_,he⟩⟩:=h.sl _ _ hk
   ·rw[hl']at hs;cases hs.1
   ·rw[hl']at hl'';cases hl'';exact some1 _ _ _ 0 _ (by omega) e (he.part hl) hg
def z8l (P:Program)(t:TypeId):Option Nat:=(P.info? t).map (·.bytes)
theorem zgj (newLen:Nat): ∀(r c:Nat),c≤2*newLen+192→Builtin.growBy newLen r c≤2*newLen+192
 |0,c,h=>h
 |r+1,c,h=>by
  unfold Builtin.growBy;split
  ·exact h
  ·exact zgj newLen r _ (by omega)
theorem zf6 {need old:Nat}(h:old<need):Builtin.nextslicecap need old≤2*need+192:=by
 unfold Builtin.nextslicecap;split
 ·omega
 ·split
  ·omega
  ·exact zgj need 4 old (by omega)
theorem zav {P:Program}{sT xT ty e:TypeId}{es m sLen sCap:Nat}{A:Option Addr}{v:Value}{us:List Value}{cap':Nat}{A':Option Addr}
 (hu:P.underlying sT=some (.slice e)) (hx: ∃e',P.underlying xT=some (.slice e')) (hsz:sizeT P e=some es)
 (hv:v= .slice A' m cap') (hf:(Builtin.firstCells es m v).run P w= .ok us.toArray w) (hroom:sLen+m≤sCap) {w':World}
 (hst:match A with|some A=>(storeCells (A.add (sLen*es)) us).run P w= .ok () w'|none=>w'=w):
 (Builtin.append_ #[sT,xT] ty #[.slice A sLen sCap,v]).run P w= .ok (.slice A (sLen+m) sCap) w':=by
 obtain⟨e',hx⟩:=hx;subst hv;unfold Builtin.append_;simp only[List.getElem?_toArray,List.getElem?_cons_zero,List.getElem?_cons_succ,zz5,run_underlying hu,run_underlying hx,zz1,z27 hsz,zza,
  Bool.false_eq_true,if_false,Builtin.lenOf]
 rw[if_pos hroom];simp only[Bool.not_false,if_true,zz5,hf,zz1];cases A with
 |none=>simp only at hst;subst hst;rfl
 |some A=>simp only at hst;simp[hst]
theorem ze2 {P:Program}{sT xT ty e:TypeId}{es bs m sLen sCap:Nat}{A A':Option Addr}{v:Value}{us old:List Value}{cap':Nat}{zv:Value}
 (hu:P.underlying sT=some (.slice e)) (hx: ∃e',P.underlying xT=some (.slice e')) (hsz:sizeT P e=some es) (hbs:z8l P e=some bs) (hb:bs≤256)
 (hv:v= .slice A' m cap') (hf: ∀w',w'.heap=w.heap→(Builtin.firstCells es m v).run P w'= .ok us.toArray w') (ho: ∀w',w'.heap=w.heap→(Builtin.firstCells es sLen (.slice A sLen sCap)).run P w'= .ok old.toArray w')
 (hz: ∀w,(zeroValue e).run P w= .ok zv w) (hzs:zv.cells.size=es) (hno:sCap<sLen+m) (hlim:sLen+m≤lim) (hol:old.length=sLen*es) (hul:us.length=m*es):
 ∃(newCap:Nat) (vs:Array Value) (w':World),sLen+m≤newCap∧vs.size=newCap*es∧(∀k,k<(sLen+m)*es→vs[k]?=(old++us)[k]?)∧
  w'.heap=w.heap∧w'.os=w.os∧Tp w w'∧w'.output=w.output∧
  (Builtin.append_ #[sT,xT] ty #[.slice A sLen sCap,v]).run P w= .ok (.slice (some ⟨w.heap.size,0,none⟩) (sLen+m) newCap) (w'.alloc (.cells vs e)):=by
 obtain⟨e',hx⟩:=hx;subst hv
 let q:Question:= .appendCap (sLen+m) sCap e
 let newCap:=q.cut (w.tape w.drawn q)
 have hge:sLen+m≤newCap:=Nat.le_add_right _ _;refine⟨newCap,old.toArray++us.toArray++Builtin.zeroCells zv.cells (newCap-(sLen+m)),{w with drawn:=w.drawn+1},hge,?_,fun k hk=>?_,rfl,rfl,⟨rfl,Nat.le_succ _⟩,rfl,?_⟩
 ·simp only[Array.size_append,List.size_toArray,hol,hul,Builtin.zeroCells,Array.size_map,Array.size_range,hzs];rw[←Nat.add_mul,←Nat.add_mul];congr 1;omega
 ·have hl:k<(old++us).length:=by simp[hol,hul];rw[←Nat.add_mul];exact hk
  rw[Array.getElem?_append_left (by simpa using hl)];simp
 ·have hbig: ¬(Builtin.nextslicecap (sLen+m) sCap*bs>2^48):=by
   have h1:=zf6 hno;have h2:Builtin.nextslicecap (sLen+m) sCap≤2*lim+192:=by omega
   have h3:Builtin.nextslicecap (sLen+m) sCap*bs≤(2*lim+192)*256:=Nat.mul_le_mul h2 hb;have h4:(2*lim+192)*256≤2^48:=by decide
   omega
  have hinfo:(typeInfo e).run P w= .ok ((P.info? e).getD zzd) w:=by
   unfold sizeT at hsz;cases hi:P.info? e with
   |none=>simp[hi]at hsz
   |some i=>simp[typeInfo,hi]
  have hbytes:((P.info? e).getD zzd).bytes=bs:=by
   unfold z8l at hbs;cases hi:P.info? e with
   |none=>simp[hi]at hbs
   |some i=>simpa [hi]using hbs
  unfold Builtin.append_;simp only[List.getElem?_toArray,List.getElem?_cons_zero,List.getElem?_cons_succ,zz5,run_underlying hu,run_underlying hx,zz1,z27 hsz,zza,
   Bool.false_eq_true,if_false,Builtin.lenOf]
  rw[if_neg (by omega)];simp only[zz5,hinfo,zz1,hbytes];have hmax:zzi.max=9223372036854775807:=by decide
  have hsmall: ¬(((sLen+m:Nat):Int)>zzi.max∧(False∨bs=0)):=by
   rintro⟨h,_⟩;rw[hmax]at h;have:lim=274877906944:=rfl
   omega
  rw[if_neg hsmall];simp only[zz5,hinfo,zz1,hbytes];rw[if_neg hbig];have hask: ∀b w',(askRoom b).run P w'= .ok () w':=fun b w'=>by unfold askRoom;split<;>rfl
  have hch:(choose (.appendCap (sLen+m) sCap e)).run P w= .ok newCap {w with drawn:=w.drawn+1}:=rfl;have hinfo':(typeInfo e).run P {w with drawn:=w.drawn+1}= .ok ((P.info? e).getD zzd) {w with drawn:=w.drawn+1}:=by
   unfold sizeT at hsz;cases hi:P.info? e with
   |none=>simp[hi]at hsz
   |some i=>simp[typeInfo,hi]
  simp only[zz5,hch,zz1,hinfo',hask,Bool.not_false,if_true,hz,z5i,zza];rw[ho {w with drawn:=w.drawn+1} rfl];simp only[zz1];rw[hf {w with drawn:=w.drawn+1} rfl];rfl
theorem Rowed.setCells {es:Nat}{w:World}{b o n:Nat}(h:Rowed es w b o n)(b' o':Nat)(vs:List Value):Rowed es (w.setCells b' o' vs) b o n:=
 ⟨World.there_setCells h.1 _ _ _,fun h1 x=>by rw[World.frozen?_setCells];exact h.2 h1 x⟩
theorem zj8 (h:Sim E s G φ a w){k es n N:Nat}{get:Nat→List D}(hk:look s.sl k=some (.vec es N get))(hn:n≤N){v:Value}(hv:RelC G E.V φ w (.own k es 0 n) v):
 ∃A cap,v= .slice A n cap∧ ∃us:List Value,us.length=n*es∧z3a G w us es n get∧(∀w',w'.heap=w.heap→(Builtin.firstCells es n v).run E.P w'= .ok us.toArray w')∧
  ((n=0∧cap=0)∨ ∃l,φ k=some l∧A=some ⟨l.blk,l.off,none⟩∧cap=l.cap∧n≤l.cap∧Rowed es w l.blk l.off (l.cap*es)∧z3i G w l.blk l.off es N get):=by
 rcases hv with⟨h0,A,e⟩|⟨l,hl,hle,e⟩
 ·subst h0;refine⟨A,0,e,[],by simp,fun i hi=>absurd hi (Nat.not_lt_zero i),fun w' _=>?_,.inl ⟨rfl,rfl⟩⟩;rw[e];cases A<;>simp[Builtin.firstCells,loadCells,loadCellsFrom]
 ·obtain⟨hmx,hs|⟨l',hl',hn',ht,he⟩⟩:=h.sl _ _ hk
  ·rw[hl]at hs;cases hs.1
  ·rw[hl]at hl';cases hl';have he0:z3i G w l.blk l.off es n get:=fun i hi=>he i (by omega)
   obtain⟨us,h1,h2,h3,h4⟩:=zbu (P:=E.P) he0;refine⟨_,_,e,us,h1,h2,fun w' hw'=>?_,.inr ⟨l,hl,by simp,by simp,by omega,ht,he⟩⟩;rw[e];have:=h3 w' hw'
   simpa [Builtin.firstCells]using this
def z8i (n:Nat)(get get':Nat→List D):Nat→List D:=fun i=>if i<n then get i else get' (i-n)
theorem zkb {es n m:Nat}{get get':Nat→List D}{old us:List Value}(hol:old.length=n*es)(h1:z3a G w old es n get)(h2:z3a G w us es m get'):
 z3a G w (old++us) es (n+m) (z8i n get get'):=fun i hi=>by
 unfold z8i;by_cases hin:i<n
 ·rw[if_pos hin];obtain⟨g1,g2⟩:=h1 i hin;refine⟨g1,fun j hj=>?_⟩;obtain⟨u,hu,hr⟩:=g2 j hj;exact⟨u,by rw[List.getElem?_append_left (by rw[hol];exact z4z hin hj)];exact hu,hr⟩
 ·rw[if_neg hin];obtain⟨g1,g2⟩:=h2 (i-n) (by omega);refine⟨g1,fun j hj=>?_⟩;obtain⟨u,hu,hr⟩:=g2 j hj;refine⟨u,?_,hr⟩;have e:i*es+j=n*es+((i-n)*es+j):=by
   have:i=n+(i-n):=by omega
   rw[this,Nat.add_mul];have:n+(i-n)-n=i-n:=by omega
   rw[this];omega
  rw[e,List.getElem?_append_right (by omega),hol];have:n*es+((i-n)*es+j)-n*es=(i-n)*es+j:=by omega
  rw[this];exact hu
theorem z3a.ofPre {es n:Nat}{get:Nat→List D}{vs us:List Value}(h:z3a G w us es n get)(hp: ∀k,k<n*es→vs[k]?=us[k]?):z3a G w vs es n get:=fun i hi=>by
 obtain⟨g1,g2⟩:=h i hi;refine⟨g1,fun j hj=>?_⟩;obtain⟨u,hu,hr⟩:=g2 j hj;exact⟨u,by rw[hp _ (z4z hi hj)];exact hu,hr⟩
structure AppOk (P:Program) (sT xT e:TypeId) (es:Nat):Prop where
 u:P.underlying sT=some (.slice e)
 x: ∃e',P.underlying xT=some (.slice e')
 sz:sizeT P e=some es
 b: ∃bs,z8l P e=some bs∧bs≤256
 z: ∃z,zeroCells P e=some z∧z.length=es
theorem AppOk.zero {P:Program}{sT xT e:TypeId}{es:Nat}(h:AppOk P sT xT e es): ∃zv:Value,(∀w,(zeroValue e).run P w= .ok zv w)∧zv.cells.size=es:=by
 obtain⟨z,hz,hl⟩:=h.z;obtain⟨zv,h1,h2,_⟩:=z5c hz;exact⟨zv,h1,by rw[←hl,←h2];simp⟩
theorem z6g {ops:Array Oper}{o:Oper}{d:Nat}{sT xT e:TypeId}{es m:Nat}{b x:Operand}{y:AV}{get:Nat→List D}
 (hop:o.op= .call ⟨.builtin .append, #[b,x], #[sT,xT]⟩) (hw:z0o ops s o=some true) (hd:o.dst=some d) (hlt:Nat.blt d E.N=true) (hnr:s.noRef d=true)
 (hok:AppOk E.P sT xT e es) (hb:evO s b=some (.c .zero)) (hx:evO s x=some y) (hsrc:SrcOf s y es m get) (hlim:m≤lim):
 One E ops o s ((s.slot d (.vec es m get)).put d (.c (.own d es 0 m))):=fun a w hs=>by
 obtain⟨G,φ,h⟩:=hs;refine⟨z1o h hw,fun next Q hn=>?_⟩;obtain⟨A,hA⟩:=(h.ev hb).1;obtain⟨A',cap',hv,hmx,us,hul,hcs,hf,h1⟩:=hsrc.load h (h.ev hx);have he:execOp a.eval o=(do pure (.value (←Builtin.append_ #[sT,xT] o.type #[a.eval b,a.eval x])):Sem Next):=by
  unfold execOp;rw[hop];simp[resolve,invoke,builtin]
 unfold Oper.wp;rw[he,hA];by_cases h0:m=0
 ·subst h0;have hr:=zav (P:=E.P) (w:=w) (ty:=o.type) (sLen:=0) (sCap:=0) (A:=A) (w':=w) hok.u hok.x hok.sz hv (hf w rfl) (by omega) (by
   cases A with
   |none=>rfl
   |some A=>
    have:us=[]:=by cases us<;>simp_all
    subst this;rfl)
  simp only[zz5,hr,zz1,zza,Oper.upon,hd];exact hn _ _ ⟨G,_,(h.newVec0 (k:=d) (h.notFx (zzk.mp hlt)) hnr es get).put (zzk.mp hlt) (z0h (.inl ⟨rfl,_,rfl⟩) rfl)⟩
 ·obtain⟨bs,hbs,hb2⟩:=hok.b;obtain⟨zv,hz,hzs⟩:=hok.zero;obtain⟨newCap,vs,w1,c1,c2,c3,c4,c5,c6,c7,hr⟩:=ze2 (P:=E.P) (w:=w) (ty:=o.type) (sLen:=0) (sCap:=0) (A:=A) (old:=[]) hok.u hok.x hok.sz hbs hb2 hv hf
   (fun w' _=>by cases A<;>simp[Builtin.firstCells,loadCells,loadCellsFrom]) hz hzs (by omega) (by omega) (by simp) hul
  simp only[zz5,hr,zz1,zza,Oper.upon,hd];have hw1:=h.world c4 c5 c6 c7
  have hcs1:z3a G w1 us es m get:=fun i hi=>⟨(hcs i hi).1,fun j hj=>by
   obtain⟨u,hu,hr⟩:=(hcs i hi).2 j hj;exact⟨u,hu,hr.mono (fun b _=>by rw[c4]) fun _ h=>h⟩⟩
  simp only[zzb,List.nil_append]at c1 c3 hr ⊢;have:=hw1.newVec (k:=d) (h.notFx (zzk.mp hlt)) hnr e c2 c1 hmx (hcs1.ofPre fun k hk=>by simpa using c3 k hk)
  rw[←c4];exact hn _ _ ⟨G,_,this.put (zzk.mp hlt) (z0h (.inr ⟨_,z3w _ _ _,(show 0+m≤newCap by omega),by simp⟩) rfl)⟩
theorem Sim.dropKeep {k es n:Nat}{get:Nat→List D}(h:Sim E (s.slot k (.vec es n get)) G φ a w):Sim E ((s.drop k).slot k (.vec es n get)) G φ a w:=by
 have hd:=h.drop k;have e:((s.slot k (.vec es n get)).drop k).sl=(s.drop k).sl:=by
  simp only[St.drop,St.slot,z3k];have:Nat.beq k k=true:=by simp
  rw[this]
 have hin: ∀j c,look ((s.drop k).slot k (.vec es n get)).sl j=some c→(j=k∧c= .vec es n get)∨(j≠k∧look ((s.slot k (.vec es n get)).drop k).sl j=some c):=fun j c hc=>by
  rw[e];simp only[St.slot,z0x]at hc;by_cases ej:k=j
  ·subst ej;rw[if_pos rfl]at hc;cases hc;exact .inl ⟨rfl,rfl⟩
  ·rw[if_neg ej]at hc;exact .inr ⟨fun x=>ej x.symm,hc⟩
 have hk:look (s.slot k (.vec es n get)).sl k=some (.vec es n get):=by simp[St.slot,z0x]
 have hol: ∀j c,look ((s.drop k).slot k (.vec es n get)).sl j=some c→ ∃c0,look (s.slot k (.vec es n get)).sl j=some c0:=fun j c hc=>by
  rcases hin j c hc with⟨rfl,rfl⟩|⟨hne,hc⟩
  ·exact⟨_,hk⟩
  ·simp only[St.drop,z6q]at hc;rw[if_neg hne]at hc;cases hl:look (s.slot k (.vec es n get)).sl j with
   |none=>rw[hl]at hc;cases hc
   |some c0=>exact⟨c0,rfl⟩
 exact
 {h with
  tm:=hd.tm
  sl:=fun j c hc=>by
   rcases hin j c hc with⟨rfl,rfl⟩|⟨_,hc⟩
   ·exact h.sl _ _ hk
   ·exact hd.sl _ _ hc
  inj:=fun j j' c c' l l' h1 h2=>by
   obtain⟨_,h1⟩:=hol _ _ h1;obtain⟨_,h2⟩:=hol _ _ h2;exact h.inj _ _ _ _ _ _ h1 h2
  own:=fun j c l h1=>by
   obtain⟨_,h1⟩:=hol _ _ h1;exact h.own _ _ _ h1
  fix:=fun j c hx h1=>by
   obtain⟨_,h1⟩:=hol _ _ h1;exact h.fix _ _ hx h1}
theorem zgw {ops:Array Oper}{o:Oper}{d k:Nat}{sT xT e:TypeId}{es n N m:Nat}{b x:Operand}{y:AV}{get get':Nat→List D}(hkx:anyB (Nat.beq k) E.fx=false)
 (hop:o.op= .call ⟨.builtin .append, #[b,x], #[sT,xT]⟩) (hw:z0o ops s o=some true) (hd:o.dst=some d) (hlt:Nat.blt d E.N=true)
 (hok:AppOk E.P sT xT e es) (hb:evO s b=some (.c (.own k es 0 n))) (hk:look s.sl k=some (.vec es N get)) (hnN:n≤N) (hx:evO s x=some y) (hsrc:SrcOf s y es m get') (hlim:n+m≤lim):
 One E ops o s (((s.drop k).slot k (.vec es (n+m) (z8i n get get'))).put d (.c (.own k es 0 (n+m)))):=fun a w hs=>by
 obtain⟨G,φ,h⟩:=hs;refine⟨z1o h hw,fun next Q hn=>?_⟩;obtain⟨A,cap,hA,old,hol,hoc,hof,hcase⟩:=zj8 h hk hnN (h.ev hb).1;obtain⟨A',cap',hv,hmx,us,hul,hcs,hf,h1⟩:=hsrc.load h (h.ev hx);have hmx':n+m≤maxN:=by have:lim=274877906944:=rfl;have:maxN=281474976710656:=rfl;omega
 have he:execOp a.eval o=(do pure (.value (←Builtin.append_ #[sT,xT] o.type #[a.eval b,a.eval x])):Sem Next):=by
  unfold execOp;rw[hop];simp[resolve,invoke,builtin]
 unfold Oper.wp;rw[he,hA];by_cases hroom:n+m≤cap
 ·--there is room
  rcases hcase with⟨h0,hc0⟩|⟨l,hl,hAl,hcl,hnl,ht,hel⟩
  ·have hm0:m=0:=by omega
   subst h0 hc0 hm0;have hr:=zav (P:=E.P) (w:=w) (ty:=o.type) (sLen:=0) (sCap:=0) (A:=A) (w':=w) hok.u hok.x hok.sz hv (hf w rfl) hroom (by
    have:us=[]:=by cases us<;>simp_all
    subst this;cases A with
    |none=>rfl
    |some A=>rfl)
   simp only[zz5,hr,zz1,zza,Oper.upon,hd];exact hn _ _ ⟨G,_,((h.drop k).newVec0 (k:=k) (z7w hkx) (zc1 k s) es (z8i 0 get get')).put (zzk.mp hlt) (z0h (.inl ⟨rfl,A,rfl⟩) rfl)⟩
  ·subst hAl hcl;have e1:(n+m)*es≤l.cap*es:=Nat.mul_le_mul_right es hroom
   have htt:w.there l.blk (l.off+n*es) us.length:=fun j hj=>by
    rw[Nat.add_assoc];refine ht.1 (n*es+j) ?_;rw[Nat.add_mul]at e1;omega
   have hstore:=run_storeCells_cells (P:=E.P) l.blk (l.off+n*es) us 0 w (fun j hj=>(by simpa using htt j hj:_∧_).1) (fun j hj=>(by simpa using htt j hj:_∧_).2) h1;simp only[Nat.add_zero]at hstore;have hr:=zav (P:=E.P) (w:=w) (ty:=o.type) (sLen:=n) (sCap:=l.cap) (A:=some ⟨l.blk,l.off,none⟩) (w':=w.setCells l.blk (l.off+n*es) us) hok.u hok.x hok.sz hv (hf w rfl) hroom
    (by simp only[Addr.add_mid];exact hstore)
   simp only[zz5,hr,zz1,zza,Oper.upon,hd];obtain⟨f1,f2,f3,f4,f5⟩:=z5n l.blk us (l.off+n*es) w;have hsame:Same G w (w.setCells l.blk (l.off+n*es) us):=fun b hb=>f5 b fun e=>(h.own k _ l hk hl).1 (e▸hb)
   have hturn:Sim E (s.slot k (.vec es (n+m) (z8i n get get'))) G φ a (w.setCells l.blk (l.off+n*es) us):=by
    refine h.turn hk hl f1 f2 f3 f4 f5 ⟨hmx',.inr ⟨l,hl,hroom,ht.setCells _ _ _,fun i hi=>?_⟩⟩;unfold z8i;by_cases hin:i<n
    ·rw[if_pos hin];obtain⟨g1,g2⟩:=hel i (by omega);refine⟨g1,fun j hj=>?_⟩;obtain⟨u,hu,hr⟩:=g2 j hj;refine⟨u,?_,hr.mono hsame fun _ h=>h⟩;rw[World.cell?_setCells_out l.blk us (l.off+n*es) w _ (fun _ _=>by
      left;show l.off+i*es+j<l.off+n*es;have:=z4z hin (show j<es by omega)
      omega)]
     exact hu
    ·rw[if_neg hin];obtain⟨g1,g2⟩:=hcs (i-n) (by omega);refine⟨g1,fun j hj=>?_⟩;obtain⟨u,hu,hr⟩:=g2 j (by omega);have hlt':=z4z (show i-n<m by omega) (show j<es by omega)
     have hin':=World.cell?_setCells_in l.blk us (l.off+n*es) w (fun q hq=>(htt q hq).1) ((i-n)*es+j) (by omega);refine⟨u,?_,hr.mono hsame fun _ h=>h⟩;have e2:l.off+i*es+j=l.off+n*es+((i-n)*es+j):=by
      have:i=n+(i-n):=by omega
      rw[this,Nat.add_mul];have:n+(i-n)-n=i-n:=by omega
      rw[this];omega
     rw[e2,hin',←hu,List.getElem?_eq_getElem (by omega)]
   exact hn _ _ ⟨G,φ,hturn.dropKeep.put (zzk.mp hlt) (z0h (.inr ⟨l,hl,(show 0+(n+m)≤l.cap by omega),by simp⟩) rfl)⟩
 ·obtain⟨bs,hbs,hb2⟩:=hok.b;obtain⟨zv,hz,hzs⟩:=hok.zero;obtain⟨newCap,vs,w1,c1,c2,c3,c4,c5,c6,c7,hr⟩:=ze2 (P:=E.P) (w:=w) (ty:=o.type) (sLen:=n) (sCap:=cap) (A:=A) (old:=old) hok.u hok.x hok.sz hbs hb2 hv hf
   (fun w' hw'=>by have:=hof w' hw';rw[hA]at this;exact this) hz hzs (by omega) hlim hol hul
  simp only[zz5,hr,zz1,zza,Oper.upon,hd];have hw1:=(h.drop k).world c4 c5 c6 c7
  have hcs1:z3a G w1 (old++us) es (n+m) (z8i n get get'):=fun i hi=>by
   obtain⟨g1,g2⟩:=zkb hol hoc hcs i hi;refine⟨g1,fun j hj=>?_⟩;obtain⟨u,hu,hr⟩:=g2 j hj;exact⟨u,hu,hr.mono (fun b _=>by rw[c4]) fun _ h=>h⟩
  have:=hw1.newVec (k:=k) (z7w hkx) (zc1 k s) e c2 c1 hmx' (hcs1.ofPre fun q hq=>by simpa using c3 q hq);rw[←c4];exact hn _ _ ⟨G,_,this.put (zzk.mp hlt) (z0h (.inr ⟨_,z3w _ _ _,(show 0+(n+m)≤newCap by omega),by simp⟩) rfl)⟩
end
end Go.Av
/-
 Av,part P:make,stores into elements,copy,bytes and texts,structs that are compared.
-/
namespace Go.Av
open Go
def wrD (cells:List D)(o:Nat)(ds:List D):List D:=cells.take o++ds++cells.drop (o+ds.length)
def zdl (get:Nat→List D)(i:Nat)(x:List D):Nat→List D:=fun j=>if j=i then x else get j
def z92 (m:Nat)(get' get:Nat→List D):Nat→List D:=fun j=>if j<m then get' j else get j
def bytesOf (xs:List Int):ByteArray:=⟨(xs.map fun n=>UInt8.ofNat n.toNat).toArray⟩
theorem z2x {n:Int}(h0:0≤n)(h:n<9223372036854775808):zzi.wrap n=n:=by
 have e:zzi.wrap n=if n % 18446744073709551616≥9223372036854775808 then n % 18446744073709551616-18446744073709551616 else n % 18446744073709551616:=by
  simp[IntKind.wrap,IntKind.bits,IntKind.signed]
 rw[e];split<;>omega
section
variable {E:Env} {s:St} {G:Nat→Prop} {φ:Nat→Option Loc} {a:Act} {w:World}
theorem One.makeSlice {ops:Array Oper}{o:Oper}{d:Nat}{t e:TypeId}{es bs:Nat}{ln cp:Operand}{kn kc:IntKind}{n c:Int}{z:List C}{ds:List D}
 (hop:o.op= .makeSlice t ln cp) (hw:z0o ops s o=some true) (hd:o.dst=some d) (hlt:Nat.blt d E.N=true) (hnr:s.noRef d=true)
 (hu:E.P.underlying t=some (.slice e)) (hsz:sizeT E.P e=some es) (hes:Nat.blt 0 es=true) (hbs:z8l E.P e=some bs) (hb:Nat.ble bs 256=true)
 (hz:zeroCells E.P e=some z) (hze:Nat.beq z.length es=true) (hcs:CsLe s [] z (ds.map .d)) (hdl:Nat.beq ds.length es=true)
 (hn:evO s ln=some (.c (.d (.int kn n)))) (hc:evO s cp=some (.c (.d (.int kc c)))) (hb0:0≤n) (hnc:n≤c) (hlim:c≤lim):
 One E ops o s ((s.slot d (.vec es n.toNat (fun _=>ds))).put d (.c (.own d es 0 n.toNat))):=fun a w hs=>by
 obtain⟨G,φ,h⟩:=hs;refine⟨z1o h hw,fun next Q hnx=>?_⟩;have hL:(lim:Int)=274877906944:=rfl
 have hes:=zzk.mp hes;have hb:=zz7 hb
 have hze:=zz4 hze;have hdl:=zz4 hdl
 have hzne:z≠[]:=by rintro rfl;simp at hze;omega
 obtain⟨zv,z1,z2,z3,z4⟩:=zhx (G:=G) (φ:=φ) (w:=w) hz hzne (c.toNat*es) E.V;have wn:zzi.wrap n=n:=z2x hb0 (by omega)
 have wc:zzi.wrap c=c:=z2x (by omega) (by omega);have hinfo:(typeInfo e).run E.P w= .ok ((E.P.info? e).getD zzd) w:=by
  unfold sizeT at hsz;cases hi:E.P.info? e with
  |none=>simp[hi]at hsz
  |some i=>simp[typeInfo,hi]
 have hbytes:((E.P.info? e).getD zzd).bytes=bs:=by
  unfold z8l at hbs;cases hi:E.P.info? e with
  |none=>simp[hi]at hbs
  |some i=>simpa [hi]using hbs
 have hask: ∀b w',(askRoom b).run E.P w'= .ok () w':=fun b w'=>by unfold askRoom;split<;>rfl
 have hmul:(bs:Int)*c≤281474976710656:=by
  have h1:(bs:Int)*c≤256*c:=Int.mul_le_mul_of_nonneg_right (by omega) (by omega);omega
 have hsz2:(zeroValue e).run E.P w= .ok zv w:=z1 w;have hrun:(Instr.makeSlice t (a.eval ln) (a.eval cp)).run E.P w= .ok (.slice (some ⟨w.heap.size,0,none⟩) n.toNat c.toNat) (w.alloc (.cells ((Array.range (c.toNat*es)).map (zv.cells[· % zv.cells.size]!)) e)):=by
  rw[z3o (h.ev hn),z3o (h.ev hc)];unfold Instr.makeSlice;simp only[zz5,run_underlying hu,zz1,asInt,asIntOf,zza,hinfo,hbytes,wn,wc,z27 hsz];have e1:(decide (c<0)||decide ((bs:Int)*c>2^48))=false:=by
   simp only[Bool.or_eq_false_iff,decide_eq_false_iff_not];exact⟨by omega,by omega⟩
  rw[if_neg (by simp only[e1];simp;omega)];simp only[zz5,hask,zz1,zza,z27 hsz];by_cases h0:c.toNat*es=0
  ·have hr0: ∀f:Nat→Value,(Array.range 0).map f= #[]:=fun f=>by simp
   simp only[h0,if_true,zz5,zza,zz1,hr0,z5i]
  ·simp only[h0,if_false,zz5,hsz2,zza,zz1,z5i]
 have hmx:n.toNat≤maxN:=by have:maxN=281474976710656:=rfl;omega
 have hcell: ∀j,j<es→ ∃u,zv.cells.toList[j]?=some u∧RelD G w (D.at ds j) u:=fun j hj=>by
  obtain⟨zv',y1,y2,y3⟩:=z5c hz;have:zv'=zv:=by have h1:=y1 w;rw[z1 w]at h1;cases h1;rfl
  subst this;have hr:RelCs (RelC G E.V φ w) z zv'.cells.toList:=by rw[←y2];exact z50 G E.V φ w _
  have:=hcs.rel h hr;have:=zbt (V':=fun _=>False) (φ':=φ) (this.mono fun c _ v hc=>hc.mono (Same.refl _ _) (Same.refl _ _) (G':=G) (φ':=φ) (fun _ hb=>z8c hb) fun _ _=>rfl)
  exact zc7 this j (by omega)
 have hok:z3a G w ((Array.range (c.toNat*es)).map (zv.cells[· % zv.cells.size]!)).toList es n.toNat (fun _=>ds):=fun i hi=>⟨hdl,fun j hj=>by
  obtain⟨u,hu,hr⟩:=hcell j hj;refine⟨u,?_,hr⟩;have hlt:i*es+j<c.toNat*es:=z4z (by omega) hj
  have hmod:(i*es+j) % zv.cells.size=j:=by rw[z2,hze,Nat.add_comm,Nat.add_mul_mod_self_right,Nat.mod_eq_of_lt hj]
  have hu':zv.cells[j]?=some u:=by simpa using hu
  simp only[Array.toList_map,Array.toList_range,List.getElem?_map,List.getElem?_range hlt,Option.map_some,hmod];congr 1;rw[getElem!_def,hu']⟩
 have hs':=h.newVec (k:=d) (h.notFx (zzk.mp hlt)) hnr e (vs:=(Array.range (c.toNat*es)).map (zv.cells[· % zv.cells.size]!)) (cap:=c.toNat) (by simp) (by omega) hmx hok;unfold Oper.wp;have he:execOp a.eval o=(do pure (.value (←Instr.makeSlice t (a.eval ln) (a.eval cp))):Sem Next):=by unfold execOp;rw[hop]
 rw[he];simp only[zz5,hrun,zz1,zza,Oper.upon,hd];exact hnx _ _ ⟨G,_,hs'.put (zzk.mp hlt) (z0h (.inr ⟨_,z3w _ _ _,(show 0+n.toNat≤c.toNat by omega),by simp⟩) rfl)⟩
theorem zgx {ops:Array Oper}{o:Oper}{t:TypeId}{p x:Operand}{k es i o0 n sz:Nat}{get:Nat→List D}{y:AV}{xs:List C}{ds:List D}
 (hop:o.op= .store t p x) (hw:z0o ops s o=some true) (hd:dstOk E.N o.dst=true) (hp:evO s p=some (.c (.vptr k es i o0))) (hk:look s.sl k=some (.vec es n get)) (hi:i<n)
 (hx:evO s x=some y) (hst:z7g y=some xs) (hcs:CsLe s [] xs (ds.map .d)) (hsz:sizeT E.P t=some sz) (hle:Nat.beq sz ds.length=true) (hin:Nat.ble (o0+ds.length) es=true):
 One E ops o s (putO (s.slot k (.vec es n (zdl get i (wrD (get i) o0 ds)))) o.dst (.c .any)):=fun a w hs=>by
 obtain⟨G,φ,h⟩:=hs;refine⟨z1o h hw,fun next Q hnx=>?_⟩;have hle:=zz4 hle
 have hin:=zz7 hin;obtain⟨h1,h2⟩:=z8u (h.ev hx) hst;obtain⟨l,hl,hv⟩:=(z4o (h.ev hp) (by simp)).1;obtain⟨hmx,hs0|⟨l',hl',hn,ht,he⟩⟩:=h.sl k _ hk
 ·omega
 rw[hl]at hl';cases hl';have hrd:=zbt (V':=fun _=>False) (φ':=φ) ((hcs.rel h h1).mono fun c _ v hc=>hc.mono (Same.refl _ _) (Same.refl _ _) (G':=G) (φ':=φ) (fun _ hb=>z8c hb) fun _ _=>rfl)
 have hlen:=hrd.length;simp only[List.length_map]at hlen;have hbase:i*es+(o0+ds.length)≤l.cap*es:=by
  calc i*es+(o0+ds.length)≤i*es+es:=by omega
   _=(i+1)*es:=by rw[Nat.add_mul,Nat.one_mul]
   _≤l.cap*es:=Nat.mul_le_mul_right es (by omega)
 have htt:w.there l.blk (l.off+i*es+o0) (a.eval x).cells.toList.length:=fun j hj=>by
  rw[Nat.add_assoc,Nat.add_assoc];exact ht.1 (i*es+(o0+j)) (by omega)
 have hrun:(Instr.storeAt t (a.eval p) (a.eval x)).run E.P w= .ok () (w.setCells l.blk (l.off+i*es+o0) (a.eval x).cells.toList):=by
  rw[hv];exact zdk rfl (by rw[hsz];congr 1;omega) htt h2
 obtain⟨f1,f2,f3,f4,f5⟩:=z5n l.blk (a.eval x).cells.toList (l.off+i*es+o0) w;have hsame:Same G w (w.setCells l.blk (l.off+i*es+o0) (a.eval x).cells.toList):=fun b hb=>f5 b fun e=>(h.own k _ l hk hl).1 (e▸hb)
 have hturn:Sim E (s.slot k (.vec es n (zdl get i (wrD (get i) o0 ds)))) G φ a (w.setCells l.blk (l.off+i*es+o0) (a.eval x).cells.toList):=by
  refine h.turn hk hl f1 f2 f3 f4 f5 ⟨hmx,.inr ⟨l,hl,hn,ht.setCells _ _ _,fun q hq=>?_⟩⟩;obtain⟨g1,g2⟩:=he q hq;unfold zdl;by_cases e:q=i
  ·subst e;rw[if_pos rfl];have hwl:(wrD (get q) o0 ds).length=es:=by simp[wrD,g1];omega
   refine⟨hwl,fun j hj=>?_⟩;rw[hwl]at hj;by_cases hj1:j<o0
   ·obtain⟨u,hu,hr⟩:=g2 j (by omega);refine⟨u,?_,?_⟩
    ·rw[World.cell?_setCells_out l.blk _ _ w _ (fun _ _=>by left;show l.off+q*es+j<l.off+q*es+o0;omega)];exact hu
    ·have:D.at (wrD (get q) o0 ds) j=D.at (get q) j:=by
      simp only[D.at,wrD,List.getD_eq_getElem?_getD,List.append_assoc];rw[List.getElem?_append_left (by simp;omega),List.getElem?_take,if_pos hj1]
     rw[this];exact hr.mono hsame fun _ h=>h
   ·by_cases hj2:j<o0+ds.length
    ·obtain⟨u,hu,hr⟩:=zc7 hrd (j-o0) (by omega);have hin':=World.cell?_setCells_in l.blk (a.eval x).cells.toList (l.off+q*es+o0) w (fun r hr=>(htt r hr).1) (j-o0) (by omega)
     refine⟨u,?_,?_⟩
     ·have e2:l.off+q*es+j=l.off+q*es+o0+(j-o0):=by omega
      rw[e2,hin',←hu,List.getElem?_eq_getElem (by omega)]
     ·have:D.at (wrD (get q) o0 ds) j=D.at ds (j-o0):=by
       simp only[D.at,wrD,List.getD_eq_getElem?_getD,List.append_assoc];rw[List.getElem?_append_right (by simp;omega),List.getElem?_append_left (by simp;omega)];congr 2;simp;omega
      rw[this];exact hr.mono hsame fun _ h=>h
    ·obtain⟨u,hu,hr⟩:=g2 j (by omega);refine⟨u,?_,?_⟩
     ·rw[World.cell?_setCells_out l.blk _ _ w _ (fun _ _=>by right;show l.off+q*es+o0+(a.eval x).cells.toList.length≤l.off+q*es+j;omega)];exact hu
     ·have:D.at (wrD (get q) o0 ds) j=D.at (get q) j:=by
       simp only[D.at,wrD,List.getD_eq_getElem?_getD];rw[List.getElem?_append_right (by simp;omega),List.getElem?_drop];congr 2;simp;omega
      rw[this];exact hr.mono hsame fun _ h=>h
  ·rw[if_neg e];refine⟨g1,fun j hj=>?_⟩;obtain⟨u,hu,hr⟩:=g2 j hj;refine⟨u,?_,hr.mono hsame fun _ h=>h⟩;rw[World.cell?_setCells_out l.blk _ _ w _ (fun _ _=>by
    rw[g1]at hj;rcases Nat.lt_or_gt_of_ne e with hlt|hgt
    ·left;show l.off+q*es+j<l.off+i*es+o0;have:(q+1)*es≤i*es:=Nat.mul_le_mul_right es hlt
     rw[Nat.add_mul]at this;omega
    ·right;show l.off+i*es+o0+(a.eval x).cells.toList.length≤l.off+q*es+j;have:(i+1)*es≤q*es:=Nat.mul_le_mul_right es hgt
     rw[Nat.add_mul]at this;omega)]
   exact hu
 unfold Oper.wp;have hex:execOp a.eval o=(do Instr.storeAt t (a.eval p) (a.eval x);pure .skip:Sem Next):=by unfold execOp;rw[hop]
 rw[hex];simp only[zz5,hrun,zz1,zza,Oper.upon];refine hnx _ _ ⟨G,φ,?_⟩;cases hdd:o.dst with
 |none=>exact hturn
 |some d=>rw[hdd]at hd;exact hturn.put (zzk.mp hd) trivial
theorem One.copy {ops:Array Oper}{o:Oper}{k es n m:Nat}{dT sT e:TypeId}{p x:Operand}{y:AV}{get get':Nat→List D}
 (hop:o.op= .call ⟨.builtin .copy, #[p,x], #[dT,sT]⟩) (hw:z0o ops s o=some true) (hd:dstOk E.N o.dst=true)
 (hu:E.P.underlying dT=some (.slice e)) (hsz:sizeT E.P e=some es) (hp:evO s p=some (.c (.own k es 0 n))) (hk:look s.sl k=some (.vec es n get)) (hx:evO s x=some y) (hsrc:SrcOf s y es m get') (hm:m≤n):
 One E ops o s (putO (s.slot k (.vec es n (z92 m get' get))) o.dst (.c (.d (.int .i64 (m:Int))))):=fun a w hs=>by
 obtain⟨G,φ,h⟩:=hs;refine⟨z1o h hw,fun next Q hnx=>?_⟩;obtain⟨A,cap,hA,old,hol,hoc,hof,hcase⟩:=zj8 h hk (zze n) (h.ev hp).1;obtain⟨A',cap',hv,hmx,us,hul,hcs,hf,h1⟩:=hsrc.load h (h.ev hx);have he:execOp a.eval o=(do pure (.value (←Builtin.copy_ #[dT,sT] o.type #[a.eval p,a.eval x])):Sem Next):=by
  unfold execOp;rw[hop];simp[resolve,invoke,builtin]
 have hmin:Nat.min m n=m:=Nat.min_eq_left hm;have key: ∀w',(match A with|some A=>(storeCells A us).run E.P w= .ok () w'|none=>w'=w)→(Builtin.copy_ #[dT,sT] o.type #[a.eval p,a.eval x]).run E.P w= .ok (goInt m) w':=fun w' hst=>by
  rw[hA];have hf':=hf w rfl;rw[hv]at hf' ⊢;unfold Builtin.copy_;simp only[List.getElem?_toArray,List.getElem?_cons_zero,List.getElem?_cons_succ,zz5,run_underlying hu,zz1,z27 hsz,zza,Builtin.lenOf,hmin,hf'];cases A with
  |none=>simp only at hst;subst hst;rfl
  |some A=>simp only at hst;simp[hst]
 unfold Oper.wp;rw[he];rcases hcase with⟨h0,hc0⟩|⟨l,hl,hAl,hcl,hnl,ht,hel⟩
 ·have hm0:m=0:=by omega
  subst hm0;have hus:us=[]:=by cases us<;>simp_all
  subst hus;have hr:=key w (by cases A<;>rfl)
  simp only[zz5,hr,zz1,zza,Oper.upon];have e0:z92 0 get' get=get:=by funext j;simp[z92]
  rw[e0]at hnx;have hsame:Sim E (s.slot k (.vec es n get)) G φ a w:=h.weaken (fun t x hx=>hx) fun j c hc=>by
   simp only[St.slot,z0x]at hc;split at hc
   ·rename_i e;subst e;cases hc;exact hk
   ·exact hc
  refine hnx _ _ ⟨G,φ,?_⟩;cases hdd:o.dst with
  |none=>exact hsame
  |some d=>rw[hdd]at hd;exact hsame.put (zzk.mp hd) (z0h (RelD.int _ _) rfl)
 ·subst hAl hcl;have e1:m*es≤l.cap*es:=Nat.mul_le_mul_right es (by omega)
  have htt:w.there l.blk l.off us.length:=fun j hj=>ht.1 j (by omega);have hstore:=run_storeCells_cells (P:=E.P) l.blk l.off us 0 w (fun j hj=>(by simpa using htt j hj:_∧_).1) (fun j hj=>(by simpa using htt j hj:_∧_).2) h1
  simp only[Nat.add_zero]at hstore;have hr:=key (w.setCells l.blk l.off us) hstore
  simp only[zz5,hr,zz1,zza,Oper.upon];obtain⟨f1,f2,f3,f4,f5⟩:=z5n l.blk us l.off w;have hsame:Same G w (w.setCells l.blk l.off us):=fun b hb=>f5 b fun e=>(h.own k _ l hk hl).1 (e▸hb)
  have hmx':=(h.sl k _ hk).1;have hturn:Sim E (s.slot k (.vec es n (z92 m get' get))) G φ a (w.setCells l.blk l.off us):=by
   refine h.turn hk hl f1 f2 f3 f4 f5 ⟨hmx',.inr ⟨l,hl,hnl,ht.setCells _ _ _,fun i hi=>?_⟩⟩;unfold z92;by_cases hin:i<m
   ·rw[if_pos hin];obtain⟨g1,g2⟩:=hcs i hin;refine⟨g1,fun j hj=>?_⟩;obtain⟨u,hu,hr⟩:=g2 j (by omega);have hlt':=z4z hin (show j<es by omega)
    have hin':=World.cell?_setCells_in l.blk us l.off w (fun q hq=>(htt q hq).1) (i*es+j) (by omega);refine⟨u,?_,hr.mono hsame fun _ h=>h⟩;rw[Nat.add_assoc,hin',←hu,List.getElem?_eq_getElem (by omega)]
   ·rw[if_neg hin];obtain⟨g1,g2⟩:=hel i hi;refine⟨g1,fun j hj=>?_⟩;obtain⟨u,hu,hr⟩:=g2 j hj;refine⟨u,?_,hr.mono hsame fun _ h=>h⟩;rw[World.cell?_setCells_out l.blk us l.off w _ (fun _ _=>by
     right;show l.off+us.length≤l.off+i*es+j;have:m*es≤i*es:=Nat.mul_le_mul_right es (by omega)
     omega)]
    exact hu
  refine hnx _ _ ⟨G,φ,?_⟩;cases hdd:o.dst with
  |none=>exact hturn
  |some d=>rw[hdd]at hd;exact hturn.put (zzk.mp hd) (z0h (RelD.int _ _) rfl)
end
end Go.Av
/-
 Av,part Q:bytes and texts;structs that are compared.
-/
namespace Go.Av
open Go Go.Lib
section
variable {E:Env} {s:St} {G:Nat→Prop} {φ:Nat→Option Loc} {a:Act} {w:World}
end
def eqD:Option TypeDesc→D→D→Option Bool
 |some .bool,.bool x,.bool y=>some (x==y)
 |some (.int _),.int k x,.int k' y=>match decide (k=k')with|true=>some (decide (x=y))|false=>none
 |some .string,.str x,.str y=>some (strEq x y)
 |_,_,_=>none
def partC (P:Program)(t:TypeId)(xs:List C)(off:Nat):Option AV:=
 match aggT P t with
 |some true=>match sizeT P t with
  |some n=>some (.agg ((xs.drop off).take n))
  |none=>none
 |some false=>match xs.drop off with
  |x::_=>some (.c x)
  |[]=>none
 |none=>none
def eqFs (P : Program) (rec : TypeId → AV → AV → Option Bool) (xs ys : List C) : List Field → Option Bool
  | [] => some true
  | f :: fs => match decide (f.name ≠ "_") with
    | true => match partC P f.type xs f.offset, partC P f.type ys f.offset with
      | some x, some y => match rec f.type x y, eqFs P rec xs ys fs with
        | some b, some b' => some (b && b')
        | _, _ => none
      | _, _ => none
    | false => eqFs P rec xs ys fs
def eqEs (P:Program)(rec:TypeId→AV→AV→Option Bool)(e:TypeId)(n:Nat)(xs ys:List C):List Nat→Option Bool
 |[]=>some true
 |i::is=>match partC P e xs (i*n),partC P e ys (i*n)with
  |some x,some y=>match rec e x y,eqEs P rec e n xs ys is with
   |some b,some b'=>some (b && b')
   |_,_=>none
  |_,_=>none
def eqIn (P:Program):Nat→TypeId→AV→AV→Option Bool
 |0,_,_,_=>none
 |d+1,t,x,y=>match x,y with
  | .c (.d x),.c (.d y)=>eqD (P.underlying t) x y
  | .agg xs,.agg ys=>match P.underlying t with
   |some (.struct fs)=>match P.stoodInHeld t with
    |true=>none
    |false=>eqFs P (eqIn P d) xs ys fs.toList
   |some (.array len e)=>match sizeT P e with
    |some n=>eqEs P (eqIn P d) e n xs ys (List.range' 0 len)
    |none=>none
   |_=>none
  |_,_=>none
section
variable {E:Env} {s:St} {G:Nat→Prop} {φ:Nat→Option Loc} {a:Act} {w:World}
theorem zao (h:Sim E s G φ a w){t:TypeId}{xs:List C}{off:Nat}{x:AV}(hp:partC E.P t xs off=some x){vs:Array Value}(hr:RelCs (RelC G E.V φ w) xs vs.toList)(h1: ∀u∈vs.toList,u.oneCell'=true):
 ∃v,(part t vs off).run E.P w= .ok v w∧RAV E G φ w x v:=by
 unfold partC at hp;split at hp
 ·rename_i hag
  split at hp
  ·rename_i n hn
   cases hp;exact⟨_,by simp[part,z90 hag,z27 hn],RelS.part hr h1 off n⟩
  ·cases hp
 ·rename_i hag
  split at hp
  ·rename_i y r hy
   cases hp;have hd:=hr.drop off
   rw[hy]at hd;cases hvd:vs.toList.drop off with
   |nil=>rw[hvd]at hd;exact hd.elim
   |cons u us=>
    rw[hvd]at hd;have hu':vs[off]?=some u:=by
     have:(vs.toList.drop off)[0]?=some u:=by rw[hvd];rfl
     rw[List.getElem?_drop]at this
     simpa using this
    refine⟨u,by simp[part,z90 hag,hu'],z0h hd.1 (h1 u ?_)⟩;have:u∈vs.toList.drop off:=by rw[hvd];simp
    exact List.mem_of_mem_drop this
  ·cases hp
 ·cases hp
theorem zim {P:Program}{t:TypeId}{fs:Array Field}(h:P.underlying t=some (.struct fs)):P.fieldsOf t=fs:=by simp[Program.fieldsOf,h]
def z9z (D':Nat)(e:TypeId)(n:Nat)(xs ys:Array Value):List Nat→Sem Bool
 |[]=>pure true
 |i::is=>do
  if !(←Op.equalIn D' e (←part e xs (i*n)) (←part e ys (i*n)))then pure false else z9z D' e n xs ys is
theorem zdz {P:Program}(w:World)(D':Nat)(t e:TypeId)(len n:Nat)(xs ys:Array Value)(ht:P.underlying t=some (.array len e))(hn:sizeT P e=some n):
 (Op.equalIn (D'+1) t (.agg xs) (.agg ys)).run P w=(z9z D' e n xs ys (List.range' 0 len)).run P w:=by
 simp only[Op.equalIn,zz5,run_underlying ht,zz1,z27 hn];rw[Std.Legacy.Range.forIn_eq_forIn_range'];simp only[Std.Legacy.Range.size,Nat.sub_zero,Nat.add_sub_cancel,Nat.div_one];generalize List.range' 0 len=is;clear ht hn;induction is generalizing w with
 |nil=>simp[z9z]
 |cons i is ih=>
  simp only[List.forIn_cons,z9z,zz5];generalize (part e xs (i*n)).run P w=r1;cases r1 with
  |ok a w1=>
   simp only[zz1];generalize (part e ys (i*n)).run P w1=r2;cases r2 with
   |ok b w2=>
    simp only[zz1];generalize (Op.equalIn D' e a b).run P w2=r3;cases r3 with
    |ok r w3=>
     cases r
     ·simp
     ·simp only[zz1,Bool.not_true,Bool.false_eq_true,if_false,zza];exact ih w3
    |halt x w3=>simp[Result.andThen]
   |halt x w2=>simp[Result.andThen]
  |halt x w1=>simp[Result.andThen]
theorem zmh {P:Program}{x y:D}{b:Bool}{vx vy:Value}{t:TypeId}(D':Nat)(h:eqD (P.underlying t) x y=some b)(hx:RelD G w x vx)(hy:RelD G w y vy):
 (Op.equalIn (D'+1) t vx vy).run P w= .ok b w:=by
 unfold eqD at h;split at h
 ·rename_i ht
  cases h;cases hx;cases hy;exact run_equalIn_bool' w D' t _ _ ht
 ·rename_i ht
  split at h
  ·rename_i hk
   have hk:=of_decide_eq_true hk;subst hk;cases h;cases hx;cases hy;rw[run_equalIn_int w D' t _ _ _ _ ht];rfl
  ·cases h
 ·rename_i ht
  cases h;cases hx;cases hy;exact run_equalIn_string w D' t _ _ ht
 ·cases h
theorem zlj (h:Sim E s G φ a w): ∀(d D':Nat),d≤D'→ ∀(t:TypeId) (x y:AV) (b:Bool) (vx vy:Value),eqIn E.P d t x y=some b→RAV E G φ w x vx→RAV E G φ w y vy→
 (Op.equalIn D' t vx vy).run E.P w= .ok b w:=by
 intro d;induction d with
 |zero=>intro D' _ t x y b vx vy he;cases he
 |succ d ih=>
  intro D' hD t x y b vx vy he hx hy;obtain⟨D',rfl⟩: ∃q,D'=q+1:=⟨D'-1,by omega⟩;have hD:d≤D':=by omega
  have fields: ∀(fs:List Field) (xs ys:List C) (b:Bool) (vs us:Array Value),eqFs E.P (eqIn E.P d) xs ys fs=some b→RelCs (RelC G E.V φ w) xs vs.toList→(∀u∈vs.toList,u.oneCell'=true)→
   RelCs (RelC G E.V φ w) ys us.toList→(∀u∈us.toList,u.oneCell'=true)→(Op.eqFields D' vs us fs).run E.P w= .ok b w:=by
   intro fs;induction fs with
   |nil=>intro xs ys b vs us he _ _ _ _;cases he;rfl
   |cons f fs ihf=>
    intro xs ys b vs us he r1 o1 r2 o2;simp only[eqFs]at he;split at he
    ·rename_i hnm
     split at he
     ·rename_i x' y' hx' hy'
      split at he
      ·rename_i b1 b2 e1 e2
       cases he;obtain⟨v1,p1,q1⟩:=zao h hx' r1 o1;obtain⟨v2,p2,q2⟩:=zao h hy' r2 o2;have:=ih D' hD _ _ _ _ _ _ e1 q1 q2
       simp only[Op.eqFields,if_pos (of_decide_eq_true hnm),zz5,p1,p2,this,zz1];cases b1
       ·rfl
       ·simpa using ihf xs ys b2 vs us e2 r1 o1 r2 o2
      ·cases he
     ·cases he
    ·rename_i hnm
     have hnm:=of_decide_eq_false hnm;simp only[Op.eqFields,if_neg hnm];exact ihf xs ys b vs us he r1 o1 r2 o2
  have elems: ∀(e:TypeId) (n:Nat) (is:List Nat) (xs ys:List C) (b:Bool) (vs us:Array Value),eqEs E.P (eqIn E.P d) e n xs ys is=some b→RelCs (RelC G E.V φ w) xs vs.toList→(∀u∈vs.toList,u.oneCell'=true)→
   RelCs (RelC G E.V φ w) ys us.toList→(∀u∈us.toList,u.oneCell'=true)→(z9z D' e n vs us is).run E.P w= .ok b w:=by
   intro e n is;induction is with
   |nil=>intro xs ys b vs us he _ _ _ _;cases he;rfl
   |cons i is ihi=>
    intro xs ys b vs us he r1 o1 r2 o2;simp only[eqEs]at he;split at he
    ·rename_i x' y' hx' hy'
     split at he
     ·rename_i b1 b2 e1 e2
      cases he;obtain⟨v1,p1,q1⟩:=zao h hx' r1 o1;obtain⟨v2,p2,q2⟩:=zao h hy' r2 o2;have:=ih D' hD _ _ _ _ _ _ e1 q1 q2
      simp only[z9z,zz5,p1,p2,this,zz1];cases b1
      ·rfl
      ·simpa using ihi xs ys b2 vs us e2 r1 o1 r2 o2
     ·cases he
    ·cases he
  simp only[eqIn]at he;split at he
  ·exact zmh D' he hx.1 hy.1
  ·rename_i xs ys
   obtain⟨vs,rfl,r1,o1⟩:=hx;obtain⟨us,rfl,r2,o2⟩:=hy;split at he
   ·rename_i fs hu
    split at he
    ·cases he
    ·rename_i hst
     have hf:=zim hu;rw[run_equalIn_struct w D' t vs us (by rw[hf];exact hu) hst,hf];exact fields _ _ _ _ _ _ he r1 o1 r2 o2
   ·rename_i len e hu
    split at he
    ·rename_i n hn
     rw[zdz w D' t e len n vs us hu hn];exact elems _ _ _ _ _ _ _ _ he r1 o1 r2 o2
    ·cases he
   ·cases he
  ·cases he
theorem One.eql {ops:Array Oper}{o:Oper}{op:BinOp}{t yt:TypeId}{x y:Operand}{xs ys:List C}{d:Nat}{b:Bool}
 (hop:o.op= .binOp op t x y yt) (hw:z0o ops s o=some true) (hd:dstOk E.N o.dst=true) (hneg:op= .eql∨op= .neq) (hx:evO s x=some (.agg xs)) (hy:evO s y=some (.agg ys))
 (hg:E.P.eqGuardType E.P.depth t=false) (hlt:Nat.ble d 10000=true) (he:eqIn E.P d t (.agg xs) (.agg ys)=some b):
 One E ops o s (putO s o.dst (.c (.d (.bool (match op with| .eql=>b|_=> !b))))):=fun a w hs=>by
 obtain⟨G,φ,h⟩:=hs;refine⟨z1o h hw,fun next Q hnx=>?_⟩;have hx':=h.ev hx
 have hy':=h.ev hy;have heq:=zlj h d 10000 (zz7 hlt) t _ _ b _ _ he hx' hy'
 obtain⟨vs,ex,_⟩:=hx';obtain⟨us,ey,_⟩:=hy';rw[ex,ey]at heq;unfold Oper.wp;have hex:execOp a.eval o=(do pure (.value (←(do eqGuard op t x y (a.eval x) (a.eval y);Go.binOp op t (a.eval x) (a.eval y):Sem Value))):Sem Next):=by unfold execOp;rw[hop]
 rw[hex,ex,ey];have hguard:=run_eqGuard_agg (P:=E.P) w op t x y vs us hg;have fin: ∀b',(Go.binOp op t (.agg vs) (.agg us)).run E.P w= .ok (.bool b') w→SimE E (putO s o.dst (.c (.d (.bool b')))) (a.put o.dst (.bool b')) w:=fun b' _=>by
  refine⟨G,φ,?_⟩;cases hdd:o.dst with
  |none=>exact h
  |some d=>rw[hdd]at hd;exact h.put (zzk.mp hd) (z0h (RelD.bool _) rfl)
 rcases hneg with rfl|rfl
 ·have hr:(Go.binOp .eql t (.agg vs) (.agg us)).run E.P w= .ok (.bool b) w:=by rw[run_eql_struct,heq];rfl
  simp only[zz5,hguard,hr,zz1,zza,Oper.upon];exact hnx _ _ (fin b hr)
 ·have hr:(Go.binOp .neq t (.agg vs) (.agg us)).run E.P w= .ok (.bool (!b)) w:=by rw[run_neq_struct,heq];rfl
  simp only[zz5,hguard,hr,zz1,zza,Oper.upon];exact hnx _ _ (fin (!b) hr)
end
end Go.Av
/-
 Av,part R:a region whose order is open.
-/
namespace Go.Av
open Go
structure DOp where
 need:St
 eff:St
 mks:List Nat
 dead:List Nat
 hid:List Nat
def St.app (x s:St):St:=⟨x.tm++s.tm,x.sl++s.sl⟩
def stD (D:Nat→Bool):Nat→List DOp→St→St
 |_,[],s=>s
 |i,x::xs,s=>match D i with
  |true=>stD D (i+1) xs (x.eff.app s)
  |false=>stD D (i+1) xs s
def z15 {α:Type}(t:Nat):List (Nat×α)→Bool
 |[]=>false
 |(k,_)::r=>match Nat.beq k t with|true=>true|false=>z15 t r
def memB (i:Nat):List Nat→Bool
 |[]=>false
 |k::r=>match Nat.beq k i with|true=>true|false=>memB i r
def nth (l:List (List Nat))(j:Nat):List Nat:=l.getD j []
def allB {α:Type}(f:α→Bool):List α→Bool
 |[]=>true
 |x::r=>match f x with|true=>allB f r|false=>false
def okBef (ops:Array Oper)(bef:List (List Nat)):Bool:=
 allB (fun j=>allB (fun i=>match ops[j]? with
  |some o=>anyB (fun e:Edge=>match Region.binds .any e with
   |true=>match Nat.blt e.on j with
    |true=>match Nat.beq e.on i with|true=>true|false=>memB i (nth bef e.on)
    |false=>false
   |false=>false) o.after.toList
  |none=>false) (nth bef j)) (List.range ops.size)
def z6v (x:DOp)(r:DOp):Bool:=
 match anyB (fun e:Nat×AV=>match z15 e.1 r.need.tm with|true=>true|false=>z15 e.1 r.eff.tm) x.eff.tm with
 |true=>true
 |false=>anyB (fun e:Nat×Slot=>match z15 e.1 r.need.sl with|true=>true|false=>z15 e.1 r.eff.sl) x.eff.sl
def ordOk (specs:List DOp)(bef:List (List Nat)):Bool:=
 allB (fun r=>allB (fun i=>match Nat.beq i r with
  |true=>true
  |false=>match specs[i]?,specs[r]? with
   |some x,some y=>match z6v x y with
    |true=>match memB i (nth bef r)with|true=>true|false=>memB r (nth bef i)
    |false=>true
   |_,_=>true) (List.range specs.length)) (List.range specs.length)
def lessK {α:Type}(dead:List Nat):List (Nat×α)→List (Nat×α)
 |[]=>[]
 |(k,x)::r=>match memB k dead with|true=>lessK dead r|false=>(k,x)::lessK dead r
def St.less (x:DOp)(r:St):St:=⟨lessK x.dead r.tm,lessK (x.mks++x.hid) r.sl⟩
def zac (d:Nat)(z x:DOp):Bool:=
 match anyB (fun e:Nat×AV=>AV.refs d e.2) (x.eff.less z).tm with|true=>true|false=>anyB (z60 d) (x.eff.less z).sl
def zdw (specs:List DOp)(bef:List (List Nat))(s0:St):Bool:=
 allB (fun r=>match specs[r]? with
  |some x=>match allB (fun t=>z15 t x.eff.tm) x.dead,allB (fun k=>z15 k x.eff.sl) (x.mks++x.hid)with
   |true,true=>allB (fun d=>match(s0.less x).noRef d with
    |true=>allB (fun i=>match Nat.beq i r with
     |true=>true
     |false=>match specs[i]? with
      |some y=>match zac d x y with
       |true=>memB r (nth bef i)
       |false=>true
      |none=>true) (List.range specs.length)
    |false=>false) x.mks
   |_,_=>false
  |none=>true) (List.range specs.length)
def z17 {α:Type}(l:List (Nat×α)):List Nat:=l.map (·.1)
def z7l (all:List DOp)(bef:List (List Nat))(s0:St):Nat→List DOp→List (Option St)
 |_,[]=>[]
 |r,x::xs=>keep (z17 x.need.tm) (z17 x.need.sl) (stD (fun i=>memB i (nth bef r)) 0 all s0)::z7l all bef s0 (r+1) xs
def z7k:List DOp→List (Option St)
 |[]=>[]
 |x::xs=>some x.need::z7k xs
theorem z26 {i:Nat}{l:List Nat}:memB i l=true↔i∈l:=by
 induction l with
 |nil=>simp[memB]
 |cons k r ih=>
  simp only[memB];cases hb:Nat.beq k i with
  |true=>have:=zz4 hb;subst this;simp
  |false=>
   have:k≠i:=fun e=>by rw[e]at hb;simp at hb
   simp only[ih,zzg];constructor
   ·exact fun h=> .inr h
   ·rintro(e|h)
    ·exact absurd e.symm this
    ·exact h
theorem z48 {α:Type}{f:α→Bool}{l:List α}:allB f l=true↔ ∀x∈l,f x=true:=by
 induction l with
 |nil=>simp[allB]
 |cons x r ih=>
  simp only[allB];cases hx:f x with
  |true=>simp[ih,hx]
  |false=>simp[hx]
theorem z81 {α:Type}{f:α→Bool}{l:List α}:anyB f l=true↔ ∃x∈l,f x=true:=by
 induction l with
 |nil=>simp[anyB]
 |cons x r ih=>
  simp only[anyB];cases hx:f x with
  |true=>simp[hx]
  |false=>simp[ih,hx]
theorem z2h {α:Type}{t:Nat}{l:List (Nat×α)}:z15 t l=true↔ ∃x,look l t=some x:=by
 induction l with
 |nil=>simp[z15,look]
 |cons e r ih=>
  rcases e with⟨k,v⟩;simp only[z15,z0x];cases hb:Nat.beq k t with
  |true=>have:=zz4 hb;subst this;simp
  |false=>
   have:k≠t:=fun e=>by rw[e]at hb;simp at hb
   simp[this,ih]
theorem z1r {α:Type}(l r:List (Nat×α))(t:Nat):look (l++r) t=match look l t with|some x=>some x|none=>look r t:=by
 induction l with
 |nil=>simp[look]
 |cons e l ih=>
  rcases e with⟨k,v⟩;simp only[List.cons_append,z0x,ih];by_cases e:k=t<;>simp[e]
theorem z57 {D D':Nat→Bool}(t:Nat): ∀(xs:List DOp) (i:Nat) (s s':St),look s.tm t=look s'.tm t→(∀j x,xs[j]?=some x→z15 t x.eff.tm=true→D (i+j)=D' (i+j))→
 look (stD D i xs s).tm t=look (stD D' i xs s').tm t
 |[],i,s,s',h,_=>h
 |x::xs,i,s,s',h,hw=>by
  have hrest: ∀j y,xs[j]?=some y→z15 t y.eff.tm=true→D (i+1+j)=D' (i+1+j):=fun j y hy hk=>by
   have:=hw (j+1) y (by simpa using hy) hk;rwa[show i+(j+1)=i+1+j by omega]at this
  have h1:look (x.eff.app s).tm t=look (x.eff.app s').tm t:=by simp only[St.app,z1r,h]
  simp only[stD];cases hk:z15 t x.eff.tm with
  |true=>
   have e:=hw 0 x rfl hk;simp only[Nat.add_zero]at e;rw[e];cases D' i with
   |true=>exact z57 t xs (i+1) _ _ h1 hrest
   |false=>exact z57 t xs (i+1) _ _ h hrest
  |false=>
   have hn:look x.eff.tm t=none:=by
    cases hl:look x.eff.tm t with
    |none=>rfl
    |some y=>rw[z2h.2 ⟨y,hl⟩]at hk;cases hk
   have g1:look (x.eff.app s).tm t=look s.tm t:=by simp only[St.app,z1r,hn]
   have g2:look (x.eff.app s').tm t=look s'.tm t:=by simp only[St.app,z1r,hn]
   cases D i<;>cases D' i
   ·exact z57 t xs (i+1) _ _ h hrest
   ·exact z57 t xs (i+1) _ _ (h.trans g2.symm) hrest
   ·exact z57 t xs (i+1) _ _ (g1.trans h) hrest
   ·exact z57 t xs (i+1) _ _ h1 hrest
theorem z4h {D D':Nat→Bool}(t:Nat): ∀(xs:List DOp) (i:Nat) (s s':St),look s.sl t=look s'.sl t→(∀j x,xs[j]?=some x→z15 t x.eff.sl=true→D (i+j)=D' (i+j))→
 look (stD D i xs s).sl t=look (stD D' i xs s').sl t
 |[],i,s,s',h,_=>h
 |x::xs,i,s,s',h,hw=>by
  have hrest: ∀j y,xs[j]?=some y→z15 t y.eff.sl=true→D (i+1+j)=D' (i+1+j):=fun j y hy hk=>by
   have:=hw (j+1) y (by simpa using hy) hk;rwa[show i+(j+1)=i+1+j by omega]at this
  have h1:look (x.eff.app s).sl t=look (x.eff.app s').sl t:=by simp only[St.app,z1r,h]
  simp only[stD];cases hk:z15 t x.eff.sl with
  |true=>
   have e:=hw 0 x rfl hk;simp only[Nat.add_zero]at e;rw[e];cases D' i with
   |true=>exact z4h t xs (i+1) _ _ h1 hrest
   |false=>exact z4h t xs (i+1) _ _ h hrest
  |false=>
   have hn:look x.eff.sl t=none:=by
    cases hl:look x.eff.sl t with
    |none=>rfl
    |some y=>rw[z2h.2 ⟨y,hl⟩]at hk;cases hk
   have g1:look (x.eff.app s).sl t=look s.sl t:=by simp only[St.app,z1r,hn]
   have g2:look (x.eff.app s').sl t=look s'.sl t:=by simp only[St.app,z1r,hn]
   cases D i<;>cases D' i
   ·exact z4h t xs (i+1) _ _ h hrest
   ·exact z4h t xs (i+1) _ _ (h.trans g2.symm) hrest
   ·exact z4h t xs (i+1) _ _ (g1.trans h) hrest
   ·exact z4h t xs (i+1) _ _ h1 hrest
theorem zc9 {D:Nat→Bool}(t:Nat): ∀(xs:List DOp) (i r:Nat) (x:DOp) (y:AV) (s:St),xs[r]?=some x→D (i+r)=true→look x.eff.tm t=some y→
 (∀j z,r<j→xs[j]?=some z→z15 t z.eff.tm=true→D (i+j)=false)→look (stD D i xs s).tm t=some y
 |[],i,r,x,y,s,h,_,_,_=>by simp at h
 |z::xs,i,0,x,y,s,h,hD,hl,hw=>by
  simp at h;subst h;simp only[stD];rw[Nat.add_zero]at hD;rw[hD];have:look (stD D (i+1) xs (z.eff.app s)).tm t=look (stD (fun _=>false) (i+1) xs (z.eff.app s)).tm t:=
   z57 t xs (i+1) _ _ rfl fun j x hx hk=>by
    have:=hw (j+1) x (by omega) (by simpa using hx) hk;rwa[show i+(j+1)=i+1+j by omega]at this
  rw[this];have key: ∀(xs:List DOp) (i:Nat) (s:St),stD (fun _=>false) i xs s=s:=by
   intro xs;induction xs with
   |nil=>intro i s;rfl
   |cons x xs ih=>intro i s;simp only[stD];exact ih _ _
  rw[key];simp only[St.app,z1r,hl]
 |z::xs,i,r+1,x,y,s,h,hD,hl,hw=>by
  simp only[stD];have h':xs[r]?=some x:=by simpa using h
  have hD':D (i+1+r)=true:=by rwa[show i+(r+1)=i+1+r by omega]at hD
  have hw': ∀j z,r<j→xs[j]?=some z→z15 t z.eff.tm=true→D (i+1+j)=false:=fun j z hj hz hk=>by
   have:=hw (j+1) z (by omega) (by simpa using hz) hk;rwa[show i+(j+1)=i+1+j by omega]at this
  cases D i with
  |true=>exact zc9 t xs (i+1) r x y _ h' hD' hl hw'
  |false=>exact zc9 t xs (i+1) r x y _ h' hD' hl hw'
theorem zaq {D:Nat→Bool}(t:Nat): ∀(xs:List DOp) (i r:Nat) (x:DOp) (y:Slot) (s:St),xs[r]?=some x→D (i+r)=true→look x.eff.sl t=some y→
 (∀j z,r<j→xs[j]?=some z→z15 t z.eff.sl=true→D (i+j)=false)→look (stD D i xs s).sl t=some y
 |[],i,r,x,y,s,h,_,_,_=>by simp at h
 |z::xs,i,0,x,y,s,h,hD,hl,hw=>by
  simp at h;subst h;simp only[stD];rw[Nat.add_zero]at hD;rw[hD];have:look (stD D (i+1) xs (z.eff.app s)).sl t=look (stD (fun _=>false) (i+1) xs (z.eff.app s)).sl t:=
   z4h t xs (i+1) _ _ rfl fun j x hx hk=>by
    have:=hw (j+1) x (by omega) (by simpa using hx) hk;rwa[show i+(j+1)=i+1+j by omega]at this
  rw[this];have key: ∀(xs:List DOp) (i:Nat) (s:St),stD (fun _=>false) i xs s=s:=by
   intro xs;induction xs with
   |nil=>intro i s;rfl
   |cons x xs ih=>intro i s;simp only[stD];exact ih _ _
  rw[key];simp only[St.app,z1r,hl]
 |z::xs,i,r+1,x,y,s,h,hD,hl,hw=>by
  simp only[stD];have h':xs[r]?=some x:=by simpa using h
  have hD':D (i+1+r)=true:=by rwa[show i+(r+1)=i+1+r by omega]at hD
  have hw': ∀j z,r<j→xs[j]?=some z→z15 t z.eff.sl=true→D (i+1+j)=false:=fun j z hj hz hk=>by
   have:=hw (j+1) z (by omega) (by simpa using hz) hk;rwa[show i+(j+1)=i+1+j by omega]at this
  cases D i with
  |true=>exact zaq t xs (i+1) r x y _ h' hD' hl hw'
  |false=>exact zaq t xs (i+1) r x y _ h' hD' hl hw'
theorem z41 {α:Type}(dead:List Nat)(l:List (Nat×α))(t:Nat):look (lessK dead l) t=match memB t dead with|true=>none|false=>look l t:=by
 induction l with
 |nil=>cases memB t dead<;>rfl
 |cons e l ih=>
  rcases e with⟨k,v⟩;simp only[lessK];by_cases hk:k=t
  ·subst hk;cases hm:memB k dead with
   |true=>simp only[hm]at ih ⊢;exact ih
   |false=>simp[z0x]
  ·cases hm:memB k dead with
   |true=>simp only[ih,z0x,hk,if_false]
   |false=>simp only[z0x,hk,if_false,ih]
theorem zae {α:Type}(dead:List Nat)(l r:List (Nat×α)):lessK dead (l++r)=lessK dead l++lessK dead r:=by
 induction l with
 |nil=>rfl
 |cons e l ih=>
  rcases e with⟨k,v⟩;simp only[List.cons_append,lessK];cases memB k dead<;>simp[ih]
theorem zar {D:Nat→Bool}{d:Nat}{z:DOp}: ∀(xs:List DOp) (i:Nat) (s:St),(s.less z).noRef d=true→(∀j x,xs[j]?=some x→D (i+j)=true→zac d z x=false)→((stD D i xs s).less z).noRef d=true
 |[],i,s,h,_=>h
 |x::xs,i,s,h,hw=>by
  have hrest: ∀j y,xs[j]?=some y→D (i+1+j)=true→zac d z y=false:=fun j y hy hk=>by
   refine hw (j+1) y (by simpa using hy) ?_;rwa[show i+(j+1)=i+1+j by omega]
  simp only[stD];cases hD:D i with
  |false=>exact zar xs (i+1) s h hrest
  |true=>
   refine zar xs (i+1) _ ?_ hrest;have he:=hw 0 x rfl (by simpa using hD)
   unfold zac at he;cases h1:anyB (fun e:Nat×AV=>AV.refs d e.2) (x.eff.less z).tm with
   |true=>simp[h1]at he
   |false=>
    simp only[h1]at he;have app: ∀{α:Type} (f:α→Bool) (l r:List α),anyB f l=false→anyB f r=false→anyB f (l++r)=false:=fun f l r hl hr=>by
     induction l with
     |nil=>exact hr
     |cons y l ih=>
      simp only[anyB]at hl;cases hy:f y with
      |true=>simp[hy]at hl
      |false=>simp only[hy]at hl;simp only[List.cons_append,anyB,hy];exact ih hl
    unfold St.noRef at h ⊢;cases g1:anyB (fun e:Nat×AV=>AV.refs d e.2) (s.less z).tm with
    |true=>simp[g1]at h
    |false=>
     simp only[g1]at h;cases g2:anyB (z60 d) (s.less z).sl with
     |true=>simp[g2]at h
     |false=>
      have e1:((x.eff.app s).less z).tm=(x.eff.less z).tm++(s.less z).tm:=zae _ _ _;have e2:((x.eff.app s).less z).sl=(x.eff.less z).sl++(s.less z).sl:=zae _ _ _
      simp only[e1,e2,app _ _ _ h1 g1,app _ _ _ he g2]
section
variable {E:Env} {s:St} {a:Act} {w:World}
def OneW (E:Env)(ops:Array Oper)(o:Oper)(s s':St):Prop:=
 ∀a w,SimE E s a w→ ∀(next:Act→World→Prop) (Q:Exit→Act→World→Prop),(∀a' w',SimE E s' a' w'→next a' w')→
  if Region.wanted o (yielded ops a.tmps)then o.wp E.P a w next Q else next (a.put o.dst undef) w
theorem zma {ops:Array Oper}{o:Oper}{s':St}(h:One E ops o s s'):OneW E ops o s s':=fun a w hs next Q hn=>by
 obtain⟨h1,h2⟩:=h a w hs;rw[if_pos h1];exact h2 next Q hn
theorem OneW.skip {ops:Array Oper}{o:Oper}{d:Nat}(hw:z0o ops s o=some false)(hd:o.dst=some d)(hlt:Nat.blt d E.N=true):OneW E ops o s (s.put d (.tup [])):=fun a w hs next Q hn=>by
 obtain⟨G,φ,h⟩:=hs;rw[if_neg (by rw[z1o h hw];simp),hd];exact hn _ _ ⟨G,φ,h.put (zzk.mp hlt) ⟨#[],rfl,trivial⟩⟩
def DOk (E:Env)(ops:Array Oper)(o:Oper)(x:DOp):Prop:=
 ∀r:St,(∀d∈x.mks,(r.less x).noRef d=true)→OneW E ops o (x.need.app (r.less x)) (x.eff.app (x.need.app (r.less x)))
theorem zjz {ops:Array Oper}{bef:List (List Nat)}(h:okBef ops bef=true){j i:Nat}(hj:j<ops.size)(hi:i∈nth bef j):
 ∃o e,ops[j]?=some o∧e∈o.after.toList∧Region.binds .any e=true∧e.on<j∧(e.on=i∨i∈nth bef e.on):=by
 have h1:=z48.1 h j (by simpa using hj);have h2:=z48.1 h1 i hi
 cases ho:ops[j]? with
 |none=>rw[ho]at h2;cases h2
 |some o=>
  rw[ho]at h2;obtain⟨e,he,h3⟩:=z81.1 h2;cases hb:Region.binds .any e with
  |false=>rw[hb]at h3;cases h3
  |true=>
   rw[hb]at h3;simp only at h3;cases hlt:Nat.blt e.on j with
   |false=>rw[hlt]at h3;cases h3
   |true=>
    rw[hlt]at h3;simp only at h3;refine⟨o,e,rfl,he,hb,zzk.mp hlt,?_⟩;cases hq:Nat.beq e.on i with
    |true=>exact .inl (zz4 hq)
    |false=>rw[hq]at h3;exact .inr (z26.1 h3)
def zcs (ops:Array Oper)(D:Nat→Bool):Prop:= ∀j o,ops[j]?=some o→D j=true→ ∀e∈o.after.toList,Region.binds .any e=true→D e.on=true
theorem zcw {ops:Array Oper}{bef:List (List Nat)}(h:okBef ops bef=true){D:Nat→Bool}(hD:zcs ops D): ∀j,j<ops.size→(∀o,ops[j]?=some o→ ∀e∈o.after.toList,Region.binds .any e=true→D e.on=true)→
 ∀i∈nth bef j,D i=true∧i<j:=by
 intro j;induction j using Nat.strongRecOn with
 |_ j ih=>
  intro hj hd i hi;obtain⟨o,e,ho,he,hb,hlt,hor⟩:=zjz h hj hi;have hin:=hd o ho e he hb
  rcases hor with rfl|hor
  ·exact⟨hin,hlt⟩
  ·obtain⟨h1,h2⟩:=ih e.on hlt (by omega) (fun o' ho' e' he' hb'=>hD e.on o' ho' hin e' he' hb') i hor;exact⟨h1,by omega⟩
def zam (ops:Array Oper):Bool:=
 allB (fun j=>match ops[j]? with
  |some o=>allB (fun e:Edge=>match Region.binds .any e with|true=>Nat.blt e.on j|false=>true) o.after.toList
  |none=>true) (List.range ops.size)
theorem zb6 {ops:Array Oper}(h:zam ops=true){j:Nat}{o:Oper}(hj:ops[j]?=some o){e:Edge}(he:e∈o.after.toList)(hb:Region.binds .any e=true):e.on<j:=by
 have hlt:=(Array.getElem?_eq_some_iff.1 hj).1;have h1:=z48.1 h j (by simpa using hlt)
 rw[hj]at h1;have h2:=z48.1 h1 e he
 rw[hb]at h2;exact zzk.mp h2
theorem z9b {ops:Array Oper}{bef:List (List Nat)}(h:okBef ops bef=true){j i:Nat}(hj:j<ops.size)(hi:i∈nth bef j):i<j:=
 (zcw h (D:=fun _=>true) (fun _ _ _ _ _ _ _=>rfl) j hj (fun _ _ _ _ _=>rfl) i hi).2
theorem zbh {D D':Nat→Bool}: ∀(xs:List DOp) (i:Nat) (s:St),(∀j,j<xs.length→D (i+j)=D' (i+j))→stD D i xs s=stD D' i xs s
 |[],i,s,_=>rfl
 |x::xs,i,s,h=>by
  have h0:=h 0 (by simp);rw[Nat.add_zero]at h0;have hr: ∀j,j<xs.length→D (i+1+j)=D' (i+1+j):=fun j hj=>by
   have:=h (j+1) (by simp;omega);rwa[show i+(j+1)=i+1+j by omega]at this
  simp only[stD,h0];cases D' i
  ·exact zbh xs _ _ hr
  ·exact zbh xs _ _ hr
theorem zah {all:List DOp}{bef:List (List Nat)}{s0:St}: ∀(xs:List DOp) (r:Nat),z7l all bef s0 r xs=z7k xs→ ∀j x,xs[j]?=some x→
 keep (z17 x.need.tm) (z17 x.need.sl) (stD (fun i=>memB i (nth bef (r+j))) 0 all s0)=some x.need
 |[],r,h,j,x,hx=>by simp at hx
 |y::xs,r,h,j,x,hx=>by
  simp only[z7l,z7k,List.cons.injEq]at h;cases j with
  |zero=>simp at hx;subst hx;exact h.1
  |succ j=>
   have:=zah xs (r+1) h.2 j x (by simpa using hx);rwa[show r+1+j=r+(j+1)by omega]at this
theorem zf9 {specs:List DOp}{bef:List (List Nat)}(h:ordOk specs bef=true){i r:Nat}{x y:DOp}(hx:specs[i]?=some x)(hy:specs[r]?=some y)(hne:i≠r)(hw:z6v x y=true):
 i∈nth bef r∨r∈nth bef i:=by
 have h1:=z48.1 h r (by simpa using(List.getElem?_eq_some_iff.1 hy).1);have h2:=z48.1 h1 i (by simpa using(List.getElem?_eq_some_iff.1 hx).1)
 have hb:Nat.beq i r=false:=by
  cases hb:Nat.beq i r with
  |false=>rfl
  |true=>exact absurd (zz4 hb) hne
 rw[hb,hx,hy]at h2;simp only[hw]at h2;cases hm:memB i (nth bef r)with
 |true=>exact .inl (z26.1 hm)
 |false=>rw[hm]at h2;exact .inr (z26.1 h2)
theorem zd9 {specs:List DOp}{bef:List (List Nat)}{s0:St}(h:zdw specs bef s0=true){r:Nat}{x:DOp}(hx:specs[r]?=some x):
 (∀t∈x.dead,z15 t x.eff.tm=true)∧(∀k∈x.mks++x.hid,z15 k x.eff.sl=true)∧
 ∀d∈x.mks,(s0.less x).noRef d=true∧ ∀i y,i≠r→specs[i]?=some y→zac d x y=true→r∈nth bef i:=by
 have h1:=z48.1 h r (by simpa using(List.getElem?_eq_some_iff.1 hx).1);rw[hx]at h1;simp only at h1;split at h1
 ·rename_i g1 g2
  refine⟨z48.1 g1,z48.1 g2,fun d hd=>?_⟩;have h2:=z48.1 h1 d hd
  cases hn:(s0.less x).noRef d with
  |false=>rw[hn]at h2;cases h2
  |true=>
   rw[hn]at h2;refine⟨rfl,fun i y hne hy he=>?_⟩;have h3:=z48.1 h2 i (by simpa using(List.getElem?_eq_some_iff.1 hy).1)
   have hb:Nat.beq i r=false:=by
    cases hb:Nat.beq i r with
    |false=>rfl
    |true=>exact absurd (zz4 hb) hne
   rw[hb,hy]at h3;simp only[he]at h3;exact z26.1 h3
 ·cases h1
theorem z47 {α:Type}{l:List (Nat×α)}{t:Nat}{x:α}(h:look l t=some x):z15 t l=true:=z2h.2 ⟨x,h⟩
theorem zat {x y:DOp}{t:Nat}(hx:z15 t x.eff.tm=true)(hy:z15 t y.need.tm=true∨z15 t y.eff.tm=true):z6v x y=true:=by
 unfold z6v;obtain⟨v,hv⟩:=z2h.1 hx;have:anyB (fun e:Nat×AV=>match z15 e.1 y.need.tm with|true=>true|false=>z15 e.1 y.eff.tm) x.eff.tm=true:=by
  refine z81.2 ⟨(t,v),z2b hv,?_⟩;rcases hy with hy|hy
  ·simp[hy]
  ·cases z15 t y.need.tm<;>simp[hy]
 rw[this]
theorem z9y {x y:DOp}{t:Nat}(hx:z15 t x.eff.sl=true)(hy:z15 t y.need.sl=true∨z15 t y.eff.sl=true):z6v x y=true:=by
 unfold z6v;obtain⟨v,hv⟩:=z2h.1 hx;have:anyB (fun e:Nat×Slot=>match z15 e.1 y.need.sl with|true=>true|false=>z15 e.1 y.eff.sl) x.eff.sl=true:=by
  refine z81.2 ⟨(t,v),z2b hv,?_⟩;rcases hy with hy|hy
  ·simp[hy]
  ·cases z15 t y.need.sl<;>simp[hy]
 rw[this];split<;>rfl
structure DrawOk (E:Env) (ops:Array Oper) (specs:List DOp) (bef:List (List Nat)) (s0:St):Prop where
 len:Nat.beq specs.length ops.size=true
 back:zam ops=true
 befs:okBef ops bef=true
 ord:ordOk specs bef=true
 fresh:zdw specs bef s0=true
 needs:z7l specs bef s0 0 specs=z7k specs
 each: ∀(i:Nat) (o:Oper) (x:DOp),ops[i]?=some o→specs[i]?=some x→DOk E ops o x
theorem DrawOk.next {ops:Array Oper}{specs:List DOp}{bef:List (List Nat)}{s0:St}(h:DrawOk E ops specs bef s0){D D':Nat→Bool}(hD:zcs ops D){i:Nat}{o:Oper}{x:DOp}(ho:ops[i]?=some o)
 (hx:specs[i]?=some x) (hi:D i=false) (hedge: ∀e∈o.after.toList,Region.binds .any e=true→D e.on=true) (hD': ∀j,D' j=if j=i then true else D j) (hs:SimE E (stD D 0 specs s0) a w)
 {K:Act→World→Prop} {Q:Exit→Act→World→Prop} (hK: ∀a' w',SimE E (stD D' 0 specs s0) a' w'→K a' w'):wpOp E.P ops Q i K a w:=by
 have hlen:=zz4 h.len;have hilt:i<ops.size:=(Array.getElem?_eq_some_iff.1 ho).1
 have hjlt: ∀{j:Nat} {y:DOp},specs[j]?=some y→j<ops.size:=fun hy=>by rw[←hlen];exact(List.getElem?_eq_some_iff.1 hy).1
 have hbef: ∀j∈nth bef i,D j=true∧j<i:=zcw h.befs hD i hilt fun o' ho' e he hb=>by rw[ho]at ho';cases ho';exact hedge e he hb
 have hafter: ∀j y,specs[j]?=some y→i∈nth bef j→D j=false:=fun j y hy hij=>by
  cases hj:D j with
  |false=>rfl
  |true=>
   have:=(zcw h.befs hD j (hjlt hy) (fun o' ho' e he hb=>hD j o' ho' hj e he hb) i hij).1;rw[hi]at this;cases this
 have hown:memB i (nth bef i)=false:=by
  cases hm:memB i (nth bef i)with
  |false=>rfl
  |true=>exact absurd (z9b h.befs hilt (z26.1 hm)) (Nat.lt_irrefl _)
 have hsame: ∀j y,specs[j]?=some y→z6v y x=true→D j=memB j (nth bef i):=fun j y hy hw=>by
  by_cases e:j=i
  ·subst e;rw[hi,hown]
  ·rcases zf9 h.ord hy hx e hw with hm|hm
   ·rw[(hbef j hm).1,z26.2 hm]
   ·rw[hafter j y hy hm];cases hm':memB j (nth bef i)with
    |false=>rfl
    |true=>
     have h1:=z9b h.befs hilt (z26.1 hm');have h2:=z9b h.befs (hjlt hy) hm
     omega
 have hkeep:=zah specs 0 h.needs i x hx;rw[zzb]at hkeep;unfold keep at hkeep;split at hkeep
 case h_2=>cases hkeep
 rename_i tm htm
 split at hkeep
 case h_2=>cases hkeep
 rename_i sl hsl
 have etm:x.need.tm=tm:=by rw[←Option.some.inj hkeep]
 have esl:x.need.sl=sl:=by rw[←Option.some.inj hkeep]
 have needT: ∀t y,look x.need.tm t=some y→look (stD D 0 specs s0).tm t=some y:=fun t y hy=>by
  have h1:=z52 htm t y (etm▸hy);rw[←h1];refine z57 t specs 0 s0 s0 rfl fun j z hz hk=>?_;rw[zzb];exact hsame j z hz (zat hk (.inl (z47 hy)))
 have needS: ∀t y,look x.need.sl t=some y→look (stD D 0 specs s0).sl t=some y:=fun t y hy=>by
  have h1:=z52 hsl t y (esl▸hy);rw[←h1];refine z4h t specs 0 s0 s0 rfl fun j z hz hk=>?_;rw[zzb];exact hsame j z hz (z9y hk (.inl (z47 hy)))
 obtain⟨fd,fm,ff⟩:=zd9 h.fresh hx;have lessT: ∀t y,look ((stD D 0 specs s0).less x).tm t=some y→look (stD D 0 specs s0).tm t=some y:=fun t y hy=>by
  have hy:look (lessK x.dead _) t=some y:=hy;rw[z41]at hy;cases hm:memB t x.dead with
  |true=>rw[hm]at hy;cases hy
  |false=>rw[hm]at hy;exact hy
 have lessS: ∀t y,look ((stD D 0 specs s0).less x).sl t=some y→look (stD D 0 specs s0).sl t=some y:=fun t y hy=>by
  have hy:look (lessK (x.mks++x.hid) _) t=some y:=hy;rw[z41]at hy;cases hm:memB t (x.mks++x.hid)with
  |true=>rw[hm]at hy;cases hy
  |false=>rw[hm]at hy;exact hy
 have hs1:SimE E (x.need.app ((stD D 0 specs s0).less x)) a w:=hs.weaken (fun t y hy=>by
  simp only[St.app,z1r]at hy;cases hn:look x.need.tm t with
  |none=>rw[hn]at hy;exact lessT t y hy
  |some z=>rw[hn]at hy;cases hy;exact needT t _ hn) fun t y hy=>by
  simp only[St.app,z1r]at hy;cases hn:look x.need.sl t with
  |none=>rw[hn]at hy;exact lessS t y hy
  |some z=>rw[hn]at hy;cases hy;exact needS t _ hn
 have hfr: ∀d∈x.mks,((stD D 0 specs s0).less x).noRef d=true:=fun d hd=>by
  obtain⟨f1,f2⟩:=ff d hd;refine zar specs 0 s0 f1 fun j y hy hDj=>?_;rw[zzb]at hDj;cases he:zac d x y with
  |false=>rfl
  |true=>
   have hne:j≠i:=fun e=>by rw[e,hi]at hDj;cases hDj
   have:=hafter j y hy (f2 j y hne hy he);rw[this]at hDj;cases hDj
 have hone:=h.each i o x ho hx (stD D 0 specs s0) hfr a w hs1;have hD0:D' i=true:=by rw[hD'];simp
 have hlast: ∀j y,i<j→specs[j]?=some y→z6v y x=true→D' j=false:=fun j y hlt hy hw=>by
  rw[hD',if_neg (by omega)];rcases zf9 h.ord hy hx (by omega) hw with hm|hm
  ·have:=z9b h.befs hilt hm;omega
  ·exact hafter j y hy hm
 have hs2: ∀a' w',SimE E (x.eff.app (x.need.app ((stD D 0 specs s0).less x))) a' w'→SimE E (stD D' 0 specs s0) a' w':=fun a' w' hs'=>by
  refine hs'.weaken (fun t y hy=>?_) fun t y hy=>?_
  ·simp only[St.app,z1r];cases he:look x.eff.tm t with
   |some z=>
    have:=zc9 (D:=D') t specs 0 i x z s0 hx (by rw[zzb];exact hD0) he fun j z' hlt hz hk=>by
     rw[zzb];exact hlast j z' hlt hz (zat hk (.inr (z47 he)))
    rw[this]at hy;cases hy;rfl
   |none=>
    have e:look (stD D' 0 specs s0).tm t=look (stD D 0 specs s0).tm t:=z57 t specs 0 s0 s0 rfl fun j z hz hk=>by
     rw[zzb,hD',if_neg];intro e;subst e;rw[hx]at hz;cases hz;obtain⟨v,hv⟩:=z2h.1 hk;rw[he]at hv;cases hv
    rw[e]at hy;cases hn:look x.need.tm t with
    |none=>
     show look (lessK x.dead _) t=some y;rw[z41];cases hm:memB t x.dead with
     |true=>have:=fd t (z26.1 hm);obtain⟨v,hv⟩:=z2h.1 this;rw[he]at hv;cases hv
     |false=>exact hy
    |some z=>rw[needT t z hn]at hy;exact hy
  ·simp only[St.app,z1r];cases he:look x.eff.sl t with
   |some z=>
    have:=zaq (D:=D') t specs 0 i x z s0 hx (by rw[zzb];exact hD0) he fun j z' hlt hz hk=>by
     rw[zzb];exact hlast j z' hlt hz (z9y hk (.inr (z47 he)))
    rw[this]at hy;cases hy;rfl
   |none=>
    have e:look (stD D' 0 specs s0).sl t=look (stD D 0 specs s0).sl t:=z4h t specs 0 s0 s0 rfl fun j z hz hk=>by
     rw[zzb,hD',if_neg];intro e;subst e;rw[hx]at hz;cases hz;obtain⟨v,hv⟩:=z2h.1 hk;rw[he]at hv;cases hv
    rw[e]at hy;cases hn:look x.need.sl t with
    |none=>
     show look (lessK (x.mks++x.hid) _) t=some y;rw[z41];cases hm:memB t (x.mks++x.hid)with
     |true=>have:=fm t (z26.1 hm);obtain⟨v,hv⟩:=z2h.1 this;rw[he]at hv;cases hv
     |false=>exact hy
    |some z=>rw[needS t z hn]at hy;exact hy
 have hfin:=hone K Q fun a' w' hs'=>hK a' w' (hs2 a' w' hs');unfold wpOp;rw[ho];simp only;split
 ·rename_i hw;rw[if_pos hw]at hfin;exact .inl hfin
 ·rename_i hw;rw[if_neg hw]at hfin;exact hfin
end
def cnt (l:Array Bool):Nat:=(l.toList.filter fun b=> !b).length
theorem zj1 {l:Array Bool}{i:Nat}(hi:l[i]?=some false):cnt (l.setIfInBounds i true)+1=cnt l:=by
 unfold cnt;obtain⟨hlt,he⟩:=Array.getElem?_eq_some_iff.1 hi;have key: ∀(l:List Bool) (i:Nat),l[i]?=some false→((l.set i true).filter fun b=> !b).length+1=(l.filter fun b=> !b).length:=by
  intro l;induction l with
  |nil=>intro i h;simp at h
  |cons b l ih=>
   intro i h;cases i with
   |zero=>simp at h;subst h;simp
   |succ i=>
    have:=ih i (by simpa using h);cases b<;>simp[List.set,List.filter]at this ⊢ <;>omega
 rw[Array.toList_setIfInBounds];exact key l.toList i (by simpa using hi)
theorem zbq {l:Array Bool}(h:cnt l=0)(i:Nat)(hi:i<l.size):l[i]?=some true:=by
 unfold cnt at h;have h1:l.toList.filter (fun b=> !b)=[]:=List.length_eq_zero_iff.1 h
 have h2:=List.filter_eq_nil_iff.1 h1 l[i] (by simp);rw[Array.getElem?_eq_getElem hi]
 simpa using h2
theorem zj0 {l:Array Bool}(h:0<cnt l): ∃i:Nat,l[i]?=some false∧ ∀j:Nat,j<i→l[j]?=some true:=by
 unfold cnt at h;have key: ∀(l:List Bool),0<(l.filter fun b=> !b).length→ ∃i:Nat,l[i]?=some false∧ ∀j:Nat,j<i→l[j]?=some true:=by
  intro l;induction l with
  |nil=>intro h;simp at h
  |cons b l ih=>
   intro h;cases b with
   |false=>exact⟨0,rfl,fun j hj=>by omega⟩
   |true=>
    obtain⟨i,h1,h2⟩:=ih (by simpa [List.filter]using h);refine⟨i+1,by simpa using h1,fun j hj=>?_⟩;cases j with
    |zero=>rfl
    |succ j=>simpa using h2 j (by omega)
 obtain⟨i,h1,h2⟩:=key l.toList h;exact⟨i,by simpa using h1,fun j hj=>by simpa using h2 j hj⟩
def inD (l:Array Bool)(i:Nat):Bool:=l.getD i false
section
variable {E:Env} {s:St} {a:Act} {w:World}
theorem DrawOk.any {ops:Array Oper}{specs:List DOp}{bef:List (List Nat)}{s0:St}(h:DrawOk E ops specs bef s0){Q:Exit→Act→World→Prop}
 (hQ: ∀a' w',SimE E (stD (fun _=>true) 0 specs s0) a' w'→Q .normal a' w'): ∀(fuel:Nat) (listed:Array Bool) (a:Act) (w:World),cnt listed=fuel→listed.size=ops.size→zcs ops (inD listed)→
 SimE E (stD (inD listed) 0 specs s0) a w→wpAny E.P .any ops Q fuel listed a w:=by
 have hlen:=zz4 h.len;intro fuel;induction fuel with
 |zero=>
  intro listed a w hc hz hD hs;refine⟨List.filter_eq_nil_iff.2 fun i hi=>?_,hQ a w ?_⟩
  ·have:=zbq hc i (by rw[hz];simpa using hi);simp[Array.getD_eq_getD_getElem?,this]
  ·rw[zbh (D':=inD listed)]
   ·exact hs
   ·intro j hj;have:=zbq hc j (by omega)
    simp[inD,Array.getD_eq_getD_getElem?,this]
 |succ fuel ih=>
  intro listed a w hc hz hD hs;refine⟨fun h0=>?_,fun i hi=>?_⟩
  ·obtain⟨i,h1,h2⟩:=zj0 (l:=listed) (by omega);have hilt:i<ops.size:=by rw[←hz];exact(Array.getElem?_eq_some_iff.1 h1).1
   have hmem:i∈Region.ready .any ops listed:=by
    unfold Region.ready;refine zzh.2 ⟨by simpa using hilt,?_⟩;have ho:ops[i]?=some ops[i]:=Array.getElem?_eq_getElem hilt
    simp only[Array.getD_eq_getD_getElem?,h1,ho,Option.getD_some,Bool.not_false,Bool.true_and,Option.map_some,Array.all_eq_true'];intro e he;cases hb:Region.binds .any e with
    |false=>rfl
    |true=>
     have:=h2 e.on (zb6 h.back ho (by simpa using he) hb);simp[this]
   rw[h0]at hmem;cases hmem
  ·unfold Region.ready at hi;obtain⟨hi1,hi2⟩:=zzh.1 hi;have hilt:i<ops.size:=by simpa using hi1
   have ho:ops[i]?=some ops[i]:=Array.getElem?_eq_getElem hilt;simp only[ho,Option.map_some,Option.getD_some,Bool.and_eq_true,Array.all_eq_true']at hi2;obtain⟨hn,hall⟩:=hi2;have hli:listed[i]?=some false:=by
    rw[Array.getElem?_eq_getElem (by omega)];simp[Array.getD_eq_getD_getElem?,Array.getElem?_eq_getElem (show i<listed.size by omega)]at hn;rw[hn]
   have hedge: ∀e∈ops[i].after.toList,Region.binds .any e=true→inD listed e.on=true:=fun e he hb=>by
    have:=hall e (by simpa using he);rw[hb]at this
    simpa [inD]using this
   have hset: ∀j,inD (listed.setIfInBounds i true) j=if j=i then true else inD listed j:=fun j=>by
    unfold inD;simp only[Array.getD_eq_getD_getElem?,Array.getElem?_setIfInBounds];by_cases e:i=j
    ·subst e;simp[show i<listed.size by omega]
    ·rw[if_neg e,if_neg (fun x=>e x.symm)]
   obtain⟨x,hx⟩: ∃x,specs[i]?=some x:=⟨specs[i]'(by omega),List.getElem?_eq_getElem _⟩;refine h.next hD ho hx (by simp[inD,Array.getD_eq_getD_getElem?,hli]) hedge hset hs fun a' w' hs'=>?_;refine ih _ a' w' (by have:=zj1 hli;omega) (by simpa using hz) (fun j o hj hDj e he hb=>?_) hs';rw[hset]at hDj ⊢;by_cases e1:e.on=i
   ·rw[if_pos e1]
   ·rw[if_neg e1];by_cases e2:j=i
    ·subst e2;rw[ho]at hj;cases hj;exact hedge e he hb
    ·rw[if_neg e2]at hDj;exact hD j o hj hDj e he hb
theorem zlf {post:Exit→St→Prop}{id:Nat}{l:List Oper}{specs:List DOp}{bef:List (List Nat)}{s':St}{tk sk:List Nat}(hm:E.P.follows .mixedOrders=true)
 (h:DrawOk E l.toArray specs bef s) (hk:keep tk sk (stD (fun _=>true) 0 specs s)=some s') (hp:post .normal s'):Tri E (.region id l.toArray true) s post:=fun a w hs hc=>by
 refine wpIn_mono (zh1 hc hm (Q:=fun a' w'=> ∃s',post .normal s'∧SimE E s' a' w') (h.any (fun a' w' hs'=>⟨rfl,s',hp,zby hk hs'⟩) _ _ a _ ?_ (by simp) ?_ ?_)) (fun e a' w' ⟨he,h⟩=>by subst he;exact h)
 ·simp only[cnt,Array.toList_replicate];rw[List.filter_eq_self.2 (by intro b hb;rw[(List.mem_replicate.1 hb).2];rfl)];simp
 ·intro j o _ hD;simp only[inD,Array.getD_eq_getD_getElem?,Array.getElem?_replicate]at hD;split at hD<;>cases hD
 ·rw[zbh (D':=fun _=>false)]
  ·have key: ∀(xs:List DOp) (i:Nat) (s:St),stD (fun _=>false) i xs s=s:=by
    intro xs;induction xs with
    |nil=>intro i s;rfl
    |cons x xs ih=>intro i s;simp only[stD];exact ih _ _
   rw[key];obtain⟨G,φ,hs⟩:=hs;exact⟨G,φ,hs.world rfl rfl ⟨rfl,Nat.le_succ _⟩ rfl⟩
  ·intro j _;simp only[inD,Array.getD_eq_getD_getElem?,Array.getElem?_replicate];split<;>rfl
def zaz (E:Env)(ops:Array Oper):List Oper→List DOp→Prop
 |[],[]=>True
 |o::os,x::xs=>DOk E ops o x∧zaz E ops os xs
 |_,_=>False
theorem zaz.get {ops:Array Oper}: ∀{os:List Oper} {xs:List DOp},zaz E ops os xs→ ∀(i:Nat) (o:Oper) (x:DOp),os[i]?=some o→xs[i]?=some x→DOk E ops o x
 |[],[],_,i,o,x,h,_=>by simp at h
 |o::os,y::xs,h,i,o',x,ho,hx=>by
  cases i with
  |zero=>simp at ho hx;subst ho hx;exact h.1
  |succ i=>exact zaz.get h.2 i o' x (by simpa using ho) (by simpa using hx)
 |[],_::_,h,_,_,_,_,_=>h.elim
 |_::_,[],h,_,_,_,_,_=>h.elim
def drawB (l:List Oper)(specs:List DOp)(bef:List (List Nat))(s:St):Bool:=
 match Nat.beq specs.length l.length with
 |false=>false
 |true=>match zam l.toArray with
  |false=>false
  |true=>match okBef l.toArray bef with
   |false=>false
   |true=>match ordOk specs bef with
    |false=>false
    |true=>zdw specs bef s
theorem Tri.drawn {post:Exit→St→Prop}{id:Nat}{l:List Oper}{specs:List DOp}{bef:List (List Nat)}{s':St}{tk sk:List Nat}(hm:E.P.follows .mixedOrders=true)
 (h:drawB l specs bef s=true)
 (hn:z7l specs bef s 0 specs=z7k specs) (he:zaz E l.toArray l specs) (hk:keep tk sk (stD (fun _=>true) 0 specs s)=some s') (hp:post .normal s'):Tri E (.region id l.toArray true) s post:=by
 refine zlf (bef:=bef) hm ?_ hk hp;unfold drawB at h;split at h
 case h_1=>cases h
 rename_i h1
 split at h
 case h_1=>cases h
 rename_i h2
 split at h
 case h_1=>cases h
 rename_i h3
 split at h
 case h_1=>cases h
 rename_i h4
 exact⟨by simpa using h1,h2,h3,h4,h,hn,fun i o x ho hx=>he.get i o x (by simpa using ho) hx⟩
theorem z2a {n r:St}{d:Nat}(hn:n.noRef d=true)(hr:r.noRef d=true):(n.app r).noRef d=true:=by
 have app: ∀{α:Type} (f:α→Bool) (l r:List α),anyB f l=false→anyB f r=false→anyB f (l++r)=false:=fun f l r hl hr=>by
  induction l with
  |nil=>exact hr
  |cons y l ih=>
   simp only[anyB]at hl;cases hy:f y with
   |true=>simp[hy]at hl
   |false=>simp only[hy]at hl;simp only[List.cons_append,anyB,hy];exact ih hl
 unfold St.noRef at hn hr ⊢;cases h1:anyB (fun e:Nat×AV=>AV.refs d e.2) n.tm with
 |true=>simp[h1]at hn
 |false=>
  cases g1:anyB (fun e:Nat×AV=>AV.refs d e.2) r.tm with
  |true=>simp[g1]at hr
  |false=>
   simp only[h1]at hn;simp only[g1]at hr;cases h2:anyB (z60 d) n.sl with
   |true=>simp[h2]at hn
   |false=>
    cases g2:anyB (z60 d) r.sl with
    |true=>simp[g2]at hr
    |false=>simp only[St.app,app _ _ _ h1 g1,app _ _ _ h2 g2]
def mksOk (mks:List Nat)(st:Step)(dst:Option Nat):Bool:=
 match st with
 | .new _ _=>match dst with|some d=>memB d mks|none=>true
 |_=>true
theorem zku {N:Nat}{n r:St}{dst:Option Nat}{st:Step}{mks:List Nat}(hr: ∀d∈mks,r.noRef d=true)(hm:mksOk mks st dst=true)
 (hn:okDst N n dst st=true):okDst N (n.app r) dst st=true:=by
 cases dst with
 |none=>rfl
 |some d=>
  simp only[okDst]at hn ⊢;cases hb:Nat.blt d N with
  |false=>rw[hb]at hn;cases hn
  |true=>
   rw[hb]at hn;simp only at hn ⊢;cases st with
   |new c x=>exact z2a hn (hr d (z26.1 hm))
   |_=>exact hn
theorem DOk.one {ops:Array Oper}{o:Oper}{x:DOp}(h: ∀r:St,(∀d∈x.mks,r.noRef d=true)→One E ops o (x.need.app r) (x.eff.app (x.need.app r))):DOk E ops o x:=fun r hr=>zma (h _ hr)
theorem DOk.step {ops:Array Oper}{o:Oper}{x:DOp}(st:Step)(hw: ∀r,z0o ops (x.need.app r) o=some true)(he: ∀r,z3e E.P (x.need.app r) o.dst o.op=some st)(hc:st.cond)
 (hok:okDst E.N x.need o.dst st=true) (hm:mksOk x.mks st o.dst=true)
 (heff: ∀r,z9n (x.need.app r) o.dst st=x.eff.app (x.need.app r)):DOk E ops o x:=DOk.one fun r hr=>by
 rw[←heff r];exact One.step (hw r) (he r) hc (zku hr hm hok)
theorem DOk.skip {ops:Array Oper}{o:Oper}{x:DOp}{d:Nat}(hw: ∀r,z0o ops (x.need.app r) o=some false)(hd:o.dst=some d)(hlt:Nat.blt d E.N=true)
 (heff: ∀r,(x.need.app r).put d (.tup [])=x.eff.app (x.need.app r)):DOk E ops o x:=fun r hr=>by
 rw[←heff];exact OneW.skip (hw _) hd hlt
theorem DOk.call {ops:Array Oper}{o:Oper}{x:DOp}{cl:Call}{f:FuncId}{caps:List D}{args:List AV}{res:AV}(hS:Summ E.P f args [] res [])
 (hop:o.op= .call cl) (hw: ∀r,z0o ops (x.need.app r) o=some true) (hd:dstOk E.N o.dst=true) (hc: ∀r,z6i (x.need.app r) cl=some (f,caps)) (hx: ∀r,z7q (x.need.app r) cl caps=some args)
 (hfl:z6n args=true) (hsol:res.solid=true) (heff: ∀r,putO (x.need.app r) o.dst res=x.eff.app (x.need.app r)):DOk E ops o x:=DOk.one fun r _=>by
 rw[←heff r];exact One.call hop (hw r) hd (hc r) (hx r) (AVsArg.refl _ _) hfl hsol hS
theorem One.weaken {ops:Array Oper}{o:Oper}{s' s'':St}(h:One E ops o s s')(hw: ∀a w,SimE E s' a w→SimE E s'' a w):One E ops o s s'':=fun a w hs=>by
 obtain⟨h1,h2⟩:=h a w hs;exact⟨h1,fun next Q hn=>h2 next Q fun a' w' hs'=>hn a' w' (hw a' w' hs')⟩
theorem cover {α:Type}{l l' r:List (Nat×α)}(h1:(z17 l).map (look l)=(z17 l).map (look l'))(h2:allB (fun k=>z15 k l) (z17 l')=true)(t:Nat):look (l++r) t=look (l'++r) t:=by
 rw[z1r,z1r];cases hl:look l t with
 |some x=>
  have hm:t∈z17 l:=zzf.2 ⟨(t,x),z2b hl,rfl⟩;have:look l t=look l' t:=by
   have key: ∀ks:List Nat,ks.map (look l)=ks.map (look l')→ ∀k∈ks,look l k=look l' k:=by
    intro ks;induction ks with
    |nil=>intro _ k hk;cases hk
    |cons a ks ih=>
     intro h k hk;simp only[List.map_cons,List.cons.injEq]at h;rcases zzg.1 hk with rfl|hk
     ·exact h.1
     ·exact ih h.2 k hk
   exact key _ h1 t hm
  rw[←this,hl]
 |none=>
  cases hl':look l' t with
  |none=>rfl
  |some x=>
   have hm:t∈z17 l':=zzf.2 ⟨(t,x),z2b hl',rfl⟩;obtain⟨v,hv⟩:=z2h.1 (z48.1 h2 t hm);rw[hl]at hv;cases hv
end
end Go.Av
/-
 Av,part S:what an argument reads as.
-/
namespace Go.Av
open Go
def RelDs (G:Nat→Prop)(w:World):List D→List Value→Prop
 |[],[]=>True
 |x::xs,v::vs=>RelD G w x v∧RelDs G w xs vs
 |_,_=>False
theorem RelDs.length {G:Nat→Prop}{w:World}: ∀{xs:List D} {vs:List Value},RelDs G w xs vs→xs.length=vs.length
 |[],[],_=>rfl
 |_::_,_::_,h=>by simp[RelDs.length h.2]
 |[],_::_,h=>h.elim
 |_::_,[],h=>h.elim
theorem RelDs.append {G:Nat→Prop}{w:World}: ∀{xs:List D} {vs:List Value} {ys:List D} {us:List Value},RelDs G w xs vs→RelDs G w ys us→RelDs G w (xs++ys) (vs++us)
 |[],[],_,_,_,h=>h
 |_::_,_::_,_,_,h,h'=>⟨h.1,RelDs.append h.2 h'⟩
 |[],_::_,_,_,h,_=>h.elim
 |_::_,[],_,_,h,_=>h.elim
theorem RelDs.get {G:Nat→Prop}{w:World}: ∀{xs:List D} {vs:List Value},RelDs G w xs vs→ ∀j,j<xs.length→ ∃v,vs[j]?=some v∧RelD G w (D.at xs j) v
 |[],[],_,j,h=>by simp at h
 |x::xs,v::vs,h,j,hj=>by
  cases j with
  |zero=>exact⟨v,rfl,h.1⟩
  |succ j=>
   obtain⟨u,h1,h2⟩:=RelDs.get h.2 j (by simpa using hj);exact⟨u,by simpa using h1,by simpa [D.at]using h2⟩
 |[],_::_,h,_,_=>h.elim
 |_::_,[],h,_,_=>h.elim
theorem RelDs.cells {G V:Nat→Prop}{φ:Nat→Option Loc}{w:World}: ∀{xs:List D} {vs:List Value},RelDs G w xs vs→RelCs (RelC G V φ w) (xs.map .d) vs∧ ∀u∈vs,u.oneCell'=true
 |[],[],_=>⟨trivial,fun _ h=>by cases h⟩
 |x::xs,v::vs,h=>⟨⟨h.1,(RelDs.cells h.2).1⟩,fun u hu=>by
  rcases zzg.1 hu with rfl|hu
  ·exact h.1.one
  ·exact(RelDs.cells (V:=V) (φ:=φ) h.2).2 u hu⟩
 |[],_::_,h=>h.elim
 |_::_,[],h=>h.elim
structure BulkOk {H:Type} (B:DataW H→Nat):Prop where
 one: ∀d,1≤B d
 str: ∀s,B (.lit (.string s))=s.length+1
 slice: ∀es rest,(es.map B).sum+1≤B (.slice es rest)
 agg: ∀ps,(ps.map B).sum+1≤B (.agg ps)
structure Fine {H:Type} (P:Program) (Z:TypeId→DataW H→Prop):Prop where
 str: ∀t s,Z t (.lit (.string s))→s.length≤maxN
 slice: ∀t e es rest,P.underlying t=some (.slice e)→0<P.bytesOf e→Z t (.slice es rest)→es.length≤maxN∧ ∀x∈es,Z e x
 struct: ∀t fs ps,P.underlying t=some (.struct fs)→Z t (.agg ps)→ ∀(i:Nat) f d,fs.toList[i]?=some f→ps[i]?=some d→Z f.type d
 array: ∀t n e ps,P.underlying t=some (.array n e)→Z t (.agg ps)→ ∀d∈ps,Z e d
theorem zbi {X:Type}{f:X→Nat}: ∀{l:List X} {x:X},x∈l→f x≤(l.map f).sum
 |y::l,x,h=>by
  simp only[List.map_cons,List.sum_cons];rcases zzg.1 h with rfl|h
  ·omega
  ·have:=zbi (f:=f) h;omega
theorem zco {X:Type}{f:X→Nat}(h1: ∀x,1≤f x): ∀l:List X,l.length≤(l.map f).sum
 |[]=>by simp
 |x::l=>by have:=zco h1 l;have:=h1 x;simp only[List.map_cons,List.sum_cons,List.length_cons];omega
theorem Fine.bulk {H:Type}{P:Program}{B:DataW H→Nat}(hB:BulkOk B):Fine P (fun _ d=>B d≤maxN) where
 str:=fun t s h=>by rw[hB.str]at h;omega
 slice:=fun t e es rest _ _ h=>by
  have h1:=hB.slice es rest;have h2:=zco hB.one es
  exact⟨by omega,fun x hx=>by have:=zbi (f:=B) hx;omega⟩
 struct:=fun t fs ps _ h i f d _ hd=>by
  have h1:=hB.agg ps;have:=zbi (f:=B) (List.mem_of_getElem? hd)
  omega
 array:=fun t n e ps _ h d hd=>by
  have h1:=hB.agg ps;have:=zbi (f:=B) hd
  omega
theorem z97 {H:Type}{P:Program}{e:TypeId}: ∀{l:List (DataW H)} {d:DataW H},d∈l→ ∀n∈d.weights P e,n∈DataW.weightsAll P e l
 |x::l,d,h,n,hn=>by
  simp only[DataW.weightsAll,zz2];rcases zzg.1 h with rfl|h
  ·exact .inl hn
  ·exact .inr (z97 h n hn)
theorem zhv:reachBytes<maxN:=by unfold maxN;have:=reachBytes_lt;omega
theorem Fine.weights {H:Type}(P:Program):Fine (H:=H) P (fun t d=> ∀n∈d.weights P t,n≤reachBytes) where
 str:=fun t s h=>by have:=h s.length (by simp[DataW.weights]);have:=zhv;omega
 slice:=fun t e es rest hu hb h=>by
  simp only[DataW.weights,hu]at h;refine⟨?_,fun x hx n hn=>h n (zz6 _ (zzm _ (z97 hx n hn)))⟩;have h1:=h _ (zz3 ..)
  have h2:es.length+rest.length≤(es.length+rest.length)*P.bytesOf e:=Nat.le_mul_of_pos_right _ hb;have:=zhv
  omega
 struct:=fun t fs ps hu h i f d hf hd n hn=>by
  simp only[DataW.weights,hu]at h;exact h n (DataW.weights_mem_each (by rw[List.getElem?_map,hf];rfl) hd n hn)
 array:=fun t m e ps hu h d hd n hn=>by
  simp only[DataW.weights,hu]at h;exact h n (z97 hd n hn)
def allG (W:World):Nat→Prop:=fun b=>b<W.heap.size
section
variable {H:Type} {enc:TypeId×Value→H} {P:Program} {W:World} {Z:TypeId→DataW H→Prop} {B:DataW H→Nat}
def z1f {X:Type}(enc:TypeId×Value→H)(P:Program)(W:World)(Z:TypeId→DataW H→Prop)(B:DataW H→Nat)(n:Nat)(t:TypeId)(e:X→List D)(ok:X→Prop)(bulk:X→Nat):Prop:=
 ∀cs d ps,DataW.trod enc P W 0 (fun _=>true) true n t cs=some (d,ps)→Z t d→ ∃x,ok x∧bulk x≤B d∧RelDs (allG W) W (e x) cs
def Reads {X:Type}(enc:TypeId×Value→H)(P:Program)(W:World)(Z:TypeId→DataW H→Prop)(B:DataW H→Nat)(t:TypeId)(e:X→List D)(ok:X→Prop)(bulk:X→Nat):Prop:=
 ∀n,z1f enc P W Z B n t e ok bulk
def okInt (k:IntKind)(n:Int):Prop:=(Lit.int k n).wf=true
theorem z1f.zero {X:Type}{t:TypeId}{e:X→List D}{ok:X→Prop}{bulk:X→Nat}:z1f enc P W Z B 0 t e ok bulk:=fun cs d ps h hN=>by
 simp[DataW.trod]at h
theorem z1f.bool {n:Nat}{t:TypeId}(hB:BulkOk B)(ht:P.underlying t=some .bool):z1f enc P W Z B n t (fun b:Bool=>[.bool b]) (fun _=>True) (fun _=>1):=fun cs d ps h hN=>by
 cases n with
 |zero=>simp[DataW.trod]at h
 |succ n=>
  unfold DataW.trod at h;rw[ht]at h;split at h<;>simp_all;obtain⟨rfl,rfl⟩:=h
  rename_i b
  cases b
  ·exact⟨hB.one _,.inl ⟨.bool _,trivial⟩⟩
  ·exact⟨hB.one _,.inr ⟨.bool _,trivial⟩⟩
theorem z1f.int {n:Nat}{t:TypeId}{k:IntKind}(hB:BulkOk B)(ht:P.underlying t=some (.int k)):z1f enc P W Z B n t (fun i:Int=>[.int k i]) (okInt k) (fun _=>1):=fun cs d ps h hN=>by
 cases n with
 |zero=>simp[DataW.trod]at h
 |succ n=>
  unfold DataW.trod at h;rw[ht]at h;split at h<;>simp_all;obtain⟨⟨rfl,h2⟩,rfl,rfl⟩:=h;exact⟨_,h2,hB.one _,.int _ _,trivial⟩
theorem z1f.string {n:Nat}{t:TypeId}(hZ:Fine P Z)(hB:BulkOk B)(ht:P.underlying t=some .string):z1f enc P W Z B n t (fun s:ByteArray=>[.str s]) (fun s=>s.size≤maxN) (fun s=>s.size+1):=fun cs d ps h hN=>by
 cases n with
 |zero=>simp[DataW.trod]at h
 |succ n=>
  unfold DataW.trod at h;rw[ht]at h;split at h<;>simp_all;obtain⟨h2,rfl,rfl⟩:=h;refine⟨_,hZ.str _ _ hN,?_,.str _,trivial⟩;rw[hB.str];exact zze _
theorem z1f.map {X Y:Type}{n:Nat}{t:TypeId}{e:X→List D}{ok:X→Prop}{bulk:X→Nat}{e':Y→List D}{ok':Y→Prop}{bulk':Y→Nat}(f:X→Y)
 (h:z1f enc P W Z B n t e ok bulk) (he: ∀x,ok x→e' (f x)=e x) (hok: ∀x,ok x→ok' (f x)) (hb: ∀x,ok x→bulk' (f x)≤bulk x):z1f enc P W Z B n t e' ok' bulk':=fun cs d ps hd hN=>by
 obtain⟨x,h1,h2,h3⟩:=h cs d ps hd hN;exact⟨f x,hok x h1,Nat.le_trans (hb x h1) h2,by rw[he x h1];exact h3⟩
theorem ze4 {X:Type}[Inhabited X]{p:Nat→X→Prop}: ∀n,(∀i,i<n→ ∃x,p i x)→ ∃xs:List X,xs.length=n∧ ∀i,i<n→p i (xs.getD i zzd)
 |0,_=>⟨[],rfl,fun i hi=>by omega⟩
 |n+1,h=>by
  obtain⟨xs,h1,h2⟩:=ze4 n fun i hi=>h i (by omega);obtain⟨x,hx⟩:=h n (by omega);refine⟨xs++[x],by simp[h1],fun i hi=>?_⟩;rcases Nat.lt_or_ge i n with hlt|hge
  ·have:=h2 i hlt;rwa[List.getD_eq_getElem?_getD,List.getElem?_append_left (by omega),←List.getD_eq_getElem?_getD]
  ·have e:i=n:=by omega
   subst e;rw[List.getD_eq_getElem?_getD,List.getElem?_append_right (by omega)]
   simpa [h1]using hx
theorem zgr {X Y:Type}[Inhabited X]{f:X→Nat}{g:Y→Nat}: ∀(xs:List X) (ys:List Y),xs.length=ys.length→(∀(i:Nat) y,ys[i]?=some y→f (xs.getD i zzd)≤g y)→(xs.map f).sum≤(ys.map g).sum
 |[],[],_,_=>zze _
 |x::xs,y::ys,h,hf=>by
  have h0:=hf 0 y rfl;have:=zgr xs ys (by simpa using h) fun i z hz=>by simpa using hf (i+1) z (by simpa using hz)
  simp only[List.map_cons,List.sum_cons];simp at h0;omega
 |[],_::_,h,_=>by simp at h
 |_::_,[],h,_=>by simp at h
def encL {X:Type}[Inhabited X](es:Nat)(e:X→List D)(xs:List X):D:= .list es xs.length (fun i=>e (xs.getD i zzd))
theorem zjr {w:World}{base:Nat}{a:Addr}{n:Nat}{cs:List Value}(h:w.cells? base a n=some cs):cs.length=n∧ ∀j,j<n→w.cell? (a.add j)=cs[j]?:=by
 unfold World.cells? at h;split at h
 ·have key: ∀(l:List Nat) (cs:List Value),(l.mapM fun i=>w.cell? (a.add i))=some cs→cs.length=l.length∧ ∀(j x:Nat),l[j]?=some x→w.cell? (a.add x)=cs[j]?:=by
   intro l;induction l with
   |nil=>intro cs h;simp at h;subst h;exact⟨rfl,fun j x hx=>by simp at hx⟩
   |cons y l ih=>
    intro cs h;rw[List.mapM_cons]at h;simp only[Option.bind_eq_bind,Option.bind_eq_some_iff,Option.pure_def,Option.some.injEq]at h;obtain⟨u,hu,us,hus,rfl⟩:=h;obtain⟨h1,h2⟩:=ih us hus;refine⟨by simp[h1],fun j x hx=>?_⟩;cases j with
    |zero=>simp at hx;subst hx;simpa using hu
    |succ j=>simpa using h2 j x (by simpa using hx)
  obtain⟨h1,h2⟩:=key _ _ h;refine⟨by simpa using h1,fun j hj=>h2 j j ?_⟩;simp[List.getElem?_range,hj]
 ·cases h
theorem Addr.add_add (b o i j:Nat):((⟨b,o,none⟩:Addr).add i).add j=⟨b,o+i+j,none⟩:=by
 unfold Addr.add;by_cases hi:i=0<;>by_cases hj:j=0<;>simp[hi,hj]
theorem z1f.slice {X:Type}[Inhabited X]{n es:Nat}{t te:TypeId}{e:X→List D}{ok:X→Prop}{bulk:X→Nat}(hZ:Fine P Z)(hB:BulkOk B)(ht:P.underlying t=some (.slice te))(hby:Nat.blt 0 (P.bytesOf te)=true)(hes:P.cellsOf te=es)(hpos:Nat.blt 0 es=true)
 (hlen: ∀x,ok x→(e x).length=es) (h: ∀m,m<n→z1f enc P W Z B m te e ok bulk):
 z1f enc P W Z B n t (fun xs:List X=>[encL es e xs]) (fun xs=>xs.length≤maxN∧ ∀x∈xs,ok x) (fun xs=>(xs.map bulk).sum+1):=fun cs d ps hd hN=>by
 have hpos:=zzk.mp hpos;rcases DataW.trod_slice ht hd with⟨rfl,hx⟩|⟨a,len,cap,elems,rest,m,rfl,rfl,hx,hb,hl,hm,hlen',hel,_,_⟩
 ·cases hx;exact⟨[],⟨by simp,fun x hx=>by cases hx⟩,by simpa using hB.one _,.empty _ _ _ _,trivial⟩
 ·cases hx;obtain⟨hlenN,hall⟩:=hZ.slice _ _ _ _ ht (zzk.mp hby) hN;rw[List.length_map]at hlenN;have each: ∀i,i<len→ ∃x,ok x∧(∃y,elems[i]?=some y∧bulk x≤B y.1)∧ ∃us,us.length=es∧(∀j,j<es→W.cell? ((a.add (i*es)).add j)=us[j]?)∧RelDs (allG W) W (e x) us:=fun i hi=>by
   have h1:=hel i hi;rw[hes]at h1;obtain⟨y,hy⟩: ∃y,elems[i]?=some y:=⟨elems[i]'(by omega),List.getElem?_eq_getElem _⟩;rw[hy]at h1;obtain⟨us,hus,htr⟩:=Option.bind_eq_some_iff.1 h1;obtain⟨x,x1,x2,x3⟩:=h m (by omega) us y.1 y.2 htr (hall _ (zzf.2 ⟨y,List.mem_of_getElem? hy,rfl⟩));obtain⟨c1,c2⟩:=zjr hus;exact⟨x,x1,⟨y,hy,x2⟩,us,c1,c2,x3⟩
  obtain⟨xs,hxs,hp⟩:=ze4 len each;refine⟨xs,⟨by omega,fun x hx=>?_⟩,?_,?_,trivial⟩
  ·obtain⟨i,hi,rfl⟩:=List.getElem_of_mem hx;have:=(hp i (by omega)).1
   rwa[List.getD_eq_getElem?_getD,List.getElem?_eq_getElem hi]at this
  ·refine Nat.le_trans ?_ (hB.slice _ _);rw[List.map_map];have:=zgr (f:=bulk) (g:=fun y:DataW H×List MemPlace=>B y.1) xs elems (by omega) fun i y hy=>by
    obtain⟨y',hy',hle⟩:=(hp i (by have:=(List.getElem?_eq_some_iff.1 hy).1;omega)).2.1;rw[hy]at hy';cases hy';exact hle
   show(xs.map bulk).sum+1≤_;exact Nat.add_le_add_right this 1
  ·rcases Nat.eq_zero_or_pos len with h0|hp0
   ·subst h0;rw[encL,hxs];exact .empty _ _ _ _
   ·have hcell: ∀i,i<len→ ∀j,j<es→ ∃v,W.cell? ((a.add (i*es)).add j)=some v∧RelD (allG W) W (D.at (e (xs.getD i zzd)) j) v:=fun i hi j hj=>by
     obtain⟨x1,_,us,u1,u2,u3⟩:=hp i hi;obtain⟨v,v1,v2⟩:=u3.get j (by rw[hlen _ x1];exact hj);exact⟨v,by rw[u2 j hj];exact v1,v2⟩
    obtain⟨v0,hv0,_⟩:=hcell 0 hp0 0 hpos;have hspot:a.spot=none:=by
     cases hs:a.spot with
     |none=>rfl
     |some q=>
      unfold World.cell? at hv0;split at hv0
      ·simp[Addr.add,hs]at hv0
      ·cases hv0
    have hblk:a.block<W.heap.size:=by
     have:=World.block_lt_of_cell? W _ hv0;unfold Addr.add at this;by_cases h1:(0*es=0)<;>simpa [h1]using this
    obtain⟨ab,ao,asp⟩:=a;simp at hspot;subst hspot;simp only[Addr.add_add]at hcell;rw[encL,hxs];refine .list es len _ ab ao cap (fun i j=>(W.cell? ⟨ab,ao+i*es+j,none⟩).getD undef) hblk hl ?_ (fun i j hi hj=>?_) (fun i hi=>hlen _ (hp i hi).1) fun i j hi hj=>?_
    ·omega
    ·obtain⟨v,hv,_⟩:=hcell i hi j hj;rw[hv];rfl
    ·obtain⟨v,hv,hr⟩:=hcell i hi j hj;rw[hv];exact hr
def z4s {X:Type}(enc:TypeId×Value→H)(P:Program)(W:World)(Z:TypeId→DataW H→Prop)(B:DataW H→Nat)(n:Nat)(fs:List Field)(off tot:Nat)(e:X→List D)(ok:X→Prop)(bulk:X→Nat):Prop:=
 ∀(cs:List Value) (xs:List (DataW H×List MemPlace)),cs.length=tot→(fs.mapM fun f=>DataW.trod enc P W 0 (fun _=>true) true n f.type ((cs.drop f.offset).take (P.cellsOf f.type)))=some xs→
  (∀(i:Nat) f y,fs[i]?=some f→xs[i]?=some y→Z f.type y.1)→ ∃x,ok x∧bulk x≤(xs.map fun y=>B y.1).sum∧RelDs (allG W) W (e x) (cs.drop off)
theorem z4s.nil {n off:Nat}:z4s enc P W Z B n [] off off (fun _:Unit=>[]) (fun _=>True) (fun _=>0):=fun cs xs hc hx hN=>by
 refine⟨(),trivial,Nat.zero_le _,?_⟩;rw[List.drop_eq_nil_of_le (by omega)];trivial
theorem z4s.cons {X Y:Type}{n off tot k:Nat}{f:Field}{fs:List Field}{e:X→List D}{ok:X→Prop}{bulk:X→Nat}{e':Y→List D}{ok':Y→Prop}{bulk':Y→Nat}
 (hf:z1f enc P W Z B n f.type e ok bulk) (ho:f.offset=off) (hk:P.cellsOf f.type=k) (hr:z4s enc P W Z B n fs (off+k) tot e' ok' bulk'):
 z4s enc P W Z B n (f::fs) off tot (fun p:X×Y=>e p.1++e' p.2) (fun p=>ok p.1∧ok' p.2) (fun p=>bulk p.1+bulk' p.2):=fun cs xs hc hx hN=>by
 rw[List.mapM_cons]at hx;simp only[Option.bind_eq_bind,Option.bind_eq_some_iff,Option.pure_def,Option.some.injEq]at hx;obtain⟨y,hy,ys,hys,rfl⟩:=hx;simp only[List.map_cons,List.sum_cons];obtain⟨x1,a1,a2,a3⟩:=hf _ y.1 y.2 hy (hN 0 f y rfl rfl);obtain⟨x2,b1,b2,b3⟩:=hr cs ys hc hys fun i f' y' h1 h2=>hN (i+1) f' y' (by simpa using h1) (by simpa using h2);refine⟨(x1,x2),⟨a1,b1⟩,by simp only;omega,?_⟩;rw[ho,hk]at a3;have:cs.drop off=(cs.drop off).take k++cs.drop (off+k):=by rw[take_drop_step]
 rw[this];exact a3.append b3
theorem z1f.struct {X:Type}{n tot:Nat}{t:TypeId}{fs:Array Field}{e:X→List D}{ok:X→Prop}{bulk:X→Nat}(hZ:Fine P Z)(hB:BulkOk B)(ht:P.underlying t=some (.struct fs))(htot:P.cellsOf t=tot)
 (h: ∀m,m<n→z4s enc P W Z B m fs.toList 0 tot e ok bulk):z1f enc P W Z B n t e ok (fun x=>bulk x+1):=fun cs d ps hd hN=>by
 cases n with
 |zero=>simp[DataW.trod]at hd
 |succ n=>
  unfold DataW.trod at hd;rw[ht]at hd;have key:(if cs.length=P.cellsOf t then(fs.toList.mapM fun f=>DataW.trod enc P W 0 (fun _=>true) true n f.type ((cs.drop f.offset).take (P.cellsOf f.type))).map fun xs=>(DataW.agg (xs.map (·.1)),xs.flatMap (·.2))else none)=some (d,ps):=by
   split at hd<;>simp_all
  split at key
  ·rename_i hl
   obtain⟨xs,hxs,hx⟩:=Option.map_eq_some_iff.1 key;cases hx;have ha:=hB.agg (xs.map (·.1))
   rw[List.map_map]at ha;have hs:(xs.map (B∘fun x=>x.1)).sum=(xs.map fun y=>B y.1).sum:=rfl
   obtain⟨x,h1,h2,h3⟩:=h n (by omega) cs xs (hl.trans htot) hxs fun i f y hf hy=>hZ.struct _ _ _ ht hN i f y.1 hf (by rw[List.getElem?_map,hy];rfl);exact⟨x,h1,by simp only;omega,h3⟩
  ·cases key
def flatE {X:Type}(e:X→List D):List X→List D
 |[]=>[]
 |x::xs=>e x++flatE e xs
theorem     z1f.array {X : Type} {n m k : Nat} {t te : TypeId} {e : X → List D} {ok : X → Prop} {bulk : X → Nat} (hZ : Fine P Z) (hB : BulkOk B) (ht : P.underlying t = some (.array m te)) (hk : P.cellsOf te = k) (hmk : P.cellsOf t = m * k)
    (h : ∀ m', m' < n →     z1f enc P W Z B m' te e ok bulk) :
        z1f enc P W Z B n t (fun xs : List X => flatE e xs) (fun xs => xs.length = m ∧ ∀ x ∈ xs, ok x) (fun xs => (xs.map bulk).sum + 1) := fun cs d ps hd hN => by
  cases n with
  | zero => simp [DataW.trod] at hd
  | succ n =>
    unfold DataW.trod at hd
    rw [ht] at hd
    have key : (if cs.length = P.cellsOf t then ((List.range m).mapM fun i => DataW.trod enc P W 0 (fun _ => true) true n te ((cs.drop (i * P.cellsOf te)).take (P.cellsOf te))).map fun xs => (DataW.agg (xs.map (·.1)), xs.flatMap (·.2)) else none) = some (d, ps) := by
      split at hd <;> simp_all
    split at key
    · rename_i hl
      obtain ⟨xs, hxs, hx⟩ := Option.map_eq_some_iff.1 key
      cases hx
      have ha := hB.agg (xs.map (·.1))
      rw [List.map_map] at ha
      have hs : (xs.map (B ∘ fun x => x.1)).sum = (xs.map fun y => B y.1).sum := rfl
      rw [hk] at hxs
      rw [hmk] at hl
      have go : ∀ (c : Nat) (off : Nat) (xs : List (DataW H × List MemPlace)), off + c = m → ((List.range' off c).mapM fun i => DataW.trod enc P W 0 (fun _ => true) true n te ((cs.drop (i * k)).take k)) = some xs →
          (∀ y ∈ xs, Z te y.1) → ∃ zs : List X, zs.length = c ∧ (∀ x ∈ zs, ok x) ∧ (zs.map bulk).sum ≤ (xs.map fun y => B y.1).sum ∧ RelDs (allG W) W (flatE e zs) (cs.drop (off * k)) := by
        intro c
        induction c with
        | zero =>
          intro off xs ho hx _
          simp at hx
          refine ⟨[], rfl, fun x hx => (by cases hx), Nat.zero_le _, ?_⟩
          rw [List.drop_eq_nil_of_le (by have : off = m := by omega
                                         subst this; omega)]
          trivial
        | succ c ih =>
          intro off xs ho hx hN'
          rw [List.range'_succ, List.mapM_cons] at hx
          simp only [Option.bind_eq_bind, Option.bind_eq_some_iff, Option.pure_def, Option.some.injEq] at hx
          obtain ⟨y, hy, ys, hys, rfl⟩ := hx
          simp only [List.map_cons, List.sum_cons]
          obtain ⟨x1, a1, a2, a3⟩ := h n (by omega) _ y.1 y.2 hy (hN' y (               zz3 ..))
          obtain ⟨zs, b1, b2, b3, b4⟩ := ih (off + 1) ys (by omega) hys fun y' hy' => hN' y' (                 zz6 _ hy')
          refine ⟨x1 :: zs, by simp [b1], fun x hx => ?_, by simp only [List.map_cons, List.sum_cons]; omega, ?_⟩
          · rcases           zzg.1 hx with rfl | hx
            · exact a1
            · exact b2 x hx
          · have : cs.drop (off * k) = (cs.drop (off * k)).take k ++ cs.drop ((off + 1) * k) := by rw [Nat.succ_mul, take_drop_step]
            rw [this]
            exact a3.append b4
      obtain ⟨zs, h1, h2, h3, h4⟩ := go m 0 xs (by omega) (by rw [← List.range_eq_range']; exact hxs) fun y hy => hZ.array _ _ _ _ ht hN y.1 (         zzf.2 ⟨y, hy, rfl⟩)
      exact ⟨zs, ⟨h1, h2⟩, by simp only; omega, by simpa using h4⟩
    · cases key
theorem zh4 {X:Type}[Inhabited X]{n k:Nat}{t te:TypeId}{e:X→List D}{ok:X→Prop}{bulk:X→Nat}(hZ:Fine P Z)(hB:BulkOk B)(ht:P.underlying t=some (.array 2 te))(hk:P.cellsOf te=k)(hmk:P.cellsOf t=2*k)
 (h: ∀m',m'<n→z1f enc P W Z B m' te e ok bulk):
 z1f enc P W Z B n t (fun p:X×X=>e p.1++(e p.2++[])) (fun p=>ok p.1∧ok p.2) (fun p=>bulk p.1+bulk p.2+1):=by
 refine(z1f.array hZ hB ht hk hmk h).map (fun xs=>(xs.getD 0 zzd,xs.getD 1 zzd)) (fun xs hx=>?_) (fun xs hx=>?_) (fun xs hx=>?_)
 all_goals
  obtain⟨hl,ha⟩:=hx;obtain⟨a,b,rfl⟩: ∃a b,xs=[a,b]:=by
   match xs,hl with
   |[a,b],_=>exact⟨a,b,rfl⟩
 ·rfl
 ·exact⟨ha a (by simp),ha b (by simp)⟩
 ·simp[List.sum_cons]
end
end Go.Av
/-
 Av,part T:from a contract to a row.
-/
namespace Go.Av
open Go Go.RowKit Go.ChangeShapes Go.WideShapes Go.ChangeAt
section
variable {H:Type} {enc:TypeId×Value→H} {P:Program} {W:World} {Z:TypeId→DataW H→Prop} {B:DataW H→Nat}
def ArgR {Y:Type}(enc:TypeId×Value→H)(P:Program)(W:World)(Z:TypeId→DataW H→Prop)(B:DataW H→Nat)(t:TypeId)(av:Y→AV)(ok:Y→Prop)(bulk:Y→Nat):Prop:=
 ∀(base:Nat) v d p,Value.okWide P W .any base t v→DataW.Trod enc P W 0 (fun _=>true) true t v d p→Z t d→ ∃z,ok z∧bulk z≤B d∧RelAV (RelC (allG W) (fun _=>False) (fun _=>none) W) (av z) v
def ArgsR {Y:Type}(enc:TypeId×Value→H)(P:Program)(W:World)(Z:TypeId→DataW H→Prop)(B:DataW H→Nat)(ts:List TypeId)(avs:Y→List AV)(ok:Y→Prop)(bulk:Y→Nat):Prop:=
 ∀(base:Nat) (vs:List Value) ds p,(∀(j:Nat) t v,ts[j]?=some t→vs[j]?=some v→Value.okWide P W .any base t v)→DataW.TrodAll enc P W 0 (fun _=>true) true ts vs ds p→(∀(i:Nat) t d,ts[i]?=some t→ds[i]?=some d→Z t d)→
  ∃z,ok z∧bulk z≤(ds.map B).sum∧z1p (RelC (allG W) (fun _=>False) (fun _=>none) W) (avs z) vs∧ds.length=ts.length
def zmy:Option TypeDesc→Bool
 |some .bool=>true
 |some (.int _)=>true
 |some .string=>true
 |some (.slice _)=>true
 |_=>false
theorem ze0 {X:Type}{t:TypeId}{g:X→D}{ok:X→Prop}{bulk:X→Nat}(h:Reads enc P W Z B t (fun x=>[g x]) ok bulk)(hs:zmy (P.underlying t)=true):
 ArgR enc P W Z B t (fun x=> .c (.d (g x))) ok bulk:=fun base v d p hv hd hN=>by
 obtain⟨n,hd⟩:=hd;obtain⟨x,h1,h2,h3⟩:=h n _ d p hd hN;have hcs:v.cells= #[v]:=by
  unfold Value.okWide Cell.okWide Cell.ok at hv;cases hu:P.underlying t with
  |none=>rw[hu]at hs;cases hs
  |some u=>
   rw[hu]at hs hv;cases u<;>first|(cases v<;>first|rfl|exact hv.elim)|cases hs
 refine⟨x,h1,h2,?_⟩;rw[hcs]at h3;exact z0h h3.1 h3.1.one
def znd:Option TypeDesc→Bool
 |some (.struct _)=>true
 |some (.array _ _)=>true
 |_=>false
theorem ArgR.agg {X:Type}{t:TypeId}{e:X→List D}{ok:X→Prop}{bulk:X→Nat}(h:Reads enc P W Z B t e ok bulk)(hs:znd (P.underlying t)=true):
 ArgR enc P W Z B t (fun x=> .agg ((e x).map .d)) ok bulk:=fun base v d p hv hd hN=>by
 obtain⟨n,hd⟩:=hd;obtain⟨x,h1,h2,h3⟩:=h n _ d p hd hN;have hcs: ∃cs,v= .agg cs:=by
  unfold Value.okWide at hv;cases hu:P.underlying t with
  |none=>rw[hu]at hs;cases hs
  |some u=>
   rw[hu]at hs hv;cases u<;>first|(exact⟨_,hv.choose_spec.1⟩)|cases hs
 obtain⟨cs,rfl⟩:=hcs;obtain⟨r1,r2⟩:=RelDs.cells (V:=fun _=>False) (φ:=fun _=>none) h3;exact⟨x,h1,h2,cs,rfl,r1,r2⟩
theorem ArgsR.nil:ArgsR enc P W Z B [] (fun _:Unit=>[]) (fun _=>True) (fun _=>0):=fun base vs ds p hv hd hN=>by
 obtain⟨rfl,rfl,rfl⟩:=trodAll_nil hd;exact⟨(),trivial,Nat.zero_le _,trivial,rfl⟩
theorem ArgsR.cons {X Y:Type}{t:TypeId}{ts:List TypeId}{av:X→AV}{ok:X→Prop}{bulk:X→Nat}{avs:Y→List AV}{ok':Y→Prop}{bulk':Y→Nat}
 (h:ArgR enc P W Z B t av ok bulk) (hr:ArgsR enc P W Z B ts avs ok' bulk'):ArgsR enc P W Z B (t::ts) (fun z:X×Y=>av z.1::avs z.2) (fun z=>ok z.1∧ok' z.2) (fun z=>bulk z.1+bulk' z.2):=fun base vs ds p hv hd hN=>by
 obtain⟨v,vs',d,ds',p1,q,rfl,rfl,rfl,h1,h2⟩:=trodAll_cons hd;simp only[List.map_cons,List.sum_cons];obtain⟨x,x1,x2,x3⟩:=h base v d p1 (hv 0 t v rfl rfl) h1 (hN 0 t d rfl rfl);obtain⟨y,y1,y2,y3,y4⟩:=hr base vs' ds' q (fun j t' v' ht hv'=>hv (j+1) t' v' (by simpa using ht) (by simpa using hv')) h2 fun i t' d' ht hd=>hN (i+1) t' d' (by simpa using ht) (by simpa using hd);exact⟨(x,y),⟨x1,y1⟩,by simp only;omega,⟨x3,y3⟩,by simp[y4]⟩
theorem zcp (hl:laidOutB P=true): ∀{ts:List TypeId} {vs:List Value} {ds:List (DataW H)} {ps:List MemPlace} {W':World} {sp:Nat→Bool},(∀t∈ts,P.readableRec t=true∧t<P.types.size)→
 DataW.TrodAll enc P W 0 (fun _=>true) true ts vs ds ps→Below W.heap.size W W'→(∀x∈ps,sp x.block=true)→DataW.TrodAll enc P W' 0 sp true ts vs ds ps
 |[],[],[],_,_,_,_,h,_,_=>h
 |t::ts,v::vs,d::ds,_,W',sp,ht,⟨p,q,h1,h2,e⟩,hb,hs=>by
  subst e;have hlt: ∀x∈p,x.block<W.heap.size:=by obtain⟨n,hn⟩:=h1;exact DataW.trod_lt n _ _ _ hn
  refine⟨p,q,?_,zcp hl (fun t h=>ht t (zz6 _ h)) h2 hb fun x hx=>hs x (List.mem_append_right _ hx),rfl⟩;exact WideElems.Trod_stays hl (ht t (zz3 ..)).1 (ht t (zz3 ..)).2 h1 (fun x hx=>hb.same (hlt x hx)) fun x hx=>hs x (zzm _ hx)
 |[],_::_,_,_,_,_,_,h,_,_=>by simp[DataW.TrodAll]at h
 |_::_,[],_,_,_,_,_,h,_,_=>by simp[DataW.TrodAll]at h
 |[],[],_::_,_,_,_,_,h,_,_=>by simp[DataW.TrodAll]at h
 |_::_,_::_,[],_,_,_,_,h,_,_=>by simp[DataW.TrodAll]at h
theorem Summ.calls {f : FuncId} {fn : Func} {c : Code} {args : List AV} {res : AV} (hf : P.funcs[f]? = some fn) (hb : fn.body = some c) (hn : (fn.name == "runtime.NumGoroutine") = false) (hS : Summ P f args [] res []) {vs : Array Value}
    (hr :    z1p (RelC (allG W) (fun _ => False) (fun _ => none) W) args vs.toList) :
    Calls P f vs W fun e W' => ∃ v, e = .returned v ∧ Below W.heap.size W W' ∧ ∃ G φ, RelAV (RelC G (fun _ => False) φ W') res v := by
  have hb0 : ∀ b, ¬ Blks (fun _ => none) [] b := fun b ⟨k, c, l, hk, _⟩ => by cases hk
  have hr' :    z1p (RelC (allG W) (fun b => b < W.heap.size ∧ ¬ Blks (fun _ => none) [] b) (fun _ => none) W) args vs.toList := by
    have key : ∀ (xs : List AV) (us : List Value),    z1p (RelC (allG W) (fun _ => False) (fun _ => none) W) xs us →    z1p (RelC (allG W) (fun b => b < W.heap.size ∧ ¬ Blks (fun _ => none) [] b) (fun _ => none) W) xs us := by
      intro xs
      induction xs with
      | nil => intro us h; cases us <;> exact h
      | cons x xs ih =>
        intro us h
        cases us with
        | nil => exact h
        | cons u us =>
          refine ⟨h.1.mono fun c _ v hc => ?_, ih us h.2⟩
          cases c <;> first
            | exact hc
            | (rcases hc with hc | ⟨b, off, cap, hb, r⟩
               · exact .inl hc
               · exact .inr ⟨b, off, cap, hb.imp id fun x => x.elim, r⟩)
            | (obtain ⟨b, off, hb, r⟩ := hc; exact ⟨b, off, hb.imp id fun x => x.elim, r⟩)
    exact key _ _ hr
  have h := hS (allG W) (fun _ => none) W vs.toList (fun b hb => hb) ⟨fun k c hk => (by cases hk), fun k k' c c' l l' hk => (by cases hk), fun k c l hk => (by cases hk)⟩ hr'
  unfold Acts at h
  have hcall : (callFunc f vs).run P W = .ok (.enter f vs) W := by
    simp only [callFunc,          zz5]
    show Sem.run P (match P.funcs[f]? with | none => _ | some fn => _) W = _
    rw [hf]
    simp [hn, hb]
  rw [show vs.toList.toArray = vs by simp, hcall] at h
  refine h.mono fun e W' ⟨v, G, φ, he, hd⟩ => ⟨v, he, ?_, G, φ, hd.rel⟩
  exact ⟨hd.kp.os, hd.kp.tape.1, hd.kp.output, hd.kp.size, fun k hk => hd.kp.block k hk (hb0 _)⟩
theorem zhj {Y : Type} {f : FuncId} {fn : Func} {c : Code} {s : ChangeSpec} {ts : List TypeId} {tb : TypeId} {avs : Y → List AV} {ok : Y → Prop} {bulk : Y → Nat} {N : Nat}
    (hf : P.funcs[f]? = some fn) (hb : fn.body = some c) (hn : (fn.name == "runtime.NumGoroutine") = false) (hts : fn.params.toList = ts) (hrt : fn.resultTypes = #[tb]) (htb : P.underlying tb = some .bool)
    (hv : s.vars = []) (hfn : ∀ ds : List (DataW H), ds.length = ts.length → s.fn H ds = { results := [.lit (.bool true)], args := ds }) (hl : laidOutB P = true)
    (hrd : (ts.all fun t => P.readableRec t && decide (t < P.types.size)) = true)
    (hR : ∀ W, ArgsR enc P W Z B ts avs ok bulk) (hS : ∀ z, ok z → bulk z ≤ (N : Nat) → Summ P f (avs z) [] (.c (.d (.bool true))) [])
    (base : Nat) (args : Array Value) (ds gs : List (DataW H)) (before : List MemPlace)
    (hval : ∀ (j : Nat) t v, fn.params[j]? = some t → args[j]? = some v → Value.okWide P W .any base t v)
    (hW : DataW.Whole enc P fn.params.toList s.vars false W args.toList ds gs before) (hk : (ds.map B).sum ≤ N) (hZ : ∀ (i : Nat) t d, fn.params.toList[i]? = some t → ds[i]? = some d → Z t d) :
    Calls P f args W fun e W' => ∃ v, e = .returned v ∧ s.post enc P fn false true false false W args v W' := by
  have hW' := hW
  obtain ⟨p, q, hA, hV, rfl, hfz, hnd⟩ := hW
  rw [hv] at hV
  obtain ⟨rfl, rfl⟩ : gs = [] ∧ q = [] := by
    cases gs <;> simp [DataW.TrodVars] at hV
    exact ⟨rfl, hV⟩
  have hA' := hA
  rw [hts] at hA
  obtain ⟨z, z1, z2, z3, z4⟩ := hR W base args.toList ds p (fun j t v h1 h2 => hval j t v (by rw [← Array.getElem?_toList, hts]; exact h1) (by simpa using h2)) hA (by rw [hts] at hZ; exact hZ)
  have hcalls := Summ.calls hf hb hn (hS z z1 (Nat.le_trans z2 hk)) z3
  refine hcalls.mono fun e W' ⟨v, he, hbel, G, φ, hrel⟩ => ?_
  have hvb : v = .bool true := by
    have h : RelD G W' (.bool true) v := hrel.1
    cases h; rfl
  subst hvb
  have hds : s.fn H (ds ++ []) = { results := [.lit (.bool true)], args := ds } := by rw [List.append_nil]; exact hfn ds z4
  have hlt : ∀ x ∈ p, x.block < W.heap.size := fun x hx => hW'.lt x (by simpa using hx)
  refine ⟨_, he, ds, [], p ++ [], [], p, [], hW', ?_, ?_, ?_, hbel.frame _, fun h => by cases h⟩
  · rw [hds, hrt]
    exact trodAll_mk1 (shut_bool htb _)
  · rw [hds, hts]
    refine zcp hl (fun t ht => ?_) hA hbel fun x hx => by simpa using hlt x hx
    have := List.all_eq_true.1 hrd t ht
    simpa using this
  · rw [hds, hv]; rfl
theorem zhg {ts:List TypeId}{ds:List (DataW H)}{N:Nat}(hN:N≤maxN)(h:(ds.map B).sum≤N): ∀(i:Nat) (t:TypeId) d,ts[i]?=some t→ds[i]?=some d→B d≤maxN:=fun i t d _ hd=>by
 have:=zbi (f:=B) (List.mem_of_getElem? hd);omega
end
end Go.Av
