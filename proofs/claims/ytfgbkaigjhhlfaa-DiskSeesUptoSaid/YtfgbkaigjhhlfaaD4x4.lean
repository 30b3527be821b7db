import Derived.Test.YtfgbkaigjhhlfaaD4x3
import Derived.KernelRfl
set_option maxRecDepth 100000
set_option linter.unusedVariables false
set_option linter.unusedSimpArgs false
set_option linter.unusedSectionVars false
open Go.IntKind renaming i64→zzi
open Inhabited renaming default→zzd
open Option renaming bind_some→zz5
open Int renaming toNat_natCast→zz8
open Nat renaming zero_add→zza
namespace Go.Av
open Go
theorem zfl:z2j=z0o:=rfl
theorem zem {fuel:Nat}{l:List File}{n:ByteArray}(hf:20000000≤fuel)(hn:l.length≤4000000)(hs:SF l):
 ∃k:Nat,z0f fuel l n=some ((k:Int),hasF n l)∧(hasF n l=true→k<l.length∧(l.getD k zzd).data=oldF n l):=by
 obtain⟨k,b,h1,h2,h3,h4⟩:=z5t (n:=n) hf hn hs;obtain⟨f,g1,g2⟩:=zak (n:=n) hf hn hs;unfold z0p at g1;rw[h1]at g1;rcases h4 with⟨rfl,h5,h6⟩|⟨rfl,h5,h8,h6,h7⟩
 ·have hh:hasF n l=false:=by
   unfold hasF;rw[List.any_eq_false];intro g hg;rw[decide_eq_true_eq];exact h6 g hg
  refine⟨k,by rw[h1,hh],fun h=>?_⟩;rw[hh]at h;cases h
 ·simp only[zz5,Bool.not_true,z1k]at g1;rw[z0k (by omega),z0k (by simp only[zz8];omega)]at g1;cases hd:z1c (k:Int) (zzi.wrap ((k:Int)+1)) l with
  |none=>rw[hd]at g1;cases g1
  |some r=>
   rw[hd]at g1;simp only[zz5,zz8,zza]at g1;injection g1 with g1;have e:l.getD k zzd=f:=congrArg Prod.fst g1
   have e2:true=hasF n l:=congrArg (fun q=>q.2.1) g1;exact⟨k,by rw[h1,←e2],fun _=>⟨h5,by rw[e,g2]⟩⟩
def seenF (d:Disk):List File:=d.waits.foldl doneF d.files
def rdF (l:List File)(n:ByteArray):ByteArray×Int:=if hasF n l=true then(oldF n l,0)else(bs [],5)
def smP (B:Nat)(d:Disk):Prop:=d.files.length≤4000000∧(∀w∈d.waits,w.to_.size+w.data.size≤9223372036854775807)∧szF d.files+szW d.waits≤B∧d.room<9223372036854775808
theorem zeq {d:Disk}(h:chkP d):(seenF d).length≤256:=by
 have:=h.2.2.2.2.2.2 d.waits.length (Nat.le_refl _);rwa[List.take_length]at this
theorem zfb {d:Disk}(h:chkP d):SF (seenF d):=z8p _ h.2.2.2.2.1
theorem z4h {fuel:Nat}{d:Disk}{B:Nat}(hf:20000000≤fuel)(hs:smP B d):
 (chkP d∧z1s fuel d=some 0∧z17 fuel d=some 0)∨(¬chkP d∧z1s fuel d=some 8∧z17 fuel d=some 8):=by
 rcases zf3 hf hs.1 hs.2.1 with⟨h1,h2⟩|⟨h1,h2⟩<;>rcases zc7 (d:=d) hf hs.1 with⟨h3,h4⟩|⟨h3,h4⟩
 ·exact .inl ⟨h1,h2,h4⟩
 ·exact absurd h1 h3
 ·exact absurd h3 h1
 ·exact .inr ⟨h1,h2,h4⟩
theorem zdm {fuel:Nat}{d:Disk}{B:Nat}(hf:20000000≤fuel)(hs:smP B d)(h:chkP d):z1s fuel d=some 0:=by
 rcases z4h hf hs with⟨_,h2,_⟩|⟨h1,_⟩
 ·exact h2
 ·exact absurd h h1
section
variable {fuel B:Nat} {d:Disk} (hf:20000000≤fuel) (hB:B≤4611686018427387904)
include hf hB
theorem zf9 (hs:smP B d)(hc:chkP d):z4e fuel d=some ⟨seenF d,d⟩:=by
 have h1:=hc.1;have h2:=hc.2.1
 have h3:=hs.2.2.1;unfold z4e z09 z0q;rw[z0k (by omega),z0k (by omega),zfl];simp only[zz5];rw[z0k (by omega),zz5,(do_ok hf (by omega) (by omega) hc.2.2.2.2.1).1];rfl
theorem zdp (hs:smP B d)(hc:chkP d):z4d fuel d=some (if d.down=true then([],7)else(seenF d,0)):=by
 unfold z4d;rw[zdm hf hs hc,zf9 hf hB hs hc];cases d.down<;>rfl
omit hB in
theorem zdo (hs:smP B d)(hc: ¬chkP d):z4d fuel d=some ([],8):=by
 unfold z4d;rcases z4h hf hs with⟨h1,_⟩|⟨_,h2,_⟩
 ·exact absurd h1 hc
 ·rw[h2];rfl
theorem zeo (hs:smP B d)(hc:chkP d):z35 fuel d=some (seenF d):=by
 have h1:=hc.1;have h2:=hc.2.1
 have h3:=hs.2.2.1;unfold z35;rw[z0k (by omega)];have key:=z6n (R:=Empty) (B:=fun i2 (a3:List File)=>(z1i fuel a3 (d.waits.getD i2 zzd)).bind fun r5=>some (.next r5)) (n:=d.waits.length) (s:=d.files) (seenF d) (fun i a=>a=(d.waits.take i).foldl doneF d.files) (fun s h=>by rw[h,List.take_length];rfl)
  (fun i a hi h=>by
   refine⟨doneF a (d.waits.getD i zzd),?_,by rw[z2w hi,List.foldl_append,←h];rfl⟩;have hm:=z51 (l:=d.waits) hi
   have hal:=hc.2.2.2.2.2.2 i (by omega);have haS:SF a:=by rw[h];exact z8p _ hc.2.2.2.2.1
   have hsz:=zah (d.waits.take i) (l:=d.files) (by rw[List.length_take];omega) hc.2.2.2.2.1;have hwz:szW (d.waits.take i)+(d.waits.getD i zzd).data.size≤szW d.waits:=by
    unfold szW
    conv=>rhs;rw[←List.take_append_drop (i+1) d.waits,List.map_append,List.sum_append,z2w hi,List.map_append,List.sum_append]
    simp
   rw[←h]at hal hsz;rw[zc8 hf (by omega) haS (by omega) (za3 (hc.2.2.2.2.2.1 _ hm))];rfl) rfl
 rw[key];rfl
theorem za2 (hs:smP B d)(hc:chkP d):z1r fuel d=some (if d.down=true then([],7)else(seenF d,0)):=by
 unfold z1r;rcases z4h hf hs with⟨_,_,h2⟩|⟨h1,_⟩
 ·rw[h2,zeo hf hB hs hc];cases d.down<;>rfl
 ·exact absurd hc h1
omit hB in
theorem za1 (hs:smP B d)(hc: ¬chkP d):z1r fuel d=some ([],8):=by
 unfold z1r;rcases z4h hf hs with⟨h1,_⟩|⟨_,_,h2⟩
 ·exact absurd h1 hc
 ·rw[h2];rfl
theorem zez (hs:smP B d)(hc:chkP d)(n:ByteArray):z3o fuel d n=some (if d.down=true then(bs [],7)else rdF (seenF d) n):=by
 unfold z3o;rw[zdp hf hB hs hc];cases hd:d.down with
 |true=>rfl
 |false=>
  simp only[zz5,Bool.false_eq_true,if_false];have hl:=zeq hc
  obtain⟨k,h1,h2⟩:=zem (n:=n) hf (show(seenF d).length≤4000000 by omega) (zfb hc);rw[h1];unfold rdF;cases hh:hasF n (seenF d)with
  |false=>rfl
  |true=>
   obtain⟨h3,h4⟩:=h2 hh;simp only[zz5,decide_true,Bool.not_true,z1k,if_true];rw[z0k (by omega),zz8,h4]
omit hB in
theorem zey (hs:smP B d)(hc: ¬chkP d)(n:ByteArray):z3o fuel d n=some (bs [],8):=by
 unfold z3o;rw[zdo hf hs hc];rfl
theorem zcs (hs:smP B d)(hc:chkP d)(n:ByteArray):z1v fuel d n=some (if d.down=true then(bs [],7)else rdF (seenF d) n):=by
 unfold z1v;rw[za2 hf hB hs hc];cases hd:d.down with
 |true=>rfl
 |false=>
  simp only[zz5,Bool.false_eq_true,if_false];unfold rdF;rcases zc9 (seenF d) n with⟨i,h1,h2,h3,h4⟩|⟨h1,h3⟩
  ·rw[h1,h3];simp only[zz5,decide_true,Bool.not_true,z1k,if_true];rw[decide_eq_false (by omega),z1k,z0k (by omega),zz8,h4]
  ·rw[h1,h3];rfl
omit hB in
theorem zcr (hs:smP B d)(hc: ¬chkP d)(n:ByteArray):z1v fuel d n=some (bs [],8):=by
 unfold z1v;rw[za1 hf hs hc];rfl
end
theorem zcl (f:File):z89 f f=true:=by unfold z89;rw[z5h,z5h];rfl
theorem z6w (l:List File):z1y l l=some true:=by
 unfold z1y;rw[decide_eq_true rfl,Bool.not_true,z1k];rw[z6n (R:=Bool) () (fun i (s:Unit)=>True) (fun s _=>rfl) (fun i s hi _=>⟨(),by rw[z0k (by omega),zcl];rfl,trivial⟩) trivial];rfl
end Go.Av
namespace Go.Av
open Go
set_option maxRecDepth 100000
theorem zbx:z3p 100000000=some true:=by kernel_rfl
theorem zfd (l:List File):l.length≤(l.map z4x).sum∧szF l≤(l.map z4x).sum:=by
 unfold szF;induction l with
 |nil=>simp
 |cons f l ih=>
  simp only[List.map_cons,List.sum_cons,List.length_cons];have:f.data.size+1≤z4x f:=by unfold z4x;simp only;omega
  omega
theorem zfe (l:List Write):l.length≤(l.map z44).sum∧szW l≤(l.map z44).sum∧ ∀w∈l,w.to_.size+w.data.size≤(l.map z44).sum:=by
 unfold szW;induction l with
 |nil=>simp
 |cons f l ih=>
  simp only[List.map_cons,List.sum_cons,List.length_cons];have:f.to_.size+f.data.size+1≤z44 f:=by unfold z44;simp only;omega
  refine⟨by omega,by omega,fun w hw=>?_⟩;rcases List.mem_cons.1 hw with rfl|hw
  ·omega
  ·have:=ih.2.2 w hw;omega
theorem zfz {d:Disk}(h:zc1 d)(hb:z78 d≤1048576):smP 1048576 d:=by
 unfold z78 at hb;simp only at hb;have h1:=zfd d.files
 have h2:=zfe d.waits;refine⟨by omega,fun w hw=>by have:=h2.2.2 w hw;omega,by omega,?_⟩;have:=Go.bounds_i64 h.2.2.1
 omega
theorem zb4 {d:Disk}{n:ByteArray}(hs:smP 1048576 d):z24 100000000 d n=some true:=by
 unfold z24;have hf:20000000≤100000000:=by omega
 by_cases hc:chkP d
 ·rcases z4h hf hs with⟨_,h1,h2⟩|⟨h1,_⟩
  ·rw[zdp hf (by omega) hs hc,za2 hf (by omega) hs hc,zez hf (by omega) hs hc,zcs hf (by omega) hs hc,zbx,h1,h2];simp only[zz5,jn_eq,z6w,z5h,decide_true,z3h]
  ·exact absurd hc h1
 ·rcases z4h hf hs with⟨h1,_⟩|⟨_,h1,h2⟩
  ·exact absurd h1 hc
  ·rw[zdo hf hs hc,za1 hf hs hc,zey hf hs hc,zcr hf hs hc,zbx,h1,h2];simp only[zz5,jn_eq,z6w,z5h,decide_true,z3h]
theorem zbe {d:Disk}{n:ByteArray}(h:zc1 d)(hb:z78 d+(n.size+1+0)≤1048576):z24 100000000 d n=some true:=zb4 (zfz h (by omega))
end Go.Av
