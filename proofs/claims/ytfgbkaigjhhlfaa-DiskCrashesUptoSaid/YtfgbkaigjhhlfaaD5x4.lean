import Derived.Test.YtfgbkaigjhhlfaaD5x3
import Derived.KernelRfl
set_option maxRecDepth 100000
set_option linter.unusedVariables false
set_option linter.unusedSimpArgs false
set_option linter.unusedSectionVars false
open Inhabited renaming default→zzd
open Option renaming bind_some→zz7
open Int renaming toNat_natCast→zz8
namespace Go.Av
open Go
theorem zck (l:List Write)(i:Nat):szW (l.take i)≤szW l:=by
 unfold szW
 conv=>rhs;rw[←List.take_append_drop i l,List.map_append,List.sum_append]
 omega
theorem zbh {l:List Write}{i:Nat}(hi:i<l.length):szW (l.take i)+(l.getD i zzd).data.size≤szW l:=by
 have h:=zck l (i+1);rw[z2u hi]at h;have:szW (l.take i++[l.getD i zzd])=szW (l.take i)+(l.getD i zzd).data.size:=by unfold szW;simp
 omega
def zeroD:Disk:=⟨[],[],0,false,0⟩
def tornW (w:Write)(t:Nat):Write:=⟨w.kind,w.name,w.to_,w.data.extract 0 t⟩
def keepN (d:Disk)(keep:Int):Nat:=if(d.waits.length:Int)<(if keep<0 then 0 else keep)then d.waits.length else(if keep<0 then 0 else keep).toNat
def tearN (w:Write)(tear:Int):Nat:=if(w.data.size:Int)<tear then w.data.size else tear.toNat
def crF (d:Disk)(keep tear:Int):List File:=
 if keepN d keep<d.waits.length∧0<tear∧(d.waits.getD (keepN d keep) zzd).kind=1 then doneF ((d.waits.take (keepN d keep)).foldl doneF d.files) (tornW (d.waits.getD (keepN d keep) zzd) (tearN (d.waits.getD (keepN d keep) zzd) tear))
 else(d.waits.take (keepN d keep)).foldl doneF d.files
theorem z9a (d:Disk)(keep:Int):(if(d.waits.length:Int)<(if keep<0 then 0 else keep)then(d.waits.length:Int)else(if keep<0 then 0 else keep))=(keepN d keep:Int):=by
 unfold keepN;by_cases h:keep<0
 ·rw[if_pos h];split<;>omega
 ·rw[if_neg h];split<;>omega
theorem zbz (d:Disk)(keep:Int):keepN d keep≤d.waits.length:=by
 have:=z9a d keep;by_cases h:keep<0
 ·rw[if_pos h]at this;split at this<;>omega
 ·rw[if_neg h]at this;split at this<;>omega
theorem zf4 {w:Write}{tear:Int}(h:0<tear):(if(w.data.size:Int)<tear then(w.data.size:Int)else tear)=(tearN w tear:Int):=by
 unfold tearN;split<;>omega
theorem zf5 {w:Write}{tear:Int}(h:0<tear):tearN w tear≤w.data.size:=by
 unfold tearN;split<;>omega
theorem zdc (w:Write)(t:Nat):(tornW w t).data.size≤w.data.size:=by
 unfold tornW;simp only[ByteArray.size_extract];omega
theorem zed {B:Nat}{d:Disk}(hs:smP B d)(hc:chkP d){k:Nat}(hk:k<d.waits.length):szF ((d.waits.take k).foldl doneF d.files)+(d.waits.getD k zzd).data.size≤B:=by
 have h1:=hc.1;have h2:=hc.2.1
 have h3:=hs.2.2.1;have:=zan (d.waits.take k) (l:=d.files) (by rw[List.length_take];omega) hc.2.2.2.2.1
 have:=zbh hk;omega
theorem zeo {fuel B:Nat}{d:Disk}{keep tear:Int}(hf:20000000≤fuel)(hB:B≤4611686018427387904)(hs:smP B d)(hc:chkP d):z3n fuel d keep tear=some (⟨crF d keep tear,[],d.room,false,-1⟩,0):=by
 have h1:=hc.1;have h2:=hc.2.1
 have h3:=hs.2.2.1;have hkl:=zbz d keep
 unfold z3n;rw[zdv hf hs hc,zz7,decide_eq_true rfl,Bool.not_true,z11];unfold z0a;rw[z0f (by omega),zz7];simp only[z9a];have hdo:=(do_ok (ws:=d.waits.take (keepN d keep)) (l:=d.files) hf (by rw[List.length_take];omega) (by have:=zck d.waits (keepN d keep);omega) hc.2.2.2.2.1).1
 rw[z0f (by omega),zci,hdo,zz7];simp only[jn_eq,zz8];unfold crF;by_cases hk:keepN d keep<d.waits.length
 ·rw[decide_eq_true (by omega),z1i];by_cases ht:0<tear
  ·rw[decide_eq_true ht,z1i,z0f (by omega),zf4 ht];have htl:=zf5 (w:=d.waits.getD (keepN d keep) zzd) ht;have hp:=zed hs hc hk
   have hts:=zdc (d.waits.getD (keepN d keep) zzd) (tearN (d.waits.getD (keepN d keep) zzd) tear);by_cases h5:(d.waits.getD (keepN d keep) zzd).kind=1
   ·rw[if_pos ⟨hk,ht,h5⟩,decide_eq_true h5,z1i,z0f (by omega),z0f (by omega),zz8];have:=ze3 (fuel:=fuel) (w:=tornW (d.waits.getD (keepN d keep) zzd) (tearN (d.waits.getD (keepN d keep) zzd) tear)) (l:=(d.waits.take (keepN d keep)).foldl doneF d.files) hf (by have:=hc.2.2.2.2.2.2 _ hkl;omega) (by omega) (z8q _ hc.2.2.2.2.1);unfold tornW at this ⊢;rw[this];rfl
   ·rw[if_neg (fun h=>h5 h.2.2),decide_eq_false h5,z11]
  ·rw[decide_eq_false ht,z11,z11,if_neg (fun h=>ht h.2.1)]
 ·rw[decide_eq_false (by omega),z11,z11,if_neg (fun h=>hk h.1)]
theorem zen {fuel B:Nat}{d:Disk}{keep tear:Int}(hf:20000000≤fuel)(hs:smP B d)(hc: ¬chkP d):z3n fuel d keep tear=some (zeroD,8):=by
 unfold z3n;rcases z5t hf hs with⟨h1,_⟩|⟨_,h2,_⟩
 ·exact absurd h1 hc
 ·rw[h2];rfl
end Go.Av
namespace Go.Av
open Go
theorem zc0 {d:Disk}{keep:Int}{i:Nat}(hi:i<d.waits.length):(i:Int)<keep↔i<keepN d keep:=by
 unfold keepN;by_cases h:keep<0
 ·rw[if_pos h,if_neg (by omega)];omega
 ·rw[if_neg h];by_cases h2:(d.waits.length:Int)<keep
  ·rw[if_pos h2];omega
  ·rw[if_neg h2];omega
theorem zeu {d:Disk}{keep:Int}{i:Nat}(hi:i<d.waits.length)(hk:i=keepN d keep):(i:Int)=0∨(i:Int)=keep:=by
 unfold keepN at hk;by_cases h:keep<0
 ·rw[if_pos h,if_neg (by omega)]at hk;left;omega
 ·rw[if_neg h]at hk;by_cases h2:(d.waits.length:Int)<keep
  ·rw[if_pos h2]at hk;omega
  ·rw[if_neg h2]at hk;right;omega
theorem zcf {fuel B:Nat}{d:Disk}{keep tear:Int}(hf:20000000≤fuel)(hB:B≤4611686018427387904)(hs:smP B d)(hc:chkP d):z1s fuel d keep tear=some (⟨crF d keep tear,[],d.room,false,-1⟩,0):=by
 have h1:=hc.1;have h2:=hc.2.1
 have h3:=hs.2.2.1;have hkl:=zbz d keep
 have hke:=z9a d keep;unfold z1s;have hch:z17 fuel d=some 0:=by
  rcases z5t hf hs with⟨_,_,h⟩|⟨h,_⟩
  ·exact h
  ·exact absurd hc h
 rw[hch,zz7,decide_eq_true rfl,Bool.not_true,z11,z0f (by omega)];have key:=z6s (S:=List File) (R:=Empty) (B:=fun i3 (a4:List File)=>bf (decide (((i3:Nat):Int)<keep)) ((z0r fuel a4 (d.waits.getD i3 zzd)).bind fun r6=>some (.next r6)) (jn (fun(a7:List File)=>some (.brk a7)) fun j8=>jn (fun(a9:Bool)=>bf a9 (jn (fun(a11:Write)=>(z0r fuel a4 a11).bind fun r13=>j8 r13) fun j12=>bf (decide (tear<(((d.waits.getD i3 zzd).data).size:Int))) (need ((0:Int)≤0∧(0:Int)≤tear∧tear≤(((d.waits.getD i3 zzd).data).size:Int))<|j12 (⟨(d.waits.getD i3 zzd).kind,(d.waits.getD i3 zzd).name,(d.waits.getD i3 zzd).to_,(((d.waits.getD i3 zzd).data).extract 0 tear.toNat)⟩:Write)) (j12 (d.waits.getD i3 zzd))) (j8 a4)) fun j10=>bf (decide ((d.waits.getD i3 zzd).kind=1)) (bf (decide (0<tear)) (bf (decide (((i3:Nat):Int)=0)) (j10 true) (j10 (decide (((i3:Nat):Int)=keep)))) (j10 false)) (j10 false))) (n:=d.waits.length) (s:=d.files)
  (fun i a=>a=(d.waits.take i).foldl doneF d.files∧i≤keepN d keep) (fun a=>a=crF d keep tear) (fun r=>False) ⟨rfl,Nat.zero_le _⟩
  (fun i a hi ⟨g1,g2⟩=>by
   have hm:=z4x (l:=d.waits) hi;have hal:=hc.2.2.2.2.2.2 i (by omega)
   have haS:SF a:=by rw[g1];exact z8q _ hc.2.2.2.2.1
   have hp:=zed hs hc hi;rw[←g1]at hal hp;by_cases hk:(i:Int)<keep
   ·left;refine⟨doneF a (d.waits.getD i zzd),?_,by rw[z2u hi,List.foldl_append,←g1];rfl,?_⟩
    ·rw[decide_eq_true hk,z1i,z9c hf (by omega) haS (by omega) (za8 (hc.2.2.2.2.2.1 _ hm))];rfl
    ·have:=(zc0 (keep:=keep) hi).1 hk;omega
   ·right;left;have hik:i=keepN d keep:=by
     have:=fun h=>hk ((zc0 (keep:=keep) hi).2 h);omega
    have hi0:(i:Int)=0∨(i:Int)=keep:=zeu hi hik;rw[decide_eq_false hk,z11,jn_eq,jn_eq];unfold crF;rw[←hik,←g1];by_cases h5:(d.waits.getD i zzd).kind=1
    ·rw[decide_eq_true h5,z1i];by_cases ht:0<tear
     ·rw[if_pos ⟨hi,ht,h5⟩,decide_eq_true ht,z1i];have e: ∀X:Bool→Option (Ctl (List File) Empty),bf (decide (((i:Nat):Int)=0)) (X true) (X (decide (((i:Nat):Int)=keep)))=X true:=fun X=>by
       by_cases h0:(i:Int)=0
       ·rw[decide_eq_true h0];rfl
       ·rcases hi0 with h|h
        ·exact absurd h h0
        ·rw[decide_eq_false h0,decide_eq_true h];rfl
      have hts:=zdc (d.waits.getD i zzd) (tearN (d.waits.getD i zzd) tear);have hd:=z9c (fuel:=fuel) (l:=a) (w:=tornW (d.waits.getD i zzd) (tearN (d.waits.getD i zzd) tear)) hf (by omega) haS (by omega) (.inl h5)
      refine⟨_,?_,rfl⟩;have e2:=e fun a9=>bf a9 (jn (fun(a11:Write)=>(z0r fuel a a11).bind fun r13=>some (.brk r13)) fun j12=>bf (decide (tear<(((d.waits.getD i zzd).data).size:Int))) (need ((0:Int)≤0∧(0:Int)≤tear∧tear≤(((d.waits.getD i zzd).data).size:Int))<|j12 (⟨(d.waits.getD i zzd).kind,(d.waits.getD i zzd).name,(d.waits.getD i zzd).to_,(((d.waits.getD i zzd).data).extract 0 tear.toNat)⟩:Write)) (j12 (d.waits.getD i zzd))) (some (.brk a))
      refine e2.trans ?_;rw[z1i,jn_eq];by_cases h6:tear<((d.waits.getD i zzd).data.size:Int)
      ·rw[decide_eq_true h6,z1i,z0f (by omega)];have:tearN (d.waits.getD i zzd) tear=tear.toNat:=by unfold tearN;rw[if_neg (by omega)]
       rw[this]at hd ⊢;unfold tornW at hd ⊢;show(z0r fuel a _).bind _=_;rw[hd];rfl
      ·rw[decide_eq_false h6,z11];have:tearN (d.waits.getD i zzd) tear=(d.waits.getD i zzd).data.size:=by unfold tearN;split<;>omega
       have ew:tornW (d.waits.getD i zzd) (tearN (d.waits.getD i zzd) tear)=d.waits.getD i zzd:=by
        rw[this];unfold tornW;rw[ByteArray.extract_zero_size]
       rw[ew]at hd ⊢;show(z0r fuel a _).bind _=_;rw[hd];rfl
     ·rw[if_neg (fun h=>ht h.2.1),decide_eq_false ht];exact⟨a,rfl,rfl⟩
    ·rw[if_neg (fun h=>h5 h.2.2),decide_eq_false h5];exact⟨a,rfl,rfl⟩)
  (fun a ⟨g1,g2⟩=>by
   unfold crF;have:keepN d keep=d.waits.length:=by omega
   rw[this,if_neg (fun h=>by omega)];exact g1)
 rcases key with⟨a,g1,g2⟩|⟨r,_,g2⟩
 ·rw[g1,z3c,g2]
 ·exact g2.elim
theorem zce {fuel B:Nat}{d:Disk}{keep tear:Int}(hf:20000000≤fuel)(hs:smP B d)(hc: ¬chkP d):z1s fuel d keep tear=some (zeroD,8):=by
 unfold z1s;rcases z5t hf hs with⟨h1,_⟩|⟨_,_,h2⟩
 ·exact absurd h1 hc
 ·rw[h2];rfl
end Go.Av
namespace Go.Av
open Go
set_option maxRecDepth 100000
theorem zc3:z3o 100000000=some true:=by kernel_rfl
theorem zfl (l:List File):l.length≤(l.map z4u).sum∧szF l≤(l.map z4u).sum:=by
 unfold szF;induction l with
 |nil=>simp
 |cons f l ih=>
  simp only[List.map_cons,List.sum_cons,List.length_cons];have:f.data.size+1≤z4u f:=by unfold z4u;simp only;omega
  omega
theorem zda (l:List Write):l.length≤(l.map z43).sum∧szW l≤(l.map z43).sum∧ ∀w∈l,w.to_.size+w.data.size≤(l.map z43).sum:=by
 unfold szW;induction l with
 |nil=>simp
 |cons f l ih=>
  simp only[List.map_cons,List.sum_cons,List.length_cons];have:f.to_.size+f.data.size+1≤z43 f:=by unfold z43;simp only;omega
  refine⟨by omega,by omega,fun w hw=>?_⟩;rcases List.mem_cons.1 hw with rfl|hw
  ·omega
  ·have:=ih.2.2 w hw;omega
theorem zg4 {d:Disk}(h:zc7 d)(hb:z67 d≤1048576):smP 1048576 d:=by
 unfold z67 at hb;simp only at hb;have h1:=zfl d.files
 have h2:=zda d.waits;refine⟨by omega,fun w hw=>by have:=h2.2.2 w hw;omega,by omega,?_⟩;have:=Go.bounds_i64 h.2.2.1
 omega
end Go.Av
namespace Go.Av
open Go
theorem zcz {d:Disk}(h:d.waits.length≤4096):z1k 100000000 d d=some true:=zau (by omega) (by unfold maxN;omega)
theorem zf8 {d:Disk}{B:Nat}(h:d.files.length≤4000000)(h2:d.waits.length≤4000000):z32 d=some d:=by
 unfold z32;rw[z0f (by omega),z0f (by omega)]
theorem z96 {d:Disk}{keep tear:Int}(hs:smP 1048576 d)(hw:d.waits.length≤1048576):z1r 100000000 d keep tear=some true:=by
 unfold z1r;have hf:20000000≤100000000:=by omega
 have hS:z1k 100000000 d d=some true:=zau (by omega) (by unfold maxN;omega);rw[zf8 (B:=0) hs.1 (by omega),zz7];by_cases hc:chkP d
 ·rw[zeo hf (by omega) hs hc,zcf hf (by omega) hs hc,zc3];simp only[zz7,jn_eq,hS,decide_true,z1i,zcz (d:=⟨crF d keep tear,[],d.room,false,-1⟩) (Nat.zero_le _)]
 ·rw[zen hf hs hc,zce hf hs hc,zc3];simp only[zz7,jn_eq,hS,decide_true,z1i,zcz (d:=zeroD) (Nat.zero_le _)]
end Go.Av
namespace Go.Av
open Go
theorem z9j {d:Disk}{k t:Int}(h:zc7 d)(hb:z67 d+(1+(1+0))≤1048576):z1r 100000000 d k t=some true:=by
 refine z96 (zg4 h (by omega)) ?_;unfold z67 at hb;simp only at hb;have:=(zda d.waits).1
 omega
end Go.Av
