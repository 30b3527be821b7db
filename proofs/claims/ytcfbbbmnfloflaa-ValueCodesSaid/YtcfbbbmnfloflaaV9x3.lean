import Derived.Test.YtcfbbbmnfloflaaV9x2
import Derived.Sort.LotD3
import Derived.Sort.LotD4
import Derived.Sort.LotA
import Derived.Sort.LotB
import Derived.Sort.LotC
import Derived.KernelRfl
set_option maxRecDepth 100000
set_option linter.unusedVariables false
set_option linter.unusedSimpArgs false
set_option linter.unusedSectionVars false
open Go.IntKind renaming i64→zzi, u64→zzu
open Inhabited renaming default→zzd
open Option renaming bind_some→zz2
open List renaming mem_cons_of_mem→zz4, mem_cons_self→zz5
namespace Go.Av
open Go
theorem IsK.uniq {n k j:Nat}(h:IsK n k)(g:IsK n j):k=j:=by
 obtain⟨h1,h2,h3,h4⟩:=h;obtain⟨g1,g2,g3,g4⟩:=g;rcases Nat.lt_trichotomy k j with e|e|e
 ·have:=g4 (by omega);have h5:=Nat.pow_le_pow_right (n:=128) (by decide) (show k≤j-1 by omega)
  omega
 ·exact e
 ·have:=h4 (by omega);have h5:=Nat.pow_le_pow_right (n:=128) (by decide) (show j≤k-1 by omega)
  omega
def kOf (n:Nat):Nat:=if n<128 then 1 else if n<128^2 then 2 else if n<128^3 then 3 else if n<128^4 then 4 else if n<128^5 then 5 else if n<128^6 then 6 else if n<128^7 then 7 else if n<128^8 then 8 else if n<128^9 then 9 else 10
theorem z8r {n:Nat}(h:n<2^64):IsK n (kOf n):=by
 have p1:(128:Nat)^1=128:=by decide
 have p2:(128:Nat)^2=16384:=by decide
 have p3:(128:Nat)^3=2097152:=by decide
 have p4:(128:Nat)^4=268435456:=by decide
 have p5:(128:Nat)^5=34359738368:=by decide
 have p6:(128:Nat)^6=4398046511104:=by decide
 have p7:(128:Nat)^7=562949953421312:=by decide
 have p8:(128:Nat)^8=72057594037927936:=by decide
 have p9:(128:Nat)^9=9223372036854775808:=by decide
 have p10:(128:Nat)^10=1180591620717411303424:=by decide
 unfold kOf IsK;rw[p2,p3,p4,p5,p6,p7,p8,p9]
 repeat' split
 all_goals (refine⟨by omega,by omega,?_,fun _=>?_⟩<;>simp only[Nat.reduceSub,p1,p2,p3,p4,p5,p6,p7,p8,p9,p10]<;>omega)
def cntB (n:Nat):ByteArray:=strOfNums (cntL n (kOf n))
theorem z4k {n:Nat}:(cntB n).size=kOf n:=by unfold cntB cntL;rw[z4f];simp
theorem z4l {n:Nat}(h:n<2^64):1≤kOf n∧kOf n≤10:=⟨(z8r h).1,(z8r h).2.1⟩
theorem z85 {n:Nat}(h:n<2^64):pack_Count (n:Int)=some (cntB n):=by
 obtain⟨k,hk,e⟩:=zav h;rw[e,hk.uniq (z8r h)];rfl
theorem z43 {n:Nat}(h:n<2^64){fuel:Nat}(hf:11<fuel):z0p fuel (n:Int)=some (cntB n):=zbj (z8r h) h hf
def zz (m:Int):Nat:=if 0≤m then(2*m).toNat else(-2*m-1).toNat
theorem zz_lt {m:Int}(h:in64 m):zz m<2^64:=by
 unfold in64 at h;unfold zz;split<;>omega
theorem zd1 {m:Int}(h:in64 m):pack_Number m=some (cntB (zz m)):=by
 have hz:=zz_lt h;unfold pack_Number;rw[shr63 h];unfold in64 at h;have e1: ∃u:Nat,zzu.wrap m=(u:Int)∧u<2^64:=by
  refine⟨(zzu.wrap m).toNat,?_,?_⟩<;>rw[z10]<;>omega
 obtain⟨u,hu,hu2⟩:=e1;have hu3:(u:Int)=m % 18446744073709551616:=by rw[←hu,z10]
 rw[hu];have e2:shlOp .u64 (u:Int) 1=((u*2 % 18446744073709551616:Nat):Int):=by
  have:=zbw (k:= .u64) u 1 (by decide);rw[show((1:Nat):Int)=1 from rfl]at this;rw[this,z10];omega
 rw[e2];have hx:z07 .xor .u64 ((u*2 % 18446744073709551616:Nat):Int) (zzu.wrap (if m<0 then -1 else 0))=((zz m:Nat):Int):=by
  unfold zz;by_cases hm:m<0
  ·rw[if_pos hm,if_neg (by omega),z10];have e3:((-1:Int) % 18446744073709551616)=((18446744073709551615:Nat):Int):=by decide
   rw[e3,zby (k:= .u64) rfl (show u*2 % 18446744073709551616<2^64 by omega) (by decide)];have e4:(u*2 % 18446744073709551616)^^^18446744073709551615=18446744073709551615-u*2 % 18446744073709551616:=by
    have hlt:u*2 % 18446744073709551616<2^64:=by omega
    generalize u*2 % 18446744073709551616=a at*;apply Nat.eq_of_testBit_eq;intro i;rw[Nat.testBit_xor,show(18446744073709551615:Nat)=2^64-1 from rfl,Nat.testBit_two_pow_sub_one];have:2^64-1-a=2^64-(a+1):=by omega
    rw[this,Nat.testBit_two_pow_sub_succ hlt];by_cases hi:i<64
    ·simp[hi]
    ·have:a.testBit i=false:=Nat.testBit_lt_two_pow (Nat.lt_of_lt_of_le hlt (Nat.pow_le_pow_right (by decide) (by omega)));simp[hi,this]
   rw[e4];omega
  ·rw[if_neg hm,if_pos (by omega),z10];have e3:((0:Int) % 18446744073709551616)=((0:Nat):Int):=by decide
   rw[e3,zby (k:= .u64) rfl (show u*2 % 18446744073709551616<2^64 by omega) (by decide),Nat.xor_zero];omega
 rw[hx,z85 hz];rfl
theorem zb2 {m:Int}(h:in64 m){fuel:Nat}(hf:11<fuel):z1g fuel m=some (cntB (zz m)):=by
 have hz:=zz_lt h;unfold in64 at h;unfold z1g;rw[z1w];by_cases hm:0≤m
 ·rw[if_pos hm];have e:zzu.wrap ((2:Int)*zzu.wrap m)=((zz m:Nat):Int):=by
   unfold zz;rw[if_pos hm,z10,z10];omega
  rw[e,z43 hz hf];rfl
 ·rw[if_neg hm];have e0:zzi.wrap ((-1:Int)-m)= -1-m:=z2f (by unfold in64;omega);have e:zzu.wrap (zzu.wrap ((2:Int)*zzu.wrap (zzi.wrap ((-1:Int)-m)))+1)=((zz m:Nat):Int):=by
   unfold zz;rw[if_neg hm,e0,z10,z10,z10];omega
  rw[e,z43 hz hf];rfl
def numOf (n:Int):Int:=if n % 2=1 then -1-n / 2 else n / 2
theorem zef {x:Nat}(h:x<9223372036854775808):z07 .xor .i64 (x:Int) (-1)= -1-(x:Int):=by
 unfold z07;simp only;have e1:BitVec.ofInt zzi.bits (-1)=BitVec.allOnes zzi.bits:=by decide
 rw[e1,BitVec.xor_allOnes,BitVec.toNat_not];have e2:(BitVec.ofInt zzi.bits (x:Int)).toNat=x:=z2e (w:=64) x (by omega);rw[e2,show 2^zzi.bits=18446744073709551616 from by decide,zb9];split<;>omega
theorem xor_0 {x:Nat}(h:x<9223372036854775808):z07 .xor .i64 (x:Int) 0=(x:Int):=by
 unfold z07;simp only;have e1:BitVec.ofInt zzi.bits 0=0#zzi.bits:=by decide
 rw[e1,BitVec.xor_zero];have e2:(BitVec.ofInt zzi.bits (x:Int)).toNat=x:=z2e (w:=64) x (by omega);rw[e2,z2f (by unfold in64;omega)]
theorem zbl {n:Nat}(h:n<18446744073709551616):z07 .xor .i64 (zzi.wrap (shrOp .u64 (n:Int) 1)) (zzi.wrap (0-(zzi.wrap (z07 .and .u64 (n:Int) 1))))=numOf (n:Int):=by
 have e1:shrOp .u64 (n:Int) 1=((n / 2:Nat):Int):=z69 .u64 n 1 (by decide);have e2:z07 .and .u64 (n:Int) 1=((n % 2:Nat):Int):=zdd (k:= .u64) rfl (show n<2^64 by omega) (by decide)
 rw[e1,e2,z2f (x:=((n / 2:Nat):Int)) (by unfold in64;omega),z2f (x:=((n % 2:Nat):Int)) (by unfold in64;omega),z2f (x:=0-((n % 2:Nat):Int)) (by unfold in64;omega)];unfold numOf;rcases Nat.mod_two_eq_zero_or_one n with h2|h2
 ·rw[h2,show(0:Int)-((0:Nat):Int)=0 from rfl,xor_0 (by omega),if_neg (by omega)];omega
 ·rw[h2,show(0:Int)-((1:Nat):Int)= -1 from rfl,zef (by omega),if_pos (by omega)];omega
def tkN (r:Int×ByteArray×Int):Int×ByteArray×Int:=if r.2.2=0 then(numOf r.1,r.2.1,0)else(0,bs [],r.2.2)
theorem z6y {s:ByteArray}(hs:s.size≤maxN):z2a s=some (tkN (tkC s s.size 0 0)):=by
 unfold z2a;rw[z5e hs,zz2];rcases z36 (s:=s) (k:=s.size) (i:=0) (acc:=0) (by omega) (by omega) (by decide)with h|h|⟨n,j,h,hn,_⟩
 ·rw[h];rfl
 ·rw[h];rfl
 ·rw[h,zbl hn];rfl
theorem z8a {s:ByteArray}(hs:s.size≤maxN){fuel:Nat}(hf:10<fuel):z0z fuel s=some (tkN (tkC s s.size 0 0)):=by
 unfold z0z;rw[z44 hs hf,zz2];rcases z36 (s:=s) (k:=s.size) (i:=0) (acc:=0) (by omega) (by omega) (by decide)with h|h|⟨n,j,h,hn,_⟩
 ·rw[h];rfl
 ·rw[h];rfl
 ·rw[h];unfold tkN numOf;simp only[decide_true,Bool.not_true,z0g,if_true,z1w];have e1:(n:Int).tmod 2=(n:Int) % 2:=Int.tmod_eq_emod_of_nonneg (by omega)
  have e2:(n:Int).tdiv 2=(n:Int) / 2:=Int.tdiv_eq_ediv_of_nonneg (by omega);have e3:zzu.wrap ((n:Int) / 2)=(n:Int) / 2:=by rw[z10];omega
  rw[e1,e2,e3,z2f (x:=(n:Int) / 2) (by unfold in64;omega)];by_cases h2:(n:Int) % 2=1
  ·rw[if_pos h2,if_pos h2,z2f (by unfold in64;omega)]
  ·rw[if_neg h2,if_neg h2]
def tkT (r:Int×ByteArray×Int):ByteArray×ByteArray×Int:=
 if r.2.2=0 then(if 65536<r.1 then(bs [],bs [],2)else if(r.2.1.size:Int)<r.1 then(bs [],bs [],3)else(r.2.1.extract 0 r.1.toNat,r.2.1.extract r.1.toNat r.2.1.size,0))else(bs [],bs [],r.2.2)
theorem zbm {s:ByteArray}(hs:s.size≤maxN):z2i s=some (tkT (tkC s s.size 0 0)):=by
 unfold z2i;rw[z5e hs,zz2];unfold maxN at hs;rcases z36 (s:=s) (k:=s.size) (i:=0) (acc:=0) (by omega) (by omega) (by decide)with h|h|⟨n,j,h,hn,hj⟩
 ·rw[h];rfl
 ·rw[h];rfl
 ·rw[h];have hsz:=z4r s j s.size (Nat.le_refl _);unfold tkT;simp only[jn_eq,decide_true,z0l,if_true];generalize s.extract j s.size=r at*;have e1:zzu.wrap (r.size:Int)=(r.size:Int):=by rw[z10];omega
  by_cases h1:65536<(n:Int)
  ·rw[if_pos h1,decide_eq_true h1];rfl
  ·rw[if_neg h1,decide_eq_false h1];simp only[z0g,decide_true,z0l];rw[e1];by_cases h2:(r.size:Int)<(n:Int)
   ·rw[if_pos h2,decide_eq_true h2];rfl
   ·rw[if_neg h2,decide_eq_false h2];simp only[z0g,decide_true,Bool.not_true];rw[z0a (by omega),z0a (by omega)]
theorem z9j {s:ByteArray}(hs:s.size≤maxN){fuel:Nat}(hf:10<fuel):z18 fuel s=some (tkT (tkC s s.size 0 0)):=by
 unfold z18;rw[z44 hs hf,zz2];unfold maxN at hs;rcases z36 (s:=s) (k:=s.size) (i:=0) (acc:=0) (by omega) (by omega) (by decide)with h|h|⟨n,j,h,hn,hj⟩
 ·rw[h];rfl
 ·rw[h];rfl
 ·rw[h];have hsz:=z4r s j s.size (Nat.le_refl _);unfold tkT;simp only[decide_true,Bool.not_true,z0g,if_true,z1w];generalize s.extract j s.size=r at*;by_cases h1:65536<(n:Int)
  ·rw[if_pos h1,if_pos h1]
  ·rw[if_neg h1,if_neg h1,z2f (by unfold in64;omega)];by_cases h2:(r.size:Int)<(n:Int)
   ·rw[if_pos h2,if_pos h2]
   ·rw[if_neg h2,if_neg h2,z0a (by omega),z0a (by omega)]
theorem zd8 {s:ByteArray}(hs:s.size≤maxN): ∃p r w,tkT (tkC s s.size 0 0)=(p,r,w)∧p.size≤65536∧r.size≤s.size:=by
 suffices h:(tkT (tkC s s.size 0 0)).1.size≤65536∧(tkT (tkC s s.size 0 0)).2.1.size≤s.size from⟨_,_,_,rfl,h.1,h.2⟩
 constructor
 all_goals
  rcases z36 (s:=s) (k:=s.size) (i:=0) (acc:=0) (by omega) (by omega) (by decide)with h|h|⟨n,j,h,hn,hj⟩
  ·rw[h];exact Nat.zero_le _
  ·rw[h];exact Nat.zero_le _
  ·rw[h];have hsz:=z4r s j s.size (Nat.le_refl _);unfold tkT;simp only[if_true];generalize s.extract j s.size=r at*;by_cases h1:65536<(n:Int)
   ·rw[if_pos h1];exact Nat.zero_le _
   ·rw[if_neg h1];by_cases h2:(r.size:Int)<(n:Int)
    ·rw[if_pos h2];exact Nat.zero_le _
    ·rw[if_neg h2];simp only[ByteArray.size_extract];omega
theorem zai {a b:ByteArray}(h:a.data.toList=b.data.toList):a=b:=Go.WideShapes.bytes_inj h
theorem join2 {a b:ByteArray}(h:a.size+b.size≤140737488355328):strings_Join [a,b] (bs [])=some (a++b):=by
 unfold strings_Join;have e:Lib.join ([a,b].map (·.data.toList)) (bs []).data.toList=(a++b).data.toList:=by
  rw[List.map_cons,Lib.join_cons];simp[Lib.joinTail,ByteArray.data_append];rfl
 rw[e];have hl:(a++b).data.toList.length=a.size+b.size:=by rw[z5u,ByteArray.size_append]
 rw[z0a ⟨by simp,by omega⟩]
theorem zbh {a b:ByteArray}(h:a.size+b.size≤140737488355328):z4o [a,b]=some (a++b):=by
 unfold z4o;rw[join2 h];rfl
def z46 (t:ByteArray):ByteArray:=cntB t.size++t
theorem zdz {t:ByteArray}(h:t.size≤140737488355300):pack_Text t=some (z46 t):=by
 unfold pack_Text;have e:zzu.wrap (t.size:Int)=(t.size:Int):=by rw[z10];omega
 have hk:=z4l (n:=t.size) (by omega);rw[e,z85 (by omega),zz2,zbh (by rw[z4k];omega)];rfl
theorem zch {t:ByteArray}(h:t.size≤140737488355300){fuel:Nat}(hf:11<fuel):z1t fuel t=some (z46 t):=by
 unfold z1t;have e:zzu.wrap (t.size:Int)=(t.size:Int):=by rw[z10];omega
 have hk:=z4l (n:=t.size) (by omega);rw[e,z43 (by omega) hf,zz2,z0a (by rw[z4k];omega)];rfl
def sum4 (c:Nat):ByteArray:=strOfNums [((c % 256:Nat):Int),((c / 256 % 256:Nat):Int),((c / 65536 % 256:Nat):Int),((c / 16777216 % 256:Nat):Int)]
theorem zbn {t:ByteArray}:(z46 t).size=kOf t.size+t.size:=by unfold z46;rw[ByteArray.size_append,z4k]
def tkF (r:ByteArray×ByteArray×Int):ByteArray×ByteArray×Int:=
 if r.2.2=0 then(if r.2.1.size<4 then(bs [],bs [],3)else if r.2.1.extract 0 4=sum4 (crcS r.1)then(r.1,r.2.1.extract 4 r.2.1.size,0)else(bs [],bs [],4))else(bs [],bs [],r.2.2)
end Go.Av
namespace Go.Av
open Go
def ofL (l:List UInt8):ByteArray:=⟨l.toArray⟩
theorem zea (s:ByteArray):s=ofL s.data.toList:=zai rfl
theorem z87 (l:List UInt8):(ofL l).size=l.length:=by rw[←z5u];rfl
theorem z4u (a b:List UInt8):ofL a++ofL b=ofL (a++b):=zai (by
 rw[ByteArray.data_append,Array.toList_append];rfl)
def cb (n k:Nat):List UInt8:=(List.range k).map fun i=>UInt8.ofNat (dg n k i)
theorem z7b (n k:Nat):(cb n k).length=k:=by unfold cb;simp
theorem z56 (n:Nat):cntB n=ofL (cb n (kOf n)):=zai (by
 unfold cntB cntL cb strOfNums ofL;simp[Function.comp_def])
def q4 (c:Nat):List UInt8:=[UInt8.ofNat (c % 256),UInt8.ofNat (c / 256 % 256),UInt8.ofNat (c / 65536 % 256),UInt8.ofNat (c / 16777216 % 256)]
abbrev takeF (s:ByteArray):=tkF (tkT (tkC s s.size 0 0))
end Go.Av
namespace Go.Av
open Go
def valL (v:Value):List UInt8:=if v.isText then 1::(cb v.s.size (kOf v.s.size)++v.s.data.toList)else 0::cb (zz v.n) (kOf (zz v.n))
def rowL (p:List Value):List UInt8:=p.flatMap valL
def goodV (v:Value):Prop:=z19 v=true∧in64 v.n
theorem z9i (l:List UInt8):(ofL l).data.toList=l:=rfl
theorem z98 (t:ByteArray):z46 t=ofL (cb t.size (kOf t.size)++t.data.toList):=by
 unfold z46;rw[z56]
 conv=>lhs;rw[zea t]
 rw[z4u];rfl
theorem z6r {v:Value}(h:z19 v=true)(ht:v.isText=true):v.n=0∧v.s.size≤64:=by
 unfold z19 at h;rw[if_pos ht]at h
 simpa using h
theorem zds {v:Value}(h:goodV v):encV v=some (valL v):=by
 unfold encV valL value_mark;cases ht:v.isText with
 |true=>
  have:=(z6r h.1 ht).2;rw[z0l,zz2,z0l,zdz (by omega),zz2,z98,z9i];rfl
 |false=>
  rw[z0g,zz2,z0g,zd1 h.2,zz2,z56,z9i];rfl
theorem zap: ∀{p:List Value},(∀v∈p,goodV v)→encVs p=some (rowL p)
 |[],_=>rfl
 |v::p,h=>by
  unfold encVs;rw[zds (h v (zz5 ..)),zz2,zap (fun x hx=>h x (zz4 _ hx)),zz2];unfold rowL;rw[List.flatMap_cons]
theorem zb7 {v:Value}(h:goodV v):(valL v).length≤80:=by
 unfold valL;cases ht:v.isText with
 |true=>
  have:=(z6r h.1 ht).2;have:=(z4l (n:=v.s.size) (by omega)).2
  rw[if_pos rfl,List.length_cons,List.length_append,z7b,z5u];omega
 |false=>
  have:=(z4l (zz_lt h.2)).2;rw[if_neg (by simp),List.length_cons,z7b];omega
theorem z8b: ∀{p:List Value},(∀v∈p,goodV v)→(rowL p).length≤p.length*80
 |[],_=>Nat.le_refl _
 |v::p,h=>by
  have h1:=zb7 (h v (zz5 ..));have h2:=z8b (p:=p) (fun x hx=>h x (zz4 _ hx))
  unfold rowL at h2 ⊢;rw[List.flatMap_cons,List.length_append,List.length_cons];omega
def encR (p:List Value):List UInt8:=cb p.length (kOf p.length)++rowL p
theorem zcu {p:List Value}(h64: ∀v∈p,in64 v.n):z37 p=some (if okRow p then(ofL (encR p),0)else(bs [],4)):=by
 unfold z37;rw[zac,zz2];cases ho:okRow p with
 |false=>rfl
 |true=>
  obtain⟨ha,hl⟩:=z9w ho;have hg: ∀v∈p,goodV v:=fun v hv=>⟨List.all_eq_true.1 ha v hv,h64 v hv⟩
  have hr:=z8b hg;have hk:=z4l (n:=p.length) (by omega)
  rw[if_pos rfl,decide_eq_true rfl,Bool.not_true,z0g,z85 (by omega),zz2,zap hg,zz2,z0a (by rw[z4k];omega),z56,z9i];rfl
theorem zb1 {p:List Value}(h64: ∀v∈p,in64 v.n){fuel:Nat}(hf:11<fuel):z1z fuel p=some (if okRow p then(ofL (encR p),0)else(bs [],4)):=by
 unfold z1z;rw[zbi,zz2];cases ho:okRow p with
 |false=>rfl
 |true=>
  obtain⟨ha,hl⟩:=z9w ho;have hg: ∀v∈p,goodV v:=fun v hv=>⟨List.all_eq_true.1 ha v hv,h64 v hv⟩
  have hk:=z4l (n:=p.length) (by omega);rw[if_pos rfl,decide_eq_true rfl,Bool.not_true,z0g];unfold z2n;have hw:zzu.wrap (p.length:Int)=(p.length:Int):=by rw[z10];omega
  rw[hw,z43 (by omega) hf,zz2];have key:=z9y (S:=ByteArray) (R:=Empty) (B:=fun i2 (a3:ByteArray)=>bf ((p.getD i2 zzd).isText) ((z1t fuel ((p.getD i2 zzd).s)).bind fun r5=>need ((((bs [1]).size+r5.size:Nat):Int)≤9223372036854775807)<|need (((a3.size+((bs [1])++r5).size:Nat):Int)≤9223372036854775807)<|some (.next (a3++((bs [1])++r5)))) ((z1g fuel ((p.getD i2 zzd).n)).bind fun r8=>need ((((bs [0]).size+r8.size:Nat):Int)≤9223372036854775807)<|need (((a3.size+((bs [0])++r8).size:Nat):Int)≤9223372036854775807)<|some (.next (a3++((bs [0])++r8))))) (n:=p.length) (s:=cntB p.length)
   (ofL (encR p)) (fun i a=>a=ofL (cb p.length (kOf p.length)++rowL (p.take i))) (fun s h=>by rw[h,List.take_length];rfl)
   (fun i a hi h=>by
    have hm:=zcx (l:=p) hi;have hgv:=hg _ hm
    have hvl:=zb7 hgv;have hrl:=z8b (p:=p.take i) (fun v hv=>hg v (List.mem_of_mem_take hv))
    rw[List.length_take]at hrl;have hsz:a.size≤1000:=by rw[h,z87,List.length_append,z7b];omega
    have hnext:rowL (p.take (i+1))=rowL (p.take i)++valL (p.getD i zzd):=by
     rw[z9l hi];unfold rowL;rw[List.flatMap_append];simp
    refine⟨ofL (cb p.length (kOf p.length)++rowL (p.take (i+1))),?_,rfl⟩;rw[hnext,←List.append_assoc,←z4u,←h];generalize p.getD i zzd=v at hgv hvl;cases ht:v.isText with
    |true=>
     have hs:=(z6r hgv.1 ht).2;have e:bs [1]++z46 v.s=ofL (valL v):=by
      rw[z98];show ofL [1]++_=_;rw[z4u];unfold valL;rw[if_pos ht];rfl
     have hts:(z46 v.s).size≤80:=by
      rw[zbn];have:=(z4l (n:=v.s.size) (by omega)).2;omega
     rw[z0l,zch (by omega) hf,zz2,z0a (by show((((1:Nat)+(z46 v.s).size:Nat)):Int)≤_;omega),e,z0a (by rw[z87];omega)]
    |false=>
     have e:bs [0]++cntB (zz v.n)=ofL (valL v):=by
      rw[z56];show ofL [0]++_=_;rw[z4u];unfold valL;rw[if_neg (by rw[ht];simp)];rfl
     have hts:(cntB (zz v.n)).size≤80:=by
      rw[z4k];have:=(z4l (zz_lt hgv.2)).2;omega
     rw[z0g,zb2 hgv.2 hf,zz2,z0a (by show((((1:Nat)+(cntB (zz v.n)).size:Nat)):Int)≤_;omega),e,z0a (by rw[z87];omega)])
   (by rw[z56];simp[rowL])
  rw[key,z4n,zz2];rfl
end Go.Av
namespace Go.Av
open Go
section
variable {α:Type} [Inhabited α]
theorem z8t {S R:Type}{B:S→Option (Ctl S R)}{fuel:Nat}{s s':S}(h:B s=some (.next s')):loopN B (fuel+1) s=loopN B fuel s':=by rw[loopN,h]
theorem z4m {S R:Type}{B:S→Option (Ctl S R)}{fuel:Nat}{s s':S}(h:B s=some (.brk s')):loopN B (fuel+1) s=some (.done s'):=by rw[loopN,h]
theorem zcy {S R:Type}{B:S→Option (Ctl S R)}{fuel:Nat}{s:S}{r:R}(h:B s=some (.ret r)):loopN B (fuel+1) s=some (.ret r):=by rw[loopN,h]
end
end Go.Av
namespace Go.Av
open Go
abbrev rd1 (s:ByteArray):ByteArray:=s.extract 1 s.size
abbrev tkNum (s:ByteArray):=tkN (tkC s s.size 0 0)
abbrev tkTxt (s:ByteArray):=tkT (tkC s s.size 0 0)
def takeV (s:ByteArray):Option (Value×ByteArray):=
 if s.size=0 then none else if z03 s 0=0 then(if(tkNum (rd1 s)).2.2=0 then some (⟨false,(tkNum (rd1 s)).1,bs []⟩,(tkNum (rd1 s)).2.1)else none)
 else if z03 s 0=1 then(if(tkTxt (rd1 s)).2.2=0∧(tkTxt (rd1 s)).1.size≤64 then some (⟨true,0,(tkTxt (rd1 s)).1⟩,(tkTxt (rd1 s)).2.1)else none)else none
def z3i:Nat→ByteArray→Option (List Value×ByteArray)
 |0,s=>some ([],s)
 |n+1,s=>(takeV s).bind fun v=>(z3i n v.2).bind fun l=>some (v.1::l.1,l.2)
def z9k (s:ByteArray):Option (List Value×ByteArray):=
 if(tkC s s.size 0 0).2.2=0∧(tkC s s.size 0 0).1≤8 then z3i (tkC s s.size 0 0).1.toNat (tkC s s.size 0 0).2.1 else none
def tkR (s:ByteArray):List Value×ByteArray×Int:=match z9k s with|some r=>(r.1,r.2,0)|none=>([],bs [],4)
theorem z89 (s:ByteArray):(rd1 s).size≤s.size:=by unfold rd1;rw[ByteArray.size_extract];omega
theorem z8c {s:ByteArray}: ∃(n:Nat) (r:ByteArray) (w:Int),tkC s s.size 0 0=((n:Int),r,w)∧r.size≤s.size∧n<18446744073709551616:=by
 rcases z36 (s:=s) (k:=s.size) (i:=0) (acc:=0) (by omega) (by omega) (by decide)with h|h|⟨n,j,h,hn,_⟩
 ·exact⟨0,bs [],3,h,Nat.zero_le _,by omega⟩
 ·exact⟨0,bs [],4,h,Nat.zero_le _,by omega⟩
 ·exact⟨n,_,0,h,by rw[ByteArray.size_extract];omega,hn⟩
theorem zci (s:ByteArray):(tkNum s).2.1.size≤s.size:=by
 obtain⟨n,r,w,h,hr,_⟩:=z8c (s:=s);unfold tkNum tkN;rw[h];split
 ·exact hr
 ·exact Nat.zero_le _
theorem zcj {s:ByteArray}(hs:s.size≤maxN):(tkTxt s).2.1.size≤s.size:=by
 obtain⟨p,r,w,h,_,hr⟩:=zd8 hs;unfold tkTxt;rw[h];exact hr
theorem z96 {s:ByteArray}(hs:s.size≤maxN){v:Value}{r:ByteArray}(h:takeV s=some (v,r)):r.size≤s.size:=by
 have h1:=z89 s;unfold takeV at h;split at h
 ·cases h
 ·split at h
  ·split at h
   ·cases h;exact Nat.le_trans (zci _) h1
   ·cases h
  ·split at h
   ·split at h
    ·cases h;exact Nat.le_trans (zcj (Nat.le_trans h1 hs)) h1
    ·cases h
   ·cases h
theorem z9q {s:ByteArray}:strEq s (bs [])=decide (s.size=0):=by
 by_cases h:s.size=0
 ·rw[decide_eq_true h];have:s=bs []:=ByteArray.ext (by
   have:s.data.size=0:=h;rw[Array.eq_empty_of_size_eq_zero this];rfl)
  rw[this,z93]
 ·rw[decide_eq_false h];cases hq:strEq s (bs [])with
  |false=>rfl
  |true=>rw[z9z]at hq;rw[hq]at h;exact absurd rfl h
theorem z7t (r:ByteArray)(w:Int)(t:Taker):z0k r w t=some ⟨r,t.bad|| !decide (w=0)⟩:=by
 unfold z0k;cases t.bad<;>rfl
theorem z95 {s:ByteArray}(h0:s.size=0):takeV s=none:=by unfold takeV;rw[if_pos h0]
theorem za2 {s:ByteArray}{q:Int×ByteArray×Int}(h0:s.size≠0)(hz:z03 s 0=0)(hq:tkNum (rd1 s)=q):takeV s=if q.2.2=0 then some (⟨false,q.1,bs []⟩,q.2.1)else none:=by
 subst hq;unfold takeV;rw[if_neg h0,if_pos hz]
theorem z97 {s:ByteArray}{q:ByteArray×ByteArray×Int}(h0:s.size≠0)(ho:z03 s 0=1)(hq:tkTxt (rd1 s)=q):takeV s=if q.2.2=0∧q.1.size≤64 then some (⟨true,0,q.1⟩,q.2.1)else none:=by
 subst hq;unfold takeV;rw[if_neg h0,if_neg (by omega),if_pos ho]
theorem za1 {s:ByteArray}(h0:s.size≠0)(hz:z03 s 0≠0)(ho:z03 s 0≠1):takeV s=none:=by
 unfold takeV;rw[if_neg h0,if_neg hz,if_neg ho]
theorem ze1 {s:ByteArray}(hs:s.size≤maxN): ∃v t,z0y ⟨s,false⟩=some (v,t)∧((∃r,takeV s=some (v,r)∧t=⟨r,false⟩)∨(takeV s=none∧t.bad=true)):=by
 have h1:=Nat.le_trans (z89 s) hs;unfold z0y z1k;dsimp only;rw[z9q];by_cases h0:s.size=0
 ·rw[decide_eq_true h0,z0l,zz2];dsimp only;rw[decide_eq_true rfl,z0l];unfold z0u;dsimp only;rw[z6y hs,zz2,z7t];exact⟨_,_,rfl,.inr ⟨z95 h0,rfl⟩⟩
 ·rw[decide_eq_false h0,z0g,z0a (by omega),z0a (by omega),zz2];have hb:bt s 0=(z03 s 0:Int):=z5i (s:=s) (i:=0);dsimp only;rw[hb];by_cases hz:z03 s 0=0
  ·rw[decide_eq_true (by omega),z0l];unfold z0u;dsimp only;obtain⟨q,hq⟩: ∃q,tkNum (rd1 s)=q:=⟨_,rfl⟩;have hT:z2a (s.extract 1 s.size)=some q:=by rw[←hq];exact z6y h1
   have hV:=za2 h0 hz hq;rw[hT,zz2,z7t,hV];by_cases hw:q.2.2=0
   ·rw[if_pos hw,decide_eq_true hw];exact⟨_,_,rfl,.inl ⟨_,rfl,rfl⟩⟩
   ·rw[if_neg hw,decide_eq_false hw];exact⟨_,_,rfl,.inr ⟨rfl,rfl⟩⟩
  ·rw[decide_eq_false (by omega),z0g];by_cases ho:z03 s 0=1
   ·rw[decide_eq_true (by omega),z0l];unfold z1l;dsimp only;obtain⟨q,hq⟩: ∃q,tkTxt (rd1 s)=q:=⟨_,rfl⟩;have hT:z2i (s.extract 1 s.size)=some q:=by rw[←hq];exact zbm h1
    have hV:=z97 h0 ho hq;rw[hT,zz2,z7t,zz2,zz2,jn_eq,hV];dsimp only;have hr:z19 ⟨true,0,q.1⟩=decide (q.1.size≤64):=by unfold z19;rw[if_pos rfl,decide_eq_true rfl];rfl
    by_cases hw:q.2.2=0
    ·rw[decide_eq_true hw,Bool.not_true,Bool.or_false,z0g,zb6,zz2,hr];by_cases h64:q.1.size≤64
     ·rw[if_pos ⟨hw,h64⟩,decide_eq_true h64];exact⟨_,_,rfl,.inl ⟨_,rfl,rfl⟩⟩
     ·rw[if_neg (fun h=>h64 h.2),decide_eq_false h64];exact⟨_,_,rfl,.inr ⟨rfl,rfl⟩⟩
    ·rw[decide_eq_false hw,Bool.not_false,Bool.or_true,z0l,if_neg (fun h=>hw h.1)];exact⟨_,_,rfl,.inr ⟨rfl,rfl⟩⟩
   ·rw[decide_eq_false (by omega),z0g];exact⟨_,_,rfl,.inr ⟨za1 h0 hz ho,rfl⟩⟩
theorem zeb {s:ByteArray}(hs:s.size≤maxN){fuel:Nat}(hf:10<fuel): ∃q,z22 fuel s=some q∧((∃v r,takeV s=some (v,r)∧q=(v,r,true))∨(takeV s=none∧q.2.2=false)):=by
 have h1:=Nat.le_trans (z89 s) hs;unfold z22;rw[jn_eq,z9q];have hb:bt s 0=(z03 s 0:Int):=z5i (s:=s) (i:=0)
 by_cases h0:s.size=0
 ·rw[decide_eq_true h0,z0l];exact⟨_,rfl,.inr ⟨z95 h0,rfl⟩⟩
 ·rw[decide_eq_false h0,z0g,z0a (by omega),hb];by_cases hz:z03 s 0=0
  ·obtain⟨q,hq⟩: ∃q,tkNum (rd1 s)=q:=⟨_,rfl⟩;have hT:z0z fuel (s.extract 1 s.size)=some q:=by rw[←hq];exact z8a h1 hf
   have hV:=za2 h0 hz hq;dsimp only;rw[decide_eq_false (by omega),z0g,z0a (by omega),decide_eq_true (by omega),z0l,z0a (by omega),hT,zz2,hV];by_cases hw:q.2.2=0
   ·rw[if_pos hw,decide_eq_true hw];exact⟨_,rfl,.inl ⟨_,_,rfl,rfl⟩⟩
   ·rw[if_neg hw,decide_eq_false hw];exact⟨_,rfl,.inr ⟨rfl,rfl⟩⟩
  ·by_cases ho:z03 s 0=1
   ·obtain⟨q,hq⟩: ∃q,tkTxt (rd1 s)=q:=⟨_,rfl⟩;have hT:z18 fuel (s.extract 1 s.size)=some q:=by rw[←hq];exact z9j h1 hf
    have hV:=z97 h0 ho hq;dsimp only;rw[decide_eq_false (by omega),z0g,z0a (by omega),decide_eq_false (by omega),z0g,z0a (by omega),hT,zz2,jn_eq,hV];have e64:(q.1.size:Int)≤64↔q.1.size≤64:=by omega
    by_cases hw:q.2.2=0
    ·rw[decide_eq_true hw,z0l];by_cases h64:q.1.size≤64
     ·rw[if_pos ⟨hw,h64⟩,decide_eq_true (e64.2 h64)];exact⟨_,rfl,.inl ⟨_,_,rfl,rfl⟩⟩
     ·rw[if_neg (fun h=>h64 h.2),decide_eq_false (fun h=>h64 (e64.1 h))];exact⟨_,rfl,.inr ⟨rfl,rfl⟩⟩
    ·rw[decide_eq_false hw,z0g,if_neg (fun h=>hw h.1)];exact⟨_,rfl,.inr ⟨rfl,rfl⟩⟩
   ·dsimp only;rw[decide_eq_true (by omega),z0l];exact⟨_,rfl,.inr ⟨za1 h0 hz ho,rfl⟩⟩
end Go.Av
namespace Go.Av
open Go
theorem zda {n:Nat}(h:n<18446744073709551615):zzu.wrap (((n+1:Nat):Int)-1)=(n:Int):=by rw[z10];omega
theorem zd0 {B:Int×Taker×List Value→Option (Ctl (Int×Taker×List Value) Empty)}
 (hB: ∀a4,B a4=(jn (fun(a6:Bool)=>bf a6 ((z0x a4.2.2 a4.2.1).bind fun r8=>some (.next ((zzu.wrap (a4.1-1)),r8.2,r8.1))) (some (.brk (a4.1,a4.2.1,a4.2.2)))) fun j7=>bf (decide (0<a4.1)) (j7 (!a4.2.1.bad)) (j7 false))):
 ∀(n fuel:Nat) (s:ByteArray) (acc:List Value),n<fuel→n≤8→acc.length+n≤100→s.size≤maxN→ ∃m t l,loopN B fuel ((n:Int),⟨s,false⟩,acc)=some (.done (m,t,l))∧((∃l' r,z3i n s=some (l',r)∧t=⟨r,false⟩∧l=acc++l')∨(z3i n s=none∧t.bad=true)):=by
 intro n;induction n with
 |zero=>
  intro fuel s acc hf h8 hl hs;cases fuel with
  |zero=>omega
  |succ fuel=>
   refine⟨0,⟨s,false⟩,acc,?_,.inl ⟨[],s,rfl,rfl,by rw[List.append_nil]⟩⟩;rw[z4m (s':=((0:Int),⟨s,false⟩,acc))];rw[hB];rfl
 |succ n ih=>
  intro fuel s acc hf h8 hl hs;cases fuel with
  |zero=>omega
  |succ fuel=>
   obtain⟨v,t,h1,h2⟩:=ze1 hs;have hstep:B (((n+1:Nat):Int),⟨s,false⟩,acc)=some (.next ((n:Int),t,acc++[v])):=by
    rw[hB,jn_eq];dsimp only;rw[decide_eq_true (by omega),z0l,Bool.not_false,z0l];unfold z0x;rw[h1,zz2,z0a (by simp only[List.length_cons,List.length_nil];omega),zz2,zda (by omega)]
   rw[z8t hstep];rcases h2 with⟨r,h3,rfl⟩|⟨h3,h4⟩
   ·obtain⟨m,t,l,g1,g2⟩:=ih fuel r (acc++[v]) (by omega) (by omega) (by rw[List.length_append];simp only[List.length_cons,List.length_nil];omega) (Nat.le_trans (z96 hs h3) hs);refine⟨m,t,l,g1,?_⟩;have e:z3i (n+1) s=(z3i n r).bind fun l=>some (v::l.1,l.2):=by
     show(takeV s).bind _=_;rw[h3];rfl
    rcases g2 with⟨l',r',g3,g4,g5⟩|⟨g3,g4⟩
    ·exact .inl ⟨v::l',r',by rw[e,g3];rfl,g4,by rw[g5,List.append_assoc];rfl⟩
    ·exact .inr ⟨by rw[e,g3];rfl,g4⟩
   ·obtain⟨tl,tb⟩:=t;have h4:tb=true:=h4
    subst h4;refine⟨n,⟨tl,true⟩,acc++[v],?_,.inr ⟨?_,rfl⟩⟩
    ·cases fuel with
     |zero=>omega
     |succ fuel=>
      rw[z4m (s':=((n:Int),⟨tl,true⟩,acc++[v]))];rw[hB,jn_eq];dsimp only;by_cases h0:0<(n:Int)
      ·rw[decide_eq_true h0];rfl
      ·rw[decide_eq_false h0];rfl
    ·show(takeV s).bind _=_;rw[h3];rfl
theorem zdy {s:ByteArray}(hs:s.size≤maxN){fuel:Nat}(hf:20<fuel):z39 fuel s=some (tkR s):=by
 unfold z39 z1o z0f z1e;obtain⟨n,r,w,h1,h2,h3⟩:=z8c (s:=s);dsimp only;rw[z5e hs,zz2,z7t,zz2,zz2,jn_eq];unfold tkR z9k;rw[h1];dsimp only;by_cases hw:w=0
 ·rw[decide_eq_true hw,Bool.not_true,Bool.or_false,z0g];by_cases h8:n≤8
  ·rw[decide_eq_false (by omega),if_pos ⟨hw,by omega⟩,Int.toNat_natCast];obtain⟨m,t,l,g1,g2⟩:=zd0 (B:=_) (fun a4=>rfl) n fuel r [] (by omega) h8 (by simp only[List.length_nil];omega) (Nat.le_trans h2 hs);rw[g1,z4n,zz2,zz2];rcases g2 with⟨l',r',g3,g4,g5⟩|⟨g3,g4⟩
   ·rw[g3,g4,g5];rfl
   ·rw[g3];dsimp only;rw[g4];rfl
  ·rw[decide_eq_true (by omega),if_neg (fun h=>h8 (by omega))];cases fuel with
   |zero=>omega
   |succ fuel=>
    rw[z4m (s':=((n:Int),⟨r,true⟩,[]))]
    ·rfl
    ·rw[jn_eq];dsimp only;rw[decide_eq_true (by omega)];rfl
 ·rw[decide_eq_false hw,Bool.not_false,Bool.or_true,z0l,if_neg (fun h=>hw h.1)];cases fuel with
  |zero=>omega
  |succ fuel=>
   rw[z4m (s':=((n:Int),⟨r,true⟩,[]))]
   ·rfl
   ·rw[jn_eq];dsimp only;by_cases h0:0<(n:Int)
    ·rw[decide_eq_true h0];rfl
    ·rw[decide_eq_false h0];rfl
theorem zab {n:Nat}{B:ByteArray×Int×List Value→Option (Ctl (ByteArray×Int×List Value) (List Value×ByteArray×Int))}{f:Nat}(hff:10<f)
 (hB: ∀a4,B a4=bf (decide (a4.2.1<(n:Int))) ((z22 f a4.1).bind fun r6=>bf (!r6.2.2) (some (.ret (([]:List Value),(bs []),4))) (need (a4.2.2.length+([r6.1]:List Value).length≤274877906944)<|some (.next (r6.2.1,(zzu.wrap (a4.2.1+1)),(a4.2.2++([r6.1]:List Value)))))) (some (.brk (a4.1,a4.2.1,a4.2.2)))):
 ∀(k i fuel:Nat) (s:ByteArray) (acc:List Value),i+k=n→k<fuel→n≤8→acc.length+k≤100→s.size≤maxN→
  (∃l' r,z3i k s=some (l',r)∧loopN B fuel (s,(i:Int),acc)=some (.done (r,(n:Int),acc++l')))∨(z3i k s=none∧loopN B fuel (s,(i:Int),acc)=some (.ret ([],bs [],4))):=by
 intro k;induction k with
 |zero=>
  intro i fuel s acc hi hf h8 hl hs;cases fuel with
  |zero=>omega
  |succ fuel=>
   have:i=n:=by omega
   subst this;refine .inl ⟨[],s,rfl,?_⟩;rw[z4m (s':=(s,(i:Int),acc)),List.append_nil];rw[hB];dsimp only;rw[decide_eq_false (by omega)];rfl
 |succ k ih=>
  intro i fuel s acc hi hf h8 hl hs;cases fuel with
  |zero=>omega
  |succ fuel=>
   obtain⟨q,h1,h2⟩:=zeb hs hff;rcases h2 with⟨v,r,h3,rfl⟩|⟨h3,h4⟩
   ·have hstep:B (s,(i:Int),acc)=some (.next (r,((i+1:Nat):Int),acc++[v])):=by
     rw[hB];dsimp only;rw[decide_eq_true (by omega),z0l,h1,zz2];dsimp only;rw[Bool.not_true,z0g,z0a (by simp only[List.length_cons,List.length_nil];omega)];have:zzu.wrap ((i:Int)+1)=((i+1:Nat):Int):=by rw[z10];omega
     rw[this]
    rw[z8t hstep];have e:z3i (k+1) s=(z3i k r).bind fun l=>some (v::l.1,l.2):=by
     show(takeV s).bind _=_;rw[h3];rfl
    rcases ih (i+1) fuel r (acc++[v]) (by omega) (by omega) h8 (by rw[List.length_append];simp only[List.length_cons,List.length_nil];omega) (Nat.le_trans (z96 hs h3) hs)with⟨l',r',g1,g2⟩|⟨g1,g2⟩
    ·exact .inl ⟨v::l',r',by rw[e,g1];rfl,by rw[g2,List.append_assoc];rfl⟩
    ·exact .inr ⟨by rw[e,g1];rfl,g2⟩
   ·refine .inr ⟨?_,?_⟩
    ·show(takeV s).bind _=_;rw[h3];rfl
    ·rw[zcy (r:=([],bs [],4))];rw[hB];dsimp only;rw[decide_eq_true (by omega),z0l,h1,zz2,h4];rfl
theorem zcg {s:ByteArray}(hs:s.size≤maxN){fuel:Nat}(hf:20<fuel):z2b fuel s=some (tkR s):=by
 unfold z2b;obtain⟨n,r,w,h1,h2,h3⟩:=z8c (s:=s);rw[z44 hs (by omega),zz2,jn_eq];unfold tkR z9k;rw[h1];dsimp only;by_cases hw:w=0
 ·rw[decide_eq_true hw,Bool.not_true,z0g];by_cases h8:n≤8
  ·rw[decide_eq_false (by omega),if_pos ⟨hw,by omega⟩,Int.toNat_natCast,z0g];rcases zab (n:=n) (B:=_) (f:=fuel) (by omega) (fun a4=>rfl) n 0 fuel r [] (by omega) (by omega) h8 (by simp only[List.length_nil];omega) (Nat.le_trans h2 hs)with⟨l',r',g1,g2⟩|⟨g1,g2⟩
   ·rw[show((0:Nat):Int)=0 from rfl]at g2;rw[g2,g1];rfl
   ·rw[show((0:Nat):Int)=0 from rfl]at g2;rw[g2,g1];rfl
  ·rw[decide_eq_true (by omega),if_neg (fun h=>h8 (by omega))];rfl
 ·rw[decide_eq_false hw,if_neg (fun h=>hw h.1)];rfl
end Go.Av
namespace Go.Av
open Go
theorem zdg:z2m 100000000=some true:=by kernel_rfl
theorem z8j {p:List Value}{s:ByteArray}(h64: ∀v∈p,in64 v.n)(hs:s.size≤maxN):z1d 100000000 p s=some true:=by
 unfold z1d;rw[zcu h64,zb1 h64 (by omega),zdy hs (by omega),zcg hs (by omega),zdg];simp only[zz2,jn_eq,z93,decide_true,z0l,zd7]
theorem ze0 {p:List Value}(h: ∀x∈p,z7r x): ∀v∈p,in64 v.n:=fun v hv=>by
 have:=Go.bounds_i64 (h v hv).2.1;unfold in64;omega
theorem z9d {p:List Value}{s:ByteArray}(h:p.length≤maxN∧ ∀x∈p,z7r x)(hs:s.size≤maxN):z1d 100000000 p s=some true:=z8j (ze0 h.2) hs
end Go.Av
