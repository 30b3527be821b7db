import Derived.Test.YtcfgdebcokfjiaaGreatS3x4
import Derived.KernelRfl
set_option maxRecDepth 100000
set_option linter.unusedVariables false
set_option linter.unusedSimpArgs false
set_option linter.unusedSectionVars false
open Go.IntKind renaming i64→zzi, u64→zzu
open Inhabited renaming default→zzd
open Option renaming bind_some→zz0
open List renaming mem_cons_self→zz5, mem_cons_of_mem→zz8, length_append→zze, mem_singleton→zzf, length_cons→zzg, mem_append→zzh
open Nat renaming zero_add→zz6, le_refl→zz9
open Int renaming toNat_natCast→zz7
namespace Go.Av
open Go
theorem IsK.uniq {n k j:Nat}(h:IsK n k)(g:IsK n j):k=j:=by
 obtain⟨h1,h2,h3,h4⟩:=h;obtain⟨g1,g2,g3,g4⟩:=g;rcases Nat.lt_trichotomy k j with e|e|e
 ·have:=g4 (by omega);have h5:=Nat.pow_le_pow_right (n:=128) (by decide) (show k≤j-1 by omega)
  omega
 ·exact e
 ·have:=h4 (by omega);have h5:=Nat.pow_le_pow_right (n:=128) (by decide) (show j≤k-1 by omega)
  omega
def kOf (n:Nat):Nat:=if n<128 then 1 else if n<128^2 then 2 else if n<128^3 then 3 else if n<128^4 then 4 else if n<128^5 then 5 else if n<128^6 then 6 else if n<128^7 then 7 else if n<128^8 then 8 else if n<128^9 then 9 else 10
theorem ze7 {n:Nat}(h:n<2^64):IsK n (kOf n):=by
 have p1:(128:Nat)^1=128:=by decide
 have p2:(128:Nat)^2=16384:=by decide
 have p3:(128:Nat)^3=2097152:=by decide
 have p4:(128:Nat)^4=268435456:=by decide
 have p5:(128:Nat)^5=34359738368:=by decide
 have p6:(128:Nat)^6=4398046511104:=by decide
 have p7:(128:Nat)^7=562949953421312:=by decide
 have p8:(128:Nat)^8=72057594037927936:=by decide
 have p9:(128:Nat)^9=9223372036854775808:=by decide
 have p10:(128:Nat)^10=1180591620717411303424:=by decide
 unfold kOf IsK;rw[p2,p3,p4,p5,p6,p7,p8,p9]
 repeat' split
 all_goals (refine⟨by omega,by omega,?_,fun _=>?_⟩<;>simp only[Nat.reduceSub,p1,p2,p3,p4,p5,p6,p7,p8,p9,p10]<;>omega)
def cntB (n:Nat):ByteArray:=strOfNums (cntL n (kOf n))
theorem zfh {n:Nat}:(cntB n).size=kOf n:=by unfold cntB cntL;rw[zf3];simp
theorem zc9 {n:Nat}(h:n<2^64):1≤kOf n∧kOf n≤10:=⟨(ze7 h).1,(ze7 h).2.1⟩
theorem zdb {n:Nat}(h:n<2^64):pack_Count (n:Int)=some (cntB n):=by
 obtain⟨k,hk,e⟩:=zh0 h;rw[e,hk.uniq (ze7 h)];rfl
def zz (m:Int):Nat:=if 0≤m then(2*m).toNat else(-2*m-1).toNat
theorem zz_lt {m:Int}(h:in64 m):zz m<2^64:=by
 unfold in64 at h;unfold zz;split<;>omega
theorem zjo {m:Int}(h:in64 m):pack_Number m=some (cntB (zz m)):=by
 have hz:=zz_lt h;unfold pack_Number;rw[shr63 h];unfold in64 at h;have e1: ∃u:Nat,zzu.wrap m=(u:Int)∧u<2^64:=by
  refine⟨(zzu.wrap m).toNat,?_,?_⟩<;>rw[z51]<;>omega
 obtain⟨u,hu,hu2⟩:=e1;have hu3:(u:Int)=m % 18446744073709551616:=by rw[←hu,z51]
 rw[hu];have e2:shlOp .u64 (u:Int) 1=((u*2 % 18446744073709551616:Nat):Int):=by
  have:=zak (k:= .u64) u 1 (by decide);rw[show((1:Nat):Int)=1 from rfl]at this;rw[this,z51];omega
 rw[e2];have hx:z09 .xor .u64 ((u*2 % 18446744073709551616:Nat):Int) (zzu.wrap (if m<0 then -1 else 0))=((zz m:Nat):Int):=by
  unfold zz;by_cases hm:m<0
  ·rw[if_pos hm,if_neg (by omega),z51];have e3:((-1:Int) % 18446744073709551616)=((18446744073709551615:Nat):Int):=by decide
   rw[e3,zan (k:= .u64) rfl (show u*2 % 18446744073709551616<2^64 by omega) (by decide)];have e4:(u*2 % 18446744073709551616)^^^18446744073709551615=18446744073709551615-u*2 % 18446744073709551616:=by
    have hlt:u*2 % 18446744073709551616<2^64:=by omega
    generalize u*2 % 18446744073709551616=a at*;apply Nat.eq_of_testBit_eq;intro i;rw[Nat.testBit_xor,show(18446744073709551615:Nat)=2^64-1 from rfl,Nat.testBit_two_pow_sub_one];have:2^64-1-a=2^64-(a+1):=by omega
    rw[this,Nat.testBit_two_pow_sub_succ hlt];by_cases hi:i<64
    ·simp[hi]
    ·have:a.testBit i=false:=Nat.testBit_lt_two_pow (Nat.lt_of_lt_of_le hlt (Nat.pow_le_pow_right (by decide) (by omega)));simp[hi,this]
   rw[e4];omega
  ·rw[if_neg hm,if_pos (by omega),z51];have e3:((0:Int) % 18446744073709551616)=((0:Nat):Int):=by decide
   rw[e3,zan (k:= .u64) rfl (show u*2 % 18446744073709551616<2^64 by omega) (by decide),Nat.xor_zero];omega
 rw[hx,zdb hz];rfl
def numOf (n:Int):Int:=if n % 2=1 then -1-n / 2 else n / 2
theorem zkr {m:Int}:numOf (zz m:Int)=m:=by
 unfold numOf zz;split<;>split<;>omega
theorem zm8 {x:Nat}(h:x<9223372036854775808):z09 .xor .i64 (x:Int) (-1)= -1-(x:Int):=by
 unfold z09;simp only;have e1:BitVec.ofInt zzi.bits (-1)=BitVec.allOnes zzi.bits:=by decide
 rw[e1,BitVec.xor_allOnes,BitVec.toNat_not];have e2:(BitVec.ofInt zzi.bits (x:Int)).toNat=x:=z4t (w:=64) x (by omega);rw[e2,show 2^zzi.bits=18446744073709551616 from by decide,zhk];split<;>omega
theorem xor_0 {x:Nat}(h:x<9223372036854775808):z09 .xor .i64 (x:Int) 0=(x:Int):=by
 unfold z09;simp only;have e1:BitVec.ofInt zzi.bits 0=0#zzi.bits:=by decide
 rw[e1,BitVec.xor_zero];have e2:(BitVec.ofInt zzi.bits (x:Int)).toNat=x:=z4t (w:=64) x (by omega);rw[e2,z4c (by unfold in64;omega)]
theorem zi5 {n:Nat}(h:n<18446744073709551616):z09 .xor .i64 (zzi.wrap (shrOp .u64 (n:Int) 1)) (zzi.wrap (0-(zzi.wrap (z09 .and .u64 (n:Int) 1))))=numOf (n:Int):=by
 have e1:shrOp .u64 (n:Int) 1=((n / 2:Nat):Int):=z90 .u64 n 1 (by decide);have e2:z09 .and .u64 (n:Int) 1=((n % 2:Nat):Int):=zkd (k:= .u64) rfl (show n<2^64 by omega) (by decide)
 rw[e1,e2,z4c (x:=((n / 2:Nat):Int)) (by unfold in64;omega),z4c (x:=((n % 2:Nat):Int)) (by unfold in64;omega),z4c (x:=0-((n % 2:Nat):Int)) (by unfold in64;omega)];unfold numOf;rcases Nat.mod_two_eq_zero_or_one n with h2|h2
 ·rw[h2,show(0:Int)-((0:Nat):Int)=0 from rfl,xor_0 (by omega),if_neg (by omega)];omega
 ·rw[h2,show(0:Int)-((1:Nat):Int)= -1 from rfl,zm8 (by omega),if_pos (by omega)];omega
def tkN (r:Int×ByteArray×Int):Int×ByteArray×Int:=if r.2.2=0 then(numOf r.1,r.2.1,0)else(0,bs [],r.2.2)
theorem zbn {s:ByteArray}(hs:s.size≤maxN):z4k s=some (tkN (tkC s s.size 0 0)):=by
 unfold z4k;rw[z9k hs,zz0];rcases z8i (s:=s) (k:=s.size) (i:=0) (acc:=0) (by omega) (by omega) (by decide)with h|h|⟨n,j,h,hn,_⟩
 ·rw[h];rfl
 ·rw[h];rfl
 ·rw[h,zi5 hn];rfl
def tkT (r:Int×ByteArray×Int):ByteArray×ByteArray×Int:=
 if r.2.2=0 then(if 65536<r.1 then(bs [],bs [],2)else if(r.2.1.size:Int)<r.1 then(bs [],bs [],3)else(r.2.1.extract 0 r.1.toNat,r.2.1.extract r.1.toNat r.2.1.size,0))else(bs [],bs [],r.2.2)
theorem zi6 {s:ByteArray}(hs:s.size≤maxN):z58 s=some (tkT (tkC s s.size 0 0)):=by
 unfold z58;rw[z9k hs,zz0];unfold maxN at hs;rcases z8i (s:=s) (k:=s.size) (i:=0) (acc:=0) (by omega) (by omega) (by decide)with h|h|⟨n,j,h,hn,hj⟩
 ·rw[h];rfl
 ·rw[h];rfl
 ·rw[h];have hsz:=zbh s j s.size (zz9 _);unfold tkT;simp only[jn_eq,decide_true,z2f,if_true];generalize s.extract j s.size=r at*;have e1:zzu.wrap (r.size:Int)=(r.size:Int):=by rw[z51];omega
  by_cases h1:65536<(n:Int)
  ·rw[if_pos h1,decide_eq_true h1];rfl
  ·rw[if_neg h1,decide_eq_false h1];simp only[z0s,decide_true,z2f];rw[e1];by_cases h2:(r.size:Int)<(n:Int)
   ·rw[if_pos h2,decide_eq_true h2];rfl
   ·rw[if_neg h2,decide_eq_false h2];simp only[z0s,decide_true,Bool.not_true];rw[z07 (by omega),z07 (by omega)]
theorem zk7 {s:ByteArray}(hs:s.size≤maxN): ∃p r w,tkT (tkC s s.size 0 0)=(p,r,w)∧p.size≤65536∧r.size≤s.size:=by
 suffices h:(tkT (tkC s s.size 0 0)).1.size≤65536∧(tkT (tkC s s.size 0 0)).2.1.size≤s.size from⟨_,_,_,rfl,h.1,h.2⟩
 constructor
 all_goals
  rcases z8i (s:=s) (k:=s.size) (i:=0) (acc:=0) (by omega) (by omega) (by decide)with h|h|⟨n,j,h,hn,hj⟩
  ·rw[h];exact Nat.zero_le _
  ·rw[h];exact Nat.zero_le _
  ·rw[h];have hsz:=zbh s j s.size (zz9 _);unfold tkT;simp only[if_true];generalize s.extract j s.size=r at*;by_cases h1:65536<(n:Int)
   ·rw[if_pos h1];exact Nat.zero_le _
   ·rw[if_neg h1];by_cases h2:(r.size:Int)<(n:Int)
    ·rw[if_pos h2];exact Nat.zero_le _
    ·rw[if_neg h2];simp only[ByteArray.size_extract];omega
theorem zdt {a b:ByteArray}(h:a.data.toList=b.data.toList):a=b:=Go.WideShapes.bytes_inj h
theorem join2 {a b:ByteArray}(h:a.size+b.size≤140737488355328):strings_Join [a,b] (bs [])=some (a++b):=by
 unfold strings_Join;have e:Lib.join ([a,b].map (·.data.toList)) (bs []).data.toList=(a++b).data.toList:=by
  rw[List.map_cons,Lib.join_cons];simp[Lib.joinTail,ByteArray.data_append];rfl
 rw[e];have hl:(a++b).data.toList.length=a.size+b.size:=by rw[z86,ByteArray.size_append]
 rw[z07 ⟨by simp,by omega⟩]
theorem zhx {a b:ByteArray}(h:a.size+b.size≤140737488355328):z8g [a,b]=some (a++b):=by
 unfold z8g;rw[join2 h];rfl
def zhg (t:ByteArray):ByteArray:=cntB t.size++t
theorem zll {t:ByteArray}(h:t.size≤140737488355300):pack_Text t=some (zhg t):=by
 unfold pack_Text;have e:zzu.wrap (t.size:Int)=(t.size:Int):=by rw[z51];omega
 have hk:=zc9 (n:=t.size) (by omega);rw[e,zdb (by omega),zz0,zhx (by rw[zfh];omega)];rfl
def sum4 (c:Nat):ByteArray:=strOfNums [((c % 256:Nat):Int),((c / 256 % 256:Nat):Int),((c / 65536 % 256:Nat):Int),((c / 16777216 % 256:Nat):Int)]
def tkF (r:ByteArray×ByteArray×Int):ByteArray×ByteArray×Int:=
 if r.2.2=0 then(if r.2.1.size<4 then(bs [],bs [],3)else if r.2.1.extract 0 4=sum4 (crcS r.1)then(r.1,r.2.1.extract 4 r.2.1.size,0)else(bs [],bs [],4))else(bs [],bs [],r.2.2)
end Go.Av
namespace Go.Av
open Go
def ofL (l:List UInt8):ByteArray:=⟨l.toArray⟩
theorem zjr (s:ByteArray):s=ofL s.data.toList:=zdt rfl
theorem z77 (l:List UInt8):(ofL l).size=l.length:=by rw[←z86];rfl
theorem zea (a b:List UInt8):ofL a++ofL b=ofL (a++b):=zdt (by
 rw[ByteArray.data_append,Array.toList_append];rfl)
theorem za4 (l:List UInt8)(i j:Nat):(ofL l).extract i j=ofL ((l.take j).drop i):=zdt (by
 rw[ByteArray.data_extract,Array.toList_extract,List.extract_eq_take_drop,List.drop_take];rfl)
theorem zb0 (l:List UInt8)(i:Nat):z0w (ofL l) i=(l.getD i 0).toNat:=rfl
def cb (n k:Nat):List UInt8:=(List.range k).map fun i=>UInt8.ofNat (dg n k i)
theorem z64 (n k:Nat):(cb n k).length=k:=by unfold cb;simp
theorem zlx {n k i:Nat}(h:i<k):((cb n k).getD i 0).toNat=dg n k i:=by
 unfold cb;rw[List.getD_eq_getElem?_getD,List.getElem?_map,List.getElem?_range h];show(UInt8.ofNat (dg n k i)).toNat=_;rw[UInt8.toNat_ofNat'];have:=dg_lt n k i
 exact Nat.mod_eq_of_lt (by simpa using this)
theorem zda (n:Nat):cntB n=ofL (cb n (kOf n)):=zdt (by
 unfold cntB cntL cb strOfNums ofL;simp[Function.comp_def])
theorem zin {n k i:Nat}{r:List UInt8}(h:i<k):((cb n k++r).getD i 0).toNat=dg n k i:=by
 rw[List.getD_eq_getElem?_getD,List.getElem?_append_left (by rw[z64];exact h),←List.getD_eq_getElem?_getD,zlx h]
theorem zlo {s:ByteArray}{n k:Nat}(hK:IsK n k)(hn:n<2^64)(hs:k≤s.size)(hb: ∀i,i<k→z0w s i=dg n k i):tkC s s.size 0 0=((n:Int),s.extract k s.size,0):=by
 have aux: ∀j i,i+j+1=k→tkC s (s.size-i) i (n % 128^i)=((n:Int),s.extract k s.size,0):=by
  intro j;induction j with
  |zero=>
   intro i hi;have hki:k=i+1:=by omega
   rw[show s.size-i=(s.size-i-1)+1 by omega];simp only[tkC];have h1:=hb i (by omega)
   have h2:=zlu hK;rw[show k-1=i by omega]at h2;have h3:z0w s i=n / 128^i:=by rw[h1];unfold dg;rw[if_neg (by omega),Nat.mod_eq_of_lt h2];rfl
   rw[h3,if_neg,if_pos h2,Nat.mod_eq_of_lt h2]
   ·have:=Nat.mod_add_div n (128^i);rw[Nat.mul_comm]at this;rw[this,hki]
   ·rintro(⟨h4,h5⟩|⟨h4,h5⟩)
    ·have:=hK.2.2.2 (by omega);rw[show k-1=i by omega]at this;have:=Nat.div_pos this (Nat.pow_pos (by decide))
     omega
    ·subst h4;have e:(128:Nat)^9=9223372036854775808:=by decide
     rw[e]at h5;omega
  |succ j ih=>
   intro i hi;have:=hK.2.1
   rw[show s.size-i=(s.size-(i+1))+1 by omega];simp only[tkC];have h1:=hb i (by omega)
   have h3:z0w s i=n / 128^i % 128+128:=by rw[h1];unfold dg;rw[if_pos (by omega)]
   rw[h3,if_neg (by omega),if_neg (by omega)];have e:n % 128^i+(n / 128^i % 128+128) % 128*128^i=n % 128^(i+1):=by
    rw[Nat.pow_succ,Nat.mod_mul,show(n / 128^i % 128+128) % 128=n / 128^i % 128 by omega,Nat.mul_comm]
   rw[e];exact ih (i+1) (by omega)
 have:=aux (k-1) 0 (by have:=hK.1;omega);rw[Nat.pow_zero,Nat.mod_one,Nat.sub_zero]at this;exact this
theorem zf5 {n:Nat}(hn:n<2^64)(r:List UInt8):tkC (ofL (cb n (kOf n)++r)) (ofL (cb n (kOf n)++r)).size 0 0=((n:Int),ofL r,0):=by
 have hsz:(ofL (cb n (kOf n)++r)).size=kOf n+r.length:=by rw[z77,zze,z64]
 rw[zlo (ze7 hn) hn (by omega) (fun i hi=>by rw[zb0,zin hi]),za4,hsz,List.take_of_length_le (by rw[zze,z64];exact zz9 _),List.drop_append_of_le_length (by rw[z64];exact zz9 _),List.drop_of_length_le (by rw[z64];exact zz9 _)];rfl
theorem zln {n:Nat}(r:List UInt8):tkT ((n:Int),ofL r,0)=if 65536<n then(bs [],bs [],2)else if r.length<n then(bs [],bs [],3)else(ofL (r.take n),ofL (r.drop n),0):=by
 unfold tkT;simp only[if_true,z77,zz7,za4];by_cases h1:65536<n
 ·rw[if_pos h1,if_pos (by omega)]
 ·rw[if_neg h1,if_neg (by omega)];by_cases h2:r.length<n
  ·rw[if_pos h2,if_pos (by omega)]
  ·rw[if_neg h2,if_neg (by omega),List.drop_zero,List.take_of_length_le (zz9 _)]
def q4 (c:Nat):List UInt8:=[UInt8.ofNat (c % 256),UInt8.ofNat (c / 256 % 256),UInt8.ofNat (c / 65536 % 256),UInt8.ofNat (c / 16777216 % 256)]
abbrev takeF (s:ByteArray):=tkF (tkT (tkC s s.size 0 0))
end Go.Av
namespace Go.Av
open Go
def valL (v:Value):List UInt8:=if v.isText then 1::(cb v.s.size (kOf v.s.size)++v.s.data.toList)else 0::cb (zz v.n) (kOf (zz v.n))
def rowL (p:List Value):List UInt8:=p.flatMap valL
def goodV (v:Value):Prop:=z45 v=true∧in64 v.n
theorem zf0 (l:List UInt8):(ofL l).data.toList=l:=rfl
theorem zj3 (t:ByteArray):zhg t=ofL (cb t.size (kOf t.size)++t.data.toList):=by
 unfold zhg;rw[zda]
 conv=>lhs;rw[zjr t]
 rw[zea];rfl
theorem zb5 {v:Value}(h:z45 v=true)(ht:v.isText=true):v.n=0∧v.s.size≤64:=by
 unfold z45 at h;rw[if_pos ht]at h
 simpa using h
theorem zjy {v:Value}(h:z45 v=true)(ht:v.isText=false):v.s=bs []:=by
 unfold z45 at h;rw[if_neg (by rw[ht];simp)]at h;exact zj9.1 h
theorem zl3 {v:Value}(h:goodV v):encV v=some (valL v):=by
 unfold encV valL value_mark;cases ht:v.isText with
 |true=>
  have:=(zb5 h.1 ht).2;rw[z2f,zz0,z2f,zll (by omega),zz0,zj3,zf0];rfl
 |false=>
  rw[z0s,zz0,z0s,zjo h.2,zz0,zda,zf0];rfl
theorem zgp: ∀{p:List Value},(∀v∈p,goodV v)→encVs p=some (rowL p)
 |[],_=>rfl
 |v::p,h=>by
  unfold encVs;rw[zl3 (h v (zz5 ..)),zz0,zgp (fun x hx=>h x (zz8 _ hx)),zz0];unfold rowL;rw[List.flatMap_cons]
theorem zkw {v:Value}(h:goodV v):(valL v).length≤80:=by
 unfold valL;cases ht:v.isText with
 |true=>
  have:=(zb5 h.1 ht).2;have:=(zc9 (n:=v.s.size) (by omega)).2
  rw[if_pos rfl,zzg,zze,z64,z86];omega
 |false=>
  have:=(zc9 (zz_lt h.2)).2;rw[if_neg (by simp),zzg,z64];omega
theorem zdk: ∀{p:List Value},(∀v∈p,goodV v)→(rowL p).length≤p.length*80
 |[],_=>zz9 _
 |v::p,h=>by
  have h1:=zkw (h v (zz5 ..));have h2:=zdk (p:=p) (fun x hx=>h x (zz8 _ hx))
  unfold rowL at h2 ⊢;rw[List.flatMap_cons,zze,zzg];omega
def encR (p:List Value):List UInt8:=cb p.length (kOf p.length)++rowL p
theorem zjf {p:List Value}(h64: ∀v∈p,in64 v.n):z6i p=some (if okRow p then(ofL (encR p),0)else(bs [],4)):=by
 unfold z6i;rw[zg7,zz0];cases ho:okRow p with
 |false=>rfl
 |true=>
  obtain⟨ha,hl⟩:=zcc ho;have hg: ∀v∈p,goodV v:=fun v hv=>⟨List.all_eq_true.1 ha v hv,h64 v hv⟩
  have hr:=zdk hg;have hk:=zc9 (n:=p.length) (by omega)
  rw[if_pos rfl,decide_eq_true rfl,Bool.not_true,z0s,zdb (by omega),zz0,zgp hg,zz0,z07 (by rw[zfh];omega),zda,zf0];rfl
end Go.Av
namespace Go.Av
open Go
abbrev rd1 (s:ByteArray):ByteArray:=s.extract 1 s.size
abbrev tkNum (s:ByteArray):=tkN (tkC s s.size 0 0)
abbrev tkTxt (s:ByteArray):=tkT (tkC s s.size 0 0)
def takeV (s:ByteArray):Option (Value×ByteArray):=
 if s.size=0 then none else if z0w s 0=0 then(if(tkNum (rd1 s)).2.2=0 then some (⟨false,(tkNum (rd1 s)).1,bs []⟩,(tkNum (rd1 s)).2.1)else none)
 else if z0w s 0=1 then(if(tkTxt (rd1 s)).2.2=0∧(tkTxt (rd1 s)).1.size≤64 then some (⟨true,0,(tkTxt (rd1 s)).1⟩,(tkTxt (rd1 s)).2.1)else none)else none
def z7t:Nat→ByteArray→Option (List Value×ByteArray)
 |0,s=>some ([],s)
 |n+1,s=>(takeV s).bind fun v=>(z7t n v.2).bind fun l=>some (v.1::l.1,l.2)
def zcq (s:ByteArray):Option (List Value×ByteArray):=
 if(tkC s s.size 0 0).2.2=0∧(tkC s s.size 0 0).1≤8 then z7t (tkC s s.size 0 0).1.toNat (tkC s s.size 0 0).2.1 else none
def tkR (s:ByteArray):List Value×ByteArray×Int:=match zcq s with|some r=>(r.1,r.2,0)|none=>([],bs [],4)
theorem zh6 (s:ByteArray):(rd1 s).size≤s.size:=by unfold rd1;rw[ByteArray.size_extract];omega
theorem zhh {s:ByteArray}: ∃(n:Nat) (r:ByteArray) (w:Int),tkC s s.size 0 0=((n:Int),r,w)∧r.size≤s.size∧n<18446744073709551616:=by
 rcases z8i (s:=s) (k:=s.size) (i:=0) (acc:=0) (by omega) (by omega) (by decide)with h|h|⟨n,j,h,hn,_⟩
 ·exact⟨0,bs [],3,h,Nat.zero_le _,by omega⟩
 ·exact⟨0,bs [],4,h,Nat.zero_le _,by omega⟩
 ·exact⟨n,_,0,h,by rw[ByteArray.size_extract];omega,hn⟩
theorem zj4 (s:ByteArray):(tkNum s).2.1.size≤s.size:=by
 obtain⟨n,r,w,h,hr,_⟩:=zhh (s:=s);unfold tkNum tkN;rw[h];split
 ·exact hr
 ·exact Nat.zero_le _
theorem zj5 {s:ByteArray}(hs:s.size≤maxN):(tkTxt s).2.1.size≤s.size:=by
 obtain⟨p,r,w,h,_,hr⟩:=zk7 hs;unfold tkTxt;rw[h];exact hr
theorem zj2 {s:ByteArray}(hs:s.size≤maxN){v:Value}{r:ByteArray}(h:takeV s=some (v,r)):r.size≤s.size:=by
 have h1:=zh6 s;unfold takeV at h;split at h
 ·cases h
 ·split at h
  ·split at h
   ·cases h;exact Nat.le_trans (zj4 _) h1
   ·cases h
  ·split at h
   ·split at h
    ·cases h;exact Nat.le_trans (zj5 (Nat.le_trans h1 hs)) h1
    ·cases h
   ·cases h
theorem zje {s:ByteArray}:strEq s (bs [])=decide (s.size=0):=by
 by_cases h:s.size=0
 ·rw[decide_eq_true h];have:s=bs []:=ByteArray.ext (by
   have:s.data.size=0:=h;rw[Array.eq_empty_of_size_eq_zero this];rfl)
  rw[this,zb8]
 ·rw[decide_eq_false h];cases hq:strEq s (bs [])with
  |false=>rfl
  |true=>rw[zfq]at hq;rw[hq]at h;exact absurd rfl h
theorem zcr (r:ByteArray)(w:Int)(t:Taker):z1u r w t=some ⟨r,t.bad|| !decide (w=0)⟩:=by
 unfold z1u;cases t.bad<;>rfl
theorem zj1 {s:ByteArray}(h0:s.size=0):takeV s=none:=by unfold takeV;rw[if_pos h0]
theorem zft {s:ByteArray}{q:Int×ByteArray×Int}(h0:s.size≠0)(hz:z0w s 0=0)(hq:tkNum (rd1 s)=q):takeV s=if q.2.2=0 then some (⟨false,q.1,bs []⟩,q.2.1)else none:=by
 subst hq;unfold takeV;rw[if_neg h0,if_pos hz]
theorem zem {s:ByteArray}{q:ByteArray×ByteArray×Int}(h0:s.size≠0)(ho:z0w s 0=1)(hq:tkTxt (rd1 s)=q):takeV s=if q.2.2=0∧q.1.size≤64 then some (⟨true,0,q.1⟩,q.2.1)else none:=by
 subst hq;unfold takeV;rw[if_neg h0,if_neg (by omega),if_pos ho]
theorem zk6 {s:ByteArray}(h0:s.size≠0)(hz:z0w s 0≠0)(ho:z0w s 0≠1):takeV s=none:=by
 unfold takeV;rw[if_neg h0,if_neg hz,if_neg ho]
theorem zlq {s:ByteArray}(hs:s.size≤maxN): ∃v t,z2e ⟨s,false⟩=some (v,t)∧((∃r,takeV s=some (v,r)∧t=⟨r,false⟩)∨(takeV s=none∧t.bad=true)):=by
 have h1:=Nat.le_trans (zh6 s) hs;unfold z2e z36;dsimp only;rw[zje];by_cases h0:s.size=0
 ·rw[decide_eq_true h0,z2f,zz0];dsimp only;rw[decide_eq_true rfl,z2f];unfold z29;dsimp only;rw[zbn hs,zz0,zcr];exact⟨_,_,rfl,.inr ⟨zj1 h0,rfl⟩⟩
 ·rw[decide_eq_false h0,z0s,z07 (by omega),z07 (by omega),zz0];have hb:bt s 0=(z0w s 0:Int):=zfe (s:=s) (i:=0);dsimp only;rw[hb];by_cases hz:z0w s 0=0
  ·rw[decide_eq_true (by omega),z2f];unfold z29;dsimp only;obtain⟨q,hq⟩: ∃q,tkNum (rd1 s)=q:=⟨_,rfl⟩;have hT:z4k (s.extract 1 s.size)=some q:=by rw[←hq];exact zbn h1
   have hV:=zft h0 hz hq;rw[hT,zz0,zcr,hV];by_cases hw:q.2.2=0
   ·rw[if_pos hw,decide_eq_true hw];exact⟨_,_,rfl,.inl ⟨_,rfl,rfl⟩⟩
   ·rw[if_neg hw,decide_eq_false hw];exact⟨_,_,rfl,.inr ⟨rfl,rfl⟩⟩
  ·rw[decide_eq_false (by omega),z0s];by_cases ho:z0w s 0=1
   ·rw[decide_eq_true (by omega),z2f];unfold z37;dsimp only;obtain⟨q,hq⟩: ∃q,tkTxt (rd1 s)=q:=⟨_,rfl⟩;have hT:z58 (s.extract 1 s.size)=some q:=by rw[←hq];exact zi6 h1
    have hV:=zem h0 ho hq;rw[hT,zz0,zcr,zz0,zz0,jn_eq,hV];dsimp only;have hr:z45 ⟨true,0,q.1⟩=decide (q.1.size≤64):=by unfold z45;rw[if_pos rfl,decide_eq_true rfl];rfl
    by_cases hw:q.2.2=0
    ·rw[decide_eq_true hw,Bool.not_true,Bool.or_false,z0s,zhb,zz0,hr];by_cases h64:q.1.size≤64
     ·rw[if_pos ⟨hw,h64⟩,decide_eq_true h64];exact⟨_,_,rfl,.inl ⟨_,rfl,rfl⟩⟩
     ·rw[if_neg (fun h=>h64 h.2),decide_eq_false h64];exact⟨_,_,rfl,.inr ⟨rfl,rfl⟩⟩
    ·rw[decide_eq_false hw,Bool.not_false,Bool.or_true,z2f,if_neg (fun h=>hw h.1)];exact⟨_,_,rfl,.inr ⟨rfl,rfl⟩⟩
   ·rw[decide_eq_false (by omega),z0s];exact⟨_,_,rfl,.inr ⟨zk6 h0 hz ho,rfl⟩⟩
end Go.Av
namespace Go.Av
open Go
theorem zk9 {n:Nat}(h:n<18446744073709551615):zzu.wrap (((n+1:Nat):Int)-1)=(n:Int):=by rw[z51];omega
theorem zjn {B:Int×Taker×List Value→Option (Ctl (Int×Taker×List Value) Empty)}
 (hB: ∀a4,B a4=(jn (fun(a6:Bool)=>bf a6 ((z2d a4.2.2 a4.2.1).bind fun r8=>some (.next ((zzu.wrap (a4.1-1)),r8.2,r8.1))) (some (.brk (a4.1,a4.2.1,a4.2.2)))) fun j7=>bf (decide (0<a4.1)) (j7 (!a4.2.1.bad)) (j7 false))):
 ∀(n fuel:Nat) (s:ByteArray) (acc:List Value),n<fuel→n≤8→acc.length+n≤100→s.size≤maxN→ ∃m t l,loopN B fuel ((n:Int),⟨s,false⟩,acc)=some (.done (m,t,l))∧((∃l' r,z7t n s=some (l',r)∧t=⟨r,false⟩∧l=acc++l')∨(z7t n s=none∧t.bad=true)):=by
 intro n;induction n with
 |zero=>
  intro fuel s acc hf h8 hl hs;cases fuel with
  |zero=>omega
  |succ fuel=>
   refine⟨0,⟨s,false⟩,acc,?_,.inl ⟨[],s,rfl,rfl,by rw[List.append_nil]⟩⟩;rw[z1e (s':=((0:Int),⟨s,false⟩,acc))];rw[hB];rfl
 |succ n ih=>
  intro fuel s acc hf h8 hl hs;cases fuel with
  |zero=>omega
  |succ fuel=>
   obtain⟨v,t,h1,h2⟩:=zlq hs;have hstep:B (((n+1:Nat):Int),⟨s,false⟩,acc)=some (.next ((n:Int),t,acc++[v])):=by
    rw[hB,jn_eq];dsimp only;rw[decide_eq_true (by omega),z2f,Bool.not_false,z2f];unfold z2d;rw[h1,zz0,z07 (by simp only[zzg,List.length_nil];omega),zz0,zk9 (by omega)]
   rw[z20 hstep];rcases h2 with⟨r,h3,rfl⟩|⟨h3,h4⟩
   ·obtain⟨m,t,l,g1,g2⟩:=ih fuel r (acc++[v]) (by omega) (by omega) (by rw[zze];simp only[zzg,List.length_nil];omega) (Nat.le_trans (zj2 hs h3) hs);refine⟨m,t,l,g1,?_⟩;have e:z7t (n+1) s=(z7t n r).bind fun l=>some (v::l.1,l.2):=by
     show(takeV s).bind _=_;rw[h3];rfl
    rcases g2 with⟨l',r',g3,g4,g5⟩|⟨g3,g4⟩
    ·exact .inl ⟨v::l',r',by rw[e,g3];rfl,g4,by rw[g5,List.append_assoc];rfl⟩
    ·exact .inr ⟨by rw[e,g3];rfl,g4⟩
   ·obtain⟨tl,tb⟩:=t;have h4:tb=true:=h4
    subst h4;refine⟨n,⟨tl,true⟩,acc++[v],?_,.inr ⟨?_,rfl⟩⟩
    ·cases fuel with
     |zero=>omega
     |succ fuel=>
      rw[z1e (s':=((n:Int),⟨tl,true⟩,acc++[v]))];rw[hB,jn_eq];dsimp only;by_cases h0:0<(n:Int)
      ·rw[decide_eq_true h0];rfl
      ·rw[decide_eq_false h0];rfl
    ·show(takeV s).bind _=_;rw[h3];rfl
theorem zlk {s:ByteArray}(hs:s.size≤maxN){fuel:Nat}(hf:20<fuel):z6q fuel s=some (tkR s):=by
 unfold z6q z3k z1h z2y;obtain⟨n,r,w,h1,h2,h3⟩:=zhh (s:=s);dsimp only;rw[z9k hs,zz0,zcr,zz0,zz0,jn_eq];unfold tkR zcq;rw[h1];dsimp only;by_cases hw:w=0
 ·rw[decide_eq_true hw,Bool.not_true,Bool.or_false,z0s];by_cases h8:n≤8
  ·rw[decide_eq_false (by omega),if_pos ⟨hw,by omega⟩,zz7];obtain⟨m,t,l,g1,g2⟩:=zjn (B:=_) (fun a4=>rfl) n fuel r [] (by omega) h8 (by simp only[List.length_nil];omega) (Nat.le_trans h2 hs);rw[g1,z3x,zz0,zz0];rcases g2 with⟨l',r',g3,g4,g5⟩|⟨g3,g4⟩
   ·rw[g3,g4,g5];rfl
   ·rw[g3];dsimp only;rw[g4];rfl
  ·rw[decide_eq_true (by omega),if_neg (fun h=>h8 (by omega))];cases fuel with
   |zero=>omega
   |succ fuel=>
    rw[z1e (s':=((n:Int),⟨r,true⟩,[]))]
    ·rfl
    ·rw[jn_eq];dsimp only;rw[decide_eq_true (by omega)];rfl
 ·rw[decide_eq_false hw,Bool.not_false,Bool.or_true,z2f,if_neg (fun h=>hw h.1)];cases fuel with
  |zero=>omega
  |succ fuel=>
   rw[z1e (s':=((n:Int),⟨r,true⟩,[]))]
   ·rfl
   ·rw[jn_eq];dsimp only;by_cases h0:0<(n:Int)
    ·rw[decide_eq_true h0];rfl
    ·rw[decide_eq_false h0];rfl
end Go.Av
namespace Go.Av
open Go
theorem zif (b:UInt8)(l:List UInt8):rd1 (ofL (b::l))=ofL l:=by
 unfold rd1;rw[za4,z77,List.take_length];rfl
theorem zjq (b:UInt8)(l:List UInt8):(ofL (b::l)).size≠0:=by rw[z77,zzg];omega
theorem zj0 {v:Value}(h:goodV v)(r:List UInt8):takeV (ofL (valL v++r))=some (v,ofL r):=by
 unfold valL;cases ht:v.isText with
 |true=>
  obtain⟨hn,hs⟩:=zb5 h.1 ht;rw[if_pos rfl,List.cons_append,List.append_assoc];rw[zem (zjq _ _) (by rw[zb0];rfl) rfl,zif];have e:tkTxt (ofL (cb v.s.size (kOf v.s.size)++(v.s.data.toList++r)))=(v.s,ofL r,0):=by
   unfold tkTxt;have hl:=z86 v.s
   rw[zf5 (by omega),zln,if_neg (by omega),if_neg (by rw[zze];omega),List.take_left' hl,List.drop_left' hl];rw[←zjr]
  rw[e,if_pos ⟨rfl,hs⟩];obtain⟨a,b,c⟩:=v;simp only at ht hn;subst ht;subst hn;rfl
 |false=>
  have hs:=zjy h.1 ht;rw[if_neg (by simp),List.cons_append];rw[zft (zjq _ _) (by rw[zb0];rfl) rfl,zif];have e:tkNum (ofL (cb (zz v.n) (kOf (zz v.n))++r))=(v.n,ofL r,0):=by
   unfold tkNum;rw[zf5 (zz_lt h.2)];unfold tkN;rw[if_pos rfl,zkr]
  rw[e,if_pos rfl];obtain⟨a,b,c⟩:=v;simp only at ht hs;subst ht;subst hs;rfl
theorem zd4: ∀{p:List Value},(∀v∈p,goodV v)→ ∀r,z7t p.length (ofL (rowL p++r))=some (p,ofL r)
 |[],_,r=>rfl
 |v::p,h,r=>by
  have e:rowL (v::p)++r=valL v++(rowL p++r):=by unfold rowL;rw[List.flatMap_cons,List.append_assoc]
  show(takeV (ofL (rowL (v::p)++r))).bind _=_;rw[e,zj0 (h v (zz5 ..)),zz0];show(z7t p.length (ofL (rowL p++r))).bind _=_;rw[zd4 (fun x hx=>h x (zz8 _ hx)) r];rfl
theorem zhf {p:List Value}(hl:p.length≤8)(h: ∀v∈p,goodV v)(r:List UInt8):zcq (ofL (encR p++r))=some (p,ofL r):=by
 unfold zcq encR;rw[List.append_assoc,zf5 (by omega),if_pos ⟨rfl,by show(p.length:Int)≤8;omega⟩];show z7t (p.length:Int).toNat _=_;rw[zz7];exact zd4 h r
theorem zlp {p:List Value}(h: ∀x∈p,zah x): ∀v∈p,in64 v.n:=fun v hv=>by
 have:=Go.bounds_i64 (h v hv).2.1;unfold in64;omega
end Go.Av
namespace Go.Av
open Go
set_option maxRecDepth 100000
theorem zij:z5s 100000000=some true:=by kernel_rfl
def flatR (l:List (List Value)):List UInt8:=l.flatMap encR
theorem zgo {p:List Value}(ho:okRow p=true)(h64: ∀v∈p,in64 v.n):(encR p).length≤700:=by
 obtain⟨ha,hl⟩:=zcc ho;have hg: ∀v∈p,goodV v:=fun v hv=>⟨List.all_eq_true.1 ha v hv,h64 v hv⟩
 have hk:=(zc9 (n:=p.length) (by omega)).2;have hrl:=zdk hg
 unfold encR;rw[zze,z64];omega
theorem zc6: ∀{l:List (List Value)},(∀p∈l,okRow p=true∧ ∀v∈p,in64 v.n)→(flatR l).length≤l.length*700
 |[],_=>zz9 _
 |p::l,h=>by
  have h1:=zgo (h p (zz5 ..)).1 (h p (zz5 ..)).2;have h2:=zc6 (l:=l) fun q hq=>h q (zz8 _ hq)
  unfold flatR at h2 ⊢;rw[List.flatMap_cons,zze,zzg];omega
theorem zlm {p:List Value}(ho:okRow p=true)(h64: ∀v∈p,in64 v.n)(r:List UInt8):tkR (ofL (encR p++r))=(p,ofL r,0):=by
 obtain⟨ha,hl⟩:=zcc ho;have hg: ∀v∈p,goodV v:=fun v hv=>⟨List.all_eq_true.1 ha v hv,h64 v hv⟩
 unfold tkR;rw[zhf hl hg]
theorem zl6 {Q:Type}(j:Bool→Option Q)(A B c:Bool):jn j (fun j2=>bf A (j2 true) (bf B (j2 true) (j2 c)))=j (A||(B||c)):=by cases A<;>cases B<;>rfl
theorem zht {l:List Time}{t:Time}(h:t∈l):((zaf l).any fun u=>leT u t)=true:=by
 obtain⟨u,hu,hl⟩:=(ze5 l).below t h;exact List.any_eq_true.2 ⟨u,hu,hl⟩
theorem zdq {rows:List (List Value)}{times:List Time}(hr: ∀p∈rows,∀v∈p,in64 v.n)(ht:NN times):z3c 100000000 rows times=some true:=by
 unfold z3c;rw[zij,zz0,Bool.not_true,z0s];have key:=zi0 (S:=ByteArray×(List (List Value))×(List Time)) (R:=Empty) (B:=fun i2 (a3:ByteArray×(List (List Value))×(List Time))=>(z6i (rows.getD i2 zzd)).bind fun r24=>jn (fun(a25:Bool)=>bf a25 (some (.brk (a3.1,a3.2.1,a3.2.2))) (need (((a3.1.size+r24.1.size:Nat):Int)≤9223372036854775807)<|need (a3.2.1.length+([(rows.getD i2 zzd)]:List (List Value)).length≤274877906944)<|need ((0:Int)≤((i2:Nat):Int)∧((i2:Nat):Int)<(times.length:Int))<|need (a3.2.2.length+([(times.getD i2 zzd)]:List Time).length≤274877906944)<|some (.next ((a3.1++r24.1),(a3.2.1++([(rows.getD i2 zzd)]:List (List Value))),(a3.2.2++([(times.getD i2 zzd)]:List Time)))))) fun j26=>bf (decide (((i2:Nat):Int)=40)) (j26 true) (bf (decide ((times.length:Int)≤((i2:Nat):Int))) (j26 true) (j26 (!decide (r24.2=0))))) (n:=rows.length) (s:=((bs []),([]:List (List Value)),([]:List Time)))
  (fun i q=>i≤40∧i≤times.length∧ ∃put at_,q=(ofL (flatR put),put,at_)∧put.length=i∧at_.length=i∧(∀p∈put,okRow p=true∧ ∀v∈p,in64 v.n)∧NN at_)
  (fun q=> ∃put at_,q=(ofL (flatR put),put,at_)∧put.length≤40∧at_.length=put.length∧(∀p∈put,okRow p=true∧ ∀v∈p,in64 v.n)∧NN at_) (fun _=>True)
  ⟨Nat.zero_le _,Nat.zero_le _,[],[],rfl,rfl,rfl,fun p hp=>(by cases hp),fun p hp=>(by cases hp)⟩
  (fun i q hi ⟨h1,h2,put,at_,h3,h4,h5,h6,h7⟩=>by
   subst h3;have hm:=z8c (l:=rows) hi
   have h64:=hr _ hm;rw[zjf h64,zz0,zl6];dsimp only;generalize hst:(decide (((i:Nat):Int)=40)||(decide ((times.length:Int)≤((i:Nat):Int))|| !decide ((if okRow (rows.getD i zzd)=true then(ofL (encR (rows.getD i zzd)),(0:Int))else(bs [],4)).2=0)))=st;cases st with
   |true=>
    right;left;exact⟨_,rfl,put,at_,rfl,by omega,by omega,h6,h7⟩
   |false=>
    left;simp only[Bool.or_eq_false_iff,decide_eq_false_iff_not,Bool.not_eq_false']at hst;obtain⟨g1,g2,g3⟩:=hst;have ho:okRow (rows.getD i zzd)=true:=by
     cases hc:okRow (rows.getD i zzd)with
     |true=>rfl
     |false=>rw[hc]at g3;simp at g3
    have hti:i<times.length:=by omega
    have hmt:=z8c (l:=times) hti;generalize rows.getD i zzd=p at*;generalize times.getD i zzd=t at*;have he:=zgo ho h64
    have hf:=zc6 h6;rw[if_pos ho];dsimp only;rw[z0s,z07 (by rw[z77,z77];omega),z07 (by simp only[zzg,List.length_nil];omega),z07 (by omega),z07 (by simp only[zzg,List.length_nil];omega)];refine⟨_,rfl,by omega,by omega,put++[p],at_++[t],?_,by rw[zze];simp only[zzg,List.length_nil];omega,by rw[zze];simp only[zzg,List.length_nil];omega,fun q hq=>?_,fun q hq=>?_⟩
    ·rw[zea];have:flatR (put++[p])=flatR put++encR p:=by unfold flatR;rw[List.flatMap_append];simp
     rw[this]
    ·rcases zzh.1 hq with hq|hq
     ·exact h6 q hq
     ·rw[zzf.1 hq];exact⟨ho,h64⟩
    ·rcases zzh.1 hq with hq|hq
     ·exact h7 q hq
     ·rw[zzf.1 hq];exact ht _ hmt)
  (fun q ⟨h1,h2,put,at_,h3,h4,h5,h6,h7⟩=>⟨put,at_,h3,by omega,by omega,h6,h7⟩)
 rcases key with⟨q,k1,put,at_,rfl,k2,k3,k4,k5⟩|⟨r,_⟩
 ·rw[k1,z3x];dsimp only;unfold z6l;rw[z9s k5,zz0,zz0];have hln:=zld k5
  have loop:=z9u (S:=ByteArray) (R:=Bool) (B:=fun i6 (a7:ByteArray)=>need ((0+i6)<put.length)<|(z6q 100000000 a7).bind fun r10=>jn (fun(a11:Bool)=>bf a11 (some (.ret false)) (some (.next r10.2.1))) fun j12=>bf (!decide (r10.2.2=0)) (j12 true) ((z6p r10.1 (put.getD (0+i6) zzd)).bind fun r14=>bf (!decide (r14=0)) (j12 true) (need ((0:Int)≤((i6:Nat):Int)∧((i6:Nat):Int)<(at_.length:Int))<|need ((0+i6)<at_.length)<|(z50 (at_.getD (0+i6) zzd) (lubL at_)).bind fun r18=>bf (!r18) (j12 true) ((z5z 100000000 at_).bind fun r20=>need ((0:Int)≤((i6:Nat):Int)∧((i6:Nat):Int)<(at_.length:Int))<|need ((0+i6)<at_.length)<|(z38 r20 (at_.getD (0+i6) zzd)).bind fun r23=>j12 (!r23))))) (n:=put.length) (s:=ofL (flatR put)) (ofL []) (fun i a=>a=ofL (flatR (put.drop i))) (fun s h=>by rw[h,List.drop_length];rfl)
   (fun i a hi h=>by
    refine⟨ofL (flatR (put.drop (i+1))),?_,rfl⟩;have hm:=z8c (l:=put) hi
    have hai:i<at_.length:=by omega
    have hmt:=z8c (l:=at_) hai;have hd:put.drop i=put.getD i zzd::put.drop (i+1):=by
     rw[List.drop_eq_getElem_cons hi];simp[List.getD_eq_getElem?_getD,List.getElem?_eq_getElem hi]
    have hfl:=zc6 (l:=put.drop i) (fun p hp=>k4 p (List.mem_of_mem_drop hp));rw[List.length_drop]at hfl;have hcat:flatR (put.drop i)=encR (put.getD i zzd)++flatR (put.drop (i+1)):=by
     rw[hd];unfold flatR;rw[List.flatMap_cons]
    subst h;rw[z07 (by omega),zlk (by rw[z77];unfold maxN;omega) (by omega),zz0,hcat,zlm (k4 _ hm).1 (k4 _ hm).2,jn_eq];dsimp only;rw[zz6];have e0:(!decide ((0:Int)=0))=false:=rfl
    rw[e0,z0s,zhi,zz0,zl2.list.refl,e0,z0s,z07 (by omega),z07 hai,zge (k5 _ hmt) hln,zz0,(zlc hln).1 (zde _) _ hmt,Bool.not_true,z0s,zkh k5 (by omega) (by omega),zz0,z07 (by omega),z07 hai,zfd (zjj k5) (k5 _ hmt),zz0,zht hmt,Bool.not_true,z0s]) rfl
  rw[loop,z3x];show some (strEq (bs []) (bs []))=_;rw[zb8]
 ·exact r.elim
theorem zes {rows:List (List Value)}{times:List Time}(h1:rows.length≤maxN∧ ∀x∈rows,x.length≤maxN∧ ∀v∈x,zah v)(h2:times.length≤maxN∧ ∀x∈times,zgz x):z3c 100000000 rows times=some true:=
 zdq (fun p hp=>zlp (h1.2 p hp).2) (fun t ht=>⟨(Go.bounds_u64 (h2.2 t ht).1).1,(Go.bounds_u64 (h2.2 t ht).2.1.1).1,(Go.bounds_u64 (h2.2 t ht).2.1.2).1⟩)
end Go.Av
