import Derived.Test.YtghdjgoeckadaaaF3x3
import Derived.KernelRfl
set_option maxRecDepth 100000
set_option linter.unusedVariables false
set_option linter.unusedSimpArgs false
set_option linter.unusedSectionVars false
open Go.IntKind renaming i64→zzi, u64→zzu
open Inhabited renaming default→zzd
open Option renaming bind_some→zz3
open List renaming length_append→zz6, mem_cons_self→zz7, mem_cons_of_mem→zz8, append_assoc→zzb, mem_singleton→zzg, length_take→zzh
open Int renaming toNat_natCast→zz9
open Nat renaming le_refl→zzc, zero_add→zze
namespace Go.Av
open Go
def tkC (s:ByteArray):Nat→Nat→Nat→Int×ByteArray×Int
 |0,_,_=>(0,bs [],3)
 |k+1,i,acc=>
  if(0<i∧z0p s i=0)∨(i=9∧1<z0p s i)then(0,bs [],4)
  else if z0p s i<128 then(((acc+z0p s i % 128*128^i:Nat):Int),s.extract (i+1) s.size,0)
  else tkC s k (i+1) (acc+z0p s i % 128*128^i)
theorem zbc {i:Nat}(h:i≤9):128^i≤9223372036854775808:=by
 have:=Nat.pow_le_pow_right (n:=128) (by decide) h;have e:(128:Nat)^9=9223372036854775808:=by decide
 omega
theorem zbj {i acc b:Nat}(hi:i≤9)(ha:acc<128^i)(hb:b<256)(h9:i=9→b≤1):acc+b % 128*128^i<18446744073709551616:=by
 rcases Nat.lt_or_ge i 9 with h|h
 ·have h1:b % 128*128^i≤127*128^i:=Nat.mul_le_mul_right _ (by omega);have h2:=zbc (show i+1≤9 by omega)
  rw[Nat.pow_succ]at h2;omega
 ·have h0:i=9:=by omega
  have h1:=h9 h0;have h2:=zbc hi
  have h3:b % 128*128^i≤1*128^i:=Nat.mul_le_mul_right _ (by omega);omega
theorem zcn {i acc b:Nat}(ha:acc<128^i):acc+b % 128*128^i<128^(i+1):=by
 have h1:b % 128*128^i≤127*128^i:=Nat.mul_le_mul_right _ (by omega);rw[Nat.pow_succ];omega
theorem zie {i acc b:Nat}(hi:i≤9)(ha:acc<128^i)(hb:b<256)(h9:i=9→b≤1):
 z0j .or .u64 (acc:Int) (shlOp .u64 (zzu.wrap (z0j .and .u8 (b:Int) 127)) (zzi.wrap ((7:Int)*(i:Int))))=((acc+b % 128*128^i:Nat):Int):=by
 have hb2:=zbj hi ha hb h9;have e1:zzi.wrap ((7:Int)*(i:Int))=((7*i:Nat):Int):=by rw[z0w (by omega) (by omega)];omega
 have e2:zzu.wrap ((b % 128:Nat):Int)=((b % 128:Nat):Int):=uwrap (k:= .u64) rfl (show b % 128<2^64 by omega);rw[zfk hb,e1,e2,zhv (k:= .u64) _ _ (show 7*i≤64 by omega),pow7];have hp:=zbc hi
 have e3:zzu.wrap ((b % 128*128^i:Nat):Int)=((b % 128*128^i:Nat):Int):=uwrap (k:= .u64) rfl (show b % 128*128^i<2^64 by omega);rw[e3,zig (k:= .u64) rfl (show acc<2^64 by omega) (show b % 128*128^i<2^64 by omega)];congr 1;rw[←pow7]at ha ⊢;rw[Nat.mul_comm,zif ha,Nat.add_comm]
theorem zce {s:ByteArray}(hs:s.size≤maxN){B:Nat→Int→Option (Ctl Int (Int×ByteArray×Int))}
 (hB: ∀i acc:Nat,i<s.size→i≤9→acc<128^i→B i (acc:Int)=if(0<i∧z0p s i=0)∨(i=9∧1<z0p s i)then some (.ret (0,bs [],4))
  else if z0p s i<128 then some (.ret (((acc+z0p s i % 128*128^i:Nat):Int),s.extract (i+1) s.size,0))else some (.next ((acc+z0p s i % 128*128^i:Nat):Int))):
 ∀(k i acc:Nat),i+k=s.size→i≤9→acc<128^i→outK (z0q B k i (acc:Int)) (fun(a3:Int)=>some (0,(bs []),3)) (fun x=>some x)=some (tkC s k i acc):=by
 intro k;induction k with
 |zero=>intro i acc hi h9 ha;rfl
 |succ k ih=>
  intro i acc hi h9 ha;simp only[z0q,hB i acc (by omega) h9 ha,tkC];by_cases h1:(0<i∧z0p s i=0)∨(i=9∧1<z0p s i)
  ·rw[if_pos h1,if_pos h1];rfl
  ·rw[if_neg h1,if_neg h1];by_cases h2:z0p s i<128
   ·rw[if_pos h2,if_pos h2];rfl
   ·rw[if_neg h2,if_neg h2];have h3:i≠9:=fun e=>h1 (.inr ⟨e,by omega⟩);exact ih (i+1) _ (by omega) (by omega) (zcn ha)
theorem zdu {s:ByteArray}(hs:s.size≤maxN):z3s s=some (tkC s s.size 0 0):=by
 unfold z3s;rw[z08 hs];refine zce hs ?_ s.size 0 0 (by omega) (by omega) (by decide);intro i acc hi h9 ha;unfold maxN at hs;have hb:=z8c s i
 rw[zbm];have e1:zzi.wrap ((7:Int)*(i:Int))=((7*i:Nat):Int):=by rw[z0w (by omega) (by omega)];omega
 have e2:zzi.wrap ((i:Int)+1)=((i+1:Nat):Int):=by rw[z0w (by omega) (by omega)];omega
 simp only[jn_eq];by_cases hc:(0<i∧z0p s i=0)∨(i=9∧1<z0p s i)
 ·rw[if_pos hc];rcases hc with⟨h1,h2⟩|⟨h1,h2⟩
  ·rw[decide_eq_true (by omega:0<(i:Int)),decide_eq_true (by omega:(z0p s i:Int)=0)];rfl
  ·rw[decide_eq_true (by omega:(i:Int)=9),decide_eq_true (by omega:1<(z0p s i:Int)),decide_eq_true (by omega:0<(i:Int)),decide_eq_false (by omega: ¬(z0p s i:Int)=0)];rfl
 ·rw[if_neg hc];have h9b:i=9→z0p s i≤1:=fun e=>by
   rcases Nat.lt_or_ge 1 (z0p s i)with h|h
   ·exact absurd (.inr ⟨e,h⟩) hc
   ·exact h
  rw[zie h9 ha hb h9b,e1,e2,zz9,z08 (by omega),z08 (by omega)];have fin:(bf (decide ((z0p s i:Int)<128)) (some (Ctl.ret (((acc+z0p s i % 128*128^i:Nat):Int),(s.extract (i+1) s.size),(0:Int)))) (some (.next ((acc+z0p s i % 128*128^i:Nat):Int))))=if z0p s i<128 then some (.ret (((acc+z0p s i % 128*128^i:Nat):Int),s.extract (i+1) s.size,0))else some (.next ((acc+z0p s i % 128*128^i:Nat):Int)):=by
   rw[z1h];by_cases h:z0p s i<128
   ·rw[if_pos h,if_pos (by omega)]
   ·rw[if_neg h,if_neg (by omega)]
  by_cases h1:0<i
  ·have h2:z0p s i≠0:=fun e=>hc (.inl ⟨h1,e⟩);rw[decide_eq_true (by omega:0<(i:Int)),decide_eq_false (by omega: ¬(z0p s i:Int)=0)];by_cases h3:i=9
   ·have:=h9b h3;rw[decide_eq_true (by omega:(i:Int)=9),decide_eq_false (by omega: ¬1<(z0p s i:Int))];simp only[z1a,z0l];exact fin
   ·rw[decide_eq_false (by omega: ¬(i:Int)=9)];simp only[z1a,z0l];exact fin
  ·rw[decide_eq_false (by omega: ¬0<(i:Int)),decide_eq_false (by omega: ¬(i:Int)=9)];simp only[z1a,z0l];exact fin
theorem z91 {s:ByteArray}: ∀{k i acc:Nat},i+k=s.size→i≤9→acc<128^i→tkC s k i acc=(0,bs [],3)∨tkC s k i acc=(0,bs [],4)∨ ∃n j:Nat,tkC s k i acc=((n:Int),s.extract j s.size,0)∧n<18446744073709551616∧j≤s.size
 |0,i,acc,_,_,_=> .inl rfl
 |k+1,i,acc,hi,h9,ha=>by
  have hb:=z8c s i;simp only[tkC];by_cases h1:(0<i∧z0p s i=0)∨(i=9∧1<z0p s i)
  ·rw[if_pos h1];exact .inr (.inl rfl)
  ·rw[if_neg h1];have h9b:i=9→z0p s i≤1:=fun e=>by
    rcases Nat.lt_or_ge 1 (z0p s i)with h|h
    ·exact absurd (.inr ⟨e,h⟩) h1
    ·exact h
   by_cases h2:z0p s i<128
   ·rw[if_pos h2];exact .inr (.inr ⟨_,i+1,rfl,zbj h9 ha hb h9b,by omega⟩)
   ·rw[if_neg h2];have h3:i≠9:=fun e=>by have:=h9b e;omega
    exact z91 (by omega) (by omega) (zcn ha)
theorem z81 (s:ByteArray)(i j:Nat)(h:j≤s.size):(s.extract i j).size=j-i:=by rw[ByteArray.size_extract,Nat.min_eq_left h]
end Go.Av
namespace Go.Av
open Go
theorem IsK.uniq {n k j:Nat}(h:IsK n k)(g:IsK n j):k=j:=by
 obtain⟨h1,h2,h3,h4⟩:=h;obtain⟨g1,g2,g3,g4⟩:=g;rcases Nat.lt_trichotomy k j with e|e|e
 ·have:=g4 (by omega);have h5:=Nat.pow_le_pow_right (n:=128) (by decide) (show k≤j-1 by omega)
  omega
 ·exact e
 ·have:=h4 (by omega);have h5:=Nat.pow_le_pow_right (n:=128) (by decide) (show j≤k-1 by omega)
  omega
def kOf (n:Nat):Nat:=if n<128 then 1 else if n<128^2 then 2 else if n<128^3 then 3 else if n<128^4 then 4 else if n<128^5 then 5 else if n<128^6 then 6 else if n<128^7 then 7 else if n<128^8 then 8 else if n<128^9 then 9 else 10
theorem z8o {n:Nat}(h:n<2^64):IsK n (kOf n):=by
 have p1:(128:Nat)^1=128:=by decide
 have p2:(128:Nat)^2=16384:=by decide
 have p3:(128:Nat)^3=2097152:=by decide
 have p4:(128:Nat)^4=268435456:=by decide
 have p5:(128:Nat)^5=34359738368:=by decide
 have p6:(128:Nat)^6=4398046511104:=by decide
 have p7:(128:Nat)^7=562949953421312:=by decide
 have p8:(128:Nat)^8=72057594037927936:=by decide
 have p9:(128:Nat)^9=9223372036854775808:=by decide
 have p10:(128:Nat)^10=1180591620717411303424:=by decide
 unfold kOf IsK;rw[p2,p3,p4,p5,p6,p7,p8,p9]
 repeat' split
 all_goals (refine⟨by omega,by omega,?_,fun _=>?_⟩<;>simp only[Nat.reduceSub,p1,p2,p3,p4,p5,p6,p7,p8,p9,p10]<;>omega)
def cntB (n:Nat):ByteArray:=strOfNums (cntL n (kOf n))
theorem zbo {n:Nat}:(cntB n).size=kOf n:=by unfold cntB cntL;rw[z78];simp
theorem zd4 {n:Nat}(h:n<2^64):1≤kOf n∧kOf n≤10:=⟨(z8o h).1,(z8o h).2.1⟩
theorem zgm {n:Nat}(h:n<2^64):z4e (n:Int)=some (cntB n):=by
 obtain⟨k,hk,e⟩:=zde h;rw[e,hk.uniq (z8o h)];rfl
def tkT (r:Int×ByteArray×Int):ByteArray×ByteArray×Int:=
 if r.2.2=0 then(if 65536<r.1 then(bs [],bs [],2)else if(r.2.1.size:Int)<r.1 then(bs [],bs [],3)else(r.2.1.extract 0 r.1.toNat,r.2.1.extract r.1.toNat r.2.1.size,0))else(bs [],bs [],r.2.2)
theorem zeb {s:ByteArray}(hs:s.size≤maxN):z41 s=some (tkT (tkC s s.size 0 0)):=by
 unfold z41;rw[zdu hs,zz3];unfold maxN at hs;rcases z91 (s:=s) (k:=s.size) (i:=0) (acc:=0) (by omega) (by omega) (by decide)with h|h|⟨n,j,h,hn,hj⟩
 ·rw[h];rfl
 ·rw[h];rfl
 ·rw[h];have hsz:=z81 s j s.size (zzc _);unfold tkT;simp only[jn_eq,decide_true,z1a,if_true];generalize s.extract j s.size=r at*;have e1:zzu.wrap (r.size:Int)=(r.size:Int):=by rw[za0];omega
  by_cases h1:65536<(n:Int)
  ·rw[if_pos h1,decide_eq_true h1];rfl
  ·rw[if_neg h1,decide_eq_false h1];simp only[z0l,decide_true,z1a];rw[e1];by_cases h2:(r.size:Int)<(n:Int)
   ·rw[if_pos h2,decide_eq_true h2];rfl
   ·rw[if_neg h2,decide_eq_false h2];simp only[z0l,decide_true,Bool.not_true];rw[z08 (by omega),z08 (by omega)]
theorem zgb {s:ByteArray}(hs:s.size≤maxN): ∃p r w,tkT (tkC s s.size 0 0)=(p,r,w)∧p.size≤65536∧r.size≤s.size:=by
 suffices h:(tkT (tkC s s.size 0 0)).1.size≤65536∧(tkT (tkC s s.size 0 0)).2.1.size≤s.size from⟨_,_,_,rfl,h.1,h.2⟩
 constructor
 all_goals
  rcases z91 (s:=s) (k:=s.size) (i:=0) (acc:=0) (by omega) (by omega) (by decide)with h|h|⟨n,j,h,hn,hj⟩
  ·rw[h];exact Nat.zero_le _
  ·rw[h];exact Nat.zero_le _
  ·rw[h];have hsz:=z81 s j s.size (zzc _);unfold tkT;simp only[if_true];generalize s.extract j s.size=r at*;by_cases h1:65536<(n:Int)
   ·rw[if_pos h1];exact Nat.zero_le _
   ·rw[if_neg h1];by_cases h2:(r.size:Int)<(n:Int)
    ·rw[if_pos h2];exact Nat.zero_le _
    ·rw[if_neg h2];simp only[ByteArray.size_extract];omega
theorem z8a {a b:ByteArray}(h:a.data.toList=b.data.toList):a=b:=Go.WideShapes.bytes_inj h
theorem join2 {a b:ByteArray}(h:a.size+b.size≤140737488355328):strings_Join [a,b] (bs [])=some (a++b):=by
 unfold strings_Join;have e:Lib.join ([a,b].map (·.data.toList)) (bs []).data.toList=(a++b).data.toList:=by
  rw[List.map_cons,Lib.join_cons];simp[Lib.joinTail,ByteArray.data_append];rfl
 rw[e];have hl:(a++b).data.toList.length=a.size+b.size:=by rw[z2r,ByteArray.size_append]
 rw[z08 ⟨by simp,by omega⟩]
theorem z9p {a b:ByteArray}(h:a.size+b.size≤140737488355328):z4t [a,b]=some (a++b):=by
 unfold z4t;rw[join2 h];rfl
def z90 (t:ByteArray):ByteArray:=cntB t.size++t
theorem zhx {t:ByteArray}(h:t.size≤140737488355300):z5q t=some (z90 t):=by
 unfold z5q;have e:zzu.wrap (t.size:Int)=(t.size:Int):=by rw[za0];omega
 have hk:=zd4 (n:=t.size) (by omega);rw[e,zgm (by omega),zz3,z9p (by rw[zbo];omega)];rfl
def sum4 (c:Nat):ByteArray:=strOfNums [((c % 256:Nat):Int),((c / 256 % 256:Nat):Int),((c / 65536 % 256:Nat):Int),((c / 16777216 % 256:Nat):Int)]
theorem zg6 (c:Nat):(sum4 c).size=4:=by unfold sum4;rw[z78];rfl
theorem zhf (s:ByteArray):crcS s<2^32:=by unfold crcS;omega
theorem zad {t:ByteArray}(h:t.size≤maxN):z3t t=some (sum4 (crcS t)):=by
 unfold z3t;rw[zff h,zz3];have hc:=zhf t
 generalize crcS t=c at*;rw[z08 (by decide)];have e0: ∀i:Nat,i<4→IntKind.u8.wrap (shrOp .u32 (c:Int) (zzi.wrap ((8:Int)*(i:Int))))=((c / 2^(8*i) % 256:Nat):Int):=fun i hi=>by
  have e1:zzi.wrap ((8:Int)*(i:Int))=((8*i:Nat):Int):=by rw[z0w (by omega) (by omega)];omega
  rw[e1,z5d .u32 c (8*i) (by show 8*i≤32;omega),zez];omega
 have h0:=e0 0 (by decide);have h1:=e0 1 (by decide)
 have h2:=e0 2 (by decide);have h3:=e0 3 (by decide)
 have n0:need ((0:Int)≤(zzi.wrap ((8:Int)*((0:Nat):Int))))=(id:Option (Ctl (List Int) Empty)→_):=by funext x;exact z08 (by decide)
 have n1:need ((0:Int)≤(zzi.wrap ((8:Int)*((1:Nat):Int))))=(id:Option (Ctl (List Int) Empty)→_):=by funext x;exact z08 (by decide)
 have n2:need ((0:Int)≤(zzi.wrap ((8:Int)*((2:Nat):Int))))=(id:Option (Ctl (List Int) Empty)→_):=by funext x;exact z08 (by decide)
 have n3:need ((0:Int)≤(zzi.wrap ((8:Int)*((3:Nat):Int))))=(id:Option (Ctl (List Int) Empty)→_):=by funext x;exact z08 (by decide)
 show outK (z0q _ 4 0 [0,0,0,0]) _ _=_;simp only[z0q,zze,Nat.reduceAdd,n0,n1,n2,n3,id,h0,h1,h2,h3];simp[need];unfold sum4;simp
def z9a (t:ByteArray):ByteArray:=z90 t++sum4 (crcS t)
def z6c (t:ByteArray):ByteArray×Int:=if 65536<t.size then(bs [],2)else(z9a t,0)
theorem zec {t:ByteArray}:(z90 t).size=kOf t.size+t.size:=by unfold z90;rw[ByteArray.size_append,zbo]
theorem zgp {t:ByteArray}:z4f t=some (z6c t):=by
 unfold z4f z6c;rw[z1h];by_cases h:65536<t.size
 ·rw[if_pos h,if_pos (by omega)]
 ·have hk:=zd4 (n:=t.size) (by omega);rw[if_neg h,if_neg (by omega),zhx (by omega),zz3,zad (by unfold maxN;omega),zz3,z9p (by rw[zec,zg6];omega)];rfl
def tkF (r:ByteArray×ByteArray×Int):ByteArray×ByteArray×Int:=
 if r.2.2=0 then(if r.2.1.size<4 then(bs [],bs [],3)else if r.2.1.extract 0 4=sum4 (crcS r.1)then(r.1,r.2.1.extract 4 r.2.1.size,0)else(bs [],bs [],4))else(bs [],bs [],r.2.2)
theorem zdv {s:ByteArray}(hs:s.size≤maxN):z22 s=some (tkF (tkT (tkC s s.size 0 0))):=by
 unfold z22;rw[zeb hs,zz3];obtain⟨p,r,w,h,hp,hr⟩:=zgb hs;rw[h];unfold tkF;simp only[z1h,zi5];by_cases hw:w=0
 ·rw[if_pos hw,if_pos hw];by_cases h4:r.size<4
  ·rw[if_pos h4,if_pos (by omega)]
  ·rw[if_neg h4,if_neg (by omega),z08 (by omega),zad (by unfold maxN;omega),zz3];by_cases he:r.extract 0 4=sum4 (crcS p)
   ·rw[if_pos he,he,z60,z1a,z08 (by omega)]
   ·have:strEq (r.extract 0 4) (sum4 (crcS p))=false:=by
     cases e:strEq (r.extract 0 4) (sum4 (crcS p))with
     |false=>rfl
     |true=>exact absurd (z8z.1 e) he
    rw[if_neg he,this,z0l]
 ·rw[if_neg hw,if_neg hw]
end Go.Av
namespace Go.Av
open Go
def ofL (l:List UInt8):ByteArray:=⟨l.toArray⟩
theorem z9v (l:List UInt8):(ofL l).data.toList=l:=rfl
theorem zfy (s:ByteArray):s=ofL s.data.toList:=z8a rfl
theorem z2m (l:List UInt8):(ofL l).size=l.length:=by rw[←z2r];rfl
theorem z7o (a b:List UInt8):ofL a++ofL b=ofL (a++b):=z8a (by
 rw[ByteArray.data_append,Array.toList_append];rfl)
theorem z5l (l:List UInt8)(i j:Nat):(ofL l).extract i j=ofL ((l.take j).drop i):=z8a (by
 rw[ByteArray.data_extract,Array.toList_extract,List.extract_eq_take_drop,List.drop_take];rfl)
theorem zao (l:List UInt8)(i:Nat):z0p (ofL l) i=(l.getD i 0).toNat:=rfl
def cb (n k:Nat):List UInt8:=(List.range k).map fun i=>UInt8.ofNat (dg n k i)
theorem z3e (n k:Nat):(cb n k).length=k:=by unfold cb;simp
theorem zi7 {n k i:Nat}(h:i<k):((cb n k).getD i 0).toNat=dg n k i:=by
 unfold cb;rw[List.getD_eq_getElem?_getD,List.getElem?_map,List.getElem?_range h];show(UInt8.ofNat (dg n k i)).toNat=_;rw[UInt8.toNat_ofNat'];have:=dg_lt n k i
 exact Nat.mod_eq_of_lt (by simpa using this)
theorem zgl (n:Nat):cntB n=ofL (cb n (kOf n)):=z8a (by
 unfold cntB cntL cb strOfNums ofL;simp[Function.comp_def])
theorem zab {n k i:Nat}{r:List UInt8}(h:i<k):((cb n k++r).getD i 0).toNat=dg n k i:=by
 rw[List.getD_eq_getElem?_getD,List.getElem?_append_left (by rw[z3e];exact h),←List.getD_eq_getElem?_getD,zi7 h]
theorem zg9 {X:Type}{l:List X}{i j:Nat}{d:X}(h:i<j):(l.take j).getD i d=l.getD i d:=by
 rw[List.getD_eq_getElem?_getD,List.getElem?_take_of_lt h,←List.getD_eq_getElem?_getD]
theorem zhy {s:ByteArray}{n k:Nat}(hK:IsK n k)(hn:n<2^64)(hs:k≤s.size)(hb: ∀i,i<k→z0p s i=dg n k i):tkC s s.size 0 0=((n:Int),s.extract k s.size,0):=by
 have aux: ∀j i,i+j+1=k→tkC s (s.size-i) i (n % 128^i)=((n:Int),s.extract k s.size,0):=by
  intro j;induction j with
  |zero=>
   intro i hi;have hki:k=i+1:=by omega
   rw[show s.size-i=(s.size-i-1)+1 by omega];simp only[tkC];have h1:=hb i (by omega)
   have h2:=zi2 hK;rw[show k-1=i by omega]at h2;have h3:z0p s i=n / 128^i:=by rw[h1];unfold dg;rw[if_neg (by omega),Nat.mod_eq_of_lt h2];rfl
   rw[h3,if_neg,if_pos h2,Nat.mod_eq_of_lt h2]
   ·have:=Nat.mod_add_div n (128^i);rw[Nat.mul_comm]at this;rw[this,hki]
   ·rintro(⟨h4,h5⟩|⟨h4,h5⟩)
    ·have:=hK.2.2.2 (by omega);rw[show k-1=i by omega]at this;have:=Nat.div_pos this (Nat.pow_pos (by decide))
     omega
    ·subst h4;have e:(128:Nat)^9=9223372036854775808:=by decide
     rw[e]at h5;omega
  |succ j ih=>
   intro i hi;have:=hK.2.1
   rw[show s.size-i=(s.size-(i+1))+1 by omega];simp only[tkC];have h1:=hb i (by omega)
   have h3:z0p s i=n / 128^i % 128+128:=by rw[h1];unfold dg;rw[if_pos (by omega)]
   rw[h3,if_neg (by omega),if_neg (by omega)];have e:n % 128^i+(n / 128^i % 128+128) % 128*128^i=n % 128^(i+1):=by
    rw[Nat.pow_succ,Nat.mod_mul,show(n / 128^i % 128+128) % 128=n / 128^i % 128 by omega,Nat.mul_comm]
   rw[e];exact ih (i+1) (by omega)
 have:=aux (k-1) 0 (by have:=hK.1;omega);rw[Nat.pow_zero,Nat.mod_one,Nat.sub_zero]at this;exact this
theorem zil {s:ByteArray}{n k:Nat}(hK:IsK n k)(hs:s.size<k)(hb: ∀i,i<s.size→z0p s i=dg n k i):tkC s s.size 0 0=(0,bs [],3):=by
 have aux: ∀j i acc,i+j=s.size→tkC s j i acc=(0,bs [],3):=by
  intro j;induction j with
  |zero=>intro i acc hi;rfl
  |succ j ih=>
   intro i acc hi;have:=hK.2.1
   simp only[tkC];have h3:z0p s i=n / 128^i % 128+128:=by rw[hb i (by omega)];unfold dg;rw[if_pos (by omega)]
   rw[h3,if_neg (by omega),if_neg (by omega)];exact ih (i+1) _ (by omega)
 exact aux s.size 0 0 (by omega)
theorem zew {n:Nat}(hn:n<2^64)(r:List UInt8):tkC (ofL (cb n (kOf n)++r)) (ofL (cb n (kOf n)++r)).size 0 0=((n:Int),ofL r,0):=by
 have hsz:(ofL (cb n (kOf n)++r)).size=kOf n+r.length:=by rw[z2m,zz6,z3e]
 rw[zhy (z8o hn) hn (by omega) (fun i hi=>by rw[zao,zab hi]),z5l,hsz,List.take_of_length_le (by rw[zz6,z3e];exact zzc _),List.drop_append_of_le_length (by rw[z3e];exact zzc _),List.drop_of_length_le (by rw[z3e];exact zzc _)];rfl
theorem zga {n:Nat}(hn:n<2^64)(r:List UInt8){j:Nat}(hj:j<kOf n):tkC (ofL ((cb n (kOf n)++r).take j)) (ofL ((cb n (kOf n)++r).take j)).size 0 0=(0,bs [],3):=by
 have hsz:(ofL ((cb n (kOf n)++r).take j)).size=j:=by rw[z2m,zzh,zz6,z3e];omega
 exact zil (z8o hn) (by omega) (fun i hi=>by rw[hsz]at hi;rw[zao,zg9 hi,zab (by omega)])
theorem zey {n:Nat}(r:List UInt8):tkT ((n:Int),ofL r,0)=if 65536<n then(bs [],bs [],2)else if r.length<n then(bs [],bs [],3)else(ofL (r.take n),ofL (r.drop n),0):=by
 unfold tkT;simp only[if_true,z2m,zz9,z5l];by_cases h1:65536<n
 ·rw[if_pos h1,if_pos (by omega)]
 ·rw[if_neg h1,if_neg (by omega)];by_cases h2:r.length<n
  ·rw[if_pos h2,if_pos (by omega)]
  ·rw[if_neg h2,if_neg (by omega),List.drop_zero,List.take_of_length_le (zzc _)]
def q4 (c:Nat):List UInt8:=[UInt8.ofNat (c % 256),UInt8.ofNat (c / 256 % 256),UInt8.ofNat (c / 65536 % 256),UInt8.ofNat (c / 16777216 % 256)]
theorem zdr (c:Nat):sum4 c=ofL (q4 c):=z8a (by unfold sum4 strOfNums q4 ofL;simp only[List.map_cons,List.map_nil,zz9])
theorem z5r (c:Nat):(q4 c).length=4:=rfl
theorem zhs {a b:List UInt8}(h:ofL a=ofL b):a=b:=by rw[←z9v a,h,z9v]
theorem zex (p r:List UInt8):tkF (ofL p,ofL r,0)=if r.length<4 then(bs [],bs [],3)else if r.take 4=q4 (crcS (ofL p))then(ofL p,ofL (r.drop 4),0)else(bs [],bs [],4):=by
 unfold tkF;simp only[if_true,z2m,z5l];by_cases h1:r.length<4
 ·rw[if_pos h1,if_pos h1]
 ·rw[if_neg h1,if_neg h1,List.drop_zero,zdr,List.take_of_length_le (zzc _)];by_cases h2:r.take 4=q4 (crcS (ofL p))
  ·rw[if_pos h2,if_pos (by rw[h2])]
  ·rw[if_neg h2,if_neg (fun e=>h2 (zhs e))]
def frL (t:List UInt8):List UInt8:=cb t.length (kOf t.length)++(t++q4 (crcS (ofL t)))
theorem ze7 (t:ByteArray):z9a t=ofL (frL t.data.toList):=by
 unfold z9a z90 frL;rw[zgl,zdr,z2r]
 conv=>lhs;rw[zfy t]
 rw[z7o,z7o,zzb,z2m,z2r]
theorem z7h (t:List UInt8):(frL t).length=kOf t.length+(t.length+4):=by unfold frL;rw[zz6,zz6,z3e,z5r]
abbrev takeF (s:ByteArray):=tkF (tkT (tkC s s.size 0 0))
theorem zea {t:List UInt8}(h:t.length≤65536)(rest:List UInt8):takeF (ofL (frL t++rest))=(ofL t,ofL rest,0):=by
 unfold frL takeF;rw[zzb,zew (by omega),zey,if_neg (by omega),zzb,if_neg (by rw[zz6];omega),List.take_left,List.drop_left,zex,if_neg (by rw[zz6,z5r];omega)];have e1:(q4 (crcS (ofL t))++rest).take 4=q4 (crcS (ofL t)):=List.take_left' (z5r _)
 have e2:(q4 (crcS (ofL t))++rest).drop 4=rest:=List.drop_left' (z5r _);rw[e1,e2,if_pos rfl]
theorem zg8 {t:List UInt8}(h:t.length≤65536){j:Nat}(hj:j<(frL t).length):takeF (ofL ((frL t).take j))=(bs [],bs [],3):=by
 rw[z7h]at hj;unfold frL takeF;rcases Nat.lt_or_ge j (kOf t.length)with h1|h1
 ·rw[zga (by omega) _ h1];rfl
 ·rw[List.take_append,z3e,List.take_of_length_le (by rw[z3e];exact h1),zew (by omega),zey,if_neg (by omega)];have hl:((t++q4 (crcS (ofL t))).take (j-kOf t.length)).length=j-kOf t.length:=by rw[zzh,zz6,z5r];omega
  rw[hl];by_cases h2:j-kOf t.length<t.length
  ·rw[if_pos h2];rfl
  ·rw[if_neg h2,zex,if_pos (by rw[List.length_drop,hl];omega)]
end Go.Av
namespace Go.Av
open Go
def fS:Option (List UInt8)→List File
 |none=>[]
 |some x=>[⟨bs [102],ofL x⟩]
def apW (y:List UInt8):Write:=⟨1,bs [102],bs [],ofL y⟩
def frB (p:ByteArray):List UInt8:=frL p.data.toList
def flat (ps:List ByteArray):List UInt8:=ps.flatMap frB
def oS:List ByteArray→Option (List UInt8)
 |[]=>none
 |p::ps=>some (flat (p::ps))
def wS (ps:List ByteArray):List Write:=ps.map fun p=>apW (frB p)
theorem nm_f:nmB (bs [102])=true:=by kernel_rfl
theorem zb9 (o:Option (List UInt8))(y:List UInt8):doneF (fS o) (apW y)=fS (some (o.getD []++y)):=by
 have h0:cmpS (bs [102]) (bs [102])=0:=zbn.2 rfl;have hd:delF (bs [102]) (fS o)=[]:=by
  cases o with
  |none=>rfl
  |some x=>
   unfold delF ltF gtF fS;rw[List.filter_cons,List.filter_cons,h0];rfl
 have ho:oldF (bs [102]) (fS o)=ofL (o.getD []):=by
  cases o with
  |none=>rfl
  |some x=>
   unfold oldF fS;rw[List.find?_cons,h0];rfl
 unfold doneF;show(if(1:Int)=1 then _ else _)=_;rw[if_pos rfl];show putF ⟨bs [102],oldF (bs [102]) (fS o)++ofL y⟩ (delF (bs [102]) (fS o))=_;rw[hd,ho,z7o];rfl
theorem oS_eq (ps:List ByteArray):(oS ps).getD []=flat ps:=by cases ps<;>rfl
theorem zd1 (a b:List ByteArray):flat (a++b)=flat a++flat b:=by unfold flat;rw[List.flatMap_append]
theorem zba (a:List ByteArray)(p:ByteArray):oS (a++[p])=some (flat a++frB p):=by
 have h: ∀l:List ByteArray,l≠[]→oS l=some (flat l):=fun l hl=>by
  cases l with
  |nil=>exact absurd rfl hl
  |cons x l=>rfl
 rw[h _ (by simp),zd1];unfold flat;simp
theorem z97: ∀(ps a:List ByteArray),(wS ps).foldl doneF (fS (oS a))=fS (oS (a++ps))
 |[],a=>by rw[List.append_nil];rfl
 |p::ps,a=>by
  show(wS ps).foldl doneF (doneF (fS (oS a)) (apW (frB p)))=_;rw[zb9,oS_eq,←zba,z97 ps (a++[p]),zzb];rfl
theorem z8k (o:Option (List UInt8)):(fS o).length≤1:=by cases o<;>simp[fS]
theorem fS_sz (o:Option (List UInt8)):szF (fS o)=(o.getD []).length:=by
 cases o with
 |none=>rfl
 |some x=>unfold szF fS;simp[z2m]
theorem fS_SF (o:Option (List UInt8)):SF (fS o):=by
 unfold SF;cases o<;>simp[fS]
theorem fS_nm (o:Option (List UInt8)):nmAll (fS o):=fun f hf=>by
 cases o with
 |none=>cases hf
 |some x=>
  rw[show fS (some x)=[⟨bs [102],ofL x⟩]from rfl,zzg]at hf;subst hf;exact nm_f
theorem zbl (y:List UInt8):z2w (apW y)=true:=by
 unfold z2w apW;rw[if_pos rfl];show(nmB (bs [102]) && strEq (bs []) (bs []))=true;rw[nm_f,z60];rfl
theorem z8l {p:ByteArray}(h:p.size≤65536):(frB p).length≤65550:=by
 unfold frB;rw[z7h,z2r];have:=(zd4 (n:=p.size) (by omega)).2
 omega
theorem wS_sz: ∀ps:List ByteArray,szW (wS ps)=(flat ps).length
 |[]=>rfl
 |p::ps=>by
  have:=wS_sz ps;have e:szW (wS (p::ps))=(ofL (frB p)).size+szW (wS ps):=by unfold szW wS;simp[apW]
  have e2:flat (p::ps)=frB p++flat ps:=by unfold flat;simp
  rw[e,e2,z2m,zz6,this]
theorem z75: ∀{ps:List ByteArray},(∀p∈ps,p.size≤65536)→(flat ps).length≤ps.length*65550
 |[],_=>zzc _
 |p::ps,h=>by
  have h1:=z75 (ps:=ps) fun q hq=>h q (zz8 _ hq);have h2:=z8l (h p (zz7 ..))
  have e2:flat (p::ps)=frB p++flat ps:=by unfold flat;simp
  rw[e2,zz6,List.length_cons];omega
def dS (a b:List ByteArray):Disk:=⟨fS (oS a),wS b,1099511627776,false,-1⟩
theorem zek (a b:List ByteArray):seenF (dS a b)=fS (oS (a++b)):=z97 b a
theorem zct {a b:List ByteArray}(hb:b.length≤40):chkP (dS a b):=by
 have hl:=z8k (oS a);refine⟨by show(fS (oS a)).length≤256;omega,by show(wS b).length≤4096;unfold wS;rw[List.length_map];omega,by show(0:Int)≤1099511627776;omega,fS_nm _,fS_SF _,fun w hw=>?_,fun k hk=>?_⟩
 ·have hw:w∈wS b:=hw;unfold wS at hw;obtain⟨p,_,rfl⟩:=List.mem_map.1 hw;exact zbl _
 ·show(((wS b).take k).foldl doneF (fS (oS a))).length≤256;have:(wS b).take k=wS (b.take k):=by unfold wS;rw[List.map_take]
  rw[this,z97];have:=z8k (oS (a++b.take k));omega
theorem dS_sm {a b:List ByteArray}(ha: ∀p∈a++b,p.size≤65536)(hl:(a++b).length≤41):smP 2687550 (dS a b):=by
 have h1:=z75 ha;have h2:=z8k (oS a)
 refine⟨by show(fS (oS a)).length≤4000000;omega,fun w hw=>?_,?_,by show(1099511627776:Int)<_;omega⟩
 ·have hw:w∈wS b:=hw;unfold wS at hw;obtain⟨p,hp,rfl⟩:=List.mem_map.1 hw;have:=z8l (ha p (List.mem_append_right _ hp))
  show(bs []).size+(ofL (frB p)).size≤_;rw[z2m];have:(bs []).size=0:=rfl
  omega
 ·show szF (fS (oS a))+szW (wS b)≤_;rw[fS_sz,oS_eq,wS_sz];rw[zd1,zz6]at h1;omega
theorem dS_do {fuel:Nat}{a b:List ByteArray}{p:ByteArray}(hf:20000000≤fuel)(ha: ∀q∈a++b++[p],q.size≤65536)(hl:(a++b).length≤39):z4r fuel (dS a b) [apW (frB p)]=some (dS a (b++[p]),0):=by
 have ha2: ∀q∈a++b,q.size≤65536:=fun q hq=>ha q (List.mem_append_left _ hq);have hp:=ha p (List.mem_append_right _ (zzg.2 rfl))
 have hfp:=z8l hp;have hbl:b.length≤39:=by rw[zz6]at hl;omega
 have hz:szW [apW (frB p)]=(frB p).length:=by
  show(ofL (frB p)).size+0=_;rw[z2m];omega
 rw[Do_ok hf (by omega) (dS_sm ha2 (by omega)) (zct (by omega)) (fun w hw=>by
  rw[zzg.1 hw];show(bs []).size+(ofL (frB p)).size≤_;rw[z2m];have:(bs []).size=0:=rfl
  omega),zhj]
 have hd:doneF (seenF (dS a b)) (apW (frB p))=fS (oS (a++(b++[p]))):=by
  rw[zek,zb9,oS_eq,←zba,zzb]
 have hsz:szF (fS (oS (a++(b++[p]))))≤2687550:=by
  rw[fS_sz,oS_eq];have:=z75 (ps:=a++(b++[p])) (by rw[←zzb];exact ha);have hl2:(a++(b++[p])).length≤40:=by
   rw[←zzb,zz6];simp only[List.length_cons,List.length_nil];omega
  omega
 have hlen:=z8k (oS (a++(b++[p])));unfold oneF;rw[hd,if_neg (show ¬(dS a b).down=true from by simp[dS]),zbl,if_neg (by simp),if_neg (fun h=>h.2 rfl)];rw[if_neg (by
  show ¬(4096≤(wS b).length∨(1099511627776:Int)<_∨_);unfold wS;rw[List.length_map];omega),if_neg (show ¬(dS a b).fuse=0 from by simp[dS])]
 have:wS b++[apW (frB p)]=wS (b++[p]):=by unfold wS;rw[List.map_append];rfl
 show some ((⟨fS (oS a),wS b++[apW (frB p)],1099511627776,false,burnD (-1)⟩:Disk),(0:Int))=_;rw[this];rfl
theorem zhh {fuel:Nat}{a b:List ByteArray}(hf:20000000≤fuel)(ha: ∀q∈a++b,q.size≤65536)(hl:(a++b).length≤40):z3v fuel (dS a b)=some (dS (a++b) [],0):=by
 have hbl:b.length≤40:=by rw[zz6]at hl;omega
 rw[zh9 hf (by omega) (dS_sm ha (by omega)) (zct hbl)];unfold syncF;rw[if_neg (by simp[dS]),zek];rfl
theorem zgn {fuel:Nat}{a b:List ByteArray}{keep tear:Int}(hf:20000000≤fuel)(ha: ∀q∈a++b,q.size≤65536)(hl:(a++b).length≤40):
 ∃(m:Nat) (o:Option (List UInt8)),a.length≤m∧m≤(a++b).length∧z4b fuel (dS a b) keep tear=some (⟨fS o,[],1099511627776,false,-1⟩,0)∧
  ((o=oS ((a++b).take m))∨(∃t,m<(a++b).length∧o=some (flat ((a++b).take m)++(frB ((a++b).getD m zzd)).take t)∧t<(frB ((a++b).getD m zzd)).length)):=by
 have hbl:b.length≤40:=by rw[zz6]at hl;omega
 have hc:=zct (a:=a) hbl;have hwl:(wS b).length=b.length:=by unfold wS;rw[List.length_map]
 rw[zgd hf (by omega) (dS_sm ha (by omega)) hc];have hk:=zd6 (dS a b) keep;have hk2:keepN (dS a b) keep≤b.length:=by
  have:(dS a b).waits.length=b.length:=hwl;omega
 generalize hkk:keepN (dS a b) keep=k at hk hk2;have hpre:((dS a b).waits.take k).foldl doneF (dS a b).files=fS (oS (a++b.take k)):=by
  show((wS b).take k).foldl doneF (fS (oS a))=_;have:(wS b).take k=wS (b.take k):=by unfold wS;rw[List.map_take]
  rw[this,z97]
 have htk: ∀j,j≤b.length→(a++b).take (a.length+j)=a++b.take j:=fun j _=>by rw[List.take_length_add_append]
 unfold crF;rw[hkk,hpre];by_cases hc2:k<(dS a b).waits.length∧0<tear∧((dS a b).waits.getD k zzd).kind=1
 ·rw[if_pos hc2];have hkb:k<b.length:=by
   have:(dS a b).waits.length=b.length:=hwl;omega
  have hw:(dS a b).waits.getD k zzd=apW (frB (b.getD k zzd)):=by
   show(wS b).getD k zzd=_;unfold wS;simp[List.getD_eq_getElem?_getD,List.getElem?_map,List.getElem?_eq_getElem hkb]
  have hg:(a++b).getD (a.length+k) zzd=b.getD k zzd:=by
   simp[List.getD_eq_getElem?_getD,List.getElem?_append_right]
  have htl:=zdw (w:=(dS a b).waits.getD k zzd) hc2.2.1;rw[hw]at htl;have htl:tearN (apW (frB (b.getD k zzd))) tear≤(frB (b.getD k zzd)).length:=by
   have:(apW (frB (b.getD k zzd))).data.size=(frB (b.getD k zzd)).length:=z2m _;omega
  rw[hw];generalize tearN (apW (frB (b.getD k zzd))) tear=t at htl;have ht:tornW (apW (frB (b.getD k zzd))) t=apW ((frB (b.getD k zzd)).take t):=by
   unfold tornW apW;rw[z5l];rfl
  rw[ht,zb9,oS_eq];by_cases h6:t<(frB (b.getD k zzd)).length
  ·refine⟨a.length+k,_,by omega,by rw[zz6];omega,rfl,.inr ⟨t,by rw[zz6];omega,?_,by rw[hg];exact h6⟩⟩;rw[hg,htk k (by omega)]
  ·have hlast:a.length+(k+1)≤(a++b).length:=by rw[zz6];omega
   refine⟨a.length+(k+1),some (flat (a++b.take k)++(frB (b.getD k zzd)).take t),by omega,hlast,rfl,.inl ?_⟩;rw[htk _ (by omega),z1u hkb,←zzb,zba,List.take_of_length_le (Nat.le_of_not_lt h6)]
 ·rw[if_neg hc2];exact⟨a.length+k,_,by omega,by rw[zz6];omega,rfl,.inl (by rw[htk k hk2])⟩
def rdO:Option (List UInt8)→ByteArray×Int
 |none=>(bs [],5)
 |some x=>(ofL x,0)
theorem zhl {fuel:Nat}{o:Option (List UInt8)}(hf:20000000≤fuel)(hz:(o.getD []).length≤4000000):z45 fuel ⟨fS o,[],1099511627776,false,-1⟩ (bs [102])=some (rdO o):=by
 have hl:=z8k o;have hc:chkP ⟨fS o,[],1099511627776,false,-1⟩:=zhc (by omega) (by omega) (fS_nm o) (fS_SF o)
 have hs:smP 4000000 ⟨fS o,[],1099511627776,false,-1⟩:=zik (by omega) (by rw[fS_sz];exact hz) (by omega);rw[zh8 hf (by omega) hs hc,if_neg (by simp)];show some (rdF (fS o) (bs [102]))=_;cases o with
 |none=>rfl
 |some x=>
  have h:=zd2 ⟨bs [102],ofL x⟩ [];have h:fnd (bs [102]) (fS (some x))=some ⟨bs [102],ofL x⟩:=h
  unfold rdF;rw[zhn,h];show some (oldF (bs [102]) (fS (some x)),0)=_;have e:oldF (bs [102]) (fS (some x))=((fnd (bs [102]) (fS (some x))).getD ⟨bs [],bs []⟩).data:=rfl
  rw[e,h];rfl
end Go.Av
namespace Go.Av
open Go
set_option maxRecDepth 100000
theorem zf4:z3l 100000000=some true:=by kernel_rfl
theorem bf_z {Q:Type}(x:ByteArray)(A B:Option Q):bf (!decide ((x,(0:Int)).2=0)) A B=B:=rfl
theorem zid {Q:Type}(j:Bool→Option Q)(A c:Bool):jn j (fun j2=>bf A (j2 true) (j2 c))=j (A||c):=by cases A<;>rfl
theorem zfu {p:ByteArray}:z9a p=ofL (frB p):=ze7 p
theorem zev {s:List UInt8}(h:s.length≤4000000):z22 (ofL s)=some (takeF (ofL s)):=zdv (by rw[z2m];unfold maxN;omega)
theorem zgv (p:ByteArray):ofL p.data.toList=p:=(zfy p).symm
theorem zc3 {put:List ByteArray}{sure:Int}{m:Nat}{cut:List UInt8}{t:List UInt8}{j:Nat}(hput: ∀p∈put,p.size≤65536)(hpl:put.length≤40)(hm:m≤put.length)(hs:sure≤m)
 (hcut:cut=(frL t).take j) (ht:t.length≤65536) (hj:j<(frL t).length) {kn:ByteArray×Int→Option Bool}:
 outK (loopN (S:=ByteArray×Int) (R:=Bool) (fun(a9:ByteArray×Int)=>bf (decide (a9.2≤(put.length:Int))) ((z22 a9.1).bind fun r11=>bf (!decide (r11.2.2=0)) (jn (fun(a12:Bool)=>some (.ret a12)) fun j13=>bf (decide (r11.2.2=3)) (j13 (decide (sure≤a9.2))) (j13 false)) (jn (fun(a14:Bool)=>bf a14 (some (.ret false)) (some (.next (r11.2.1,(zzi.wrap (a9.2+1)))))) fun j15=>bf (decide (a9.2=(put.length:Int))) (j15 true) (need ((0:Int)≤a9.2∧a9.2<(put.length:Int))<|need ((0+a9.2.toNat)<put.length)<|j15 (!strEq r11.1 (put.getD (0+a9.2.toNat) zzd))))) (some (.brk (a9.1,a9.2)))) 100000000 (ofL (flat (put.take m)++cut),0)) kn (fun x=>some x)=some true:=by
 have hcl:cut.length≤65550:=by
  rw[hcut,zzh];have:=z8l (p:=ofL t) (by rw[z2m];exact ht);unfold frB at this;rw[z9v]at this;omega
 have hfl: ∀n,(flat ((put.take m).drop n)++cut).length≤4000000:=fun n=>by
  have:=z75 (ps:=(put.take m).drop n) (fun p hp=>hput p (List.mem_of_mem_take (List.mem_of_mem_drop hp)));rw[List.length_drop,zzh]at this;rw[zz6];omega
 have key: ∀k n fuel,n+k=m→k<fuel→outK (loopN (S:=ByteArray×Int) (R:=Bool) (fun(a9:ByteArray×Int)=>bf (decide (a9.2≤(put.length:Int))) ((z22 a9.1).bind fun r11=>bf (!decide (r11.2.2=0)) (jn (fun(a12:Bool)=>some (.ret a12)) fun j13=>bf (decide (r11.2.2=3)) (j13 (decide (sure≤a9.2))) (j13 false)) (jn (fun(a14:Bool)=>bf a14 (some (.ret false)) (some (.next (r11.2.1,(zzi.wrap (a9.2+1)))))) fun j15=>bf (decide (a9.2=(put.length:Int))) (j15 true) (need ((0:Int)≤a9.2∧a9.2<(put.length:Int))<|need ((0+a9.2.toNat)<put.length)<|j15 (!strEq r11.1 (put.getD (0+a9.2.toNat) zzd))))) (some (.brk (a9.1,a9.2)))) fuel (ofL (flat ((put.take m).drop n)++cut),(n:Int))) kn (fun x=>some x)=some true:=by
  intro k;induction k with
  |zero=>
   intro n fuel hn hf;cases fuel with
   |zero=>omega
   |succ fuel=>
    have e:(put.take m).drop n=[]:=List.drop_eq_nil_of_le (by rw[zzh];omega);have e2:flat []++cut=(frL t).take j:=by rw[hcut];rfl
    have hl:=hfl n;rw[e,e2]at hl;rw[e,e2];rw[zfv (r:=true)]
    ·rfl
    ·dsimp only;rw[decide_eq_true (by omega),z1a,zev hl,zg8 ht hj,zz3];dsimp only;rw[jn_eq,decide_eq_false (by omega),Bool.not_false,z1a,decide_eq_true (by omega),z1a,decide_eq_true (by omega)]
  |succ k ih=>
   intro n fuel hn hf;cases fuel with
   |zero=>omega
   |succ fuel=>
    have hnm:n<(put.take m).length:=by rw[zzh];omega
    have hnp:n<put.length:=by omega
    have e:(put.take m).drop n=put.getD n zzd::(put.take m).drop (n+1):=by
     rw[List.drop_eq_getElem_cons hnm];simp[List.getD_eq_getElem?_getD,List.getElem?_eq_getElem hnp]
    have hps:=hput _ (z47 (l:=put) hnp);have e2:flat ((put.take m).drop n)++cut=frL (put.getD n zzd).data.toList++(flat ((put.take m).drop (n+1))++cut):=by
     rw[e];unfold flat;simp[frB]
    have hl:=hfl n;rw[e2]at hl;rw[e2,z7l (s':=(ofL (flat ((put.take m).drop (n+1))++cut),((n+1:Nat):Int)))]
    ·exact ih (n+1) fuel (by omega) (by omega)
    ·dsimp only;rw[decide_eq_true (by omega),z1a,zev hl,zea (by rw[z2r];exact hps),zz3];dsimp only;rw[decide_eq_true rfl,Bool.not_true,z0l,jn_eq,decide_eq_false (by omega),z0l,z08 (by omega),z08 (by omega),zz9,zze,zgv,z60];dsimp only;rw[Bool.not_true,z0l,z92 (by unfold maxN;omega)]
 have:=key m 0 100000000 (by omega) (by omega);rw[List.drop_zero]at this;exact this
theorem zb0 {l:List ByteArray}{sy:List Bool}{keep tear:Int}:z32 100000000 l sy keep tear=some true:=by
 unfold z32;have hf:20000000≤100000000:=by omega
 rw[zf4,zz3,Bool.not_true,z0l];have key:=z5n (S:=Int×Disk×(List ByteArray)) (R:=Empty) (B:=fun i2 (a3:Int×Disk×(List ByteArray))=>(z4f (l.getD i2 zzd)).bind fun r18=>jn (fun(a19:Bool)=>bf a19 (some (.brk (a3.1,a3.2.1,a3.2.2))) ((z4r 100000000 a3.2.1 ([(⟨1,(bs [102]),(bs []),r18.1⟩:Write)]:List Write)).bind fun r21=>need (a3.2.2.length+([(l.getD i2 zzd)]:List ByteArray).length≤274877906944)<|jn (fun(a23:Bool)=>bf a23 ((z3v 100000000 r21.1).bind fun r25=>some (.next (((a3.2.2++([(l.getD i2 zzd)]:List ByteArray)).length:Int),r25.1,(a3.2.2++([(l.getD i2 zzd)]:List ByteArray))))) (some (.next (a3.1,r21.1,(a3.2.2++([(l.getD i2 zzd)]:List ByteArray)))))) fun j24=>bf (decide (((i2:Nat):Int)<(sy.length:Int))) (need ((0:Int)≤((i2:Nat):Int)∧((i2:Nat):Int)<(sy.length:Int))<|j24 (sy.getD i2 zzd)) (j24 false))) fun j20=>bf (decide (((i2:Nat):Int)=40)) (j20 true) (j20 (!decide (r18.2=0)))) (n:=l.length) (s:=(0,(⟨([]:List File),([]:List Write),1099511627776,false,(-1)⟩:Disk),([]:List ByteArray)))
  (fun i q=> ∃a b,q=((a.length:Int),dS a b,a++b)∧(a++b).length=i∧i≤40∧ ∀p∈a++b,p.size≤65536) (fun q=> ∃a b,q=((a.length:Int),dS a b,a++b)∧(a++b).length≤40∧ ∀p∈a++b,p.size≤65536) (fun _=>True)
  ⟨[],[],rfl,rfl,Nat.zero_le _,fun p hp=>by cases hp⟩
  (fun i q hi ⟨a,b,h1,h2,h3,h4⟩=>by
   subst h1;rw[zgp,zz3,zid];dsimp only;by_cases hstop:(decide (((i:Nat):Int)=40)|| !decide ((z6c (l.getD i zzd)).2=0))=true
   ·right;left;rw[hstop];exact⟨_,rfl,a,b,rfl,by omega,h4⟩
   ·left;have hstop2:(decide (((i:Nat):Int)=40)|| !decide ((z6c (l.getD i zzd)).2=0))=false:=by simpa using hstop
    rw[hstop2,z0l];simp only[Bool.or_eq_false_iff,decide_eq_false_iff_not,Bool.not_eq_false']at hstop2;have hfr:(l.getD i zzd).size≤65536:=by
     have h:=hstop2.2;unfold z6c at h;by_cases hh:65536<(l.getD i zzd).size
     ·rw[if_pos hh]at h;simp at h
     ·omega
    generalize l.getD i zzd=p at hfr;have hfe:(z6c p).1=ofL (frB p):=by
     unfold z6c;rw[if_neg (by omega)];exact zfu
    have hall: ∀q∈a++b++[p],q.size≤65536:=fun q hq=>by
     rcases List.mem_append.1 hq with hq|hq
     ·exact h4 q hq
     ·rw[zzg.1 hq];exact hfr
    have hdo:=dS_do (fuel:=100000000) (a:=a) (b:=b) (p:=p) hf hall (by omega);unfold apW at hdo
    rw[hfe,hdo,zz3,z08 (by rw[h2];simp only[List.length_cons,List.length_nil];omega)];have hlen:(a++b++[p]).length=i+1:=by rw[zz6,h2];rfl
    have hj: ∀J:Bool→Option (Ctl (Int×Disk×List ByteArray) Empty),(∃bb,jn J (fun j24=>bf (decide (((i:Nat):Int)<(sy.length:Int))) (need ((0:Int)≤((i:Nat):Int)∧((i:Nat):Int)<(sy.length:Int))<|j24 (sy.getD i zzd)) (j24 false))=J bb):=fun J=>by
     rw[jn_eq];by_cases g:(i:Int)<(sy.length:Int)
     ·exact⟨_,by rw[decide_eq_true g,z1a,z08 (by omega)]⟩
     ·exact⟨_,by rw[decide_eq_false g,z0l]⟩
    obtain⟨bb,hbb⟩:=hj fun(a23:Bool)=>bf a23 ((z3v 100000000 (dS a (b++[p]))).bind fun r25=>some (.next (((a++b++([p]:List ByteArray)).length:Int),r25.1,(a++b++([p]:List ByteArray))))) (some (.next ((a.length:Int),dS a (b++[p]),(a++b++([p]:List ByteArray)))));rw[hbb];cases bb with
    |false=>exact⟨_,rfl,a,b++[p],by rw[zzb],by rw[←zzb];exact hlen,by omega,by rw[←zzb];exact hall⟩
    |true=>
     rw[z1a,zhh hf (by rw[←zzb];exact hall) (by rw[←zzb];omega),zz3];exact⟨_,rfl,a++(b++[p]),[],by rw[List.append_nil,zzb],by rw[List.append_nil,←zzb];exact hlen,by omega,by rw[List.append_nil,←zzb];exact hall⟩)
  (fun q ⟨a,b,h1,h2,h3,h4⟩=>⟨a,b,h1,by omega,h4⟩)
 rcases key with⟨q,k1,a,b,rfl,k2,k3⟩|⟨r,_⟩
 ·rw[k1,z3y];dsimp only;obtain⟨m,o,c1,c2,c3,c4⟩:=zgn (fuel:=100000000) (a:=a) (b:=b) (keep:=keep) (tear:=tear) hf k3 k2;rw[c3,zz3];have hbig:(o.getD []).length≤4000000:=by
   have hfl:=z75 (ps:=(a++b).take m) (fun p hp=>k3 p (List.mem_of_mem_take hp));rw[zzh]at hfl;rcases c4 with rfl|⟨t,c5,rfl,c6⟩
   ·rw[oS_eq];omega
   ·have:=z8l (k3 _ (z47 (l:=a++b) c5));simp only[Option.getD_some,zz6,zzh];omega
  rw[zhl hf hbig,zz3];rcases c4 with h5|⟨t,c5,h5,c6⟩
  ·cases hm:(a++b).take m with
   |nil=>
    rw[hm]at h5;subst h5;have ha:a=[]:=by
     cases a with
     |nil=>rfl
     |cons x a=>
      exfalso;have:=congrArg List.length hm
      rw[zzh]at this;simp only[List.length_nil,List.length_cons]at this c1 c2;omega
    subst ha;rfl
   |cons x r=>
    rw[hm]at h5;subst h5;have e:rdO (oS (x::r))=(ofL (flat (x::r)),0):=rfl
    rw[e];refine(bf_z (ofL (flat (x::r))) _ _).trans ?_;rw[←hm];have:=zc3 (put:=a++b) (sure:=(a.length:Int)) (m:=m) (cut:=[]) (t:=[]) (j:=0) k3 k2 c2 (by omega) rfl (Nat.zero_le _) (by rw[z7h];omega) (kn:=fun(a10:ByteArray×Int)=>some false)
    rw[List.append_nil]at this;exact this
  ·subst h5;refine(bf_z (ofL (flat ((a++b).take m)++(frB ((a++b).getD m zzd)).take t)) _ _).trans ?_;have hsz:=k3 _ (z47 (l:=a++b) c5)
   exact zc3 (put:=a++b) (sure:=(a.length:Int)) (m:=m) (t:=((a++b).getD m zzd).data.toList) (j:=t) k3 k2 c2 (by omega) rfl (by rw[z2r];exact hsz) c6 (kn:=fun(a10:ByteArray×Int)=>some false)
 ·exact r.elim
end Go.Av
