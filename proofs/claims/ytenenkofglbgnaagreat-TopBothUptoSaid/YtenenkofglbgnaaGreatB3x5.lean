import Derived.Test.YtenenkofglbgnaaGreatB3x4
import Derived.Sort.LotD3
import Derived.Sort.LotD4
import Derived.Sort.LotA
import Derived.Sort.LotB
import Derived.Sort.LotC
import Derived.Sort.AssemblyPlain
import Derived.Shelf.SlSortCmp.NoneTotal
import Derived.KernelRfl
set_option maxRecDepth 100000
set_option linter.unusedVariables false
set_option linter.unusedSimpArgs false
set_option linter.unusedSectionVars false
open Go.IntKind renaming i64→zzi, u64→zzu
open Inhabited renaming default→zzd
open Option renaming bind_some→zz0
open List renaming mem_append→zz2, mem_cons_self→zz3, mem_cons_of_mem→zz6, mem_singleton→zz8, replicate→zz9, length_drop→zzc, mem_map→zzf, mem_cons→zzg, mem_filter→zzh, mem_append_left→zzm
open Nat renaming zero_add→zzb, le_refl→zze
open Int renaming toNat_natCast→zzj
open Array renaming length_toList→zzl
/-
 Orders,as comparisons with three answers:without any program.
-/
namespace Go.Av
open Go
structure IsCmp {α:Type} (c:α→α→Int):Prop where
 vals: ∀a b,c a b= -1∨c a b=0∨c a b=1
 anti: ∀a b,c b a= - c a b
 tr: ∀a b d,c a b≤0→c b d≤0→c a d≤0
namespace IsCmp
variable {α β:Type} {c:α→α→Int}
theorem refl (h:IsCmp c)(a:α):c a a=0:=by have:=h.anti a a;omega
theorem lt_tr (h:IsCmp c){a b d:α}(h1:c a b<0)(h2:c b d≤0):c a d<0:=by
 have:=h.tr a b d (by omega) h2;rcases h.vals a d with g|g|g
 ·omega
 ·have g1:=h.anti a d;have g2:=h.tr b d a h2 (by omega)
  have g3:=h.anti a b;omega
 ·omega
theorem le_lt (h:IsCmp c){a b d:α}(h1:c a b≤0)(h2:c b d<0):c a d<0:=by
 have:=h.tr a b d h1 (by omega);rcases h.vals a d with g|g|g
 ·omega
 ·have g1:=h.anti a d;have g2:=h.tr d a b (by omega) h1
  have g3:=h.anti b d;omega
 ·omega
theorem eqL (h:IsCmp c){a b:α}(d:α)(h1:c a b=0):c a d=c b d:=by
 have h2:=h.anti a b;have t1:=h.tr a b d (by omega)
 have t2:=h.tr b a d (by omega);have t3:=h.tr d a b
 have t4:=h.tr d b a;have a1:=h.anti a d
 have a2:=h.anti b d;rcases h.vals a d with g|g|g<;>rcases h.vals b d with k|k|k<;>omega
theorem eqR (h:IsCmp c){a b:α}(d:α)(h1:c a b=0):c d a=c d b:=by
 have:=h.eqL d h1;have a1:=h.anti a d
 have a2:=h.anti b d;omega
theorem symm0 (h:IsCmp c){a b:α}(h1:c a b=0):c b a=0:=by have:=h.anti a b;omega
theorem on (h:IsCmp c)(f:β→α):IsCmp fun x y=>c (f x) (f y):=⟨fun a b=>h.vals _ _,fun a b=>h.anti _ _,fun a b d=>h.tr _ _ _⟩
end IsCmp
def cmpZ (a b:Int):Int:=if a<b then -1 else if b<a then 1 else 0
theorem z91:IsCmp cmpZ where
 vals a b:=by unfold cmpZ;split<;>(try split)<;>simp
 anti a b:=by unfold cmpZ;split<;>(try split)<;>(try split)<;>(try split)<;>omega
 tr a b d:=by unfold cmpZ;split<;>(try split)<;>(try split)<;>(try split)<;>(try split)<;>(try split)<;>omega
theorem zgd {a b:Int}:cmpZ a b=0↔a=b:=by unfold cmpZ;split<;>(try split)<;>omega
def thenC (u v:Int):Int:=if u=0 then v else u
theorem IsCmp.lex {α:Type}{c d:α→α→Int}(hc:IsCmp c)(hd:IsCmp d):IsCmp fun a b=>thenC (c a b) (d a b) where
 vals a b:=by
  unfold thenC;split
  ·exact hd.vals a b
  ·exact hc.vals a b
 anti a b:=by
  have h1:=hc.anti a b;have h2:=hd.anti a b
  unfold thenC;split<;>split<;>omega
 tr a b e h1 h2:=by
  unfold thenC at*;by_cases g1:c a b=0<;>by_cases g2:c b e=0
  ·have:=hc.eqL e g1;rw[if_pos g1]at h1;rw[if_pos g2]at h2;rw[if_pos (by omega)];exact hd.tr a b e h1 h2
  ·have:=hc.eqL e g1;rw[if_neg g2]at h2;rw[if_neg (by omega)];omega
  ·have:=hc.eqR a g2;rw[if_neg g1]at h1;rw[if_neg (by omega)];omega
  ·rw[if_neg g1]at h1;rw[if_neg g2]at h2;have:=hc.lt_tr (a:=a) (b:=b) (d:=e) (by omega) h2
   rw[if_neg (by omega)];omega
def cmpL {α:Type}(c:α→α→Int):List α→List α→Int
 |[],[]=>0
 |[],_::_=> -1
 |_::_,[]=>1
 |a::x,b::y=>thenC (c a b) (cmpL c x y)
theorem IsCmp.list {α:Type}{c:α→α→Int}(h:IsCmp c):IsCmp (cmpL c) where
 vals:=by
  intro a;induction a with
  |nil=>intro b;cases b<;>simp[cmpL]
  |cons x a ih=>
   intro b;cases b with
   |nil=>simp[cmpL]
   |cons y b=>
    simp only[cmpL,thenC];split
    ·exact ih b
    ·exact h.vals x y
 anti:=by
  intro a;induction a with
  |nil=>intro b;cases b<;>simp[cmpL]
  |cons x a ih=>
   intro b;cases b with
   |nil=>simp[cmpL]
   |cons y b=>
    have h1:=h.anti x y;have h2:=ih b
    simp only[cmpL,thenC];split<;>split<;>omega
 tr:=by
  intro a;induction a with
  |nil=>intro b d _ _;cases d<;>simp[cmpL]
  |cons x a ih=>
   intro b d h1 h2;cases b with
   |nil=>simp[cmpL]at h1
   |cons y b=>
    cases d with
    |nil=>simp[cmpL]at h2
    |cons z d=>
     simp only[cmpL]at*;unfold thenC at*;by_cases g1:c x y=0<;>by_cases g2:c y z=0
     ·have:=h.eqL z g1;rw[if_pos g1]at h1;rw[if_pos g2]at h2;rw[if_pos (by omega)];exact ih b d h1 h2
     ·have:=h.eqL z g1;rw[if_neg g2]at h2;rw[if_neg (by omega)];omega
     ·have:=h.eqR x g2;rw[if_neg g1]at h1;rw[if_neg (by omega)];omega
     ·rw[if_neg g1]at h1;rw[if_neg g2]at h2;have:=h.lt_tr (a:=x) (b:=y) (d:=z) (by omega) h2
      rw[if_neg (by omega)];omega
def cmpU8 (a b:UInt8):Int:=cmpZ (a.toNat:Int) (b.toNat:Int)
theorem zlg:IsCmp cmpU8:=z91.on fun a:UInt8=>(a.toNat:Int)
theorem zci: ∀x y:List UInt8,Op.bytesLess x y=decide (cmpL cmpU8 x y<0)
 |[],[]=>by simp[Op.bytesLess,cmpL]
 |[],_::_=>by simp[Op.bytesLess,cmpL]
 |_::_,[]=>by simp[Op.bytesLess,cmpL]
 |a::x,b::y=>by
  rw[Op.bytesLess,zci x y,cmpL];have e1:(a<b)↔(a.toNat:Int)<(b.toNat:Int):=by rw[UInt8.lt_iff_toNat_lt];omega
  have e2:(a=b)↔(a.toNat:Int)=(b.toNat:Int):=by rw[←UInt8.toNat_inj];omega
  unfold cmpU8 thenC cmpZ;rw[Bool.eq_iff_iff];simp only[Bool.or_eq_true,Bool.and_eq_true,decide_eq_true_eq,beq_iff_eq,e1,e2];by_cases h1:(a.toNat:Int)<(b.toNat:Int)
  ·simp[h1]
  ·by_cases h2:(b.toNat:Int)<(a.toNat:Int)
   ·simp[h1,h2];omega
   ·have:(a.toNat:Int)=(b.toNat:Int):=by omega
    simp[this]
theorem ze3: ∀x y:List UInt8,(x==y)=decide (cmpL cmpU8 x y=0)
 |[],[]=>by simp[cmpL]
 |[],_::_=>by simp[cmpL]
 |_::_,[]=>by simp[cmpL]
 |a::x,b::y=>by
  rw[List.cons_beq_cons,ze3 x y,cmpL];have e2:(a=b)↔(a.toNat:Int)=(b.toNat:Int):=by rw[←UInt8.toNat_inj];omega
  have e3:cmpU8 a b=0↔(a.toNat:Int)=(b.toNat:Int):=zgd;unfold thenC;rw[Bool.eq_iff_iff];simp only[Bool.and_eq_true,decide_eq_true_eq,beq_iff_eq,e2];by_cases h:cmpU8 a b=0
  ·rw[if_pos h];simp[e3.1 h]
  ·rw[if_neg h];constructor
   ·rintro⟨g,_⟩;exact absurd (e3.2 g) h
   ·intro g;exact absurd g h
def cmpS (a b:ByteArray):Int:=cmpL cmpU8 a.toList b.toList
theorem zdq:IsCmp cmpS:=zlg.list.on fun a:ByteArray=>a.toList
theorem zgq (a b:ByteArray):strLt a b=decide (cmpS a b<0):=zci _ _
theorem zgo (a b:ByteArray):strEq a b=decide (cmpS a b=0):=ze3 _ _
theorem zk4 (a:ByteArray):strEq a a=true:=by unfold strEq;simp
theorem zgy {a b:ByteArray}(h:a.toList=b.toList):a=b:=by
 rw[ByteArray.toList_eq,ByteArray.toList_eq]at h;cases a;cases b;simp at h;simp[h]
theorem zgp {a b:ByteArray}:strEq a b=true↔a=b:=by
 unfold strEq;rw[beq_iff_eq];exact⟨zgy,fun h=>by rw[h]⟩
theorem zkc {a b:ByteArray}:cmpS a b=0↔a=b:=by
 rw[←zgp,zgo,decide_eq_true_eq]
theorem z3z {α:Type}[Inhabited α]{l:List α}{i:Nat}(h:i<l.length):l.drop i=l.getD i zzd::l.drop (i+1):=by
 rw[List.drop_eq_getElem_cons h,List.getD_eq_getElem?_getD,List.getElem?_eq_getElem h];rfl
theorem zme {α:Type}[Inhabited α]{c:α→α→Int}{p0 p1:List α}{B:Nat→Unit→Option (Ctl Unit Int)}{kn:Unit→Option Int}
 (hB: ∀i,i<p0.length→B i ()=if p1.length≤i then some (.ret 1)else if c (p0.getD i zzd) (p1.getD i zzd)=0 then some (.next ())else some (.ret (c (p0.getD i zzd) (p1.getD i zzd))))
 (hk:kn ()=some (if p0.length<p1.length then -1 else 0)):outK (z0k B p0.length 0 ()) kn (fun x=>some x)=some (cmpL c p0 p1):=by
 have key: ∀k i,i+k=p0.length→i≤p1.length→outK (z0k B k i ()) kn (fun x=>some x)=some (cmpL c (p0.drop i) (p1.drop i)):=by
  intro k;induction k with
  |zero=>
   intro i hi hle;simp only[z0k,z4n,hk];rw[List.drop_eq_nil_of_le (by omega:p0.length≤i)];by_cases h:p0.length<p1.length
   ·rw[if_pos h,z3z (by omega:i<p1.length)];rfl
   ·rw[if_neg h,List.drop_eq_nil_of_le (by omega:p1.length≤i)];rfl
  |succ k ih=>
   intro i hi hle;simp only[z0k,hB i (by omega)];rw[z3z (by omega:i<p0.length)];by_cases h:p1.length≤i
   ·rw[if_pos h,List.drop_eq_nil_of_le (by omega:p1.length≤i)];rfl
   ·rw[if_neg h,z3z (by omega:i<p1.length)];simp only[cmpL,thenC];by_cases h0:c (p0.getD i zzd) (p1.getD i zzd)=0
    ·rw[if_pos h0,if_pos h0];exact ih (i+1) (by omega) (by omega)
    ·rw[if_neg h0,if_neg h0];rfl
 exact key p0.length 0 (by omega) (by omega)
theorem ze7 {S R:Type}{B:S→Option (Ctl S R)}(f:Nat→S){n fuel:Nat}{z:S}(hf:n<fuel)(hs: ∀i,i<n→B (f i)=some (.next (f (i+1)))) (he:B (f n)=some (.brk z)):loopN B fuel (f 0)=some (.done z):=by
 have key: ∀k i fuel,i+k=n→k<fuel→loopN B fuel (f i)=some (.done z):=by
  intro k;induction k with
  |zero=>
   intro i fuel hi hf;have:i=n:=by omega
   subst this;cases fuel with
   |zero=>omega
   |succ fuel=>simp only[loopN,he]
  |succ k ih=>
   intro i fuel hi hf;cases fuel with
   |zero=>omega
   |succ fuel=>simp only[loopN,hs i (by omega)];exact ih (i+1) fuel (by omega) (by omega)
 exact key n 0 fuel (by omega) hf
end Go.Av
/-
 Numbers and bits:without any program.
-/
namespace Go.Av
open Go
theorem z86 (n:Int):zzu.wrap n=n % 18446744073709551616:=by simp[IntKind.wrap,IntKind.bits,IntKind.signed]
theorem zce (n:Int):zzi.wrap n=if n % 18446744073709551616≥9223372036854775808 then n % 18446744073709551616-18446744073709551616 else n % 18446744073709551616:=by
 simp[IntKind.wrap,IntKind.bits,IntKind.signed]
def in64 (x:Int):Prop:= -9223372036854775808≤x∧x<9223372036854775808
def inU64 (x:Int):Prop:=0≤x∧x<18446744073709551616
theorem ziu {x:Int}(h:in64 x):zzi.wrap x=x:=by
 unfold in64 at h;rw[zce];split<;>omega
theorem shr63 {x:Int}(h:in64 x):shrOp .i64 x 63=if x<0 then -1 else 0:=by
 unfold in64 at h;unfold shrOp;have e:(2:Int)^(min (63:Int).toNat zzi.bits)=9223372036854775808:=by decide
 rw[e,Int.fdiv_eq_ediv_of_nonneg _ (by decide)];split<;>omega
theorem shr32 {x:Int}:shrOp .u64 x 32=x / 4294967296:=by
 unfold shrOp;have e:(2:Int)^(min (32:Int).toNat zzu.bits)=4294967296:=by decide
 rw[e,Int.fdiv_eq_ediv_of_nonneg _ (by decide)]
theorem zn0 (k:IntKind)(n m:Nat)(hm:m≤k.bits):shrOp k (n:Int) (m:Int)=((n / 2^m:Nat):Int):=by
 unfold shrOp;rw[zzj,Nat.min_eq_left hm,Int.fdiv_eq_ediv_of_nonneg _ (by exact Int.le_of_lt (Int.pow_pos (by decide)))]
 push_cast
 rfl
theorem ze9 {w:Nat}(n:Nat)(h:n<2^w):(BitVec.ofInt w (n:Int)).toNat=n:=by
 rw[BitVec.toNat_ofInt];have e:((n:Int) % ((2^w:Nat):Int))=(n:Int):=Int.emod_eq_of_lt (by omega) (by exact_mod_cast h);rw[e,zzj]
theorem uwrap {k:IntKind}(hs:k.signed=false){n:Nat}(h:n<2^k.bits):k.wrap (n:Int)=(n:Int):=by
 unfold IntKind.wrap;simp only[hs,Bool.false_and,Bool.false_eq_true,if_false];have:((2:Int)^k.bits)=((2^k.bits:Nat):Int):=by push_cast;rfl
 rw[this];exact Int.emod_eq_of_lt (by omega) (by exact_mod_cast h)
theorem zmc {k:IntKind}(hs:k.signed=false){x y:Nat}(hx:x<2^k.bits)(hy:y<2^k.bits):z36 .and k (x:Int) (y:Int)=((x &&& y:Nat):Int):=by
 unfold z36;simp only;rw[BitVec.toNat_and,ze9 x hx,ze9 y hy,uwrap hs (Nat.and_lt_two_pow x hy)]
theorem zbo {x:Int}(h:inU64 x):z36 .and .u64 x 4294967295=x % 4294967296:=by
 obtain⟨h0,h1⟩:=h;obtain⟨n,rfl⟩:=Int.eq_ofNat_of_zero_le h0;have:=zmc (k:= .u64) rfl (x:=n) (y:=4294967295) (by show n<2^64;omega) (by show 4294967295<2^64;decide)
 rw[show((4294967295:Nat):Int)=4294967295 from rfl]at this;rw[this,show(4294967295:Nat)=2^32-1 from rfl,Nat.and_two_pow_sub_one_eq_mod];omega
end Go.Av
namespace Go.Av
open Go
section
variable {α:Type} {c:α→α→Int}
def sm (c:α→α→Int):List (α×Int)→α→Int
 |[],_=>0
 |p::l,y=>(if c y p.1=0 then p.2 else 0)+sm c l y
theorem z5l (l l':List (α×Int))(y:α):sm c (l++l') y=sm c l y+sm c l' y:=by
 induction l with
 |nil=>simp[sm]
 |cons p l ih=>simp only[List.cons_append,sm,ih];omega
theorem zjd {l l':List (α×Int)}(h:l.Perm l')(y:α):sm c l y=sm c l' y:=by
 induction h with
 |nil=>rfl
 |cons p _ ih=>simp only[sm,ih]
 |swap p q l=>simp only[sm];omega
 |trans _ _ h1 h2=>exact h1.trans h2
theorem z3m (hC:IsCmp c){y z:α}(h:c y z=0): ∀l:List (α×Int),sm c l y=sm c l z
 |[]=>rfl
 |p::l=>by simp only[sm,z3m hC h l,hC.eqL p.1 h]
theorem z8b {y:α}: ∀{l:List (α×Int)},(∀p∈l,c y p.1≠0)→sm c l y=0
 |[],_=>rfl
 |p::l,h=>by simp only[sm,if_neg (h p (zz3 ..)),z8b fun q hq=>h q (zz6 _ hq)];omega
theorem zbg {y:α}{l:List (α×Int)}(h:sm c l y≠0): ∃p∈l,c y p.1=0:=by
 apply Classical.byContradiction;intro hn;exact h (z8b fun p hp e=>hn ⟨p,hp,e⟩)
def negP (l:List (α×Int)):List (α×Int):=l.map fun p=>(p.1,-p.2)
theorem znm (l:List (α×Int))(y:α):sm c (negP l) y= - sm c l y:=by
 induction l with
 |nil=>rfl
 |cons p l ih=>
  unfold negP at*;simp only[List.map_cons,sm,ih];split<;>omega
structure SS (c:α→α→Int) (l S:List (α×Int)):Prop where
 strict:S.Pairwise fun a b=>c a.1 b.1<0
 sum: ∀p∈S,p.2=sm c l p.1
 mem: ∀p∈S,∃y∈l,y.1=p.1
 all: ∀y∈l,∃p∈S,c p.1 y.1=0
theorem zno:SS c [] []:=⟨List.Pairwise.nil,fun p h=>(by cases h),fun p h=>(by cases h),fun p h=>(by cases h)⟩
theorem zl5 (x y:α)(n:Int):sm c [(x,n)] y=if c y x=0 then n else 0:=by simp[sm]
theorem zl6 (hC:IsCmp c){l A B:List (α×Int)}{x:α}{n:Int}(h:SS c l (A++B))(hA: ∀p∈A,c p.1 x<0)(hB: ∀p∈B,c x p.1<0):SS c (l++[(x,n)]) (A++(x,n)::B):=by
 have hne: ∀p∈A++B,c p.1 x≠0:=fun p hp=>by
  rcases zz2.1 hp with hp|hp
  ·have:=hA p hp;omega
  ·have:=hB p hp;have:=hC.anti x p.1;omega
 have hs:=h.strict;rw[List.pairwise_append]at hs;refine⟨?_,?_,?_,?_⟩
 ·rw[List.pairwise_append];refine⟨hs.1,List.pairwise_cons.2 ⟨hB,hs.2.1⟩,fun a ha b hb=>?_⟩;rcases zzg.1 hb with rfl|hb
  ·exact hA a ha
  ·exact hs.2.2 a ha b hb
 ·intro p hp;rw[z5l,zl5];have hp':p=(x,n)∨p∈A++B:=by
   rcases zz2.1 hp with hp|hp
   ·exact .inr (zz2.2 (.inl hp))
   ·rcases zzg.1 hp with hp|hp
    ·exact .inl hp
    ·exact .inr (zz2.2 (.inr hp))
  rcases hp' with rfl|hp'
  ·simp only[hC.refl];rw[z8b fun q hq e=>?_]
   ·simp
   ·obtain⟨p,hp,e2⟩:=h.all q hq;exact hne p hp (by rw[hC.eqL x e2];exact hC.symm0 e)
  ·rw[if_neg (hne p hp'),←h.sum p hp'];omega
 ·intro p hp;rcases zz2.1 hp with hp|hp
  ·obtain⟨y,h1,h2⟩:=h.mem p (zz2.2 (.inl hp));exact⟨y,zz2.2 (.inl h1),h2⟩
  ·rcases zzg.1 hp with rfl|hp
   ·exact⟨(x,n),zz2.2 (.inr (zz8.2 rfl)),rfl⟩
   ·obtain⟨y,h1,h2⟩:=h.mem p (zz2.2 (.inr hp));exact⟨y,zz2.2 (.inl h1),h2⟩
 ·intro y hy;rcases zz2.1 hy with hy|hy
  ·obtain⟨p,h1,h2⟩:=h.all y hy;refine⟨p,?_,h2⟩;rcases zz2.1 h1 with h1|h1
   ·exact zz2.2 (.inl h1)
   ·exact zz2.2 (.inr (zz6 _ h1))
  ·rw[zz8.1 hy];exact⟨(x,n),zz2.2 (.inr (zz3 ..)),hC.refl x⟩
theorem znn (hC:IsCmp c){l A B:List (α×Int)}{x:α}{p:α×Int}{n:Int}(h:SS c l (A++p::B))(hp:c p.1 x=0):SS c (l++[(x,n)]) (A++(p.1,p.2+n)::B):=by
 have hs:=h.strict;rw[List.pairwise_append,List.pairwise_cons]at hs;have hx:=hC.symm0 hp
 have hA: ∀q∈A,c q.1 x≠0:=fun q hq e=>by
  have:=hs.2.2 q hq p (zz3 ..);rw[hC.eqR q.1 hp]at this;omega
 have hB: ∀q∈B,c q.1 x≠0:=fun q hq e=>by
  have:=hs.2.1.1 q hq;rw[hC.eqL q.1 hp,hC.symm0 e]at this;omega
 refine⟨?_,?_,?_,?_⟩
 ·rw[List.pairwise_append,List.pairwise_cons];refine⟨hs.1,⟨hs.2.1.1,hs.2.1.2⟩,fun a ha b hb=>?_⟩;rcases zzg.1 hb with rfl|hb
  ·exact hs.2.2 a ha p (zz3 ..)
  ·exact hs.2.2 a ha b (zz6 _ hb)
 ·intro q hq;rw[z5l,zl5];rcases zz2.1 hq with hq|hq
  ·rw[if_neg (hA q hq),h.sum q (zz2.2 (.inl hq))];omega
  ·rcases zzg.1 hq with rfl|hq
   ·simp only;rw[if_pos hp,h.sum p (zz2.2 (.inr (zz3 ..)))]
   ·rw[if_neg (hB q hq),h.sum q (zz2.2 (.inr (zz6 _ hq)))];omega
 ·intro q hq;have: ∃q'∈A++p::B,q'.1=q.1:=by
   rcases zz2.1 hq with hq|hq
   ·exact⟨q,zz2.2 (.inl hq),rfl⟩
   ·rcases zzg.1 hq with rfl|hq
    ·exact⟨p,zz2.2 (.inr (zz3 ..)),rfl⟩
    ·exact⟨q,zz2.2 (.inr (zz6 _ hq)),rfl⟩
  obtain⟨q',h1,h2⟩:=this;obtain⟨y,h3,h4⟩:=h.mem q' h1;exact⟨y,zz2.2 (.inl h3),h4.trans h2⟩
 ·intro y hy;rcases zz2.1 hy with hy|hy
  ·obtain⟨q,h1,h2⟩:=h.all y hy;rcases zz2.1 h1 with h1|h1
   ·exact⟨q,zz2.2 (.inl h1),h2⟩
   ·rcases zzg.1 h1 with rfl|h1
    ·exact⟨(q.1,q.2+n),zz2.2 (.inr (zz3 ..)),h2⟩
    ·exact⟨q,zz2.2 (.inr (zz6 _ h1)),h2⟩
  ·rw[zz8.1 hy];exact⟨(p.1,p.2+n),zz2.2 (.inr (zz3 ..)),hp⟩
def Fits (c:α→α→Int)(l:List (α×Int)):Prop:= ∀y,in64 (sm c l y)
theorem zje (hC:IsCmp c){l S:List (α×Int)}(h:SS c l S):Fits c l↔ ∀p∈S,in64 p.2:=by
 constructor
 ·intro hf p hp;rw[h.sum p hp];exact hf p.1
 ·intro hf y;by_cases e:sm c l y=0
  ·rw[e];unfold in64;omega
  ·obtain⟨q,h1,h2⟩:=zbg e;obtain⟨p,h3,h4⟩:=h.all q h1;have e2:c p.1 y=0:=by rw[hC.eqL y h4];exact hC.symm0 h2
   rw[←z3m hC e2,←h.sum p h3];exact hf p h3
structure Res (c:α→α→Int) (num:α→Int) (put:α→Int→α) (l:List (α×Int)) (R:List α):Prop where
 strict:R.Pairwise fun a b=>c a b<0
 sum: ∀r∈R,num r=sm c l r∧num r≠0
 mem: ∀r∈R,∃y∈l,r=put y.1 (num r)
 all: ∀y∈l,sm c l y.1≠0→ ∃r∈R,c r y.1=0
def Tot (c:α→α→Int)(num:α→Int)(put:α→Int→α)(l:List (α×Int))(R:List α)(e:Int):Prop:=(e=0∧Res c num put l R∧Fits c l)∨(e=10∧R=[]∧ ¬Fits c l)
def left0 (put:α→Int→α)(S:List (α×Int)):List α:=(S.filter fun p=> !decide (p.2=0)).map fun p=>put p.1 p.2
theorem znj (hC:IsCmp c){num:α→Int}{put:α→Int→α}(h1: ∀x n,num (put x n)=n)(h2: ∀x n y,c (put x n) y=c x y){l S:List (α×Int)}(h:SS c l S):Res c num put l (left0 put S):=by
 have h3: ∀x n y,c y (put x n)=c y x:=fun x n y=>by have:=hC.anti y (put x n);have:=hC.anti y x;have:=h2 x n y;omega
 unfold left0;refine⟨?_,?_,?_,?_⟩
 ·rw[List.pairwise_map];refine List.Pairwise.imp (fun{a b} hab=>?_) (h.strict.filter _);rw[h2,h3];exact hab
 ·intro r hr;obtain⟨p,hp,rfl⟩:=zzf.1 hr;obtain⟨hp,hz⟩:=zzh.1 hp;rw[h1];refine⟨?_,by simpa using hz⟩;rw[z3m hC (show c (put p.1 p.2) p.1=0 by rw[h2];exact hC.refl _)];exact h.sum p hp
 ·intro r hr;obtain⟨p,hp,rfl⟩:=zzf.1 hr;obtain⟨hp,hz⟩:=zzh.1 hp;obtain⟨y,g1,g2⟩:=h.mem p hp;exact⟨y,g1,by rw[h1,g2]⟩
 ·intro y hy hn;obtain⟨p,g1,g2⟩:=h.all y hy;refine⟨put p.1 p.2,zzf.2 ⟨p,zzh.2 ⟨g1,?_⟩,rfl⟩,by rw[h2];exact g2⟩;have:=h.sum p g1
  rw[z3m hC g2]at this;simp only[Bool.not_eq_eq_eq_not,Bool.not_true,decide_eq_false_iff_not];omega
theorem zfo (hC:IsCmp c): ∀{R R':List α},R.Pairwise (fun a b=>c a b<0)→R'.Pairwise (fun a b=>c a b<0)→(∀x,x∈R↔x∈R')→R=R'
 |[],[],_,_,_=>rfl
 |[],x::_,_,_,h=>by cases (h x).2 (zz3 ..)
 |x::_,[],_,_,h=>by cases (h x).1 (zz3 ..)
 |a::R,b::R',h1,h2,h=>by
  rw[List.pairwise_cons]at h1 h2;have hab:a=b:=by
   rcases zzg.1 ((h a).1 (zz3 ..))with e|e
   ·exact e
   ·rcases zzg.1 ((h b).2 (zz3 ..))with e2|e2
    ·exact e2.symm
    ·have:=h2.1 a e;have:=h1.1 b e2;have:=hC.anti a b;omega
  subst hab;have ne1:a∉R:=fun g=>by have:=h1.1 a g;rw[hC.refl]at this;omega
  have ne2:a∉R':=fun g=>by have:=h2.1 a g;rw[hC.refl]at this;omega
  rw[zfo hC h1.2 h2.2 fun x=>?_];constructor
  ·intro hx;rcases zzg.1 ((h x).1 (zz6 _ hx))with rfl|g
   ·exact absurd hx ne1
   ·exact g
  ·intro hx;rcases zzg.1 ((h x).2 (zz6 _ hx))with rfl|g
   ·exact absurd hx ne2
   ·exact g
theorem zk3 (hC:IsCmp c){num:α→Int}{put:α→Int→α}{l l':List (α×Int)}{R R':List α}(h:Res c num put l R)(h':Res c num put l' R')(hs: ∀y,sm c l y=sm c l' y)
 (hV: ∀r∈R,∀r'∈R',c r r'=0→num r=num r'→r=r'):R=R':=by
 refine zfo hC h.strict h'.strict fun x=>⟨fun hx=>?_,fun hx=>?_⟩
 ·obtain⟨e1,e2⟩:=h.sum x hx;rw[hs]at e1;obtain⟨y,hy,e3⟩:=zbg (c:=c) (l:=l') (y:=x) (by omega);obtain⟨r,hr,e4⟩:=h'.all y hy (by rw[←z3m hC e3];omega);have e5:c x r=0:=by rw[hC.eqL r e3];exact hC.symm0 e4
  rw[hV x hx r hr e5 (by rw[(h'.sum r hr).1,←z3m hC e5];exact e1)];exact hr
 ·obtain⟨e1,e2⟩:=h'.sum x hx;rw[←hs]at e1;obtain⟨y,hy,e3⟩:=zbg (c:=c) (l:=l) (y:=x) (by omega);obtain⟨r,hr,e4⟩:=h.all y hy (by rw[←z3m hC e3];omega);have e5:c r x=0:=by rw[hC.eqL x e4];exact hC.symm0 e3
  rw[←hV r hr x hx e5 (by rw[(h.sum r hr).1,z3m hC e5];omega)];exact hr
theorem zk6 (hC:IsCmp c){num:α→Int}{put:α→Int→α}{l l':List (α×Int)}{R R':List α}{e e':Int}(h:Tot c num put l R e)(h':Tot c num put l' R' e')(hs: ∀y,sm c l y=sm c l' y)
 (hV: ∀r∈R,∀r'∈R',c r r'=0→num r=num r'→r=r'):R=R'∧e=e':=by
 have hf:Fits c l↔Fits c l':=by unfold Fits;simp only[hs]
 rcases h with⟨rfl,h1,h2⟩|⟨rfl,rfl,h2⟩
 ·rcases h' with⟨rfl,g1,g2⟩|⟨rfl,rfl,g2⟩
  ·exact⟨zk3 hC h1 g1 hs hV,rfl⟩
  ·exact absurd (hf.1 h2) g2
 ·rcases h' with⟨rfl,g1,g2⟩|⟨rfl,rfl,g2⟩
  ·exact absurd (hf.2 g2) h2
  ·exact⟨rfl,rfl⟩
theorem znk (hC:IsCmp c){num:α→Int}{put:α→Int→α}{l:List (α×Int)}{R:List α}(h:Res c num put l R)(y:α):sm c (R.map fun r=>(r,num r)) y=sm c l y:=by
 by_cases e: ∃r∈R,c y r=0
 ·obtain⟨r,hr,e⟩:=e;rw[z3m hC e,z3m hC e,←(h.sum r hr).1];have hs:=h.strict
  clear h e;induction R with
  |nil=>cases hr
  |cons a R ih=>
   rw[List.pairwise_cons]at hs;simp only[List.map_cons,sm];rcases zzg.1 hr with rfl|hr
   ·rw[if_pos (hC.refl _),z8b fun p hp=>?_]
    ·omega
    ·obtain⟨q,hq,rfl⟩:=zzf.1 hp;have:=hs.1 q hq
     simp only;omega
   ·rw[if_neg (by have:=hs.1 r hr;have:=hC.anti r a;omega),ih hr hs.2];omega
 ·rw[z8b fun p hp=>?_]
  ·apply Classical.byContradiction;intro hn;obtain⟨q,h1,h2⟩:=zbg (c:=c) (l:=l) (y:=y) (fun h=>hn h.symm);obtain⟨r,h3,h4⟩:=h.all q h1 (by rw[←z3m hC h2];exact fun h=>hn h.symm);exact e ⟨r,h3,by rw[hC.eqL r h2];exact hC.symm0 h4⟩
  ·obtain⟨q,hq,rfl⟩:=zzf.1 hp;exact fun h=>e ⟨q,hq,h⟩
end
end Go.Av
/-
 Sums with weights of any size,and sums over two lists:without any program.
-/
namespace Go.Av
section
variable {α β γ:Type} {c:α→α→Int}
def wi (g:α→Int):List (α×Int)→Int
 |[]=>0
 |p::l=>p.2*g p.1+wi g l
theorem zgv (g:α→Int)(l l':List (α×Int)):wi g (l++l')=wi g l+wi g l':=by
 induction l with
 |nil=>simp[wi]
 |cons p l ih=>simp only[List.cons_append,wi,ih];omega
theorem zns (g:α→Int)(l:List (α×Int)):wi g (negP l)= - wi g l:=by
 induction l with
 |nil=>rfl
 |cons p l ih=>
  show-p.2*g p.1+wi g (negP l)= - (p.2*g p.1+wi g l);rw[ih,Int.neg_mul];omega
theorem zib {g h:α→Int}: ∀{l:List (α×Int)},(∀p∈l,g p.1=h p.1)→wi g l=wi h l
 |[],_=>rfl
 |p::l,e=>by
  simp only[wi];rw[e p (zz3 ..),zib fun q hq=>e q (zz6 _ hq)]
theorem znr (k:Int)(g:α→Int)(l:List (α×Int)):wi (fun x=>k*g x) l=k*wi g l:=by
 induction l with
 |nil=>simp[wi]
 |cons p l ih=>
  simp only[wi,ih,Int.mul_add];rw[←Int.mul_assoc,Int.mul_comm p.2 k,Int.mul_assoc]
theorem wi0 (hC:IsCmp c){g:α→Int}: ∀(n:Nat) (l:List (α×Int)),l.length≤n→(∀p∈l,∀q∈l,c p.1 q.1=0→g p.1=g q.1)→(∀y,sm c l y=0)→wi g l=0
 |0,[],_,_,_=>rfl
 |0,p::l,h,_,_=>by simp at h
 |n+1,[],_,_,_=>rfl
 |n+1,p::l,h,hg,hs=>by
  have key: ∀L:List (α×Int),(∀q∈L,q∈p::l)→wi g L=sm c L p.1*g p.1+wi g (L.filter fun q=> !decide (c p.1 q.1=0))∧ ∀y,sm c (L.filter fun q=> !decide (c p.1 q.1=0)) y=if c p.1 y=0 then 0 else sm c L y:=by
   intro L;induction L with
   |nil=>exact fun _=>⟨by simp[wi,sm],fun y=>by simp[sm]⟩
   |cons q L ih=>
    intro hL;obtain⟨i1,i2⟩:=ih fun x hx=>hL x (zz6 _ hx);by_cases e:c p.1 q.1=0
    ·rw[List.filter_cons_of_neg (by simp[e])];refine⟨?_,fun y=>?_⟩
     ·simp only[wi,sm,i1,if_pos e];rw[←hg p (zz3 ..) q (hL q (zz3 ..)) e,Int.add_mul];omega
     ·rw[i2];by_cases e2:c p.1 y=0
      ·rw[if_pos e2,if_pos e2]
      ·rw[if_neg e2,if_neg e2];simp only[sm];rw[if_neg]
       ·omega
       ·intro e3;exact e2 (by rw[hC.eqL y e];exact hC.symm0 e3)
    ·rw[List.filter_cons_of_pos (by simp[e])];refine⟨?_,fun y=>?_⟩
     ·simp only[wi,sm,i1,if_neg e,Int.zero_add];omega
     ·simp only[sm,i2];by_cases e2:c p.1 y=0
      ·rw[if_pos e2,if_pos e2,if_neg]
       ·rfl
       ·intro e3;exact e (by rw[hC.eqL _ e2];exact e3)
      ·rw[if_neg e2,if_neg e2]
  obtain⟨k1,k2⟩:=key (p::l) fun q hq=>hq;rw[k1,hs];have hl:((p::l).filter fun q=> !decide (c p.1 q.1=0)).length≤n:=by
   rw[List.filter_cons_of_neg (by simp[hC.refl])];have:=List.length_filter_le (fun q:α×Int=> !decide (c p.1 q.1=0)) l;simp only[List.length_cons]at h;omega
  rw[Int.zero_mul,Int.zero_add,wi0 hC n _ hl (fun x hx y hy=>hg x (zzh.1 hx).1 y (zzh.1 hy).1) fun y=>by rw[k2,hs];simp]
theorem znp (hC:IsCmp c){g:α→Int}{l l':List (α×Int)}(hg: ∀p∈l++l',∀q∈l++l',c p.1 q.1=0→g p.1=g q.1)(h: ∀y,sm c l y=sm c l' y):wi g l=wi g l':=by
 have hm: ∀p∈l++negP l',∃q∈l++l',q.1=p.1:=fun p hp=>by
  rcases zz2.1 hp with g|g
  ·exact⟨p,zzm _ g,rfl⟩
  ·obtain⟨q,hq,rfl⟩:=zzf.1 g;exact⟨q,List.mem_append_right _ hq,rfl⟩
 have:=wi0 hC (g:=g) _ (l++negP l') (zze _) (fun p hp q hq e=>by
  obtain⟨p',h1,e1⟩:=hm p hp;obtain⟨q',h2,e2⟩:=hm q hq;rw[←e1,←e2]at e ⊢;exact hg p' h1 q' h2 e) fun y=>by rw[z5l,znm,h];omega
 rw[zgv,zns]at this;omega
theorem sm_wi (l:List (α×Int))(y:α):sm c l y=wi (fun x=>if c y x=0 then 1 else 0) l:=by
 induction l with
 |nil=>rfl
 |cons p l ih=>
  simp only[sm,wi,ih];split<;>simp
def pairL (f:α→β→γ)(ok:α→β→Bool)(a:List (α×Int))(b:List (β×Int)):List (γ×Int):=
 a.flatMap fun u=>(b.filter fun v=>ok u.1 v.1).map fun v=>(f u.1 v.1,u.2*v.2)
theorem znq {f:α→γ}{k:Int}{h:γ→Int}(l:List (α×Int)):wi h (l.map fun v=>(f v.1,k*v.2))=k*wi (fun v=>h (f v)) l:=by
 induction l with
 |nil=>simp[wi]
 |cons p l ih=>simp only[List.map_cons,wi,ih,Int.mul_add,Int.mul_assoc]
theorem zlb {ok:α→Bool}{h:α→Int}(l:List (α×Int)):wi h (l.filter fun v=>ok v.1)=wi (fun v=>if ok v then h v else 0) l:=by
 induction l with
 |nil=>rfl
 |cons p l ih=>
  rw[List.filter_cons];by_cases e:ok p.1=true
  ·rw[if_pos e];simp only[wi,ih,if_pos e]
  ·rw[if_neg e];simp only[wi,ih,if_neg e,Int.mul_zero,Int.zero_add]
theorem zjl (f:α→β→γ)(ok:α→β→Bool)(h:γ→Int)(a:List (α×Int))(b:List (β×Int)):
 wi h (pairL f ok a b)=wi (fun u=>wi (fun v=>if ok u v then h (f u v)else 0) b) a:=by
 unfold pairL;induction a with
 |nil=>rfl
 |cons u a ih=>
  rw[List.flatMap_cons,zgv,ih];simp only[wi];rw[znq,zlb]
end
end Go.Av
namespace Go.Av
open Go
section
variable {α:Type} [Inhabited α]
def insG (cmp:α→α→Option Int)(fuel:Nat)(p1:Int)(p2:Int)(l0:List α):Option (List α):=
 outK (loopN (S:=Int×(List α)) (R:=Empty) (fun(a1:Int×(List α))=>bf (decide (a1.1<p2)) (outK (loopN (S:=Int×(List α)) (R:=Empty) (fun(a3:Int×(List α))=>jn (fun(a5:Bool)=>bf a5 (need ((0:Int)≤(zzi.wrap (a3.1-1))∧(zzi.wrap (a3.1-1))<(a3.2.length:Int))<|need ((0+(zzi.wrap (a3.1-1)).toNat)<a3.2.length)<|need ((0:Int)≤a3.1∧a3.1<(a3.2.length:Int))<|need ((0+a3.1.toNat)<a3.2.length)<|need ((0:Int)≤a3.1∧a3.1<(a3.2.length:Int))<|need ((0+a3.1.toNat)<a3.2.length)<|need ((0:Int)≤(zzi.wrap (a3.1-1))∧(zzi.wrap (a3.1-1))<(a3.2.length:Int))<|need ((0+(zzi.wrap (a3.1-1)).toNat)<(a3.2.set (0+a3.1.toNat) (a3.2.getD (0+(zzi.wrap (a3.1-1)).toNat) zzd)).length)<|some (.next ((zzi.wrap (a3.1-1)),((a3.2.set (0+a3.1.toNat) (a3.2.getD (0+(zzi.wrap (a3.1-1)).toNat) zzd)).set (0+(zzi.wrap (a3.1-1)).toNat) (a3.2.getD (0+a3.1.toNat) zzd))))) (some (.brk (a3.1,a3.2)))) fun j6=>bf (decide (p1<a3.1)) (need ((0:Int)≤a3.1∧a3.1<(a3.2.length:Int))<|need ((0+a3.1.toNat)<a3.2.length)<|need ((0:Int)≤(zzi.wrap (a3.1-1))∧(zzi.wrap (a3.1-1))<(a3.2.length:Int))<|need ((0+(zzi.wrap (a3.1-1)).toNat)<a3.2.length)<|(cmp (a3.2.getD (0+a3.1.toNat) zzd) (a3.2.getD (0+(zzi.wrap (a3.1-1)).toNat) zzd)).bind fun r20=>j6 (decide (r20<0))) (j6 false)) fuel (a1.1,a1.2)) (fun(a4:Int×(List α))=>some (.next ((zzi.wrap (a1.1+1)),a4.2))) (fun(x:Empty)=>x.elim)) (some (.brk (a1.1,a1.2)))) fuel ((zzi.wrap (p1+1)),l0)) (fun(a2:Int×(List α))=>some a2.2) (fun(x:Empty)=>x.elim)
def swapG (fuel:Nat)(p1:Int)(p2:Int)(p3:Int)(l0:List α):Option (List α):=
 outK (loopN (S:=Int×(List α)) (R:=Empty) (fun(a1:Int×(List α))=>bf (decide (a1.1<p3)) (need ((0:Int)≤(zzi.wrap (p2+a1.1))∧(zzi.wrap (p2+a1.1))<(a1.2.length:Int))<|need ((0+(zzi.wrap (p2+a1.1)).toNat)<a1.2.length)<|need ((0:Int)≤(zzi.wrap (p1+a1.1))∧(zzi.wrap (p1+a1.1))<(a1.2.length:Int))<|need ((0+(zzi.wrap (p1+a1.1)).toNat)<a1.2.length)<|need ((0:Int)≤(zzi.wrap (p1+a1.1))∧(zzi.wrap (p1+a1.1))<(a1.2.length:Int))<|need ((0+(zzi.wrap (p1+a1.1)).toNat)<a1.2.length)<|need ((0:Int)≤(zzi.wrap (p2+a1.1))∧(zzi.wrap (p2+a1.1))<(a1.2.length:Int))<|need ((0+(zzi.wrap (p2+a1.1)).toNat)<(a1.2.set (0+(zzi.wrap (p1+a1.1)).toNat) (a1.2.getD (0+(zzi.wrap (p2+a1.1)).toNat) zzd)).length)<|some (.next ((zzi.wrap (a1.1+1)),((a1.2.set (0+(zzi.wrap (p1+a1.1)).toNat) (a1.2.getD (0+(zzi.wrap (p2+a1.1)).toNat) zzd)).set (0+(zzi.wrap (p2+a1.1)).toNat) (a1.2.getD (0+(zzi.wrap (p1+a1.1)).toNat) zzd))))) (some (.brk (a1.1,a1.2)))) fuel (0,l0)) (fun(a2:Int×(List α))=>some a2.2) (fun(x:Empty)=>x.elim)
def rotG (fuel:Nat)(p1:Int)(p2:Int)(p3:Int)(l0:List α):Option (List α):=
 outK (loopN (S:=Int×Int×(List α)) (R:=Empty) (fun(a1:Int×Int×(List α))=>bf (!decide (a1.1=a1.2.1)) (bf (decide (a1.2.1<a1.1)) ((swapG fuel (zzi.wrap (p2-a1.1)) p2 a1.2.1 a1.2.2).bind fun r4=>need (r4.length=a1.2.2.length)<|some (.next ((zzi.wrap (a1.1-a1.2.1)),a1.2.1,r4))) ((swapG fuel (zzi.wrap (p2-a1.1)) (zzi.wrap ((zzi.wrap (p2+a1.2.1))-a1.1)) a1.1 a1.2.2).bind fun r6=>need (r6.length=a1.2.2.length)<|some (.next (a1.1,(zzi.wrap (a1.2.1-a1.1)),r6)))) (some (.brk (a1.1,a1.2.1,a1.2.2)))) fuel ((zzi.wrap (p2-p1)),(zzi.wrap (p3-p2)),l0)) (fun(a2:Int×Int×(List α))=>(swapG fuel (zzi.wrap (p2-a2.1)) p2 a2.1 a2.2.2).bind fun r3=>some r3) (fun(x:Empty)=>x.elim)
def symG (cmp:α→α→Option Int):Nat→Int→Int→Int→(List α)→Option (List α)
 |0,_,_,_,_=>none
 |fuel+1,p1,p2,p3,l0=>
 bf (decide ((zzi.wrap (p2-p1))=1)) (outK (loopN (S:=Int×Int) (R:=Empty) (fun(a1:Int×Int)=>bf (decide (a1.1<a1.2)) (need ((0:Int)≤(zzi.wrap (shrOp .u64 (zzu.wrap (zzi.wrap (a1.1+a1.2))) 1))∧(zzi.wrap (shrOp .u64 (zzu.wrap (zzi.wrap (a1.1+a1.2))) 1))<(l0.length:Int))<|need ((0+(zzi.wrap (shrOp .u64 (zzu.wrap (zzi.wrap (a1.1+a1.2))) 1)).toNat)<l0.length)<|need ((0:Int)≤p1∧p1<(l0.length:Int))<|need ((0+p1.toNat)<l0.length)<|(cmp (l0.getD (0+(zzi.wrap (shrOp .u64 (zzu.wrap (zzi.wrap (a1.1+a1.2))) 1)).toNat) zzd) (l0.getD (0+p1.toNat) zzd)).bind fun r17=>bf (decide (r17<0)) (some (.next ((zzi.wrap ((zzi.wrap (shrOp .u64 (zzu.wrap (zzi.wrap (a1.1+a1.2))) 1))+1)),a1.2))) (some (.next (a1.1,(zzi.wrap (shrOp .u64 (zzu.wrap (zzi.wrap (a1.1+a1.2))) 1)))))) (some (.brk (a1.1,a1.2)))) fuel (p2,p3)) (fun(a2:Int×Int)=>outK (loopN (S:=Int×(List α)) (R:=Empty) (fun(a3:Int×(List α))=>bf (decide (a3.1<(zzi.wrap (a2.1-1)))) (need ((0:Int)≤(zzi.wrap (a3.1+1))∧(zzi.wrap (a3.1+1))<(a3.2.length:Int))<|need ((0+(zzi.wrap (a3.1+1)).toNat)<a3.2.length)<|need ((0:Int)≤a3.1∧a3.1<(a3.2.length:Int))<|need ((0+a3.1.toNat)<a3.2.length)<|need ((0:Int)≤a3.1∧a3.1<(a3.2.length:Int))<|need ((0+a3.1.toNat)<a3.2.length)<|need ((0:Int)≤(zzi.wrap (a3.1+1))∧(zzi.wrap (a3.1+1))<(a3.2.length:Int))<|need ((0+(zzi.wrap (a3.1+1)).toNat)<(a3.2.set (0+a3.1.toNat) (a3.2.getD (0+(zzi.wrap (a3.1+1)).toNat) zzd)).length)<|some (.next ((zzi.wrap (a3.1+1)),((a3.2.set (0+a3.1.toNat) (a3.2.getD (0+(zzi.wrap (a3.1+1)).toNat) zzd)).set (0+(zzi.wrap (a3.1+1)).toNat) (a3.2.getD (0+a3.1.toNat) zzd))))) (some (.brk (a3.1,a3.2)))) fuel (p1,l0)) (fun(a4:Int×(List α))=>some a4.2) (fun(x:Empty)=>x.elim)) (fun(x:Empty)=>x.elim)) (bf (decide ((zzi.wrap (p3-p2))=1)) (outK (loopN (S:=Int×Int) (R:=Empty) (fun(a18:Int×Int)=>bf (decide (a18.1<a18.2)) (need ((0:Int)≤p2∧p2<(l0.length:Int))<|need ((0+p2.toNat)<l0.length)<|need ((0:Int)≤(zzi.wrap (shrOp .u64 (zzu.wrap (zzi.wrap (a18.1+a18.2))) 1))∧(zzi.wrap (shrOp .u64 (zzu.wrap (zzi.wrap (a18.1+a18.2))) 1))<(l0.length:Int))<|need ((0+(zzi.wrap (shrOp .u64 (zzu.wrap (zzi.wrap (a18.1+a18.2))) 1)).toNat)<l0.length)<|(cmp (l0.getD (0+p2.toNat) zzd) (l0.getD (0+(zzi.wrap (shrOp .u64 (zzu.wrap (zzi.wrap (a18.1+a18.2))) 1)).toNat) zzd)).bind fun r34=>bf (!(decide (r34<0))) (some (.next ((zzi.wrap ((zzi.wrap (shrOp .u64 (zzu.wrap (zzi.wrap (a18.1+a18.2))) 1))+1)),a18.2))) (some (.next (a18.1,(zzi.wrap (shrOp .u64 (zzu.wrap (zzi.wrap (a18.1+a18.2))) 1)))))) (some (.brk (a18.1,a18.2)))) fuel (p1,p2)) (fun(a19:Int×Int)=>outK (loopN (S:=Int×(List α)) (R:=Empty) (fun(a20:Int×(List α))=>bf (decide (a19.1<a20.1)) (need ((0:Int)≤(zzi.wrap (a20.1-1))∧(zzi.wrap (a20.1-1))<(a20.2.length:Int))<|need ((0+(zzi.wrap (a20.1-1)).toNat)<a20.2.length)<|need ((0:Int)≤a20.1∧a20.1<(a20.2.length:Int))<|need ((0+a20.1.toNat)<a20.2.length)<|need ((0:Int)≤a20.1∧a20.1<(a20.2.length:Int))<|need ((0+a20.1.toNat)<a20.2.length)<|need ((0:Int)≤(zzi.wrap (a20.1-1))∧(zzi.wrap (a20.1-1))<(a20.2.length:Int))<|need ((0+(zzi.wrap (a20.1-1)).toNat)<(a20.2.set (0+a20.1.toNat) (a20.2.getD (0+(zzi.wrap (a20.1-1)).toNat) zzd)).length)<|some (.next ((zzi.wrap (a20.1-1)),((a20.2.set (0+a20.1.toNat) (a20.2.getD (0+(zzi.wrap (a20.1-1)).toNat) zzd)).set (0+(zzi.wrap (a20.1-1)).toNat) (a20.2.getD (0+a20.1.toNat) zzd))))) (some (.brk (a20.1,a20.2)))) fuel (p2,l0)) (fun(a21:Int×(List α))=>some a21.2) (fun(x:Empty)=>x.elim)) (fun(x:Empty)=>x.elim)) (jn (fun(a35:Int×Int×Int×Int)=>outK (loopN (S:=Int×Int) (R:=Empty) (fun(a37:Int×Int)=>bf (decide (a37.1<a37.2)) (need ((0:Int)≤(zzi.wrap ((zzi.wrap (a35.2.1-1))-(zzi.wrap (shrOp .u64 (zzu.wrap (zzi.wrap (a37.1+a37.2))) 1))))∧(zzi.wrap ((zzi.wrap (a35.2.1-1))-(zzi.wrap (shrOp .u64 (zzu.wrap (zzi.wrap (a37.1+a37.2))) 1))))<(l0.length:Int))<|need ((0+(zzi.wrap ((zzi.wrap (a35.2.1-1))-(zzi.wrap (shrOp .u64 (zzu.wrap (zzi.wrap (a37.1+a37.2))) 1)))).toNat)<l0.length)<|need ((0:Int)≤(zzi.wrap (shrOp .u64 (zzu.wrap (zzi.wrap (a37.1+a37.2))) 1))∧(zzi.wrap (shrOp .u64 (zzu.wrap (zzi.wrap (a37.1+a37.2))) 1))<(l0.length:Int))<|need ((0+(zzi.wrap (shrOp .u64 (zzu.wrap (zzi.wrap (a37.1+a37.2))) 1)).toNat)<l0.length)<|(cmp (l0.getD (0+(zzi.wrap ((zzi.wrap (a35.2.1-1))-(zzi.wrap (shrOp .u64 (zzu.wrap (zzi.wrap (a37.1+a37.2))) 1)))).toNat) zzd) (l0.getD (0+(zzi.wrap (shrOp .u64 (zzu.wrap (zzi.wrap (a37.1+a37.2))) 1)).toNat) zzd)).bind fun r58=>bf (!(decide (r58<0))) (some (.next ((zzi.wrap ((zzi.wrap (shrOp .u64 (zzu.wrap (zzi.wrap (a37.1+a37.2))) 1))+1)),a37.2))) (some (.next (a37.1,(zzi.wrap (shrOp .u64 (zzu.wrap (zzi.wrap (a37.1+a37.2))) 1)))))) (some (.brk (a37.1,a37.2)))) fuel (a35.2.2.1,a35.2.2.2)) (fun(a38:Int×Int)=>jn (fun(a39:Int×(List α))=>jn (fun(a41:List α)=>jn (fun(a43:Bool)=>bf a43 ((symG cmp fuel a35.1 a39.1 p3 a41).bind fun r45=>some r45) (some a41)) fun j44=>bf (decide (a35.1<a39.1)) (j44 (decide (a39.1<p3))) (j44 false)) fun j42=>jn (fun(a46:Bool)=>bf a46 ((symG cmp fuel p1 a38.1 a35.1 a39.2).bind fun r48=>need (r48.length=a39.2.length)<|j42 r48) (j42 a39.2)) fun j47=>bf (decide (p1<a38.1)) (j47 (decide (a38.1<a35.1))) (j47 false)) fun j40=>jn (fun(a50:Int×Bool)=>bf a50.2 ((rotG fuel a38.1 p2 a50.1 l0).bind fun r52=>need (r52.length=l0.length)<|j40 (a50.1,r52)) (j40 (a50.1,l0))) fun j51=>bf (decide (a38.1<p2)) (j51 ((zzi.wrap (a35.2.1-a38.1)),(decide (p2<(zzi.wrap (a35.2.1-a38.1)))))) (j51 ((zzi.wrap (a35.2.1-a38.1)),false))) (fun(x:Empty)=>x.elim)) fun j36=>bf (decide ((zzi.wrap (shrOp .u64 (zzu.wrap (zzi.wrap (p1+p3))) 1))<p2)) (j36 ((zzi.wrap (shrOp .u64 (zzu.wrap (zzi.wrap (p1+p3))) 1)),(zzi.wrap ((zzi.wrap (shrOp .u64 (zzu.wrap (zzi.wrap (p1+p3))) 1))+p2)),(zzi.wrap ((zzi.wrap ((zzi.wrap (shrOp .u64 (zzu.wrap (zzi.wrap (p1+p3))) 1))+p2))-p3)),(zzi.wrap (shrOp .u64 (zzu.wrap (zzi.wrap (p1+p3))) 1)))) (j36 ((zzi.wrap (shrOp .u64 (zzu.wrap (zzi.wrap (p1+p3))) 1)),(zzi.wrap ((zzi.wrap (shrOp .u64 (zzu.wrap (zzi.wrap (p1+p3))) 1))+p2)),p1,p2))))
def stabG (cmp:α→α→Option Int)(fuel:Nat)(p1:Int)(l0:List α):Option (List α):=
 outK (loopN (S:=Int×Int×(List α)) (R:=Empty) (fun(a1:Int×Int×(List α))=>bf (decide (a1.2.1≤p1)) ((insG cmp fuel a1.1 a1.2.1 a1.2.2).bind fun r15=>need (r15.length=a1.2.2.length)<|some (.next (a1.2.1,(zzi.wrap (a1.2.1+20)),r15))) (some (.brk (a1.1,a1.2.1,a1.2.2)))) fuel (0,20,l0)) (fun(a2:Int×Int×(List α))=>(insG cmp fuel a2.1 p1 a2.2.2).bind fun r3=>need (r3.length=a2.2.2.length)<|outK (loopN (S:=Int×(List α)) (R:=Empty) (fun(a5:Int×(List α))=>bf (decide (a5.1<p1)) (outK (loopN (S:=Int×Int×(List α)) (R:=Empty) (fun(a7:Int×Int×(List α))=>bf (decide (a7.2.1≤p1)) ((symG cmp fuel a7.1 (zzi.wrap (a7.1+a5.1)) a7.2.1 a7.2.2).bind fun r13=>need (r13.length=a7.2.2.length)<|some (.next (a7.2.1,(zzi.wrap (a7.2.1+(zzi.wrap ((2:Int)*a5.1)))),r13))) (some (.brk (a7.1,a7.2.1,a7.2.2)))) fuel (0,(zzi.wrap ((2:Int)*a5.1)),a5.2)) (fun(a8:Int×Int×(List α))=>jn (fun(a9:List α)=>some (.next ((zzi.wrap (a5.1*2)),a9))) fun j10=>bf (decide ((zzi.wrap (a8.1+a5.1))<p1)) ((symG cmp fuel a8.1 (zzi.wrap (a8.1+a5.1)) p1 a8.2.2).bind fun r11=>need (r11.length=a8.2.2.length)<|j10 r11) (j10 a8.2.2)) (fun(x:Empty)=>x.elim)) (some (.brk (a5.1,a5.2)))) fuel (20,r3)) (fun(a6:Int×(List α))=>some a6.2) (fun(x:Empty)=>x.elim)) (fun(x:Empty)=>x.elim)
end
end Go.Av
namespace Go.Av
open Go
section
variable {α:Type} [Inhabited α]
theorem z7i (d:Array α)(j:Nat):d.toList.getD j zzd=d[j]! :=by
 rw[List.getD_eq_getElem?_getD,Array.getElem?_toList,getElem!_def];cases d[j]?<;>rfl
theorem zdp (d:Array α)(i j:Nat):(d.toList.set i d[j]!).set j d[i]! =(Sort.swp d i j).toList:=by
 unfold Sort.swp;rw[Array.toList_setIfInBounds,Array.toList_setIfInBounds]
theorem zbj (d:Array α)(i j:Nat):(Sort.swp d i j).size=d.size:=by unfold Sort.swp;simp
theorem wsub1 {j:Nat}(h1:1≤j)(h:j<4611686018427387904):zzi.wrap ((j:Int)-1)=((j-1:Nat):Int):=by
 rw[z2x (by omega) (by omega)];omega
theorem wadd1 {j:Nat}(h:j<4611686018427387904):zzi.wrap ((j:Int)+1)=((j+1:Nat):Int):=by
 rw[z2x (by omega) (by omega)];omega
theorem wsub {i j:Nat}(h1:j≤i)(h:i<4611686018427387904):zzi.wrap ((i:Int)-(j:Int))=((i-j:Nat):Int):=by
 rw[z2x (by omega) (by omega)];omega
theorem wadd {i j:Nat}(h:i+j<4611686018427387904):zzi.wrap ((i:Int)+(j:Int))=((i+j:Nat):Int):=by
 rw[z2x (by omega) (by omega)];omega
theorem wtwo {i:Nat}(h:2*i<4611686018427387904):zzi.wrap ((2:Int)*(i:Int))=((2*i:Nat):Int):=by
 rw[z2x (by omega) (by omega)];omega
theorem intle {i j:Nat}:((i:Int)≤(j:Int))=(i≤j):=propext (by omega)
theorem intlt {i j:Nat}:((i:Int)<(j:Int))=(i<j):=propext (by omega)
theorem z4c {S R:Type}{B:S→Option (Ctl S R)}{fuel:Nat}{s s':S}(h:B s=some (.next s')):loopN B (fuel+1) s=loopN B fuel s':=by rw[loopN,h]
theorem z4m {S R:Type}{B:S→Option (Ctl S R)}{fuel:Nat}{s s':S}(h:B s=some (.brk s')):loopN B (fuel+1) s=some (.done s'):=by rw[loopN,h]
theorem zkp {S R:Type}{B:S→Option (Ctl S R)}{fuel:Nat}{s:S}{r:R}(h:B s=some (.ret r)):loopN B (fuel+1) s=some (.ret r):=by rw[loopN,h]
theorem zbd {X Y R Q:Type}{o:Option (Out (X×Y) R)}{kn:X×Y→Option Q}{kr:R→Option Q}{r:Y}{q:Option Q}(h: ∃x:X,o=some (.done (x,r)))(hk: ∀x,kn (x,r)=q):outK o kn kr=q:=by
 obtain⟨x,h⟩:=h;rw[h];exact hk x
end
end Go.Av
namespace Go.Av
open Go
section
variable {α:Type} [Inhabited α]
theorem zi5 (d:Array α){i j:Nat}(hi:i<d.size)(hj:j<d.size)(k:Nat):(Sort.swp d i j)[k]! =if k=j then d[i]! else if k=i then d[j]! else d[k]! :=Sort.swp_get d hi hj k
def swpN (p q:Nat):Nat→Array α→Array α
 |0,d=>d
 |k+1,d=>Sort.swp (swpN p q k d) (p+k) (q+k)
theorem z61 (p q:Nat): ∀(n:Nat) (d:Array α),(swpN p q n d).size=d.size
 |0,d=>rfl
 |k+1,d=>by unfold swpN;rw[zbj,z61 p q k]
def srF (p q n:Nat)(d:Array α)(x:Nat):α:=if p≤x∧x<p+n then d[x-p+q]! else if q≤x∧x<q+n then d[x-q+p]! else d[x]!
theorem zcb {p q:Nat}{d:Array α}: ∀{n:Nat},(p+n≤q∨q+n≤p)→p+n≤d.size→q+n≤d.size→ ∀x,(swpN p q n d)[x]! =srF p q n d x
 |0,_,_,_,x=>by
  unfold swpN srF;rw[if_neg (by omega),if_neg (by omega)]
 |k+1,h,hp,hq,x=>by
  have ih:=zcb (p:=p) (q:=q) (d:=d) (n:=k) (by omega) (by omega) (by omega);unfold swpN;rw[zi5 _ (by rw[z61];omega) (by rw[z61];omega),ih,ih,ih];unfold srF;by_cases h1:x=q+k
  ·subst h1;rw[if_pos rfl,if_neg (by omega),if_neg (by omega),if_neg (by omega),if_pos (by omega)];congr 1;omega
  ·rw[if_neg h1];by_cases h2:x=p+k
   ·subst h2;rw[if_pos rfl,if_neg (by omega),if_neg (by omega),if_pos (by omega)];congr 1;omega
   ·rw[if_neg h2];by_cases h3:p≤x∧x<p+k
    ·rw[if_pos h3,if_pos (by omega)]
    ·rw[if_neg h3,if_neg (show ¬(p≤x∧x<p+(k+1))by omega)];by_cases h4:q≤x∧x<q+k
     ·rw[if_pos h4,if_pos (by omega)]
     ·rw[if_neg h4,if_neg (by omega)]
theorem zas {p q a b:Nat}{d:Array α}(hb:b≤d.size): ∀{n:Nat},a≤p→a≤q→p+n≤b→q+n≤b→Sort.PermIn a b d (swpN p q n d)
 |0,_,_,_,_=>Sort.permIn_refl d a b
 |k+1,h1,h2,h3,h4=>by
  unfold swpN;exact Sort.permIn_trans _ _ _ a b (zas hb h1 h2 (by omega) (by omega)) (Sort.swp_permIn _ a b _ _ (by omega) (by omega) (by omega) (by omega) (by rw[z61];exact hb))
theorem zla {R:Type}{B:Int×List α→Option (Ctl (Int×List α) R)}{p q n fuel:Nat}{d:Array α}(hf:n<fuel)
 (hB: ∀(i:Nat) (d':Array α),d'.size=d.size→i≤n→B ((i:Int),d'.toList)=if i<n then some (.next (((i+1:Nat):Int),(Sort.swp d' (p+i) (q+i)).toList))else some (.brk ((i:Int),d'.toList))):
 ∃x:Int,loopN B fuel ((0:Int),d.toList)=some (.done (x,(swpN p q n d).toList)):=by
 have key: ∀k i fuel,i+k=n→k<fuel→ ∃x:Int,loopN B fuel ((i:Int),(swpN p q i d).toList)=some (.done (x,(swpN p q n d).toList)):=by
  intro k;induction k with
  |zero=>
   intro i fuel hi hf;cases fuel with
   |zero=>omega
   |succ fuel=>
    have h:=hB i (swpN p q i d) (z61 ..) (by omega);rw[if_neg (by omega)]at h;rw[z4m h,show i=n by omega];exact⟨_,rfl⟩
  |succ k ih=>
   intro i fuel hi hf;cases fuel with
   |zero=>omega
   |succ fuel=>
    have h:=hB i (swpN p q i d) (z61 ..) (by omega);rw[if_pos (by omega)]at h;rw[z4c h];exact ih (i+1) fuel (by omega) (by omega)
 exact key n 0 fuel (by omega) hf
def rotF (a m b:Nat)(d:Array α)(x:Nat):α:=if a≤x∧x<a+(b-m)then d[x-a+m]! else if a+(b-m)≤x∧x<b then d[x-(a+(b-m))+a]! else d[x]!
structure RotTo (a m b:Nat) (d d':Array α):Prop where
 perm:Sort.PermIn a b d d'
 get: ∀x,d'[x]! =rotF a m b d x
theorem zm1 {m i j:Nat}{d:Array α}(him:i≤m)(hij:j<i)(x:Nat)(d':Array α)(hd': ∀x,d'[x]! =srF (m-i) m j d x):rotF (m-i+j) m (m+j) d' x=rotF (m-i) m (m+j) d x:=by
 unfold rotF;rw[hd',hd',hd'];unfold srF
 repeat' split
 all_goals first|omega|(congr 1;done)|(congr 1;omega)
theorem zl4 {m i j:Nat}{d:Array α}(him:i≤m)(hij:i<j)(x:Nat)(d':Array α)(hd': ∀x,d'[x]! =srF (m-i) (m+j-i) i d x):rotF (m-i) m (m+j-i) d' x=rotF (m-i) m (m+j) d x:=by
 unfold rotF;rw[hd',hd',hd'];unfold srF
 repeat' split
 all_goals first|omega|(congr 1;done)|(congr 1;omega)
theorem zm0 {m i:Nat}{d:Array α}(him:i≤m)(x:Nat):srF (m-i) m i d x=rotF (m-i) m (m+i) d x:=by
 unfold rotF srF
 repeat' split
 all_goals first|omega|(congr 1;done)|(congr 1;omega)
theorem zm2 {R:Type}{B:Int×Int×List α→Option (Ctl (Int×Int×List α) R)}{m a b:Nat}{d0:Array α}(hb:b≤d0.size): ∀(n i j fuel:Nat) (d:Array α),i+j≤n→n<fuel→1≤i→1≤j→a≤m-i→i≤m→m+j≤b→d.size=d0.size→
 (∀(i j:Nat) (d':Array α),d'.size=d0.size→1≤i→1≤j→i≤m→m+j≤b→B ((i:Int),(j:Int),d'.toList)=if i=j then some (.brk ((i:Int),(j:Int),d'.toList))else if j<i then some (.next (((i-j:Nat):Int),(j:Int),(swpN (m-i) m j d').toList))else some (.next ((i:Int),((j-i:Nat):Int),(swpN (m-i) (m+j-i) i d').toList)))→
 ∃(k:Nat) (d':Array α),loopN B fuel ((i:Int),(j:Int),d.toList)=some (.done ((k:Int),(k:Int),d'.toList))∧1≤k∧k≤i∧k≤j∧d'.size=d.size∧Sort.PermIn a b d d'∧ ∀x,rotF (m-k) m (m+k) d' x=rotF (m-i) m (m+j) d x:=by
 intro n;induction n with
 |zero=>intro i j fuel d hn hf h1 h2;omega
 |succ n ih=>
  intro i j fuel d hn hf h1 h2 h3 h4 h5 h6 hB;cases fuel with
  |zero=>omega
  |succ fuel=>
   have h:=hB i j d h6 h1 h2 h4 h5;by_cases e:i=j
   ·rw[if_pos e]at h;subst e;exact⟨i,d,z4m h,h1,zze _,zze _,rfl,Sort.permIn_refl d a b,fun x=>rfl⟩
   ·rw[if_neg e]at h;by_cases hl:j<i
    ·rw[if_pos hl]at h;obtain⟨k,d',g1,g2,g3,g4,g5,g6,g7⟩:=ih (i-j) j fuel (swpN (m-i) m j d) (by omega) (by omega) (by omega) h2 (by omega) (by omega) h5 (by rw[z61];exact h6) hB;refine⟨k,d',by rw[z4c h,g1],g2,by omega,g4,by rw[g5,z61],Sort.permIn_trans _ _ _ a b (zas (by omega) (by omega) (by omega) (by omega) (by omega)) g6,fun x=>?_⟩;rw[g7];have:=zm1 (m:=m) (i:=i) (j:=j) (d:=d) h4 hl x (swpN (m-i) m j d) (zcb (by omega) (by omega) (by omega))
     rw[show m-(i-j)=m-i+j by omega];exact this
    ·rw[if_neg hl]at h;obtain⟨k,d',g1,g2,g3,g4,g5,g6,g7⟩:=ih i (j-i) fuel (swpN (m-i) (m+j-i) i d) (by omega) (by omega) h1 (by omega) h3 h4 (by omega) (by rw[z61];exact h6) hB;refine⟨k,d',by rw[z4c h,g1],g2,g3,by omega,by rw[g5,z61],Sort.permIn_trans _ _ _ a b (zas (by omega) (by omega) (by omega) (by omega) (by omega)) g6,fun x=>?_⟩;rw[g7];have:=zl4 (m:=m) (i:=i) (j:=j) (d:=d) h4 (by omega) x (swpN (m-i) (m+j-i) i d) (zcb (by omega) (by omega) (by omega))
     rw[show m+(j-i)=m+j-i by omega];exact this
end
end Go.Av
namespace Go.Av
open Go
section
variable {α:Type} [Inhabited α]
theorem zix {R:Type}{B:Int×Int→Option (Ctl (Int×Int) R)}{P:Nat→Bool}{i0 j0:Nat}: ∀(n i j fuel:Nat),j-i≤n→n<fuel→i0≤i→i≤j→j≤j0→(i=i0∨P (i-1)=true)→(j=j0∨P j=false)→
 (∀i j:Nat,i0≤i→i≤j→j≤j0→B ((i:Int),(j:Int))=if i<j then(if P ((i+j) / 2)=true then some (.next ((((i+j) / 2+1:Nat):Int),(j:Int)))else some (.next ((i:Int),(((i+j) / 2:Nat):Int))))else some (.brk ((i:Int),(j:Int))))→
 ∃r:Nat,loopN B fuel ((i:Int),(j:Int))=some (.done ((r:Int),(r:Int)))∧i0≤r∧r≤j0∧(r=i0∨P (r-1)=true)∧(r=j0∨P r=false):=by
 intro n;induction n with
 |zero=>
  intro i j fuel hn hf h1 h2 h3 h4 h5 hB;cases fuel with
  |zero=>omega
  |succ fuel=>
   have h:=hB i j h1 h2 h3;rw[if_neg (by omega)]at h;have:i=j:=by omega
   subst this;exact⟨i,z4m h,h1,h3,h4,h5⟩
 |succ n ih=>
  intro i j fuel hn hf h1 h2 h3 h4 h5 hB;cases fuel with
  |zero=>omega
  |succ fuel=>
   have h:=hB i j h1 h2 h3;by_cases hl:i<j
   ·rw[if_pos hl]at h;by_cases hp:P ((i+j) / 2)=true
    ·rw[if_pos hp]at h;rw[z4c h];exact ih _ j fuel (by omega) (by omega) (by omega) (by omega) h3 (.inr (by rw[Nat.add_sub_cancel];exact hp)) h5 hB
    ·rw[if_neg hp]at h;rw[z4c h];exact ih i _ fuel (by omega) (by omega) h1 (by omega) (by omega) h4 (.inr (by simpa using hp)) hB
   ·rw[if_neg hl]at h;have:i=j:=by omega
    subst this;exact⟨i,z4m h,h1,h3,h4,h5⟩
variable {lt:α→α→Bool}
theorem glue2 {a mid b:Nat}{d:Array α}(h1:Sort.SortedIn lt a mid d)(h2:Sort.SortedIn lt mid b d)(hx: ∀x y,a≤x→x<mid→mid≤y→y<b→lt d[y]! d[x]! =false):Sort.SortedIn lt a b d:=by
 intro i j hi hij hj;by_cases h3:j<mid
 ·exact h1 i j hi hij h3
 ·by_cases h4:mid≤i
  ·exact h2 i j h4 hij hj
  ·exact hx i j hi (by omega) (by omega) hj
theorem zdi (hS:Sort.SWO lt){a m b s e:Nat}{d d':Array α}(h1:Sort.SortedIn lt a m d)(h2:Sort.SortedIn lt m b d)(hs:a≤s∧s≤m)(he:m≤e∧e≤b)(hr: ∀x,d'[x]! =rotF s m e d x)
 (hA:s=a∨e=b∨lt d[e]! d[s-1]! =false) (hB:s=m∨e=m∨lt d[e-1]! d[s]! =true):
 (∀x y,a≤x→x<s+(e-m)→s+(e-m)≤y→y<b→lt d'[y]! d'[x]! =false)∧Sort.SortedIn lt a s d'∧Sort.SortedIn lt s (s+(e-m)) d'∧Sort.SortedIn lt (s+(e-m)) e d'∧Sort.SortedIn lt e b d':=by
 --where each one comes from
 have f1: ∀x,x<s→d'[x]! =d[x]! :=fun x hx=>by rw[hr];unfold rotF;rw[if_neg (by omega),if_neg (by omega)]
 have f2: ∀x,s≤x→x<s+(e-m)→d'[x]! =d[x-s+m]! :=fun x hx hy=>by rw[hr];unfold rotF;rw[if_pos (by omega)]
 have f3: ∀x,s+(e-m)≤x→x<e→d'[x]! =d[x-(s+(e-m))+s]! :=fun x hx hy=>by rw[hr];unfold rotF;rw[if_neg (by omega),if_pos (by omega)]
 have f4: ∀x,e≤x→d'[x]! =d[x]! :=fun x hx=>by rw[hr];unfold rotF;rw[if_neg (by omega),if_neg (by omega)]
 have le1: ∀x y,a≤x→x≤y→y<m→lt d[y]! d[x]! =false:=fun x y g1 g2 g3=>by
  by_cases g:x=y
  ·subst g;exact hS.irrefl _
  ·exact h1 x y g1 (by omega) g3
 have le2: ∀x y,m≤x→x≤y→y<b→lt d[y]! d[x]! =false:=fun x y g1 g2 g3=>by
  by_cases g:x=y
  ·subst g;exact hS.irrefl _
  ·exact h2 x y g1 (by omega) g3
 refine⟨?_,?_,?_,?_,?_⟩
 ·intro x y hx1 hx2 hy1 hy2;by_cases c1:x<s
  ·rw[f1 x c1];by_cases c2:y<e
   ·rw[f3 y hy1 c2];exact le1 _ _ hx1 (by omega) (by omega)
   ·rw[f4 y (by omega)];rcases hA with h|h|h
    ·omega
    ·omega
    ·exact hS.ntrans _ _ _ (hS.ntrans _ _ _ (le2 e y (by omega) (by omega) hy2) h) (le1 x (s-1) hx1 (by omega) (by omega))
  ·rw[f2 x (by omega) hx2];by_cases c2:y<e
   ·rw[f3 y hy1 c2];rcases hB with h|h|h
    ·omega
    ·omega
    ·exact hS.ntrans _ _ _ (hS.ntrans _ _ _ (le1 s _ hs.1 (by omega) (by omega)) (hS.asymm h)) (le2 (x-s+m) (e-1) (by omega) (by omega) (by omega))
   ·rw[f4 y (by omega)];exact le2 _ _ (by omega) (by omega) hy2
 ·intro i j hi hij hj;rw[f1 i (by omega),f1 j hj];exact h1 i j hi hij (by omega)
 ·intro i j hi hij hj;rw[f2 i hi (by omega),f2 j (by omega) hj];exact h2 _ _ (by omega) (by omega) (by omega)
 ·intro i j hi hij hj;rw[f3 i hi (by omega),f3 j (by omega) hj];exact h1 _ _ (by omega) (by omega) (by omega)
 ·intro i j hi hij hj;rw[f4 i hi,f4 j (by omega)];exact h2 i j (by omega) hij hj
structure MergeTo (lt:α→α→Bool) (a b:Nat) (d d':Array α):Prop where
 perm:Sort.PermIn a b d d'
 sorted:Sort.SortedIn lt a b d'
theorem zhl (hS:Sort.SWO lt){a mid b:Nat}{d d1 d2 d3:Array α}(hab:a≤mid∧mid≤b)(hb:b≤d.size)(hp:Sort.PermIn a b d d1)
 (hx: ∀x y,a≤x→x<mid→mid≤y→y<b→lt d1[y]! d1[x]! =false) (h2:MergeTo lt a mid d1 d2) (h3:MergeTo lt mid b d2 d3):MergeTo lt a b d d3:=by
 have s1:d1.size=d.size:=hp.1;have s2:d2.size=d1.size:=h2.perm.1
 have p2:Sort.PermIn a b d1 d2:=Sort.permIn_mono _ _ a mid a b (zze _) hab.2 (by omega) h2.perm;have p3:Sort.PermIn a b d2 d3:=Sort.permIn_mono _ _ mid b a b hab.1 (zze _) (by omega) h3.perm
 refine⟨Sort.permIn_trans _ _ _ a b hp (Sort.permIn_trans _ _ _ a b p2 p3),glue2 (mid:=mid) ?_ h3.sorted ?_⟩
 ·intro i j hi hij hj;rw[h3.perm.2.1 i (.inl (by omega)),h3.perm.2.1 j (.inl hj)];exact h2.sorted i j hi hij hj
 ·have c1: ∀x y,a≤x→x<mid→mid≤y→y<b→lt d2[y]! d2[x]! =false:=fun x y g1 g2 g3 g4=>by
   rw[h2.perm.2.1 y (.inr g3)];exact Sort.permIn_all d1 d2 a mid (fun z=>lt d1[y]! z=false) (by omega) h2.perm (fun i k1 k2=>hx i y k1 k2 g3 g4) x g1 g2
  intro x y g1 g2 g3 g4;rw[h3.perm.2.1 x (.inl g2)];exact Sort.permIn_all d2 d3 mid b (fun z=>lt z d2[x]! =false) (by omega) h3.perm (fun i k1 k2=>c1 x i g1 g2 k1 k2) y g3 g4
theorem z9u {a b:Nat}{d:Array α}(h:Sort.SortedIn lt a b d):MergeTo lt a b d d:=⟨Sort.permIn_refl d a b,h⟩
theorem z7f {a b:Nat}{d:Array α}(h:b≤a+1):Sort.SortedIn lt a b d:=fun i j h1 h2 h3=>by omega
end
end Go.Av
namespace Go.Av
open Go
section
variable {α:Type} [Inhabited α] {cmp:α→α→Option Int} {c:α→α→Int}
def ltC (c:α→α→Int)(x y:α):Bool:=decide (c x y<0)
theorem zkk {a fuel:Nat}{B:Int×List α→Option (Ctl (Int×List α) Empty)}{j:Nat}{d:Array α}(hj:j<d.size)(hf:j<fuel)
 (hB: ∀(j:Nat) (d':Array α),j<d'.size→d'.size=d.size→B ((j:Int),d'.toList)=if a<j∧ltC c d'[j]! d'[j-1]! =true then some (.next (((j-1:Nat):Int),(Sort.swp d' j (j-1)).toList))else some (.brk ((j:Int),d'.toList))):
 ∃x:Int,loopN B fuel ((j:Int),d.toList)=some (.done (x,(Sort.insInner (ltC c) a j d).toList)):=by
 induction j generalizing d fuel with
 |zero=>
  cases fuel with
  |zero=>omega
  |succ fuel=>
   refine⟨0,z4m (s':=(((0:Nat):Int),d.toList)) ?_⟩;rw[hB 0 d hj rfl,if_neg (by omega)]
 |succ j ih=>
  cases fuel with
  |zero=>omega
  |succ fuel=>
   have h:=hB (j+1) d hj rfl;rw[Nat.add_sub_cancel]at h;unfold Sort.insInner;by_cases hc:a<j+1∧ltC c d[j+1]! d[j]! =true
   ·rw[if_pos hc]at h;rw[z4c h,if_pos (by simp[hc.1,hc.2])];exact ih (by rw[zbj];omega) (by omega) (fun k d' h1 h2=>hB k d' h1 (by rw[h2,zbj]))
   ·rw[if_neg hc]at h;rw[z4m h,if_neg (by simpa using hc)];exact⟨_,rfl⟩
theorem zkl {a b fuel:Nat}{B:Int×List α→Option (Ctl (Int×List α) Empty)}{n i:Nat}{d:Array α}(hn:b-i=n)(hb:b≤d.size)(hf:b-i<fuel)
 (hB: ∀(i:Nat) (d':Array α),d'.size=d.size→B ((i:Int),d'.toList)=if i<b then some (.next (((i+1:Nat):Int),(Sort.insInner (ltC c) a i d').toList))else some (.brk ((i:Int),d'.toList)))
 (hs: ∀(i:Nat) (d':Array α),(Sort.insInner (ltC c) a i d').size=d'.size):
 ∃x:Int,loopN B fuel ((i:Int),d.toList)=some (.done (x,(Sort.insOuter (ltC c) a b i d).toList)):=by
 induction n generalizing i d fuel with
 |zero=>
  cases fuel with
  |zero=>omega
  |succ fuel=>
   have h:=hB i d rfl;rw[if_neg (by omega)]at h;rw[z4m h,Sort.insOuter,if_neg (by omega)];exact⟨_,rfl⟩
 |succ n ih=>
  cases fuel with
  |zero=>omega
  |succ fuel=>
   have h:=hB i d rfl;rw[if_pos (by omega)]at h;rw[z4c h,Sort.insOuter,if_pos (by omega)];exact ih (by omega) (by rw[hs];omega) (by omega) (fun k d' h1=>hB k d' (by rw[h1,hs]))
theorem zdc (a:Nat): ∀(j:Nat) (d:Array α),(Sort.insInner (ltC c) a j d).size=d.size
 |0,d=>rfl
 |j+1,d=>by
  unfold Sort.insInner;split
  ·rw[zdc a j,zbj]
  ·rfl
theorem zj3 (hc: ∀x y,cmp x y=some (c x y)){fuel a b:Nat}{d:Array α}(hb:b≤d.size)(hd:d.size<4611686018427387904)(ha:a<4611686018427387903)(hf:d.size<fuel):
 insG cmp fuel (a:Int) (b:Int) d.toList=some (Sort.insertionSort (ltC c) d a b).toList:=by
 unfold insG Sort.insertionSort;rw[wadd1 (by omega)];refine zbd (zkl (c:=c) (a:=a) (b:=b) (i:=a+1) (d:=d) rfl hb (by omega) ?_ (zdc a)) (fun x=>rfl);intro i d' hd';simp only[z0g,intlt];by_cases hi:i<b
 ·rw[if_pos hi,if_pos hi];refine zbd (zkk (c:=c) (a:=a) (j:=i) (d:=d') (by omega) (by omega) ?_) (fun x=>?_)
  ·intro j e hj he;simp only[jn_eq,z0g,intlt];by_cases h1:a<j
   ·simp(disch:=omega) only[h1,if_true,wsub1,z0a,zzj,zzb,zzl,List.length_set,hc,zz0,z7i,zdp,true_and];unfold ltC;by_cases h2:c e[j]! e[j-1]! <0
    ·simp[h2]
    ·simp[h2]
   ·rw[if_neg h1,if_neg (fun h=>h1 h.1)];rfl
  ·rw[wadd1 (by omega)]
 ·rw[if_neg hi,if_neg hi]
theorem zek {fuel p q n:Nat}{d:Array α}(hp:p+n≤d.size)(hq:q+n≤d.size)(hd:d.size<4611686018427387904)(hf:d.size<fuel):
 swapG fuel (p:Int) (q:Int) (n:Int) d.toList=some (swpN p q n d).toList:=by
 unfold swapG;refine zbd (zla (p:=p) (q:=q) (n:=n) (d:=d) (by omega) ?_) (fun x=>rfl);intro i d' hd' hi;simp only[z0g,intlt];by_cases h:i<n
 ·rw[if_pos h,if_pos h];simp(disch:=omega) only[wadd,wadd1,z0a,zzj,zzb,zzl,List.length_set,z7i,zdp]
 ·rw[if_neg h,if_neg h]
theorem zmx {fuel s m e:Nat}{d:Array α}(h1:s<m)(h2:m<e)(he:e≤d.size)(hd:d.size<4611686018427387904)(hf:d.size<fuel):
 ∃d':Array α,rotG fuel (s:Int) (m:Int) (e:Int) d.toList=some d'.toList∧RotTo s m e d d':=by
 obtain⟨k,d1,g1,g2,g3,g4,g5,g6,g7⟩:=zm2 (R:=Empty) (m:=m) (a:=s) (b:=e) (d0:=d) he (m-s+(e-m)) (m-s) (e-m) fuel d (zze _) (by omega) (by omega) (by omega) (by omega) (by omega) (by omega) rfl
  (B:=fun(a1:Int×Int×(List α))=>bf (!decide (a1.1=a1.2.1)) (bf (decide (a1.2.1<a1.1)) ((swapG fuel (zzi.wrap ((m:Int)-a1.1)) (m:Int) a1.2.1 a1.2.2).bind fun r4=>need (r4.length=a1.2.2.length)<|some (.next ((zzi.wrap (a1.1-a1.2.1)),a1.2.1,r4))) ((swapG fuel (zzi.wrap ((m:Int)-a1.1)) (zzi.wrap ((zzi.wrap ((m:Int)+a1.2.1))-a1.1)) a1.1 a1.2.2).bind fun r6=>need (r6.length=a1.2.2.length)<|some (.next (a1.1,(zzi.wrap (a1.2.1-a1.1)),r6)))) (some (.brk (a1.1,a1.2.1,a1.2.2))))
  (by
   intro i j d' hs hi hj him hjb;simp only[z2s,z0g,intlt];by_cases h:i=j
   ·subst h;rw[if_pos rfl,if_pos rfl]
   ·rw[if_neg (by omega),if_neg h];by_cases h3:j<i
    ·rw[if_pos h3,if_pos h3];rw[wsub (by omega) (by omega),wsub (by omega) (by omega),zek (by omega) (by omega) (by omega) (by omega)];simp only[zz0];rw[z0a (by simp[z61])]
    ·rw[if_neg h3,if_neg h3];rw[wsub (by omega) (by omega),wadd (by omega),wsub (by omega) (by omega),wsub (by omega) (by omega),zek (by omega) (by omega) (by omega) (by omega)];simp only[zz0];rw[z0a (by simp[z61])])
 refine⟨swpN (m-k) m k d1,?_,Sort.permIn_trans _ _ _ s e g6 (zas (by omega) (by omega) (by omega) (by omega) (by omega)),fun x=>?_⟩
 ·unfold rotG;rw[wsub (by omega) (by omega),wsub (by omega) (by omega)];rw[g1];simp only[z4n];rw[wsub (by omega) (by omega),zek (by omega) (by omega) (by omega) (by omega)];rfl
 ·rw[zcb (by omega) (by omega) (by omega),zm0 (by omega),g7];congr 1<;>omega
end
end Go.Av
namespace Go.Av
open Go
section
variable {α:Type} [Inhabited α] {cmp:α→α→Option Int} {c:α→α→Int}
theorem zb9 {x y:Nat}(h:x+y<4611686018427387904):zzi.wrap (shrOp .u64 (zzu.wrap (zzi.wrap ((x:Int)+(y:Int)))) 1)=(((x+y) / 2:Nat):Int):=by
 rw[wadd h,z86,Int.emod_eq_of_lt (by omega) (by omega),show(1:Int)=((1:Nat):Int)from rfl,zn0 .u64 (x+y) 1 (by decide),z2x (by omega) (by omega)]
def shR (a:Nat):Nat→Array α→Array α
 |0,d=>d
 |k+1,d=>Sort.swp (shR a k d) (a+k) (a+k+1)
def shL (m:Nat):Nat→Array α→Array α
 |0,d=>d
 |k+1,d=>Sort.swp (shL m k d) (m-k) (m-k-1)
theorem zbf (a:Nat): ∀(k:Nat) (d:Array α),(shR a k d).size=d.size
 |0,d=>rfl
 |k+1,d=>by unfold shR;rw[zbj,zbf a k]
theorem zbe (m:Nat): ∀(k:Nat) (d:Array α),(shL m k d).size=d.size
 |0,d=>rfl
 |k+1,d=>by unfold shL;rw[zbj,zbe m k]
theorem zjb {a:Nat}{d:Array α}: ∀{k:Nat},a+k<d.size→ ∀x,(shR a k d)[x]! =rotF a (a+1) (a+1+k) d x
 |0,h,x=>by
  unfold shR rotF
  repeat' split
  all_goals first|omega|rfl|(congr 1;omega)
 |k+1,h,x=>by
  have ih:=zjb (a:=a) (d:=d) (k:=k) (by omega);unfold shR;rw[zi5 _ (by rw[zbf];omega) (by rw[zbf];omega),ih,ih,ih];unfold rotF
  repeat' split
  all_goals first|omega|rfl|(congr 1;omega)
theorem zja {m:Nat}{d:Array α}(hm:m<d.size): ∀{k:Nat},k≤m→ ∀x,(shL m k d)[x]! =rotF (m-k) m (m+1) d x
 |0,h,x=>by
  unfold shL rotF
  repeat' split
  all_goals first|omega|rfl|(congr 1;omega)
 |k+1,h,x=>by
  have ih:=zja (m:=m) (d:=d) hm (k:=k) (by omega);unfold shL;rw[zi5 _ (by rw[zbe];omega) (by rw[zbe];omega),ih,ih,ih];unfold rotF
  repeat' split
  all_goals first|omega|rfl|(congr 1;omega)
theorem zi1 {a b:Nat}{d:Array α}(hb:b≤d.size): ∀{k:Nat},a+k<b→Sort.PermIn a b d (shR a k d)
 |0,_=>Sort.permIn_refl d a b
 |k+1,h=>by
  unfold shR;exact Sort.permIn_trans _ _ _ a b (zi1 hb (by omega)) (Sort.swp_permIn _ a b _ _ (by omega) (by omega) (by omega) (by omega) (by rw[zbf];exact hb))
theorem zi0 {a m b:Nat}{d:Array α}(hb:b≤d.size)(hm:m<b): ∀{k:Nat},a+k≤m→Sort.PermIn a b d (shL m k d)
 |0,_=>Sort.permIn_refl d a b
 |k+1,h=>by
  unfold shL;exact Sort.permIn_trans _ _ _ a b (zi0 hb hm (by omega)) (Sort.swp_permIn _ a b _ _ (by omega) (by omega) (by omega) (by omega) (by rw[zbe];exact hb))
theorem zm5 {R:Type}{B:Int×List α→Option (Ctl (Int×List α) R)}{a n fuel:Nat}{d:Array α}(hf:n<fuel)
 (hB: ∀(i:Nat) (d':Array α),d'.size=d.size→i≤n→B (((a+i:Nat):Int),d'.toList)=if i<n then some (.next (((a+i+1:Nat):Int),(Sort.swp d' (a+i) (a+i+1)).toList))else some (.brk (((a+i:Nat):Int),d'.toList))):
 ∃x:Int,loopN B fuel ((a:Int),d.toList)=some (.done (x,(shR a n d).toList)):=by
 have key: ∀k i fuel,i+k=n→k<fuel→ ∃x:Int,loopN B fuel (((a+i:Nat):Int),(shR a i d).toList)=some (.done (x,(shR a n d).toList)):=by
  intro k;induction k with
  |zero=>
   intro i fuel hi hf;cases fuel with
   |zero=>omega
   |succ fuel=>
    have h:=hB i (shR a i d) (zbf ..) (by omega);rw[if_neg (by omega)]at h;rw[z4m h,show i=n by omega];exact⟨_,rfl⟩
  |succ k ih=>
   intro i fuel hi hf;cases fuel with
   |zero=>omega
   |succ fuel=>
    have h:=hB i (shR a i d) (zbf ..) (by omega);rw[if_pos (by omega)]at h;rw[z4c h];exact ih (i+1) fuel (by omega) (by omega)
 exact key n 0 fuel (by omega) hf
theorem zm4 {R:Type}{B:Int×List α→Option (Ctl (Int×List α) R)}{m n fuel:Nat}{d:Array α}(hn:n≤m)(hf:n<fuel)
 (hB: ∀(i:Nat) (d':Array α),d'.size=d.size→i≤n→B (((m-i:Nat):Int),d'.toList)=if i<n then some (.next (((m-i-1:Nat):Int),(Sort.swp d' (m-i) (m-i-1)).toList))else some (.brk (((m-i:Nat):Int),d'.toList))):
 ∃x:Int,loopN B fuel ((m:Int),d.toList)=some (.done (x,(shL m n d).toList)):=by
 have key: ∀k i fuel,i+k=n→k<fuel→ ∃x:Int,loopN B fuel (((m-i:Nat):Int),(shL m i d).toList)=some (.done (x,(shL m n d).toList)):=by
  intro k;induction k with
  |zero=>
   intro i fuel hi hf;cases fuel with
   |zero=>omega
   |succ fuel=>
    have h:=hB i (shL m i d) (zbe ..) (by omega);rw[if_neg (by omega)]at h;rw[z4m h,show i=n by omega];exact⟨_,rfl⟩
  |succ k ih=>
   intro i fuel hi hf;cases fuel with
   |zero=>omega
   |succ fuel=>
    have h:=hB i (shL m i d) (zbe ..) (by omega);rw[if_pos (by omega)]at h;rw[z4c h];have:=ih (i+1) fuel (by omega) (by omega)
    rwa[show m-(i+1)=m-i-1 by omega]at this
 exact key n 0 fuel (by omega) hf
omit [Inhabited α]in
theorem zl9 (h:IsCmp c):Sort.SWO (ltC c) where
 irrefl x:=by unfold ltC;rw[h.refl];rfl
 trans x y z h1 h2:=by
  unfold ltC at*;simp only[decide_eq_true_eq]at*;exact h.lt_tr h1 (by omega)
 ntrans x y z h1 h2:=by
  unfold ltC at*;simp only[decide_eq_false_iff_not,Int.not_lt]at*;have a1:=h.anti x y;have a2:=h.anti y z;have a3:=h.anti x z
  by_cases g:0≤c x z
  ·exact g
  ·exfalso;have:=h.lt_tr (a:=x) (b:=z) (d:=y) (by omega) (by omega)
   omega
end
end Go.Av
namespace Go.Av
open Go
section
variable {α:Type} [Inhabited α] {cmp:α→α→Option Int} {c:α→α→Int}
theorem zlr {lt:α→α→Bool}(hS:Sort.SWO lt){a b r:Nat}{d:Array α}(hr:a+1≤r∧r≤b)(hb:b≤d.size)(h2:Sort.SortedIn lt (a+1) b d)
 (hA:r=a+1∨lt d[r-1]! d[a]! =true) (hB:r=b∨lt d[r]! d[a]! =false):MergeTo lt a b d (shR a (r-(a+1)) d):=by
 have hg: ∀x,(shR a (r-(a+1)) d)[x]! =rotF a (a+1) r d x:=fun x=>by
  rw[zjb (by omega),show a+1+(r-(a+1))=r by omega]
 obtain⟨h3,_,h5,h6,h7⟩:=zdi hS (d':=shR a (r-(a+1)) d) (a:=a) (m:=a+1) (b:=b) (s:=a) (e:=r) (z7f (by omega)) h2 ⟨by omega,by omega⟩ hr hg (.inl rfl) (.inr hA);refine⟨zi1 hb (by omega),glue2 (mid:=a+(r-(a+1))) h5 (glue2 (mid:=r) h6 h7 ?_) h3⟩;intro x y g1 g2 g3 g4;rw[hg,hg,show x=r-1 by omega];unfold rotF;rw[if_neg (by omega),if_neg (by omega),if_neg (by omega),if_pos (by omega)];rw[show r-1-(a+(r-(a+1)))+a=a by omega];rcases hB with h|h
 ·omega
 ·by_cases e:y=r
  ·subst e;exact h
  ·exact hS.ntrans _ _ _ (h2 r y (by omega) (by omega) g4) h
theorem      zlq {lt : α → α → Bool} (hS : Sort.SWO lt) {a m r : Nat} {d : Array α} (hr : a ≤ r ∧ r ≤ m) (hb : m + 1 ≤ d.size) (h1 : Sort.SortedIn lt a m d)
    (hA : r = a ∨ lt d[m]! d[r - 1]! = false) (hB : r = m ∨ lt d[m]! d[r]! = true) : MergeTo lt a (m + 1) d (shL m (m - r) d) := by
  have hg : ∀ x, (shL m (m - r) d)[x]! = rotF r m (m + 1) d x := fun x => by
    rw [    zja (by omega) (by omega), show m - (m - r) = r by omega]
  obtain ⟨h3, h4, h5, h6, h7⟩ :=       zdi hS (d' := shL m (m - r) d) (a := a) (m := m) (b := m + 1) (s := r) (e := m + 1) h1 (         z7f (by omega)) hr ⟨by omega, by omega⟩ hg (.inr (.inl rfl))
    (by rcases hB with h | h
        · exact .inl h
        · exact .inr (.inr (by rw [Nat.add_sub_cancel]; exact h)))
  refine ⟨     zi0 hb (by omega) (by omega), glue2 (mid := r + (m + 1 - m)) (glue2 (mid := r) h4 h5 ?_) h6 h3⟩
  intro x y g1 g2 g3 g4
  rw [hg, hg, show y = r by omega]
  unfold rotF
  rw [if_pos (by omega), if_neg (by omega), if_neg (by omega)]
  rw [show r - r + m = m by omega]
  rcases hA with h | h
  · omega
  · by_cases e : x = r - 1
    · subst e; exact h
    · exact hS.ntrans _ _ _ h (h1 x (r - 1) g1 (by omega) (by omega))
theorem z8s {S R Q:Type}{G:Option Q→Prop}{P:S→Prop}{o:Option (Out S R)}{kn:S→Option Q}{kr:R→Option Q}(h: ∃s,o=some (.done s)∧P s)(hk: ∀s,P s→G (kn s)):G (outK o kn kr):=by
 obtain⟨s,h,hp⟩:=h;rw[h];exact hk s hp
theorem bs_ex {R:Type}{B:Int×Int→Option (Ctl (Int×Int) R)}{P:Nat→Bool}{Q:Int×Int→Prop}{i0 j0 fuel:Nat}(hf:j0-i0<fuel)(hij:i0≤j0)
 (hQ: ∀r:Nat,i0≤r→r≤j0→(r=i0∨P (r-1)=true)→(r=j0∨P r=false)→Q ((r:Int),(r:Int)))
 (hB: ∀i j:Nat,i0≤i→i≤j→j≤j0→B ((i:Int),(j:Int))=if i<j then(if P ((i+j) / 2)=true then some (.next ((((i+j) / 2+1:Nat):Int),(j:Int)))else some (.next ((i:Int),(((i+j) / 2:Nat):Int))))else some (.brk ((i:Int),(j:Int)))):
 ∃s,loopN B fuel ((i0:Int),(j0:Int))=some (.done s)∧Q s:=by
 obtain⟨r,g1,g2,g3,g4,g5⟩:=zix (P:=P) (j0-i0) i0 j0 fuel (zze _) hf (zze _) hij (zze _) (.inl rfl) (.inl rfl) hB;exact⟨_,g1,hQ r g2 g3 g4 g5⟩
theorem jn_P {A Q:Type}{G:Option Q→Prop}{P:A→Prop}{K:A→Option Q}{f:(A→Option Q)→Option Q}(hK: ∀a,P a→G (K a))(hf: ∃a,P a∧f K=K a):G (jn K f):=by
 obtain⟨a,h1,h2⟩:=hf;rw[jn_eq,h2];exact hK a h1
theorem zdx (hc: ∀x y,cmp x y=some (c x y))(hC:IsCmp c): ∀(fuel a m b:Nat) (d:Array α),a<m→m<b→b≤d.size→d.size<1152921504606846976→d.size+(b-a)<fuel→
 Sort.SortedIn (ltC c) a m d→Sort.SortedIn (ltC c) m b d→ ∃d':Array α,symG cmp fuel (a:Int) (m:Int) (b:Int) d.toList=some d'.toList∧MergeTo (ltC c) a b d d'
 |0,a,m,b,d,_,_,_,_,hf,_,_=>by omega
 |fuel+1,a,m,b,d,ham,hmb,hb,hd,hf,h1,h2=>by
  have hS:=zl9 hC;unfold symG;simp only[z0g];rw[wsub (by omega) (by omega),wsub (by omega) (by omega)];by_cases c1:m-a=1
  ·rw[if_pos (by omega)];have hm:m=a+1:=by omega
   subst hm;refine z8s (G:=fun q=> ∃d':Array α,q=some d'.toList∧MergeTo (ltC c) a b d d') (P:=fun s=> ∃r:Nat,s=((r:Int),(r:Int))∧a+1≤r∧r≤b∧(r=a+1∨ltC c d[r-1]! d[a]! =true)∧(r=b∨ltC c d[r]! d[a]! =false)) ?_ ?_
   ·refine bs_ex (P:=fun h=>ltC c d[h]! d[a]!) (by omega) (by omega) (fun r g2 g3 g4 g5=>⟨r,rfl,g2,g3,g4,g5⟩) ?_;intro i j hi hij hj;simp only[z0g,intlt];rw[zb9 (by omega)];by_cases h:i<j
    ·rw[if_pos h,if_pos h];simp(disch:=omega) only[z0a,wadd1,zzj,zzb,zzl,hc,zz0,z7i];unfold ltC;by_cases g:c d[(i+j) / 2]! d[a]! <0<;>simp[g]
    ·rw[if_neg h,if_neg h]
   ·rintro s ⟨r,rfl,g2,g3,g4,g5⟩;simp only;rw[wsub1 (by omega) (by omega)];refine⟨shR a (r-(a+1)) d,zbd (zm5 (a:=a) (n:=r-(a+1)) (by omega) ?_) (fun x=>rfl),zlr hS ⟨g2,g3⟩ hb h2 g4 g5⟩;intro i d' hs hi;simp only[z0g,intlt];by_cases h:i<r-(a+1)
    ·rw[if_pos (by omega),if_pos h];simp(disch:=omega) only[z0a,wadd1,zzj,zzb,zzl,List.length_set,z7i,zdp]
    ·rw[if_neg (by omega),if_neg h]
  ·rw[if_neg (by omega)];by_cases c2:b-m=1
   ·rw[if_pos (by omega)];have hbm:b=m+1:=by omega
    subst hbm;refine z8s (G:=fun q=> ∃d':Array α,q=some d'.toList∧MergeTo (ltC c) a (m+1) d d') (P:=fun s=> ∃r:Nat,s=((r:Int),(r:Int))∧a≤r∧r≤m∧(r=a∨ltC c d[m]! d[r-1]! =false)∧(r=m∨ltC c d[m]! d[r]! =true)) ?_ ?_
    ·refine bs_ex (P:=fun h=> !ltC c d[m]! d[h]!) (by omega) (by omega) (fun r g2 g3 g4 g5=>⟨r,rfl,g2,g3,by simpa using g4,by simpa using g5⟩) ?_;intro i j hi hij hj;simp only[z0g,z2s,intlt];rw[zb9 (by omega)];by_cases h:i<j
     ·rw[if_pos h,if_pos h];simp(disch:=omega) only[z0a,wadd1,zzj,zzb,zzl,hc,zz0,z7i];unfold ltC;by_cases g:c d[m]! d[(i+j) / 2]! <0<;>simp[g]
     ·rw[if_neg h,if_neg h]
    ·rintro s ⟨r,rfl,g2,g3,g4,g5⟩;simp only;refine⟨shL m (m-r) d,zbd (zm4 (m:=m) (n:=m-r) (by omega) (by omega) ?_) (fun x=>rfl),zlq hS ⟨g2,g3⟩ hb h1 g4 g5⟩;intro i d' hs hi;simp only[z0g,intlt];by_cases h:i<m-r
     ·rw[if_pos (by omega),if_pos h];simp(disch:=omega) only[z0a,wsub1,zzj,zzb,zzl,List.length_set,z7i,zdp]
     ·rw[if_neg (by omega),if_neg h]
   ·rw[if_neg (by omega)];rw[zb9 (by omega),wadd (by omega)]
    let G:Option (List α)→Prop:=fun q=> ∃d':Array α,q=some d'.toList∧MergeTo (ltC c) a b d d'
    refine jn_P (G:=G) (P:=fun x=> ∃st r0:Nat,x=((((a+b) / 2:Nat):Int),(((a+b) / 2+m:Nat):Int),(st:Int),(r0:Int))∧a≤st∧st≤r0∧r0≤m∧r0≤(a+b) / 2+m-m∧(st=a∨(a+b) / 2+m-st=b)∧(a+b) / 2+m-st≤b∧(r0=m∨r0=(a+b) / 2)) ?_ ?_
    ·rintro _ ⟨st,r0,rfl,k1,k2,k3,k4,k5,k6,k7⟩;refine z8s (G:=G) (P:=fun s=> ∃r:Nat,s=((r:Int),(r:Int))∧st≤r∧r≤r0∧(r=st∨ltC c d[(a+b) / 2+m-r]! d[r-1]! =false)∧(r=r0∨ltC c d[(a+b) / 2+m-r-1]! d[r]! =true)) ?_ ?_
     ·refine bs_ex (P:=fun h=> !ltC c d[(a+b) / 2+m-1-h]! d[h]!) (by omega) (by omega) (fun r g2 g3 g4 g5=>⟨r,rfl,g2,g3,?_,?_⟩) ?_
      ·rcases g4 with g4|g4
       ·exact .inl g4
       ·by_cases e:r=st
        ·exact .inl e
        ·right;rw[show(a+b) / 2+m-1-(r-1)=(a+b) / 2+m-r by omega]at g4
         simpa using g4
      ·rcases g5 with g5|g5
       ·exact .inl g5
       ·right;rw[show(a+b) / 2+m-1-r=(a+b) / 2+m-r-1 by omega]at g5
        simpa using g5
      ·intro i j hi hij hj;simp only[z0g,z2s,intlt];rw[zb9 (by omega),wsub1 (by omega) (by omega)];by_cases h:i<j
       ·rw[if_pos h,if_pos h,wsub (by omega) (by omega)];simp(disch:=omega) only[z0a,wadd1,zzj,zzb,zzl,hc,zz0,z7i];unfold ltC;by_cases g:c d[(a+b) / 2+m-1-(i+j) / 2]! d[(i+j) / 2]! <0<;>simp[g]
       ·rw[if_neg h,if_neg h]
     ·rintro s ⟨r,rfl,g2,g3,g4,g5⟩;simp only;rw[wsub (by omega) (by omega)];have hmid:r+((a+b) / 2+m-r-m)=(a+b) / 2:=by omega
      refine jn_P (G:=G) (P:=fun x=> ∃d1:Array α,x=((((a+b) / 2+m-r:Nat):Int),d1.toList)∧Sort.PermIn a b d d1∧ ∀x,d1[x]! =rotF r m ((a+b) / 2+m-r) d x) ?_ ?_
      ·rintro _ ⟨d1,rfl,p1,p2⟩;obtain⟨q1,q2,q3,q4,q5⟩:=zdi hS h1 h2 ⟨by omega,by omega⟩ ⟨by omega,by omega⟩ p2 (by
        rcases g4 with g|g
        ·rcases k5 with k|k
         ·exact .inl (by omega)
         ·exact .inr (.inl (by omega))
        ·exact .inr (.inr g)) (by
        rcases g5 with g|g
        ·rcases k7 with k|k
         ·exact .inl (by omega)
         ·exact .inr (.inl (by omega))
        ·exact .inr (.inr g))
       rw[hmid]at q1 q3 q4;have s1:d1.size=d.size:=p1.1
       refine jn_P (G:=G) (P:=fun x=> ∃d2:Array α,x=d2.toList∧MergeTo (ltC c) a ((a+b) / 2) d1 d2) ?_ ?_
       ·rintro _ ⟨d2,rfl,m1⟩;have s2:d2.size=d1.size:=m1.perm.1
        have e1:Sort.SortedIn (ltC c) ((a+b) / 2) ((a+b) / 2+m-r) d2:=fun i j h1 h2 h3=>by
         rw[m1.perm.2.1 i (.inr (by omega)),m1.perm.2.1 j (.inr (by omega))];exact q4 i j h1 h2 h3
        have e2:Sort.SortedIn (ltC c) ((a+b) / 2+m-r) b d2:=fun i j h1 h2 h3=>by
         rw[m1.perm.2.1 i (.inr (by omega)),m1.perm.2.1 j (.inr (by omega))];exact q5 i j h1 h2 h3
        have fin: ∀d3:Array α,MergeTo (ltC c) ((a+b) / 2) b d2 d3→MergeTo (ltC c) a b d d3:=fun d3 m3=>zhl hS ⟨by omega,by omega⟩ hb p1 q1 m1 m3;simp only[jn_eq,z0g,intlt];by_cases w1:(a+b) / 2<(a+b) / 2+m-r
        ·by_cases w2:(a+b) / 2+m-r<b
         ·rw[if_pos w1,if_pos w2];obtain⟨d3,t1,t2⟩:=zdx hc hC fuel ((a+b) / 2) ((a+b) / 2+m-r) b d2 w1 w2 (by omega) (by omega) (by omega) e1 e2;rw[t1];exact⟨d3,rfl,fin d3 t2⟩
         ·rw[if_pos w1,if_neg w2];rw[show(a+b) / 2+m-r=b by omega]at e1;exact⟨d2,rfl,fin d2 (z9u e1)⟩
        ·rw[if_neg w1,z25];rw[show(a+b) / 2+m-r=(a+b) / 2 by omega]at e2;exact⟨d2,rfl,fin d2 (z9u e2)⟩
       ·simp only[jn_eq,z0g,intlt];by_cases w1:a<r
        ·by_cases w2:r<(a+b) / 2
         ·rw[if_pos w1,if_pos w2];obtain⟨d3,t1,t2⟩:=zdx hc hC fuel a r ((a+b) / 2) d1 w1 w2 (by omega) (by omega) (by omega) q2 q3;refine⟨_,⟨d3,rfl,t2⟩,?_⟩;rw[t1];simp only[zz0];rw[z0a (by have:=t2.perm.1;simp only[zzl];omega)]
         ·rw[if_pos w1,if_neg w2];rw[show r=(a+b) / 2 by omega]at q2;exact⟨_,⟨d1,rfl,z9u q2⟩,rfl⟩
        ·rw[if_neg w1,z25];rw[show r=a by omega]at q3;exact⟨_,⟨d1,rfl,z9u q3⟩,rfl⟩
      ·simp only[jn_eq,z0g,intlt];by_cases w1:r<m
       ·by_cases w2:m<(a+b) / 2+m-r
        ·obtain⟨d1,t1,t2⟩:=zmx (fuel:=fuel) (s:=r) (m:=m) (e:=(a+b) / 2+m-r) (d:=d) w1 w2 (by omega) (by omega) (by omega);refine⟨_,⟨d1,rfl,Sort.permIn_mono _ _ _ _ a b (by omega) (by omega) hb t2.perm,t2.get⟩,?_⟩;rw[if_pos w1,if_pos w2,t1,zz0];rw[z0a (by have:=t2.perm.1;simp only[zzl];omega)];simp only[intlt]
        ·rw[if_pos w1,if_neg w2];refine⟨_,⟨d,rfl,Sort.permIn_refl d a b,fun x=>?_⟩,by simp only[intlt]⟩;unfold rotF
         repeat' split
         all_goals first|omega|rfl|(congr 1;omega)
       ·rw[if_neg w1,z25];refine⟨_,⟨d,rfl,Sort.permIn_refl d a b,fun x=>?_⟩,by simp only[intlt]⟩;unfold rotF
        repeat' split
        all_goals first|omega|rfl|(congr 1;omega)
    ·simp only[z0g,intlt];by_cases w:(a+b) / 2<m
     ·rw[if_pos w,wsub (by omega) (by omega)];exact⟨_,⟨(a+b) / 2+m-b,(a+b) / 2,rfl,by omega,by omega,by omega,by omega,by omega,by omega,.inr rfl⟩,rfl⟩
     ·rw[if_neg w];exact⟨_,⟨a,m,rfl,by omega,by omega,by omega,by omega,.inl rfl,by omega,.inl rfl⟩,rfl⟩
end
end Go.Av
namespace Go.Av
open Go
section
variable {α:Type} [Inhabited α] {cmp:α→α→Option Int} {c:α→α→Int}
theorem z8q {S R:Type}{B:S→Option (Ctl S R)}(I:Nat→S→Prop)(Dn:S→Prop){n fuel:Nat}{s:S}(hf:n<fuel)(h0:I 0 s)
 (h: ∀i s,I i s→(∃s',B s=some (.next s')∧I (i+1) s'∧i<n)∨(∃s',B s=some (.brk s')∧Dn s')): ∃s',loopN B fuel s=some (.done s')∧Dn s':=by
 have key: ∀k i s fuel,i+k=n→k<fuel→I i s→ ∃s',loopN B fuel s=some (.done s')∧Dn s':=by
  intro k;induction k with
  |zero=>
   intro i s fuel hi hf hI;cases fuel with
   |zero=>omega
   |succ fuel=>
    rcases h i s hI with⟨s',_,_,g⟩|⟨s',g1,g2⟩
    ·omega
    ·exact⟨s',z4m g1,g2⟩
  |succ k ih=>
   intro i s fuel hi hf hI;cases fuel with
   |zero=>omega
   |succ fuel=>
    rcases h i s hI with⟨s',g1,g2,g⟩|⟨s',g1,g2⟩
    ·rw[z4c g1];exact ih (i+1) s' fuel (by omega) (by omega) g2
    ·exact⟨s',z4m g1,g2⟩
 exact key n 0 s fuel (by omega) hf h0
theorem z8t {lt:α→α→Bool}{a b x y:Nat}{d d':Array α}(h:Sort.SortedIn lt x y d)(hp:Sort.PermIn a b d d')(ho:y≤a∨b≤x):Sort.SortedIn lt x y d':=fun i j h1 h2 h3=>by
 rw[hp.2.1 i (by omega),hp.2.1 j (by omega)];exact h i j h1 h2 h3
theorem z95 {i j k:Nat}(h:i<j):i*k+k≤j*k:=by
 have:=Nat.mul_le_mul_right k (show i+1≤j by omega);rw[Nat.add_mul,Nat.one_mul]at this;exact this
theorem zm7 (hc: ∀x y,cmp x y=some (c x y))(hC:IsCmp c){fuel:Nat}{d:Array α}(hd:d.size<1152921504606846)(hf:4*d.size+100<fuel):
 ∃d':Array α,stabG cmp fuel (d.size:Int) d.toList=some d'.toList∧Sort.PermIn 0 d.size d d'∧Sort.SortedIn (ltC c) 0 d.size d':=by
 have hS:=zl9 hC;generalize hn:d.size=n at*
 let G:Option (List α)→Prop:=fun q=> ∃d':Array α,q=some d'.toList∧Sort.PermIn 0 n d d'∧Sort.SortedIn (ltC c) 0 n d'
 unfold stabG;refine z8s (G:=G) (P:=fun s=> ∃(i:Nat) (d1:Array α),s=(((i*20:Nat):Int),((i*20+20:Nat):Int),d1.toList)∧i*20≤n∧n<i*20+20∧Sort.PermIn 0 n d d1∧ ∀j,j<i→Sort.SortedIn (ltC c) (j*20) (j*20+20) d1) ?_ ?_
 ·refine z8q (I:=fun i s=> ∃d1:Array α,s=(((i*20:Nat):Int),((i*20+20:Nat):Int),d1.toList)∧i*20≤n∧Sort.PermIn 0 n d d1∧ ∀j,j<i→Sort.SortedIn (ltC c) (j*20) (j*20+20) d1) (n:=n) _ (by omega) ⟨d,by rfl,by omega,Sort.permIn_refl d 0 n,fun j hj=>by omega⟩ ?_;rintro i _ ⟨d1,rfl,k1,k2,k3⟩;have s1:d1.size=n:=k2.1.trans hn
  simp only[z0g,intle];by_cases h:i*20+20≤n
  ·left;obtain⟨p1,p2⟩:=Sort.insertionSort_holds hS d1 (i*20) (i*20+20) (by omega) (by omega);refine⟨_,?_,⟨Sort.insertionSort (ltC c) d1 (i*20) (i*20+20),rfl,by omega,Sort.permIn_trans _ _ _ 0 n k2 (Sort.permIn_mono _ _ _ _ 0 n (by omega) (by omega) (by omega) p1),?_⟩,by omega⟩
   ·rw[if_pos h,zj3 hc (by omega) (by omega) (by omega) (by omega)];simp only[zz0];rw[z0a (by have:=p1.1;simp only[zzl];omega),show(20:Int)=((20:Nat):Int)from rfl,wadd (by omega)];rw[show(i+1)*20=i*20+20 by omega]
   ·intro j hj;by_cases e:j=i
    ·subst e;exact p2
    ·exact z8t (k3 j (by omega)) p1 (by have:=z95 (k:=20) (show j<i by omega);omega)
  ·right;rw[if_neg h];exact⟨_,rfl,i,d1,rfl,k1,by omega,k2,k3⟩
 ·rintro _ ⟨i,d1,rfl,k1,k2,k3,k4⟩;have s1:d1.size=n:=k3.1.trans hn
  simp only;obtain⟨p1,p2⟩:=Sort.insertionSort_holds hS d1 (i*20) n (by omega) (by omega);rw[zj3 hc (by omega) (by omega) (by omega) (by omega)];simp only[zz0];rw[z0a (by have:=p1.1;simp only[zzl];omega)];generalize hd2:Sort.insertionSort (ltC c) d1 (i*20) n=d2 at p1 p2;have q1:Sort.PermIn 0 n d d2:=Sort.permIn_trans _ _ _ 0 n k3 (Sort.permIn_mono _ _ _ _ 0 n (by omega) (by omega) (by omega) p1)
  have q2: ∀j,Sort.SortedIn (ltC c) (j*20) (min (j*20+20) n) d2:=fun j=>by
   by_cases e:j<i
   ·have:=z95 (k:=20) e;rw[show min (j*20+20) n=j*20+20 by omega];exact z8t (k4 j e) p1 (by omega)
   ·by_cases e2:j=i
    ·subst e2;rw[show min (j*20+20) n=n by omega];exact p2
    ·exact z7f (by omega)
  refine z8s (G:=G) (P:=fun s=> ∃(x:Int) (d3:Array α),s=(x,d3.toList)∧Sort.PermIn 0 n d d3∧Sort.SortedIn (ltC c) 0 n d3) ?_ ?_
  ·refine z8q (I:=fun r s=> ∃(k:Nat) (d3:Array α),s=((k:Int),d3.toList)∧r+20≤k∧k≤2*n+20∧Sort.PermIn 0 n d d3∧ ∀j,Sort.SortedIn (ltC c) (j*k) (min (j*k+k) n) d3) (n:=n) _ (by omega) ⟨20,d2,by rfl,by omega,by omega,q1,q2⟩ ?_;rintro r _ ⟨k,d3,rfl,g1,g2,g3,g4⟩;have s3:d3.size=n:=g3.1.trans hn
   simp only[z0g,intlt];by_cases h:k<n
   ·left;rw[if_pos h]
    let G2:Option (Ctl (Int×List α) Empty)→Prop:=fun q=> ∃s',q=some (.next s')∧(∃(k:Nat) (d3:Array α),s'=((k:Int),d3.toList)∧r+1+20≤k∧k≤2*n+20∧Sort.PermIn 0 n d d3∧ ∀j,Sort.SortedIn (ltC c) (j*k) (min (j*k+k) n) d3)∧r<n
    refine z8s (G:=G2) (P:=fun s=> ∃(i:Nat) (d4:Array α),s=(((i*(2*k):Nat):Int),((i*(2*k)+2*k:Nat):Int),d4.toList)∧i*(2*k)≤n∧n<i*(2*k)+2*k∧Sort.PermIn 0 n d d4∧(∀j,j<i→Sort.SortedIn (ltC c) (j*(2*k)) (j*(2*k)+2*k) d4)∧ ∀j,i*(2*k)≤j*k→Sort.SortedIn (ltC c) (j*k) (min (j*k+k) n) d4) ?_ ?_
    ·rw[wtwo (by omega)];refine z8q (I:=fun i s=> ∃d4:Array α,s=(((i*(2*k):Nat):Int),((i*(2*k)+2*k:Nat):Int),d4.toList)∧i*(2*k)≤n∧i≤i*(2*k)∧Sort.PermIn 0 n d d4∧(∀j,j<i→Sort.SortedIn (ltC c) (j*(2*k)) (j*(2*k)+2*k) d4)∧ ∀j,i*(2*k)≤j*k→Sort.SortedIn (ltC c) (j*k) (min (j*k+k) n) d4) (n:=n) _ (by omega) ⟨d3,by simp,by omega,by omega,g3,fun j hj=>by omega,fun j _=>g4 j⟩ ?_;rintro i _ ⟨d4,rfl,f1,f0,f2,f3,f4⟩;have s4:d4.size=n:=f2.1.trans hn
     have e1:(2*i)*k=i*(2*k):=by rw[Nat.mul_comm 2 i,Nat.mul_assoc]
     have e2:(2*i+1)*k=i*(2*k)+k:=by rw[Nat.add_mul,Nat.one_mul,e1]
     have e3:(i+1)*(2*k)=i*(2*k)+2*k:=by rw[Nat.add_mul,Nat.one_mul]
     have t1:=f4 (2*i) (by omega);have t2:=f4 (2*i+1) (by omega)
     rw[e1]at t1;rw[e2]at t2;generalize hp:i*(2*k)=p at*;simp only[z0g,intle];by_cases h2:p+2*k≤n
     ·left;rw[if_pos h2,wadd (by omega)];rw[show min (p+k) n=p+k by omega]at t1;rw[show min (p+k+k) n=p+2*k by omega]at t2;obtain⟨d5,u1,u2⟩:=zdx hc hC fuel p (p+k) (p+2*k) d4 (by omega) (by omega) (by omega) (by omega) (by omega) t1 t2;refine⟨_,?_,⟨d5,rfl,by omega,by omega,Sort.permIn_trans _ _ _ 0 n f2 (Sort.permIn_mono _ _ _ _ 0 n (by omega) (by omega) (by omega) u2.perm),?_,?_⟩,by omega⟩
      ·rw[u1];simp only[zz0];rw[z0a (by have:=u2.perm.1;simp only[zzl];omega),wadd (by omega),e3]
      ·intro j hj;by_cases e:j=i
       ·subst e;rw[hp];exact u2.sorted
       ·have:=z95 (k:=2*k) (show j<i by omega);exact z8t (f3 j (by omega)) u2.perm (.inl (by omega))
      ·intro j hj;exact z8t (f4 j (by omega)) u2.perm (.inr (by omega))
     ·right;rw[if_neg h2];exact⟨_,rfl,i,d4,by rw[hp],by omega,by omega,f2,f3,by rw[hp];exact f4⟩
    ·rintro _ ⟨i,d4,rfl,f1,f1',f2,f3,f4⟩;have s4:d4.size=n:=f2.1.trans hn
     have e1:(2*i)*k=i*(2*k):=by rw[Nat.mul_comm 2 i,Nat.mul_assoc]
     have e2:(2*i+1)*k=i*(2*k)+k:=by rw[Nat.add_mul,Nat.one_mul,e1]
     have t1:=f4 (2*i) (by omega);have t2:=f4 (2*i+1) (by omega)
     rw[e1]at t1;rw[e2]at t2;have e4: ∀j,i<j→n≤j*(2*k):=fun j hj=>by have:=z95 (k:=2*k) hj;omega
     generalize hp:i*(2*k)=p at*;simp only;refine jn_P (G:=G2) (P:=fun l=> ∃d5:Array α,l=d5.toList∧Sort.PermIn 0 n d d5∧ ∀j,Sort.SortedIn (ltC c) (j*(2*k)) (min (j*(2*k)+2*k) n) d5) ?_ ?_
     ·rintro _ ⟨d5,rfl,u1,u2⟩;refine⟨_,rfl,⟨2*k,d5,?_,by omega,by omega,u1,u2⟩,by omega⟩;rw[show(k:Int)*2=2*(k:Int)by omega,wtwo (by omega)]
     ·simp only[z0g];rw[wadd (by omega)];simp only[intlt];by_cases h2:p+k<n
      ·rw[if_pos h2];rw[show min (p+k) n=p+k by omega]at t1;rw[show min (p+k+k) n=n by omega]at t2;obtain⟨d5,u1,u2⟩:=zdx hc hC fuel p (p+k) n d4 (by omega) (by omega) (by omega) (by omega) (by omega) t1 t2;refine⟨_,⟨d5,rfl,Sort.permIn_trans _ _ _ 0 n f2 (Sort.permIn_mono _ _ _ _ 0 n (by omega) (by omega) (by omega) u2.perm),fun j=>?_⟩,?_⟩
       ·by_cases e:j<i
        ·have:=z95 (k:=2*k) e;rw[show min (j*(2*k)+2*k) n=j*(2*k)+2*k by omega];exact z8t (f3 j e) u2.perm (.inl (by omega))
        ·by_cases e5:j=i
         ·subst e5;rw[hp,show min (p+2*k) n=n by omega];exact u2.sorted
         ·have:=e4 j (by omega);exact z7f (by omega)
       ·rw[u1];simp only[zz0];rw[z0a (by have:=u2.perm.1;simp only[zzl];omega)]
      ·rw[if_neg h2];refine⟨_,⟨d4,rfl,f2,fun j=>?_⟩,rfl⟩;by_cases e:j<i
       ·have:=z95 (k:=2*k) e;rw[show min (j*(2*k)+2*k) n=j*(2*k)+2*k by omega];exact f3 j e
       ·by_cases e5:j=i
        ·subst e5;rw[hp,show min (p+2*k) n=n by omega];rw[show min (p+k) n=n by omega]at t1;exact t1
        ·have:=e4 j (by omega);exact z7f (by omega)
   ·right;rw[if_neg h];have:=g4 0
    rw[Nat.zero_mul,show min (0+k) n=n by omega]at this;exact⟨_,rfl,_,d3,rfl,g3,this⟩
  ·rintro _ ⟨x,d3,rfl,u1,u2⟩;exact⟨d3,rfl,u1,u2⟩
theorem zca (hc: ∀x y,cmp x y=some (c x y))(hC:IsCmp c){fuel:Nat}{l:List α}(hd:l.length<1152921504606846)(hf:4*l.length+100<fuel):
 ∃r:List α,stabG cmp fuel (l.length:Int) l=some r∧r.Perm l∧ ∀i j,i<j→j<r.length→c (r.getD i zzd) (r.getD j zzd)≤0:=by
 obtain⟨d',h1,h2,h3⟩:=zm7 hc hC (d:=l.toArray) (fuel:=fuel) (by simpa using hd) (by simpa using hf);have hs:d'.size=l.length:=by have:=h2.1;simpa using this
 refine⟨d'.toList,by simpa using h1,?_,fun i j hij hj=>?_⟩
 ·have:=h2.2.2;simp only[List.size_toArray]at this;rw[show d'.extract 0 l.length=d' by rw[←hs];simp,show l.toArray.extract 0 l.length=l.toArray by simp]at this;exact this
 ·rw[zzl]at hj;have:=h3 i j (by omega) hij (by simpa [hs]using hj)
  rw[z7i,z7i];unfold ltC at this;have a1:=hC.anti d'[i]! d'[j]!
  simp only[decide_eq_false_iff_not]at this;omega
end
end Go.Av
/-
 Av,part SF:slices.SortFunc at structs,out of the library's contract.
-/
namespace Go.Av
open Go Go.Shelf Go.RowKit Go.Proofs Go.Sort
structure Flat {α:Type} (k:Nat) (eD:α→List D) (eV:α→List Go.Value):Prop where
 ld: ∀x,(eD x).length=k
 lv: ∀x,(eV x).length=k
 to: ∀G w x j v,j<k→RelD G w (D.at (eD x) j) v→v=(eV x)[j]!
 of: ∀G w x j,j<k→RelD G w (D.at (eD x) j) ((eV x)[j]!)
end Go.Av
namespace Go.Av
open Go
def cmpT (a b:Time):Int:=
 if a.epoch<b.epoch then -1 else if b.epoch<a.epoch then 1 else if a.loop.1<b.loop.1 then -1 else if b.loop.1<a.loop.1 then 1 else if a.loop.2<b.loop.2 then -1 else if b.loop.2<a.loop.2 then 1 else 0
theorem zgc (x y:Int):z3d x y=some (if x<y then -1 else if y<x then 1 else 0):=by
 unfold z3d z5q;simp only[decide_true,Bool.not_true,zz0,z25,z0g];split
 ·rfl
 ·split<;>rfl
theorem zmd (x1 x2 y1 y2:Int):z22 [x1,x2] [y1,y2]=some (if x1<y1 then -1 else if y1<x1 then 1 else if x2<y2 then -1 else if y2<x2 then 1 else 0):=by
 unfold z22;simp only[List.length_cons,List.length_nil,zzb,Nat.reduceAdd,z0k,zgc,z0g,z2s,zz0];by_cases h3:x1<y1<;>by_cases h4:y1<x1<;>by_cases h5:x2<y2<;>by_cases h6:y2<x2<;>simp[outK,need,h3,h4,h5,h6]
theorem zkv (u v:Int):z67 [u,v]=some (if u=0 then v else u):=by
 unfold z67;simp only[List.length_cons,List.length_nil,zzb,Nat.reduceAdd,z0k,z0g,z2s];by_cases h1:u=0<;>by_cases h2:v=0<;>simp[outK,h1,h2]
theorem zn6 {p q:Bool}{A:Type}{x y:Option A}:bf (p && (q && true)) x y=bf p (bf q x y) y:=by cases p<;>cases q<;>rfl
theorem        z9r (a b : Time) :            z42 a b = some (cmpT a b) := by
  unfold            z42 cmpT
  simp only [      zgc,     zmd,    zkv,              zz0,    zn6,       z0g]
  by_cases h1 : a.epoch < b.epoch <;> by_cases h2 : b.epoch < a.epoch <;> by_cases h3 : a.loop.1 < b.loop.1 <;> by_cases h4 : b.loop.1 < a.loop.1 <;> by_cases h5 : a.loop.2 < b.loop.2 <;> by_cases h6 : b.loop.2 < a.loop.2 <;>
    by_cases h7 : a.loop.1 = b.loop.1 <;> by_cases h8 : a.loop.2 = b.loop.2 <;> simp [h1, h2, h3, h4, h5, h6, h7, h8] <;> omega
theorem zjs (a b:Time):cmpT a b= -1∨cmpT a b=0∨cmpT a b=1:=by
 unfold cmpT
 repeat' split
 all_goals omega
theorem       zkd (a b : Time) : cmpT a b = - cmpT b a := by
  unfold cmpT
  by_cases h1 : a.epoch < b.epoch <;> by_cases h2 : b.epoch < a.epoch <;> by_cases h3 : a.loop.1 < b.loop.1 <;> by_cases h4 : b.loop.1 < a.loop.1 <;> by_cases h5 : a.loop.2 < b.loop.2 <;> by_cases h6 : b.loop.2 < a.loop.2 <;>
    simp [h1, h2, h3, h4, h5, h6] <;> omega
theorem Time.ext' {a b:Time}(h1:a.epoch=b.epoch)(h2:a.loop.1=b.loop.1)(h3:a.loop.2=b.loop.2):a=b:=by
 rcases a with⟨e,l1,l2⟩;rcases b with⟨e',l1',l2'⟩;simp at h1 h2 h3;simp[h1,h2,h3]
def ltT (x y:Time):Bool:=decide (cmpT x y<0)
theorem zj4 {x y:Time}:ltT x y=true↔x.epoch<y.epoch∨(x.epoch=y.epoch∧(x.loop.1<y.loop.1∨(x.loop.1=y.loop.1∧x.loop.2<y.loop.2))):=by
 unfold ltT cmpT;rw[decide_eq_true_eq]
 repeat' split
 all_goals omega
end Go.Av
namespace Go.Av
open Go
def cmpV (a b:Value):Int:=if a.isText=b.isText then(if a.isText then cmpS a.s b.s else cmpZ a.n b.n)else(if a.isText then 1 else -1)
theorem z87:IsCmp cmpV where
 vals a b:=by
  unfold cmpV;split
  ·split
   ·exact zdq.vals _ _
   ·exact z91.vals _ _
  ·split<;>simp
 anti a b:=by
  unfold cmpV;cases a.isText<;>cases b.isText<;>simp
  ·exact z91.anti _ _
  ·exact zdq.anti _ _
 tr a b d:=by
  unfold cmpV;cases a.isText<;>cases b.isText<;>cases d.isText<;>simp
  ·exact z91.tr _ _ _
  ·exact zdq.tr _ _ _
theorem zl8 (a b:ByteArray):(strLt a b||strEq a b)=decide (cmpS a b≤0):=by
 rw[zgq,zgo,Bool.eq_iff_iff];simp;omega
theorem zga (x y:Int):z66 x y=some (cmpZ x y):=by
 unfold z66 z72 cmpZ;simp only[decide_true,Bool.not_true,zz0,z25,z0g];split<;>(try split)<;>rfl
theorem zig (x y:Int):z5d x y=some (cmpZ x y):=by
 unfold z5d z68 cmpZ;simp only[decide_true,Bool.not_true,zz0,z25,z0g];split<;>(try split)<;>rfl
theorem zh9 (x y:ByteArray):z3y x y=some (cmpS x y):=by
 unfold z3y z5p;simp only[zk4,Bool.not_true,zz0,z25];rw[zl8,zgq];simp only[z2s,z0g];rcases zdq.vals x y with h|h|h<;>simp[h]
theorem zfr (a b:Value):z74 a b=some (cmpV a b):=by
 unfold z74 z8w cmpV;simp only[zga,zh9,zig,z2s];cases a.isText<;>cases b.isText<;>simp[zga,cmpZ]
theorem z6u (a b:List Value):z4i a b=some (cmpL cmpV a b):=by
 unfold z4i z0i;rw[zme (c:=cmpV)]
 ·rfl
 ·intro i hi;simp only[zfr,zz0,z0g,z2s,Int.ofNat_le];split
  ·rfl
  ·rw[z0a (by omega)]
 ·simp only[z0g,Int.ofNat_lt];split<;>rfl
def z4d (v:Value):Bool:=if v.isText then decide (v.n=0) && decide (v.s.size≤64)else strEq v.s (bs [])
def okRow (p:List Value):Bool:=decide (p.length≤8) && p.all z4d
theorem zlz (v:Value):z7x v=some (z4d v):=by
 unfold z7x z4d;have e:((v.s.size:Int)≤64)↔v.s.size≤64:=by omega
 cases v.isText<;>by_cases h:v.n=0<;>simp[h,e]
theorem zfc {S R X:Type}[Inhabited X]{B:Nat→S→Option (Ctl S R)}{l:List X}(P:X→Bool)(f:Nat→R){s:S}
 (hB: ∀i,i<l.length→B i s=if P (l.getD i zzd)then some (.ret (f i))else some (.next s)):
 (l.any P=false∧z0k B l.length 0 s=some (.done s))∨(l.any P=true∧ ∃i,i<l.length∧P (l.getD i zzd)=true∧z0k B l.length 0 s=some (.ret (f i))):=by
 have key: ∀k i,i+k=l.length→((l.drop i).any P=false∧z0k B k i s=some (.done s))∨((l.drop i).any P=true∧ ∃j,j<l.length∧P (l.getD j zzd)=true∧z0k B k i s=some (.ret (f j))):=by
  intro k;induction k with
  |zero=>intro i hi;left;rw[List.drop_eq_nil_of_le (by omega:l.length≤i)];exact⟨rfl,rfl⟩
  |succ k ih=>
   intro i hi;rw[z3z (by omega:i<l.length)];simp only[z0k,hB i (by omega),List.any_cons];by_cases h:P (l.getD i zzd)=true
   ·rw[if_pos h];right;exact⟨by rw[h];rfl,i,by omega,h,rfl⟩
   ·rw[if_neg h];have hf:P (l.getD i zzd)=false:=by simpa using h
    rw[hf,Bool.false_or];exact ih (i+1) (by omega)
 have:=key l.length 0 (by omega);rwa[List.drop_zero]at this
theorem zcg (p:List Value):(p.any fun v=> !z4d v)= !(p.all z4d):=by
 rw[List.any_eq_not_all_not];simp
theorem z7z (p:List Value):z5m p=some (if okRow p then 0 else 4):=by
 unfold z5m z0r z0u z80 okRow;simp only[jn_eq,z0g,zlz,zz0];by_cases h:8<(p.length:Int)
 ·rw[if_pos h,decide_eq_false (by omega: ¬p.length≤8)];rfl
 ·rw[if_neg h,decide_eq_true (by omega:p.length≤8)];rcases zfc (S:=Unit) (R:=Int) (l:=p) (fun v=> !z4d v) (fun i=>(i:Int)) (s:=()) (B:=fun i1 a2=>bf (!z4d (p.getD i1 zzd)) (some (.ret ((i1:Nat):Int))) (some (.next ()))) (fun i hi=>by
   cases z4d (p.getD i zzd)<;>rfl)with⟨h1,h2⟩|⟨h1,i,_,_,h2⟩
  ·rw[h2];rw[zcg]at h1;have:p.all z4d=true:=by simpa using h1
   simp[this]
  ·rw[h2];rw[zcg]at h1;have:p.all z4d=false:=by simpa using h1
   simp[this,Int.natCast_nonneg]
theorem zke {a b:Value}(ha:z4d a=true)(hb:z4d b=true):cmpV a b=0↔a=b:=by
 rcases a with⟨t,n,s⟩;rcases b with⟨t',n',s'⟩;unfold cmpV z4d at*;cases t<;>cases t'<;>simp[zkc,zgd,zgp]at*
 ·intro _;rw[ha,hb]
 ·intro h;omega
theorem za4: ∀{a b:List Value},a.all z4d=true→b.all z4d=true→(cmpL cmpV a b=0↔a=b)
 |[],[],_,_=>by simp[cmpL]
 |[],_::_,_,_=>by simp[cmpL]
 |_::_,[],_,_=>by simp[cmpL]
 |x::a,y::b,ha,hb=>by
  simp only[List.all_cons,Bool.and_eq_true]at ha hb;have h1:=zke ha.1 hb.1
  have h2:=za4 ha.2 hb.2;simp only[cmpL,thenC];split
  ·rename_i h;rw[h2,h1.1 h];simp
  ·rename_i h
   constructor
   ·intro g;exact absurd g h
   ·intro g;exact absurd (h1.2 (List.cons.inj g).1) h
theorem z6f {p:List Value}(h:okRow p=true):p.all z4d=true∧p.length≤8:=by
 unfold okRow at h;simp only[Bool.and_eq_true,decide_eq_true_eq]at h;exact⟨h.2,h.1⟩
end Go.Av
namespace Go.Av
open Go
def z2v (t:Time):Prop:=0≤t.epoch∧0≤t.loop.1∧0≤t.loop.2
def lub2 (a x:Time):Time:=⟨if a.epoch<x.epoch then x.epoch else a.epoch,(if a.loop.1<x.loop.1 then x.loop.1 else a.loop.1,if a.loop.2<x.loop.2 then x.loop.2 else a.loop.2)⟩
def zeroT:Time:=⟨0,(0,0)⟩
def lubL (l:List Time):Time:=l.foldl lub2 zeroT
theorem max0 {a:Int}(h:0≤a):a=if 0<a then a else 0:=by
 by_cases h1:0<a
 ·rw[if_pos h1]
 ·rw[if_neg h1];omega
theorem zf2 {l:List Time}(hl: ∀x∈l,z2v x):z43 l=some (lubL l):=by
 unfold z43;rw[z5k (lubL l) (fun i a=>a=lubL (l.take i)) (fun s h=>by rw[h,List.take_length])]
 ·rfl
 ·intro i a hi ha;refine⟨_,?_,rfl⟩;rw[z3l hi];have hx:=hl _ (z5j hi)
  generalize l.getD i zzd=x at*;simp only[lubL,List.foldl_append,List.foldl_cons,List.foldl_nil];rw[←lubL,←ha];simp only[jn_eq,z0k,z59,zz0,z0g];rcases Nat.eq_zero_or_pos i with h0|h0
  ·subst h0;simp[lubL]at ha;subst ha;obtain⟨x1,x2,x3⟩:=hx;simp[outK,lub2,zeroT];exact⟨max0 x1,max0 x2,max0 x3⟩
  ·rw[if_neg (by omega)];simp[outK,lub2]
 ·rfl
theorem mx_eq (a b:Int):(if a<b then b else a)=max a b:=by split<;>omega
theorem zle {x:Time}(h:z2v x):lub2 zeroT x=x:=by
 obtain⟨h1,h2,h3⟩:=h;simp only[lub2,mx_eq,zeroT];refine Time.ext' ?_ ?_ ?_<;>simp only<;>omega
theorem zlp {x y:Time}(hx:z2v x):lubL [x,y]=lub2 x y:=by
 simp[lubL,zle hx]
def leT (a b:Time):Bool:=decide (a.epoch≤b.epoch) && (decide (a.loop.1≤b.loop.1) && decide (a.loop.2≤b.loop.2))
theorem zhk (a:Time):leT a a=true:=by simp[leT]
theorem zgl {a b c:Time}(h:leT a b=true)(g:leT b c=true):leT a c=true:=by
 simp only[leT,Bool.and_eq_true,decide_eq_true_eq]at*;omega
theorem zmm {a b:Time}:leT a b=true↔a.epoch≤b.epoch∧a.loop.1≤b.loop.1∧a.loop.2≤b.loop.2:=by simp[leT]
theorem zf8 (u v w:Int):z67 [u,v,w]=some (thenC u (thenC v w)):=by
 unfold z67 thenC;simp only[List.length_cons,List.length_nil,zzb,Nat.reduceAdd,z0k,z0g,z2s];by_cases h1:u=0<;>by_cases h2:v=0<;>by_cases h3:w=0<;>simp[outK,h1,h2,h3]
theorem znh (u v w:Int):z49 [u,v,w]=some (thenC u (thenC v w)):=zf8 u v w
theorem zkw (u v:Int):z49 [u,v]=some (thenC u v):=zkv u v
theorem zb1:IsCmp cmpT where
 vals a b:=by rcases zjs a b with h|h|h<;>omega
 anti a b:=by have:=zkd a b;omega
 tr a b d:=by
  have e: ∀a b:Time,cmpT a b=thenC (cmpZ a.epoch b.epoch) (thenC (cmpZ a.loop.1 b.loop.1) (cmpZ a.loop.2 b.loop.2)):=fun a b=>by
   unfold cmpT thenC cmpZ
   repeat' split
   all_goals omega
  have h:=(z91.on fun t:Time=>t.epoch).lex ((z91.on fun t:Time=>t.loop.1).lex (z91.on fun t:Time=>t.loop.2));rw[e,e,e];exact h.tr a b d
theorem       zgb {a b : Time} : cmpT a b = 0 ↔ a = b := by
  constructor
  · intro h
    unfold cmpT at h
    refine Time.ext' ?_ ?_ ?_ <;> · revert h; repeat' split
                                    all_goals omega
  · rintro rfl; exact     zb1.refl a
def okT (t:Time):Bool:=decide (t.epoch≤4611686018427387904) && (decide (t.loop.1≤4611686018427387904) && decide (t.loop.2≤4611686018427387904))
theorem zmq {fuel:Nat}(hf:5<fuel)(a b:Int):z2i fuel [a,b]=some (if a<b then b else a):=by
 unfold z2i;obtain⟨f,rfl⟩: ∃f,fuel=f+2:=⟨fuel-2,by omega⟩;have w:zzi.wrap 2=2:=by rw[z2x (by omega) (by omega)]
 simp[loopN,outK,need,bf,w]
theorem zfz {fuel:Nat}(hf:5<fuel)(t:Time):z7b fuel [t]=some (if okT t then 0 else 1):=by
 unfold z7b okT;simp only[List.length_cons,List.length_nil,zzb,z0k,List.getD_cons_zero,zmq hf,zz0,z0g,mx_eq];by_cases h:4611686018427387904<max t.epoch (max t.loop.1 t.loop.2)
 ·rw[if_pos h];simp only[outK];rw[if_neg (by simp only[Bool.and_eq_true,decide_eq_true_eq];omega)]
 ·rw[if_neg h];simp only[outK];rw[if_pos (by simp only[Bool.and_eq_true,decide_eq_true_eq];omega)]
end Go.Av
namespace Go.Av
open Go
section
variable {α X Y:Type}
inductive R2 (r:X→Y→Prop):List X→List Y→Prop
 |nil:R2 r [] []
 |cons {x:X} {y:Y} {a:List X} {b:List Y} (h:r x y) (t:R2 r a b):R2 r (x::a) (y::b)
theorem R2.len {r:X→Y→Prop}{a:List X}{b:List Y}(h:R2 r a b):a.length=b.length:=by induction h<;>simp_all
theorem R2.app {r:X→Y→Prop}{a a':List X}{b b':List Y}(h:R2 r a b)(h':R2 r a' b'):R2 r (a++a') (b++b'):=by
 induction h with
 |nil=>exact h'
 |cons h _ ih=>exact .cons h ih
theorem R2.split {r:X→Y→Prop}: ∀{b b':List Y} {a:List X},R2 r a (b++b')→ ∃a1 a2,a=a1++a2∧R2 r a1 b∧R2 r a2 b'
 |[],b',a,h=>⟨[],a,rfl,.nil,h⟩
 |y::b,b',_,h=>by
  cases h with
  |cons h t=>
   obtain⟨a1,a2,rfl,h1,h2⟩:=R2.split t;exact⟨_::a1,a2,rfl,.cons h h1,h2⟩
theorem R2.get [Inhabited X][Inhabited Y]{r:X→Y→Prop}{a:List X}{b:List Y}(h:R2 r a b): ∀{i:Nat},i<b.length→r (a.getD i zzd) (b.getD i zzd):=by
 induction h with
 |nil=>intro i hi;simp at hi
 |cons h _ ih=>
  intro i hi;cases i with
  |zero=>exact h
  |succ i=>exact ih (by simpa using hi)
theorem R2.one {r:X→Y→Prop}{x:X}{y:Y}(h:r x y):R2 r [x] [y]:= .cons h .nil
theorem zly {S R Q:Type}{G:Option Q→Prop}{B:Nat→S→Option (Ctl S R)}{n:Nat}{s:S}{kn:S→Option Q}{kr:R→Option Q}(I:Nat→S→Prop)(D:S→Prop)(J:R→Prop)(h0:I 0 s)(hD: ∀s,I n s→D s)(hk: ∀s,D s→G (kn s))(hr: ∀r,J r→G (kr r))
 (hs: ∀i s,i<n→I i s→(∃s',B i s=some (.next s')∧I (i+1) s')∨(∃s',B i s=some (.brk s')∧D s')∨ ∃r,B i s=some (.ret r)∧J r):G (outK (z0k B n 0 s) kn kr):=by
 rcases ziq I D J h0 hs hD with⟨s',h1,h2⟩|⟨r,h1,h2⟩
 ·rw[h1];exact hk s' h2
 ·rw[h1];exact hr r h2
theorem zgi [Inhabited X](a:List X)(x:X):(a++[x]).getD a.length zzd=x:=by simp[List.getD_eq_getElem?_getD]
theorem zmz (a b:List X)(x y:X):(a++x::b).set a.length y=a++y::b:=by simp[List.set_append]
def PR (num:α→Int)(l:List α):List (α×Int):=l.map fun x=>(x,num x)
theorem zg7 (num:α→Int)(l l':List α):PR num (l++l')=PR num l++PR num l':=by simp[PR]
theorem z99 {num:α→Int}{l:List α}{p:α×Int}:p∈PR num l↔ ∃x∈l,(x,num x)=p:=by simp[PR]
theorem zi3 {c:α→α→Int}{y:α}: ∀{l:List (α×Int)},(∀p∈l,in64 p.2)→ -9223372036854775808*(l.length:Int)≤sm c l y∧sm c l y≤9223372036854775808*(l.length:Int)
 |[],_=>by simp[sm]
 |p::l,h=>by
  have h1:=zi3 (c:=c) (y:=y) (l:=l) fun q hq=>h q (zz6 _ hq);have h2:=h p (zz3 ..)
  unfold in64 at h2;simp only[sm,List.length_cons];split<;>omega
theorem zcc {c:α→α→Int}{num:α→Int}{put:α→Int→α}{l l':List (α×Int)}{R:List α}{e:Int}(hp:l.Perm l')(h:Tot c num put l R e):Tot c num put l' R e:=by
 have hs: ∀y,sm c l y=sm c l' y:=zjd hp;rcases h with⟨h1,h2,h3⟩|⟨h1,h2,h3⟩
 ·refine .inl ⟨h1,⟨h2.strict,fun r hr=>?_,fun r hr=>?_,fun y hy hn=>?_⟩,fun y=>?_⟩
  ·rw[←hs];exact h2.sum r hr
  ·obtain⟨y,g1,g2⟩:=h2.mem r hr;exact⟨y,hp.mem_iff.1 g1,g2⟩
  ·exact h2.all y (hp.mem_iff.2 hy) (by rw[hs];exact hn)
  ·rw[←hs];exact h3 y
 ·refine .inr ⟨h1,h2,fun h=>h3 fun y=>?_⟩;rw[hs];exact h y
theorem zkn (put:α→Int→α)(S S':List (α×Int)):left0 put (S++S')=left0 put S++left0 put S':=by simp[left0]
theorem zko (put:α→Int→α)(p:α×Int):left0 put [p]=if p.2=0 then[]else[put p.1 p.2]:=by
 unfold left0;by_cases h:p.2=0<;>simp[h]
theorem zgm (put:α→Int→α)(S:List (α×Int)):(left0 put S).length≤S.length:=by
 unfold left0;rw[List.length_map];exact List.length_filter_le _ _
def fit64 (s:Int):Int×Int:=if -9223372036854775808≤s∧s<9223372036854775808 then(s,0)else(0,10)
theorem zad {s:Int}(h:in64 s):fit64 s=(s,0):=if_pos h
theorem z9g {s:Int}(h: ¬in64 s):fit64 s=(0,10):=if_neg h
def repT (t:Tally)(s:Int):Prop:=inU64 t.high∧inU64 t.low∧(t.high*18446744073709551616+t.low-s) % 340282366920938463463374607431768211456=0
end
end Go.Av
namespace Go.Av
open Go
def cU (a b:Update):Int:=thenC (cmpL cmpV a.key b.key) (thenC (cmpL cmpV a.row b.row) (cmpT a.time b.time))
theorem cU_is:IsCmp cU:=(z87.list.on fun u:Update=>u.key).lex ((z87.list.on fun u:Update=>u.row).lex (zb1.on fun u:Update=>u.time))
theorem z54 (a b:Update):z1y a b=some (cU a b):=by
 unfold z1y cU;simp only[z6u,z9r,zf8,zz0]
def z33 (x:Update)(n:Int):Update:=⟨x.key,x.row,x.time,n⟩
theorem zk1 {x:Update}{n:Int}(h:x.row.length≤8):z6a x n=some (z33 x n):=rfl
def z9m (x:Line_Update)(p:Update×Int):Prop:=x.of=p.1∧repT x.tally p.2
theorem zjo {a:List Line_Update}{x:Line_Update}{p s:Int}(hp:in64 p)(h:repT x.tally s):
 ∃t:Tally,z3f a.length p (a++[x])=some (a++[(⟨t,x.of⟩:Line_Update)])∧repT t (s+p):=by
 obtain⟨hh,hl,hs⟩:=h;unfold in64 inU64 repT at*;unfold z3f z8k;simp only[zgi,zmz,List.length_set,List.length_append,List.length_singleton,shr63 hp,z86];rw[z0a (by omega),z0a (by omega)];simp only[zz0];rw[z0a (by omega),z0a (by omega),z0a (by split<;>omega)];simp only[zz0];rw[z0a (by omega)];refine⟨_,rfl,?_,?_,?_⟩
 ·simp only[inU64];omega
 ·simp only[inU64];omega
 ·simp only;split<;>omega
theorem zjv {x:Line_Update}{s:Int}(h:repT x.tally s)(hb: -85070591730234615865843651857942052864≤s∧s≤85070591730234615865843651857942052864):z3g x=some ((fit64 s).1,(fit64 s).2,x):=by
 obtain⟨hh,hl,hs⟩:=h;unfold inU64 at*;have hw:in64 (zzi.wrap x.tally.low):=by unfold in64;rw[zce];split<;>omega
 unfold z3g;rw[shr63 hw,z86];by_cases h: -9223372036854775808≤s∧s<9223372036854775808
 ·rw[zad h];have e1:zzi.wrap x.tally.low=s:=by rw[zce];split<;>omega
  rw[e1];have e2:x.tally.high=(if s<0 then(-1:Int)else 0) % 18446744073709551616:=by split<;>omega
  rw[decide_eq_true e2];rfl
 ·rw[z9g h];have e2: ¬x.tally.high=(if zzi.wrap x.tally.low<0 then(-1:Int)else 0) % 18446744073709551616:=by
   rw[zce];split<;>split<;>omega
  rw[decide_eq_false e2];rfl
theorem zl3:z20=rotG (α:=Update):=rfl
theorem zkm:z19=insG (α:=Update) z1y:=rfl
theorem zgs: ∀(fuel:Nat) (a b d:Int) (l:List Update),z0l fuel a b d l=symG (α:=Update) z1y fuel a b d l
 |0,_,_,_,_=>rfl
 |fuel+1,a,b,d,l=>by
  unfold z0l symG;simp only[zl3,zgs fuel]
theorem zfn (fuel:Nat)(n:Int)(l:List Update):z1j fuel n l=stabG (α:=Update) z1y fuel n l:=by
 unfold z1j stabG;simp only[zkm,zgs]
theorem zit {fuel:Nat}{l:List Update}(hl: ∀x∈l,in64 x.diff)(hr: ∀x∈l,x.row.length≤8)(hn:l.length≤8000000000)(hf:40000000000≤fuel):
 ∃R e l',z0m fuel l=some (R,e,l')∧Tot cU (fun x=>x.diff) z33 (PR (fun x=>x.diff) l) R e∧R.length≤l.length:=by
 obtain⟨r1,h1,h2,h3⟩:=zca (c:=cU) z54 cU_is (fuel:=fuel) (l:=l) (by omega) (by omega);have hlen:r1.length=l.length:=h2.length_eq
 unfold z0m z0b;rw[zfn,h1];simp only[zz0];rw[z0a hlen]
 suffices hS: ∃R e,(_:Option ((List Update)×Int×(List Update)))=some (R,e,r1)∧Tot cU (fun x=>x.diff) z33 (PR (fun x=>x.diff) r1) R e∧R.length≤r1.length by
  obtain⟨R,e,g1,g2,g3⟩:=hS;refine⟨R,e,r1,?_,zcc ?_ g2,by omega⟩
  ·exact g1
  ·exact h2.map _
 have hl1: ∀x∈r1,in64 x.diff:=fun x hx=>hl x (h2.mem_iff.1 hx);have hr1: ∀x∈r1,x.row.length≤8:=fun x hx=>hr x (h2.mem_iff.1 hx)
 refine z8s (G:=fun q=> ∃R e,q=some (R,e,r1)∧Tot cU (fun x=>x.diff) z33 (PR (fun x=>x.diff) r1) R e∧R.length≤r1.length) (P:=fun a=> ∃S,R2 z9m a S∧SS cU (PR (fun x=>x.diff) r1) S∧S.length≤r1.length) ?_ ?_
 ·have:=fun B h=>zfe (R:=Empty) (B:=B) (n:=r1.length) (fun i (a:List Line_Update)=> ∃S,R2 z9m a S∧SS cU (PR (fun x=>x.diff) (r1.take i)) S∧S.length≤i) (s:=([]:List Line_Update)) ⟨[],.nil,zno,zze _⟩ h;simp only[List.take_length]at this;refine this _ ?_;rintro i a hi ⟨S,k1,k2,k3⟩;have hx:=hl1 _ (z5j hi)
  rw[zzb,z0a hi];have htk:PR (fun x:Update=>x.diff) (r1.take (i+1))=PR (fun x=>x.diff) (r1.take i)++[(r1.getD i zzd,(r1.getD i zzd).diff)]:=by
   rw[z3l hi,zg7];rfl
  have hle: ∀p∈S,cU p.1 (r1.getD i zzd)≤0:=fun p hp=>by
   obtain⟨y,g1,g2⟩:=k2.mem p hp;obtain⟨z,g3,g4⟩:=z99.1 g1;obtain⟨j,hj,g5⟩:=List.mem_iff_getElem.1 g3;rw[List.length_take]at hj;have:=h3 j i (by omega) hi
   rw[←g2,←g4];simp only;rw[←g5,List.getElem_take];rw[List.getD_eq_getElem?_getD,List.getElem?_eq_getElem (by omega:j<r1.length)]at this;exact this
  generalize hxe:r1.getD i zzd=x at*;rw[htk];clear htk
  let G:Option (Ctl (List Line_Update) Empty)→Prop:=fun q=> ∃s',q=some (.next s')∧ ∃S,R2 z9m s' S∧SS cU (PR (fun x=>x.diff) (r1.take i)++[(x,x.diff)]) S∧S.length≤i+1
  refine jn_P (G:=G) (P:=fun b=> ∃(b':List Line_Update) (y:Line_Update) (S':List (Update×Int)) (s:Int),b=b'++[y]∧b.length≤i+1∧R2 z9m b' S'∧repT y.tally s∧SS cU (PR (fun x=>x.diff) (r1.take i)++[(x,x.diff)]) (S'++[(y.of,s+x.diff)])) ?_ ?_
  ·rintro _ ⟨b',y,S',s,rfl,q0,q1,q2,q3⟩;simp only[List.length_append,List.length_singleton]at q0 ⊢;rw[wsub1 (by omega) (by omega),z0a (by omega)];obtain⟨t,g1,g2⟩:=zjo (a:=b') (x:=y) hx q2;unfold z69;simp only[zz0,Nat.add_sub_cancel,zzb,zzj];rw[g1];simp only[zz0];rw[z0a (by simp)];refine⟨_,rfl,_,R2.app q1 (R2.one (show z9m ⟨t,y.of⟩ (y.of,s+x.diff)from⟨rfl,g2⟩)),q3,?_⟩;have:=q1.len
   simp only[List.length_append,List.length_singleton];omega
  ·simp only[jn_eq,z0g];have hlen2:=k1.len
   rcases List.eq_nil_or_concat S with rfl|⟨A,p,rfl⟩
   ·have ha:a=[]:=List.eq_nil_of_length_eq_zero hlen2;subst ha;rw[if_pos (by simp),z3x,z0a (by simp)];refine⟨_,⟨[],_,[],0,rfl,by simp,.nil,by simp[repT,inU64],?_⟩,rfl⟩;have:=zl6 (A:=[]) (B:=[]) (x:=x) (n:=x.diff) cU_is k2 (fun p hp=>by cases hp) (fun p hp=>by cases hp)
    simpa using this
   ·simp only[List.concat_eq_append]at*;obtain⟨a1,a2,rfl,u1,u2⟩:=R2.split k1;cases u2 with
    | @cons y _ _ _ v t=>
     cases t;obtain⟨v1,v2⟩:=v;have e1:(a1++[y]).length=a1.length+1:=by simp
     have e2:=u1.len;simp only[List.length_append,List.length_singleton]at k3;rw[if_neg (by omega),e1,wsub1 (by omega) (by omega),z0a (by omega)];simp only[Nat.add_sub_cancel,zzb,zzj,zgi];rw[z0a (by omega),z54,v1];simp only[zz0];by_cases g:cU p.1 x=0
     ·rw[decide_eq_true g];simp only[Bool.not_true,z25];refine⟨_,⟨a1,y,A,p.2,rfl,by omega,u1,v2,?_⟩,?_⟩
      ·rw[v1];exact znn cU_is k2 g
      ·rw[e1,wsub1 (by omega) (by omega)];simp only[Nat.add_sub_cancel,zzj]
     ·rw[decide_eq_false g];simp only[Bool.not_false,z3x];rw[z0a (by simp;omega)];refine⟨_,⟨a1++[y],_,A++[p],0,rfl,by simp;omega,k1,by simp[repT,inU64],?_⟩,rfl⟩;have:=zl6 (A:=A++[p]) (B:=[]) (x:=x) (n:=x.diff) cU_is (by simpa using k2) (fun q hq=>by
       have h4:=hle p (by simp);have h5:cU q.1 p.1≤0:=by
        rcases zz2.1 hq with hq|hq
        ·have h6:=k2.strict;rw[List.pairwise_append]at h6;have:=h6.2.2 q hq p (by simp)
         omega
        ·rw[zz8.1 hq,cU_is.refl];omega
       have h7:=cU_is.tr _ _ _ h5 h4;by_cases h8:cU q.1 x=0
       ·exfalso;have h9:cU x p.1≤0:=by rw[←cU_is.eqL p.1 h8];exact h5
        have:=cU_is.anti p.1 x;omega
       ·omega) (fun q hq=>by cases hq)
      simpa using this
 ·rintro a ⟨S,k1,k2,k3⟩;have hb: ∀i,i<S.length→ -85070591730234615865843651857942052864≤(S.getD i zzd).2∧(S.getD i zzd).2≤85070591730234615865843651857942052864:=fun i hi=>by
   rw[k2.sum _ (z5j hi)];have:=zi3 (c:=cU) (y:=(S.getD i zzd).1) (l:=PR (fun x=>x.diff) r1) (fun p hp=>by
    obtain⟨z,g1,g2⟩:=z99.1 hp;rw[←g2];exact hl1 z g1)
   have e:(PR (fun x:Update=>x.diff) r1).length=r1.length:=by simp[PR]
   rw[e]at this;omega
  have hrow: ∀i,i<S.length→(S.getD i zzd).1.row.length≤8:=fun i hi=>by
   obtain⟨y,g1,g2⟩:=k2.mem _ (z5j hi);obtain⟨z,g3,g4⟩:=z99.1 g1;rw[←g2,←g4];exact hr1 z g3
  have hlen2:=k1.len;rw[hlen2];refine zly (G:=fun q=> ∃R e,q=some (R,e,r1)∧Tot cU (fun x=>x.diff) z33 (PR (fun x=>x.diff) r1) R e∧R.length≤r1.length) (fun i (b:List Update)=>(∀j,j<i→in64 (S.getD j zzd).2)∧b=left0 z33 (S.take i)) (fun b=>(∀j,j<S.length→in64 (S.getD j zzd).2)∧b=left0 z33 S) (fun r=>r=([],10,r1)∧ ∃j,j<S.length∧ ¬in64 (S.getD j zzd).2) ⟨fun j hj=>by omega,rfl⟩ (fun b hb=>by
   rw[List.take_length]at hb;exact hb) ?_ ?_ ?_
  rotate_left 2
  ·rintro i b hi ⟨m1,m2⟩;obtain⟨v1,v2⟩:=k1.get hi;rw[zzb,z0a hi,zjv v2 (hb i hi)];simp only[zz0,z2s,z0g];by_cases g:in64 (S.getD i zzd).2
   ·left;rw[zad g,v1];have hput:=zk1 (x:=(S.getD i zzd).1) (n:=(S.getD i zzd).2) (hrow i hi)
    have hlb:b.length≤i:=by
     rw[m2];have:=zgm z33 (S.take i);rw[List.length_take]at this;omega
    rw[z3l hi,zkn,zko,←m2];have m3: ∀j,j<i+1→in64 (S.getD j zzd).2:=fun j hj=>by
     by_cases e:j=i
     ·subst e;exact g
     ·exact m1 j (by omega)
    by_cases g2:(S.getD i zzd).2=0
    ·exact⟨b,by simp only[if_true,if_pos g2],m3,by rw[if_pos g2,List.append_nil]⟩
    ·refine⟨b++[z33 (S.getD i zzd).1 (S.getD i zzd).2],?_,m3,by rw[if_neg g2]⟩;simp only[if_true,if_neg g2,hput,zz0];rw[z0a (by simp;omega)]
   ·right;right;rw[z9g g];exact⟨_,rfl,rfl,i,hi,g⟩
  ·rintro b ⟨g2,g3⟩;refine⟨_,_,rfl,.inl ⟨rfl,?_,?_⟩,by rw[g3];have:=zgm z33 S;omega⟩
   ·rw[g3];exact znj (num:=fun x=>x.diff) (put:=z33) cU_is (fun x n=>rfl) (fun x n y=>rfl) k2
   ·rw[zje cU_is k2];intro p hp;obtain⟨j,hj,e⟩:=List.mem_iff_getElem.1 hp;have:=g2 j hj
    rw[List.getD_eq_getElem?_getD,List.getElem?_eq_getElem hj]at this;rw[←e];exact this
  ·rintro r ⟨g2,j,g3,g4⟩;rw[g2];refine⟨_,_,rfl,.inr ⟨rfl,rfl,?_⟩,Nat.zero_le _⟩;rw[zje cU_is k2];intro h;exact g4 (h _ (z5j g3))
end Go.Av
namespace Go.Av
open Go
theorem zn1 (v:Int):thenC 0 v=v:=rfl
theorem zdy {u v:Int}(h:u≠0):thenC u v=u:=if_neg h
theorem zfd {X:Type}[Inhabited X]{R:Type}{B:Nat→Unit→Option (Ctl Unit R)}{l:List X}(e:X→Int)(f:Int→R)(hB: ∀i,i<l.length→B i ()=if e (l.getD i zzd)=0 then some (.next ())else some (.ret (f (e (l.getD i zzd))))):
 z0k B l.length 0 ()=if l.foldr (fun x v=>thenC (e x) v) 0=0 then some (.done ())else some (.ret (f (l.foldr (fun x v=>thenC (e x) v) 0))):=by
 have key: ∀k i,i+k=l.length→z0k B k i ()=if(l.drop i).foldr (fun x v=>thenC (e x) v) 0=0 then some (.done ())else some (.ret (f ((l.drop i).foldr (fun x v=>thenC (e x) v) 0))):=by
  intro k;induction k with
  |zero=>
   intro i hi;rw[List.drop_eq_nil_of_le (by omega)];rfl
  |succ k ih=>
   intro i hi;rw[z3z (by omega:i<l.length)];simp only[z0k,hB i (by omega),List.foldr_cons];by_cases h:e (l.getD i zzd)=0
   ·simp only[h,if_true,zn1];exact ih (i+1) (by omega)
   ·simp only[zdy h,if_neg h]
 have:=key l.length 0 (by omega);rwa[List.drop_zero]at this
def errU (u:Update):Int:=thenC (if okRow u.key then 0 else 4) (thenC (if okRow u.row then 0 else 4) (if okT u.time then 0 else 1))
def chkL (l:List Update):Int:=l.foldr (fun u v=>thenC (errU u) v) 0
def okU (u:Update):Prop:=okRow u.key=true∧okRow u.row=true∧okT u.time=true
theorem zkh {u:Update}:errU u=0↔okU u:=by
 unfold errU okU thenC;by_cases h1:okRow u.key=true<;>by_cases h2:okRow u.row=true<;>by_cases h3:okT u.time=true<;>simp[h1,h2,h3]
theorem z70 {u v:Int}:thenC u v=0↔u=0∧v=0:=by unfold thenC;split<;>omega
theorem z9d {l:List Update}:chkL l=0↔ ∀u∈l,okU u:=by
 induction l with
 |nil=>simp[chkL]
 |cons u l ih=>
  unfold chkL at*;rw[List.foldr_cons,z70,zkh,ih];simp
theorem zir (u v w:Int):thenC (thenC u v) w=thenC u (thenC v w):=by
 by_cases h1:u=0
 ·subst h1;rfl
 ·rw[zdy h1,zdy h1,zdy h1]
theorem zif (a b:List Update):chkL (a++b)=thenC (chkL a) (chkL b):=by
 induction a with
 |nil=>simp[chkL,thenC]
 |cons u a ih=>
  unfold chkL at*;rw[List.cons_append,List.foldr_cons,List.foldr_cons,ih,zir]
theorem z8n {fuel:Nat}(hf:5<fuel)(l:List Update):z51 fuel l=some (chkL l):=by
 unfold z51;rw[zfd errU (fun x=>x)]
 ·show outK (if chkL l=0 then _ else some (.ret (chkL l))) _ _=_;split
  ·rename_i h;rw[h];rfl
  ·rfl
 ·intro i hi;rw[z7z,z7z,zfz hf];simp only[zz0,znh,z2s,z0g];rfl
theorem ziz {a b:Update}(ha:okU a)(hb:okU b)(h:cU a b=0)(hd:a.diff=b.diff):a=b:=by
 unfold cU at h;rw[z70,z70,za4 (z6f ha.1).1 (z6f hb.1).1,za4 (z6f ha.2.1).1 (z6f hb.2.1).1,zgb]at h;rcases a with⟨k,r,t,d⟩;rcases b with⟨k',r',t',d'⟩;obtain⟨e1,e2,e3⟩:=h;simp only at e1 e2 e3 hd;rw[e1,e2,e3,hd]
theorem zh8 {p:List Value}(h:p.length≤8):z0s p=some p:=by
 unfold z0s;rw[z0a (by omega)]
theorem zj6 {u:Update}(h:okU u):u.key.length≤8∧u.row.length≤8:=⟨(z6f h.1).2,(z6f h.2.1).2⟩
theorem zhz {X:Type}[Inhabited X]{l:List X}{i:Nat}(h:i<l.length):l.set i (l.getD i zzd)=l:=by
 rw[List.getD_eq_getElem?_getD,List.getElem?_eq_getElem h];exact List.set_getElem_self h
theorem zni {l:List Update}(h: ∀u∈l,okU u)(hn:l.length≤8000000000):za8 l=some l:=by
 unfold za8;have hlim:(l.length:Int)≤(lim:Int):=by simp only[lim];omega
 rw[z0a ⟨by omega,by omega,hlim⟩,z0a (by simp)];have e:copyL (zz9 l.length ((⟨([]:List Value),([]:List Value),(⟨0,(0,0)⟩:Time),0⟩:Update):Update)) l=l:=by
  unfold copyL;rw[List.drop_eq_nil_of_le (by simp)];simp
 rw[e];rw[z5k l (fun i a=>a=l) (fun s hs=>hs)]
 ·rfl
 ·intro i a hi ha;subst ha;obtain⟨h1,h2⟩:=zj6 (h _ (z5j hi));refine⟨_,?_,rfl⟩;have e1:(⟨(a.getD i zzd).key,(a.getD i zzd).row,(a.getD i zzd).time,(a.getD i zzd).diff⟩:Update)=a.getD i zzd:=rfl
  simp only[zzb];rw[z0a (by omega),z0a hi,zh8 h1];simp only[zz0];rw[z0a (by omega),z0a hi,zh8 h2];simp only[zz0];rw[z0a (by omega),z0a hi,z0a (by omega),z0a (by simp;exact hi),e1,zhz hi,e1,zhz hi]
 ·rfl
end Go.Av
namespace Go.Av
open Go
theorem zjc {x:Int}(h:in64 x):z89 x=some (if x<0 then -x else x):=by
 unfold in64 at h;unfold z89;simp only[z0g,z86];split
 ·congr 1;omega
 ·congr 1;omega
theorem zls {x y:Int}(hx:0≤x∧x≤9223372036854775808)(hy:0≤y∧y≤9223372036854775808):z6e x y=some (x*y / 18446744073709551616,x*y % 18446744073709551616):=by
 unfold z6e;rw[zbo (x:=x) ⟨by omega,by omega⟩,zbo (x:=y) ⟨by omega,by omega⟩];simp only[shr32,z86];obtain⟨a,b,rfl,ha,hb⟩: ∃a b,x=a*4294967296+b∧(0≤a∧a≤2147483648)∧(0≤b∧b<4294967296):=⟨x / 4294967296,x % 4294967296,by omega,by omega,by omega⟩;obtain⟨c,d,rfl,hc,hd⟩: ∃c d,y=c*4294967296+d∧(0≤c∧c≤2147483648)∧(0≤d∧d<4294967296):=⟨y / 4294967296,y % 4294967296,by omega,by omega,by omega⟩;have e1:(a*4294967296+b) / 4294967296=a:=by omega
 have e2:(a*4294967296+b) % 4294967296=b:=by omega
 have e3:(c*4294967296+d) / 4294967296=c:=by omega
 have e4:(c*4294967296+d) % 4294967296=d:=by omega
 rw[e1,e2,e3,e4];have hexp:(a*4294967296+b)*(c*4294967296+d)=(a*c)*18446744073709551616+(a*d+b*c)*4294967296+b*d:=by
  rw[Int.add_mul,Int.mul_add,Int.mul_add,Int.add_mul];have p1:a*4294967296*(c*4294967296)=(a*c)*18446744073709551616:=by
   rw[Int.mul_assoc,←Int.mul_assoc 4294967296,Int.mul_comm 4294967296 c,Int.mul_assoc c,←Int.mul_assoc a];rfl
  have p2:a*4294967296*d=a*d*4294967296:=by rw[Int.mul_assoc,Int.mul_comm 4294967296 d,←Int.mul_assoc]
  have p3:b*(c*4294967296)=b*c*4294967296:=by rw[←Int.mul_assoc]
  rw[p1,p2,p3];omega
 rw[hexp];have q1:0≤a*c∧a*c≤2147483648*2147483648:=⟨Int.mul_nonneg ha.1 hc.1,Int.mul_le_mul ha.2 hc.2 hc.1 (by omega)⟩;have q2:0≤a*d∧a*d≤2147483648*4294967295:=⟨Int.mul_nonneg ha.1 hd.1,Int.mul_le_mul ha.2 (by omega) hd.1 (by omega)⟩
 have q3:0≤b*c∧b*c≤4294967295*2147483648:=⟨Int.mul_nonneg hb.1 hc.1,Int.mul_le_mul (by omega) hc.2 hc.1 (by omega)⟩;have q4:0≤b*d∧b*d≤4294967295*4294967295:=⟨Int.mul_nonneg hb.1 hd.1,Int.mul_le_mul (by omega) (by omega) hd.1 (by omega)⟩
 generalize a*c=A at*;generalize a*d=B at*;generalize b*c=C at*;generalize b*d=D at*;have m1:(B % 18446744073709551616+D % 18446744073709551616 / 4294967296) % 18446744073709551616=B+D / 4294967296:=by omega
 rw[m1,zbo (x:=B+D / 4294967296) ⟨by omega,by omega⟩];congr 2;omega
theorem zd1 {a b:Int}(ha:in64 a)(hb:in64 b):z7j a b=some (fit64 (a*b)):=by
 unfold z7j;rw[zjc ha,zjc hb];unfold in64 at ha hb;simp only[zz0];rw[zls (by split<;>omega) (by split<;>omega)];simp only[zz0,jn_eq];have hneg: ∀x y:Int,(-x)*y= -(x*y):=Int.neg_mul
 have key: ∀(P m:Int),0≤P→(m=9223372036854775807∨m=9223372036854775808)→(a*b=P∧m=9223372036854775807∨a*b= -P∧m=9223372036854775808)→P<340282366920938463463374607431768211456→
  (bf (!decide (P / 18446744073709551616=0)) (bf true (some ((0:Int),(10:Int))) (some (zzi.wrap (a*b),0))) (bf (decide (m<P % 18446744073709551616)) (some (0,10)) (some (zzi.wrap (a*b),0))))=some (fit64 (a*b)):=by
  intro P m hP hm hab hlt;by_cases h:in64 (a*b)
  ·rw[zad h,ziu h];unfold in64 at h;have h1:P / 18446744073709551616=0:=by omega
   have h2: ¬m<P % 18446744073709551616:=by omega
   rw[decide_eq_true h1,decide_eq_false h2];rfl
  ·rw[z9g h];unfold in64 at h;by_cases h1:P / 18446744073709551616=0
   ·have h2:m<P % 18446744073709551616:=by omega
    rw[decide_eq_true h1,decide_eq_true h2];rfl
   ·rw[decide_eq_false h1];rfl
 have hbnd: ∀x y:Int,0≤x→x≤9223372036854775808→0≤y→y≤9223372036854775808→0≤x*y∧x*y<340282366920938463463374607431768211456:=fun x y h1 h2 h3 h4=>⟨Int.mul_nonneg h1 h3,by
  have:=Int.mul_le_mul h2 h4 h3 (by omega);omega⟩
 by_cases h1:a<0<;>by_cases h2:b<0
 ·rw[if_pos h1,if_pos h2,decide_eq_true h1,decide_eq_true h2];have hb:=hbnd (-a) (-b) (by omega) (by omega) (by omega) (by omega);have e: -a* -b=a*b:=Int.neg_mul_neg a b
  simp only[beq_self_eq_true,z3x];rw[z86];exact key _ _ hb.1 (.inl (by omega)) (.inl ⟨e.symm,by omega⟩) hb.2
 ·rw[if_pos h1,if_neg h2,decide_eq_true h1,decide_eq_false h2];have hb:=hbnd (-a) b (by omega) (by omega) (by omega) (by omega);have e: -a*b= -(a*b):=Int.neg_mul a b
  show bf false _ _=_;simp only[z25];exact key _ _ hb.1 (.inr rfl) (.inr ⟨by omega,rfl⟩) hb.2
 ·rw[if_neg h1,if_pos h2,decide_eq_false h1,decide_eq_true h2];have hb:=hbnd a (-b) (by omega) (by omega) (by omega) (by omega);have e:a* -b= -(a*b):=Int.mul_neg a b
  show bf false _ _=_;simp only[z25];exact key _ _ hb.1 (.inr rfl) (.inr ⟨by omega,rfl⟩) hb.2
 ·rw[if_neg h1,if_neg h2,decide_eq_false h1,decide_eq_false h2];have hb:=hbnd a b (by omega) (by omega) (by omega) (by omega);simp only[beq_self_eq_true,z3x];rw[z86];exact key _ _ hb.1 (.inl (by omega)) (.inl ⟨rfl,by omega⟩) hb.2
end Go.Av
namespace Go.Av
open Go
def zhh (rows:List (List Value)):List Value×Int:=
 if rows.all okRow then(if 8<rows.flatten.length then([],2)else(rows.flatten,0))else([],4)
theorem zin {rows:List (List Value)}(h: ∀r∈rows,r.length≤8):rows.flatten.length≤8*rows.length:=by
 induction rows with
 |nil=>simp
 |cons r rows ih=>
  have h1:=h r (zz3 ..);have h2:=ih fun x hx=>h x (zz6 _ hx)
  simp only[List.flatten_cons,List.length_append,List.length_cons];omega
theorem z8v {X:Type}{rows:List (List X)}{i:Nat}(h:i<rows.length):(rows.take (i+1)).flatten=(rows.take i).flatten++rows.getD i zzd:=by
 rw[z3l h,List.flatten_append];simp
theorem zmj {n:Int}(h:0≤n∧n≤274877906944):z16 n=some []:=by
 unfold z16;have e:zzi.wrap (n-zzi.wrap ((0:Int)-0))=n:=by
  rw[z2x (n:=(0:Int)-0) (by omega) (by omega)];rw[z2x (by omega) (by omega)];omega
 simp only[e,z0g,jn_eq,if_neg (by omega: ¬n<0)];have hlim:(lim:Int)=274877906944:=rfl
 by_cases h0:0<n
 ·rw[if_pos h0,z0a (by omega),z0a (by refine⟨by omega,by omega,by omega⟩)];rw[List.take_zero]
 ·rw[if_neg h0]
theorem zkg {rows:List (List Value)}(h:rows.flatten.length≤274877906944):z12 rows=some rows.flatten:=by
 unfold z12;have hpre: ∀i,(rows.take i).flatten.length≤rows.flatten.length:=fun i=>by
  have:rows.flatten=(rows.take i).flatten++(rows.drop i).flatten:=by rw[←List.flatten_append,List.take_append_drop]
  rw[this,List.length_append];omega
 rw[z5k (rows.flatten.length:Int) (fun i a=>a=((rows.take i).flatten.length:Int)) (fun s h=>by rw[h,List.take_length])]
 ·simp only[z4n];rw[zmj (by omega),zz0];rw[z5k rows.flatten (fun i a=>a=(rows.take i).flatten) (fun s h=>by rw[h,List.take_length])]
  ·rfl
  ·intro i a hi ha;have h1:=hpre (i+1)
   rw[z8v hi,List.length_append]at h1;refine⟨_,?_,rfl⟩;rw[z0a (by rw[ha];omega),z8v hi,ha]
  ·rfl
 ·intro i a hi ha;have h1:=hpre (i+1)
  rw[z8v hi,List.length_append]at h1;refine⟨_,?_,rfl⟩;rw[z8v hi,List.length_append,ha];rw[z2x (by omega) (by omega),decide_eq_false (by omega)];simp
 ·rfl
theorem zi9 {rows:List (List Value)}(h:rows.length≤1048576):z7m rows=some (zhh rows):=by
 unfold z7m zhh;simp only[z7z,zz0];have hall:(rows.any fun r=> !okRow r)= !(rows.all okRow):=by rw[List.any_eq_not_all_not];simp
 rcases zfc (S:=Unit) (R:=List Value×Int) (l:=rows) (fun r=> !okRow r) (fun _=>([],4)) (s:=()) (B:=fun i1 (a2:Unit)=>bf (!decide ((if okRow (rows.getD i1 zzd)=true then(0:Int)else 4)=0)) (some (.ret (([]:List Value),(if okRow (rows.getD i1 zzd)=true then(0:Int)else 4)))) (some (.next ()))) (fun i hi=>by
  cases okRow (rows.getD i zzd)<;>rfl)with⟨h1,h2⟩|⟨h1,i,_,_,h2⟩
 ·rw[h2];rw[hall]at h1;have ha:rows.all okRow=true:=by simpa using h1
  rw[if_pos ha];have hl:=zin (rows:=rows) fun r hr=>(z6f (List.all_eq_true.1 ha r hr)).2;simp only[z4n];rw[zkg (by omega)];simp only[zz0,z0g];by_cases h8:8<rows.flatten.length
  ·rw[if_pos h8,if_pos (by omega)]
  ·rw[if_neg h8,if_neg (by omega)]
 ·rw[h2];rw[hall]at h1;have ha:rows.all okRow=false:=by simpa using h1
  rw[ha];rfl
theorem all_append {a b:List Value}:(a++b).all z4d=(a.all z4d && b.all z4d):=List.all_append ..
end Go.Av
namespace Go.Av
open Go
section
variable {α:Type} [Inhabited α]
def growG (z:α)(p1:Int):Option (List α):=
 bf (decide (p1<0)) (none) (jn (fun(a1:List α)=>some a1) fun j2=>bf (decide (0<(zzi.wrap (p1-(zzi.wrap ((0:Int)-0)))))) (need ((0:Int)<(zzi.wrap (p1-(zzi.wrap ((0:Int)-0))))∧(zzi.wrap (p1-(zzi.wrap ((0:Int)-0))))≤(lim:Int))<|need ((0:Int)≤0∧(0:Int)≤0∧(0:Int)≤((zz9 ((zzi.wrap (p1-(zzi.wrap ((0:Int)-0)))).toNat) z).length:Int))<|j2 ((zz9 ((zzi.wrap (p1-(zzi.wrap ((0:Int)-0)))).toNat) z).take 0)) (j2 ([]:List α)))
def concG (z:α)(p0:List (List α)):Option (List α):=
 outK (z0k (S:=Int) (R:=Empty) (fun i1 (a2:Int)=>bf (decide ((zzi.wrap (a2+((p0.getD i1 zzd).length:Int)))<0)) (none) (some (.next (zzi.wrap (a2+((p0.getD i1 zzd).length:Int)))))) p0.length 0 0) (fun(a3:Int)=>(growG z a3).bind fun r4=>outK (z0k (S:=List α) (R:=Empty) (fun i5 (a6:List α)=>need (a6.length+(p0.getD i5 zzd).length≤274877906944)<|some (.next (a6++(p0.getD i5 zzd)))) p0.length 0 r4) (fun(a7:List α)=>some a7) (fun(x:Empty)=>x.elim)) (fun(x:Empty)=>x.elim)
theorem zgt {l:List (List α)}{i:Nat}(h:i<l.length):(l.take (i+1)).flatten=(l.take i).flatten++l.getD i zzd:=by
 rw[z3l h];simp
theorem zjw {l:List (List α)}{i:Nat}(h:i<l.length):l.flatten=(l.take i).flatten++(l.getD i zzd++(l.drop (i+1)).flatten):=by
 have e:l=l.take i++l.getD i zzd::l.drop (i+1):=by rw[←z3z h,List.take_append_drop]
 have e2:=congrArg List.flatten e;rw[List.flatten_append,List.flatten_cons]at e2;exact e2
theorem zj2 {l:List (List α)}{i:Nat}(h:i<l.length):(l.take i).flatten.length+(l.getD i zzd).length≤l.flatten.length:=by
 have:=congrArg List.length (zjw h);simp only[List.length_append]at this;omega
theorem zlk {z:α}{n:Nat}(hn:n≤8000000000):growG z (n:Int)=some []:=by
 unfold growG;have e:zzi.wrap ((n:Int)-zzi.wrap ((0:Int)-0))=(n:Int):=by
  rw[show zzi.wrap ((0:Int)-0)=0 by rfl,z2x (by omega) (by omega)];omega
 rw[e];simp only[z0g,jn_eq];rw[if_neg (by omega)];split
 ·rw[z0a (by simp only[lim];omega),z0a (by simp)];simp
 ·rfl
theorem zlh {z:α}{p0:List (List α)}(hn:p0.flatten.length≤8000000000):concG z p0=some p0.flatten:=by
 unfold concG;have h1:=fun B h=>z5k (R:=Empty) (B:=B) (n:=p0.length) (s:=(0:Int)) ((p0.flatten.length:Nat):Int) (fun i a=>a=(((p0.take i).flatten.length:Nat):Int)) (fun s hs=>by rw[hs,List.take_length]) h (by rfl)
 rw[h1]
 ·simp only[z4n,zlk hn,zz0];rw[z5k p0.flatten (fun i a=>a=(p0.take i).flatten) (fun s hs=>by rw[hs,List.take_length])]
  ·rfl
  ·intro i a hi ha;refine⟨_,?_,rfl⟩;have:=zj2 hi
   rw[z0a (by rw[ha];omega),ha,zgt hi]
  ·rfl
 ·intro i a hi ha;have:=zj2 hi
  refine⟨_,?_,rfl⟩;rw[ha,wadd (by omega),zgt hi,List.length_append];simp only[z0g];rw[if_neg (by omega)]
end
end Go.Av
namespace Go.Av
open Go
abbrev pU (l:List Update):List (Update×Int):=PR (fun x=>x.diff) l
abbrev TotU (l:List Update)(R:List Update)(e:Int):Prop:=Tot cU (fun x=>x.diff) z33 (pU l) R e
theorem zel {l R:List Update}{e:Int}(h:TotU l R e)(ho: ∀u∈l,okU u): ∀r∈R,okU r:=fun r hr=>by
 rcases h with⟨_,h,_⟩|⟨_,rfl,_⟩
 ·obtain⟨y,h1,h2⟩:=h.mem r hr;obtain⟨z,h3,h4⟩:=z99.1 h1;rw[h2,←h4];exact ho z h3
 ·cases hr
def zn4 (l R:List Update)(e:Int):Prop:=(chkL l≠0∧R=[]∧e=chkL l)∨(chkL l=0∧TotU l R e)
theorem zf4: ∀ls:List (List Update),ls.foldr (fun x v=>thenC (chkL x) v) 0=chkL ls.flatten
 |[]=>rfl
 |l::ls=>by rw[List.foldr_cons,List.flatten_cons,zif,zf4 ls]
theorem zmf {fuel:Nat}{ls:List (List Update)}(hf:40000000000≤fuel)(hn:ls.flatten.length≤8000000000)(hd: ∀u∈ls.flatten,in64 u.diff):
 ∃R e,z2w fuel ls=some (R,e)∧zn4 ls.flatten R e∧R.length≤ls.flatten.length:=by
 unfold z2w;rw[zfd chkL (fun w=>(([]:List Update),w)),zf4]
 ·by_cases h:chkL ls.flatten=0
  ·rw[if_pos h];simp only[z4n];rw[show z1c ls=some ls.flatten from zlh hn];simp only[zz0];have ho:=z9d.1 h
   obtain⟨R,e,l',h1,h2,h3⟩:=zit (fuel:=fuel) hd (fun u hu=>(zj6 (ho u hu)).2) hn hf;rw[h1];simp only[zz0];rw[zni (zel h2 ho) (by omega)];exact⟨R,e,rfl,.inr ⟨h,h2⟩,h3⟩
  ·rw[if_neg h];exact⟨_,_,rfl,.inl ⟨h,rfl,rfl⟩,Nat.zero_le _⟩
 ·intro i hi;rw[z8n (by omega)];simp only[zz0,z2s,z0g]
end Go.Av
namespace Go.Av
open Go
theorem zis {l l' R R':List Update}{e e':Int}(h:TotU l R e)(h':TotU l' R' e')(ho: ∀u∈l,okU u)(ho': ∀u∈l',okU u)(hs: ∀y,sm cU (pU l) y=sm cU (pU l') y):R=R'∧e=e':=
 zk6 cU_is h h' hs fun r hr r' hr' h1 h2=>ziz (zel h ho r hr) (zel h' ho' r' hr') h1 h2
end Go.Av
namespace Go.Av
open Go
theorem zjj {l R:List Update}{e:Int}(h:TotU l R e): ∀r∈R,in64 r.diff:=fun r hr=>by
 rcases h with⟨_,g,gf⟩|⟨_,rfl,_⟩
 ·rw[(g.sum r hr).1];exact gf r
 ·cases hr
theorem zi8 {l R:List Update}{e:Int}(h:TotU l R e)(ht: ∀u∈l,z2v u.time): ∀r∈R,z2v r.time:=fun r hr=>by
 rcases h with⟨_,g,_⟩|⟨_,rfl,_⟩
 ·obtain⟨y,h1,h2⟩:=g.mem r hr;obtain⟨z,h3,h4⟩:=z99.1 h1;rw[h2,←h4];exact ht z h3
 ·cases hr
end Go.Av
namespace Go.Av
open Go
theorem zik (a:Time):zb7 a a=true:=by simp[zb7]
theorem zmo {a b:Time}(ha:z2v a)(hb:z2v b):z2v (lub2 a b):=by
 obtain⟨h1,h2,h3⟩:=ha;obtain⟨g1,g2,g3⟩:=hb;simp only[z2v,lub2,mx_eq];omega
theorem zln {a b:Time}(h:leT a b=true)(g:leT b a=true):zb7 a b=true:=by
 simp only[leT,zb7,Bool.and_eq_true,decide_eq_true_eq,Bool.and_true]at*;omega
end Go.Av
namespace Go.Av
open Go
theorem zmi {x y:Time}:zb7 x y=true↔x=y:=by
 constructor
 ·intro h;simp only[zb7,Bool.and_eq_true,decide_eq_true_eq,Bool.and_true]at h;exact Time.ext' h.1 h.2.1 h.2.2
 ·rintro rfl;exact zik x
theorem zmn {a b:Time}(h:leT a b=true)(g:leT b a=true):a=b:=zmi.1 (zln h g)
theorem zho {a b:Time}(h:leT a b=true):ltT b a=false:=by
 cases e:ltT b a with
 |false=>rfl
 |true=>rw[zmm]at h;rw[zj4]at e;omega
theorem lt_or {a b:Time}(h:ltT b a=false)(hne:a≠b):ltT a b=true:=by
 cases e:ltT a b with
 |true=>rfl
 |false=>
  refine absurd ?_ hne;rw[←Bool.not_eq_true,zj4]at h e;exact Time.ext' (by omega) (by omega) (by omega)
structure IsF (l f:List Time):Prop where
 sorted:f.Pairwise fun x y=>ltT x y=true
 sub: ∀x∈f,x∈l
 below: ∀y∈l,∃u∈f,leT u y=true
 least: ∀x∈f,∀y∈l,leT y x=true→y=x
theorem IsF.mem {l f:List Time}(h:IsF l f)(x:Time):x∈f↔x∈l∧ ∀y∈l,leT y x=true→y=x:=by
 constructor
 ·exact fun hx=>⟨h.sub x hx,h.least x hx⟩
 ·rintro⟨hx,hm⟩;obtain⟨u,hu,hle⟩:=h.below x hx;rw[←hm u (h.sub u hu) hle];exact hu
theorem IsF.congr {l m f:List Time}(h:IsF l f)(e: ∀x,x∈l↔x∈m):IsF m f:=
 ⟨h.sorted,fun x hx=>(e x).1 (h.sub x hx),fun y hy=>h.below y ((e y).2 hy),fun x hx y hy=>h.least x hx y ((e y).2 hy)⟩
theorem IsF.step {p f:List Time}{t:Time}(h:IsF p f)(hs: ∀x∈p,ltT t x=false):IsF (p++[t]) (if f.any (fun u=>leT u t)then f else f++[t]):=by
 by_cases hc:f.any (fun u=>leT u t)=true
 ·rw[if_pos hc];obtain⟨u,hu,hut⟩:=List.any_eq_true.1 hc;refine⟨h.sorted,fun x hx=>zz2.2 (.inl (h.sub x hx)),?_,?_⟩
  ·intro y hy;rcases zz2.1 hy with hy|hy
   ·exact h.below y hy
   ·rw[zz8.1 hy];exact⟨u,hu,hut⟩
  ·intro x hx y hy hle;rcases zz2.1 hy with hy|hy
   ·exact h.least x hx y hy hle
   ·rw[zz8.1 hy]at hle ⊢;have hux:=h.least x hx u (h.sub u hu) (zgl hut hle)
    subst hux;exact zmn hle hut
 ·rw[if_neg hc];have hno: ∀u∈f,leT u t=false:=fun u hu=>by
   cases e:leT u t with
   |false=>rfl
   |true=>exact absurd (List.any_eq_true.2 ⟨u,hu,e⟩) hc
  have hnp: ∀y∈p,leT y t=false:=fun y hy=>by
   obtain⟨u,hu,hle⟩:=h.below y hy;cases e:leT y t with
   |false=>rfl
   |true=>have:=zgl hle e;rw[hno u hu]at this;cases this
  refine⟨?_,?_,?_,?_⟩
  ·rw[List.pairwise_append];refine⟨h.sorted,by simp,fun x hx y hy=>?_⟩;rw[zz8.1 hy];refine lt_or (hs x (h.sub x hx)) (fun e=>?_);subst e;have:=hno x hx
   rw[zhk]at this;cases this
  ·intro x hx;rcases zz2.1 hx with hx|hx
   ·exact zz2.2 (.inl (h.sub x hx))
   ·exact zz2.2 (.inr hx)
  ·intro y hy;rcases zz2.1 hy with hy|hy
   ·obtain⟨u,hu,hle⟩:=h.below y hy;exact⟨u,zz2.2 (.inl hu),hle⟩
   ·exact⟨y,zz2.2 (.inr hy),zhk y⟩
  ·intro x hx y hy hle;rcases zz2.1 hx with hx|hx
   ·rcases zz2.1 hy with hy|hy
    ·exact h.least x hx y hy hle
    ·rw[zz8.1 hy]at hle ⊢;have h1:=hs x (h.sub x hx)
     have h2:=zho hle;by_cases e:t=x
     ·exact e
     ·have:=lt_or h1 (fun h=>e h.symm);rw[h2]at this;cases this
   ·rw[zz8.1 hx]at hle ⊢;rcases zz2.1 hy with hy|hy
    ·rw[hnp y hy]at hle;cases hle
    ·exact zz8.1 hy
end Go.Av
namespace Go.Av
open Go
abbrev NN (l:List Time):Prop:= ∀x∈l,z2v x
end Go.Av
namespace Go.Av
open Go
theorem zmp {t u:Time}(ht:z2v t)(hu:z2v u):z8r [t,u]=some (lub2 t u):=by
 unfold z8r;rw[zf2 (fun x hx=>by
  rcases zzg.1 hx with rfl|hx
  ·exact ht
  ·rw[zz8.1 hx];exact hu),zlp ht]
 rfl
end Go.Av
namespace Go.Av
open Go
structure EvenP (l:List Update):Prop where
 lt:l.Pairwise fun a b=>cU a b<0
 nz: ∀r∈l,r.diff≠0
 ok: ∀r∈l,okU r
end Go.Av
namespace Go.Av
open Go
abbrev kc (key:List Value)(u:Update):Int:=cmpL cmpV u.key key
def cntP (p:Update→Bool):List Update→Nat
 |[]=>0
 |u::l=>if p u then cntP p l+1 else 0
theorem zds (p:Update→Bool): ∀l,cntP p l≤l.length
 |[]=>zze _
 |u::l=>by
  unfold cntP;split
  ·simp only[List.length_cons];have:=zds p l;omega
  ·exact Nat.zero_le _
theorem zdt {p:Update→Bool}: ∀{l:List Update} {i:Nat},i<cntP p l→p (l.getD i zzd)=true
 |[],i,h=>by simp[cntP]at h
 |u::l,i,h=>by
  unfold cntP at h;split at h
  ·rename_i hu
   cases i with
   |zero=>exact hu
   |succ i=>simp only[List.getD_cons_succ];exact zdt (by omega)
  ·omega
theorem zdr {p:Update→Bool}: ∀{l:List Update},cntP p l<l.length→p (l.getD (cntP p l) zzd)=false
 |[],h=>by simp at h
 |u::l,h=>by
  unfold cntP at*;split
  ·rename_i hu
   rw[if_pos hu]at h;simp only[List.getD_cons_succ];exact zdr (by simp only[List.length_cons]at h;omega)
  ·rename_i hu
   simpa using hu
end Go.Av
namespace Go.Av
open Go
abbrev upTo (l:List Update)(key:List Value):Nat:=(l.filter fun u=>decide (kc key u≤0)).length
end Go.Av
namespace Go.Av
open Go
section
variable {α:Type} {c:α→α→Int} {num:α→Int} {put:α→Int→α}
theorem zji (hC:IsCmp c)(h2: ∀x n y,c (put x n) y=c x y){l1 l2:List (α×Int)}{R1 R2:List α}(ha:Tot c num put l1 R1 0)(hb:Tot c num put l2 R2 0)(hlt: ∀p∈l1,∀q∈l2,c p.1 q.1<0):Tot c num put (l1++l2) (R1++R2) 0:=by
 rcases ha with⟨_,a,fa⟩|⟨h,_⟩
 case inr=>omega
 rcases hb with⟨_,b,fb⟩|⟨h,_⟩
 case inr=>omega
 have h3: ∀x n y,c y (put x n)=c y x:=fun x n y=>by have:=hC.anti y (put x n);have:=hC.anti y x;have:=h2 x n y;omega
 have ne12: ∀p∈l1,∀q∈l2,c p.1 q.1≠0:=fun p hp q hq=>by have:=hlt p hp q hq;omega
 have ne21: ∀p∈l1,∀q∈l2,c q.1 p.1≠0:=fun p hp q hq=>by have:=hlt p hp q hq;have:=hC.anti p.1 q.1;omega
 have z2: ∀y,(∃p∈l1,c y p.1=0)→sm c l2 y=0:=fun y ⟨p,hp,e⟩=>z8b fun q hq=>by rw[hC.eqL q.1 e];exact ne12 p hp q hq
 have z1: ∀y,(∃p∈l2,c y p.1=0)→sm c l1 y=0:=fun y ⟨q,hq,e⟩=>z8b fun p hp=>by rw[hC.eqL p.1 e];exact ne21 p hp q hq
 have of1: ∀r∈R1,∃p∈l1,c r p.1=0:=fun r hr=>by
  obtain⟨p,hp,e⟩:=a.mem r hr;exact⟨p,hp,by rw[e,h2];exact hC.refl _⟩
 have of2: ∀r∈R2,∃p∈l2,c r p.1=0:=fun r hr=>by
  obtain⟨p,hp,e⟩:=b.mem r hr;exact⟨p,hp,by rw[e,h2];exact hC.refl _⟩
 refine .inl ⟨rfl,⟨?_,?_,?_,?_⟩,?_⟩
 ·rw[List.pairwise_append];refine⟨a.strict,b.strict,fun r hr s hs=>?_⟩;obtain⟨p,hp,e⟩:=of1 r hr;obtain⟨q,hq,e'⟩:=of2 s hs;rw[hC.eqL s e,hC.eqR p.1 e'];exact hlt p hp q hq
 ·intro r hr;rw[z5l];rcases zz2.1 hr with hr|hr
  ·rw[z2 r (of1 r hr),Int.add_zero];exact a.sum r hr
  ·rw[z1 r (of2 r hr),Int.zero_add];exact b.sum r hr
 ·intro r hr;rcases zz2.1 hr with hr|hr
  ·obtain⟨y,g1,g2⟩:=a.mem r hr;exact⟨y,zzm _ g1,g2⟩
  ·obtain⟨y,g1,g2⟩:=b.mem r hr;exact⟨y,List.mem_append_right _ g1,g2⟩
 ·intro y hy hn;rw[z5l]at hn;rcases zz2.1 hy with hy|hy
  ·rw[z2 y.1 ⟨y,hy,hC.refl _⟩,Int.add_zero]at hn;obtain⟨r,g1,g2⟩:=a.all y hy hn;exact⟨r,zzm _ g1,g2⟩
  ·rw[z1 y.1 ⟨y,hy,hC.refl _⟩,Int.zero_add]at hn;obtain⟨r,g1,g2⟩:=b.all y hy hn;exact⟨r,List.mem_append_right _ g1,g2⟩
 ·intro y;rw[z5l];by_cases e:sm c l1 y=0
  ·rw[e,Int.zero_add];exact fb y
  ·rw[z2 y (zbg e),Int.add_zero];exact fa y
end
theorem zmt {t:Time}:okT t=true↔t.epoch≤4611686018427387904∧t.loop.1≤4611686018427387904∧t.loop.2≤4611686018427387904:=by
 unfold okT;simp only[Bool.and_eq_true,decide_eq_true_eq]
theorem zmu {t s:Time}(h:okT t=true)(hs:okT s=true):okT (lub2 t s)=true:=by
 rw[zmt]at*;simp only[lub2,mx_eq];omega
theorem z6x (a b:List Update):pU (a++b)=pU a++pU b:=zg7 _ a b
end Go.Av
/-
 Pairs of updates:what the maker makes.
-/
namespace Go.Av
open Go
def cKy (x y:Update):Int:=cmpL cmpV x.key y.key
theorem zk9:IsCmp cKy:=(IsCmp.list z87).on (fun u:Update=>u.key)
theorem zky (x y:Update):z14 x y=some (cKy x y):=by
 unfold z14;rw[z6u];rfl
theorem rotK:z1d=rotG (α:=Update):=rfl
theorem insK:z0q=insG (α:=Update) z14:=rfl
theorem symK: ∀(fuel:Nat) (a b d:Int) (l:List Update),z0e fuel a b d l=symG (α:=Update) z14 fuel a b d l
 |0,_,_,_,_=>rfl
 |fuel+1,a,b,d,l=>by
  unfold z0e symG;simp only[rotK,symK fuel]
theorem stabK (fuel:Nat)(n:Int)(l:List Update):z10 fuel n l=stabG (α:=Update) z14 fuel n l:=by
 unfold z10 stabG;simp only[insK,symK]
theorem zfb {α:Type}[Inhabited α]{R:α→α→Prop}{l:List α}(h: ∀i j,i<j→j<l.length→R (l.getD i zzd) (l.getD j zzd)):l.Pairwise R:=by
 rw[List.pairwise_iff_getElem];intro i j hi hj hij;have:=h i j hij hj
 rwa[List.getD_eq_getElem?_getD,List.getElem?_eq_getElem hi,List.getD_eq_getElem?_getD,List.getElem?_eq_getElem hj]at this
theorem zm6 {fuel:Nat}{l:List Update}(hn:l.length≤8000000000)(hf:40000000000≤fuel): ∃r,z0f fuel l=some r∧r.Perm l∧r.Pairwise fun x y=>cKy x y≤0:=by
 obtain⟨r,h1,h2,h3⟩:=zca (c:=cKy) zky zk9 (fuel:=fuel) (l:=l) (by omega) (by omega);refine⟨r,?_,h2,zfb h3⟩;unfold z0f;rw[stabK,h1];rfl
theorem zi4 {fuel:Nat}{l:List Update}(hn:l.length≤8000000000)(hf:40000000000≤fuel): ∃r,z0b fuel l=some r∧r.Perm l∧r.Pairwise fun x y=>cU x y≤0:=by
 obtain⟨r,h1,h2,h3⟩:=zca (c:=cU) z54 cU_is (fuel:=fuel) (l:=l) (by omega) (by omega);refine⟨r,?_,h2,zfb h3⟩;unfold z0b;rw[zfn,h1];rfl
theorem zfh {key:List Value}: ∀{D:List Update},(D.Pairwise fun x y=>cKy x y≤0)→(∀y∈D,0≤kc key y)→D.filter (fun y=>decide (kc key y=0))=D.take (cntP (fun y=>decide (kc key y=0)) D)
 |[],_,_=>rfl
 |d::D,hp,hm=>by
  rw[List.pairwise_cons]at hp;unfold cntP;by_cases h:kc key d=0
  ·rw[List.filter_cons_of_pos (by simp[h]),if_pos (by simp[h]),List.take_succ_cons,zfh hp.2 fun y hy=>hm y (zz6 _ hy)]
  ·rw[List.filter_cons_of_neg (by simp[h]),if_neg (by simp[h]),List.take_zero,List.filter_eq_nil_iff];intro y hy hk;have h1:=hp.1 y hy
   have h2:=hm d (zz3 ..);have hk:=of_decide_eq_true hk
   have h3:=(IsCmp.list z87).tr d.key y.key key h1 (by show kc key y≤0;omega);have h3:kc key d≤0:=h3
   omega
theorem zn5 {fuel:Nat}{r:List Update}{key:List Value}(hf:40000000000≤fuel)(hn:r.length≤8000000000)(hs:r.Pairwise fun x y=>cKy x y≤0):
 ∃(n:Nat) (b:Bool),n≤r.length∧z0c fuel r key=some ((n:Int),b)∧
  r.filter (fun y=>decide (kc key y=0))=(r.drop n).take (cntP (fun y=>decide (kc key y=0)) (r.drop n)):=by
 unfold z0c z2z;have hmono: ∀i j,i≤j→j<r.length→cKy (r.getD i zzd) (r.getD j zzd)≤0:=fun i j hij hj=>by
  by_cases e:i=j
  ·subst e;rw[zk9.refl];exact Int.le_refl _
  ·have:=(List.pairwise_iff_getElem.1 hs) i j (by omega) hj (by omega);rwa[List.getD_eq_getElem?_getD,List.getElem?_eq_getElem (show i<r.length by omega),List.getD_eq_getElem?_getD,List.getElem?_eq_getElem hj]
 obtain⟨n,h1,_,h3,h4,h5⟩:=zix (R:=Empty) (P:=fun i=>decide (kc key (r.getD i zzd)<0)) (i0:=0) (j0:=r.length) (B:=fun(a1:Int×Int)=>bf (decide (a1.1<a1.2)) (need ((0:Int)≤(zzi.wrap (shrOp .u64 (zzu.wrap (zzi.wrap (a1.1+a1.2))) 1))∧(zzi.wrap (shrOp .u64 (zzu.wrap (zzi.wrap (a1.1+a1.2))) 1))<(r.length:Int))<|((z4i (r.getD ((zzi.wrap (shrOp .u64 (zzu.wrap (zzi.wrap (a1.1+a1.2))) 1)).toNat) zzd).key key).bind fun r1=>some r1).bind fun r8=>bf (decide (r8<0)) (some (.next ((zzi.wrap ((zzi.wrap (shrOp .u64 (zzu.wrap (zzi.wrap (a1.1+a1.2))) 1))+1)),a1.2))) (some (.next (a1.1,(zzi.wrap (shrOp .u64 (zzu.wrap (zzi.wrap (a1.1+a1.2))) 1)))))) (some (.brk (a1.1,a1.2))))
  r.length 0 r.length fuel (by omega) (by omega) (zze _) (Nat.zero_le _) (zze _) (.inl rfl) (.inl rfl) (fun i j _ hij hj=>by
   simp only[z0g,Int.ofNat_lt];by_cases h:i<j
   ·rw[if_pos h,if_pos h,zb9 (by omega),z0a (by omega),z6u];simp only[zz0,z0g,zzj,decide_eq_true_eq];rw[wadd1 (by omega)]
   ·rw[if_neg h,if_neg h])
 rw[show((0:Nat):Int)=(0:Int)from rfl]at h1;rw[h1];have hlow: ∀y∈r.take n,kc key y<0:=fun y hy=>by
  obtain⟨k,hk,rfl⟩:=List.mem_iff_getElem.1 hy;simp only[List.length_take]at hk;rcases h4 with h4|h4
  ·omega
  ·have h4:=of_decide_eq_true h4;have:=hmono k (n-1) (by omega) (by omega)
   have h2:=(IsCmp.list z87).le_lt (a:=(r.getD k zzd).key) this h4;rw[List.getElem_take];rwa[List.getD_eq_getElem?_getD,List.getElem?_eq_getElem (show k<r.length by omega)]at h2
 have hhigh: ∀y∈r.drop n,0≤kc key y:=fun y hy=>by
  obtain⟨k,hk,rfl⟩:=List.mem_iff_getElem.1 hy;simp only[zzc]at hk;rw[List.getElem_drop];rcases h5 with h5|h5
  ·omega
  ·have h5:=of_decide_eq_false h5;have:=hmono n (n+k) (by omega) (by omega)
   rw[List.getD_eq_getElem?_getD,List.getElem?_eq_getElem (show n<r.length by omega),List.getD_eq_getElem?_getD,List.getElem?_eq_getElem (show n+k<r.length by omega)]at this;rw[List.getD_eq_getElem?_getD,List.getElem?_eq_getElem (show n<r.length by omega)]at h5;rcases Int.lt_or_le (kc key (r[n+k]'(by omega))) 0 with g|g
   ·exact absurd ((IsCmp.list z87).le_lt (a:=(r[n]'(by omega)).key) this g) h5
   ·exact g
 have hfil:r.filter (fun y=>decide (kc key y=0))=(r.drop n).take (cntP (fun y=>decide (kc key y=0)) (r.drop n)):=by
  rw[←zfh (hs.sublist (List.drop_sublist n r)) hhigh]
  conv=>lhs;rw[←List.take_append_drop n r,List.filter_append]
  rw[List.filter_eq_nil_iff.2 (fun y hy=>by have:=hlow y hy;simp;omega),List.nil_append]
 simp only[z4n,jn_eq,z0g,Int.ofNat_lt];by_cases h:n<r.length
 ·rw[if_pos h,z0a (by omega),z6u];exact⟨n,_,h3,rfl,hfil⟩
 ·rw[if_neg h];exact⟨n,_,h3,rfl,hfil⟩
def mkP (x y:Update):Update:=⟨[],x.row++y.row,lub2 x.time y.time,x.diff*y.diff⟩
def okP (x y:Update):Bool:=decide ((-9223372036854775808≤x.diff*y.diff∧x.diff*y.diff<9223372036854775808)∧(x.row++y.row).length≤8)
def note (f:Fault)(t:Time):Fault:=if f.is=false∨cmpT t f.at_<0 then⟨true,t⟩else f
def stepP (m:JoinMaker)(p:Update×Update):JoinMaker:=if okP p.1 p.2=true then⟨⟨m.maker.fault,m.maker.list++[mkP p.1 p.2]⟩⟩else⟨⟨note m.maker.fault (lub2 p.1.time p.2.time),m.maker.list⟩⟩
theorem zj5 (f:Fault)(t:Time):z2d t f=some (note f t):=by
 unfold z2d note;simp only[jn_eq,z2s];cases hf:f.is with
 |false=>rw[z25,z3x,if_pos (.inl rfl)]
 |true=>
  rw[z3x,z9r];simp only[zz0,z0g];by_cases h:cmpT t f.at_<0
  ·rw[if_pos h,if_pos (.inr h)]
  ·rw[if_neg h,if_neg (fun g=>by rcases g with g|g;cases g;exact h g)]
theorem zlu (m:JoinMaker)(t:Time):z2n t m=some ⟨⟨note m.maker.fault t,m.maker.list⟩⟩:=by
 unfold z2n note;simp only[jn_eq,z2s];cases hf:m.maker.fault.is with
 |false=>rw[z25,z3x,if_pos (.inl rfl)]
 |true=>
  rw[z3x,z9r];simp only[zz0,z0g];by_cases h:cmpT t m.maker.fault.at_<0
  ·rw[if_pos h,if_pos (.inr h)]
  ·rw[if_neg h,if_neg (fun g=>by rcases g with g|g;cases g;exact h g)]
theorem zlm {p q:List Value}(hp:okRow p=true)(hq:okRow q=true):z7m [p,q]=some (if(p++q).length≤8 then(p++q,0)else([],2)):=by
 rw[zi9 (by simp)];unfold zhh;simp only[List.all_cons,List.all_nil,hp,hq,Bool.and_true,if_true,List.flatten_cons,List.flatten_nil,List.append_nil];congr 1;by_cases h:(p++q).length≤8
 ·rw[if_pos h,if_neg (by omega)]
 ·rw[if_neg h,if_pos (by omega)]
theorem zmv {x y:Update}{m:JoinMaker}(hx:okU x)(hy:okU y)(tx:z2v x.time)(ty:z2v y.time)(dx:in64 x.diff)(dy:in64 y.diff)(hm:m.maker.list.length≤8000000000):z2j x y m=some (stepP m (x,y)):=by
 unfold z2j stepP;rw[zmp tx ty];simp only[zz0];rw[zlm hx.2.1 hy.2.1];simp only[zz0];rw[zd1 dx dy];simp only[zz0];rw[zkw];simp only[zz0,z2s,z0g];by_cases h:okP x y=true
 ·rw[if_pos h];obtain⟨h1,h2⟩:=of_decide_eq_true h;rw[if_pos h2,zad h1,if_pos (by simp[thenC])];unfold z3n;rw[z0a (by simp;omega)];rfl
 ·rw[if_neg h,if_neg,zj5]
  ·rfl
  ·intro g;rw[z70]at g;apply h;unfold okP;rw[decide_eq_true_eq];constructor
   ·by_cases k:in64 (x.diff*y.diff)
    ·exact k
    ·rw[z9g k]at g;exact absurd g.2 (by decide)
   ·by_cases k:(x.row++y.row).length≤8
    ·exact k
    ·rw[if_neg k]at g;exact absurd g.1 (by decide)
def z23 (a r:List Update):List (Update×Update):=a.flatMap fun x=>(r.filter fun y=>decide (kc x.key y=0)).map fun y=>(x,y)
theorem zl7 (m:JoinMaker)(p:Update×Update):(stepP m p).maker.list.length≤m.maker.list.length+1:=by
 unfold stepP;split<;>simp
theorem zd8: ∀(ps:List (Update×Update)) (m:JoinMaker),(ps.foldl stepP m).maker.list.length≤m.maker.list.length+ps.length
 |[],m=>by simp
 |p::ps,m=>by
  have:=zd8 ps (stepP m p);have:=zl7 m p
  simp only[List.foldl_cons,List.length_cons];omega
theorem zea (a r:List Update):(z23 a r).length≤a.length*r.length:=by
 unfold z23;induction a with
 |nil=>simp
 |cons x a ih=>
  have:=List.length_filter_le (fun y=>decide (kc x.key y=0)) r;simp only[List.flatMap_cons,List.length_append,List.length_map,List.length_cons,Nat.succ_mul];omega
theorem zdh {a r:List Update}{i:Nat}(h:i<a.length):z23 (a.take (i+1)) r=z23 (a.take i) r++(r.filter fun y=>decide (kc (a.getD i zzd).key y=0)).map fun y=>(a.getD i zzd,y):=by
 unfold z23;rw[z3l h,List.flatMap_append];simp
structure UsOk (l:List Update):Prop where
 ok: ∀u∈l,okU u
 t: ∀u∈l,z2v u.time
 d: ∀u∈l,in64 u.diff
theorem UsOk.perm {l m:List Update}(h:UsOk l)(p:m.Perm l):UsOk m:=⟨fun u hu=>h.ok u (p.mem_iff.1 hu),fun u hu=>h.t u (p.mem_iff.1 hu),fun u hu=>h.d u (p.mem_iff.1 hu)⟩
theorem zll {x:Update}{G:List Update}{s:JoinMaker}{fuel:Nat}{B:Int×JoinMaker→Option (Ctl (Int×JoinMaker) (Int×JoinMaker))}(hf:G.length+1<fuel)
 (hB: ∀(j:Nat) (s':JoinMaker),j<G.length→s'=((G.take j).map fun y=>(x,y)).foldl stepP s→B ((j:Int),s')=some (.next (((j+1:Nat):Int),stepP s' (x,G.getD j zzd))))
 (hE: ∀s',B ((G.length:Int),s')=some (.brk ((G.length:Int),s'))∨B ((G.length:Int),s')=some (.ret ((G.length:Int),s'))):
 (∃z,loopN B fuel (0,s)=some (.done (z,(G.map fun y=>(x,y)).foldl stepP s)))∨(∃z,loopN B fuel (0,s)=some (.ret (z,(G.map fun y=>(x,y)).foldl stepP s))):=by
 have key: ∀(k j g:Nat) (s':JoinMaker),j+k=G.length→k+1<g→s'=((G.take j).map fun y=>(x,y)).foldl stepP s→
  (∃z,loopN B g ((j:Int),s')=some (.done (z,(G.map fun y=>(x,y)).foldl stepP s)))∨(∃z,loopN B g ((j:Int),s')=some (.ret (z,(G.map fun y=>(x,y)).foldl stepP s))):=by
  intro k;induction k with
  |zero=>
   intro j g s' hj hg hs;obtain rfl:j=G.length:=by omega
   rw[List.take_length]at hs;subst hs;cases g with
   |zero=>omega
   |succ g=>
    rcases hE _ with h|h
    ·left;exact⟨_,z4m h⟩
    ·right;exact⟨_,zkp h⟩
  |succ k ih=>
   intro j g s' hj hg hs;cases g with
   |zero=>omega
   |succ g=>
    rw[z4c (hB j s' (by omega) hs)];refine ih (j+1) g _ (by omega) (by omega) ?_;rw[z3l (by omega),List.map_append,List.foldl_append,←hs];rfl
 exact key G.length 0 fuel s (by omega) hf rfl
theorem zlx {fuel:Nat}{a b:List Update}{m:JoinMaker}(hf:40000000000≤fuel)(ha:UsOk a)(hb:UsOk b)(hn:b.length≤4000000000)(hab:m.maker.list.length+a.length*b.length≤8000000000):
 ∃r,r.Perm b∧z1q fuel a b m=some ((z23 a r).foldl stepP m):=by
 unfold z1q z0d;rw[z0a (by omega)];obtain⟨r,h1,h2,h3⟩:=zm6 (fuel:=fuel) (l:=b) (by omega) hf;simp only[zz0];rw[h1];simp only[zz0];have hlen:=h2.length_eq
 have hr:=hb.perm h2;rw[z0a hlen];refine⟨r,h2,?_⟩;rw[←hlen]at hab hn;rw[z5k ((z23 a r).foldl stepP m) (fun i s=>s=(z23 (a.take i) r).foldl stepP m) (fun s hs=>by rw[hs,List.take_length])]
 ·rfl
 ·intro i s hi hs;have hx:=z5j hi
  obtain⟨n,fb,n1,n2,n3⟩:=zn5 (fuel:=fuel) (key:=(a.getD i zzd).key) hf (by omega) h3;rw[n2];simp only[zz0];rw[z0a (by omega)];have hc:=zds (fun y=>decide (kc (a.getD i zzd).key y=0)) (r.drop n)
  rw[zzc]at hc;have hpl:=zea (a.take (i+1)) r
  have hle:(a.take (i+1)).length*r.length≤a.length*r.length:=Nat.mul_le_mul_right _ (by rw[List.length_take];omega);rw[zdh hi,n3,List.length_append,List.length_map,List.length_take,zzc,Nat.min_eq_left hc]at hpl;have hsl:=zd8 (z23 (a.take i) r) m
  generalize hc':cntP (fun y=>decide (kc (a.getD i zzd).key y=0)) (r.drop n)=c at*;have hg: ∀t,n+t<r.length→(r.drop n).getD t zzd=r.getD (n+t) zzd:=fun t ht=>by simp[List.getD_eq_getElem?_getD,List.getElem?_drop]
  have hcl:((r.drop n).take c).length=c:=by rw[List.length_take,zzc];omega
  have hgc: ∀t,t<c→((r.drop n).take c).getD t zzd=r.getD (n+t) zzd:=fun t ht=>by
   rw[←hg _ (by omega)];simp[List.getD_eq_getElem?_getD,List.getElem?_take,ht]
  have key:=zll (x:=a.getD i zzd) (G:=(r.drop n).take c) (s:=s) (fuel:=fuel) (B:=fun(a9:Int×JoinMaker)=>bf (decide (a9.1<(((r.length:Int).toNat-(n:Int).toNat:Nat):Int))) (need ((0:Int)≤a9.1∧a9.1<(((r.length:Int).toNat-(n:Int).toNat:Nat):Int))<|need (((0+(n:Int).toNat)+a9.1.toNat)<r.length)<|(z4i ((a.getD i zzd).key) ((r.getD ((0+(n:Int).toNat)+a9.1.toNat) zzd).key)).bind fun r14=>bf (!decide (r14=0)) (some (.ret (a9.1,a9.2))) ((z2j (a.getD i zzd) (r.getD ((0+(n:Int).toNat)+a9.1.toNat) zzd) a9.2).bind fun r15=>some (.next ((zzi.wrap (a9.1+1)),r15)))) (some (.brk (a9.1,a9.2)))) (by omega) (fun j s' hj hs'=>by
   rw[hcl]at hj;simp only[z0g,zzj,zzb];rw[if_pos (by omega),z0a (by omega),z0a (by omega),z6u];have hz:=of_decide_eq_true (zdt (p:=fun y=>decide (kc (a.getD i zzd).key y=0)) (l:=r.drop n) (i:=j) (by omega))
   rw[hg _ (by omega)]at hz;have hy:=z5j (show n+j<r.length by omega)
   have hsl':=zd8 ((((r.drop n).take c).take j).map fun y=>(a.getD i zzd,y)) s;rw[←hs',List.length_map,List.length_take]at hsl';simp only[zz0,z2s,z0g];rw[if_pos ((IsCmp.list z87).symm0 hz),zmv (ha.ok _ hx) (hr.ok _ hy) (ha.t _ hx) (hr.t _ hy) (ha.d _ hx) (hr.d _ hy) (by rw[hs]at hsl';omega)];simp only[zz0];rw[wadd1 (by omega),hgc _ hj]) (fun s'=>by
   simp only[z0g,zzj,zzb,hcl];by_cases hl:c<r.length-n
   ·rw[if_pos (by omega),z0a (by omega),z0a (by omega),z6u];have hz:=of_decide_eq_false (zdr (p:=fun y=>decide (kc (a.getD i zzd).key y=0)) (l:=r.drop n) (by rw[hc',zzc];exact hl));rw[hc',hg _ (by omega)]at hz;simp only[zz0,z2s,z0g];rw[if_neg (fun h=>hz ((IsCmp.list z87).symm0 h))];exact .inr rfl
   ·rw[if_neg (by omega)];exact .inl rfl)
  have hfin:(((r.drop n).take c).map fun y=>(a.getD i zzd,y)).foldl stepP s=(z23 (a.take (i+1)) r).foldl stepP m:=by
   rw[zdh hi,n3,List.foldl_append,←hs]
  refine⟨_,?_,rfl⟩;rw[←hfin];rcases key with⟨z,hz⟩|⟨z,hz⟩
  ·rw[hz];rfl
  ·rw[hz];rfl
 ·simp[z23]
end Go.Av
/-
 What a maker's list comes to,piece by piece.
-/
namespace Go.Av
open Go
theorem zjf (l:List Update){n:Nat}(h:n≤l.length):Av.sub l (n:Int) (l.length:Int)=l.drop n:=by
 unfold Av.sub;simp only[zzj];exact List.take_of_length_le (by simp)
theorem sub_zero (l:List Update)(n:Nat):Av.sub l 0 (n:Int)=l.take n:=by
 unfold Av.sub;simp
theorem zf3: ∀(ps:List (Update×Update)) (m:JoinMaker),(ps.foldl stepP m).maker.list=m.maker.list++(ps.filter fun p=>okP p.1 p.2).map fun p=>mkP p.1 p.2
 |[],m=>by simp
 |p::ps,m=>by
  rw[List.foldl_cons,zf3 ps];unfold stepP;by_cases h:okP p.1 p.2=true
  ·rw[if_pos h,List.filter_cons_of_pos (p:=fun p:Update×Update=>okP p.1 p.2) h];simp
  ·rw[if_neg h,List.filter_cons_of_neg (p:=fun p:Update×Update=>okP p.1 p.2) h]
theorem ze5: ∀(ps:List (Update×Update)) (m:JoinMaker),(ps.foldl stepP m).maker.fault=((ps.filter fun p=> !okP p.1 p.2).map fun p=>lub2 p.1.time p.2.time).foldl note m.maker.fault
 |[],m=>rfl
 |p::ps,m=>by
  rw[List.foldl_cons,ze5 ps];unfold stepP;by_cases h:okP p.1 p.2=true
  ·rw[if_pos h,List.filter_cons_of_neg (p:=fun p:Update×Update=> !okP p.1 p.2) (by simp[h])]
  ·rw[if_neg h,List.filter_cons_of_pos (p:=fun p:Update×Update=> !okP p.1 p.2) (by simp[h])];rfl
theorem zms (f:Fault)(t:Time):(note f t).is=true:=by
 unfold note;by_cases h:f.is=false∨cmpT t f.at_<0
 ·rw[if_pos h]
 ·rw[if_neg h];cases hf:f.is with
  |true=>rfl
  |false=>exact absurd (.inl hf) h
theorem zeg: ∀(ts:List Time) (f:Fault),(ts.foldl note f).is=true↔f.is=true∨ts≠[]
 |[],f=>by simp
 |t::ts,f=>by
  rw[List.foldl_cons,zeg ts];simp[zms]
def good (L:List Update)(u:Update):Bool:=decide (-9223372036854775808≤sm cU (pU L) u∧sm cU (pU L) u<9223372036854775808)
theorem z79 {L:List Update}{u:Update}:good L u=true↔in64 (sm cU (pU L) u):=by
 unfold good in64;rw[decide_eq_true_eq]
theorem zc8 {d:Update}: ∀{D:List Update},(D.Pairwise fun x y=>cU x y≤0)→(∀y∈D,cU d y≤0)→(∀x∈D.take (cntP (fun y=>decide (cU d y=0)) D),cU d x=0)∧ ∀y∈D.drop (cntP (fun y=>decide (cU d y=0)) D),cU d y<0
 |[],_,_=>⟨fun x hx=>(by simp at hx),fun x hx=>(by simp at hx)⟩
 |e::D,hp,hm=>by
  rw[List.pairwise_cons]at hp;unfold cntP;by_cases h:cU d e=0
  ·rw[if_pos (decide_eq_true h),List.take_succ_cons,List.drop_succ_cons];obtain⟨h1,h2⟩:=zc8 hp.2 fun y hy=>hm y (zz6 _ hy);refine⟨fun x hx=>?_,h2⟩;rcases zzg.1 hx with rfl|hx
   ·exact h
   ·exact h1 x hx
  ·rw[if_neg (by simp[h]),List.take_zero,List.drop_zero];refine⟨fun x hx=>(by cases hx),fun y hy=>?_⟩;have h1:cU d e<0:=by have:=hm e (zz3 ..);omega
   rcases zzg.1 hy with rfl|hy
   ·exact h1
   ·exact cU_is.lt_tr h1 (hp.1 y hy)
theorem ziy {u v:Update}(h:cU u v=0):u.time=v.time:=by
 unfold cU at h;rw[z70,z70,zgb]at h;exact h.2.2
theorem zbr {fuel:Nat}{l:List Update}(hf:40000000000≤fuel)(hl:UsOk l)(hn:l.length≤8000000000): ∃R e,z2w fuel [l]=some (R,e)∧TotU l R e∧R.length≤l.length:=by
 have hfl:([l]:List (List Update)).flatten=l:=by simp
 obtain⟨R,e,h1,h2,h3⟩:=zmf (fuel:=fuel) (ls:=[l]) hf (by rw[hfl];exact hn) (by rw[hfl];exact hl.d);rw[hfl]at h2 h3;refine⟨R,e,h1,?_,h3⟩;rcases h2 with⟨g,_⟩|⟨_,g⟩
 ·exact absurd (z9d.2 hl.ok) g
 ·exact g
theorem UsOk.sub {l m:List Update}(h:UsOk l)(hs: ∀u∈m,u∈l):UsOk m:=⟨fun u hu=>h.ok u (hs u hu),fun u hu=>h.t u (hs u hu),fun u hu=>h.d u (hs u hu)⟩
structure PInv (L r:List Update) (m:JoinMaker) (k:Nat) (s:List Update×List Update×JoinMaker):Prop where
 kl:k≤r.length
 l:s.1=r.drop k
 tot:TotU ((r.take k).filter (good L)) s.2.1 0
 len:s.2.1.length≤k
 sep: ∀x∈r.take k,∀y∈r.drop k,cU x y<0
 ft: ∃ts:List Time,s.2.2=⟨⟨ts.foldl note m.maker.fault,m.maker.list⟩⟩∧ ∀t,t∈ts↔ ∃u∈r.take k,good L u=false∧u.time=t
theorem zc5 {l m:List Update}(h:l.Perm m)(y:Update):sm cU (pU l) y=sm cU (pU m) y:=zjd (h.map _) y
theorem zai {l:List Update}{y:Update}(h: ∀u∈l,cU y u≠0):sm cU (pU l) y=0:=z8b fun p hp=>by
 obtain⟨u,hu,rfl⟩:=zzf.1 hp;exact h u hu
theorem zkz {fuel:Nat}{m:JoinMaker}(hf:40000000000≤fuel)(hl:UsOk m.maker.list)(hn:m.maker.list.length≤8000000000):
 ∃(out:List Update) (ts:List Time),z2g fuel m=some (out,⟨⟨ts.foldl note m.maker.fault,m.maker.list⟩⟩)∧TotU (m.maker.list.filter (good m.maker.list)) out 0∧out.length≤m.maker.list.length∧ ∀t,t∈ts↔ ∃u∈m.maker.list,good m.maker.list u=false∧u.time=t:=by
 unfold z2g z0d;rw[z0a (by omega)];obtain⟨r,h1,h2,h3⟩:=zi4 (fuel:=fuel) (l:=m.maker.list) (by omega) hf;simp only[zz0];rw[h1];simp only[zz0];have hlen:=h2.length_eq
 have hr:=hl.perm h2;rw[z0a hlen];have hgd: ∀u,sm cU (pU m.maker.list) u=sm cU (pU r) u:=fun u=>(zc5 h2 u).symm
 generalize hL:m.maker.list=L at*;refine z8s (G:=fun q=> ∃(out:List Update) (ts:List Time),q=some (out,(⟨⟨ts.foldl note m.maker.fault,L⟩⟩:JoinMaker))∧TotU (L.filter (good L)) out 0∧out.length≤L.length∧ ∀t,t∈ts↔ ∃u∈L,good L u=false∧u.time=t) (P:=fun s=>PInv L r m r.length s) ?_ ?_
 case refine_2=>
  rintro⟨l,out,m'⟩ ⟨_,_,q1,q2,_,ts,q3,q4⟩;dsimp only at q1 q2 q3;rw[List.take_length]at q1 q4;refine⟨out,ts,by rw[q3,hL],?_,by omega,fun t=>?_⟩
  ·have hp:(r.filter (good L)).Perm (L.filter (good L)):=h2.filter _;exact zcc (hp.map _) q1
  ·rw[q4];exact⟨fun⟨u,hu,g⟩=>⟨u,h2.mem_iff.1 hu,g⟩,fun⟨u,hu,g⟩=>⟨u,h2.mem_iff.2 hu,g⟩⟩
 ·have hloop:=fun B hB=>z8q (S:=List Update×List Update×JoinMaker) (R:=Empty) (B:=B) (fun i s=> ∃k,i≤k∧PInv L r m k s) (fun s=>PInv L r m r.length s) (n:=r.length+1) (fuel:=fuel) (s:=(r,[],m)) (by omega)
   ⟨0,zze _,⟨Nat.zero_le _,rfl,by rw[List.take_zero];exact .inl ⟨rfl,⟨List.Pairwise.nil,fun r hr=>(by cases hr),fun r hr=>(by cases hr),fun y hy=>(by cases hy)⟩,fun y=>(by show in64 0;unfold in64;omega)⟩,zze _,fun x hx=>(by simp at hx),[],rfl,by simp⟩⟩ hB
  refine hloop _ ?_;rintro i ⟨l,out,m'⟩ ⟨k,hik,kl,e1,q1,q2,q3,ts,q4,q5⟩;dsimp only at e1 q1 q2 q4;subst e1 q4;simp only[z0g];by_cases hk:k<r.length
  case neg=>
   right;obtain rfl:k=r.length:=by omega
   rw[if_neg (by simp)];exact⟨_,rfl,⟨zze _,rfl,q1,q2,q3,ts,rfl,q5⟩⟩
  left;rw[if_pos (by rw[zzc];omega)];have hD:=z3z hk
  have hps:=h3.sublist (List.drop_sublist k r);have hhd:(r.drop k).getD 0 zzd=r.getD k zzd:=by rw[hD];rfl
  have hmd: ∀y∈r.drop k,cU (r.getD k zzd) y≤0:=fun y hy=>by
   rw[hD]at hy hps;rcases zzg.1 hy with rfl|hy
   ·rw[cU_is.refl];exact Int.le_refl _
   ·exact(List.pairwise_cons.1 hps).1 y hy
  obtain⟨s1,s2⟩:=zc8 hps hmd;have hn1:1≤cntP (fun y=>decide (cU (r.getD k zzd) y=0)) (r.drop k):=by
   rw[hD];unfold cntP;rw[if_pos (decide_eq_true (cU_is.refl _))];omega
  have hnle:=zds (fun y=>decide (cU (r.getD k zzd) y=0)) (r.drop k);rw[zzc]at hnle;have hlt: ∀j,j<cntP (fun y=>decide (cU (r.getD k zzd) y=0)) (r.drop k)→cU (r.getD k zzd) ((r.drop k).getD j zzd)=0:=fun j hj=>of_decide_eq_true (zdt (p:=fun y=>decide (cU (r.getD k zzd) y=0)) hj)
  have hat:cntP (fun y=>decide (cU (r.getD k zzd) y=0)) (r.drop k)<(r.drop k).length→ ¬cU (r.getD k zzd) ((r.drop k).getD (cntP (fun y=>decide (cU (r.getD k zzd) y=0)) (r.drop k)) zzd)=0:=fun h=>of_decide_eq_false (zdr (p:=fun y=>decide (cU (r.getD k zzd) y=0)) h);generalize cntP (fun y=>decide (cU (r.getD k zzd) y=0)) (r.drop k)=n at*;have hinner:=ze7 (R:=Empty) (fuel:=fuel) (n:=n-1) (z:=((n:Nat):Int)) (fun j:Nat=>((1+j:Nat):Int)) (B:=fun(a6:Int)=>jn (fun(a16:Bool)=>bf a16 (some (.next (zzi.wrap (a6+1)))) (some (.brk a6))) fun j17=>if a6<((r.drop k).length:Int)then(need ((0:Int)≤0∧0<((r.drop k).length:Int))<|need ((0:Int)≤a6∧a6<((r.drop k).length:Int))<|(z1y ((r.drop k).getD 0 zzd) ((r.drop k).getD a6.toNat zzd)).bind fun r21=>j17 (decide (r21=0)))else(j17 false)) (by omega) (fun j hj=>by
   simp only[jn_eq,zzc,zzj];rw[if_pos (by omega),z0a (by omega),z0a (by omega),hhd,z54];simp only[zz0];rw[hlt _ (by omega)];simp only[decide_true,z3x];rw[wadd1 (by omega),Nat.add_assoc]) (by
   simp only[jn_eq,zzc,zzj];rw[show 1+(n-1)=n by omega];by_cases h:n<r.length-k
   ·rw[if_pos (by omega),z0a (by omega),z0a (by omega),hhd,z54];simp only[zz0];rw[decide_eq_false (hat (by rw[zzc];exact h)),z25]
   ·rw[if_neg (by omega),z25])
  rw[show((1+0:Nat):Int)=1 from rfl]at hinner;rw[hinner];simp only[z4n];rw[z0a (by rw[zzc];omega),sub_zero];have hpm: ∀u∈(r.drop k).take n,u∈r:=fun u hu=>List.mem_of_mem_drop (List.mem_of_mem_take hu)
  have hpl:((r.drop k).take n).length=n:=by rw[List.length_take,zzc];omega
  obtain⟨P,e,c1,c2,c3⟩:=zbr (fuel:=fuel) hf (hr.sub hpm) (by rw[hpl];omega);rw[c1];rw[hpl]at c3;simp only[zz0,jn_eq,z2s,z0g];have etk:r.take (k+n)=r.take k++(r.drop k).take n:=List.take_add
  have edr:r.drop (k+n)=(r.drop k).drop n:=by rw[List.drop_drop]
  have hsub:Av.sub (r.drop k) ((n:Nat):Int) ((r.drop k).length:Int)=r.drop (k+n):=by rw[zjf _ (by rw[zzc];omega),edr]
  have hsep: ∀x∈r.take (k+n),∀y∈r.drop (k+n),cU x y<0:=fun x hx y hy=>by
   rw[etk]at hx;rw[edr]at hy;rcases zz2.1 hx with g|g
   ·exact q3 x g y (List.mem_of_mem_drop hy)
   ·rw[cU_is.eqL y (cU_is.symm0 (s1 x g))];exact s2 y hy
  --the sum of the piece's class
  have hsum: ∀u∈(r.drop k).take n,sm cU (pU L) u=sm cU (pU ((r.drop k).take n)) u:=fun u hu=>by
   have hu0:=s1 u hu;rw[hgd];have er:r=r.take k++((r.drop k).take n++(r.drop k).drop n):=by rw[List.take_append_drop,List.take_append_drop]
   conv=>lhs;rw[er]
   rw[z6x,z6x,z5l,z5l,zai (l:=r.take k) (fun x hx h=>by
    have:=q3 x hx _ (List.mem_of_mem_take hu);have:=cU_is.symm0 h
    omega),zai (l:=(r.drop k).drop n) (fun y hy h=>by
    have:=s2 y hy;rw[cU_is.eqL y hu0]at this;omega)]
   omega
  have hcls: ∀u∈(r.drop k).take n,sm cU (pU ((r.drop k).take n)) u=sm cU (pU ((r.drop k).take n)) (r.getD k zzd):=fun u hu=>(z3m cU_is (s1 u hu) _).symm;have hkn:i+1≤k+n:=by omega
  by_cases he:e=0
  ·subst he;rw[if_pos rfl,z0a (by omega),z0a (by rw[zzc];omega),hsub];refine⟨_,rfl,⟨k+n,hkn,by omega,rfl,?_,?_,hsep,ts,rfl,?_⟩,by omega⟩
   ·rcases c2 with⟨_,c2,cf⟩|⟨c2,_⟩
    case inr=>omega
    have hall:((r.drop k).take n).filter (good L)=(r.drop k).take n:=List.filter_eq_self.2 fun u hu=>z79.2 (by rw[hsum u hu];exact cf u);rw[etk,List.filter_append,hall];show Tot cU (fun x=>x.diff) z33 (pU (_++_)) (out++P) 0;rw[z6x];refine zji (put:=z33) cU_is (fun x n y=>rfl) q1 (.inl ⟨rfl,c2,cf⟩) fun p hp q hq=>?_;obtain⟨x,hx,rfl⟩:=zzf.1 hp;obtain⟨y,hy,rfl⟩:=zzf.1 hq;exact q3 x (zzh.1 hx).1 y (List.mem_of_mem_take hy)
   ·dsimp only;rw[List.length_append];omega
   ·intro t;rw[q5,etk];constructor
    ·rintro⟨u,hu,g⟩;exact⟨u,zzm _ hu,g⟩
    ·rintro⟨u,hu,g1,g2⟩;rcases zz2.1 hu with hu|hu
     ·exact⟨u,hu,g1,g2⟩
     ·rcases c2 with⟨_,_,cf⟩|⟨c2,_⟩
      ·have:=z79.2 (show in64 (sm cU (pU L) u)by rw[hsum u hu];exact cf u);rw[this]at g1;cases g1
      ·omega
  ·rw[if_neg he,z0a (by rw[zzc];omega),zlu];simp only[zz0];rcases c2 with⟨c2,_⟩|⟨_,rfl,cf⟩
   ·exact absurd c2 he
   rw[z0a (by simp;omega),z0a (by rw[zzc];omega),hsub,hhd,List.append_nil];have hbad: ∀u∈(r.drop k).take n,good L u=false:=fun u hu=>by
    cases hg:good L u with
    |false=>rfl
    |true=>
     exfalso;have hg:=z79.1 hg
     rw[hsum u hu]at hg;apply cf;intro y;by_cases hy: ∃x∈(r.drop k).take n,cU y x=0
     ·obtain⟨x,hx,hyx⟩:=hy;rw[z3m cU_is hyx,hcls x hx,←hcls u hu];exact hg
     ·rw[zai fun x hx h=>hy ⟨x,hx,h⟩];unfold in64;omega
   refine⟨_,rfl,⟨k+n,hkn,by omega,rfl,?_,by dsimp only;omega,hsep,ts++[(r.getD k zzd).time],by rw[List.foldl_append];rfl,?_⟩,by omega⟩
   ·have hno:((r.drop k).take n).filter (good L)=[]:=List.filter_eq_nil_iff.2 fun u hu=>by rw[hbad u hu];simp
    rw[etk,List.filter_append,hno,List.append_nil];exact q1
   ·intro t;rw[zz2,q5,etk,zz8];constructor
    ·rintro(⟨u,hu,g⟩|rfl)
     ·exact⟨u,zzm _ hu,g⟩
     ·have hm:r.getD k zzd∈(r.drop k).take n:=by
       rw[hD];cases n with
       |zero=>omega
       |succ n=>rw[List.take_succ_cons];exact zz3 ..
      exact⟨_,List.mem_append_right _ hm,hbad _ hm,rfl⟩
    ·rintro⟨u,hu,g1,g2⟩;rcases zz2.1 hu with hu|hu
     ·exact .inl ⟨u,hu,g1,g2⟩
     ·right;rw[←g2,ziy (s1 u hu)]
theorem zgf {L R:List Update}{e:Int}(h:TotU L R e):(e=0→ ∀u,good L u=true)∧(e≠0→ ∃u∈L,good L u=false):=by
 rcases h with⟨h1,h2,h3⟩|⟨h1,h2,h3⟩
 ·exact⟨fun _ u=>z79.2 (h3 u),fun h=>absurd h1 h⟩
 ·refine⟨fun h=>by omega,fun _=>?_⟩;apply Classical.byContradiction;intro hn;apply h3;intro y;by_cases hy: ∃x∈L,cU y x=0
  ·obtain⟨x,hx,hyx⟩:=hy;rw[z3m cU_is hyx];cases hg:good L x with
   |true=>exact z79.1 hg
   |false=>exact absurd ⟨x,hx,hg⟩ hn
  ·rw[zai fun x hx h=>hy ⟨x,hx,h⟩];unfold in64;omega
theorem zmg {fuel:Nat}{m:JoinMaker}(hf:40000000000≤fuel)(hl:UsOk m.maker.list)(hn:m.maker.list.length≤8000000000):
 ∃(out:List Update) (ts:List Time) (t:Time) (w:Int) (m':JoinMaker),z28 fuel m=some (out,t,w,m')∧TotU (m.maker.list.filter (good m.maker.list)) out 0∧out.length≤m.maker.list.length∧(∀t,t∈ts↔ ∃u∈m.maker.list,good m.maker.list u=false∧u.time=t)∧
  (((ts.foldl note m.maker.fault).is=false∧t=zeroT∧w=0)∨((ts.foldl note m.maker.fault).is=true∧t=(ts.foldl note m.maker.fault).at_∧w=10)):=by
 unfold z28;obtain⟨R,e,h1,h2,h3⟩:=zbr (fuel:=fuel) hf hl hn;rw[h1];simp only[zz0,jn_eq,z2s,z0g];obtain⟨g1,g2⟩:=zgf h2;by_cases he:e=0
 ·subst he;rw[if_pos rfl];have hall:m.maker.list.filter (good m.maker.list)=m.maker.list:=List.filter_eq_self.2 fun u _=>g1 rfl u
  cases hi:m.maker.fault.is with
  |false=>
   rw[z25];exact⟨R,[],_,_,_,rfl,by rw[hall];exact h2,h3,fun t=>by simp[g1],.inl ⟨hi,rfl,rfl⟩⟩
  |true=>
   rw[z3x];exact⟨R,[],_,_,_,rfl,by rw[hall];exact h2,h3,fun t=>by simp[g1],.inr ⟨hi,rfl,rfl⟩⟩
 ·rw[if_neg he];obtain⟨out,ts,p1,p2,p3,p4⟩:=zkz (fuel:=fuel) hf hl hn;rw[p1];simp only[zz0];cases hi:(ts.foldl note m.maker.fault).is with
  |false=>
   rw[z25];exact⟨out,ts,_,_,_,rfl,p2,p3,p4,.inl ⟨hi,rfl,rfl⟩⟩
  |true=>
   rw[z3x];exact⟨out,ts,_,_,_,rfl,p2,p3,p4,.inr ⟨hi,rfl,rfl⟩⟩
end Go.Av
namespace Go.Av
open Go
theorem zmk {n:Int}(h:okInt .i64 n):in64 n:=by
 have:=Go.bounds_i64 h;unfold in64;omega
theorem zc2 {n:Int}(h:okInt .u64 n):0≤n:=(Go.bounds_u64 h).1
theorem zks {t:Time}(h:zf7 t):z2v t:=⟨zc2 h.1,zc2 h.2.1.1,zc2 h.2.1.2⟩
abbrev okUs (l:List Update):Prop:=l.length≤maxN∧ ∀x∈l,zc4 x
abbrev okTs (l:List Time):Prop:=l.length≤maxN∧ ∀x∈l,zf7 x
theorem us_in {l:List Update}(h:okUs l): ∀u∈l,in64 u.diff:=fun u hu=>zmk (h.2 u hu).2.2.2.1
theorem us_nn {l:List Update}(h:okUs l): ∀u∈l,z2v u.time:=fun u hu=>zks (h.2 u hu).2.2.1
end Go.Av
/-
 Pairs of two lists;what two lists make with a third one.
-/
namespace Go.Av
open Go
def First (f:Fault)(T:List Time):Prop:=(f.is=true↔T≠[])∧(f.is=true→f.at_∈T∧ ∀t∈T,cmpT f.at_ t≤0)
theorem First.note {f:Fault}{T:List Time}(h:First f T)(t:Time):First (note f t) (T++[t]):=by
 obtain⟨h1,h2⟩:=h;unfold Av.note;by_cases g:f.is=false∨cmpT t f.at_<0
 ·rw[if_pos g];refine⟨by simp,fun _=>⟨by simp,fun s hs=>?_⟩⟩;rcases zz2.1 hs with hs|hs
  ·cases hf:f.is with
   |false=>rw[hf]at h1;exact absurd (h1.2 fun e=>by rw[e]at hs;cases hs) (by simp)
   |true=>
    obtain⟨h3,h4⟩:=h2 hf;rcases g with g|g
    ·rw[hf]at g;cases g
    ·have:=zb1.lt_tr g (h4 s hs);show cmpT t s≤0;omega
  ·rw[zz8.1 hs];show cmpT t t≤0;rw[zb1.refl];exact Int.le_refl _
 ·rw[if_neg g];have hf:f.is=true:=by cases hf:f.is with
   |true=>rfl
   |false=>exact absurd (.inl hf) g
  obtain⟨h3,h4⟩:=h2 hf;refine⟨by simp[hf],fun _=>⟨zzm _ h3,fun s hs=>?_⟩⟩;rcases zz2.1 hs with hs|hs
  ·exact h4 s hs
  ·rw[zz8.1 hs];have: ¬cmpT t f.at_<0:=fun x=>g (.inr x);have:=zb1.anti f.at_ t
   omega
theorem zbk: ∀(ts:List Time) {f:Fault} {T:List Time},First f T→First (ts.foldl Av.note f) (T++ts)
 |[],f,T,h=>by rw[List.append_nil];exact h
 |t::ts,f,T,h=>by
  have:=zbk ts (h.note t);rw[List.append_assoc]at this;exact this
theorem First.nil (t:Time):First ⟨false,t⟩ []:=⟨by simp,by simp⟩
def prodL (a b:List Update):List Update:=(z23 a b).map fun p=>mkP p.1 p.2
def okL (a b:List Update):List Update:=((z23 a b).filter fun p=>okP p.1 p.2).map fun p=>mkP p.1 p.2
theorem zhq {a r b:List Update}(h:r.Perm b):(z23 a r).Perm (z23 a b):=by
 unfold z23;induction a with
 |nil=>exact .refl _
 |cons x a ih=>simp only[List.flatMap_cons];exact((h.filter _).map _).append ih
theorem zip {a b:List Update}{p:Update×Update}(h:p∈z23 a b):p.1∈a∧p.2∈b∧kc p.1.key p.2=0:=by
 unfold z23 at h;obtain⟨x,hx,h⟩:=List.mem_flatMap.1 h;obtain⟨y,hy,rfl⟩:=zzf.1 h;obtain⟨h1,h2⟩:=zzh.1 hy;exact⟨hx,h1,of_decide_eq_true h2⟩
theorem zdb {L M:List Update}(h:L.Perm M)(u:Update):good L u=good M u:=by
 unfold good;rw[zc5 h]
theorem zne {x y:Update}(hx:okU x)(hy:okU y)(h:okP x y=true):okU (mkP x y):=by
 obtain⟨_,h2⟩:=of_decide_eq_true h;refine⟨by rfl,?_,?_⟩
 ·unfold mkP okRow;dsimp only;rw[Bool.and_eq_true,List.all_append,(z6f hx.2.1).1,(z6f hy.2.1).1];exact⟨decide_eq_true h2,rfl⟩
 ·exact zmu hx.2.2 hy.2.2
theorem zhm {a b:List Update}(ha:UsOk a)(hb:UsOk b):UsOk (okL a b):=by
 have key: ∀u∈okL a b,∃x∈a,∃y∈b,okP x y=true∧u=mkP x y:=fun u hu=>by
  obtain⟨p,hp,rfl⟩:=zzf.1 hu;obtain⟨h1,h2⟩:=zzh.1 hp;obtain⟨h3,h4,_⟩:=zip h1;exact⟨p.1,h3,p.2,h4,h2,rfl⟩
 refine⟨fun u hu=>?_,fun u hu=>?_,fun u hu=>?_⟩<;>obtain⟨x,hx,y,hy,h,rfl⟩:=key u hu
 ·exact zne (ha.ok x hx) (hb.ok y hy) h
 ·exact zmo (ha.t x hx) (hb.t y hy)
 ·exact(of_decide_eq_true h).1
def FT (a b:List Update)(t:Time):Prop:=(∃p∈z23 a b,okP p.1 p.2=false∧lub2 p.1.time p.2.time=t)∨(∃u∈okL a b,good (okL a b) u=false∧u.time=t)
structure PairR (a b out:List Update) (t:Time) (w:Int):Prop where
 tot:TotU ((okL a b).filter (good (okL a b))) out 0
 len:out.length≤a.length*b.length
 ft:(w=0∧t=zeroT∧ ∀s,¬FT a b s)∨(w=10∧FT a b t∧ ∀s,FT a b s→cmpT t s≤0)
theorem znf {fuel:Nat}{a b:List Update}(hf:40000000000≤fuel)(ha:UsOk a)(hb:UsOk b)(hn:b.length≤4000000000)(hab:a.length*b.length≤8000000000):
 ∃m out t w m',z1q fuel a b (⟨⟨⟨false,⟨0,(0,0)⟩⟩,[]⟩⟩:JoinMaker)=some m∧z28 fuel m=some (out,t,w,m')∧PairR a b out t w:=by
 obtain⟨r,h1,h2⟩:=zlx (fuel:=fuel) (m:=(⟨⟨⟨false,⟨0,(0,0)⟩⟩,[]⟩⟩:JoinMaker)) hf ha hb hn (by simpa using hab);have hlen:=h1.length_eq
 have hL:=zf3 (z23 a r) (⟨⟨⟨false,⟨0,(0,0)⟩⟩,[]⟩⟩:JoinMaker);have hF:=ze5 (z23 a r) (⟨⟨⟨false,⟨0,(0,0)⟩⟩,[]⟩⟩:JoinMaker)
 rw[List.nil_append]at hL;have hpp:=zhq (a:=a) h1
 have hLp:(okL a r).Perm (okL a b):=(hpp.filter _).map _;have hll:(okL a r).length≤a.length*b.length:=by
  unfold okL;rw[List.length_map];have:=List.length_filter_le (fun p:Update×Update=>okP p.1 p.2) (z23 a r)
  have:=zea a r;rw[hlen]at this;omega
 generalize (z23 a r).foldl stepP (⟨⟨⟨false,⟨0,(0,0)⟩⟩,[]⟩⟩:JoinMaker)=m at*;change m.maker.list=okL a r at hL;have hus:UsOk m.maker.list:=by rw[hL];exact zhm ha (hb.perm h1)
 obtain⟨out,ts,t,w,m',d1,d2,d3,d4,d5⟩:=zmg (fuel:=fuel) (m:=m) hf hus (by rw[hL];omega);rw[hL]at d2 d3 d4;refine⟨m,out,t,w,m',h2,d1,?_,by omega,?_⟩
 ·have hp:((okL a r).filter (good (okL a r))).Perm ((okL a b).filter (good (okL a b))):=by
   have e:good (okL a r)=good (okL a b):=funext fun u=>zdb hLp u;rw[e];exact hLp.filter _
  exact zcc (hp.map _) d2
 ·have hfi:=zbk ts (f:=m.maker.fault) (T:=((z23 a r).filter fun p=> !okP p.1 p.2).map fun p=>lub2 p.1.time p.2.time) (by
   rw[hF];have:=zbk (((z23 a r).filter fun p=> !okP p.1 p.2).map fun p=>lub2 p.1.time p.2.time) (First.nil ⟨0,(0,0)⟩);rw[List.nil_append]at this;exact this)
  have hT: ∀s,s∈(((z23 a r).filter fun p=> !okP p.1 p.2).map fun p=>lub2 p.1.time p.2.time)++ts↔FT a b s:=fun s=>by
   rw[zz2,d4];unfold FT;constructor
   ·rintro(g|⟨u,hu,g1,g2⟩)
    ·obtain⟨p,hp,rfl⟩:=zzf.1 g;obtain⟨k1,k2⟩:=zzh.1 hp;exact .inl ⟨p,hpp.mem_iff.1 k1,by simpa using k2,rfl⟩
    ·exact .inr ⟨u,hLp.mem_iff.1 hu,by rw[←zdb hLp];exact g1,g2⟩
   ·rintro(⟨p,hp,g1,g2⟩|⟨u,hu,g1,g2⟩)
    ·exact .inl (zzf.2 ⟨p,zzh.2 ⟨hpp.mem_iff.2 hp,by simp[g1]⟩,g2⟩)
    ·exact .inr ⟨u,hLp.mem_iff.2 hu,by rw[zdb hLp];exact g1,g2⟩
  obtain⟨k1,k2⟩:=hfi;rcases d5 with⟨g1,g2,g3⟩|⟨g1,g2,g3⟩
  ·left;refine⟨g3,g2,fun s hs=>?_⟩;have:=k1.2 (fun e=>by have:=(hT s).2 hs;rw[e]at this;cases this)
   rw[g1]at this;cases this
  ·right;obtain⟨k3,k4⟩:=k2 g1;rw[←g2]at k3 k4;exact⟨g3,(hT t).1 k3,fun s hs=>k4 s ((hT s).2 hs)⟩
theorem zdd {fuel:Nat}{a b:List Update}(hf:40000000000≤fuel)(da: ∀u∈a,in64 u.diff)(ta: ∀u∈a,z2v u.time)(db: ∀u∈b,in64 u.diff)(tb: ∀u∈b,z2v u.time)(hn:b.length≤4000000000)(hab:a.length*b.length≤8000000000):
 ∃out t w,z6d fuel a b=some (out,t,w)∧((thenC (chkL a) (chkL b)≠0∧out=[]∧t=zeroT∧w=thenC (chkL a) (chkL b))∨(UsOk a∧UsOk b∧PairR a b out t w)):=by
 unfold z6d;rw[z8n (by omega),z8n (by omega)];simp only[zz0];rw[zkw];simp only[zz0,z2s,z0g];by_cases h:thenC (chkL a) (chkL b)=0
 ·rw[if_pos h];obtain⟨h1,h2⟩:=z70.1 h;have ha:UsOk a:=⟨z9d.1 h1,ta,da⟩
  have hb:UsOk b:=⟨z9d.1 h2,tb,db⟩;obtain⟨m,out,t,w,m',e1,e2,e3⟩:=znf (fuel:=fuel) hf ha hb hn hab;rw[e1];simp only[zz0];rw[e2];exact⟨out,t,w,rfl,.inr ⟨ha,hb,e3⟩⟩
 ·rw[if_neg h];exact⟨_,_,_,rfl,.inl ⟨h,rfl,rfl,rfl⟩⟩
theorem PairR.fine {a b out:List Update}{t:Time}{w:Int}(h:PairR a b out t w)(hw:w=0):TotU (prodL a b) out 0∧t=zeroT∧okL a b=prodL a b:=by
 rcases h.ft with⟨_,h1,h2⟩|⟨h1,_⟩
 case inr=>omega
 have e:okL a b=prodL a b:=by
  unfold okL prodL;rw[List.filter_eq_self.2 fun p hp=>?_];cases ho:okP p.1 p.2 with
  |true=>rfl
  |false=>exact absurd (.inl ⟨p,hp,ho,rfl⟩) (h2 _)
 have h3:=h.tot;rw[List.filter_eq_self.2 fun u hu=>?_]at h3
 ·rw[e]at h3;exact⟨h3,h1,e⟩
 ·cases hg:good (okL a b) u with
  |true=>rfl
  |false=>exact absurd (.inr ⟨u,hu,hg,rfl⟩) (h2 _)
theorem PairR.w {a b out:List Update}{t:Time}{w:Int}(h:PairR a b out t w):w=0∨w=10:=by
 rcases h.ft with⟨h,_⟩|⟨h,_⟩
 ·exact .inl h
 ·exact .inr h
theorem zhr (a a' b:List Update):prodL (a++a') b=prodL a b++prodL a' b:=by
 unfold prodL z23;rw[List.flatMap_append,List.map_append]
theorem zjk (l:List Update):9*l.length≤(l.map z65).sum:=by
 induction l with
 |nil=>simp
 |cons u l ih=>
  have:9≤z65 u:=by unfold z65 zee;dsimp only;omega
  simp only[List.length_cons,List.map_cons,List.sum_cons];omega
theorem zmw {p q:Nat}(h:p+q≤116508):p*q≤8000000000:=by
 rcases Nat.le_total p 58254 with g|g
 ·exact Nat.le_trans (Nat.mul_le_mul g (show q≤116508 by omega)) (by decide)
 ·exact Nat.le_trans (Nat.mul_le_mul (show p≤116508 by omega) (show q≤58254 by omega)) (by decide)
end Go.Av
/-
 A maker:evened out,piece by piece.
-/
namespace Go.Av
open Go
theorem zlv (m:Maker)(t:Time):z2m t m=some ⟨note m.fault t,m.list⟩:=by
 unfold z2m note;simp only[jn_eq,z2s];cases hf:m.fault.is with
 |false=>rw[z25,z3x,if_pos (.inl rfl)]
 |true=>
  rw[z3x,z9r];simp only[zz0,z0g];by_cases h:cmpT t m.fault.at_<0
  ·rw[if_pos h,if_pos (.inr h)]
  ·rw[if_neg h,if_neg (fun g=>by rcases g with g|g;cases g;exact h g)]
structure PInvM (L r:List Update) (m:Maker) (k:Nat) (s:List Update×List Update×Maker):Prop where
 kl:k≤r.length
 l:s.1=r.drop k
 tot:TotU ((r.take k).filter (good L)) s.2.1 0
 len:s.2.1.length≤k
 sep: ∀x∈r.take k,∀y∈r.drop k,cU x y<0
 ft: ∃ts:List Time,s.2.2=⟨ts.foldl note m.fault,m.list⟩∧ ∀t,t∈ts↔ ∃u∈r.take k,good L u=false∧u.time=t
theorem zk0 {fuel:Nat}{m:Maker}(hf:40000000000≤fuel)(hl:UsOk m.list)(hn:m.list.length≤8000000000):
 ∃(out:List Update) (ts:List Time),z2k fuel m=some (out,⟨ts.foldl note m.fault,m.list⟩)∧TotU (m.list.filter (good m.list)) out 0∧out.length≤m.list.length∧ ∀t,t∈ts↔ ∃u∈m.list,good m.list u=false∧u.time=t:=by
 unfold z2k z0d;rw[z0a (by omega)];obtain⟨r,h1,h2,h3⟩:=zi4 (fuel:=fuel) (l:=m.list) (by omega) hf;simp only[zz0];rw[h1];simp only[zz0];have hlen:=h2.length_eq
 have hr:=hl.perm h2;rw[z0a hlen];have hgd: ∀u,sm cU (pU m.list) u=sm cU (pU r) u:=fun u=>(zc5 h2 u).symm
 generalize hL:m.list=L at*;refine z8s (G:=fun q=> ∃(out:List Update) (ts:List Time),q=some (out,(⟨ts.foldl note m.fault,L⟩:Maker))∧TotU (L.filter (good L)) out 0∧out.length≤L.length∧ ∀t,t∈ts↔ ∃u∈L,good L u=false∧u.time=t) (P:=fun s=>PInvM L r m r.length s) ?_ ?_
 case refine_2=>
  rintro⟨l,out,m'⟩ ⟨_,_,q1,q2,_,ts,q3,q4⟩;dsimp only at q1 q2 q3;rw[List.take_length]at q1 q4;refine⟨out,ts,by rw[q3,hL],?_,by omega,fun t=>?_⟩
  ·have hp:(r.filter (good L)).Perm (L.filter (good L)):=h2.filter _;exact zcc (hp.map _) q1
  ·rw[q4];exact⟨fun⟨u,hu,g⟩=>⟨u,h2.mem_iff.1 hu,g⟩,fun⟨u,hu,g⟩=>⟨u,h2.mem_iff.2 hu,g⟩⟩
 ·have hloop:=fun B hB=>z8q (S:=List Update×List Update×Maker) (R:=Empty) (B:=B) (fun i s=> ∃k,i≤k∧PInvM L r m k s) (fun s=>PInvM L r m r.length s) (n:=r.length+1) (fuel:=fuel) (s:=(r,[],m)) (by omega)
   ⟨0,zze _,⟨Nat.zero_le _,rfl,by rw[List.take_zero];exact .inl ⟨rfl,⟨List.Pairwise.nil,fun r hr=>(by cases hr),fun r hr=>(by cases hr),fun y hy=>(by cases hy)⟩,fun y=>(by show in64 0;unfold in64;omega)⟩,zze _,fun x hx=>(by simp at hx),[],rfl,by simp⟩⟩ hB
  refine hloop _ ?_;rintro i ⟨l,out,m'⟩ ⟨k,hik,kl,e1,q1,q2,q3,ts,q4,q5⟩;dsimp only at e1 q1 q2 q4;subst e1 q4;simp only[z0g];by_cases hk:k<r.length
  case neg=>
   right;obtain rfl:k=r.length:=by omega
   rw[if_neg (by simp)];exact⟨_,rfl,⟨zze _,rfl,q1,q2,q3,ts,rfl,q5⟩⟩
  left;rw[if_pos (by rw[zzc];omega)];have hD:=z3z hk
  have hps:=h3.sublist (List.drop_sublist k r);have hhd:(r.drop k).getD 0 zzd=r.getD k zzd:=by rw[hD];rfl
  have hmd: ∀y∈r.drop k,cU (r.getD k zzd) y≤0:=fun y hy=>by
   rw[hD]at hy hps;rcases zzg.1 hy with rfl|hy
   ·rw[cU_is.refl];exact Int.le_refl _
   ·exact(List.pairwise_cons.1 hps).1 y hy
  obtain⟨s1,s2⟩:=zc8 hps hmd;have hn1:1≤cntP (fun y=>decide (cU (r.getD k zzd) y=0)) (r.drop k):=by
   rw[hD];unfold cntP;rw[if_pos (decide_eq_true (cU_is.refl _))];omega
  have hnle:=zds (fun y=>decide (cU (r.getD k zzd) y=0)) (r.drop k);rw[zzc]at hnle;have hlt: ∀j,j<cntP (fun y=>decide (cU (r.getD k zzd) y=0)) (r.drop k)→cU (r.getD k zzd) ((r.drop k).getD j zzd)=0:=fun j hj=>of_decide_eq_true (zdt (p:=fun y=>decide (cU (r.getD k zzd) y=0)) hj)
  have hat:cntP (fun y=>decide (cU (r.getD k zzd) y=0)) (r.drop k)<(r.drop k).length→ ¬cU (r.getD k zzd) ((r.drop k).getD (cntP (fun y=>decide (cU (r.getD k zzd) y=0)) (r.drop k)) zzd)=0:=fun h=>of_decide_eq_false (zdr (p:=fun y=>decide (cU (r.getD k zzd) y=0)) h);generalize cntP (fun y=>decide (cU (r.getD k zzd) y=0)) (r.drop k)=n at*;have hinner:=ze7 (R:=Empty) (fuel:=fuel) (n:=n-1) (z:=((n:Nat):Int)) (fun j:Nat=>((1+j:Nat):Int)) (B:=fun(a6:Int)=>jn (fun(a16:Bool)=>bf a16 (some (.next (zzi.wrap (a6+1)))) (some (.brk a6))) fun j17=>if a6<((r.drop k).length:Int)then(need ((0:Int)≤0∧0<((r.drop k).length:Int))<|need ((0:Int)≤a6∧a6<((r.drop k).length:Int))<|(z1y ((r.drop k).getD 0 zzd) ((r.drop k).getD a6.toNat zzd)).bind fun r21=>j17 (decide (r21=0)))else(j17 false)) (by omega) (fun j hj=>by
   simp only[jn_eq,zzc,zzj];rw[if_pos (by omega),z0a (by omega),z0a (by omega),hhd,z54];simp only[zz0];rw[hlt _ (by omega)];simp only[decide_true,z3x];rw[wadd1 (by omega),Nat.add_assoc]) (by
   simp only[jn_eq,zzc,zzj];rw[show 1+(n-1)=n by omega];by_cases h:n<r.length-k
   ·rw[if_pos (by omega),z0a (by omega),z0a (by omega),hhd,z54];simp only[zz0];rw[decide_eq_false (hat (by rw[zzc];exact h)),z25]
   ·rw[if_neg (by omega),z25])
  rw[show((1+0:Nat):Int)=1 from rfl]at hinner;rw[hinner];simp only[z4n];rw[z0a (by rw[zzc];omega),sub_zero];have hpm: ∀u∈(r.drop k).take n,u∈r:=fun u hu=>List.mem_of_mem_drop (List.mem_of_mem_take hu)
  have hpl:((r.drop k).take n).length=n:=by rw[List.length_take,zzc];omega
  obtain⟨P,e,c1,c2,c3⟩:=zbr (fuel:=fuel) hf (hr.sub hpm) (by rw[hpl];omega);rw[c1];rw[hpl]at c3;simp only[zz0,jn_eq,z2s,z0g];have etk:r.take (k+n)=r.take k++(r.drop k).take n:=List.take_add
  have edr:r.drop (k+n)=(r.drop k).drop n:=by rw[List.drop_drop]
  have hsub:Av.sub (r.drop k) ((n:Nat):Int) ((r.drop k).length:Int)=r.drop (k+n):=by rw[zjf _ (by rw[zzc];omega),edr]
  have hsep: ∀x∈r.take (k+n),∀y∈r.drop (k+n),cU x y<0:=fun x hx y hy=>by
   rw[etk]at hx;rw[edr]at hy;rcases zz2.1 hx with g|g
   ·exact q3 x g y (List.mem_of_mem_drop hy)
   ·rw[cU_is.eqL y (cU_is.symm0 (s1 x g))];exact s2 y hy
  --the sum of the piece's class
  have hsum: ∀u∈(r.drop k).take n,sm cU (pU L) u=sm cU (pU ((r.drop k).take n)) u:=fun u hu=>by
   have hu0:=s1 u hu;rw[hgd];have er:r=r.take k++((r.drop k).take n++(r.drop k).drop n):=by rw[List.take_append_drop,List.take_append_drop]
   conv=>lhs;rw[er]
   rw[z6x,z6x,z5l,z5l,zai (l:=r.take k) (fun x hx h=>by
    have:=q3 x hx _ (List.mem_of_mem_take hu);have:=cU_is.symm0 h
    omega),zai (l:=(r.drop k).drop n) (fun y hy h=>by
    have:=s2 y hy;rw[cU_is.eqL y hu0]at this;omega)]
   omega
  have hcls: ∀u∈(r.drop k).take n,sm cU (pU ((r.drop k).take n)) u=sm cU (pU ((r.drop k).take n)) (r.getD k zzd):=fun u hu=>(z3m cU_is (s1 u hu) _).symm;have hkn:i+1≤k+n:=by omega
  by_cases he:e=0
  ·subst he;rw[if_pos rfl,z0a (by omega),z0a (by rw[zzc];omega),hsub];refine⟨_,rfl,⟨k+n,hkn,by omega,rfl,?_,?_,hsep,ts,rfl,?_⟩,by omega⟩
   ·rcases c2 with⟨_,c2,cf⟩|⟨c2,_⟩
    case inr=>omega
    have hall:((r.drop k).take n).filter (good L)=(r.drop k).take n:=List.filter_eq_self.2 fun u hu=>z79.2 (by rw[hsum u hu];exact cf u);rw[etk,List.filter_append,hall];show Tot cU (fun x=>x.diff) z33 (pU (_++_)) (out++P) 0;rw[z6x];refine zji (put:=z33) cU_is (fun x n y=>rfl) q1 (.inl ⟨rfl,c2,cf⟩) fun p hp q hq=>?_;obtain⟨x,hx,rfl⟩:=zzf.1 hp;obtain⟨y,hy,rfl⟩:=zzf.1 hq;exact q3 x (zzh.1 hx).1 y (List.mem_of_mem_take hy)
   ·dsimp only;rw[List.length_append];omega
   ·intro t;rw[q5,etk];constructor
    ·rintro⟨u,hu,g⟩;exact⟨u,zzm _ hu,g⟩
    ·rintro⟨u,hu,g1,g2⟩;rcases zz2.1 hu with hu|hu
     ·exact⟨u,hu,g1,g2⟩
     ·rcases c2 with⟨_,_,cf⟩|⟨c2,_⟩
      ·have:=z79.2 (show in64 (sm cU (pU L) u)by rw[hsum u hu];exact cf u);rw[this]at g1;cases g1
      ·omega
  ·rw[if_neg he,z0a (by rw[zzc];omega),zlv];simp only[zz0];rcases c2 with⟨c2,_⟩|⟨_,rfl,cf⟩
   ·exact absurd c2 he
   rw[z0a (by simp;omega),z0a (by rw[zzc];omega),hsub,hhd,List.append_nil];have hbad: ∀u∈(r.drop k).take n,good L u=false:=fun u hu=>by
    cases hg:good L u with
    |false=>rfl
    |true=>
     exfalso;have hg:=z79.1 hg
     rw[hsum u hu]at hg;apply cf;intro y;by_cases hy: ∃x∈(r.drop k).take n,cU y x=0
     ·obtain⟨x,hx,hyx⟩:=hy;rw[z3m cU_is hyx,hcls x hx,←hcls u hu];exact hg
     ·rw[zai fun x hx h=>hy ⟨x,hx,h⟩];unfold in64;omega
   refine⟨_,rfl,⟨k+n,hkn,by omega,rfl,?_,by dsimp only;omega,hsep,ts++[(r.getD k zzd).time],by rw[List.foldl_append];rfl,?_⟩,by omega⟩
   ·have hno:((r.drop k).take n).filter (good L)=[]:=List.filter_eq_nil_iff.2 fun u hu=>by rw[hbad u hu];simp
    rw[etk,List.filter_append,hno,List.append_nil];exact q1
   ·intro t;rw[zz2,q5,etk,zz8];constructor
    ·rintro(⟨u,hu,g⟩|rfl)
     ·exact⟨u,zzm _ hu,g⟩
     ·have hm:r.getD k zzd∈(r.drop k).take n:=by
       rw[hD];cases n with
       |zero=>omega
       |succ n=>rw[List.take_succ_cons];exact zz3 ..
      exact⟨_,List.mem_append_right _ hm,hbad _ hm,rfl⟩
    ·rintro⟨u,hu,g1,g2⟩;rcases zz2.1 hu with hu|hu
     ·exact .inl ⟨u,hu,g1,g2⟩
     ·right;rw[←g2,ziy (s1 u hu)]
theorem zli {fuel:Nat}{m:Maker}(hf:40000000000≤fuel)(hl:UsOk m.list)(hn:m.list.length≤8000000000):
 ∃(out:List Update) (ts:List Time) (t:Time) (w:Int) (m':Maker),z2o fuel m=some (out,t,w,m')∧TotU (m.list.filter (good m.list)) out 0∧out.length≤m.list.length∧(∀t,t∈ts↔ ∃u∈m.list,good m.list u=false∧u.time=t)∧
  (((ts.foldl note m.fault).is=false∧t=zeroT∧w=0)∨((ts.foldl note m.fault).is=true∧t=(ts.foldl note m.fault).at_∧w=10)):=by
 unfold z2o;obtain⟨R,e,h1,h2,h3⟩:=zbr (fuel:=fuel) hf hl hn;rw[h1];simp only[zz0,jn_eq,z2s,z0g];obtain⟨g1,g2⟩:=zgf h2;by_cases he:e=0
 ·subst he;rw[if_pos rfl];have hall:m.list.filter (good m.list)=m.list:=List.filter_eq_self.2 fun u _=>g1 rfl u
  cases hi:m.fault.is with
  |false=>
   rw[z25];exact⟨R,[],_,_,_,rfl,by rw[hall];exact h2,h3,fun t=>by simp[g1],.inl ⟨hi,rfl,rfl⟩⟩
  |true=>
   rw[z3x];exact⟨R,[],_,_,_,rfl,by rw[hall];exact h2,h3,fun t=>by simp[g1],.inr ⟨hi,rfl,rfl⟩⟩
 ·rw[if_neg he];obtain⟨out,ts,p1,p2,p3,p4⟩:=zk0 (fuel:=fuel) hf hl hn;rw[p1];simp only[zz0];cases hi:(ts.foldl note m.fault).is with
  |false=>
   rw[z25];exact⟨out,ts,_,_,_,rfl,p2,p3,p4,.inl ⟨hi,rfl,rfl⟩⟩
  |true=>
   rw[z3x];exact⟨out,ts,_,_,_,rfl,p2,p3,p4,.inr ⟨hi,rfl,rfl⟩⟩
end Go.Av
/-
 TopBoth:joining with a negation is the negation of the join.
-/
namespace Go.Av
open Go
def negU (u:Update):Update:=⟨[],u.row,u.time,u.diff* -1⟩
def okN (u:Update):Bool:=decide (-9223372036854775808≤u.diff* -1∧u.diff* -1<9223372036854775808)
theorem zg0 {u:Update}:okN u=true↔in64 (u.diff* -1):=by unfold okN in64;exact decide_eq_true_iff
theorem zng {u:Update}(hu:okU u)(hd:in64 u.diff):z4t u=some (if okN u=true then([negU u],true)else([],false)):=by
 unfold z4t z6l;rw[zd1 hd (by unfold in64;omega)];simp only[zz0,z2s,z0g];by_cases h:okN u=true
 ·have h':in64 (u.diff* -1):=zg0.1 h;rw[zad h',if_pos rfl,if_pos h];simp[z0k,z7z,hu.2.1,need,negU]
 ·have h': ¬in64 (u.diff* -1):=fun g=>h (zg0.2 g);rw[z9g h',if_neg (by decide),if_neg h]
def stepN (m:Maker)(u:Update):Maker:=if okN u=true then⟨m.fault,m.list++[negU u]⟩else⟨note m.fault u.time,m.list⟩
theorem zbw: ∀(l:List Update) (m:Maker),(l.foldl stepN m).list=m.list++(l.filter okN).map negU
 |[],m=>by simp
 |u::l,m=>by
  rw[List.foldl_cons,zbw l,List.filter_cons];unfold stepN;by_cases h:okN u=true
  ·rw[if_pos h,if_pos h];simp
  ·rw[if_neg h,if_neg h]
theorem ze6: ∀(l:List Update) (m:Maker),(l.foldl stepN m).fault=((l.filter fun u=> !okN u).map fun u=>u.time).foldl note m.fault
 |[],m=>rfl
 |u::l,m=>by
  rw[List.foldl_cons,ze6 l,List.filter_cons];unfold stepN;cases h:okN u with
  |true=>simp
  |false=>simp
theorem zgg (l:List Update):(l.foldl stepN ⟨⟨false,⟨0,(0,0)⟩⟩,[]⟩).list.length≤l.length:=by
 rw[zbw,List.nil_append,List.length_map];exact List.length_filter_le ..
theorem zmr {l:List Update}(h:UsOk l):UsOk ((l.filter okN).map negU):=by
 have key: ∀u∈(l.filter okN).map negU,∃x∈l,okN x=true∧negU x=u:=fun u hu=>by
  obtain⟨x,hx,e⟩:=zzf.1 hu;obtain⟨h1,h2⟩:=zzh.1 hx;exact⟨x,h1,h2,e⟩
 refine⟨fun u hu=>?_,fun u hu=>?_,fun u hu=>?_⟩<;>obtain⟨x,hx,ho,rfl⟩:=key u hu
 ·exact⟨by rfl,(h.ok x hx).2.1,(h.ok x hx).2.2⟩
 ·exact h.t x hx
 ·exact zg0.1 ho
theorem do_ok {fuel:Nat}{l:List Update}(hf:40000000000≤fuel)(hn:l.length≤8000000000)(hd: ∀u∈l,in64 u.diff)(ht: ∀u∈l,z2v u.time):
 ∃out t w,z2u fuel l=some (out,t,w)∧out.length≤l.length∧(∀u∈out,in64 u.diff)∧(∀u∈out,z2v u.time)∧(w=0→UsOk l∧UsOk (l.map negU)∧TotU (l.map negU) out 0):=by
 unfold z2u;rw[z8n (by omega)];simp only[zz0,jn_eq,z2s,z0g];by_cases hc:chkL l=0
 case neg=>
  rw[if_neg hc,if_neg hc];exact⟨_,_,_,rfl,by simp,by simp,by simp,fun e=>absurd e hc⟩
 rw[if_pos hc,if_pos hc];have hl:UsOk l:=⟨z9d.1 hc,ht,hd⟩;rw[z5k (s:=(⟨⟨false,⟨0,(0,0)⟩⟩,[]⟩:Maker)) (l.foldl stepN ⟨⟨false,⟨0,(0,0)⟩⟩,[]⟩) (fun i m=>m=(l.take i).foldl stepN ⟨⟨false,⟨0,(0,0)⟩⟩,[]⟩) (fun s hs=>by rw[hs,List.take_length]) ?_ (by rfl)]
 rotate_left
 ·intro i m hi hm;have hlen:m.list.length≤i:=by
   have:=zgg (l.take i);rw[←hm,List.length_take]at this;omega
  rw[zng (hl.ok _ (z5j hi)) (hd _ (z5j hi)),z3l hi,List.foldl_append,←hm];simp only[zz0,List.foldl_cons,List.foldl_nil];by_cases ho:okN (l.getD i zzd)=true
  ·rw[if_pos ho];simp only[z3x];unfold z2t;rw[z0a (by simp;omega)];exact⟨_,rfl,by unfold stepN;rw[if_pos ho]⟩
  ·rw[if_neg ho];simp only[z25,zj5,zz0];unfold z2t;rw[z0a (by simp;omega)];exact⟨_,rfl,by unfold stepN;rw[if_neg ho];simp⟩
 simp only[z4n];have hL:=zbw l ⟨⟨false,⟨0,(0,0)⟩⟩,[]⟩
 have hF:=ze6 l ⟨⟨false,⟨0,(0,0)⟩⟩,[]⟩;have hlen:=zgg l
 generalize l.foldl stepN ⟨⟨false,⟨0,(0,0)⟩⟩,[]⟩=m at*;rw[List.nil_append]at hL;have hus:UsOk m.list:=by rw[hL];exact zmr hl
 obtain⟨out,ts,t,w,m',d1,d2,d3,d4,d5⟩:=zli (fuel:=fuel) (m:=m) hf hus (by omega);rw[d1];refine⟨out,t,w,rfl,by omega,zjj d2,zi8 d2 fun u hu=>hus.t u (zzh.1 hu).1,fun hw=>?_⟩;rcases d5 with⟨g1,_,_⟩|⟨_,_,g⟩
 case inr=>omega
 have hfi: ¬(ts.foldl note m.fault).is=true:=by rw[g1];simp
 rw[zeg]at hfi;have h1: ¬m.fault.is=true:=fun e=>hfi (.inl e)
 have h2:ts=[]:=Classical.byContradiction fun e=>hfi (.inr e);rw[hF,zeg]at h1;have h3:(l.filter fun u=> !okN u).map (fun u=>u.time)=[]:=Classical.byContradiction fun e=>h1 (.inr e)
 have h4:l.filter okN=l:=List.filter_eq_self.2 fun u hu=>by
  cases ho:okN u with
  |true=>rfl
  |false=>
   have:u.time∈(l.filter fun u=> !okN u).map fun u=>u.time:=zzf.2 ⟨u,zzh.2 ⟨hu,by simp[ho]⟩,rfl⟩;rw[h3]at this;cases this
 rw[h4]at hL;have h5:m.list.filter (good m.list)=m.list:=List.filter_eq_self.2 fun u hu=>by
  cases hg:good m.list u with
  |true=>rfl
  |false=>have:=(d4 u.time).2 ⟨u,hu,hg,rfl⟩;rw[h2]at this;cases this
 rw[h5,hL]at d2;rw[hL]at hus;exact⟨hl,hus,d2⟩
theorem zjh {l X:List Update}(h:TotU l X 0)(v:Update):sm cU (pU X) v=sm cU (pU l) v:=by
 rcases h with⟨_,g,_⟩|⟨g,_⟩
 ·exact znk cU_is g v
 ·omega
theorem zn2 {l R:List Update}{e:Int}(h:TotU l R e)(hk: ∀u∈l,u.key=[]): ∀r∈R,r.key=[]:=fun r hr=>by
 rcases h with⟨_,g,_⟩|⟨_,rfl,_⟩
 ·obtain⟨y,h1,h2⟩:=g.mem r hr;obtain⟨z,h3,h4⟩:=z99.1 h1;rw[h2,←h4];exact hk z h3
 ·cases hr
theorem zhn {g:Update→Int}(hg: ∀u:Update,u.key=[]→g (negU u)=g u): ∀{l:List Update},(∀u∈l,u.key=[])→wi g (pU (l.map negU))= - wi g (pU l)
 |[],_=>rfl
 |u::l,h=>by
  have ih:=zhn hg (l:=l) fun v hv=>h v (zz6 _ hv);simp only[pU,PR,List.map_cons,wi]at ih ⊢;rw[ih,hg u (h u (zz3 ..))];show u.diff* -1*g u+_=_;rw[Int.mul_assoc,Int.neg_one_mul,Int.mul_neg];omega
theorem zn8 (v u:Update)(h:u.key=[]):cU v (negU u)=cU v u:=by
 unfold cU negU;rw[h]
theorem zfa (a b:List Update):pU (prodL a b)=pairL mkP (fun x y=>decide (kc x.key y=0)) (pU a) (pU b):=by
 induction a with
 |nil=>rfl
 |cons x a ih=>
  have:prodL (x::a) b=prodL [x] b++prodL a b:=zhr [x] a b;rw[this,z6x,ih];unfold pairL;rw[show pU (x::a)=(x,x.diff)::pU a from rfl,List.flatMap_cons];congr 1;unfold prodL z23;simp only[List.flatMap_cons,List.flatMap_nil,List.append_nil,pU,PR,List.map_map,List.filter_map];rfl
theorem zl0 {a b c:List Update}(kb: ∀u∈b,u.key=[])(ob: ∀u∈c++b.map negU,okU u)(h:TotU (b.map negU) c 0)(v:Update):sm cU (pU (prodL a c)) v= - sm cU (pU (prodL a b)) v:=by
 have inner: ∀x:Update,wi (fun y=>if decide (kc x.key y=0)=true then(if cU v (mkP x y)=0 then 1 else 0)else 0) (pU c)= - wi (fun y=>if decide (kc x.key y=0)=true then(if cU v (mkP x y)=0 then 1 else 0)else 0) (pU b):=fun x=>by
  rw[znp cU_is (l:=pU c) (l':=pU (b.map negU)) (fun p hp q hq e=>?_) (fun y=>zjh h y)]
  ·exact zhn (fun u hu=>by simp only[kc,negU,hu];rfl) kb
  ·rw[←z6x]at hp hq;obtain⟨y,hy,rfl⟩:=z99.1 hp;obtain⟨z,hz,rfl⟩:=z99.1 hq;have e:=(ziz (a:=⟨y.key,y.row,y.time,0⟩) (b:=⟨z.key,z.row,z.time,0⟩) (ob y hy) (ob z hz) e rfl)
   injection e with e1 e2 e3;have k1:kc x.key y=kc x.key z:=by simp only[kc,e1]
   have k2:cU v (mkP x y)=cU v (mkP x z):=by simp only[cU,mkP,e2,e3]
   show(if decide (kc x.key y=0)=true then(if cU v (mkP x y)=0 then 1 else 0)else 0)=(if decide (kc x.key z=0)=true then(if cU v (mkP x z)=0 then 1 else 0)else 0);rw[k1,k2]
 rw[sm_wi,sm_wi,zfa,zfa,zjl,zjl,zib (h:=fun x:Update=> - wi (fun y:Update=>if decide (kc x.key y=0)=true then(if cU v (mkP x y)=0 then 1 else 0)else 0) (pU b)) fun p _=>inner p.1];have: ∀(g:Update→Int) (l:List (Update×Int)),wi (fun x=> - g x) l= - wi g l:=fun g l=>by
  have:=znr (-1) g l
  simpa using this
 exact this _ _
theorem zfp {l:List Update}(hn:l.length≤8000000000):z0k (S:=List Update) (R:=Empty) (fun i (a:List Update)=>need (a.length+([(⟨([]:List Value),(l.getD i zzd).row,(l.getD i zzd).time,(l.getD i zzd).diff⟩:Update)]:List Update).length≤274877906944)<|some (.next (a++([(⟨([]:List Value),(l.getD i zzd).row,(l.getD i zzd).time,(l.getD i zzd).diff⟩:Update)]:List Update)))) l.length 0 ([]:List Update)=some (.done (l.map fun u=>⟨[],u.row,u.time,u.diff⟩)):=by
 refine z5k _ (fun i a=>a=(l.take i).map fun u=>⟨[],u.row,u.time,u.diff⟩) (fun s hs=>by rw[hs,List.take_length]) ?_ rfl;intro i a hi ha;have hl:a.length≤i:=by rw[ha,List.length_map,List.length_take];omega
 rw[z0a (by simp;omega)];exact⟨_,rfl,by rw[z3l hi,List.map_append,←ha];rfl⟩
theorem zh5 {fuel:Nat}{a b:List Update}(hL:z5e fuel=some true)(hf:40000000000≤fuel)(da: ∀u∈a,in64 u.diff)(ta: ∀u∈a,z2v u.time)(db: ∀u∈b,in64 u.diff)(tb: ∀u∈b,z2v u.time)
 (hn:a.length+b.length≤1000000) (hab:a.length*b.length≤8000000000):z56 fuel a b=some true:=by
 unfold z56;rw[hL];simp only[zz0,Bool.not_true,z25];rw[zfp (by omega),z4n,zfp (by omega),z4n];have st: ∀(l:List Update) (P:Update→Prop),(∀u∈l,P ⟨[],u.row,u.time,u.diff⟩)→ ∀u∈l.map (fun u=>(⟨[],u.row,u.time,u.diff⟩:Update)),P u:=fun l P h u hu=>by
  obtain⟨x,hx,rfl⟩:=zzf.1 hu;exact h x hx
 have dl:=st a (fun u=>in64 u.diff) da;have tl:=st a (fun u=>z2v u.time) ta
 have dp:=st b (fun u=>in64 u.diff) db;have tp:=st b (fun u=>z2v u.time) tb
 have kp:=st b (fun u=>u.key=[]) fun _ _=>rfl;have nl:(a.map fun u=>(⟨[],u.row,u.time,u.diff⟩:Update)).length=a.length:=List.length_map ..
 have np:(b.map fun u=>(⟨[],u.row,u.time,u.diff⟩:Update)).length=b.length:=List.length_map ..;generalize (a.map fun u=>(⟨[],u.row,u.time,u.diff⟩:Update))=A at*;generalize (b.map fun u=>(⟨[],u.row,u.time,u.diff⟩:Update))=B at*;obtain⟨T,t1,w1,e1,n1,d1,tt1,r1⟩:=do_ok (fuel:=fuel) (l:=B) hf (by omega) dp tp;have hAT:A.length*T.length≤8000000000:=by
  rw[nl];exact Nat.le_trans (Nat.mul_le_mul_left _ (by omega)) hab
 obtain⟨x,t2,w2,e2,p2⟩:=zdd (fuel:=fuel) hf dl tl d1 tt1 (by omega) hAT;obtain⟨p,t3,w3,e3,p3⟩:=zdd (fuel:=fuel) (a:=A) (b:=B) hf dl tl dp tp (by omega) (by rw[nl,np];exact hab);have hp:p.length≤8000000000∧(∀u∈p,in64 u.diff)∧ ∀u∈p,z2v u.time:=by
  rcases p3 with⟨_,rfl,_⟩|⟨ha,hb,q⟩
  ·simp
  ·have:=q.len;rw[nl,np]at this;exact⟨by omega,zjj q.tot,zi8 q.tot fun u hu=>(zhm ha hb).t u (zzh.1 hu).1⟩
 obtain⟨y,t4,w4,e4,n4,d4,tt4,r4⟩:=do_ok (fuel:=fuel) (l:=p) hf hp.1 hp.2.1 hp.2.2;rw[e1];simp only[zz0];rw[e2,e3];simp only[zz0];rw[e4];simp only[zz0,jn_eq,z2s,z0g];by_cases h1:w1=0
 case neg=>rw[if_neg h1];rfl
 rw[if_pos h1];by_cases h2:w2=0
 case neg=>rw[if_neg h2];rfl
 rw[if_pos h2];by_cases h3:w3=0
 case neg=>rw[if_neg h3];rfl
 rw[if_pos h3];by_cases h4:w4=0
 case neg=>simp[h4]
 simp only[h4,decide_true,Bool.not_true,z25];obtain⟨_,o1,q1⟩:=r1 h1;obtain⟨_,o4,q4⟩:=r4 h4;rcases p2 with⟨g,_,_,g'⟩|⟨hA,hT,p2⟩
 ·omega
 rcases p3 with⟨g,_,_,g'⟩|⟨_,hB,p3⟩
 ·omega
 obtain⟨q2,_,l2⟩:=p2.fine h2;obtain⟨q3,_,l3⟩:=p3.fine h3;have ox: ∀u∈prodL A T,okU u:=by rw[←l2];exact(zhm hA hT).ok
 have kx: ∀u∈prodL A B,u.key=[]:=fun u hu=>by
  obtain⟨_,_,rfl⟩:=zzf.1 hu;rfl
 have hxy:x=y:=(zis q2 q4 ox o4.ok fun v=>by
  rw[zl0 kp (fun u hu=>by rcases zz2.1 hu with g|g;exact hT.ok u g;exact o1.ok u g) q1 v,←zjh q3 v,sm_wi,sm_wi];exact(zhn (fun u hu=>by rw[zn8 v u hu]) (zn2 q3 kx)).symm).1
 subst hxy;rw[if_pos rfl,z5k () (fun _ _=>True) (fun _ _=>rfl)]
 ·rfl
 ·intro i s hi _;refine⟨(),?_,trivial⟩;rw[z0a (by omega),z54,cU_is.refl];simp only[zz0,if_true];rw[z0a (by omega)]
 ·trivial
theorem zjp:z5e 100000000000=some true:=by kernel_rfl
theorem zie {a b:List Update}(h1:okUs a)(h2:okUs b)(hb:((a.map z65).sum+1)+(((b.map z65).sum+1)+0)≤1048576):z56 100000000000 a b=some true:=by
 have l1:=zjk a;have l2:=zjk b
 exact zh5 zjp (by omega) (us_in h1) (us_nn h1) (us_in h2) (us_nn h2) (by omega) (zmw (by omega))
end Go.Av
