import Derived.Test.YtnllehdkeggddaaGreatT3x5
import Derived.Sort.LotD3
import Derived.Sort.LotD4
import Derived.Sort.LotA
import Derived.Sort.LotB
import Derived.Sort.LotC
import Derived.Sort.AssemblyPlain
import Derived.Sort.LotD5
set_option maxRecDepth 100000
set_option linter.unusedVariables false
set_option linter.unusedSimpArgs false
set_option linter.unusedSectionVars false
open Go.IntKind renaming i64→zzi, u64→zzu
open Inhabited renaming default→zzd
open Option renaming bind_some→zz0
open Array renaming length_toList→zz1
open List renaming mem_append→zz3, mem_cons_self→zz7, replicate→zz8, length_set→zz9, mem_cons_of_mem→zzb, mem_singleton→zzf, length_append→zzj, eq_nil_of_length_eq_zero→zzk, mem_append_right→zzl, mem_cons→zzm, mem_append_left→zzn, mem_map→zzp, map_cons→zzq
open Nat renaming zero_add→zz4, le_refl→zzc
open Int renaming toNat_natCast→zz5
open Bool renaming not_true→zzh
/-
 Av,part V:of loops,without any program.
-/
namespace Go.Av
section
variable {S R Q A X:Type}
theorem        zf8 {B : Nat → S → Option (Ctl S R)} {n : Nat} (I : Nat → S → Prop) {s : S} (h0 : I 0 s) (hs : ∀ i s, i < n → I i s → ∃ s', B i s = some (.next s') ∧ I (i + 1) s') :
    ∃ s',    z0i B n 0 s = some (.done s') ∧ I n s' := by
  have key : ∀ k i s, i + k = n → I i s → ∃ s',    z0i B k i s = some (.done s') ∧ I n s' := by
    intro k
    induction k with
    | zero => intro i s hi h; exact ⟨s, rfl, by have : i = n := by omega
                                                subst this; exact h⟩
    | succ k ih =>
      intro i s hi h
      obtain ⟨s', h1, h2⟩ := hs i s (by omega) h
      obtain ⟨s2, h3, h4⟩ := ih (i + 1) s' (by omega) h2
      exact ⟨s2, by simp only [   z0i, h1, h3], h4⟩
  exact key n 0 s (by omega) h0
theorem z5q {B:Nat→S→Option (Ctl S R)}{n:Nat}{s:S}(r:S)(I:Nat→S→Prop)(hr: ∀s,I n s→s=r)(hs: ∀i s,i<n→I i s→ ∃s',B i s=some (.next s')∧I (i+1) s')(h0:I 0 s):
 z0i B n 0 s=some (.done r):=by
 obtain⟨s',h1,h2⟩:=zf8 I h0 hs;rw[h1,hr s' h2]
theorem         zn8 {B : Nat → S → Option (Ctl S R)} {n : Nat} (I : Nat → S → Prop) (D : S → Prop) (J : R → Prop) {s : S} (h0 : I 0 s)
    (hs : ∀ i s, i < n → I i s → (∃ s', B i s = some (.next s') ∧ I (i + 1) s') ∨ (∃ s', B i s = some (.brk s') ∧ D s') ∨ ∃ r, B i s = some (.ret r) ∧ J r) (hD : ∀ s, I n s → D s) :
    (∃ s',    z0i B n 0 s = some (.done s') ∧ D s') ∨ ∃ r,    z0i B n 0 s = some (.ret r) ∧ J r := by
  have key : ∀ k i s, i + k = n → I i s → (∃ s',    z0i B k i s = some (.done s') ∧ D s') ∨ ∃ r,    z0i B k i s = some (.ret r) ∧ J r := by
    intro k
    induction k with
    | zero => intro i s hi h; exact .inl ⟨s, rfl, by have : i = n := by omega
                                                     subst this; exact hD s h⟩
    | succ k ih =>
      intro i s hi h
      rcases hs i s (by omega) h with ⟨s', h1, h2⟩ | ⟨s', h1, h2⟩ | ⟨r, h1, h2⟩
      · rcases ih (i + 1) s' (by omega) h2 with ⟨s2, h3, h4⟩ | ⟨r, h3, h4⟩
        · exact .inl ⟨s2, by simp only [   z0i, h1, h3], h4⟩
        · exact .inr ⟨r, by simp only [   z0i, h1, h3], h4⟩
      · exact .inl ⟨s', by simp only [   z0i, h1], h2⟩
      · exact .inr ⟨r, by simp only [   z0i, h1], h2⟩
  exact key n 0 s (by omega) h0
theorem z30 [Inhabited X]{l:List X}{i:Nat}(h:i<l.length):l.take (i+1)=l.take i++[l.getD i zzd]:=by
 rw[List.take_add_one,List.getElem?_eq_getElem h,List.getD_eq_getElem?_getD,List.getElem?_eq_getElem h];rfl
theorem z3e [Inhabited X]{l:List X}{i:Nat}(h:i<l.length):l.getD i zzd∈l:=by
 rw[List.getD_eq_getElem?_getD,List.getElem?_eq_getElem h];exact List.getElem_mem h
@[simp] theorem z4q {s:S} {kn:S→Option Q} {kr:R→Option Q}:outK (some (.done s)) kn kr=kn s:=rfl
@[simp] theorem ztg {r:R} {kn:S→Option Q} {kr:R→Option Q}:outK (some (.ret r)) kn kr=kr r:=rfl
@[simp] theorem z3h {x y:Option Q}:bf true x y=x:=rfl
@[simp] theorem z0n {x y:Option Q}:bf false x y=y:=rfl
theorem z0a {c:Prop}[Decidable c]{k:Option Q}(h:c):need c k=k:=by unfold need;rw[if_pos h]
@[simp] theorem jn_eq {j:A→Option Q} {k:(A→Option Q)→Option Q}:jn j k=k j:=rfl
@[simp] theorem z0d {p:Prop} [Decidable p] {x y:Option Q}:bf (decide p) x y=if p then x else y:=by by_cases h:p<;>simp[h,bf]
@[simp] theorem z5e {b:Bool} {x y:Option Q}:bf (!b) x y=bf b y x:=by cases b<;>rfl
end
end Go.Av
/-
 Orders,as comparisons with three answers:without any program.
-/
namespace Go.Av
open Go
structure IsCmp {α:Type} (c:α→α→Int):Prop where
 vals: ∀a b,c a b= -1∨c a b=0∨c a b=1
 anti: ∀a b,c b a= - c a b
 tr: ∀a b d,c a b≤0→c b d≤0→c a d≤0
namespace IsCmp
variable {α β:Type} {c:α→α→Int}
theorem refl (h:IsCmp c)(a:α):c a a=0:=by have:=h.anti a a;omega
theorem lt_tr (h:IsCmp c){a b d:α}(h1:c a b<0)(h2:c b d≤0):c a d<0:=by
 have:=h.tr a b d (by omega) h2;rcases h.vals a d with g|g|g
 ·omega
 ·have g1:=h.anti a d;have g2:=h.tr b d a h2 (by omega)
  have g3:=h.anti a b;omega
 ·omega
theorem eqL (h:IsCmp c){a b:α}(d:α)(h1:c a b=0):c a d=c b d:=by
 have h2:=h.anti a b;have t1:=h.tr a b d (by omega)
 have t2:=h.tr b a d (by omega);have t3:=h.tr d a b
 have t4:=h.tr d b a;have a1:=h.anti a d
 have a2:=h.anti b d;rcases h.vals a d with g|g|g<;>rcases h.vals b d with k|k|k<;>omega
theorem eqR (h:IsCmp c){a b:α}(d:α)(h1:c a b=0):c d a=c d b:=by
 have:=h.eqL d h1;have a1:=h.anti a d
 have a2:=h.anti b d;omega
theorem symm0 (h:IsCmp c){a b:α}(h1:c a b=0):c b a=0:=by have:=h.anti a b;omega
theorem on (h:IsCmp c)(f:β→α):IsCmp fun x y=>c (f x) (f y):=⟨fun a b=>h.vals _ _,fun a b=>h.anti _ _,fun a b d=>h.tr _ _ _⟩
end IsCmp
def cmpZ (a b:Int):Int:=if a<b then -1 else if b<a then 1 else 0
theorem zb4:IsCmp cmpZ where
 vals a b:=by unfold cmpZ;split<;>(try split)<;>simp
 anti a b:=by unfold cmpZ;split<;>(try split)<;>(try split)<;>(try split)<;>omega
 tr a b d:=by unfold cmpZ;split<;>(try split)<;>(try split)<;>(try split)<;>(try split)<;>(try split)<;>omega
theorem zk7 {a b:Int}:cmpZ a b=0↔a=b:=by unfold cmpZ;split<;>(try split)<;>omega
def thenC (u v:Int):Int:=if u=0 then v else u
theorem IsCmp.lex {α:Type}{c d:α→α→Int}(hc:IsCmp c)(hd:IsCmp d):IsCmp fun a b=>thenC (c a b) (d a b) where
 vals a b:=by
  unfold thenC;split
  ·exact hd.vals a b
  ·exact hc.vals a b
 anti a b:=by
  have h1:=hc.anti a b;have h2:=hd.anti a b
  unfold thenC;split<;>split<;>omega
 tr a b e h1 h2:=by
  unfold thenC at*;by_cases g1:c a b=0<;>by_cases g2:c b e=0
  ·have:=hc.eqL e g1;rw[if_pos g1]at h1;rw[if_pos g2]at h2;rw[if_pos (by omega)];exact hd.tr a b e h1 h2
  ·have:=hc.eqL e g1;rw[if_neg g2]at h2;rw[if_neg (by omega)];omega
  ·have:=hc.eqR a g2;rw[if_neg g1]at h1;rw[if_neg (by omega)];omega
  ·rw[if_neg g1]at h1;rw[if_neg g2]at h2;have:=hc.lt_tr (a:=a) (b:=b) (d:=e) (by omega) h2
   rw[if_neg (by omega)];omega
def cmpL {α:Type}(c:α→α→Int):List α→List α→Int
 |[],[]=>0
 |[],_::_=> -1
 |_::_,[]=>1
 |a::x,b::y=>thenC (c a b) (cmpL c x y)
theorem IsCmp.list {α:Type}{c:α→α→Int}(h:IsCmp c):IsCmp (cmpL c) where
 vals:=by
  intro a;induction a with
  |nil=>intro b;cases b<;>simp[cmpL]
  |cons x a ih=>
   intro b;cases b with
   |nil=>simp[cmpL]
   |cons y b=>
    simp only[cmpL,thenC];split
    ·exact ih b
    ·exact h.vals x y
 anti:=by
  intro a;induction a with
  |nil=>intro b;cases b<;>simp[cmpL]
  |cons x a ih=>
   intro b;cases b with
   |nil=>simp[cmpL]
   |cons y b=>
    have h1:=h.anti x y;have h2:=ih b
    simp only[cmpL,thenC];split<;>split<;>omega
 tr:=by
  intro a;induction a with
  |nil=>intro b d _ _;cases d<;>simp[cmpL]
  |cons x a ih=>
   intro b d h1 h2;cases b with
   |nil=>simp[cmpL]at h1
   |cons y b=>
    cases d with
    |nil=>simp[cmpL]at h2
    |cons z d=>
     simp only[cmpL]at*;unfold thenC at*;by_cases g1:c x y=0<;>by_cases g2:c y z=0
     ·have:=h.eqL z g1;rw[if_pos g1]at h1;rw[if_pos g2]at h2;rw[if_pos (by omega)];exact ih b d h1 h2
     ·have:=h.eqL z g1;rw[if_neg g2]at h2;rw[if_neg (by omega)];omega
     ·have:=h.eqR x g2;rw[if_neg g1]at h1;rw[if_neg (by omega)];omega
     ·rw[if_neg g1]at h1;rw[if_neg g2]at h2;have:=h.lt_tr (a:=x) (b:=y) (d:=z) (by omega) h2
      rw[if_neg (by omega)];omega
def cmpU8 (a b:UInt8):Int:=cmpZ (a.toNat:Int) (b.toNat:Int)
theorem zqw:IsCmp cmpU8:=zb4.on fun a:UInt8=>(a.toNat:Int)
theorem zff: ∀x y:List UInt8,Op.bytesLess x y=decide (cmpL cmpU8 x y<0)
 |[],[]=>by simp[Op.bytesLess,cmpL]
 |[],_::_=>by simp[Op.bytesLess,cmpL]
 |_::_,[]=>by simp[Op.bytesLess,cmpL]
 |a::x,b::y=>by
  rw[Op.bytesLess,zff x y,cmpL];have e1:(a<b)↔(a.toNat:Int)<(b.toNat:Int):=by rw[UInt8.lt_iff_toNat_lt];omega
  have e2:(a=b)↔(a.toNat:Int)=(b.toNat:Int):=by rw[←UInt8.toNat_inj];omega
  unfold cmpU8 thenC cmpZ;rw[Bool.eq_iff_iff];simp only[Bool.or_eq_true,Bool.and_eq_true,decide_eq_true_eq,beq_iff_eq,e1,e2];by_cases h1:(a.toNat:Int)<(b.toNat:Int)
  ·simp[h1]
  ·by_cases h2:(b.toNat:Int)<(a.toNat:Int)
   ·simp[h1,h2];omega
   ·have:(a.toNat:Int)=(b.toNat:Int):=by omega
    simp[this]
theorem zhg: ∀x y:List UInt8,(x==y)=decide (cmpL cmpU8 x y=0)
 |[],[]=>by simp[cmpL]
 |[],_::_=>by simp[cmpL]
 |_::_,[]=>by simp[cmpL]
 |a::x,b::y=>by
  rw[List.cons_beq_cons,zhg x y,cmpL];have e2:(a=b)↔(a.toNat:Int)=(b.toNat:Int):=by rw[←UInt8.toNat_inj];omega
  have e3:cmpU8 a b=0↔(a.toNat:Int)=(b.toNat:Int):=zk7;unfold thenC;rw[Bool.eq_iff_iff];simp only[Bool.and_eq_true,decide_eq_true_eq,beq_iff_eq,e2];by_cases h:cmpU8 a b=0
  ·rw[if_pos h];simp[e3.1 h]
  ·rw[if_neg h];constructor
   ·rintro⟨g,_⟩;exact absurd (e3.2 g) h
   ·intro g;exact absurd g h
def cmpS (a b:ByteArray):Int:=cmpL cmpU8 a.toList b.toList
theorem zgz:IsCmp cmpS:=zqw.list.on fun a:ByteArray=>a.toList
theorem zkn (a b:ByteArray):strLt a b=decide (cmpS a b<0):=zff _ _
theorem zkm (a b:ByteArray):strEq a b=decide (cmpS a b=0):=zhg _ _
theorem zoy (a:ByteArray):strEq a a=true:=by unfold strEq;simp
theorem zkw {a b:ByteArray}(h:a.toList=b.toList):a=b:=by
 rw[ByteArray.toList_eq,ByteArray.toList_eq]at h;cases a;cases b;simp at h;simp[h]
theorem zgv {a b:ByteArray}:strEq a b=true↔a=b:=by
 unfold strEq;rw[beq_iff_eq];exact⟨zkw,fun h=>by rw[h]⟩
theorem zpd {a b:ByteArray}:cmpS a b=0↔a=b:=by
 rw[←zgv,zkm,decide_eq_true_eq]
theorem z2k {α:Type}[Inhabited α]{l:List α}{i:Nat}(h:i<l.length):l.drop i=l.getD i zzd::l.drop (i+1):=by
 rw[List.drop_eq_getElem_cons h,List.getD_eq_getElem?_getD,List.getElem?_eq_getElem h];rfl
theorem zs3 {α:Type}[Inhabited α]{c:α→α→Int}{p0 p1:List α}{B:Nat→Unit→Option (Ctl Unit Int)}{kn:Unit→Option Int}
 (hB: ∀i,i<p0.length→B i ()=if p1.length≤i then some (.ret 1)else if c (p0.getD i zzd) (p1.getD i zzd)=0 then some (.next ())else some (.ret (c (p0.getD i zzd) (p1.getD i zzd))))
 (hk:kn ()=some (if p0.length<p1.length then -1 else 0)):outK (z0i B p0.length 0 ()) kn (fun x=>some x)=some (cmpL c p0 p1):=by
 have key: ∀k i,i+k=p0.length→i≤p1.length→outK (z0i B k i ()) kn (fun x=>some x)=some (cmpL c (p0.drop i) (p1.drop i)):=by
  intro k;induction k with
  |zero=>
   intro i hi hle;simp only[z0i,z4q,hk];rw[List.drop_eq_nil_of_le (by omega:p0.length≤i)];by_cases h:p0.length<p1.length
   ·rw[if_pos h,z2k (by omega:i<p1.length)];rfl
   ·rw[if_neg h,List.drop_eq_nil_of_le (by omega:p1.length≤i)];rfl
  |succ k ih=>
   intro i hi hle;simp only[z0i,hB i (by omega)];rw[z2k (by omega:i<p0.length)];by_cases h:p1.length≤i
   ·rw[if_pos h,List.drop_eq_nil_of_le (by omega:p1.length≤i)];rfl
   ·rw[if_neg h,z2k (by omega:i<p1.length)];simp only[cmpL,thenC];by_cases h0:c (p0.getD i zzd) (p1.getD i zzd)=0
    ·rw[if_pos h0,if_pos h0];exact ih (i+1) (by omega) (by omega)
    ·rw[if_neg h0,if_neg h0];rfl
 exact key p0.length 0 (by omega) (by omega)
theorem zn5 {S R:Type}{B:S→Option (Ctl S R)}(f:Nat→S){n fuel:Nat}{z:S}(hf:n<fuel)(hs: ∀i,i<n→B (f i)=some (.next (f (i+1)))) (he:B (f n)=some (.brk z)):loopN B fuel (f 0)=some (.done z):=by
 have key: ∀k i fuel,i+k=n→k<fuel→loopN B fuel (f i)=some (.done z):=by
  intro k;induction k with
  |zero=>
   intro i fuel hi hf;have:i=n:=by omega
   subst this;cases fuel with
   |zero=>omega
   |succ fuel=>simp only[loopN,he]
  |succ k ih=>
   intro i fuel hi hf;cases fuel with
   |zero=>omega
   |succ fuel=>simp only[loopN,hs i (by omega)];exact ih (i+1) fuel (by omega) (by omega)
 exact key n 0 fuel (by omega) hf
end Go.Av
/-
 Numbers and bits:without any program.
-/
namespace Go.Av
open Go
theorem z9j (n:Int):zzu.wrap n=n % 18446744073709551616:=by simp[IntKind.wrap,IntKind.bits,IntKind.signed]
theorem za6 (n:Int):zzi.wrap n=if n % 18446744073709551616≥9223372036854775808 then n % 18446744073709551616-18446744073709551616 else n % 18446744073709551616:=by
 simp[IntKind.wrap,IntKind.bits,IntKind.signed]
def in64 (x:Int):Prop:= -9223372036854775808≤x∧x<9223372036854775808
def inU64 (x:Int):Prop:=0≤x∧x<18446744073709551616
theorem z9w {x:Int}(h:in64 x):zzi.wrap x=x:=by
 unfold in64 at h;rw[za6];split<;>omega
theorem shr63 {x:Int}(h:in64 x):shrOp .i64 x 63=if x<0 then -1 else 0:=by
 unfold in64 at h;unfold shrOp;have e:(2:Int)^(min (63:Int).toNat zzi.bits)=9223372036854775808:=by decide
 rw[e,Int.fdiv_eq_ediv_of_nonneg _ (by decide)];split<;>omega
theorem zel (k:IntKind)(n m:Nat)(hm:m≤k.bits):shrOp k (n:Int) (m:Int)=((n / 2^m:Nat):Int):=by
 unfold shrOp;rw[zz5,Nat.min_eq_left hm,Int.fdiv_eq_ediv_of_nonneg _ (by exact Int.le_of_lt (Int.pow_pos (by decide)))]
 push_cast
 rfl
theorem zbh {w:Nat}(n:Nat)(h:n<2^w):(BitVec.ofInt w (n:Int)).toNat=n:=by
 rw[BitVec.toNat_ofInt];have e:((n:Int) % ((2^w:Nat):Int))=(n:Int):=Int.emod_eq_of_lt (by omega) (by exact_mod_cast h);rw[e,zz5]
theorem uwrap {k:IntKind}(hs:k.signed=false){n:Nat}(h:n<2^k.bits):k.wrap (n:Int)=(n:Int):=by
 unfold IntKind.wrap;simp only[hs,Bool.false_and,Bool.false_eq_true,if_false];have:((2:Int)^k.bits)=((2^k.bits:Nat):Int):=by push_cast;rfl
 rw[this];exact Int.emod_eq_of_lt (by omega) (by exact_mod_cast h)
theorem zjx {k:IntKind}(hs:k.signed=false){x y:Nat}(hx:x<2^k.bits)(hy:y<2^k.bits):z0w .xor k (x:Int) (y:Int)=((x^^^y:Nat):Int):=by
 unfold z0w;simp only;rw[BitVec.toNat_xor,zbh x hx,zbh y hy,uwrap hs (Nat.xor_lt_two_pow hx hy)]
theorem zry {k:IntKind}(hs:k.signed=false){x y:Nat}(hx:x<2^k.bits)(hy:y<2^k.bits):z0w .and k (x:Int) (y:Int)=((x &&& y:Nat):Int):=by
 unfold z0w;simp only;rw[BitVec.toNat_and,zbh x hx,zbh y hy,uwrap hs (Nat.and_lt_two_pow x hy)]
theorem zjv {k:IntKind}(n m:Nat)(hm:m≤k.bits):shlOp k (n:Int) (m:Int)=k.wrap ((n*2^m:Nat):Int):=by
 unfold shlOp;rw[zz5,Nat.min_eq_left hm]
 push_cast
 rfl
end Go.Av
namespace Go.Av
open Go
section
variable {α:Type} {c:α→α→Int}
def sm (c:α→α→Int):List (α×Int)→α→Int
 |[],_=>0
 |p::l,y=>(if c y p.1=0 then p.2 else 0)+sm c l y
def wt (g:α→Bool):List (α×Int)→Int
 |[]=>0
 |p::l=>(if g p.1=true then p.2 else 0)+wt g l
theorem z74 (l l':List (α×Int))(y:α):sm c (l++l') y=sm c l y+sm c l' y:=by
 induction l with
 |nil=>simp[sm]
 |cons p l ih=>simp only[List.cons_append,sm,ih];omega
theorem zo3 {l l':List (α×Int)}(h:l.Perm l')(y:α):sm c l y=sm c l' y:=by
 induction h with
 |nil=>rfl
 |cons p _ ih=>simp only[sm,ih]
 |swap p q l=>simp only[sm];omega
 |trans _ _ h1 h2=>exact h1.trans h2
theorem z7c (hC:IsCmp c){y z:α}(h:c y z=0): ∀l:List (α×Int),sm c l y=sm c l z
 |[]=>rfl
 |p::l=>by simp only[sm,z7c hC h l,hC.eqL p.1 h]
theorem zac {y:α}: ∀{l:List (α×Int)},(∀p∈l,c y p.1≠0)→sm c l y=0
 |[],_=>rfl
 |p::l,h=>by simp only[sm,if_neg (h p (zz7 ..)),zac fun q hq=>h q (zzb _ hq)];omega
theorem zck {y:α}{l:List (α×Int)}(h:sm c l y≠0): ∃p∈l,c y p.1=0:=by
 apply Classical.byContradiction;intro hn;exact h (zac fun p hp e=>hn ⟨p,hp,e⟩)
theorem zqo (g:α→Bool)(l l':List (α×Int)):wt g (l++l')=wt g l+wt g l':=by
 induction l with
 |nil=>simp[wt]
 |cons p l ih=>simp only[List.cons_append,wt,ih];omega
def negP (l:List (α×Int)):List (α×Int):=l.map fun p=>(p.1,-p.2)
theorem ztd (l:List (α×Int))(y:α):sm c (negP l) y= - sm c l y:=by
 induction l with
 |nil=>rfl
 |cons p l ih=>
  unfold negP at*;simp only[zzq,sm,ih];split<;>omega
theorem ztf (g:α→Bool)(l:List (α×Int)):wt g (negP l)= - wt g l:=by
 induction l with
 |nil=>rfl
 |cons p l ih=>
  unfold negP at*;simp only[zzq,wt,ih];split<;>omega
theorem grp0 (hC:IsCmp c){g:α→Bool}(hg: ∀x y,c x y=0→g x=g y): ∀(n:Nat) (l:List (α×Int)),l.length≤n→(∀y,sm c l y=0)→wt g l=0
 |0,[],_,_=>rfl
 |0,p::l,h,_=>by simp at h
 |n+1,[],_,_=>rfl
 |n+1,p::l,h,hs=>by
  have key: ∀L:List (α×Int),wt g L=(if g p.1=true then sm c L p.1 else 0)+wt g (L.filter fun q=> !decide (c p.1 q.1=0))∧ ∀y,sm c (L.filter fun q=> !decide (c p.1 q.1=0)) y=if c p.1 y=0 then 0 else sm c L y:=by
   intro L;induction L with
   |nil=>exact⟨by simp[wt,sm],fun y=>by simp[sm]⟩
   |cons q L ih=>
    obtain⟨i1,i2⟩:=ih;by_cases e:c p.1 q.1=0
    ·rw[List.filter_cons_of_neg (by simp[e])];refine⟨?_,fun y=>?_⟩
     ·simp only[wt,sm,i1,if_pos e,←hg _ _ e];split<;>omega
     ·rw[i2];by_cases e2:c p.1 y=0
      ·rw[if_pos e2,if_pos e2]
      ·rw[if_neg e2,if_neg e2];simp only[sm];rw[if_neg]
       ·omega
       ·intro e3;exact e2 (by rw[hC.eqL y e];exact hC.symm0 e3)
    ·rw[List.filter_cons_of_pos (by simp[e])];refine⟨?_,fun y=>?_⟩
     ·simp only[wt,sm,i1,if_neg e]
      repeat' split
      all_goals omega
     ·simp only[sm,i2];by_cases e2:c p.1 y=0
      ·rw[if_pos e2,if_pos e2,if_neg]
       ·rfl
       ·intro e3;exact e (by rw[hC.eqL _ e2];exact e3)
      ·rw[if_neg e2,if_neg e2]
  obtain⟨k1,k2⟩:=key (p::l);rw[k1,hs];have hl:((p::l).filter fun q=> !decide (c p.1 q.1=0)).length≤n:=by
   rw[List.filter_cons_of_neg (by simp[hC.refl])];have:=List.length_filter_le (fun q:α×Int=> !decide (c p.1 q.1=0)) l;simp only[List.length_cons]at h;omega
  rw[grp0 hC hg n _ hl fun y=>by rw[k2,hs];simp];split<;>rfl
theorem grp (hC:IsCmp c){g:α→Bool}(hg: ∀x y,c x y=0→g x=g y){l l':List (α×Int)}(h: ∀y,sm c l y=sm c l' y):wt g l=wt g l':=by
 have:=grp0 hC hg _ (l++negP l') (zzc _) fun y=>by rw[z74,ztd,h];omega
 rw[zqo,ztf]at this;omega
structure SS (c:α→α→Int) (l S:List (α×Int)):Prop where
 strict:S.Pairwise fun a b=>c a.1 b.1<0
 sum: ∀p∈S,p.2=sm c l p.1
 mem: ∀p∈S,∃y∈l,y.1=p.1
 all: ∀y∈l,∃p∈S,c p.1 y.1=0
theorem zqd:SS c [] []:=⟨List.Pairwise.nil,fun p h=>(by cases h),fun p h=>(by cases h),fun p h=>(by cases h)⟩
theorem zqb (x y:α)(n:Int):sm c [(x,n)] y=if c y x=0 then n else 0:=by simp[sm]
theorem zj8 (hC:IsCmp c){l A B:List (α×Int)}{x:α}{n:Int}(h:SS c l (A++B))(hA: ∀p∈A,c p.1 x<0)(hB: ∀p∈B,c x p.1<0):SS c (l++[(x,n)]) (A++(x,n)::B):=by
 have hne: ∀p∈A++B,c p.1 x≠0:=fun p hp=>by
  rcases zz3.1 hp with hp|hp
  ·have:=hA p hp;omega
  ·have:=hB p hp;have:=hC.anti x p.1;omega
 have hs:=h.strict;rw[List.pairwise_append]at hs;refine⟨?_,?_,?_,?_⟩
 ·rw[List.pairwise_append];refine⟨hs.1,List.pairwise_cons.2 ⟨hB,hs.2.1⟩,fun a ha b hb=>?_⟩;rcases zzm.1 hb with rfl|hb
  ·exact hA a ha
  ·exact hs.2.2 a ha b hb
 ·intro p hp;rw[z74,zqb];have hp':p=(x,n)∨p∈A++B:=by
   rcases zz3.1 hp with hp|hp
   ·exact .inr (zz3.2 (.inl hp))
   ·rcases zzm.1 hp with hp|hp
    ·exact .inl hp
    ·exact .inr (zz3.2 (.inr hp))
  rcases hp' with rfl|hp'
  ·simp only[hC.refl];rw[zac fun q hq e=>?_]
   ·simp
   ·obtain⟨p,hp,e2⟩:=h.all q hq;exact hne p hp (by rw[hC.eqL x e2];exact hC.symm0 e)
  ·rw[if_neg (hne p hp'),←h.sum p hp'];omega
 ·intro p hp;rcases zz3.1 hp with hp|hp
  ·obtain⟨y,h1,h2⟩:=h.mem p (zz3.2 (.inl hp));exact⟨y,zz3.2 (.inl h1),h2⟩
  ·rcases zzm.1 hp with rfl|hp
   ·exact⟨(x,n),zz3.2 (.inr (zzf.2 rfl)),rfl⟩
   ·obtain⟨y,h1,h2⟩:=h.mem p (zz3.2 (.inr hp));exact⟨y,zz3.2 (.inl h1),h2⟩
 ·intro y hy;rcases zz3.1 hy with hy|hy
  ·obtain⟨p,h1,h2⟩:=h.all y hy;refine⟨p,?_,h2⟩;rcases zz3.1 h1 with h1|h1
   ·exact zz3.2 (.inl h1)
   ·exact zz3.2 (.inr (zzb _ h1))
  ·rw[zzf.1 hy];exact⟨(x,n),zz3.2 (.inr (zz7 ..)),hC.refl x⟩
theorem zqc (hC:IsCmp c){l A B:List (α×Int)}{x:α}{p:α×Int}{n:Int}(h:SS c l (A++p::B))(hp:c p.1 x=0):SS c (l++[(x,n)]) (A++(p.1,p.2+n)::B):=by
 have hs:=h.strict;rw[List.pairwise_append,List.pairwise_cons]at hs;have hx:=hC.symm0 hp
 have hA: ∀q∈A,c q.1 x≠0:=fun q hq e=>by
  have:=hs.2.2 q hq p (zz7 ..);rw[hC.eqR q.1 hp]at this;omega
 have hB: ∀q∈B,c q.1 x≠0:=fun q hq e=>by
  have:=hs.2.1.1 q hq;rw[hC.eqL q.1 hp,hC.symm0 e]at this;omega
 refine⟨?_,?_,?_,?_⟩
 ·rw[List.pairwise_append,List.pairwise_cons];refine⟨hs.1,⟨hs.2.1.1,hs.2.1.2⟩,fun a ha b hb=>?_⟩;rcases zzm.1 hb with rfl|hb
  ·exact hs.2.2 a ha p (zz7 ..)
  ·exact hs.2.2 a ha b (zzb _ hb)
 ·intro q hq;rw[z74,zqb];rcases zz3.1 hq with hq|hq
  ·rw[if_neg (hA q hq),h.sum q (zz3.2 (.inl hq))];omega
  ·rcases zzm.1 hq with rfl|hq
   ·simp only;rw[if_pos hp,h.sum p (zz3.2 (.inr (zz7 ..)))]
   ·rw[if_neg (hB q hq),h.sum q (zz3.2 (.inr (zzb _ hq)))];omega
 ·intro q hq;have: ∃q'∈A++p::B,q'.1=q.1:=by
   rcases zz3.1 hq with hq|hq
   ·exact⟨q,zz3.2 (.inl hq),rfl⟩
   ·rcases zzm.1 hq with rfl|hq
    ·exact⟨p,zz3.2 (.inr (zz7 ..)),rfl⟩
    ·exact⟨q,zz3.2 (.inr (zzb _ hq)),rfl⟩
  obtain⟨q',h1,h2⟩:=this;obtain⟨y,h3,h4⟩:=h.mem q' h1;exact⟨y,zz3.2 (.inl h3),h4.trans h2⟩
 ·intro y hy;rcases zz3.1 hy with hy|hy
  ·obtain⟨q,h1,h2⟩:=h.all y hy;rcases zz3.1 h1 with h1|h1
   ·exact⟨q,zz3.2 (.inl h1),h2⟩
   ·rcases zzm.1 h1 with rfl|h1
    ·exact⟨(q.1,q.2+n),zz3.2 (.inr (zz7 ..)),h2⟩
    ·exact⟨q,zz3.2 (.inr (zzb _ h1)),h2⟩
  ·rw[zzf.1 hy];exact⟨(p.1,p.2+n),zz3.2 (.inr (zz7 ..)),hp⟩
def Fits (c:α→α→Int)(l:List (α×Int)):Prop:= ∀y,in64 (sm c l y)
theorem zh4 (hC:IsCmp c){l S:List (α×Int)}(h:SS c l S):Fits c l↔ ∀p∈S,in64 p.2:=by
 constructor
 ·intro hf p hp;rw[h.sum p hp];exact hf p.1
 ·intro hf y;by_cases e:sm c l y=0
  ·rw[e];unfold in64;omega
  ·obtain⟨q,h1,h2⟩:=zck e;obtain⟨p,h3,h4⟩:=h.all q h1;have e2:c p.1 y=0:=by rw[hC.eqL y h4];exact hC.symm0 h2
   rw[←z7c hC e2,←h.sum p h3];exact hf p h3
structure Res (c:α→α→Int) (num:α→Int) (put:α→Int→α) (l:List (α×Int)) (R:List α):Prop where
 strict:R.Pairwise fun a b=>c a b<0
 sum: ∀r∈R,num r=sm c l r∧num r≠0
 mem: ∀r∈R,∃y∈l,r=put y.1 (num r)
 all: ∀y∈l,sm c l y.1≠0→ ∃r∈R,c r y.1=0
def Tot (c:α→α→Int)(num:α→Int)(put:α→Int→α)(l:List (α×Int))(R:List α)(e:Int):Prop:=(e=0∧Res c num put l R∧Fits c l)∨(e=10∧R=[]∧ ¬Fits c l)
def left0 (put:α→Int→α)(S:List (α×Int)):List α:=(S.filter fun p=> !decide (p.2=0)).map fun p=>put p.1 p.2
theorem zq6 (hC:IsCmp c){num:α→Int}{put:α→Int→α}(h1: ∀x n,num (put x n)=n)(h2: ∀x n y,c (put x n) y=c x y){l S:List (α×Int)}(h:SS c l S):Res c num put l (left0 put S):=by
 have h3: ∀x n y,c y (put x n)=c y x:=fun x n y=>by have:=hC.anti y (put x n);have:=hC.anti y x;have:=h2 x n y;omega
 unfold left0;refine⟨?_,?_,?_,?_⟩
 ·rw[List.pairwise_map];refine List.Pairwise.imp (fun{a b} hab=>?_) (h.strict.filter _);rw[h2,h3];exact hab
 ·intro r hr;obtain⟨p,hp,rfl⟩:=zzp.1 hr;obtain⟨hp,hz⟩:=List.mem_filter.1 hp;rw[h1];refine⟨?_,by simpa using hz⟩;rw[z7c hC (show c (put p.1 p.2) p.1=0 by rw[h2];exact hC.refl _)];exact h.sum p hp
 ·intro r hr;obtain⟨p,hp,rfl⟩:=zzp.1 hr;obtain⟨hp,hz⟩:=List.mem_filter.1 hp;obtain⟨y,g1,g2⟩:=h.mem p hp;exact⟨y,g1,by rw[h1,g2]⟩
 ·intro y hy hn;obtain⟨p,g1,g2⟩:=h.all y hy;refine⟨put p.1 p.2,zzp.2 ⟨p,List.mem_filter.2 ⟨g1,?_⟩,rfl⟩,by rw[h2];exact g2⟩;have:=h.sum p g1
  rw[z7c hC g2]at this;simp only[Bool.not_eq_eq_eq_not,zzh,decide_eq_false_iff_not];omega
theorem zjb (hC:IsCmp c): ∀{R R':List α},R.Pairwise (fun a b=>c a b<0)→R'.Pairwise (fun a b=>c a b<0)→(∀x,x∈R↔x∈R')→R=R'
 |[],[],_,_,_=>rfl
 |[],x::_,_,_,h=>by cases (h x).2 (zz7 ..)
 |x::_,[],_,_,h=>by cases (h x).1 (zz7 ..)
 |a::R,b::R',h1,h2,h=>by
  rw[List.pairwise_cons]at h1 h2;have hab:a=b:=by
   rcases zzm.1 ((h a).1 (zz7 ..))with e|e
   ·exact e
   ·rcases zzm.1 ((h b).2 (zz7 ..))with e2|e2
    ·exact e2.symm
    ·have:=h2.1 a e;have:=h1.1 b e2;have:=hC.anti a b;omega
  subst hab;have ne1:a∉R:=fun g=>by have:=h1.1 a g;rw[hC.refl]at this;omega
  have ne2:a∉R':=fun g=>by have:=h2.1 a g;rw[hC.refl]at this;omega
  rw[zjb hC h1.2 h2.2 fun x=>?_];constructor
  ·intro hx;rcases zzm.1 ((h x).1 (zzb _ hx))with rfl|g
   ·exact absurd hx ne1
   ·exact g
  ·intro hx;rcases zzm.1 ((h x).2 (zzb _ hx))with rfl|g
   ·exact absurd hx ne2
   ·exact g
theorem zou (hC:IsCmp c){num:α→Int}{put:α→Int→α}{l l':List (α×Int)}{R R':List α}(h:Res c num put l R)(h':Res c num put l' R')(hs: ∀y,sm c l y=sm c l' y)
 (hV: ∀r∈R,∀r'∈R',c r r'=0→num r=num r'→r=r'):R=R':=by
 refine zjb hC h.strict h'.strict fun x=>⟨fun hx=>?_,fun hx=>?_⟩
 ·obtain⟨e1,e2⟩:=h.sum x hx;rw[hs]at e1;obtain⟨y,hy,e3⟩:=zck (c:=c) (l:=l') (y:=x) (by omega);obtain⟨r,hr,e4⟩:=h'.all y hy (by rw[←z7c hC e3];omega);have e5:c x r=0:=by rw[hC.eqL r e3];exact hC.symm0 e4
  rw[hV x hx r hr e5 (by rw[(h'.sum r hr).1,←z7c hC e5];exact e1)];exact hr
 ·obtain⟨e1,e2⟩:=h'.sum x hx;rw[←hs]at e1;obtain⟨y,hy,e3⟩:=zck (c:=c) (l:=l) (y:=x) (by omega);obtain⟨r,hr,e4⟩:=h.all y hy (by rw[←z7c hC e3];omega);have e5:c r x=0:=by rw[hC.eqL x e4];exact hC.symm0 e3
  rw[←hV r hr x hx e5 (by rw[(h.sum r hr).1,z7c hC e5];omega)];exact hr
theorem zp0 (hC:IsCmp c){num:α→Int}{put:α→Int→α}{l l':List (α×Int)}{R R':List α}{e e':Int}(h:Tot c num put l R e)(h':Tot c num put l' R' e')(hs: ∀y,sm c l y=sm c l' y)
 (hV: ∀r∈R,∀r'∈R',c r r'=0→num r=num r'→r=r'):R=R'∧e=e':=by
 have hf:Fits c l↔Fits c l':=by unfold Fits;simp only[hs]
 rcases h with⟨rfl,h1,h2⟩|⟨rfl,rfl,h2⟩
 ·rcases h' with⟨rfl,g1,g2⟩|⟨rfl,rfl,g2⟩
  ·exact⟨zou hC h1 g1 hs hV,rfl⟩
  ·exact absurd (hf.1 h2) g2
 ·rcases h' with⟨rfl,g1,g2⟩|⟨rfl,rfl,g2⟩
  ·exact absurd (hf.2 g2) h2
  ·exact⟨rfl,rfl⟩
theorem ztb (hC:IsCmp c){num:α→Int}{put:α→Int→α}{l:List (α×Int)}{R:List α}(h:Res c num put l R)(y:α):sm c (R.map fun r=>(r,num r)) y=sm c l y:=by
 by_cases e: ∃r∈R,c y r=0
 ·obtain⟨r,hr,e⟩:=e;rw[z7c hC e,z7c hC e,←(h.sum r hr).1];have hs:=h.strict
  clear h e;induction R with
  |nil=>cases hr
  |cons a R ih=>
   rw[List.pairwise_cons]at hs;simp only[zzq,sm];rcases zzm.1 hr with rfl|hr
   ·rw[if_pos (hC.refl _),zac fun p hp=>?_]
    ·omega
    ·obtain⟨q,hq,rfl⟩:=zzp.1 hp;have:=hs.1 q hq
     simp only;omega
   ·rw[if_neg (by have:=hs.1 r hr;have:=hC.anti r a;omega),ih hr hs.2];omega
 ·rw[zac fun p hp=>?_]
  ·apply Classical.byContradiction;intro hn;obtain⟨q,h1,h2⟩:=zck (c:=c) (l:=l) (y:=y) (fun h=>hn h.symm);obtain⟨r,h3,h4⟩:=h.all q h1 (by rw[←z7c hC h2];exact fun h=>hn h.symm);exact e ⟨r,h3,by rw[hC.eqL r h2];exact hC.symm0 h4⟩
  ·obtain⟨q,hq,rfl⟩:=zzp.1 hp;exact fun h=>e ⟨q,hq,h⟩
end
end Go.Av
namespace Go.Av
open Go
section
variable {α:Type} [Inhabited α]
def insG (cmp:α→α→Option Int)(fuel:Nat)(p1:Int)(p2:Int)(l0:List α):Option (List α):=
 outK (loopN (S:=Int×(List α)) (R:=Empty) (fun(a1:Int×(List α))=>bf (decide (a1.1<p2)) (outK (loopN (S:=Int×(List α)) (R:=Empty) (fun(a3:Int×(List α))=>jn (fun(a5:Bool)=>bf a5 (need ((0:Int)≤(zzi.wrap (a3.1-1))∧(zzi.wrap (a3.1-1))<(a3.2.length:Int))<|need ((0+(zzi.wrap (a3.1-1)).toNat)<a3.2.length)<|need ((0:Int)≤a3.1∧a3.1<(a3.2.length:Int))<|need ((0+a3.1.toNat)<a3.2.length)<|need ((0:Int)≤a3.1∧a3.1<(a3.2.length:Int))<|need ((0+a3.1.toNat)<a3.2.length)<|need ((0:Int)≤(zzi.wrap (a3.1-1))∧(zzi.wrap (a3.1-1))<(a3.2.length:Int))<|need ((0+(zzi.wrap (a3.1-1)).toNat)<(a3.2.set (0+a3.1.toNat) (a3.2.getD (0+(zzi.wrap (a3.1-1)).toNat) zzd)).length)<|some (.next ((zzi.wrap (a3.1-1)),((a3.2.set (0+a3.1.toNat) (a3.2.getD (0+(zzi.wrap (a3.1-1)).toNat) zzd)).set (0+(zzi.wrap (a3.1-1)).toNat) (a3.2.getD (0+a3.1.toNat) zzd))))) (some (.brk (a3.1,a3.2)))) fun j6=>bf (decide (p1<a3.1)) (need ((0:Int)≤a3.1∧a3.1<(a3.2.length:Int))<|need ((0+a3.1.toNat)<a3.2.length)<|need ((0:Int)≤(zzi.wrap (a3.1-1))∧(zzi.wrap (a3.1-1))<(a3.2.length:Int))<|need ((0+(zzi.wrap (a3.1-1)).toNat)<a3.2.length)<|(cmp (a3.2.getD (0+a3.1.toNat) zzd) (a3.2.getD (0+(zzi.wrap (a3.1-1)).toNat) zzd)).bind fun r20=>j6 (decide (r20<0))) (j6 false)) fuel (a1.1,a1.2)) (fun(a4:Int×(List α))=>some (.next ((zzi.wrap (a1.1+1)),a4.2))) (fun(x:Empty)=>x.elim)) (some (.brk (a1.1,a1.2)))) fuel ((zzi.wrap (p1+1)),l0)) (fun(a2:Int×(List α))=>some a2.2) (fun(x:Empty)=>x.elim)
def swapG (fuel:Nat)(p1:Int)(p2:Int)(p3:Int)(l0:List α):Option (List α):=
 outK (loopN (S:=Int×(List α)) (R:=Empty) (fun(a1:Int×(List α))=>bf (decide (a1.1<p3)) (need ((0:Int)≤(zzi.wrap (p2+a1.1))∧(zzi.wrap (p2+a1.1))<(a1.2.length:Int))<|need ((0+(zzi.wrap (p2+a1.1)).toNat)<a1.2.length)<|need ((0:Int)≤(zzi.wrap (p1+a1.1))∧(zzi.wrap (p1+a1.1))<(a1.2.length:Int))<|need ((0+(zzi.wrap (p1+a1.1)).toNat)<a1.2.length)<|need ((0:Int)≤(zzi.wrap (p1+a1.1))∧(zzi.wrap (p1+a1.1))<(a1.2.length:Int))<|need ((0+(zzi.wrap (p1+a1.1)).toNat)<a1.2.length)<|need ((0:Int)≤(zzi.wrap (p2+a1.1))∧(zzi.wrap (p2+a1.1))<(a1.2.length:Int))<|need ((0+(zzi.wrap (p2+a1.1)).toNat)<(a1.2.set (0+(zzi.wrap (p1+a1.1)).toNat) (a1.2.getD (0+(zzi.wrap (p2+a1.1)).toNat) zzd)).length)<|some (.next ((zzi.wrap (a1.1+1)),((a1.2.set (0+(zzi.wrap (p1+a1.1)).toNat) (a1.2.getD (0+(zzi.wrap (p2+a1.1)).toNat) zzd)).set (0+(zzi.wrap (p2+a1.1)).toNat) (a1.2.getD (0+(zzi.wrap (p1+a1.1)).toNat) zzd))))) (some (.brk (a1.1,a1.2)))) fuel (0,l0)) (fun(a2:Int×(List α))=>some a2.2) (fun(x:Empty)=>x.elim)
def rotG (fuel:Nat)(p1:Int)(p2:Int)(p3:Int)(l0:List α):Option (List α):=
 outK (loopN (S:=Int×Int×(List α)) (R:=Empty) (fun(a1:Int×Int×(List α))=>bf (!decide (a1.1=a1.2.1)) (bf (decide (a1.2.1<a1.1)) ((swapG fuel (zzi.wrap (p2-a1.1)) p2 a1.2.1 a1.2.2).bind fun r4=>need (r4.length=a1.2.2.length)<|some (.next ((zzi.wrap (a1.1-a1.2.1)),a1.2.1,r4))) ((swapG fuel (zzi.wrap (p2-a1.1)) (zzi.wrap ((zzi.wrap (p2+a1.2.1))-a1.1)) a1.1 a1.2.2).bind fun r6=>need (r6.length=a1.2.2.length)<|some (.next (a1.1,(zzi.wrap (a1.2.1-a1.1)),r6)))) (some (.brk (a1.1,a1.2.1,a1.2.2)))) fuel ((zzi.wrap (p2-p1)),(zzi.wrap (p3-p2)),l0)) (fun(a2:Int×Int×(List α))=>(swapG fuel (zzi.wrap (p2-a2.1)) p2 a2.1 a2.2.2).bind fun r3=>some r3) (fun(x:Empty)=>x.elim)
def symG (cmp:α→α→Option Int):Nat→Int→Int→Int→(List α)→Option (List α)
 |0,_,_,_,_=>none
 |fuel+1,p1,p2,p3,l0=>
 bf (decide ((zzi.wrap (p2-p1))=1)) (outK (loopN (S:=Int×Int) (R:=Empty) (fun(a1:Int×Int)=>bf (decide (a1.1<a1.2)) (need ((0:Int)≤(zzi.wrap (shrOp .u64 (zzu.wrap (zzi.wrap (a1.1+a1.2))) 1))∧(zzi.wrap (shrOp .u64 (zzu.wrap (zzi.wrap (a1.1+a1.2))) 1))<(l0.length:Int))<|need ((0+(zzi.wrap (shrOp .u64 (zzu.wrap (zzi.wrap (a1.1+a1.2))) 1)).toNat)<l0.length)<|need ((0:Int)≤p1∧p1<(l0.length:Int))<|need ((0+p1.toNat)<l0.length)<|(cmp (l0.getD (0+(zzi.wrap (shrOp .u64 (zzu.wrap (zzi.wrap (a1.1+a1.2))) 1)).toNat) zzd) (l0.getD (0+p1.toNat) zzd)).bind fun r17=>bf (decide (r17<0)) (some (.next ((zzi.wrap ((zzi.wrap (shrOp .u64 (zzu.wrap (zzi.wrap (a1.1+a1.2))) 1))+1)),a1.2))) (some (.next (a1.1,(zzi.wrap (shrOp .u64 (zzu.wrap (zzi.wrap (a1.1+a1.2))) 1)))))) (some (.brk (a1.1,a1.2)))) fuel (p2,p3)) (fun(a2:Int×Int)=>outK (loopN (S:=Int×(List α)) (R:=Empty) (fun(a3:Int×(List α))=>bf (decide (a3.1<(zzi.wrap (a2.1-1)))) (need ((0:Int)≤(zzi.wrap (a3.1+1))∧(zzi.wrap (a3.1+1))<(a3.2.length:Int))<|need ((0+(zzi.wrap (a3.1+1)).toNat)<a3.2.length)<|need ((0:Int)≤a3.1∧a3.1<(a3.2.length:Int))<|need ((0+a3.1.toNat)<a3.2.length)<|need ((0:Int)≤a3.1∧a3.1<(a3.2.length:Int))<|need ((0+a3.1.toNat)<a3.2.length)<|need ((0:Int)≤(zzi.wrap (a3.1+1))∧(zzi.wrap (a3.1+1))<(a3.2.length:Int))<|need ((0+(zzi.wrap (a3.1+1)).toNat)<(a3.2.set (0+a3.1.toNat) (a3.2.getD (0+(zzi.wrap (a3.1+1)).toNat) zzd)).length)<|some (.next ((zzi.wrap (a3.1+1)),((a3.2.set (0+a3.1.toNat) (a3.2.getD (0+(zzi.wrap (a3.1+1)).toNat) zzd)).set (0+(zzi.wrap (a3.1+1)).toNat) (a3.2.getD (0+a3.1.toNat) zzd))))) (some (.brk (a3.1,a3.2)))) fuel (p1,l0)) (fun(a4:Int×(List α))=>some a4.2) (fun(x:Empty)=>x.elim)) (fun(x:Empty)=>x.elim)) (bf (decide ((zzi.wrap (p3-p2))=1)) (outK (loopN (S:=Int×Int) (R:=Empty) (fun(a18:Int×Int)=>bf (decide (a18.1<a18.2)) (need ((0:Int)≤p2∧p2<(l0.length:Int))<|need ((0+p2.toNat)<l0.length)<|need ((0:Int)≤(zzi.wrap (shrOp .u64 (zzu.wrap (zzi.wrap (a18.1+a18.2))) 1))∧(zzi.wrap (shrOp .u64 (zzu.wrap (zzi.wrap (a18.1+a18.2))) 1))<(l0.length:Int))<|need ((0+(zzi.wrap (shrOp .u64 (zzu.wrap (zzi.wrap (a18.1+a18.2))) 1)).toNat)<l0.length)<|(cmp (l0.getD (0+p2.toNat) zzd) (l0.getD (0+(zzi.wrap (shrOp .u64 (zzu.wrap (zzi.wrap (a18.1+a18.2))) 1)).toNat) zzd)).bind fun r34=>bf (!(decide (r34<0))) (some (.next ((zzi.wrap ((zzi.wrap (shrOp .u64 (zzu.wrap (zzi.wrap (a18.1+a18.2))) 1))+1)),a18.2))) (some (.next (a18.1,(zzi.wrap (shrOp .u64 (zzu.wrap (zzi.wrap (a18.1+a18.2))) 1)))))) (some (.brk (a18.1,a18.2)))) fuel (p1,p2)) (fun(a19:Int×Int)=>outK (loopN (S:=Int×(List α)) (R:=Empty) (fun(a20:Int×(List α))=>bf (decide (a19.1<a20.1)) (need ((0:Int)≤(zzi.wrap (a20.1-1))∧(zzi.wrap (a20.1-1))<(a20.2.length:Int))<|need ((0+(zzi.wrap (a20.1-1)).toNat)<a20.2.length)<|need ((0:Int)≤a20.1∧a20.1<(a20.2.length:Int))<|need ((0+a20.1.toNat)<a20.2.length)<|need ((0:Int)≤a20.1∧a20.1<(a20.2.length:Int))<|need ((0+a20.1.toNat)<a20.2.length)<|need ((0:Int)≤(zzi.wrap (a20.1-1))∧(zzi.wrap (a20.1-1))<(a20.2.length:Int))<|need ((0+(zzi.wrap (a20.1-1)).toNat)<(a20.2.set (0+a20.1.toNat) (a20.2.getD (0+(zzi.wrap (a20.1-1)).toNat) zzd)).length)<|some (.next ((zzi.wrap (a20.1-1)),((a20.2.set (0+a20.1.toNat) (a20.2.getD (0+(zzi.wrap (a20.1-1)).toNat) zzd)).set (0+(zzi.wrap (a20.1-1)).toNat) (a20.2.getD (0+a20.1.toNat) zzd))))) (some (.brk (a20.1,a20.2)))) fuel (p2,l0)) (fun(a21:Int×(List α))=>some a21.2) (fun(x:Empty)=>x.elim)) (fun(x:Empty)=>x.elim)) (jn (fun(a35:Int×Int×Int×Int)=>outK (loopN (S:=Int×Int) (R:=Empty) (fun(a37:Int×Int)=>bf (decide (a37.1<a37.2)) (need ((0:Int)≤(zzi.wrap ((zzi.wrap (a35.2.1-1))-(zzi.wrap (shrOp .u64 (zzu.wrap (zzi.wrap (a37.1+a37.2))) 1))))∧(zzi.wrap ((zzi.wrap (a35.2.1-1))-(zzi.wrap (shrOp .u64 (zzu.wrap (zzi.wrap (a37.1+a37.2))) 1))))<(l0.length:Int))<|need ((0+(zzi.wrap ((zzi.wrap (a35.2.1-1))-(zzi.wrap (shrOp .u64 (zzu.wrap (zzi.wrap (a37.1+a37.2))) 1)))).toNat)<l0.length)<|need ((0:Int)≤(zzi.wrap (shrOp .u64 (zzu.wrap (zzi.wrap (a37.1+a37.2))) 1))∧(zzi.wrap (shrOp .u64 (zzu.wrap (zzi.wrap (a37.1+a37.2))) 1))<(l0.length:Int))<|need ((0+(zzi.wrap (shrOp .u64 (zzu.wrap (zzi.wrap (a37.1+a37.2))) 1)).toNat)<l0.length)<|(cmp (l0.getD (0+(zzi.wrap ((zzi.wrap (a35.2.1-1))-(zzi.wrap (shrOp .u64 (zzu.wrap (zzi.wrap (a37.1+a37.2))) 1)))).toNat) zzd) (l0.getD (0+(zzi.wrap (shrOp .u64 (zzu.wrap (zzi.wrap (a37.1+a37.2))) 1)).toNat) zzd)).bind fun r58=>bf (!(decide (r58<0))) (some (.next ((zzi.wrap ((zzi.wrap (shrOp .u64 (zzu.wrap (zzi.wrap (a37.1+a37.2))) 1))+1)),a37.2))) (some (.next (a37.1,(zzi.wrap (shrOp .u64 (zzu.wrap (zzi.wrap (a37.1+a37.2))) 1)))))) (some (.brk (a37.1,a37.2)))) fuel (a35.2.2.1,a35.2.2.2)) (fun(a38:Int×Int)=>jn (fun(a39:Int×(List α))=>jn (fun(a41:List α)=>jn (fun(a43:Bool)=>bf a43 ((symG cmp fuel a35.1 a39.1 p3 a41).bind fun r45=>some r45) (some a41)) fun j44=>bf (decide (a35.1<a39.1)) (j44 (decide (a39.1<p3))) (j44 false)) fun j42=>jn (fun(a46:Bool)=>bf a46 ((symG cmp fuel p1 a38.1 a35.1 a39.2).bind fun r48=>need (r48.length=a39.2.length)<|j42 r48) (j42 a39.2)) fun j47=>bf (decide (p1<a38.1)) (j47 (decide (a38.1<a35.1))) (j47 false)) fun j40=>jn (fun(a50:Int×Bool)=>bf a50.2 ((rotG fuel a38.1 p2 a50.1 l0).bind fun r52=>need (r52.length=l0.length)<|j40 (a50.1,r52)) (j40 (a50.1,l0))) fun j51=>bf (decide (a38.1<p2)) (j51 ((zzi.wrap (a35.2.1-a38.1)),(decide (p2<(zzi.wrap (a35.2.1-a38.1)))))) (j51 ((zzi.wrap (a35.2.1-a38.1)),false))) (fun(x:Empty)=>x.elim)) fun j36=>bf (decide ((zzi.wrap (shrOp .u64 (zzu.wrap (zzi.wrap (p1+p3))) 1))<p2)) (j36 ((zzi.wrap (shrOp .u64 (zzu.wrap (zzi.wrap (p1+p3))) 1)),(zzi.wrap ((zzi.wrap (shrOp .u64 (zzu.wrap (zzi.wrap (p1+p3))) 1))+p2)),(zzi.wrap ((zzi.wrap ((zzi.wrap (shrOp .u64 (zzu.wrap (zzi.wrap (p1+p3))) 1))+p2))-p3)),(zzi.wrap (shrOp .u64 (zzu.wrap (zzi.wrap (p1+p3))) 1)))) (j36 ((zzi.wrap (shrOp .u64 (zzu.wrap (zzi.wrap (p1+p3))) 1)),(zzi.wrap ((zzi.wrap (shrOp .u64 (zzu.wrap (zzi.wrap (p1+p3))) 1))+p2)),p1,p2))))
def stabG (cmp:α→α→Option Int)(fuel:Nat)(p1:Int)(l0:List α):Option (List α):=
 outK (loopN (S:=Int×Int×(List α)) (R:=Empty) (fun(a1:Int×Int×(List α))=>bf (decide (a1.2.1≤p1)) ((insG cmp fuel a1.1 a1.2.1 a1.2.2).bind fun r15=>need (r15.length=a1.2.2.length)<|some (.next (a1.2.1,(zzi.wrap (a1.2.1+20)),r15))) (some (.brk (a1.1,a1.2.1,a1.2.2)))) fuel (0,20,l0)) (fun(a2:Int×Int×(List α))=>(insG cmp fuel a2.1 p1 a2.2.2).bind fun r3=>need (r3.length=a2.2.2.length)<|outK (loopN (S:=Int×(List α)) (R:=Empty) (fun(a5:Int×(List α))=>bf (decide (a5.1<p1)) (outK (loopN (S:=Int×Int×(List α)) (R:=Empty) (fun(a7:Int×Int×(List α))=>bf (decide (a7.2.1≤p1)) ((symG cmp fuel a7.1 (zzi.wrap (a7.1+a5.1)) a7.2.1 a7.2.2).bind fun r13=>need (r13.length=a7.2.2.length)<|some (.next (a7.2.1,(zzi.wrap (a7.2.1+(zzi.wrap ((2:Int)*a5.1)))),r13))) (some (.brk (a7.1,a7.2.1,a7.2.2)))) fuel (0,(zzi.wrap ((2:Int)*a5.1)),a5.2)) (fun(a8:Int×Int×(List α))=>jn (fun(a9:List α)=>some (.next ((zzi.wrap (a5.1*2)),a9))) fun j10=>bf (decide ((zzi.wrap (a8.1+a5.1))<p1)) ((symG cmp fuel a8.1 (zzi.wrap (a8.1+a5.1)) p1 a8.2.2).bind fun r11=>need (r11.length=a8.2.2.length)<|j10 r11) (j10 a8.2.2)) (fun(x:Empty)=>x.elim)) (some (.brk (a5.1,a5.2)))) fuel (20,r3)) (fun(a6:Int×(List α))=>some a6.2) (fun(x:Empty)=>x.elim)) (fun(x:Empty)=>x.elim)
end
end Go.Av
namespace Go.Av
open Go
section
variable {α:Type} [Inhabited α]
theorem z2c (d:Array α)(j:Nat):d.toList.getD j zzd=d[j]! :=by
 rw[List.getD_eq_getElem?_getD,Array.getElem?_toList,getElem!_def];cases d[j]?<;>rfl
theorem z3t (d:Array α)(i j:Nat):(d.toList.set i d[j]!).set j d[i]! =(Sort.swp d i j).toList:=by
 unfold Sort.swp;rw[Array.toList_setIfInBounds,Array.toList_setIfInBounds]
theorem z1l (d:Array α)(i j:Nat):(Sort.swp d i j).size=d.size:=by unfold Sort.swp;simp
theorem wsub1 {j:Nat}(h1:1≤j)(h:j<4611686018427387904):zzi.wrap ((j:Int)-1)=((j-1:Nat):Int):=by
 rw[z2t (by omega) (by omega)];omega
theorem wadd1 {j:Nat}(h:j<4611686018427387904):zzi.wrap ((j:Int)+1)=((j+1:Nat):Int):=by
 rw[z2t (by omega) (by omega)];omega
theorem wsub {i j:Nat}(h1:j≤i)(h:i<4611686018427387904):zzi.wrap ((i:Int)-(j:Int))=((i-j:Nat):Int):=by
 rw[z2t (by omega) (by omega)];omega
theorem wadd {i j:Nat}(h:i+j<4611686018427387904):zzi.wrap ((i:Int)+(j:Int))=((i+j:Nat):Int):=by
 rw[z2t (by omega) (by omega)];omega
theorem wtwo {i:Nat}(h:2*i<4611686018427387904):zzi.wrap ((2:Int)*(i:Int))=((2*i:Nat):Int):=by
 rw[z2t (by omega) (by omega)];omega
theorem intle {i j:Nat}:((i:Int)≤(j:Int))=(i≤j):=propext (by omega)
theorem intlt {i j:Nat}:((i:Int)<(j:Int))=(i<j):=propext (by omega)
theorem z21 {S R:Type}{B:S→Option (Ctl S R)}{fuel:Nat}{s s':S}(h:B s=some (.next s')):loopN B (fuel+1) s=loopN B fuel s':=by rw[loopN,h]
theorem z1f {S R:Type}{B:S→Option (Ctl S R)}{fuel:Nat}{s s':S}(h:B s=some (.brk s')):loopN B (fuel+1) s=some (.done s'):=by rw[loopN,h]
theorem z9b {S R:Type}{B:S→Option (Ctl S R)}{fuel:Nat}{s:S}{r:R}(h:B s=some (.ret r)):loopN B (fuel+1) s=some (.ret r):=by rw[loopN,h]
theorem z8l {X Y R Q:Type}{o:Option (Out (X×Y) R)}{kn:X×Y→Option Q}{kr:R→Option Q}{r:Y}{q:Option Q}(h: ∃x:X,o=some (.done (x,r)))(hk: ∀x,kn (x,r)=q):outK o kn kr=q:=by
 obtain⟨x,h⟩:=h;rw[h];exact hk x
end
end Go.Av
namespace Go.Av
open Go
section
variable {α:Type} [Inhabited α]
theorem zmm (d:Array α){i j:Nat}(hi:i<d.size)(hj:j<d.size)(k:Nat):(Sort.swp d i j)[k]! =if k=j then d[i]! else if k=i then d[j]! else d[k]! :=Sort.swp_get d hi hj k
def swpN (p q:Nat):Nat→Array α→Array α
 |0,d=>d
 |k+1,d=>Sort.swp (swpN p q k d) (p+k) (q+k)
theorem z7n (p q:Nat): ∀(n:Nat) (d:Array α),(swpN p q n d).size=d.size
 |0,d=>rfl
 |k+1,d=>by unfold swpN;rw[z1l,z7n p q k]
def srF (p q n:Nat)(d:Array α)(x:Nat):α:=if p≤x∧x<p+n then d[x-p+q]! else if q≤x∧x<q+n then d[x-q+p]! else d[x]!
theorem zfb {p q:Nat}{d:Array α}: ∀{n:Nat},(p+n≤q∨q+n≤p)→p+n≤d.size→q+n≤d.size→ ∀x,(swpN p q n d)[x]! =srF p q n d x
 |0,_,_,_,x=>by
  unfold swpN srF;rw[if_neg (by omega),if_neg (by omega)]
 |k+1,h,hp,hq,x=>by
  have ih:=zfb (p:=p) (q:=q) (d:=d) (n:=k) (by omega) (by omega) (by omega);unfold swpN;rw[zmm _ (by rw[z7n];omega) (by rw[z7n];omega),ih,ih,ih];unfold srF;by_cases h1:x=q+k
  ·subst h1;rw[if_pos rfl,if_neg (by omega),if_neg (by omega),if_neg (by omega),if_pos (by omega)];congr 1;omega
  ·rw[if_neg h1];by_cases h2:x=p+k
   ·subst h2;rw[if_pos rfl,if_neg (by omega),if_neg (by omega),if_pos (by omega)];congr 1;omega
   ·rw[if_neg h2];by_cases h3:p≤x∧x<p+k
    ·rw[if_pos h3,if_pos (by omega)]
    ·rw[if_neg h3,if_neg (show ¬(p≤x∧x<p+(k+1))by omega)];by_cases h4:q≤x∧x<q+k
     ·rw[if_pos h4,if_pos (by omega)]
     ·rw[if_neg h4,if_neg (by omega)]
theorem zds {p q a b:Nat}{d:Array α}(hb:b≤d.size): ∀{n:Nat},a≤p→a≤q→p+n≤b→q+n≤b→Sort.PermIn a b d (swpN p q n d)
 |0,_,_,_,_=>Sort.permIn_refl d a b
 |k+1,h1,h2,h3,h4=>by
  unfold swpN;exact Sort.permIn_trans _ _ _ a b (zds hb h1 h2 (by omega) (by omega)) (Sort.swp_permIn _ a b _ _ (by omega) (by omega) (by omega) (by omega) (by rw[z7n];exact hb))
theorem zqk {R:Type}{B:Int×List α→Option (Ctl (Int×List α) R)}{p q n fuel:Nat}{d:Array α}(hf:n<fuel)
 (hB: ∀(i:Nat) (d':Array α),d'.size=d.size→i≤n→B ((i:Int),d'.toList)=if i<n then some (.next (((i+1:Nat):Int),(Sort.swp d' (p+i) (q+i)).toList))else some (.brk ((i:Int),d'.toList))):
 ∃x:Int,loopN B fuel ((0:Int),d.toList)=some (.done (x,(swpN p q n d).toList)):=by
 have key: ∀k i fuel,i+k=n→k<fuel→ ∃x:Int,loopN B fuel ((i:Int),(swpN p q i d).toList)=some (.done (x,(swpN p q n d).toList)):=by
  intro k;induction k with
  |zero=>
   intro i fuel hi hf;cases fuel with
   |zero=>omega
   |succ fuel=>
    have h:=hB i (swpN p q i d) (z7n ..) (by omega);rw[if_neg (by omega)]at h;rw[z1f h,show i=n by omega];exact⟨_,rfl⟩
  |succ k ih=>
   intro i fuel hi hf;cases fuel with
   |zero=>omega
   |succ fuel=>
    have h:=hB i (swpN p q i d) (z7n ..) (by omega);rw[if_pos (by omega)]at h;rw[z21 h];exact ih (i+1) fuel (by omega) (by omega)
 exact key n 0 fuel (by omega) hf
def rotF (a m b:Nat)(d:Array α)(x:Nat):α:=if a≤x∧x<a+(b-m)then d[x-a+m]! else if a+(b-m)≤x∧x<b then d[x-(a+(b-m))+a]! else d[x]!
structure RotTo (a m b:Nat) (d d':Array α):Prop where
 perm:Sort.PermIn a b d d'
 get: ∀x,d'[x]! =rotF a m b d x
theorem zrj {m i j:Nat}{d:Array α}(him:i≤m)(hij:j<i)(x:Nat)(d':Array α)(hd': ∀x,d'[x]! =srF (m-i) m j d x):rotF (m-i+j) m (m+j) d' x=rotF (m-i) m (m+j) d x:=by
 unfold rotF;rw[hd',hd',hd'];unfold srF
 repeat' split
 all_goals first|omega|(congr 1;done)|(congr 1;omega)
theorem zq8 {m i j:Nat}{d:Array α}(him:i≤m)(hij:i<j)(x:Nat)(d':Array α)(hd': ∀x,d'[x]! =srF (m-i) (m+j-i) i d x):rotF (m-i) m (m+j-i) d' x=rotF (m-i) m (m+j) d x:=by
 unfold rotF;rw[hd',hd',hd'];unfold srF
 repeat' split
 all_goals first|omega|(congr 1;done)|(congr 1;omega)
theorem zri {m i:Nat}{d:Array α}(him:i≤m)(x:Nat):srF (m-i) m i d x=rotF (m-i) m (m+i) d x:=by
 unfold rotF srF
 repeat' split
 all_goals first|omega|(congr 1;done)|(congr 1;omega)
theorem zrk {R:Type}{B:Int×Int×List α→Option (Ctl (Int×Int×List α) R)}{m a b:Nat}{d0:Array α}(hb:b≤d0.size): ∀(n i j fuel:Nat) (d:Array α),i+j≤n→n<fuel→1≤i→1≤j→a≤m-i→i≤m→m+j≤b→d.size=d0.size→
 (∀(i j:Nat) (d':Array α),d'.size=d0.size→1≤i→1≤j→i≤m→m+j≤b→B ((i:Int),(j:Int),d'.toList)=if i=j then some (.brk ((i:Int),(j:Int),d'.toList))else if j<i then some (.next (((i-j:Nat):Int),(j:Int),(swpN (m-i) m j d').toList))else some (.next ((i:Int),((j-i:Nat):Int),(swpN (m-i) (m+j-i) i d').toList)))→
 ∃(k:Nat) (d':Array α),loopN B fuel ((i:Int),(j:Int),d.toList)=some (.done ((k:Int),(k:Int),d'.toList))∧1≤k∧k≤i∧k≤j∧d'.size=d.size∧Sort.PermIn a b d d'∧ ∀x,rotF (m-k) m (m+k) d' x=rotF (m-i) m (m+j) d x:=by
 intro n;induction n with
 |zero=>intro i j fuel d hn hf h1 h2;omega
 |succ n ih=>
  intro i j fuel d hn hf h1 h2 h3 h4 h5 h6 hB;cases fuel with
  |zero=>omega
  |succ fuel=>
   have h:=hB i j d h6 h1 h2 h4 h5;by_cases e:i=j
   ·rw[if_pos e]at h;subst e;exact⟨i,d,z1f h,h1,zzc _,zzc _,rfl,Sort.permIn_refl d a b,fun x=>rfl⟩
   ·rw[if_neg e]at h;by_cases hl:j<i
    ·rw[if_pos hl]at h;obtain⟨k,d',g1,g2,g3,g4,g5,g6,g7⟩:=ih (i-j) j fuel (swpN (m-i) m j d) (by omega) (by omega) (by omega) h2 (by omega) (by omega) h5 (by rw[z7n];exact h6) hB;refine⟨k,d',by rw[z21 h,g1],g2,by omega,g4,by rw[g5,z7n],Sort.permIn_trans _ _ _ a b (zds (by omega) (by omega) (by omega) (by omega) (by omega)) g6,fun x=>?_⟩;rw[g7];have:=zrj (m:=m) (i:=i) (j:=j) (d:=d) h4 hl x (swpN (m-i) m j d) (zfb (by omega) (by omega) (by omega))
     rw[show m-(i-j)=m-i+j by omega];exact this
    ·rw[if_neg hl]at h;obtain⟨k,d',g1,g2,g3,g4,g5,g6,g7⟩:=ih i (j-i) fuel (swpN (m-i) (m+j-i) i d) (by omega) (by omega) h1 (by omega) h3 h4 (by omega) (by rw[z7n];exact h6) hB;refine⟨k,d',by rw[z21 h,g1],g2,g3,by omega,by rw[g5,z7n],Sort.permIn_trans _ _ _ a b (zds (by omega) (by omega) (by omega) (by omega) (by omega)) g6,fun x=>?_⟩;rw[g7];have:=zq8 (m:=m) (i:=i) (j:=j) (d:=d) h4 (by omega) x (swpN (m-i) (m+j-i) i d) (zfb (by omega) (by omega) (by omega))
     rw[show m+(j-i)=m+j-i by omega];exact this
end
end Go.Av
namespace Go.Av
open Go
section
variable {α:Type} [Inhabited α]
theorem zs0 {R:Type}{B:Int×Int→Option (Ctl (Int×Int) R)}{P:Nat→Bool}{i0 j0:Nat}: ∀(n i j fuel:Nat),j-i≤n→n<fuel→i0≤i→i≤j→j≤j0→(i=i0∨P (i-1)=true)→(j=j0∨P j=false)→
 (∀i j:Nat,i0≤i→i≤j→j≤j0→B ((i:Int),(j:Int))=if i<j then(if P ((i+j) / 2)=true then some (.next ((((i+j) / 2+1:Nat):Int),(j:Int)))else some (.next ((i:Int),(((i+j) / 2:Nat):Int))))else some (.brk ((i:Int),(j:Int))))→
 ∃r:Nat,loopN B fuel ((i:Int),(j:Int))=some (.done ((r:Int),(r:Int)))∧i0≤r∧r≤j0∧(r=i0∨P (r-1)=true)∧(r=j0∨P r=false):=by
 intro n;induction n with
 |zero=>
  intro i j fuel hn hf h1 h2 h3 h4 h5 hB;cases fuel with
  |zero=>omega
  |succ fuel=>
   have h:=hB i j h1 h2 h3;rw[if_neg (by omega)]at h;have:i=j:=by omega
   subst this;exact⟨i,z1f h,h1,h3,h4,h5⟩
 |succ n ih=>
  intro i j fuel hn hf h1 h2 h3 h4 h5 hB;cases fuel with
  |zero=>omega
  |succ fuel=>
   have h:=hB i j h1 h2 h3;by_cases hl:i<j
   ·rw[if_pos hl]at h;by_cases hp:P ((i+j) / 2)=true
    ·rw[if_pos hp]at h;rw[z21 h];exact ih _ j fuel (by omega) (by omega) (by omega) (by omega) h3 (.inr (by rw[Nat.add_sub_cancel];exact hp)) h5 hB
    ·rw[if_neg hp]at h;rw[z21 h];exact ih i _ fuel (by omega) (by omega) h1 (by omega) (by omega) h4 (.inr (by simpa using hp)) hB
   ·rw[if_neg hl]at h;have:i=j:=by omega
    subst this;exact⟨i,z1f h,h1,h3,h4,h5⟩
variable {lt:α→α→Bool}
theorem glue2 {a mid b:Nat}{d:Array α}(h1:Sort.SortedIn lt a mid d)(h2:Sort.SortedIn lt mid b d)(hx: ∀x y,a≤x→x<mid→mid≤y→y<b→lt d[y]! d[x]! =false):Sort.SortedIn lt a b d:=by
 intro i j hi hij hj;by_cases h3:j<mid
 ·exact h1 i j hi hij h3
 ·by_cases h4:mid≤i
  ·exact h2 i j h4 hij hj
  ·exact hx i j hi (by omega) (by omega) hj
theorem zgo (hS:Sort.SWO lt){a m b s e:Nat}{d d':Array α}(h1:Sort.SortedIn lt a m d)(h2:Sort.SortedIn lt m b d)(hs:a≤s∧s≤m)(he:m≤e∧e≤b)(hr: ∀x,d'[x]! =rotF s m e d x)
 (hA:s=a∨e=b∨lt d[e]! d[s-1]! =false) (hB:s=m∨e=m∨lt d[e-1]! d[s]! =true):
 (∀x y,a≤x→x<s+(e-m)→s+(e-m)≤y→y<b→lt d'[y]! d'[x]! =false)∧Sort.SortedIn lt a s d'∧Sort.SortedIn lt s (s+(e-m)) d'∧Sort.SortedIn lt (s+(e-m)) e d'∧Sort.SortedIn lt e b d':=by
 --where each one comes from
 have f1: ∀x,x<s→d'[x]! =d[x]! :=fun x hx=>by rw[hr];unfold rotF;rw[if_neg (by omega),if_neg (by omega)]
 have f2: ∀x,s≤x→x<s+(e-m)→d'[x]! =d[x-s+m]! :=fun x hx hy=>by rw[hr];unfold rotF;rw[if_pos (by omega)]
 have f3: ∀x,s+(e-m)≤x→x<e→d'[x]! =d[x-(s+(e-m))+s]! :=fun x hx hy=>by rw[hr];unfold rotF;rw[if_neg (by omega),if_pos (by omega)]
 have f4: ∀x,e≤x→d'[x]! =d[x]! :=fun x hx=>by rw[hr];unfold rotF;rw[if_neg (by omega),if_neg (by omega)]
 have le1: ∀x y,a≤x→x≤y→y<m→lt d[y]! d[x]! =false:=fun x y g1 g2 g3=>by
  by_cases g:x=y
  ·subst g;exact hS.irrefl _
  ·exact h1 x y g1 (by omega) g3
 have le2: ∀x y,m≤x→x≤y→y<b→lt d[y]! d[x]! =false:=fun x y g1 g2 g3=>by
  by_cases g:x=y
  ·subst g;exact hS.irrefl _
  ·exact h2 x y g1 (by omega) g3
 refine⟨?_,?_,?_,?_,?_⟩
 ·intro x y hx1 hx2 hy1 hy2;by_cases c1:x<s
  ·rw[f1 x c1];by_cases c2:y<e
   ·rw[f3 y hy1 c2];exact le1 _ _ hx1 (by omega) (by omega)
   ·rw[f4 y (by omega)];rcases hA with h|h|h
    ·omega
    ·omega
    ·exact hS.ntrans _ _ _ (hS.ntrans _ _ _ (le2 e y (by omega) (by omega) hy2) h) (le1 x (s-1) hx1 (by omega) (by omega))
  ·rw[f2 x (by omega) hx2];by_cases c2:y<e
   ·rw[f3 y hy1 c2];rcases hB with h|h|h
    ·omega
    ·omega
    ·exact hS.ntrans _ _ _ (hS.ntrans _ _ _ (le1 s _ hs.1 (by omega) (by omega)) (hS.asymm h)) (le2 (x-s+m) (e-1) (by omega) (by omega) (by omega))
   ·rw[f4 y (by omega)];exact le2 _ _ (by omega) (by omega) hy2
 ·intro i j hi hij hj;rw[f1 i (by omega),f1 j hj];exact h1 i j hi hij (by omega)
 ·intro i j hi hij hj;rw[f2 i hi (by omega),f2 j (by omega) hj];exact h2 _ _ (by omega) (by omega) (by omega)
 ·intro i j hi hij hj;rw[f3 i hi (by omega),f3 j (by omega) hj];exact h1 _ _ (by omega) (by omega) (by omega)
 ·intro i j hi hij hj;rw[f4 i hi,f4 j (by omega)];exact h2 i j (by omega) hij hj
structure MergeTo (lt:α→α→Bool) (a b:Nat) (d d':Array α):Prop where
 perm:Sort.PermIn a b d d'
 sorted:Sort.SortedIn lt a b d'
theorem zm2 (hS:Sort.SWO lt){a mid b:Nat}{d d1 d2 d3:Array α}(hab:a≤mid∧mid≤b)(hb:b≤d.size)(hp:Sort.PermIn a b d d1)
 (hx: ∀x y,a≤x→x<mid→mid≤y→y<b→lt d1[y]! d1[x]! =false) (h2:MergeTo lt a mid d1 d2) (h3:MergeTo lt mid b d2 d3):MergeTo lt a b d d3:=by
 have s1:d1.size=d.size:=hp.1;have s2:d2.size=d1.size:=h2.perm.1
 have p2:Sort.PermIn a b d1 d2:=Sort.permIn_mono _ _ a mid a b (zzc _) hab.2 (by omega) h2.perm;have p3:Sort.PermIn a b d2 d3:=Sort.permIn_mono _ _ mid b a b hab.1 (zzc _) (by omega) h3.perm
 refine⟨Sort.permIn_trans _ _ _ a b hp (Sort.permIn_trans _ _ _ a b p2 p3),glue2 (mid:=mid) ?_ h3.sorted ?_⟩
 ·intro i j hi hij hj;rw[h3.perm.2.1 i (.inl (by omega)),h3.perm.2.1 j (.inl hj)];exact h2.sorted i j hi hij hj
 ·have c1: ∀x y,a≤x→x<mid→mid≤y→y<b→lt d2[y]! d2[x]! =false:=fun x y g1 g2 g3 g4=>by
   rw[h2.perm.2.1 y (.inr g3)];exact Sort.permIn_all d1 d2 a mid (fun z=>lt d1[y]! z=false) (by omega) h2.perm (fun i k1 k2=>hx i y k1 k2 g3 g4) x g1 g2
  intro x y g1 g2 g3 g4;rw[h3.perm.2.1 x (.inl g2)];exact Sort.permIn_all d2 d3 mid b (fun z=>lt z d2[x]! =false) (by omega) h3.perm (fun i k1 k2=>c1 x i g1 g2 k1 k2) y g3 g4
theorem zc5 {a b:Nat}{d:Array α}(h:Sort.SortedIn lt a b d):MergeTo lt a b d d:=⟨Sort.permIn_refl d a b,h⟩
theorem z9g {a b:Nat}{d:Array α}(h:b≤a+1):Sort.SortedIn lt a b d:=fun i j h1 h2 h3=>by omega
end
end Go.Av
namespace Go.Av
open Go
section
variable {α:Type} [Inhabited α] {cmp:α→α→Option Int} {c:α→α→Int}
def ltC (c:α→α→Int)(x y:α):Bool:=decide (c x y<0)
theorem zpu {a fuel:Nat}{B:Int×List α→Option (Ctl (Int×List α) Empty)}{j:Nat}{d:Array α}(hj:j<d.size)(hf:j<fuel)
 (hB: ∀(j:Nat) (d':Array α),j<d'.size→d'.size=d.size→B ((j:Int),d'.toList)=if a<j∧ltC c d'[j]! d'[j-1]! =true then some (.next (((j-1:Nat):Int),(Sort.swp d' j (j-1)).toList))else some (.brk ((j:Int),d'.toList))):
 ∃x:Int,loopN B fuel ((j:Int),d.toList)=some (.done (x,(Sort.insInner (ltC c) a j d).toList)):=by
 induction j generalizing d fuel with
 |zero=>
  cases fuel with
  |zero=>omega
  |succ fuel=>
   refine⟨0,z1f (s':=(((0:Nat):Int),d.toList)) ?_⟩;rw[hB 0 d hj rfl,if_neg (by omega)]
 |succ j ih=>
  cases fuel with
  |zero=>omega
  |succ fuel=>
   have h:=hB (j+1) d hj rfl;rw[Nat.add_sub_cancel]at h;unfold Sort.insInner;by_cases hc:a<j+1∧ltC c d[j+1]! d[j]! =true
   ·rw[if_pos hc]at h;rw[z21 h,if_pos (by simp[hc.1,hc.2])];exact ih (by rw[z1l];omega) (by omega) (fun k d' h1 h2=>hB k d' h1 (by rw[h2,z1l]))
   ·rw[if_neg hc]at h;rw[z1f h,if_neg (by simpa using hc)];exact⟨_,rfl⟩
theorem zpv {a b fuel:Nat}{B:Int×List α→Option (Ctl (Int×List α) Empty)}{n i:Nat}{d:Array α}(hn:b-i=n)(hb:b≤d.size)(hf:b-i<fuel)
 (hB: ∀(i:Nat) (d':Array α),d'.size=d.size→B ((i:Int),d'.toList)=if i<b then some (.next (((i+1:Nat):Int),(Sort.insInner (ltC c) a i d').toList))else some (.brk ((i:Int),d'.toList)))
 (hs: ∀(i:Nat) (d':Array α),(Sort.insInner (ltC c) a i d').size=d'.size):
 ∃x:Int,loopN B fuel ((i:Int),d.toList)=some (.done (x,(Sort.insOuter (ltC c) a b i d).toList)):=by
 induction n generalizing i d fuel with
 |zero=>
  cases fuel with
  |zero=>omega
  |succ fuel=>
   have h:=hB i d rfl;rw[if_neg (by omega)]at h;rw[z1f h,Sort.insOuter,if_neg (by omega)];exact⟨_,rfl⟩
 |succ n ih=>
  cases fuel with
  |zero=>omega
  |succ fuel=>
   have h:=hB i d rfl;rw[if_pos (by omega)]at h;rw[z21 h,Sort.insOuter,if_pos (by omega)];exact ih (by omega) (by rw[hs];omega) (by omega) (fun k d' h1=>hB k d' (by rw[h1,hs]))
theorem zgi (a:Nat): ∀(j:Nat) (d:Array α),(Sort.insInner (ltC c) a j d).size=d.size
 |0,d=>rfl
 |j+1,d=>by
  unfold Sort.insInner;split
  ·rw[zgi a j,z1l]
  ·rfl
theorem zns (hc: ∀x y,cmp x y=some (c x y)){fuel a b:Nat}{d:Array α}(hb:b≤d.size)(hd:d.size<4611686018427387904)(ha:a<4611686018427387903)(hf:d.size<fuel):
 insG cmp fuel (a:Int) (b:Int) d.toList=some (Sort.insertionSort (ltC c) d a b).toList:=by
 unfold insG Sort.insertionSort;rw[wadd1 (by omega)];refine z8l (zpv (c:=c) (a:=a) (b:=b) (i:=a+1) (d:=d) rfl hb (by omega) ?_ (zgi a)) (fun x=>rfl);intro i d' hd';simp only[z0d,intlt];by_cases hi:i<b
 ·rw[if_pos hi,if_pos hi];refine z8l (zpu (c:=c) (a:=a) (j:=i) (d:=d') (by omega) (by omega) ?_) (fun x=>?_)
  ·intro j e hj he;simp only[jn_eq,z0d,intlt];by_cases h1:a<j
   ·simp(disch:=omega) only[h1,if_true,wsub1,z0a,zz5,zz4,zz1,zz9,hc,zz0,z2c,z3t,true_and];unfold ltC;by_cases h2:c e[j]! e[j-1]! <0
    ·simp[h2]
    ·simp[h2]
   ·rw[if_neg h1,if_neg (fun h=>h1 h.1)];rfl
  ·rw[wadd1 (by omega)]
 ·rw[if_neg hi,if_neg hi]
theorem zi0 {fuel p q n:Nat}{d:Array α}(hp:p+n≤d.size)(hq:q+n≤d.size)(hd:d.size<4611686018427387904)(hf:d.size<fuel):
 swapG fuel (p:Int) (q:Int) (n:Int) d.toList=some (swpN p q n d).toList:=by
 unfold swapG;refine z8l (zqk (p:=p) (q:=q) (n:=n) (d:=d) (by omega) ?_) (fun x=>rfl);intro i d' hd' hi;simp only[z0d,intlt];by_cases h:i<n
 ·rw[if_pos h,if_pos h];simp(disch:=omega) only[wadd,wadd1,z0a,zz5,zz4,zz1,zz9,z2c,z3t]
 ·rw[if_neg h,if_neg h]
theorem zsm {fuel s m e:Nat}{d:Array α}(h1:s<m)(h2:m<e)(he:e≤d.size)(hd:d.size<4611686018427387904)(hf:d.size<fuel):
 ∃d':Array α,rotG fuel (s:Int) (m:Int) (e:Int) d.toList=some d'.toList∧RotTo s m e d d':=by
 obtain⟨k,d1,g1,g2,g3,g4,g5,g6,g7⟩:=zrk (R:=Empty) (m:=m) (a:=s) (b:=e) (d0:=d) he (m-s+(e-m)) (m-s) (e-m) fuel d (zzc _) (by omega) (by omega) (by omega) (by omega) (by omega) (by omega) rfl
  (B:=fun(a1:Int×Int×(List α))=>bf (!decide (a1.1=a1.2.1)) (bf (decide (a1.2.1<a1.1)) ((swapG fuel (zzi.wrap ((m:Int)-a1.1)) (m:Int) a1.2.1 a1.2.2).bind fun r4=>need (r4.length=a1.2.2.length)<|some (.next ((zzi.wrap (a1.1-a1.2.1)),a1.2.1,r4))) ((swapG fuel (zzi.wrap ((m:Int)-a1.1)) (zzi.wrap ((zzi.wrap ((m:Int)+a1.2.1))-a1.1)) a1.1 a1.2.2).bind fun r6=>need (r6.length=a1.2.2.length)<|some (.next (a1.1,(zzi.wrap (a1.2.1-a1.1)),r6)))) (some (.brk (a1.1,a1.2.1,a1.2.2))))
  (by
   intro i j d' hs hi hj him hjb;simp only[z5e,z0d,intlt];by_cases h:i=j
   ·subst h;rw[if_pos rfl,if_pos rfl]
   ·rw[if_neg (by omega),if_neg h];by_cases h3:j<i
    ·rw[if_pos h3,if_pos h3];rw[wsub (by omega) (by omega),wsub (by omega) (by omega),zi0 (by omega) (by omega) (by omega) (by omega)];simp only[zz0];rw[z0a (by simp[z7n])]
    ·rw[if_neg h3,if_neg h3];rw[wsub (by omega) (by omega),wadd (by omega),wsub (by omega) (by omega),wsub (by omega) (by omega),zi0 (by omega) (by omega) (by omega) (by omega)];simp only[zz0];rw[z0a (by simp[z7n])])
 refine⟨swpN (m-k) m k d1,?_,Sort.permIn_trans _ _ _ s e g6 (zds (by omega) (by omega) (by omega) (by omega) (by omega)),fun x=>?_⟩
 ·unfold rotG;rw[wsub (by omega) (by omega),wsub (by omega) (by omega)];rw[g1];simp only[z4q];rw[wsub (by omega) (by omega),zi0 (by omega) (by omega) (by omega) (by omega)];rfl
 ·rw[zfb (by omega) (by omega) (by omega),zri (by omega),g7];congr 1<;>omega
end
end Go.Av
namespace Go.Av
open Go
section
variable {α:Type} [Inhabited α] {cmp:α→α→Option Int} {c:α→α→Int}
theorem zh2 {x y:Nat}(h:x+y<4611686018427387904):zzi.wrap (shrOp .u64 (zzu.wrap (zzi.wrap ((x:Int)+(y:Int)))) 1)=(((x+y) / 2:Nat):Int):=by
 rw[wadd h,z9j,Int.emod_eq_of_lt (by omega) (by omega),show(1:Int)=((1:Nat):Int)from rfl,zel .u64 (x+y) 1 (by decide),z2t (by omega) (by omega)]
def shR (a:Nat):Nat→Array α→Array α
 |0,d=>d
 |k+1,d=>Sort.swp (shR a k d) (a+k) (a+k+1)
def shL (m:Nat):Nat→Array α→Array α
 |0,d=>d
 |k+1,d=>Sort.swp (shL m k d) (m-k) (m-k-1)
theorem zek (a:Nat): ∀(k:Nat) (d:Array α),(shR a k d).size=d.size
 |0,d=>rfl
 |k+1,d=>by unfold shR;rw[z1l,zek a k]
theorem zej (m:Nat): ∀(k:Nat) (d:Array α),(shL m k d).size=d.size
 |0,d=>rfl
 |k+1,d=>by unfold shL;rw[z1l,zej m k]
theorem zo2 {a:Nat}{d:Array α}: ∀{k:Nat},a+k<d.size→ ∀x,(shR a k d)[x]! =rotF a (a+1) (a+1+k) d x
 |0,h,x=>by
  unfold shR rotF
  repeat' split
  all_goals first|omega|rfl|(congr 1;omega)
 |k+1,h,x=>by
  have ih:=zo2 (a:=a) (d:=d) (k:=k) (by omega);unfold shR;rw[zmm _ (by rw[zek];omega) (by rw[zek];omega),ih,ih,ih];unfold rotF
  repeat' split
  all_goals first|omega|rfl|(congr 1;omega)
theorem zo1 {m:Nat}{d:Array α}(hm:m<d.size): ∀{k:Nat},k≤m→ ∀x,(shL m k d)[x]! =rotF (m-k) m (m+1) d x
 |0,h,x=>by
  unfold shL rotF
  repeat' split
  all_goals first|omega|rfl|(congr 1;omega)
 |k+1,h,x=>by
  have ih:=zo1 (m:=m) (d:=d) hm (k:=k) (by omega);unfold shL;rw[zmm _ (by rw[zej];omega) (by rw[zej];omega),ih,ih,ih];unfold rotF
  repeat' split
  all_goals first|omega|rfl|(congr 1;omega)
theorem zmi {a b:Nat}{d:Array α}(hb:b≤d.size): ∀{k:Nat},a+k<b→Sort.PermIn a b d (shR a k d)
 |0,_=>Sort.permIn_refl d a b
 |k+1,h=>by
  unfold shR;exact Sort.permIn_trans _ _ _ a b (zmi hb (by omega)) (Sort.swp_permIn _ a b _ _ (by omega) (by omega) (by omega) (by omega) (by rw[zek];exact hb))
theorem zmh {a m b:Nat}{d:Array α}(hb:b≤d.size)(hm:m<b): ∀{k:Nat},a+k≤m→Sort.PermIn a b d (shL m k d)
 |0,_=>Sort.permIn_refl d a b
 |k+1,h=>by
  unfold shL;exact Sort.permIn_trans _ _ _ a b (zmh hb hm (by omega)) (Sort.swp_permIn _ a b _ _ (by omega) (by omega) (by omega) (by omega) (by rw[zej];exact hb))
theorem zrm {R:Type}{B:Int×List α→Option (Ctl (Int×List α) R)}{a n fuel:Nat}{d:Array α}(hf:n<fuel)
 (hB: ∀(i:Nat) (d':Array α),d'.size=d.size→i≤n→B (((a+i:Nat):Int),d'.toList)=if i<n then some (.next (((a+i+1:Nat):Int),(Sort.swp d' (a+i) (a+i+1)).toList))else some (.brk (((a+i:Nat):Int),d'.toList))):
 ∃x:Int,loopN B fuel ((a:Int),d.toList)=some (.done (x,(shR a n d).toList)):=by
 have key: ∀k i fuel,i+k=n→k<fuel→ ∃x:Int,loopN B fuel (((a+i:Nat):Int),(shR a i d).toList)=some (.done (x,(shR a n d).toList)):=by
  intro k;induction k with
  |zero=>
   intro i fuel hi hf;cases fuel with
   |zero=>omega
   |succ fuel=>
    have h:=hB i (shR a i d) (zek ..) (by omega);rw[if_neg (by omega)]at h;rw[z1f h,show i=n by omega];exact⟨_,rfl⟩
  |succ k ih=>
   intro i fuel hi hf;cases fuel with
   |zero=>omega
   |succ fuel=>
    have h:=hB i (shR a i d) (zek ..) (by omega);rw[if_pos (by omega)]at h;rw[z21 h];exact ih (i+1) fuel (by omega) (by omega)
 exact key n 0 fuel (by omega) hf
theorem zrl {R:Type}{B:Int×List α→Option (Ctl (Int×List α) R)}{m n fuel:Nat}{d:Array α}(hn:n≤m)(hf:n<fuel)
 (hB: ∀(i:Nat) (d':Array α),d'.size=d.size→i≤n→B (((m-i:Nat):Int),d'.toList)=if i<n then some (.next (((m-i-1:Nat):Int),(Sort.swp d' (m-i) (m-i-1)).toList))else some (.brk (((m-i:Nat):Int),d'.toList))):
 ∃x:Int,loopN B fuel ((m:Int),d.toList)=some (.done (x,(shL m n d).toList)):=by
 have key: ∀k i fuel,i+k=n→k<fuel→ ∃x:Int,loopN B fuel (((m-i:Nat):Int),(shL m i d).toList)=some (.done (x,(shL m n d).toList)):=by
  intro k;induction k with
  |zero=>
   intro i fuel hi hf;cases fuel with
   |zero=>omega
   |succ fuel=>
    have h:=hB i (shL m i d) (zej ..) (by omega);rw[if_neg (by omega)]at h;rw[z1f h,show i=n by omega];exact⟨_,rfl⟩
  |succ k ih=>
   intro i fuel hi hf;cases fuel with
   |zero=>omega
   |succ fuel=>
    have h:=hB i (shL m i d) (zej ..) (by omega);rw[if_pos (by omega)]at h;rw[z21 h];have:=ih (i+1) fuel (by omega) (by omega)
    rwa[show m-(i+1)=m-i-1 by omega]at this
 exact key n 0 fuel (by omega) hf
omit [Inhabited α]in
theorem zqj (h:IsCmp c):Sort.SWO (ltC c) where
 irrefl x:=by unfold ltC;rw[h.refl];rfl
 trans x y z h1 h2:=by
  unfold ltC at*;simp only[decide_eq_true_eq]at*;exact h.lt_tr h1 (by omega)
 ntrans x y z h1 h2:=by
  unfold ltC at*;simp only[decide_eq_false_iff_not,Int.not_lt]at*;have a1:=h.anti x y;have a2:=h.anti y z;have a3:=h.anti x z
  by_cases g:0≤c x z
  ·exact g
  ·exfalso;have:=h.lt_tr (a:=x) (b:=z) (d:=y) (by omega) (by omega)
   omega
end
end Go.Av
namespace Go.Av
open Go
section
variable {α:Type} [Inhabited α] {cmp:α→α→Option Int} {c:α→α→Int}
theorem zr9 {lt:α→α→Bool}(hS:Sort.SWO lt){a b r:Nat}{d:Array α}(hr:a+1≤r∧r≤b)(hb:b≤d.size)(h2:Sort.SortedIn lt (a+1) b d)
 (hA:r=a+1∨lt d[r-1]! d[a]! =true) (hB:r=b∨lt d[r]! d[a]! =false):MergeTo lt a b d (shR a (r-(a+1)) d):=by
 have hg: ∀x,(shR a (r-(a+1)) d)[x]! =rotF a (a+1) r d x:=fun x=>by
  rw[zo2 (by omega),show a+1+(r-(a+1))=r by omega]
 obtain⟨h3,_,h5,h6,h7⟩:=zgo hS (d':=shR a (r-(a+1)) d) (a:=a) (m:=a+1) (b:=b) (s:=a) (e:=r) (z9g (by omega)) h2 ⟨by omega,by omega⟩ hr hg (.inl rfl) (.inr hA);refine⟨zmi hb (by omega),glue2 (mid:=a+(r-(a+1))) h5 (glue2 (mid:=r) h6 h7 ?_) h3⟩;intro x y g1 g2 g3 g4;rw[hg,hg,show x=r-1 by omega];unfold rotF;rw[if_neg (by omega),if_neg (by omega),if_neg (by omega),if_pos (by omega)];rw[show r-1-(a+(r-(a+1)))+a=a by omega];rcases hB with h|h
 ·omega
 ·by_cases e:y=r
  ·subst e;exact h
  ·exact hS.ntrans _ _ _ (h2 r y (by omega) (by omega) g4) h
theorem      zr8 {lt : α → α → Bool} (hS : Sort.SWO lt) {a m r : Nat} {d : Array α} (hr : a ≤ r ∧ r ≤ m) (hb : m + 1 ≤ d.size) (h1 : Sort.SortedIn lt a m d)
    (hA : r = a ∨ lt d[m]! d[r - 1]! = false) (hB : r = m ∨ lt d[m]! d[r]! = true) : MergeTo lt a (m + 1) d (shL m (m - r) d) := by
  have hg : ∀ x, (shL m (m - r) d)[x]! = rotF r m (m + 1) d x := fun x => by
    rw [    zo1 (by omega) (by omega), show m - (m - r) = r by omega]
  obtain ⟨h3, h4, h5, h6, h7⟩ :=       zgo hS (d' := shL m (m - r) d) (a := a) (m := m) (b := m + 1) (s := r) (e := m + 1) h1 (         z9g (by omega)) hr ⟨by omega, by omega⟩ hg (.inr (.inl rfl))
    (by rcases hB with h | h
        · exact .inl h
        · exact .inr (.inr (by rw [Nat.add_sub_cancel]; exact h)))
  refine ⟨     zmh hb (by omega) (by omega), glue2 (mid := r + (m + 1 - m)) (glue2 (mid := r) h4 h5 ?_) h6 h3⟩
  intro x y g1 g2 g3 g4
  rw [hg, hg, show y = r by omega]
  unfold rotF
  rw [if_pos (by omega), if_neg (by omega), if_neg (by omega)]
  rw [show r - r + m = m by omega]
  rcases hA with h | h
  · omega
  · by_cases e : x = r - 1
    · subst e; exact h
    · exact hS.ntrans _ _ _ h (h1 x (r - 1) g1 (by omega) (by omega))
theorem zbv {S R Q:Type}{G:Option Q→Prop}{P:S→Prop}{o:Option (Out S R)}{kn:S→Option Q}{kr:R→Option Q}(h: ∃s,o=some (.done s)∧P s)(hk: ∀s,P s→G (kn s)):G (outK o kn kr):=by
 obtain⟨s,h,hp⟩:=h;rw[h];exact hk s hp
theorem bs_ex {R:Type}{B:Int×Int→Option (Ctl (Int×Int) R)}{P:Nat→Bool}{Q:Int×Int→Prop}{i0 j0 fuel:Nat}(hf:j0-i0<fuel)(hij:i0≤j0)
 (hQ: ∀r:Nat,i0≤r→r≤j0→(r=i0∨P (r-1)=true)→(r=j0∨P r=false)→Q ((r:Int),(r:Int)))
 (hB: ∀i j:Nat,i0≤i→i≤j→j≤j0→B ((i:Int),(j:Int))=if i<j then(if P ((i+j) / 2)=true then some (.next ((((i+j) / 2+1:Nat):Int),(j:Int)))else some (.next ((i:Int),(((i+j) / 2:Nat):Int))))else some (.brk ((i:Int),(j:Int)))):
 ∃s,loopN B fuel ((i0:Int),(j0:Int))=some (.done s)∧Q s:=by
 obtain⟨r,g1,g2,g3,g4,g5⟩:=zs0 (P:=P) (j0-i0) i0 j0 fuel (zzc _) hf (zzc _) hij (zzc _) (.inl rfl) (.inl rfl) hB;exact⟨_,g1,hQ r g2 g3 g4 g5⟩
theorem jn_P {A Q:Type}{G:Option Q→Prop}{P:A→Prop}{K:A→Option Q}{f:(A→Option Q)→Option Q}(hK: ∀a,P a→G (K a))(hf: ∃a,P a∧f K=K a):G (jn K f):=by
 obtain⟨a,h1,h2⟩:=hf;rw[jn_eq,h2];exact hK a h1
theorem zh5 (hc: ∀x y,cmp x y=some (c x y))(hC:IsCmp c): ∀(fuel a m b:Nat) (d:Array α),a<m→m<b→b≤d.size→d.size<1152921504606846976→d.size+(b-a)<fuel→
 Sort.SortedIn (ltC c) a m d→Sort.SortedIn (ltC c) m b d→ ∃d':Array α,symG cmp fuel (a:Int) (m:Int) (b:Int) d.toList=some d'.toList∧MergeTo (ltC c) a b d d'
 |0,a,m,b,d,_,_,_,_,hf,_,_=>by omega
 |fuel+1,a,m,b,d,ham,hmb,hb,hd,hf,h1,h2=>by
  have hS:=zqj hC;unfold symG;simp only[z0d];rw[wsub (by omega) (by omega),wsub (by omega) (by omega)];by_cases c1:m-a=1
  ·rw[if_pos (by omega)];have hm:m=a+1:=by omega
   subst hm;refine zbv (G:=fun q=> ∃d':Array α,q=some d'.toList∧MergeTo (ltC c) a b d d') (P:=fun s=> ∃r:Nat,s=((r:Int),(r:Int))∧a+1≤r∧r≤b∧(r=a+1∨ltC c d[r-1]! d[a]! =true)∧(r=b∨ltC c d[r]! d[a]! =false)) ?_ ?_
   ·refine bs_ex (P:=fun h=>ltC c d[h]! d[a]!) (by omega) (by omega) (fun r g2 g3 g4 g5=>⟨r,rfl,g2,g3,g4,g5⟩) ?_;intro i j hi hij hj;simp only[z0d,intlt];rw[zh2 (by omega)];by_cases h:i<j
    ·rw[if_pos h,if_pos h];simp(disch:=omega) only[z0a,wadd1,zz5,zz4,zz1,hc,zz0,z2c];unfold ltC;by_cases g:c d[(i+j) / 2]! d[a]! <0<;>simp[g]
    ·rw[if_neg h,if_neg h]
   ·rintro s ⟨r,rfl,g2,g3,g4,g5⟩;simp only;rw[wsub1 (by omega) (by omega)];refine⟨shR a (r-(a+1)) d,z8l (zrm (a:=a) (n:=r-(a+1)) (by omega) ?_) (fun x=>rfl),zr9 hS ⟨g2,g3⟩ hb h2 g4 g5⟩;intro i d' hs hi;simp only[z0d,intlt];by_cases h:i<r-(a+1)
    ·rw[if_pos (by omega),if_pos h];simp(disch:=omega) only[z0a,wadd1,zz5,zz4,zz1,zz9,z2c,z3t]
    ·rw[if_neg (by omega),if_neg h]
  ·rw[if_neg (by omega)];by_cases c2:b-m=1
   ·rw[if_pos (by omega)];have hbm:b=m+1:=by omega
    subst hbm;refine zbv (G:=fun q=> ∃d':Array α,q=some d'.toList∧MergeTo (ltC c) a (m+1) d d') (P:=fun s=> ∃r:Nat,s=((r:Int),(r:Int))∧a≤r∧r≤m∧(r=a∨ltC c d[m]! d[r-1]! =false)∧(r=m∨ltC c d[m]! d[r]! =true)) ?_ ?_
    ·refine bs_ex (P:=fun h=> !ltC c d[m]! d[h]!) (by omega) (by omega) (fun r g2 g3 g4 g5=>⟨r,rfl,g2,g3,by simpa using g4,by simpa using g5⟩) ?_;intro i j hi hij hj;simp only[z0d,z5e,intlt];rw[zh2 (by omega)];by_cases h:i<j
     ·rw[if_pos h,if_pos h];simp(disch:=omega) only[z0a,wadd1,zz5,zz4,zz1,hc,zz0,z2c];unfold ltC;by_cases g:c d[m]! d[(i+j) / 2]! <0<;>simp[g]
     ·rw[if_neg h,if_neg h]
    ·rintro s ⟨r,rfl,g2,g3,g4,g5⟩;simp only;refine⟨shL m (m-r) d,z8l (zrl (m:=m) (n:=m-r) (by omega) (by omega) ?_) (fun x=>rfl),zr8 hS ⟨g2,g3⟩ hb h1 g4 g5⟩;intro i d' hs hi;simp only[z0d,intlt];by_cases h:i<m-r
     ·rw[if_pos (by omega),if_pos h];simp(disch:=omega) only[z0a,wsub1,zz5,zz4,zz1,zz9,z2c,z3t]
     ·rw[if_neg (by omega),if_neg h]
   ·rw[if_neg (by omega)];rw[zh2 (by omega),wadd (by omega)]
    let G:Option (List α)→Prop:=fun q=> ∃d':Array α,q=some d'.toList∧MergeTo (ltC c) a b d d'
    refine jn_P (G:=G) (P:=fun x=> ∃st r0:Nat,x=((((a+b) / 2:Nat):Int),(((a+b) / 2+m:Nat):Int),(st:Int),(r0:Int))∧a≤st∧st≤r0∧r0≤m∧r0≤(a+b) / 2+m-m∧(st=a∨(a+b) / 2+m-st=b)∧(a+b) / 2+m-st≤b∧(r0=m∨r0=(a+b) / 2)) ?_ ?_
    ·rintro _ ⟨st,r0,rfl,k1,k2,k3,k4,k5,k6,k7⟩;refine zbv (G:=G) (P:=fun s=> ∃r:Nat,s=((r:Int),(r:Int))∧st≤r∧r≤r0∧(r=st∨ltC c d[(a+b) / 2+m-r]! d[r-1]! =false)∧(r=r0∨ltC c d[(a+b) / 2+m-r-1]! d[r]! =true)) ?_ ?_
     ·refine bs_ex (P:=fun h=> !ltC c d[(a+b) / 2+m-1-h]! d[h]!) (by omega) (by omega) (fun r g2 g3 g4 g5=>⟨r,rfl,g2,g3,?_,?_⟩) ?_
      ·rcases g4 with g4|g4
       ·exact .inl g4
       ·by_cases e:r=st
        ·exact .inl e
        ·right;rw[show(a+b) / 2+m-1-(r-1)=(a+b) / 2+m-r by omega]at g4
         simpa using g4
      ·rcases g5 with g5|g5
       ·exact .inl g5
       ·right;rw[show(a+b) / 2+m-1-r=(a+b) / 2+m-r-1 by omega]at g5
        simpa using g5
      ·intro i j hi hij hj;simp only[z0d,z5e,intlt];rw[zh2 (by omega),wsub1 (by omega) (by omega)];by_cases h:i<j
       ·rw[if_pos h,if_pos h,wsub (by omega) (by omega)];simp(disch:=omega) only[z0a,wadd1,zz5,zz4,zz1,hc,zz0,z2c];unfold ltC;by_cases g:c d[(a+b) / 2+m-1-(i+j) / 2]! d[(i+j) / 2]! <0<;>simp[g]
       ·rw[if_neg h,if_neg h]
     ·rintro s ⟨r,rfl,g2,g3,g4,g5⟩;simp only;rw[wsub (by omega) (by omega)];have hmid:r+((a+b) / 2+m-r-m)=(a+b) / 2:=by omega
      refine jn_P (G:=G) (P:=fun x=> ∃d1:Array α,x=((((a+b) / 2+m-r:Nat):Int),d1.toList)∧Sort.PermIn a b d d1∧ ∀x,d1[x]! =rotF r m ((a+b) / 2+m-r) d x) ?_ ?_
      ·rintro _ ⟨d1,rfl,p1,p2⟩;obtain⟨q1,q2,q3,q4,q5⟩:=zgo hS h1 h2 ⟨by omega,by omega⟩ ⟨by omega,by omega⟩ p2 (by
        rcases g4 with g|g
        ·rcases k5 with k|k
         ·exact .inl (by omega)
         ·exact .inr (.inl (by omega))
        ·exact .inr (.inr g)) (by
        rcases g5 with g|g
        ·rcases k7 with k|k
         ·exact .inl (by omega)
         ·exact .inr (.inl (by omega))
        ·exact .inr (.inr g))
       rw[hmid]at q1 q3 q4;have s1:d1.size=d.size:=p1.1
       refine jn_P (G:=G) (P:=fun x=> ∃d2:Array α,x=d2.toList∧MergeTo (ltC c) a ((a+b) / 2) d1 d2) ?_ ?_
       ·rintro _ ⟨d2,rfl,m1⟩;have s2:d2.size=d1.size:=m1.perm.1
        have e1:Sort.SortedIn (ltC c) ((a+b) / 2) ((a+b) / 2+m-r) d2:=fun i j h1 h2 h3=>by
         rw[m1.perm.2.1 i (.inr (by omega)),m1.perm.2.1 j (.inr (by omega))];exact q4 i j h1 h2 h3
        have e2:Sort.SortedIn (ltC c) ((a+b) / 2+m-r) b d2:=fun i j h1 h2 h3=>by
         rw[m1.perm.2.1 i (.inr (by omega)),m1.perm.2.1 j (.inr (by omega))];exact q5 i j h1 h2 h3
        have fin: ∀d3:Array α,MergeTo (ltC c) ((a+b) / 2) b d2 d3→MergeTo (ltC c) a b d d3:=fun d3 m3=>zm2 hS ⟨by omega,by omega⟩ hb p1 q1 m1 m3;simp only[jn_eq,z0d,intlt];by_cases w1:(a+b) / 2<(a+b) / 2+m-r
        ·by_cases w2:(a+b) / 2+m-r<b
         ·rw[if_pos w1,if_pos w2];obtain⟨d3,t1,t2⟩:=zh5 hc hC fuel ((a+b) / 2) ((a+b) / 2+m-r) b d2 w1 w2 (by omega) (by omega) (by omega) e1 e2;rw[t1];exact⟨d3,rfl,fin d3 t2⟩
         ·rw[if_pos w1,if_neg w2];rw[show(a+b) / 2+m-r=b by omega]at e1;exact⟨d2,rfl,fin d2 (zc5 e1)⟩
        ·rw[if_neg w1,z0n];rw[show(a+b) / 2+m-r=(a+b) / 2 by omega]at e2;exact⟨d2,rfl,fin d2 (zc5 e2)⟩
       ·simp only[jn_eq,z0d,intlt];by_cases w1:a<r
        ·by_cases w2:r<(a+b) / 2
         ·rw[if_pos w1,if_pos w2];obtain⟨d3,t1,t2⟩:=zh5 hc hC fuel a r ((a+b) / 2) d1 w1 w2 (by omega) (by omega) (by omega) q2 q3;refine⟨_,⟨d3,rfl,t2⟩,?_⟩;rw[t1];simp only[zz0];rw[z0a (by have:=t2.perm.1;simp only[zz1];omega)]
         ·rw[if_pos w1,if_neg w2];rw[show r=(a+b) / 2 by omega]at q2;exact⟨_,⟨d1,rfl,zc5 q2⟩,rfl⟩
        ·rw[if_neg w1,z0n];rw[show r=a by omega]at q3;exact⟨_,⟨d1,rfl,zc5 q3⟩,rfl⟩
      ·simp only[jn_eq,z0d,intlt];by_cases w1:r<m
       ·by_cases w2:m<(a+b) / 2+m-r
        ·obtain⟨d1,t1,t2⟩:=zsm (fuel:=fuel) (s:=r) (m:=m) (e:=(a+b) / 2+m-r) (d:=d) w1 w2 (by omega) (by omega) (by omega);refine⟨_,⟨d1,rfl,Sort.permIn_mono _ _ _ _ a b (by omega) (by omega) hb t2.perm,t2.get⟩,?_⟩;rw[if_pos w1,if_pos w2,t1,zz0];rw[z0a (by have:=t2.perm.1;simp only[zz1];omega)];simp only[intlt]
        ·rw[if_pos w1,if_neg w2];refine⟨_,⟨d,rfl,Sort.permIn_refl d a b,fun x=>?_⟩,by simp only[intlt]⟩;unfold rotF
         repeat' split
         all_goals first|omega|rfl|(congr 1;omega)
       ·rw[if_neg w1,z0n];refine⟨_,⟨d,rfl,Sort.permIn_refl d a b,fun x=>?_⟩,by simp only[intlt]⟩;unfold rotF
        repeat' split
        all_goals first|omega|rfl|(congr 1;omega)
    ·simp only[z0d,intlt];by_cases w:(a+b) / 2<m
     ·rw[if_pos w,wsub (by omega) (by omega)];exact⟨_,⟨(a+b) / 2+m-b,(a+b) / 2,rfl,by omega,by omega,by omega,by omega,by omega,by omega,.inr rfl⟩,rfl⟩
     ·rw[if_neg w];exact⟨_,⟨a,m,rfl,by omega,by omega,by omega,by omega,.inl rfl,by omega,.inl rfl⟩,rfl⟩
end
end Go.Av
namespace Go.Av
open Go
section
variable {α:Type} [Inhabited α] {cmp:α→α→Option Int} {c:α→α→Int}
theorem zf0 {S R:Type}{B:S→Option (Ctl S R)}(I:Nat→S→Prop)(Dn:S→Prop){n fuel:Nat}{s:S}(hf:n<fuel)(h0:I 0 s)
 (h: ∀i s,I i s→(∃s',B s=some (.next s')∧I (i+1) s'∧i<n)∨(∃s',B s=some (.brk s')∧Dn s')): ∃s',loopN B fuel s=some (.done s')∧Dn s':=by
 have key: ∀k i s fuel,i+k=n→k<fuel→I i s→ ∃s',loopN B fuel s=some (.done s')∧Dn s':=by
  intro k;induction k with
  |zero=>
   intro i s fuel hi hf hI;cases fuel with
   |zero=>omega
   |succ fuel=>
    rcases h i s hI with⟨s',_,_,g⟩|⟨s',g1,g2⟩
    ·omega
    ·exact⟨s',z1f g1,g2⟩
  |succ k ih=>
   intro i s fuel hi hf hI;cases fuel with
   |zero=>omega
   |succ fuel=>
    rcases h i s hI with⟨s',g1,g2,g⟩|⟨s',g1,g2⟩
    ·rw[z21 g1];exact ih (i+1) s' fuel (by omega) (by omega) g2
    ·exact⟨s',z1f g1,g2⟩
 exact key n 0 s fuel (by omega) hf h0
theorem zav {lt:α→α→Bool}{a b x y:Nat}{d d':Array α}(h:Sort.SortedIn lt x y d)(hp:Sort.PermIn a b d d')(ho:y≤a∨b≤x):Sort.SortedIn lt x y d':=fun i j h1 h2 h3=>by
 rw[hp.2.1 i (by omega),hp.2.1 j (by omega)];exact h i j h1 h2 h3
theorem zbc {i j k:Nat}(h:i<j):i*k+k≤j*k:=by
 have:=Nat.mul_le_mul_right k (show i+1≤j by omega);rw[Nat.add_mul,Nat.one_mul]at this;exact this
theorem zrn (hc: ∀x y,cmp x y=some (c x y))(hC:IsCmp c){fuel:Nat}{d:Array α}(hd:d.size<1152921504606846)(hf:4*d.size+100<fuel):
 ∃d':Array α,stabG cmp fuel (d.size:Int) d.toList=some d'.toList∧Sort.PermIn 0 d.size d d'∧Sort.SortedIn (ltC c) 0 d.size d':=by
 have hS:=zqj hC;generalize hn:d.size=n at*
 let G:Option (List α)→Prop:=fun q=> ∃d':Array α,q=some d'.toList∧Sort.PermIn 0 n d d'∧Sort.SortedIn (ltC c) 0 n d'
 unfold stabG;refine zbv (G:=G) (P:=fun s=> ∃(i:Nat) (d1:Array α),s=(((i*20:Nat):Int),((i*20+20:Nat):Int),d1.toList)∧i*20≤n∧n<i*20+20∧Sort.PermIn 0 n d d1∧ ∀j,j<i→Sort.SortedIn (ltC c) (j*20) (j*20+20) d1) ?_ ?_
 ·refine zf0 (I:=fun i s=> ∃d1:Array α,s=(((i*20:Nat):Int),((i*20+20:Nat):Int),d1.toList)∧i*20≤n∧Sort.PermIn 0 n d d1∧ ∀j,j<i→Sort.SortedIn (ltC c) (j*20) (j*20+20) d1) (n:=n) _ (by omega) ⟨d,by rfl,by omega,Sort.permIn_refl d 0 n,fun j hj=>by omega⟩ ?_;rintro i _ ⟨d1,rfl,k1,k2,k3⟩;have s1:d1.size=n:=k2.1.trans hn
  simp only[z0d,intle];by_cases h:i*20+20≤n
  ·left;obtain⟨p1,p2⟩:=Sort.insertionSort_holds hS d1 (i*20) (i*20+20) (by omega) (by omega);refine⟨_,?_,⟨Sort.insertionSort (ltC c) d1 (i*20) (i*20+20),rfl,by omega,Sort.permIn_trans _ _ _ 0 n k2 (Sort.permIn_mono _ _ _ _ 0 n (by omega) (by omega) (by omega) p1),?_⟩,by omega⟩
   ·rw[if_pos h,zns hc (by omega) (by omega) (by omega) (by omega)];simp only[zz0];rw[z0a (by have:=p1.1;simp only[zz1];omega),show(20:Int)=((20:Nat):Int)from rfl,wadd (by omega)];rw[show(i+1)*20=i*20+20 by omega]
   ·intro j hj;by_cases e:j=i
    ·subst e;exact p2
    ·exact zav (k3 j (by omega)) p1 (by have:=zbc (k:=20) (show j<i by omega);omega)
  ·right;rw[if_neg h];exact⟨_,rfl,i,d1,rfl,k1,by omega,k2,k3⟩
 ·rintro _ ⟨i,d1,rfl,k1,k2,k3,k4⟩;have s1:d1.size=n:=k3.1.trans hn
  simp only;obtain⟨p1,p2⟩:=Sort.insertionSort_holds hS d1 (i*20) n (by omega) (by omega);rw[zns hc (by omega) (by omega) (by omega) (by omega)];simp only[zz0];rw[z0a (by have:=p1.1;simp only[zz1];omega)];generalize hd2:Sort.insertionSort (ltC c) d1 (i*20) n=d2 at p1 p2;have q1:Sort.PermIn 0 n d d2:=Sort.permIn_trans _ _ _ 0 n k3 (Sort.permIn_mono _ _ _ _ 0 n (by omega) (by omega) (by omega) p1)
  have q2: ∀j,Sort.SortedIn (ltC c) (j*20) (min (j*20+20) n) d2:=fun j=>by
   by_cases e:j<i
   ·have:=zbc (k:=20) e;rw[show min (j*20+20) n=j*20+20 by omega];exact zav (k4 j e) p1 (by omega)
   ·by_cases e2:j=i
    ·subst e2;rw[show min (j*20+20) n=n by omega];exact p2
    ·exact z9g (by omega)
  refine zbv (G:=G) (P:=fun s=> ∃(x:Int) (d3:Array α),s=(x,d3.toList)∧Sort.PermIn 0 n d d3∧Sort.SortedIn (ltC c) 0 n d3) ?_ ?_
  ·refine zf0 (I:=fun r s=> ∃(k:Nat) (d3:Array α),s=((k:Int),d3.toList)∧r+20≤k∧k≤2*n+20∧Sort.PermIn 0 n d d3∧ ∀j,Sort.SortedIn (ltC c) (j*k) (min (j*k+k) n) d3) (n:=n) _ (by omega) ⟨20,d2,by rfl,by omega,by omega,q1,q2⟩ ?_;rintro r _ ⟨k,d3,rfl,g1,g2,g3,g4⟩;have s3:d3.size=n:=g3.1.trans hn
   simp only[z0d,intlt];by_cases h:k<n
   ·left;rw[if_pos h]
    let G2:Option (Ctl (Int×List α) Empty)→Prop:=fun q=> ∃s',q=some (.next s')∧(∃(k:Nat) (d3:Array α),s'=((k:Int),d3.toList)∧r+1+20≤k∧k≤2*n+20∧Sort.PermIn 0 n d d3∧ ∀j,Sort.SortedIn (ltC c) (j*k) (min (j*k+k) n) d3)∧r<n
    refine zbv (G:=G2) (P:=fun s=> ∃(i:Nat) (d4:Array α),s=(((i*(2*k):Nat):Int),((i*(2*k)+2*k:Nat):Int),d4.toList)∧i*(2*k)≤n∧n<i*(2*k)+2*k∧Sort.PermIn 0 n d d4∧(∀j,j<i→Sort.SortedIn (ltC c) (j*(2*k)) (j*(2*k)+2*k) d4)∧ ∀j,i*(2*k)≤j*k→Sort.SortedIn (ltC c) (j*k) (min (j*k+k) n) d4) ?_ ?_
    ·rw[wtwo (by omega)];refine zf0 (I:=fun i s=> ∃d4:Array α,s=(((i*(2*k):Nat):Int),((i*(2*k)+2*k:Nat):Int),d4.toList)∧i*(2*k)≤n∧i≤i*(2*k)∧Sort.PermIn 0 n d d4∧(∀j,j<i→Sort.SortedIn (ltC c) (j*(2*k)) (j*(2*k)+2*k) d4)∧ ∀j,i*(2*k)≤j*k→Sort.SortedIn (ltC c) (j*k) (min (j*k+k) n) d4) (n:=n) _ (by omega) ⟨d3,by simp,by omega,by omega,g3,fun j hj=>by omega,fun j _=>g4 j⟩ ?_;rintro i _ ⟨d4,rfl,f1,f0,f2,f3,f4⟩;have s4:d4.size=n:=f2.1.trans hn
     have e1:(2*i)*k=i*(2*k):=by rw[Nat.mul_comm 2 i,Nat.mul_assoc]
     have e2:(2*i+1)*k=i*(2*k)+k:=by rw[Nat.add_mul,Nat.one_mul,e1]
     have e3:(i+1)*(2*k)=i*(2*k)+2*k:=by rw[Nat.add_mul,Nat.one_mul]
     have t1:=f4 (2*i) (by omega);have t2:=f4 (2*i+1) (by omega)
     rw[e1]at t1;rw[e2]at t2;generalize hp:i*(2*k)=p at*;simp only[z0d,intle];by_cases h2:p+2*k≤n
     ·left;rw[if_pos h2,wadd (by omega)];rw[show min (p+k) n=p+k by omega]at t1;rw[show min (p+k+k) n=p+2*k by omega]at t2;obtain⟨d5,u1,u2⟩:=zh5 hc hC fuel p (p+k) (p+2*k) d4 (by omega) (by omega) (by omega) (by omega) (by omega) t1 t2;refine⟨_,?_,⟨d5,rfl,by omega,by omega,Sort.permIn_trans _ _ _ 0 n f2 (Sort.permIn_mono _ _ _ _ 0 n (by omega) (by omega) (by omega) u2.perm),?_,?_⟩,by omega⟩
      ·rw[u1];simp only[zz0];rw[z0a (by have:=u2.perm.1;simp only[zz1];omega),wadd (by omega),e3]
      ·intro j hj;by_cases e:j=i
       ·subst e;rw[hp];exact u2.sorted
       ·have:=zbc (k:=2*k) (show j<i by omega);exact zav (f3 j (by omega)) u2.perm (.inl (by omega))
      ·intro j hj;exact zav (f4 j (by omega)) u2.perm (.inr (by omega))
     ·right;rw[if_neg h2];exact⟨_,rfl,i,d4,by rw[hp],by omega,by omega,f2,f3,by rw[hp];exact f4⟩
    ·rintro _ ⟨i,d4,rfl,f1,f1',f2,f3,f4⟩;have s4:d4.size=n:=f2.1.trans hn
     have e1:(2*i)*k=i*(2*k):=by rw[Nat.mul_comm 2 i,Nat.mul_assoc]
     have e2:(2*i+1)*k=i*(2*k)+k:=by rw[Nat.add_mul,Nat.one_mul,e1]
     have t1:=f4 (2*i) (by omega);have t2:=f4 (2*i+1) (by omega)
     rw[e1]at t1;rw[e2]at t2;have e4: ∀j,i<j→n≤j*(2*k):=fun j hj=>by have:=zbc (k:=2*k) hj;omega
     generalize hp:i*(2*k)=p at*;simp only;refine jn_P (G:=G2) (P:=fun l=> ∃d5:Array α,l=d5.toList∧Sort.PermIn 0 n d d5∧ ∀j,Sort.SortedIn (ltC c) (j*(2*k)) (min (j*(2*k)+2*k) n) d5) ?_ ?_
     ·rintro _ ⟨d5,rfl,u1,u2⟩;refine⟨_,rfl,⟨2*k,d5,?_,by omega,by omega,u1,u2⟩,by omega⟩;rw[show(k:Int)*2=2*(k:Int)by omega,wtwo (by omega)]
     ·simp only[z0d];rw[wadd (by omega)];simp only[intlt];by_cases h2:p+k<n
      ·rw[if_pos h2];rw[show min (p+k) n=p+k by omega]at t1;rw[show min (p+k+k) n=n by omega]at t2;obtain⟨d5,u1,u2⟩:=zh5 hc hC fuel p (p+k) n d4 (by omega) (by omega) (by omega) (by omega) (by omega) t1 t2;refine⟨_,⟨d5,rfl,Sort.permIn_trans _ _ _ 0 n f2 (Sort.permIn_mono _ _ _ _ 0 n (by omega) (by omega) (by omega) u2.perm),fun j=>?_⟩,?_⟩
       ·by_cases e:j<i
        ·have:=zbc (k:=2*k) e;rw[show min (j*(2*k)+2*k) n=j*(2*k)+2*k by omega];exact zav (f3 j e) u2.perm (.inl (by omega))
        ·by_cases e5:j=i
         ·subst e5;rw[hp,show min (p+2*k) n=n by omega];exact u2.sorted
         ·have:=e4 j (by omega);exact z9g (by omega)
       ·rw[u1];simp only[zz0];rw[z0a (by have:=u2.perm.1;simp only[zz1];omega)]
      ·rw[if_neg h2];refine⟨_,⟨d4,rfl,f2,fun j=>?_⟩,rfl⟩;by_cases e:j<i
       ·have:=zbc (k:=2*k) e;rw[show min (j*(2*k)+2*k) n=j*(2*k)+2*k by omega];exact f3 j e
       ·by_cases e5:j=i
        ·subst e5;rw[hp,show min (p+2*k) n=n by omega];rw[show min (p+k) n=n by omega]at t1;exact t1
        ·have:=e4 j (by omega);exact z9g (by omega)
   ·right;rw[if_neg h];have:=g4 0
    rw[Nat.zero_mul,show min (0+k) n=n by omega]at this;exact⟨_,rfl,_,d3,rfl,g3,this⟩
  ·rintro _ ⟨x,d3,rfl,u1,u2⟩;exact⟨d3,rfl,u1,u2⟩
theorem zj9 (hc: ∀x y,cmp x y=some (c x y))(hC:IsCmp c){fuel:Nat}{l:List α}(hd:l.length<1152921504606846)(hf:4*l.length+100<fuel):
 ∃r:List α,stabG cmp fuel (l.length:Int) l=some r∧r.Perm l∧ ∀i j,i<j→j<r.length→c (r.getD i zzd) (r.getD j zzd)≤0:=by
 obtain⟨d',h1,h2,h3⟩:=zrn hc hC (d:=l.toArray) (fuel:=fuel) (by simpa using hd) (by simpa using hf);have hs:d'.size=l.length:=by have:=h2.1;simpa using this
 refine⟨d'.toList,by simpa using h1,?_,fun i j hij hj=>?_⟩
 ·have:=h2.2.2;simp only[List.size_toArray]at this;rw[show d'.extract 0 l.length=d' by rw[←hs];simp,show l.toArray.extract 0 l.length=l.toArray by simp]at this;exact this
 ·rw[zz1]at hj;have:=h3 i j (by omega) hij (by simpa [hs]using hj)
  rw[z2c,z2c];unfold ltC at this;have a1:=hC.anti d'[i]! d'[j]!
  simp only[decide_eq_false_iff_not]at this;omega
end
end Go.Av
namespace Go.Av
open Go
def cmpV (a b:Value):Int:=if a.isText=b.isText then(if a.isText then cmpS a.s b.s else cmpZ a.n b.n)else(if a.isText then 1 else -1)
theorem zcc:IsCmp cmpV where
 vals a b:=by
  unfold cmpV;split
  ·split
   ·exact zgz.vals _ _
   ·exact zb4.vals _ _
  ·split<;>simp
 anti a b:=by
  unfold cmpV;cases a.isText<;>cases b.isText<;>simp
  ·exact zb4.anti _ _
  ·exact zgz.anti _ _
 tr a b d:=by
  unfold cmpV;cases a.isText<;>cases b.isText<;>cases d.isText<;>simp
  ·exact zb4.tr _ _ _
  ·exact zgz.tr _ _ _
theorem zqi (a b:ByteArray):(strLt a b||strEq a b)=decide (cmpS a b≤0):=by
 rw[zkn,zkm,Bool.eq_iff_iff];simp;omega
theorem zk5 (x y:Int):z7u x y=some (cmpZ x y):=by
 unfold z7u z8t cmpZ;simp only[decide_true,zzh,zz0,z0n,z0d];split<;>(try split)<;>rfl
theorem zmu (x y:Int):z6n x y=some (cmpZ x y):=by
 unfold z6n z7w cmpZ;simp only[decide_true,zzh,zz0,z0n,z0d];split<;>(try split)<;>rfl
theorem zlj (x y:ByteArray):z50 x y=some (cmpS x y):=by
 unfold z50 z77;simp only[zoy,zzh,zz0,z0n];rw[zqi,zkn];simp only[z5e,z0d];rcases zgz.vals x y with h|h|h<;>simp[h]
theorem zjd (a b:Value):z8v a b=some (cmpV a b):=by
 unfold z8v zaz cmpV;simp only[zk5,zlj,zmu,z5e];cases a.isText<;>cases b.isText<;>simp[zk5,cmpZ]
theorem zay (a b:List Value):z6y a b=some (cmpL cmpV a b):=by
 unfold z6y z0k;rw[zs3 (c:=cmpV)]
 ·rfl
 ·intro i hi;simp only[zjd,zz0,z0d,z5e,Int.ofNat_le];split
  ·rfl
  ·rw[z0a (by omega)]
 ·simp only[z0d,Int.ofNat_lt];split<;>rfl
def z6p (v:Value):Bool:=if v.isText then decide (v.n=0) && decide (v.s.size≤64)else strEq v.s (bs [])
def okRow (p:List Value):Bool:=decide (p.length≤8) && p.all z6p
theorem zrg (v:Value):z9v v=some (z6p v):=by
 unfold z9v z6p;have e:((v.s.size:Int)≤64)↔v.s.size≤64:=by omega
 cases v.isText<;>by_cases h:v.n=0<;>simp[h,e]
theorem zot {S R X:Type}[Inhabited X]{B:Nat→S→Option (Ctl S R)}{l:List X}(P:X→Bool)(f:Nat→R){s:S}
 (hB: ∀i,i<l.length→B i s=if P (l.getD i zzd)then some (.ret (f i))else some (.next s)):
 (l.any P=false∧z0i B l.length 0 s=some (.done s))∨(l.any P=true∧ ∃i,i<l.length∧P (l.getD i zzd)=true∧z0i B l.length 0 s=some (.ret (f i))):=by
 have key: ∀k i,i+k=l.length→((l.drop i).any P=false∧z0i B k i s=some (.done s))∨((l.drop i).any P=true∧ ∃j,j<l.length∧P (l.getD j zzd)=true∧z0i B k i s=some (.ret (f j))):=by
  intro k;induction k with
  |zero=>intro i hi;left;rw[List.drop_eq_nil_of_le (by omega:l.length≤i)];exact⟨rfl,rfl⟩
  |succ k ih=>
   intro i hi;rw[z2k (by omega:i<l.length)];simp only[z0i,hB i (by omega),List.any_cons];by_cases h:P (l.getD i zzd)=true
   ·rw[if_pos h];right;exact⟨by rw[h];rfl,i,by omega,h,rfl⟩
   ·rw[if_neg h];have hf:P (l.getD i zzd)=false:=by simpa using h
    rw[hf,Bool.false_or];exact ih (i+1) (by omega)
 have:=key l.length 0 (by omega);rwa[List.drop_zero]at this
theorem zfe (p:List Value):(p.any fun v=> !z6p v)= !(p.all z6p):=by
 rw[List.any_eq_not_all_not];simp
theorem zfr (p:List Value):z93 p=some (if okRow p then 0 else 4):=by
 unfold z93 z1a z1e za1 okRow;simp only[jn_eq,z0d,zrg,zz0];by_cases h:8<(p.length:Int)
 ·rw[if_pos h,decide_eq_false (by omega: ¬p.length≤8)];rfl
 ·rw[if_neg h,decide_eq_true (by omega:p.length≤8)];rcases zot (S:=Unit) (R:=Int) (l:=p) (fun v=> !z6p v) (fun i=>(i:Int)) (s:=()) (B:=fun i1 a2=>bf (!z6p (p.getD i1 zzd)) (some (.ret ((i1:Nat):Int))) (some (.next ()))) (fun i hi=>by
   cases z6p (p.getD i zzd)<;>rfl)with⟨h1,h2⟩|⟨h1,i,_,_,h2⟩
  ·rw[h2];rw[zfe]at h1;have:p.all z6p=true:=by simpa using h1
   simp[this]
  ·rw[h2];rw[zfe]at h1;have:p.all z6p=false:=by simpa using h1
   simp[this,Int.natCast_nonneg]
theorem zmy {a b:Value}:zce a b=true↔a=b:=by
 rcases a with⟨t,n,s⟩;rcases b with⟨t',n',s'⟩;simp[zce,zgv]
theorem zpg {a b:Value}(ha:z6p a=true)(hb:z6p b=true):cmpV a b=0↔a=b:=by
 rcases a with⟨t,n,s⟩;rcases b with⟨t',n',s'⟩;unfold cmpV z6p at*;cases t<;>cases t'<;>simp[zpd,zk7,zgv]at*
 ·intro _;rw[ha,hb]
 ·intro h;omega
theorem zg8: ∀{a b:List Value},a.all z6p=true→b.all z6p=true→(cmpL cmpV a b=0↔a=b)
 |[],[],_,_=>by simp[cmpL]
 |[],_::_,_,_=>by simp[cmpL]
 |_::_,[],_,_=>by simp[cmpL]
 |x::a,y::b,ha,hb=>by
  simp only[List.all_cons,Bool.and_eq_true]at ha hb;have h1:=zpg ha.1 hb.1
  have h2:=zg8 ha.2 hb.2;simp only[cmpL,thenC];split
  ·rename_i h;rw[h2,h1.1 h];simp
  ·rename_i h
   constructor
   ·intro g;exact absurd g h
   ·intro g;exact absurd (h1.2 (List.cons.inj g).1) h
theorem zbu {p:List Value}(h:okRow p=true):p.all z6p=true∧p.length≤8:=by
 unfold okRow at h;simp only[Bool.and_eq_true,decide_eq_true_eq]at h;exact⟨h.2,h.1⟩
end Go.Av
namespace Go.Av
open Go
def z1j (t:Time):Prop:=0≤t.epoch∧0≤t.loop.1∧0≤t.loop.2
def lub2 (a x:Time):Time:=⟨if a.epoch<x.epoch then x.epoch else a.epoch,(if a.loop.1<x.loop.1 then x.loop.1 else a.loop.1,if a.loop.2<x.loop.2 then x.loop.2 else a.loop.2)⟩
def zeroT:Time:=⟨0,(0,0)⟩
def lubL (l:List Time):Time:=l.foldl lub2 zeroT
theorem Time.ext' {a b:Time}(h1:a.epoch=b.epoch)(h2:a.loop.1=b.loop.1)(h3:a.loop.2=b.loop.2):a=b:=by
 rcases a with⟨e,l1,l2⟩;rcases b with⟨e',l1',l2'⟩;simp at h1 h2 h3;simp[h1,h2,h3]
theorem max0 {a:Int}(h:0≤a):a=if 0<a then a else 0:=by
 by_cases h1:0<a
 ·rw[if_pos h1]
 ·rw[if_neg h1];omega
theorem zdj {l:List Time}(hl: ∀x∈l,z1j x):z3m l=some (lubL l):=by
 unfold z3m;rw[z5q (lubL l) (fun i a=>a=lubL (l.take i)) (fun s h=>by rw[h,List.take_length])]
 ·rfl
 ·intro i a hi ha;refine⟨_,?_,rfl⟩;rw[z30 hi];have hx:=hl _ (z3e hi)
  generalize l.getD i zzd=x at*;simp only[lubL,List.foldl_append,List.foldl_cons,List.foldl_nil];rw[←lubL,←ha];simp only[jn_eq,z0i,z6g,zz0,z0d];rcases Nat.eq_zero_or_pos i with h0|h0
  ·subst h0;simp[lubL]at ha;subst ha;obtain⟨x1,x2,x3⟩:=hx;simp[outK,lub2,zeroT];exact⟨max0 x1,max0 x2,max0 x3⟩
  ·rw[if_neg (by omega)];simp[outK,lub2]
 ·rfl
theorem mx_eq (a b:Int):(if a<b then b else a)=max a b:=by split<;>omega
theorem zqp {x:Time}(h:z1j x):lub2 zeroT x=x:=by
 obtain⟨h1,h2,h3⟩:=h;simp only[lub2,mx_eq,zeroT];refine Time.ext' ?_ ?_ ?_<;>simp only<;>omega
theorem zlz {x y:Time}(hx:z1j x):lubL [x,y]=lub2 x y:=by
 simp[lubL,zqp hx]
def leT (a b:Time):Bool:=decide (a.epoch≤b.epoch) && (decide (a.loop.1≤b.loop.1) && decide (a.loop.2≤b.loop.2))
theorem zld {a b:Time}(ha:z1j a)(hb:z1j b):z8j a b=some (leT a b):=by
 unfold z8j z6w;have hl: ∀x∈[a,b],z1j x:=fun x hx=>by
  rcases zzm.1 hx with rfl|hx
  ·exact ha
  ·rw[zzf.1 hx];exact hb
 rw[zdj hl,zlz ha];simp only[zz0,lub2,mx_eq,z3i,leT,Bool.and_true];congr 1;rw[Bool.eq_iff_iff];simp only[Bool.and_eq_true,decide_eq_true_eq];omega
def cmpT (a b:Time):Int:=
 if a.epoch<b.epoch then -1 else if b.epoch<a.epoch then 1 else if a.loop.1<b.loop.1 then -1 else if b.loop.1<a.loop.1 then 1 else if a.loop.2<b.loop.2 then -1 else if b.loop.2<a.loop.2 then 1 else 0
theorem zk6 (x y:Int):z4f x y=some (if x<y then -1 else if y<x then 1 else 0):=by
 unfold z4f z78;simp only[decide_true,zzh,zz0,z0n,z0d];split
 ·rfl
 ·split<;>rfl
theorem zs2 (x1 x2 y1 y2:Int):z31 [x1,x2] [y1,y2]=some (if x1<y1 then -1 else if y1<x1 then 1 else if x2<y2 then -1 else if y2<x2 then 1 else 0):=by
 unfold z31;simp only[List.length_cons,List.length_nil,zz4,Nat.reduceAdd,z0i,zk6,z0d,z5e,zz0];by_cases h3:x1<y1<;>by_cases h4:y1<x1<;>by_cases h5:x2<y2<;>by_cases h6:y2<x2<;>simp[outK,need,h3,h4,h5,h6]
theorem zm6 (u v:Int):z6s [u,v]=some (if u=0 then v else u):=by
 unfold z6s;simp only[List.length_cons,List.length_nil,zz4,Nat.reduceAdd,z0i,z0d,z5e];by_cases h1:u=0<;>by_cases h2:v=0<;>simp[outK,h1,h2]
theorem zt0 {p q:Bool}{A:Type}{x y:Option A}:bf (p && (q && true)) x y=bf p (bf q x y) y:=by cases p<;>cases q<;>rfl
theorem        z3c (a b : Time) :            z1m a b = some (cmpT a b) := by
  unfold            z1m cmpT
  simp only [      zk6,     zs2,    zm6,              zz0,    zt0,       z0d]
  by_cases h1 : a.epoch < b.epoch <;> by_cases h2 : b.epoch < a.epoch <;> by_cases h3 : a.loop.1 < b.loop.1 <;> by_cases h4 : b.loop.1 < a.loop.1 <;> by_cases h5 : a.loop.2 < b.loop.2 <;> by_cases h6 : b.loop.2 < a.loop.2 <;>
    by_cases h7 : a.loop.1 = b.loop.1 <;> by_cases h8 : a.loop.2 = b.loop.2 <;> simp [h1, h2, h3, h4, h5, h6, h7, h8] <;> omega
theorem zoh (a b:Time):cmpT a b= -1∨cmpT a b=0∨cmpT a b=1:=by
 unfold cmpT
 repeat' split
 all_goals omega
theorem       zpe (a b : Time) : cmpT a b = - cmpT b a := by
  unfold cmpT
  by_cases h1 : a.epoch < b.epoch <;> by_cases h2 : b.epoch < a.epoch <;> by_cases h3 : a.loop.1 < b.loop.1 <;> by_cases h4 : b.loop.1 < a.loop.1 <;> by_cases h5 : a.loop.2 < b.loop.2 <;> by_cases h6 : b.loop.2 < a.loop.2 <;>
    simp [h1, h2, h3, h4, h5, h6] <;> omega
theorem zhs (a:Time):leT a a=true:=by simp[leT]
theorem zkd {a b c:Time}(h:leT a b=true)(g:leT b c=true):leT a c=true:=by
 simp only[leT,Bool.and_eq_true,decide_eq_true_eq]at*;omega
theorem zjr {a b:Time}:leT a b=true↔a.epoch≤b.epoch∧a.loop.1≤b.loop.1∧a.loop.2≤b.loop.2:=by simp[leT]
theorem ziv (u v w:Int):z6s [u,v,w]=some (thenC u (thenC v w)):=by
 unfold z6s thenC;simp only[List.length_cons,List.length_nil,zz4,Nat.reduceAdd,z0i,z0d,z5e];by_cases h1:u=0<;>by_cases h2:v=0<;>by_cases h3:w=0<;>simp[outK,h1,h2,h3]
theorem zta (u v w:Int):z8f [u,v,w]=some (thenC u (thenC v w)):=ziv u v w
theorem zt9 (u v:Int):z8f [u,v]=some (thenC u v):=zm6 u v
theorem znn:IsCmp cmpT where
 vals a b:=by rcases zoh a b with h|h|h<;>omega
 anti a b:=by have:=zpe a b;omega
 tr a b d:=by
  have e: ∀a b:Time,cmpT a b=thenC (cmpZ a.epoch b.epoch) (thenC (cmpZ a.loop.1 b.loop.1) (cmpZ a.loop.2 b.loop.2)):=fun a b=>by
   unfold cmpT thenC cmpZ
   repeat' split
   all_goals omega
  have h:=(zb4.on fun t:Time=>t.epoch).lex ((zb4.on fun t:Time=>t.loop.1).lex (zb4.on fun t:Time=>t.loop.2));rw[e,e,e];exact h.tr a b d
theorem       zpf {a b : Time} : cmpT a b = 0 ↔ a = b := by
  constructor
  · intro h
    unfold cmpT at h
    refine Time.ext' ?_ ?_ ?_ <;> · revert h; repeat' split
                                    all_goals omega
  · rintro rfl; exact     znn.refl a
def okT (t:Time):Bool:=decide (t.epoch≤4611686018427387904) && (decide (t.loop.1≤4611686018427387904) && decide (t.loop.2≤4611686018427387904))
theorem znt {fuel:Nat}(hf:5<fuel)(a b:Int):z3g fuel [a,b]=some (if a<b then b else a):=by
 unfold z3g;obtain⟨f,rfl⟩: ∃f,fuel=f+2:=⟨fuel-2,by omega⟩;have w:zzi.wrap 2=2:=by rw[z2t (by omega) (by omega)]
 simp[loopN,outK,need,bf,w]
theorem zbb {fuel:Nat}(hf:5<fuel)(t:Time):z3y fuel [t]=some (if okT t then 0 else 1):=by
 unfold z3y okT;simp only[List.length_cons,List.length_nil,zz4,z0i,List.getD_cons_zero,znt hf,zz0,z0d,mx_eq];by_cases h:4611686018427387904<max t.epoch (max t.loop.1 t.loop.2)
 ·rw[if_pos h];simp only[outK];rw[if_neg (by simp only[Bool.and_eq_true,decide_eq_true_eq];omega)]
 ·rw[if_neg h];simp only[outK];rw[if_pos (by simp only[Bool.and_eq_true,decide_eq_true_eq];omega)]
end Go.Av
namespace Go.Av
open Go
section
variable {α X Y:Type}
inductive R2 (r:X→Y→Prop):List X→List Y→Prop
 |nil:R2 r [] []
 |cons {x:X} {y:Y} {a:List X} {b:List Y} (h:r x y) (t:R2 r a b):R2 r (x::a) (y::b)
theorem R2.len {r:X→Y→Prop}{a:List X}{b:List Y}(h:R2 r a b):a.length=b.length:=by induction h<;>simp_all
theorem R2.app {r:X→Y→Prop}{a a':List X}{b b':List Y}(h:R2 r a b)(h':R2 r a' b'):R2 r (a++a') (b++b'):=by
 induction h with
 |nil=>exact h'
 |cons h _ ih=>exact .cons h ih
theorem R2.split {r:X→Y→Prop}: ∀{b b':List Y} {a:List X},R2 r a (b++b')→ ∃a1 a2,a=a1++a2∧R2 r a1 b∧R2 r a2 b'
 |[],b',a,h=>⟨[],a,rfl,.nil,h⟩
 |y::b,b',_,h=>by
  cases h with
  |cons h t=>
   obtain⟨a1,a2,rfl,h1,h2⟩:=R2.split t;exact⟨_::a1,a2,rfl,.cons h h1,h2⟩
theorem R2.get [Inhabited X][Inhabited Y]{r:X→Y→Prop}{a:List X}{b:List Y}(h:R2 r a b): ∀{i:Nat},i<b.length→r (a.getD i zzd) (b.getD i zzd):=by
 induction h with
 |nil=>intro i hi;simp at hi
 |cons h _ ih=>
  intro i hi;cases i with
  |zero=>exact h
  |succ i=>exact ih (by simpa using hi)
theorem R2.one {r:X→Y→Prop}{x:X}{y:Y}(h:r x y):R2 r [x] [y]:= .cons h .nil
theorem z9e {S R Q:Type}{G:Option Q→Prop}{B:Nat→S→Option (Ctl S R)}{n:Nat}{s:S}{kn:S→Option Q}{kr:R→Option Q}(I:Nat→S→Prop)(D:S→Prop)(J:R→Prop)(h0:I 0 s)(hD: ∀s,I n s→D s)(hk: ∀s,D s→G (kn s))(hr: ∀r,J r→G (kr r))
 (hs: ∀i s,i<n→I i s→(∃s',B i s=some (.next s')∧I (i+1) s')∨(∃s',B i s=some (.brk s')∧D s')∨ ∃r,B i s=some (.ret r)∧J r):G (outK (z0i B n 0 s) kn kr):=by
 rcases zn8 I D J h0 hs hD with⟨s',h1,h2⟩|⟨r,h1,h2⟩
 ·rw[h1];exact hk s' h2
 ·rw[h1];exact hr r h2
theorem zbr [Inhabited X](a:List X)(x:X):(a++[x]).getD a.length zzd=x:=by simp[List.getD_eq_getElem?_getD]
theorem zr0 [Inhabited X](a b:List X)(x:X):(a++x::b).getD a.length zzd=x:=by simp[List.getD_eq_getElem?_getD]
theorem zjt (a b:List X)(x y:X):(a++x::b).set a.length y=a++y::b:=by simp[List.set_append]
def PR (num:α→Int)(l:List α):List (α×Int):=l.map fun x=>(x,num x)
theorem zdc (num:α→Int)(l l':List α):PR num (l++l')=PR num l++PR num l':=by simp[PR]
theorem z94 {num:α→Int}{l:List α}{p:α×Int}:p∈PR num l↔ ∃x∈l,(x,num x)=p:=by simp[PR]
theorem zhz {c:α→α→Int}{y:α}: ∀{l:List (α×Int)},(∀p∈l,in64 p.2)→ -9223372036854775808*(l.length:Int)≤sm c l y∧sm c l y≤9223372036854775808*(l.length:Int)
 |[],_=>by simp[sm]
 |p::l,h=>by
  have h1:=zhz (c:=c) (y:=y) (l:=l) fun q hq=>h q (zzb _ hq);have h2:=h p (zz7 ..)
  unfold in64 at h2;simp only[sm,List.length_cons];split<;>omega
theorem zi2 {c:α→α→Int}{num:α→Int}{put:α→Int→α}{l l':List (α×Int)}{R:List α}{e:Int}(hp:l.Perm l')(h:Tot c num put l R e):Tot c num put l' R e:=by
 have hs: ∀y,sm c l y=sm c l' y:=zo3 hp;rcases h with⟨h1,h2,h3⟩|⟨h1,h2,h3⟩
 ·refine .inl ⟨h1,⟨h2.strict,fun r hr=>?_,fun r hr=>?_,fun y hy hn=>?_⟩,fun y=>?_⟩
  ·rw[←hs];exact h2.sum r hr
  ·obtain⟨y,g1,g2⟩:=h2.mem r hr;exact⟨y,hp.mem_iff.1 g1,g2⟩
  ·exact h2.all y (hp.mem_iff.2 hy) (by rw[hs];exact hn)
  ·rw[←hs];exact h3 y
 ·refine .inr ⟨h1,h2,fun h=>h3 fun y=>?_⟩;rw[hs];exact h y
theorem zke (put:α→Int→α)(S S':List (α×Int)):left0 put (S++S')=left0 put S++left0 put S':=by simp[left0]
theorem zkf (put:α→Int→α)(p:α×Int):left0 put [p]=if p.2=0 then[]else[put p.1 p.2]:=by
 unfold left0;by_cases h:p.2=0<;>simp[h]
theorem zdl (put:α→Int→α)(S:List (α×Int)):(left0 put S).length≤S.length:=by
 unfold left0;rw[List.length_map];exact List.length_filter_le _ _
def fit64 (s:Int):Int×Int:=if -9223372036854775808≤s∧s<9223372036854775808 then(s,0)else(0,10)
theorem zev {s:Int}(h:in64 s):fit64 s=(s,0):=if_pos h
theorem zdi {s:Int}(h: ¬in64 s):fit64 s=(0,10):=if_neg h
def repT (t:Tally)(s:Int):Prop:=inU64 t.high∧inU64 t.low∧(t.high*18446744073709551616+t.low-s) % 340282366920938463463374607431768211456=0
end
end Go.Av
namespace Go.Av
open Go
def cU (a b:Update):Int:=thenC (cmpL cmpV a.key b.key) (thenC (cmpL cmpV a.row b.row) (cmpT a.time b.time))
theorem cU_is:IsCmp cU:=(zcc.list.on fun u:Update=>u.key).lex ((zcc.list.on fun u:Update=>u.row).lex (znn.on fun u:Update=>u.time))
theorem zan (a b:Update):z3k a b=some (cU a b):=by
 unfold z3k cU;simp only[zay,z3c,ziv,zz0]
def z4i (x:Update)(n:Int):Update:=⟨x.key,x.row,x.time,n⟩
theorem zor {x:Update}{n:Int}(h:x.row.length≤8):z7y x n=some (z4i x n):=rfl
def zbw (x:Line_Update)(p:Update×Int):Prop:=x.of=p.1∧repT x.tally p.2
theorem zoa {a:List Line_Update}{x:Line_Update}{p s:Int}(hp:in64 p)(h:repT x.tally s):
 ∃t:Tally,z4g a.length p (a++[x])=some (a++[(⟨t,x.of⟩:Line_Update)])∧repT t (s+p):=by
 obtain⟨hh,hl,hs⟩:=h;unfold in64 inU64 repT at*;unfold z4g z7r;simp only[zbr,zjt,zz9,zzj,List.length_singleton,shr63 hp,z9j];rw[z0a (by omega),z0a (by omega)];simp only[zz0];rw[z0a (by omega),z0a (by omega),z0a (by split<;>omega)];simp only[zz0];rw[z0a (by omega)];refine⟨_,rfl,?_,?_,?_⟩
 ·simp only[inU64];omega
 ·simp only[inU64];omega
 ·simp only;split<;>omega
theorem zol {x:Line_Update}{s:Int}(h:repT x.tally s)(hb: -85070591730234615865843651857942052864≤s∧s≤85070591730234615865843651857942052864):z4h x=some ((fit64 s).1,(fit64 s).2,x):=by
 obtain⟨hh,hl,hs⟩:=h;unfold inU64 at*;have hw:in64 (zzi.wrap x.tally.low):=by unfold in64;rw[za6];split<;>omega
 unfold z4h;rw[shr63 hw,z9j];by_cases h: -9223372036854775808≤s∧s<9223372036854775808
 ·rw[zev h];have e1:zzi.wrap x.tally.low=s:=by rw[za6];split<;>omega
  rw[e1];have e2:x.tally.high=(if s<0 then(-1:Int)else 0) % 18446744073709551616:=by split<;>omega
  rw[decide_eq_true e2];rfl
 ·rw[zdi h];have e2: ¬x.tally.high=(if zzi.wrap x.tally.low<0 then(-1:Int)else 0) % 18446744073709551616:=by
   rw[za6];split<;>split<;>omega
  rw[decide_eq_false e2];rfl
theorem zq7:z2v=rotG (α:=Update):=rfl
theorem zpw:z1w=insG (α:=Update) z3k:=rfl
theorem zkp: ∀(fuel:Nat) (a b d:Int) (l:List Update),z0t fuel a b d l=symG (α:=Update) z3k fuel a b d l
 |0,_,_,_,_=>rfl
 |fuel+1,a,b,d,l=>by
  unfold z0t symG;simp only[zq7,zkp fuel]
theorem zow (fuel:Nat)(n:Int)(l:List Update):z2g fuel n l=stabG (α:=Update) z3k fuel n l:=by
 unfold z2g stabG;simp only[zpw,zkp]
theorem zng {fuel:Nat}{l:List Update}(hl: ∀x∈l,in64 x.diff)(hr: ∀x∈l,x.row.length≤8)(hn:l.length≤4000000)(hf:20000000≤fuel):
 ∃R e l',z0x fuel l=some (R,e,l')∧Tot cU (fun x=>x.diff) z4i (PR (fun x=>x.diff) l) R e∧R.length≤l.length:=by
 obtain⟨r1,h1,h2,h3⟩:=zj9 (c:=cU) zan cU_is (fuel:=fuel) (l:=l) (by omega) (by omega);have hlen:r1.length=l.length:=h2.length_eq
 unfold z0x z12;rw[zow,h1];simp only[zz0];rw[z0a hlen]
 suffices hS: ∃R e,(_:Option ((List Update)×Int×(List Update)))=some (R,e,r1)∧Tot cU (fun x=>x.diff) z4i (PR (fun x=>x.diff) r1) R e∧R.length≤r1.length by
  obtain⟨R,e,g1,g2,g3⟩:=hS;refine⟨R,e,r1,?_,zi2 ?_ g2,by omega⟩
  ·exact g1
  ·exact h2.map _
 have hl1: ∀x∈r1,in64 x.diff:=fun x hx=>hl x (h2.mem_iff.1 hx);have hr1: ∀x∈r1,x.row.length≤8:=fun x hx=>hr x (h2.mem_iff.1 hx)
 refine zbv (G:=fun q=> ∃R e,q=some (R,e,r1)∧Tot cU (fun x=>x.diff) z4i (PR (fun x=>x.diff) r1) R e∧R.length≤r1.length) (P:=fun a=> ∃S,R2 zbw a S∧SS cU (PR (fun x=>x.diff) r1) S∧S.length≤r1.length) ?_ ?_
 ·have:=fun B h=>zf8 (R:=Empty) (B:=B) (n:=r1.length) (fun i (a:List Line_Update)=> ∃S,R2 zbw a S∧SS cU (PR (fun x=>x.diff) (r1.take i)) S∧S.length≤i) (s:=([]:List Line_Update)) ⟨[],.nil,zqd,zzc _⟩ h;simp only[List.take_length]at this;refine this _ ?_;rintro i a hi ⟨S,k1,k2,k3⟩;have hx:=hl1 _ (z3e hi)
  rw[zz4,z0a hi];have htk:PR (fun x:Update=>x.diff) (r1.take (i+1))=PR (fun x=>x.diff) (r1.take i)++[(r1.getD i zzd,(r1.getD i zzd).diff)]:=by
   rw[z30 hi,zdc];rfl
  have hle: ∀p∈S,cU p.1 (r1.getD i zzd)≤0:=fun p hp=>by
   obtain⟨y,g1,g2⟩:=k2.mem p hp;obtain⟨z,g3,g4⟩:=z94.1 g1;obtain⟨j,hj,g5⟩:=List.mem_iff_getElem.1 g3;rw[List.length_take]at hj;have:=h3 j i (by omega) hi
   rw[←g2,←g4];simp only;rw[←g5,List.getElem_take];rw[List.getD_eq_getElem?_getD,List.getElem?_eq_getElem (by omega:j<r1.length)]at this;exact this
  generalize hxe:r1.getD i zzd=x at*;rw[htk];clear htk
  let G:Option (Ctl (List Line_Update) Empty)→Prop:=fun q=> ∃s',q=some (.next s')∧ ∃S,R2 zbw s' S∧SS cU (PR (fun x=>x.diff) (r1.take i)++[(x,x.diff)]) S∧S.length≤i+1
  refine jn_P (G:=G) (P:=fun b=> ∃(b':List Line_Update) (y:Line_Update) (S':List (Update×Int)) (s:Int),b=b'++[y]∧b.length≤i+1∧R2 zbw b' S'∧repT y.tally s∧SS cU (PR (fun x=>x.diff) (r1.take i)++[(x,x.diff)]) (S'++[(y.of,s+x.diff)])) ?_ ?_
  ·rintro _ ⟨b',y,S',s,rfl,q0,q1,q2,q3⟩;simp only[zzj,List.length_singleton]at q0 ⊢;rw[wsub1 (by omega) (by omega),z0a (by omega)];obtain⟨t,g1,g2⟩:=zoa (a:=b') (x:=y) hx q2;unfold z7x;simp only[zz0,Nat.add_sub_cancel,zz4,zz5];rw[g1];simp only[zz0];rw[z0a (by simp)];refine⟨_,rfl,_,R2.app q1 (R2.one (show zbw ⟨t,y.of⟩ (y.of,s+x.diff)from⟨rfl,g2⟩)),q3,?_⟩;have:=q1.len
   simp only[zzj,List.length_singleton];omega
  ·simp only[jn_eq,z0d];have hlen2:=k1.len
   rcases List.eq_nil_or_concat S with rfl|⟨A,p,rfl⟩
   ·have ha:a=[]:=zzk hlen2;subst ha;rw[if_pos (by simp),z3h,z0a (by simp)];refine⟨_,⟨[],_,[],0,rfl,by simp,.nil,by simp[repT,inU64],?_⟩,rfl⟩;have:=zj8 (A:=[]) (B:=[]) (x:=x) (n:=x.diff) cU_is k2 (fun p hp=>by cases hp) (fun p hp=>by cases hp)
    simpa using this
   ·simp only[List.concat_eq_append]at*;obtain⟨a1,a2,rfl,u1,u2⟩:=R2.split k1;cases u2 with
    | @cons y _ _ _ v t=>
     cases t;obtain⟨v1,v2⟩:=v;have e1:(a1++[y]).length=a1.length+1:=by simp
     have e2:=u1.len;simp only[zzj,List.length_singleton]at k3;rw[if_neg (by omega),e1,wsub1 (by omega) (by omega),z0a (by omega)];simp only[Nat.add_sub_cancel,zz4,zz5,zbr];rw[z0a (by omega),zan,v1];simp only[zz0];by_cases g:cU p.1 x=0
     ·rw[decide_eq_true g];simp only[zzh,z0n];refine⟨_,⟨a1,y,A,p.2,rfl,by omega,u1,v2,?_⟩,?_⟩
      ·rw[v1];exact zqc cU_is k2 g
      ·rw[e1,wsub1 (by omega) (by omega)];simp only[Nat.add_sub_cancel,zz5]
     ·rw[decide_eq_false g];simp only[Bool.not_false,z3h];rw[z0a (by simp;omega)];refine⟨_,⟨a1++[y],_,A++[p],0,rfl,by simp;omega,k1,by simp[repT,inU64],?_⟩,rfl⟩;have:=zj8 (A:=A++[p]) (B:=[]) (x:=x) (n:=x.diff) cU_is (by simpa using k2) (fun q hq=>by
       have h4:=hle p (by simp);have h5:cU q.1 p.1≤0:=by
        rcases zz3.1 hq with hq|hq
        ·have h6:=k2.strict;rw[List.pairwise_append]at h6;have:=h6.2.2 q hq p (by simp)
         omega
        ·rw[zzf.1 hq,cU_is.refl];omega
       have h7:=cU_is.tr _ _ _ h5 h4;by_cases h8:cU q.1 x=0
       ·exfalso;have h9:cU x p.1≤0:=by rw[←cU_is.eqL p.1 h8];exact h5
        have:=cU_is.anti p.1 x;omega
       ·omega) (fun q hq=>by cases hq)
      simpa using this
 ·rintro a ⟨S,k1,k2,k3⟩;have hb: ∀i,i<S.length→ -85070591730234615865843651857942052864≤(S.getD i zzd).2∧(S.getD i zzd).2≤85070591730234615865843651857942052864:=fun i hi=>by
   rw[k2.sum _ (z3e hi)];have:=zhz (c:=cU) (y:=(S.getD i zzd).1) (l:=PR (fun x=>x.diff) r1) (fun p hp=>by
    obtain⟨z,g1,g2⟩:=z94.1 hp;rw[←g2];exact hl1 z g1)
   have e:(PR (fun x:Update=>x.diff) r1).length=r1.length:=by simp[PR]
   rw[e]at this;omega
  have hrow: ∀i,i<S.length→(S.getD i zzd).1.row.length≤8:=fun i hi=>by
   obtain⟨y,g1,g2⟩:=k2.mem _ (z3e hi);obtain⟨z,g3,g4⟩:=z94.1 g1;rw[←g2,←g4];exact hr1 z g3
  have hlen2:=k1.len;rw[hlen2];refine z9e (G:=fun q=> ∃R e,q=some (R,e,r1)∧Tot cU (fun x=>x.diff) z4i (PR (fun x=>x.diff) r1) R e∧R.length≤r1.length) (fun i (b:List Update)=>(∀j,j<i→in64 (S.getD j zzd).2)∧b=left0 z4i (S.take i)) (fun b=>(∀j,j<S.length→in64 (S.getD j zzd).2)∧b=left0 z4i S) (fun r=>r=([],10,r1)∧ ∃j,j<S.length∧ ¬in64 (S.getD j zzd).2) ⟨fun j hj=>by omega,rfl⟩ (fun b hb=>by
   rw[List.take_length]at hb;exact hb) ?_ ?_ ?_
  rotate_left 2
  ·rintro i b hi ⟨m1,m2⟩;obtain⟨v1,v2⟩:=k1.get hi;rw[zz4,z0a hi,zol v2 (hb i hi)];simp only[zz0,z5e,z0d];by_cases g:in64 (S.getD i zzd).2
   ·left;rw[zev g,v1];have hput:=zor (x:=(S.getD i zzd).1) (n:=(S.getD i zzd).2) (hrow i hi)
    have hlb:b.length≤i:=by
     rw[m2];have:=zdl z4i (S.take i);rw[List.length_take]at this;omega
    rw[z30 hi,zke,zkf,←m2];have m3: ∀j,j<i+1→in64 (S.getD j zzd).2:=fun j hj=>by
     by_cases e:j=i
     ·subst e;exact g
     ·exact m1 j (by omega)
    by_cases g2:(S.getD i zzd).2=0
    ·exact⟨b,by simp only[if_true,if_pos g2],m3,by rw[if_pos g2,List.append_nil]⟩
    ·refine⟨b++[z4i (S.getD i zzd).1 (S.getD i zzd).2],?_,m3,by rw[if_neg g2]⟩;simp only[if_true,if_neg g2,hput,zz0];rw[z0a (by simp;omega)]
   ·right;right;rw[zdi g];exact⟨_,rfl,rfl,i,hi,g⟩
  ·rintro b ⟨g2,g3⟩;refine⟨_,_,rfl,.inl ⟨rfl,?_,?_⟩,by rw[g3];have:=zdl z4i S;omega⟩
   ·rw[g3];exact zq6 (num:=fun x=>x.diff) (put:=z4i) cU_is (fun x n=>rfl) (fun x n y=>rfl) k2
   ·rw[zh4 cU_is k2];intro p hp;obtain⟨j,hj,e⟩:=List.mem_iff_getElem.1 hp;have:=g2 j hj
    rw[List.getD_eq_getElem?_getD,List.getElem?_eq_getElem hj]at this;rw[←e];exact this
  ·rintro r ⟨g2,j,g3,g4⟩;rw[g2];refine⟨_,_,rfl,.inr ⟨rfl,rfl,?_⟩,Nat.zero_le _⟩;rw[zh4 cU_is k2];intro h;exact g4 (h _ (z3e g3))
end Go.Av
namespace Go.Av
open Go
def cK (a b:Count):Int:=cmpL cmpV a.row b.row
theorem cK_is:IsCmp cK:=zcc.list.on fun u:Count=>u.row
theorem zhi (a b:Count):z3x a b=some (cK a b):=by
 unfold z3x cK;simp only[zay,zz0]
def z6l (x:Count)(n:Int):Count:=⟨x.row,n⟩
theorem zq3 {x:Count}{n:Int}(h:x.row.length≤8):z97 x n=some (z6l x n):=by
 unfold z97 z0q;rw[z0a (by omega)];rfl
def zd6 (x:Line_Count)(p:Count×Int):Prop:=x.of=p.1∧repT x.tally p.2
theorem zp6 {a:List Line_Count}{x:Line_Count}{p s:Int}(hp:in64 p)(h:repT x.tally s):
 ∃t:Tally,z47 a.length p (a++[x])=some (a++[(⟨t,x.of⟩:Line_Count)])∧repT t (s+p):=by
 obtain⟨hh,hl,hs⟩:=h;unfold in64 inU64 repT at*;unfold z47 z7r;simp only[zbr,zjt,zz9,zzj,List.length_singleton,shr63 hp,z9j];rw[z0a (by omega),z0a (by omega)];simp only[zz0];rw[z0a (by omega),z0a (by omega),z0a (by split<;>omega)];simp only[zz0];rw[z0a (by omega)];refine⟨_,rfl,?_,?_,?_⟩
 ·simp only[inU64];omega
 ·simp only[inU64];omega
 ·simp only;split<;>omega
theorem zpq {x:Line_Count}{s:Int}(h:repT x.tally s)(hb: -85070591730234615865843651857942052864≤s∧s≤85070591730234615865843651857942052864):z48 x=some ((fit64 s).1,(fit64 s).2,x):=by
 obtain⟨hh,hl,hs⟩:=h;unfold inU64 at*;have hw:in64 (zzi.wrap x.tally.low):=by unfold in64;rw[za6];split<;>omega
 unfold z48;rw[shr63 hw,z9j];by_cases h: -9223372036854775808≤s∧s<9223372036854775808
 ·rw[zev h];have e1:zzi.wrap x.tally.low=s:=by rw[za6];split<;>omega
  rw[e1];have e2:x.tally.high=(if s<0 then(-1:Int)else 0) % 18446744073709551616:=by split<;>omega
  rw[decide_eq_true e2];rfl
 ·rw[zdi h];have e2: ¬x.tally.high=(if zzi.wrap x.tally.low<0 then(-1:Int)else 0) % 18446744073709551616:=by
   rw[za6];split<;>split<;>omega
  rw[decide_eq_false e2];rfl
theorem zrh:z2z=rotG (α:=Count):=rfl
theorem zr3:z1z=insG (α:=Count) z3x:=rfl
theorem zmn: ∀(fuel:Nat) (a b d:Int) (l:List Count),z0v fuel a b d l=symG (α:=Count) z3x fuel a b d l
 |0,_,_,_,_=>rfl
 |fuel+1,a,b,d,l=>by
  unfold z0v symG;simp only[zrh,zmn fuel]
theorem zqe (fuel:Nat)(n:Int)(l:List Count):z2j fuel n l=stabG (α:=Count) z3x fuel n l:=by
 unfold z2j stabG;simp only[zr3,zmn]
theorem zp1 {fuel:Nat}{l:List Count}(hl: ∀x∈l,in64 x.n)(hr: ∀x∈l,x.row.length≤8)(hn:l.length≤4000000)(hf:20000000≤fuel):
 ∃R e l',z1c fuel l=some (R,e,l')∧Tot cK (fun x=>x.n) z6l (PR (fun x=>x.n) l) R e∧R.length≤l.length:=by
 obtain⟨r1,h1,h2,h3⟩:=zj9 (c:=cK) zhi cK_is (fuel:=fuel) (l:=l) (by omega) (by omega);have hlen:r1.length=l.length:=h2.length_eq
 unfold z1c z18;rw[zqe,h1];simp only[zz0];rw[z0a hlen]
 suffices hS: ∃R e,(_:Option ((List Count)×Int×(List Count)))=some (R,e,r1)∧Tot cK (fun x=>x.n) z6l (PR (fun x=>x.n) r1) R e∧R.length≤r1.length by
  obtain⟨R,e,g1,g2,g3⟩:=hS;refine⟨R,e,r1,?_,zi2 ?_ g2,by omega⟩
  ·exact g1
  ·exact h2.map _
 have hl1: ∀x∈r1,in64 x.n:=fun x hx=>hl x (h2.mem_iff.1 hx);have hr1: ∀x∈r1,x.row.length≤8:=fun x hx=>hr x (h2.mem_iff.1 hx)
 refine zbv (G:=fun q=> ∃R e,q=some (R,e,r1)∧Tot cK (fun x=>x.n) z6l (PR (fun x=>x.n) r1) R e∧R.length≤r1.length) (P:=fun a=> ∃S,R2 zd6 a S∧SS cK (PR (fun x=>x.n) r1) S∧S.length≤r1.length) ?_ ?_
 ·have:=fun B h=>zf8 (R:=Empty) (B:=B) (n:=r1.length) (fun i (a:List Line_Count)=> ∃S,R2 zd6 a S∧SS cK (PR (fun x=>x.n) (r1.take i)) S∧S.length≤i) (s:=([]:List Line_Count)) ⟨[],.nil,zqd,zzc _⟩ h;simp only[List.take_length]at this;refine this _ ?_;rintro i a hi ⟨S,k1,k2,k3⟩;have hx:=hl1 _ (z3e hi)
  rw[zz4,z0a hi];have htk:PR (fun x:Count=>x.n) (r1.take (i+1))=PR (fun x=>x.n) (r1.take i)++[(r1.getD i zzd,(r1.getD i zzd).n)]:=by
   rw[z30 hi,zdc];rfl
  have hle: ∀p∈S,cK p.1 (r1.getD i zzd)≤0:=fun p hp=>by
   obtain⟨y,g1,g2⟩:=k2.mem p hp;obtain⟨z,g3,g4⟩:=z94.1 g1;obtain⟨j,hj,g5⟩:=List.mem_iff_getElem.1 g3;rw[List.length_take]at hj;have:=h3 j i (by omega) hi
   rw[←g2,←g4];simp only;rw[←g5,List.getElem_take];rw[List.getD_eq_getElem?_getD,List.getElem?_eq_getElem (by omega:j<r1.length)]at this;exact this
  generalize hxe:r1.getD i zzd=x at*;rw[htk];clear htk
  let G:Option (Ctl (List Line_Count) Empty)→Prop:=fun q=> ∃s',q=some (.next s')∧ ∃S,R2 zd6 s' S∧SS cK (PR (fun x=>x.n) (r1.take i)++[(x,x.n)]) S∧S.length≤i+1
  refine jn_P (G:=G) (P:=fun b=> ∃(b':List Line_Count) (y:Line_Count) (S':List (Count×Int)) (s:Int),b=b'++[y]∧b.length≤i+1∧R2 zd6 b' S'∧repT y.tally s∧SS cK (PR (fun x=>x.n) (r1.take i)++[(x,x.n)]) (S'++[(y.of,s+x.n)])) ?_ ?_
  ·rintro _ ⟨b',y,S',s,rfl,q0,q1,q2,q3⟩;simp only[zzj,List.length_singleton]at q0 ⊢;rw[wsub1 (by omega) (by omega),z0a (by omega)];obtain⟨t,g1,g2⟩:=zp6 (a:=b') (x:=y) hx q2;unfold zao;simp only[zz0,Nat.add_sub_cancel,zz4,zz5];rw[g1];simp only[zz0];rw[z0a (by simp)];refine⟨_,rfl,_,R2.app q1 (R2.one (show zd6 ⟨t,y.of⟩ (y.of,s+x.n)from⟨rfl,g2⟩)),q3,?_⟩;have:=q1.len
   simp only[zzj,List.length_singleton];omega
  ·simp only[jn_eq,z0d];have hlen2:=k1.len
   rcases List.eq_nil_or_concat S with rfl|⟨A,p,rfl⟩
   ·have ha:a=[]:=zzk hlen2;subst ha;rw[if_pos (by simp),z3h,z0a (by simp)];refine⟨_,⟨[],_,[],0,rfl,by simp,.nil,by simp[repT,inU64],?_⟩,rfl⟩;have:=zj8 (A:=[]) (B:=[]) (x:=x) (n:=x.n) cK_is k2 (fun p hp=>by cases hp) (fun p hp=>by cases hp)
    simpa using this
   ·simp only[List.concat_eq_append]at*;obtain⟨a1,a2,rfl,u1,u2⟩:=R2.split k1;cases u2 with
    | @cons y _ _ _ v t=>
     cases t;obtain⟨v1,v2⟩:=v;have e1:(a1++[y]).length=a1.length+1:=by simp
     have e2:=u1.len;simp only[zzj,List.length_singleton]at k3;rw[if_neg (by omega),e1,wsub1 (by omega) (by omega),z0a (by omega)];simp only[Nat.add_sub_cancel,zz4,zz5,zbr];rw[z0a (by omega),zhi,v1];simp only[zz0];by_cases g:cK p.1 x=0
     ·rw[decide_eq_true g];simp only[zzh,z0n];refine⟨_,⟨a1,y,A,p.2,rfl,by omega,u1,v2,?_⟩,?_⟩
      ·rw[v1];exact zqc cK_is k2 g
      ·rw[e1,wsub1 (by omega) (by omega)];simp only[Nat.add_sub_cancel,zz5]
     ·rw[decide_eq_false g];simp only[Bool.not_false,z3h];rw[z0a (by simp;omega)];refine⟨_,⟨a1++[y],_,A++[p],0,rfl,by simp;omega,k1,by simp[repT,inU64],?_⟩,rfl⟩;have:=zj8 (A:=A++[p]) (B:=[]) (x:=x) (n:=x.n) cK_is (by simpa using k2) (fun q hq=>by
       have h4:=hle p (by simp);have h5:cK q.1 p.1≤0:=by
        rcases zz3.1 hq with hq|hq
        ·have h6:=k2.strict;rw[List.pairwise_append]at h6;have:=h6.2.2 q hq p (by simp)
         omega
        ·rw[zzf.1 hq,cK_is.refl];omega
       have h7:=cK_is.tr _ _ _ h5 h4;by_cases h8:cK q.1 x=0
       ·exfalso;have h9:cK x p.1≤0:=by rw[←cK_is.eqL p.1 h8];exact h5
        have:=cK_is.anti p.1 x;omega
       ·omega) (fun q hq=>by cases hq)
      simpa using this
 ·rintro a ⟨S,k1,k2,k3⟩;have hb: ∀i,i<S.length→ -85070591730234615865843651857942052864≤(S.getD i zzd).2∧(S.getD i zzd).2≤85070591730234615865843651857942052864:=fun i hi=>by
   rw[k2.sum _ (z3e hi)];have:=zhz (c:=cK) (y:=(S.getD i zzd).1) (l:=PR (fun x=>x.n) r1) (fun p hp=>by
    obtain⟨z,g1,g2⟩:=z94.1 hp;rw[←g2];exact hl1 z g1)
   have e:(PR (fun x:Count=>x.n) r1).length=r1.length:=by simp[PR]
   rw[e]at this;omega
  have hrow: ∀i,i<S.length→(S.getD i zzd).1.row.length≤8:=fun i hi=>by
   obtain⟨y,g1,g2⟩:=k2.mem _ (z3e hi);obtain⟨z,g3,g4⟩:=z94.1 g1;rw[←g2,←g4];exact hr1 z g3
  have hlen2:=k1.len;rw[hlen2];refine z9e (G:=fun q=> ∃R e,q=some (R,e,r1)∧Tot cK (fun x=>x.n) z6l (PR (fun x=>x.n) r1) R e∧R.length≤r1.length) (fun i (b:List Count)=>(∀j,j<i→in64 (S.getD j zzd).2)∧b=left0 z6l (S.take i)) (fun b=>(∀j,j<S.length→in64 (S.getD j zzd).2)∧b=left0 z6l S) (fun r=>r=([],10,r1)∧ ∃j,j<S.length∧ ¬in64 (S.getD j zzd).2) ⟨fun j hj=>by omega,rfl⟩ (fun b hb=>by
   rw[List.take_length]at hb;exact hb) ?_ ?_ ?_
  rotate_left 2
  ·rintro i b hi ⟨m1,m2⟩;obtain⟨v1,v2⟩:=k1.get hi;rw[zz4,z0a hi,zpq v2 (hb i hi)];simp only[zz0,z5e,z0d];by_cases g:in64 (S.getD i zzd).2
   ·left;rw[zev g,v1];have hput:=zq3 (x:=(S.getD i zzd).1) (n:=(S.getD i zzd).2) (hrow i hi)
    have hlb:b.length≤i:=by
     rw[m2];have:=zdl z6l (S.take i);rw[List.length_take]at this;omega
    rw[z30 hi,zke,zkf,←m2];have m3: ∀j,j<i+1→in64 (S.getD j zzd).2:=fun j hj=>by
     by_cases e:j=i
     ·subst e;exact g
     ·exact m1 j (by omega)
    by_cases g2:(S.getD i zzd).2=0
    ·exact⟨b,by simp only[if_true,if_pos g2],m3,by rw[if_pos g2,List.append_nil]⟩
    ·refine⟨b++[z6l (S.getD i zzd).1 (S.getD i zzd).2],?_,m3,by rw[if_neg g2]⟩;simp only[if_true,if_neg g2,hput,zz0];rw[z0a (by simp;omega)]
   ·right;right;rw[zdi g];exact⟨_,rfl,rfl,i,hi,g⟩
  ·rintro b ⟨g2,g3⟩;refine⟨_,_,rfl,.inl ⟨rfl,?_,?_⟩,by rw[g3];have:=zdl z6l S;omega⟩
   ·rw[g3];exact zq6 (num:=fun x=>x.n) (put:=z6l) cK_is (fun x n=>rfl) (fun x n y=>rfl) k2
   ·rw[zh4 cK_is k2];intro p hp;obtain⟨j,hj,e⟩:=List.mem_iff_getElem.1 hp;have:=g2 j hj
    rw[List.getD_eq_getElem?_getD,List.getElem?_eq_getElem hj]at this;rw[←e];exact this
  ·rintro r ⟨g2,j,g3,g4⟩;rw[g2];refine⟨_,_,rfl,.inr ⟨rfl,rfl,?_⟩,Nat.zero_le _⟩;rw[zh4 cK_is k2];intro h;exact g4 (h _ (z3e g3))
end Go.Av
namespace Go.Av
open Go
theorem zsr (v:Int):thenC 0 v=v:=rfl
theorem zh6 {u v:Int}(h:u≠0):thenC u v=u:=if_neg h
theorem zf7 {X:Type}[Inhabited X]{R:Type}{B:Nat→Unit→Option (Ctl Unit R)}{l:List X}(e:X→Int)(f:Int→R)(hB: ∀i,i<l.length→B i ()=if e (l.getD i zzd)=0 then some (.next ())else some (.ret (f (e (l.getD i zzd))))):
 z0i B l.length 0 ()=if l.foldr (fun x v=>thenC (e x) v) 0=0 then some (.done ())else some (.ret (f (l.foldr (fun x v=>thenC (e x) v) 0))):=by
 have key: ∀k i,i+k=l.length→z0i B k i ()=if(l.drop i).foldr (fun x v=>thenC (e x) v) 0=0 then some (.done ())else some (.ret (f ((l.drop i).foldr (fun x v=>thenC (e x) v) 0))):=by
  intro k;induction k with
  |zero=>
   intro i hi;rw[List.drop_eq_nil_of_le (by omega)];rfl
  |succ k ih=>
   intro i hi;rw[z2k (by omega:i<l.length)];simp only[z0i,hB i (by omega),List.foldr_cons];by_cases h:e (l.getD i zzd)=0
   ·simp only[h,if_true,zsr];exact ih (i+1) (by omega)
   ·simp only[zh6 h,if_neg h]
 have:=key l.length 0 (by omega);rwa[List.drop_zero]at this
def errU (u:Update):Int:=thenC (if okRow u.key then 0 else 4) (thenC (if okRow u.row then 0 else 4) (if okT u.time then 0 else 1))
def chkL (l:List Update):Int:=l.foldr (fun u v=>thenC (errU u) v) 0
def okU (u:Update):Prop:=okRow u.key=true∧okRow u.row=true∧okT u.time=true
theorem zpm {u:Update}:errU u=0↔okU u:=by
 unfold errU okU thenC;by_cases h1:okRow u.key=true<;>by_cases h2:okRow u.row=true<;>by_cases h3:okT u.time=true<;>simp[h1,h2,h3]
theorem zax {u v:Int}:thenC u v=0↔u=0∧v=0:=by unfold thenC;split<;>omega
theorem z66 {l:List Update}:chkL l=0↔ ∀u∈l,okU u:=by
 induction l with
 |nil=>simp[chkL]
 |cons u l ih=>
  unfold chkL at*;rw[List.foldr_cons,zax,zpm,ih];simp
theorem zne (u v w:Int):thenC (thenC u v) w=thenC u (thenC v w):=by
 by_cases h1:u=0
 ·subst h1;rfl
 ·rw[zh6 h1,zh6 h1,zh6 h1]
theorem zmt (a b:List Update):chkL (a++b)=thenC (chkL a) (chkL b):=by
 induction a with
 |nil=>simp[chkL,thenC]
 |cons u a ih=>
  unfold chkL at*;rw[List.cons_append,List.foldr_cons,List.foldr_cons,ih,zne]
theorem z96 {fuel:Nat}(hf:5<fuel)(l:List Update):z62 fuel l=some (chkL l):=by
 unfold z62;rw[zf7 errU (fun x=>x)]
 ·show outK (if chkL l=0 then _ else some (.ret (chkL l))) _ _=_;split
  ·rename_i h;rw[h];rfl
  ·rfl
 ·intro i hi;rw[zfr,zfr,zbb hf];simp only[zz0,zta,z5e,z0d];rfl
theorem zs1 {a b:Count}(ha:okRow a.row=true)(hb:okRow b.row=true)(h:cK a b=0)(hd:a.n=b.n):a=b:=by
 unfold cK at h;rw[zg8 (zbu ha).1 (zbu hb).1]at h;rcases a with⟨r,d⟩;rcases b with⟨r',d'⟩;simp only at h hd;rw[h,hd]
theorem zli {p:List Value}(h:p.length≤8):z0q p=some p:=by
 unfold z0q;rw[z0a (by omega)]
theorem znw {u:Update}(h:okU u):u.key.length≤8∧u.row.length≤8:=⟨(zbu h.1).2,(zbu h.2.1).2⟩
theorem zmf {X:Type}[Inhabited X]{l:List X}{i:Nat}(h:i<l.length):l.set i (l.getD i zzd)=l:=by
 rw[List.getD_eq_getElem?_getD,List.getElem?_eq_getElem h];exact List.set_getElem_self h
theorem zix {l:List Update}(h: ∀u∈l,okU u)(hn:l.length≤4000000):z8a l=some l:=by
 unfold z8a;have hlim:(l.length:Int)≤(lim:Int):=by simp only[lim];omega
 rw[z0a ⟨by omega,by omega,hlim⟩,z0a (by simp)];have e:copyL (zz8 l.length ((⟨([]:List Value),([]:List Value),(⟨0,(0,0)⟩:Time),0⟩:Update):Update)) l=l:=by
  unfold copyL;rw[List.drop_eq_nil_of_le (by simp)];simp
 rw[e];rw[z5q l (fun i a=>a=l) (fun s hs=>hs)]
 ·rfl
 ·intro i a hi ha;subst ha;obtain⟨h1,h2⟩:=znw (h _ (z3e hi));refine⟨_,?_,rfl⟩;have e1:(⟨(a.getD i zzd).key,(a.getD i zzd).row,(a.getD i zzd).time,(a.getD i zzd).diff⟩:Update)=a.getD i zzd:=rfl
  simp only[zz4];rw[z0a (by omega),z0a hi,zli h1];simp only[zz0];rw[z0a (by omega),z0a hi,zli h2];simp only[zz0];rw[z0a (by omega),z0a hi,z0a (by omega),z0a (by simp;exact hi),e1,zmf hi,e1,zmf hi]
 ·rfl
end Go.Av
namespace Go.Av
open Go
section
variable {α:Type} [Inhabited α]
def growG (z:α)(p1:Int):Option (List α):=
 bf (decide (p1<0)) (none) (jn (fun(a1:List α)=>some a1) fun j2=>bf (decide (0<(zzi.wrap (p1-(zzi.wrap ((0:Int)-0)))))) (need ((0:Int)<(zzi.wrap (p1-(zzi.wrap ((0:Int)-0))))∧(zzi.wrap (p1-(zzi.wrap ((0:Int)-0))))≤(lim:Int))<|need ((0:Int)≤0∧(0:Int)≤0∧(0:Int)≤((zz8 ((zzi.wrap (p1-(zzi.wrap ((0:Int)-0)))).toNat) z).length:Int))<|j2 ((zz8 ((zzi.wrap (p1-(zzi.wrap ((0:Int)-0)))).toNat) z).take 0)) (j2 ([]:List α)))
def concG (z:α)(p0:List (List α)):Option (List α):=
 outK (z0i (S:=Int) (R:=Empty) (fun i1 (a2:Int)=>bf (decide ((zzi.wrap (a2+((p0.getD i1 zzd).length:Int)))<0)) (none) (some (.next (zzi.wrap (a2+((p0.getD i1 zzd).length:Int)))))) p0.length 0 0) (fun(a3:Int)=>(growG z a3).bind fun r4=>outK (z0i (S:=List α) (R:=Empty) (fun i5 (a6:List α)=>need (a6.length+(p0.getD i5 zzd).length≤274877906944)<|some (.next (a6++(p0.getD i5 zzd)))) p0.length 0 r4) (fun(a7:List α)=>some a7) (fun(x:Empty)=>x.elim)) (fun(x:Empty)=>x.elim)
theorem zkq {l:List (List α)}{i:Nat}(h:i<l.length):(l.take (i+1)).flatten=(l.take i).flatten++l.getD i zzd:=by
 rw[z30 h];simp
theorem zom {l:List (List α)}{i:Nat}(h:i<l.length):l.flatten=(l.take i).flatten++(l.getD i zzd++(l.drop (i+1)).flatten):=by
 have e:l=l.take i++l.getD i zzd::l.drop (i+1):=by rw[←z2k h,List.take_append_drop]
 have e2:=congrArg List.flatten e;rw[List.flatten_append,List.flatten_cons]at e2;exact e2
theorem znr {l:List (List α)}{i:Nat}(h:i<l.length):(l.take i).flatten.length+(l.getD i zzd).length≤l.flatten.length:=by
 have:=congrArg List.length (zom h);simp only[zzj]at this;omega
theorem zr2 {z:α}{n:Nat}(hn:n≤4000000):growG z (n:Int)=some []:=by
 unfold growG;have e:zzi.wrap ((n:Int)-zzi.wrap ((0:Int)-0))=(n:Int):=by
  rw[show zzi.wrap ((0:Int)-0)=0 by rfl,z2t (by omega) (by omega)];omega
 rw[e];simp only[z0d,jn_eq];rw[if_neg (by omega)];split
 ·rw[z0a (by simp only[lim];omega),z0a (by simp)];simp
 ·rfl
theorem zlk {z:α}{p0:List (List α)}(hn:p0.flatten.length≤4000000):concG z p0=some p0.flatten:=by
 unfold concG;have h1:=fun B h=>z5q (R:=Empty) (B:=B) (n:=p0.length) (s:=(0:Int)) ((p0.flatten.length:Nat):Int) (fun i a=>a=(((p0.take i).flatten.length:Nat):Int)) (fun s hs=>by rw[hs,List.take_length]) h (by rfl)
 rw[h1]
 ·simp only[z4q,zr2 hn,zz0];rw[z5q p0.flatten (fun i a=>a=(p0.take i).flatten) (fun s hs=>by rw[hs,List.take_length])]
  ·rfl
  ·intro i a hi ha;refine⟨_,?_,rfl⟩;have:=znr hi
   rw[z0a (by rw[ha];omega),ha,zkq hi]
  ·rfl
 ·intro i a hi ha;have:=znr hi
  refine⟨_,?_,rfl⟩;rw[ha,wadd (by omega),zkq hi,zzj];simp only[z0d];rw[if_neg (by omega)]
end
end Go.Av
namespace Go.Av
open Go
abbrev pU (l:List Update):List (Update×Int):=PR (fun x=>x.diff) l
abbrev pK (l:List Count):List (Count×Int):=PR (fun x=>x.n) l
abbrev TotU (l:List Update)(R:List Update)(e:Int):Prop:=Tot cU (fun x=>x.diff) z4i (pU l) R e
abbrev TotK (l:List Count)(R:List Count)(e:Int):Prop:=Tot cK (fun x=>x.n) z6l (pK l) R e
theorem zfc {l R:List Update}{e:Int}(h:TotU l R e)(ho: ∀u∈l,okU u): ∀r∈R,okU r:=fun r hr=>by
 rcases h with⟨_,h,_⟩|⟨_,rfl,_⟩
 ·obtain⟨y,h1,h2⟩:=h.mem r hr;obtain⟨z,h3,h4⟩:=z94.1 h1;rw[h2,←h4];exact ho z h3
 ·cases hr
theorem zi1 {l R:List Count}{e:Int}(h:TotK l R e)(ho: ∀u∈l,okRow u.row=true): ∀r∈R,okRow r.row=true:=fun r hr=>by
 rcases h with⟨_,h,_⟩|⟨_,rfl,_⟩
 ·obtain⟨y,h1,h2⟩:=h.mem r hr;obtain⟨z,h3,h4⟩:=z94.1 h1;rw[h2,←h4];exact ho z h3
 ·cases hr
def zp3 (l R:List Update)(e:Int):Prop:=(chkL l≠0∧R=[]∧e=chkL l)∨(chkL l=0∧TotU l R e)
theorem zin: ∀ls:List (List Update),ls.foldr (fun x v=>thenC (chkL x) v) 0=chkL ls.flatten
 |[]=>rfl
 |l::ls=>by rw[List.foldr_cons,List.flatten_cons,zmt,zin ls]
theorem zs4 {fuel:Nat}{ls:List (List Update)}(hf:20000000≤fuel)(hn:ls.flatten.length≤4000000)(hd: ∀u∈ls.flatten,in64 u.diff):
 ∃R e,z79 fuel ls=some (R,e)∧zp3 ls.flatten R e∧R.length≤ls.flatten.length:=by
 unfold z79;rw[zf7 chkL (fun w=>(([]:List Update),w)),zin]
 ·by_cases h:chkL ls.flatten=0
  ·rw[if_pos h];simp only[z4q];rw[show z15 ls=some ls.flatten from zlk hn];simp only[zz0];have ho:=z66.1 h
   obtain⟨R,e,l',h1,h2,h3⟩:=zng (fuel:=fuel) hd (fun u hu=>(znw (ho u hu)).2) hn hf;rw[h1];simp only[zz0];rw[zix (zfc h2 ho) (by omega)];exact⟨R,e,rfl,.inr ⟨h,h2⟩,h3⟩
  ·rw[if_neg h];exact⟨_,_,rfl,.inl ⟨h,rfl,rfl⟩,Nat.zero_le _⟩
 ·intro i hi;rw[z96 (by omega)];simp only[zz0,z5e,z0d]
end Go.Av
namespace Go.Av
open Go
theorem zqt {fuel:Nat}{l:List Count}(hf:20000000≤fuel)(hn:l.length≤4000000)(hd: ∀u∈l,in64 u.n)(ho: ∀u∈l,okRow u.row=true):
 ∃R e l',z98 fuel l=some (R,e,l')∧TotK l R e∧R.length≤l.length:=by
 unfold z98;obtain⟨R,e,l',h1,h2,h3⟩:=zp1 (fuel:=fuel) hd (fun u hu=>(zbu (ho u hu)).2) hn hf;rw[h1];exact⟨R,e,l',rfl,h2,h3⟩
def atL (l:List Update)(t:Time):List Count:=(l.filter fun u=>leT u.time t).map fun u=>⟨u.row,u.diff⟩
theorem znj (l l':List Update)(t:Time):atL (l++l') t=atL l t++atL l' t:=by simp[atL]
theorem znm (u:Update)(t:Time):atL [u] t=if leT u.time t=true then[⟨u.row,u.diff⟩]else[]:=by
 unfold atL;by_cases h:leT u.time t=true<;>simp[h]
theorem znk (l:List Update)(t:Time):(atL l t).length≤l.length:=by
 unfold atL;rw[List.length_map];exact List.length_filter_le _ _
theorem znl {l:List Update}{t:Time}{c:Count}(h:c∈atL l t): ∃u∈l,leT u.time t=true∧c=⟨u.row,u.diff⟩:=by
 unfold atL at h;obtain⟨u,h1,h2⟩:=zzp.1 h;obtain⟨h3,h4⟩:=List.mem_filter.1 h1;exact⟨u,h3,h4,h2.symm⟩
def errA (l:List Update)(t:Time):Int:=thenC (chkL l) (if okT t then 0 else 1)
def AtOk (l:List Update)(t:Time)(R:List Count)(e:Int):Prop:=(errA l t≠0∧R=[]∧e=errA l t)∨(errA l t=0∧TotK (atL l t) R e)
theorem zsz {l:List Update}{t:Time}(hn:l.length≤4000000){B:Nat→List Count→Option (Ctl (List Count) Empty)}(hB: ∀i a,i<l.length→B i a=bf (leT (l.getD i zzd).time t) (need (a.length+([(⟨(l.getD i zzd).row,(l.getD i zzd).diff⟩:Count)]:List Count).length≤274877906944)<|some (.next (a++([(⟨(l.getD i zzd).row,(l.getD i zzd).diff⟩:Count)]:List Count)))) (some (.next a))):
 z0i B l.length 0 []=some (.done (atL l t)):=by
 refine z5q (atL l t) (fun i a=>a=atL (l.take i) t) (fun s hs=>by rw[hs,List.take_length]) ?_ rfl;intro i a hi ha;rw[hB i a hi,z30 hi,znj,←ha,znm];have hl:a.length≤i:=by
  have:=znk (l.take i) t;rw[ha];rw[List.length_take]at this;omega
 by_cases h:leT (l.getD i zzd).time t=true
 ·rw[h,z3h,z0a (by simp;omega)];exact⟨_,rfl,rfl⟩
 ·have h':leT (l.getD i zzd).time t=false:=by simpa using h
  rw[h',z0n];exact⟨_,rfl,by simp⟩
theorem zpl {l:List Update}{t:Time}:errA l t=0↔(∀u∈l,okU u)∧okT t=true:=by
 unfold errA;rw[zax,z66];simp
theorem zi8 {l:List Update}{t:Time}(ho: ∀u∈l,okU u): ∀c∈atL l t,okRow c.row=true:=fun c hc=>by
 obtain⟨u,h1,_,h2⟩:=znl hc;rw[h2];exact(ho u h1).2.1
theorem zsy {l:List Update}{t:Time}(ho: ∀u∈l,in64 u.diff): ∀c∈atL l t,in64 c.n:=fun c hc=>by
 obtain⟨u,h1,_,h2⟩:=znl hc;rw[h2];exact ho u h1
theorem at_ok {fuel:Nat}{l:List Update}{t:Time}(hf:20000000≤fuel)(hn:l.length≤4000000)(hd: ∀u∈l,in64 u.diff)(ht: ∀u∈l,z1j u.time)(ht':z1j t):
 ∃R e,z8y fuel l t=some (R,e)∧AtOk l t R e∧R.length≤l.length:=by
 unfold z8y;rw[z96 (by omega),zbb (by omega)];simp only[zz0,zt9,z5e,z0d];show ∃R e,(if errA l t=0 then _ else some (([]:List Count),errA l t))=some (R,e)∧AtOk l t R e∧R.length≤l.length;by_cases h:errA l t=0
 ·rw[if_pos h];obtain⟨ho,hT⟩:=zpl.1 h;rw[zsz (t:=t) hn]
  ·simp only[z4q];have hl:=znk l t
   obtain⟨R,e,l',h1,h2,h3⟩:=zqt (fuel:=fuel) hf (by omega) (zsy (t:=t) hd) (zi8 (t:=t) ho);rw[h1];exact⟨R,e,rfl,.inr ⟨h,h2⟩,by omega⟩
  ·intro i a hi;rw[zld (ht _ (z3e hi)) ht'];rfl
 ·rw[if_neg h];exact⟨_,_,rfl,.inl ⟨h,rfl,rfl⟩,Nat.zero_le _⟩
end Go.Av
namespace Go.Av
open Go
theorem znf {l l' R R':List Count}{e e':Int}(h:TotK l R e)(h':TotK l' R' e')(ho: ∀u∈l,okRow u.row=true)(ho': ∀u∈l',okRow u.row=true)(hs: ∀y,sm cK (pK l) y=sm cK (pK l') y):R=R'∧e=e':=
 zp0 cK_is h h' hs fun r hr r' hr' h1 h2=>zs1 (zi1 h ho r hr) (zi1 h' ho' r' hr') h1 h2
theorem zpp {fuel:Nat}{R:List Update}(hf:20000000≤fuel)(hn:R.length≤4000000)(hs:R.Pairwise fun a b=>cU a b<0)(hz: ∀r∈R,r.diff≠0)(ho: ∀r∈R,okU r):z73 fuel R=some true:=by
 unfold z73;rw[z96 (by omega),z66.2 ho];rw[z5q () (fun _ _=>True) (fun _ _=>rfl)]
 ·rfl
 ·intro i a hi _;refine⟨(),?_,trivial⟩;simp only[jn_eq,z0d];rw[if_neg (hz _ (z3e hi))];by_cases g:0<((i:Nat):Int)
  ·rw[if_pos g,wsub1 (by omega) (by omega),z0a (by omega),zan];simp only[zz0,z0d,zz5];rw[if_neg];rw[List.pairwise_iff_getElem]at hs;have:=hs (i-1) i (by omega) hi (by omega)
   rw[List.getD_eq_getElem?_getD,List.getElem?_eq_getElem (by omega:i-1<R.length),List.getD_eq_getElem?_getD,List.getElem?_eq_getElem hi];simp only[Option.getD_some];omega
  ·rw[if_neg g];rfl
 ·trivial
end Go.Av
namespace Go.Av
open Go
theorem at_wt (l:List Update)(t:Time)(y:Count):sm cK (pK (atL l t)) y=wt (fun u=>leT u.time t && decide (cmpL cmpV y.row u.row=0)) (pU l):=by
 induction l with
 |nil=>rfl
 |cons u l ih=>
  have e:atL (u::l) t=atL [u] t++atL l t:=znj [u] l t;rw[e,show pK (atL [u] t++atL l t)=pK (atL [u] t)++pK (atL l t)from zdc ..,z74,ih,znm];simp only[pU,PR,zzq,wt];by_cases h:leT u.time t=true
  ·simp only[h,if_true,pK,PR,zzq,List.map_nil,sm,Bool.true_and,decide_eq_true_eq,cK];omega
  ·have h':leT u.time t=false:=by simpa using h
   simp[h',sm,PR]
theorem zqv {l l':List Update}(t:Time)(h: ∀y,sm cU (pU l) y=sm cU (pU l') y)(y:Count):sm cK (pK (atL l t)) y=sm cK (pK (atL l' t)) y:=by
 rw[at_wt,at_wt];refine grp cU_is (fun a b hab=>?_) h;unfold cU at hab;rw[zax,zax,zpf]at hab;rw[hab.2.2,zcc.list.eqR y.row hab.2.1]
theorem zo6 {l R:List Update}{e:Int}(h:TotU l R e): ∀r∈R,in64 r.diff:=fun r hr=>by
 rcases h with⟨_,g,gf⟩|⟨_,rfl,_⟩
 ·rw[(g.sum r hr).1];exact gf r
 ·cases hr
theorem zrr {l R:List Update}{e:Int}(h:TotU l R e)(ht: ∀u∈l,z1j u.time): ∀r∈R,z1j r.time:=fun r hr=>by
 rcases h with⟨_,g,_⟩|⟨_,rfl,_⟩
 ·obtain⟨y,h1,h2⟩:=g.mem r hr;obtain⟨z,h3,h4⟩:=z94.1 h1;rw[h2,←h4];exact ht z h3
 ·cases hr
end Go.Av
namespace Go.Av
open Go
def glb2 (a x:Time):Time:=⟨if x.epoch<a.epoch then x.epoch else a.epoch,(if x.loop.1<a.loop.1 then x.loop.1 else a.loop.1,if x.loop.2<a.loop.2 then x.loop.2 else a.loop.2)⟩
def glbL:List Time→Time
 |[]=>zeroT
 |x::l=>l.foldl glb2 x
theorem zmx (a:Time):z3i a a=true:=by simp[z3i]
theorem zn1 {l:List Time}(h:l≠[])(x:Time):glbL (l++[x])=glb2 (glbL l) x:=by
 cases l with
 |nil=>exact absurd rfl h
 |cons y l=>simp[glbL,List.foldl_append]
theorem zlt (l:List Time):z68 l=some (glbL l):=by
 unfold z68;rw[z5q (glbL l) (fun i a=>a=glbL (l.take i)) (fun s h=>by rw[h,List.take_length])]
 ·rfl
 ·intro i a hi ha;refine⟨_,?_,rfl⟩;rw[z30 hi];simp only[jn_eq,z0i,z8k,zz0,z0d];rcases Nat.eq_zero_or_pos i with h0|h0
  ·subst h0;generalize l.getD 0 zzd=x at*;simp[outK,glbL]
  ·rw[if_neg (by omega),zn1 (by intro h;have h2:=congrArg List.length h;rw[List.length_take]at h2;simp only[List.length_nil]at h2;omega),←ha];generalize l.getD i zzd=x at*;simp[outK,glb2]
 ·rfl
theorem mn_eq (a b:Int):(if b<a then b else a)=min a b:=by split<;>omega
theorem zsd {a b:Time}(ha:z1j a)(hb:z1j b):z1j (lub2 a b):=by
 obtain⟨h1,h2,h3⟩:=ha;obtain⟨g1,g2,g3⟩:=hb;simp only[z1j,lub2,mx_eq];omega
theorem zsu:z1j zeroT:=by simp[z1j,zeroT]
theorem zr4 {a b:Time}(h:leT a b=true)(g:leT b a=true):z3i a b=true:=by
 simp only[leT,z3i,Bool.and_eq_true,decide_eq_true_eq,Bool.and_true]at*;omega
theorem zs7 {a b:Time}(ha:z1j a)(hb:z1j b):z1j (glb2 a b):=by
 obtain⟨h1,h2,h3⟩:=ha;obtain⟨g1,g2,g3⟩:=hb;simp only[z1j,glb2,mn_eq];omega
theorem zs6 {a b t:Time}:leT t (glb2 a b)=true↔leT t a=true∧leT t b=true:=by
 simp only[zjr,glb2,mn_eq];omega
theorem zfk {t:Time}: ∀(l:List Time) (a:Time),leT t (l.foldl glb2 a)=true↔leT t a=true∧ ∀x∈l,leT t x=true
 |[],a=>by simp
 |x::l,a=>by
  simp only[List.foldl_cons,zfk l,zs6,List.forall_mem_cons];constructor<;>intro h<;>simp_all
theorem zfl: ∀(l:List Time) (a:Time),z1j a→(∀x∈l,z1j x)→z1j (l.foldl glb2 a)
 |[],a,ha,_=>ha
 |x::l,a,ha,h=>zfl l _ (zs7 ha (h x (zz7 ..))) fun y hy=>h y (zzb _ hy)
theorem zs9 {l:List Time}(hl: ∀x∈l,z1j x):z1j (glbL l):=by
 cases l with
 |nil=>exact zsu
 |cons x l=>exact zfl l x (hl x (zz7 ..)) fun y hy=>hl y (zzb _ hy)
theorem zs8 {l:List Time}{t:Time}(h:l≠[]):leT t (glbL l)=true↔ ∀x∈l,leT t x=true:=by
 cases l with
 |nil=>exact absurd rfl h
 |cons x l=>simp only[glbL,zfk,List.forall_mem_cons]
end Go.Av
namespace Go.Av
open Go
def ltT (x y:Time):Bool:=decide (cmpT x y<0)
theorem zl2 {a fuel:Nat}{B:Int×List Time→Option (Ctl (Int×List Time) Empty)}{j:Nat}{d:Array Time}(hj:j<d.size)(hf:j<fuel)
 (hB: ∀(j:Nat) (d':Array Time),j<d'.size→d'.size=d.size→B ((j:Int),d'.toList)=if a<j∧ltT d'[j]! d'[j-1]! =true then some (.next (((j-1:Nat):Int),(Sort.swp d' j (j-1)).toList))else some (.brk ((j:Int),d'.toList))):
 ∃x:Int,loopN B fuel ((j:Int),d.toList)=some (.done (x,(Sort.insInner ltT a j d).toList)):=by
 induction j generalizing d fuel with
 |zero=>
  cases fuel with
  |zero=>omega
  |succ fuel=>
   refine⟨0,z1f (s':=(((0:Nat):Int),d.toList)) ?_⟩;rw[hB 0 d hj rfl,if_neg (by omega)]
 |succ j ih=>
  cases fuel with
  |zero=>omega
  |succ fuel=>
   have h:=hB (j+1) d hj rfl;rw[Nat.add_sub_cancel]at h;unfold Sort.insInner;by_cases hc:a<j+1∧ltT d[j+1]! d[j]! =true
   ·rw[if_pos hc]at h;rw[z21 h,if_pos (by simp[hc.1,hc.2])];exact ih (by rw[z1l];omega) (by omega) (fun k d' h1 h2=>hB k d' h1 (by rw[h2,z1l]))
   ·rw[if_neg hc]at h;rw[z1f h,if_neg (by simpa using hc)];exact⟨_,rfl⟩
theorem zl3 {a b fuel:Nat}{B:Int×List Time→Option (Ctl (Int×List Time) Empty)}{n i:Nat}{d:Array Time}(hn:b-i=n)(hb:b≤d.size)(hf:b-i<fuel)
 (hB: ∀(i:Nat) (d':Array Time),d'.size=d.size→B ((i:Int),d'.toList)=if i<b then some (.next (((i+1:Nat):Int),(Sort.insInner ltT a i d').toList))else some (.brk ((i:Int),d'.toList)))
 (hs: ∀(i:Nat) (d':Array Time),(Sort.insInner ltT a i d').size=d'.size):
 ∃x:Int,loopN B fuel ((i:Int),d.toList)=some (.done (x,(Sort.insOuter ltT a b i d).toList)):=by
 induction n generalizing i d fuel with
 |zero=>
  cases fuel with
  |zero=>omega
  |succ fuel=>
   have h:=hB i d rfl;rw[if_neg (by omega)]at h;rw[z1f h,Sort.insOuter,if_neg (by omega)];exact⟨_,rfl⟩
 |succ n ih=>
  cases fuel with
  |zero=>omega
  |succ fuel=>
   have h:=hB i d rfl;rw[if_pos (by omega)]at h;rw[z21 h,Sort.insOuter,if_pos (by omega)];exact ih (by omega) (by rw[hs];omega) (by omega) (fun k d' h1=>hB k d' (by rw[h1,hs]))
theorem zdw (a:Nat): ∀(j:Nat) (d:Array Time),(Sort.insInner ltT a j d).size=d.size
 |0,d=>rfl
 |j+1,d=>by
  unfold Sort.insInner;split
  ·rw[zdw a j,z1l]
  ·rfl
theorem zlu {fuel a b:Nat}{d:Array Time}(hb:b≤d.size)(hd:d.size<4611686018427387904)(ha:a<4611686018427387903)(hf:d.size<fuel):
 z1s fuel (a:Int) (b:Int) d.toList=some (Sort.insertionSort ltT d a b).toList:=by
 unfold z1s Sort.insertionSort;rw[wadd1 (by omega)];refine z8l (zl3 (a:=a) (b:=b) (i:=a+1) (d:=d) rfl hb (by omega) ?_ (zdw a)) (fun x=>rfl);intro i d' hd';simp only[z0d,intlt];by_cases hi:i<b
 ·rw[if_pos hi,if_pos hi];refine z8l (zl2 (a:=a) (j:=i) (d:=d') (by omega) (by omega) ?_) (fun x=>?_)
  ·intro j e hj he;simp only[jn_eq,z0d,intlt];by_cases h1:a<j
   ·simp(disch:=omega) only[h1,if_true,wsub1,z0a,zz5,zz4,zz1,zz9,z3c,zz0,z2c,z3t,true_and];unfold ltT;by_cases h2:cmpT e[j]! e[j-1]! <0
    ·simp[h2]
    ·simp[h2]
   ·rw[if_neg h1,if_neg (fun h=>h1 h.1)];rfl
  ·rw[wadd1 (by omega)]
 ·rw[if_neg hi,if_neg hi]
end Go.Av
namespace Go.Av
open Go
theorem znb (hi first:Nat): ∀(n root:Nat) (d:Array Time),hi-root≤n→(Sort.siftDown ltT hi first root d).size=d.size:=by
 intro n;induction n with
 |zero=>
  intro root d hn;rw[Sort.siftDown,dif_pos (by omega)]
 |succ n ih=>
  intro root d hn;rw[Sort.siftDown];split
  ·rfl
  ·split
   ·split
    ·rfl
    ·split
     ·rw[ih _ _ (by omega),z1l]
     ·rfl
   ·split
    ·rfl
    ·rw[ih _ _ (by omega),z1l]
def z8b (hi first root:Nat)(d:Array Time):Option Nat:=
 if 2*root+1≥hi then none else
  let c:=if 2*root+1+1<hi∧ltT d[first+(2*root+1)]! d[first+(2*root+1)+1]! =true then 2*root+2 else 2*root+1
  if ltT d[first+root]! d[first+c]! =true then some c else none
theorem zfp (hi first root:Nat)(d:Array Time):Sort.siftDown ltT hi first root d=match z8b hi first root d with
 |some c=>Sort.siftDown ltT hi first c (Sort.swp d (first+root) (first+c))
 |none=>d:=by
 rw[Sort.siftDown];unfold z8b;by_cases h1:2*root+1≥hi
 ·rw[dif_pos h1,if_pos h1]
 ·rw[dif_neg h1,if_neg h1];by_cases h2:2*root+1+1<hi∧ltT d[first+(2*root+1)]! d[first+(2*root+1)+1]! =true
  ·rw[if_pos (by simpa using h2)];simp only[if_pos h2];by_cases h3:ltT d[first+root]! d[first+(2*root+2)]! =true
   ·rw[if_neg (by simp[h3]),dif_pos (by omega)];simp only[h3,if_true]
   ·rw[if_pos (by simpa using h3)];simp only[if_neg h3]
  ·rw[if_neg (by simpa using h2)];simp only[if_neg h2];by_cases h3:ltT d[first+root]! d[first+(2*root+1)]! =true
   ·rw[if_neg (by simp[h3])];simp only[h3,if_true]
   ·rw[if_pos (by simpa using h3)];simp only[if_neg h3]
theorem znc {hi first root c:Nat}{d:Array Time}(h:z8b hi first root d=some c):root<c∧c<hi:=by
 unfold z8b at h;split at h
 ·cases h
 ·dsimp only at h;generalize hc:(if 2*root+1+1<hi∧ltT d[first+(2*root+1)]! d[first+(2*root+1)+1]! =true then 2*root+2 else 2*root+1)=k at h;have hk:root<k∧k<hi:=by
   split at hc<;>omega
  split at h
  ·cases h;exact hk
  ·cases h
theorem zqa {hi first fuel:Nat}{B:Int×List Time→Option (Ctl (Int×List Time) (List Time))}{Q:Type}{kn:Int×List Time→Option Q}{kr:List Time→Option Q}{q:Option Q}{n root:Nat}{d:Array Time}
 (hn:hi-root≤n) (hf:n<fuel) (hsz:first+hi≤d.size)
 (hB: ∀(root:Nat) (d':Array Time),d'.size=d.size→root≤1152921504606846976→B ((root:Int),d'.toList)=if 2*root+1≥hi then some (.brk ((root:Int),d'.toList))else match z8b hi first root d' with
  |some c=>some (.next ((c:Int),(Sort.swp d' (first+root) (first+c)).toList))
  |none=>some (.ret d'.toList))
 (hr:root≤1152921504606846976) (hd:d.size≤1152921504606846976) (hkn: ∀x,kn (x,(Sort.siftDown ltT hi first root d).toList)=q) (hkr:kr (Sort.siftDown ltT hi first root d).toList=q):
 outK (loopN B fuel ((root:Int),d.toList)) kn kr=q:=by
 induction n generalizing root d fuel with
 |zero=>
  cases fuel with
  |zero=>omega
  |succ fuel=>
   have h:=hB root d rfl hr;have hs:=zfp hi first root d
   have e:z8b hi first root d=none:=by unfold z8b;rw[if_pos (by omega)]
   rw[e]at hs;simp only at hs;rw[hs]at hkn hkr;rw[if_pos (by omega)]at h;rw[z1f h];exact hkn _
 |succ n ih=>
  cases fuel with
  |zero=>omega
  |succ fuel=>
   have h:=hB root d rfl hr;have hs:=zfp hi first root d
   cases e:z8b hi first root d with
   |none=>
    rw[e]at h hs;simp only at h hs;rw[hs]at hkn hkr;split at h
    ·rw[z1f h];exact hkn _
    ·rw[z9b h];exact hkr
   |some c=>
    have hc:=znc e;have hlt: ¬2*root+1≥hi:=fun hh=>by unfold z8b at e;rw[if_pos hh]at e;cases e
    rw[e]at h hs;rw[if_neg hlt]at h;simp only at h hs;rw[hs]at hkn hkr;rw[z21 h];exact ih (by omega) (by omega) (by rw[z1l];omega) (fun r d' h1 h2=>hB r d' (by rw[h1,z1l]) h2) (by omega) (by rw[z1l];omega) hkn hkr
theorem zhn {fuel lo hi first:Nat}{d:Array Time}(hsz:first+hi≤d.size)(hd:d.size<1152921504606846976)(hlo:lo<1152921504606846976)(hf:d.size<fuel):
 z2e fuel (lo:Int) (hi:Int) (first:Int) d.toList=some (Sort.siftDown ltT hi first lo d).toList:=by
 unfold z2e;refine zqa (hi:=hi) (first:=first) (n:=hi) (by omega) (by omega) hsz ?_ (by omega) (by omega) (fun x=>rfl) rfl;intro root e he hroot;have hw1:zzi.wrap (zzi.wrap ((2:Int)*(root:Int))+1)=((2*root+1:Nat):Int):=by rw[wtwo (by omega),wadd1 (by omega)]
 simp only[hw1,z0d,jn_eq];by_cases h1:2*root+1≥hi
 ·rw[if_pos h1,if_pos (by omega)]
 ·rw[if_neg h1,if_neg (by omega)];unfold z8b;rw[if_neg h1];have hw2:zzi.wrap (((2*root+1:Nat):Int)+1)=((2*root+1+1:Nat):Int):=wadd1 (by omega)
  have hw3:zzi.wrap ((first:Int)+((2*root+1:Nat):Int))=((first+(2*root+1):Nat):Int):=wadd (by omega);have hw4:zzi.wrap (((first+(2*root+1):Nat):Int)+1)=((first+(2*root+1)+1:Nat):Int):=wadd1 (by omega)
  have hw5:zzi.wrap ((first:Int)+(root:Int))=((first+root:Nat):Int):=wadd (by omega);have hw6:zzi.wrap ((first:Int)+((2*root+1+1:Nat):Int))=((first+(2*root+2):Nat):Int):=by rw[wadd (by omega)]
  simp only[hw2,hw3,hw4,hw5,hw6,intlt,zz5,zz4];by_cases h2:2*root+1+1<hi
  ·rw[if_pos h2];simp(disch:=omega) only[z0a,zz1,z3c,zz0,z2c];by_cases h3:cmpT e[first+(2*root+1)]! e[first+(2*root+1)+1]! <0
   ·have h4:2*root+1+1<hi∧ltT e[first+(2*root+1)]! e[first+(2*root+1)+1]! =true:=⟨h2,by unfold ltT;simp[h3]⟩;simp(disch:=omega) only[h3,if_true,if_pos h4,hw6,zz5,zz4,z0a,zz1,zz9,z3c,zz0,z2c,z3t];unfold ltT;by_cases h:cmpT e[first+root]! e[first+(2*root+2)]! <0
    ·simp[h];omega
    ·simp[h]
   ·have h4: ¬(2*root+1+1<hi∧ltT e[first+(2*root+1)]! e[first+(2*root+1)+1]! =true):=fun h=>h3 (by have:=h.2;unfold ltT at this;simpa using this);simp(disch:=omega) only[h3,if_false,if_neg h4,hw3,zz5,zz4,z0a,zz1,zz9,z3c,zz0,z2c,z3t];unfold ltT;by_cases h:cmpT e[first+root]! e[first+(2*root+1)]! <0
    ·simp[h]
    ·simp[h]
  ·rw[if_neg h2];have h4: ¬(2*root+1+1<hi∧ltT e[first+(2*root+1)]! e[first+(2*root+1)+1]! =true):=fun h=>h2 h.1;simp(disch:=omega) only[z0n,if_neg h4,hw3,zz5,zz4,z0a,zz1,zz9,z3c,zz0,z2c,z3t];unfold ltT;by_cases h:cmpT e[first+root]! e[first+(2*root+1)]! <0
   ·simp[h]
   ·simp[h]
end Go.Av
namespace Go.Av
open Go
theorem zcj (hi first root:Nat)(d:Array Time):(Sort.siftDown ltT hi first root d).size=d.size:=znb hi first hi root d (by omega)
theorem zk8 {B:Int×List Time→Option (Ctl (Int×List Time) Empty)}(g h:Nat→Array Time→Array Time){k k0 fuel:Nat}{d:Array Time}(hk:k≤k0)(hg: ∀k d,(g k d).size=d.size)(hf:k<fuel)
 (hB: ∀(k:Nat) (d':Array Time),k≤k0→d'.size=d.size→B ((k:Int)-1,d'.toList)=match k with|0=>some (.brk (-1,d'.toList))|k+1=>some (.next ((k:Int)-1,(g k d').toList)))
 (h0: ∀d,h 0 d=d) (h1: ∀k d,h (k+1) d=h k (g k d)):
 ∃x:Int,loopN B fuel ((k:Int)-1,d.toList)=some (.done (x,(h k d).toList)):=by
 induction k generalizing d fuel with
 |zero=>
  cases fuel with
  |zero=>omega
  |succ fuel=>exact⟨-1,by rw[z1f (hB 0 d hk rfl),h0]⟩
 |succ k ih=>
  cases fuel with
  |zero=>omega
  |succ fuel=>
   rw[z21 (hB (k+1) d hk rfl),h1];exact ih (by omega) (by omega) (fun k' d' h2 h=>hB k' d' h2 (by rw[h,hg]))
theorem zcz (hi first:Nat): ∀(k:Nat) (d:Array Time),(Sort.heapBuild ltT hi first k d).size=d.size
 |0,d=>rfl
 |k+1,d=>by unfold Sort.heapBuild;rw[zcz hi first k,zcj]
theorem zn2 {fuel a b:Nat}{d:Array Time}(hab:a<b)(hb:b≤d.size)(hd:d.size<1152921504606846976)(hf:d.size+2<fuel):
 z2d fuel (a:Int) (b:Int) d.toList=some (Sort.heapSort ltT d a b).toList:=by
 unfold z2d Sort.heapSort;have e0:zzi.wrap ((b:Int)-(a:Int))=((b-a:Nat):Int):=wsub (by omega) (by omega)
 have e1:zzi.wrap (((b-a:Nat):Int)-1)=(((b-a:Nat):Int)-1):=z2t (by omega) (by omega);have e2:zzi.wrap ((((b-a:Nat):Int)-1).tdiv 2)=(((b-a-1) / 2+1:Nat):Int)-1:=by
  rw[Int.tdiv_eq_ediv_of_nonneg (by omega),z2t (by omega) (by omega)];omega
 rw[e0,e1,e2];refine z8l (zk8 (k0:=(b-a-1) / 2+1) (fun k d=>Sort.siftDown ltT (b-a) a k d) (fun k d=>Sort.heapBuild ltT (b-a) a k d) (zzc _) (fun k d=>zcj _ _ _ _) (by omega) ?_ (fun d=>rfl) (fun k d=>rfl)) (fun x=>?_)
 ·intro k e hk he;simp only[z0d];cases k with
  |zero=>rw[if_neg (by omega)];rfl
  |succ k=>
   rw[if_pos (by omega),show((k+1:Nat):Int)-1=(k:Int)by omega,zhn (by omega) (by omega) (by omega) (by omega),zz0];rw[z0a (by rw[zz1,zz1,zcj]),z9w (by unfold in64;omega)]
 ·have hsz:=zcz (b-a) a ((b-a-1) / 2+1) d;simp only;generalize Sort.heapBuild ltT (b-a) a ((b-a-1) / 2+1) d=d1 at*;refine z8l (zk8 (k0:=b-a) (fun k d=>Sort.siftDown ltT k a 0 (Sort.swp d a (a+k))) (fun k d=>Sort.heapPop ltT a k d) (zzc _) (fun k d=>by rw[zcj,z1l]) (by omega) ?_ (fun d=>rfl) (fun k d=>rfl)) (fun x=>rfl);intro k e hk he;simp only[z0d];cases k with
  |zero=>rw[if_neg (by omega)];rfl
  |succ k=>
   rw[if_pos (by omega),show((k+1:Nat):Int)-1=(k:Int)by omega];have w1:zzi.wrap ((a:Int)+(k:Int))=((a+k:Nat):Int):=wadd (by omega);have w2:zzi.wrap ((k:Int)-1)=(k:Int)-1:=z9w (by unfold in64;omega)
   have hs:=zhn (fuel:=fuel) (lo:=0) (hi:=k) (first:=a) (d:=Sort.swp e a (a+k)) (by rw[z1l];omega) (by rw[z1l];omega) (by omega) (by rw[z1l];omega);rw[show((0:Nat):Int)=0 from rfl]at hs;simp(disch:=omega) only[w1,w2,zz5,zz4,z0a,zz1,zz9,z2c,z3t,hs,zz0,zcj,z1l];rw[z0a trivial]
theorem zgm {a b s:Nat}{d:Array Time}(ha:a<d.size)(hb:b<d.size)(hs:s<1000):z24 d.toList (a:Int) (b:Int) (s:Int)=some (((Sort.order2 ltT d a b s).1:Int),((Sort.order2 ltT d a b s).2.1:Int),((Sort.order2 ltT d a b s).2.2:Int)):=by
 unfold z24 Sort.order2;simp(disch:=omega) only[zz5,z0a,zz1,z3c,zz0,z2c,wadd1,z0d];unfold ltT;by_cases h:cmpT d[b]! d[a]! <0
 ·simp[h]
 ·simp[h]
theorem z9u {a b s:Nat}{d:Array Time}:((Sort.order2 ltT d a b s).1=a∧(Sort.order2 ltT d a b s).2.1=b∨(Sort.order2 ltT d a b s).1=b∧(Sort.order2 ltT d a b s).2.1=a)∧(Sort.order2 ltT d a b s).2.2≤s+1:=by
 unfold Sort.order2;split
 ·exact⟨.inr ⟨rfl,rfl⟩,zzc _⟩
 ·exact⟨.inl ⟨rfl,rfl⟩,Nat.le_succ _⟩
theorem zgk {a b c s:Nat}{d:Array Time}(ha:a<d.size)(hb:b<d.size)(hc:c<d.size)(hs:s<900):z23 d.toList (a:Int) (b:Int) (c:Int) (s:Int)=some (((Sort.median ltT d a b c s).1:Int),((Sort.median ltT d a b c s).2:Int)):=by
 unfold z23;have m1:=z9u (a:=a) (b:=b) (s:=s) (d:=d)
 rw[zgm ha hb (by omega),zz0];have e:Sort.median ltT d a b c s=(let r2:=Sort.order2 ltT d (Sort.order2 ltT d a b s).2.1 c (Sort.order2 ltT d a b s).2.2;let r3:=Sort.order2 ltT d (Sort.order2 ltT d a b s).1 r2.1 r2.2.2;(r3.2.1,r3.2.2)):=rfl;rw[e];generalize Sort.order2 ltT d a b s=r1 at*;have m2:=z9u (a:=r1.2.1) (b:=c) (s:=r1.2.2) (d:=d)
 simp only;rw[zgm (by omega) hc (by omega),zz0];generalize Sort.order2 ltT d r1.2.1 c r1.2.2=r2 at*;simp only;rw[zgm (by omega) (by omega) (by omega),zz0]
theorem zir {a b c s:Nat}{d:Array Time}:(Sort.median ltT d a b c s).2≤s+3:=by
 have e:Sort.median ltT d a b c s=(let r2:=Sort.order2 ltT d (Sort.order2 ltT d a b s).2.1 c (Sort.order2 ltT d a b s).2.2;let r3:=Sort.order2 ltT d (Sort.order2 ltT d a b s).1 r2.1 r2.2.2;(r3.2.1,r3.2.2)):=rfl;rw[e];have m1:=z9u (a:=a) (b:=b) (s:=s) (d:=d)
 generalize Sort.order2 ltT d a b s=r1 at*;have m2:=z9u (a:=r1.2.1) (b:=c) (s:=r1.2.2) (d:=d)
 simp only;generalize Sort.order2 ltT d r1.2.1 c r1.2.2=r2 at*;have m3:=z9u (a:=r1.1) (b:=r2.1) (s:=r2.2.2) (d:=d)
 omega
theorem z9p {a s:Nat}{d:Array Time}(h1:1≤a)(ha:a+1<d.size)(hd:d.size<1152921504606846976)(hs:s<900):z0o d.toList (a:Int) (s:Int)=some (((Sort.medianAdjacent ltT d a s).1:Int),((Sort.medianAdjacent ltT d a s).2:Int)):=by
 unfold z0o Sort.medianAdjacent;rw[wsub1 h1 (by omega),wadd1 (by omega),zgk (by omega) (by omega) ha hs,zz0]
def hintN:Sort.Hint→Int
 | .unknown=>0
 | .increasing=>1
 | .decreasing=>2
theorem z9c {a s:Nat}{d:Array Time}:(Sort.medianAdjacent ltT d a s).2≤s+3:=zir
theorem     zsl {Q : Type} {i j k : Nat} {d : Array Time} (hd : d.size < 1152921504606846976) (hi : 1 ≤ i ∧ i + 1 < d.size) (hj : 1 ≤ j ∧ j + 1 < d.size) (hk : 1 ≤ k ∧ k + 1 < d.size) {K : Int × Int → Option Q} {r1 r2 r3 : Nat × Nat}
    (h1 : Sort.medianAdjacent ltT d i 0 = r1) (h2 : Sort.medianAdjacent ltT d j r1.2 = r2) (h3 : Sort.medianAdjacent ltT d k r2.2 = r3) :
    ((                                         z0o d.toList (i : Int) 0).bind fun r6 => (                                         z0o d.toList (j : Int) r6.2).bind fun r7 => (                                         z0o d.toList (k : Int) r7.2).bind fun r8 => (                                 z23 d.toList r6.1 r7.1 r8.1 r8.2).bind K)
      = K (((Sort.median ltT d r1.1 r2.1 r3.1 r3.2).1 : Int), ((Sort.median ltT d r1.1 r2.1 r3.1 r3.2).2 : Int)) ∧ (Sort.median ltT d r1.1 r2.1 r3.1 r3.2).2 < 1000 := by
  have z : ((0 : Nat) : Int) = 0 := rfl
  have q1 :=               z9p (a := i) (s := 0) (d := d) hi.1 hi.2 hd (by omega)
  have c1 :=                z9c (a := i) (s := 0) (d := d)
  have p1 := Sort.medianAdjacent_mem ltT d i 0
  rw [z, h1] at q1
  rw [h1] at c1 p1
  have q2 :=               z9p (a := j) (s := r1.2) (d := d) hj.1 hj.2 hd (by omega)
  have c2 :=                z9c (a := j) (s := r1.2) (d := d)
  have p2 := Sort.medianAdjacent_mem ltT d j r1.2
  rw [h2] at q2 c2 p2
  have q3 :=               z9p (a := k) (s := r2.2) (d := d) hk.1 hk.2 hd (by omega)
  have c3 :=                z9c (a := k) (s := r2.2) (d := d)
  have p3 := Sort.medianAdjacent_mem ltT d k r2.2
  rw [h3] at q3 c3 p3
  have q4 :=       zgk (a := r1.1) (b := r2.1) (c := r3.1) (s := r3.2) (d := d) (by omega) (by omega) (by omega) (by omega)
  have c4 :=        zir (a := r1.1) (b := r2.1) (c := r3.1) (s := r3.2) (d := d)
  rw [q1,              zz0]
  simp only
  rw [q2,              zz0]
  simp only
  rw [q3,              zz0]
  simp only
  rw [q4,              zz0]
  exact ⟨rfl, by omega⟩
theorem zhy {r:Nat×Nat}:(if((r.2:Nat):Int)=0 then some (((r.1:Nat):Int),(1:Int))else if((r.2:Nat):Int)=12 then some (((r.1:Nat):Int),2)else some (((r.1:Nat):Int),0))=some (((r.1:Nat):Int),hintN (Sort.hintOf r.2)):=by
 unfold Sort.hintOf;by_cases h1:r.2=0
 ·rw[if_pos (by omega),if_pos h1];rfl
 ·rw[if_neg (by omega),if_neg h1];by_cases h2:r.2=12
  ·rw[if_pos (by omega),if_pos h2];rfl
  ·rw[if_neg (by omega),if_neg h2];rfl
theorem choosePivot_eq {a b:Nat}{d:Array Time}(hab:a<b)(hb:b≤d.size)(hd:d.size<1152921504606846976):
 z28 d.toList (a:Int) (b:Int)=some (((Sort.choosePivot ltT d a b).1:Int),hintN (Sort.choosePivot ltT d a b).2):=by
 unfold z28;have e0:zzi.wrap ((b:Int)-(a:Int))=((b-a:Nat):Int):=wsub (by omega) (by omega)
 have e1:zzi.wrap (((b-a:Nat):Int).tdiv 4)=(((b-a) / 4:Nat):Int):=by rw[Int.tdiv_eq_ediv_of_nonneg (by omega),z2t (by omega) (by omega)];omega
 have m: ∀k:Nat,k≤3→zzi.wrap ((a:Int)+zzi.wrap ((((b-a) / 4:Nat):Int)*(k:Int)))=((a+(b-a) / 4*k:Nat):Int):=fun k hk=>by
  have h1:(b-a) / 4*k≤b-a:=Nat.le_trans (Nat.mul_le_mul_left _ hk) (by omega);have h2:(((b-a) / 4:Nat):Int)*(k:Int)=(((b-a) / 4*k:Nat):Int):=by rw[Int.natCast_mul]
  have h3:zzi.wrap (((b-a) / 4*k:Nat):Int)=(((b-a) / 4*k:Nat):Int):=z9w (by unfold in64;omega);rw[h2,h3,wadd (by omega)]
 have m1:=m 1 (by omega);have m2:=m 2 (by omega)
 have m3:=m 3 (by omega);rw[show((1:Nat):Int)=1 from rfl]at m1;rw[show((2:Nat):Int)=2 from rfl]at m2;rw[show((3:Nat):Int)=3 from rfl]at m3;simp only[e0,e1,m1,m2,m3,jn_eq,z0d];rw[Sort.choosePivot_eq];clear e0 e1 m m1 m2 m3;have hraw:Sort.rawPivot ltT d a b=if b-a≥8 then(if b-a≥50 then(Sort.median ltT d (Sort.medianAdjacent ltT d (a+(b-a) / 4*1) 0).1 (Sort.medianAdjacent ltT d (a+(b-a) / 4*2) (Sort.medianAdjacent ltT d (a+(b-a) / 4*1) 0).2).1 (Sort.medianAdjacent ltT d (a+(b-a) / 4*3) (Sort.medianAdjacent ltT d (a+(b-a) / 4*2) (Sort.medianAdjacent ltT d (a+(b-a) / 4*1) 0).2).2).1 (Sort.medianAdjacent ltT d (a+(b-a) / 4*3) (Sort.medianAdjacent ltT d (a+(b-a) / 4*2) (Sort.medianAdjacent ltT d (a+(b-a) / 4*1) 0).2).2).2)
  else(Sort.median ltT d (a+(b-a) / 4*1) (a+(b-a) / 4*2) (a+(b-a) / 4*3) 0))else(a+(b-a) / 4*2,0):=rfl
 rw[hraw];by_cases h8:b-a≥8
 ·rw[if_pos (by omega),if_pos h8];by_cases h50:b-a≥50
  ·rw[if_pos (by omega),if_pos h50];obtain⟨q,_⟩:=zsl (d:=d) (i:=a+(b-a) / 4*1) (j:=a+(b-a) / 4*2) (k:=a+(b-a) / 4*3) (K:=fun(a1:Int×Int)=>if a1.2=0 then some (a1.1,(1:Int))else if a1.2=12 then some (a1.1,2)else some (a1.1,0)) hd (by omega) (by omega) (by omega) rfl rfl rfl;exact q.trans zhy
  ·rw[if_neg (by omega),if_neg h50];have z:((0:Nat):Int)=0:=rfl;have q1:=zgk (a:=a+(b-a) / 4*1) (b:=a+(b-a) / 4*2) (c:=a+(b-a) / 4*3) (s:=0) (d:=d) (by omega) (by omega) (by omega) (by omega)
   rw[z]at q1;simp only;rw[q1,zz0];exact zhy
 ·rw[if_neg (by omega),if_neg h8];exact zhy (r:=(a+(b-a) / 4*2,0))
theorem zme {B:Int×Int×List Time→Option (Ctl (Int×Int×List Time) Empty)}{n i j fuel:Nat}{d:Array Time}(hn:j-i≤n)(hf:n<fuel)(hj:j<d.size)
 (hB: ∀(i j:Nat) (d':Array Time),d'.size=d.size→j<d.size→B ((i:Int),(j:Int),d'.toList)=if i<j then some (.next (((i+1:Nat):Int),((j-1:Nat):Int),(Sort.swp d' i j).toList))else some (.brk ((i:Int),(j:Int),d'.toList))):
 ∃x y:Int,loopN B fuel ((i:Int),(j:Int),d.toList)=some (.done (x,y,(Sort.reverseLoop i j d).toList)):=by
 induction n generalizing i j d fuel with
 |zero=>
  cases fuel with
  |zero=>omega
  |succ fuel=>
   have h:=hB i j d rfl hj;rw[if_neg (by omega)]at h;rw[z1f h,Sort.reverseLoop,if_neg (by omega)];exact⟨_,_,rfl⟩
 |succ n ih=>
  cases fuel with
  |zero=>omega
  |succ fuel=>
   have h:=hB i j d rfl hj;by_cases hij:i<j
   ·rw[if_pos hij]at h;rw[z21 h,Sort.reverseLoop,if_pos hij];exact ih (by omega) (by omega) (by rw[z1l];omega) (fun i' j' d' h1 h2=>hB i' j' d' (by rw[h1,z1l]) (by rw[z1l]at h2;exact h2))
   ·rw[if_neg hij]at h;rw[z1f h,Sort.reverseLoop,if_neg hij];exact⟨_,_,rfl⟩
theorem zrc {X Y Z R Q:Type}{o:Option (Out (X×Y×Z) R)}{kn:X×Y×Z→Option Q}{kr:R→Option Q}{r:Z}{q:Option Q}(h: ∃(x:X) (y:Y),o=some (.done (x,y,r)))(hk: ∀x y,kn (x,y,r)=q):outK o kn kr=q:=by
 obtain⟨x,y,h⟩:=h;rw[h];exact hk x y
theorem zj0 {fuel a b:Nat}{d:Array Time}(hab:a<b)(hb:b≤d.size)(hd:d.size<1152921504606846976)(hf:d.size+2<fuel):
 z20 fuel (a:Int) (b:Int) d.toList=some (Sort.reverseRange d a b).toList:=by
 unfold z20 Sort.reverseRange;rw[wsub1 (by omega) (by omega)];refine zrc (zme (n:=d.size) (by omega) (by omega) (by omega) ?_) (fun x y=>rfl);intro i j e he hj;simp only[z0d,intlt];by_cases hij:i<j
 ·rw[if_pos hij,if_pos hij];simp(disch:=omega) only[wsub1,wadd1,zz5,zz4,z0a,zz1,zz9,z2c,z3t]
 ·rw[if_neg hij,if_neg hij]
end Go.Av
namespace Go.Av
open Go
section
variable {α:Type} [Inhabited α]
theorem z5r (p:α→Bool)(d:Array α)(j:Nat): ∀(n i:Nat),j+1-i≤n→Sort.scanUp p d j i≤max i (j+1)∧i≤Sort.scanUp p d j i:=by
 intro n;induction n with
 |zero=>
  intro i hn;rw[Sort.scanUp,if_neg (by simp;omega)];omega
 |succ n ih=>
  intro i hn;rw[Sort.scanUp];split
  ·rename_i h
   have:i≤j:=by simp at h;exact h.1
   have:=ih (i+1) (by omega);omega
  ·omega
theorem z3n (p:α→Bool)(d:Array α)(i:Nat): ∀(j:Nat),Sort.scanDown p d i j≤j
 |0=>zzc _
 |j+1=>by
  unfold Sort.scanDown;split
  ·have:=z3n p d i j;omega
  ·omega
theorem zdz {S R:Type}{B:S→Option (Ctl S R)}(e:Nat→S)(p:α→Bool)(d:Array α){j:Nat}: ∀(n i fuel:Nat),j+1-i≤n→n<fuel→(∀i',i≤i'→i'≤max i (j+1)→B (e i')=if i'≤j∧p d[i']! =true then some (.next (e (i'+1)))else some (.brk (e i')))→
 loopN B fuel (e i)=some (.done (e (Sort.scanUp p d j i))):=by
 intro n;induction n with
 |zero=>
  intro i fuel hn hf hB;cases fuel with
  |zero=>omega
  |succ fuel=>
   have h:=hB i (zzc _) (by omega);rw[if_neg (by omega)]at h;rw[z1f h,Sort.scanUp,if_neg (by simp;omega)]
 |succ n ih=>
  intro i fuel hn hf hB;cases fuel with
  |zero=>omega
  |succ fuel=>
   have h:=hB i (zzc _) (by omega);by_cases hc:i≤j∧p d[i]! =true
   ·rw[if_pos hc]at h;rw[z21 h,Sort.scanUp,if_pos (by simpa using hc)];exact ih (i+1) fuel (by omega) (by omega) (fun i' h1 h2=>hB i' (by omega) (by omega))
   ·rw[if_neg hc]at h;rw[z1f h,Sort.scanUp,if_neg (by simpa using hc)]
theorem zc0 {S R:Type}{B:S→Option (Ctl S R)}(e:Nat→S)(p:α→Bool)(d:Array α){i:Nat}(hi:1≤i): ∀(j fuel:Nat),j<fuel→(∀j',j'≤j→B (e j')=if i≤j'∧p d[j']! =true then some (.next (e (j'-1)))else some (.brk (e j')))→
 loopN B fuel (e j)=some (.done (e (Sort.scanDown p d i j))):=by
 intro j;induction j with
 |zero=>
  intro fuel hf hB;cases fuel with
  |zero=>omega
  |succ fuel=>
   have h:=hB 0 (zzc _);rw[if_neg (by omega)]at h;rw[z1f h];rfl
 |succ j ih=>
  intro fuel hf hB;cases fuel with
  |zero=>omega
  |succ fuel=>
   have h:=hB (j+1) (zzc _);unfold Sort.scanDown;by_cases hc:i≤j+1∧p d[j+1]! =true
   ·rw[if_pos hc]at h;rw[z21 h,if_pos (by simpa using hc)];exact ih fuel (by omega) (fun j' h1=>hB j' (by omega))
   ·rw[if_neg hc]at h;rw[z1f h,if_neg (by simpa using hc)]
end
theorem zau (a i j:Nat)(d:Array Time):Sort.partLoop ltT a i j d=
 if Sort.scanUp (fun x=>ltT x d[a]!) d j i>Sort.scanDown (fun x=> !ltT x d[a]!) d (Sort.scanUp (fun x=>ltT x d[a]!) d j i) j then(Sort.scanDown (fun x=> !ltT x d[a]!) d (Sort.scanUp (fun x=>ltT x d[a]!) d j i) j,d)
 else Sort.partLoop ltT a (Sort.scanUp (fun x=>ltT x d[a]!) d j i+1) (Sort.scanDown (fun x=> !ltT x d[a]!) d (Sort.scanUp (fun x=>ltT x d[a]!) d j i) j-1) (Sort.swp d (Sort.scanUp (fun x=>ltT x d[a]!) d j i) (Sort.scanDown (fun x=> !ltT x d[a]!) d (Sort.scanUp (fun x=>ltT x d[a]!) d j i) j)):=Sort.partLoop_eq ltT a i j d
theorem z9n (a i j:Nat)(d:Array Time):Sort.partEqLoop ltT a i j d=
 if Sort.scanUp (fun x=> !ltT d[a]! x) d j i>Sort.scanDown (fun x=>ltT d[a]! x) d (Sort.scanUp (fun x=> !ltT d[a]! x) d j i) j then(Sort.scanUp (fun x=> !ltT d[a]! x) d j i,d)
 else Sort.partEqLoop ltT a (Sort.scanUp (fun x=> !ltT d[a]! x) d j i+1) (Sort.scanDown (fun x=>ltT d[a]! x) d (Sort.scanUp (fun x=> !ltT d[a]! x) d j i) j-1) (Sort.swp d (Sort.scanUp (fun x=> !ltT d[a]! x) d j i) (Sort.scanDown (fun x=>ltT d[a]! x) d (Sort.scanUp (fun x=> !ltT d[a]! x) d j i) j)):=Sort.partEqLoop_eq ltT a i j d
theorem zq2 {B:Int×Int×List Time→Option (Ctl (Int×Int×List Time) Empty)}{a:Nat}: ∀(n i j fuel:Nat) (d:Array Time),j+1-i≤n→n<fuel→1≤i→i≤d.size→j<d.size→
 (∀(i j:Nat) (d':Array Time),d'.size=d.size→1≤i→i≤d.size→j<d.size→B ((i:Int),(j:Int),d'.toList)=
  if Sort.scanUp (fun x=>ltT x d'[a]!) d' j i>Sort.scanDown (fun x=> !ltT x d'[a]!) d' (Sort.scanUp (fun x=>ltT x d'[a]!) d' j i) j
  then some (.brk (((Sort.scanUp (fun x=>ltT x d'[a]!) d' j i:Nat):Int),((Sort.scanDown (fun x=> !ltT x d'[a]!) d' (Sort.scanUp (fun x=>ltT x d'[a]!) d' j i) j:Nat):Int),d'.toList))
  else some (.next (((Sort.scanUp (fun x=>ltT x d'[a]!) d' j i+1:Nat):Int),((Sort.scanDown (fun x=> !ltT x d'[a]!) d' (Sort.scanUp (fun x=>ltT x d'[a]!) d' j i) j-1:Nat):Int),(Sort.swp d' (Sort.scanUp (fun x=>ltT x d'[a]!) d' j i) (Sort.scanDown (fun x=> !ltT x d'[a]!) d' (Sort.scanUp (fun x=>ltT x d'[a]!) d' j i) j)).toList)))→
 ∃x:Int,loopN B fuel ((i:Int),(j:Int),d.toList)=some (.done (x,((Sort.partLoop ltT a i j d).1:Int),(Sort.partLoop ltT a i j d).2.toList)):=by
 intro n;induction n with
 |zero=>
  intro i j fuel d hn hf hi hi2 hj hB;cases fuel with
  |zero=>omega
  |succ fuel=>
   have h:=hB i j d rfl hi hi2 hj;have u:=(z5r (fun x=>ltT x d[a]!) d j _ i (zzc _))
   have v:=z3n (fun x=> !ltT x d[a]!) d (Sort.scanUp (fun x=>ltT x d[a]!) d j i) j;rw[if_pos (by omega)]at h;rw[z1f h,zau,if_pos (by omega)];exact⟨_,rfl⟩
 |succ n ih=>
  intro i j fuel d hn hf hi hi2 hj hB;cases fuel with
  |zero=>omega
  |succ fuel=>
   have h:=hB i j d rfl hi hi2 hj;have u:=(z5r (fun x=>ltT x d[a]!) d j _ i (zzc _))
   have v:=z3n (fun x=> !ltT x d[a]!) d (Sort.scanUp (fun x=>ltT x d[a]!) d j i) j;rw[zau];generalize Sort.scanUp (fun x=>ltT x d[a]!) d j i=i2 at*;generalize Sort.scanDown (fun x=> !ltT x d[a]!) d i2 j=j2 at*;by_cases hc:i2>j2
   ·rw[if_pos hc]at h;rw[z1f h,if_pos hc];exact⟨_,rfl⟩
   ·rw[if_neg hc]at h;rw[z21 h,if_neg hc];exact ih _ _ _ _ (by omega) (by omega) (by omega) (by rw[z1l];omega) (by rw[z1l];omega) (fun i' j' d' h1 h2 h3 h4=>hB i' j' d' (by rw[h1,z1l]) h2 (by rw[z1l]at h3;exact h3) (by rw[z1l]at h4;exact h4))
theorem zn7 {B:Int×Int×List Time→Option (Ctl (Int×Int×List Time) Empty)}{a:Nat}: ∀(n i j fuel:Nat) (d:Array Time),j+1-i≤n→n<fuel→1≤i→i≤d.size→j<d.size→
 (∀(i j:Nat) (d':Array Time),d'.size=d.size→1≤i→i≤d.size→j<d.size→B ((i:Int),(j:Int),d'.toList)=
  if Sort.scanUp (fun x=> !ltT d'[a]! x) d' j i>Sort.scanDown (fun x=>ltT d'[a]! x) d' (Sort.scanUp (fun x=> !ltT d'[a]! x) d' j i) j
  then some (.brk (((Sort.scanUp (fun x=> !ltT d'[a]! x) d' j i:Nat):Int),((Sort.scanDown (fun x=>ltT d'[a]! x) d' (Sort.scanUp (fun x=> !ltT d'[a]! x) d' j i) j:Nat):Int),d'.toList))
  else some (.next (((Sort.scanUp (fun x=> !ltT d'[a]! x) d' j i+1:Nat):Int),((Sort.scanDown (fun x=>ltT d'[a]! x) d' (Sort.scanUp (fun x=> !ltT d'[a]! x) d' j i) j-1:Nat):Int),(Sort.swp d' (Sort.scanUp (fun x=> !ltT d'[a]! x) d' j i) (Sort.scanDown (fun x=>ltT d'[a]! x) d' (Sort.scanUp (fun x=> !ltT d'[a]! x) d' j i) j)).toList)))→
 ∃x:Int,loopN B fuel ((i:Int),(j:Int),d.toList)=some (.done (((Sort.partEqLoop ltT a i j d).1:Int),x,(Sort.partEqLoop ltT a i j d).2.toList)):=by
 intro n;induction n with
 |zero=>
  intro i j fuel d hn hf hi hi2 hj hB;cases fuel with
  |zero=>omega
  |succ fuel=>
   have h:=hB i j d rfl hi hi2 hj;have u:=(z5r (fun x=> !ltT d[a]! x) d j _ i (zzc _))
   have v:=z3n (fun x=>ltT d[a]! x) d (Sort.scanUp (fun x=> !ltT d[a]! x) d j i) j;rw[if_pos (by omega)]at h;rw[z1f h,z9n,if_pos (by omega)];exact⟨_,rfl⟩
 |succ n ih=>
  intro i j fuel d hn hf hi hi2 hj hB;cases fuel with
  |zero=>omega
  |succ fuel=>
   have h:=hB i j d rfl hi hi2 hj;have u:=(z5r (fun x=> !ltT d[a]! x) d j _ i (zzc _))
   have v:=z3n (fun x=>ltT d[a]! x) d (Sort.scanUp (fun x=> !ltT d[a]! x) d j i) j;rw[z9n];generalize Sort.scanUp (fun x=> !ltT d[a]! x) d j i=i2 at*;generalize Sort.scanDown (fun x=>ltT d[a]! x) d i2 j=j2 at*;by_cases hc:i2>j2
   ·rw[if_pos hc]at h;rw[z1f h,if_pos hc];exact⟨_,rfl⟩
   ·rw[if_neg hc]at h;rw[z21 h,if_neg hc];exact ih _ _ _ _ (by omega) (by omega) (by omega) (by rw[z1l];omega) (by rw[z1l];omega) (fun i' j' d' h1 h2 h3 h4=>hB i' j' d' (by rw[h1,z1l]) h2 (by rw[z1l]at h3;exact h3) (by rw[z1l]at h4;exact h4))
theorem zrd {X Y Z R Q:Type}{o:Option (Out (X×Y×Z) R)}{kn:X×Y×Z→Option Q}{kr:R→Option Q}{y:Y}{z:Z}{q:Option Q}(h: ∃x:X,o=some (.done (x,y,z)))(hk: ∀x,kn (x,y,z)=q):outK o kn kr=q:=by
 obtain⟨x,h⟩:=h;rw[h];exact hk x
theorem zre {X Y Z R Q:Type}{o:Option (Out (X×Y×Z) R)}{kn:X×Y×Z→Option Q}{kr:R→Option Q}{x:X}{z:Z}{q:Option Q}(h: ∃y:Y,o=some (.done (x,y,z)))(hk: ∀y,kn (x,y,z)=q):outK o kn kr=q:=by
 obtain⟨y,h⟩:=h;rw[h];exact hk y
theorem zh8 {fuel a b pivot:Nat}{d:Array Time}(hp:a≤pivot∧pivot<b)(hab:a+1<b)(hb:b≤d.size)(hd:d.size<1152921504606846976)(hf:d.size+2<fuel):
 z1q fuel (a:Int) (b:Int) (pivot:Int) d.toList=some (((Sort.partitionEqual ltT d a b pivot).1:Int),(Sort.partitionEqual ltT d a b pivot).2.toList):=by
 unfold z1q Sort.partitionEqual;have w1:zzi.wrap ((a:Int)+1)=((a+1:Nat):Int):=wadd1 (by omega)
 have w2:zzi.wrap ((b:Int)-1)=((b-1:Nat):Int):=wsub1 (by omega) (by omega);rw[w1,w2];simp only[zz5,zz4,zz1,zz9,z2c,z3t];rw[z0a (by omega),z0a (by omega),z0a (by omega),z0a (by omega),z0a (by omega),z0a (by omega),z0a (by omega),z0a (by omega)];have hsz:=z1l d a pivot
 generalize Sort.swp d a pivot=d1 at*;refine zre (zn7 (a:=a) d1.size (a+1) (b-1) fuel d1 (by omega) (by omega) (by omega) (by omega) (by omega) ?_) (fun x=>rfl);intro i j e he hi hi2 hj;simp only;have u:=(z5r (fun x=> !ltT e[a]! x) e j _ i (zzc _))
 have v:=z3n (fun x=>ltT e[a]! x) e (Sort.scanUp (fun x=> !ltT e[a]! x) e j i) j;rw[zdz (R:=Empty) (fun i:Nat=>(i:Int)) (fun x=> !ltT e[a]! x) e (j:=j) d1.size i fuel (by omega) (by omega) (fun k h1 h2=>?_)]
 ·simp only[z4q];generalize Sort.scanUp (fun x=> !ltT e[a]! x) e j i=i2 at*;rw[zc0 (R:=Empty) (fun i:Nat=>(i:Int)) (fun x=>ltT e[a]! x) e (i:=i2) (by omega) j fuel (by omega) (fun k h1=>?_)]
  ·simp only[z4q,z0d,intlt,gt_iff_lt];generalize Sort.scanDown (fun x=>ltT e[a]! x) e i2 j=j2 at*;by_cases hc:j2<i2
   ·rw[if_pos hc,if_pos hc]
   ·rw[if_neg hc,if_neg hc];simp(disch:=omega) only[wsub1,wadd1,zz5,zz4,z0a,zz1,zz9,z2c,z3t]
  ·simp only[jn_eq,z0d,intle];by_cases hc:i2≤k
   ·rw[if_pos hc];simp(disch:=omega) only[wsub1,zz5,zz4,z0a,zz1,z3c,zz0,z2c,z0d,hc,true_and];unfold ltT;by_cases h:cmpT e[a]! e[k]! <0
    ·simp[h]
    ·simp[h]
   ·rw[if_neg hc,if_neg (fun h=>hc h.1),z0n]
 ·simp only[jn_eq,z0d,intle];by_cases hc:k≤j
  ·rw[if_pos hc];simp(disch:=omega) only[wadd1,zz5,zz4,z0a,zz1,z3c,zz0,z2c,hc,true_and];unfold ltT;by_cases h:cmpT e[a]! e[k]! <0
   ·simp[h]
   ·simp[h]
  ·rw[if_neg hc,if_neg (fun h=>hc h.1),z0n]
theorem zl5 {a:Nat}: ∀(n i j:Nat) (d:Array Time),j+1-i≤n→1≤i→i≤d.size→j<d.size→(Sort.partLoop ltT a i j d).1≤j∧(Sort.partLoop ltT a i j d).2.size=d.size:=by
 intro n;induction n with
 |zero=>
  intro i j d hn hi hi2 hj;have u:=(z5r (fun x=>ltT x d[a]!) d j _ i (zzc _))
  have v:=z3n (fun x=> !ltT x d[a]!) d (Sort.scanUp (fun x=>ltT x d[a]!) d j i) j;rw[zau,if_pos (by omega)];exact⟨v,rfl⟩
 |succ n ih=>
  intro i j d hn hi hi2 hj;have u:=(z5r (fun x=>ltT x d[a]!) d j _ i (zzc _))
  have v:=z3n (fun x=> !ltT x d[a]!) d (Sort.scanUp (fun x=>ltT x d[a]!) d j i) j;rw[zau];generalize Sort.scanUp (fun x=>ltT x d[a]!) d j i=i2 at*;generalize Sort.scanDown (fun x=> !ltT x d[a]!) d i2 j=j2 at*;by_cases hc:i2>j2
  ·rw[if_pos hc];exact⟨v,rfl⟩
  ·rw[if_neg hc];have:=ih (i2+1) (j2-1) (Sort.swp d i2 j2) (by omega) (by omega) (by rw[z1l];omega) (by rw[z1l];omega);rw[z1l]at this;omega
theorem zm8 {fuel a b pivot:Nat}{d:Array Time}(hp:a≤pivot∧pivot<b)(hab:a+1<b)(hb:b≤d.size)(hd:d.size<1152921504606846976)(hf:d.size+2<fuel):
 z29 fuel (a:Int) (b:Int) (pivot:Int) d.toList=some (((Sort.partition ltT d a b pivot).1:Int),(Sort.partition ltT d a b pivot).2.1,(Sort.partition ltT d a b pivot).2.2.toList):=by
 unfold z29 Sort.partition;have w1:zzi.wrap ((a:Int)+1)=((a+1:Nat):Int):=wadd1 (by omega)
 have w2:zzi.wrap ((b:Int)-1)=((b-1:Nat):Int):=wsub1 (by omega) (by omega);rw[w1,w2];simp only[zz5,zz4,zz1,zz9,z2c,z3t];rw[z0a (by omega),z0a (by omega),z0a (by omega),z0a (by omega),z0a (by omega),z0a (by omega),z0a (by omega),z0a (by omega)];have hsz:=z1l d a pivot
 generalize Sort.swp d a pivot=e at*;have u:=(z5r (fun x=>ltT x e[a]!) e (b-1) _ (a+1) (zzc _))
 have v:=z3n (fun x=> !ltT x e[a]!) e (Sort.scanUp (fun x=>ltT x e[a]!) e (b-1) (a+1)) (b-1);rw[zdz (R:=Empty) (fun i:Nat=>((i:Int),((b-1:Nat):Int))) (fun x=>ltT x e[a]!) e (j:=b-1) e.size (a+1) fuel (by omega) (by omega) (fun k h1 h2=>?_)]
 ·simp only[z4q];generalize Sort.scanUp (fun x=>ltT x e[a]!) e (b-1) (a+1)=i2 at*;rw[zc0 (R:=Empty) (fun i:Nat=>(i:Int)) (fun x=> !ltT x e[a]!) e (i:=i2) (by omega) (b-1) fuel (by omega) (fun k h1=>?_)]
  ·simp only[z4q,z0d,intlt,gt_iff_lt];generalize Sort.scanDown (fun x=> !ltT x e[a]!) e i2 (b-1)=j2 at*;by_cases hc:j2<i2
   ·rw[if_pos hc,if_pos hc];simp(disch:=omega) only[zz5,zz4,z0a,zz1,zz9,z2c,z3t]
   ·rw[if_neg hc,if_neg hc];have w3:zzi.wrap ((i2:Int)+1)=((i2+1:Nat):Int):=wadd1 (by omega);have w4:zzi.wrap ((j2:Int)-1)=((j2-1:Nat):Int):=wsub1 (by omega) (by omega)
    rw[w3,w4];simp only[zz5,zz4,zz1,zz9,z2c,z3t];rw[z0a (by omega),z0a (by omega),z0a (by omega),z0a (by omega),z0a (by omega),z0a (by omega),z0a (by omega),z0a (by omega)];have hsz2:=z1l e i2 j2
    generalize Sort.swp e i2 j2=f at*;refine zrd (zq2 (a:=a) f.size (i2+1) (j2-1) fuel f (by omega) (by omega) (by omega) (by omega) (by omega) ?_) (fun x=>?_)
    ·intro i j g he hi hi2 hj;simp only;have u:=(z5r (fun x=>ltT x g[a]!) g j _ i (zzc _))
     have v:=z3n (fun x=> !ltT x g[a]!) g (Sort.scanUp (fun x=>ltT x g[a]!) g j i) j;rw[zdz (R:=Empty) (fun i:Nat=>(i:Int)) (fun x=>ltT x g[a]!) g (j:=j) f.size i fuel (by omega) (by omega) (fun k h1 h2=>?_)]
     ·simp only[z4q];generalize Sort.scanUp (fun x=>ltT x g[a]!) g j i=i3 at*;rw[zc0 (R:=Empty) (fun i:Nat=>(i:Int)) (fun x=> !ltT x g[a]!) g (i:=i3) (by omega) j fuel (by omega) (fun k h1=>?_)]
      ·simp only[z4q,z0d,intlt,gt_iff_lt];generalize Sort.scanDown (fun x=> !ltT x g[a]!) g i3 j=j3 at*;by_cases hc:j3<i3
       ·rw[if_pos hc,if_pos hc]
       ·rw[if_neg hc,if_neg hc];simp(disch:=omega) only[wsub1,wadd1,zz5,zz4,z0a,zz1,zz9,z2c,z3t]
      ·simp only[jn_eq,z0d,intle];by_cases hc:i3≤k
       ·rw[if_pos hc];simp(disch:=omega) only[wsub1,zz5,zz4,z0a,zz1,z3c,zz0,z2c,z0d,hc,true_and];unfold ltT;by_cases h:cmpT g[k]! g[a]! <0
        ·simp[h]
        ·simp[h]
       ·rw[if_neg hc,if_neg (fun h=>hc h.1),z0n]
     ·simp only[jn_eq,z0d,intle];by_cases hc:k≤j
      ·rw[if_pos hc];simp(disch:=omega) only[wadd1,zz5,zz4,z0a,zz1,z3c,zz0,z2c,hc,true_and];unfold ltT;by_cases h:cmpT g[k]! g[a]! <0
       ·simp[h]
       ·simp[h]
      ·rw[if_neg hc,if_neg (fun h=>hc h.1),z0n]
    ·have hl:=zl5 (a:=a) f.size (i2+1) (j2-1) f (by omega) (by omega) (by omega) (by omega);generalize Sort.partLoop ltT a (i2+1) (j2-1) f=r at*;simp(disch:=omega) only[zz5,zz4,z0a,zz1,zz9,z2c,z3t]
  ·simp only[jn_eq,z0d,intle];by_cases hc:i2≤k
   ·rw[if_pos hc];simp(disch:=omega) only[wsub1,zz5,zz4,z0a,zz1,z3c,zz0,z2c,z0d,hc,true_and];unfold ltT;by_cases h:cmpT e[k]! e[a]! <0
    ·simp[h]
    ·simp[h]
   ·rw[if_neg hc,if_neg (fun h=>hc h.1),z0n]
 ·simp only[jn_eq,z0d,intle];by_cases hc:k≤b-1
  ·rw[if_pos hc];simp(disch:=omega) only[wadd1,zz5,zz4,z0a,zz1,z3c,zz0,z2c,hc,true_and];unfold ltT;by_cases h:cmpT e[k]! e[a]! <0
   ·simp[h]
   ·simp[h]
  ·rw[if_neg hc,if_neg (fun h=>hc h.1),z0n]
end Go.Av
namespace Go.Av
open Go
theorem zd7: ∀(j:Nat) (d:Array Time),(Sort.shiftDown ltT j d).size=d.size
 |0,d=>rfl
 |j+1,d=>by
  unfold Sort.shiftDown;split
  ·rfl
  ·rw[zd7 j,z1l]
theorem zju {B:Int×List Time→Option (Ctl (Int×List Time) Empty)}: ∀(j fuel:Nat) (d:Array Time),j<fuel→j<d.size→
 (∀(j:Nat) (d':Array Time),d'.size=d.size→j<d.size→B ((j:Int),d'.toList)=if 1≤j∧ltT d'[j]! d'[j-1]! =true then some (.next (((j-1:Nat):Int),(Sort.swp d' j (j-1)).toList))else some (.brk ((j:Int),d'.toList)))→
 ∃x:Int,loopN B fuel ((j:Int),d.toList)=some (.done (x,(Sort.shiftDown ltT j d).toList)):=by
 intro j;induction j with
 |zero=>
  intro fuel d hf hj hB;cases fuel with
  |zero=>omega
  |succ fuel=>
   have h:=hB 0 d rfl hj;rw[if_neg (by omega)]at h;rw[z1f h];exact⟨_,rfl⟩
 |succ j ih=>
  intro fuel d hf hj hB;cases fuel with
  |zero=>omega
  |succ fuel=>
   have h:=hB (j+1) d rfl hj;rw[Nat.add_sub_cancel]at h;unfold Sort.shiftDown;by_cases hc:ltT d[j+1]! d[j]! =true
   ·rw[if_pos ⟨by omega,hc⟩]at h;rw[z21 h,if_neg (by simp[hc])];exact ih fuel _ (by omega) (by rw[z1l];omega) (fun j' d' h1 h2=>hB j' d' (by rw[h1,z1l]) (by rw[z1l]at h2;exact h2))
   ·rw[if_neg (fun h=>hc h.2)]at h;rw[z1f h,if_pos (by simpa using hc)];exact⟨_,rfl⟩
theorem zov (b:Nat): ∀(n j:Nat) (d:Array Time),b-j≤n→(Sort.shiftUp ltT b j d).size=d.size:=by
 intro n;induction n with
 |zero=>intro j d hn;rw[Sort.shiftUp,if_neg (by omega)]
 |succ n ih=>
  intro j d hn;rw[Sort.shiftUp];split
  ·split
   ·rfl
   ·rw[ih _ _ (by omega),z1l]
  ·rfl
theorem zmk {B:Int×List Time→Option (Ctl (Int×List Time) Empty)}{b:Nat}: ∀(n j fuel:Nat) (d:Array Time),b-j≤n→n<fuel→1≤j→b≤d.size→
 (∀(j:Nat) (d':Array Time),d'.size=d.size→1≤j→B ((j:Int),d'.toList)=if j<b∧ltT d'[j]! d'[j-1]! =true then some (.next (((j+1:Nat):Int),(Sort.swp d' j (j-1)).toList))else some (.brk ((j:Int),d'.toList)))→
 ∃x:Int,loopN B fuel ((j:Int),d.toList)=some (.done (x,(Sort.shiftUp ltT b j d).toList)):=by
 intro n;induction n with
 |zero=>
  intro j fuel d hn hf hj hb hB;cases fuel with
  |zero=>omega
  |succ fuel=>
   have h:=hB j d rfl hj;rw[if_neg (by omega)]at h;rw[z1f h,Sort.shiftUp,if_neg (by omega)];exact⟨_,rfl⟩
 |succ n ih=>
  intro j fuel d hn hf hj hb hB;cases fuel with
  |zero=>omega
  |succ fuel=>
   have h:=hB j d rfl hj;rw[Sort.shiftUp];by_cases hjb:j<b
   ·rw[if_pos hjb];by_cases hc:ltT d[j]! d[j-1]! =true
    ·rw[if_pos ⟨hjb,hc⟩]at h;rw[z21 h,if_neg (by simp[hc])];exact ih _ fuel _ (by omega) (by omega) (by omega) (by rw[z1l];omega) (fun j' d' h1 h2=>hB j' d' (by rw[h1,z1l]) h2)
    ·rw[if_neg (fun h=>hc h.2)]at h;rw[z1f h,if_pos (by simpa using hc)];exact⟨_,rfl⟩
   ·rw[if_neg (fun h=>hjb h.1)]at h;rw[z1f h,if_neg hjb];exact⟨_,rfl⟩
theorem zdo {B:Int→Option (Ctl Int Empty)}{b:Nat}{d:Array Time}: ∀(n i fuel:Nat),b-i≤n→n<fuel→1≤i→
 (∀(i':Nat),i≤i'→B (i':Int)=if i'<b∧ltT d[i']! d[i'-1]! =false then some (.next ((i'+1:Nat):Int))else some (.brk (i':Int)))→
 loopN B fuel (i:Int)=some (.done ((Sort.scanSorted ltT d b i:Nat):Int))∧i≤Sort.scanSorted ltT d b i∧(i≤b→Sort.scanSorted ltT d b i≤b):=by
 intro n;induction n with
 |zero=>
  intro i fuel hn hf hi hB;cases fuel with
  |zero=>omega
  |succ fuel=>
   have h:=hB i (zzc _);rw[if_neg (by omega)]at h;rw[z1f h,Sort.scanSorted,if_neg (by simp;omega)];exact⟨rfl,zzc _,fun h=>h⟩
 |succ n ih=>
  intro i fuel hn hf hi hB;cases fuel with
  |zero=>omega
  |succ fuel=>
   have h:=hB i (zzc _);rw[Sort.scanSorted];by_cases hc:i<b∧ltT d[i]! d[i-1]! =false
   ·rw[if_pos hc]at h;rw[z21 h,if_pos (by simpa using hc)];obtain⟨h1,h2,h3⟩:=ih (i+1) fuel (by omega) (by omega) (by omega) (fun i' h=>hB i' (by omega));exact⟨h1,by omega,fun h=>h3 (by omega)⟩
   ·rw[if_neg hc]at h;rw[z1f h,if_neg (by simpa using hc)];exact⟨rfl,zzc _,fun h=>h⟩
def zei (a b i:Nat)(d:Array Time):Array Time:=
 let d:=Sort.swp d i (i-1)
 let d:=if i-a≥2 then Sort.shiftDown ltT (i-1) d else d
 if b-i≥2 then Sort.shiftUp ltT b (i+1) d else d
theorem zf5 (a b i:Nat)(d:Array Time):(zei a b i d).size=d.size:=by
 unfold zei;dsimp only;split<;>split<;>simp[zov b b _ _ (Nat.sub_le _ _),zd7,z1l]
theorem zeh (a b s i:Nat)(d:Array Time):Sort.partialIns ltT a b (s+1) i d=
 if Sort.scanSorted ltT d b i=b then(d,true)else if b-a<50 then(d,false)else Sort.partialIns ltT a b s (Sort.scanSorted ltT d b i) (zei a b (Sort.scanSorted ltT d b i) d):=rfl
theorem zrf {B:Int×Int×List Time→Option (Ctl (Int×Int×List Time) (Bool×List Time))}{a b:Nat}{Q:Type}{kn:Int×Int×List Time→Option Q}{kr:Bool×List Time→Option Q}{q:Option Q}: ∀(s i fuel:Nat) (d:Array Time),s≤5→s<fuel→a<i→i≤b→
 (∀(i:Nat) (d':Array Time),d'.size=d.size→a<i→i≤b→i≤Sort.scanSorted ltT d' b i∧Sort.scanSorted ltT d' b i≤b)→
 (∀(s i:Nat) (d':Array Time),d'.size=d.size→s≤5→a<i→i≤b→B ((i:Int),((5-s:Nat):Int),d'.toList)=match s with
  |0=>some (.brk ((i:Int),5,d'.toList))
  |s+1=>if Sort.scanSorted ltT d' b i=b then some (.ret (true,d'.toList))else if b-a<50 then some (.ret (false,d'.toList))else some (.next (((Sort.scanSorted ltT d' b i:Nat):Int),((5-s:Nat):Int),(zei a b (Sort.scanSorted ltT d' b i) d').toList)))→
 (∀x,(Sort.partialIns ltT a b s i d).2=false→kn (x,5,(Sort.partialIns ltT a b s i d).1.toList)=q)→(kr ((Sort.partialIns ltT a b s i d).2,(Sort.partialIns ltT a b s i d).1.toList)=q)→
 outK (loopN B fuel ((i:Int),((5-s:Nat):Int),d.toList)) kn kr=q:=by
 intro s;induction s with
 |zero=>
  intro i fuel d hs hf hi hib hsc hB hkn hkr;cases fuel with
  |zero=>omega
  |succ fuel=>
   rw[z1f (hB 0 i d rfl hs hi hib)];exact hkn _ rfl
 |succ s ih=>
  intro i fuel d hs hf hi hib hsc hB hkn hkr;cases fuel with
  |zero=>omega
  |succ fuel=>
   have h:=hB (s+1) i d rfl hs hi hib;simp only at h;rw[zeh]at hkn hkr;have hb:=hsc i d rfl hi hib
   by_cases h1:Sort.scanSorted ltT d b i=b
   ·rw[if_pos h1]at h;rw[z9b h];rw[if_pos h1]at hkr;exact hkr
   ·rw[if_neg h1]at h hkn hkr;by_cases h2:b-a<50
    ·rw[if_pos h2]at h;rw[z9b h];rw[if_pos h2]at hkr;exact hkr
    ·rw[if_neg h2]at h hkn hkr;rw[z21 h];exact ih _ fuel _ (by omega) (by omega) (by omega) (by omega) (fun i' d' h1 h2 h3=>hsc i' d' (by rw[h1,zf5]) h2 h3) (fun s' i' d' h1 h2 h3 h4=>hB s' i' d' (by rw[h1,zf5]) h2 h3 h4) hkn hkr
theorem zda {fuel a b:Nat}{d:Array Time}(hab:a<b)(hb:b≤d.size)(hd:d.size<1152921504606846976)(hf:d.size+10<fuel):
 z14 fuel (a:Int) (b:Int) d.toList=some ((Sort.partialInsertionSort ltT d a b).2,(Sort.partialInsertionSort ltT d a b).1.toList):=by
 unfold z14 Sort.partialInsertionSort;rw[wadd1 (by omega)];refine zrf (a:=a) (b:=b) 5 (a+1) fuel d (by omega) (by omega) (by omega) (by omega) ?_ ?_ (fun x h=>by rw[h]) rfl
 ·intro i e he h1 h2;have:=(zdo (B:=fun x=>if x.toNat<b∧ltT e[x.toNat]! e[x.toNat-1]! =false then some (.next ((x.toNat+1:Nat):Int))else some (.brk (x.toNat:Int))) (b:=b) (d:=e) b i (b+1) (by omega) (by omega) (by omega) (fun i' h=>by simp only[zz5]))
  exact⟨this.2.1,this.2.2 h2⟩
 ·intro s i e he hs hi hib;cases s with
  |zero=>rfl
  |succ s=>
   simp only[z0d,jn_eq];rw[if_pos (show((5-(s+1):Nat):Int)<5 by omega)];obtain⟨g1,g2,g3⟩:=zdo (B:=fun(a5:Int)=>if(a5<(b:Int))then(need ((0:Int)≤a5∧a5<(e.toList.length:Int))<|need ((0+a5.toNat)<e.toList.length)<|need ((0:Int)≤(zzi.wrap (a5-1))∧(zzi.wrap (a5-1))<(e.toList.length:Int))<|need ((0+(zzi.wrap (a5-1)).toNat)<e.toList.length)<|(z1m (e.toList.getD (0+a5.toNat) zzd) (e.toList.getD (0+(zzi.wrap (a5-1)).toNat) zzd)).bind fun r54=>bf (!(decide (r54<0))) (some (.next (zzi.wrap (a5+1)))) (some (.brk a5)))else(bf false (some (.next (zzi.wrap (a5+1)))) (some (.brk a5)))) (b:=b) (d:=e) b i fuel (by omega) (by omega) (by omega) (fun k hk=>by
    simp only[jn_eq,intlt];by_cases hc:k<b
    ·rw[if_pos hc];simp(disch:=omega) only[wsub1,wadd1,zz5,zz4,z0a,zz1,z3c,zz0,z2c,hc,true_and];unfold ltT;by_cases h:cmpT e[k]! e[k-1]! <0
     ·simp[h]
     ·simp[h]
    ·rw[if_neg hc,if_neg (fun h=>hc h.1),z0n])
   rw[g1];simp only[z4q];have g3:=g3 hib
   generalize Sort.scanSorted ltT e b i=i2 at*;by_cases h1:i2=b
   ·rw[if_pos h1,if_pos (by omega)]
   ·rw[if_neg h1,if_neg (by omega),wsub (by omega) (by omega)];by_cases h2:b-a<50
    ·rw[if_pos h2,if_pos (by omega)]
    ·rw[if_neg h2,if_neg (by omega)];have w1:zzi.wrap ((i2:Int)+1)=((i2+1:Nat):Int):=wadd1 (by omega);have w2:zzi.wrap ((i2:Int)-1)=((i2-1:Nat):Int):=wsub1 (by omega) (by omega)
     have w3:zzi.wrap ((i2:Int)-(a:Int))=((i2-a:Nat):Int):=wsub (by omega) (by omega);have w4:zzi.wrap ((b:Int)-(i2:Int))=((b-i2:Nat):Int):=wsub (by omega) (by omega)
     have w5:zzi.wrap (((5-(s+1):Nat):Int)+1)=((5-s:Nat):Int):=by rw[wadd1 (by omega)];omega
     simp only[w1,w2,w3,w4,w5,zz5,zz4,zz1,zz9,z2c,z3t,jn_eq];rw[z0a (by omega),z0a (by omega),z0a (by omega),z0a (by omega),z0a (by omega),z0a (by omega),z0a (by omega),z0a (by omega)];unfold zei;dsimp only;have hsz:=z1l e i2 (i2-1)
     generalize Sort.swp e i2 (i2-1)=f at*;have up: ∀g:Array Time,g.size=e.size→(if(2:Int)≤((b-i2:Nat):Int)then(outK (loopN (S:=Int×(List Time)) (R:=Empty) (fun(a17:Int×(List Time))=>if(a17.1<(b:Int))then(need ((0:Int)≤a17.1∧a17.1<(a17.2.length:Int))<|need (a17.1.toNat<a17.2.length)<|need ((0:Int)≤(zzi.wrap (a17.1-1))∧(zzi.wrap (a17.1-1))<(a17.2.length:Int))<|need ((zzi.wrap (a17.1-1)).toNat<a17.2.length)<|(z1m (a17.2.getD a17.1.toNat zzd) (a17.2.getD (zzi.wrap (a17.1-1)).toNat zzd)).bind fun r23=>bf (!(decide (r23<0))) (some (.brk (a17.1,a17.2))) (need ((0:Int)≤(zzi.wrap (a17.1-1))∧(zzi.wrap (a17.1-1))<(a17.2.length:Int))<|need ((zzi.wrap (a17.1-1)).toNat<a17.2.length)<|need ((0:Int)≤a17.1∧a17.1<(a17.2.length:Int))<|need (a17.1.toNat<a17.2.length)<|need ((0:Int)≤a17.1∧a17.1<(a17.2.length:Int))<|need (a17.1.toNat<a17.2.length)<|need ((0:Int)≤(zzi.wrap (a17.1-1))∧(zzi.wrap (a17.1-1))<(a17.2.length:Int))<|need ((zzi.wrap (a17.1-1)).toNat<a17.2.length)<|some (.next ((zzi.wrap (a17.1+1)),((a17.2.set a17.1.toNat (a17.2.getD (zzi.wrap (a17.1-1)).toNat zzd)).set (zzi.wrap (a17.1-1)).toNat (a17.2.getD a17.1.toNat zzd))))))else(some (.brk (a17.1,a17.2)))) fuel (((i2+1:Nat):Int),g.toList)) (fun(a18:Int×(List Time))=>some (Ctl.next ((i2:Int),((5-s:Nat):Int),a18.2))) (fun(x:Empty)=>x.elim))else some (Ctl.next ((i2:Int),((5-s:Nat):Int),g.toList)))=(some (Ctl.next ((i2:Int),((5-s:Nat):Int),(if b-i2≥2 then Sort.shiftUp ltT b (i2+1) g else g).toList)):Option (Ctl (Int×Int×List Time) (Bool×List Time))):=fun g hg=>by
      by_cases h3:b-i2≥2
      ·rw[if_pos h3,if_pos (by omega)];refine z8l (zmk (b:=b) b (i2+1) fuel g (by omega) (by omega) (by omega) (by omega) ?_) (fun x=>rfl);intro j g' hg' hj;simp only[intlt];by_cases hc:j<b
       ·rw[if_pos hc];simp(disch:=omega) only[wsub1,wadd1,zz5,zz4,z0a,zz1,zz9,z3c,zz0,z2c,z3t,hc,true_and];unfold ltT;by_cases h:cmpT g'[j]! g'[j-1]! <0
        ·simp[h]
        ·simp[h]
       ·rw[if_neg hc,if_neg (fun h=>hc h.1)]
      ·rw[if_neg h3,if_neg (by omega)]
     by_cases h4:i2-a≥2
     ·rw[if_pos h4,if_pos (by omega)];refine z8l (zju (i2-1) fuel f (by omega) (by omega) ?_) (fun x=>?_)
      ·intro j g' hg' hj;by_cases hc:1≤j
       ·simp only[show((1:Int)≤(j:Int))=True from eq_true (by omega),if_true];simp(disch:=omega) only[wsub1,wadd1,zz5,zz4,z0a,zz1,zz9,z3c,zz0,z2c,z3t,hc,true_and];unfold ltT;by_cases h:cmpT g'[j]! g'[j-1]! <0
        ·simp[h]
        ·simp[h]
       ·rw[if_neg (by simp only;omega),if_neg (fun h=>hc h.1)]
      ·exact up (Sort.shiftDown ltT (i2-1) f) (by rw[zd7];omega)
     ·rw[if_neg h4,if_neg (by omega)];exact up f (by omega)
end Go.Av
namespace Go.Av
open Go
theorem zsc: ∀x:Fin 256,∃l:Fin 9,bt z41 (x.val:Int)=(l.val:Int)∧x.val<2^l.val∧(x.val=0→l.val=0)∧(x.val≠0→2^(l.val-1)≤x.val∧0<l.val):=by decide+kernel
def IsLen (n L:Nat):Prop:=n<2^L∧(n=0→L=0)∧(n≠0→2^(L-1)≤n∧0<L)
theorem IsLen.shift {n L s:Nat}(h:IsLen (n / 2^s) L)(hn:2^s≤n):IsLen n (L+s):=by
 obtain⟨h1,h2,h3⟩:=h;have hp:0<2^s:=Nat.pow_pos (by decide)
 have hq:n / 2^s≠0:=Nat.ne_of_gt (Nat.div_pos hn hp);obtain⟨h4,h5⟩:=h3 hq;refine⟨?_,fun h=>by omega,fun _=>⟨?_,by omega⟩⟩
 ·rw[Nat.pow_add];exact(Nat.div_lt_iff_lt_mul hp).1 h1
 ·rw[show L+s-1=(L-1)+s by omega,Nat.pow_add];exact(Nat.le_div_iff_mul_le hp).1 h4
theorem zr5 {n:Nat}(h:n<2^64): ∃L:Nat,z82 (n:Int)=some (L:Int)∧IsLen n L∧L≤64:=by
 have last: ∀(x b:Nat),x<256→b≤56→ ∃L:Nat,(need ((0:Int)≤(IntKind.u8.wrap (x:Int))∧(IntKind.u8.wrap (x:Int))<(z41.size:Int))<|some (zzi.wrap ((b:Int)+(zzi.wrap (bt z41 (IntKind.u8.wrap (x:Int)))))))=some ((L+b:Nat):Int)∧IsLen x L∧L≤8:=fun x b hx hb=>by
  obtain⟨l,h1,h2,h3,h4⟩:=zsc ⟨x,hx⟩;have e:IntKind.u8.wrap (x:Int)=(x:Int):=uwrap (k:= .u8) rfl hx
  have hsz:z41.size=256:=by decide+kernel
  rw[e,hsz,z0a (by omega),h1];have hl:=l.isLt;refine⟨l.val,?_,⟨h2,h3,h4⟩,by omega⟩;rw[z2t (n:=(l.val:Int)) (by omega) (by omega),z2t (by omega) (by omega)];exact congrArg some (by omega)
 have s8: ∀x:Nat,shrOp .u64 (x:Int) 8=((x / 2^8:Nat):Int):=fun x=>zel .u64 x 8 (by decide);have s16: ∀x:Nat,shrOp .u64 (x:Int) 16=((x / 2^16:Nat):Int):=fun x=>zel .u64 x 16 (by decide)
 have s32: ∀x:Nat,shrOp .u64 (x:Int) 32=((x / 2^32:Nat):Int):=fun x=>zel .u64 x 32 (by decide);have p8: ∀(x b:Nat),x<65536→b≤48→ ∃L:Nat,bf (decide (256≤(x:Int))) (need ((0:Int)≤(IntKind.u8.wrap (shrOp .u64 (x:Int) 8))∧(IntKind.u8.wrap (shrOp .u64 (x:Int) 8))<(z41.size:Int))<|some (zzi.wrap ((zzi.wrap ((b:Int)+8))+(zzi.wrap (bt z41 (IntKind.u8.wrap (shrOp .u64 (x:Int) 8))))))) (need ((0:Int)≤(IntKind.u8.wrap (x:Int))∧(IntKind.u8.wrap (x:Int))<(z41.size:Int))<|some (zzi.wrap ((b:Int)+(zzi.wrap (bt z41 (IntKind.u8.wrap (x:Int)))))))=some ((L+b:Nat):Int)∧IsLen x L∧L≤16:=fun x b hx hb=>by
  rw[z0d];by_cases h1:256≤(x:Int)
  ·rw[if_pos h1,s8,z2t (n:=(b:Int)+8) (by omega) (by omega)];obtain⟨L,g1,g2,g3⟩:=last (x / 2^8) (b+8) (by omega) (by omega);rw[show((b+8:Nat):Int)=(b:Int)+8 by omega]at g1;refine⟨L+8,?_,g2.shift (by omega),by omega⟩;exact g1.trans (congrArg some (by omega))
  ·rw[if_neg h1];obtain⟨L,g1,g2,g3⟩:=last x b (by omega) (by omega);exact⟨L,g1,g2,by omega⟩
 unfold z82;simp only[jn_eq];by_cases h1:4294967296≤(n:Int)
 ·rw[z0d,if_pos h1,s32,z0d];by_cases h2:65536≤((n / 2^32:Nat):Int)
  ·rw[if_pos h2,s16,show zzi.wrap (32+16)=((48:Nat):Int)from by decide];obtain⟨L,g1,g2,g3⟩:=p8 (n / 2^32 / 2^16) 48 (by omega) (by omega);refine⟨L+48,g1,?_,by omega⟩;have:=(g2.shift (by omega)).shift (n:=n) (s:=32) (by omega)
   rw[Nat.add_assoc]at this;exact this
  ·rw[if_neg h2];obtain⟨L,g1,g2,g3⟩:=p8 (n / 2^32) 32 (by omega) (by omega);exact⟨L+32,g1,g2.shift (by omega),by omega⟩
 ·rw[z0d,if_neg h1,z0d];by_cases h2:65536≤(n:Int)
  ·rw[if_pos h2,s16,show zzi.wrap (0+16)=((16:Nat):Int)from by decide];obtain⟨L,g1,g2,g3⟩:=p8 (n / 2^16) 16 (by omega) (by omega);exact⟨L+16,g1,g2.shift (by omega),by omega⟩
  ·rw[if_neg h2];obtain⟨L,g1,g2,g3⟩:=p8 n 0 (by omega) (by omega);exact⟨L,by rw[show((0:Nat):Int)=0 from rfl]at g1;exact g1,g2,by omega⟩
theorem zr7 {n L K:Nat}(h:IsLen n L)(g:IsLen n K):L=K:=by
 obtain⟨h1,h2,h3⟩:=h;obtain⟨g1,g2,g3⟩:=g;by_cases h0:n=0
 ·rw[h2 h0,g2 h0]
 ·obtain⟨h4,h5⟩:=h3 h0;obtain⟨g4,g5⟩:=g3 h0;rcases Nat.lt_trichotomy L K with e|e|e
  ·have:=Nat.pow_le_pow_right (n:=2) (by decide) (show L≤K-1 by omega);omega
  ·exact e
  ·have:=Nat.pow_le_pow_right (n:=2) (by decide) (show K≤L-1 by omega);omega
theorem zob (n:Nat):IsLen n (Sort.bitsLen n):=by
 refine⟨Sort.lt_two_pow_bitsLen n,fun h=>by rw[h];rfl,fun h=>?_⟩;have hp:0<Sort.bitsLen n:=by unfold Sort.bitsLen;rw[if_neg h];omega
 refine⟨?_,hp⟩;have:=mt (Sort.bitsLen_le_iff n (Sort.bitsLen n-1)).2 (by omega)
 omega
theorem zia {n k:Nat}(h:n<2^k):Sort.bitsLen n≤k:=(Sort.bitsLen_le_iff n k).2 h
theorem zpx {n:Nat}(h:n<2^64):z7l (n:Int)=some ((Sort.bitsLen n:Nat):Int):=by
 unfold z7l;have e:zzu.wrap (n:Int)=(n:Int):=uwrap (k:= .u64) rfl h
 obtain⟨L,e1,e2,_⟩:=zr5 h;rw[show Sort.bitsLen n=L from zr7 (zob n) e2]
 first
  |rw[e,e1];rfl
  |(rw[e1];rfl)
end Go.Av
namespace Go.Av
open Go
theorem zsg {x:Nat}(h:x<2^64):z4v (x:Int)=some (((Sort.xorNextN x:Nat):Int),((Sort.xorNextN x:Nat):Int)):=by
 unfold z4v;have s13: ∀y:Nat,shlOp .u64 (y:Int) 13=((y*8192 % 18446744073709551616:Nat):Int):=fun y=>by
  have:=zjv (k:= .u64) y 13 (by decide);rw[show((13:Nat):Int)=13 from rfl]at this;rw[this,z9j];omega
 have s17: ∀y:Nat,shlOp .u64 (y:Int) 17=((y*131072 % 18446744073709551616:Nat):Int):=fun y=>by
  have:=zjv (k:= .u64) y 17 (by decide);rw[show((17:Nat):Int)=17 from rfl]at this;rw[this,z9j];omega
 have s7: ∀y:Nat,shrOp .u64 (y:Int) 7=((y / 128:Nat):Int):=fun y=>zel .u64 y 7 (by decide);have ha:x^^^(x*8192 % 18446744073709551616)<2^64:=Nat.xor_lt_two_pow h (by omega)
 have hb:(x^^^(x*8192 % 18446744073709551616))^^^((x^^^(x*8192 % 18446744073709551616)) / 128)<2^64:=Nat.xor_lt_two_pow ha (by omega);rw[s13,zjx (k:= .u64) rfl h (show x*8192 % 18446744073709551616<2^64 by omega),s7,zjx (k:= .u64) rfl ha (show(x^^^(x*8192 % 18446744073709551616)) / 128<2^64 by omega),s17,zjx (k:= .u64) rfl hb (show((x^^^(x*8192 % 18446744073709551616))^^^((x^^^(x*8192 % 18446744073709551616)) / 128))*131072 % 18446744073709551616<2^64 by omega)];rfl
theorem zg5 (a l m:Nat)(st:UInt64×Array Time)(i:Nat):(Sort.breakStep a l m st i).2.size=st.2.size:=by
 unfold Sort.breakStep;exact z1l _ _ _
theorem zp2 {l:Nat}(h:l<1152921504606846976):Sort.bitsLen l≤60:=zia h
theorem zoc {B:Int×Int×Int×List Time→Option (Ctl (Int×Int×Int×List Time) Empty)}{a b l M fuel K:Nat}{d:Array Time}{r0:UInt64}{n0:Nat}(h0:r0.toNat=n0){Q:Type}{kn:Int×Int×Int×List Time→Option Q}{kr:Empty→Option Q}{q:Option Q}(hf:4<fuel)(hK0:1≤K)(hK:a≤K-1)(hK2:K+1<b)(hb:b≤d.size)
 (hB: ∀(k:Nat) (r:UInt64) (e:Array Time),e.size=d.size→a≤k→k≤K+1→k<b→B ((n0:Int),(k:Int),(r.toNat:Int),e.toList)=some (.next ((n0:Int),((k+1:Nat):Int),((Sort.breakStep a l M (r,e) k).1.toNat:Int),(Sort.breakStep a l M (r,e) k).2.toList)))
 (hE: ∀(r:UInt64) (e:Array Time),B ((n0:Int),((K+2:Nat):Int),(r.toNat:Int),e.toList)=some (.brk ((n0:Int),((K+2:Nat):Int),(r.toNat:Int),e.toList)))
 (hk: ∀x y z,kn (x,y,z,(Sort.breakStep a l M (Sort.breakStep a l M (Sort.breakStep a l M (r0,d) (K-1)) (K-1+1)) (K-1+2)).2.toList)=q):
 outK (loopN B fuel ((n0:Int),((K-1:Nat):Int),(n0:Int),d.toList)) kn kr=q:=by
 subst h0;obtain⟨f,rfl⟩: ∃f,fuel=f+1+1+1+1:=⟨fuel-4,by omega⟩;have s1:=zg5 a l M (r0,d) (K-1)
 have s2:=zg5 a l M (Sort.breakStep a l M (r0,d) (K-1)) (K-1+1);have h1:=hB (K-1) r0 d rfl (by omega) (by omega) (by omega)
 have h2:=hB (K-1+1) (Sort.breakStep a l M (r0,d) (K-1)).1 (Sort.breakStep a l M (r0,d) (K-1)).2 s1 (by omega) (by omega) (by omega);have h3:=hB (K-1+1+1) (Sort.breakStep a l M (Sort.breakStep a l M (r0,d) (K-1)) (K-1+1)).1 (Sort.breakStep a l M (Sort.breakStep a l M (r0,d) (K-1)) (K-1+1)).2 (s2.trans s1) (by omega) (by omega) (by omega)
 rw[z21 h1,z21 h2,z21 h3,show K-1+1+1+1=K+2 by omega,z1f (hE _ _)];exact hk _ _ _
theorem zhp {fuel a b:Nat}{d:Array Time}(hab:a<b)(hb:b≤d.size)(hd:d.size<1152921504606846976)(hf:4<fuel):
 z1r fuel (a:Int) (b:Int) d.toList=some (Sort.breakPatterns d a b).toList:=by
 unfold z1r Sort.breakPatterns;have e0:zzi.wrap ((b:Int)-(a:Int))=((b-a:Nat):Int):=wsub (by omega) (by omega)
 simp only[e0,z0d];by_cases h8:b-a≥8
 ·rw[if_pos h8,if_pos (by omega)];have hL:=zp2 (l:=b-a) (by omega);have hLl:=Sort.lt_two_pow_bitsLen (b-a)
  have hLu:=Sort.two_pow_bitsLen_le (n:=b-a) (by omega);have hp:2^Sort.bitsLen (b-a)≤2^60:=Nat.pow_le_pow_right (by decide) hL
  have hm:z57 ((b-a:Nat):Int)=some ((2^Sort.bitsLen (b-a):Nat):Int):=by
   unfold z57;have e:zzu.wrap ((b-a:Nat):Int)=((b-a:Nat):Int):=uwrap (k:= .u64) rfl (show b-a<2^64 by omega)
   rw[e,zpx (by omega),zz0,z0a (by omega)];have:=zjv (k:= .u64) 1 (Sort.bitsLen (b-a)) (by show Sort.bitsLen (b-a)≤64;omega);rw[show((1:Nat):Int)=1 from rfl,Nat.one_mul]at this;rw[this,uwrap (k:= .u64) rfl (show 2^Sort.bitsLen (b-a)<2^64 by omega)]
  rw[hm,zz0,Nat.one_shiftLeft];generalize 2^Sort.bitsLen (b-a)=M at*;have e1:zzi.wrap (((b-a:Nat):Int).tdiv 4)=(((b-a) / 4:Nat):Int):=by rw[Int.tdiv_eq_ediv_of_nonneg (by omega),z2t (by omega) (by omega)];omega
  have e2:zzi.wrap ((((b-a) / 4:Nat):Int)*2)=(((b-a) / 4*2:Nat):Int):=by rw[z2t (by omega) (by omega)];omega
  have e3:zzi.wrap ((a:Int)+(((b-a) / 4*2:Nat):Int))=((a+(b-a) / 4*2:Nat):Int):=wadd (by omega);have e4:zzi.wrap (((a+(b-a) / 4*2:Nat):Int)-1)=((a+(b-a) / 4*2-1:Nat):Int):=wsub1 (by omega) (by omega)
  have e5:zzi.wrap (((a+(b-a) / 4*2:Nat):Int)+1)=((a+(b-a) / 4*2+1:Nat):Int):=wadd1 (by omega);have e6:zzi.wrap ((b-a:Nat):Int)=((b-a:Nat):Int):=z9w (by unfold in64;omega)
  have e7:zzu.wrap ((b-a:Nat):Int)=((b-a:Nat):Int):=uwrap (k:= .u64) rfl (show b-a<2^64 by omega);have e8:zzu.wrap ((M:Int)-1)=((M-1:Nat):Int):=by rw[z9j];omega
  simp only[e1,e2,e3,e4,e7,e8,jn_eq];have hr0:(UInt64.ofNat (b-a)).toNat=b-a:=by rw[UInt64.toNat_ofNat'];omega
  refine zoc (r0:=UInt64.ofNat (b-a)) (n0:=b-a) hr0 (a:=a) (l:=(b-a)) (M:=M) (b:=b) (K:=a+(b-a) / 4*2) hf (by omega) (by omega) (by omega) hb ?_ ?_ (fun x y z=>by dsimp only)
  ·intro k r e he hk1 hk2 hk3;simp only;rw[if_pos (show(k:Int)≤_ by rw[e1,e2,e3,e5];omega)];have hr:=UInt64.toNat_lt r
   rw[zsg (by omega),zz0];unfold Sort.breakStep;dsimp only;rw[Sort.xorNext_toNat];have hx:=Sort.xorNextN_lt r.toNat (by omega)
   have ea:z0w .and .u64 ((Sort.xorNextN r.toNat:Nat):Int) ((M-1:Nat):Int)=((Sort.xorNextN r.toNat &&& (M-1):Nat):Int):=zry (k:= .u64) rfl (show _<2^64 by omega) (show M-1<2^64 by omega);have hal:Sort.xorNextN r.toNat &&& (M-1)≤M-1:=Nat.and_le_right
   rw[ea];generalize Sort.xorNextN r.toNat &&& (M-1)=o at*;have eo:zzi.wrap (o:Int)=(o:Int):=z9w (by unfold in64;omega)
   rw[eo];have w1:zzi.wrap ((k:Int)+1)=((k+1:Nat):Int):=wadd1 (by omega);by_cases ho:o≥b-a
   ·have w2:zzi.wrap ((o:Int)-((b-a:Nat):Int))=((o-(b-a):Nat):Int):=wsub (by omega) (by omega);have w3:zzi.wrap ((a:Int)+((o-(b-a):Nat):Int))=((a+(o-(b-a)):Nat):Int):=wadd (by omega)
    rw[if_pos ho,if_pos (by omega),w1,w2,w3];simp(disch:=omega) only[zz5,zz4,z0a,zz1,zz9,z2c,z3t]
   ·have w3:zzi.wrap ((a:Int)+(o:Int))=((a+o:Nat):Int):=wadd (by omega);rw[if_neg ho,if_neg (by omega),w1,w3];simp(disch:=omega) only[zz5,zz4,z0a,zz1,zz9,z2c,z3t]
  ·intro r e;simp only;rw[if_neg (show ¬((a+(b-a) / 4*2+2:Nat):Int)≤_ by rw[e1,e2,e3,e5];omega)]
 ·rw[if_neg h8,if_neg (by omega)]
end Go.Av
namespace Go.Av
open Go
abbrev PdqS:=Int×Int×Int×Bool×Bool×(List Time)
def pK12 (fuel : Nat) (a b : Int) (lim len : Int) (pivot : Int) (wb wp : Bool) (l : List Time) (x : Bool) : Option (Ctl PdqS (List Time)) :=
  bf x ((                                         z1q fuel a b pivot l).bind fun r14 => need (r14.2.length = l.length) <| some (.next (r14.1, b, lim, wb, wp, r14.2)))
    ((                                    z29 fuel a b pivot l).bind fun r16 => need (r16.2.2.length = l.length) <| bf (decide ((        zzi.wrap (r16.1 - a)) < (        zzi.wrap (b - r16.1))))
      ((                                  z11 fuel a r16.1 lim r16.2.2).bind fun r18 => need (r18.length = r16.2.2.length) <| some (.next ((        zzi.wrap (r16.1 + 1)), b, lim, (decide ((        zzi.wrap (len.tdiv 8)) ≤ (        zzi.wrap (r16.1 - a)))), r16.2.1, r18)))
      ((                                  z11 fuel (        zzi.wrap (r16.1 + 1)) b lim r16.2.2).bind fun r20 => need (r20.length = r16.2.2.length) <| some (.next (a, r16.1, lim, (decide ((        zzi.wrap (len.tdiv 8)) ≤ (        zzi.wrap (b - r16.1)))), r16.2.1, r20))))
def pK10 (fuel:Nat)(a b:Int)(lim len:Int)(pivot:Int)(wb wp:Bool)(l:List Time):Option (Ctl PdqS (List Time)):=
 jn (fun(a12:Bool)=>pK12 fuel a b lim len pivot wb wp l a12) fun j13=>bf (decide (0<a)) (need ((0:Int)≤(zzi.wrap (a-1))∧(zzi.wrap (a-1))<(l.length:Int))<|need ((0+(zzi.wrap (a-1)).toNat)<l.length)<|need ((0:Int)≤pivot∧pivot<(l.length:Int))<|need ((0+pivot.toNat)<l.length)<|(z1m (l.getD (0+(zzi.wrap (a-1)).toNat) zzd) (l.getD (0+pivot.toNat) zzd)).bind fun r27=>j13 (!(decide (r27<0)))) (j13 false)
def pK8 (fuel:Nat)(a b:Int)(lim len:Int)(wb wp:Bool)(pivot hint:Int)(l:List Time):Option (Ctl PdqS (List Time)):=
 jn (fun(a10:Bool×Bool×(List Time))=>pK10 fuel a b lim len pivot a10.1 a10.2.1 a10.2.2) fun j11=>jn (fun(a28:Bool×Bool×Bool)=>bf a28.2.2 ((z14 fuel a b l).bind fun r30=>need (r30.2.length=l.length)<|bf r30.1 (some (.ret r30.2)) (j11 (a28.1,a28.2.1,r30.2))) (j11 (a28.1,a28.2.1,l))) fun j29=>bf wb (bf wp (j29 (true,true,(decide (hint=1)))) (j29 (true,false,false))) (j29 (false,wp,false))
def pK5 (fuel:Nat)(a b:Int)(wb wp:Bool)(lim len:Int)(l:List Time):Option (Ctl PdqS (List Time)):=
 (z28 l a b).bind fun r7=>jn (fun(a8:Int×Int×(List Time))=>pK8 fuel a b lim len wb wp a8.1 a8.2.1 a8.2.2) fun j9=>bf (decide (r7.2=2)) ((z20 fuel a b l).bind fun r32=>need (r32.length=l.length)<|j9 ((zzi.wrap ((zzi.wrap (b-1))-(zzi.wrap (r7.1-a)))),1,r32)) (j9 (r7.1,r7.2,l))
def pBody (fuel:Nat)(a1:PdqS):Option (Ctl PdqS (List Time)):=
 bf (decide ((zzi.wrap (a1.2.1-a1.1))≤12)) ((z1s fuel a1.1 a1.2.1 a1.2.2.2.2.2).bind fun r3=>some (.ret r3)) (bf (decide (a1.2.2.1=0)) ((z2d fuel a1.1 a1.2.1 a1.2.2.2.2.2).bind fun r4=>some (.ret r4))
  (jn (fun(a5:Int×Int×(List Time))=>pK5 fuel a1.1 a1.2.1 a1.2.2.2.1 a1.2.2.2.2.1 a5.1 a5.2.1 a5.2.2) fun j6=>bf (!a1.2.2.2.1) ((z1r fuel a1.1 a1.2.1 a1.2.2.2.2.2).bind fun r34=>need (r34.length=a1.2.2.2.2.2.length)<|j6 ((zzi.wrap (a1.2.2.1-1)),(zzi.wrap (a1.2.1-a1.1)),r34)) (j6 (a1.2.2.1,(zzi.wrap (a1.2.1-a1.1)),a1.2.2.2.2.2))))
theorem zsj (fuel:Nat)(a b lim:Int)(l:List Time):z11 (fuel+1) a b lim l=outK (loopN (pBody fuel) fuel (a,b,lim,true,true,l)) (fun _=>none) (fun x=>some x):=rfl
def qD (a b lim:Nat)(wb wp:Bool)(pivot:Nat)(d:Array Time):Array Time:=
 if a>0 && !ltT d[a-1]! d[pivot]! then
  match Sort.partitionEqual ltT d a b pivot with
  |(mid,d4)=>if _h:a<mid∧mid≤b then Sort.pdq ltT d4 mid b lim wb wp else d4
 else
  match Sort.partition ltT d a b pivot with
  |(mid,alreadyPartitioned,d4)=>
   if _h:a≤mid∧mid<b then
    if mid-a<b-mid then
     Sort.pdq ltT (Sort.pdq ltT d4 a mid lim true true) (mid+1) b lim (decide (mid-a≥(b-a) / 8)) alreadyPartitioned
    else
     Sort.pdq ltT (Sort.pdq ltT d4 (mid+1) b lim true true) a mid lim (decide (b-mid≥(b-a) / 8)) alreadyPartitioned
   else d4
def qC (a b lim:Nat)(wb wp:Bool)(pivot:Nat)(hint:Sort.Hint)(d:Array Time):Array Time:=
 let pi:=if wb && wp && hint= .increasing then Sort.partialInsertionSort ltT d a b else(d,false)
 if pi.2 then pi.1 else qD a b lim wb wp pivot pi.1
def qB (a b lim:Nat)(wb wp:Bool)(d:Array Time):Array Time:=
 let c:=Sort.choosePivot ltT d a b
 if c.2= .decreasing then qC a b lim wb wp ((b-1)-(c.1-a)) .increasing (Sort.reverseRange d a b)else qC a b lim wb wp c.1 c.2 d
theorem zsk (d:Array Time)(a b lim:Nat)(wb wp:Bool):Sort.pdq ltT d a b lim wb wp=
 if b-a≤12 then Sort.insertionSort ltT d a b else if lim=0 then Sort.heapSort ltT d a b else
  (if wb then qB a b lim wb wp d else qB a b (lim-1) wb wp (Sort.breakPatterns d a b)):=by
 rw[Sort.pdq];by_cases h1:b-a≤12
 ·rw[if_pos h1,if_pos h1]
 ·rw[if_neg h1,if_neg h1];by_cases h2:lim=0
  ·rw[if_pos h2,if_pos h2]
  ·rw[if_neg h2,if_neg h2];cases wb
   ·simp only[Bool.not_false,if_true];unfold qB;dsimp only;by_cases h3:(Sort.choosePivot ltT (Sort.breakPatterns d a b) a b).2= .decreasing
    ·simp only[if_pos h3];rfl
    ·simp only[if_neg h3];rfl
   ·simp only[zzh,Bool.false_eq_true,if_false,if_true];unfold qB;dsimp only;by_cases h3:(Sort.choosePivot ltT d a b).2= .decreasing
    ·simp only[if_pos h3];rfl
    ·simp only[if_neg h3];rfl
theorem zhm {α:Type}[Inhabited α](p:α→Bool)(d:Array α)(i:Nat): ∀(j:Nat),i≤j+1→i≤Sort.scanDown p d i j+1
 |0,h=>h
 |j+1,h=>by
  unfold Sort.scanDown;split
  ·rename_i hc
   have:i≤j+1:=by simp at hc;exact hc.1
   exact zhm p d i j this
  ·exact h
theorem zna {α:Type}[Inhabited α](p:α→Bool)(d:Array α)(j:Nat): ∀(n i:Nat),j+1-i≤n→Sort.scanUp p d j i≤j→p d[Sort.scanUp p d j i]! =false:=by
 intro n;induction n with
 |zero=>
  intro i hn h;rw[Sort.scanUp]at h ⊢;split at h
  ·rename_i hc;simp at hc;omega
  ·omega
 |succ n ih=>
  intro i hn h;rw[Sort.scanUp]at h ⊢;split at h
  ·rename_i hc
   rw[if_pos hc];exact ih (i+1) (by omega) h
  ·rename_i hc
   rw[if_neg hc];simp at hc;exact hc h
theorem zfo {α:Type}[Inhabited α](p:α→Bool)(d:Array α)(i:Nat): ∀(j:Nat),i≤Sort.scanDown p d i j→1≤i→p d[Sort.scanDown p d i j]! =false
 |0,h,h1=>by have:Sort.scanDown p d i 0=0:=rfl;omega
 |j+1,h,h1=>by
  unfold Sort.scanDown at h ⊢;split at h
  ·rename_i hc
   rw[if_pos hc];exact zfo p d i j h h1
  ·rename_i hc
   rw[if_neg hc];simp at hc;exact hc h
theorem zso {α:Type}[Inhabited α](p q:α→Bool)(hq: ∀x,q x= !p x)(d:Array α)(i j:Nat):1≤i→Sort.scanUp p d j i≠Sort.scanDown q d (Sort.scanUp p d j i) j:=fun hi e=>by
 have u:=z5r p d j _ i (zzc _);have v:=z3n q d (Sort.scanUp p d j i) j
 have h1:=zna p d j _ i (zzc _) (by omega);have h2:=zfo q d (Sort.scanUp p d j i) j (by omega) (by omega)
 rw[←e,hq,h1]at h2;cases h2
theorem ziy {a:Nat}: ∀(n i j:Nat) (d:Array Time),j+1-i≤n→1≤i→i≤j+1→j<d.size→i≤(Sort.partEqLoop ltT a i j d).1∧(Sort.partEqLoop ltT a i j d).1≤j+1∧(Sort.partEqLoop ltT a i j d).2.size=d.size:=by
 intro n;induction n with
 |zero=>
  intro i j d hn hi hi2 hj;have u:=(z5r (fun x=> !ltT d[a]! x) d j _ i (zzc _))
  have v:=z3n (fun x=>ltT d[a]! x) d (Sort.scanUp (fun x=> !ltT d[a]! x) d j i) j;rw[z9n,if_pos (by omega)];exact⟨u.2,by show Sort.scanUp _ _ _ _≤_;omega,rfl⟩
 |succ n ih=>
  intro i j d hn hi hi2 hj;have u:=(z5r (fun x=> !ltT d[a]! x) d j _ i (zzc _))
  have v:=z3n (fun x=>ltT d[a]! x) d (Sort.scanUp (fun x=> !ltT d[a]! x) d j i) j;have w:=zhm (fun x=>ltT d[a]! x) d (Sort.scanUp (fun x=> !ltT d[a]! x) d j i) j
  have hno:=zso (fun x=> !ltT d[a]! x) (fun x=>ltT d[a]! x) (fun x=>by simp) d i j;rw[z9n];generalize Sort.scanUp (fun x=> !ltT d[a]! x) d j i=i2 at*;generalize Sort.scanDown (fun x=>ltT d[a]! x) d i2 j=j2 at*;by_cases hc:i2>j2
  ·rw[if_pos hc];exact⟨u.2,by show i2≤_;omega,rfl⟩
  ·rw[if_neg hc];have:=ih (i2+1) (j2-1) (Sort.swp d i2 j2) (by omega) (by omega) (by omega) (by rw[z1l];omega);rw[z1l]at this;omega
end Go.Av
namespace Go.Av
open Go
theorem zef {x y:Time}:ltT x y=true↔x.epoch<y.epoch∨(x.epoch=y.epoch∧(x.loop.1<y.loop.1∨(x.loop.1=y.loop.1∧x.loop.2<y.loop.2))):=by
 unfold ltT cmpT;rw[decide_eq_true_eq]
 repeat' split
 all_goals omega
theorem swoT:Sort.SWO ltT where
 irrefl x:=by
  cases h:ltT x x with
  |false=>rfl
  |true=>rw[zef]at h;omega
 trans x y z h1 h2:=by
  rw[zef]at*;omega
 ntrans x y z h1 h2:=by
  rw[←Bool.not_eq_true,zef]at*;omega
theorem zn4 (a b:Nat): ∀(n i:Nat) (d:Array Time),b-i≤n→(Sort.insOuter ltT a b i d).size=d.size:=by
 intro n;induction n with
 |zero=>intro i d hn;rw[Sort.insOuter,if_neg (by omega)]
 |succ n ih=>
  intro i d hn;rw[Sort.insOuter];split
  ·rw[ih _ _ (by omega),zdw]
  ·rfl
theorem zlv (a b:Nat)(d:Array Time):(Sort.insertionSort ltT d a b).size=d.size:=zn4 a b b _ d (by omega)
theorem zip (first:Nat): ∀(k:Nat) (d:Array Time),(Sort.heapPop ltT first k d).size=d.size
 |0,d=>rfl
 |k+1,d=>by unfold Sort.heapPop;rw[zip first k,zcj,z1l]
theorem zn3 (a b:Nat)(d:Array Time):(Sort.heapSort ltT d a b).size=d.size:=by unfold Sort.heapSort;rw[zip,zcz]
theorem zfn (a b:Nat): ∀(s i:Nat) (d:Array Time),(Sort.partialIns ltT a b s i d).1.size=d.size
 |0,i,d=>rfl
 |s+1,i,d=>by
  rw[zeh];split
  ·rfl
  ·split
   ·rfl
   ·rw[zfn a b s,zf5]
def zja (F g:Nat)(o:Option (Ctl PdqS (List Time)))(q:Array Time):Prop:=(∃s,o=some (.next s)∧loopN (pBody F) g s=some (.ret q.toList))∨o=some (.ret q.toList)
def PdqOk (m:Nat):Prop:= ∀(F g a b lim:Nat) (wb wp:Bool) (d:Array Time),b-a<m→a≤b→b≤d.size→d.size<1152921504606846976→lim<1152921504606846976→b-a<g→d.size+(b-a)+20<F→
 loopN (pBody F) g ((a:Int),(b:Int),(lim:Int),wb,wp,d.toList)=some (.ret (Sort.pdq ltT d a b lim wb wp).toList)∧(Sort.pdq ltT d a b lim wb wp).size=d.size
theorem PdqOk.call {m:Nat}(h:PdqOk m){F a b lim:Nat}{d:Array Time}(hm:b-a<m)(hab:a≤b)(hb:b≤d.size)(hd:d.size<1152921504606846976)(hl:lim<1152921504606846976)(hf:d.size+(b-a)+21<F):
 z11 F (a:Int) (b:Int) (lim:Int) d.toList=some (Sort.pdq ltT d a b lim true true).toList∧(Sort.pdq ltT d a b lim true true).size=d.size:=by
 cases F with
 |zero=>omega
 |succ F=>
  obtain⟨h1,h2⟩:=h F F a b lim true true d hm hab hb hd hl (by omega) (by omega);rw[zsj,h1];exact⟨rfl,h2⟩
theorem zqh {F g a b lim pivot:Nat}{wb wp:Bool}{d:Array Time}(ih:PdqOk (b-a))(hab:a+12<b)(hp:a≤pivot∧pivot<b)(hb:b≤d.size)(hd:d.size<1152921504606846976)(hl:lim<1152921504606846976)(hg:b-a≤g)(hF:d.size+(b-a)+20<F):
 zja F g (pK10 F (a:Int) (b:Int) (lim:Int) ((b-a:Nat):Int) (pivot:Int) wb wp d.toList) (qD a b lim wb wp pivot d)∧(qD a b lim wb wp pivot d).size=d.size:=by
 have e8:zzi.wrap (((b-a:Nat):Int).tdiv 8)=(((b-a) / 8:Nat):Int):=by rw[Int.tdiv_eq_ediv_of_nonneg (by omega),z2t (by omega) (by omega)];omega
 have hK:pK10 F (a:Int) (b:Int) (lim:Int) ((b-a:Nat):Int) (pivot:Int) wb wp d.toList=pK12 F (a:Int) (b:Int) (lim:Int) ((b-a:Nat):Int) (pivot:Int) wb wp d.toList (a>0 && !ltT d[a-1]! d[pivot]!):=by
  unfold pK10;simp only[jn_eq];by_cases h0:0<a
  ·rw[decide_eq_true (show(0:Int)<(a:Int)by omega),z3h,wsub1 (by omega) (by omega)];simp(disch:=omega) only[zz5,zz4,z0a,zz1,z3c,zz0,z2c];rw[decide_eq_true h0,Bool.true_and];rfl
  ·rw[decide_eq_false (show ¬(0:Int)<(a:Int)by omega),z0n,decide_eq_false h0,Bool.false_and]
 rw[hK];unfold qD;cases hx:(a>0 && !ltT d[a-1]! d[pivot]!)with
 |true=>
  simp only[if_true];unfold pK12;rw[z3h,zh8 hp (by omega) hb hd (by omega),zz0];have hr:=ziy (a:=a) _ (a+1) (b-1) (Sort.swp d a pivot) (zzc _) (by omega) (by omega) (by rw[z1l];omega)
  rw[z1l]at hr;have he:Sort.partEqLoop ltT a (a+1) (b-1) (Sort.swp d a pivot)=Sort.partitionEqual ltT d a b pivot:=rfl
  rw[he]at hr;generalize Sort.partitionEqual ltT d a b pivot=r at*;obtain⟨mid,d4⟩:=r;simp only at hr ⊢;rw[dif_pos (by omega),z0a (by rw[zz1,zz1];omega)];obtain⟨h1,h2⟩:=ih F g mid b lim wb wp d4 (by omega) (by omega) (by omega) (by omega) hl (by omega) (by omega);exact⟨.inl ⟨_,rfl,h1⟩,by omega⟩
 |false=>
  simp only[Bool.false_eq_true,if_false];unfold pK12;rw[z0n,zm8 hp (by omega) hb hd (by omega),zz0,e8];obtain⟨g1,g2,g3,_,_⟩:=Sort.partition_holds ltT swoT d a b pivot hp.1 hp.2 hb;have g3:=g3.1
  generalize Sort.partition ltT d a b pivot=r at*;obtain⟨mid,ap,d4⟩:=r;simp only at g1 g2 g3 ⊢;have w1:zzi.wrap ((mid:Int)-(a:Int))=((mid-a:Nat):Int):=wsub (by omega) (by omega)
  have w2:zzi.wrap ((b:Int)-(mid:Int))=((b-mid:Nat):Int):=wsub (by omega) (by omega);have w3:zzi.wrap ((mid:Int)+1)=((mid+1:Nat):Int):=wadd1 (by omega)
  rw[dif_pos ⟨g1,g2⟩,z0a (by rw[zz1,zz1];omega),w1,w2,w3,z0d];by_cases hc:mid-a<b-mid
  ·rw[if_pos hc,if_pos (by omega)];obtain⟨c1,c2⟩:=ih.call (F:=F) (a:=a) (b:=mid) (lim:=lim) (d:=d4) (by omega) (by omega) (by omega) (by omega) hl (by omega);rw[c1,zz0,z0a (by rw[zz1,zz1];omega)];generalize Sort.pdq ltT d4 a mid lim true true=d5 at*;obtain⟨h1,h2⟩:=ih F g (mid+1) b lim (decide (mid-a≥(b-a) / 8)) ap d5 (by omega) (by omega) (by omega) (by omega) hl (by omega) (by omega);refine⟨.inl ⟨_,rfl,?_⟩,by omega⟩;have e:decide ((((b-a) / 8:Nat):Int)≤((mid-a:Nat):Int))=decide (mid-a≥(b-a) / 8):=by
    rw[Bool.eq_iff_iff];simp only[decide_eq_true_eq];omega
   rw[e];exact h1
  ·rw[if_neg hc,if_neg (by omega)];obtain⟨c1,c2⟩:=ih.call (F:=F) (a:=mid+1) (b:=b) (lim:=lim) (d:=d4) (by omega) (by omega) (by omega) (by omega) hl (by omega);rw[c1,zz0,z0a (by rw[zz1,zz1];omega)];generalize Sort.pdq ltT d4 (mid+1) b lim true true=d5 at*;obtain⟨h1,h2⟩:=ih F g a mid lim (decide (b-mid≥(b-a) / 8)) ap d5 (by omega) (by omega) (by omega) (by omega) hl (by omega) (by omega);refine⟨.inl ⟨_,rfl,?_⟩,by omega⟩;have e:decide ((((b-a) / 8:Nat):Int)≤((b-mid:Nat):Int))=decide (b-mid≥(b-a) / 8):=by
    rw[Bool.eq_iff_iff];simp only[decide_eq_true_eq];omega
   rw[e];exact h1
theorem zqg {F g a b lim pivot:Nat}{hint:Sort.Hint}{wb wp:Bool}{d:Array Time}(ih:PdqOk (b-a))(hab:a+12<b)(hp:a≤pivot∧pivot<b)(hb:b≤d.size)(hd:d.size<1152921504606846976)(hl:lim<1152921504606846976)(hg:b-a≤g)(hF:d.size+(b-a)+20<F):
 zja F g (pK8 F (a:Int) (b:Int) (lim:Int) ((b-a:Nat):Int) wb wp (pivot:Int) (hintN hint) d.toList) (qC a b lim wb wp pivot hint d)∧(qC a b lim wb wp pivot hint d).size=d.size:=by
 have hK:pK8 F (a:Int) (b:Int) (lim:Int) ((b-a:Nat):Int) wb wp (pivot:Int) (hintN hint) d.toList=if wb && wp && hint= .increasing then((z14 F (a:Int) (b:Int) d.toList).bind fun r30=>need (r30.2.length=d.toList.length)<|bf r30.1 (some (.ret r30.2)) (pK10 F (a:Int) (b:Int) (lim:Int) ((b-a:Nat):Int) (pivot:Int) wb wp r30.2))else pK10 F (a:Int) (b:Int) (lim:Int) ((b-a:Nat):Int) (pivot:Int) wb wp d.toList:=by
  unfold pK8;cases wb<;>cases wp<;>cases hint<;>simp[jn,bf,hintN]
 rw[hK];unfold qC;dsimp only;by_cases hc:(wb && wp && decide (hint= .increasing))=true
 ·rw[if_pos hc,if_pos hc,zda (by omega) hb hd (by omega),zz0];have hsz:(Sort.partialInsertionSort ltT d a b).1.size=d.size:=zfn a b 5 _ d;generalize Sort.partialInsertionSort ltT d a b=r at*;obtain⟨d3,x⟩:=r;simp only at hsz ⊢;rw[z0a (by rw[zz1,zz1];omega)];cases x with
  |true=>exact⟨.inr rfl,hsz⟩
  |false=>
   simp only[z0n,Bool.false_eq_true,if_false];have:=zqh (F:=F) (g:=g) (lim:=lim) (pivot:=pivot) (wb:=wb) (wp:=wp) (d:=d3) ih hab hp (by omega) (by omega) hl hg (by omega)
   exact⟨this.1,by omega⟩
 ·rw[if_neg hc,if_neg hc];simp only[Bool.false_eq_true,if_false];exact zqh ih hab hp hb hd hl hg hF
theorem zqf {F g a b lim:Nat}{wb wp:Bool}{d:Array Time}(ih:PdqOk (b-a))(hab:a+12<b)(hb:b≤d.size)(hd:d.size<1152921504606846976)(hl:lim<1152921504606846976)(hg:b-a≤g)(hF:d.size+(b-a)+20<F):
 zja F g (pK5 F (a:Int) (b:Int) wb wp (lim:Int) ((b-a:Nat):Int) d.toList) (qB a b lim wb wp d)∧(qB a b lim wb wp d).size=d.size:=by
 unfold pK5 qB;rw[choosePivot_eq (by omega) hb hd,zz0];obtain⟨p1,p2⟩:=Sort.choosePivot_holds ltT d a b (by omega);generalize Sort.choosePivot ltT d a b=c at*;obtain⟨pivot,hint⟩:=c;simp only[jn_eq]at p1 p2 ⊢;by_cases hc:hint= .decreasing
 ·subst hc;have hsz:=(Sort.reverseRange_holds d a b (by omega) hb).1
  rw[decide_eq_true (show hintN Sort.Hint.decreasing=2 from rfl),z3h,zj0 (by omega) hb hd (by omega),zz0,z0a (by rw[zz1,zz1];exact hsz)];have w1:zzi.wrap ((b:Int)-1)=((b-1:Nat):Int):=wsub1 (by omega) (by omega);have w2:zzi.wrap ((pivot:Int)-(a:Int))=((pivot-a:Nat):Int):=wsub (by omega) (by omega)
  have w3:zzi.wrap (((b-1:Nat):Int)-((pivot-a:Nat):Int))=(((b-1)-(pivot-a):Nat):Int):=wsub (by omega) (by omega);rw[w1,w2,w3];simp only[if_true];have:=zqg (F:=F) (g:=g) (lim:=lim) (pivot:=(b-1)-(pivot-a)) (hint:= .increasing) (wb:=wb) (wp:=wp) (d:=Sort.reverseRange d a b) ih hab (by omega) (by omega) (by omega) hl hg (by omega)
  exact⟨this.1,this.2.trans hsz⟩
 ·have hn:hintN hint≠2:=by cases hint<;>simp[hintN]at*
  rw[decide_eq_false hn,z0n,if_neg hc];exact zqg ih hab ⟨p1,p2⟩ hb hd hl hg hF
theorem pdqOk: ∀m,PdqOk m:=by
 intro m;induction m with
 |zero=>intro F g a b lim wb wp d h;omega
 |succ m ihm=>
  intro F g a b lim wb wp d hm hab hb hd hl hg hF;have ih:PdqOk (b-a):=fun F' g' a' b' lim' wb' wp' d' h=>ihm F' g' a' b' lim' wb' wp' d' (by omega)
  cases g with
  |zero=>omega
  |succ g=>
   have e0:zzi.wrap ((b:Int)-(a:Int))=((b-a:Nat):Int):=wsub (by omega) (by omega);rw[zsk];by_cases h1:b-a≤12
   ·rw[if_pos h1];refine⟨?_,zlv a b d⟩;rw[z9b (r:=(Sort.insertionSort ltT d a b).toList)];unfold pBody;simp only[e0];rw[decide_eq_true (by omega),z3h,zlu hb (by omega) (by omega) (by omega),zz0]
   ·rw[if_neg h1];by_cases h2:lim=0
    ·rw[if_pos h2];refine⟨?_,zn3 a b d⟩;rw[z9b (r:=(Sort.heapSort ltT d a b).toList)];unfold pBody;simp only[e0];rw[decide_eq_false (by omega),z0n,decide_eq_true (by omega),z3h,zn2 (by omega) hb hd (by omega),zz0]
    ·rw[if_neg h2];have fin: ∀q:Array Time,zja F g (pBody F ((a:Int),(b:Int),(lim:Int),wb,wp,d.toList)) q→loopN (pBody F) (g+1) ((a:Int),(b:Int),(lim:Int),wb,wp,d.toList)=some (.ret q.toList):=fun q hq=>by
      rcases hq with⟨s,h3,h4⟩|h3
      ·rw[z21 h3,h4]
      ·rw[z9b h3]
     cases wb with
     |true=>
      simp only[if_true];have hB:pBody F ((a:Int),(b:Int),(lim:Int),true,wp,d.toList)=pK5 F (a:Int) (b:Int) true wp (lim:Int) ((b-a:Nat):Int) d.toList:=by
       unfold pBody;simp only[e0,jn_eq];rw[decide_eq_false (by omega),z0n,decide_eq_false (by omega),z0n,zzh,z0n]
      have:=zqf (F:=F) (g:=g) (a:=a) (b:=b) (lim:=lim) (wb:=true) (wp:=wp) (d:=d) ih (by omega) hb hd hl (by omega) hF;exact⟨fin _ (by rw[hB];exact this.1),this.2⟩
     |false=>
      simp only[Bool.false_eq_true,if_false];have hsz:=(Sort.breakPatterns_holds d a b hab hb).1
      have hB:pBody F ((a:Int),(b:Int),(lim:Int),false,wp,d.toList)=pK5 F (a:Int) (b:Int) false wp ((lim-1:Nat):Int) ((b-a:Nat):Int) (Sort.breakPatterns d a b).toList:=by
       unfold pBody;simp only[e0,jn_eq];rw[decide_eq_false (by omega),z0n,decide_eq_false (by omega),z0n,Bool.not_false,z3h,zhp (by omega) hb hd (by omega),zz0,z0a (by rw[zz1,zz1];exact hsz),wsub1 (by omega) (by omega)]
      have:=zqf (F:=F) (g:=g) (a:=a) (b:=b) (lim:=lim-1) (wb:=false) (wp:=wp) (d:=Sort.breakPatterns d a b) ih (by omega) (by omega) (by omega) (by omega) (by omega) (by omega);exact⟨fin _ (by rw[hB];exact this.1),this.2.trans hsz⟩
theorem znd {fuel:Nat}{l:List Time}(hl:l.length<1152921504606846976)(hf:2*l.length+30<fuel):
 z19 fuel l=some (Sort.sort ltT l.toArray).toList:=by
 unfold z19;have e:zzu.wrap (l.length:Int)=(l.length:Int):=uwrap (k:= .u64) rfl (show l.length<2^64 by omega)
 rw[e,zpx (by omega),zz0];have hL:Sort.bitsLen l.length≤60:=zia hl;have:=((pdqOk (l.length+1)).call (F:=fuel) (a:=0) (b:=l.length) (lim:=Sort.bitsLen l.length) (d:=l.toArray) (by omega) (by omega) (by simp) (by simpa using hl) (by omega) (by simp;omega)).1
 rw[show((0:Nat):Int)=0 from rfl,List.toList_toArray]at this;rw[this,zz0];unfold Sort.sort;rw[List.size_toArray]
end Go.Av
namespace Go.Av
open Go
theorem zeb {x y:Time}:z3i x y=true↔x=y:=by
 constructor
 ·intro h;simp only[z3i,Bool.and_eq_true,decide_eq_true_eq,Bool.and_true]at h;exact Time.ext' h.1 h.2.1 h.2.2
 ·rintro rfl;exact zmx x
theorem zsb {a b:Time}(h:leT a b=true)(g:leT b a=true):a=b:=zeb.1 (zr4 h g)
theorem zm4 {a b:Time}(h:leT a b=true):ltT b a=false:=by
 cases e:ltT b a with
 |false=>rfl
 |true=>rw[zjr]at h;rw[zef]at e;omega
theorem lt_or {a b:Time}(h:ltT b a=false)(hne:a≠b):ltT a b=true:=by
 cases e:ltT a b with
 |true=>rfl
 |false=>
  refine absurd ?_ hne;rw[←Bool.not_eq_true,zef]at h e;exact Time.ext' (by omega) (by omega) (by omega)
structure IsF (l f:List Time):Prop where
 sorted:f.Pairwise fun x y=>ltT x y=true
 sub: ∀x∈f,x∈l
 below: ∀y∈l,∃u∈f,leT u y=true
 least: ∀x∈f,∀y∈l,leT y x=true→y=x
theorem IsF.mem {l f:List Time}(h:IsF l f)(x:Time):x∈f↔x∈l∧ ∀y∈l,leT y x=true→y=x:=by
 constructor
 ·exact fun hx=>⟨h.sub x hx,h.least x hx⟩
 ·rintro⟨hx,hm⟩;obtain⟨u,hu,hle⟩:=h.below x hx;rw[←hm u (h.sub u hu) hle];exact hu
theorem IsF.congr {l m f:List Time}(h:IsF l f)(e: ∀x,x∈l↔x∈m):IsF m f:=
 ⟨h.sorted,fun x hx=>(e x).1 (h.sub x hx),fun y hy=>h.below y ((e y).2 hy),fun x hx y hy=>h.least x hx y ((e y).2 hy)⟩
theorem IsF.step {p f:List Time}{t:Time}(h:IsF p f)(hs: ∀x∈p,ltT t x=false):IsF (p++[t]) (if f.any (fun u=>leT u t)then f else f++[t]):=by
 by_cases hc:f.any (fun u=>leT u t)=true
 ·rw[if_pos hc];obtain⟨u,hu,hut⟩:=List.any_eq_true.1 hc;refine⟨h.sorted,fun x hx=>zz3.2 (.inl (h.sub x hx)),?_,?_⟩
  ·intro y hy;rcases zz3.1 hy with hy|hy
   ·exact h.below y hy
   ·rw[zzf.1 hy];exact⟨u,hu,hut⟩
  ·intro x hx y hy hle;rcases zz3.1 hy with hy|hy
   ·exact h.least x hx y hy hle
   ·rw[zzf.1 hy]at hle ⊢;have hux:=h.least x hx u (h.sub u hu) (zkd hut hle)
    subst hux;exact zsb hle hut
 ·rw[if_neg hc];have hno: ∀u∈f,leT u t=false:=fun u hu=>by
   cases e:leT u t with
   |false=>rfl
   |true=>exact absurd (List.any_eq_true.2 ⟨u,hu,e⟩) hc
  have hnp: ∀y∈p,leT y t=false:=fun y hy=>by
   obtain⟨u,hu,hle⟩:=h.below y hy;cases e:leT y t with
   |false=>rfl
   |true=>have:=zkd hle e;rw[hno u hu]at this;cases this
  refine⟨?_,?_,?_,?_⟩
  ·rw[List.pairwise_append];refine⟨h.sorted,by simp,fun x hx y hy=>?_⟩;rw[zzf.1 hy];refine lt_or (hs x (h.sub x hx)) (fun e=>?_);subst e;have:=hno x hx
   rw[zhs]at this;cases this
  ·intro x hx;rcases zz3.1 hx with hx|hx
   ·exact zz3.2 (.inl (h.sub x hx))
   ·exact zz3.2 (.inr hx)
  ·intro y hy;rcases zz3.1 hy with hy|hy
   ·obtain⟨u,hu,hle⟩:=h.below y hy;exact⟨u,zz3.2 (.inl hu),hle⟩
   ·exact⟨y,zz3.2 (.inr hy),zhs y⟩
  ·intro x hx y hy hle;rcases zz3.1 hx with hx|hx
   ·rcases zz3.1 hy with hy|hy
    ·exact h.least x hx y hy hle
    ·rw[zzf.1 hy]at hle ⊢;have h1:=hs x (h.sub x hx)
     have h2:=zm4 hle;by_cases e:t=x
     ·exact e
     ·have:=lt_or h1 (fun h=>e h.symm);rw[h2]at this;cases this
   ·rw[zzf.1 hx]at hle ⊢;rcases zz3.1 hy with hy|hy
    ·rw[hnp y hy]at hle;cases hle
    ·exact zzf.1 hy
def zio (l:List Time):List Time:=l.foldl (fun f t=>if f.any (fun u=>leT u t)then f else f++[t]) []
def sortT (l:List Time):List Time:=(Sort.sort ltT l.toArray).toList
def zch (l:List Time):List Time:=zio (sortT l)
theorem zj7 (l:List Time):(sortT l).Perm l:=by
 have h:=(Sort.sort_sorts ltT swoT l.toArray).1;obtain⟨h1,_,h3⟩:=h;have e1:(Sort.sort ltT l.toArray).extract 0 l.toArray.size=Sort.sort ltT l.toArray:=by rw[←h1];simp
 have e2:l.toArray.extract 0 l.toArray.size=l.toArray:=by simp
 rw[e1,e2]at h3;exact h3
theorem zgu (l:List Time):(sortT l).length=l.length:=(zj7 l).length_eq
theorem zfm (l:List Time):(zio l).length≤l.length:=by
 have key: ∀(r f:List Time),(r.foldl (fun f t=>if f.any (fun u=>leT u t)then f else f++[t]) f).length≤f.length+r.length:=by
  intro r;induction r with
  |nil=>intro f;exact zzc _
  |cons t r ih=>
   intro f;rw[List.foldl_cons];refine Nat.le_trans (ih _) ?_;split
   ·rw[List.length_cons];omega
   ·rw[zzj,List.length_singleton,List.length_cons];omega
 have:=key l [];rw[List.length_nil,zz4]at this;exact this
theorem zjq (l:List Time):(zch l).length≤l.length:=by
 have:=zfm (sortT l);rw[zgu]at this;exact this
end Go.Av
namespace Go.Av
open Go
abbrev NN (l:List Time):Prop:= ∀x∈l,z1j x
theorem zex {X:Type}[Inhabited X]{l:List X}{i:Nat}(h:i<l.length):l.getD i zzd∈l:=by
 rw[List.getD_eq_getElem?_getD,List.getElem?_eq_getElem h];exact List.getElem_mem h
theorem zgw {X:Type}[Inhabited X]{l:List X}{i:Nat}(h:i<l.length):l.take (i+1)=l.take i++[l.getD i zzd]:=by
 rw[List.take_add_one,List.getElem?_eq_getElem h,List.getD_eq_getElem?_getD,List.getElem?_eq_getElem h];rfl
theorem zkk {X R:Type}[Inhabited X]{B:Nat→Unit→Option (Ctl Unit R)}{l:List X}{p:X→Bool}{f:Nat→R}{Q:Type}{kn:Unit→Option Q}{kr:R→Option Q}{q:Option Q}
 (hB: ∀i u,i<l.length→B i u=if p (l.getD i zzd)=true then some (.ret (f i))else some (.next ()))
 (hn:l.any p=false→kn ()=q) (hr: ∀i,i<l.length→l.any p=true→kr (f i)=q):outK (z0i B l.length 0 ()) kn kr=q:=by
 have key: ∀k i,i+k=l.length→(l.take i).any p=false→outK (z0i B k i ()) kn kr=q:=by
  intro k;induction k with
  |zero=>
   intro i hi h;rw[List.take_of_length_le (by omega)]at h;exact hn h
  |succ k ih=>
   intro i hi h;simp only[z0i,hB i () (by omega)];by_cases hp:p (l.getD i zzd)=true
   ·rw[if_pos hp];exact hr i (by omega) (List.any_eq_true.2 ⟨_,zex (by omega),hp⟩)
   ·rw[if_neg hp];refine ih (i+1) (by omega) ?_;rw[zgw (by omega),List.any_append,h]
    simpa using hp
 exact key l.length 0 (by omega) rfl
theorem zk4 {f:List Time}{t:Time}(hf:NN f)(ht:z1j t):z5p f t=some (f.any fun u=>leT u t):=by
 unfold z5p z0r z0u;have h:(outK (z0i (S:=Unit) (R:=Int) (fun i1 (a2:Unit)=>(z83 (f.getD i1 zzd) t).bind fun r4=>bf r4 (some (.ret ((i1:Nat):Int))) (some (.next ()))) f.length 0 ()) (fun(a3:Unit)=>some (-1)) (fun x=>some x)).bind (fun r1=>some (decide (0≤r1)))=some (f.any fun u=>leT u t):=by
  have: ∀o:Option Int,(o.bind fun r1=>some (decide (0≤r1)))=o.map fun r1=>decide (0≤r1):=fun o=>by cases o<;>rfl
  rw[this];have hm: ∀(o:Option (Out Unit Int)),(outK o (fun(a3:Unit)=>some (-1)) (fun x=>some x)).map (fun r1=>decide (0≤r1))=outK o (fun _=>some false) (fun x=>some (decide (0≤x))):=fun o=>by
   cases o with
   |none=>rfl
   |some o=>cases o<;>rfl
  rw[hm];refine zkk (p:=fun u=>leT u t) (f:=fun i=>(i:Int)) ?_ (fun h=>by rw[h]) (fun i hi h=>by rw[h,decide_eq_true (by omega)]);intro i u hi;unfold z83;rw[zld (hf _ (zex hi)) ht];simp only[zz0];cases leT (f.getD i zzd) t<;>rfl
 rw[h];rfl
theorem zqz {fuel:Nat}{l:List Time}(hl:NN l)(hz:l.length≤274877906944)(hf:2*l.length+30<fuel):z9d fuel l=some (zch l):=by
 unfold z9d z0j;have hs:NN (sortT l):=fun x hx=>hl x ((zj7 l).mem_iff.1 hx)
 have hlen:=zgu l;rw[z0a hz,zz0,znd (by omega) hf,zz0];show need ((sortT l).length=l.length) _=_;rw[z0a hlen];rw[show(Sort.sort ltT l.toArray).toList=sortT l from rfl];unfold zch zio;generalize sortT l=s at*;rw[z5q (s.foldl (fun f t=>if f.any (fun u=>leT u t)then f else f++[t]) []) (fun i a=>a=(s.take i).foldl (fun f t=>if f.any (fun u=>leT u t)then f else f++[t]) []) (fun a h=>by rw[h,List.take_of_length_le (zzc _)])]
 ·rfl
 ·rintro i a hi rfl;have hle:((s.take i).foldl (fun f t=>if f.any (fun u=>leT u t)then f else f++[t]) []).length≤i:=by
   have:=zfm (s.take i);unfold zio at this;rw[List.length_take]at this;omega
  have hnn:NN ((s.take i).foldl (fun f t=>if f.any (fun u=>leT u t)then f else f++[t]) []):=by
   have key: ∀(r f:List Time),NN r→NN f→NN (r.foldl (fun f t=>if f.any (fun u=>leT u t)then f else f++[t]) f):=by
    intro r;induction r with
    |nil=>intro f _ h;exact h
    |cons t r ih=>
     intro f hr h;rw[List.foldl_cons];refine ih _ (fun x hx=>hr x (zzb _ hx)) ?_;split
     ·exact h
     ·intro x hx;rcases zz3.1 hx with hx|hx
      ·exact h x hx
      ·rw[zzf.1 hx];exact hr t (zz7 ..)
   exact key _ _ (fun x hx=>hs x (List.mem_of_mem_take hx)) (fun x h=>nomatch h)
  refine⟨_,?_,rfl⟩;rw[zz4,z0a hi,zk4 hnn (hs _ (zex hi)),zz0,zgw hi,List.foldl_append,List.foldl_cons,List.foldl_nil];generalize (s.take i).foldl (fun f t=>if f.any (fun u=>leT u t)then f else f++[t]) []=f at*;cases hc:f.any (fun u=>leT u (s.getD i zzd))with
  |true=>simp only[zzh,z0n,if_true]
  |false=>
   rw[Bool.not_false,z3h,z0a (by rw[List.length_singleton];omega)];simp
 ·rfl
end Go.Av
namespace Go.Av
open Go
def adv (t:Time)(f:List Time):Time:=if f=[]then t else lub2 t (glbL f)
theorem zpz {t a b:Time}:glb2 (lub2 t a) (lub2 t b)=lub2 t (glb2 a b):=by
 refine Time.ext' ?_ ?_ ?_<;>simp only[lub2,glb2,mx_eq,mn_eq]<;>omega
theorem zr1 {t:Time}{f:List Time}(h:f≠[]):glbL (f.map (lub2 t))=lub2 t (glbL f):=by
 cases f with
 |nil=>exact absurd rfl h
 |cons x f=>
  simp only[zzq,glbL];induction f generalizing x with
  |nil=>rfl
  |cons y f ih=>
   simp only[zzq,List.foldl_cons];rw[zpz];exact ih (glb2 x y) (by simp)
theorem zse {t u:Time}(ht:z1j t)(hu:z1j u):z6w [t,u]=some (lub2 t u):=by
 unfold z6w;rw[zdj (fun x hx=>by
  rcases zzm.1 hx with rfl|hx
  ·exact ht
  ·rw[zzf.1 hx];exact hu),zlz ht]
 rfl
theorem zeo {t:Time}{f:List Time}(ht:z1j t)(hf:NN f)(hl:f.length≤274877906944):z76 t f=some (adv t f):=by
 unfold z76 adv;by_cases h0:f=[]
 ·rw[if_pos h0,h0];rfl
 ·have hlen:f.length≠0:=fun e=>h0 (zzk e);rw[if_neg h0,decide_eq_false (by omega),z0n,z0a (by unfold lim;omega)];rw[z5q (f.map (lub2 t)) (fun i a=>a=(f.take i).map (lub2 t)++zz8 (f.length-i) (⟨0,(0,0)⟩:Time)) (fun a h=>by rw[h,List.take_of_length_le (zzc _),Nat.sub_self];simp)]
  ·simp only[z4q];unfold zc6;rw[zlt,zr1 h0];rfl
  ·rintro i a hi rfl;refine⟨_,?_,rfl⟩;have hlen2:((f.take i).map (lub2 t)++zz8 (f.length-i) (⟨0,(0,0)⟩:Time)).length=f.length:=by
    rw[zzj,List.length_map,List.length_take,List.length_replicate];omega
   rw[zse ht (hf _ (zex hi)),zz0,hlen2,zz4,z0a (by omega),z0a (by omega),zgw hi,List.map_append,show f.length-i=(f.length-(i+1))+1 by omega,List.replicate_succ];have e:=List.set_append_right (s:=(f.take i).map (lub2 t)) (t:=(⟨0,(0,0)⟩:Time)::zz8 (f.length-(i+1)) (⟨0,(0,0)⟩:Time)) i (lub2 t (f.getD i zzd)) (by rw[List.length_map,List.length_take];omega);rw[e,List.length_map,List.length_take,show i-min i f.length=0 by omega];simp
  ·simp
end Go.Av
namespace Go.Av
open Go
theorem zpt:zch []=[]:=zzk (Nat.le_zero.1 (zjq []))
theorem zsx {t:Time}{f:List Time}(ht:z1j t)(hf:NN f):z1j (adv t f):=by
 unfold adv;split
 ·exact ht
 ·exact zsd ht (zs9 hf)
theorem zrv (t:Time)(f:List Time):adv (adv t f) f=adv t f:=by
 unfold adv;split
 ·rfl
 ·refine Time.ext' ?_ ?_ ?_<;>simp only[lub2,mx_eq]<;>omega
end Go.Av
namespace Go.Av
open Go
def Fr (l:List Time):Prop:=(∀t∈l,okT t=true)∧zch l=l
theorem zpc {fuel:Nat}(hf:5<fuel)(l:List Time): ∃e,z3y fuel l=some e∧(e=0↔ ∀t∈l,okT t=true):=by
 unfold z3y;rw[zf7 (fun t=>if okT t=true then 0 else 1) (fun x=>x)]
 ·have key: ∀l:List Time,l.foldr (fun x v=>thenC (if okT x=true then 0 else 1) v) (0:Int)=0↔ ∀t∈l,okT t=true:=fun l=>by
   induction l with
   |nil=>simp
   |cons t l ih=>
    rw[List.foldr_cons,zax,ih];by_cases h:okT t=true<;>simp[h]
  refine⟨l.foldr (fun x v=>thenC (if okT x=true then 0 else 1) v) (0:Int),?_,key l⟩;split
  ·rename_i h;rw[h];rfl
  ·rfl
 ·intro i hi;have h:=zbb hf (l.getD i zzd)
  unfold z3y at h;simp only[List.length_cons,List.length_nil,zz4,z0i,List.getD_cons_zero]at h;simp only[znt hf,zz0,z0d]at h ⊢;generalize l.getD i zzd=t at*;unfold okT at*;simp only[mx_eq]at*;by_cases g:4611686018427387904<max t.epoch (max t.loop.1 t.loop.2)
  ·rw[if_pos g,if_neg (by rw[if_neg (by simp only[Bool.and_eq_true,decide_eq_true_eq];omega)];decide),if_neg (by simp only[Bool.and_eq_true,decide_eq_true_eq];omega)]
  ·rw[if_neg g,if_pos (by rw[if_pos (by simp only[Bool.and_eq_true,decide_eq_true_eq];omega)])]
theorem zpk (a b:List Time): ∃r,z1u a b=some r∧(r=true↔a=b):=by
 unfold z1u;by_cases hl:a.length=b.length
 ·rw[decide_eq_true (by omega:(a.length:Int)=(b.length:Int))];simp only[zzh,z0n];have key: ∀k i,i+k=a.length→ ∃r,outK (z0i (S:=Unit) (R:=Bool) (fun i1 (a2:Unit)=>need ((0:Int)≤((i1:Nat):Int)∧((i1:Nat):Int)<(b.length:Int))<|bf (!(z3i (a.getD i1 zzd) (b.getD i1 zzd))) (some (.ret false)) (some (.next ()))) k i ()) (fun(a3:Unit)=>some true) (fun x=>some x)=some r∧(r=true↔a.drop i=b.drop i):=by
   intro k;induction k with
   |zero=>
    intro i hi;refine⟨true,rfl,?_⟩;rw[List.drop_eq_nil_of_le (by omega:a.length≤i),List.drop_eq_nil_of_le (by omega:b.length≤i)];simp
   |succ k ih=>
    intro i hi;simp only[z0i];rw[z0a (by omega),z2k (by omega:i<a.length),z2k (by omega:i<b.length)];by_cases he:z3i (a.getD i zzd) (b.getD i zzd)=true
    ·rw[he];obtain⟨r,h1,h2⟩:=ih (i+1) (by omega);refine⟨r,h1,?_⟩;rw[h2,zeb.1 he];simp
    ·have he':z3i (a.getD i zzd) (b.getD i zzd)=false:=by simpa using he
     rw[he'];refine⟨false,rfl,?_⟩;simp only[Bool.false_eq_true,false_iff,List.cons.injEq,not_and];intro h;exact absurd (zeb.2 h) he
  obtain⟨r,h1,h2⟩:=key a.length 0 (by omega);exact⟨r,h1,by simpa using h2⟩
 ·rw[decide_eq_false (by omega: ¬(a.length:Int)=(b.length:Int))];exact⟨false,rfl,by simp;intro h;exact hl (by rw[h])⟩
theorem zba {fuel:Nat}{l:List Time}(hf:20000000≤fuel)(hn:l.length≤2000000)(hl:NN l): ∃b,z72 fuel l=some b∧(b=true↔Fr l):=by
 unfold z72;obtain⟨e,h1,h2⟩:=zpc (fuel:=fuel) (by omega) l;rw[h1];simp only[zz0,jn_eq,z0d];by_cases h:e=0
 ·rw[if_pos h,zqz hl (by omega) (by omega)];obtain⟨r,g1,g2⟩:=zpk (zch l) l;simp only[zz0];rw[g1];exact⟨r,rfl,by rw[g2];exact⟨fun g=>⟨h2.1 h,g⟩,fun g=>g.2⟩⟩
 ·rw[if_neg h];exact⟨false,rfl,by simp only[Bool.false_eq_true,false_iff];exact fun g=>h (h2.2 g.1)⟩
theorem zl8:Fr []:=⟨fun t ht=>(by cases ht),zpt⟩
def advU (f:List Time)(u:Update):Update:=⟨u.key,u.row,adv u.time f,u.diff⟩
def advL (f:List Time)(l:List Update):List Update:=l.map (advU f)
theorem zqu (u:Update):advU [] u=u:=by unfold advU adv;simp
theorem zlc (l:List Update):advL [] l=l:=by
 unfold advL;rw[show advU []=id from funext zqu,List.map_id]
def AdvOk (f:List Time)(l R:List Update)(e:Int):Prop:=(chkL l≠0∧R=[]∧e=chkL l)∨(chkL l=0∧zp3 (advL f l) R e)
theorem zhd {fuel:Nat}{f:List Time}{ls:List (List Update)}(hf:20000000≤fuel)(hF:NN f)(hl:f.length≤2000000)(hn:ls.flatten.length≤4000000)(hd: ∀u∈ls.flatten,in64 u.diff)(ht: ∀u∈ls.flatten,z1j u.time):
 ∃R e,z75 fuel f ls=some (R,e)∧AdvOk f ls.flatten R e∧R.length≤ls.flatten.length:=by
 unfold z75;rw[show z15 ls=some ls.flatten from zlk hn];simp only[zz0];generalize ls.flatten=l at*;rw[z96 (by omega)];simp only[zz0,z5e,z0d];by_cases h:chkL l=0
 ·rw[if_pos h];rw[z5q (advL f l) (fun i a=>a=advL f (l.take i)++l.drop i) (fun s hs=>by rw[hs,List.take_length,List.drop_length,List.append_nil])]
  ·simp only[z4q];have hfl:([advL f l]:List (List Update)).flatten=advL f l:=by simp
   obtain⟨R,e,h1,h2,h3⟩:=zs4 (fuel:=fuel) (ls:=[advL f l]) hf (by rw[hfl];simp[advL];exact hn) (fun u hu=>by
    rw[hfl]at hu;obtain⟨v,hv,rfl⟩:=zzp.1 hu;exact hd v hv)
   rw[hfl]at h2 h3;rw[h1];exact⟨R,e,rfl,.inr ⟨h,h2⟩,by simpa [advL]using h3⟩
  ·intro i a hi ha;have hla:(advL f (l.take i)).length=i:=by simp[advL];omega
   have hlen:a.length=l.length:=by rw[ha];simp[hla];omega
   have hg:a.getD i zzd=l.getD i zzd:=by
    rw[ha,z2k hi];have:=zr0 (advL f (l.take i)) (l.drop (i+1)) (l.getD i zzd);rwa[hla]at this
   refine⟨_,?_,rfl⟩;simp only[zz4];rw[z0a (by omega),z0a (by omega),hg,zeo (ht _ (z3e hi)) hF (by omega)];simp only[zz0];rw[z0a (by omega),z0a (by omega)];congr 2;rw[ha,z2k hi];have:=zjt (advL f (l.take i)) (l.drop (i+1)) (l.getD i zzd) (advU f (l.getD i zzd))
   rw[hla]at this;have e1:advL f (l.take (i+1))=advL f (l.take i)++[advU f (l.getD i zzd)]:=by rw[z30 hi];simp[advL]
   rw[e1,List.append_assoc];exact this
  ·simp[advL]
 ·rw[if_neg h];exact⟨_,_,rfl,.inl ⟨h,rfl,rfl⟩,Nat.zero_le _⟩
def zgx (f:List Time)(l:List Update)(B:Batch)(e:Int):Prop:=
 (¬Fr f∧e=4∧B=⟨[],[]⟩)∨(Fr f∧ ∃R e',AdvOk f l R e'∧R.length≤l.length∧((e'≠0∧e=e'∧B=⟨[],[]⟩)∨(e'=0∧e=0∧B=⟨f,R⟩)))
theorem zlg {fuel:Nat}{f:List Time}{ls:List (List Update)}(hf:20000000≤fuel)(hF:NN f)(hl:f.length≤2000000)(hn:ls.flatten.length≤4000000)(hd: ∀u∈ls.flatten,in64 u.diff)(ht: ∀u∈ls.flatten,z1j u.time):
 ∃B e,z5y fuel f ls=some (B,e)∧zgx f ls.flatten B e:=by
 unfold z5y;obtain⟨b,h1,h2⟩:=zba (fuel:=fuel) hf hl hF;rw[h1];simp only[zz0];cases b with
 |false=>exact⟨_,_,rfl,.inl ⟨fun g=>(by cases h2.2 g),rfl,rfl⟩⟩
 |true=>
  obtain⟨R,e',g1,g2,g3⟩:=zhd (fuel:=fuel) hf hF hl hn hd ht;rw[g1];simp only[zzh,z0n,zz0,z5e,z0d];by_cases h:e'=0
  ·rw[if_pos h];unfold z0j;rw[z0a (by omega)];exact⟨_,_,rfl,.inr ⟨h2.1 rfl,R,e',g2,g3,.inr ⟨h,rfl,rfl⟩⟩⟩
  ·rw[if_neg h];exact⟨_,_,rfl,.inr ⟨h2.1 rfl,R,e',g2,g3,.inl ⟨h,rfl,rfl⟩⟩⟩
theorem zod {f:List Time}{l:List Update}{B:Batch}{e:Int}(h:zgx f l B e)(he:e=0):
 Fr f∧chkL l=0∧chkL (advL f l)=0∧ ∃R,B=⟨f,R⟩∧TotU (advL f l) R 0∧R.length≤l.length:=by
 rcases h with⟨_,h,_⟩|⟨h1,R,e',h2,h3,⟨h4,h5,_⟩|⟨h4,_,h5⟩⟩
 ·omega
 ·omega
 ·rcases h2 with⟨g1,g2,g3⟩|⟨g1,⟨g2,g3,g4⟩|⟨g2,g3⟩⟩
  ·omega
  ·omega
  ·exact⟨h1,g1,g2,R,h5,h4▸g3,h3⟩
theorem zo5 {f:List Time}{l R:List Update}{e:Int}(h:TotU (advL f l) R e): ∀r∈R,advU f r=r:=fun r hr=>by
 rcases h with⟨_,h,_⟩|⟨_,rfl,_⟩
 ·obtain⟨y,h1,h2⟩:=h.mem r hr;obtain⟨z,h3,h4⟩:=z94.1 h1;obtain⟨u,_,rfl⟩:=zzp.1 h3;rw[h2,←h4];unfold advU z4i;simp only[zrv]
 ·cases hr
theorem zm3 {l R:List Update}{e:Int}{f:List Time}(h:TotU (advL f l) R e)(hF:NN f)(ht: ∀u∈l,z1j u.time): ∀r∈R,z1j r.time:=
 zrr h fun u hu=>by
  obtain⟨v,hv,rfl⟩:=zzp.1 hu;exact zsx (ht v hv) hF
theorem zmg {fuel:Nat}{f:List Time}{R:List Update}(hf:20000000≤fuel)(hF:NN f)(hl:f.length≤2000000)(hn:R.length≤4000000)(hE:z73 fuel R=some true)(hA: ∀r∈R,advU f r=r)(ht: ∀r∈R,z1j r.time):z5o fuel R f=some true:=by
 unfold z5o;rw[hE];simp only[zz0,jn_eq,z3h];unfold z0p z0s;rw[z5q () (fun _ _=>True) (fun _ _=>rfl)]
 ·rfl
 ·intro i a hi _;refine⟨(),?_,trivial⟩;have hm:=z3e hi
  have e:=congrArg Update.time (hA _ hm);unfold z5d;rw[zeo (ht _ hm) hF (by omega)];have e2:adv (R.getD i zzd).time f=(R.getD i zzd).time:=e
  rw[e2];have e3:z3i (R.getD i zzd).time (R.getD i zzd).time=true:=zeb.2 rfl;simp only[zz0,e3,zzh,z0n]
 ·trivial
theorem zog {fuel:Nat}{f:List Time}{l R:List Update}(hf:20000000≤fuel)(hF:NN f)(hl:f.length≤2000000)(hn:R.length≤4000000)(hFr:Fr f)(hT:TotU (advL f l) R 0)(h0:chkL (advL f l)=0)(ht: ∀u∈l,z1j u.time):
 z5z fuel ⟨f,R⟩=some 0:=by
 unfold z5z;obtain⟨b,h1,h2⟩:=zba (fuel:=fuel) hf hl hF;rw[h1,h2.2 hFr];have hR:Res cU (fun x=>x.diff) z4i (pU (advL f l)) R:=by
  rcases hT with⟨_,h,_⟩|⟨h,_⟩
  ·exact h
  ·omega
 have hE:=zpp hf hn hR.strict (fun r hr=>(hR.sum r hr).2) (zfc hT (z66.1 h0));simp only[zz0,jn_eq,zzh,z0n];rw[zmg hf hF hl hn hE (zo5 hT) (zm3 hT hF ht)];rfl
end Go.Av
namespace Go.Av
open Go
theorem zq4 {α:Type}[Inhabited α]{c:α→α→Int}(hC:IsCmp c){l:List α}(h: ∀j,0<j→j<l.length→c (l.getD (j-1) zzd) (l.getD j zzd)<0):l.Pairwise fun a b=>c a b<0:=by
 have key: ∀j i,i<j→j<l.length→c (l.getD i zzd) (l.getD j zzd)<0:=by
  intro j;induction j with
  |zero=>intro i hi;omega
  |succ j ih=>
   intro i hi hj;have h1:=h (j+1) (by omega) hj
   rw[Nat.add_sub_cancel]at h1;by_cases e:i=j
   ·subst e;exact h1
   ·exact hC.lt_tr (ih i (by omega) (by omega)) (by omega)
 rw[List.pairwise_iff_getElem];intro i j hi hj hij;have:=key j i hij hj
 rwa[List.getD_eq_getElem?_getD,List.getElem?_eq_getElem hi,List.getD_eq_getElem?_getD,List.getElem?_eq_getElem hj]at this
structure EvenP (l:List Update):Prop where
 lt:l.Pairwise fun a b=>cU a b<0
 nz: ∀r∈l,r.diff≠0
 ok: ∀r∈l,okU r
theorem EvenP.adj {l:List Update}(h:EvenP l){i:Nat}(h0:0<i)(hi:i<l.length):cU (l.getD (i-1) zzd) (l.getD i zzd)<0:=by
 have hs:=h.lt;rw[List.pairwise_iff_getElem]at hs;have:=hs (i-1) i (by omega) hi (by omega)
 rwa[List.getD_eq_getElem?_getD,List.getElem?_eq_getElem (by omega:i-1<l.length),List.getD_eq_getElem?_getD,List.getElem?_eq_getElem hi]
theorem zjp {fuel:Nat}{l:List Update}(hf:20000000≤fuel)(hn:l.length≤4000000): ∃b,z73 fuel l=some b∧(b=true↔EvenP l):=by
 unfold z73;rw[z96 (by omega)]
 let G:Option Bool→Prop:=fun q=> ∃b,q=some b∧(b=true↔EvenP l)
 refine z9e (G:=G) (fun i _=> ∀j,j<i→(l.getD j zzd).diff≠0∧(0<j→cU (l.getD (j-1) zzd) (l.getD j zzd)<0)) (fun _=> ∀j,j<l.length→(l.getD j zzd).diff≠0∧(0<j→cU (l.getD (j-1) zzd) (l.getD j zzd)<0))
  (fun r=>r=false∧ ¬EvenP l) (fun j hj=>by omega) (fun _ h=>h) ?_ ?_ ?_
 ·intro s h;refine⟨_,rfl,?_⟩;simp only[decide_eq_true_eq];rw[z66];refine⟨fun ho=>⟨zq4 cU_is fun j h0 hj=>(h j hj).2 h0,fun r hr=>?_,ho⟩,fun hE=>hE.ok⟩;obtain⟨i,hi,rfl⟩:=List.mem_iff_getElem.1 hr;have:=(h i hi).1
  rwa[List.getD_eq_getElem?_getD,List.getElem?_eq_getElem hi]at this
 ·rintro r ⟨rfl,h⟩;exact⟨false,rfl,by simp[h]⟩
 ·intro i s hi h;simp only[jn_eq,z0d];by_cases h0:(l.getD i zzd).diff=0
  ·rw[if_pos h0];exact .inr (.inr ⟨_,rfl,rfl,fun hE=>hE.nz _ (z3e hi) h0⟩)
  ·rw[if_neg h0];by_cases g:0<((i:Nat):Int)
   ·rw[if_pos g,wsub1 (by omega) (by omega),z0a (by omega),zan];simp only[zz0,z0d,zz5];by_cases k:0≤cU (l.getD (i-1) zzd) (l.getD i zzd)
    ·rw[if_pos k];exact .inr (.inr ⟨_,rfl,rfl,fun hE=>by have:=hE.adj (i:=i) (by omega) hi;omega⟩)
    ·rw[if_neg k];refine .inl ⟨_,rfl,fun j hj=>?_⟩;by_cases e:j=i
     ·subst e;exact⟨h0,fun _=>by omega⟩
     ·exact h j (by omega)
   ·rw[if_neg g];refine .inl ⟨_,rfl,fun j hj=>?_⟩;by_cases e:j=i
    ·subst e;exact⟨h0,fun _=>by omega⟩
    ·exact h j (by omega)
def AdvP (f:List Time)(l:List Update):Prop:= ∀r∈l,adv r.time f=r.time
theorem zqq {f:List Time}{l:List Update}:AdvP f l↔ ∀r∈l,advU f r=r:=by
 refine forall_congr' fun r=>imp_congr_right fun _=>?_;unfold advU;rcases r with⟨a,b,c,d⟩;simp
theorem zrw {f:List Time}{l:List Update}:(l.any fun u=> !z3i (adv u.time f) u.time)=false↔AdvP f l:=by
 simp only[List.any_eq_false,AdvP,Bool.not_eq_true,Bool.not_eq_false',zeb]
theorem zj3 {fuel:Nat}{f:List Time}{l:List Update}(hf:20000000≤fuel)(hF:NN f)(hl:f.length≤2000000)(hn:l.length≤4000000)(ht: ∀r∈l,z1j r.time): ∃b,z5o fuel l f=some b∧(b=true↔EvenP l∧AdvP f l):=by
 unfold z5o;obtain⟨b,h1,h2⟩:=zjp (l:=l) hf hn;rw[h1];simp only[zz0,jn_eq];cases b with
 |false=>exact⟨false,rfl,by simp only[Bool.false_eq_true,false_iff];exact fun g=>by have:=h2.2 g.1;cases this⟩
 |true=>
  rw[z3h];have hE:=h2.1 rfl;unfold z0p z0s;have hany:=zrw (f:=f) (l:=l)
  refine⟨!(l.any fun u=> !z3i (adv u.time f) u.time),?_,by rw[←hany];simp[hE]⟩;have hB: ∀i (u:Unit),i<l.length→(z5d (l.getD i zzd) f).bind (fun r4=>bf r4 (some (.ret ((i:Nat):Int))) (some (.next ())))=if(!z3i (adv (l.getD i zzd).time f) (l.getD i zzd).time)=true then some (Ctl.ret ((i:Nat):Int))else some (.next ()):=fun i u hi=>by
   unfold z5d;rw[zeo (ht _ (z3e hi)) hF (by omega)];simp only[zz0];cases (!z3i (adv (l.getD i zzd).time f) (l.getD i zzd).time)<;>rfl
  cases hc:l.any fun u=> !z3i (adv u.time f) u.time with
  |false=>
   have e:=zkk (kn:=fun _=>some (-1:Int)) (kr:=fun x:Int=>some x) (p:=fun u:Update=> !z3i (adv u.time f) u.time) (f:=fun i=>(i:Int)) (q:=some (-1)) hB (fun _=>rfl) (fun i hi h=>by rw[hc]at h;cases h);rw[e];rfl
  |true=>
   have: ∃k:Nat,outK (z0i (S:=Unit) (R:=Int) (fun i1 (a2:Unit)=>(z5d (l.getD i1 zzd) f).bind fun r4=>bf r4 (some (.ret ((i1:Nat):Int))) (some (.next ()))) l.length 0 ()) (fun(a3:Unit)=>some (-1)) (fun x=>some x)=some ((k:Nat):Int):=by
    refine z9e (G:=fun q=> ∃k:Nat,q=some ((k:Nat):Int)) (fun i _=>(l.take i).any (fun u=> !z3i (adv u.time f) u.time)=false) (fun _=>False) (fun r=> ∃k:Nat,r=(k:Int)) rfl (fun s h=>by rw[List.take_length,hc]at h;cases h) (fun s h=>h.elim) (fun r ⟨k,h⟩=>⟨k,by rw[h]⟩) ?_;intro i s hi h;rw[hB i s hi];by_cases g:(!z3i (adv (l.getD i zzd).time f) (l.getD i zzd).time)=true
    ·rw[if_pos g];exact .inr (.inr ⟨_,rfl,i,rfl⟩)
    ·rw[if_neg g];refine .inl ⟨_,rfl,?_⟩;rw[z30 hi,List.any_append,h];simp only[List.any_cons,List.any_nil,Bool.or_false,Bool.false_or]
     simpa using g
   obtain⟨k,hk⟩:=this;rw[hk];have:decide (0≤((k:Nat):Int))=true:=by rw[decide_eq_true_eq];omega
   simp only[zz0,this]
def zfw (b:Batch):Prop:=Fr b.since∧EvenP b.updates∧AdvP b.since b.updates
theorem zco {fuel:Nat}{b:Batch}(hf:20000000≤fuel)(hF:NN b.since)(hl:b.since.length≤2000000)(hn:b.updates.length≤4000000)(ht: ∀r∈b.updates,z1j r.time):(z5z fuel b=some 0∧zfw b)∨(z5z fuel b=some 4∧ ¬zfw b):=by
 unfold z5z;obtain⟨x,h1,h2⟩:=zba (fuel:=fuel) hf hl hF;rw[h1];simp only[zz0,jn_eq];cases x with
 |false=>right;exact⟨rfl,fun h=>by have:=h2.2 h.1;cases this⟩
 |true=>
  obtain⟨y,g1,g2⟩:=zj3 (fuel:=fuel) hf hF hl hn ht;rw[g1];cases y with
  |false=>right;exact⟨rfl,fun h=>by have:=g2.2 h.2;cases this⟩
  |true=>left;exact⟨rfl,h2.1 rfl,g2.1 rfl⟩
end Go.Av
namespace Go.Av
open Go
abbrev kc (key:List Value)(u:Update):Int:=cmpL cmpV u.key key
def cntP (p:Update→Bool):List Update→Nat
 |[]=>0
 |u::l=>if p u then cntP p l+1 else 0
theorem ze5 (p:Update→Bool): ∀l,cntP p l≤l.length
 |[]=>zzc _
 |u::l=>by
  unfold cntP;split
  ·simp only[List.length_cons];have:=ze5 p l;omega
  ·exact Nat.zero_le _
theorem zno {p:Update→Bool}: ∀{l:List Update} {i:Nat},i<cntP p l→p (l.getD i zzd)=true
 |[],i,h=>by simp[cntP]at h
 |u::l,i,h=>by
  unfold cntP at h;split at h
  ·rename_i hu
   cases i with
   |zero=>exact hu
   |succ i=>simp only[List.getD_cons_succ];exact zno (by omega)
  ·omega
theorem zjj {p:Update→Bool}: ∀{l:List Update},cntP p l<l.length→p (l.getD (cntP p l) zzd)=false
 |[],h=>by simp at h
 |u::l,h=>by
  unfold cntP at*;split
  ·rename_i hu
   rw[if_pos hu]at h;simp only[List.getD_cons_succ];exact zjj (by simp only[List.length_cons]at h;omega)
  ·rename_i hu
   simpa using hu
theorem zph {p:Update→Bool}{l:List Update}{n:Nat}(hn:n≤l.length)(h1: ∀i,i<n→p (l.getD i zzd)=true)(h2:n<l.length→p (l.getD n zzd)=false):cntP p l=n:=by
 have g1:=ze5 p l;rcases Nat.lt_trichotomy (cntP p l) n with h|h|h
 ·have a:=zjj (p:=p) (l:=l) (by omega);rw[h1 _ h]at a;cases a
 ·exact h
 ·have a:=zno h;rw[h2 (by omega)]at a;cases a
end Go.Av
namespace Go.Av
open Go
theorem zon {l:List Update}{p:Update→Bool}{B:Nat→Unit→Option (Ctl Unit Int)}(hB: ∀i (u:Unit),i<l.length→B i u=if p (l.getD i zzd)=true then some (.next ())else some (.ret ((i:Nat):Int))):
 outK (z0i B l.length 0 ()) (fun _=>some (-1)) (fun x=>some x)=some (if cntP p l<l.length then((cntP p l:Nat):Int)else -1):=by
 refine z9e (G:=fun q=>q=some (if cntP p l<l.length then((cntP p l:Nat):Int)else -1)) (fun i _=> ∀j,j<i→p (l.getD j zzd)=true) (fun _=> ¬cntP p l<l.length) (fun r=>cntP p l<l.length∧r=((cntP p l:Nat):Int)) (fun j hj=>by omega) (fun s h hc=>?_) (fun s h=>by rw[if_neg h]) (fun r ⟨h,e⟩=>by rw[if_pos h,e]) ?_
 ·have:=zjj hc;rw[h _ hc]at this;cases this
 ·intro i s hi h;rw[hB i s hi];by_cases g:p (l.getD i zzd)=true
  ·rw[if_pos g];refine .inl ⟨_,rfl,fun j hj=>?_⟩;by_cases e:j=i
   ·subst e;exact g
   ·exact h j (by omega)
  ·rw[if_neg g];have:cntP p l=i:=zph (by omega) h fun _=>by simpa using g
   exact .inr (.inr ⟨_,rfl,by omega,by rw[this]⟩)
end Go.Av
namespace Go.Av
open Go
abbrev upTo (l:List Update)(key:List Value):Nat:=(l.filter fun u=>decide (kc key u≤0)).length
end Go.Av
namespace Go.Av
open Go
def zsw (f:List Time)(l:List Update)(B:Batch)(e:Int):Prop:=
 (¬Fr f∧e=4∧B=⟨[],[]⟩)∨(Fr f∧ ∃R e',AdvOk f l R e'∧((e'≠0∧e=e'∧B=⟨[],[]⟩)∨(e'=0∧e=0∧B=⟨f,R⟩)))
theorem zgx.r {f:List Time}{l:List Update}{B:Batch}{e:Int}(h:zgx f l B e):zsw f l B e:=by
 rcases h with h|⟨h1,R,e',h2,_,h3⟩
 ·exact .inl h
 ·exact .inr ⟨h1,R,e',h2,h3⟩
def zee (since than:List Time):Bool:=decide (than=[])||(decide (since≠[]) && since.all fun t=>than.any fun u=>leT u t)
theorem zrz {l:List Time}{p:Time→Bool}:(l.any fun t=> !p t)= !l.all p:=by rw[List.any_eq_not_all_not];simp
theorem zky {since than:List Time}(hF:NN since)(hT:NN than):z0y since than=some (!since.all fun t=>than.any fun u=>leT u t):=by
 unfold z0y z1i;have hB: ∀i (u:Unit),i<since.length→(z7i (since.getD i zzd) than).bind (fun r4=>bf r4 (some (.ret ((i:Nat):Int))) (some (.next ())))=if(!than.any fun u=>leT u (since.getD i zzd))=true then some (Ctl.ret ((i:Nat):Int))else some (.next ()):=fun i u hi=>by
  unfold z7i;rw[zk4 hT (hF _ (z3e hi))];simp only[zz0];cases (!than.any fun u=>leT u (since.getD i zzd))<;>rfl
 have hany:=zrz (l:=since) (p:=fun t=>than.any fun u=>leT u t);rw[←hany];have: ∃z:Int,outK (z0i (S:=Unit) (R:=Int) (fun i1 (a2:Unit)=>(z7i (since.getD i1 zzd) than).bind fun r4=>bf r4 (some (.ret ((i1:Nat):Int))) (some (.next ()))) since.length 0 ()) (fun(a3:Unit)=>some (-1)) (fun x=>some x)=some z∧decide (0≤z)=since.any fun t=> !than.any fun u=>leT u t:=by
  refine z9e (G:=fun q=> ∃z:Int,q=some z∧decide (0≤z)=since.any fun t=> !than.any fun u=>leT u t) (fun i _=>(since.take i).any (fun t=> !than.any fun u=>leT u t)=false) (fun _=>since.any (fun t=> !than.any fun u=>leT u t)=false) (fun r=>0≤r∧since.any (fun t=> !than.any fun u=>leT u t)=true) rfl (fun s h=>by rwa[List.take_length]at h) (fun s h=>⟨_,rfl,by rw[h];rfl⟩) (fun r h=>⟨r,rfl,by rw[h.2];exact decide_eq_true h.1⟩) ?_;intro i s hi h;rw[hB i s hi];by_cases g:(!than.any fun u=>leT u (since.getD i zzd))=true
  ·rw[if_pos g];exact .inr (.inr ⟨_,rfl,by omega,List.any_eq_true.2 ⟨_,z3e hi,g⟩⟩)
  ·rw[if_neg g];refine .inl ⟨_,rfl,?_⟩;rw[z30 hi,List.any_append,h];simp only[List.any_cons,List.any_nil,Bool.or_false,Bool.false_or]
   simpa using g
 obtain⟨z,h1,h2⟩:=this;rw[h1];simp only[zz0,h2]
theorem zey {since than:List Time}(hF:NN since)(hT:NN than):z8x since than=some (zee since than):=by
 unfold z8x zee;simp only[jn_eq,z0d];by_cases h:than=[]
 ·rw[h];rfl
 ·have h0: ¬(than.length:Int)=0:=fun e=>h (zzk (by omega));rw[if_neg h0,decide_eq_false h,Bool.false_or];by_cases g:since=[]
  ·rw[g];rfl
  ·have g0:0<(since.length:Int):=by have:=List.length_pos_iff.2 g;omega
   rw[if_pos g0,zky hF hT,decide_eq_true g];simp
end Go.Av
namespace Go.Av
open Go
section
variable {α:Type} {c:α→α→Int} {num:α→Int} {put:α→Int→α}
theorem zss (hC:IsCmp c)(h2: ∀x n y,c (put x n) y=c x y){l1 l2:List (α×Int)}{R1 R2:List α}(ha:Tot c num put l1 R1 0)(hb:Tot c num put l2 R2 0)(hlt: ∀p∈l1,∀q∈l2,c p.1 q.1<0):Tot c num put (l1++l2) (R1++R2) 0:=by
 rcases ha with⟨_,a,fa⟩|⟨h,_⟩
 case inr=>omega
 rcases hb with⟨_,b,fb⟩|⟨h,_⟩
 case inr=>omega
 have h3: ∀x n y,c y (put x n)=c y x:=fun x n y=>by have:=hC.anti y (put x n);have:=hC.anti y x;have:=h2 x n y;omega
 have ne12: ∀p∈l1,∀q∈l2,c p.1 q.1≠0:=fun p hp q hq=>by have:=hlt p hp q hq;omega
 have ne21: ∀p∈l1,∀q∈l2,c q.1 p.1≠0:=fun p hp q hq=>by have:=hlt p hp q hq;have:=hC.anti p.1 q.1;omega
 have z2: ∀y,(∃p∈l1,c y p.1=0)→sm c l2 y=0:=fun y ⟨p,hp,e⟩=>zac fun q hq=>by rw[hC.eqL q.1 e];exact ne12 p hp q hq
 have z1: ∀y,(∃p∈l2,c y p.1=0)→sm c l1 y=0:=fun y ⟨q,hq,e⟩=>zac fun p hp=>by rw[hC.eqL p.1 e];exact ne21 p hp q hq
 have of1: ∀r∈R1,∃p∈l1,c r p.1=0:=fun r hr=>by
  obtain⟨p,hp,e⟩:=a.mem r hr;exact⟨p,hp,by rw[e,h2];exact hC.refl _⟩
 have of2: ∀r∈R2,∃p∈l2,c r p.1=0:=fun r hr=>by
  obtain⟨p,hp,e⟩:=b.mem r hr;exact⟨p,hp,by rw[e,h2];exact hC.refl _⟩
 refine .inl ⟨rfl,⟨?_,?_,?_,?_⟩,?_⟩
 ·rw[List.pairwise_append];refine⟨a.strict,b.strict,fun r hr s hs=>?_⟩;obtain⟨p,hp,e⟩:=of1 r hr;obtain⟨q,hq,e'⟩:=of2 s hs;rw[hC.eqL s e,hC.eqR p.1 e'];exact hlt p hp q hq
 ·intro r hr;rw[z74];rcases zz3.1 hr with hr|hr
  ·rw[z2 r (of1 r hr),Int.add_zero];exact a.sum r hr
  ·rw[z1 r (of2 r hr),Int.zero_add];exact b.sum r hr
 ·intro r hr;rcases zz3.1 hr with hr|hr
  ·obtain⟨y,g1,g2⟩:=a.mem r hr;exact⟨y,zzn _ g1,g2⟩
  ·obtain⟨y,g1,g2⟩:=b.mem r hr;exact⟨y,zzl _ g1,g2⟩
 ·intro y hy hn;rw[z74]at hn;rcases zz3.1 hy with hy|hy
  ·rw[z2 y.1 ⟨y,hy,hC.refl _⟩,Int.add_zero]at hn;obtain⟨r,g1,g2⟩:=a.all y hy hn;exact⟨r,zzn _ g1,g2⟩
  ·rw[z1 y.1 ⟨y,hy,hC.refl _⟩,Int.zero_add]at hn;obtain⟨r,g1,g2⟩:=b.all y hy hn;exact⟨r,zzl _ g1,g2⟩
 ·intro y;rw[z74];by_cases e:sm c l1 y=0
  ·rw[e,Int.zero_add];exact fb y
  ·rw[z2 y (zck e),Int.add_zero];exact fa y
theorem zpr (hC:IsCmp c){l1 l2:List (α×Int)}(h: ¬Fits c l1)(hne: ∀p∈l1,∀q∈l2,c p.1 q.1≠0): ¬Fits c (l1++l2):=fun hf=>by
 apply h;intro y;by_cases e:sm c l1 y=0
 ·rw[e];unfold in64;omega
 ·obtain⟨p,hp,e'⟩:=zck e;have:=hf y
  rw[z74,zac (l:=l2) fun q hq=>by rw[hC.eqL q.1 e'];exact hne p hp q hq,Int.add_zero]at this;exact this
theorem zps {l l':List (α×Int)}(h:l.Perm l'):Fits c l↔Fits c l':=by
 unfold Fits;simp only[zo3 h]
end
def krw (u v:Update):Int:=thenC (cmpL cmpV u.key v.key) (cmpL cmpV u.row v.row)
theorem z9a:IsCmp krw:=(zcc.list.on fun u:Update=>u.key).lex (zcc.list.on fun u:Update=>u.row)
theorem zh3 (u v:Update):z6r u v=some (krw u v):=by
 unfold z6r krw;rw[zay,zay];simp only[zz0,zm6];rfl
theorem zlx (u v:Update):cU u v=thenC (krw u v) (cmpT u.time v.time):=by
 unfold cU krw thenC;by_cases h:cmpL cmpV u.key v.key=0<;>simp[h]
theorem zt7 {u v:Update}(h:cU u v<0):krw u v≤0:=by
 rw[zlx]at h;unfold thenC at h;split at h<;>omega
theorem cU_lt {u v:Update}(h:krw u v<0):cU u v<0:=by
 rw[zlx];unfold thenC;rw[if_neg (by omega)];exact h
theorem znu {t:Time}:okT t=true↔t.epoch≤4611686018427387904∧t.loop.1≤4611686018427387904∧t.loop.2≤4611686018427387904:=by
 unfold okT;simp only[Bool.and_eq_true,decide_eq_true_eq]
theorem zt8 {t s:Time}(h:leT t s=true)(hs:okT s=true):okT t=true:=by
 rw[zjr]at h;rw[znu]at*;omega
theorem zsi {t s:Time}(h:okT t=true)(hs:okT s=true):okT (lub2 t s)=true:=by
 rw[znu]at*;simp only[lub2,mx_eq];omega
theorem zsh {t:Time}{f:List Time}(ht:okT t=true)(hf: ∀x∈f,okT x=true):okT (adv t f)=true:=by
 unfold adv;split
 ·exact ht
 ·rename_i h
  cases f with
  |nil=>exact absurd rfl h
  |cons x f=>
   exact zsi ht (zt8 ((zs8 h).1 (zhs _) x (zz7 ..)) (hf x (zz7 ..)))
theorem znv {f:List Time}{l:List Update}(hf: ∀x∈f,okT x=true)(ho: ∀u∈l,okU u): ∀u∈advL f l,okU u:=fun u hu=>by
 obtain⟨v,hv,rfl⟩:=zzp.1 hu;exact⟨(ho v hv).1,(ho v hv).2.1,zsh (ho v hv).2.2 hf⟩
theorem zhc (f:List Time)(a b:List Update):advL f (a++b)=advL f a++advL f b:=List.map_append ..
theorem zdm (a b:List Update):pU (a++b)=pU a++pU b:=zdc _ a b
theorem zgn {f:List Time}{l:List Update}{p:Update×Int}(h:p∈pU (advL f l)): ∃u∈l,p.1=advU f u:=by
 obtain⟨x,h1,h2⟩:=z94.1 h;obtain⟨u,h3,h4⟩:=zzp.1 h1;exact⟨u,h3,by rw[←h2,←h4]⟩
theorem znz {a b:List Update}(h:a.Perm b)(f:List Time):(pU (advL f a)).Perm (pU (advL f b)):=(h.map _).map _
theorem zp7 {f:List Time}{l R:List Update}{e:Int}(hf: ∀x∈f,okT x=true)(ho: ∀u∈l,okU u)(h:AdvOk f l R e):TotU (advL f l) R e:=by
 rcases h with⟨h1,_⟩|⟨_,⟨h1,_⟩|⟨_,h2⟩⟩
 ·exact absurd (z66.2 ho) h1
 ·exact absurd (z66.2 (znv hf ho)) h1
 ·exact h2
end Go.Av
namespace Go.Av
open Go
abbrev PwU (D:List Update):Prop:=D.Pairwise fun a b=>cU a b<0
theorem PwU.drop {D:List Update}(h:PwU D)(n:Nat):PwU (D.drop n):=h.sublist (List.drop_sublist n D)
theorem zcy {d:Update}{D:List Update}(h:PwU (d::D)): ∀y∈d::D,krw d y≤0:=fun y hy=>by
 rcases zzm.1 hy with rfl|hy
 ·rw[z9a.refl];exact Int.le_refl _
 ·exact zt7 ((List.pairwise_cons.1 h).1 y hy)
abbrev runN (u:Update)(D:List Update):Nat:=cntP (fun x=>decide (krw x u=0)) D
theorem zgq {u:Update}: ∀{D:List Update},PwU D→(∀y∈D,krw u y≤0)→(∀x∈D.take (runN u D),krw x u=0)∧ ∀y∈D.drop (runN u D),krw u y<0
 |[],_,_=>⟨fun x hx=>(by simp at hx),fun x hx=>(by simp at hx)⟩
 |d::D,hp,hm=>by
  by_cases h:krw d u=0
  ·obtain⟨h1,h2⟩:=zgq (u:=u) (List.pairwise_cons.1 hp).2 fun y hy=>hm y (zzb _ hy);have e:runN u (d::D)=runN u D+1:=by simp only[runN,cntP,h,decide_true,if_true]
   rw[e,List.take_succ_cons,List.drop_succ_cons];refine⟨fun x hx=>?_,h2⟩;rcases zzm.1 hx with rfl|hx
   ·exact h
   ·exact h1 x hx
  ·have e:runN u (d::D)=0:=by simp only[runN,cntP,decide_eq_false h];rfl
   rw[e,List.take_zero,List.drop_zero];refine⟨fun x hx=>(by cases hx),fun y hy=>?_⟩;have h1:krw u d<0:=by
    have:=hm d (zz7 ..);have:=z9a.anti d u
    omega
   exact z9a.lt_tr h1 (zcy hp y hy)
theorem zq9 (l:List Update)(u:Update)(hn:l.length≤4000000):za9 l u=some ((runN u l:Nat):Int):=by
 unfold za9 z1b;rw[zon (p:=fun x=>decide (krw x u=0)) (fun i s hi=>by
  unfold zbe;rw[zh3];simp only[zz0,z5e,z0d,decide_eq_true_eq])]
 have:=ze5 (fun x=>decide (krw x u=0)) l;simp only[zz0,z0d];by_cases h:cntP (fun x=>decide (krw x u=0)) l<l.length
 ·rw[if_pos h,if_neg (by omega)]
 ·rw[if_neg h,if_pos (by omega)];congr 1;show(l.length:Int)=((cntP (fun x=>decide (krw x u=0)) l:Nat):Int);omega
theorem zll {l out:List Update}{i:Nat}(hi:i≤l.length)(hl:l.length≤4000000)(ho:out.length≤8000000)(h1:0<i→i<l.length→krw (l.getD (i-1) zzd) (l.getD i zzd)≠0)(h2:i<l.length→ ∀r∈out,krw r (l.getD i zzd)<0):za8 l (i:Int) out=some true:=by
 unfold za8;simp only[jn_eq,z0d];rw[if_neg (by omega),if_neg (by omega)];by_cases h:(i:Int)=(l.length:Int)
 ·rw[if_pos h]
 ·rw[if_neg h];have hlast:(if(out.length:Int)=0 then some true else(need ((0:Int)≤(zzi.wrap ((out.length:Int)-1))∧(zzi.wrap ((out.length:Int)-1))<(out.length:Int))<|need ((0:Int)≤(i:Int)∧(i:Int)<(l.length:Int))<|(z6r (out.getD ((zzi.wrap ((out.length:Int)-1)).toNat) zzd) (l.getD (i:Int).toNat zzd)).bind fun r10=>some (decide (r10<0))))=some true:=by
   by_cases h0:(out.length:Int)=0
   ·rw[if_pos h0]
   ·rw[if_neg h0,wsub1 (by omega) (by omega),z0a (by omega),z0a (by omega),zz5,zz5,zh3];simp only[zz0];rw[decide_eq_true (h2 (by omega) _ (z3e (by omega)))]
  by_cases g:0<(i:Int)
  ·rw[if_pos g,wsub1 (by omega) (by omega),z0a (by omega),z0a (by omega),zz5,zz5,zh3];simp only[zz0];rw[if_neg (h1 (by omega) (by omega))];rw[zz5]at hlast;exact hlast
  ·rw[if_neg g,z0n];exact hlast
structure MInv (f:List Time) (A B:List Update) (i j:Nat) (out:List Update):Prop where
 hi:i≤A.length
 hj:j≤B.length
 sep: ∀x∈A.take i++B.take j,∀y∈A.drop i++B.drop j,krw x y<0
 tot:TotU (advL f (A.take i++B.take j)) out 0
 len:out.length≤i+j
structure MCtx (f:List Time) (A B:List Update):Prop where
 hF:NN f
 fr:Fr f
 fl:f.length≤2000000
 eA:EvenP A
 eB:EvenP B
 lA:A.length≤2000000
 lB:B.length≤2000000
 tA: ∀r∈A,z1j r.time
 tB: ∀r∈B,z1j r.time
 dA: ∀r∈A,in64 r.diff
 dB: ∀r∈B,in64 r.diff
section
variable {f:List Time} {A B:List Update} {i j:Nat} {out:List Update} {fuel:Nat}
theorem MCtx.ok (c:MCtx f A B): ∀u∈A++B,okU u:=fun u hu=>by
 rcases zz3.1 hu with h|h
 ·exact c.eA.ok u h
 ·exact c.eB.ok u h
theorem zmo (i j:Nat): ∀x∈A.take i++B.take j,x∈A++B:=fun x hx=>by
 rcases zz3.1 hx with h|h
 ·exact zzn _ (List.mem_of_mem_take h)
 ·exact zzl _ (List.mem_of_mem_take h)
theorem zqx (i j:Nat): ∀x∈A.drop i++B.drop j,x∈A++B:=fun x hx=>by
 rcases zz3.1 hx with h|h
 ·exact zzn _ (List.mem_of_mem_drop h)
 ·exact zzl _ (List.mem_of_mem_drop h)
theorem MInv.of (h:MInv f A B i j out): ∀r∈out,∃x∈A.take i++B.take j,∀y,krw r y=krw x y:=fun r hr=>by
 rcases h.tot with⟨_,g,_⟩|⟨g,_⟩
 ·obtain⟨p,hp,e⟩:=g.mem r hr;obtain⟨u,hu,e2⟩:=zgn hp;exact⟨u,hu,fun y=>by rw[e,e2];rfl⟩
 ·omega
theorem MInv.even (c:MCtx f A B)(h:MInv f A B i j out):EvenP out:=by
 rcases h.tot with⟨_,g,_⟩|⟨g,_⟩
 ·exact⟨g.strict,fun r hr=>(g.sum r hr).2,zfc h.tot (znv c.fr.1 fun u hu=>c.ok u (zmo i j u hu))⟩
 ·omega
theorem MInv.settled (c:MCtx f A B)(h:MInv f A B i j out):EvenP out∧AdvP f out:=⟨h.even c,zqq.2 (zo5 h.tot)⟩
theorem MInv.nn (c:MCtx f A B)(h:MInv f A B i j out): ∀r∈out,z1j r.time:=zm3 h.tot c.hF fun u hu=>by
 rcases zz3.1 (zmo i j u hu)with g|g
 ·exact c.tA u g
 ·exact c.tB u g
theorem MInv.check (c:MCtx f A B)(h:MInv f A B i j out)(hf:20000000≤fuel):z5k fuel (⟨A,B,(i:Int),(j:Int),f,out⟩:Merger)=some 0:=by
 have lA:=c.lA;have lB:=c.lB;have hi:=h.hi;have hj:=h.hj;have hl:=h.len
 unfold z5k;simp only[jn_eq];obtain⟨b,h1,h2⟩:=zba (fuel:=fuel) hf c.fl c.hF;rw[h1,h2.2 c.fr];obtain⟨b,h1,h2⟩:=zjp (fuel:=fuel) (l:=A) hf (by omega);rw[h1,h2.2 c.eA];simp only[zz0,z3h];obtain⟨b,h1,h2⟩:=zjp (fuel:=fuel) (l:=B) hf (by omega);rw[h1,h2.2 c.eB];simp only[zz0,z3h];obtain⟨b,h1,h2⟩:=zj3 (fuel:=fuel) hf c.hF c.fl (by omega) (h.nn c);rw[h1,h2.2 (h.settled c)];simp only[zz0,zzh,z0n];have sepR: ∀r∈out,∀y∈A.drop i++B.drop j,krw r y<0:=fun r hr y hy=>by
  obtain⟨x,hx,e⟩:=h.of r hr;rw[e];exact h.sep x hx y hy
 have mA:i<A.length→A.getD i zzd∈A.drop i++B.drop j:=fun g=>zzn _ (by rw[z2k g];exact zz7 ..);have mB:j<B.length→B.getD j zzd∈A.drop i++B.drop j:=fun g=>zzl _ (by rw[z2k g];exact zz7 ..)
 have pA:0<i→A.getD (i-1) zzd∈A.take i++B.take j:=fun g=>zzn _ (by
  have e:=z30 (l:=A) (i:=i-1) (by omega);rw[show i-1+1=i by omega]at e;rw[e];simp)
 have pB:0<j→B.getD (j-1) zzd∈A.take i++B.take j:=fun g=>zzl _ (by
  have e:=z30 (l:=B) (i:=j-1) (by omega);rw[show j-1+1=j by omega]at e;rw[e];simp)
 rw[zll hi (by omega) (by omega) (fun g1 g2=>by have:=h.sep _ (pA g1) _ (mA g2);omega) (fun g r hr=>sepR r hr _ (mA g))];simp only[zz0,zzh,z0n];rw[zll hj (by omega) (by omega) (fun g1 g2=>by have:=h.sep _ (pB g1) _ (mB g2);omega) (fun g r hr=>sepR r hr _ (mB g))];rfl
theorem zra (c:MCtx f A B)(h:MInv f A B i j out)(hl:i<A.length∨j<B.length): ∃u,z3j (⟨⟨A,B,(i:Int),(j:Int),f,out⟩⟩:Worker)=some (u,⟨⟨A,B,(i:Int),(j:Int),f,out⟩⟩)∧u∈A.drop i++B.drop j∧ ∀y∈A.drop i++B.drop j,krw u y≤0:=by
 have hj:=h.hj;have pA:=(show PwU A from c.eA.lt).drop i
 have pB:=(show PwU B from c.eB.lt).drop j;unfold z3j;simp only[jn_eq,z0d,zz5];have onB:j<B.length→(∀y∈A.drop i,krw (B.getD j zzd) y≤0)→ ∃u,(need ((0:Int)≤(j:Int)∧(j:Int)<(B.length:Int))<|some ((B.getD j zzd),(⟨⟨A,B,(i:Int),(j:Int),f,out⟩⟩:Worker)))=some (u,⟨⟨A,B,(i:Int),(j:Int),f,out⟩⟩)∧u∈A.drop i++B.drop j∧ ∀y∈A.drop i++B.drop j,krw u y≤0:=fun g hm=>by
  rw[z0a (by omega)];rw[z2k g]at pB ⊢;refine⟨_,rfl,zzl _ (zz7 ..),fun y hy=>?_⟩;rcases zz3.1 hy with hy|hy
  ·exact hm y hy
  ·exact zcy pB y hy
 have onA:i<A.length→(∀y∈B.drop j,krw (A.getD i zzd) y≤0)→ ∃u,(need ((0:Int)≤(i:Int)∧(i:Int)<(A.length:Int))<|some ((A.getD i zzd),(⟨⟨A,B,(i:Int),(j:Int),f,out⟩⟩:Worker)))=some (u,⟨⟨A,B,(i:Int),(j:Int),f,out⟩⟩)∧u∈A.drop i++B.drop j∧ ∀y∈A.drop i++B.drop j,krw u y≤0:=fun g hm=>by
  rw[z0a (by omega)];rw[z2k g]at pA ⊢;refine⟨_,rfl,zzn _ (zz7 ..),fun y hy=>?_⟩;rcases zz3.1 hy with hy|hy
  ·exact zcy pA y hy
  ·exact hm y hy
 by_cases g:(i:Int)<(A.length:Int)
 ·rw[if_pos g];by_cases g2:(j:Int)=(B.length:Int)
  ·rw[if_pos g2];exact onA (by omega) fun y hy=>by rw[List.drop_eq_nil_of_le (by omega)]at hy;cases hy
  ·rw[if_neg g2,z0a (by omega),z0a (by omega),zh3];simp only[zz0,z0d];have hB:=z2k (show j<B.length by omega)
   have hA:=z2k (show i<A.length by omega);by_cases g3:krw (A.getD i zzd) (B.getD j zzd)<0
   ·rw[if_pos g3];exact onA (by omega) fun y hy=>by
     rw[hB]at hy pB;have:=z9a.lt_tr g3 (zcy pB y hy)
     omega
   ·rw[if_neg g3];refine onB (by omega) fun y hy=>?_;rw[hA]at hy pA;have:=z9a.anti (A.getD i zzd) (B.getD j zzd)
    exact z9a.tr _ _ _ (by omega) (zcy pA y hy)
 ·rw[if_neg g,z0n];exact onB (by omega) fun y hy=>by rw[List.drop_eq_nil_of_le (by omega)]at hy;cases hy
theorem zo4 (l:List Update){n:Nat}(h:n≤l.length):Av.sub l (n:Int) (l.length:Int)=l.drop n:=by
 unfold Av.sub;simp only[zz5];exact List.take_of_length_le (by simp)
theorem sub_zero (l:List Update)(n:Nat):Av.sub l 0 (n:Int)=l.take n:=by
 unfold Av.sub;simp
theorem zsp (c:MCtx f A B)(h:MInv f A B i j out)(hl:i<A.length∨j<B.length)(hf:20000000≤fuel):
 (∃na nb out',z2i fuel (⟨⟨A,B,(i:Int),(j:Int),f,out⟩⟩:Worker)=some (((na+nb:Nat):Int),0,⟨⟨A,B,((i+na:Nat):Int),((j+nb:Nat):Int),f,out'⟩⟩)∧MInv f A B (i+na) (j+nb) out'∧0<na+nb)∨
 (∃w,z2i fuel (⟨⟨A,B,(i:Int),(j:Int),f,out⟩⟩:Worker)=some (0,10,w)∧ ¬Fits cU (pU (advL f (A++B)))):=by
 have lA:=c.lA;have lB:=c.lB;have hi:=h.hi;have hj:=h.hj;have hlen:=h.len
 obtain⟨u,h1,h2,h3⟩:=zra c h hl;unfold z2i;rw[h1];simp only[zz0];rw[z0a (by omega),z0a (by omega),zo4 A hi,zo4 B hj,zq9 _ _ (by simp;omega)];have nA:runN u (A.drop i)≤(A.drop i).length:=ze5 _ _
 have nB:runN u (B.drop j)≤(B.drop j).length:=ze5 _ _;simp only[zz0];rw[z0a (by omega),zq9 _ _ (by simp;omega)];simp only[zz0];rw[z0a (by omega),sub_zero,sub_zero];have sA:=zgq (u:=u) ((show PwU A from c.eA.lt).drop i) fun y hy=>h3 y (zzn _ hy)
 have sB:=zgq (u:=u) ((show PwU B from c.eB.lt).drop j) fun y hy=>h3 y (zzl _ hy);have hpos:0<runN u (A.drop i)+runN u (B.drop j):=by
  rcases zz3.1 h2 with g|g
  ·rcases Nat.eq_zero_or_pos (runN u (A.drop i))with e|e
   ·rw[e,List.drop_zero]at sA;have:=sA.2 u g
    rw[z9a.refl]at this;omega
   ·omega
  ·rcases Nat.eq_zero_or_pos (runN u (B.drop j))with e|e
   ·rw[e,List.drop_zero]at sB;have:=sB.2 u g
    rw[z9a.refl]at this;omega
   ·omega
 generalize hna:runN u (A.drop i)=na at*;generalize hnb:runN u (B.drop j)=nb at*;have eAt:A.take (i+na)=A.take i++(A.drop i).take na:=List.take_add
 have eBt:B.take (j+nb)=B.take j++(B.drop j).take nb:=List.take_add;have eAd:A.drop (i+na)=(A.drop i).drop na:=by rw[List.drop_drop]
 have eBd:B.drop (j+nb)=(B.drop j).drop nb:=by rw[List.drop_drop]
 have lx:((A.drop i).take na).length=na:=by simp only[List.length_take,List.length_drop]at*;omega
 have ly:((B.drop j).take nb).length=nb:=by simp only[List.length_take,List.length_drop]at*;omega
 simp only[List.length_drop]at nA nB;generalize hx:(A.drop i).take na=x at*;generalize hy:(B.drop j).take nb=y at*;have hxy: ∀z∈x++y,krw z u=0∧z∈A.drop i++B.drop j:=fun z hz=>by
  rcases zz3.1 hz with g|g
  ·exact⟨sA.1 z g,zzn _ (by rw[←hx]at g;exact List.mem_of_mem_take g)⟩
  ·exact⟨sB.1 z g,zzl _ (by rw[←hy]at g;exact List.mem_of_mem_take g)⟩
 have hrest: ∀z∈A.drop (i+na)++B.drop (j+nb),krw u z<0∧z∈A.drop i++B.drop j:=fun z hz=>by
  rw[eAd,eBd]at hz;rcases zz3.1 hz with g|g
  ·exact⟨sA.2 z g,zzn _ (List.mem_of_mem_drop g)⟩
  ·exact⟨sB.2 z g,zzl _ (List.mem_of_mem_drop g)⟩
 have hfl:([x,y]:List (List Update)).flatten=x++y:=by simp
 have hmem: ∀z∈x++y,z∈A++B:=fun z hz=>zqx i j z (hxy z hz).2;obtain⟨R,e,g1,g2,g3⟩:=zhd (fuel:=fuel) (f:=f) (ls:=[x,y]) hf c.hF c.fl (by rw[hfl,zzj];omega)
  (fun z hz=>by rw[hfl]at hz;rcases zz3.1 (hmem z hz)with g|g;exact c.dA z g;exact c.dB z g)
  (fun z hz=>by rw[hfl]at hz;rcases zz3.1 (hmem z hz)with g|g;exact c.tA z g;exact c.tB z g)
 rw[hfl]at g2 g3;have hT:=zp7 c.fr.1 (fun z hz=>c.ok z (hmem z hz)) g2
 rw[g1];simp only[zz0,z5e,z0d,lx,ly];by_cases he:e=0
 ·subst he;left;rw[zzj,lx,ly]at g3;rw[if_pos rfl,z0a (by omega),wadd (by omega),wadd (by omega),wadd (by omega)];refine⟨na,nb,out++R,rfl,⟨by omega,by omega,fun z hz w hw=>?_,?_,by rw[zzj];omega⟩,hpos⟩
  ·have hw':=hrest w hw;rw[eAt,eBt]at hz;have hz':z∈A.take i++B.take j∨z∈x++y:=by
    simp only[zz3]at hz ⊢;rcases hz with(g|g)|(g|g)
    ·exact .inl (.inl g)
    ·exact .inr (.inl g)
    ·exact .inl (.inr g)
    ·exact .inr (.inr g)
   rcases hz' with g|g
   ·exact h.sep z g w hw'.2
   ·rw[z9a.eqL w (hxy z g).1];exact hw'.1
  ·have hap:=zss (put:=z4i) cU_is (fun x n y=>rfl) h.tot hT fun p hp q hq=>by
    obtain⟨a,ha,e1⟩:=zgn hp;obtain⟨b,hb,e2⟩:=zgn hq;rw[e1,e2];exact cU_lt (h.sep a ha b (hxy b hb).2)
   rw[←zdm,←zhc]at hap;refine zi2 (znz ?_ f) hap;rw[eAt,eBt]
   haveI:DecidableEq Update:=fun a b=>Classical.propDecidable (a=b)
   rw[List.perm_iff_count];intro a;simp only[List.count_append];omega
 ·right;rw[if_neg he];rcases hT with⟨g,_⟩|⟨rfl,_,g⟩
  ·exact absurd g he
  ·refine⟨_,rfl,?_⟩;have hpart:=zpr cU_is g (l2:=pU (advL f ((A.take i++B.take j)++(A.drop (i+na)++B.drop (j+nb))))) fun p hp q hq=>by
    obtain⟨a,ha,e1⟩:=zgn hp;obtain⟨b,hb,e2⟩:=zgn hq;have ka:=hxy a ha
    have kb:krw a b≠0:=by
     rcases zz3.1 hb with k|k
     ·have:=h.sep b k a ka.2;have:=z9a.anti b a
      omega
     ·rw[z9a.eqL b ka.1];have:=(hrest b k).1;omega
    rw[e1,e2,zlx];unfold thenC;rw[if_neg (show krw (advU f a) (advU f b)≠0 from kb)];exact kb
   rw[←zdm,←zhc]at hpart;refine fun hfit=>hpart ((zps (znz ?_ f)).1 hfit)
   haveI:DecidableEq Update:=fun a b=>Classical.propDecidable (a=b)
   rw[List.perm_iff_count];intro a;have eA:A=A.take i++(x++A.drop (i+na)):=by rw[eAd,←hx,List.take_append_drop,List.take_append_drop]
   have eB:B=B.take j++(y++B.drop (j+nb)):=by rw[eBd,←hy,List.take_append_drop,List.take_append_drop]
   have cA:=congrArg (List.count a) eA;have cB:=congrArg (List.count a) eB
   simp only[List.count_append]at cA cB ⊢;omega
end
end Go.Av
namespace Go.Av
open Go
section
variable {f:List Time} {A B:List Update} {i j:Nat} {out:List Update} {fuel:Nat}
theorem zjs (c:MCtx f A B)(h:MInv f A B i j out):z71 (⟨A,B,(i:Int),(j:Int),f,out⟩:Merger)=some ⟨A,B,(i:Int),(j:Int),f,out⟩:=by
 have lA:=c.lA;have lB:=c.lB;have hi:=h.hi;have hj:=h.hj;have hlen:=h.len;have hfl:=c.fl
 unfold z71;rw[zix c.eA.ok (by omega),zix c.eB.ok (by omega),zix (h.even c).ok (by omega)];unfold z0j;dsimp only;rw[z0a (by omega)];rfl
def zrt (f:List Time)(A B:List Update)(i j:Nat)(p1:Int)(c0:Nat)(o:Option (Out (Int×Worker) (Merger×Int×Int))):Prop:=
 (∃(i' j':Nat) (out':List Update),o=some (.done (((c0+(i'+j'-(i+j)):Nat):Int),⟨⟨A,B,(i':Int),(j':Int),f,out'⟩⟩))∧MInv f A B i' j' out'∧i≤i'∧j≤j'∧
  (((c0:Int)<p1∧(i<A.length∨j<B.length))↔i+j<i'+j')∧(p1≤((c0+(i'+j'-(i+j)):Nat):Int)∨(i'=A.length∧j'=B.length)))∨
 (∃m n,o=some (.ret (m,n,10))∧ ¬Fits cU (pU (advL f (A++B))))
theorem zqm (c:MCtx f A B)(hf:20000000≤fuel)(p1:Int){Bd:Int×Worker→Option (Ctl (Int×Worker) (Merger×Int×Int))}
 (hB: ∀(c0:Nat) (i j:Nat) (out:List Update),MInv f A B i j out→Bd ((c0:Int),⟨⟨A,B,(i:Int),(j:Int),f,out⟩⟩)=if(c0:Int)<p1∧(i<A.length∨j<B.length)then
  ((z2i fuel (⟨⟨A,B,(i:Int),(j:Int),f,out⟩⟩:Worker)).bind fun r7=>if r7.2.1=0 then some (.next ((zzi.wrap ((c0:Int)+r7.1)),r7.2.2))else some (.ret (r7.2.2.merger,(c0:Int),r7.2.1)))else some (.brk ((c0:Int),⟨⟨A,B,(i:Int),(j:Int),f,out⟩⟩))):
 ∀(k fuelN c0 i j:Nat) (out:List Update),A.length+B.length-(i+j)≤k→k<fuelN→c0+(A.length+B.length-(i+j))≤100000000→MInv f A B i j out→zrt f A B i j p1 c0 (loopN Bd fuelN ((c0:Int),⟨⟨A,B,(i:Int),(j:Int),f,out⟩⟩)):=by
 intro k;induction k with
 |zero=>
  intro fuelN c0 i j out hk hfu hc h;have hi:=h.hi;have hj:=h.hj
  cases fuelN with
  |zero=>omega
  |succ fuelN=>
   have e:=hB c0 i j out h;rw[if_neg (by omega)]at e;rw[z1f e];left;refine⟨i,j,out,by rw[Nat.sub_self,Nat.add_zero],h,zzc _,zzc _,?_,.inr ⟨by omega,by omega⟩⟩;omega
 |succ k ih=>
  intro fuelN c0 i j out hk hfu hc h;have hi:=h.hi;have hj:=h.hj
  cases fuelN with
  |zero=>omega
  |succ fuelN=>
   have e:=hB c0 i j out h;by_cases hl:(c0:Int)<p1∧(i<A.length∨j<B.length)
   ·rw[if_pos hl]at e;rcases zsp c h hl.2 hf with⟨na,nb,out',g1,g2,g3⟩|⟨w,g1,g2⟩
    ·rw[g1]at e;simp only[zz0,if_true]at e;have hi2:=g2.hi;have hj2:=g2.hj
     have lA:=c.lA;have lB:=c.lB
     rw[wadd (by omega)]at e;rw[z21 e];have hr:=ih fuelN (c0+(na+nb)) (i+na) (j+nb) out' (by omega) (by omega) (by omega) g2
     rcases hr with⟨i',j',o2,e1,e2,e3,e4,e5,e6⟩|hr
     ·left;refine⟨i',j',o2,?_,e2,by omega,by omega,?_,?_⟩
      ·rw[e1];congr 4;omega
      ·constructor
       ·intro _;omega
       ·intro _;exact hl
      ·rcases e6 with e6|e6
       ·left;rw[show c0+(i'+j'-(i+j))=c0+(na+nb)+(i'+j'-(i+na+(j+nb)))by omega];exact e6
       ·exact .inr e6
     ·exact .inr hr
    ·rw[g1]at e;simp only[zz0]at e;rw[if_neg (by decide)]at e;rw[z9b e];exact .inr ⟨_,_,rfl,g2⟩
   ·rw[if_neg hl]at e;rw[z1f e];left;refine⟨i,j,out,by rw[Nat.sub_self,Nat.add_zero],h,zzc _,zzc _,?_,?_⟩
    ·constructor
     ·intro g;exact absurd g hl
     ·intro g;omega
    ·rw[Nat.sub_self,Nat.add_zero];by_cases g:(c0:Int)<p1
     ·right;have: ¬(i<A.length∨j<B.length):=fun x=>hl ⟨g,x⟩
      omega
     ·left;omega
theorem zst (c:MCtx f A B)(h:MInv f A B i j out)(hf:20000000≤fuel)(p1:Int):
 (∃(i' j':Nat) (out':List Update),z9l fuel (⟨A,B,(i:Int),(j:Int),f,out⟩:Merger) p1=some (⟨A,B,(i':Int),(j':Int),f,out'⟩,((i'+j'-(i+j):Nat):Int),0)∧MInv f A B i' j' out'∧i≤i'∧j≤j'∧
  ((0<p1∧(i<A.length∨j<B.length))↔i+j<i'+j')∧(p1≤((i'+j'-(i+j):Nat):Int)∨(i'=A.length∧j'=B.length)))∨
 (∃m n,z9l fuel (⟨A,B,(i:Int),(j:Int),f,out⟩:Merger) p1=some (m,n,10)∧ ¬Fits cU (pU (advL f (A++B)))):=by
 have lA:=c.lA;have lB:=c.lB
 unfold z9l;rw[h.check c hf];simp only[zz0,decide_true,zzh,z0n];rw[zjs c h];simp only[zz0];have hr:=fun Bd hB=>zqm (f:=f) (A:=A) (B:=B) c hf p1 (Bd:=Bd) hB (A.length+B.length) fuel 0 i j out (by omega) (by omega) (by omega) h
 rw[show((0:Nat):Int)=(0:Int)from rfl]at hr;rcases hr (fun(a3:Int×Worker)=>jn (fun(a5:Bool×Worker)=>bf a5.1 ((z2i fuel a5.2).bind fun r7=>bf (!decide (r7.2.1=0)) (some (.ret (r7.2.2.merger,a3.1,r7.2.1))) (some (.next ((zzi.wrap (a3.1+r7.1)),r7.2.2)))) (some (.brk (a3.1,a5.2)))) fun j6=>bf (decide (a3.1<p1)) ((z3l a3.2).bind fun r8=>j6 (r8.1,r8.2)) (j6 (false,a3.2))) (fun c0 i j out h=>by
  unfold z3l;simp only[jn_eq,z0d,z5e,Int.ofNat_lt];by_cases g:(c0:Int)<p1
  ·rw[if_pos g];by_cases g1:i<A.length
   ·rw[if_pos g1];simp only[zz0,z3h];rw[if_pos ⟨g,.inl g1⟩]
   ·rw[if_neg g1];by_cases g2:j<B.length
    ·rw[decide_eq_true g2,if_pos ⟨g,.inr g2⟩];simp only[zz0,z3h]
    ·rw[decide_eq_false g2,if_neg (fun x=>by rcases x.2 with y|y;exact g1 y;exact g2 y)];simp only[zz0,z0n]
  ·rw[if_neg g,if_neg (fun x=>g x.1),z0n])with⟨i',j',o2,e1,e2,e3,e4,e5,e6⟩|⟨m,n,e1,e2⟩
 ·left;rw[e1];rw[zz4]at e6;exact⟨i',j',o2,by rw[zz4];rfl,e2,e3,e4,e5,e6⟩
 ·right;rw[e1];exact⟨m,n,rfl,e2⟩
theorem zt3 (c:MCtx f A B)(h:MInv f A B A.length B.length out)(hf:20000000≤fuel):zbi fuel (⟨A,B,(A.length:Int),(B.length:Int),f,out⟩:Merger)=some (⟨f,out⟩,0):=by
 unfold zbi z4p;rw[h.check c hf];simp only[zz0,decide_true,zzh,z0n,jn_eq,z0d];rw[if_neg (by omega),decide_eq_false (by omega)];simp only[zz0,z0n];rw[zjs c h];rfl
theorem zkh:MInv f A B 0 0 [] where
 hi:=Nat.zero_le _
 hj:=Nat.zero_le _
 sep:=fun x hx=>by simp at hx
 tot:=by
  rw[List.take_zero,List.take_zero];exact .inl ⟨rfl,⟨List.Pairwise.nil,fun r hr=>(by cases hr),fun r hr=>(by cases hr),fun y hy=>(by cases hy)⟩,fun y=>(by show in64 0;unfold in64;omega)⟩
 len:=zzc _
end
end Go.Av
namespace Go.Av
open Go
section
variable {f:List Time} {A B:List Update} {fuel:Nat}
theorem zml {s:List Time}{a b:Batch}(hf:20000000≤fuel)(hF:NN s)(hl:s.length≤2000000)
 (haF:NN a.since) (hal:a.since.length≤2000000) (han:a.updates.length≤2000000) (hat: ∀r∈a.updates,z1j r.time) (had: ∀r∈a.updates,in64 r.diff)
 (hbF:NN b.since) (hbl:b.since.length≤2000000) (hbn:b.updates.length≤2000000) (hbt: ∀r∈b.updates,z1j r.time) (hbd: ∀r∈b.updates,in64 r.diff):
 (∃e,z60 fuel s a b=some ((⟨([]:List Update),([]:List Update),0,0,([]:List Time),([]:List Update)⟩:Merger),e)∧e≠0)∨(z60 fuel s a b=some (⟨a.updates,b.updates,0,0,s,[]⟩,0)∧MCtx s a.updates b.updates):=by
 unfold z60;simp only[jn_eq];rcases zco (fuel:=fuel) hf haF hal (by omega) hat with⟨hc,_,hEA,_⟩|⟨hc,_⟩
 case inr=>rw[hc];exact .inl ⟨4,rfl,by decide⟩
 rw[hc];simp only[zz0,decide_true,zzh,z0n];rcases zco (fuel:=fuel) hf hbF hbl (by omega) hbt with⟨hc,_,hEB,_⟩|⟨hc,_⟩
 case inr=>rw[hc];exact .inl ⟨4,rfl,by decide⟩
 rw[hc];simp only[zz0,decide_true,zzh,z0n];obtain⟨x,h1,h2⟩:=zba (fuel:=fuel) hf hl hF;rw[h1];cases x with
 |false=>exact .inl ⟨4,rfl,by decide⟩
 |true=>
  have hFr:=h2.1 rfl;simp only[zz0,zzh,z0n];rw[zey hF haF,zey hF hbF];cases zee s a.since with
  |false=>exact .inl ⟨1,rfl,by decide⟩
  |true=>
   simp only[zz0,zzh,z0n];cases zee s b.since with
   |false=>exact .inl ⟨1,rfl,by decide⟩
   |true=>
    simp only[zz0,zzh,z0n];have c:MCtx s a.updates b.updates:=⟨hF,hFr,hl,hEA,hEB,han,hbn,hat,hbt,had,hbd⟩
    have ho:=zjs c zkh;rw[show((0:Nat):Int)=(0:Int)from rfl]at ho;rw[ho];exact .inr ⟨rfl,c⟩
end
end Go.Av
namespace Go.Av
open Go
theorem zmp {fuel:Nat}(hf:20000000≤fuel){X:List Count}(h: ∀c∈X,okRow c.row=true):z81 fuel X X=some true:=by
 unfold z81;rw[decide_eq_true rfl,zzh,z0n];rw[z5q () (fun _ _=>True) (fun _ _=>rfl) (fun i s hi _=>⟨(),?_,trivial⟩) trivial]
 ·rfl
 ·have hc:okRow (X.getD i zzd).row=true:=h _ (by
   rw[List.getD_eq_getElem?_getD,List.getElem?_eq_getElem hi];exact List.getElem_mem hi)
  have hl:(X.getD i zzd).row.length≤8:=by
   unfold okRow at hc;simp only[Bool.and_eq_true,decide_eq_true_eq]at hc;exact hc.1
  generalize X.getD i zzd=c at hl ⊢;have hn:(0:Int)≤((i:Nat):Int)∧((i:Nat):Int)<(X.length:Int):=by omega
  simp only[z0a hn,decide_true,zzh,z0n,jn_eq];have e:=zn5 (fuel:=fuel) (n:=c.row.length) (R:=Bool) (z:=((c.row.length:Nat):Int)) (B:=fun(a6:Int)=>bf (decide (a6<((c.row).length:Int))) (need ((0:Int)≤a6∧a6<((c.row).length:Int))<|need ((0:Int)≤a6∧a6<((c.row).length:Int))<|bf (!(zce ((c.row).getD a6.toNat zzd) ((c.row).getD a6.toNat zzd))) (some (.ret false)) (some (.next (zzi.wrap (a6+1))))) (some (.brk a6))) (fun k=>((k:Nat):Int)) (by omega) (fun k hk=>by
   have h1:((k:Nat):Int)<(c.row.length:Int):=by omega
   simp only[decide_eq_true h1,z3h,z0a (show(0:Int)≤(k:Int)∧(k:Int)<(c.row.length:Int)by omega),zmy.2 rfl,zzh,z0n];rw[zks (by unfold maxN;omega)])
   (by simp only[show ¬((c.row.length:Nat):Int)<(c.row.length:Int)by omega,decide_false,z0n])
  rw[show((0:Nat):Int)=(0:Int)from rfl]at e;rw[e];rfl
theorem zox {fuel:Nat}{s:List Time}{a b:Batch}(hf:20000000≤fuel)(hF:NN s)(hl:s.length≤2000000)
 (haF:NN a.since) (hal:a.since.length≤2000000) (han:a.updates.length≤2000000) (hat: ∀r∈a.updates,z1j r.time) (had: ∀r∈a.updates,in64 r.diff)
 (hbF:NN b.since) (hbl:b.since.length≤2000000) (hbn:b.updates.length≤2000000) (hbt: ∀r∈b.updates,z1j r.time) (hbd: ∀r∈b.updates,in64 r.diff)
 (hA:zfw a) (hB:zfw b) (hS:Fr s) (h1:zee s a.since=true) (h2:zee s b.since=true):
 z60 fuel s a b=some (⟨a.updates,b.updates,0,0,s,[]⟩,0)∧MCtx s a.updates b.updates:=by
 rcases zml (fuel:=fuel) hf hF hl haF hal han hat had hbF hbl hbn hbt hbd with⟨e,g1,g2⟩|g
 ·exfalso;apply g2;unfold z60 at g1;simp only[jn_eq]at g1;rcases zco (fuel:=fuel) hf haF hal (by omega) hat with⟨hc,_⟩|⟨_,hn⟩
  case inr=>exact absurd hA hn
  rw[hc]at g1;simp only[zz0,decide_true,zzh,z0n]at g1;rcases zco (fuel:=fuel) hf hbF hbl (by omega) hbt with⟨hc,_⟩|⟨_,hn⟩
  case inr=>exact absurd hB hn
  rw[hc]at g1;simp only[zz0,decide_true,zzh,z0n]at g1;obtain⟨x,q1,q2⟩:=zba (fuel:=fuel) hf hl hF;rw[q1,q2.2 hS]at g1;simp only[zz0,zzh,z0n]at g1;rw[zey hF haF,zey hF hbF,h1,h2]at g1;simp only[zz0,zzh,z0n]at g1;cases ho:z71 (⟨a.updates,b.updates,0,0,s,[]⟩:Merger)with
  |none=>rw[ho]at g1;cases g1
  |some m=>
   rw[ho]at g1;simp only[zz0]at g1;injection g1 with g1;exact(congrArg Prod.snd g1).symm
 ·exact g
theorem zql {f:List Time}{l R:List Update}(h:TotU (advL f l) R 0)(y:Update):sm cU (pU R) y=sm cU (pU (advL f l)) y:=by
 rcases h with⟨_,q,_⟩|⟨q,_⟩
 ·exact ztb cU_is q y
 ·omega
structure MadeOf (all R:List Update):Prop where
 chk:zfw ⟨[],R⟩
 sm: ∀y,sm cU (pU all) y=sm cU (pU R) y
 ok: ∀u∈all,okU u
 okR: ∀u∈R,okU u
 d: ∀u∈all,in64 u.diff
 t: ∀u∈all,z1j u.time
 dR: ∀u∈R,in64 u.diff
 tR: ∀u∈R,z1j u.time
 len:R.length≤all.length
theorem zm0 {fuel:Nat}{ls:List (List Update)}{B:Batch}(hf:20000000≤fuel)(hn:ls.flatten.length≤2000000)(hd: ∀u∈ls.flatten,in64 u.diff)(ht: ∀u∈ls.flatten,z1j u.time)
 (h:z5y fuel [] ls=some (B,0)): ∃R,B=⟨[],R⟩∧MadeOf ls.flatten R:=by
 have hF:NN []:=fun t ht=>by cases ht
 obtain⟨B',e,h1,h2⟩:=zlg (fuel:=fuel) (f:=[]) (ls:=ls) hf hF (by simp) (by omega) hd ht;rw[h]at h1;injection h1 with h1;obtain rfl:B=B':=congrArg Prod.fst h1;obtain rfl:(0:Int)=e:=congrArg Prod.snd h1;obtain⟨g1,g2,g3,R,rfl,g4,g5⟩:=zod h2 rfl;have htR:=zm3 g4 hF ht
 have hoR:=zfc g4 (z66.1 g3);refine⟨R,rfl,?_,fun y=>?_,z66.1 g2,hoR,hd,ht,zo6 g4,htR,g5⟩
 ·have hc:=zog (fuel:=fuel) hf hF (by simp) (by omega) g1 g4 g3 ht;rcases zco (fuel:=fuel) (b:=⟨[],R⟩) hf hF (by simp) (by show R.length≤_;omega) htR with⟨_,h⟩|⟨h,_⟩
  ·exact h
  ·rw[hc]at h;cases h
 ·rw[zql g4 y,zlc]
end Go.Av
namespace Go.Av
open Go
theorem zm1 {l1 l2 R1 R2 out:List Update}(c:MCtx [] R1 R2)(h1:MadeOf l1 R1)(h2:MadeOf l2 R2)(h:MInv [] R1 R2 R1.length R2.length out):MadeOf (l1++l2) out:=by
 have hm: ∀{P:Update→Prop},(∀u∈l1,P u)→(∀u∈l2,P u)→ ∀u∈l1++l2,P u:=fun a b u hu=>by
  rcases zz3.1 hu with g|g
  ·exact a u g
  ·exact b u g
 refine⟨⟨zl8,h.settled c⟩,fun y=>?_,hm h1.ok h2.ok,(h.even c).ok,hm h1.d h2.d,hm h1.t h2.t,zo6 h.tot,h.nn c,?_⟩
 ·rw[zql h.tot y,zlc,List.take_length,List.take_length,zdm,zdm,z74,z74,h1.sm,h2.sm]
 ·have:=h.len;have:=h1.len;have:=h2.len
  rw[zzj];omega
theorem zsf {fuel:Nat}{all R:List Update}{t:Time}(hf:20000000≤fuel)(hn:all.length≤2000000)(h:MadeOf all R)(ht:z1j t):
 ∃X w,z8y fuel all t=some (X,w)∧z8y fuel R t=some (X,w)∧ ∀c∈X,okRow c.row=true:=by
 have hl:=h.len;obtain⟨X,w1,a1,a2,_⟩:=at_ok (fuel:=fuel) (l:=all) (t:=t) hf (by omega) h.d h.t ht;obtain⟨Y,w2,b1,b2,_⟩:=at_ok (fuel:=fuel) (l:=R) (t:=t) hf (by omega) h.dR h.tR ht;have eA:errA all t=errA R t:=by unfold errA;rw[z66.2 h.ok,z66.2 h.okR]
 have hXY:X=Y∧w1=w2:=by
  rcases a2 with⟨k1,k2,k3⟩|⟨k1,k2⟩
  ·rcases b2 with⟨m1,m2,m3⟩|⟨m1,m2⟩
   ·exact⟨by rw[k2,m2],by rw[k3,m3,eA]⟩
   ·exact absurd (eA.trans m1) k1
  ·rcases b2 with⟨m1,m2,m3⟩|⟨m1,m2⟩
   ·exact absurd (eA.symm.trans k1) m1
   ·exact znf k2 m2 (zi8 (t:=t) h.ok) (zi8 (t:=t) h.okR) fun y=>zqv t h.sm y
 obtain⟨rfl,rfl⟩:=hXY;refine⟨X,w1,a1,b1,fun c hc=>?_⟩;rcases a2 with⟨_,k2,_⟩|⟨_,k2⟩
 ·rw[k2]at hc;cases hc
 ·exact zi1 k2 (zi8 (t:=t) h.ok) c hc
theorem zjg {fuel:Nat}{p0:List (List Update)}{p1:List Int}{p2:Time}(hB:z6o fuel=some true)(hB0:z5y fuel [] []=some (⟨[],[]⟩,0))(hf:20000000≤fuel)
 (hn:p0.flatten.length≤2000000) (hp:p1.length≤2000000) (hd: ∀l∈p0,∀u∈l,in64 u.diff) (ht: ∀l∈p0,∀u∈l,z1j u.time) (ht':z1j p2):z5g fuel p0 p1 p2=some true:=by
 have hF:NN []:=fun t ht=>by cases ht
 unfold z5g;rw[hB];simp only[zz0,zzh,z0n];rw[hB0];simp only[zz0];have m0:MadeOf [] []:=⟨⟨zl8,⟨.nil,fun r hr=>(by cases hr),fun r hr=>(by cases hr)⟩,fun r hr=>(by cases hr)⟩,fun y=>rfl,fun u hu=>(by cases hu),fun u hu=>(by cases hu),fun u hu=>(by cases hu),fun u hu=>(by cases hu),fun u hu=>(by cases hu),fun u hu=>(by cases hu),zzc _⟩
 let I:Nat→Int×Batch×List Update→Prop:=fun k st=>st.1=0∧ ∃R,st.2.1=⟨[],R⟩∧MadeOf st.2.2 R∧st.2.2.length≤(p0.take k).flatten.length
 let D:Int×Batch×List Update→Prop:=fun st=>st.1=0∧ ∃R,st.2.1=⟨[],R⟩∧MadeOf st.2.2 R∧st.2.2.length≤2000000
 have hID: ∀k st,I k st→D st:=fun k st ⟨h1,R,h2,h3,h4⟩=>⟨h1,R,h2,h3,by
  have:(p0.take k).flatten.length≤p0.flatten.length:=by
   conv=>rhs;rw[←List.take_append_drop k p0,List.flatten_append,zzj]
   omega
  omega⟩
 refine z9e (G:=fun q=>q=some true) I D (fun r=>r=true) ⟨rfl,[],rfl,m0,zzc _⟩ (fun st h=>hID _ st h) ?_ (fun r hr=>by rw[hr]) ?_
 ·rintro⟨e,B,all⟩ ⟨h1,R,h2,h3,h4⟩;obtain rfl:e=0:=h1;obtain rfl:B=⟨[],R⟩:=h2;have h3:MadeOf all R:=h3
  have h4:all.length≤2000000:=h4;obtain⟨X,w,a1,a2,a3⟩:=zsf (fuel:=fuel) (t:=p2) hf h4 h3 ht';simp only[a1,a2,zz0,jn_eq,decide_true,z3h,zmp hf a3]
 ·rintro k ⟨e,B,all⟩ hk ⟨h1,R,h2,h3,h4⟩;obtain rfl:e=0:=h1;obtain rfl:B=⟨[],R⟩:=h2;have h3:MadeOf all R:=h3
  have h4:all.length≤(p0.take k).flatten.length:=h4;have hal:all.length≤2000000:=(hID k (0,⟨[],R⟩,all) ⟨rfl,R,rfl,h3,h4⟩).2.choose_spec.2.2
  have hR:=h3.len;simp only[jn_eq,decide_true,zzh];by_cases h8:((k:Nat):Int)=8
  ·rw[decide_eq_true h8,z3h,z3h];exact .inr (.inl ⟨_,rfl,rfl,R,rfl,h3,hal⟩)
  rw[decide_eq_false h8,z0n,z0n];have hlm:p0.getD k zzd∈p0:=by
   rw[List.getD_eq_getElem?_getD,List.getElem?_eq_getElem hk];exact List.getElem_mem hk
  have hd:=hd _ hlm;have ht:=ht _ hlm
  have hll:(p0.take (k+1)).flatten.length=(p0.take k).flatten.length+(p0.getD k zzd).length:=by
   rw[z30 hk,List.flatten_append,zzj];simp
  have hl2:(p0.take (k+1)).flatten.length≤2000000:=by
   have:(p0.take (k+1)).flatten.length≤p0.flatten.length:=by
    conv=>rhs;rw[←List.take_append_drop (k+1) p0,List.flatten_append,zzj]
    omega
   omega
  generalize p0.getD k zzd=l at hd ht hll ⊢;have e1:([l]:List (List Update)).flatten=l:=by simp
  obtain⟨B,e,b1,b2⟩:=zlg (fuel:=fuel) (f:=[]) (ls:=[l]) hf hF (by simp) (by rw[e1];omega) (by rw[e1];exact hd) (by rw[e1];exact ht);rw[b1];simp only[zz0];by_cases he:e=0
  ·subst he;obtain⟨R2,rfl,hm⟩:=zm0 (fuel:=fuel) (ls:=[l]) hf (by rw[e1];omega) (by rw[e1];exact hd) (by rw[e1];exact ht) b1;rw[e1]at hm;have hR2:=hm.len
   obtain⟨s1,c⟩:=zox (fuel:=fuel) (s:=[]) (a:=⟨[],R⟩) (b:=⟨[],R2⟩) hf hF (by simp) hF (by simp) (by show R.length≤_;omega) h3.tR h3.dR hF (by simp) (by show R2.length≤_;omega) hm.tR hm.dR h3.chk hm.chk zl8 rfl rfl;have c:MCtx [] R R2:=c
   rw[s1];simp only[zz0,decide_true,zzh,z0n];rw[z0a (by omega),z0a (by simp;omega)];have hlen:(p1++[4611686018427387904]).length=p1.length+1:=by simp
   let Good:Merger→Prop:=fun m=> ∃out,m=⟨R,R2,(R.length:Int),(R2.length:Int),[],out⟩∧MInv [] R R2 R.length R2.length out
   refine z9e (G:=fun q=>(∃s',q=some (Ctl.next s')∧I (k+1) s')∨(∃s',q=some (Ctl.brk s')∧D s')∨ ∃r,q=some (Ctl.ret r)∧r=true) (fun n m=> ∃(i j:Nat) (out:List Update),m=⟨R,R2,(i:Int),(j:Int),[],out⟩∧MInv [] R R2 i j out∧(n=(p1++[4611686018427387904]).length→i=R.length∧j=R2.length)) Good (fun r=>r=true) ⟨0,0,[],rfl,zkh,fun h=>by omega⟩ ?_ ?_ ?_ ?_
   ·rintro m ⟨i,j,out,rfl,h3,h4⟩;obtain⟨rfl,rfl⟩:=h4 rfl;exact⟨out,rfl,h3⟩
   ·rintro m ⟨out,rfl,hi⟩;rw[zt3 c hi hf];simp only[zz0];rw[z0a (by omega)];exact .inl ⟨_,rfl,rfl,out,rfl,zm1 c h3 hm hi,by show(all++l).length≤_;rw[zzj];omega⟩
   ·rintro r rfl;exact .inr (.inr ⟨_,rfl,rfl⟩)
   ·rintro n m hn' ⟨i,j,out,rfl,h3,_⟩;have hi:=h3.hi;have hj:=h3.hj
    rw[z0a (by omega)];have hlast:n+1=(p1++[4611686018427387904]).length→(p1++[4611686018427387904]).getD (0+n) zzd=4611686018427387904:=fun h=>by
     have:n=p1.length:=by omega
     rw[this,zz4];exact zbr p1 _
    generalize (p1++[4611686018427387904]).getD (0+n) zzd=a15 at hlast ⊢;rcases zst c h3 hf a15 with⟨i',j',o2,g1,g2,g3,g4,g5,g6⟩|⟨m,w,g1,g2⟩
    ·rw[g1];have hi':=g2.hi;have hj':=g2.hj
     simp only[zz0,decide_true,zzh,z0n];refine .inl ⟨_,rfl,i',j',o2,rfl,g2,fun h=>?_⟩;have:=hlast h
     rcases g6 with g|g
     ·omega
     ·exact g
    ·rw[g1];simp only[zz0,show decide ((10:Int)=0)=false from rfl,Bool.not_false,z3h];exact .inr (.inr ⟨_,rfl,rfl⟩)
  ·have hBz:B=⟨[],[]⟩:=by
    rcases b2 with⟨_,_,h⟩|⟨_,R',e',_,_,⟨_,_,h⟩|⟨_,h5,_⟩⟩
    ·exact h
    ·exact h
    ·exact absurd h5 he
   subst hBz;have hs: ∃m w,z60 fuel [] ⟨[],R⟩ ⟨[],[]⟩=some (m,w):=by
    rcases zml (fuel:=fuel) (s:=[]) (a:=⟨[],R⟩) (b:=⟨[],[]⟩) hf hF (by simp) hF (by simp) (by show R.length≤_;omega) h3.tR h3.dR hF (by simp) (by simp) (fun r hr=>by cases hr) (fun r hr=>by cases hr)with⟨w,g,_⟩|⟨g,_⟩
    ·exact⟨_,_,g⟩
    ·exact⟨_,_,g⟩
   obtain⟨m,w,hs⟩:=hs;rw[hs];simp only[zz0,decide_eq_false he,Bool.not_false,z3h];exact .inl ⟨_,rfl,rfl,R,rfl,h3,by show all.length≤_;omega⟩
end Go.Av
