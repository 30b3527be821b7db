import Derived.Test.YtgpkbkdmpdmmiaaGreatL9x5
import Derived.Sort.LotD5
import Derived.Sort.AssemblyPlain
import Derived.KernelRfl
set_option maxRecDepth 100000
namespace Go.Av
open Go
set_option linter.unusedVariables false
set_option linter.unusedSimpArgs false
theorem zag:∀ (j:Nat) (d:Array Time),(Sort.shiftDown ltT j d).size=d.size
 | 0,d=>rfl
 | j + 1,d=>by
  unfold Sort.shiftDown
  split
  ·rfl
  ·rw [zag j,z18]
theorem zg7 {B:Int × List Time→Option (Ctl (Int × List Time) Empty)}:∀ (j fuel:Nat) (d:Array Time),j < fuel→j < d.size →
  (∀ (j:Nat) (d' : Array Time),d'.size=d.size→j < d.size→B ((j:Int),d'.toList)=if 1≤j∧ltT d'[j]! d'[j - 1]! = true then some (.next (((j - 1:Nat):Int),(Sort.swp d' j (j - 1)).toList)) else some (.brk ((j:Int),d'.toList))) →
  ∃ x:Int,loopN B fuel ((j:Int),d.toList)=some (.done (x,(Sort.shiftDown ltT j d).toList)):=by
 intro j
 induction j with
 | zero =>
  intro fuel d hf hj hB
  cases fuel with
  | zero=>omega
  | succ fuel =>
   have h:=hB 0 d rfl hj
   rw [if_neg (by omega)] at h
   rw [z1k h]
   exact ⟨_,rfl⟩
 | succ j ih =>
  intro fuel d hf hj hB
  cases fuel with
  | zero=>omega
  | succ fuel =>
   have h:=hB (j + 1) d rfl hj
   rw [Nat.add_sub_cancel] at h
   unfold Sort.shiftDown
   by_cases hc:ltT d[j + 1]! d[j]! = true
   ·rw [if_pos ⟨by omega,hc⟩] at h
    rw [z1w h,if_neg (by simp [hc])]
    exact ih fuel _ (by omega) (by rw [z18]; omega) (fun j' d' h1 h2=>hB j' d' (by rw [h1,z18]) (by rw [z18] at h2; exact h2))
   ·rw [if_neg (fun h=>hc h.2)] at h
    rw [z1k h,if_pos (by simpa using hc)]
    exact ⟨_,rfl⟩
theorem zjt (b:Nat):∀ (n j:Nat) (d:Array Time),b - j≤n→(Sort.shiftUp ltT b j d).size=d.size:=by
 intro n
 induction n with
 | zero=>intro j d hn; rw [Sort.shiftUp,if_neg (by omega)]
 | succ n ih =>
  intro j d hn
  rw [Sort.shiftUp]
  split
  ·split
   ·rfl
   ·rw [ih _ _ (by omega),z18]
  ·rfl
theorem zhk {B:Int × List Time→Option (Ctl (Int × List Time) Empty)} {b:Nat}:∀ (n j fuel:Nat) (d:Array Time),b - j≤n→n < fuel→1≤j→b≤d.size →
  (∀ (j:Nat) (d' : Array Time),d'.size=d.size→1≤j→B ((j:Int),d'.toList)=if j < b∧ltT d'[j]! d'[j - 1]! = true then some (.next (((j + 1:Nat):Int),(Sort.swp d' j (j - 1)).toList)) else some (.brk ((j:Int),d'.toList))) →
  ∃ x:Int,loopN B fuel ((j:Int),d.toList)=some (.done (x,(Sort.shiftUp ltT b j d).toList)):=by
 intro n
 induction n with
 | zero =>
  intro j fuel d hn hf hj hb hB
  cases fuel with
  | zero=>omega
  | succ fuel =>
   have h:=hB j d rfl hj
   rw [if_neg (by omega)] at h
   rw [z1k h,Sort.shiftUp,if_neg (by omega)]
   exact ⟨_,rfl⟩
 | succ n ih =>
  intro j fuel d hn hf hj hb hB
  cases fuel with
  | zero=>omega
  | succ fuel =>
   have h:=hB j d rfl hj
   rw [Sort.shiftUp]
   by_cases hjb:j < b
   ·rw [if_pos hjb]
    by_cases hc:ltT d[j]! d[j - 1]! = true
    ·rw [if_pos ⟨hjb,hc⟩] at h
     rw [z1w h,if_neg (by simp [hc])]
     exact ih _ fuel _ (by omega) (by omega) (by omega) (by rw [z18]; omega) (fun j' d' h1 h2=>hB j' d' (by rw [h1,z18]) h2)
    ·rw [if_neg (fun h=>hc h.2)] at h
     rw [z1k h,if_pos (by simpa using hc)]
     exact ⟨_,rfl⟩
   ·rw [if_neg (fun h=>hjb h.1)] at h
    rw [z1k h,if_neg hjb]
    exact ⟨_,rfl⟩
theorem zb2 {B:Int→Option (Ctl Int Empty)} {b:Nat} {d:Array Time}:∀ (n i fuel:Nat),b - i≤n→n < fuel→1≤i →
  (∀ (i' : Nat),i≤i' → B (i' : Int)=if i' < b∧ltT d[i']! d[i' - 1]! = false then some (.next ((i' + 1:Nat):Int)) else some (.brk (i' : Int))) →
  loopN B fuel (i:Int)=some (.done ((Sort.scanSorted ltT d b i:Nat):Int))∧i≤Sort.scanSorted ltT d b i∧(i≤b→Sort.scanSorted ltT d b i≤b):=by
 intro n
 induction n with
 | zero =>
  intro i fuel hn hf hi hB
  cases fuel with
  | zero=>omega
  | succ fuel =>
   have h:=hB i (Nat.le_refl _)
   rw [if_neg (by omega)] at h
   rw [z1k h,Sort.scanSorted,if_neg (by simp; omega)]
   exact ⟨rfl,Nat.le_refl _,fun h=>h⟩
 | succ n ih =>
  intro i fuel hn hf hi hB
  cases fuel with
  | zero=>omega
  | succ fuel =>
   have h:=hB i (Nat.le_refl _)
   rw [Sort.scanSorted]
   by_cases hc:i < b∧ltT d[i]! d[i - 1]! = false
   ·rw [if_pos hc] at h
    rw [z1w h,if_pos (by simpa using hc)]
    obtain ⟨h1,h2,h3⟩:=ih (i + 1) fuel (by omega) (by omega) (by omega) (fun i' h=>hB i' (by omega))
    exact ⟨h1,by omega,fun h=>h3 (by omega)⟩
   ·rw [if_neg hc] at h
    rw [z1k h,if_neg (by simpa using hc)]
    exact ⟨rfl,Nat.le_refl _,fun h=>h⟩
def zbz (a b i:Nat) (d:Array Time):Array Time :=
 let d:=Sort.swp d i (i - 1)
 let d:=if i - a ≥ 2 then Sort.shiftDown ltT (i - 1) d else d
 if b - i ≥ 2 then Sort.shiftUp ltT b (i + 1) d else d
theorem zcg (a b i:Nat) (d:Array Time):(zbz a b i d).size=d.size:=by
 unfold zbz
 dsimp only
 split <;> split <;> simp [zjt b b _ _ (Nat.sub_le _ _),zag,z18]
theorem zbl (a b s i:Nat) (d:Array Time):Sort.partialIns ltT a b (s + 1) i d =
  if Sort.scanSorted ltT d b i=b then (d,true) else if b - a < 50 then (d,false) else Sort.partialIns ltT a b s (Sort.scanSorted ltT d b i) (zbz a b (Sort.scanSorted ltT d b i) d):=rfl
theorem zln {B:Int × Int × List Time→Option (Ctl (Int × Int × List Time) (Bool × List Time))} {a b:Nat} {Q:Type} {kn:Int × Int × List Time→Option Q} {kr:Bool × List Time→Option Q} {q:Option Q}:∀ (s i fuel:Nat) (d:Array Time),s≤5→s < fuel→a < i→i≤b →
  (∀ (i:Nat) (d' : Array Time),d'.size=d.size→a < i→i≤b→i≤Sort.scanSorted ltT d' b i∧Sort.scanSorted ltT d' b i≤b) →
  (∀ (s i:Nat) (d' : Array Time),d'.size=d.size→s≤5→a < i→i≤b→B ((i:Int),((5 - s:Nat):Int),d'.toList)=match s with
   | 0=>some (.brk ((i:Int),5,d'.toList))
   | s + 1=>if Sort.scanSorted ltT d' b i=b then some (.ret (true,d'.toList)) else if b - a < 50 then some (.ret (false,d'.toList)) else some (.next (((Sort.scanSorted ltT d' b i:Nat):Int),((5 - s:Nat):Int),(zbz a b (Sort.scanSorted ltT d' b i) d').toList))) →
  (∀ x,(Sort.partialIns ltT a b s i d).2=false→kn (x,5,(Sort.partialIns ltT a b s i d).1.toList)=q)→(kr ((Sort.partialIns ltT a b s i d).2,(Sort.partialIns ltT a b s i d).1.toList)=q) →
  outK (loopN B fuel ((i:Int),((5 - s:Nat):Int),d.toList)) kn kr=q:=by
 intro s
 induction s with
 | zero =>
  intro i fuel d hs hf hi hib hsc hB hkn hkr
  cases fuel with
  | zero=>omega
  | succ fuel =>
   rw [z1k (hB 0 i d rfl hs hi hib)]
   exact hkn _ rfl
 | succ s ih =>
  intro i fuel d hs hf hi hib hsc hB hkn hkr
  cases fuel with
  | zero=>omega
  | succ fuel =>
   have h:=hB (s + 1) i d rfl hs hi hib
   simp only at h
   rw [zbl] at hkn hkr
   have hb:=hsc i d rfl hi hib
   by_cases h1:Sort.scanSorted ltT d b i=b
   ·rw [if_pos h1] at h
    rw [z88 h]
    rw [if_pos h1] at hkr
    exact hkr
   ·rw [if_neg h1] at h hkn hkr
    by_cases h2:b - a < 50
    ·rw [if_pos h2] at h
     rw [z88 h]
     rw [if_pos h2] at hkr
     exact hkr
    ·rw [if_neg h2] at h hkn hkr
     rw [z1w h]
     exact ih _ fuel _ (by omega) (by omega) (by omega) (by omega) (fun i' d' h1 h2 h3=>hsc i' d' (by rw [h1,zcg]) h2 h3) (fun s' i' d' h1 h2 h3 h4=>hB s' i' d' (by rw [h1,zcg]) h2 h3 h4) hkn hkr
theorem zas {fuel a b:Nat} {d:Array Time} (hab:a < b) (hb:b≤d.size) (hd:d.size < 1152921504606846976) (hf:d.size + 10 < fuel) :
  z0l fuel (a:Int) (b:Int) d.toList=some ((Sort.partialInsertionSort ltT d a b).2,(Sort.partialInsertionSort ltT d a b).1.toList):=by
 unfold z0l Sort.partialInsertionSort
 rw [wadd1 (by omega)]
 refine zln (a:=a) (b:=b) 5 (a + 1) fuel d (by omega) (by omega) (by omega) (by omega) ?_ ?_ (fun x h=>by rw [h]) rfl
 ·intro i e he h1 h2
  have:=(zb2 (B:=fun x=>if x.toNat < b∧ltT e[x.toNat]! e[x.toNat - 1]! = false then some (.next ((x.toNat + 1:Nat):Int)) else some (.brk (x.toNat:Int))) (b:=b) (d:=e) b i (b + 1) (by omega) (by omega) (by omega) (fun i' h=>by simp only [Int.toNat_natCast]))
  exact ⟨this.2.1,this.2.2 h2⟩
 ·intro s i e he hs hi hib
  cases s with
  | zero=>rfl
  | succ s =>
   simp only [z08,jn_eq]
   rw [if_pos (show ((5 - (s + 1):Nat):Int) < 5 by omega)]
   obtain ⟨g1,g2,g3⟩:=zb2 (B:=fun (a5:Int)=>if (a5 < (b:Int)) then (need ((0:Int)≤a5∧a5 < (e.toList.length:Int)) <| need ((0 + a5.toNat) < e.toList.length) <| need ((0:Int)≤(IntKind.i64.wrap (a5 - 1))∧(IntKind.i64.wrap (a5 - 1)) < (e.toList.length:Int)) <| need ((0 + (IntKind.i64.wrap (a5 - 1)).toNat) < e.toList.length) <| (z0w (e.toList.getD (0 + a5.toNat) default) (e.toList.getD (0 + (IntKind.i64.wrap (a5 - 1)).toNat) default)).bind fun r54=>bf (!(decide (r54 < 0))) (some (.next (IntKind.i64.wrap (a5 + 1)))) (some (.brk a5))) else (bf false (some (.next (IntKind.i64.wrap (a5 + 1)))) (some (.brk a5)))) (b:=b) (d:=e) b i fuel (by omega) (by omega) (by omega) (fun k hk=>by
    simp only [jn_eq,intlt]
    by_cases hc:k < b
    ·rw [if_pos hc]
     simp (disch:=omega) only [wsub1,wadd1,Int.toNat_natCast,Nat.zero_add,z06,Array.length_toList,z2a,Option.bind_some,z20,hc,true_and]
     unfold ltT
     by_cases h:cmpT e[k]! e[k - 1]! < 0
     ·simp [h]
     ·simp [h]
    ·rw [if_neg hc,if_neg (fun h=>hc h.1),z0y])
   rw [g1]
   simp only [z2o]
   have g3:=g3 hib
   generalize Sort.scanSorted ltT e b i=i2 at *
   by_cases h1:i2=b
   ·rw [if_pos h1,if_pos (by omega)]
   ·rw [if_neg h1,if_neg (by omega),wsub (by omega) (by omega)]
    by_cases h2:b - a < 50
    ·rw [if_pos h2,if_pos (by omega)]
    ·rw [if_neg h2,if_neg (by omega)]
     have w1:IntKind.i64.wrap ((i2:Int) + 1)=((i2 + 1:Nat):Int):=wadd1 (by omega)
     have w2:IntKind.i64.wrap ((i2:Int) - 1)=((i2 - 1:Nat):Int):=wsub1 (by omega) (by omega)
     have w3:IntKind.i64.wrap ((i2:Int) - (a:Int))=((i2 - a:Nat):Int):=wsub (by omega) (by omega)
     have w4:IntKind.i64.wrap ((b:Int) - (i2:Int))=((b - i2:Nat):Int):=wsub (by omega) (by omega)
     have w5:IntKind.i64.wrap (((5 - (s + 1):Nat):Int) + 1)=((5 - s:Nat):Int):=by rw [wadd1 (by omega)]; omega
     simp only [w1,w2,w3,w4,w5,Int.toNat_natCast,Nat.zero_add,Array.length_toList,List.length_set,z20,z3f,jn_eq]
     rw [z06 (by omega),z06 (by omega),z06 (by omega),z06 (by omega),z06 (by omega),z06 (by omega),z06 (by omega),z06 (by omega)]
     unfold zbz
     dsimp only
     have hsz:=z18 e i2 (i2 - 1)
     generalize Sort.swp e i2 (i2 - 1)=f at *
     have up:∀ g:Array Time,g.size=e.size→(if (2:Int)≤((b - i2:Nat):Int) then (outK (loopN (S:=Int × (List Time)) (R:=Empty) (fun (a17:Int × (List Time))=>if (a17.1 < (b:Int)) then (need ((0:Int)≤a17.1∧a17.1 < (a17.2.length:Int)) <| need (a17.1.toNat < a17.2.length) <| need ((0:Int)≤(IntKind.i64.wrap (a17.1 - 1))∧(IntKind.i64.wrap (a17.1 - 1)) < (a17.2.length:Int)) <| need ((IntKind.i64.wrap (a17.1 - 1)).toNat < a17.2.length) <| (z0w (a17.2.getD a17.1.toNat default) (a17.2.getD (IntKind.i64.wrap (a17.1 - 1)).toNat default)).bind fun r23=>bf (!(decide (r23 < 0))) (some (.brk (a17.1,a17.2))) (need ((0:Int)≤(IntKind.i64.wrap (a17.1 - 1))∧(IntKind.i64.wrap (a17.1 - 1)) < (a17.2.length:Int)) <| need ((IntKind.i64.wrap (a17.1 - 1)).toNat < a17.2.length) <| need ((0:Int)≤a17.1∧a17.1 < (a17.2.length:Int)) <| need (a17.1.toNat < a17.2.length) <| need ((0:Int)≤a17.1∧a17.1 < (a17.2.length:Int)) <| need (a17.1.toNat < a17.2.length) <| need ((0:Int)≤(IntKind.i64.wrap (a17.1 - 1))∧(IntKind.i64.wrap (a17.1 - 1)) < (a17.2.length:Int)) <| need ((IntKind.i64.wrap (a17.1 - 1)).toNat < a17.2.length) <| some (.next ((IntKind.i64.wrap (a17.1 + 1)),((a17.2.set a17.1.toNat (a17.2.getD (IntKind.i64.wrap (a17.1 - 1)).toNat default)).set (IntKind.i64.wrap (a17.1 - 1)).toNat (a17.2.getD a17.1.toNat default)))))) else (some (.brk (a17.1,a17.2)))) fuel (((i2 + 1:Nat):Int),g.toList)) (fun (a18:Int × (List Time))=>some (Ctl.next ((i2:Int),((5 - s:Nat):Int),a18.2))) (fun (x:Empty)=>x.elim)) else some (Ctl.next ((i2:Int),((5 - s:Nat):Int),g.toList)))=(some (Ctl.next ((i2:Int),((5 - s:Nat):Int),(if b - i2 ≥ 2 then Sort.shiftUp ltT b (i2 + 1) g else g).toList)):Option (Ctl (Int × Int × List Time) (Bool × List Time))):=fun g hg=>by
      by_cases h3:b - i2 ≥ 2
      ·rw [if_pos h3,if_pos (by omega)]
       refine za0 (zhk (b:=b) b (i2 + 1) fuel g (by omega) (by omega) (by omega) (by omega) ?_) (fun x=>rfl)
       intro j g' hg' hj
       simp only [intlt]
       by_cases hc:j < b
       ·rw [if_pos hc]
        simp (disch:=omega) only [wsub1,wadd1,Int.toNat_natCast,Nat.zero_add,z06,Array.length_toList,List.length_set,z2a,Option.bind_some,z20,z3f,hc,true_and]
        unfold ltT
        by_cases h:cmpT g'[j]! g'[j - 1]! < 0
        ·simp [h]
        ·simp [h]
       ·rw [if_neg hc,if_neg (fun h=>hc h.1)]
      ·rw [if_neg h3,if_neg (by omega)]
     by_cases h4:i2 - a ≥ 2
     ·rw [if_pos h4,if_pos (by omega)]
      refine za0 (zg7 (i2 - 1) fuel f (by omega) (by omega) ?_) (fun x => ?_)
      ·intro j g' hg' hj
       by_cases hc:1≤j
       ·simp only [show ((1:Int)≤(j:Int))=True from eq_true (by omega),if_true]
        simp (disch:=omega) only [wsub1,wadd1,Int.toNat_natCast,Nat.zero_add,z06,Array.length_toList,List.length_set,z2a,Option.bind_some,z20,z3f,hc,true_and]
        unfold ltT
        by_cases h:cmpT g'[j]! g'[j - 1]! < 0
        ·simp [h]
        ·simp [h]
       ·rw [if_neg (by simp only; omega),if_neg (fun h=>hc h.1)]
      ·exact up (Sort.shiftDown ltT (i2 - 1) f) (by rw [zag]; omega)
     ·rw [if_neg h4,if_neg (by omega)]
      exact up f (by omega)
end Go.Av
namespace Go.Av
open Go
set_option linter.unusedVariables false
set_option linter.unusedSimpArgs false
theorem zmf:∀ x:Fin 256,∃ l:Fin 9,bt z2v (x.val:Int)=(l.val:Int)∧x.val < 2 ^ l.val∧(x.val=0→l.val=0)∧(x.val ≠ 0→2 ^ (l.val - 1)≤x.val∧0 < l.val):=by decide +kernel
def IsLen (n L:Nat):Prop:=n < 2 ^ L∧(n=0→L=0)∧(n ≠ 0→2 ^ (L - 1)≤n∧0 < L)
theorem IsLen.shift {n L s:Nat} (h:IsLen (n / 2 ^ s) L) (hn:2 ^ s≤n):IsLen n (L + s):=by
 obtain ⟨h1,h2,h3⟩:=h
 have hp:0 < 2 ^ s:=Nat.pow_pos (by decide)
 have hq:n / 2 ^ s ≠ 0:=Nat.ne_of_gt (Nat.div_pos hn hp)
 obtain ⟨h4,h5⟩:=h3 hq
 refine ⟨?_,fun h=>by omega,fun _=>⟨?_,by omega⟩⟩
 ·rw [Nat.pow_add]
  exact (Nat.div_lt_iff_lt_mul hp).1 h1
 ·rw [show L + s - 1=(L - 1) + s by omega,Nat.pow_add]
  exact (Nat.le_div_iff_mul_le hp).1 h4
theorem zl4 {n:Nat} (h:n < 2 ^ 64):∃ L:Nat,z6b (n:Int)=some (L:Int)∧IsLen n L∧L≤64:=by
 have last:∀ (x b:Nat),x < 256→b≤56→∃ L:Nat,(need ((0:Int)≤(IntKind.u8.wrap (x:Int))∧(IntKind.u8.wrap (x:Int)) < (z2v.size:Int)) <| some (IntKind.i64.wrap ((b:Int) + (IntKind.i64.wrap (bt z2v (IntKind.u8.wrap (x:Int)))))))=some ((L + b:Nat):Int)∧IsLen x L∧L≤8:=fun x b hx hb=>by
  obtain ⟨l,h1,h2,h3,h4⟩:=zmf ⟨x,hx⟩
  have e:IntKind.u8.wrap (x:Int)=(x:Int):=uwrap (k:=.u8) rfl hx
  have hsz:z2v.size=256:=by decide +kernel
  rw [e,hsz,z06 (by omega),h1]
  have hl:=l.isLt
  refine ⟨l.val,?_,⟨h2,h3,h4⟩,by omega⟩
  rw [z1q (n:=(l.val:Int)) (by omega) (by omega),z1q (by omega) (by omega)]
  exact congrArg some (by omega)
 have s8:∀ x:Nat,shrOp .u64 (x:Int) 8=((x / 2 ^ 8:Nat):Int):=fun x=>zbm .u64 x 8 (by decide)
 have s16:∀ x:Nat,shrOp .u64 (x:Int) 16=((x / 2 ^ 16:Nat):Int):=fun x=>zbm .u64 x 16 (by decide)
 have s32:∀ x:Nat,shrOp .u64 (x:Int) 32=((x / 2 ^ 32:Nat):Int):=fun x=>zbm .u64 x 32 (by decide)
 have p8:∀ (x b:Nat),x < 65536→b≤48→∃ L:Nat,bf (decide (256≤(x:Int))) (need ((0:Int)≤(IntKind.u8.wrap (shrOp .u64 (x:Int) 8))∧(IntKind.u8.wrap (shrOp .u64 (x:Int) 8)) < (z2v.size:Int)) <| some (IntKind.i64.wrap ((IntKind.i64.wrap ((b:Int) + 8)) + (IntKind.i64.wrap (bt z2v (IntKind.u8.wrap (shrOp .u64 (x:Int) 8))))))) (need ((0:Int)≤(IntKind.u8.wrap (x:Int))∧(IntKind.u8.wrap (x:Int)) < (z2v.size:Int)) <| some (IntKind.i64.wrap ((b:Int) + (IntKind.i64.wrap (bt z2v (IntKind.u8.wrap (x:Int)))))))=some ((L + b:Nat):Int)∧IsLen x L∧L≤16:=fun x b hx hb=>by
  rw [z08]
  by_cases h1:256≤(x:Int)
  ·rw [if_pos h1,s8,z1q (n:=(b:Int) + 8) (by omega) (by omega)]
   obtain ⟨L,g1,g2,g3⟩:=last (x / 2 ^ 8) (b + 8) (by omega) (by omega)
   rw [show ((b + 8:Nat):Int)=(b:Int) + 8 by omega] at g1
   refine ⟨L + 8,?_,g2.shift (by omega),by omega⟩
   exact g1.trans (congrArg some (by omega))
  ·rw [if_neg h1]
   obtain ⟨L,g1,g2,g3⟩:=last x b (by omega) (by omega)
   exact ⟨L,g1,g2,by omega⟩
 unfold z6b
 simp only [jn_eq]
 by_cases h1:4294967296≤(n:Int)
 ·rw [z08,if_pos h1,s32,z08]
  by_cases h2:65536≤((n / 2 ^ 32:Nat):Int)
  ·rw [if_pos h2,s16,show IntKind.i64.wrap (32 + 16)=((48:Nat):Int) from by decide]
   obtain ⟨L,g1,g2,g3⟩:=p8 (n / 2 ^ 32 / 2 ^ 16) 48 (by omega) (by omega)
   refine ⟨L + 48,g1,?_,by omega⟩
   have:=(g2.shift (by omega)).shift (n:=n) (s:=32) (by omega)
   rw [Nat.add_assoc] at this
   exact this
  ·rw [if_neg h2]
   obtain ⟨L,g1,g2,g3⟩:=p8 (n / 2 ^ 32) 32 (by omega) (by omega)
   exact ⟨L + 32,g1,g2.shift (by omega),by omega⟩
 ·rw [z08,if_neg h1,z08]
  by_cases h2:65536≤(n:Int)
  ·rw [if_pos h2,s16,show IntKind.i64.wrap (0 + 16)=((16:Nat):Int) from by decide]
   obtain ⟨L,g1,g2,g3⟩:=p8 (n / 2 ^ 16) 16 (by omega) (by omega)
   exact ⟨L + 16,g1,g2.shift (by omega),by omega⟩
  ·rw [if_neg h2]
   obtain ⟨L,g1,g2,g3⟩:=p8 n 0 (by omega) (by omega)
   exact ⟨L,by rw [show ((0:Nat):Int)=0 from rfl] at g1; exact g1,g2,by omega⟩
theorem zlf {n L K:Nat} (h:IsLen n L) (g:IsLen n K):L=K:=by
 obtain ⟨h1,h2,h3⟩:=h
 obtain ⟨g1,g2,g3⟩:=g
 by_cases h0:n=0
 ·rw [h2 h0,g2 h0]
 ·obtain ⟨h4,h5⟩:=h3 h0
  obtain ⟨g4,g5⟩:=g3 h0
  rcases Nat.lt_trichotomy L K with e | e | e
  ·have:=Nat.pow_le_pow_right (n:=2) (by decide) (show L≤K - 1 by omega); omega
  ·exact e
  ·have:=Nat.pow_le_pow_right (n:=2) (by decide) (show K≤L - 1 by omega); omega
theorem zjv (n:Nat):IsLen n (Sort.bitsLen n):=by
 refine ⟨Sort.lt_two_pow_bitsLen n,fun h=>by rw [h]; rfl,fun h => ?_⟩
 have hp:0 < Sort.bitsLen n:=by unfold Sort.bitsLen; rw [if_neg h]; omega
 refine ⟨?_,hp⟩
 have:=mt (Sort.bitsLen_le_iff n (Sort.bitsLen n - 1)).2 (by omega)
 omega
theorem zfx {n k:Nat} (h:n < 2 ^ k):Sort.bitsLen n≤k:=(Sort.bitsLen_le_iff n k).2 h
theorem zk3 {n:Nat} (h:n < 2 ^ 64):z61 (n:Int)=some ((Sort.bitsLen n:Nat):Int):=by
 unfold z61
 have e:IntKind.u64.wrap (n:Int)=(n:Int):=uwrap (k:=.u64) rfl h
 obtain ⟨L,e1,e2,_⟩:=zl4 h
 rw [show Sort.bitsLen n=L from zlf (zjv n) e2]
 first
  | rw [e,e1]; rfl
  | (rw [e1]; rfl)
end Go.Av
namespace Go.Av
open Go
set_option linter.unusedVariables false
set_option linter.unusedSimpArgs false
theorem zm4 {x:Nat} (h:x < 2 ^ 64):z3l (x:Int)=some (((Sort.xorNextN x:Nat):Int),((Sort.xorNextN x:Nat):Int)):=by
 unfold z3l
 have s13:∀ y:Nat,shlOp .u64 (y:Int) 13=((y * 8192 % 18446744073709551616:Nat):Int):=fun y=>by
  have:=zg5 (k:=.u64) y 13 (by decide)
  rw [show ((13:Nat):Int)=13 from rfl] at this
  rw [this,zcl]; omega
 have s17:∀ y:Nat,shlOp .u64 (y:Int) 17=((y * 131072 % 18446744073709551616:Nat):Int):=fun y=>by
  have:=zg5 (k:=.u64) y 17 (by decide)
  rw [show ((17:Nat):Int)=17 from rfl] at this
  rw [this,zcl]; omega
 have s7:∀ y:Nat,shrOp .u64 (y:Int) 7=((y / 128:Nat):Int):=fun y=>zbm .u64 y 7 (by decide)
 have ha:x ^^^ (x * 8192 % 18446744073709551616) < 2 ^ 64:=Nat.xor_lt_two_pow h (by omega)
 have hb:(x ^^^ (x * 8192 % 18446744073709551616)) ^^^ ((x ^^^ (x * 8192 % 18446744073709551616)) / 128) < 2 ^ 64:=Nat.xor_lt_two_pow ha (by omega)
 rw [s13,zge (k:=.u64) rfl h (show x * 8192 % 18446744073709551616 < 2 ^ 64 by omega),s7,zge (k:=.u64) rfl ha (show (x ^^^ (x * 8192 % 18446744073709551616)) / 128 < 2 ^ 64 by omega),s17,zge (k:=.u64) rfl hb (show ((x ^^^ (x * 8192 % 18446744073709551616)) ^^^ ((x ^^^ (x * 8192 % 18446744073709551616)) / 128)) * 131072 % 18446744073709551616 < 2 ^ 64 by omega)]
 rfl
theorem ze1 (a l m:Nat) (st:UInt64 × Array Time) (i:Nat):(Sort.breakStep a l m st i).2.size=st.2.size:=by
 unfold Sort.breakStep
 exact z18 _ _ _
theorem zjd {l:Nat} (h:l < 1152921504606846976):Sort.bitsLen l≤60:=zfx h
theorem zjb {B:Int × Int × Int × List Time→Option (Ctl (Int × Int × Int × List Time) Empty)} {a b l M fuel K:Nat} {d:Array Time} {r0:UInt64} {n0:Nat} (h0:r0.toNat=n0) {Q:Type} {kn:Int × Int × Int × List Time→Option Q} {kr:Empty→Option Q} {q:Option Q} (hf:4 < fuel) (hK0:1≤K) (hK:a≤K - 1) (hK2:K + 1 < b) (hb:b≤d.size)
  (hB:∀ (k:Nat) (r:UInt64) (e:Array Time),e.size=d.size→a≤k→k≤K + 1→k < b→B ((n0:Int),(k:Int),(r.toNat:Int),e.toList)=some (.next ((n0:Int),((k + 1:Nat):Int),((Sort.breakStep a l M (r,e) k).1.toNat:Int),(Sort.breakStep a l M (r,e) k).2.toList)))
  (hE:∀ (r:UInt64) (e:Array Time),B ((n0:Int),((K + 2:Nat):Int),(r.toNat:Int),e.toList)=some (.brk ((n0:Int),((K + 2:Nat):Int),(r.toNat:Int),e.toList)))
  (hk:∀ x y z,kn (x,y,z,(Sort.breakStep a l M (Sort.breakStep a l M (Sort.breakStep a l M (r0,d) (K - 1)) (K - 1 + 1)) (K - 1 + 2)).2.toList)=q) :
  outK (loopN B fuel ((n0:Int),((K - 1:Nat):Int),(n0:Int),d.toList)) kn kr=q:=by
 subst h0
 obtain ⟨f,rfl⟩:∃ f,fuel=f + 1 + 1 + 1 + 1:=⟨fuel - 4,by omega⟩
 have s1:=ze1 a l M (r0,d) (K - 1)
 have s2:=ze1 a l M (Sort.breakStep a l M (r0,d) (K - 1)) (K - 1 + 1)
 have h1:=hB (K - 1) r0 d rfl (by omega) (by omega) (by omega)
 have h2:=hB (K - 1 + 1) (Sort.breakStep a l M (r0,d) (K - 1)).1 (Sort.breakStep a l M (r0,d) (K - 1)).2 s1 (by omega) (by omega) (by omega)
 have h3:=hB (K - 1 + 1 + 1) (Sort.breakStep a l M (Sort.breakStep a l M (r0,d) (K - 1)) (K - 1 + 1)).1 (Sort.breakStep a l M (Sort.breakStep a l M (r0,d) (K - 1)) (K - 1 + 1)).2 (s2.trans s1) (by omega) (by omega) (by omega)
 rw [z1w h1,z1w h2,z1w h3,show K - 1 + 1 + 1 + 1=K + 2 by omega,z1k (hE _ _)]
 exact hk _ _ _
theorem zez {fuel a b:Nat} {d:Array Time} (hab:a < b) (hb:b≤d.size) (hd:d.size < 1152921504606846976) (hf:4 < fuel) :
  z10 fuel (a:Int) (b:Int) d.toList=some (Sort.breakPatterns d a b).toList:=by
 unfold z10 Sort.breakPatterns
 have e0:IntKind.i64.wrap ((b:Int) - (a:Int))=((b - a:Nat):Int):=wsub (by omega) (by omega)
 simp only [e0,z08]
 by_cases h8:b - a ≥ 8
 ·rw [if_pos h8,if_pos (by omega)]
  have hL:=zjd (l:=b - a) (by omega)
  have hLl:=Sort.lt_two_pow_bitsLen (b - a)
  have hLu:=Sort.two_pow_bitsLen_le (n:=b - a) (by omega)
  have hp:2 ^ Sort.bitsLen (b - a)≤2 ^ 60:=Nat.pow_le_pow_right (by decide) hL
  have hm:z3s ((b - a:Nat):Int)=some ((2 ^ Sort.bitsLen (b - a):Nat):Int):=by
   unfold z3s
   have e:IntKind.u64.wrap ((b - a:Nat):Int)=((b - a:Nat):Int):=uwrap (k:=.u64) rfl (show b - a < 2 ^ 64 by omega)
   rw [e,zk3 (by omega),Option.bind_some,z06 (by omega)]
   have:=zg5 (k:=.u64) 1 (Sort.bitsLen (b - a)) (by show Sort.bitsLen (b - a)≤64; omega)
   rw [show ((1:Nat):Int)=1 from rfl,Nat.one_mul] at this
   rw [this,uwrap (k:=.u64) rfl (show 2 ^ Sort.bitsLen (b - a) < 2 ^ 64 by omega)]
  rw [hm,Option.bind_some,Nat.one_shiftLeft]
  generalize 2 ^ Sort.bitsLen (b - a)=M at *
  have e1:IntKind.i64.wrap (((b - a:Nat):Int).tdiv 4)=(((b - a) / 4:Nat):Int):=by rw [Int.tdiv_eq_ediv_of_nonneg (by omega),z1q (by omega) (by omega)]; omega
  have e2:IntKind.i64.wrap ((((b - a) / 4:Nat):Int) * 2)=(((b - a) / 4 * 2:Nat):Int):=by rw [z1q (by omega) (by omega)]; omega
  have e3:IntKind.i64.wrap ((a:Int) + (((b - a) / 4 * 2:Nat):Int))=((a + (b - a) / 4 * 2:Nat):Int):=wadd (by omega)
  have e4:IntKind.i64.wrap (((a + (b - a) / 4 * 2:Nat):Int) - 1)=((a + (b - a) / 4 * 2 - 1:Nat):Int):=wsub1 (by omega) (by omega)
  have e5:IntKind.i64.wrap (((a + (b - a) / 4 * 2:Nat):Int) + 1)=((a + (b - a) / 4 * 2 + 1:Nat):Int):=wadd1 (by omega)
  have e6:IntKind.i64.wrap ((b - a:Nat):Int)=((b - a:Nat):Int):=z7w (by unfold in64; omega)
  have e7:IntKind.u64.wrap ((b - a:Nat):Int)=((b - a:Nat):Int):=uwrap (k:=.u64) rfl (show b - a < 2 ^ 64 by omega)
  have e8:IntKind.u64.wrap ((M:Int) - 1)=((M - 1:Nat):Int):=by rw [zcl]; omega
  simp only [e1,e2,e3,e4,e7,e8,jn_eq]
  have hr0:(UInt64.ofNat (b - a)).toNat=b - a:=by rw [UInt64.toNat_ofNat']; omega
  refine zjb (r0:=UInt64.ofNat (b - a)) (n0:=b - a) hr0 (a:=a) (l:=(b - a)) (M:=M) (b:=b) (K:=a + (b - a) / 4 * 2) hf (by omega) (by omega) (by omega) hb ?_ ?_ (fun x y z=>by dsimp only)
  ·intro k r e he hk1 hk2 hk3
   simp only
   rw [if_pos (show (k:Int)≤_ by rw [e1,e2,e3,e5]; omega)]
   have hr:=UInt64.toNat_lt r
   rw [zm4 (by omega),Option.bind_some]
   unfold Sort.breakStep
   dsimp only
   rw [Sort.xorNext_toNat]
   have hx:=Sort.xorNextN_lt r.toNat (by omega)
   have ea:z0j .and .u64 ((Sort.xorNextN r.toNat:Nat):Int) ((M - 1:Nat):Int)=((Sort.xorNextN r.toNat &&& (M - 1):Nat):Int):=zly (k:=.u64) rfl (show _ < 2 ^ 64 by omega) (show M - 1 < 2 ^ 64 by omega)
   have hal:Sort.xorNextN r.toNat &&& (M - 1)≤M - 1:=Nat.and_le_right
   rw [ea]
   generalize Sort.xorNextN r.toNat &&& (M - 1)=o at *
   have eo:IntKind.i64.wrap (o:Int)=(o:Int):=z7w (by unfold in64; omega)
   rw [eo]
   have w1:IntKind.i64.wrap ((k:Int) + 1)=((k + 1:Nat):Int):=wadd1 (by omega)
   by_cases ho:o ≥ b - a
   ·have w2:IntKind.i64.wrap ((o:Int) - ((b - a:Nat):Int))=((o - (b - a):Nat):Int):=wsub (by omega) (by omega)
    have w3:IntKind.i64.wrap ((a:Int) + ((o - (b - a):Nat):Int))=((a + (o - (b - a)):Nat):Int):=wadd (by omega)
    rw [if_pos ho,if_pos (by omega),w1,w2,w3]
    simp (disch:=omega) only [Int.toNat_natCast,Nat.zero_add,z06,Array.length_toList,List.length_set,z20,z3f]
   ·have w3:IntKind.i64.wrap ((a:Int) + (o:Int))=((a + o:Nat):Int):=wadd (by omega)
    rw [if_neg ho,if_neg (by omega),w1,w3]
    simp (disch:=omega) only [Int.toNat_natCast,Nat.zero_add,z06,Array.length_toList,List.length_set,z20,z3f]
  ·intro r e
   simp only
   rw [if_neg (show ¬ ((a + (b - a) / 4 * 2 + 2:Nat):Int)≤_ by rw [e1,e2,e3,e5]; omega)]
 ·rw [if_neg h8,if_neg (by omega)]
end Go.Av
namespace Go.Av
open Go
set_option linter.unusedVariables false
set_option linter.unusedSimpArgs false
abbrev PdqS:=Int × Int × Int × Bool × Bool × (List Time)
def pK12 (fuel : Nat) (a b : Int) (lim len : Int) (pivot : Int) (wb wp : Bool) (l : List Time) (x : Bool) : Option (Ctl PdqS (List Time)) :=
  bf x ((                                         z0x fuel a b pivot l).bind fun r14 => need (r14.2.length = l.length) <| some (.next (r14.1, b, lim, wb, wp, r14.2)))
    ((                                    z1i fuel a b pivot l).bind fun r16 => need (r16.2.2.length = l.length) <| bf (decide ((IntKind.i64.wrap (r16.1 - a)) < (IntKind.i64.wrap (b - r16.1))))
      ((                                  z0i fuel a r16.1 lim r16.2.2).bind fun r18 => need (r18.length = r16.2.2.length) <| some (.next ((IntKind.i64.wrap (r16.1 + 1)), b, lim, (decide ((IntKind.i64.wrap (len.tdiv 8)) ≤ (IntKind.i64.wrap (r16.1 - a)))), r16.2.1, r18)))
      ((                                  z0i fuel (IntKind.i64.wrap (r16.1 + 1)) b lim r16.2.2).bind fun r20 => need (r20.length = r16.2.2.length) <| some (.next (a, r16.1, lim, (decide ((IntKind.i64.wrap (len.tdiv 8)) ≤ (IntKind.i64.wrap (b - r16.1)))), r16.2.1, r20))))
def pK10 (fuel:Nat) (a b:Int) (lim len:Int) (pivot:Int) (wb wp:Bool) (l:List Time):Option (Ctl PdqS (List Time)) :=
 jn (fun (a12:Bool)=>pK12 fuel a b lim len pivot wb wp l a12) fun j13=>bf (decide (0 < a)) (need ((0:Int)≤(IntKind.i64.wrap (a - 1))∧(IntKind.i64.wrap (a - 1)) < (l.length:Int)) <| need ((0 + (IntKind.i64.wrap (a - 1)).toNat) < l.length) <| need ((0:Int)≤pivot∧pivot < (l.length:Int)) <| need ((0 + pivot.toNat) < l.length) <| (z0w (l.getD (0 + (IntKind.i64.wrap (a - 1)).toNat) default) (l.getD (0 + pivot.toNat) default)).bind fun r27=>j13 (!(decide (r27 < 0)))) (j13 false)
def pK8 (fuel:Nat) (a b:Int) (lim len:Int) (wb wp:Bool) (pivot hint:Int) (l:List Time):Option (Ctl PdqS (List Time)) :=
 jn (fun (a10:Bool × Bool × (List Time))=>pK10 fuel a b lim len pivot a10.1 a10.2.1 a10.2.2) fun j11=>jn (fun (a28:Bool × Bool × Bool)=>bf a28.2.2 ((z0l fuel a b l).bind fun r30=>need (r30.2.length=l.length) <| bf r30.1 (some (.ret r30.2)) (j11 (a28.1,a28.2.1,r30.2))) (j11 (a28.1,a28.2.1,l))) fun j29=>bf wb (bf wp (j29 (true,true,(decide (hint=1)))) (j29 (true,false,false))) (j29 (false,wp,false))
def pK5 (fuel:Nat) (a b:Int) (wb wp:Bool) (lim len:Int) (l:List Time):Option (Ctl PdqS (List Time)) :=
 (z1h l a b).bind fun r7=>jn (fun (a8:Int × Int × (List Time))=>pK8 fuel a b lim len wb wp a8.1 a8.2.1 a8.2.2) fun j9=>bf (decide (r7.2=2)) ((z15 fuel a b l).bind fun r32=>need (r32.length=l.length) <| j9 ((IntKind.i64.wrap ((IntKind.i64.wrap (b - 1)) - (IntKind.i64.wrap (r7.1 - a)))),1,r32)) (j9 (r7.1,r7.2,l))
def pBody (fuel:Nat) (a1:PdqS):Option (Ctl PdqS (List Time)) :=
 bf (decide ((IntKind.i64.wrap (a1.2.1 - a1.1))≤12)) ((z0z fuel a1.1 a1.2.1 a1.2.2.2.2.2).bind fun r3=>some (.ret r3)) (bf (decide (a1.2.2.1=0)) ((z1l fuel a1.1 a1.2.1 a1.2.2.2.2.2).bind fun r4=>some (.ret r4))
  (jn (fun (a5:Int × Int × (List Time))=>pK5 fuel a1.1 a1.2.1 a1.2.2.2.1 a1.2.2.2.2.1 a5.1 a5.2.1 a5.2.2) fun j6=>bf (!a1.2.2.2.1) ((z10 fuel a1.1 a1.2.1 a1.2.2.2.2.2).bind fun r34=>need (r34.length=a1.2.2.2.2.2.length) <| j6 ((IntKind.i64.wrap (a1.2.2.1 - 1)),(IntKind.i64.wrap (a1.2.1 - a1.1)),r34)) (j6 (a1.2.2.1,(IntKind.i64.wrap (a1.2.1 - a1.1)),a1.2.2.2.2.2))))
theorem zm1 (fuel:Nat) (a b lim:Int) (l:List Time):z0i (fuel + 1) a b lim l=outK (loopN (pBody fuel) fuel (a,b,lim,true,true,l)) (fun _=>none) (fun x=>some x):=rfl
def qD (a b lim:Nat) (wb wp:Bool) (pivot:Nat) (d:Array Time):Array Time :=
 if a > 0 && !ltT d[a - 1]! d[pivot]! then
  match Sort.partitionEqual ltT d a b pivot with
  | (mid,d4)=>if _h:a < mid∧mid≤b then Sort.pdq ltT d4 mid b lim wb wp else d4
 else
  match Sort.partition ltT d a b pivot with
  | (mid,alreadyPartitioned,d4) =>
   if _h:a≤mid∧mid < b then
    if mid - a < b - mid then
     Sort.pdq ltT (Sort.pdq ltT d4 a mid lim true true) (mid + 1) b lim (decide (mid - a ≥ (b - a) / 8)) alreadyPartitioned
    else
     Sort.pdq ltT (Sort.pdq ltT d4 (mid + 1) b lim true true) a mid lim (decide (b - mid ≥ (b - a) / 8)) alreadyPartitioned
   else d4
def qC (a b lim:Nat) (wb wp:Bool) (pivot:Nat) (hint:Sort.Hint) (d:Array Time):Array Time :=
 let pi:=if wb && wp && hint = .increasing then Sort.partialInsertionSort ltT d a b else (d,false)
 if pi.2 then pi.1 else qD a b lim wb wp pivot pi.1
def qB (a b lim:Nat) (wb wp:Bool) (d:Array Time):Array Time :=
 let c:=Sort.choosePivot ltT d a b
 if c.2 = .decreasing then qC a b lim wb wp ((b - 1) - (c.1 - a)) .increasing (Sort.reverseRange d a b) else qC a b lim wb wp c.1 c.2 d
theorem zmh (d:Array Time) (a b lim:Nat) (wb wp:Bool):Sort.pdq ltT d a b lim wb wp =
  if b - a≤12 then Sort.insertionSort ltT d a b else if lim=0 then Sort.heapSort ltT d a b else
   (if wb then qB a b lim wb wp d else qB a b (lim - 1) wb wp (Sort.breakPatterns d a b)):=by
 rw [Sort.pdq]
 by_cases h1:b - a≤12
 ·rw [if_pos h1,if_pos h1]
 ·rw [if_neg h1,if_neg h1]
  by_cases h2:lim=0
  ·rw [if_pos h2,if_pos h2]
  ·rw [if_neg h2,if_neg h2]
   cases wb
   ·simp only [Bool.not_false,if_true]
    unfold qB
    dsimp only
    by_cases h3:(Sort.choosePivot ltT (Sort.breakPatterns d a b) a b).2 = .decreasing
    ·simp only [if_pos h3]; rfl
    ·simp only [if_neg h3]; rfl
   ·simp only [Bool.not_true,Bool.false_eq_true,if_false,if_true]
    unfold qB
    dsimp only
    by_cases h3:(Sort.choosePivot ltT d a b).2 = .decreasing
    ·simp only [if_pos h3]; rfl
    ·simp only [if_neg h3]; rfl
theorem zeo {α:Type} [Inhabited α] (p : α → Bool) (d:Array α) (i:Nat):∀ (j:Nat),i≤j + 1→i≤Sort.scanDown p d i j + 1
 | 0,h=>h
 | j + 1,h=>by
  unfold Sort.scanDown
  split
  ·rename_i hc
   have:i≤j + 1:=by simp at hc; exact hc.1
   exact zeo p d i j this
  ·exact h
theorem ziq {α:Type} [Inhabited α] (p : α → Bool) (d:Array α) (j:Nat):∀ (n i:Nat),j + 1 - i≤n→Sort.scanUp p d j i≤j→p d[Sort.scanUp p d j i]! = false:=by
 intro n
 induction n with
 | zero =>
  intro i hn h
  rw [Sort.scanUp] at h ⊢
  split at h
  ·rename_i hc; simp at hc; omega
  ·omega
 | succ n ih =>
  intro i hn h
  rw [Sort.scanUp] at h ⊢
  split at h
  ·rename_i hc
   rw [if_pos hc]
   exact ih (i + 1) (by omega) h
  ·rename_i hc
   rw [if_neg hc]
   simp at hc
   exact hc h
theorem zd0 {α:Type} [Inhabited α] (p : α → Bool) (d:Array α) (i:Nat):∀ (j:Nat),i≤Sort.scanDown p d i j→1≤i→p d[Sort.scanDown p d i j]! = false
 | 0,h,h1=>by have:Sort.scanDown p d i 0=0:=rfl; omega
 | j + 1,h,h1=>by
  unfold Sort.scanDown at h ⊢
  split at h
  ·rename_i hc
   rw [if_pos hc]
   exact zd0 p d i j h h1
  ·rename_i hc
   rw [if_neg hc]
   simp at hc
   exact hc h
theorem zlv {α:Type} [Inhabited α] (p q : α → Bool) (hq:∀ x,q x = !p x) (d:Array α) (i j:Nat):1≤i→Sort.scanUp p d j i ≠ Sort.scanDown q d (Sort.scanUp p d j i) j:=fun hi e=>by
 have u:=z4b p d j _ i (Nat.le_refl _)
 have v:=z2m q d (Sort.scanUp p d j i) j
 have h1:=ziq p d j _ i (Nat.le_refl _) (by omega)
 have h2:=zd0 q d (Sort.scanUp p d j i) j (by omega) (by omega)
 rw [← e,hq,h1] at h2
 cases h2
theorem zf8 {a:Nat}:∀ (n i j:Nat) (d:Array Time),j + 1 - i≤n→1≤i→i≤j + 1→j < d.size→i≤(Sort.partEqLoop ltT a i j d).1∧(Sort.partEqLoop ltT a i j d).1≤j + 1∧(Sort.partEqLoop ltT a i j d).2.size=d.size:=by
 intro n
 induction n with
 | zero =>
  intro i j d hn hi hi2 hj
  have u:=(z4b (fun x => !ltT d[a]! x) d j _ i (Nat.le_refl _))
  have v:=z2m (fun x=>ltT d[a]! x) d (Sort.scanUp (fun x => !ltT d[a]! x) d j i) j
  rw [z7o,if_pos (by omega)]
  exact ⟨u.2,by show Sort.scanUp _ _ _ _≤_; omega,rfl⟩
 | succ n ih =>
  intro i j d hn hi hi2 hj
  have u:=(z4b (fun x => !ltT d[a]! x) d j _ i (Nat.le_refl _))
  have v:=z2m (fun x=>ltT d[a]! x) d (Sort.scanUp (fun x => !ltT d[a]! x) d j i) j
  have w:=zeo (fun x=>ltT d[a]! x) d (Sort.scanUp (fun x => !ltT d[a]! x) d j i) j
  have hno:=zlv (fun x => !ltT d[a]! x) (fun x=>ltT d[a]! x) (fun x=>by simp) d i j
  rw [z7o]
  generalize Sort.scanUp (fun x => !ltT d[a]! x) d j i=i2 at *
  generalize Sort.scanDown (fun x=>ltT d[a]! x) d i2 j=j2 at *
  by_cases hc:i2 > j2
  ·rw [if_pos hc]
   exact ⟨u.2,by show i2≤_; omega,rfl⟩
  ·rw [if_neg hc]
   have:=ih (i2 + 1) (j2 - 1) (Sort.swp d i2 j2) (by omega) (by omega) (by omega) (by rw [z18]; omega)
   rw [z18] at this
   omega
end Go.Av
namespace Go.Av
open Go
set_option linter.unusedVariables false
set_option linter.unusedSimpArgs false
theorem za1 {x y:Time}:ltT x y=true↔x.epoch < y.epoch∨(x.epoch=y.epoch∧(x.loop.1 < y.loop.1∨(x.loop.1=y.loop.1∧x.loop.2 < y.loop.2))):=by
 unfold ltT cmpT
 rw [decide_eq_true_eq]
 repeat' split
 all_goals omega
theorem swoT:Sort.SWO ltT where
 irrefl x:=by
  cases h:ltT x x with
  | false=>rfl
  | true=>rw [za1] at h; omega
 trans x y z h1 h2:=by
  rw [za1] at *
  omega
 ntrans x y z h1 h2:=by
  rw [← Bool.not_eq_true,za1] at *
  omega
theorem zix (a b:Nat):∀ (n i:Nat) (d:Array Time),b - i≤n→(Sort.insOuter ltT a b i d).size=d.size:=by
 intro n
 induction n with
 | zero=>intro i d hn; rw [Sort.insOuter,if_neg (by omega)]
 | succ n ih =>
  intro i d hn
  rw [Sort.insOuter]
  split
  ·rw [ih _ _ (by omega),zbf]
  ·rfl
theorem zi5 (a b:Nat) (d:Array Time):(Sort.insertionSort ltT d a b).size=d.size:=zix a b b _ d (by omega)
theorem zf4 (first:Nat):∀ (k:Nat) (d:Array Time),(Sort.heapPop ltT first k d).size=d.size
 | 0,d=>rfl
 | k + 1,d=>by unfold Sort.heapPop; rw [zf4 first k,z9y,z18]
theorem ziy (a b:Nat) (d:Array Time):(Sort.heapSort ltT d a b).size=d.size:=by unfold Sort.heapSort; rw [zf4,zao]
theorem zd6 (a b:Nat):∀ (s i:Nat) (d:Array Time),(Sort.partialIns ltT a b s i d).1.size=d.size
 | 0,i,d=>rfl
 | s + 1,i,d=>by
  rw [zbl]
  split
  ·rfl
  ·split
   ·rfl
   ·rw [zd6 a b s,zcg]
def zf1 (F g:Nat) (o:Option (Ctl PdqS (List Time))) (q:Array Time):Prop:=(∃ s,o=some (.next s)∧loopN (pBody F) g s=some (.ret q.toList))∨o=some (.ret q.toList)
def PdqOk (m:Nat):Prop := ∀ (F g a b lim:Nat) (wb wp:Bool) (d:Array Time),b - a < m→a≤b→b≤d.size→d.size < 1152921504606846976→lim < 1152921504606846976→b - a < g→d.size + (b - a) + 20 < F →
 loopN (pBody F) g ((a:Int),(b:Int),(lim:Int),wb,wp,d.toList)=some (.ret (Sort.pdq ltT d a b lim wb wp).toList)∧(Sort.pdq ltT d a b lim wb wp).size=d.size
theorem PdqOk.call {m:Nat} (h:PdqOk m) {F a b lim:Nat} {d:Array Time} (hm:b - a < m) (hab:a≤b) (hb:b≤d.size) (hd:d.size < 1152921504606846976) (hl:lim < 1152921504606846976) (hf:d.size + (b - a) + 21 < F) :
  z0i F (a:Int) (b:Int) (lim:Int) d.toList=some (Sort.pdq ltT d a b lim true true).toList∧(Sort.pdq ltT d a b lim true true).size=d.size:=by
 cases F with
 | zero=>omega
 | succ F =>
  obtain ⟨h1,h2⟩:=h F F a b lim true true d hm hab hb hd hl (by omega) (by omega)
  rw [zm1,h1]
  exact ⟨rfl,h2⟩
theorem zka {F g a b lim pivot:Nat} {wb wp:Bool} {d:Array Time} (ih:PdqOk (b - a)) (hab:a + 12 < b) (hp:a≤pivot∧pivot < b) (hb:b≤d.size) (hd:d.size < 1152921504606846976) (hl:lim < 1152921504606846976) (hg:b - a≤g) (hF:d.size + (b - a) + 20 < F) :
  zf1 F g (pK10 F (a:Int) (b:Int) (lim:Int) ((b - a:Nat):Int) (pivot:Int) wb wp d.toList) (qD a b lim wb wp pivot d)∧(qD a b lim wb wp pivot d).size=d.size:=by
 have e8:IntKind.i64.wrap (((b - a:Nat):Int).tdiv 8)=(((b - a) / 8:Nat):Int):=by rw [Int.tdiv_eq_ediv_of_nonneg (by omega),z1q (by omega) (by omega)]; omega
 have hK:pK10 F (a:Int) (b:Int) (lim:Int) ((b - a:Nat):Int) (pivot:Int) wb wp d.toList=pK12 F (a:Int) (b:Int) (lim:Int) ((b - a:Nat):Int) (pivot:Int) wb wp d.toList (a > 0 && !ltT d[a - 1]! d[pivot]!):=by
  unfold pK10
  simp only [jn_eq]
  by_cases h0:0 < a
  ·rw [decide_eq_true (show (0:Int) < (a:Int) by omega),z6o,wsub1 (by omega) (by omega)]
   simp (disch:=omega) only [Int.toNat_natCast,Nat.zero_add,z06,Array.length_toList,z2a,Option.bind_some,z20]
   rw [decide_eq_true h0,Bool.true_and]
   rfl
  ·rw [decide_eq_false (show ¬ (0:Int) < (a:Int) by omega),z0y,decide_eq_false h0,Bool.false_and]
 rw [hK]
 unfold qD
 cases hx:(a > 0 && !ltT d[a - 1]! d[pivot]!) with
 | true =>
  simp only [if_true]
  unfold pK12
  rw [z6o,zec hp (by omega) hb hd (by omega),Option.bind_some]
  have hr:=zf8 (a:=a) _ (a + 1) (b - 1) (Sort.swp d a pivot) (Nat.le_refl _) (by omega) (by omega) (by rw [z18]; omega)
  rw [z18] at hr
  have he:Sort.partEqLoop ltT a (a + 1) (b - 1) (Sort.swp d a pivot)=Sort.partitionEqual ltT d a b pivot:=rfl
  rw [he] at hr
  generalize Sort.partitionEqual ltT d a b pivot=r at *
  obtain ⟨mid,d4⟩:=r
  simp only at hr ⊢
  rw [dif_pos (by omega),z06 (by rw [Array.length_toList,Array.length_toList]; omega)]
  obtain ⟨h1,h2⟩:=ih F g mid b lim wb wp d4 (by omega) (by omega) (by omega) (by omega) hl (by omega) (by omega)
  exact ⟨.inl ⟨_,rfl,h1⟩,by omega⟩
 | false =>
  simp only [Bool.false_eq_true,if_false]
  unfold pK12
  rw [z0y,zhg hp (by omega) hb hd (by omega),Option.bind_some,e8]
  obtain ⟨g1,g2,g3,_,_⟩:=Sort.partition_holds ltT swoT d a b pivot hp.1 hp.2 hb
  have g3:=g3.1
  generalize Sort.partition ltT d a b pivot=r at *
  obtain ⟨mid,ap,d4⟩:=r
  simp only at g1 g2 g3 ⊢
  have w1:IntKind.i64.wrap ((mid:Int) - (a:Int))=((mid - a:Nat):Int):=wsub (by omega) (by omega)
  have w2:IntKind.i64.wrap ((b:Int) - (mid:Int))=((b - mid:Nat):Int):=wsub (by omega) (by omega)
  have w3:IntKind.i64.wrap ((mid:Int) + 1)=((mid + 1:Nat):Int):=wadd1 (by omega)
  rw [dif_pos ⟨g1,g2⟩,z06 (by rw [Array.length_toList,Array.length_toList]; omega),w1,w2,w3,z08]
  by_cases hc:mid - a < b - mid
  ·rw [if_pos hc,if_pos (by omega)]
   obtain ⟨c1,c2⟩:=ih.call (F:=F) (a:=a) (b:=mid) (lim:=lim) (d:=d4) (by omega) (by omega) (by omega) (by omega) hl (by omega)
   rw [c1,Option.bind_some,z06 (by rw [Array.length_toList,Array.length_toList]; omega)]
   generalize Sort.pdq ltT d4 a mid lim true true=d5 at *
   obtain ⟨h1,h2⟩:=ih F g (mid + 1) b lim (decide (mid - a ≥ (b - a) / 8)) ap d5 (by omega) (by omega) (by omega) (by omega) hl (by omega) (by omega)
   refine ⟨.inl ⟨_,rfl,?_⟩,by omega⟩
   have e:decide ((((b - a) / 8:Nat):Int)≤((mid - a:Nat):Int))=decide (mid - a ≥ (b - a) / 8):=by
    rw [Bool.eq_iff_iff]; simp only [decide_eq_true_eq]; omega
   rw [e]
   exact h1
  ·rw [if_neg hc,if_neg (by omega)]
   obtain ⟨c1,c2⟩:=ih.call (F:=F) (a:=mid + 1) (b:=b) (lim:=lim) (d:=d4) (by omega) (by omega) (by omega) (by omega) hl (by omega)
   rw [c1,Option.bind_some,z06 (by rw [Array.length_toList,Array.length_toList]; omega)]
   generalize Sort.pdq ltT d4 (mid + 1) b lim true true=d5 at *
   obtain ⟨h1,h2⟩:=ih F g a mid lim (decide (b - mid ≥ (b - a) / 8)) ap d5 (by omega) (by omega) (by omega) (by omega) hl (by omega) (by omega)
   refine ⟨.inl ⟨_,rfl,?_⟩,by omega⟩
   have e:decide ((((b - a) / 8:Nat):Int)≤((b - mid:Nat):Int))=decide (b - mid ≥ (b - a) / 8):=by
    rw [Bool.eq_iff_iff]; simp only [decide_eq_true_eq]; omega
   rw [e]
   exact h1
theorem zkw {F g a b lim pivot:Nat} {hint:Sort.Hint} {wb wp:Bool} {d:Array Time} (ih:PdqOk (b - a)) (hab:a + 12 < b) (hp:a≤pivot∧pivot < b) (hb:b≤d.size) (hd:d.size < 1152921504606846976) (hl:lim < 1152921504606846976) (hg:b - a≤g) (hF:d.size + (b - a) + 20 < F) :
  zf1 F g (pK8 F (a:Int) (b:Int) (lim:Int) ((b - a:Nat):Int) wb wp (pivot:Int) (hintN hint) d.toList) (qC a b lim wb wp pivot hint d)∧(qC a b lim wb wp pivot hint d).size=d.size:=by
 have hK:pK8 F (a:Int) (b:Int) (lim:Int) ((b - a:Nat):Int) wb wp (pivot:Int) (hintN hint) d.toList=if wb && wp && hint = .increasing then ((z0l F (a:Int) (b:Int) d.toList).bind fun r30=>need (r30.2.length=d.toList.length) <| bf r30.1 (some (.ret r30.2)) (pK10 F (a:Int) (b:Int) (lim:Int) ((b - a:Nat):Int) (pivot:Int) wb wp r30.2)) else pK10 F (a:Int) (b:Int) (lim:Int) ((b - a:Nat):Int) (pivot:Int) wb wp d.toList:=by
  unfold pK8
  cases wb <;> cases wp <;> cases hint <;> simp [jn,bf,hintN]
 rw [hK]
 unfold qC
 dsimp only
 by_cases hc:(wb && wp && decide (hint = .increasing))=true
 ·rw [if_pos hc,if_pos hc,zas (by omega) hb hd (by omega),Option.bind_some]
  have hsz:(Sort.partialInsertionSort ltT d a b).1.size=d.size:=zd6 a b 5 _ d
  generalize Sort.partialInsertionSort ltT d a b=r at *
  obtain ⟨d3,x⟩:=r
  simp only at hsz ⊢
  rw [z06 (by rw [Array.length_toList,Array.length_toList]; omega)]
  cases x with
  | true=>exact ⟨.inr rfl,hsz⟩
  | false =>
   simp only [z0y,Bool.false_eq_true,if_false]
   have:=zka (F:=F) (g:=g) (lim:=lim) (pivot:=pivot) (wb:=wb) (wp:=wp) (d:=d3) ih hab hp (by omega) (by omega) hl hg (by omega)
   exact ⟨this.1,by omega⟩
 ·rw [if_neg hc,if_neg hc]
  simp only [Bool.false_eq_true,if_false]
  exact zka ih hab hp hb hd hl hg hF
theorem zk6 {F g a b lim:Nat} {wb wp:Bool} {d:Array Time} (ih:PdqOk (b - a)) (hab:a + 12 < b) (hb:b≤d.size) (hd:d.size < 1152921504606846976) (hl:lim < 1152921504606846976) (hg:b - a≤g) (hF:d.size + (b - a) + 20 < F) :
  zf1 F g (pK5 F (a:Int) (b:Int) wb wp (lim:Int) ((b - a:Nat):Int) d.toList) (qB a b lim wb wp d)∧(qB a b lim wb wp d).size=d.size:=by
 unfold pK5 qB
 rw [choosePivot_eq (by omega) hb hd,Option.bind_some]
 obtain ⟨p1,p2⟩:=Sort.choosePivot_holds ltT d a b (by omega)
 generalize Sort.choosePivot ltT d a b=c at *
 obtain ⟨pivot,hint⟩:=c
 simp only [jn_eq] at p1 p2 ⊢
 by_cases hc:hint = .decreasing
 ·subst hc
  have hsz:=(Sort.reverseRange_holds d a b (by omega) hb).1
  rw [decide_eq_true (show hintN Sort.Hint.decreasing=2 from rfl),z6o,zfk (by omega) hb hd (by omega),Option.bind_some,z06 (by rw [Array.length_toList,Array.length_toList]; exact hsz)]
  have w1:IntKind.i64.wrap ((b:Int) - 1)=((b - 1:Nat):Int):=wsub1 (by omega) (by omega)
  have w2:IntKind.i64.wrap ((pivot:Int) - (a:Int))=((pivot - a:Nat):Int):=wsub (by omega) (by omega)
  have w3:IntKind.i64.wrap (((b - 1:Nat):Int) - ((pivot - a:Nat):Int))=(((b - 1) - (pivot - a):Nat):Int):=wsub (by omega) (by omega)
  rw [w1,w2,w3]
  simp only [if_true]
  have:=zkw (F:=F) (g:=g) (lim:=lim) (pivot:=(b - 1) - (pivot - a)) (hint:=.increasing) (wb:=wb) (wp:=wp) (d:=Sort.reverseRange d a b) ih hab (by omega) (by omega) (by omega) hl hg (by omega)
  exact ⟨this.1,this.2.trans hsz⟩
 ·have hn:hintN hint ≠ 2:=by cases hint <;> simp [hintN] at *
  rw [decide_eq_false hn,z0y,if_neg hc]
  exact zkw ih hab ⟨p1,p2⟩ hb hd hl hg hF
theorem pdqOk:∀ m,PdqOk m:=by
 intro m
 induction m with
 | zero=>intro F g a b lim wb wp d h; omega
 | succ m ihm =>
  intro F g a b lim wb wp d hm hab hb hd hl hg hF
  have ih:PdqOk (b - a):=fun F' g' a' b' lim' wb' wp' d' h=>ihm F' g' a' b' lim' wb' wp' d' (by omega)
  cases g with
  | zero=>omega
  | succ g =>
   have e0:IntKind.i64.wrap ((b:Int) - (a:Int))=((b - a:Nat):Int):=wsub (by omega) (by omega)
   rw [zmh]
   by_cases h1:b - a≤12
   ·rw [if_pos h1]
    refine ⟨?_,zi5 a b d⟩
    rw [z88 (r:=(Sort.insertionSort ltT d a b).toList)]
    unfold pBody
    simp only [e0]
    rw [decide_eq_true (by omega),z6o,zhq hb (by omega) (by omega) (by omega),Option.bind_some]
   ·rw [if_neg h1]
    by_cases h2:lim=0
    ·rw [if_pos h2]
     refine ⟨?_,ziy a b d⟩
     rw [z88 (r:=(Sort.heapSort ltT d a b).toList)]
     unfold pBody
     simp only [e0]
     rw [decide_eq_false (by omega),z0y,decide_eq_true (by omega),z6o,zin (by omega) hb hd (by omega),Option.bind_some]
    ·rw [if_neg h2]
     have fin:∀ q:Array Time,zf1 F g (pBody F ((a:Int),(b:Int),(lim:Int),wb,wp,d.toList)) q→loopN (pBody F) (g + 1) ((a:Int),(b:Int),(lim:Int),wb,wp,d.toList)=some (.ret q.toList):=fun q hq=>by
      rcases hq with ⟨s,h3,h4⟩ | h3
      ·rw [z1w h3,h4]
      ·rw [z88 h3]
     cases wb with
     | true =>
      simp only [if_true]
      have hB:pBody F ((a:Int),(b:Int),(lim:Int),true,wp,d.toList)=pK5 F (a:Int) (b:Int) true wp (lim:Int) ((b - a:Nat):Int) d.toList:=by
       unfold pBody
       simp only [e0,jn_eq]
       rw [decide_eq_false (by omega),z0y,decide_eq_false (by omega),z0y,Bool.not_true,z0y]
      have:=zk6 (F:=F) (g:=g) (a:=a) (b:=b) (lim:=lim) (wb:=true) (wp:=wp) (d:=d) ih (by omega) hb hd hl (by omega) hF
      exact ⟨fin _ (by rw [hB]; exact this.1),this.2⟩
     | false =>
      simp only [Bool.false_eq_true,if_false]
      have hsz:=(Sort.breakPatterns_holds d a b hab hb).1
      have hB:pBody F ((a:Int),(b:Int),(lim:Int),false,wp,d.toList)=pK5 F (a:Int) (b:Int) false wp ((lim - 1:Nat):Int) ((b - a:Nat):Int) (Sort.breakPatterns d a b).toList:=by
       unfold pBody
       simp only [e0,jn_eq]
       rw [decide_eq_false (by omega),z0y,decide_eq_false (by omega),z0y,Bool.not_false,z6o,zez (by omega) hb hd (by omega),Option.bind_some,z06 (by rw [Array.length_toList,Array.length_toList]; exact hsz),wsub1 (by omega) (by omega)]
      have:=zk6 (F:=F) (g:=g) (a:=a) (b:=b) (lim:=lim - 1) (wb:=false) (wp:=wp) (d:=Sort.breakPatterns d a b) ih (by omega) (by omega) (by omega) (by omega) (by omega) (by omega)
      exact ⟨fin _ (by rw [hB]; exact this.1),this.2.trans hsz⟩
theorem zig {fuel:Nat} {l:List Time} (hl:l.length < 1152921504606846976) (hf:2 * l.length + 30 < fuel) :
  z0n fuel l=some (Sort.sort ltT l.toArray).toList:=by
 unfold z0n
 have e:IntKind.u64.wrap (l.length:Int)=(l.length:Int):=uwrap (k:=.u64) rfl (show l.length < 2 ^ 64 by omega)
 rw [e,zk3 (by omega),Option.bind_some]
 have hL:Sort.bitsLen l.length≤60:=zfx hl
 have:=((pdqOk (l.length + 1)).call (F:=fuel) (a:=0) (b:=l.length) (lim:=Sort.bitsLen l.length) (d:=l.toArray) (by omega) (by omega) (by simp) (by simpa using hl) (by omega) (by simp; omega)).1
 rw [show ((0:Nat):Int)=0 from rfl,List.toList_toArray] at this
 rw [this,Option.bind_some]
 unfold Sort.sort
 rw [List.size_toArray]
end Go.Av
namespace Go.Av
open Go
set_option linter.unusedVariables false
set_option linter.unusedSimpArgs false
theorem zk8 (l:List Time):z5o l=some (lubL l):=by
 unfold z5o
 rw [zic lub2]
 ·rfl
 ·intro i a hi
  generalize l.getD i default=x
  by_cases h1:a.epoch < x.epoch <;> by_cases h2:a.loop.1 < x.loop.1 <;> by_cases h3:a.loop.2 < x.loop.2 <;> simp [z07,lub2,outK,h1,h2,h3]
theorem zk4 (l:List Time):z5r l=some (glbL l):=by
 unfold z5r
 simp only [z08]
 split
 ·rename_i h
  obtain rfl:l=[]:=List.eq_nil_of_length_eq_zero (by omega)
  rfl
 ·rename_i h
  have hl:0 < l.length:=by omega
  rw [z06 ⟨Int.le_refl _,by omega⟩]
  rw [z4p (glbL l) (fun i a=>a=if i=0 then l.getD 0 default else glbL (l.take i)) (fun s h=>by rw [h,List.take_length,if_neg (by omega)])]
  ·rfl
  ·intro i a hi ha
   refine ⟨_,?_,rfl⟩
   rw [z4f hi,if_neg (by omega)]
   rcases Nat.eq_zero_or_pos i with h0 | h0
   ·subst h0
    rw [if_pos rfl] at ha
    subst ha
    simp [jn_eq,z07,outK,glbL]
   ·rw [if_neg (by omega)] at ha
    rw [zel (by intro h; have h2:=congrArg List.length h; rw [List.length_take] at h2; simp only [List.length_nil] at h2; omega),← ha]
    generalize l.getD i default=x at *
    by_cases h1:x.epoch < a.epoch <;> by_cases h2:x.loop.1 < a.loop.1 <;> by_cases h3:x.loop.2 < a.loop.2 <;> simp [z07,glb2,outK,h1,h2,h3]
  ·rfl
theorem z90 {x y:Time}:z0h x y=true↔x=y:=by
 constructor
 ·intro h
  simp only [z0h,Bool.and_eq_true,decide_eq_true_eq,Bool.and_true] at h
  exact Time.ext' h.1 h.2.1 h.2.2
 ·rintro rfl; exact zen x
theorem zlz {a b:Time} (h:leT a b=true) (g:leT b a=true):a=b:=z90.1 (zll h g)
theorem zi1 {a b:Time} (h:leT a b=true):ltT b a=false:=by
 cases e:ltT b a with
 | false=>rfl
 | true=>rw [zmg] at h; rw [za1] at e; omega
theorem lt_or {a b:Time} (h:ltT b a=false) (hne:a ≠ b):ltT a b=true:=by
 cases e:ltT a b with
 | true=>rfl
 | false =>
  refine absurd ?_ hne
  rw [← Bool.not_eq_true,za1] at h e
  exact Time.ext' (by omega) (by omega) (by omega)
theorem zkv {a:Time}:ltT a a=false:=swoT.irrefl a
theorem zlb {a b:Time} (h:ltT a b=true):ltT b a=false:=by
 cases e:ltT b a with
 | false=>rfl
 | true=>rw [za1] at h e; omega
structure IsF (l f:List Time):Prop where
 sorted:f.Pairwise fun x y=>ltT x y=true
 sub:∀ x ∈ f,x ∈ l
 below:∀ y ∈ l,∃ u ∈ f,leT u y=true
 least:∀ x ∈ f,∀ y ∈ l,leT y x=true→y=x
theorem IsF.mem {l f:List Time} (h:IsF l f) (x:Time):x ∈ f↔x ∈ l∧∀ y ∈ l,leT y x=true→y=x:=by
 constructor
 ·exact fun hx=>⟨h.sub x hx,h.least x hx⟩
 ·rintro ⟨hx,hm⟩
  obtain ⟨u,hu,hle⟩:=h.below x hx
  rw [← hm u (h.sub u hu) hle]
  exact hu
theorem zfz:∀ {f g:List Time},f.Pairwise (fun x y=>ltT x y=true)→g.Pairwise (fun x y=>ltT x y=true)→(∀ x,x ∈ f↔x ∈ g)→f=g
 | [],[],_,_,_=>rfl
 | [],y :: g,_,_,h=>by have:=(h y).2 (List.mem_cons_self ..); cases this
 | x :: f,[],_,_,h=>by have:=(h x).1 (List.mem_cons_self ..); cases this
 | x :: f,y :: g,hf,hg,h=>by
  rw [List.pairwise_cons] at hf hg
  have hxy:x=y:=by
   rcases List.mem_cons.1 ((h x).1 (List.mem_cons_self ..)) with e | hx
   ·exact e
   ·rcases List.mem_cons.1 ((h y).2 (List.mem_cons_self ..)) with e | hy
    ·exact e.symm
    ·have h1:=hg.1 x hx
     have h2:=hf.1 y hy
     rw [zlb h1] at h2
     cases h2
  subst hxy
  have hr:f=g:=zfz hf.2 hg.2 (fun z=>by
   constructor
   ·intro hz
    rcases List.mem_cons.1 ((h z).1 (List.mem_cons_of_mem _ hz)) with e | hz2
    ·subst e
     have:=hf.1 z hz
     rw [zkv] at this; cases this
    ·exact hz2
   ·intro hz
    rcases List.mem_cons.1 ((h z).2 (List.mem_cons_of_mem _ hz)) with e | hz2
    ·subst e
     have:=hg.1 z hz
     rw [zkv] at this; cases this
    ·exact hz2)
  rw [hr]
theorem IsF.congr {l m f:List Time} (h:IsF l f) (e:∀ x,x ∈ l↔x ∈ m):IsF m f :=
 ⟨h.sorted,fun x hx=>(e x).1 (h.sub x hx),fun y hy=>h.below y ((e y).2 hy),fun x hx y hy=>h.least x hx y ((e y).2 hy)⟩
theorem IsF.step {p f:List Time} {t:Time} (h:IsF p f) (hs:∀ x ∈ p,ltT t x=false):IsF (p++[t]) (if f.any (fun u=>leT u t) then f else f++[t]):=by
 by_cases hc:f.any (fun u=>leT u t)=true
 ·rw [if_pos hc]
  obtain ⟨u,hu,hut⟩:=List.any_eq_true.1 hc
  refine ⟨h.sorted,fun x hx=>List.mem_append.2 (.inl (h.sub x hx)),?_,?_⟩
  ·intro y hy
   rcases List.mem_append.1 hy with hy | hy
   ·exact h.below y hy
   ·rw [List.mem_singleton.1 hy]; exact ⟨u,hu,hut⟩
  ·intro x hx y hy hle
   rcases List.mem_append.1 hy with hy | hy
   ·exact h.least x hx y hy hle
   ·rw [List.mem_singleton.1 hy] at hle ⊢
    have hux:=h.least x hx u (h.sub u hu) (zgj hut hle)
    subst hux
    exact zlz hle hut
 ·rw [if_neg hc]
  have hno:∀ u ∈ f,leT u t=false:=fun u hu=>by
   cases e:leT u t with
   | false=>rfl
   | true=>exact absurd (List.any_eq_true.2 ⟨u,hu,e⟩) hc
  have hnp:∀ y ∈ p,leT y t=false:=fun y hy=>by
   obtain ⟨u,hu,hle⟩:=h.below y hy
   cases e:leT y t with
   | false=>rfl
   | true=>have:=zgj hle e; rw [hno u hu] at this; cases this
  refine ⟨?_,?_,?_,?_⟩
  ·rw [List.pairwise_append]
   refine ⟨h.sorted,by simp,fun x hx y hy => ?_⟩
   rw [List.mem_singleton.1 hy]
   refine lt_or (hs x (h.sub x hx)) (fun e => ?_)
   subst e
   have:=hno x hx
   rw [zhv] at this; cases this
  ·intro x hx
   rcases List.mem_append.1 hx with hx | hx
   ·exact List.mem_append.2 (.inl (h.sub x hx))
   ·exact List.mem_append.2 (.inr hx)
  ·intro y hy
   rcases List.mem_append.1 hy with hy | hy
   ·obtain ⟨u,hu,hle⟩:=h.below y hy
    exact ⟨u,List.mem_append.2 (.inl hu),hle⟩
   ·exact ⟨y,List.mem_append.2 (.inr hy),zhv y⟩
  ·intro x hx y hy hle
   rcases List.mem_append.1 hx with hx | hx
   ·rcases List.mem_append.1 hy with hy | hy
    ·exact h.least x hx y hy hle
    ·rw [List.mem_singleton.1 hy] at hle ⊢
     have h1:=hs x (h.sub x hx)
     have h2:=zi1 hle
     by_cases e:t=x
     ·exact e
     ·have:=lt_or h1 (fun h=>e h.symm); rw [h2] at this; cases this
   ·rw [List.mem_singleton.1 hx] at hle ⊢
    rcases List.mem_append.1 hy with hy | hy
    ·rw [hnp y hy] at hle; cases hle
    ·exact List.mem_singleton.1 hy
def zdn (l:List Time):List Time:=l.foldl (fun f t=>if f.any (fun u=>leT u t) then f else f++[t]) []
theorem zkn {l:List Time} (h:l.Pairwise fun x y=>ltT y x=false):IsF l (zdn l):=by
 have key:∀ (r p f:List Time),IsF p f→(p++r).Pairwise (fun x y=>ltT y x=false)→IsF (p++r) (r.foldl (fun f t=>if f.any (fun u=>leT u t) then f else f++[t]) f):=by
  intro r
  induction r with
  | nil=>intro p f hf _; rw [List.append_nil]; exact hf
  | cons t r ih =>
   intro p f hf hp
   rw [List.foldl_cons]
   have e:p++t :: r=(p++[t])++r:=by simp
   rw [e] at hp ⊢
   refine ih (p++[t]) _ (hf.step fun x hx => ?_) hp
   rw [List.pairwise_append,List.pairwise_append] at hp
   exact hp.1.2.2 x hx t (List.mem_singleton.2 rfl)
 exact key l [] [] ⟨.nil,(fun x h=>nomatch h),(fun y h=>nomatch h),(fun x h=>nomatch h)⟩ h
def sortT (l:List Time):List Time:=(Sort.sort ltT l.toArray).toList
def z8z (l:List Time):List Time:=zdn (sortT l)
theorem zci (l:List Time):(sortT l).Perm l:=by
 have h:=(Sort.sort_sorts ltT swoT l.toArray).1
 obtain ⟨h1,_,h3⟩:=h
 have e1:(Sort.sort ltT l.toArray).extract 0 l.toArray.size=Sort.sort ltT l.toArray:=by rw [← h1]; simp
 have e2:l.toArray.extract 0 l.toArray.size=l.toArray:=by simp
 rw [e1,e2] at h3
 exact h3
theorem zho (l:List Time):(sortT l).Pairwise fun x y=>ltT y x=false:=by
 have h:=Sort.sort_sorts ltT swoT l.toArray
 rw [List.pairwise_iff_getElem]
 intro i j hi hj hij
 have hsz:(Sort.sort ltT l.toArray).size=l.toArray.size:=h.1.1
 have hj' : j < (Sort.sort ltT l.toArray).size:=by unfold sortT at hj; rw [Array.length_toList] at hj; exact hj
 have:=h.2 i j (Nat.zero_le _) hij (by omega)
 have ej:(sortT l)[j]=(Sort.sort ltT l.toArray)[j]'hj':=Array.getElem_toList _
 have ei:(sortT l)[i]=(Sort.sort ltT l.toArray)[i]'(by omega):=Array.getElem_toList _
 rw [getElem!_pos _ j hj',getElem!_pos _ i (by omega)] at this
 exact (congr (congrArg ltT ej) ei).trans this
theorem zjg (l:List Time):IsF l (z8z l):=(zkn (zho l)).congr fun x=>(zci l).mem_iff
theorem zi4 (l:List Time):(sortT l).length=l.length:=(zci l).length_eq
theorem zh9 (l:List Time):(zdn l).length≤l.length:=by
 have key:∀ (r f:List Time),(r.foldl (fun f t=>if f.any (fun u=>leT u t) then f else f++[t]) f).length≤f.length + r.length:=by
  intro r
  induction r with
  | nil=>intro f; exact Nat.le_refl _
  | cons t r ih =>
   intro f
   rw [List.foldl_cons]
   refine Nat.le_trans (ih _) ?_
   split
   ·rw [List.length_cons]; omega
   ·rw [List.length_append,List.length_singleton,List.length_cons]; omega
 have:=key l []
 rw [List.length_nil,Nat.zero_add] at this
 exact this
end Go.Av
namespace Go.Av
open Go
set_option linter.unusedVariables false
set_option linter.unusedSimpArgs false
abbrev NN (l:List Time):Prop := ∀ x ∈ l,z3q x
theorem za7 {X:Type} [Inhabited X] {l:List X} {i:Nat} (h:i < l.length):l.getD i default ∈ l:=by
 rw [List.getD_eq_getElem?_getD,List.getElem?_eq_getElem h]
 exact List.getElem_mem h
theorem z7a {X:Type} [Inhabited X] {l:List X} {i:Nat} (h:i < l.length):l.take (i + 1)=l.take i++[l.getD i default]:=by
 rw [List.take_add_one,List.getElem?_eq_getElem h,List.getD_eq_getElem?_getD,List.getElem?_eq_getElem h]
 rfl
theorem zdk {X R:Type} [Inhabited X] {B:Nat→Unit→Option (Ctl Unit R)} {l:List X} {p:X→Bool} {f:Nat→R} {Q:Type} {kn:Unit→Option Q} {kr:R→Option Q} {q:Option Q}
  (hB:∀ i u,i < l.length→B i u=if p (l.getD i default)=true then some (.ret (f i)) else some (.next ()))
  (hn:l.any p=false→kn ()=q) (hr:∀ i,i < l.length→l.any p=true→kr (f i)=q):outK (z07 B l.length 0 ()) kn kr=q:=by
 have key:∀ k i,i + k=l.length→(l.take i).any p=false→outK (z07 B k i ()) kn kr=q:=by
  intro k
  induction k with
  | zero =>
   intro i hi h
   rw [List.take_of_length_le (by omega)] at h
   exact hn h
  | succ k ih =>
   intro i hi h
   simp only [z07,hB i () (by omega)]
   by_cases hp:p (l.getD i default)=true
   ·rw [if_pos hp]
    exact hr i (by omega) (List.any_eq_true.2 ⟨_,za7 (by omega),hp⟩)
   ·rw [if_neg hp]
    refine ih (i + 1) (by omega) ?_
    rw [z7a (by omega),List.any_append,h]
    simpa using hp
 exact key l.length 0 (by omega) rfl
theorem zkm {f:List Time} {t:Time} (hf:NN f) (ht:z3q t):z4a f t=some (f.any fun u=>leT u t):=by
 unfold z4a z0d z0f
 have h:(outK (z07 (S:=Unit) (R:=Int) (fun i1 (a2:Unit)=>(z68 (f.getD i1 default) t).bind fun r4=>bf r4 (some (.ret ((i1:Nat):Int))) (some (.next ()))) f.length 0 ()) (fun (a3:Unit)=>some (-1)) (fun x=>some x)).bind (fun r1=>some (decide (0≤r1)))=some (f.any fun u=>leT u t):=by
  have:∀ o:Option Int,(o.bind fun r1=>some (decide (0≤r1)))=o.map fun r1=>decide (0≤r1):=fun o=>by cases o <;> rfl
  rw [this]
  have hm:∀ (o:Option (Out Unit Int)),(outK o (fun (a3:Unit)=>some (-1)) (fun x=>some x)).map (fun r1=>decide (0≤r1))=outK o (fun _=>some false) (fun x=>some (decide (0≤x))):=fun o=>by
   cases o with
   | none=>rfl
   | some o=>cases o <;> rfl
  rw [hm]
  refine zdk (p:=fun u=>leT u t) (f:=fun i=>(i:Int)) ?_ (fun h=>by rw [h]) (fun i hi h=>by rw [h,decide_eq_true (by omega)])
  intro i u hi
  unfold z68
  rw [zl2 (hf _ (za7 hi)) ht]
  simp only [Option.bind_some]
  cases leT (f.getD i default) t <;> rfl
 rw [h]; rfl
theorem zlp {fuel:Nat} {l:List Time} (hl:NN l) (hz:l.length≤274877906944) (hf:2 * l.length + 30 < fuel):z78 fuel l=some (z8z l):=by
 unfold z78 z0e
 have hs:NN (sortT l):=fun x hx=>hl x ((zci l).mem_iff.1 hx)
 have hlen:=zi4 l
 rw [z06 hz,Option.bind_some,zig (by omega) hf,Option.bind_some]
 show need ((sortT l).length=l.length) _=_
 rw [z06 hlen]
 rw [show (Sort.sort ltT l.toArray).toList=sortT l from rfl]
 unfold z8z zdn
 generalize sortT l=s at *
 rw [z4p (s.foldl (fun f t=>if f.any (fun u=>leT u t) then f else f++[t]) []) (fun i a=>a=(s.take i).foldl (fun f t=>if f.any (fun u=>leT u t) then f else f++[t]) []) (fun a h=>by rw [h,List.take_of_length_le (Nat.le_refl _)])]
 ·rfl
 ·rintro i a hi rfl
  have hle:((s.take i).foldl (fun f t=>if f.any (fun u=>leT u t) then f else f++[t]) []).length≤i:=by
   have:=zh9 (s.take i)
   unfold zdn at this
   rw [List.length_take] at this
   omega
  have hnn:NN ((s.take i).foldl (fun f t=>if f.any (fun u=>leT u t) then f else f++[t]) []):=by
   have key:∀ (r f:List Time),NN r→NN f→NN (r.foldl (fun f t=>if f.any (fun u=>leT u t) then f else f++[t]) f):=by
    intro r
    induction r with
    | nil=>intro f _ h; exact h
    | cons t r ih =>
     intro f hr h
     rw [List.foldl_cons]
     refine ih _ (fun x hx=>hr x (List.mem_cons_of_mem _ hx)) ?_
     split
     ·exact h
     ·intro x hx
      rcases List.mem_append.1 hx with hx | hx
      ·exact h x hx
      ·rw [List.mem_singleton.1 hx]; exact hr t (List.mem_cons_self ..)
   exact key _ _ (fun x hx=>hs x (List.mem_of_mem_take hx)) (fun x h=>nomatch h)
  refine ⟨_,?_,rfl⟩
  rw [Nat.zero_add,z06 hi,zkm hnn (hs _ (za7 hi)),Option.bind_some,z7a hi,List.foldl_append,List.foldl_cons,List.foldl_nil]
  generalize (s.take i).foldl (fun f t=>if f.any (fun u=>leT u t) then f else f++[t]) []=f at *
  cases hc:f.any (fun u=>leT u (s.getD i default)) with
  | true=>simp only [Bool.not_true,z0y,if_true]
  | false =>
   rw [Bool.not_false,z6o,z06 (by rw [List.length_singleton]; omega)]
   simp
 ·rfl
def z5n (l:List Time) (t:Time):Bool:=l.all fun u => !(!z0h u t && leT u t)
theorem zjl {l:List Time} {t:Time}:z5n l t=true↔∀ u ∈ l,leT u t=true→u=t:=by
 unfold z5n
 rw [List.all_eq_true]
 constructor
 ·intro h u hu hle
  have:=h u hu
  rw [hle] at this
  simp at this
  exact z90.1 this
 ·intro h u hu
  cases e:leT u t with
  | false=>simp
  | true=>rw [h u hu e,zen]; rfl
theorem zjh {f:List Time} {t:Time} {B:Int→Option (Ctl Int Empty)} (hB:∀ i:Nat,i≤f.length→B (i:Int)=if i < f.length∧ltT (f.getD i default) t=true then some (.next ((i + 1:Nat):Int)) else some (.brk (i:Int))) :
  ∀ (k fuel:Nat),k≤f.length→k < fuel→∃ j:Nat,loopN B fuel ((f.length - k:Nat):Int)=some (.done (j:Int))∧f.length - k≤j∧j≤f.length∧(∀ i,f.length - k≤i→i < j→ltT (f.getD i default) t=true)∧(j < f.length→ltT (f.getD j default) t=false):=by
 intro k
 induction k with
 | zero =>
  intro fuel hk hf
  cases fuel with
  | zero=>omega
  | succ fuel =>
   have h:=hB (f.length - 0) (by omega)
   rw [if_neg (by omega)] at h
   exact ⟨_,z1k h,by omega,by omega,fun i h1 h2=>by omega,fun h=>by omega⟩
 | succ k ih =>
  intro fuel hk hf
  cases fuel with
  | zero=>omega
  | succ fuel =>
   have h:=hB (f.length - (k + 1)) (by omega)
   by_cases hc:ltT (f.getD (f.length - (k + 1)) default) t=true
   ·rw [if_pos ⟨by omega,hc⟩,show f.length - (k + 1) + 1=f.length - k by omega] at h
    obtain ⟨j,h1,h2,h3,h4,h5⟩:=ih fuel (by omega) (by omega)
    refine ⟨j,by rw [z1w h,h1],by omega,h3,fun i g1 g2 => ?_,h5⟩
    by_cases hi:i=f.length - (k + 1)
    ·rw [hi]; exact hc
    ·exact h4 i (by omega) g2
   ·rw [if_neg (fun h=>hc h.2)] at h
    refine ⟨_,z1k h,by omega,by omega,fun i h1 h2=>by omega,fun _ => ?_⟩
    simpa using hc
theorem zlw {f:List Time} {j:Nat} (hj:j≤f.length) (t x:Time):x ∈ (f.take j++[t])++f.drop j↔x ∈ f∨x=t:=by
 rw [List.mem_append,List.mem_append,List.mem_singleton]
 have:x ∈ f↔x ∈ f.take j∨x ∈ f.drop j:=by rw [← List.mem_append,List.take_append_drop]
 rw [this]
 constructor
 ·rintro ((h | h) | h)
  ·exact .inl (.inl h)
  ·exact .inr h
  ·exact .inl (.inr h)
 ·rintro ((h | h) | h)
  ·exact .inl (.inl h)
  ·exact .inr h
  ·exact .inl (.inr h)
theorem zjs {f:List Time} {t:Time} {j:Nat} (hf:f.Pairwise fun x y=>ltT x y=true) (hj:j≤f.length) (h1:∀ i,i < j→ltT (f.getD i default) t=true) (h2:j < f.length→ltT (f.getD j default) t=false) (hne:∀ x ∈ f,x ≠ t) :
  ((f.take j++[t])++f.drop j).Pairwise fun x y=>ltT x y=true:=by
 have hall:∀ x ∈ f.drop j,ltT t x=true:=by
  intro x hx
  obtain ⟨i,hi,e⟩:=List.mem_iff_getElem.1 hx
  rw [List.length_drop] at hi
  rw [List.getElem_drop] at e
  have hj2:=h2 (by omega)
  have hjx:ltT t (f.getD j default)=true:=lt_or hj2 (fun h=>hne _ (za7 (by omega)) h.symm)
  rw [List.pairwise_iff_getElem] at hf
  by_cases hi0:i=0
  ·subst hi0
   rw [List.getD_eq_getElem?_getD,List.getElem?_eq_getElem (by omega)] at hjx
   rw [← e]
   exact hjx
  ·have:=hf j (j + i) (by omega) (by omega) (by omega)
   rw [e] at this
   rw [List.getD_eq_getElem?_getD,List.getElem?_eq_getElem (by omega)] at hjx
   exact swoT.trans _ _ _ hjx this
 have htk:∀ x ∈ f.take j,ltT x t=true:=by
  intro x hx
  obtain ⟨i,hi,e⟩:=List.mem_iff_getElem.1 hx
  rw [List.length_take] at hi
  rw [List.getElem_take] at e
  have:=h1 i (by omega)
  rw [List.getD_eq_getElem?_getD,List.getElem?_eq_getElem (by omega)] at this
  rw [← e]
  exact this
 rw [List.pairwise_append,List.pairwise_append]
 have hp:(f.take j++f.drop j).Pairwise fun x y=>ltT x y=true:=by rw [List.take_append_drop]; exact hf
 rw [List.pairwise_append] at hp
 refine ⟨⟨hp.1,by simp,fun x hx y hy=>by rw [List.mem_singleton.1 hy]; exact htk x hx⟩,hp.2.1,fun x hx y hy => ?_⟩
 rcases List.mem_append.1 hx with hx | hx
 ·exact hp.2.2 x hx y hy
 ·rw [List.mem_singleton.1 hx]; exact hall y hy
theorem zi7 {S R Q:Type} {B:Nat→S→Option (Ctl S R)} {n:Nat} {s:S} {kn:S→Option Q} {kr:R→Option Q} {q:Option Q} (I:Nat→S→Prop) (h0:I 0 s) (hs:∀ i s,i < n→I i s→∃ s',B i s=some (.next s')∧I (i + 1) s') (hk:∀ s,I n s→kn s=q):outK (z07 B n 0 s) kn kr=q:=by
 obtain ⟨s',h1,h2⟩:=zcm I h0 hs
 rw [h1]
 exact hk s' h2
theorem zh4 {fuel:Nat} {l a:List Time} {t:Time} (ha:a.length + 1≤274877906944) (hz:a.length + 1 < fuel) :
  ∃ j,j≤a.length∧(∀ i,i < j→ltT (a.getD i default) t=true)∧(j < a.length→ltT (a.getD j default) t=false)∧(outK (z07 (S:=Bool) (R:=Empty) (fun i4 (a5:Bool)=>jn (fun (a24:Bool)=>bf a24 (some (.next false)) (some (.next a5))) fun j25=>bf (!(z0h (l.getD i4 default) t)) ((z3t (l.getD i4 default) t).bind fun r26=>j25 r26) (j25 false)) l.length 0 true) (fun (a6:Bool)=>outK (z07 (S:=Bool) (R:=Empty) (fun i7 (a8:Bool)=>need ((0 + i7) < a.length) <| bf (z0h (a.getD (0 + i7) default) t) (some (.next false)) (some (.next a8))) a.length 0 a6) (fun (a9:Bool)=>bf (!a9) (some (Ctl.next (R:=Empty) a)) (outK (loopN (S:=Int) (R:=Empty) (fun (a10:Int)=>jn (fun (a17:Bool)=>bf a17 (some (.next (IntKind.i64.wrap (a10 + 1)))) (some (.brk a10))) fun j18=>bf (decide (a10 < (a.length:Int))) (need ((0:Int)≤a10∧a10 < (a.length:Int)) <| need ((0 + a10.toNat) < a.length) <| (z2b (a.getD (0 + a10.toNat) default) t).bind fun r22=>j18 (decide (r22 < 0))) (j18 false)) fuel 0) (fun (a11:Int)=>need ((0:Int)≤0∧(0:Int)≤a11∧a11≤(a.length:Int)) <| need ((Av.sub a (0:Int) a11).length≤274877906944) <| need ((Av.sub a (0:Int) a11).length + ([t]:List Time).length≤274877906944) <| need ((0:Int)≤a11∧a11≤(a.length:Int)∧(a.length:Int)≤(a.length:Int)) <| need (((Av.sub a (0:Int) a11)++([t]:List Time)).length + (Av.sub a a11 (a.length:Int)).length≤274877906944) <| some (.next (((Av.sub a (0:Int) a11)++([t]:List Time))++(Av.sub a a11 (a.length:Int))))) (fun (x:Empty)=>x.elim))) (fun (x:Empty)=>x.elim)) (fun (x:Empty)=>x.elim))
  = some (.next (if z5n l t=true∧a.any (fun u=>z0h u t)=false then ((a.take j++[t])++a.drop j) else a)):=by
 obtain ⟨j,h1,h2,h3,h4,h5⟩:=zjh (f:=a) (t:=t) (B:=(fun (a10:Int)=>jn (fun (a17:Bool)=>bf a17 (some (.next (IntKind.i64.wrap (a10 + 1)))) (some (.brk a10))) fun j18=>bf (decide (a10 < (a.length:Int))) (need ((0:Int)≤a10∧a10 < (a.length:Int)) <| need ((0 + a10.toNat) < a.length) <| (z2b (a.getD (0 + a10.toNat) default) t).bind fun r22=>j18 (decide (r22 < 0))) (j18 false))) (fun i hi=>by
  simp only [jn_eq,z08,intlt]
  by_cases hlt:i < a.length
  ·rw [if_pos hlt]
   simp (disch:=omega) only [Int.toNat_natCast,Nat.zero_add,z06,zcz,Option.bind_some,wadd1,hlt,true_and]
   unfold ltT
   by_cases h:cmpT (a.getD i default) t < 0
   ·simp [h,z06 trivial]
   ·simp [h,z06 trivial]
  ·rw [if_neg hlt,if_neg (fun h=>hlt h.1),z0y]) a.length fuel (Nat.le_refl _) (by omega)
 rw [Nat.sub_self] at h1 h2 h4
 rw [show ((0:Nat):Int)=0 from rfl] at h1
 refine ⟨j,h3,fun i h=>h4 i (Nat.zero_le _) h,h5,?_⟩
 rw [z4p (z5n l t) (fun i x=>x=z5n (l.take i) t) (fun x h=>by rw [h,List.take_of_length_le (Nat.le_refl _)])]
 ·simp only [z2o]
  rw [z4p (z5n l t && !a.any (fun u=>z0h u t)) (fun i x=>x=(z5n l t && !(a.take i).any (fun u=>z0h u t))) (fun x h=>by rw [h,List.take_of_length_le (Nat.le_refl _)])]
  ·simp only [z2o]
   by_cases hc:z5n l t=true∧a.any (fun u=>z0h u t)=false
   ·rw [hc.1,hc.2,if_pos (by simp [hc])]
    simp only [Bool.not_false,Bool.and_true,Bool.not_true,z0y]
    rw [h1]
    simp only [z2o]
    have s1:Av.sub a (0:Int) (j:Int)=a.take j:=by unfold Av.sub; simp
    have s2:Av.sub a (j:Int) (a.length:Int)=a.drop j:=by
     unfold Av.sub
     rw [Int.toNat_natCast,Int.toNat_natCast,List.take_of_length_le (by rw [List.length_drop]; exact Nat.le_refl _)]
    rw [s1,s2,z06 (by omega),z06 (by rw [List.length_take]; omega),z06 (by rw [List.length_take,List.length_singleton]; omega),z06 (by omega),z06 (by rw [List.length_append,List.length_take,List.length_singleton,List.length_drop]; omega)]
   ·rw [if_neg hc]
    have:(z5n l t && !a.any (fun u=>z0h u t))=false:=by
     cases h1:z5n l t <;> cases h2:a.any (fun u=>z0h u t) <;> simp_all
    rw [this,Bool.not_false,z6o]
  ·rintro i x hi rfl
   refine ⟨_,?_,rfl⟩
   rw [Nat.zero_add,z06 hi,z7a hi,List.any_append]
   generalize a.getD i default=u
   cases h:z0h u t <;> simp [h]
  ·simp
 ·rintro i x hi rfl
  refine ⟨_,?_,rfl⟩
  simp only [jn_eq,ziw,Option.bind_some]
  rw [z7a hi]
  have:z5n (l.take i++[l.getD i default]) t=(z5n (l.take i) t && !(!z0h (l.getD i default) t && leT (l.getD i default) t)):=by
   unfold z5n; simp
  rw [this]
  cases z0h (l.getD i default) t <;> cases leT (l.getD i default) t <;> simp
 ·rfl
theorem zii {fuel:Nat} {l:List Time} (hz:l.length≤274877906944) (hf:l.length + 2 < fuel):z4n fuel l=some (z8z l):=by
 unfold z4n
 refine zi7 (fun i (a:List Time)=>a.length≤i∧a.Pairwise (fun x y=>ltT x y=true)∧∀ x,x ∈ a↔x ∈ l.take i∧z5n l x=true) ⟨Nat.le_refl _,.nil,fun x=>by simp⟩ ?_ ?_
 ·rintro i a hi ⟨h1,h2,h3⟩
  obtain ⟨j,hj2,hj3,hj4,hb⟩:=zh4 (fuel:=fuel) (l:=l) (a:=a) (t:=l.getD i default) (by omega) (by omega)
  refine ⟨_,hb,?_⟩
  rw [z7a hi]
  clear hb
  generalize l.getD i default=t at *
  by_cases hc:z5n l t=true∧a.any (fun u=>z0h u t)=false
  ·rw [if_pos hc]
   have hne:∀ x ∈ a,x ≠ t:=fun x hx e=>by
    have:a.any (fun u=>z0h u t)=true:=List.any_eq_true.2 ⟨x,hx,z90.2 e⟩
    rw [hc.2] at this; cases this
   refine ⟨by rw [List.length_append,List.length_append,List.length_take,List.length_singleton,List.length_drop]; omega,zjs h2 hj2 hj3 hj4 hne,fun x => ?_⟩
   rw [zlw hj2,h3,List.mem_append,List.mem_singleton]
   constructor
   ·rintro (⟨g1,g2⟩ | rfl)
    ·exact ⟨.inl g1,g2⟩
    ·exact ⟨.inr rfl,hc.1⟩
   ·rintro ⟨g1 | rfl,g2⟩
    ·exact .inl ⟨g1,g2⟩
    ·exact .inr rfl
  ·rw [if_neg hc]
   refine ⟨by omega,h2,fun x => ?_⟩
   rw [h3,List.mem_append,List.mem_singleton]
   constructor
   ·rintro ⟨g1,g2⟩; exact ⟨.inl g1,g2⟩
   ·rintro ⟨g1 | rfl,g2⟩
    ·exact ⟨g1,g2⟩
    ·have ha:a.any (fun u=>z0h u x)=true:=by
      cases e:a.any (fun u=>z0h u x) with
      | true=>rfl
      | false=>exact absurd ⟨g2,e⟩ hc
     obtain ⟨u,hu,he⟩:=List.any_eq_true.1 ha
     rw [z90.1 he] at hu
     exact (h3 x).1 hu
 ·rintro a ⟨h1,h2,h3⟩
  rw [List.take_of_length_le (Nat.le_refl _)] at h3
  have:=zjg l
  congr 1
  refine zfz h2 this.sorted fun x => ?_
  rw [h3,this.mem,zjl]
end Go.Av
namespace Go.Av
open Go
set_option linter.unusedVariables false
set_option linter.unusedSimpArgs false
def adv (t:Time) (f:List Time):Time:=if f=[] then t else lub2 t (glbL f)
theorem zkd {t a b:Time}:glb2 (lub2 t a) (lub2 t b)=lub2 t (glb2 a b):=by
 refine Time.ext' ?_ ?_ ?_ <;> simp only [lub2,glb2,mx_eq,mn_eq] <;> omega
theorem zhd {t:Time} {f:List Time} (h:f ≠ []):glbL (f.map (lub2 t))=lub2 t (glbL f):=by
 cases f with
 | nil=>exact absurd rfl h
 | cons x f =>
  simp only [List.map_cons,glbL]
  induction f generalizing x with
  | nil=>rfl
  | cons y f ih =>
   simp only [List.map_cons,List.foldl_cons]
   rw [zkd]
   exact ih (glb2 x y) (by simp)
theorem zm8 {t u:Time} (ht:z3q t) (hu:z3q u):z5f [t,u]=some (lub2 t u):=by
 unfold z5f
 rw [zb5 (fun x hx=>by
  rcases List.mem_cons.1 hx with rfl | hx
  ·exact ht
  ·rw [List.mem_singleton.1 hx]; exact hu),zey ht]
 rfl
theorem zjw {t:Time} {f:List Time} (ht:z3q t) (hf:NN f) (hl:f.length≤274877906944):z5l t f=some (adv t f):=by
 unfold z5l adv
 by_cases h0:f=[]
 ·rw [if_pos h0,h0]; rfl
 ·have hlen:f.length ≠ 0:=fun e=>h0 (List.eq_nil_of_length_eq_zero e)
  rw [if_neg h0,decide_eq_false (by omega),z0y,z06 (by unfold lim; omega)]
  rw [z4p (f.map (lub2 t)) (fun i a=>a=(f.take i).map (lub2 t)++List.replicate (f.length - i) (⟨0,(0,0)⟩:Time)) (fun a h=>by rw [h,List.take_of_length_le (Nat.le_refl _),Nat.sub_self]; simp)]
  ·simp only [z2o]
   unfold z9r
   rw [zhr,zhd h0]; rfl
  ·rintro i a hi rfl
   refine ⟨_,?_,rfl⟩
   have hlen2:((f.take i).map (lub2 t)++List.replicate (f.length - i) (⟨0,(0,0)⟩:Time)).length=f.length:=by
    rw [List.length_append,List.length_map,List.length_take,List.length_replicate]; omega
   rw [zm8 ht (hf _ (za7 hi)),Option.bind_some,hlen2,Nat.zero_add,z06 (by omega),z06 (by omega),z7a hi,List.map_append,show f.length - i=(f.length - (i + 1)) + 1 by omega,List.replicate_succ]
   have e:=List.set_append_right (s:=(f.take i).map (lub2 t)) (t:=(⟨0,(0,0)⟩:Time) :: List.replicate (f.length - (i + 1)) (⟨0,(0,0)⟩:Time)) i (lub2 t (f.getD i default)) (by rw [List.length_map,List.length_take]; omega)
   rw [e,List.length_map,List.length_take,show i - min i f.length=0 by omega]
   simp
  ·simp
theorem zh1 {t:Time} {f:List Time} (ht:z3q t) (hf:NN f) (hl:f.length≤274877906944):z45 t f=some (adv t f):=by
 unfold z45 adv
 by_cases h0:f=[]
 ·rw [if_pos h0,h0]; rfl
 ·have hlen:f.length ≠ 0:=fun e=>h0 (List.eq_nil_of_length_eq_zero e)
  rw [if_neg h0,decide_eq_false (by omega),z0y]
  rw [z4p (f.map (lub2 t)) (fun i a=>a=(f.take i).map (lub2 t)) (fun a h=>by rw [h,List.take_of_length_le (Nat.le_refl _)])]
  ·simp only [z2o]
   rw [zk4,zhd h0]; rfl
  ·rintro i a hi rfl
   refine ⟨_,?_,rfl⟩
   rw [zk8,zey ht,Option.bind_some,z06 (by rw [List.length_map,List.length_take,List.length_singleton]; omega),z7a hi,List.map_append]
   rfl
  ·rfl
end Go.Av
namespace Go.Av
open Go
set_option linter.unusedVariables false
set_option linter.unusedSimpArgs false
def Fr (l:List Time):Prop:=(∀ t ∈ l,okT t=true)∧z8z l=l
theorem zkr {fuel:Nat} (hf:5 < fuel) (l:List Time):∃ e,z32 fuel l=some e∧(e=0↔∀ t ∈ l,okT t=true):=by
 unfold z32
 rw [z9o (fun t=>if okT t=true then 0 else 1) (fun x=>x)]
 ·have key:∀ l:List Time,l.foldr (fun x v=>thenC (if okT x=true then 0 else 1) v) (0:Int)=0↔∀ t ∈ l,okT t=true:=fun l=>by
   induction l with
   | nil=>simp
   | cons t l ih =>
    rw [List.foldr_cons,zcb,ih]
    by_cases h:okT t=true <;> simp [h]
  refine ⟨l.foldr (fun x v=>thenC (if okT x=true then 0 else 1) v) (0:Int),?_,key l⟩
  split
  ·rename_i h; rw [h]; rfl
  ·rfl
 ·intro i hi
  have h:=zc6 hf (l.getD i default)
  unfold z32 at h
  simp only [List.length_cons,List.length_nil,Nat.zero_add,z07,List.getD_cons_zero] at h
  simp only [zj8 hf,Option.bind_some,z08] at h ⊢
  generalize l.getD i default=t at *
  unfold okT at *
  simp only [mx_eq] at *
  by_cases g:4611686018427387904 < max t.epoch (max t.loop.1 t.loop.2)
  ·rw [if_pos g,if_neg (by rw [if_neg (by simp only [Bool.and_eq_true,decide_eq_true_eq]; omega)]; decide),if_neg (by simp only [Bool.and_eq_true,decide_eq_true_eq]; omega)]
  ·rw [if_neg g,if_pos (by rw [if_pos (by simp only [Bool.and_eq_true,decide_eq_true_eq]; omega)])]
theorem zgv (a b:List Time):∃ r,z12 a b=some r∧(r=true↔a=b):=by
 unfold z12
 by_cases hl:a.length=b.length
 ·rw [decide_eq_true (by omega:(a.length:Int)=(b.length:Int))]
  simp only [Bool.not_true,z0y]
  have key:∀ k i,i + k=a.length→∃ r,outK (z07 (S:=Unit) (R:=Bool) (fun i1 (a2:Unit)=>need ((0:Int)≤((i1:Nat):Int)∧((i1:Nat):Int) < (b.length:Int)) <| bf (!(z0h (a.getD i1 default) (b.getD i1 default))) (some (.ret false)) (some (.next ()))) k i ()) (fun (a3:Unit)=>some true) (fun x=>some x)=some r∧(r=true↔a.drop i=b.drop i):=by
   intro k
   induction k with
   | zero =>
    intro i hi
    refine ⟨true,rfl,?_⟩
    rw [List.drop_eq_nil_of_le (by omega:a.length≤i),List.drop_eq_nil_of_le (by omega:b.length≤i)]
    simp
   | succ k ih =>
    intro i hi
    simp only [z07]
    rw [z06 (by omega),z29 (by omega:i < a.length),z29 (by omega:i < b.length)]
    by_cases he:z0h (a.getD i default) (b.getD i default)=true
    ·rw [he]
     obtain ⟨r,h1,h2⟩:=ih (i + 1) (by omega)
     refine ⟨r,h1,?_⟩
     rw [h2,z90.1 he]
     simp
    ·have he' : z0h (a.getD i default) (b.getD i default)=false:=by simpa using he
     rw [he']
     refine ⟨false,rfl,?_⟩
     simp only [Bool.false_eq_true,false_iff,List.cons.injEq,not_and]
     intro h
     exact absurd (z90.2 h) he
  obtain ⟨r,h1,h2⟩:=key a.length 0 (by omega)
  exact ⟨r,h1,by simpa using h2⟩
 ·rw [decide_eq_false (by omega:¬ (a.length:Int)=(b.length:Int))]
  exact ⟨false,rfl,by simp; intro h; exact hl (by rw [h])⟩
theorem zl1 {fuel:Nat} {l:List Time} (hf:20000000≤fuel) (hn:l.length≤2000000) (hl:NN l):∃ b,z5j fuel l=some b∧(b=true↔Fr l):=by
 unfold z5j
 obtain ⟨e,h1,h2⟩:=zkr (fuel:=fuel) (by omega) l
 rw [h1]
 simp only [Option.bind_some,jn_eq,z08]
 by_cases h:e=0
 ·rw [if_pos h,zlp hl (by omega) (by omega)]
  obtain ⟨r,g1,g2⟩:=zgv (z8z l) l
  simp only [Option.bind_some]
  rw [g1]
  exact ⟨r,rfl,by rw [g2]; exact ⟨fun g=>⟨h2.1 h,g⟩,fun g=>g.2⟩⟩
 ·rw [if_neg h]
  exact ⟨false,rfl,by simp only [Bool.false_eq_true,false_iff]; exact fun g=>h (h2.2 g.1)⟩
end Go.Av
namespace Go.Av
open Go
set_option linter.unusedVariables false
theorem zl3:z4q 100000000=some true:=by kernel_rfl
theorem zcj {n:Int} (h:okInt .u64 n):0≤n:=(Go.bounds_u64 h).1
theorem zgw {t:Time} (h:zbw t):z3q t:=⟨zcj h.1,zcj h.2.1.1,zcj h.2.1.2⟩
abbrev okUs (l:List Update):Prop:=l.length≤maxN∧∀ x ∈ l,zcp x
abbrev okTs (l:List Time):Prop:=l.length≤maxN∧∀ x ∈ l,zbw x
theorem us_nn {l:List Update} (h:okUs l):∀ u ∈ l,z3q u.time:=fun u hu=>zgw (h.2 u hu).2.2.1
theorem ts_nn {l:List Time} (h:okTs l):∀ u ∈ l,z3q u:=fun u hu=>zgw (h.2 u hu)
theorem zms (l:List Update):l.length≤(l.map z42).sum:=z6v (f:=z42) (fun x=>by unfold z42; omega) l
theorem zmy (l:List Time):l.length≤(l.map z7b).sum:=z6v (f:=z7b) (fun x=>by unfold z7b; omega) l
end Go.Av
namespace Go.Av
open Go
set_option linter.unusedVariables false
set_option linter.unusedSimpArgs false
theorem zkz {α:Type} [Inhabited α] {c : α → α → Int} (hC:IsCmp c) {l:List α} (h:∀ j,0 < j→j < l.length→c (l.getD (j - 1) default) (l.getD j default) < 0):l.Pairwise fun a b=>c a b < 0:=by
 have key:∀ j i,i < j→j < l.length→c (l.getD i default) (l.getD j default) < 0:=by
  intro j
  induction j with
  | zero=>intro i hi; omega
  | succ j ih =>
   intro i hi hj
   have h1:=h (j + 1) (by omega) hj
   rw [Nat.add_sub_cancel] at h1
   by_cases e:i=j
   ·subst e; exact h1
   ·exact hC.lt_tr (ih i (by omega) (by omega)) (by omega)
 rw [List.pairwise_iff_getElem]
 intro i j hi hj hij
 have:=key j i hij hj
 rwa [List.getD_eq_getElem?_getD,List.getElem?_eq_getElem hi,List.getD_eq_getElem?_getD,List.getElem?_eq_getElem hj] at this
structure EvenP (l:List Update):Prop where
 lt:l.Pairwise fun a b=>cU a b < 0
 nz:∀ r ∈ l,r.diff ≠ 0
 ok:∀ r ∈ l,okU r
theorem EvenP.adj {l:List Update} (h:EvenP l) {i:Nat} (h0:0 < i) (hi:i < l.length):cU (l.getD (i - 1) default) (l.getD i default) < 0:=by
 have hs:=h.lt
 rw [List.pairwise_iff_getElem] at hs
 have:=hs (i - 1) i (by omega) hi (by omega)
 rwa [List.getD_eq_getElem?_getD,List.getElem?_eq_getElem (by omega:i - 1 < l.length),List.getD_eq_getElem?_getD,List.getElem?_eq_getElem hi]
theorem zj9 {fuel:Nat} {l:List Update} (hf:20000000≤fuel) (hn:l.length≤4000000):∃ b,z4c fuel l=some b∧(b=true↔EvenP l):=by
 unfold z4c
 rw [zap (by omega)]
 let G:Option Bool→Prop:=fun q=>∃ b,q=some b∧(b=true↔EvenP l)
 refine zcc (G:=G) (fun i _=>∀ j,j < i→(l.getD j default).diff ≠ 0∧(0 < j→cU (l.getD (j - 1) default) (l.getD j default) < 0)) (fun _=>∀ j,j < l.length→(l.getD j default).diff ≠ 0∧(0 < j→cU (l.getD (j - 1) default) (l.getD j default) < 0))
  (fun r=>r=false∧¬ EvenP l) (fun j hj=>by omega) (fun _ h=>h) ?_ ?_ ?_
 ·intro s h
  refine ⟨_,rfl,?_⟩
  simp only [decide_eq_true_eq]
  rw [zk9]
  refine ⟨fun ho=>⟨zkz cU_is fun j h0 hj=>(h j hj).2 h0,fun r hr => ?_,ho⟩,fun hE=>hE.ok⟩
  obtain ⟨i,hi,rfl⟩:=List.mem_iff_getElem.1 hr
  have:=(h i hi).1
  rwa [List.getD_eq_getElem?_getD,List.getElem?_eq_getElem hi] at this
 ·rintro r ⟨rfl,h⟩
  exact ⟨false,rfl,by simp [h]⟩
 ·intro i s hi h
  simp only [jn_eq,z08]
  by_cases h0:(l.getD i default).diff=0
  ·rw [if_pos h0]
   exact .inr (.inr ⟨_,rfl,rfl,fun hE=>hE.nz _ (z5h hi) h0⟩)
  ·rw [if_neg h0]
   by_cases g:0 < ((i:Nat):Int)
   ·rw [if_pos g,wsub1 (by omega) (by omega),z06 (by omega),zar]
    simp only [Option.bind_some,z08,Int.toNat_natCast]
    by_cases k:0≤cU (l.getD (i - 1) default) (l.getD i default)
    ·rw [if_pos k]
     exact .inr (.inr ⟨_,rfl,rfl,fun hE=>by have:=hE.adj (i:=i) (by omega) hi; omega⟩)
    ·rw [if_neg k]
     refine .inl ⟨_,rfl,fun j hj => ?_⟩
     by_cases e:j=i
     ·subst e; exact ⟨h0,fun _=>by omega⟩
     ·exact h j (by omega)
   ·rw [if_neg g]
    refine .inl ⟨_,rfl,fun j hj => ?_⟩
    by_cases e:j=i
    ·subst e; exact ⟨h0,fun _=>by omega⟩
    ·exact h j (by omega)
theorem zjm {fuel:Nat} {l:List Update} (hf:20000000≤fuel) (hn:l.length≤4000000) (hk:∀ u ∈ l,z9g u):∃ b,z3b fuel l=some b∧(b=true↔EvenP l):=by
 obtain ⟨b,h1,h2⟩:=zm5 hf hn hk
 obtain ⟨b',h3,h4⟩:=zj9 (l:=l) hf hn
 rw [h1] at h3; cases h3
 exact ⟨b,h2,h4⟩
def AdvP (f:List Time) (l:List Update):Prop := ∀ r ∈ l,adv r.time f=r.time
theorem zj4 {f:List Time} {l:List Update}:(l.any fun u => !z0h (adv u.time f) u.time)=false↔AdvP f l:=by
 simp only [List.any_eq_false,AdvP,Bool.not_eq_true,Bool.not_eq_false',z90]
theorem zji {fuel:Nat} {f:List Time} {l:List Update} (hf:20000000≤fuel) (hF:NN f) (hl:f.length≤2000000) (hn:l.length≤4000000) (ht:∀ r ∈ l,z3q r.time):∃ b,z63 fuel l f=some b∧(b=true↔EvenP l∧AdvP f l):=by
 unfold z63
 obtain ⟨b,h1,h2⟩:=zj9 (l:=l) hf hn
 rw [h1]
 simp only [Option.bind_some,jn_eq]
 cases b with
 | false=>exact ⟨false,rfl,by simp only [Bool.false_eq_true,false_iff]; exact fun g=>by have:=h2.2 g.1; cases this⟩
 | true =>
  rw [z6o]
  have hE:=h2.1 rfl
  unfold z0k z0m
  have hany:=zj4 (f:=f) (l:=l)
  refine ⟨!(l.any fun u => !z0h (adv u.time f) u.time),?_,by rw [← hany]; simp [hE]⟩
  have hB:∀ i (u:Unit),i < l.length→(z51 (l.getD i default) f).bind (fun r4=>bf r4 (some (.ret ((i:Nat):Int))) (some (.next ())))=if (!z0h (adv (l.getD i default).time f) (l.getD i default).time)=true then some (Ctl.ret ((i:Nat):Int)) else some (.next ()):=fun i u hi=>by
   unfold z51
   rw [zjw (ht _ (z5h hi)) hF (by omega)]
   simp only [Option.bind_some]
   cases (!z0h (adv (l.getD i default).time f) (l.getD i default).time) <;> rfl
  cases hc:l.any fun u => !z0h (adv u.time f) u.time with
  | false =>
   have e:=zdk (kn:=fun _=>some (-1:Int)) (kr:=fun x:Int=>some x) (p:=fun u:Update => !z0h (adv u.time f) u.time) (f:=fun i=>(i:Int)) (q:=some (-1)) hB (fun _=>rfl) (fun i hi h=>by rw [hc] at h; cases h)
   rw [e]
   rfl
  | true =>
   have:∃ k:Nat,outK (z07 (S:=Unit) (R:=Int) (fun i1 (a2:Unit)=>(z51 (l.getD i1 default) f).bind fun r4=>bf r4 (some (.ret ((i1:Nat):Int))) (some (.next ()))) l.length 0 ()) (fun (a3:Unit)=>some (-1)) (fun x=>some x)=some ((k:Nat):Int):=by
    refine zcc (G:=fun q=>∃ k:Nat,q=some ((k:Nat):Int)) (fun i _=>(l.take i).any (fun u => !z0h (adv u.time f) u.time)=false) (fun _=>False) (fun r=>∃ k:Nat,r=(k:Int)) rfl (fun s h=>by rw [List.take_length,hc] at h; cases h) (fun s h=>h.elim) (fun r ⟨k,h⟩=>⟨k,by rw [h]⟩) ?_
    intro i s hi h
    rw [hB i s hi]
    by_cases g:(!z0h (adv (l.getD i default).time f) (l.getD i default).time)=true
    ·rw [if_pos g]; exact .inr (.inr ⟨_,rfl,i,rfl⟩)
    ·rw [if_neg g]
     refine .inl ⟨_,rfl,?_⟩
     rw [z4f hi,List.any_append,h]
     simp only [List.any_cons,List.any_nil,Bool.or_false,Bool.false_or]
     simpa using g
   obtain ⟨k,hk⟩:=this
   rw [hk]
   have:decide (0≤((k:Nat):Int))=true:=by rw [decide_eq_true_eq]; omega
   simp only [Option.bind_some,this]
def zfq (b:Batch):Prop:=Fr b.since∧EvenP b.updates∧AdvP b.since b.updates
theorem zl8 {fuel:Nat} {b:Batch} (hf:20000000≤fuel) (hF:NN b.since) (hl:b.since.length≤2000000) (hn:b.updates.length≤4000000) (ht:∀ r ∈ b.updates,z3q r.time):(z3k fuel b=some 0∧zfq b)∨(z3k fuel b=some 4∧¬ zfq b):=by
 unfold z3k
 obtain ⟨x,h1,h2⟩:=zl1 (fuel:=fuel) hf hl hF
 rw [h1]
 simp only [Option.bind_some,jn_eq]
 cases x with
 | false=>right; exact ⟨rfl,fun h=>by have:=h2.2 h.1; cases this⟩
 | true =>
  obtain ⟨y,g1,g2⟩:=zji (fuel:=fuel) hf hF hl hn ht
  rw [g1]
  cases y with
  | false=>right; exact ⟨rfl,fun h=>by have:=g2.2 h.2; cases this⟩
  | true=>left; exact ⟨rfl,h2.1 rfl,g2.1 rfl⟩
end Go.Av
namespace Go.Av
open Go
set_option linter.unusedVariables false
set_option linter.unusedSimpArgs false
theorem zhx (l:List Time):∃ e,z2d l=some e∧(e=0↔∀ t ∈ l,okT t=true):=by
 unfold z2d
 rw [z9o (fun t=>if okT t=true then 0 else 1) (fun x=>x)]
 ·have key:∀ l:List Time,l.foldr (fun x v=>thenC (if okT x=true then 0 else 1) v) (0:Int)=0↔∀ t ∈ l,okT t=true:=fun l=>by
   induction l with
   | nil=>simp
   | cons t l ih =>
    rw [List.foldr_cons,zcb,ih]
    by_cases h:okT t=true <;> simp [h]
  refine ⟨l.foldr (fun x v=>thenC (if okT x=true then 0 else 1) v) (0:Int),?_,key l⟩
  split
  ·rename_i h; rw [h]; rfl
  ·rfl
 ·intro i hi
  have h:=z9l (l.getD i default)
  unfold z2d at h
  simp only [List.length_cons,List.length_nil,Nat.zero_add,List.getD_cons_zero] at h
  generalize l.getD i default=t at *
  rw [show z07 (S:=Unit) (R:=Int) _ 1 0 ()=_ from rfl] at h
  simp only [z07,z08,List.getD_cons_zero] at h ⊢
  by_cases h1:4611686018427387904 < t.epoch <;> by_cases h2:4611686018427387904 < t.loop.1 <;> by_cases h3:4611686018427387904 < t.loop.2 <;> simp [outK,h1,h2,h3] at h ⊢ <;> cases hk:okT t <;> simp [hk] at h ⊢
theorem zim (a b:List Time):∃ r,z6h a b=some r∧(r=true↔a=b):=by
 obtain ⟨r,h1,h2⟩:=zgv a b
 exact ⟨r,h1,h2⟩
theorem zj0 {fuel:Nat} {l:List Time} (hf:20000000≤fuel) (hn:l.length≤2000000):∃ b,z4r fuel l=some b∧(b=true↔Fr l):=by
 unfold z4r z5g
 obtain ⟨e,h1,h2⟩:=zhx l
 rw [h1]
 simp only [Option.bind_some,jn_eq,z08]
 by_cases h:e=0
 ·rw [if_pos h,zii (by omega) (by omega)]
  obtain ⟨r,g1,g2⟩:=zim l (z8z l)
  simp only [Option.bind_some]
  rw [g1]
  exact ⟨r,rfl,by rw [g2]; exact ⟨fun g=>⟨h2.1 h,g.symm⟩,fun g=>g.2.symm⟩⟩
 ·rw [if_neg h]
  exact ⟨false,rfl,by simp only [Bool.false_eq_true,false_iff]; exact fun g=>h (h2.2 g.1)⟩
theorem zkt {f:List Time} {l:List Update} (hF:NN f) (hl:f.length≤2000000) (ht:∀ r ∈ l,z3q r.time):∃ b,z3o l f=some b∧(b=true↔AdvP f l):=by
 unfold z3o
 have hany:=zj4 (f:=f) (l:=l)
 refine ⟨!(l.any fun u => !z0h (adv u.time f) u.time),?_,by rw [← hany]; simp⟩
 refine zdk (p:=fun u:Update => !z0h (adv u.time f) u.time) (f:=fun i=>false) (fun i u hi => ?_) (fun h=>by rw [h]; rfl) (fun i hi h=>by rw [h]; rfl)
 rw [zh1 (ht _ (z5h hi)) hF (by omega)]
 simp only [Option.bind_some]
 cases (!z0h (adv (l.getD i default).time f) (l.getD i default).time) <;> rfl
theorem zek {fuel:Nat} {b:Batch} (hf:20000000≤fuel) (hF:NN b.since) (hl:b.since.length≤2000000) (hn:b.updates.length≤4000000) (ht:∀ r ∈ b.updates,z3q r.time) (hk:∀ u ∈ b.updates,z9g u):(z2c fuel b=some 0∧zfq b)∨(z2c fuel b=some 4∧¬ zfq b):=by
 unfold z2c
 obtain ⟨x,h1,h2⟩:=zj0 (fuel:=fuel) hf hl
 rw [h1]
 simp only [Option.bind_some,jn_eq]
 cases x with
 | false=>right; exact ⟨rfl,fun h=>by have:=h2.2 h.1; cases this⟩
 | true =>
  obtain ⟨y,g1,g2⟩:=zjm (l:=b.updates) hf hn hk
  rw [g1]
  cases y with
  | false=>right; exact ⟨rfl,fun h=>by have:=g2.2 h.2.1; cases this⟩
  | true =>
   obtain ⟨z,k1,k2⟩:=zkt (l:=b.updates) hF hl ht
   simp only [Option.bind_some,Bool.not_true,z0y]
   rw [k1]
   cases z with
   | false=>right; exact ⟨rfl,fun h=>by have:=k2.2 h.2.2; cases this⟩
   | true=>left; exact ⟨rfl,h2.1 rfl,g2.1 rfl,k2.1 rfl⟩
abbrev kc (key:List Value) (u:Update):Int:=cmpL cmpV u.key key
theorem zma {l:List Update} (h:EvenP l) {key:List Value} {i j:Nat} (hij:i≤j) (hj:j < l.length):kc key (l.getD j default)≤0→kc key (l.getD i default)≤0:=fun g=>by
 by_cases e:i=j
 ·subst e; exact g
 ·have hs:=h.lt
  rw [List.pairwise_iff_getElem] at hs
  have h1:=hs i j (by omega) hj (by omega)
  rw [List.getD_eq_getElem?_getD,List.getElem?_eq_getElem hj] at g
  rw [List.getD_eq_getElem?_getD,List.getElem?_eq_getElem (by omega:i < l.length)]
  simp only [Option.getD_some] at g ⊢
  have h2:cmpL cmpV l[i].key l[j].key≤0:=by
   unfold cU thenC at h1
   split at h1 <;> omega
  exact ze6.list.tr _ _ _ h2 g
theorem zfp {l:List Update} (h:EvenP l) {key:List Value} {i j:Nat} (hij:i≤j) (hj:j < l.length):kc key (l.getD j default) < 0→kc key (l.getD i default) < 0:=fun g=>by
 by_cases e:i=j
 ·subst e; exact g
 ·have hs:=h.lt
  rw [List.pairwise_iff_getElem] at hs
  have h1:=hs i j (by omega) hj (by omega)
  rw [List.getD_eq_getElem?_getD,List.getElem?_eq_getElem hj] at g
  rw [List.getD_eq_getElem?_getD,List.getElem?_eq_getElem (by omega:i < l.length)]
  simp only [Option.getD_some] at g ⊢
  have h2:cmpL cmpV l[i].key l[j].key≤0:=by
   unfold cU thenC at h1
   split at h1 <;> omega
  exact ze6.list.le_lt h2 g
def cntP (p:Update→Bool):List Update→Nat
 | []=>0
 | u :: l=>if p u then cntP p l + 1 else 0
theorem ze8 (p:Update→Bool):∀ l,cntP p l≤l.length
 | []=>Nat.le_refl _
 | u :: l=>by
  unfold cntP
  split
  ·simp only [List.length_cons]; have:=ze8 p l; omega
  ·exact Nat.zero_le _
theorem zc1 {p:Update→Bool}:∀ {l:List Update} {i:Nat},i < cntP p l→p (l.getD i default)=true
 | [],i,h=>by simp [cntP] at h
 | u :: l,i,h=>by
  unfold cntP at h
  split at h
  ·rename_i hu
   cases i with
   | zero=>exact hu
   | succ i=>simp only [List.getD_cons_succ]; exact zc1 (by omega)
  ·omega
theorem z9z {p:Update→Bool}:∀ {l:List Update},cntP p l < l.length→p (l.getD (cntP p l) default)=false
 | [],h=>by simp at h
 | u :: l,h=>by
  unfold cntP at *
  split
  ·rename_i hu
   rw [if_pos hu] at h
   simp only [List.getD_cons_succ]
   exact z9z (by simp only [List.length_cons] at h; omega)
  ·rename_i hu
   simpa using hu
theorem zgm {p:Update→Bool} {l:List Update} {n:Nat} (hn:n≤l.length) (h1:∀ i,i < n→p (l.getD i default)=true) (h2:n < l.length→p (l.getD n default)=false):cntP p l=n:=by
 have g1:=ze8 p l
 rcases Nat.lt_trichotomy (cntP p l) n with h | h | h
 ·have a:=z9z (p:=p) (l:=l) (by omega)
  rw [h1 _ h] at a; cases a
 ·exact h
 ·have a:=zc1 h
  rw [h2 (by omega)] at a; cases a
def atK (key:List Value) (l:List Update):Nat:=cntP (fun u=>decide (kc key u < 0)) l
end Go.Av
namespace Go.Av
open Go
set_option linter.unusedVariables false
set_option linter.unusedSimpArgs false
theorem zhs (key:List Value) (l:List Update):atK key l≤l.length:=ze8 _ _
theorem zn0 {l:List Update} {key:List Value} (hE:EvenP l) {r:Nat} (h1:r≤l.length) (h2:r=0∨decide (kc key (l.getD (r - 1) default) < 0)=true) (h3:r=l.length∨decide (kc key (l.getD r default) < 0)=false):atK key l=r:=by
 refine zgm h1 (fun i hi => ?_) (fun h => ?_)
 ·rcases h2 with h2 | h2
  ·omega
  ·have h2':=of_decide_eq_true h2
   exact decide_eq_true (zfp hE (by omega:i≤r - 1) (by omega) h2')
 ·rcases h3 with h3 | h3
  ·omega
  ·exact h3
theorem zi8 {fuel:Nat} {l:List Update} {key:List Value} (hf:20000000≤fuel) (hn:l.length≤4000000) (hE:EvenP l):z72 fuel l key=some ((atK key l:Nat):Int):=by
 unfold z72 z0b z6u
 obtain ⟨r,h1,_,h3,h4,h5⟩:=zm0 (R:=Empty) (P:=fun i=>decide (kc key (l.getD i default) < 0)) (i0:=0) (j0:=l.length) (B:=fun (a1:Int × Int)=>bf (decide (a1.1 < a1.2)) (need ((0:Int)≤(IntKind.i64.wrap (shrOp .u64 (IntKind.u64.wrap (IntKind.i64.wrap (a1.1 + a1.2))) 1))∧(IntKind.i64.wrap (shrOp .u64 (IntKind.u64.wrap (IntKind.i64.wrap (a1.1 + a1.2))) 1)) < (l.length:Int)) <| ((z43 (l.getD ((IntKind.i64.wrap (shrOp .u64 (IntKind.u64.wrap (IntKind.i64.wrap (a1.1 + a1.2))) 1)).toNat) default).key key).bind fun r1=>some r1).bind fun r8=>bf (decide (r8 < 0)) (some (.next ((IntKind.i64.wrap ((IntKind.i64.wrap (shrOp .u64 (IntKind.u64.wrap (IntKind.i64.wrap (a1.1 + a1.2))) 1)) + 1)),a1.2))) (some (.next (a1.1,(IntKind.i64.wrap (shrOp .u64 (IntKind.u64.wrap (IntKind.i64.wrap (a1.1 + a1.2))) 1)))))) (some (.brk (a1.1,a1.2))))
  l.length 0 l.length fuel (by omega) (by omega) (Nat.le_refl _) (Nat.zero_le _) (Nat.le_refl _) (.inl rfl) (.inl rfl) (fun i j _ hij hj=>by
   simp only [z08,Int.ofNat_lt]
   by_cases h:i < j
   ·rw [if_pos h,if_pos h,zm2 (by omega),z06 (by omega),z8k]
    simp only [Option.bind_some,z08,Int.toNat_natCast,decide_eq_true_eq]
    rw [z1q (by omega) (by omega)]
    split
    ·rfl
    ·rfl
   ·rw [if_neg h,if_neg h])
 have ea:=zn0 (key:=key) hE h3 h4 h5
 rw [show ((0:Nat):Int)=(0:Int) from rfl] at h1
 rw [h1]
 simp only [z2o,jn_eq,z08,Int.ofNat_lt]
 rw [ea]
 by_cases h:r < l.length
 ·rw [if_pos h,z06 (by omega),z8k]
  rfl
 ·rw [if_neg h]
  rfl
def grpK (key:List Value) (l:List Update):List Update:=l.filter fun u=>decide (kc key u=0)
theorem zl0 {l:List Update} (hE:EvenP l) (key:List Value):l=l.take (atK key l)++(grpK key l++(l.drop (atK key l)).drop (grpK key l).length) ∧
  cntP (fun u=>decide (kc key u=0)) (l.drop (atK key l))=(grpK key l).length:=by
 have hat:=zhs key l
 have hA:∀ u ∈ l.take (atK key l),kc key u < 0:=fun u hu=>by
  obtain ⟨i,hi,rfl⟩:=List.mem_iff_getElem.1 hu
  simp only [List.length_take] at hi
  have:=of_decide_eq_true (zc1 (p:=fun u=>decide (kc key u < 0)) (l:=l) (i:=i) (by unfold atK at hi; omega))
  rw [List.getD_eq_getElem?_getD,List.getElem?_eq_getElem (by omega)] at this
  simpa using this
 have hpos:∀ i,atK key l≤i→i < l.length→¬ kc key (l.getD i default) < 0:=fun i hi hl h=>by
  have h1:=zfp hE hi hl h
  have h2:=z9z (p:=fun u=>decide (kc key u < 0)) (l:=l) (by unfold atK at hi; omega)
  have h2':=of_decide_eq_false h2
  exact h2' h1
 generalize hD:l.drop (atK key l)=D at *
 have hDg:∀ i,i < D.length→D.getD i default=l.getD (atK key l + i) default:=fun i hi=>by
  rw [← hD]
  simp [List.getD_eq_getElem?_getD,List.getElem?_drop]
 have hDl:D.length=l.length - atK key l:=by rw [← hD]; simp
 generalize hm:cntP (fun u=>decide (kc key u=0)) D=m at *
 have hmD:m≤D.length:=by rw [← hm]; exact ze8 _ _
 have hG:∀ u ∈ D.take m,decide (kc key u=0)=true:=fun u hu=>by
  obtain ⟨i,hi,rfl⟩:=List.mem_iff_getElem.1 hu
  simp only [List.length_take] at hi
  have:=zc1 (p:=fun u=>decide (kc key u=0)) (l:=D) (i:=i) (by omega)
  rw [List.getD_eq_getElem?_getD,List.getElem?_eq_getElem (by omega)] at this
  simpa using this
 have hC:∀ u ∈ D.drop m,¬ decide (kc key u=0)=true:=fun u hu h=>by
  have h:=of_decide_eq_true h
  obtain ⟨i,hi,rfl⟩:=List.mem_iff_getElem.1 hu
  simp only [List.length_drop] at hi
  have e1:(D.drop m)[i]=l.getD (atK key l + (m + i)) default:=by
   rw [← hDg (m + i) (by omega),List.getD_eq_getElem?_getD,List.getElem?_eq_getElem (by omega)]
   simp
  rw [e1] at h
  have h1:=zma hE (key:=key) (i:=atK key l + m) (j:=atK key l + (m + i)) (by omega) (by omega) (by omega)
  have h2:=hpos (atK key l + m) (by omega) (by omega)
  have h3:=z9z (p:=fun u=>decide (kc key u=0)) (l:=D) (by omega)
  have h3:=of_decide_eq_false h3
  rw [hm,hDg m (by omega)] at h3
  omega
 have e0:l=l.take (atK key l)++(D.take m++D.drop m):=by rw [List.take_append_drop,← hD,List.take_append_drop]
 have e1:grpK key l=D.take m:=by
  unfold grpK
  conv=>lhs; rw [e0]
  rw [List.filter_append,List.filter_append,List.filter_eq_nil_iff.2 (fun u hu h=>by have:=hA u hu; have h:=of_decide_eq_true h; omega),List.filter_eq_self.2 hG,List.filter_eq_nil_iff.2 hC]
  simp
 have e2:(grpK key l).length=m:=by rw [e1]; simp; omega
 rw [e2]
 refine ⟨?_,rfl⟩
 rw [e1]
 exact e0
theorem zjr {l:List Update} {p:Update→Bool} {B:Nat→Unit→Option (Ctl Unit Int)} (hB:∀ i (u:Unit),i < l.length→B i u=if p (l.getD i default)=true then some (.next ()) else some (.ret ((i:Nat):Int))) :
  outK (z07 B l.length 0 ()) (fun _=>some (-1)) (fun x=>some x)=some (if cntP p l < l.length then ((cntP p l:Nat):Int) else -1):=by
 refine zcc (G:=fun q=>q=some (if cntP p l < l.length then ((cntP p l:Nat):Int) else -1)) (fun i _=>∀ j,j < i→p (l.getD j default)=true) (fun _=>¬ cntP p l < l.length) (fun r=>cntP p l < l.length∧r=((cntP p l:Nat):Int)) (fun j hj=>by omega) (fun s h hc => ?_) (fun s h=>by rw [if_neg h]) (fun r ⟨h,e⟩=>by rw [if_pos h,e]) ?_
 ·have:=z9z hc
  rw [h _ hc] at this; cases this
 ·intro i s hi h
  rw [hB i s hi]
  by_cases g:p (l.getD i default)=true
  ·rw [if_pos g]
   refine .inl ⟨_,rfl,fun j hj => ?_⟩
   by_cases e:j=i
   ·subst e; exact g
   ·exact h j (by omega)
  ·rw [if_neg g]
   have:cntP p l=i:=zgm (by omega) h fun _=>by simpa using g
   exact .inr (.inr ⟨_,rfl,by omega,by rw [this]⟩)
theorem zml {fuel:Nat} {l:List Update} {key:List Value} (hf:20000000≤fuel) (hn:l.length≤4000000) (hE:EvenP l):z8g fuel l key=some (grpK key l):=by
 unfold z8g
 rw [zi8 hf hn hE]
 simp only [Option.bind_some]
 have hat:=zhs key l
 rw [z06 (by omega)]
 have e1:Av.sub l ((atK key l:Nat):Int) (l.length:Int)=l.drop (atK key l):=by
  unfold Av.sub
  simp only [Int.toNat_natCast]
  exact List.take_of_length_le (by simp)
 rw [e1]
 obtain ⟨h1,h2⟩:=zl0 hE key
 unfold z0q
 rw [zjr (p:=fun u=>decide (kc key u=0)) (fun i u hi=>by
  unfold z8f
  rw [z8k]
  simp only [Option.bind_some,z7d,z08,decide_eq_true_eq])]
 rw [h2]
 simp only [Option.bind_some,jn_eq,z08]
 generalize hD:l.drop (atK key l)=D at *
 have hG:D=grpK key l++D.drop (grpK key l).length:=by
  have h3:l.take (atK key l)++D=l.take (atK key l)++(grpK key l++D.drop (grpK key l).length):=by rw [← h1,← hD,List.take_append_drop]
  exact List.append_cancel_left h3
 have hle:(grpK key l).length≤D.length:=by
  have:=congrArg List.length hG
  simp only [List.length_append] at this
  omega
 have hDl:D.length≤l.length:=by rw [← hD]; simp
 have hres:∀ n:Int,n=((grpK key l).length:Int)→(need ((0:Int)≤0∧(0:Int)≤n∧n≤n∧n≤(D.length:Int)) <| (z56 (Av.sub D 0 n)).bind fun r7=>some r7)=some (grpK key l):=fun n e=>by
  rw [e,z06 (by omega)]
  have e2:Av.sub D 0 ((grpK key l).length:Int)=grpK key l:=by
   unfold Av.sub
   simp only [Int.toNat_zero,Nat.sub_zero,List.drop_zero,Int.toNat_natCast]
   conv=>lhs; rw [hG]
   exact List.take_left
  rw [e2,zmq (l:=grpK key l) (fun u hu=>hE.ok u (List.mem_filter.1 hu).1) (by omega)]
  rfl
 by_cases h:(grpK key l).length < D.length
 ·rw [if_pos h,if_neg (by omega)]
  exact hres _ rfl
 ·rw [if_neg h,if_pos (by omega)]
  exact hres _ (by omega)
end Go.Av
namespace Go.Av
open Go
set_option linter.unusedVariables false
set_option linter.unusedSimpArgs false
theorem zl9 {fuel:Nat} {b:Batch} {key:List Value} (hf:20000000≤fuel) (hn:b.updates.length≤4000000) (hc:z3k fuel b=some 0) (hE:EvenP b.updates):z6z fuel b key=some (grpK key b.updates,0):=by
 unfold z6z
 rw [hc]
 simp only [Option.bind_some,decide_true,Bool.not_true,z0y]
 rw [zml hf hn hE]
 rfl
theorem zmj {fuel:Nat} {b:Batch} {key:List Value} (hf:20000000≤fuel) (hn:b.updates.length≤4000000) (hc:z3k fuel b=some 0) (hE:EvenP b.updates):z7p fuel b key=some (((atK key b.updates:Nat):Int),0):=by
 unfold z7p
 rw [hc]
 simp only [Option.bind_some,decide_true,Bool.not_true,z0y]
 rw [zi8 hf hn hE]
 rfl
abbrev upTo (l:List Update) (key:List Value):Nat:=(l.filter fun u=>decide (kc key u≤0)).length
end Go.Av
namespace Go.Av
open Go
set_option linter.unusedVariables false
set_option linter.unusedSimpArgs false
theorem zju {fuel:Nat} {b:Batch} {key:List Value} (hf:20000000≤fuel) (hn:b.updates.length≤4000000) (hc:z2c fuel b=some 0) (hk:∀ u ∈ b.updates,z9g u):z47 fuel b key=some (((atK key b.updates:Nat):Int),0):=by
 unfold z47
 rw [hc]
 simp only [Option.bind_some,decide_true,Bool.not_true,z0y,jn_eq,z08]
 have hat:=zhs key b.updates
 have h:=zih (R:=Empty) (fuel:=fuel) (n:=atK key b.updates) (z:=((atK key b.updates:Nat):Int)) (fun i:Nat=>(i:Int)) (B:=fun (a2:Int)=>if a2 < (b.updates.length:Int) then (need ((0:Int)≤a2∧a2 < (b.updates.length:Int)) <| (z2i fuel ((b.updates.getD a2.toNat default).key) key).bind fun r7=>if r7 < 0 then some (.next (IntKind.i64.wrap (a2 + 1))) else some (.brk a2)) else some (.brk a2))
  (by omega) (fun i hi => ?_) ?_
 ·rw [show ((0:Nat):Int)=(0:Int) from rfl] at h
  rw [h]
  rfl
 ·have:=of_decide_eq_true (zc1 (p:=fun u=>decide (kc key u < 0)) hi)
  have hm:=hk _ (z5h (show i < b.updates.length by omega))
  rw [if_pos (by omega),z06 (by omega),Int.toNat_natCast,z8m _ _ (by have:=hm.1; omega) (by have:=hm.1; unfold maxN; omega)]
  simp only [Option.bind_some]
  rw [if_pos this,wadd1 (by omega)]
 ·by_cases h:atK key b.updates < b.updates.length
  ·have this:¬ cmpL cmpV (b.updates.getD (atK key b.updates) default).key key < 0:=of_decide_eq_false (z9z (p:=fun u=>decide (kc key u < 0)) h)
   have hm:=hk _ (z5h h)
   rw [if_pos (by omega),z06 (by omega),Int.toNat_natCast,z8m _ _ (by have:=hm.1; omega) (by have:=hm.1; unfold maxN; omega)]
   simp only [Option.bind_some]
   rw [if_neg this]
  ·rw [if_neg (by omega)]
theorem zj1 {fuel:Nat} {b:Batch} {key:List Value} (hf:20000000≤fuel) (hn:b.updates.length≤4000000) (hc:z2c fuel b=some 0) (hE:EvenP b.updates):z3p fuel b key=some (grpK key b.updates,0):=by
 unfold z3p
 rw [hc]
 simp only [Option.bind_some,decide_true,Bool.not_true,z0y,jn_eq]
 refine zi7 (fun i a=>a=grpK key (b.updates.take i)) rfl ?_ ?_
 ·intro i a hi ha
  refine ⟨_,?_,rfl⟩
  have hm:=zgc (hE.ok _ (z5h hi))
  rw [z8m _ _ (by omega) (by unfold maxN; omega)]
  have hl:a.length≤i:=by rw [ha]; exact Nat.le_trans (List.length_filter_le _ _) (by simp; omega)
  have e:grpK key (b.updates.take (i + 1))=grpK key (b.updates.take i)++(if kc key (b.updates.getD i default)=0 then [b.updates.getD i default] else []):=by
   unfold grpK
   rw [z4f hi,List.filter_append,List.filter_cons,List.filter_nil]
   simp only [decide_eq_true_eq]
  rw [e,← ha]
  simp only [Option.bind_some,z08]
  split
  ·rw [z06 (by simp; omega)]
  ·rw [List.append_nil]
 ·intro a ha
  rw [List.take_length] at ha
  rw [ha,zib (l:=grpK key b.updates) (fun u hu=>hE.ok u (List.mem_filter.1 hu).1) (Nat.le_trans (List.length_filter_le _ _) hn)]
  rfl
theorem zg8 {fuel:Nat} {b:Batch} {key:List Value} (hL:z4q fuel=some true) (hf:20000000≤fuel) (hF:NN b.since) (hl:b.since.length≤2000000) (hn:b.updates.length≤2000000) (ht:∀ r ∈ b.updates,z3q r.time) (hk:∀ u ∈ b.updates,z9g u) :
  z3i fuel b key=some true:=by
 unfold z3i
 rcases zl8 (fuel:=fuel) hf hF hl (by omega) ht with ⟨hc,hP⟩ | ⟨hc,hP⟩
 ·rcases zek (fuel:=fuel) hf hF hl (by omega) ht hk with ⟨hc',_⟩ | ⟨_,h⟩
  ·rw [zmj hf (by omega) hc hP.2.1]
   simp only [Option.bind_some]
   rw [zju hf (by omega) hc' hk]
   simp only [Option.bind_some]
   rw [zl9 hf (by omega) hc hP.2.1]
   simp only [Option.bind_some]
   rw [zj1 hf (by omega) hc' hP.2.1]
   simp only [Option.bind_some,jn_eq]
   rw [hL]
   simp only [Option.bind_some,z6o,decide_true,zmt]
  ·exact absurd hP h
 ·rcases zek (fuel:=fuel) hf hF hl (by omega) ht hk with ⟨_,h⟩ | ⟨hc',_⟩
  ·exact absurd h hP
  ·unfold z7p z47 z6z z3p
   rw [hc,hc']
   simp only [Option.bind_some,show decide ((4:Int)=0)=false from rfl,Bool.not_false,z6o,jn_eq]
   rw [hL]
   rfl
end Go.Av
namespace Go.Av
open Go
set_option linter.unusedVariables false
theorem zgi {α:Type} {f : α → Nat}:∀ {l:List α} {x : α},x ∈ l→f x≤(l.map f).sum
 | y :: l,x,h=>by
  simp only [List.map_cons,List.sum_cons]
  rcases List.mem_cons.1 h with rfl | h
  ·omega
  ·have:=zgi (f:=f) h; omega
theorem zku (l:List Value):l.length≤(l.map z5i).sum:=z6v (f:=z5i) (fun x=>by unfold z5i; omega) l
theorem zld {u:Update} (h:z42 u≤1048576):z9g u:=by
 unfold z42 at h
 have:=zku u.key
 have:=zku u.row
 simp only at h
 exact ⟨by omega,by omega⟩
theorem zjy {b:Batch}:(b.since.map z7b).sum + (b.updates.map z42).sum≤zb1 b:=by
 unfold zb1
 simp only
 omega
theorem zlm {l:List Update} (h:(l.map z42).sum≤1048576):∀ u ∈ l,z9g u:=fun u hu=>zld (by have:=zgi (f:=z42) hu; omega)
theorem zh6 {b:Batch} {k:List Value} (h:zja b) (hb:zb1 b + (((k.map z5i).sum + 1) + 0)≤1048576):z3i 100000000 b k=some true:=by
 have:=@zjy b
 have:=zms b.updates
 have:=zmy b.since
 exact zg8 zl3 (by omega) (ts_nn h.1) (by omega) (by omega) (us_nn h.2.1) (zlm (by omega))
end Go.Av
