import Derived.Test.YtfgbkaigjhhlfaaD9x2
import Derived.Test.YtfgbkaigjhhlfaaProg
import Derived.Sort.LotD3
import Derived.Sort.LotD4
import Derived.Sort.LotA
import Derived.Sort.LotB
import Derived.Sort.LotC
import Derived.Sort.AssemblyPlain
import Derived.KernelRfl
set_option maxRecDepth 100000
set_option linter.unusedVariables false
set_option linter.unusedSimpArgs false
set_option linter.unusedSectionVars false
open Go.IntKind renaming i64→zzi, u64→zzu
open Inhabited renaming default→zzd
open Option renaming bind_some→zz4
open List renaming mem_cons_self→zz5, mem_cons_of_mem→zz6
open Nat renaming le_of_ble_eq_true→zz7, zero_add→zza, le_refl→zzb
open Int renaming toNat_natCast→zz8
namespace Go.Av
open Go Go.Proofs
theorem z66 {p0:ByteArray}{q:Bool}(h:z4y p0=some q):
 Summ Try.prog 52 [cD (.str p0)] [] (cD (.bool q)) []:=by
 refine Summ.i Try.func52 rfl [] fun w0 G0 V LL φ0=>?_;unfold z4y at h;refine Tri.sg [0] [] (z00 1) ?_;refine z11 (fun(a1:Bool)=>⟨[(2,cD (.bool a1))],[]⟩) h (fun a1 h=>?_) (fun j2 h=>?_)
 ·refine Tri.ret ?_;cases h;exact RetAt.k
 ·refine z05 ?_;refine At.sg 3 [0,5] [] (z00 3) ?_;refine At.cs [5] h (fun h=>?_) (fun h=>?_)
  ·refine At.sg 5 [2] [] (z00 2) ?_;refine At.done rfl ?_;exact⟨_,h,kr⟩
  ·refine At.sg 5 [2] [] (z00 5) ?_;refine At.done rfl ?_;exact⟨_,h,kr⟩
theorem z2m {p0:List ByteArray}{q:Int}(h:z0g p0=some q):
 Summ Try.prog 59 [.c (wC 1 z0v p0),cD (.fn 52 [])] [] (cD (dI q)) []:=by
 refine Summ.i Try.func59 rfl [] fun w0 G0 V LL φ0=>?_;unfold z0g at h;refine Tri.sg [0,1] [] (z00 1) ?_;refine z03 ?_;refine Tri.sg [0,1,7,8] [] (z00 3) ?_;refine Tri.ln 0 p0.length fun hlena2=>?_;refine z3n 8 () (fun(x:Int) s=>RetAt Try.prog Try.f59 (cD (dI x)) [] s) (fun(a2:Unit)=>⟨[(0,.c (wC 1 z0v p0)),(1,cD (.fn 52 [])),(7,cD (dI (p0.length:Int)))],[]⟩) [8,0,1,7] [] [9,8,0,1,7] [] [0,1,7] [] [8,0,1,7] [] h hlena2 ?_ ?_ ?_
 ·intro i1 a2 c hii1 h;refine Tri.sg [0,1,5,7,8] [] (z00 2) ?_;refine z03 ?_;refine z05 ?_;refine At.sg 5 [0,1,5,7,8,11,15] [] (tN 3 (ai (show((0:Int)≤((i1:Nat):Int)∧((i1:Nat):Int)<(p0.length:Int))from⟨by omega,by omega⟩) (z00 1))) ?_;obtain⟨r4,hr4,h⟩:=z04 h;refine At.cA [] [cD (.str (p0.getD i1 zzd))] (z66 hr4) (.cons (.refl _) .nil) ?_;refine At.done rfl ?_;refine z07 h (fun h=>?_) (fun h=>?_)
  ·refine Tri.sg [4] [] (z00 2) ?_;refine Tri.ret ?_;cases h;exact RetAt.k
  ·refine Tri.kp [8,0,1,7] [] ?_;refine Tri.skip ?_;cases h;exact kr
 ·intro a3 h;refine Tri.sg [4] [] (z00 1) ?_;refine Tri.ret ?_;cases h;exact RetAt.k
 ·exact fun x s hx hr=>by cases hx;exact hr
theorem z2e {p0:List ByteArray}{q:Bool}(h:z0c p0=some q):
 Summ Try.prog 51 [.c (wC 1 z0v p0),cD (.fn 52 [])] [] (cD (.bool q)) []:=by
 refine Summ.i Try.func51 rfl [] fun w0 G0 V LL φ0=>?_;unfold z0c at h;refine Tri.sg [0,1] [] (z00 1) ?_;refine z03 ?_;refine z05 ?_;refine At.sg 2 [5,6] [] (z00 2) ?_;obtain⟨r1,hr1,h⟩:=z04 h;refine At.cA [] [.c (wC 1 z0v p0),cD (.fn 52 [])] (z2m hr1) (.cons (.refl _) (.cons (.refl _) .nil)) ?_;refine At.sg 2 [4] [] (z00 2) ?_;refine At.done rfl ?_;refine Tri.ret ?_;cases h;exact RetAt.k
theorem z4p {p0:List ByteArray}{q:Bool}(h:z29 p0=some q):
 Summ Try.prog 34 [.c (wC 1 z0v p0)] [] (cD (.bool q)) []:=by
 refine Summ.i Try.func34 rfl [] fun w0 G0 V LL φ0=>?_;unfold z29 at h;refine Tri.sg [0] [] (z00 1) ?_;refine z03 ?_;refine z05 ?_;refine At.sg 1 [3] [] (z00 1) ?_;obtain⟨r1,hr1,h⟩:=z04 h;refine At.cA [] [.c (wC 1 z0v p0),cD (.fn 52 [])] (z2e hr1) (.cons (.refl _) (.cons (.refl _) .nil)) ?_;refine At.sg 2 [2] [] (z00 2) ?_;refine At.done rfl ?_;refine Tri.ret ?_;cases h;exact RetAt.k
theorem z2u {p0:List ByteArray}{q:Int}(h:z0g p0=some q):
 Summ Try.prog 59 [cD (lD 1 z0v p0),cD (.fn 52 [])] [] (cD (dI q)) []:=by
 refine Summ.i Try.func59 rfl [] fun w0 G0 V LL φ0=>?_;unfold z0g at h;refine Tri.sg [0,1] [] (z00 1) ?_;refine z03 ?_;refine Tri.sg [0,1,7,8] [] (z00 3) ?_;refine Tri.ln 0 p0.length fun hlena2=>?_;refine z3n 8 () (fun(x:Int) s=>RetAt Try.prog Try.f59 (cD (dI x)) [] s) (fun(a2:Unit)=>⟨[(0,cD (lD 1 z0v p0)),(1,cD (.fn 52 [])),(7,cD (dI (p0.length:Int)))],[]⟩) [8,0,1,7] [] [9,8,0,1,7] [] [0,1,7] [] [8,0,1,7] [] h hlena2 ?_ ?_ ?_
 ·intro i1 a2 c hii1 h;refine Tri.sg [0,1,5,7,8] [] (z00 2) ?_;refine z03 ?_;refine z05 ?_;refine At.sg 5 [0,1,5,7,8,11,15] [] (tN 3 (ai (show((0:Int)≤((i1:Nat):Int)∧((i1:Nat):Int)<(p0.length:Int))from⟨by omega,by omega⟩) (z00 1))) ?_;obtain⟨r4,hr4,h⟩:=z04 h;refine At.cA [] [cD (.str (p0.getD i1 zzd))] (z66 hr4) (.cons (.refl _) .nil) ?_;refine At.done rfl ?_;refine z07 h (fun h=>?_) (fun h=>?_)
  ·refine Tri.sg [4] [] (z00 2) ?_;refine Tri.ret ?_;cases h;exact RetAt.k
  ·refine Tri.kp [8,0,1,7] [] ?_;refine Tri.skip ?_;cases h;exact kr
 ·intro a3 h;refine Tri.sg [4] [] (z00 1) ?_;refine Tri.ret ?_;cases h;exact RetAt.k
 ·exact fun x s hx hr=>by cases hx;exact hr
theorem z2l {p0:List ByteArray}{q:Bool}(h:z0c p0=some q):
 Summ Try.prog 51 [cD (lD 1 z0v p0),cD (.fn 52 [])] [] (cD (.bool q)) []:=by
 refine Summ.i Try.func51 rfl [] fun w0 G0 V LL φ0=>?_;unfold z0c at h;refine Tri.sg [0,1] [] (z00 1) ?_;refine z03 ?_;refine z05 ?_;refine At.sg 2 [5,6] [] (z00 2) ?_;obtain⟨r1,hr1,h⟩:=z04 h;refine At.cA [] [cD (lD 1 z0v p0),cD (.fn 52 [])] (z2u hr1) (.cons (.refl _) (.cons (.refl _) .nil)) ?_;refine At.sg 2 [4] [] (z00 2) ?_;refine At.done rfl ?_;refine Tri.ret ?_;cases h;exact RetAt.k
theorem z5i {p0:List ByteArray}{q:Bool}(h:z29 p0=some q):
 Summ Try.prog 34 [cD (lD 1 z0v p0)] [] (cD (.bool q)) []:=by
 refine Summ.i Try.func34 rfl [] fun w0 G0 V LL φ0=>?_;unfold z29 at h;refine Tri.sg [0] [] (z00 1) ?_;refine z03 ?_;refine z05 ?_;refine At.sg 1 [3] [] (z00 1) ?_;obtain⟨r1,hr1,h⟩:=z04 h;refine At.cA [] [cD (lD 1 z0v p0),cD (.fn 52 [])] (z2l hr1) (.cons (.refl _) (.cons (.refl _) .nil)) ?_;refine At.sg 2 [2] [] (z00 2) ?_;refine At.done rfl ?_;refine Tri.ret ?_;cases h;exact RetAt.k
theorem z7l {p0:Write}{q:Bool}(h:z40 p0=some q):
 Summ Try.prog 37 [.agg (cWrite p0)] [] (cD (.bool q)) []:=by
 refine Summ.i Try.func37 rfl [] fun w0 G0 V LL φ0=>?_;unfold z40 at h;refine Tri.sg [1] [1] (z00 2) ?_;refine z03 ?_;refine Tri.sg [1,4] [1] (z00 2) ?_;refine z3z ?_;refine Tri.sg [1,4,5] [1] (z00 2) ?_;refine z07 h (fun h=>?_) (fun h=>?_)
 ·refine z11 (fun(a1:Bool)=>⟨[(2,cD (.bool a1))],[]⟩) h (fun a1 h=>?_) (fun j2 h=>?_)
  ·refine Tri.ret ?_;cases h;exact RetAt.k
  ·refine z05 ?_;refine At.seg 2 [1,8] [1] (s':=⟨[(1,.c (.ptr 1 0)),(8,cD (.str p0.name))],[(1,.box (cWrite p0))]⟩) (by kernel_rfl) (z00 2) ?_;refine At.one rfl (One.buildSlice (z:=[.d (.str (bs []))]) (cells:=[.d (.str p0.name)]) (xs:=List.map (z0v) ([p0.name]:List ByteArray)) rfl rfl rfl rfl (by kernel_rfl) rfl rfl (by kernel_rfl) rfl rfl rfl (by kernel_rfl) rfl ⟨⟨rfl,.refl _⟩,trivial⟩) ?_;refine At.l [9] ⟨[(9,cD (lD 1 z0v ([p0.name]:List ByteArray))),(1,.c (.ptr 1 0)),(8,cD (.str p0.name))],[(1,.box (cWrite p0))]⟩ ⟨⟨_,rfl,.c (.own rfl (List.mem_singleton.2 rfl) (zz7 rfl) rfl (z30 (z0v) ([p0.name]:List ByteArray)))⟩,⟨_,rfl,.refl _⟩,⟨_,rfl,.refl _⟩,trivial⟩ ⟨⟨_,rfl,.refl _,(by simp)⟩,trivial⟩ ?_;obtain⟨r3,hr3,h⟩:=z04 h;refine At.cA [] [cD (lD 1 z0v ([p0.name]:List ByteArray))] (z5i hr3) (.cons (.refl _) .nil) ?_;refine At.sg 1 [1,11] [1] (z00 1) ?_;refine At.cs [11] h (fun h=>?_) (fun h=>?_)
   ·refine At.sg 5 [2] [] (z00 5) ?_;refine At.done rfl ?_;exact⟨_,h,kr⟩
   ·refine At.sg 5 [2] [] (z00 2) ?_;refine At.done rfl ?_;exact⟨_,h,kr⟩
 ·refine Tri.sg [1,4,16] [1] (z00 2) ?_;refine z07 h (fun h=>?_) (fun h=>?_)
  ·refine z11 (fun(a4:Bool)=>⟨[(2,cD (.bool a4))],[]⟩) h (fun a4 h=>?_) (fun j5 h=>?_)
   ·refine Tri.ret ?_;cases h;exact RetAt.k
   ·refine z05 ?_;refine At.seg 4 [1,19,21] [1] (s':=⟨[(1,.c (.ptr 1 0)),(19,cD (.str p0.name)),(21,cD (.str p0.to_))],[(1,.box (cWrite p0))]⟩) (by kernel_rfl) (z00 4) ?_;refine At.one rfl (One.buildSlice (z:=[.d (.str (bs []))]) (cells:=[.d (.str p0.name),.d (.str p0.to_)]) (xs:=List.map (z0v) ([p0.name,p0.to_]:List ByteArray)) rfl rfl rfl rfl (by kernel_rfl) rfl rfl (by kernel_rfl) rfl rfl rfl (by kernel_rfl) rfl ⟨⟨rfl,.refl _⟩,⟨rfl,.refl _⟩,trivial⟩) ?_;refine At.l [22] ⟨[(22,cD (lD 1 z0v ([p0.name,p0.to_]:List ByteArray))),(1,.c (.ptr 1 0)),(19,cD (.str p0.name)),(21,cD (.str p0.to_))],[(1,.box (cWrite p0))]⟩ ⟨⟨_,rfl,.c (.own rfl (List.mem_singleton.2 rfl) (zz7 rfl) rfl (z30 (z0v) ([p0.name,p0.to_]:List ByteArray)))⟩,⟨_,rfl,.refl _⟩,⟨_,rfl,.refl _⟩,⟨_,rfl,.refl _⟩,trivial⟩ ⟨⟨_,rfl,.refl _,(by simp)⟩,trivial⟩ ?_;obtain⟨r6,hr6,h⟩:=z04 h;refine At.cA [] [cD (lD 1 z0v ([p0.name,p0.to_]:List ByteArray))] (z5i hr6) (.cons (.refl _) .nil) ?_;refine At.sg 1 [1,24] [1] (z00 1) ?_;refine At.cs [24] h (fun h=>?_) (fun h=>?_)
    ·refine At.sg 5 [2] [] (z00 5) ?_;refine At.done rfl ?_;exact⟨_,h,kr⟩
    ·refine At.sg 5 [2] [] (z00 2) ?_;refine At.done rfl ?_;exact⟨_,h,kr⟩
  ·refine Tri.sg [1,29] [1] (z00 2) ?_;refine z07 h (fun h=>?_) (fun h=>?_)
   ·refine z11 (fun(a7:Bool)=>⟨[(2,cD (.bool a7))],[]⟩) h (fun a7 h=>?_) (fun j8 h=>?_)
    ·refine Tri.ret ?_;cases h;exact RetAt.k
    ·refine z05 ?_;refine At.seg 2 [1,32] [1] (s':=⟨[(1,.c (.ptr 1 0)),(32,cD (.str p0.name))],[(1,.box (cWrite p0))]⟩) (by kernel_rfl) (z00 2) ?_;refine At.one rfl (One.buildSlice (z:=[.d (.str (bs []))]) (cells:=[.d (.str p0.name)]) (xs:=List.map (z0v) ([p0.name]:List ByteArray)) rfl rfl rfl rfl (by kernel_rfl) rfl rfl (by kernel_rfl) rfl rfl rfl (by kernel_rfl) rfl ⟨⟨rfl,.refl _⟩,trivial⟩) ?_;refine At.l [33] ⟨[(33,cD (lD 1 z0v ([p0.name]:List ByteArray))),(1,.c (.ptr 1 0)),(32,cD (.str p0.name))],[(1,.box (cWrite p0))]⟩ ⟨⟨_,rfl,.c (.own rfl (List.mem_singleton.2 rfl) (zz7 rfl) rfl (z30 (z0v) ([p0.name]:List ByteArray)))⟩,⟨_,rfl,.refl _⟩,⟨_,rfl,.refl _⟩,trivial⟩ ⟨⟨_,rfl,.refl _,(by simp)⟩,trivial⟩ ?_;obtain⟨r9,hr9,h⟩:=z04 h;refine At.cA [] [cD (lD 1 z0v ([p0.name]:List ByteArray))] (z5i hr9) (.cons (.refl _) .nil) ?_;refine At.sg 1 [1,35] [1] (z00 1) ?_;refine At.cs [35] h (fun h=>?_) (fun h=>?_)
     ·obtain⟨hc10,h⟩:=z0k h;refine At.sg 8 [2] [] (tN 4 (ai hc10 (z00 3))) ?_;refine At.done rfl ?_;exact⟨_,h,kr⟩
     ·refine At.sg 8 [2] [] (z00 2) ?_;refine At.done rfl ?_;exact⟨_,h,kr⟩
   ·refine Tri.skip ?_;refine Tri.sg [2] [] (z00 1) ?_;refine Tri.ret ?_;cases h;exact RetAt.k
theorem z9n {p0:Write}{q:Bool}(h:z4x p0=some q):
 Summ Try.prog 36 [.agg (cWrite p0)] [] (cD (.bool q)) []:=by
 refine Summ.i Try.func36 rfl [] fun w0 G0 V LL φ0=>?_;unfold z4x at h;refine Tri.sg [1] [1] (z00 2) ?_;refine z03 ?_;refine z05 ?_;refine At.sg 1 [3] [] (z00 1) ?_;obtain⟨r1,hr1,h⟩:=z04 h;refine At.cA [] [.agg (cWrite p0)] (z7l hr1) (.cons (.refl _) .nil) ?_;refine At.sg 2 [2] [] (z00 2) ?_;refine At.done rfl ?_;refine Tri.ret ?_;cases h;exact RetAt.k
theorem z1m {p0:List Write}{q:Int}(h:z0f p0=some q):
 Summ Try.prog 53 [cD (lD 4 z02 p0),cD (.fn 36 [])] [] (cD (dI q)) []:=by
 refine Summ.i Try.func53 rfl [] fun w0 G0 V LL φ0=>?_;unfold z0f at h;refine Tri.sg [0,1] [] (z00 1) ?_;refine z03 ?_;refine Tri.sg [0,1,7,8] [] (z00 3) ?_;refine Tri.ln 0 p0.length fun hlena2=>?_;refine z3n 8 () (fun(x:Int) s=>RetAt Try.prog Try.f53 (cD (dI x)) [] s) (fun(a2:Unit)=>⟨[(0,cD (lD 4 z02 p0)),(1,cD (.fn 36 [])),(7,cD (dI (p0.length:Int)))],[]⟩) [8,0,1,7] [] [9,8,0,1,7] [] [0,1,7] [] [8,0,1,7] [] h hlena2 ?_ ?_ ?_
 ·intro i1 a2 c hii1 h;refine Tri.sg [0,1,5,7,8] [] (z00 2) ?_;refine z03 ?_;refine z05 ?_;refine At.sg 5 [0,1,5,7,8,11,15] [] (tN 3 (ai (show((0:Int)≤((i1:Nat):Int)∧((i1:Nat):Int)<(p0.length:Int))from⟨by omega,by omega⟩) (z00 1))) ?_;obtain⟨r4,hr4,h⟩:=z04 h;refine At.cA [] [.agg (cWrite (p0.getD i1 zzd))] (z9n hr4) (.cons (.refl _) .nil) ?_;refine At.done rfl ?_;refine z07 h (fun h=>?_) (fun h=>?_)
  ·refine Tri.sg [4] [] (z00 2) ?_;refine Tri.ret ?_;cases h;exact RetAt.k
  ·refine Tri.kp [8,0,1,7] [] ?_;refine Tri.skip ?_;cases h;exact kr
 ·intro a3 h;refine Tri.sg [4] [] (z00 1) ?_;refine Tri.ret ?_;cases h;exact RetAt.k
 ·exact fun x s hx hr=>by cases hx;exact hr
theorem z1g {p0:List Write}{q:Bool}(h:z0a p0=some q):
 Summ Try.prog 35 [cD (lD 4 z02 p0),cD (.fn 36 [])] [] (cD (.bool q)) []:=by
 refine Summ.i Try.func35 rfl [] fun w0 G0 V LL φ0=>?_;unfold z0a at h;refine Tri.sg [0,1] [] (z00 1) ?_;refine z03 ?_;refine z05 ?_;refine At.sg 2 [5,6] [] (z00 2) ?_;obtain⟨r1,hr1,h⟩:=z04 h;refine At.cA [] [cD (lD 4 z02 p0),cD (.fn 36 [])] (z1m hr1) (.cons (.refl _) (.cons (.refl _) .nil)) ?_;refine At.sg 2 [4] [] (z00 2) ?_;refine At.done rfl ?_;refine Tri.ret ?_;cases h;exact RetAt.k
theorem z53 {p0:ByteArray}{q:Bool}(h:z2k p0=some q):
 Summ Try.prog 58 [cD (.str p0)] [] (cD (.bool q)) []:=by
 refine Summ.i Try.func58 rfl [] fun w0 G0 V LL φ0=>?_;unfold z2k at h;refine Tri.sg [0] [] (z00 1) ?_;refine Tri.sg [2] [] (z00 4) ?_;refine Tri.ret ?_;cases h;exact RetAt.k
theorem z6o {p0:ByteArray}{p1:ByteArray}{q:Int}(h:z2q p0 p1=some q):
 Summ Try.prog 50 [cD (.str p0),cD (.str p1)] [] (cD (dI q)) []:=by
 refine Summ.i Try.func50 rfl [] fun w0 G0 V LL φ0=>?_;unfold z2q at h;refine Tri.sg [0,1] [] (z00 1) ?_;refine z03 ?_;refine z05 ?_;refine At.sg 1 [0,1,7] [] (z00 1) ?_;obtain⟨r1,hr1,h⟩:=z04 h;refine At.cA [] [cD (.str p0)] (z53 hr1) (.cons (.refl _) .nil) ?_;refine At.sg 1 [0,1,5] [] (z00 1) ?_;refine At.done rfl ?_;refine z03 ?_;refine z05 ?_;refine At.sg 1 [0,1,5,9] [] (z00 1) ?_;obtain⟨r2,hr2,h⟩:=z04 h;refine At.cA [] [cD (.str p1)] (z53 hr2) (.cons (.refl _) .nil) ?_;refine At.sg 1 [0,1,5,6] [] (z00 1) ?_;refine At.done rfl ?_;refine z03 ?_;refine Tri.sg [0,1,6,11] [] (z00 1) ?_;refine z07 h (fun h=>?_) (fun h=>?_)
 ·refine z03 ?_;refine Tri.sg [12] [] (z00 1) ?_;refine z07 h (fun h=>?_) (fun h=>?_)
  ·refine Tri.sg [4] [] (z00 1) ?_;refine Tri.ret ?_;cases h;exact RetAt.k
  ·refine Tri.skip ?_;refine Tri.sg [4] [] (z00 1) ?_;refine Tri.ret ?_;cases h;exact RetAt.k
 ·refine Tri.skip ?_;refine z03 ?_;refine Tri.sg [0,1,13] [] (z00 1) ?_;refine z07 h (fun h=>?_) (fun h=>?_)
  ·refine Tri.sg [4] [] (z00 1) ?_;refine Tri.ret ?_;cases h;exact RetAt.k
  ·refine Tri.skip ?_;refine z03 ?_;refine Tri.sg [0,1,16] [] (z00 3) ?_;refine z07 h (fun h=>?_) (fun h=>?_)
   ·refine Tri.sg [4] [] (z00 1) ?_;refine Tri.ret ?_;cases h;exact RetAt.k
   ·refine Tri.skip ?_;refine z03 ?_;refine Tri.sg [19] [] (z00 3) ?_;refine z07 h (fun h=>?_) (fun h=>?_)
    ·refine Tri.sg [4] [] (z00 1) ?_;refine Tri.ret ?_;cases h;exact RetAt.k
    ·refine Tri.skip ?_;refine Tri.sg [4] [] (z00 1) ?_;refine Tri.ret ?_;cases h;exact RetAt.k
theorem z1o {p0:File}{p1:ByteArray}{q:Int}(h:z13 p0 p1=some q):
 Summ Try.prog 49 [.agg (cFile p0),cD (.str p1)] [] (cD (dI q)) []:=by
 refine Summ.i Try.func49 rfl [] fun w0 G0 V LL φ0=>?_;unfold z13 at h;refine Tri.sg [1,2] [2] (z00 2) ?_;refine z03 ?_;refine z05 ?_;refine At.sg 3 [6,7] [] (z00 3) ?_;obtain⟨r1,hr1,h⟩:=z04 h;refine At.cA [] [cD (.str p0.name),cD (.str p1)] (z6o hr1) (.cons (.refl _) (.cons (.refl _) .nil)) ?_;refine At.sg 1 [4] [] (z00 1) ?_;refine At.done rfl ?_;refine Tri.ret ?_;cases h;exact RetAt.k
theorem z1w {fuel:Nat}{p0:List File}{p1:ByteArray}{q:Int×Bool}(h:z0b fuel p0 p1=some q):
 Summ Try.prog 48 [.c (wC 2 z01 p0),cD (.str p1),cD (.fn 49 [])] [] (.tup [(false,[.d (dI q.1)]),(false,[.d (.bool q.2)])]) []:=by
 refine Summ.i Try.func48 rfl [] fun w0 G0 V LL φ0=>?_;unfold z0b at h;refine Tri.sg [0,1,2] [] (z00 2) ?_;refine Tri.sg [0,1,2,8] [] (z00 3) ?_;refine Tri.sg [0,1,2,8,9,10] [] (z00 3) ?_;refine z03 ?_;refine zbd (0,(p0.length:Int)) (fun(x:Empty) s=>False) (fun(a1:Int×Int)=>⟨[(0,.c (wC 2 z01 p0)),(1,cD (.str p1)),(2,cD (.fn 49 [])),(8,cD (dI (p0.length:Int))),(9,cD (dI a1.1)),(10,cD (dI a1.2))],[]⟩) [0,1,2,8,9,10] [] h ?_ ?_ ?_
 ·intro a1 c h;refine z03 ?_;refine Tri.sg [0,1,2,8,9,10,17] [] (z00 3) ?_;refine z07 h (fun h=>?_) (fun h=>?_)
  ·refine Tri.skip ?_;refine z3z ?_;refine Tri.sg [0,1,2,8,9,10,11] [] (tN 4 (ai (show((0:Int)≤1)from(by decide:(0:Int)≤1)) (z00 2))) ?_;refine z03 ?_;refine z05 ?_;obtain⟨hc7,h⟩:=z0k h;refine At.sg 6 [0,1,2,8,9,10,11,24,28,29] [] (tN 3 (ai hc7 (z00 2))) ?_;obtain⟨r8,hr8,h⟩:=z04 h;refine At.cA [] [.agg (cFile (p0.getD ((zzi.wrap (shrOp .u64 (zzu.wrap (zzi.wrap (a1.1+a1.2))) 1)).toNat) zzd)),cD (.str p1)] (z1o hr8) (.cons (.refl _) (.cons (.refl _) .nil)) ?_;refine At.sg 1 [0,1,2,8,9,10,11,31] [] (z00 1) ?_;refine At.done rfl ?_;refine z07 h (fun h=>?_) (fun h=>?_)
   ·refine z05 ?_;refine At.sg 3 [0,1,2,8,9,10] [] (z00 3) ?_;refine At.done rfl ?_;cases h;exact kr
   ·refine z05 ?_;refine At.sg 2 [0,1,2,8,9,10] [] (z00 2) ?_;refine At.done rfl ?_;cases h;exact kr
  ·refine Tri.kp [0,1,2,8,9,10] [] ?_;refine Tri.exit ?_;cases h;exact⟨rfl,kr⟩
 ·intro a2 h;refine z11 (fun(a3:Bool)=>⟨[(6,cD (dI a2.1)),(7,cD (.bool a3))],[]⟩) h (fun a3 h=>?_) (fun j4 h=>?_)
  ·refine Tri.ret ?_;cases h;exact RetAt.k
  ·refine z05 ?_;refine At.sg 5 [0,1,2,9,35,39] [] (z00 5) ?_;refine At.cs [39] h (fun h=>?_) (fun h=>?_)
   ·obtain⟨hc5,h⟩:=z0k h;refine At.sg 6 [35,39,40,44,45] [] (tN 3 (ai hc5 (z00 2))) ?_;obtain⟨r6,hr6,h⟩:=z04 h;refine At.cA [] [.agg (cFile (p0.getD a2.1.toNat zzd)),cD (.str p1)] (z1o hr6) (.cons (.refl _) (.cons (.refl _) .nil)) ?_;refine At.sg 4 [6,7] [] (z00 4) ?_;refine At.done rfl ?_;exact⟨_,h,kr⟩
   ·refine At.sg 11 [6,7] [] (z00 3) ?_;refine At.done rfl ?_;exact⟨_,h,kr⟩
 ·exact fun x=>x.elim
theorem z14 {fuel:Nat}{p0:List File}{p1:ByteArray}{q:Int×Bool}(h:z0d fuel p0 p1=some q):
 Summ Try.prog 32 [.c (wC 2 z01 p0),cD (.str p1)] [] (.tup [(false,[.d (dI q.1)]),(false,[.d (.bool q.2)])]) []:=by
 refine Summ.i Try.func32 rfl [] fun w0 G0 V LL φ0=>?_;unfold z0d at h;refine Tri.sg [0,1] [] (z00 2) ?_;refine z03 ?_;refine z05 ?_;refine At.sg 2 [6,7] [] (z00 2) ?_;obtain⟨r1,hr1,h⟩:=z04 h;refine At.cA [] [.c (wC 2 z01 p0),cD (.str p1),cD (.fn 49 [])] (z1w hr1) (.cons (.refl _) (.cons (.refl _) (.cons (.refl _) .nil))) ?_;refine At.sg 4 [4,5] [] (z00 4) ?_;refine At.done rfl ?_;refine Tri.ret ?_;cases h;exact RetAt.k
theorem z41 {i j:Int}{l0 q:List File}(h:z1b i j l0=some q):
 Summ Try.prog 60 [.c (oC 5000 2 l0),cD (dI i),cD (dI j)] [(5000,vL 2 z01 l0)] (.c (oC 6000 2 q)) [(6000,vL 2 z01 q)]:=by
 refine Summ.i Try.func60 rfl [6000] fun w0 G0 V LL φ0=>?_;unfold z1b z97 at h;obtain⟨hc,h⟩:=z0k h;refine Tri.sg [0,1,2,6] [5000] (z00 1) ?_;refine z03 ?_;refine z05 ?_;refine At.sg 5 [0,1,2,8,9,10,12] [5000] (z00 5) ?_;refine At.one rfl (zcb (e:=51) (k:=5000) (n:=l0.length) (es:=2) (l:=i) (hh:=j) (m:=(l0.length:Int)) rfl rfl rfl rfl rfl rfl rfl (by kernel_rfl) ⟨hc.1,hc.2.1,hc.2.2,Int.le_refl _⟩) ?_;refine At.done rfl ?_;refine z03 ?_;refine Tri.sg [0,1,2,16] [5000] (z00 3) ?_;refine Tri.cond (b:=decide (i=j)) rfl (fun hb=>?_) (fun hb=>?_)
 ·refine Tri.sg [6] [5000] (z00 2) ?_;refine Tri.keep [6] [5000] (s':=⟨[(6,.c (oC 5000 2 l0))],[(5000,vL 2 z01 l0)]⟩) (by kernel_rfl) ?_;refine Tri.rename 5000 6000 ⟨[(6,.c (oC 6000 2 l0))],[(6000,vL 2 z01 l0)]⟩ (by kernel_rfl) rfl rfl rfl ?_;refine Tri.ret ?_;have e:i=j:=of_decide_eq_true hb
  subst e;rw[List.take_append_drop]at h;cases h;exact RetAt.k
 ·refine Tri.skip ?_;refine Tri.sg [0,1,2,7] [5000] (z00 3) ?_;have e:i≠j:=of_decide_eq_false hb
  have hn:0<l0.length:=by omega
  refine Tri.keep [0,1,2,7] [5000] (s':=⟨[(0,.c (oC 5000 2 l0)),(1,cD (dI i)),(2,cD (dI j)),(7,cD (dI (l0.length:Int)))],[(5000,vL 2 z01 l0)]⟩) (by kernel_rfl) ?_;refine Tri.loc (k:=5000) rfl rfl hn fun L hL hcap=>?_;refine Tri.toRaw (t:=0) (k:=5000) rfl rfl rfl hn hL ?_;refine Tri.keep [0,1,2,7] [5000] (s':=⟨[(0,.c (.raw (.slice (some ⟨L.blk,L.off,none⟩) l0.length L.cap))),(1,cD (dI i)),(2,cD (dI j)),(7,cD (dI (l0.length:Int)))],[(5000,vL 2 z01 l0)]⟩) (by kernel_rfl) ?_;obtain⟨A2,hA2⟩: ∃A2:Option Addr,A2=if L.cap=j.toNat then some ⟨L.blk,L.off,none⟩else some ⟨L.blk,L.off+j.toNat*2,none⟩:=⟨_,rfl⟩;have hjn:j.toNat≤l0.length:=by omega
  have hm2:i.toNat+(l0.length-j.toNat)≤l0.length:=by omega
  refine z03 ?_;refine z7v ⟨[(0,.c (.raw (.slice (some ⟨L.blk,L.off,none⟩) (i.toNat+(l0.length-j.toNat)) L.cap))),(7,cD (dI (l0.length:Int)))],[(5000,.vec 2 l0.length (fun x=>if i.toNat≤x∧x<i.toNat+(l0.length-j.toNat)then(fun i=>z01 (l0.getD i zzd)) (j.toNat+(x-i.toNat))else(fun i=>z01 (l0.getD i zzd)) x))]⟩ [.a [0] [],.a [1] [],.m ⟨[(20,.c (.raw (.slice (some ⟨L.blk,L.off,none⟩) l0.length L.cap))),(21,cD (dI i))],[]⟩ ⟨[(22,.c (.raw (.slice (some ⟨L.blk,L.off,none⟩) i.toNat L.cap)))],[]⟩ [] [] [],.a [0] [],.a [2] [],.m ⟨[(23,.c (.raw (.slice (some ⟨L.blk,L.off,none⟩) l0.length L.cap))),(24,cD (dI j))],[]⟩ ⟨[(25,.c (.raw (.slice A2 (l0.length-j.toNat) (L.cap-j.toNat))))],[]⟩ [] [] [],.m ⟨[(22,.c (.raw (.slice (some ⟨L.blk,L.off,none⟩) i.toNat L.cap))),(25,.c (.raw (.slice A2 (l0.length-j.toNat) (L.cap-j.toNat))))],[(5000,vL 2 z01 l0)]⟩ ⟨[(26,.c (.raw (.slice (some ⟨L.blk,L.off,none⟩) (i.toNat+(l0.length-j.toNat)) L.cap)))],[(5000,.vec 2 l0.length (fun x=>if i.toNat≤x∧x<i.toNat+(l0.length-j.toNat)then(fun i=>z01 (l0.getD i zzd)) (j.toNat+(x-i.toNat))else(fun i=>z01 (l0.getD i zzd)) x))]⟩ [] [] [],.a [26] []] [0,7] [5000] (z00 5) (.a (.a (.m ?_ (.a (.a (.m ?_ (.m ?_ (.a .z)))))))) ?_
  ·exact DOk.one fun r hr=>z25 (es:=2) (e:=51) (nn:=l0.length) (l:=0) (hh:=i) rfl (by kernel_rfl) rfl rfl (by kernel_rfl) (by kernel_rfl) rfl (by kernel_rfl) ⟨Int.le_refl _,hc.1,by omega⟩ hcap (.inl rfl) (by split<;>simp[Addr.add_mid]) (by simp) (by simp)
  ·exact DOk.one fun r hr=>z25 (es:=2) (e:=51) (nn:=l0.length) (l:=j) (hh:=(l0.length:Int)) rfl (by kernel_rfl) rfl rfl (by kernel_rfl) (by kernel_rfl) rfl (by kernel_rfl) ⟨by omega,hc.2.2,Int.le_refl _⟩ hcap (.inl rfl) (by rw[hA2];simp only[Option.map_some,Addr.add_mid]) (by simp) rfl
  ·exact DOk.one fun r hr=>zca (k:=5000) (e:=51) (q:=j.toNat) (N:=l0.length) (L:=L) rfl hL rfl (by kernel_rfl) rfl rfl (.of 51 32 [.d (.str (bs [])),.d (.str (bs []))] (by kernel_rfl) (by kernel_rfl) (by kernel_rfl) (by kernel_rfl) rfl (by kernel_rfl) rfl) rfl hn rfl rfl (fun h=>by rw[hA2,if_neg (by omega)]) (by omega) hm2
  refine z03 ?_;refine z05 ?_;refine At.sg 2 [0,7,27,28] [5000] (z00 2) ?_;refine At.one rfl (ze7 rfl rfl rfl rfl ⟨_,rfl⟩ rfl) ?_;refine At.sg 1 [0,27,29,30] [5000] (z00 1) ?_;obtain⟨A3,hA3⟩: ∃A3:Option Addr,A3=if L.cap=(i.toNat+(l0.length-j.toNat))then some ⟨L.blk,L.off,none⟩else some ⟨L.blk,L.off+(i.toNat+(l0.length-j.toNat))*2,none⟩:=⟨_,rfl⟩;refine At.one rfl (z25 (es:=2) (e:=51) (A':=A3) (nn:=l0.length) (l:=(((i.toNat+(l0.length-j.toNat)):Nat):Int)) (hh:=(l0.length:Int)) rfl rfl rfl rfl (by kernel_rfl) (by kernel_rfl) rfl (by kernel_rfl) ⟨by omega,by omega,Int.le_refl _⟩ hcap (.inr rfl) (by rw[hA3];simp only[Option.map_some,Addr.add_mid,zz8]) rfl rfl) ?_;refine At.one rfl (zcy (k:=5000) (e:=51) (es:=2) (N':=(i.toNat+(l0.length-j.toNat))) (p:=(i.toNat+(l0.length-j.toNat))) (z:=[.d (.str (bs [])),.d (.str (bs []))]) (L:=L) rfl hL rfl rfl rfl (by kernel_rfl) (by kernel_rfl) rfl rfl hn rfl (fun h=>by rw[hA3,if_neg (by simp only[zz8]at h;omega)]) (by simp only[zz8];omega) (zzb _)) ?_;refine At.done rfl ?_;refine Tri.keep [0] [5000] (s':=⟨[(0,.c (.raw (.slice (some ⟨L.blk,L.off,none⟩) (i.toNat+(l0.length-j.toNat)) L.cap)))],[(5000,.vec 2 (i.toNat+(l0.length-j.toNat)) (fun x=>if i.toNat≤x∧x<i.toNat+(l0.length-j.toNat)then(fun i=>z01 (l0.getD i zzd)) (j.toNat+(x-i.toNat))else(fun i=>z01 (l0.getD i zzd)) x))]⟩) (by kernel_rfl) ?_;refine Tri.unRaw 2 (t:=0) (k:=5000) rfl rfl hL rfl (by omega) ?_;have hlen:(l0.take i.toNat++l0.drop j.toNat).length=(i.toNat+(l0.length-j.toNat)):=by rw[List.length_append,List.length_take,List.length_drop];omega
  refine Tri.l [] ⟨[(0,.c (oC 5000 2 (l0.take i.toNat++l0.drop j.toNat)))],[(5000,vL 2 z01 (l0.take i.toNat++l0.drop j.toNat))]⟩ ⟨⟨_,rfl,by unfold oC;rw[hlen];exact .refl _⟩,trivial⟩ ⟨⟨_,rfl,.vec hlen (fun x hx=>?_),(by simp)⟩,trivial⟩ ?_
  ·exact zf5 z01 l0 (by omega) hjn hx
  refine Tri.sg [6] [5000] (z00 2) ?_;refine Tri.keep [6] [5000] (s':=⟨[(6,.c (oC 5000 2 (l0.take i.toNat++l0.drop j.toNat)))],[(5000,vL 2 z01 (l0.take i.toNat++l0.drop j.toNat))]⟩) (by kernel_rfl) ?_;refine Tri.rename 5000 6000 ⟨[(6,.c (oC 6000 2 (l0.take i.toNat++l0.drop j.toNat)))],[(6000,vL 2 z01 (l0.take i.toNat++l0.drop j.toNat))]⟩ (by kernel_rfl) rfl rfl rfl ?_;refine Tri.ret ?_;cases h;exact RetAt.k
theorem z56 {fuel:Nat}{p1:ByteArray}{l0:List File}{q:File×Bool×(List File)}(h:z0o fuel p1 l0=some q):
 Summ Try.prog 56 [.c (.ptr 5000 0),cD (.str p1)] [(5000,.box [oC 5100 2 l0]),(5100,vL 2 z01 l0)] (.tup [(true,[.d (.str q.1.name),.d (.str q.1.data)]),(false,[.d (.bool q.2.1)])]) [(5150,vL 2 z01 q.2.2),(5000,.box [oC 5150 2 q.2.2])]:=by
 refine Summ.i Try.func56 rfl [5150] fun w0 G0 V LL φ0=>?_;unfold z0o at h;refine Tri.rename 5100 5150 ⟨[(0,.c (.ptr 5000 0)),(1,cD (.str p1))],[(5000,.box [oC 5150 2 l0]),(5150,vL 2 z01 l0)]⟩ (by kernel_rfl) rfl rfl rfl ?_;refine Tri.sg [0,1,4] [4,5000,5150] (z00 2) ?_;refine z03 ?_;refine z05 ?_;refine At.seg 4 [0,4,12,13] [4,5000,5150] (s':=⟨[(0,.c (.ptr 5000 0)),(4,.c (.ptr 4 0)),(12,.c (oC 5150 2 l0)),(13,cD (.str p1))],[(4,.box [.d (.str (bs [])),.d (.str (bs []))]),(5000,.box [oC 5150 2 l0]),(5150,vL 2 z01 l0)]⟩) (by kernel_rfl) (z00 4) ?_;obtain⟨r1,hr1,h⟩:=z04 h;refine At.cA [] [.c (oC 5150 2 l0),cD (.str p1)] (z14 hr1) (.cons (AVArg.view (z01) l0 rfl) (.cons (.refl _) .nil)) ?_;refine At.sg 5 [0,4,6,7] [4,5000,5150] (z00 5) ?_;refine At.done rfl ?_;refine z03 ?_;refine Tri.sg [0,4,6,18] [4,5000,5150] (z00 2) ?_;refine z07 h (fun h=>?_) (fun h=>?_)
 ·refine Tri.sg [4,5] [4,5000,5150] (z00 3) ?_;refine Tri.ret ?_;cases h;exact RetAt.k
 ·refine Tri.skip ?_;obtain⟨hc2,h⟩:=z0k h;obtain⟨hc3,h⟩:=z0k h;refine Tri.sg [0,4,6,8] [4,8,5000,5150] (tN 4 (ai hc2 (ai hc3 (z00 2)))) ?_;refine z03 ?_;refine z05 ?_;refine At.seg 7 [4,8,26,29,30,32] [4,8,5000,5150] (s':=⟨[(4,.c (.ptr 4 0)),(8,.c (.ptr 8 0)),(26,.c (.ptr 5000 0)),(29,.c (oC 5150 2 l0)),(30,cD (dI r1.1)),(32,cD (dI (zzi.wrap (r1.1+1))))],[(4,.box [.d (.str (bs [])),.d (.str (bs []))]),(8,.box (cFile (l0.getD (0+r1.1.toNat) zzd))),(5000,.box [oC 5150 2 l0]),(5150,vL 2 z01 l0)]⟩) (by kernel_rfl) (z00 7) ?_;obtain⟨r4,hr4,h⟩:=z04 h;refine At.one rfl (z63 (k:=5150) (d:=33) (v:=vL 2 z01 r4) (av:= .c (oC 5150 2 r4)) (nf:=0) (caps:=[]) (xs:=[.c (oC 5150 2 l0),cD (dI r1.1),cD (dI (zzi.wrap (r1.1+1)))]) [(5000,5150),(6000,5150)] (z41 hr4) rfl rfl (by kernel_rfl) rfl (by kernel_rfl) (by kernel_rfl) (.ren rfl rfl (.flat (.refl _) rfl rfl (.flat (.refl _) rfl rfl .nil))) ⟨⟨by kernel_rfl,by kernel_rfl⟩,trivial⟩ (by kernel_rfl) (by kernel_rfl) (by kernel_rfl) (by kernel_rfl) (by kernel_rfl) (by kernel_rfl) (by kernel_rfl) (by first|kernel_rfl|(show _=_;kernel_rfl)) (by first|kernel_rfl|(show _=_;kernel_rfl))) ?_;refine At.sg 2 [4,8] [4,8,5000,5150] (z00 2) ?_;refine At.done rfl ?_;refine Tri.sg [4,5] [4,5000,5150] (z00 3) ?_;refine Tri.ret ?_;cases h;exact RetAt.k
theorem z3h {i:Int}{v l0 q:List File}(h:z22 i v l0=some q):
 Summ Try.prog 61 [.c (oC 5000 2 l0),cD (dI i),.c (wC 2 z01 v)] [(5000,vL 2 z01 l0)] (.c (oC 6000 2 q)) [(6000,vL 2 z01 q)]:=by
 refine Summ.i Try.func61 rfl [5050,6000] fun w0 G0 V LL φ0=>?_;unfold z22 z98 at h;obtain⟨hc,h⟩:=z0k h;have hv:=hc.2.2.1
 have hcS:(0:Int)≤i∧i≤(l0.length:Int)∧(l0.length:Int)≤(l0.length:Int):=⟨hc.1,hc.2.1,Int.le_refl _⟩;by_cases hin:i=(l0.length:Int)
 ·subst hin;have hc2:l0.length+v.length≤274877906944:=hc.2.2.2
  rw[zz8,List.take_length,List.drop_length,List.append_nil]at h;refine Tri.rename 5000 5050 ⟨[(0,.c (oC 5050 2 l0)),(1,cD (dI (l0.length:Int))),(2,.c (wC 2 z01 v))],[(5050,vL 2 z01 l0)]⟩ (by kernel_rfl) rfl rfl rfl ?_;refine Tri.sg [0,1,2] [5050] (z00 1) ?_;refine Tri.sg [0,1,2] [5050] (tN 2 (ai hcS trivial)) ?_;refine Tri.sg [0,1,2,7] [5050] (z00 3) ?_;refine z03 ?_;refine Tri.sg [0,1,2,7,16] [5050] (z00 2) ?_;refine Tri.cond (b:=decide ((v.length:Int)=0)) (by kernel_rfl) (fun hb=>absurd (of_decide_eq_true hb) (by omega)) (fun hb=>?_);refine Tri.skip ?_;refine Tri.sg [0,1,2,7,8] [5050] (z00 3) ?_;refine z03 ?_;refine Tri.sg [0,1,2,7,8,22] [5050] (z00 3) ?_;refine Tri.cond (b:=decide ((l0.length:Int)=(l0.length:Int))) (by kernel_rfl) (fun hb=>?_) (fun hb=>absurd rfl (of_decide_eq_false hb));refine z03 ?_;refine z05 ?_;refine At.seg 2 [23,24] [5050] (s':=⟨[(23,.c (oC 5050 2 l0)),(24,.c (wC 2 z01 v))],[(5050,vL 2 z01 l0)]⟩) (by kernel_rfl) (z00 2) ?_;refine At.one rfl (z6i (e:=51) (es:=2) (z01) l0 v rfl rfl rfl rfl rfl (.of 51 32 [.d (.str (bs [])),.d (.str (bs []))] (by kernel_rfl) (by kernel_rfl) (by kernel_rfl) (by kernel_rfl) rfl (by kernel_rfl) rfl) rfl rfl rfl (.view rfl (fun _ _=>rfl)) hc2) ?_;refine At.sg 1 [6] [5050] (z00 1) ?_;refine At.done rfl ?_;refine Tri.keep [6] [5050] (s':=⟨[(6,.c (oC 5050 2 (l0++v)))],[(5050,vL 2 z01 (l0++v))]⟩) (by kernel_rfl) ?_;refine Tri.rename 5050 6000 ⟨[(6,.c (oC 6000 2 (l0++v)))],[(6000,vL 2 z01 (l0++v))]⟩ (by kernel_rfl) rfl rfl rfl ?_;refine Tri.ret ?_;cases h;exact RetAt.k
 ·have hn:0<l0.length:=by omega
  have hil:i.toNat<l0.length:=by omega
  refine Tri.sg [0,1,2] [5000] (z00 1) ?_;refine Tri.sg [0,1,2] [5000] (tN 2 (ai hcS trivial)) ?_;refine Tri.sg [0,1,2,7] [5000] (z00 3) ?_;refine z03 ?_;refine Tri.sg [0,1,2,7,16] [5000] (z00 2) ?_;refine Tri.cond (b:=decide ((v.length:Int)=0)) (by kernel_rfl) (fun hb=>absurd (of_decide_eq_true hb) (by omega)) (fun hb=>?_);refine Tri.skip ?_;refine Tri.sg [0,1,2,7,8] [5000] (z00 3) ?_;refine z03 ?_;refine Tri.sg [0,1,2,7,8,22] [5000] (z00 3) ?_;refine Tri.cond (b:=decide (i=(l0.length:Int))) (by kernel_rfl) (fun hb=>absurd (of_decide_eq_true hb) hin) (fun hb=>?_);refine Tri.skip ?_;refine Tri.keep [0,1,2,7,8] [5000] (s':=⟨[(0,.c (oC 5000 2 l0)),(1,cD (dI i)),(2,.c (wC 2 z01 v)),(7,cD (dI (v.length:Int))),(8,cD (dI (l0.length:Int)))],[(5000,vL 2 z01 l0)]⟩) (by kernel_rfl) ?_;refine Tri.loc (k:=5000) rfl rfl hn fun L hL hcap=>?_;refine Tri.toRaw (t:=0) (k:=5000) rfl rfl rfl hn hL ?_;refine Tri.keep [0,1,2,7,8] [5000] (s':=⟨[(0,.c (.raw (.slice (some ⟨L.blk,L.off,none⟩) l0.length L.cap))),(1,cD (dI i)),(2,.c (wC 2 z01 v)),(7,cD (dI (v.length:Int))),(8,cD (dI (l0.length:Int)))],[(5000,vL 2 z01 l0)]⟩) (by kernel_rfl) ?_;have hw1:zzi.wrap ((l0.length:Int)+(v.length:Int))=((l0.length+1:Nat):Int):=by rw[hv,z1f (by omega) (by omega)];omega
  have hw2:zzi.wrap (i+(v.length:Int))=((i.toNat+1:Nat):Int):=by rw[hv,z1f (by omega) (by omega)];omega
  have hw3:zzi.wrap (((l0.length+1:Nat):Int)-i)=((l0.length+1-i.toNat:Nat):Int):=by rw[z1f (by omega) (by omega)];omega
  refine z03 ?_;refine z03 ?_;refine z05 ?_;refine At.sg 4 [0,1,2,7,8,28,29] [5000] (z00 4) ?_;refine At.one rfl (ze6 rfl rfl rfl rfl ⟨_,rfl⟩ rfl) ?_;refine At.sg 1 [0,1,2,7,8,31] [5000] (z00 1) ?_;refine At.done rfl ?_;refine Tri.cond (b:=decide ((L.cap:Int)<zzi.wrap ((l0.length:Int)+(v.length:Int)))) (by kernel_rfl) (fun hb=>?_) (fun hb=>?_)
  ·have hgr:L.cap<l0.length+1:=by have:=of_decide_eq_true hb;rw[hw1]at this;omega
   obtain⟨r,hr⟩: ∃r,r=l0.length+1-i.toNat:=⟨_,rfl⟩;refine z03 ?_;refine z05 ?_;refine At.sg 2 [0,1,2,7,8,32,33] [5000] (z00 2) ?_;refine At.one rfl (z25 (es:=2) (e:=51) (A':=some ⟨L.blk,L.off,none⟩) (h':=i.toNat) (c':=L.cap) (nn:=l0.length) (l:=0) (hh:=i) rfl rfl rfl rfl (by kernel_rfl) (by kernel_rfl) rfl (by kernel_rfl) ⟨Int.le_refl _,hc.1,hc.2.1⟩ hcap (.inl rfl) (by split<;>simp[Addr.add_mid]) (by simp) (by simp)) ?_;refine At.sg 5 [0,1,2,7,34,39] [5000] (z00 5) ?_;refine At.keep [0,1,2,7,34,39] [5000] (s':=⟨[(0,.c (.raw (.slice (some ⟨L.blk,L.off,none⟩) l0.length L.cap))),(1,cD (dI i)),(2,.c (wC 2 z01 v)),(7,cD (dI (v.length:Int))),(34,.c (.raw (.slice (some ⟨L.blk,L.off,none⟩) i.toNat L.cap))),(39,cD (dI (zzi.wrap (zzi.wrap ((l0.length:Int)+(v.length:Int))-i))))],[(5000,vL 2 z01 l0)]⟩) (by kernel_rfl) ?_;refine At.eqS (s':=⟨[(0,.c (.raw (.slice (some ⟨L.blk,L.off,none⟩) l0.length L.cap))),(1,cD (dI i)),(2,.c (wC 2 z01 v)),(7,cD (dI (v.length:Int))),(34,.c (.raw (.slice (some ⟨L.blk,L.off,none⟩) i.toNat L.cap))),(39,cD (dI ((r:Nat):Int)))],[(5000,vL 2 z01 l0)]⟩) (by rw[hw1,hw3,←hr]) ?_;refine At.one rfl (zbb (k:=5000) (e:=51) (es:=2) (bs:=32) (r:=r) (z:=[.d (.str (bs [])),.d (.str (bs []))]) (L:=L) rfl hL rfl rfl rfl rfl (by kernel_rfl) rfl rfl (by kernel_rfl) (by kernel_rfl) rfl rfl rfl (by kernel_rfl) rfl rfl hn rfl rfl (by omega) (by omega) (by omega) (by have:lim=274877906944:=rfl;omega)) ?_;refine At.sg 1 [0,1,2,7,9] [5000,40] (z00 1) ?_;refine At.done rfl ?_;refine Tri.keep [0,1,2,7,9] [5000,40] (s':=⟨[(0,.c (.raw (.slice (some ⟨L.blk,L.off,none⟩) l0.length L.cap))),(1,cD (dI i)),(2,.c (wC 2 z01 v)),(7,cD (dI (v.length:Int))),(9,.c (.own 40 2 0 (i.toNat+r)))],[(5000,vL 2 z01 l0),(40,.vec 2 i.toNat (fun i=>z01 (l0.getD i zzd)))]⟩) (by kernel_rfl) ?_;have hcA:(0:Int)≤i∧i≤((i.toNat+r:Nat):Int)∧((i.toNat+r:Nat):Int)≤((i.toNat+r:Nat):Int):=⟨hc.1,by omega,Int.le_refl _⟩
   refine z03 ?_;refine z05 ?_;refine At.sg 2 [0,1,2,7,9,41,42] [5000,40] (z00 2) ?_;refine At.one rfl (z8p (k:=40) (es:=2) (p0:=0+i.toNat) (n0:=((i.toNat+r:Nat):Int).toNat-i.toNat) (p':=i.toNat) (n':=r) (c:=bndOk (i.toNat+r) i ((i.toNat+r:Nat):Int) none) rfl rfl rfl rfl (by kernel_rfl) hcA (by omega) (by omega)) ?_;refine At.sg 1 [0,1,7,9,43,44] [5000,40] (z00 1) ?_;refine At.one rfl (zal (es:=2) (e:=51) (p:=i.toNat) (dn:=r) (sn:=v.length) (m:=v.length) (N':=i.toNat+1) (get2:=(fun x=>if x<i.toNat then z01 (l0.getD x zzd)else z01 (v.getD (x-i.toNat) zzd))) (get':=fun i=>z01 (v.getD i zzd)) rfl rfl rfl rfl (by kernel_rfl) rfl rfl (by omega) (Nat.min_eq_left (by omega)) (SrcOf.g rfl (.view rfl (fun _ _=>rfl)) rfl) (by unfold maxN;omega) (by omega) (fun x hx=>?_)) ?_
   ·by_cases hxi:x<i.toNat
    ·exact .inr ⟨.inl hxi,hxi,if_pos hxi⟩
    ·exact .inl ⟨by omega,by omega,if_neg hxi⟩
   refine At.done rfl ?_;refine Tri.keep [0,1,7,9] [5000,40] (s':=⟨[(0,.c (.raw (.slice (some ⟨L.blk,L.off,none⟩) l0.length L.cap))),(1,cD (dI i)),(7,cD (dI (v.length:Int))),(9,.c (.own 40 2 0 (i.toNat+r)))],[(5000,vL 2 z01 l0),(40,.vec 2 (i.toNat+1) (fun x=>if x<i.toNat then z01 (l0.getD x zzd)else z01 (v.getD (x-i.toNat) zzd)))]⟩) (by kernel_rfl) ?_;obtain⟨A2,hA2⟩: ∃A2:Option Addr,A2=if L.cap=i.toNat then some ⟨L.blk,L.off,none⟩else some ⟨L.blk,L.off+i.toNat*2,none⟩:=⟨_,rfl⟩;refine z03 ?_;refine z7v ⟨[(9,.c (.own 40 2 0 (i.toNat+r)))],[(40,.vec 2 (l0.length+1) (fun x=>if x<i.toNat then z01 (l0.getD x zzd)else if x<i.toNat+1 then z01 (v.getD (x-i.toNat) zzd)else z01 (l0.getD (x-1) zzd)))]⟩ [.a [9] [],.a [1] [],.a [7] [],.a [47,48] [],.m ⟨[(46,.c (.own 40 2 0 (i.toNat+r))),(49,cD (dI (zzi.wrap (i+(v.length:Int)))))],[]⟩ ⟨[(50,.c (.own 40 2 (i.toNat+1) (l0.length-i.toNat)))],[]⟩ [] [] [],.a [0] [],.a [1] [],.m ⟨[(51,.c (.raw (.slice (some ⟨L.blk,L.off,none⟩) l0.length L.cap))),(52,cD (dI i))],[]⟩ ⟨[(53,.c (.raw (.slice A2 (l0.length-i.toNat) (L.cap-i.toNat))))],[]⟩ [] [] [],.m ⟨[(50,.c (.own 40 2 (i.toNat+1) (l0.length-i.toNat))),(53,.c (.raw (.slice A2 (l0.length-i.toNat) (L.cap-i.toNat))))],[(5000,vL 2 z01 l0),(40,.vec 2 (i.toNat+1) (fun x=>if x<i.toNat then z01 (l0.getD x zzd)else z01 (v.getD (x-i.toNat) zzd)))]⟩ ⟨[(54,cD (dI ((l0.length-i.toNat:Nat):Int)))],[(40,.vec 2 (l0.length+1) (fun x=>if x<i.toNat then z01 (l0.getD x zzd)else if x<i.toNat+1 then z01 (v.getD (x-i.toNat) zzd)else z01 (l0.getD (x-1) zzd)))]⟩ [] [] []] [9] [40] (z00 6) (.a (.a (.a (.a (.m ?_ (.a (.a (.m ?_ (.m ?_ .z))))))))) ?_
   ·exact DOk.one fun r_ hr_=>z8p (k:=40) (es:=2) (p0:=0+(zzi.wrap (i+(v.length:Int))).toNat) (n0:=((i.toNat+r:Nat):Int).toNat-(zzi.wrap (i+(v.length:Int))).toNat) (c:=bndOk (i.toNat+r) (zzi.wrap (i+(v.length:Int))) ((i.toNat+r:Nat):Int) none) rfl (by kernel_rfl) rfl rfl (by kernel_rfl) (by rw[hw2];exact⟨by omega,by omega,Int.le_refl _⟩) (by rw[hw2];omega) (by rw[hw2];omega)
   ·exact DOk.one fun r_ hr_=>z25 (es:=2) (e:=51) (nn:=l0.length) (l:=i) (hh:=(l0.length:Int)) rfl (by kernel_rfl) rfl rfl (by kernel_rfl) (by kernel_rfl) rfl (by kernel_rfl) ⟨hc.1,hc.2.1,Int.le_refl _⟩ hcap (.inl rfl) (by rw[hA2];simp only[Option.map_some,Addr.add_mid]) (by simp) rfl
   ·exact DOk.one fun r_ hr_=>zal (k:=40) (es:=2) (e:=51) (p:=i.toNat+1) (dn:=l0.length-i.toNat) (sn:=l0.length-i.toNat) (m:=l0.length-i.toNat) (N':=l0.length+1) (get2:=(fun x=>if x<i.toNat then z01 (l0.getD x zzd)else if x<i.toNat+1 then z01 (v.getD (x-i.toNat) zzd)else z01 (l0.getD (x-1) zzd))) (get':=fun x=>(fun i=>z01 (l0.getD i zzd)) (i.toNat+x)) rfl (by kernel_rfl) rfl (by kernel_rfl) (by kernel_rfl) rfl rfl (by omega) (Nat.min_self _) (ze1 (k:=5000) (q:=i.toNat) (L:=L) (N:=l0.length) (m:=l0.length-i.toNat) (sn:=l0.length-i.toNat) (c:=L.cap-i.toNat) (A:=A2) (es:=2) (get:=fun i=>z01 (l0.getD i zzd)) rfl hL rfl hn rfl (by omega) (fun h=>by rw[hA2,if_neg (by omega)])) (by unfold maxN;omega) (by omega) (fun x hx=>by
     by_cases hxi:x<i.toNat+1
     ·refine .inr ⟨.inl hxi,hxi,?_⟩;by_cases hx2:x<i.toNat
      ·simp only[if_pos hx2]
      ·simp only[if_neg hx2,if_pos hxi]
     ·refine .inl ⟨by omega,by omega,?_⟩;simp only[if_neg hxi,if_neg (show ¬x<i.toNat by omega)];rw[show i.toNat+(x-(i.toNat+1))=x-1 by omega])
   have hQ:(l0.take i.toNat++v++l0.drop i.toNat).length=l0.length+1:=by rw[zcq l0 v (by omega),hv]
   refine Tri.l [] ⟨[(9,.c (oC 40 2 (l0.take i.toNat++v++l0.drop i.toNat)))],[(40,vL 2 z01 (l0.take i.toNat++v++l0.drop i.toNat))]⟩ ⟨⟨_,rfl,by unfold oC;rw[hQ,show l0.length+1=i.toNat+r by omega];exact .refl _⟩,trivial⟩ ⟨⟨_,rfl,.vec hQ (fun x hx=>zcp z01 l0 v (by omega) hv),(by simp)⟩,trivial⟩ ?_;refine Tri.sg [6] [40] (z00 2) ?_;refine Tri.keep [6] [40] (s':=⟨[(6,.c (oC 40 2 (l0.take i.toNat++v++l0.drop i.toNat)))],[(40,vL 2 z01 (l0.take i.toNat++v++l0.drop i.toNat))]⟩) (by kernel_rfl) ?_;refine Tri.rename 40 6000 ⟨[(6,.c (oC 6000 2 (l0.take i.toNat++v++l0.drop i.toNat)))],[(6000,vL 2 z01 (l0.take i.toNat++v++l0.drop i.toNat))]⟩ (by kernel_rfl) rfl rfl rfl ?_;refine Tri.ret ?_;cases h;exact RetAt.k
  ·have hle:l0.length+1≤L.cap:=by have:=of_decide_eq_false hb;rw[hw1]at this;omega
   refine Tri.skip ?_;refine z03 ?_;refine z05 ?_;refine At.sg 4 [1,2,7,56,59] [5000] (z00 4) ?_;refine At.keep [1,2,7,56,59] [5000] (s':=⟨[(1,cD (dI i)),(2,.c (wC 2 z01 v)),(7,cD (dI (v.length:Int))),(56,.c (.raw (.slice (some ⟨L.blk,L.off,none⟩) l0.length L.cap))),(59,cD (dI (zzi.wrap ((l0.length:Int)+(v.length:Int)))))],[(5000,vL 2 z01 l0)]⟩) (by kernel_rfl) ?_;refine At.eqS (s':=⟨[(1,cD (dI i)),(2,.c (wC 2 z01 v)),(7,cD (dI (v.length:Int))),(56,.c (.raw (.slice (some ⟨L.blk,L.off,none⟩) l0.length L.cap))),(59,cD (dI (((l0.length+1):Nat):Int)))],[(5000,vL 2 z01 l0)]⟩) (by rw[hw1]) ?_;refine At.one rfl (z25 (es:=2) (e:=51) (A':=some ⟨L.blk,L.off,none⟩) (h':=(l0.length+1)) (c':=L.cap) (nn:=L.cap) (l:=0) (hh:=(((l0.length+1):Nat):Int)) rfl rfl rfl rfl (by kernel_rfl) (by kernel_rfl) rfl (by kernel_rfl) ⟨Int.le_refl _,by omega,by omega⟩ (zzb _) (.inr rfl) (by split<;>simp[Addr.add_mid]) (by simp) (by simp)) ?_;refine At.sg 1 [0,1,2,7] [5000] (z00 1) ?_;refine At.done rfl ?_;refine Tri.keep [0,1,2,7] [5000] (s':=⟨[(0,.c (.raw (.slice (some ⟨L.blk,L.off,none⟩) (l0.length+1) L.cap))),(1,cD (dI i)),(2,.c (wC 2 z01 v)),(7,cD (dI (v.length:Int)))],[(5000,vL 2 z01 l0)]⟩) (by kernel_rfl) ?_;refine z03 ?_;refine z03 ?_;refine z05 ?_;refine At.sg 5 [0,1,2,7,61,62,65] [5000] (z00 5) ?_;refine At.keep [0,1,2,7,61,62,65] [5000] (s':=⟨[(0,.c (.raw (.slice (some ⟨L.blk,L.off,none⟩) (l0.length+1) L.cap))),(1,cD (dI i)),(2,.c (wC 2 z01 v)),(7,cD (dI (v.length:Int))),(61,.c (wC 2 z01 v)),(62,.c (.raw (.slice (some ⟨L.blk,L.off,none⟩) (l0.length+1) L.cap))),(65,cD (dI (zzi.wrap (i+(v.length:Int)))))],[(5000,vL 2 z01 l0)]⟩) (by kernel_rfl) ?_;refine At.eqS (s':=⟨[(0,.c (.raw (.slice (some ⟨L.blk,L.off,none⟩) (l0.length+1) L.cap))),(1,cD (dI i)),(2,.c (wC 2 z01 v)),(7,cD (dI (v.length:Int))),(61,.c (wC 2 z01 v)),(62,.c (.raw (.slice (some ⟨L.blk,L.off,none⟩) (l0.length+1) L.cap))),(65,cD (dI ((i.toNat+1:Nat):Int)))],[(5000,vL 2 z01 l0)]⟩) (by rw[hw2]) ?_;refine At.one rfl (z25 (es:=2) (e:=51) (A':=(some ⟨L.blk,L.off+(i.toNat+1)*2,none⟩)) (h':=l0.length-i.toNat) (c':=L.cap-(i.toNat+1)) (nn:=(l0.length+1)) (l:=((i.toNat+1:Nat):Int)) (hh:=(((l0.length+1):Nat):Int)) rfl rfl rfl rfl (by kernel_rfl) (by kernel_rfl) rfl (by kernel_rfl) ⟨by omega,by omega,Int.le_refl _⟩ hle (.inl rfl) (by rw[zz8,if_neg (by omega)];simp only[Option.map_some,Addr.add_mid]) (by omega) rfl) ?_;refine At.one rfl (zb2 (k:=5000) (L:=L) (es:=2) (gv:=fun i=>z01 (v.getD i zzd)) (m:=v.length) (p:=L.off+(i.toNat+1)*2) (lb:=l0.length-i.toNat) (cb:=L.cap-(i.toNat+1)) (f:=62) (tS:=22) (tR:=4) (e:=51) (sz:=2) rfl hL rfl rfl rfl rfl (by kernel_rfl) (by kernel_rfl) Try.func62 (by kernel_rfl) (by kernel_rfl) (by kernel_rfl) (by kernel_rfl) rfl (by kernel_rfl) rfl hn (by decide) (by decide) (by omega)) ?_;refine At.sg 1 [0,1,2,7,68] [5000] (z00 1) ?_;refine At.done rfl ?_;refine Tri.cond (b:=true) (by kernel_rfl) (fun _=>?_) (fun hb=>by cases hb);refine Tri.keep [0,1,2,7] [5000] (s':=⟨[(0,.c (.raw (.slice (some ⟨L.blk,L.off,none⟩) (l0.length+1) L.cap))),(1,cD (dI i)),(2,.c (wC 2 z01 v)),(7,cD (dI (v.length:Int)))],[(5000,vL 2 z01 l0)]⟩) (by kernel_rfl) ?_;refine z03 ?_;refine z7v ⟨[(0,.c (.raw (.slice (some ⟨L.blk,L.off,none⟩) (l0.length+1) L.cap))),(1,cD (dI i)),(2,.c (wC 2 z01 v))],[(5000,.vec 2 (l0.length+1) (fun x=>if x<i.toNat+1 then z01 (l0.getD x zzd)else z01 (l0.getD (x-1) zzd)))]⟩ [.a [0] [],.a [1] [],.a [7] [],.a [70,71] [],.m ⟨[(69,.c (.raw (.slice (some ⟨L.blk,L.off,none⟩) (l0.length+1) L.cap))),(72,cD (dI (zzi.wrap (i+(v.length:Int)))))],[]⟩ ⟨[(73,.c (.raw (.slice (some ⟨L.blk,L.off+(i.toNat+1)*2,none⟩) (l0.length-i.toNat) (L.cap-(i.toNat+1)))))],[]⟩ [] [] [],.a [0] [],.a [1] [],.m ⟨[(74,.c (.raw (.slice (some ⟨L.blk,L.off,none⟩) (l0.length+1) L.cap))),(75,cD (dI i))],[]⟩ ⟨[(76,.c (.raw (.slice (some ⟨L.blk,L.off+i.toNat*2,none⟩) ((l0.length+1)-i.toNat) (L.cap-i.toNat))))],[]⟩ [] [] [],.m ⟨[(73,.c (.raw (.slice (some ⟨L.blk,L.off+(i.toNat+1)*2,none⟩) (l0.length-i.toNat) (L.cap-(i.toNat+1))))),(76,.c (.raw (.slice (some ⟨L.blk,L.off+i.toNat*2,none⟩) ((l0.length+1)-i.toNat) (L.cap-i.toNat))))],[(5000,vL 2 z01 l0)]⟩ ⟨[(77,cD (dI ((l0.length-i.toNat:Nat):Int)))],[(5000,.vec 2 (l0.length+1) (fun x=>if x<i.toNat+1 then z01 (l0.getD x zzd)else z01 (l0.getD (x-1) zzd)))]⟩ [] [] []] [0,1,2] [5000] (z00 6) (.a (.a (.a (.a (.m ?_ (.a (.a (.m ?_ (.m ?_ .z))))))))) ?_
   ·exact DOk.one fun r_ hr_=>z25 (es:=2) (e:=51) (nn:=(l0.length+1)) (l:=(zzi.wrap (i+(v.length:Int)))) (hh:=(((l0.length+1):Nat):Int)) rfl (by kernel_rfl) rfl rfl (by kernel_rfl) (by kernel_rfl) rfl (by kernel_rfl) (by rw[hw2];exact⟨by omega,by omega,Int.le_refl _⟩) hle (.inl rfl) (by rw[hw2,zz8,if_neg (by omega)];simp only[Option.map_some,Addr.add_mid]) (by rw[hw2];omega) (by rw[hw2];rfl)
   ·exact DOk.one fun r_ hr_=>z25 (es:=2) (e:=51) (nn:=(l0.length+1)) (l:=i) (hh:=(((l0.length+1):Nat):Int)) rfl (by kernel_rfl) rfl rfl (by kernel_rfl) (by kernel_rfl) rfl (by kernel_rfl) ⟨hc.1,by omega,Int.le_refl _⟩ hle (.inl rfl) (by rw[if_neg (by omega)];simp only[Option.map_some,Addr.add_mid]) (by omega) rfl
   ·exact DOk.one fun r_ hr_=>zak (k:=5000) (L:=L) (es:=2) (e:=51) (N:=l0.length) (get:=fun i=>z01 (l0.getD i zzd)) (B:=(some ⟨L.blk,L.off+(i.toNat+1)*2,none⟩)) (dc:=L.cap-(i.toNat+1)) (p:=i.toNat+1) (dn:=l0.length-i.toNat) (sn:=(l0.length+1)-i.toNat) (m:=l0.length-i.toNat) (N':=(l0.length+1)) (get2:=(fun x=>if x<i.toNat+1 then z01 (l0.getD x zzd)else z01 (l0.getD (x-1) zzd))) (get':=fun x=>(fun i=>z01 (l0.getD i zzd)) (i.toNat+x)) rfl hL rfl (by kernel_rfl) rfl (by kernel_rfl) (by kernel_rfl) rfl hn rfl (fun _=>rfl) (Nat.min_eq_right (by omega)) (fun h _=>ze1 (k:=5000) (q:=i.toNat) (L:=L) (N:=l0.length) (m:=l0.length-i.toNat) (sn:=(l0.length+1)-i.toNat) (c:=L.cap-i.toNat) (A:=(some ⟨L.blk,L.off+i.toNat*2,none⟩)) (es:=2) (get:=fun i=>z01 (l0.getD i zzd)) rfl hL rfl hn rfl (by omega) (fun _=>rfl) h) (by omega) (by unfold maxN;omega) hle (fun x hx=>by
     by_cases hxi:x<i.toNat+1
     ·exact .inr ⟨.inl hxi,by omega,by simp only[if_pos hxi]⟩
     ·refine .inl ⟨by omega,by omega,?_⟩;simp only[if_neg hxi];rw[show i.toNat+(x-(i.toNat+1))=x-1 by omega])
   refine z03 ?_;refine z05 ?_;refine At.sg 2 [0,2,78,79] [5000] (z00 2) ?_;refine At.one rfl (z25 (es:=2) (e:=51) (A':=(some ⟨L.blk,L.off+i.toNat*2,none⟩)) (h':=(l0.length+1)-i.toNat) (c':=L.cap-i.toNat) (nn:=(l0.length+1)) (l:=i) (hh:=(((l0.length+1):Nat):Int)) rfl rfl rfl rfl (by kernel_rfl) (by kernel_rfl) rfl (by kernel_rfl) ⟨hc.1,by omega,Int.le_refl _⟩ hle (.inl rfl) (by rw[if_neg (by omega)];simp only[Option.map_some,Addr.add_mid]) (by omega) rfl) ?_;refine At.sg 1 [0,80,81] [5000] (z00 1) ?_;refine At.one rfl (zak (k:=5000) (L:=L) (es:=2) (e:=51) (N:=(l0.length+1)) (get:=(fun x=>if x<i.toNat+1 then z01 (l0.getD x zzd)else z01 (l0.getD (x-1) zzd))) (B:=(some ⟨L.blk,L.off+i.toNat*2,none⟩)) (dc:=L.cap-i.toNat) (p:=i.toNat) (dn:=(l0.length+1)-i.toNat) (sn:=v.length) (m:=v.length) (N':=(l0.length+1)) (get2:=(fun x=>if x<i.toNat then z01 (l0.getD x zzd)else if x<i.toNat+1 then z01 (v.getD (x-i.toNat) zzd)else z01 (l0.getD (x-1) zzd))) (get':=fun i=>z01 (v.getD i zzd)) rfl hL rfl rfl rfl rfl (by kernel_rfl) rfl (by omega) rfl (fun _=>rfl) (Nat.min_eq_left (by omega)) (fun h _=>SrcOf.g rfl (.view rfl (fun _ _=>rfl)) rfl h) (by omega) (by unfold maxN;omega) hle (fun x hx=>?_)) ?_
   ·by_cases hxi:x<i.toNat
    ·exact .inr ⟨.inl hxi,by omega,by simp only[if_pos hxi,if_pos (show x<i.toNat+1 by omega)]⟩
    ·by_cases hx2:x<i.toNat+1
     ·exact .inl ⟨by omega,by omega,by simp only[if_neg hxi,if_pos hx2]⟩
     ·exact .inr ⟨.inr (by omega),by omega,by simp only[if_neg hxi,if_neg hx2]⟩
   refine At.done rfl ?_;refine Tri.keep [0] [5000] (s':=⟨[(0,.c (.raw (.slice (some ⟨L.blk,L.off,none⟩) (l0.length+1) L.cap)))],[(5000,.vec 2 (l0.length+1) (fun x=>if x<i.toNat then z01 (l0.getD x zzd)else if x<i.toNat+1 then z01 (v.getD (x-i.toNat) zzd)else z01 (l0.getD (x-1) zzd)))]⟩) (by kernel_rfl) ?_;refine Tri.unRaw 2 (t:=0) (k:=5000) rfl rfl hL rfl hle ?_;have hQ:(l0.take i.toNat++v++l0.drop i.toNat).length=l0.length+1:=by rw[zcq l0 v (by omega),hv]
   refine Tri.l [] ⟨[(0,.c (oC 5000 2 (l0.take i.toNat++v++l0.drop i.toNat)))],[(5000,vL 2 z01 (l0.take i.toNat++v++l0.drop i.toNat))]⟩ ⟨⟨_,rfl,by unfold oC;rw[hQ];exact .refl _⟩,trivial⟩ ⟨⟨_,rfl,.vec hQ (fun x hx=>zcp z01 l0 v (by omega) hv),(by simp)⟩,trivial⟩ ?_;refine Tri.sg [6] [5000] (z00 2) ?_;refine Tri.keep [6] [5000] (s':=⟨[(6,.c (oC 5000 2 (l0.take i.toNat++v++l0.drop i.toNat)))],[(5000,vL 2 z01 (l0.take i.toNat++v++l0.drop i.toNat))]⟩) (by kernel_rfl) ?_;refine Tri.rename 5000 6000 ⟨[(6,.c (oC 6000 2 (l0.take i.toNat++v++l0.drop i.toNat)))],[(6000,vL 2 z01 (l0.take i.toNat++v++l0.drop i.toNat))]⟩ (by kernel_rfl) rfl rfl rfl ?_;refine Tri.ret ?_;cases h;exact RetAt.k
theorem z3y {fuel:Nat}{p1:File}{l0:List File}{q:List File}(h:z0x fuel p1 l0=some q):
 Summ Try.prog 57 [.c (.ptr 5000 0),.agg (cFile p1)] [(5000,.box [oC 5100 2 l0]),(5100,vL 2 z01 l0)] (.tup []) [(5150,vL 2 z01 q),(5000,.box [oC 5150 2 q])]:=by
 refine Summ.i Try.func57 rfl [5150] fun w0 G0 V LL φ0=>?_;unfold z0x at h;refine Tri.rename 5100 5150 ⟨[(0,.c (.ptr 5000 0)),(1,.agg (cFile p1))],[(5000,.box [oC 5150 2 l0]),(5150,vL 2 z01 l0)]⟩ (by kernel_rfl) rfl rfl rfl ?_;refine Tri.sg [0,3] [3,5000,5150] (z00 1) ?_;refine z03 ?_;obtain⟨r1,hr1,h⟩:=z04 h;refine z27 [.a [0] [],.a [7] [],.a [8] [5000],.a [3] [],.a [10] [3],.m ⟨[(9,.c (oC 5150 2 l0)),(11,cD (.str p1.name))],[(5150,vL 2 z01 l0)]⟩ ⟨[(12,.tup [(false,[.d (dI r1.1)]),(false,[.d (.bool r1.2)])])],[]⟩ [] [] [],.a [12] [],.a [6] [],.a [6] [],.a [13] [],.a [14] []] [0,3,4,5] [3,5000,5150] (z00 10) (.a (.a (.a (.a (.a (.m ?_ (.a (.a (.a (.a (.a .z))))))))))) ?_
 ·exact DOk.cA [] [.c (oC 5150 2 l0),cD (.str p1.name)] (z14 hr1) fun r=>(.cons (AVArg.view (z01) l0 rfl) (.cons (.refl _) .nil))
 refine z03 ?_;refine z45 [0,3,4,15] [3,5000,5150] ⟨[(0,.c (.ptr 5000 0)),(3,.c (.ptr 3 0)),(4,cD (dI r1.1)),(15,cD (.bool r1.2))],[(3,.box (cFile p1)),(5000,.box [oC 5150 2 l0]),(5150,vL 2 z01 l0)]⟩ _ (by kernel_rfl) (z00 1) ?_;refine z07 h (fun h=>?_) (fun h=>?_)
 ·refine z03 ?_;obtain⟨hc2,h⟩:=z0k h;obtain⟨hc3,h⟩:=z0k h;refine z9d ⟨[],[(5000,.box [oC 5150 2 l0]),(5150,vL 2 z01 (l0.set (0+r1.1.toNat) p1))]⟩ ?_ ?_
  ·refine z7v ⟨[],[(5000,.box [oC 5150 2 l0]),(5150,vL 2 z01 (l0.set (0+r1.1.toNat) p1))]⟩ [.a [0] [],.a [16] [],.a [17] [5000],.a [4] [],.a [3] [3],.a [18,19] [5150],.m ⟨[(20,.agg (cFile p1)),(21,.c (.vptr 5150 2 (0+r1.1.toNat) 0))],[(5150,vL 2 z01 l0)]⟩ ⟨[],[(5150,vL 2 z01 (l0.set (0+r1.1.toNat) p1))]⟩ [] [] []] [] [5000,5150] (tN 5 (ai hc2 trivial)) (.a (.a (.a (.a (.a (.a (.m ?_ .z))))))) ?_
   ·exact DOk.one fun r hr=>z9b (xs:=[.d (.str p1.name),.d (.str p1.data)]) (ds:=[.str p1.name,.str p1.data]) (z01) l0 p1 rfl (by kernel_rfl) rfl rfl rfl hc3 rfl rfl (.refl _) rfl rfl rfl rfl
   exact⟨rfl,rfl⟩
  ·refine At.eqS (s':=⟨[],[(5000,.box [oC 5150 2 (l0.set (0+r1.1.toNat) p1)]),(5150,vL 2 z01 (l0.set (0+r1.1.toNat) p1))]⟩) (by simp only[oC,vL,List.length_set]) ?_;refine At.done rfl ?_;refine Tri.ret ?_;cases h;exact RetAt.k
 ·refine Tri.skip ?_;obtain⟨r4,hr4,h⟩:=z04 h;refine z27 [.a [0] [],.a [0] [],.a [23] [],.a [24] [5000],.a [4] [],.a [3] [3],.m ⟨[(27,.agg (cFile p1))],[]⟩ ⟨[(28,.c (oC 28 2 ([p1]:List File)))],[(28,vL 2 z01 ([p1]:List File))]⟩ [28] [] [],.m ⟨[(25,.c (oC 5150 2 l0)),(26,cD (dI r1.1)),(28,.c (oC 28 2 ([p1]:List File)))],[(28,vL 2 z01 ([p1]:List File)),(5000,.box [oC 5150 2 l0]),(5150,vL 2 z01 l0)]⟩ ⟨[(29,.c (oC 5150 2 r4)),(25,.c (.any))],[(5150,vL 2 z01 r4),(5000,.box [.any])]⟩ [5150] [25] [5000],.a [22] [],.m ⟨[(29,.c (oC 5150 2 r4)),(30,.c (.ptr 5000 0))],[(5000,.box [.any]),(5150,vL 2 z01 r4)]⟩ ⟨[],[(5000,.box [oC 5150 2 r4])]⟩ [] [] []] [] [5000,5150] (z00 7) (.a (.a (.a (.a (.a (.a (.m ?_ (.m ?_ (.a (.m ?_ .z)))))))))) ?_
  ·exact DOk.one fun r hr=>z38 (e:=51) (es:=2) (z:=[.d (.str (bs [])),.d (.str (bs []))]) (cells:=[.d (.str p1.name),.d (.str p1.data)]) (z01) ([p1]:List File) rfl (by kernel_rfl) rfl rfl (z1s (by kernel_rfl) (hr 28 (by simp))) (by kernel_rfl) rfl (by kernel_rfl) rfl rfl rfl (by kernel_rfl) rfl ⟨⟨rfl,.refl _⟩,trivial⟩
  ·exact DOk.drop (k:=5150) (d:=29) (v:=vL 2 z01 r4) (av:= .c (oC 5150 2 r4)) rfl (fun r hr=>z63 (nf:=0) (caps:=[]) (xs:=[.c (oC 5150 2 l0),cD (dI r1.1),.c (oC 28 2 ([p1]:List File))]) [(5000,5150),(6000,5150)] (z3h hr4) rfl rfl (by kernel_rfl) rfl (by kernel_rfl) (by kernel_rfl) (.ren rfl rfl (.flat (.refl _) rfl rfl (.flat (AVArg.view (z01) ([p1]:List File) rfl) rfl rfl .nil))) ⟨⟨by kernel_rfl,by kernel_rfl⟩,trivial⟩ (by kernel_rfl) (by kernel_rfl) (by kernel_rfl) (by kernel_rfl) (by kernel_rfl) (by kernel_rfl) (by kernel_rfl) (by first|kernel_rfl|(show _=_;kernel_rfl)) (by first|kernel_rfl|(show _=_;kernel_rfl))) (by kernel_rfl) (by kernel_rfl) (by kernel_rfl) (by kernel_rfl)
  ·exact DOk.step (.turn 5000 (.box [oC 5150 2 r4])) (fun r=>by kernel_rfl) (fun r=>by kernel_rfl) trivial (by kernel_rfl) (by kernel_rfl) (fun r=>rfl)
  cases h;exact RetAt.k
theorem z1v {fuel:Nat}{p1:List Write}{l0:List File}{q:List File}(h:z0n fuel p1 l0=some q):
 Summ Try.prog 43 [.c (.ptr 5000 0),cD (lD 4 z02 p1)] [(5000,.box [oC 5100 2 l0]),(5100,vL 2 z01 l0)] (.tup []) [(5150,vL 2 z01 q),(5000,.box [oC 5150 2 q])]:=by
 refine Summ.i Try.func43 rfl [5150] fun w0 G0 V LL φ0=>?_;unfold z0n at h;refine Tri.rename 5100 5150 ⟨[(0,.c (.ptr 5000 0)),(1,cD (lD 4 z02 p1))],[(5000,.box [oC 5150 2 l0]),(5150,vL 2 z01 l0)]⟩ (by kernel_rfl) rfl rfl rfl ?_;refine Tri.sg [0,8,9,10] [5000,5150] (z00 3) ?_;refine Tri.ln 8 p1.length fun hlena2=>?_;refine z3n 10 (l0) (fun(x:Empty) s=>False) (fun(a2:List File)=>⟨[(0,.c (.ptr 5000 0)),(8,cD (lD 4 z02 p1)),(9,cD (dI (p1.length:Int)))],[(5000,.box [oC 5150 2 a2]),(5150,vL 2 z01 a2)]⟩) [10,0,8,9] [5000,5150] [11,10,0,8,9] [5000,5150] [] [5000,5150] [10,0,8,9] [5000,5150] h hlena2 ?_ ?_ ?_
 ·intro i1 a2 c hii1 h;refine Tri.sg [0,5,8,9,10] [5,5000,5150] (ai (show((0:Int)≤((i1:Nat):Int)∧((i1:Nat):Int)<(p1.length:Int))from⟨by omega,by omega⟩) (z00 3)) ?_;refine z03 ?_;refine z05 ?_;refine At.sg 3 [0,5,8,9,10,15,17] [5,5000,5150] (z00 3) ?_;obtain⟨r4,hr4,h⟩:=z04 h;refine z3i 0 [] [.c (.ptr 5000 0),cD (.str ((p1.getD i1 zzd).name))] [(5000,5000),(5100,5150),(5150,5150)] [0,5,8,9,10] [5] (z56 hr4) (.ren rfl rfl (.flat (.refl _) rfl rfl .nil)) ?_;refine At.sg 6 [0,5,6,7,8,9,10] [5,6,5000,5150] (z00 6) ?_;refine At.done rfl ?_;refine z3z ?_;refine Tri.sg [0,5,6,7,8,9,10,21] [5,6,5000,5150] (z00 4) ?_;refine z07 h (fun h=>?_) (fun h=>?_)
  ·refine z05 ?_;obtain⟨hc5,h⟩:=z0k h;refine At.sg 9 [0,8,9,10,25,33] [5000,5150] (tN 7 (ai hc5 (z00 1))) ?_;obtain⟨r6,hr6,h⟩:=z04 h;refine z3i 0 [] [.c (.ptr 5000 0),.agg [.d (.str ((p1.getD i1 zzd).name)),.d (.str (r4.1.data++((p1.getD i1 zzd).data)))]] [(5000,5000),(5100,5150),(5150,5150)] [0,8,9,10] [] (z3y hr6) (.ren rfl rfl (.flat (.refl _) rfl rfl .nil)) ?_;refine At.keep [10,0,8,9] [5000,5150] (s':=⟨[(10,cD (dI ((i1:Nat):Int))),(0,.c (.ptr 5000 0)),(8,cD (lD 4 z02 p1)),(9,cD (dI (p1.length:Int)))],[(5000,.box [oC 5150 2 r6]),(5150,vL 2 z01 r6)]⟩) (by kernel_rfl) ?_;refine At.done rfl ?_;cases h;exact kr
  ·refine z11 (fun(a7:Bool)=>⟨[(0,.c (.ptr 5000 0)),(5,.c (.ptr 5 0)),(6,.c (.ptr 6 0)),(8,cD (lD 4 z02 p1)),(9,cD (dI (p1.length:Int))),(10,cD (dI ((i1:Nat):Int))),(35,cD (.bool a7))],[(5,.box (cWrite (p1.getD i1 zzd))),(6,.box (cFile r4.1)),(5000,.box [oC 5150 2 r4.2.2]),(5150,vL 2 z01 r4.2.2)]⟩) h (fun a7 h=>?_) (fun j8 h=>?_)
   ·refine z07 h (fun h=>?_) (fun h=>?_)
    ·refine z05 ?_;refine At.sg 6 [0,8,9,10,42,47] [5000,5150] (z00 6) ?_;obtain⟨r9,hr9,h⟩:=z04 h;refine z3i 0 [] [.c (.ptr 5000 0),.agg [.d (.str ((p1.getD i1 zzd).to_)),.d (.str r4.1.data)]] [(5000,5000),(5100,5150),(5150,5150)] [0,8,9,10] [] (z3y hr9) (.ren rfl rfl (.flat (.refl _) rfl rfl .nil)) ?_;refine At.keep [10,0,8,9] [5000,5150] (s':=⟨[(10,cD (dI ((i1:Nat):Int))),(0,.c (.ptr 5000 0)),(8,cD (lD 4 z02 p1)),(9,cD (dI (p1.length:Int)))],[(5000,.box [oC 5150 2 r9]),(5150,vL 2 z01 r9)]⟩) (by kernel_rfl) ?_;refine At.done rfl ?_;cases h;exact kr
    ·refine Tri.kp [10,0,8,9] [5000,5150] ?_;refine Tri.skip ?_;cases h;exact kr
   ·refine z05 ?_;refine At.sg 2 [0,5,6,8,9,10,37] [5,6,5000,5150] (z00 2) ?_;refine At.cs [37] h (fun h=>?_) (fun h=>?_)
    ·refine At.sg 5 [0,5,6,8,9,10,35] [5,6,5000,5150] (z00 5) ?_;refine At.done rfl ?_;exact⟨_,h,kr⟩
    ·refine At.sg 5 [0,5,6,8,9,10,35] [5,6,5000,5150] (z00 2) ?_;refine At.done rfl ?_;exact⟨_,h,kr⟩
 ·intro a3 h;cases h;exact RetAt.k
 ·exact fun x=>x.elim
theorem z9p {fuel:Nat}{p0:Disk}{q:Bool}(h:z3r fuel p0=some q):
 Summ Try.prog 38 [.agg (cDisk p0)] [] (cD (.bool q)) []:=by
 refine Summ.i Try.func38 rfl [] fun w0 G0 V LL φ0=>?_;unfold z3r at h;refine Tri.sg [1] [1] (z00 2) ?_;refine z03 ?_;refine z05 ?_;refine At.seg 3 [1,10] [1] (s':=⟨[(1,.c (.ptr 1 0)),(10,cD (dI (p0.files.length:Int)))],[(1,.box (cDisk p0))]⟩) (by kernel_rfl) (z00 3) ?_;obtain⟨hc1,h⟩:=z0k h;refine At.one rfl (zdf (e:=51) (es:=2) (bs:=32) (n:=0) (c:=(p0.files.length:Int)) (z:=[.d (.str (bs [])),.d (.str (bs []))]) (z01) ((⟨(bs []),(bs [])⟩:File):File) rfl rfl rfl rfl (by kernel_rfl) rfl rfl rfl (by kernel_rfl) rfl (by kernel_rfl) rfl (.refl _) rfl rfl rfl hc1.1 hc1.2.1 hc1.2.2 rfl) ?_;refine At.sg 2 [1,3] [1,3,11] (z00 2) ?_;refine At.done rfl ?_;refine z03 ?_;refine Tri.sg [1,3,13,14,15] [1,3,11] (z00 4) ?_;refine Tri.ln 13 p0.files.length fun hlena3=>?_;refine z3n 15 (List.replicate 0 ((⟨(bs []),(bs [])⟩:File):File)) (fun(x:Empty) s=>False) (fun(a3:List File)=>⟨[(1,.c (.ptr 1 0)),(3,.c (.ptr 3 0)),(13,cD (lD 2 z01 p0.files)),(14,cD (dI (p0.files.length:Int)))],[(1,.box (cDisk p0)),(3,.box [oC 11 2 a3]),(11,vL 2 z01 a3)]⟩) [15,1,3,13,14] [1,3,11] [16,15,1,3,13,14] [1,3,11] [1,3,13,14] [1,3,11] [15,1,3,13,14] [1,3,11] h hlena3 ?_ ?_ ?_
 ·intro i2 a3 c hii2 h;refine Tri.sg [1,3,5,13,14,15] [1,3,5,11] (ai (show((0:Int)≤((i2:Nat):Int)∧((i2:Nat):Int)<(p0.files.length:Int))from⟨by omega,by omega⟩) (z00 3)) ?_;refine z05 ?_;refine At.seg 4 [1,3,13,14,15,19,22] [1,3,11] (s':=⟨[(1,.c (.ptr 1 0)),(3,.c (.ptr 3 0)),(13,cD (lD 2 z01 p0.files)),(14,cD (dI (p0.files.length:Int))),(15,cD (dI ((i2:Nat):Int))),(19,.c (oC 11 2 a3)),(22,.agg [.d (.str ((p0.files.getD i2 zzd).name)),.d (.str (bs []))])],[(1,.box (cDisk p0)),(3,.box [oC 11 2 a3]),(11,vL 2 z01 a3)]⟩) (by kernel_rfl) (z00 4) ?_;refine At.one rfl (One.buildSlice (z:=[.d (.str (bs [])),.d (.str (bs []))]) (cells:=[.d (.str ((p0.files.getD i2 zzd).name)),.d (.str (bs []))]) (xs:=List.map (z01) ([(⟨(p0.files.getD i2 zzd).name,(bs [])⟩:File)]:List File)) rfl rfl rfl rfl (by kernel_rfl) rfl rfl (by kernel_rfl) rfl rfl rfl (by kernel_rfl) rfl ⟨⟨rfl,.refl _⟩,trivial⟩) ?_;refine At.l [23] ⟨[(23,cD (lD 2 z01 ([(⟨(p0.files.getD i2 zzd).name,(bs [])⟩:File)]:List File))),(1,.c (.ptr 1 0)),(3,.c (.ptr 3 0)),(13,cD (lD 2 z01 p0.files)),(14,cD (dI (p0.files.length:Int))),(15,cD (dI ((i2:Nat):Int))),(19,.c (oC 11 2 a3)),(22,.agg [.d (.str ((p0.files.getD i2 zzd).name)),.d (.str (bs []))])],[(1,.box (cDisk p0)),(3,.box [oC 11 2 a3]),(11,vL 2 z01 a3)]⟩ ⟨⟨_,rfl,.c (.own rfl (List.mem_singleton.2 rfl) (zz7 rfl) rfl (z30 (z01) ([(⟨(p0.files.getD i2 zzd).name,(bs [])⟩:File)]:List File)))⟩,⟨_,rfl,.refl _⟩,⟨_,rfl,.refl _⟩,⟨_,rfl,.refl _⟩,⟨_,rfl,.refl _⟩,⟨_,rfl,.refl _⟩,⟨_,rfl,.refl _⟩,⟨_,rfl,.refl _⟩,trivial⟩ ⟨⟨_,rfl,.refl _,(by simp)⟩,⟨_,rfl,.refl _,(by simp)⟩,⟨_,rfl,.refl _,(by simp)⟩,trivial⟩ ?_;obtain⟨hc9,h⟩:=z0k h;refine At.one rfl (z6i (e:=51) (es:=2) (z01) a3 ([(⟨(p0.files.getD i2 zzd).name,(bs [])⟩:File)]:List File) rfl rfl rfl rfl rfl (.of 51 32 [.d (.str (bs [])),.d (.str (bs []))] (by kernel_rfl) (by kernel_rfl) (by kernel_rfl) (by kernel_rfl) rfl (by kernel_rfl) rfl) rfl rfl rfl (.list rfl (fun _ _=>rfl)) hc9) ?_;refine At.sg 1 [15,1,3,13,14] [1,3,11] (z00 1) ?_;refine At.done rfl ?_;cases h;exact kr
 ·intro a4 h;refine z03 ?_;refine Tri.sg [3,27,28,29] [3,11] (z00 4) ?_;refine Tri.ln 27 p0.waits.length fun hlena6=>?_;refine z3n 29 (a4) (fun(x:Bool) s=>RetAt Try.prog Try.f38 (cD (.bool x)) [] s) (fun(a6:List File)=>⟨[(3,.c (.ptr 3 0)),(27,cD (lD 4 z02 p0.waits)),(28,cD (dI (p0.waits.length:Int)))],[(3,.box [oC 11 2 a6]),(11,vL 2 z01 a6)]⟩) [29,3,27,28] [3,11] [30,29,3,27,28] [3,11] [3,27,28] [3,11] [29,3,27,28] [3,11] h hlena6 ?_ ?_ ?_
  ·intro i5 a6 c hii5 h;refine Tri.sg [3,7,27,28,29] [3,7,11] (ai (show((0:Int)≤((i5:Nat):Int)∧((i5:Nat):Int)<(p0.waits.length:Int))from⟨by omega,by omega⟩) (z00 3)) ?_;refine Tri.sg [3,7,27,28,29] [3,7,11] (z00 2) ?_;refine z03 ?_;refine z05 ?_;refine At.seg 1 [3,27,28,29,34] [3,11] (s':=⟨[(3,.c (.ptr 3 0)),(27,cD (lD 4 z02 p0.waits)),(28,cD (dI (p0.waits.length:Int))),(29,cD (dI ((i5:Nat):Int))),(34,.agg [.d (.int .u8 ((p0.waits.getD i5 zzd).kind)),.d (.str ((p0.waits.getD i5 zzd).name)),.d (.str ((p0.waits.getD i5 zzd).to_)),.d (.str (bs []))])],[(3,.box [oC 11 2 a6]),(11,vL 2 z01 a6)]⟩) (by kernel_rfl) (z00 1) ?_;refine At.one rfl (One.buildSlice (z:=[.d (.int .u8 0),.d (.str (bs [])),.d (.str (bs [])),.d (.str (bs []))]) (cells:=[.d (.int .u8 ((p0.waits.getD i5 zzd).kind)),.d (.str ((p0.waits.getD i5 zzd).name)),.d (.str ((p0.waits.getD i5 zzd).to_)),.d (.str (bs []))]) (xs:=List.map (z02) ([(⟨(p0.waits.getD i5 zzd).kind,(p0.waits.getD i5 zzd).name,(p0.waits.getD i5 zzd).to_,(bs [])⟩:Write)]:List Write)) rfl rfl rfl rfl (by kernel_rfl) rfl rfl (by kernel_rfl) rfl rfl rfl (by kernel_rfl) rfl ⟨⟨rfl,.refl _⟩,trivial⟩) ?_;refine At.l [35] ⟨[(35,cD (lD 4 z02 ([(⟨(p0.waits.getD i5 zzd).kind,(p0.waits.getD i5 zzd).name,(p0.waits.getD i5 zzd).to_,(bs [])⟩:Write)]:List Write))),(3,.c (.ptr 3 0)),(27,cD (lD 4 z02 p0.waits)),(28,cD (dI (p0.waits.length:Int))),(29,cD (dI ((i5:Nat):Int))),(34,.agg [.d (.int .u8 ((p0.waits.getD i5 zzd).kind)),.d (.str ((p0.waits.getD i5 zzd).name)),.d (.str ((p0.waits.getD i5 zzd).to_)),.d (.str (bs []))])],[(3,.box [oC 11 2 a6]),(11,vL 2 z01 a6)]⟩ ⟨⟨_,rfl,.c (.own rfl (List.mem_singleton.2 rfl) (zz7 rfl) rfl (z30 (z02) ([(⟨(p0.waits.getD i5 zzd).kind,(p0.waits.getD i5 zzd).name,(p0.waits.getD i5 zzd).to_,(bs [])⟩:Write)]:List Write)))⟩,⟨_,rfl,.refl _⟩,⟨_,rfl,.refl _⟩,⟨_,rfl,.refl _⟩,⟨_,rfl,.refl _⟩,⟨_,rfl,.refl _⟩,trivial⟩ ⟨⟨_,rfl,.refl _,(by simp)⟩,⟨_,rfl,.refl _,(by simp)⟩,trivial⟩ ?_;obtain⟨r8,hr8,h⟩:=z04 h;refine z3i 0 [] [.c (.ptr 3 0),cD (lD 4 z02 ([(⟨(p0.waits.getD i5 zzd).kind,(p0.waits.getD i5 zzd).name,(p0.waits.getD i5 zzd).to_,(bs [])⟩:Write)]:List Write))] [(5000,3),(5100,11),(5150,11)] [3,27,28,29] [] (z1v hr8) (.ren rfl rfl (.flat (.refl _) rfl rfl .nil)) ?_;refine At.done rfl ?_;refine Tri.sg [3,27,28,29,39] [3,11] (z00 3) ?_;refine z07 h (fun h=>?_) (fun h=>?_)
   ·refine Tri.sg [2] [] (z00 1) ?_;refine Tri.ret ?_;cases h;exact RetAt.k
   ·refine Tri.kp [29,3,27,28] [3,11] ?_;refine Tri.skip ?_;cases h;exact kr
  ·intro a7 h;refine Tri.sg [2] [] (z00 1) ?_;refine Tri.ret ?_;cases h;exact RetAt.k
  ·exact fun x s hx hr=>by cases hx;exact hr
 ·exact fun x=>x.elim
theorem z35 {fuel:Nat}{p0:Disk}{q:Int}(h:z1j fuel p0=some q):
 Summ Try.prog 22 [.agg (cDisk p0)] [] (cD (dI q)) []:=by
 refine Summ.i Try.func22 rfl [] fun w0 G0 V LL φ0=>?_;unfold z1j at h;refine Tri.sg [1] [1] (z00 2) ?_;refine z11 (fun(a1:Bool)=>⟨[(1,.c (.ptr 1 0)),(3,cD (.bool a1))],[(1,.box (cDisk p0))]⟩) h (fun a1 h=>?_) (fun j2 h=>?_)
 ·refine z03 ?_;refine Tri.sg [1,3,22,23,24] [1] (z00 4) ?_;refine Tri.ln 22 p0.files.length fun hlena4=>?_;refine z3n 24 (a1) (fun(x:Empty) s=>False) (fun(a4:Bool)=>⟨[(1,.c (.ptr 1 0)),(3,cD (.bool a4)),(22,cD (lD 2 z01 p0.files)),(23,cD (dI (p0.files.length:Int)))],[(1,.box (cDisk p0))]⟩) [24,1,3,22,23] [1] [25,24,1,3,22,23] [1] [1,3,22,23] [1] [24,1,3,22,23] [1] h hlena4 ?_ ?_ ?_
  ·intro i3 a4 c hii3 h;refine z45 [1,3,4,5,22,23,24] [1,5] ⟨[(1,.c (.ptr 1 0)),(3,cD (.bool a4)),(4,cD (dI ((i3:Nat):Int))),(5,.c (.ptr 5 0)),(22,cD (lD 2 z01 p0.files)),(23,cD (dI (p0.files.length:Int))),(24,cD (dI ((i3:Nat):Int)))],[(1,.box (cDisk p0)),(5,.box (cFile (p0.files.getD i3 zzd)))]⟩ _ (by kernel_rfl) (tN 1 (ai (show((0:Int)≤((i3:Nat):Int)∧((i3:Nat):Int)<(p0.files.length:Int))from⟨by omega,by omega⟩) (z00 4))) ?_;rcases z6z h with⟨hp10,h⟩|⟨hp10,h⟩
   ·obtain⟨r11,hr11,h⟩:=z04 h;rcases z6z h with⟨hp12,h⟩|⟨hp12,h⟩
    ·rcases z6z h with⟨hp13,h⟩|⟨hp13,h⟩
     ·refine z27 [.a [3] [],.m ⟨[(29,cD (.bool a4))],[]⟩ ⟨[(30,.c (.d (.bool true)))],[]⟩ [] [] [],.a [5,30] [],.a [30,31] [5],.m ⟨[(30,cD (.bool true)),(32,cD (.str ((p0.files.getD i3 zzd).name)))],[]⟩ ⟨[(33,.c (oC 33 1 ([(p0.files.getD i3 zzd).name]:List ByteArray)))],[(33,vL 1 z0v ([(p0.files.getD i3 zzd).name]:List ByteArray))]⟩ [33] [] [],.m ⟨[(30,cD (.bool true)),(33,.c (oC 33 1 ([(p0.files.getD i3 zzd).name]:List ByteArray)))],[(33,vL 1 z0v ([(p0.files.getD i3 zzd).name]:List ByteArray))]⟩ ⟨[(34,cD (.bool r11))],[]⟩ [] [] [],.a [30,34] [],.m ⟨[(35,cD (.bool r11))],[]⟩ ⟨[(36,.c (.d (.bool true)))],[]⟩ [] [] [],.a [4,36] [],.a [36,37] [],.m ⟨[(36,cD (.bool true)),(38,cD (.bool (decide (((i3:Nat):Int)=0))))],[]⟩ ⟨[(39,.c (.d (.bool true)))],[]⟩ [] [] [],.a [1,39] [],.a [39,40] [],.a [4,39] [],.a [39,42] [],.a [39,41,43] [],.a [39,44] [],.a [39,45] [],.a [5,39] [],.a [39,47] [],.a [39,46,48] [],.a [36,39,49] [],.a [36,50] [],.a [51] []] [24,1,3,22,23] [1] (z00 9) (.a (.m ?_ (.a (.a (.m ?_ (.m ?_ (.a (.m ?_ (.a (.a (.m ?_ (.a (.a (.a (.a (.a (.a (.a (.a (.a (.a (.a (.a (.a .z)))))))))))))))))))))))) ?_
      ·exact z2o (fun b=> .val (.c (.d (.bool b))) (True)) (p:=a4) hp10 (fun r=>by kernel_rfl) (fun r=>by kernel_rfl) trivial (by kernel_rfl) (by kernel_rfl) (fun r=>rfl)
      ·exact DOk.one fun r hr=>z38 (e:=9) (es:=1) (z:=[.d (.str (bs []))]) (cells:=[.d (.str ((p0.files.getD i3 zzd).name))]) (z0v) ([(p0.files.getD i3 zzd).name]:List ByteArray) rfl (by kernel_rfl) rfl rfl (z1s (by kernel_rfl) (hr 33 (by simp))) (by kernel_rfl) rfl (by kernel_rfl) rfl rfl rfl (by kernel_rfl) rfl ⟨⟨rfl,.refl _⟩,trivial⟩
      ·exact DOk.cA [] [.c (oC 33 1 ([(p0.files.getD i3 zzd).name]:List ByteArray))] (z4p hr11) fun r=>(.cons (AVArg.view (z0v) ([(p0.files.getD i3 zzd).name]:List ByteArray) rfl) .nil)
      ·exact z2o (fun b=> .val (.c (.d (.bool b))) (True)) (p:=r11) hp12 (fun r=>by kernel_rfl) (fun r=>by kernel_rfl) trivial (by kernel_rfl) (by kernel_rfl) (fun r=>rfl)
      ·exact z2o (fun b=> .val (.c (.d (.bool b))) (True)) (p:=(decide (((i3:Nat):Int)=0))) hp13 (fun r=>by kernel_rfl) (fun r=>by kernel_rfl) trivial (by kernel_rfl) (by kernel_rfl) (fun r=>rfl)
      cases h;exact kr
     ·obtain⟨hc14,h⟩:=z0k h;refine z27 [.a [3] [],.m ⟨[(29,cD (.bool a4))],[]⟩ ⟨[(30,.c (.d (.bool true)))],[]⟩ [] [] [],.a [5,30] [],.a [30,31] [5],.m ⟨[(30,cD (.bool true)),(32,cD (.str ((p0.files.getD i3 zzd).name)))],[]⟩ ⟨[(33,.c (oC 33 1 ([(p0.files.getD i3 zzd).name]:List ByteArray)))],[(33,vL 1 z0v ([(p0.files.getD i3 zzd).name]:List ByteArray))]⟩ [33] [] [],.m ⟨[(30,cD (.bool true)),(33,.c (oC 33 1 ([(p0.files.getD i3 zzd).name]:List ByteArray)))],[(33,vL 1 z0v ([(p0.files.getD i3 zzd).name]:List ByteArray))]⟩ ⟨[(34,cD (.bool r11))],[]⟩ [] [] [],.a [30,34] [],.m ⟨[(35,cD (.bool r11))],[]⟩ ⟨[(36,.c (.d (.bool true)))],[]⟩ [] [] [],.a [4,36] [],.a [36,37] [],.m ⟨[(36,cD (.bool true)),(38,cD (.bool (decide (((i3:Nat):Int)=0))))],[]⟩ ⟨[(39,.c (.d (.bool false)))],[]⟩ [] [] [],.a [1,39] [],.a [39,40] [1],.a [4,39] [],.a [39,42] [],.a [39,41,43] [],.a [39,44] [],.a [39,45] [],.a [5,39] [],.a [39,47] [5],.a [39,46,48] [],.a [36,39,49] [],.a [36,50] [],.a [51] []] [24,1,3,22,23] [1] (tN 10 (ai hc14 (z00 8))) (.a (.m ?_ (.a (.a (.m ?_ (.m ?_ (.a (.m ?_ (.a (.a (.m ?_ (.a (.a (.a (.a (.a (.a (.a (.a (.a (.a (.a (.a (.a .z)))))))))))))))))))))))) ?_
      ·exact z2o (fun b=> .val (.c (.d (.bool b))) (True)) (p:=a4) hp10 (fun r=>by kernel_rfl) (fun r=>by kernel_rfl) trivial (by kernel_rfl) (by kernel_rfl) (fun r=>rfl)
      ·exact DOk.one fun r hr=>z38 (e:=9) (es:=1) (z:=[.d (.str (bs []))]) (cells:=[.d (.str ((p0.files.getD i3 zzd).name))]) (z0v) ([(p0.files.getD i3 zzd).name]:List ByteArray) rfl (by kernel_rfl) rfl rfl (z1s (by kernel_rfl) (hr 33 (by simp))) (by kernel_rfl) rfl (by kernel_rfl) rfl rfl rfl (by kernel_rfl) rfl ⟨⟨rfl,.refl _⟩,trivial⟩
      ·exact DOk.cA [] [.c (oC 33 1 ([(p0.files.getD i3 zzd).name]:List ByteArray))] (z4p hr11) fun r=>(.cons (AVArg.view (z0v) ([(p0.files.getD i3 zzd).name]:List ByteArray) rfl) .nil)
      ·exact z2o (fun b=> .val (.c (.d (.bool b))) (True)) (p:=r11) hp12 (fun r=>by kernel_rfl) (fun r=>by kernel_rfl) trivial (by kernel_rfl) (by kernel_rfl) (fun r=>rfl)
      ·exact z2o (fun b=> .val (.c (.d (.bool b))) (True)) (p:=(decide (((i3:Nat):Int)=0))) hp13 (fun r=>by kernel_rfl) (fun r=>by kernel_rfl) trivial (by kernel_rfl) (by kernel_rfl) (fun r=>rfl)
      cases h;exact kr
    ·refine z27 [.a [3] [],.m ⟨[(29,cD (.bool a4))],[]⟩ ⟨[(30,.c (.d (.bool true)))],[]⟩ [] [] [],.a [5,30] [],.a [30,31] [5],.m ⟨[(30,cD (.bool true)),(32,cD (.str ((p0.files.getD i3 zzd).name)))],[]⟩ ⟨[(33,.c (oC 33 1 ([(p0.files.getD i3 zzd).name]:List ByteArray)))],[(33,vL 1 z0v ([(p0.files.getD i3 zzd).name]:List ByteArray))]⟩ [33] [] [],.m ⟨[(30,cD (.bool true)),(33,.c (oC 33 1 ([(p0.files.getD i3 zzd).name]:List ByteArray)))],[(33,vL 1 z0v ([(p0.files.getD i3 zzd).name]:List ByteArray))]⟩ ⟨[(34,cD (.bool r11))],[]⟩ [] [] [],.a [30,34] [],.m ⟨[(35,cD (.bool r11))],[]⟩ ⟨[(36,.c (.d (.bool false)))],[]⟩ [] [] [],.a [4,36] [],.a [36,37] [],.a [36,38] [],.a [1,39] [],.a [39,40] [],.a [4,39] [],.a [39,42] [],.a [39,41,43] [],.a [39,44] [],.a [39,45] [],.a [5,39] [],.a [39,47] [],.a [39,46,48] [],.a [36,39,49] [],.a [36,50] [],.a [51] []] [24,1,3,22,23] [1] (z00 6) (.a (.m ?_ (.a (.a (.m ?_ (.m ?_ (.a (.m ?_ (.a (.a (.a (.a (.a (.a (.a (.a (.a (.a (.a (.a (.a (.a (.a (.a .z)))))))))))))))))))))))) ?_
     ·exact z2o (fun b=> .val (.c (.d (.bool b))) (True)) (p:=a4) hp10 (fun r=>by kernel_rfl) (fun r=>by kernel_rfl) trivial (by kernel_rfl) (by kernel_rfl) (fun r=>rfl)
     ·exact DOk.one fun r hr=>z38 (e:=9) (es:=1) (z:=[.d (.str (bs []))]) (cells:=[.d (.str ((p0.files.getD i3 zzd).name))]) (z0v) ([(p0.files.getD i3 zzd).name]:List ByteArray) rfl (by kernel_rfl) rfl rfl (z1s (by kernel_rfl) (hr 33 (by simp))) (by kernel_rfl) rfl (by kernel_rfl) rfl rfl rfl (by kernel_rfl) rfl ⟨⟨rfl,.refl _⟩,trivial⟩
     ·exact DOk.cA [] [.c (oC 33 1 ([(p0.files.getD i3 zzd).name]:List ByteArray))] (z4p hr11) fun r=>(.cons (AVArg.view (z0v) ([(p0.files.getD i3 zzd).name]:List ByteArray) rfl) .nil)
     ·exact z2o (fun b=> .val (.c (.d (.bool b))) (True)) (p:=r11) hp12 (fun r=>by kernel_rfl) (fun r=>by kernel_rfl) trivial (by kernel_rfl) (by kernel_rfl) (fun r=>rfl)
     cases h;exact kr
   ·refine z27 [.a [3] [],.m ⟨[(29,cD (.bool a4))],[]⟩ ⟨[(30,.c (.d (.bool false)))],[]⟩ [] [] [],.a [5,30] [],.a [30,31] [],.a [30,32] [],.a [30,33] [],.a [30,34] [],.a [35] [],.a [4,36] [],.a [36,37] [],.a [36,38] [],.a [1,39] [],.a [39,40] [],.a [4,39] [],.a [39,42] [],.a [39,41,43] [],.a [39,44] [],.a [39,45] [],.a [5,39] [],.a [39,47] [],.a [39,46,48] [],.a [36,39,49] [],.a [36,50] [],.a [51] []] [24,1,3,22,23] [1] (z00 5) (.a (.m ?_ (.a (.a (.a (.a (.a (.a (.a (.a (.a (.a (.a (.a (.a (.a (.a (.a (.a (.a (.a (.a (.a (.a .z)))))))))))))))))))))))) ?_
    ·exact z2o (fun b=> .val (.c (.d (.bool b))) (True)) (p:=a4) hp10 (fun r=>by kernel_rfl) (fun r=>by kernel_rfl) trivial (by kernel_rfl) (by kernel_rfl) (fun r=>rfl)
    cases h;exact kr
  ·intro a5 h;refine z03 ?_;refine z11 (fun(a6:Bool)=>⟨[(63,cD (.bool a6))],[]⟩) h (fun a6 h=>?_) (fun j7 h=>?_)
   ·refine z07 h (fun h=>?_) (fun h=>?_)
    ·refine Tri.sg [2] [] (z00 1) ?_;refine Tri.ret ?_;cases h;exact RetAt.k
    ·refine Tri.skip ?_;refine Tri.sg [2] [] (z00 1) ?_;refine Tri.ret ?_;cases h;exact RetAt.k
   ·refine z05 ?_;refine At.sg 3 [1,55] [1] (z00 3) ?_;refine At.cs [55] h (fun h=>?_) (fun h=>?_)
    ·refine At.sg 8 [63] [] (z00 3) ?_;refine At.done rfl ?_;exact⟨_,h,kr⟩
    ·refine At.sg 2 [1,55,57] [1] (z00 2) ?_;obtain⟨r8,hr8,h⟩:=z04 h;refine At.cA [] [cD (lD 4 z02 p0.waits),cD (.fn 36 [])] (z1g hr8) (.cons (.refl _) (.cons (.refl _) .nil)) ?_;refine At.sg 2 [1,60] [1] (z00 2) ?_;refine At.cs [60] h (fun h=>?_) (fun h=>?_)
     ·refine At.sg 3 [63] [] (z00 1) ?_;refine At.done rfl ?_;exact⟨_,h,kr⟩
     ·refine At.sg 1 [60,61] [] (z00 1) ?_;obtain⟨r9,hr9,h⟩:=z04 h;refine At.cA [] [.agg (cDisk p0)] (z9p hr9) (.cons (.refl _) .nil) ?_;refine At.sg 1 [63] [] (z00 1) ?_;refine At.done rfl ?_;exact⟨_,h,kr⟩
  ·exact fun x=>x.elim
 ·refine z05 ?_;refine At.sg 5 [1,10] [1] (z00 5) ?_;refine At.cs [10] h (fun h=>?_) (fun h=>?_)
  ·refine At.sg 6 [1,16] [1] (z00 6) ?_;refine At.cs [16] h (fun h=>?_) (fun h=>?_)
   ·refine At.sg 5 [1,3] [1] (z00 5) ?_;refine At.done rfl ?_;exact⟨_,h,kr⟩
   ·refine At.sg 5 [1,3] [1] (z00 2) ?_;refine At.done rfl ?_;exact⟨_,h,kr⟩
  ·refine At.sg 11 [1,3] [1] (z00 4) ?_;refine At.done rfl ?_;exact⟨_,h,kr⟩
theorem z1d {p0:List File}{q:List File}(h:z09 p0=some q):
 Summ Try.prog 42 [cD (lD 2 z01 p0)] [] (.c (oC 6000 2 q)) [(6000,vL 2 z01 q)]:=by
 refine Summ.i Try.func42 rfl [6000] fun w0 G0 V LL φ0=>?_;unfold z09 at h;refine Tri.sg [0] [] (z00 1) ?_;refine z03 ?_;refine z03 ?_;refine z05 ?_;refine At.seg 1 [0,3] [] (s':=⟨[(0,cD (lD 2 z01 p0)),(3,cD (lD 2 z01 p0))],[]⟩) (by kernel_rfl) (z00 1) ?_;have hnil:p0.length=0→(some ([]:List File))=(need (p0.length≤274877906944)<|some p0):=by intro h0;obtain rfl:=List.eq_nil_of_length_eq_zero h0;rfl
 refine z99 (e:=51) rfl rfl rfl rfl rfl (by kernel_rfl) rfl (fun h0=>?_) ?_
 ·replace h:=(hnil h0).trans h
  refine At.done rfl ?_;refine Tri.cond (b:=true) (by kernel_rfl) (fun _=>?_) (fun e=>by cases e);refine z45 [2] [] ⟨[(2,.c (.zero))],[]⟩ _ (by kernel_rfl) (z00 1) ?_;refine Tri.newOwn (t:=2) (k:=6000) (es:=2) (fun i=>z01 (([]:List File).getD i zzd)) rfl rfl rfl ?_;refine Tri.ret ?_;cases h;exact RetAt.k
 ·refine At.done rfl ?_;refine Tri.cond (b:=false) (by kernel_rfl) (fun e=>by cases e) (fun _=>?_);refine Tri.skip ?_;refine z03 ?_;refine z05 ?_;refine At.one rfl (z5j (e:=51) (es:=2) rfl rfl rfl rfl (by kernel_rfl) rfl) ?_;refine At.seg 1 [5,6] [] (s':=⟨[(5,.c (.zero)),(6,cD (lD 2 z01 p0))],[]⟩) (by kernel_rfl) (z00 1) ?_;obtain⟨hc1,h⟩:=z0k h;refine At.one rfl (z58 (e:=51) (es:=2) (m:=p0.length) (get:=fun i=>z01 (p0.getD i zzd)) rfl rfl rfl rfl (by kernel_rfl) (.of 51 32 [.d (.str (bs [])),.d (.str (bs []))] (by kernel_rfl) (by kernel_rfl) (by kernel_rfl) (by kernel_rfl) rfl (by kernel_rfl) rfl) rfl rfl (.list rfl (fun _ _=>rfl)) hc1) ?_;refine At.sg 1 [2] [7] (z00 1) ?_;refine At.done rfl ?_;refine Tri.keep [2] [7] (s':=⟨[(2,.c (oC 7 2 p0))],[(7,vL 2 z01 p0)]⟩) (by kernel_rfl) ?_;refine Tri.rename 7 6000 ⟨[(2,.c (oC 6000 2 p0))],[(6000,vL 2 z01 p0)]⟩ (by kernel_rfl) rfl rfl rfl ?_;refine Tri.ret ?_;cases h;exact RetAt.k
theorem z2j {p0:List Write}{q:List Write}(h:z0p p0=some q):
 Summ Try.prog 44 [cD (lD 4 z02 p0)] [] (.c (oC 6000 4 q)) [(6000,vL 4 z02 q)]:=by
 refine Summ.i Try.func44 rfl [6000] fun w0 G0 V LL φ0=>?_;unfold z0p at h;refine Tri.sg [0] [] (z00 1) ?_;refine z03 ?_;refine z03 ?_;refine z05 ?_;refine At.seg 1 [0,3] [] (s':=⟨[(0,cD (lD 4 z02 p0)),(3,cD (lD 4 z02 p0))],[]⟩) (by kernel_rfl) (z00 1) ?_;have hnil:p0.length=0→(some ([]:List Write))=(need (p0.length≤274877906944)<|some p0):=by intro h0;obtain rfl:=List.eq_nil_of_length_eq_zero h0;rfl
 refine z99 (e:=45) rfl rfl rfl rfl rfl (by kernel_rfl) rfl (fun h0=>?_) ?_
 ·replace h:=(hnil h0).trans h
  refine At.done rfl ?_;refine Tri.cond (b:=true) (by kernel_rfl) (fun _=>?_) (fun e=>by cases e);refine z45 [2] [] ⟨[(2,.c (.zero))],[]⟩ _ (by kernel_rfl) (z00 1) ?_;refine Tri.newOwn (t:=2) (k:=6000) (es:=4) (fun i=>z02 (([]:List Write).getD i zzd)) rfl rfl rfl ?_;refine Tri.ret ?_;cases h;exact RetAt.k
 ·refine At.done rfl ?_;refine Tri.cond (b:=false) (by kernel_rfl) (fun e=>by cases e) (fun _=>?_);refine Tri.skip ?_;refine z03 ?_;refine z05 ?_;refine At.one rfl (z5j (e:=45) (es:=4) rfl rfl rfl rfl (by kernel_rfl) rfl) ?_;refine At.seg 1 [5,6] [] (s':=⟨[(5,.c (.zero)),(6,cD (lD 4 z02 p0))],[]⟩) (by kernel_rfl) (z00 1) ?_;obtain⟨hc1,h⟩:=z0k h;refine At.one rfl (z58 (e:=45) (es:=4) (m:=p0.length) (get:=fun i=>z02 (p0.getD i zzd)) rfl rfl rfl rfl (by kernel_rfl) (.of 45 56 [.d (.int .u8 0),.d (.str (bs [])),.d (.str (bs [])),.d (.str (bs []))] (by kernel_rfl) (by kernel_rfl) (by kernel_rfl) (by kernel_rfl) rfl (by kernel_rfl) rfl) rfl rfl (.list rfl (fun _ _=>rfl)) hc1) ?_;refine At.sg 1 [2] [7] (z00 1) ?_;refine At.done rfl ?_;refine Tri.keep [2] [7] (s':=⟨[(2,.c (oC 7 4 p0))],[(7,vL 4 z02 p0)]⟩) (by kernel_rfl) ?_;refine Tri.rename 7 6000 ⟨[(2,.c (oC 6000 4 p0))],[(6000,vL 4 z02 p0)]⟩ (by kernel_rfl) rfl rfl rfl ?_;refine Tri.ret ?_;cases h;exact RetAt.k
theorem z52 {fuel:Nat}{p1:ByteArray}{l0:List File}{v1 v2 v3 v4 v5:Go.Value}{q:File×Bool×(List File)}(h:z2w fuel p1 l0=some q):
 Summ Try.prog 56 [.c (.ptr 5000 0),cD (.str p1)] [(5000,.box [oC 5100 2 l0,.raw v1,.raw v2,.raw v3,.raw v4,.raw v5]),(5100,vL 2 z01 l0)] (.tup [(true,[.d (.str q.1.name),.d (.str q.1.data)]),(false,[.d (.bool q.2.1)])]) [(5150,vL 2 z01 q.2.2),(5000,.box [oC 5150 2 q.2.2,.raw v1,.raw v2,.raw v3,.raw v4,.raw v5])]:=by
 refine Summ.i Try.func56 rfl [5150] fun w0 G0 V LL φ0=>?_;unfold z2w at h;refine Tri.rename 5100 5150 ⟨[(0,.c (.ptr 5000 0)),(1,cD (.str p1))],[(5000,.box [oC 5150 2 l0,.raw v1,.raw v2,.raw v3,.raw v4,.raw v5]),(5150,vL 2 z01 l0)]⟩ (by kernel_rfl) rfl rfl rfl ?_;refine Tri.sg [0,1,4] [4,5000,5150] (z00 2) ?_;refine z03 ?_;refine z05 ?_;refine At.seg 4 [0,4,12,13] [4,5000,5150] (s':=⟨[(0,.c (.ptr 5000 0)),(4,.c (.ptr 4 0)),(12,.c (oC 5150 2 l0)),(13,cD (.str p1))],[(4,.box [.d (.str (bs [])),.d (.str (bs []))]),(5000,.box [oC 5150 2 l0,.raw v1,.raw v2,.raw v3,.raw v4,.raw v5]),(5150,vL 2 z01 l0)]⟩) (by kernel_rfl) (z00 4) ?_;obtain⟨r1,hr1,h⟩:=z04 h;refine At.cA [] [.c (oC 5150 2 l0),cD (.str p1)] (z14 hr1) (.cons (AVArg.view (z01) l0 rfl) (.cons (.refl _) .nil)) ?_;refine At.sg 5 [0,4,6,7] [4,5000,5150] (z00 5) ?_;refine At.done rfl ?_;refine z03 ?_;refine Tri.sg [0,4,6,18] [4,5000,5150] (z00 2) ?_;refine z07 h (fun h=>?_) (fun h=>?_)
 ·refine Tri.sg [4,5] [4,5000,5150] (z00 3) ?_;refine Tri.ret ?_;cases h;exact RetAt.k
 ·refine Tri.skip ?_;obtain⟨hc2,h⟩:=z0k h;obtain⟨hc3,h⟩:=z0k h;refine Tri.sg [0,4,6,8] [4,8,5000,5150] (tN 4 (ai hc2 (ai hc3 (z00 2)))) ?_;refine z03 ?_;refine z05 ?_;refine At.seg 7 [4,8,26,29,30,32] [4,8,5000,5150] (s':=⟨[(4,.c (.ptr 4 0)),(8,.c (.ptr 8 0)),(26,.c (.ptr 5000 0)),(29,.c (oC 5150 2 l0)),(30,cD (dI r1.1)),(32,cD (dI (zzi.wrap (r1.1+1))))],[(4,.box [.d (.str (bs [])),.d (.str (bs []))]),(8,.box (cFile (l0.getD (0+r1.1.toNat) zzd))),(5000,.box [oC 5150 2 l0,.raw v1,.raw v2,.raw v3,.raw v4,.raw v5]),(5150,vL 2 z01 l0)]⟩) (by kernel_rfl) (z00 7) ?_;obtain⟨r4,hr4,h⟩:=z04 h;refine At.one rfl (z63 (k:=5150) (d:=33) (v:=vL 2 z01 r4) (av:= .c (oC 5150 2 r4)) (nf:=0) (caps:=[]) (xs:=[.c (oC 5150 2 l0),cD (dI r1.1),cD (dI (zzi.wrap (r1.1+1)))]) [(5000,5150),(6000,5150)] (z41 hr4) rfl rfl (by kernel_rfl) rfl (by kernel_rfl) (by kernel_rfl) (.ren rfl rfl (.flat (.refl _) rfl rfl (.flat (.refl _) rfl rfl .nil))) ⟨⟨by kernel_rfl,by kernel_rfl⟩,trivial⟩ (by kernel_rfl) (by kernel_rfl) (by kernel_rfl) (by kernel_rfl) (by kernel_rfl) (by kernel_rfl) (by kernel_rfl) (by first|kernel_rfl|(show _=_;kernel_rfl)) (by first|kernel_rfl|(show _=_;kernel_rfl))) ?_;refine At.sg 2 [4,8] [4,8,5000,5150] (z00 2) ?_;refine At.done rfl ?_;refine Tri.sg [4,5] [4,5000,5150] (z00 3) ?_;refine Tri.ret ?_;cases h;exact RetAt.k
theorem z3u {fuel:Nat}{p1:File}{l0:List File}{v1 v2 v3 v4 v5:Go.Value}{q:List File}(h:z23 fuel p1 l0=some q):
 Summ Try.prog 57 [.c (.ptr 5000 0),.agg (cFile p1)] [(5000,.box [oC 5100 2 l0,.raw v1,.raw v2,.raw v3,.raw v4,.raw v5]),(5100,vL 2 z01 l0)] (.tup []) [(5150,vL 2 z01 q),(5000,.box [oC 5150 2 q,.raw v1,.raw v2,.raw v3,.raw v4,.raw v5])]:=by
 refine Summ.i Try.func57 rfl [5150] fun w0 G0 V LL φ0=>?_;unfold z23 at h;refine Tri.rename 5100 5150 ⟨[(0,.c (.ptr 5000 0)),(1,.agg (cFile p1))],[(5000,.box [oC 5150 2 l0,.raw v1,.raw v2,.raw v3,.raw v4,.raw v5]),(5150,vL 2 z01 l0)]⟩ (by kernel_rfl) rfl rfl rfl ?_;refine Tri.sg [0,3] [3,5000,5150] (z00 1) ?_;refine z03 ?_;obtain⟨r1,hr1,h⟩:=z04 h;refine z27 [.a [0] [],.a [7] [],.a [8] [5000],.a [3] [],.a [10] [3],.m ⟨[(9,.c (oC 5150 2 l0)),(11,cD (.str p1.name))],[(5150,vL 2 z01 l0)]⟩ ⟨[(12,.tup [(false,[.d (dI r1.1)]),(false,[.d (.bool r1.2)])])],[]⟩ [] [] [],.a [12] [],.a [6] [],.a [6] [],.a [13] [],.a [14] []] [0,3,4,5] [3,5000,5150] (z00 10) (.a (.a (.a (.a (.a (.m ?_ (.a (.a (.a (.a (.a .z))))))))))) ?_
 ·exact DOk.cA [] [.c (oC 5150 2 l0),cD (.str p1.name)] (z14 hr1) fun r=>(.cons (AVArg.view (z01) l0 rfl) (.cons (.refl _) .nil))
 refine z03 ?_;refine z45 [0,3,4,15] [3,5000,5150] ⟨[(0,.c (.ptr 5000 0)),(3,.c (.ptr 3 0)),(4,cD (dI r1.1)),(15,cD (.bool r1.2))],[(3,.box (cFile p1)),(5000,.box [oC 5150 2 l0,.raw v1,.raw v2,.raw v3,.raw v4,.raw v5]),(5150,vL 2 z01 l0)]⟩ _ (by kernel_rfl) (z00 1) ?_;refine z07 h (fun h=>?_) (fun h=>?_)
 ·refine z03 ?_;obtain⟨hc2,h⟩:=z0k h;obtain⟨hc3,h⟩:=z0k h;refine z9d ⟨[],[(5000,.box [oC 5150 2 l0,.raw v1,.raw v2,.raw v3,.raw v4,.raw v5]),(5150,vL 2 z01 (l0.set (0+r1.1.toNat) p1))]⟩ ?_ ?_
  ·refine z7v ⟨[],[(5000,.box [oC 5150 2 l0,.raw v1,.raw v2,.raw v3,.raw v4,.raw v5]),(5150,vL 2 z01 (l0.set (0+r1.1.toNat) p1))]⟩ [.a [0] [],.a [16] [],.a [17] [5000],.a [4] [],.a [3] [3],.a [18,19] [5150],.m ⟨[(20,.agg (cFile p1)),(21,.c (.vptr 5150 2 (0+r1.1.toNat) 0))],[(5150,vL 2 z01 l0)]⟩ ⟨[],[(5150,vL 2 z01 (l0.set (0+r1.1.toNat) p1))]⟩ [] [] []] [] [5000,5150] (tN 5 (ai hc2 trivial)) (.a (.a (.a (.a (.a (.a (.m ?_ .z))))))) ?_
   ·exact DOk.one fun r hr=>z9b (xs:=[.d (.str p1.name),.d (.str p1.data)]) (ds:=[.str p1.name,.str p1.data]) (z01) l0 p1 rfl (by kernel_rfl) rfl rfl rfl hc3 rfl rfl (.refl _) rfl rfl rfl rfl
   exact⟨rfl,rfl⟩
  ·refine At.eqS (s':=⟨[],[(5000,.box [oC 5150 2 (l0.set (0+r1.1.toNat) p1),.raw v1,.raw v2,.raw v3,.raw v4,.raw v5]),(5150,vL 2 z01 (l0.set (0+r1.1.toNat) p1))]⟩) (by simp only[oC,vL,List.length_set]) ?_;refine At.done rfl ?_;refine Tri.ret ?_;cases h;exact RetAt.k
 ·refine Tri.skip ?_;obtain⟨r4,hr4,h⟩:=z04 h;refine z27 [.a [0] [],.a [0] [],.a [23] [],.a [24] [5000],.a [4] [],.a [3] [3],.m ⟨[(27,.agg (cFile p1))],[]⟩ ⟨[(28,.c (oC 28 2 ([p1]:List File)))],[(28,vL 2 z01 ([p1]:List File))]⟩ [28] [] [],.m ⟨[(25,.c (oC 5150 2 l0)),(26,cD (dI r1.1)),(28,.c (oC 28 2 ([p1]:List File)))],[(28,vL 2 z01 ([p1]:List File)),(5000,.box [oC 5150 2 l0,.raw v1,.raw v2,.raw v3,.raw v4,.raw v5]),(5150,vL 2 z01 l0)]⟩ ⟨[(29,.c (oC 5150 2 r4)),(25,.c (.any))],[(5150,vL 2 z01 r4),(5000,.box [.any,.raw v1,.raw v2,.raw v3,.raw v4,.raw v5])]⟩ [5150] [25] [5000],.a [22] [],.m ⟨[(29,.c (oC 5150 2 r4)),(30,.c (.ptr 5000 0))],[(5000,.box [.any,.raw v1,.raw v2,.raw v3,.raw v4,.raw v5]),(5150,vL 2 z01 r4)]⟩ ⟨[],[(5000,.box [oC 5150 2 r4,.raw v1,.raw v2,.raw v3,.raw v4,.raw v5])]⟩ [] [] []] [] [5000,5150] (z00 7) (.a (.a (.a (.a (.a (.a (.m ?_ (.m ?_ (.a (.m ?_ .z)))))))))) ?_
  ·exact DOk.one fun r hr=>z38 (e:=51) (es:=2) (z:=[.d (.str (bs [])),.d (.str (bs []))]) (cells:=[.d (.str p1.name),.d (.str p1.data)]) (z01) ([p1]:List File) rfl (by kernel_rfl) rfl rfl (z1s (by kernel_rfl) (hr 28 (by simp))) (by kernel_rfl) rfl (by kernel_rfl) rfl rfl rfl (by kernel_rfl) rfl ⟨⟨rfl,.refl _⟩,trivial⟩
  ·exact DOk.drop (k:=5150) (d:=29) (v:=vL 2 z01 r4) (av:= .c (oC 5150 2 r4)) rfl (fun r hr=>z63 (nf:=0) (caps:=[]) (xs:=[.c (oC 5150 2 l0),cD (dI r1.1),.c (oC 28 2 ([p1]:List File))]) [(5000,5150),(6000,5150)] (z3h hr4) rfl rfl (by kernel_rfl) rfl (by kernel_rfl) (by kernel_rfl) (.ren rfl rfl (.flat (.refl _) rfl rfl (.flat (AVArg.view (z01) ([p1]:List File) rfl) rfl rfl .nil))) ⟨⟨by kernel_rfl,by kernel_rfl⟩,trivial⟩ (by kernel_rfl) (by kernel_rfl) (by kernel_rfl) (by kernel_rfl) (by kernel_rfl) (by kernel_rfl) (by kernel_rfl) (by first|kernel_rfl|(show _=_;kernel_rfl)) (by first|kernel_rfl|(show _=_;kernel_rfl))) (by kernel_rfl) (by kernel_rfl) (by kernel_rfl) (by kernel_rfl)
  ·exact DOk.step (.turn 5000 (.box [oC 5150 2 r4,.raw v1,.raw v2,.raw v3,.raw v4,.raw v5])) (fun r=>by kernel_rfl) (fun r=>by kernel_rfl) trivial (by kernel_rfl) (by kernel_rfl) (fun r=>rfl)
  cases h;exact RetAt.k
theorem z50 {fuel:Nat}{p1:List Write}{l0:List File}{v1 v2 v3 v4 v5:Go.Value}{q:List File}(h:z2a fuel p1 l0=some q):
 Summ Try.prog 43 [.c (.ptr 5000 0),.c (wC 4 z02 p1)] [(5000,.box [oC 5100 2 l0,.raw v1,.raw v2,.raw v3,.raw v4,.raw v5]),(5100,vL 2 z01 l0)] (.tup []) [(5150,vL 2 z01 q),(5000,.box [oC 5150 2 q,.raw v1,.raw v2,.raw v3,.raw v4,.raw v5])]:=by
 refine Summ.i Try.func43 rfl [5150] fun w0 G0 V LL φ0=>?_;unfold z2a at h;refine Tri.rename 5100 5150 ⟨[(0,.c (.ptr 5000 0)),(1,.c (wC 4 z02 p1))],[(5000,.box [oC 5150 2 l0,.raw v1,.raw v2,.raw v3,.raw v4,.raw v5]),(5150,vL 2 z01 l0)]⟩ (by kernel_rfl) rfl rfl rfl ?_;refine Tri.sg [0,8,9,10] [5000,5150] (z00 3) ?_;refine Tri.ln 8 p1.length fun hlena2=>?_;refine z3n 10 (l0) (fun(x:Empty) s=>False) (fun(a2:List File)=>⟨[(0,.c (.ptr 5000 0)),(8,.c (wC 4 z02 p1)),(9,cD (dI (p1.length:Int)))],[(5000,.box [oC 5150 2 a2,.raw v1,.raw v2,.raw v3,.raw v4,.raw v5]),(5150,vL 2 z01 a2)]⟩) [10,0,8,9] [5000,5150] [11,10,0,8,9] [5000,5150] [] [5000,5150] [10,0,8,9] [5000,5150] h hlena2 ?_ ?_ ?_
 ·intro i1 a2 c hii1 h;refine Tri.sg [0,5,8,9,10] [5,5000,5150] (ai (show((0:Int)≤((i1:Nat):Int)∧((i1:Nat):Int)<(p1.length:Int))from⟨by omega,by omega⟩) (z00 3)) ?_;refine z03 ?_;refine z05 ?_;refine At.seg 3 [0,5,8,9,10,15,17] [5,5000,5150] (s':=⟨[(0,.c (.ptr 5000 0)),(5,.c (.ptr 5 0)),(8,.c (wC 4 z02 p1)),(9,cD (dI (p1.length:Int))),(10,cD (dI ((i1:Nat):Int))),(15,.c (.ptr 5000 0)),(17,cD (.str ((p1.getD i1 zzd).name)))],[(5,.box (cWrite (p1.getD i1 zzd))),(5000,.box [oC 5150 2 a2,.raw v1,.raw v2,.raw v3,.raw v4,.raw v5]),(5150,vL 2 z01 a2)]⟩) (by kernel_rfl) (z00 3) ?_;obtain⟨r4,hr4,h⟩:=z04 h;refine At.callR (sl3:=[(5150,vL 2 z01 r4.2.2),(5000,.box [oC 5150 2 r4.2.2,.raw v1,.raw v2,.raw v3,.raw v4,.raw v5])]) (nf:=0) (caps:=[]) (xs:=[.c (.ptr 5000 0),cD (.str ((p1.getD i1 zzd).name))]) [(5000,5000),(5100,5150),(5150,5150)] [0,5,8,9,10] [5] (s0:=⟨[(0,.c (.ptr 5000 0)),(5,.c (.ptr 5 0)),(8,.c (wC 4 z02 p1)),(9,cD (dI (p1.length:Int))),(10,cD (dI ((i1:Nat):Int)))],[(5,.box (cWrite (p1.getD i1 zzd)))]⟩) 5000 [false,true,true,true,true,true] [oC 5150 2 a2,.raw v1,.raw v2,.raw v3,.raw v4,.raw v5] [oC 5150 2 r4.2.2,.raw v1,.raw v2,.raw v3,.raw v4,.raw v5] (fun u=>z52 (v1:=u 1) (v2:=u 2) (v3:=u 3) (v4:=u 4) (v5:=u 5) hr4) rfl rfl (fun u=>by kernel_rfl) rfl (fun u=>by kernel_rfl) (fun u=>by kernel_rfl) (fun u=>(.ren rfl rfl (.flat (.refl _) rfl rfl .nil))) (fun u=>⟨⟨by kernel_rfl,by kernel_rfl⟩,⟨by kernel_rfl,by kernel_rfl⟩,trivial⟩) (fun u=>by kernel_rfl) (fun u=>by kernel_rfl) (fun u=>by kernel_rfl) (fun u=>by kernel_rfl) rfl (fun u=>by kernel_rfl) (fun u=>by kernel_rfl) rfl rfl (fun u=>by kernel_rfl) (by kernel_rfl) (fun u=>by kernel_rfl) (fun u=>by kernel_rfl) (fun u=>by kernel_rfl) (fun u=>by kernel_rfl) ⟨[(18,.tup [(true,[.d (.str r4.1.name),.d (.str r4.1.data)]),(false,[.d (.bool r4.2.1)])]),(0,.c (.ptr 5000 0)),(5,.c (.ptr 5 0)),(8,.c (wC 4 z02 p1)),(9,cD (dI (p1.length:Int))),(10,cD (dI ((i1:Nat):Int)))],[(5150,vL 2 z01 r4.2.2),(5000,.box [oC 5150 2 r4.2.2,.raw v1,.raw v2,.raw v3,.raw v4,.raw v5]),(5,.box (cWrite (p1.getD i1 zzd)))]⟩ (by kernel_rfl) ?_;refine At.sg 6 [0,5,6,7,8,9,10] [5,6,5000,5150] (z00 6) ?_;refine At.done rfl ?_;refine z3z ?_;refine Tri.sg [0,5,6,7,8,9,10,21] [5,6,5000,5150] (z00 4) ?_;refine z07 h (fun h=>?_) (fun h=>?_)
  ·refine z05 ?_;obtain⟨hc5,h⟩:=z0k h;refine At.seg 9 [0,8,9,10,25,33] [5000,5150] (s':=⟨[(0,.c (.ptr 5000 0)),(8,.c (wC 4 z02 p1)),(9,cD (dI (p1.length:Int))),(10,cD (dI ((i1:Nat):Int))),(25,.c (.ptr 5000 0)),(33,.agg [.d (.str ((p1.getD i1 zzd).name)),.d (.str (r4.1.data++((p1.getD i1 zzd).data)))])],[(5000,.box [oC 5150 2 r4.2.2,.raw v1,.raw v2,.raw v3,.raw v4,.raw v5]),(5150,vL 2 z01 r4.2.2)]⟩) (by kernel_rfl) (tN 7 (ai hc5 (z00 1))) ?_;obtain⟨r6,hr6,h⟩:=z04 h;refine At.callR (sl3:=[(5150,vL 2 z01 r6),(5000,.box [oC 5150 2 r6,.raw v1,.raw v2,.raw v3,.raw v4,.raw v5])]) (nf:=0) (caps:=[]) (xs:=[.c (.ptr 5000 0),.agg [.d (.str ((p1.getD i1 zzd).name)),.d (.str (r4.1.data++((p1.getD i1 zzd).data)))]]) [(5000,5000),(5100,5150),(5150,5150)] [0,8,9,10] [] (s0:=⟨[(0,.c (.ptr 5000 0)),(8,.c (wC 4 z02 p1)),(9,cD (dI (p1.length:Int))),(10,cD (dI ((i1:Nat):Int)))],[]⟩) 5000 [false,true,true,true,true,true] [oC 5150 2 r4.2.2,.raw v1,.raw v2,.raw v3,.raw v4,.raw v5] [oC 5150 2 r6,.raw v1,.raw v2,.raw v3,.raw v4,.raw v5] (fun u=>z3u (v1:=u 1) (v2:=u 2) (v3:=u 3) (v4:=u 4) (v5:=u 5) hr6) rfl rfl (fun u=>by kernel_rfl) rfl (fun u=>by kernel_rfl) (fun u=>by kernel_rfl) (fun u=>(.ren rfl rfl (.flat (.refl _) rfl rfl .nil))) (fun u=>⟨⟨by kernel_rfl,by kernel_rfl⟩,⟨by kernel_rfl,by kernel_rfl⟩,trivial⟩) (fun u=>by kernel_rfl) (fun u=>by kernel_rfl) (fun u=>by kernel_rfl) (fun u=>by kernel_rfl) rfl (fun u=>by kernel_rfl) (fun u=>by kernel_rfl) rfl rfl (fun u=>by kernel_rfl) (by kernel_rfl) (fun u=>by kernel_rfl) (fun u=>by kernel_rfl) (fun u=>by kernel_rfl) (fun u=>by kernel_rfl) ⟨[(34,.tup []),(0,.c (.ptr 5000 0)),(8,.c (wC 4 z02 p1)),(9,cD (dI (p1.length:Int))),(10,cD (dI ((i1:Nat):Int)))],[(5150,vL 2 z01 r6),(5000,.box [oC 5150 2 r6,.raw v1,.raw v2,.raw v3,.raw v4,.raw v5])]⟩ (by kernel_rfl) ?_;refine At.keep [10,0,8,9] [5000,5150] (s':=⟨[(10,cD (dI ((i1:Nat):Int))),(0,.c (.ptr 5000 0)),(8,.c (wC 4 z02 p1)),(9,cD (dI (p1.length:Int)))],[(5000,.box [oC 5150 2 r6,.raw v1,.raw v2,.raw v3,.raw v4,.raw v5]),(5150,vL 2 z01 r6)]⟩) (by kernel_rfl) ?_;refine At.done rfl ?_;cases h;exact kr
  ·refine z11 (fun(a7:Bool)=>⟨[(0,.c (.ptr 5000 0)),(5,.c (.ptr 5 0)),(6,.c (.ptr 6 0)),(8,.c (wC 4 z02 p1)),(9,cD (dI (p1.length:Int))),(10,cD (dI ((i1:Nat):Int))),(35,cD (.bool a7))],[(5,.box (cWrite (p1.getD i1 zzd))),(6,.box (cFile r4.1)),(5000,.box [oC 5150 2 r4.2.2,.raw v1,.raw v2,.raw v3,.raw v4,.raw v5]),(5150,vL 2 z01 r4.2.2)]⟩) h (fun a7 h=>?_) (fun j8 h=>?_)
   ·refine z07 h (fun h=>?_) (fun h=>?_)
    ·refine z05 ?_;refine At.seg 6 [0,8,9,10,42,47] [5000,5150] (s':=⟨[(0,.c (.ptr 5000 0)),(8,.c (wC 4 z02 p1)),(9,cD (dI (p1.length:Int))),(10,cD (dI ((i1:Nat):Int))),(42,.c (.ptr 5000 0)),(47,.agg [.d (.str ((p1.getD i1 zzd).to_)),.d (.str r4.1.data)])],[(5000,.box [oC 5150 2 r4.2.2,.raw v1,.raw v2,.raw v3,.raw v4,.raw v5]),(5150,vL 2 z01 r4.2.2)]⟩) (by kernel_rfl) (z00 6) ?_;obtain⟨r9,hr9,h⟩:=z04 h;refine At.callR (sl3:=[(5150,vL 2 z01 r9),(5000,.box [oC 5150 2 r9,.raw v1,.raw v2,.raw v3,.raw v4,.raw v5])]) (nf:=0) (caps:=[]) (xs:=[.c (.ptr 5000 0),.agg [.d (.str ((p1.getD i1 zzd).to_)),.d (.str r4.1.data)]]) [(5000,5000),(5100,5150),(5150,5150)] [0,8,9,10] [] (s0:=⟨[(0,.c (.ptr 5000 0)),(8,.c (wC 4 z02 p1)),(9,cD (dI (p1.length:Int))),(10,cD (dI ((i1:Nat):Int)))],[]⟩) 5000 [false,true,true,true,true,true] [oC 5150 2 r4.2.2,.raw v1,.raw v2,.raw v3,.raw v4,.raw v5] [oC 5150 2 r9,.raw v1,.raw v2,.raw v3,.raw v4,.raw v5] (fun u=>z3u (v1:=u 1) (v2:=u 2) (v3:=u 3) (v4:=u 4) (v5:=u 5) hr9) rfl rfl (fun u=>by kernel_rfl) rfl (fun u=>by kernel_rfl) (fun u=>by kernel_rfl) (fun u=>(.ren rfl rfl (.flat (.refl _) rfl rfl .nil))) (fun u=>⟨⟨by kernel_rfl,by kernel_rfl⟩,⟨by kernel_rfl,by kernel_rfl⟩,trivial⟩) (fun u=>by kernel_rfl) (fun u=>by kernel_rfl) (fun u=>by kernel_rfl) (fun u=>by kernel_rfl) rfl (fun u=>by kernel_rfl) (fun u=>by kernel_rfl) rfl rfl (fun u=>by kernel_rfl) (by kernel_rfl) (fun u=>by kernel_rfl) (fun u=>by kernel_rfl) (fun u=>by kernel_rfl) (fun u=>by kernel_rfl) ⟨[(48,.tup []),(0,.c (.ptr 5000 0)),(8,.c (wC 4 z02 p1)),(9,cD (dI (p1.length:Int))),(10,cD (dI ((i1:Nat):Int)))],[(5150,vL 2 z01 r9),(5000,.box [oC 5150 2 r9,.raw v1,.raw v2,.raw v3,.raw v4,.raw v5])]⟩ (by kernel_rfl) ?_;refine At.keep [10,0,8,9] [5000,5150] (s':=⟨[(10,cD (dI ((i1:Nat):Int))),(0,.c (.ptr 5000 0)),(8,.c (wC 4 z02 p1)),(9,cD (dI (p1.length:Int)))],[(5000,.box [oC 5150 2 r9,.raw v1,.raw v2,.raw v3,.raw v4,.raw v5]),(5150,vL 2 z01 r9)]⟩) (by kernel_rfl) ?_;refine At.done rfl ?_;cases h;exact kr
    ·refine Tri.kp [10,0,8,9] [5000,5150] ?_;refine Tri.skip ?_;cases h;exact kr
   ·refine z05 ?_;refine At.sg 2 [0,5,6,8,9,10,37] [5,6,5000,5150] (z00 2) ?_;refine At.cs [37] h (fun h=>?_) (fun h=>?_)
    ·refine At.sg 5 [0,5,6,8,9,10,35] [5,6,5000,5150] (z00 5) ?_;refine At.done rfl ?_;exact⟨_,h,kr⟩
    ·refine At.sg 5 [0,5,6,8,9,10,35] [5,6,5000,5150] (z00 2) ?_;refine At.done rfl ?_;exact⟨_,h,kr⟩
 ·intro a3 h;cases h;exact RetAt.k
 ·exact fun x=>x.elim
theorem z2i {p0:List File}{q:List File}(h:z09 p0=some q):
 Summ Try.prog 42 [.c (wC 2 z01 p0)] [] (.c (oC 6000 2 q)) [(6000,vL 2 z01 q)]:=by
 refine Summ.i Try.func42 rfl [6000] fun w0 G0 V LL φ0=>?_;unfold z09 at h;refine Tri.sg [0] [] (z00 1) ?_;refine z03 ?_;refine z03 ?_;refine z05 ?_;refine At.seg 1 [0,3] [] (s':=⟨[(0,.c (wC 2 z01 p0)),(3,.c (wC 2 z01 p0))],[]⟩) (by kernel_rfl) (z00 1) ?_;have hnil:p0.length=0→(some ([]:List File))=(need (p0.length≤274877906944)<|some p0):=by intro h0;obtain rfl:=List.eq_nil_of_length_eq_zero h0;rfl
 refine z8o (e:=51) rfl rfl rfl rfl rfl (by kernel_rfl) rfl (fun h0=>?_) ?_
 ·replace h:=(hnil h0).trans h
  refine At.done rfl ?_;refine Tri.cond (b:=true) (by kernel_rfl) (fun _=>?_) (fun e=>by cases e);refine z45 [2] [] ⟨[(2,.c (.zero))],[]⟩ _ (by kernel_rfl) (z00 1) ?_;refine Tri.newOwn (t:=2) (k:=6000) (es:=2) (fun i=>z01 (([]:List File).getD i zzd)) rfl rfl rfl ?_;refine Tri.ret ?_;cases h;exact RetAt.k
 ·refine At.done rfl ?_;refine Tri.cond (b:=false) (by kernel_rfl) (fun e=>by cases e) (fun _=>?_);refine Tri.skip ?_;refine z03 ?_;refine z05 ?_;refine At.one rfl (z5j (e:=51) (es:=2) rfl rfl rfl rfl (by kernel_rfl) rfl) ?_;refine At.seg 1 [5,6] [] (s':=⟨[(5,.c (.zero)),(6,.c (wC 2 z01 p0))],[]⟩) (by kernel_rfl) (z00 1) ?_;obtain⟨hc1,h⟩:=z0k h;refine At.one rfl (z58 (e:=51) (es:=2) (m:=p0.length) (get:=fun i=>z01 (p0.getD i zzd)) rfl rfl rfl rfl (by kernel_rfl) (.of 51 32 [.d (.str (bs [])),.d (.str (bs []))] (by kernel_rfl) (by kernel_rfl) (by kernel_rfl) (by kernel_rfl) rfl (by kernel_rfl) rfl) rfl rfl (.view rfl (fun _ _=>rfl)) hc1) ?_;refine At.sg 1 [2] [7] (z00 1) ?_;refine At.done rfl ?_;refine Tri.keep [2] [7] (s':=⟨[(2,.c (oC 7 2 p0))],[(7,vL 2 z01 p0)]⟩) (by kernel_rfl) ?_;refine Tri.rename 7 6000 ⟨[(2,.c (oC 6000 2 p0))],[(6000,vL 2 z01 p0)]⟩ (by kernel_rfl) rfl rfl rfl ?_;refine Tri.ret ?_;cases h;exact RetAt.k
theorem z4z {fuel:Nat}{p0:Disk}{q:Desk}(h:z46 fuel p0=some q):
 Summ Try.prog 26 [.agg (cDisk p0)] [] (.c (.ptr 6000 0)) [(6100,vL 2 z01 q.files),(6101,vL 2 z01 q.disk.files),(6102,vL 4 z02 q.disk.waits),(6000,.box [oC 6100 2 q.files,oC 6101 2 q.disk.files,oC 6102 4 q.disk.waits,.d (dI q.disk.room),.d (.bool q.disk.down),.d (dI q.disk.fuse)])]:=by
 refine Summ.i Try.func26 rfl [6000,6100,6101,6102] fun w0 G0 V LL φ0=>?_;unfold z46 at h;refine Tri.sg [1] [1] (z00 2) ?_;refine z03 ?_;obtain⟨r1,hr1,h⟩:=z04 h;obtain⟨r2,hr2,h⟩:=z04 h;refine z27 [.a [1] [],.a [4] [1],.m ⟨[(5,cD (lD 2 z01 p0.files))],[]⟩ ⟨[(6,.c (oC 30096 2 r1))],[(30096,vL 2 z01 r1)]⟩ [30096] [] [],.a [1] [],.a [7] [1],.m ⟨[(8,cD (lD 4 z02 p0.waits))],[]⟩ ⟨[(9,.c (oC 30144 4 r2))],[(30144,vL 4 z02 r2)]⟩ [30144] [] [],.a [1] [],.m ⟨[(6,.c (oC 30096 2 r1)),(10,.c (.ptr 1 0))],[(1,.box (cDisk p0)),(30096,vL 2 z01 r1)]⟩ ⟨[],[(1,.box [oC 30096 2 r1,.d (lD 4 z02 p0.waits),.d (dI p0.room),.d (.bool p0.down),.d (dI p0.fuse)])]⟩ [] [] [],.a [1] [],.m ⟨[(9,.c (oC 30144 4 r2)),(11,.c (.ptr 1 1))],[(1,.box [oC 30096 2 r1,.d (lD 4 z02 p0.waits),.d (dI p0.room),.d (.bool p0.down),.d (dI p0.fuse)]),(30144,vL 4 z02 r2)]⟩ ⟨[],[(1,.box [oC 30096 2 r1,oC 30144 4 r2,.d (dI p0.room),.d (.bool p0.down),.d (dI p0.fuse)])]⟩ [] [] []] [1] [1,30096,30144] (z00 6) (.a (.a (.m ?_ (.a (.a (.m ?_ (.a (.m ?_ (.a (.m ?_ .z)))))))))) ?_
 ·exact DOk.callL (nf:=0) (caps:=[]) (xs:=[cD (lD 2 z01 p0.files)]) [(6000,30096)] (z1d hr1) rfl (fun r=>by kernel_rfl) rfl (fun r=>by kernel_rfl) (fun r=>by kernel_rfl) (fun r=>(.flat (.refl _) rfl rfl .nil)) (fun r=>trivial) (by kernel_rfl) (by kernel_rfl) (by kernel_rfl) (by kernel_rfl) (by kernel_rfl) (by kernel_rfl) (by kernel_rfl) (by kernel_rfl) (by kernel_rfl) (by kernel_rfl) (by first|kernel_rfl|(show _=_;kernel_rfl))
 ·exact DOk.callL (nf:=0) (caps:=[]) (xs:=[cD (lD 4 z02 p0.waits)]) [(6000,30144)] (z2j hr2) rfl (fun r=>by kernel_rfl) rfl (fun r=>by kernel_rfl) (fun r=>by kernel_rfl) (fun r=>(.flat (.refl _) rfl rfl .nil)) (fun r=>trivial) (by kernel_rfl) (by kernel_rfl) (by kernel_rfl) (by kernel_rfl) (by kernel_rfl) (by kernel_rfl) (by kernel_rfl) (by kernel_rfl) (by kernel_rfl) (by kernel_rfl) (by first|kernel_rfl|(show _=_;kernel_rfl))
 ·exact DOk.step (.turn 1 (.box [oC 30096 2 r1,.d (lD 4 z02 p0.waits),.d (dI p0.room),.d (.bool p0.down),.d (dI p0.fuse)])) (fun r=>by kernel_rfl) (fun r=>by kernel_rfl) trivial (by kernel_rfl) (by kernel_rfl) (fun r=>rfl)
 ·exact DOk.step (.turn 1 (.box [oC 30096 2 r1,oC 30144 4 r2,.d (dI p0.room),.d (.bool p0.down),.d (dI p0.fuse)])) (fun r=>by kernel_rfl) (fun r=>by kernel_rfl) trivial (by kernel_rfl) (by kernel_rfl) (fun r=>rfl)
 refine z03 ?_;obtain⟨r3,hr3,h⟩:=z04 h;refine z27 [.a [1] [],.a [12] [1],.m ⟨[(13,.c (oC 30096 2 r1))],[(30096,vL 2 z01 r1)]⟩ ⟨[(14,.c (oC 30224 2 r3))],[(30224,vL 2 z01 r3)]⟩ [30224] [] [],.a [1] [1],.a [14,15] [],.m ⟨[(16,.agg [oC 30224 2 r3,oC 30096 2 r1,oC 30144 4 r2,.d (dI p0.room),.d (.bool p0.down),.d (dI p0.fuse)])],[]⟩ ⟨[(17,.c (.ptr 17 0))],[(17,.box [oC 30224 2 r3,oC 30096 2 r1,oC 30144 4 r2,.d (dI p0.room),.d (.bool p0.down),.d (dI p0.fuse)])]⟩ [17] [] [],.a [17] []] [1,3] [1,17,30096,30144,30224] (z00 5) (.a (.a (.m ?_ (.a (.a (.m ?_ (.a .z))))))) ?_
 ·exact DOk.callL (nf:=0) (caps:=[]) (xs:=[.c (oC 30096 2 r1)]) [(6000,30224)] (z2i hr3) rfl (fun r=>by kernel_rfl) rfl (fun r=>by kernel_rfl) (fun r=>by kernel_rfl) (fun r=>(.flat (AVArg.view (z01) r1 rfl) rfl rfl .nil)) (fun r=>trivial) (by kernel_rfl) (by kernel_rfl) (by kernel_rfl) (by kernel_rfl) (by kernel_rfl) (by kernel_rfl) (by kernel_rfl) (by kernel_rfl) (by kernel_rfl) (by kernel_rfl) (by first|kernel_rfl|(show _=_;kernel_rfl))
 ·exact DOk.step (.new (.box [oC 30224 2 r3,oC 30096 2 r1,oC 30144 4 r2,.d (dI p0.room),.d (.bool p0.down),.d (dI p0.fuse)]) (.c (.ptr 17 0))) (fun r=>by kernel_rfl) (fun r=>by kernel_rfl) trivial (by kernel_rfl) (by kernel_rfl) (fun r=>rfl)
 refine z03 ?_;obtain⟨r4,hr4,h⟩:=z04 h;refine z27 [.a [3] [],.a [18] [],.a [19] [],.a [1] [],.a [21] [1],.m ⟨[(20,.c (.ptr 17 0)),(22,.c (oC 30144 4 r2))],[(17,.box [oC 30224 2 r3,oC 30096 2 r1,oC 30144 4 r2,.d (dI p0.room),.d (.bool p0.down),.d (dI p0.fuse)]),(30144,vL 4 z02 r2),(30224,vL 2 z01 r3)]⟩ ⟨[(23,.tup [])],[(30224,vL 2 z01 r4),(17,.box [oC 30224 2 r4,oC 30096 2 r1,oC 30144 4 r2,.d (dI p0.room),.d (.bool p0.down),.d (dI p0.fuse)])]⟩ [30224] [] [17]] [3] [17,30096,30144,30224] (z00 5) (.a (.a (.a (.a (.a (.m ?_ .z)))))) ?_
 ·exact DOk.callR (sl3:=[(30224,vL 2 z01 r4),(17,.box [oC 30224 2 r4,oC 30096 2 r1,oC 30144 4 r2,.d (dI p0.room),.d (.bool p0.down),.d (dI p0.fuse)])]) (nf:=0) (caps:=[]) (xs:=[.c (.ptr 17 0),.c (oC 30144 4 r2)]) [(5000,17),(5100,30224),(5150,30224)] 17 [false,true,true,true,true,true] [oC 30224 2 r3,oC 30096 2 r1,oC 30144 4 r2,.d (dI p0.room),.d (.bool p0.down),.d (dI p0.fuse)] [oC 30224 2 r4,oC 30096 2 r1,oC 30144 4 r2,.d (dI p0.room),.d (.bool p0.down),.d (dI p0.fuse)] [5000,5100] [5150,5000] (fun u=>z50 (v1:=u 1) (v2:=u 2) (v3:=u 3) (v4:=u 4) (v5:=u 5) hr4) rfl (fun r u=>by kernel_rfl) rfl (fun r u=>by kernel_rfl) (fun r u=>by kernel_rfl) (fun r u=>(.ren rfl rfl (.flat (AVArg.view (z02) r2 rfl) rfl rfl .nil))) (fun r u=>⟨⟨by kernel_rfl,by kernel_rfl⟩,⟨by kernel_rfl,by kernel_rfl⟩,trivial⟩) (fun u=>by kernel_rfl) (fun u=>by kernel_rfl) (fun u=>by kernel_rfl) (fun u=>by kernel_rfl) (fun r=>rfl) (fun u=>by kernel_rfl) (fun u=>by kernel_rfl) rfl rfl (fun u=>by kernel_rfl) (fun u=>by kernel_rfl) (fun u=>by kernel_rfl) (by kernel_rfl) (by kernel_rfl) (by kernel_rfl) (by kernel_rfl) (by kernel_rfl) (by kernel_rfl) (by first|kernel_rfl|(show _=_;kernel_rfl))
 refine Tri.sg [2] [17,30096,30144,30224] (z00 2) ?_;refine Tri.keep [2] [17,30096,30144,30224] (s':=⟨[(2,.c (.ptr 17 0))],[(17,.box [oC 30224 2 r4,oC 30096 2 r1,oC 30144 4 r2,.d (dI p0.room),.d (.bool p0.down),.d (dI p0.fuse)]),(30096,vL 2 z01 r1),(30144,vL 4 z02 r2),(30224,vL 2 z01 r4)]⟩) (by kernel_rfl) ?_;refine Tri.rename 17 6000 ⟨[(2,.c (.ptr 6000 0))],[(6000,.box [oC 30224 2 r4,oC 30096 2 r1,oC 30144 4 r2,.d (dI p0.room),.d (.bool p0.down),.d (dI p0.fuse)]),(30096,vL 2 z01 r1),(30144,vL 4 z02 r2),(30224,vL 2 z01 r4)]⟩ (by kernel_rfl) rfl rfl rfl ?_;refine Tri.keep [2] [6000,30096,30144,30224] (s':=⟨[(2,.c (.ptr 6000 0))],[(6000,.box [oC 30224 2 r4,oC 30096 2 r1,oC 30144 4 r2,.d (dI p0.room),.d (.bool p0.down),.d (dI p0.fuse)]),(30096,vL 2 z01 r1),(30144,vL 4 z02 r2),(30224,vL 2 z01 r4)]⟩) (by kernel_rfl) ?_;refine Tri.rename 30224 6100 ⟨[(2,.c (.ptr 6000 0))],[(6000,.box [oC 6100 2 r4,oC 30096 2 r1,oC 30144 4 r2,.d (dI p0.room),.d (.bool p0.down),.d (dI p0.fuse)]),(30096,vL 2 z01 r1),(30144,vL 4 z02 r2),(6100,vL 2 z01 r4)]⟩ (by kernel_rfl) rfl rfl rfl ?_;refine Tri.keep [2] [6000,30096,30144,6100] (s':=⟨[(2,.c (.ptr 6000 0))],[(6000,.box [oC 6100 2 r4,oC 30096 2 r1,oC 30144 4 r2,.d (dI p0.room),.d (.bool p0.down),.d (dI p0.fuse)]),(30096,vL 2 z01 r1),(30144,vL 4 z02 r2),(6100,vL 2 z01 r4)]⟩) (by kernel_rfl) ?_;refine Tri.rename 30096 6101 ⟨[(2,.c (.ptr 6000 0))],[(6000,.box [oC 6100 2 r4,oC 6101 2 r1,oC 30144 4 r2,.d (dI p0.room),.d (.bool p0.down),.d (dI p0.fuse)]),(6101,vL 2 z01 r1),(30144,vL 4 z02 r2),(6100,vL 2 z01 r4)]⟩ (by kernel_rfl) rfl rfl rfl ?_;refine Tri.keep [2] [6000,6101,30144,6100] (s':=⟨[(2,.c (.ptr 6000 0))],[(6000,.box [oC 6100 2 r4,oC 6101 2 r1,oC 30144 4 r2,.d (dI p0.room),.d (.bool p0.down),.d (dI p0.fuse)]),(6101,vL 2 z01 r1),(30144,vL 4 z02 r2),(6100,vL 2 z01 r4)]⟩) (by kernel_rfl) ?_;refine Tri.rename 30144 6102 ⟨[(2,.c (.ptr 6000 0))],[(6000,.box [oC 6100 2 r4,oC 6101 2 r1,oC 6102 4 r2,.d (dI p0.room),.d (.bool p0.down),.d (dI p0.fuse)]),(6101,vL 2 z01 r1),(6102,vL 4 z02 r2),(6100,vL 2 z01 r4)]⟩ (by kernel_rfl) rfl rfl rfl ?_;refine Tri.ret ?_;cases h;exact RetAt.k
theorem z8u {fuel:Nat}{p0:Disk}{q:(List File)×Int}(h:z4o fuel p0=some q):
 Summ Try.prog 17 [.agg (cDisk p0)] [] (.tup [(false,[.d (lD 2 z01 q.1)]),(false,[.d (dI q.2)])]) []:=by
 refine Summ.i Try.func17 rfl [] fun w0 G0 V LL φ0=>?_;unfold z4o at h;refine Tri.sg [1] [1] (z00 3) ?_;refine z03 ?_;refine z03 ?_;refine z05 ?_;refine At.sg 1 [1,5] [1] (z00 1) ?_;obtain⟨r1,hr1,h⟩:=z04 h;refine At.cA [] [.agg (cDisk p0)] (z35 hr1) (.cons (.refl _) .nil) ?_;refine At.sg 1 [1,4] [1] (z00 1) ?_;refine At.done rfl ?_;refine Tri.sg [1,4,8] [1] (z00 2) ?_;refine z07 h (fun h=>?_) (fun h=>?_)
 ·refine Tri.sg [2,3] [] (z00 3) ?_;refine Tri.keep [2,3] [] (s':=⟨[(2,.c (.zero)),(3,cD (dI r1))],[]⟩) (by kernel_rfl) ?_;refine Tri.l [] ⟨[(2,cD (lD 2 z01 ([]:List File))),(3,cD (dI r1))],[]⟩ ⟨⟨_,rfl,.c (.zero _ _)⟩,⟨_,rfl,.refl _⟩,trivial⟩ trivial ?_;refine Tri.ret ?_;cases h;exact RetAt.k
 ·refine Tri.skip ?_;refine z03 ?_;refine Tri.sg [1,11] [1] (z00 2) ?_;refine z07 h (fun h=>?_) (fun h=>?_)
  ·refine Tri.sg [2,3] [] (z00 2) ?_;refine Tri.keep [2,3] [] (s':=⟨[(2,.c (.zero)),(3,cD (dI 7))],[]⟩) (by kernel_rfl) ?_;refine Tri.l [] ⟨[(2,cD (lD 2 z01 ([]:List File))),(3,cD (dI 7))],[]⟩ ⟨⟨_,rfl,.c (.zero _ _)⟩,⟨_,rfl,.refl _⟩,trivial⟩ trivial ?_;refine Tri.ret ?_;cases h;exact RetAt.k
  ·refine Tri.skip ?_;refine z03 ?_;refine z05 ?_;refine At.sg 1 [12] [] (z00 1) ?_;obtain⟨r2,hr2,h⟩:=z04 h;refine z3i 0 [] [.agg (cDisk p0)] [(6000,30223),(6100,30220),(6101,30219),(6102,30218)] [] [] (z4z hr2) (.flat (.refl _) rfl rfl .nil) ?_;refine At.sg 5 [2,3] [30220] (z00 5) ?_;refine At.done rfl ?_;refine Tri.keep [2,3] [30220] (s':=⟨[(2,.c (oC 30220 2 r2.files)),(3,cD (dI 0))],[(30220,vL 2 z01 r2.files)]⟩) (by kernel_rfl) ?_;refine Tri.l [30220] ⟨[(2,cD (lD 2 z01 r2.files)),(3,cD (dI 0))],[]⟩ ⟨⟨_,rfl,.c (CLe.frozen (z01) r2.files rfl (by simp))⟩,⟨_,rfl,.refl _⟩,trivial⟩ trivial ?_;refine Tri.ret ?_;cases h;exact RetAt.k
theorem z24 {fuel:Nat}{p0:List File}{p1:ByteArray}{q:Int×Bool}(h:z0b fuel p0 p1=some q):
 Summ Try.prog 48 [cD (lD 2 z01 p0),cD (.str p1),cD (.fn 49 [])] [] (.tup [(false,[.d (dI q.1)]),(false,[.d (.bool q.2)])]) []:=by
 refine Summ.i Try.func48 rfl [] fun w0 G0 V LL φ0=>?_;unfold z0b at h;refine Tri.sg [0,1,2] [] (z00 2) ?_;refine Tri.sg [0,1,2,8] [] (z00 3) ?_;refine Tri.sg [0,1,2,8,9,10] [] (z00 3) ?_;refine z03 ?_;refine zbd (0,(p0.length:Int)) (fun(x:Empty) s=>False) (fun(a1:Int×Int)=>⟨[(0,cD (lD 2 z01 p0)),(1,cD (.str p1)),(2,cD (.fn 49 [])),(8,cD (dI (p0.length:Int))),(9,cD (dI a1.1)),(10,cD (dI a1.2))],[]⟩) [0,1,2,8,9,10] [] h ?_ ?_ ?_
 ·intro a1 c h;refine z03 ?_;refine Tri.sg [0,1,2,8,9,10,17] [] (z00 3) ?_;refine z07 h (fun h=>?_) (fun h=>?_)
  ·refine Tri.skip ?_;refine z3z ?_;refine Tri.sg [0,1,2,8,9,10,11] [] (tN 4 (ai (show((0:Int)≤1)from(by decide:(0:Int)≤1)) (z00 2))) ?_;refine z03 ?_;refine z05 ?_;obtain⟨hc7,h⟩:=z0k h;refine At.sg 6 [0,1,2,8,9,10,11,24,28,29] [] (tN 3 (ai hc7 (z00 2))) ?_;obtain⟨r8,hr8,h⟩:=z04 h;refine At.cA [] [.agg (cFile (p0.getD ((zzi.wrap (shrOp .u64 (zzu.wrap (zzi.wrap (a1.1+a1.2))) 1)).toNat) zzd)),cD (.str p1)] (z1o hr8) (.cons (.refl _) (.cons (.refl _) .nil)) ?_;refine At.sg 1 [0,1,2,8,9,10,11,31] [] (z00 1) ?_;refine At.done rfl ?_;refine z07 h (fun h=>?_) (fun h=>?_)
   ·refine z05 ?_;refine At.sg 3 [0,1,2,8,9,10] [] (z00 3) ?_;refine At.done rfl ?_;cases h;exact kr
   ·refine z05 ?_;refine At.sg 2 [0,1,2,8,9,10] [] (z00 2) ?_;refine At.done rfl ?_;cases h;exact kr
  ·refine Tri.kp [0,1,2,8,9,10] [] ?_;refine Tri.exit ?_;cases h;exact⟨rfl,kr⟩
 ·intro a2 h;refine z11 (fun(a3:Bool)=>⟨[(6,cD (dI a2.1)),(7,cD (.bool a3))],[]⟩) h (fun a3 h=>?_) (fun j4 h=>?_)
  ·refine Tri.ret ?_;cases h;exact RetAt.k
  ·refine z05 ?_;refine At.sg 5 [0,1,2,9,35,39] [] (z00 5) ?_;refine At.cs [39] h (fun h=>?_) (fun h=>?_)
   ·obtain⟨hc5,h⟩:=z0k h;refine At.sg 6 [35,39,40,44,45] [] (tN 3 (ai hc5 (z00 2))) ?_;obtain⟨r6,hr6,h⟩:=z04 h;refine At.cA [] [.agg (cFile (p0.getD a2.1.toNat zzd)),cD (.str p1)] (z1o hr6) (.cons (.refl _) (.cons (.refl _) .nil)) ?_;refine At.sg 4 [6,7] [] (z00 4) ?_;refine At.done rfl ?_;exact⟨_,h,kr⟩
   ·refine At.sg 11 [6,7] [] (z00 3) ?_;refine At.done rfl ?_;exact⟨_,h,kr⟩
 ·exact fun x=>x.elim
theorem z5e {fuel:Nat}{p0:List File}{p1:ByteArray}{q:Int×Bool}(h:z0d fuel p0 p1=some q):
 Summ Try.prog 32 [cD (lD 2 z01 p0),cD (.str p1)] [] (.tup [(false,[.d (dI q.1)]),(false,[.d (.bool q.2)])]) []:=by
 refine Summ.i Try.func32 rfl [] fun w0 G0 V LL φ0=>?_;unfold z0d at h;refine Tri.sg [0,1] [] (z00 2) ?_;refine z03 ?_;refine z05 ?_;refine At.sg 2 [6,7] [] (z00 2) ?_;obtain⟨r1,hr1,h⟩:=z04 h;refine At.cA [] [cD (lD 2 z01 p0),cD (.str p1),cD (.fn 49 [])] (z24 hr1) (.cons (.refl _) (.cons (.refl _) (.cons (.refl _) .nil))) ?_;refine At.sg 4 [4,5] [] (z00 4) ?_;refine At.done rfl ?_;refine Tri.ret ?_;cases h;exact RetAt.k
theorem z81 {fuel:Nat}{p0:Disk}{p1:ByteArray}{q:ByteArray×Int}(h:z65 fuel p0 p1=some q):
 Summ Try.prog 19 [.agg (cDisk p0),cD (.str p1)] [] (.tup [(false,[.d (.str q.1)]),(false,[.d (dI q.2)])]) []:=by
 refine Summ.i Try.func19 rfl [] fun w0 G0 V LL φ0=>?_;unfold z65 at h;refine Tri.sg [1,2] [2] (z00 3) ?_;refine z03 ?_;refine z05 ?_;refine At.sg 1 [1,11] [] (z00 1) ?_;obtain⟨r1,hr1,h⟩:=z04 h;refine At.cA [] [.agg (cDisk p0)] (z8u hr1) (.cons (.refl _) .nil) ?_;refine At.sg 5 [1,6,7] [] (z00 5) ?_;refine At.done rfl ?_;refine z03 ?_;refine Tri.sg [1,6,7,16] [] (z00 2) ?_;refine z07 h (fun h=>?_) (fun h=>?_)
 ·refine Tri.sg [4,5] [] (z00 3) ?_;refine Tri.ret ?_;cases h;exact RetAt.k
 ·refine Tri.skip ?_;refine z03 ?_;refine z05 ?_;refine At.sg 2 [6,19,20] [] (z00 2) ?_;obtain⟨r2,hr2,h⟩:=z04 h;refine At.cA [] [cD (lD 2 z01 r1.1),cD (.str p1)] (z5e hr2) (.cons (.refl _) (.cons (.refl _) .nil)) ?_;refine At.sg 5 [6,8,9] [] (z00 5) ?_;refine At.done rfl ?_;refine z03 ?_;refine Tri.sg [6,8,25] [] (z00 2) ?_;refine z07 h (fun h=>?_) (fun h=>?_)
  ·refine Tri.sg [4,5] [] (z00 2) ?_;refine Tri.ret ?_;cases h;exact RetAt.k
  ·refine Tri.skip ?_;obtain⟨hc3,h⟩:=z0k h;refine Tri.sg [4,5] [] (tN 2 (ai hc3 (z00 4))) ?_;refine Tri.ret ?_;cases h;exact RetAt.k
theorem z43 {p0:ByteArray}{p1:ByteArray}{q:Write}(h:z34 p0 p1=some q):
 Summ Try.prog 31 [cD (.str p0),cD (.str p1)] [] (.agg (cWrite q)) []:=by
 refine Summ.i Try.func31 rfl [] fun w0 G0 V LL φ0=>?_;unfold z34 at h;refine Tri.sg [0,1,4] [4] (z00 1) ?_;refine Tri.sg [4] [4] (z00 4) ?_;refine Tri.ret ?_;cases h;exact RetAt.k
theorem z5o {p0:List File}{q:List File}(h:z3m p0=some q):
 Summ Try.prog 45 [.c (wC 2 z01 p0)] [] (.c (oC 6000 2 q)) [(6000,vL 2 z01 q)]:=by
 refine Summ.i Try.func45 rfl [6000] fun w0 G0 V LL φ0=>?_;unfold z3m at h;refine Tri.sg [0] [] (z00 1) ?_;refine z03 ?_;refine z03 ?_;refine z05 ?_;refine At.seg 1 [0,3] [] (s':=⟨[(0,.c (wC 2 z01 p0)),(3,.c (wC 2 z01 p0))],[]⟩) (by kernel_rfl) (z00 1) ?_;have hnil:p0.length=0→(some ([]:List File))=(need (p0.length≤274877906944)<|some p0):=by intro h0;obtain rfl:=List.eq_nil_of_length_eq_zero h0;rfl
 refine z8o (e:=51) rfl rfl rfl rfl rfl (by kernel_rfl) rfl (fun h0=>?_) ?_
 ·replace h:=(hnil h0).trans h
  refine At.done rfl ?_;refine Tri.cond (b:=true) (by kernel_rfl) (fun _=>?_) (fun e=>by cases e);refine z45 [2] [] ⟨[(2,.c (.zero))],[]⟩ _ (by kernel_rfl) (z00 1) ?_;refine Tri.newOwn (t:=2) (k:=6000) (es:=2) (fun i=>z01 (([]:List File).getD i zzd)) rfl rfl rfl ?_;refine Tri.ret ?_;cases h;exact RetAt.k
 ·refine At.done rfl ?_;refine Tri.cond (b:=false) (by kernel_rfl) (fun e=>by cases e) (fun _=>?_);refine Tri.skip ?_;refine z03 ?_;refine z05 ?_;refine At.one rfl (z5j (e:=51) (es:=2) rfl rfl rfl rfl (by kernel_rfl) rfl) ?_;refine At.seg 1 [5,6] [] (s':=⟨[(5,.c (.zero)),(6,.c (wC 2 z01 p0))],[]⟩) (by kernel_rfl) (z00 1) ?_;obtain⟨hc1,h⟩:=z0k h;refine At.one rfl (z58 (e:=51) (es:=2) (m:=p0.length) (get:=fun i=>z01 (p0.getD i zzd)) rfl rfl rfl rfl (by kernel_rfl) (.of 51 32 [.d (.str (bs [])),.d (.str (bs []))] (by kernel_rfl) (by kernel_rfl) (by kernel_rfl) (by kernel_rfl) rfl (by kernel_rfl) rfl) rfl rfl (.view rfl (fun _ _=>rfl)) hc1) ?_;refine At.sg 1 [2] [7] (z00 1) ?_;refine At.done rfl ?_;refine Tri.keep [2] [7] (s':=⟨[(2,.c (oC 7 2 p0))],[(7,vL 2 z01 p0)]⟩) (by kernel_rfl) ?_;refine Tri.rename 7 6000 ⟨[(2,.c (oC 6000 2 p0))],[(6000,vL 2 z01 p0)]⟩ (by kernel_rfl) rfl rfl rfl ?_;refine Tri.ret ?_;cases h;exact RetAt.k
theorem z4s {p0:List File}{p1:Int}{q:Bool}(h:z1k p0 p1=some q):
 Summ Try.prog 46 [.c (wC 2 z01 p0),cD (dI p1)] [] (cD (.bool q)) []:=by
 refine Summ.i Try.func46 rfl [] fun w0 G0 V LL φ0=>?_;unfold z1k at h;refine Tri.sg [0,1] [] (z00 1) ?_;refine z03 ?_;refine Tri.sg [0,1,7,8,9] [] (z00 3) ?_;refine Tri.ln 7 p0.length fun hlena2=>?_;refine z3n 9 (p1) (fun(x:Bool) s=>RetAt Try.prog Try.f46 (cD (.bool x)) [] s) (fun(a2:Int)=>⟨[(0,.c (wC 2 z01 p0)),(1,cD (dI a2)),(7,.c (wC 2 z01 p0)),(8,cD (dI (p0.length:Int)))],[]⟩) [9,0,1,7,8] [] [10,9,0,1,7,8] [] [0,1,7,8] [] [9,0,1,7,8] [] h hlena2 ?_ ?_ ?_
 ·intro i1 a2 c hii1 h;refine Tri.sg [0,1,6,7,8,9] [6] (ai (show((0:Int)≤((i1:Nat):Int)∧((i1:Nat):Int)<(p0.length:Int))from⟨by omega,by omega⟩) (z00 3)) ?_;refine Tri.sg [0,1,7,8,9] [] (z00 6) ?_;refine Tri.sg [0,1,7,8,9,19] [] (z00 2) ?_;refine z07 h (fun h=>?_) (fun h=>?_)
  ·refine Tri.sg [4] [] (z00 1) ?_;refine Tri.ret ?_;cases h;exact RetAt.k
  ·refine Tri.kp [9,0,1,7,8] [] ?_;refine Tri.skip ?_;cases h;exact kr
 ·intro a3 h;refine Tri.sg [4] [] (z00 4) ?_;refine Tri.ret ?_;cases h;exact RetAt.k
 ·exact fun x s hx hr=>by cases hx;exact hr
theorem z3x {l0:Desk}{q:Bool×Desk}(h:z1q l0=some q):
 Summ Try.prog 29 [.c (.ptr 5000 0)] [(5000,.box [oC 5100 2 l0.files,oC 5200 2 l0.disk.files,oC 5300 4 l0.disk.waits,.d (dI l0.disk.room),.d (.bool l0.disk.down),.d (dI l0.disk.fuse)]),(5100,vL 2 z01 l0.files),(5200,vL 2 z01 l0.disk.files),(5300,vL 4 z02 l0.disk.waits)] (cD (.bool q.1)) [(5150,vL 2 z01 q.2.files),(5250,vL 2 z01 q.2.disk.files),(5350,vL 4 z02 q.2.disk.waits),(5000,.box [oC 5150 2 q.2.files,oC 5250 2 q.2.disk.files,oC 5350 4 q.2.disk.waits,.d (dI q.2.disk.room),.d (.bool q.2.disk.down),.d (dI q.2.disk.fuse)])]:=by
 refine Summ.i Try.func29 rfl [5150,5250,5350] fun w0 G0 V LL φ0=>?_;unfold z1q at h;refine Tri.rename 5100 5150 ⟨[(0,.c (.ptr 5000 0))],[(5000,.box [oC 5150 2 l0.files,oC 5200 2 l0.disk.files,oC 5300 4 l0.disk.waits,.d (dI l0.disk.room),.d (.bool l0.disk.down),.d (dI l0.disk.fuse)]),(5150,vL 2 z01 l0.files),(5200,vL 2 z01 l0.disk.files),(5300,vL 4 z02 l0.disk.waits)]⟩ (by kernel_rfl) rfl rfl rfl ?_;refine Tri.rename 5200 5250 ⟨[(0,.c (.ptr 5000 0))],[(5000,.box [oC 5150 2 l0.files,oC 5250 2 l0.disk.files,oC 5300 4 l0.disk.waits,.d (dI l0.disk.room),.d (.bool l0.disk.down),.d (dI l0.disk.fuse)]),(5150,vL 2 z01 l0.files),(5250,vL 2 z01 l0.disk.files),(5300,vL 4 z02 l0.disk.waits)]⟩ (by kernel_rfl) rfl rfl rfl ?_;refine Tri.rename 5300 5350 ⟨[(0,.c (.ptr 5000 0))],[(5000,.box [oC 5150 2 l0.files,oC 5250 2 l0.disk.files,oC 5350 4 l0.disk.waits,.d (dI l0.disk.room),.d (.bool l0.disk.down),.d (dI l0.disk.fuse)]),(5150,vL 2 z01 l0.files),(5250,vL 2 z01 l0.disk.files),(5350,vL 4 z02 l0.disk.waits)]⟩ (by kernel_rfl) rfl rfl rfl ?_;refine Tri.sg [0] [5000,5150,5250,5350] (z00 1) ?_;refine Tri.sg [0] [5000,5150,5250,5350] (z00 11) ?_;refine z11 (fun(a1:Desk)=>⟨[(0,.c (.ptr 5000 0))],[(5000,.box [oC 5150 2 a1.files,oC 5250 2 a1.disk.files,oC 5350 4 a1.disk.waits,.d (dI a1.disk.room),.d (.bool a1.disk.down),.d (dI a1.disk.fuse)]),(5150,vL 2 z01 a1.files),(5250,vL 2 z01 a1.disk.files),(5350,vL 4 z02 a1.disk.waits)]⟩) h (fun a1 h=>?_) (fun j2 h=>?_)
 ·refine Tri.sg [2] [5000,5150,5250,5350] (z00 7) ?_;refine Tri.ret ?_;cases h;exact RetAt.k
 ·refine Tri.sg [0,18] [5000,5150,5250,5350] (z00 6) ?_;refine z07 h (fun h=>?_) (fun h=>?_)
  ·refine z05 ?_;refine At.sg 10 [0] [5000,5150,5250,5350] (z00 10) ?_;refine At.done rfl ?_;exact⟨_,h,kr⟩
  ·refine Tri.kp [0] [5000,5150,5250,5350] ?_;refine Tri.skip ?_;exact⟨_,h,kr⟩
theorem z3t {fuel:Nat}{p1:Write}{l0:Desk}{q:Int×Desk}(h:z17 fuel p1 l0=some q):
 Summ Try.prog 27 [.c (.ptr 5000 0),.agg (cWrite p1)] [(5000,.box [oC 5100 2 l0.files,oC 5200 2 l0.disk.files,oC 5300 4 l0.disk.waits,.d (dI l0.disk.room),.d (.bool l0.disk.down),.d (dI l0.disk.fuse)]),(5100,vL 2 z01 l0.files),(5200,vL 2 z01 l0.disk.files),(5300,vL 4 z02 l0.disk.waits)] (cD (dI q.1)) [(5150,vL 2 z01 q.2.files),(5250,vL 2 z01 q.2.disk.files),(5350,vL 4 z02 q.2.disk.waits),(5000,.box [oC 5150 2 q.2.files,oC 5250 2 q.2.disk.files,oC 5350 4 q.2.disk.waits,.d (dI q.2.disk.room),.d (.bool q.2.disk.down),.d (dI q.2.disk.fuse)])]:=by
 refine Summ.i Try.func27 rfl [5150,5250,5350] fun w0 G0 V LL φ0=>?_;unfold z17 at h;refine Tri.rename 5100 5150 ⟨[(0,.c (.ptr 5000 0)),(1,.agg (cWrite p1))],[(5000,.box [oC 5150 2 l0.files,oC 5200 2 l0.disk.files,oC 5300 4 l0.disk.waits,.d (dI l0.disk.room),.d (.bool l0.disk.down),.d (dI l0.disk.fuse)]),(5150,vL 2 z01 l0.files),(5200,vL 2 z01 l0.disk.files),(5300,vL 4 z02 l0.disk.waits)]⟩ (by kernel_rfl) rfl rfl rfl ?_;refine Tri.rename 5200 5250 ⟨[(0,.c (.ptr 5000 0)),(1,.agg (cWrite p1))],[(5000,.box [oC 5150 2 l0.files,oC 5250 2 l0.disk.files,oC 5300 4 l0.disk.waits,.d (dI l0.disk.room),.d (.bool l0.disk.down),.d (dI l0.disk.fuse)]),(5150,vL 2 z01 l0.files),(5250,vL 2 z01 l0.disk.files),(5300,vL 4 z02 l0.disk.waits)]⟩ (by kernel_rfl) rfl rfl rfl ?_;refine Tri.rename 5300 5350 ⟨[(0,.c (.ptr 5000 0)),(1,.agg (cWrite p1))],[(5000,.box [oC 5150 2 l0.files,oC 5250 2 l0.disk.files,oC 5350 4 l0.disk.waits,.d (dI l0.disk.room),.d (.bool l0.disk.down),.d (dI l0.disk.fuse)]),(5150,vL 2 z01 l0.files),(5250,vL 2 z01 l0.disk.files),(5350,vL 4 z02 l0.disk.waits)]⟩ (by kernel_rfl) rfl rfl rfl ?_;refine Tri.sg [0,3] [3,5000,5150,5250,5350] (z00 2) ?_;refine z03 ?_;refine Tri.sg [0,3,13] [3,5000,5150,5250,5350] (z00 5) ?_;refine z07 h (fun h=>?_) (fun h=>?_)
 ·refine Tri.sg [4] [5000,5150,5250,5350] (z00 1) ?_;refine Tri.ret ?_;cases h;exact RetAt.k
 ·refine Tri.skip ?_;refine z03 ?_;refine z03 ?_;refine z05 ?_;refine At.sg 1 [0,3,14] [3,5000,5150,5250,5350] (z00 1) ?_;obtain⟨r1,hr1,h⟩:=z04 h;refine At.cA [] [.agg (cWrite p1)] (z7l hr1) (.cons (.refl _) .nil) ?_;refine At.sg 1 [0,3,16] [3,5000,5150,5250,5350] (z00 1) ?_;refine At.done rfl ?_;refine z07 h (fun h=>?_) (fun h=>?_)
  ·refine Tri.sg [4] [5000,5150,5250,5350] (z00 1) ?_;refine Tri.ret ?_;cases h;exact RetAt.k
  ·refine Tri.skip ?_;refine z03 ?_;refine z03 ?_;obtain⟨r2,hr2,h⟩:=z04 h;refine z27 [.a [0] [],.a [18] [],.a [19] [],.a [20] [5000],.a [3] [],.a [22] [3],.m ⟨[(21,.c (oC 5150 2 l0.files)),(23,cD (.str p1.name))],[(5150,vL 2 z01 l0.files)]⟩ ⟨[(24,.tup [(false,[.d (dI r2.1)]),(false,[.d (.bool r2.2)])])],[]⟩ [] [] [],.a [24] [],.a [17] [],.a [17] [],.a [25] [],.a [26] []] [0,3,6] [3,5000,5150,5250,5350] (z00 11) (.a (.a (.a (.a (.a (.a (.m ?_ (.a (.a (.a (.a (.a .z)))))))))))) ?_
   ·exact DOk.cA [] [.c (oC 5150 2 l0.files),cD (.str p1.name)] (z14 hr2) fun r=>(.cons (AVArg.view (z01) l0.files rfl) (.cons (.refl _) .nil))
   refine z11 (fun(a3:Bool)=>⟨[(0,.c (.ptr 5000 0)),(3,.c (.ptr 3 0)),(33,cD (.bool a3))],[(3,.box (cWrite p1)),(5000,.box [oC 5150 2 l0.files,oC 5250 2 l0.disk.files,oC 5350 4 l0.disk.waits,.d (dI l0.disk.room),.d (.bool l0.disk.down),.d (dI l0.disk.fuse)]),(5150,vL 2 z01 l0.files),(5250,vL 2 z01 l0.disk.files),(5350,vL 4 z02 l0.disk.waits)]⟩) h (fun a3 h=>?_) (fun j4 h=>?_)
   ·refine z07 h (fun h=>?_) (fun h=>?_)
    ·refine Tri.sg [4] [5000,5150,5250,5350] (z00 1) ?_;refine Tri.ret ?_;cases h;exact RetAt.k
    ·refine Tri.skip ?_;refine z03 ?_;refine z05 ?_;refine At.sg 4 [0,3,37] [3,5000,5150,5250,5350] (z00 4) ?_;obtain⟨r5,hr5,h⟩:=z04 h;refine z3i 0 [] [.c (oC 5150 2 l0.files)] [(6000,30608)] [0,3] [3,5000,5150,5250,5350] (z5o hr5) (.flat (AVArg.view (z01) l0.files rfl) rfl rfl .nil) ?_;refine At.sg 2 [0,3,7] [3,7,5000,5150,5250,5350,30608] (z00 2) ?_;refine At.done rfl ?_;refine z03 ?_;refine z05 ?_;refine At.seg 1 [0,3,7,39] [3,7,5000,5150,5250,5350,30608] (s':=⟨[(0,.c (.ptr 5000 0)),(3,.c (.ptr 3 0)),(7,.c (.ptr 7 0)),(39,.agg (cWrite p1))],[(3,.box (cWrite p1)),(7,.box [oC 30608 2 r5]),(5000,.box [oC 5150 2 l0.files,oC 5250 2 l0.disk.files,oC 5350 4 l0.disk.waits,.d (dI l0.disk.room),.d (.bool l0.disk.down),.d (dI l0.disk.fuse)]),(5150,vL 2 z01 l0.files),(5250,vL 2 z01 l0.disk.files),(5350,vL 4 z02 l0.disk.waits),(30608,vL 2 z01 r5)]⟩) (by kernel_rfl) (z00 1) ?_;refine At.one rfl (One.buildSlice (z:=[.d (.int .u8 0),.d (.str (bs [])),.d (.str (bs [])),.d (.str (bs []))]) (cells:=[.d (.int .u8 p1.kind),.d (.str p1.name),.d (.str p1.to_),.d (.str p1.data)]) (xs:=List.map (z02) ([p1]:List Write)) rfl rfl rfl rfl (by kernel_rfl) rfl rfl (by kernel_rfl) rfl rfl rfl (by kernel_rfl) rfl ⟨⟨rfl,.refl _⟩,trivial⟩) ?_;refine At.l [40] ⟨[(40,cD (lD 4 z02 ([p1]:List Write))),(0,.c (.ptr 5000 0)),(3,.c (.ptr 3 0)),(7,.c (.ptr 7 0)),(39,.agg (cWrite p1))],[(3,.box (cWrite p1)),(7,.box [oC 30608 2 r5]),(5000,.box [oC 5150 2 l0.files,oC 5250 2 l0.disk.files,oC 5350 4 l0.disk.waits,.d (dI l0.disk.room),.d (.bool l0.disk.down),.d (dI l0.disk.fuse)]),(5150,vL 2 z01 l0.files),(5250,vL 2 z01 l0.disk.files),(5350,vL 4 z02 l0.disk.waits),(30608,vL 2 z01 r5)]⟩ ⟨⟨_,rfl,.c (.own rfl (List.mem_singleton.2 rfl) (zz7 rfl) rfl (z30 (z02) ([p1]:List Write)))⟩,⟨_,rfl,.refl _⟩,⟨_,rfl,.refl _⟩,⟨_,rfl,.refl _⟩,⟨_,rfl,.refl _⟩,trivial⟩ ⟨⟨_,rfl,.refl _,(by simp)⟩,⟨_,rfl,.refl _,(by simp)⟩,⟨_,rfl,.refl _,(by simp)⟩,⟨_,rfl,.refl _,(by simp)⟩,⟨_,rfl,.refl _,(by simp)⟩,⟨_,rfl,.refl _,(by simp)⟩,⟨_,rfl,.refl _,(by simp)⟩,trivial⟩ ?_;obtain⟨r6,hr6,h⟩:=z04 h;refine At.callL (nf:=0) (caps:=[]) (xs:=[.c (.ptr 7 0),cD (lD 4 z02 ([p1]:List Write))]) [(5000,7),(5100,30608),(5150,30608)] [0,3,7] [3,5000,5150,5250,5350] (s0:=⟨[(0,.c (.ptr 5000 0)),(3,.c (.ptr 3 0)),(7,.c (.ptr 7 0))],[(3,.box (cWrite p1)),(5000,.box [oC 5150 2 l0.files,oC 5250 2 l0.disk.files,oC 5350 4 l0.disk.waits,.d (dI l0.disk.room),.d (.bool l0.disk.down),.d (dI l0.disk.fuse)]),(5150,vL 2 z01 l0.files),(5250,vL 2 z01 l0.disk.files),(5350,vL 4 z02 l0.disk.waits)]⟩) (z1v hr6) rfl rfl (by kernel_rfl) rfl (by kernel_rfl) (by kernel_rfl) (.ren rfl rfl (.flat (.refl _) rfl rfl .nil)) ⟨⟨by kernel_rfl,by kernel_rfl⟩,⟨by kernel_rfl,by kernel_rfl⟩,trivial⟩ (by kernel_rfl) (by kernel_rfl) (by kernel_rfl) (by kernel_rfl) (by kernel_rfl) (by kernel_rfl) (by kernel_rfl) (by kernel_rfl) (by kernel_rfl) ⟨[(41,.tup []),(0,.c (.ptr 5000 0)),(3,.c (.ptr 3 0)),(7,.c (.ptr 7 0))],[(30608,vL 2 z01 r6),(7,.box [oC 30608 2 r6]),(3,.box (cWrite p1)),(5000,.box [oC 5150 2 l0.files,oC 5250 2 l0.disk.files,oC 5350 4 l0.disk.waits,.d (dI l0.disk.room),.d (.bool l0.disk.down),.d (dI l0.disk.fuse)]),(5150,vL 2 z01 l0.files),(5250,vL 2 z01 l0.disk.files),(5350,vL 4 z02 l0.disk.waits)]⟩ (by kernel_rfl) ?_;refine At.done rfl ?_;refine z03 ?_;refine z11 (fun(a7:Bool)=>⟨[(0,.c (.ptr 5000 0)),(3,.c (.ptr 3 0)),(7,.c (.ptr 7 0)),(57,cD (.bool a7))],[(3,.box (cWrite p1)),(7,.box [oC 30608 2 r6]),(5000,.box [oC 5150 2 l0.files,oC 5250 2 l0.disk.files,oC 5350 4 l0.disk.waits,.d (dI l0.disk.room),.d (.bool l0.disk.down),.d (dI l0.disk.fuse)]),(5150,vL 2 z01 l0.files),(5250,vL 2 z01 l0.disk.files),(5350,vL 4 z02 l0.disk.waits),(30608,vL 2 z01 r6)]⟩) h (fun a7 h=>?_) (fun j8 h=>?_)
     ·refine z07 h (fun h=>?_) (fun h=>?_)
      ·refine Tri.sg [4] [5000,5150,5250,5350] (z00 1) ?_;refine Tri.ret ?_;cases h;exact RetAt.k
      ·refine Tri.skip ?_;refine z03 ?_;refine z05 ?_;refine At.sg 1 [0,3,7,58] [3,7,5000,5150,5250,5350,30608] (z00 1) ?_;obtain⟨r9,hr9,h⟩:=z04 h;refine z3i 0 [] [.c (.ptr 5000 0)] [(5000,5000),(5100,5150),(5150,5150),(5200,5250),(5250,5250),(5300,5350),(5350,5350)] [0,3,7] [3,7,30608] (z3x hr9) (.ren rfl rfl .nil) ?_;refine At.sg 1 [0,3,7,8] [3,7,5000,5150,5250,5350,30608] (z00 1) ?_;refine At.done rfl ?_;refine z11 (fun(a10:Bool×Desk)=>⟨[(0,.c (.ptr 5000 0)),(7,.c (.ptr 7 0)),(8,cD (.bool a10.1))],[(7,.box [oC 30608 2 r6]),(5000,.box [oC 5150 2 a10.2.files,oC 5250 2 a10.2.disk.files,oC 5350 4 a10.2.disk.waits,.d (dI a10.2.disk.room),.d (.bool a10.2.disk.down),.d (dI a10.2.disk.fuse)]),(5150,vL 2 z01 a10.2.files),(5250,vL 2 z01 a10.2.disk.files),(5350,vL 4 z02 a10.2.disk.waits),(30608,vL 2 z01 r6)]⟩) h (fun a10 h=>?_) (fun j11 h=>?_)
       ·refine z03 ?_;refine Tri.sg [0,7,79] [7,5000,5150,5250,5350,30608] (z00 2) ?_;refine z07 h (fun h=>?_) (fun h=>?_)
        ·refine Tri.sg [4] [5000,5150,5250,5350] (z00 1) ?_;refine Tri.ret ?_;cases h;exact RetAt.k
        ·refine Tri.skip ?_;refine Tri.sg [] [5000,5250,5350,30608] (z00 5) ?_;refine Tri.sg [4] [5000,5250,5350,30608] (z00 1) ?_;refine Tri.keep [4] [5000,5250,5350,30608] (s':=⟨[(4,cD (dI 0))],[(5000,.box [oC 30608 2 r6,oC 5250 2 a10.2.disk.files,oC 5350 4 a10.2.disk.waits,.d (dI a10.2.disk.room),.d (.bool a10.2.disk.down),.d (dI a10.2.disk.fuse)]),(5250,vL 2 z01 a10.2.disk.files),(5350,vL 4 z02 a10.2.disk.waits),(30608,vL 2 z01 r6)]⟩) (by kernel_rfl) ?_;refine Tri.rename 30608 5150 ⟨[(4,cD (dI 0))],[(5000,.box [oC 5150 2 r6,oC 5250 2 a10.2.disk.files,oC 5350 4 a10.2.disk.waits,.d (dI a10.2.disk.room),.d (.bool a10.2.disk.down),.d (dI a10.2.disk.fuse)]),(5250,vL 2 z01 a10.2.disk.files),(5350,vL 4 z02 a10.2.disk.waits),(5150,vL 2 z01 r6)]⟩ (by kernel_rfl) rfl rfl rfl ?_;refine Tri.ret ?_;cases h;exact RetAt.k
       ·refine z11 (fun(a12:Bool×Bool)=>⟨[(0,.c (.ptr 5000 0)),(3,.c (.ptr 3 0)),(7,.c (.ptr 7 0)),(8,cD (.bool a12.1)),(65,cD (.bool a12.2))],[(3,.box (cWrite p1)),(7,.box [oC 30608 2 r6]),(5000,.box [oC 5150 2 r9.2.files,oC 5250 2 r9.2.disk.files,oC 5350 4 r9.2.disk.waits,.d (dI r9.2.disk.room),.d (.bool r9.2.disk.down),.d (dI r9.2.disk.fuse)]),(5150,vL 2 z01 r9.2.files),(5250,vL 2 z01 r9.2.disk.files),(5350,vL 4 z02 r9.2.disk.waits),(30608,vL 2 z01 r6)]⟩) h (fun a12 h=>?_) (fun j13 h=>?_)
        ·refine z07 h (fun h=>?_) (fun h=>?_)
         ·obtain⟨hc14,h⟩:=z0k h;refine z27 [.a [0] [],.a [0] [],.a [67] [],.a [68] [],.a [69] [],.a [70] [5000],.a [3] [3],.m ⟨[(72,.agg (cWrite p1))],[]⟩ ⟨[(73,.c (oC 73 4 ([p1]:List Write)))],[(73,vL 4 z02 ([p1]:List Write))]⟩ [73] [] [],.m ⟨[(71,.c (oC 5350 4 r9.2.disk.waits)),(73,.c (oC 73 4 ([p1]:List Write)))],[(73,vL 4 z02 ([p1]:List Write)),(5000,.box [oC 5150 2 r9.2.files,oC 5250 2 r9.2.disk.files,oC 5350 4 r9.2.disk.waits,.d (dI r9.2.disk.room),.d (.bool r9.2.disk.down),.d (dI r9.2.disk.fuse)]),(5350,vL 4 z02 r9.2.disk.waits)]⟩ ⟨[(74,.c (oC 5350 4 (r9.2.disk.waits++([p1]:List Write)))),(71,.c (.any))],[(5350,vL 4 z02 (r9.2.disk.waits++([p1]:List Write))),(5000,.box [oC 5150 2 r9.2.files,oC 5250 2 r9.2.disk.files,.any,.d (dI r9.2.disk.room),.d (.bool r9.2.disk.down),.d (dI r9.2.disk.fuse)])]⟩ [5350] [71] [5000],.a [66] [],.a [75] [],.a [76] [],.m ⟨[(74,.c (oC 5350 4 (r9.2.disk.waits++([p1]:List Write)))),(77,.c (.ptr 5000 2))],[(5000,.box [oC 5150 2 r9.2.files,oC 5250 2 r9.2.disk.files,.any,.d (dI r9.2.disk.room),.d (.bool r9.2.disk.down),.d (dI r9.2.disk.fuse)]),(5350,vL 4 z02 (r9.2.disk.waits++([p1]:List Write)))]⟩ ⟨[],[(5000,.box [oC 5150 2 r9.2.files,oC 5250 2 r9.2.disk.files,oC 5350 4 (r9.2.disk.waits++([p1]:List Write)),.d (dI r9.2.disk.room),.d (.bool r9.2.disk.down),.d (dI r9.2.disk.fuse)])]⟩ [] [] []] [0,7,8] [7,5000,5150,5250,5350,30608] (z00 10) (.a (.a (.a (.a (.a (.a (.a (.m ?_ (.m ?_ (.a (.a (.a (.m ?_ .z))))))))))))) ?_
          ·exact DOk.one fun r hr=>z38 (e:=45) (es:=4) (z:=[.d (.int .u8 0),.d (.str (bs [])),.d (.str (bs [])),.d (.str (bs []))]) (cells:=[.d (.int .u8 p1.kind),.d (.str p1.name),.d (.str p1.to_),.d (.str p1.data)]) (z02) ([p1]:List Write) rfl (by kernel_rfl) rfl rfl (z1s (by kernel_rfl) (hr 73 (by simp))) (by kernel_rfl) rfl (by kernel_rfl) rfl rfl rfl (by kernel_rfl) rfl ⟨⟨rfl,.refl _⟩,trivial⟩
          ·exact DOk.drop (k:=5350) (d:=74) (v:=vL 4 z02 (r9.2.disk.waits++([p1]:List Write))) (av:= .c (oC 5350 4 (r9.2.disk.waits++([p1]:List Write)))) rfl (fun r hr=>z6i (e:=45) (es:=4) (z02) r9.2.disk.waits ([p1]:List Write) rfl rfl (by kernel_rfl) rfl rfl (.of 45 56 [.d (.int .u8 0),.d (.str (bs [])),.d (.str (bs [])),.d (.str (bs []))] (by kernel_rfl) (by kernel_rfl) (by kernel_rfl) (by kernel_rfl) rfl (by kernel_rfl) rfl) rfl rfl rfl (.own rfl (by simp) rfl (zc5 (z02) ([p1]:List Write) _)) hc14) (by kernel_rfl) (by kernel_rfl) (by kernel_rfl) (by kernel_rfl)
          ·exact DOk.step (.turn 5000 (.box [oC 5150 2 r9.2.files,oC 5250 2 r9.2.disk.files,oC 5350 4 (r9.2.disk.waits++([p1]:List Write)),.d (dI r9.2.disk.room),.d (.bool r9.2.disk.down),.d (dI r9.2.disk.fuse)])) (fun r=>by kernel_rfl) (fun r=>by kernel_rfl) trivial (by kernel_rfl) (by kernel_rfl) (fun r=>rfl)
          exact⟨_,h,kr⟩
         ·refine Tri.kp [0,7,8] [7,5000,5150,5250,5350,30608] ?_;refine Tri.skip ?_;exact⟨_,h,kr⟩
        ·refine z05 ?_;refine At.sg 2 [0,3,7,8,61] [3,7,5000,5150,5250,5350,30608] (z00 2) ?_;refine At.cs [8,61] h (fun h=>?_) (fun h=>?_)
         ·refine At.sg 4 [0,3,7,8,65] [3,7,5000,5150,5250,5350,30608] (z00 1) ?_;refine At.done rfl ?_;exact⟨_,h,kr⟩
         ·refine At.sg 4 [0,3,7,8,65] [3,7,5000,5150,5250,5350,30608] (z00 4) ?_;refine At.done rfl ?_;exact⟨_,h,kr⟩
     ·rcases z6z h with⟨hp15,h⟩|⟨hp15,h⟩
      ·refine z27 [.a [0] [],.a [42] [],.a [43] [],.a [44] [],.a [45] [5000],.a [46] [5350],.a [47] [],.m ⟨[(48,cD (.bool (decide (4096≤(l0.disk.waits.length:Int)))))],[]⟩ ⟨[(49,.c (.d (.bool true)))],[]⟩ [] [] [],.a [7,49] [7],.a [0,49] [],.a [49,51] [],.a [49,52] [],.a [49,53] [],.a [49,54] [],.a [49,50,55] [],.a [49,56] []] [0,3,7,57] [3,7,5000,5150,5250,5350,30608] (z00 8) (.a (.a (.a (.a (.a (.a (.a (.m ?_ (.a (.a (.a (.a (.a (.a (.a (.a .z)))))))))))))))) ?_
       ·exact z2o (fun b=> .val (.c (.d (.bool b))) (True)) (p:=(decide (4096≤(l0.disk.waits.length:Int)))) hp15 (fun r=>by kernel_rfl) (fun r=>by kernel_rfl) trivial (by kernel_rfl) (by kernel_rfl) (fun r=>rfl)
       exact⟨_,h,kr⟩
      ·obtain⟨r16,hr16,h⟩:=z04 h;refine z27 [.a [0] [],.a [42] [],.a [43] [],.a [44] [],.a [45] [5000],.a [46] [5350],.a [47] [],.m ⟨[(48,cD (.bool (decide (4096≤(l0.disk.waits.length:Int)))))],[]⟩ ⟨[(49,.c (.d (.bool false)))],[]⟩ [] [] [],.a [7,49] [7],.a [0,49] [],.a [49,51] [],.a [49,52] [],.a [49,53] [],.a [49,54] [5000],.m ⟨[(49,cD (.bool false)),(50,.c (oC 30608 2 r6)),(55,cD (dI l0.disk.room))],[(30608,vL 2 z01 r6)]⟩ ⟨[(56,cD (.bool r16))],[]⟩ [] [] [],.a [49,56] []] [0,3,7,57] [3,7,5000,5150,5250,5350,30608] (z00 14) (.a (.a (.a (.a (.a (.a (.a (.m ?_ (.a (.a (.a (.a (.a (.a (.m ?_ (.a .z)))))))))))))))) ?_
       ·exact z2o (fun b=> .val (.c (.d (.bool b))) (True)) (p:=(decide (4096≤(l0.disk.waits.length:Int)))) hp15 (fun r=>by kernel_rfl) (fun r=>by kernel_rfl) trivial (by kernel_rfl) (by kernel_rfl) (fun r=>rfl)
       ·exact DOk.cA [] [.c (oC 30608 2 r6),cD (dI l0.disk.room)] (z4s hr16) fun r=>(.cons (AVArg.view (z01) r6 rfl) (.cons (.refl _) .nil))
       exact⟨_,h,kr⟩
   ·refine z05 ?_;refine At.sg 3 [0,3,29] [3,5000,5150,5250,5350] (z00 3) ?_;refine At.cs [29] h (fun h=>?_) (fun h=>?_)
    ·refine At.sg 4 [0,3,33] [3,5000,5150,5250,5350] (z00 4) ?_;refine At.done rfl ?_;exact⟨_,h,kr⟩
    ·refine At.sg 4 [0,3,33] [3,5000,5150,5250,5350] (z00 1) ?_;refine At.done rfl ?_;exact⟨_,h,kr⟩
theorem z9o {fuel:Nat}{p0:Disk}{p1:List Write}{q:Disk×Int}(h:z3q fuel p0 p1=some q):
 Summ Try.prog 11 [.agg (cDisk p0),cD (lD 4 z02 p1)] [] (.tup [(true,[.d (lD 2 z01 q.1.files),.d (lD 4 z02 q.1.waits),.d (dI q.1.room),.d (.bool q.1.down),.d (dI q.1.fuse)]),(false,[.d (dI q.2)])]) []:=by
 refine Summ.i Try.func11 rfl [] fun w0 G0 V LL φ0=>?_;unfold z3q at h;refine Tri.sg [1,2,4] [2,4] (z00 3) ?_;refine z03 ?_;refine z03 ?_;refine z05 ?_;refine At.sg 1 [1,2,4,11] [2,4] (z00 1) ?_;obtain⟨r1,hr1,h⟩:=z04 h;refine At.cA [] [.agg (cDisk p0)] (z35 hr1) (.cons (.refl _) .nil) ?_;refine At.sg 1 [1,2,4,6] [2,4] (z00 1) ?_;refine At.done rfl ?_;refine Tri.sg [1,2,4,6,14] [2,4] (z00 2) ?_;refine z07 h (fun h=>?_) (fun h=>?_)
 ·refine Tri.sg [4,5] [4] (z00 4) ?_;refine Tri.keep [4,5] [4] (s':=⟨[(4,.c (.ptr 4 0)),(5,cD (dI r1))],[(4,.box [.zero,.zero,.d (dI 0),.d (.bool false),.d (dI 0)])]⟩) (by kernel_rfl) ?_;refine Tri.l [] ⟨[(4,.c (.ptr 4 0)),(5,cD (dI r1))],[(4,.box [.d (lD 2 z01 ([]:List File)),.d (lD 4 z02 ([]:List Write)),.d (dI 0),.d (.bool false),.d (dI 0)])]⟩ ⟨⟨_,rfl,.refl _⟩,⟨_,rfl,.refl _⟩,trivial⟩ ⟨⟨_,rfl,.box (.cons (.zero _ _) (.cons (.zero _ _) (.cons (.refl _) (.cons (.refl _) (.cons (.refl _) .nil))))),(by simp)⟩,trivial⟩ ?_;refine Tri.ret ?_;cases h;exact RetAt.k
 ·refine Tri.skip ?_;refine z03 ?_;refine z05 ?_;refine At.sg 1 [1,4,17] [4] (z00 1) ?_;obtain⟨r2,hr2,h⟩:=z04 h;refine z3i 0 [] [.agg (cDisk p0)] [(6000,30303),(6100,30300),(6101,30299),(6102,30298)] [1,4] [4] (z4z hr2) (.flat (.refl _) rfl rfl .nil) ?_;refine At.sg 1 [1,4,7] [4,30298,30299,30300,30303] (z00 1) ?_;refine At.done rfl ?_;refine z03 ?_;refine Tri.sg [4,7,19,20,21] [4,30298,30299,30300,30303] (z00 3) ?_;refine Tri.ln 19 p1.length fun hlena4=>?_;refine z3n 21 (r2) (fun(x:Disk×Int) s=>RetAt Try.prog Try.f11 (.tup [(true,[.d (lD 2 z01 x.1.files),.d (lD 4 z02 x.1.waits),.d (dI x.1.room),.d (.bool x.1.down),.d (dI x.1.fuse)]),(false,[.d (dI x.2)])]) [] s) (fun(a4:Desk)=>⟨[(4,.c (.ptr 4 0)),(7,.c (.ptr 30303 0)),(19,cD (lD 4 z02 p1)),(20,cD (dI (p1.length:Int)))],[(4,.box [.zero,.zero,.d (dI 0),.d (.bool false),.d (dI 0)]),(30298,vL 4 z02 a4.disk.waits),(30299,vL 2 z01 a4.disk.files),(30300,vL 2 z01 a4.files),(30303,.box [oC 30300 2 a4.files,oC 30299 2 a4.disk.files,oC 30298 4 a4.disk.waits,.d (dI a4.disk.room),.d (.bool a4.disk.down),.d (dI a4.disk.fuse)])]⟩) [21,4,7,19,20] [4,30298,30299,30300,30303] [22,21,4,7,19,20] [4,30298,30299,30300,30303] [4,7,19,20] [4,30298,30299,30300,30303] [21,4,7,19,20] [4,30298,30299,30300,30303] h hlena4 ?_ ?_ ?_
  ·intro i3 a4 c hii3 h;refine Tri.sg [4,7,9,19,20,21] [4,9,30298,30299,30300,30303] (ai (show((0:Int)≤((i3:Nat):Int)∧((i3:Nat):Int)<(p1.length:Int))from⟨by omega,by omega⟩) (z00 3)) ?_;refine z03 ?_;refine z05 ?_;refine At.sg 2 [4,7,19,20,21,25,26] [4,30298,30299,30300,30303] (z00 2) ?_;obtain⟨r6,hr6,h⟩:=z04 h;refine z3i 0 [] [.c (.ptr 30303 0),.agg (cWrite (p1.getD i3 zzd))] [(5000,30303),(5100,30300),(5150,30300),(5200,30299),(5250,30299),(5300,30298),(5350,30298)] [4,7,19,20,21] [4] (z3t hr6) (.ren rfl rfl (.flat (.refl _) rfl rfl .nil)) ?_;refine At.sg 1 [4,7,10,19,20,21] [4,30298,30299,30300,30303] (z00 1) ?_;refine At.done rfl ?_;refine Tri.sg [4,7,10,19,20,21,29] [4,30298,30299,30300,30303] (z00 2) ?_;refine z07 h (fun h=>?_) (fun h=>?_)
   ·refine Tri.sg [4,5] [4,30298,30299] (z00 7) ?_;refine Tri.keep [4,5] [4,30298,30299] (s':=⟨[(4,.c (.ptr 4 0)),(5,cD (dI r6.1))],[(4,.box [oC 30299 2 r6.2.disk.files,oC 30298 4 r6.2.disk.waits,.d (dI r6.2.disk.room),.d (.bool r6.2.disk.down),.d (dI r6.2.disk.fuse)]),(30298,vL 4 z02 r6.2.disk.waits),(30299,vL 2 z01 r6.2.disk.files)]⟩) (by kernel_rfl) ?_;refine Tri.l [30298,30299] ⟨[(4,.c (.ptr 4 0)),(5,cD (dI r6.1))],[(4,.box (cDisk r6.2.disk))]⟩ ⟨⟨_,rfl,.refl _⟩,⟨_,rfl,.refl _⟩,trivial⟩ ⟨⟨_,rfl,.box (.cons (CLe.frozen (z01) r6.2.disk.files rfl (by simp)) (.cons (CLe.frozen (z02) r6.2.disk.waits rfl (by simp)) (.cons (.refl _) (.cons (.refl _) (.cons (.refl _) .nil))))),(by simp)⟩,trivial⟩ ?_;refine Tri.ret ?_;cases h;exact RetAt.k
   ·refine Tri.kp [21,4,7,19,20] [4,30298,30299,30300,30303] ?_;refine Tri.skip ?_;cases h;exact kr
  ·intro a5 h;refine Tri.sg [4,5] [4,30298,30299] (z00 6) ?_;refine Tri.keep [4,5] [4,30298,30299] (s':=⟨[(4,.c (.ptr 4 0)),(5,cD (dI 0))],[(4,.box [oC 30299 2 a5.disk.files,oC 30298 4 a5.disk.waits,.d (dI a5.disk.room),.d (.bool a5.disk.down),.d (dI a5.disk.fuse)]),(30298,vL 4 z02 a5.disk.waits),(30299,vL 2 z01 a5.disk.files)]⟩) (by kernel_rfl) ?_;refine Tri.l [30298,30299] ⟨[(4,.c (.ptr 4 0)),(5,cD (dI 0))],[(4,.box (cDisk a5.disk))]⟩ ⟨⟨_,rfl,.refl _⟩,⟨_,rfl,.refl _⟩,trivial⟩ ⟨⟨_,rfl,.box (.cons (CLe.frozen (z01) a5.disk.files rfl (by simp)) (.cons (CLe.frozen (z02) a5.disk.waits rfl (by simp)) (.cons (.refl _) (.cons (.refl _) (.cons (.refl _) .nil))))),(by simp)⟩,trivial⟩ ?_;refine Tri.ret ?_;cases h;exact RetAt.k
  ·exact fun x s hx hr=>by cases hx;exact hr
theorem zbj {fuel:Nat}{p0:Disk}{q:Disk×Int}(h:z82 fuel p0=some q):
 Summ Try.prog 13 [.agg (cDisk p0)] [] (.tup [(true,[.d (lD 2 z01 q.1.files),.d (lD 4 z02 q.1.waits),.d (dI q.1.room),.d (.bool q.1.down),.d (dI q.1.fuse)]),(false,[.d (dI q.2)])]) []:=by
 refine Summ.i Try.func13 rfl [] fun w0 G0 V LL φ0=>?_;unfold z82 at h;refine Tri.sg [1,2] [1,2] (z00 3) ?_;refine z03 ?_;refine z03 ?_;refine z05 ?_;refine At.sg 1 [1,2,6] [1,2] (z00 1) ?_;obtain⟨r1,hr1,h⟩:=z04 h;refine At.cA [] [.agg (cDisk p0)] (z35 hr1) (.cons (.refl _) .nil) ?_;refine At.sg 1 [1,2,4] [1,2] (z00 1) ?_;refine At.done rfl ?_;refine Tri.sg [1,2,4,9] [1,2] (z00 2) ?_;refine z07 h (fun h=>?_) (fun h=>?_)
 ·refine Tri.sg [2,3] [2] (z00 4) ?_;refine Tri.keep [2,3] [2] (s':=⟨[(2,.c (.ptr 2 0)),(3,cD (dI r1))],[(2,.box [.zero,.zero,.d (dI 0),.d (.bool false),.d (dI 0)])]⟩) (by kernel_rfl) ?_;refine Tri.l [] ⟨[(2,.c (.ptr 2 0)),(3,cD (dI r1))],[(2,.box [.d (lD 2 z01 ([]:List File)),.d (lD 4 z02 ([]:List Write)),.d (dI 0),.d (.bool false),.d (dI 0)])]⟩ ⟨⟨_,rfl,.refl _⟩,⟨_,rfl,.refl _⟩,trivial⟩ ⟨⟨_,rfl,.box (.cons (.zero _ _) (.cons (.zero _ _) (.cons (.refl _) (.cons (.refl _) (.cons (.refl _) .nil))))),(by simp)⟩,trivial⟩ ?_;refine Tri.ret ?_;cases h;exact RetAt.k
 ·refine Tri.skip ?_;refine z03 ?_;refine z05 ?_;refine At.sg 1 [1,2,12] [1,2] (z00 1) ?_;obtain⟨r2,hr2,h⟩:=z04 h;refine z3i 0 [] [.agg (cDisk p0)] [(6000,30223),(6100,30220),(6101,30219),(6102,30218)] [1,2] [1,2] (z4z hr2) (.flat (.refl _) rfl rfl .nil) ?_;refine At.sg 1 [1,2,5] [1,2,30218,30219,30220,30223] (z00 1) ?_;refine At.done rfl ?_;refine z03 ?_;refine z11 (fun(a3:Bool×Desk)=>⟨[(2,.c (.ptr 2 0)),(5,.c (.ptr 30223 0)),(20,cD (.bool a3.1))],[(2,.box [.zero,.zero,.d (dI 0),.d (.bool false),.d (dI 0)]),(30218,vL 4 z02 a3.2.disk.waits),(30219,vL 2 z01 a3.2.disk.files),(30220,vL 2 z01 a3.2.files),(30223,.box [oC 30220 2 a3.2.files,oC 30219 2 a3.2.disk.files,oC 30218 4 a3.2.disk.waits,.d (dI a3.2.disk.room),.d (.bool a3.2.disk.down),.d (dI a3.2.disk.fuse)])]⟩) h (fun a3 h=>?_) (fun j4 h=>?_)
  ·refine z07 h (fun h=>?_) (fun h=>?_)
   ·refine Tri.sg [2,3] [2,30218,30219] (z00 6) ?_;refine Tri.keep [2,3] [2,30218,30219] (s':=⟨[(2,.c (.ptr 2 0)),(3,cD (dI 7))],[(2,.box [oC 30219 2 a3.2.disk.files,oC 30218 4 a3.2.disk.waits,.d (dI a3.2.disk.room),.d (.bool a3.2.disk.down),.d (dI a3.2.disk.fuse)]),(30218,vL 4 z02 a3.2.disk.waits),(30219,vL 2 z01 a3.2.disk.files)]⟩) (by kernel_rfl) ?_;refine Tri.l [30218,30219] ⟨[(2,.c (.ptr 2 0)),(3,cD (dI 7))],[(2,.box (cDisk a3.2.disk))]⟩ ⟨⟨_,rfl,.refl _⟩,⟨_,rfl,.refl _⟩,trivial⟩ ⟨⟨_,rfl,.box (.cons (CLe.frozen (z01) a3.2.disk.files rfl (by simp)) (.cons (CLe.frozen (z02) a3.2.disk.waits rfl (by simp)) (.cons (.refl _) (.cons (.refl _) (.cons (.refl _) .nil))))),(by simp)⟩,trivial⟩ ?_;refine Tri.ret ?_;cases h;exact RetAt.k
   ·refine Tri.skip ?_;refine Tri.sg [2,5] [2,30220,30223] (z00 14) ?_;refine Tri.sg [2,3] [2,30220] (z00 6) ?_;refine Tri.keep [2,3] [2,30220] (s':=⟨[(2,.c (.ptr 2 0)),(3,cD (dI 0))],[(2,.box [oC 30220 2 a3.2.files,.zero,.d (dI a3.2.disk.room),.d (.bool a3.2.disk.down),.d (dI a3.2.disk.fuse)]),(30220,vL 2 z01 a3.2.files)]⟩) (by kernel_rfl) ?_;refine Tri.l [30220] ⟨[(2,.c (.ptr 2 0)),(3,cD (dI 0))],[(2,.box [.d (lD 2 z01 a3.2.files),.d (lD 4 z02 ([]:List Write)),.d (dI a3.2.disk.room),.d (.bool a3.2.disk.down),.d (dI a3.2.disk.fuse)])]⟩ ⟨⟨_,rfl,.refl _⟩,⟨_,rfl,.refl _⟩,trivial⟩ ⟨⟨_,rfl,.box (.cons (CLe.frozen (z01) a3.2.files rfl (by simp)) (.cons (.zero _ _) (.cons (.refl _) (.cons (.refl _) (.cons (.refl _) .nil))))),(by simp)⟩,trivial⟩ ?_;refine Tri.ret ?_;cases h;exact RetAt.k
  ·refine z05 ?_;refine At.sg 3 [2,5,16] [2,30218,30219,30220,30223] (z00 3) ?_;refine At.cs [16] h (fun h=>?_) (fun h=>?_)
   ·refine At.sg 4 [2,5,20] [2,30218,30219,30220,30223] (z00 1) ?_;refine At.done rfl ?_;exact⟨_,h,kr⟩
   ·refine At.sg 1 [2,5,16,17] [2,30218,30219,30220,30223] (z00 1) ?_;obtain⟨r5,hr5,h⟩:=z04 h;refine z3i 0 [] [.c (.ptr 30223 0)] [(5000,30223),(5100,30220),(5150,30220),(5200,30219),(5250,30219),(5300,30218),(5350,30218)] [2,5,16] [2] (z3x hr5) (.ren rfl rfl .nil) ?_;refine At.sg 2 [2,5,20] [2,30218,30219,30220,30223] (z00 2) ?_;refine At.done rfl ?_;exact⟨_,h,kr⟩
theorem z7k {fuel:Nat}{p0:Disk}{p1:List Write}{q:Disk×Int}(h:z3q fuel p0 p1=some q):
 Summ Try.prog 11 [.agg (cDisk p0),.c (wC 4 z02 p1)] [] (.tup [(true,[.d (lD 2 z01 q.1.files),.d (lD 4 z02 q.1.waits),.d (dI q.1.room),.d (.bool q.1.down),.d (dI q.1.fuse)]),(false,[.d (dI q.2)])]) []:=by
 refine Summ.i Try.func11 rfl [] fun w0 G0 V LL φ0=>?_;unfold z3q at h;refine Tri.sg [1,2,4] [2,4] (z00 3) ?_;refine z03 ?_;refine z03 ?_;refine z05 ?_;refine At.sg 1 [1,2,4,11] [2,4] (z00 1) ?_;obtain⟨r1,hr1,h⟩:=z04 h;refine At.cA [] [.agg (cDisk p0)] (z35 hr1) (.cons (.refl _) .nil) ?_;refine At.sg 1 [1,2,4,6] [2,4] (z00 1) ?_;refine At.done rfl ?_;refine Tri.sg [1,2,4,6,14] [2,4] (z00 2) ?_;refine z07 h (fun h=>?_) (fun h=>?_)
 ·refine Tri.sg [4,5] [4] (z00 4) ?_;refine Tri.keep [4,5] [4] (s':=⟨[(4,.c (.ptr 4 0)),(5,cD (dI r1))],[(4,.box [.zero,.zero,.d (dI 0),.d (.bool false),.d (dI 0)])]⟩) (by kernel_rfl) ?_;refine Tri.l [] ⟨[(4,.c (.ptr 4 0)),(5,cD (dI r1))],[(4,.box [.d (lD 2 z01 ([]:List File)),.d (lD 4 z02 ([]:List Write)),.d (dI 0),.d (.bool false),.d (dI 0)])]⟩ ⟨⟨_,rfl,.refl _⟩,⟨_,rfl,.refl _⟩,trivial⟩ ⟨⟨_,rfl,.box (.cons (.zero _ _) (.cons (.zero _ _) (.cons (.refl _) (.cons (.refl _) (.cons (.refl _) .nil))))),(by simp)⟩,trivial⟩ ?_;refine Tri.ret ?_;cases h;exact RetAt.k
 ·refine Tri.skip ?_;refine z03 ?_;refine z05 ?_;refine At.sg 1 [1,4,17] [4] (z00 1) ?_;obtain⟨r2,hr2,h⟩:=z04 h;refine z3i 0 [] [.agg (cDisk p0)] [(6000,30303),(6100,30300),(6101,30299),(6102,30298)] [1,4] [4] (z4z hr2) (.flat (.refl _) rfl rfl .nil) ?_;refine At.sg 1 [1,4,7] [4,30298,30299,30300,30303] (z00 1) ?_;refine At.done rfl ?_;refine z03 ?_;refine Tri.sg [4,7,19,20,21] [4,30298,30299,30300,30303] (z00 3) ?_;refine Tri.ln 19 p1.length fun hlena4=>?_;refine z3n 21 (r2) (fun(x:Disk×Int) s=>RetAt Try.prog Try.f11 (.tup [(true,[.d (lD 2 z01 x.1.files),.d (lD 4 z02 x.1.waits),.d (dI x.1.room),.d (.bool x.1.down),.d (dI x.1.fuse)]),(false,[.d (dI x.2)])]) [] s) (fun(a4:Desk)=>⟨[(4,.c (.ptr 4 0)),(7,.c (.ptr 30303 0)),(19,.c (wC 4 z02 p1)),(20,cD (dI (p1.length:Int)))],[(4,.box [.zero,.zero,.d (dI 0),.d (.bool false),.d (dI 0)]),(30298,vL 4 z02 a4.disk.waits),(30299,vL 2 z01 a4.disk.files),(30300,vL 2 z01 a4.files),(30303,.box [oC 30300 2 a4.files,oC 30299 2 a4.disk.files,oC 30298 4 a4.disk.waits,.d (dI a4.disk.room),.d (.bool a4.disk.down),.d (dI a4.disk.fuse)])]⟩) [21,4,7,19,20] [4,30298,30299,30300,30303] [22,21,4,7,19,20] [4,30298,30299,30300,30303] [4,7,19,20] [4,30298,30299,30300,30303] [21,4,7,19,20] [4,30298,30299,30300,30303] h hlena4 ?_ ?_ ?_
  ·intro i3 a4 c hii3 h;refine Tri.sg [4,7,9,19,20,21] [4,9,30298,30299,30300,30303] (ai (show((0:Int)≤((i3:Nat):Int)∧((i3:Nat):Int)<(p1.length:Int))from⟨by omega,by omega⟩) (z00 3)) ?_;refine z03 ?_;refine z05 ?_;refine At.sg 2 [4,7,19,20,21,25,26] [4,30298,30299,30300,30303] (z00 2) ?_;obtain⟨r6,hr6,h⟩:=z04 h;refine z3i 0 [] [.c (.ptr 30303 0),.agg (cWrite (p1.getD i3 zzd))] [(5000,30303),(5100,30300),(5150,30300),(5200,30299),(5250,30299),(5300,30298),(5350,30298)] [4,7,19,20,21] [4] (z3t hr6) (.ren rfl rfl (.flat (.refl _) rfl rfl .nil)) ?_;refine At.sg 1 [4,7,10,19,20,21] [4,30298,30299,30300,30303] (z00 1) ?_;refine At.done rfl ?_;refine Tri.sg [4,7,10,19,20,21,29] [4,30298,30299,30300,30303] (z00 2) ?_;refine z07 h (fun h=>?_) (fun h=>?_)
   ·refine Tri.sg [4,5] [4,30298,30299] (z00 7) ?_;refine Tri.keep [4,5] [4,30298,30299] (s':=⟨[(4,.c (.ptr 4 0)),(5,cD (dI r6.1))],[(4,.box [oC 30299 2 r6.2.disk.files,oC 30298 4 r6.2.disk.waits,.d (dI r6.2.disk.room),.d (.bool r6.2.disk.down),.d (dI r6.2.disk.fuse)]),(30298,vL 4 z02 r6.2.disk.waits),(30299,vL 2 z01 r6.2.disk.files)]⟩) (by kernel_rfl) ?_;refine Tri.l [30298,30299] ⟨[(4,.c (.ptr 4 0)),(5,cD (dI r6.1))],[(4,.box (cDisk r6.2.disk))]⟩ ⟨⟨_,rfl,.refl _⟩,⟨_,rfl,.refl _⟩,trivial⟩ ⟨⟨_,rfl,.box (.cons (CLe.frozen (z01) r6.2.disk.files rfl (by simp)) (.cons (CLe.frozen (z02) r6.2.disk.waits rfl (by simp)) (.cons (.refl _) (.cons (.refl _) (.cons (.refl _) .nil))))),(by simp)⟩,trivial⟩ ?_;refine Tri.ret ?_;cases h;exact RetAt.k
   ·refine Tri.kp [21,4,7,19,20] [4,30298,30299,30300,30303] ?_;refine Tri.skip ?_;cases h;exact kr
  ·intro a5 h;refine Tri.sg [4,5] [4,30298,30299] (z00 6) ?_;refine Tri.keep [4,5] [4,30298,30299] (s':=⟨[(4,.c (.ptr 4 0)),(5,cD (dI 0))],[(4,.box [oC 30299 2 a5.disk.files,oC 30298 4 a5.disk.waits,.d (dI a5.disk.room),.d (.bool a5.disk.down),.d (dI a5.disk.fuse)]),(30298,vL 4 z02 a5.disk.waits),(30299,vL 2 z01 a5.disk.files)]⟩) (by kernel_rfl) ?_;refine Tri.l [30298,30299] ⟨[(4,.c (.ptr 4 0)),(5,cD (dI 0))],[(4,.box (cDisk a5.disk))]⟩ ⟨⟨_,rfl,.refl _⟩,⟨_,rfl,.refl _⟩,trivial⟩ ⟨⟨_,rfl,.box (.cons (CLe.frozen (z01) a5.disk.files rfl (by simp)) (.cons (CLe.frozen (z02) a5.disk.waits rfl (by simp)) (.cons (.refl _) (.cons (.refl _) (.cons (.refl _) .nil))))),(by simp)⟩,trivial⟩ ?_;refine Tri.ret ?_;cases h;exact RetAt.k
  ·exact fun x s hx hr=>by cases hx;exact hr
theorem zb6 {fuel:Nat}{p0:Disk}{p1:Int}{p2:Int}{q:Disk×Int}(h:z71 fuel p0 p1 p2=some q):
 Summ Try.prog 24 [.agg (cDisk p0),cD (dI p1),cD (dI p2)] [] (.tup [(true,[.d (lD 2 z01 q.1.files),.d (lD 4 z02 q.1.waits),.d (dI q.1.room),.d (.bool q.1.down),.d (dI q.1.fuse)]),(false,[.d (dI q.2)])]) []:=by
 refine Summ.i Try.func24 rfl [] fun w0 G0 V LL φ0=>?_;unfold z71 at h;refine Tri.sg [1,2,3,6] [3,6] (z00 3) ?_;refine z03 ?_;refine z03 ?_;refine z05 ?_;refine At.sg 1 [1,2,3,6,11] [3,6] (z00 1) ?_;obtain⟨r1,hr1,h⟩:=z04 h;refine At.cA [] [.agg (cDisk p0)] (z35 hr1) (.cons (.refl _) .nil) ?_;refine At.sg 1 [1,2,3,6,8] [3,6] (z00 1) ?_;refine At.done rfl ?_;refine Tri.sg [1,2,3,6,8,14] [3,6] (z00 2) ?_;refine z07 h (fun h=>?_) (fun h=>?_)
 ·refine Tri.sg [6,7] [6] (z00 4) ?_;refine Tri.keep [6,7] [6] (s':=⟨[(6,.c (.ptr 6 0)),(7,cD (dI r1))],[(6,.box [.zero,.zero,.d (dI 0),.d (.bool false),.d (dI 0)])]⟩) (by kernel_rfl) ?_;refine Tri.l [] ⟨[(6,.c (.ptr 6 0)),(7,cD (dI r1))],[(6,.box [.d (lD 2 z01 ([]:List File)),.d (lD 4 z02 ([]:List Write)),.d (dI 0),.d (.bool false),.d (dI 0)])]⟩ ⟨⟨_,rfl,.refl _⟩,⟨_,rfl,.refl _⟩,trivial⟩ ⟨⟨_,rfl,.box (.cons (.zero _ _) (.cons (.zero _ _) (.cons (.refl _) (.cons (.refl _) (.cons (.refl _) .nil))))),(by simp)⟩,trivial⟩ ?_;refine Tri.ret ?_;cases h;exact RetAt.k
 ·refine Tri.skip ?_;refine Tri.sg [1,2,3,6] [3,6] (z00 7) ?_;refine z03 ?_;refine z05 ?_;refine At.sg 2 [1,2,3,6,24] [3,6] (z00 2) ?_;obtain⟨r2,hr2,h⟩:=z04 h;refine z3i 0 [] [cD (lD 2 z01 p0.files)] [(6000,30400)] [1,2,3,6] [3,6] (z1d hr2) (.flat (.refl _) rfl rfl .nil) ?_;refine At.sg 2 [1,2,3,6,9] [3,6,9,30400] (z00 2) ?_;refine At.done rfl ?_;refine z03 ?_;refine z05 ?_;refine At.sg 3 [1,2,3,6,9,27,28] [3,6,9,30400] (z00 3) ?_;obtain⟨hc3,h⟩:=z0k h;refine At.seg 1 [29,1,2,3,6,9,27,28] [3,6,9,30400] (s':=⟨[(29,.c (.d (.list 4 ((if(p0.waits.length:Int)<(if p1<0 then 0 else p1)then(p0.waits.length:Int)else(if p1<0 then 0 else p1)).toNat-(0:Int).toNat) (fun i=>z02 (p0.waits.getD ((0:Int).toNat+i) zzd))))),(1,cD (dI (if(p0.waits.length:Int)<(if p1<0 then 0 else p1)then(p0.waits.length:Int)else(if p1<0 then 0 else p1)))),(2,cD (dI p2)),(3,.c (.ptr 3 0)),(6,.c (.ptr 6 0)),(9,.c (.ptr 9 0)),(27,cD (lD 4 z02 p0.waits)),(28,cD (dI (if(p0.waits.length:Int)<(if p1<0 then 0 else p1)then(p0.waits.length:Int)else(if p1<0 then 0 else p1))))],[(3,.box (cDisk p0)),(6,.box [.zero,.zero,.d (dI 0),.d (.bool false),.d (dI 0)]),(9,.box [oC 30400 2 r2]),(30400,vL 2 z01 r2)]⟩) (by kernel_rfl) (ai hc3 trivial) ?_;refine At.l [] ⟨[(29,cD (lD 4 z02 (sub p0.waits 0 (if(p0.waits.length:Int)<(if p1<0 then 0 else p1)then(p0.waits.length:Int)else(if p1<0 then 0 else p1))))),(1,cD (dI (if(p0.waits.length:Int)<(if p1<0 then 0 else p1)then(p0.waits.length:Int)else(if p1<0 then 0 else p1)))),(2,cD (dI p2)),(3,.c (.ptr 3 0)),(6,.c (.ptr 6 0)),(9,.c (.ptr 9 0)),(27,cD (lD 4 z02 p0.waits)),(28,cD (dI (if(p0.waits.length:Int)<(if p1<0 then 0 else p1)then(p0.waits.length:Int)else(if p1<0 then 0 else p1))))],[(3,.box (cDisk p0)),(6,.box [.zero,.zero,.d (dI 0),.d (.bool false),.d (dI 0)]),(9,.box [oC 30400 2 r2]),(30400,vL 2 z01 r2)]⟩ ⟨⟨_,rfl,.c (.subD (z02) hc3.1 hc3.2.1 hc3.2.2)⟩,⟨_,rfl,.refl _⟩,⟨_,rfl,.refl _⟩,⟨_,rfl,.refl _⟩,⟨_,rfl,.refl _⟩,⟨_,rfl,.refl _⟩,⟨_,rfl,.refl _⟩,⟨_,rfl,.refl _⟩,trivial⟩ ⟨⟨_,rfl,.refl _,(by simp)⟩,⟨_,rfl,.refl _,(by simp)⟩,⟨_,rfl,.refl _,(by simp)⟩,⟨_,rfl,.refl _,(by simp)⟩,trivial⟩ ?_;obtain⟨r4,hr4,h⟩:=z04 h;refine z3i 0 [] [.c (.ptr 9 0),cD (lD 4 z02 (sub p0.waits 0 (if(p0.waits.length:Int)<(if p1<0 then 0 else p1)then(p0.waits.length:Int)else(if p1<0 then 0 else p1))))] [(5000,9),(5100,30400),(5150,30400)] [1,2,3,6,9] [3,6] (z1v hr4) (.ren rfl rfl (.flat (.refl _) rfl rfl .nil)) ?_;refine At.done rfl ?_;refine z11 (fun(a5:List File)=>⟨[(3,.c (.ptr 3 0)),(6,.c (.ptr 6 0)),(9,.c (.ptr 9 0))],[(3,.box (cDisk p0)),(6,.box [.zero,.zero,.d (dI 0),.d (.bool false),.d (dI 0)]),(9,.box [oC 30400 2 a5]),(30400,vL 2 z01 a5)]⟩) h (fun a5 h=>?_) (fun j6 h=>?_)
  ·refine Tri.sg [6,7] [6,30400] (z00 6) ?_;refine Tri.keep [6,7] [6,30400] (s':=⟨[(6,.c (.ptr 6 0)),(7,cD (dI 0))],[(6,.box [oC 30400 2 a5,.zero,.d (dI p0.room),.d (.bool false),.d (dI (-1))]),(30400,vL 2 z01 a5)]⟩) (by kernel_rfl) ?_;refine Tri.l [30400] ⟨[(6,.c (.ptr 6 0)),(7,cD (dI 0))],[(6,.box [.d (lD 2 z01 a5),.d (lD 4 z02 ([]:List Write)),.d (dI p0.room),.d (.bool false),.d (dI (-1))])]⟩ ⟨⟨_,rfl,.refl _⟩,⟨_,rfl,.refl _⟩,trivial⟩ ⟨⟨_,rfl,.box (.cons (CLe.frozen (z01) a5 rfl (by simp)) (.cons (.zero _ _) (.cons (.refl _) (.cons (.refl _) (.cons (.refl _) .nil))))),(by simp)⟩,trivial⟩ ?_;refine Tri.ret ?_;cases h;exact RetAt.k
  ·refine z11 (fun(a7:Bool)=>⟨[(1,cD (dI (if(p0.waits.length:Int)<(if p1<0 then 0 else p1)then(p0.waits.length:Int)else(if p1<0 then 0 else p1)))),(2,cD (dI p2)),(3,.c (.ptr 3 0)),(6,.c (.ptr 6 0)),(9,.c (.ptr 9 0)),(48,cD (.bool a7))],[(3,.box (cDisk p0)),(6,.box [.zero,.zero,.d (dI 0),.d (.bool false),.d (dI 0)]),(9,.box [oC 30400 2 r4]),(30400,vL 2 z01 r4)]⟩) h (fun a7 h=>?_) (fun j8 h=>?_)
   ·refine z07 h (fun h=>?_) (fun h=>?_)
    ·obtain⟨hc9,h⟩:=z0k h;refine Tri.sg [2,3,6,9,10] [3,6,9,10,30400] (tN 3 (ai hc9 (z00 3))) ?_;obtain⟨hc10,h⟩:=z0k h;refine Tri.sg [3,6,9,10] [3,6,9,10,30400] (tN 7 (ai hc10 (z00 2))) ?_;refine z05 ?_;refine At.seg 1 [3,6,9,63] [3,6,9,30400] (s':=⟨[(3,.c (.ptr 3 0)),(6,.c (.ptr 6 0)),(9,.c (.ptr 9 0)),(63,.agg [.d (.int .u8 ((p0.waits.getD ((if(p0.waits.length:Int)<(if p1<0 then 0 else p1)then(p0.waits.length:Int)else(if p1<0 then 0 else p1)).toNat) zzd).kind)),.d (.str ((p0.waits.getD ((if(p0.waits.length:Int)<(if p1<0 then 0 else p1)then(p0.waits.length:Int)else(if p1<0 then 0 else p1)).toNat) zzd).name)),.d (.str ((p0.waits.getD ((if(p0.waits.length:Int)<(if p1<0 then 0 else p1)then(p0.waits.length:Int)else(if p1<0 then 0 else p1)).toNat) zzd).to_)),.d (.str (((p0.waits.getD ((if(p0.waits.length:Int)<(if p1<0 then 0 else p1)then(p0.waits.length:Int)else(if p1<0 then 0 else p1)).toNat) zzd).data).extract 0 ((if(((p0.waits.getD ((if(p0.waits.length:Int)<(if p1<0 then 0 else p1)then(p0.waits.length:Int)else(if p1<0 then 0 else p1)).toNat) zzd).data).size:Int)<p2 then(((p0.waits.getD ((if(p0.waits.length:Int)<(if p1<0 then 0 else p1)then(p0.waits.length:Int)else(if p1<0 then 0 else p1)).toNat) zzd).data).size:Int)else p2).toNat)))])],[(3,.box (cDisk p0)),(6,.box [.zero,.zero,.d (dI 0),.d (.bool false),.d (dI 0)]),(9,.box [oC 30400 2 r4]),(30400,vL 2 z01 r4)]⟩) (by kernel_rfl) (z00 1) ?_;refine At.one rfl (One.buildSlice (z:=[.d (.int .u8 0),.d (.str (bs [])),.d (.str (bs [])),.d (.str (bs []))]) (cells:=[.d (.int .u8 ((p0.waits.getD ((if(p0.waits.length:Int)<(if p1<0 then 0 else p1)then(p0.waits.length:Int)else(if p1<0 then 0 else p1)).toNat) zzd).kind)),.d (.str ((p0.waits.getD ((if(p0.waits.length:Int)<(if p1<0 then 0 else p1)then(p0.waits.length:Int)else(if p1<0 then 0 else p1)).toNat) zzd).name)),.d (.str ((p0.waits.getD ((if(p0.waits.length:Int)<(if p1<0 then 0 else p1)then(p0.waits.length:Int)else(if p1<0 then 0 else p1)).toNat) zzd).to_)),.d (.str (((p0.waits.getD ((if(p0.waits.length:Int)<(if p1<0 then 0 else p1)then(p0.waits.length:Int)else(if p1<0 then 0 else p1)).toNat) zzd).data).extract 0 ((if(((p0.waits.getD ((if(p0.waits.length:Int)<(if p1<0 then 0 else p1)then(p0.waits.length:Int)else(if p1<0 then 0 else p1)).toNat) zzd).data).size:Int)<p2 then(((p0.waits.getD ((if(p0.waits.length:Int)<(if p1<0 then 0 else p1)then(p0.waits.length:Int)else(if p1<0 then 0 else p1)).toNat) zzd).data).size:Int)else p2).toNat)))]) (xs:=List.map (z02) ([(⟨(p0.waits.getD ((if(p0.waits.length:Int)<(if p1<0 then 0 else p1)then(p0.waits.length:Int)else(if p1<0 then 0 else p1)).toNat) zzd).kind,(p0.waits.getD ((if(p0.waits.length:Int)<(if p1<0 then 0 else p1)then(p0.waits.length:Int)else(if p1<0 then 0 else p1)).toNat) zzd).name,(p0.waits.getD ((if(p0.waits.length:Int)<(if p1<0 then 0 else p1)then(p0.waits.length:Int)else(if p1<0 then 0 else p1)).toNat) zzd).to_,(((p0.waits.getD ((if(p0.waits.length:Int)<(if p1<0 then 0 else p1)then(p0.waits.length:Int)else(if p1<0 then 0 else p1)).toNat) zzd).data).extract 0 ((if(((p0.waits.getD ((if(p0.waits.length:Int)<(if p1<0 then 0 else p1)then(p0.waits.length:Int)else(if p1<0 then 0 else p1)).toNat) zzd).data).size:Int)<p2 then(((p0.waits.getD ((if(p0.waits.length:Int)<(if p1<0 then 0 else p1)then(p0.waits.length:Int)else(if p1<0 then 0 else p1)).toNat) zzd).data).size:Int)else p2).toNat))⟩:Write)]:List Write)) rfl rfl rfl rfl (by kernel_rfl) rfl rfl (by kernel_rfl) rfl rfl rfl (by kernel_rfl) rfl ⟨⟨rfl,.refl _⟩,trivial⟩) ?_;refine At.l [64] ⟨[(64,cD (lD 4 z02 ([(⟨(p0.waits.getD ((if(p0.waits.length:Int)<(if p1<0 then 0 else p1)then(p0.waits.length:Int)else(if p1<0 then 0 else p1)).toNat) zzd).kind,(p0.waits.getD ((if(p0.waits.length:Int)<(if p1<0 then 0 else p1)then(p0.waits.length:Int)else(if p1<0 then 0 else p1)).toNat) zzd).name,(p0.waits.getD ((if(p0.waits.length:Int)<(if p1<0 then 0 else p1)then(p0.waits.length:Int)else(if p1<0 then 0 else p1)).toNat) zzd).to_,(((p0.waits.getD ((if(p0.waits.length:Int)<(if p1<0 then 0 else p1)then(p0.waits.length:Int)else(if p1<0 then 0 else p1)).toNat) zzd).data).extract 0 ((if(((p0.waits.getD ((if(p0.waits.length:Int)<(if p1<0 then 0 else p1)then(p0.waits.length:Int)else(if p1<0 then 0 else p1)).toNat) zzd).data).size:Int)<p2 then(((p0.waits.getD ((if(p0.waits.length:Int)<(if p1<0 then 0 else p1)then(p0.waits.length:Int)else(if p1<0 then 0 else p1)).toNat) zzd).data).size:Int)else p2).toNat))⟩:Write)]:List Write))),(3,.c (.ptr 3 0)),(6,.c (.ptr 6 0)),(9,.c (.ptr 9 0)),(63,.agg [.d (.int .u8 ((p0.waits.getD ((if(p0.waits.length:Int)<(if p1<0 then 0 else p1)then(p0.waits.length:Int)else(if p1<0 then 0 else p1)).toNat) zzd).kind)),.d (.str ((p0.waits.getD ((if(p0.waits.length:Int)<(if p1<0 then 0 else p1)then(p0.waits.length:Int)else(if p1<0 then 0 else p1)).toNat) zzd).name)),.d (.str ((p0.waits.getD ((if(p0.waits.length:Int)<(if p1<0 then 0 else p1)then(p0.waits.length:Int)else(if p1<0 then 0 else p1)).toNat) zzd).to_)),.d (.str (((p0.waits.getD ((if(p0.waits.length:Int)<(if p1<0 then 0 else p1)then(p0.waits.length:Int)else(if p1<0 then 0 else p1)).toNat) zzd).data).extract 0 ((if(((p0.waits.getD ((if(p0.waits.length:Int)<(if p1<0 then 0 else p1)then(p0.waits.length:Int)else(if p1<0 then 0 else p1)).toNat) zzd).data).size:Int)<p2 then(((p0.waits.getD ((if(p0.waits.length:Int)<(if p1<0 then 0 else p1)then(p0.waits.length:Int)else(if p1<0 then 0 else p1)).toNat) zzd).data).size:Int)else p2).toNat)))])],[(3,.box (cDisk p0)),(6,.box [.zero,.zero,.d (dI 0),.d (.bool false),.d (dI 0)]),(9,.box [oC 30400 2 r4]),(30400,vL 2 z01 r4)]⟩ ⟨⟨_,rfl,.c (.own rfl (List.mem_singleton.2 rfl) (zz7 rfl) rfl (z30 (z02) ([(⟨(p0.waits.getD ((if(p0.waits.length:Int)<(if p1<0 then 0 else p1)then(p0.waits.length:Int)else(if p1<0 then 0 else p1)).toNat) zzd).kind,(p0.waits.getD ((if(p0.waits.length:Int)<(if p1<0 then 0 else p1)then(p0.waits.length:Int)else(if p1<0 then 0 else p1)).toNat) zzd).name,(p0.waits.getD ((if(p0.waits.length:Int)<(if p1<0 then 0 else p1)then(p0.waits.length:Int)else(if p1<0 then 0 else p1)).toNat) zzd).to_,(((p0.waits.getD ((if(p0.waits.length:Int)<(if p1<0 then 0 else p1)then(p0.waits.length:Int)else(if p1<0 then 0 else p1)).toNat) zzd).data).extract 0 ((if(((p0.waits.getD ((if(p0.waits.length:Int)<(if p1<0 then 0 else p1)then(p0.waits.length:Int)else(if p1<0 then 0 else p1)).toNat) zzd).data).size:Int)<p2 then(((p0.waits.getD ((if(p0.waits.length:Int)<(if p1<0 then 0 else p1)then(p0.waits.length:Int)else(if p1<0 then 0 else p1)).toNat) zzd).data).size:Int)else p2).toNat))⟩:Write)]:List Write)))⟩,⟨_,rfl,.refl _⟩,⟨_,rfl,.refl _⟩,⟨_,rfl,.refl _⟩,⟨_,rfl,.refl _⟩,trivial⟩ ⟨⟨_,rfl,.refl _,(by simp)⟩,⟨_,rfl,.refl _,(by simp)⟩,⟨_,rfl,.refl _,(by simp)⟩,⟨_,rfl,.refl _,(by simp)⟩,trivial⟩ ?_;obtain⟨r11,hr11,h⟩:=z04 h;refine z3i 0 [] [.c (.ptr 9 0),cD (lD 4 z02 ([(⟨(p0.waits.getD ((if(p0.waits.length:Int)<(if p1<0 then 0 else p1)then(p0.waits.length:Int)else(if p1<0 then 0 else p1)).toNat) zzd).kind,(p0.waits.getD ((if(p0.waits.length:Int)<(if p1<0 then 0 else p1)then(p0.waits.length:Int)else(if p1<0 then 0 else p1)).toNat) zzd).name,(p0.waits.getD ((if(p0.waits.length:Int)<(if p1<0 then 0 else p1)then(p0.waits.length:Int)else(if p1<0 then 0 else p1)).toNat) zzd).to_,(((p0.waits.getD ((if(p0.waits.length:Int)<(if p1<0 then 0 else p1)then(p0.waits.length:Int)else(if p1<0 then 0 else p1)).toNat) zzd).data).extract 0 ((if(((p0.waits.getD ((if(p0.waits.length:Int)<(if p1<0 then 0 else p1)then(p0.waits.length:Int)else(if p1<0 then 0 else p1)).toNat) zzd).data).size:Int)<p2 then(((p0.waits.getD ((if(p0.waits.length:Int)<(if p1<0 then 0 else p1)then(p0.waits.length:Int)else(if p1<0 then 0 else p1)).toNat) zzd).data).size:Int)else p2).toNat))⟩:Write)]:List Write))] [(5000,9),(5100,30400),(5150,30400)] [3,6,9] [3,6] (z1v hr11) (.ren rfl rfl (.flat (.refl _) rfl rfl .nil)) ?_;refine At.keep [3,6,9] [3,6,9,30400] (s':=⟨[(3,.c (.ptr 3 0)),(6,.c (.ptr 6 0)),(9,.c (.ptr 9 0))],[(3,.box (cDisk p0)),(6,.box [.zero,.zero,.d (dI 0),.d (.bool false),.d (dI 0)]),(9,.box [oC 30400 2 r11]),(30400,vL 2 z01 r11)]⟩) (by kernel_rfl) ?_;refine At.done rfl ?_;exact⟨_,h,kr⟩
    ·refine Tri.kp [3,6,9] [3,6,9,30400] ?_;refine Tri.skip ?_;exact⟨_,h,kr⟩
   ·refine z05 ?_;refine At.sg 6 [1,2,3,6,9,36] [3,6,9,30400] (z00 6) ?_;refine At.cs [36] h (fun h=>?_) (fun h=>?_)
    ·refine At.sg 4 [1,2,3,6,9,40] [3,6,9,30400] (z00 4) ?_;refine At.cs [40] h (fun h=>?_) (fun h=>?_)
     ·obtain⟨hc12,h⟩:=z0k h;refine At.sg 8 [1,2,3,6,9,48] [3,6,9,30400] (tN 3 (ai hc12 (z00 4))) ?_;refine At.done rfl ?_;exact⟨_,h,kr⟩
     ·refine At.sg 8 [1,2,3,6,9,48] [3,6,9,30400] (z00 1) ?_;refine At.done rfl ?_;exact⟨_,h,kr⟩
    ·refine At.sg 12 [1,2,3,6,9,48] [3,6,9,30400] (z00 3) ?_;refine At.done rfl ?_;exact⟨_,h,kr⟩
end Go.Av
namespace Go.Av
open Go Go.Proofs
theorem z6t {fuel:Nat}{q:Bool}(h:z3b fuel=some q):
 Summ Try.prog 15 [] [] (cD (.bool q)) []:=by
 refine Summ.i Try.func15 rfl [] fun w0 G0 V LL φ0=>?_;unfold z3b at h;refine Tri.sg [] [] (z00 1) ?_;refine z03 ?_;refine z05 ?_;refine At.seg 1 [14] [] (s':=⟨[(14,.agg [.zero,.zero,.d (dI 9),.d (.bool false),.d (dI (-1))])],[]⟩) (by kernel_rfl) (z00 1) ?_;obtain⟨r1,hr1,h⟩:=z04 h;refine At.cA [] [cD (.str (bs [97])),cD (.str (bs [120]))] (z43 hr1) (.cons (.refl _) (.cons (.refl _) .nil)) ?_;refine At.one rfl (One.buildSlice (z:=[.d (.int .u8 0),.d (.str (bs [])),.d (.str (bs [])),.d (.str (bs []))]) (cells:=[.d (.int .u8 r1.kind),.d (.str r1.name),.d (.str r1.to_),.d (.str r1.data)]) (xs:=List.map (z02) ([r1]:List Write)) rfl rfl rfl rfl (by kernel_rfl) rfl rfl (by kernel_rfl) rfl rfl rfl (by kernel_rfl) rfl ⟨⟨rfl,.refl _⟩,trivial⟩) ?_;refine At.l [16] ⟨[(16,cD (lD 4 z02 ([r1]:List Write))),(14,.agg [.zero,.zero,.d (dI 9),.d (.bool false),.d (dI (-1))]),(15,.agg (cWrite r1))],[]⟩ ⟨⟨_,rfl,.c (.own rfl (List.mem_singleton.2 rfl) (zz7 rfl) rfl (z30 (z02) ([r1]:List Write)))⟩,⟨_,rfl,.refl _⟩,⟨_,rfl,.refl _⟩,trivial⟩ trivial ?_;obtain⟨r2,hr2,h⟩:=z04 h;refine At.cA [] [.agg [.zero,.zero,.d (dI 9),.d (.bool false),.d (dI (-1))],cD (lD 4 z02 ([r1]:List Write))] (z9o hr2) (.cons (.agg (.cons (.le (.zero _ _)) (.cons (.le (.zero _ _)) (.cons (.le (.refl _)) (.cons (.le (.refl _)) (.cons (.le (.refl _)) .nil)))))) (.cons (.refl _) .nil)) ?_;refine At.sg 6 [1,2] [1] (z00 6) ?_;refine At.done rfl ?_;refine z03 ?_;refine z05 ?_;refine At.sg 1 [1,2,21] [1] (z00 1) ?_;obtain⟨r3,hr3,h⟩:=z04 h;refine At.cA [] [.agg (cDisk r2.1)] (zbj hr3) (.cons (.refl _) .nil) ?_;refine At.sg 5 [1,2,3] [1] (z00 5) ?_;refine At.done rfl ?_;refine z03 ?_;obtain⟨r4,hr4,h⟩:=z04 h;obtain⟨r5,hr5,h⟩:=z04 h;refine z27 [.a [1] [1],.m ⟨[],[]⟩ ⟨[(27,.agg (cWrite r4))],[]⟩ [] [] [],.a [] [],.m ⟨[(27,.agg (cWrite r4)),(28,.agg [.d (.int .u8 2),.d (.str (bs [97])),.d (.str (bs [98])),.d (.str (bs []))])],[]⟩ ⟨[(29,.c (oC 29 4 ([r4,(⟨2,(bs [97]),(bs [98]),(bs [])⟩:Write)]:List Write)))],[(29,vL 4 z02 ([r4,(⟨2,(bs [97]),(bs [98]),(bs [])⟩:Write)]:List Write))]⟩ [29] [] [],.m ⟨[(26,.agg (cDisk r3.1)),(29,.c (oC 29 4 ([r4,(⟨2,(bs [97]),(bs [98]),(bs [])⟩:Write)]:List Write)))],[(29,vL 4 z02 ([r4,(⟨2,(bs [97]),(bs [98]),(bs [])⟩:Write)]:List Write))]⟩ ⟨[(30,.tup [(true,[.d (lD 2 z01 r5.1.files),.d (lD 4 z02 r5.1.waits),.d (dI r5.1.room),.d (.bool r5.1.down),.d (dI r5.1.fuse)]),(false,[.d (dI r5.2)])])],[]⟩ [] [] [],.a [30] [],.a [25] [],.a [25] [],.m ⟨[(1,.c (.ptr 1 0)),(31,.agg (cDisk r5.1))],[(1,.box (cDisk r3.1))]⟩ ⟨[],[(1,.box (cDisk r5.1))]⟩ [] [] [],.a [32] []] [1,2,3,4] [1] (z00 6) (.a (.m ?_ (.a (.m ?_ (.m ?_ (.a (.a (.a (.m ?_ (.a .z)))))))))) ?_
 ·exact DOk.cA [] [cD (.str (bs [97])),cD (.str (bs [121,122]))] (z43 hr4) fun r=>(.cons (.refl _) (.cons (.refl _) .nil))
 ·exact DOk.one fun r hr=>z38 (e:=45) (es:=4) (z:=[.d (.int .u8 0),.d (.str (bs [])),.d (.str (bs [])),.d (.str (bs []))]) (cells:=[.d (.int .u8 r4.kind),.d (.str r4.name),.d (.str r4.to_),.d (.str r4.data),.d (.int .u8 2),.d (.str (bs [97])),.d (.str (bs [98])),.d (.str (bs []))]) (z02) ([r4,(⟨2,(bs [97]),(bs [98]),(bs [])⟩:Write)]:List Write) rfl (by kernel_rfl) rfl rfl (z1s (by kernel_rfl) (hr 29 (by simp))) (by kernel_rfl) rfl (by kernel_rfl) rfl rfl rfl (by kernel_rfl) rfl ⟨⟨rfl,.refl _⟩,⟨rfl,.refl _⟩,trivial⟩
 ·exact DOk.cA [] [.agg (cDisk r3.1),.c (oC 29 4 ([r4,(⟨2,(bs [97]),(bs [98]),(bs [])⟩:Write)]:List Write))] (z7k hr5) fun r=>(.cons (.refl _) (.cons (AVArg.view (z02) ([r4,(⟨2,(bs [97]),(bs [98]),(bs [])⟩:Write)]:List Write) rfl) .nil))
 ·exact DOk.step (.turn 1 (.box (cDisk r5.1))) (fun r=>by kernel_rfl) (fun r=>by kernel_rfl) trivial (by kernel_rfl) (by kernel_rfl) (fun r=>rfl)
 refine z03 ?_;refine z05 ?_;refine At.sg 1 [1,2,3,4,34] [1] (z00 1) ?_;obtain⟨r6,hr6,h⟩:=z04 h;refine At.cA [] [.agg (cDisk r5.1),cD (.str (bs [98]))] (z81 hr6) (.cons (.refl _) (.cons (.refl _) .nil)) ?_;refine At.sg 5 [1,2,3,4,5,6] [1] (z00 5) ?_;refine At.done rfl ?_;refine z03 ?_;refine z05 ?_;refine At.sg 1 [1,2,3,4,5,6,39] [1] (z00 1) ?_;obtain⟨r7,hr7,h⟩:=z04 h;refine At.cA [] [.agg (cDisk r5.1),cD (dI 0),cD (dI 1)] (zb6 hr7) (.cons (.refl _) (.cons (.refl _) (.cons (.refl _) .nil))) ?_;refine At.sg 6 [1,2,3,4,5,6,7,8] [1,7] (z00 6) ?_;refine At.done rfl ?_;refine z03 ?_;refine z05 ?_;refine At.sg 1 [1,2,3,4,5,6,8,44] [1] (z00 1) ?_;obtain⟨r8,hr8,h⟩:=z04 h;refine At.cA [] [.agg (cDisk r7.1),cD (.str (bs [97]))] (z81 hr8) (.cons (.refl _) (.cons (.refl _) .nil)) ?_;refine At.sg 5 [1,2,3,4,5,6,8,9,10] [1] (z00 5) ?_;refine At.done rfl ?_;refine z03 ?_;obtain⟨r9,hr9,h⟩:=z04 h;obtain⟨r10,hr10,h⟩:=z04 h;refine z27 [.a [1] [1],.m ⟨[],[]⟩ ⟨[(50,.agg (cWrite r9))],[]⟩ [] [] [],.m ⟨[(50,.agg (cWrite r9))],[]⟩ ⟨[(51,.c (oC 51 4 ([r9]:List Write)))],[(51,vL 4 z02 ([r9]:List Write))]⟩ [51] [] [],.m ⟨[(49,.agg (cDisk r5.1)),(51,.c (oC 51 4 ([r9]:List Write)))],[(51,vL 4 z02 ([r9]:List Write))]⟩ ⟨[(52,.tup [(true,[.d (lD 2 z01 r10.1.files),.d (lD 4 z02 r10.1.waits),.d (dI r10.1.room),.d (.bool r10.1.down),.d (dI r10.1.fuse)]),(false,[.d (dI r10.2)])])],[]⟩ [] [] [],.a [52] [],.a [48] [],.a [48] [],.m ⟨[],[]⟩ ⟨[(11,.c (.ptr 11 0))],[(11,.box [.zero,.zero,.d (dI 0),.d (.bool false),.d (dI 0)])]⟩ [11] [] [],.m ⟨[(11,.c (.ptr 11 0)),(53,.agg (cDisk r10.1))],[(11,.box [.zero,.zero,.d (dI 0),.d (.bool false),.d (dI 0)])]⟩ ⟨[],[(11,.box (cDisk r10.1))]⟩ [] [] [],.a [54] []] [2,3,4,5,6,8,9,10,12] [] (z00 5) (.a (.m ?_ (.m ?_ (.m ?_ (.a (.a (.a (.m ?_ (.m ?_ (.a .z)))))))))) ?_
 ·exact DOk.cA [] [cD (.str (bs [99])),cD (.str (bs [49,50,51,52,53,54,55]))] (z43 hr9) fun r=>(.cons (.refl _) (.cons (.refl _) .nil))
 ·exact DOk.one fun r hr=>z38 (e:=45) (es:=4) (z:=[.d (.int .u8 0),.d (.str (bs [])),.d (.str (bs [])),.d (.str (bs []))]) (cells:=[.d (.int .u8 r9.kind),.d (.str r9.name),.d (.str r9.to_),.d (.str r9.data)]) (z02) ([r9]:List Write) rfl (by kernel_rfl) rfl rfl (z1s (by kernel_rfl) (hr 51 (by simp))) (by kernel_rfl) rfl (by kernel_rfl) rfl rfl rfl (by kernel_rfl) rfl ⟨⟨rfl,.refl _⟩,trivial⟩
 ·exact DOk.cA [] [.agg (cDisk r5.1),.c (oC 51 4 ([r9]:List Write))] (z7k hr10) fun r=>(.cons (.refl _) (.cons (AVArg.view (z02) ([r9]:List Write) rfl) .nil))
 ·exact DOk.step (.new (.box [.zero,.zero,.d (dI 0),.d (.bool false),.d (dI 0)]) (.c (.ptr 11 0))) (fun r=>by kernel_rfl) (fun r=>by kernel_rfl) trivial (by kernel_rfl) (by kernel_rfl) (fun r=>rfl)
 ·exact DOk.step (.turn 11 (.box (cDisk r10.1))) (fun r=>by kernel_rfl) (fun r=>by kernel_rfl) trivial (by kernel_rfl) (by kernel_rfl) (fun r=>rfl)
 refine z11 (fun(a11:Bool)=>⟨[(0,cD (.bool a11))],[]⟩) h (fun a11 h=>?_) (fun j12 h=>?_)
 ·refine Tri.ret ?_;cases h;exact RetAt.k
 ·refine z05 ?_;refine At.sg 3 [3,4,5,6,8,9,10,12,57] [] (z00 3) ?_;refine At.cs [57] h (fun h=>?_) (fun h=>?_)
  ·refine At.sg 4 [4,5,6,8,9,10,12,61] [] (z00 4) ?_;refine At.cs [61] h (fun h=>?_) (fun h=>?_)
   ·refine At.sg 4 [5,6,8,9,10,12,65] [] (z00 4) ?_;refine At.cs [65] h (fun h=>?_) (fun h=>?_)
    ·refine At.sg 4 [6,8,9,10,12,69] [] (z00 4) ?_;refine At.cs [69] h (fun h=>?_) (fun h=>?_)
     ·refine At.sg 4 [8,9,10,12,73] [] (z00 4) ?_;refine At.cs [73] h (fun h=>?_) (fun h=>?_)
      ·refine At.sg 4 [9,10,12,77] [] (z00 4) ?_;refine At.cs [77] h (fun h=>?_) (fun h=>?_)
       ·refine At.sg 4 [10,12,81] [] (z00 4) ?_;refine At.cs [81] h (fun h=>?_) (fun h=>?_)
        ·refine At.sg 4 [12,85] [] (z00 4) ?_;refine At.cs [85] h (fun h=>?_) (fun h=>?_)
         ·refine At.sg 4 [0] [] (z00 4) ?_;refine At.done rfl ?_;exact⟨_,h,kr⟩
         ·refine At.sg 4 [0] [] (z00 2) ?_;refine At.done rfl ?_;exact⟨_,h,kr⟩
        ·refine At.sg 8 [0] [] (z00 4) ?_;refine At.done rfl ?_;exact⟨_,h,kr⟩
       ·refine At.sg 12 [0] [] (z00 6) ?_;refine At.done rfl ?_;exact⟨_,h,kr⟩
      ·refine At.sg 16 [0] [] (z00 8) ?_;refine At.done rfl ?_;exact⟨_,h,kr⟩
     ·refine At.sg 20 [0] [] (z00 10) ?_;refine At.done rfl ?_;exact⟨_,h,kr⟩
    ·refine At.sg 24 [0] [] (z00 12) ?_;refine At.done rfl ?_;exact⟨_,h,kr⟩
   ·refine At.sg 28 [0] [] (z00 14) ?_;refine At.done rfl ?_;exact⟨_,h,kr⟩
  ·refine At.sg 32 [0] [] (z00 16) ?_;refine At.done rfl ?_;exact⟨_,h,kr⟩
theorem z5l {p0:List File}{p1:List File}{q:Bool}(h:z1u p0 p1=some q):
 Summ Try.prog 21 [cD (lD 2 z01 p0),cD (lD 2 z01 p1)] [] (cD (.bool q)) []:=by
 refine Summ.i Try.func21 rfl [] fun w0 G0 V LL φ0=>?_;unfold z1u at h;refine Tri.sg [0,1] [] (z00 1) ?_;refine z03 ?_;refine Tri.sg [0,1,10] [] (z00 5) ?_;refine z07 h (fun h=>?_) (fun h=>?_)
 ·refine Tri.sg [4] [] (z00 1) ?_;refine Tri.ret ?_;cases h;exact RetAt.k
 ·refine Tri.skip ?_;refine z03 ?_;refine Tri.sg [0,1,12,13] [] (z00 3) ?_;refine Tri.ln 0 p0.length fun hlena2=>?_;refine z3n 13 () (fun(x:Bool) s=>RetAt Try.prog Try.f21 (cD (.bool x)) [] s) (fun(a2:Unit)=>⟨[(0,cD (lD 2 z01 p0)),(1,cD (lD 2 z01 p1)),(12,cD (dI (p0.length:Int)))],[]⟩) [13,0,1,12] [] [14,13,0,1,12] [] [0,1,12] [] [13,0,1,12] [] h hlena2 ?_ ?_ ?_
  ·intro i1 a2 c hii1 h;refine Tri.sg [0,1,5,12,13] [] (z00 2) ?_;refine z03 ?_;obtain⟨hc4,h⟩:=z0k h;refine z27 [.a [0] [],.a [5] [],.a [16,17] [],.a [18] [],.a [1] [],.a [5] [],.a [20,21] [],.a [22] [],.m ⟨[(19,.agg (cFile (p0.getD i1 zzd))),(23,.agg (cFile (p1.getD i1 zzd)))],[]⟩ ⟨[(24,cD (.bool (!(z85 (p0.getD i1 zzd) (p1.getD i1 zzd)))))],[]⟩ [] [] []] [0,1,12,13,24] [] (tN 2 (ai (show((0:Int)≤((i1:Nat):Int)∧((i1:Nat):Int)<(p0.length:Int))from⟨by omega,by omega⟩) (tN 3 (ai hc4 (z00 1))))) (.a (.a (.a (.a (.a (.a (.a (.a (.m ?_ .z))))))))) ?_
   ·exact DOk.one fun r _=>One.eql (b:=(z85 (p0.getD i1 zzd) (p1.getD i1 zzd))) (d:=9) rfl (by kernel_rfl) rfl (.inr rfl) rfl rfl (by kernel_rfl) rfl (by kernel_rfl)
   refine z07 h (fun h=>?_) (fun h=>?_)
   ·refine Tri.sg [4] [] (z00 1) ?_;refine Tri.ret ?_;cases h;exact RetAt.k
   ·refine Tri.kp [13,0,1,12] [] ?_;refine Tri.skip ?_;cases h;exact kr
  ·intro a3 h;refine Tri.sg [4] [] (z00 1) ?_;refine Tri.ret ?_;cases h;exact RetAt.k
  ·exact fun x s hx hr=>by cases hx;exact hr
theorem z76 {fuel:Nat}{p0:Disk}{p1:Disk}{q:Bool}(h:z1h fuel p0 p1=some q):
 Summ Try.prog 16 [.agg (cDisk p0),.agg (cDisk p1)] [] (cD (.bool q)) []:=by
 refine Summ.i Try.func16 rfl [] fun w0 G0 V LL φ0=>?_;unfold z1h at h;refine Tri.sg [2,3] [2,3] (z00 3) ?_;refine z03 ?_;refine Tri.sg [2,3,12] [2,3] (z00 7) ?_;refine z07 h (fun h=>?_) (fun h=>?_)
 ·refine Tri.sg [4] [] (z00 1) ?_;refine Tri.ret ?_;cases h;exact RetAt.k
 ·refine Tri.skip ?_;refine z03 ?_;refine Tri.sg [2,3,15,16] [2,3] (z00 4) ?_;refine zbd (0) (fun(x:Bool) s=>RetAt Try.prog Try.f16 (cD (.bool x)) [] s) (fun(a1:Int)=>⟨[(2,.c (.ptr 2 0)),(3,.c (.ptr 3 0)),(15,cD (dI (p0.waits.length:Int))),(16,cD (dI a1))],[(2,.box (cDisk p0)),(3,.box (cDisk p1))]⟩) [2,3,15,16] [2,3] h ?_ ?_ ?_
  ·intro a1 c h;refine Tri.sg [2,3,15,16,17] [2,3] (z00 1) ?_;refine z03 ?_;refine z07 h (fun h=>?_) (fun h=>?_)
   ·refine Tri.skip ?_;refine z03 ?_;refine z3z ?_;refine Tri.sg [2,3,5,15,16] [2,3] (z00 2) ?_;refine z03 ?_;obtain⟨hc6,h⟩:=z0k h;obtain⟨hc7,h⟩:=z0k h;refine z27 [.a [2] [],.a [19] [2],.a [5] [],.a [20,21] [],.a [22] [],.a [3] [],.a [24] [3],.a [5] [],.a [25,26] [],.a [27] [],.m ⟨[(23,.agg (cWrite (p0.waits.getD a1.toNat zzd))),(28,.agg (cWrite (p1.waits.getD a1.toNat zzd)))],[]⟩ ⟨[(29,cD (.bool (!(z5r (p0.waits.getD a1.toNat zzd) (p1.waits.getD a1.toNat zzd)))))],[]⟩ [] [] []] [2,3,15,16,29] [2,3] (tN 3 (ai hc6 (tN 4 (ai hc7 (z00 1))))) (.a (.a (.a (.a (.a (.a (.a (.a (.a (.a (.m ?_ .z))))))))))) ?_
    ·exact DOk.one fun r _=>One.eql (b:=(z5r (p0.waits.getD a1.toNat zzd) (p1.waits.getD a1.toNat zzd))) (d:=9) rfl (by kernel_rfl) rfl (.inr rfl) rfl rfl (by kernel_rfl) rfl (by kernel_rfl)
    refine z07 h (fun h=>?_) (fun h=>?_)
    ·refine Tri.sg [4] [] (z00 1) ?_;refine Tri.ret ?_;cases h;exact RetAt.k
    ·refine Tri.skip ?_;refine z05 ?_;refine At.sg 2 [2,3,15,16] [2,3] (z00 2) ?_;refine At.done rfl ?_;cases h;exact kr
   ·refine Tri.kp [2,3,15,16] [2,3] ?_;refine Tri.exit ?_;cases h;exact⟨rfl,kr⟩
  ·intro a2 h;refine z11 (fun(a3:Bool)=>⟨[(4,cD (.bool a3))],[]⟩) h (fun a3 h=>?_) (fun j4 h=>?_)
   ·refine Tri.ret ?_;cases h;exact RetAt.k
   ·refine z05 ?_;refine At.sg 4 [2,3,32,34] [2,3] (z00 4) ?_;obtain⟨r5,hr5,h⟩:=z04 h;refine At.cA [] [cD (lD 2 z01 p0.files),cD (lD 2 z01 p1.files)] (z5l hr5) (.cons (.refl _) (.cons (.refl _) .nil)) ?_;refine At.sg 1 [2,3,36] [2,3] (z00 1) ?_;refine At.cs [36] h (fun h=>?_) (fun h=>?_)
    ·refine At.sg 7 [2,3,43] [2,3] (z00 7) ?_;refine At.cs [43] h (fun h=>?_) (fun h=>?_)
     ·refine At.sg 7 [2,3,50] [2,3] (z00 7) ?_;refine At.cs [50] h (fun h=>?_) (fun h=>?_)
      ·refine At.sg 7 [4] [] (z00 7) ?_;refine At.done rfl ?_;exact⟨_,h,kr⟩
      ·refine At.sg 7 [4] [] (z00 2) ?_;refine At.done rfl ?_;exact⟨_,h,kr⟩
     ·refine At.sg 14 [4] [] (z00 4) ?_;refine At.done rfl ?_;exact⟨_,h,kr⟩
    ·refine At.sg 21 [4] [] (z00 6) ?_;refine At.done rfl ?_;exact⟨_,h,kr⟩
  ·exact fun x s hx hr=>by cases hx;exact hr
end Go.Av
namespace Go.Av
open Go Go.Proofs
theorem z60 {fuel:Nat}{p0:Int}{p1:List Write}{q:Bool}(h:z1y fuel p0 p1=some q):
 Summ Try.prog 9 [cD (.int .u16 p0),cD (lD 4 z02 p1)] [] (cD (.bool q)) []:=by
 refine Summ.i Try.func9 rfl [] fun w0 G0 V LL φ0=>?_;unfold z1y at h;refine Tri.sg [0,1] [] (z00 1) ?_;refine z03 ?_;refine z03 ?_;refine z05 ?_;obtain⟨r1,hr1,h⟩:=z04 h;refine At.cA [] [] (z6t hr1) .nil ?_;refine At.sg 1 [0,1,16] [] (z00 1) ?_;refine At.done rfl ?_;refine z07 h (fun h=>?_) (fun h=>?_)
 ·refine Tri.sg [4] [] (z00 1) ?_;refine Tri.ret ?_;cases h;exact RetAt.k
 ·refine Tri.skip ?_;refine Tri.sg [0,1,5] [5] (z00 5) ?_;refine z03 ?_;refine Tri.sg [0,5,20,21,22] [5] (z00 3) ?_;refine Tri.ln 20 p1.length fun hlena3=>?_;refine Tri.keep [22,0,5,20,21] [5] (s':=⟨[(22,cD (dI 0)),(0,cD (.int .u16 p0)),(5,.c (.ptr 5 0)),(20,cD (lD 4 z02 p1)),(21,cD (dI (p1.length:Int)))],[(5,.box [.zero,.zero,.d (dI (zzi.wrap p0)),.d (.bool false),.d (dI (-1))])]⟩) (by kernel_rfl) ?_;refine Tri.l [] ⟨[(22,cD (dI 0)),(0,cD (.int .u16 p0)),(5,.c (.ptr 5 0)),(20,cD (lD 4 z02 p1)),(21,cD (dI (p1.length:Int)))],[(5,.box [.d (lD 2 z01 ((⟨([]:List File),([]:List Write),(zzi.wrap p0),false,(-1)⟩:Disk).files)),.d (lD 4 z02 ((⟨([]:List File),([]:List Write),(zzi.wrap p0),false,(-1)⟩:Disk).waits)),.d (dI (zzi.wrap p0)),.d (.bool false),.d (dI (-1))])]⟩ ⟨⟨_,rfl,.refl _⟩,⟨_,rfl,.refl _⟩,⟨_,rfl,.refl _⟩,⟨_,rfl,.refl _⟩,⟨_,rfl,.refl _⟩,trivial⟩ ⟨⟨_,rfl,.box (.cons (.zero _ _) (.cons (.zero _ _) (.cons (.refl _) (.cons (.refl _) (.cons (.refl _) .nil))))),(by simp)⟩,trivial⟩ ?_;refine Tri.range (n:=p1.length) (st0:=(⟨([]:List File),([]:List Write),(zzi.wrap p0),false,(-1)⟩:Disk)) (fun(x:Bool) s=>RetAt Try.prog Try.f9 (cD (.bool x)) [] s) (fun(a3:Disk)=>⟨[(0,cD (.int .u16 p0)),(5,.c (.ptr 5 0)),(20,cD (lD 4 z02 p1)),(21,cD (dI (p1.length:Int)))],[(5,.box (cDisk a3))]⟩) (fun(a3:Disk)=>⟨[(0,cD (.int .u16 p0)),(5,.c (.ptr 5 0)),(20,cD (lD 4 z02 p1)),(21,cD (dI (p1.length:Int)))],[(5,.box (cDisk a3))]⟩) (fun i=>decide ((i:Int)<(p1.length:Int))) [23,22,0,5,20,21] [5] [0,5,20,21] [5] [22,0,5,20,21] [5] h hlena3 rfl ?_ ?_ ?_ ?_ ?_ ?_ ?_ ?_
  ·exact fun i a=>⟨True∧True,by kernel_rfl,⟨trivial,trivial⟩⟩
  ·exact fun i hi=>decide_eq_true (by omega)
  ·exact decide_eq_false (by omega)
  ·exact fun a=>by kernel_rfl
  ·exact fun i a=>⟨True∧True∧True,by kernel_rfl,⟨trivial,trivial,trivial⟩⟩
  ·intro i2 a3 c hii2 h;refine Tri.sg [0,5,6,7,20,21,22] [5,7] (tN 1 (ai (show((0:Int)≤((i2:Nat):Int)∧((i2:Nat):Int)<(p1.length:Int))from⟨by omega,by omega⟩) (z00 4))) ?_;refine z03 ?_;refine Tri.sg [0,5,7,20,21,22,28] [5,7] (z00 2) ?_;refine z07 h (fun h=>?_) (fun h=>?_)
   ·refine Tri.kp [0,5,20,21] [5] ?_;refine Tri.exit ?_;cases h;exact⟨rfl,kr⟩
   ·refine Tri.skip ?_;refine z03 ?_;refine z05 ?_;refine At.seg 2 [0,5,20,21,22,30,31] [5] (s':=⟨[(0,cD (.int .u16 p0)),(5,.c (.ptr 5 0)),(20,cD (lD 4 z02 p1)),(21,cD (dI (p1.length:Int))),(22,cD (dI ((i2:Nat):Int))),(30,.agg (cDisk a3)),(31,.agg (cWrite (p1.getD i2 zzd)))],[(5,.box (cDisk a3))]⟩) (by kernel_rfl) (z00 2) ?_;refine At.one rfl (One.buildSlice (z:=[.d (.int .u8 0),.d (.str (bs [])),.d (.str (bs [])),.d (.str (bs []))]) (cells:=[.d (.int .u8 ((p1.getD i2 zzd).kind)),.d (.str ((p1.getD i2 zzd).name)),.d (.str ((p1.getD i2 zzd).to_)),.d (.str ((p1.getD i2 zzd).data))]) (xs:=List.map (z02) ([(p1.getD i2 zzd)]:List Write)) rfl rfl rfl rfl (by kernel_rfl) rfl rfl (by kernel_rfl) rfl rfl rfl (by kernel_rfl) rfl ⟨⟨rfl,.refl _⟩,trivial⟩) ?_;refine At.l [32] ⟨[(32,cD (lD 4 z02 ([(p1.getD i2 zzd)]:List Write))),(0,cD (.int .u16 p0)),(5,.c (.ptr 5 0)),(20,cD (lD 4 z02 p1)),(21,cD (dI (p1.length:Int))),(22,cD (dI ((i2:Nat):Int))),(30,.agg (cDisk a3)),(31,.agg (cWrite (p1.getD i2 zzd)))],[(5,.box (cDisk a3))]⟩ ⟨⟨_,rfl,.c (.own rfl (List.mem_singleton.2 rfl) (zz7 rfl) rfl (z30 (z02) ([(p1.getD i2 zzd)]:List Write)))⟩,⟨_,rfl,.refl _⟩,⟨_,rfl,.refl _⟩,⟨_,rfl,.refl _⟩,⟨_,rfl,.refl _⟩,⟨_,rfl,.refl _⟩,⟨_,rfl,.refl _⟩,⟨_,rfl,.refl _⟩,trivial⟩ ⟨⟨_,rfl,.refl _,(by simp)⟩,trivial⟩ ?_;obtain⟨r5,hr5,h⟩:=z04 h;refine At.cA [] [.agg (cDisk a3),cD (lD 4 z02 ([(p1.getD i2 zzd)]:List Write))] (z9o hr5) (.cons (.refl _) (.cons (.refl _) .nil)) ?_;refine At.sg 6 [0,5,8,9,20,21,22] [5,8] (z00 6) ?_;refine At.done rfl ?_;refine z03 ?_;refine z11 (fun(a6:Bool)=>⟨[(0,cD (.int .u16 p0)),(5,.c (.ptr 5 0)),(8,.c (.ptr 8 0)),(20,cD (lD 4 z02 p1)),(21,cD (dI (p1.length:Int))),(22,cD (dI ((i2:Nat):Int))),(43,cD (.bool a6))],[(5,.box (cDisk a3)),(8,.box (cDisk r5.1))]⟩) h (fun a6 h=>?_) (fun j7 h=>?_)
    ·refine z07 h (fun h=>?_) (fun h=>?_)
     ·refine Tri.sg [4] [] (z00 1) ?_;refine Tri.ret ?_;cases h;exact RetAt.k
     ·refine Tri.skip ?_;refine Tri.sg [0,5,20,21,22] [5] (z00 2) ?_;refine z03 ?_;refine z05 ?_;refine At.sg 1 [0,5,20,21,22,46] [5] (z00 1) ?_;obtain⟨r8,hr8,h⟩:=z04 h;refine At.cA [] [.agg (cDisk r5.1)] (z8u hr8) (.cons (.refl _) .nil) ?_;refine At.sg 5 [0,5,10,20,21,22] [5] (z00 5) ?_;refine At.done rfl ?_;refine Tri.sg [0,5,10,12,20,21,22] [5] (z00 1) ?_;refine z03 ?_;refine Tri.sg [0,5,12,20,21,22,50,51,52] [5] (z00 3) ?_;refine Tri.ln 50 r8.1.length fun hlena10=>?_;refine z3n 52 (0) (fun(x:Empty) s=>False) (fun(a10:Int)=>⟨[(0,cD (.int .u16 p0)),(5,.c (.ptr 5 0)),(12,cD (dI a10)),(20,cD (lD 4 z02 p1)),(21,cD (dI (p1.length:Int))),(22,cD (dI ((i2:Nat):Int))),(50,cD (lD 2 z01 r8.1)),(51,cD (dI (r8.1.length:Int)))],[(5,.box (cDisk r5.1))]⟩) [52,0,5,12,20,21,22,50,51] [5] [53,52,0,5,12,20,21,22,50,51] [5] [0,5,12,20,21,22,50,51] [5] [52,0,5,12,20,21,22,50,51] [5] h hlena10 ?_ ?_ ?_
      ·intro i9 a10 c hii9 h;refine Tri.sg [0,5,12,14,20,21,22,50,51,52] [5,14] (ai (show((0:Int)≤((i9:Nat):Int)∧((i9:Nat):Int)<(r8.1.length:Int))from⟨by omega,by omega⟩) (z00 3)) ?_;refine z05 ?_;refine At.sg 6 [52,0,5,12,20,21,22,50,51] [5] (z00 6) ?_;refine At.done rfl ?_;cases h;exact kr
      ·intro a11 h;refine z11 (fun(a12:Bool)=>⟨[(0,cD (.int .u16 p0)),(5,.c (.ptr 5 0)),(20,cD (lD 4 z02 p1)),(21,cD (dI (p1.length:Int))),(22,cD (dI ((i2:Nat):Int))),(70,cD (.bool a12))],[(5,.box (cDisk r5.1))]⟩) h (fun a12 h=>?_) (fun j13 h=>?_)
       ·refine z07 h (fun h=>?_) (fun h=>?_)
        ·refine Tri.sg [4] [] (z00 1) ?_;refine Tri.ret ?_;cases h;exact RetAt.k
        ·refine Tri.kp [22,0,5,20,21] [5] ?_;refine Tri.skip ?_;cases h;exact kr
       ·refine z05 ?_;refine At.sg 5 [0,5,20,21,22,66] [5] (z00 5) ?_;refine At.cs [66] h (fun h=>?_) (fun h=>?_)
        ·refine At.sg 4 [0,5,20,21,22,70] [5] (z00 1) ?_;refine At.done rfl ?_;exact⟨_,h,kr⟩
        ·refine At.sg 1 [0,5,20,21,22,66,67] [5] (z00 1) ?_;obtain⟨r14,hr14,h⟩:=z04 h;refine At.cA [] [.agg (cDisk r5.1)] (z35 hr14) (.cons (.refl _) .nil) ?_;refine At.sg 2 [0,5,20,21,22,70] [5] (z00 2) ?_;refine At.done rfl ?_;exact⟨_,h,kr⟩
      ·exact fun x=>x.elim
    ·refine z05 ?_;refine At.sg 3 [0,5,8,20,21,22,38] [5,8] (z00 3) ?_;refine At.cs [38] h (fun h=>?_) (fun h=>?_)
     ·refine At.sg 2 [0,5,8,20,21,22,38,39,40] [5,8] (z00 2) ?_;obtain⟨r15,hr15,h⟩:=z04 h;refine At.cA [] [.agg (cDisk a3),.agg (cDisk r5.1)] (z76 hr15) (.cons (.refl _) (.cons (.refl _) .nil)) ?_;refine At.sg 2 [0,5,8,20,21,22,43] [5,8] (z00 2) ?_;refine At.done rfl ?_;exact⟨_,h,kr⟩
     ·refine At.sg 5 [0,5,8,20,21,22,43] [5,8] (z00 1) ?_;refine At.done rfl ?_;exact⟨_,h,kr⟩
  ·intro a4 h;refine Tri.sg [4] [] (z00 1) ?_;refine Tri.ret ?_;cases h;exact RetAt.k
  ·exact fun x s hx hr=>by cases hx;exact hr
end Go.Av
namespace Go.Av
open Go Go.Proofs
def zcr (x:Write):Prop:=(okInt .u8) x.kind∧(fun s=>s.size≤maxN) x.name∧(fun s=>s.size≤maxN) x.to_∧(fun s=>s.size≤maxN) x.data∧True
def z3w (x:Write):Nat:=((fun _=>1) x.kind+((fun s=>s.size+1) x.name+((fun s=>s.size+1) x.to_+((fun s=>s.size+1) x.data+0))))+1
theorem zdc {H:Type}{enc:TypeId×Go.Value→H}{W:World}{Z:TypeId→DataW H→Prop}{B:DataW H→Nat}(hZ:Fine Try.prog Z)(hB:BulkOk B):Reads enc Try.prog W Z B 45 z02 zcr z3w:=fun n=>by
 have h:=z0z.struct (n:=n) (enc:=enc) (W:=W) (tot:=4) hZ hB Try.underlying45 (by kernel_rfl) (fun m _=>(z44.cons (k:=1) (z0z.int hB Try.underlying43) rfl (by kernel_rfl) (z44.cons (k:=1) (z0z.string hZ hB Try.underlying9) rfl (by kernel_rfl) (z44.cons (k:=1) (z0z.string hZ hB Try.underlying9) rfl (by kernel_rfl) (z44.cons (k:=1) (z0z.string hZ hB Try.underlying9) rfl (by kernel_rfl) (z44.nil (off:=4)))))));exact h.map (fun(p:Int×ByteArray×ByteArray×ByteArray×Unit)=>(⟨p.1,p.2.1,p.2.2.1,p.2.2.2.1⟩:Write)) (fun _ _=>rfl) (fun _ h=>h) (fun _ _=>zzb _)
end Go.Av
/-
 Av,part V:of loops,without any program.
-/
namespace Go.Av
section
variable {S R Q A X:Type}
theorem        z7f {B : Nat → S → Option (Ctl S R)} {n : Nat} (I : Nat → S → Prop) {s : S} (h0 : I 0 s) (hs : ∀ i s, i < n → I i s → ∃ s', B i s = some (.next s') ∧ I (i + 1) s') :
    ∃ s',    z0m B n 0 s = some (.done s') ∧ I n s' := by
  have key : ∀ k i s, i + k = n → I i s → ∃ s',    z0m B k i s = some (.done s') ∧ I n s' := by
    intro k
    induction k with
    | zero => intro i s hi h; exact ⟨s, rfl, by have : i = n := by omega
                                                subst this; exact h⟩
    | succ k ih =>
      intro i s hi h
      obtain ⟨s', h1, h2⟩ := hs i s (by omega) h
      obtain ⟨s2, h3, h4⟩ := ih (i + 1) s' (by omega) h2
      exact ⟨s2, by simp only [   z0m, h1, h3], h4⟩
  exact key n 0 s (by omega) h0
theorem z6c {B:Nat→S→Option (Ctl S R)}{n:Nat}{s:S}(r:S)(I:Nat→S→Prop)(hr: ∀s,I n s→s=r)(hs: ∀i s,i<n→I i s→ ∃s',B i s=some (.next s')∧I (i+1) s')(h0:I 0 s):
 z0m B n 0 s=some (.done r):=by
 obtain⟨s',h1,h2⟩:=z7f I h0 hs;rw[h1,hr s' h2]
theorem         z4k {B : Nat → S → Option (Ctl S R)} {n : Nat} (I : Nat → S → Prop) (D : S → Prop) (J : R → Prop) {s : S} (h0 : I 0 s)
    (hs : ∀ i s, i < n → I i s → (∃ s', B i s = some (.next s') ∧ I (i + 1) s') ∨ (∃ s', B i s = some (.brk s') ∧ D s') ∨ ∃ r, B i s = some (.ret r) ∧ J r) (hD : ∀ s, I n s → D s) :
    (∃ s',    z0m B n 0 s = some (.done s') ∧ D s') ∨ ∃ r,    z0m B n 0 s = some (.ret r) ∧ J r := by
  have key : ∀ k i s, i + k = n → I i s → (∃ s',    z0m B k i s = some (.done s') ∧ D s') ∨ ∃ r,    z0m B k i s = some (.ret r) ∧ J r := by
    intro k
    induction k with
    | zero => intro i s hi h; exact .inl ⟨s, rfl, by have : i = n := by omega
                                                     subst this; exact hD s h⟩
    | succ k ih =>
      intro i s hi h
      rcases hs i s (by omega) h with ⟨s', h1, h2⟩ | ⟨s', h1, h2⟩ | ⟨r, h1, h2⟩
      · rcases ih (i + 1) s' (by omega) h2 with ⟨s2, h3, h4⟩ | ⟨r, h3, h4⟩
        · exact .inl ⟨s2, by simp only [   z0m, h1, h3], h4⟩
        · exact .inr ⟨r, by simp only [   z0m, h1, h3], h4⟩
      · exact .inl ⟨s', by simp only [   z0m, h1], h2⟩
      · exact .inr ⟨r, by simp only [   z0m, h1], h2⟩
  exact key n 0 s (by omega) h0
theorem z1c [Inhabited X]{l:List X}{i:Nat}(h:i<l.length):l.take (i+1)=l.take i++[l.getD i zzd]:=by
 rw[List.take_add_one,List.getElem?_eq_getElem h,List.getD_eq_getElem?_getD,List.getElem?_eq_getElem h];rfl
theorem z47 [Inhabited X]{l:List X}{i:Nat}(h:i<l.length):l.getD i zzd∈l:=by
 rw[List.getD_eq_getElem?_getD,List.getElem?_eq_getElem h];exact List.getElem_mem h
@[simp] theorem z2g {s:S} {kn:S→Option Q} {kr:R→Option Q}:outK (some (.done s)) kn kr=kn s:=rfl
@[simp] theorem zbw {r:R} {kn:S→Option Q} {kr:R→Option Q}:outK (some (.ret r)) kn kr=kr r:=rfl
@[simp] theorem z2v {x y:Option Q}:bf true x y=x:=rfl
@[simp] theorem z0q {x y:Option Q}:bf false x y=y:=rfl
theorem z0e {c:Prop}[Decidable c]{k:Option Q}(h:c):need c k=k:=by unfold need;rw[if_pos h]
@[simp] theorem jn_eq {j:A→Option Q} {k:(A→Option Q)→Option Q}:jn j k=k j:=rfl
@[simp] theorem z2p {p:Prop} [Decidable p] {x y:Option Q}:bf (decide p) x y=if p then x else y:=by by_cases h:p<;>simp[h,bf]
@[simp] theorem zg0 {b:Bool} {x y:Option Q}:bf (!b) x y=bf b y x:=by cases b<;>rfl
end
end Go.Av
/-
 Numbers and bits:without any program.
-/
namespace Go.Av
open Go
theorem zew (n:Int):zzu.wrap n=n % 18446744073709551616:=by simp[IntKind.wrap,IntKind.bits,IntKind.signed]
theorem zev (n:Int):zzi.wrap n=if n % 18446744073709551616≥9223372036854775808 then n % 18446744073709551616-18446744073709551616 else n % 18446744073709551616:=by
 simp[IntKind.wrap,IntKind.bits,IntKind.signed]
def in64 (x:Int):Prop:= -9223372036854775808≤x∧x<9223372036854775808
theorem zcj {x:Int}(h:in64 x):zzi.wrap x=x:=by
 unfold in64 at h;rw[zev];split<;>omega
theorem zfd (k:IntKind)(n m:Nat)(hm:m≤k.bits):shrOp k (n:Int) (m:Int)=((n / 2^m:Nat):Int):=by
 unfold shrOp;rw[zz8,Nat.min_eq_left hm,Int.fdiv_eq_ediv_of_nonneg _ (by exact Int.le_of_lt (Int.pow_pos (by decide)))]
 push_cast
 rfl
end Go.Av
namespace Go.Av
open Go
section
variable {α:Type} [Inhabited α]
theorem wadd {i j:Nat}(h:i+j<4611686018427387904):zzi.wrap ((i:Int)+(j:Int))=((i+j:Nat):Int):=by
 rw[z1f (by omega) (by omega)];omega
theorem z9u {S R:Type}{B:S→Option (Ctl S R)}{fuel:Nat}{s s':S}(h:B s=some (.next s')):loopN B (fuel+1) s=loopN B fuel s':=by rw[loopN,h]
theorem zat {S R:Type}{B:S→Option (Ctl S R)}{fuel:Nat}{s s':S}(h:B s=some (.brk s')):loopN B (fuel+1) s=some (.done s'):=by rw[loopN,h]
end
end Go.Av
namespace Go.Av
open Go
section
variable {α:Type} [Inhabited α]
def rotF (a m b:Nat)(d:Array α)(x:Nat):α:=if a≤x∧x<a+(b-m)then d[x-a+m]! else if a+(b-m)≤x∧x<b then d[x-(a+(b-m))+a]! else d[x]!
structure RotTo (a m b:Nat) (d d':Array α):Prop where
 perm:Sort.PermIn a b d d'
 get: ∀x,d'[x]! =rotF a m b d x
end
end Go.Av
namespace Go.Av
open Go
section
variable {α:Type} [Inhabited α]
theorem zf1 {R:Type}{B:Int×Int→Option (Ctl (Int×Int) R)}{P:Nat→Bool}{i0 j0:Nat}: ∀(n i j fuel:Nat),j-i≤n→n<fuel→i0≤i→i≤j→j≤j0→(i=i0∨P (i-1)=true)→(j=j0∨P j=false)→
 (∀i j:Nat,i0≤i→i≤j→j≤j0→B ((i:Int),(j:Int))=if i<j then(if P ((i+j) / 2)=true then some (.next ((((i+j) / 2+1:Nat):Int),(j:Int)))else some (.next ((i:Int),(((i+j) / 2:Nat):Int))))else some (.brk ((i:Int),(j:Int))))→
 ∃r:Nat,loopN B fuel ((i:Int),(j:Int))=some (.done ((r:Int),(r:Int)))∧i0≤r∧r≤j0∧(r=i0∨P (r-1)=true)∧(r=j0∨P r=false):=by
 intro n;induction n with
 |zero=>
  intro i j fuel hn hf h1 h2 h3 h4 h5 hB;cases fuel with
  |zero=>omega
  |succ fuel=>
   have h:=hB i j h1 h2 h3;rw[if_neg (by omega)]at h;have:i=j:=by omega
   subst this;exact⟨i,zat h,h1,h3,h4,h5⟩
 |succ n ih=>
  intro i j fuel hn hf h1 h2 h3 h4 h5 hB;cases fuel with
  |zero=>omega
  |succ fuel=>
   have h:=hB i j h1 h2 h3;by_cases hl:i<j
   ·rw[if_pos hl]at h;by_cases hp:P ((i+j) / 2)=true
    ·rw[if_pos hp]at h;rw[z9u h];exact ih _ j fuel (by omega) (by omega) (by omega) (by omega) h3 (.inr (by rw[Nat.add_sub_cancel];exact hp)) h5 hB
    ·rw[if_neg hp]at h;rw[z9u h];exact ih i _ fuel (by omega) (by omega) h1 (by omega) (by omega) h4 (.inr (by simpa using hp)) hB
   ·rw[if_neg hl]at h;have:i=j:=by omega
    subst this;exact⟨i,zat h,h1,h3,h4,h5⟩
variable {lt:α→α→Bool}
structure MergeTo (lt:α→α→Bool) (a b:Nat) (d d':Array α):Prop where
 perm:Sort.PermIn a b d d'
 sorted:Sort.SortedIn lt a b d'
end
end Go.Av
/-
 Orders,as comparisons with three answers:without any program.
-/
namespace Go.Av
open Go
structure IsCmp {α:Type} (c:α→α→Int):Prop where
 vals: ∀a b,c a b= -1∨c a b=0∨c a b=1
 anti: ∀a b,c b a= - c a b
 tr: ∀a b d,c a b≤0→c b d≤0→c a d≤0
namespace IsCmp
variable {α β:Type} {c:α→α→Int}
theorem refl (h:IsCmp c)(a:α):c a a=0:=by have:=h.anti a a;omega
theorem lt_tr (h:IsCmp c){a b d:α}(h1:c a b<0)(h2:c b d≤0):c a d<0:=by
 have:=h.tr a b d (by omega) h2;rcases h.vals a d with g|g|g
 ·omega
 ·have g1:=h.anti a d;have g2:=h.tr b d a h2 (by omega)
  have g3:=h.anti a b;omega
 ·omega
theorem eqL (h:IsCmp c){a b:α}(d:α)(h1:c a b=0):c a d=c b d:=by
 have h2:=h.anti a b;have t1:=h.tr a b d (by omega)
 have t2:=h.tr b a d (by omega);have t3:=h.tr d a b
 have t4:=h.tr d b a;have a1:=h.anti a d
 have a2:=h.anti b d;rcases h.vals a d with g|g|g<;>rcases h.vals b d with k|k|k<;>omega
theorem eqR (h:IsCmp c){a b:α}(d:α)(h1:c a b=0):c d a=c d b:=by
 have:=h.eqL d h1;have a1:=h.anti a d
 have a2:=h.anti b d;omega
theorem on (h:IsCmp c)(f:β→α):IsCmp fun x y=>c (f x) (f y):=⟨fun a b=>h.vals _ _,fun a b=>h.anti _ _,fun a b d=>h.tr _ _ _⟩
end IsCmp
def cmpZ (a b:Int):Int:=if a<b then -1 else if b<a then 1 else 0
theorem zf3:IsCmp cmpZ where
 vals a b:=by unfold cmpZ;split<;>(try split)<;>simp
 anti a b:=by unfold cmpZ;split<;>(try split)<;>(try split)<;>(try split)<;>omega
 tr a b d:=by unfold cmpZ;split<;>(try split)<;>(try split)<;>(try split)<;>(try split)<;>(try split)<;>omega
theorem zdm {a b:Int}:cmpZ a b=0↔a=b:=by unfold cmpZ;split<;>(try split)<;>omega
def thenC (u v:Int):Int:=if u=0 then v else u
def cmpL {α:Type}(c:α→α→Int):List α→List α→Int
 |[],[]=>0
 |[],_::_=> -1
 |_::_,[]=>1
 |a::x,b::y=>thenC (c a b) (cmpL c x y)
theorem IsCmp.list {α:Type}{c:α→α→Int}(h:IsCmp c):IsCmp (cmpL c) where
 vals:=by
  intro a;induction a with
  |nil=>intro b;cases b<;>simp[cmpL]
  |cons x a ih=>
   intro b;cases b with
   |nil=>simp[cmpL]
   |cons y b=>
    simp only[cmpL,thenC];split
    ·exact ih b
    ·exact h.vals x y
 anti:=by
  intro a;induction a with
  |nil=>intro b;cases b<;>simp[cmpL]
  |cons x a ih=>
   intro b;cases b with
   |nil=>simp[cmpL]
   |cons y b=>
    have h1:=h.anti x y;have h2:=ih b
    simp only[cmpL,thenC];split<;>split<;>omega
 tr:=by
  intro a;induction a with
  |nil=>intro b d _ _;cases d<;>simp[cmpL]
  |cons x a ih=>
   intro b d h1 h2;cases b with
   |nil=>simp[cmpL]at h1
   |cons y b=>
    cases d with
    |nil=>simp[cmpL]at h2
    |cons z d=>
     simp only[cmpL]at*;unfold thenC at*;by_cases g1:c x y=0<;>by_cases g2:c y z=0
     ·have:=h.eqL z g1;rw[if_pos g1]at h1;rw[if_pos g2]at h2;rw[if_pos (by omega)];exact ih b d h1 h2
     ·have:=h.eqL z g1;rw[if_neg g2]at h2;rw[if_neg (by omega)];omega
     ·have:=h.eqR x g2;rw[if_neg g1]at h1;rw[if_neg (by omega)];omega
     ·rw[if_neg g1]at h1;rw[if_neg g2]at h2;have:=h.lt_tr (a:=x) (b:=y) (d:=z) (by omega) h2
      rw[if_neg (by omega)];omega
def cmpU8 (a b:UInt8):Int:=cmpZ (a.toNat:Int) (b.toNat:Int)
theorem zeb:IsCmp cmpU8:=zf3.on fun a:UInt8=>(a.toNat:Int)
theorem z7j: ∀x y:List UInt8,Op.bytesLess x y=decide (cmpL cmpU8 x y<0)
 |[],[]=>by simp[Op.bytesLess,cmpL]
 |[],_::_=>by simp[Op.bytesLess,cmpL]
 |_::_,[]=>by simp[Op.bytesLess,cmpL]
 |a::x,b::y=>by
  rw[Op.bytesLess,z7j x y,cmpL];have e1:(a<b)↔(a.toNat:Int)<(b.toNat:Int):=by rw[UInt8.lt_iff_toNat_lt];omega
  have e2:(a=b)↔(a.toNat:Int)=(b.toNat:Int):=by rw[←UInt8.toNat_inj];omega
  unfold cmpU8 thenC cmpZ;rw[Bool.eq_iff_iff];simp only[Bool.or_eq_true,Bool.and_eq_true,decide_eq_true_eq,beq_iff_eq,e1,e2];by_cases h1:(a.toNat:Int)<(b.toNat:Int)
  ·simp[h1]
  ·by_cases h2:(b.toNat:Int)<(a.toNat:Int)
   ·simp[h1,h2];omega
   ·have:(a.toNat:Int)=(b.toNat:Int):=by omega
    simp[this]
theorem z8s: ∀x y:List UInt8,(x==y)=decide (cmpL cmpU8 x y=0)
 |[],[]=>by simp[cmpL]
 |[],_::_=>by simp[cmpL]
 |_::_,[]=>by simp[cmpL]
 |a::x,b::y=>by
  rw[List.cons_beq_cons,z8s x y,cmpL];have e2:(a=b)↔(a.toNat:Int)=(b.toNat:Int):=by rw[←UInt8.toNat_inj];omega
  have e3:cmpU8 a b=0↔(a.toNat:Int)=(b.toNat:Int):=zdm;unfold thenC;rw[Bool.eq_iff_iff];simp only[Bool.and_eq_true,decide_eq_true_eq,beq_iff_eq,e2];by_cases h:cmpU8 a b=0
  ·rw[if_pos h];simp[e3.1 h]
  ·rw[if_neg h];constructor
   ·rintro⟨g,_⟩;exact absurd (e3.2 g) h
   ·intro g;exact absurd g h
def cmpS (a b:ByteArray):Int:=cmpL cmpU8 a.toList b.toList
theorem z1a:IsCmp cmpS:=zeb.list.on fun a:ByteArray=>a.toList
theorem z5g (a b:ByteArray):strLt a b=decide (cmpS a b<0):=z7j _ _
theorem z49 (a b:ByteArray):strEq a b=decide (cmpS a b=0):=z8s _ _
theorem z4e (a:ByteArray):strEq a a=true:=by unfold strEq;simp
theorem zb5 {a b:ByteArray}(h:a.toList=b.toList):a=b:=by
 rw[ByteArray.toList_eq,ByteArray.toList_eq]at h;cases a;cases b;simp at h;simp[h]
theorem ze3 {a b:ByteArray}:strEq a b=true↔a=b:=by
 unfold strEq;rw[beq_iff_eq];exact⟨zb5,fun h=>by rw[h]⟩
theorem zaa {α:Type}[Inhabited α]{l:List α}{i:Nat}(h:i<l.length):l.drop i=l.getD i zzd::l.drop (i+1):=by
 rw[List.drop_eq_getElem_cons h,List.getD_eq_getElem?_getD,List.getElem?_eq_getElem h];rfl
theorem z8v {S R:Type}{B:S→Option (Ctl S R)}(f:Nat→S){n fuel:Nat}{z:S}(hf:n<fuel)(hs: ∀i,i<n→B (f i)=some (.next (f (i+1)))) (he:B (f n)=some (.brk z)):loopN B fuel (f 0)=some (.done z):=by
 have key: ∀k i fuel,i+k=n→k<fuel→loopN B fuel (f i)=some (.done z):=by
  intro k;induction k with
  |zero=>
   intro i fuel hi hf;have:i=n:=by omega
   subst this;cases fuel with
   |zero=>omega
   |succ fuel=>simp only[loopN,he]
  |succ k ih=>
   intro i fuel hi hf;cases fuel with
   |zero=>omega
   |succ fuel=>simp only[loopN,hs i (by omega)];exact ih (i+1) fuel (by omega) (by omega)
 exact key n 0 fuel (by omega) hf
end Go.Av
namespace Go.Av
open Go
section
variable {α:Type} [Inhabited α] {cmp:α→α→Option Int} {c:α→α→Int}
theorem zf8 {x y:Nat}(h:x+y<4611686018427387904):zzi.wrap (shrOp .u64 (zzu.wrap (zzi.wrap ((x:Int)+(y:Int)))) 1)=(((x+y) / 2:Nat):Int):=by
 rw[wadd h,zew,Int.emod_eq_of_lt (by omega) (by omega),show(1:Int)=((1:Nat):Int)from rfl,zfd .u64 (x+y) 1 (by decide),z1f (by omega) (by omega)]
end
end Go.Av
namespace Go.Av
open Go
def SF (l:List File):Prop:=l.Pairwise fun a b=>cmpS a.name b.name<0
theorem z89 (a:ByteArray):z2k a=some false:=by
 unfold z2k;rw[z49,decide_eq_true (by have:=z1a.anti a a;omega:cmpS a a=0)];rfl
theorem zbh (a b:ByteArray):z2q a b=some (cmpS a b):=by
 unfold z2q;rw[z89,z89];simp only[zz4,z0q,z5g,z49];have:=z1a.vals a b
 by_cases h1:cmpS a b<0
 ·rw[decide_eq_true h1,z2v];congr 1;omega
 ·rw[decide_eq_false h1,z0q];by_cases h2:cmpS a b=0
  ·rw[decide_eq_true h2,h2];rfl
  ·rw[decide_eq_false h2];show some 1=_;congr 1;omega
theorem zdy (f:File)(n:ByteArray):z13 f n=some (cmpS f.name n):=by
 unfold z13;rw[zbh];rfl
theorem zek {fuel:Nat}{l:List File}{n:ByteArray}(hf:20000000≤fuel)(hn:l.length≤4000000)(hs:SF l):
 ∃(k:Nat) (b:Bool),z0d fuel l n=some ((k:Int),b)∧k≤l.length∧(∀f∈l.take k,cmpS f.name n<0)∧(∀f∈l.drop k,0≤cmpS f.name n)∧(b=true↔k<l.length∧cmpS (l.getD k zzd).name n=0):=by
 unfold z0d z0b;simp only[zdy];obtain⟨r,h1,_,h3,h4,h5⟩:=zf1 (R:=Empty) (P:=fun i=>decide (cmpS (l.getD i zzd).name n<0)) (i0:=0) (j0:=l.length) (B:=fun(a1:Int×Int)=>bf (decide (a1.1<a1.2)) (need ((0:Int)≤(zzi.wrap (shrOp .u64 (zzu.wrap (zzi.wrap (a1.1+a1.2))) 1))∧(zzi.wrap (shrOp .u64 (zzu.wrap (zzi.wrap (a1.1+a1.2))) 1))<(l.length:Int))<|(some (cmpS (l.getD ((zzi.wrap (shrOp .u64 (zzu.wrap (zzi.wrap (a1.1+a1.2))) 1)).toNat) zzd).name n)).bind fun r8=>bf (decide (r8<0)) (some (.next ((zzi.wrap ((zzi.wrap (shrOp .u64 (zzu.wrap (zzi.wrap (a1.1+a1.2))) 1))+1)),a1.2))) (some (.next (a1.1,(zzi.wrap (shrOp .u64 (zzu.wrap (zzi.wrap (a1.1+a1.2))) 1)))))) (some (.brk (a1.1,a1.2))))
  l.length 0 l.length fuel (by omega) (by omega) (zzb _) (Nat.zero_le _) (zzb _) (.inl rfl) (.inl rfl) (fun i j _ hij hj=>by
   simp only[z2p,Int.ofNat_lt];by_cases h:i<j
   ·rw[if_pos h,if_pos h,zf8 (by omega),z0e (by omega)];simp only[zz4,z2p,zz8,decide_eq_true_eq];rw[z1f (by omega) (by omega)];split<;>rfl
   ·rw[if_neg h,if_neg h])
 rw[show((0:Nat):Int)=(0:Int)from rfl]at h1;rw[h1];have mono: ∀i j,i<j→j<l.length→cmpS (l.getD i zzd).name (l.getD j zzd).name<0:=fun i j hij hj=>by
  have:=List.pairwise_iff_getElem.1 hs i j (by omega) hj hij
  simpa [List.getD_eq_getElem?_getD,List.getElem?_eq_getElem hj,List.getElem?_eq_getElem (show i<l.length by omega)]using this
 have lt: ∀f∈l.take r,cmpS f.name n<0:=fun f hm=>by
  obtain⟨i,hi,rfl⟩:=List.mem_iff_getElem.1 hm;simp only[List.length_take]at hi;have e:(l.take r)[i]=l.getD i zzd:=by simp[List.getD_eq_getElem?_getD,List.getElem?_eq_getElem (show i<l.length by omega)]
  rw[e];have hr:cmpS (l.getD (r-1) zzd).name n<0:=by
   rcases h4 with h4|h4
   ·omega
   ·exact of_decide_eq_true h4
  by_cases hi2:i=r-1
  ·rw[hi2];exact hr
  ·have:=mono i (r-1) (by omega) (by omega);have h2:=z1a.tr (l.getD i zzd).name (l.getD (r-1) zzd).name n (by omega) (by omega)
   have:=z1a.vals (l.getD i zzd).name n;rcases Int.lt_or_le (cmpS (l.getD i zzd).name n) 0 with h|h
   ·exact h
   ·exfalso;have h0:cmpS (l.getD i zzd).name n=0:=by omega
    have a1:=z1a.anti (l.getD i zzd).name n;have h6:=z1a.tr n (l.getD i zzd).name (l.getD (r-1) zzd).name (by omega) (by omega)
    have a2:=z1a.anti n (l.getD (r-1) zzd).name;have h7:=z1a.tr (l.getD (r-1) zzd).name n (l.getD i zzd).name (by omega) (by omega)
    have a3:=z1a.anti (l.getD i zzd).name (l.getD (r-1) zzd).name;omega
 have ge: ∀f∈l.drop r,0≤cmpS f.name n:=fun f hm=>by
  obtain⟨i,hi,rfl⟩:=List.mem_iff_getElem.1 hm;simp only[List.length_drop]at hi;have e:(l.drop r)[i]=l.getD (r+i) zzd:=by simp[List.getD_eq_getElem?_getD,List.getElem?_eq_getElem (show r+i<l.length by omega)]
  rw[e];have hr:0≤cmpS (l.getD r zzd).name n:=by
   rcases h5 with h5|h5
   ·omega
   ·have:=of_decide_eq_false h5;omega
  by_cases hi2:i=0
  ·rw[hi2];exact hr
  ·have h2:=mono r (r+i) (by omega) (by omega);rcases Int.lt_or_le (cmpS (l.getD (r+i) zzd).name n) 0 with h|h
   ·exfalso;have h6:=z1a.tr (l.getD r zzd).name (l.getD (r+i) zzd).name n (by omega) (by omega)
    have h0:cmpS (l.getD r zzd).name n=0:=by omega
    have a1:=z1a.anti (l.getD r zzd).name n;have h7:=z1a.tr (l.getD (r+i) zzd).name n (l.getD r zzd).name (by omega) (by omega)
    have a3:=z1a.anti (l.getD r zzd).name (l.getD (r+i) zzd).name;omega
   ·exact h
 simp only[z2g,jn_eq,z2p,Int.ofNat_lt,zz8];by_cases h:r<l.length
 ·rw[if_pos h,z0e (by omega)];simp only[zz4];exact⟨r,_,rfl,h3,lt,ge,by simp[h]⟩
 ·rw[if_neg h];exact⟨r,false,rfl,h3,lt,ge,by simp[h]⟩
end Go.Av
namespace Go.Av
open Go
def ltF (n:ByteArray)(l:List File):List File:=l.filter fun f=>decide (cmpS f.name n<0)
def gtF (n:ByteArray)(l:List File):List File:=l.filter fun f=>decide (0<cmpS f.name n)
theorem z8h {a b n:ByteArray}(h:cmpS a b<0)(h2:0≤cmpS a n):0<cmpS b n:=by
 rcases Int.lt_or_le 0 (cmpS b n)with h3|h3
 ·exact h3
 ·exfalso;have h4:=z1a.tr a b n (by omega) h3
  have h0:cmpS a n=0:=by omega
  have a1:=z1a.anti a n;have h5:=z1a.tr b n a h3 (by omega)
  have a2:=z1a.anti a b;omega
theorem z5c {fuel:Nat}{l:List File}{n:ByteArray}(hf:20000000≤fuel)(hn:l.length≤4000000)(hs:SF l):
 ∃(k:Nat) (b:Bool),z0d fuel l n=some ((k:Int),b)∧k≤l.length∧l.take k=ltF n l∧
  ((b=false∧l.drop k=gtF n l∧ ∀f∈l,cmpS f.name n≠0)∨(b=true∧k<l.length∧cmpS (l.getD k zzd).name n=0∧l.drop k=l.getD k zzd::gtF n l∧l.drop (k+1)=gtF n l)):=by
 obtain⟨k,b,h1,h2,h3,h4,h5⟩:=zek (n:=n) hf hn hs;have hl:ltF n l=l.take k:=by
  unfold ltF
  conv=>lhs;rw[←List.take_append_drop k l]
  rw[List.filter_append,List.filter_eq_self.2 (fun f hm=>decide_eq_true (h3 f hm)),List.filter_eq_nil_iff.2 (fun f hm=>by have:=h4 f hm;simp;omega),List.append_nil]
 have hg:gtF n l=(l.drop k).filter fun f=>decide (0<cmpS f.name n):=by
  unfold gtF
  conv=>lhs;rw[←List.take_append_drop k l]
  rw[List.filter_append,List.filter_eq_nil_iff.2 (fun f hm=>by have:=h3 f hm;simp;omega),List.nil_append]
 refine⟨k,b,h1,h2,hl.symm,?_⟩;have hsd:SF (l.drop k):=hs.sublist (List.drop_sublist k l)
 by_cases hk:k<l.length
 ·have hd:l.drop k=l.getD k zzd::l.drop (k+1):=by
   rw[List.drop_eq_getElem_cons hk];simp[List.getD_eq_getElem?_getD,List.getElem?_eq_getElem hk]
  rw[hd]at hsd h4 hg;have h0:=h4 _ (zz5 ..)
  have hgt: ∀f∈l.drop (k+1),0<cmpS f.name n:=fun f hm=>z8h (List.rel_of_pairwise_cons hsd hm) h0;have hg2:(l.drop (k+1)).filter (fun f=>decide (0<cmpS f.name n))=l.drop (k+1):=List.filter_eq_self.2 fun f hm=>decide_eq_true (hgt f hm)
  rw[List.filter_cons,hg2]at hg;cases b with
  |true=>
   obtain⟨_,h6⟩:=h5.1 rfl;rw[if_neg (by rw[decide_eq_true_eq];omega)]at hg;exact .inr ⟨rfl,hk,h6,by rw[hg];exact hd,hg.symm⟩
  |false=>
   have h6:cmpS (l.getD k zzd).name n≠0:=fun h=>by have:=h5.2 ⟨hk,h⟩;cases this
   rw[if_pos (by rw[decide_eq_true_eq];omega)]at hg;refine .inl ⟨rfl,by rw[hg];exact hd,fun f hm=>?_⟩;rw[←List.take_append_drop k l,List.mem_append,hd]at hm;rcases hm with hm|hm
   ·have:=h3 f hm;omega
   ·rcases List.mem_cons.1 hm with rfl|hm
    ·exact h6
    ·have:=hgt f hm;omega
 ·have hd:l.drop k=[]:=List.drop_eq_nil_of_le (by omega);cases b with
  |true=>exact absurd (h5.1 rfl).1 hk
  |false=>
   refine .inl ⟨rfl,by rw[hg,hd];rfl,fun f hm=>?_⟩;rw[←List.take_append_drop k l,hd,List.append_nil]at hm;have:=h3 f hm;omega
def putF (f:File)(l:List File):List File:=ltF f.name l++f::gtF f.name l
theorem zdz {fuel:Nat}{l:List File}{f:File}(hf:20000000≤fuel)(hn:l.length≤4000000)(hs:SF l):z0x fuel f l=some (putF f l):=by
 obtain⟨k,b,h1,h2,h3,h4⟩:=z5c (n:=f.name) hf hn hs;unfold z0x putF;rw[h1];simp only[zz4];rcases h4 with⟨rfl,h5,_⟩|⟨rfl,h5,_,h6,h7⟩
 ·rw[z0q];unfold z22 z98;rw[z0e ⟨by omega,by omega,rfl,by simp;omega⟩];simp only[zz4,zz8,h3,h5,List.append_assoc,List.singleton_append]
 ·rw[z2v,z0e (by omega),z0e (by simp only[zz8];omega)];simp only[zz8,zza];rw[List.set_eq_take_append_cons_drop,if_pos h5,h3,h7]
theorem zff {fuel:Nat}{l:List File}{n:ByteArray}(hf:20000000≤fuel)(hn:l.length≤4000000)(hs:SF l):
 (z0o fuel n l=some (⟨bs [],bs []⟩,false,l)∧ ∀f∈l,cmpS f.name n≠0)∨(∃f∈l,cmpS f.name n=0∧z0o fuel n l=some (f,true,ltF n l++gtF n l)):=by
 obtain⟨k,b,h1,h2,h3,h4⟩:=z5c (n:=n) hf hn hs;unfold z0o;rw[h1];simp only[zz4];rcases h4 with⟨rfl,h5,h6⟩|⟨rfl,h5,h8,h6,h7⟩
 ·exact .inl ⟨by rw[Bool.not_false,z2v],h6⟩
 ·refine .inr ⟨l.getD k zzd,?_,h8,?_⟩
  ·rw[List.getD_eq_getElem?_getD,List.getElem?_eq_getElem h5];exact List.getElem_mem h5
  ·rw[Bool.not_true,z0q,z0e (by omega),z0e (by simp only[zz8];omega)];unfold z1b z97;have hw:zzi.wrap ((k:Int)+1)=((k+1:Nat):Int):=z6g (by unfold maxN;omega)
   rw[hw,z0e ⟨by omega,by omega,by omega⟩];simp only[zz4,zz8,zza,h3,h7]
end Go.Av
namespace Go.Av
open Go
def delF (n:ByteArray)(l:List File):List File:=ltF n l++gtF n l
def hasF (n:ByteArray)(l:List File):Bool:=l.any fun f=>decide (cmpS f.name n=0)
def oldF (n:ByteArray)(l:List File):ByteArray:=((l.find? fun f=>decide (cmpS f.name n=0)).getD ⟨bs [],bs []⟩).data
def doneF (l:List File)(w:Write):List File:=
 if w.kind=1 then putF ⟨w.name,oldF w.name l++w.data⟩ (delF w.name l)else if w.kind=2∧hasF w.name l=true then putF ⟨w.to_,oldF w.name l⟩ (delF w.name l)else delF w.name l
theorem z4b {n:ByteArray}{l:List File}(hs:SF l):SF (delF n l):=by
 unfold SF delF ltF gtF;rw[List.pairwise_append];refine⟨hs.sublist List.filter_sublist,hs.sublist List.filter_sublist,fun a ha b hb=>?_⟩;have h1:=of_decide_eq_true (List.mem_filter.1 ha).2
 have h2:=of_decide_eq_true (List.mem_filter.1 hb).2;have a1:=z1a.anti b.name n
 have h3:=z1a.tr a.name n b.name (by omega) (by omega);rcases Int.lt_or_le (cmpS a.name b.name) 0 with h|h
 ·exact h
 ·exfalso;have h4:=z1a.tr b.name a.name n (by have:=z1a.anti a.name b.name;omega) (by omega)
  omega
theorem zcv {f:File}{l:List File}(hs:SF l):SF (putF f l):=by
 have h0:=z4b (n:=f.name) hs;unfold SF delF at h0;rw[List.pairwise_append]at h0;unfold SF putF;rw[List.pairwise_append];refine⟨h0.1,List.pairwise_cons.2 ⟨fun b hb=>?_,h0.2.1⟩,fun a ha b hb=>?_⟩
 ·have:=of_decide_eq_true (List.mem_filter.1 hb).2;have:=z1a.anti b.name f.name
  omega
 ·rcases List.mem_cons.1 hb with rfl|hb
  ·exact of_decide_eq_true (List.mem_filter.1 ha).2
  ·exact h0.2.2 a ha b hb
theorem z55 (n:ByteArray)(l:List File):(delF n l).length≤l.length:=by
 unfold delF ltF gtF;induction l with
 |nil=>simp
 |cons f l ih=>
  simp only[List.filter_cons,List.length_append]at ih ⊢;by_cases h1:cmpS f.name n<0
  ·rw[if_pos (by rw[decide_eq_true_eq];exact h1),if_neg (by rw[decide_eq_true_eq];omega)];simp only[List.length_cons];omega
  ·rw[if_neg (by rw[decide_eq_true_eq];exact h1)];split<;>simp only[List.length_cons]<;>omega
theorem zbx (f:File)(l:List File):(putF f l).length≤l.length+1:=by
 have:=z55 f.name l;unfold delF at this;unfold putF;rw[List.length_append]at this ⊢;rw[List.length_cons];omega
theorem z91 {l:List File}{w:Write}(hs:SF l):SF (doneF l w):=by
 unfold doneF;split
 ·exact zcv (z4b hs)
 ·split
  ·exact zcv (z4b hs)
  ·exact z4b hs
theorem z83 (l:List File)(w:Write):(doneF l w).length≤l.length+1:=by
 have h1:=z55 w.name l;unfold doneF;split
 ·have:=zbx ⟨w.name,oldF w.name l++w.data⟩ (delF w.name l);omega
 ·split
  ·have:=zbx ⟨w.to_,oldF w.name l⟩ (delF w.name l);omega
  ·omega
theorem z80 {n:ByteArray}{l:List File}(hs:SF l)(h: ∀f∈l,cmpS f.name n≠0):delF n l=l:=by
 unfold delF ltF gtF;induction l with
 |nil=>rfl
 |cons f l ih=>
  have hs2:=List.pairwise_cons.1 hs;have ih:=ih hs2.2 fun g hg=>h g (zz6 _ hg)
  have h0:=h f (zz5 ..);simp only[List.filter_cons];by_cases h1:cmpS f.name n<0
  ·rw[if_pos (by rw[decide_eq_true_eq];exact h1),if_neg (by rw[decide_eq_true_eq];omega),List.cons_append,ih]
  ·have hg: ∀g∈l,0<cmpS g.name n:=fun g hg=>z8h (hs2.1 g hg) (by omega);rw[if_neg (by rw[decide_eq_true_eq];exact h1),if_pos (by rw[decide_eq_true_eq];omega),List.filter_eq_nil_iff.2 (fun g hm=>by have:=hg g hm;rw[decide_eq_true_eq];omega),List.nil_append,List.filter_eq_self.2 fun g hm=>decide_eq_true (hg g hm)]
theorem zah {fuel:Nat}{l:List File}{n:ByteArray}(hf:20000000≤fuel)(hn:l.length≤4000000)(hs:SF l):
 ∃f,z0o fuel n l=some (f,hasF n l,delF n l)∧f.data=oldF n l:=by
 rcases zff (n:=n) hf hn hs with⟨h1,h2⟩|⟨f,h1,h2,h3⟩
 ·refine⟨⟨bs [],bs []⟩,?_,?_⟩
  ·rw[h1,z80 hs h2];have:hasF n l=false:=by
    unfold hasF;rw[List.any_eq_false];intro g hg;rw[decide_eq_true_eq];exact h2 g hg
   rw[this]
  ·unfold oldF;rw[List.find?_eq_none.2 (fun g hg=>by rw[decide_eq_true_eq];exact h2 g hg)];rfl
 ·have hh:hasF n l=true:=by
   unfold hasF;exact List.any_eq_true.2 ⟨f,h1,decide_eq_true h2⟩
  refine⟨f,by rw[h3,hh];rfl,?_⟩;unfold oldF;cases hq:l.find? (fun f=>decide (cmpS f.name n=0))with
  |none=>exact absurd (decide_eq_true h2) (List.find?_eq_none.1 hq f h1)
  |some g=>
   have hg:cmpS g.name n=0:=by have:=List.find?_some hq;exact of_decide_eq_true this
   have hgm:=List.mem_of_find?_eq_some hq;have:g=f:=by
    obtain⟨i,hi,rfl⟩:=List.mem_iff_getElem.1 hgm;obtain⟨j,hj,rfl⟩:=List.mem_iff_getElem.1 h1;have key: ∀i j (hi:i<l.length) (hj:j<l.length),i<j→cmpS l[i].name n=0→cmpS l[j].name n=0→False:=fun i j hi hj hij e1 e2=>by
     have h5:=List.pairwise_iff_getElem.1 hs i j hi hj hij;have:=z8h (n:=n) h5 (by omega)
     omega
    rcases Nat.lt_trichotomy i j with h|h|h
    ·exact(key i j hi hj h hg h2).elim
    ·subst h;rfl
    ·exact(key j i hj hi h h2 hg).elim
   rw[this];rfl
end Go.Av
namespace Go.Av
open Go
def szF (l:List File):Nat:=(l.map fun f=>f.data.size).sum
def szW (l:List Write):Nat:=(l.map fun w=>w.data.size).sum
theorem z6x (a b:List File):szF (a++b)=szF a+szF b:=by unfold szF;rw[List.map_append,List.sum_append]
theorem zeo {l:List File}(n:ByteArray)(hn:l.length≤4000000)(hs:SF l):(l=delF n l∧oldF n l=bs [])∨ ∃f,l=ltF n l++f::gtF n l∧f.data=oldF n l:=by
 obtain⟨k,b,h1,h2,h3,h4⟩:=z5c (fuel:=20000000) (n:=n) (zzb _) hn hs;rcases h4 with⟨rfl,h5,h6⟩|⟨rfl,h5,h8,h6,h7⟩
 ·refine .inl ⟨(z80 hs h6).symm,?_⟩;unfold oldF;rw[List.find?_eq_none.2 (fun g hg=>by rw[decide_eq_true_eq];exact h6 g hg)];rfl
 ·refine .inr ⟨l.getD k zzd,by rw[←h3,←h6,List.take_append_drop],?_⟩;obtain⟨f,g1,g2⟩:=zah (fuel:=20000000) (n:=n) (zzb _) hn hs;rw[←g2];unfold z0o at g1;rw[h1]at g1;simp only[zz4,Bool.not_true,z0q]at g1;rw[z0e (by omega),z0e (by simp only[zz8];omega)]at g1;cases hd:z1b (k:Int) (zzi.wrap ((k:Int)+1)) l with
  |none=>rw[hd]at g1;cases g1
  |some r=>
   rw[hd]at g1;simp only[zz4,zz8,zza]at g1;injection g1 with g1;have e:l.getD k zzd=f:=congrArg Prod.fst g1
   rw[e]
theorem z9m {l:List File}(n:ByteArray)(hn:l.length≤4000000)(hs:SF l):szF (delF n l)+(oldF n l).size≤szF l:=by
 rcases zeo n hn hs with⟨h1,h2⟩|⟨f,h1,h2⟩
 ·rw[←h1,h2];exact zzb _
 ·conv=>rhs;rw[h1]
  unfold delF;rw[z6x,z6x,←h2];show _+szF (gtF n l)+_≤_+(f.data.size+szF (gtF n l));omega
theorem ze0 {l:List File}(f:File)(hn:l.length≤4000000)(hs:SF l):szF (putF f l)≤szF l+f.data.size:=by
 have h:=z9m f.name hn hs;unfold delF at h;unfold putF;rw[z6x]at h ⊢;show _+(f.data.size+szF (gtF f.name l))≤_;omega
theorem za9 {l:List File}(w:Write)(hn:l.length≤4000000)(hs:SF l):szF (doneF l w)≤szF l+w.data.size:=by
 have h:=z9m w.name hn hs;have hl:=z55 w.name l
 unfold doneF;split
 ·have:=ze0 ⟨w.name,oldF w.name l++w.data⟩ (show(delF w.name l).length≤4000000 by omega) (z4b hs);simp only[ByteArray.size_append]at this;omega
 ·split
  ·have:=ze0 ⟨w.to_,oldF w.name l⟩ (show(delF w.name l).length≤4000000 by omega) (z4b hs);simp only at this;omega
  ·omega
theorem do_ok {fuel:Nat}{ws:List Write}{l:List File}(hf:20000000≤fuel)(hn:l.length+ws.length≤2000000)(hz:szF l+szW ws≤4611686018427387904)(hs:SF l):
 z0n fuel ws l=some (ws.foldl doneF l)∧SF (ws.foldl doneF l)∧(ws.foldl doneF l).length≤l.length+ws.length∧szF (ws.foldl doneF l)≤szF l+szW ws:=by
 unfold z0n;have key:=z7f (R:=Empty) (B:=fun i1 (a2:List File)=>(z0o fuel ((ws.getD i1 zzd).name) a2).bind fun r4=>bf (decide ((ws.getD i1 zzd).kind=1)) (need (((r4.1.data.size+((ws.getD i1 zzd).data).size:Nat):Int)≤9223372036854775807)<|(z0x fuel (⟨(ws.getD i1 zzd).name,(r4.1.data++((ws.getD i1 zzd).data))⟩:File) r4.2.2).bind fun r6=>some (.next r6)) (jn (fun(a7:Bool)=>bf a7 ((z0x fuel (⟨(ws.getD i1 zzd).to_,r4.1.data⟩:File) r4.2.2).bind fun r9=>some (.next r9)) (some (.next r4.2.2))) fun j8=>bf r4.2.1 (j8 (decide ((ws.getD i1 zzd).kind=2))) (j8 false))) (n:=ws.length)
  (fun k a=>a=(ws.take k).foldl doneF l∧SF a∧a.length≤l.length+k∧szF a≤szF l+szW (ws.take k)) (s:=l) ⟨rfl,hs,zzb _,zzb _⟩ (fun k a hk ⟨h1,h2,h3,h4⟩=>?_)
 ·obtain⟨a,h1,h2,h3,h4,h5⟩:=key;rw[h1];rw[List.take_length]at h2 h5;subst h2;exact⟨rfl,h3,h4,h5⟩
 ·have hw:szW (ws.take (k+1))=szW (ws.take k)+(ws.getD k zzd).data.size:=by
   unfold szW;rw[z1c hk,List.map_append,List.sum_append];simp
  have hwl:szW (ws.take (k+1))≤szW ws:=by
   unfold szW
   conv=>rhs;rw[←List.take_append_drop (k+1) ws,List.map_append,List.sum_append]
   omega
  refine⟨doneF a (ws.getD k zzd),?_,by rw[z1c hk,List.foldl_append,←h1];rfl,z91 h2,by have:=z83 a (ws.getD k zzd);omega,by have:=za9 (ws.getD k zzd) (show a.length≤4000000 by omega) h2;omega⟩;generalize ws.getD k zzd=w at hw ⊢;have hd:=z9m w.name (show a.length≤4000000 by omega) h2
  have hdl:=z55 w.name a;obtain⟨f,g1,g2⟩:=zah (n:=w.name) hf (show a.length≤4000000 by omega) h2;rw[g1];simp only[zz4,g2,jn_eq,z2p];unfold doneF;by_cases hk1:w.kind=1
  ·rw[if_pos hk1,if_pos hk1,z0e (by omega),zdz hf (by omega) (z4b h2)];rfl
  ·rw[if_neg hk1,if_neg hk1];cases hh:hasF w.name a with
   |false=>simp[z0q]
   |true=>
    rw[z2v];by_cases hk2:w.kind=2
    ·rw[if_pos hk2,if_pos ⟨hk2,rfl⟩,zdz hf (by omega) (z4b h2)];rfl
    ·rw[if_neg hk2,if_neg (fun h=>hk2 h.1)]
end Go.Av
namespace Go.Av
open Go
theorem z7e {S R X:Type}[Inhabited X]{B:Nat→S→Option (Ctl S R)}{l:List X}(P:X→Bool)(f:Nat→R){s:S}
 (hB: ∀i,i<l.length→B i s=if P (l.getD i zzd)then some (.ret (f i))else some (.next s)):
 (l.any P=false∧z0m B l.length 0 s=some (.done s))∨(l.any P=true∧ ∃i,i<l.length∧P (l.getD i zzd)=true∧(∀j,j<i→P (l.getD j zzd)=false)∧z0m B l.length 0 s=some (.ret (f i))):=by
 have key: ∀k i,i+k=l.length→(∀j,j<i→P (l.getD j zzd)=false)→((l.drop i).any P=false∧z0m B k i s=some (.done s))∨((l.drop i).any P=true∧ ∃j,j<l.length∧P (l.getD j zzd)=true∧(∀m,m<j→P (l.getD m zzd)=false)∧z0m B k i s=some (.ret (f j))):=by
  intro k;induction k with
  |zero=>intro i hi _;left;rw[List.drop_eq_nil_of_le (by omega:l.length≤i)];exact⟨rfl,rfl⟩
  |succ k ih=>
   intro i hi hp;rw[zaa (by omega:i<l.length)];simp only[z0m,hB i (by omega),List.any_cons];by_cases h:P (l.getD i zzd)=true
   ·rw[if_pos h];right;exact⟨by rw[h];rfl,i,by omega,h,hp,rfl⟩
   ·rw[if_neg h];have hf:P (l.getD i zzd)=false:=by simpa using h
    rw[hf,Bool.false_or];exact ih (i+1) (by omega) fun j hj=>by
     rcases Nat.lt_or_ge j i with h3|h3
     ·exact hp j h3
     ·have:j=i:=by omega
      subst this;exact hf
 have:=key l.length 0 (by omega) (fun j hj=>by omega);rwa[List.drop_zero]at this
def nmB (s:ByteArray):Bool:= !strEq s (bs []) && decide (s.size≤32)
def z1l (w:Write):Bool:=
 if w.kind=1 then nmB w.name && strEq w.to_ (bs [])else if w.kind=2 then nmB w.name && (nmB w.to_ && strEq w.data (bs []))else if w.kind=3 then nmB w.name && (strEq w.to_ (bs []) && strEq w.data (bs []))else false
theorem zbt (l:List ByteArray):z29 l=some (l.all nmB):=by
 unfold z29 z0c z0g z4y;have e: ∀s:ByteArray,(32<(s.size:Int))↔ ¬s.size≤32:=fun s=>by omega
 rcases z7e (S:=Unit) (R:=Int) (s:=()) (l:=l) (B:=fun i1 (a2:Unit)=>(jn (fun(a1:Bool)=>some a1) fun j2=>bf (strEq (l.getD i1 zzd) (bs [])) (j2 true) (j2 (decide (32<((l.getD i1 zzd).size:Int))))).bind fun r4=>bf r4 (some (.ret ((i1:Nat):Int))) (some (.next ()))) (fun s=> !nmB s) (fun i=>(i:Int)) (fun i hi=>by
  simp only[jn_eq];unfold nmB;by_cases h:strEq (l.getD i zzd) (bs [])=true
  ·rw[h];simp
  ·rw[(by simpa using h:strEq (l.getD i zzd) (bs [])=false)];simp only[z0q,zz4,z2p,e];by_cases h2:(l.getD i zzd).size≤32<;>simp[h2])with⟨h1,h2⟩|⟨h1,i,_,_,_,h2⟩
 ·rw[h2];have:l.all nmB=true:=by
   rw[List.all_eq_true];intro x hx;have:=List.any_eq_false.1 h1 x hx
   simpa using this
  rw[this];rfl
 ·rw[h2];have:l.all nmB=false:=by
   obtain⟨x,hx,hp⟩:=List.any_eq_true.1 h1;rw[List.all_eq_false];exact⟨x,hx,by simpa using hp⟩
  rw[this];simp
theorem zbu (a:ByteArray):[a].all nmB=nmB a:=by simp
theorem zef (a b:ByteArray):[a,b].all nmB=(nmB a && nmB b):=by simp
theorem zb4 {a b:ByteArray}:strEq (a++b) (bs [])=(strEq a (bs []) && strEq b (bs [])):=by
 have h: ∀c:ByteArray,strEq c (bs [])=decide (c.size=0):=fun c=>by
  by_cases h:c.size=0
  ·have:c=bs []:=ByteArray.ext (by
    have:c.data.size=0:=h;rw[Array.eq_empty_of_size_eq_zero this];rfl)
   rw[this,z4e];rfl
  ·rw[decide_eq_false h];cases hq:strEq c (bs [])with
   |false=>rfl
   |true=>rw[ze3]at hq;rw[hq]at h;exact absurd rfl h
 rw[h,h,h,ByteArray.size_append];by_cases h1:a.size=0<;>by_cases h2:b.size=0<;>simp[h1,h2]
theorem zc4 {w:Write}(h:w.to_.size+w.data.size≤9223372036854775807):z40 w=some (z1l w):=by
 unfold z40 z1l;simp only[zbt,zbu,zef,zz4,jn_eq,z2p];by_cases h1:w.kind=1
 ·rw[if_pos h1,if_pos h1];cases nmB w.name<;>rfl
 ·rw[if_neg h1,if_neg h1];by_cases h2:w.kind=2
  ·rw[if_pos h2,if_pos h2];cases nmB w.name<;>cases nmB w.to_<;>rfl
  ·rw[if_neg h2,if_neg h2];by_cases h3:w.kind=3
   ·rw[if_pos h3,if_pos h3,z0e (by omega),zb4];cases nmB w.name<;>rfl
   ·rw[if_neg h3,if_neg h3]
theorem z9z (s:ByteArray):z18 s=some (nmB s):=by
 unfold z18 nmB;have e:((s.size:Int)≤32)↔s.size≤32:=by omega
 simp only[jn_eq,e];cases strEq s (bs [])<;>simp
theorem zci (w:Write):z3c w=some (z1l w):=by
 unfold z3c z1l;simp only[z9z,zz4,jn_eq,z2p];by_cases h1:w.kind=1
 ·rw[if_pos h1,if_pos h1];cases nmB w.name<;>rfl
 ·rw[if_neg h1,if_neg h1];by_cases h2:w.kind=2
  ·rw[if_pos h2,if_pos h2];cases nmB w.name<;>cases nmB w.to_<;>rfl
  ·rw[if_neg h2,if_neg h2];by_cases h3:w.kind=3
   ·rw[if_pos h3,if_pos h3];cases nmB w.name<;>cases strEq w.to_ (bs [])<;>rfl
   ·rw[if_neg h3,if_neg h3]
theorem zdd {w:Write}(h:z1l w=true):w.kind=1∨w.kind=2∨w.kind=3:=by
 unfold z1l at h;by_cases h1:w.kind=1
 ·exact .inl h1
 ·by_cases h2:w.kind=2
  ·exact .inr (.inl h2)
  ·by_cases h3:w.kind=3
   ·exact .inr (.inr h3)
   ·rw[if_neg h1,if_neg h2,if_neg h3]at h;cases h
def z0s (l:List File):List File:=l.map fun f=>⟨f.name,bs []⟩
def bareW (w:Write):Write:=⟨w.kind,w.name,w.to_,bs []⟩
theorem z79 (l:List File):(z0s l).length=l.length:=by unfold z0s;rw[List.length_map]
theorem zaw (n:ByteArray)(l:List File):ltF n (z0s l)=z0s (ltF n l):=by
 unfold ltF z0s;rw[List.filter_map];rfl
theorem zav (n:ByteArray)(l:List File):gtF n (z0s l)=z0s (gtF n l):=by
 unfold gtF z0s;rw[List.filter_map];rfl
theorem zd5 (n:ByteArray)(l:List File):delF n (z0s l)=z0s (delF n l):=by
 unfold delF;rw[zaw,zav];unfold z0s;rw[List.map_append]
theorem z9v (f:File)(l:List File):z0s (putF f l)=putF ⟨f.name,bs []⟩ (z0s l):=by
 unfold putF;rw[zaw,zav];unfold z0s;rw[List.map_append];rfl
theorem zd6 (n:ByteArray)(l:List File):hasF n (z0s l)=hasF n l:=by
 unfold hasF z0s;rw[List.any_map];rfl
theorem zd7 (n:ByteArray)(l:List File):oldF n (z0s l)=bs []:=by
 unfold oldF z0s;cases h:(l.map fun f=>(⟨f.name,bs []⟩:File)).find? (fun f=>decide (cmpS f.name n=0))with
 |none=>rfl
 |some f=>
  have:=List.mem_of_find?_eq_some h;obtain⟨g,_,rfl⟩:=List.mem_map.1 this;rfl
theorem zch (l:List File)(w:Write):z0s (doneF l w)=doneF (z0s l) (bareW w):=by
 unfold doneF bareW;rw[zd7,zd6,zd5];by_cases h1:w.kind=1
 ·rw[if_pos h1,if_pos h1,z9v];rfl
 ·rw[if_neg h1,if_neg h1];by_cases h2:w.kind=2∧hasF w.name l=true
  ·rw[if_pos h2,if_pos h2,z9v]
  ·rw[if_neg h2,if_neg h2]
theorem z8a: ∀(ws:List Write) (l:List File),z0s (ws.foldl doneF l)=(ws.map bareW).foldl doneF (z0s l)
 |[],l=>rfl
 |w::ws,l=>by rw[List.foldl_cons,z8a ws,zch];rfl
theorem zau {l:List File}(h:SF l):SF (z0s l):=by
 unfold SF z0s;rw[List.pairwise_map];exact h
theorem ze4 (l:List File):szF (z0s l)=0:=by
 unfold szF z0s;induction l with
 |nil=>rfl
 |cons f l ih=>simp only[List.map_cons,List.sum_cons,ih];rfl
end Go.Av
namespace Go.Av
open Go
theorem    zfi {l : List File} : SF l ↔ ∀ j, j < l.length → j = 0 ∨ cmpS (l.getD (j - 1)     zzd).name (l.getD j     zzd).name < 0 := by
  constructor
  · intro h j hj
    by_cases h0 : j = 0
    · exact .inl h0
    · right
      have := List.pairwise_iff_getElem.1 h (j - 1) j (by omega) hj (by omega)
      simpa [List.getD_eq_getElem?_getD, List.getElem?_eq_getElem hj, List.getElem?_eq_getElem (show j - 1 < l.length by omega)] using this
  · intro h
    have key : ∀ d i, i + (d + 1) < l.length → cmpS (l.getD i     zzd).name (l.getD (i + (d + 1))     zzd).name < 0 := by
      intro d
      induction d with
      | zero => intro i hi
                rcases h (i + 1) hi with h1 | h1
                · omega
                · exact h1
      | succ d ih => intro i hi
                     have h1 := ih i (by omega)
                     rcases h (i + (d + 1) + 1) hi with h2 | h2
                     · omega
                     · exact     z1a.lt_tr h1 (by
                         have e : i + (d + 1) + 1 - 1 = i + (d + 1) := by omega
                         rw [e] at h2
                         exact Int.le_of_lt h2)
    refine List.pairwise_iff_getElem.2 fun i j hi hj hij => ?_
    have := key (j - i - 1) i (by omega)
    rw [show i + (j - i - 1 + 1) = j by omega] at this
    simpa [List.getD_eq_getElem?_getD, List.getElem?_eq_getElem hj, List.getElem?_eq_getElem hi] using this
def goodF (l:List File)(j:Nat):Prop:=nmB (l.getD j zzd).name=true∧(j=0∨cmpS (l.getD (j-1) zzd).name (l.getD j zzd).name<0)
theorem z92 {l:List File}:(∀j,j<l.length→goodF l j)↔((∀f∈l,nmB f.name=true)∧SF l):=by
 rw[zfi];constructor
 ·intro h;refine⟨fun f hf=>?_,fun j hj=>(h j hj).2⟩;obtain⟨i,hi,rfl⟩:=List.mem_iff_getElem.1 hf;have:=(h i hi).1
  simpa [List.getD_eq_getElem?_getD,List.getElem?_eq_getElem hi]using this
 ·exact fun h j hj=>⟨h.1 _ (z47 hj),h.2 j hj⟩
def chkP (d:Disk):Prop:=
 d.files.length≤256∧d.waits.length≤4096∧0≤d.room∧(∀f∈d.files,nmB f.name=true)∧SF d.files∧(∀w∈d.waits,z1l w=true)∧ ∀k,k≤d.waits.length→((d.waits.take k).foldl doneF d.files).length≤256
theorem z8y {l:List File}(hl:l.length≤256){s:List File}(hs:s=[]):z0m (S:=List File) (R:=Empty) (fun i2 (a3:List File)=>need (a3.length+([(⟨(l.getD i2 zzd).name,(bs [])⟩:File)]:List File).length≤274877906944)<|some (.next (a3++([(⟨(l.getD i2 zzd).name,(bs [])⟩:File)]:List File)))) l.length 0 s=some (.done (z0s l)):=by
 subst hs;refine z6c (z0s l) (fun i a=>a=z0s (l.take i)) (fun s h=>by rw[h,List.take_length]) (fun i s hi h=>⟨s++[⟨(l.getD i zzd).name,bs []⟩],?_,?_⟩) (by simp[z0s])
 ·rw[z0e];subst h;rw[z79,List.length_take];simp only[List.length_cons,List.length_nil];omega
 ·rw[z1c hi,h];unfold z0s;rw[List.map_append];rfl
theorem z7o {ws:List Write}{l:List File}{k:Nat}:(((ws.map bareW).take k).foldl doneF (z0s l)).length=((ws.take k).foldl doneF l).length:=by
 rw[←List.map_take,←z8a,z79]
theorem zae: ∀(ws:List Write) {l:List File},SF l→SF (ws.foldl doneF l)
 |[],l,h=>h
 |w::ws,l,h=>zae ws (z91 h)
theorem zaf: ∀(ws:List Write) {l:List File},l.length+ws.length≤4000000→SF l→szF (ws.foldl doneF l)≤szF l+szW ws
 |[],l,_,_=>zzb _
 |w::ws,l,hn,h=>by
  rw[List.length_cons]at hn;have h2:=z83 l w
  have h1:=zaf ws (l:=doneF l w) (by omega) (z91 h);have h3:=za9 w (show l.length≤4000000 by omega) h
  rw[List.foldl_cons];have:szW (w::ws)=w.data.size+szW ws:=by unfold szW;simp
  omega
theorem zc6: ∀ws:List Write,szW (ws.map bareW)=0
 |[]=>rfl
 |w::ws=>by
  have:=zc6 ws;unfold szW at this ⊢;rw[List.map_cons,List.map_cons,List.sum_cons,this];rfl
theorem        z9l {l : List File} {ws : List Write} {G : Write → List File → Option (List File)} (hG : ∀ w ∈ ws, ∀ a : List File, a.length ≤ 256 → SF a → szF a = 0 → G (bareW w) a = some (doneF a (bareW w))) (hl : l.length ≤ 256) (hs : SF l) (hw : ws.length ≤ 4096) {S R : Type} {c : R} :
    ((∀ k, k ≤ ws.length → ((ws.take k).foldl doneF l).length ≤ 256) ∧ ∃ a,    z0m (R := R) (fun i (a : List File) => (G (⟨(ws.getD i     zzd).kind, (ws.getD i     zzd).name, (ws.getD i     zzd).to_, bs []⟩ : Write) a).bind fun r => bf (decide (256 < (r.length : Int))) (some (.ret c)) (some (.next r))) ws.length 0 (   z0s l) = some (.done a)) ∨
    ((¬ ∀ k, k ≤ ws.length → ((ws.take k).foldl doneF l).length ≤ 256) ∧    z0m (R := R) (fun i (a : List File) => (G (⟨(ws.getD i     zzd).kind, (ws.getD i     zzd).name, (ws.getD i     zzd).to_, bs []⟩ : Write) a).bind fun r => bf (decide (256 < (r.length : Int))) (some (.ret c)) (some (.next r))) ws.length 0 (   z0s l) = some (.ret c)) := by
  have key :=         z4k (B := fun i (a : List File) => (G (⟨(ws.getD i     zzd).kind, (ws.getD i     zzd).name, (ws.getD i     zzd).to_, bs []⟩ : Write) a).bind fun r => bf (decide (256 < (r.length : Int))) (some (.ret c)) (some (.next r))) (n := ws.length) (s :=    z0s l)
    (fun i a => a = ((ws.map bareW).take i).foldl doneF (   z0s l) ∧ ∀ k, k ≤ i → ((ws.take k).foldl doneF l).length ≤ 256) (fun a => ∀ k, k ≤ ws.length → ((ws.take k).foldl doneF l).length ≤ 256) (fun r => r = c ∧ ¬ ∀ k, k ≤ ws.length → ((ws.take k).foldl doneF l).length ≤ 256)
    ⟨by simp, fun k hk => by have : k = 0 := by omega
                             subst this; exact hl⟩
    (fun i a hi ⟨h1, h2⟩ => ?_) (fun a h => h.2)
  · rcases key with ⟨a, h1, h2⟩ | ⟨r, h1, h2, h3⟩
    · exact .inl ⟨h2, a, h1⟩
    · subst h2; exact .inr ⟨h3, h1⟩
  · have hm :=       z47 (l := ws) hi
    have hal : a.length ≤ 256 := by rw [h1,           z7o]; exact h2 i (        zzb _)
    have haS : SF a := by rw [h1]; exact     zae _ (      zau hs)
    have hsz : szF a = 0 := by
      have :=     zaf ((ws.map bareW).take i) (l :=    z0s l) (by rw [       z79, List.length_take]; omega) (      zau hs)
      rw [      ze4] at this
      have h5 : szW ((ws.map bareW).take i) = 0 := by rw [← List.map_take]; exact      zc6 _
      rw [← h1] at this; omega
    have e := hG _ hm a hal haS hsz
    unfold bareW at e
    have hn : doneF a (bareW (ws.getD i     zzd)) = ((ws.map bareW).take (i + 1)).foldl doneF (   z0s l) := by
      rw [← List.map_take,            z1c hi, List.map_append, List.foldl_append, List.map_take, ← h1]; rfl
    have hnl : (doneF a (bareW (ws.getD i     zzd))).length = ((ws.take (i + 1)).foldl doneF l).length := by rw [hn,           z7o]
    simp only [e,              zz4,       z2p]
    by_cases hc : 256 < ((ws.take (i + 1)).foldl doneF l).length
    · right; right
      refine ⟨c, ?_, rfl, fun h => ?_⟩
      · rw [if_pos]
        have := hnl; unfold bareW at this; omega
      · have := h (i + 1) (by omega); omega
    · left
      refine ⟨doneF a (bareW (ws.getD i     zzd)), by rw [if_neg (by have := hnl; unfold bareW at this; omega)]; rfl, hn, fun k hk => ?_⟩
      rcases Nat.lt_or_ge k (i + 1) with h3 | h3
      · exact h2 k (by omega)
      · have : k = i + 1 := by omega
        subst this; omega
end Go.Av
namespace Go.Av
open Go
theorem zem (l:List File)(n:ByteArray):
 (∃i:Nat,z3k l n=some (i:Int)∧i<l.length∧hasF n l=true∧(l.getD i zzd).data=oldF n l)∨(z3k l n=some (-1)∧hasF n l=false):=by
 unfold z3k;rcases z7e (S:=Unit) (R:=Int) (s:=()) (l:=l) (B:=fun i1 (a2:Unit)=>bf (strEq ((l.getD i1 zzd).name) n) (some (.ret ((i1:Nat):Int))) (some (.next ()))) (fun f=>strEq f.name n) (fun i=>(i:Int)) (fun i hi=>by
  cases strEq (l.getD i zzd).name n<;>rfl)with⟨h1,h2⟩|⟨h1,i,hi,h3,h4,h2⟩
 ·right;rw[h2];refine⟨rfl,?_⟩;unfold hasF;rw[←h1];congr 1;funext f;rw[z49]
 ·left;rw[h2];refine⟨i,rfl,hi,?_,?_⟩
  ·unfold hasF;rw[←h1];congr 1;funext f;rw[z49]
  ·unfold oldF;have:l.find? (fun f=>decide (cmpS f.name n=0))=some (l.getD i zzd):=by
    rw[List.find?_eq_some_iff_getElem];have e:l.getD i zzd=l[i]:=by simp[List.getD_eq_getElem?_getD,List.getElem?_eq_getElem hi]
    refine⟨by rw[←z49];exact h3,i,hi,e.symm,fun j hj=>?_⟩;have:=h4 j hj
    rw[z49]at this;have e2:l.getD j zzd=l[j]:=by simp[List.getD_eq_getElem?_getD,List.getElem?_eq_getElem (show j<l.length by omega)]
    rw[e2]at this
    simpa using this
   rw[this];rfl
theorem zdt {l:List File}(n:ByteArray)(hs:SF l):(l.filter fun f=> !strEq f.name n)=delF n l:=by
 unfold delF ltF gtF;induction l with
 |nil=>rfl
 |cons f l ih=>
  have hs2:=List.pairwise_cons.1 hs;have ih:=ih hs2.2
  simp only[List.filter_cons,z49]at ih ⊢;by_cases h1:cmpS f.name n<0
  ·rw[if_pos (by rw[Bool.not_eq_true',decide_eq_false_iff_not];omega),if_pos (by rw[decide_eq_true_eq];exact h1),if_neg (by rw[decide_eq_true_eq];omega),List.cons_append,ih]
  ·have hg: ∀g∈l,0<cmpS g.name n:=fun g hg=>z8h (hs2.1 g hg) (by omega);have e1:(l.filter fun f=>decide (cmpS f.name n<0))=[]:=List.filter_eq_nil_iff.2 fun g hm=>by have:=hg g hm;rw[decide_eq_true_eq];omega
   have e2:(l.filter fun f=>decide (0<cmpS f.name n))=l:=List.filter_eq_self.2 fun g hm=>decide_eq_true (hg g hm);rw[e1,e2]at ih;have d1:decide (cmpS f.name n<0)=false:=decide_eq_false h1
   by_cases h2:cmpS f.name n=0
   ·have d2:decide (0<cmpS f.name n)=false:=decide_eq_false (by omega);rw[e1,e2,d1,d2,ih,decide_eq_true h2];rfl
   ·have d2:decide (0<cmpS f.name n)=true:=decide_eq_true (by omega);rw[e1,e2,d1,d2,ih,decide_eq_false h2];rfl
theorem z8z {l:List File}(n:ByteArray)(hn:l.length≤4000000)(hs:SF l):z2y l n=some (delF n l):=by
 unfold z2y;rw[z6c (l.filter fun f=> !strEq f.name n) (fun i a=>a=(l.take i).filter fun f=> !strEq f.name n) (fun s h=>by rw[h,List.take_length]) (fun i s hi h=>?_) (by simp)]
 ·rw[z2g,zdt n hs]
 ·rw[z1c hi,List.filter_append,←h];have hsl:s.length≤i:=by
   rw[h];refine Nat.le_trans (List.length_filter_le _ _) ?_;rw[List.length_take];omega
  by_cases hc:strEq (l.getD i zzd).name n=true
  ·refine⟨s,by rw[hc];rfl,?_⟩;rw[List.filter_cons,hc];simp
  ·have hc:strEq (l.getD i zzd).name n=false:=by simpa using hc
   refine⟨s++[l.getD i zzd],?_,?_⟩
   ·rw[hc,Bool.not_false,z2v,z0e];simp only[List.length_cons,List.length_nil];omega
   ·rw[List.filter_cons,hc];simp
theorem zer {X:Type}(l:List X)(n:Nat):Av.sub l 0 (n:Int)=l.take n:=by unfold Av.sub;simp
theorem zep {X:Type}(l:List X){n:Nat}(h:n≤l.length):Av.sub l (n:Int) (l.length:Int)=l.drop n:=by
 unfold Av.sub;rw[zz8,zz8];exact List.take_of_length_le (by rw[List.length_drop];omega)
theorem lt_lt {n:ByteArray}{l:List File}: ∀f∈ltF n l,cmpS f.name n<0:=fun f h=>of_decide_eq_true (List.mem_filter.1 h).2
theorem gt_gt {n:ByteArray}{l:List File}: ∀f∈gtF n l,0<cmpS f.name n:=fun f h=>of_decide_eq_true (List.mem_filter.1 h).2
theorem zfw (n:ByteArray)(l:List File):(ltF n l).length≤l.length:=List.length_filter_le _ _
theorem z95 {fuel:Nat}{l:List File}(f:File)(hf:20000000≤fuel)(hn:l.length≤4000000)(hs:SF l):z3l fuel l f=some (putF f l):=by
 unfold z3l;rw[z8z f.name hn hs,zz4];have hl:=zfw f.name l
 have hdl:=z55 f.name l;have hd:(delF f.name l).length=(ltF f.name l).length+(gtF f.name l).length:=by unfold delF;rw[List.length_append]
 have h0:=z8v (B:=fun(a2:Int)=>jn (fun(a9:Bool)=>bf a9 (some (.next (zzi.wrap (a2+1)))) (some (Ctl.brk (R:=Empty) a2))) fun j10=>bf (decide (a2<((delF f.name l).length:Int))) (need ((0:Int)≤a2∧a2<((delF f.name l).length:Int))<|j10 (strLt (((delF f.name l).getD a2.toNat zzd).name) f.name)) (j10 false)) (fun i=>(i:Int)) (n:=(ltF f.name l).length) (fuel:=fuel) (z:=((ltF f.name l).length:Int)) (by omega)
  (fun i hi=>by
   have e:(delF f.name l).getD i zzd=(ltF f.name l).getD i zzd:=by unfold delF;simp[List.getD_eq_getElem?_getD,List.getElem?_append_left hi]
   have:=lt_lt _ (z47 hi);rw[jn_eq,decide_eq_true (by omega:(i:Int)<((delF f.name l).length:Int)),z2v,z0e (by omega),zz8,e,z5g,decide_eq_true this];show some (Ctl.next (zzi.wrap ((i:Int)+1)))=_;rw[z6g (by unfold maxN;omega)])
  (by
   rw[jn_eq];by_cases h:(ltF f.name l).length<(delF f.name l).length
   ·have hg:0<(gtF f.name l).length:=by omega
    have e:(delF f.name l).getD (ltF f.name l).length zzd=(gtF f.name l).getD 0 zzd:=by unfold delF;simp[List.getD_eq_getElem?_getD,List.getElem?_append_right (zzb _)]
    have:=gt_gt _ (z47 hg);rw[decide_eq_true (by omega),z2v,z0e (by omega),zz8,e,z5g,decide_eq_false (by omega)];rfl
   ·rw[decide_eq_false (by omega),z0q];rfl)
 rw[show((0:Nat):Int)=0 from rfl]at h0;rw[h0,z2g];have hsub1:Av.sub (delF f.name l) 0 ((ltF f.name l).length:Int)=ltF f.name l:=by
  rw[zer];unfold delF;exact List.take_left
 have hsub2:Av.sub (delF f.name l) ((ltF f.name l).length:Int) ((delF f.name l).length:Int)=gtF f.name l:=by
  rw[zep _ (by omega)];unfold delF;exact List.drop_left
 have h1:[f].length=1:=rfl;rw[hsub1,hsub2,z0e (by omega),z0e (by omega),z0e (by omega),z0e (by omega),z0e (by rw[List.length_append];omega)];unfold putF;simp
theorem zfu (n:ByteArray)(a b:List File):ltF n (a++b)=ltF n a++ltF n b:=List.filter_append ..
theorem zfn (n:ByteArray)(a b:List File):gtF n (a++b)=gtF n a++gtF n b:=List.filter_append ..
theorem zfx (n:ByteArray)(l:List File):ltF n (ltF n l)=ltF n l:=List.filter_eq_self.2 fun f h=>decide_eq_true (lt_lt f h)
theorem zfo (n:ByteArray)(l:List File):gtF n (gtF n l)=gtF n l:=List.filter_eq_self.2 fun f h=>decide_eq_true (gt_gt f h)
theorem zfv (n:ByteArray)(l:List File):ltF n (gtF n l)=[]:=List.filter_eq_nil_iff.2 fun f h=>by have:=gt_gt f h;rw[decide_eq_true_eq];omega
theorem zfp (n:ByteArray)(l:List File):gtF n (ltF n l)=[]:=List.filter_eq_nil_iff.2 fun f h=>by have:=lt_lt f h;rw[decide_eq_true_eq];omega
theorem zel {fuel:Nat}{l:List File}{w:Write}(hf:20000000≤fuel)(hn:l.length≤4000000)(hs:SF l)(hz:szF l+w.data.size≤9223372036854775807)(hk:w.kind=1∨w.kind=2∨w.kind=3):
 z3j fuel l w=some (doneF l w):=by
 unfold z3j;have hdl:=z55 w.name l
 have hdz:=z9m w.name hn hs;have hsd:=z4b (n:=w.name) hs
 have hput: ∀x:ByteArray,putF ⟨w.name,x⟩ (delF w.name l)=putF ⟨w.name,x⟩ l:=fun x=>by
  unfold putF delF;have e1:ltF w.name (ltF w.name l++gtF w.name l)=ltF w.name l:=by rw[zfu,zfx,zfv,List.append_nil]
  have e2:gtF w.name (ltF w.name l++gtF w.name l)=gtF w.name l:=by rw[zfn,zfp,zfo,List.nil_append]
  show ltF w.name _++_::gtF w.name _=ltF w.name l++_::gtF w.name l;rw[e1,e2]
 unfold doneF;rcases zem l w.name with⟨i,h1,h2,h3,h4⟩|⟨h1,h3⟩
 ·rw[h1];simp only[zz4,jn_eq,z2p,zz8];by_cases hk1:w.kind=1
  ·rw[if_pos hk1,if_pos hk1,if_pos (by omega),z0e (by omega),z0e (by rw[h4];omega),h4,z95 _ hf hn hs,hput];rfl
  ·rw[if_neg hk1,if_neg hk1,if_neg (by omega),z0e (by omega),z8z _ hn hs,h4,h3];simp only[zz4];by_cases hk3:w.kind=3
   ·rw[if_pos hk3,if_neg (by omega)]
   ·rw[if_neg hk3,if_pos ⟨by omega,by trivial⟩,z95 _ hf (by omega) hsd];rfl
 ·rw[h1];simp only[zz4,jn_eq,z2p];have hno: ∀f∈l,cmpS f.name w.name≠0:=fun f hf=>by
   have:=List.any_eq_false.1 h3 f hf
   simpa using this
  have ho:oldF w.name l=bs []:=by
   unfold oldF;rw[List.find?_eq_none.2 (fun g hg=>by rw[decide_eq_true_eq];exact hno g hg)];rfl
  by_cases hk1:w.kind=1
  ·rw[if_pos hk1,if_pos hk1,if_neg (by omega),z95 _ hf hn hs,hput,ho];have:bs []++w.data=w.data:=ByteArray.empty_append;rw[this];rfl
  ·rw[if_neg hk1,if_neg hk1,if_pos (by omega),if_neg (by rw[h3];simp),z80 hs hno]
end Go.Av
namespace Go.Av
open Go
theorem zf9 {Q:Type}(j:Bool→Option Q)(A B c:Bool):jn j (fun j2=>bf A (bf B (j2 c) (j2 false)) (j2 false))=j (A && (B && c)):=by cases A<;>cases B<;>rfl
theorem zft {Q:Type}(j:Bool→Option Q)(A B c:Bool):jn j (fun j2=>bf A (j2 true) (bf B (j2 true) (j2 c)))=j (A||(B||c)):=by cases A<;>cases B<;>rfl
theorem zdo {fuel:Nat}{w:Write}{l:List File}(hf:20000000≤fuel)(hn:l.length≤1000000)(hz:szF l+w.data.size≤4611686018427387904)(hs:SF l):z0n fuel [w] l=some (doneF l w):=
 (do_ok (ws:=[w]) hf (by simp only[List.length_cons,List.length_nil];omega) (by unfold szW;simpa using hz) hs).1
theorem zd3 {fuel:Nat}{d:Disk}(hf:20000000≤fuel)(hl:d.files.length≤256)(hw:d.waits.length≤4096)(hs:SF d.files):
 ((∀k,k≤d.waits.length→((d.waits.take k).foldl doneF d.files).length≤256)∧z3r fuel d=some false)∨((¬ ∀k,k≤d.waits.length→((d.waits.take k).foldl doneF d.files).length≤256)∧z3r fuel d=some true):=by
 unfold z3r;rw[z0e (by unfold lim;omega),z8y hl (s:=List.replicate 0 ⟨bs [],bs []⟩) rfl,z2g];rcases z9l (ws:=d.waits) (l:=d.files) (R:=Bool) (S:=Unit) (c:=true) (G:=fun w a=>z0n fuel [w] a) (fun w _ a ha hs hz=>zdo hf (by omega) (by rw[hz];show 0+0≤_;omega) hs) hl hs hw with⟨h1,a,h2⟩|⟨h1,h2⟩
 ·exact .inl ⟨h1,by rw[h2];rfl⟩
 ·exact .inr ⟨h1,by rw[h2];rfl⟩
theorem zcd {l:List Write}(h: ∀w∈l,w.to_.size+w.data.size≤9223372036854775807):z0a l=some (!(l.all z1l)):=by
 unfold z0a z0f z4x;rcases z7e (S:=Unit) (R:=Int) (s:=()) (l:=l) (B:=fun i1 (a2:Unit)=>((z40 (l.getD i1 zzd)).bind fun r1=>some (!r1)).bind fun r4=>bf r4 (some (.ret ((i1:Nat):Int))) (some (.next ()))) (fun w=> !z1l w) (fun i=>(i:Int)) (fun i hi=>by
  rw[zc4 (h _ (z47 hi))];cases z1l (l.getD i zzd)<;>rfl)with⟨h1,h2⟩|⟨h1,i,_,_,_,h2⟩
 ·rw[h2];have:l.all z1l=true:=by
   rw[List.all_eq_true];intro x hx;have:=List.any_eq_false.1 h1 x hx
   simpa using this
  rw[this];rfl
 ·rw[h2];have:l.all z1l=false:=by
   obtain⟨x,hx,hp⟩:=List.any_eq_true.1 h1;rw[List.all_eq_false];exact⟨x,hx,by simpa using hp⟩
  rw[this];simp
theorem zds (l:List File)(hl:l.length≤4000000)(b:Bool):
 ∃c:Bool,z0m (S:=Bool) (R:=Empty) (fun i3 (a4:Bool)=>bf a4 ((z29 ([(l.getD i3 zzd).name]:List ByteArray)).bind fun r11=>bf r11 (bf (decide (((i3:Nat):Int)=0)) (some (.next true)) (need ((0:Int)≤(zzi.wrap (((i3:Nat):Int)-1))∧(zzi.wrap (((i3:Nat):Int)-1))<(l.length:Int))<|some (.next (strLt ((l.getD ((zzi.wrap (((i3:Nat):Int)-1)).toNat) zzd).name) ((l.getD i3 zzd).name))))) (some (.next false))) (some (.next false))) l.length 0 b=some (.done c)∧(c=true↔b=true∧ ∀j,j<l.length→goodF l j):=by
 refine z7f (fun i (c:Bool)=>c=true↔b=true∧ ∀j,j<i→goodF l j) (by simp) fun i c hi hc=>?_;have ext:(∀j,j<i+1→goodF l j)↔(∀j,j<i→goodF l j)∧goodF l i:=⟨fun h=>⟨fun j hj=>h j (by omega),h i (by omega)⟩,fun h j hj=>by
  rcases Nat.lt_or_ge j i with h1|h1
  ·exact h.1 j h1
  ·have:j=i:=by omega
   subst this;exact h.2⟩
 rw[ext];cases c with
 |false=>
  refine⟨false,rfl,⟨fun h=>by(cases h),fun h=>?_⟩⟩;have:=hc.2 ⟨h.1,h.2.1⟩
  cases this
 |true=>
  obtain⟨h1,h2⟩:=hc.1 rfl;rw[z2v,zbt,zz4,zbu];cases hn:nmB (l.getD i zzd).name with
  |false=>
   refine⟨false,rfl,⟨fun h=>by(cases h),fun h=>?_⟩⟩;have:=h.2.2.1
   rw[hn]at this;cases this
  |true=>
   rw[z2v];by_cases h0:i=0
   ·subst h0;exact⟨true,rfl,⟨fun _=>⟨h1,h2,hn,.inl rfl⟩,fun _=>rfl⟩⟩
   ·have e:zzi.wrap ((i:Int)-1)=((i-1:Nat):Int):=by rw[z1f (by omega) (by omega)];omega
    rw[decide_eq_false (by omega),z0q,e,z0e (by omega),zz8,z5g];refine⟨_,rfl,?_⟩;rw[decide_eq_true_eq];refine⟨fun h=>⟨h1,h2,hn,.inr h⟩,fun h=>?_⟩;rcases h.2.2.2 with h3|h3
    ·exact absurd h3 h0
    ·exact h3
theorem zf4 {fuel:Nat}{d:Disk}(hf:20000000≤fuel)(hn:d.files.length≤4000000)(hw: ∀w∈d.waits,w.to_.size+w.data.size≤9223372036854775807):(chkP d∧z1j fuel d=some 0)∨(¬chkP d∧z1j fuel d=some 8):=by
 unfold z1j;rw[zf9];obtain⟨c,h1,h2⟩:=zds d.files hn (decide ((d.files.length:Int)≤256) && (decide ((d.waits.length:Int)≤4096) && decide (0≤d.room)));rw[h1,z2g,jn_eq];simp only[Bool.and_eq_true,decide_eq_true_eq,z92]at h2;cases c with
 |false=>
  right;refine⟨fun h=>?_,rfl⟩;unfold chkP at h;have:=h2.2 ⟨⟨by omega,by omega,h.2.2.1⟩,h.2.2.2.1,h.2.2.2.2.1⟩
  cases this
 |true=>
  obtain⟨⟨h3,h4,h5⟩,h6,h7⟩:=h2.1 rfl;rw[Bool.not_true,z0q,zcd hw,zz4];cases hr:d.waits.all z1l with
  |false=>
   right;refine⟨fun h=>?_,rfl⟩;have:=List.all_eq_true.2 h.2.2.2.2.2.1
   rw[hr]at this;cases this
  |true=>
   rw[Bool.not_true,z0q];rcases zd3 hf (d:=d) (by omega) (by omega) h7 with⟨h8,h9⟩|⟨h8,h9⟩
   ·left;exact⟨⟨by omega,by omega,h5,h6,h7,List.all_eq_true.1 hr,h8⟩,by rw[h9];rfl⟩
   ·right;exact⟨fun h=>h8 h.2.2.2.2.2.2,by rw[h9];rfl⟩
theorem zb8 (l:List File)(hl:l.length≤4000000):
 (∃s,z0m (S:=Unit) (R:=Int) (fun i3 (a4:Unit)=>jn (fun(a18:Bool)=>bf a18 (some (.ret 8)) (some (.next ()))) fun j19=>(z18 ((l.getD i3 zzd).name)).bind fun r20=>bf (!r20) (j19 true) (bf (decide (0<((i3:Nat):Int))) (need ((0:Int)≤(zzi.wrap (((i3:Nat):Int)-1))∧(zzi.wrap (((i3:Nat):Int)-1))<(l.length:Int))<|j19 (!strLt ((l.getD ((zzi.wrap (((i3:Nat):Int)-1)).toNat) zzd).name) ((l.getD i3 zzd).name))) (j19 false))) l.length 0 ()=some (.done s)∧ ∀j,j<l.length→goodF l j)∨
 (∃r,z0m (S:=Unit) (R:=Int) (fun i3 (a4:Unit)=>jn (fun(a18:Bool)=>bf a18 (some (.ret 8)) (some (.next ()))) fun j19=>(z18 ((l.getD i3 zzd).name)).bind fun r20=>bf (!r20) (j19 true) (bf (decide (0<((i3:Nat):Int))) (need ((0:Int)≤(zzi.wrap (((i3:Nat):Int)-1))∧(zzi.wrap (((i3:Nat):Int)-1))<(l.length:Int))<|j19 (!strLt ((l.getD ((zzi.wrap (((i3:Nat):Int)-1)).toNat) zzd).name) ((l.getD i3 zzd).name))) (j19 false))) l.length 0 ()=some (.ret r)∧r=8∧ ¬ ∀j,j<l.length→goodF l j):=by
 refine z4k (fun i (s:Unit)=> ∀j,j<i→goodF l j) (fun s=> ∀j,j<l.length→goodF l j) (fun r=>r=8∧ ¬ ∀j,j<l.length→goodF l j) (fun j hj=>by omega) (fun i s hi hc=>?_) (fun s h=>h);have ext:goodF l i→(∀j,j<i+1→goodF l j):=fun h j hj=>by
  rcases Nat.lt_or_ge j i with h1|h1
  ·exact hc j h1
  ·have:j=i:=by omega
   subst this;exact h
 rw[jn_eq,z9z,zz4];cases hn:nmB (l.getD i zzd).name with
 |false=>
  right;right;refine⟨8,rfl,rfl,fun h=>?_⟩;have:=(h i hi).1
  rw[hn]at this;cases this
 |true=>
  rw[Bool.not_true,z0q];by_cases h0:i=0
  ·subst h0;left;exact⟨(),rfl,ext ⟨hn,.inl rfl⟩⟩
  ·have e:zzi.wrap ((i:Int)-1)=((i-1:Nat):Int):=by rw[z1f (by omega) (by omega)];omega
   rw[decide_eq_true (by omega),z2v,e,z0e (by omega),zz8,z5g];by_cases h3:cmpS (l.getD (i-1) zzd).name (l.getD i zzd).name<0
   ·left;exact⟨(),by rw[decide_eq_true h3];rfl,ext ⟨hn,.inr h3⟩⟩
   ·right;right;refine⟨8,by rw[decide_eq_false h3];rfl,rfl,fun h=>?_⟩;rcases(h i hi).2 with h4|h4
    ·exact h0 h4
    ·exact h3 h4
theorem zc1 {fuel:Nat}{d:Disk}(hf:20000000≤fuel)(hn:d.files.length≤4000000):(chkP d∧z2r fuel d=some 0)∨(¬chkP d∧z2r fuel d=some 8):=by
 unfold z2r;rw[zft];by_cases hb:d.files.length≤256∧d.waits.length≤4096∧0≤d.room
 ·obtain⟨h3,h4,h5⟩:=hb;rw[decide_eq_false (by omega),decide_eq_false (by omega),decide_eq_false (by omega)];rw[Bool.or_false,Bool.or_false,z0q];rcases zb8 d.files hn with⟨s,h1,h2⟩|⟨r,h1,h2,h6⟩
  ·rw[h1,z2g];rw[z92]at h2;rcases z7e (S:=Unit) (R:=Int) (s:=()) (l:=d.waits) (B:=fun i6 (a7:Unit)=>(z3c (d.waits.getD i6 zzd)).bind fun r17=>bf (!r17) (some (.ret 8)) (some (.next ()))) (fun w=> !z1l w) (fun i=>8) (fun i hi=>by
    rw[zci];cases z1l (d.waits.getD i zzd)<;>rfl)with⟨g1,g2⟩|⟨g1,i,_,_,_,g2⟩
   ·rw[g2,z2g,z8y h3 rfl,z2g];have hr: ∀w∈d.waits,z1l w=true:=fun w hw=>by
     have:=List.any_eq_false.1 g1 w hw
     simpa using this
    rcases z9l (ws:=d.waits) (l:=d.files) (R:=Int) (S:=Unit) (c:=8) (G:=fun w a=>z3j fuel a w) (fun w hw a ha hs hz=>zel hf (by omega) hs (by rw[hz];show 0+0≤_;omega) (zdd (w:=w) (hr w hw))) h3 h2.2 h4 with⟨h8,a,h9⟩|⟨h8,h9⟩
    ·exact .inl ⟨⟨h3,h4,h5,h2.1,h2.2,hr,h8⟩,by rw[h9];rfl⟩
    ·exact .inr ⟨fun h=>h8 h.2.2.2.2.2.2,by rw[h9];rfl⟩
   ·right;refine⟨fun h=>?_,by rw[g2];rfl⟩;obtain⟨x,hx,hp⟩:=List.any_eq_true.1 g1;have:=h.2.2.2.2.2.1 x hx
    rw[this]at hp;cases hp
  ·right;subst h2;exact⟨fun h=>h6 (z92.2 ⟨h.2.2.2.1,h.2.2.2.2.1⟩),by rw[h1];rfl⟩
 ·right;refine⟨fun h=>hb ⟨h.1,h.2.1,h.2.2.1⟩,?_⟩;have:(decide (256<(d.files.length:Int))||(decide (4096<(d.waits.length:Int))||decide (d.room<0)))=true:=by
   simp only[Bool.or_eq_true,decide_eq_true_eq];omega
  rw[this];rfl
end Go.Av
namespace Go.Av
open Go
theorem zfl:z2a=z0n:=rfl
theorem zej {fuel:Nat}{l:List File}{n:ByteArray}(hf:20000000≤fuel)(hn:l.length≤4000000)(hs:SF l):
 ∃k:Nat,z0d fuel l n=some ((k:Int),hasF n l)∧(hasF n l=true→k<l.length∧(l.getD k zzd).data=oldF n l):=by
 obtain⟨k,b,h1,h2,h3,h4⟩:=z5c (n:=n) hf hn hs;obtain⟨f,g1,g2⟩:=zah (n:=n) hf hn hs;unfold z0o at g1;rw[h1]at g1;rcases h4 with⟨rfl,h5,h6⟩|⟨rfl,h5,h8,h6,h7⟩
 ·have hh:hasF n l=false:=by
   unfold hasF;rw[List.any_eq_false];intro g hg;rw[decide_eq_true_eq];exact h6 g hg
  refine⟨k,by rw[h1,hh],fun h=>?_⟩;rw[hh]at h;cases h
 ·simp only[zz4,Bool.not_true,z0q]at g1;rw[z0e (by omega),z0e (by simp only[zz8];omega)]at g1;cases hd:z1b (k:Int) (zzi.wrap ((k:Int)+1)) l with
  |none=>rw[hd]at g1;cases g1
  |some r=>
   rw[hd]at g1;simp only[zz4,zz8,zza]at g1;injection g1 with g1;have e:l.getD k zzd=f:=congrArg Prod.fst g1
   have e2:true=hasF n l:=congrArg (fun q=>q.2.1) g1;exact⟨k,by rw[h1,←e2],fun _=>⟨h5,by rw[e,g2]⟩⟩
def seenF (d:Disk):List File:=d.waits.foldl doneF d.files
def smP (B:Nat)(d:Disk):Prop:=d.files.length≤4000000∧(∀w∈d.waits,w.to_.size+w.data.size≤9223372036854775807)∧szF d.files+szW d.waits≤B∧d.room<9223372036854775808
theorem zen {d:Disk}(h:chkP d):(seenF d).length≤256:=by
 have:=h.2.2.2.2.2.2 d.waits.length (zzb _);rwa[List.take_length]at this
theorem zfb {d:Disk}(h:chkP d):SF (seenF d):=zae _ h.2.2.2.2.1
theorem zfc {d:Disk}{B:Nat}(h:chkP d)(hs:smP B d):szF (seenF d)≤B:=by
 have h1:=h.1;have h2:=h.2.1
 have:=zaf d.waits (l:=d.files) (by omega) h.2.2.2.2.1;have:=hs.2.2.1
 unfold seenF;omega
theorem zcx {fuel:Nat}{d:Disk}{B:Nat}(hf:20000000≤fuel)(hs:smP B d):
 (chkP d∧z1j fuel d=some 0∧z2r fuel d=some 0)∨(¬chkP d∧z1j fuel d=some 8∧z2r fuel d=some 8):=by
 rcases zf4 hf hs.1 hs.2.1 with⟨h1,h2⟩|⟨h1,h2⟩<;>rcases zc1 (d:=d) hf hs.1 with⟨h3,h4⟩|⟨h3,h4⟩
 ·exact .inl ⟨h1,h2,h4⟩
 ·exact absurd h1 h3
 ·exact absurd h3 h1
 ·exact .inr ⟨h1,h2,h4⟩
theorem z7t {fuel:Nat}{d:Disk}{B:Nat}(hf:20000000≤fuel)(hs:smP B d)(h:chkP d):z1j fuel d=some 0:=by
 rcases zcx hf hs with⟨_,h2,_⟩|⟨h1,_⟩
 ·exact h2
 ·exact absurd h h1
section
variable {fuel B:Nat} {d:Disk} (hf:20000000≤fuel) (hB:B≤4611686018427387904)
include hf hB
theorem zcs (hs:smP B d)(hc:chkP d):z46 fuel d=some ⟨seenF d,d⟩:=by
 have h1:=hc.1;have h2:=hc.2.1
 have h3:=hs.2.2.1;unfold z46 z09 z0p;rw[z0e (by omega),z0e (by omega),zfl];simp only[zz4];rw[z0e (by omega),zz4,(do_ok hf (by omega) (by omega) hc.2.2.2.2.1).1];rfl
theorem zfj (hs:smP B d)(hc:chkP d):z4o fuel d=some (if d.down=true then([],7)else(seenF d,0)):=by
 unfold z4o;rw[z7t hf hs hc,zcs hf hB hs hc];cases d.down<;>rfl
end
theorem zce (f:File):z85 f f=true:=by unfold z85;rw[z4e,z4e];rfl
theorem zbn (w:Write):z5r w w=true:=by unfold z5r;rw[z4e,z4e,z4e];simp
theorem za8 (l:List File):z1u l l=some true:=by
 unfold z1u;rw[decide_eq_true rfl,Bool.not_true,z0q];rw[z6c (R:=Bool) () (fun i (s:Unit)=>True) (fun s _=>rfl) (fun i s hi _=>⟨(),by rw[z0e (by omega),zce];rfl,trivial⟩) trivial];rfl
theorem zdg {fuel:Nat}{d:Disk}(hf:d.waits.length<fuel)(hn:d.waits.length≤maxN):z1h fuel d d=some true:=by
 unfold z1h;rw[decide_eq_true rfl,Bool.not_true,z0q];have h0:=z8v (R:=Bool) (B:=fun(a1:Int)=>bf (decide (a1<(d.waits.length:Int))) (need ((0:Int)≤a1∧a1<(d.waits.length:Int))<|need ((0:Int)≤a1∧a1<(d.waits.length:Int))<|bf (!(z5r (d.waits.getD a1.toNat zzd) (d.waits.getD a1.toNat zzd))) (some (.ret false)) (some (.next (zzi.wrap (a1+1))))) (some (.brk a1))) (fun i=>(i:Int)) (n:=d.waits.length) (z:=(d.waits.length:Int)) hf
  (fun i hi=>by rw[decide_eq_true (by omega),z2v,z0e (by omega),z0e (by omega),zbn,Bool.not_true,z0q,z6g (by omega)])
  (by rw[decide_eq_false (by omega)];rfl)
 rw[show((0:Nat):Int)=0 from rfl]at h0;rw[h0,z2g,jn_eq,za8];simp
end Go.Av
namespace Go.Av
open Go
theorem zdj {l:List File}{room:Int}(h0:0≤room)(h1:room<9223372036854775808)(hz:szF l≤4611686018427387904):
 z1k l room=some (decide (room<(szF l:Int))||decide (256<l.length)):=by
 unfold z1k;have pre: ∀i,i<l.length→szF (l.take (i+1))=szF (l.take i)+(l.getD i zzd).data.size:=fun i hi=>by
  unfold szF;rw[z1c hi,List.map_append,List.sum_append];simp
 have all: ∀i,szF (l.take i)≤szF l:=fun i=>by
  conv=>rhs;rw[←List.take_append_drop i l,z6x]
  omega
 have key:=z4k (S:=Int) (R:=Bool) (B:=fun i1 (a2:Int)=>bf (decide ((zzi.wrap (a2-(((l.getD i1 zzd).data).size:Int)))<0)) (some (.ret true)) (some (.next (zzi.wrap (a2-(((l.getD i1 zzd).data).size:Int)))))) (n:=l.length)
  (fun i a=>a=room-(szF (l.take i):Int)∧0≤a) (fun a=> ¬room<(szF l:Int)) (fun r=>r=true∧room<(szF l:Int)) (s:=room) ⟨by simp[szF],h0⟩
  (fun i a hi ⟨h2,h3⟩=>by
   have hp:=pre i hi;have ha:=all (i+1)
   have e:zzi.wrap (a-(((l.getD i zzd).data).size:Int))=a-(((l.getD i zzd).data).size:Int):=by
    rcases Int.lt_or_le (a-(((l.getD i zzd).data).size:Int)) 0 with h|h
    ·exact zcj ⟨by omega,by omega⟩
    ·exact z1f h (by omega)
   rw[e];by_cases hc:a-(((l.getD i zzd).data).size:Int)<0
   ·right;right;exact⟨true,by rw[decide_eq_true hc];rfl,rfl,by omega⟩
   ·left;exact⟨_,by rw[decide_eq_false hc];rfl,by omega,by omega⟩)
  (fun a ⟨h2,h3⟩=>by rw[List.take_length]at h2;omega)
 rcases key with⟨a,h2,h3⟩|⟨r,h2,rfl,h3⟩
 ·rw[h2,z2g,decide_eq_false h3,Bool.false_or];congr 1;have e:(256<(l.length:Int))↔256<l.length:=by omega
  simp only[e]
 ·rw[h2,zbw,decide_eq_true h3];rfl
def burnD (n:Int):Int:=if 0<n then zzi.wrap (n-1)else n
def oneF (d:Disk)(w:Write):Disk×Int:=
 if d.down=true then(d,7)else if z1l w=false then(d,4)else if hasF w.name (seenF d)=false∧w.kind≠1 then(d,5)else
 if 4096≤d.waits.length∨d.room<(szF (doneF (seenF d) w):Int)∨256<(doneF (seenF d) w).length then(d,9)else
 if d.fuse=0 then(⟨d.files,if w.kind=1 then d.waits++[w]else d.waits,d.room,true,d.fuse⟩,7)else(⟨d.files,d.waits++[w],d.room,false,burnD d.fuse⟩,0)
def doF (d:Disk):List Write→Disk×Int
 |[]=>(d,0)
 |w::l=>if(oneF d w).2=0 then doF (oneF d w).1 l else oneF d w
theorem z5y (d:Disk)(w:Write)(l:List Write):doF d (w::l)=if(oneF d w).2=0 then doF (oneF d w).1 l else oneF d w:=rfl
theorem z72 (a b:List Write): ∀d,doF d (a++b)=if(doF d a).2=0 then doF (doF d a).1 b else doF d a:=by
 induction a with
 |nil=>intro d;rfl
 |cons w a ih=>
  intro d;rw[List.cons_append,z5y,z5y];by_cases h:(oneF d w).2=0
  ·rw[if_pos h,if_pos h];exact ih _
  ·rw[if_neg h,if_neg h,if_neg h]
theorem z7c (d:Disk)(w:Write):(oneF d w).1.files=d.files:=by
 unfold oneF;repeat' (first|rfl|split)
theorem z6a (d:Disk)(w:Write):(oneF d w).1.room=d.room:=by
 unfold oneF;repeat' (first|rfl|split)
theorem z9x (d:Disk)(w:Write):(oneF d w).1.waits=d.waits∨((oneF d w).1.waits=d.waits++[w]∧d.down=false∧z1l w=true∧d.waits.length<4096∧(szF (doneF (seenF d) w):Int)≤d.room∧(doneF (seenF d) w).length≤256):=by
 unfold oneF;by_cases h1:d.down=true
 ·rw[if_pos h1];exact .inl rfl
 ·rw[if_neg h1];by_cases h2:z1l w=false
  ·rw[if_pos h2];exact .inl rfl
  ·rw[if_neg h2];by_cases h3:hasF w.name (seenF d)=false∧w.kind≠1
   ·rw[if_pos h3];exact .inl rfl
   ·rw[if_neg h3];by_cases h4:4096≤d.waits.length∨d.room<(szF (doneF (seenF d) w):Int)∨256<(doneF (seenF d) w).length
    ·rw[if_pos h4];exact .inl rfl
    ·rw[if_neg h4];have h5:d.down=false∧z1l w=true∧d.waits.length<4096∧(szF (doneF (seenF d) w):Int)≤d.room∧(doneF (seenF d) w).length≤256:=⟨by simpa using h1,by simpa using h2,by omega,by omega,by omega⟩;by_cases h6:d.fuse=0
     ·rw[if_pos h6];by_cases h7:w.kind=1
      ·rw[if_pos h7];exact .inr ⟨rfl,h5⟩
      ·rw[if_neg h7];exact .inl rfl
     ·rw[if_neg h6];exact .inr ⟨rfl,h5⟩
theorem z8d {d:Disk}{w:Write}{fs:List File}{ws:List Write}{r:Int}{b:Bool}{f:Int}(hf:fs=d.files)(hw:ws=d.waits++[w]):seenF ⟨fs,ws,r,b,f⟩=doneF (seenF d) w:=by
 subst hf;subst hw;unfold seenF;rw[List.foldl_append];rfl
theorem zea {d e:Disk}{w:Write}(hc:chkP d)(hf:e.files=d.files)(hr:e.room=d.room)(hw:e.waits=d.waits++[w])(h1:z1l w=true)(h2:d.waits.length<4096)(h3:(doneF (seenF d) w).length≤256):chkP e:=by
 unfold chkP;rw[hf,hr,hw];refine⟨hc.1,by rw[List.length_append];simp only[List.length_cons,List.length_nil];omega,hc.2.2.1,hc.2.2.2.1,hc.2.2.2.2.1,fun x hx=>?_,fun k hk=>?_⟩
 ·rcases List.mem_append.1 hx with hx|hx
  ·exact hc.2.2.2.2.2.1 x hx
  ·rw[List.mem_singleton.1 hx];exact h1
 ·rw[List.length_append]at hk;simp only[List.length_cons,List.length_nil]at hk;by_cases h:k≤d.waits.length
  ·rw[List.take_append_of_le_length h];exact hc.2.2.2.2.2.2 k h
  ·rw[List.take_of_length_le (by rw[List.length_append];simp only[List.length_cons,List.length_nil];omega),List.foldl_append];exact h3
theorem ze9 {d e:Disk}(hc:chkP d)(hf:e.files=d.files)(hr:e.room=d.room)(hw:e.waits=d.waits):chkP e:=by
 unfold chkP at hc ⊢;rw[hf,hr,hw];exact hc
theorem z94 {d:Disk}(hc:chkP d)(w:Write):chkP (oneF d w).1:=by
 rcases z9x d w with h|⟨h,_,h1,h2,_,h3⟩
 ·exact ze9 hc (z7c d w) (z6a d w) h
 ·exact zea hc (z7c d w) (z6a d w) h h1 h2 h3
theorem zag {d:Disk}{w:Write}{B C:Nat}(hs:smP B d)(hC:B+w.data.size≤C)(hw:w.to_.size+w.data.size≤9223372036854775807):smP C (oneF d w).1:=by
 unfold smP;rw[z7c,z6a];have:=hs.2.2.1
 rcases z9x d w with h|⟨h,_⟩<;>rw[h]
 ·exact⟨hs.1,hs.2.1,by omega,hs.2.2.2⟩
 ·refine⟨hs.1,fun x hx=>?_,?_,hs.2.2.2⟩
  ·rcases List.mem_append.1 hx with hx|hx
   ·exact hs.2.1 x hx
   ·rw[List.mem_singleton.1 hx];exact hw
  ·have:szW (d.waits++[w])=szW d.waits+w.data.size:=by unfold szW;simp
   omega
theorem zes (w:Write)(l:List Write):szW (w::l)=w.data.size+szW l:=by unfold szW;simp
theorem zco: ∀(l:List Write) {d:Disk},chkP d→chkP (doF d l).1
 |[],d,h=>h
 |w::l,d,h=>by
  unfold doF;split
  ·exact zco l (z94 h w)
  ·exact z94 h w
theorem zdp: ∀(l:List Write) {d:Disk} {B C:Nat},smP B d→B+szW l≤C→(∀w∈l,w.to_.size+w.data.size≤9223372036854775807)→smP C (doF d l).1
 |[],d,B,C,h,hC,_=>⟨h.1,h.2.1,by have:=h.2.2.1;show szF d.files+szW d.waits≤C;omega,h.2.2.2⟩
 |w::l,d,B,C,h,hC,hw=>by
  rw[zes]at hC;have hw0:=hw w (zz5 ..)
  unfold doF;split
  ·exact zdp l (zag h (zzb _) hw0) (by omega) (fun x hx=>hw x (zz6 _ hx))
  ·exact zag h (by omega) hw0
theorem jn_x {Q:Type}{b c:Bool}(j:Bool→Option Q)(h:b=true→c=false):jn j (fun j4=>bf b (j4 c) (j4 false))=j false:=by
 cases b with
 |false=>rfl
 |true=>rw[h rfl];rfl
theorem jn_z {Q:Type}{b c:Bool}(j:Bool→Option Q):jn j (fun j8=>bf b (j8 true) ((some c).bind fun r=>j8 r))=j (b||c):=by cases b<;>rfl
theorem zex {fuel:Nat}{d:Disk}{w:Write}{B:Nat}(hf:20000000≤fuel)(hB:B+w.data.size≤4611686018427387904)(hs:smP B d)(hc:chkP d)(hw:w.to_.size+w.data.size≤9223372036854775807):
 ∃k,z17 fuel w ⟨seenF d,d⟩=some ((oneF d w).2,k)∧k.disk=(oneF d w).1∧((oneF d w).2=0→k=⟨seenF (oneF d w).1,(oneF d w).1⟩):=by
 have hl:=zen hc;have hS:=zfb hc
 have hz:=zfc hc hs;have hdl:=z83 (seenF d) w
 have hdz:=za9 w (show(seenF d).length≤4000000 by omega) hS;have hwl:=hc.2.1
 unfold z17 oneF;dsimp only;by_cases h1:d.down=true
 ·rw[h1,if_pos rfl];exact⟨_,rfl,rfl,fun h=>by cases h⟩
 ·rw[if_neg h1,(by simpa using h1:d.down=false),z0q,zc4 hw,zz4];cases h2:z1l w with
  |false=>exact⟨_,rfl,rfl,fun h=>by cases h⟩
  |true=>
   rw[if_neg (by simp),Bool.not_true,z0q];obtain⟨k,p1,p2⟩:=zej (n:=w.name) hf (show(seenF d).length≤4000000 by omega) hS;rw[p1,zz4];dsimp only;by_cases h3:hasF w.name (seenF d)=false∧w.kind≠1
   ·rw[if_pos h3,h3.1,jn_eq,Bool.not_false,z2v,decide_eq_false h3.2,Bool.not_false];exact⟨_,rfl,rfl,fun h=>by cases h⟩
   ·rw[if_neg h3];have hx:(!hasF w.name (seenF d))=true→(!decide (w.kind=1))=false:=fun hh=>by
     have:w.kind=1:=by
      rcases Classical.em (w.kind=1)with h|h
      ·exact h
      ·exact absurd ⟨by simpa using hh,h⟩ h3
     rw[decide_eq_true this];rfl
    rw[jn_x _ hx,z0q];unfold z3m;rw[z0e (by omega),zz4,zdo hf (by omega) (by omega) hS,zz4,zdj hc.2.2.1 hs.2.2.2 (by omega),jn_z];generalize hg:doneF (seenF d) w=nx at hdl hdz;by_cases h4:4096≤d.waits.length∨d.room<(szF nx:Int)∨256<nx.length
    ·rw[if_pos h4];have e4:(decide (4096≤(d.waits.length:Int))||(decide (d.room<(szF nx:Int))||decide (256<nx.length)))=true:=by
      simp only[Bool.or_eq_true,decide_eq_true_eq];omega
     rw[e4];exact⟨_,rfl,rfl,fun h=>by cases h⟩
    ·rw[if_neg h4];have e4:(decide (4096≤(d.waits.length:Int))||(decide (d.room<(szF nx:Int))||decide (256<nx.length)))=false:=by
      simp only[Bool.or_eq_false_iff,decide_eq_false_iff_not];omega
     rw[e4,z0q];unfold z1q;simp only[jn_eq,z2p];have hwl2:d.waits.length+[w].length≤274877906944:=by simp only[List.length_cons,List.length_nil];omega
     by_cases h6:d.fuse=0
     ·rw[if_pos h6,if_neg (by omega)];simp only[zz4,h6,decide_true,Bool.not_true,z0q];by_cases h7:w.kind=1
      ·rw[if_pos h7,z0e hwl2];exact⟨_,rfl,by rw[if_pos h7],fun h=>by cases h⟩
      ·rw[if_neg h7];exact⟨_,rfl,by rw[if_neg h7],fun h=>by cases h⟩
     ·rw[if_neg h6];have e6:decide (d.fuse=0)=false:=decide_eq_false h6;unfold burnD;by_cases h8:0<d.fuse
      ·rw[if_pos h8,if_pos h8];simp only[zz4,e6,Bool.not_false,z2v,Bool.not_true,z0q];rw[z0e hwl2];exact⟨_,rfl,rfl,fun _=>by rw[z8d rfl rfl,hg]⟩
      ·rw[if_neg h8,if_neg h8];simp only[zz4,e6,Bool.not_false,z2v,Bool.not_true,z0q];rw[z0e hwl2];exact⟨_,rfl,rfl,fun _=>by rw[z8d rfl rfl,hg]⟩
end Go.Av
namespace Go.Av
open Go
theorem zet (l:List Write)(i:Nat):szW (l.take i)≤szW l:=by
 unfold szW
 conv=>rhs;rw[←List.take_append_drop i l,List.map_append,List.sum_append]
 omega
theorem z7q {l:List Write}{i:Nat}(hi:i<l.length):szW (l.take i)+(l.getD i zzd).data.size≤szW l:=by
 have h:=zet l (i+1);rw[z1c hi]at h;have:szW (l.take i++[l.getD i zzd])=szW (l.take i)+(l.getD i zzd).data.size:=by unfold szW;simp
 omega
theorem Do_ok {fuel B:Nat}{d:Disk}{l:List Write}(hf:20000000≤fuel)(hB:B+szW l≤4611686018427387904)(hs:smP B d)(hc:chkP d)(hw: ∀w∈l,w.to_.size+w.data.size≤9223372036854775807):z3q fuel d l=some (doF d l):=by
 unfold z3q;rw[z7t hf hs hc,zz4,decide_eq_true rfl,Bool.not_true,z0q,zcs hf (by omega) hs hc,zz4];have key:=z4k (S:=Desk) (R:=Disk×Int) (B:=fun i3 (a4:Desk)=>(z17 fuel (l.getD i3 zzd) a4).bind fun r6=>bf (!decide (r6.1=0)) (some (.ret (r6.2.disk,r6.1))) (some (.next r6.2))) (n:=l.length) (s:=⟨seenF d,d⟩)
  (fun i k=>k=⟨seenF k.disk,k.disk⟩∧doF d (l.take i)=(k.disk,0)) (fun k=>doF d l=(k.disk,0)) (fun r=>r=doF d l) ⟨rfl,rfl⟩
  (fun i k hi ⟨h1,h2⟩=>by
   have hm:=z47 (l:=l) hi;have hz:=z7q hi
   have e:k.disk=(doF d (l.take i)).1:=by rw[h2]
   have hc2:chkP k.disk:=by rw[e];exact zco _ hc
   have hs2:smP (B+szW (l.take i)) k.disk:=by rw[e];exact zdp _ hs (zzb _) (fun w h=>hw w (List.mem_of_mem_take h))
   obtain⟨k2,g1,g2,g3⟩:=zex hf (by omega) hs2 hc2 (hw _ hm);rw[←h1]at g1;rw[g1,zz4];dsimp only;by_cases hz0:(oneF k.disk (l.getD i zzd)).2=0
   ·left;refine⟨k2,by rw[decide_eq_true hz0];rfl,?_,?_⟩
    ·rw[g2];exact g3 hz0
    ·rw[z1c hi,z72,h2,if_pos rfl,z5y,if_pos hz0,g2];rfl
   ·right;right;refine⟨_,by rw[decide_eq_false hz0];rfl,?_⟩;have e2:doF d (l.take (i+1)++l.drop (i+1))=oneF k.disk (l.getD i zzd):=by
     rw[z72,z1c hi,z72,h2,if_pos rfl,z5y,if_neg hz0,if_neg hz0]
    rw[List.take_append_drop]at e2;rw[e2,g2])
  (fun k ⟨h1,h2⟩=>by rwa[List.take_length]at h2)
 rcases key with⟨k,h1,h2⟩|⟨r,h1,h2⟩
 ·rw[h1,z2g,h2]
 ·rw[h1,zbw,h2]
end Go.Av
namespace Go.Av
open Go
def nmAll (l:List File):Prop:= ∀f∈l,nmB f.name=true
theorem zf2 {l:List File}{r:Int}{b:Bool}{f:Int}(h1:l.length≤256)(h2:0≤r)(h3:nmAll l)(h4:SF l):chkP ⟨l,[],r,b,f⟩:=by
 refine⟨h1,Nat.zero_le _,h2,h3,h4,?_,?_⟩
 ·intro w hw;cases hw
 ·intro k hk;have:k=0:=Nat.le_zero.1 hk
  subst this;exact h1
end Go.Av
namespace Go.Av
open Go
set_option maxRecDepth 100000
theorem zee:z3b 100000000=some true:=by kernel_rfl
theorem zfe (l:List Write):l.length≤(l.map z3w).sum∧szW l≤(l.map z3w).sum∧ ∀w∈l,w.to_.size+w.data.size≤(l.map z3w).sum:=by
 unfold szW;induction l with
 |nil=>simp
 |cons f l ih=>
  simp only[List.map_cons,List.sum_cons,List.length_cons];have:f.to_.size+f.data.size+1≤z3w f:=by unfold z3w;simp only;omega
  refine⟨by omega,by omega,fun w hw=>?_⟩;rcases List.mem_cons.1 hw with rfl|hw
  ·omega
  ·have:=ih.2.2 w hw;omega
end Go.Av
namespace Go.Av
open Go
theorem zfz {B:Nat}{l:List File}{r:Int}{b:Bool}{f:Int}(h1:l.length≤4000000)(h2:szF l≤B)(h3:r<9223372036854775808):smP B ⟨l,[],r,b,f⟩:=by
 refine⟨h1,?_,h2,h3⟩;intro w hw;cases hw
theorem zez {d:Disk}(h:d.waits.length≤4096):z1h 100000000 d d=some true:=zdg (by omega) (by unfold maxN;omega)
theorem zeh {d:Disk}{w:Write}(h:(oneF d w).2=0):d.down=false∧z1l w=true∧(hasF w.name (seenF d)=true∨w.kind=1)∧(szF (doneF (seenF d) w):Int)≤d.room∧(oneF d w).1=⟨d.files,d.waits++[w],d.room,false,burnD d.fuse⟩:=by
 unfold oneF at h ⊢;by_cases h1:d.down=true
 ·rw[if_pos h1]at h;cases h
 ·rw[if_neg h1]at h ⊢;by_cases h2:z1l w=false
  ·rw[if_pos h2]at h;cases h
  ·rw[if_neg h2]at h ⊢;by_cases h3:hasF w.name (seenF d)=false∧w.kind≠1
   ·rw[if_pos h3]at h;cases h
   ·rw[if_neg h3]at h ⊢;by_cases h4:4096≤d.waits.length∨d.room<(szF (doneF (seenF d) w):Int)∨256<(doneF (seenF d) w).length
    ·rw[if_pos h4]at h;cases h
    ·rw[if_neg h4]at h ⊢;by_cases h5:d.fuse=0
     ·rw[if_pos h5]at h;cases h
     ·rw[if_neg h5];refine⟨by simpa using h1,by simpa using h2,?_,by omega,rfl⟩;cases hh:hasF w.name (seenF d)with
      |true=>exact .inl rfl
      |false=>
       right;rcases Classical.em (w.kind=1)with h|h
       ·exact h
       ·exact absurd ⟨hh,h⟩ h3
theorem zei {d:Disk}{w:Write}(h:(oneF d w).2≠0)(hd:d.down=false)(hf:d.fuse≠0):(oneF d w).1=d:=by
 unfold oneF at h ⊢;rw[hd]at h ⊢;rw[if_neg (by simp)]at h ⊢;split
 ·rfl
 ·rename_i h2
  rw[if_neg h2]at h;split
  ·rfl
  ·rename_i h3
   rw[if_neg h3]at h;split
   ·rfl
   ·rename_i h4
    rw[if_neg h4,if_neg hf]at h;exact absurd rfl h
theorem zf6 (d:Disk)(w:Write):doF d [w]=oneF d w:=by
 rw[z5y];by_cases h:(oneF d w).2=0
 ·rw[if_pos h];exact Prod.ext rfl h.symm
 ·rw[if_neg h]
theorem zb0 {p:Int}{l:List Write}(hp:0≤p∧p≤65535)(hz:szW l≤1048576)(hw: ∀w∈l,w.to_.size+w.data.size≤9223372036854775807):z1y 100000000 p l=some true:=by
 unfold z1y;have hf:20000000≤100000000:=by omega
 rw[zee,zz4,Bool.not_true,z0q,z1f (n:=p) hp.1 (by omega)];have hc0:chkP ⟨[],[],p,false,-1⟩:=zf2 (Nat.zero_le _) hp.1 (fun f h=>by cases h) List.Pairwise.nil;have hs0:smP 0 ⟨[],[],p,false,-1⟩:=zfz (Nat.zero_le _) (zzb _) (by omega)
 have key:=z4k (S:=Disk) (R:=Bool) (B:=fun i2 (a3:Disk)=>bf (decide (((i2:Nat):Int)=50)) (some (.brk a3)) ((z3q 100000000 a3 ([(l.getD i2 zzd)]:List Write)).bind fun r5=>jn (fun(a6:Bool)=>bf a6 (some (.ret false)) ((z4o 100000000 r5.1).bind fun r8=>outK (z0m (S:=Int) (R:=Empty) (fun i9 (a10:Int)=>some (.next (zzi.wrap (a10+(((r8.1.getD i9 zzd).data).size:Int))))) r8.1.length 0 0) (fun(a11:Int)=>jn (fun(a12:Bool)=>bf a12 (some (.ret false)) (some (.next r5.1))) fun j13=>bf (decide (p<a11)) (j13 true) ((z1j 100000000 r5.1).bind fun r14=>j13 (!decide (r14=0)))) (fun(x:Empty)=>x.elim))) fun j7=>bf (!decide (r5.2=0)) ((z1h 100000000 a3 r5.1).bind fun r15=>j7 (!r15)) (j7 false))) (n:=l.length) (s:=⟨[],[],p,false,-1⟩)
  (fun i e=>chkP e∧smP (szW (l.take i)) e∧e.down=false∧e.fuse= -1∧e.room=p∧(szF (seenF e):Int)≤p) (fun _=>True) (fun r=>False)
  ⟨hc0,hs0,rfl,rfl,rfl,by show((0:Nat):Int)≤p;omega⟩
  (fun i e hi ⟨q1,q2,q3,q4,q5,q6⟩=>by
   have hm:=z47 (l:=l) hi;have hzt:=z7q hi
   have hzs:szW (l.take (i+1))=szW (l.take i)+(l.getD i zzd).data.size:=by unfold szW;rw[z1c hi,List.map_append,List.sum_append];simp
   by_cases h50:(i:Int)=50
   ·right;left;exact⟨e,by rw[decide_eq_true h50];rfl,trivial⟩
   ·left;rw[decide_eq_false h50,z0q];have hw1: ∀w∈[l.getD i zzd],w.to_.size+w.data.size≤9223372036854775807:=fun w h=>by rw[List.mem_singleton.1 h];exact hw _ hm
    have hz1:szW [l.getD i zzd]=(l.getD i zzd).data.size:=by unfold szW;simp
    rw[Do_ok hf (by omega) q2 q1 hw1,zf6,zz4];have hx:(oneF e (l.getD i zzd)).1.down=false∧(oneF e (l.getD i zzd)).1.fuse= -1∧(szF (seenF (oneF e (l.getD i zzd)).1):Int)≤p∧((oneF e (l.getD i zzd)).2≠0→(oneF e (l.getD i zzd)).1=e):=by
     by_cases h0:(oneF e (l.getD i zzd)).2=0
     ·obtain⟨g1,g2,g3,g4,g5⟩:=zeh h0;rw[g5];refine⟨rfl,by show burnD e.fuse= -1;rw[q4];rfl,?_,fun h=>absurd h0 h⟩;rw[z8d rfl rfl];omega
     ·have:=zei h0 q3 (by omega);rw[this];exact⟨q3,q4,q6,fun _=>rfl⟩
    obtain⟨x1,x2,x3,x4⟩:=hx;have hc2:=z94 q1 (l.getD i zzd)
    have hs2:smP (szW (l.take (i+1))) (oneF e (l.getD i zzd)).1:=zag q2 (by omega) (hw _ hm);have hroom:(oneF e (l.getD i zzd)).1.room=p:=by rw[z6a];exact q5
    have hJ: ∀J:Bool→Option (Ctl Disk Bool),jn J (fun j7=>bf (!decide ((oneF e (l.getD i zzd)).2=0)) ((z1h 100000000 e (oneF e (l.getD i zzd)).1).bind fun r15=>j7 (!r15)) (j7 false))=J false:=fun J=>by
     by_cases h0:(oneF e (l.getD i zzd)).2=0
     ·rw[decide_eq_true h0];rfl
     ·rw[decide_eq_false h0,x4 h0,zez q1.2.1];rfl
    rw[hJ,z0q,zfj hf (by omega) hs2 hc2,x1,if_neg (by simp),zz4];dsimp only;generalize (oneF e (l.getD i zzd)).1=e2 at*;have hsum:z0m (S:=Int) (R:=Empty) (fun i9 (a10:Int)=>some (.next (zzi.wrap (a10+((((seenF e2).getD i9 zzd).data).size:Int))))) (seenF e2).length 0 0=some (.done (szF (seenF e2):Int)):=by
     refine z6c _ (fun i a=>a=(szF ((seenF e2).take i):Int)) (fun s h=>by rw[h,List.take_length]) (fun j a hj ha=>⟨_,rfl,?_⟩) rfl;have h1:szF ((seenF e2).take (j+1))=szF ((seenF e2).take j)+((seenF e2).getD j zzd).data.size:=by unfold szF;rw[z1c hj,List.map_append,List.sum_append];simp
     have h2:szF ((seenF e2).take (j+1))≤szF (seenF e2):=by
      conv=>rhs;rw[←List.take_append_drop (j+1) (seenF e2),z6x]
      omega
     rw[ha,z1f (by omega) (by omega)];omega
    rw[hsum,z2g,jn_eq,decide_eq_false (by omega),z0q,z7t hf hs2 hc2];exact⟨e2,rfl,hc2,hs2,x1,x2,hroom,x3⟩)
  (fun _ _=>trivial)
 rcases key with⟨e,k1,_⟩|⟨r,_,k2⟩
 ·rw[k1];rfl
 ·exact k2.elim
end Go.Av
namespace Go.Av
open Go
theorem zba {p:Int}{l:List Write}(h:okInt .u16 p)(hb:1+((l.map z3w).sum+1+0)≤1048576):z1y 100000000 p l=some true:=by
 have h2:=zfe l;have h3:=Go.bounds_u16 h
 exact zb0 (by omega) (by omega) (fun w hw=>by have:=h2.2.2 w hw;omega)
end Go.Av
