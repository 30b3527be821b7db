import Derived.Test.YtghdjgoeckadaaaF3x2
import Derived.Test.YtghdjgoeckadaaaProg
import Derived.Sort.LotD3
import Derived.Sort.LotD4
import Derived.Sort.LotA
import Derived.Sort.LotB
import Derived.Sort.LotC
import Derived.Sort.AssemblyPlain
set_option maxRecDepth 100000
set_option linter.unusedVariables false
set_option linter.unusedSimpArgs false
set_option linter.unusedSectionVars false
open Go.IntKind renaming i64→zzi, u64→zzu
open Inhabited renaming default→zzd
open Option renaming bind_some→zz3
open Nat renaming le_of_ble_eq_true→zz5, le_refl→zzc, zero_add→zze
open List renaming length_append→zz6, mem_cons_self→zz7, mem_cons_of_mem→zz8, replicate→zza, append_assoc→zzb, mem_singleton→zzg, length_take→zzh
open Int renaming toNat_natCast→zz9
namespace Go.Av
open Go Go.Proofs
theorem z6j {p0:ByteArray}{q:Bool}(h:z52 p0=some q):
 Summ Try.prog 46 [cD (.str p0)] [] (cD (.bool q)) []:=by
 refine Summ.i Try.func46 rfl [] fun w0 G0 V LL φ0=>?_;unfold z52 at h;refine Tri.sg [0] [] (z00 1) ?_;refine z0u (fun(a1:Bool)=>⟨[(2,cD (.bool a1))],[]⟩) h (fun a1 h=>?_) (fun j2 h=>?_)
 ·refine Tri.ret ?_;cases h;exact RetAt.k
 ·refine z04 ?_;refine At.sg 3 [0,5] [] (z00 3) ?_;refine At.cs [5] h (fun h=>?_) (fun h=>?_)
  ·refine At.sg 5 [2] [] (z00 2) ?_;refine At.done rfl ?_;exact⟨_,h,kr⟩
  ·refine At.sg 5 [2] [] (z00 5) ?_;refine At.done rfl ?_;exact⟨_,h,kr⟩
theorem z2o {p0:List ByteArray}{q:Int}(h:z0i p0=some q):
 Summ Try.prog 53 [.c (wC 1 z0b p0),cD (.fn 46 [])] [] (cD (dI q)) []:=by
 refine Summ.i Try.func53 rfl [] fun w0 G0 V LL φ0=>?_;unfold z0i at h;refine Tri.sg [0,1] [] (z00 1) ?_;refine z02 ?_;refine Tri.sg [0,1,7,8] [] (z00 3) ?_;refine Tri.ln 0 p0.length fun hlena2=>?_;refine z36 8 () (fun(x:Int) s=>RetAt Try.prog Try.f53 (cD (dI x)) [] s) (fun(a2:Unit)=>⟨[(0,.c (wC 1 z0b p0)),(1,cD (.fn 46 [])),(7,cD (dI (p0.length:Int)))],[]⟩) [8,0,1,7] [] [9,8,0,1,7] [] [0,1,7] [] [8,0,1,7] [] h hlena2 ?_ ?_ ?_
 ·intro i1 a2 c hii1 h;refine Tri.sg [0,1,5,7,8] [] (z00 2) ?_;refine z02 ?_;refine z04 ?_;refine At.sg 5 [0,1,5,7,8,11,15] [] (tN 3 (ai (show((0:Int)≤((i1:Nat):Int)∧((i1:Nat):Int)<(p0.length:Int))from⟨by omega,by omega⟩) (z00 1))) ?_;obtain⟨r4,hr4,h⟩:=z05 h;refine At.cA [] [cD (.str (p0.getD i1 zzd))] (z6j hr4) (.cons (.refl _) .nil) ?_;refine At.done rfl ?_;refine z07 h (fun h=>?_) (fun h=>?_)
  ·refine Tri.sg [4] [] (z00 2) ?_;refine Tri.ret ?_;cases h;exact RetAt.k
  ·refine Tri.kp [8,0,1,7] [] ?_;refine Tri.skip ?_;cases h;exact kr
 ·intro a3 h;refine Tri.sg [4] [] (z00 1) ?_;refine Tri.ret ?_;cases h;exact RetAt.k
 ·exact fun x s hx hr=>by cases hx;exact hr
theorem z2g {p0:List ByteArray}{q:Bool}(h:z0f p0=some q):
 Summ Try.prog 45 [.c (wC 1 z0b p0),cD (.fn 46 [])] [] (cD (.bool q)) []:=by
 refine Summ.i Try.func45 rfl [] fun w0 G0 V LL φ0=>?_;unfold z0f at h;refine Tri.sg [0,1] [] (z00 1) ?_;refine z02 ?_;refine z04 ?_;refine At.sg 2 [5,6] [] (z00 2) ?_;obtain⟨r1,hr1,h⟩:=z05 h;refine At.cA [] [.c (wC 1 z0b p0),cD (.fn 46 [])] (z2o hr1) (.cons (.refl _) (.cons (.refl _) .nil)) ?_;refine At.sg 2 [4] [] (z00 2) ?_;refine At.done rfl ?_;refine Tri.ret ?_;cases h;exact RetAt.k
theorem z4p {p0:List ByteArray}{q:Bool}(h:z2b p0=some q):
 Summ Try.prog 27 [.c (wC 1 z0b p0)] [] (cD (.bool q)) []:=by
 refine Summ.i Try.func27 rfl [] fun w0 G0 V LL φ0=>?_;unfold z2b at h;refine Tri.sg [0] [] (z00 1) ?_;refine z02 ?_;refine z04 ?_;refine At.sg 1 [3] [] (z00 1) ?_;obtain⟨r1,hr1,h⟩:=z05 h;refine At.cA [] [.c (wC 1 z0b p0),cD (.fn 46 [])] (z2g hr1) (.cons (.refl _) (.cons (.refl _) .nil)) ?_;refine At.sg 2 [2] [] (z00 2) ?_;refine At.done rfl ?_;refine Tri.ret ?_;cases h;exact RetAt.k
theorem z2y {p0:List ByteArray}{q:Int}(h:z0i p0=some q):
 Summ Try.prog 53 [cD (lD 1 z0b p0),cD (.fn 46 [])] [] (cD (dI q)) []:=by
 refine Summ.i Try.func53 rfl [] fun w0 G0 V LL φ0=>?_;unfold z0i at h;refine Tri.sg [0,1] [] (z00 1) ?_;refine z02 ?_;refine Tri.sg [0,1,7,8] [] (z00 3) ?_;refine Tri.ln 0 p0.length fun hlena2=>?_;refine z36 8 () (fun(x:Int) s=>RetAt Try.prog Try.f53 (cD (dI x)) [] s) (fun(a2:Unit)=>⟨[(0,cD (lD 1 z0b p0)),(1,cD (.fn 46 [])),(7,cD (dI (p0.length:Int)))],[]⟩) [8,0,1,7] [] [9,8,0,1,7] [] [0,1,7] [] [8,0,1,7] [] h hlena2 ?_ ?_ ?_
 ·intro i1 a2 c hii1 h;refine Tri.sg [0,1,5,7,8] [] (z00 2) ?_;refine z02 ?_;refine z04 ?_;refine At.sg 5 [0,1,5,7,8,11,15] [] (tN 3 (ai (show((0:Int)≤((i1:Nat):Int)∧((i1:Nat):Int)<(p0.length:Int))from⟨by omega,by omega⟩) (z00 1))) ?_;obtain⟨r4,hr4,h⟩:=z05 h;refine At.cA [] [cD (.str (p0.getD i1 zzd))] (z6j hr4) (.cons (.refl _) .nil) ?_;refine At.done rfl ?_;refine z07 h (fun h=>?_) (fun h=>?_)
  ·refine Tri.sg [4] [] (z00 2) ?_;refine Tri.ret ?_;cases h;exact RetAt.k
  ·refine Tri.kp [8,0,1,7] [] ?_;refine Tri.skip ?_;cases h;exact kr
 ·intro a3 h;refine Tri.sg [4] [] (z00 1) ?_;refine Tri.ret ?_;cases h;exact RetAt.k
 ·exact fun x s hx hr=>by cases hx;exact hr
theorem z2n {p0:List ByteArray}{q:Bool}(h:z0f p0=some q):
 Summ Try.prog 45 [cD (lD 1 z0b p0),cD (.fn 46 [])] [] (cD (.bool q)) []:=by
 refine Summ.i Try.func45 rfl [] fun w0 G0 V LL φ0=>?_;unfold z0f at h;refine Tri.sg [0,1] [] (z00 1) ?_;refine z02 ?_;refine z04 ?_;refine At.sg 2 [5,6] [] (z00 2) ?_;obtain⟨r1,hr1,h⟩:=z05 h;refine At.cA [] [cD (lD 1 z0b p0),cD (.fn 46 [])] (z2y hr1) (.cons (.refl _) (.cons (.refl _) .nil)) ?_;refine At.sg 2 [4] [] (z00 2) ?_;refine At.done rfl ?_;refine Tri.ret ?_;cases h;exact RetAt.k
theorem z5u {p0:List ByteArray}{q:Bool}(h:z2b p0=some q):
 Summ Try.prog 27 [cD (lD 1 z0b p0)] [] (cD (.bool q)) []:=by
 refine Summ.i Try.func27 rfl [] fun w0 G0 V LL φ0=>?_;unfold z2b at h;refine Tri.sg [0] [] (z00 1) ?_;refine z02 ?_;refine z04 ?_;refine At.sg 1 [3] [] (z00 1) ?_;obtain⟨r1,hr1,h⟩:=z05 h;refine At.cA [] [cD (lD 1 z0b p0),cD (.fn 46 [])] (z2n hr1) (.cons (.refl _) (.cons (.refl _) .nil)) ?_;refine At.sg 2 [2] [] (z00 2) ?_;refine At.done rfl ?_;refine Tri.ret ?_;cases h;exact RetAt.k
theorem z7y {p0:Write}{q:Bool}(h:z40 p0=some q):
 Summ Try.prog 30 [.agg (cWrite p0)] [] (cD (.bool q)) []:=by
 refine Summ.i Try.func30 rfl [] fun w0 G0 V LL φ0=>?_;unfold z40 at h;refine Tri.sg [1] [1] (z00 2) ?_;refine z02 ?_;refine Tri.sg [1,4] [1] (z00 2) ?_;refine z3b ?_;refine Tri.sg [1,4,5] [1] (z00 2) ?_;refine z07 h (fun h=>?_) (fun h=>?_)
 ·refine z0u (fun(a1:Bool)=>⟨[(2,cD (.bool a1))],[]⟩) h (fun a1 h=>?_) (fun j2 h=>?_)
  ·refine Tri.ret ?_;cases h;exact RetAt.k
  ·refine z04 ?_;refine At.seg 2 [1,8] [1] (s':=⟨[(1,.c (.ptr 1 0)),(8,cD (.str p0.name))],[(1,.box (cWrite p0))]⟩) (by kernel_rfl) (z00 2) ?_;refine At.one rfl (One.buildSlice (z:=[.d (.str (bs []))]) (cells:=[.d (.str p0.name)]) (xs:=List.map (z0b) ([p0.name]:List ByteArray)) rfl rfl rfl rfl (by kernel_rfl) rfl rfl (by kernel_rfl) rfl rfl rfl (by kernel_rfl) rfl ⟨⟨rfl,.refl _⟩,trivial⟩) ?_;refine At.l [9] ⟨[(9,cD (lD 1 z0b ([p0.name]:List ByteArray))),(1,.c (.ptr 1 0)),(8,cD (.str p0.name))],[(1,.box (cWrite p0))]⟩ ⟨⟨_,rfl,.c (.own rfl (zzg.2 rfl) (zz5 rfl) rfl (z1z (z0b) ([p0.name]:List ByteArray)))⟩,⟨_,rfl,.refl _⟩,⟨_,rfl,.refl _⟩,trivial⟩ ⟨⟨_,rfl,.refl _,(by simp)⟩,trivial⟩ ?_;obtain⟨r3,hr3,h⟩:=z05 h;refine At.cA [] [cD (lD 1 z0b ([p0.name]:List ByteArray))] (z5u hr3) (.cons (.refl _) .nil) ?_;refine At.sg 1 [1,11] [1] (z00 1) ?_;refine At.cs [11] h (fun h=>?_) (fun h=>?_)
   ·refine At.sg 5 [2] [] (z00 5) ?_;refine At.done rfl ?_;exact⟨_,h,kr⟩
   ·refine At.sg 5 [2] [] (z00 2) ?_;refine At.done rfl ?_;exact⟨_,h,kr⟩
 ·refine Tri.sg [1,4,16] [1] (z00 2) ?_;refine z07 h (fun h=>?_) (fun h=>?_)
  ·refine z0u (fun(a4:Bool)=>⟨[(2,cD (.bool a4))],[]⟩) h (fun a4 h=>?_) (fun j5 h=>?_)
   ·refine Tri.ret ?_;cases h;exact RetAt.k
   ·refine z04 ?_;refine At.seg 4 [1,19,21] [1] (s':=⟨[(1,.c (.ptr 1 0)),(19,cD (.str p0.name)),(21,cD (.str p0.to_))],[(1,.box (cWrite p0))]⟩) (by kernel_rfl) (z00 4) ?_;refine At.one rfl (One.buildSlice (z:=[.d (.str (bs []))]) (cells:=[.d (.str p0.name),.d (.str p0.to_)]) (xs:=List.map (z0b) ([p0.name,p0.to_]:List ByteArray)) rfl rfl rfl rfl (by kernel_rfl) rfl rfl (by kernel_rfl) rfl rfl rfl (by kernel_rfl) rfl ⟨⟨rfl,.refl _⟩,⟨rfl,.refl _⟩,trivial⟩) ?_;refine At.l [22] ⟨[(22,cD (lD 1 z0b ([p0.name,p0.to_]:List ByteArray))),(1,.c (.ptr 1 0)),(19,cD (.str p0.name)),(21,cD (.str p0.to_))],[(1,.box (cWrite p0))]⟩ ⟨⟨_,rfl,.c (.own rfl (zzg.2 rfl) (zz5 rfl) rfl (z1z (z0b) ([p0.name,p0.to_]:List ByteArray)))⟩,⟨_,rfl,.refl _⟩,⟨_,rfl,.refl _⟩,⟨_,rfl,.refl _⟩,trivial⟩ ⟨⟨_,rfl,.refl _,(by simp)⟩,trivial⟩ ?_;obtain⟨r6,hr6,h⟩:=z05 h;refine At.cA [] [cD (lD 1 z0b ([p0.name,p0.to_]:List ByteArray))] (z5u hr6) (.cons (.refl _) .nil) ?_;refine At.sg 1 [1,24] [1] (z00 1) ?_;refine At.cs [24] h (fun h=>?_) (fun h=>?_)
    ·refine At.sg 5 [2] [] (z00 5) ?_;refine At.done rfl ?_;exact⟨_,h,kr⟩
    ·refine At.sg 5 [2] [] (z00 2) ?_;refine At.done rfl ?_;exact⟨_,h,kr⟩
  ·refine Tri.sg [1,29] [1] (z00 2) ?_;refine z07 h (fun h=>?_) (fun h=>?_)
   ·refine z0u (fun(a7:Bool)=>⟨[(2,cD (.bool a7))],[]⟩) h (fun a7 h=>?_) (fun j8 h=>?_)
    ·refine Tri.ret ?_;cases h;exact RetAt.k
    ·refine z04 ?_;refine At.seg 2 [1,32] [1] (s':=⟨[(1,.c (.ptr 1 0)),(32,cD (.str p0.name))],[(1,.box (cWrite p0))]⟩) (by kernel_rfl) (z00 2) ?_;refine At.one rfl (One.buildSlice (z:=[.d (.str (bs []))]) (cells:=[.d (.str p0.name)]) (xs:=List.map (z0b) ([p0.name]:List ByteArray)) rfl rfl rfl rfl (by kernel_rfl) rfl rfl (by kernel_rfl) rfl rfl rfl (by kernel_rfl) rfl ⟨⟨rfl,.refl _⟩,trivial⟩) ?_;refine At.l [33] ⟨[(33,cD (lD 1 z0b ([p0.name]:List ByteArray))),(1,.c (.ptr 1 0)),(32,cD (.str p0.name))],[(1,.box (cWrite p0))]⟩ ⟨⟨_,rfl,.c (.own rfl (zzg.2 rfl) (zz5 rfl) rfl (z1z (z0b) ([p0.name]:List ByteArray)))⟩,⟨_,rfl,.refl _⟩,⟨_,rfl,.refl _⟩,trivial⟩ ⟨⟨_,rfl,.refl _,(by simp)⟩,trivial⟩ ?_;obtain⟨r9,hr9,h⟩:=z05 h;refine At.cA [] [cD (lD 1 z0b ([p0.name]:List ByteArray))] (z5u hr9) (.cons (.refl _) .nil) ?_;refine At.sg 1 [1,35] [1] (z00 1) ?_;refine At.cs [35] h (fun h=>?_) (fun h=>?_)
     ·obtain⟨hc10,h⟩:=z09 h;refine At.sg 8 [2] [] (tN 4 (ai hc10 (z00 3))) ?_;refine At.done rfl ?_;exact⟨_,h,kr⟩
     ·refine At.sg 8 [2] [] (z00 2) ?_;refine At.done rfl ?_;exact⟨_,h,kr⟩
   ·refine Tri.skip ?_;refine Tri.sg [2] [] (z00 1) ?_;refine Tri.ret ?_;cases h;exact RetAt.k
theorem zaf {p0:Write}{q:Bool}(h:z51 p0=some q):
 Summ Try.prog 29 [.agg (cWrite p0)] [] (cD (.bool q)) []:=by
 refine Summ.i Try.func29 rfl [] fun w0 G0 V LL φ0=>?_;unfold z51 at h;refine Tri.sg [1] [1] (z00 2) ?_;refine z02 ?_;refine z04 ?_;refine At.sg 1 [3] [] (z00 1) ?_;obtain⟨r1,hr1,h⟩:=z05 h;refine At.cA [] [.agg (cWrite p0)] (z7y hr1) (.cons (.refl _) .nil) ?_;refine At.sg 2 [2] [] (z00 2) ?_;refine At.done rfl ?_;refine Tri.ret ?_;cases h;exact RetAt.k
theorem z1p {p0:List Write}{q:Int}(h:z0h p0=some q):
 Summ Try.prog 47 [cD (lD 4 z03 p0),cD (.fn 29 [])] [] (cD (dI q)) []:=by
 refine Summ.i Try.func47 rfl [] fun w0 G0 V LL φ0=>?_;unfold z0h at h;refine Tri.sg [0,1] [] (z00 1) ?_;refine z02 ?_;refine Tri.sg [0,1,7,8] [] (z00 3) ?_;refine Tri.ln 0 p0.length fun hlena2=>?_;refine z36 8 () (fun(x:Int) s=>RetAt Try.prog Try.f47 (cD (dI x)) [] s) (fun(a2:Unit)=>⟨[(0,cD (lD 4 z03 p0)),(1,cD (.fn 29 [])),(7,cD (dI (p0.length:Int)))],[]⟩) [8,0,1,7] [] [9,8,0,1,7] [] [0,1,7] [] [8,0,1,7] [] h hlena2 ?_ ?_ ?_
 ·intro i1 a2 c hii1 h;refine Tri.sg [0,1,5,7,8] [] (z00 2) ?_;refine z02 ?_;refine z04 ?_;refine At.sg 5 [0,1,5,7,8,11,15] [] (tN 3 (ai (show((0:Int)≤((i1:Nat):Int)∧((i1:Nat):Int)<(p0.length:Int))from⟨by omega,by omega⟩) (z00 1))) ?_;obtain⟨r4,hr4,h⟩:=z05 h;refine At.cA [] [.agg (cWrite (p0.getD i1 zzd))] (zaf hr4) (.cons (.refl _) .nil) ?_;refine At.done rfl ?_;refine z07 h (fun h=>?_) (fun h=>?_)
  ·refine Tri.sg [4] [] (z00 2) ?_;refine Tri.ret ?_;cases h;exact RetAt.k
  ·refine Tri.kp [8,0,1,7] [] ?_;refine Tri.skip ?_;cases h;exact kr
 ·intro a3 h;refine Tri.sg [4] [] (z00 1) ?_;refine Tri.ret ?_;cases h;exact RetAt.k
 ·exact fun x s hx hr=>by cases hx;exact hr
theorem z1m {p0:List Write}{q:Bool}(h:z0d p0=some q):
 Summ Try.prog 28 [cD (lD 4 z03 p0),cD (.fn 29 [])] [] (cD (.bool q)) []:=by
 refine Summ.i Try.func28 rfl [] fun w0 G0 V LL φ0=>?_;unfold z0d at h;refine Tri.sg [0,1] [] (z00 1) ?_;refine z02 ?_;refine z04 ?_;refine At.sg 2 [5,6] [] (z00 2) ?_;obtain⟨r1,hr1,h⟩:=z05 h;refine At.cA [] [cD (lD 4 z03 p0),cD (.fn 29 [])] (z1p hr1) (.cons (.refl _) (.cons (.refl _) .nil)) ?_;refine At.sg 2 [4] [] (z00 2) ?_;refine At.done rfl ?_;refine Tri.ret ?_;cases h;exact RetAt.k
theorem z57 {p0:ByteArray}{q:Bool}(h:z2l p0=some q):
 Summ Try.prog 50 [cD (.str p0)] [] (cD (.bool q)) []:=by
 refine Summ.i Try.func50 rfl [] fun w0 G0 V LL φ0=>?_;unfold z2l at h;refine Tri.sg [0] [] (z00 1) ?_;refine Tri.sg [2] [] (z00 4) ?_;refine Tri.ret ?_;cases h;exact RetAt.k
theorem z70 {p0:ByteArray}{p1:ByteArray}{q:Int}(h:z2u p0 p1=some q):
 Summ Try.prog 39 [cD (.str p0),cD (.str p1)] [] (cD (dI q)) []:=by
 refine Summ.i Try.func39 rfl [] fun w0 G0 V LL φ0=>?_;unfold z2u at h;refine Tri.sg [0,1] [] (z00 1) ?_;refine z02 ?_;refine z04 ?_;refine At.sg 1 [0,1,7] [] (z00 1) ?_;obtain⟨r1,hr1,h⟩:=z05 h;refine At.cA [] [cD (.str p0)] (z57 hr1) (.cons (.refl _) .nil) ?_;refine At.sg 1 [0,1,5] [] (z00 1) ?_;refine At.done rfl ?_;refine z02 ?_;refine z04 ?_;refine At.sg 1 [0,1,5,9] [] (z00 1) ?_;obtain⟨r2,hr2,h⟩:=z05 h;refine At.cA [] [cD (.str p1)] (z57 hr2) (.cons (.refl _) .nil) ?_;refine At.sg 1 [0,1,5,6] [] (z00 1) ?_;refine At.done rfl ?_;refine z02 ?_;refine Tri.sg [0,1,6,11] [] (z00 1) ?_;refine z07 h (fun h=>?_) (fun h=>?_)
 ·refine z02 ?_;refine Tri.sg [12] [] (z00 1) ?_;refine z07 h (fun h=>?_) (fun h=>?_)
  ·refine Tri.sg [4] [] (z00 1) ?_;refine Tri.ret ?_;cases h;exact RetAt.k
  ·refine Tri.skip ?_;refine Tri.sg [4] [] (z00 1) ?_;refine Tri.ret ?_;cases h;exact RetAt.k
 ·refine Tri.skip ?_;refine z02 ?_;refine Tri.sg [0,1,13] [] (z00 1) ?_;refine z07 h (fun h=>?_) (fun h=>?_)
  ·refine Tri.sg [4] [] (z00 1) ?_;refine Tri.ret ?_;cases h;exact RetAt.k
  ·refine Tri.skip ?_;refine z02 ?_;refine Tri.sg [0,1,16] [] (z00 3) ?_;refine z07 h (fun h=>?_) (fun h=>?_)
   ·refine Tri.sg [4] [] (z00 1) ?_;refine Tri.ret ?_;cases h;exact RetAt.k
   ·refine Tri.skip ?_;refine z02 ?_;refine Tri.sg [19] [] (z00 3) ?_;refine z07 h (fun h=>?_) (fun h=>?_)
    ·refine Tri.sg [4] [] (z00 1) ?_;refine Tri.ret ?_;cases h;exact RetAt.k
    ·refine Tri.skip ?_;refine Tri.sg [4] [] (z00 1) ?_;refine Tri.ret ?_;cases h;exact RetAt.k
theorem z1r {p0:File}{p1:ByteArray}{q:Int}(h:z16 p0 p1=some q):
 Summ Try.prog 38 [.agg (cFile p0),cD (.str p1)] [] (cD (dI q)) []:=by
 refine Summ.i Try.func38 rfl [] fun w0 G0 V LL φ0=>?_;unfold z16 at h;refine Tri.sg [1,2] [2] (z00 2) ?_;refine z02 ?_;refine z04 ?_;refine At.sg 3 [6,7] [] (z00 3) ?_;obtain⟨r1,hr1,h⟩:=z05 h;refine At.cA [] [cD (.str p0.name),cD (.str p1)] (z70 hr1) (.cons (.refl _) (.cons (.refl _) .nil)) ?_;refine At.sg 1 [4] [] (z00 1) ?_;refine At.done rfl ?_;refine Tri.ret ?_;cases h;exact RetAt.k
theorem z1x {fuel:Nat}{p0:List File}{p1:ByteArray}{q:Int×Bool}(h:z0e fuel p0 p1=some q):
 Summ Try.prog 37 [.c (wC 2 z01 p0),cD (.str p1),cD (.fn 38 [])] [] (.tup [(false,[.d (dI q.1)]),(false,[.d (.bool q.2)])]) []:=by
 refine Summ.i Try.func37 rfl [] fun w0 G0 V LL φ0=>?_;unfold z0e at h;refine Tri.sg [0,1,2] [] (z00 2) ?_;refine Tri.sg [0,1,2,8] [] (z00 3) ?_;refine Tri.sg [0,1,2,8,9,10] [] (z00 3) ?_;refine z02 ?_;refine zcm (0,(p0.length:Int)) (fun(x:Empty) s=>False) (fun(a1:Int×Int)=>⟨[(0,.c (wC 2 z01 p0)),(1,cD (.str p1)),(2,cD (.fn 38 [])),(8,cD (dI (p0.length:Int))),(9,cD (dI a1.1)),(10,cD (dI a1.2))],[]⟩) [0,1,2,8,9,10] [] h ?_ ?_ ?_
 ·intro a1 c h;refine z02 ?_;refine Tri.sg [0,1,2,8,9,10,17] [] (z00 3) ?_;refine z07 h (fun h=>?_) (fun h=>?_)
  ·refine Tri.skip ?_;refine z3b ?_;refine Tri.sg [0,1,2,8,9,10,11] [] (tN 4 (ai (show((0:Int)≤1)from(by decide:(0:Int)≤1)) (z00 2))) ?_;refine z02 ?_;refine z04 ?_;obtain⟨hc7,h⟩:=z09 h;refine At.sg 6 [0,1,2,8,9,10,11,24,28,29] [] (tN 3 (ai hc7 (z00 2))) ?_;obtain⟨r8,hr8,h⟩:=z05 h;refine At.cA [] [.agg (cFile (p0.getD ((zzi.wrap (shrOp .u64 (zzu.wrap (zzi.wrap (a1.1+a1.2))) 1)).toNat) zzd)),cD (.str p1)] (z1r hr8) (.cons (.refl _) (.cons (.refl _) .nil)) ?_;refine At.sg 1 [0,1,2,8,9,10,11,31] [] (z00 1) ?_;refine At.done rfl ?_;refine z07 h (fun h=>?_) (fun h=>?_)
   ·refine z04 ?_;refine At.sg 3 [0,1,2,8,9,10] [] (z00 3) ?_;refine At.done rfl ?_;cases h;exact kr
   ·refine z04 ?_;refine At.sg 2 [0,1,2,8,9,10] [] (z00 2) ?_;refine At.done rfl ?_;cases h;exact kr
  ·refine Tri.kp [0,1,2,8,9,10] [] ?_;refine Tri.exit ?_;cases h;exact⟨rfl,kr⟩
 ·intro a2 h;refine z0u (fun(a3:Bool)=>⟨[(6,cD (dI a2.1)),(7,cD (.bool a3))],[]⟩) h (fun a3 h=>?_) (fun j4 h=>?_)
  ·refine Tri.ret ?_;cases h;exact RetAt.k
  ·refine z04 ?_;refine At.sg 5 [0,1,2,9,35,39] [] (z00 5) ?_;refine At.cs [39] h (fun h=>?_) (fun h=>?_)
   ·obtain⟨hc5,h⟩:=z09 h;refine At.sg 6 [35,39,40,44,45] [] (tN 3 (ai hc5 (z00 2))) ?_;obtain⟨r6,hr6,h⟩:=z05 h;refine At.cA [] [.agg (cFile (p0.getD a2.1.toNat zzd)),cD (.str p1)] (z1r hr6) (.cons (.refl _) (.cons (.refl _) .nil)) ?_;refine At.sg 4 [6,7] [] (z00 4) ?_;refine At.done rfl ?_;exact⟨_,h,kr⟩
   ·refine At.sg 11 [6,7] [] (z00 3) ?_;refine At.done rfl ?_;exact⟨_,h,kr⟩
 ·exact fun x=>x.elim
theorem z17 {fuel:Nat}{p0:List File}{p1:ByteArray}{q:Int×Bool}(h:z0g fuel p0 p1=some q):
 Summ Try.prog 22 [.c (wC 2 z01 p0),cD (.str p1)] [] (.tup [(false,[.d (dI q.1)]),(false,[.d (.bool q.2)])]) []:=by
 refine Summ.i Try.func22 rfl [] fun w0 G0 V LL φ0=>?_;unfold z0g at h;refine Tri.sg [0,1] [] (z00 2) ?_;refine z02 ?_;refine z04 ?_;refine At.sg 2 [6,7] [] (z00 2) ?_;obtain⟨r1,hr1,h⟩:=z05 h;refine At.cA [] [.c (wC 2 z01 p0),cD (.str p1),cD (.fn 38 [])] (z1x hr1) (.cons (.refl _) (.cons (.refl _) (.cons (.refl _) .nil))) ?_;refine At.sg 4 [4,5] [] (z00 4) ?_;refine At.done rfl ?_;refine Tri.ret ?_;cases h;exact RetAt.k
theorem z42 {i j:Int}{l0 q:List File}(h:z1f i j l0=some q):
 Summ Try.prog 48 [.c (oC 5000 2 l0),cD (dI i),cD (dI j)] [(5000,vL 2 z01 l0)] (.c (oC 6000 2 q)) [(6000,vL 2 z01 q)]:=by
 refine Summ.i Try.func48 rfl [6000] fun w0 G0 V LL φ0=>?_;unfold z1f z9y at h;obtain⟨hc,h⟩:=z09 h;refine Tri.sg [0,1,2,6] [5000] (z00 1) ?_;refine z02 ?_;refine z04 ?_;refine At.sg 5 [0,1,2,8,9,10,12] [5000] (z00 5) ?_;refine At.one rfl (ze1 (e:=56) (k:=5000) (n:=l0.length) (es:=2) (l:=i) (hh:=j) (m:=(l0.length:Int)) rfl rfl rfl rfl rfl rfl rfl (by kernel_rfl) ⟨hc.1,hc.2.1,hc.2.2,Int.le_refl _⟩) ?_;refine At.done rfl ?_;refine z02 ?_;refine Tri.sg [0,1,2,16] [5000] (z00 3) ?_;refine Tri.cond (b:=decide (i=j)) rfl (fun hb=>?_) (fun hb=>?_)
 ·refine Tri.sg [6] [5000] (z00 2) ?_;refine Tri.keep [6] [5000] (s':=⟨[(6,.c (oC 5000 2 l0))],[(5000,vL 2 z01 l0)]⟩) (by kernel_rfl) ?_;refine Tri.rename 5000 6000 ⟨[(6,.c (oC 6000 2 l0))],[(6000,vL 2 z01 l0)]⟩ (by kernel_rfl) rfl rfl rfl ?_;refine Tri.ret ?_;have e:i=j:=of_decide_eq_true hb
  subst e;rw[List.take_append_drop]at h;cases h;exact RetAt.k
 ·refine Tri.skip ?_;refine Tri.sg [0,1,2,7] [5000] (z00 3) ?_;have e:i≠j:=of_decide_eq_false hb
  have hn:0<l0.length:=by omega
  refine Tri.keep [0,1,2,7] [5000] (s':=⟨[(0,.c (oC 5000 2 l0)),(1,cD (dI i)),(2,cD (dI j)),(7,cD (dI (l0.length:Int)))],[(5000,vL 2 z01 l0)]⟩) (by kernel_rfl) ?_;refine Tri.loc (k:=5000) rfl rfl hn fun L hL hcap=>?_;refine Tri.toRaw (t:=0) (k:=5000) rfl rfl rfl hn hL ?_;refine Tri.keep [0,1,2,7] [5000] (s':=⟨[(0,.c (.raw (.slice (some ⟨L.blk,L.off,none⟩) l0.length L.cap))),(1,cD (dI i)),(2,cD (dI j)),(7,cD (dI (l0.length:Int)))],[(5000,vL 2 z01 l0)]⟩) (by kernel_rfl) ?_;obtain⟨A2,hA2⟩: ∃A2:Option Addr,A2=if L.cap=j.toNat then some ⟨L.blk,L.off,none⟩else some ⟨L.blk,L.off+j.toNat*2,none⟩:=⟨_,rfl⟩;have hjn:j.toNat≤l0.length:=by omega
  have hm2:i.toNat+(l0.length-j.toNat)≤l0.length:=by omega
  refine z02 ?_;refine Tri.dS ⟨[(0,.c (.raw (.slice (some ⟨L.blk,L.off,none⟩) (i.toNat+(l0.length-j.toNat)) L.cap))),(7,cD (dI (l0.length:Int)))],[(5000,.vec 2 l0.length (fun x=>if i.toNat≤x∧x<i.toNat+(l0.length-j.toNat)then(fun i=>z01 (l0.getD i zzd)) (j.toNat+(x-i.toNat))else(fun i=>z01 (l0.getD i zzd)) x))]⟩ [.a [0] [],.a [1] [],.m ⟨[(20,.c (.raw (.slice (some ⟨L.blk,L.off,none⟩) l0.length L.cap))),(21,cD (dI i))],[]⟩ ⟨[(22,.c (.raw (.slice (some ⟨L.blk,L.off,none⟩) i.toNat L.cap)))],[]⟩ [] [] [],.a [0] [],.a [2] [],.m ⟨[(23,.c (.raw (.slice (some ⟨L.blk,L.off,none⟩) l0.length L.cap))),(24,cD (dI j))],[]⟩ ⟨[(25,.c (.raw (.slice A2 (l0.length-j.toNat) (L.cap-j.toNat))))],[]⟩ [] [] [],.m ⟨[(22,.c (.raw (.slice (some ⟨L.blk,L.off,none⟩) i.toNat L.cap))),(25,.c (.raw (.slice A2 (l0.length-j.toNat) (L.cap-j.toNat))))],[(5000,vL 2 z01 l0)]⟩ ⟨[(26,.c (.raw (.slice (some ⟨L.blk,L.off,none⟩) (i.toNat+(l0.length-j.toNat)) L.cap)))],[(5000,.vec 2 l0.length (fun x=>if i.toNat≤x∧x<i.toNat+(l0.length-j.toNat)then(fun i=>z01 (l0.getD i zzd)) (j.toNat+(x-i.toNat))else(fun i=>z01 (l0.getD i zzd)) x))]⟩ [] [] [],.a [26] []] [0,7] [5000] (z00 5) (.a (.a (.m ?_ (.a (.a (.m ?_ (.m ?_ (.a .z)))))))) ?_
  ·exact DOk.one fun r hr=>z27 (es:=2) (e:=56) (nn:=l0.length) (l:=0) (hh:=i) rfl (by kernel_rfl) rfl rfl (by kernel_rfl) (by kernel_rfl) rfl (by kernel_rfl) ⟨Int.le_refl _,hc.1,by omega⟩ hcap (.inl rfl) (by split<;>simp[Addr.add_mid]) (by simp) (by simp)
  ·exact DOk.one fun r hr=>z27 (es:=2) (e:=56) (nn:=l0.length) (l:=j) (hh:=(l0.length:Int)) rfl (by kernel_rfl) rfl rfl (by kernel_rfl) (by kernel_rfl) rfl (by kernel_rfl) ⟨by omega,hc.2.2,Int.le_refl _⟩ hcap (.inl rfl) (by rw[hA2];simp only[Option.map_some,Addr.add_mid]) (by simp) rfl
  ·exact DOk.one fun r hr=>ze0 (k:=5000) (e:=56) (q:=j.toNat) (N:=l0.length) (L:=L) rfl hL rfl (by kernel_rfl) rfl rfl (.of 56 32 [.d (.str (bs [])),.d (.str (bs []))] (by kernel_rfl) (by kernel_rfl) (by kernel_rfl) (by kernel_rfl) rfl (by kernel_rfl) rfl) rfl hn rfl rfl (fun h=>by rw[hA2,if_neg (by omega)]) (by omega) hm2
  refine z02 ?_;refine z04 ?_;refine At.sg 2 [0,7,27,28] [5000] (z00 2) ?_;refine At.one rfl (zgf rfl rfl rfl rfl ⟨_,rfl⟩ rfl) ?_;refine At.sg 1 [0,27,29,30] [5000] (z00 1) ?_;obtain⟨A3,hA3⟩: ∃A3:Option Addr,A3=if L.cap=(i.toNat+(l0.length-j.toNat))then some ⟨L.blk,L.off,none⟩else some ⟨L.blk,L.off+(i.toNat+(l0.length-j.toNat))*2,none⟩:=⟨_,rfl⟩;refine At.one rfl (z27 (es:=2) (e:=56) (A':=A3) (nn:=l0.length) (l:=(((i.toNat+(l0.length-j.toNat)):Nat):Int)) (hh:=(l0.length:Int)) rfl rfl rfl rfl (by kernel_rfl) (by kernel_rfl) rfl (by kernel_rfl) ⟨by omega,by omega,Int.le_refl _⟩ hcap (.inr rfl) (by rw[hA3];simp only[Option.map_some,Addr.add_mid,zz9]) rfl rfl) ?_;refine At.one rfl (zf0 (k:=5000) (e:=56) (es:=2) (N':=(i.toNat+(l0.length-j.toNat))) (p:=(i.toNat+(l0.length-j.toNat))) (z:=[.d (.str (bs [])),.d (.str (bs []))]) (L:=L) rfl hL rfl rfl rfl (by kernel_rfl) (by kernel_rfl) rfl rfl hn rfl (fun h=>by rw[hA3,if_neg (by simp only[zz9]at h;omega)]) (by simp only[zz9];omega) (zzc _)) ?_;refine At.done rfl ?_;refine Tri.keep [0] [5000] (s':=⟨[(0,.c (.raw (.slice (some ⟨L.blk,L.off,none⟩) (i.toNat+(l0.length-j.toNat)) L.cap)))],[(5000,.vec 2 (i.toNat+(l0.length-j.toNat)) (fun x=>if i.toNat≤x∧x<i.toNat+(l0.length-j.toNat)then(fun i=>z01 (l0.getD i zzd)) (j.toNat+(x-i.toNat))else(fun i=>z01 (l0.getD i zzd)) x))]⟩) (by kernel_rfl) ?_;refine Tri.unRaw 2 (t:=0) (k:=5000) rfl rfl hL rfl (by omega) ?_;have hlen:(l0.take i.toNat++l0.drop j.toNat).length=(i.toNat+(l0.length-j.toNat)):=by rw[zz6,zzh,List.length_drop];omega
  refine Tri.l [] ⟨[(0,.c (oC 5000 2 (l0.take i.toNat++l0.drop j.toNat)))],[(5000,vL 2 z01 (l0.take i.toNat++l0.drop j.toNat))]⟩ ⟨⟨_,rfl,by unfold oC;rw[hlen];exact .refl _⟩,trivial⟩ ⟨⟨_,rfl,.vec hlen (fun x hx=>?_),(by simp)⟩,trivial⟩ ?_
  ·exact zhi z01 l0 (by omega) hjn hx
  refine Tri.sg [6] [5000] (z00 2) ?_;refine Tri.keep [6] [5000] (s':=⟨[(6,.c (oC 5000 2 (l0.take i.toNat++l0.drop j.toNat)))],[(5000,vL 2 z01 (l0.take i.toNat++l0.drop j.toNat))]⟩) (by kernel_rfl) ?_;refine Tri.rename 5000 6000 ⟨[(6,.c (oC 6000 2 (l0.take i.toNat++l0.drop j.toNat)))],[(6000,vL 2 z01 (l0.take i.toNat++l0.drop j.toNat))]⟩ (by kernel_rfl) rfl rfl rfl ?_;refine Tri.ret ?_;cases h;exact RetAt.k
theorem z5a {fuel:Nat}{p1:ByteArray}{l0:List File}{q:File×Bool×(List File)}(h:z0s fuel p1 l0=some q):
 Summ Try.prog 35 [.c (.ptr 5000 0),cD (.str p1)] [(5000,.box [oC 5100 2 l0]),(5100,vL 2 z01 l0)] (.tup [(true,[.d (.str q.1.name),.d (.str q.1.data)]),(false,[.d (.bool q.2.1)])]) [(5150,vL 2 z01 q.2.2),(5000,.box [oC 5150 2 q.2.2])]:=by
 refine Summ.i Try.func35 rfl [5150] fun w0 G0 V LL φ0=>?_;unfold z0s at h;refine Tri.rename 5100 5150 ⟨[(0,.c (.ptr 5000 0)),(1,cD (.str p1))],[(5000,.box [oC 5150 2 l0]),(5150,vL 2 z01 l0)]⟩ (by kernel_rfl) rfl rfl rfl ?_;refine Tri.sg [0,1,4] [4,5000,5150] (z00 2) ?_;refine z02 ?_;refine z04 ?_;refine At.seg 4 [0,4,12,13] [4,5000,5150] (s':=⟨[(0,.c (.ptr 5000 0)),(4,.c (.ptr 4 0)),(12,.c (oC 5150 2 l0)),(13,cD (.str p1))],[(4,.box [.d (.str (bs [])),.d (.str (bs []))]),(5000,.box [oC 5150 2 l0]),(5150,vL 2 z01 l0)]⟩) (by kernel_rfl) (z00 4) ?_;obtain⟨r1,hr1,h⟩:=z05 h;refine At.cA [] [.c (oC 5150 2 l0),cD (.str p1)] (z17 hr1) (.cons (AVArg.view (z01) l0 rfl) (.cons (.refl _) .nil)) ?_;refine At.sg 5 [0,4,6,7] [4,5000,5150] (z00 5) ?_;refine At.done rfl ?_;refine z02 ?_;refine Tri.sg [0,4,6,18] [4,5000,5150] (z00 2) ?_;refine z07 h (fun h=>?_) (fun h=>?_)
 ·refine Tri.sg [4,5] [4,5000,5150] (z00 3) ?_;refine Tri.ret ?_;cases h;exact RetAt.k
 ·refine Tri.skip ?_;obtain⟨hc2,h⟩:=z09 h;obtain⟨hc3,h⟩:=z09 h;refine Tri.sg [0,4,6,8] [4,8,5000,5150] (tN 4 (ai hc2 (ai hc3 (z00 2)))) ?_;refine z02 ?_;refine z04 ?_;refine At.seg 7 [4,8,26,29,30,32] [4,8,5000,5150] (s':=⟨[(4,.c (.ptr 4 0)),(8,.c (.ptr 8 0)),(26,.c (.ptr 5000 0)),(29,.c (oC 5150 2 l0)),(30,cD (dI r1.1)),(32,cD (dI (zzi.wrap (r1.1+1))))],[(4,.box [.d (.str (bs [])),.d (.str (bs []))]),(8,.box (cFile (l0.getD (0+r1.1.toNat) zzd))),(5000,.box [oC 5150 2 l0]),(5150,vL 2 z01 l0)]⟩) (by kernel_rfl) (z00 7) ?_;obtain⟨r4,hr4,h⟩:=z05 h;refine At.one rfl (z6h (k:=5150) (d:=33) (v:=vL 2 z01 r4) (av:= .c (oC 5150 2 r4)) (nf:=0) (caps:=[]) (xs:=[.c (oC 5150 2 l0),cD (dI r1.1),cD (dI (zzi.wrap (r1.1+1)))]) [(5000,5150),(6000,5150)] (z42 hr4) rfl rfl (by kernel_rfl) rfl (by kernel_rfl) (by kernel_rfl) (.ren rfl rfl (.flat (.refl _) rfl rfl (.flat (.refl _) rfl rfl .nil))) ⟨⟨by kernel_rfl,by kernel_rfl⟩,trivial⟩ (by kernel_rfl) (by kernel_rfl) (by kernel_rfl) (by kernel_rfl) (by kernel_rfl) (by kernel_rfl) (by kernel_rfl) (by first|kernel_rfl|(show _=_;kernel_rfl)) (by first|kernel_rfl|(show _=_;kernel_rfl))) ?_;refine At.sg 2 [4,8] [4,8,5000,5150] (z00 2) ?_;refine At.done rfl ?_;refine Tri.sg [4,5] [4,5000,5150] (z00 3) ?_;refine Tri.ret ?_;cases h;exact RetAt.k
theorem z3k {i:Int}{v l0 q:List File}(h:z24 i v l0=some q):
 Summ Try.prog 49 [.c (oC 5000 2 l0),cD (dI i),.c (wC 2 z01 v)] [(5000,vL 2 z01 l0)] (.c (oC 6000 2 q)) [(6000,vL 2 z01 q)]:=by
 refine Summ.i Try.func49 rfl [5050,6000] fun w0 G0 V LL φ0=>?_;unfold z24 z9z at h;obtain⟨hc,h⟩:=z09 h;have hv:=hc.2.2.1
 have hcS:(0:Int)≤i∧i≤(l0.length:Int)∧(l0.length:Int)≤(l0.length:Int):=⟨hc.1,hc.2.1,Int.le_refl _⟩;by_cases hin:i=(l0.length:Int)
 ·subst hin;have hc2:l0.length+v.length≤274877906944:=hc.2.2.2
  rw[zz9,List.take_length,List.drop_length,List.append_nil]at h;refine Tri.rename 5000 5050 ⟨[(0,.c (oC 5050 2 l0)),(1,cD (dI (l0.length:Int))),(2,.c (wC 2 z01 v))],[(5050,vL 2 z01 l0)]⟩ (by kernel_rfl) rfl rfl rfl ?_;refine Tri.sg [0,1,2] [5050] (z00 1) ?_;refine Tri.sg [0,1,2] [5050] (tN 2 (ai hcS trivial)) ?_;refine Tri.sg [0,1,2,7] [5050] (z00 3) ?_;refine z02 ?_;refine Tri.sg [0,1,2,7,16] [5050] (z00 2) ?_;refine Tri.cond (b:=decide ((v.length:Int)=0)) (by kernel_rfl) (fun hb=>absurd (of_decide_eq_true hb) (by omega)) (fun hb=>?_);refine Tri.skip ?_;refine Tri.sg [0,1,2,7,8] [5050] (z00 3) ?_;refine z02 ?_;refine Tri.sg [0,1,2,7,8,22] [5050] (z00 3) ?_;refine Tri.cond (b:=decide ((l0.length:Int)=(l0.length:Int))) (by kernel_rfl) (fun hb=>?_) (fun hb=>absurd rfl (of_decide_eq_false hb));refine z02 ?_;refine z04 ?_;refine At.seg 2 [23,24] [5050] (s':=⟨[(23,.c (oC 5050 2 l0)),(24,.c (wC 2 z01 v))],[(5050,vL 2 z01 l0)]⟩) (by kernel_rfl) (z00 2) ?_;refine At.one rfl (z5h (e:=56) (es:=2) (z01) l0 v rfl rfl rfl rfl rfl (.of 56 32 [.d (.str (bs [])),.d (.str (bs []))] (by kernel_rfl) (by kernel_rfl) (by kernel_rfl) (by kernel_rfl) rfl (by kernel_rfl) rfl) rfl rfl rfl (.view rfl (fun _ _=>rfl)) hc2) ?_;refine At.sg 1 [6] [5050] (z00 1) ?_;refine At.done rfl ?_;refine Tri.keep [6] [5050] (s':=⟨[(6,.c (oC 5050 2 (l0++v)))],[(5050,vL 2 z01 (l0++v))]⟩) (by kernel_rfl) ?_;refine Tri.rename 5050 6000 ⟨[(6,.c (oC 6000 2 (l0++v)))],[(6000,vL 2 z01 (l0++v))]⟩ (by kernel_rfl) rfl rfl rfl ?_;refine Tri.ret ?_;cases h;exact RetAt.k
 ·have hn:0<l0.length:=by omega
  have hil:i.toNat<l0.length:=by omega
  refine Tri.sg [0,1,2] [5000] (z00 1) ?_;refine Tri.sg [0,1,2] [5000] (tN 2 (ai hcS trivial)) ?_;refine Tri.sg [0,1,2,7] [5000] (z00 3) ?_;refine z02 ?_;refine Tri.sg [0,1,2,7,16] [5000] (z00 2) ?_;refine Tri.cond (b:=decide ((v.length:Int)=0)) (by kernel_rfl) (fun hb=>absurd (of_decide_eq_true hb) (by omega)) (fun hb=>?_);refine Tri.skip ?_;refine Tri.sg [0,1,2,7,8] [5000] (z00 3) ?_;refine z02 ?_;refine Tri.sg [0,1,2,7,8,22] [5000] (z00 3) ?_;refine Tri.cond (b:=decide (i=(l0.length:Int))) (by kernel_rfl) (fun hb=>absurd (of_decide_eq_true hb) hin) (fun hb=>?_);refine Tri.skip ?_;refine Tri.keep [0,1,2,7,8] [5000] (s':=⟨[(0,.c (oC 5000 2 l0)),(1,cD (dI i)),(2,.c (wC 2 z01 v)),(7,cD (dI (v.length:Int))),(8,cD (dI (l0.length:Int)))],[(5000,vL 2 z01 l0)]⟩) (by kernel_rfl) ?_;refine Tri.loc (k:=5000) rfl rfl hn fun L hL hcap=>?_;refine Tri.toRaw (t:=0) (k:=5000) rfl rfl rfl hn hL ?_;refine Tri.keep [0,1,2,7,8] [5000] (s':=⟨[(0,.c (.raw (.slice (some ⟨L.blk,L.off,none⟩) l0.length L.cap))),(1,cD (dI i)),(2,.c (wC 2 z01 v)),(7,cD (dI (v.length:Int))),(8,cD (dI (l0.length:Int)))],[(5000,vL 2 z01 l0)]⟩) (by kernel_rfl) ?_;have hw1:zzi.wrap ((l0.length:Int)+(v.length:Int))=((l0.length+1:Nat):Int):=by rw[hv,z0w (by omega) (by omega)];omega
  have hw2:zzi.wrap (i+(v.length:Int))=((i.toNat+1:Nat):Int):=by rw[hv,z0w (by omega) (by omega)];omega
  have hw3:zzi.wrap (((l0.length+1:Nat):Int)-i)=((l0.length+1-i.toNat:Nat):Int):=by rw[z0w (by omega) (by omega)];omega
  refine z02 ?_;refine z02 ?_;refine z04 ?_;refine At.sg 4 [0,1,2,7,8,28,29] [5000] (z00 4) ?_;refine At.one rfl (zge rfl rfl rfl rfl ⟨_,rfl⟩ rfl) ?_;refine At.sg 1 [0,1,2,7,8,31] [5000] (z00 1) ?_;refine At.done rfl ?_;refine Tri.cond (b:=decide ((L.cap:Int)<zzi.wrap ((l0.length:Int)+(v.length:Int)))) (by kernel_rfl) (fun hb=>?_) (fun hb=>?_)
  ·have hgr:L.cap<l0.length+1:=by have:=of_decide_eq_true hb;rw[hw1]at this;omega
   obtain⟨r,hr⟩: ∃r,r=l0.length+1-i.toNat:=⟨_,rfl⟩;refine z02 ?_;refine z04 ?_;refine At.sg 2 [0,1,2,7,8,32,33] [5000] (z00 2) ?_;refine At.one rfl (z27 (es:=2) (e:=56) (A':=some ⟨L.blk,L.off,none⟩) (h':=i.toNat) (c':=L.cap) (nn:=l0.length) (l:=0) (hh:=i) rfl rfl rfl rfl (by kernel_rfl) (by kernel_rfl) rfl (by kernel_rfl) ⟨Int.le_refl _,hc.1,hc.2.1⟩ hcap (.inl rfl) (by split<;>simp[Addr.add_mid]) (by simp) (by simp)) ?_;refine At.sg 5 [0,1,2,7,34,39] [5000] (z00 5) ?_;refine At.keep [0,1,2,7,34,39] [5000] (s':=⟨[(0,.c (.raw (.slice (some ⟨L.blk,L.off,none⟩) l0.length L.cap))),(1,cD (dI i)),(2,.c (wC 2 z01 v)),(7,cD (dI (v.length:Int))),(34,.c (.raw (.slice (some ⟨L.blk,L.off,none⟩) i.toNat L.cap))),(39,cD (dI (zzi.wrap (zzi.wrap ((l0.length:Int)+(v.length:Int))-i))))],[(5000,vL 2 z01 l0)]⟩) (by kernel_rfl) ?_;refine At.eqS (s':=⟨[(0,.c (.raw (.slice (some ⟨L.blk,L.off,none⟩) l0.length L.cap))),(1,cD (dI i)),(2,.c (wC 2 z01 v)),(7,cD (dI (v.length:Int))),(34,.c (.raw (.slice (some ⟨L.blk,L.off,none⟩) i.toNat L.cap))),(39,cD (dI ((r:Nat):Int)))],[(5000,vL 2 z01 l0)]⟩) (by rw[hw1,hw3,←hr]) ?_;refine At.one rfl (zci (k:=5000) (e:=56) (es:=2) (bs:=32) (r:=r) (z:=[.d (.str (bs [])),.d (.str (bs []))]) (L:=L) rfl hL rfl rfl rfl rfl (by kernel_rfl) rfl rfl (by kernel_rfl) (by kernel_rfl) rfl rfl rfl (by kernel_rfl) rfl rfl hn rfl rfl (by omega) (by omega) (by omega) (by have:lim=274877906944:=rfl;omega)) ?_;refine At.sg 1 [0,1,2,7,9] [5000,40] (z00 1) ?_;refine At.done rfl ?_;refine Tri.keep [0,1,2,7,9] [5000,40] (s':=⟨[(0,.c (.raw (.slice (some ⟨L.blk,L.off,none⟩) l0.length L.cap))),(1,cD (dI i)),(2,.c (wC 2 z01 v)),(7,cD (dI (v.length:Int))),(9,.c (.own 40 2 0 (i.toNat+r)))],[(5000,vL 2 z01 l0),(40,.vec 2 i.toNat (fun i=>z01 (l0.getD i zzd)))]⟩) (by kernel_rfl) ?_;have hcA:(0:Int)≤i∧i≤((i.toNat+r:Nat):Int)∧((i.toNat+r:Nat):Int)≤((i.toNat+r:Nat):Int):=⟨hc.1,by omega,Int.le_refl _⟩
   refine z02 ?_;refine z04 ?_;refine At.sg 2 [0,1,2,7,9,41,42] [5000,40] (z00 2) ?_;refine At.one rfl (z9j (k:=40) (es:=2) (p0:=0+i.toNat) (n0:=((i.toNat+r:Nat):Int).toNat-i.toNat) (p':=i.toNat) (n':=r) (c:=bndOk (i.toNat+r) i ((i.toNat+r:Nat):Int) none) rfl rfl rfl rfl (by kernel_rfl) hcA (by omega) (by omega)) ?_;refine At.sg 1 [0,1,7,9,43,44] [5000,40] (z00 1) ?_;refine At.one rfl (zbh (es:=2) (e:=56) (p:=i.toNat) (dn:=r) (sn:=v.length) (m:=v.length) (N':=i.toNat+1) (get2:=(fun x=>if x<i.toNat then z01 (l0.getD x zzd)else z01 (v.getD (x-i.toNat) zzd))) (get':=fun i=>z01 (v.getD i zzd)) rfl rfl rfl rfl (by kernel_rfl) rfl rfl (by omega) (Nat.min_eq_left (by omega)) (SrcOf.g rfl (.view rfl (fun _ _=>rfl)) rfl) (by unfold maxN;omega) (by omega) (fun x hx=>?_)) ?_
   ·by_cases hxi:x<i.toNat
    ·exact .inr ⟨.inl hxi,hxi,if_pos hxi⟩
    ·exact .inl ⟨by omega,by omega,if_neg hxi⟩
   refine At.done rfl ?_;refine Tri.keep [0,1,7,9] [5000,40] (s':=⟨[(0,.c (.raw (.slice (some ⟨L.blk,L.off,none⟩) l0.length L.cap))),(1,cD (dI i)),(7,cD (dI (v.length:Int))),(9,.c (.own 40 2 0 (i.toNat+r)))],[(5000,vL 2 z01 l0),(40,.vec 2 (i.toNat+1) (fun x=>if x<i.toNat then z01 (l0.getD x zzd)else z01 (v.getD (x-i.toNat) zzd)))]⟩) (by kernel_rfl) ?_;obtain⟨A2,hA2⟩: ∃A2:Option Addr,A2=if L.cap=i.toNat then some ⟨L.blk,L.off,none⟩else some ⟨L.blk,L.off+i.toNat*2,none⟩:=⟨_,rfl⟩;refine z02 ?_;refine Tri.dS ⟨[(9,.c (.own 40 2 0 (i.toNat+r)))],[(40,.vec 2 (l0.length+1) (fun x=>if x<i.toNat then z01 (l0.getD x zzd)else if x<i.toNat+1 then z01 (v.getD (x-i.toNat) zzd)else z01 (l0.getD (x-1) zzd)))]⟩ [.a [9] [],.a [1] [],.a [7] [],.a [47,48] [],.m ⟨[(46,.c (.own 40 2 0 (i.toNat+r))),(49,cD (dI (zzi.wrap (i+(v.length:Int)))))],[]⟩ ⟨[(50,.c (.own 40 2 (i.toNat+1) (l0.length-i.toNat)))],[]⟩ [] [] [],.a [0] [],.a [1] [],.m ⟨[(51,.c (.raw (.slice (some ⟨L.blk,L.off,none⟩) l0.length L.cap))),(52,cD (dI i))],[]⟩ ⟨[(53,.c (.raw (.slice A2 (l0.length-i.toNat) (L.cap-i.toNat))))],[]⟩ [] [] [],.m ⟨[(50,.c (.own 40 2 (i.toNat+1) (l0.length-i.toNat))),(53,.c (.raw (.slice A2 (l0.length-i.toNat) (L.cap-i.toNat))))],[(5000,vL 2 z01 l0),(40,.vec 2 (i.toNat+1) (fun x=>if x<i.toNat then z01 (l0.getD x zzd)else z01 (v.getD (x-i.toNat) zzd)))]⟩ ⟨[(54,cD (dI ((l0.length-i.toNat:Nat):Int)))],[(40,.vec 2 (l0.length+1) (fun x=>if x<i.toNat then z01 (l0.getD x zzd)else if x<i.toNat+1 then z01 (v.getD (x-i.toNat) zzd)else z01 (l0.getD (x-1) zzd)))]⟩ [] [] []] [9] [40] (z00 6) (.a (.a (.a (.a (.m ?_ (.a (.a (.m ?_ (.m ?_ .z))))))))) ?_
   ·exact DOk.one fun r_ hr_=>z9j (k:=40) (es:=2) (p0:=0+(zzi.wrap (i+(v.length:Int))).toNat) (n0:=((i.toNat+r:Nat):Int).toNat-(zzi.wrap (i+(v.length:Int))).toNat) (c:=bndOk (i.toNat+r) (zzi.wrap (i+(v.length:Int))) ((i.toNat+r:Nat):Int) none) rfl (by kernel_rfl) rfl rfl (by kernel_rfl) (by rw[hw2];exact⟨by omega,by omega,Int.le_refl _⟩) (by rw[hw2];omega) (by rw[hw2];omega)
   ·exact DOk.one fun r_ hr_=>z27 (es:=2) (e:=56) (nn:=l0.length) (l:=i) (hh:=(l0.length:Int)) rfl (by kernel_rfl) rfl rfl (by kernel_rfl) (by kernel_rfl) rfl (by kernel_rfl) ⟨hc.1,hc.2.1,Int.le_refl _⟩ hcap (.inl rfl) (by rw[hA2];simp only[Option.map_some,Addr.add_mid]) (by simp) rfl
   ·exact DOk.one fun r_ hr_=>zbh (k:=40) (es:=2) (e:=56) (p:=i.toNat+1) (dn:=l0.length-i.toNat) (sn:=l0.length-i.toNat) (m:=l0.length-i.toNat) (N':=l0.length+1) (get2:=(fun x=>if x<i.toNat then z01 (l0.getD x zzd)else if x<i.toNat+1 then z01 (v.getD (x-i.toNat) zzd)else z01 (l0.getD (x-1) zzd))) (get':=fun x=>(fun i=>z01 (l0.getD i zzd)) (i.toNat+x)) rfl (by kernel_rfl) rfl (by kernel_rfl) (by kernel_rfl) rfl rfl (by omega) (Nat.min_self _) (zg4 (k:=5000) (q:=i.toNat) (L:=L) (N:=l0.length) (m:=l0.length-i.toNat) (sn:=l0.length-i.toNat) (c:=L.cap-i.toNat) (A:=A2) (es:=2) (get:=fun i=>z01 (l0.getD i zzd)) rfl hL rfl hn rfl (by omega) (fun h=>by rw[hA2,if_neg (by omega)])) (by unfold maxN;omega) (by omega) (fun x hx=>by
     by_cases hxi:x<i.toNat+1
     ·refine .inr ⟨.inl hxi,hxi,?_⟩;by_cases hx2:x<i.toNat
      ·simp only[if_pos hx2]
      ·simp only[if_neg hx2,if_pos hxi]
     ·refine .inl ⟨by omega,by omega,?_⟩;simp only[if_neg hxi,if_neg (show ¬x<i.toNat by omega)];rw[show i.toNat+(x-(i.toNat+1))=x-1 by omega])
   have hQ:(l0.take i.toNat++v++l0.drop i.toNat).length=l0.length+1:=by rw[zen l0 v (by omega),hv]
   refine Tri.l [] ⟨[(9,.c (oC 40 2 (l0.take i.toNat++v++l0.drop i.toNat)))],[(40,vL 2 z01 (l0.take i.toNat++v++l0.drop i.toNat))]⟩ ⟨⟨_,rfl,by unfold oC;rw[hQ,show l0.length+1=i.toNat+r by omega];exact .refl _⟩,trivial⟩ ⟨⟨_,rfl,.vec hQ (fun x hx=>zem z01 l0 v (by omega) hv),(by simp)⟩,trivial⟩ ?_;refine Tri.sg [6] [40] (z00 2) ?_;refine Tri.keep [6] [40] (s':=⟨[(6,.c (oC 40 2 (l0.take i.toNat++v++l0.drop i.toNat)))],[(40,vL 2 z01 (l0.take i.toNat++v++l0.drop i.toNat))]⟩) (by kernel_rfl) ?_;refine Tri.rename 40 6000 ⟨[(6,.c (oC 6000 2 (l0.take i.toNat++v++l0.drop i.toNat)))],[(6000,vL 2 z01 (l0.take i.toNat++v++l0.drop i.toNat))]⟩ (by kernel_rfl) rfl rfl rfl ?_;refine Tri.ret ?_;cases h;exact RetAt.k
  ·have hle:l0.length+1≤L.cap:=by have:=of_decide_eq_false hb;rw[hw1]at this;omega
   refine Tri.skip ?_;refine z02 ?_;refine z04 ?_;refine At.sg 4 [1,2,7,56,59] [5000] (z00 4) ?_;refine At.keep [1,2,7,56,59] [5000] (s':=⟨[(1,cD (dI i)),(2,.c (wC 2 z01 v)),(7,cD (dI (v.length:Int))),(56,.c (.raw (.slice (some ⟨L.blk,L.off,none⟩) l0.length L.cap))),(59,cD (dI (zzi.wrap ((l0.length:Int)+(v.length:Int)))))],[(5000,vL 2 z01 l0)]⟩) (by kernel_rfl) ?_;refine At.eqS (s':=⟨[(1,cD (dI i)),(2,.c (wC 2 z01 v)),(7,cD (dI (v.length:Int))),(56,.c (.raw (.slice (some ⟨L.blk,L.off,none⟩) l0.length L.cap))),(59,cD (dI (((l0.length+1):Nat):Int)))],[(5000,vL 2 z01 l0)]⟩) (by rw[hw1]) ?_;refine At.one rfl (z27 (es:=2) (e:=56) (A':=some ⟨L.blk,L.off,none⟩) (h':=(l0.length+1)) (c':=L.cap) (nn:=L.cap) (l:=0) (hh:=(((l0.length+1):Nat):Int)) rfl rfl rfl rfl (by kernel_rfl) (by kernel_rfl) rfl (by kernel_rfl) ⟨Int.le_refl _,by omega,by omega⟩ (zzc _) (.inr rfl) (by split<;>simp[Addr.add_mid]) (by simp) (by simp)) ?_;refine At.sg 1 [0,1,2,7] [5000] (z00 1) ?_;refine At.done rfl ?_;refine Tri.keep [0,1,2,7] [5000] (s':=⟨[(0,.c (.raw (.slice (some ⟨L.blk,L.off,none⟩) (l0.length+1) L.cap))),(1,cD (dI i)),(2,.c (wC 2 z01 v)),(7,cD (dI (v.length:Int)))],[(5000,vL 2 z01 l0)]⟩) (by kernel_rfl) ?_;refine z02 ?_;refine z02 ?_;refine z04 ?_;refine At.sg 5 [0,1,2,7,61,62,65] [5000] (z00 5) ?_;refine At.keep [0,1,2,7,61,62,65] [5000] (s':=⟨[(0,.c (.raw (.slice (some ⟨L.blk,L.off,none⟩) (l0.length+1) L.cap))),(1,cD (dI i)),(2,.c (wC 2 z01 v)),(7,cD (dI (v.length:Int))),(61,.c (wC 2 z01 v)),(62,.c (.raw (.slice (some ⟨L.blk,L.off,none⟩) (l0.length+1) L.cap))),(65,cD (dI (zzi.wrap (i+(v.length:Int)))))],[(5000,vL 2 z01 l0)]⟩) (by kernel_rfl) ?_;refine At.eqS (s':=⟨[(0,.c (.raw (.slice (some ⟨L.blk,L.off,none⟩) (l0.length+1) L.cap))),(1,cD (dI i)),(2,.c (wC 2 z01 v)),(7,cD (dI (v.length:Int))),(61,.c (wC 2 z01 v)),(62,.c (.raw (.slice (some ⟨L.blk,L.off,none⟩) (l0.length+1) L.cap))),(65,cD (dI ((i.toNat+1:Nat):Int)))],[(5000,vL 2 z01 l0)]⟩) (by rw[hw2]) ?_;refine At.one rfl (z27 (es:=2) (e:=56) (A':=(some ⟨L.blk,L.off+(i.toNat+1)*2,none⟩)) (h':=l0.length-i.toNat) (c':=L.cap-(i.toNat+1)) (nn:=(l0.length+1)) (l:=((i.toNat+1:Nat):Int)) (hh:=(((l0.length+1):Nat):Int)) rfl rfl rfl rfl (by kernel_rfl) (by kernel_rfl) rfl (by kernel_rfl) ⟨by omega,by omega,Int.le_refl _⟩ hle (.inl rfl) (by rw[zz9,if_neg (by omega)];simp only[Option.map_some,Addr.add_mid]) (by omega) rfl) ?_;refine At.one rfl (zc6 (k:=5000) (L:=L) (es:=2) (gv:=fun i=>z01 (v.getD i zzd)) (m:=v.length) (p:=L.off+(i.toNat+1)*2) (lb:=l0.length-i.toNat) (cb:=L.cap-(i.toNat+1)) (f:=54) (tS:=25) (tR:=4) (e:=56) (sz:=2) rfl hL rfl rfl rfl rfl (by kernel_rfl) (by kernel_rfl) Try.func54 (by kernel_rfl) (by kernel_rfl) (by kernel_rfl) (by kernel_rfl) rfl (by kernel_rfl) rfl hn (by decide) (by decide) (by omega)) ?_;refine At.sg 1 [0,1,2,7,68] [5000] (z00 1) ?_;refine At.done rfl ?_;refine Tri.cond (b:=true) (by kernel_rfl) (fun _=>?_) (fun hb=>by cases hb);refine Tri.keep [0,1,2,7] [5000] (s':=⟨[(0,.c (.raw (.slice (some ⟨L.blk,L.off,none⟩) (l0.length+1) L.cap))),(1,cD (dI i)),(2,.c (wC 2 z01 v)),(7,cD (dI (v.length:Int)))],[(5000,vL 2 z01 l0)]⟩) (by kernel_rfl) ?_;refine z02 ?_;refine Tri.dS ⟨[(0,.c (.raw (.slice (some ⟨L.blk,L.off,none⟩) (l0.length+1) L.cap))),(1,cD (dI i)),(2,.c (wC 2 z01 v))],[(5000,.vec 2 (l0.length+1) (fun x=>if x<i.toNat+1 then z01 (l0.getD x zzd)else z01 (l0.getD (x-1) zzd)))]⟩ [.a [0] [],.a [1] [],.a [7] [],.a [70,71] [],.m ⟨[(69,.c (.raw (.slice (some ⟨L.blk,L.off,none⟩) (l0.length+1) L.cap))),(72,cD (dI (zzi.wrap (i+(v.length:Int)))))],[]⟩ ⟨[(73,.c (.raw (.slice (some ⟨L.blk,L.off+(i.toNat+1)*2,none⟩) (l0.length-i.toNat) (L.cap-(i.toNat+1)))))],[]⟩ [] [] [],.a [0] [],.a [1] [],.m ⟨[(74,.c (.raw (.slice (some ⟨L.blk,L.off,none⟩) (l0.length+1) L.cap))),(75,cD (dI i))],[]⟩ ⟨[(76,.c (.raw (.slice (some ⟨L.blk,L.off+i.toNat*2,none⟩) ((l0.length+1)-i.toNat) (L.cap-i.toNat))))],[]⟩ [] [] [],.m ⟨[(73,.c (.raw (.slice (some ⟨L.blk,L.off+(i.toNat+1)*2,none⟩) (l0.length-i.toNat) (L.cap-(i.toNat+1))))),(76,.c (.raw (.slice (some ⟨L.blk,L.off+i.toNat*2,none⟩) ((l0.length+1)-i.toNat) (L.cap-i.toNat))))],[(5000,vL 2 z01 l0)]⟩ ⟨[(77,cD (dI ((l0.length-i.toNat:Nat):Int)))],[(5000,.vec 2 (l0.length+1) (fun x=>if x<i.toNat+1 then z01 (l0.getD x zzd)else z01 (l0.getD (x-1) zzd)))]⟩ [] [] []] [0,1,2] [5000] (z00 6) (.a (.a (.a (.a (.m ?_ (.a (.a (.m ?_ (.m ?_ .z))))))))) ?_
   ·exact DOk.one fun r_ hr_=>z27 (es:=2) (e:=56) (nn:=(l0.length+1)) (l:=(zzi.wrap (i+(v.length:Int)))) (hh:=(((l0.length+1):Nat):Int)) rfl (by kernel_rfl) rfl rfl (by kernel_rfl) (by kernel_rfl) rfl (by kernel_rfl) (by rw[hw2];exact⟨by omega,by omega,Int.le_refl _⟩) hle (.inl rfl) (by rw[hw2,zz9,if_neg (by omega)];simp only[Option.map_some,Addr.add_mid]) (by rw[hw2];omega) (by rw[hw2];rfl)
   ·exact DOk.one fun r_ hr_=>z27 (es:=2) (e:=56) (nn:=(l0.length+1)) (l:=i) (hh:=(((l0.length+1):Nat):Int)) rfl (by kernel_rfl) rfl rfl (by kernel_rfl) (by kernel_rfl) rfl (by kernel_rfl) ⟨hc.1,by omega,Int.le_refl _⟩ hle (.inl rfl) (by rw[if_neg (by omega)];simp only[Option.map_some,Addr.add_mid]) (by omega) rfl
   ·exact DOk.one fun r_ hr_=>zbg (k:=5000) (L:=L) (es:=2) (e:=56) (N:=l0.length) (get:=fun i=>z01 (l0.getD i zzd)) (B:=(some ⟨L.blk,L.off+(i.toNat+1)*2,none⟩)) (dc:=L.cap-(i.toNat+1)) (p:=i.toNat+1) (dn:=l0.length-i.toNat) (sn:=(l0.length+1)-i.toNat) (m:=l0.length-i.toNat) (N':=(l0.length+1)) (get2:=(fun x=>if x<i.toNat+1 then z01 (l0.getD x zzd)else z01 (l0.getD (x-1) zzd))) (get':=fun x=>(fun i=>z01 (l0.getD i zzd)) (i.toNat+x)) rfl hL rfl (by kernel_rfl) rfl (by kernel_rfl) (by kernel_rfl) rfl hn rfl (fun _=>rfl) (Nat.min_eq_right (by omega)) (fun h _=>zg4 (k:=5000) (q:=i.toNat) (L:=L) (N:=l0.length) (m:=l0.length-i.toNat) (sn:=(l0.length+1)-i.toNat) (c:=L.cap-i.toNat) (A:=(some ⟨L.blk,L.off+i.toNat*2,none⟩)) (es:=2) (get:=fun i=>z01 (l0.getD i zzd)) rfl hL rfl hn rfl (by omega) (fun _=>rfl) h) (by omega) (by unfold maxN;omega) hle (fun x hx=>by
     by_cases hxi:x<i.toNat+1
     ·exact .inr ⟨.inl hxi,by omega,by simp only[if_pos hxi]⟩
     ·refine .inl ⟨by omega,by omega,?_⟩;simp only[if_neg hxi];rw[show i.toNat+(x-(i.toNat+1))=x-1 by omega])
   refine z02 ?_;refine z04 ?_;refine At.sg 2 [0,2,78,79] [5000] (z00 2) ?_;refine At.one rfl (z27 (es:=2) (e:=56) (A':=(some ⟨L.blk,L.off+i.toNat*2,none⟩)) (h':=(l0.length+1)-i.toNat) (c':=L.cap-i.toNat) (nn:=(l0.length+1)) (l:=i) (hh:=(((l0.length+1):Nat):Int)) rfl rfl rfl rfl (by kernel_rfl) (by kernel_rfl) rfl (by kernel_rfl) ⟨hc.1,by omega,Int.le_refl _⟩ hle (.inl rfl) (by rw[if_neg (by omega)];simp only[Option.map_some,Addr.add_mid]) (by omega) rfl) ?_;refine At.sg 1 [0,80,81] [5000] (z00 1) ?_;refine At.one rfl (zbg (k:=5000) (L:=L) (es:=2) (e:=56) (N:=(l0.length+1)) (get:=(fun x=>if x<i.toNat+1 then z01 (l0.getD x zzd)else z01 (l0.getD (x-1) zzd))) (B:=(some ⟨L.blk,L.off+i.toNat*2,none⟩)) (dc:=L.cap-i.toNat) (p:=i.toNat) (dn:=(l0.length+1)-i.toNat) (sn:=v.length) (m:=v.length) (N':=(l0.length+1)) (get2:=(fun x=>if x<i.toNat then z01 (l0.getD x zzd)else if x<i.toNat+1 then z01 (v.getD (x-i.toNat) zzd)else z01 (l0.getD (x-1) zzd))) (get':=fun i=>z01 (v.getD i zzd)) rfl hL rfl rfl rfl rfl (by kernel_rfl) rfl (by omega) rfl (fun _=>rfl) (Nat.min_eq_left (by omega)) (fun h _=>SrcOf.g rfl (.view rfl (fun _ _=>rfl)) rfl h) (by omega) (by unfold maxN;omega) hle (fun x hx=>?_)) ?_
   ·by_cases hxi:x<i.toNat
    ·exact .inr ⟨.inl hxi,by omega,by simp only[if_pos hxi,if_pos (show x<i.toNat+1 by omega)]⟩
    ·by_cases hx2:x<i.toNat+1
     ·exact .inl ⟨by omega,by omega,by simp only[if_neg hxi,if_pos hx2]⟩
     ·exact .inr ⟨.inr (by omega),by omega,by simp only[if_neg hxi,if_neg hx2]⟩
   refine At.done rfl ?_;refine Tri.keep [0] [5000] (s':=⟨[(0,.c (.raw (.slice (some ⟨L.blk,L.off,none⟩) (l0.length+1) L.cap)))],[(5000,.vec 2 (l0.length+1) (fun x=>if x<i.toNat then z01 (l0.getD x zzd)else if x<i.toNat+1 then z01 (v.getD (x-i.toNat) zzd)else z01 (l0.getD (x-1) zzd)))]⟩) (by kernel_rfl) ?_;refine Tri.unRaw 2 (t:=0) (k:=5000) rfl rfl hL rfl hle ?_;have hQ:(l0.take i.toNat++v++l0.drop i.toNat).length=l0.length+1:=by rw[zen l0 v (by omega),hv]
   refine Tri.l [] ⟨[(0,.c (oC 5000 2 (l0.take i.toNat++v++l0.drop i.toNat)))],[(5000,vL 2 z01 (l0.take i.toNat++v++l0.drop i.toNat))]⟩ ⟨⟨_,rfl,by unfold oC;rw[hQ];exact .refl _⟩,trivial⟩ ⟨⟨_,rfl,.vec hQ (fun x hx=>zem z01 l0 v (by omega) hv),(by simp)⟩,trivial⟩ ?_;refine Tri.sg [6] [5000] (z00 2) ?_;refine Tri.keep [6] [5000] (s':=⟨[(6,.c (oC 5000 2 (l0.take i.toNat++v++l0.drop i.toNat)))],[(5000,vL 2 z01 (l0.take i.toNat++v++l0.drop i.toNat))]⟩) (by kernel_rfl) ?_;refine Tri.rename 5000 6000 ⟨[(6,.c (oC 6000 2 (l0.take i.toNat++v++l0.drop i.toNat)))],[(6000,vL 2 z01 (l0.take i.toNat++v++l0.drop i.toNat))]⟩ (by kernel_rfl) rfl rfl rfl ?_;refine Tri.ret ?_;cases h;exact RetAt.k
theorem z3x {fuel:Nat}{p1:File}{l0:List File}{q:List File}(h:z11 fuel p1 l0=some q):
 Summ Try.prog 36 [.c (.ptr 5000 0),.agg (cFile p1)] [(5000,.box [oC 5100 2 l0]),(5100,vL 2 z01 l0)] (.tup []) [(5150,vL 2 z01 q),(5000,.box [oC 5150 2 q])]:=by
 refine Summ.i Try.func36 rfl [5150] fun w0 G0 V LL φ0=>?_;unfold z11 at h;refine Tri.rename 5100 5150 ⟨[(0,.c (.ptr 5000 0)),(1,.agg (cFile p1))],[(5000,.box [oC 5150 2 l0]),(5150,vL 2 z01 l0)]⟩ (by kernel_rfl) rfl rfl rfl ?_;refine Tri.sg [0,3] [3,5000,5150] (z00 1) ?_;refine z02 ?_;obtain⟨r1,hr1,h⟩:=z05 h;refine z29 [.a [0] [],.a [7] [],.a [8] [5000],.a [3] [],.a [10] [3],.m ⟨[(9,.c (oC 5150 2 l0)),(11,cD (.str p1.name))],[(5150,vL 2 z01 l0)]⟩ ⟨[(12,.tup [(false,[.d (dI r1.1)]),(false,[.d (.bool r1.2)])])],[]⟩ [] [] [],.a [12] [],.a [6] [],.a [6] [],.a [13] [],.a [14] []] [0,3,4,5] [3,5000,5150] (z00 10) (.a (.a (.a (.a (.a (.m ?_ (.a (.a (.a (.a (.a .z))))))))))) ?_
 ·exact DOk.cA [] [.c (oC 5150 2 l0),cD (.str p1.name)] (z17 hr1) fun r=>(.cons (AVArg.view (z01) l0 rfl) (.cons (.refl _) .nil))
 refine z02 ?_;refine z37 [0,3,4,15] [3,5000,5150] ⟨[(0,.c (.ptr 5000 0)),(3,.c (.ptr 3 0)),(4,cD (dI r1.1)),(15,cD (.bool r1.2))],[(3,.box (cFile p1)),(5000,.box [oC 5150 2 l0]),(5150,vL 2 z01 l0)]⟩ _ (by kernel_rfl) (z00 1) ?_;refine z07 h (fun h=>?_) (fun h=>?_)
 ·refine z02 ?_;obtain⟨hc2,h⟩:=z09 h;obtain⟨hc3,h⟩:=z09 h;refine za4 ⟨[],[(5000,.box [oC 5150 2 l0]),(5150,vL 2 z01 (l0.set (0+r1.1.toNat) p1))]⟩ ?_ ?_
  ·refine Tri.dS ⟨[],[(5000,.box [oC 5150 2 l0]),(5150,vL 2 z01 (l0.set (0+r1.1.toNat) p1))]⟩ [.a [0] [],.a [16] [],.a [17] [5000],.a [4] [],.a [3] [3],.a [18,19] [5150],.m ⟨[(20,.agg (cFile p1)),(21,.c (.vptr 5150 2 (0+r1.1.toNat) 0))],[(5150,vL 2 z01 l0)]⟩ ⟨[],[(5150,vL 2 z01 (l0.set (0+r1.1.toNat) p1))]⟩ [] [] []] [] [5000,5150] (tN 5 (ai hc2 trivial)) (.a (.a (.a (.a (.a (.a (.m ?_ .z))))))) ?_
   ·exact DOk.one fun r hr=>z4y (xs:=[.d (.str p1.name),.d (.str p1.data)]) (ds:=[.str p1.name,.str p1.data]) (z01) l0 p1 rfl (by kernel_rfl) rfl rfl rfl hc3 rfl rfl (.refl _) rfl rfl rfl rfl
   exact⟨rfl,rfl⟩
  ·refine At.eqS (s':=⟨[],[(5000,.box [oC 5150 2 (l0.set (0+r1.1.toNat) p1)]),(5150,vL 2 z01 (l0.set (0+r1.1.toNat) p1))]⟩) (by simp only[oC,vL,List.length_set]) ?_;refine At.done rfl ?_;refine Tri.ret ?_;cases h;exact RetAt.k
 ·refine Tri.skip ?_;obtain⟨r4,hr4,h⟩:=z05 h;refine z29 [.a [0] [],.a [0] [],.a [23] [],.a [24] [5000],.a [4] [],.a [3] [3],.m ⟨[(27,.agg (cFile p1))],[]⟩ ⟨[(28,.c (oC 28 2 ([p1]:List File)))],[(28,vL 2 z01 ([p1]:List File))]⟩ [28] [] [],.m ⟨[(25,.c (oC 5150 2 l0)),(26,cD (dI r1.1)),(28,.c (oC 28 2 ([p1]:List File)))],[(28,vL 2 z01 ([p1]:List File)),(5000,.box [oC 5150 2 l0]),(5150,vL 2 z01 l0)]⟩ ⟨[(29,.c (oC 5150 2 r4)),(25,.c (.any))],[(5150,vL 2 z01 r4),(5000,.box [.any])]⟩ [5150] [25] [5000],.a [22] [],.m ⟨[(29,.c (oC 5150 2 r4)),(30,.c (.ptr 5000 0))],[(5000,.box [.any]),(5150,vL 2 z01 r4)]⟩ ⟨[],[(5000,.box [oC 5150 2 r4])]⟩ [] [] []] [] [5000,5150] (z00 7) (.a (.a (.a (.a (.a (.a (.m ?_ (.m ?_ (.a (.m ?_ .z)))))))))) ?_
  ·exact DOk.one fun r hr=>z4a (e:=56) (es:=2) (z:=[.d (.str (bs [])),.d (.str (bs []))]) (cells:=[.d (.str p1.name),.d (.str p1.data)]) (z01) ([p1]:List File) rfl (by kernel_rfl) rfl rfl (z2t (by kernel_rfl) (hr 28 (by simp))) (by kernel_rfl) rfl (by kernel_rfl) rfl rfl rfl (by kernel_rfl) rfl ⟨⟨rfl,.refl _⟩,trivial⟩
  ·exact DOk.drop (k:=5150) (d:=29) (v:=vL 2 z01 r4) (av:= .c (oC 5150 2 r4)) rfl (fun r hr=>z6h (nf:=0) (caps:=[]) (xs:=[.c (oC 5150 2 l0),cD (dI r1.1),.c (oC 28 2 ([p1]:List File))]) [(5000,5150),(6000,5150)] (z3k hr4) rfl rfl (by kernel_rfl) rfl (by kernel_rfl) (by kernel_rfl) (.ren rfl rfl (.flat (.refl _) rfl rfl (.flat (AVArg.view (z01) ([p1]:List File) rfl) rfl rfl .nil))) ⟨⟨by kernel_rfl,by kernel_rfl⟩,trivial⟩ (by kernel_rfl) (by kernel_rfl) (by kernel_rfl) (by kernel_rfl) (by kernel_rfl) (by kernel_rfl) (by kernel_rfl) (by first|kernel_rfl|(show _=_;kernel_rfl)) (by first|kernel_rfl|(show _=_;kernel_rfl))) (by kernel_rfl) (by kernel_rfl) (by kernel_rfl) (by kernel_rfl)
  ·exact DOk.step (.turn 5000 (.box [oC 5150 2 r4])) (fun r=>by kernel_rfl) (fun r=>by kernel_rfl) trivial (by kernel_rfl) (by kernel_rfl) (fun r=>rfl)
  cases h;exact RetAt.k
theorem z1w {fuel:Nat}{p1:List Write}{l0:List File}{q:List File}(h:z0r fuel p1 l0=some q):
 Summ Try.prog 20 [.c (.ptr 5000 0),cD (lD 4 z03 p1)] [(5000,.box [oC 5100 2 l0]),(5100,vL 2 z01 l0)] (.tup []) [(5150,vL 2 z01 q),(5000,.box [oC 5150 2 q])]:=by
 refine Summ.i Try.func20 rfl [5150] fun w0 G0 V LL φ0=>?_;unfold z0r at h;refine Tri.rename 5100 5150 ⟨[(0,.c (.ptr 5000 0)),(1,cD (lD 4 z03 p1))],[(5000,.box [oC 5150 2 l0]),(5150,vL 2 z01 l0)]⟩ (by kernel_rfl) rfl rfl rfl ?_;refine Tri.sg [0,8,9,10] [5000,5150] (z00 3) ?_;refine Tri.ln 8 p1.length fun hlena2=>?_;refine z36 10 (l0) (fun(x:Empty) s=>False) (fun(a2:List File)=>⟨[(0,.c (.ptr 5000 0)),(8,cD (lD 4 z03 p1)),(9,cD (dI (p1.length:Int)))],[(5000,.box [oC 5150 2 a2]),(5150,vL 2 z01 a2)]⟩) [10,0,8,9] [5000,5150] [11,10,0,8,9] [5000,5150] [] [5000,5150] [10,0,8,9] [5000,5150] h hlena2 ?_ ?_ ?_
 ·intro i1 a2 c hii1 h;refine Tri.sg [0,5,8,9,10] [5,5000,5150] (ai (show((0:Int)≤((i1:Nat):Int)∧((i1:Nat):Int)<(p1.length:Int))from⟨by omega,by omega⟩) (z00 3)) ?_;refine z02 ?_;refine z04 ?_;refine At.sg 3 [0,5,8,9,10,15,17] [5,5000,5150] (z00 3) ?_;obtain⟨r4,hr4,h⟩:=z05 h;refine z3z 0 [] [.c (.ptr 5000 0),cD (.str ((p1.getD i1 zzd).name))] [(5000,5000),(5100,5150),(5150,5150)] [0,5,8,9,10] [5] (z5a hr4) (.ren rfl rfl (.flat (.refl _) rfl rfl .nil)) ?_;refine At.sg 6 [0,5,6,7,8,9,10] [5,6,5000,5150] (z00 6) ?_;refine At.done rfl ?_;refine z3b ?_;refine Tri.sg [0,5,6,7,8,9,10,21] [5,6,5000,5150] (z00 4) ?_;refine z07 h (fun h=>?_) (fun h=>?_)
  ·refine z04 ?_;obtain⟨hc5,h⟩:=z09 h;refine At.sg 9 [0,8,9,10,25,33] [5000,5150] (tN 7 (ai hc5 (z00 1))) ?_;obtain⟨r6,hr6,h⟩:=z05 h;refine z3z 0 [] [.c (.ptr 5000 0),.agg [.d (.str ((p1.getD i1 zzd).name)),.d (.str (r4.1.data++((p1.getD i1 zzd).data)))]] [(5000,5000),(5100,5150),(5150,5150)] [0,8,9,10] [] (z3x hr6) (.ren rfl rfl (.flat (.refl _) rfl rfl .nil)) ?_;refine At.keep [10,0,8,9] [5000,5150] (s':=⟨[(10,cD (dI ((i1:Nat):Int))),(0,.c (.ptr 5000 0)),(8,cD (lD 4 z03 p1)),(9,cD (dI (p1.length:Int)))],[(5000,.box [oC 5150 2 r6]),(5150,vL 2 z01 r6)]⟩) (by kernel_rfl) ?_;refine At.done rfl ?_;cases h;exact kr
  ·refine z0u (fun(a7:Bool)=>⟨[(0,.c (.ptr 5000 0)),(5,.c (.ptr 5 0)),(6,.c (.ptr 6 0)),(8,cD (lD 4 z03 p1)),(9,cD (dI (p1.length:Int))),(10,cD (dI ((i1:Nat):Int))),(35,cD (.bool a7))],[(5,.box (cWrite (p1.getD i1 zzd))),(6,.box (cFile r4.1)),(5000,.box [oC 5150 2 r4.2.2]),(5150,vL 2 z01 r4.2.2)]⟩) h (fun a7 h=>?_) (fun j8 h=>?_)
   ·refine z07 h (fun h=>?_) (fun h=>?_)
    ·refine z04 ?_;refine At.sg 6 [0,8,9,10,42,47] [5000,5150] (z00 6) ?_;obtain⟨r9,hr9,h⟩:=z05 h;refine z3z 0 [] [.c (.ptr 5000 0),.agg [.d (.str ((p1.getD i1 zzd).to_)),.d (.str r4.1.data)]] [(5000,5000),(5100,5150),(5150,5150)] [0,8,9,10] [] (z3x hr9) (.ren rfl rfl (.flat (.refl _) rfl rfl .nil)) ?_;refine At.keep [10,0,8,9] [5000,5150] (s':=⟨[(10,cD (dI ((i1:Nat):Int))),(0,.c (.ptr 5000 0)),(8,cD (lD 4 z03 p1)),(9,cD (dI (p1.length:Int)))],[(5000,.box [oC 5150 2 r9]),(5150,vL 2 z01 r9)]⟩) (by kernel_rfl) ?_;refine At.done rfl ?_;cases h;exact kr
    ·refine Tri.kp [10,0,8,9] [5000,5150] ?_;refine Tri.skip ?_;cases h;exact kr
   ·refine z04 ?_;refine At.sg 2 [0,5,6,8,9,10,37] [5,6,5000,5150] (z00 2) ?_;refine At.cs [37] h (fun h=>?_) (fun h=>?_)
    ·refine At.sg 5 [0,5,6,8,9,10,35] [5,6,5000,5150] (z00 5) ?_;refine At.done rfl ?_;exact⟨_,h,kr⟩
    ·refine At.sg 5 [0,5,6,8,9,10,35] [5,6,5000,5150] (z00 2) ?_;refine At.done rfl ?_;exact⟨_,h,kr⟩
 ·intro a3 h;cases h;exact RetAt.k
 ·exact fun x=>x.elim
theorem zah {fuel:Nat}{p0:Disk}{q:Bool}(h:z3p fuel p0=some q):
 Summ Try.prog 31 [.agg (cDisk p0)] [] (cD (.bool q)) []:=by
 refine Summ.i Try.func31 rfl [] fun w0 G0 V LL φ0=>?_;unfold z3p at h;refine Tri.sg [1] [1] (z00 2) ?_;refine z02 ?_;refine z04 ?_;refine At.seg 3 [1,10] [1] (s':=⟨[(1,.c (.ptr 1 0)),(10,cD (dI (p0.files.length:Int)))],[(1,.box (cDisk p0))]⟩) (by kernel_rfl) (z00 3) ?_;obtain⟨hc1,h⟩:=z09 h;refine At.one rfl (z88 (e:=56) (es:=2) (bs:=32) (n:=0) (c:=(p0.files.length:Int)) (z:=[.d (.str (bs [])),.d (.str (bs []))]) (z01) ((⟨(bs []),(bs [])⟩:File):File) rfl rfl rfl rfl (by kernel_rfl) rfl rfl rfl (by kernel_rfl) rfl (by kernel_rfl) rfl (.refl _) rfl rfl rfl hc1.1 hc1.2.1 hc1.2.2 rfl) ?_;refine At.sg 2 [1,3] [1,3,11] (z00 2) ?_;refine At.done rfl ?_;refine z02 ?_;refine Tri.sg [1,3,13,14,15] [1,3,11] (z00 4) ?_;refine Tri.ln 13 p0.files.length fun hlena3=>?_;refine z36 15 (zza 0 ((⟨(bs []),(bs [])⟩:File):File)) (fun(x:Empty) s=>False) (fun(a3:List File)=>⟨[(1,.c (.ptr 1 0)),(3,.c (.ptr 3 0)),(13,cD (lD 2 z01 p0.files)),(14,cD (dI (p0.files.length:Int)))],[(1,.box (cDisk p0)),(3,.box [oC 11 2 a3]),(11,vL 2 z01 a3)]⟩) [15,1,3,13,14] [1,3,11] [16,15,1,3,13,14] [1,3,11] [1,3,13,14] [1,3,11] [15,1,3,13,14] [1,3,11] h hlena3 ?_ ?_ ?_
 ·intro i2 a3 c hii2 h;refine Tri.sg [1,3,5,13,14,15] [1,3,5,11] (ai (show((0:Int)≤((i2:Nat):Int)∧((i2:Nat):Int)<(p0.files.length:Int))from⟨by omega,by omega⟩) (z00 3)) ?_;refine z04 ?_;refine At.seg 4 [1,3,13,14,15,19,22] [1,3,11] (s':=⟨[(1,.c (.ptr 1 0)),(3,.c (.ptr 3 0)),(13,cD (lD 2 z01 p0.files)),(14,cD (dI (p0.files.length:Int))),(15,cD (dI ((i2:Nat):Int))),(19,.c (oC 11 2 a3)),(22,.agg [.d (.str ((p0.files.getD i2 zzd).name)),.d (.str (bs []))])],[(1,.box (cDisk p0)),(3,.box [oC 11 2 a3]),(11,vL 2 z01 a3)]⟩) (by kernel_rfl) (z00 4) ?_;refine At.one rfl (One.buildSlice (z:=[.d (.str (bs [])),.d (.str (bs []))]) (cells:=[.d (.str ((p0.files.getD i2 zzd).name)),.d (.str (bs []))]) (xs:=List.map (z01) ([(⟨(p0.files.getD i2 zzd).name,(bs [])⟩:File)]:List File)) rfl rfl rfl rfl (by kernel_rfl) rfl rfl (by kernel_rfl) rfl rfl rfl (by kernel_rfl) rfl ⟨⟨rfl,.refl _⟩,trivial⟩) ?_;refine At.l [23] ⟨[(23,cD (lD 2 z01 ([(⟨(p0.files.getD i2 zzd).name,(bs [])⟩:File)]:List File))),(1,.c (.ptr 1 0)),(3,.c (.ptr 3 0)),(13,cD (lD 2 z01 p0.files)),(14,cD (dI (p0.files.length:Int))),(15,cD (dI ((i2:Nat):Int))),(19,.c (oC 11 2 a3)),(22,.agg [.d (.str ((p0.files.getD i2 zzd).name)),.d (.str (bs []))])],[(1,.box (cDisk p0)),(3,.box [oC 11 2 a3]),(11,vL 2 z01 a3)]⟩ ⟨⟨_,rfl,.c (.own rfl (zzg.2 rfl) (zz5 rfl) rfl (z1z (z01) ([(⟨(p0.files.getD i2 zzd).name,(bs [])⟩:File)]:List File)))⟩,⟨_,rfl,.refl _⟩,⟨_,rfl,.refl _⟩,⟨_,rfl,.refl _⟩,⟨_,rfl,.refl _⟩,⟨_,rfl,.refl _⟩,⟨_,rfl,.refl _⟩,⟨_,rfl,.refl _⟩,trivial⟩ ⟨⟨_,rfl,.refl _,(by simp)⟩,⟨_,rfl,.refl _,(by simp)⟩,⟨_,rfl,.refl _,(by simp)⟩,trivial⟩ ?_;obtain⟨hc9,h⟩:=z09 h;refine At.one rfl (z5h (e:=56) (es:=2) (z01) a3 ([(⟨(p0.files.getD i2 zzd).name,(bs [])⟩:File)]:List File) rfl rfl rfl rfl rfl (.of 56 32 [.d (.str (bs [])),.d (.str (bs []))] (by kernel_rfl) (by kernel_rfl) (by kernel_rfl) (by kernel_rfl) rfl (by kernel_rfl) rfl) rfl rfl rfl (.list rfl (fun _ _=>rfl)) hc9) ?_;refine At.sg 1 [15,1,3,13,14] [1,3,11] (z00 1) ?_;refine At.done rfl ?_;cases h;exact kr
 ·intro a4 h;refine z02 ?_;refine Tri.sg [3,27,28,29] [3,11] (z00 4) ?_;refine Tri.ln 27 p0.waits.length fun hlena6=>?_;refine z36 29 (a4) (fun(x:Bool) s=>RetAt Try.prog Try.f31 (cD (.bool x)) [] s) (fun(a6:List File)=>⟨[(3,.c (.ptr 3 0)),(27,cD (lD 4 z03 p0.waits)),(28,cD (dI (p0.waits.length:Int)))],[(3,.box [oC 11 2 a6]),(11,vL 2 z01 a6)]⟩) [29,3,27,28] [3,11] [30,29,3,27,28] [3,11] [3,27,28] [3,11] [29,3,27,28] [3,11] h hlena6 ?_ ?_ ?_
  ·intro i5 a6 c hii5 h;refine Tri.sg [3,7,27,28,29] [3,7,11] (ai (show((0:Int)≤((i5:Nat):Int)∧((i5:Nat):Int)<(p0.waits.length:Int))from⟨by omega,by omega⟩) (z00 3)) ?_;refine Tri.sg [3,7,27,28,29] [3,7,11] (z00 2) ?_;refine z02 ?_;refine z04 ?_;refine At.seg 1 [3,27,28,29,34] [3,11] (s':=⟨[(3,.c (.ptr 3 0)),(27,cD (lD 4 z03 p0.waits)),(28,cD (dI (p0.waits.length:Int))),(29,cD (dI ((i5:Nat):Int))),(34,.agg [.d (.int .u8 ((p0.waits.getD i5 zzd).kind)),.d (.str ((p0.waits.getD i5 zzd).name)),.d (.str ((p0.waits.getD i5 zzd).to_)),.d (.str (bs []))])],[(3,.box [oC 11 2 a6]),(11,vL 2 z01 a6)]⟩) (by kernel_rfl) (z00 1) ?_;refine At.one rfl (One.buildSlice (z:=[.d (.int .u8 0),.d (.str (bs [])),.d (.str (bs [])),.d (.str (bs []))]) (cells:=[.d (.int .u8 ((p0.waits.getD i5 zzd).kind)),.d (.str ((p0.waits.getD i5 zzd).name)),.d (.str ((p0.waits.getD i5 zzd).to_)),.d (.str (bs []))]) (xs:=List.map (z03) ([(⟨(p0.waits.getD i5 zzd).kind,(p0.waits.getD i5 zzd).name,(p0.waits.getD i5 zzd).to_,(bs [])⟩:Write)]:List Write)) rfl rfl rfl rfl (by kernel_rfl) rfl rfl (by kernel_rfl) rfl rfl rfl (by kernel_rfl) rfl ⟨⟨rfl,.refl _⟩,trivial⟩) ?_;refine At.l [35] ⟨[(35,cD (lD 4 z03 ([(⟨(p0.waits.getD i5 zzd).kind,(p0.waits.getD i5 zzd).name,(p0.waits.getD i5 zzd).to_,(bs [])⟩:Write)]:List Write))),(3,.c (.ptr 3 0)),(27,cD (lD 4 z03 p0.waits)),(28,cD (dI (p0.waits.length:Int))),(29,cD (dI ((i5:Nat):Int))),(34,.agg [.d (.int .u8 ((p0.waits.getD i5 zzd).kind)),.d (.str ((p0.waits.getD i5 zzd).name)),.d (.str ((p0.waits.getD i5 zzd).to_)),.d (.str (bs []))])],[(3,.box [oC 11 2 a6]),(11,vL 2 z01 a6)]⟩ ⟨⟨_,rfl,.c (.own rfl (zzg.2 rfl) (zz5 rfl) rfl (z1z (z03) ([(⟨(p0.waits.getD i5 zzd).kind,(p0.waits.getD i5 zzd).name,(p0.waits.getD i5 zzd).to_,(bs [])⟩:Write)]:List Write)))⟩,⟨_,rfl,.refl _⟩,⟨_,rfl,.refl _⟩,⟨_,rfl,.refl _⟩,⟨_,rfl,.refl _⟩,⟨_,rfl,.refl _⟩,trivial⟩ ⟨⟨_,rfl,.refl _,(by simp)⟩,⟨_,rfl,.refl _,(by simp)⟩,trivial⟩ ?_;obtain⟨r8,hr8,h⟩:=z05 h;refine z3z 0 [] [.c (.ptr 3 0),cD (lD 4 z03 ([(⟨(p0.waits.getD i5 zzd).kind,(p0.waits.getD i5 zzd).name,(p0.waits.getD i5 zzd).to_,(bs [])⟩:Write)]:List Write))] [(5000,3),(5100,11),(5150,11)] [3,27,28,29] [] (z1w hr8) (.ren rfl rfl (.flat (.refl _) rfl rfl .nil)) ?_;refine At.done rfl ?_;refine Tri.sg [3,27,28,29,39] [3,11] (z00 3) ?_;refine z07 h (fun h=>?_) (fun h=>?_)
   ·refine Tri.sg [2] [] (z00 1) ?_;refine Tri.ret ?_;cases h;exact RetAt.k
   ·refine Tri.kp [29,3,27,28] [3,11] ?_;refine Tri.skip ?_;cases h;exact kr
  ·intro a7 h;refine Tri.sg [2] [] (z00 1) ?_;refine Tri.ret ?_;cases h;exact RetAt.k
  ·exact fun x s hx hr=>by cases hx;exact hr
 ·exact fun x=>x.elim
theorem z4l {fuel:Nat}{p0:Disk}{q:Int}(h:z2p fuel p0=some q):
 Summ Try.prog 15 [.agg (cDisk p0)] [] (cD (dI q)) []:=by
 refine Summ.i Try.func15 rfl [] fun w0 G0 V LL φ0=>?_;unfold z2p at h;refine Tri.sg [1] [1] (z00 2) ?_;refine z0u (fun(a1:Bool)=>⟨[(1,.c (.ptr 1 0)),(3,cD (.bool a1))],[(1,.box (cDisk p0))]⟩) h (fun a1 h=>?_) (fun j2 h=>?_)
 ·refine z02 ?_;refine Tri.sg [1,3,22,23,24] [1] (z00 4) ?_;refine Tri.ln 22 p0.files.length fun hlena4=>?_;refine z36 24 (a1) (fun(x:Empty) s=>False) (fun(a4:Bool)=>⟨[(1,.c (.ptr 1 0)),(3,cD (.bool a4)),(22,cD (lD 2 z01 p0.files)),(23,cD (dI (p0.files.length:Int)))],[(1,.box (cDisk p0))]⟩) [24,1,3,22,23] [1] [25,24,1,3,22,23] [1] [1,3,22,23] [1] [24,1,3,22,23] [1] h hlena4 ?_ ?_ ?_
  ·intro i3 a4 c hii3 h;refine z37 [1,3,4,5,22,23,24] [1,5] ⟨[(1,.c (.ptr 1 0)),(3,cD (.bool a4)),(4,cD (dI ((i3:Nat):Int))),(5,.c (.ptr 5 0)),(22,cD (lD 2 z01 p0.files)),(23,cD (dI (p0.files.length:Int))),(24,cD (dI ((i3:Nat):Int)))],[(1,.box (cDisk p0)),(5,.box (cFile (p0.files.getD i3 zzd)))]⟩ _ (by kernel_rfl) (tN 1 (ai (show((0:Int)≤((i3:Nat):Int)∧((i3:Nat):Int)<(p0.files.length:Int))from⟨by omega,by omega⟩) (z00 4))) ?_;rcases z7a h with⟨hp10,h⟩|⟨hp10,h⟩
   ·obtain⟨r11,hr11,h⟩:=z05 h;rcases z7a h with⟨hp12,h⟩|⟨hp12,h⟩
    ·rcases z7a h with⟨hp13,h⟩|⟨hp13,h⟩
     ·refine z29 [.a [3] [],.m ⟨[(29,cD (.bool a4))],[]⟩ ⟨[(30,.c (.d (.bool true)))],[]⟩ [] [] [],.a [5,30] [],.a [30,31] [5],.m ⟨[(30,cD (.bool true)),(32,cD (.str ((p0.files.getD i3 zzd).name)))],[]⟩ ⟨[(33,.c (oC 33 1 ([(p0.files.getD i3 zzd).name]:List ByteArray)))],[(33,vL 1 z0b ([(p0.files.getD i3 zzd).name]:List ByteArray))]⟩ [33] [] [],.m ⟨[(30,cD (.bool true)),(33,.c (oC 33 1 ([(p0.files.getD i3 zzd).name]:List ByteArray)))],[(33,vL 1 z0b ([(p0.files.getD i3 zzd).name]:List ByteArray))]⟩ ⟨[(34,cD (.bool r11))],[]⟩ [] [] [],.a [30,34] [],.m ⟨[(35,cD (.bool r11))],[]⟩ ⟨[(36,.c (.d (.bool true)))],[]⟩ [] [] [],.a [4,36] [],.a [36,37] [],.m ⟨[(36,cD (.bool true)),(38,cD (.bool (decide (((i3:Nat):Int)=0))))],[]⟩ ⟨[(39,.c (.d (.bool true)))],[]⟩ [] [] [],.a [1,39] [],.a [39,40] [],.a [4,39] [],.a [39,42] [],.a [39,41,43] [],.a [39,44] [],.a [39,45] [],.a [5,39] [],.a [39,47] [],.a [39,46,48] [],.a [36,39,49] [],.a [36,50] [],.a [51] []] [24,1,3,22,23] [1] (z00 9) (.a (.m ?_ (.a (.a (.m ?_ (.m ?_ (.a (.m ?_ (.a (.a (.m ?_ (.a (.a (.a (.a (.a (.a (.a (.a (.a (.a (.a (.a (.a .z)))))))))))))))))))))))) ?_
      ·exact z2s (fun b=> .val (.c (.d (.bool b))) (True)) (p:=a4) hp10 (fun r=>by kernel_rfl) (fun r=>by kernel_rfl) trivial (by kernel_rfl) (by kernel_rfl) (fun r=>rfl)
      ·exact DOk.one fun r hr=>z4a (e:=9) (es:=1) (z:=[.d (.str (bs []))]) (cells:=[.d (.str ((p0.files.getD i3 zzd).name))]) (z0b) ([(p0.files.getD i3 zzd).name]:List ByteArray) rfl (by kernel_rfl) rfl rfl (z2t (by kernel_rfl) (hr 33 (by simp))) (by kernel_rfl) rfl (by kernel_rfl) rfl rfl rfl (by kernel_rfl) rfl ⟨⟨rfl,.refl _⟩,trivial⟩
      ·exact DOk.cA [] [.c (oC 33 1 ([(p0.files.getD i3 zzd).name]:List ByteArray))] (z4p hr11) fun r=>(.cons (AVArg.view (z0b) ([(p0.files.getD i3 zzd).name]:List ByteArray) rfl) .nil)
      ·exact z2s (fun b=> .val (.c (.d (.bool b))) (True)) (p:=r11) hp12 (fun r=>by kernel_rfl) (fun r=>by kernel_rfl) trivial (by kernel_rfl) (by kernel_rfl) (fun r=>rfl)
      ·exact z2s (fun b=> .val (.c (.d (.bool b))) (True)) (p:=(decide (((i3:Nat):Int)=0))) hp13 (fun r=>by kernel_rfl) (fun r=>by kernel_rfl) trivial (by kernel_rfl) (by kernel_rfl) (fun r=>rfl)
      cases h;exact kr
     ·obtain⟨hc14,h⟩:=z09 h;refine z29 [.a [3] [],.m ⟨[(29,cD (.bool a4))],[]⟩ ⟨[(30,.c (.d (.bool true)))],[]⟩ [] [] [],.a [5,30] [],.a [30,31] [5],.m ⟨[(30,cD (.bool true)),(32,cD (.str ((p0.files.getD i3 zzd).name)))],[]⟩ ⟨[(33,.c (oC 33 1 ([(p0.files.getD i3 zzd).name]:List ByteArray)))],[(33,vL 1 z0b ([(p0.files.getD i3 zzd).name]:List ByteArray))]⟩ [33] [] [],.m ⟨[(30,cD (.bool true)),(33,.c (oC 33 1 ([(p0.files.getD i3 zzd).name]:List ByteArray)))],[(33,vL 1 z0b ([(p0.files.getD i3 zzd).name]:List ByteArray))]⟩ ⟨[(34,cD (.bool r11))],[]⟩ [] [] [],.a [30,34] [],.m ⟨[(35,cD (.bool r11))],[]⟩ ⟨[(36,.c (.d (.bool true)))],[]⟩ [] [] [],.a [4,36] [],.a [36,37] [],.m ⟨[(36,cD (.bool true)),(38,cD (.bool (decide (((i3:Nat):Int)=0))))],[]⟩ ⟨[(39,.c (.d (.bool false)))],[]⟩ [] [] [],.a [1,39] [],.a [39,40] [1],.a [4,39] [],.a [39,42] [],.a [39,41,43] [],.a [39,44] [],.a [39,45] [],.a [5,39] [],.a [39,47] [5],.a [39,46,48] [],.a [36,39,49] [],.a [36,50] [],.a [51] []] [24,1,3,22,23] [1] (tN 10 (ai hc14 (z00 8))) (.a (.m ?_ (.a (.a (.m ?_ (.m ?_ (.a (.m ?_ (.a (.a (.m ?_ (.a (.a (.a (.a (.a (.a (.a (.a (.a (.a (.a (.a (.a .z)))))))))))))))))))))))) ?_
      ·exact z2s (fun b=> .val (.c (.d (.bool b))) (True)) (p:=a4) hp10 (fun r=>by kernel_rfl) (fun r=>by kernel_rfl) trivial (by kernel_rfl) (by kernel_rfl) (fun r=>rfl)
      ·exact DOk.one fun r hr=>z4a (e:=9) (es:=1) (z:=[.d (.str (bs []))]) (cells:=[.d (.str ((p0.files.getD i3 zzd).name))]) (z0b) ([(p0.files.getD i3 zzd).name]:List ByteArray) rfl (by kernel_rfl) rfl rfl (z2t (by kernel_rfl) (hr 33 (by simp))) (by kernel_rfl) rfl (by kernel_rfl) rfl rfl rfl (by kernel_rfl) rfl ⟨⟨rfl,.refl _⟩,trivial⟩
      ·exact DOk.cA [] [.c (oC 33 1 ([(p0.files.getD i3 zzd).name]:List ByteArray))] (z4p hr11) fun r=>(.cons (AVArg.view (z0b) ([(p0.files.getD i3 zzd).name]:List ByteArray) rfl) .nil)
      ·exact z2s (fun b=> .val (.c (.d (.bool b))) (True)) (p:=r11) hp12 (fun r=>by kernel_rfl) (fun r=>by kernel_rfl) trivial (by kernel_rfl) (by kernel_rfl) (fun r=>rfl)
      ·exact z2s (fun b=> .val (.c (.d (.bool b))) (True)) (p:=(decide (((i3:Nat):Int)=0))) hp13 (fun r=>by kernel_rfl) (fun r=>by kernel_rfl) trivial (by kernel_rfl) (by kernel_rfl) (fun r=>rfl)
      cases h;exact kr
    ·refine z29 [.a [3] [],.m ⟨[(29,cD (.bool a4))],[]⟩ ⟨[(30,.c (.d (.bool true)))],[]⟩ [] [] [],.a [5,30] [],.a [30,31] [5],.m ⟨[(30,cD (.bool true)),(32,cD (.str ((p0.files.getD i3 zzd).name)))],[]⟩ ⟨[(33,.c (oC 33 1 ([(p0.files.getD i3 zzd).name]:List ByteArray)))],[(33,vL 1 z0b ([(p0.files.getD i3 zzd).name]:List ByteArray))]⟩ [33] [] [],.m ⟨[(30,cD (.bool true)),(33,.c (oC 33 1 ([(p0.files.getD i3 zzd).name]:List ByteArray)))],[(33,vL 1 z0b ([(p0.files.getD i3 zzd).name]:List ByteArray))]⟩ ⟨[(34,cD (.bool r11))],[]⟩ [] [] [],.a [30,34] [],.m ⟨[(35,cD (.bool r11))],[]⟩ ⟨[(36,.c (.d (.bool false)))],[]⟩ [] [] [],.a [4,36] [],.a [36,37] [],.a [36,38] [],.a [1,39] [],.a [39,40] [],.a [4,39] [],.a [39,42] [],.a [39,41,43] [],.a [39,44] [],.a [39,45] [],.a [5,39] [],.a [39,47] [],.a [39,46,48] [],.a [36,39,49] [],.a [36,50] [],.a [51] []] [24,1,3,22,23] [1] (z00 6) (.a (.m ?_ (.a (.a (.m ?_ (.m ?_ (.a (.m ?_ (.a (.a (.a (.a (.a (.a (.a (.a (.a (.a (.a (.a (.a (.a (.a (.a .z)))))))))))))))))))))))) ?_
     ·exact z2s (fun b=> .val (.c (.d (.bool b))) (True)) (p:=a4) hp10 (fun r=>by kernel_rfl) (fun r=>by kernel_rfl) trivial (by kernel_rfl) (by kernel_rfl) (fun r=>rfl)
     ·exact DOk.one fun r hr=>z4a (e:=9) (es:=1) (z:=[.d (.str (bs []))]) (cells:=[.d (.str ((p0.files.getD i3 zzd).name))]) (z0b) ([(p0.files.getD i3 zzd).name]:List ByteArray) rfl (by kernel_rfl) rfl rfl (z2t (by kernel_rfl) (hr 33 (by simp))) (by kernel_rfl) rfl (by kernel_rfl) rfl rfl rfl (by kernel_rfl) rfl ⟨⟨rfl,.refl _⟩,trivial⟩
     ·exact DOk.cA [] [.c (oC 33 1 ([(p0.files.getD i3 zzd).name]:List ByteArray))] (z4p hr11) fun r=>(.cons (AVArg.view (z0b) ([(p0.files.getD i3 zzd).name]:List ByteArray) rfl) .nil)
     ·exact z2s (fun b=> .val (.c (.d (.bool b))) (True)) (p:=r11) hp12 (fun r=>by kernel_rfl) (fun r=>by kernel_rfl) trivial (by kernel_rfl) (by kernel_rfl) (fun r=>rfl)
     cases h;exact kr
   ·refine z29 [.a [3] [],.m ⟨[(29,cD (.bool a4))],[]⟩ ⟨[(30,.c (.d (.bool false)))],[]⟩ [] [] [],.a [5,30] [],.a [30,31] [],.a [30,32] [],.a [30,33] [],.a [30,34] [],.a [35] [],.a [4,36] [],.a [36,37] [],.a [36,38] [],.a [1,39] [],.a [39,40] [],.a [4,39] [],.a [39,42] [],.a [39,41,43] [],.a [39,44] [],.a [39,45] [],.a [5,39] [],.a [39,47] [],.a [39,46,48] [],.a [36,39,49] [],.a [36,50] [],.a [51] []] [24,1,3,22,23] [1] (z00 5) (.a (.m ?_ (.a (.a (.a (.a (.a (.a (.a (.a (.a (.a (.a (.a (.a (.a (.a (.a (.a (.a (.a (.a (.a (.a .z)))))))))))))))))))))))) ?_
    ·exact z2s (fun b=> .val (.c (.d (.bool b))) (True)) (p:=a4) hp10 (fun r=>by kernel_rfl) (fun r=>by kernel_rfl) trivial (by kernel_rfl) (by kernel_rfl) (fun r=>rfl)
    cases h;exact kr
  ·intro a5 h;refine z02 ?_;refine z0u (fun(a6:Bool)=>⟨[(63,cD (.bool a6))],[]⟩) h (fun a6 h=>?_) (fun j7 h=>?_)
   ·refine z07 h (fun h=>?_) (fun h=>?_)
    ·refine Tri.sg [2] [] (z00 1) ?_;refine Tri.ret ?_;cases h;exact RetAt.k
    ·refine Tri.skip ?_;refine Tri.sg [2] [] (z00 1) ?_;refine Tri.ret ?_;cases h;exact RetAt.k
   ·refine z04 ?_;refine At.sg 3 [1,55] [1] (z00 3) ?_;refine At.cs [55] h (fun h=>?_) (fun h=>?_)
    ·refine At.sg 8 [63] [] (z00 3) ?_;refine At.done rfl ?_;exact⟨_,h,kr⟩
    ·refine At.sg 2 [1,55,57] [1] (z00 2) ?_;obtain⟨r8,hr8,h⟩:=z05 h;refine At.cA [] [cD (lD 4 z03 p0.waits),cD (.fn 29 [])] (z1m hr8) (.cons (.refl _) (.cons (.refl _) .nil)) ?_;refine At.sg 2 [1,60] [1] (z00 2) ?_;refine At.cs [60] h (fun h=>?_) (fun h=>?_)
     ·refine At.sg 3 [63] [] (z00 1) ?_;refine At.done rfl ?_;exact⟨_,h,kr⟩
     ·refine At.sg 1 [60,61] [] (z00 1) ?_;obtain⟨r9,hr9,h⟩:=z05 h;refine At.cA [] [.agg (cDisk p0)] (zah hr9) (.cons (.refl _) .nil) ?_;refine At.sg 1 [63] [] (z00 1) ?_;refine At.done rfl ?_;exact⟨_,h,kr⟩
  ·exact fun x=>x.elim
 ·refine z04 ?_;refine At.sg 5 [1,10] [1] (z00 5) ?_;refine At.cs [10] h (fun h=>?_) (fun h=>?_)
  ·refine At.sg 6 [1,16] [1] (z00 6) ?_;refine At.cs [16] h (fun h=>?_) (fun h=>?_)
   ·refine At.sg 5 [1,3] [1] (z00 5) ?_;refine At.done rfl ?_;exact⟨_,h,kr⟩
   ·refine At.sg 5 [1,3] [1] (z00 2) ?_;refine At.done rfl ?_;exact⟨_,h,kr⟩
  ·refine At.sg 11 [1,3] [1] (z00 4) ?_;refine At.done rfl ?_;exact⟨_,h,kr⟩
theorem z1g {p0:List File}{q:List File}(h:z0a p0=some q):
 Summ Try.prog 19 [cD (lD 2 z01 p0)] [] (.c (oC 6000 2 q)) [(6000,vL 2 z01 q)]:=by
 refine Summ.i Try.func19 rfl [6000] fun w0 G0 V LL φ0=>?_;unfold z0a at h;refine Tri.sg [0] [] (z00 1) ?_;refine z02 ?_;refine z02 ?_;refine z04 ?_;refine At.seg 1 [0,3] [] (s':=⟨[(0,cD (lD 2 z01 p0)),(3,cD (lD 2 z01 p0))],[]⟩) (by kernel_rfl) (z00 1) ?_;have hnil:p0.length=0→(some ([]:List File))=(need (p0.length≤274877906944)<|some p0):=by intro h0;obtain rfl:=List.eq_nil_of_length_eq_zero h0;rfl
 refine za1 (e:=56) rfl rfl rfl rfl rfl (by kernel_rfl) rfl (fun h0=>?_) ?_
 ·replace h:=(hnil h0).trans h
  refine At.done rfl ?_;refine Tri.cond (b:=true) (by kernel_rfl) (fun _=>?_) (fun e=>by cases e);refine z37 [2] [] ⟨[(2,.c (.zero))],[]⟩ _ (by kernel_rfl) (z00 1) ?_;refine Tri.newOwn (t:=2) (k:=6000) (es:=2) (fun i=>z01 (([]:List File).getD i zzd)) rfl rfl rfl ?_;refine Tri.ret ?_;cases h;exact RetAt.k
 ·refine At.done rfl ?_;refine Tri.cond (b:=false) (by kernel_rfl) (fun e=>by cases e) (fun _=>?_);refine Tri.skip ?_;refine z02 ?_;refine z04 ?_;refine At.one rfl (z5v (e:=56) (es:=2) rfl rfl rfl rfl (by kernel_rfl) rfl) ?_;refine At.seg 1 [5,6] [] (s':=⟨[(5,.c (.zero)),(6,cD (lD 2 z01 p0))],[]⟩) (by kernel_rfl) (z00 1) ?_;obtain⟨hc1,h⟩:=z09 h;refine At.one rfl (z5g (e:=56) (es:=2) (m:=p0.length) (get:=fun i=>z01 (p0.getD i zzd)) rfl rfl rfl rfl (by kernel_rfl) (.of 56 32 [.d (.str (bs [])),.d (.str (bs []))] (by kernel_rfl) (by kernel_rfl) (by kernel_rfl) (by kernel_rfl) rfl (by kernel_rfl) rfl) rfl rfl (.list rfl (fun _ _=>rfl)) hc1) ?_;refine At.sg 1 [2] [7] (z00 1) ?_;refine At.done rfl ?_;refine Tri.keep [2] [7] (s':=⟨[(2,.c (oC 7 2 p0))],[(7,vL 2 z01 p0)]⟩) (by kernel_rfl) ?_;refine Tri.rename 7 6000 ⟨[(2,.c (oC 6000 2 p0))],[(6000,vL 2 z01 p0)]⟩ (by kernel_rfl) rfl rfl rfl ?_;refine Tri.ret ?_;cases h;exact RetAt.k
theorem z2k {p0:List Write}{q:List Write}(h:z0t p0=some q):
 Summ Try.prog 32 [cD (lD 4 z03 p0)] [] (.c (oC 6000 4 q)) [(6000,vL 4 z03 q)]:=by
 refine Summ.i Try.func32 rfl [6000] fun w0 G0 V LL φ0=>?_;unfold z0t at h;refine Tri.sg [0] [] (z00 1) ?_;refine z02 ?_;refine z02 ?_;refine z04 ?_;refine At.seg 1 [0,3] [] (s':=⟨[(0,cD (lD 4 z03 p0)),(3,cD (lD 4 z03 p0))],[]⟩) (by kernel_rfl) (z00 1) ?_;have hnil:p0.length=0→(some ([]:List Write))=(need (p0.length≤274877906944)<|some p0):=by intro h0;obtain rfl:=List.eq_nil_of_length_eq_zero h0;rfl
 refine za1 (e:=36) rfl rfl rfl rfl rfl (by kernel_rfl) rfl (fun h0=>?_) ?_
 ·replace h:=(hnil h0).trans h
  refine At.done rfl ?_;refine Tri.cond (b:=true) (by kernel_rfl) (fun _=>?_) (fun e=>by cases e);refine z37 [2] [] ⟨[(2,.c (.zero))],[]⟩ _ (by kernel_rfl) (z00 1) ?_;refine Tri.newOwn (t:=2) (k:=6000) (es:=4) (fun i=>z03 (([]:List Write).getD i zzd)) rfl rfl rfl ?_;refine Tri.ret ?_;cases h;exact RetAt.k
 ·refine At.done rfl ?_;refine Tri.cond (b:=false) (by kernel_rfl) (fun e=>by cases e) (fun _=>?_);refine Tri.skip ?_;refine z02 ?_;refine z04 ?_;refine At.one rfl (z5v (e:=36) (es:=4) rfl rfl rfl rfl (by kernel_rfl) rfl) ?_;refine At.seg 1 [5,6] [] (s':=⟨[(5,.c (.zero)),(6,cD (lD 4 z03 p0))],[]⟩) (by kernel_rfl) (z00 1) ?_;obtain⟨hc1,h⟩:=z09 h;refine At.one rfl (z5g (e:=36) (es:=4) (m:=p0.length) (get:=fun i=>z03 (p0.getD i zzd)) rfl rfl rfl rfl (by kernel_rfl) (.of 36 56 [.d (.int .u8 0),.d (.str (bs [])),.d (.str (bs [])),.d (.str (bs []))] (by kernel_rfl) (by kernel_rfl) (by kernel_rfl) (by kernel_rfl) rfl (by kernel_rfl) rfl) rfl rfl (.list rfl (fun _ _=>rfl)) hc1) ?_;refine At.sg 1 [2] [7] (z00 1) ?_;refine At.done rfl ?_;refine Tri.keep [2] [7] (s':=⟨[(2,.c (oC 7 4 p0))],[(7,vL 4 z03 p0)]⟩) (by kernel_rfl) ?_;refine Tri.rename 7 6000 ⟨[(2,.c (oC 6000 4 p0))],[(6000,vL 4 z03 p0)]⟩ (by kernel_rfl) rfl rfl rfl ?_;refine Tri.ret ?_;cases h;exact RetAt.k
theorem z56 {fuel:Nat}{p1:ByteArray}{l0:List File}{v1 v2 v3 v4 v5:Go.Value}{q:File×Bool×(List File)}(h:z30 fuel p1 l0=some q):
 Summ Try.prog 35 [.c (.ptr 5000 0),cD (.str p1)] [(5000,.box [oC 5100 2 l0,.raw v1,.raw v2,.raw v3,.raw v4,.raw v5]),(5100,vL 2 z01 l0)] (.tup [(true,[.d (.str q.1.name),.d (.str q.1.data)]),(false,[.d (.bool q.2.1)])]) [(5150,vL 2 z01 q.2.2),(5000,.box [oC 5150 2 q.2.2,.raw v1,.raw v2,.raw v3,.raw v4,.raw v5])]:=by
 refine Summ.i Try.func35 rfl [5150] fun w0 G0 V LL φ0=>?_;unfold z30 at h;refine Tri.rename 5100 5150 ⟨[(0,.c (.ptr 5000 0)),(1,cD (.str p1))],[(5000,.box [oC 5150 2 l0,.raw v1,.raw v2,.raw v3,.raw v4,.raw v5]),(5150,vL 2 z01 l0)]⟩ (by kernel_rfl) rfl rfl rfl ?_;refine Tri.sg [0,1,4] [4,5000,5150] (z00 2) ?_;refine z02 ?_;refine z04 ?_;refine At.seg 4 [0,4,12,13] [4,5000,5150] (s':=⟨[(0,.c (.ptr 5000 0)),(4,.c (.ptr 4 0)),(12,.c (oC 5150 2 l0)),(13,cD (.str p1))],[(4,.box [.d (.str (bs [])),.d (.str (bs []))]),(5000,.box [oC 5150 2 l0,.raw v1,.raw v2,.raw v3,.raw v4,.raw v5]),(5150,vL 2 z01 l0)]⟩) (by kernel_rfl) (z00 4) ?_;obtain⟨r1,hr1,h⟩:=z05 h;refine At.cA [] [.c (oC 5150 2 l0),cD (.str p1)] (z17 hr1) (.cons (AVArg.view (z01) l0 rfl) (.cons (.refl _) .nil)) ?_;refine At.sg 5 [0,4,6,7] [4,5000,5150] (z00 5) ?_;refine At.done rfl ?_;refine z02 ?_;refine Tri.sg [0,4,6,18] [4,5000,5150] (z00 2) ?_;refine z07 h (fun h=>?_) (fun h=>?_)
 ·refine Tri.sg [4,5] [4,5000,5150] (z00 3) ?_;refine Tri.ret ?_;cases h;exact RetAt.k
 ·refine Tri.skip ?_;obtain⟨hc2,h⟩:=z09 h;obtain⟨hc3,h⟩:=z09 h;refine Tri.sg [0,4,6,8] [4,8,5000,5150] (tN 4 (ai hc2 (ai hc3 (z00 2)))) ?_;refine z02 ?_;refine z04 ?_;refine At.seg 7 [4,8,26,29,30,32] [4,8,5000,5150] (s':=⟨[(4,.c (.ptr 4 0)),(8,.c (.ptr 8 0)),(26,.c (.ptr 5000 0)),(29,.c (oC 5150 2 l0)),(30,cD (dI r1.1)),(32,cD (dI (zzi.wrap (r1.1+1))))],[(4,.box [.d (.str (bs [])),.d (.str (bs []))]),(8,.box (cFile (l0.getD (0+r1.1.toNat) zzd))),(5000,.box [oC 5150 2 l0,.raw v1,.raw v2,.raw v3,.raw v4,.raw v5]),(5150,vL 2 z01 l0)]⟩) (by kernel_rfl) (z00 7) ?_;obtain⟨r4,hr4,h⟩:=z05 h;refine At.one rfl (z6h (k:=5150) (d:=33) (v:=vL 2 z01 r4) (av:= .c (oC 5150 2 r4)) (nf:=0) (caps:=[]) (xs:=[.c (oC 5150 2 l0),cD (dI r1.1),cD (dI (zzi.wrap (r1.1+1)))]) [(5000,5150),(6000,5150)] (z42 hr4) rfl rfl (by kernel_rfl) rfl (by kernel_rfl) (by kernel_rfl) (.ren rfl rfl (.flat (.refl _) rfl rfl (.flat (.refl _) rfl rfl .nil))) ⟨⟨by kernel_rfl,by kernel_rfl⟩,trivial⟩ (by kernel_rfl) (by kernel_rfl) (by kernel_rfl) (by kernel_rfl) (by kernel_rfl) (by kernel_rfl) (by kernel_rfl) (by first|kernel_rfl|(show _=_;kernel_rfl)) (by first|kernel_rfl|(show _=_;kernel_rfl))) ?_;refine At.sg 2 [4,8] [4,8,5000,5150] (z00 2) ?_;refine At.done rfl ?_;refine Tri.sg [4,5] [4,5000,5150] (z00 3) ?_;refine Tri.ret ?_;cases h;exact RetAt.k
theorem z3r {fuel:Nat}{p1:File}{l0:List File}{v1 v2 v3 v4 v5:Go.Value}{q:List File}(h:z25 fuel p1 l0=some q):
 Summ Try.prog 36 [.c (.ptr 5000 0),.agg (cFile p1)] [(5000,.box [oC 5100 2 l0,.raw v1,.raw v2,.raw v3,.raw v4,.raw v5]),(5100,vL 2 z01 l0)] (.tup []) [(5150,vL 2 z01 q),(5000,.box [oC 5150 2 q,.raw v1,.raw v2,.raw v3,.raw v4,.raw v5])]:=by
 refine Summ.i Try.func36 rfl [5150] fun w0 G0 V LL φ0=>?_;unfold z25 at h;refine Tri.rename 5100 5150 ⟨[(0,.c (.ptr 5000 0)),(1,.agg (cFile p1))],[(5000,.box [oC 5150 2 l0,.raw v1,.raw v2,.raw v3,.raw v4,.raw v5]),(5150,vL 2 z01 l0)]⟩ (by kernel_rfl) rfl rfl rfl ?_;refine Tri.sg [0,3] [3,5000,5150] (z00 1) ?_;refine z02 ?_;obtain⟨r1,hr1,h⟩:=z05 h;refine z29 [.a [0] [],.a [7] [],.a [8] [5000],.a [3] [],.a [10] [3],.m ⟨[(9,.c (oC 5150 2 l0)),(11,cD (.str p1.name))],[(5150,vL 2 z01 l0)]⟩ ⟨[(12,.tup [(false,[.d (dI r1.1)]),(false,[.d (.bool r1.2)])])],[]⟩ [] [] [],.a [12] [],.a [6] [],.a [6] [],.a [13] [],.a [14] []] [0,3,4,5] [3,5000,5150] (z00 10) (.a (.a (.a (.a (.a (.m ?_ (.a (.a (.a (.a (.a .z))))))))))) ?_
 ·exact DOk.cA [] [.c (oC 5150 2 l0),cD (.str p1.name)] (z17 hr1) fun r=>(.cons (AVArg.view (z01) l0 rfl) (.cons (.refl _) .nil))
 refine z02 ?_;refine z37 [0,3,4,15] [3,5000,5150] ⟨[(0,.c (.ptr 5000 0)),(3,.c (.ptr 3 0)),(4,cD (dI r1.1)),(15,cD (.bool r1.2))],[(3,.box (cFile p1)),(5000,.box [oC 5150 2 l0,.raw v1,.raw v2,.raw v3,.raw v4,.raw v5]),(5150,vL 2 z01 l0)]⟩ _ (by kernel_rfl) (z00 1) ?_;refine z07 h (fun h=>?_) (fun h=>?_)
 ·refine z02 ?_;obtain⟨hc2,h⟩:=z09 h;obtain⟨hc3,h⟩:=z09 h;refine za4 ⟨[],[(5000,.box [oC 5150 2 l0,.raw v1,.raw v2,.raw v3,.raw v4,.raw v5]),(5150,vL 2 z01 (l0.set (0+r1.1.toNat) p1))]⟩ ?_ ?_
  ·refine Tri.dS ⟨[],[(5000,.box [oC 5150 2 l0,.raw v1,.raw v2,.raw v3,.raw v4,.raw v5]),(5150,vL 2 z01 (l0.set (0+r1.1.toNat) p1))]⟩ [.a [0] [],.a [16] [],.a [17] [5000],.a [4] [],.a [3] [3],.a [18,19] [5150],.m ⟨[(20,.agg (cFile p1)),(21,.c (.vptr 5150 2 (0+r1.1.toNat) 0))],[(5150,vL 2 z01 l0)]⟩ ⟨[],[(5150,vL 2 z01 (l0.set (0+r1.1.toNat) p1))]⟩ [] [] []] [] [5000,5150] (tN 5 (ai hc2 trivial)) (.a (.a (.a (.a (.a (.a (.m ?_ .z))))))) ?_
   ·exact DOk.one fun r hr=>z4y (xs:=[.d (.str p1.name),.d (.str p1.data)]) (ds:=[.str p1.name,.str p1.data]) (z01) l0 p1 rfl (by kernel_rfl) rfl rfl rfl hc3 rfl rfl (.refl _) rfl rfl rfl rfl
   exact⟨rfl,rfl⟩
  ·refine At.eqS (s':=⟨[],[(5000,.box [oC 5150 2 (l0.set (0+r1.1.toNat) p1),.raw v1,.raw v2,.raw v3,.raw v4,.raw v5]),(5150,vL 2 z01 (l0.set (0+r1.1.toNat) p1))]⟩) (by simp only[oC,vL,List.length_set]) ?_;refine At.done rfl ?_;refine Tri.ret ?_;cases h;exact RetAt.k
 ·refine Tri.skip ?_;obtain⟨r4,hr4,h⟩:=z05 h;refine z29 [.a [0] [],.a [0] [],.a [23] [],.a [24] [5000],.a [4] [],.a [3] [3],.m ⟨[(27,.agg (cFile p1))],[]⟩ ⟨[(28,.c (oC 28 2 ([p1]:List File)))],[(28,vL 2 z01 ([p1]:List File))]⟩ [28] [] [],.m ⟨[(25,.c (oC 5150 2 l0)),(26,cD (dI r1.1)),(28,.c (oC 28 2 ([p1]:List File)))],[(28,vL 2 z01 ([p1]:List File)),(5000,.box [oC 5150 2 l0,.raw v1,.raw v2,.raw v3,.raw v4,.raw v5]),(5150,vL 2 z01 l0)]⟩ ⟨[(29,.c (oC 5150 2 r4)),(25,.c (.any))],[(5150,vL 2 z01 r4),(5000,.box [.any,.raw v1,.raw v2,.raw v3,.raw v4,.raw v5])]⟩ [5150] [25] [5000],.a [22] [],.m ⟨[(29,.c (oC 5150 2 r4)),(30,.c (.ptr 5000 0))],[(5000,.box [.any,.raw v1,.raw v2,.raw v3,.raw v4,.raw v5]),(5150,vL 2 z01 r4)]⟩ ⟨[],[(5000,.box [oC 5150 2 r4,.raw v1,.raw v2,.raw v3,.raw v4,.raw v5])]⟩ [] [] []] [] [5000,5150] (z00 7) (.a (.a (.a (.a (.a (.a (.m ?_ (.m ?_ (.a (.m ?_ .z)))))))))) ?_
  ·exact DOk.one fun r hr=>z4a (e:=56) (es:=2) (z:=[.d (.str (bs [])),.d (.str (bs []))]) (cells:=[.d (.str p1.name),.d (.str p1.data)]) (z01) ([p1]:List File) rfl (by kernel_rfl) rfl rfl (z2t (by kernel_rfl) (hr 28 (by simp))) (by kernel_rfl) rfl (by kernel_rfl) rfl rfl rfl (by kernel_rfl) rfl ⟨⟨rfl,.refl _⟩,trivial⟩
  ·exact DOk.drop (k:=5150) (d:=29) (v:=vL 2 z01 r4) (av:= .c (oC 5150 2 r4)) rfl (fun r hr=>z6h (nf:=0) (caps:=[]) (xs:=[.c (oC 5150 2 l0),cD (dI r1.1),.c (oC 28 2 ([p1]:List File))]) [(5000,5150),(6000,5150)] (z3k hr4) rfl rfl (by kernel_rfl) rfl (by kernel_rfl) (by kernel_rfl) (.ren rfl rfl (.flat (.refl _) rfl rfl (.flat (AVArg.view (z01) ([p1]:List File) rfl) rfl rfl .nil))) ⟨⟨by kernel_rfl,by kernel_rfl⟩,trivial⟩ (by kernel_rfl) (by kernel_rfl) (by kernel_rfl) (by kernel_rfl) (by kernel_rfl) (by kernel_rfl) (by kernel_rfl) (by first|kernel_rfl|(show _=_;kernel_rfl)) (by first|kernel_rfl|(show _=_;kernel_rfl))) (by kernel_rfl) (by kernel_rfl) (by kernel_rfl) (by kernel_rfl)
  ·exact DOk.step (.turn 5000 (.box [oC 5150 2 r4,.raw v1,.raw v2,.raw v3,.raw v4,.raw v5])) (fun r=>by kernel_rfl) (fun r=>by kernel_rfl) trivial (by kernel_rfl) (by kernel_rfl) (fun r=>rfl)
  cases h;exact RetAt.k
theorem z53 {fuel:Nat}{p1:List Write}{l0:List File}{v1 v2 v3 v4 v5:Go.Value}{q:List File}(h:z2c fuel p1 l0=some q):
 Summ Try.prog 20 [.c (.ptr 5000 0),.c (wC 4 z03 p1)] [(5000,.box [oC 5100 2 l0,.raw v1,.raw v2,.raw v3,.raw v4,.raw v5]),(5100,vL 2 z01 l0)] (.tup []) [(5150,vL 2 z01 q),(5000,.box [oC 5150 2 q,.raw v1,.raw v2,.raw v3,.raw v4,.raw v5])]:=by
 refine Summ.i Try.func20 rfl [5150] fun w0 G0 V LL φ0=>?_;unfold z2c at h;refine Tri.rename 5100 5150 ⟨[(0,.c (.ptr 5000 0)),(1,.c (wC 4 z03 p1))],[(5000,.box [oC 5150 2 l0,.raw v1,.raw v2,.raw v3,.raw v4,.raw v5]),(5150,vL 2 z01 l0)]⟩ (by kernel_rfl) rfl rfl rfl ?_;refine Tri.sg [0,8,9,10] [5000,5150] (z00 3) ?_;refine Tri.ln 8 p1.length fun hlena2=>?_;refine z36 10 (l0) (fun(x:Empty) s=>False) (fun(a2:List File)=>⟨[(0,.c (.ptr 5000 0)),(8,.c (wC 4 z03 p1)),(9,cD (dI (p1.length:Int)))],[(5000,.box [oC 5150 2 a2,.raw v1,.raw v2,.raw v3,.raw v4,.raw v5]),(5150,vL 2 z01 a2)]⟩) [10,0,8,9] [5000,5150] [11,10,0,8,9] [5000,5150] [] [5000,5150] [10,0,8,9] [5000,5150] h hlena2 ?_ ?_ ?_
 ·intro i1 a2 c hii1 h;refine Tri.sg [0,5,8,9,10] [5,5000,5150] (ai (show((0:Int)≤((i1:Nat):Int)∧((i1:Nat):Int)<(p1.length:Int))from⟨by omega,by omega⟩) (z00 3)) ?_;refine z02 ?_;refine z04 ?_;refine At.seg 3 [0,5,8,9,10,15,17] [5,5000,5150] (s':=⟨[(0,.c (.ptr 5000 0)),(5,.c (.ptr 5 0)),(8,.c (wC 4 z03 p1)),(9,cD (dI (p1.length:Int))),(10,cD (dI ((i1:Nat):Int))),(15,.c (.ptr 5000 0)),(17,cD (.str ((p1.getD i1 zzd).name)))],[(5,.box (cWrite (p1.getD i1 zzd))),(5000,.box [oC 5150 2 a2,.raw v1,.raw v2,.raw v3,.raw v4,.raw v5]),(5150,vL 2 z01 a2)]⟩) (by kernel_rfl) (z00 3) ?_;obtain⟨r4,hr4,h⟩:=z05 h;refine At.callR (sl3:=[(5150,vL 2 z01 r4.2.2),(5000,.box [oC 5150 2 r4.2.2,.raw v1,.raw v2,.raw v3,.raw v4,.raw v5])]) (nf:=0) (caps:=[]) (xs:=[.c (.ptr 5000 0),cD (.str ((p1.getD i1 zzd).name))]) [(5000,5000),(5100,5150),(5150,5150)] [0,5,8,9,10] [5] (s0:=⟨[(0,.c (.ptr 5000 0)),(5,.c (.ptr 5 0)),(8,.c (wC 4 z03 p1)),(9,cD (dI (p1.length:Int))),(10,cD (dI ((i1:Nat):Int)))],[(5,.box (cWrite (p1.getD i1 zzd)))]⟩) 5000 [false,true,true,true,true,true] [oC 5150 2 a2,.raw v1,.raw v2,.raw v3,.raw v4,.raw v5] [oC 5150 2 r4.2.2,.raw v1,.raw v2,.raw v3,.raw v4,.raw v5] (fun u=>z56 (v1:=u 1) (v2:=u 2) (v3:=u 3) (v4:=u 4) (v5:=u 5) hr4) rfl rfl (fun u=>by kernel_rfl) rfl (fun u=>by kernel_rfl) (fun u=>by kernel_rfl) (fun u=>(.ren rfl rfl (.flat (.refl _) rfl rfl .nil))) (fun u=>⟨⟨by kernel_rfl,by kernel_rfl⟩,⟨by kernel_rfl,by kernel_rfl⟩,trivial⟩) (fun u=>by kernel_rfl) (fun u=>by kernel_rfl) (fun u=>by kernel_rfl) (fun u=>by kernel_rfl) rfl (fun u=>by kernel_rfl) (fun u=>by kernel_rfl) rfl rfl (fun u=>by kernel_rfl) (by kernel_rfl) (fun u=>by kernel_rfl) (fun u=>by kernel_rfl) (fun u=>by kernel_rfl) (fun u=>by kernel_rfl) ⟨[(18,.tup [(true,[.d (.str r4.1.name),.d (.str r4.1.data)]),(false,[.d (.bool r4.2.1)])]),(0,.c (.ptr 5000 0)),(5,.c (.ptr 5 0)),(8,.c (wC 4 z03 p1)),(9,cD (dI (p1.length:Int))),(10,cD (dI ((i1:Nat):Int)))],[(5150,vL 2 z01 r4.2.2),(5000,.box [oC 5150 2 r4.2.2,.raw v1,.raw v2,.raw v3,.raw v4,.raw v5]),(5,.box (cWrite (p1.getD i1 zzd)))]⟩ (by kernel_rfl) ?_;refine At.sg 6 [0,5,6,7,8,9,10] [5,6,5000,5150] (z00 6) ?_;refine At.done rfl ?_;refine z3b ?_;refine Tri.sg [0,5,6,7,8,9,10,21] [5,6,5000,5150] (z00 4) ?_;refine z07 h (fun h=>?_) (fun h=>?_)
  ·refine z04 ?_;obtain⟨hc5,h⟩:=z09 h;refine At.seg 9 [0,8,9,10,25,33] [5000,5150] (s':=⟨[(0,.c (.ptr 5000 0)),(8,.c (wC 4 z03 p1)),(9,cD (dI (p1.length:Int))),(10,cD (dI ((i1:Nat):Int))),(25,.c (.ptr 5000 0)),(33,.agg [.d (.str ((p1.getD i1 zzd).name)),.d (.str (r4.1.data++((p1.getD i1 zzd).data)))])],[(5000,.box [oC 5150 2 r4.2.2,.raw v1,.raw v2,.raw v3,.raw v4,.raw v5]),(5150,vL 2 z01 r4.2.2)]⟩) (by kernel_rfl) (tN 7 (ai hc5 (z00 1))) ?_;obtain⟨r6,hr6,h⟩:=z05 h;refine At.callR (sl3:=[(5150,vL 2 z01 r6),(5000,.box [oC 5150 2 r6,.raw v1,.raw v2,.raw v3,.raw v4,.raw v5])]) (nf:=0) (caps:=[]) (xs:=[.c (.ptr 5000 0),.agg [.d (.str ((p1.getD i1 zzd).name)),.d (.str (r4.1.data++((p1.getD i1 zzd).data)))]]) [(5000,5000),(5100,5150),(5150,5150)] [0,8,9,10] [] (s0:=⟨[(0,.c (.ptr 5000 0)),(8,.c (wC 4 z03 p1)),(9,cD (dI (p1.length:Int))),(10,cD (dI ((i1:Nat):Int)))],[]⟩) 5000 [false,true,true,true,true,true] [oC 5150 2 r4.2.2,.raw v1,.raw v2,.raw v3,.raw v4,.raw v5] [oC 5150 2 r6,.raw v1,.raw v2,.raw v3,.raw v4,.raw v5] (fun u=>z3r (v1:=u 1) (v2:=u 2) (v3:=u 3) (v4:=u 4) (v5:=u 5) hr6) rfl rfl (fun u=>by kernel_rfl) rfl (fun u=>by kernel_rfl) (fun u=>by kernel_rfl) (fun u=>(.ren rfl rfl (.flat (.refl _) rfl rfl .nil))) (fun u=>⟨⟨by kernel_rfl,by kernel_rfl⟩,⟨by kernel_rfl,by kernel_rfl⟩,trivial⟩) (fun u=>by kernel_rfl) (fun u=>by kernel_rfl) (fun u=>by kernel_rfl) (fun u=>by kernel_rfl) rfl (fun u=>by kernel_rfl) (fun u=>by kernel_rfl) rfl rfl (fun u=>by kernel_rfl) (by kernel_rfl) (fun u=>by kernel_rfl) (fun u=>by kernel_rfl) (fun u=>by kernel_rfl) (fun u=>by kernel_rfl) ⟨[(34,.tup []),(0,.c (.ptr 5000 0)),(8,.c (wC 4 z03 p1)),(9,cD (dI (p1.length:Int))),(10,cD (dI ((i1:Nat):Int)))],[(5150,vL 2 z01 r6),(5000,.box [oC 5150 2 r6,.raw v1,.raw v2,.raw v3,.raw v4,.raw v5])]⟩ (by kernel_rfl) ?_;refine At.keep [10,0,8,9] [5000,5150] (s':=⟨[(10,cD (dI ((i1:Nat):Int))),(0,.c (.ptr 5000 0)),(8,.c (wC 4 z03 p1)),(9,cD (dI (p1.length:Int)))],[(5000,.box [oC 5150 2 r6,.raw v1,.raw v2,.raw v3,.raw v4,.raw v5]),(5150,vL 2 z01 r6)]⟩) (by kernel_rfl) ?_;refine At.done rfl ?_;cases h;exact kr
  ·refine z0u (fun(a7:Bool)=>⟨[(0,.c (.ptr 5000 0)),(5,.c (.ptr 5 0)),(6,.c (.ptr 6 0)),(8,.c (wC 4 z03 p1)),(9,cD (dI (p1.length:Int))),(10,cD (dI ((i1:Nat):Int))),(35,cD (.bool a7))],[(5,.box (cWrite (p1.getD i1 zzd))),(6,.box (cFile r4.1)),(5000,.box [oC 5150 2 r4.2.2,.raw v1,.raw v2,.raw v3,.raw v4,.raw v5]),(5150,vL 2 z01 r4.2.2)]⟩) h (fun a7 h=>?_) (fun j8 h=>?_)
   ·refine z07 h (fun h=>?_) (fun h=>?_)
    ·refine z04 ?_;refine At.seg 6 [0,8,9,10,42,47] [5000,5150] (s':=⟨[(0,.c (.ptr 5000 0)),(8,.c (wC 4 z03 p1)),(9,cD (dI (p1.length:Int))),(10,cD (dI ((i1:Nat):Int))),(42,.c (.ptr 5000 0)),(47,.agg [.d (.str ((p1.getD i1 zzd).to_)),.d (.str r4.1.data)])],[(5000,.box [oC 5150 2 r4.2.2,.raw v1,.raw v2,.raw v3,.raw v4,.raw v5]),(5150,vL 2 z01 r4.2.2)]⟩) (by kernel_rfl) (z00 6) ?_;obtain⟨r9,hr9,h⟩:=z05 h;refine At.callR (sl3:=[(5150,vL 2 z01 r9),(5000,.box [oC 5150 2 r9,.raw v1,.raw v2,.raw v3,.raw v4,.raw v5])]) (nf:=0) (caps:=[]) (xs:=[.c (.ptr 5000 0),.agg [.d (.str ((p1.getD i1 zzd).to_)),.d (.str r4.1.data)]]) [(5000,5000),(5100,5150),(5150,5150)] [0,8,9,10] [] (s0:=⟨[(0,.c (.ptr 5000 0)),(8,.c (wC 4 z03 p1)),(9,cD (dI (p1.length:Int))),(10,cD (dI ((i1:Nat):Int)))],[]⟩) 5000 [false,true,true,true,true,true] [oC 5150 2 r4.2.2,.raw v1,.raw v2,.raw v3,.raw v4,.raw v5] [oC 5150 2 r9,.raw v1,.raw v2,.raw v3,.raw v4,.raw v5] (fun u=>z3r (v1:=u 1) (v2:=u 2) (v3:=u 3) (v4:=u 4) (v5:=u 5) hr9) rfl rfl (fun u=>by kernel_rfl) rfl (fun u=>by kernel_rfl) (fun u=>by kernel_rfl) (fun u=>(.ren rfl rfl (.flat (.refl _) rfl rfl .nil))) (fun u=>⟨⟨by kernel_rfl,by kernel_rfl⟩,⟨by kernel_rfl,by kernel_rfl⟩,trivial⟩) (fun u=>by kernel_rfl) (fun u=>by kernel_rfl) (fun u=>by kernel_rfl) (fun u=>by kernel_rfl) rfl (fun u=>by kernel_rfl) (fun u=>by kernel_rfl) rfl rfl (fun u=>by kernel_rfl) (by kernel_rfl) (fun u=>by kernel_rfl) (fun u=>by kernel_rfl) (fun u=>by kernel_rfl) (fun u=>by kernel_rfl) ⟨[(48,.tup []),(0,.c (.ptr 5000 0)),(8,.c (wC 4 z03 p1)),(9,cD (dI (p1.length:Int))),(10,cD (dI ((i1:Nat):Int)))],[(5150,vL 2 z01 r9),(5000,.box [oC 5150 2 r9,.raw v1,.raw v2,.raw v3,.raw v4,.raw v5])]⟩ (by kernel_rfl) ?_;refine At.keep [10,0,8,9] [5000,5150] (s':=⟨[(10,cD (dI ((i1:Nat):Int))),(0,.c (.ptr 5000 0)),(8,.c (wC 4 z03 p1)),(9,cD (dI (p1.length:Int)))],[(5000,.box [oC 5150 2 r9,.raw v1,.raw v2,.raw v3,.raw v4,.raw v5]),(5150,vL 2 z01 r9)]⟩) (by kernel_rfl) ?_;refine At.done rfl ?_;cases h;exact kr
    ·refine Tri.kp [10,0,8,9] [5000,5150] ?_;refine Tri.skip ?_;cases h;exact kr
   ·refine z04 ?_;refine At.sg 2 [0,5,6,8,9,10,37] [5,6,5000,5150] (z00 2) ?_;refine At.cs [37] h (fun h=>?_) (fun h=>?_)
    ·refine At.sg 5 [0,5,6,8,9,10,35] [5,6,5000,5150] (z00 5) ?_;refine At.done rfl ?_;exact⟨_,h,kr⟩
    ·refine At.sg 5 [0,5,6,8,9,10,35] [5,6,5000,5150] (z00 2) ?_;refine At.done rfl ?_;exact⟨_,h,kr⟩
 ·intro a3 h;cases h;exact RetAt.k
 ·exact fun x=>x.elim
theorem z2j {p0:List File}{q:List File}(h:z0a p0=some q):
 Summ Try.prog 19 [.c (wC 2 z01 p0)] [] (.c (oC 6000 2 q)) [(6000,vL 2 z01 q)]:=by
 refine Summ.i Try.func19 rfl [6000] fun w0 G0 V LL φ0=>?_;unfold z0a at h;refine Tri.sg [0] [] (z00 1) ?_;refine z02 ?_;refine z02 ?_;refine z04 ?_;refine At.seg 1 [0,3] [] (s':=⟨[(0,.c (wC 2 z01 p0)),(3,.c (wC 2 z01 p0))],[]⟩) (by kernel_rfl) (z00 1) ?_;have hnil:p0.length=0→(some ([]:List File))=(need (p0.length≤274877906944)<|some p0):=by intro h0;obtain rfl:=List.eq_nil_of_length_eq_zero h0;rfl
 refine z9i (e:=56) rfl rfl rfl rfl rfl (by kernel_rfl) rfl (fun h0=>?_) ?_
 ·replace h:=(hnil h0).trans h
  refine At.done rfl ?_;refine Tri.cond (b:=true) (by kernel_rfl) (fun _=>?_) (fun e=>by cases e);refine z37 [2] [] ⟨[(2,.c (.zero))],[]⟩ _ (by kernel_rfl) (z00 1) ?_;refine Tri.newOwn (t:=2) (k:=6000) (es:=2) (fun i=>z01 (([]:List File).getD i zzd)) rfl rfl rfl ?_;refine Tri.ret ?_;cases h;exact RetAt.k
 ·refine At.done rfl ?_;refine Tri.cond (b:=false) (by kernel_rfl) (fun e=>by cases e) (fun _=>?_);refine Tri.skip ?_;refine z02 ?_;refine z04 ?_;refine At.one rfl (z5v (e:=56) (es:=2) rfl rfl rfl rfl (by kernel_rfl) rfl) ?_;refine At.seg 1 [5,6] [] (s':=⟨[(5,.c (.zero)),(6,.c (wC 2 z01 p0))],[]⟩) (by kernel_rfl) (z00 1) ?_;obtain⟨hc1,h⟩:=z09 h;refine At.one rfl (z5g (e:=56) (es:=2) (m:=p0.length) (get:=fun i=>z01 (p0.getD i zzd)) rfl rfl rfl rfl (by kernel_rfl) (.of 56 32 [.d (.str (bs [])),.d (.str (bs []))] (by kernel_rfl) (by kernel_rfl) (by kernel_rfl) (by kernel_rfl) rfl (by kernel_rfl) rfl) rfl rfl (.view rfl (fun _ _=>rfl)) hc1) ?_;refine At.sg 1 [2] [7] (z00 1) ?_;refine At.done rfl ?_;refine Tri.keep [2] [7] (s':=⟨[(2,.c (oC 7 2 p0))],[(7,vL 2 z01 p0)]⟩) (by kernel_rfl) ?_;refine Tri.rename 7 6000 ⟨[(2,.c (oC 6000 2 p0))],[(6000,vL 2 z01 p0)]⟩ (by kernel_rfl) rfl rfl rfl ?_;refine Tri.ret ?_;cases h;exact RetAt.k
theorem z69 {fuel:Nat}{p0:Disk}{q:Desk}(h:z46 fuel p0=some q):
 Summ Try.prog 16 [.agg (cDisk p0)] [] (.c (.ptr 6000 0)) [(6100,vL 2 z01 q.files),(6101,vL 2 z01 q.disk.files),(6102,vL 4 z03 q.disk.waits),(6000,.box [oC 6100 2 q.files,oC 6101 2 q.disk.files,oC 6102 4 q.disk.waits,.d (dI q.disk.room),.d (.bool q.disk.down),.d (dI q.disk.fuse)])]:=by
 refine Summ.i Try.func16 rfl [6000,6100,6101,6102] fun w0 G0 V LL φ0=>?_;unfold z46 at h;refine Tri.sg [1] [1] (z00 2) ?_;refine z02 ?_;obtain⟨r1,hr1,h⟩:=z05 h;obtain⟨r2,hr2,h⟩:=z05 h;refine z29 [.a [1] [],.a [4] [1],.m ⟨[(5,cD (lD 2 z01 p0.files))],[]⟩ ⟨[(6,.c (oC 30096 2 r1))],[(30096,vL 2 z01 r1)]⟩ [30096] [] [],.a [1] [],.a [7] [1],.m ⟨[(8,cD (lD 4 z03 p0.waits))],[]⟩ ⟨[(9,.c (oC 30144 4 r2))],[(30144,vL 4 z03 r2)]⟩ [30144] [] [],.a [1] [],.m ⟨[(6,.c (oC 30096 2 r1)),(10,.c (.ptr 1 0))],[(1,.box (cDisk p0)),(30096,vL 2 z01 r1)]⟩ ⟨[],[(1,.box [oC 30096 2 r1,.d (lD 4 z03 p0.waits),.d (dI p0.room),.d (.bool p0.down),.d (dI p0.fuse)])]⟩ [] [] [],.a [1] [],.m ⟨[(9,.c (oC 30144 4 r2)),(11,.c (.ptr 1 1))],[(1,.box [oC 30096 2 r1,.d (lD 4 z03 p0.waits),.d (dI p0.room),.d (.bool p0.down),.d (dI p0.fuse)]),(30144,vL 4 z03 r2)]⟩ ⟨[],[(1,.box [oC 30096 2 r1,oC 30144 4 r2,.d (dI p0.room),.d (.bool p0.down),.d (dI p0.fuse)])]⟩ [] [] []] [1] [1,30096,30144] (z00 6) (.a (.a (.m ?_ (.a (.a (.m ?_ (.a (.m ?_ (.a (.m ?_ .z)))))))))) ?_
 ·exact DOk.callL (nf:=0) (caps:=[]) (xs:=[cD (lD 2 z01 p0.files)]) [(6000,30096)] (z1g hr1) rfl (fun r=>by kernel_rfl) rfl (fun r=>by kernel_rfl) (fun r=>by kernel_rfl) (fun r=>(.flat (.refl _) rfl rfl .nil)) (fun r=>trivial) (by kernel_rfl) (by kernel_rfl) (by kernel_rfl) (by kernel_rfl) (by kernel_rfl) (by kernel_rfl) (by kernel_rfl) (by kernel_rfl) (by kernel_rfl) (by kernel_rfl) (by first|kernel_rfl|(show _=_;kernel_rfl))
 ·exact DOk.callL (nf:=0) (caps:=[]) (xs:=[cD (lD 4 z03 p0.waits)]) [(6000,30144)] (z2k hr2) rfl (fun r=>by kernel_rfl) rfl (fun r=>by kernel_rfl) (fun r=>by kernel_rfl) (fun r=>(.flat (.refl _) rfl rfl .nil)) (fun r=>trivial) (by kernel_rfl) (by kernel_rfl) (by kernel_rfl) (by kernel_rfl) (by kernel_rfl) (by kernel_rfl) (by kernel_rfl) (by kernel_rfl) (by kernel_rfl) (by kernel_rfl) (by first|kernel_rfl|(show _=_;kernel_rfl))
 ·exact DOk.step (.turn 1 (.box [oC 30096 2 r1,.d (lD 4 z03 p0.waits),.d (dI p0.room),.d (.bool p0.down),.d (dI p0.fuse)])) (fun r=>by kernel_rfl) (fun r=>by kernel_rfl) trivial (by kernel_rfl) (by kernel_rfl) (fun r=>rfl)
 ·exact DOk.step (.turn 1 (.box [oC 30096 2 r1,oC 30144 4 r2,.d (dI p0.room),.d (.bool p0.down),.d (dI p0.fuse)])) (fun r=>by kernel_rfl) (fun r=>by kernel_rfl) trivial (by kernel_rfl) (by kernel_rfl) (fun r=>rfl)
 refine z02 ?_;obtain⟨r3,hr3,h⟩:=z05 h;refine z29 [.a [1] [],.a [12] [1],.m ⟨[(13,.c (oC 30096 2 r1))],[(30096,vL 2 z01 r1)]⟩ ⟨[(14,.c (oC 30224 2 r3))],[(30224,vL 2 z01 r3)]⟩ [30224] [] [],.a [1] [1],.a [14,15] [],.m ⟨[(16,.agg [oC 30224 2 r3,oC 30096 2 r1,oC 30144 4 r2,.d (dI p0.room),.d (.bool p0.down),.d (dI p0.fuse)])],[]⟩ ⟨[(17,.c (.ptr 17 0))],[(17,.box [oC 30224 2 r3,oC 30096 2 r1,oC 30144 4 r2,.d (dI p0.room),.d (.bool p0.down),.d (dI p0.fuse)])]⟩ [17] [] [],.a [17] []] [1,3] [1,17,30096,30144,30224] (z00 5) (.a (.a (.m ?_ (.a (.a (.m ?_ (.a .z))))))) ?_
 ·exact DOk.callL (nf:=0) (caps:=[]) (xs:=[.c (oC 30096 2 r1)]) [(6000,30224)] (z2j hr3) rfl (fun r=>by kernel_rfl) rfl (fun r=>by kernel_rfl) (fun r=>by kernel_rfl) (fun r=>(.flat (AVArg.view (z01) r1 rfl) rfl rfl .nil)) (fun r=>trivial) (by kernel_rfl) (by kernel_rfl) (by kernel_rfl) (by kernel_rfl) (by kernel_rfl) (by kernel_rfl) (by kernel_rfl) (by kernel_rfl) (by kernel_rfl) (by kernel_rfl) (by first|kernel_rfl|(show _=_;kernel_rfl))
 ·exact DOk.step (.new (.box [oC 30224 2 r3,oC 30096 2 r1,oC 30144 4 r2,.d (dI p0.room),.d (.bool p0.down),.d (dI p0.fuse)]) (.c (.ptr 17 0))) (fun r=>by kernel_rfl) (fun r=>by kernel_rfl) trivial (by kernel_rfl) (by kernel_rfl) (fun r=>rfl)
 refine z02 ?_;obtain⟨r4,hr4,h⟩:=z05 h;refine z29 [.a [3] [],.a [18] [],.a [19] [],.a [1] [],.a [21] [1],.m ⟨[(20,.c (.ptr 17 0)),(22,.c (oC 30144 4 r2))],[(17,.box [oC 30224 2 r3,oC 30096 2 r1,oC 30144 4 r2,.d (dI p0.room),.d (.bool p0.down),.d (dI p0.fuse)]),(30144,vL 4 z03 r2),(30224,vL 2 z01 r3)]⟩ ⟨[(23,.tup [])],[(30224,vL 2 z01 r4),(17,.box [oC 30224 2 r4,oC 30096 2 r1,oC 30144 4 r2,.d (dI p0.room),.d (.bool p0.down),.d (dI p0.fuse)])]⟩ [30224] [] [17]] [3] [17,30096,30144,30224] (z00 5) (.a (.a (.a (.a (.a (.m ?_ .z)))))) ?_
 ·exact DOk.callR (sl3:=[(30224,vL 2 z01 r4),(17,.box [oC 30224 2 r4,oC 30096 2 r1,oC 30144 4 r2,.d (dI p0.room),.d (.bool p0.down),.d (dI p0.fuse)])]) (nf:=0) (caps:=[]) (xs:=[.c (.ptr 17 0),.c (oC 30144 4 r2)]) [(5000,17),(5100,30224),(5150,30224)] 17 [false,true,true,true,true,true] [oC 30224 2 r3,oC 30096 2 r1,oC 30144 4 r2,.d (dI p0.room),.d (.bool p0.down),.d (dI p0.fuse)] [oC 30224 2 r4,oC 30096 2 r1,oC 30144 4 r2,.d (dI p0.room),.d (.bool p0.down),.d (dI p0.fuse)] [5000,5100] [5150,5000] (fun u=>z53 (v1:=u 1) (v2:=u 2) (v3:=u 3) (v4:=u 4) (v5:=u 5) hr4) rfl (fun r u=>by kernel_rfl) rfl (fun r u=>by kernel_rfl) (fun r u=>by kernel_rfl) (fun r u=>(.ren rfl rfl (.flat (AVArg.view (z03) r2 rfl) rfl rfl .nil))) (fun r u=>⟨⟨by kernel_rfl,by kernel_rfl⟩,⟨by kernel_rfl,by kernel_rfl⟩,trivial⟩) (fun u=>by kernel_rfl) (fun u=>by kernel_rfl) (fun u=>by kernel_rfl) (fun u=>by kernel_rfl) (fun r=>rfl) (fun u=>by kernel_rfl) (fun u=>by kernel_rfl) rfl rfl (fun u=>by kernel_rfl) (fun u=>by kernel_rfl) (fun u=>by kernel_rfl) (by kernel_rfl) (by kernel_rfl) (by kernel_rfl) (by kernel_rfl) (by kernel_rfl) (by kernel_rfl) (by first|kernel_rfl|(show _=_;kernel_rfl))
 refine Tri.sg [2] [17,30096,30144,30224] (z00 2) ?_;refine Tri.keep [2] [17,30096,30144,30224] (s':=⟨[(2,.c (.ptr 17 0))],[(17,.box [oC 30224 2 r4,oC 30096 2 r1,oC 30144 4 r2,.d (dI p0.room),.d (.bool p0.down),.d (dI p0.fuse)]),(30096,vL 2 z01 r1),(30144,vL 4 z03 r2),(30224,vL 2 z01 r4)]⟩) (by kernel_rfl) ?_;refine Tri.rename 17 6000 ⟨[(2,.c (.ptr 6000 0))],[(6000,.box [oC 30224 2 r4,oC 30096 2 r1,oC 30144 4 r2,.d (dI p0.room),.d (.bool p0.down),.d (dI p0.fuse)]),(30096,vL 2 z01 r1),(30144,vL 4 z03 r2),(30224,vL 2 z01 r4)]⟩ (by kernel_rfl) rfl rfl rfl ?_;refine Tri.keep [2] [6000,30096,30144,30224] (s':=⟨[(2,.c (.ptr 6000 0))],[(6000,.box [oC 30224 2 r4,oC 30096 2 r1,oC 30144 4 r2,.d (dI p0.room),.d (.bool p0.down),.d (dI p0.fuse)]),(30096,vL 2 z01 r1),(30144,vL 4 z03 r2),(30224,vL 2 z01 r4)]⟩) (by kernel_rfl) ?_;refine Tri.rename 30224 6100 ⟨[(2,.c (.ptr 6000 0))],[(6000,.box [oC 6100 2 r4,oC 30096 2 r1,oC 30144 4 r2,.d (dI p0.room),.d (.bool p0.down),.d (dI p0.fuse)]),(30096,vL 2 z01 r1),(30144,vL 4 z03 r2),(6100,vL 2 z01 r4)]⟩ (by kernel_rfl) rfl rfl rfl ?_;refine Tri.keep [2] [6000,30096,30144,6100] (s':=⟨[(2,.c (.ptr 6000 0))],[(6000,.box [oC 6100 2 r4,oC 30096 2 r1,oC 30144 4 r2,.d (dI p0.room),.d (.bool p0.down),.d (dI p0.fuse)]),(30096,vL 2 z01 r1),(30144,vL 4 z03 r2),(6100,vL 2 z01 r4)]⟩) (by kernel_rfl) ?_;refine Tri.rename 30096 6101 ⟨[(2,.c (.ptr 6000 0))],[(6000,.box [oC 6100 2 r4,oC 6101 2 r1,oC 30144 4 r2,.d (dI p0.room),.d (.bool p0.down),.d (dI p0.fuse)]),(6101,vL 2 z01 r1),(30144,vL 4 z03 r2),(6100,vL 2 z01 r4)]⟩ (by kernel_rfl) rfl rfl rfl ?_;refine Tri.keep [2] [6000,6101,30144,6100] (s':=⟨[(2,.c (.ptr 6000 0))],[(6000,.box [oC 6100 2 r4,oC 6101 2 r1,oC 30144 4 r2,.d (dI p0.room),.d (.bool p0.down),.d (dI p0.fuse)]),(6101,vL 2 z01 r1),(30144,vL 4 z03 r2),(6100,vL 2 z01 r4)]⟩) (by kernel_rfl) ?_;refine Tri.rename 30144 6102 ⟨[(2,.c (.ptr 6000 0))],[(6000,.box [oC 6100 2 r4,oC 6101 2 r1,oC 6102 4 r2,.d (dI p0.room),.d (.bool p0.down),.d (dI p0.fuse)]),(6101,vL 2 z01 r1),(6102,vL 4 z03 r2),(6100,vL 2 z01 r4)]⟩ (by kernel_rfl) rfl rfl rfl ?_;refine Tri.ret ?_;cases h;exact RetAt.k
theorem z5z {p0:List File}{q:List File}(h:z3m p0=some q):
 Summ Try.prog 33 [.c (wC 2 z01 p0)] [] (.c (oC 6000 2 q)) [(6000,vL 2 z01 q)]:=by
 refine Summ.i Try.func33 rfl [6000] fun w0 G0 V LL φ0=>?_;unfold z3m at h;refine Tri.sg [0] [] (z00 1) ?_;refine z02 ?_;refine z02 ?_;refine z04 ?_;refine At.seg 1 [0,3] [] (s':=⟨[(0,.c (wC 2 z01 p0)),(3,.c (wC 2 z01 p0))],[]⟩) (by kernel_rfl) (z00 1) ?_;have hnil:p0.length=0→(some ([]:List File))=(need (p0.length≤274877906944)<|some p0):=by intro h0;obtain rfl:=List.eq_nil_of_length_eq_zero h0;rfl
 refine z9i (e:=56) rfl rfl rfl rfl rfl (by kernel_rfl) rfl (fun h0=>?_) ?_
 ·replace h:=(hnil h0).trans h
  refine At.done rfl ?_;refine Tri.cond (b:=true) (by kernel_rfl) (fun _=>?_) (fun e=>by cases e);refine z37 [2] [] ⟨[(2,.c (.zero))],[]⟩ _ (by kernel_rfl) (z00 1) ?_;refine Tri.newOwn (t:=2) (k:=6000) (es:=2) (fun i=>z01 (([]:List File).getD i zzd)) rfl rfl rfl ?_;refine Tri.ret ?_;cases h;exact RetAt.k
 ·refine At.done rfl ?_;refine Tri.cond (b:=false) (by kernel_rfl) (fun e=>by cases e) (fun _=>?_);refine Tri.skip ?_;refine z02 ?_;refine z04 ?_;refine At.one rfl (z5v (e:=56) (es:=2) rfl rfl rfl rfl (by kernel_rfl) rfl) ?_;refine At.seg 1 [5,6] [] (s':=⟨[(5,.c (.zero)),(6,.c (wC 2 z01 p0))],[]⟩) (by kernel_rfl) (z00 1) ?_;obtain⟨hc1,h⟩:=z09 h;refine At.one rfl (z5g (e:=56) (es:=2) (m:=p0.length) (get:=fun i=>z01 (p0.getD i zzd)) rfl rfl rfl rfl (by kernel_rfl) (.of 56 32 [.d (.str (bs [])),.d (.str (bs []))] (by kernel_rfl) (by kernel_rfl) (by kernel_rfl) (by kernel_rfl) rfl (by kernel_rfl) rfl) rfl rfl (.view rfl (fun _ _=>rfl)) hc1) ?_;refine At.sg 1 [2] [7] (z00 1) ?_;refine At.done rfl ?_;refine Tri.keep [2] [7] (s':=⟨[(2,.c (oC 7 2 p0))],[(7,vL 2 z01 p0)]⟩) (by kernel_rfl) ?_;refine Tri.rename 7 6000 ⟨[(2,.c (oC 6000 2 p0))],[(6000,vL 2 z01 p0)]⟩ (by kernel_rfl) rfl rfl rfl ?_;refine Tri.ret ?_;cases h;exact RetAt.k
theorem z4v {p0:List File}{p1:Int}{q:Bool}(h:z1o p0 p1=some q):
 Summ Try.prog 34 [.c (wC 2 z01 p0),cD (dI p1)] [] (cD (.bool q)) []:=by
 refine Summ.i Try.func34 rfl [] fun w0 G0 V LL φ0=>?_;unfold z1o at h;refine Tri.sg [0,1] [] (z00 1) ?_;refine z02 ?_;refine Tri.sg [0,1,7,8,9] [] (z00 3) ?_;refine Tri.ln 7 p0.length fun hlena2=>?_;refine z36 9 (p1) (fun(x:Bool) s=>RetAt Try.prog Try.f34 (cD (.bool x)) [] s) (fun(a2:Int)=>⟨[(0,.c (wC 2 z01 p0)),(1,cD (dI a2)),(7,.c (wC 2 z01 p0)),(8,cD (dI (p0.length:Int)))],[]⟩) [9,0,1,7,8] [] [10,9,0,1,7,8] [] [0,1,7,8] [] [9,0,1,7,8] [] h hlena2 ?_ ?_ ?_
 ·intro i1 a2 c hii1 h;refine Tri.sg [0,1,6,7,8,9] [6] (ai (show((0:Int)≤((i1:Nat):Int)∧((i1:Nat):Int)<(p0.length:Int))from⟨by omega,by omega⟩) (z00 3)) ?_;refine Tri.sg [0,1,7,8,9] [] (z00 6) ?_;refine Tri.sg [0,1,7,8,9,19] [] (z00 2) ?_;refine z07 h (fun h=>?_) (fun h=>?_)
  ·refine Tri.sg [4] [] (z00 1) ?_;refine Tri.ret ?_;cases h;exact RetAt.k
  ·refine Tri.kp [9,0,1,7,8] [] ?_;refine Tri.skip ?_;cases h;exact kr
 ·intro a3 h;refine Tri.sg [4] [] (z00 4) ?_;refine Tri.ret ?_;cases h;exact RetAt.k
 ·exact fun x s hx hr=>by cases hx;exact hr
theorem z3w {l0:Desk}{q:Bool×Desk}(h:z1e l0=some q):
 Summ Try.prog 18 [.c (.ptr 5000 0)] [(5000,.box [oC 5100 2 l0.files,oC 5200 2 l0.disk.files,oC 5300 4 l0.disk.waits,.d (dI l0.disk.room),.d (.bool l0.disk.down),.d (dI l0.disk.fuse)]),(5100,vL 2 z01 l0.files),(5200,vL 2 z01 l0.disk.files),(5300,vL 4 z03 l0.disk.waits)] (cD (.bool q.1)) [(5150,vL 2 z01 q.2.files),(5250,vL 2 z01 q.2.disk.files),(5350,vL 4 z03 q.2.disk.waits),(5000,.box [oC 5150 2 q.2.files,oC 5250 2 q.2.disk.files,oC 5350 4 q.2.disk.waits,.d (dI q.2.disk.room),.d (.bool q.2.disk.down),.d (dI q.2.disk.fuse)])]:=by
 refine Summ.i Try.func18 rfl [5150,5250,5350] fun w0 G0 V LL φ0=>?_;unfold z1e at h;refine Tri.rename 5100 5150 ⟨[(0,.c (.ptr 5000 0))],[(5000,.box [oC 5150 2 l0.files,oC 5200 2 l0.disk.files,oC 5300 4 l0.disk.waits,.d (dI l0.disk.room),.d (.bool l0.disk.down),.d (dI l0.disk.fuse)]),(5150,vL 2 z01 l0.files),(5200,vL 2 z01 l0.disk.files),(5300,vL 4 z03 l0.disk.waits)]⟩ (by kernel_rfl) rfl rfl rfl ?_;refine Tri.rename 5200 5250 ⟨[(0,.c (.ptr 5000 0))],[(5000,.box [oC 5150 2 l0.files,oC 5250 2 l0.disk.files,oC 5300 4 l0.disk.waits,.d (dI l0.disk.room),.d (.bool l0.disk.down),.d (dI l0.disk.fuse)]),(5150,vL 2 z01 l0.files),(5250,vL 2 z01 l0.disk.files),(5300,vL 4 z03 l0.disk.waits)]⟩ (by kernel_rfl) rfl rfl rfl ?_;refine Tri.rename 5300 5350 ⟨[(0,.c (.ptr 5000 0))],[(5000,.box [oC 5150 2 l0.files,oC 5250 2 l0.disk.files,oC 5350 4 l0.disk.waits,.d (dI l0.disk.room),.d (.bool l0.disk.down),.d (dI l0.disk.fuse)]),(5150,vL 2 z01 l0.files),(5250,vL 2 z01 l0.disk.files),(5350,vL 4 z03 l0.disk.waits)]⟩ (by kernel_rfl) rfl rfl rfl ?_;refine Tri.sg [0] [5000,5150,5250,5350] (z00 1) ?_;refine Tri.sg [0] [5000,5150,5250,5350] (z00 11) ?_;refine z0u (fun(a1:Desk)=>⟨[(0,.c (.ptr 5000 0))],[(5000,.box [oC 5150 2 a1.files,oC 5250 2 a1.disk.files,oC 5350 4 a1.disk.waits,.d (dI a1.disk.room),.d (.bool a1.disk.down),.d (dI a1.disk.fuse)]),(5150,vL 2 z01 a1.files),(5250,vL 2 z01 a1.disk.files),(5350,vL 4 z03 a1.disk.waits)]⟩) h (fun a1 h=>?_) (fun j2 h=>?_)
 ·refine Tri.sg [2] [5000,5150,5250,5350] (z00 7) ?_;refine Tri.ret ?_;cases h;exact RetAt.k
 ·refine Tri.sg [0,18] [5000,5150,5250,5350] (z00 6) ?_;refine z07 h (fun h=>?_) (fun h=>?_)
  ·refine z04 ?_;refine At.sg 10 [0] [5000,5150,5250,5350] (z00 10) ?_;refine At.done rfl ?_;exact⟨_,h,kr⟩
  ·refine Tri.kp [0] [5000,5150,5250,5350] ?_;refine Tri.skip ?_;exact⟨_,h,kr⟩
theorem z59 {fuel:Nat}{p1:Write}{l0:Desk}{q:Int×Desk}(h:z1b fuel p1 l0=some q):
 Summ Try.prog 17 [.c (.ptr 5000 0),.agg (cWrite p1)] [(5000,.box [oC 5100 2 l0.files,oC 5200 2 l0.disk.files,oC 5300 4 l0.disk.waits,.d (dI l0.disk.room),.d (.bool l0.disk.down),.d (dI l0.disk.fuse)]),(5100,vL 2 z01 l0.files),(5200,vL 2 z01 l0.disk.files),(5300,vL 4 z03 l0.disk.waits)] (cD (dI q.1)) [(5150,vL 2 z01 q.2.files),(5250,vL 2 z01 q.2.disk.files),(5350,vL 4 z03 q.2.disk.waits),(5000,.box [oC 5150 2 q.2.files,oC 5250 2 q.2.disk.files,oC 5350 4 q.2.disk.waits,.d (dI q.2.disk.room),.d (.bool q.2.disk.down),.d (dI q.2.disk.fuse)])]:=by
 refine Summ.i Try.func17 rfl [5150,5250,5350] fun w0 G0 V LL φ0=>?_;unfold z1b at h;refine Tri.rename 5100 5150 ⟨[(0,.c (.ptr 5000 0)),(1,.agg (cWrite p1))],[(5000,.box [oC 5150 2 l0.files,oC 5200 2 l0.disk.files,oC 5300 4 l0.disk.waits,.d (dI l0.disk.room),.d (.bool l0.disk.down),.d (dI l0.disk.fuse)]),(5150,vL 2 z01 l0.files),(5200,vL 2 z01 l0.disk.files),(5300,vL 4 z03 l0.disk.waits)]⟩ (by kernel_rfl) rfl rfl rfl ?_;refine Tri.rename 5200 5250 ⟨[(0,.c (.ptr 5000 0)),(1,.agg (cWrite p1))],[(5000,.box [oC 5150 2 l0.files,oC 5250 2 l0.disk.files,oC 5300 4 l0.disk.waits,.d (dI l0.disk.room),.d (.bool l0.disk.down),.d (dI l0.disk.fuse)]),(5150,vL 2 z01 l0.files),(5250,vL 2 z01 l0.disk.files),(5300,vL 4 z03 l0.disk.waits)]⟩ (by kernel_rfl) rfl rfl rfl ?_;refine Tri.rename 5300 5350 ⟨[(0,.c (.ptr 5000 0)),(1,.agg (cWrite p1))],[(5000,.box [oC 5150 2 l0.files,oC 5250 2 l0.disk.files,oC 5350 4 l0.disk.waits,.d (dI l0.disk.room),.d (.bool l0.disk.down),.d (dI l0.disk.fuse)]),(5150,vL 2 z01 l0.files),(5250,vL 2 z01 l0.disk.files),(5350,vL 4 z03 l0.disk.waits)]⟩ (by kernel_rfl) rfl rfl rfl ?_;refine Tri.sg [0,3] [3,5000,5150,5250,5350] (z00 2) ?_;refine z02 ?_;refine Tri.sg [0,3,13] [3,5000,5150,5250,5350] (z00 5) ?_;refine z07 h (fun h=>?_) (fun h=>?_)
 ·refine Tri.sg [4] [5000,5150,5250,5350] (z00 1) ?_;refine Tri.ret ?_;cases h;exact RetAt.k
 ·refine Tri.skip ?_;refine z02 ?_;refine z02 ?_;refine z04 ?_;refine At.sg 1 [0,3,14] [3,5000,5150,5250,5350] (z00 1) ?_;obtain⟨r1,hr1,h⟩:=z05 h;refine At.cA [] [.agg (cWrite p1)] (z7y hr1) (.cons (.refl _) .nil) ?_;refine At.sg 1 [0,3,16] [3,5000,5150,5250,5350] (z00 1) ?_;refine At.done rfl ?_;refine z07 h (fun h=>?_) (fun h=>?_)
  ·refine Tri.sg [4] [5000,5150,5250,5350] (z00 1) ?_;refine Tri.ret ?_;cases h;exact RetAt.k
  ·refine Tri.skip ?_;refine z02 ?_;refine z02 ?_;obtain⟨r2,hr2,h⟩:=z05 h;refine z29 [.a [0] [],.a [18] [],.a [19] [],.a [20] [5000],.a [3] [],.a [22] [3],.m ⟨[(21,.c (oC 5150 2 l0.files)),(23,cD (.str p1.name))],[(5150,vL 2 z01 l0.files)]⟩ ⟨[(24,.tup [(false,[.d (dI r2.1)]),(false,[.d (.bool r2.2)])])],[]⟩ [] [] [],.a [24] [],.a [17] [],.a [17] [],.a [25] [],.a [26] []] [0,3,6] [3,5000,5150,5250,5350] (z00 11) (.a (.a (.a (.a (.a (.a (.m ?_ (.a (.a (.a (.a (.a .z)))))))))))) ?_
   ·exact DOk.cA [] [.c (oC 5150 2 l0.files),cD (.str p1.name)] (z17 hr2) fun r=>(.cons (AVArg.view (z01) l0.files rfl) (.cons (.refl _) .nil))
   refine z0u (fun(a3:Bool)=>⟨[(0,.c (.ptr 5000 0)),(3,.c (.ptr 3 0)),(33,cD (.bool a3))],[(3,.box (cWrite p1)),(5000,.box [oC 5150 2 l0.files,oC 5250 2 l0.disk.files,oC 5350 4 l0.disk.waits,.d (dI l0.disk.room),.d (.bool l0.disk.down),.d (dI l0.disk.fuse)]),(5150,vL 2 z01 l0.files),(5250,vL 2 z01 l0.disk.files),(5350,vL 4 z03 l0.disk.waits)]⟩) h (fun a3 h=>?_) (fun j4 h=>?_)
   ·refine z07 h (fun h=>?_) (fun h=>?_)
    ·refine Tri.sg [4] [5000,5150,5250,5350] (z00 1) ?_;refine Tri.ret ?_;cases h;exact RetAt.k
    ·refine Tri.skip ?_;refine z02 ?_;refine z04 ?_;refine At.sg 4 [0,3,37] [3,5000,5150,5250,5350] (z00 4) ?_;obtain⟨r5,hr5,h⟩:=z05 h;refine z3z 0 [] [.c (oC 5150 2 l0.files)] [(6000,30608)] [0,3] [3,5000,5150,5250,5350] (z5z hr5) (.flat (AVArg.view (z01) l0.files rfl) rfl rfl .nil) ?_;refine At.sg 2 [0,3,7] [3,7,5000,5150,5250,5350,30608] (z00 2) ?_;refine At.done rfl ?_;refine z02 ?_;refine z04 ?_;refine At.seg 1 [0,3,7,39] [3,7,5000,5150,5250,5350,30608] (s':=⟨[(0,.c (.ptr 5000 0)),(3,.c (.ptr 3 0)),(7,.c (.ptr 7 0)),(39,.agg (cWrite p1))],[(3,.box (cWrite p1)),(7,.box [oC 30608 2 r5]),(5000,.box [oC 5150 2 l0.files,oC 5250 2 l0.disk.files,oC 5350 4 l0.disk.waits,.d (dI l0.disk.room),.d (.bool l0.disk.down),.d (dI l0.disk.fuse)]),(5150,vL 2 z01 l0.files),(5250,vL 2 z01 l0.disk.files),(5350,vL 4 z03 l0.disk.waits),(30608,vL 2 z01 r5)]⟩) (by kernel_rfl) (z00 1) ?_;refine At.one rfl (One.buildSlice (z:=[.d (.int .u8 0),.d (.str (bs [])),.d (.str (bs [])),.d (.str (bs []))]) (cells:=[.d (.int .u8 p1.kind),.d (.str p1.name),.d (.str p1.to_),.d (.str p1.data)]) (xs:=List.map (z03) ([p1]:List Write)) rfl rfl rfl rfl (by kernel_rfl) rfl rfl (by kernel_rfl) rfl rfl rfl (by kernel_rfl) rfl ⟨⟨rfl,.refl _⟩,trivial⟩) ?_;refine At.l [40] ⟨[(40,cD (lD 4 z03 ([p1]:List Write))),(0,.c (.ptr 5000 0)),(3,.c (.ptr 3 0)),(7,.c (.ptr 7 0)),(39,.agg (cWrite p1))],[(3,.box (cWrite p1)),(7,.box [oC 30608 2 r5]),(5000,.box [oC 5150 2 l0.files,oC 5250 2 l0.disk.files,oC 5350 4 l0.disk.waits,.d (dI l0.disk.room),.d (.bool l0.disk.down),.d (dI l0.disk.fuse)]),(5150,vL 2 z01 l0.files),(5250,vL 2 z01 l0.disk.files),(5350,vL 4 z03 l0.disk.waits),(30608,vL 2 z01 r5)]⟩ ⟨⟨_,rfl,.c (.own rfl (zzg.2 rfl) (zz5 rfl) rfl (z1z (z03) ([p1]:List Write)))⟩,⟨_,rfl,.refl _⟩,⟨_,rfl,.refl _⟩,⟨_,rfl,.refl _⟩,⟨_,rfl,.refl _⟩,trivial⟩ ⟨⟨_,rfl,.refl _,(by simp)⟩,⟨_,rfl,.refl _,(by simp)⟩,⟨_,rfl,.refl _,(by simp)⟩,⟨_,rfl,.refl _,(by simp)⟩,⟨_,rfl,.refl _,(by simp)⟩,⟨_,rfl,.refl _,(by simp)⟩,⟨_,rfl,.refl _,(by simp)⟩,trivial⟩ ?_;obtain⟨r6,hr6,h⟩:=z05 h;refine At.callL (nf:=0) (caps:=[]) (xs:=[.c (.ptr 7 0),cD (lD 4 z03 ([p1]:List Write))]) [(5000,7),(5100,30608),(5150,30608)] [0,3,7] [3,5000,5150,5250,5350] (s0:=⟨[(0,.c (.ptr 5000 0)),(3,.c (.ptr 3 0)),(7,.c (.ptr 7 0))],[(3,.box (cWrite p1)),(5000,.box [oC 5150 2 l0.files,oC 5250 2 l0.disk.files,oC 5350 4 l0.disk.waits,.d (dI l0.disk.room),.d (.bool l0.disk.down),.d (dI l0.disk.fuse)]),(5150,vL 2 z01 l0.files),(5250,vL 2 z01 l0.disk.files),(5350,vL 4 z03 l0.disk.waits)]⟩) (z1w hr6) rfl rfl (by kernel_rfl) rfl (by kernel_rfl) (by kernel_rfl) (.ren rfl rfl (.flat (.refl _) rfl rfl .nil)) ⟨⟨by kernel_rfl,by kernel_rfl⟩,⟨by kernel_rfl,by kernel_rfl⟩,trivial⟩ (by kernel_rfl) (by kernel_rfl) (by kernel_rfl) (by kernel_rfl) (by kernel_rfl) (by kernel_rfl) (by kernel_rfl) (by kernel_rfl) (by kernel_rfl) ⟨[(41,.tup []),(0,.c (.ptr 5000 0)),(3,.c (.ptr 3 0)),(7,.c (.ptr 7 0))],[(30608,vL 2 z01 r6),(7,.box [oC 30608 2 r6]),(3,.box (cWrite p1)),(5000,.box [oC 5150 2 l0.files,oC 5250 2 l0.disk.files,oC 5350 4 l0.disk.waits,.d (dI l0.disk.room),.d (.bool l0.disk.down),.d (dI l0.disk.fuse)]),(5150,vL 2 z01 l0.files),(5250,vL 2 z01 l0.disk.files),(5350,vL 4 z03 l0.disk.waits)]⟩ (by kernel_rfl) ?_;refine At.done rfl ?_;refine z02 ?_;refine z0u (fun(a7:Bool)=>⟨[(0,.c (.ptr 5000 0)),(3,.c (.ptr 3 0)),(7,.c (.ptr 7 0)),(57,cD (.bool a7))],[(3,.box (cWrite p1)),(7,.box [oC 30608 2 r6]),(5000,.box [oC 5150 2 l0.files,oC 5250 2 l0.disk.files,oC 5350 4 l0.disk.waits,.d (dI l0.disk.room),.d (.bool l0.disk.down),.d (dI l0.disk.fuse)]),(5150,vL 2 z01 l0.files),(5250,vL 2 z01 l0.disk.files),(5350,vL 4 z03 l0.disk.waits),(30608,vL 2 z01 r6)]⟩) h (fun a7 h=>?_) (fun j8 h=>?_)
     ·refine z07 h (fun h=>?_) (fun h=>?_)
      ·refine Tri.sg [4] [5000,5150,5250,5350] (z00 1) ?_;refine Tri.ret ?_;cases h;exact RetAt.k
      ·refine Tri.skip ?_;refine z02 ?_;refine z04 ?_;refine At.sg 1 [0,3,7,58] [3,7,5000,5150,5250,5350,30608] (z00 1) ?_;obtain⟨r9,hr9,h⟩:=z05 h;refine z3z 0 [] [.c (.ptr 5000 0)] [(5000,5000),(5100,5150),(5150,5150),(5200,5250),(5250,5250),(5300,5350),(5350,5350)] [0,3,7] [3,7,30608] (z3w hr9) (.ren rfl rfl .nil) ?_;refine At.sg 1 [0,3,7,8] [3,7,5000,5150,5250,5350,30608] (z00 1) ?_;refine At.done rfl ?_;refine z0u (fun(a10:Bool×Desk)=>⟨[(0,.c (.ptr 5000 0)),(7,.c (.ptr 7 0)),(8,cD (.bool a10.1))],[(7,.box [oC 30608 2 r6]),(5000,.box [oC 5150 2 a10.2.files,oC 5250 2 a10.2.disk.files,oC 5350 4 a10.2.disk.waits,.d (dI a10.2.disk.room),.d (.bool a10.2.disk.down),.d (dI a10.2.disk.fuse)]),(5150,vL 2 z01 a10.2.files),(5250,vL 2 z01 a10.2.disk.files),(5350,vL 4 z03 a10.2.disk.waits),(30608,vL 2 z01 r6)]⟩) h (fun a10 h=>?_) (fun j11 h=>?_)
       ·refine z02 ?_;refine Tri.sg [0,7,79] [7,5000,5150,5250,5350,30608] (z00 2) ?_;refine z07 h (fun h=>?_) (fun h=>?_)
        ·refine Tri.sg [4] [5000,5150,5250,5350] (z00 1) ?_;refine Tri.ret ?_;cases h;exact RetAt.k
        ·refine Tri.skip ?_;refine Tri.sg [] [5000,5250,5350,30608] (z00 5) ?_;refine Tri.sg [4] [5000,5250,5350,30608] (z00 1) ?_;refine Tri.keep [4] [5000,5250,5350,30608] (s':=⟨[(4,cD (dI 0))],[(5000,.box [oC 30608 2 r6,oC 5250 2 a10.2.disk.files,oC 5350 4 a10.2.disk.waits,.d (dI a10.2.disk.room),.d (.bool a10.2.disk.down),.d (dI a10.2.disk.fuse)]),(5250,vL 2 z01 a10.2.disk.files),(5350,vL 4 z03 a10.2.disk.waits),(30608,vL 2 z01 r6)]⟩) (by kernel_rfl) ?_;refine Tri.rename 30608 5150 ⟨[(4,cD (dI 0))],[(5000,.box [oC 5150 2 r6,oC 5250 2 a10.2.disk.files,oC 5350 4 a10.2.disk.waits,.d (dI a10.2.disk.room),.d (.bool a10.2.disk.down),.d (dI a10.2.disk.fuse)]),(5250,vL 2 z01 a10.2.disk.files),(5350,vL 4 z03 a10.2.disk.waits),(5150,vL 2 z01 r6)]⟩ (by kernel_rfl) rfl rfl rfl ?_;refine Tri.ret ?_;cases h;exact RetAt.k
       ·refine z0u (fun(a12:Bool×Bool)=>⟨[(0,.c (.ptr 5000 0)),(3,.c (.ptr 3 0)),(7,.c (.ptr 7 0)),(8,cD (.bool a12.1)),(65,cD (.bool a12.2))],[(3,.box (cWrite p1)),(7,.box [oC 30608 2 r6]),(5000,.box [oC 5150 2 r9.2.files,oC 5250 2 r9.2.disk.files,oC 5350 4 r9.2.disk.waits,.d (dI r9.2.disk.room),.d (.bool r9.2.disk.down),.d (dI r9.2.disk.fuse)]),(5150,vL 2 z01 r9.2.files),(5250,vL 2 z01 r9.2.disk.files),(5350,vL 4 z03 r9.2.disk.waits),(30608,vL 2 z01 r6)]⟩) h (fun a12 h=>?_) (fun j13 h=>?_)
        ·refine z07 h (fun h=>?_) (fun h=>?_)
         ·obtain⟨hc14,h⟩:=z09 h;refine z29 [.a [0] [],.a [0] [],.a [67] [],.a [68] [],.a [69] [],.a [70] [5000],.a [3] [3],.m ⟨[(72,.agg (cWrite p1))],[]⟩ ⟨[(73,.c (oC 73 4 ([p1]:List Write)))],[(73,vL 4 z03 ([p1]:List Write))]⟩ [73] [] [],.m ⟨[(71,.c (oC 5350 4 r9.2.disk.waits)),(73,.c (oC 73 4 ([p1]:List Write)))],[(73,vL 4 z03 ([p1]:List Write)),(5000,.box [oC 5150 2 r9.2.files,oC 5250 2 r9.2.disk.files,oC 5350 4 r9.2.disk.waits,.d (dI r9.2.disk.room),.d (.bool r9.2.disk.down),.d (dI r9.2.disk.fuse)]),(5350,vL 4 z03 r9.2.disk.waits)]⟩ ⟨[(74,.c (oC 5350 4 (r9.2.disk.waits++([p1]:List Write)))),(71,.c (.any))],[(5350,vL 4 z03 (r9.2.disk.waits++([p1]:List Write))),(5000,.box [oC 5150 2 r9.2.files,oC 5250 2 r9.2.disk.files,.any,.d (dI r9.2.disk.room),.d (.bool r9.2.disk.down),.d (dI r9.2.disk.fuse)])]⟩ [5350] [71] [5000],.a [66] [],.a [75] [],.a [76] [],.m ⟨[(74,.c (oC 5350 4 (r9.2.disk.waits++([p1]:List Write)))),(77,.c (.ptr 5000 2))],[(5000,.box [oC 5150 2 r9.2.files,oC 5250 2 r9.2.disk.files,.any,.d (dI r9.2.disk.room),.d (.bool r9.2.disk.down),.d (dI r9.2.disk.fuse)]),(5350,vL 4 z03 (r9.2.disk.waits++([p1]:List Write)))]⟩ ⟨[],[(5000,.box [oC 5150 2 r9.2.files,oC 5250 2 r9.2.disk.files,oC 5350 4 (r9.2.disk.waits++([p1]:List Write)),.d (dI r9.2.disk.room),.d (.bool r9.2.disk.down),.d (dI r9.2.disk.fuse)])]⟩ [] [] []] [0,7,8] [7,5000,5150,5250,5350,30608] (z00 10) (.a (.a (.a (.a (.a (.a (.a (.m ?_ (.m ?_ (.a (.a (.a (.m ?_ .z))))))))))))) ?_
          ·exact DOk.one fun r hr=>z4a (e:=36) (es:=4) (z:=[.d (.int .u8 0),.d (.str (bs [])),.d (.str (bs [])),.d (.str (bs []))]) (cells:=[.d (.int .u8 p1.kind),.d (.str p1.name),.d (.str p1.to_),.d (.str p1.data)]) (z03) ([p1]:List Write) rfl (by kernel_rfl) rfl rfl (z2t (by kernel_rfl) (hr 73 (by simp))) (by kernel_rfl) rfl (by kernel_rfl) rfl rfl rfl (by kernel_rfl) rfl ⟨⟨rfl,.refl _⟩,trivial⟩
          ·exact DOk.drop (k:=5350) (d:=74) (v:=vL 4 z03 (r9.2.disk.waits++([p1]:List Write))) (av:= .c (oC 5350 4 (r9.2.disk.waits++([p1]:List Write)))) rfl (fun r hr=>z5h (e:=36) (es:=4) (z03) r9.2.disk.waits ([p1]:List Write) rfl rfl (by kernel_rfl) rfl rfl (.of 36 56 [.d (.int .u8 0),.d (.str (bs [])),.d (.str (bs [])),.d (.str (bs []))] (by kernel_rfl) (by kernel_rfl) (by kernel_rfl) (by kernel_rfl) rfl (by kernel_rfl) rfl) rfl rfl rfl (.own rfl (by simp) rfl (z8x (z03) ([p1]:List Write) _)) hc14) (by kernel_rfl) (by kernel_rfl) (by kernel_rfl) (by kernel_rfl)
          ·exact DOk.step (.turn 5000 (.box [oC 5150 2 r9.2.files,oC 5250 2 r9.2.disk.files,oC 5350 4 (r9.2.disk.waits++([p1]:List Write)),.d (dI r9.2.disk.room),.d (.bool r9.2.disk.down),.d (dI r9.2.disk.fuse)])) (fun r=>by kernel_rfl) (fun r=>by kernel_rfl) trivial (by kernel_rfl) (by kernel_rfl) (fun r=>rfl)
          exact⟨_,h,kr⟩
         ·refine Tri.kp [0,7,8] [7,5000,5150,5250,5350,30608] ?_;refine Tri.skip ?_;exact⟨_,h,kr⟩
        ·refine z04 ?_;refine At.sg 2 [0,3,7,8,61] [3,7,5000,5150,5250,5350,30608] (z00 2) ?_;refine At.cs [8,61] h (fun h=>?_) (fun h=>?_)
         ·refine At.sg 4 [0,3,7,8,65] [3,7,5000,5150,5250,5350,30608] (z00 1) ?_;refine At.done rfl ?_;exact⟨_,h,kr⟩
         ·refine At.sg 4 [0,3,7,8,65] [3,7,5000,5150,5250,5350,30608] (z00 4) ?_;refine At.done rfl ?_;exact⟨_,h,kr⟩
     ·rcases z7a h with⟨hp15,h⟩|⟨hp15,h⟩
      ·refine z29 [.a [0] [],.a [42] [],.a [43] [],.a [44] [],.a [45] [5000],.a [46] [5350],.a [47] [],.m ⟨[(48,cD (.bool (decide (4096≤(l0.disk.waits.length:Int)))))],[]⟩ ⟨[(49,.c (.d (.bool true)))],[]⟩ [] [] [],.a [7,49] [7],.a [0,49] [],.a [49,51] [],.a [49,52] [],.a [49,53] [],.a [49,54] [],.a [49,50,55] [],.a [49,56] []] [0,3,7,57] [3,7,5000,5150,5250,5350,30608] (z00 8) (.a (.a (.a (.a (.a (.a (.a (.m ?_ (.a (.a (.a (.a (.a (.a (.a (.a .z)))))))))))))))) ?_
       ·exact z2s (fun b=> .val (.c (.d (.bool b))) (True)) (p:=(decide (4096≤(l0.disk.waits.length:Int)))) hp15 (fun r=>by kernel_rfl) (fun r=>by kernel_rfl) trivial (by kernel_rfl) (by kernel_rfl) (fun r=>rfl)
       exact⟨_,h,kr⟩
      ·obtain⟨r16,hr16,h⟩:=z05 h;refine z29 [.a [0] [],.a [42] [],.a [43] [],.a [44] [],.a [45] [5000],.a [46] [5350],.a [47] [],.m ⟨[(48,cD (.bool (decide (4096≤(l0.disk.waits.length:Int)))))],[]⟩ ⟨[(49,.c (.d (.bool false)))],[]⟩ [] [] [],.a [7,49] [7],.a [0,49] [],.a [49,51] [],.a [49,52] [],.a [49,53] [],.a [49,54] [5000],.m ⟨[(49,cD (.bool false)),(50,.c (oC 30608 2 r6)),(55,cD (dI l0.disk.room))],[(30608,vL 2 z01 r6)]⟩ ⟨[(56,cD (.bool r16))],[]⟩ [] [] [],.a [49,56] []] [0,3,7,57] [3,7,5000,5150,5250,5350,30608] (z00 14) (.a (.a (.a (.a (.a (.a (.a (.m ?_ (.a (.a (.a (.a (.a (.a (.m ?_ (.a .z)))))))))))))))) ?_
       ·exact z2s (fun b=> .val (.c (.d (.bool b))) (True)) (p:=(decide (4096≤(l0.disk.waits.length:Int)))) hp15 (fun r=>by kernel_rfl) (fun r=>by kernel_rfl) trivial (by kernel_rfl) (by kernel_rfl) (fun r=>rfl)
       ·exact DOk.cA [] [.c (oC 30608 2 r6),cD (dI l0.disk.room)] (z4v hr16) fun r=>(.cons (AVArg.view (z01) r6 rfl) (.cons (.refl _) .nil))
       exact⟨_,h,kr⟩
   ·refine z04 ?_;refine At.sg 3 [0,3,29] [3,5000,5150,5250,5350] (z00 3) ?_;refine At.cs [29] h (fun h=>?_) (fun h=>?_)
    ·refine At.sg 4 [0,3,33] [3,5000,5150,5250,5350] (z00 4) ?_;refine At.done rfl ?_;exact⟨_,h,kr⟩
    ·refine At.sg 4 [0,3,33] [3,5000,5150,5250,5350] (z00 1) ?_;refine At.done rfl ?_;exact⟨_,h,kr⟩
theorem zag {fuel:Nat}{p0:Disk}{p1:List Write}{q:Disk×Int}(h:z4r fuel p0 p1=some q):
 Summ Try.prog 6 [.agg (cDisk p0),cD (lD 4 z03 p1)] [] (.tup [(true,[.d (lD 2 z01 q.1.files),.d (lD 4 z03 q.1.waits),.d (dI q.1.room),.d (.bool q.1.down),.d (dI q.1.fuse)]),(false,[.d (dI q.2)])]) []:=by
 refine Summ.i Try.func6 rfl [] fun w0 G0 V LL φ0=>?_;unfold z4r at h;refine Tri.sg [1,2,4] [2,4] (z00 3) ?_;refine z02 ?_;refine z02 ?_;refine z04 ?_;refine At.sg 1 [1,2,4,11] [2,4] (z00 1) ?_;obtain⟨r1,hr1,h⟩:=z05 h;refine At.cA [] [.agg (cDisk p0)] (z4l hr1) (.cons (.refl _) .nil) ?_;refine At.sg 1 [1,2,4,6] [2,4] (z00 1) ?_;refine At.done rfl ?_;refine Tri.sg [1,2,4,6,14] [2,4] (z00 2) ?_;refine z07 h (fun h=>?_) (fun h=>?_)
 ·refine Tri.sg [4,5] [4] (z00 4) ?_;refine Tri.keep [4,5] [4] (s':=⟨[(4,.c (.ptr 4 0)),(5,cD (dI r1))],[(4,.box [.zero,.zero,.d (dI 0),.d (.bool false),.d (dI 0)])]⟩) (by kernel_rfl) ?_;refine Tri.l [] ⟨[(4,.c (.ptr 4 0)),(5,cD (dI r1))],[(4,.box [.d (lD 2 z01 ([]:List File)),.d (lD 4 z03 ([]:List Write)),.d (dI 0),.d (.bool false),.d (dI 0)])]⟩ ⟨⟨_,rfl,.refl _⟩,⟨_,rfl,.refl _⟩,trivial⟩ ⟨⟨_,rfl,.box (.cons (.zero _ _) (.cons (.zero _ _) (.cons (.refl _) (.cons (.refl _) (.cons (.refl _) .nil))))),(by simp)⟩,trivial⟩ ?_;refine Tri.ret ?_;cases h;exact RetAt.k
 ·refine Tri.skip ?_;refine z02 ?_;refine z04 ?_;refine At.sg 1 [1,4,17] [4] (z00 1) ?_;obtain⟨r2,hr2,h⟩:=z05 h;refine z3z 0 [] [.agg (cDisk p0)] [(6000,30303),(6100,30300),(6101,30299),(6102,30298)] [1,4] [4] (z69 hr2) (.flat (.refl _) rfl rfl .nil) ?_;refine At.sg 1 [1,4,7] [4,30298,30299,30300,30303] (z00 1) ?_;refine At.done rfl ?_;refine z02 ?_;refine Tri.sg [4,7,19,20,21] [4,30298,30299,30300,30303] (z00 3) ?_;refine Tri.ln 19 p1.length fun hlena4=>?_;refine z36 21 (r2) (fun(x:Disk×Int) s=>RetAt Try.prog Try.f6 (.tup [(true,[.d (lD 2 z01 x.1.files),.d (lD 4 z03 x.1.waits),.d (dI x.1.room),.d (.bool x.1.down),.d (dI x.1.fuse)]),(false,[.d (dI x.2)])]) [] s) (fun(a4:Desk)=>⟨[(4,.c (.ptr 4 0)),(7,.c (.ptr 30303 0)),(19,cD (lD 4 z03 p1)),(20,cD (dI (p1.length:Int)))],[(4,.box [.zero,.zero,.d (dI 0),.d (.bool false),.d (dI 0)]),(30298,vL 4 z03 a4.disk.waits),(30299,vL 2 z01 a4.disk.files),(30300,vL 2 z01 a4.files),(30303,.box [oC 30300 2 a4.files,oC 30299 2 a4.disk.files,oC 30298 4 a4.disk.waits,.d (dI a4.disk.room),.d (.bool a4.disk.down),.d (dI a4.disk.fuse)])]⟩) [21,4,7,19,20] [4,30298,30299,30300,30303] [22,21,4,7,19,20] [4,30298,30299,30300,30303] [4,7,19,20] [4,30298,30299,30300,30303] [21,4,7,19,20] [4,30298,30299,30300,30303] h hlena4 ?_ ?_ ?_
  ·intro i3 a4 c hii3 h;refine Tri.sg [4,7,9,19,20,21] [4,9,30298,30299,30300,30303] (ai (show((0:Int)≤((i3:Nat):Int)∧((i3:Nat):Int)<(p1.length:Int))from⟨by omega,by omega⟩) (z00 3)) ?_;refine z02 ?_;refine z04 ?_;refine At.sg 2 [4,7,19,20,21,25,26] [4,30298,30299,30300,30303] (z00 2) ?_;obtain⟨r6,hr6,h⟩:=z05 h;refine z3z 0 [] [.c (.ptr 30303 0),.agg (cWrite (p1.getD i3 zzd))] [(5000,30303),(5100,30300),(5150,30300),(5200,30299),(5250,30299),(5300,30298),(5350,30298)] [4,7,19,20,21] [4] (z59 hr6) (.ren rfl rfl (.flat (.refl _) rfl rfl .nil)) ?_;refine At.sg 1 [4,7,10,19,20,21] [4,30298,30299,30300,30303] (z00 1) ?_;refine At.done rfl ?_;refine Tri.sg [4,7,10,19,20,21,29] [4,30298,30299,30300,30303] (z00 2) ?_;refine z07 h (fun h=>?_) (fun h=>?_)
   ·refine Tri.sg [4,5] [4,30298,30299] (z00 7) ?_;refine Tri.keep [4,5] [4,30298,30299] (s':=⟨[(4,.c (.ptr 4 0)),(5,cD (dI r6.1))],[(4,.box [oC 30299 2 r6.2.disk.files,oC 30298 4 r6.2.disk.waits,.d (dI r6.2.disk.room),.d (.bool r6.2.disk.down),.d (dI r6.2.disk.fuse)]),(30298,vL 4 z03 r6.2.disk.waits),(30299,vL 2 z01 r6.2.disk.files)]⟩) (by kernel_rfl) ?_;refine Tri.l [30298,30299] ⟨[(4,.c (.ptr 4 0)),(5,cD (dI r6.1))],[(4,.box (cDisk r6.2.disk))]⟩ ⟨⟨_,rfl,.refl _⟩,⟨_,rfl,.refl _⟩,trivial⟩ ⟨⟨_,rfl,.box (.cons (CLe.frozen (z01) r6.2.disk.files rfl (by simp)) (.cons (CLe.frozen (z03) r6.2.disk.waits rfl (by simp)) (.cons (.refl _) (.cons (.refl _) (.cons (.refl _) .nil))))),(by simp)⟩,trivial⟩ ?_;refine Tri.ret ?_;cases h;exact RetAt.k
   ·refine Tri.kp [21,4,7,19,20] [4,30298,30299,30300,30303] ?_;refine Tri.skip ?_;cases h;exact kr
  ·intro a5 h;refine Tri.sg [4,5] [4,30298,30299] (z00 6) ?_;refine Tri.keep [4,5] [4,30298,30299] (s':=⟨[(4,.c (.ptr 4 0)),(5,cD (dI 0))],[(4,.box [oC 30299 2 a5.disk.files,oC 30298 4 a5.disk.waits,.d (dI a5.disk.room),.d (.bool a5.disk.down),.d (dI a5.disk.fuse)]),(30298,vL 4 z03 a5.disk.waits),(30299,vL 2 z01 a5.disk.files)]⟩) (by kernel_rfl) ?_;refine Tri.l [30298,30299] ⟨[(4,.c (.ptr 4 0)),(5,cD (dI 0))],[(4,.box (cDisk a5.disk))]⟩ ⟨⟨_,rfl,.refl _⟩,⟨_,rfl,.refl _⟩,trivial⟩ ⟨⟨_,rfl,.box (.cons (CLe.frozen (z01) a5.disk.files rfl (by simp)) (.cons (CLe.frozen (z03) a5.disk.waits rfl (by simp)) (.cons (.refl _) (.cons (.refl _) (.cons (.refl _) .nil))))),(by simp)⟩,trivial⟩ ?_;refine Tri.ret ?_;cases h;exact RetAt.k
  ·exact fun x s hx hr=>by cases hx;exact hr
theorem ze4 {fuel:Nat}{p0:Disk}{q:(List File)×Int}(h:z68 fuel p0=some q):
 Summ Try.prog 21 [.agg (cDisk p0)] [] (.tup [(false,[.d (lD 2 z01 q.1)]),(false,[.d (dI q.2)])]) []:=by
 refine Summ.i Try.func21 rfl [] fun w0 G0 V LL φ0=>?_;unfold z68 at h;refine Tri.sg [1] [1] (z00 3) ?_;refine z02 ?_;refine z02 ?_;refine z04 ?_;refine At.sg 1 [1,5] [1] (z00 1) ?_;obtain⟨r1,hr1,h⟩:=z05 h;refine At.cA [] [.agg (cDisk p0)] (z4l hr1) (.cons (.refl _) .nil) ?_;refine At.sg 1 [1,4] [1] (z00 1) ?_;refine At.done rfl ?_;refine Tri.sg [1,4,8] [1] (z00 2) ?_;refine z07 h (fun h=>?_) (fun h=>?_)
 ·refine Tri.sg [2,3] [] (z00 3) ?_;refine Tri.keep [2,3] [] (s':=⟨[(2,.c (.zero)),(3,cD (dI r1))],[]⟩) (by kernel_rfl) ?_;refine Tri.l [] ⟨[(2,cD (lD 2 z01 ([]:List File))),(3,cD (dI r1))],[]⟩ ⟨⟨_,rfl,.c (.zero _ _)⟩,⟨_,rfl,.refl _⟩,trivial⟩ trivial ?_;refine Tri.ret ?_;cases h;exact RetAt.k
 ·refine Tri.skip ?_;refine z02 ?_;refine Tri.sg [1,11] [1] (z00 2) ?_;refine z07 h (fun h=>?_) (fun h=>?_)
  ·refine Tri.sg [2,3] [] (z00 2) ?_;refine Tri.keep [2,3] [] (s':=⟨[(2,.c (.zero)),(3,cD (dI 7))],[]⟩) (by kernel_rfl) ?_;refine Tri.l [] ⟨[(2,cD (lD 2 z01 ([]:List File))),(3,cD (dI 7))],[]⟩ ⟨⟨_,rfl,.c (.zero _ _)⟩,⟨_,rfl,.refl _⟩,trivial⟩ trivial ?_;refine Tri.ret ?_;cases h;exact RetAt.k
  ·refine Tri.skip ?_;refine z02 ?_;refine z04 ?_;refine At.sg 1 [12] [] (z00 1) ?_;obtain⟨r2,hr2,h⟩:=z05 h;refine z3z 0 [] [.agg (cDisk p0)] [(6000,30223),(6100,30220),(6101,30219),(6102,30218)] [] [] (z69 hr2) (.flat (.refl _) rfl rfl .nil) ?_;refine At.sg 5 [2,3] [30220] (z00 5) ?_;refine At.done rfl ?_;refine Tri.keep [2,3] [30220] (s':=⟨[(2,.c (oC 30220 2 r2.files)),(3,cD (dI 0))],[(30220,vL 2 z01 r2.files)]⟩) (by kernel_rfl) ?_;refine Tri.l [30220] ⟨[(2,cD (lD 2 z01 r2.files)),(3,cD (dI 0))],[]⟩ ⟨⟨_,rfl,.c (CLe.frozen (z01) r2.files rfl (by simp))⟩,⟨_,rfl,.refl _⟩,trivial⟩ trivial ?_;refine Tri.ret ?_;cases h;exact RetAt.k
theorem z26 {fuel:Nat}{p0:List File}{p1:ByteArray}{q:Int×Bool}(h:z0e fuel p0 p1=some q):
 Summ Try.prog 37 [cD (lD 2 z01 p0),cD (.str p1),cD (.fn 38 [])] [] (.tup [(false,[.d (dI q.1)]),(false,[.d (.bool q.2)])]) []:=by
 refine Summ.i Try.func37 rfl [] fun w0 G0 V LL φ0=>?_;unfold z0e at h;refine Tri.sg [0,1,2] [] (z00 2) ?_;refine Tri.sg [0,1,2,8] [] (z00 3) ?_;refine Tri.sg [0,1,2,8,9,10] [] (z00 3) ?_;refine z02 ?_;refine zcm (0,(p0.length:Int)) (fun(x:Empty) s=>False) (fun(a1:Int×Int)=>⟨[(0,cD (lD 2 z01 p0)),(1,cD (.str p1)),(2,cD (.fn 38 [])),(8,cD (dI (p0.length:Int))),(9,cD (dI a1.1)),(10,cD (dI a1.2))],[]⟩) [0,1,2,8,9,10] [] h ?_ ?_ ?_
 ·intro a1 c h;refine z02 ?_;refine Tri.sg [0,1,2,8,9,10,17] [] (z00 3) ?_;refine z07 h (fun h=>?_) (fun h=>?_)
  ·refine Tri.skip ?_;refine z3b ?_;refine Tri.sg [0,1,2,8,9,10,11] [] (tN 4 (ai (show((0:Int)≤1)from(by decide:(0:Int)≤1)) (z00 2))) ?_;refine z02 ?_;refine z04 ?_;obtain⟨hc7,h⟩:=z09 h;refine At.sg 6 [0,1,2,8,9,10,11,24,28,29] [] (tN 3 (ai hc7 (z00 2))) ?_;obtain⟨r8,hr8,h⟩:=z05 h;refine At.cA [] [.agg (cFile (p0.getD ((zzi.wrap (shrOp .u64 (zzu.wrap (zzi.wrap (a1.1+a1.2))) 1)).toNat) zzd)),cD (.str p1)] (z1r hr8) (.cons (.refl _) (.cons (.refl _) .nil)) ?_;refine At.sg 1 [0,1,2,8,9,10,11,31] [] (z00 1) ?_;refine At.done rfl ?_;refine z07 h (fun h=>?_) (fun h=>?_)
   ·refine z04 ?_;refine At.sg 3 [0,1,2,8,9,10] [] (z00 3) ?_;refine At.done rfl ?_;cases h;exact kr
   ·refine z04 ?_;refine At.sg 2 [0,1,2,8,9,10] [] (z00 2) ?_;refine At.done rfl ?_;cases h;exact kr
  ·refine Tri.kp [0,1,2,8,9,10] [] ?_;refine Tri.exit ?_;cases h;exact⟨rfl,kr⟩
 ·intro a2 h;refine z0u (fun(a3:Bool)=>⟨[(6,cD (dI a2.1)),(7,cD (.bool a3))],[]⟩) h (fun a3 h=>?_) (fun j4 h=>?_)
  ·refine Tri.ret ?_;cases h;exact RetAt.k
  ·refine z04 ?_;refine At.sg 5 [0,1,2,9,35,39] [] (z00 5) ?_;refine At.cs [39] h (fun h=>?_) (fun h=>?_)
   ·obtain⟨hc5,h⟩:=z09 h;refine At.sg 6 [35,39,40,44,45] [] (tN 3 (ai hc5 (z00 2))) ?_;obtain⟨r6,hr6,h⟩:=z05 h;refine At.cA [] [.agg (cFile (p0.getD a2.1.toNat zzd)),cD (.str p1)] (z1r hr6) (.cons (.refl _) (.cons (.refl _) .nil)) ?_;refine At.sg 4 [6,7] [] (z00 4) ?_;refine At.done rfl ?_;exact⟨_,h,kr⟩
   ·refine At.sg 11 [6,7] [] (z00 3) ?_;refine At.done rfl ?_;exact⟨_,h,kr⟩
 ·exact fun x=>x.elim
theorem z5p {fuel:Nat}{p0:List File}{p1:ByteArray}{q:Int×Bool}(h:z0g fuel p0 p1=some q):
 Summ Try.prog 22 [cD (lD 2 z01 p0),cD (.str p1)] [] (.tup [(false,[.d (dI q.1)]),(false,[.d (.bool q.2)])]) []:=by
 refine Summ.i Try.func22 rfl [] fun w0 G0 V LL φ0=>?_;unfold z0g at h;refine Tri.sg [0,1] [] (z00 2) ?_;refine z02 ?_;refine z04 ?_;refine At.sg 2 [6,7] [] (z00 2) ?_;obtain⟨r1,hr1,h⟩:=z05 h;refine At.cA [] [cD (lD 2 z01 p0),cD (.str p1),cD (.fn 38 [])] (z26 hr1) (.cons (.refl _) (.cons (.refl _) (.cons (.refl _) .nil))) ?_;refine At.sg 4 [4,5] [] (z00 4) ?_;refine At.done rfl ?_;refine Tri.ret ?_;cases h;exact RetAt.k
theorem z8f {fuel:Nat}{p0:Disk}{p1:ByteArray}{q:ByteArray×Int}(h:z45 fuel p0 p1=some q):
 Summ Try.prog 9 [.agg (cDisk p0),cD (.str p1)] [] (.tup [(false,[.d (.str q.1)]),(false,[.d (dI q.2)])]) []:=by
 refine Summ.i Try.func9 rfl [] fun w0 G0 V LL φ0=>?_;unfold z45 at h;refine Tri.sg [1,2] [2] (z00 3) ?_;refine z02 ?_;refine z04 ?_;refine At.sg 1 [1,11] [] (z00 1) ?_;obtain⟨r1,hr1,h⟩:=z05 h;refine At.cA [] [.agg (cDisk p0)] (ze4 hr1) (.cons (.refl _) .nil) ?_;refine At.sg 5 [1,6,7] [] (z00 5) ?_;refine At.done rfl ?_;refine z02 ?_;refine Tri.sg [1,6,7,16] [] (z00 2) ?_;refine z07 h (fun h=>?_) (fun h=>?_)
 ·refine Tri.sg [4,5] [] (z00 3) ?_;refine Tri.ret ?_;cases h;exact RetAt.k
 ·refine Tri.skip ?_;refine z02 ?_;refine z04 ?_;refine At.sg 2 [6,19,20] [] (z00 2) ?_;obtain⟨r2,hr2,h⟩:=z05 h;refine At.cA [] [cD (lD 2 z01 r1.1),cD (.str p1)] (z5p hr2) (.cons (.refl _) (.cons (.refl _) .nil)) ?_;refine At.sg 5 [6,8,9] [] (z00 5) ?_;refine At.done rfl ?_;refine z02 ?_;refine Tri.sg [6,8,25] [] (z00 2) ?_;refine z07 h (fun h=>?_) (fun h=>?_)
  ·refine Tri.sg [4,5] [] (z00 2) ?_;refine Tri.ret ?_;cases h;exact RetAt.k
  ·refine Tri.skip ?_;obtain⟨hc3,h⟩:=z09 h;refine Tri.sg [4,5] [] (tN 2 (ai hc3 (z00 4))) ?_;refine Tri.ret ?_;cases h;exact RetAt.k
theorem z54 {p1:Int}{l0:Int}{q:Int}(h:z1i p1 l0=some q):
 Summ Try.prog 24 [.c (.ptr 5000 0),cD (.int .u8 p1)] [(5000,.box [.d (.int .u32 l0)])] (.tup []) [(5000,.box [.d (.int .u32 q)])]:=by
 refine Summ.i Try.func24 rfl [] fun w0 G0 V LL φ0=>?_;unfold z1i at h;refine Tri.sg [0,4] [5000] (z00 7) ?_;refine z02 ?_;refine Tri.sg [0,4,11] [5000] (z00 1) ?_;refine z36 11 (z0j .xor .u32 l0 (IntKind.u32.wrap p1)) (fun(x:Empty) s=>False) (fun(a2:Int)=>⟨[(0,.c (.ptr 5000 0)),(4,cD (.int .u32 a2))],[(5000,.box [.d (.int .u32 l0)])]⟩) [11,0,4] [5000] [12,11,0,4] [5000] [0,4] [5000] [11,0,4] [5000] h (by unfold maxN;omega) ?_ ?_ ?_
 ·intro i1 a2 c hii1 h;refine z04 ?_;refine At.sg 8 [11,0,4] [5000] (tN 1 (ai (show((0:Int)≤1)from(by decide:(0:Int)≤1)) (z00 6))) ?_;refine At.done rfl ?_;cases h;exact kr
 ·intro a3 h;refine z04 ?_;refine At.sg 4 [] [5000] (z00 4) ?_;refine At.done rfl ?_;cases h;exact RetAt.k
 ·exact fun x=>x.elim
theorem z9q {p0:ByteArray}{q:Int}(h:z5b p0=some q):
 Summ Try.prog 11 [cD (.str p0)] [] (cD (.int .u32 q)) []:=by
 refine Summ.i Try.func11 rfl [] fun w0 G0 V LL φ0=>?_;unfold z5b at h;refine Tri.sg [0] [] (z00 1) ?_;refine Tri.sg [0,3] [3] (z00 2) ?_;refine z02 ?_;refine z04 ?_;refine At.sg 1 [6,0,3] [3] (z00 1) ?_;refine At.sg 1 [0,3,4] [3] (z00 1) ?_;refine At.done rfl ?_;refine z02 ?_;refine Tri.sg [0,3,4,8,9] [3] (z00 3) ?_;obtain⟨hlena2,h⟩:=z09 h;refine z36 9 (4294967295) (fun(x:Empty) s=>False) (fun(a2:Int)=>⟨[(0,cD (.str p0)),(3,.c (.ptr 3 0)),(4,.c (.clo 24 1 [.ptr 3 0])),(8,cD (dI (p0.size:Int)))],[(3,.box [.d (.int .u32 a2)])]⟩) [9,0,3,4,8] [3] [10,9,0,3,4,8] [3] [0,3,4,8] [3] [9,0,3,4,8] [3] h hlena2 ?_ ?_ ?_
 ·intro i1 a2 c hii1 h;refine Tri.sg [0,3,4,5,8,9] [3] (z00 2) ?_;refine z04 ?_;refine At.sg 4 [0,3,4,8,9,12,15] [3] (tN 3 (ai (show((0:Int)≤((i1:Nat):Int)∧((i1:Nat):Int)<(p0.size:Int))from⟨by omega,by omega⟩) trivial)) ?_;obtain⟨r4,hr4,h⟩:=z05 h;refine z3z 1 [.ptr 3 0] [.c (.ptr 3 0),cD (.int .u8 (bt p0 ((i1:Nat):Int)))] [(5000,3)] [0,3,4,8,9] [] (z54 hr4) (.ren rfl rfl (.flat (.refl _) rfl rfl .nil)) ?_;refine At.keep [9,0,3,4,8] [3] (s':=⟨[(9,cD (dI ((i1:Nat):Int))),(0,cD (.str p0)),(3,.c (.ptr 3 0)),(4,.c (.clo 24 1 [.ptr 3 0])),(8,cD (dI (p0.size:Int)))],[(3,.box [.d (.int .u32 r4)])]⟩) (by kernel_rfl) ?_;refine At.done rfl ?_;cases h;exact kr
 ·intro a3 h;refine Tri.sg [2] [] (z00 3) ?_;refine Tri.ret ?_;cases h;exact RetAt.k
 ·exact fun x=>x.elim
theorem z7i {fuel:Nat}{q:Bool}(h:z3l fuel=some q):
 Summ Try.prog 4 [] [] (cD (.bool q)) []:=by
 refine Summ.i Try.func4 rfl [] fun w0 G0 V LL φ0=>?_;unfold z3l at h;refine Tri.sg [] [] (z00 1) ?_;refine z02 ?_;refine z04 ?_;refine At.seg 2 [6,7] [] (s':=⟨[(6,.agg [.zero,.zero,.d (dI 1099511627776),.d (.bool false),.d (dI (-1))]),(7,.agg [.d (.int .u8 1),.d (.str (bs [97])),.d (.str (bs [])),.d (.str (bs [120]))])],[]⟩) (by kernel_rfl) (z00 2) ?_;refine At.one rfl (One.buildSlice (z:=[.d (.int .u8 0),.d (.str (bs [])),.d (.str (bs [])),.d (.str (bs []))]) (cells:=[.d (.int .u8 1),.d (.str (bs [97])),.d (.str (bs [])),.d (.str (bs [120]))]) (xs:=List.map (z03) ([(⟨1,(bs [97]),(bs []),(bs [120])⟩:Write)]:List Write)) rfl rfl rfl rfl (by kernel_rfl) rfl rfl (by kernel_rfl) rfl rfl rfl (by kernel_rfl) rfl ⟨⟨rfl,.refl _⟩,trivial⟩) ?_;refine At.l [8] ⟨[(8,cD (lD 4 z03 ([(⟨1,(bs [97]),(bs []),(bs [120])⟩:Write)]:List Write))),(6,.agg [.zero,.zero,.d (dI 1099511627776),.d (.bool false),.d (dI (-1))]),(7,.agg [.d (.int .u8 1),.d (.str (bs [97])),.d (.str (bs [])),.d (.str (bs [120]))])],[]⟩ ⟨⟨_,rfl,.c (.own rfl (zzg.2 rfl) (zz5 rfl) rfl (z1z (z03) ([(⟨1,(bs [97]),(bs []),(bs [120])⟩:Write)]:List Write)))⟩,⟨_,rfl,.refl _⟩,⟨_,rfl,.refl _⟩,trivial⟩ trivial ?_;obtain⟨r1,hr1,h⟩:=z05 h;refine At.cA [] [.agg [.zero,.zero,.d (dI 1099511627776),.d (.bool false),.d (dI (-1))],cD (lD 4 z03 ([(⟨1,(bs [97]),(bs []),(bs [120])⟩:Write)]:List Write))] (zag hr1) (.cons (.agg (.cons (.le (.zero _ _)) (.cons (.le (.zero _ _)) (.cons (.le (.refl _)) (.cons (.le (.refl _)) (.cons (.le (.refl _)) .nil)))))) (.cons (.refl _) .nil)) ?_;refine At.sg 6 [1,2] [1] (z00 6) ?_;refine At.done rfl ?_;refine z02 ?_;refine z04 ?_;refine At.sg 1 [2,13] [] (z00 1) ?_;obtain⟨r2,hr2,h⟩:=z05 h;refine At.cA [] [.agg (cDisk r1.1),cD (.str (bs [97]))] (z8f hr2) (.cons (.refl _) (.cons (.refl _) .nil)) ?_;refine At.sg 5 [2,3,4] [] (z00 5) ?_;refine At.done rfl ?_;refine z0u (fun(a3:Bool)=>⟨[(0,cD (.bool a3))],[]⟩) h (fun a3 h=>?_) (fun j4 h=>?_)
 ·refine Tri.ret ?_;cases h;exact RetAt.k
 ·refine z04 ?_;obtain⟨r5,hr5,h⟩:=z05 h;refine At.cA [] [cD (.str (bs [49,50,51,52,53,54,55,56,57]))] (z9q hr5) (.cons (.refl _) .nil) ?_;refine At.sg 2 [2,3,4,19] [] (z00 2) ?_;refine At.cs [19] h (fun h=>?_) (fun h=>?_)
  ·refine At.sg 4 [3,4,23] [] (z00 4) ?_;refine At.cs [23] h (fun h=>?_) (fun h=>?_)
   ·refine At.sg 4 [3,27] [] (z00 4) ?_;refine At.cs [27] h (fun h=>?_) (fun h=>?_)
    ·refine At.sg 4 [0] [] (z00 4) ?_;refine At.done rfl ?_;exact⟨_,h,kr⟩
    ·refine At.sg 4 [0] [] (z00 2) ?_;refine At.done rfl ?_;exact⟨_,h,kr⟩
   ·refine At.sg 8 [0] [] (z00 4) ?_;refine At.done rfl ?_;exact⟨_,h,kr⟩
  ·refine At.sg 12 [0] [] (z00 6) ?_;refine At.done rfl ?_;exact⟨_,h,kr⟩
theorem z8p {p0:Int}{q:Int}(h:z3f p0=some q):
 Summ Try.prog 44 [cD (dU p0)] [] (cD (dI q)) []:=by
 refine Summ.i Try.func44 rfl [] fun w0 G0 V LL φ0=>?_;unfold z3f at h;refine Tri.sg [0,2] [] (z00 1) ?_;refine z0u (fun(a1:Int×Int)=>⟨[(0,cD (dU a1.1)),(2,cD (dI a1.2))],[]⟩) h (fun a1 h=>?_) (fun j2 h=>?_)
 ·refine z0u (fun(a3:Int×Int)=>⟨[(0,cD (dU a3.1)),(2,cD (dI a3.2))],[]⟩) h (fun a3 h=>?_) (fun j4 h=>?_)
  ·refine z0u (fun(a5:Int×Int)=>⟨[(0,cD (dU a5.1)),(2,cD (dI a5.2))],[]⟩) h (fun a5 h=>?_) (fun j6 h=>?_)
   ·obtain⟨hc7,h⟩:=z09 h;refine Tri.sg [2] [] (tN 3 (ai hc7 (z00 3))) ?_;refine Tri.ret ?_;cases h;exact RetAt.k
   ·refine Tri.sg [0,2,14] [] (z00 2) ?_;refine z07 h (fun h=>?_) (fun h=>?_)
    ·refine Tri.sg [0,2] [] (tN 1 (ai (show((0:Int)≤8)from(by decide:(0:Int)≤8)) (z00 1))) ?_;refine z04 ?_;refine At.sg 3 [0,2] [] (z00 3) ?_;refine At.done rfl ?_;exact⟨_,h,kr⟩
    ·refine Tri.kp [0,2] [] ?_;refine Tri.skip ?_;exact⟨_,h,kr⟩
  ·refine Tri.sg [0,2,8] [] (z00 2) ?_;refine z07 h (fun h=>?_) (fun h=>?_)
   ·refine Tri.sg [0,2] [] (tN 1 (ai (show((0:Int)≤16)from(by decide:(0:Int)≤16)) (z00 1))) ?_;refine z04 ?_;refine At.sg 3 [0,2] [] (z00 3) ?_;refine At.done rfl ?_;exact⟨_,h,kr⟩
   ·refine Tri.kp [0,2] [] ?_;refine Tri.skip ?_;exact⟨_,h,kr⟩
 ·refine Tri.sg [0,2,4] [] (z00 2) ?_;refine z07 h (fun h=>?_) (fun h=>?_)
  ·refine Tri.sg [0] [] (tN 1 (ai (show((0:Int)≤32)from(by decide:(0:Int)≤32)) (z00 1))) ?_;refine z04 ?_;refine At.sg 1 [0,2] [] (z00 1) ?_;refine At.done rfl ?_;exact⟨_,h,kr⟩
  ·refine Tri.kp [0,2] [] ?_;refine Tri.skip ?_;exact⟨_,h,kr⟩
theorem zcf {p0:Int}{q:ByteArray}(h:z4e p0=some q):
 Summ Try.prog 26 [cD (dU p0)] [] (cD (.str q)) []:=by
 refine Summ.i Try.func26 rfl [] fun w0 G0 V LL φ0=>?_;unfold z4e at h;refine Tri.sg [0] [] (z00 1) ?_;refine z02 ?_;refine z04 ?_;refine At.sg 1 [0,6] [] (z00 1) ?_;obtain⟨r1,hr1,h⟩:=z05 h;refine At.cA [] [cD (dU p0)] (z8p hr1) (.cons (.refl _) .nil) ?_;refine At.sg 4 [0,3] [] (tN 1 (ai (show((7:Int)≠0)from(by decide:(7:Int)≠0)) (z00 2))) ?_;refine At.done rfl ?_;refine z02 ?_;refine z04 ?_;refine At.seg 1 [0,3,11] [] (s':=⟨[(0,cD (dU p0)),(3,cD (dI (if 1<(zzi.wrap ((zzi.wrap (r1+6)).tdiv 7))then(zzi.wrap ((zzi.wrap (r1+6)).tdiv 7))else 1))),(11,cD (dI (if 1<(zzi.wrap ((zzi.wrap (r1+6)).tdiv 7))then(zzi.wrap ((zzi.wrap (r1+6)).tdiv 7))else 1)))],[]⟩) (by kernel_rfl) (z00 1) ?_;obtain⟨hc2,h⟩:=z09 h;refine At.one rfl (z88 (e:=5) (es:=1) (bs:=1) (n:=(if 1<(zzi.wrap ((zzi.wrap (r1+6)).tdiv 7))then(zzi.wrap ((zzi.wrap (r1+6)).tdiv 7))else 1)) (c:=(if 1<(zzi.wrap ((zzi.wrap (r1+6)).tdiv 7))then(zzi.wrap ((zzi.wrap (r1+6)).tdiv 7))else 1)) (z:=[.d (.int .u8 0)]) (z1k .u8) (0:Int) rfl rfl rfl rfl (by kernel_rfl) rfl rfl rfl (by kernel_rfl) rfl (by kernel_rfl) rfl (.refl _) rfl rfl rfl hc2.1 hc2.2.1 hc2.2.2 rfl) ?_;refine At.sg 1 [0,3,4] [12] (z00 1) ?_;refine At.done rfl ?_;refine z02 ?_;refine z37 [0,3,4,14,15] [12] ⟨[(0,cD (dU p0)),(3,cD (dI (if 1<(zzi.wrap ((zzi.wrap (r1+6)).tdiv 7))then(zzi.wrap ((zzi.wrap (r1+6)).tdiv 7))else 1))),(4,.c (oC 12 1 (zza ((if 1<(zzi.wrap ((zzi.wrap (r1+6)).tdiv 7))then(zzi.wrap ((zzi.wrap (r1+6)).tdiv 7))else 1).toNat) (0:Int)))),(14,cD (dI ((zza ((if 1<(zzi.wrap ((zzi.wrap (r1+6)).tdiv 7))then(zzi.wrap ((zzi.wrap (r1+6)).tdiv 7))else 1).toNat) (0:Int)).length:Int))),(15,cD (dI 0))],[(12,vL 1 (z1k .u8) (zza ((if 1<(zzi.wrap ((zzi.wrap (r1+6)).tdiv 7))then(zzi.wrap ((zzi.wrap (r1+6)).tdiv 7))else 1).toNat) (0:Int)))]⟩ _ (by kernel_rfl) (z00 3) ?_;refine za6 (t:=4) rfl rfl (zzc _) fun hlena4=>?_;refine z36 15 (zza ((if 1<(zzi.wrap ((zzi.wrap (r1+6)).tdiv 7))then(zzi.wrap ((zzi.wrap (r1+6)).tdiv 7))else 1).toNat) (0:Int)) (fun(x:Empty) s=>False) (fun(a4:List Int)=>⟨[(0,cD (dU p0)),(3,cD (dI (if 1<(zzi.wrap ((zzi.wrap (r1+6)).tdiv 7))then(zzi.wrap ((zzi.wrap (r1+6)).tdiv 7))else 1))),(4,.c (oC 12 1 a4)),(14,cD (dI ((zza ((if 1<(zzi.wrap ((zzi.wrap (r1+6)).tdiv 7))then(zzi.wrap ((zzi.wrap (r1+6)).tdiv 7))else 1).toNat) (0:Int)).length:Int)))],[(12,vL 1 (z1k .u8) a4)]⟩) [15,0,3,4,14] [12] [16,15,0,3,4,14] [12] [0,3,4,14] [12] [15,0,3,4,14] [12] h hlena4 ?_ ?_ ?_
 ·intro i3 a4 c hii3 h;refine Tri.sg [0,3,4,5,14,15] [12] (z00 2) ?_;refine z04 ?_;obtain⟨hc10,h⟩:=z09 h;obtain⟨hc11,h⟩:=z09 h;refine At.seg 9 [0,3,4,14,15,25,26] [12] (s':=⟨[(0,cD (dU p0)),(3,cD (dI (if 1<(zzi.wrap ((zzi.wrap (r1+6)).tdiv 7))then(zzi.wrap ((zzi.wrap (r1+6)).tdiv 7))else 1))),(4,.c (oC 12 1 a4)),(14,cD (dI ((zza ((if 1<(zzi.wrap ((zzi.wrap (r1+6)).tdiv 7))then(zzi.wrap ((zzi.wrap (r1+6)).tdiv 7))else 1).toNat) (0:Int)).length:Int))),(15,cD (dI ((i3:Nat):Int))),(25,cD (.int .u8 (z0j .or .u8 (IntKind.u8.wrap (shrOp .u64 p0 (zzi.wrap ((7:Int)*((i3:Nat):Int))))) 128))),(26,.c (.vptr 12 1 (0+i3) 0))],[(12,vL 1 (z1k .u8) a4)]⟩) (by kernel_rfl) (tN 5 (ai hc10 (tN 2 (ai hc11 trivial)))) ?_;obtain⟨hc12,h⟩:=z09 h;refine At.one rfl (z4y (xs:=[.d (.int .u8 (z0j .or .u8 (IntKind.u8.wrap (shrOp .u64 p0 (zzi.wrap ((7:Int)*((i3:Nat):Int))))) 128))]) (ds:=[.int .u8 (z0j .or .u8 (IntKind.u8.wrap (shrOp .u64 p0 (zzi.wrap ((7:Int)*((i3:Nat):Int))))) 128)]) (z1k .u8) a4 (z0j .or .u8 (IntKind.u8.wrap (shrOp .u64 p0 (zzi.wrap ((7:Int)*((i3:Nat):Int))))) 128) rfl rfl rfl rfl rfl hc12 rfl rfl (.refl _) rfl rfl rfl rfl) ?_;refine At.keep [0,3,4,14,15] [12] (s':=⟨[(0,cD (dU p0)),(3,cD (dI (if 1<(zzi.wrap ((zzi.wrap (r1+6)).tdiv 7))then(zzi.wrap ((zzi.wrap (r1+6)).tdiv 7))else 1))),(4,.c (oC 12 1 a4)),(14,cD (dI ((zza ((if 1<(zzi.wrap ((zzi.wrap (r1+6)).tdiv 7))then(zzi.wrap ((zzi.wrap (r1+6)).tdiv 7))else 1).toNat) (0:Int)).length:Int))),(15,cD (dI ((i3:Nat):Int)))],[(12,vL 1 (z1k .u8) (a4.set (0+i3) (z0j .or .u8 (IntKind.u8.wrap (shrOp .u64 p0 (zzi.wrap ((7:Int)*((i3:Nat):Int))))) 128)))]⟩) (by kernel_rfl) ?_;refine At.eqS (s':=⟨[(0,cD (dU p0)),(3,cD (dI (if 1<(zzi.wrap ((zzi.wrap (r1+6)).tdiv 7))then(zzi.wrap ((zzi.wrap (r1+6)).tdiv 7))else 1))),(4,.c (oC 12 1 (a4.set (0+i3) (z0j .or .u8 (IntKind.u8.wrap (shrOp .u64 p0 (zzi.wrap ((7:Int)*((i3:Nat):Int))))) 128)))),(14,cD (dI ((zza ((if 1<(zzi.wrap ((zzi.wrap (r1+6)).tdiv 7))then(zzi.wrap ((zzi.wrap (r1+6)).tdiv 7))else 1).toNat) (0:Int)).length:Int))),(15,cD (dI ((i3:Nat):Int)))],[(12,vL 1 (z1k .u8) (a4.set (0+i3) (z0j .or .u8 (IntKind.u8.wrap (shrOp .u64 p0 (zzi.wrap ((7:Int)*((i3:Nat):Int))))) 128)))]⟩) (by simp only[oC,vL,List.length_set]) ?_;refine At.keep [15,0,3,4,14] [12] (s':=⟨[(15,cD (dI ((i3:Nat):Int))),(0,cD (dU p0)),(3,cD (dI (if 1<(zzi.wrap ((zzi.wrap (r1+6)).tdiv 7))then(zzi.wrap ((zzi.wrap (r1+6)).tdiv 7))else 1))),(4,.c (oC 12 1 (a4.set (0+i3) (z0j .or .u8 (IntKind.u8.wrap (shrOp .u64 p0 (zzi.wrap ((7:Int)*((i3:Nat):Int))))) 128)))),(14,cD (dI ((zza ((if 1<(zzi.wrap ((zzi.wrap (r1+6)).tdiv 7))then(zzi.wrap ((zzi.wrap (r1+6)).tdiv 7))else 1).toNat) (0:Int)).length:Int)))],[(12,vL 1 (z1k .u8) (a4.set (0+i3) (z0j .or .u8 (IntKind.u8.wrap (shrOp .u64 p0 (zzi.wrap ((7:Int)*((i3:Nat):Int))))) 128)))]⟩) (by kernel_rfl) ?_;refine At.done rfl ?_;cases h;exact kr
 ·intro a5 h;refine z02 ?_;refine z04 ?_;obtain⟨hc6,h⟩:=z09 h;obtain⟨hc7,h⟩:=z09 h;obtain⟨hc8,h⟩:=z09 h;refine At.seg 7 [4,33,34] [12] (s':=⟨[(4,.c (oC 12 1 a5)),(33,cD (.int .u8 (z0j .and .u8 (a5.getD (0+(zzi.wrap ((if 1<(zzi.wrap ((zzi.wrap (r1+6)).tdiv 7))then(zzi.wrap ((zzi.wrap (r1+6)).tdiv 7))else 1)-1)).toNat) zzd) 127))),(34,.c (.vptr 12 1 (0+(zzi.wrap ((if 1<(zzi.wrap ((zzi.wrap (r1+6)).tdiv 7))then(zzi.wrap ((zzi.wrap (r1+6)).tdiv 7))else 1)-1)).toNat) 0))],[(12,vL 1 (z1k .u8) a5)]⟩) (by kernel_rfl) (tN 3 (ai hc6 (ai hc7 (tN 1 (ai hc8 trivial))))) ?_;obtain⟨hc9,h⟩:=z09 h;refine At.one rfl (z4y (xs:=[.d (.int .u8 (z0j .and .u8 (a5.getD (0+(zzi.wrap ((if 1<(zzi.wrap ((zzi.wrap (r1+6)).tdiv 7))then(zzi.wrap ((zzi.wrap (r1+6)).tdiv 7))else 1)-1)).toNat) zzd) 127))]) (ds:=[.int .u8 (z0j .and .u8 (a5.getD (0+(zzi.wrap ((if 1<(zzi.wrap ((zzi.wrap (r1+6)).tdiv 7))then(zzi.wrap ((zzi.wrap (r1+6)).tdiv 7))else 1)-1)).toNat) zzd) 127)]) (z1k .u8) a5 (z0j .and .u8 (a5.getD (0+(zzi.wrap ((if 1<(zzi.wrap ((zzi.wrap (r1+6)).tdiv 7))then(zzi.wrap ((zzi.wrap (r1+6)).tdiv 7))else 1)-1)).toNat) zzd) 127) rfl rfl rfl rfl rfl hc9 rfl rfl (.refl _) rfl rfl rfl rfl) ?_;refine At.keep [4] [12] (s':=⟨[(4,.c (oC 12 1 a5))],[(12,vL 1 (z1k .u8) (a5.set (0+(zzi.wrap ((if 1<(zzi.wrap ((zzi.wrap (r1+6)).tdiv 7))then(zzi.wrap ((zzi.wrap (r1+6)).tdiv 7))else 1)-1)).toNat) (z0j .and .u8 (a5.getD (0+(zzi.wrap ((if 1<(zzi.wrap ((zzi.wrap (r1+6)).tdiv 7))then(zzi.wrap ((zzi.wrap (r1+6)).tdiv 7))else 1)-1)).toNat) zzd) 127)))]⟩) (by kernel_rfl) ?_;refine At.eqS (s':=⟨[(4,.c (oC 12 1 (a5.set (0+(zzi.wrap ((if 1<(zzi.wrap ((zzi.wrap (r1+6)).tdiv 7))then(zzi.wrap ((zzi.wrap (r1+6)).tdiv 7))else 1)-1)).toNat) (z0j .and .u8 (a5.getD (0+(zzi.wrap ((if 1<(zzi.wrap ((zzi.wrap (r1+6)).tdiv 7))then(zzi.wrap ((zzi.wrap (r1+6)).tdiv 7))else 1)-1)).toNat) zzd) 127))))],[(12,vL 1 (z1k .u8) (a5.set (0+(zzi.wrap ((if 1<(zzi.wrap ((zzi.wrap (r1+6)).tdiv 7))then(zzi.wrap ((zzi.wrap (r1+6)).tdiv 7))else 1)-1)).toNat) (z0j .and .u8 (a5.getD (0+(zzi.wrap ((if 1<(zzi.wrap ((zzi.wrap (r1+6)).tdiv 7))then(zzi.wrap ((zzi.wrap (r1+6)).tdiv 7))else 1)-1)).toNat) zzd) 127)))]⟩) (by simp only[oC,vL,List.length_set]) ?_;refine At.done rfl ?_;refine z02 ?_;refine z04 ?_;refine At.seg 1 [35] [12] (s':=⟨[(35,.c (oC 12 1 (a5.set (0+(zzi.wrap ((if 1<(zzi.wrap ((zzi.wrap (r1+6)).tdiv 7))then(zzi.wrap ((zzi.wrap (r1+6)).tdiv 7))else 1)-1)).toNat) (z0j .and .u8 (a5.getD (0+(zzi.wrap ((if 1<(zzi.wrap ((zzi.wrap (r1+6)).tdiv 7))then(zzi.wrap ((zzi.wrap (r1+6)).tdiv 7))else 1)-1)).toNat) zzd) 127))))],[(12,vL 1 (z1k .u8) (a5.set (0+(zzi.wrap ((if 1<(zzi.wrap ((zzi.wrap (r1+6)).tdiv 7))then(zzi.wrap ((zzi.wrap (r1+6)).tdiv 7))else 1)-1)).toNat) (z0j .and .u8 (a5.getD (0+(zzi.wrap ((if 1<(zzi.wrap ((zzi.wrap (r1+6)).tdiv 7))then(zzi.wrap ((zzi.wrap (r1+6)).tdiv 7))else 1)-1)).toNat) zzd) 127)))]⟩) (by kernel_rfl) (z00 1) ?_;refine At.one rfl (z7w (e:=5) (a5.set (0+(zzi.wrap ((if 1<(zzi.wrap ((zzi.wrap (r1+6)).tdiv 7))then(zzi.wrap ((zzi.wrap (r1+6)).tdiv 7))else 1)-1)).toNat) (z0j .and .u8 (a5.getD (0+(zzi.wrap ((if 1<(zzi.wrap ((zzi.wrap (r1+6)).tdiv 7))then(zzi.wrap ((zzi.wrap (r1+6)).tdiv 7))else 1)-1)).toNat) zzd) 127)) rfl rfl rfl rfl rfl rfl rfl (.own rfl (by simp) rfl (z8x (z1k .u8) (a5.set (0+(zzi.wrap ((if 1<(zzi.wrap ((zzi.wrap (r1+6)).tdiv 7))then(zzi.wrap ((zzi.wrap (r1+6)).tdiv 7))else 1)-1)).toNat) (z0j .and .u8 (a5.getD (0+(zzi.wrap ((if 1<(zzi.wrap ((zzi.wrap (r1+6)).tdiv 7))then(zzi.wrap ((zzi.wrap (r1+6)).tdiv 7))else 1)-1)).toNat) zzd) 127)) _))) ?_;refine At.sg 1 [2] [] (z00 1) ?_;refine At.done rfl ?_;refine Tri.ret ?_;cases h;exact RetAt.k
 ·exact fun x=>x.elim
theorem z8s {p0:List ByteArray}{q:ByteArray}(h:z4t p0=some q):
 Summ Try.prog 12 [cD (lD 1 z0b p0)] [] (cD (.str q)) []:=by
 refine Summ.i Try.func12 rfl [] fun w0 G0 V LL φ0=>?_;unfold z4t at h;refine Tri.sg [0] [] (z00 1) ?_;refine z02 ?_;refine z04 ?_;refine At.seg 1 [3] [] (s':=⟨[(3,cD (lD 1 z0b p0))],[]⟩) (by kernel_rfl) (z00 1) ?_;obtain⟨r1,hr1,h⟩:=z05 h;refine At.cA [] [cD (lD 1 z0b p0),cD (.str (bs []))] (zhq hr1) (.cons (.c (.le (.listV rfl (fun _ _=>rfl)))) (.cons (.refl _) .nil)) ?_;refine At.sg 1 [2] [] (z00 1) ?_;refine At.done rfl ?_;refine Tri.ret ?_;cases h;exact RetAt.k
theorem zdf {p0:ByteArray}{q:ByteArray}(h:z5q p0=some q):
 Summ Try.prog 13 [cD (.str p0)] [] (cD (.str q)) []:=by
 refine Summ.i Try.func13 rfl [] fun w0 G0 V LL φ0=>?_;unfold z5q at h;refine Tri.sg [0] [] (z00 1) ?_;refine z02 ?_;refine z04 ?_;refine At.sg 3 [0,5] [] (z00 3) ?_;obtain⟨r1,hr1,h⟩:=z05 h;refine At.cA [] [cD (dU (zzu.wrap (p0.size:Int)))] (zcf hr1) (.cons (.refl _) .nil) ?_;refine At.seg 1 [6,7] [] (s':=⟨[(6,cD (.str r1)),(7,cD (.str p0))],[]⟩) (by kernel_rfl) (z00 1) ?_;refine At.one rfl (One.buildSlice (z:=[.d (.str (bs []))]) (cells:=[.d (.str r1),.d (.str p0)]) (xs:=List.map (z0b) ([r1,p0]:List ByteArray)) rfl rfl rfl rfl (by kernel_rfl) rfl rfl (by kernel_rfl) rfl rfl rfl (by kernel_rfl) rfl ⟨⟨rfl,.refl _⟩,⟨rfl,.refl _⟩,trivial⟩) ?_;refine At.l [8] ⟨[(8,cD (lD 1 z0b ([r1,p0]:List ByteArray))),(6,cD (.str r1)),(7,cD (.str p0))],[]⟩ ⟨⟨_,rfl,.c (.own rfl (zzg.2 rfl) (zz5 rfl) rfl (z1z (z0b) ([r1,p0]:List ByteArray)))⟩,⟨_,rfl,.refl _⟩,⟨_,rfl,.refl _⟩,trivial⟩ trivial ?_;obtain⟨r2,hr2,h⟩:=z05 h;refine At.cA [] [cD (lD 1 z0b ([r1,p0]:List ByteArray))] (z8s hr2) (.cons (.refl _) .nil) ?_;refine At.sg 1 [2] [] (z00 1) ?_;refine At.done rfl ?_;refine Tri.ret ?_;cases h;exact RetAt.k
theorem z6n {p0:ByteArray}{q:ByteArray}(h:z3t p0=some q):
 Summ Try.prog 14 [cD (.str p0)] [] (cD (.str q)) []:=by
 refine Summ.i Try.func14 rfl [] fun w0 G0 V LL φ0=>?_;unfold z3t at h;refine Tri.sg [0] [] (z00 1) ?_;refine z02 ?_;refine z04 ?_;refine At.sg 1 [6] [] (z00 1) ?_;obtain⟨r1,hr1,h⟩:=z05 h;refine At.cA [] [cD (.str p0)] (z9q hr1) (.cons (.refl _) .nil) ?_;refine At.seg 1 [3] [] (s':=⟨[(3,cD (.int .u32 r1))],[]⟩) (by kernel_rfl) (z00 1) ?_;refine At.done rfl ?_;refine z02 ?_;refine z04 ?_;obtain⟨hc2,h⟩:=z09 h;refine At.one rfl (z88 (e:=5) (es:=1) (bs:=1) (n:=4) (c:=4) (z:=[.d (.int .u8 0)]) (z1k .u8) (0:Int) rfl rfl rfl rfl (by kernel_rfl) rfl rfl rfl (by kernel_rfl) rfl (by kernel_rfl) rfl (.refl _) rfl rfl rfl hc2.1 hc2.2.1 hc2.2.2 rfl) ?_;refine At.sg 1 [3,4] [8] (z00 1) ?_;refine At.done rfl ?_;refine z02 ?_;refine z37 [3,4,10,11] [8] ⟨[(3,cD (.int .u32 r1)),(4,.c (oC 8 1 (zza 4 (0:Int)))),(10,cD (dI ((zza 4 (0:Int)).length:Int))),(11,cD (dI 0))],[(8,vL 1 (z1k .u8) (zza 4 (0:Int)))]⟩ _ (by kernel_rfl) (z00 3) ?_;refine za6 (t:=4) rfl rfl (zzc _) fun hlena4=>?_;refine z36 11 (zza 4 (0:Int)) (fun(x:Empty) s=>False) (fun(a4:List Int)=>⟨[(3,cD (.int .u32 r1)),(4,.c (oC 8 1 a4)),(10,cD (dI ((zza 4 (0:Int)).length:Int)))],[(8,vL 1 (z1k .u8) a4)]⟩) [11,3,4,10] [8] [12,11,3,4,10] [8] [3,4,10] [8] [11,3,4,10] [8] h hlena4 ?_ ?_ ?_
 ·intro i3 a4 c hii3 h;refine Tri.sg [3,4,5,10,11] [8] (z00 2) ?_;refine z04 ?_;obtain⟨hc6,h⟩:=z09 h;obtain⟨hc7,h⟩:=z09 h;refine At.seg 8 [3,4,10,11,20,21] [8] (s':=⟨[(3,cD (.int .u32 r1)),(4,.c (oC 8 1 a4)),(10,cD (dI ((zza 4 (0:Int)).length:Int))),(11,cD (dI ((i3:Nat):Int))),(20,cD (.int .u8 (IntKind.u8.wrap (shrOp .u32 r1 (zzi.wrap ((8:Int)*((i3:Nat):Int))))))),(21,.c (.vptr 8 1 (0+i3) 0))],[(8,vL 1 (z1k .u8) a4)]⟩) (by kernel_rfl) (tN 5 (ai hc6 (tN 1 (ai hc7 trivial)))) ?_;obtain⟨hc8,h⟩:=z09 h;refine At.one rfl (z4y (xs:=[.d (.int .u8 (IntKind.u8.wrap (shrOp .u32 r1 (zzi.wrap ((8:Int)*((i3:Nat):Int))))))]) (ds:=[.int .u8 (IntKind.u8.wrap (shrOp .u32 r1 (zzi.wrap ((8:Int)*((i3:Nat):Int)))))]) (z1k .u8) a4 (IntKind.u8.wrap (shrOp .u32 r1 (zzi.wrap ((8:Int)*((i3:Nat):Int))))) rfl rfl rfl rfl rfl hc8 rfl rfl (.refl _) rfl rfl rfl rfl) ?_;refine At.keep [3,4,10,11] [8] (s':=⟨[(3,cD (.int .u32 r1)),(4,.c (oC 8 1 a4)),(10,cD (dI ((zza 4 (0:Int)).length:Int))),(11,cD (dI ((i3:Nat):Int)))],[(8,vL 1 (z1k .u8) (a4.set (0+i3) (IntKind.u8.wrap (shrOp .u32 r1 (zzi.wrap ((8:Int)*((i3:Nat):Int)))))))]⟩) (by kernel_rfl) ?_;refine At.eqS (s':=⟨[(3,cD (.int .u32 r1)),(4,.c (oC 8 1 (a4.set (0+i3) (IntKind.u8.wrap (shrOp .u32 r1 (zzi.wrap ((8:Int)*((i3:Nat):Int)))))))),(10,cD (dI ((zza 4 (0:Int)).length:Int))),(11,cD (dI ((i3:Nat):Int)))],[(8,vL 1 (z1k .u8) (a4.set (0+i3) (IntKind.u8.wrap (shrOp .u32 r1 (zzi.wrap ((8:Int)*((i3:Nat):Int)))))))]⟩) (by simp only[oC,vL,List.length_set]) ?_;refine At.keep [11,3,4,10] [8] (s':=⟨[(11,cD (dI ((i3:Nat):Int))),(3,cD (.int .u32 r1)),(4,.c (oC 8 1 (a4.set (0+i3) (IntKind.u8.wrap (shrOp .u32 r1 (zzi.wrap ((8:Int)*((i3:Nat):Int)))))))),(10,cD (dI ((zza 4 (0:Int)).length:Int)))],[(8,vL 1 (z1k .u8) (a4.set (0+i3) (IntKind.u8.wrap (shrOp .u32 r1 (zzi.wrap ((8:Int)*((i3:Nat):Int)))))))]⟩) (by kernel_rfl) ?_;refine At.done rfl ?_;cases h;exact kr
 ·intro a5 h;refine z02 ?_;refine z04 ?_;refine At.seg 1 [23] [8] (s':=⟨[(23,.c (oC 8 1 a5))],[(8,vL 1 (z1k .u8) a5)]⟩) (by kernel_rfl) (z00 1) ?_;refine At.one rfl (z7w (e:=5) a5 rfl rfl rfl rfl rfl rfl rfl (.own rfl (by simp) rfl (z8x (z1k .u8) a5 _))) ?_;refine At.sg 1 [2] [] (z00 1) ?_;refine At.done rfl ?_;refine Tri.ret ?_;cases h;exact RetAt.k
 ·exact fun x=>x.elim
theorem zcg {p0:ByteArray}{q:ByteArray×Int}(h:z4f p0=some q):
 Summ Try.prog 5 [cD (.str p0)] [] (.tup [(false,[.d (.str q.1)]),(false,[.d (dI q.2)])]) []:=by
 refine Summ.i Try.func5 rfl [] fun w0 G0 V LL φ0=>?_;unfold z4f at h;refine Tri.sg [0] [] (z00 2) ?_;refine z02 ?_;refine Tri.sg [0,6] [] (z00 3) ?_;refine z07 h (fun h=>?_) (fun h=>?_)
 ·refine Tri.sg [2,3] [] (z00 2) ?_;refine Tri.ret ?_;cases h;exact RetAt.k
 ·refine Tri.skip ?_;refine z02 ?_;refine z04 ?_;refine At.sg 1 [0,7] [] (z00 1) ?_;obtain⟨r1,hr1,h⟩:=z05 h;refine At.cA [] [cD (.str p0)] (zdf hr1) (.cons (.refl _) .nil) ?_;refine At.seg 1 [8,9] [] (s':=⟨[(8,cD (.str r1)),(9,cD (.str p0))],[]⟩) (by kernel_rfl) (z00 1) ?_;obtain⟨r2,hr2,h⟩:=z05 h;refine At.cA [] [cD (.str p0)] (z6n hr2) (.cons (.refl _) .nil) ?_;refine At.one rfl (One.buildSlice (z:=[.d (.str (bs []))]) (cells:=[.d (.str r1),.d (.str r2)]) (xs:=List.map (z0b) ([r1,r2]:List ByteArray)) rfl rfl rfl rfl (by kernel_rfl) rfl rfl (by kernel_rfl) rfl rfl rfl (by kernel_rfl) rfl ⟨⟨rfl,.refl _⟩,⟨rfl,.refl _⟩,trivial⟩) ?_;refine At.l [11] ⟨[(11,cD (lD 1 z0b ([r1,r2]:List ByteArray))),(8,cD (.str r1)),(10,cD (.str r2))],[]⟩ ⟨⟨_,rfl,.c (.own rfl (zzg.2 rfl) (zz5 rfl) rfl (z1z (z0b) ([r1,r2]:List ByteArray)))⟩,⟨_,rfl,.refl _⟩,⟨_,rfl,.refl _⟩,trivial⟩ trivial ?_;obtain⟨r3,hr3,h⟩:=z05 h;refine At.cA [] [cD (lD 1 z0b ([r1,r2]:List ByteArray))] (z8s hr3) (.cons (.refl _) .nil) ?_;refine At.sg 2 [2,3] [] (z00 2) ?_;refine At.done rfl ?_;refine Tri.ret ?_;cases h;exact RetAt.k
theorem zcv {fuel:Nat}{p0:Disk}{q:Disk×Int}(h:z3v fuel p0=some q):
 Summ Try.prog 7 [.agg (cDisk p0)] [] (.tup [(true,[.d (lD 2 z01 q.1.files),.d (lD 4 z03 q.1.waits),.d (dI q.1.room),.d (.bool q.1.down),.d (dI q.1.fuse)]),(false,[.d (dI q.2)])]) []:=by
 refine Summ.i Try.func7 rfl [] fun w0 G0 V LL φ0=>?_;unfold z3v at h;refine Tri.sg [1,2] [1,2] (z00 3) ?_;refine z02 ?_;refine z02 ?_;refine z04 ?_;refine At.sg 1 [1,2,6] [1,2] (z00 1) ?_;obtain⟨r1,hr1,h⟩:=z05 h;refine At.cA [] [.agg (cDisk p0)] (z4l hr1) (.cons (.refl _) .nil) ?_;refine At.sg 1 [1,2,4] [1,2] (z00 1) ?_;refine At.done rfl ?_;refine Tri.sg [1,2,4,9] [1,2] (z00 2) ?_;refine z07 h (fun h=>?_) (fun h=>?_)
 ·refine Tri.sg [2,3] [2] (z00 4) ?_;refine Tri.keep [2,3] [2] (s':=⟨[(2,.c (.ptr 2 0)),(3,cD (dI r1))],[(2,.box [.zero,.zero,.d (dI 0),.d (.bool false),.d (dI 0)])]⟩) (by kernel_rfl) ?_;refine Tri.l [] ⟨[(2,.c (.ptr 2 0)),(3,cD (dI r1))],[(2,.box [.d (lD 2 z01 ([]:List File)),.d (lD 4 z03 ([]:List Write)),.d (dI 0),.d (.bool false),.d (dI 0)])]⟩ ⟨⟨_,rfl,.refl _⟩,⟨_,rfl,.refl _⟩,trivial⟩ ⟨⟨_,rfl,.box (.cons (.zero _ _) (.cons (.zero _ _) (.cons (.refl _) (.cons (.refl _) (.cons (.refl _) .nil))))),(by simp)⟩,trivial⟩ ?_;refine Tri.ret ?_;cases h;exact RetAt.k
 ·refine Tri.skip ?_;refine z02 ?_;refine z04 ?_;refine At.sg 1 [1,2,12] [1,2] (z00 1) ?_;obtain⟨r2,hr2,h⟩:=z05 h;refine z3z 0 [] [.agg (cDisk p0)] [(6000,30223),(6100,30220),(6101,30219),(6102,30218)] [1,2] [1,2] (z69 hr2) (.flat (.refl _) rfl rfl .nil) ?_;refine At.sg 1 [1,2,5] [1,2,30218,30219,30220,30223] (z00 1) ?_;refine At.done rfl ?_;refine z02 ?_;refine z0u (fun(a3:Bool×Desk)=>⟨[(2,.c (.ptr 2 0)),(5,.c (.ptr 30223 0)),(20,cD (.bool a3.1))],[(2,.box [.zero,.zero,.d (dI 0),.d (.bool false),.d (dI 0)]),(30218,vL 4 z03 a3.2.disk.waits),(30219,vL 2 z01 a3.2.disk.files),(30220,vL 2 z01 a3.2.files),(30223,.box [oC 30220 2 a3.2.files,oC 30219 2 a3.2.disk.files,oC 30218 4 a3.2.disk.waits,.d (dI a3.2.disk.room),.d (.bool a3.2.disk.down),.d (dI a3.2.disk.fuse)])]⟩) h (fun a3 h=>?_) (fun j4 h=>?_)
  ·refine z07 h (fun h=>?_) (fun h=>?_)
   ·refine Tri.sg [2,3] [2,30218,30219] (z00 6) ?_;refine Tri.keep [2,3] [2,30218,30219] (s':=⟨[(2,.c (.ptr 2 0)),(3,cD (dI 7))],[(2,.box [oC 30219 2 a3.2.disk.files,oC 30218 4 a3.2.disk.waits,.d (dI a3.2.disk.room),.d (.bool a3.2.disk.down),.d (dI a3.2.disk.fuse)]),(30218,vL 4 z03 a3.2.disk.waits),(30219,vL 2 z01 a3.2.disk.files)]⟩) (by kernel_rfl) ?_;refine Tri.l [30218,30219] ⟨[(2,.c (.ptr 2 0)),(3,cD (dI 7))],[(2,.box (cDisk a3.2.disk))]⟩ ⟨⟨_,rfl,.refl _⟩,⟨_,rfl,.refl _⟩,trivial⟩ ⟨⟨_,rfl,.box (.cons (CLe.frozen (z01) a3.2.disk.files rfl (by simp)) (.cons (CLe.frozen (z03) a3.2.disk.waits rfl (by simp)) (.cons (.refl _) (.cons (.refl _) (.cons (.refl _) .nil))))),(by simp)⟩,trivial⟩ ?_;refine Tri.ret ?_;cases h;exact RetAt.k
   ·refine Tri.skip ?_;refine Tri.sg [2,5] [2,30220,30223] (z00 14) ?_;refine Tri.sg [2,3] [2,30220] (z00 6) ?_;refine Tri.keep [2,3] [2,30220] (s':=⟨[(2,.c (.ptr 2 0)),(3,cD (dI 0))],[(2,.box [oC 30220 2 a3.2.files,.zero,.d (dI a3.2.disk.room),.d (.bool a3.2.disk.down),.d (dI a3.2.disk.fuse)]),(30220,vL 2 z01 a3.2.files)]⟩) (by kernel_rfl) ?_;refine Tri.l [30220] ⟨[(2,.c (.ptr 2 0)),(3,cD (dI 0))],[(2,.box [.d (lD 2 z01 a3.2.files),.d (lD 4 z03 ([]:List Write)),.d (dI a3.2.disk.room),.d (.bool a3.2.disk.down),.d (dI a3.2.disk.fuse)])]⟩ ⟨⟨_,rfl,.refl _⟩,⟨_,rfl,.refl _⟩,trivial⟩ ⟨⟨_,rfl,.box (.cons (CLe.frozen (z01) a3.2.files rfl (by simp)) (.cons (.zero _ _) (.cons (.refl _) (.cons (.refl _) (.cons (.refl _) .nil))))),(by simp)⟩,trivial⟩ ?_;refine Tri.ret ?_;cases h;exact RetAt.k
  ·refine z04 ?_;refine At.sg 3 [2,5,16] [2,30218,30219,30220,30223] (z00 3) ?_;refine At.cs [16] h (fun h=>?_) (fun h=>?_)
   ·refine At.sg 4 [2,5,20] [2,30218,30219,30220,30223] (z00 1) ?_;refine At.done rfl ?_;exact⟨_,h,kr⟩
   ·refine At.sg 1 [2,5,16,17] [2,30218,30219,30220,30223] (z00 1) ?_;obtain⟨r5,hr5,h⟩:=z05 h;refine z3z 0 [] [.c (.ptr 30223 0)] [(5000,30223),(5100,30220),(5150,30220),(5200,30219),(5250,30219),(5300,30218),(5350,30218)] [2,5,16] [2] (z3w hr5) (.ren rfl rfl .nil) ?_;refine At.sg 2 [2,5,20] [2,30218,30219,30220,30223] (z00 2) ?_;refine At.done rfl ?_;exact⟨_,h,kr⟩
theorem zcb {fuel:Nat}{p0:Disk}{p1:Int}{p2:Int}{q:Disk×Int}(h:z4b fuel p0 p1 p2=some q):
 Summ Try.prog 8 [.agg (cDisk p0),cD (dI p1),cD (dI p2)] [] (.tup [(true,[.d (lD 2 z01 q.1.files),.d (lD 4 z03 q.1.waits),.d (dI q.1.room),.d (.bool q.1.down),.d (dI q.1.fuse)]),(false,[.d (dI q.2)])]) []:=by
 refine Summ.i Try.func8 rfl [] fun w0 G0 V LL φ0=>?_;unfold z4b at h;refine Tri.sg [1,2,3,6] [3,6] (z00 3) ?_;refine z02 ?_;refine z02 ?_;refine z04 ?_;refine At.sg 1 [1,2,3,6,11] [3,6] (z00 1) ?_;obtain⟨r1,hr1,h⟩:=z05 h;refine At.cA [] [.agg (cDisk p0)] (z4l hr1) (.cons (.refl _) .nil) ?_;refine At.sg 1 [1,2,3,6,8] [3,6] (z00 1) ?_;refine At.done rfl ?_;refine Tri.sg [1,2,3,6,8,14] [3,6] (z00 2) ?_;refine z07 h (fun h=>?_) (fun h=>?_)
 ·refine Tri.sg [6,7] [6] (z00 4) ?_;refine Tri.keep [6,7] [6] (s':=⟨[(6,.c (.ptr 6 0)),(7,cD (dI r1))],[(6,.box [.zero,.zero,.d (dI 0),.d (.bool false),.d (dI 0)])]⟩) (by kernel_rfl) ?_;refine Tri.l [] ⟨[(6,.c (.ptr 6 0)),(7,cD (dI r1))],[(6,.box [.d (lD 2 z01 ([]:List File)),.d (lD 4 z03 ([]:List Write)),.d (dI 0),.d (.bool false),.d (dI 0)])]⟩ ⟨⟨_,rfl,.refl _⟩,⟨_,rfl,.refl _⟩,trivial⟩ ⟨⟨_,rfl,.box (.cons (.zero _ _) (.cons (.zero _ _) (.cons (.refl _) (.cons (.refl _) (.cons (.refl _) .nil))))),(by simp)⟩,trivial⟩ ?_;refine Tri.ret ?_;cases h;exact RetAt.k
 ·refine Tri.skip ?_;refine Tri.sg [1,2,3,6] [3,6] (z00 7) ?_;refine z02 ?_;refine z04 ?_;refine At.sg 2 [1,2,3,6,24] [3,6] (z00 2) ?_;obtain⟨r2,hr2,h⟩:=z05 h;refine z3z 0 [] [cD (lD 2 z01 p0.files)] [(6000,30400)] [1,2,3,6] [3,6] (z1g hr2) (.flat (.refl _) rfl rfl .nil) ?_;refine At.sg 2 [1,2,3,6,9] [3,6,9,30400] (z00 2) ?_;refine At.done rfl ?_;refine z02 ?_;refine z04 ?_;refine At.sg 3 [1,2,3,6,9,27,28] [3,6,9,30400] (z00 3) ?_;obtain⟨hc3,h⟩:=z09 h;refine At.seg 1 [29,1,2,3,6,9,27,28] [3,6,9,30400] (s':=⟨[(29,.c (.d (.list 4 ((if(p0.waits.length:Int)<(if p1<0 then 0 else p1)then(p0.waits.length:Int)else(if p1<0 then 0 else p1)).toNat-(0:Int).toNat) (fun i=>z03 (p0.waits.getD ((0:Int).toNat+i) zzd))))),(1,cD (dI (if(p0.waits.length:Int)<(if p1<0 then 0 else p1)then(p0.waits.length:Int)else(if p1<0 then 0 else p1)))),(2,cD (dI p2)),(3,.c (.ptr 3 0)),(6,.c (.ptr 6 0)),(9,.c (.ptr 9 0)),(27,cD (lD 4 z03 p0.waits)),(28,cD (dI (if(p0.waits.length:Int)<(if p1<0 then 0 else p1)then(p0.waits.length:Int)else(if p1<0 then 0 else p1))))],[(3,.box (cDisk p0)),(6,.box [.zero,.zero,.d (dI 0),.d (.bool false),.d (dI 0)]),(9,.box [oC 30400 2 r2]),(30400,vL 2 z01 r2)]⟩) (by kernel_rfl) (ai hc3 trivial) ?_;refine At.l [] ⟨[(29,cD (lD 4 z03 (sub p0.waits 0 (if(p0.waits.length:Int)<(if p1<0 then 0 else p1)then(p0.waits.length:Int)else(if p1<0 then 0 else p1))))),(1,cD (dI (if(p0.waits.length:Int)<(if p1<0 then 0 else p1)then(p0.waits.length:Int)else(if p1<0 then 0 else p1)))),(2,cD (dI p2)),(3,.c (.ptr 3 0)),(6,.c (.ptr 6 0)),(9,.c (.ptr 9 0)),(27,cD (lD 4 z03 p0.waits)),(28,cD (dI (if(p0.waits.length:Int)<(if p1<0 then 0 else p1)then(p0.waits.length:Int)else(if p1<0 then 0 else p1))))],[(3,.box (cDisk p0)),(6,.box [.zero,.zero,.d (dI 0),.d (.bool false),.d (dI 0)]),(9,.box [oC 30400 2 r2]),(30400,vL 2 z01 r2)]⟩ ⟨⟨_,rfl,.c (.subD (z03) hc3.1 hc3.2.1 hc3.2.2)⟩,⟨_,rfl,.refl _⟩,⟨_,rfl,.refl _⟩,⟨_,rfl,.refl _⟩,⟨_,rfl,.refl _⟩,⟨_,rfl,.refl _⟩,⟨_,rfl,.refl _⟩,⟨_,rfl,.refl _⟩,trivial⟩ ⟨⟨_,rfl,.refl _,(by simp)⟩,⟨_,rfl,.refl _,(by simp)⟩,⟨_,rfl,.refl _,(by simp)⟩,⟨_,rfl,.refl _,(by simp)⟩,trivial⟩ ?_;obtain⟨r4,hr4,h⟩:=z05 h;refine z3z 0 [] [.c (.ptr 9 0),cD (lD 4 z03 (sub p0.waits 0 (if(p0.waits.length:Int)<(if p1<0 then 0 else p1)then(p0.waits.length:Int)else(if p1<0 then 0 else p1))))] [(5000,9),(5100,30400),(5150,30400)] [1,2,3,6,9] [3,6] (z1w hr4) (.ren rfl rfl (.flat (.refl _) rfl rfl .nil)) ?_;refine At.done rfl ?_;refine z0u (fun(a5:List File)=>⟨[(3,.c (.ptr 3 0)),(6,.c (.ptr 6 0)),(9,.c (.ptr 9 0))],[(3,.box (cDisk p0)),(6,.box [.zero,.zero,.d (dI 0),.d (.bool false),.d (dI 0)]),(9,.box [oC 30400 2 a5]),(30400,vL 2 z01 a5)]⟩) h (fun a5 h=>?_) (fun j6 h=>?_)
  ·refine Tri.sg [6,7] [6,30400] (z00 6) ?_;refine Tri.keep [6,7] [6,30400] (s':=⟨[(6,.c (.ptr 6 0)),(7,cD (dI 0))],[(6,.box [oC 30400 2 a5,.zero,.d (dI p0.room),.d (.bool false),.d (dI (-1))]),(30400,vL 2 z01 a5)]⟩) (by kernel_rfl) ?_;refine Tri.l [30400] ⟨[(6,.c (.ptr 6 0)),(7,cD (dI 0))],[(6,.box [.d (lD 2 z01 a5),.d (lD 4 z03 ([]:List Write)),.d (dI p0.room),.d (.bool false),.d (dI (-1))])]⟩ ⟨⟨_,rfl,.refl _⟩,⟨_,rfl,.refl _⟩,trivial⟩ ⟨⟨_,rfl,.box (.cons (CLe.frozen (z01) a5 rfl (by simp)) (.cons (.zero _ _) (.cons (.refl _) (.cons (.refl _) (.cons (.refl _) .nil))))),(by simp)⟩,trivial⟩ ?_;refine Tri.ret ?_;cases h;exact RetAt.k
  ·refine z0u (fun(a7:Bool)=>⟨[(1,cD (dI (if(p0.waits.length:Int)<(if p1<0 then 0 else p1)then(p0.waits.length:Int)else(if p1<0 then 0 else p1)))),(2,cD (dI p2)),(3,.c (.ptr 3 0)),(6,.c (.ptr 6 0)),(9,.c (.ptr 9 0)),(48,cD (.bool a7))],[(3,.box (cDisk p0)),(6,.box [.zero,.zero,.d (dI 0),.d (.bool false),.d (dI 0)]),(9,.box [oC 30400 2 r4]),(30400,vL 2 z01 r4)]⟩) h (fun a7 h=>?_) (fun j8 h=>?_)
   ·refine z07 h (fun h=>?_) (fun h=>?_)
    ·obtain⟨hc9,h⟩:=z09 h;refine Tri.sg [2,3,6,9,10] [3,6,9,10,30400] (tN 3 (ai hc9 (z00 3))) ?_;obtain⟨hc10,h⟩:=z09 h;refine Tri.sg [3,6,9,10] [3,6,9,10,30400] (tN 7 (ai hc10 (z00 2))) ?_;refine z04 ?_;refine At.seg 1 [3,6,9,63] [3,6,9,30400] (s':=⟨[(3,.c (.ptr 3 0)),(6,.c (.ptr 6 0)),(9,.c (.ptr 9 0)),(63,.agg [.d (.int .u8 ((p0.waits.getD ((if(p0.waits.length:Int)<(if p1<0 then 0 else p1)then(p0.waits.length:Int)else(if p1<0 then 0 else p1)).toNat) zzd).kind)),.d (.str ((p0.waits.getD ((if(p0.waits.length:Int)<(if p1<0 then 0 else p1)then(p0.waits.length:Int)else(if p1<0 then 0 else p1)).toNat) zzd).name)),.d (.str ((p0.waits.getD ((if(p0.waits.length:Int)<(if p1<0 then 0 else p1)then(p0.waits.length:Int)else(if p1<0 then 0 else p1)).toNat) zzd).to_)),.d (.str (((p0.waits.getD ((if(p0.waits.length:Int)<(if p1<0 then 0 else p1)then(p0.waits.length:Int)else(if p1<0 then 0 else p1)).toNat) zzd).data).extract 0 ((if(((p0.waits.getD ((if(p0.waits.length:Int)<(if p1<0 then 0 else p1)then(p0.waits.length:Int)else(if p1<0 then 0 else p1)).toNat) zzd).data).size:Int)<p2 then(((p0.waits.getD ((if(p0.waits.length:Int)<(if p1<0 then 0 else p1)then(p0.waits.length:Int)else(if p1<0 then 0 else p1)).toNat) zzd).data).size:Int)else p2).toNat)))])],[(3,.box (cDisk p0)),(6,.box [.zero,.zero,.d (dI 0),.d (.bool false),.d (dI 0)]),(9,.box [oC 30400 2 r4]),(30400,vL 2 z01 r4)]⟩) (by kernel_rfl) (z00 1) ?_;refine At.one rfl (One.buildSlice (z:=[.d (.int .u8 0),.d (.str (bs [])),.d (.str (bs [])),.d (.str (bs []))]) (cells:=[.d (.int .u8 ((p0.waits.getD ((if(p0.waits.length:Int)<(if p1<0 then 0 else p1)then(p0.waits.length:Int)else(if p1<0 then 0 else p1)).toNat) zzd).kind)),.d (.str ((p0.waits.getD ((if(p0.waits.length:Int)<(if p1<0 then 0 else p1)then(p0.waits.length:Int)else(if p1<0 then 0 else p1)).toNat) zzd).name)),.d (.str ((p0.waits.getD ((if(p0.waits.length:Int)<(if p1<0 then 0 else p1)then(p0.waits.length:Int)else(if p1<0 then 0 else p1)).toNat) zzd).to_)),.d (.str (((p0.waits.getD ((if(p0.waits.length:Int)<(if p1<0 then 0 else p1)then(p0.waits.length:Int)else(if p1<0 then 0 else p1)).toNat) zzd).data).extract 0 ((if(((p0.waits.getD ((if(p0.waits.length:Int)<(if p1<0 then 0 else p1)then(p0.waits.length:Int)else(if p1<0 then 0 else p1)).toNat) zzd).data).size:Int)<p2 then(((p0.waits.getD ((if(p0.waits.length:Int)<(if p1<0 then 0 else p1)then(p0.waits.length:Int)else(if p1<0 then 0 else p1)).toNat) zzd).data).size:Int)else p2).toNat)))]) (xs:=List.map (z03) ([(⟨(p0.waits.getD ((if(p0.waits.length:Int)<(if p1<0 then 0 else p1)then(p0.waits.length:Int)else(if p1<0 then 0 else p1)).toNat) zzd).kind,(p0.waits.getD ((if(p0.waits.length:Int)<(if p1<0 then 0 else p1)then(p0.waits.length:Int)else(if p1<0 then 0 else p1)).toNat) zzd).name,(p0.waits.getD ((if(p0.waits.length:Int)<(if p1<0 then 0 else p1)then(p0.waits.length:Int)else(if p1<0 then 0 else p1)).toNat) zzd).to_,(((p0.waits.getD ((if(p0.waits.length:Int)<(if p1<0 then 0 else p1)then(p0.waits.length:Int)else(if p1<0 then 0 else p1)).toNat) zzd).data).extract 0 ((if(((p0.waits.getD ((if(p0.waits.length:Int)<(if p1<0 then 0 else p1)then(p0.waits.length:Int)else(if p1<0 then 0 else p1)).toNat) zzd).data).size:Int)<p2 then(((p0.waits.getD ((if(p0.waits.length:Int)<(if p1<0 then 0 else p1)then(p0.waits.length:Int)else(if p1<0 then 0 else p1)).toNat) zzd).data).size:Int)else p2).toNat))⟩:Write)]:List Write)) rfl rfl rfl rfl (by kernel_rfl) rfl rfl (by kernel_rfl) rfl rfl rfl (by kernel_rfl) rfl ⟨⟨rfl,.refl _⟩,trivial⟩) ?_;refine At.l [64] ⟨[(64,cD (lD 4 z03 ([(⟨(p0.waits.getD ((if(p0.waits.length:Int)<(if p1<0 then 0 else p1)then(p0.waits.length:Int)else(if p1<0 then 0 else p1)).toNat) zzd).kind,(p0.waits.getD ((if(p0.waits.length:Int)<(if p1<0 then 0 else p1)then(p0.waits.length:Int)else(if p1<0 then 0 else p1)).toNat) zzd).name,(p0.waits.getD ((if(p0.waits.length:Int)<(if p1<0 then 0 else p1)then(p0.waits.length:Int)else(if p1<0 then 0 else p1)).toNat) zzd).to_,(((p0.waits.getD ((if(p0.waits.length:Int)<(if p1<0 then 0 else p1)then(p0.waits.length:Int)else(if p1<0 then 0 else p1)).toNat) zzd).data).extract 0 ((if(((p0.waits.getD ((if(p0.waits.length:Int)<(if p1<0 then 0 else p1)then(p0.waits.length:Int)else(if p1<0 then 0 else p1)).toNat) zzd).data).size:Int)<p2 then(((p0.waits.getD ((if(p0.waits.length:Int)<(if p1<0 then 0 else p1)then(p0.waits.length:Int)else(if p1<0 then 0 else p1)).toNat) zzd).data).size:Int)else p2).toNat))⟩:Write)]:List Write))),(3,.c (.ptr 3 0)),(6,.c (.ptr 6 0)),(9,.c (.ptr 9 0)),(63,.agg [.d (.int .u8 ((p0.waits.getD ((if(p0.waits.length:Int)<(if p1<0 then 0 else p1)then(p0.waits.length:Int)else(if p1<0 then 0 else p1)).toNat) zzd).kind)),.d (.str ((p0.waits.getD ((if(p0.waits.length:Int)<(if p1<0 then 0 else p1)then(p0.waits.length:Int)else(if p1<0 then 0 else p1)).toNat) zzd).name)),.d (.str ((p0.waits.getD ((if(p0.waits.length:Int)<(if p1<0 then 0 else p1)then(p0.waits.length:Int)else(if p1<0 then 0 else p1)).toNat) zzd).to_)),.d (.str (((p0.waits.getD ((if(p0.waits.length:Int)<(if p1<0 then 0 else p1)then(p0.waits.length:Int)else(if p1<0 then 0 else p1)).toNat) zzd).data).extract 0 ((if(((p0.waits.getD ((if(p0.waits.length:Int)<(if p1<0 then 0 else p1)then(p0.waits.length:Int)else(if p1<0 then 0 else p1)).toNat) zzd).data).size:Int)<p2 then(((p0.waits.getD ((if(p0.waits.length:Int)<(if p1<0 then 0 else p1)then(p0.waits.length:Int)else(if p1<0 then 0 else p1)).toNat) zzd).data).size:Int)else p2).toNat)))])],[(3,.box (cDisk p0)),(6,.box [.zero,.zero,.d (dI 0),.d (.bool false),.d (dI 0)]),(9,.box [oC 30400 2 r4]),(30400,vL 2 z01 r4)]⟩ ⟨⟨_,rfl,.c (.own rfl (zzg.2 rfl) (zz5 rfl) rfl (z1z (z03) ([(⟨(p0.waits.getD ((if(p0.waits.length:Int)<(if p1<0 then 0 else p1)then(p0.waits.length:Int)else(if p1<0 then 0 else p1)).toNat) zzd).kind,(p0.waits.getD ((if(p0.waits.length:Int)<(if p1<0 then 0 else p1)then(p0.waits.length:Int)else(if p1<0 then 0 else p1)).toNat) zzd).name,(p0.waits.getD ((if(p0.waits.length:Int)<(if p1<0 then 0 else p1)then(p0.waits.length:Int)else(if p1<0 then 0 else p1)).toNat) zzd).to_,(((p0.waits.getD ((if(p0.waits.length:Int)<(if p1<0 then 0 else p1)then(p0.waits.length:Int)else(if p1<0 then 0 else p1)).toNat) zzd).data).extract 0 ((if(((p0.waits.getD ((if(p0.waits.length:Int)<(if p1<0 then 0 else p1)then(p0.waits.length:Int)else(if p1<0 then 0 else p1)).toNat) zzd).data).size:Int)<p2 then(((p0.waits.getD ((if(p0.waits.length:Int)<(if p1<0 then 0 else p1)then(p0.waits.length:Int)else(if p1<0 then 0 else p1)).toNat) zzd).data).size:Int)else p2).toNat))⟩:Write)]:List Write)))⟩,⟨_,rfl,.refl _⟩,⟨_,rfl,.refl _⟩,⟨_,rfl,.refl _⟩,⟨_,rfl,.refl _⟩,trivial⟩ ⟨⟨_,rfl,.refl _,(by simp)⟩,⟨_,rfl,.refl _,(by simp)⟩,⟨_,rfl,.refl _,(by simp)⟩,⟨_,rfl,.refl _,(by simp)⟩,trivial⟩ ?_;obtain⟨r11,hr11,h⟩:=z05 h;refine z3z 0 [] [.c (.ptr 9 0),cD (lD 4 z03 ([(⟨(p0.waits.getD ((if(p0.waits.length:Int)<(if p1<0 then 0 else p1)then(p0.waits.length:Int)else(if p1<0 then 0 else p1)).toNat) zzd).kind,(p0.waits.getD ((if(p0.waits.length:Int)<(if p1<0 then 0 else p1)then(p0.waits.length:Int)else(if p1<0 then 0 else p1)).toNat) zzd).name,(p0.waits.getD ((if(p0.waits.length:Int)<(if p1<0 then 0 else p1)then(p0.waits.length:Int)else(if p1<0 then 0 else p1)).toNat) zzd).to_,(((p0.waits.getD ((if(p0.waits.length:Int)<(if p1<0 then 0 else p1)then(p0.waits.length:Int)else(if p1<0 then 0 else p1)).toNat) zzd).data).extract 0 ((if(((p0.waits.getD ((if(p0.waits.length:Int)<(if p1<0 then 0 else p1)then(p0.waits.length:Int)else(if p1<0 then 0 else p1)).toNat) zzd).data).size:Int)<p2 then(((p0.waits.getD ((if(p0.waits.length:Int)<(if p1<0 then 0 else p1)then(p0.waits.length:Int)else(if p1<0 then 0 else p1)).toNat) zzd).data).size:Int)else p2).toNat))⟩:Write)]:List Write))] [(5000,9),(5100,30400),(5150,30400)] [3,6,9] [3,6] (z1w hr11) (.ren rfl rfl (.flat (.refl _) rfl rfl .nil)) ?_;refine At.keep [3,6,9] [3,6,9,30400] (s':=⟨[(3,.c (.ptr 3 0)),(6,.c (.ptr 6 0)),(9,.c (.ptr 9 0))],[(3,.box (cDisk p0)),(6,.box [.zero,.zero,.d (dI 0),.d (.bool false),.d (dI 0)]),(9,.box [oC 30400 2 r11]),(30400,vL 2 z01 r11)]⟩) (by kernel_rfl) ?_;refine At.done rfl ?_;exact⟨_,h,kr⟩
    ·refine Tri.kp [3,6,9] [3,6,9,30400] ?_;refine Tri.skip ?_;exact⟨_,h,kr⟩
   ·refine z04 ?_;refine At.sg 6 [1,2,3,6,9,36] [3,6,9,30400] (z00 6) ?_;refine At.cs [36] h (fun h=>?_) (fun h=>?_)
    ·refine At.sg 4 [1,2,3,6,9,40] [3,6,9,30400] (z00 4) ?_;refine At.cs [40] h (fun h=>?_) (fun h=>?_)
     ·obtain⟨hc12,h⟩:=z09 h;refine At.sg 8 [1,2,3,6,9,48] [3,6,9,30400] (tN 3 (ai hc12 (z00 4))) ?_;refine At.done rfl ?_;exact⟨_,h,kr⟩
     ·refine At.sg 8 [1,2,3,6,9,48] [3,6,9,30400] (z00 1) ?_;refine At.done rfl ?_;exact⟨_,h,kr⟩
    ·refine At.sg 12 [1,2,3,6,9,48] [3,6,9,30400] (z00 3) ?_;refine At.done rfl ?_;exact⟨_,h,kr⟩
theorem z9f {p0:ByteArray}{q:Int×ByteArray×Int}(h:z3s p0=some q):
 Summ Try.prog 40 [cD (.str p0)] [] (.tup [(false,[.d (dU q.1)]),(false,[.d (.str q.2.1)]),(false,[.d (dI q.2.2)])]) []:=by
 refine Summ.i Try.func40 rfl [] fun w0 G0 V LL φ0=>?_;unfold z3s at h;refine Tri.sg [0] [] (z00 3) ?_;refine Tri.sg [0,5] [] (z00 1) ?_;refine z02 ?_;refine Tri.sg [0,5,9,10] [] (z00 3) ?_;obtain⟨hlena2,h⟩:=z09 h;refine z36 10 (0) (fun(x:Int×ByteArray×Int) s=>RetAt Try.prog Try.f40 (.tup [(false,[.d (dU x.1)]),(false,[.d (.str x.2.1)]),(false,[.d (dI x.2.2)])]) [] s) (fun(a2:Int)=>⟨[(0,cD (.str p0)),(5,cD (dU a2)),(9,cD (dI (p0.size:Int)))],[]⟩) [10,0,5,9] [] [11,10,0,5,9] [] [0,5,9] [] [10,0,5,9] [] h hlena2 ?_ ?_ ?_
 ·intro i1 a2 c hii1 h;refine Tri.sg [0,5,6,9,10] [] (z00 2) ?_;refine Tri.sg [0,5,6,7,9,10] [] (tN 2 (ai (show((0:Int)≤((i1:Nat):Int)∧((i1:Nat):Int)<(p0.size:Int))from⟨by omega,by omega⟩) (z00 1))) ?_;refine z02 ?_;refine z0u (fun(a4:Bool)=>⟨[(0,cD (.str p0)),(5,cD (dU a2)),(6,cD (dI ((i1:Nat):Int))),(7,cD (.int .u8 (bt p0 ((i1:Nat):Int)))),(9,cD (dI (p0.size:Int))),(10,cD (dI ((i1:Nat):Int))),(29,cD (.bool a4))],[]⟩) h (fun a4 h=>?_) (fun j5 h=>?_)
  ·refine z07 h (fun h=>?_) (fun h=>?_)
   ·refine Tri.sg [2,3,4] [] (z00 3) ?_;refine Tri.ret ?_;cases h;exact RetAt.k
   ·refine Tri.skip ?_;obtain⟨hc6,h⟩:=z09 h;refine Tri.sg [0,5,6,7,9,10] [] (tN 6 (ai hc6 (z00 2))) ?_;refine Tri.sg [0,5,6,9,10,39] [] (z00 2) ?_;refine z07 h (fun h=>?_) (fun h=>?_)
    ·refine z02 ?_;obtain⟨hc7,h⟩:=z09 h;refine z29 [.a [5] [],.a [0] [],.a [6] [],.a [42] [],.a [41,43] [],.a [40] [],.a [44] [],.a [] []] [2,3,4] [] (tN 4 (ai hc7 (z00 3))) (.a (.a (.a (.a (.a (.a (.a (.a .z)))))))) ?_;refine Tri.ret ?_;cases h;exact RetAt.k
    ·refine Tri.kp [10,0,5,9] [] ?_;refine Tri.skip ?_;cases h;exact kr
  ·refine z04 ?_;refine At.sg 3 [0,5,6,7,9,10,18] [] (z00 3) ?_;refine At.cs [18] h (fun h=>?_) (fun h=>?_)
   ·refine At.sg 4 [0,5,6,7,9,10,22] [] (z00 4) ?_;refine At.cs [22] h (fun h=>?_) (fun h=>?_)
    ·refine At.sg 7 [0,5,6,7,9,10,29] [] (z00 1) ?_;refine At.done rfl ?_;exact⟨_,h,kr⟩
    ·refine At.sg 3 [0,5,6,7,9,10,22,25] [] (z00 3) ?_;refine At.cs [25] h (fun h=>?_) (fun h=>?_)
     ·refine At.sg 4 [0,5,6,7,9,10,29] [] (z00 4) ?_;refine At.done rfl ?_;exact⟨_,h,kr⟩
     ·refine At.sg 4 [0,5,6,7,9,10,29] [] (z00 2) ?_;refine At.done rfl ?_;exact⟨_,h,kr⟩
   ·refine At.sg 7 [0,5,6,7,9,10,22,25] [] (z00 5) ?_;refine At.cs [25] h (fun h=>?_) (fun h=>?_)
    ·refine At.sg 4 [0,5,6,7,9,10,29] [] (z00 4) ?_;refine At.done rfl ?_;exact⟨_,h,kr⟩
    ·refine At.sg 4 [0,5,6,7,9,10,29] [] (z00 2) ?_;refine At.done rfl ?_;exact⟨_,h,kr⟩
 ·intro a3 h;refine Tri.sg [2,3,4] [] (z00 3) ?_;refine Tri.ret ?_;cases h;exact RetAt.k
 ·exact fun x s hx hr=>by cases hx;exact hr
theorem z9w {p0:ByteArray}{q:ByteArray×ByteArray×Int}(h:z41 p0=some q):
 Summ Try.prog 23 [cD (.str p0)] [] (.tup [(false,[.d (.str q.1)]),(false,[.d (.str q.2.1)]),(false,[.d (dI q.2.2)])]) []:=by
 refine Summ.i Try.func23 rfl [] fun w0 G0 V LL φ0=>?_;unfold z41 at h;refine Tri.sg [0] [] (z00 3) ?_;refine z02 ?_;refine z04 ?_;refine At.sg 1 [9] [] (z00 1) ?_;obtain⟨r1,hr1,h⟩:=z05 h;refine At.cA [] [cD (.str p0)] (z9f hr1) (.cons (.refl _) .nil) ?_;refine At.sg 7 [5,6,7] [] (z00 7) ?_;refine At.done rfl ?_;refine z0u (fun(a2:Int)=>⟨[(5,cD (dU r1.1)),(6,cD (.str r1.2.1)),(7,cD (dI a2))],[]⟩) h (fun a2 h=>?_) (fun j3 h=>?_)
 ·refine z0u (fun(a4:Int)=>⟨[(5,cD (dU r1.1)),(6,cD (.str r1.2.1)),(7,cD (dI a4))],[]⟩) h (fun a4 h=>?_) (fun j5 h=>?_)
  ·refine z02 ?_;refine Tri.sg [5,6,7,30] [] (z00 2) ?_;refine z07 h (fun h=>?_) (fun h=>?_)
   ·refine Tri.sg [2,3,4] [] (z00 4) ?_;refine Tri.ret ?_;cases h;exact RetAt.k
   ·refine Tri.skip ?_;refine z02 ?_;obtain⟨hc6,h⟩:=z09 h;obtain⟨hc7,h⟩:=z09 h;refine z29 [.a [6] [],.a [5] [],.a [32,33] [],.a [6] [],.a [5] [],.a [35,36] [],.a [34] [],.a [37] [],.a [] []] [2,3,4] [] (tN 2 (ai hc6 (tN 2 (ai hc7 (z00 3))))) (.a (.a (.a (.a (.a (.a (.a (.a (.a .z))))))))) ?_;refine Tri.ret ?_;cases h;exact RetAt.k
  ·refine z0u (fun(a8:Bool)=>⟨[(5,cD (dU r1.1)),(6,cD (.str r1.2.1)),(7,cD (dI a2)),(28,cD (.bool a8))],[]⟩) h (fun a8 h=>?_) (fun j9 h=>?_)
   ·refine z07 h (fun h=>?_) (fun h=>?_)
    ·refine z04 ?_;refine At.sg 1 [5,6,7] [] (z00 1) ?_;refine At.done rfl ?_;exact⟨_,h,kr⟩
    ·refine Tri.kp [5,6,7] [] ?_;refine Tri.skip ?_;exact⟨_,h,kr⟩
   ·refine z04 ?_;refine At.sg 3 [5,6,7,22] [] (z00 3) ?_;refine At.cs [22] h (fun h=>?_) (fun h=>?_)
    ·refine At.sg 6 [5,6,7,28] [] (z00 6) ?_;refine At.done rfl ?_;exact⟨_,h,kr⟩
    ·refine At.sg 6 [5,6,7,28] [] (z00 1) ?_;refine At.done rfl ?_;exact⟨_,h,kr⟩
 ·refine z0u (fun(a10:Bool)=>⟨[(5,cD (dU r1.1)),(6,cD (.str r1.2.1)),(7,cD (dI r1.2.2)),(19,cD (.bool a10))],[]⟩) h (fun a10 h=>?_) (fun j11 h=>?_)
  ·refine z07 h (fun h=>?_) (fun h=>?_)
   ·refine z04 ?_;refine At.sg 1 [5,6,7] [] (z00 1) ?_;refine At.done rfl ?_;exact⟨_,h,kr⟩
   ·refine Tri.kp [5,6,7] [] ?_;refine Tri.skip ?_;exact⟨_,h,kr⟩
  ·refine z04 ?_;refine At.sg 3 [5,6,7,16] [] (z00 3) ?_;refine At.cs [16] h (fun h=>?_) (fun h=>?_)
   ·refine At.sg 3 [5,6,7,19] [] (z00 3) ?_;refine At.done rfl ?_;exact⟨_,h,kr⟩
   ·refine At.sg 3 [5,6,7,19] [] (z00 1) ?_;refine At.done rfl ?_;exact⟨_,h,kr⟩
theorem z9g {p0:ByteArray}{q:ByteArray×ByteArray×Int}(h:z22 p0=some q):
 Summ Try.prog 10 [cD (.str p0)] [] (.tup [(false,[.d (.str q.1)]),(false,[.d (.str q.2.1)]),(false,[.d (dI q.2.2)])]) []:=by
 refine Summ.i Try.func10 rfl [] fun w0 G0 V LL φ0=>?_;unfold z22 at h;refine Tri.sg [0] [] (z00 3) ?_;refine z02 ?_;refine z04 ?_;refine At.sg 1 [9] [] (z00 1) ?_;obtain⟨r1,hr1,h⟩:=z05 h;refine At.cA [] [cD (.str p0)] (z9w hr1) (.cons (.refl _) .nil) ?_;refine At.sg 7 [5,6,7] [] (z00 7) ?_;refine At.done rfl ?_;refine z02 ?_;refine z3b ?_;refine Tri.sg [5,6,7,14] [] (z00 3) ?_;refine z07 h (fun h=>?_) (fun h=>?_)
 ·refine Tri.sg [2,3,4] [] (z00 4) ?_;refine Tri.ret ?_;cases h;exact RetAt.k
 ·refine Tri.sg [5,6,18] [] (z00 4) ?_;refine z07 h (fun h=>?_) (fun h=>?_)
  ·refine Tri.sg [2,3,4] [] (z00 3) ?_;refine Tri.ret ?_;cases h;exact RetAt.k
  ·refine z02 ?_;obtain⟨hc2,h⟩:=z09 h;obtain⟨r3,hr3,h⟩:=z05 h;refine z29 [.a [6] [],.a [23] [],.a [5] [],.m ⟨[(25,cD (.str r1.1))],[]⟩ ⟨[(26,cD (.str r3))],[]⟩ [] [] [],.a [24,26] [],.a [27] []] [5,6,22] [] (tN 1 (ai hc2 (z00 3))) (.a (.a (.a (.m ?_ (.a (.a .z)))))) ?_
   ·exact DOk.cA [] [cD (.str r1.1)] (z6n hr3) fun r=>(.cons (.refl _) .nil)
   refine z07 h (fun h=>?_) (fun h=>?_)
   ·refine Tri.sg [2,3,4] [] (z00 3) ?_;refine Tri.ret ?_;cases h;exact RetAt.k
   ·refine Tri.skip ?_;refine z02 ?_;obtain⟨hc4,h⟩:=z09 h;refine z29 [.a [5] [],.a [6] [],.a [29] [],.a [28] [],.a [30] [],.a [] []] [2,3,4] [] (tN 2 (ai hc4 (z00 3))) (.a (.a (.a (.a (.a (.a .z)))))) ?_;refine Tri.ret ?_;cases h;exact RetAt.k
end Go.Av
namespace Go.Av
open Go Go.Proofs
theorem z6f {fuel:Nat}{p0:List ByteArray}{p1:List Bool}{p2:Int}{p3:Int}{q:Bool}(h:z32 fuel p0 p1 p2 p3=some q):
 Summ Try.prog 3 [cD (lD 1 z0b p0),cD (lD 1 z2z p1),cD (dI p2),cD (dI p3)] [] (cD (.bool q)) []:=by
 refine Summ.i Try.func3 rfl [] fun w0 G0 V LL φ0=>?_;unfold z32 at h;refine Tri.sg [0,1,2,3] [] (z00 1) ?_;refine z02 ?_;refine z02 ?_;refine z04 ?_;obtain⟨r1,hr1,h⟩:=z05 h;refine At.cA [] [] (z7i hr1) .nil ?_;refine At.sg 1 [0,1,2,3,23] [] (z00 1) ?_;refine At.done rfl ?_;refine z07 h (fun h=>?_) (fun h=>?_)
 ·refine Tri.sg [8] [] (z00 1) ?_;refine Tri.ret ?_;cases h;exact RetAt.k
 ·refine Tri.skip ?_;refine Tri.sg [0,1,2,3,9] [9] (z00 3) ?_;refine Tri.sg [0,1,2,3,9,10] [9] (z00 1) ?_;refine Tri.sg [0,1,2,3,9,10,11] [9] (z00 1) ?_;refine z02 ?_;refine z37 [1,2,3,9,10,11,25,26,27] [9] ⟨[(1,cD (lD 1 z2z p1)),(2,cD (dI p2)),(3,cD (dI p3)),(9,.c (.ptr 9 0)),(10,.c (.zero)),(11,cD (dI 0)),(25,cD (lD 1 z0b p0)),(26,cD (dI (p0.length:Int))),(27,cD (dI 0))],[(9,.box [.zero,.zero,.d (dI 1099511627776),.d (.bool false),.d (dI (-1))])]⟩ _ (by kernel_rfl) (z00 3) ?_;refine Tri.lenOf (t:=25) rfl fun hlena3=>?_;refine Tri.newOwn (t:=10) (k:=1010) (es:=1) (fun i=>z0b (([]:List ByteArray).getD i zzd)) rfl rfl rfl ?_;refine Tri.keep [27,1,2,3,9,10,11,25,26] [9,1010] (s':=⟨[(27,cD (dI 0)),(1,cD (lD 1 z2z p1)),(2,cD (dI p2)),(3,cD (dI p3)),(9,.c (.ptr 9 0)),(10,.c (oC 1010 1 ([]:List ByteArray))),(11,cD (dI 0)),(25,cD (lD 1 z0b p0)),(26,cD (dI (p0.length:Int)))],[(9,.box [.zero,.zero,.d (dI 1099511627776),.d (.bool false),.d (dI (-1))]),(1010,vL 1 z0b ([]:List ByteArray))]⟩) (by kernel_rfl) ?_;refine Tri.l [] ⟨[(27,cD (dI 0)),(1,cD (lD 1 z2z p1)),(2,cD (dI p2)),(3,cD (dI p3)),(9,.c (.ptr 9 0)),(10,.c (oC 1010 1 ([]:List ByteArray))),(11,cD (dI 0)),(25,cD (lD 1 z0b p0)),(26,cD (dI (p0.length:Int)))],[(9,.box [.d (lD 2 z01 ((⟨([]:List File),([]:List Write),1099511627776,false,(-1)⟩:Disk).files)),.d (lD 4 z03 ((⟨([]:List File),([]:List Write),1099511627776,false,(-1)⟩:Disk).waits)),.d (dI 1099511627776),.d (.bool false),.d (dI (-1))]),(1010,vL 1 z0b ([]:List ByteArray))]⟩ ⟨⟨_,rfl,.refl _⟩,⟨_,rfl,.refl _⟩,⟨_,rfl,.refl _⟩,⟨_,rfl,.refl _⟩,⟨_,rfl,.refl _⟩,⟨_,rfl,.refl _⟩,⟨_,rfl,.refl _⟩,⟨_,rfl,.refl _⟩,⟨_,rfl,.refl _⟩,trivial⟩ ⟨⟨_,rfl,.box (.cons (.zero _ _) (.cons (.zero _ _) (.cons (.refl _) (.cons (.refl _) (.cons (.refl _) .nil))))),(by simp)⟩,⟨_,rfl,.refl _,(by simp)⟩,trivial⟩ ?_;refine Tri.range (n:=p0.length) (st0:=(0,(⟨([]:List File),([]:List Write),1099511627776,false,(-1)⟩:Disk),([]:List ByteArray))) (fun(x:Empty) s=>False) (fun(a3:Int×Disk×(List ByteArray))=>⟨[(1,cD (lD 1 z2z p1)),(2,cD (dI p2)),(3,cD (dI p3)),(9,.c (.ptr 9 0)),(10,.c (oC 1010 1 a3.2.2)),(11,cD (dI a3.1)),(25,cD (lD 1 z0b p0)),(26,cD (dI (p0.length:Int)))],[(9,.box (cDisk a3.2.1)),(1010,vL 1 z0b a3.2.2)]⟩) (fun(a3:Int×Disk×(List ByteArray))=>⟨[(1,cD (lD 1 z2z p1)),(2,cD (dI p2)),(3,cD (dI p3)),(9,.c (.ptr 9 0)),(10,.c (oC 1010 1 a3.2.2)),(11,cD (dI a3.1)),(25,cD (lD 1 z0b p0)),(26,cD (dI (p0.length:Int)))],[(9,.box (cDisk a3.2.1)),(1010,vL 1 z0b a3.2.2)]⟩) (fun i=>decide ((i:Int)<(p0.length:Int))) [28,27,1,2,3,9,10,11,25,26] [9,1010] [1,2,3,9,10,11,25,26] [9,1010] [27,1,2,3,9,10,11,25,26] [9,1010] h hlena3 rfl ?_ ?_ ?_ ?_ ?_ ?_ ?_ ?_
  ·exact fun i a=>⟨True∧True,by kernel_rfl,⟨trivial,trivial⟩⟩
  ·exact fun i hi=>decide_eq_true (by omega)
  ·exact decide_eq_false (by omega)
  ·exact fun a=>by kernel_rfl
  ·exact fun i a=>⟨True∧True∧True,by kernel_rfl,⟨trivial,trivial,trivial⟩⟩
  ·intro i2 a3 c hii2 h;refine Tri.sg [1,2,3,9,10,11,12,13,25,26,27] [9,1010] (tN 1 (ai (show((0:Int)≤((i2:Nat):Int)∧((i2:Nat):Int)<(p0.length:Int))from⟨by omega,by omega⟩) (z00 3))) ?_;refine z02 ?_;refine z04 ?_;refine At.sg 1 [1,2,3,9,10,11,12,13,25,26,27,33] [9,1010] (z00 1) ?_;obtain⟨r18,hr18,h⟩:=z05 h;refine At.cA [] [cD (.str (p0.getD i2 zzd))] (zcg hr18) (.cons (.refl _) .nil) ?_;refine At.sg 5 [1,2,3,9,10,11,12,13,14,15,25,26,27] [9,1010] (z00 5) ?_;refine At.done rfl ?_;refine z02 ?_;refine z0u (fun(a19:Bool)=>⟨[(1,cD (lD 1 z2z p1)),(2,cD (dI p2)),(3,cD (dI p3)),(9,.c (.ptr 9 0)),(10,.c (oC 1010 1 a3.2.2)),(11,cD (dI a3.1)),(12,cD (dI ((i2:Nat):Int))),(13,cD (.str (p0.getD i2 zzd))),(14,cD (.str r18.1)),(25,cD (lD 1 z0b p0)),(26,cD (dI (p0.length:Int))),(27,cD (dI ((i2:Nat):Int))),(42,cD (.bool a19))],[(9,.box (cDisk a3.2.1)),(1010,vL 1 z0b a3.2.2)]⟩) h (fun a19 h=>?_) (fun j20 h=>?_)
   ·refine z07 h (fun h=>?_) (fun h=>?_)
    ·refine Tri.kp [1,2,3,9,10,11,25,26] [9,1010] ?_;refine Tri.exit ?_;cases h;exact⟨rfl,kr⟩
    ·refine Tri.skip ?_;refine z02 ?_;refine z04 ?_;refine At.seg 3 [1,2,3,9,10,11,12,13,25,26,27,44,46] [9,1010] (s':=⟨[(1,cD (lD 1 z2z p1)),(2,cD (dI p2)),(3,cD (dI p3)),(9,.c (.ptr 9 0)),(10,.c (oC 1010 1 a3.2.2)),(11,cD (dI a3.1)),(12,cD (dI ((i2:Nat):Int))),(13,cD (.str (p0.getD i2 zzd))),(25,cD (lD 1 z0b p0)),(26,cD (dI (p0.length:Int))),(27,cD (dI ((i2:Nat):Int))),(44,.agg (cDisk a3.2.1)),(46,.agg [.d (.int .u8 1),.d (.str (bs [102])),.d (.str (bs [])),.d (.str r18.1)])],[(9,.box (cDisk a3.2.1)),(1010,vL 1 z0b a3.2.2)]⟩) (by kernel_rfl) (z00 3) ?_;refine At.one rfl (One.buildSlice (z:=[.d (.int .u8 0),.d (.str (bs [])),.d (.str (bs [])),.d (.str (bs []))]) (cells:=[.d (.int .u8 1),.d (.str (bs [102])),.d (.str (bs [])),.d (.str r18.1)]) (xs:=List.map (z03) ([(⟨1,(bs [102]),(bs []),r18.1⟩:Write)]:List Write)) rfl rfl rfl rfl (by kernel_rfl) rfl rfl (by kernel_rfl) rfl rfl rfl (by kernel_rfl) rfl ⟨⟨rfl,.refl _⟩,trivial⟩) ?_;refine At.l [47] ⟨[(47,cD (lD 4 z03 ([(⟨1,(bs [102]),(bs []),r18.1⟩:Write)]:List Write))),(1,cD (lD 1 z2z p1)),(2,cD (dI p2)),(3,cD (dI p3)),(9,.c (.ptr 9 0)),(10,.c (oC 1010 1 a3.2.2)),(11,cD (dI a3.1)),(12,cD (dI ((i2:Nat):Int))),(13,cD (.str (p0.getD i2 zzd))),(25,cD (lD 1 z0b p0)),(26,cD (dI (p0.length:Int))),(27,cD (dI ((i2:Nat):Int))),(44,.agg (cDisk a3.2.1)),(46,.agg [.d (.int .u8 1),.d (.str (bs [102])),.d (.str (bs [])),.d (.str r18.1)])],[(9,.box (cDisk a3.2.1)),(1010,vL 1 z0b a3.2.2)]⟩ ⟨⟨_,rfl,.c (.own rfl (zzg.2 rfl) (zz5 rfl) rfl (z1z (z03) ([(⟨1,(bs [102]),(bs []),r18.1⟩:Write)]:List Write)))⟩,⟨_,rfl,.refl _⟩,⟨_,rfl,.refl _⟩,⟨_,rfl,.refl _⟩,⟨_,rfl,.refl _⟩,⟨_,rfl,.refl _⟩,⟨_,rfl,.refl _⟩,⟨_,rfl,.refl _⟩,⟨_,rfl,.refl _⟩,⟨_,rfl,.refl _⟩,⟨_,rfl,.refl _⟩,⟨_,rfl,.refl _⟩,⟨_,rfl,.refl _⟩,⟨_,rfl,.refl _⟩,trivial⟩ ⟨⟨_,rfl,.refl _,(by simp)⟩,⟨_,rfl,.refl _,(by simp)⟩,trivial⟩ ?_;obtain⟨r21,hr21,h⟩:=z05 h;refine At.cA [] [.agg (cDisk a3.2.1),cD (lD 4 z03 ([(⟨1,(bs [102]),(bs []),r18.1⟩:Write)]:List Write))] (zag hr21) (.cons (.refl _) (.cons (.refl _) .nil)) ?_;refine At.sg 4 [1,2,3,9,10,11,12,13,25,26,27] [9,1010] (z00 4) ?_;refine At.done rfl ?_;refine z02 ?_;refine z04 ?_;refine At.seg 2 [1,2,3,9,11,12,25,26,27,51,52] [9,1010] (s':=⟨[(1,cD (lD 1 z2z p1)),(2,cD (dI p2)),(3,cD (dI p3)),(9,.c (.ptr 9 0)),(11,cD (dI a3.1)),(12,cD (dI ((i2:Nat):Int))),(25,cD (lD 1 z0b p0)),(26,cD (dI (p0.length:Int))),(27,cD (dI ((i2:Nat):Int))),(51,.c (oC 1010 1 a3.2.2)),(52,cD (.str (p0.getD i2 zzd)))],[(9,.box (cDisk r21.1)),(1010,vL 1 z0b a3.2.2)]⟩) (by kernel_rfl) (z00 2) ?_;refine At.one rfl (One.buildSlice (z:=[.d (.str (bs []))]) (cells:=[.d (.str (p0.getD i2 zzd))]) (xs:=List.map (z0b) ([(p0.getD i2 zzd)]:List ByteArray)) rfl rfl rfl rfl (by kernel_rfl) rfl rfl (by kernel_rfl) rfl rfl rfl (by kernel_rfl) rfl ⟨⟨rfl,.refl _⟩,trivial⟩) ?_;refine At.l [53] ⟨[(53,cD (lD 1 z0b ([(p0.getD i2 zzd)]:List ByteArray))),(1,cD (lD 1 z2z p1)),(2,cD (dI p2)),(3,cD (dI p3)),(9,.c (.ptr 9 0)),(11,cD (dI a3.1)),(12,cD (dI ((i2:Nat):Int))),(25,cD (lD 1 z0b p0)),(26,cD (dI (p0.length:Int))),(27,cD (dI ((i2:Nat):Int))),(51,.c (oC 1010 1 a3.2.2)),(52,cD (.str (p0.getD i2 zzd)))],[(9,.box (cDisk r21.1)),(1010,vL 1 z0b a3.2.2)]⟩ ⟨⟨_,rfl,.c (.own rfl (zzg.2 rfl) (zz5 rfl) rfl (z1z (z0b) ([(p0.getD i2 zzd)]:List ByteArray)))⟩,⟨_,rfl,.refl _⟩,⟨_,rfl,.refl _⟩,⟨_,rfl,.refl _⟩,⟨_,rfl,.refl _⟩,⟨_,rfl,.refl _⟩,⟨_,rfl,.refl _⟩,⟨_,rfl,.refl _⟩,⟨_,rfl,.refl _⟩,⟨_,rfl,.refl _⟩,⟨_,rfl,.refl _⟩,⟨_,rfl,.refl _⟩,trivial⟩ ⟨⟨_,rfl,.refl _,(by simp)⟩,⟨_,rfl,.refl _,(by simp)⟩,trivial⟩ ?_;obtain⟨hc22,h⟩:=z09 h;refine At.one rfl (z5h (e:=9) (es:=1) (z0b) a3.2.2 ([(p0.getD i2 zzd)]:List ByteArray) rfl rfl rfl rfl rfl (.of 9 16 [.d (.str (bs []))] (by kernel_rfl) (by kernel_rfl) (by kernel_rfl) (by kernel_rfl) rfl (by kernel_rfl) rfl) rfl rfl rfl (.list rfl (fun _ _=>rfl)) hc22) ?_;refine At.sg 1 [1,2,3,9,10,11,12,25,26,27] [9,1010] (z00 1) ?_;refine At.done rfl ?_;refine z0u (fun(a23:Bool)=>⟨[(1,cD (lD 1 z2z p1)),(2,cD (dI p2)),(3,cD (dI p3)),(9,.c (.ptr 9 0)),(10,.c (oC 1010 1 (a3.2.2++([(p0.getD i2 zzd)]:List ByteArray)))),(11,cD (dI a3.1)),(25,cD (lD 1 z0b p0)),(26,cD (dI (p0.length:Int))),(27,cD (dI ((i2:Nat):Int))),(64,cD (.bool a23))],[(9,.box (cDisk r21.1)),(1010,vL 1 z0b (a3.2.2++([(p0.getD i2 zzd)]:List ByteArray)))]⟩) h (fun a23 h=>?_) (fun j24 h=>?_)
     ·refine z07 h (fun h=>?_) (fun h=>?_)
      ·refine z02 ?_;refine z04 ?_;refine At.sg 1 [1,2,3,9,10,25,26,27,66] [9,1010] (z00 1) ?_;obtain⟨r25,hr25,h⟩:=z05 h;refine At.cA [] [.agg (cDisk r21.1)] (zcv hr25) (.cons (.refl _) .nil) ?_;refine At.sg 4 [1,2,3,9,10,25,26,27] [9,1010] (z00 4) ?_;refine At.done rfl ?_;refine z04 ?_;refine At.sg 3 [27,1,2,3,9,10,11,25,26] [9,1010] (z00 3) ?_;refine At.done rfl ?_;cases h;exact kr
      ·refine Tri.kp [27,1,2,3,9,10,11,25,26] [9,1010] ?_;refine Tri.skip ?_;cases h;exact kr
     ·refine z04 ?_;refine At.sg 5 [1,2,3,9,10,11,12,25,26,27,59] [9,1010] (z00 5) ?_;refine At.cs [59] h (fun h=>?_) (fun h=>?_)
      ·obtain⟨hc26,h⟩:=z09 h;refine At.sg 5 [1,2,3,9,10,11,25,26,27,64] [9,1010] (tN 2 (ai hc26 (z00 2))) ?_;refine At.done rfl ?_;exact⟨_,h,kr⟩
      ·refine At.sg 5 [1,2,3,9,10,11,25,26,27,64] [9,1010] (z00 1) ?_;refine At.done rfl ?_;exact⟨_,h,kr⟩
   ·refine z04 ?_;refine At.sg 3 [1,2,3,9,10,11,12,13,14,15,25,26,27,39] [9,1010] (z00 3) ?_;refine At.cs [39] h (fun h=>?_) (fun h=>?_)
    ·refine At.sg 3 [1,2,3,9,10,11,12,13,14,25,26,27,42] [9,1010] (z00 1) ?_;refine At.done rfl ?_;exact⟨_,h,kr⟩
    ·refine At.sg 3 [1,2,3,9,10,11,12,13,14,25,26,27,42] [9,1010] (z00 3) ?_;refine At.done rfl ?_;exact⟨_,h,kr⟩
  ·intro a4 h;refine z02 ?_;refine z04 ?_;refine At.sg 3 [9,10,11,74,75,76] [9,1010] (z00 3) ?_;obtain⟨r5,hr5,h⟩:=z05 h;refine At.cA [] [.agg (cDisk a4.2.1),cD (dI p2),cD (dI p3)] (zcb hr5) (.cons (.refl _) (.cons (.refl _) (.cons (.refl _) .nil))) ?_;refine At.sg 4 [9,10,11] [9,1010] (z00 4) ?_;refine At.done rfl ?_;refine z02 ?_;refine z04 ?_;refine At.sg 1 [10,11,81] [1010] (z00 1) ?_;obtain⟨r6,hr6,h⟩:=z05 h;refine At.cA [] [.agg (cDisk r5.1),cD (.str (bs [102]))] (z8f hr6) (.cons (.refl _) (.cons (.refl _) .nil)) ?_;refine At.sg 5 [10,11,16,17] [1010] (z00 5) ?_;refine At.done rfl ?_;refine z02 ?_;refine Tri.sg [10,11,16,17,86] [1010] (z00 2) ?_;refine z07 h (fun h=>?_) (fun h=>?_)
   ·refine z0u (fun(a7:Bool)=>⟨[(8,cD (.bool a7))],[]⟩) h (fun a7 h=>?_) (fun j8 h=>?_)
    ·refine Tri.ret ?_;cases h;exact RetAt.k
    ·refine z04 ?_;refine At.sg 3 [11,89] [] (z00 3) ?_;refine At.cs [89] h (fun h=>?_) (fun h=>?_)
     ·refine At.sg 4 [8] [] (z00 4) ?_;refine At.done rfl ?_;exact⟨_,h,kr⟩
     ·refine At.sg 4 [8] [] (z00 2) ?_;refine At.done rfl ?_;exact⟨_,h,kr⟩
   ·refine Tri.skip ?_;refine z02 ?_;refine Tri.sg [10,11,16,18] [1010] (z00 1) ?_;refine zcm (r6.1,0) (fun(x:Bool) s=>RetAt Try.prog Try.f3 (cD (.bool x)) [] s) (fun(a9:ByteArray×Int)=>⟨[(10,.c (oC 1010 1 a4.2.2)),(11,cD (dI a4.1)),(16,cD (.str a9.1)),(18,cD (dI a9.2))],[(1010,vL 1 z0b a4.2.2)]⟩) [10,11,16,18] [1010] h ?_ ?_ ?_
    ·intro a9 c h;refine z02 ?_;refine Tri.sg [10,11,16,18,96] [1010] (z00 4) ?_;refine z07 h (fun h=>?_) (fun h=>?_)
     ·refine Tri.skip ?_;refine z02 ?_;refine z3b ?_;refine z02 ?_;refine z04 ?_;refine At.sg 1 [10,11,18,100] [1010] (z00 1) ?_;obtain⟨r11,hr11,h⟩:=z05 h;refine At.cA [] [cD (.str a9.1)] (z9g hr11) (.cons (.refl _) .nil) ?_;refine At.sg 7 [10,11,18,19,20,21] [1010] (z00 7) ?_;refine At.done rfl ?_;refine z02 ?_;refine Tri.sg [10,11,18,19,20,21,106] [1010] (z00 2) ?_;refine z07 h (fun h=>?_) (fun h=>?_)
      ·refine z0u (fun(a12:Bool)=>⟨[(8,cD (.bool a12))],[]⟩) h (fun a12 h=>?_) (fun j13 h=>?_)
       ·refine Tri.ret ?_;cases h;exact RetAt.k
       ·refine z04 ?_;refine At.sg 3 [11,18,109] [] (z00 3) ?_;refine At.cs [109] h (fun h=>?_) (fun h=>?_)
        ·refine At.sg 5 [8] [] (z00 5) ?_;refine At.done rfl ?_;exact⟨_,h,kr⟩
        ·refine At.sg 5 [8] [] (z00 2) ?_;refine At.done rfl ?_;exact⟨_,h,kr⟩
      ·refine Tri.skip ?_;refine z02 ?_;refine z0u (fun(a14:Bool)=>⟨[(10,.c (oC 1010 1 a4.2.2)),(11,cD (dI a4.1)),(18,cD (dI a9.2)),(20,cD (.str r11.2.1)),(125,cD (.bool a14))],[(1010,vL 1 z0b a4.2.2)]⟩) h (fun a14 h=>?_) (fun j15 h=>?_)
       ·refine z07 h (fun h=>?_) (fun h=>?_)
        ·refine Tri.sg [8] [] (z00 1) ?_;refine Tri.ret ?_;cases h;exact RetAt.k
        ·refine Tri.skip ?_;refine z04 ?_;refine At.sg 2 [10,11,16,18] [1010] (z00 2) ?_;refine At.done rfl ?_;refine z04 ?_;refine At.sg 3 [10,11,16,18] [1010] (z00 3) ?_;refine At.done rfl ?_;cases h;exact kr
       ·refine z04 ?_;refine At.sg 5 [10,11,18,19,20,118] [1010] (z00 5) ?_;refine At.cs [118] h (fun h=>?_) (fun h=>?_)
        ·refine At.sg 7 [10,11,18,20,125] [1010] (z00 1) ?_;refine At.done rfl ?_;exact⟨_,h,kr⟩
        ·obtain⟨hc16,h⟩:=z09 h;obtain⟨hc17,h⟩:=z09 h;refine At.sg 7 [10,11,18,20,125] [1010] (tN 3 (ai hc16 (ai hc17 (z00 2)))) ?_;refine At.done rfl ?_;exact⟨_,h,kr⟩
     ·refine Tri.kp [10,11,16,18] [1010] ?_;refine Tri.exit ?_;cases h;exact⟨rfl,kr⟩
    ·intro a10 h;refine Tri.sg [8] [] (z00 1) ?_;refine Tri.ret ?_;cases h;exact RetAt.k
    ·exact fun x s hx hr=>by cases hx;exact hr
  ·exact fun x=>x.elim
end Go.Av
/-
 Av,part V:of loops,without any program.
-/
namespace Go.Av
section
variable {S R Q A X:Type}
theorem        z7s {B : Nat → S → Option (Ctl S R)} {n : Nat} (I : Nat → S → Prop) {s : S} (h0 : I 0 s) (hs : ∀ i s, i < n → I i s → ∃ s', B i s = some (.next s') ∧ I (i + 1) s') :
    ∃ s',    z0q B n 0 s = some (.done s') ∧ I n s' := by
  have key : ∀ k i s, i + k = n → I i s → ∃ s',    z0q B k i s = some (.done s') ∧ I n s' := by
    intro k
    induction k with
    | zero => intro i s hi h; exact ⟨s, rfl, by have : i = n := by omega
                                                subst this; exact h⟩
    | succ k ih =>
      intro i s hi h
      obtain ⟨s', h1, h2⟩ := hs i s (by omega) h
      obtain ⟨s2, h3, h4⟩ := ih (i + 1) s' (by omega) h2
      exact ⟨s2, by simp only [   z0q, h1, h3], h4⟩
  exact key n 0 s (by omega) h0
theorem z6p {B:Nat→S→Option (Ctl S R)}{n:Nat}{s:S}(r:S)(I:Nat→S→Prop)(hr: ∀s,I n s→s=r)(hs: ∀i s,i<n→I i s→ ∃s',B i s=some (.next s')∧I (i+1) s')(h0:I 0 s):
 z0q B n 0 s=some (.done r):=by
 obtain⟨s',h1,h2⟩:=z7s I h0 hs;rw[h1,hr s' h2]
theorem         z5n {B : Nat → S → Option (Ctl S R)} {n : Nat} (I : Nat → S → Prop) (D : S → Prop) (J : R → Prop) {s : S} (h0 : I 0 s)
    (hs : ∀ i s, i < n → I i s → (∃ s', B i s = some (.next s') ∧ I (i + 1) s') ∨ (∃ s', B i s = some (.brk s') ∧ D s') ∨ ∃ r, B i s = some (.ret r) ∧ J r) (hD : ∀ s, I n s → D s) :
    (∃ s',    z0q B n 0 s = some (.done s') ∧ D s') ∨ ∃ r,    z0q B n 0 s = some (.ret r) ∧ J r := by
  have key : ∀ k i s, i + k = n → I i s → (∃ s',    z0q B k i s = some (.done s') ∧ D s') ∨ ∃ r,    z0q B k i s = some (.ret r) ∧ J r := by
    intro k
    induction k with
    | zero => intro i s hi h; exact .inl ⟨s, rfl, by have : i = n := by omega
                                                     subst this; exact hD s h⟩
    | succ k ih =>
      intro i s hi h
      rcases hs i s (by omega) h with ⟨s', h1, h2⟩ | ⟨s', h1, h2⟩ | ⟨r, h1, h2⟩
      · rcases ih (i + 1) s' (by omega) h2 with ⟨s2, h3, h4⟩ | ⟨r, h3, h4⟩
        · exact .inl ⟨s2, by simp only [   z0q, h1, h3], h4⟩
        · exact .inr ⟨r, by simp only [   z0q, h1, h3], h4⟩
      · exact .inl ⟨s', by simp only [   z0q, h1], h2⟩
      · exact .inr ⟨r, by simp only [   z0q, h1], h2⟩
  exact key n 0 s (by omega) h0
theorem z1u [Inhabited X]{l:List X}{i:Nat}(h:i<l.length):l.take (i+1)=l.take i++[l.getD i zzd]:=by
 rw[List.take_add_one,List.getElem?_eq_getElem h,List.getD_eq_getElem?_getD,List.getElem?_eq_getElem h];rfl
theorem z47 [Inhabited X]{l:List X}{i:Nat}(h:i<l.length):l.getD i zzd∈l:=by
 rw[List.getD_eq_getElem?_getD,List.getElem?_eq_getElem h];exact List.getElem_mem h
@[simp] theorem z3y {s:S} {kn:S→Option Q} {kr:R→Option Q}:outK (some (.done s)) kn kr=kn s:=rfl
@[simp] theorem zdd {r:R} {kn:S→Option Q} {kr:R→Option Q}:outK (some (.ret r)) kn kr=kr r:=rfl
@[simp] theorem z1a {x y:Option Q}:bf true x y=x:=rfl
@[simp] theorem z0l {x y:Option Q}:bf false x y=y:=rfl
theorem z08 {c:Prop}[Decidable c]{k:Option Q}(h:c):need c k=k:=by unfold need;rw[if_pos h]
@[simp] theorem jn_eq {j:A→Option Q} {k:(A→Option Q)→Option Q}:jn j k=k j:=rfl
@[simp] theorem z1h {p:Prop} [Decidable p] {x y:Option Q}:bf (decide p) x y=if p then x else y:=by by_cases h:p<;>simp[h,bf]
@[simp] theorem zi5 {b:Bool} {x y:Option Q}:bf (!b) x y=bf b y x:=by cases b<;>rfl
end
end Go.Av
/-
 Numbers and bits:without any program.
-/
namespace Go.Av
open Go
theorem za0 (n:Int):zzu.wrap n=n % 18446744073709551616:=by simp[IntKind.wrap,IntKind.bits,IntKind.signed]
theorem zez (n:Int):IntKind.u8.wrap n=n % 256:=by simp[IntKind.wrap,IntKind.bits,IntKind.signed]
theorem zh4 (n:Int):IntKind.u32.wrap n=n % 4294967296:=by simp[IntKind.wrap,IntKind.bits,IntKind.signed]
theorem zh3 (n:Int):zzi.wrap n=if n % 18446744073709551616≥9223372036854775808 then n % 18446744073709551616-18446744073709551616 else n % 18446744073709551616:=by
 simp[IntKind.wrap,IntKind.bits,IntKind.signed]
def in64 (x:Int):Prop:= -9223372036854775808≤x∧x<9223372036854775808
theorem zed {x:Int}(h:in64 x):zzi.wrap x=x:=by
 unfold in64 at h;rw[zh3];split<;>omega
theorem z5d (k:IntKind)(n m:Nat)(hm:m≤k.bits):shrOp k (n:Int) (m:Int)=((n / 2^m:Nat):Int):=by
 unfold shrOp;rw[zz9,Nat.min_eq_left hm,Int.fdiv_eq_ediv_of_nonneg _ (by exact Int.le_of_lt (Int.pow_pos (by decide)))]
 push_cast
 rfl
theorem z44 {w:Nat}(n:Nat)(h:n<2^w):(BitVec.ofInt w (n:Int)).toNat=n:=by
 rw[BitVec.toNat_ofInt];have e:((n:Int) % ((2^w:Nat):Int))=(n:Int):=Int.emod_eq_of_lt (by omega) (by exact_mod_cast h);rw[e,zz9]
theorem uwrap {k:IntKind}(hs:k.signed=false){n:Nat}(h:n<2^k.bits):k.wrap (n:Int)=(n:Int):=by
 unfold IntKind.wrap;simp only[hs,Bool.false_and,Bool.false_eq_true,if_false];have:((2:Int)^k.bits)=((2^k.bits:Nat):Int):=by push_cast;rfl
 rw[this];exact Int.emod_eq_of_lt (by omega) (by exact_mod_cast h)
theorem z9e {k:IntKind}(hs:k.signed=false){x y:Nat}(hx:x<2^k.bits)(hy:y<2^k.bits):z0j .xor k (x:Int) (y:Int)=((x^^^y:Nat):Int):=by
 unfold z0j;simp only;rw[BitVec.toNat_xor,z44 x hx,z44 y hy,uwrap hs (Nat.xor_lt_two_pow hx hy)]
theorem zig {k:IntKind}(hs:k.signed=false){x y:Nat}(hx:x<2^k.bits)(hy:y<2^k.bits):z0j .or k (x:Int) (y:Int)=((x|||y:Nat):Int):=by
 unfold z0j;simp only;rw[BitVec.toNat_or,z44 x hx,z44 y hy,uwrap hs (Nat.or_lt_two_pow hx hy)]
theorem zb1 {k:IntKind}(hs:k.signed=false){x y:Nat}(hx:x<2^k.bits)(hy:y<2^k.bits):z0j .and k (x:Int) (y:Int)=((x &&& y:Nat):Int):=by
 unfold z0j;simp only;rw[BitVec.toNat_and,z44 x hx,z44 y hy,uwrap hs (Nat.and_lt_two_pow x hy)]
theorem zgh {k:IntKind}(hs:k.signed=false){x:Nat}(hx:x<2^k.bits)(hk:1<2^k.bits):z0j .and k (x:Int) 1=((x % 2:Nat):Int):=by
 have:=zb1 hs hx hk;rw[show((1:Nat):Int)=1 from rfl]at this;rw[this,show(1:Nat)=2^1-1 from rfl,Nat.and_two_pow_sub_one_eq_mod]
theorem or128 {x:Nat}(h:x<256):z0j .or .u8 (x:Int) 128=((x % 128+128:Nat):Int):=by
 have key: ∀x:Fin 256,z0j .or .u8 (x.val:Int) 128=((x.val % 128+128:Nat):Int):=by decide+kernel
 exact key ⟨x,h⟩
theorem zfk {x:Nat}(h:x<256):z0j .and .u8 (x:Int) 127=((x % 128:Nat):Int):=by
 have key: ∀x:Fin 256,z0j .and .u8 (x.val:Int) 127=((x.val % 128:Nat):Int):=by decide+kernel
 exact key ⟨x,h⟩
theorem zif {a b i:Nat}(h:b<2^i):b|||(2^i*a)=2^i*a+b:=by
 rw[Nat.or_comm];exact(Nat.two_pow_add_eq_or_of_lt h a).symm
theorem zhv {k:IntKind}(n m:Nat)(hm:m≤k.bits):shlOp k (n:Int) (m:Int)=k.wrap ((n*2^m:Nat):Int):=by
 unfold shlOp;rw[zz9,Nat.min_eq_left hm]
 push_cast
 rfl
end Go.Av
namespace Go.Av
open Go
section
variable {α:Type} [Inhabited α]
theorem wadd {i j:Nat}(h:i+j<4611686018427387904):zzi.wrap ((i:Int)+(j:Int))=((i+j:Nat):Int):=by
 rw[z0w (by omega) (by omega)];omega
theorem z7l {S R:Type}{B:S→Option (Ctl S R)}{fuel:Nat}{s s':S}(h:B s=some (.next s')):loopN B (fuel+1) s=loopN B fuel s':=by rw[loopN,h]
theorem zbv {S R:Type}{B:S→Option (Ctl S R)}{fuel:Nat}{s s':S}(h:B s=some (.brk s')):loopN B (fuel+1) s=some (.done s'):=by rw[loopN,h]
theorem zfv {S R:Type}{B:S→Option (Ctl S R)}{fuel:Nat}{s:S}{r:R}(h:B s=some (.ret r)):loopN B (fuel+1) s=some (.ret r):=by rw[loopN,h]
end
end Go.Av
namespace Go.Av
open Go
section
variable {α:Type} [Inhabited α]
def rotF (a m b:Nat)(d:Array α)(x:Nat):α:=if a≤x∧x<a+(b-m)then d[x-a+m]! else if a+(b-m)≤x∧x<b then d[x-(a+(b-m))+a]! else d[x]!
structure RotTo (a m b:Nat) (d d':Array α):Prop where
 perm:Sort.PermIn a b d d'
 get: ∀x,d'[x]! =rotF a m b d x
end
end Go.Av
namespace Go.Av
open Go
section
variable {α:Type} [Inhabited α]
theorem zhb {R:Type}{B:Int×Int→Option (Ctl (Int×Int) R)}{P:Nat→Bool}{i0 j0:Nat}: ∀(n i j fuel:Nat),j-i≤n→n<fuel→i0≤i→i≤j→j≤j0→(i=i0∨P (i-1)=true)→(j=j0∨P j=false)→
 (∀i j:Nat,i0≤i→i≤j→j≤j0→B ((i:Int),(j:Int))=if i<j then(if P ((i+j) / 2)=true then some (.next ((((i+j) / 2+1:Nat):Int),(j:Int)))else some (.next ((i:Int),(((i+j) / 2:Nat):Int))))else some (.brk ((i:Int),(j:Int))))→
 ∃r:Nat,loopN B fuel ((i:Int),(j:Int))=some (.done ((r:Int),(r:Int)))∧i0≤r∧r≤j0∧(r=i0∨P (r-1)=true)∧(r=j0∨P r=false):=by
 intro n;induction n with
 |zero=>
  intro i j fuel hn hf h1 h2 h3 h4 h5 hB;cases fuel with
  |zero=>omega
  |succ fuel=>
   have h:=hB i j h1 h2 h3;rw[if_neg (by omega)]at h;have:i=j:=by omega
   subst this;exact⟨i,zbv h,h1,h3,h4,h5⟩
 |succ n ih=>
  intro i j fuel hn hf h1 h2 h3 h4 h5 hB;cases fuel with
  |zero=>omega
  |succ fuel=>
   have h:=hB i j h1 h2 h3;by_cases hl:i<j
   ·rw[if_pos hl]at h;by_cases hp:P ((i+j) / 2)=true
    ·rw[if_pos hp]at h;rw[z7l h];exact ih _ j fuel (by omega) (by omega) (by omega) (by omega) h3 (.inr (by rw[Nat.add_sub_cancel];exact hp)) h5 hB
    ·rw[if_neg hp]at h;rw[z7l h];exact ih i _ fuel (by omega) (by omega) h1 (by omega) (by omega) h4 (.inr (by simpa using hp)) hB
   ·rw[if_neg hl]at h;have:i=j:=by omega
    subst this;exact⟨i,zbv h,h1,h3,h4,h5⟩
variable {lt:α→α→Bool}
structure MergeTo (lt:α→α→Bool) (a b:Nat) (d d':Array α):Prop where
 perm:Sort.PermIn a b d d'
 sorted:Sort.SortedIn lt a b d'
end
end Go.Av
/-
 Orders,as comparisons with three answers:without any program.
-/
namespace Go.Av
open Go
structure IsCmp {α:Type} (c:α→α→Int):Prop where
 vals: ∀a b,c a b= -1∨c a b=0∨c a b=1
 anti: ∀a b,c b a= - c a b
 tr: ∀a b d,c a b≤0→c b d≤0→c a d≤0
namespace IsCmp
variable {α β:Type} {c:α→α→Int}
theorem refl (h:IsCmp c)(a:α):c a a=0:=by have:=h.anti a a;omega
theorem lt_tr (h:IsCmp c){a b d:α}(h1:c a b<0)(h2:c b d≤0):c a d<0:=by
 have:=h.tr a b d (by omega) h2;rcases h.vals a d with g|g|g
 ·omega
 ·have g1:=h.anti a d;have g2:=h.tr b d a h2 (by omega)
  have g3:=h.anti a b;omega
 ·omega
theorem eqL (h:IsCmp c){a b:α}(d:α)(h1:c a b=0):c a d=c b d:=by
 have h2:=h.anti a b;have t1:=h.tr a b d (by omega)
 have t2:=h.tr b a d (by omega);have t3:=h.tr d a b
 have t4:=h.tr d b a;have a1:=h.anti a d
 have a2:=h.anti b d;rcases h.vals a d with g|g|g<;>rcases h.vals b d with k|k|k<;>omega
theorem eqR (h:IsCmp c){a b:α}(d:α)(h1:c a b=0):c d a=c d b:=by
 have:=h.eqL d h1;have a1:=h.anti a d
 have a2:=h.anti b d;omega
theorem on (h:IsCmp c)(f:β→α):IsCmp fun x y=>c (f x) (f y):=⟨fun a b=>h.vals _ _,fun a b=>h.anti _ _,fun a b d=>h.tr _ _ _⟩
end IsCmp
def cmpZ (a b:Int):Int:=if a<b then -1 else if b<a then 1 else 0
theorem zhd:IsCmp cmpZ where
 vals a b:=by unfold cmpZ;split<;>(try split)<;>simp
 anti a b:=by unfold cmpZ;split<;>(try split)<;>(try split)<;>(try split)<;>omega
 tr a b d:=by unfold cmpZ;split<;>(try split)<;>(try split)<;>(try split)<;>(try split)<;>(try split)<;>omega
theorem zfo {a b:Int}:cmpZ a b=0↔a=b:=by unfold cmpZ;split<;>(try split)<;>omega
def thenC (u v:Int):Int:=if u=0 then v else u
def cmpL {α:Type}(c:α→α→Int):List α→List α→Int
 |[],[]=>0
 |[],_::_=> -1
 |_::_,[]=>1
 |a::x,b::y=>thenC (c a b) (cmpL c x y)
theorem IsCmp.list {α:Type}{c:α→α→Int}(h:IsCmp c):IsCmp (cmpL c) where
 vals:=by
  intro a;induction a with
  |nil=>intro b;cases b<;>simp[cmpL]
  |cons x a ih=>
   intro b;cases b with
   |nil=>simp[cmpL]
   |cons y b=>
    simp only[cmpL,thenC];split
    ·exact ih b
    ·exact h.vals x y
 anti:=by
  intro a;induction a with
  |nil=>intro b;cases b<;>simp[cmpL]
  |cons x a ih=>
   intro b;cases b with
   |nil=>simp[cmpL]
   |cons y b=>
    have h1:=h.anti x y;have h2:=ih b
    simp only[cmpL,thenC];split<;>split<;>omega
 tr:=by
  intro a;induction a with
  |nil=>intro b d _ _;cases d<;>simp[cmpL]
  |cons x a ih=>
   intro b d h1 h2;cases b with
   |nil=>simp[cmpL]at h1
   |cons y b=>
    cases d with
    |nil=>simp[cmpL]at h2
    |cons z d=>
     simp only[cmpL]at*;unfold thenC at*;by_cases g1:c x y=0<;>by_cases g2:c y z=0
     ·have:=h.eqL z g1;rw[if_pos g1]at h1;rw[if_pos g2]at h2;rw[if_pos (by omega)];exact ih b d h1 h2
     ·have:=h.eqL z g1;rw[if_neg g2]at h2;rw[if_neg (by omega)];omega
     ·have:=h.eqR x g2;rw[if_neg g1]at h1;rw[if_neg (by omega)];omega
     ·rw[if_neg g1]at h1;rw[if_neg g2]at h2;have:=h.lt_tr (a:=x) (b:=y) (d:=z) (by omega) h2
      rw[if_neg (by omega)];omega
def cmpU8 (a b:UInt8):Int:=cmpZ (a.toNat:Int) (b.toNat:Int)
theorem zgk:IsCmp cmpU8:=zhd.on fun a:UInt8=>(a.toNat:Int)
theorem z7x: ∀x y:List UInt8,Op.bytesLess x y=decide (cmpL cmpU8 x y<0)
 |[],[]=>by simp[Op.bytesLess,cmpL]
 |[],_::_=>by simp[Op.bytesLess,cmpL]
 |_::_,[]=>by simp[Op.bytesLess,cmpL]
 |a::x,b::y=>by
  rw[Op.bytesLess,z7x x y,cmpL];have e1:(a<b)↔(a.toNat:Int)<(b.toNat:Int):=by rw[UInt8.lt_iff_toNat_lt];omega
  have e2:(a=b)↔(a.toNat:Int)=(b.toNat:Int):=by rw[←UInt8.toNat_inj];omega
  unfold cmpU8 thenC cmpZ;rw[Bool.eq_iff_iff];simp only[Bool.or_eq_true,Bool.and_eq_true,decide_eq_true_eq,beq_iff_eq,e1,e2];by_cases h1:(a.toNat:Int)<(b.toNat:Int)
  ·simp[h1]
  ·by_cases h2:(b.toNat:Int)<(a.toNat:Int)
   ·simp[h1,h2];omega
   ·have:(a.toNat:Int)=(b.toNat:Int):=by omega
    simp[this]
theorem z9m: ∀x y:List UInt8,(x==y)=decide (cmpL cmpU8 x y=0)
 |[],[]=>by simp[cmpL]
 |[],_::_=>by simp[cmpL]
 |_::_,[]=>by simp[cmpL]
 |a::x,b::y=>by
  rw[List.cons_beq_cons,z9m x y,cmpL];have e2:(a=b)↔(a.toNat:Int)=(b.toNat:Int):=by rw[←UInt8.toNat_inj];omega
  have e3:cmpU8 a b=0↔(a.toNat:Int)=(b.toNat:Int):=zfo;unfold thenC;rw[Bool.eq_iff_iff];simp only[Bool.and_eq_true,decide_eq_true_eq,beq_iff_eq,e2];by_cases h:cmpU8 a b=0
  ·rw[if_pos h];simp[e3.1 h]
  ·rw[if_neg h];constructor
   ·rintro⟨g,_⟩;exact absurd (e3.2 g) h
   ·intro g;exact absurd g h
def cmpS (a b:ByteArray):Int:=cmpL cmpU8 a.toList b.toList
theorem z1d:IsCmp cmpS:=zgk.list.on fun a:ByteArray=>a.toList
theorem zc1 (a b:ByteArray):strLt a b=decide (cmpS a b<0):=z7x _ _
theorem z8y (a b:ByteArray):strEq a b=decide (cmpS a b=0):=z9m _ _
theorem z60 (a:ByteArray):strEq a a=true:=by unfold strEq;simp
theorem zc9 {a b:ByteArray}(h:a.toList=b.toList):a=b:=by
 rw[ByteArray.toList_eq,ByteArray.toList_eq]at h;cases a;cases b;simp at h;simp[h]
theorem z8z {a b:ByteArray}:strEq a b=true↔a=b:=by
 unfold strEq;rw[beq_iff_eq];exact⟨zc9,fun h=>by rw[h]⟩
theorem zbn {a b:ByteArray}:cmpS a b=0↔a=b:=by
 rw[←z8z,z8y,decide_eq_true_eq]
theorem zb5 {α:Type}[Inhabited α]{l:List α}{i:Nat}(h:i<l.length):l.drop i=l.getD i zzd::l.drop (i+1):=by
 rw[List.drop_eq_getElem_cons h,List.getD_eq_getElem?_getD,List.getElem?_eq_getElem h];rfl
end Go.Av
namespace Go.Av
open Go
section
variable {α:Type} [Inhabited α] {cmp:α→α→Option Int} {c:α→α→Int}
theorem zhm {x y:Nat}(h:x+y<4611686018427387904):zzi.wrap (shrOp .u64 (zzu.wrap (zzi.wrap ((x:Int)+(y:Int)))) 1)=(((x+y) / 2:Nat):Int):=by
 rw[wadd h,za0,Int.emod_eq_of_lt (by omega) (by omega),show(1:Int)=((1:Nat):Int)from rfl,z5d .u64 (x+y) 1 (by decide),z0w (by omega) (by omega)]
end
end Go.Av
namespace Go.Av
open Go
def SF (l:List File):Prop:=l.Pairwise fun a b=>cmpS a.name b.name<0
theorem z8n (a:ByteArray):z2l a=some false:=by
 unfold z2l;rw[z8y,decide_eq_true (by have:=z1d.anti a a;omega:cmpS a a=0)];rfl
theorem zcr (a b:ByteArray):z2u a b=some (cmpS a b):=by
 unfold z2u;rw[z8n,z8n];simp only[zz3,z0l,zc1,z8y];have:=z1d.vals a b
 by_cases h1:cmpS a b<0
 ·rw[decide_eq_true h1,z1a];congr 1;omega
 ·rw[decide_eq_false h1,z0l];by_cases h2:cmpS a b=0
  ·rw[decide_eq_true h2,h2];rfl
  ·rw[decide_eq_false h2];show some 1=_;congr 1;omega
theorem zg1 (f:File)(n:ByteArray):z16 f n=some (cmpS f.name n):=by
 unfold z16;rw[zcr];rfl
theorem zgw {fuel:Nat}{l:List File}{n:ByteArray}(hf:20000000≤fuel)(hn:l.length≤4000000)(hs:SF l):
 ∃(k:Nat) (b:Bool),z0g fuel l n=some ((k:Int),b)∧k≤l.length∧(∀f∈l.take k,cmpS f.name n<0)∧(∀f∈l.drop k,0≤cmpS f.name n)∧(b=true↔k<l.length∧cmpS (l.getD k zzd).name n=0):=by
 unfold z0g z0e;simp only[zg1];obtain⟨r,h1,_,h3,h4,h5⟩:=zhb (R:=Empty) (P:=fun i=>decide (cmpS (l.getD i zzd).name n<0)) (i0:=0) (j0:=l.length) (B:=fun(a1:Int×Int)=>bf (decide (a1.1<a1.2)) (need ((0:Int)≤(zzi.wrap (shrOp .u64 (zzu.wrap (zzi.wrap (a1.1+a1.2))) 1))∧(zzi.wrap (shrOp .u64 (zzu.wrap (zzi.wrap (a1.1+a1.2))) 1))<(l.length:Int))<|(some (cmpS (l.getD ((zzi.wrap (shrOp .u64 (zzu.wrap (zzi.wrap (a1.1+a1.2))) 1)).toNat) zzd).name n)).bind fun r8=>bf (decide (r8<0)) (some (.next ((zzi.wrap ((zzi.wrap (shrOp .u64 (zzu.wrap (zzi.wrap (a1.1+a1.2))) 1))+1)),a1.2))) (some (.next (a1.1,(zzi.wrap (shrOp .u64 (zzu.wrap (zzi.wrap (a1.1+a1.2))) 1)))))) (some (.brk (a1.1,a1.2))))
  l.length 0 l.length fuel (by omega) (by omega) (zzc _) (Nat.zero_le _) (zzc _) (.inl rfl) (.inl rfl) (fun i j _ hij hj=>by
   simp only[z1h,Int.ofNat_lt];by_cases h:i<j
   ·rw[if_pos h,if_pos h,zhm (by omega),z08 (by omega)];simp only[zz3,z1h,zz9,decide_eq_true_eq];rw[z0w (by omega) (by omega)];split<;>rfl
   ·rw[if_neg h,if_neg h])
 rw[show((0:Nat):Int)=(0:Int)from rfl]at h1;rw[h1];have mono: ∀i j,i<j→j<l.length→cmpS (l.getD i zzd).name (l.getD j zzd).name<0:=fun i j hij hj=>by
  have:=List.pairwise_iff_getElem.1 hs i j (by omega) hj hij
  simpa [List.getD_eq_getElem?_getD,List.getElem?_eq_getElem hj,List.getElem?_eq_getElem (show i<l.length by omega)]using this
 have lt: ∀f∈l.take r,cmpS f.name n<0:=fun f hm=>by
  obtain⟨i,hi,rfl⟩:=List.mem_iff_getElem.1 hm;simp only[zzh]at hi;have e:(l.take r)[i]=l.getD i zzd:=by simp[List.getD_eq_getElem?_getD,List.getElem?_eq_getElem (show i<l.length by omega)]
  rw[e];have hr:cmpS (l.getD (r-1) zzd).name n<0:=by
   rcases h4 with h4|h4
   ·omega
   ·exact of_decide_eq_true h4
  by_cases hi2:i=r-1
  ·rw[hi2];exact hr
  ·have:=mono i (r-1) (by omega) (by omega);have h2:=z1d.tr (l.getD i zzd).name (l.getD (r-1) zzd).name n (by omega) (by omega)
   have:=z1d.vals (l.getD i zzd).name n;rcases Int.lt_or_le (cmpS (l.getD i zzd).name n) 0 with h|h
   ·exact h
   ·exfalso;have h0:cmpS (l.getD i zzd).name n=0:=by omega
    have a1:=z1d.anti (l.getD i zzd).name n;have h6:=z1d.tr n (l.getD i zzd).name (l.getD (r-1) zzd).name (by omega) (by omega)
    have a2:=z1d.anti n (l.getD (r-1) zzd).name;have h7:=z1d.tr (l.getD (r-1) zzd).name n (l.getD i zzd).name (by omega) (by omega)
    have a3:=z1d.anti (l.getD i zzd).name (l.getD (r-1) zzd).name;omega
 have ge: ∀f∈l.drop r,0≤cmpS f.name n:=fun f hm=>by
  obtain⟨i,hi,rfl⟩:=List.mem_iff_getElem.1 hm;simp only[List.length_drop]at hi;have e:(l.drop r)[i]=l.getD (r+i) zzd:=by simp[List.getD_eq_getElem?_getD,List.getElem?_eq_getElem (show r+i<l.length by omega)]
  rw[e];have hr:0≤cmpS (l.getD r zzd).name n:=by
   rcases h5 with h5|h5
   ·omega
   ·have:=of_decide_eq_false h5;omega
  by_cases hi2:i=0
  ·rw[hi2];exact hr
  ·have h2:=mono r (r+i) (by omega) (by omega);rcases Int.lt_or_le (cmpS (l.getD (r+i) zzd).name n) 0 with h|h
   ·exfalso;have h6:=z1d.tr (l.getD r zzd).name (l.getD (r+i) zzd).name n (by omega) (by omega)
    have h0:cmpS (l.getD r zzd).name n=0:=by omega
    have a1:=z1d.anti (l.getD r zzd).name n;have h7:=z1d.tr (l.getD (r+i) zzd).name n (l.getD r zzd).name (by omega) (by omega)
    have a3:=z1d.anti (l.getD r zzd).name (l.getD (r+i) zzd).name;omega
   ·exact h
 simp only[z3y,jn_eq,z1h,Int.ofNat_lt,zz9];by_cases h:r<l.length
 ·rw[if_pos h,z08 (by omega)];simp only[zz3];exact⟨r,_,rfl,h3,lt,ge,by simp[h]⟩
 ·rw[if_neg h];exact⟨r,false,rfl,h3,lt,ge,by simp[h]⟩
end Go.Av
namespace Go.Av
open Go
def ltF (n:ByteArray)(l:List File):List File:=l.filter fun f=>decide (cmpS f.name n<0)
def gtF (n:ByteArray)(l:List File):List File:=l.filter fun f=>decide (0<cmpS f.name n)
theorem zb2 {a b n:ByteArray}(h:cmpS a b<0)(h2:0≤cmpS a n):0<cmpS b n:=by
 rcases Int.lt_or_le 0 (cmpS b n)with h3|h3
 ·exact h3
 ·exfalso;have h4:=z1d.tr a b n (by omega) h3
  have h0:cmpS a n=0:=by omega
  have a1:=z1d.anti a n;have h5:=z1d.tr b n a h3 (by omega)
  have a2:=z1d.anti a b;omega
theorem z5m {fuel:Nat}{l:List File}{n:ByteArray}(hf:20000000≤fuel)(hn:l.length≤4000000)(hs:SF l):
 ∃(k:Nat) (b:Bool),z0g fuel l n=some ((k:Int),b)∧k≤l.length∧l.take k=ltF n l∧
  ((b=false∧l.drop k=gtF n l∧ ∀f∈l,cmpS f.name n≠0)∨(b=true∧k<l.length∧cmpS (l.getD k zzd).name n=0∧l.drop k=l.getD k zzd::gtF n l∧l.drop (k+1)=gtF n l)):=by
 obtain⟨k,b,h1,h2,h3,h4,h5⟩:=zgw (n:=n) hf hn hs;have hl:ltF n l=l.take k:=by
  unfold ltF
  conv=>lhs;rw[←List.take_append_drop k l]
  rw[List.filter_append,List.filter_eq_self.2 (fun f hm=>decide_eq_true (h3 f hm)),List.filter_eq_nil_iff.2 (fun f hm=>by have:=h4 f hm;simp;omega),List.append_nil]
 have hg:gtF n l=(l.drop k).filter fun f=>decide (0<cmpS f.name n):=by
  unfold gtF
  conv=>lhs;rw[←List.take_append_drop k l]
  rw[List.filter_append,List.filter_eq_nil_iff.2 (fun f hm=>by have:=h3 f hm;simp;omega),List.nil_append]
 refine⟨k,b,h1,h2,hl.symm,?_⟩;have hsd:SF (l.drop k):=hs.sublist (List.drop_sublist k l)
 by_cases hk:k<l.length
 ·have hd:l.drop k=l.getD k zzd::l.drop (k+1):=by
   rw[List.drop_eq_getElem_cons hk];simp[List.getD_eq_getElem?_getD,List.getElem?_eq_getElem hk]
  rw[hd]at hsd h4 hg;have h0:=h4 _ (zz7 ..)
  have hgt: ∀f∈l.drop (k+1),0<cmpS f.name n:=fun f hm=>zb2 (List.rel_of_pairwise_cons hsd hm) h0;have hg2:(l.drop (k+1)).filter (fun f=>decide (0<cmpS f.name n))=l.drop (k+1):=List.filter_eq_self.2 fun f hm=>decide_eq_true (hgt f hm)
  rw[List.filter_cons,hg2]at hg;cases b with
  |true=>
   obtain⟨_,h6⟩:=h5.1 rfl;rw[if_neg (by rw[decide_eq_true_eq];omega)]at hg;exact .inr ⟨rfl,hk,h6,by rw[hg];exact hd,hg.symm⟩
  |false=>
   have h6:cmpS (l.getD k zzd).name n≠0:=fun h=>by have:=h5.2 ⟨hk,h⟩;cases this
   rw[if_pos (by rw[decide_eq_true_eq];omega)]at hg;refine .inl ⟨rfl,by rw[hg];exact hd,fun f hm=>?_⟩;rw[←List.take_append_drop k l,List.mem_append,hd]at hm;rcases hm with hm|hm
   ·have:=h3 f hm;omega
   ·rcases List.mem_cons.1 hm with rfl|hm
    ·exact h6
    ·have:=hgt f hm;omega
 ·have hd:l.drop k=[]:=List.drop_eq_nil_of_le (by omega);cases b with
  |true=>exact absurd (h5.1 rfl).1 hk
  |false=>
   refine .inl ⟨rfl,by rw[hg,hd];rfl,fun f hm=>?_⟩;rw[←List.take_append_drop k l,hd,List.append_nil]at hm;have:=h3 f hm;omega
def putF (f:File)(l:List File):List File:=ltF f.name l++f::gtF f.name l
theorem zg2 {fuel:Nat}{l:List File}{f:File}(hf:20000000≤fuel)(hn:l.length≤4000000)(hs:SF l):z11 fuel f l=some (putF f l):=by
 obtain⟨k,b,h1,h2,h3,h4⟩:=z5m (n:=f.name) hf hn hs;unfold z11 putF;rw[h1];simp only[zz3];rcases h4 with⟨rfl,h5,_⟩|⟨rfl,h5,_,h6,h7⟩
 ·rw[z0l];unfold z24 z9z;rw[z08 ⟨by omega,by omega,rfl,by simp;omega⟩];simp only[zz3,zz9,h3,h5,zzb,List.singleton_append]
 ·rw[z1a,z08 (by omega),z08 (by simp only[zz9];omega)];simp only[zz9,zze];rw[List.set_eq_take_append_cons_drop,if_pos h5,h3,h7]
theorem zhw {fuel:Nat}{l:List File}{n:ByteArray}(hf:20000000≤fuel)(hn:l.length≤4000000)(hs:SF l):
 (z0s fuel n l=some (⟨bs [],bs []⟩,false,l)∧ ∀f∈l,cmpS f.name n≠0)∨(∃f∈l,cmpS f.name n=0∧z0s fuel n l=some (f,true,ltF n l++gtF n l)):=by
 obtain⟨k,b,h1,h2,h3,h4⟩:=z5m (n:=n) hf hn hs;unfold z0s;rw[h1];simp only[zz3];rcases h4 with⟨rfl,h5,h6⟩|⟨rfl,h5,h8,h6,h7⟩
 ·exact .inl ⟨by rw[Bool.not_false,z1a],h6⟩
 ·refine .inr ⟨l.getD k zzd,?_,h8,?_⟩
  ·rw[List.getD_eq_getElem?_getD,List.getElem?_eq_getElem h5];exact List.getElem_mem h5
  ·rw[Bool.not_true,z0l,z08 (by omega),z08 (by simp only[zz9];omega)];unfold z1f z9y;have hw:zzi.wrap ((k:Int)+1)=((k+1:Nat):Int):=z92 (by unfold maxN;omega)
   rw[hw,z08 ⟨by omega,by omega,by omega⟩];simp only[zz3,zz9,zze,h3,h7]
end Go.Av
namespace Go.Av
open Go
def delF (n:ByteArray)(l:List File):List File:=ltF n l++gtF n l
def hasF (n:ByteArray)(l:List File):Bool:=l.any fun f=>decide (cmpS f.name n=0)
def oldF (n:ByteArray)(l:List File):ByteArray:=((l.find? fun f=>decide (cmpS f.name n=0)).getD ⟨bs [],bs []⟩).data
def doneF (l:List File)(w:Write):List File:=
 if w.kind=1 then putF ⟨w.name,oldF w.name l++w.data⟩ (delF w.name l)else if w.kind=2∧hasF w.name l=true then putF ⟨w.to_,oldF w.name l⟩ (delF w.name l)else delF w.name l
theorem z4s {n:ByteArray}{l:List File}(hs:SF l):SF (delF n l):=by
 unfold SF delF ltF gtF;rw[List.pairwise_append];refine⟨hs.sublist List.filter_sublist,hs.sublist List.filter_sublist,fun a ha b hb=>?_⟩;have h1:=of_decide_eq_true (List.mem_filter.1 ha).2
 have h2:=of_decide_eq_true (List.mem_filter.1 hb).2;have a1:=z1d.anti b.name n
 have h3:=z1d.tr a.name n b.name (by omega) (by omega);rcases Int.lt_or_le (cmpS a.name b.name) 0 with h|h
 ·exact h
 ·exfalso;have h4:=z1d.tr b.name a.name n (by have:=z1d.anti a.name b.name;omega) (by omega)
  omega
theorem zer {f:File}{l:List File}(hs:SF l):SF (putF f l):=by
 have h0:=z4s (n:=f.name) hs;unfold SF delF at h0;rw[List.pairwise_append]at h0;unfold SF putF;rw[List.pairwise_append];refine⟨h0.1,List.pairwise_cons.2 ⟨fun b hb=>?_,h0.2.1⟩,fun a ha b hb=>?_⟩
 ·have:=of_decide_eq_true (List.mem_filter.1 hb).2;have:=z1d.anti b.name f.name
  omega
 ·rcases List.mem_cons.1 hb with rfl|hb
  ·exact of_decide_eq_true (List.mem_filter.1 ha).2
  ·exact h0.2.2 a ha b hb
theorem z7c (n:ByteArray)(l:List File):(delF n l).length≤l.length:=by
 unfold delF ltF gtF;induction l with
 |nil=>simp
 |cons f l ih=>
  simp only[List.filter_cons,zz6]at ih ⊢;by_cases h1:cmpS f.name n<0
  ·rw[if_pos (by rw[decide_eq_true_eq];exact h1),if_neg (by rw[decide_eq_true_eq];omega)];simp only[List.length_cons];omega
  ·rw[if_neg (by rw[decide_eq_true_eq];exact h1)];split<;>simp only[List.length_cons]<;>omega
theorem zdh (f:File)(l:List File):(putF f l).length≤l.length+1:=by
 have:=z7c f.name l;unfold delF at this;unfold putF;rw[zz6]at this ⊢;rw[List.length_cons];omega
theorem z9t {l:List File}{w:Write}(hs:SF l):SF (doneF l w):=by
 unfold doneF;split
 ·exact zer (z4s hs)
 ·split
  ·exact zer (z4s hs)
  ·exact z4s hs
theorem z8g (l:List File)(w:Write):(doneF l w).length≤l.length+1:=by
 have h1:=z7c w.name l;unfold doneF;split
 ·have:=zdh ⟨w.name,oldF w.name l++w.data⟩ (delF w.name l);omega
 ·split
  ·have:=zdh ⟨w.to_,oldF w.name l⟩ (delF w.name l);omega
  ·omega
theorem zbp {n:ByteArray}{l:List File}(hs:SF l)(h: ∀f∈l,cmpS f.name n≠0):delF n l=l:=by
 unfold delF ltF gtF;induction l with
 |nil=>rfl
 |cons f l ih=>
  have hs2:=List.pairwise_cons.1 hs;have ih:=ih hs2.2 fun g hg=>h g (zz8 _ hg)
  have h0:=h f (zz7 ..);simp only[List.filter_cons];by_cases h1:cmpS f.name n<0
  ·rw[if_pos (by rw[decide_eq_true_eq];exact h1),if_neg (by rw[decide_eq_true_eq];omega),List.cons_append,ih]
  ·have hg: ∀g∈l,0<cmpS g.name n:=fun g hg=>zb2 (hs2.1 g hg) (by omega);rw[if_neg (by rw[decide_eq_true_eq];exact h1),if_pos (by rw[decide_eq_true_eq];omega),List.filter_eq_nil_iff.2 (fun g hm=>by have:=hg g hm;rw[decide_eq_true_eq];omega),List.nil_append,List.filter_eq_self.2 fun g hm=>decide_eq_true (hg g hm)]
theorem zbd {fuel:Nat}{l:List File}{n:ByteArray}(hf:20000000≤fuel)(hn:l.length≤4000000)(hs:SF l):
 ∃f,z0s fuel n l=some (f,hasF n l,delF n l)∧f.data=oldF n l:=by
 rcases zhw (n:=n) hf hn hs with⟨h1,h2⟩|⟨f,h1,h2,h3⟩
 ·refine⟨⟨bs [],bs []⟩,?_,?_⟩
  ·rw[h1,zbp hs h2];have:hasF n l=false:=by
    unfold hasF;rw[List.any_eq_false];intro g hg;rw[decide_eq_true_eq];exact h2 g hg
   rw[this]
  ·unfold oldF;rw[List.find?_eq_none.2 (fun g hg=>by rw[decide_eq_true_eq];exact h2 g hg)];rfl
 ·have hh:hasF n l=true:=by
   unfold hasF;exact List.any_eq_true.2 ⟨f,h1,decide_eq_true h2⟩
  refine⟨f,by rw[h3,hh];rfl,?_⟩;unfold oldF;cases hq:l.find? (fun f=>decide (cmpS f.name n=0))with
  |none=>exact absurd (decide_eq_true h2) (List.find?_eq_none.1 hq f h1)
  |some g=>
   have hg:cmpS g.name n=0:=by have:=List.find?_some hq;exact of_decide_eq_true this
   have hgm:=List.mem_of_find?_eq_some hq;have:g=f:=by
    obtain⟨i,hi,rfl⟩:=List.mem_iff_getElem.1 hgm;obtain⟨j,hj,rfl⟩:=List.mem_iff_getElem.1 h1;have key: ∀i j (hi:i<l.length) (hj:j<l.length),i<j→cmpS l[i].name n=0→cmpS l[j].name n=0→False:=fun i j hi hj hij e1 e2=>by
     have h5:=List.pairwise_iff_getElem.1 hs i j hi hj hij;have:=zb2 (n:=n) h5 (by omega)
     omega
    rcases Nat.lt_trichotomy i j with h|h|h
    ·exact(key i j hi hj h hg h2).elim
    ·subst h;rfl
    ·exact(key j i hj hi h h2 hg).elim
   rw[this];rfl
end Go.Av
namespace Go.Av
open Go
def szF (l:List File):Nat:=(l.map fun f=>f.data.size).sum
def szW (l:List Write):Nat:=(l.map fun w=>w.data.size).sum
theorem z9d (a b:List File):szF (a++b)=szF a+szF b:=by unfold szF;rw[List.map_append,List.sum_append]
theorem zgx {l:List File}(n:ByteArray)(hn:l.length≤4000000)(hs:SF l):(l=delF n l∧oldF n l=bs [])∨ ∃f,l=ltF n l++f::gtF n l∧f.data=oldF n l:=by
 obtain⟨k,b,h1,h2,h3,h4⟩:=z5m (fuel:=20000000) (n:=n) (zzc _) hn hs;rcases h4 with⟨rfl,h5,h6⟩|⟨rfl,h5,h8,h6,h7⟩
 ·refine .inl ⟨(zbp hs h6).symm,?_⟩;unfold oldF;rw[List.find?_eq_none.2 (fun g hg=>by rw[decide_eq_true_eq];exact h6 g hg)];rfl
 ·refine .inr ⟨l.getD k zzd,by rw[←h3,←h6,List.take_append_drop],?_⟩;obtain⟨f,g1,g2⟩:=zbd (fuel:=20000000) (n:=n) (zzc _) hn hs;rw[←g2];unfold z0s at g1;rw[h1]at g1;simp only[zz3,Bool.not_true,z0l]at g1;rw[z08 (by omega),z08 (by simp only[zz9];omega)]at g1;cases hd:z1f (k:Int) (zzi.wrap ((k:Int)+1)) l with
  |none=>rw[hd]at g1;cases g1
  |some r=>
   rw[hd]at g1;simp only[zz3,zz9,zze]at g1;injection g1 with g1;have e:l.getD k zzd=f:=congrArg Prod.fst g1
   rw[e]
theorem zcu {l:List File}(n:ByteArray)(hn:l.length≤4000000)(hs:SF l):szF (delF n l)+(oldF n l).size≤szF l:=by
 rcases zgx n hn hs with⟨h1,h2⟩|⟨f,h1,h2⟩
 ·rw[←h1,h2];exact zzc _
 ·conv=>rhs;rw[h1]
  unfold delF;rw[z9d,z9d,←h2];show _+szF (gtF n l)+_≤_+(f.data.size+szF (gtF n l));omega
theorem zg3 {l:List File}(f:File)(hn:l.length≤4000000)(hs:SF l):szF (putF f l)≤szF l+f.data.size:=by
 have h:=zcu f.name hn hs;unfold delF at h;unfold putF;rw[z9d]at h ⊢;show _+(f.data.size+szF (gtF f.name l))≤_;omega
theorem zb4 {l:List File}(w:Write)(hn:l.length≤4000000)(hs:SF l):szF (doneF l w)≤szF l+w.data.size:=by
 have h:=zcu w.name hn hs;have hl:=z7c w.name l
 unfold doneF;split
 ·have:=zg3 ⟨w.name,oldF w.name l++w.data⟩ (show(delF w.name l).length≤4000000 by omega) (z4s hs);simp only[ByteArray.size_append]at this;omega
 ·split
  ·have:=zg3 ⟨w.to_,oldF w.name l⟩ (show(delF w.name l).length≤4000000 by omega) (z4s hs);simp only at this;omega
  ·omega
theorem do_ok {fuel:Nat}{ws:List Write}{l:List File}(hf:20000000≤fuel)(hn:l.length+ws.length≤2000000)(hz:szF l+szW ws≤4611686018427387904)(hs:SF l):
 z0r fuel ws l=some (ws.foldl doneF l)∧SF (ws.foldl doneF l)∧(ws.foldl doneF l).length≤l.length+ws.length∧szF (ws.foldl doneF l)≤szF l+szW ws:=by
 unfold z0r;have key:=z7s (R:=Empty) (B:=fun i1 (a2:List File)=>(z0s fuel ((ws.getD i1 zzd).name) a2).bind fun r4=>bf (decide ((ws.getD i1 zzd).kind=1)) (need (((r4.1.data.size+((ws.getD i1 zzd).data).size:Nat):Int)≤9223372036854775807)<|(z11 fuel (⟨(ws.getD i1 zzd).name,(r4.1.data++((ws.getD i1 zzd).data))⟩:File) r4.2.2).bind fun r6=>some (.next r6)) (jn (fun(a7:Bool)=>bf a7 ((z11 fuel (⟨(ws.getD i1 zzd).to_,r4.1.data⟩:File) r4.2.2).bind fun r9=>some (.next r9)) (some (.next r4.2.2))) fun j8=>bf r4.2.1 (j8 (decide ((ws.getD i1 zzd).kind=2))) (j8 false))) (n:=ws.length)
  (fun k a=>a=(ws.take k).foldl doneF l∧SF a∧a.length≤l.length+k∧szF a≤szF l+szW (ws.take k)) (s:=l) ⟨rfl,hs,zzc _,zzc _⟩ (fun k a hk ⟨h1,h2,h3,h4⟩=>?_)
 ·obtain⟨a,h1,h2,h3,h4,h5⟩:=key;rw[h1];rw[List.take_length]at h2 h5;subst h2;exact⟨rfl,h3,h4,h5⟩
 ·have hw:szW (ws.take (k+1))=szW (ws.take k)+(ws.getD k zzd).data.size:=by
   unfold szW;rw[z1u hk,List.map_append,List.sum_append];simp
  have hwl:szW (ws.take (k+1))≤szW ws:=by
   unfold szW
   conv=>rhs;rw[←List.take_append_drop (k+1) ws,List.map_append,List.sum_append]
   omega
  refine⟨doneF a (ws.getD k zzd),?_,by rw[z1u hk,List.foldl_append,←h1];rfl,z9t h2,by have:=z8g a (ws.getD k zzd);omega,by have:=zb4 (ws.getD k zzd) (show a.length≤4000000 by omega) h2;omega⟩;generalize ws.getD k zzd=w at hw ⊢;have hd:=zcu w.name (show a.length≤4000000 by omega) h2
  have hdl:=z7c w.name a;obtain⟨f,g1,g2⟩:=zbd (n:=w.name) hf (show a.length≤4000000 by omega) h2;rw[g1];simp only[zz3,g2,jn_eq,z1h];unfold doneF;by_cases hk1:w.kind=1
  ·rw[if_pos hk1,if_pos hk1,z08 (by omega),zg2 hf (by omega) (z4s h2)];rfl
  ·rw[if_neg hk1,if_neg hk1];cases hh:hasF w.name a with
   |false=>simp[z0l]
   |true=>
    rw[z1a];by_cases hk2:w.kind=2
    ·rw[if_pos hk2,if_pos ⟨hk2,rfl⟩,zg2 hf (by omega) (z4s h2)];rfl
    ·rw[if_neg hk2,if_neg (fun h=>hk2 h.1)]
end Go.Av
namespace Go.Av
open Go
theorem zdi {S R X:Type}[Inhabited X]{B:Nat→S→Option (Ctl S R)}{l:List X}(P:X→Bool)(f:Nat→R){s:S}
 (hB: ∀i,i<l.length→B i s=if P (l.getD i zzd)then some (.ret (f i))else some (.next s)):
 (l.any P=false∧z0q B l.length 0 s=some (.done s))∨(l.any P=true∧ ∃i,i<l.length∧P (l.getD i zzd)=true∧(∀j,j<i→P (l.getD j zzd)=false)∧z0q B l.length 0 s=some (.ret (f i))):=by
 have key: ∀k i,i+k=l.length→(∀j,j<i→P (l.getD j zzd)=false)→((l.drop i).any P=false∧z0q B k i s=some (.done s))∨((l.drop i).any P=true∧ ∃j,j<l.length∧P (l.getD j zzd)=true∧(∀m,m<j→P (l.getD m zzd)=false)∧z0q B k i s=some (.ret (f j))):=by
  intro k;induction k with
  |zero=>intro i hi _;left;rw[List.drop_eq_nil_of_le (by omega:l.length≤i)];exact⟨rfl,rfl⟩
  |succ k ih=>
   intro i hi hp;rw[zb5 (by omega:i<l.length)];simp only[z0q,hB i (by omega),List.any_cons];by_cases h:P (l.getD i zzd)=true
   ·rw[if_pos h];right;exact⟨by rw[h];rfl,i,by omega,h,hp,rfl⟩
   ·rw[if_neg h];have hf:P (l.getD i zzd)=false:=by simpa using h
    rw[hf,Bool.false_or];exact ih (i+1) (by omega) fun j hj=>by
     rcases Nat.lt_or_ge j i with h3|h3
     ·exact hp j h3
     ·have:j=i:=by omega
      subst this;exact hf
 have:=key l.length 0 (by omega) (fun j hj=>by omega);rwa[List.drop_zero]at this
def nmB (s:ByteArray):Bool:= !strEq s (bs []) && decide (s.size≤32)
def z2w (w:Write):Bool:=
 if w.kind=1 then nmB w.name && strEq w.to_ (bs [])else if w.kind=2 then nmB w.name && (nmB w.to_ && strEq w.data (bs []))else if w.kind=3 then nmB w.name && (strEq w.to_ (bs []) && strEq w.data (bs []))else false
theorem zd9 (l:List ByteArray):z2b l=some (l.all nmB):=by
 unfold z2b z0f z0i z52;have e: ∀s:ByteArray,(32<(s.size:Int))↔ ¬s.size≤32:=fun s=>by omega
 rcases zdi (S:=Unit) (R:=Int) (s:=()) (l:=l) (B:=fun i1 (a2:Unit)=>(jn (fun(a1:Bool)=>some a1) fun j2=>bf (strEq (l.getD i1 zzd) (bs [])) (j2 true) (j2 (decide (32<((l.getD i1 zzd).size:Int))))).bind fun r4=>bf r4 (some (.ret ((i1:Nat):Int))) (some (.next ()))) (fun s=> !nmB s) (fun i=>(i:Int)) (fun i hi=>by
  simp only[jn_eq];unfold nmB;by_cases h:strEq (l.getD i zzd) (bs [])=true
  ·rw[h];simp
  ·rw[(by simpa using h:strEq (l.getD i zzd) (bs [])=false)];simp only[z0l,zz3,z1h,e];by_cases h2:(l.getD i zzd).size≤32<;>simp[h2])with⟨h1,h2⟩|⟨h1,i,_,_,_,h2⟩
 ·rw[h2];have:l.all nmB=true:=by
   rw[List.all_eq_true];intro x hx;have:=List.any_eq_false.1 h1 x hx
   simpa using this
  rw[this];rfl
 ·rw[h2];have:l.all nmB=false:=by
   obtain⟨x,hx,hp⟩:=List.any_eq_true.1 h1;rw[List.all_eq_false];exact⟨x,hx,by simpa using hp⟩
  rw[this];simp
theorem zda (a:ByteArray):[a].all nmB=nmB a:=by simp
theorem zgt (a b:ByteArray):[a,b].all nmB=(nmB a && nmB b):=by simp
theorem zc8 {a b:ByteArray}:strEq (a++b) (bs [])=(strEq a (bs []) && strEq b (bs [])):=by
 have h: ∀c:ByteArray,strEq c (bs [])=decide (c.size=0):=fun c=>by
  by_cases h:c.size=0
  ·have:c=bs []:=ByteArray.ext (by
    have:c.data.size=0:=h;rw[Array.eq_empty_of_size_eq_zero this];rfl)
   rw[this,z60];rfl
  ·rw[decide_eq_false h];cases hq:strEq c (bs [])with
   |false=>rfl
   |true=>rw[z8z]at hq;rw[hq]at h;exact absurd rfl h
 rw[h,h,h,ByteArray.size_append];by_cases h1:a.size=0<;>by_cases h2:b.size=0<;>simp[h1,h2]
theorem zdp {w:Write}(h:w.to_.size+w.data.size≤9223372036854775807):z40 w=some (z2w w):=by
 unfold z40 z2w;simp only[zd9,zda,zgt,zz3,jn_eq,z1h];by_cases h1:w.kind=1
 ·rw[if_pos h1,if_pos h1];cases nmB w.name<;>rfl
 ·rw[if_neg h1,if_neg h1];by_cases h2:w.kind=2
  ·rw[if_pos h2,if_pos h2];cases nmB w.name<;>cases nmB w.to_<;>rfl
  ·rw[if_neg h2,if_neg h2];by_cases h3:w.kind=3
   ·rw[if_pos h3,if_pos h3,z08 (by omega),zc8];cases nmB w.name<;>rfl
   ·rw[if_neg h3,if_neg h3]
def z0x (l:List File):List File:=l.map fun f=>⟨f.name,bs []⟩
def bareW (w:Write):Write:=⟨w.kind,w.name,w.to_,bs []⟩
theorem z7m (l:List File):(z0x l).length=l.length:=by unfold z0x;rw[List.length_map]
theorem zby (n:ByteArray)(l:List File):ltF n (z0x l)=z0x (ltF n l):=by
 unfold ltF z0x;rw[List.filter_map];rfl
theorem zbx (n:ByteArray)(l:List File):gtF n (z0x l)=z0x (gtF n l):=by
 unfold gtF z0x;rw[List.filter_map];rfl
theorem zf9 (n:ByteArray)(l:List File):delF n (z0x l)=z0x (delF n l):=by
 unfold delF;rw[zby,zbx];unfold z0x;rw[List.map_append]
theorem zam (f:File)(l:List File):z0x (putF f l)=putF ⟨f.name,bs []⟩ (z0x l):=by
 unfold putF;rw[zby,zbx];unfold z0x;rw[List.map_append];rfl
theorem zfa (n:ByteArray)(l:List File):hasF n (z0x l)=hasF n l:=by
 unfold hasF z0x;rw[List.any_map];rfl
theorem zfb (n:ByteArray)(l:List File):oldF n (z0x l)=bs []:=by
 unfold oldF z0x;cases h:(l.map fun f=>(⟨f.name,bs []⟩:File)).find? (fun f=>decide (cmpS f.name n=0))with
 |none=>rfl
 |some f=>
  have:=List.mem_of_find?_eq_some h;obtain⟨g,_,rfl⟩:=List.mem_map.1 this;rfl
theorem ze8 (l:List File)(w:Write):z0x (doneF l w)=doneF (z0x l) (bareW w):=by
 unfold doneF bareW;rw[zfb,zfa,zf9];by_cases h1:w.kind=1
 ·rw[if_pos h1,if_pos h1,zam];rfl
 ·rw[if_neg h1,if_neg h1];by_cases h2:w.kind=2∧hasF w.name l=true
  ·rw[if_pos h2,if_pos h2,zam]
  ·rw[if_neg h2,if_neg h2]
theorem z8q: ∀(ws:List Write) (l:List File),z0x (ws.foldl doneF l)=(ws.map bareW).foldl doneF (z0x l)
 |[],l=>rfl
 |w::ws,l=>by rw[List.foldl_cons,z8q ws,ze8];rfl
theorem zbw {l:List File}(h:SF l):SF (z0x l):=by
 unfold SF z0x;rw[List.pairwise_map];exact h
theorem zg7 (l:List File):szF (z0x l)=0:=by
 unfold szF z0x;induction l with
 |nil=>rfl
 |cons f l ih=>simp only[List.map_cons,List.sum_cons,ih];rfl
end Go.Av
namespace Go.Av
open Go
theorem    zi3 {l : List File} : SF l ↔ ∀ j, j < l.length → j = 0 ∨ cmpS (l.getD (j - 1)     zzd).name (l.getD j     zzd).name < 0 := by
  constructor
  · intro h j hj
    by_cases h0 : j = 0
    · exact .inl h0
    · right
      have := List.pairwise_iff_getElem.1 h (j - 1) j (by omega) hj (by omega)
      simpa [List.getD_eq_getElem?_getD, List.getElem?_eq_getElem hj, List.getElem?_eq_getElem (show j - 1 < l.length by omega)] using this
  · intro h
    have key : ∀ d i, i + (d + 1) < l.length → cmpS (l.getD i     zzd).name (l.getD (i + (d + 1))     zzd).name < 0 := by
      intro d
      induction d with
      | zero => intro i hi
                rcases h (i + 1) hi with h1 | h1
                · omega
                · exact h1
      | succ d ih => intro i hi
                     have h1 := ih i (by omega)
                     rcases h (i + (d + 1) + 1) hi with h2 | h2
                     · omega
                     · exact     z1d.lt_tr h1 (by
                         have e : i + (d + 1) + 1 - 1 = i + (d + 1) := by omega
                         rw [e] at h2
                         exact Int.le_of_lt h2)
    refine List.pairwise_iff_getElem.2 fun i j hi hj hij => ?_
    have := key (j - i - 1) i (by omega)
    rw [show i + (j - i - 1 + 1) = j by omega] at this
    simpa [List.getD_eq_getElem?_getD, List.getElem?_eq_getElem hj, List.getElem?_eq_getElem hi] using this
def goodF (l:List File)(j:Nat):Prop:=nmB (l.getD j zzd).name=true∧(j=0∨cmpS (l.getD (j-1) zzd).name (l.getD j zzd).name<0)
theorem zgq {l:List File}:(∀j,j<l.length→goodF l j)↔((∀f∈l,nmB f.name=true)∧SF l):=by
 rw[zi3];constructor
 ·intro h;refine⟨fun f hf=>?_,fun j hj=>(h j hj).2⟩;obtain⟨i,hi,rfl⟩:=List.mem_iff_getElem.1 hf;have:=(h i hi).1
  simpa [List.getD_eq_getElem?_getD,List.getElem?_eq_getElem hi]using this
 ·exact fun h j hj=>⟨h.1 _ (z47 hj),h.2 j hj⟩
def chkP (d:Disk):Prop:=
 d.files.length≤256∧d.waits.length≤4096∧0≤d.room∧(∀f∈d.files,nmB f.name=true)∧SF d.files∧(∀w∈d.waits,z2w w=true)∧ ∀k,k≤d.waits.length→((d.waits.take k).foldl doneF d.files).length≤256
theorem ze9 {l:List File}(hl:l.length≤256){s:List File}(hs:s=[]):z0q (S:=List File) (R:=Empty) (fun i2 (a3:List File)=>need (a3.length+([(⟨(l.getD i2 zzd).name,(bs [])⟩:File)]:List File).length≤274877906944)<|some (.next (a3++([(⟨(l.getD i2 zzd).name,(bs [])⟩:File)]:List File)))) l.length 0 s=some (.done (z0x l)):=by
 subst hs;refine z6p (z0x l) (fun i a=>a=z0x (l.take i)) (fun s h=>by rw[h,List.take_length]) (fun i s hi h=>⟨s++[⟨(l.getD i zzd).name,bs []⟩],?_,?_⟩) (by simp[z0x])
 ·rw[z08];subst h;rw[z7m,zzh];simp only[List.length_cons,List.length_nil];omega
 ·rw[z1u hi,h];unfold z0x;rw[List.map_append];rfl
theorem z82 {ws:List Write}{l:List File}{k:Nat}:(((ws.map bareW).take k).foldl doneF (z0x l)).length=((ws.take k).foldl doneF l).length:=by
 rw[←List.map_take,←z8q,z7m]
theorem z98: ∀(ws:List Write) {l:List File},SF l→SF (ws.foldl doneF l)
 |[],l,h=>h
 |w::ws,l,h=>z98 ws (z9t h)
theorem z99: ∀(ws:List Write) {l:List File},l.length+ws.length≤4000000→SF l→szF (ws.foldl doneF l)≤szF l+szW ws
 |[],l,_,_=>zzc _
 |w::ws,l,hn,h=>by
  rw[List.length_cons]at hn;have h2:=z8g l w
  have h1:=z99 ws (l:=doneF l w) (by omega) (z9t h);have h3:=zb4 w (show l.length≤4000000 by omega) h
  rw[List.foldl_cons];have:szW (w::ws)=w.data.size+szW ws:=by unfold szW;simp
  omega
theorem zds: ∀ws:List Write,szW (ws.map bareW)=0
 |[]=>rfl
 |w::ws=>by
  have:=zds ws;unfold szW at this ⊢;rw[List.map_cons,List.map_cons,List.sum_cons,this];rfl
theorem        zf6 {l : List File} {ws : List Write} {G : Write → List File → Option (List File)} (hG : ∀ w ∈ ws, ∀ a : List File, a.length ≤ 256 → SF a → szF a = 0 → G (bareW w) a = some (doneF a (bareW w))) (hl : l.length ≤ 256) (hs : SF l) (hw : ws.length ≤ 4096) {S R : Type} {c : R} :
    ((∀ k, k ≤ ws.length → ((ws.take k).foldl doneF l).length ≤ 256) ∧ ∃ a,    z0q (R := R) (fun i (a : List File) => (G (⟨(ws.getD i     zzd).kind, (ws.getD i     zzd).name, (ws.getD i     zzd).to_, bs []⟩ : Write) a).bind fun r => bf (decide (256 < (r.length : Int))) (some (.ret c)) (some (.next r))) ws.length 0 (   z0x l) = some (.done a)) ∨
    ((¬ ∀ k, k ≤ ws.length → ((ws.take k).foldl doneF l).length ≤ 256) ∧    z0q (R := R) (fun i (a : List File) => (G (⟨(ws.getD i     zzd).kind, (ws.getD i     zzd).name, (ws.getD i     zzd).to_, bs []⟩ : Write) a).bind fun r => bf (decide (256 < (r.length : Int))) (some (.ret c)) (some (.next r))) ws.length 0 (   z0x l) = some (.ret c)) := by
  have key :=         z5n (B := fun i (a : List File) => (G (⟨(ws.getD i     zzd).kind, (ws.getD i     zzd).name, (ws.getD i     zzd).to_, bs []⟩ : Write) a).bind fun r => bf (decide (256 < (r.length : Int))) (some (.ret c)) (some (.next r))) (n := ws.length) (s :=    z0x l)
    (fun i a => a = ((ws.map bareW).take i).foldl doneF (   z0x l) ∧ ∀ k, k ≤ i → ((ws.take k).foldl doneF l).length ≤ 256) (fun a => ∀ k, k ≤ ws.length → ((ws.take k).foldl doneF l).length ≤ 256) (fun r => r = c ∧ ¬ ∀ k, k ≤ ws.length → ((ws.take k).foldl doneF l).length ≤ 256)
    ⟨by simp, fun k hk => by have : k = 0 := by omega
                             subst this; exact hl⟩
    (fun i a hi ⟨h1, h2⟩ => ?_) (fun a h => h.2)
  · rcases key with ⟨a, h1, h2⟩ | ⟨r, h1, h2, h3⟩
    · exact .inl ⟨h2, a, h1⟩
    · subst h2; exact .inr ⟨h3, h1⟩
  · have hm :=       z47 (l := ws) hi
    have hal : a.length ≤ 256 := by rw [h1,           z82]; exact h2 i (        zzc _)
    have haS : SF a := by rw [h1]; exact     z98 _ (      zbw hs)
    have hsz : szF a = 0 := by
      have :=     z99 ((ws.map bareW).take i) (l :=    z0x l) (by rw [       z7m,              zzh]; omega) (      zbw hs)
      rw [      zg7] at this
      have h5 : szW ((ws.map bareW).take i) = 0 := by rw [← List.map_take]; exact      zds _
      rw [← h1] at this; omega
    have e := hG _ hm a hal haS hsz
    unfold bareW at e
    have hn : doneF a (bareW (ws.getD i     zzd)) = ((ws.map bareW).take (i + 1)).foldl doneF (   z0x l) := by
      rw [← List.map_take,            z1u hi, List.map_append, List.foldl_append, List.map_take, ← h1]; rfl
    have hnl : (doneF a (bareW (ws.getD i     zzd))).length = ((ws.take (i + 1)).foldl doneF l).length := by rw [hn,           z82]
    simp only [e,              zz3,       z1h]
    by_cases hc : 256 < ((ws.take (i + 1)).foldl doneF l).length
    · right; right
      refine ⟨c, ?_, rfl, fun h => ?_⟩
      · rw [if_pos]
        have := hnl; unfold bareW at this; omega
      · have := h (i + 1) (by omega); omega
    · left
      refine ⟨doneF a (bareW (ws.getD i     zzd)), by rw [if_neg (by have := hnl; unfold bareW at this; omega)]; rfl, hn, fun k hk => ?_⟩
      rcases Nat.lt_or_ge k (i + 1) with h3 | h3
      · exact h2 k (by omega)
      · have : k = i + 1 := by omega
        subst this; omega
end Go.Av
namespace Go.Av
open Go
theorem zgz {X:Type}(l:List X)(n:Nat):Av.sub l 0 (n:Int)=l.take n:=by unfold Av.sub;simp
theorem lt_lt {n:ByteArray}{l:List File}: ∀f∈ltF n l,cmpS f.name n<0:=fun f h=>of_decide_eq_true (List.mem_filter.1 h).2
end Go.Av
namespace Go.Av
open Go
theorem zhp {Q:Type}(j:Bool→Option Q)(A B c:Bool):jn j (fun j2=>bf A (bf B (j2 c) (j2 false)) (j2 false))=j (A && (B && c)):=by cases A<;>cases B<;>rfl
theorem zcw {fuel:Nat}{w:Write}{l:List File}(hf:20000000≤fuel)(hn:l.length≤1000000)(hz:szF l+w.data.size≤4611686018427387904)(hs:SF l):z0r fuel [w] l=some (doneF l w):=
 (do_ok (ws:=[w]) hf (by simp only[List.length_cons,List.length_nil];omega) (by unfold szW;simpa using hz) hs).1
theorem zf7 {fuel:Nat}{d:Disk}(hf:20000000≤fuel)(hl:d.files.length≤256)(hw:d.waits.length≤4096)(hs:SF d.files):
 ((∀k,k≤d.waits.length→((d.waits.take k).foldl doneF d.files).length≤256)∧z3p fuel d=some false)∨((¬ ∀k,k≤d.waits.length→((d.waits.take k).foldl doneF d.files).length≤256)∧z3p fuel d=some true):=by
 unfold z3p;rw[z08 (by unfold lim;omega),ze9 hl (s:=zza 0 ⟨bs [],bs []⟩) rfl,z3y];rcases zf6 (ws:=d.waits) (l:=d.files) (R:=Bool) (S:=Unit) (c:=true) (G:=fun w a=>z0r fuel [w] a) (fun w _ a ha hs hz=>zcw hf (by omega) (by rw[hz];show 0+0≤_;omega) hs) hl hs hw with⟨h1,a,h2⟩|⟨h1,h2⟩
 ·exact .inl ⟨h1,by rw[h2];rfl⟩
 ·exact .inr ⟨h1,by rw[h2];rfl⟩
theorem ze3 {l:List Write}(h: ∀w∈l,w.to_.size+w.data.size≤9223372036854775807):z0d l=some (!(l.all z2w)):=by
 unfold z0d z0h z51;rcases zdi (S:=Unit) (R:=Int) (s:=()) (l:=l) (B:=fun i1 (a2:Unit)=>((z40 (l.getD i1 zzd)).bind fun r1=>some (!r1)).bind fun r4=>bf r4 (some (.ret ((i1:Nat):Int))) (some (.next ()))) (fun w=> !z2w w) (fun i=>(i:Int)) (fun i hi=>by
  rw[zdp (h _ (z47 hi))];cases z2w (l.getD i zzd)<;>rfl)with⟨h1,h2⟩|⟨h1,i,_,_,_,h2⟩
 ·rw[h2];have:l.all z2w=true:=by
   rw[List.all_eq_true];intro x hx;have:=List.any_eq_false.1 h1 x hx
   simpa using this
  rw[this];rfl
 ·rw[h2];have:l.all z2w=false:=by
   obtain⟨x,hx,hp⟩:=List.any_eq_true.1 h1;rw[List.all_eq_false];exact⟨x,hx,by simpa using hp⟩
  rw[this];simp
theorem zft (l:List File)(hl:l.length≤4000000)(b:Bool):
 ∃c:Bool,z0q (S:=Bool) (R:=Empty) (fun i3 (a4:Bool)=>bf a4 ((z2b ([(l.getD i3 zzd).name]:List ByteArray)).bind fun r11=>bf r11 (bf (decide (((i3:Nat):Int)=0)) (some (.next true)) (need ((0:Int)≤(zzi.wrap (((i3:Nat):Int)-1))∧(zzi.wrap (((i3:Nat):Int)-1))<(l.length:Int))<|some (.next (strLt ((l.getD ((zzi.wrap (((i3:Nat):Int)-1)).toNat) zzd).name) ((l.getD i3 zzd).name))))) (some (.next false))) (some (.next false))) l.length 0 b=some (.done c)∧(c=true↔b=true∧ ∀j,j<l.length→goodF l j):=by
 refine z7s (fun i (c:Bool)=>c=true↔b=true∧ ∀j,j<i→goodF l j) (by simp) fun i c hi hc=>?_;have ext:(∀j,j<i+1→goodF l j)↔(∀j,j<i→goodF l j)∧goodF l i:=⟨fun h=>⟨fun j hj=>h j (by omega),h i (by omega)⟩,fun h j hj=>by
  rcases Nat.lt_or_ge j i with h1|h1
  ·exact h.1 j h1
  ·have:j=i:=by omega
   subst this;exact h.2⟩
 rw[ext];cases c with
 |false=>
  refine⟨false,rfl,⟨fun h=>by(cases h),fun h=>?_⟩⟩;have:=hc.2 ⟨h.1,h.2.1⟩
  cases this
 |true=>
  obtain⟨h1,h2⟩:=hc.1 rfl;rw[z1a,zd9,zz3,zda];cases hn:nmB (l.getD i zzd).name with
  |false=>
   refine⟨false,rfl,⟨fun h=>by(cases h),fun h=>?_⟩⟩;have:=h.2.2.1
   rw[hn]at this;cases this
  |true=>
   rw[z1a];by_cases h0:i=0
   ·subst h0;exact⟨true,rfl,⟨fun _=>⟨h1,h2,hn,.inl rfl⟩,fun _=>rfl⟩⟩
   ·have e:zzi.wrap ((i:Int)-1)=((i-1:Nat):Int):=by rw[z0w (by omega) (by omega)];omega
    rw[decide_eq_false (by omega),z0l,e,z08 (by omega),zz9,zc1];refine⟨_,rfl,?_⟩;rw[decide_eq_true_eq];refine⟨fun h=>⟨h1,h2,hn,.inr h⟩,fun h=>?_⟩;rcases h.2.2.2 with h3|h3
    ·exact absurd h3 h0
    ·exact h3
theorem zhg {fuel:Nat}{d:Disk}(hf:20000000≤fuel)(hn:d.files.length≤4000000)(hw: ∀w∈d.waits,w.to_.size+w.data.size≤9223372036854775807):(chkP d∧z2p fuel d=some 0)∨(¬chkP d∧z2p fuel d=some 8):=by
 unfold z2p;rw[zhp];obtain⟨c,h1,h2⟩:=zft d.files hn (decide ((d.files.length:Int)≤256) && (decide ((d.waits.length:Int)≤4096) && decide (0≤d.room)));rw[h1,z3y,jn_eq];simp only[Bool.and_eq_true,decide_eq_true_eq,zgq]at h2;cases c with
 |false=>
  right;refine⟨fun h=>?_,rfl⟩;unfold chkP at h;have:=h2.2 ⟨⟨by omega,by omega,h.2.2.1⟩,h.2.2.2.1,h.2.2.2.2.1⟩
  cases this
 |true=>
  obtain⟨⟨h3,h4,h5⟩,h6,h7⟩:=h2.1 rfl;rw[Bool.not_true,z0l,ze3 hw,zz3];cases hr:d.waits.all z2w with
  |false=>
   right;refine⟨fun h=>?_,rfl⟩;have:=List.all_eq_true.2 h.2.2.2.2.2.1
   rw[hr]at this;cases this
  |true=>
   rw[Bool.not_true,z0l];rcases zf7 hf (d:=d) (by omega) (by omega) h7 with⟨h8,h9⟩|⟨h8,h9⟩
   ·left;exact⟨⟨by omega,by omega,h5,h6,h7,List.all_eq_true.1 hr,h8⟩,by rw[h9];rfl⟩
   ·right;exact⟨fun h=>h8 h.2.2.2.2.2.2,by rw[h9];rfl⟩
end Go.Av
namespace Go.Av
open Go
theorem zi8:z2c=z0r:=rfl
theorem zdg {fuel:Nat}{l:List File}{n:ByteArray}(hf:20000000≤fuel)(hn:l.length≤4000000)(hs:SF l):
 ∃k:Nat,z0g fuel l n=some ((k:Int),hasF n l)∧(hasF n l=true→k<l.length∧(l.getD k zzd).data=oldF n l):=by
 obtain⟨k,b,h1,h2,h3,h4⟩:=z5m (n:=n) hf hn hs;obtain⟨f,g1,g2⟩:=zbd (n:=n) hf hn hs;unfold z0s at g1;rw[h1]at g1;rcases h4 with⟨rfl,h5,h6⟩|⟨rfl,h5,h8,h6,h7⟩
 ·have hh:hasF n l=false:=by
   unfold hasF;rw[List.any_eq_false];intro g hg;rw[decide_eq_true_eq];exact h6 g hg
  refine⟨k,by rw[h1,hh],fun h=>?_⟩;rw[hh]at h;cases h
 ·simp only[zz3,Bool.not_true,z0l]at g1;rw[z08 (by omega),z08 (by simp only[zz9];omega)]at g1;cases hd:z1f (k:Int) (zzi.wrap ((k:Int)+1)) l with
  |none=>rw[hd]at g1;cases g1
  |some r=>
   rw[hd]at g1;simp only[zz3,zz9,zze]at g1;injection g1 with g1;have e:l.getD k zzd=f:=congrArg Prod.fst g1
   have e2:true=hasF n l:=congrArg (fun q=>q.2.1) g1;exact⟨k,by rw[h1,←e2],fun _=>⟨h5,by rw[e,g2]⟩⟩
def seenF (d:Disk):List File:=d.waits.foldl doneF d.files
def rdF (l:List File)(n:ByteArray):ByteArray×Int:=if hasF n l=true then(oldF n l,0)else(bs [],5)
def smP (B:Nat)(d:Disk):Prop:=d.files.length≤4000000∧(∀w∈d.waits,w.to_.size+w.data.size≤9223372036854775807)∧szF d.files+szW d.waits≤B∧d.room<9223372036854775808
theorem zdq {d:Disk}(h:chkP d):(seenF d).length≤256:=by
 have:=h.2.2.2.2.2.2 d.waits.length (zzc _);rwa[List.take_length]at this
theorem zet {d:Disk}(h:chkP d):SF (seenF d):=z98 _ h.2.2.2.2.1
theorem zhu {d:Disk}{B:Nat}(h:chkP d)(hs:smP B d):szF (seenF d)≤B:=by
 have h1:=h.1;have h2:=h.2.1
 have:=z99 d.waits (l:=d.files) (by omega) h.2.2.2.2.1;have:=hs.2.2.1
 unfold seenF;omega
theorem z6g {fuel:Nat}{d:Disk}{B:Nat}(hf:20000000≤fuel)(hs:smP B d)(h:chkP d):z2p fuel d=some 0:=by
 rcases zhg hf hs.1 hs.2.1 with⟨_,h2⟩|⟨h1,_⟩
 ·exact h2
 ·exact absurd h h1
section
variable {fuel B:Nat} {d:Disk} (hf:20000000≤fuel) (hB:B≤4611686018427387904)
include hf hB
theorem zbb (hs:smP B d)(hc:chkP d):z46 fuel d=some ⟨seenF d,d⟩:=by
 have h1:=hc.1;have h2:=hc.2.1
 have h3:=hs.2.2.1;unfold z46 z0a z0t;rw[z08 (by omega),z08 (by omega),zi8];simp only[zz3];rw[z08 (by omega),zz3,(do_ok hf (by omega) (by omega) hc.2.2.2.2.1).1];rfl
theorem zi4 (hs:smP B d)(hc:chkP d):z68 fuel d=some (if d.down=true then([],7)else(seenF d,0)):=by
 unfold z68;rw[z6g hf hs hc,zbb hf hB hs hc];cases d.down<;>rfl
theorem zh8 (hs:smP B d)(hc:chkP d)(n:ByteArray):z45 fuel d n=some (if d.down=true then(bs [],7)else rdF (seenF d) n):=by
 unfold z45;rw[zi4 hf hB hs hc];cases hd:d.down with
 |true=>rfl
 |false=>
  simp only[zz3,Bool.false_eq_true,if_false];have hl:=zdq hc
  obtain⟨k,h1,h2⟩:=zdg (n:=n) hf (show(seenF d).length≤4000000 by omega) (zet hc);rw[h1];unfold rdF;cases hh:hasF n (seenF d)with
  |false=>rfl
  |true=>
   obtain⟨h3,h4⟩:=h2 hh;simp only[zz3,decide_true,Bool.not_true,z0l,if_true];rw[z08 (by omega),zz9,h4]
end
end Go.Av
namespace Go.Av
open Go
theorem zfl {l:List File}{room:Int}(h0:0≤room)(h1:room<9223372036854775808)(hz:szF l≤4611686018427387904):
 z1o l room=some (decide (room<(szF l:Int))||decide (256<l.length)):=by
 unfold z1o;have pre: ∀i,i<l.length→szF (l.take (i+1))=szF (l.take i)+(l.getD i zzd).data.size:=fun i hi=>by
  unfold szF;rw[z1u hi,List.map_append,List.sum_append];simp
 have all: ∀i,szF (l.take i)≤szF l:=fun i=>by
  conv=>rhs;rw[←List.take_append_drop i l,z9d]
  omega
 have key:=z5n (S:=Int) (R:=Bool) (B:=fun i1 (a2:Int)=>bf (decide ((zzi.wrap (a2-(((l.getD i1 zzd).data).size:Int)))<0)) (some (.ret true)) (some (.next (zzi.wrap (a2-(((l.getD i1 zzd).data).size:Int)))))) (n:=l.length)
  (fun i a=>a=room-(szF (l.take i):Int)∧0≤a) (fun a=> ¬room<(szF l:Int)) (fun r=>r=true∧room<(szF l:Int)) (s:=room) ⟨by simp[szF],h0⟩
  (fun i a hi ⟨h2,h3⟩=>by
   have hp:=pre i hi;have ha:=all (i+1)
   have e:zzi.wrap (a-(((l.getD i zzd).data).size:Int))=a-(((l.getD i zzd).data).size:Int):=by
    rcases Int.lt_or_le (a-(((l.getD i zzd).data).size:Int)) 0 with h|h
    ·exact zed ⟨by omega,by omega⟩
    ·exact z0w h (by omega)
   rw[e];by_cases hc:a-(((l.getD i zzd).data).size:Int)<0
   ·right;right;exact⟨true,by rw[decide_eq_true hc];rfl,rfl,by omega⟩
   ·left;exact⟨_,by rw[decide_eq_false hc];rfl,by omega,by omega⟩)
  (fun a ⟨h2,h3⟩=>by rw[List.take_length]at h2;omega)
 rcases key with⟨a,h2,h3⟩|⟨r,h2,rfl,h3⟩
 ·rw[h2,z3y,decide_eq_false h3,Bool.false_or];congr 1;have e:(256<(l.length:Int))↔256<l.length:=by omega
  simp only[e]
 ·rw[h2,zdd,decide_eq_true h3];rfl
def burnD (n:Int):Int:=if 0<n then zzi.wrap (n-1)else n
def oneF (d:Disk)(w:Write):Disk×Int:=
 if d.down=true then(d,7)else if z2w w=false then(d,4)else if hasF w.name (seenF d)=false∧w.kind≠1 then(d,5)else
 if 4096≤d.waits.length∨d.room<(szF (doneF (seenF d) w):Int)∨256<(doneF (seenF d) w).length then(d,9)else
 if d.fuse=0 then(⟨d.files,if w.kind=1 then d.waits++[w]else d.waits,d.room,true,d.fuse⟩,7)else(⟨d.files,d.waits++[w],d.room,false,burnD d.fuse⟩,0)
def doF (d:Disk):List Write→Disk×Int
 |[]=>(d,0)
 |w::l=>if(oneF d w).2=0 then doF (oneF d w).1 l else oneF d w
theorem z6a (d:Disk)(w:Write)(l:List Write):doF d (w::l)=if(oneF d w).2=0 then doF (oneF d w).1 l else oneF d w:=rfl
theorem z7d (a b:List Write): ∀d,doF d (a++b)=if(doF d a).2=0 then doF (doF d a).1 b else doF d a:=by
 induction a with
 |nil=>intro d;rfl
 |cons w a ih=>
  intro d;rw[List.cons_append,z6a,z6a];by_cases h:(oneF d w).2=0
  ·rw[if_pos h,if_pos h];exact ih _
  ·rw[if_neg h,if_neg h,if_neg h]
theorem z7q (d:Disk)(w:Write):(oneF d w).1.files=d.files:=by
 unfold oneF;repeat' (first|rfl|split)
theorem z8r (d:Disk)(w:Write):(oneF d w).1.room=d.room:=by
 unfold oneF;repeat' (first|rfl|split)
theorem zap (d:Disk)(w:Write):(oneF d w).1.waits=d.waits∨((oneF d w).1.waits=d.waits++[w]∧d.down=false∧z2w w=true∧d.waits.length<4096∧(szF (doneF (seenF d) w):Int)≤d.room∧(doneF (seenF d) w).length≤256):=by
 unfold oneF;by_cases h1:d.down=true
 ·rw[if_pos h1];exact .inl rfl
 ·rw[if_neg h1];by_cases h2:z2w w=false
  ·rw[if_pos h2];exact .inl rfl
  ·rw[if_neg h2];by_cases h3:hasF w.name (seenF d)=false∧w.kind≠1
   ·rw[if_pos h3];exact .inl rfl
   ·rw[if_neg h3];by_cases h4:4096≤d.waits.length∨d.room<(szF (doneF (seenF d) w):Int)∨256<(doneF (seenF d) w).length
    ·rw[if_pos h4];exact .inl rfl
    ·rw[if_neg h4];have h5:d.down=false∧z2w w=true∧d.waits.length<4096∧(szF (doneF (seenF d) w):Int)≤d.room∧(doneF (seenF d) w).length≤256:=⟨by simpa using h1,by simpa using h2,by omega,by omega,by omega⟩;by_cases h6:d.fuse=0
     ·rw[if_pos h6];by_cases h7:w.kind=1
      ·rw[if_pos h7];exact .inr ⟨rfl,h5⟩
      ·rw[if_neg h7];exact .inl rfl
     ·rw[if_neg h6];exact .inr ⟨rfl,h5⟩
theorem zc0 {d:Disk}{w:Write}{fs:List File}{ws:List Write}{r:Int}{b:Bool}{f:Int}(hf:fs=d.files)(hw:ws=d.waits++[w]):seenF ⟨fs,ws,r,b,f⟩=doneF (seenF d) w:=by
 subst hf;subst hw;unfold seenF;rw[List.foldl_append];rfl
theorem zgj {d e:Disk}{w:Write}(hc:chkP d)(hf:e.files=d.files)(hr:e.room=d.room)(hw:e.waits=d.waits++[w])(h1:z2w w=true)(h2:d.waits.length<4096)(h3:(doneF (seenF d) w).length≤256):chkP e:=by
 unfold chkP;rw[hf,hr,hw];refine⟨hc.1,by rw[zz6];simp only[List.length_cons,List.length_nil];omega,hc.2.2.1,hc.2.2.2.1,hc.2.2.2.2.1,fun x hx=>?_,fun k hk=>?_⟩
 ·rcases List.mem_append.1 hx with hx|hx
  ·exact hc.2.2.2.2.2.1 x hx
  ·rw[zzg.1 hx];exact h1
 ·rw[zz6]at hk;simp only[List.length_cons,List.length_nil]at hk;by_cases h:k≤d.waits.length
  ·rw[List.take_append_of_le_length h];exact hc.2.2.2.2.2.2 k h
  ·rw[List.take_of_length_le (by rw[zz6];simp only[List.length_cons,List.length_nil];omega),List.foldl_append];exact h3
theorem zgi {d e:Disk}(hc:chkP d)(hf:e.files=d.files)(hr:e.room=d.room)(hw:e.waits=d.waits):chkP e:=by
 unfold chkP at hc ⊢;rw[hf,hr,hw];exact hc
theorem zdc {d:Disk}(hc:chkP d)(w:Write):chkP (oneF d w).1:=by
 rcases zap d w with h|⟨h,_,h1,h2,_,h3⟩
 ·exact zgi hc (z7q d w) (z8r d w) h
 ·exact zgj hc (z7q d w) (z8r d w) h h1 h2 h3
theorem zeo {d:Disk}{w:Write}{B C:Nat}(hs:smP B d)(hC:B+w.data.size≤C)(hw:w.to_.size+w.data.size≤9223372036854775807):smP C (oneF d w).1:=by
 unfold smP;rw[z7q,z8r];have:=hs.2.2.1
 rcases zap d w with h|⟨h,_⟩<;>rw[h]
 ·exact⟨hs.1,hs.2.1,by omega,hs.2.2.2⟩
 ·refine⟨hs.1,fun x hx=>?_,?_,hs.2.2.2⟩
  ·rcases List.mem_append.1 hx with hx|hx
   ·exact hs.2.1 x hx
   ·rw[zzg.1 hx];exact hw
  ·have:szW (d.waits++[w])=szW d.waits+w.data.size:=by unfold szW;simp
   omega
theorem zh0 (w:Write)(l:List Write):szW (w::l)=w.data.size+szW l:=by unfold szW;simp
theorem zel: ∀(l:List Write) {d:Disk},chkP d→chkP (doF d l).1
 |[],d,h=>h
 |w::l,d,h=>by
  unfold doF;split
  ·exact zel l (zdc h w)
  ·exact zdc h w
theorem zfq: ∀(l:List Write) {d:Disk} {B C:Nat},smP B d→B+szW l≤C→(∀w∈l,w.to_.size+w.data.size≤9223372036854775807)→smP C (doF d l).1
 |[],d,B,C,h,hC,_=>⟨h.1,h.2.1,by have:=h.2.2.1;show szF d.files+szW d.waits≤C;omega,h.2.2.2⟩
 |w::l,d,B,C,h,hC,hw=>by
  rw[zh0]at hC;have hw0:=hw w (zz7 ..)
  unfold doF;split
  ·exact zfq l (zeo h (zzc _) hw0) (by omega) (fun x hx=>hw x (zz8 _ hx))
  ·exact zeo h (by omega) hw0
theorem jn_x {Q:Type}{b c:Bool}(j:Bool→Option Q)(h:b=true→c=false):jn j (fun j4=>bf b (j4 c) (j4 false))=j false:=by
 cases b with
 |false=>rfl
 |true=>rw[h rfl];rfl
theorem jn_z {Q:Type}{b c:Bool}(j:Bool→Option Q):jn j (fun j8=>bf b (j8 true) ((some c).bind fun r=>j8 r))=j (b||c):=by cases b<;>rfl
theorem zh5 {fuel:Nat}{d:Disk}{w:Write}{B:Nat}(hf:20000000≤fuel)(hB:B+w.data.size≤4611686018427387904)(hs:smP B d)(hc:chkP d)(hw:w.to_.size+w.data.size≤9223372036854775807):
 ∃k,z1b fuel w ⟨seenF d,d⟩=some ((oneF d w).2,k)∧k.disk=(oneF d w).1∧((oneF d w).2=0→k=⟨seenF (oneF d w).1,(oneF d w).1⟩):=by
 have hl:=zdq hc;have hS:=zet hc
 have hz:=zhu hc hs;have hdl:=z8g (seenF d) w
 have hdz:=zb4 w (show(seenF d).length≤4000000 by omega) hS;have hwl:=hc.2.1
 unfold z1b oneF;dsimp only;by_cases h1:d.down=true
 ·rw[h1,if_pos rfl];exact⟨_,rfl,rfl,fun h=>by cases h⟩
 ·rw[if_neg h1,(by simpa using h1:d.down=false),z0l,zdp hw,zz3];cases h2:z2w w with
  |false=>exact⟨_,rfl,rfl,fun h=>by cases h⟩
  |true=>
   rw[if_neg (by simp),Bool.not_true,z0l];obtain⟨k,p1,p2⟩:=zdg (n:=w.name) hf (show(seenF d).length≤4000000 by omega) hS;rw[p1,zz3];dsimp only;by_cases h3:hasF w.name (seenF d)=false∧w.kind≠1
   ·rw[if_pos h3,h3.1,jn_eq,Bool.not_false,z1a,decide_eq_false h3.2,Bool.not_false];exact⟨_,rfl,rfl,fun h=>by cases h⟩
   ·rw[if_neg h3];have hx:(!hasF w.name (seenF d))=true→(!decide (w.kind=1))=false:=fun hh=>by
     have:w.kind=1:=by
      rcases Classical.em (w.kind=1)with h|h
      ·exact h
      ·exact absurd ⟨by simpa using hh,h⟩ h3
     rw[decide_eq_true this];rfl
    rw[jn_x _ hx,z0l];unfold z3m;rw[z08 (by omega),zz3,zcw hf (by omega) (by omega) hS,zz3,zfl hc.2.2.1 hs.2.2.2 (by omega),jn_z];generalize hg:doneF (seenF d) w=nx at hdl hdz;by_cases h4:4096≤d.waits.length∨d.room<(szF nx:Int)∨256<nx.length
    ·rw[if_pos h4];have e4:(decide (4096≤(d.waits.length:Int))||(decide (d.room<(szF nx:Int))||decide (256<nx.length)))=true:=by
      simp only[Bool.or_eq_true,decide_eq_true_eq];omega
     rw[e4];exact⟨_,rfl,rfl,fun h=>by cases h⟩
    ·rw[if_neg h4];have e4:(decide (4096≤(d.waits.length:Int))||(decide (d.room<(szF nx:Int))||decide (256<nx.length)))=false:=by
      simp only[Bool.or_eq_false_iff,decide_eq_false_iff_not];omega
     rw[e4,z0l];unfold z1e;simp only[jn_eq,z1h];have hwl2:d.waits.length+[w].length≤274877906944:=by simp only[List.length_cons,List.length_nil];omega
     by_cases h6:d.fuse=0
     ·rw[if_pos h6,if_neg (by omega)];simp only[zz3,h6,decide_true,Bool.not_true,z0l];by_cases h7:w.kind=1
      ·rw[if_pos h7,z08 hwl2];exact⟨_,rfl,by rw[if_pos h7],fun h=>by cases h⟩
      ·rw[if_neg h7];exact⟨_,rfl,by rw[if_neg h7],fun h=>by cases h⟩
     ·rw[if_neg h6];have e6:decide (d.fuse=0)=false:=decide_eq_false h6;unfold burnD;by_cases h8:0<d.fuse
      ·rw[if_pos h8,if_pos h8];simp only[zz3,e6,Bool.not_false,z1a,Bool.not_true,z0l];rw[z08 hwl2];exact⟨_,rfl,rfl,fun _=>by rw[zc0 rfl rfl,hg]⟩
      ·rw[if_neg h8,if_neg h8];simp only[zz3,e6,Bool.not_false,z1a,Bool.not_true,z0l];rw[z08 hwl2];exact⟨_,rfl,rfl,fun _=>by rw[zc0 rfl rfl,hg]⟩
end Go.Av
namespace Go.Av
open Go
theorem zdt (l:List Write)(i:Nat):szW (l.take i)≤szW l:=by
 unfold szW
 conv=>rhs;rw[←List.take_append_drop i l,List.map_append,List.sum_append]
 omega
theorem z84 {l:List Write}{i:Nat}(hi:i<l.length):szW (l.take i)+(l.getD i zzd).data.size≤szW l:=by
 have h:=zdt l (i+1);rw[z1u hi]at h;have:szW (l.take i++[l.getD i zzd])=szW (l.take i)+(l.getD i zzd).data.size:=by unfold szW;simp
 omega
theorem Do_ok {fuel B:Nat}{d:Disk}{l:List Write}(hf:20000000≤fuel)(hB:B+szW l≤4611686018427387904)(hs:smP B d)(hc:chkP d)(hw: ∀w∈l,w.to_.size+w.data.size≤9223372036854775807):z4r fuel d l=some (doF d l):=by
 unfold z4r;rw[z6g hf hs hc,zz3,decide_eq_true rfl,Bool.not_true,z0l,zbb hf (by omega) hs hc,zz3];have key:=z5n (S:=Desk) (R:=Disk×Int) (B:=fun i3 (a4:Desk)=>(z1b fuel (l.getD i3 zzd) a4).bind fun r6=>bf (!decide (r6.1=0)) (some (.ret (r6.2.disk,r6.1))) (some (.next r6.2))) (n:=l.length) (s:=⟨seenF d,d⟩)
  (fun i k=>k=⟨seenF k.disk,k.disk⟩∧doF d (l.take i)=(k.disk,0)) (fun k=>doF d l=(k.disk,0)) (fun r=>r=doF d l) ⟨rfl,rfl⟩
  (fun i k hi ⟨h1,h2⟩=>by
   have hm:=z47 (l:=l) hi;have hz:=z84 hi
   have e:k.disk=(doF d (l.take i)).1:=by rw[h2]
   have hc2:chkP k.disk:=by rw[e];exact zel _ hc
   have hs2:smP (B+szW (l.take i)) k.disk:=by rw[e];exact zfq _ hs (zzc _) (fun w h=>hw w (List.mem_of_mem_take h))
   obtain⟨k2,g1,g2,g3⟩:=zh5 hf (by omega) hs2 hc2 (hw _ hm);rw[←h1]at g1;rw[g1,zz3];dsimp only;by_cases hz0:(oneF k.disk (l.getD i zzd)).2=0
   ·left;refine⟨k2,by rw[decide_eq_true hz0];rfl,?_,?_⟩
    ·rw[g2];exact g3 hz0
    ·rw[z1u hi,z7d,h2,if_pos rfl,z6a,if_pos hz0,g2];rfl
   ·right;right;refine⟨_,by rw[decide_eq_false hz0];rfl,?_⟩;have e2:doF d (l.take (i+1)++l.drop (i+1))=oneF k.disk (l.getD i zzd):=by
     rw[z7d,z1u hi,z7d,h2,if_pos rfl,z6a,if_neg hz0,if_neg hz0]
    rw[List.take_append_drop]at e2;rw[e2,g2])
  (fun k ⟨h1,h2⟩=>by rwa[List.take_length]at h2)
 rcases key with⟨k,h1,h2⟩|⟨r,h1,h2⟩
 ·rw[h1,z3y,h2]
 ·rw[h1,zdd,h2]
def syncF (d:Disk):Disk×Int:=if d.down=true∨d.fuse=0 then(⟨d.files,d.waits,d.room,true,d.fuse⟩,7)else(⟨seenF d,[],d.room,false,burnD d.fuse⟩,0)
theorem zh9 {fuel B:Nat}{d:Disk}(hf:20000000≤fuel)(hB:B≤4611686018427387904)(hs:smP B d)(hc:chkP d):z3v fuel d=some (syncF d):=by
 unfold z3v syncF;rw[z6g hf hs hc,zz3,decide_eq_true rfl,Bool.not_true,z0l,zbb hf hB hs hc,zz3,jn_eq];by_cases h1:d.down=true
 ·rw[if_pos (.inl h1),h1];obtain⟨a,b,c,e,f⟩:=d;cases h1;rfl
 ·rw[(by simpa using h1:d.down=false),z0l];unfold z1e;simp only[jn_eq,z1h];by_cases h2:d.fuse=0
  ·rw[if_pos (Or.inr h2:false=true∨d.fuse=0),if_neg (by omega: ¬0<d.fuse),h2];rfl
  ·rw[if_neg (by simp[h2]: ¬(false=true∨d.fuse=0))];have e6:decide (d.fuse=0)=false:=decide_eq_false h2;unfold burnD;by_cases h8:0<d.fuse
   ·rw[if_pos h8,if_pos h8];simp only[zz3,e6,Bool.not_false,Bool.not_true,z0l]
   ·rw[if_neg h8,if_neg h8];simp only[zz3,e6,Bool.not_false,Bool.not_true,z0l]
def tornW (w:Write)(t:Nat):Write:=⟨w.kind,w.name,w.to_,w.data.extract 0 t⟩
def keepN (d:Disk)(keep:Int):Nat:=if(d.waits.length:Int)<(if keep<0 then 0 else keep)then d.waits.length else(if keep<0 then 0 else keep).toNat
def tearN (w:Write)(tear:Int):Nat:=if(w.data.size:Int)<tear then w.data.size else tear.toNat
def crF (d:Disk)(keep tear:Int):List File:=
 if keepN d keep<d.waits.length∧0<tear∧(d.waits.getD (keepN d keep) zzd).kind=1 then doneF ((d.waits.take (keepN d keep)).foldl doneF d.files) (tornW (d.waits.getD (keepN d keep) zzd) (tearN (d.waits.getD (keepN d keep) zzd) tear))
 else(d.waits.take (keepN d keep)).foldl doneF d.files
theorem zd5 (d:Disk)(keep:Int):(if(d.waits.length:Int)<(if keep<0 then 0 else keep)then(d.waits.length:Int)else(if keep<0 then 0 else keep))=(keepN d keep:Int):=by
 unfold keepN;by_cases h:keep<0
 ·rw[if_pos h];split<;>omega
 ·rw[if_neg h];split<;>omega
theorem zd6 (d:Disk)(keep:Int):keepN d keep≤d.waits.length:=by
 have:=zd5 d keep;by_cases h:keep<0
 ·rw[if_pos h]at this;split at this<;>omega
 ·rw[if_neg h]at this;split at this<;>omega
theorem zh1 {w:Write}{tear:Int}(h:0<tear):(if(w.data.size:Int)<tear then(w.data.size:Int)else tear)=(tearN w tear:Int):=by
 unfold tearN;split<;>omega
theorem zdw {w:Write}{tear:Int}(h:0<tear):tearN w tear≤w.data.size:=by
 unfold tearN;split<;>omega
theorem zhz (w:Write)(t:Nat):(tornW w t).data.size≤w.data.size:=by
 unfold tornW;simp only[ByteArray.size_extract];omega
theorem zih {B:Nat}{d:Disk}(hs:smP B d)(hc:chkP d){k:Nat}(hk:k<d.waits.length):szF ((d.waits.take k).foldl doneF d.files)+(d.waits.getD k zzd).data.size≤B:=by
 have h1:=hc.1;have h2:=hc.2.1
 have h3:=hs.2.2.1;have:=z99 (d.waits.take k) (l:=d.files) (by rw[zzh];omega) hc.2.2.2.2.1
 have:=z84 hk;omega
theorem zgd {fuel B:Nat}{d:Disk}{keep tear:Int}(hf:20000000≤fuel)(hB:B≤4611686018427387904)(hs:smP B d)(hc:chkP d):z4b fuel d keep tear=some (⟨crF d keep tear,[],d.room,false,-1⟩,0):=by
 have h1:=hc.1;have h2:=hc.2.1
 have h3:=hs.2.2.1;have hkl:=zd6 d keep
 unfold z4b;rw[z6g hf hs hc,zz3,decide_eq_true rfl,Bool.not_true,z0l];unfold z0a;rw[z08 (by omega),zz3];simp only[zd5];have hdo:=(do_ok (ws:=d.waits.take (keepN d keep)) (l:=d.files) hf (by rw[zzh];omega) (by have:=zdt d.waits (keepN d keep);omega) hc.2.2.2.2.1).1
 rw[z08 (by omega),zgz,hdo,zz3];simp only[jn_eq,zz9];unfold crF;by_cases hk:keepN d keep<d.waits.length
 ·rw[decide_eq_true (by omega),z1a];by_cases ht:0<tear
  ·rw[decide_eq_true ht,z1a,z08 (by omega),zh1 ht];have htl:=zdw (w:=d.waits.getD (keepN d keep) zzd) ht;have hp:=zih hs hc hk
   have hts:=zhz (d.waits.getD (keepN d keep) zzd) (tearN (d.waits.getD (keepN d keep) zzd) tear);by_cases h5:(d.waits.getD (keepN d keep) zzd).kind=1
   ·rw[if_pos ⟨hk,ht,h5⟩,decide_eq_true h5,z1a,z08 (by omega),z08 (by omega),zz9];have:=zcw (fuel:=fuel) (w:=tornW (d.waits.getD (keepN d keep) zzd) (tearN (d.waits.getD (keepN d keep) zzd) tear)) (l:=(d.waits.take (keepN d keep)).foldl doneF d.files) hf (by have:=hc.2.2.2.2.2.2 _ hkl;omega) (by omega) (z98 _ hc.2.2.2.2.1);unfold tornW at this ⊢;rw[this];rfl
   ·rw[if_neg (fun h=>h5 h.2.2),decide_eq_false h5,z0l]
  ·rw[decide_eq_false ht,z0l,z0l,if_neg (fun h=>ht h.2.1)]
 ·rw[decide_eq_false (by omega),z0l,z0l,if_neg (fun h=>hk h.1)]
end Go.Av
namespace Go.Av
open Go
def fnd (n:ByteArray)(l:List File):Option File:=l.find? fun f=>decide (cmpS f.name n=0)
theorem zhn (n:ByteArray)(l:List File):hasF n l=(fnd n l).isSome:=by
 unfold hasF fnd;induction l with
 |nil=>rfl
 |cons f l ih=>
  rw[List.any_cons,List.find?_cons,ih];cases decide (cmpS f.name n=0)<;>rfl
theorem zd2 (f:File)(l:List File):fnd f.name (putF f l)=some f:=by
 unfold fnd putF;rw[List.find?_append,List.find?_eq_none.2 (fun g hg=>by have:=lt_lt g hg;rw[decide_eq_true_eq];omega),List.find?_cons,decide_eq_true (zbn.2 rfl)];rfl
def nmAll (l:List File):Prop:= ∀f∈l,nmB f.name=true
theorem zhc {l:List File}{r:Int}{b:Bool}{f:Int}(h1:l.length≤256)(h2:0≤r)(h3:nmAll l)(h4:SF l):chkP ⟨l,[],r,b,f⟩:=by
 refine⟨h1,Nat.zero_le _,h2,h3,h4,?_,?_⟩
 ·intro w hw;cases hw
 ·intro k hk;have:k=0:=Nat.le_zero.1 hk
  subst this;exact h1
theorem zik {B:Nat}{l:List File}{r:Int}{b:Bool}{f:Int}(h1:l.length≤4000000)(h2:szF l≤B)(h3:r<9223372036854775808):smP B ⟨l,[],r,b,f⟩:=by
 refine⟨h1,?_,h2,h3⟩;intro w hw;cases hw
theorem zhj (d:Disk)(w:Write):doF d [w]=oneF d w:=by
 rw[z6a];by_cases h:(oneF d w).2=0
 ·rw[if_pos h];exact Prod.ext rfl h.symm
 ·rw[if_neg h]
end Go.Av
namespace Go.Av
open Go
def crcT (c:Nat):Nat:=if c % 2=1 then(c / 2)^^^2197175160 else c / 2
theorem zej {c:Nat}(h:c<2^32):crcT c<2^32:=by
 unfold crcT;split
 ·exact Nat.xor_lt_two_pow (by omega) (by decide)
 ·omega
def iter {X:Type}(f:X→X):Nat→X→X
 |0,x=>x
 |n+1,x=>iter f n (f x)
def crcB (c b:Nat):Nat:=iter crcT 8 (c^^^b)
theorem zho {n:Nat}: ∀{c:Nat},c<2^32→iter crcT n c<2^32:=by
 induction n with
 |zero=>intro c h;exact h
 |succ n ih=>intro c h;exact ih (zej h)
theorem zhe {c b:Nat}(h:c<2^32)(hb:b<256):crcB c b<2^32:=zho (Nat.xor_lt_two_pow h (by omega))
def crcL (l:List UInt8):Nat:=l.foldl (fun c b=>crcB c b.toNat) 4294967295
def crcS (s:ByteArray):Nat:=4294967295-crcL s.data.toList
theorem zei: ∀(l:List UInt8) {c:Nat},c<2^32→l.foldl (fun c b=>crcB c b.toNat) c<2^32
 |[],c,h=>h
 |b::l,c,h=>zei l (zhe h (UInt8.toNat_lt b))
theorem zb3 (l:List UInt8):crcL l<2^32:=zei l (by decide)
def z0p (s:ByteArray)(i:Nat):Nat:=(s.data.toList.getD i 0).toNat
theorem z8c (s:ByteArray)(i:Nat):z0p s i<256:=UInt8.toNat_lt _
theorem zbm {s:ByteArray}{i:Nat}:bt s (i:Int)=(z0p s i:Int):=by
 unfold bt z0p;rw[zz9];have:s.data.getD i 0=s.data.toList.getD i 0:=by
  rw[Array.getD_eq_getD_getElem?,List.getD_eq_getElem?_getD,Array.getElem?_toList]
 rw[this]
theorem z2r (s:ByteArray):s.data.toList.length=s.size:=Array.length_toList
theorem zii {c b:Nat}(hc:c<2^32)(hb:b<256):z1i (b:Int) (c:Int)=some (crcB c b:Int):=by
 unfold z1i;have e0:IntKind.u32.wrap (b:Int)=(b:Int):=uwrap (k:= .u32) rfl (show b<2^32 by omega)
 rw[e0,z9e (k:= .u32) rfl hc (show b<2^32 by omega)];have hx:c^^^b<2^32:=Nat.xor_lt_two_pow hc (by omega);rw[z6p ((iter crcT 8 (c^^^b):Nat):Int) (fun i a=> ∃m:Nat,a=(m:Int)∧m<2^32∧iter crcT (8-i) m=iter crcT 8 (c^^^b)) (fun s ⟨m,h1,h2,h3⟩=>by rw[h1];exact_mod_cast h3)]
 ·rfl
 ·rintro i a hi ⟨m,rfl,hm,he⟩;have e1:shrOp .u32 (m:Int) 1=((m / 2:Nat):Int):=z5d .u32 m 1 (by decide)
  have e2:z0j .and .u32 (m:Int) 1=((m % 2:Nat):Int):=zgh (k:= .u32) rfl hm (by decide);have hstep:z0j .xor .u32 (shrOp .u32 (m:Int) 1) (z0j .and .u32 (2197175160:Int) (IntKind.u32.wrap (0-(z0j .and .u32 (m:Int) 1))))=((crcT m:Nat):Int):=by
   rw[e1,e2,zh4];unfold crcT;rcases Nat.mod_two_eq_zero_or_one m with h|h
   ·rw[h,if_neg (by decide)];have e3:(0-((0:Nat):Int)) % 4294967296=((0:Nat):Int):=by decide
    rw[e3];have:=zb1 (k:= .u32) rfl (x:=2197175160) (y:=0) (by decide) (by decide);rw[show((2197175160:Nat):Int)=2197175160 from rfl]at this;rw[this,Nat.and_zero,z9e (k:= .u32) rfl (show m / 2<2^32 by omega) (by decide),Nat.xor_zero]
   ·rw[h,if_pos rfl];have e3:(0-((1:Nat):Int)) % 4294967296=((4294967295:Nat):Int):=by decide
    rw[e3];have:=zb1 (k:= .u32) rfl (x:=2197175160) (y:=4294967295) (by decide) (by decide);rw[show((2197175160:Nat):Int)=2197175160 from rfl]at this;rw[this,show(2197175160:Nat) &&& 4294967295=2197175160 from by decide,z9e (k:= .u32) rfl (show m / 2<2^32 by omega) (by decide)]
  refine⟨_,rfl,crcT m,hstep,zej hm,?_⟩;rw[←he,show 8-i=(8-(i+1))+1 by omega];rfl
 ·exact⟨c^^^b,rfl,hx,rfl⟩
theorem zca {s:ByteArray}{i:Nat}(h:i<s.size):crcL (s.data.toList.take (i+1))=crcB (crcL (s.data.toList.take i)) (z0p s i):=by
 unfold crcL z0p;have hl:=z2r s
 rw[List.take_add_one,List.getElem?_eq_getElem (by omega),List.foldl_append];simp[List.getD_eq_getElem?_getD,List.getElem?_eq_getElem (show i<s.data.toList.length by omega)]
theorem zh6 {a:Nat}(h:a<2^32):(4294967295:Nat)^^^a=4294967295-a:=by
 have:=Nat.xor_comm 4294967295 a;rw[this];apply Nat.eq_of_testBit_eq;intro i;rw[Nat.testBit_xor,show(4294967295:Nat)=2^32-1 from rfl,Nat.testBit_two_pow_sub_one];have:2^32-1-a=2^32-(a+1):=by omega
 rw[this,Nat.testBit_two_pow_sub_succ h];by_cases hi:i<32
 ·simp[hi]
 ·have:a.testBit i=false:=Nat.testBit_lt_two_pow (Nat.lt_of_lt_of_le h (Nat.pow_le_pow_right (by decide) (by omega)));simp[hi,this]
theorem zff {s:ByteArray}(h:s.size≤maxN):z5b s=some ((crcS s:Nat):Int):=by
 unfold z5b;rw[z08 h];rw[z6p ((crcL s.data.toList:Nat):Int) (fun i a=>a=((crcL (s.data.toList.take i):Nat):Int)) (fun a h=>by rw[h,List.take_of_length_le (by rw[z2r];exact zzc _)])]
 ·simp only[z3y];have:=z9e (k:= .u32) rfl (x:=4294967295) (y:=crcL s.data.toList) (by decide) (zb3 _)
  rw[show((4294967295:Nat):Int)=4294967295 from rfl]at this;rw[this,zh6 (zb3 _)];rfl
 ·rintro i a hi rfl;refine⟨_,?_,rfl⟩;rw[zbm,zii (zb3 _) (z8c s i),zca hi];rfl
 ·rfl
end Go.Av
namespace Go.Av
open Go
theorem zhr: ∀x:Fin 256,∃l:Fin 9,bt z1l (x.val:Int)=(l.val:Int)∧x.val<2^l.val∧(x.val=0→l.val=0)∧(x.val≠0→2^(l.val-1)≤x.val∧0<l.val):=by decide+kernel
def IsLen (n L:Nat):Prop:=n<2^L∧(n=0→L=0)∧(n≠0→2^(L-1)≤n∧0<L)
theorem IsLen.shift {n L s:Nat}(h:IsLen (n / 2^s) L)(hn:2^s≤n):IsLen n (L+s):=by
 obtain⟨h1,h2,h3⟩:=h;have hp:0<2^s:=Nat.pow_pos (by decide)
 have hq:n / 2^s≠0:=Nat.ne_of_gt (Nat.div_pos hn hp);obtain⟨h4,h5⟩:=h3 hq;refine⟨?_,fun h=>by omega,fun _=>⟨?_,by omega⟩⟩
 ·rw[Nat.pow_add];exact(Nat.div_lt_iff_lt_mul hp).1 h1
 ·rw[show L+s-1=(L-1)+s by omega,Nat.pow_add];exact(Nat.le_div_iff_mul_le hp).1 h4
theorem zgr {n:Nat}(h:n<2^64): ∃L:Nat,z3f (n:Int)=some (L:Int)∧IsLen n L∧L≤64:=by
 have last: ∀(x b:Nat),x<256→b≤56→ ∃L:Nat,(need ((0:Int)≤(IntKind.u8.wrap (x:Int))∧(IntKind.u8.wrap (x:Int))<(z1l.size:Int))<|some (zzi.wrap ((b:Int)+(zzi.wrap (bt z1l (IntKind.u8.wrap (x:Int)))))))=some ((L+b:Nat):Int)∧IsLen x L∧L≤8:=fun x b hx hb=>by
  obtain⟨l,h1,h2,h3,h4⟩:=zhr ⟨x,hx⟩;have e:IntKind.u8.wrap (x:Int)=(x:Int):=uwrap (k:= .u8) rfl hx
  have hsz:z1l.size=256:=by decide+kernel
  rw[e,hsz,z08 (by omega),h1];have hl:=l.isLt;refine⟨l.val,?_,⟨h2,h3,h4⟩,by omega⟩;rw[z0w (n:=(l.val:Int)) (by omega) (by omega),z0w (by omega) (by omega)];exact congrArg some (by omega)
 have s8: ∀x:Nat,shrOp .u64 (x:Int) 8=((x / 2^8:Nat):Int):=fun x=>z5d .u64 x 8 (by decide);have s16: ∀x:Nat,shrOp .u64 (x:Int) 16=((x / 2^16:Nat):Int):=fun x=>z5d .u64 x 16 (by decide)
 have s32: ∀x:Nat,shrOp .u64 (x:Int) 32=((x / 2^32:Nat):Int):=fun x=>z5d .u64 x 32 (by decide);have p8: ∀(x b:Nat),x<65536→b≤48→ ∃L:Nat,bf (decide (256≤(x:Int))) (need ((0:Int)≤(IntKind.u8.wrap (shrOp .u64 (x:Int) 8))∧(IntKind.u8.wrap (shrOp .u64 (x:Int) 8))<(z1l.size:Int))<|some (zzi.wrap ((zzi.wrap ((b:Int)+8))+(zzi.wrap (bt z1l (IntKind.u8.wrap (shrOp .u64 (x:Int) 8))))))) (need ((0:Int)≤(IntKind.u8.wrap (x:Int))∧(IntKind.u8.wrap (x:Int))<(z1l.size:Int))<|some (zzi.wrap ((b:Int)+(zzi.wrap (bt z1l (IntKind.u8.wrap (x:Int)))))))=some ((L+b:Nat):Int)∧IsLen x L∧L≤16:=fun x b hx hb=>by
  rw[z1h];by_cases h1:256≤(x:Int)
  ·rw[if_pos h1,s8,z0w (n:=(b:Int)+8) (by omega) (by omega)];obtain⟨L,g1,g2,g3⟩:=last (x / 2^8) (b+8) (by omega) (by omega);rw[show((b+8:Nat):Int)=(b:Int)+8 by omega]at g1;refine⟨L+8,?_,g2.shift (by omega),by omega⟩;exact g1.trans (congrArg some (by omega))
  ·rw[if_neg h1];obtain⟨L,g1,g2,g3⟩:=last x b (by omega) (by omega);exact⟨L,g1,g2,by omega⟩
 unfold z3f;simp only[jn_eq];by_cases h1:4294967296≤(n:Int)
 ·rw[z1h,if_pos h1,s32,z1h];by_cases h2:65536≤((n / 2^32:Nat):Int)
  ·rw[if_pos h2,s16,show zzi.wrap (32+16)=((48:Nat):Int)from by decide];obtain⟨L,g1,g2,g3⟩:=p8 (n / 2^32 / 2^16) 48 (by omega) (by omega);refine⟨L+48,g1,?_,by omega⟩;have:=(g2.shift (by omega)).shift (n:=n) (s:=32) (by omega)
   rw[Nat.add_assoc]at this;exact this
  ·rw[if_neg h2];obtain⟨L,g1,g2,g3⟩:=p8 (n / 2^32) 32 (by omega) (by omega);exact⟨L+32,g1,g2.shift (by omega),by omega⟩
 ·rw[z1h,if_neg h1,z1h];by_cases h2:65536≤(n:Int)
  ·rw[if_pos h2,s16,show zzi.wrap (0+16)=((16:Nat):Int)from by decide];obtain⟨L,g1,g2,g3⟩:=p8 (n / 2^16) 16 (by omega) (by omega);exact⟨L+16,g1,g2.shift (by omega),by omega⟩
  ·rw[if_neg h2];obtain⟨L,g1,g2,g3⟩:=p8 n 0 (by omega) (by omega);exact⟨L,by rw[show((0:Nat):Int)=0 from rfl]at g1;exact g1,g2,by omega⟩
def IsK (n k:Nat):Prop:=1≤k∧k≤10∧n<128^k∧(1<k→128^(k-1)≤n)
theorem pow7 (i:Nat):2^(7*i)=128^i:=by rw[Nat.pow_mul]
theorem IsLen.k {n L:Nat}(h:IsLen n L)(hL:L≤64):IsK n (max 1 ((L+6) / 7)):=by
 obtain⟨h1,h2,h3⟩:=h;refine⟨by omega,by omega,?_,fun hk=>?_⟩
 ·refine Nat.lt_of_lt_of_le h1 ?_;rw[←pow7];exact Nat.pow_le_pow_right (by decide) (by omega)
 ·have hn:n≠0:=fun e=>by have:=h2 e;omega
  obtain⟨h4,h5⟩:=h3 hn;refine Nat.le_trans ?_ h4;rw[←pow7];exact Nat.pow_le_pow_right (by decide) (by omega)
def dg (n k i:Nat):Nat:=n / 128^i % 128+if i+1<k then 128 else 0
def cntL (n k:Nat):List Int:=(List.range k).map fun i=>((dg n k i:Nat):Int)
theorem dg_lt (n k i:Nat):dg n k i<256:=by unfold dg;split<;>omega
theorem zeu {X:Type}(xs ys:List X)(y v:X):(xs++y::ys).set xs.length v=xs++v::ys:=by
 rw[List.set_append_right (h:=zzc _),Nat.sub_self];rfl
theorem zde {n:Nat}(h:n<2^64): ∃k,IsK n k∧z4e (n:Int)=some (strOfNums (cntL n k)):=by
 obtain⟨L,e,hL,hL2⟩:=zgr h;refine⟨_,hL.k hL2,?_⟩;have hK:=hL.k hL2
 unfold z4e;rw[e,zz3];have e1:zzi.wrap ((zzi.wrap ((L:Int)+6)).tdiv 7)=(((L+6) / 7:Nat):Int):=by
  rw[z0w (n:=(L:Int)+6) (by omega) (by omega),Int.tdiv_eq_ediv_of_nonneg (by omega),z0w (by omega) (by omega)];omega
 have e2:(if 1<(((L+6) / 7:Nat):Int)then(((L+6) / 7:Nat):Int)else 1)=((max 1 ((L+6) / 7):Nat):Int):=by split<;>omega
 simp only[e1,e2];generalize max 1 ((L+6) / 7)=k at*;obtain⟨k1,k2,k3,k4⟩:=hK;have hlim:(lim:Int)=274877906944:=rfl
 rw[z08 (by omega),zz9,List.length_replicate];rw[z6p ((List.range k).map fun i=>((n / 128^i % 128+128:Nat):Int)) (fun i a=>a=((List.range i).map fun i=>((n / 128^i % 128+128:Nat):Int))++zza (k-i) 0) (fun s h=>by rw[h,Nat.sub_self];simp)]
 ·simp only[z3y];have e3:zzi.wrap ((k:Int)-1)=((k-1:Nat):Int):=by rw[z0w (by omega) (by omega)];omega
  have hlen:((List.range k).map fun i=>((n / 128^i % 128+128:Nat):Int)).length=k:=by simp
  rw[e3,hlen,zz9,z08 (by omega),z08 (by omega),z08 (by omega),z08 (by omega)];congr 2;have hk:k=(k-1)+1:=by omega
  have hrng:(List.range k).map (fun i=>((n / 128^i % 128+128:Nat):Int))=(List.range (k-1)).map (fun i=>((n / 128^i % 128+128:Nat):Int))++[((n / 128^(k-1) % 128+128:Nat):Int)]:=by
   conv=>lhs;rw[hk,List.range_succ,List.map_append]
   rfl
  have hl2:((List.range (k-1)).map fun i=>((n / 128^i % 128+128:Nat):Int)).length=k-1:=by simp
  rw[hrng];have hget:(((List.range (k-1)).map fun i=>((n / 128^i % 128+128:Nat):Int))++[((n / 128^(k-1) % 128+128:Nat):Int)]).getD (0+(k-1)) zzd=((n / 128^(k-1) % 128+128:Nat):Int):=by
   rw[List.getD_eq_getElem?_getD,List.getElem?_append_right (by omega),hl2];simp
  rw[hget,zfk (by omega)];have hset:=zeu ((List.range (k-1)).map fun i=>((n / 128^i % 128+128:Nat):Int)) [] ((n / 128^(k-1) % 128+128:Nat):Int) (((n / 128^(k-1) % 128+128) % 128:Nat):Int);rw[hl2]at hset;rw[zze,hset];unfold cntL
  conv=>rhs;rw[hk,List.range_succ,List.map_append]
  congr 1
  ·apply List.map_congr_left;intro i hi;have:=List.mem_range.1 hi
   unfold dg;rw[if_pos (by omega)]
  ·simp only[List.map_cons,List.map_nil];unfold dg;rw[if_neg (by omega)];congr 2;omega
 ·rintro i a hi rfl;refine⟨_,?_,rfl⟩;have hl3:(((List.range i).map fun i=>((n / 128^i % 128+128:Nat):Int))++zza (k-i) (0:Int)).length=k:=by simp;omega
  have e4:zzi.wrap ((7:Int)*(i:Int))=((7*i:Nat):Int):=by rw[z0w (by omega) (by omega)];omega
  rw[hl3,e4,z08 (by omega),z08 (by omega),z08 (by omega),zze];have e5:z0j .or .u8 (IntKind.u8.wrap (shrOp .u64 (n:Int) ((7*i:Nat):Int))) 128=((n / 128^i % 128+128:Nat):Int):=by
   rw[z5d .u64 n (7*i) (by show 7*i≤64;omega),pow7,zez];have:(((n / 128^i:Nat):Int) % 256)=((n / 128^i % 256:Nat):Int):=by omega
   rw[this,or128 (by omega)];congr 1;omega
  rw[e5,show k-i=(k-(i+1))+1 by omega,List.replicate_succ];have hset:=zeu ((List.range i).map fun i=>((n / 128^i % 128+128:Nat):Int)) (zza (k-(i+1)) 0) (0:Int) ((n / 128^i % 128+128:Nat):Int);rw[List.length_map,List.length_range]at hset;rw[hset,List.range_succ,List.map_append];simp
 ·simp
theorem z78 (a:List Int):(strOfNums a).size=a.length:=by simp[strOfNums,ByteArray.size]
theorem zi2 {n k:Nat}(hK:IsK n k):n / 128^(k-1)<128:=by
 rw[Nat.div_lt_iff_lt_mul (Nat.pow_pos (by decide)),←Nat.pow_succ',show(k-1).succ=k by have:=hK.1;omega];exact hK.2.2.1
end Go.Av
