import Derived.Test.YtgpkbkdmpdmmiaaGreatL3x2
import Derived.Test.YtgpkbkdmpdmmiaaGreatProg
set_option maxRecDepth 100000
namespace Go.Av
open Go Go.Proofs
set_option linter.unusedVariables false
set_option linter.unusedSimpArgs false
theorem z54 {fuel:Nat} {p0:List Int} {q:Int} (h:z2h fuel p0=some q) :
    Summ Tryz.prog 98 [.c (wC 1 (z2d .u64) p0)] [] (cD (dU q)) []:=by
  refine Summ.intro Tryz.func98 rfl (by kernel_rfl) (by kernel_rfl) [] rfl ?_
  rintro ⟨P,w0,G0,V,LL,lk,N, φ0,fx⟩ rfl rfl rfl rfl
  unfold z2h at h
  refine Tri.sg [0] [] (z00 1) ?_
  refine Tri.seqS ?_
  refine Tri.sg [0,7] [] (z00 3) ?_
  refine Tri.condK h (fun h => ?_) (fun h => ?_)
  ·refine Tri.reg ?_
   cases h
  ·refine Tri.skip ?_
   obtain ⟨hc1,h⟩:=z03 h
   refine Tri.sg [0,3] [] (tN 1 (ai hc1 (z00 2))) ?_
   refine Tri.seqS ?_
   refine Tri.sg [0,3,4] [] (z00 1) ?_
   refine Tri.lK ((p0.getD 0 default),1) (fun (x:Empty) s=>False) (fun (a2:Int × Int)=>⟨[(0,.c (wC 1 (z2d .u64) p0)),(3,cD (dU a2.1)),(4,cD (dI a2.2))],[]⟩) [0,3,4] [] h ?_ ?_ ?_
   ·intro a2 c h
    refine Tri.seqS ?_
    refine Tri.sg [0,3,4,15] [] (z00 4) ?_
    refine Tri.condK h (fun h => ?_) (fun h => ?_)
    ·refine Tri.skip ?_
     refine Tri.seqS ?_
     refine Tri.blockB ?_
     refine Tri.reg ?_
     obtain ⟨hc4,h⟩:=z03 h
     refine At.sg 7 [0,3,4] [] (tN 3 (ai hc4 (z00 3))) ?_
     refine At.done rfl ?_
     refine Tri.reg ?_
     refine At.sg 3 [0,3,4] [] (z00 3) ?_
     refine At.done rfl ?_
     cases h
     exact kr
    ·refine Tri.kp [0,3,4] [] ?_
     refine Tri.exit ?_
     cases h
     exact ⟨rfl,kr⟩
   ·intro a3 h
    refine Tri.sg [2] [] (z00 2) ?_
    refine Tri.ret ?_
    cases h
    exact RetAt.k
   · exact fun x=>x.elim
theorem zgj {fuel:Nat} {p0:List Time} {q:Int} (h:z3b fuel p0=some q) :
    Summ Tryz.prog 67 [cD (lD 3 z02 p0)] [] (cD (dI q)) []:=by
  refine Summ.intro Tryz.func67 rfl (by kernel_rfl) (by kernel_rfl) [] rfl ?_
  rintro ⟨P,w0,G0,V,LL,lk,N, φ0,fx⟩ rfl rfl rfl rfl
  unfold z3b at h
  refine Tri.sg [0] [] (z00 1) ?_
  refine Tri.seqS ?_
  refine Tri.sg [5,6,7] [] (z00 3) ?_
  refine Tri.ln 5 p0.length fun hlena2 => ?_
  refine Tri.rK 7 () (fun (x:Int) s=>RetAt Tryz.prog Tryz.f67 (cD (dI x)) [] s) (fun (a2:Unit)=>⟨[(5,cD (lD 3 z02 p0)),(6,cD (dI (p0.length:Int)))],[]⟩) [7,5,6] [] [8,7,5,6] [] [5,6] [] [7,5,6] [] h hlena2 ?_ ?_ ?_
  ·intro i1 a2 c hii1 h
   refine Tri.sg [4,5,6,7] [4] (ai (show ((0:Int)≤((i1:Nat):Int)∧((i1:Nat):Int) < (p0.length:Int)) from ⟨by omega,by omega⟩) (z00 3)) ?_
   refine Tri.seqS ?_
   obtain ⟨r4,hr4,h⟩:=z04 h
   refine Tri.dC [.a [4] [],.a [11] [4],.a [4] [],.a [13] [4],.m ⟨[(14,.c (.bsl 4 1 1 2))],[(4,.box (cTime (p0.getD i1 default)))]⟩ ⟨[(15,cD (dU r4))],[]⟩ [] [] [],.a [12,15] [],.a [16] []] [5,6,7,17] [] (tN 3 (ai (show (((0:Int)≤0∧(0:Int)≤2∧(2:Int)≤2)∧(0:Int) < 2) from ⟨⟨by decide,by decide,by decide⟩,by decide⟩) (z00 2))) (.a (.a (.a (.a (.m ?_ (.a (.a .z))))))) ?_
   · exact DOk.cA [] [.c (.bsl 4 1 1 2)] (z54 hr4) fun r=>(.cons (.c (.bsl (cs:=[.d (dU ((p0.getD i1 default).epoch)),.d (dU ((p0.getD i1 default).loop.1)),.d (dU ((p0.getD i1 default).loop.2))]) (ds:=[dU ((p0.getD i1 default).loop.1),dU ((p0.getD i1 default).loop.2)]) rfl rfl rfl rfl (by unfold maxN; omega) (fun i hi=>by match i,hi with | 0,_=>rfl | 1,_=>rfl))) .nil)
   refine Tri.condK h (fun h => ?_) (fun h => ?_)
   ·refine Tri.sg [2] [] (z00 1) ?_
    refine Tri.ret ?_
    cases h
    exact RetAt.k
   ·refine Tri.kp [7,5,6] [] ?_
    refine Tri.skip ?_
    cases h
    exact kr
  ·intro a3 h
   refine Tri.sg [2] [] (z00 1) ?_
   refine Tri.ret ?_
   cases h
   exact RetAt.k
  · exact fun x s hx hr=>by cases hx; exact hr
theorem z4u {p0:List Time} {q:List Time} (h:z0b p0=some q) :
    Summ Tryz.prog 40 [cD (lD 3 z02 p0)] [] (.c (oC 6000 3 q)) [(6000,vL 3 z02 q)]:=by
  refine Summ.intro Tryz.func40 rfl (by kernel_rfl) (by kernel_rfl) [6000] rfl ?_
  rintro ⟨P,w0,G0,V,LL,lk,N, φ0,fx⟩ rfl rfl rfl rfl
  unfold z0b at h
  refine Tri.sg [0] [] (z00 1) ?_
  refine Tri.seqS ?_
  refine Tri.seqS ?_
  refine Tri.reg ?_
  refine At.seg 1 [0,3] [] (s':=⟨[(0,cD (lD 3 z02 p0)),(3,cD (lD 3 z02 p0))],[]⟩) (by kernel_rfl) (z00 1) ?_
  have hnil:p0.length=0→(some ([]:List Time))=(need (p0.length≤274877906944) <| some p0):=by intro h0; obtain rfl:=List.eq_nil_of_length_eq_zero h0; rfl
  refine At.nilCase (e:=54) rfl rfl rfl rfl rfl (by kernel_rfl) rfl (fun h0 => ?_) ?_
  ·replace h:=(hnil h0).trans h
   refine At.done rfl ?_
   refine Tri.cond (b:=true) (by kernel_rfl) (fun _ => ?_) (fun e=>by cases e)
   refine Tri.segL [2] [] ⟨[(2,.c (.zero))],[]⟩ _ (by kernel_rfl) (z00 1) ?_
   refine Tri.newOwn (t:=2) (k:=6000) (es:=3) (fun i=>z02 (([]:List Time).getD i default)) rfl rfl rfl ?_
   refine Tri.ret ?_
   cases h
   exact RetAt.k
  ·refine At.done rfl ?_
   refine Tri.cond (b:=false) (by kernel_rfl) (fun e=>by cases e) (fun _ => ?_)
   refine Tri.skip ?_
   refine Tri.seqS ?_
   refine Tri.reg ?_
   refine At.one rfl (One.build0 (e:=54) (es:=3) rfl rfl rfl rfl (by kernel_rfl) rfl) ?_
   refine At.seg 1 [5,6] [] (s':=⟨[(5,.c (.zero)),(6,cD (lD 3 z02 p0))],[]⟩) (by kernel_rfl) (z00 1) ?_
   obtain ⟨hc1,h⟩:=z03 h
   refine At.one rfl (One.append0 (e:=54) (es:=3) (m:=p0.length) (get:=fun i=>z02 (p0.getD i default)) rfl rfl rfl rfl (by kernel_rfl) (.of 54 24 [.d (dU 0),.d (dU 0),.d (dU 0)] (by kernel_rfl) (by kernel_rfl) (by kernel_rfl) (by kernel_rfl) rfl (by kernel_rfl) rfl) rfl rfl (.list rfl (fun _ _=>rfl)) hc1) ?_
   refine At.sg 1 [2] [7] (z00 1) ?_
   refine At.done rfl ?_
   refine Tri.keep [2] [7] (s':=⟨[(2,.c (oC 7 3 p0))],[(7,vL 3 z02 p0)]⟩) (by kernel_rfl) ?_
   refine Tri.rename 7 6000 ⟨[(2,.c (oC 6000 3 p0))],[(6000,vL 3 z02 p0)]⟩ (by kernel_rfl) rfl rfl rfl ?_
   refine Tri.ret ?_
   cases h
   exact RetAt.k
theorem zf0 {p0:Int} {q:Int} (h:z6q p0=some q) :
    Summ Tryz.prog 157 [cD (dU p0)] [] (cD (dI q)) []:=by
  refine Summ.intro Tryz.func157 rfl (by kernel_rfl) (by kernel_rfl) [] rfl ?_
  rintro ⟨P,w0,G0,V,LL,lk,N, φ0,fx⟩ rfl rfl rfl rfl
  unfold z6q at h
  refine Tri.sg [0,2] [] (z00 1) ?_
  refine Tri.seqJ (fun (a1:Int × Int)=>⟨[(0,cD (dU a1.1)),(2,cD (dI a1.2))],[]⟩) h (fun a1 h => ?_) (fun j2 h => ?_)
  ·refine Tri.seqJ (fun (a3:Int × Int)=>⟨[(0,cD (dU a3.1)),(2,cD (dI a3.2))],[]⟩) h (fun a3 h => ?_) (fun j4 h => ?_)
   ·refine Tri.seqJ (fun (a5:Int × Int)=>⟨[(0,cD (dU a5.1)),(2,cD (dI a5.2))],[]⟩) h (fun a5 h => ?_) (fun j6 h => ?_)
    ·obtain ⟨hc7,h⟩:=z03 h
     refine Tri.sg [2] [] (tN 3 (ai hc7 (z00 3))) ?_
     refine Tri.ret ?_
     cases h
     exact RetAt.k
    ·refine Tri.sg [0,2,14] [] (z00 2) ?_
     refine Tri.condK h (fun h => ?_) (fun h => ?_)
     ·refine Tri.sg [0,2] [] (tN 1 (ai (show ((0:Int)≤8) from (by decide:(0:Int)≤8)) (z00 1))) ?_
      refine Tri.reg ?_
      refine At.sg 3 [0,2] [] (z00 3) ?_
      refine At.done rfl ?_
      exact ⟨_,h,kr⟩
     ·refine Tri.kp [0,2] [] ?_
      refine Tri.skip ?_
      exact ⟨_,h,kr⟩
   ·refine Tri.sg [0,2,8] [] (z00 2) ?_
    refine Tri.condK h (fun h => ?_) (fun h => ?_)
    ·refine Tri.sg [0,2] [] (tN 1 (ai (show ((0:Int)≤16) from (by decide:(0:Int)≤16)) (z00 1))) ?_
     refine Tri.reg ?_
     refine At.sg 3 [0,2] [] (z00 3) ?_
     refine At.done rfl ?_
     exact ⟨_,h,kr⟩
    ·refine Tri.kp [0,2] [] ?_
     refine Tri.skip ?_
     exact ⟨_,h,kr⟩
  ·refine Tri.sg [0,2,4] [] (z00 2) ?_
   refine Tri.condK h (fun h => ?_) (fun h => ?_)
   ·refine Tri.sg [0] [] (tN 1 (ai (show ((0:Int)≤32) from (by decide:(0:Int)≤32)) (z00 1))) ?_
    refine Tri.reg ?_
    refine At.sg 1 [0,2] [] (z00 1) ?_
    refine At.done rfl ?_
    exact ⟨_,h,kr⟩
   ·refine Tri.kp [0,2] [] ?_
    refine Tri.skip ?_
    exact ⟨_,h,kr⟩
theorem zb8 {p0:Int} {q:Int} (h:z6g p0=some q) :
  Summ Tryz.prog 139 [cD (dU p0)] [] (cD (dI q)) []:=by
 refine Summ.intro Tryz.func139 rfl (by kernel_rfl) (by kernel_rfl) [] rfl ?_
 rintro ⟨P,w0,G0,V,LL,lk,N, φ0,fx⟩ rfl rfl rfl rfl
 unfold z6g at h
 refine Tri.sg [0] [] (z00 1) ?_
 refine Tri.seqS ?_
 refine Tri.cond (b:=false) (by kernel_rfl) (fun e=>by cases e) (fun _ => ?_)
 refine Tri.skip ?_
 refine Tri.seqS ?_
 refine Tri.reg ?_
 refine At.sg 1 [6] [] (z00 1) ?_
 obtain ⟨r1,hr1,h⟩:=z04 h
 refine At.cA [] [cD (dU p0)] (zf0 hr1) (.cons (.refl _) .nil) ?_
 refine At.sg 1 [2] [] (z00 1) ?_
 refine At.done rfl ?_
 refine Tri.ret ?_
 cases h
 exact RetAt.k
theorem z9m {p0:Int} {q:Bool} (h:z64 p0=some q) :
  Summ Tryz.prog 137 [cD (dU p0)] [] (cD (.bool q)) []:=by
 refine Summ.intro Tryz.func137 rfl (by kernel_rfl) (by kernel_rfl) [] rfl ?_
 rintro ⟨P,w0,G0,V,LL,lk,N, φ0,fx⟩ rfl rfl rfl rfl
 unfold z64 at h
 refine Tri.sg [0] [] (z00 1) ?_
 refine Tri.sg [2] [] (z00 4) ?_
 refine Tri.ret ?_
 cases h
 exact RetAt.k
theorem z72 {p0:Int} {p1:Int} {q:Int} (h:z3d p0 p1=some q) :
    Summ Tryz.prog 111 [cD (dU p0),cD (dU p1)] [] (cD (dI q)) []:=by
  refine Summ.intro Tryz.func111 rfl (by kernel_rfl) (by kernel_rfl) [] rfl ?_
  rintro ⟨P,w0,G0,V,LL,lk,N, φ0,fx⟩ rfl rfl rfl rfl
  unfold z3d at h
  refine Tri.sg [0,1] [] (z00 1) ?_
  refine Tri.seqS ?_
  refine Tri.reg ?_
  refine At.sg 1 [0,1,7] [] (z00 1) ?_
  obtain ⟨r1,hr1,h⟩:=z04 h
  refine At.cA [] [cD (dU p0)] (z9m hr1) (.cons (.refl _) .nil) ?_
  refine At.sg 1 [0,1,5] [] (z00 1) ?_
  refine At.done rfl ?_
  refine Tri.seqS ?_
  refine Tri.reg ?_
  refine At.sg 1 [0,1,5,9] [] (z00 1) ?_
  obtain ⟨r2,hr2,h⟩:=z04 h
  refine At.cA [] [cD (dU p1)] (z9m hr2) (.cons (.refl _) .nil) ?_
  refine At.sg 1 [0,1,5,6] [] (z00 1) ?_
  refine At.done rfl ?_
  refine Tri.seqS ?_
  refine Tri.sg [0,1,6,11] [] (z00 1) ?_
  refine Tri.condK h (fun h => ?_) (fun h => ?_)
  ·refine Tri.seqS ?_
   refine Tri.sg [12] [] (z00 1) ?_
   refine Tri.condK h (fun h => ?_) (fun h => ?_)
   ·refine Tri.sg [4] [] (z00 1) ?_
    refine Tri.ret ?_
    cases h
    exact RetAt.k
   ·refine Tri.skip ?_
    refine Tri.sg [4] [] (z00 1) ?_
    refine Tri.ret ?_
    cases h
    exact RetAt.k
  ·refine Tri.skip ?_
   refine Tri.seqS ?_
   refine Tri.sg [0,1,13] [] (z00 1) ?_
   refine Tri.condK h (fun h => ?_) (fun h => ?_)
   ·refine Tri.sg [4] [] (z00 1) ?_
    refine Tri.ret ?_
    cases h
    exact RetAt.k
   ·refine Tri.skip ?_
    refine Tri.seqS ?_
    refine Tri.sg [0,1,16] [] (z00 3) ?_
    refine Tri.condK h (fun h => ?_) (fun h => ?_)
    ·refine Tri.sg [4] [] (z00 1) ?_
     refine Tri.ret ?_
     cases h
     exact RetAt.k
    ·refine Tri.skip ?_
     refine Tri.seqS ?_
     refine Tri.sg [19] [] (z00 3) ?_
     refine Tri.condK h (fun h => ?_) (fun h => ?_)
     ·refine Tri.sg [4] [] (z00 1) ?_
      refine Tri.ret ?_
      cases h
      exact RetAt.k
     ·refine Tri.skip ?_
      refine Tri.sg [4] [] (z00 1) ?_
      refine Tri.ret ?_
      cases h
      exact RetAt.k
theorem z77 {p0:List Int} {p1:List Int} {q:Int} (h:z25 p0 p1=some q) :
    Summ Tryz.prog 112 [.c (wC 1 (z2d .u64) p0),.c (wC 1 (z2d .u64) p1)] [] (cD (dI q)) []:=by
  refine Summ.intro Tryz.func112 rfl (by kernel_rfl) (by kernel_rfl) [] rfl ?_
  rintro ⟨P,w0,G0,V,LL,lk,N, φ0,fx⟩ rfl rfl rfl rfl
  unfold z25 at h
  refine Tri.sg [0,1] [] (z00 1) ?_
  refine Tri.seqS ?_
  refine Tri.sg [0,1,9,10,11] [] (z00 3) ?_
  refine Tri.ln 9 p0.length fun hlena2 => ?_
  refine Tri.rK 11 () (fun (x:Int) s=>RetAt Tryz.prog Tryz.f112 (cD (dI x)) [] s) (fun (a2:Unit)=>⟨[(0,.c (wC 1 (z2d .u64) p0)),(1,.c (wC 1 (z2d .u64) p1)),(9,.c (wC 1 (z2d .u64) p0)),(10,cD (dI (p0.length:Int)))],[]⟩) [11,0,1,9,10] [] [12,11,0,1,9,10] [] [0,1,9,10] [] [11,0,1,9,10] [] h hlena2 ?_ ?_ ?_
  ·intro i1 a2 c hii1 h
   refine Tri.sg [0,1,5,6,9,10,11] [] (tN 1 (ai (show ((0:Int)≤((i1:Nat):Int)∧((i1:Nat):Int) < (p0.length:Int)) from ⟨by omega,by omega⟩) (z00 3))) ?_
   refine Tri.seqS ?_
   refine Tri.sg [0,1,5,6,9,10,11,19] [] (z00 4) ?_
   refine Tri.condK h (fun h => ?_) (fun h => ?_)
   ·refine Tri.sg [4] [] (z00 1) ?_
    refine Tri.ret ?_
    cases h
    exact RetAt.k
   ·refine Tri.skip ?_
    obtain ⟨hc4,h⟩:=z03 h
    refine Tri.sg [0,1,6,7,9,10,11] [] (tN 2 (ai hc4 (z00 2))) ?_
    refine Tri.seqS ?_
    refine Tri.reg ?_
    refine At.sg 2 [0,1,9,10,11,24,25] [] (z00 2) ?_
    obtain ⟨r5,hr5,h⟩:=z04 h
    refine At.cA [] [cD (dU (p0.getD i1 default)),cD (dU (p1.getD i1 default))] (z72 hr5) (.cons (.refl _) (.cons (.refl _) .nil)) ?_
    refine At.sg 1 [0,1,8,9,10,11] [] (z00 1) ?_
    refine At.done rfl ?_
    refine Tri.sg [0,1,8,9,10,11,28] [] (z00 2) ?_
    refine Tri.condK h (fun h => ?_) (fun h => ?_)
    ·refine Tri.sg [4] [] (z00 2) ?_
     refine Tri.ret ?_
     cases h
     exact RetAt.k
    ·refine Tri.kp [11,0,1,9,10] [] ?_
     refine Tri.skip ?_
     cases h
     exact kr
  ·intro a3 h
   refine Tri.seqS ?_
   refine Tri.sg [35] [] (z00 5) ?_
   refine Tri.condK h (fun h => ?_) (fun h => ?_)
   ·refine Tri.sg [4] [] (z00 1) ?_
    refine Tri.ret ?_
    cases h
    exact RetAt.k
   ·refine Tri.skip ?_
    refine Tri.sg [4] [] (z00 1) ?_
    refine Tri.ret ?_
    cases h
    exact RetAt.k
  · exact fun x s hx hr=>by cases hx; exact hr
theorem z8k {p0:List Int} {q:Int} (h:z5p p0=some q) :
    Summ Tryz.prog 72 [.c (wC 1 (z2d .i64) p0)] [] (cD (dI q)) []:=by
  refine Summ.intro Tryz.func72 rfl (by kernel_rfl) (by kernel_rfl) [] rfl ?_
  rintro ⟨P,w0,G0,V,LL,lk,N, φ0,fx⟩ rfl rfl rfl rfl
  unfold z5p at h
  refine Tri.sg [0] [] (z00 1) ?_
  refine Tri.sg [0,3] [] (z00 1) ?_
  refine Tri.seqS ?_
  refine Tri.sg [3,6,7,8] [] (z00 3) ?_
  refine Tri.ln 6 p0.length fun hlena2 => ?_
  refine Tri.rK 8 () (fun (x:Int) s=>RetAt Tryz.prog Tryz.f72 (cD (dI x)) [] s) (fun (a2:Unit)=>⟨[(3,cD (dI 0)),(6,.c (wC 1 (z2d .i64) p0)),(7,cD (dI (p0.length:Int)))],[]⟩) [8,3,6,7] [] [9,8,3,6,7] [] [3,6,7] [] [8,3,6,7] [] h hlena2 ?_ ?_ ?_
  ·intro i1 a2 c hii1 h
   refine Tri.sg [3,5,6,7,8] [] (ai (show ((0:Int)≤((i1:Nat):Int)∧((i1:Nat):Int) < (p0.length:Int)) from ⟨by omega,by omega⟩) (z00 2)) ?_
   refine Tri.sg [3,5,6,7,8,14] [] (z00 3) ?_
   refine Tri.condK h (fun h => ?_) (fun h => ?_)
   ·refine Tri.sg [2] [] (z00 2) ?_
    refine Tri.ret ?_
    cases h
    exact RetAt.k
   ·refine Tri.kp [8,3,6,7] [] ?_
    refine Tri.skip ?_
    cases h
    exact kr
  ·intro a3 h
   refine Tri.sg [2] [] (z00 2) ?_
   refine Tri.ret ?_
   cases h
   exact RetAt.k
  · exact fun x s hx hr=>by cases hx; exact hr
theorem z1n {p0:Time} {p1:Time} {q:Int} (h:z11 p0 p1=some q) :
    Summ Tryz.prog 74 [.agg (cTime p0),.agg (cTime p1)] [] (cD (dI q)) []:=by
  refine Summ.intro Tryz.func74 rfl (by kernel_rfl) (by kernel_rfl) [] rfl ?_
  rintro ⟨P,w0,G0,V,LL,lk,N, φ0,fx⟩ rfl rfl rfl rfl
  unfold z11 at h
  refine Tri.sg [2,3] [2,3] (z00 3) ?_
  refine Tri.seqS ?_
  refine Tri.seqS ?_
  refine Tri.reg ?_
  refine At.seg 4 [2,3,6,8] [2,3] (s':=⟨[(2,.c (.ptr 2 0)),(3,.c (.ptr 3 0)),(6,.agg [.d (dU p0.loop.1),.d (dU p0.loop.2)]),(8,.agg [.d (dU p1.loop.1),.d (dU p1.loop.2)])],[(2,.box (cTime p0)),(3,.box (cTime p1))]⟩) (by kernel_rfl) (z00 4) ?_
  refine At.one rfl (One.eql (b:=(decide (p0.loop.1=p1.loop.1) && (decide (p0.loop.2=p1.loop.2) && true))) (d:=9) rfl rfl rfl (.inl rfl) rfl rfl (by kernel_rfl) rfl (by kernel_rfl)) ?_
  refine At.done rfl ?_
  refine Tri.condK h (fun h => ?_) (fun h => ?_)
  ·refine Tri.seqS ?_
   refine Tri.reg ?_
   refine At.sg 4 [11,13] [] (z00 4) ?_
   obtain ⟨r1,hr1,h⟩:=z04 h
   refine At.cA [] [cD (dU p0.epoch),cD (dU p1.epoch)] (z72 hr1) (.cons (.refl _) (.cons (.refl _) .nil)) ?_
   refine At.sg 1 [4] [] (z00 1) ?_
   refine At.done rfl ?_
   refine Tri.ret ?_
   cases h
   exact RetAt.k
  ·refine Tri.skip ?_
   refine Tri.seqS ?_
   obtain ⟨r2,hr2,h⟩:=z04 h
   obtain ⟨r3,hr3,h⟩:=z04 h
   obtain ⟨r4,hr4,h⟩:=z04 h
   refine Tri.dC [.a [2] [],.a [15] [2],.a [3] [],.a [17] [3],.m ⟨[(16,cD (dU p0.epoch)),(18,cD (dU p1.epoch))],[]⟩ ⟨[(19,cD (dI r2))],[]⟩ [] [] [],.a [2] [],.a [20] [2],.a [3] [],.a [22] [3],.m ⟨[(21,.c (.bsl 2 1 1 2)),(23,.c (.bsl 3 1 1 2))],[(2,.box (cTime p0)),(3,.box (cTime p1))]⟩ ⟨[(24,cD (dI r3))],[]⟩ [] [] [],.m ⟨[(19,cD (dI r2)),(24,cD (dI r3))],[]⟩ ⟨[(25,.c (oC 25 1 ([r2,r3]:List Int)))],[(25,vL 1 (z2d .i64) ([r2,r3]:List Int))]⟩ [25] [] [],.m ⟨[(25,.c (oC 25 1 ([r2,r3]:List Int)))],[(25,vL 1 (z2d .i64) ([r2,r3]:List Int))]⟩ ⟨[(26,cD (dI r4))],[]⟩ [] [] [],.a [26] []] [4] [] (tN 5 (ai (show (((0:Int)≤0∧(0:Int)≤2∧(2:Int)≤2)∧(0:Int) < 2) from ⟨⟨by decide,by decide,by decide⟩,by decide⟩) (tN 1 (ai (show (((0:Int)≤0∧(0:Int)≤2∧(2:Int)≤2)∧(0:Int) < 2) from ⟨⟨by decide,by decide,by decide⟩,by decide⟩) (z00 1))))) (.a (.a (.a (.a (.m ?_ (.a (.a (.a (.a (.m ?_ (.m ?_ (.m ?_ (.a .z))))))))))))) ?_
   · exact DOk.cA [] [cD (dU p0.epoch),cD (dU p1.epoch)] (z72 hr2) fun r=>(.cons (.refl _) (.cons (.refl _) .nil))
   · exact DOk.cA [] [.c (.bsl 2 1 1 2),.c (.bsl 3 1 1 2)] (z77 hr3) fun r=>(.cons (.c (.bsl (cs:=[.d (dU p0.epoch),.d (dU p0.loop.1),.d (dU p0.loop.2)]) (ds:=[dU p0.loop.1,dU p0.loop.2]) rfl rfl rfl rfl (by unfold maxN; omega) (fun i hi=>by match i,hi with | 0,_=>rfl | 1,_=>rfl))) (.cons (.c (.bsl (cs:=[.d (dU p1.epoch),.d (dU p1.loop.1),.d (dU p1.loop.2)]) (ds:=[dU p1.loop.1,dU p1.loop.2]) rfl rfl rfl rfl (by unfold maxN; omega) (fun i hi=>by match i,hi with | 0,_=>rfl | 1,_=>rfl))) .nil))
   · exact DOk.one fun r hr=>One.buildT (e:=3) (es:=1) (z:=[.d (dI 0)]) (cells:=[.d (dI r2),.d (dI r3)]) (z2d .i64) ([r2,r3]:List Int) rfl (by kernel_rfl) rfl rfl (St.noRef_app (by kernel_rfl) (hr 25 (by simp))) (by kernel_rfl) rfl (by kernel_rfl) rfl rfl rfl (by kernel_rfl) rfl ⟨⟨rfl,.refl _⟩,⟨rfl,.refl _⟩,trivial⟩
   · exact DOk.cA [] [.c (oC 25 1 ([r2,r3]:List Int))] (z8k hr4) fun r=>(.cons (AVArg.view (z2d .i64) ([r2,r3]:List Int) rfl) .nil)
   refine Tri.ret ?_
   cases h
   exact RetAt.k
theorem z66 {fuel:Nat} {p1:Int} {p2:Int} {l0:List Time} {q:List Time} (h:z15 fuel p1 p2 l0=some q) :
    Summ Tryz.prog 148 [.c (oC 5000 3 l0),cD (dI p1),cD (dI p2),cD (.fn 74 [])] [(5000,vL 3 z02 l0)] (.tup []) [(5000,vL 3 z02 q)]:=by
  refine Summ.intro Tryz.func148 rfl (by kernel_rfl) (by kernel_rfl) [] rfl ?_
  rintro ⟨P,w0,G0,V,LL,lk,N, φ0,fx⟩ rfl rfl rfl rfl
  unfold z15 at h
  refine Tri.sg [0,1,2,3,8] [5000] (z00 3) ?_
  refine Tri.keep [0,1,2,3,8] [5000] (s':=⟨[(0,.c (oC 5000 3 l0)),(1,cD (dI p1)),(2,cD (dI p2)),(3,cD (.fn 74 [])),(8,cD (dI (IntKind.i64.wrap (p1 + 1))))],[(5000,vL 3 z02 l0)]⟩) (by kernel_rfl) ?_
  refine Tri.loopK (fuel:=fuel) (st0:=((IntKind.i64.wrap (p1 + 1)),l0)) (fun (x:Empty) s=>False) (fun (a1:Int × (List Time))=>⟨[(0,.c (oC 5000 3 a1.2)),(1,cD (dI p1)),(2,cD (dI p2)),(3,cD (.fn 74 [])),(8,cD (dI a1.1))],[(5000,vL 3 z02 a1.2)]⟩) (fun (a1:Int × (List Time))=>⟨[],[(5000,vL 3 z02 a1.2)]⟩) h ?_ ?_ ?_
  ·intro a1 c h
   refine Tri.seqS ?_
   refine Tri.sg [0,1,2,3,8,14] [5000] (z00 3) ?_
   refine Tri.condK h (fun h => ?_) (fun h => ?_)
   ·refine Tri.skip ?_
    refine Tri.seqS ?_
    refine Tri.blockB ?_
    refine Tri.sg [0,1,2,3,8,9] [5000] (z00 2) ?_
    refine Tri.lK (a1.1,a1.2) (fun (x:Empty) s=>False) (fun (a3:Int × (List Time))=>⟨[(0,.c (oC 5000 3 a3.2)),(1,cD (dI p1)),(2,cD (dI p2)),(3,cD (.fn 74 [])),(8,cD (dI a1.1)),(9,cD (dI a3.1))],[(5000,vL 3 z02 a3.2)]⟩) [0,1,2,3,8,9] [5000] h ?_ ?_ ?_
    ·intro a3 c h
     refine Tri.eqS ⟨[(0,.c (oC 5000 3 a3.2)),(1,cD (dI p1)),(2,cD (dI p2)),(3,cD (.fn 74 [])),(8,cD (dI a1.1)),(9,cD (dI a3.1))],[(5000,vL 3 z02 a3.2)]⟩ kr ?_
     refine Tri.seqS ?_
     refine Tri.seqJ (fun (a5:Bool)=>⟨[(0,.c (oC 5000 3 a3.2)),(1,cD (dI p1)),(2,cD (dI p2)),(3,cD (.fn 74 [])),(8,cD (dI a1.1)),(9,cD (dI a3.1)),(34,cD (.bool a5))],[(5000,vL 3 z02 a3.2)]⟩) h (fun a5 h => ?_) (fun j6 h => ?_)
     ·refine Tri.eqS ⟨[(0,.c (oC 5000 3 a3.2)),(1,cD (dI p1)),(2,cD (dI p2)),(3,cD (.fn 74 [])),(8,cD (dI a1.1)),(9,cD (dI a3.1)),(34,cD (.bool a5))],[(5000,vL 3 z02 a3.2)]⟩ kr ?_
      refine Tri.condK h (fun h => ?_) (fun h => ?_)
      ·refine Tri.skip ?_
       refine Tri.seqS ?_
       refine Tri.blockB ?_
       obtain ⟨hc7,h⟩:=z03 h
       obtain ⟨hc8,h⟩:=z03 h
       obtain ⟨hc9,h⟩:=z03 h
       obtain ⟨hc10,h⟩:=z03 h
       obtain ⟨hc11,h⟩:=z03 h
       obtain ⟨hc12,h⟩:=z03 h
       obtain ⟨hc13,h⟩:=z03 h
       obtain ⟨hc14,h⟩:=z03 h
       refine Tri.afterA ⟨[(0,.c (oC 5000 3 a3.2)),(1,cD (dI p1)),(2,cD (dI p2)),(3,cD (.fn 74 [])),(8,cD (dI a1.1)),(9,cD (dI a3.1))],[(5000,vL 3 z02 ((a3.2.set (0 + a3.1.toNat) (a3.2.getD (0 + (IntKind.i64.wrap (a3.1 - 1)).toNat) default)).set (0 + (IntKind.i64.wrap (a3.1 - 1)).toNat) (a3.2.getD (0 + a3.1.toNat) default)))]⟩ ?_ ?_
       ·refine Tri.dS ⟨[(0,.c (oC 5000 3 a3.2)),(1,cD (dI p1)),(2,cD (dI p2)),(3,cD (.fn 74 [])),(8,cD (dI a1.1)),(9,cD (dI a3.1))],[(5000,vL 3 z02 ((a3.2.set (0 + a3.1.toNat) (a3.2.getD (0 + (IntKind.i64.wrap (a3.1 - 1)).toNat) default)).set (0 + (IntKind.i64.wrap (a3.1 - 1)).toNat) (a3.2.getD (0 + a3.1.toNat) default)))]⟩ [.a [0] [],.a [9] [],.a [0] [],.a [9] [],.a [40] [],.a [0] [],.a [9] [],.a [43] [],.a [42,44] [5000],.a [45] [5000],.a [0] [],.a [9] [],.a [47,48] [5000],.a [49] [5000],.a [37,38] [5000],.m ⟨[(46,.agg (cTime (a3.2.getD (0 + (IntKind.i64.wrap (a3.1 - 1)).toNat) default))),(51,.c (.vptr 5000 3 (0 + a3.1.toNat) 0))],[(5000,vL 3 z02 a3.2)]⟩ ⟨[],[(5000,vL 3 z02 (a3.2.set (0 + a3.1.toNat) (a3.2.getD (0 + (IntKind.i64.wrap (a3.1 - 1)).toNat) default)))]⟩ [] [] [],.a [39,41] [5000],.m ⟨[(50,.agg (cTime (a3.2.getD (0 + a3.1.toNat) default))),(52,.c (.vptr 5000 3 (0 + (IntKind.i64.wrap (a3.1 - 1)).toNat) 0))],[(5000,vL 3 z02 (a3.2.set (0 + a3.1.toNat) (a3.2.getD (0 + (IntKind.i64.wrap (a3.1 - 1)).toNat) default)))]⟩ ⟨[],[(5000,vL 3 z02 ((a3.2.set (0 + a3.1.toNat) (a3.2.getD (0 + (IntKind.i64.wrap (a3.1 - 1)).toNat) default)).set (0 + (IntKind.i64.wrap (a3.1 - 1)).toNat) (a3.2.getD (0 + a3.1.toNat) default)))]⟩ [] [] []] [0,1,2,3,8,9] [5000] (tN 8 (ai hc7 (ai hc8 (tN 2 (ai hc9 (ai hc10 (ai hc11 (ai hc13 trivial)))))))) (.a (.a (.a (.a (.a (.a (.a (.a (.a (.a (.a (.a (.a (.a (.a (.m ?_ (.a (.m ?_ .z)))))))))))))))))) ?_
        · exact DOk.one fun r hr=>One.storeT (xs:=[.d (dU ((a3.2.getD (0 + (IntKind.i64.wrap (a3.1 - 1)).toNat) default).epoch)),.d (dU ((a3.2.getD (0 + (IntKind.i64.wrap (a3.1 - 1)).toNat) default).loop.1)),.d (dU ((a3.2.getD (0 + (IntKind.i64.wrap (a3.1 - 1)).toNat) default).loop.2))]) (ds:=[dU ((a3.2.getD (0 + (IntKind.i64.wrap (a3.1 - 1)).toNat) default).epoch),dU ((a3.2.getD (0 + (IntKind.i64.wrap (a3.1 - 1)).toNat) default).loop.1),dU ((a3.2.getD (0 + (IntKind.i64.wrap (a3.1 - 1)).toNat) default).loop.2)]) (z02) a3.2 (a3.2.getD (0 + (IntKind.i64.wrap (a3.1 - 1)).toNat) default) rfl (by kernel_rfl) rfl rfl rfl hc12 rfl rfl (.refl _) rfl rfl rfl rfl
        · exact DOk.one fun r hr=>One.storeT (xs:=[.d (dU ((a3.2.getD (0 + a3.1.toNat) default).epoch)),.d (dU ((a3.2.getD (0 + a3.1.toNat) default).loop.1)),.d (dU ((a3.2.getD (0 + a3.1.toNat) default).loop.2))]) (ds:=[dU ((a3.2.getD (0 + a3.1.toNat) default).epoch),dU ((a3.2.getD (0 + a3.1.toNat) default).loop.1),dU ((a3.2.getD (0 + a3.1.toNat) default).loop.2)]) (z02) (a3.2.set (0 + a3.1.toNat) (a3.2.getD (0 + (IntKind.i64.wrap (a3.1 - 1)).toNat) default)) (a3.2.getD (0 + a3.1.toNat) default) rfl (by kernel_rfl) rfl rfl rfl hc14 rfl rfl (.refl _) rfl rfl rfl rfl
        exact ⟨rfl,rfl⟩
       ·refine At.eqS (s':=⟨[(0,.c (oC 5000 3 ((a3.2.set (0 + a3.1.toNat) (a3.2.getD (0 + (IntKind.i64.wrap (a3.1 - 1)).toNat) default)).set (0 + (IntKind.i64.wrap (a3.1 - 1)).toNat) (a3.2.getD (0 + a3.1.toNat) default)))),(1,cD (dI p1)),(2,cD (dI p2)),(3,cD (.fn 74 [])),(8,cD (dI a1.1)),(9,cD (dI a3.1))],[(5000,vL 3 z02 ((a3.2.set (0 + a3.1.toNat) (a3.2.getD (0 + (IntKind.i64.wrap (a3.1 - 1)).toNat) default)).set (0 + (IntKind.i64.wrap (a3.1 - 1)).toNat) (a3.2.getD (0 + a3.1.toNat) default)))]⟩) (by simp only [oC,vL,List.length_set]) ?_
        refine At.done rfl ?_
        refine Tri.reg ?_
        refine At.sg 3 [0,1,2,3,8,9] [5000] (z00 3) ?_
        refine At.done rfl ?_
        cases h
        exact kr
      ·refine Tri.kp [0,1,2,3,8,9] [5000] ?_
       refine Tri.exit ?_
       cases h
       exact ⟨rfl,kr⟩
     ·rcases z1f h with ⟨hp15,h⟩ | ⟨hp15,h⟩
      ·obtain ⟨hc16,h⟩:=z03 h
       obtain ⟨hc17,h⟩:=z03 h
       obtain ⟨hc18,h⟩:=z03 h
       obtain ⟨hc19,h⟩:=z03 h
       obtain ⟨r20,hr20,h⟩:=z04 h
       refine Tri.dC [.a [9] [],.a [1] [],.a [18,19] [],.m ⟨[(20,cD (.bool (decide (p1 < a3.1))))],[]⟩ ⟨[(21,.c (.d (.bool true)))],[]⟩ [] [] [],.a [3,21] [],.a [0,21] [],.a [9,21] [],.a [21,23,24] [5000],.a [21,25] [5000],.a [0,21] [],.a [9,21] [],.a [21,28] [],.a [21,27,29] [5000],.a [21,30] [5000],.m ⟨[(21,cD (.bool true)),(22,cD (.fn 74 [])),(26,.agg (cTime (a3.2.getD (0 + a3.1.toNat) default))),(31,.agg (cTime (a3.2.getD (0 + (IntKind.i64.wrap (a3.1 - 1)).toNat) default)))],[]⟩ ⟨[(32,cD (dI r20))],[]⟩ [] [] [],.a [21,32] [],.a [21,33] []] [0,1,2,3,8,9,34] [5000] (tN 6 (ai hc16 (ai hc17 (tN 3 (ai hc18 (ai hc19 (z00 2))))))) (.a (.a (.a (.m ?_ (.a (.a (.a (.a (.a (.a (.a (.a (.a (.a (.m ?_ (.a (.a .z))))))))))))))))) ?_
       · exact DOk.stepP (fun b => .val (.c (.d (.bool b))) (True)) (p:=(decide (p1 < a3.1))) hp15 (fun r=>by kernel_rfl) (fun r=>by kernel_rfl) trivial (by kernel_rfl) (by kernel_rfl) (fun r=>rfl)
       · exact DOk.cA [] [.agg (cTime (a3.2.getD (0 + a3.1.toNat) default)),.agg (cTime (a3.2.getD (0 + (IntKind.i64.wrap (a3.1 - 1)).toNat) default))] (z1n hr20) fun r=>(.cons (.refl _) (.cons (.refl _) .nil))
       exact ⟨_,h,kr⟩
      ·refine Tri.dC [.a [9] [],.a [1] [],.a [18,19] [],.m ⟨[(20,cD (.bool (decide (p1 < a3.1))))],[]⟩ ⟨[(21,.c (.d (.bool false)))],[]⟩ [] [] [],.a [3,21] [],.a [0,21] [],.a [9,21] [],.a [21,23,24] [],.a [21,25] [],.a [0,21] [],.a [9,21] [],.a [21,28] [],.a [21,27,29] [],.a [21,30] [],.a [21,22,26,31] [],.a [21,32] [],.a [21,33] []] [0,1,2,3,8,9,34] [5000] (z00 4) (.a (.a (.a (.m ?_ (.a (.a (.a (.a (.a (.a (.a (.a (.a (.a (.a (.a (.a .z))))))))))))))))) ?_
       · exact DOk.stepP (fun b => .val (.c (.d (.bool b))) (True)) (p:=(decide (p1 < a3.1))) hp15 (fun r=>by kernel_rfl) (fun r=>by kernel_rfl) trivial (by kernel_rfl) (by kernel_rfl) (fun r=>rfl)
       exact ⟨_,h,kr⟩
    ·intro a4 h
     refine Tri.reg ?_
     refine At.sg 3 [0,1,2,3,8] [5000] (z00 3) ?_
     refine At.done rfl ?_
     cases h
     exact kr
    · exact fun x=>x.elim
   ·refine Tri.kp [] [5000] ?_
    refine Tri.exit ?_
    cases h
    exact ⟨rfl,kr⟩
  ·intro a2 h
   cases h
   exact RetAt.k
  · exact fun x=>x.elim
theorem z4c {fuel:Nat} {p1:Int} {p2:Int} {p3:Int} {l0:List Time} {q:List Time} (h:z1q fuel p1 p2 p3 l0=some q) :
    Summ Tryz.prog 161 [.c (oC 5000 3 l0),cD (dI p1),cD (dI p2),cD (dI p3),cD (.fn 74 [])] [(5000,vL 3 z02 l0)] (.tup []) [(5000,vL 3 z02 q)]:=by
  refine Summ.intro Tryz.func161 rfl (by kernel_rfl) (by kernel_rfl) [] rfl ?_
  rintro ⟨P,w0,G0,V,LL,lk,N, φ0,fx⟩ rfl rfl rfl rfl
  unfold z1q at h
  refine Tri.sg [0,2,3,4,10] [5000] (z00 2) ?_
  refine Tri.keep [0,2,3,4,10] [5000] (s':=⟨[(0,.c (oC 5000 3 l0)),(2,cD (dI p2)),(3,cD (dI p3)),(4,cD (.fn 74 [])),(10,cD (dI p1))],[(5000,vL 3 z02 l0)]⟩) (by kernel_rfl) ?_
  refine Tri.loopK (fuel:=fuel) (st0:=(p1,l0)) (fun (x:List Time) s=>RetAt Tryz.prog Tryz.f161 (.tup []) [(5000,vL 3 z02 x)] s) (fun (a1:Int × (List Time))=>⟨[(0,.c (oC 5000 3 a1.2)),(2,cD (dI p2)),(3,cD (dI p3)),(4,cD (.fn 74 [])),(10,cD (dI a1.1))],[(5000,vL 3 z02 a1.2)]⟩) (fun (a1:Int × (List Time))=>⟨[],[(5000,vL 3 z02 a1.2)]⟩) h ?_ ?_ ?_
  ·intro a1 c h
   refine Tri.blockB ?_
   refine Tri.sg [0,2,3,4,10,11] [5000] (z00 4) ?_
   refine Tri.seqS ?_
   refine Tri.segL [0,2,3,4,10,11,18] [5000] ⟨[(0,.c (oC 5000 3 a1.2)),(2,cD (dI p2)),(3,cD (dI p3)),(4,cD (.fn 74 [])),(10,cD (dI a1.1)),(11,cD (dI (IntKind.i64.wrap ((IntKind.i64.wrap ((2:Int) * a1.1)) + 1)))),(18,cD (.bool (decide (p2≤(IntKind.i64.wrap ((IntKind.i64.wrap ((2:Int) * a1.1)) + 1))))))],[(5000,vL 3 z02 a1.2)]⟩ _ (by kernel_rfl) (z00 3) ?_
   refine Tri.condK h (fun h => ?_) (fun h => ?_)
   ·refine Tri.kp [] [5000] ?_
    refine Tri.exit ?_
    cases h
    exact ⟨rfl,kr⟩
   ·refine Tri.skip ?_
    refine Tri.seqJ (fun (a3:Int)=>⟨[(0,.c (oC 5000 3 a1.2)),(2,cD (dI p2)),(3,cD (dI p3)),(4,cD (.fn 74 [])),(10,cD (dI a1.1)),(11,cD (dI a3))],[(5000,vL 3 z02 a1.2)]⟩) h (fun a3 h => ?_) (fun j4 h => ?_)
    ·refine Tri.seqS ?_
     refine Tri.seqS ?_
     obtain ⟨hc5,h⟩:=z03 h
     obtain ⟨hc6,h⟩:=z03 h
     obtain ⟨hc7,h⟩:=z03 h
     obtain ⟨hc8,h⟩:=z03 h
     obtain ⟨r9,hr9,h⟩:=z04 h
     refine Tri.dS ⟨[(0,.c (oC 5000 3 a1.2)),(2,cD (dI p2)),(3,cD (dI p3)),(4,cD (.fn 74 [])),(10,cD (dI a1.1)),(11,cD (dI a3)),(58,cD (.bool (!(decide (r9 < 0)))))],[(5000,vL 3 z02 a1.2)]⟩ [.a [4] [],.a [0] [],.a [3] [],.a [10] [],.a [45,46] [],.a [44,47] [5000],.a [48] [5000],.a [0] [],.a [3] [],.a [11] [],.a [51,52] [],.a [50,53] [5000],.a [54] [5000],.m ⟨[(43,cD (.fn 74 [])),(49,.agg (cTime (a1.2.getD (0 + (IntKind.i64.wrap (p3 + a1.1)).toNat) default))),(55,.agg (cTime (a1.2.getD (0 + (IntKind.i64.wrap (p3 + a3)).toNat) default)))],[]⟩ ⟨[(56,cD (dI r9))],[]⟩ [] [] [],.a [56] [],.a [57] []] [0,2,3,4,10,11,58] [5000] (tN 5 (ai hc5 (ai hc6 (tN 4 (ai hc7 (ai hc8 (z00 2))))))) (.a (.a (.a (.a (.a (.a (.a (.a (.a (.a (.a (.a (.a (.m ?_ (.a (.a .z)))))))))))))))) ?_
     · exact DOk.cA [] [.agg (cTime (a1.2.getD (0 + (IntKind.i64.wrap (p3 + a1.1)).toNat) default)),.agg (cTime (a1.2.getD (0 + (IntKind.i64.wrap (p3 + a3)).toNat) default))] (z1n hr9) fun r=>(.cons (.refl _) (.cons (.refl _) .nil))
     refine Tri.condK h (fun h => ?_) (fun h => ?_)
     ·refine Tri.ret ?_
      cases h
      exact RetAt.k
     ·refine Tri.skip ?_
      refine Tri.seqS ?_
      obtain ⟨hc10,h⟩:=z03 h
      obtain ⟨hc11,h⟩:=z03 h
      obtain ⟨hc12,h⟩:=z03 h
      obtain ⟨hc13,h⟩:=z03 h
      obtain ⟨hc14,h⟩:=z03 h
      obtain ⟨hc15,h⟩:=z03 h
      obtain ⟨hc16,h⟩:=z03 h
      obtain ⟨hc17,h⟩:=z03 h
      refine Tri.afterA ⟨[(0,.c (oC 5000 3 a1.2)),(2,cD (dI p2)),(3,cD (dI p3)),(4,cD (.fn 74 [])),(11,cD (dI a3))],[(5000,vL 3 z02 ((a1.2.set (0 + (IntKind.i64.wrap (p3 + a1.1)).toNat) (a1.2.getD (0 + (IntKind.i64.wrap (p3 + a3)).toNat) default)).set (0 + (IntKind.i64.wrap (p3 + a3)).toNat) (a1.2.getD (0 + (IntKind.i64.wrap (p3 + a1.1)).toNat) default)))]⟩ ?_ ?_
      ·refine Tri.dS ⟨[(0,.c (oC 5000 3 a1.2)),(2,cD (dI p2)),(3,cD (dI p3)),(4,cD (.fn 74 [])),(11,cD (dI a3))],[(5000,vL 3 z02 ((a1.2.set (0 + (IntKind.i64.wrap (p3 + a1.1)).toNat) (a1.2.getD (0 + (IntKind.i64.wrap (p3 + a3)).toNat) default)).set (0 + (IntKind.i64.wrap (p3 + a3)).toNat) (a1.2.getD (0 + (IntKind.i64.wrap (p3 + a1.1)).toNat) default)))]⟩ [.a [0] [],.a [3] [],.a [10] [],.a [60,61] [],.a [0] [],.a [3] [],.a [11] [],.a [64,65] [],.a [0] [],.a [3] [],.a [11] [],.a [68,69] [],.a [67,70] [5000],.a [71] [5000],.a [0] [],.a [3] [],.a [10] [],.a [74,75] [],.a [73,76] [5000],.a [77] [5000],.a [59,62] [5000],.m ⟨[(72,.agg (cTime (a1.2.getD (0 + (IntKind.i64.wrap (p3 + a3)).toNat) default))),(79,.c (.vptr 5000 3 (0 + (IntKind.i64.wrap (p3 + a1.1)).toNat) 0))],[(5000,vL 3 z02 a1.2)]⟩ ⟨[],[(5000,vL 3 z02 (a1.2.set (0 + (IntKind.i64.wrap (p3 + a1.1)).toNat) (a1.2.getD (0 + (IntKind.i64.wrap (p3 + a3)).toNat) default)))]⟩ [] [] [],.a [63,66] [5000],.m ⟨[(78,.agg (cTime (a1.2.getD (0 + (IntKind.i64.wrap (p3 + a1.1)).toNat) default))),(80,.c (.vptr 5000 3 (0 + (IntKind.i64.wrap (p3 + a3)).toNat) 0))],[(5000,vL 3 z02 (a1.2.set (0 + (IntKind.i64.wrap (p3 + a1.1)).toNat) (a1.2.getD (0 + (IntKind.i64.wrap (p3 + a3)).toNat) default)))]⟩ ⟨[],[(5000,vL 3 z02 ((a1.2.set (0 + (IntKind.i64.wrap (p3 + a1.1)).toNat) (a1.2.getD (0 + (IntKind.i64.wrap (p3 + a3)).toNat) default)).set (0 + (IntKind.i64.wrap (p3 + a3)).toNat) (a1.2.getD (0 + (IntKind.i64.wrap (p3 + a1.1)).toNat) default)))]⟩ [] [] []] [0,2,3,4,11] [5000] (tN 12 (ai hc10 (ai hc11 (tN 4 (ai hc12 (ai hc13 (ai hc14 (ai hc16 trivial)))))))) (.a (.a (.a (.a (.a (.a (.a (.a (.a (.a (.a (.a (.a (.a (.a (.a (.a (.a (.a (.a (.a (.m ?_ (.a (.m ?_ .z)))))))))))))))))))))))) ?_
       · exact DOk.one fun r hr=>One.storeT (xs:=[.d (dU ((a1.2.getD (0 + (IntKind.i64.wrap (p3 + a3)).toNat) default).epoch)),.d (dU ((a1.2.getD (0 + (IntKind.i64.wrap (p3 + a3)).toNat) default).loop.1)),.d (dU ((a1.2.getD (0 + (IntKind.i64.wrap (p3 + a3)).toNat) default).loop.2))]) (ds:=[dU ((a1.2.getD (0 + (IntKind.i64.wrap (p3 + a3)).toNat) default).epoch),dU ((a1.2.getD (0 + (IntKind.i64.wrap (p3 + a3)).toNat) default).loop.1),dU ((a1.2.getD (0 + (IntKind.i64.wrap (p3 + a3)).toNat) default).loop.2)]) (z02) a1.2 (a1.2.getD (0 + (IntKind.i64.wrap (p3 + a3)).toNat) default) rfl (by kernel_rfl) rfl rfl rfl hc15 rfl rfl (.refl _) rfl rfl rfl rfl
       · exact DOk.one fun r hr=>One.storeT (xs:=[.d (dU ((a1.2.getD (0 + (IntKind.i64.wrap (p3 + a1.1)).toNat) default).epoch)),.d (dU ((a1.2.getD (0 + (IntKind.i64.wrap (p3 + a1.1)).toNat) default).loop.1)),.d (dU ((a1.2.getD (0 + (IntKind.i64.wrap (p3 + a1.1)).toNat) default).loop.2))]) (ds:=[dU ((a1.2.getD (0 + (IntKind.i64.wrap (p3 + a1.1)).toNat) default).epoch),dU ((a1.2.getD (0 + (IntKind.i64.wrap (p3 + a1.1)).toNat) default).loop.1),dU ((a1.2.getD (0 + (IntKind.i64.wrap (p3 + a1.1)).toNat) default).loop.2)]) (z02) (a1.2.set (0 + (IntKind.i64.wrap (p3 + a1.1)).toNat) (a1.2.getD (0 + (IntKind.i64.wrap (p3 + a3)).toNat) default)) (a1.2.getD (0 + (IntKind.i64.wrap (p3 + a1.1)).toNat) default) rfl (by kernel_rfl) rfl rfl rfl hc17 rfl rfl (.refl _) rfl rfl rfl rfl
       exact ⟨rfl,rfl⟩
      ·refine At.eqS (s':=⟨[(0,.c (oC 5000 3 ((a1.2.set (0 + (IntKind.i64.wrap (p3 + a1.1)).toNat) (a1.2.getD (0 + (IntKind.i64.wrap (p3 + a3)).toNat) default)).set (0 + (IntKind.i64.wrap (p3 + a3)).toNat) (a1.2.getD (0 + (IntKind.i64.wrap (p3 + a1.1)).toNat) default)))),(2,cD (dI p2)),(3,cD (dI p3)),(4,cD (.fn 74 [])),(11,cD (dI a3))],[(5000,vL 3 z02 ((a1.2.set (0 + (IntKind.i64.wrap (p3 + a1.1)).toNat) (a1.2.getD (0 + (IntKind.i64.wrap (p3 + a3)).toNat) default)).set (0 + (IntKind.i64.wrap (p3 + a3)).toNat) (a1.2.getD (0 + (IntKind.i64.wrap (p3 + a1.1)).toNat) default)))]⟩) (by simp only [oC,vL,List.length_set]) ?_
       refine At.done rfl ?_
       refine Tri.reg ?_
       refine At.sg 2 [0,2,3,4,10] [5000] (z00 2) ?_
       refine At.done rfl ?_
       cases h
       exact kr
    ·refine Tri.seqJ (fun (a18:Int × Bool)=>⟨[(0,.c (oC 5000 3 a1.2)),(2,cD (dI p2)),(3,cD (dI p3)),(4,cD (.fn 74 [])),(10,cD (dI a1.1)),(11,cD (dI a18.1)),(40,cD (.bool a18.2))],[(5000,vL 3 z02 a1.2)]⟩) h (fun a18 h => ?_) (fun j19 h => ?_)
     ·refine Tri.condK h (fun h => ?_) (fun h => ?_)
      ·refine Tri.reg ?_
       refine At.sg 3 [0,2,3,4,10,11] [5000] (z00 3) ?_
       refine At.done rfl ?_
       exact ⟨_,h,kr⟩
      ·refine Tri.kp [0,2,3,4,10,11] [5000] ?_
       refine Tri.skip ?_
       exact ⟨_,h,kr⟩
     ·rcases z1f h with ⟨hp20,h⟩ | ⟨hp20,h⟩
      ·obtain ⟨hc21,h⟩:=z03 h
       obtain ⟨hc22,h⟩:=z03 h
       obtain ⟨hc23,h⟩:=z03 h
       obtain ⟨hc24,h⟩:=z03 h
       obtain ⟨r25,hr25,h⟩:=z04 h
       refine Tri.dC [.a [11] [],.a [19] [],.a [2] [],.a [20,21] [],.m ⟨[(22,cD (.bool (decide ((IntKind.i64.wrap ((IntKind.i64.wrap ((IntKind.i64.wrap ((2:Int) * a1.1)) + 1)) + 1)) < p2))))],[]⟩ ⟨[(23,.c (.d (.bool true)))],[]⟩ [] [] [],.a [4,23] [],.a [0,23] [],.a [3,23] [],.a [11,23] [],.a [23,26,27] [],.a [23,25,28] [5000],.a [23,29] [5000],.a [0,23] [],.a [3,23] [],.a [11,23] [],.a [23,32,33] [],.a [23,34] [],.a [23,31,35] [5000],.a [23,36] [5000],.m ⟨[(23,cD (.bool true)),(24,cD (.fn 74 [])),(30,.agg (cTime (a1.2.getD (0 + (IntKind.i64.wrap (p3 + (IntKind.i64.wrap ((IntKind.i64.wrap ((2:Int) * a1.1)) + 1)))).toNat) default))),(37,.agg (cTime (a1.2.getD (0 + (IntKind.i64.wrap ((IntKind.i64.wrap (p3 + (IntKind.i64.wrap ((IntKind.i64.wrap ((2:Int) * a1.1)) + 1)))) + 1)).toNat) default)))],[]⟩ ⟨[(38,cD (dI r25))],[]⟩ [] [] [],.a [23,38] [],.a [23,39] []] [0,2,3,4,10,11,40] [5000] (tN 9 (ai hc21 (ai hc22 (tN 5 (ai hc23 (ai hc24 (z00 2))))))) (.a (.a (.a (.a (.m ?_ (.a (.a (.a (.a (.a (.a (.a (.a (.a (.a (.a (.a (.a (.a (.m ?_ (.a (.a .z)))))))))))))))))))))) ?_
       · exact DOk.stepP (fun b => .val (.c (.d (.bool b))) (True)) (p:=(decide ((IntKind.i64.wrap ((IntKind.i64.wrap ((IntKind.i64.wrap ((2:Int) * a1.1)) + 1)) + 1)) < p2))) hp20 (fun r=>by kernel_rfl) (fun r=>by kernel_rfl) trivial (by kernel_rfl) (by kernel_rfl) (fun r=>rfl)
       · exact DOk.cA [] [.agg (cTime (a1.2.getD (0 + (IntKind.i64.wrap (p3 + (IntKind.i64.wrap ((IntKind.i64.wrap ((2:Int) * a1.1)) + 1)))).toNat) default)),.agg (cTime (a1.2.getD (0 + (IntKind.i64.wrap ((IntKind.i64.wrap (p3 + (IntKind.i64.wrap ((IntKind.i64.wrap ((2:Int) * a1.1)) + 1)))) + 1)).toNat) default))] (z1n hr25) fun r=>(.cons (.refl _) (.cons (.refl _) .nil))
       exact ⟨_,h,kr⟩
      ·refine Tri.dC [.a [11] [],.a [19] [],.a [2] [],.a [20,21] [],.m ⟨[(22,cD (.bool (decide ((IntKind.i64.wrap ((IntKind.i64.wrap ((IntKind.i64.wrap ((2:Int) * a1.1)) + 1)) + 1)) < p2))))],[]⟩ ⟨[(23,.c (.d (.bool false)))],[]⟩ [] [] [],.a [4,23] [],.a [0,23] [],.a [3,23] [],.a [11,23] [],.a [23,26,27] [],.a [23,25,28] [],.a [23,29] [],.a [0,23] [],.a [3,23] [],.a [11,23] [],.a [23,32,33] [],.a [23,34] [],.a [23,31,35] [],.a [23,36] [],.a [23,24,30,37] [],.a [23,38] [],.a [23,39] []] [0,2,3,4,10,11,40] [5000] (z00 5) (.a (.a (.a (.a (.m ?_ (.a (.a (.a (.a (.a (.a (.a (.a (.a (.a (.a (.a (.a (.a (.a (.a (.a .z)))))))))))))))))))))) ?_
       · exact DOk.stepP (fun b => .val (.c (.d (.bool b))) (True)) (p:=(decide ((IntKind.i64.wrap ((IntKind.i64.wrap ((IntKind.i64.wrap ((2:Int) * a1.1)) + 1)) + 1)) < p2))) hp20 (fun r=>by kernel_rfl) (fun r=>by kernel_rfl) trivial (by kernel_rfl) (by kernel_rfl) (fun r=>rfl)
       exact ⟨_,h,kr⟩
  ·intro a2 h
   cases h
   exact RetAt.k
  · exact fun x s hx hr=>by cases hx; exact hr
theorem z78 {fuel:Nat} {p1:Int} {p2:Int} {l0:List Time} {q:List Time} (h:z1o fuel p1 p2 l0=some q) :
    Summ Tryz.prog 149 [.c (oC 5000 3 l0),cD (dI p1),cD (dI p2),cD (.fn 74 [])] [(5000,vL 3 z02 l0)] (.tup []) [(5000,vL 3 z02 q)]:=by
  refine Summ.intro Tryz.func149 rfl (by kernel_rfl) (by kernel_rfl) [] rfl ?_
  rintro ⟨P,w0,G0,V,LL,lk,N, φ0,fx⟩ rfl rfl rfl rfl
  unfold z1o at h
  refine Tri.sg [0,1,2,3,8] [5000] (z00 2) ?_
  refine Tri.sg [0,1,2,3,8,9] [5000] (z00 1) ?_
  refine Tri.sg [0,3,8,9,10] [5000] (z00 4) ?_
  refine Tri.seqS ?_
  refine Tri.sg [0,3,8,9,10,11] [5000] (tN 2 (ai (show ((2:Int) ≠ 0) from (by decide:(2:Int) ≠ 0)) (z00 1))) ?_
  refine Tri.lK ((IntKind.i64.wrap ((IntKind.i64.wrap ((IntKind.i64.wrap (p2 - p1)) - 1)).tdiv 2)),l0) (fun (x:Empty) s=>False) (fun (a1:Int × (List Time))=>⟨[(0,.c (oC 5000 3 a1.2)),(3,cD (.fn 74 [])),(8,cD (dI p1)),(9,cD (dI 0)),(10,cD (dI (IntKind.i64.wrap (p2 - p1)))),(11,cD (dI a1.1))],[(5000,vL 3 z02 a1.2)]⟩) [0,3,8,9,10,11] [5000] h ?_ ?_ ?_
  ·intro a1 c h
   refine Tri.seqS ?_
   refine Tri.sg [0,3,8,9,10,11,21] [5000] (z00 2) ?_
   refine Tri.condK h (fun h => ?_) (fun h => ?_)
   ·refine Tri.skip ?_
    refine Tri.seqS ?_
    refine Tri.blockB ?_
    refine Tri.reg ?_
    refine At.sg 5 [0,3,8,9,10,11,24,25,26,27,28] [5000] (z00 5) ?_
    obtain ⟨r15,hr15,h⟩:=z04 h
    refine At.callL (nf:=0) (caps:=[]) (xs:=[.c (oC 5000 3 a1.2),cD (dI a1.1),cD (dI (IntKind.i64.wrap (p2 - p1))),cD (dI p1),cD (.fn 74 [])]) [(5000,5000)] [0,3,8,9,10,11] [] (s0:=⟨[(0,.c (oC 5000 3 a1.2)),(3,cD (.fn 74 [])),(8,cD (dI p1)),(9,cD (dI 0)),(10,cD (dI (IntKind.i64.wrap (p2 - p1)))),(11,cD (dI a1.1))],[]⟩) (z4c hr15) rfl rfl (by kernel_rfl) rfl (by kernel_rfl) (by kernel_rfl) (.ren rfl rfl (.flat (.refl _) rfl rfl (.flat (.refl _) rfl rfl (.flat (.refl _) rfl rfl (.flat (.refl _) rfl rfl .nil))))) ⟨⟨by kernel_rfl,by kernel_rfl⟩,trivial⟩ (by kernel_rfl) (by kernel_rfl) (by kernel_rfl) (by kernel_rfl) (by kernel_rfl) (by kernel_rfl) (by kernel_rfl) (by kernel_rfl) (by kernel_rfl) ⟨[(29,.tup []),(0,.c (oC 5000 3 a1.2)),(3,cD (.fn 74 [])),(8,cD (dI p1)),(9,cD (dI 0)),(10,cD (dI (IntKind.i64.wrap (p2 - p1)))),(11,cD (dI a1.1))],[(5000,vL 3 z02 r15)]⟩ (by kernel_rfl) ?_
    obtain ⟨hc16,h⟩:=z03 h
    refine At.eqS ⟨[(29,.tup []),(0,.c (oC 5000 3 r15)),(3,cD (.fn 74 [])),(8,cD (dI p1)),(9,cD (dI 0)),(10,cD (dI (IntKind.i64.wrap (p2 - p1)))),(11,cD (dI a1.1))],[(5000,vL 3 z02 r15)]⟩ (by simp only [oC,vL,hc16]) ?_
    refine At.done rfl ?_
    refine Tri.reg ?_
    refine At.sg 3 [0,3,8,9,10,11] [5000] (z00 3) ?_
    refine At.done rfl ?_
    cases h
    exact kr
   ·refine Tri.kp [0,3,8,9,10,11] [5000] ?_
    refine Tri.exit ?_
    cases h
    exact ⟨rfl,kr⟩
  ·intro a2 h
   refine Tri.sg [0,3,8,9,12] [5000] (z00 3) ?_
   refine Tri.keep [0,3,8,9,12] [5000] (s':=⟨[(0,.c (oC 5000 3 a2.2)),(3,cD (.fn 74 [])),(8,cD (dI p1)),(9,cD (dI 0)),(12,cD (dI (IntKind.i64.wrap ((IntKind.i64.wrap (p2 - p1)) - 1))))],[(5000,vL 3 z02 a2.2)]⟩) (by kernel_rfl) ?_
   refine Tri.loopK (fuel:=fuel) (st0:=((IntKind.i64.wrap ((IntKind.i64.wrap (p2 - p1)) - 1)),a2.2)) (fun (x:Empty) s=>False) (fun (a3:Int × (List Time))=>⟨[(0,.c (oC 5000 3 a3.2)),(3,cD (.fn 74 [])),(8,cD (dI p1)),(9,cD (dI 0)),(12,cD (dI a3.1))],[(5000,vL 3 z02 a3.2)]⟩) (fun (a3:Int × (List Time))=>⟨[],[(5000,vL 3 z02 a3.2)]⟩) h ?_ ?_ ?_
   ·intro a3 c h
    refine Tri.seqS ?_
    refine Tri.segL [0,3,8,9,12,33] [5000] ⟨[(0,.c (oC 5000 3 a3.2)),(3,cD (.fn 74 [])),(8,cD (dI p1)),(9,cD (dI 0)),(12,cD (dI a3.1)),(33,cD (.bool (decide (0≤a3.1))))],[(5000,vL 3 z02 a3.2)]⟩ _ (by kernel_rfl) (z00 2) ?_
    refine Tri.condK h (fun h => ?_) (fun h => ?_)
    ·refine Tri.skip ?_
     refine Tri.seqS ?_
     refine Tri.blockB ?_
     refine Tri.seqS ?_
     obtain ⟨hc5,h⟩:=z03 h
     obtain ⟨hc6,h⟩:=z03 h
     obtain ⟨hc7,h⟩:=z03 h
     obtain ⟨hc8,h⟩:=z03 h
     obtain ⟨hc9,h⟩:=z03 h
     obtain ⟨hc10,h⟩:=z03 h
     obtain ⟨hc11,h⟩:=z03 h
     obtain ⟨hc12,h⟩:=z03 h
     refine Tri.afterA ⟨[(0,.c (oC 5000 3 a3.2)),(3,cD (.fn 74 [])),(8,cD (dI p1)),(9,cD (dI 0)),(12,cD (dI a3.1))],[(5000,vL 3 z02 ((a3.2.set (0 + p1.toNat) (a3.2.getD (0 + (IntKind.i64.wrap (p1 + a3.1)).toNat) default)).set (0 + (IntKind.i64.wrap (p1 + a3.1)).toNat) (a3.2.getD (0 + p1.toNat) default)))]⟩ ?_ ?_
     ·refine Tri.dS ⟨[(0,.c (oC 5000 3 a3.2)),(3,cD (.fn 74 [])),(8,cD (dI p1)),(9,cD (dI 0)),(12,cD (dI a3.1))],[(5000,vL 3 z02 ((a3.2.set (0 + p1.toNat) (a3.2.getD (0 + (IntKind.i64.wrap (p1 + a3.1)).toNat) default)).set (0 + (IntKind.i64.wrap (p1 + a3.1)).toNat) (a3.2.getD (0 + p1.toNat) default)))]⟩ [.a [0] [],.a [8] [],.a [0] [],.a [8] [],.a [12] [],.a [39,40] [],.a [0] [],.a [8] [],.a [12] [],.a [43,44] [],.a [42,45] [5000],.a [46] [5000],.a [0] [],.a [8] [],.a [48,49] [5000],.a [50] [5000],.a [36,37] [5000],.m ⟨[(47,.agg (cTime (a3.2.getD (0 + (IntKind.i64.wrap (p1 + a3.1)).toNat) default))),(52,.c (.vptr 5000 3 (0 + p1.toNat) 0))],[(5000,vL 3 z02 a3.2)]⟩ ⟨[],[(5000,vL 3 z02 (a3.2.set (0 + p1.toNat) (a3.2.getD (0 + (IntKind.i64.wrap (p1 + a3.1)).toNat) default)))]⟩ [] [] [],.a [38,41] [5000],.m ⟨[(51,.agg (cTime (a3.2.getD (0 + p1.toNat) default))),(53,.c (.vptr 5000 3 (0 + (IntKind.i64.wrap (p1 + a3.1)).toNat) 0))],[(5000,vL 3 z02 (a3.2.set (0 + p1.toNat) (a3.2.getD (0 + (IntKind.i64.wrap (p1 + a3.1)).toNat) default)))]⟩ ⟨[],[(5000,vL 3 z02 ((a3.2.set (0 + p1.toNat) (a3.2.getD (0 + (IntKind.i64.wrap (p1 + a3.1)).toNat) default)).set (0 + (IntKind.i64.wrap (p1 + a3.1)).toNat) (a3.2.getD (0 + p1.toNat) default)))]⟩ [] [] []] [0,3,8,9,12] [5000] (tN 10 (ai hc5 (ai hc6 (tN 2 (ai hc7 (ai hc8 (ai hc9 (ai hc11 trivial)))))))) (.a (.a (.a (.a (.a (.a (.a (.a (.a (.a (.a (.a (.a (.a (.a (.a (.a (.m ?_ (.a (.m ?_ .z)))))))))))))))))))) ?_
      · exact DOk.one fun r hr=>One.storeT (xs:=[.d (dU ((a3.2.getD (0 + (IntKind.i64.wrap (p1 + a3.1)).toNat) default).epoch)),.d (dU ((a3.2.getD (0 + (IntKind.i64.wrap (p1 + a3.1)).toNat) default).loop.1)),.d (dU ((a3.2.getD (0 + (IntKind.i64.wrap (p1 + a3.1)).toNat) default).loop.2))]) (ds:=[dU ((a3.2.getD (0 + (IntKind.i64.wrap (p1 + a3.1)).toNat) default).epoch),dU ((a3.2.getD (0 + (IntKind.i64.wrap (p1 + a3.1)).toNat) default).loop.1),dU ((a3.2.getD (0 + (IntKind.i64.wrap (p1 + a3.1)).toNat) default).loop.2)]) (z02) a3.2 (a3.2.getD (0 + (IntKind.i64.wrap (p1 + a3.1)).toNat) default) rfl (by kernel_rfl) rfl rfl rfl hc10 rfl rfl (.refl _) rfl rfl rfl rfl
      · exact DOk.one fun r hr=>One.storeT (xs:=[.d (dU ((a3.2.getD (0 + p1.toNat) default).epoch)),.d (dU ((a3.2.getD (0 + p1.toNat) default).loop.1)),.d (dU ((a3.2.getD (0 + p1.toNat) default).loop.2))]) (ds:=[dU ((a3.2.getD (0 + p1.toNat) default).epoch),dU ((a3.2.getD (0 + p1.toNat) default).loop.1),dU ((a3.2.getD (0 + p1.toNat) default).loop.2)]) (z02) (a3.2.set (0 + p1.toNat) (a3.2.getD (0 + (IntKind.i64.wrap (p1 + a3.1)).toNat) default)) (a3.2.getD (0 + p1.toNat) default) rfl (by kernel_rfl) rfl rfl rfl hc12 rfl rfl (.refl _) rfl rfl rfl rfl
      exact ⟨rfl,rfl⟩
     ·refine At.eqS (s':=⟨[(0,.c (oC 5000 3 ((a3.2.set (0 + p1.toNat) (a3.2.getD (0 + (IntKind.i64.wrap (p1 + a3.1)).toNat) default)).set (0 + (IntKind.i64.wrap (p1 + a3.1)).toNat) (a3.2.getD (0 + p1.toNat) default)))),(3,cD (.fn 74 [])),(8,cD (dI p1)),(9,cD (dI 0)),(12,cD (dI a3.1))],[(5000,vL 3 z02 ((a3.2.set (0 + p1.toNat) (a3.2.getD (0 + (IntKind.i64.wrap (p1 + a3.1)).toNat) default)).set (0 + (IntKind.i64.wrap (p1 + a3.1)).toNat) (a3.2.getD (0 + p1.toNat) default)))]⟩) (by simp only [oC,vL,List.length_set]) ?_
      refine At.done rfl ?_
      refine Tri.reg ?_
      refine At.sg 5 [0,3,8,9,12,54,55,56,57,58] [5000] (z00 5) ?_
      obtain ⟨r13,hr13,h⟩:=z04 h
      refine At.callL (nf:=0) (caps:=[]) (xs:=[.c (oC 5000 3 ((a3.2.set (0 + p1.toNat) (a3.2.getD (0 + (IntKind.i64.wrap (p1 + a3.1)).toNat) default)).set (0 + (IntKind.i64.wrap (p1 + a3.1)).toNat) (a3.2.getD (0 + p1.toNat) default))),cD (dI 0),cD (dI a3.1),cD (dI p1),cD (.fn 74 [])]) [(5000,5000)] [0,3,8,9,12] [] (s0:=⟨[(0,.c (oC 5000 3 ((a3.2.set (0 + p1.toNat) (a3.2.getD (0 + (IntKind.i64.wrap (p1 + a3.1)).toNat) default)).set (0 + (IntKind.i64.wrap (p1 + a3.1)).toNat) (a3.2.getD (0 + p1.toNat) default)))),(3,cD (.fn 74 [])),(8,cD (dI p1)),(9,cD (dI 0)),(12,cD (dI a3.1))],[]⟩) (z4c hr13) rfl rfl (by kernel_rfl) rfl (by kernel_rfl) (by kernel_rfl) (.ren rfl rfl (.flat (.refl _) rfl rfl (.flat (.refl _) rfl rfl (.flat (.refl _) rfl rfl (.flat (.refl _) rfl rfl .nil))))) ⟨⟨by kernel_rfl,by kernel_rfl⟩,trivial⟩ (by kernel_rfl) (by kernel_rfl) (by kernel_rfl) (by kernel_rfl) (by kernel_rfl) (by kernel_rfl) (by kernel_rfl) (by kernel_rfl) (by kernel_rfl) ⟨[(59,.tup []),(0,.c (oC 5000 3 ((a3.2.set (0 + p1.toNat) (a3.2.getD (0 + (IntKind.i64.wrap (p1 + a3.1)).toNat) default)).set (0 + (IntKind.i64.wrap (p1 + a3.1)).toNat) (a3.2.getD (0 + p1.toNat) default)))),(3,cD (.fn 74 [])),(8,cD (dI p1)),(9,cD (dI 0)),(12,cD (dI a3.1))],[(5000,vL 3 z02 r13)]⟩ (by kernel_rfl) ?_
      obtain ⟨hc14,h⟩:=z03 h
      refine At.eqS ⟨[(59,.tup []),(0,.c (oC 5000 3 r13)),(3,cD (.fn 74 [])),(8,cD (dI p1)),(9,cD (dI 0)),(12,cD (dI a3.1))],[(5000,vL 3 z02 r13)]⟩ (by simp only [oC,vL,hc14]) ?_
      refine At.done rfl ?_
      refine Tri.reg ?_
      refine At.sg 3 [0,3,8,9,12] [5000] (z00 3) ?_
      refine At.done rfl ?_
      cases h
      exact kr
    ·refine Tri.kp [] [5000] ?_
     refine Tri.exit ?_
     cases h
     exact ⟨rfl,kr⟩
   ·intro a4 h
    cases h
    exact RetAt.k
   · exact fun x=>x.elim
  · exact fun x=>x.elim
theorem z2o {p0:List Time} {p1:Int} {p2:Int} {l0:Int} {q:Int × Int × Int} (h:z1i p0 p1 p2 l0=some q) :
    Summ Tryz.prog 169 [.c (wC 3 z02 p0),cD (dI p1),cD (dI p2),.c (.ptr 5000 0),cD (.fn 74 [])] [(5000,.box [.d (dI l0)])] (.tup [(false,[.d (dI q.1)]),(false,[.d (dI q.2.1)])]) [(5000,.box [.d (dI q.2.2)])]:=by
  refine Summ.intro Tryz.func169 rfl (by kernel_rfl) (by kernel_rfl) [] rfl ?_
  rintro ⟨P,w0,G0,V,LL,lk,N, φ0,fx⟩ rfl rfl rfl rfl
  unfold z1i at h
  refine Tri.sg [0,1,2,3,4] [5000] (z00 2) ?_
  refine Tri.seqS ?_
  refine Tri.seqS ?_
  obtain ⟨hc1,h⟩:=z03 h
  obtain ⟨hc2,h⟩:=z03 h
  obtain ⟨r3,hr3,h⟩:=z04 h
  refine Tri.dC [.a [4] [],.a [0] [],.a [2] [],.a [13,14] [],.a [15] [],.a [0] [],.a [1] [],.a [17,18] [],.a [19] [],.m ⟨[(12,cD (.fn 74 [])),(16,.agg (cTime (p0.getD p2.toNat default))),(20,.agg (cTime (p0.getD p1.toNat default)))],[]⟩ ⟨[(21,cD (dI r3))],[]⟩ [] [] [],.a [21] []] [1,2,3,22] [5000] (tN 3 (ai hc1 (tN 3 (ai hc2 (z00 2))))) (.a (.a (.a (.a (.a (.a (.a (.a (.a (.m ?_ (.a .z))))))))))) ?_
  · exact DOk.cA [] [.agg (cTime (p0.getD p2.toNat default)),.agg (cTime (p0.getD p1.toNat default))] (z1n hr3) fun r=>(.cons (.refl _) (.cons (.refl _) .nil))
  refine Tri.condK h (fun h => ?_) (fun h => ?_)
  ·refine Tri.sg [1,2] [5000] (z00 6) ?_
   refine Tri.sg [10,11] [5000] (z00 4) ?_
   refine Tri.ret ?_
   cases h
   exact RetAt.k
  ·refine Tri.skip ?_
   refine Tri.sg [10,11] [5000] (z00 4) ?_
   refine Tri.ret ?_
   cases h
   exact RetAt.k
theorem z4a {p0:List Time} {p1:Int} {p2:Int} {p3:Int} {l0:Int} {q:Int × Int} (h:z1g p0 p1 p2 p3 l0=some q) :
  Summ Tryz.prog 165 [.c (wC 3 z02 p0),cD (dI p1),cD (dI p2),cD (dI p3),.c (.ptr 5000 0),cD (.fn 74 [])] [(5000,.box [.d (dI l0)])] (cD (dI q.1)) [(5000,.box [.d (dI q.2)])]:=by
 refine Summ.intro Tryz.func165 rfl (by kernel_rfl) (by kernel_rfl) [] rfl ?_
 rintro ⟨P,w0,G0,V,LL,lk,N, φ0,fx⟩ rfl rfl rfl rfl
 unfold z1g at h
 refine Tri.sg [0,1,2,3,4,5] [5000] (z00 1) ?_
 refine Tri.seqS ?_
 refine Tri.reg ?_
 refine At.sg 5 [0,3,4,5,14,15,16,17,18] [5000] (z00 5) ?_
 obtain ⟨r1,hr1,h⟩:=z04 h
 refine At.cL 0 [] [.c (wC 3 z02 p0),cD (dI p1),cD (dI p2),.c (.ptr 5000 0),cD (.fn 74 [])] [(5000,5000)] [0,3,4,5] [] (z2o hr1) (.flat (.refl _) rfl rfl (.flat (.refl _) rfl rfl (.flat (.refl _) rfl rfl (.ren rfl rfl (.flat (.refl _) rfl rfl .nil))))) ?_
 refine At.sg 5 [0,1,2,3,4,5] [5000] (z00 5) ?_
 refine At.done rfl ?_
 refine Tri.seqS ?_
 refine Tri.reg ?_
 refine At.sg 5 [0,1,4,5,23,24,25,26,27] [5000] (z00 5) ?_
 obtain ⟨r2,hr2,h⟩:=z04 h
 refine At.cL 0 [] [.c (wC 3 z02 p0),cD (dI r1.2.1),cD (dI p3),.c (.ptr 5000 0),cD (.fn 74 [])] [(5000,5000)] [0,1,4,5] [] (z2o hr2) (.flat (.refl _) rfl rfl (.flat (.refl _) rfl rfl (.flat (.refl _) rfl rfl (.ren rfl rfl (.flat (.refl _) rfl rfl .nil))))) ?_
 refine At.sg 5 [0,1,2,4,5] [5000] (z00 5) ?_
 refine At.done rfl ?_
 refine Tri.seqS ?_
 refine Tri.reg ?_
 refine At.sg 5 [32,33,34,35,36] [5000] (z00 5) ?_
 obtain ⟨r3,hr3,h⟩:=z04 h
 refine At.cL 0 [] [.c (wC 3 z02 p0),cD (dI r1.1),cD (dI r2.1),.c (.ptr 5000 0),cD (.fn 74 [])] [(5000,5000)] [] [] (z2o hr3) (.flat (.refl _) rfl rfl (.flat (.refl _) rfl rfl (.flat (.refl _) rfl rfl (.ren rfl rfl (.flat (.refl _) rfl rfl .nil))))) ?_
 refine At.sg 5 [2] [5000] (z00 5) ?_
 refine At.done rfl ?_
 refine Tri.sg [12] [5000] (z00 2) ?_
 refine Tri.ret ?_
 cases h
 exact RetAt.k
theorem z28 {p0:List Time} {p1:Int} {l0:Int} {q:Int × Int} (h:z0c p0 p1 l0=some q) :
  Summ Tryz.prog 164 [.c (wC 3 z02 p0),cD (dI p1),.c (.ptr 5000 0),cD (.fn 74 [])] [(5000,.box [.d (dI l0)])] (cD (dI q.1)) [(5000,.box [.d (dI q.2)])]:=by
 refine Summ.intro Tryz.func164 rfl (by kernel_rfl) (by kernel_rfl) [] rfl ?_
 rintro ⟨P,w0,G0,V,LL,lk,N, φ0,fx⟩ rfl rfl rfl rfl
 unfold z0c at h
 refine Tri.sg [0,1,2,3] [5000] (z00 1) ?_
 refine Tri.seqS ?_
 refine Tri.reg ?_
 refine At.sg 8 [9,11,12,14,15,16] [5000] (z00 8) ?_
 obtain ⟨r1,hr1,h⟩:=z04 h
 refine At.cL 0 [] [.c (wC 3 z02 p0),cD (dI (IntKind.i64.wrap (p1 - 1))),cD (dI p1),cD (dI (IntKind.i64.wrap (p1 + 1))),.c (.ptr 5000 0),cD (.fn 74 [])] [(5000,5000)] [] [] (z4a hr1) (.flat (.refl _) rfl rfl (.flat (.refl _) rfl rfl (.flat (.refl _) rfl rfl (.flat (.refl _) rfl rfl (.ren rfl rfl (.flat (.refl _) rfl rfl .nil)))))) ?_
 refine At.sg 1 [8] [5000] (z00 1) ?_
 refine At.done rfl ?_
 refine Tri.ret ?_
 cases h
 exact RetAt.k
theorem z6o {p0:List Time} {p1:Int} {p2:Int} {q:Int × Int} (h:z1l p0 p1 p2=some q) :
    Summ Tryz.prog 151 [.c (wC 3 z02 p0),cD (dI p1),cD (dI p2),cD (.fn 74 [])] [] (.tup [(false,[.d (dI q.1)]),(false,[.d (dI q.2)])]) []:=by
  refine Summ.intro Tryz.func151 rfl (by kernel_rfl) (by kernel_rfl) [] rfl ?_
  rintro ⟨P,w0,G0,V,LL,lk,N, φ0,fx⟩ rfl rfl rfl rfl
  unfold z1l at h
  refine Tri.sg [0,1,2,3] [] (z00 2) ?_
  refine Tri.sg [0,1,3,10] [] (z00 4) ?_
  refine Tri.sg [0,1,3,10,11] [11] (z00 1) ?_
  refine Tri.sg [0,1,3,10,11,12] [11] (tN 2 (ai (show ((4:Int) ≠ 0) from (by decide:(4:Int) ≠ 0)) (z00 3))) ?_
  refine Tri.sg [0,1,3,10,11,12,13] [11] (tN 2 (ai (show ((4:Int) ≠ 0) from (by decide:(4:Int) ≠ 0)) (z00 3))) ?_
  refine Tri.sg [0,3,10,11,12,13,14] [11] (tN 2 (ai (show ((4:Int) ≠ 0) from (by decide:(4:Int) ≠ 0)) (z00 3))) ?_
  refine Tri.seqJ (fun (a1:Int × Int)=>⟨[(11,.c (.ptr 11 0)),(13,cD (dI a1.1))],[(11,.box [.d (dI a1.2)])]⟩) h (fun a1 h => ?_) (fun j2 h => ?_)
  ·refine Tri.sg [13,55] [] (z00 1) ?_
   refine Tri.blockB ?_
   refine Tri.sg [13,55,57] [] (z00 2) ?_
   refine Tri.condK h (fun h => ?_) (fun h => ?_)
   ·refine Tri.sg [8,9] [] (z00 3) ?_
    refine Tri.ret ?_
    cases h
    exact RetAt.k
   ·refine Tri.sg [13,60] [] (z00 2) ?_
    refine Tri.condK h (fun h => ?_) (fun h => ?_)
    ·refine Tri.sg [8,9] [] (z00 3) ?_
     refine Tri.ret ?_
     cases h
     exact RetAt.k
    ·refine Tri.sg [8,9] [] (z00 3) ?_
     refine Tri.ret ?_
     cases h
     exact RetAt.k
  ·refine Tri.sg [0,3,10,11,12,13,14,34] [11] (z00 2) ?_
   refine Tri.condK h (fun h => ?_) (fun h => ?_)
   ·refine Tri.seqJ (fun (a3:Int × Int × Int × Int)=>⟨[(0,.c (wC 3 z02 p0)),(3,cD (.fn 74 [])),(11,.c (.ptr 11 0)),(12,cD (dI a3.1)),(13,cD (dI a3.2.1)),(14,cD (dI a3.2.2.1))],[(11,.box [.d (dI a3.2.2.2)])]⟩) h (fun a3 h => ?_) (fun j4 h => ?_)
    ·refine Tri.reg ?_
     refine At.sg 5 [11,49,50,51,52,53] [11] (z00 5) ?_
     obtain ⟨r5,hr5,h⟩:=z04 h
     refine At.cL 0 [] [.c (wC 3 z02 p0),cD (dI a3.1),cD (dI a3.2.1),cD (dI a3.2.2.1),.c (.ptr 11 0),cD (.fn 74 [])] [(5000,11)] [11] [] (z4a hr5) (.flat (.refl _) rfl rfl (.flat (.refl _) rfl rfl (.flat (.refl _) rfl rfl (.flat (.refl _) rfl rfl (.ren rfl rfl (.flat (.refl _) rfl rfl .nil)))))) ?_
     refine At.sg 1 [11,13] [11] (z00 1) ?_
     refine At.done rfl ?_
     exact ⟨_,h,kr⟩
    ·refine Tri.sg [0,3,11,12,13,14,36] [11] (z00 2) ?_
     refine Tri.condK h (fun h => ?_) (fun h => ?_)
     ·refine Tri.seqS ?_
      refine Tri.reg ?_
      refine At.sg 3 [0,3,11,13,14,37,38,39] [11] (z00 3) ?_
      obtain ⟨r6,hr6,h⟩:=z04 h
      refine At.cL 0 [] [.c (wC 3 z02 p0),cD (dI (IntKind.i64.wrap (p1 + (IntKind.i64.wrap ((IntKind.i64.wrap ((IntKind.i64.wrap (p2 - p1)).tdiv 4)) * 1))))),.c (.ptr 11 0),cD (.fn 74 [])] [(5000,11)] [0,3,11,13,14] [] (z28 hr6) (.flat (.refl _) rfl rfl (.flat (.refl _) rfl rfl (.ren rfl rfl (.flat (.refl _) rfl rfl .nil)))) ?_
      refine At.sg 1 [0,3,11,12,13,14] [11] (z00 1) ?_
      refine At.done rfl ?_
      refine Tri.seqS ?_
      refine Tri.reg ?_
      refine At.sg 3 [0,3,11,12,14,41,42,43] [11] (z00 3) ?_
      obtain ⟨r7,hr7,h⟩:=z04 h
      refine At.cL 0 [] [.c (wC 3 z02 p0),cD (dI (IntKind.i64.wrap (p1 + (IntKind.i64.wrap ((IntKind.i64.wrap ((IntKind.i64.wrap (p2 - p1)).tdiv 4)) * 2))))),.c (.ptr 11 0),cD (.fn 74 [])] [(5000,11)] [0,3,11,12,14] [] (z28 hr7) (.flat (.refl _) rfl rfl (.flat (.refl _) rfl rfl (.ren rfl rfl (.flat (.refl _) rfl rfl .nil)))) ?_
      refine At.sg 1 [0,3,11,12,13,14] [11] (z00 1) ?_
      refine At.done rfl ?_
      refine Tri.reg ?_
      refine At.sg 3 [0,3,11,12,13,45,46,47] [11] (z00 3) ?_
      obtain ⟨r8,hr8,h⟩:=z04 h
      refine At.cL 0 [] [.c (wC 3 z02 p0),cD (dI (IntKind.i64.wrap (p1 + (IntKind.i64.wrap ((IntKind.i64.wrap ((IntKind.i64.wrap (p2 - p1)).tdiv 4)) * 3))))),.c (.ptr 11 0),cD (.fn 74 [])] [(5000,11)] [0,3,11,12,13] [] (z28 hr8) (.flat (.refl _) rfl rfl (.flat (.refl _) rfl rfl (.ren rfl rfl (.flat (.refl _) rfl rfl .nil)))) ?_
      refine At.sg 1 [0,3,11,12,13,14] [11] (z00 1) ?_
      refine At.done rfl ?_
      exact ⟨_,h,kr⟩
     ·refine Tri.kp [0,3,11,12,13,14] [11] ?_
      refine Tri.skip ?_
      exact ⟨_,h,kr⟩
   ·refine Tri.kp [11,13] [11] ?_
    refine Tri.skip ?_
    exact ⟨_,h,kr⟩
theorem z6m {fuel:Nat} {p1:Int} {p2:Int} {l0:List Time} {q:List Time} (h:z1c fuel p1 p2 l0=some q) :
    Summ Tryz.prog 152 [.c (oC 5000 3 l0),cD (dI p1),cD (dI p2),cD (.fn 74 [])] [(5000,vL 3 z02 l0)] (.tup []) [(5000,vL 3 z02 q)]:=by
  refine Summ.intro Tryz.func152 rfl (by kernel_rfl) (by kernel_rfl) [] rfl ?_
  rintro ⟨P,w0,G0,V,LL,lk,N, φ0,fx⟩ rfl rfl rfl rfl
  unfold z1c at h
  refine Tri.sg [0,2,8] [5000] (z00 2) ?_
  refine Tri.sg [0,8,9] [5000] (z00 3) ?_
  refine Tri.keep [0,8,9] [5000] (s':=⟨[(0,.c (oC 5000 3 l0)),(8,cD (dI p1)),(9,cD (dI (IntKind.i64.wrap (p2 - 1))))],[(5000,vL 3 z02 l0)]⟩) (by kernel_rfl) ?_
  refine Tri.loopK (fuel:=fuel) (st0:=(p1,(IntKind.i64.wrap (p2 - 1)),l0)) (fun (x:Empty) s=>False) (fun (a1:Int × Int × (List Time))=>⟨[(0,.c (oC 5000 3 a1.2.2)),(8,cD (dI a1.1)),(9,cD (dI a1.2.1))],[(5000,vL 3 z02 a1.2.2)]⟩) (fun (a1:Int × Int × (List Time))=>⟨[],[(5000,vL 3 z02 a1.2.2)]⟩) h ?_ ?_ ?_
  ·intro a1 c h
   refine Tri.seqS ?_
   refine Tri.segL [0,8,9,15] [5000] ⟨[(0,.c (oC 5000 3 a1.2.2)),(8,cD (dI a1.1)),(9,cD (dI a1.2.1)),(15,cD (.bool (decide (a1.1 < a1.2.1))))],[(5000,vL 3 z02 a1.2.2)]⟩ _ (by kernel_rfl) (z00 3) ?_
   refine Tri.condK h (fun h => ?_) (fun h => ?_)
   ·refine Tri.skip ?_
    refine Tri.blockB ?_
    refine Tri.seqS ?_
    obtain ⟨hc3,h⟩:=z03 h
    obtain ⟨hc4,h⟩:=z03 h
    obtain ⟨hc5,h⟩:=z03 h
    obtain ⟨hc6,h⟩:=z03 h
    obtain ⟨hc7,h⟩:=z03 h
    obtain ⟨hc8,h⟩:=z03 h
    obtain ⟨hc9,h⟩:=z03 h
    obtain ⟨hc10,h⟩:=z03 h
    refine Tri.afterA ⟨[(0,.c (oC 5000 3 a1.2.2)),(8,cD (dI a1.1)),(9,cD (dI a1.2.1))],[(5000,vL 3 z02 ((a1.2.2.set (0 + a1.1.toNat) (a1.2.2.getD (0 + a1.2.1.toNat) default)).set (0 + a1.2.1.toNat) (a1.2.2.getD (0 + a1.1.toNat) default)))]⟩ ?_ ?_
    ·refine Tri.dS ⟨[(0,.c (oC 5000 3 a1.2.2)),(8,cD (dI a1.1)),(9,cD (dI a1.2.1))],[(5000,vL 3 z02 ((a1.2.2.set (0 + a1.1.toNat) (a1.2.2.getD (0 + a1.2.1.toNat) default)).set (0 + a1.2.1.toNat) (a1.2.2.getD (0 + a1.1.toNat) default)))]⟩ [.a [0] [],.a [8] [],.a [0] [],.a [9] [],.a [0] [],.a [9] [],.a [20,21] [5000],.a [22] [5000],.a [0] [],.a [8] [],.a [24,25] [5000],.a [26] [5000],.a [16,17] [5000],.m ⟨[(23,.agg (cTime (a1.2.2.getD (0 + a1.2.1.toNat) default))),(28,.c (.vptr 5000 3 (0 + a1.1.toNat) 0))],[(5000,vL 3 z02 a1.2.2)]⟩ ⟨[],[(5000,vL 3 z02 (a1.2.2.set (0 + a1.1.toNat) (a1.2.2.getD (0 + a1.2.1.toNat) default)))]⟩ [] [] [],.a [18,19] [5000],.m ⟨[(27,.agg (cTime (a1.2.2.getD (0 + a1.1.toNat) default))),(29,.c (.vptr 5000 3 (0 + a1.2.1.toNat) 0))],[(5000,vL 3 z02 (a1.2.2.set (0 + a1.1.toNat) (a1.2.2.getD (0 + a1.2.1.toNat) default)))]⟩ ⟨[],[(5000,vL 3 z02 ((a1.2.2.set (0 + a1.1.toNat) (a1.2.2.getD (0 + a1.2.1.toNat) default)).set (0 + a1.2.1.toNat) (a1.2.2.getD (0 + a1.1.toNat) default)))]⟩ [] [] []] [0,8,9] [5000] (tN 6 (ai hc3 (ai hc4 (tN 2 (ai hc5 (ai hc6 (ai hc7 (ai hc9 trivial)))))))) (.a (.a (.a (.a (.a (.a (.a (.a (.a (.a (.a (.a (.a (.m ?_ (.a (.m ?_ .z)))))))))))))))) ?_
     · exact DOk.one fun r hr=>One.storeT (xs:=[.d (dU ((a1.2.2.getD (0 + a1.2.1.toNat) default).epoch)),.d (dU ((a1.2.2.getD (0 + a1.2.1.toNat) default).loop.1)),.d (dU ((a1.2.2.getD (0 + a1.2.1.toNat) default).loop.2))]) (ds:=[dU ((a1.2.2.getD (0 + a1.2.1.toNat) default).epoch),dU ((a1.2.2.getD (0 + a1.2.1.toNat) default).loop.1),dU ((a1.2.2.getD (0 + a1.2.1.toNat) default).loop.2)]) (z02) a1.2.2 (a1.2.2.getD (0 + a1.2.1.toNat) default) rfl (by kernel_rfl) rfl rfl rfl hc8 rfl rfl (.refl _) rfl rfl rfl rfl
     · exact DOk.one fun r hr=>One.storeT (xs:=[.d (dU ((a1.2.2.getD (0 + a1.1.toNat) default).epoch)),.d (dU ((a1.2.2.getD (0 + a1.1.toNat) default).loop.1)),.d (dU ((a1.2.2.getD (0 + a1.1.toNat) default).loop.2))]) (ds:=[dU ((a1.2.2.getD (0 + a1.1.toNat) default).epoch),dU ((a1.2.2.getD (0 + a1.1.toNat) default).loop.1),dU ((a1.2.2.getD (0 + a1.1.toNat) default).loop.2)]) (z02) (a1.2.2.set (0 + a1.1.toNat) (a1.2.2.getD (0 + a1.2.1.toNat) default)) (a1.2.2.getD (0 + a1.1.toNat) default) rfl (by kernel_rfl) rfl rfl rfl hc10 rfl rfl (.refl _) rfl rfl rfl rfl
     exact ⟨rfl,rfl⟩
    ·refine At.eqS (s':=⟨[(0,.c (oC 5000 3 ((a1.2.2.set (0 + a1.1.toNat) (a1.2.2.getD (0 + a1.2.1.toNat) default)).set (0 + a1.2.1.toNat) (a1.2.2.getD (0 + a1.1.toNat) default)))),(8,cD (dI a1.1)),(9,cD (dI a1.2.1))],[(5000,vL 3 z02 ((a1.2.2.set (0 + a1.1.toNat) (a1.2.2.getD (0 + a1.2.1.toNat) default)).set (0 + a1.2.1.toNat) (a1.2.2.getD (0 + a1.1.toNat) default)))]⟩) (by simp only [oC,vL,List.length_set]) ?_
     refine At.done rfl ?_
     refine Tri.sg [0,8,9] [5000] (z00 3) ?_
     refine Tri.reg ?_
     refine At.sg 3 [0,8,9] [5000] (z00 3) ?_
     refine At.done rfl ?_
     cases h
     exact kr
   ·refine Tri.kp [] [5000] ?_
    refine Tri.exit ?_
    cases h
    exact ⟨rfl,kr⟩
  ·intro a2 h
   cases h
   exact RetAt.k
  · exact fun x=>x.elim
theorem z5a {fuel:Nat} {p1:Int} {p2:Int} {l0:List Time} {q:Bool × (List Time)} (h:z0n fuel p1 p2 l0=some q) :
    Summ Tryz.prog 153 [.c (oC 5000 3 l0),cD (dI p1),cD (dI p2),cD (.fn 74 [])] [(5000,vL 3 z02 l0)] (cD (.bool q.1)) [(5000,vL 3 z02 q.2)]:=by
  refine Summ.intro Tryz.func153 rfl (by kernel_rfl) (by kernel_rfl) [] rfl ?_
  rintro ⟨P,w0,G0,V,LL,lk,N, φ0,fx⟩ rfl rfl rfl rfl
  unfold z0n at h
  refine Tri.sg [0,1,2,3] [5000] (z00 1) ?_
  refine Tri.sg [0,1,2,3,9] [5000] (z00 3) ?_
  refine Tri.seqS ?_
  refine Tri.sg [0,1,2,3,9,10] [5000] (z00 1) ?_
  refine Tri.lK ((IntKind.i64.wrap (p1 + 1)),0,l0) (fun (x:Bool × (List Time)) s=>RetAt Tryz.prog Tryz.f153 (cD (.bool x.1)) [(5000,vL 3 z02 x.2)] s) (fun (a1:Int × Int × (List Time))=>⟨[(0,.c (oC 5000 3 a1.2.2)),(1,cD (dI p1)),(2,cD (dI p2)),(3,cD (.fn 74 [])),(9,cD (dI a1.1)),(10,cD (dI a1.2.1))],[(5000,vL 3 z02 a1.2.2)]⟩) [0,1,2,3,9,10] [5000] h ?_ ?_ ?_
  ·intro a1 c h
   refine Tri.seqS ?_
   refine Tri.sg [0,1,2,3,9,10,16] [5000] (z00 2) ?_
   refine Tri.condK h (fun h => ?_) (fun h => ?_)
   ·refine Tri.skip ?_
    refine Tri.seqJ (fun (a3:Int × (List Time))=>⟨[(0,.c (oC 5000 3 a3.2)),(1,cD (dI p1)),(2,cD (dI p2)),(3,cD (.fn 74 [])),(9,cD (dI a3.1)),(10,cD (dI a1.2.1))],[(5000,vL 3 z02 a3.2)]⟩) h (fun a3 h => ?_) (fun j4 h => ?_)
    ·refine Tri.reg ?_
     refine At.sg 3 [0,1,2,3,9,10] [5000] (z00 3) ?_
     refine At.done rfl ?_
     cases h
     exact kr
    ·refine Tri.blockB ?_
     refine Tri.seqS ?_
     refine Tri.lK (a1.1) (fun (x:Empty) s=>False) (fun (a5:Int)=>⟨[(0,.c (oC 5000 3 a1.2.2)),(1,cD (dI p1)),(2,cD (dI p2)),(3,cD (.fn 74 [])),(9,cD (dI a5)),(10,cD (dI a1.2.1))],[(5000,vL 3 z02 a1.2.2)]⟩) [0,1,2,3,9,10] [5000] h ?_ ?_ ?_
     ·intro a5 c h
      refine Tri.eqS ⟨[(0,.c (oC 5000 3 a1.2.2)),(1,cD (dI p1)),(2,cD (dI p2)),(3,cD (.fn 74 [])),(9,cD (dI a5)),(10,cD (dI a1.2.1))],[(5000,vL 3 z02 a1.2.2)]⟩ kr ?_
      refine Tri.seqS ?_
      refine Tri.seqJ (fun (a47:Bool)=>⟨[(0,.c (oC 5000 3 a1.2.2)),(1,cD (dI p1)),(2,cD (dI p2)),(3,cD (.fn 74 [])),(9,cD (dI a5)),(10,cD (dI a1.2.1)),(36,cD (.bool a47))],[(5000,vL 3 z02 a1.2.2)]⟩) h (fun a47 h => ?_) (fun j48 h => ?_)
      ·refine Tri.condK h (fun h => ?_) (fun h => ?_)
       ·refine Tri.skip ?_
        refine Tri.blockB ?_
        refine Tri.reg ?_
        refine At.sg 3 [0,1,2,3,9,10] [5000] (z00 3) ?_
        refine At.done rfl ?_
        cases h
        exact kr
       ·refine Tri.kp [0,1,2,3,9,10] [5000] ?_
        refine Tri.exit ?_
        cases h
        exact ⟨rfl,kr⟩
      ·rcases z1f h with ⟨hp49,h⟩ | ⟨hp49,h⟩
       ·obtain ⟨hc50,h⟩:=z03 h
        obtain ⟨hc51,h⟩:=z03 h
        obtain ⟨hc52,h⟩:=z03 h
        obtain ⟨hc53,h⟩:=z03 h
        obtain ⟨r54,hr54,h⟩:=z04 h
        refine Tri.dC [.a [9] [],.a [2] [],.a [19,20] [],.m ⟨[(21,cD (.bool (decide (a5 < p2))))],[]⟩ ⟨[(22,.c (.d (.bool true)))],[]⟩ [] [] [],.a [3,22] [],.a [0,22] [],.a [9,22] [],.a [22,24,25] [5000],.a [22,26] [5000],.a [0,22] [],.a [9,22] [],.a [22,29] [],.a [22,28,30] [5000],.a [22,31] [5000],.m ⟨[(22,cD (.bool true)),(23,cD (.fn 74 [])),(27,.agg (cTime (a1.2.2.getD (0 + a5.toNat) default))),(32,.agg (cTime (a1.2.2.getD (0 + (IntKind.i64.wrap (a5 - 1)).toNat) default)))],[]⟩ ⟨[(33,cD (dI r54))],[]⟩ [] [] [],.a [22,33] [],.a [22,34] [],.a [22,35] []] [0,1,2,3,9,10,36] [5000] (tN 6 (ai hc50 (ai hc51 (tN 3 (ai hc52 (ai hc53 (z00 3))))))) (.a (.a (.a (.m ?_ (.a (.a (.a (.a (.a (.a (.a (.a (.a (.a (.m ?_ (.a (.a (.a .z)))))))))))))))))) ?_
        · exact DOk.stepP (fun b => .val (.c (.d (.bool b))) (True)) (p:=(decide (a5 < p2))) hp49 (fun r=>by kernel_rfl) (fun r=>by kernel_rfl) trivial (by kernel_rfl) (by kernel_rfl) (fun r=>rfl)
        · exact DOk.cA [] [.agg (cTime (a1.2.2.getD (0 + a5.toNat) default)),.agg (cTime (a1.2.2.getD (0 + (IntKind.i64.wrap (a5 - 1)).toNat) default))] (z1n hr54) fun r=>(.cons (.refl _) (.cons (.refl _) .nil))
        exact ⟨_,h,kr⟩
       ·refine Tri.dC [.a [9] [],.a [2] [],.a [19,20] [],.m ⟨[(21,cD (.bool (decide (a5 < p2))))],[]⟩ ⟨[(22,.c (.d (.bool false)))],[]⟩ [] [] [],.a [3,22] [],.a [0,22] [],.a [9,22] [],.a [22,24,25] [],.a [22,26] [],.a [0,22] [],.a [9,22] [],.a [22,29] [],.a [22,28,30] [],.a [22,31] [],.a [22,23,27,32] [],.a [22,33] [],.a [22,34] [],.a [22,35] []] [0,1,2,3,9,10,36] [5000] (z00 4) (.a (.a (.a (.m ?_ (.a (.a (.a (.a (.a (.a (.a (.a (.a (.a (.a (.a (.a (.a .z)))))))))))))))))) ?_
        · exact DOk.stepP (fun b => .val (.c (.d (.bool b))) (True)) (p:=(decide (a5 < p2))) hp49 (fun r=>by kernel_rfl) (fun r=>by kernel_rfl) trivial (by kernel_rfl) (by kernel_rfl) (fun r=>rfl)
        exact ⟨_,h,kr⟩
     ·intro a6 h
      refine Tri.seqS ?_
      refine Tri.sg [0,1,2,3,9,10,41] [5000] (z00 3) ?_
      refine Tri.condK h (fun h => ?_) (fun h => ?_)
      ·refine Tri.sg [8] [5000] (z00 1) ?_
       refine Tri.ret ?_
       cases h
       exact RetAt.k
      ·refine Tri.skip ?_
       refine Tri.seqS ?_
       refine Tri.segL [0,1,2,3,9,10,45] [5000] ⟨[(0,.c (oC 5000 3 a1.2.2)),(1,cD (dI p1)),(2,cD (dI p2)),(3,cD (.fn 74 [])),(9,cD (dI a6)),(10,cD (dI a1.2.1)),(45,cD (.bool (decide ((IntKind.i64.wrap (p2 - p1)) < 50))))],[(5000,vL 3 z02 a1.2.2)]⟩ _ (by kernel_rfl) (z00 4) ?_
       refine Tri.condK h (fun h => ?_) (fun h => ?_)
       ·refine Tri.sg [8] [5000] (z00 1) ?_
        refine Tri.ret ?_
        cases h
        exact RetAt.k
       ·refine Tri.skip ?_
        refine Tri.seqS ?_
        obtain ⟨hc7,h⟩:=z03 h
        obtain ⟨hc8,h⟩:=z03 h
        obtain ⟨hc9,h⟩:=z03 h
        obtain ⟨hc10,h⟩:=z03 h
        obtain ⟨hc11,h⟩:=z03 h
        obtain ⟨hc12,h⟩:=z03 h
        obtain ⟨hc13,h⟩:=z03 h
        obtain ⟨hc14,h⟩:=z03 h
        refine Tri.afterA ⟨[(0,.c (oC 5000 3 a1.2.2)),(1,cD (dI p1)),(2,cD (dI p2)),(3,cD (.fn 74 [])),(9,cD (dI a6)),(10,cD (dI a1.2.1))],[(5000,vL 3 z02 ((a1.2.2.set (0 + a6.toNat) (a1.2.2.getD (0 + (IntKind.i64.wrap (a6 - 1)).toNat) default)).set (0 + (IntKind.i64.wrap (a6 - 1)).toNat) (a1.2.2.getD (0 + a6.toNat) default)))]⟩ ?_ ?_
        ·refine Tri.dS ⟨[(0,.c (oC 5000 3 a1.2.2)),(1,cD (dI p1)),(2,cD (dI p2)),(3,cD (.fn 74 [])),(9,cD (dI a6)),(10,cD (dI a1.2.1))],[(5000,vL 3 z02 ((a1.2.2.set (0 + a6.toNat) (a1.2.2.getD (0 + (IntKind.i64.wrap (a6 - 1)).toNat) default)).set (0 + (IntKind.i64.wrap (a6 - 1)).toNat) (a1.2.2.getD (0 + a6.toNat) default)))]⟩ [.a [0] [],.a [9] [],.a [0] [],.a [9] [],.a [49] [],.a [0] [],.a [9] [],.a [52] [],.a [51,53] [5000],.a [54] [5000],.a [0] [],.a [9] [],.a [56,57] [5000],.a [58] [5000],.a [46,47] [5000],.m ⟨[(55,.agg (cTime (a1.2.2.getD (0 + (IntKind.i64.wrap (a6 - 1)).toNat) default))),(60,.c (.vptr 5000 3 (0 + a6.toNat) 0))],[(5000,vL 3 z02 a1.2.2)]⟩ ⟨[],[(5000,vL 3 z02 (a1.2.2.set (0 + a6.toNat) (a1.2.2.getD (0 + (IntKind.i64.wrap (a6 - 1)).toNat) default)))]⟩ [] [] [],.a [48,50] [5000],.m ⟨[(59,.agg (cTime (a1.2.2.getD (0 + a6.toNat) default))),(61,.c (.vptr 5000 3 (0 + (IntKind.i64.wrap (a6 - 1)).toNat) 0))],[(5000,vL 3 z02 (a1.2.2.set (0 + a6.toNat) (a1.2.2.getD (0 + (IntKind.i64.wrap (a6 - 1)).toNat) default)))]⟩ ⟨[],[(5000,vL 3 z02 ((a1.2.2.set (0 + a6.toNat) (a1.2.2.getD (0 + (IntKind.i64.wrap (a6 - 1)).toNat) default)).set (0 + (IntKind.i64.wrap (a6 - 1)).toNat) (a1.2.2.getD (0 + a6.toNat) default)))]⟩ [] [] []] [0,1,2,3,9,10] [5000] (tN 8 (ai hc7 (ai hc8 (tN 2 (ai hc9 (ai hc10 (ai hc11 (ai hc13 trivial)))))))) (.a (.a (.a (.a (.a (.a (.a (.a (.a (.a (.a (.a (.a (.a (.a (.m ?_ (.a (.m ?_ .z)))))))))))))))))) ?_
         · exact DOk.one fun r hr=>One.storeT (xs:=[.d (dU ((a1.2.2.getD (0 + (IntKind.i64.wrap (a6 - 1)).toNat) default).epoch)),.d (dU ((a1.2.2.getD (0 + (IntKind.i64.wrap (a6 - 1)).toNat) default).loop.1)),.d (dU ((a1.2.2.getD (0 + (IntKind.i64.wrap (a6 - 1)).toNat) default).loop.2))]) (ds:=[dU ((a1.2.2.getD (0 + (IntKind.i64.wrap (a6 - 1)).toNat) default).epoch),dU ((a1.2.2.getD (0 + (IntKind.i64.wrap (a6 - 1)).toNat) default).loop.1),dU ((a1.2.2.getD (0 + (IntKind.i64.wrap (a6 - 1)).toNat) default).loop.2)]) (z02) a1.2.2 (a1.2.2.getD (0 + (IntKind.i64.wrap (a6 - 1)).toNat) default) rfl (by kernel_rfl) rfl rfl rfl hc12 rfl rfl (.refl _) rfl rfl rfl rfl
         · exact DOk.one fun r hr=>One.storeT (xs:=[.d (dU ((a1.2.2.getD (0 + a6.toNat) default).epoch)),.d (dU ((a1.2.2.getD (0 + a6.toNat) default).loop.1)),.d (dU ((a1.2.2.getD (0 + a6.toNat) default).loop.2))]) (ds:=[dU ((a1.2.2.getD (0 + a6.toNat) default).epoch),dU ((a1.2.2.getD (0 + a6.toNat) default).loop.1),dU ((a1.2.2.getD (0 + a6.toNat) default).loop.2)]) (z02) (a1.2.2.set (0 + a6.toNat) (a1.2.2.getD (0 + (IntKind.i64.wrap (a6 - 1)).toNat) default)) (a1.2.2.getD (0 + a6.toNat) default) rfl (by kernel_rfl) rfl rfl rfl hc14 rfl rfl (.refl _) rfl rfl rfl rfl
         exact ⟨rfl,rfl⟩
        ·refine At.eqS (s':=⟨[(0,.c (oC 5000 3 ((a1.2.2.set (0 + a6.toNat) (a1.2.2.getD (0 + (IntKind.i64.wrap (a6 - 1)).toNat) default)).set (0 + (IntKind.i64.wrap (a6 - 1)).toNat) (a1.2.2.getD (0 + a6.toNat) default)))),(1,cD (dI p1)),(2,cD (dI p2)),(3,cD (.fn 74 [])),(9,cD (dI a6)),(10,cD (dI a1.2.1))],[(5000,vL 3 z02 ((a1.2.2.set (0 + a6.toNat) (a1.2.2.getD (0 + (IntKind.i64.wrap (a6 - 1)).toNat) default)).set (0 + (IntKind.i64.wrap (a6 - 1)).toNat) (a1.2.2.getD (0 + a6.toNat) default)))]⟩) (by simp only [oC,vL,List.length_set]) ?_
         refine At.done rfl ?_
         refine Tri.seqJ (fun (a15:List Time)=>⟨[(0,.c (oC 5000 3 a15)),(1,cD (dI p1)),(2,cD (dI p2)),(3,cD (.fn 74 [])),(9,cD (dI a6)),(10,cD (dI a1.2.1))],[(5000,vL 3 z02 a15)]⟩) h (fun a15 h => ?_) (fun j16 h => ?_)
         ·refine Tri.sg [0,1,2,3,9,10,104] [5000] (z00 4) ?_
          refine Tri.condK h (fun h => ?_) (fun h => ?_)
          ·refine Tri.sg [0,1,2,3,9,10,12] [5000] (z00 3) ?_
           refine Tri.keep [0,1,2,3,9,10,12] [5000] (s':=⟨[(0,.c (oC 5000 3 a15)),(1,cD (dI p1)),(2,cD (dI p2)),(3,cD (.fn 74 [])),(9,cD (dI a6)),(10,cD (dI a1.2.1)),(12,cD (dI (IntKind.i64.wrap (a6 + 1))))],[(5000,vL 3 z02 a15)]⟩) (by kernel_rfl) ?_
           refine Tri.loopK (fuel:=fuel) (st0:=((IntKind.i64.wrap (a6 + 1)),a15)) (fun (x:Empty) s=>False) (fun (a17:Int × (List Time))=>⟨[(0,.c (oC 5000 3 a17.2)),(1,cD (dI p1)),(2,cD (dI p2)),(3,cD (.fn 74 [])),(9,cD (dI a6)),(10,cD (dI a1.2.1)),(12,cD (dI a17.1))],[(5000,vL 3 z02 a17.2)]⟩) (fun (a17:Int × (List Time))=>⟨[(0,.c (oC 5000 3 a17.2)),(1,cD (dI p1)),(2,cD (dI p2)),(3,cD (.fn 74 [])),(9,cD (dI a6)),(10,cD (dI a1.2.1))],[(5000,vL 3 z02 a17.2)]⟩) h ?_ ?_ ?_
           ·intro a17 c h
            refine Tri.seqS ?_
            refine Tri.sg [0,1,2,3,9,10,12,109] [5000] (z00 3) ?_
            refine Tri.condK h (fun h => ?_) (fun h => ?_)
            ·refine Tri.skip ?_
             refine Tri.seqS ?_
             refine Tri.blockB ?_
             refine Tri.seqS ?_
             refine Tri.seqS ?_
             obtain ⟨hc19,h⟩:=z03 h
             obtain ⟨hc20,h⟩:=z03 h
             obtain ⟨hc21,h⟩:=z03 h
             obtain ⟨hc22,h⟩:=z03 h
             obtain ⟨r23,hr23,h⟩:=z04 h
             refine Tri.dS ⟨[(0,.c (oC 5000 3 a17.2)),(1,cD (dI p1)),(2,cD (dI p2)),(3,cD (.fn 74 [])),(9,cD (dI a6)),(10,cD (dI a1.2.1)),(12,cD (dI a17.1)),(124,cD (.bool (!(decide (r23 < 0)))))],[(5000,vL 3 z02 a17.2)]⟩ [.a [3] [],.a [0] [],.a [12] [],.a [113,114] [5000],.a [115] [5000],.a [0] [],.a [12] [],.a [118] [],.a [117,119] [5000],.a [120] [5000],.m ⟨[(112,cD (.fn 74 [])),(116,.agg (cTime (a17.2.getD (0 + a17.1.toNat) default))),(121,.agg (cTime (a17.2.getD (0 + (IntKind.i64.wrap (a17.1 - 1)).toNat) default)))],[]⟩ ⟨[(122,cD (dI r23))],[]⟩ [] [] [],.a [122] [],.a [123] []] [0,1,2,3,9,10,12,124] [5000] (tN 3 (ai hc19 (ai hc20 (tN 3 (ai hc21 (ai hc22 (z00 2))))))) (.a (.a (.a (.a (.a (.a (.a (.a (.a (.a (.m ?_ (.a (.a .z))))))))))))) ?_
             · exact DOk.cA [] [.agg (cTime (a17.2.getD (0 + a17.1.toNat) default)),.agg (cTime (a17.2.getD (0 + (IntKind.i64.wrap (a17.1 - 1)).toNat) default))] (z1n hr23) fun r=>(.cons (.refl _) (.cons (.refl _) .nil))
             refine Tri.condK h (fun h => ?_) (fun h => ?_)
             ·refine Tri.kp [0,1,2,3,9,10] [5000] ?_
              refine Tri.exit ?_
              cases h
              exact ⟨rfl,kr⟩
             ·refine Tri.skip ?_
              obtain ⟨hc24,h⟩:=z03 h
              obtain ⟨hc25,h⟩:=z03 h
              obtain ⟨hc26,h⟩:=z03 h
              obtain ⟨hc27,h⟩:=z03 h
              obtain ⟨hc28,h⟩:=z03 h
              obtain ⟨hc29,h⟩:=z03 h
              obtain ⟨hc30,h⟩:=z03 h
              obtain ⟨hc31,h⟩:=z03 h
              refine Tri.afterA ⟨[(0,.c (oC 5000 3 a17.2)),(1,cD (dI p1)),(2,cD (dI p2)),(3,cD (.fn 74 [])),(9,cD (dI a6)),(10,cD (dI a1.2.1)),(12,cD (dI a17.1))],[(5000,vL 3 z02 ((a17.2.set (0 + a17.1.toNat) (a17.2.getD (0 + (IntKind.i64.wrap (a17.1 - 1)).toNat) default)).set (0 + (IntKind.i64.wrap (a17.1 - 1)).toNat) (a17.2.getD (0 + a17.1.toNat) default)))]⟩ ?_ ?_
              ·refine Tri.dS ⟨[(0,.c (oC 5000 3 a17.2)),(1,cD (dI p1)),(2,cD (dI p2)),(3,cD (.fn 74 [])),(9,cD (dI a6)),(10,cD (dI a1.2.1)),(12,cD (dI a17.1))],[(5000,vL 3 z02 ((a17.2.set (0 + a17.1.toNat) (a17.2.getD (0 + (IntKind.i64.wrap (a17.1 - 1)).toNat) default)).set (0 + (IntKind.i64.wrap (a17.1 - 1)).toNat) (a17.2.getD (0 + a17.1.toNat) default)))]⟩ [.a [0] [],.a [12] [],.a [0] [],.a [12] [],.a [128] [],.a [0] [],.a [12] [],.a [131] [],.a [130,132] [5000],.a [133] [5000],.a [0] [],.a [12] [],.a [135,136] [5000],.a [137] [5000],.a [125,126] [5000],.m ⟨[(134,.agg (cTime (a17.2.getD (0 + (IntKind.i64.wrap (a17.1 - 1)).toNat) default))),(139,.c (.vptr 5000 3 (0 + a17.1.toNat) 0))],[(5000,vL 3 z02 a17.2)]⟩ ⟨[],[(5000,vL 3 z02 (a17.2.set (0 + a17.1.toNat) (a17.2.getD (0 + (IntKind.i64.wrap (a17.1 - 1)).toNat) default)))]⟩ [] [] [],.a [127,129] [5000],.m ⟨[(138,.agg (cTime (a17.2.getD (0 + a17.1.toNat) default))),(140,.c (.vptr 5000 3 (0 + (IntKind.i64.wrap (a17.1 - 1)).toNat) 0))],[(5000,vL 3 z02 (a17.2.set (0 + a17.1.toNat) (a17.2.getD (0 + (IntKind.i64.wrap (a17.1 - 1)).toNat) default)))]⟩ ⟨[],[(5000,vL 3 z02 ((a17.2.set (0 + a17.1.toNat) (a17.2.getD (0 + (IntKind.i64.wrap (a17.1 - 1)).toNat) default)).set (0 + (IntKind.i64.wrap (a17.1 - 1)).toNat) (a17.2.getD (0 + a17.1.toNat) default)))]⟩ [] [] []] [0,1,2,3,9,10,12] [5000] (tN 8 (ai hc24 (ai hc25 (tN 2 (ai hc26 (ai hc27 (ai hc28 (ai hc30 trivial)))))))) (.a (.a (.a (.a (.a (.a (.a (.a (.a (.a (.a (.a (.a (.a (.a (.m ?_ (.a (.m ?_ .z)))))))))))))))))) ?_
               · exact DOk.one fun r hr=>One.storeT (xs:=[.d (dU ((a17.2.getD (0 + (IntKind.i64.wrap (a17.1 - 1)).toNat) default).epoch)),.d (dU ((a17.2.getD (0 + (IntKind.i64.wrap (a17.1 - 1)).toNat) default).loop.1)),.d (dU ((a17.2.getD (0 + (IntKind.i64.wrap (a17.1 - 1)).toNat) default).loop.2))]) (ds:=[dU ((a17.2.getD (0 + (IntKind.i64.wrap (a17.1 - 1)).toNat) default).epoch),dU ((a17.2.getD (0 + (IntKind.i64.wrap (a17.1 - 1)).toNat) default).loop.1),dU ((a17.2.getD (0 + (IntKind.i64.wrap (a17.1 - 1)).toNat) default).loop.2)]) (z02) a17.2 (a17.2.getD (0 + (IntKind.i64.wrap (a17.1 - 1)).toNat) default) rfl (by kernel_rfl) rfl rfl rfl hc29 rfl rfl (.refl _) rfl rfl rfl rfl
               · exact DOk.one fun r hr=>One.storeT (xs:=[.d (dU ((a17.2.getD (0 + a17.1.toNat) default).epoch)),.d (dU ((a17.2.getD (0 + a17.1.toNat) default).loop.1)),.d (dU ((a17.2.getD (0 + a17.1.toNat) default).loop.2))]) (ds:=[dU ((a17.2.getD (0 + a17.1.toNat) default).epoch),dU ((a17.2.getD (0 + a17.1.toNat) default).loop.1),dU ((a17.2.getD (0 + a17.1.toNat) default).loop.2)]) (z02) (a17.2.set (0 + a17.1.toNat) (a17.2.getD (0 + (IntKind.i64.wrap (a17.1 - 1)).toNat) default)) (a17.2.getD (0 + a17.1.toNat) default) rfl (by kernel_rfl) rfl rfl rfl hc31 rfl rfl (.refl _) rfl rfl rfl rfl
               exact ⟨rfl,rfl⟩
              ·refine At.eqS (s':=⟨[(0,.c (oC 5000 3 ((a17.2.set (0 + a17.1.toNat) (a17.2.getD (0 + (IntKind.i64.wrap (a17.1 - 1)).toNat) default)).set (0 + (IntKind.i64.wrap (a17.1 - 1)).toNat) (a17.2.getD (0 + a17.1.toNat) default)))),(1,cD (dI p1)),(2,cD (dI p2)),(3,cD (.fn 74 [])),(9,cD (dI a6)),(10,cD (dI a1.2.1)),(12,cD (dI a17.1))],[(5000,vL 3 z02 ((a17.2.set (0 + a17.1.toNat) (a17.2.getD (0 + (IntKind.i64.wrap (a17.1 - 1)).toNat) default)).set (0 + (IntKind.i64.wrap (a17.1 - 1)).toNat) (a17.2.getD (0 + a17.1.toNat) default)))]⟩) (by simp only [oC,vL,List.length_set]) ?_
               refine At.done rfl ?_
               refine Tri.reg ?_
               refine At.sg 3 [0,1,2,3,9,10,12] [5000] (z00 3) ?_
               refine At.done rfl ?_
               cases h
               exact kr
            ·refine Tri.kp [0,1,2,3,9,10] [5000] ?_
             refine Tri.exit ?_
             cases h
             exact ⟨rfl,kr⟩
           ·intro a18 h
            exact ⟨_,h,kr⟩
           · exact fun x=>x.elim
          ·refine Tri.kp [0,1,2,3,9,10] [5000] ?_
           refine Tri.skip ?_
           exact ⟨_,h,kr⟩
         ·refine Tri.sg [0,1,2,3,9,10,65] [5000] (z00 4) ?_
          refine Tri.condK h (fun h => ?_) (fun h => ?_)
          ·refine Tri.sg [0,1,2,3,9,10,11] [5000] (z00 3) ?_
           refine Tri.keep [0,1,2,3,9,10,11] [5000] (s':=⟨[(0,.c (oC 5000 3 ((a1.2.2.set (0 + a6.toNat) (a1.2.2.getD (0 + (IntKind.i64.wrap (a6 - 1)).toNat) default)).set (0 + (IntKind.i64.wrap (a6 - 1)).toNat) (a1.2.2.getD (0 + a6.toNat) default)))),(1,cD (dI p1)),(2,cD (dI p2)),(3,cD (.fn 74 [])),(9,cD (dI a6)),(10,cD (dI a1.2.1)),(11,cD (dI (IntKind.i64.wrap (a6 - 1))))],[(5000,vL 3 z02 ((a1.2.2.set (0 + a6.toNat) (a1.2.2.getD (0 + (IntKind.i64.wrap (a6 - 1)).toNat) default)).set (0 + (IntKind.i64.wrap (a6 - 1)).toNat) (a1.2.2.getD (0 + a6.toNat) default)))]⟩) (by kernel_rfl) ?_
           refine Tri.loopK (fuel:=fuel) (st0:=((IntKind.i64.wrap (a6 - 1)),((a1.2.2.set (0 + a6.toNat) (a1.2.2.getD (0 + (IntKind.i64.wrap (a6 - 1)).toNat) default)).set (0 + (IntKind.i64.wrap (a6 - 1)).toNat) (a1.2.2.getD (0 + a6.toNat) default)))) (fun (x:Empty) s=>False) (fun (a32:Int × (List Time))=>⟨[(0,.c (oC 5000 3 a32.2)),(1,cD (dI p1)),(2,cD (dI p2)),(3,cD (.fn 74 [])),(9,cD (dI a6)),(10,cD (dI a1.2.1)),(11,cD (dI a32.1))],[(5000,vL 3 z02 a32.2)]⟩) (fun (a32:Int × (List Time))=>⟨[(0,.c (oC 5000 3 a32.2)),(1,cD (dI p1)),(2,cD (dI p2)),(3,cD (.fn 74 [])),(9,cD (dI a6)),(10,cD (dI a1.2.1))],[(5000,vL 3 z02 a32.2)]⟩) h ?_ ?_ ?_
           ·intro a32 c h
            refine Tri.seqS ?_
            refine Tri.sg [0,1,2,3,9,10,11,69] [5000] (z00 2) ?_
            refine Tri.condK h (fun h => ?_) (fun h => ?_)
            ·refine Tri.skip ?_
             refine Tri.seqS ?_
             refine Tri.blockB ?_
             refine Tri.seqS ?_
             refine Tri.seqS ?_
             obtain ⟨hc34,h⟩:=z03 h
             obtain ⟨hc35,h⟩:=z03 h
             obtain ⟨hc36,h⟩:=z03 h
             obtain ⟨hc37,h⟩:=z03 h
             obtain ⟨r38,hr38,h⟩:=z04 h
             refine Tri.dS ⟨[(0,.c (oC 5000 3 a32.2)),(1,cD (dI p1)),(2,cD (dI p2)),(3,cD (.fn 74 [])),(9,cD (dI a6)),(10,cD (dI a1.2.1)),(11,cD (dI a32.1)),(84,cD (.bool (!(decide (r38 < 0)))))],[(5000,vL 3 z02 a32.2)]⟩ [.a [3] [],.a [0] [],.a [11] [],.a [73,74] [5000],.a [75] [5000],.a [0] [],.a [11] [],.a [78] [],.a [77,79] [5000],.a [80] [5000],.m ⟨[(72,cD (.fn 74 [])),(76,.agg (cTime (a32.2.getD (0 + a32.1.toNat) default))),(81,.agg (cTime (a32.2.getD (0 + (IntKind.i64.wrap (a32.1 - 1)).toNat) default)))],[]⟩ ⟨[(82,cD (dI r38))],[]⟩ [] [] [],.a [82] [],.a [83] []] [0,1,2,3,9,10,11,84] [5000] (tN 3 (ai hc34 (ai hc35 (tN 3 (ai hc36 (ai hc37 (z00 2))))))) (.a (.a (.a (.a (.a (.a (.a (.a (.a (.a (.m ?_ (.a (.a .z))))))))))))) ?_
             · exact DOk.cA [] [.agg (cTime (a32.2.getD (0 + a32.1.toNat) default)),.agg (cTime (a32.2.getD (0 + (IntKind.i64.wrap (a32.1 - 1)).toNat) default))] (z1n hr38) fun r=>(.cons (.refl _) (.cons (.refl _) .nil))
             refine Tri.condK h (fun h => ?_) (fun h => ?_)
             ·refine Tri.kp [0,1,2,3,9,10] [5000] ?_
              refine Tri.exit ?_
              cases h
              exact ⟨rfl,kr⟩
             ·refine Tri.skip ?_
              obtain ⟨hc39,h⟩:=z03 h
              obtain ⟨hc40,h⟩:=z03 h
              obtain ⟨hc41,h⟩:=z03 h
              obtain ⟨hc42,h⟩:=z03 h
              obtain ⟨hc43,h⟩:=z03 h
              obtain ⟨hc44,h⟩:=z03 h
              obtain ⟨hc45,h⟩:=z03 h
              obtain ⟨hc46,h⟩:=z03 h
              refine Tri.afterA ⟨[(0,.c (oC 5000 3 a32.2)),(1,cD (dI p1)),(2,cD (dI p2)),(3,cD (.fn 74 [])),(9,cD (dI a6)),(10,cD (dI a1.2.1)),(11,cD (dI a32.1))],[(5000,vL 3 z02 ((a32.2.set (0 + a32.1.toNat) (a32.2.getD (0 + (IntKind.i64.wrap (a32.1 - 1)).toNat) default)).set (0 + (IntKind.i64.wrap (a32.1 - 1)).toNat) (a32.2.getD (0 + a32.1.toNat) default)))]⟩ ?_ ?_
              ·refine Tri.dS ⟨[(0,.c (oC 5000 3 a32.2)),(1,cD (dI p1)),(2,cD (dI p2)),(3,cD (.fn 74 [])),(9,cD (dI a6)),(10,cD (dI a1.2.1)),(11,cD (dI a32.1))],[(5000,vL 3 z02 ((a32.2.set (0 + a32.1.toNat) (a32.2.getD (0 + (IntKind.i64.wrap (a32.1 - 1)).toNat) default)).set (0 + (IntKind.i64.wrap (a32.1 - 1)).toNat) (a32.2.getD (0 + a32.1.toNat) default)))]⟩ [.a [0] [],.a [11] [],.a [0] [],.a [11] [],.a [88] [],.a [0] [],.a [11] [],.a [91] [],.a [90,92] [5000],.a [93] [5000],.a [0] [],.a [11] [],.a [95,96] [5000],.a [97] [5000],.a [85,86] [5000],.m ⟨[(94,.agg (cTime (a32.2.getD (0 + (IntKind.i64.wrap (a32.1 - 1)).toNat) default))),(99,.c (.vptr 5000 3 (0 + a32.1.toNat) 0))],[(5000,vL 3 z02 a32.2)]⟩ ⟨[],[(5000,vL 3 z02 (a32.2.set (0 + a32.1.toNat) (a32.2.getD (0 + (IntKind.i64.wrap (a32.1 - 1)).toNat) default)))]⟩ [] [] [],.a [87,89] [5000],.m ⟨[(98,.agg (cTime (a32.2.getD (0 + a32.1.toNat) default))),(100,.c (.vptr 5000 3 (0 + (IntKind.i64.wrap (a32.1 - 1)).toNat) 0))],[(5000,vL 3 z02 (a32.2.set (0 + a32.1.toNat) (a32.2.getD (0 + (IntKind.i64.wrap (a32.1 - 1)).toNat) default)))]⟩ ⟨[],[(5000,vL 3 z02 ((a32.2.set (0 + a32.1.toNat) (a32.2.getD (0 + (IntKind.i64.wrap (a32.1 - 1)).toNat) default)).set (0 + (IntKind.i64.wrap (a32.1 - 1)).toNat) (a32.2.getD (0 + a32.1.toNat) default)))]⟩ [] [] []] [0,1,2,3,9,10,11] [5000] (tN 8 (ai hc39 (ai hc40 (tN 2 (ai hc41 (ai hc42 (ai hc43 (ai hc45 trivial)))))))) (.a (.a (.a (.a (.a (.a (.a (.a (.a (.a (.a (.a (.a (.a (.a (.m ?_ (.a (.m ?_ .z)))))))))))))))))) ?_
               · exact DOk.one fun r hr=>One.storeT (xs:=[.d (dU ((a32.2.getD (0 + (IntKind.i64.wrap (a32.1 - 1)).toNat) default).epoch)),.d (dU ((a32.2.getD (0 + (IntKind.i64.wrap (a32.1 - 1)).toNat) default).loop.1)),.d (dU ((a32.2.getD (0 + (IntKind.i64.wrap (a32.1 - 1)).toNat) default).loop.2))]) (ds:=[dU ((a32.2.getD (0 + (IntKind.i64.wrap (a32.1 - 1)).toNat) default).epoch),dU ((a32.2.getD (0 + (IntKind.i64.wrap (a32.1 - 1)).toNat) default).loop.1),dU ((a32.2.getD (0 + (IntKind.i64.wrap (a32.1 - 1)).toNat) default).loop.2)]) (z02) a32.2 (a32.2.getD (0 + (IntKind.i64.wrap (a32.1 - 1)).toNat) default) rfl (by kernel_rfl) rfl rfl rfl hc44 rfl rfl (.refl _) rfl rfl rfl rfl
               · exact DOk.one fun r hr=>One.storeT (xs:=[.d (dU ((a32.2.getD (0 + a32.1.toNat) default).epoch)),.d (dU ((a32.2.getD (0 + a32.1.toNat) default).loop.1)),.d (dU ((a32.2.getD (0 + a32.1.toNat) default).loop.2))]) (ds:=[dU ((a32.2.getD (0 + a32.1.toNat) default).epoch),dU ((a32.2.getD (0 + a32.1.toNat) default).loop.1),dU ((a32.2.getD (0 + a32.1.toNat) default).loop.2)]) (z02) (a32.2.set (0 + a32.1.toNat) (a32.2.getD (0 + (IntKind.i64.wrap (a32.1 - 1)).toNat) default)) (a32.2.getD (0 + a32.1.toNat) default) rfl (by kernel_rfl) rfl rfl rfl hc46 rfl rfl (.refl _) rfl rfl rfl rfl
               exact ⟨rfl,rfl⟩
              ·refine At.eqS (s':=⟨[(0,.c (oC 5000 3 ((a32.2.set (0 + a32.1.toNat) (a32.2.getD (0 + (IntKind.i64.wrap (a32.1 - 1)).toNat) default)).set (0 + (IntKind.i64.wrap (a32.1 - 1)).toNat) (a32.2.getD (0 + a32.1.toNat) default)))),(1,cD (dI p1)),(2,cD (dI p2)),(3,cD (.fn 74 [])),(9,cD (dI a6)),(10,cD (dI a1.2.1)),(11,cD (dI a32.1))],[(5000,vL 3 z02 ((a32.2.set (0 + a32.1.toNat) (a32.2.getD (0 + (IntKind.i64.wrap (a32.1 - 1)).toNat) default)).set (0 + (IntKind.i64.wrap (a32.1 - 1)).toNat) (a32.2.getD (0 + a32.1.toNat) default)))]⟩) (by simp only [oC,vL,List.length_set]) ?_
               refine At.done rfl ?_
               refine Tri.reg ?_
               refine At.sg 3 [0,1,2,3,9,10,11] [5000] (z00 3) ?_
               refine At.done rfl ?_
               cases h
               exact kr
            ·refine Tri.kp [0,1,2,3,9,10] [5000] ?_
             refine Tri.exit ?_
             cases h
             exact ⟨rfl,kr⟩
           ·intro a33 h
            exact ⟨_,h,kr⟩
           · exact fun x=>x.elim
          ·refine Tri.kp [0,1,2,3,9,10] [5000] ?_
           refine Tri.skip ?_
           exact ⟨_,h,kr⟩
     · exact fun x=>x.elim
   ·refine Tri.kp [0,1,2,3,9,10] [5000] ?_
    refine Tri.exit ?_
    cases h
    exact ⟨rfl,kr⟩
  ·intro a2 h
   refine Tri.sg [8] [5000] (z00 1) ?_
   refine Tri.ret ?_
   cases h
   exact RetAt.k
  · exact fun x s hx hr=>by cases hx; exact hr
theorem z65 {fuel:Nat} {p1:Int} {p2:Int} {p3:Int} {l0:List Time} {q:Int × (List Time)} (h:z14 fuel p1 p2 p3 l0=some q) :
    Summ Tryz.prog 154 [.c (oC 5000 3 l0),cD (dI p1),cD (dI p2),cD (dI p3),cD (.fn 74 [])] [(5000,vL 3 z02 l0)] (cD (dI q.1)) [(5000,vL 3 z02 q.2)]:=by
  refine Summ.intro Tryz.func154 rfl (by kernel_rfl) (by kernel_rfl) [] rfl ?_
  rintro ⟨P,w0,G0,V,LL,lk,N, φ0,fx⟩ rfl rfl rfl rfl
  unfold z14 at h
  refine Tri.segL [0,1,2,3,4] [5000] ⟨[(0,.c (oC 5000 3 l0)),(1,cD (dI p1)),(2,cD (dI p2)),(3,cD (dI p3)),(4,cD (.fn 74 []))],[(5000,vL 3 z02 l0)]⟩ _ (by kernel_rfl) (z00 1) ?_
  refine Tri.seqS ?_
  obtain ⟨hc1,h⟩:=z03 h
  obtain ⟨hc2,h⟩:=z03 h
  obtain ⟨hc3,h⟩:=z03 h
  obtain ⟨hc4,h⟩:=z03 h
  obtain ⟨hc5,h⟩:=z03 h
  obtain ⟨hc6,h⟩:=z03 h
  obtain ⟨hc7,h⟩:=z03 h
  obtain ⟨hc8,h⟩:=z03 h
  refine Tri.afterA ⟨[(0,.c (oC 5000 3 l0)),(1,cD (dI p1)),(2,cD (dI p2)),(4,cD (.fn 74 []))],[(5000,vL 3 z02 ((l0.set (0 + p1.toNat) (l0.getD (0 + p3.toNat) default)).set (0 + p3.toNat) (l0.getD (0 + p1.toNat) default)))]⟩ ?_ ?_
  ·refine Tri.dS ⟨[(0,.c (oC 5000 3 l0)),(1,cD (dI p1)),(2,cD (dI p2)),(4,cD (.fn 74 []))],[(5000,vL 3 z02 ((l0.set (0 + p1.toNat) (l0.getD (0 + p3.toNat) default)).set (0 + p3.toNat) (l0.getD (0 + p1.toNat) default)))]⟩ [.a [0] [],.a [1] [],.a [0] [],.a [3] [],.a [0] [],.a [3] [],.a [17,18] [5000],.a [19] [5000],.a [0] [],.a [1] [],.a [21,22] [5000],.a [23] [5000],.a [13,14] [5000],.m ⟨[(20,.agg (cTime (l0.getD (0 + p3.toNat) default))),(25,.c (.vptr 5000 3 (0 + p1.toNat) 0))],[(5000,vL 3 z02 l0)]⟩ ⟨[],[(5000,vL 3 z02 (l0.set (0 + p1.toNat) (l0.getD (0 + p3.toNat) default)))]⟩ [] [] [],.a [15,16] [5000],.m ⟨[(24,.agg (cTime (l0.getD (0 + p1.toNat) default))),(26,.c (.vptr 5000 3 (0 + p3.toNat) 0))],[(5000,vL 3 z02 (l0.set (0 + p1.toNat) (l0.getD (0 + p3.toNat) default)))]⟩ ⟨[],[(5000,vL 3 z02 ((l0.set (0 + p1.toNat) (l0.getD (0 + p3.toNat) default)).set (0 + p3.toNat) (l0.getD (0 + p1.toNat) default)))]⟩ [] [] []] [0,1,2,4] [5000] (tN 6 (ai hc1 (ai hc2 (tN 2 (ai hc3 (ai hc4 (ai hc5 (ai hc7 trivial)))))))) (.a (.a (.a (.a (.a (.a (.a (.a (.a (.a (.a (.a (.a (.m ?_ (.a (.m ?_ .z)))))))))))))))) ?_
   · exact DOk.one fun r hr=>One.storeT (xs:=[.d (dU ((l0.getD (0 + p3.toNat) default).epoch)),.d (dU ((l0.getD (0 + p3.toNat) default).loop.1)),.d (dU ((l0.getD (0 + p3.toNat) default).loop.2))]) (ds:=[dU ((l0.getD (0 + p3.toNat) default).epoch),dU ((l0.getD (0 + p3.toNat) default).loop.1),dU ((l0.getD (0 + p3.toNat) default).loop.2)]) (z02) l0 (l0.getD (0 + p3.toNat) default) rfl (by kernel_rfl) rfl rfl rfl hc6 rfl rfl (.refl _) rfl rfl rfl rfl
   · exact DOk.one fun r hr=>One.storeT (xs:=[.d (dU ((l0.getD (0 + p1.toNat) default).epoch)),.d (dU ((l0.getD (0 + p1.toNat) default).loop.1)),.d (dU ((l0.getD (0 + p1.toNat) default).loop.2))]) (ds:=[dU ((l0.getD (0 + p1.toNat) default).epoch),dU ((l0.getD (0 + p1.toNat) default).loop.1),dU ((l0.getD (0 + p1.toNat) default).loop.2)]) (z02) (l0.set (0 + p1.toNat) (l0.getD (0 + p3.toNat) default)) (l0.getD (0 + p1.toNat) default) rfl (by kernel_rfl) rfl rfl rfl hc8 rfl rfl (.refl _) rfl rfl rfl rfl
   exact ⟨rfl,rfl⟩
  ·refine At.eqS (s':=⟨[(0,.c (oC 5000 3 ((l0.set (0 + p1.toNat) (l0.getD (0 + p3.toNat) default)).set (0 + p3.toNat) (l0.getD (0 + p1.toNat) default)))),(1,cD (dI p1)),(2,cD (dI p2)),(4,cD (.fn 74 []))],[(5000,vL 3 z02 ((l0.set (0 + p1.toNat) (l0.getD (0 + p3.toNat) default)).set (0 + p3.toNat) (l0.getD (0 + p1.toNat) default)))]⟩) (by simp only [oC,vL,List.length_set]) ?_
   refine At.done rfl ?_
   refine Tri.sg [0,1,4,11,12] [5000] (z00 6) ?_
   refine Tri.seqS ?_
   refine Tri.lK ((IntKind.i64.wrap (p1 + 1)),(IntKind.i64.wrap (p2 - 1)),((l0.set (0 + p1.toNat) (l0.getD (0 + p3.toNat) default)).set (0 + p3.toNat) (l0.getD (0 + p1.toNat) default))) (fun (x:Empty) s=>False) (fun (a9:Int × Int × (List Time))=>⟨[(0,.c (oC 5000 3 a9.2.2)),(1,cD (dI p1)),(4,cD (.fn 74 [])),(11,cD (dI a9.1)),(12,cD (dI a9.2.1))],[(5000,vL 3 z02 a9.2.2)]⟩) [0,1,4,11,12] [5000] h ?_ ?_ ?_
   ·intro a9 c h
    refine Tri.blockB ?_
    refine Tri.seqS ?_
    refine Tri.lK (a9.1) (fun (x:Empty) s=>False) (fun (a11:Int)=>⟨[(0,.c (oC 5000 3 a9.2.2)),(1,cD (dI p1)),(4,cD (.fn 74 [])),(11,cD (dI a11)),(12,cD (dI a9.2.1))],[(5000,vL 3 z02 a9.2.2)]⟩) [0,1,4,11,12] [5000] h ?_ ?_ ?_
    ·intro a11 c h
     refine Tri.eqS ⟨[(0,.c (oC 5000 3 a9.2.2)),(1,cD (dI p1)),(4,cD (.fn 74 [])),(11,cD (dI a11)),(12,cD (dI a9.2.1))],[(5000,vL 3 z02 a9.2.2)]⟩ kr ?_
     refine Tri.seqS ?_
     refine Tri.seqJ (fun (a31:Bool)=>⟨[(0,.c (oC 5000 3 a9.2.2)),(1,cD (dI p1)),(4,cD (.fn 74 [])),(11,cD (dI a11)),(12,cD (dI a9.2.1)),(47,cD (.bool a31))],[(5000,vL 3 z02 a9.2.2)]⟩) h (fun a31 h => ?_) (fun j32 h => ?_)
     ·refine Tri.condK h (fun h => ?_) (fun h => ?_)
      ·refine Tri.skip ?_
       refine Tri.blockB ?_
       refine Tri.reg ?_
       refine At.sg 3 [0,1,4,11,12] [5000] (z00 3) ?_
       refine At.done rfl ?_
       cases h
       exact kr
      ·refine Tri.kp [0,1,4,11,12] [5000] ?_
       refine Tri.exit ?_
       cases h
       exact ⟨rfl,kr⟩
     ·rcases z1f h with ⟨hp33,h⟩ | ⟨hp33,h⟩
      ·obtain ⟨hc34,h⟩:=z03 h
       obtain ⟨hc35,h⟩:=z03 h
       obtain ⟨hc36,h⟩:=z03 h
       obtain ⟨hc37,h⟩:=z03 h
       obtain ⟨r38,hr38,h⟩:=z04 h
       refine Tri.dC [.a [11] [],.a [12] [],.a [31,32] [],.m ⟨[(33,cD (.bool (decide (a11≤a9.2.1))))],[]⟩ ⟨[(34,.c (.d (.bool true)))],[]⟩ [] [] [],.a [4,34] [],.a [0,34] [],.a [1,34] [],.a [34,36,37] [5000],.a [34,38] [5000],.a [0,34] [],.a [11,34] [],.a [34,40,41] [5000],.a [34,42] [5000],.m ⟨[(34,cD (.bool true)),(35,cD (.fn 74 [])),(39,.agg (cTime (a9.2.2.getD (0 + p1.toNat) default))),(43,.agg (cTime (a9.2.2.getD (0 + a11.toNat) default)))],[]⟩ ⟨[(44,cD (dI r38))],[]⟩ [] [] [],.a [34,44] [],.a [34,45] [],.a [34,46] []] [0,1,4,11,12,47] [5000] (tN 6 (ai hc34 (ai hc35 (tN 2 (ai hc36 (ai hc37 (z00 3))))))) (.a (.a (.a (.m ?_ (.a (.a (.a (.a (.a (.a (.a (.a (.a (.m ?_ (.a (.a (.a .z))))))))))))))))) ?_
       · exact DOk.stepP (fun b => .val (.c (.d (.bool b))) (True)) (p:=(decide (a11≤a9.2.1))) hp33 (fun r=>by kernel_rfl) (fun r=>by kernel_rfl) trivial (by kernel_rfl) (by kernel_rfl) (fun r=>rfl)
       · exact DOk.cA [] [.agg (cTime (a9.2.2.getD (0 + p1.toNat) default)),.agg (cTime (a9.2.2.getD (0 + a11.toNat) default))] (z1n hr38) fun r=>(.cons (.refl _) (.cons (.refl _) .nil))
       exact ⟨_,h,kr⟩
      ·refine Tri.dC [.a [11] [],.a [12] [],.a [31,32] [],.m ⟨[(33,cD (.bool (decide (a11≤a9.2.1))))],[]⟩ ⟨[(34,.c (.d (.bool false)))],[]⟩ [] [] [],.a [4,34] [],.a [0,34] [],.a [1,34] [],.a [34,36,37] [],.a [34,38] [],.a [0,34] [],.a [11,34] [],.a [34,40,41] [],.a [34,42] [],.a [34,35,39,43] [],.a [34,44] [],.a [34,45] [],.a [34,46] []] [0,1,4,11,12,47] [5000] (z00 4) (.a (.a (.a (.m ?_ (.a (.a (.a (.a (.a (.a (.a (.a (.a (.a (.a (.a (.a .z))))))))))))))))) ?_
       · exact DOk.stepP (fun b => .val (.c (.d (.bool b))) (True)) (p:=(decide (a11≤a9.2.1))) hp33 (fun r=>by kernel_rfl) (fun r=>by kernel_rfl) trivial (by kernel_rfl) (by kernel_rfl) (fun r=>rfl)
       exact ⟨_,h,kr⟩
    ·intro a12 h
     refine Tri.seqS ?_
     refine Tri.lK (a9.2.1) (fun (x:Empty) s=>False) (fun (a13:Int)=>⟨[(0,.c (oC 5000 3 a9.2.2)),(1,cD (dI p1)),(4,cD (.fn 74 [])),(11,cD (dI a12)),(12,cD (dI a13))],[(5000,vL 3 z02 a9.2.2)]⟩) [0,1,4,11,12] [5000] h ?_ ?_ ?_
     ·intro a13 c h
      refine Tri.eqS ⟨[(0,.c (oC 5000 3 a9.2.2)),(1,cD (dI p1)),(4,cD (.fn 74 [])),(11,cD (dI a12)),(12,cD (dI a13))],[(5000,vL 3 z02 a9.2.2)]⟩ kr ?_
      refine Tri.seqS ?_
      refine Tri.seqJ (fun (a23:Bool)=>⟨[(0,.c (oC 5000 3 a9.2.2)),(1,cD (dI p1)),(4,cD (.fn 74 [])),(11,cD (dI a12)),(12,cD (dI a13)),(65,cD (.bool a23))],[(5000,vL 3 z02 a9.2.2)]⟩) h (fun a23 h => ?_) (fun j24 h => ?_)
      ·refine Tri.condK h (fun h => ?_) (fun h => ?_)
       ·refine Tri.skip ?_
        refine Tri.blockB ?_
        refine Tri.reg ?_
        refine At.sg 3 [0,1,4,11,12] [5000] (z00 3) ?_
        refine At.done rfl ?_
        cases h
        exact kr
       ·refine Tri.kp [0,1,4,11,12] [5000] ?_
        refine Tri.exit ?_
        cases h
        exact ⟨rfl,kr⟩
      ·rcases z1f h with ⟨hp25,h⟩ | ⟨hp25,h⟩
       ·obtain ⟨hc26,h⟩:=z03 h
        obtain ⟨hc27,h⟩:=z03 h
        obtain ⟨hc28,h⟩:=z03 h
        obtain ⟨hc29,h⟩:=z03 h
        obtain ⟨r30,hr30,h⟩:=z04 h
        refine Tri.dC [.a [11] [],.a [12] [],.a [50,51] [],.m ⟨[(52,cD (.bool (decide (a12≤a13))))],[]⟩ ⟨[(53,.c (.d (.bool true)))],[]⟩ [] [] [],.a [4,53] [],.a [0,53] [],.a [1,53] [],.a [53,55,56] [5000],.a [53,57] [5000],.a [0,53] [],.a [12,53] [],.a [53,59,60] [5000],.a [53,61] [5000],.m ⟨[(53,cD (.bool true)),(54,cD (.fn 74 [])),(58,.agg (cTime (a9.2.2.getD (0 + p1.toNat) default))),(62,.agg (cTime (a9.2.2.getD (0 + a13.toNat) default)))],[]⟩ ⟨[(63,cD (dI r30))],[]⟩ [] [] [],.a [53,63] [],.a [53,64] []] [0,1,4,11,12,65] [5000] (tN 6 (ai hc26 (ai hc27 (tN 2 (ai hc28 (ai hc29 (z00 2))))))) (.a (.a (.a (.m ?_ (.a (.a (.a (.a (.a (.a (.a (.a (.a (.m ?_ (.a (.a .z)))))))))))))))) ?_
        · exact DOk.stepP (fun b => .val (.c (.d (.bool b))) (True)) (p:=(decide (a12≤a13))) hp25 (fun r=>by kernel_rfl) (fun r=>by kernel_rfl) trivial (by kernel_rfl) (by kernel_rfl) (fun r=>rfl)
        · exact DOk.cA [] [.agg (cTime (a9.2.2.getD (0 + p1.toNat) default)),.agg (cTime (a9.2.2.getD (0 + a13.toNat) default))] (z1n hr30) fun r=>(.cons (.refl _) (.cons (.refl _) .nil))
        exact ⟨_,h,kr⟩
       ·refine Tri.dC [.a [11] [],.a [12] [],.a [50,51] [],.m ⟨[(52,cD (.bool (decide (a12≤a13))))],[]⟩ ⟨[(53,.c (.d (.bool false)))],[]⟩ [] [] [],.a [4,53] [],.a [0,53] [],.a [1,53] [],.a [53,55,56] [],.a [53,57] [],.a [0,53] [],.a [12,53] [],.a [53,59,60] [],.a [53,61] [],.a [53,54,58,62] [],.a [53,63] [],.a [53,64] []] [0,1,4,11,12,65] [5000] (z00 4) (.a (.a (.a (.m ?_ (.a (.a (.a (.a (.a (.a (.a (.a (.a (.a (.a (.a .z)))))))))))))))) ?_
        · exact DOk.stepP (fun b => .val (.c (.d (.bool b))) (True)) (p:=(decide (a12≤a13))) hp25 (fun r=>by kernel_rfl) (fun r=>by kernel_rfl) trivial (by kernel_rfl) (by kernel_rfl) (fun r=>rfl)
        exact ⟨_,h,kr⟩
     ·intro a14 h
      refine Tri.seqS ?_
      refine Tri.segL [0,1,4,11,12,70] [5000] ⟨[(0,.c (oC 5000 3 a9.2.2)),(1,cD (dI p1)),(4,cD (.fn 74 [])),(11,cD (dI a12)),(12,cD (dI a14)),(70,cD (.bool (decide (a14 < a12))))],[(5000,vL 3 z02 a9.2.2)]⟩ _ (by kernel_rfl) (z00 3) ?_
      refine Tri.condK h (fun h => ?_) (fun h => ?_)
      ·refine Tri.kp [0,1,4,11,12] [5000] ?_
       refine Tri.exit ?_
       cases h
       exact ⟨rfl,kr⟩
      ·refine Tri.skip ?_
       refine Tri.seqS ?_
       obtain ⟨hc15,h⟩:=z03 h
       obtain ⟨hc16,h⟩:=z03 h
       obtain ⟨hc17,h⟩:=z03 h
       obtain ⟨hc18,h⟩:=z03 h
       obtain ⟨hc19,h⟩:=z03 h
       obtain ⟨hc20,h⟩:=z03 h
       obtain ⟨hc21,h⟩:=z03 h
       obtain ⟨hc22,h⟩:=z03 h
       refine Tri.afterA ⟨[(0,.c (oC 5000 3 a9.2.2)),(1,cD (dI p1)),(4,cD (.fn 74 [])),(11,cD (dI a12)),(12,cD (dI a14))],[(5000,vL 3 z02 ((a9.2.2.set (0 + a12.toNat) (a9.2.2.getD (0 + a14.toNat) default)).set (0 + a14.toNat) (a9.2.2.getD (0 + a12.toNat) default)))]⟩ ?_ ?_
       ·refine Tri.dS ⟨[(0,.c (oC 5000 3 a9.2.2)),(1,cD (dI p1)),(4,cD (.fn 74 [])),(11,cD (dI a12)),(12,cD (dI a14))],[(5000,vL 3 z02 ((a9.2.2.set (0 + a12.toNat) (a9.2.2.getD (0 + a14.toNat) default)).set (0 + a14.toNat) (a9.2.2.getD (0 + a12.toNat) default)))]⟩ [.a [0] [],.a [11] [],.a [0] [],.a [12] [],.a [0] [],.a [12] [],.a [75,76] [5000],.a [77] [5000],.a [0] [],.a [11] [],.a [79,80] [5000],.a [81] [5000],.a [71,72] [5000],.m ⟨[(78,.agg (cTime (a9.2.2.getD (0 + a14.toNat) default))),(83,.c (.vptr 5000 3 (0 + a12.toNat) 0))],[(5000,vL 3 z02 a9.2.2)]⟩ ⟨[],[(5000,vL 3 z02 (a9.2.2.set (0 + a12.toNat) (a9.2.2.getD (0 + a14.toNat) default)))]⟩ [] [] [],.a [73,74] [5000],.m ⟨[(82,.agg (cTime (a9.2.2.getD (0 + a12.toNat) default))),(84,.c (.vptr 5000 3 (0 + a14.toNat) 0))],[(5000,vL 3 z02 (a9.2.2.set (0 + a12.toNat) (a9.2.2.getD (0 + a14.toNat) default)))]⟩ ⟨[],[(5000,vL 3 z02 ((a9.2.2.set (0 + a12.toNat) (a9.2.2.getD (0 + a14.toNat) default)).set (0 + a14.toNat) (a9.2.2.getD (0 + a12.toNat) default)))]⟩ [] [] []] [0,1,4,11,12] [5000] (tN 6 (ai hc15 (ai hc16 (tN 2 (ai hc17 (ai hc18 (ai hc19 (ai hc21 trivial)))))))) (.a (.a (.a (.a (.a (.a (.a (.a (.a (.a (.a (.a (.a (.m ?_ (.a (.m ?_ .z)))))))))))))))) ?_
        · exact DOk.one fun r hr=>One.storeT (xs:=[.d (dU ((a9.2.2.getD (0 + a14.toNat) default).epoch)),.d (dU ((a9.2.2.getD (0 + a14.toNat) default).loop.1)),.d (dU ((a9.2.2.getD (0 + a14.toNat) default).loop.2))]) (ds:=[dU ((a9.2.2.getD (0 + a14.toNat) default).epoch),dU ((a9.2.2.getD (0 + a14.toNat) default).loop.1),dU ((a9.2.2.getD (0 + a14.toNat) default).loop.2)]) (z02) a9.2.2 (a9.2.2.getD (0 + a14.toNat) default) rfl (by kernel_rfl) rfl rfl rfl hc20 rfl rfl (.refl _) rfl rfl rfl rfl
        · exact DOk.one fun r hr=>One.storeT (xs:=[.d (dU ((a9.2.2.getD (0 + a12.toNat) default).epoch)),.d (dU ((a9.2.2.getD (0 + a12.toNat) default).loop.1)),.d (dU ((a9.2.2.getD (0 + a12.toNat) default).loop.2))]) (ds:=[dU ((a9.2.2.getD (0 + a12.toNat) default).epoch),dU ((a9.2.2.getD (0 + a12.toNat) default).loop.1),dU ((a9.2.2.getD (0 + a12.toNat) default).loop.2)]) (z02) (a9.2.2.set (0 + a12.toNat) (a9.2.2.getD (0 + a14.toNat) default)) (a9.2.2.getD (0 + a12.toNat) default) rfl (by kernel_rfl) rfl rfl rfl hc22 rfl rfl (.refl _) rfl rfl rfl rfl
        exact ⟨rfl,rfl⟩
       ·refine At.eqS (s':=⟨[(0,.c (oC 5000 3 ((a9.2.2.set (0 + a12.toNat) (a9.2.2.getD (0 + a14.toNat) default)).set (0 + a14.toNat) (a9.2.2.getD (0 + a12.toNat) default)))),(1,cD (dI p1)),(4,cD (.fn 74 [])),(11,cD (dI a12)),(12,cD (dI a14))],[(5000,vL 3 z02 ((a9.2.2.set (0 + a12.toNat) (a9.2.2.getD (0 + a14.toNat) default)).set (0 + a14.toNat) (a9.2.2.getD (0 + a12.toNat) default)))]⟩) (by simp only [oC,vL,List.length_set]) ?_
        refine At.done rfl ?_
        refine Tri.sg [0,1,4,11,12] [5000] (z00 3) ?_
        refine Tri.reg ?_
        refine At.sg 3 [0,1,4,11,12] [5000] (z00 3) ?_
        refine At.done rfl ?_
        cases h
        exact kr
     · exact fun x=>x.elim
    · exact fun x=>x.elim
   ·intro a10 h
    refine Tri.sg [10] [5000] (z00 2) ?_
    refine Tri.ret ?_
    cases h
    exact RetAt.k
   · exact fun x=>x.elim
theorem z70 {fuel:Nat} {p1:Int} {p2:Int} {p3:Int} {l0:List Time} {q:Int × Bool × (List Time)} (h:z1m fuel p1 p2 p3 l0=some q) :
    Summ Tryz.prog 155 [.c (oC 5000 3 l0),cD (dI p1),cD (dI p2),cD (dI p3),cD (.fn 74 [])] [(5000,vL 3 z02 l0)] (.tup [(false,[.d (dI q.1)]),(false,[.d (.bool q.2.1)])]) [(5000,vL 3 z02 q.2.2)]:=by
  refine Summ.intro Tryz.func155 rfl (by kernel_rfl) (by kernel_rfl) [] rfl ?_
  rintro ⟨P,w0,G0,V,LL,lk,N, φ0,fx⟩ rfl rfl rfl rfl
  unfold z1m at h
  refine Tri.segL [0,1,2,3,4] [5000] ⟨[(0,.c (oC 5000 3 l0)),(1,cD (dI p1)),(2,cD (dI p2)),(3,cD (dI p3)),(4,cD (.fn 74 []))],[(5000,vL 3 z02 l0)]⟩ _ (by kernel_rfl) (z00 2) ?_
  refine Tri.seqS ?_
  obtain ⟨hc1,h⟩:=z03 h
  obtain ⟨hc2,h⟩:=z03 h
  obtain ⟨hc3,h⟩:=z03 h
  obtain ⟨hc4,h⟩:=z03 h
  obtain ⟨hc5,h⟩:=z03 h
  obtain ⟨hc6,h⟩:=z03 h
  obtain ⟨hc7,h⟩:=z03 h
  obtain ⟨hc8,h⟩:=z03 h
  refine Tri.afterA ⟨[(0,.c (oC 5000 3 l0)),(1,cD (dI p1)),(2,cD (dI p2)),(4,cD (.fn 74 []))],[(5000,vL 3 z02 ((l0.set (0 + p1.toNat) (l0.getD (0 + p3.toNat) default)).set (0 + p3.toNat) (l0.getD (0 + p1.toNat) default)))]⟩ ?_ ?_
  ·refine Tri.dS ⟨[(0,.c (oC 5000 3 l0)),(1,cD (dI p1)),(2,cD (dI p2)),(4,cD (.fn 74 []))],[(5000,vL 3 z02 ((l0.set (0 + p1.toNat) (l0.getD (0 + p3.toNat) default)).set (0 + p3.toNat) (l0.getD (0 + p1.toNat) default)))]⟩ [.a [0] [],.a [1] [],.a [0] [],.a [3] [],.a [0] [],.a [3] [],.a [18,19] [5000],.a [20] [5000],.a [0] [],.a [1] [],.a [22,23] [5000],.a [24] [5000],.a [14,15] [5000],.m ⟨[(21,.agg (cTime (l0.getD (0 + p3.toNat) default))),(26,.c (.vptr 5000 3 (0 + p1.toNat) 0))],[(5000,vL 3 z02 l0)]⟩ ⟨[],[(5000,vL 3 z02 (l0.set (0 + p1.toNat) (l0.getD (0 + p3.toNat) default)))]⟩ [] [] [],.a [16,17] [5000],.m ⟨[(25,.agg (cTime (l0.getD (0 + p1.toNat) default))),(27,.c (.vptr 5000 3 (0 + p3.toNat) 0))],[(5000,vL 3 z02 (l0.set (0 + p1.toNat) (l0.getD (0 + p3.toNat) default)))]⟩ ⟨[],[(5000,vL 3 z02 ((l0.set (0 + p1.toNat) (l0.getD (0 + p3.toNat) default)).set (0 + p3.toNat) (l0.getD (0 + p1.toNat) default)))]⟩ [] [] []] [0,1,2,4] [5000] (tN 6 (ai hc1 (ai hc2 (tN 2 (ai hc3 (ai hc4 (ai hc5 (ai hc7 trivial)))))))) (.a (.a (.a (.a (.a (.a (.a (.a (.a (.a (.a (.a (.a (.m ?_ (.a (.m ?_ .z)))))))))))))))) ?_
   · exact DOk.one fun r hr=>One.storeT (xs:=[.d (dU ((l0.getD (0 + p3.toNat) default).epoch)),.d (dU ((l0.getD (0 + p3.toNat) default).loop.1)),.d (dU ((l0.getD (0 + p3.toNat) default).loop.2))]) (ds:=[dU ((l0.getD (0 + p3.toNat) default).epoch),dU ((l0.getD (0 + p3.toNat) default).loop.1),dU ((l0.getD (0 + p3.toNat) default).loop.2)]) (z02) l0 (l0.getD (0 + p3.toNat) default) rfl (by kernel_rfl) rfl rfl rfl hc6 rfl rfl (.refl _) rfl rfl rfl rfl
   · exact DOk.one fun r hr=>One.storeT (xs:=[.d (dU ((l0.getD (0 + p1.toNat) default).epoch)),.d (dU ((l0.getD (0 + p1.toNat) default).loop.1)),.d (dU ((l0.getD (0 + p1.toNat) default).loop.2))]) (ds:=[dU ((l0.getD (0 + p1.toNat) default).epoch),dU ((l0.getD (0 + p1.toNat) default).loop.1),dU ((l0.getD (0 + p1.toNat) default).loop.2)]) (z02) (l0.set (0 + p1.toNat) (l0.getD (0 + p3.toNat) default)) (l0.getD (0 + p1.toNat) default) rfl (by kernel_rfl) rfl rfl rfl hc8 rfl rfl (.refl _) rfl rfl rfl rfl
   exact ⟨rfl,rfl⟩
  ·refine At.eqS (s':=⟨[(0,.c (oC 5000 3 ((l0.set (0 + p1.toNat) (l0.getD (0 + p3.toNat) default)).set (0 + p3.toNat) (l0.getD (0 + p1.toNat) default)))),(1,cD (dI p1)),(2,cD (dI p2)),(4,cD (.fn 74 []))],[(5000,vL 3 z02 ((l0.set (0 + p1.toNat) (l0.getD (0 + p3.toNat) default)).set (0 + p3.toNat) (l0.getD (0 + p1.toNat) default)))]⟩) (by simp only [oC,vL,List.length_set]) ?_
   refine At.done rfl ?_
   refine Tri.sg [0,1,4,12,13] [5000] (z00 6) ?_
   refine Tri.seqS ?_
   refine Tri.lK ((IntKind.i64.wrap (p1 + 1)),(IntKind.i64.wrap (p2 - 1))) (fun (x:Empty) s=>False) (fun (a9:Int × Int)=>⟨[(0,.c (oC 5000 3 ((l0.set (0 + p1.toNat) (l0.getD (0 + p3.toNat) default)).set (0 + p3.toNat) (l0.getD (0 + p1.toNat) default)))),(1,cD (dI p1)),(4,cD (.fn 74 [])),(12,cD (dI a9.1)),(13,cD (dI a9.2))],[(5000,vL 3 z02 ((l0.set (0 + p1.toNat) (l0.getD (0 + p3.toNat) default)).set (0 + p3.toNat) (l0.getD (0 + p1.toNat) default)))]⟩) [0,1,4,12,13] [5000] h ?_ ?_ ?_
   ·intro a9 c h
    refine Tri.eqS ⟨[(0,.c (oC 5000 3 ((l0.set (0 + p1.toNat) (l0.getD (0 + p3.toNat) default)).set (0 + p3.toNat) (l0.getD (0 + p1.toNat) default)))),(1,cD (dI p1)),(4,cD (.fn 74 [])),(12,cD (dI a9.1)),(13,cD (dI a9.2))],[(5000,vL 3 z02 ((l0.set (0 + p1.toNat) (l0.getD (0 + p3.toNat) default)).set (0 + p3.toNat) (l0.getD (0 + p1.toNat) default)))]⟩ kr ?_
    refine Tri.seqS ?_
    refine Tri.seqJ (fun (a75:Bool)=>⟨[(0,.c (oC 5000 3 ((l0.set (0 + p1.toNat) (l0.getD (0 + p3.toNat) default)).set (0 + p3.toNat) (l0.getD (0 + p1.toNat) default)))),(1,cD (dI p1)),(4,cD (.fn 74 [])),(12,cD (dI a9.1)),(13,cD (dI a9.2)),(47,cD (.bool a75))],[(5000,vL 3 z02 ((l0.set (0 + p1.toNat) (l0.getD (0 + p3.toNat) default)).set (0 + p3.toNat) (l0.getD (0 + p1.toNat) default)))]⟩) h (fun a75 h => ?_) (fun j76 h => ?_)
    ·refine Tri.condK h (fun h => ?_) (fun h => ?_)
     ·refine Tri.skip ?_
      refine Tri.blockB ?_
      refine Tri.reg ?_
      refine At.sg 3 [0,1,4,12,13] [5000] (z00 3) ?_
      refine At.done rfl ?_
      cases h
      exact kr
     ·refine Tri.kp [0,1,4,12,13] [5000] ?_
      refine Tri.exit ?_
      cases h
      exact ⟨rfl,kr⟩
    ·rcases z1f h with ⟨hp77,h⟩ | ⟨hp77,h⟩
     ·obtain ⟨hc78,h⟩:=z03 h
      obtain ⟨hc79,h⟩:=z03 h
      obtain ⟨hc80,h⟩:=z03 h
      obtain ⟨hc81,h⟩:=z03 h
      obtain ⟨r82,hr82,h⟩:=z04 h
      refine Tri.dC [.a [12] [],.a [13] [],.a [32,33] [],.m ⟨[(34,cD (.bool (decide (a9.1≤a9.2))))],[]⟩ ⟨[(35,.c (.d (.bool true)))],[]⟩ [] [] [],.a [4,35] [],.a [0,35] [],.a [12,35] [],.a [35,37,38] [5000],.a [35,39] [5000],.a [0,35] [],.a [1,35] [],.a [35,41,42] [5000],.a [35,43] [5000],.m ⟨[(35,cD (.bool true)),(36,cD (.fn 74 [])),(40,.agg (cTime (((l0.set (0 + p1.toNat) (l0.getD (0 + p3.toNat) default)).set (0 + p3.toNat) (l0.getD (0 + p1.toNat) default)).getD (0 + a9.1.toNat) default))),(44,.agg (cTime (((l0.set (0 + p1.toNat) (l0.getD (0 + p3.toNat) default)).set (0 + p3.toNat) (l0.getD (0 + p1.toNat) default)).getD (0 + p1.toNat) default)))],[]⟩ ⟨[(45,cD (dI r82))],[]⟩ [] [] [],.a [35,45] [],.a [35,46] []] [0,1,4,12,13,47] [5000] (tN 6 (ai hc78 (ai hc79 (tN 2 (ai hc80 (ai hc81 (z00 2))))))) (.a (.a (.a (.m ?_ (.a (.a (.a (.a (.a (.a (.a (.a (.a (.m ?_ (.a (.a .z)))))))))))))))) ?_
      · exact DOk.stepP (fun b => .val (.c (.d (.bool b))) (True)) (p:=(decide (a9.1≤a9.2))) hp77 (fun r=>by kernel_rfl) (fun r=>by kernel_rfl) trivial (by kernel_rfl) (by kernel_rfl) (fun r=>rfl)
      · exact DOk.cA [] [.agg (cTime (((l0.set (0 + p1.toNat) (l0.getD (0 + p3.toNat) default)).set (0 + p3.toNat) (l0.getD (0 + p1.toNat) default)).getD (0 + a9.1.toNat) default)),.agg (cTime (((l0.set (0 + p1.toNat) (l0.getD (0 + p3.toNat) default)).set (0 + p3.toNat) (l0.getD (0 + p1.toNat) default)).getD (0 + p1.toNat) default))] (z1n hr82) fun r=>(.cons (.refl _) (.cons (.refl _) .nil))
      exact ⟨_,h,kr⟩
     ·refine Tri.dC [.a [12] [],.a [13] [],.a [32,33] [],.m ⟨[(34,cD (.bool (decide (a9.1≤a9.2))))],[]⟩ ⟨[(35,.c (.d (.bool false)))],[]⟩ [] [] [],.a [4,35] [],.a [0,35] [],.a [12,35] [],.a [35,37,38] [],.a [35,39] [],.a [0,35] [],.a [1,35] [],.a [35,41,42] [],.a [35,43] [],.a [35,36,40,44] [],.a [35,45] [],.a [35,46] []] [0,1,4,12,13,47] [5000] (z00 4) (.a (.a (.a (.m ?_ (.a (.a (.a (.a (.a (.a (.a (.a (.a (.a (.a (.a .z)))))))))))))))) ?_
      · exact DOk.stepP (fun b => .val (.c (.d (.bool b))) (True)) (p:=(decide (a9.1≤a9.2))) hp77 (fun r=>by kernel_rfl) (fun r=>by kernel_rfl) trivial (by kernel_rfl) (by kernel_rfl) (fun r=>rfl)
      exact ⟨_,h,kr⟩
   ·intro a10 h
    refine Tri.seqS ?_
    refine Tri.lK (a10.2) (fun (x:Empty) s=>False) (fun (a11:Int)=>⟨[(0,.c (oC 5000 3 ((l0.set (0 + p1.toNat) (l0.getD (0 + p3.toNat) default)).set (0 + p3.toNat) (l0.getD (0 + p1.toNat) default)))),(1,cD (dI p1)),(4,cD (.fn 74 [])),(12,cD (dI a10.1)),(13,cD (dI a11))],[(5000,vL 3 z02 ((l0.set (0 + p1.toNat) (l0.getD (0 + p3.toNat) default)).set (0 + p3.toNat) (l0.getD (0 + p1.toNat) default)))]⟩) [0,1,4,12,13] [5000] h ?_ ?_ ?_
    ·intro a11 c h
     refine Tri.eqS ⟨[(0,.c (oC 5000 3 ((l0.set (0 + p1.toNat) (l0.getD (0 + p3.toNat) default)).set (0 + p3.toNat) (l0.getD (0 + p1.toNat) default)))),(1,cD (dI p1)),(4,cD (.fn 74 [])),(12,cD (dI a10.1)),(13,cD (dI a11))],[(5000,vL 3 z02 ((l0.set (0 + p1.toNat) (l0.getD (0 + p3.toNat) default)).set (0 + p3.toNat) (l0.getD (0 + p1.toNat) default)))]⟩ kr ?_
     refine Tri.seqS ?_
     refine Tri.seqJ (fun (a67:Bool)=>⟨[(0,.c (oC 5000 3 ((l0.set (0 + p1.toNat) (l0.getD (0 + p3.toNat) default)).set (0 + p3.toNat) (l0.getD (0 + p1.toNat) default)))),(1,cD (dI p1)),(4,cD (.fn 74 [])),(12,cD (dI a10.1)),(13,cD (dI a11)),(66,cD (.bool a67))],[(5000,vL 3 z02 ((l0.set (0 + p1.toNat) (l0.getD (0 + p3.toNat) default)).set (0 + p3.toNat) (l0.getD (0 + p1.toNat) default)))]⟩) h (fun a67 h => ?_) (fun j68 h => ?_)
     ·refine Tri.condK h (fun h => ?_) (fun h => ?_)
      ·refine Tri.skip ?_
       refine Tri.blockB ?_
       refine Tri.reg ?_
       refine At.sg 3 [0,1,4,12,13] [5000] (z00 3) ?_
       refine At.done rfl ?_
       cases h
       exact kr
      ·refine Tri.kp [0,1,4,12,13] [5000] ?_
       refine Tri.exit ?_
       cases h
       exact ⟨rfl,kr⟩
     ·rcases z1f h with ⟨hp69,h⟩ | ⟨hp69,h⟩
      ·obtain ⟨hc70,h⟩:=z03 h
       obtain ⟨hc71,h⟩:=z03 h
       obtain ⟨hc72,h⟩:=z03 h
       obtain ⟨hc73,h⟩:=z03 h
       obtain ⟨r74,hr74,h⟩:=z04 h
       refine Tri.dC [.a [12] [],.a [13] [],.a [50,51] [],.m ⟨[(52,cD (.bool (decide (a10.1≤a11))))],[]⟩ ⟨[(53,.c (.d (.bool true)))],[]⟩ [] [] [],.a [4,53] [],.a [0,53] [],.a [13,53] [],.a [53,55,56] [5000],.a [53,57] [5000],.a [0,53] [],.a [1,53] [],.a [53,59,60] [5000],.a [53,61] [5000],.m ⟨[(53,cD (.bool true)),(54,cD (.fn 74 [])),(58,.agg (cTime (((l0.set (0 + p1.toNat) (l0.getD (0 + p3.toNat) default)).set (0 + p3.toNat) (l0.getD (0 + p1.toNat) default)).getD (0 + a11.toNat) default))),(62,.agg (cTime (((l0.set (0 + p1.toNat) (l0.getD (0 + p3.toNat) default)).set (0 + p3.toNat) (l0.getD (0 + p1.toNat) default)).getD (0 + p1.toNat) default)))],[]⟩ ⟨[(63,cD (dI r74))],[]⟩ [] [] [],.a [53,63] [],.a [53,64] [],.a [53,65] []] [0,1,4,12,13,66] [5000] (tN 6 (ai hc70 (ai hc71 (tN 2 (ai hc72 (ai hc73 (z00 3))))))) (.a (.a (.a (.m ?_ (.a (.a (.a (.a (.a (.a (.a (.a (.a (.m ?_ (.a (.a (.a .z))))))))))))))))) ?_
       · exact DOk.stepP (fun b => .val (.c (.d (.bool b))) (True)) (p:=(decide (a10.1≤a11))) hp69 (fun r=>by kernel_rfl) (fun r=>by kernel_rfl) trivial (by kernel_rfl) (by kernel_rfl) (fun r=>rfl)
       · exact DOk.cA [] [.agg (cTime (((l0.set (0 + p1.toNat) (l0.getD (0 + p3.toNat) default)).set (0 + p3.toNat) (l0.getD (0 + p1.toNat) default)).getD (0 + a11.toNat) default)),.agg (cTime (((l0.set (0 + p1.toNat) (l0.getD (0 + p3.toNat) default)).set (0 + p3.toNat) (l0.getD (0 + p1.toNat) default)).getD (0 + p1.toNat) default))] (z1n hr74) fun r=>(.cons (.refl _) (.cons (.refl _) .nil))
       exact ⟨_,h,kr⟩
      ·refine Tri.dC [.a [12] [],.a [13] [],.a [50,51] [],.m ⟨[(52,cD (.bool (decide (a10.1≤a11))))],[]⟩ ⟨[(53,.c (.d (.bool false)))],[]⟩ [] [] [],.a [4,53] [],.a [0,53] [],.a [13,53] [],.a [53,55,56] [],.a [53,57] [],.a [0,53] [],.a [1,53] [],.a [53,59,60] [],.a [53,61] [],.a [53,54,58,62] [],.a [53,63] [],.a [53,64] [],.a [53,65] []] [0,1,4,12,13,66] [5000] (z00 4) (.a (.a (.a (.m ?_ (.a (.a (.a (.a (.a (.a (.a (.a (.a (.a (.a (.a (.a .z))))))))))))))))) ?_
       · exact DOk.stepP (fun b => .val (.c (.d (.bool b))) (True)) (p:=(decide (a10.1≤a11))) hp69 (fun r=>by kernel_rfl) (fun r=>by kernel_rfl) trivial (by kernel_rfl) (by kernel_rfl) (fun r=>rfl)
       exact ⟨_,h,kr⟩
    ·intro a12 h
     refine Tri.seqS ?_
     refine Tri.segL [0,1,4,12,13,71] [5000] ⟨[(0,.c (oC 5000 3 ((l0.set (0 + p1.toNat) (l0.getD (0 + p3.toNat) default)).set (0 + p3.toNat) (l0.getD (0 + p1.toNat) default)))),(1,cD (dI p1)),(4,cD (.fn 74 [])),(12,cD (dI a10.1)),(13,cD (dI a12)),(71,cD (.bool (decide (a12 < a10.1))))],[(5000,vL 3 z02 ((l0.set (0 + p1.toNat) (l0.getD (0 + p3.toNat) default)).set (0 + p3.toNat) (l0.getD (0 + p1.toNat) default)))]⟩ _ (by kernel_rfl) (z00 3) ?_
     refine Tri.condK h (fun h => ?_) (fun h => ?_)
     ·refine Tri.seqS ?_
      obtain ⟨hc13,h⟩:=z03 h
      obtain ⟨hc14,h⟩:=z03 h
      obtain ⟨hc15,h⟩:=z03 h
      obtain ⟨hc16,h⟩:=z03 h
      obtain ⟨hc17,h⟩:=z03 h
      obtain ⟨hc18,h⟩:=z03 h
      obtain ⟨hc19,h⟩:=z03 h
      obtain ⟨hc20,h⟩:=z03 h
      refine Tri.dC [.a [0] [],.a [13] [],.a [0] [],.a [1] [],.a [0] [],.a [1] [],.a [76,77] [5000],.a [78] [5000],.a [0] [],.a [13] [],.a [80,81] [5000],.a [82] [5000],.a [72,73] [5000],.m ⟨[(79,.agg (cTime (((l0.set (0 + p1.toNat) (l0.getD (0 + p3.toNat) default)).set (0 + p3.toNat) (l0.getD (0 + p1.toNat) default)).getD (0 + p1.toNat) default))),(84,.c (.vptr 5000 3 (0 + a12.toNat) 0))],[(5000,vL 3 z02 ((l0.set (0 + p1.toNat) (l0.getD (0 + p3.toNat) default)).set (0 + p3.toNat) (l0.getD (0 + p1.toNat) default)))]⟩ ⟨[],[(5000,vL 3 z02 (((l0.set (0 + p1.toNat) (l0.getD (0 + p3.toNat) default)).set (0 + p3.toNat) (l0.getD (0 + p1.toNat) default)).set (0 + a12.toNat) (((l0.set (0 + p1.toNat) (l0.getD (0 + p3.toNat) default)).set (0 + p3.toNat) (l0.getD (0 + p1.toNat) default)).getD (0 + p1.toNat) default)))]⟩ [] [] [],.a [74,75] [5000],.m ⟨[(83,.agg (cTime (((l0.set (0 + p1.toNat) (l0.getD (0 + p3.toNat) default)).set (0 + p3.toNat) (l0.getD (0 + p1.toNat) default)).getD (0 + a12.toNat) default))),(85,.c (.vptr 5000 3 (0 + p1.toNat) 0))],[(5000,vL 3 z02 (((l0.set (0 + p1.toNat) (l0.getD (0 + p3.toNat) default)).set (0 + p3.toNat) (l0.getD (0 + p1.toNat) default)).set (0 + a12.toNat) (((l0.set (0 + p1.toNat) (l0.getD (0 + p3.toNat) default)).set (0 + p3.toNat) (l0.getD (0 + p1.toNat) default)).getD (0 + p1.toNat) default)))]⟩ ⟨[],[(5000,vL 3 z02 ((((l0.set (0 + p1.toNat) (l0.getD (0 + p3.toNat) default)).set (0 + p3.toNat) (l0.getD (0 + p1.toNat) default)).set (0 + a12.toNat) (((l0.set (0 + p1.toNat) (l0.getD (0 + p3.toNat) default)).set (0 + p3.toNat) (l0.getD (0 + p1.toNat) default)).getD (0 + p1.toNat) default)).set (0 + p1.toNat) (((l0.set (0 + p1.toNat) (l0.getD (0 + p3.toNat) default)).set (0 + p3.toNat) (l0.getD (0 + p1.toNat) default)).getD (0 + a12.toNat) default)))]⟩ [] [] []] [13] [5000] (tN 6 (ai hc13 (ai hc14 (tN 2 (ai hc15 (ai hc16 (ai hc17 (ai hc19 trivial)))))))) (.a (.a (.a (.a (.a (.a (.a (.a (.a (.a (.a (.a (.a (.m ?_ (.a (.m ?_ .z)))))))))))))))) ?_
      · exact DOk.one fun r hr=>One.storeT (xs:=[.d (dU ((((l0.set (0 + p1.toNat) (l0.getD (0 + p3.toNat) default)).set (0 + p3.toNat) (l0.getD (0 + p1.toNat) default)).getD (0 + p1.toNat) default).epoch)),.d (dU ((((l0.set (0 + p1.toNat) (l0.getD (0 + p3.toNat) default)).set (0 + p3.toNat) (l0.getD (0 + p1.toNat) default)).getD (0 + p1.toNat) default).loop.1)),.d (dU ((((l0.set (0 + p1.toNat) (l0.getD (0 + p3.toNat) default)).set (0 + p3.toNat) (l0.getD (0 + p1.toNat) default)).getD (0 + p1.toNat) default).loop.2))]) (ds:=[dU ((((l0.set (0 + p1.toNat) (l0.getD (0 + p3.toNat) default)).set (0 + p3.toNat) (l0.getD (0 + p1.toNat) default)).getD (0 + p1.toNat) default).epoch),dU ((((l0.set (0 + p1.toNat) (l0.getD (0 + p3.toNat) default)).set (0 + p3.toNat) (l0.getD (0 + p1.toNat) default)).getD (0 + p1.toNat) default).loop.1),dU ((((l0.set (0 + p1.toNat) (l0.getD (0 + p3.toNat) default)).set (0 + p3.toNat) (l0.getD (0 + p1.toNat) default)).getD (0 + p1.toNat) default).loop.2)]) (z02) ((l0.set (0 + p1.toNat) (l0.getD (0 + p3.toNat) default)).set (0 + p3.toNat) (l0.getD (0 + p1.toNat) default)) (((l0.set (0 + p1.toNat) (l0.getD (0 + p3.toNat) default)).set (0 + p3.toNat) (l0.getD (0 + p1.toNat) default)).getD (0 + p1.toNat) default) rfl (by kernel_rfl) rfl rfl rfl hc18 rfl rfl (.refl _) rfl rfl rfl rfl
      · exact DOk.one fun r hr=>One.storeT (xs:=[.d (dU ((((l0.set (0 + p1.toNat) (l0.getD (0 + p3.toNat) default)).set (0 + p3.toNat) (l0.getD (0 + p1.toNat) default)).getD (0 + a12.toNat) default).epoch)),.d (dU ((((l0.set (0 + p1.toNat) (l0.getD (0 + p3.toNat) default)).set (0 + p3.toNat) (l0.getD (0 + p1.toNat) default)).getD (0 + a12.toNat) default).loop.1)),.d (dU ((((l0.set (0 + p1.toNat) (l0.getD (0 + p3.toNat) default)).set (0 + p3.toNat) (l0.getD (0 + p1.toNat) default)).getD (0 + a12.toNat) default).loop.2))]) (ds:=[dU ((((l0.set (0 + p1.toNat) (l0.getD (0 + p3.toNat) default)).set (0 + p3.toNat) (l0.getD (0 + p1.toNat) default)).getD (0 + a12.toNat) default).epoch),dU ((((l0.set (0 + p1.toNat) (l0.getD (0 + p3.toNat) default)).set (0 + p3.toNat) (l0.getD (0 + p1.toNat) default)).getD (0 + a12.toNat) default).loop.1),dU ((((l0.set (0 + p1.toNat) (l0.getD (0 + p3.toNat) default)).set (0 + p3.toNat) (l0.getD (0 + p1.toNat) default)).getD (0 + a12.toNat) default).loop.2)]) (z02) (((l0.set (0 + p1.toNat) (l0.getD (0 + p3.toNat) default)).set (0 + p3.toNat) (l0.getD (0 + p1.toNat) default)).set (0 + a12.toNat) (((l0.set (0 + p1.toNat) (l0.getD (0 + p3.toNat) default)).set (0 + p3.toNat) (l0.getD (0 + p1.toNat) default)).getD (0 + p1.toNat) default)) (((l0.set (0 + p1.toNat) (l0.getD (0 + p3.toNat) default)).set (0 + p3.toNat) (l0.getD (0 + p1.toNat) default)).getD (0 + a12.toNat) default) rfl (by kernel_rfl) rfl rfl rfl hc20 rfl rfl (.refl _) rfl rfl rfl rfl
      refine Tri.sg [10,11] [5000] (z00 3) ?_
      refine Tri.ret ?_
      cases h
      exact RetAt.k
     ·refine Tri.skip ?_
      refine Tri.seqS ?_
      obtain ⟨hc21,h⟩:=z03 h
      obtain ⟨hc22,h⟩:=z03 h
      obtain ⟨hc23,h⟩:=z03 h
      obtain ⟨hc24,h⟩:=z03 h
      obtain ⟨hc25,h⟩:=z03 h
      obtain ⟨hc26,h⟩:=z03 h
      obtain ⟨hc27,h⟩:=z03 h
      obtain ⟨hc28,h⟩:=z03 h
      refine Tri.afterA ⟨[(0,.c (oC 5000 3 ((l0.set (0 + p1.toNat) (l0.getD (0 + p3.toNat) default)).set (0 + p3.toNat) (l0.getD (0 + p1.toNat) default)))),(1,cD (dI p1)),(4,cD (.fn 74 [])),(12,cD (dI a10.1)),(13,cD (dI a12))],[(5000,vL 3 z02 ((((l0.set (0 + p1.toNat) (l0.getD (0 + p3.toNat) default)).set (0 + p3.toNat) (l0.getD (0 + p1.toNat) default)).set (0 + a10.1.toNat) (((l0.set (0 + p1.toNat) (l0.getD (0 + p3.toNat) default)).set (0 + p3.toNat) (l0.getD (0 + p1.toNat) default)).getD (0 + a12.toNat) default)).set (0 + a12.toNat) (((l0.set (0 + p1.toNat) (l0.getD (0 + p3.toNat) default)).set (0 + p3.toNat) (l0.getD (0 + p1.toNat) default)).getD (0 + a10.1.toNat) default)))]⟩ ?_ ?_
      ·refine Tri.dS ⟨[(0,.c (oC 5000 3 ((l0.set (0 + p1.toNat) (l0.getD (0 + p3.toNat) default)).set (0 + p3.toNat) (l0.getD (0 + p1.toNat) default)))),(1,cD (dI p1)),(4,cD (.fn 74 [])),(12,cD (dI a10.1)),(13,cD (dI a12))],[(5000,vL 3 z02 ((((l0.set (0 + p1.toNat) (l0.getD (0 + p3.toNat) default)).set (0 + p3.toNat) (l0.getD (0 + p1.toNat) default)).set (0 + a10.1.toNat) (((l0.set (0 + p1.toNat) (l0.getD (0 + p3.toNat) default)).set (0 + p3.toNat) (l0.getD (0 + p1.toNat) default)).getD (0 + a12.toNat) default)).set (0 + a12.toNat) (((l0.set (0 + p1.toNat) (l0.getD (0 + p3.toNat) default)).set (0 + p3.toNat) (l0.getD (0 + p1.toNat) default)).getD (0 + a10.1.toNat) default)))]⟩ [.a [0] [],.a [12] [],.a [0] [],.a [13] [],.a [0] [],.a [13] [],.a [91,92] [5000],.a [93] [5000],.a [0] [],.a [12] [],.a [95,96] [5000],.a [97] [5000],.a [87,88] [5000],.m ⟨[(94,.agg (cTime (((l0.set (0 + p1.toNat) (l0.getD (0 + p3.toNat) default)).set (0 + p3.toNat) (l0.getD (0 + p1.toNat) default)).getD (0 + a12.toNat) default))),(99,.c (.vptr 5000 3 (0 + a10.1.toNat) 0))],[(5000,vL 3 z02 ((l0.set (0 + p1.toNat) (l0.getD (0 + p3.toNat) default)).set (0 + p3.toNat) (l0.getD (0 + p1.toNat) default)))]⟩ ⟨[],[(5000,vL 3 z02 (((l0.set (0 + p1.toNat) (l0.getD (0 + p3.toNat) default)).set (0 + p3.toNat) (l0.getD (0 + p1.toNat) default)).set (0 + a10.1.toNat) (((l0.set (0 + p1.toNat) (l0.getD (0 + p3.toNat) default)).set (0 + p3.toNat) (l0.getD (0 + p1.toNat) default)).getD (0 + a12.toNat) default)))]⟩ [] [] [],.a [89,90] [5000],.m ⟨[(98,.agg (cTime (((l0.set (0 + p1.toNat) (l0.getD (0 + p3.toNat) default)).set (0 + p3.toNat) (l0.getD (0 + p1.toNat) default)).getD (0 + a10.1.toNat) default))),(100,.c (.vptr 5000 3 (0 + a12.toNat) 0))],[(5000,vL 3 z02 (((l0.set (0 + p1.toNat) (l0.getD (0 + p3.toNat) default)).set (0 + p3.toNat) (l0.getD (0 + p1.toNat) default)).set (0 + a10.1.toNat) (((l0.set (0 + p1.toNat) (l0.getD (0 + p3.toNat) default)).set (0 + p3.toNat) (l0.getD (0 + p1.toNat) default)).getD (0 + a12.toNat) default)))]⟩ ⟨[],[(5000,vL 3 z02 ((((l0.set (0 + p1.toNat) (l0.getD (0 + p3.toNat) default)).set (0 + p3.toNat) (l0.getD (0 + p1.toNat) default)).set (0 + a10.1.toNat) (((l0.set (0 + p1.toNat) (l0.getD (0 + p3.toNat) default)).set (0 + p3.toNat) (l0.getD (0 + p1.toNat) default)).getD (0 + a12.toNat) default)).set (0 + a12.toNat) (((l0.set (0 + p1.toNat) (l0.getD (0 + p3.toNat) default)).set (0 + p3.toNat) (l0.getD (0 + p1.toNat) default)).getD (0 + a10.1.toNat) default)))]⟩ [] [] []] [0,1,4,12,13] [5000] (tN 6 (ai hc21 (ai hc22 (tN 2 (ai hc23 (ai hc24 (ai hc25 (ai hc27 trivial)))))))) (.a (.a (.a (.a (.a (.a (.a (.a (.a (.a (.a (.a (.a (.m ?_ (.a (.m ?_ .z)))))))))))))))) ?_
       · exact DOk.one fun r hr=>One.storeT (xs:=[.d (dU ((((l0.set (0 + p1.toNat) (l0.getD (0 + p3.toNat) default)).set (0 + p3.toNat) (l0.getD (0 + p1.toNat) default)).getD (0 + a12.toNat) default).epoch)),.d (dU ((((l0.set (0 + p1.toNat) (l0.getD (0 + p3.toNat) default)).set (0 + p3.toNat) (l0.getD (0 + p1.toNat) default)).getD (0 + a12.toNat) default).loop.1)),.d (dU ((((l0.set (0 + p1.toNat) (l0.getD (0 + p3.toNat) default)).set (0 + p3.toNat) (l0.getD (0 + p1.toNat) default)).getD (0 + a12.toNat) default).loop.2))]) (ds:=[dU ((((l0.set (0 + p1.toNat) (l0.getD (0 + p3.toNat) default)).set (0 + p3.toNat) (l0.getD (0 + p1.toNat) default)).getD (0 + a12.toNat) default).epoch),dU ((((l0.set (0 + p1.toNat) (l0.getD (0 + p3.toNat) default)).set (0 + p3.toNat) (l0.getD (0 + p1.toNat) default)).getD (0 + a12.toNat) default).loop.1),dU ((((l0.set (0 + p1.toNat) (l0.getD (0 + p3.toNat) default)).set (0 + p3.toNat) (l0.getD (0 + p1.toNat) default)).getD (0 + a12.toNat) default).loop.2)]) (z02) ((l0.set (0 + p1.toNat) (l0.getD (0 + p3.toNat) default)).set (0 + p3.toNat) (l0.getD (0 + p1.toNat) default)) (((l0.set (0 + p1.toNat) (l0.getD (0 + p3.toNat) default)).set (0 + p3.toNat) (l0.getD (0 + p1.toNat) default)).getD (0 + a12.toNat) default) rfl (by kernel_rfl) rfl rfl rfl hc26 rfl rfl (.refl _) rfl rfl rfl rfl
       · exact DOk.one fun r hr=>One.storeT (xs:=[.d (dU ((((l0.set (0 + p1.toNat) (l0.getD (0 + p3.toNat) default)).set (0 + p3.toNat) (l0.getD (0 + p1.toNat) default)).getD (0 + a10.1.toNat) default).epoch)),.d (dU ((((l0.set (0 + p1.toNat) (l0.getD (0 + p3.toNat) default)).set (0 + p3.toNat) (l0.getD (0 + p1.toNat) default)).getD (0 + a10.1.toNat) default).loop.1)),.d (dU ((((l0.set (0 + p1.toNat) (l0.getD (0 + p3.toNat) default)).set (0 + p3.toNat) (l0.getD (0 + p1.toNat) default)).getD (0 + a10.1.toNat) default).loop.2))]) (ds:=[dU ((((l0.set (0 + p1.toNat) (l0.getD (0 + p3.toNat) default)).set (0 + p3.toNat) (l0.getD (0 + p1.toNat) default)).getD (0 + a10.1.toNat) default).epoch),dU ((((l0.set (0 + p1.toNat) (l0.getD (0 + p3.toNat) default)).set (0 + p3.toNat) (l0.getD (0 + p1.toNat) default)).getD (0 + a10.1.toNat) default).loop.1),dU ((((l0.set (0 + p1.toNat) (l0.getD (0 + p3.toNat) default)).set (0 + p3.toNat) (l0.getD (0 + p1.toNat) default)).getD (0 + a10.1.toNat) default).loop.2)]) (z02) (((l0.set (0 + p1.toNat) (l0.getD (0 + p3.toNat) default)).set (0 + p3.toNat) (l0.getD (0 + p1.toNat) default)).set (0 + a10.1.toNat) (((l0.set (0 + p1.toNat) (l0.getD (0 + p3.toNat) default)).set (0 + p3.toNat) (l0.getD (0 + p1.toNat) default)).getD (0 + a12.toNat) default)) (((l0.set (0 + p1.toNat) (l0.getD (0 + p3.toNat) default)).set (0 + p3.toNat) (l0.getD (0 + p1.toNat) default)).getD (0 + a10.1.toNat) default) rfl (by kernel_rfl) rfl rfl rfl hc28 rfl rfl (.refl _) rfl rfl rfl rfl
       exact ⟨rfl,rfl⟩
      ·refine At.eqS (s':=⟨[(0,.c (oC 5000 3 ((((l0.set (0 + p1.toNat) (l0.getD (0 + p3.toNat) default)).set (0 + p3.toNat) (l0.getD (0 + p1.toNat) default)).set (0 + a10.1.toNat) (((l0.set (0 + p1.toNat) (l0.getD (0 + p3.toNat) default)).set (0 + p3.toNat) (l0.getD (0 + p1.toNat) default)).getD (0 + a12.toNat) default)).set (0 + a12.toNat) (((l0.set (0 + p1.toNat) (l0.getD (0 + p3.toNat) default)).set (0 + p3.toNat) (l0.getD (0 + p1.toNat) default)).getD (0 + a10.1.toNat) default)))),(1,cD (dI p1)),(4,cD (.fn 74 [])),(12,cD (dI a10.1)),(13,cD (dI a12))],[(5000,vL 3 z02 ((((l0.set (0 + p1.toNat) (l0.getD (0 + p3.toNat) default)).set (0 + p3.toNat) (l0.getD (0 + p1.toNat) default)).set (0 + a10.1.toNat) (((l0.set (0 + p1.toNat) (l0.getD (0 + p3.toNat) default)).set (0 + p3.toNat) (l0.getD (0 + p1.toNat) default)).getD (0 + a12.toNat) default)).set (0 + a12.toNat) (((l0.set (0 + p1.toNat) (l0.getD (0 + p3.toNat) default)).set (0 + p3.toNat) (l0.getD (0 + p1.toNat) default)).getD (0 + a10.1.toNat) default)))]⟩) (by simp only [oC,vL,List.length_set]) ?_
       refine At.done rfl ?_
       refine Tri.sg [0,1,4,12,13] [5000] (z00 3) ?_
       refine Tri.sg [0,1,4,12,13] [5000] (z00 3) ?_
       refine Tri.seqS ?_
       refine Tri.lK ((IntKind.i64.wrap (a10.1 + 1)),(IntKind.i64.wrap (a12 - 1)),((((l0.set (0 + p1.toNat) (l0.getD (0 + p3.toNat) default)).set (0 + p3.toNat) (l0.getD (0 + p1.toNat) default)).set (0 + a10.1.toNat) (((l0.set (0 + p1.toNat) (l0.getD (0 + p3.toNat) default)).set (0 + p3.toNat) (l0.getD (0 + p1.toNat) default)).getD (0 + a12.toNat) default)).set (0 + a12.toNat) (((l0.set (0 + p1.toNat) (l0.getD (0 + p3.toNat) default)).set (0 + p3.toNat) (l0.getD (0 + p1.toNat) default)).getD (0 + a10.1.toNat) default))) (fun (x:Empty) s=>False) (fun (a29:Int × Int × (List Time))=>⟨[(0,.c (oC 5000 3 a29.2.2)),(1,cD (dI p1)),(4,cD (.fn 74 [])),(12,cD (dI a29.1)),(13,cD (dI a29.2.1))],[(5000,vL 3 z02 a29.2.2)]⟩) [0,1,4,12,13] [5000] h ?_ ?_ ?_
       ·intro a29 c h
        refine Tri.blockB ?_
        refine Tri.seqS ?_
        refine Tri.lK (a29.1) (fun (x:Empty) s=>False) (fun (a39:Int)=>⟨[(0,.c (oC 5000 3 a29.2.2)),(1,cD (dI p1)),(4,cD (.fn 74 [])),(12,cD (dI a39)),(13,cD (dI a29.2.1))],[(5000,vL 3 z02 a29.2.2)]⟩) [0,1,4,12,13] [5000] h ?_ ?_ ?_
        ·intro a39 c h
         refine Tri.eqS ⟨[(0,.c (oC 5000 3 a29.2.2)),(1,cD (dI p1)),(4,cD (.fn 74 [])),(12,cD (dI a39)),(13,cD (dI a29.2.1))],[(5000,vL 3 z02 a29.2.2)]⟩ kr ?_
         refine Tri.seqS ?_
         refine Tri.seqJ (fun (a59:Bool)=>⟨[(0,.c (oC 5000 3 a29.2.2)),(1,cD (dI p1)),(4,cD (.fn 74 [])),(12,cD (dI a39)),(13,cD (dI a29.2.1)),(120,cD (.bool a59))],[(5000,vL 3 z02 a29.2.2)]⟩) h (fun a59 h => ?_) (fun j60 h => ?_)
         ·refine Tri.condK h (fun h => ?_) (fun h => ?_)
          ·refine Tri.skip ?_
           refine Tri.blockB ?_
           refine Tri.reg ?_
           refine At.sg 3 [0,1,4,12,13] [5000] (z00 3) ?_
           refine At.done rfl ?_
           cases h
           exact kr
          ·refine Tri.kp [0,1,4,12,13] [5000] ?_
           refine Tri.exit ?_
           cases h
           exact ⟨rfl,kr⟩
         ·rcases z1f h with ⟨hp61,h⟩ | ⟨hp61,h⟩
          ·obtain ⟨hc62,h⟩:=z03 h
           obtain ⟨hc63,h⟩:=z03 h
           obtain ⟨hc64,h⟩:=z03 h
           obtain ⟨hc65,h⟩:=z03 h
           obtain ⟨r66,hr66,h⟩:=z04 h
           refine Tri.dC [.a [12] [],.a [13] [],.a [105,106] [],.m ⟨[(107,cD (.bool (decide (a39≤a29.2.1))))],[]⟩ ⟨[(108,.c (.d (.bool true)))],[]⟩ [] [] [],.a [4,108] [],.a [0,108] [],.a [12,108] [],.a [108,110,111] [5000],.a [108,112] [5000],.a [0,108] [],.a [1,108] [],.a [108,114,115] [5000],.a [108,116] [5000],.m ⟨[(108,cD (.bool true)),(109,cD (.fn 74 [])),(113,.agg (cTime (a29.2.2.getD (0 + a39.toNat) default))),(117,.agg (cTime (a29.2.2.getD (0 + p1.toNat) default)))],[]⟩ ⟨[(118,cD (dI r66))],[]⟩ [] [] [],.a [108,118] [],.a [108,119] []] [0,1,4,12,13,120] [5000] (tN 6 (ai hc62 (ai hc63 (tN 2 (ai hc64 (ai hc65 (z00 2))))))) (.a (.a (.a (.m ?_ (.a (.a (.a (.a (.a (.a (.a (.a (.a (.m ?_ (.a (.a .z)))))))))))))))) ?_
           · exact DOk.stepP (fun b => .val (.c (.d (.bool b))) (True)) (p:=(decide (a39≤a29.2.1))) hp61 (fun r=>by kernel_rfl) (fun r=>by kernel_rfl) trivial (by kernel_rfl) (by kernel_rfl) (fun r=>rfl)
           · exact DOk.cA [] [.agg (cTime (a29.2.2.getD (0 + a39.toNat) default)),.agg (cTime (a29.2.2.getD (0 + p1.toNat) default))] (z1n hr66) fun r=>(.cons (.refl _) (.cons (.refl _) .nil))
           exact ⟨_,h,kr⟩
          ·refine Tri.dC [.a [12] [],.a [13] [],.a [105,106] [],.m ⟨[(107,cD (.bool (decide (a39≤a29.2.1))))],[]⟩ ⟨[(108,.c (.d (.bool false)))],[]⟩ [] [] [],.a [4,108] [],.a [0,108] [],.a [12,108] [],.a [108,110,111] [],.a [108,112] [],.a [0,108] [],.a [1,108] [],.a [108,114,115] [],.a [108,116] [],.a [108,109,113,117] [],.a [108,118] [],.a [108,119] []] [0,1,4,12,13,120] [5000] (z00 4) (.a (.a (.a (.m ?_ (.a (.a (.a (.a (.a (.a (.a (.a (.a (.a (.a (.a .z)))))))))))))))) ?_
           · exact DOk.stepP (fun b => .val (.c (.d (.bool b))) (True)) (p:=(decide (a39≤a29.2.1))) hp61 (fun r=>by kernel_rfl) (fun r=>by kernel_rfl) trivial (by kernel_rfl) (by kernel_rfl) (fun r=>rfl)
           exact ⟨_,h,kr⟩
        ·intro a40 h
         refine Tri.seqS ?_
         refine Tri.lK (a29.2.1) (fun (x:Empty) s=>False) (fun (a41:Int)=>⟨[(0,.c (oC 5000 3 a29.2.2)),(1,cD (dI p1)),(4,cD (.fn 74 [])),(12,cD (dI a40)),(13,cD (dI a41))],[(5000,vL 3 z02 a29.2.2)]⟩) [0,1,4,12,13] [5000] h ?_ ?_ ?_
         ·intro a41 c h
          refine Tri.eqS ⟨[(0,.c (oC 5000 3 a29.2.2)),(1,cD (dI p1)),(4,cD (.fn 74 [])),(12,cD (dI a40)),(13,cD (dI a41))],[(5000,vL 3 z02 a29.2.2)]⟩ kr ?_
          refine Tri.seqS ?_
          refine Tri.seqJ (fun (a51:Bool)=>⟨[(0,.c (oC 5000 3 a29.2.2)),(1,cD (dI p1)),(4,cD (.fn 74 [])),(12,cD (dI a40)),(13,cD (dI a41)),(139,cD (.bool a51))],[(5000,vL 3 z02 a29.2.2)]⟩) h (fun a51 h => ?_) (fun j52 h => ?_)
          ·refine Tri.condK h (fun h => ?_) (fun h => ?_)
           ·refine Tri.skip ?_
            refine Tri.blockB ?_
            refine Tri.reg ?_
            refine At.sg 3 [0,1,4,12,13] [5000] (z00 3) ?_
            refine At.done rfl ?_
            cases h
            exact kr
           ·refine Tri.kp [0,1,4,12,13] [5000] ?_
            refine Tri.exit ?_
            cases h
            exact ⟨rfl,kr⟩
          ·rcases z1f h with ⟨hp53,h⟩ | ⟨hp53,h⟩
           ·obtain ⟨hc54,h⟩:=z03 h
            obtain ⟨hc55,h⟩:=z03 h
            obtain ⟨hc56,h⟩:=z03 h
            obtain ⟨hc57,h⟩:=z03 h
            obtain ⟨r58,hr58,h⟩:=z04 h
            refine Tri.dC [.a [12] [],.a [13] [],.a [123,124] [],.m ⟨[(125,cD (.bool (decide (a40≤a41))))],[]⟩ ⟨[(126,.c (.d (.bool true)))],[]⟩ [] [] [],.a [4,126] [],.a [0,126] [],.a [13,126] [],.a [126,128,129] [5000],.a [126,130] [5000],.a [0,126] [],.a [1,126] [],.a [126,132,133] [5000],.a [126,134] [5000],.m ⟨[(126,cD (.bool true)),(127,cD (.fn 74 [])),(131,.agg (cTime (a29.2.2.getD (0 + a41.toNat) default))),(135,.agg (cTime (a29.2.2.getD (0 + p1.toNat) default)))],[]⟩ ⟨[(136,cD (dI r58))],[]⟩ [] [] [],.a [126,136] [],.a [126,137] [],.a [126,138] []] [0,1,4,12,13,139] [5000] (tN 6 (ai hc54 (ai hc55 (tN 2 (ai hc56 (ai hc57 (z00 3))))))) (.a (.a (.a (.m ?_ (.a (.a (.a (.a (.a (.a (.a (.a (.a (.m ?_ (.a (.a (.a .z))))))))))))))))) ?_
            · exact DOk.stepP (fun b => .val (.c (.d (.bool b))) (True)) (p:=(decide (a40≤a41))) hp53 (fun r=>by kernel_rfl) (fun r=>by kernel_rfl) trivial (by kernel_rfl) (by kernel_rfl) (fun r=>rfl)
            · exact DOk.cA [] [.agg (cTime (a29.2.2.getD (0 + a41.toNat) default)),.agg (cTime (a29.2.2.getD (0 + p1.toNat) default))] (z1n hr58) fun r=>(.cons (.refl _) (.cons (.refl _) .nil))
            exact ⟨_,h,kr⟩
           ·refine Tri.dC [.a [12] [],.a [13] [],.a [123,124] [],.m ⟨[(125,cD (.bool (decide (a40≤a41))))],[]⟩ ⟨[(126,.c (.d (.bool false)))],[]⟩ [] [] [],.a [4,126] [],.a [0,126] [],.a [13,126] [],.a [126,128,129] [],.a [126,130] [],.a [0,126] [],.a [1,126] [],.a [126,132,133] [],.a [126,134] [],.a [126,127,131,135] [],.a [126,136] [],.a [126,137] [],.a [126,138] []] [0,1,4,12,13,139] [5000] (z00 4) (.a (.a (.a (.m ?_ (.a (.a (.a (.a (.a (.a (.a (.a (.a (.a (.a (.a (.a .z))))))))))))))))) ?_
            · exact DOk.stepP (fun b => .val (.c (.d (.bool b))) (True)) (p:=(decide (a40≤a41))) hp53 (fun r=>by kernel_rfl) (fun r=>by kernel_rfl) trivial (by kernel_rfl) (by kernel_rfl) (fun r=>rfl)
            exact ⟨_,h,kr⟩
         ·intro a42 h
          refine Tri.seqS ?_
          refine Tri.segL [0,1,4,12,13,144] [5000] ⟨[(0,.c (oC 5000 3 a29.2.2)),(1,cD (dI p1)),(4,cD (.fn 74 [])),(12,cD (dI a40)),(13,cD (dI a42)),(144,cD (.bool (decide (a42 < a40))))],[(5000,vL 3 z02 a29.2.2)]⟩ _ (by kernel_rfl) (z00 3) ?_
          refine Tri.condK h (fun h => ?_) (fun h => ?_)
          ·refine Tri.kp [0,1,4,12,13] [5000] ?_
           refine Tri.exit ?_
           cases h
           exact ⟨rfl,kr⟩
          ·refine Tri.skip ?_
           refine Tri.seqS ?_
           obtain ⟨hc43,h⟩:=z03 h
           obtain ⟨hc44,h⟩:=z03 h
           obtain ⟨hc45,h⟩:=z03 h
           obtain ⟨hc46,h⟩:=z03 h
           obtain ⟨hc47,h⟩:=z03 h
           obtain ⟨hc48,h⟩:=z03 h
           obtain ⟨hc49,h⟩:=z03 h
           obtain ⟨hc50,h⟩:=z03 h
           refine Tri.afterA ⟨[(0,.c (oC 5000 3 a29.2.2)),(1,cD (dI p1)),(4,cD (.fn 74 [])),(12,cD (dI a40)),(13,cD (dI a42))],[(5000,vL 3 z02 ((a29.2.2.set (0 + a40.toNat) (a29.2.2.getD (0 + a42.toNat) default)).set (0 + a42.toNat) (a29.2.2.getD (0 + a40.toNat) default)))]⟩ ?_ ?_
           ·refine Tri.dS ⟨[(0,.c (oC 5000 3 a29.2.2)),(1,cD (dI p1)),(4,cD (.fn 74 [])),(12,cD (dI a40)),(13,cD (dI a42))],[(5000,vL 3 z02 ((a29.2.2.set (0 + a40.toNat) (a29.2.2.getD (0 + a42.toNat) default)).set (0 + a42.toNat) (a29.2.2.getD (0 + a40.toNat) default)))]⟩ [.a [0] [],.a [12] [],.a [0] [],.a [13] [],.a [0] [],.a [13] [],.a [149,150] [5000],.a [151] [5000],.a [0] [],.a [12] [],.a [153,154] [5000],.a [155] [5000],.a [145,146] [5000],.m ⟨[(152,.agg (cTime (a29.2.2.getD (0 + a42.toNat) default))),(157,.c (.vptr 5000 3 (0 + a40.toNat) 0))],[(5000,vL 3 z02 a29.2.2)]⟩ ⟨[],[(5000,vL 3 z02 (a29.2.2.set (0 + a40.toNat) (a29.2.2.getD (0 + a42.toNat) default)))]⟩ [] [] [],.a [147,148] [5000],.m ⟨[(156,.agg (cTime (a29.2.2.getD (0 + a40.toNat) default))),(158,.c (.vptr 5000 3 (0 + a42.toNat) 0))],[(5000,vL 3 z02 (a29.2.2.set (0 + a40.toNat) (a29.2.2.getD (0 + a42.toNat) default)))]⟩ ⟨[],[(5000,vL 3 z02 ((a29.2.2.set (0 + a40.toNat) (a29.2.2.getD (0 + a42.toNat) default)).set (0 + a42.toNat) (a29.2.2.getD (0 + a40.toNat) default)))]⟩ [] [] []] [0,1,4,12,13] [5000] (tN 6 (ai hc43 (ai hc44 (tN 2 (ai hc45 (ai hc46 (ai hc47 (ai hc49 trivial)))))))) (.a (.a (.a (.a (.a (.a (.a (.a (.a (.a (.a (.a (.a (.m ?_ (.a (.m ?_ .z)))))))))))))))) ?_
            · exact DOk.one fun r hr=>One.storeT (xs:=[.d (dU ((a29.2.2.getD (0 + a42.toNat) default).epoch)),.d (dU ((a29.2.2.getD (0 + a42.toNat) default).loop.1)),.d (dU ((a29.2.2.getD (0 + a42.toNat) default).loop.2))]) (ds:=[dU ((a29.2.2.getD (0 + a42.toNat) default).epoch),dU ((a29.2.2.getD (0 + a42.toNat) default).loop.1),dU ((a29.2.2.getD (0 + a42.toNat) default).loop.2)]) (z02) a29.2.2 (a29.2.2.getD (0 + a42.toNat) default) rfl (by kernel_rfl) rfl rfl rfl hc48 rfl rfl (.refl _) rfl rfl rfl rfl
            · exact DOk.one fun r hr=>One.storeT (xs:=[.d (dU ((a29.2.2.getD (0 + a40.toNat) default).epoch)),.d (dU ((a29.2.2.getD (0 + a40.toNat) default).loop.1)),.d (dU ((a29.2.2.getD (0 + a40.toNat) default).loop.2))]) (ds:=[dU ((a29.2.2.getD (0 + a40.toNat) default).epoch),dU ((a29.2.2.getD (0 + a40.toNat) default).loop.1),dU ((a29.2.2.getD (0 + a40.toNat) default).loop.2)]) (z02) (a29.2.2.set (0 + a40.toNat) (a29.2.2.getD (0 + a42.toNat) default)) (a29.2.2.getD (0 + a40.toNat) default) rfl (by kernel_rfl) rfl rfl rfl hc50 rfl rfl (.refl _) rfl rfl rfl rfl
            exact ⟨rfl,rfl⟩
           ·refine At.eqS (s':=⟨[(0,.c (oC 5000 3 ((a29.2.2.set (0 + a40.toNat) (a29.2.2.getD (0 + a42.toNat) default)).set (0 + a42.toNat) (a29.2.2.getD (0 + a40.toNat) default)))),(1,cD (dI p1)),(4,cD (.fn 74 [])),(12,cD (dI a40)),(13,cD (dI a42))],[(5000,vL 3 z02 ((a29.2.2.set (0 + a40.toNat) (a29.2.2.getD (0 + a42.toNat) default)).set (0 + a42.toNat) (a29.2.2.getD (0 + a40.toNat) default)))]⟩) (by simp only [oC,vL,List.length_set]) ?_
            refine At.done rfl ?_
            refine Tri.sg [0,1,4,12,13] [5000] (z00 3) ?_
            refine Tri.reg ?_
            refine At.sg 3 [0,1,4,12,13] [5000] (z00 3) ?_
            refine At.done rfl ?_
            cases h
            exact kr
         · exact fun x=>x.elim
        · exact fun x=>x.elim
       ·intro a30 h
        refine Tri.seqS ?_
        obtain ⟨hc31,h⟩:=z03 h
        obtain ⟨hc32,h⟩:=z03 h
        obtain ⟨hc33,h⟩:=z03 h
        obtain ⟨hc34,h⟩:=z03 h
        obtain ⟨hc35,h⟩:=z03 h
        obtain ⟨hc36,h⟩:=z03 h
        obtain ⟨hc37,h⟩:=z03 h
        obtain ⟨hc38,h⟩:=z03 h
        refine Tri.dC [.a [0] [],.a [13] [],.a [0] [],.a [1] [],.a [0] [],.a [1] [],.a [167,168] [5000],.a [169] [5000],.a [0] [],.a [13] [],.a [171,172] [5000],.a [173] [5000],.a [163,164] [5000],.m ⟨[(170,.agg (cTime (a30.2.2.getD (0 + p1.toNat) default))),(175,.c (.vptr 5000 3 (0 + a30.2.1.toNat) 0))],[(5000,vL 3 z02 a30.2.2)]⟩ ⟨[],[(5000,vL 3 z02 (a30.2.2.set (0 + a30.2.1.toNat) (a30.2.2.getD (0 + p1.toNat) default)))]⟩ [] [] [],.a [165,166] [5000],.m ⟨[(174,.agg (cTime (a30.2.2.getD (0 + a30.2.1.toNat) default))),(176,.c (.vptr 5000 3 (0 + p1.toNat) 0))],[(5000,vL 3 z02 (a30.2.2.set (0 + a30.2.1.toNat) (a30.2.2.getD (0 + p1.toNat) default)))]⟩ ⟨[],[(5000,vL 3 z02 ((a30.2.2.set (0 + a30.2.1.toNat) (a30.2.2.getD (0 + p1.toNat) default)).set (0 + p1.toNat) (a30.2.2.getD (0 + a30.2.1.toNat) default)))]⟩ [] [] []] [13] [5000] (tN 6 (ai hc31 (ai hc32 (tN 2 (ai hc33 (ai hc34 (ai hc35 (ai hc37 trivial)))))))) (.a (.a (.a (.a (.a (.a (.a (.a (.a (.a (.a (.a (.a (.m ?_ (.a (.m ?_ .z)))))))))))))))) ?_
        · exact DOk.one fun r hr=>One.storeT (xs:=[.d (dU ((a30.2.2.getD (0 + p1.toNat) default).epoch)),.d (dU ((a30.2.2.getD (0 + p1.toNat) default).loop.1)),.d (dU ((a30.2.2.getD (0 + p1.toNat) default).loop.2))]) (ds:=[dU ((a30.2.2.getD (0 + p1.toNat) default).epoch),dU ((a30.2.2.getD (0 + p1.toNat) default).loop.1),dU ((a30.2.2.getD (0 + p1.toNat) default).loop.2)]) (z02) a30.2.2 (a30.2.2.getD (0 + p1.toNat) default) rfl (by kernel_rfl) rfl rfl rfl hc36 rfl rfl (.refl _) rfl rfl rfl rfl
        · exact DOk.one fun r hr=>One.storeT (xs:=[.d (dU ((a30.2.2.getD (0 + a30.2.1.toNat) default).epoch)),.d (dU ((a30.2.2.getD (0 + a30.2.1.toNat) default).loop.1)),.d (dU ((a30.2.2.getD (0 + a30.2.1.toNat) default).loop.2))]) (ds:=[dU ((a30.2.2.getD (0 + a30.2.1.toNat) default).epoch),dU ((a30.2.2.getD (0 + a30.2.1.toNat) default).loop.1),dU ((a30.2.2.getD (0 + a30.2.1.toNat) default).loop.2)]) (z02) (a30.2.2.set (0 + a30.2.1.toNat) (a30.2.2.getD (0 + p1.toNat) default)) (a30.2.2.getD (0 + a30.2.1.toNat) default) rfl (by kernel_rfl) rfl rfl rfl hc38 rfl rfl (.refl _) rfl rfl rfl rfl
        refine Tri.sg [10,11] [5000] (z00 3) ?_
        refine Tri.ret ?_
        cases h
        exact RetAt.k
       · exact fun x=>x.elim
    · exact fun x=>x.elim
   · exact fun x=>x.elim
theorem zb9 {p0:Int} {q:Int} (h:z47 p0=some q) :
  Summ Tryz.prog 162 [cD (dI p0)] [] (cD (dU q)) []:=by
 refine Summ.intro Tryz.func162 rfl (by kernel_rfl) (by kernel_rfl) [] rfl ?_
 rintro ⟨P,w0,G0,V,LL,lk,N, φ0,fx⟩ rfl rfl rfl rfl
 unfold z47 at h
 refine Tri.sg [0] [] (z00 1) ?_
 refine Tri.seqS ?_
 refine Tri.reg ?_
 refine At.sg 2 [4] [] (z00 2) ?_
 obtain ⟨r1,hr1,h⟩:=z04 h
 refine At.cA [] [cD (dU (IntKind.u64.wrap p0))] (zb8 hr1) (.cons (.refl _) .nil) ?_
 obtain ⟨hc2,h⟩:=z03 h
 refine At.sg 2 [2] [] (ai hc2 (z00 1)) ?_
 refine At.done rfl ?_
 refine Tri.ret ?_
 cases h
 exact RetAt.k
theorem zam {l0:Int} {q:Int × Int} (h:z3v l0=some q) :
  Summ Tryz.prog 163 [.c (.ptr 5000 0)] [(5000,.box [.d (dU l0)])] (cD (dU q.1)) [(5000,.box [.d (dU q.2)])]:=by
 refine Summ.intro Tryz.func163 rfl (by kernel_rfl) (by kernel_rfl) [] rfl ?_
 rintro ⟨P,w0,G0,V,LL,lk,N, φ0,fx⟩ rfl rfl rfl rfl
 unfold z3v at h
 refine Tri.sg [0] [5000] (z00 1) ?_
 refine Tri.seqS ?_
 refine Tri.dC [.a [0] [],.a [3] [],.a [4] [5000],.a [0] [],.a [6] [],.a [7] [5000],.a [8] [],.a [5,9] [],.a [3] [],.m ⟨[(10,cD (dU (z0m .xor .u64 l0 (shlOp .u64 l0 13)))),(11,.c (.ptr 5000 0))],[(5000,.box [.d (dU l0)])]⟩ ⟨[],[(5000,.box [.d (dU (z0m .xor .u64 l0 (shlOp .u64 l0 13)))])]⟩ [] [] []] [0] [5000] (tN 6 (ai (show ((0:Int)≤13) from (by decide:(0:Int)≤13)) (z00 2))) (.a (.a (.a (.a (.a (.a (.a (.a (.a (.m ?_ .z)))))))))) ?_
 ·exact DOk.step (.turn 5000 (.box [.d (dU (z0m .xor .u64 l0 (shlOp .u64 l0 13)))])) (fun r=>by kernel_rfl) (fun r=>by kernel_rfl) trivial (by kernel_rfl) (by kernel_rfl) (fun r=>rfl)
 refine Tri.seqS ?_
 refine Tri.dC [.a [0] [],.a [12] [],.a [13] [5000],.a [0] [],.a [15] [],.a [16] [5000],.a [17] [],.a [14,18] [],.a [12] [],.m ⟨[(19,cD (dU (z0m .xor .u64 (z0m .xor .u64 l0 (shlOp .u64 l0 13)) (shrOp .u64 (z0m .xor .u64 l0 (shlOp .u64 l0 13)) 7)))),(20,.c (.ptr 5000 0))],[(5000,.box [.d (dU (z0m .xor .u64 l0 (shlOp .u64 l0 13)))])]⟩ ⟨[],[(5000,.box [.d (dU (z0m .xor .u64 (z0m .xor .u64 l0 (shlOp .u64 l0 13)) (shrOp .u64 (z0m .xor .u64 l0 (shlOp .u64 l0 13)) 7)))])]⟩ [] [] []] [0] [5000] (tN 6 (ai (show ((0:Int)≤7) from (by decide:(0:Int)≤7)) (z00 2))) (.a (.a (.a (.a (.a (.a (.a (.a (.a (.m ?_ .z)))))))))) ?_
 ·exact DOk.step (.turn 5000 (.box [.d (dU (z0m .xor .u64 (z0m .xor .u64 l0 (shlOp .u64 l0 13)) (shrOp .u64 (z0m .xor .u64 l0 (shlOp .u64 l0 13)) 7)))])) (fun r=>by kernel_rfl) (fun r=>by kernel_rfl) trivial (by kernel_rfl) (by kernel_rfl) (fun r=>rfl)
 refine Tri.seqS ?_
 refine Tri.dC [.a [0] [],.a [21] [],.a [22] [5000],.a [0] [],.a [24] [],.a [25] [5000],.a [26] [],.a [23,27] [],.a [21] [],.m ⟨[(28,cD (dU (z0m .xor .u64 (z0m .xor .u64 (z0m .xor .u64 l0 (shlOp .u64 l0 13)) (shrOp .u64 (z0m .xor .u64 l0 (shlOp .u64 l0 13)) 7)) (shlOp .u64 (z0m .xor .u64 (z0m .xor .u64 l0 (shlOp .u64 l0 13)) (shrOp .u64 (z0m .xor .u64 l0 (shlOp .u64 l0 13)) 7)) 17)))),(29,.c (.ptr 5000 0))],[(5000,.box [.d (dU (z0m .xor .u64 (z0m .xor .u64 l0 (shlOp .u64 l0 13)) (shrOp .u64 (z0m .xor .u64 l0 (shlOp .u64 l0 13)) 7)))])]⟩ ⟨[],[(5000,.box [.d (dU (z0m .xor .u64 (z0m .xor .u64 (z0m .xor .u64 l0 (shlOp .u64 l0 13)) (shrOp .u64 (z0m .xor .u64 l0 (shlOp .u64 l0 13)) 7)) (shlOp .u64 (z0m .xor .u64 (z0m .xor .u64 l0 (shlOp .u64 l0 13)) (shrOp .u64 (z0m .xor .u64 l0 (shlOp .u64 l0 13)) 7)) 17)))])]⟩ [] [] []] [0] [5000] (tN 6 (ai (show ((0:Int)≤17) from (by decide:(0:Int)≤17)) (z00 2))) (.a (.a (.a (.a (.a (.a (.a (.a (.a (.m ?_ .z)))))))))) ?_
 ·exact DOk.step (.turn 5000 (.box [.d (dU (z0m .xor .u64 (z0m .xor .u64 (z0m .xor .u64 l0 (shlOp .u64 l0 13)) (shrOp .u64 (z0m .xor .u64 l0 (shlOp .u64 l0 13)) 7)) (shlOp .u64 (z0m .xor .u64 (z0m .xor .u64 l0 (shlOp .u64 l0 13)) (shrOp .u64 (z0m .xor .u64 l0 (shlOp .u64 l0 13)) 7)) 17)))])) (fun r=>by kernel_rfl) (fun r=>by kernel_rfl) trivial (by kernel_rfl) (by kernel_rfl) (fun r=>rfl)
 refine Tri.sg [2] [5000] (z00 4) ?_
 refine Tri.ret ?_
 cases h
 exact RetAt.k
theorem z69 {fuel:Nat} {p1:Int} {p2:Int} {l0:List Time} {q:List Time} (h:z16 fuel p1 p2 l0=some q) :
    Summ Tryz.prog 150 [.c (oC 5000 3 l0),cD (dI p1),cD (dI p2),cD (.fn 74 [])] [(5000,vL 3 z02 l0)] (.tup []) [(5000,vL 3 z02 q)]:=by
  refine Summ.intro Tryz.func150 rfl (by kernel_rfl) (by kernel_rfl) [] rfl ?_
  rintro ⟨P,w0,G0,V,LL,lk,N, φ0,fx⟩ rfl rfl rfl rfl
  unfold z16 at h
  refine Tri.sg [0,1,8] [5000] (z00 4) ?_
  refine Tri.sg [0,1,8,17] [5000] (z00 2) ?_
  refine Tri.condK h (fun h => ?_) (fun h => ?_)
  ·refine Tri.sg [0,1,8,9] [9,5000] (z00 4) ?_
   refine Tri.seqS ?_
   refine Tri.reg ?_
   refine At.sg 1 [0,1,8,9,20] [9,5000] (z00 1) ?_
   obtain ⟨r1,hr1,h⟩:=z04 h
   refine At.cA [] [cD (dI (IntKind.i64.wrap (p2 - p1)))] (zb9 hr1) (.cons (.refl _) .nil) ?_
   refine At.sg 1 [0,1,8,9,10] [9,5000] (z00 1) ?_
   refine At.done rfl ?_
   refine Tri.sg [0,1,8,9,10,11] [9,5000] (tN 2 (ai (show ((4:Int) ≠ 0) from (by decide:(4:Int) ≠ 0)) (z00 4))) ?_
   refine Tri.keep [0,1,8,9,10,11] [9,5000] (s':=⟨[(0,.c (oC 5000 3 l0)),(1,cD (dI p1)),(8,cD (dI (IntKind.i64.wrap (p2 - p1)))),(9,.c (.ptr 9 0)),(10,cD (dU r1)),(11,cD (dI (IntKind.i64.wrap ((IntKind.i64.wrap (p1 + (IntKind.i64.wrap ((IntKind.i64.wrap ((IntKind.i64.wrap (p2 - p1)).tdiv 4)) * 2)))) - 1))))],[(9,.box [.d (dU (IntKind.u64.wrap (IntKind.i64.wrap (p2 - p1))))]),(5000,vL 3 z02 l0)]⟩) (by kernel_rfl) ?_
   refine Tri.loopK (fuel:=fuel) (st0:=((IntKind.i64.wrap (p2 - p1)),(IntKind.i64.wrap ((IntKind.i64.wrap (p1 + (IntKind.i64.wrap ((IntKind.i64.wrap ((IntKind.i64.wrap (p2 - p1)).tdiv 4)) * 2)))) - 1)),(IntKind.u64.wrap (IntKind.i64.wrap (p2 - p1))),l0)) (fun (x:Empty) s=>False) (fun (a2:Int × Int × Int × (List Time))=>⟨[(0,.c (oC 5000 3 a2.2.2.2)),(1,cD (dI p1)),(8,cD (dI a2.1)),(9,.c (.ptr 9 0)),(10,cD (dU r1)),(11,cD (dI a2.2.1))],[(9,.box [.d (dU a2.2.2.1)]),(5000,vL 3 z02 a2.2.2.2)]⟩) (fun (a2:Int × Int × Int × (List Time))=>⟨[],[(5000,vL 3 z02 a2.2.2.2)]⟩) h ?_ ?_ ?_
   ·intro a2 c h
    refine Tri.seqS ?_
    refine Tri.sg [0,1,8,9,10,11,35] [9,5000] (tN 3 (ai (show ((4:Int) ≠ 0) from (by decide:(4:Int) ≠ 0)) (z00 4))) ?_
    refine Tri.condK h (fun h => ?_) (fun h => ?_)
    ·refine Tri.skip ?_
     refine Tri.seqS ?_
     refine Tri.blockB ?_
     refine Tri.seqS ?_
     refine Tri.reg ?_
     obtain ⟨r4,hr4,h⟩:=z04 h
     refine At.cL 0 [] [.c (.ptr 9 0)] [(5000,9)] [0,1,8,9,10,11] [5000] (zam hr4) (.ren rfl rfl .nil) ?_
     refine At.sg 5 [0,1,8,9,10,11,12] [9,5000] (z00 5) ?_
     refine At.done rfl ?_
     refine Tri.seqJ (fun (a5:Int)=>⟨[(0,.c (oC 5000 3 a2.2.2.2)),(1,cD (dI p1)),(8,cD (dI a2.1)),(9,.c (.ptr 9 0)),(10,cD (dU r1)),(11,cD (dI a2.2.1)),(12,cD (dI a5))],[(9,.box [.d (dU r4.2)]),(5000,vL 3 z02 a2.2.2.2)]⟩) h (fun a5 h => ?_) (fun j6 h => ?_)
     ·refine Tri.eqS ⟨[(0,.c (oC 5000 3 a2.2.2.2)),(1,cD (dI p1)),(8,cD (dI a2.1)),(9,.c (.ptr 9 0)),(10,cD (dU r1)),(11,cD (dI a2.2.1)),(12,cD (dI a5))],[(9,.box [.d (dU r4.2)]),(5000,vL 3 z02 a2.2.2.2)]⟩ kr ?_
      obtain ⟨hc7,h⟩:=z03 h
      obtain ⟨hc8,h⟩:=z03 h
      obtain ⟨hc9,h⟩:=z03 h
      obtain ⟨hc10,h⟩:=z03 h
      obtain ⟨hc11,h⟩:=z03 h
      obtain ⟨hc12,h⟩:=z03 h
      obtain ⟨hc13,h⟩:=z03 h
      obtain ⟨hc14,h⟩:=z03 h
      refine Tri.afterA ⟨[(0,.c (oC 5000 3 a2.2.2.2)),(1,cD (dI p1)),(8,cD (dI a2.1)),(9,.c (.ptr 9 0)),(10,cD (dU r1)),(11,cD (dI a2.2.1))],[(9,.box [.d (dU r4.2)]),(5000,vL 3 z02 ((a2.2.2.2.set (0 + a2.2.1.toNat) (a2.2.2.2.getD (0 + (IntKind.i64.wrap (p1 + a5)).toNat) default)).set (0 + (IntKind.i64.wrap (p1 + a5)).toNat) (a2.2.2.2.getD (0 + a2.2.1.toNat) default)))]⟩ ?_ ?_
      ·refine Tri.dS ⟨[(0,.c (oC 5000 3 a2.2.2.2)),(1,cD (dI p1)),(8,cD (dI a2.1)),(9,.c (.ptr 9 0)),(10,cD (dU r1)),(11,cD (dI a2.2.1))],[(9,.box [.d (dU r4.2)]),(5000,vL 3 z02 ((a2.2.2.2.set (0 + a2.2.1.toNat) (a2.2.2.2.getD (0 + (IntKind.i64.wrap (p1 + a5)).toNat) default)).set (0 + (IntKind.i64.wrap (p1 + a5)).toNat) (a2.2.2.2.getD (0 + a2.2.1.toNat) default)))]⟩ [.a [0] [],.a [11] [],.a [0] [],.a [1] [],.a [12] [],.a [52,53] [],.a [0] [],.a [1] [],.a [12] [],.a [56,57] [],.a [55,58] [5000],.a [59] [5000],.a [0] [],.a [11] [],.a [61,62] [5000],.a [63] [5000],.a [49,50] [5000],.m ⟨[(60,.agg (cTime (a2.2.2.2.getD (0 + (IntKind.i64.wrap (p1 + a5)).toNat) default))),(65,.c (.vptr 5000 3 (0 + a2.2.1.toNat) 0))],[(5000,vL 3 z02 a2.2.2.2)]⟩ ⟨[],[(5000,vL 3 z02 (a2.2.2.2.set (0 + a2.2.1.toNat) (a2.2.2.2.getD (0 + (IntKind.i64.wrap (p1 + a5)).toNat) default)))]⟩ [] [] [],.a [51,54] [5000],.m ⟨[(64,.agg (cTime (a2.2.2.2.getD (0 + a2.2.1.toNat) default))),(66,.c (.vptr 5000 3 (0 + (IntKind.i64.wrap (p1 + a5)).toNat) 0))],[(5000,vL 3 z02 (a2.2.2.2.set (0 + a2.2.1.toNat) (a2.2.2.2.getD (0 + (IntKind.i64.wrap (p1 + a5)).toNat) default)))]⟩ ⟨[],[(5000,vL 3 z02 ((a2.2.2.2.set (0 + a2.2.1.toNat) (a2.2.2.2.getD (0 + (IntKind.i64.wrap (p1 + a5)).toNat) default)).set (0 + (IntKind.i64.wrap (p1 + a5)).toNat) (a2.2.2.2.getD (0 + a2.2.1.toNat) default)))]⟩ [] [] []] [0,1,8,9,10,11] [9,5000] (tN 10 (ai hc7 (ai hc8 (tN 2 (ai hc9 (ai hc10 (ai hc11 (ai hc13 trivial)))))))) (.a (.a (.a (.a (.a (.a (.a (.a (.a (.a (.a (.a (.a (.a (.a (.a (.a (.m ?_ (.a (.m ?_ .z)))))))))))))))))))) ?_
       · exact DOk.one fun r hr=>One.storeT (xs:=[.d (dU ((a2.2.2.2.getD (0 + (IntKind.i64.wrap (p1 + a5)).toNat) default).epoch)),.d (dU ((a2.2.2.2.getD (0 + (IntKind.i64.wrap (p1 + a5)).toNat) default).loop.1)),.d (dU ((a2.2.2.2.getD (0 + (IntKind.i64.wrap (p1 + a5)).toNat) default).loop.2))]) (ds:=[dU ((a2.2.2.2.getD (0 + (IntKind.i64.wrap (p1 + a5)).toNat) default).epoch),dU ((a2.2.2.2.getD (0 + (IntKind.i64.wrap (p1 + a5)).toNat) default).loop.1),dU ((a2.2.2.2.getD (0 + (IntKind.i64.wrap (p1 + a5)).toNat) default).loop.2)]) (z02) a2.2.2.2 (a2.2.2.2.getD (0 + (IntKind.i64.wrap (p1 + a5)).toNat) default) rfl (by kernel_rfl) rfl rfl rfl hc12 rfl rfl (.refl _) rfl rfl rfl rfl
       · exact DOk.one fun r hr=>One.storeT (xs:=[.d (dU ((a2.2.2.2.getD (0 + a2.2.1.toNat) default).epoch)),.d (dU ((a2.2.2.2.getD (0 + a2.2.1.toNat) default).loop.1)),.d (dU ((a2.2.2.2.getD (0 + a2.2.1.toNat) default).loop.2))]) (ds:=[dU ((a2.2.2.2.getD (0 + a2.2.1.toNat) default).epoch),dU ((a2.2.2.2.getD (0 + a2.2.1.toNat) default).loop.1),dU ((a2.2.2.2.getD (0 + a2.2.1.toNat) default).loop.2)]) (z02) (a2.2.2.2.set (0 + a2.2.1.toNat) (a2.2.2.2.getD (0 + (IntKind.i64.wrap (p1 + a5)).toNat) default)) (a2.2.2.2.getD (0 + a2.2.1.toNat) default) rfl (by kernel_rfl) rfl rfl rfl hc14 rfl rfl (.refl _) rfl rfl rfl rfl
       exact ⟨rfl,rfl⟩
      ·refine At.eqS (s':=⟨[(0,.c (oC 5000 3 ((a2.2.2.2.set (0 + a2.2.1.toNat) (a2.2.2.2.getD (0 + (IntKind.i64.wrap (p1 + a5)).toNat) default)).set (0 + (IntKind.i64.wrap (p1 + a5)).toNat) (a2.2.2.2.getD (0 + a2.2.1.toNat) default)))),(1,cD (dI p1)),(8,cD (dI a2.1)),(9,.c (.ptr 9 0)),(10,cD (dU r1)),(11,cD (dI a2.2.1))],[(9,.box [.d (dU r4.2)]),(5000,vL 3 z02 ((a2.2.2.2.set (0 + a2.2.1.toNat) (a2.2.2.2.getD (0 + (IntKind.i64.wrap (p1 + a5)).toNat) default)).set (0 + (IntKind.i64.wrap (p1 + a5)).toNat) (a2.2.2.2.getD (0 + a2.2.1.toNat) default)))]⟩) (by simp only [oC,vL,List.length_set]) ?_
       refine At.done rfl ?_
       refine Tri.reg ?_
       refine At.sg 3 [0,1,8,9,10,11] [9,5000] (z00 3) ?_
       refine At.done rfl ?_
       cases h
       exact kr
     ·refine Tri.sg [0,1,8,9,10,11,12,45] [9,5000] (z00 3) ?_
      refine Tri.condK h (fun h => ?_) (fun h => ?_)
      ·refine Tri.reg ?_
       refine At.sg 4 [0,1,8,9,10,11,12] [9,5000] (z00 4) ?_
       refine At.done rfl ?_
       exact ⟨_,h,kr⟩
      ·refine Tri.kp [0,1,8,9,10,11,12] [9,5000] ?_
       refine Tri.skip ?_
       exact ⟨_,h,kr⟩
    ·refine Tri.kp [] [5000] ?_
     refine Tri.exit ?_
     cases h
     exact ⟨rfl,kr⟩
   ·intro a3 h
    cases h
    exact RetAt.k
   · exact fun x=>x.elim
  ·refine Tri.kp [] [5000] ?_
   refine Tri.skip ?_
   cases h
   exact RetAt.k
theorem z7a {fuel:Nat} {p1:Int} {p2:Int} {p3:Int} {l0:List Time} {q:List Time} (h:z0k fuel p1 p2 p3 l0=some q) :
    Summ Tryz.prog 138 [.c (oC 5000 3 l0),cD (dI p1),cD (dI p2),cD (dI p3),cD (.fn 74 [])] [(5000,vL 3 z02 l0)] (.tup []) [(5000,vL 3 z02 q)]:=by
  induction fuel generalizing p1 p2 p3 l0 q with
  | zero=>rw [z0k.eq_1] at h; cases h
  | succ fuel ih =>
    refine Summ.intro Tryz.func138 rfl (by kernel_rfl) (by kernel_rfl) [] rfl ?_
    rintro ⟨P,w0,G0,V,LL,lk,N, φ0,fx⟩ rfl rfl rfl rfl
    rw [z0k.eq_2] at h
    refine Tri.sg [0,1,2,3,4,10] [5000] (z00 1) ?_
    refine Tri.sg [0,1,2,3,4,10,11] [5000] (z00 1) ?_
    refine Tri.lK (p1,p2,p3,true,true,l0) (fun (x:List Time) s=>RetAt Tryz.prog Tryz.f138 (.tup []) [(5000,vL 3 z02 x)] s) (fun (a1:Int × Int × Int × Bool × Bool × (List Time))=>⟨[(0,.c (oC 5000 3 a1.2.2.2.2.2)),(1,cD (dI a1.1)),(2,cD (dI a1.2.1)),(3,cD (dI a1.2.2.1)),(4,cD (.fn 74 [])),(10,cD (.bool a1.2.2.2.1)),(11,cD (.bool a1.2.2.2.2.1))],[(5000,vL 3 z02 a1.2.2.2.2.2)]⟩) [0,1,2,3,4,10,11] [5000] h ?_ ?_ ?_
    ·intro a1 c h
     refine Tri.blockB ?_
     refine Tri.sg [0,1,2,3,4,10,11,12] [5000] (z00 4) ?_
     refine Tri.seqS ?_
     refine Tri.sg [0,1,2,3,4,10,11,12,25] [5000] (z00 2) ?_
     refine Tri.condK h (fun h => ?_) (fun h => ?_)
     ·refine Tri.seqS ?_
      refine Tri.reg ?_
      refine At.sg 4 [26,27,28,29] [5000] (z00 4) ?_
      obtain ⟨r3,hr3,h⟩:=z04 h
      refine At.cL 0 [] [.c (oC 5000 3 a1.2.2.2.2.2),cD (dI a1.1),cD (dI a1.2.1),cD (.fn 74 [])] [(5000,5000)] [] [] (z66 hr3) (.ren rfl rfl (.flat (.refl _) rfl rfl (.flat (.refl _) rfl rfl (.flat (.refl _) rfl rfl .nil)))) ?_
      refine At.done rfl ?_
      refine Tri.ret ?_
      cases h
      exact RetAt.k
     ·refine Tri.skip ?_
      refine Tri.seqS ?_
      refine Tri.sg [0,1,2,3,4,10,11,12,32] [5000] (z00 2) ?_
      refine Tri.condK h (fun h => ?_) (fun h => ?_)
      ·refine Tri.seqS ?_
       refine Tri.reg ?_
       refine At.sg 4 [33,34,35,36] [5000] (z00 4) ?_
       obtain ⟨r4,hr4,h⟩:=z04 h
       refine At.cL 0 [] [.c (oC 5000 3 a1.2.2.2.2.2),cD (dI a1.1),cD (dI a1.2.1),cD (.fn 74 [])] [(5000,5000)] [] [] (z78 hr4) (.ren rfl rfl (.flat (.refl _) rfl rfl (.flat (.refl _) rfl rfl (.flat (.refl _) rfl rfl .nil)))) ?_
       refine At.done rfl ?_
       refine Tri.ret ?_
       cases h
       exact RetAt.k
      ·refine Tri.skip ?_
       refine Tri.seqJ (fun (a5:Int × Int × (List Time))=>⟨[(0,.c (oC 5000 3 a5.2.2)),(1,cD (dI a1.1)),(2,cD (dI a1.2.1)),(3,cD (dI a5.1)),(4,cD (.fn 74 [])),(10,cD (.bool a1.2.2.2.1)),(11,cD (.bool a1.2.2.2.2.1)),(12,cD (dI a5.2.1))],[(5000,vL 3 z02 a5.2.2)]⟩) h (fun a5 h => ?_) (fun j6 h => ?_)
       ·refine Tri.seqS ?_
        refine Tri.reg ?_
        refine At.seg 4 [0,1,2,3,4,10,11,12,48,49,50,51] [5000] (s':=⟨[(0,.c (oC 5000 3 a5.2.2)),(1,cD (dI a1.1)),(2,cD (dI a1.2.1)),(3,cD (dI a5.1)),(4,cD (.fn 74 [])),(10,cD (.bool a1.2.2.2.1)),(11,cD (.bool a1.2.2.2.2.1)),(12,cD (dI a5.2.1)),(48,.c (oC 5000 3 a5.2.2)),(49,cD (dI a1.1)),(50,cD (dI a1.2.1)),(51,cD (.fn 74 []))],[(5000,vL 3 z02 a5.2.2)]⟩) (by kernel_rfl) (z00 4) ?_
        obtain ⟨r7,hr7,h⟩:=z04 h
        refine At.cA [] [.c (oC 5000 3 a5.2.2),cD (dI a1.1),cD (dI a1.2.1),cD (.fn 74 [])] (z6o hr7) (.cons (AVArg.view (z02) a5.2.2 rfl) (.cons (.refl _) (.cons (.refl _) (.cons (.refl _) .nil)))) ?_
        refine At.sg 5 [0,1,2,3,4,10,11,12,13,14] [5000] (z00 5) ?_
        refine At.done rfl ?_
        refine Tri.seqJ (fun (a8:Int × Int × (List Time))=>⟨[(0,.c (oC 5000 3 a8.2.2)),(1,cD (dI a1.1)),(2,cD (dI a1.2.1)),(3,cD (dI a5.1)),(4,cD (.fn 74 [])),(10,cD (.bool a1.2.2.2.1)),(11,cD (.bool a1.2.2.2.2.1)),(12,cD (dI a5.2.1)),(13,cD (dI a8.1)),(14,cD (dI a8.2.1))],[(5000,vL 3 z02 a8.2.2)]⟩) h (fun a8 h => ?_) (fun j9 h => ?_)
        ·refine Tri.seqJ (fun (a10:Bool × Bool × (List Time))=>⟨[(0,.c (oC 5000 3 a10.2.2)),(1,cD (dI a1.1)),(2,cD (dI a1.2.1)),(3,cD (dI a5.1)),(4,cD (.fn 74 [])),(10,cD (.bool a10.1)),(11,cD (.bool a10.2.1)),(12,cD (dI a5.2.1)),(13,cD (dI a8.1))],[(5000,vL 3 z02 a10.2.2)]⟩) h (fun a10 h => ?_) (fun j11 h => ?_)
         ·refine Tri.eqS ⟨[(0,.c (oC 5000 3 a10.2.2)),(1,cD (dI a1.1)),(2,cD (dI a1.2.1)),(3,cD (dI a5.1)),(4,cD (.fn 74 [])),(10,cD (.bool a10.1)),(11,cD (.bool a10.2.1)),(12,cD (dI a5.2.1)),(13,cD (dI a8.1))],[(5000,vL 3 z02 a10.2.2)]⟩ kr ?_
          refine Tri.seqS ?_
          refine Tri.seqJ (fun (a12:Bool)=>⟨[(0,.c (oC 5000 3 a10.2.2)),(1,cD (dI a1.1)),(2,cD (dI a1.2.1)),(3,cD (dI a5.1)),(4,cD (.fn 74 [])),(10,cD (.bool a10.1)),(11,cD (.bool a10.2.1)),(12,cD (dI a5.2.1)),(13,cD (dI a8.1)),(97,cD (.bool a12))],[(5000,vL 3 z02 a10.2.2)]⟩) h (fun a12 h => ?_) (fun j13 h => ?_)
          ·refine Tri.condK h (fun h => ?_) (fun h => ?_)
           ·refine Tri.seqS ?_
            refine Tri.reg ?_
            refine At.sg 5 [0,2,3,4,10,11,98,99,100,101,102] [5000] (z00 5) ?_
            obtain ⟨r14,hr14,h⟩:=z04 h
            refine At.callL (nf:=0) (caps:=[]) (xs:=[.c (oC 5000 3 a10.2.2),cD (dI a1.1),cD (dI a1.2.1),cD (dI a8.1),cD (.fn 74 [])]) [(5000,5000)] [0,2,3,4,10,11] [] (s0:=⟨[(0,.c (oC 5000 3 a10.2.2)),(2,cD (dI a1.2.1)),(3,cD (dI a5.1)),(4,cD (.fn 74 [])),(10,cD (.bool a10.1)),(11,cD (.bool a10.2.1))],[]⟩) (z65 hr14) rfl rfl (by kernel_rfl) rfl (by kernel_rfl) (by kernel_rfl) (.ren rfl rfl (.flat (.refl _) rfl rfl (.flat (.refl _) rfl rfl (.flat (.refl _) rfl rfl (.flat (.refl _) rfl rfl .nil))))) ⟨⟨by kernel_rfl,by kernel_rfl⟩,trivial⟩ (by kernel_rfl) (by kernel_rfl) (by kernel_rfl) (by kernel_rfl) (by kernel_rfl) (by kernel_rfl) (by kernel_rfl) (by kernel_rfl) (by kernel_rfl) ⟨[(103,cD (dI r14.1)),(0,.c (oC 5000 3 a10.2.2)),(2,cD (dI a1.2.1)),(3,cD (dI a5.1)),(4,cD (.fn 74 [])),(10,cD (.bool a10.1)),(11,cD (.bool a10.2.1))],[(5000,vL 3 z02 r14.2)]⟩ (by kernel_rfl) ?_
            obtain ⟨hc15,h⟩:=z03 h
            refine At.eqS ⟨[(103,cD (dI r14.1)),(0,.c (oC 5000 3 r14.2)),(2,cD (dI a1.2.1)),(3,cD (dI a5.1)),(4,cD (.fn 74 [])),(10,cD (.bool a10.1)),(11,cD (.bool a10.2.1))],[(5000,vL 3 z02 r14.2)]⟩ (by simp only [oC,vL,hc15]) ?_
            refine At.sg 1 [0,2,3,4,10,11,15] [5000] (z00 1) ?_
            refine At.done rfl ?_
            refine Tri.sg [0,1,2,3,4,10,11] [5000] (z00 2) ?_
            refine Tri.kp [0,1,2,3,4,10,11] [5000] ?_
            refine Tri.exit ?_
            cases h
            exact kr
           ·refine Tri.skip ?_
            refine Tri.seqS ?_
            refine Tri.reg ?_
            refine At.sg 5 [0,1,2,3,4,12,106,107,108,109,110] [5000] (z00 5) ?_
            obtain ⟨r16,hr16,h⟩:=z04 h
            refine At.callL (nf:=0) (caps:=[]) (xs:=[.c (oC 5000 3 a10.2.2),cD (dI a1.1),cD (dI a1.2.1),cD (dI a8.1),cD (.fn 74 [])]) [(5000,5000)] [0,1,2,3,4,12] [] (s0:=⟨[(0,.c (oC 5000 3 a10.2.2)),(1,cD (dI a1.1)),(2,cD (dI a1.2.1)),(3,cD (dI a5.1)),(4,cD (.fn 74 [])),(12,cD (dI a5.2.1))],[]⟩) (z70 hr16) rfl rfl (by kernel_rfl) rfl (by kernel_rfl) (by kernel_rfl) (.ren rfl rfl (.flat (.refl _) rfl rfl (.flat (.refl _) rfl rfl (.flat (.refl _) rfl rfl (.flat (.refl _) rfl rfl .nil))))) ⟨⟨by kernel_rfl,by kernel_rfl⟩,trivial⟩ (by kernel_rfl) (by kernel_rfl) (by kernel_rfl) (by kernel_rfl) (by kernel_rfl) (by kernel_rfl) (by kernel_rfl) (by kernel_rfl) (by kernel_rfl) ⟨[(111,.tup [(false,[.d (dI r16.1)]),(false,[.d (.bool r16.2.1)])]),(0,.c (oC 5000 3 a10.2.2)),(1,cD (dI a1.1)),(2,cD (dI a1.2.1)),(3,cD (dI a5.1)),(4,cD (.fn 74 [])),(12,cD (dI a5.2.1))],[(5000,vL 3 z02 r16.2.2)]⟩ (by kernel_rfl) ?_
            obtain ⟨hc17,h⟩:=z03 h
            refine At.eqS ⟨[(111,.tup [(false,[.d (dI r16.1)]),(false,[.d (.bool r16.2.1)])]),(0,.c (oC 5000 3 r16.2.2)),(1,cD (dI a1.1)),(2,cD (dI a1.2.1)),(3,cD (dI a5.1)),(4,cD (.fn 74 [])),(12,cD (dI a5.2.1))],[(5000,vL 3 z02 r16.2.2)]⟩ (by simp only [oC,vL,hc17]) ?_
            refine At.sg 5 [0,1,2,3,4,12,16,17] [5000] (z00 5) ?_
            refine At.done rfl ?_
            refine Tri.sg [0,1,2,3,4,11,12,16] [5000] (z00 2) ?_
            refine Tri.sg [0,1,2,3,4,11,12,16,18,19] [5000] (z00 8) ?_
            refine Tri.sg [0,1,2,3,4,11,16,18,19,20] [5000] (tN 1 (ai (show ((8:Int) ≠ 0) from (by decide:(8:Int) ≠ 0)) (z00 1))) ?_
            refine Tri.sg [0,1,2,3,4,11,16,18,19,20,125] [5000] (z00 3) ?_
            refine Tri.condK h (fun h => ?_) (fun h => ?_)
            ·refine Tri.sg [0,1,2,3,4,10,11,16] [5000] (z00 4) ?_
             refine Tri.seqS ?_
             refine Tri.reg ?_
             refine At.sg 5 [0,2,3,4,10,11,16,129,130,131,132,133] [5000] (z00 5) ?_
             obtain ⟨r18,hr18,h⟩:=z04 h
             refine At.callL (nf:=0) (caps:=[]) (xs:=[.c (oC 5000 3 r16.2.2),cD (dI a1.1),cD (dI r16.1),cD (dI a5.1),cD (.fn 74 [])]) [(5000,5000)] [0,2,3,4,10,11,16] [] (s0:=⟨[(0,.c (oC 5000 3 r16.2.2)),(2,cD (dI a1.2.1)),(3,cD (dI a5.1)),(4,cD (.fn 74 [])),(10,cD (.bool (decide ((IntKind.i64.wrap (a5.2.1.tdiv 8))≤(IntKind.i64.wrap (r16.1 - a1.1)))))),(11,cD (.bool r16.2.1)),(16,cD (dI r16.1))],[]⟩) (ih hr18) rfl rfl (by kernel_rfl) rfl (by kernel_rfl) (by kernel_rfl) (.ren rfl rfl (.flat (.refl _) rfl rfl (.flat (.refl _) rfl rfl (.flat (.refl _) rfl rfl (.flat (.refl _) rfl rfl .nil))))) ⟨⟨by kernel_rfl,by kernel_rfl⟩,trivial⟩ (by kernel_rfl) (by kernel_rfl) (by kernel_rfl) (by kernel_rfl) (by kernel_rfl) (by kernel_rfl) (by kernel_rfl) (by kernel_rfl) (by kernel_rfl) ⟨[(134,.tup []),(0,.c (oC 5000 3 r16.2.2)),(2,cD (dI a1.2.1)),(3,cD (dI a5.1)),(4,cD (.fn 74 [])),(10,cD (.bool (decide ((IntKind.i64.wrap (a5.2.1.tdiv 8))≤(IntKind.i64.wrap (r16.1 - a1.1)))))),(11,cD (.bool r16.2.1)),(16,cD (dI r16.1))],[(5000,vL 3 z02 r18)]⟩ (by kernel_rfl) ?_
             obtain ⟨hc19,h⟩:=z03 h
             refine At.eqS ⟨[(134,.tup []),(0,.c (oC 5000 3 r18)),(2,cD (dI a1.2.1)),(3,cD (dI a5.1)),(4,cD (.fn 74 [])),(10,cD (.bool (decide ((IntKind.i64.wrap (a5.2.1.tdiv 8))≤(IntKind.i64.wrap (r16.1 - a1.1)))))),(11,cD (.bool r16.2.1)),(16,cD (dI r16.1))],[(5000,vL 3 z02 r18)]⟩ (by simp only [oC,vL,hc19]) ?_
             refine At.done rfl ?_
             refine Tri.reg ?_
             refine At.sg 3 [0,1,2,3,4,10,11] [5000] (z00 3) ?_
             refine At.done rfl ?_
             cases h
             exact kr
            ·refine Tri.sg [0,1,2,3,4,10,11,16] [5000] (z00 4) ?_
             refine Tri.seqS ?_
             refine Tri.reg ?_
             refine At.sg 6 [0,1,3,4,10,11,16,140,142,143,144,145] [5000] (z00 6) ?_
             obtain ⟨r20,hr20,h⟩:=z04 h
             refine At.callL (nf:=0) (caps:=[]) (xs:=[.c (oC 5000 3 r16.2.2),cD (dI (IntKind.i64.wrap (r16.1 + 1))),cD (dI a1.2.1),cD (dI a5.1),cD (.fn 74 [])]) [(5000,5000)] [0,1,3,4,10,11,16] [] (s0:=⟨[(0,.c (oC 5000 3 r16.2.2)),(1,cD (dI a1.1)),(3,cD (dI a5.1)),(4,cD (.fn 74 [])),(10,cD (.bool (decide ((IntKind.i64.wrap (a5.2.1.tdiv 8))≤(IntKind.i64.wrap (a1.2.1 - r16.1)))))),(11,cD (.bool r16.2.1)),(16,cD (dI r16.1))],[]⟩) (ih hr20) rfl rfl (by kernel_rfl) rfl (by kernel_rfl) (by kernel_rfl) (.ren rfl rfl (.flat (.refl _) rfl rfl (.flat (.refl _) rfl rfl (.flat (.refl _) rfl rfl (.flat (.refl _) rfl rfl .nil))))) ⟨⟨by kernel_rfl,by kernel_rfl⟩,trivial⟩ (by kernel_rfl) (by kernel_rfl) (by kernel_rfl) (by kernel_rfl) (by kernel_rfl) (by kernel_rfl) (by kernel_rfl) (by kernel_rfl) (by kernel_rfl) ⟨[(146,.tup []),(0,.c (oC 5000 3 r16.2.2)),(1,cD (dI a1.1)),(3,cD (dI a5.1)),(4,cD (.fn 74 [])),(10,cD (.bool (decide ((IntKind.i64.wrap (a5.2.1.tdiv 8))≤(IntKind.i64.wrap (a1.2.1 - r16.1)))))),(11,cD (.bool r16.2.1)),(16,cD (dI r16.1))],[(5000,vL 3 z02 r20)]⟩ (by kernel_rfl) ?_
             obtain ⟨hc21,h⟩:=z03 h
             refine At.eqS ⟨[(146,.tup []),(0,.c (oC 5000 3 r20)),(1,cD (dI a1.1)),(3,cD (dI a5.1)),(4,cD (.fn 74 [])),(10,cD (.bool (decide ((IntKind.i64.wrap (a5.2.1.tdiv 8))≤(IntKind.i64.wrap (a1.2.1 - r16.1)))))),(11,cD (.bool r16.2.1)),(16,cD (dI r16.1))],[(5000,vL 3 z02 r20)]⟩ (by simp only [oC,vL,hc21]) ?_
             refine At.done rfl ?_
             refine Tri.reg ?_
             refine At.sg 2 [0,1,2,3,4,10,11] [5000] (z00 2) ?_
             refine At.done rfl ?_
             cases h
             exact kr
          ·rcases z1f h with ⟨hp22,h⟩ | ⟨hp22,h⟩
           ·obtain ⟨hc23,h⟩:=z03 h
            obtain ⟨hc24,h⟩:=z03 h
            obtain ⟨hc25,h⟩:=z03 h
            obtain ⟨hc26,h⟩:=z03 h
            obtain ⟨r27,hr27,h⟩:=z04 h
            refine Tri.dC [.a [1] [],.a [81] [],.m ⟨[(82,cD (.bool (decide (0 < a1.1))))],[]⟩ ⟨[(83,.c (.d (.bool true)))],[]⟩ [] [] [],.a [4,83] [],.a [0,83] [],.a [1,83] [],.a [83,86] [],.a [83,85,87] [5000],.a [83,88] [5000],.a [0,83] [],.a [13,83] [],.a [83,90,91] [5000],.a [83,92] [5000],.m ⟨[(83,cD (.bool true)),(84,cD (.fn 74 [])),(89,.agg (cTime (a10.2.2.getD (0 + (IntKind.i64.wrap (a1.1 - 1)).toNat) default))),(93,.agg (cTime (a10.2.2.getD (0 + a8.1.toNat) default)))],[]⟩ ⟨[(94,cD (dI r27))],[]⟩ [] [] [],.a [83,94] [],.a [83,95] [],.a [83,96] []] [0,1,2,3,4,10,11,12,13,97] [5000] (tN 6 (ai hc23 (ai hc24 (tN 2 (ai hc25 (ai hc26 (z00 3))))))) (.a (.a (.m ?_ (.a (.a (.a (.a (.a (.a (.a (.a (.a (.a (.m ?_ (.a (.a (.a .z))))))))))))))))) ?_
            · exact DOk.stepP (fun b => .val (.c (.d (.bool b))) (True)) (p:=(decide (0 < a1.1))) hp22 (fun r=>by kernel_rfl) (fun r=>by kernel_rfl) trivial (by kernel_rfl) (by kernel_rfl) (fun r=>rfl)
            · exact DOk.cA [] [.agg (cTime (a10.2.2.getD (0 + (IntKind.i64.wrap (a1.1 - 1)).toNat) default)),.agg (cTime (a10.2.2.getD (0 + a8.1.toNat) default))] (z1n hr27) fun r=>(.cons (.refl _) (.cons (.refl _) .nil))
            exact ⟨_,h,kr⟩
           ·refine Tri.dC [.a [1] [],.a [81] [],.m ⟨[(82,cD (.bool (decide (0 < a1.1))))],[]⟩ ⟨[(83,.c (.d (.bool false)))],[]⟩ [] [] [],.a [4,83] [],.a [0,83] [],.a [1,83] [],.a [83,86] [],.a [83,85,87] [],.a [83,88] [],.a [0,83] [],.a [13,83] [],.a [83,90,91] [],.a [83,92] [],.a [83,84,89,93] [],.a [83,94] [],.a [83,95] [],.a [83,96] []] [0,1,2,3,4,10,11,12,13,97] [5000] (z00 3) (.a (.a (.m ?_ (.a (.a (.a (.a (.a (.a (.a (.a (.a (.a (.a (.a (.a (.a .z))))))))))))))))) ?_
            · exact DOk.stepP (fun b => .val (.c (.d (.bool b))) (True)) (p:=(decide (0 < a1.1))) hp22 (fun r=>by kernel_rfl) (fun r=>by kernel_rfl) trivial (by kernel_rfl) (by kernel_rfl) (fun r=>rfl)
            exact ⟨_,h,kr⟩
         ·refine Tri.seqJ (fun (a28:Bool × Bool × Bool)=>⟨[(0,.c (oC 5000 3 a8.2.2)),(1,cD (dI a1.1)),(2,cD (dI a1.2.1)),(3,cD (dI a5.1)),(4,cD (.fn 74 [])),(10,cD (.bool a28.1)),(11,cD (.bool a28.2.1)),(12,cD (dI a5.2.1)),(13,cD (dI a8.1)),(75,cD (.bool a28.2.2))],[(5000,vL 3 z02 a8.2.2)]⟩) h (fun a28 h => ?_) (fun j29 h => ?_)
          ·refine Tri.condK h (fun h => ?_) (fun h => ?_)
           ·refine Tri.seqS ?_
            refine Tri.reg ?_
            refine At.sg 4 [0,1,2,3,4,10,11,12,13,76,77,78,79] [5000] (z00 4) ?_
            obtain ⟨r30,hr30,h⟩:=z04 h
            refine At.callL (nf:=0) (caps:=[]) (xs:=[.c (oC 5000 3 a8.2.2),cD (dI a1.1),cD (dI a1.2.1),cD (.fn 74 [])]) [(5000,5000)] [0,1,2,3,4,10,11,12,13] [] (s0:=⟨[(0,.c (oC 5000 3 a8.2.2)),(1,cD (dI a1.1)),(2,cD (dI a1.2.1)),(3,cD (dI a5.1)),(4,cD (.fn 74 [])),(10,cD (.bool a28.1)),(11,cD (.bool a28.2.1)),(12,cD (dI a5.2.1)),(13,cD (dI a8.1))],[]⟩) (z5a hr30) rfl rfl (by kernel_rfl) rfl (by kernel_rfl) (by kernel_rfl) (.ren rfl rfl (.flat (.refl _) rfl rfl (.flat (.refl _) rfl rfl (.flat (.refl _) rfl rfl .nil)))) ⟨⟨by kernel_rfl,by kernel_rfl⟩,trivial⟩ (by kernel_rfl) (by kernel_rfl) (by kernel_rfl) (by kernel_rfl) (by kernel_rfl) (by kernel_rfl) (by kernel_rfl) (by kernel_rfl) (by kernel_rfl) ⟨[(80,cD (.bool r30.1)),(0,.c (oC 5000 3 a8.2.2)),(1,cD (dI a1.1)),(2,cD (dI a1.2.1)),(3,cD (dI a5.1)),(4,cD (.fn 74 [])),(10,cD (.bool a28.1)),(11,cD (.bool a28.2.1)),(12,cD (dI a5.2.1)),(13,cD (dI a8.1))],[(5000,vL 3 z02 r30.2)]⟩ (by kernel_rfl) ?_
            obtain ⟨hc31,h⟩:=z03 h
            refine At.eqS ⟨[(80,cD (.bool r30.1)),(0,.c (oC 5000 3 r30.2)),(1,cD (dI a1.1)),(2,cD (dI a1.2.1)),(3,cD (dI a5.1)),(4,cD (.fn 74 [])),(10,cD (.bool a28.1)),(11,cD (.bool a28.2.1)),(12,cD (dI a5.2.1)),(13,cD (dI a8.1))],[(5000,vL 3 z02 r30.2)]⟩ (by simp only [oC,vL,hc31]) ?_
            refine At.done rfl ?_
            refine Tri.condK h (fun h => ?_) (fun h => ?_)
            ·refine Tri.ret ?_
             cases h
             exact RetAt.k
            ·refine Tri.kp [0,1,2,3,4,10,11,12,13] [5000] ?_
             refine Tri.skip ?_
             exact ⟨_,h,kr⟩
           ·refine Tri.kp [0,1,2,3,4,10,11,12,13] [5000] ?_
            refine Tri.skip ?_
            exact ⟨_,h,kr⟩
          ·refine Tri.reg ?_
           refine At.sg 2 [0,1,2,3,4,10,11,12,13,14,69] [5000] (z00 2) ?_
           refine At.cs [10,69] h (fun h => ?_) (fun h => ?_)
           ·refine At.sg 3 [0,1,2,3,4,10,11,12,13,14,72] [5000] (z00 3) ?_
            refine At.cs [11,72] h (fun h => ?_) (fun h => ?_)
            ·refine At.sg 3 [0,1,2,3,4,10,11,12,13,75] [5000] (z00 3) ?_
             refine At.done rfl ?_
             exact ⟨_,h,kr⟩
            ·refine At.sg 3 [0,1,2,3,4,10,11,12,13,75] [5000] (z00 1) ?_
             refine At.done rfl ?_
             exact ⟨_,h,kr⟩
           ·refine At.sg 6 [0,1,2,3,4,10,11,12,13,75] [5000] (z00 3) ?_
            refine At.done rfl ?_
            exact ⟨_,h,kr⟩
        ·refine Tri.sg [0,1,2,3,4,10,11,12,13,14,56] [5000] (z00 2) ?_
         refine Tri.condK h (fun h => ?_) (fun h => ?_)
         ·refine Tri.seqS ?_
          refine Tri.reg ?_
          refine At.sg 4 [0,1,2,3,4,10,11,12,13,57,58,59,60] [5000] (z00 4) ?_
          obtain ⟨r32,hr32,h⟩:=z04 h
          refine At.callL (nf:=0) (caps:=[]) (xs:=[.c (oC 5000 3 a5.2.2),cD (dI a1.1),cD (dI a1.2.1),cD (.fn 74 [])]) [(5000,5000)] [0,1,2,3,4,10,11,12,13] [] (s0:=⟨[(0,.c (oC 5000 3 a5.2.2)),(1,cD (dI a1.1)),(2,cD (dI a1.2.1)),(3,cD (dI a5.1)),(4,cD (.fn 74 [])),(10,cD (.bool a1.2.2.2.1)),(11,cD (.bool a1.2.2.2.2.1)),(12,cD (dI a5.2.1)),(13,cD (dI r7.1))],[]⟩) (z6m hr32) rfl rfl (by kernel_rfl) rfl (by kernel_rfl) (by kernel_rfl) (.ren rfl rfl (.flat (.refl _) rfl rfl (.flat (.refl _) rfl rfl (.flat (.refl _) rfl rfl .nil)))) ⟨⟨by kernel_rfl,by kernel_rfl⟩,trivial⟩ (by kernel_rfl) (by kernel_rfl) (by kernel_rfl) (by kernel_rfl) (by kernel_rfl) (by kernel_rfl) (by kernel_rfl) (by kernel_rfl) (by kernel_rfl) ⟨[(61,.tup []),(0,.c (oC 5000 3 a5.2.2)),(1,cD (dI a1.1)),(2,cD (dI a1.2.1)),(3,cD (dI a5.1)),(4,cD (.fn 74 [])),(10,cD (.bool a1.2.2.2.1)),(11,cD (.bool a1.2.2.2.2.1)),(12,cD (dI a5.2.1)),(13,cD (dI r7.1))],[(5000,vL 3 z02 r32)]⟩ (by kernel_rfl) ?_
          obtain ⟨hc33,h⟩:=z03 h
          refine At.eqS ⟨[(61,.tup []),(0,.c (oC 5000 3 r32)),(1,cD (dI a1.1)),(2,cD (dI a1.2.1)),(3,cD (dI a5.1)),(4,cD (.fn 74 [])),(10,cD (.bool a1.2.2.2.1)),(11,cD (.bool a1.2.2.2.2.1)),(12,cD (dI a5.2.1)),(13,cD (dI r7.1))],[(5000,vL 3 z02 r32)]⟩ (by simp only [oC,vL,hc33]) ?_
          refine At.done rfl ?_
          refine Tri.sg [0,1,2,3,4,10,11,12,13] [5000] (z00 7) ?_
          refine Tri.reg ?_
          refine At.sg 1 [0,1,2,3,4,10,11,12,13,14] [5000] (z00 1) ?_
          refine At.done rfl ?_
          exact ⟨_,h,kr⟩
         ·refine Tri.kp [0,1,2,3,4,10,11,12,13,14] [5000] ?_
          refine Tri.skip ?_
          exact ⟨_,h,kr⟩
       ·refine Tri.sg [0,1,2,3,4,10,11,12,39] [5000] (z00 2) ?_
        refine Tri.condK h (fun h => ?_) (fun h => ?_)
        ·refine Tri.seqS ?_
         refine Tri.reg ?_
         refine At.sg 4 [0,1,2,3,4,10,11,12,40,41,42,43] [5000] (z00 4) ?_
         obtain ⟨r34,hr34,h⟩:=z04 h
         refine At.callL (nf:=0) (caps:=[]) (xs:=[.c (oC 5000 3 a1.2.2.2.2.2),cD (dI a1.1),cD (dI a1.2.1),cD (.fn 74 [])]) [(5000,5000)] [0,1,2,3,4,10,11,12] [] (s0:=⟨[(0,.c (oC 5000 3 a1.2.2.2.2.2)),(1,cD (dI a1.1)),(2,cD (dI a1.2.1)),(3,cD (dI a1.2.2.1)),(4,cD (.fn 74 [])),(10,cD (.bool a1.2.2.2.1)),(11,cD (.bool a1.2.2.2.2.1)),(12,cD (dI (IntKind.i64.wrap (a1.2.1 - a1.1))))],[]⟩) (z69 hr34) rfl rfl (by kernel_rfl) rfl (by kernel_rfl) (by kernel_rfl) (.ren rfl rfl (.flat (.refl _) rfl rfl (.flat (.refl _) rfl rfl (.flat (.refl _) rfl rfl .nil)))) ⟨⟨by kernel_rfl,by kernel_rfl⟩,trivial⟩ (by kernel_rfl) (by kernel_rfl) (by kernel_rfl) (by kernel_rfl) (by kernel_rfl) (by kernel_rfl) (by kernel_rfl) (by kernel_rfl) (by kernel_rfl) ⟨[(44,.tup []),(0,.c (oC 5000 3 a1.2.2.2.2.2)),(1,cD (dI a1.1)),(2,cD (dI a1.2.1)),(3,cD (dI a1.2.2.1)),(4,cD (.fn 74 [])),(10,cD (.bool a1.2.2.2.1)),(11,cD (.bool a1.2.2.2.2.1)),(12,cD (dI (IntKind.i64.wrap (a1.2.1 - a1.1))))],[(5000,vL 3 z02 r34)]⟩ (by kernel_rfl) ?_
         obtain ⟨hc35,h⟩:=z03 h
         refine At.eqS ⟨[(44,.tup []),(0,.c (oC 5000 3 r34)),(1,cD (dI a1.1)),(2,cD (dI a1.2.1)),(3,cD (dI a1.2.2.1)),(4,cD (.fn 74 [])),(10,cD (.bool a1.2.2.2.1)),(11,cD (.bool a1.2.2.2.2.1)),(12,cD (dI (IntKind.i64.wrap (a1.2.1 - a1.1))))],[(5000,vL 3 z02 r34)]⟩ (by simp only [oC,vL,hc35]) ?_
         refine At.done rfl ?_
         refine Tri.reg ?_
         refine At.sg 3 [0,1,2,3,4,10,11,12] [5000] (z00 3) ?_
         refine At.done rfl ?_
         exact ⟨_,h,kr⟩
        ·refine Tri.kp [0,1,2,3,4,10,11,12] [5000] ?_
         refine Tri.skip ?_
         exact ⟨_,h,kr⟩
    ·intro a2 h
     cases h
    · exact fun x s hx hr=>by cases hx; exact hr
theorem z3t {fuel:Nat} {l0:List Time} {q:List Time} (h:z0r fuel l0=some q) :
  Summ Tryz.prog 113 [.c (oC 5000 3 l0),cD (.fn 74 [])] [(5000,vL 3 z02 l0)] (.tup []) [(5000,vL 3 z02 q)]:=by
 refine Summ.intro Tryz.func113 rfl (by kernel_rfl) (by kernel_rfl) [] rfl ?_
 rintro ⟨P,w0,G0,V,LL,lk,N, φ0,fx⟩ rfl rfl rfl rfl
 unfold z0r at h
 refine Tri.sg [0,1,4] [5000] (z00 3) ?_
 refine Tri.reg ?_
 refine At.sg 4 [1,7,8,10] [5000] (z00 4) ?_
 obtain ⟨r1,hr1,h⟩:=z04 h
 refine At.cA [] [cD (dU (IntKind.u64.wrap (l0.length:Int)))] (zb8 hr1) (.cons (.refl _) .nil) ?_
 refine At.sg 1 [7,8,11,12] [5000] (z00 1) ?_
 obtain ⟨r2,hr2,h⟩:=z04 h
 refine At.cL 0 [] [.c (oC 5000 3 l0),cD (dI 0),cD (dI (l0.length:Int)),cD (dI r1),cD (.fn 74 [])] [(5000,5000)] [] [] (z7a hr2) (.ren rfl rfl (.flat (.refl _) rfl rfl (.flat (.refl _) rfl rfl (.flat (.refl _) rfl rfl (.flat (.refl _) rfl rfl .nil))))) ?_
 refine At.keep [] [5000] (s':=⟨[],[(5000,vL 3 z02 r2)]⟩) (by kernel_rfl) ?_
 refine At.done rfl ?_
 cases h
 exact RetAt.k
theorem z45 {p0:Int} {p1:Int} {q:Int} (h:z5b p0 p1=some q) :
  Summ Tryz.prog 126 [cD (dU p0),cD (dU p1)] [] (cD (dU q)) []:=by
 refine Summ.intro Tryz.func126 rfl (by kernel_rfl) (by kernel_rfl) [] rfl ?_
 rintro ⟨P,w0,G0,V,LL,lk,N, φ0,fx⟩ rfl rfl rfl rfl
 unfold z5b at h
 refine Tri.sg [0,1] [] (z00 1) ?_
 refine Tri.sg [4] [] (z00 4) ?_
 refine Tri.ret ?_
 cases h
 exact RetAt.k
theorem zac {p1:List Time} {q:Time} (h:z2l p1=some q) :
    Summ Tryz.prog 125 [cD (.fn 126 []),.c (wC 3 z02 p1)] [] (.agg (cTime q)) []:=by
  refine Summ.intro Tryz.func125 rfl (by kernel_rfl) (by kernel_rfl) [] rfl ?_
  rintro ⟨P,w0,G0,V,LL,lk,N, φ0,fx⟩ rfl rfl rfl rfl
  unfold z2l at h
  refine Tri.sg [0,1,4] [4] (z00 1) ?_
  refine Tri.seqS ?_
  refine Tri.sg [0,4,8,9,10] [4] (z00 3) ?_
  refine Tri.ln 8 p1.length fun hlena2 => ?_
  refine Tri.rK 10 (⟨0,(0,0)⟩:Time) (fun (x:Empty) s=>False) (fun (a2:Time)=>⟨[(0,cD (.fn 126 [])),(4,.c (.ptr 4 0)),(8,.c (wC 3 z02 p1)),(9,cD (dI (p1.length:Int)))],[(4,.box (cTime a2))]⟩) [10,0,4,8,9] [4] [11,10,0,4,8,9] [4] [0,4,8,9] [4] [10,0,4,8,9] [4] h hlena2 ?_ ?_ ?_
  ·intro i1 a2 c hii1 h
   refine Tri.sg [0,4,5,6,8,9,10] [4,6] (tN 1 (ai (show ((0:Int)≤((i1:Nat):Int)∧((i1:Nat):Int) < (p1.length:Int)) from ⟨by omega,by omega⟩) (z00 4))) ?_
   refine Tri.seqJ (fun (a4:Time)=>⟨[(0,cD (.fn 126 [])),(4,.c (.ptr 4 0)),(6,.c (.ptr 6 0)),(8,.c (wC 3 z02 p1)),(9,cD (dI (p1.length:Int))),(10,cD (dI ((i1:Nat):Int)))],[(4,.box (cTime a4)),(6,.box (cTime (p1.getD i1 default)))]⟩) h (fun a4 h => ?_) (fun j5 h => ?_)
   ·refine Tri.seqS ?_
    refine Tri.reg ?_
    refine At.sg 5 [0,4,6,8,9,10,18,20,22] [4,6] (z00 5) ?_
    obtain ⟨r6,hr6,h⟩:=z04 h
    refine At.cA [] [cD (dU a4.epoch),cD (dU ((p1.getD i1 default).epoch))] (z45 hr6) (.cons (.refl _) (.cons (.refl _) .nil)) ?_
    refine At.sg 2 [0,4,6,8,9,10] [4,6] (z00 2) ?_
    refine At.done rfl ?_
    refine Tri.sg [0,4,6,8,9,10,25] [4,6] (z00 1) ?_
    refine Tri.rK 25 (⟨r6,a4.loop⟩:Time) (fun (x:Empty) s=>False) (fun (a8:Time)=>⟨[(0,cD (.fn 126 [])),(4,.c (.ptr 4 0)),(6,.c (.ptr 6 0)),(8,.c (wC 3 z02 p1)),(9,cD (dI (p1.length:Int))),(10,cD (dI ((i1:Nat):Int)))],[(4,.box (cTime a8)),(6,.box (cTime (p1.getD i1 default)))]⟩) [25,0,4,6,8,9,10] [4,6] [26,25,0,4,6,8,9,10] [4,6] [10,0,4,8,9] [4] [25,0,4,6,8,9,10] [4,6] h (by unfold maxN; omega) ?_ ?_ ?_
    ·intro i7 a8 c hii7 h
     rcases i7 with _ | i7
     ·refine Tri.sg [0,4,6,7,8,9,10,25] [4,6] (z00 2) ?_
      obtain ⟨r10,hr10,h⟩:=z04 h
      refine Tri.dC [.a [7] [],.a [0] [],.a [7] [],.a [4] [],.a [30,31] [4],.a [32] [4],.a [7] [],.a [6] [],.a [34,35] [6],.a [36] [6],.m ⟨[(29,cD (.fn 126 [])),(33,cD (dU a8.loop.1)),(37,cD (dU ((p1.getD i1 default).loop.1)))],[]⟩ ⟨[(38,cD (dU r10))],[]⟩ [] [] [],.a [4] [],.a [28,39] [4],.m ⟨[(38,cD (dU r10)),(40,.c (.ptr 4 1))],[(4,.box (cTime a8))]⟩ ⟨[],[(4,.box [.d (dU a8.epoch),.d (dU r10),.d (dU a8.loop.2)])]⟩ [] [] []] [25,0,4,6,8,9,10] [4,6] (z00 12) (.a (.a (.a (.a (.a (.a (.a (.a (.a (.a (.m ?_ (.a (.a (.m ?_ .z)))))))))))))) ?_
      · exact DOk.cA [] [cD (dU a8.loop.1),cD (dU ((p1.getD i1 default).loop.1))] (z45 hr10) fun r=>(.cons (.refl _) (.cons (.refl _) .nil))
      · exact DOk.step (.turn 4 (.box [.d (dU a8.epoch),.d (dU r10),.d (dU a8.loop.2)])) (fun r=>by kernel_rfl) (fun r=>by kernel_rfl) trivial (by kernel_rfl) (by kernel_rfl) (fun r=>rfl)
      cases h
      exact kr
     rcases i7 with _ | i7
     ·refine Tri.sg [0,4,6,7,8,9,10,25] [4,6] (z00 2) ?_
      obtain ⟨r11,hr11,h⟩:=z04 h
      refine Tri.dC [.a [7] [],.a [0] [],.a [7] [],.a [4] [],.a [30,31] [4],.a [32] [4],.a [7] [],.a [6] [],.a [34,35] [6],.a [36] [6],.m ⟨[(29,cD (.fn 126 [])),(33,cD (dU a8.loop.2)),(37,cD (dU ((p1.getD i1 default).loop.2)))],[]⟩ ⟨[(38,cD (dU r11))],[]⟩ [] [] [],.a [4] [],.a [28,39] [4],.m ⟨[(38,cD (dU r11)),(40,.c (.ptr 4 2))],[(4,.box (cTime a8))]⟩ ⟨[],[(4,.box [.d (dU a8.epoch),.d (dU a8.loop.1),.d (dU r11)])]⟩ [] [] []] [25,0,4,6,8,9,10] [4,6] (z00 12) (.a (.a (.a (.a (.a (.a (.a (.a (.a (.a (.m ?_ (.a (.a (.m ?_ .z)))))))))))))) ?_
      · exact DOk.cA [] [cD (dU a8.loop.2),cD (dU ((p1.getD i1 default).loop.2))] (z45 hr11) fun r=>(.cons (.refl _) (.cons (.refl _) .nil))
      · exact DOk.step (.turn 4 (.box [.d (dU a8.epoch),.d (dU a8.loop.1),.d (dU r11)])) (fun r=>by kernel_rfl) (fun r=>by kernel_rfl) trivial (by kernel_rfl) (by kernel_rfl) (fun r=>rfl)
      cases h
      exact kr
     exact absurd hii7 (by omega)
    ·intro a9 h
     cases h
     exact kr
    · exact fun x=>x.elim
   ·refine Tri.sg [0,4,6,8,9,10,16] [4,6] (z00 2) ?_
    refine Tri.condK h (fun h => ?_) (fun h => ?_)
    ·refine Tri.reg ?_
     refine At.sg 2 [0,4,6,8,9,10] [4,6] (z00 2) ?_
     refine At.done rfl ?_
     exact ⟨_,h,kr⟩
    ·refine Tri.kp [0,4,6,8,9,10] [4,6] ?_
     refine Tri.skip ?_
     exact ⟨_,h,kr⟩
  ·intro a3 h
   refine Tri.sg [4] [4] (z00 2) ?_
   refine Tri.ret ?_
   cases h
   exact RetAt.k
  · exact fun x=>x.elim
theorem zfx {p0:List Time} {q:Time} (h:z5k p0=some q) :
  Summ Tryz.prog 96 [.c (wC 3 z02 p0)] [] (.agg (cTime q)) []:=by
 refine Summ.intro Tryz.func96 rfl (by kernel_rfl) (by kernel_rfl) [] rfl ?_
 rintro ⟨P,w0,G0,V,LL,lk,N, φ0,fx⟩ rfl rfl rfl rfl
 unfold z5k at h
 refine Tri.sg [0,2] [2] (z00 1) ?_
 refine Tri.seqS ?_
 refine Tri.reg ?_
 refine At.sg 1 [2,3] [2] (z00 1) ?_
 obtain ⟨r1,hr1,h⟩:=z04 h
 refine At.cA [] [cD (.fn 126 []),.c (wC 3 z02 p0)] (zac hr1) (.cons (.refl _) (.cons (.refl _) .nil)) ?_
 refine At.sg 1 [2] [2] (z00 1) ?_
 refine At.done rfl ?_
 refine Tri.ret ?_
 cases h
 exact RetAt.k
theorem zh4 {p0:Time} {p1:Time} {q:Bool} (h:z7w p0 p1=some q) :
  Summ Tryz.prog 64 [.agg (cTime p0),.agg (cTime p1)] [] (cD (.bool q)) []:=by
 refine Summ.intro Tryz.func64 rfl (by kernel_rfl) (by kernel_rfl) [] rfl ?_
 rintro ⟨P,w0,G0,V,LL,lk,N, φ0,fx⟩ rfl rfl rfl rfl
 unfold z7w at h
 refine Tri.sg [2,3] [2,3] (z00 3) ?_
 refine Tri.seqS ?_
 obtain ⟨r1,hr1,h⟩:=z04 h
 refine Tri.dC [.a [2] [2],.a [3] [3],.m ⟨[(5,.agg (cTime p0)),(6,.agg (cTime p1))],[]⟩ ⟨[(7,.c (oC 7 3 ([p0,p1]:List Time)))],[(7,vL 3 z02 ([p0,p1]:List Time))]⟩ [7] [] [],.m ⟨[(7,.c (oC 7 3 ([p0,p1]:List Time)))],[(7,vL 3 z02 ([p0,p1]:List Time))]⟩ ⟨[(8,.agg (cTime r1))],[]⟩ [] [] [],.a [3] [3],.m ⟨[(8,.agg (cTime r1)),(9,.agg (cTime p1))],[]⟩ ⟨[(10,cD (.bool (z0j r1 p1)))],[]⟩ [] [] [],.a [10] []] [4] [] (z00 4) (.a (.a (.m ?_ (.m ?_ (.a (.m ?_ (.a .z))))))) ?_
 ·exact DOk.one fun r hr=>One.buildT (e:=54) (es:=3) (z:=[.d (dU 0),.d (dU 0),.d (dU 0)]) (cells:=[.d (dU p0.epoch),.d (dU p0.loop.1),.d (dU p0.loop.2),.d (dU p1.epoch),.d (dU p1.loop.1),.d (dU p1.loop.2)]) (z02) ([p0,p1]:List Time) rfl (by kernel_rfl) rfl rfl (St.noRef_app (by kernel_rfl) (hr 7 (by simp))) (by kernel_rfl) rfl (by kernel_rfl) rfl rfl rfl (by kernel_rfl) rfl ⟨⟨rfl,.refl _⟩,⟨rfl,.refl _⟩,trivial⟩
 ·exact DOk.cA [] [.c (oC 7 3 ([p0,p1]:List Time))] (zfx hr1) fun r=>(.cons (AVArg.view (z02) ([p0,p1]:List Time) rfl) .nil)
 ·exact DOk.one fun r _=>One.eql (b:=(z0j r1 p1)) (d:=9) rfl (by kernel_rfl) rfl (.inl rfl) rfl rfl (by kernel_rfl) rfl (by kernel_rfl)
 refine Tri.ret ?_
 cases h
 exact RetAt.k
theorem zaa {p0:Time} {p1:Time} {q:Bool} (h:z6j p0 p1=some q) :
  Summ Tryz.prog 63 [.agg (cTime p0),cD (.cptr [dU p1.epoch,dU p1.loop.1,dU p1.loop.2])] [] (cD (.bool q)) []:=by
 refine Summ.intro Tryz.func63 rfl (by kernel_rfl) (by kernel_rfl) [] rfl ?_
 rintro ⟨P,w0,G0,V,LL,lk,N, φ0,fx⟩ rfl rfl rfl rfl
 unfold z6j at h
 refine Tri.le [] (fun k hk=>by cases hk) ⟨[(0,.agg (cTime p0)),(1,.c (.eptr [dU p1.epoch,dU p1.loop.1,dU p1.loop.2]))],[]⟩ ⟨⟨_,rfl,.refl _⟩,⟨_,rfl,.c (.cptrE _)⟩,trivial⟩ trivial ?_
 refine Tri.sg [1,2] [2] (z00 2) ?_
 refine Tri.seqS ?_
 refine Tri.reg ?_
 refine At.sg 2 [4,5] [] (z00 2) ?_
 obtain ⟨r1,hr1,h⟩:=z04 h
 refine At.cA [] [.agg (cTime p0),.agg (cTime p1)] (zh4 hr1) (.cons (.refl _) (.cons (.refl _) .nil)) ?_
 refine At.sg 1 [3] [] (z00 1) ?_
 refine At.done rfl ?_
 refine Tri.ret ?_
 cases h
 exact RetAt.k
theorem z3l {p0:List Time} {p1_0:Time} {q:Int} (h:z0f p0 p1_0=some q) :
    Summ Tryz.prog 89 [.c (wC 3 z02 p0),cD (.fn 63 [.cptr [dU p1_0.epoch,dU p1_0.loop.1,dU p1_0.loop.2]])] [] (cD (dI q)) []:=by
  refine Summ.intro Tryz.func89 rfl (by kernel_rfl) (by kernel_rfl) [] rfl ?_
  rintro ⟨P,w0,G0,V,LL,lk,N, φ0,fx⟩ rfl rfl rfl rfl
  unfold z0f at h
  refine Tri.sg [0,1] [] (z00 1) ?_
  refine Tri.seqS ?_
  refine Tri.sg [0,1,7,8] [] (z00 3) ?_
  refine Tri.ln 0 p0.length fun hlena2 => ?_
  refine Tri.rK 8 () (fun (x:Int) s=>RetAt Tryz.prog Tryz.f89 (cD (dI x)) [] s) (fun (a2:Unit)=>⟨[(0,.c (wC 3 z02 p0)),(1,cD (.fn 63 [.cptr [dU p1_0.epoch,dU p1_0.loop.1,dU p1_0.loop.2]])),(7,cD (dI (p0.length:Int)))],[]⟩) [8,0,1,7] [] [9,8,0,1,7] [] [0,1,7] [] [8,0,1,7] [] h hlena2 ?_ ?_ ?_
  ·intro i1 a2 c hii1 h
   refine Tri.sg [0,1,5,7,8] [] (z00 2) ?_
   refine Tri.seqS ?_
   refine Tri.reg ?_
   refine At.sg 5 [0,1,5,7,8,11,15] [] (tN 3 (ai (show ((0:Int)≤((i1:Nat):Int)∧((i1:Nat):Int) < (p0.length:Int)) from ⟨by omega,by omega⟩) (z00 1))) ?_
   obtain ⟨r4,hr4,h⟩:=z04 h
   refine At.cA [.cptr [dU p1_0.epoch,dU p1_0.loop.1,dU p1_0.loop.2]] [.agg (cTime (p0.getD i1 default)),cD (.cptr [dU p1_0.epoch,dU p1_0.loop.1,dU p1_0.loop.2])] (zaa hr4) (.cons (.refl _) (.cons (.refl _) .nil)) ?_
   refine At.done rfl ?_
   refine Tri.condK h (fun h => ?_) (fun h => ?_)
   ·refine Tri.sg [4] [] (z00 2) ?_
    refine Tri.ret ?_
    cases h
    exact RetAt.k
   ·refine Tri.kp [8,0,1,7] [] ?_
    refine Tri.skip ?_
    cases h
    exact kr
  ·intro a3 h
   refine Tri.sg [4] [] (z00 1) ?_
   refine Tri.ret ?_
   cases h
   exact RetAt.k
  · exact fun x s hx hr=>by cases hx; exact hr
theorem z38 {p0:List Time} {p1_0:Time} {q:Bool} (h:z0d p0 p1_0=some q) :
  Summ Tryz.prog 51 [.c (wC 3 z02 p0),cD (.fn 63 [.cptr [dU p1_0.epoch,dU p1_0.loop.1,dU p1_0.loop.2]])] [] (cD (.bool q)) []:=by
 refine Summ.intro Tryz.func51 rfl (by kernel_rfl) (by kernel_rfl) [] rfl ?_
 rintro ⟨P,w0,G0,V,LL,lk,N, φ0,fx⟩ rfl rfl rfl rfl
 unfold z0d at h
 refine Tri.sg [0,1] [] (z00 1) ?_
 refine Tri.seqS ?_
 refine Tri.reg ?_
 refine At.sg 2 [5,6] [] (z00 2) ?_
 obtain ⟨r1,hr1,h⟩:=z04 h
 refine At.cA [] [.c (wC 3 z02 p0),cD (.fn 63 [.cptr [dU p1_0.epoch,dU p1_0.loop.1,dU p1_0.loop.2]])] (z3l hr1) (.cons (.refl _) (.cons (.refl _) .nil)) ?_
 refine At.sg 2 [4] [] (z00 2) ?_
 refine At.done rfl ?_
 refine Tri.ret ?_
 cases h
 exact RetAt.k
theorem ze5 {p0:List Time} {p1:Time} {q:Bool} (h:z4m p0 p1=some q) :
  Summ Tryz.prog 30 [.c (wC 3 z02 p0),.agg (cTime p1)] [] (cD (.bool q)) []:=by
 refine Summ.intro Tryz.func30 rfl (by kernel_rfl) (by kernel_rfl) [] rfl ?_
 rintro ⟨P,w0,G0,V,LL,lk,N, φ0,fx⟩ rfl rfl rfl rfl
 unfold z4m at h
 refine Tri.sg [0,3] [3] (z00 2) ?_
 refine Tri.seqS ?_
 refine Tri.reg ?_
 refine At.seg 1 [3,5] [3] (s':=⟨[(3,.c (.ptr 3 0)),(5,.c (wC 3 z02 p0))],[(3,.box (cTime p1))]⟩) (by kernel_rfl) (z00 1) ?_
 refine At.le [3] (fun k hk h=>by first | (cases h; done) | (simp at hk h; omega)) ⟨[(3,cD (.cptr [dU p1.epoch,dU p1.loop.1,dU p1.loop.2])),(5,.c (wC 3 z02 p0))],[]⟩ ⟨⟨_,rfl,.c (.box (ds:=[dU p1.epoch,dU p1.loop.1,dU p1.loop.2]) rfl (by simp))⟩,⟨_,rfl,.refl _⟩,trivial⟩ trivial ?_
 refine At.seg 1 [6,3,5] [] (s':=⟨[(6,cD (.fn 63 [.cptr [dU p1.epoch,dU p1.loop.1,dU p1.loop.2]])),(3,cD (.cptr [dU p1.epoch,dU p1.loop.1,dU p1.loop.2])),(5,.c (wC 3 z02 p0))],[]⟩) (by kernel_rfl) (z00 1) ?_
 refine At.le [] (fun k hk=>by cases hk) ⟨[(6,cD (.fn 63 [.cptr [dU p1.epoch,dU p1.loop.1,dU p1.loop.2]])),(3,.c (.eptr [dU p1.epoch,dU p1.loop.1,dU p1.loop.2])),(5,.c (wC 3 z02 p0))],[]⟩ ⟨⟨_,rfl,.refl _⟩,⟨_,rfl,.c (.cptrE _)⟩,⟨_,rfl,.refl _⟩,trivial⟩ trivial ?_
 obtain ⟨r1,hr1,h⟩:=z04 h
 refine At.cA [] [.c (wC 3 z02 p0),cD (.fn 63 [.cptr [dU p1.epoch,dU p1.loop.1,dU p1.loop.2]])] (z38 hr1) (.cons (.refl _) (.cons (.refl _) .nil)) ?_
 refine At.sg 1 [4] [] (z00 1) ?_
 refine At.done rfl ?_
 refine Tri.ret ?_
 cases h
 exact RetAt.k
theorem zgs {fuel:Nat} {p0:List Time} {q:List Time} (h:z7z fuel p0=some q) :
    Summ Tryz.prog 76 [cD (lD 3 z02 p0)] [] (cD (lD 3 z02 q)) []:=by
  refine Summ.intro Tryz.func76 rfl (by kernel_rfl) (by kernel_rfl) [] rfl ?_
  rintro ⟨P,w0,G0,V,LL,lk,N, φ0,fx⟩ rfl rfl rfl rfl
  unfold z7z at h
  refine Tri.sg [0] [] (z00 1) ?_
  refine Tri.seqS ?_
  refine Tri.reg ?_
  refine At.sg 1 [6] [] (z00 1) ?_
  obtain ⟨r1,hr1,h⟩:=z04 h
  refine At.cL 0 [] [cD (lD 3 z02 p0)] [(6000,30112)] [] [] (z4u hr1) (.flat (.refl _) rfl rfl .nil) ?_
  refine At.sg 1 [0] [30112] (z00 1) ?_
  refine At.done rfl ?_
  refine Tri.seqS ?_
  refine Tri.reg ?_
  refine At.sg 1 [0,8] [30112] (z00 1) ?_
  obtain ⟨r2,hr2,h⟩:=z04 h
  refine At.callL (nf:=0) (caps:=[]) (xs:=[.c (oC 30112 3 r1),cD (.fn 74 [])]) [(5000,30112)] [0] [] (s0:=⟨[(0,.c (oC 30112 3 r1))],[]⟩) (z3t hr2) rfl rfl (by kernel_rfl) rfl (by kernel_rfl) (by kernel_rfl) (.ren rfl rfl (.flat (.refl _) rfl rfl .nil)) ⟨⟨by kernel_rfl,by kernel_rfl⟩,trivial⟩ (by kernel_rfl) (by kernel_rfl) (by kernel_rfl) (by kernel_rfl) (by kernel_rfl) (by kernel_rfl) (by kernel_rfl) (by kernel_rfl) (by kernel_rfl) ⟨[(9,.tup []),(0,.c (oC 30112 3 r1))],[(30112,vL 3 z02 r2)]⟩ (by kernel_rfl) ?_
  obtain ⟨hc3,h⟩:=z03 h
  refine At.eqS ⟨[(9,.tup []),(0,.c (oC 30112 3 r2))],[(30112,vL 3 z02 r2)]⟩ (by simp only [oC,vL,hc3]) ?_
  refine At.done rfl ?_
  refine Tri.sg [0,3] [30112] (z00 1) ?_
  refine Tri.seqS ?_
  refine Tri.segL [3,10,11,12] [30112] ⟨[(3,.c (.zero)),(10,.c (oC 30112 3 r2)),(11,cD (dI (r2.length:Int))),(12,cD (dI 0))],[(30112,vL 3 z02 r2)]⟩ _ (by kernel_rfl) (z00 3) ?_
  refine Tri.lenOfO (t:=10) rfl rfl (Nat.le_refl _) fun hlena5 => ?_
  refine Tri.newOwn (t:=3) (k:=1003) (es:=3) (fun i=>z02 (([]:List Time).getD i default)) rfl rfl rfl ?_
  refine Tri.rK 12 ([]:List Time) (fun (x:Empty) s=>False) (fun (a5:List Time)=>⟨[(3,.c (oC 1003 3 a5)),(10,.c (oC 30112 3 r2)),(11,cD (dI (r2.length:Int)))],[(1003,vL 3 z02 a5),(30112,vL 3 z02 r2)]⟩) [12,3,10,11] [1003,30112] [13,12,3,10,11] [1003,30112] [3,10,11] [1003,30112] [12,3,10,11] [1003,30112] h hlena5 ?_ ?_ ?_
  ·intro i4 a5 c hii4 h
   obtain ⟨hc7,h⟩:=z03 h
   refine Tri.sg [3,5,10,11,12] [5,1003,30112] (ai (show ((0:Int)≤((i4:Nat):Int)∧((i4:Nat):Int) < (r2.length:Int)) from ⟨by omega,by omega⟩) (ai hc7 (z00 2))) ?_
   refine Tri.seqS ?_
   refine Tri.reg ?_
   refine At.seg 2 [3,5,10,11,12,16,17] [5,1003,30112] (s':=⟨[(3,.c (oC 1003 3 a5)),(5,.c (.ptr 5 0)),(10,.c (oC 30112 3 r2)),(11,cD (dI (r2.length:Int))),(12,cD (dI ((i4:Nat):Int))),(16,.c (oC 1003 3 a5)),(17,.agg (cTime (r2.getD (0 + i4) default)))],[(5,.box (cTime (r2.getD (0 + i4) default))),(1003,vL 3 z02 a5),(30112,vL 3 z02 r2)]⟩) (by kernel_rfl) (z00 2) ?_
   obtain ⟨r8,hr8,h⟩:=z04 h
   refine At.cA [] [.c (oC 1003 3 a5),.agg (cTime (r2.getD (0 + i4) default))] (ze5 hr8) (.cons (AVArg.view (z02) a5 rfl) (.cons (.refl _) .nil)) ?_
   refine At.sg 1 [3,5,10,11,12,19] [5,1003,30112] (z00 1) ?_
   refine At.done rfl ?_
   refine Tri.condK h (fun h => ?_) (fun h => ?_)
   ·refine Tri.reg ?_
    refine At.seg 2 [10,11,12,20,21] [1003,30112] (s':=⟨[(10,.c (oC 30112 3 r2)),(11,cD (dI (r2.length:Int))),(12,cD (dI ((i4:Nat):Int))),(20,.c (oC 1003 3 a5)),(21,.agg (cTime (r2.getD (0 + i4) default)))],[(1003,vL 3 z02 a5),(30112,vL 3 z02 r2)]⟩) (by kernel_rfl) (z00 2) ?_
    refine At.one rfl (One.buildSlice (z:=[.d (dU 0),.d (dU 0),.d (dU 0)]) (cells:=[.d (dU ((r2.getD (0 + i4) default).epoch)),.d (dU ((r2.getD (0 + i4) default).loop.1)),.d (dU ((r2.getD (0 + i4) default).loop.2))]) (xs:=List.map (z02) ([(r2.getD (0 + i4) default)]:List Time)) rfl rfl rfl rfl (by kernel_rfl) rfl rfl (by kernel_rfl) rfl rfl rfl (by kernel_rfl) rfl ⟨⟨rfl,.refl _⟩,trivial⟩) ?_
    refine At.le [22] (fun k hk h=>by first | (cases h; done) | (simp at hk h; omega)) ⟨[(22,cD (lD 3 z02 ([(r2.getD (0 + i4) default)]:List Time))),(10,.c (oC 30112 3 r2)),(11,cD (dI (r2.length:Int))),(12,cD (dI ((i4:Nat):Int))),(20,.c (oC 1003 3 a5)),(21,.agg (cTime (r2.getD (0 + i4) default)))],[(1003,vL 3 z02 a5),(30112,vL 3 z02 r2)]⟩ ⟨⟨_,rfl,.c (.own rfl (List.mem_singleton.2 rfl) (Nat.le_of_ble_eq_true rfl) rfl (z1z (z02) ([(r2.getD (0 + i4) default)]:List Time)))⟩,⟨_,rfl,.refl _⟩,⟨_,rfl,.refl _⟩,⟨_,rfl,.refl _⟩,⟨_,rfl,.refl _⟩,⟨_,rfl,.refl _⟩,trivial⟩ ⟨⟨_,rfl,.refl _,(by simp)⟩,⟨_,rfl,.refl _,(by simp)⟩,trivial⟩ ?_
    obtain ⟨hc9,h⟩:=z03 h
    refine At.one rfl (One.appendT (e:=54) (es:=3) (z02) a5 ([(r2.getD (0 + i4) default)]:List Time) rfl rfl rfl rfl rfl (.of 54 24 [.d (dU 0),.d (dU 0),.d (dU 0)] (by kernel_rfl) (by kernel_rfl) (by kernel_rfl) (by kernel_rfl) rfl (by kernel_rfl) rfl) rfl rfl rfl (.list rfl (fun _ _=>rfl)) hc9) ?_
    refine At.sg 1 [12,3,10,11] [1003,30112] (z00 1) ?_
    refine At.done rfl ?_
    cases h
    exact kr
   ·refine Tri.kp [12,3,10,11] [1003,30112] ?_
    refine Tri.skip ?_
    cases h
    exact kr
  ·intro a6 h
   refine Tri.sg [2] [1003] (z00 2) ?_
   refine Tri.keep [2] [1003] (s':=⟨[(2,.c (oC 1003 3 a6))],[(1003,vL 3 z02 a6)]⟩) (by kernel_rfl) ?_
   refine Tri.le [1003] (fun k hk h=>by first | (cases h; done) | (simp at hk h; omega)) ⟨[(2,cD (lD 3 z02 a6))],[]⟩ ⟨⟨_,rfl,.c (CLe.frozen (z02) a6 rfl (by simp))⟩,trivial⟩ trivial ?_
   refine Tri.ret ?_
   cases h
   exact RetAt.k
  · exact fun x=>x.elim
theorem z59 {p0:List Time} {p1:List Time} {q:Bool} (h:z19 p0 p1=some q) :
    Summ Tryz.prog 75 [cD (lD 3 z02 p0),cD (lD 3 z02 p1)] [] (cD (.bool q)) []:=by
  refine Summ.intro Tryz.func75 rfl (by kernel_rfl) (by kernel_rfl) [] rfl ?_
  rintro ⟨P,w0,G0,V,LL,lk,N, φ0,fx⟩ rfl rfl rfl rfl
  unfold z19 at h
  refine Tri.sg [0,1] [] (z00 1) ?_
  refine Tri.seqS ?_
  refine Tri.sg [0,1,10] [] (z00 5) ?_
  refine Tri.condK h (fun h => ?_) (fun h => ?_)
  ·refine Tri.sg [4] [] (z00 1) ?_
   refine Tri.ret ?_
   cases h
   exact RetAt.k
  ·refine Tri.skip ?_
   refine Tri.seqS ?_
   refine Tri.sg [0,1,12,13] [] (z00 3) ?_
   refine Tri.ln 0 p0.length fun hlena2 => ?_
   refine Tri.rK 13 () (fun (x:Bool) s=>RetAt Tryz.prog Tryz.f75 (cD (.bool x)) [] s) (fun (a2:Unit)=>⟨[(0,cD (lD 3 z02 p0)),(1,cD (lD 3 z02 p1)),(12,cD (dI (p0.length:Int)))],[]⟩) [13,0,1,12] [] [14,13,0,1,12] [] [0,1,12] [] [13,0,1,12] [] h hlena2 ?_ ?_ ?_
   ·intro i1 a2 c hii1 h
    refine Tri.sg [0,1,5,12,13] [] (z00 2) ?_
    refine Tri.seqS ?_
    obtain ⟨hc4,h⟩:=z03 h
    refine Tri.dC [.a [0] [],.a [5] [],.a [16,17] [],.a [18] [],.a [1] [],.a [5] [],.a [20,21] [],.a [22] [],.m ⟨[(19,.agg (cTime (p0.getD i1 default))),(23,.agg (cTime (p1.getD i1 default)))],[]⟩ ⟨[(24,cD (.bool (!(z0j (p0.getD i1 default) (p1.getD i1 default)))))],[]⟩ [] [] []] [0,1,12,13,24] [] (tN 2 (ai (show ((0:Int)≤((i1:Nat):Int)∧((i1:Nat):Int) < (p0.length:Int)) from ⟨by omega,by omega⟩) (tN 3 (ai hc4 (z00 1))))) (.a (.a (.a (.a (.a (.a (.a (.a (.m ?_ .z))))))))) ?_
    · exact DOk.one fun r _=>One.eql (b:=(z0j (p0.getD i1 default) (p1.getD i1 default))) (d:=9) rfl (by kernel_rfl) rfl (.inr rfl) rfl rfl (by kernel_rfl) rfl (by kernel_rfl)
    refine Tri.condK h (fun h => ?_) (fun h => ?_)
    ·refine Tri.sg [4] [] (z00 1) ?_
     refine Tri.ret ?_
     cases h
     exact RetAt.k
    ·refine Tri.kp [13,0,1,12] [] ?_
     refine Tri.skip ?_
     cases h
     exact kr
   ·intro a3 h
    refine Tri.sg [4] [] (z00 1) ?_
    refine Tri.ret ?_
    cases h
    exact RetAt.k
   · exact fun x s hx hr=>by cases hx; exact hr
theorem z81 {fuel:Nat} {p0:List Time} {q:Bool} (h:z5s fuel p0=some q) :
    Summ Tryz.prog 38 [cD (lD 3 z02 p0)] [] (cD (.bool q)) []:=by
  refine Summ.intro Tryz.func38 rfl (by kernel_rfl) (by kernel_rfl) [] rfl ?_
  rintro ⟨P,w0,G0,V,LL,lk,N, φ0,fx⟩ rfl rfl rfl rfl
  unfold z5s at h
  refine Tri.sg [0] [] (z00 1) ?_
  refine Tri.seqJ (fun (a1:Bool)=>⟨[(2,cD (.bool a1))],[]⟩) h (fun a1 h => ?_) (fun j2 h => ?_)
  ·refine Tri.ret ?_
   cases h
   exact RetAt.k
  ·refine Tri.reg ?_
   refine At.sg 1 [0,3] [] (z00 1) ?_
   obtain ⟨r3,hr3,h⟩:=z04 h
   refine At.cA [] [cD (lD 3 z02 p0)] (zgj hr3) (.cons (.refl _) .nil) ?_
   refine At.sg 2 [0,6] [] (z00 2) ?_
   refine At.cs [6] h (fun h => ?_) (fun h => ?_)
   ·refine At.sg 1 [0,6,7] [] (z00 1) ?_
    obtain ⟨r4,hr4,h⟩:=z04 h
    refine At.cA [] [cD (lD 3 z02 p0)] (zgs hr4) (.cons (.refl _) .nil) ?_
    refine At.sg 1 [6,8,9] [] (z00 1) ?_
    obtain ⟨r5,hr5,h⟩:=z04 h
    refine At.cA [] [cD (lD 3 z02 r4),cD (lD 3 z02 p0)] (z59 hr5) (.cons (.refl _) (.cons (.refl _) .nil)) ?_
    refine At.sg 2 [2] [] (z00 2) ?_
    refine At.done rfl ?_
    exact ⟨_,h,kr⟩
   ·refine At.sg 6 [2] [] (z00 2) ?_
    refine At.done rfl ?_
    exact ⟨_,h,kr⟩
theorem zb5 {p1:List Time} {q:Time} (h:z2l p1=some q) :
    Summ Tryz.prog 125 [cD (.fn 126 []),cD (lD 3 z02 p1)] [] (.agg (cTime q)) []:=by
  refine Summ.intro Tryz.func125 rfl (by kernel_rfl) (by kernel_rfl) [] rfl ?_
  rintro ⟨P,w0,G0,V,LL,lk,N, φ0,fx⟩ rfl rfl rfl rfl
  unfold z2l at h
  refine Tri.sg [0,1,4] [4] (z00 1) ?_
  refine Tri.seqS ?_
  refine Tri.sg [0,4,8,9,10] [4] (z00 3) ?_
  refine Tri.ln 8 p1.length fun hlena2 => ?_
  refine Tri.rK 10 (⟨0,(0,0)⟩:Time) (fun (x:Empty) s=>False) (fun (a2:Time)=>⟨[(0,cD (.fn 126 [])),(4,.c (.ptr 4 0)),(8,cD (lD 3 z02 p1)),(9,cD (dI (p1.length:Int)))],[(4,.box (cTime a2))]⟩) [10,0,4,8,9] [4] [11,10,0,4,8,9] [4] [0,4,8,9] [4] [10,0,4,8,9] [4] h hlena2 ?_ ?_ ?_
  ·intro i1 a2 c hii1 h
   refine Tri.sg [0,4,5,6,8,9,10] [4,6] (tN 1 (ai (show ((0:Int)≤((i1:Nat):Int)∧((i1:Nat):Int) < (p1.length:Int)) from ⟨by omega,by omega⟩) (z00 4))) ?_
   refine Tri.seqJ (fun (a4:Time)=>⟨[(0,cD (.fn 126 [])),(4,.c (.ptr 4 0)),(6,.c (.ptr 6 0)),(8,cD (lD 3 z02 p1)),(9,cD (dI (p1.length:Int))),(10,cD (dI ((i1:Nat):Int)))],[(4,.box (cTime a4)),(6,.box (cTime (p1.getD i1 default)))]⟩) h (fun a4 h => ?_) (fun j5 h => ?_)
   ·refine Tri.seqS ?_
    refine Tri.reg ?_
    refine At.sg 5 [0,4,6,8,9,10,18,20,22] [4,6] (z00 5) ?_
    obtain ⟨r6,hr6,h⟩:=z04 h
    refine At.cA [] [cD (dU a4.epoch),cD (dU ((p1.getD i1 default).epoch))] (z45 hr6) (.cons (.refl _) (.cons (.refl _) .nil)) ?_
    refine At.sg 2 [0,4,6,8,9,10] [4,6] (z00 2) ?_
    refine At.done rfl ?_
    refine Tri.sg [0,4,6,8,9,10,25] [4,6] (z00 1) ?_
    refine Tri.rK 25 (⟨r6,a4.loop⟩:Time) (fun (x:Empty) s=>False) (fun (a8:Time)=>⟨[(0,cD (.fn 126 [])),(4,.c (.ptr 4 0)),(6,.c (.ptr 6 0)),(8,cD (lD 3 z02 p1)),(9,cD (dI (p1.length:Int))),(10,cD (dI ((i1:Nat):Int)))],[(4,.box (cTime a8)),(6,.box (cTime (p1.getD i1 default)))]⟩) [25,0,4,6,8,9,10] [4,6] [26,25,0,4,6,8,9,10] [4,6] [10,0,4,8,9] [4] [25,0,4,6,8,9,10] [4,6] h (by unfold maxN; omega) ?_ ?_ ?_
    ·intro i7 a8 c hii7 h
     rcases i7 with _ | i7
     ·refine Tri.sg [0,4,6,7,8,9,10,25] [4,6] (z00 2) ?_
      obtain ⟨r10,hr10,h⟩:=z04 h
      refine Tri.dC [.a [7] [],.a [0] [],.a [7] [],.a [4] [],.a [30,31] [4],.a [32] [4],.a [7] [],.a [6] [],.a [34,35] [6],.a [36] [6],.m ⟨[(29,cD (.fn 126 [])),(33,cD (dU a8.loop.1)),(37,cD (dU ((p1.getD i1 default).loop.1)))],[]⟩ ⟨[(38,cD (dU r10))],[]⟩ [] [] [],.a [4] [],.a [28,39] [4],.m ⟨[(38,cD (dU r10)),(40,.c (.ptr 4 1))],[(4,.box (cTime a8))]⟩ ⟨[],[(4,.box [.d (dU a8.epoch),.d (dU r10),.d (dU a8.loop.2)])]⟩ [] [] []] [25,0,4,6,8,9,10] [4,6] (z00 12) (.a (.a (.a (.a (.a (.a (.a (.a (.a (.a (.m ?_ (.a (.a (.m ?_ .z)))))))))))))) ?_
      · exact DOk.cA [] [cD (dU a8.loop.1),cD (dU ((p1.getD i1 default).loop.1))] (z45 hr10) fun r=>(.cons (.refl _) (.cons (.refl _) .nil))
      · exact DOk.step (.turn 4 (.box [.d (dU a8.epoch),.d (dU r10),.d (dU a8.loop.2)])) (fun r=>by kernel_rfl) (fun r=>by kernel_rfl) trivial (by kernel_rfl) (by kernel_rfl) (fun r=>rfl)
      cases h
      exact kr
     rcases i7 with _ | i7
     ·refine Tri.sg [0,4,6,7,8,9,10,25] [4,6] (z00 2) ?_
      obtain ⟨r11,hr11,h⟩:=z04 h
      refine Tri.dC [.a [7] [],.a [0] [],.a [7] [],.a [4] [],.a [30,31] [4],.a [32] [4],.a [7] [],.a [6] [],.a [34,35] [6],.a [36] [6],.m ⟨[(29,cD (.fn 126 [])),(33,cD (dU a8.loop.2)),(37,cD (dU ((p1.getD i1 default).loop.2)))],[]⟩ ⟨[(38,cD (dU r11))],[]⟩ [] [] [],.a [4] [],.a [28,39] [4],.m ⟨[(38,cD (dU r11)),(40,.c (.ptr 4 2))],[(4,.box (cTime a8))]⟩ ⟨[],[(4,.box [.d (dU a8.epoch),.d (dU a8.loop.1),.d (dU r11)])]⟩ [] [] []] [25,0,4,6,8,9,10] [4,6] (z00 12) (.a (.a (.a (.a (.a (.a (.a (.a (.a (.a (.m ?_ (.a (.a (.m ?_ .z)))))))))))))) ?_
      · exact DOk.cA [] [cD (dU a8.loop.2),cD (dU ((p1.getD i1 default).loop.2))] (z45 hr11) fun r=>(.cons (.refl _) (.cons (.refl _) .nil))
      · exact DOk.step (.turn 4 (.box [.d (dU a8.epoch),.d (dU a8.loop.1),.d (dU r11)])) (fun r=>by kernel_rfl) (fun r=>by kernel_rfl) trivial (by kernel_rfl) (by kernel_rfl) (fun r=>rfl)
      cases h
      exact kr
     exact absurd hii7 (by omega)
    ·intro a9 h
     cases h
     exact kr
    · exact fun x=>x.elim
   ·refine Tri.sg [0,4,6,8,9,10,16] [4,6] (z00 2) ?_
    refine Tri.condK h (fun h => ?_) (fun h => ?_)
    ·refine Tri.reg ?_
     refine At.sg 2 [0,4,6,8,9,10] [4,6] (z00 2) ?_
     refine At.done rfl ?_
     exact ⟨_,h,kr⟩
    ·refine Tri.kp [0,4,6,8,9,10] [4,6] ?_
     refine Tri.skip ?_
     exact ⟨_,h,kr⟩
  ·intro a3 h
   refine Tri.sg [4] [4] (z00 2) ?_
   refine Tri.ret ?_
   cases h
   exact RetAt.k
  · exact fun x=>x.elim
theorem ziv {p0:List Time} {q:Time} (h:z5k p0=some q) :
  Summ Tryz.prog 96 [cD (lD 3 z02 p0)] [] (.agg (cTime q)) []:=by
 refine Summ.intro Tryz.func96 rfl (by kernel_rfl) (by kernel_rfl) [] rfl ?_
 rintro ⟨P,w0,G0,V,LL,lk,N, φ0,fx⟩ rfl rfl rfl rfl
 unfold z5k at h
 refine Tri.sg [0,2] [2] (z00 1) ?_
 refine Tri.seqS ?_
 refine Tri.reg ?_
 refine At.sg 1 [2,3] [2] (z00 1) ?_
 obtain ⟨r1,hr1,h⟩:=z04 h
 refine At.cA [] [cD (.fn 126 []),cD (lD 3 z02 p0)] (zb5 hr1) (.cons (.refl _) (.cons (.refl _) .nil)) ?_
 refine At.sg 1 [2] [2] (z00 1) ?_
 refine At.done rfl ?_
 refine Tri.ret ?_
 cases h
 exact RetAt.k
theorem z94 {p0:Int} {p1:Int} {q:Int} (h:z75 p0 p1=some q) :
  Summ Tryz.prog 140 [cD (dU p0),cD (dU p1)] [] (cD (dU q)) []:=by
 refine Summ.intro Tryz.func140 rfl (by kernel_rfl) (by kernel_rfl) [] rfl ?_
 rintro ⟨P,w0,G0,V,LL,lk,N, φ0,fx⟩ rfl rfl rfl rfl
 unfold z75 at h
 refine Tri.sg [0,1] [] (z00 1) ?_
 refine Tri.sg [4] [] (z00 4) ?_
 refine Tri.ret ?_
 cases h
 exact RetAt.k
theorem zbk {p1:List Time} {q:Time} (h:z4z p1=some q) :
    Summ Tryz.prog 125 [cD (.fn 140 []),.c (wC 3 z02 p1)] [] (.agg (cTime q)) []:=by
  refine Summ.intro Tryz.func125 rfl (by kernel_rfl) (by kernel_rfl) [] rfl ?_
  rintro ⟨P,w0,G0,V,LL,lk,N, φ0,fx⟩ rfl rfl rfl rfl
  unfold z4z at h
  refine Tri.sg [0,1,4] [4] (z00 1) ?_
  refine Tri.seqS ?_
  refine Tri.sg [0,4,8,9,10] [4] (z00 3) ?_
  refine Tri.ln 8 p1.length fun hlena2 => ?_
  refine Tri.rK 10 (⟨0,(0,0)⟩:Time) (fun (x:Empty) s=>False) (fun (a2:Time)=>⟨[(0,cD (.fn 140 [])),(4,.c (.ptr 4 0)),(8,.c (wC 3 z02 p1)),(9,cD (dI (p1.length:Int)))],[(4,.box (cTime a2))]⟩) [10,0,4,8,9] [4] [11,10,0,4,8,9] [4] [0,4,8,9] [4] [10,0,4,8,9] [4] h hlena2 ?_ ?_ ?_
  ·intro i1 a2 c hii1 h
   refine Tri.sg [0,4,5,6,8,9,10] [4,6] (tN 1 (ai (show ((0:Int)≤((i1:Nat):Int)∧((i1:Nat):Int) < (p1.length:Int)) from ⟨by omega,by omega⟩) (z00 4))) ?_
   refine Tri.seqJ (fun (a4:Time)=>⟨[(0,cD (.fn 140 [])),(4,.c (.ptr 4 0)),(6,.c (.ptr 6 0)),(8,.c (wC 3 z02 p1)),(9,cD (dI (p1.length:Int))),(10,cD (dI ((i1:Nat):Int)))],[(4,.box (cTime a4)),(6,.box (cTime (p1.getD i1 default)))]⟩) h (fun a4 h => ?_) (fun j5 h => ?_)
   ·refine Tri.seqS ?_
    refine Tri.reg ?_
    refine At.sg 5 [0,4,6,8,9,10,18,20,22] [4,6] (z00 5) ?_
    obtain ⟨r6,hr6,h⟩:=z04 h
    refine At.cA [] [cD (dU a4.epoch),cD (dU ((p1.getD i1 default).epoch))] (z94 hr6) (.cons (.refl _) (.cons (.refl _) .nil)) ?_
    refine At.sg 2 [0,4,6,8,9,10] [4,6] (z00 2) ?_
    refine At.done rfl ?_
    refine Tri.sg [0,4,6,8,9,10,25] [4,6] (z00 1) ?_
    refine Tri.rK 25 (⟨r6,a4.loop⟩:Time) (fun (x:Empty) s=>False) (fun (a8:Time)=>⟨[(0,cD (.fn 140 [])),(4,.c (.ptr 4 0)),(6,.c (.ptr 6 0)),(8,.c (wC 3 z02 p1)),(9,cD (dI (p1.length:Int))),(10,cD (dI ((i1:Nat):Int)))],[(4,.box (cTime a8)),(6,.box (cTime (p1.getD i1 default)))]⟩) [25,0,4,6,8,9,10] [4,6] [26,25,0,4,6,8,9,10] [4,6] [10,0,4,8,9] [4] [25,0,4,6,8,9,10] [4,6] h (by unfold maxN; omega) ?_ ?_ ?_
    ·intro i7 a8 c hii7 h
     rcases i7 with _ | i7
     ·refine Tri.sg [0,4,6,7,8,9,10,25] [4,6] (z00 2) ?_
      obtain ⟨r10,hr10,h⟩:=z04 h
      refine Tri.dC [.a [7] [],.a [0] [],.a [7] [],.a [4] [],.a [30,31] [4],.a [32] [4],.a [7] [],.a [6] [],.a [34,35] [6],.a [36] [6],.m ⟨[(29,cD (.fn 140 [])),(33,cD (dU a8.loop.1)),(37,cD (dU ((p1.getD i1 default).loop.1)))],[]⟩ ⟨[(38,cD (dU r10))],[]⟩ [] [] [],.a [4] [],.a [28,39] [4],.m ⟨[(38,cD (dU r10)),(40,.c (.ptr 4 1))],[(4,.box (cTime a8))]⟩ ⟨[],[(4,.box [.d (dU a8.epoch),.d (dU r10),.d (dU a8.loop.2)])]⟩ [] [] []] [25,0,4,6,8,9,10] [4,6] (z00 12) (.a (.a (.a (.a (.a (.a (.a (.a (.a (.a (.m ?_ (.a (.a (.m ?_ .z)))))))))))))) ?_
      · exact DOk.cA [] [cD (dU a8.loop.1),cD (dU ((p1.getD i1 default).loop.1))] (z94 hr10) fun r=>(.cons (.refl _) (.cons (.refl _) .nil))
      · exact DOk.step (.turn 4 (.box [.d (dU a8.epoch),.d (dU r10),.d (dU a8.loop.2)])) (fun r=>by kernel_rfl) (fun r=>by kernel_rfl) trivial (by kernel_rfl) (by kernel_rfl) (fun r=>rfl)
      cases h
      exact kr
     rcases i7 with _ | i7
     ·refine Tri.sg [0,4,6,7,8,9,10,25] [4,6] (z00 2) ?_
      obtain ⟨r11,hr11,h⟩:=z04 h
      refine Tri.dC [.a [7] [],.a [0] [],.a [7] [],.a [4] [],.a [30,31] [4],.a [32] [4],.a [7] [],.a [6] [],.a [34,35] [6],.a [36] [6],.m ⟨[(29,cD (.fn 140 [])),(33,cD (dU a8.loop.2)),(37,cD (dU ((p1.getD i1 default).loop.2)))],[]⟩ ⟨[(38,cD (dU r11))],[]⟩ [] [] [],.a [4] [],.a [28,39] [4],.m ⟨[(38,cD (dU r11)),(40,.c (.ptr 4 2))],[(4,.box (cTime a8))]⟩ ⟨[],[(4,.box [.d (dU a8.epoch),.d (dU a8.loop.1),.d (dU r11)])]⟩ [] [] []] [25,0,4,6,8,9,10] [4,6] (z00 12) (.a (.a (.a (.a (.a (.a (.a (.a (.a (.a (.m ?_ (.a (.a (.m ?_ .z)))))))))))))) ?_
      · exact DOk.cA [] [cD (dU a8.loop.2),cD (dU ((p1.getD i1 default).loop.2))] (z94 hr11) fun r=>(.cons (.refl _) (.cons (.refl _) .nil))
      · exact DOk.step (.turn 4 (.box [.d (dU a8.epoch),.d (dU a8.loop.1),.d (dU r11)])) (fun r=>by kernel_rfl) (fun r=>by kernel_rfl) trivial (by kernel_rfl) (by kernel_rfl) (fun r=>rfl)
      cases h
      exact kr
     exact absurd hii7 (by omega)
    ·intro a9 h
     cases h
     exact kr
    · exact fun x=>x.elim
   ·refine Tri.sg [0,4,6,8,9,10,16] [4,6] (z00 2) ?_
    refine Tri.condK h (fun h => ?_) (fun h => ?_)
    ·refine Tri.reg ?_
     refine At.sg 2 [0,4,6,8,9,10] [4,6] (z00 2) ?_
     refine At.done rfl ?_
     exact ⟨_,h,kr⟩
    ·refine Tri.kp [0,4,6,8,9,10] [4,6] ?_
     refine Tri.skip ?_
     exact ⟨_,h,kr⟩
  ·intro a3 h
   refine Tri.sg [4] [4] (z00 2) ?_
   refine Tri.ret ?_
   cases h
   exact RetAt.k
  · exact fun x=>x.elim
theorem zg9 {p0:List Time} {q:Time} (h:zat p0=some q) :
  Summ Tryz.prog 115 [.c (wC 3 z02 p0)] [] (.agg (cTime q)) []:=by
 refine Summ.intro Tryz.func115 rfl (by kernel_rfl) (by kernel_rfl) [] rfl ?_
 rintro ⟨P,w0,G0,V,LL,lk,N, φ0,fx⟩ rfl rfl rfl rfl
 unfold zat at h
 refine Tri.sg [0,2] [2] (z00 1) ?_
 refine Tri.seqS ?_
 refine Tri.reg ?_
 refine At.sg 1 [2,3] [2] (z00 1) ?_
 obtain ⟨r1,hr1,h⟩:=z04 h
 refine At.cA [] [cD (.fn 140 []),.c (wC 3 z02 p0)] (zbk hr1) (.cons (.refl _) (.cons (.refl _) .nil)) ?_
 refine At.sg 1 [2] [2] (z00 1) ?_
 refine At.done rfl ?_
 refine Tri.ret ?_
 cases h
 exact RetAt.k
end Go.Av
