import Derived.Test.YtgpkbkdmpdmmiaaGreatL5x4
import Derived.Test.YtgpkbkdmpdmmiaaGreatProg
import Derived.Sort.LotD3
import Derived.Sort.LotD4
import Derived.Sort.LotA
import Derived.Sort.LotB
import Derived.Sort.LotC
import Derived.Sort.AssemblyPlain
set_option maxRecDepth 100000
namespace Go.Av
open Go Go.Proofs
set_option linter.unusedVariables false
set_option linter.unusedSimpArgs false
theorem z6o {p0:Int} {q:List Value} (h:z52 p0=some q) :
  Summ Tryz.prog 45 [cD (dI p0)] [] (cD (lD 3 z05 q)) []:=by
 refine Summ.intro Tryz.func45 rfl (by kernel_rfl) (by kernel_rfl) [] rfl ?_
 rintro ⟨P,w0,G0,V,LL,lk,N, φ0,fx⟩ rfl rfl rfl rfl
 unfold z52 at h
 refine Tri.sg [0] [] (z00 1) ?_
 refine Tri.seqS ?_
 refine Tri.reg ?_
 refine At.seg 2 [4] [] (s':=⟨[(4,.agg [.d (.bool false),.d (dI p0),.d (.str (bs []))])],[]⟩) (by kernel_rfl) (z00 2) ?_
 refine At.one rfl (One.buildSlice (z:=[.d (.bool false),.d (dI 0),.d (.str (bs []))]) (cells:=[.d (.bool false),.d (dI p0),.d (.str (bs []))]) (xs:=List.map (z05) ([(⟨false,p0,(bs [])⟩:Value)]:List Value)) rfl rfl rfl rfl (by kernel_rfl) rfl rfl (by kernel_rfl) rfl rfl rfl (by kernel_rfl) rfl ⟨⟨rfl,.refl _⟩,trivial⟩) ?_
 refine At.le [5] (fun k hk h=>by first | (cases h; done) | (simp at hk h; omega)) ⟨[(5,cD (lD 3 z05 ([(⟨false,p0,(bs [])⟩:Value)]:List Value))),(4,.agg [.d (.bool false),.d (dI p0),.d (.str (bs []))])],[]⟩ ⟨⟨_,rfl,.c (.own rfl (List.mem_singleton.2 rfl) (Nat.le_of_ble_eq_true rfl) rfl (z2l (z05) ([(⟨false,p0,(bs [])⟩:Value)]:List Value)))⟩,⟨_,rfl,.refl _⟩,trivial⟩ trivial ?_
 refine At.sg 1 [2] [] (z00 1) ?_
 refine At.done rfl ?_
 refine Tri.ret ?_
 cases h
 exact RetAt.k
theorem z9k {fuel:Nat} {p0:List Update} {q:Bool} (h:z6u fuel p0=some q) :
    Summ Tryz.prog 59 [cD (lD 6 z01 p0)] [] (cD (.bool q)) []:=by
  refine Summ.intro Tryz.func59 rfl (by kernel_rfl) (by kernel_rfl) [] rfl ?_
  rintro ⟨P,w0,G0,V,LL,lk,N, φ0,fx⟩ rfl rfl rfl rfl
  unfold z6u at h
  refine Tri.sg [0] [] (z00 1) ?_
  refine Tri.seqS ?_
  refine Tri.sg [0,5,6,7] [] (z00 3) ?_
  refine Tri.ln 5 p0.length fun hlena2 => ?_
  refine Tri.rK 7 () (fun (x:Bool) s=>RetAt Tryz.prog Tryz.f59 (cD (.bool x)) [] s) (fun (a2:Unit)=>⟨[(0,cD (lD 6 z01 p0)),(5,cD (lD 6 z01 p0)),(6,cD (dI (p0.length:Int)))],[]⟩) [7,0,5,6] [] [8,7,0,5,6] [] [0,5,6] [] [7,0,5,6] [] h hlena2 ?_ ?_ ?_
  ·intro i1 a2 c hii1 h
   refine Tri.segL [0,3,4,5,6,7] [4] ⟨[(0,cD (lD 6 z01 p0)),(3,cD (dI ((i1:Nat):Int))),(4,.c (.ptr 4 0)),(5,cD (lD 6 z01 p0)),(6,cD (dI (p0.length:Int))),(7,cD (dI ((i1:Nat):Int)))],[(4,.box (cUpdate (p0.getD i1 default)))]⟩ _ (by kernel_rfl) (tN 1 (ai (show ((0:Int)≤((i1:Nat):Int)∧((i1:Nat):Int) < (p0.length:Int)) from ⟨by omega,by omega⟩) (z00 4))) ?_
   refine Tri.seqJ (fun (a5:Bool)=>⟨[(0,cD (lD 6 z01 p0)),(5,cD (lD 6 z01 p0)),(6,cD (dI (p0.length:Int))),(7,cD (dI ((i1:Nat):Int))),(28,cD (.bool a5))],[]⟩) h (fun a5 h => ?_) (fun j6 h => ?_)
   ·refine Tri.condK h (fun h => ?_) (fun h => ?_)
    ·refine Tri.sg [2] [] (z00 1) ?_
     refine Tri.ret ?_
     cases h
     exact RetAt.k
    ·refine Tri.kp [7,0,5,6] [] ?_
     refine Tri.skip ?_
     cases h
     exact kr
   ·rcases z27 h with ⟨hp7,h⟩ | ⟨hp7,h⟩
    ·refine Tri.dC [.a [4] [],.a [12] [4],.a [13] [],.m ⟨[(14,cD (.bool (decide ((p0.getD i1 default).diff=0))))],[]⟩ ⟨[(15,.c (.d (.bool true)))],[]⟩ [] [] [],.a [3,15] [],.a [15,16] [],.a [15,17] [],.a [0,18] [],.a [3,18] [],.a [18,20] [],.a [18,19,21] [],.a [18,22] [],.a [4,18] [4],.a [18,23,24] [],.a [18,25] [],.a [15,18,26] [],.a [15,27] []] [0,5,6,7,28] [] (z00 4) (.a (.a (.a (.m ?_ (.a (.a (.a (.a (.a (.a (.a (.a (.a (.a (.a (.a (.a .z))))))))))))))))) ?_
     · exact DOk.stepP (fun b => .val (.c (.d (.bool b))) (True)) (p:=(decide ((p0.getD i1 default).diff=0))) hp7 (fun r=>by kernel_rfl) (fun r=>by kernel_rfl) trivial (by kernel_rfl) (by kernel_rfl) (fun r=>rfl)
     exact ⟨_,h,kr⟩
    ·rcases z27 h with ⟨hp8,h⟩ | ⟨hp8,h⟩
     ·obtain ⟨hc9,h⟩:=z03 h
      obtain ⟨r10,hr10,h⟩:=z04 h
      refine Tri.dC [.a [4] [],.a [12] [4],.a [13] [],.m ⟨[(14,cD (.bool (decide ((p0.getD i1 default).diff=0))))],[]⟩ ⟨[(15,.c (.d (.bool false)))],[]⟩ [] [] [],.a [3,15] [],.a [15,16] [],.m ⟨[(15,cD (.bool false)),(17,cD (.bool (decide (0 < ((i1:Nat):Int)))))],[]⟩ ⟨[(18,.c (.d (.bool true)))],[]⟩ [] [] [],.a [0,18] [],.a [3,18] [],.a [18,20] [],.a [18,19,21] [],.a [18,22] [],.a [4,18] [4],.m ⟨[(18,cD (.bool true)),(23,.agg (cUpdate (p0.getD ((IntKind.i64.wrap (((i1:Nat):Int) - 1)).toNat) default))),(24,.agg (cUpdate (p0.getD i1 default)))],[]⟩ ⟨[(25,cD (dI r10))],[]⟩ [] [] [],.a [18,25] [],.a [15,18,26] [],.a [15,27] []] [0,5,6,7,28] [] (tN 8 (ai hc9 (z00 5))) (.a (.a (.a (.m ?_ (.a (.a (.m ?_ (.a (.a (.a (.a (.a (.a (.m ?_ (.a (.a (.a .z))))))))))))))))) ?_
      · exact DOk.stepP (fun b => .val (.c (.d (.bool b))) (True)) (p:=(decide ((p0.getD i1 default).diff=0))) hp7 (fun r=>by kernel_rfl) (fun r=>by kernel_rfl) trivial (by kernel_rfl) (by kernel_rfl) (fun r=>rfl)
      · exact DOk.stepP (fun b => .val (.c (.d (.bool b))) (True)) (p:=(decide (0 < ((i1:Nat):Int)))) hp8 (fun r=>by kernel_rfl) (fun r=>by kernel_rfl) trivial (by kernel_rfl) (by kernel_rfl) (fun r=>rfl)
      · exact DOk.cA [] [.agg (cUpdate (p0.getD ((IntKind.i64.wrap (((i1:Nat):Int) - 1)).toNat) default)),.agg (cUpdate (p0.getD i1 default))] (z4h hr10) fun r=>(.cons (.refl _) (.cons (.refl _) .nil))
      exact ⟨_,h,kr⟩
     ·refine Tri.dC [.a [4] [],.a [12] [4],.a [13] [],.m ⟨[(14,cD (.bool (decide ((p0.getD i1 default).diff=0))))],[]⟩ ⟨[(15,.c (.d (.bool false)))],[]⟩ [] [] [],.a [3,15] [],.a [15,16] [],.m ⟨[(15,cD (.bool false)),(17,cD (.bool (decide (0 < ((i1:Nat):Int)))))],[]⟩ ⟨[(18,.c (.d (.bool false)))],[]⟩ [] [] [],.a [0,18] [],.a [3,18] [],.a [18,20] [],.a [18,19,21] [],.a [18,22] [],.a [4,18] [4],.a [18,23,24] [],.a [18,25] [],.a [15,18,26] [],.a [15,27] []] [0,5,6,7,28] [] (z00 7) (.a (.a (.a (.m ?_ (.a (.a (.m ?_ (.a (.a (.a (.a (.a (.a (.a (.a (.a (.a .z))))))))))))))))) ?_
      · exact DOk.stepP (fun b => .val (.c (.d (.bool b))) (True)) (p:=(decide ((p0.getD i1 default).diff=0))) hp7 (fun r=>by kernel_rfl) (fun r=>by kernel_rfl) trivial (by kernel_rfl) (by kernel_rfl) (fun r=>rfl)
      · exact DOk.stepP (fun b => .val (.c (.d (.bool b))) (True)) (p:=(decide (0 < ((i1:Nat):Int)))) hp8 (fun r=>by kernel_rfl) (fun r=>by kernel_rfl) trivial (by kernel_rfl) (by kernel_rfl) (fun r=>rfl)
      exact ⟨_,h,kr⟩
  ·intro a3 h
   refine Tri.seqS ?_
   refine Tri.reg ?_
   refine At.sg 1 [30] [] (z00 1) ?_
   obtain ⟨r4,hr4,h⟩:=z04 h
   refine At.cA [] [cD (lD 6 z01 p0)] (zbx hr4) (.cons (.refl _) .nil) ?_
   refine At.sg 2 [2] [] (z00 2) ?_
   refine At.done rfl ?_
   refine Tri.ret ?_
   cases h
   exact RetAt.k
  · exact fun x s hx hr=>by cases hx; exact hr
theorem zd6 {p0:Update} {p1:List Time} {q:Bool} (h:z4j p0 p1=some q) :
  Summ Tryz.prog 88 [.agg (cUpdate p0),cD (.cptr [lD 3 z02 p1])] [] (cD (.bool q)) []:=by
 refine Summ.intro Tryz.func88 rfl (by kernel_rfl) (by kernel_rfl) [] rfl ?_
 rintro ⟨P,w0,G0,V,LL,lk,N, φ0,fx⟩ rfl rfl rfl rfl
 unfold z4j at h
 refine Tri.le [] (fun k hk=>by cases hk) ⟨[(0,.agg (cUpdate p0)),(1,.c (.eptr [lD 3 z02 p1]))],[]⟩ ⟨⟨_,rfl,.refl _⟩,⟨_,rfl,.c (.cptrE _)⟩,trivial⟩ trivial ?_
 refine Tri.sg [1,2] [2] (z00 2) ?_
 refine Tri.seqS ?_
 obtain ⟨r1,hr1,h⟩:=z04 h
 refine Tri.dC [.a [2] [],.a [4] [2],.a [1] [],.m ⟨[(5,.agg (cTime p0.time)),(6,cD (lD 3 z02 p1))],[]⟩ ⟨[(7,.agg (cTime r1))],[]⟩ [] [] [],.a [2] [],.a [8] [2],.m ⟨[(7,.agg (cTime r1)),(9,.agg (cTime p0.time))],[]⟩ ⟨[(10,cD (.bool (!(z1r r1 p0.time))))],[]⟩ [] [] [],.a [10] []] [3] [] (z00 6) (.a (.a (.a (.m ?_ (.a (.a (.m ?_ (.a .z)))))))) ?_
 ·exact DOk.cA [] [.agg (cTime p0.time),cD (lD 3 z02 p1)] (z91 hr1) fun r=>(.cons (.refl _) (.cons (.refl _) .nil))
 ·exact DOk.one fun r _=>One.eql (b:=(z1r r1 p0.time)) (d:=9) rfl (by kernel_rfl) rfl (.inr rfl) rfl rfl (by kernel_rfl) rfl (by kernel_rfl)
 refine Tri.ret ?_
 cases h
 exact RetAt.k
theorem z2o {p0:List Update} {p1_0:List Time} {q:Int} (h:z0q p0 p1_0=some q) :
    Summ Tryz.prog 107 [cD (lD 6 z01 p0),cD (.fn 88 [.cptr [lD 3 z02 p1_0]])] [] (cD (dI q)) []:=by
  refine Summ.intro Tryz.func107 rfl (by kernel_rfl) (by kernel_rfl) [] rfl ?_
  rintro ⟨P,w0,G0,V,LL,lk,N, φ0,fx⟩ rfl rfl rfl rfl
  unfold z0q at h
  refine Tri.sg [0,1] [] (z00 1) ?_
  refine Tri.seqS ?_
  refine Tri.sg [0,1,7,8] [] (z00 3) ?_
  refine Tri.ln 0 p0.length fun hlena2 => ?_
  refine Tri.rK 8 () (fun (x:Int) s=>RetAt Tryz.prog Tryz.f107 (cD (dI x)) [] s) (fun (a2:Unit)=>⟨[(0,cD (lD 6 z01 p0)),(1,cD (.fn 88 [.cptr [lD 3 z02 p1_0]])),(7,cD (dI (p0.length:Int)))],[]⟩) [8,0,1,7] [] [9,8,0,1,7] [] [0,1,7] [] [8,0,1,7] [] h hlena2 ?_ ?_ ?_
  ·intro i1 a2 c hii1 h
   refine Tri.sg [0,1,5,7,8] [] (z00 2) ?_
   refine Tri.seqS ?_
   refine Tri.reg ?_
   refine At.sg 5 [0,1,5,7,8,11,15] [] (tN 3 (ai (show ((0:Int)≤((i1:Nat):Int)∧((i1:Nat):Int) < (p0.length:Int)) from ⟨by omega,by omega⟩) (z00 1))) ?_
   obtain ⟨r4,hr4,h⟩:=z04 h
   refine At.cA [.cptr [lD 3 z02 p1_0]] [.agg (cUpdate (p0.getD i1 default)),cD (.cptr [lD 3 z02 p1_0])] (zd6 hr4) (.cons (.refl _) (.cons (.refl _) .nil)) ?_
   refine At.done rfl ?_
   refine Tri.condK h (fun h => ?_) (fun h => ?_)
   ·refine Tri.sg [4] [] (z00 2) ?_
    refine Tri.ret ?_
    cases h
    exact RetAt.k
   ·refine Tri.kp [8,0,1,7] [] ?_
    refine Tri.skip ?_
    cases h
    exact kr
  ·intro a3 h
   refine Tri.sg [4] [] (z00 1) ?_
   refine Tri.ret ?_
   cases h
   exact RetAt.k
  · exact fun x s hx hr=>by cases hx; exact hr
theorem z2k {p0:List Update} {p1_0:List Time} {q:Bool} (h:z0o p0 p1_0=some q) :
  Summ Tryz.prog 87 [cD (lD 6 z01 p0),cD (.fn 88 [.cptr [lD 3 z02 p1_0]])] [] (cD (.bool q)) []:=by
 refine Summ.intro Tryz.func87 rfl (by kernel_rfl) (by kernel_rfl) [] rfl ?_
 rintro ⟨P,w0,G0,V,LL,lk,N, φ0,fx⟩ rfl rfl rfl rfl
 unfold z0o at h
 refine Tri.sg [0,1] [] (z00 1) ?_
 refine Tri.seqS ?_
 refine Tri.reg ?_
 refine At.sg 2 [5,6] [] (z00 2) ?_
 obtain ⟨r1,hr1,h⟩:=z04 h
 refine At.cA [] [cD (lD 6 z01 p0),cD (.fn 88 [.cptr [lD 3 z02 p1_0]])] (z2o hr1) (.cons (.refl _) (.cons (.refl _) .nil)) ?_
 refine At.sg 2 [4] [] (z00 2) ?_
 refine At.done rfl ?_
 refine Tri.ret ?_
 cases h
 exact RetAt.k
theorem za3 {fuel:Nat} {p0:List Update} {p1:List Time} {q:Bool} (h:z5c fuel p0 p1=some q) :
    Summ Tryz.prog 47 [cD (lD 6 z01 p0),cD (lD 3 z02 p1)] [] (cD (.bool q)) []:=by
  refine Summ.intro Tryz.func47 rfl (by kernel_rfl) (by kernel_rfl) [] rfl ?_
  rintro ⟨P,w0,G0,V,LL,lk,N, φ0,fx⟩ rfl rfl rfl rfl
  unfold z5c at h
  refine Tri.sg [0,3] [3] (z00 2) ?_
  refine Tri.seqJ (fun (a1:Bool)=>⟨[(4,cD (.bool a1))],[]⟩) h (fun a1 h => ?_) (fun j2 h => ?_)
  ·refine Tri.ret ?_
   cases h
   exact RetAt.k
  ·refine Tri.reg ?_
   refine At.sg 1 [0,3,5] [3] (z00 1) ?_
   obtain ⟨r3,hr3,h⟩:=z04 h
   refine At.cA [] [cD (lD 6 z01 p0)] (z9k hr3) (.cons (.refl _) .nil) ?_
   refine At.sg 1 [0,3,7] [3] (z00 1) ?_
   refine At.cs [7] h (fun h => ?_) (fun h => ?_)
   ·refine At.seg 1 [3,7,8] [3] (s':=⟨[(3,.c (.ptr 3 0)),(7,cD (.bool true)),(8,cD (lD 6 z01 p0))],[(3,.box [.d (lD 3 z02 p1)])]⟩) (by kernel_rfl) (z00 1) ?_
    refine At.le [3] (fun k hk h=>by first | (cases h; done) | (simp at hk h; omega)) ⟨[(3,cD (.cptr [lD 3 z02 p1])),(7,cD (.bool true)),(8,cD (lD 6 z01 p0))],[]⟩ ⟨⟨_,rfl,.c (.box (ds:=[lD 3 z02 p1]) rfl (by simp))⟩,⟨_,rfl,.refl _⟩,⟨_,rfl,.refl _⟩,trivial⟩ trivial ?_
    refine At.seg 1 [9,3,7,8] [] (s':=⟨[(9,cD (.fn 88 [.cptr [lD 3 z02 p1]])),(3,cD (.cptr [lD 3 z02 p1])),(7,cD (.bool true)),(8,cD (lD 6 z01 p0))],[]⟩) (by kernel_rfl) (z00 1) ?_
    refine At.le [] (fun k hk=>by cases hk) ⟨[(9,cD (.fn 88 [.cptr [lD 3 z02 p1]])),(3,.c (.eptr [lD 3 z02 p1])),(7,cD (.bool true)),(8,cD (lD 6 z01 p0))],[]⟩ ⟨⟨_,rfl,.refl _⟩,⟨_,rfl,.c (.cptrE _)⟩,⟨_,rfl,.refl _⟩,⟨_,rfl,.refl _⟩,trivial⟩ trivial ?_
    obtain ⟨r4,hr4,h⟩:=z04 h
    refine At.cA [] [cD (lD 6 z01 p0),cD (.fn 88 [.cptr [lD 3 z02 p1]])] (z2k hr4) (.cons (.refl _) (.cons (.refl _) .nil)) ?_
    refine At.sg 3 [4] [] (z00 3) ?_
    refine At.done rfl ?_
    exact ⟨_,h,kr⟩
   ·refine At.sg 6 [4] [] (z00 2) ?_
    refine At.done rfl ?_
    exact ⟨_,h,kr⟩
theorem z89 {fuel:Nat} {p0:Batch} {q:Int} (h:z4x fuel p0=some q) :
    Summ Tryz.prog 15 [.agg (cBatch p0)] [] (cD (dI q)) []:=by
  refine Summ.intro Tryz.func15 rfl (by kernel_rfl) (by kernel_rfl) [] rfl ?_
  rintro ⟨P,w0,G0,V,LL,lk,N, φ0,fx⟩ rfl rfl rfl rfl
  unfold z4x at h
  refine Tri.sg [1] [1] (z00 2) ?_
  refine Tri.seqS ?_
  refine Tri.seqJ (fun (a1:Bool)=>⟨[(14,cD (.bool a1))],[]⟩) h (fun a1 h => ?_) (fun j2 h => ?_)
  ·refine Tri.condK h (fun h => ?_) (fun h => ?_)
   ·refine Tri.sg [2] [] (z00 1) ?_
    refine Tri.ret ?_
    cases h
    exact RetAt.k
   ·refine Tri.skip ?_
    refine Tri.sg [2] [] (z00 1) ?_
    refine Tri.ret ?_
    cases h
    exact RetAt.k
  ·refine Tri.reg ?_
   refine At.sg 2 [1,4] [1] (z00 2) ?_
   obtain ⟨r3,hr3,h⟩:=z04 h
   refine At.cA [] [cD (lD 3 z02 p0.since)] (z74 hr3) (.cons (.refl _) .nil) ?_
   refine At.sg 2 [1,7] [1] (z00 2) ?_
   refine At.cs [7] h (fun h => ?_) (fun h => ?_)
   ·refine At.sg 7 [14] [] (z00 1) ?_
    refine At.done rfl ?_
    exact ⟨_,h,kr⟩
   ·refine At.sg 4 [7,9,11] [] (z00 4) ?_
    obtain ⟨r4,hr4,h⟩:=z04 h
    refine At.cA [] [cD (lD 6 z01 p0.updates),cD (lD 3 z02 p0.since)] (za3 hr4) (.cons (.refl _) (.cons (.refl _) .nil)) ?_
    refine At.sg 2 [14] [] (z00 2) ?_
    refine At.done rfl ?_
    exact ⟨_,h,kr⟩
theorem z3g {p0:List Time} {p1_0:Time} {q:Int} (h:z0g p0 p1_0=some q) :
    Summ Tryz.prog 89 [cD (lD 3 z02 p0),cD (.fn 63 [.cptr [dU p1_0.epoch,dU p1_0.loop.1,dU p1_0.loop.2]])] [] (cD (dI q)) []:=by
  refine Summ.intro Tryz.func89 rfl (by kernel_rfl) (by kernel_rfl) [] rfl ?_
  rintro ⟨P,w0,G0,V,LL,lk,N, φ0,fx⟩ rfl rfl rfl rfl
  unfold z0g at h
  refine Tri.sg [0,1] [] (z00 1) ?_
  refine Tri.seqS ?_
  refine Tri.sg [0,1,7,8] [] (z00 3) ?_
  refine Tri.ln 0 p0.length fun hlena2 => ?_
  refine Tri.rK 8 () (fun (x:Int) s=>RetAt Tryz.prog Tryz.f89 (cD (dI x)) [] s) (fun (a2:Unit)=>⟨[(0,cD (lD 3 z02 p0)),(1,cD (.fn 63 [.cptr [dU p1_0.epoch,dU p1_0.loop.1,dU p1_0.loop.2]])),(7,cD (dI (p0.length:Int)))],[]⟩) [8,0,1,7] [] [9,8,0,1,7] [] [0,1,7] [] [8,0,1,7] [] h hlena2 ?_ ?_ ?_
  ·intro i1 a2 c hii1 h
   refine Tri.sg [0,1,5,7,8] [] (z00 2) ?_
   refine Tri.seqS ?_
   refine Tri.reg ?_
   refine At.sg 5 [0,1,5,7,8,11,15] [] (tN 3 (ai (show ((0:Int)≤((i1:Nat):Int)∧((i1:Nat):Int) < (p0.length:Int)) from ⟨by omega,by omega⟩) (z00 1))) ?_
   obtain ⟨r4,hr4,h⟩:=z04 h
   refine At.cA [.cptr [dU p1_0.epoch,dU p1_0.loop.1,dU p1_0.loop.2]] [.agg (cTime (p0.getD i1 default)),cD (.cptr [dU p1_0.epoch,dU p1_0.loop.1,dU p1_0.loop.2])] (z8n hr4) (.cons (.refl _) (.cons (.refl _) .nil)) ?_
   refine At.done rfl ?_
   refine Tri.condK h (fun h => ?_) (fun h => ?_)
   ·refine Tri.sg [4] [] (z00 2) ?_
    refine Tri.ret ?_
    cases h
    exact RetAt.k
   ·refine Tri.kp [8,0,1,7] [] ?_
    refine Tri.skip ?_
    cases h
    exact kr
  ·intro a3 h
   refine Tri.sg [4] [] (z00 1) ?_
   refine Tri.ret ?_
   cases h
   exact RetAt.k
  · exact fun x s hx hr=>by cases hx; exact hr
theorem z37 {p0:List Time} {p1_0:Time} {q:Bool} (h:z0d p0 p1_0=some q) :
  Summ Tryz.prog 51 [cD (lD 3 z02 p0),cD (.fn 63 [.cptr [dU p1_0.epoch,dU p1_0.loop.1,dU p1_0.loop.2]])] [] (cD (.bool q)) []:=by
 refine Summ.intro Tryz.func51 rfl (by kernel_rfl) (by kernel_rfl) [] rfl ?_
 rintro ⟨P,w0,G0,V,LL,lk,N, φ0,fx⟩ rfl rfl rfl rfl
 unfold z0d at h
 refine Tri.sg [0,1] [] (z00 1) ?_
 refine Tri.seqS ?_
 refine Tri.reg ?_
 refine At.sg 2 [5,6] [] (z00 2) ?_
 obtain ⟨r1,hr1,h⟩:=z04 h
 refine At.cA [] [cD (lD 3 z02 p0),cD (.fn 63 [.cptr [dU p1_0.epoch,dU p1_0.loop.1,dU p1_0.loop.2]])] (z3g hr1) (.cons (.refl _) (.cons (.refl _) .nil)) ?_
 refine At.sg 2 [4] [] (z00 2) ?_
 refine At.done rfl ?_
 refine Tri.ret ?_
 cases h
 exact RetAt.k
theorem ze1 {p0:List Time} {p1:Time} {q:Bool} (h:z43 p0 p1=some q) :
  Summ Tryz.prog 30 [cD (lD 3 z02 p0),.agg (cTime p1)] [] (cD (.bool q)) []:=by
 refine Summ.intro Tryz.func30 rfl (by kernel_rfl) (by kernel_rfl) [] rfl ?_
 rintro ⟨P,w0,G0,V,LL,lk,N, φ0,fx⟩ rfl rfl rfl rfl
 unfold z43 at h
 refine Tri.sg [0,3] [3] (z00 2) ?_
 refine Tri.seqS ?_
 refine Tri.reg ?_
 refine At.seg 1 [3,5] [3] (s':=⟨[(3,.c (.ptr 3 0)),(5,cD (lD 3 z02 p0))],[(3,.box (cTime p1))]⟩) (by kernel_rfl) (z00 1) ?_
 refine At.le [3] (fun k hk h=>by first | (cases h; done) | (simp at hk h; omega)) ⟨[(3,cD (.cptr [dU p1.epoch,dU p1.loop.1,dU p1.loop.2])),(5,cD (lD 3 z02 p0))],[]⟩ ⟨⟨_,rfl,.c (.box (ds:=[dU p1.epoch,dU p1.loop.1,dU p1.loop.2]) rfl (by simp))⟩,⟨_,rfl,.refl _⟩,trivial⟩ trivial ?_
 refine At.seg 1 [6,3,5] [] (s':=⟨[(6,cD (.fn 63 [.cptr [dU p1.epoch,dU p1.loop.1,dU p1.loop.2]])),(3,cD (.cptr [dU p1.epoch,dU p1.loop.1,dU p1.loop.2])),(5,cD (lD 3 z02 p0))],[]⟩) (by kernel_rfl) (z00 1) ?_
 refine At.le [] (fun k hk=>by cases hk) ⟨[(6,cD (.fn 63 [.cptr [dU p1.epoch,dU p1.loop.1,dU p1.loop.2]])),(3,.c (.eptr [dU p1.epoch,dU p1.loop.1,dU p1.loop.2])),(5,cD (lD 3 z02 p0))],[]⟩ ⟨⟨_,rfl,.refl _⟩,⟨_,rfl,.c (.cptrE _)⟩,⟨_,rfl,.refl _⟩,trivial⟩ trivial ?_
 obtain ⟨r1,hr1,h⟩:=z04 h
 refine At.cA [] [cD (lD 3 z02 p0),cD (.fn 63 [.cptr [dU p1.epoch,dU p1.loop.1,dU p1.loop.2]])] (z37 hr1) (.cons (.refl _) (.cons (.refl _) .nil)) ?_
 refine At.sg 1 [4] [] (z00 1) ?_
 refine At.done rfl ?_
 refine Tri.ret ?_
 cases h
 exact RetAt.k
theorem ze9 {p0:Time} {p1:List Time} {q:Bool} (h:z5d p0 p1=some q) :
  Summ Tryz.prog 50 [.agg (cTime p0),cD (.cptr [lD 3 z02 p1])] [] (cD (.bool q)) []:=by
 refine Summ.intro Tryz.func50 rfl (by kernel_rfl) (by kernel_rfl) [] rfl ?_
 rintro ⟨P,w0,G0,V,LL,lk,N, φ0,fx⟩ rfl rfl rfl rfl
 unfold z5d at h
 refine Tri.le [] (fun k hk=>by cases hk) ⟨[(0,.agg (cTime p0)),(1,.c (.eptr [lD 3 z02 p1]))],[]⟩ ⟨⟨_,rfl,.refl _⟩,⟨_,rfl,.c (.cptrE _)⟩,trivial⟩ trivial ?_
 refine Tri.sg [1,2] [2] (z00 2) ?_
 refine Tri.seqS ?_
 refine Tri.reg ?_
 refine At.sg 2 [4,5] [] (z00 2) ?_
 obtain ⟨r1,hr1,h⟩:=z04 h
 refine At.cA [] [cD (lD 3 z02 p1),.agg (cTime p0)] (ze1 hr1) (.cons (.refl _) (.cons (.refl _) .nil)) ?_
 refine At.sg 2 [3] [] (z00 2) ?_
 refine At.done rfl ?_
 refine Tri.ret ?_
 cases h
 exact RetAt.k
theorem z36 {p0:List Time} {p1_0:List Time} {q:Int} (h:z0y p0 p1_0=some q) :
    Summ Tryz.prog 89 [cD (lD 3 z02 p0),cD (.fn 50 [.cptr [lD 3 z02 p1_0]])] [] (cD (dI q)) []:=by
  refine Summ.intro Tryz.func89 rfl (by kernel_rfl) (by kernel_rfl) [] rfl ?_
  rintro ⟨P,w0,G0,V,LL,lk,N, φ0,fx⟩ rfl rfl rfl rfl
  unfold z0y at h
  refine Tri.sg [0,1] [] (z00 1) ?_
  refine Tri.seqS ?_
  refine Tri.sg [0,1,7,8] [] (z00 3) ?_
  refine Tri.ln 0 p0.length fun hlena2 => ?_
  refine Tri.rK 8 () (fun (x:Int) s=>RetAt Tryz.prog Tryz.f89 (cD (dI x)) [] s) (fun (a2:Unit)=>⟨[(0,cD (lD 3 z02 p0)),(1,cD (.fn 50 [.cptr [lD 3 z02 p1_0]])),(7,cD (dI (p0.length:Int)))],[]⟩) [8,0,1,7] [] [9,8,0,1,7] [] [0,1,7] [] [8,0,1,7] [] h hlena2 ?_ ?_ ?_
  ·intro i1 a2 c hii1 h
   refine Tri.sg [0,1,5,7,8] [] (z00 2) ?_
   refine Tri.seqS ?_
   refine Tri.reg ?_
   refine At.sg 5 [0,1,5,7,8,11,15] [] (tN 3 (ai (show ((0:Int)≤((i1:Nat):Int)∧((i1:Nat):Int) < (p0.length:Int)) from ⟨by omega,by omega⟩) (z00 1))) ?_
   obtain ⟨r4,hr4,h⟩:=z04 h
   refine At.cA [.cptr [lD 3 z02 p1_0]] [.agg (cTime (p0.getD i1 default)),cD (.cptr [lD 3 z02 p1_0])] (ze9 hr4) (.cons (.refl _) (.cons (.refl _) .nil)) ?_
   refine At.done rfl ?_
   refine Tri.condK h (fun h => ?_) (fun h => ?_)
   ·refine Tri.sg [4] [] (z00 2) ?_
    refine Tri.ret ?_
    cases h
    exact RetAt.k
   ·refine Tri.kp [8,0,1,7] [] ?_
    refine Tri.skip ?_
    cases h
    exact kr
  ·intro a3 h
   refine Tri.sg [4] [] (z00 1) ?_
   refine Tri.ret ?_
   cases h
   exact RetAt.k
  · exact fun x s hx hr=>by cases hx; exact hr
theorem z2x {p0:List Time} {p1_0:List Time} {q:Bool} (h:z0i p0 p1_0=some q) :
  Summ Tryz.prog 51 [cD (lD 3 z02 p0),cD (.fn 50 [.cptr [lD 3 z02 p1_0]])] [] (cD (.bool q)) []:=by
 refine Summ.intro Tryz.func51 rfl (by kernel_rfl) (by kernel_rfl) [] rfl ?_
 rintro ⟨P,w0,G0,V,LL,lk,N, φ0,fx⟩ rfl rfl rfl rfl
 unfold z0i at h
 refine Tri.sg [0,1] [] (z00 1) ?_
 refine Tri.seqS ?_
 refine Tri.reg ?_
 refine At.sg 2 [5,6] [] (z00 2) ?_
 obtain ⟨r1,hr1,h⟩:=z04 h
 refine At.cA [] [cD (lD 3 z02 p0),cD (.fn 50 [.cptr [lD 3 z02 p1_0]])] (z36 hr1) (.cons (.refl _) (.cons (.refl _) .nil)) ?_
 refine At.sg 2 [4] [] (z00 2) ?_
 refine At.done rfl ?_
 refine Tri.ret ?_
 cases h
 exact RetAt.k
theorem z87 {p0:List Time} {p1:List Time} {q:Bool} (h:z5y p0 p1=some q) :
    Summ Tryz.prog 17 [cD (lD 3 z02 p0),cD (lD 3 z02 p1)] [] (cD (.bool q)) []:=by
  refine Summ.intro Tryz.func17 rfl (by kernel_rfl) (by kernel_rfl) [] rfl ?_
  rintro ⟨P,w0,G0,V,LL,lk,N, φ0,fx⟩ rfl rfl rfl rfl
  unfold z5y at h
  refine Tri.segL [0,3] [3] ⟨[(0,cD (lD 3 z02 p0)),(3,.c (.ptr 3 0))],[(3,.box [.d (lD 3 z02 p1)])]⟩ _ (by kernel_rfl) (z00 2) ?_
  refine Tri.seqS ?_
  refine Tri.reg ?_
  refine At.le [3] (fun k hk h=>by first | (cases h; done) | (simp at hk h; omega)) ⟨[(0,cD (lD 3 z02 p0)),(3,cD (.cptr [lD 3 z02 p1]))],[]⟩ ⟨⟨_,rfl,.refl _⟩,⟨_,rfl,.c (.box (ds:=[lD 3 z02 p1]) rfl (by simp))⟩,trivial⟩ trivial ?_
  refine At.seg 1 [6,0,3] [] (s':=⟨[(6,cD (.fn 50 [.cptr [lD 3 z02 p1]])),(0,cD (lD 3 z02 p0)),(3,cD (.cptr [lD 3 z02 p1]))],[]⟩) (by kernel_rfl) (z00 1) ?_
  refine At.le [] (fun k hk=>by cases hk) ⟨[(6,cD (.fn 50 [.cptr [lD 3 z02 p1]])),(0,cD (lD 3 z02 p0)),(3,.c (.eptr [lD 3 z02 p1]))],[]⟩ ⟨⟨_,rfl,.refl _⟩,⟨_,rfl,.refl _⟩,⟨_,rfl,.c (.cptrE _)⟩,trivial⟩ trivial ?_
  refine At.sg 1 [0,3,5] [] (z00 1) ?_
  refine At.done rfl ?_
  refine Tri.seqJ (fun (a1:Bool)=>⟨[(4,cD (.bool a1))],[]⟩) h (fun a1 h => ?_) (fun j2 h => ?_)
  ·refine Tri.ret ?_
   cases h
   exact RetAt.k
  ·refine Tri.reg ?_
   refine At.sg 4 [0,5,10] [] (z00 4) ?_
   refine At.cs [10] h (fun h => ?_) (fun h => ?_)
   ·refine At.sg 11 [4] [] (z00 2) ?_
    refine At.done rfl ?_
    exact ⟨_,h,kr⟩
   ·refine At.sg 4 [0,5,10,14] [] (z00 4) ?_
    refine At.cs [14] h (fun h => ?_) (fun h => ?_)
    ·refine At.sg 2 [10,14,15,16] [] (z00 2) ?_
     obtain ⟨r3,hr3,h⟩:=z04 h
     refine At.cA [] [cD (lD 3 z02 p0),cD (.fn 50 [.cptr [lD 3 z02 p1]])] (z2x hr3) (.cons (.refl _) (.cons (.refl _) .nil)) ?_
     refine At.sg 4 [4] [] (z00 4) ?_
     refine At.done rfl ?_
     exact ⟨_,h,kr⟩
    ·refine At.sg 7 [4] [] (z00 3) ?_
     refine At.done rfl ?_
     exact ⟨_,h,kr⟩
theorem zcc {p0:Merger} {q:Merger} (h:z5s p0=some q) :
  Summ Tryz.prog 54 [.agg (cMerger p0)] [] (.agg (cMerger q)) []:=by
 refine Summ.intro Tryz.func54 rfl (by kernel_rfl) (by kernel_rfl) [] rfl ?_
 rintro ⟨P,w0,G0,V,LL,lk,N, φ0,fx⟩ rfl rfl rfl rfl
 unfold z5s at h
 refine Tri.sg [1,2] [1,2] (z00 2) ?_
 refine Tri.seqS ?_
 obtain ⟨r1,hr1,h⟩:=z04 h
 obtain ⟨r2,hr2,h⟩:=z04 h
 obtain ⟨r3,hr3,h⟩:=z04 h
 obtain ⟨r4,hr4,h⟩:=z04 h
 refine Tri.dC [.a [1] [],.a [3] [1],.m ⟨[(4,cD (lD 6 z01 p0.a))],[]⟩ ⟨[(5,cD (lD 6 z01 r1))],[]⟩ [] [] [],.a [1] [],.a [6] [1],.m ⟨[(7,cD (lD 6 z01 p0.b))],[]⟩ ⟨[(8,cD (lD 6 z01 r2))],[]⟩ [] [] [],.a [1] [],.a [9] [1],.m ⟨[(10,cD (lD 6 z01 p0.out))],[]⟩ ⟨[(11,cD (lD 6 z01 r3))],[]⟩ [] [] [],.a [1] [],.a [12] [1],.m ⟨[(13,cD (lD 3 z02 p0.since))],[]⟩ ⟨[(14,cD (lD 3 z02 r4))],[]⟩ [] [] [],.a [1] [],.m ⟨[(5,cD (lD 6 z01 r1)),(15,.c (.ptr 1 0))],[(1,.box (cMerger p0))]⟩ ⟨[],[(1,.box [.d (lD 6 z01 r1),.d (lD 6 z01 p0.b),.d (dI p0.i),.d (dI p0.j),.d (lD 3 z02 p0.since),.d (lD 6 z01 p0.out)])]⟩ [] [] [],.a [1] [],.m ⟨[(8,cD (lD 6 z01 r2)),(16,.c (.ptr 1 1))],[(1,.box [.d (lD 6 z01 r1),.d (lD 6 z01 p0.b),.d (dI p0.i),.d (dI p0.j),.d (lD 3 z02 p0.since),.d (lD 6 z01 p0.out)])]⟩ ⟨[],[(1,.box [.d (lD 6 z01 r1),.d (lD 6 z01 r2),.d (dI p0.i),.d (dI p0.j),.d (lD 3 z02 p0.since),.d (lD 6 z01 p0.out)])]⟩ [] [] [],.a [1] [],.m ⟨[(11,cD (lD 6 z01 r3)),(17,.c (.ptr 1 5))],[(1,.box [.d (lD 6 z01 r1),.d (lD 6 z01 r2),.d (dI p0.i),.d (dI p0.j),.d (lD 3 z02 p0.since),.d (lD 6 z01 p0.out)])]⟩ ⟨[],[(1,.box [.d (lD 6 z01 r1),.d (lD 6 z01 r2),.d (dI p0.i),.d (dI p0.j),.d (lD 3 z02 p0.since),.d (lD 6 z01 r3)])]⟩ [] [] [],.a [1] [],.m ⟨[(14,cD (lD 3 z02 r4)),(18,.c (.ptr 1 4))],[(1,.box [.d (lD 6 z01 r1),.d (lD 6 z01 r2),.d (dI p0.i),.d (dI p0.j),.d (lD 3 z02 p0.since),.d (lD 6 z01 r3)])]⟩ ⟨[],[(1,.box [.d (lD 6 z01 r1),.d (lD 6 z01 r2),.d (dI p0.i),.d (dI p0.j),.d (lD 3 z02 r4),.d (lD 6 z01 r3)])]⟩ [] [] []] [1,2] [1,2] (z00 12) (.a (.a (.m ?_ (.a (.a (.m ?_ (.a (.a (.m ?_ (.a (.a (.m ?_ (.a (.m ?_ (.a (.m ?_ (.a (.m ?_ (.a (.m ?_ .z)))))))))))))))))))) ?_
 ·exact DOk.cA [] [cD (lD 6 z01 p0.a)] (z6j hr1) fun r=>(.cons (.refl _) .nil)
 ·exact DOk.cA [] [cD (lD 6 z01 p0.b)] (z6j hr2) fun r=>(.cons (.refl _) .nil)
 ·exact DOk.cA [] [cD (lD 6 z01 p0.out)] (z6j hr3) fun r=>(.cons (.refl _) .nil)
 ·exact DOk.cA [] [cD (lD 3 z02 p0.since)] (z20 hr4) fun r=>(.cons (.refl _) .nil)
 ·exact DOk.step (.turn 1 (.box [.d (lD 6 z01 r1),.d (lD 6 z01 p0.b),.d (dI p0.i),.d (dI p0.j),.d (lD 3 z02 p0.since),.d (lD 6 z01 p0.out)])) (fun r=>by kernel_rfl) (fun r=>by kernel_rfl) trivial (by kernel_rfl) (by kernel_rfl) (fun r=>rfl)
 ·exact DOk.step (.turn 1 (.box [.d (lD 6 z01 r1),.d (lD 6 z01 r2),.d (dI p0.i),.d (dI p0.j),.d (lD 3 z02 p0.since),.d (lD 6 z01 p0.out)])) (fun r=>by kernel_rfl) (fun r=>by kernel_rfl) trivial (by kernel_rfl) (by kernel_rfl) (fun r=>rfl)
 ·exact DOk.step (.turn 1 (.box [.d (lD 6 z01 r1),.d (lD 6 z01 r2),.d (dI p0.i),.d (dI p0.j),.d (lD 3 z02 p0.since),.d (lD 6 z01 r3)])) (fun r=>by kernel_rfl) (fun r=>by kernel_rfl) trivial (by kernel_rfl) (by kernel_rfl) (fun r=>rfl)
 ·exact DOk.step (.turn 1 (.box [.d (lD 6 z01 r1),.d (lD 6 z01 r2),.d (dI p0.i),.d (dI p0.j),.d (lD 3 z02 r4),.d (lD 6 z01 r3)])) (fun r=>by kernel_rfl) (fun r=>by kernel_rfl) trivial (by kernel_rfl) (by kernel_rfl) (fun r=>rfl)
 refine Tri.sg [2] [2] (z00 2) ?_
 refine Tri.ret ?_
 cases h
 exact RetAt.k
theorem zb6 {fuel:Nat} {p0:List Time} {p1:Batch} {p2:Batch} {q:Merger × Int} (h:z61 fuel p0 p1 p2=some q) :
    Summ Tryz.prog 24 [cD (lD 3 z02 p0),.agg (cBatch p1),.agg (cBatch p2)] [] (.tup [(true,[.d (lD 6 z01 q.1.a),.d (lD 6 z01 q.1.b),.d (dI q.1.i),.d (dI q.1.j),.d (lD 3 z02 q.1.since),.d (lD 6 z01 q.1.out)]),(false,[.d (dI q.2)])]) []:=by
  refine Summ.intro Tryz.func24 rfl (by kernel_rfl) (by kernel_rfl) [] rfl ?_
  rintro ⟨P,w0,G0,V,LL,lk,N, φ0,fx⟩ rfl rfl rfl rfl
  unfold z61 at h
  refine Tri.sg [0,4,5,6] [4,5,6] (z00 4) ?_
  refine Tri.seqS ?_
  refine Tri.blockB ?_
  refine Tri.seqJ (fun (a1:Bool)=>⟨[(0,cD (lD 3 z02 p0)),(4,.c (.ptr 4 0)),(5,.c (.ptr 5 0)),(6,.c (.ptr 6 0)),(8,cD (.bool a1))],[(4,.box (cBatch p1)),(5,.box (cBatch p2)),(6,.box [.zero,.zero,.d (dI 0),.d (dI 0),.zero,.zero])]⟩) h (fun a1 h => ?_) (fun j2 h => ?_)
  ·refine Tri.condK h (fun h => ?_) (fun h => ?_)
   ·refine Tri.sg [6,7] [6] (z00 3) ?_
    refine Tri.keep [6,7] [6] (s':=⟨[(6,.c (.ptr 6 0)),(7,cD (dI 4))],[(6,.box [.zero,.zero,.d (dI 0),.d (dI 0),.zero,.zero])]⟩) (by kernel_rfl) ?_
    refine Tri.le [] (fun k hk=>by cases hk) ⟨[(6,.c (.ptr 6 0)),(7,cD (dI 4))],[(6,.box [.d (lD 6 z01 ([]:List Update)),.d (lD 6 z01 ([]:List Update)),.d (dI 0),.d (dI 0),.d (lD 3 z02 ([]:List Time)),.d (lD 6 z01 ([]:List Update))])]⟩ ⟨⟨_,rfl,.refl _⟩,⟨_,rfl,.refl _⟩,trivial⟩ ⟨⟨_,rfl,.box (.cons (.zero _ _) (.cons (.zero _ _) (.cons (.refl _) (.cons (.refl _) (.cons (.zero _ _) (.cons (.zero _ _) .nil)))))),(by simp)⟩,trivial⟩ ?_
    refine Tri.ret ?_
    cases h
    exact RetAt.k
   ·refine Tri.seqJ (fun (a3:Bool)=>⟨[(0,cD (lD 3 z02 p0)),(4,.c (.ptr 4 0)),(5,.c (.ptr 5 0)),(6,.c (.ptr 6 0)),(19,cD (.bool a3))],[(4,.box (cBatch p1)),(5,.box (cBatch p2)),(6,.box [.zero,.zero,.d (dI 0),.d (dI 0),.zero,.zero])]⟩) h (fun a3 h => ?_) (fun j4 h => ?_)
    ·refine Tri.condK h (fun h => ?_) (fun h => ?_)
     ·refine Tri.sg [6,7] [6] (z00 3) ?_
      refine Tri.keep [6,7] [6] (s':=⟨[(6,.c (.ptr 6 0)),(7,cD (dI 1))],[(6,.box [.zero,.zero,.d (dI 0),.d (dI 0),.zero,.zero])]⟩) (by kernel_rfl) ?_
      refine Tri.le [] (fun k hk=>by cases hk) ⟨[(6,.c (.ptr 6 0)),(7,cD (dI 1))],[(6,.box [.d (lD 6 z01 ([]:List Update)),.d (lD 6 z01 ([]:List Update)),.d (dI 0),.d (dI 0),.d (lD 3 z02 ([]:List Time)),.d (lD 6 z01 ([]:List Update))])]⟩ ⟨⟨_,rfl,.refl _⟩,⟨_,rfl,.refl _⟩,trivial⟩ ⟨⟨_,rfl,.box (.cons (.zero _ _) (.cons (.zero _ _) (.cons (.refl _) (.cons (.refl _) (.cons (.zero _ _) (.cons (.zero _ _) .nil)))))),(by simp)⟩,trivial⟩ ?_
      refine Tri.ret ?_
      cases h
      exact RetAt.k
     ·refine Tri.skip ?_
      refine Tri.seqS ?_
      refine Tri.reg ?_
      refine At.sg 6 [6,36] [6] (z00 6) ?_
      obtain ⟨r5,hr5,h⟩:=z04 h
      refine At.cA [] [.agg [.d (lD 6 z01 p1.updates),.d (lD 6 z01 p2.updates),.d (dI 0),.d (dI 0),.d (lD 3 z02 p0),.zero]] (zcc hr5) (.cons (.agg (.cons (.le (.refl _)) (.cons (.le (.refl _)) (.cons (.le (.refl _)) (.cons (.le (.refl _)) (.cons (.le (.refl _)) (.cons (.le (.zero _ _)) .nil))))))) .nil) ?_
      refine At.sg 2 [6,7] [6] (z00 2) ?_
      refine At.done rfl ?_
      refine Tri.ret ?_
      cases h
      exact RetAt.k
    ·refine Tri.seqS ?_
     refine Tri.reg ?_
     refine At.sg 3 [0,4,5,6,20,22] [4,5,6] (z00 3) ?_
     obtain ⟨r6,hr6,h⟩:=z04 h
     refine At.cA [] [cD (lD 3 z02 p0),cD (lD 3 z02 p1.since)] (z87 hr6) (.cons (.refl _) (.cons (.refl _) .nil)) ?_
     refine At.sg 2 [0,4,5,6,19] [4,5,6] (z00 2) ?_
     refine At.done rfl ?_
     refine Tri.condK h (fun h => ?_) (fun h => ?_)
     ·refine Tri.kp [0,4,5,6,19] [4,5,6] ?_
      refine Tri.skip ?_
      exact ⟨_,h,kr⟩
     ·refine Tri.reg ?_
      refine At.sg 3 [0,4,5,6,25,27] [4,5,6] (z00 3) ?_
      obtain ⟨r7,hr7,h⟩:=z04 h
      refine At.cA [] [cD (lD 3 z02 p0),cD (lD 3 z02 p2.since)] (z87 hr7) (.cons (.refl _) (.cons (.refl _) .nil)) ?_
      refine At.sg 2 [0,4,5,6,19] [4,5,6] (z00 2) ?_
      refine At.done rfl ?_
      exact ⟨_,h,kr⟩
  ·refine Tri.seqS ?_
   refine Tri.reg ?_
   refine At.sg 1 [0,4,5,6,9] [4,5,6] (z00 1) ?_
   obtain ⟨r8,hr8,h⟩:=z04 h
   refine At.cA [] [.agg (cBatch p1)] (z89 hr8) (.cons (.refl _) .nil) ?_
   refine At.sg 2 [0,4,5,6,8] [4,5,6] (z00 2) ?_
   refine At.done rfl ?_
   refine Tri.condK h (fun h => ?_) (fun h => ?_)
   ·refine Tri.kp [0,4,5,6,8] [4,5,6] ?_
    refine Tri.skip ?_
    exact ⟨_,h,kr⟩
   ·refine Tri.seqS ?_
    refine Tri.reg ?_
    refine At.sg 1 [0,4,5,6,12] [4,5,6] (z00 1) ?_
    obtain ⟨r9,hr9,h⟩:=z04 h
    refine At.cA [] [.agg (cBatch p2)] (z89 hr9) (.cons (.refl _) .nil) ?_
    refine At.sg 2 [0,4,5,6,8] [4,5,6] (z00 2) ?_
    refine At.done rfl ?_
    refine Tri.condK h (fun h => ?_) (fun h => ?_)
    ·refine Tri.kp [0,4,5,6,8] [4,5,6] ?_
     refine Tri.skip ?_
     exact ⟨_,h,kr⟩
    ·refine Tri.reg ?_
     refine At.sg 1 [0,4,5,6,15] [4,5,6] (z00 1) ?_
     obtain ⟨r10,hr10,h⟩:=z04 h
     refine At.cA [] [cD (lD 3 z02 p0)] (z74 hr10) (.cons (.refl _) .nil) ?_
     refine At.sg 2 [0,4,5,6,8] [4,5,6] (z00 2) ?_
     refine At.done rfl ?_
     exact ⟨_,h,kr⟩
theorem z7d {p0:Update} {p1:Update} {q:Int} (h:z4u p0 p1=some q) :
  Summ Tryz.prog 95 [.agg (cUpdate p0),.agg (cUpdate p1)] [] (cD (dI q)) []:=by
 refine Summ.intro Tryz.func95 rfl (by kernel_rfl) (by kernel_rfl) [] rfl ?_
 rintro ⟨P,w0,G0,V,LL,lk,N, φ0,fx⟩ rfl rfl rfl rfl
 unfold z4u at h
 refine Tri.sg [2,3] [2,3] (z00 3) ?_
 refine Tri.seqS ?_
 obtain ⟨r1,hr1,h⟩:=z04 h
 obtain ⟨r2,hr2,h⟩:=z04 h
 obtain ⟨r3,hr3,h⟩:=z04 h
 refine Tri.dC [.a [2] [],.a [5] [2],.a [3] [],.a [7] [3],.m ⟨[(6,cD (lD 3 z05 p0.key)),(8,cD (lD 3 z05 p1.key))],[]⟩ ⟨[(9,cD (dI r1))],[]⟩ [] [] [],.a [2] [],.a [10] [2],.a [3] [],.a [12] [3],.m ⟨[(11,cD (lD 3 z05 p0.row)),(13,cD (lD 3 z05 p1.row))],[]⟩ ⟨[(14,cD (dI r2))],[]⟩ [] [] [],.m ⟨[(9,cD (dI r1)),(14,cD (dI r2))],[]⟩ ⟨[(15,.c (oC 15 1 ([r1,r2]:List Int)))],[(15,vL 1 (z1a .i64) ([r1,r2]:List Int))]⟩ [15] [] [],.m ⟨[(15,.c (oC 15 1 ([r1,r2]:List Int)))],[(15,vL 1 (z1a .i64) ([r1,r2]:List Int))]⟩ ⟨[(16,cD (dI r3))],[]⟩ [] [] [],.a [16] []] [4] [] (z00 9) (.a (.a (.a (.a (.m ?_ (.a (.a (.a (.a (.m ?_ (.m ?_ (.m ?_ (.a .z))))))))))))) ?_
 ·exact DOk.cA [] [cD (lD 3 z05 p0.key),cD (lD 3 z05 p1.key)] (z7g hr1) fun r=>(.cons (.refl _) (.cons (.refl _) .nil))
 ·exact DOk.cA [] [cD (lD 3 z05 p0.row),cD (lD 3 z05 p1.row)] (z7g hr2) fun r=>(.cons (.refl _) (.cons (.refl _) .nil))
 ·exact DOk.one fun r hr=>One.buildT (e:=3) (es:=1) (z:=[.d (dI 0)]) (cells:=[.d (dI r1),.d (dI r2)]) (z1a .i64) ([r1,r2]:List Int) rfl (by kernel_rfl) rfl rfl (St.noRef_app (by kernel_rfl) (hr 15 (by simp))) (by kernel_rfl) rfl (by kernel_rfl) rfl rfl rfl (by kernel_rfl) rfl ⟨⟨rfl,.refl _⟩,⟨rfl,.refl _⟩,trivial⟩
 ·exact DOk.cA [] [.c (oC 15 1 ([r1,r2]:List Int))] (z7j hr3) fun r=>(.cons (AVArg.view (z1a .i64) ([r1,r2]:List Int) rfl) .nil)
 refine Tri.ret ?_
 cases h
 exact RetAt.k
theorem zcy {p0:List Update} {p1:Int} {p2:List Update} {q:Bool} (h:z7m p0 p1 p2=some q) :
    Summ Tryz.prog 60 [cD (lD 6 z01 p0),cD (dI p1),cD (lD 6 z01 p2)] [] (cD (.bool q)) []:=by
  refine Summ.intro Tryz.func60 rfl (by kernel_rfl) (by kernel_rfl) [] rfl ?_
  rintro ⟨P,w0,G0,V,LL,lk,N, φ0,fx⟩ rfl rfl rfl rfl
  unfold z7m at h
  refine Tri.sg [0,1,2] [] (z00 1) ?_
  refine Tri.seqS ?_
  refine Tri.seqJ (fun (a1:Bool)=>⟨[(0,cD (lD 6 z01 p0)),(1,cD (dI p1)),(2,cD (lD 6 z01 p2)),(14,cD (.bool a1))],[]⟩) h (fun a1 h => ?_) (fun j2 h => ?_)
  ·refine Tri.condK h (fun h => ?_) (fun h => ?_)
   ·refine Tri.sg [6] [] (z00 1) ?_
    refine Tri.ret ?_
    cases h
    exact RetAt.k
   ·refine Tri.skip ?_
    refine Tri.seqS ?_
    refine Tri.segL [0,1,2,18] [] ⟨[(0,cD (lD 6 z01 p0)),(1,cD (dI p1)),(2,cD (lD 6 z01 p2)),(18,cD (.bool (decide (p1=(p0.length:Int)))))],[]⟩ _ (by kernel_rfl) (z00 4) ?_
    refine Tri.condK h (fun h => ?_) (fun h => ?_)
    ·refine Tri.sg [6] [] (z00 1) ?_
     refine Tri.ret ?_
     cases h
     exact RetAt.k
    ·refine Tri.skip ?_
     refine Tri.seqS ?_
     refine Tri.seqJ (fun (a3:Bool)=>⟨[(0,cD (lD 6 z01 p0)),(1,cD (dI p1)),(2,cD (lD 6 z01 p2)),(33,cD (.bool a3))],[]⟩) h (fun a3 h => ?_) (fun j4 h => ?_)
     ·refine Tri.eqS ⟨[(0,cD (lD 6 z01 p0)),(1,cD (dI p1)),(2,cD (lD 6 z01 p2)),(33,cD (.bool a3))],[]⟩ kr ?_
      refine Tri.condK h (fun h => ?_) (fun h => ?_)
      ·refine Tri.sg [6] [] (z00 1) ?_
       refine Tri.ret ?_
       cases h
       exact RetAt.k
      ·refine Tri.skip ?_
       refine Tri.seqJ (fun (a5:Bool)=>⟨[(6,cD (.bool a5))],[]⟩) h (fun a5 h => ?_) (fun j6 h => ?_)
       ·refine Tri.ret ?_
        cases h
        exact RetAt.k
       ·rcases z27 h with ⟨hp7,h⟩ | ⟨hp7,h⟩
        ·refine Tri.dC [.a [2] [],.a [34] [],.a [35] [],.m ⟨[(36,cD (.bool (decide ((p2.length:Int)=0))))],[]⟩ ⟨[(37,.c (.d (.bool true)))],[]⟩ [] [] [],.a [2,37] [],.a [2,37] [],.a [37,39] [],.a [37,40] [],.a [37,38,41] [],.a [37,42] [],.a [0,37] [],.a [1,37] [],.a [37,44,45] [],.a [37,46] [],.a [37,43,47] [],.a [37,48] [],.a [37,49] [],.a [50] []] [6] [] (z00 5) (.a (.a (.a (.m ?_ (.a (.a (.a (.a (.a (.a (.a (.a (.a (.a (.a (.a (.a (.a .z)))))))))))))))))) ?_
         · exact DOk.stepP (fun b => .val (.c (.d (.bool b))) (True)) (p:=(decide ((p2.length:Int)=0))) hp7 (fun r=>by kernel_rfl) (fun r=>by kernel_rfl) trivial (by kernel_rfl) (by kernel_rfl) (fun r=>rfl)
         exact ⟨_,h,kr⟩
        ·obtain ⟨hc8,h⟩:=z03 h
         obtain ⟨hc9,h⟩:=z03 h
         obtain ⟨r10,hr10,h⟩:=z04 h
         refine Tri.dC [.a [2] [],.a [34] [],.a [35] [],.m ⟨[(36,cD (.bool (decide ((p2.length:Int)=0))))],[]⟩ ⟨[(37,.c (.d (.bool false)))],[]⟩ [] [] [],.a [2,37] [],.a [2,37] [],.a [37,39] [],.a [37,40] [],.a [37,38,41] [],.a [37,42] [],.a [0,37] [],.a [1,37] [],.a [37,44,45] [],.a [37,46] [],.m ⟨[(37,cD (.bool false)),(43,.agg (cUpdate (p2.getD ((IntKind.i64.wrap ((p2.length:Int) - 1)).toNat) default))),(47,.agg (cUpdate (p0.getD p1.toNat default)))],[]⟩ ⟨[(48,cD (dI r10))],[]⟩ [] [] [],.a [37,48] [],.a [37,49] [],.a [50] []] [6] [] (tN 7 (ai hc8 (tN 3 (ai hc9 (z00 4))))) (.a (.a (.a (.m ?_ (.a (.a (.a (.a (.a (.a (.a (.a (.a (.a (.m ?_ (.a (.a (.a .z)))))))))))))))))) ?_
         · exact DOk.stepP (fun b => .val (.c (.d (.bool b))) (True)) (p:=(decide ((p2.length:Int)=0))) hp7 (fun r=>by kernel_rfl) (fun r=>by kernel_rfl) trivial (by kernel_rfl) (by kernel_rfl) (fun r=>rfl)
         · exact DOk.cA [] [.agg (cUpdate (p2.getD ((IntKind.i64.wrap ((p2.length:Int) - 1)).toNat) default)),.agg (cUpdate (p0.getD p1.toNat default))] (z7d hr10) fun r=>(.cons (.refl _) (.cons (.refl _) .nil))
         exact ⟨_,h,kr⟩
     ·rcases z27 h with ⟨hp11,h⟩ | ⟨hp11,h⟩
      ·obtain ⟨hc12,h⟩:=z03 h
       obtain ⟨hc13,h⟩:=z03 h
       obtain ⟨r14,hr14,h⟩:=z04 h
       refine Tri.dC [.a [1] [],.a [19] [],.m ⟨[(20,cD (.bool (decide (0 < p1))))],[]⟩ ⟨[(21,.c (.d (.bool true)))],[]⟩ [] [] [],.a [0,21] [],.a [1,21] [],.a [21,23] [],.a [21,22,24] [],.a [21,25] [],.a [0,21] [],.a [1,21] [],.a [21,27,28] [],.a [21,29] [],.m ⟨[(21,cD (.bool true)),(26,.agg (cUpdate (p0.getD ((IntKind.i64.wrap (p1 - 1)).toNat) default))),(30,.agg (cUpdate (p0.getD p1.toNat default)))],[]⟩ ⟨[(31,cD (dI r14))],[]⟩ [] [] [],.a [21,31] [],.a [21,32] []] [0,1,2,33] [] (tN 5 (ai hc12 (tN 3 (ai hc13 (z00 3))))) (.a (.a (.m ?_ (.a (.a (.a (.a (.a (.a (.a (.a (.a (.m ?_ (.a (.a .z))))))))))))))) ?_
       · exact DOk.stepP (fun b => .val (.c (.d (.bool b))) (True)) (p:=(decide (0 < p1))) hp11 (fun r=>by kernel_rfl) (fun r=>by kernel_rfl) trivial (by kernel_rfl) (by kernel_rfl) (fun r=>rfl)
       · exact DOk.cA [] [.agg (cUpdate (p0.getD ((IntKind.i64.wrap (p1 - 1)).toNat) default)),.agg (cUpdate (p0.getD p1.toNat default))] (z7d hr14) fun r=>(.cons (.refl _) (.cons (.refl _) .nil))
       exact ⟨_,h,kr⟩
      ·refine Tri.dC [.a [1] [],.a [19] [],.m ⟨[(20,cD (.bool (decide (0 < p1))))],[]⟩ ⟨[(21,.c (.d (.bool false)))],[]⟩ [] [] [],.a [0,21] [],.a [1,21] [],.a [21,23] [],.a [21,22,24] [],.a [21,25] [],.a [0,21] [],.a [1,21] [],.a [21,27,28] [],.a [21,29] [],.a [21,26,30] [],.a [21,31] [],.a [21,32] []] [0,1,2,33] [] (z00 3) (.a (.a (.m ?_ (.a (.a (.a (.a (.a (.a (.a (.a (.a (.a (.a (.a .z))))))))))))))) ?_
       · exact DOk.stepP (fun b => .val (.c (.d (.bool b))) (True)) (p:=(decide (0 < p1))) hp11 (fun r=>by kernel_rfl) (fun r=>by kernel_rfl) trivial (by kernel_rfl) (by kernel_rfl) (fun r=>rfl)
       exact ⟨_,h,kr⟩
  ·refine Tri.reg ?_
   refine At.sg 3 [0,1,2,9] [] (z00 3) ?_
   refine At.cs [9] h (fun h => ?_) (fun h => ?_)
   ·refine At.sg 5 [0,1,2,14] [] (z00 1) ?_
    refine At.done rfl ?_
    exact ⟨_,h,kr⟩
   ·refine At.sg 5 [0,1,2,14] [] (z00 5) ?_
    refine At.done rfl ?_
    exact ⟨_,h,kr⟩
theorem z6b {fuel:Nat} {p0:Merger} {q:Int} (h:z3d fuel p0=some q) :
    Summ Tryz.prog 27 [.agg (cMerger p0)] [] (cD (dI q)) []:=by
  refine Summ.intro Tryz.func27 rfl (by kernel_rfl) (by kernel_rfl) [] rfl ?_
  rintro ⟨P,w0,G0,V,LL,lk,N, φ0,fx⟩ rfl rfl rfl rfl
  unfold z3d at h
  refine Tri.sg [1] [1] (z00 2) ?_
  refine Tri.seqJ (fun (a1:Bool)=>⟨[(1,.c (.ptr 1 0)),(3,cD (.bool a1))],[(1,.box (cMerger p0))]⟩) h (fun a1 h => ?_) (fun j2 h => ?_)
  ·refine Tri.seqS ?_
   refine Tri.seqJ (fun (a3:Bool)=>⟨[(45,cD (.bool a3))],[]⟩) h (fun a3 h => ?_) (fun j4 h => ?_)
   ·refine Tri.condK h (fun h => ?_) (fun h => ?_)
    ·refine Tri.sg [2] [] (z00 1) ?_
     refine Tri.ret ?_
     cases h
     exact RetAt.k
    ·refine Tri.skip ?_
     refine Tri.sg [2] [] (z00 1) ?_
     refine Tri.ret ?_
     cases h
     exact RetAt.k
   ·refine Tri.reg ?_
    refine At.sg 3 [1,26] [1] (z00 3) ?_
    refine At.cs [26] h (fun h => ?_) (fun h => ?_)
    ·refine At.sg 19 [45] [] (z00 3) ?_
     refine At.done rfl ?_
     exact ⟨_,h,kr⟩
    ·refine At.sg 6 [1,26,28,30,32] [1] (z00 6) ?_
     obtain ⟨r5,hr5,h⟩:=z04 h
     refine At.cA [] [cD (lD 6 z01 p0.a),cD (dI p0.i),cD (lD 6 z01 p0.out)] (zcy hr5) (.cons (.refl _) (.cons (.refl _) (.cons (.refl _) .nil))) ?_
     refine At.sg 3 [1,36] [1] (z00 3) ?_
     refine At.cs [36] h (fun h => ?_) (fun h => ?_)
     ·refine At.sg 9 [45] [] (z00 1) ?_
      refine At.done rfl ?_
      exact ⟨_,h,kr⟩
     ·refine At.sg 6 [36,38,40,42] [] (z00 6) ?_
      obtain ⟨r6,hr6,h⟩:=z04 h
      refine At.cA [] [cD (lD 6 z01 p0.b),cD (dI p0.j),cD (lD 6 z01 p0.out)] (zcy hr6) (.cons (.refl _) (.cons (.refl _) (.cons (.refl _) .nil))) ?_
      refine At.sg 2 [45] [] (z00 2) ?_
      refine At.done rfl ?_
      exact ⟨_,h,kr⟩
  ·refine Tri.reg ?_
   refine At.sg 2 [1,5] [1] (z00 2) ?_
   obtain ⟨r7,hr7,h⟩:=z04 h
   refine At.cA [] [cD (lD 3 z02 p0.since)] (z74 hr7) (.cons (.refl _) .nil) ?_
   refine At.sg 1 [1,7] [1] (z00 1) ?_
   refine At.cs [7] h (fun h => ?_) (fun h => ?_)
   ·refine At.sg 2 [1,7,9] [1] (z00 2) ?_
    obtain ⟨r8,hr8,h⟩:=z04 h
    refine At.cA [] [cD (lD 6 z01 p0.a)] (z9k hr8) (.cons (.refl _) .nil) ?_
    refine At.sg 2 [1,12] [1] (z00 2) ?_
    refine At.cs [12] h (fun h => ?_) (fun h => ?_)
    ·refine At.sg 2 [1,12,14] [1] (z00 2) ?_
     obtain ⟨r9,hr9,h⟩:=z04 h
     refine At.cA [] [cD (lD 6 z01 p0.b)] (z9k hr9) (.cons (.refl _) .nil) ?_
     refine At.sg 2 [1,17] [1] (z00 2) ?_
     refine At.cs [17] h (fun h => ?_) (fun h => ?_)
     ·refine At.sg 4 [1,17,19,21] [1] (z00 4) ?_
      obtain ⟨r10,hr10,h⟩:=z04 h
      refine At.cA [] [cD (lD 6 z01 p0.out),cD (lD 3 z02 p0.since)] (za3 hr10) (.cons (.refl _) (.cons (.refl _) .nil)) ?_
      refine At.sg 2 [1,3] [1] (z00 2) ?_
      refine At.done rfl ?_
      exact ⟨_,h,kr⟩
     ·refine At.sg 7 [1,3] [1] (z00 2) ?_
      refine At.done rfl ?_
      exact ⟨_,h,kr⟩
    ·refine At.sg 12 [1,3] [1] (z00 4) ?_
     refine At.done rfl ?_
     exact ⟨_,h,kr⟩
   ·refine At.sg 17 [1,3] [1] (z00 6) ?_
    refine At.done rfl ?_
    exact ⟨_,h,kr⟩
theorem zgu {p0:List Update} {q:List Update} (h:z60 p0=some q) :
    Summ Tryz.prog 92 [cD (lD 6 z01 p0)] [] (.c (oC 6000 6 q)) [(6000,vL 6 z01 q)]:=by
  refine Summ.intro Tryz.func92 rfl (by kernel_rfl) (by kernel_rfl) [6000] rfl ?_
  rintro ⟨P,w0,G0,V,LL,lk,N, φ0,fx⟩ rfl rfl rfl rfl
  unfold z60 at h
  refine Tri.sg [0] [] (z00 1) ?_
  refine Tri.seqS ?_
  refine Tri.reg ?_
  refine At.seg 2 [0,6] [] (s':=⟨[(0,cD (lD 6 z01 p0)),(6,cD (dI (p0.length:Int)))],[]⟩) (by kernel_rfl) (z00 2) ?_
  obtain ⟨hc1,h⟩:=z03 h
  refine At.one rfl (One.makeT (e:=56) (es:=6) (bs:=80) (n:=(p0.length:Int)) (c:=(p0.length:Int)) (z:=[.zero,.zero,.d (dU 0),.d (dU 0),.d (dU 0),.d (dI 0)]) (z01) ((⟨([]:List Value),([]:List Value),(⟨0,(0,0)⟩:Time),0⟩:Update):Update) rfl rfl rfl rfl (by kernel_rfl) rfl rfl rfl (by kernel_rfl) rfl (by kernel_rfl) rfl (.cons (.zero _ _) (.cons (.zero _ _) (.cons (.refl _) (.cons (.refl _) (.cons (.refl _) (.cons (.refl _) .nil)))))) rfl rfl rfl hc1.1 hc1.2.1 hc1.2.2 rfl) ?_
  refine At.sg 1 [0,3] [7] (z00 1) ?_
  refine At.done rfl ?_
  refine Tri.seqS ?_
  refine Tri.reg ?_
  refine At.seg 2 [3,8,9] [7] (s':=⟨[(3,.c (oC 7 6 (List.replicate p0.length ((⟨([]:List Value),([]:List Value),(⟨0,(0,0)⟩:Time),0⟩:Update):Update)))),(8,.c (oC 7 6 (List.replicate p0.length ((⟨([]:List Value),([]:List Value),(⟨0,(0,0)⟩:Time),0⟩:Update):Update)))),(9,cD (lD 6 z01 p0))],[(7,vL 6 z01 (List.replicate p0.length ((⟨([]:List Value),([]:List Value),(⟨0,(0,0)⟩:Time),0⟩:Update):Update)))]⟩) (by kernel_rfl) (z00 2) ?_
  obtain ⟨hc2,h⟩:=z03 h
  refine At.one rfl (One.copyT (e:=56) (es:=6) (z01) (List.replicate p0.length ((⟨([]:List Value),([]:List Value),(⟨0,(0,0)⟩:Time),0⟩:Update):Update)) p0 rfl rfl rfl rfl rfl rfl rfl rfl (.list rfl (fun _ _=>rfl)) hc2) ?_
  refine At.keep [3,10] [7] (s':=⟨[(3,.c (oC 7 6 (List.replicate p0.length ((⟨([]:List Value),([]:List Value),(⟨0,(0,0)⟩:Time),0⟩:Update):Update)))),(10,cD (dI ((p0.length:Nat):Int)))],[(7,vL 6 z01 (copyL (List.replicate p0.length ((⟨([]:List Value),([]:List Value),(⟨0,(0,0)⟩:Time),0⟩:Update):Update)) p0))]⟩) (by kernel_rfl) ?_
  refine At.eqS (s':=⟨[(3,.c (oC 7 6 (copyL (List.replicate p0.length ((⟨([]:List Value),([]:List Value),(⟨0,(0,0)⟩:Time),0⟩:Update):Update)) p0))),(10,cD (dI ((p0.length:Nat):Int)))],[(7,vL 6 z01 (copyL (List.replicate p0.length ((⟨([]:List Value),([]:List Value),(⟨0,(0,0)⟩:Time),0⟩:Update):Update)) p0))]⟩) (by simp only [oC,vL,za4 hc2]) ?_
  refine At.done rfl ?_
  refine Tri.seqS ?_
  refine Tri.segL [3,12,13] [7] ⟨[(3,.c (oC 7 6 (copyL (List.replicate p0.length ((⟨([]:List Value),([]:List Value),(⟨0,(0,0)⟩:Time),0⟩:Update):Update)) p0))),(12,cD (dI ((copyL (List.replicate p0.length ((⟨([]:List Value),([]:List Value),(⟨0,(0,0)⟩:Time),0⟩:Update):Update)) p0).length:Int))),(13,cD (dI 0))],[(7,vL 6 z01 (copyL (List.replicate p0.length ((⟨([]:List Value),([]:List Value),(⟨0,(0,0)⟩:Time),0⟩:Update):Update)) p0))]⟩ _ (by kernel_rfl) (z00 3) ?_
  refine Tri.lenOfO (t:=3) rfl rfl (Nat.le_refl _) fun hlena4 => ?_
  refine Tri.rK 13 (copyL (List.replicate p0.length ((⟨([]:List Value),([]:List Value),(⟨0,(0,0)⟩:Time),0⟩:Update):Update)) p0) (fun (x:Empty) s=>False) (fun (a4:List Update)=>⟨[(3,.c (oC 7 6 a4)),(12,cD (dI ((copyL (List.replicate p0.length ((⟨([]:List Value),([]:List Value),(⟨0,(0,0)⟩:Time),0⟩:Update):Update)) p0).length:Int)))],[(7,vL 6 z01 a4)]⟩) [13,3,12] [7] [14,13,3,12] [7] [3,12] [7] [13,3,12] [7] h hlena4 ?_ ?_ ?_
  ·intro i3 a4 c hii3 h
   refine Tri.segL [3,4,12,13] [7] ⟨[(3,.c (oC 7 6 a4)),(4,cD (dI ((i3:Nat):Int))),(12,cD (dI ((copyL (List.replicate p0.length ((⟨([]:List Value),([]:List Value),(⟨0,(0,0)⟩:Time),0⟩:Update):Update)) p0).length:Int))),(13,cD (dI ((i3:Nat):Int)))],[(7,vL 6 z01 a4)]⟩ _ (by kernel_rfl) (z00 2) ?_
   obtain ⟨hc6,h⟩:=z03 h
   obtain ⟨hc7,h⟩:=z03 h
   obtain ⟨r8,hr8,h⟩:=z04 h
   obtain ⟨hc9,h⟩:=z03 h
   obtain ⟨hc10,h⟩:=z03 h
   obtain ⟨r11,hr11,h⟩:=z04 h
   obtain ⟨hc12,h⟩:=z03 h
   obtain ⟨hc13,h⟩:=z03 h
   obtain ⟨hc14,h⟩:=z03 h
   obtain ⟨hc15,h⟩:=z03 h
   refine Tri.afterA ⟨[(3,.c (oC 7 6 a4)),(12,cD (dI ((copyL (List.replicate p0.length ((⟨([]:List Value),([]:List Value),(⟨0,(0,0)⟩:Time),0⟩:Update):Update)) p0).length:Int))),(13,cD (dI ((i3:Nat):Int)))],[(7,vL 6 z01 ((a4.set (0 + i3) (⟨r8,(a4.getD (0 + i3) default).row,(a4.getD (0 + i3) default).time,(a4.getD (0 + i3) default).diff⟩:Update)).set (0 + i3) (⟨((a4.set (0 + i3) (⟨r8,(a4.getD (0 + i3) default).row,(a4.getD (0 + i3) default).time,(a4.getD (0 + i3) default).diff⟩:Update)).getD (0 + i3) default).key,r11,((a4.set (0 + i3) (⟨r8,(a4.getD (0 + i3) default).row,(a4.getD (0 + i3) default).time,(a4.getD (0 + i3) default).diff⟩:Update)).getD (0 + i3) default).time,((a4.set (0 + i3) (⟨r8,(a4.getD (0 + i3) default).row,(a4.getD (0 + i3) default).time,(a4.getD (0 + i3) default).diff⟩:Update)).getD (0 + i3) default).diff⟩:Update)))]⟩ ?_ ?_
   ·refine Tri.dS ⟨[(3,.c (oC 7 6 a4)),(12,cD (dI ((copyL (List.replicate p0.length ((⟨([]:List Value),([]:List Value),(⟨0,(0,0)⟩:Time),0⟩:Update):Update)) p0).length:Int))),(13,cD (dI ((i3:Nat):Int)))],[(7,vL 6 z01 ((a4.set (0 + i3) (⟨r8,(a4.getD (0 + i3) default).row,(a4.getD (0 + i3) default).time,(a4.getD (0 + i3) default).diff⟩:Update)).set (0 + i3) (⟨((a4.set (0 + i3) (⟨r8,(a4.getD (0 + i3) default).row,(a4.getD (0 + i3) default).time,(a4.getD (0 + i3) default).diff⟩:Update)).getD (0 + i3) default).key,r11,((a4.set (0 + i3) (⟨r8,(a4.getD (0 + i3) default).row,(a4.getD (0 + i3) default).time,(a4.getD (0 + i3) default).diff⟩:Update)).getD (0 + i3) default).time,((a4.set (0 + i3) (⟨r8,(a4.getD (0 + i3) default).row,(a4.getD (0 + i3) default).time,(a4.getD (0 + i3) default).diff⟩:Update)).getD (0 + i3) default).diff⟩:Update)))]⟩ [.a [3] [],.a [4] [],.a [3] [],.a [4] [],.a [3] [],.a [4] [],.a [20,21] [7],.a [22] [],.a [23] [7],.m ⟨[(24,cD (lD 3 z05 ((a4.getD (0 + i3) default).key)))],[]⟩ ⟨[(25,cD (lD 3 z05 r8))],[]⟩ [] [] [],.a [3] [],.a [4] [],.a [26,27] [7],.a [28] [],.a [29] [7],.m ⟨[(30,cD (lD 3 z05 ((a4.getD (0 + i3) default).row)))],[]⟩ ⟨[(31,cD (lD 3 z05 r11))],[]⟩ [] [] [],.a [16,17] [7],.a [32] [],.m ⟨[(25,cD (lD 3 z05 r8)),(33,.c (.vptr 7 6 (0 + i3) 0))],[(7,vL 6 z01 a4)]⟩ ⟨[],[(7,vL 6 z01 (a4.set (0 + i3) (⟨r8,(a4.getD (0 + i3) default).row,(a4.getD (0 + i3) default).time,(a4.getD (0 + i3) default).diff⟩:Update)))]⟩ [] [] [],.a [18,19] [7],.a [34] [],.m ⟨[(31,cD (lD 3 z05 r11)),(35,.c (.vptr 7 6 (0 + i3) 1))],[(7,vL 6 z01 (a4.set (0 + i3) (⟨r8,(a4.getD (0 + i3) default).row,(a4.getD (0 + i3) default).time,(a4.getD (0 + i3) default).diff⟩:Update)))]⟩ ⟨[],[(7,vL 6 z01 ((a4.set (0 + i3) (⟨r8,(a4.getD (0 + i3) default).row,(a4.getD (0 + i3) default).time,(a4.getD (0 + i3) default).diff⟩:Update)).set (0 + i3) (⟨((a4.set (0 + i3) (⟨r8,(a4.getD (0 + i3) default).row,(a4.getD (0 + i3) default).time,(a4.getD (0 + i3) default).diff⟩:Update)).getD (0 + i3) default).key,r11,((a4.set (0 + i3) (⟨r8,(a4.getD (0 + i3) default).row,(a4.getD (0 + i3) default).time,(a4.getD (0 + i3) default).diff⟩:Update)).getD (0 + i3) default).time,((a4.set (0 + i3) (⟨r8,(a4.getD (0 + i3) default).row,(a4.getD (0 + i3) default).time,(a4.getD (0 + i3) default).diff⟩:Update)).getD (0 + i3) default).diff⟩:Update)))]⟩ [] [] []] [3,12,13] [7] (tN 6 (ai hc6 (tN 1 (ai hc7 (tN 2 (ai hc9 (tN 1 (ai hc10 (ai hc12 (tN 1 (ai hc14 (z00 1)))))))))))) (.a (.a (.a (.a (.a (.a (.a (.a (.a (.m ?_ (.a (.a (.a (.a (.a (.m ?_ (.a (.a (.m ?_ (.a (.a (.m ?_ .z)))))))))))))))))))))) ?_
    · exact DOk.cA [] [cD (lD 3 z05 ((a4.getD (0 + i3) default).key))] (z1h hr8) fun r=>(.cons (.refl _) .nil)
    · exact DOk.cA [] [cD (lD 3 z05 ((a4.getD (0 + i3) default).row))] (z1h hr11) fun r=>(.cons (.refl _) .nil)
    · exact DOk.one fun r hr=>One.storeT (xs:=[.d (lD 3 z05 r8)]) (ds:=[lD 3 z05 r8]) (z01) a4 (⟨r8,(a4.getD (0 + i3) default).row,(a4.getD (0 + i3) default).time,(a4.getD (0 + i3) default).diff⟩:Update) rfl (by kernel_rfl) rfl rfl rfl hc13 rfl rfl (.refl _) rfl rfl rfl rfl
    · exact DOk.one fun r hr=>One.storeT (xs:=[.d (lD 3 z05 r11)]) (ds:=[lD 3 z05 r11]) (z01) (a4.set (0 + i3) (⟨r8,(a4.getD (0 + i3) default).row,(a4.getD (0 + i3) default).time,(a4.getD (0 + i3) default).diff⟩:Update)) (⟨((a4.set (0 + i3) (⟨r8,(a4.getD (0 + i3) default).row,(a4.getD (0 + i3) default).time,(a4.getD (0 + i3) default).diff⟩:Update)).getD (0 + i3) default).key,r11,((a4.set (0 + i3) (⟨r8,(a4.getD (0 + i3) default).row,(a4.getD (0 + i3) default).time,(a4.getD (0 + i3) default).diff⟩:Update)).getD (0 + i3) default).time,((a4.set (0 + i3) (⟨r8,(a4.getD (0 + i3) default).row,(a4.getD (0 + i3) default).time,(a4.getD (0 + i3) default).diff⟩:Update)).getD (0 + i3) default).diff⟩:Update) rfl (by kernel_rfl) rfl rfl rfl hc15 rfl rfl (.refl _) rfl rfl rfl rfl
    exact ⟨rfl,rfl⟩
   ·refine At.eqS (s':=⟨[(3,.c (oC 7 6 ((a4.set (0 + i3) (⟨r8,(a4.getD (0 + i3) default).row,(a4.getD (0 + i3) default).time,(a4.getD (0 + i3) default).diff⟩:Update)).set (0 + i3) (⟨((a4.set (0 + i3) (⟨r8,(a4.getD (0 + i3) default).row,(a4.getD (0 + i3) default).time,(a4.getD (0 + i3) default).diff⟩:Update)).getD (0 + i3) default).key,r11,((a4.set (0 + i3) (⟨r8,(a4.getD (0 + i3) default).row,(a4.getD (0 + i3) default).time,(a4.getD (0 + i3) default).diff⟩:Update)).getD (0 + i3) default).time,((a4.set (0 + i3) (⟨r8,(a4.getD (0 + i3) default).row,(a4.getD (0 + i3) default).time,(a4.getD (0 + i3) default).diff⟩:Update)).getD (0 + i3) default).diff⟩:Update)))),(12,cD (dI ((copyL (List.replicate p0.length ((⟨([]:List Value),([]:List Value),(⟨0,(0,0)⟩:Time),0⟩:Update):Update)) p0).length:Int))),(13,cD (dI ((i3:Nat):Int)))],[(7,vL 6 z01 ((a4.set (0 + i3) (⟨r8,(a4.getD (0 + i3) default).row,(a4.getD (0 + i3) default).time,(a4.getD (0 + i3) default).diff⟩:Update)).set (0 + i3) (⟨((a4.set (0 + i3) (⟨r8,(a4.getD (0 + i3) default).row,(a4.getD (0 + i3) default).time,(a4.getD (0 + i3) default).diff⟩:Update)).getD (0 + i3) default).key,r11,((a4.set (0 + i3) (⟨r8,(a4.getD (0 + i3) default).row,(a4.getD (0 + i3) default).time,(a4.getD (0 + i3) default).diff⟩:Update)).getD (0 + i3) default).time,((a4.set (0 + i3) (⟨r8,(a4.getD (0 + i3) default).row,(a4.getD (0 + i3) default).time,(a4.getD (0 + i3) default).diff⟩:Update)).getD (0 + i3) default).diff⟩:Update)))]⟩) (by simp only [oC,vL,List.length_set]) ?_
    refine At.keep [13,3,12] [7] (s':=⟨[(13,cD (dI ((i3:Nat):Int))),(3,.c (oC 7 6 ((a4.set (0 + i3) (⟨r8,(a4.getD (0 + i3) default).row,(a4.getD (0 + i3) default).time,(a4.getD (0 + i3) default).diff⟩:Update)).set (0 + i3) (⟨((a4.set (0 + i3) (⟨r8,(a4.getD (0 + i3) default).row,(a4.getD (0 + i3) default).time,(a4.getD (0 + i3) default).diff⟩:Update)).getD (0 + i3) default).key,r11,((a4.set (0 + i3) (⟨r8,(a4.getD (0 + i3) default).row,(a4.getD (0 + i3) default).time,(a4.getD (0 + i3) default).diff⟩:Update)).getD (0 + i3) default).time,((a4.set (0 + i3) (⟨r8,(a4.getD (0 + i3) default).row,(a4.getD (0 + i3) default).time,(a4.getD (0 + i3) default).diff⟩:Update)).getD (0 + i3) default).diff⟩:Update)))),(12,cD (dI ((copyL (List.replicate p0.length ((⟨([]:List Value),([]:List Value),(⟨0,(0,0)⟩:Time),0⟩:Update):Update)) p0).length:Int)))],[(7,vL 6 z01 ((a4.set (0 + i3) (⟨r8,(a4.getD (0 + i3) default).row,(a4.getD (0 + i3) default).time,(a4.getD (0 + i3) default).diff⟩:Update)).set (0 + i3) (⟨((a4.set (0 + i3) (⟨r8,(a4.getD (0 + i3) default).row,(a4.getD (0 + i3) default).time,(a4.getD (0 + i3) default).diff⟩:Update)).getD (0 + i3) default).key,r11,((a4.set (0 + i3) (⟨r8,(a4.getD (0 + i3) default).row,(a4.getD (0 + i3) default).time,(a4.getD (0 + i3) default).diff⟩:Update)).getD (0 + i3) default).time,((a4.set (0 + i3) (⟨r8,(a4.getD (0 + i3) default).row,(a4.getD (0 + i3) default).time,(a4.getD (0 + i3) default).diff⟩:Update)).getD (0 + i3) default).diff⟩:Update)))]⟩) (by kernel_rfl) ?_
    refine At.done rfl ?_
    cases h
    exact kr
  ·intro a5 h
   refine Tri.sg [2] [7] (z00 2) ?_
   refine Tri.keep [2] [7] (s':=⟨[(2,.c (oC 7 6 a5))],[(7,vL 6 z01 a5)]⟩) (by kernel_rfl) ?_
   refine Tri.rename 7 6000 ⟨[(2,.c (oC 6000 6 a5))],[(6000,vL 6 z01 a5)]⟩ (by kernel_rfl) rfl rfl rfl ?_
   refine Tri.ret ?_
   cases h
   exact RetAt.k
  · exact fun x=>x.elim
theorem zdj {p0:Merger} {q:Merger} (h:z5s p0=some q) :
  Summ Tryz.prog 54 [.agg (cMerger p0)] [] (.agg [.d (lD 6 z01 q.a),.d (lD 6 z01 q.b),.d (dI q.i),.d (dI q.j),.d (lD 3 z02 q.since),oC 6105 6 q.out]) [(6105,vL 6 z01 q.out)]:=by
 refine Summ.intro Tryz.func54 rfl (by kernel_rfl) (by kernel_rfl) [6105] rfl ?_
 rintro ⟨P,w0,G0,V,LL,lk,N, φ0,fx⟩ rfl rfl rfl rfl
 unfold z5s at h
 refine Tri.sg [1,2] [1,2] (z00 2) ?_
 refine Tri.seqS ?_
 obtain ⟨r1,hr1,h⟩:=z04 h
 obtain ⟨r2,hr2,h⟩:=z04 h
 obtain ⟨r3,hr3,h⟩:=z04 h
 obtain ⟨r4,hr4,h⟩:=z04 h
 refine Tri.dC [.a [1] [],.a [3] [1],.m ⟨[(4,cD (lD 6 z01 p0.a))],[]⟩ ⟨[(5,cD (lD 6 z01 r1))],[]⟩ [] [] [],.a [1] [],.a [6] [1],.m ⟨[(7,cD (lD 6 z01 p0.b))],[]⟩ ⟨[(8,cD (lD 6 z01 r2))],[]⟩ [] [] [],.a [1] [],.a [9] [1],.m ⟨[(10,cD (lD 6 z01 p0.out))],[]⟩ ⟨[(11,.c (oC 30176 6 r3))],[(30176,vL 6 z01 r3)]⟩ [30176] [] [],.a [1] [],.a [12] [1],.m ⟨[(13,cD (lD 3 z02 p0.since))],[]⟩ ⟨[(14,cD (lD 3 z02 r4))],[]⟩ [] [] [],.a [1] [],.m ⟨[(5,cD (lD 6 z01 r1)),(15,.c (.ptr 1 0))],[(1,.box (cMerger p0))]⟩ ⟨[],[(1,.box [.d (lD 6 z01 r1),.d (lD 6 z01 p0.b),.d (dI p0.i),.d (dI p0.j),.d (lD 3 z02 p0.since),.d (lD 6 z01 p0.out)])]⟩ [] [] [],.a [1] [],.m ⟨[(8,cD (lD 6 z01 r2)),(16,.c (.ptr 1 1))],[(1,.box [.d (lD 6 z01 r1),.d (lD 6 z01 p0.b),.d (dI p0.i),.d (dI p0.j),.d (lD 3 z02 p0.since),.d (lD 6 z01 p0.out)])]⟩ ⟨[],[(1,.box [.d (lD 6 z01 r1),.d (lD 6 z01 r2),.d (dI p0.i),.d (dI p0.j),.d (lD 3 z02 p0.since),.d (lD 6 z01 p0.out)])]⟩ [] [] [],.a [1] [],.m ⟨[(11,.c (oC 30176 6 r3)),(17,.c (.ptr 1 5))],[(1,.box [.d (lD 6 z01 r1),.d (lD 6 z01 r2),.d (dI p0.i),.d (dI p0.j),.d (lD 3 z02 p0.since),.d (lD 6 z01 p0.out)]),(30176,vL 6 z01 r3)]⟩ ⟨[],[(1,.box [.d (lD 6 z01 r1),.d (lD 6 z01 r2),.d (dI p0.i),.d (dI p0.j),.d (lD 3 z02 p0.since),oC 30176 6 r3])]⟩ [] [] [],.a [1] [],.m ⟨[(14,cD (lD 3 z02 r4)),(18,.c (.ptr 1 4))],[(1,.box [.d (lD 6 z01 r1),.d (lD 6 z01 r2),.d (dI p0.i),.d (dI p0.j),.d (lD 3 z02 p0.since),oC 30176 6 r3])]⟩ ⟨[],[(1,.box [.d (lD 6 z01 r1),.d (lD 6 z01 r2),.d (dI p0.i),.d (dI p0.j),.d (lD 3 z02 r4),oC 30176 6 r3])]⟩ [] [] []] [1,2] [1,2,30176] (z00 12) (.a (.a (.m ?_ (.a (.a (.m ?_ (.a (.a (.m ?_ (.a (.a (.m ?_ (.a (.m ?_ (.a (.m ?_ (.a (.m ?_ (.a (.m ?_ .z)))))))))))))))))))) ?_
 ·exact DOk.cA [] [cD (lD 6 z01 p0.a)] (z6j hr1) fun r=>(.cons (.refl _) .nil)
 ·exact DOk.cA [] [cD (lD 6 z01 p0.b)] (z6j hr2) fun r=>(.cons (.refl _) .nil)
 ·exact DOk.callL (nf:=0) (caps:=[]) (xs:=[cD (lD 6 z01 p0.out)]) [(6000,30176)] (zgu hr3) rfl (fun r=>by kernel_rfl) rfl (fun r=>by kernel_rfl) (fun r=>by kernel_rfl) (fun r=>(.flat (.refl _) rfl rfl .nil)) (fun r=>trivial) (by kernel_rfl) (by kernel_rfl) (by kernel_rfl) (by kernel_rfl) (by kernel_rfl) (by kernel_rfl) (by kernel_rfl) (by kernel_rfl) (by kernel_rfl) (by kernel_rfl) (by first | kernel_rfl | (show _=_; kernel_rfl))
 ·exact DOk.cA [] [cD (lD 3 z02 p0.since)] (z20 hr4) fun r=>(.cons (.refl _) .nil)
 ·exact DOk.step (.turn 1 (.box [.d (lD 6 z01 r1),.d (lD 6 z01 p0.b),.d (dI p0.i),.d (dI p0.j),.d (lD 3 z02 p0.since),.d (lD 6 z01 p0.out)])) (fun r=>by kernel_rfl) (fun r=>by kernel_rfl) trivial (by kernel_rfl) (by kernel_rfl) (fun r=>rfl)
 ·exact DOk.step (.turn 1 (.box [.d (lD 6 z01 r1),.d (lD 6 z01 r2),.d (dI p0.i),.d (dI p0.j),.d (lD 3 z02 p0.since),.d (lD 6 z01 p0.out)])) (fun r=>by kernel_rfl) (fun r=>by kernel_rfl) trivial (by kernel_rfl) (by kernel_rfl) (fun r=>rfl)
 ·exact DOk.step (.turn 1 (.box [.d (lD 6 z01 r1),.d (lD 6 z01 r2),.d (dI p0.i),.d (dI p0.j),.d (lD 3 z02 p0.since),oC 30176 6 r3])) (fun r=>by kernel_rfl) (fun r=>by kernel_rfl) trivial (by kernel_rfl) (by kernel_rfl) (fun r=>rfl)
 ·exact DOk.step (.turn 1 (.box [.d (lD 6 z01 r1),.d (lD 6 z01 r2),.d (dI p0.i),.d (dI p0.j),.d (lD 3 z02 r4),oC 30176 6 r3])) (fun r=>by kernel_rfl) (fun r=>by kernel_rfl) trivial (by kernel_rfl) (by kernel_rfl) (fun r=>rfl)
 refine Tri.sg [2] [2,30176] (z00 2) ?_
 refine Tri.keep [2] [2,30176] (s':=⟨[(2,.c (.ptr 2 0))],[(2,.box [.d (lD 6 z01 r1),.d (lD 6 z01 r2),.d (dI p0.i),.d (dI p0.j),.d (lD 3 z02 r4),oC 30176 6 r3]),(30176,vL 6 z01 r3)]⟩) (by kernel_rfl) ?_
 refine Tri.rename 30176 6105 ⟨[(2,.c (.ptr 2 0))],[(2,.box [.d (lD 6 z01 r1),.d (lD 6 z01 r2),.d (dI p0.i),.d (dI p0.j),.d (lD 3 z02 r4),oC 6105 6 r3]),(6105,vL 6 z01 r3)]⟩ (by kernel_rfl) rfl rfl rfl ?_
 refine Tri.ret ?_
 cases h
 exact RetAt.k
theorem z7p {l0:Worker} {q:Bool × Worker} (h:z2e l0=some q) :
    Summ Tryz.prog 55 [.c (.ptr 5000 0)] [(5000,.box [.d (lD 6 z01 l0.merger.a),.d (lD 6 z01 l0.merger.b),.d (dI l0.merger.i),.d (dI l0.merger.j),.d (lD 3 z02 l0.merger.since),oC 5100 6 l0.merger.out]),(5100,vL 6 z01 l0.merger.out)] (cD (.bool q.1)) [(5150,vL 6 z01 q.2.merger.out),(5000,.box [.d (lD 6 z01 q.2.merger.a),.d (lD 6 z01 q.2.merger.b),.d (dI q.2.merger.i),.d (dI q.2.merger.j),.d (lD 3 z02 q.2.merger.since),oC 5150 6 q.2.merger.out])]:=by
  refine Summ.intro Tryz.func55 rfl (by kernel_rfl) (by kernel_rfl) [5150] rfl ?_
  rintro ⟨P,w0,G0,V,LL,lk,N, φ0,fx⟩ rfl rfl rfl rfl
  unfold z2e at h
  refine Tri.rename 5100 5150 ⟨[(0,.c (.ptr 5000 0))],[(5000,.box [.d (lD 6 z01 l0.merger.a),.d (lD 6 z01 l0.merger.b),.d (dI l0.merger.i),.d (dI l0.merger.j),.d (lD 3 z02 l0.merger.since),oC 5150 6 l0.merger.out]),(5150,vL 6 z01 l0.merger.out)]⟩ (by kernel_rfl) rfl rfl rfl ?_
  refine Tri.segL [0] [5000,5150] ⟨[(0,.c (.ptr 5000 0))],[(5000,.box [.d (lD 6 z01 l0.merger.a),.d (lD 6 z01 l0.merger.b),.d (dI l0.merger.i),.d (dI l0.merger.j),.d (lD 3 z02 l0.merger.since),oC 5150 6 l0.merger.out]),(5150,vL 6 z01 l0.merger.out)]⟩ _ (by kernel_rfl) (z00 1) ?_
  refine Tri.seqJ (fun (a1:Bool)=>⟨[(2,cD (.bool a1))],[(5000,.box [.d (lD 6 z01 l0.merger.a),.d (lD 6 z01 l0.merger.b),.d (dI l0.merger.i),.d (dI l0.merger.j),.d (lD 3 z02 l0.merger.since),oC 5150 6 l0.merger.out]),(5150,vL 6 z01 l0.merger.out)]⟩) h (fun a1 h => ?_) (fun j2 h => ?_)
  ·refine Tri.ret ?_
   cases h
   exact RetAt.k
  ·rcases z27 h with ⟨hp3,h⟩ | ⟨hp3,h⟩
   ·refine Tri.dC [.a [0] [],.a [3] [],.a [4] [],.a [5] [],.a [6] [5000],.a [0] [],.a [8] [],.a [9] [],.a [10] [],.a [11] [5000],.a [12] [],.a [7,13] [],.m ⟨[(14,cD (.bool (decide (l0.merger.i < (l0.merger.a.length:Int)))))],[]⟩ ⟨[(15,.c (.d (.bool true)))],[]⟩ [] [] [],.a [0,15] [],.a [15,16] [],.a [15,17] [],.a [15,18] [],.a [15,19] [],.a [0,15] [],.a [15,21] [],.a [15,22] [],.a [15,23] [],.a [15,24] [],.a [15,25] [],.a [15,20,26] [],.a [15,27] [],.a [28] []] [2] [5000,5150] (z00 14) (.a (.a (.a (.a (.a (.a (.a (.a (.a (.a (.a (.a (.m ?_ (.a (.a (.a (.a (.a (.a (.a (.a (.a (.a (.a (.a (.a (.a .z))))))))))))))))))))))))))) ?_
    · exact DOk.stepP (fun b => .val (.c (.d (.bool b))) (True)) (p:=(decide (l0.merger.i < (l0.merger.a.length:Int)))) hp3 (fun r=>by kernel_rfl) (fun r=>by kernel_rfl) trivial (by kernel_rfl) (by kernel_rfl) (fun r=>rfl)
    exact ⟨_,h,kr⟩
   ·refine Tri.dC [.a [0] [],.a [3] [],.a [4] [],.a [5] [],.a [6] [5000],.a [0] [],.a [8] [],.a [9] [],.a [10] [],.a [11] [5000],.a [12] [],.a [7,13] [],.m ⟨[(14,cD (.bool (decide (l0.merger.i < (l0.merger.a.length:Int)))))],[]⟩ ⟨[(15,.c (.d (.bool false)))],[]⟩ [] [] [],.a [0,15] [],.a [15,16] [],.a [15,17] [],.a [15,18] [],.a [15,19] [5000],.a [0,15] [],.a [15,21] [],.a [15,22] [],.a [15,23] [],.a [15,24] [5000],.a [15,25] [],.a [15,20,26] [],.a [15,27] [],.a [28] []] [2] [5000,5150] (z00 26) (.a (.a (.a (.a (.a (.a (.a (.a (.a (.a (.a (.a (.m ?_ (.a (.a (.a (.a (.a (.a (.a (.a (.a (.a (.a (.a (.a (.a .z))))))))))))))))))))))))))) ?_
    · exact DOk.stepP (fun b => .val (.c (.d (.bool b))) (True)) (p:=(decide (l0.merger.i < (l0.merger.a.length:Int)))) hp3 (fun r=>by kernel_rfl) (fun r=>by kernel_rfl) trivial (by kernel_rfl) (by kernel_rfl) (fun r=>rfl)
    exact ⟨_,h,kr⟩
theorem z7h {l0:Worker} {q:Update × Worker} (h:z2d l0=some q) :
    Summ Tryz.prog 93 [.c (.ptr 5000 0)] [(5000,.box [.d (lD 6 z01 l0.merger.a),.d (lD 6 z01 l0.merger.b),.d (dI l0.merger.i),.d (dI l0.merger.j),.d (lD 3 z02 l0.merger.since),oC 5100 6 l0.merger.out]),(5100,vL 6 z01 l0.merger.out)] (.agg (cUpdate q.1)) [(5150,vL 6 z01 q.2.merger.out),(5000,.box [.d (lD 6 z01 q.2.merger.a),.d (lD 6 z01 q.2.merger.b),.d (dI q.2.merger.i),.d (dI q.2.merger.j),.d (lD 3 z02 q.2.merger.since),oC 5150 6 q.2.merger.out])]:=by
  refine Summ.intro Tryz.func93 rfl (by kernel_rfl) (by kernel_rfl) [5150] rfl ?_
  rintro ⟨P,w0,G0,V,LL,lk,N, φ0,fx⟩ rfl rfl rfl rfl
  unfold z2d at h
  refine Tri.rename 5100 5150 ⟨[(0,.c (.ptr 5000 0))],[(5000,.box [.d (lD 6 z01 l0.merger.a),.d (lD 6 z01 l0.merger.b),.d (dI l0.merger.i),.d (dI l0.merger.j),.d (lD 3 z02 l0.merger.since),oC 5150 6 l0.merger.out]),(5150,vL 6 z01 l0.merger.out)]⟩ (by kernel_rfl) rfl rfl rfl ?_
  refine Tri.segL [0,2] [2,5000,5150] ⟨[(0,.c (.ptr 5000 0)),(2,.c (.ptr 2 0))],[(2,.box [.zero,.zero,.d (dU 0),.d (dU 0),.d (dU 0),.d (dI 0)]),(5000,.box [.d (lD 6 z01 l0.merger.a),.d (lD 6 z01 l0.merger.b),.d (dI l0.merger.i),.d (dI l0.merger.j),.d (lD 3 z02 l0.merger.since),oC 5150 6 l0.merger.out]),(5150,vL 6 z01 l0.merger.out)]⟩ _ (by kernel_rfl) (z00 1) ?_
  refine Tri.seqS ?_
  refine Tri.seqJ (fun (a1:Bool)=>⟨[(0,.c (.ptr 5000 0)),(2,.c (.ptr 2 0)),(56,cD (.bool a1))],[(2,.box [.zero,.zero,.d (dU 0),.d (dU 0),.d (dU 0),.d (dI 0)]),(5000,.box [.d (lD 6 z01 l0.merger.a),.d (lD 6 z01 l0.merger.b),.d (dI l0.merger.i),.d (dI l0.merger.j),.d (lD 3 z02 l0.merger.since),oC 5150 6 l0.merger.out]),(5150,vL 6 z01 l0.merger.out)]⟩) h (fun a1 h => ?_) (fun j2 h => ?_)
  ·refine Tri.condK h (fun h => ?_) (fun h => ?_)
   ·refine Tri.seqS ?_
    obtain ⟨hc3,h⟩:=z03 h
    refine Tri.dC [.a [0] [],.a [57] [],.a [58] [],.a [59] [],.a [60] [5000],.a [0] [],.a [62] [],.a [63] [],.a [64] [],.a [65] [5000],.a [61,66] [],.a [67] [],.m ⟨[(2,.c (.ptr 2 0)),(68,.agg (cUpdate (l0.merger.a.getD l0.merger.i.toNat default)))],[(2,.box [.zero,.zero,.d (dU 0),.d (dU 0),.d (dU 0),.d (dI 0)])]⟩ ⟨[],[(2,.box (cUpdate (l0.merger.a.getD l0.merger.i.toNat default)))]⟩ [] [] []] [2] [2,5000,5150] (tN 10 (ai hc3 (z00 1))) (.a (.a (.a (.a (.a (.a (.a (.a (.a (.a (.a (.a (.m ?_ .z))))))))))))) ?_
    · exact DOk.step (.turn 2 (.box (cUpdate (l0.merger.a.getD l0.merger.i.toNat default)))) (fun r=>by kernel_rfl) (fun r=>by kernel_rfl) trivial (by kernel_rfl) (by kernel_rfl) (fun r=>rfl)
    refine Tri.ret ?_
    cases h
    exact RetAt.k
   ·refine Tri.skip ?_
    refine Tri.seqS ?_
    obtain ⟨hc4,h⟩:=z03 h
    refine Tri.dC [.a [0] [],.a [69] [],.a [70] [],.a [71] [],.a [72] [5000],.a [0] [],.a [74] [],.a [75] [],.a [76] [],.a [77] [5000],.a [73,78] [],.a [79] [],.m ⟨[(2,.c (.ptr 2 0)),(80,.agg (cUpdate (l0.merger.b.getD l0.merger.j.toNat default)))],[(2,.box [.zero,.zero,.d (dU 0),.d (dU 0),.d (dU 0),.d (dI 0)])]⟩ ⟨[],[(2,.box (cUpdate (l0.merger.b.getD l0.merger.j.toNat default)))]⟩ [] [] []] [2] [2,5000,5150] (tN 10 (ai hc4 (z00 1))) (.a (.a (.a (.a (.a (.a (.a (.a (.a (.a (.a (.a (.m ?_ .z))))))))))))) ?_
    · exact DOk.step (.turn 2 (.box (cUpdate (l0.merger.b.getD l0.merger.j.toNat default)))) (fun r=>by kernel_rfl) (fun r=>by kernel_rfl) trivial (by kernel_rfl) (by kernel_rfl) (fun r=>rfl)
    refine Tri.ret ?_
    cases h
    exact RetAt.k
  ·rcases z27 h with ⟨hp5,h⟩ | ⟨hp5,h⟩
   ·rcases z27 h with ⟨hp6,h⟩ | ⟨hp6,h⟩
    ·refine Tri.dC [.a [0] [],.a [3] [],.a [4] [],.a [5] [],.a [6] [5000],.a [0] [],.a [8] [],.a [9] [],.a [10] [],.a [11] [5000],.a [12] [],.a [7,13] [],.m ⟨[(14,cD (.bool (decide (l0.merger.i < (l0.merger.a.length:Int)))))],[]⟩ ⟨[(15,.c (.d (.bool true)))],[]⟩ [] [] [],.a [0,15] [],.a [15,16] [],.a [15,17] [],.a [15,18] [],.a [15,19] [5000],.a [0,15] [],.a [15,21] [],.a [15,22] [],.a [15,23] [],.a [15,24] [5000],.a [15,25] [],.a [15,20,26] [],.m ⟨[(15,cD (.bool true)),(27,cD (.bool (decide (l0.merger.j=(l0.merger.b.length:Int)))))],[]⟩ ⟨[(28,.c (.d (.bool true)))],[]⟩ [] [] [],.a [0,28] [],.a [28,29] [],.a [28,30] [],.a [28,31] [],.a [28,32] [],.a [0,28] [],.a [28,34] [],.a [28,35] [],.a [28,36] [],.a [28,37] [],.a [28,33,38] [],.a [28,39] [],.a [0,28] [],.a [28,41] [],.a [28,42] [],.a [28,43] [],.a [28,44] [],.a [0,28] [],.a [28,46] [],.a [28,47] [],.a [28,48] [],.a [28,49] [],.a [28,45,50] [],.a [28,51] [],.a [28,40,52] [],.a [28,53] [],.a [15,28,54] [],.a [15,55] []] [0,2,56] [2,5000,5150] (z00 26) (.a (.a (.a (.a (.a (.a (.a (.a (.a (.a (.a (.a (.m ?_ (.a (.a (.a (.a (.a (.a (.a (.a (.a (.a (.a (.a (.m ?_ (.a (.a (.a (.a (.a (.a (.a (.a (.a (.a (.a (.a (.a (.a (.a (.a (.a (.a (.a (.a (.a (.a (.a (.a (.a (.a (.a (.a .z)))))))))))))))))))))))))))))))))))))))))))))))))))))) ?_
     · exact DOk.stepP (fun b => .val (.c (.d (.bool b))) (True)) (p:=(decide (l0.merger.i < (l0.merger.a.length:Int)))) hp5 (fun r=>by kernel_rfl) (fun r=>by kernel_rfl) trivial (by kernel_rfl) (by kernel_rfl) (fun r=>rfl)
     · exact DOk.stepP (fun b => .val (.c (.d (.bool b))) (True)) (p:=(decide (l0.merger.j=(l0.merger.b.length:Int)))) hp6 (fun r=>by kernel_rfl) (fun r=>by kernel_rfl) trivial (by kernel_rfl) (by kernel_rfl) (fun r=>rfl)
     exact ⟨_,h,kr⟩
    ·obtain ⟨hc7,h⟩:=z03 h
     obtain ⟨hc8,h⟩:=z03 h
     obtain ⟨r9,hr9,h⟩:=z04 h
     refine Tri.dC [.a [0] [],.a [3] [],.a [4] [],.a [5] [],.a [6] [5000],.a [0] [],.a [8] [],.a [9] [],.a [10] [],.a [11] [5000],.a [12] [],.a [7,13] [],.m ⟨[(14,cD (.bool (decide (l0.merger.i < (l0.merger.a.length:Int)))))],[]⟩ ⟨[(15,.c (.d (.bool true)))],[]⟩ [] [] [],.a [0,15] [],.a [15,16] [],.a [15,17] [],.a [15,18] [],.a [15,19] [5000],.a [0,15] [],.a [15,21] [],.a [15,22] [],.a [15,23] [],.a [15,24] [5000],.a [15,25] [],.a [15,20,26] [],.m ⟨[(15,cD (.bool true)),(27,cD (.bool (decide (l0.merger.j=(l0.merger.b.length:Int)))))],[]⟩ ⟨[(28,.c (.d (.bool false)))],[]⟩ [] [] [],.a [0,28] [],.a [28,29] [],.a [28,30] [],.a [28,31] [],.a [28,32] [5000],.a [0,28] [],.a [28,34] [],.a [28,35] [],.a [28,36] [],.a [28,37] [5000],.a [28,33,38] [],.a [28,39] [],.a [0,28] [],.a [28,41] [],.a [28,42] [],.a [28,43] [],.a [28,44] [5000],.a [0,28] [],.a [28,46] [],.a [28,47] [],.a [28,48] [],.a [28,49] [5000],.a [28,45,50] [],.a [28,51] [],.m ⟨[(28,cD (.bool false)),(40,.agg (cUpdate (l0.merger.a.getD l0.merger.i.toNat default))),(52,.agg (cUpdate (l0.merger.b.getD l0.merger.j.toNat default)))],[]⟩ ⟨[(53,cD (dI r9))],[]⟩ [] [] [],.a [28,53] [],.a [15,28,54] [],.a [15,55] []] [0,2,56] [2,5000,5150] (tN 34 (ai hc7 (tN 11 (ai hc8 (z00 4))))) (.a (.a (.a (.a (.a (.a (.a (.a (.a (.a (.a (.a (.m ?_ (.a (.a (.a (.a (.a (.a (.a (.a (.a (.a (.a (.a (.m ?_ (.a (.a (.a (.a (.a (.a (.a (.a (.a (.a (.a (.a (.a (.a (.a (.a (.a (.a (.a (.a (.a (.a (.a (.a (.m ?_ (.a (.a (.a .z)))))))))))))))))))))))))))))))))))))))))))))))))))))) ?_
     · exact DOk.stepP (fun b => .val (.c (.d (.bool b))) (True)) (p:=(decide (l0.merger.i < (l0.merger.a.length:Int)))) hp5 (fun r=>by kernel_rfl) (fun r=>by kernel_rfl) trivial (by kernel_rfl) (by kernel_rfl) (fun r=>rfl)
     · exact DOk.stepP (fun b => .val (.c (.d (.bool b))) (True)) (p:=(decide (l0.merger.j=(l0.merger.b.length:Int)))) hp6 (fun r=>by kernel_rfl) (fun r=>by kernel_rfl) trivial (by kernel_rfl) (by kernel_rfl) (fun r=>rfl)
     · exact DOk.cA [] [.agg (cUpdate (l0.merger.a.getD l0.merger.i.toNat default)),.agg (cUpdate (l0.merger.b.getD l0.merger.j.toNat default))] (z7d hr9) fun r=>(.cons (.refl _) (.cons (.refl _) .nil))
     exact ⟨_,h,kr⟩
   ·refine Tri.dC [.a [0] [],.a [3] [],.a [4] [],.a [5] [],.a [6] [5000],.a [0] [],.a [8] [],.a [9] [],.a [10] [],.a [11] [5000],.a [12] [],.a [7,13] [],.m ⟨[(14,cD (.bool (decide (l0.merger.i < (l0.merger.a.length:Int)))))],[]⟩ ⟨[(15,.c (.d (.bool false)))],[]⟩ [] [] [],.a [0,15] [],.a [15,16] [],.a [15,17] [],.a [15,18] [],.a [15,19] [],.a [0,15] [],.a [15,21] [],.a [15,22] [],.a [15,23] [],.a [15,24] [],.a [15,25] [],.a [15,20,26] [],.a [15,27] [],.a [0,28] [],.a [28,29] [],.a [28,30] [],.a [28,31] [],.a [28,32] [],.a [0,28] [],.a [28,34] [],.a [28,35] [],.a [28,36] [],.a [28,37] [],.a [28,33,38] [],.a [28,39] [],.a [0,28] [],.a [28,41] [],.a [28,42] [],.a [28,43] [],.a [28,44] [],.a [0,28] [],.a [28,46] [],.a [28,47] [],.a [28,48] [],.a [28,49] [],.a [28,45,50] [],.a [28,51] [],.a [28,40,52] [],.a [28,53] [],.a [15,28,54] [],.a [15,55] []] [0,2,56] [2,5000,5150] (z00 13) (.a (.a (.a (.a (.a (.a (.a (.a (.a (.a (.a (.a (.m ?_ (.a (.a (.a (.a (.a (.a (.a (.a (.a (.a (.a (.a (.a (.a (.a (.a (.a (.a (.a (.a (.a (.a (.a (.a (.a (.a (.a (.a (.a (.a (.a (.a (.a (.a (.a (.a (.a (.a (.a (.a (.a .z)))))))))))))))))))))))))))))))))))))))))))))))))))))) ?_
    · exact DOk.stepP (fun b => .val (.c (.d (.bool b))) (True)) (p:=(decide (l0.merger.i < (l0.merger.a.length:Int)))) hp5 (fun r=>by kernel_rfl) (fun r=>by kernel_rfl) trivial (by kernel_rfl) (by kernel_rfl) (fun r=>rfl)
    exact ⟨_,h,kr⟩
theorem zfj {p0:Update} {p1:Update} {q:Bool} (h:z8i p0 p1=some q) :
  Summ Tryz.prog 124 [.agg (cUpdate p0),cD (.cptr [lD 3 z05 p1.key,lD 3 z05 p1.row,dU p1.time.epoch,dU p1.time.loop.1,dU p1.time.loop.2,dI p1.diff])] [] (cD (.bool q)) []:=by
 refine Summ.intro Tryz.func124 rfl (by kernel_rfl) (by kernel_rfl) [] rfl ?_
 rintro ⟨P,w0,G0,V,LL,lk,N, φ0,fx⟩ rfl rfl rfl rfl
 unfold z8i at h
 refine Tri.le [] (fun k hk=>by cases hk) ⟨[(0,.agg (cUpdate p0)),(1,.c (.eptr [lD 3 z05 p1.key,lD 3 z05 p1.row,dU p1.time.epoch,dU p1.time.loop.1,dU p1.time.loop.2,dI p1.diff]))],[]⟩ ⟨⟨_,rfl,.refl _⟩,⟨_,rfl,.c (.cptrE _)⟩,trivial⟩ trivial ?_
 refine Tri.sg [1,2] [2] (z00 2) ?_
 refine Tri.seqS ?_
 refine Tri.reg ?_
 refine At.sg 2 [4,5] [] (z00 2) ?_
 obtain ⟨r1,hr1,h⟩:=z04 h
 refine At.cA [] [.agg (cUpdate p0),.agg (cUpdate p1)] (z7d hr1) (.cons (.refl _) (.cons (.refl _) .nil)) ?_
 refine At.sg 2 [3] [] (z00 2) ?_
 refine At.done rfl ?_
 refine Tri.ret ?_
 cases h
 exact RetAt.k
theorem z2u {p0:List Update} {p1_0:Update} {q:Int} (h:z0u p0 p1_0=some q) :
    Summ Tryz.prog 107 [cD (lD 6 z01 p0),cD (.fn 124 [.cptr [lD 3 z05 p1_0.key,lD 3 z05 p1_0.row,dU p1_0.time.epoch,dU p1_0.time.loop.1,dU p1_0.time.loop.2,dI p1_0.diff]])] [] (cD (dI q)) []:=by
  refine Summ.intro Tryz.func107 rfl (by kernel_rfl) (by kernel_rfl) [] rfl ?_
  rintro ⟨P,w0,G0,V,LL,lk,N, φ0,fx⟩ rfl rfl rfl rfl
  unfold z0u at h
  refine Tri.sg [0,1] [] (z00 1) ?_
  refine Tri.seqS ?_
  refine Tri.sg [0,1,7,8] [] (z00 3) ?_
  refine Tri.ln 0 p0.length fun hlena2 => ?_
  refine Tri.rK 8 () (fun (x:Int) s=>RetAt Tryz.prog Tryz.f107 (cD (dI x)) [] s) (fun (a2:Unit)=>⟨[(0,cD (lD 6 z01 p0)),(1,cD (.fn 124 [.cptr [lD 3 z05 p1_0.key,lD 3 z05 p1_0.row,dU p1_0.time.epoch,dU p1_0.time.loop.1,dU p1_0.time.loop.2,dI p1_0.diff]])),(7,cD (dI (p0.length:Int)))],[]⟩) [8,0,1,7] [] [9,8,0,1,7] [] [0,1,7] [] [8,0,1,7] [] h hlena2 ?_ ?_ ?_
  ·intro i1 a2 c hii1 h
   refine Tri.sg [0,1,5,7,8] [] (z00 2) ?_
   refine Tri.seqS ?_
   refine Tri.reg ?_
   refine At.sg 5 [0,1,5,7,8,11,15] [] (tN 3 (ai (show ((0:Int)≤((i1:Nat):Int)∧((i1:Nat):Int) < (p0.length:Int)) from ⟨by omega,by omega⟩) (z00 1))) ?_
   obtain ⟨r4,hr4,h⟩:=z04 h
   refine At.cA [.cptr [lD 3 z05 p1_0.key,lD 3 z05 p1_0.row,dU p1_0.time.epoch,dU p1_0.time.loop.1,dU p1_0.time.loop.2,dI p1_0.diff]] [.agg (cUpdate (p0.getD i1 default)),cD (.cptr [lD 3 z05 p1_0.key,lD 3 z05 p1_0.row,dU p1_0.time.epoch,dU p1_0.time.loop.1,dU p1_0.time.loop.2,dI p1_0.diff])] (zfj hr4) (.cons (.refl _) (.cons (.refl _) .nil)) ?_
   refine At.done rfl ?_
   refine Tri.condK h (fun h => ?_) (fun h => ?_)
   ·refine Tri.sg [4] [] (z00 2) ?_
    refine Tri.ret ?_
    cases h
    exact RetAt.k
   ·refine Tri.kp [8,0,1,7] [] ?_
    refine Tri.skip ?_
    cases h
    exact kr
  ·intro a3 h
   refine Tri.sg [4] [] (z00 1) ?_
   refine Tri.ret ?_
   cases h
   exact RetAt.k
  · exact fun x s hx hr=>by cases hx; exact hr
theorem zco {p0:List Update} {p1:Update} {q:Int} (h:z7l p0 p1=some q) :
    Summ Tryz.prog 94 [cD (lD 6 z01 p0),.agg (cUpdate p1)] [] (cD (dI q)) []:=by
  refine Summ.intro Tryz.func94 rfl (by kernel_rfl) (by kernel_rfl) [] rfl ?_
  rintro ⟨P,w0,G0,V,LL,lk,N, φ0,fx⟩ rfl rfl rfl rfl
  unfold z7l at h
  refine Tri.sg [0,3] [3] (z00 2) ?_
  refine Tri.seqS ?_
  refine Tri.reg ?_
  refine At.seg 1 [0,3,6] [3] (s':=⟨[(0,cD (lD 6 z01 p0)),(3,.c (.ptr 3 0)),(6,cD (lD 6 z01 p0))],[(3,.box (cUpdate p1))]⟩) (by kernel_rfl) (z00 1) ?_
  refine At.le [3] (fun k hk h=>by first | (cases h; done) | (simp at hk h; omega)) ⟨[(0,cD (lD 6 z01 p0)),(3,cD (.cptr [lD 3 z05 p1.key,lD 3 z05 p1.row,dU p1.time.epoch,dU p1.time.loop.1,dU p1.time.loop.2,dI p1.diff])),(6,cD (lD 6 z01 p0))],[]⟩ ⟨⟨_,rfl,.refl _⟩,⟨_,rfl,.c (.box (ds:=[lD 3 z05 p1.key,lD 3 z05 p1.row,dU p1.time.epoch,dU p1.time.loop.1,dU p1.time.loop.2,dI p1.diff]) rfl (by simp))⟩,⟨_,rfl,.refl _⟩,trivial⟩ trivial ?_
  refine At.seg 1 [7,0,3,6] [] (s':=⟨[(7,cD (.fn 124 [.cptr [lD 3 z05 p1.key,lD 3 z05 p1.row,dU p1.time.epoch,dU p1.time.loop.1,dU p1.time.loop.2,dI p1.diff]])),(0,cD (lD 6 z01 p0)),(3,cD (.cptr [lD 3 z05 p1.key,lD 3 z05 p1.row,dU p1.time.epoch,dU p1.time.loop.1,dU p1.time.loop.2,dI p1.diff])),(6,cD (lD 6 z01 p0))],[]⟩) (by kernel_rfl) (z00 1) ?_
  refine At.le [] (fun k hk=>by cases hk) ⟨[(7,cD (.fn 124 [.cptr [lD 3 z05 p1.key,lD 3 z05 p1.row,dU p1.time.epoch,dU p1.time.loop.1,dU p1.time.loop.2,dI p1.diff]])),(0,cD (lD 6 z01 p0)),(3,.c (.eptr [lD 3 z05 p1.key,lD 3 z05 p1.row,dU p1.time.epoch,dU p1.time.loop.1,dU p1.time.loop.2,dI p1.diff])),(6,cD (lD 6 z01 p0))],[]⟩ ⟨⟨_,rfl,.refl _⟩,⟨_,rfl,.refl _⟩,⟨_,rfl,.c (.cptrE _)⟩,⟨_,rfl,.refl _⟩,trivial⟩ trivial ?_
  obtain ⟨r1,hr1,h⟩:=z04 h
  refine At.cA [] [cD (lD 6 z01 p0),cD (.fn 124 [.cptr [lD 3 z05 p1.key,lD 3 z05 p1.row,dU p1.time.epoch,dU p1.time.loop.1,dU p1.time.loop.2,dI p1.diff]])] (z2u hr1) (.cons (.refl _) (.cons (.refl _) .nil)) ?_
  refine At.sg 1 [0,5] [] (z00 1) ?_
  refine At.done rfl ?_
  refine Tri.seqS ?_
  refine Tri.sg [0,5,10] [] (z00 2) ?_
  refine Tri.condK h (fun h => ?_) (fun h => ?_)
  ·refine Tri.sg [4] [] (z00 3) ?_
   refine Tri.ret ?_
   cases h
   exact RetAt.k
  ·refine Tri.skip ?_
   refine Tri.sg [4] [] (z00 2) ?_
   refine Tri.ret ?_
   cases h
   exact RetAt.k
theorem z7q {fuel:Nat} {l0:Worker} {q:Int × Int × Worker} (h:z1s fuel l0=some q) :
    Summ Tryz.prog 56 [.c (.ptr 5000 0)] [(5000,.box [.d (lD 6 z01 l0.merger.a),.d (lD 6 z01 l0.merger.b),.d (dI l0.merger.i),.d (dI l0.merger.j),.d (lD 3 z02 l0.merger.since),oC 5100 6 l0.merger.out]),(5100,vL 6 z01 l0.merger.out)] (.tup [(false,[.d (dI q.1)]),(false,[.d (dI q.2.1)])]) [(5150,vL 6 z01 q.2.2.merger.out),(5000,.box [.d (lD 6 z01 q.2.2.merger.a),.d (lD 6 z01 q.2.2.merger.b),.d (dI q.2.2.merger.i),.d (dI q.2.2.merger.j),.d (lD 3 z02 q.2.2.merger.since),oC 5150 6 q.2.2.merger.out])]:=by
  refine Summ.intro Tryz.func56 rfl (by kernel_rfl) (by kernel_rfl) [5150] rfl ?_
  rintro ⟨P,w0,G0,V,LL,lk,N, φ0,fx⟩ rfl rfl rfl rfl
  unfold z1s at h
  refine Tri.rename 5100 5150 ⟨[(0,.c (.ptr 5000 0))],[(5000,.box [.d (lD 6 z01 l0.merger.a),.d (lD 6 z01 l0.merger.b),.d (dI l0.merger.i),.d (dI l0.merger.j),.d (lD 3 z02 l0.merger.since),oC 5150 6 l0.merger.out]),(5150,vL 6 z01 l0.merger.out)]⟩ (by kernel_rfl) rfl rfl rfl ?_
  refine Tri.sg [0] [5000,5150] (z00 2) ?_
  refine Tri.seqS ?_
  refine Tri.reg ?_
  refine At.sg 1 [0,9] [5000,5150] (z00 1) ?_
  obtain ⟨r1,hr1,h⟩:=z04 h
  refine At.cL 0 [] [.c (.ptr 5000 0)] [(5000,5000),(5100,5150),(5150,5150)] [0] [] (z7h hr1) (.ren rfl rfl .nil) ?_
  refine At.sg 2 [0,4] [4,5000,5150] (z00 2) ?_
  refine At.done rfl ?_
  refine Tri.seqS ?_
  obtain ⟨hc2,h⟩:=z03 h
  obtain ⟨hc3,h⟩:=z03 h
  refine Tri.dC [.a [0] [],.a [11] [],.a [12] [],.a [13] [],.a [14] [5000],.a [0] [],.a [16] [],.a [17] [],.a [18] [],.a [19] [5000],.m ⟨[(15,cD (lD 6 z01 r1.2.merger.a)),(20,cD (dI r1.2.merger.i))],[]⟩ ⟨[(21,cD (lD 6 z01 (sub r1.2.merger.a r1.2.merger.i (r1.2.merger.a.length:Int))))],[]⟩ [] [] [],.a [0] [],.a [22] [],.a [23] [],.a [24] [],.a [25] [5000],.a [0] [],.a [27] [],.a [28] [],.a [29] [],.a [30] [5000],.m ⟨[(26,cD (lD 6 z01 r1.2.merger.b)),(31,cD (dI r1.2.merger.j))],[]⟩ ⟨[(32,cD (lD 6 z01 (sub r1.2.merger.b r1.2.merger.j (r1.2.merger.b.length:Int))))],[]⟩ [] [] [],.a [21] [],.a [32] []] [0,4,5,6] [4,5000,5150] (z00 22) (.a (.a (.a (.a (.a (.a (.a (.a (.a (.a (.m ?_ (.a (.a (.a (.a (.a (.a (.a (.a (.a (.a (.m ?_ (.a (.a .z)))))))))))))))))))))))) ?_
  · exact DOk.one fun r _=>One.subL (z01) (l:=r1.2.merger.i) (h:=(r1.2.merger.a.length:Int)) hc2 hc2 (by kernel_rfl) rfl (by kernel_rfl) (by kernel_rfl)
  · exact DOk.one fun r _=>One.subL (z01) (l:=r1.2.merger.j) (h:=(r1.2.merger.b.length:Int)) hc3 hc3 (by kernel_rfl) rfl (by kernel_rfl) (by kernel_rfl)
  refine Tri.seqS ?_
  obtain ⟨r4,hr4,h⟩:=z04 h
  obtain ⟨hc5,h⟩:=z03 h
  obtain ⟨r6,hr6,h⟩:=z04 h
  obtain ⟨hc7,h⟩:=z03 h
  refine Tri.dC [.a [5] [],.a [5] [],.a [4] [4],.m ⟨[(34,cD (lD 6 z01 (sub r1.2.merger.a r1.2.merger.i (r1.2.merger.a.length:Int)))),(35,.agg (cUpdate r1.1))],[]⟩ ⟨[(36,cD (dI r4))],[]⟩ [] [] [],.m ⟨[(33,cD (lD 6 z01 (sub r1.2.merger.a r1.2.merger.i (r1.2.merger.a.length:Int)))),(36,cD (dI r4))],[]⟩ ⟨[(37,cD (lD 6 z01 (sub (sub r1.2.merger.a r1.2.merger.i (r1.2.merger.a.length:Int)) 0 r4)))],[]⟩ [] [] [],.a [6] [],.a [6] [],.a [4] [4],.m ⟨[(39,cD (lD 6 z01 (sub r1.2.merger.b r1.2.merger.j (r1.2.merger.b.length:Int)))),(40,.agg (cUpdate r1.1))],[]⟩ ⟨[(41,cD (dI r6))],[]⟩ [] [] [],.m ⟨[(38,cD (lD 6 z01 (sub r1.2.merger.b r1.2.merger.j (r1.2.merger.b.length:Int)))),(41,cD (dI r6))],[]⟩ ⟨[(42,cD (lD 6 z01 (sub (sub r1.2.merger.b r1.2.merger.j (r1.2.merger.b.length:Int)) 0 r6)))],[]⟩ [] [] [],.a [37] [],.a [42] []] [0,5,6] [5000,5150] (z00 8) (.a (.a (.a (.m ?_ (.m ?_ (.a (.a (.a (.m ?_ (.m ?_ (.a (.a .z)))))))))))) ?_
  · exact DOk.cA [] [cD (lD 6 z01 (sub r1.2.merger.a r1.2.merger.i (r1.2.merger.a.length:Int))),.agg (cUpdate r1.1)] (zco hr4) fun r=>(.cons (.refl _) (.cons (.refl _) .nil))
  · exact DOk.one fun r _=>One.subL (z01) (l:=0) (h:=r4) hc5 hc5 (by kernel_rfl) rfl (by kernel_rfl) (by kernel_rfl)
  · exact DOk.cA [] [cD (lD 6 z01 (sub r1.2.merger.b r1.2.merger.j (r1.2.merger.b.length:Int))),.agg (cUpdate r1.1)] (zco hr6) fun r=>(.cons (.refl _) (.cons (.refl _) .nil))
  · exact DOk.one fun r _=>One.subL (z01) (l:=0) (h:=r6) hc7 hc7 (by kernel_rfl) rfl (by kernel_rfl) (by kernel_rfl)
  refine Tri.seqS ?_
  refine Tri.reg ?_
  refine At.seg 7 [0,5,6,48,49,50] [5000,5150] (s':=⟨[(0,.c (.ptr 5000 0)),(5,cD (lD 6 z01 (sub (sub r1.2.merger.a r1.2.merger.i (r1.2.merger.a.length:Int)) 0 r4))),(6,cD (lD 6 z01 (sub (sub r1.2.merger.b r1.2.merger.j (r1.2.merger.b.length:Int)) 0 r6))),(48,cD (lD 3 z02 r1.2.merger.since)),(49,cD (lD 6 z01 (sub (sub r1.2.merger.a r1.2.merger.i (r1.2.merger.a.length:Int)) 0 r4))),(50,cD (lD 6 z01 (sub (sub r1.2.merger.b r1.2.merger.j (r1.2.merger.b.length:Int)) 0 r6)))],[(5000,.box [.d (lD 6 z01 r1.2.merger.a),.d (lD 6 z01 r1.2.merger.b),.d (dI r1.2.merger.i),.d (dI r1.2.merger.j),.d (lD 3 z02 r1.2.merger.since),oC 5150 6 r1.2.merger.out]),(5150,vL 6 z01 r1.2.merger.out)]⟩) (by kernel_rfl) (z00 7) ?_
  refine At.one rfl (One.buildSlice (z:=[.zero]) (cells:=[.d (lD 6 z01 (sub (sub r1.2.merger.a r1.2.merger.i (r1.2.merger.a.length:Int)) 0 r4)),.d (lD 6 z01 (sub (sub r1.2.merger.b r1.2.merger.j (r1.2.merger.b.length:Int)) 0 r6))]) (xs:=List.map ((fun xs=>[encL 6 z01 xs])) ([(sub (sub r1.2.merger.a r1.2.merger.i (r1.2.merger.a.length:Int)) 0 r4),(sub (sub r1.2.merger.b r1.2.merger.j (r1.2.merger.b.length:Int)) 0 r6)]:List (List Update))) rfl rfl rfl rfl (by kernel_rfl) rfl rfl (by kernel_rfl) rfl rfl rfl (by kernel_rfl) rfl ⟨⟨rfl,.refl _⟩,⟨rfl,.refl _⟩,trivial⟩) ?_
  refine At.le [51] (fun k hk h=>by first | (cases h; done) | (simp at hk h; omega)) ⟨[(51,cD (lD 1 (fun xs=>[encL 6 z01 xs]) ([(sub (sub r1.2.merger.a r1.2.merger.i (r1.2.merger.a.length:Int)) 0 r4),(sub (sub r1.2.merger.b r1.2.merger.j (r1.2.merger.b.length:Int)) 0 r6)]:List (List Update)))),(0,.c (.ptr 5000 0)),(5,cD (lD 6 z01 (sub (sub r1.2.merger.a r1.2.merger.i (r1.2.merger.a.length:Int)) 0 r4))),(6,cD (lD 6 z01 (sub (sub r1.2.merger.b r1.2.merger.j (r1.2.merger.b.length:Int)) 0 r6))),(48,cD (lD 3 z02 r1.2.merger.since)),(49,cD (lD 6 z01 (sub (sub r1.2.merger.a r1.2.merger.i (r1.2.merger.a.length:Int)) 0 r4))),(50,cD (lD 6 z01 (sub (sub r1.2.merger.b r1.2.merger.j (r1.2.merger.b.length:Int)) 0 r6)))],[(5000,.box [.d (lD 6 z01 r1.2.merger.a),.d (lD 6 z01 r1.2.merger.b),.d (dI r1.2.merger.i),.d (dI r1.2.merger.j),.d (lD 3 z02 r1.2.merger.since),oC 5150 6 r1.2.merger.out]),(5150,vL 6 z01 r1.2.merger.out)]⟩ ⟨⟨_,rfl,.c (.own rfl (List.mem_singleton.2 rfl) (Nat.le_of_ble_eq_true rfl) rfl (z2l ((fun xs=>[encL 6 z01 xs])) ([(sub (sub r1.2.merger.a r1.2.merger.i (r1.2.merger.a.length:Int)) 0 r4),(sub (sub r1.2.merger.b r1.2.merger.j (r1.2.merger.b.length:Int)) 0 r6)]:List (List Update))))⟩,⟨_,rfl,.refl _⟩,⟨_,rfl,.refl _⟩,⟨_,rfl,.refl _⟩,⟨_,rfl,.refl _⟩,⟨_,rfl,.refl _⟩,⟨_,rfl,.refl _⟩,trivial⟩ ⟨⟨_,rfl,.refl _,(by simp)⟩,⟨_,rfl,.refl _,(by simp)⟩,trivial⟩ ?_
  obtain ⟨r8,hr8,h⟩:=z04 h
  refine At.cA [] [cD (lD 3 z02 r1.2.merger.since),cD (lD 1 (fun xs=>[encL 6 z01 xs]) ([(sub (sub r1.2.merger.a r1.2.merger.i (r1.2.merger.a.length:Int)) 0 r4),(sub (sub r1.2.merger.b r1.2.merger.j (r1.2.merger.b.length:Int)) 0 r6)]:List (List Update)))] (z90 hr8) (.cons (.refl _) (.cons (.refl _) .nil)) ?_
  refine At.sg 5 [0,5,6,7,8] [5000,5150] (z00 5) ?_
  refine At.done rfl ?_
  refine Tri.seqS ?_
  refine Tri.segL [0,5,6,7,8,56] [5000,5150] ⟨[(0,.c (.ptr 5000 0)),(5,cD (lD 6 z01 (sub (sub r1.2.merger.a r1.2.merger.i (r1.2.merger.a.length:Int)) 0 r4))),(6,cD (lD 6 z01 (sub (sub r1.2.merger.b r1.2.merger.j (r1.2.merger.b.length:Int)) 0 r6))),(7,cD (lD 6 z01 r8.1)),(8,cD (dI r8.2)),(56,cD (.bool (!decide (r8.2=0))))],[(5000,.box [.d (lD 6 z01 r1.2.merger.a),.d (lD 6 z01 r1.2.merger.b),.d (dI r1.2.merger.i),.d (dI r1.2.merger.j),.d (lD 3 z02 r1.2.merger.since),oC 5150 6 r1.2.merger.out]),(5150,vL 6 z01 r1.2.merger.out)]⟩ _ (by kernel_rfl) (z00 2) ?_
  refine Tri.condK h (fun h => ?_) (fun h => ?_)
  ·refine Tri.sg [2,3] [5000,5150] (z00 3) ?_
   refine Tri.ret ?_
   cases h
   exact RetAt.k
  ·refine Tri.skip ?_
   refine Tri.seqS ?_
   obtain ⟨hc9,h⟩:=z03 h
   refine Tri.dA ⟨[(5,cD (lD 6 z01 (sub (sub r1.2.merger.a r1.2.merger.i (r1.2.merger.a.length:Int)) 0 r4))),(6,cD (lD 6 z01 (sub (sub r1.2.merger.b r1.2.merger.j (r1.2.merger.b.length:Int)) 0 r6)))],[(5000,.box [.d (lD 6 z01 r1.2.merger.a),.d (lD 6 z01 r1.2.merger.b),.d (dI (IntKind.i64.wrap (r1.2.merger.i + ((sub (sub r1.2.merger.a r1.2.merger.i (r1.2.merger.a.length:Int)) 0 r4).length:Int)))),.d (dI (IntKind.i64.wrap (r1.2.merger.j + ((sub (sub r1.2.merger.b r1.2.merger.j (r1.2.merger.b.length:Int)) 0 r6).length:Int)))),.d (lD 3 z02 r1.2.merger.since),oC 5150 6 (r1.2.merger.out++r8.1)]),(5150,vL 6 z01 (r1.2.merger.out++r8.1))]⟩ [(7,25,⟨[(64,.c (.ptr 5000 2))],[(5000,.box [.d (lD 6 z01 r1.2.merger.a),.d (lD 6 z01 r1.2.merger.b),.d (dI r1.2.merger.i),.d (dI r1.2.merger.j),.d (lD 3 z02 r1.2.merger.since),.any])]⟩),(15,25,⟨[(72,.c (.ptr 5000 3))],[(5000,.box [.d (lD 6 z01 r1.2.merger.a),.d (lD 6 z01 r1.2.merger.b),.d (dI r1.2.merger.i),.d (dI r1.2.merger.j),.d (lD 3 z02 r1.2.merger.since),.any])]⟩)] [.a [0] [],.a [0] [],.a [0] [],.a [0] [],.a [61] [],.a [62] [],.a [63] [],.a [64] [5000],.a [5] [],.a [66] [],.a [65,67] [],.a [0] [],.a [69] [],.a [70] [],.a [71] [],.a [72] [5000],.a [6] [],.a [74] [],.a [73,75] [],.a [0] [],.a [77] [],.a [78] [],.a [79] [],.a [80] [5000],.a [7] [],.m ⟨[(81,.c (oC 5150 6 r1.2.merger.out)),(82,cD (lD 6 z01 r8.1))],[(5000,.box [.d (lD 6 z01 r1.2.merger.a),.d (lD 6 z01 r1.2.merger.b),.d (dI r1.2.merger.i),.d (dI r1.2.merger.j),.d (lD 3 z02 r1.2.merger.since),oC 5150 6 r1.2.merger.out]),(5150,vL 6 z01 r1.2.merger.out)]⟩ ⟨[(83,.c (oC 5150 6 (r1.2.merger.out++r8.1))),(81,.c (.any))],[(5150,vL 6 z01 (r1.2.merger.out++r8.1)),(5000,.box [.d (lD 6 z01 r1.2.merger.a),.d (lD 6 z01 r1.2.merger.b),.d (dI r1.2.merger.i),.d (dI r1.2.merger.j),.d (lD 3 z02 r1.2.merger.since),.any])]⟩ [5150] [81] [5000],.a [58] [],.a [84] [],.a [85] [],.m ⟨[(68,cD (dI (IntKind.i64.wrap (r1.2.merger.i + ((sub (sub r1.2.merger.a r1.2.merger.i (r1.2.merger.a.length:Int)) 0 r4).length:Int))))),(86,.c (.ptr 5000 2))],[(5000,.box [.d (lD 6 z01 r1.2.merger.a),.d (lD 6 z01 r1.2.merger.b),.d (dI r1.2.merger.i),.d (dI r1.2.merger.j),.d (lD 3 z02 r1.2.merger.since),.any])]⟩ ⟨[],[(5000,.box [.d (lD 6 z01 r1.2.merger.a),.d (lD 6 z01 r1.2.merger.b),.d (dI (IntKind.i64.wrap (r1.2.merger.i + ((sub (sub r1.2.merger.a r1.2.merger.i (r1.2.merger.a.length:Int)) 0 r4).length:Int)))),.d (dI r1.2.merger.j),.d (lD 3 z02 r1.2.merger.since),.any])]⟩ [] [] [],.a [59] [],.a [87] [],.a [88] [],.m ⟨[(76,cD (dI (IntKind.i64.wrap (r1.2.merger.j + ((sub (sub r1.2.merger.b r1.2.merger.j (r1.2.merger.b.length:Int)) 0 r6).length:Int))))),(89,.c (.ptr 5000 3))],[(5000,.box [.d (lD 6 z01 r1.2.merger.a),.d (lD 6 z01 r1.2.merger.b),.d (dI (IntKind.i64.wrap (r1.2.merger.i + ((sub (sub r1.2.merger.a r1.2.merger.i (r1.2.merger.a.length:Int)) 0 r4).length:Int)))),.d (dI r1.2.merger.j),.d (lD 3 z02 r1.2.merger.since),.any])]⟩ ⟨[],[(5000,.box [.d (lD 6 z01 r1.2.merger.a),.d (lD 6 z01 r1.2.merger.b),.d (dI (IntKind.i64.wrap (r1.2.merger.i + ((sub (sub r1.2.merger.a r1.2.merger.i (r1.2.merger.a.length:Int)) 0 r4).length:Int)))),.d (dI (IntKind.i64.wrap (r1.2.merger.j + ((sub (sub r1.2.merger.b r1.2.merger.j (r1.2.merger.b.length:Int)) 0 r6).length:Int)))),.d (lD 3 z02 r1.2.merger.since),.any])]⟩ [] [] [],.a [60] [],.a [90] [],.a [91] [],.m ⟨[(83,.c (oC 5150 6 (r1.2.merger.out++r8.1))),(92,.c (.ptr 5000 5))],[(5000,.box [.d (lD 6 z01 r1.2.merger.a),.d (lD 6 z01 r1.2.merger.b),.d (dI (IntKind.i64.wrap (r1.2.merger.i + ((sub (sub r1.2.merger.a r1.2.merger.i (r1.2.merger.a.length:Int)) 0 r4).length:Int)))),.d (dI (IntKind.i64.wrap (r1.2.merger.j + ((sub (sub r1.2.merger.b r1.2.merger.j (r1.2.merger.b.length:Int)) 0 r6).length:Int)))),.d (lD 3 z02 r1.2.merger.since),.any]),(5150,vL 6 z01 (r1.2.merger.out++r8.1))]⟩ ⟨[],[(5000,.box [.d (lD 6 z01 r1.2.merger.a),.d (lD 6 z01 r1.2.merger.b),.d (dI (IntKind.i64.wrap (r1.2.merger.i + ((sub (sub r1.2.merger.a r1.2.merger.i (r1.2.merger.a.length:Int)) 0 r4).length:Int)))),.d (dI (IntKind.i64.wrap (r1.2.merger.j + ((sub (sub r1.2.merger.b r1.2.merger.j (r1.2.merger.b.length:Int)) 0 r6).length:Int)))),.d (lD 3 z02 r1.2.merger.since),oC 5150 6 (r1.2.merger.out++r8.1)])]⟩ [] [] []] [5,6] [5000,5150] (cs:=True∧True∧True∧True∧True∧True∧True∧True∧True∧True∧True∧True∧True∧True∧True∧True∧True∧True∧True∧True∧True∧True∧True∧True∧True∧True∧True∧True∧True∧True∧True∧True∧True∧True∧True) ⟨trivial,trivial,trivial,trivial,trivial,trivial,trivial,trivial,trivial,trivial,trivial,trivial,trivial,trivial,trivial,trivial,trivial,trivial,trivial,trivial,trivial,trivial,trivial,trivial,trivial,trivial,trivial,trivial,trivial,trivial,trivial,trivial,trivial,trivial,trivial⟩ (.a (.a (.a (.a (.a (.a (.a (.a (.a (.a (.a (.a (.a (.a (.a (.a (.a (.a (.a (.a (.a (.a (.a (.a (.a (.m ?_ (.a (.a (.a (.m ?_ (.a (.a (.a (.m ?_ (.a (.a (.a (.m ?_ .z)))))))))))))))))))))))))))))))))))))) (z5k.k (z5k.k z5k.z)) ?_
   · exact DOk.drop (k:=5150) (d:=83) (v:=vL 6 z01 (r1.2.merger.out++r8.1)) (av:=.c (oC 5150 6 (r1.2.merger.out++r8.1))) rfl (fun r hr=>One.appendT (e:=56) (es:=6) (z01) r1.2.merger.out r8.1 rfl rfl (by kernel_rfl) rfl rfl (.of 56 80 [.zero,.zero,.d (dU 0),.d (dU 0),.d (dU 0),.d (dI 0)] (by kernel_rfl) (by kernel_rfl) (by kernel_rfl) (by kernel_rfl) rfl (by kernel_rfl) rfl) rfl rfl rfl (.list rfl (fun _ _=>rfl)) hc9) (by kernel_rfl) (by kernel_rfl) (by kernel_rfl) (by kernel_rfl)
   · exact DOk.step (.turn 5000 (.box [.d (lD 6 z01 r1.2.merger.a),.d (lD 6 z01 r1.2.merger.b),.d (dI (IntKind.i64.wrap (r1.2.merger.i + ((sub (sub r1.2.merger.a r1.2.merger.i (r1.2.merger.a.length:Int)) 0 r4).length:Int)))),.d (dI r1.2.merger.j),.d (lD 3 z02 r1.2.merger.since),.any])) (fun r=>by kernel_rfl) (fun r=>by kernel_rfl) trivial (by kernel_rfl) (by kernel_rfl) (fun r=>rfl)
   · exact DOk.step (.turn 5000 (.box [.d (lD 6 z01 r1.2.merger.a),.d (lD 6 z01 r1.2.merger.b),.d (dI (IntKind.i64.wrap (r1.2.merger.i + ((sub (sub r1.2.merger.a r1.2.merger.i (r1.2.merger.a.length:Int)) 0 r4).length:Int)))),.d (dI (IntKind.i64.wrap (r1.2.merger.j + ((sub (sub r1.2.merger.b r1.2.merger.j (r1.2.merger.b.length:Int)) 0 r6).length:Int)))),.d (lD 3 z02 r1.2.merger.since),.any])) (fun r=>by kernel_rfl) (fun r=>by kernel_rfl) trivial (by kernel_rfl) (by kernel_rfl) (fun r=>rfl)
   · exact DOk.step (.turn 5000 (.box [.d (lD 6 z01 r1.2.merger.a),.d (lD 6 z01 r1.2.merger.b),.d (dI (IntKind.i64.wrap (r1.2.merger.i + ((sub (sub r1.2.merger.a r1.2.merger.i (r1.2.merger.a.length:Int)) 0 r4).length:Int)))),.d (dI (IntKind.i64.wrap (r1.2.merger.j + ((sub (sub r1.2.merger.b r1.2.merger.j (r1.2.merger.b.length:Int)) 0 r6).length:Int)))),.d (lD 3 z02 r1.2.merger.since),oC 5150 6 (r1.2.merger.out++r8.1)])) (fun r=>by kernel_rfl) (fun r=>by kernel_rfl) trivial (by kernel_rfl) (by kernel_rfl) (fun r=>rfl)
   refine Tri.sg [2,3] [5000,5150] (z00 7) ?_
   refine Tri.ret ?_
   cases h
   exact RetAt.k
theorem z8z {fuel:Nat} {p0:Merger} {p1:Int} {q:Merger × Int × Int} (h:z5p fuel p0 p1=some q) :
    Summ Tryz.prog 20 [.agg (cMerger p0),cD (dI p1)] [] (.tup [(true,[.d (lD 6 z01 q.1.a),.d (lD 6 z01 q.1.b),.d (dI q.1.i),.d (dI q.1.j),.d (lD 3 z02 q.1.since),.d (lD 6 z01 q.1.out)]),(false,[.d (dI q.2.1)]),(false,[.d (dI q.2.2)])]) []:=by
  refine Summ.intro Tryz.func20 rfl (by kernel_rfl) (by kernel_rfl) [] rfl ?_
  rintro ⟨P,w0,G0,V,LL,lk,N, φ0,fx⟩ rfl rfl rfl rfl
  unfold z5p at h
  refine Tri.sg [1,2,4] [2,4] (z00 4) ?_
  refine Tri.seqS ?_
  refine Tri.seqS ?_
  refine Tri.reg ?_
  refine At.sg 1 [1,2,4,12] [2,4] (z00 1) ?_
  obtain ⟨r1,hr1,h⟩:=z04 h
  refine At.cA [] [.agg (cMerger p0)] (z6b hr1) (.cons (.refl _) .nil) ?_
  refine At.sg 1 [1,2,4,7] [2,4] (z00 1) ?_
  refine At.done rfl ?_
  refine Tri.sg [1,2,4,7,15] [2,4] (z00 2) ?_
  refine Tri.condK h (fun h => ?_) (fun h => ?_)
  ·refine Tri.sg [4,5,6] [4] (z00 5) ?_
   refine Tri.keep [4,5,6] [4] (s':=⟨[(4,.c (.ptr 4 0)),(5,cD (dI 0)),(6,cD (dI r1))],[(4,.box [.zero,.zero,.d (dI 0),.d (dI 0),.zero,.zero])]⟩) (by kernel_rfl) ?_
   refine Tri.le [] (fun k hk=>by cases hk) ⟨[(4,.c (.ptr 4 0)),(5,cD (dI 0)),(6,cD (dI r1))],[(4,.box [.d (lD 6 z01 ([]:List Update)),.d (lD 6 z01 ([]:List Update)),.d (dI 0),.d (dI 0),.d (lD 3 z02 ([]:List Time)),.d (lD 6 z01 ([]:List Update))])]⟩ ⟨⟨_,rfl,.refl _⟩,⟨_,rfl,.refl _⟩,⟨_,rfl,.refl _⟩,trivial⟩ ⟨⟨_,rfl,.box (.cons (.zero _ _) (.cons (.zero _ _) (.cons (.refl _) (.cons (.refl _) (.cons (.zero _ _) (.cons (.zero _ _) .nil)))))),(by simp)⟩,trivial⟩ ?_
   refine Tri.ret ?_
   cases h
   exact RetAt.k
  ·refine Tri.skip ?_
   refine Tri.seqS ?_
   refine Tri.reg ?_
   refine At.sg 1 [1,4,18] [4] (z00 1) ?_
   obtain ⟨r2,hr2,h⟩:=z04 h
   refine At.cL 0 [] [.agg (cMerger p0)] [(6105,30304)] [1,4] [4] (zdj hr2) (.flat (.refl _) rfl rfl .nil) ?_
   refine At.sg 3 [1,4,8] [4,21,30304] (z00 3) ?_
   refine At.done rfl ?_
   refine Tri.sg [1,4,8,9] [4,21,30304] (z00 1) ?_
   refine Tri.seqS ?_
   refine Tri.lK (0,(⟨r2⟩:Worker)) (fun (x:Merger × Int × Int) s=>RetAt Tryz.prog Tryz.f20 (.tup [(true,[.d (lD 6 z01 x.1.a),.d (lD 6 z01 x.1.b),.d (dI x.1.i),.d (dI x.1.j),.d (lD 3 z02 x.1.since),.d (lD 6 z01 x.1.out)]),(false,[.d (dI x.2.1)]),(false,[.d (dI x.2.2)])]) [] s) (fun (a3:Int × Worker)=>⟨[(1,cD (dI p1)),(4,.c (.ptr 4 0)),(8,.c (.ptr 21 0)),(9,cD (dI a3.1))],[(4,.box [.zero,.zero,.d (dI 0),.d (dI 0),.zero,.zero]),(21,.box [.d (lD 6 z01 a3.2.merger.a),.d (lD 6 z01 a3.2.merger.b),.d (dI a3.2.merger.i),.d (dI a3.2.merger.j),.d (lD 3 z02 a3.2.merger.since),oC 30304 6 a3.2.merger.out]),(30304,vL 6 z01 a3.2.merger.out)]⟩) [1,4,8,9] [4,21,30304] h ?_ ?_ ?_
   ·intro a3 c h
    refine Tri.seqS ?_
    refine Tri.seqJ (fun (a5:Bool × Worker)=>⟨[(1,cD (dI p1)),(4,.c (.ptr 4 0)),(8,.c (.ptr 21 0)),(9,cD (dI a3.1)),(28,cD (.bool a5.1))],[(4,.box [.zero,.zero,.d (dI 0),.d (dI 0),.zero,.zero]),(21,.box [.d (lD 6 z01 a5.2.merger.a),.d (lD 6 z01 a5.2.merger.b),.d (dI a5.2.merger.i),.d (dI a5.2.merger.j),.d (lD 3 z02 a5.2.merger.since),oC 30304 6 a5.2.merger.out]),(30304,vL 6 z01 a5.2.merger.out)]⟩) h (fun a5 h => ?_) (fun j6 h => ?_)
    ·refine Tri.condK h (fun h => ?_) (fun h => ?_)
     ·refine Tri.skip ?_
      refine Tri.blockB ?_
      refine Tri.seqS ?_
      refine Tri.reg ?_
      refine At.sg 1 [1,4,8,9,30] [4,21,30304] (z00 1) ?_
      obtain ⟨r7,hr7,h⟩:=z04 h
      refine At.cL 0 [] [.c (.ptr 21 0)] [(5000,21),(5100,30304),(5150,30304)] [1,4,8,9] [4] (z7q hr7) (.ren rfl rfl .nil) ?_
      refine At.sg 5 [1,4,8,9,10,11] [4,21,30304] (z00 5) ?_
      refine At.done rfl ?_
      refine Tri.seqS ?_
      refine Tri.sg [1,4,8,9,10,11,35] [4,21,30304] (z00 2) ?_
      refine Tri.condK h (fun h => ?_) (fun h => ?_)
      ·refine Tri.sg [4,5,6] [4,30304] (z00 9) ?_
       refine Tri.keep [4,5,6] [4,30304] (s':=⟨[(4,.c (.ptr 4 0)),(5,cD (dI a3.1)),(6,cD (dI r7.2.1))],[(4,.box [.d (lD 6 z01 r7.2.2.merger.a),.d (lD 6 z01 r7.2.2.merger.b),.d (dI r7.2.2.merger.i),.d (dI r7.2.2.merger.j),.d (lD 3 z02 r7.2.2.merger.since),oC 30304 6 r7.2.2.merger.out]),(30304,vL 6 z01 r7.2.2.merger.out)]⟩) (by kernel_rfl) ?_
       refine Tri.le [30304] (fun k hk h=>by first | (cases h; done) | (simp at hk h; omega)) ⟨[(4,.c (.ptr 4 0)),(5,cD (dI a3.1)),(6,cD (dI r7.2.1))],[(4,.box (cMerger r7.2.2.merger))]⟩ ⟨⟨_,rfl,.refl _⟩,⟨_,rfl,.refl _⟩,⟨_,rfl,.refl _⟩,trivial⟩ ⟨⟨_,rfl,.box (.cons (.refl _) (.cons (.refl _) (.cons (.refl _) (.cons (.refl _) (.cons (.refl _) (.cons (CLe.frozen (z01) r7.2.2.merger.out rfl (by simp)) .nil)))))),(by simp)⟩,trivial⟩ ?_
       refine Tri.ret ?_
       cases h
       exact RetAt.k
      ·refine Tri.skip ?_
       refine Tri.reg ?_
       refine At.sg 4 [1,4,8,9] [4,21,30304] (z00 4) ?_
       refine At.done rfl ?_
       cases h
       exact kr
     ·refine Tri.kp [1,4,8,9] [4,21,30304] ?_
      refine Tri.exit ?_
      cases h
      exact ⟨rfl,kr⟩
    ·refine Tri.reg ?_
     refine At.sg 4 [1,4,8,9,25] [4,21,30304] (z00 4) ?_
     refine At.cs [25] h (fun h => ?_) (fun h => ?_)
     ·refine At.sg 1 [1,4,8,9,25,26] [4,21,30304] (z00 1) ?_
      obtain ⟨r8,hr8,h⟩:=z04 h
      refine At.cL 0 [] [.c (.ptr 21 0)] [(5000,21),(5100,30304),(5150,30304)] [1,4,8,9,25] [4] (z7p hr8) (.ren rfl rfl .nil) ?_
      refine At.sg 1 [1,4,8,9,28] [4,21,30304] (z00 1) ?_
      refine At.done rfl ?_
      exact ⟨_,h,kr⟩
     ·refine At.sg 3 [1,4,8,9,28] [4,21,30304] (z00 1) ?_
      refine At.done rfl ?_
      exact ⟨_,h,kr⟩
   ·intro a4 h
    refine Tri.sg [4,5,6] [4,30304] (z00 8) ?_
    refine Tri.keep [4,5,6] [4,30304] (s':=⟨[(4,.c (.ptr 4 0)),(5,cD (dI a4.1)),(6,cD (dI 0))],[(4,.box [.d (lD 6 z01 a4.2.merger.a),.d (lD 6 z01 a4.2.merger.b),.d (dI a4.2.merger.i),.d (dI a4.2.merger.j),.d (lD 3 z02 a4.2.merger.since),oC 30304 6 a4.2.merger.out]),(30304,vL 6 z01 a4.2.merger.out)]⟩) (by kernel_rfl) ?_
    refine Tri.le [30304] (fun k hk h=>by first | (cases h; done) | (simp at hk h; omega)) ⟨[(4,.c (.ptr 4 0)),(5,cD (dI a4.1)),(6,cD (dI 0))],[(4,.box (cMerger a4.2.merger))]⟩ ⟨⟨_,rfl,.refl _⟩,⟨_,rfl,.refl _⟩,⟨_,rfl,.refl _⟩,trivial⟩ ⟨⟨_,rfl,.box (.cons (.refl _) (.cons (.refl _) (.cons (.refl _) (.cons (.refl _) (.cons (.refl _) (.cons (CLe.frozen (z01) a4.2.merger.out rfl (by simp)) .nil)))))),(by simp)⟩,trivial⟩ ?_
    refine Tri.ret ?_
    cases h
    exact RetAt.k
   · exact fun x s hx hr=>by cases hx; exact hr
theorem z7v {l0:Worker} {q:Bool × Worker} (h:z3f l0=some q) :
    Summ Tryz.prog 55 [.c (.ptr 5000 0)] [(5000,.box (cMerger l0.merger))] (cD (.bool q.1)) [(5000,.box (cMerger q.2.merger))]:=by
  refine Summ.intro Tryz.func55 rfl (by kernel_rfl) (by kernel_rfl) [] rfl ?_
  rintro ⟨P,w0,G0,V,LL,lk,N, φ0,fx⟩ rfl rfl rfl rfl
  unfold z3f at h
  refine Tri.segL [0] [5000] ⟨[(0,.c (.ptr 5000 0))],[(5000,.box (cMerger l0.merger))]⟩ _ (by kernel_rfl) (z00 1) ?_
  refine Tri.seqJ (fun (a1:Bool)=>⟨[(2,cD (.bool a1))],[(5000,.box (cMerger l0.merger))]⟩) h (fun a1 h => ?_) (fun j2 h => ?_)
  ·refine Tri.ret ?_
   cases h
   exact RetAt.k
  ·rcases z27 h with ⟨hp3,h⟩ | ⟨hp3,h⟩
   ·refine Tri.dC [.a [0] [],.a [3] [],.a [4] [],.a [5] [],.a [6] [5000],.a [0] [],.a [8] [],.a [9] [],.a [10] [],.a [11] [5000],.a [12] [],.a [7,13] [],.m ⟨[(14,cD (.bool (decide (l0.merger.i < (l0.merger.a.length:Int)))))],[]⟩ ⟨[(15,.c (.d (.bool true)))],[]⟩ [] [] [],.a [0,15] [],.a [15,16] [],.a [15,17] [],.a [15,18] [],.a [15,19] [],.a [0,15] [],.a [15,21] [],.a [15,22] [],.a [15,23] [],.a [15,24] [],.a [15,25] [],.a [15,20,26] [],.a [15,27] [],.a [28] []] [2] [5000] (z00 14) (.a (.a (.a (.a (.a (.a (.a (.a (.a (.a (.a (.a (.m ?_ (.a (.a (.a (.a (.a (.a (.a (.a (.a (.a (.a (.a (.a (.a .z))))))))))))))))))))))))))) ?_
    · exact DOk.stepP (fun b => .val (.c (.d (.bool b))) (True)) (p:=(decide (l0.merger.i < (l0.merger.a.length:Int)))) hp3 (fun r=>by kernel_rfl) (fun r=>by kernel_rfl) trivial (by kernel_rfl) (by kernel_rfl) (fun r=>rfl)
    exact ⟨_,h,kr⟩
   ·refine Tri.dC [.a [0] [],.a [3] [],.a [4] [],.a [5] [],.a [6] [5000],.a [0] [],.a [8] [],.a [9] [],.a [10] [],.a [11] [5000],.a [12] [],.a [7,13] [],.m ⟨[(14,cD (.bool (decide (l0.merger.i < (l0.merger.a.length:Int)))))],[]⟩ ⟨[(15,.c (.d (.bool false)))],[]⟩ [] [] [],.a [0,15] [],.a [15,16] [],.a [15,17] [],.a [15,18] [],.a [15,19] [5000],.a [0,15] [],.a [15,21] [],.a [15,22] [],.a [15,23] [],.a [15,24] [5000],.a [15,25] [],.a [15,20,26] [],.a [15,27] [],.a [28] []] [2] [5000] (z00 26) (.a (.a (.a (.a (.a (.a (.a (.a (.a (.a (.a (.a (.m ?_ (.a (.a (.a (.a (.a (.a (.a (.a (.a (.a (.a (.a (.a (.a .z))))))))))))))))))))))))))) ?_
    · exact DOk.stepP (fun b => .val (.c (.d (.bool b))) (True)) (p:=(decide (l0.merger.i < (l0.merger.a.length:Int)))) hp3 (fun r=>by kernel_rfl) (fun r=>by kernel_rfl) trivial (by kernel_rfl) (by kernel_rfl) (fun r=>rfl)
    exact ⟨_,h,kr⟩
theorem z9x {fuel:Nat} {p0:Merger} {q:Batch × Int} (h:z71 fuel p0=some q) :
    Summ Tryz.prog 22 [.agg (cMerger p0)] [] (.tup [(true,[.d (lD 3 z02 q.1.since),.d (lD 6 z01 q.1.updates)]),(false,[.d (dI q.2)])]) []:=by
  refine Summ.intro Tryz.func22 rfl (by kernel_rfl) (by kernel_rfl) [] rfl ?_
  rintro ⟨P,w0,G0,V,LL,lk,N, φ0,fx⟩ rfl rfl rfl rfl
  unfold z71 at h
  refine Tri.sg [1,2] [1,2] (z00 3) ?_
  refine Tri.sg [1,2,4] [1,2,4] (z00 4) ?_
  refine Tri.seqS ?_
  refine Tri.seqJ (fun (a1:Bool)=>⟨[(1,.c (.ptr 1 0)),(2,.c (.ptr 2 0)),(12,cD (.bool a1))],[(1,.box (cMerger p0)),(2,.box [.zero,.zero])]⟩) h (fun a1 h => ?_) (fun j2 h => ?_)
  ·refine Tri.condK h (fun h => ?_) (fun h => ?_)
   ·refine Tri.sg [2,3] [2] (z00 3) ?_
    refine Tri.keep [2,3] [2] (s':=⟨[(2,.c (.ptr 2 0)),(3,cD (dI 8))],[(2,.box [.zero,.zero])]⟩) (by kernel_rfl) ?_
    refine Tri.le [] (fun k hk=>by cases hk) ⟨[(2,.c (.ptr 2 0)),(3,cD (dI 8))],[(2,.box [.d (lD 3 z02 ([]:List Time)),.d (lD 6 z01 ([]:List Update))])]⟩ ⟨⟨_,rfl,.refl _⟩,⟨_,rfl,.refl _⟩,trivial⟩ ⟨⟨_,rfl,.box (.cons (.zero _ _) (.cons (.zero _ _) .nil)),(by simp)⟩,trivial⟩ ?_
    refine Tri.ret ?_
    cases h
    exact RetAt.k
   ·refine Tri.skip ?_
    refine Tri.seqS ?_
    refine Tri.reg ?_
    refine At.sg 1 [1,2,14] [1,2] (z00 1) ?_
    obtain ⟨r3,hr3,h⟩:=z04 h
    refine At.cA [] [.agg (cMerger p0)] (zcc hr3) (.cons (.refl _) .nil) ?_
    refine At.sg 1 [1,2] [1,2] (z00 1) ?_
    refine At.done rfl ?_
    refine Tri.sg [2,3] [2] (z00 7) ?_
    refine Tri.ret ?_
    cases h
    exact RetAt.k
  ·refine Tri.reg ?_
   refine At.sg 1 [1,2,4,7] [1,2,4] (z00 1) ?_
   obtain ⟨r4,hr4,h⟩:=z04 h
   refine At.cA [] [.agg (cMerger p0)] (z6b hr4) (.cons (.refl _) .nil) ?_
   refine At.sg 2 [1,2,4,10] [1,2,4] (z00 2) ?_
   refine At.cs [10] h (fun h => ?_) (fun h => ?_)
   ·refine At.sg 2 [1,2,12] [1,2] (z00 1) ?_
    refine At.done rfl ?_
    exact ⟨_,h,kr⟩
   ·obtain ⟨r5,hr5,h⟩:=z04 h
    refine At.cL 0 [] [.c (.ptr 4 0)] [(5000,4)] [1,2,10] [1,2] (z7v hr5) (.ren rfl rfl .nil) ?_
    refine At.sg 1 [1,2,12] [1,2] (z00 1) ?_
    refine At.done rfl ?_
    exact ⟨_,h,kr⟩
theorem zat {fuel:Nat} {q:Bool} (h:z48 fuel=some q) :
    Summ Tryz.prog 13 [] [] (cD (.bool q)) []:=by
  refine Summ.intro Tryz.func13 rfl (by kernel_rfl) (by kernel_rfl) [] rfl ?_
  rintro ⟨P,w0,G0,V,LL,lk,N, φ0,fx⟩ rfl rfl rfl rfl
  unfold z48 at h
  refine Tri.sg [] [] (z00 1) ?_
  refine Tri.seqS ?_
  refine Tri.reg ?_
  obtain ⟨r1,hr1,h⟩:=z04 h
  refine At.cA [] [cD (dI 1)] (z6o hr1) (.cons (.refl _) .nil) ?_
  refine At.seg 1 [17] [] (s':=⟨[(17,.agg [.zero,.d (lD 3 z05 r1),.d (dU 0),.d (dU 0),.d (dU 0),.d (dI 1)])],[]⟩) (by kernel_rfl) (z00 1) ?_
  refine At.one rfl (One.buildSlice (z:=[.zero,.zero,.d (dU 0),.d (dU 0),.d (dU 0),.d (dI 0)]) (cells:=[.zero,.d (lD 3 z05 r1),.d (dU 0),.d (dU 0),.d (dU 0),.d (dI 1)]) (xs:=List.map (z01) ([(⟨([]:List Value),r1,(⟨0,(0,0)⟩:Time),1⟩:Update)]:List Update)) rfl rfl rfl rfl (by kernel_rfl) rfl rfl (by kernel_rfl) rfl rfl rfl (by kernel_rfl) rfl ⟨⟨rfl,(.cons (.zero _ _) (.cons (.refl _) (.cons (.refl _) (.cons (.refl _) (.cons (.refl _) (.cons (.refl _) .nil))))))⟩,trivial⟩) ?_
  refine At.le [18] (fun k hk h=>by first | (cases h; done) | (simp at hk h; omega)) ⟨[(18,cD (lD 6 z01 ([(⟨([]:List Value),r1,(⟨0,(0,0)⟩:Time),1⟩:Update)]:List Update))),(17,.agg [.zero,.d (lD 3 z05 r1),.d (dU 0),.d (dU 0),.d (dU 0),.d (dI 1)])],[]⟩ ⟨⟨_,rfl,.c (.own rfl (List.mem_singleton.2 rfl) (Nat.le_of_ble_eq_true rfl) rfl (z2l (z01) ([(⟨([]:List Value),r1,(⟨0,(0,0)⟩:Time),1⟩:Update)]:List Update)))⟩,⟨_,rfl,.refl _⟩,trivial⟩ trivial ?_
  obtain ⟨r2,hr2,h⟩:=z04 h
  refine At.cA [] [cD (dI 2)] (z6o hr2) (.cons (.refl _) .nil) ?_
  refine At.seg 1 [18,20] [] (s':=⟨[(18,cD (lD 6 z01 ([(⟨([]:List Value),r1,(⟨0,(0,0)⟩:Time),1⟩:Update)]:List Update))),(20,.agg [.zero,.d (lD 3 z05 r2),.d (dU 0),.d (dU 0),.d (dU 0),.d (dI 5)])],[]⟩) (by kernel_rfl) (z00 1) ?_
  refine At.one rfl (One.buildSlice (z:=[.zero,.zero,.d (dU 0),.d (dU 0),.d (dU 0),.d (dI 0)]) (cells:=[.zero,.d (lD 3 z05 r2),.d (dU 0),.d (dU 0),.d (dU 0),.d (dI 5)]) (xs:=List.map (z01) ([(⟨([]:List Value),r2,(⟨0,(0,0)⟩:Time),5⟩:Update)]:List Update)) rfl rfl rfl rfl (by kernel_rfl) rfl rfl (by kernel_rfl) rfl rfl rfl (by kernel_rfl) rfl ⟨⟨rfl,(.cons (.zero _ _) (.cons (.refl _) (.cons (.refl _) (.cons (.refl _) (.cons (.refl _) (.cons (.refl _) .nil))))))⟩,trivial⟩) ?_
  refine At.le [21] (fun k hk h=>by first | (cases h; done) | (simp at hk h; omega)) ⟨[(21,cD (lD 6 z01 ([(⟨([]:List Value),r2,(⟨0,(0,0)⟩:Time),5⟩:Update)]:List Update))),(18,cD (lD 6 z01 ([(⟨([]:List Value),r1,(⟨0,(0,0)⟩:Time),1⟩:Update)]:List Update))),(20,.agg [.zero,.d (lD 3 z05 r2),.d (dU 0),.d (dU 0),.d (dU 0),.d (dI 5)])],[]⟩ ⟨⟨_,rfl,.c (.own rfl (List.mem_singleton.2 rfl) (Nat.le_of_ble_eq_true rfl) rfl (z2l (z01) ([(⟨([]:List Value),r2,(⟨0,(0,0)⟩:Time),5⟩:Update)]:List Update)))⟩,⟨_,rfl,.refl _⟩,⟨_,rfl,.refl _⟩,trivial⟩ trivial ?_
  refine At.one rfl (One.buildSlice (z:=[.zero]) (cells:=[.d (lD 6 z01 ([(⟨([]:List Value),r1,(⟨0,(0,0)⟩:Time),1⟩:Update)]:List Update)),.d (lD 6 z01 ([(⟨([]:List Value),r2,(⟨0,(0,0)⟩:Time),5⟩:Update)]:List Update))]) (xs:=List.map ((fun xs=>[encL 6 z01 xs])) ([([(⟨([]:List Value),r1,(⟨0,(0,0)⟩:Time),1⟩:Update)]:List Update),([(⟨([]:List Value),r2,(⟨0,(0,0)⟩:Time),5⟩:Update)]:List Update)]:List (List Update))) rfl rfl rfl rfl (by kernel_rfl) rfl rfl (by kernel_rfl) rfl rfl rfl (by kernel_rfl) rfl ⟨⟨rfl,.refl _⟩,⟨rfl,.refl _⟩,trivial⟩) ?_
  refine At.le [22] (fun k hk h=>by first | (cases h; done) | (simp at hk h; omega)) ⟨[(22,cD (lD 1 (fun xs=>[encL 6 z01 xs]) ([([(⟨([]:List Value),r1,(⟨0,(0,0)⟩:Time),1⟩:Update)]:List Update),([(⟨([]:List Value),r2,(⟨0,(0,0)⟩:Time),5⟩:Update)]:List Update)]:List (List Update)))),(18,cD (lD 6 z01 ([(⟨([]:List Value),r1,(⟨0,(0,0)⟩:Time),1⟩:Update)]:List Update))),(21,cD (lD 6 z01 ([(⟨([]:List Value),r2,(⟨0,(0,0)⟩:Time),5⟩:Update)]:List Update)))],[]⟩ ⟨⟨_,rfl,.c (.own rfl (List.mem_singleton.2 rfl) (Nat.le_of_ble_eq_true rfl) rfl (z2l ((fun xs=>[encL 6 z01 xs])) ([([(⟨([]:List Value),r1,(⟨0,(0,0)⟩:Time),1⟩:Update)]:List Update),([(⟨([]:List Value),r2,(⟨0,(0,0)⟩:Time),5⟩:Update)]:List Update)]:List (List Update))))⟩,⟨_,rfl,.refl _⟩,⟨_,rfl,.refl _⟩,trivial⟩ trivial ?_
  obtain ⟨r3,hr3,h⟩:=z04 h
  refine At.cA [] [.c (.zero),cD (lD 1 (fun xs=>[encL 6 z01 xs]) ([([(⟨([]:List Value),r1,(⟨0,(0,0)⟩:Time),1⟩:Update)]:List Update),([(⟨([]:List Value),r2,(⟨0,(0,0)⟩:Time),5⟩:Update)]:List Update)]:List (List Update)))] (z8e hr3) (.cons (.c (.le (.zero _ _))) (.cons (.refl _) .nil)) ?_
  refine At.sg 6 [1,2] [1] (z00 6) ?_
  refine At.done rfl ?_
  refine Tri.seqS ?_
  refine Tri.reg ?_
  obtain ⟨r4,hr4,h⟩:=z04 h
  refine At.cA [] [cD (dI 1)] (z6o hr4) (.cons (.refl _) .nil) ?_
  refine At.seg 1 [1,2,28] [1] (s':=⟨[(1,.c (.ptr 1 0)),(2,cD (dI r3.2)),(28,.agg [.zero,.d (lD 3 z05 r4),.d (dU 0),.d (dU 0),.d (dU 0),.d (dI (-1))])],[(1,.box (cBatch r3.1))]⟩) (by kernel_rfl) (z00 1) ?_
  refine At.one rfl (One.buildSlice (z:=[.zero,.zero,.d (dU 0),.d (dU 0),.d (dU 0),.d (dI 0)]) (cells:=[.zero,.d (lD 3 z05 r4),.d (dU 0),.d (dU 0),.d (dU 0),.d (dI (-1))]) (xs:=List.map (z01) ([(⟨([]:List Value),r4,(⟨0,(0,0)⟩:Time),(-1)⟩:Update)]:List Update)) rfl rfl rfl rfl (by kernel_rfl) rfl rfl (by kernel_rfl) rfl rfl rfl (by kernel_rfl) rfl ⟨⟨rfl,(.cons (.zero _ _) (.cons (.refl _) (.cons (.refl _) (.cons (.refl _) (.cons (.refl _) (.cons (.refl _) .nil))))))⟩,trivial⟩) ?_
  refine At.le [29] (fun k hk h=>by first | (cases h; done) | (simp at hk h; omega)) ⟨[(29,cD (lD 6 z01 ([(⟨([]:List Value),r4,(⟨0,(0,0)⟩:Time),(-1)⟩:Update)]:List Update))),(1,.c (.ptr 1 0)),(2,cD (dI r3.2)),(28,.agg [.zero,.d (lD 3 z05 r4),.d (dU 0),.d (dU 0),.d (dU 0),.d (dI (-1))])],[(1,.box (cBatch r3.1))]⟩ ⟨⟨_,rfl,.c (.own rfl (List.mem_singleton.2 rfl) (Nat.le_of_ble_eq_true rfl) rfl (z2l (z01) ([(⟨([]:List Value),r4,(⟨0,(0,0)⟩:Time),(-1)⟩:Update)]:List Update)))⟩,⟨_,rfl,.refl _⟩,⟨_,rfl,.refl _⟩,⟨_,rfl,.refl _⟩,trivial⟩ ⟨⟨_,rfl,.refl _,(by simp)⟩,trivial⟩ ?_
  refine At.one rfl (One.buildSlice (z:=[.zero]) (cells:=[.d (lD 6 z01 ([(⟨([]:List Value),r4,(⟨0,(0,0)⟩:Time),(-1)⟩:Update)]:List Update))]) (xs:=List.map ((fun xs=>[encL 6 z01 xs])) ([([(⟨([]:List Value),r4,(⟨0,(0,0)⟩:Time),(-1)⟩:Update)]:List Update)]:List (List Update))) rfl rfl rfl rfl (by kernel_rfl) rfl rfl (by kernel_rfl) rfl rfl rfl (by kernel_rfl) rfl ⟨⟨rfl,.refl _⟩,trivial⟩) ?_
  refine At.le [30] (fun k hk h=>by first | (cases h; done) | (simp at hk h; omega)) ⟨[(30,cD (lD 1 (fun xs=>[encL 6 z01 xs]) ([([(⟨([]:List Value),r4,(⟨0,(0,0)⟩:Time),(-1)⟩:Update)]:List Update)]:List (List Update)))),(1,.c (.ptr 1 0)),(2,cD (dI r3.2)),(29,cD (lD 6 z01 ([(⟨([]:List Value),r4,(⟨0,(0,0)⟩:Time),(-1)⟩:Update)]:List Update)))],[(1,.box (cBatch r3.1))]⟩ ⟨⟨_,rfl,.c (.own rfl (List.mem_singleton.2 rfl) (Nat.le_of_ble_eq_true rfl) rfl (z2l ((fun xs=>[encL 6 z01 xs])) ([([(⟨([]:List Value),r4,(⟨0,(0,0)⟩:Time),(-1)⟩:Update)]:List Update)]:List (List Update))))⟩,⟨_,rfl,.refl _⟩,⟨_,rfl,.refl _⟩,⟨_,rfl,.refl _⟩,trivial⟩ ⟨⟨_,rfl,.refl _,(by simp)⟩,trivial⟩ ?_
  obtain ⟨r5,hr5,h⟩:=z04 h
  refine At.cA [] [.c (.zero),cD (lD 1 (fun xs=>[encL 6 z01 xs]) ([([(⟨([]:List Value),r4,(⟨0,(0,0)⟩:Time),(-1)⟩:Update)]:List Update)]:List (List Update)))] (z8e hr5) (.cons (.c (.le (.zero _ _))) (.cons (.refl _) .nil)) ?_
  refine At.sg 6 [1,2,3,4] [1,3] (z00 6) ?_
  refine At.done rfl ?_
  refine Tri.seqS ?_
  refine Tri.reg ?_
  refine At.seg 2 [2,4,35,36] [] (s':=⟨[(2,cD (dI r3.2)),(4,cD (dI r5.2)),(35,.agg (cBatch r3.1)),(36,.agg (cBatch r5.1))],[]⟩) (by kernel_rfl) (z00 2) ?_
  obtain ⟨r6,hr6,h⟩:=z04 h
  refine At.cA [] [.c (.zero),.agg (cBatch r3.1),.agg (cBatch r5.1)] (zb6 hr6) (.cons (.c (.le (.zero _ _))) (.cons (.refl _) (.cons (.refl _) .nil))) ?_
  refine At.sg 6 [2,4,5,6] [5] (z00 6) ?_
  refine At.done rfl ?_
  refine Tri.seqS ?_
  refine Tri.reg ?_
  refine At.sg 1 [2,4,5,6,41] [5] (z00 1) ?_
  obtain ⟨r7,hr7,h⟩:=z04 h
  refine At.cA [] [.agg (cMerger r6.1),cD (dI 1)] (z8z hr7) (.cons (.refl _) (.cons (.refl _) .nil)) ?_
  refine At.sg 7 [2,4,5,6,7,8] [5] (z00 7) ?_
  refine At.done rfl ?_
  refine Tri.seqS ?_
  refine Tri.reg ?_
  refine At.sg 1 [2,4,5,6,7,8,47] [5] (z00 1) ?_
  obtain ⟨r8,hr8,h⟩:=z04 h
  refine At.cA [] [.agg (cMerger r7.1)] (z9x hr8) (.cons (.refl _) .nil) ?_
  refine At.sg 6 [2,4,5,6,7,8,10] [5] (z00 6) ?_
  refine At.done rfl ?_
  refine Tri.seqS ?_
  refine Tri.reg ?_
  refine At.sg 1 [2,4,5,6,7,8,10,52] [5] (z00 1) ?_
  obtain ⟨r9,hr9,h⟩:=z04 h
  refine At.cA [] [.agg (cMerger r7.1),cD (dI 9)] (z8z hr9) (.cons (.refl _) (.cons (.refl _) .nil)) ?_
  refine At.sg 7 [2,4,5,6,7,8,10,11,12] [5] (z00 7) ?_
  refine At.done rfl ?_
  refine Tri.seqS ?_
  refine Tri.reg ?_
  refine At.sg 1 [2,4,6,7,8,10,11,12,58] [] (z00 1) ?_
  obtain ⟨r10,hr10,h⟩:=z04 h
  refine At.cA [] [.agg (cMerger r9.1)] (z9x hr10) (.cons (.refl _) .nil) ?_
  refine At.sg 6 [2,4,6,7,8,10,11,12,13,14] [13] (z00 6) ?_
  refine At.done rfl ?_
  refine Tri.seqJ (fun (a11:Bool)=>⟨[(0,cD (.bool a11))],[]⟩) h (fun a11 h => ?_) (fun j12 h => ?_)
  ·refine Tri.ret ?_
   cases h
   exact RetAt.k
  ·refine Tri.reg ?_
   refine At.sg 3 [4,6,7,8,10,11,12,13,14,64] [13] (z00 3) ?_
   refine At.cs [64] h (fun h => ?_) (fun h => ?_)
   ·refine At.sg 4 [6,7,8,10,11,12,13,14,68] [13] (z00 4) ?_
    refine At.cs [68] h (fun h => ?_) (fun h => ?_)
    ·refine At.sg 4 [7,8,10,11,12,13,14,72] [13] (z00 4) ?_
     refine At.cs [72] h (fun h => ?_) (fun h => ?_)
     ·refine At.sg 4 [8,10,11,12,13,14,76] [13] (z00 4) ?_
      refine At.cs [76] h (fun h => ?_) (fun h => ?_)
      ·refine At.sg 4 [10,11,12,13,14,80] [13] (z00 4) ?_
       refine At.cs [80] h (fun h => ?_) (fun h => ?_)
       ·refine At.sg 4 [11,12,13,14,84] [13] (z00 4) ?_
        refine At.cs [84] h (fun h => ?_) (fun h => ?_)
        ·refine At.sg 4 [12,13,14,88] [13] (z00 4) ?_
         refine At.cs [88] h (fun h => ?_) (fun h => ?_)
         ·refine At.sg 4 [13,14,92] [13] (z00 4) ?_
          refine At.cs [92] h (fun h => ?_) (fun h => ?_)
          ·refine At.sg 4 [13,96] [13] (z00 4) ?_
           refine At.cs [96] h (fun h => ?_) (fun h => ?_)
           ·refine At.sg 6 [13,102] [13] (z00 6) ?_
            refine At.cs [102] h (fun h => ?_) (fun h => ?_)
            ·obtain ⟨hc13,h⟩:=z03 h
             refine At.sg 8 [110] [] (tN 2 (ai hc13 (z00 5))) ?_
             refine At.cs [110] h (fun h => ?_) (fun h => ?_)
             ·refine At.seg 1 [110,111] [] (s':=⟨[(110,cD (.bool true)),(111,.agg [.d (dU 2),.d (dU 0),.d (dU 0)])],[]⟩) (by kernel_rfl) (z00 1) ?_
              refine At.one rfl (One.buildSlice (z:=[.d (dU 0),.d (dU 0),.d (dU 0)]) (cells:=[.d (dU 2),.d (dU 0),.d (dU 0)]) (xs:=List.map (z02) ([(⟨2,(0,0)⟩:Time)]:List Time)) rfl rfl rfl rfl (by kernel_rfl) rfl rfl (by kernel_rfl) rfl rfl rfl (by kernel_rfl) rfl ⟨⟨rfl,.refl _⟩,trivial⟩) ?_
              refine At.le [112] (fun k hk h=>by first | (cases h; done) | (simp at hk h; omega)) ⟨[(112,cD (lD 3 z02 ([(⟨2,(0,0)⟩:Time)]:List Time))),(110,cD (.bool true)),(111,.agg [.d (dU 2),.d (dU 0),.d (dU 0)])],[]⟩ ⟨⟨_,rfl,.c (.own rfl (List.mem_singleton.2 rfl) (Nat.le_of_ble_eq_true rfl) rfl (z2l (z02) ([(⟨2,(0,0)⟩:Time)]:List Time)))⟩,⟨_,rfl,.refl _⟩,⟨_,rfl,.refl _⟩,trivial⟩ trivial ?_
              refine At.seg 1 [110,112,113] [] (s':=⟨[(110,cD (.bool true)),(112,cD (lD 3 z02 ([(⟨2,(0,0)⟩:Time)]:List Time))),(113,.agg [.d (dU 1),.d (dU 0),.d (dU 0)])],[]⟩) (by kernel_rfl) (z00 1) ?_
              refine At.one rfl (One.buildSlice (z:=[.d (dU 0),.d (dU 0),.d (dU 0)]) (cells:=[.d (dU 1),.d (dU 0),.d (dU 0)]) (xs:=List.map (z02) ([(⟨1,(0,0)⟩:Time)]:List Time)) rfl rfl rfl rfl (by kernel_rfl) rfl rfl (by kernel_rfl) rfl rfl rfl (by kernel_rfl) rfl ⟨⟨rfl,.refl _⟩,trivial⟩) ?_
              refine At.le [114] (fun k hk h=>by first | (cases h; done) | (simp at hk h; omega)) ⟨[(114,cD (lD 3 z02 ([(⟨1,(0,0)⟩:Time)]:List Time))),(110,cD (.bool true)),(112,cD (lD 3 z02 ([(⟨2,(0,0)⟩:Time)]:List Time))),(113,.agg [.d (dU 1),.d (dU 0),.d (dU 0)])],[]⟩ ⟨⟨_,rfl,.c (.own rfl (List.mem_singleton.2 rfl) (Nat.le_of_ble_eq_true rfl) rfl (z2l (z02) ([(⟨1,(0,0)⟩:Time)]:List Time)))⟩,⟨_,rfl,.refl _⟩,⟨_,rfl,.refl _⟩,⟨_,rfl,.refl _⟩,trivial⟩ trivial ?_
              obtain ⟨r14,hr14,h⟩:=z04 h
              refine At.cA [] [cD (lD 3 z02 ([(⟨2,(0,0)⟩:Time)]:List Time)),cD (lD 3 z02 ([(⟨1,(0,0)⟩:Time)]:List Time))] (z87 hr14) (.cons (.refl _) (.cons (.refl _) .nil)) ?_
              refine At.sg 2 [0] [] (z00 2) ?_
              refine At.done rfl ?_
              exact ⟨_,h,kr⟩
             ·refine At.sg 7 [0] [] (z00 2) ?_
              refine At.done rfl ?_
              exact ⟨_,h,kr⟩
            ·refine At.sg 15 [0] [] (z00 4) ?_
             refine At.done rfl ?_
             exact ⟨_,h,kr⟩
           ·refine At.sg 21 [0] [] (z00 6) ?_
            refine At.done rfl ?_
            exact ⟨_,h,kr⟩
          ·refine At.sg 25 [0] [] (z00 8) ?_
           refine At.done rfl ?_
           exact ⟨_,h,kr⟩
         ·refine At.sg 29 [0] [] (z00 10) ?_
          refine At.done rfl ?_
          exact ⟨_,h,kr⟩
        ·refine At.sg 33 [0] [] (z00 12) ?_
         refine At.done rfl ?_
         exact ⟨_,h,kr⟩
       ·refine At.sg 37 [0] [] (z00 14) ?_
        refine At.done rfl ?_
        exact ⟨_,h,kr⟩
      ·refine At.sg 41 [0] [] (z00 16) ?_
       refine At.done rfl ?_
       exact ⟨_,h,kr⟩
     ·refine At.sg 45 [0] [] (z00 18) ?_
      refine At.done rfl ?_
      exact ⟨_,h,kr⟩
    ·refine At.sg 49 [0] [] (z00 20) ?_
     refine At.done rfl ?_
     exact ⟨_,h,kr⟩
   ·refine At.sg 53 [0] [] (z00 22) ?_
    refine At.done rfl ?_
    exact ⟨_,h,kr⟩
theorem z2n {p0:List Value} {p1:List Value} {q:Bool} (h:z3c p0 p1=some q) :
    Summ Tryz.prog 62 [cD (lD 3 z05 p0),cD (lD 3 z05 p1)] [] (cD (.bool q)) []:=by
  refine Summ.intro Tryz.func62 rfl (by kernel_rfl) (by kernel_rfl) [] rfl ?_
  rintro ⟨P,w0,G0,V,LL,lk,N, φ0,fx⟩ rfl rfl rfl rfl
  unfold z3c at h
  refine Tri.sg [0,1] [] (z00 1) ?_
  refine Tri.seqS ?_
  refine Tri.sg [0,1,10] [] (z00 5) ?_
  refine Tri.condK h (fun h => ?_) (fun h => ?_)
  ·refine Tri.sg [4] [] (z00 1) ?_
   refine Tri.ret ?_
   cases h
   exact RetAt.k
  ·refine Tri.skip ?_
   refine Tri.seqS ?_
   refine Tri.sg [0,1,12,13] [] (z00 3) ?_
   refine Tri.ln 0 p0.length fun hlena2 => ?_
   refine Tri.rK 13 () (fun (x:Bool) s=>RetAt Tryz.prog Tryz.f62 (cD (.bool x)) [] s) (fun (a2:Unit)=>⟨[(0,cD (lD 3 z05 p0)),(1,cD (lD 3 z05 p1)),(12,cD (dI (p0.length:Int)))],[]⟩) [13,0,1,12] [] [14,13,0,1,12] [] [0,1,12] [] [13,0,1,12] [] h hlena2 ?_ ?_ ?_
   ·intro i1 a2 c hii1 h
    refine Tri.sg [0,1,5,12,13] [] (z00 2) ?_
    refine Tri.seqS ?_
    obtain ⟨hc4,h⟩:=z03 h
    refine Tri.dC [.a [0] [],.a [5] [],.a [16,17] [],.a [18] [],.a [1] [],.a [5] [],.a [20,21] [],.a [22] [],.m ⟨[(19,.agg (cValue (p0.getD i1 default))),(23,.agg (cValue (p1.getD i1 default)))],[]⟩ ⟨[(24,cD (.bool (!(z7o (p0.getD i1 default) (p1.getD i1 default)))))],[]⟩ [] [] []] [0,1,12,13,24] [] (tN 2 (ai (show ((0:Int)≤((i1:Nat):Int)∧((i1:Nat):Int) < (p0.length:Int)) from ⟨by omega,by omega⟩) (tN 3 (ai hc4 (z00 1))))) (.a (.a (.a (.a (.a (.a (.a (.a (.m ?_ .z))))))))) ?_
    · exact DOk.one fun r _=>One.eql (b:=(z7o (p0.getD i1 default) (p1.getD i1 default))) (d:=9) rfl (by kernel_rfl) rfl (.inr rfl) rfl rfl (by kernel_rfl) rfl (by kernel_rfl)
    refine Tri.condK h (fun h => ?_) (fun h => ?_)
    ·refine Tri.sg [4] [] (z00 1) ?_
     refine Tri.ret ?_
     cases h
     exact RetAt.k
    ·refine Tri.kp [13,0,1,12] [] ?_
     refine Tri.skip ?_
     cases h
     exact kr
   ·intro a3 h
    refine Tri.sg [4] [] (z00 1) ?_
    refine Tri.ret ?_
    cases h
    exact RetAt.k
   · exact fun x s hx hr=>by cases hx; exact hr
theorem zbg {p0:List Update} {p1:List Update} {q:Bool} (h:z4q p0 p1=some q) :
    Summ Tryz.prog 29 [cD (lD 6 z01 p0),cD (lD 6 z01 p1)] [] (cD (.bool q)) []:=by
  refine Summ.intro Tryz.func29 rfl (by kernel_rfl) (by kernel_rfl) [] rfl ?_
  rintro ⟨P,w0,G0,V,LL,lk,N, φ0,fx⟩ rfl rfl rfl rfl
  unfold z4q at h
  refine Tri.sg [0,1] [] (z00 1) ?_
  refine Tri.seqS ?_
  refine Tri.sg [0,1,10] [] (z00 5) ?_
  refine Tri.condK h (fun h => ?_) (fun h => ?_)
  ·refine Tri.sg [4] [] (z00 1) ?_
   refine Tri.ret ?_
   cases h
   exact RetAt.k
  ·refine Tri.skip ?_
   refine Tri.seqS ?_
   refine Tri.sg [0,1,12,13] [] (z00 3) ?_
   refine Tri.ln 0 p0.length fun hlena2 => ?_
   refine Tri.rK 13 () (fun (x:Bool) s=>RetAt Tryz.prog Tryz.f29 (cD (.bool x)) [] s) (fun (a2:Unit)=>⟨[(0,cD (lD 6 z01 p0)),(1,cD (lD 6 z01 p1)),(12,cD (dI (p0.length:Int)))],[]⟩) [13,0,1,12] [] [14,13,0,1,12] [] [0,1,12] [] [13,0,1,12] [] h hlena2 ?_ ?_ ?_
   ·intro i1 a2 c hii1 h
    refine Tri.segL [0,1,5,12,13] [] ⟨[(0,cD (lD 6 z01 p0)),(1,cD (lD 6 z01 p1)),(5,cD (dI ((i1:Nat):Int))),(12,cD (dI (p0.length:Int))),(13,cD (dI ((i1:Nat):Int)))],[]⟩ _ (by kernel_rfl) (z00 2) ?_
    refine Tri.seqJ (fun (a4:Bool)=>⟨[(0,cD (lD 6 z01 p0)),(1,cD (lD 6 z01 p1)),(12,cD (dI (p0.length:Int))),(13,cD (dI ((i1:Nat):Int))),(67,cD (.bool a4))],[]⟩) h (fun a4 h => ?_) (fun j5 h => ?_)
    ·refine Tri.condK h (fun h => ?_) (fun h => ?_)
     ·refine Tri.sg [4] [] (z00 1) ?_
      refine Tri.ret ?_
      cases h
      exact RetAt.k
     ·refine Tri.kp [13,0,1,12] [] ?_
      refine Tri.skip ?_
      cases h
      exact kr
    ·obtain ⟨hc6,h⟩:=z03 h
     obtain ⟨r7,hr7,h⟩:=z04 h
     rcases z27 h with ⟨hp8,h⟩ | ⟨hp8,h⟩
     ·refine Tri.dC [.a [0] [],.a [5] [],.a [16,17] [],.a [18] [],.a [19] [],.a [1] [],.a [5] [],.a [21,22] [],.a [23] [],.a [24] [],.m ⟨[(20,cD (lD 3 z05 ((p0.getD i1 default).key))),(25,cD (lD 3 z05 ((p1.getD i1 default).key)))],[]⟩ ⟨[(26,cD (.bool r7))],[]⟩ [] [] [],.a [26] [],.m ⟨[(27,cD (.bool (!r7)))],[]⟩ ⟨[(28,.c (.d (.bool true)))],[]⟩ [] [] [],.a [0,28] [],.a [5,28] [],.a [28,29,30] [],.a [28,31] [],.a [28,32] [],.a [1,28] [],.a [5,28] [],.a [28,34,35] [],.a [28,36] [],.a [28,37] [],.a [28,33,38] [],.a [28,39] [],.a [28,40] [],.a [41] [],.a [0,42] [],.a [5,42] [],.a [42,43,44] [],.a [42,45] [],.a [42,46] [],.a [1,42] [],.a [5,42] [],.a [42,48,49] [],.a [42,50] [],.a [42,51] [],.a [42,47,52] [],.a [42,53] [],.a [54] [],.a [0,55] [],.a [5,55] [],.a [55,56,57] [],.a [55,58] [],.a [55,59] [],.a [1,55] [],.a [5,55] [],.a [55,61,62] [],.a [55,63] [],.a [55,64] [],.a [55,60,65] [],.a [55,66] []] [0,1,12,13,67] [] (tN 2 (ai (show ((0:Int)≤((i1:Nat):Int)∧((i1:Nat):Int) < (p0.length:Int)) from ⟨by omega,by omega⟩) (tN 4 (ai hc6 (z00 8))))) (.a (.a (.a (.a (.a (.a (.a (.a (.a (.a (.m ?_ (.a (.m ?_ (.a (.a (.a (.a (.a (.a (.a (.a (.a (.a (.a (.a (.a (.a (.a (.a (.a (.a (.a (.a (.a (.a (.a (.a (.a (.a (.a (.a (.a (.a (.a (.a (.a (.a (.a (.a (.a (.a (.a .z)))))))))))))))))))))))))))))))))))))))))))))))))))) ?_
      · exact DOk.cA [] [cD (lD 3 z05 ((p0.getD i1 default).key)),cD (lD 3 z05 ((p1.getD i1 default).key))] (z2n hr7) fun r=>(.cons (.refl _) (.cons (.refl _) .nil))
      · exact DOk.stepP (fun b => .val (.c (.d (.bool b))) (True)) (p:=(!r7)) hp8 (fun r=>by kernel_rfl) (fun r=>by kernel_rfl) trivial (by kernel_rfl) (by kernel_rfl) (fun r=>rfl)
      exact ⟨_,h,kr⟩
     ·obtain ⟨hc9,h⟩:=z03 h
      obtain ⟨r10,hr10,h⟩:=z04 h
      rcases z27 h with ⟨hp11,h⟩ | ⟨hp11,h⟩
      ·refine Tri.dC [.a [0] [],.a [5] [],.a [16,17] [],.a [18] [],.a [19] [],.a [1] [],.a [5] [],.a [21,22] [],.a [23] [],.a [24] [],.m ⟨[(20,cD (lD 3 z05 ((p0.getD i1 default).key))),(25,cD (lD 3 z05 ((p1.getD i1 default).key)))],[]⟩ ⟨[(26,cD (.bool r7))],[]⟩ [] [] [],.a [26] [],.m ⟨[(27,cD (.bool (!r7)))],[]⟩ ⟨[(28,.c (.d (.bool false)))],[]⟩ [] [] [],.a [0,28] [],.a [5,28] [],.a [28,29,30] [],.a [28,31] [],.a [28,32] [],.a [1,28] [],.a [5,28] [],.a [28,34,35] [],.a [28,36] [],.a [28,37] [],.m ⟨[(28,cD (.bool false)),(33,cD (lD 3 z05 ((p0.getD i1 default).row))),(38,cD (lD 3 z05 ((p1.getD i1 default).row)))],[]⟩ ⟨[(39,cD (.bool r10))],[]⟩ [] [] [],.a [28,39] [],.a [28,40] [],.m ⟨[(41,cD (.bool (!r10)))],[]⟩ ⟨[(42,.c (.d (.bool true)))],[]⟩ [] [] [],.a [0,42] [],.a [5,42] [],.a [42,43,44] [],.a [42,45] [],.a [42,46] [],.a [1,42] [],.a [5,42] [],.a [42,48,49] [],.a [42,50] [],.a [42,51] [],.a [42,47,52] [],.a [42,53] [],.a [54] [],.a [0,55] [],.a [5,55] [],.a [55,56,57] [],.a [55,58] [],.a [55,59] [],.a [1,55] [],.a [5,55] [],.a [55,61,62] [],.a [55,63] [],.a [55,64] [],.a [55,60,65] [],.a [55,66] []] [0,1,12,13,67] [] (tN 2 (ai (show ((0:Int)≤((i1:Nat):Int)∧((i1:Nat):Int) < (p0.length:Int)) from ⟨by omega,by omega⟩) (tN 4 (ai hc6 (tN 5 (ai (show ((0:Int)≤((i1:Nat):Int)∧((i1:Nat):Int) < (p0.length:Int)) from ⟨by omega,by omega⟩) (tN 4 (ai hc9 (z00 7))))))))) (.a (.a (.a (.a (.a (.a (.a (.a (.a (.a (.m ?_ (.a (.m ?_ (.a (.a (.a (.a (.a (.a (.a (.a (.a (.a (.m ?_ (.a (.a (.m ?_ (.a (.a (.a (.a (.a (.a (.a (.a (.a (.a (.a (.a (.a (.a (.a (.a (.a (.a (.a (.a (.a (.a (.a (.a (.a .z)))))))))))))))))))))))))))))))))))))))))))))))))))) ?_
       · exact DOk.cA [] [cD (lD 3 z05 ((p0.getD i1 default).key)),cD (lD 3 z05 ((p1.getD i1 default).key))] (z2n hr7) fun r=>(.cons (.refl _) (.cons (.refl _) .nil))
       · exact DOk.stepP (fun b => .val (.c (.d (.bool b))) (True)) (p:=(!r7)) hp8 (fun r=>by kernel_rfl) (fun r=>by kernel_rfl) trivial (by kernel_rfl) (by kernel_rfl) (fun r=>rfl)
       · exact DOk.cA [] [cD (lD 3 z05 ((p0.getD i1 default).row)),cD (lD 3 z05 ((p1.getD i1 default).row))] (z2n hr10) fun r=>(.cons (.refl _) (.cons (.refl _) .nil))
       · exact DOk.stepP (fun b => .val (.c (.d (.bool b))) (True)) (p:=(!r10)) hp11 (fun r=>by kernel_rfl) (fun r=>by kernel_rfl) trivial (by kernel_rfl) (by kernel_rfl) (fun r=>rfl)
       exact ⟨_,h,kr⟩
      ·obtain ⟨hc12,h⟩:=z03 h
       rcases z27 h with ⟨hp13,h⟩ | ⟨hp13,h⟩
       ·refine Tri.dC [.a [0] [],.a [5] [],.a [16,17] [],.a [18] [],.a [19] [],.a [1] [],.a [5] [],.a [21,22] [],.a [23] [],.a [24] [],.m ⟨[(20,cD (lD 3 z05 ((p0.getD i1 default).key))),(25,cD (lD 3 z05 ((p1.getD i1 default).key)))],[]⟩ ⟨[(26,cD (.bool r7))],[]⟩ [] [] [],.a [26] [],.m ⟨[(27,cD (.bool (!r7)))],[]⟩ ⟨[(28,.c (.d (.bool false)))],[]⟩ [] [] [],.a [0,28] [],.a [5,28] [],.a [28,29,30] [],.a [28,31] [],.a [28,32] [],.a [1,28] [],.a [5,28] [],.a [28,34,35] [],.a [28,36] [],.a [28,37] [],.m ⟨[(28,cD (.bool false)),(33,cD (lD 3 z05 ((p0.getD i1 default).row))),(38,cD (lD 3 z05 ((p1.getD i1 default).row)))],[]⟩ ⟨[(39,cD (.bool r10))],[]⟩ [] [] [],.a [28,39] [],.a [28,40] [],.m ⟨[(41,cD (.bool (!r10)))],[]⟩ ⟨[(42,.c (.d (.bool false)))],[]⟩ [] [] [],.a [0,42] [],.a [5,42] [],.a [42,43,44] [],.a [42,45] [],.a [42,46] [],.a [1,42] [],.a [5,42] [],.a [42,48,49] [],.a [42,50] [],.a [42,51] [],.m ⟨[(42,cD (.bool false)),(47,.agg [.d (dU ((p0.getD i1 default).time.epoch)),.d (dU ((p0.getD i1 default).time.loop.1)),.d (dU ((p0.getD i1 default).time.loop.2))]),(52,.agg [.d (dU ((p1.getD i1 default).time.epoch)),.d (dU ((p1.getD i1 default).time.loop.1)),.d (dU ((p1.getD i1 default).time.loop.2))])],[]⟩ ⟨[(53,cD (.bool (!(z1r ((p0.getD i1 default).time) ((p1.getD i1 default).time)))))],[]⟩ [] [] [],.a [42,53] [],.m ⟨[(54,cD (.bool (!(z1r ((p0.getD i1 default).time) ((p1.getD i1 default).time)))))],[]⟩ ⟨[(55,.c (.d (.bool true)))],[]⟩ [] [] [],.a [0,55] [],.a [5,55] [],.a [55,56,57] [],.a [55,58] [],.a [55,59] [],.a [1,55] [],.a [5,55] [],.a [55,61,62] [],.a [55,63] [],.a [55,64] [],.a [55,60,65] [],.a [55,66] []] [0,1,12,13,67] [] (tN 2 (ai (show ((0:Int)≤((i1:Nat):Int)∧((i1:Nat):Int) < (p0.length:Int)) from ⟨by omega,by omega⟩) (tN 4 (ai hc6 (tN 5 (ai (show ((0:Int)≤((i1:Nat):Int)∧((i1:Nat):Int) < (p0.length:Int)) from ⟨by omega,by omega⟩) (tN 4 (ai hc9 (tN 6 (ai (show ((0:Int)≤((i1:Nat):Int)∧((i1:Nat):Int) < (p0.length:Int)) from ⟨by omega,by omega⟩) (tN 4 (ai hc12 (z00 4))))))))))))) (.a (.a (.a (.a (.a (.a (.a (.a (.a (.a (.m ?_ (.a (.m ?_ (.a (.a (.a (.a (.a (.a (.a (.a (.a (.a (.m ?_ (.a (.a (.m ?_ (.a (.a (.a (.a (.a (.a (.a (.a (.a (.a (.m ?_ (.a (.m ?_ (.a (.a (.a (.a (.a (.a (.a (.a (.a (.a (.a (.a .z)))))))))))))))))))))))))))))))))))))))))))))))))))) ?_
        · exact DOk.cA [] [cD (lD 3 z05 ((p0.getD i1 default).key)),cD (lD 3 z05 ((p1.getD i1 default).key))] (z2n hr7) fun r=>(.cons (.refl _) (.cons (.refl _) .nil))
        · exact DOk.stepP (fun b => .val (.c (.d (.bool b))) (True)) (p:=(!r7)) hp8 (fun r=>by kernel_rfl) (fun r=>by kernel_rfl) trivial (by kernel_rfl) (by kernel_rfl) (fun r=>rfl)
        · exact DOk.cA [] [cD (lD 3 z05 ((p0.getD i1 default).row)),cD (lD 3 z05 ((p1.getD i1 default).row))] (z2n hr10) fun r=>(.cons (.refl _) (.cons (.refl _) .nil))
        · exact DOk.stepP (fun b => .val (.c (.d (.bool b))) (True)) (p:=(!r10)) hp11 (fun r=>by kernel_rfl) (fun r=>by kernel_rfl) trivial (by kernel_rfl) (by kernel_rfl) (fun r=>rfl)
        · exact DOk.one fun r _=>One.eql (b:=(z1r ((p0.getD i1 default).time) ((p1.getD i1 default).time))) (d:=9) rfl (by kernel_rfl) rfl (.inr rfl) rfl rfl (by kernel_rfl) rfl (by kernel_rfl)
        · exact DOk.stepP (fun b => .val (.c (.d (.bool b))) (True)) (p:=(!(z1r ((p0.getD i1 default).time) ((p1.getD i1 default).time)))) hp13 (fun r=>by kernel_rfl) (fun r=>by kernel_rfl) trivial (by kernel_rfl) (by kernel_rfl) (fun r=>rfl)
        exact ⟨_,h,kr⟩
       ·obtain ⟨hc14,h⟩:=z03 h
        refine Tri.dC [.a [0] [],.a [5] [],.a [16,17] [],.a [18] [],.a [19] [],.a [1] [],.a [5] [],.a [21,22] [],.a [23] [],.a [24] [],.m ⟨[(20,cD (lD 3 z05 ((p0.getD i1 default).key))),(25,cD (lD 3 z05 ((p1.getD i1 default).key)))],[]⟩ ⟨[(26,cD (.bool r7))],[]⟩ [] [] [],.a [26] [],.m ⟨[(27,cD (.bool (!r7)))],[]⟩ ⟨[(28,.c (.d (.bool false)))],[]⟩ [] [] [],.a [0,28] [],.a [5,28] [],.a [28,29,30] [],.a [28,31] [],.a [28,32] [],.a [1,28] [],.a [5,28] [],.a [28,34,35] [],.a [28,36] [],.a [28,37] [],.m ⟨[(28,cD (.bool false)),(33,cD (lD 3 z05 ((p0.getD i1 default).row))),(38,cD (lD 3 z05 ((p1.getD i1 default).row)))],[]⟩ ⟨[(39,cD (.bool r10))],[]⟩ [] [] [],.a [28,39] [],.a [28,40] [],.m ⟨[(41,cD (.bool (!r10)))],[]⟩ ⟨[(42,.c (.d (.bool false)))],[]⟩ [] [] [],.a [0,42] [],.a [5,42] [],.a [42,43,44] [],.a [42,45] [],.a [42,46] [],.a [1,42] [],.a [5,42] [],.a [42,48,49] [],.a [42,50] [],.a [42,51] [],.m ⟨[(42,cD (.bool false)),(47,.agg [.d (dU ((p0.getD i1 default).time.epoch)),.d (dU ((p0.getD i1 default).time.loop.1)),.d (dU ((p0.getD i1 default).time.loop.2))]),(52,.agg [.d (dU ((p1.getD i1 default).time.epoch)),.d (dU ((p1.getD i1 default).time.loop.1)),.d (dU ((p1.getD i1 default).time.loop.2))])],[]⟩ ⟨[(53,cD (.bool (!(z1r ((p0.getD i1 default).time) ((p1.getD i1 default).time)))))],[]⟩ [] [] [],.a [42,53] [],.m ⟨[(54,cD (.bool (!(z1r ((p0.getD i1 default).time) ((p1.getD i1 default).time)))))],[]⟩ ⟨[(55,.c (.d (.bool false)))],[]⟩ [] [] [],.a [0,55] [],.a [5,55] [],.a [55,56,57] [],.a [55,58] [],.a [55,59] [],.a [1,55] [],.a [5,55] [],.a [55,61,62] [],.a [55,63] [],.a [55,64] [],.a [55,60,65] [],.a [55,66] []] [0,1,12,13,67] [] (tN 2 (ai (show ((0:Int)≤((i1:Nat):Int)∧((i1:Nat):Int) < (p0.length:Int)) from ⟨by omega,by omega⟩) (tN 4 (ai hc6 (tN 5 (ai (show ((0:Int)≤((i1:Nat):Int)∧((i1:Nat):Int) < (p0.length:Int)) from ⟨by omega,by omega⟩) (tN 4 (ai hc9 (tN 6 (ai (show ((0:Int)≤((i1:Nat):Int)∧((i1:Nat):Int) < (p0.length:Int)) from ⟨by omega,by omega⟩) (tN 4 (ai hc12 (tN 5 (ai (show ((0:Int)≤((i1:Nat):Int)∧((i1:Nat):Int) < (p0.length:Int)) from ⟨by omega,by omega⟩) (tN 4 (ai hc14 (z00 4))))))))))))))))) (.a (.a (.a (.a (.a (.a (.a (.a (.a (.a (.m ?_ (.a (.m ?_ (.a (.a (.a (.a (.a (.a (.a (.a (.a (.a (.m ?_ (.a (.a (.m ?_ (.a (.a (.a (.a (.a (.a (.a (.a (.a (.a (.m ?_ (.a (.m ?_ (.a (.a (.a (.a (.a (.a (.a (.a (.a (.a (.a (.a .z)))))))))))))))))))))))))))))))))))))))))))))))))))) ?_
        · exact DOk.cA [] [cD (lD 3 z05 ((p0.getD i1 default).key)),cD (lD 3 z05 ((p1.getD i1 default).key))] (z2n hr7) fun r=>(.cons (.refl _) (.cons (.refl _) .nil))
        · exact DOk.stepP (fun b => .val (.c (.d (.bool b))) (True)) (p:=(!r7)) hp8 (fun r=>by kernel_rfl) (fun r=>by kernel_rfl) trivial (by kernel_rfl) (by kernel_rfl) (fun r=>rfl)
        · exact DOk.cA [] [cD (lD 3 z05 ((p0.getD i1 default).row)),cD (lD 3 z05 ((p1.getD i1 default).row))] (z2n hr10) fun r=>(.cons (.refl _) (.cons (.refl _) .nil))
        · exact DOk.stepP (fun b => .val (.c (.d (.bool b))) (True)) (p:=(!r10)) hp11 (fun r=>by kernel_rfl) (fun r=>by kernel_rfl) trivial (by kernel_rfl) (by kernel_rfl) (fun r=>rfl)
        · exact DOk.one fun r _=>One.eql (b:=(z1r ((p0.getD i1 default).time) ((p1.getD i1 default).time))) (d:=9) rfl (by kernel_rfl) rfl (.inr rfl) rfl rfl (by kernel_rfl) rfl (by kernel_rfl)
        · exact DOk.stepP (fun b => .val (.c (.d (.bool b))) (True)) (p:=(!(z1r ((p0.getD i1 default).time) ((p1.getD i1 default).time)))) hp13 (fun r=>by kernel_rfl) (fun r=>by kernel_rfl) trivial (by kernel_rfl) (by kernel_rfl) (fun r=>rfl)
        exact ⟨_,h,kr⟩
   ·intro a3 h
    refine Tri.sg [4] [] (z00 1) ?_
    refine Tri.ret ?_
    cases h
    exact RetAt.k
   · exact fun x s hx hr=>by cases hx; exact hr
theorem z93 {p0:Batch} {p1:Batch} {q:Bool} (h:z3j p0 p1=some q) :
    Summ Tryz.prog 14 [.agg (cBatch p0),.agg (cBatch p1)] [] (cD (.bool q)) []:=by
  refine Summ.intro Tryz.func14 rfl (by kernel_rfl) (by kernel_rfl) [] rfl ?_
  rintro ⟨P,w0,G0,V,LL,lk,N, φ0,fx⟩ rfl rfl rfl rfl
  unfold z3j at h
  refine Tri.sg [2,3] [2,3] (z00 3) ?_
  refine Tri.seqJ (fun (a1:Bool)=>⟨[(4,cD (.bool a1))],[]⟩) h (fun a1 h => ?_) (fun j2 h => ?_)
  ·refine Tri.ret ?_
   cases h
   exact RetAt.k
  ·refine Tri.reg ?_
   refine At.sg 4 [2,3,6,8] [2,3] (z00 4) ?_
   obtain ⟨r3,hr3,h⟩:=z04 h
   refine At.cA [] [cD (lD 3 z02 p0.since),cD (lD 3 z02 p1.since)] (zbp hr3) (.cons (.refl _) (.cons (.refl _) .nil)) ?_
   refine At.sg 1 [2,3,10] [2,3] (z00 1) ?_
   refine At.cs [10] h (fun h => ?_) (fun h => ?_)
   ·refine At.sg 4 [10,12,14] [] (z00 4) ?_
    obtain ⟨r4,hr4,h⟩:=z04 h
    refine At.cA [] [cD (lD 6 z01 p0.updates),cD (lD 6 z01 p1.updates)] (zbg hr4) (.cons (.refl _) (.cons (.refl _) .nil)) ?_
    refine At.sg 2 [4] [] (z00 2) ?_
    refine At.done rfl ?_
    exact ⟨_,h,kr⟩
   ·refine At.sg 7 [4] [] (z00 2) ?_
    refine At.done rfl ?_
    exact ⟨_,h,kr⟩
end Go.Av
namespace Go.Av
open Go Go.Proofs
set_option linter.unusedVariables false
set_option linter.unusedSimpArgs false
theorem z8y {fuel:Nat} {p0:List Time} {p1:Batch} {p2:Batch} {p3:List Int} {q:Bool} (h:z3b fuel p0 p1 p2 p3=some q) :
    Summ Tryz.prog 5 [cD (lD 3 z02 p0),.agg (cBatch p1),.agg (cBatch p2),cD (lD 1 (z1a .i64) p3)] [] (cD (.bool q)) []:=by
  refine Summ.intro Tryz.func5 rfl (by kernel_rfl) (by kernel_rfl) [] rfl ?_
  rintro ⟨P,w0,G0,V,LL,lk,N, φ0,fx⟩ rfl rfl rfl rfl
  unfold z3b at h
  refine Tri.sg [0,3,5,6] [5,6] (z00 3) ?_
  refine Tri.seqS ?_
  refine Tri.seqS ?_
  refine Tri.reg ?_
  obtain ⟨r1,hr1,h⟩:=z04 h
  refine At.cA [] [] (zat hr1) .nil ?_
  refine At.sg 1 [0,3,5,6,22] [5,6] (z00 1) ?_
  refine At.done rfl ?_
  refine Tri.condK h (fun h => ?_) (fun h => ?_)
  ·refine Tri.sg [8] [] (z00 1) ?_
   refine Tri.ret ?_
   cases h
   exact RetAt.k
  ·refine Tri.skip ?_
   refine Tri.seqS ?_
   refine Tri.reg ?_
   refine At.sg 3 [0,3,5,6,24,25,26] [5,6] (z00 3) ?_
   obtain ⟨r2,hr2,h⟩:=z04 h
   refine At.cA [] [cD (lD 3 z02 p0),.agg (cBatch p1),.agg (cBatch p2)] (zb6 hr2) (.cons (.refl _) (.cons (.refl _) (.cons (.refl _) .nil))) ?_
   refine At.sg 6 [0,3,5,6,9,10] [5,6,9] (z00 6) ?_
   refine At.done rfl ?_
   refine Tri.seqS ?_
   refine Tri.sg [0,3,5,6,9,31] [5,6,9] (z00 2) ?_
   refine Tri.condK h (fun h => ?_) (fun h => ?_)
   ·refine Tri.sg [8] [] (z00 9) ?_
    refine Tri.ret ?_
    cases h
    exact RetAt.k
   ·refine Tri.skip ?_
    refine Tri.seqS ?_
    refine Tri.reg ?_
    refine At.seg 5 [3,9,41,43,45] [9] (s':=⟨[(3,cD (lD 1 (z1a .i64) p3)),(9,.c (.ptr 9 0)),(41,cD (lD 3 z02 p0)),(43,cD (lD 6 z01 p1.updates)),(45,cD (lD 6 z01 p2.updates))],[(9,.box (cMerger r2.1))]⟩) (by kernel_rfl) (z00 5) ?_
    refine At.one rfl (One.buildSlice (z:=[.zero]) (cells:=[.d (lD 6 z01 p1.updates),.d (lD 6 z01 p2.updates)]) (xs:=List.map ((fun xs=>[encL 6 z01 xs])) ([p1.updates,p2.updates]:List (List Update))) rfl rfl rfl rfl (by kernel_rfl) rfl rfl (by kernel_rfl) rfl rfl rfl (by kernel_rfl) rfl ⟨⟨rfl,.refl _⟩,⟨rfl,.refl _⟩,trivial⟩) ?_
    refine At.le [46] (fun k hk h=>by first | (cases h; done) | (simp at hk h; omega)) ⟨[(46,cD (lD 1 (fun xs=>[encL 6 z01 xs]) ([p1.updates,p2.updates]:List (List Update)))),(3,cD (lD 1 (z1a .i64) p3)),(9,.c (.ptr 9 0)),(41,cD (lD 3 z02 p0)),(43,cD (lD 6 z01 p1.updates)),(45,cD (lD 6 z01 p2.updates))],[(9,.box (cMerger r2.1))]⟩ ⟨⟨_,rfl,.c (.own rfl (List.mem_singleton.2 rfl) (Nat.le_of_ble_eq_true rfl) rfl (z2l ((fun xs=>[encL 6 z01 xs])) ([p1.updates,p2.updates]:List (List Update))))⟩,⟨_,rfl,.refl _⟩,⟨_,rfl,.refl _⟩,⟨_,rfl,.refl _⟩,⟨_,rfl,.refl _⟩,⟨_,rfl,.refl _⟩,trivial⟩ ⟨⟨_,rfl,.refl _,(by simp)⟩,trivial⟩ ?_
    obtain ⟨r3,hr3,h⟩:=z04 h
    refine At.cA [] [cD (lD 3 z02 p0),cD (lD 1 (fun xs=>[encL 6 z01 xs]) ([p1.updates,p2.updates]:List (List Update)))] (z8e hr3) (.cons (.refl _) (.cons (.refl _) .nil)) ?_
    refine At.seg 6 [3,9,11,12] [9,11] (s':=⟨[(3,cD (lD 1 (z1a .i64) p3)),(9,.c (.ptr 9 0)),(11,.c (.ptr 11 0)),(12,cD (dI r3.2))],[(9,.box (cMerger r2.1)),(11,.box (cBatch r3.1))]⟩) (by kernel_rfl) (z00 6) ?_
    refine At.done rfl ?_
    refine Tri.seqS ?_
    refine Tri.seqS ?_
    refine Tri.reg ?_
    refine At.one rfl (One.build0 (e:=3) (es:=1) rfl rfl rfl rfl (by kernel_rfl) rfl) ?_
    refine At.seg 1 [9,11,12,50,51] [9,11] (s':=⟨[(9,.c (.ptr 9 0)),(11,.c (.ptr 11 0)),(12,cD (dI r3.2)),(50,.c (.zero)),(51,cD (lD 1 (z1a .i64) p3))],[(9,.box (cMerger r2.1)),(11,.box (cBatch r3.1))]⟩) (by kernel_rfl) (z00 1) ?_
    obtain ⟨hc4,h⟩:=z03 h
    refine At.one rfl (One.append0 (e:=3) (es:=1) (m:=p3.length) (get:=fun i=>z1a .i64 (p3.getD i default)) rfl rfl rfl rfl (by kernel_rfl) (.of 3 8 [.d (dI 0)] (by kernel_rfl) (by kernel_rfl) (by kernel_rfl) (by kernel_rfl) rfl (by kernel_rfl) rfl) rfl rfl (.list rfl (fun _ _=>rfl)) hc4) ?_
    refine At.one rfl (One.buildSlice (z:=[.d (dI 0)]) (cells:=[.d (dI 4611686018427387904)]) (xs:=List.map (z1a .i64) ([4611686018427387904]:List Int)) rfl rfl rfl rfl (by kernel_rfl) rfl rfl (by kernel_rfl) rfl rfl rfl (by kernel_rfl) rfl ⟨⟨rfl,.refl _⟩,trivial⟩) ?_
    refine At.le [53] (fun k hk h=>by first | (cases h; done) | (simp at hk h; omega)) ⟨[(53,cD (lD 1 (z1a .i64) ([4611686018427387904]:List Int))),(9,.c (.ptr 9 0)),(11,.c (.ptr 11 0)),(12,cD (dI r3.2)),(52,.c (oC 52 1 p3))],[(9,.box (cMerger r2.1)),(11,.box (cBatch r3.1)),(52,vL 1 (z1a .i64) p3)]⟩ ⟨⟨_,rfl,.c (.own rfl (List.mem_singleton.2 rfl) (Nat.le_of_ble_eq_true rfl) rfl (z2l (z1a .i64) ([4611686018427387904]:List Int)))⟩,⟨_,rfl,.refl _⟩,⟨_,rfl,.refl _⟩,⟨_,rfl,.refl _⟩,⟨_,rfl,.refl _⟩,trivial⟩ ⟨⟨_,rfl,.refl _,(by simp)⟩,⟨_,rfl,.refl _,(by simp)⟩,⟨_,rfl,.refl _,(by simp)⟩,trivial⟩ ?_
    obtain ⟨hc5,h⟩:=z03 h
    refine At.one rfl (One.appendT (e:=3) (es:=1) (z1a .i64) p3 ([4611686018427387904]:List Int) rfl rfl rfl rfl rfl (.of 3 8 [.d (dI 0)] (by kernel_rfl) (by kernel_rfl) (by kernel_rfl) (by kernel_rfl) rfl (by kernel_rfl) rfl) rfl rfl rfl (.list rfl (fun _ _=>rfl)) hc5) ?_
    refine At.seg 2 [9,11,12,54,55,56] [9,11,52] (s':=⟨[(9,.c (.ptr 9 0)),(11,.c (.ptr 11 0)),(12,cD (dI r3.2)),(54,.c (oC 52 1 (p3++([4611686018427387904]:List Int)))),(55,cD (dI ((p3++([4611686018427387904]:List Int)).length:Int))),(56,cD (dI 0))],[(9,.box (cMerger r2.1)),(11,.box (cBatch r3.1)),(52,vL 1 (z1a .i64) (p3++([4611686018427387904]:List Int)))]⟩) (by kernel_rfl) (z00 2) ?_
    refine At.done rfl ?_
    refine Tri.lenOfO (t:=54) rfl rfl (Nat.le_refl _) fun hlena7 => ?_
    refine Tri.rK 56 (r2.1) (fun (x:Bool) s=>RetAt Tryz.prog Tryz.f5 (cD (.bool x)) [] s) (fun (a7:Merger)=>⟨[(9,.c (.ptr 9 0)),(11,.c (.ptr 11 0)),(12,cD (dI r3.2)),(54,.c (oC 52 1 (p3++([4611686018427387904]:List Int)))),(55,cD (dI ((p3++([4611686018427387904]:List Int)).length:Int)))],[(9,.box (cMerger a7)),(11,.box (cBatch r3.1)),(52,vL 1 (z1a .i64) (p3++([4611686018427387904]:List Int)))]⟩) [56,9,11,12,54,55] [9,11,52] [57,56,9,11,12,54,55] [9,11,52] [9,11,12,54,55] [9,11,52] [56,9,11,12,54,55] [9,11,52] h hlena7 ?_ ?_ ?_
    ·intro i6 a7 c hii6 h
     obtain ⟨hc14,h⟩:=z03 h
     refine Tri.sg [9,11,12,13,14,54,55,56] [9,11,52] (tN 1 (ai (show ((0:Int)≤((i6:Nat):Int)∧((i6:Nat):Int) < ((p3++([4611686018427387904]:List Int)).length:Int)) from ⟨by omega,by omega⟩) (ai hc14 (z00 2)))) ?_
     refine Tri.seqJ (fun (a15:Int)=>⟨[(9,.c (.ptr 9 0)),(11,.c (.ptr 11 0)),(12,cD (dI r3.2)),(13,cD (dI ((i6:Nat):Int))),(14,cD (dI a15)),(54,.c (oC 52 1 (p3++([4611686018427387904]:List Int)))),(55,cD (dI ((p3++([4611686018427387904]:List Int)).length:Int))),(56,cD (dI ((i6:Nat):Int)))],[(9,.box (cMerger a7)),(11,.box (cBatch r3.1)),(52,vL 1 (z1a .i64) (p3++([4611686018427387904]:List Int)))]⟩) h (fun a15 h => ?_) (fun j16 h => ?_)
     ·refine Tri.sg [9,11,12,13,14,15,54,55,56] [9,11,52] (z00 14) ?_
      refine Tri.seqS ?_
      refine Tri.reg ?_
      refine At.sg 2 [9,11,12,13,14,15,54,55,56,77,78] [9,11,52] (z00 2) ?_
      obtain ⟨r17,hr17,h⟩:=z04 h
      refine At.cA [] [.agg (cMerger a7),cD (dI a15)] (z8z hr17) (.cons (.refl _) (.cons (.refl _) .nil)) ?_
      refine At.sg 8 [9,11,12,13,14,15,16,17,18,54,55,56] [9,11,16,52] (z00 8) ?_
      refine At.done rfl ?_
      refine Tri.seqS ?_
      refine Tri.sg [9,11,12,13,14,15,16,17,18,54,55,56,84] [9,11,16,52] (z00 2) ?_
      refine Tri.condK h (fun h => ?_) (fun h => ?_)
      ·refine Tri.sg [8] [] (z00 4) ?_
       refine Tri.ret ?_
       cases h
       exact RetAt.k
      ·refine Tri.skip ?_
       refine Tri.seqS ?_
       refine Tri.seqJ (fun (a18:Bool)=>⟨[(9,.c (.ptr 9 0)),(11,.c (.ptr 11 0)),(12,cD (dI r3.2)),(13,cD (dI ((i6:Nat):Int))),(16,.c (.ptr 16 0)),(54,.c (oC 52 1 (p3++([4611686018427387904]:List Int)))),(55,cD (dI ((p3++([4611686018427387904]:List Int)).length:Int))),(56,cD (dI ((i6:Nat):Int))),(120,cD (.bool a18))],[(9,.box (cMerger a7)),(11,.box (cBatch r3.1)),(16,.box (cMerger r17.1)),(52,vL 1 (z1a .i64) (p3++([4611686018427387904]:List Int)))]⟩) h (fun a18 h => ?_) (fun j19 h => ?_)
       ·refine Tri.condK h (fun h => ?_) (fun h => ?_)
        ·refine Tri.sg [8] [] (z00 1) ?_
         refine Tri.ret ?_
         cases h
         exact RetAt.k
        ·refine Tri.skip ?_
         refine Tri.sg [9,11,12,13,54,55,56] [9,11,52] (z00 2) ?_
         refine Tri.sg [9,11,12,54,55,56,123] [9,11,52] (z00 2) ?_
         refine Tri.condK h (fun h => ?_) (fun h => ?_)
         ·refine Tri.kp [9,11,12,54,55] [9,11,52] ?_
          refine Tri.exit ?_
          cases h
          exact ⟨rfl,kr⟩
         ·refine Tri.kp [56,9,11,12,54,55] [9,11,52] ?_
          refine Tri.skip ?_
          cases h
          exact kr
       ·refine Tri.reg ?_
        refine At.sg 1 [9,11,12,13,14,15,16,17,54,55,56,88] [9,11,16,52] (z00 1) ?_
        obtain ⟨r20,hr20,h⟩:=z04 h
        refine At.cA [] [.agg (cMerger r17.1)] (z6b hr20) (.cons (.refl _) .nil) ?_
        refine At.sg 2 [9,11,12,13,14,15,16,17,54,55,56,91] [9,11,16,52] (z00 2) ?_
        refine At.cs [91] h (fun h => ?_) (fun h => ?_)
        ·refine At.sg 29 [9,11,12,13,16,54,55,56,120] [9,11,16,52] (z00 3) ?_
         refine At.done rfl ?_
         exact ⟨_,h,kr⟩
        ·refine At.sg 5 [9,11,12,13,15,16,17,54,55,56,91,93,96] [9,11,16,52] (z00 5) ?_
         refine At.cs [96] h (fun h => ?_) (fun h => ?_)
         ·refine At.sg 6 [9,11,12,13,15,16,17,54,55,56,102] [9,11,16,52] (z00 6) ?_
          refine At.cs [102] h (fun h => ?_) (fun h => ?_)
          ·refine At.sg 18 [9,11,12,13,16,54,55,56,120] [9,11,16,52] (z00 1) ?_
           refine At.done rfl ?_
           exact ⟨_,h,kr⟩
          ·refine At.sg 18 [9,11,12,13,16,54,55,56,120] [9,11,16,52] (z00 18) ?_
           refine At.done rfl ?_
           exact ⟨_,h,kr⟩
         ·refine At.sg 6 [9,11,12,13,15,16,17,54,55,56,102] [9,11,16,52] (z00 4) ?_
          refine At.cs [102] h (fun h => ?_) (fun h => ?_)
          ·refine At.sg 18 [9,11,12,13,16,54,55,56,120] [9,11,16,52] (z00 1) ?_
           refine At.done rfl ?_
           exact ⟨_,h,kr⟩
          ·refine At.sg 18 [9,11,12,13,16,54,55,56,120] [9,11,16,52] (z00 18) ?_
           refine At.done rfl ?_
           exact ⟨_,h,kr⟩
     ·refine Tri.sg [9,11,12,13,14,54,55,56,62] [9,11,52] (z00 2) ?_
      refine Tri.condK h (fun h => ?_) (fun h => ?_)
      ·refine Tri.reg ?_
       refine At.sg 1 [9,11,12,13,14,54,55,56] [9,11,52] (z00 1) ?_
       refine At.done rfl ?_
       exact ⟨_,h,kr⟩
      ·refine Tri.kp [9,11,12,13,14,54,55,56] [9,11,52] ?_
       refine Tri.skip ?_
       exact ⟨_,h,kr⟩
    ·intro a8 h
     refine Tri.seqS ?_
     refine Tri.reg ?_
     refine At.sg 1 [11,12,126] [11] (z00 1) ?_
     obtain ⟨r9,hr9,h⟩:=z04 h
     refine At.cA [] [.agg (cMerger a8)] (z9x hr9) (.cons (.refl _) .nil) ?_
     refine At.sg 6 [11,12,19,20] [11,19] (z00 6) ?_
     refine At.done rfl ?_
     refine Tri.seqJ (fun (a10:Bool)=>⟨[(8,cD (.bool a10))],[]⟩) h (fun a10 h => ?_) (fun j11 h => ?_)
     ·refine Tri.ret ?_
      cases h
      exact RetAt.k
     ·refine Tri.reg ?_
      refine At.sg 3 [11,19,20,132] [11,19] (z00 3) ?_
      refine At.cs [132] h (fun h => ?_) (fun h => ?_)
      ·refine At.sg 4 [11,19,136] [11,19] (z00 4) ?_
       refine At.cs [136] h (fun h => ?_) (fun h => ?_)
       ·refine At.sg 2 [19,136,137,138] [19] (z00 2) ?_
        obtain ⟨r12,hr12,h⟩:=z04 h
        refine At.cA [] [.agg (cBatch r9.1),.agg (cBatch r3.1)] (z93 hr12) (.cons (.refl _) (.cons (.refl _) .nil)) ?_
        refine At.sg 2 [19,141] [19] (z00 2) ?_
        refine At.cs [141] h (fun h => ?_) (fun h => ?_)
        ·refine At.sg 1 [141,142] [] (z00 1) ?_
         obtain ⟨r13,hr13,h⟩:=z04 h
         refine At.cA [] [.agg (cBatch r9.1)] (z89 hr13) (.cons (.refl _) .nil) ?_
         refine At.sg 3 [8] [] (z00 3) ?_
         refine At.done rfl ?_
         exact ⟨_,h,kr⟩
        ·refine At.sg 5 [8] [] (z00 2) ?_
         refine At.done rfl ?_
         exact ⟨_,h,kr⟩
       ·refine At.sg 10 [8] [] (z00 4) ?_
        refine At.done rfl ?_
        exact ⟨_,h,kr⟩
      ·refine At.sg 14 [8] [] (z00 6) ?_
       refine At.done rfl ?_
       exact ⟨_,h,kr⟩
    · exact fun x s hx hr=>by cases hx; exact hr
end Go.Av
namespace Go.Av
open Go Go.Proofs
set_option linter.unusedVariables false
set_option linter.unusedSimpArgs false
def za1 (x:Time):Prop:=(okInt .u64) x.epoch∧(fun p=>(okInt .u64) p.1∧(okInt .u64) p.2) x.loop∧True
def z5z (x:Time):Nat:=((fun _=>1) x.epoch + ((fun p=>(fun _=>1) p.1 + (fun _=>1) p.2 + 1) x.loop + 0)) + 1
def zaw (x:Value):Prop:=(fun _=>True) x.isText∧(okInt .i64) x.n∧(fun s=>s.size≤maxN) x.s∧True
def z8k (x:Value):Nat:=((fun _=>1) x.isText + ((fun _=>1) x.n + ((fun s=>s.size + 1) x.s + 0))) + 1
def zbd (x:Update):Prop:=(fun xs=>xs.length≤maxN∧∀ x ∈ xs,(zaw) x) x.key∧(fun xs=>xs.length≤maxN∧∀ x ∈ xs,(zaw) x) x.row∧(za1) x.time∧(okInt .i64) x.diff∧True
def z6e (x:Update):Nat:=((fun xs=>(xs.map (z8k)).sum + 1) x.key + ((fun xs=>(xs.map (z8k)).sum + 1) x.row + ((z5z) x.time + ((fun _=>1) x.diff + 0)))) + 1
def zfy (x:Batch):Prop:=(fun xs=>xs.length≤maxN∧∀ x ∈ xs,(za1) x) x.since∧(fun xs=>xs.length≤maxN∧∀ x ∈ xs,(zbd) x) x.updates∧True
def z8o (x:Batch):Nat:=((fun xs=>(xs.map (z5z)).sum + 1) x.since + ((fun xs=>(xs.map (z6e)).sum + 1) x.updates + 0)) + 1
def okWide (x:Wide):Prop:=(okInt .i64) x.high∧(okInt .u64) x.low∧True
theorem zd5 {H:Type} {enc:TypeId × Go.Value→H} {W:World} {Z:TypeId→DataW H→Prop} {B:DataW H→Nat} (hZ:Fine Tryz.prog Z) (hB:BulkOk B):Reads enc Tryz.prog W Z B 54 z02 za1 z5z:=fun n=>by
 have h:=z12.struct (n:=n) (enc:=enc) (W:=W) (tot:=3) hZ hB Tryz.underlying54 (by kernel_rfl) (fun m _=>(z3l.cons (k:=1) (z12.int hB Tryz.underlying51) rfl (by kernel_rfl) (z3l.cons (k:=2) (z12.pair hZ hB Tryz.underlying52 (k:=1) (by kernel_rfl) (by kernel_rfl) (fun m _=>(z12.int hB Tryz.underlying51))) rfl (by kernel_rfl) (z3l.nil (off:=3)))))
 exact h.map (fun (p:Int × (Int × Int) × Unit)=>(⟨p.1,p.2.1⟩:Time)) (fun _ _=>rfl) (fun _ h=>h) (fun _ _=>Nat.le_refl _)
theorem zf8 {H:Type} {enc:TypeId × Go.Value→H} {W:World} {Z:TypeId→DataW H→Prop} {B:DataW H→Nat} (hZ:Fine Tryz.prog Z) (hB:BulkOk B):Reads enc Tryz.prog W Z B 58 z05 zaw z8k:=fun n=>by
 have h:=z12.struct (n:=n) (enc:=enc) (W:=W) (tot:=3) hZ hB Tryz.underlying58 (by kernel_rfl) (fun m _=>(z3l.cons (k:=1) (z12.bool hB Tryz.underlying4) rfl (by kernel_rfl) (z3l.cons (k:=1) (z12.int hB Tryz.underlying2) rfl (by kernel_rfl) (z3l.cons (k:=1) (z12.string hZ hB Tryz.underlying9) rfl (by kernel_rfl) (z3l.nil (off:=3))))))
 exact h.map (fun (p:Bool × Int × ByteArray × Unit)=>(⟨p.1,p.2.1,p.2.2.1⟩:Value)) (fun _ _=>rfl) (fun _ h=>h) (fun _ _=>Nat.le_refl _)
theorem zig {H:Type} {enc:TypeId × Go.Value→H} {W:World} {Z:TypeId→DataW H→Prop} {B:DataW H→Nat} (hZ:Fine Tryz.prog Z) (hB:BulkOk B):Reads enc Tryz.prog W Z B 56 z01 zbd z6e:=fun n=>by
 have h:=z12.struct (n:=n) (enc:=enc) (W:=W) (tot:=6) hZ hB Tryz.underlying56 (by kernel_rfl) (fun m _=>(z3l.cons (k:=1) (z12.slice (es:=3) (e:=z05) (ok:=zaw) (bulk:=z8k) hZ hB Tryz.underlying50 (by kernel_rfl) (by kernel_rfl) rfl (fun _ _=>rfl) (fun m _=>(zf8 hZ hB m))) rfl (by kernel_rfl) (z3l.cons (k:=1) (z12.slice (es:=3) (e:=z05) (ok:=zaw) (bulk:=z8k) hZ hB Tryz.underlying50 (by kernel_rfl) (by kernel_rfl) rfl (fun _ _=>rfl) (fun m _=>(zf8 hZ hB m))) rfl (by kernel_rfl) (z3l.cons (k:=3) (zd5 hZ hB m) rfl (by kernel_rfl) (z3l.cons (k:=1) (z12.int hB Tryz.underlying2) rfl (by kernel_rfl) (z3l.nil (off:=6)))))))
 exact h.map (fun (p:(List Value) × (List Value) × Time × Int × Unit)=>(⟨p.1,p.2.1,p.2.2.1,p.2.2.2.1⟩:Update)) (fun _ _=>rfl) (fun _ h=>h) (fun _ _=>Nat.le_refl _)
theorem zej {H:Type} {enc:TypeId × Go.Value→H} {W:World} {Z:TypeId→DataW H→Prop} {B:DataW H→Nat} (hZ:Fine Tryz.prog Z) (hB:BulkOk B):Reads enc Tryz.prog W Z B 26 zlp zfy z8o:=fun n=>by
 have h:=z12.struct (n:=n) (enc:=enc) (W:=W) (tot:=2) hZ hB Tryz.underlying26 (by kernel_rfl) (fun m _=>(z3l.cons (k:=1) (z12.slice (es:=3) (e:=z02) (ok:=za1) (bulk:=z5z) hZ hB Tryz.underlying22 (by kernel_rfl) (by kernel_rfl) rfl (fun _ _=>rfl) (fun m _=>(zd5 hZ hB m))) rfl (by kernel_rfl) (z3l.cons (k:=1) (z12.slice (es:=6) (e:=z01) (ok:=zbd) (bulk:=z6e) hZ hB Tryz.underlying24 (by kernel_rfl) (by kernel_rfl) rfl (fun _ _=>rfl) (fun m _=>(zig hZ hB m))) rfl (by kernel_rfl) (z3l.nil (off:=2)))))
 exact h.map (fun (p:(List Time) × (List Update) × Unit)=>(⟨p.1,p.2.1⟩:Batch)) (fun _ _=>rfl) (fun _ h=>h) (fun _ _=>Nat.le_refl _)
end Go.Av
/-
 Av,part V: of loops,without any program.
-/
namespace Go.Av
set_option linter.unusedVariables false
set_option linter.unusedSimpArgs false
section
variable {S R Q A X:Type}
theorem        zf1 {B : Nat → S → Option (Ctl S R)} {n : Nat} (I : Nat → S → Prop) {s : S} (h0 : I 0 s) (hs : ∀ i s, i < n → I i s → ∃ s', B i s = some (.next s') ∧ I (i + 1) s') :
    ∃ s',    z0b B n 0 s = some (.done s') ∧ I n s' := by
  have key : ∀ k i s, i + k = n → I i s → ∃ s',    z0b B k i s = some (.done s') ∧ I n s' := by
    intro k
    induction k with
    | zero => intro i s hi h; exact ⟨s, rfl, by have : i = n := by omega
                                                subst this; exact h⟩
    | succ k ih =>
      intro i s hi h
      obtain ⟨s', h1, h2⟩ := hs i s (by omega) h
      obtain ⟨s2, h3, h4⟩ := ih (i + 1) s' (by omega) h2
      exact ⟨s2, by simp only [   z0b, h1, h3], h4⟩
  exact key n 0 s (by omega) h0
theorem z4w {B:Nat→S→Option (Ctl S R)} {n:Nat} {s:S} (r:S) (I:Nat→S→Prop) (hr:∀ s,I n s→s=r) (hs:∀ i s,i < n→I i s→∃ s',B i s=some (.next s')∧I (i + 1) s') (h0:I 0 s) :
  z0b B n 0 s=some (.done r):=by
 obtain ⟨s',h1,h2⟩:=zf1 I h0 hs
 rw [h1,hr s' h2]
theorem         zim {B : Nat → S → Option (Ctl S R)} {n : Nat} (I : Nat → S → Prop) (D : S → Prop) (J : R → Prop) {s : S} (h0 : I 0 s)
    (hs : ∀ i s, i < n → I i s → (∃ s', B i s = some (.next s') ∧ I (i + 1) s') ∨ (∃ s', B i s = some (.brk s') ∧ D s') ∨ ∃ r, B i s = some (.ret r) ∧ J r) (hD : ∀ s, I n s → D s) :
    (∃ s',    z0b B n 0 s = some (.done s') ∧ D s') ∨ ∃ r,    z0b B n 0 s = some (.ret r) ∧ J r := by
  have key : ∀ k i s, i + k = n → I i s → (∃ s',    z0b B k i s = some (.done s') ∧ D s') ∨ ∃ r,    z0b B k i s = some (.ret r) ∧ J r := by
    intro k
    induction k with
    | zero => intro i s hi h; exact .inl ⟨s, rfl, by have : i = n := by omega
                                                     subst this; exact hD s h⟩
    | succ k ih =>
      intro i s hi h
      rcases hs i s (by omega) h with ⟨s', h1, h2⟩ | ⟨s', h1, h2⟩ | ⟨r, h1, h2⟩
      · rcases ih (i + 1) s' (by omega) h2 with ⟨s2, h3, h4⟩ | ⟨r, h3, h4⟩
        · exact .inl ⟨s2, by simp only [   z0b, h1, h3], h4⟩
        · exact .inr ⟨r, by simp only [   z0b, h1, h3], h4⟩
      · exact .inl ⟨s', by simp only [   z0b, h1], h2⟩
      · exact .inr ⟨r, by simp only [   z0b, h1], h2⟩
  exact key n 0 s (by omega) h0
theorem z2r [Inhabited X] {l:List X} {i:Nat} (h:i < l.length):l.take (i + 1)=l.take i++[l.getD i default]:=by
 rw [List.take_add_one,List.getElem?_eq_getElem h,List.getD_eq_getElem?_getD,List.getElem?_eq_getElem h]
 rfl
theorem z42 [Inhabited X] {l:List X} {i:Nat} (h:i < l.length):l.getD i default ∈ l:=by
 rw [List.getD_eq_getElem?_getD,List.getElem?_eq_getElem h]
 exact List.getElem_mem h
@[simp] theorem z3q {s:S} {kn:S→Option Q} {kr:R→Option Q}:outK (some (.done s)) kn kr=kn s:=rfl
@[simp] theorem zo0 {r:R} {kn:S→Option Q} {kr:R→Option Q}:outK (some (.ret r)) kn kr=kr r:=rfl
@[simp] theorem z39 {x y:Option Q}:bf true x y=x:=rfl
@[simp] theorem z0e {x y:Option Q}:bf false x y=y:=rfl
theorem z06 {c:Prop} [Decidable c] {k:Option Q} (h:c):need c k=k:=by unfold need; rw [if_pos h]
@[simp] theorem jn_eq {j:A→Option Q} {k:(A→Option Q)→Option Q}:jn j k=k j:=rfl
@[simp] theorem z07 {p:Prop} [Decidable p] {x y:Option Q}:bf (decide p) x y=if p then x else y:=by by_cases h:p <;> simp [h,bf]
@[simp] theorem z47 {b:Bool} {x y:Option Q}:bf (!b) x y=bf b y x:=by cases b <;> rfl
end
end Go.Av
/-
 Orders,as comparisons with three answers: without any program.
-/
namespace Go.Av
open Go
set_option linter.unusedVariables false
set_option linter.unusedSimpArgs false
structure IsCmp {α:Type} (c : α → α → Int):Prop where
 vals:∀ a b,c a b = -1∨c a b=0∨c a b=1
 anti:∀ a b,c b a = - c a b
 tr:∀ a b d,c a b≤0→c b d≤0→c a d≤0
namespace IsCmp
variable {α β:Type} {c : α → α → Int}
theorem refl (h:IsCmp c) (a : α):c a a=0:=by have:=h.anti a a; omega
theorem lt_tr (h:IsCmp c) {a b d : α} (h1:c a b < 0) (h2:c b d≤0):c a d < 0:=by
 have:=h.tr a b d (by omega) h2
 rcases h.vals a d with g | g | g
 ·omega
 ·have g1:=h.anti a d
  have g2:=h.tr b d a h2 (by omega)
  have g3:=h.anti a b
  omega
 ·omega
theorem eqL (h:IsCmp c) {a b : α} (d : α) (h1:c a b=0):c a d=c b d:=by
 have h2:=h.anti a b
 have t1:=h.tr a b d (by omega)
 have t2:=h.tr b a d (by omega)
 have t3:=h.tr d a b
 have t4:=h.tr d b a
 have a1:=h.anti a d
 have a2:=h.anti b d
 rcases h.vals a d with g | g | g <;> rcases h.vals b d with k | k | k <;> omega
theorem eqR (h:IsCmp c) {a b : α} (d : α) (h1:c a b=0):c d a=c d b:=by
 have:=h.eqL d h1
 have a1:=h.anti a d
 have a2:=h.anti b d
 omega
theorem symm0 (h:IsCmp c) {a b : α} (h1:c a b=0):c b a=0:=by have:=h.anti a b; omega
theorem on (h:IsCmp c) (f : β → α):IsCmp fun x y=>c (f x) (f y):=⟨fun a b=>h.vals _ _,fun a b=>h.anti _ _,fun a b d=>h.tr _ _ _⟩
end IsCmp
def cmpZ (a b:Int):Int:=if a < b then -1 else if b < a then 1 else 0
theorem z8d:IsCmp cmpZ where
 vals a b:=by unfold cmpZ; split <;> (try split) <;> simp
 anti a b:=by unfold cmpZ; split <;> (try split) <;> (try split) <;> (try split) <;> omega
 tr a b d:=by unfold cmpZ; split <;> (try split) <;> (try split) <;> (try split) <;> (try split) <;> (try split) <;> omega
theorem zge {a b:Int}:cmpZ a b=0↔a=b:=by unfold cmpZ; split <;> (try split) <;> omega
def thenC (u v:Int):Int:=if u=0 then v else u
theorem IsCmp.lex {α:Type} {c d : α → α → Int} (hc:IsCmp c) (hd:IsCmp d):IsCmp fun a b=>thenC (c a b) (d a b) where
 vals a b:=by
  unfold thenC
  split
  ·exact hd.vals a b
  ·exact hc.vals a b
 anti a b:=by
  have h1:=hc.anti a b
  have h2:=hd.anti a b
  unfold thenC
  split <;> split <;> omega
 tr a b e h1 h2:=by
  unfold thenC at *
  by_cases g1:c a b=0 <;> by_cases g2:c b e=0
  ·have:=hc.eqL e g1
   rw [if_pos g1] at h1; rw [if_pos g2] at h2; rw [if_pos (by omega)]
   exact hd.tr a b e h1 h2
  ·have:=hc.eqL e g1
   rw [if_neg g2] at h2; rw [if_neg (by omega)]; omega
  ·have:=hc.eqR a g2
   rw [if_neg g1] at h1; rw [if_neg (by omega)]; omega
  ·rw [if_neg g1] at h1; rw [if_neg g2] at h2
   have:=hc.lt_tr (a:=a) (b:=b) (d:=e) (by omega) h2
   rw [if_neg (by omega)]; omega
def cmpL {α:Type} (c : α → α → Int):List α → List α → Int
 | [],[]=>0
 | [],_ :: _ => -1
 | _ :: _,[]=>1
 | a :: x,b :: y=>thenC (c a b) (cmpL c x y)
theorem IsCmp.list {α:Type} {c : α → α → Int} (h:IsCmp c):IsCmp (cmpL c) where
 vals:=by
  intro a
  induction a with
  | nil=>intro b; cases b <;> simp [cmpL]
  | cons x a ih =>
   intro b
   cases b with
   | nil=>simp [cmpL]
   | cons y b =>
    simp only [cmpL,thenC]
    split
    ·exact ih b
    ·exact h.vals x y
 anti:=by
  intro a
  induction a with
  | nil=>intro b; cases b <;> simp [cmpL]
  | cons x a ih =>
   intro b
   cases b with
   | nil=>simp [cmpL]
   | cons y b =>
    have h1:=h.anti x y
    have h2:=ih b
    simp only [cmpL,thenC]
    split <;> split <;> omega
 tr:=by
  intro a
  induction a with
  | nil=>intro b d _ _; cases d <;> simp [cmpL]
  | cons x a ih =>
   intro b d h1 h2
   cases b with
   | nil=>simp [cmpL] at h1
   | cons y b =>
    cases d with
    | nil=>simp [cmpL] at h2
    | cons z d =>
     simp only [cmpL] at *
     unfold thenC at *
     by_cases g1:c x y=0 <;> by_cases g2:c y z=0
     ·have:=h.eqL z g1
      rw [if_pos g1] at h1; rw [if_pos g2] at h2; rw [if_pos (by omega)]
      exact ih b d h1 h2
     ·have:=h.eqL z g1
      rw [if_neg g2] at h2; rw [if_neg (by omega)]; omega
     ·have:=h.eqR x g2
      rw [if_neg g1] at h1; rw [if_neg (by omega)]; omega
     ·rw [if_neg g1] at h1; rw [if_neg g2] at h2
      have:=h.lt_tr (a:=x) (b:=y) (d:=z) (by omega) h2
      rw [if_neg (by omega)]; omega
def cmpU8 (a b:UInt8):Int:=cmpZ (a.toNat:Int) (b.toNat:Int)
theorem zlc:IsCmp cmpU8:=z8d.on fun a:UInt8=>(a.toNat:Int)
theorem zbz:∀ x y:List UInt8,Op.bytesLess x y=decide (cmpL cmpU8 x y < 0)
 | [],[]=>by simp [Op.bytesLess,cmpL]
 | [],_ :: _=>by simp [Op.bytesLess,cmpL]
 | _ :: _,[]=>by simp [Op.bytesLess,cmpL]
 | a :: x,b :: y=>by
  rw [Op.bytesLess,zbz x y,cmpL]
  have e1:(a < b)↔(a.toNat:Int) < (b.toNat:Int):=by rw [UInt8.lt_iff_toNat_lt]; omega
  have e2:(a=b)↔(a.toNat:Int)=(b.toNat:Int):=by rw [← UInt8.toNat_inj]; omega
  unfold cmpU8 thenC cmpZ
  rw [Bool.eq_iff_iff]
  simp only [Bool.or_eq_true,Bool.and_eq_true,decide_eq_true_eq,beq_iff_eq,e1,e2]
  by_cases h1:(a.toNat:Int) < (b.toNat:Int)
  ·simp [h1]
  ·by_cases h2:(b.toNat:Int) < (a.toNat:Int)
   ·simp [h1,h2]; omega
   ·have:(a.toNat:Int)=(b.toNat:Int):=by omega
    simp [this]
theorem zdw:∀ x y:List UInt8,(x == y)=decide (cmpL cmpU8 x y=0)
 | [],[]=>by simp [cmpL]
 | [],_ :: _=>by simp [cmpL]
 | _ :: _,[]=>by simp [cmpL]
 | a :: x,b :: y=>by
  rw [List.cons_beq_cons,zdw x y,cmpL]
  have e2:(a=b)↔(a.toNat:Int)=(b.toNat:Int):=by rw [← UInt8.toNat_inj]; omega
  have e3:cmpU8 a b=0↔(a.toNat:Int)=(b.toNat:Int):=zge
  unfold thenC
  rw [Bool.eq_iff_iff]
  simp only [Bool.and_eq_true,decide_eq_true_eq,beq_iff_eq,e2]
  by_cases h:cmpU8 a b=0
  ·rw [if_pos h]; simp [e3.1 h]
  ·rw [if_neg h]
   constructor
   ·rintro ⟨g,_⟩; exact absurd (e3.2 g) h
   ·intro g; exact absurd g h
def cmpS (a b:ByteArray):Int:=cmpL cmpU8 a.toList b.toList
theorem zdc:IsCmp cmpS:=zlc.list.on fun a:ByteArray=>a.toList
theorem zg2 (a b:ByteArray):strLt a b=decide (cmpS a b < 0):=zbz _ _
theorem zg4 (a b:ByteArray):strEq a b=decide (cmpS a b=0):=zdw _ _
theorem zjh (a:ByteArray):strEq a a=true:=by unfold strEq; simp
theorem zgx {a b:ByteArray} (h:a.toList=b.toList):a=b:=by
 rw [ByteArray.toList_eq,ByteArray.toList_eq] at h
 cases a; cases b
 simp at h
 simp [h]
theorem zcw {a b:ByteArray}:strEq a b=true↔a=b:=by
 unfold strEq
 rw [beq_iff_eq]
 exact ⟨zgx,fun h=>by rw [h]⟩
theorem zk2 {a b:ByteArray}:cmpS a b=0↔a=b:=by
 rw [← zcw,zg4,decide_eq_true_eq]
theorem z1o {α:Type} [Inhabited α] {l:List α} {i:Nat} (h:i < l.length):l.drop i=l.getD i default :: l.drop (i + 1):=by
 rw [List.drop_eq_getElem_cons h,List.getD_eq_getElem?_getD,List.getElem?_eq_getElem h]; rfl
theorem zn2 {α:Type} [Inhabited α] {c : α → α → Int} {p0 p1:List α} {B:Nat→Unit→Option (Ctl Unit Int)} {kn:Unit→Option Int}
  (hB:∀ i,i < p0.length→B i ()=if p1.length≤i then some (.ret 1) else if c (p0.getD i default) (p1.getD i default)=0 then some (.next ()) else some (.ret (c (p0.getD i default) (p1.getD i default))))
  (hk:kn ()=some (if p0.length < p1.length then -1 else 0)):outK (z0b B p0.length 0 ()) kn (fun x=>some x)=some (cmpL c p0 p1):=by
 have key:∀ k i,i + k=p0.length→i≤p1.length→outK (z0b B k i ()) kn (fun x=>some x)=some (cmpL c (p0.drop i) (p1.drop i)):=by
  intro k
  induction k with
  | zero =>
   intro i hi hle
   simp only [z0b,z3q,hk]
   rw [List.drop_eq_nil_of_le (by omega:p0.length≤i)]
   by_cases h:p0.length < p1.length
   ·rw [if_pos h,z1o (by omega:i < p1.length)]; rfl
   ·rw [if_neg h,List.drop_eq_nil_of_le (by omega:p1.length≤i)]; rfl
  | succ k ih =>
   intro i hi hle
   simp only [z0b,hB i (by omega)]
   rw [z1o (by omega:i < p0.length)]
   by_cases h:p1.length≤i
   ·rw [if_pos h,List.drop_eq_nil_of_le (by omega:p1.length≤i)]; rfl
   ·rw [if_neg h,z1o (by omega:i < p1.length)]
    simp only [cmpL,thenC]
    by_cases h0:c (p0.getD i default) (p1.getD i default)=0
    ·rw [if_pos h0,if_pos h0]; exact ih (i + 1) (by omega) (by omega)
    ·rw [if_neg h0,if_neg h0]; rfl
 exact key p0.length 0 (by omega) (by omega)
end Go.Av
/-
 Numbers and bits: without any program.
-/
namespace Go.Av
open Go
set_option linter.unusedVariables false
set_option linter.unusedSimpArgs false
theorem z8a (n:Int):IntKind.u64.wrap n=n % 18446744073709551616:=by simp [IntKind.wrap,IntKind.bits,IntKind.signed]
theorem zbh (n:Int):IntKind.i64.wrap n=if n % 18446744073709551616 ≥ 9223372036854775808 then n % 18446744073709551616 - 18446744073709551616 else n % 18446744073709551616:=by
 simp [IntKind.wrap,IntKind.bits,IntKind.signed]
def in64 (x:Int):Prop := -9223372036854775808≤x∧x < 9223372036854775808
def inU64 (x:Int):Prop:=0≤x∧x < 18446744073709551616
theorem z7a {x:Int} (h:in64 x):IntKind.i64.wrap x=x:=by
 unfold in64 at h
 rw [zbh]
 split <;> omega
theorem shr63 {x:Int} (h:in64 x):shrOp .i64 x 63=if x < 0 then -1 else 0:=by
 unfold in64 at h
 unfold shrOp
 have e:(2:Int) ^ (min (63:Int).toNat IntKind.i64.bits)=9223372036854775808:=by decide
 rw [e,Int.fdiv_eq_ediv_of_nonneg _ (by decide)]
 split <;> omega
theorem zaq (k:IntKind) (n m:Nat) (hm:m≤k.bits):shrOp k (n:Int) (m:Int)=((n / 2 ^ m:Nat):Int):=by
 unfold shrOp
 rw [Int.toNat_natCast,Nat.min_eq_left hm,Int.fdiv_eq_ediv_of_nonneg _ (by exact Int.le_of_lt (Int.pow_pos (by decide)))]
 push_cast
 rfl
theorem z8h {w:Nat} (n:Nat) (h:n < 2 ^ w):(BitVec.ofInt w (n:Int)).toNat=n:=by
 rw [BitVec.toNat_ofInt]
 have e:((n:Int) % ((2 ^ w:Nat):Int))=(n:Int):=Int.emod_eq_of_lt (by omega) (by exact_mod_cast h)
 rw [e,Int.toNat_natCast]
theorem uwrap {k:IntKind} (hs:k.signed=false) {n:Nat} (h:n < 2 ^ k.bits):k.wrap (n:Int)=(n:Int):=by
 unfold IntKind.wrap
 simp only [hs,Bool.false_and,Bool.false_eq_true,if_false]
 have:((2:Int) ^ k.bits)=((2 ^ k.bits:Nat):Int):=by push_cast; rfl
 rw [this]
 exact Int.emod_eq_of_lt (by omega) (by exact_mod_cast h)
theorem zfw {k:IntKind} (hs:k.signed=false) {x y:Nat} (hx:x < 2 ^ k.bits) (hy:y < 2 ^ k.bits):z0m .xor k (x:Int) (y:Int)=((x ^^^ y:Nat):Int):=by
 unfold z0m
 simp only
 rw [BitVec.toNat_xor,z8h x hx,z8h y hy,uwrap hs (Nat.xor_lt_two_pow hx hy)]
theorem zme {k:IntKind} (hs:k.signed=false) {x y:Nat} (hx:x < 2 ^ k.bits) (hy:y < 2 ^ k.bits):z0m .and k (x:Int) (y:Int)=((x &&& y:Nat):Int):=by
 unfold z0m
 simp only
 rw [BitVec.toNat_and,z8h x hx,z8h y hy,uwrap hs (Nat.and_lt_two_pow x hy)]
theorem zfr {k:IntKind} (n m:Nat) (hm:m≤k.bits):shlOp k (n:Int) (m:Int)=k.wrap ((n * 2 ^ m:Nat):Int):=by
 unfold shlOp
 rw [Int.toNat_natCast,Nat.min_eq_left hm]
 push_cast
 rfl
end Go.Av
namespace Go.Av
open Go
set_option linter.unusedVariables false
set_option linter.unusedSimpArgs false
section
variable {α:Type} {c : α → α → Int}
def sm (c : α → α → Int):List (α × Int) → α → Int
 | [],_=>0
 | p :: l,y=>(if c y p.1=0 then p.2 else 0) + sm c l y
theorem z7k (l l' : List (α × Int)) (y : α):sm c (l++l') y=sm c l y + sm c l' y:=by
 induction l with
 | nil=>simp [sm]
 | cons p l ih=>simp only [List.cons_append,sm,ih]; omega
theorem ziv {l l' : List (α × Int)} (h:l.Perm l') (y : α):sm c l y=sm c l' y:=by
 induction h with
 | nil=>rfl
 | cons p _ ih=>simp only [sm,ih]
 | swap p q l=>simp only [sm]; omega
 | trans _ _ h1 h2=>exact h1.trans h2
theorem z6y (hC:IsCmp c) {y z : α} (h:c y z=0):∀ l:List (α × Int),sm c l y=sm c l z
 | []=>rfl
 | p :: l=>by simp only [sm,z6y hC h l,hC.eqL p.1 h]
theorem z9h {y : α}:∀ {l:List (α × Int)},(∀ p ∈ l,c y p.1 ≠ 0)→sm c l y=0
 | [],_=>rfl
 | p :: l,h=>by simp only [sm,if_neg (h p (List.mem_cons_self ..)),z9h fun q hq=>h q (List.mem_cons_of_mem _ hq)]; omega
theorem zb8 {y : α} {l:List (α × Int)} (h:sm c l y ≠ 0):∃ p ∈ l,c y p.1=0:=by
 apply Classical.byContradiction
 intro hn
 exact h (z9h fun p hp e=>hn ⟨p,hp,e⟩)
structure SS (c : α → α → Int) (l S:List (α × Int)):Prop where
 strict:S.Pairwise fun a b=>c a.1 b.1 < 0
 sum:∀ p ∈ S,p.2=sm c l p.1
 mem:∀ p ∈ S,∃ y ∈ l,y.1=p.1
 all:∀ y ∈ l,∃ p ∈ S,c p.1 y.1=0
theorem znv:SS c [] []:=⟨List.Pairwise.nil,fun p h=>(by cases h),fun p h=>(by cases h),fun p h=>(by cases h)⟩
theorem zkn (x y : α) (n:Int):sm c [(x,n)] y=if c y x=0 then n else 0:=by simp [sm]
theorem zke (hC:IsCmp c) {l A B:List (α × Int)} {x : α} {n:Int} (h:SS c l (A++B)) (hA:∀ p ∈ A,c p.1 x < 0) (hB:∀ p ∈ B,c x p.1 < 0):SS c (l++[(x,n)]) (A++(x,n) :: B):=by
 have hne:∀ p ∈ A++B,c p.1 x ≠ 0:=fun p hp=>by
  rcases List.mem_append.1 hp with hp | hp
  ·have:=hA p hp; omega
  ·have:=hB p hp; have:=hC.anti x p.1; omega
 have hs:=h.strict
 rw [List.pairwise_append] at hs
 refine ⟨?_,?_,?_,?_⟩
 ·rw [List.pairwise_append]
  refine ⟨hs.1,List.pairwise_cons.2 ⟨hB,hs.2.1⟩,fun a ha b hb => ?_⟩
  rcases List.mem_cons.1 hb with rfl | hb
  ·exact hA a ha
  ·exact hs.2.2 a ha b hb
 ·intro p hp
  rw [z7k,zkn]
  have hp' : p=(x,n)∨p ∈ A++B:=by
   rcases List.mem_append.1 hp with hp | hp
   ·exact .inr (List.mem_append.2 (.inl hp))
   ·rcases List.mem_cons.1 hp with hp | hp
    ·exact .inl hp
    ·exact .inr (List.mem_append.2 (.inr hp))
  rcases hp' with rfl | hp'
  ·simp only [hC.refl]
   rw [z9h fun q hq e => ?_]
   ·simp
   ·obtain ⟨p,hp,e2⟩:=h.all q hq
    exact hne p hp (by rw [hC.eqL x e2]; exact hC.symm0 e)
  ·rw [if_neg (hne p hp'),← h.sum p hp']
   omega
 ·intro p hp
  rcases List.mem_append.1 hp with hp | hp
  ·obtain ⟨y,h1,h2⟩:=h.mem p (List.mem_append.2 (.inl hp))
   exact ⟨y,List.mem_append.2 (.inl h1),h2⟩
  ·rcases List.mem_cons.1 hp with rfl | hp
   ·exact ⟨(x,n),List.mem_append.2 (.inr (List.mem_singleton.2 rfl)),rfl⟩
   ·obtain ⟨y,h1,h2⟩:=h.mem p (List.mem_append.2 (.inr hp))
    exact ⟨y,List.mem_append.2 (.inl h1),h2⟩
 ·intro y hy
  rcases List.mem_append.1 hy with hy | hy
  ·obtain ⟨p,h1,h2⟩:=h.all y hy
   refine ⟨p,?_,h2⟩
   rcases List.mem_append.1 h1 with h1 | h1
   ·exact List.mem_append.2 (.inl h1)
   ·exact List.mem_append.2 (.inr (List.mem_cons_of_mem _ h1))
  ·rw [List.mem_singleton.1 hy]
   exact ⟨(x,n),List.mem_append.2 (.inr (List.mem_cons_self ..)),hC.refl x⟩
theorem znq (hC:IsCmp c) {l A B:List (α × Int)} {x : α} {p : α × Int} {n:Int} (h:SS c l (A++p :: B)) (hp:c p.1 x=0):SS c (l++[(x,n)]) (A++(p.1,p.2 + n) :: B):=by
 have hs:=h.strict
 rw [List.pairwise_append,List.pairwise_cons] at hs
 have hx:=hC.symm0 hp
 have hA:∀ q ∈ A,c q.1 x ≠ 0:=fun q hq e=>by
  have:=hs.2.2 q hq p (List.mem_cons_self ..)
  rw [hC.eqR q.1 hp] at this
  omega
 have hB:∀ q ∈ B,c q.1 x ≠ 0:=fun q hq e=>by
  have:=hs.2.1.1 q hq
  rw [hC.eqL q.1 hp,hC.symm0 e] at this
  omega
 refine ⟨?_,?_,?_,?_⟩
 ·rw [List.pairwise_append,List.pairwise_cons]
  refine ⟨hs.1,⟨hs.2.1.1,hs.2.1.2⟩,fun a ha b hb => ?_⟩
  rcases List.mem_cons.1 hb with rfl | hb
  ·exact hs.2.2 a ha p (List.mem_cons_self ..)
  ·exact hs.2.2 a ha b (List.mem_cons_of_mem _ hb)
 ·intro q hq
  rw [z7k,zkn]
  rcases List.mem_append.1 hq with hq | hq
  ·rw [if_neg (hA q hq),h.sum q (List.mem_append.2 (.inl hq))]; omega
  ·rcases List.mem_cons.1 hq with rfl | hq
   ·simp only
    rw [if_pos hp,h.sum p (List.mem_append.2 (.inr (List.mem_cons_self ..)))]
   ·rw [if_neg (hB q hq),h.sum q (List.mem_append.2 (.inr (List.mem_cons_of_mem _ hq)))]; omega
 ·intro q hq
  have:∃ q' ∈ A++p :: B,q'.1=q.1:=by
   rcases List.mem_append.1 hq with hq | hq
   ·exact ⟨q,List.mem_append.2 (.inl hq),rfl⟩
   ·rcases List.mem_cons.1 hq with rfl | hq
    ·exact ⟨p,List.mem_append.2 (.inr (List.mem_cons_self ..)),rfl⟩
    ·exact ⟨q,List.mem_append.2 (.inr (List.mem_cons_of_mem _ hq)),rfl⟩
  obtain ⟨q',h1,h2⟩:=this
  obtain ⟨y,h3,h4⟩:=h.mem q' h1
  exact ⟨y,List.mem_append.2 (.inl h3),h4.trans h2⟩
 ·intro y hy
  rcases List.mem_append.1 hy with hy | hy
  ·obtain ⟨q,h1,h2⟩:=h.all y hy
   rcases List.mem_append.1 h1 with h1 | h1
   ·exact ⟨q,List.mem_append.2 (.inl h1),h2⟩
   ·rcases List.mem_cons.1 h1 with rfl | h1
    ·exact ⟨(q.1,q.2 + n),List.mem_append.2 (.inr (List.mem_cons_self ..)),h2⟩
    ·exact ⟨q,List.mem_append.2 (.inr (List.mem_cons_of_mem _ h1)),h2⟩
  ·rw [List.mem_singleton.1 hy]
   exact ⟨(p.1,p.2 + n),List.mem_append.2 (.inr (List.mem_cons_self ..)),hp⟩
def Fits (c : α → α → Int) (l:List (α × Int)):Prop := ∀ y,in64 (sm c l y)
theorem zj6 (hC:IsCmp c) {l S:List (α × Int)} (h:SS c l S):Fits c l↔∀ p ∈ S,in64 p.2:=by
 constructor
 ·intro hf p hp
  rw [h.sum p hp]; exact hf p.1
 ·intro hf y
  by_cases e:sm c l y=0
  ·rw [e]; unfold in64; omega
  ·obtain ⟨q,h1,h2⟩:=zb8 e
   obtain ⟨p,h3,h4⟩:=h.all q h1
   have e2:c p.1 y=0:=by rw [hC.eqL y h4]; exact hC.symm0 h2
   rw [← z6y hC e2,← h.sum p h3]
   exact hf p h3
structure Res (c : α → α → Int) (num : α → Int) (put : α → Int → α) (l:List (α × Int)) (R:List α):Prop where
 strict:R.Pairwise fun a b=>c a b < 0
 sum:∀ r ∈ R,num r=sm c l r∧num r ≠ 0
 mem:∀ r ∈ R,∃ y ∈ l,r=put y.1 (num r)
 all:∀ y ∈ l,sm c l y.1 ≠ 0→∃ r ∈ R,c r y.1=0
def Tot (c : α → α → Int) (num : α → Int) (put : α → Int → α) (l:List (α × Int)) (R:List α) (e:Int):Prop:=(e=0∧Res c num put l R∧Fits c l)∨(e=10∧R=[]∧¬ Fits c l)
def left0 (put : α → Int → α) (S:List (α × Int)):List α:=(S.filter fun p => !decide (p.2=0)).map fun p=>put p.1 p.2
theorem znl (hC:IsCmp c) {num : α → Int} {put : α → Int → α} (h1:∀ x n,num (put x n)=n) (h2:∀ x n y,c (put x n) y=c x y) {l S:List (α × Int)} (h:SS c l S):Res c num put l (left0 put S):=by
 have h3:∀ x n y,c y (put x n)=c y x:=fun x n y=>by have:=hC.anti y (put x n); have:=hC.anti y x; have:=h2 x n y; omega
 unfold left0
 refine ⟨?_,?_,?_,?_⟩
 ·rw [List.pairwise_map]
  refine List.Pairwise.imp (fun {a b} hab => ?_) (h.strict.filter _)
  rw [h2,h3]; exact hab
 ·intro r hr
  obtain ⟨p,hp,rfl⟩:=List.mem_map.1 hr
  obtain ⟨hp,hz⟩:=List.mem_filter.1 hp
  rw [h1]
  refine ⟨?_,by simpa using hz⟩
  rw [z6y hC (show c (put p.1 p.2) p.1=0 by rw [h2]; exact hC.refl _)]
  exact h.sum p hp
 ·intro r hr
  obtain ⟨p,hp,rfl⟩:=List.mem_map.1 hr
  obtain ⟨hp,hz⟩:=List.mem_filter.1 hp
  obtain ⟨y,g1,g2⟩:=h.mem p hp
  exact ⟨y,g1,by rw [h1,g2]⟩
 ·intro y hy hn
  obtain ⟨p,g1,g2⟩:=h.all y hy
  refine ⟨put p.1 p.2,List.mem_map.2 ⟨p,List.mem_filter.2 ⟨g1,?_⟩,rfl⟩,by rw [h2]; exact g2⟩
  have:=h.sum p g1
  rw [z6y hC g2] at this
  simp only [Bool.not_eq_eq_eq_not,Bool.not_true,decide_eq_false_iff_not]
  omega
theorem zer (hC:IsCmp c):∀ {R R' : List α},R.Pairwise (fun a b=>c a b < 0)→R'.Pairwise (fun a b=>c a b < 0)→(∀ x,x ∈ R↔x ∈ R')→R=R'
 | [],[],_,_,_=>rfl
 | [],x :: _,_,_,h=>by cases (h x).2 (List.mem_cons_self ..)
 | x :: _,[],_,_,h=>by cases (h x).1 (List.mem_cons_self ..)
 | a :: R,b :: R',h1,h2,h=>by
  rw [List.pairwise_cons] at h1 h2
  have hab:a=b:=by
   rcases List.mem_cons.1 ((h a).1 (List.mem_cons_self ..)) with e | e
   ·exact e
   ·rcases List.mem_cons.1 ((h b).2 (List.mem_cons_self ..)) with e2 | e2
    ·exact e2.symm
    ·have:=h2.1 a e; have:=h1.1 b e2; have:=hC.anti a b; omega
  subst hab
  have ne1:a ∉ R:=fun g=>by have:=h1.1 a g; rw [hC.refl] at this; omega
  have ne2:a ∉ R':=fun g=>by have:=h2.1 a g; rw [hC.refl] at this; omega
  rw [zer hC h1.2 h2.2 fun x => ?_]
  constructor
  ·intro hx
   rcases List.mem_cons.1 ((h x).1 (List.mem_cons_of_mem _ hx)) with rfl | g
   ·exact absurd hx ne1
   ·exact g
  ·intro hx
   rcases List.mem_cons.1 ((h x).2 (List.mem_cons_of_mem _ hx)) with rfl | g
   ·exact absurd hx ne2
   ·exact g
theorem zja (hC:IsCmp c) {num : α → Int} {put : α → Int → α} {l l' : List (α × Int)} {R R' : List α} (h:Res c num put l R) (h' : Res c num put l' R') (hs:∀ y,sm c l y=sm c l' y)
  (hV:∀ r ∈ R,∀ r' ∈ R',c r r' = 0→num r=num r' → r=r'):R=R':=by
 refine zer hC h.strict h'.strict fun x=>⟨fun hx => ?_,fun hx => ?_⟩
 ·obtain ⟨e1,e2⟩:=h.sum x hx
  rw [hs] at e1
  obtain ⟨y,hy,e3⟩:=zb8 (c:=c) (l:=l') (y:=x) (by omega)
  obtain ⟨r,hr,e4⟩:=h'.all y hy (by rw [← z6y hC e3]; omega)
  have e5:c x r=0:=by rw [hC.eqL r e3]; exact hC.symm0 e4
  rw [hV x hx r hr e5 (by rw [(h'.sum r hr).1,← z6y hC e5]; exact e1)]
  exact hr
 ·obtain ⟨e1,e2⟩:=h'.sum x hx
  rw [← hs] at e1
  obtain ⟨y,hy,e3⟩:=zb8 (c:=c) (l:=l) (y:=x) (by omega)
  obtain ⟨r,hr,e4⟩:=h.all y hy (by rw [← z6y hC e3]; omega)
  have e5:c r x=0:=by rw [hC.eqL x e4]; exact hC.symm0 e3
  rw [← hV r hr x hx e5 (by rw [(h.sum r hr).1,z6y hC e5]; omega)]
  exact hr
theorem zjg (hC:IsCmp c) {num : α → Int} {put : α → Int → α} {l l' : List (α × Int)} {R R' : List α} {e e' : Int} (h:Tot c num put l R e) (h' : Tot c num put l' R' e') (hs:∀ y,sm c l y=sm c l' y)
  (hV:∀ r ∈ R,∀ r' ∈ R',c r r' = 0→num r=num r' → r=r'):R=R' ∧ e=e':=by
 have hf:Fits c l↔Fits c l':=by unfold Fits; simp only [hs]
 rcases h with ⟨rfl,h1,h2⟩ | ⟨rfl,rfl,h2⟩
 ·rcases h' with ⟨rfl,g1,g2⟩ | ⟨rfl,rfl,g2⟩
  ·exact ⟨zja hC h1 g1 hs hV,rfl⟩
  ·exact absurd (hf.1 h2) g2
 ·rcases h' with ⟨rfl,g1,g2⟩ | ⟨rfl,rfl,g2⟩
  ·exact absurd (hf.2 g2) h2
  ·exact ⟨rfl,rfl⟩
end
end Go.Av
namespace Go.Av
open Go
set_option linter.unusedVariables false
section
variable {α:Type} [Inhabited α]
def insG (cmp : α → α → Option Int) (fuel:Nat) (p1:Int) (p2:Int) (l0:List α):Option (List α) :=
 outK (loopN (S:=Int × (List α)) (R:=Empty) (fun (a1:Int × (List α))=>bf (decide (a1.1 < p2)) (outK (loopN (S:=Int × (List α)) (R:=Empty) (fun (a3:Int × (List α))=>jn (fun (a5:Bool)=>bf a5 (need ((0:Int)≤(IntKind.i64.wrap (a3.1 - 1))∧(IntKind.i64.wrap (a3.1 - 1)) < (a3.2.length:Int)) <| need ((0 + (IntKind.i64.wrap (a3.1 - 1)).toNat) < a3.2.length) <| need ((0:Int)≤a3.1∧a3.1 < (a3.2.length:Int)) <| need ((0 + a3.1.toNat) < a3.2.length) <| need ((0:Int)≤a3.1∧a3.1 < (a3.2.length:Int)) <| need ((0 + a3.1.toNat) < a3.2.length) <| need ((0:Int)≤(IntKind.i64.wrap (a3.1 - 1))∧(IntKind.i64.wrap (a3.1 - 1)) < (a3.2.length:Int)) <| need ((0 + (IntKind.i64.wrap (a3.1 - 1)).toNat) < (a3.2.set (0 + a3.1.toNat) (a3.2.getD (0 + (IntKind.i64.wrap (a3.1 - 1)).toNat) default)).length) <| some (.next ((IntKind.i64.wrap (a3.1 - 1)),((a3.2.set (0 + a3.1.toNat) (a3.2.getD (0 + (IntKind.i64.wrap (a3.1 - 1)).toNat) default)).set (0 + (IntKind.i64.wrap (a3.1 - 1)).toNat) (a3.2.getD (0 + a3.1.toNat) default))))) (some (.brk (a3.1,a3.2)))) fun j6=>bf (decide (p1 < a3.1)) (need ((0:Int)≤a3.1∧a3.1 < (a3.2.length:Int)) <| need ((0 + a3.1.toNat) < a3.2.length) <| need ((0:Int)≤(IntKind.i64.wrap (a3.1 - 1))∧(IntKind.i64.wrap (a3.1 - 1)) < (a3.2.length:Int)) <| need ((0 + (IntKind.i64.wrap (a3.1 - 1)).toNat) < a3.2.length) <| (cmp (a3.2.getD (0 + a3.1.toNat) default) (a3.2.getD (0 + (IntKind.i64.wrap (a3.1 - 1)).toNat) default)).bind fun r20=>j6 (decide (r20 < 0))) (j6 false)) fuel (a1.1,a1.2)) (fun (a4:Int × (List α))=>some (.next ((IntKind.i64.wrap (a1.1 + 1)),a4.2))) (fun (x:Empty)=>x.elim)) (some (.brk (a1.1,a1.2)))) fuel ((IntKind.i64.wrap (p1 + 1)),l0)) (fun (a2:Int × (List α))=>some a2.2) (fun (x:Empty)=>x.elim)
def swapG (fuel:Nat) (p1:Int) (p2:Int) (p3:Int) (l0:List α):Option (List α) :=
 outK (loopN (S:=Int × (List α)) (R:=Empty) (fun (a1:Int × (List α))=>bf (decide (a1.1 < p3)) (need ((0:Int)≤(IntKind.i64.wrap (p2 + a1.1))∧(IntKind.i64.wrap (p2 + a1.1)) < (a1.2.length:Int)) <| need ((0 + (IntKind.i64.wrap (p2 + a1.1)).toNat) < a1.2.length) <| need ((0:Int)≤(IntKind.i64.wrap (p1 + a1.1))∧(IntKind.i64.wrap (p1 + a1.1)) < (a1.2.length:Int)) <| need ((0 + (IntKind.i64.wrap (p1 + a1.1)).toNat) < a1.2.length) <| need ((0:Int)≤(IntKind.i64.wrap (p1 + a1.1))∧(IntKind.i64.wrap (p1 + a1.1)) < (a1.2.length:Int)) <| need ((0 + (IntKind.i64.wrap (p1 + a1.1)).toNat) < a1.2.length) <| need ((0:Int)≤(IntKind.i64.wrap (p2 + a1.1))∧(IntKind.i64.wrap (p2 + a1.1)) < (a1.2.length:Int)) <| need ((0 + (IntKind.i64.wrap (p2 + a1.1)).toNat) < (a1.2.set (0 + (IntKind.i64.wrap (p1 + a1.1)).toNat) (a1.2.getD (0 + (IntKind.i64.wrap (p2 + a1.1)).toNat) default)).length) <| some (.next ((IntKind.i64.wrap (a1.1 + 1)),((a1.2.set (0 + (IntKind.i64.wrap (p1 + a1.1)).toNat) (a1.2.getD (0 + (IntKind.i64.wrap (p2 + a1.1)).toNat) default)).set (0 + (IntKind.i64.wrap (p2 + a1.1)).toNat) (a1.2.getD (0 + (IntKind.i64.wrap (p1 + a1.1)).toNat) default))))) (some (.brk (a1.1,a1.2)))) fuel (0,l0)) (fun (a2:Int × (List α))=>some a2.2) (fun (x:Empty)=>x.elim)
def rotG (fuel:Nat) (p1:Int) (p2:Int) (p3:Int) (l0:List α):Option (List α) :=
 outK (loopN (S:=Int × Int × (List α)) (R:=Empty) (fun (a1:Int × Int × (List α))=>bf (!decide (a1.1=a1.2.1)) (bf (decide (a1.2.1 < a1.1)) ((swapG fuel (IntKind.i64.wrap (p2 - a1.1)) p2 a1.2.1 a1.2.2).bind fun r4=>need (r4.length=a1.2.2.length) <| some (.next ((IntKind.i64.wrap (a1.1 - a1.2.1)),a1.2.1,r4))) ((swapG fuel (IntKind.i64.wrap (p2 - a1.1)) (IntKind.i64.wrap ((IntKind.i64.wrap (p2 + a1.2.1)) - a1.1)) a1.1 a1.2.2).bind fun r6=>need (r6.length=a1.2.2.length) <| some (.next (a1.1,(IntKind.i64.wrap (a1.2.1 - a1.1)),r6)))) (some (.brk (a1.1,a1.2.1,a1.2.2)))) fuel ((IntKind.i64.wrap (p2 - p1)),(IntKind.i64.wrap (p3 - p2)),l0)) (fun (a2:Int × Int × (List α))=>(swapG fuel (IntKind.i64.wrap (p2 - a2.1)) p2 a2.1 a2.2.2).bind fun r3=>some r3) (fun (x:Empty)=>x.elim)
def symG (cmp : α → α → Option Int):Nat→Int→Int→Int→(List α)→Option (List α)
 | 0,_,_,_,_=>none
 | fuel + 1,p1,p2,p3,l0 =>
 bf (decide ((IntKind.i64.wrap (p2 - p1))=1)) (outK (loopN (S:=Int × Int) (R:=Empty) (fun (a1:Int × Int)=>bf (decide (a1.1 < a1.2)) (need ((0:Int)≤(IntKind.i64.wrap (shrOp .u64 (IntKind.u64.wrap (IntKind.i64.wrap (a1.1 + a1.2))) 1))∧(IntKind.i64.wrap (shrOp .u64 (IntKind.u64.wrap (IntKind.i64.wrap (a1.1 + a1.2))) 1)) < (l0.length:Int)) <| need ((0 + (IntKind.i64.wrap (shrOp .u64 (IntKind.u64.wrap (IntKind.i64.wrap (a1.1 + a1.2))) 1)).toNat) < l0.length) <| need ((0:Int)≤p1∧p1 < (l0.length:Int)) <| need ((0 + p1.toNat) < l0.length) <| (cmp (l0.getD (0 + (IntKind.i64.wrap (shrOp .u64 (IntKind.u64.wrap (IntKind.i64.wrap (a1.1 + a1.2))) 1)).toNat) default) (l0.getD (0 + p1.toNat) default)).bind fun r17=>bf (decide (r17 < 0)) (some (.next ((IntKind.i64.wrap ((IntKind.i64.wrap (shrOp .u64 (IntKind.u64.wrap (IntKind.i64.wrap (a1.1 + a1.2))) 1)) + 1)),a1.2))) (some (.next (a1.1,(IntKind.i64.wrap (shrOp .u64 (IntKind.u64.wrap (IntKind.i64.wrap (a1.1 + a1.2))) 1)))))) (some (.brk (a1.1,a1.2)))) fuel (p2,p3)) (fun (a2:Int × Int)=>outK (loopN (S:=Int × (List α)) (R:=Empty) (fun (a3:Int × (List α))=>bf (decide (a3.1 < (IntKind.i64.wrap (a2.1 - 1)))) (need ((0:Int)≤(IntKind.i64.wrap (a3.1 + 1))∧(IntKind.i64.wrap (a3.1 + 1)) < (a3.2.length:Int)) <| need ((0 + (IntKind.i64.wrap (a3.1 + 1)).toNat) < a3.2.length) <| need ((0:Int)≤a3.1∧a3.1 < (a3.2.length:Int)) <| need ((0 + a3.1.toNat) < a3.2.length) <| need ((0:Int)≤a3.1∧a3.1 < (a3.2.length:Int)) <| need ((0 + a3.1.toNat) < a3.2.length) <| need ((0:Int)≤(IntKind.i64.wrap (a3.1 + 1))∧(IntKind.i64.wrap (a3.1 + 1)) < (a3.2.length:Int)) <| need ((0 + (IntKind.i64.wrap (a3.1 + 1)).toNat) < (a3.2.set (0 + a3.1.toNat) (a3.2.getD (0 + (IntKind.i64.wrap (a3.1 + 1)).toNat) default)).length) <| some (.next ((IntKind.i64.wrap (a3.1 + 1)),((a3.2.set (0 + a3.1.toNat) (a3.2.getD (0 + (IntKind.i64.wrap (a3.1 + 1)).toNat) default)).set (0 + (IntKind.i64.wrap (a3.1 + 1)).toNat) (a3.2.getD (0 + a3.1.toNat) default))))) (some (.brk (a3.1,a3.2)))) fuel (p1,l0)) (fun (a4:Int × (List α))=>some a4.2) (fun (x:Empty)=>x.elim)) (fun (x:Empty)=>x.elim)) (bf (decide ((IntKind.i64.wrap (p3 - p2))=1)) (outK (loopN (S:=Int × Int) (R:=Empty) (fun (a18:Int × Int)=>bf (decide (a18.1 < a18.2)) (need ((0:Int)≤p2∧p2 < (l0.length:Int)) <| need ((0 + p2.toNat) < l0.length) <| need ((0:Int)≤(IntKind.i64.wrap (shrOp .u64 (IntKind.u64.wrap (IntKind.i64.wrap (a18.1 + a18.2))) 1))∧(IntKind.i64.wrap (shrOp .u64 (IntKind.u64.wrap (IntKind.i64.wrap (a18.1 + a18.2))) 1)) < (l0.length:Int)) <| need ((0 + (IntKind.i64.wrap (shrOp .u64 (IntKind.u64.wrap (IntKind.i64.wrap (a18.1 + a18.2))) 1)).toNat) < l0.length) <| (cmp (l0.getD (0 + p2.toNat) default) (l0.getD (0 + (IntKind.i64.wrap (shrOp .u64 (IntKind.u64.wrap (IntKind.i64.wrap (a18.1 + a18.2))) 1)).toNat) default)).bind fun r34=>bf (!(decide (r34 < 0))) (some (.next ((IntKind.i64.wrap ((IntKind.i64.wrap (shrOp .u64 (IntKind.u64.wrap (IntKind.i64.wrap (a18.1 + a18.2))) 1)) + 1)),a18.2))) (some (.next (a18.1,(IntKind.i64.wrap (shrOp .u64 (IntKind.u64.wrap (IntKind.i64.wrap (a18.1 + a18.2))) 1)))))) (some (.brk (a18.1,a18.2)))) fuel (p1,p2)) (fun (a19:Int × Int)=>outK (loopN (S:=Int × (List α)) (R:=Empty) (fun (a20:Int × (List α))=>bf (decide (a19.1 < a20.1)) (need ((0:Int)≤(IntKind.i64.wrap (a20.1 - 1))∧(IntKind.i64.wrap (a20.1 - 1)) < (a20.2.length:Int)) <| need ((0 + (IntKind.i64.wrap (a20.1 - 1)).toNat) < a20.2.length) <| need ((0:Int)≤a20.1∧a20.1 < (a20.2.length:Int)) <| need ((0 + a20.1.toNat) < a20.2.length) <| need ((0:Int)≤a20.1∧a20.1 < (a20.2.length:Int)) <| need ((0 + a20.1.toNat) < a20.2.length) <| need ((0:Int)≤(IntKind.i64.wrap (a20.1 - 1))∧(IntKind.i64.wrap (a20.1 - 1)) < (a20.2.length:Int)) <| need ((0 + (IntKind.i64.wrap (a20.1 - 1)).toNat) < (a20.2.set (0 + a20.1.toNat) (a20.2.getD (0 + (IntKind.i64.wrap (a20.1 - 1)).toNat) default)).length) <| some (.next ((IntKind.i64.wrap (a20.1 - 1)),((a20.2.set (0 + a20.1.toNat) (a20.2.getD (0 + (IntKind.i64.wrap (a20.1 - 1)).toNat) default)).set (0 + (IntKind.i64.wrap (a20.1 - 1)).toNat) (a20.2.getD (0 + a20.1.toNat) default))))) (some (.brk (a20.1,a20.2)))) fuel (p2,l0)) (fun (a21:Int × (List α))=>some a21.2) (fun (x:Empty)=>x.elim)) (fun (x:Empty)=>x.elim)) (jn (fun (a35:Int × Int × Int × Int)=>outK (loopN (S:=Int × Int) (R:=Empty) (fun (a37:Int × Int)=>bf (decide (a37.1 < a37.2)) (need ((0:Int)≤(IntKind.i64.wrap ((IntKind.i64.wrap (a35.2.1 - 1)) - (IntKind.i64.wrap (shrOp .u64 (IntKind.u64.wrap (IntKind.i64.wrap (a37.1 + a37.2))) 1))))∧(IntKind.i64.wrap ((IntKind.i64.wrap (a35.2.1 - 1)) - (IntKind.i64.wrap (shrOp .u64 (IntKind.u64.wrap (IntKind.i64.wrap (a37.1 + a37.2))) 1)))) < (l0.length:Int)) <| need ((0 + (IntKind.i64.wrap ((IntKind.i64.wrap (a35.2.1 - 1)) - (IntKind.i64.wrap (shrOp .u64 (IntKind.u64.wrap (IntKind.i64.wrap (a37.1 + a37.2))) 1)))).toNat) < l0.length) <| need ((0:Int)≤(IntKind.i64.wrap (shrOp .u64 (IntKind.u64.wrap (IntKind.i64.wrap (a37.1 + a37.2))) 1))∧(IntKind.i64.wrap (shrOp .u64 (IntKind.u64.wrap (IntKind.i64.wrap (a37.1 + a37.2))) 1)) < (l0.length:Int)) <| need ((0 + (IntKind.i64.wrap (shrOp .u64 (IntKind.u64.wrap (IntKind.i64.wrap (a37.1 + a37.2))) 1)).toNat) < l0.length) <| (cmp (l0.getD (0 + (IntKind.i64.wrap ((IntKind.i64.wrap (a35.2.1 - 1)) - (IntKind.i64.wrap (shrOp .u64 (IntKind.u64.wrap (IntKind.i64.wrap (a37.1 + a37.2))) 1)))).toNat) default) (l0.getD (0 + (IntKind.i64.wrap (shrOp .u64 (IntKind.u64.wrap (IntKind.i64.wrap (a37.1 + a37.2))) 1)).toNat) default)).bind fun r58=>bf (!(decide (r58 < 0))) (some (.next ((IntKind.i64.wrap ((IntKind.i64.wrap (shrOp .u64 (IntKind.u64.wrap (IntKind.i64.wrap (a37.1 + a37.2))) 1)) + 1)),a37.2))) (some (.next (a37.1,(IntKind.i64.wrap (shrOp .u64 (IntKind.u64.wrap (IntKind.i64.wrap (a37.1 + a37.2))) 1)))))) (some (.brk (a37.1,a37.2)))) fuel (a35.2.2.1,a35.2.2.2)) (fun (a38:Int × Int)=>jn (fun (a39:Int × (List α))=>jn (fun (a41:List α)=>jn (fun (a43:Bool)=>bf a43 ((symG cmp fuel a35.1 a39.1 p3 a41).bind fun r45=>some r45) (some a41)) fun j44=>bf (decide (a35.1 < a39.1)) (j44 (decide (a39.1 < p3))) (j44 false)) fun j42=>jn (fun (a46:Bool)=>bf a46 ((symG cmp fuel p1 a38.1 a35.1 a39.2).bind fun r48=>need (r48.length=a39.2.length) <| j42 r48) (j42 a39.2)) fun j47=>bf (decide (p1 < a38.1)) (j47 (decide (a38.1 < a35.1))) (j47 false)) fun j40=>jn (fun (a50:Int × Bool)=>bf a50.2 ((rotG fuel a38.1 p2 a50.1 l0).bind fun r52=>need (r52.length=l0.length) <| j40 (a50.1,r52)) (j40 (a50.1,l0))) fun j51=>bf (decide (a38.1 < p2)) (j51 ((IntKind.i64.wrap (a35.2.1 - a38.1)),(decide (p2 < (IntKind.i64.wrap (a35.2.1 - a38.1)))))) (j51 ((IntKind.i64.wrap (a35.2.1 - a38.1)),false))) (fun (x:Empty)=>x.elim)) fun j36=>bf (decide ((IntKind.i64.wrap (shrOp .u64 (IntKind.u64.wrap (IntKind.i64.wrap (p1 + p3))) 1)) < p2)) (j36 ((IntKind.i64.wrap (shrOp .u64 (IntKind.u64.wrap (IntKind.i64.wrap (p1 + p3))) 1)),(IntKind.i64.wrap ((IntKind.i64.wrap (shrOp .u64 (IntKind.u64.wrap (IntKind.i64.wrap (p1 + p3))) 1)) + p2)),(IntKind.i64.wrap ((IntKind.i64.wrap ((IntKind.i64.wrap (shrOp .u64 (IntKind.u64.wrap (IntKind.i64.wrap (p1 + p3))) 1)) + p2)) - p3)),(IntKind.i64.wrap (shrOp .u64 (IntKind.u64.wrap (IntKind.i64.wrap (p1 + p3))) 1)))) (j36 ((IntKind.i64.wrap (shrOp .u64 (IntKind.u64.wrap (IntKind.i64.wrap (p1 + p3))) 1)),(IntKind.i64.wrap ((IntKind.i64.wrap (shrOp .u64 (IntKind.u64.wrap (IntKind.i64.wrap (p1 + p3))) 1)) + p2)),p1,p2))))
def stabG (cmp : α → α → Option Int) (fuel:Nat) (p1:Int) (l0:List α):Option (List α) :=
 outK (loopN (S:=Int × Int × (List α)) (R:=Empty) (fun (a1:Int × Int × (List α))=>bf (decide (a1.2.1≤p1)) ((insG cmp fuel a1.1 a1.2.1 a1.2.2).bind fun r15=>need (r15.length=a1.2.2.length) <| some (.next (a1.2.1,(IntKind.i64.wrap (a1.2.1 + 20)),r15))) (some (.brk (a1.1,a1.2.1,a1.2.2)))) fuel (0,20,l0)) (fun (a2:Int × Int × (List α))=>(insG cmp fuel a2.1 p1 a2.2.2).bind fun r3=>need (r3.length=a2.2.2.length) <| outK (loopN (S:=Int × (List α)) (R:=Empty) (fun (a5:Int × (List α))=>bf (decide (a5.1 < p1)) (outK (loopN (S:=Int × Int × (List α)) (R:=Empty) (fun (a7:Int × Int × (List α))=>bf (decide (a7.2.1≤p1)) ((symG cmp fuel a7.1 (IntKind.i64.wrap (a7.1 + a5.1)) a7.2.1 a7.2.2).bind fun r13=>need (r13.length=a7.2.2.length) <| some (.next (a7.2.1,(IntKind.i64.wrap (a7.2.1 + (IntKind.i64.wrap ((2:Int) * a5.1)))),r13))) (some (.brk (a7.1,a7.2.1,a7.2.2)))) fuel (0,(IntKind.i64.wrap ((2:Int) * a5.1)),a5.2)) (fun (a8:Int × Int × (List α))=>jn (fun (a9:List α)=>some (.next ((IntKind.i64.wrap (a5.1 * 2)),a9))) fun j10=>bf (decide ((IntKind.i64.wrap (a8.1 + a5.1)) < p1)) ((symG cmp fuel a8.1 (IntKind.i64.wrap (a8.1 + a5.1)) p1 a8.2.2).bind fun r11=>need (r11.length=a8.2.2.length) <| j10 r11) (j10 a8.2.2)) (fun (x:Empty)=>x.elim)) (some (.brk (a5.1,a5.2)))) fuel (20,r3)) (fun (a6:Int × (List α))=>some a6.2) (fun (x:Empty)=>x.elim)) (fun (x:Empty)=>x.elim)
end
end Go.Av
namespace Go.Av
open Go
set_option linter.unusedVariables false
set_option linter.unusedSimpArgs false
section
variable {α:Type} [Inhabited α]
theorem z1n (d:Array α) (j:Nat):d.toList.getD j default=d[j]!:=by
 rw [List.getD_eq_getElem?_getD,Array.getElem?_toList,getElem!_def]
 cases d[j]? <;> rfl
theorem z2m (d:Array α) (i j:Nat):(d.toList.set i d[j]!).set j d[i]! = (Sort.swp d i j).toList:=by
 unfold Sort.swp
 rw [Array.toList_setIfInBounds,Array.toList_setIfInBounds]
theorem z10 (d:Array α) (i j:Nat):(Sort.swp d i j).size=d.size:=by unfold Sort.swp; simp
theorem wsub1 {j:Nat} (h1:1≤j) (h:j < 4611686018427387904):IntKind.i64.wrap ((j:Int) - 1)=((j - 1:Nat):Int):=by
 rw [z1w (by omega) (by omega)]; omega
theorem wadd1 {j:Nat} (h:j < 4611686018427387904):IntKind.i64.wrap ((j:Int) + 1)=((j + 1:Nat):Int):=by
 rw [z1w (by omega) (by omega)]; omega
theorem wsub {i j:Nat} (h1:j≤i) (h:i < 4611686018427387904):IntKind.i64.wrap ((i:Int) - (j:Int))=((i - j:Nat):Int):=by
 rw [z1w (by omega) (by omega)]; omega
theorem wadd {i j:Nat} (h:i + j < 4611686018427387904):IntKind.i64.wrap ((i:Int) + (j:Int))=((i + j:Nat):Int):=by
 rw [z1w (by omega) (by omega)]; omega
theorem wtwo {i:Nat} (h:2 * i < 4611686018427387904):IntKind.i64.wrap ((2:Int) * (i:Int))=((2 * i:Nat):Int):=by
 rw [z1w (by omega) (by omega)]; omega
theorem intle {i j:Nat}:((i:Int)≤(j:Int))=(i≤j):=propext (by omega)
theorem intlt {i j:Nat}:((i:Int) < (j:Int))=(i < j):=propext (by omega)
theorem z1c {S R:Type} {B:S→Option (Ctl S R)} {fuel:Nat} {s s' : S} (h:B s=some (.next s')):loopN B (fuel + 1) s=loopN B fuel s':=by rw [loopN,h]
theorem z0x {S R:Type} {B:S→Option (Ctl S R)} {fuel:Nat} {s s' : S} (h:B s=some (.brk s')):loopN B (fuel + 1) s=some (.done s'):=by rw [loopN,h]
theorem z6q {S R:Type} {B:S→Option (Ctl S R)} {fuel:Nat} {s:S} {r:R} (h:B s=some (.ret r)):loopN B (fuel + 1) s=some (.ret r):=by rw [loopN,h]
theorem z64 {X Y R Q:Type} {o:Option (Out (X × Y) R)} {kn:X × Y→Option Q} {kr:R→Option Q} {r:Y} {q:Option Q} (h:∃ x:X,o=some (.done (x,r))) (hk:∀ x,kn (x,r)=q):outK o kn kr=q:=by
 obtain ⟨x,h⟩:=h
 rw [h]
 exact hk x
end
end Go.Av
namespace Go.Av
open Go
set_option linter.unusedVariables false
set_option linter.unusedSimpArgs false
section
variable {α:Type} [Inhabited α]
theorem zi2 (d:Array α) {i j:Nat} (hi:i < d.size) (hj:j < d.size) (k:Nat):(Sort.swp d i j)[k]! = if k=j then d[i]! else if k=i then d[j]! else d[k]!:=Sort.swp_get d hi hj k
def swpN (p q:Nat):Nat→Array α → Array α
 | 0,d=>d
 | k + 1,d=>Sort.swp (swpN p q k d) (p + k) (q + k)
theorem z5b (p q:Nat):∀ (n:Nat) (d:Array α),(swpN p q n d).size=d.size
 | 0,d=>rfl
 | k + 1,d=>by unfold swpN; rw [z10,z5b p q k]
def srF (p q n:Nat) (d:Array α) (x:Nat) : α:=if p≤x∧x < p + n then d[x - p + q]! else if q≤x∧x < q + n then d[x - q + p]! else d[x]!
theorem zbn {p q:Nat} {d:Array α}:∀ {n:Nat},(p + n≤q∨q + n≤p)→p + n≤d.size→q + n≤d.size→∀ x,(swpN p q n d)[x]! = srF p q n d x
 | 0,_,_,_,x=>by
  unfold swpN srF
  rw [if_neg (by omega),if_neg (by omega)]
 | k + 1,h,hp,hq,x=>by
  have ih:=zbn (p:=p) (q:=q) (d:=d) (n:=k) (by omega) (by omega) (by omega)
  unfold swpN
  rw [zi2 _ (by rw [z5b]; omega) (by rw [z5b]; omega),ih,ih,ih]
  unfold srF
  by_cases h1:x=q + k
  ·subst h1
   rw [if_pos rfl,if_neg (by omega),if_neg (by omega),if_neg (by omega),if_pos (by omega)]
   congr 1; omega
  ·rw [if_neg h1]
   by_cases h2:x=p + k
   ·subst h2
    rw [if_pos rfl,if_neg (by omega),if_neg (by omega),if_pos (by omega)]
    congr 1; omega
   ·rw [if_neg h2]
    by_cases h3:p≤x∧x < p + k
    ·rw [if_pos h3,if_pos (by omega)]
    ·rw [if_neg h3,if_neg (show ¬ (p≤x∧x < p + (k + 1)) by omega)]
     by_cases h4:q≤x∧x < q + k
     ·rw [if_pos h4,if_pos (by omega)]
     ·rw [if_neg h4,if_neg (by omega)]
theorem zah {p q a b:Nat} {d:Array α} (hb:b≤d.size):∀ {n:Nat},a≤p→a≤q→p + n≤b→q + n≤b→Sort.PermIn a b d (swpN p q n d)
 | 0,_,_,_,_=>Sort.permIn_refl d a b
 | k + 1,h1,h2,h3,h4=>by
  unfold swpN
  exact Sort.permIn_trans _ _ _ a b (zah hb h1 h2 (by omega) (by omega)) (Sort.swp_permIn _ a b _ _ (by omega) (by omega) (by omega) (by omega) (by rw [z5b]; exact hb))
theorem zkq {R:Type} {B:Int × List α → Option (Ctl (Int × List α) R)} {p q n fuel:Nat} {d:Array α} (hf:n < fuel)
  (hB:∀ (i:Nat) (d' : Array α),d'.size=d.size→i≤n→B ((i:Int),d'.toList)=if i < n then some (.next (((i + 1:Nat):Int),(Sort.swp d' (p + i) (q + i)).toList)) else some (.brk ((i:Int),d'.toList))) :
  ∃ x:Int,loopN B fuel ((0:Int),d.toList)=some (.done (x,(swpN p q n d).toList)):=by
 have key:∀ k i fuel,i + k=n→k < fuel→∃ x:Int,loopN B fuel ((i:Int),(swpN p q i d).toList)=some (.done (x,(swpN p q n d).toList)):=by
  intro k
  induction k with
  | zero =>
   intro i fuel hi hf
   cases fuel with
   | zero=>omega
   | succ fuel =>
    have h:=hB i (swpN p q i d) (z5b ..) (by omega)
    rw [if_neg (by omega)] at h
    rw [z0x h,show i=n by omega]
    exact ⟨_,rfl⟩
  | succ k ih =>
   intro i fuel hi hf
   cases fuel with
   | zero=>omega
   | succ fuel =>
    have h:=hB i (swpN p q i d) (z5b ..) (by omega)
    rw [if_pos (by omega)] at h
    rw [z1c h]
    exact ih (i + 1) fuel (by omega) (by omega)
 exact key n 0 fuel (by omega) hf
def rotF (a m b:Nat) (d:Array α) (x:Nat) : α:=if a≤x∧x < a + (b - m) then d[x - a + m]! else if a + (b - m)≤x∧x < b then d[x - (a + (b - m)) + a]! else d[x]!
structure RotTo (a m b:Nat) (d d' : Array α):Prop where
 perm:Sort.PermIn a b d d'
 get:∀ x,d'[x]! = rotF a m b d x
theorem zle {m i j:Nat} {d:Array α} (him:i≤m) (hij:j < i) (x:Nat) (d' : Array α) (hd' : ∀ x,d'[x]! = srF (m - i) m j d x):rotF (m - i + j) m (m + j) d' x=rotF (m - i) m (m + j) d x:=by
 unfold rotF
 rw [hd',hd',hd']
 unfold srF
 repeat' split
 all_goals first | omega | (congr 1; done) | (congr 1; omega)
theorem zkl {m i j:Nat} {d:Array α} (him:i≤m) (hij:i < j) (x:Nat) (d' : Array α) (hd' : ∀ x,d'[x]! = srF (m - i) (m + j - i) i d x):rotF (m - i) m (m + j - i) d' x=rotF (m - i) m (m + j) d x:=by
 unfold rotF
 rw [hd',hd',hd']
 unfold srF
 repeat' split
 all_goals first | omega | (congr 1; done) | (congr 1; omega)
theorem zlm {m i:Nat} {d:Array α} (him:i≤m) (x:Nat):srF (m - i) m i d x=rotF (m - i) m (m + i) d x:=by
 unfold rotF srF
 repeat' split
 all_goals first | omega | (congr 1; done) | (congr 1; omega)
theorem zlj {R:Type} {B:Int × Int × List α → Option (Ctl (Int × Int × List α) R)} {m a b:Nat} {d0:Array α} (hb:b≤d0.size):∀ (n i j fuel:Nat) (d:Array α),i + j≤n→n < fuel→1≤i→1≤j→a≤m - i→i≤m→m + j≤b→d.size=d0.size →
  (∀ (i j:Nat) (d' : Array α),d'.size=d0.size→1≤i→1≤j→i≤m→m + j≤b→B ((i:Int),(j:Int),d'.toList)=if i=j then some (.brk ((i:Int),(j:Int),d'.toList)) else if j < i then some (.next (((i - j:Nat):Int),(j:Int),(swpN (m - i) m j d').toList)) else some (.next ((i:Int),((j - i:Nat):Int),(swpN (m - i) (m + j - i) i d').toList))) →
  ∃ (k:Nat) (d' : Array α),loopN B fuel ((i:Int),(j:Int),d.toList)=some (.done ((k:Int),(k:Int),d'.toList))∧1≤k∧k≤i∧k≤j∧d'.size=d.size∧Sort.PermIn a b d d' ∧ ∀ x,rotF (m - k) m (m + k) d' x=rotF (m - i) m (m + j) d x:=by
 intro n
 induction n with
 | zero=>intro i j fuel d hn hf h1 h2; omega
 | succ n ih =>
  intro i j fuel d hn hf h1 h2 h3 h4 h5 h6 hB
  cases fuel with
  | zero=>omega
  | succ fuel =>
   have h:=hB i j d h6 h1 h2 h4 h5
   by_cases e:i=j
   ·rw [if_pos e] at h
    subst e
    exact ⟨i,d,z0x h,h1,Nat.le_refl _,Nat.le_refl _,rfl,Sort.permIn_refl d a b,fun x=>rfl⟩
   ·rw [if_neg e] at h
    by_cases hl:j < i
    ·rw [if_pos hl] at h
     obtain ⟨k,d',g1,g2,g3,g4,g5,g6,g7⟩:=ih (i - j) j fuel (swpN (m - i) m j d) (by omega) (by omega) (by omega) h2 (by omega) (by omega) h5 (by rw [z5b]; exact h6) hB
     refine ⟨k,d',by rw [z1c h,g1],g2,by omega,g4,by rw [g5,z5b],Sort.permIn_trans _ _ _ a b (zah (by omega) (by omega) (by omega) (by omega) (by omega)) g6,fun x => ?_⟩
     rw [g7]
     have:=zle (m:=m) (i:=i) (j:=j) (d:=d) h4 hl x (swpN (m - i) m j d) (zbn (by omega) (by omega) (by omega))
     rw [show m - (i - j)=m - i + j by omega]
     exact this
    ·rw [if_neg hl] at h
     obtain ⟨k,d',g1,g2,g3,g4,g5,g6,g7⟩:=ih i (j - i) fuel (swpN (m - i) (m + j - i) i d) (by omega) (by omega) h1 (by omega) h3 h4 (by omega) (by rw [z5b]; exact h6) hB
     refine ⟨k,d',by rw [z1c h,g1],g2,g3,by omega,by rw [g5,z5b],Sort.permIn_trans _ _ _ a b (zah (by omega) (by omega) (by omega) (by omega) (by omega)) g6,fun x => ?_⟩
     rw [g7]
     have:=zkl (m:=m) (i:=i) (j:=j) (d:=d) h4 (by omega) x (swpN (m - i) (m + j - i) i d) (zbn (by omega) (by omega) (by omega))
     rw [show m + (j - i)=m + j - i by omega]
     exact this
end
end Go.Av
namespace Go.Av
open Go
set_option linter.unusedVariables false
set_option linter.unusedSimpArgs false
section
variable {α:Type} [Inhabited α]
theorem znf {R:Type} {B:Int × Int→Option (Ctl (Int × Int) R)} {P:Nat→Bool} {i0 j0:Nat}:∀ (n i j fuel:Nat),j - i≤n→n < fuel→i0≤i→i≤j→j≤j0→(i=i0∨P (i - 1)=true)→(j=j0∨P j=false) →
  (∀ i j:Nat,i0≤i→i≤j→j≤j0→B ((i:Int),(j:Int))=if i < j then (if P ((i + j) / 2)=true then some (.next ((((i + j) / 2 + 1:Nat):Int),(j:Int))) else some (.next ((i:Int),(((i + j) / 2:Nat):Int)))) else some (.brk ((i:Int),(j:Int)))) →
  ∃ r:Nat,loopN B fuel ((i:Int),(j:Int))=some (.done ((r:Int),(r:Int)))∧i0≤r∧r≤j0∧(r=i0∨P (r - 1)=true)∧(r=j0∨P r=false):=by
 intro n
 induction n with
 | zero =>
  intro i j fuel hn hf h1 h2 h3 h4 h5 hB
  cases fuel with
  | zero=>omega
  | succ fuel =>
   have h:=hB i j h1 h2 h3
   rw [if_neg (by omega)] at h
   have:i=j:=by omega
   subst this
   exact ⟨i,z0x h,h1,h3,h4,h5⟩
 | succ n ih =>
  intro i j fuel hn hf h1 h2 h3 h4 h5 hB
  cases fuel with
  | zero=>omega
  | succ fuel =>
   have h:=hB i j h1 h2 h3
   by_cases hl:i < j
   ·rw [if_pos hl] at h
    by_cases hp:P ((i + j) / 2)=true
    ·rw [if_pos hp] at h
     rw [z1c h]
     exact ih _ j fuel (by omega) (by omega) (by omega) (by omega) h3 (.inr (by rw [Nat.add_sub_cancel]; exact hp)) h5 hB
    ·rw [if_neg hp] at h
     rw [z1c h]
     exact ih i _ fuel (by omega) (by omega) h1 (by omega) (by omega) h4 (.inr (by simpa using hp)) hB
   ·rw [if_neg hl] at h
    have:i=j:=by omega
    subst this
    exact ⟨i,z0x h,h1,h3,h4,h5⟩
variable {lt : α → α → Bool}
theorem glue2 {a mid b:Nat} {d:Array α} (h1:Sort.SortedIn lt a mid d) (h2:Sort.SortedIn lt mid b d) (hx:∀ x y,a≤x→x < mid→mid≤y→y < b→lt d[y]! d[x]! = false):Sort.SortedIn lt a b d:=by
 intro i j hi hij hj
 by_cases h3:j < mid
 ·exact h1 i j hi hij h3
 ·by_cases h4:mid≤i
  ·exact h2 i j h4 hij hj
  ·exact hx i j hi (by omega) (by omega) hj
theorem zcv (hS:Sort.SWO lt) {a m b s e:Nat} {d d' : Array α} (h1:Sort.SortedIn lt a m d) (h2:Sort.SortedIn lt m b d) (hs:a≤s∧s≤m) (he:m≤e∧e≤b) (hr:∀ x,d'[x]! = rotF s m e d x)
  (hA:s=a∨e=b∨lt d[e]! d[s - 1]! = false) (hB:s=m∨e=m∨lt d[e - 1]! d[s]! = true) :
  (∀ x y,a≤x→x < s + (e - m)→s + (e - m)≤y→y < b→lt d'[y]! d'[x]! = false)∧Sort.SortedIn lt a s d' ∧ Sort.SortedIn lt s (s + (e - m)) d' ∧ Sort.SortedIn lt (s + (e - m)) e d' ∧ Sort.SortedIn lt e b d':=by
 -- where each one comes from
 have f1:∀ x,x < s→d'[x]! = d[x]!:=fun x hx=>by rw [hr]; unfold rotF; rw [if_neg (by omega),if_neg (by omega)]
 have f2:∀ x,s≤x→x < s + (e - m)→d'[x]! = d[x - s + m]!:=fun x hx hy=>by rw [hr]; unfold rotF; rw [if_pos (by omega)]
 have f3:∀ x,s + (e - m)≤x→x < e→d'[x]! = d[x - (s + (e - m)) + s]!:=fun x hx hy=>by rw [hr]; unfold rotF; rw [if_neg (by omega),if_pos (by omega)]
 have f4:∀ x,e≤x→d'[x]! = d[x]!:=fun x hx=>by rw [hr]; unfold rotF; rw [if_neg (by omega),if_neg (by omega)]
 have le1:∀ x y,a≤x→x≤y→y < m→lt d[y]! d[x]! = false:=fun x y g1 g2 g3=>by
  by_cases g:x=y
  ·subst g; exact hS.irrefl _
  ·exact h1 x y g1 (by omega) g3
 have le2:∀ x y,m≤x→x≤y→y < b→lt d[y]! d[x]! = false:=fun x y g1 g2 g3=>by
  by_cases g:x=y
  ·subst g; exact hS.irrefl _
  ·exact h2 x y g1 (by omega) g3
 refine ⟨?_,?_,?_,?_,?_⟩
 ·intro x y hx1 hx2 hy1 hy2
  by_cases c1:x < s
  ·rw [f1 x c1]
   by_cases c2:y < e
   ·rw [f3 y hy1 c2]
    exact le1 _ _ hx1 (by omega) (by omega)
   ·rw [f4 y (by omega)]
    rcases hA with h | h | h
    ·omega
    ·omega
    ·exact hS.ntrans _ _ _ (hS.ntrans _ _ _ (le2 e y (by omega) (by omega) hy2) h) (le1 x (s - 1) hx1 (by omega) (by omega))
  ·rw [f2 x (by omega) hx2]
   by_cases c2:y < e
   ·rw [f3 y hy1 c2]
    rcases hB with h | h | h
    ·omega
    ·omega
    ·exact hS.ntrans _ _ _ (hS.ntrans _ _ _ (le1 s _ hs.1 (by omega) (by omega)) (hS.asymm h)) (le2 (x - s + m) (e - 1) (by omega) (by omega) (by omega))
   ·rw [f4 y (by omega)]
    exact le2 _ _ (by omega) (by omega) hy2
 ·intro i j hi hij hj
  rw [f1 i (by omega),f1 j hj]
  exact h1 i j hi hij (by omega)
 ·intro i j hi hij hj
  rw [f2 i hi (by omega),f2 j (by omega) hj]
  exact h2 _ _ (by omega) (by omega) (by omega)
 ·intro i j hi hij hj
  rw [f3 i hi (by omega),f3 j (by omega) hj]
  exact h1 _ _ (by omega) (by omega) (by omega)
 ·intro i j hi hij hj
  rw [f4 i hi,f4 j (by omega)]
  exact h2 i j (by omega) hij hj
structure MergeTo (lt : α → α → Bool) (a b:Nat) (d d' : Array α):Prop where
 perm:Sort.PermIn a b d d'
 sorted:Sort.SortedIn lt a b d'
theorem zha (hS:Sort.SWO lt) {a mid b:Nat} {d d1 d2 d3:Array α} (hab:a≤mid∧mid≤b) (hb:b≤d.size) (hp:Sort.PermIn a b d d1)
  (hx:∀ x y,a≤x→x < mid→mid≤y→y < b→lt d1[y]! d1[x]! = false) (h2:MergeTo lt a mid d1 d2) (h3:MergeTo lt mid b d2 d3):MergeTo lt a b d d3:=by
 have s1:d1.size=d.size:=hp.1
 have s2:d2.size=d1.size:=h2.perm.1
 have p2:Sort.PermIn a b d1 d2:=Sort.permIn_mono _ _ a mid a b (Nat.le_refl _) hab.2 (by omega) h2.perm
 have p3:Sort.PermIn a b d2 d3:=Sort.permIn_mono _ _ mid b a b hab.1 (Nat.le_refl _) (by omega) h3.perm
 refine ⟨Sort.permIn_trans _ _ _ a b hp (Sort.permIn_trans _ _ _ a b p2 p3),glue2 (mid:=mid) ?_ h3.sorted ?_⟩
 ·intro i j hi hij hj
  rw [h3.perm.2.1 i (.inl (by omega)),h3.perm.2.1 j (.inl hj)]
  exact h2.sorted i j hi hij hj
 ·have c1:∀ x y,a≤x→x < mid→mid≤y→y < b→lt d2[y]! d2[x]! = false:=fun x y g1 g2 g3 g4=>by
   rw [h2.perm.2.1 y (.inr g3)]
   exact Sort.permIn_all d1 d2 a mid (fun z=>lt d1[y]! z=false) (by omega) h2.perm (fun i k1 k2=>hx i y k1 k2 g3 g4) x g1 g2
  intro x y g1 g2 g3 g4
  rw [h3.perm.2.1 x (.inl g2)]
  exact Sort.permIn_all d2 d3 mid b (fun z=>lt z d2[x]! = false) (by omega) h3.perm (fun i k1 k2=>c1 x i g1 g2 k1 k2) y g3 g4
theorem z92 {a b:Nat} {d:Array α} (h:Sort.SortedIn lt a b d):MergeTo lt a b d d:=⟨Sort.permIn_refl d a b,h⟩
theorem z6r {a b:Nat} {d:Array α} (h:b≤a + 1):Sort.SortedIn lt a b d:=fun i j h1 h2 h3=>by omega
end
end Go.Av
namespace Go.Av
open Go
set_option linter.unusedVariables false
set_option linter.unusedSimpArgs false
section
variable {α:Type} [Inhabited α] {cmp : α → α → Option Int} {c : α → α → Int}
def ltC (c : α → α → Int) (x y : α):Bool:=decide (c x y < 0)
theorem zla {a fuel:Nat} {B:Int × List α → Option (Ctl (Int × List α) Empty)} {j:Nat} {d:Array α} (hj:j < d.size) (hf:j < fuel)
  (hB:∀ (j:Nat) (d' : Array α),j < d'.size→d'.size=d.size→B ((j:Int),d'.toList)=if a < j∧ltC c d'[j]! d'[j - 1]! = true then some (.next (((j - 1:Nat):Int),(Sort.swp d' j (j - 1)).toList)) else some (.brk ((j:Int),d'.toList))) :
  ∃ x:Int,loopN B fuel ((j:Int),d.toList)=some (.done (x,(Sort.insInner (ltC c) a j d).toList)):=by
 induction j generalizing d fuel with
 | zero =>
  cases fuel with
  | zero=>omega
  | succ fuel =>
   refine ⟨0,z0x (s':=(((0:Nat):Int),d.toList)) ?_⟩
   rw [hB 0 d hj rfl,if_neg (by omega)]
 | succ j ih =>
  cases fuel with
  | zero=>omega
  | succ fuel =>
   have h:=hB (j + 1) d hj rfl
   rw [Nat.add_sub_cancel] at h
   unfold Sort.insInner
   by_cases hc:a < j + 1∧ltC c d[j + 1]! d[j]! = true
   ·rw [if_pos hc] at h
    rw [z1c h,if_pos (by simp [hc.1,hc.2])]
    exact ih (by rw [z10]; omega) (by omega) (fun k d' h1 h2=>hB k d' h1 (by rw [h2,z10]))
   ·rw [if_neg hc] at h
    rw [z0x h,if_neg (by simpa using hc)]
    exact ⟨_,rfl⟩
theorem zl4 {a b fuel:Nat} {B:Int × List α → Option (Ctl (Int × List α) Empty)} {n i:Nat} {d:Array α} (hn:b - i=n) (hb:b≤d.size) (hf:b - i < fuel)
  (hB:∀ (i:Nat) (d' : Array α),d'.size=d.size→B ((i:Int),d'.toList)=if i < b then some (.next (((i + 1:Nat):Int),(Sort.insInner (ltC c) a i d').toList)) else some (.brk ((i:Int),d'.toList)))
  (hs:∀ (i:Nat) (d' : Array α),(Sort.insInner (ltC c) a i d').size=d'.size) :
  ∃ x:Int,loopN B fuel ((i:Int),d.toList)=some (.done (x,(Sort.insOuter (ltC c) a b i d).toList)):=by
 induction n generalizing i d fuel with
 | zero =>
  cases fuel with
  | zero=>omega
  | succ fuel =>
   have h:=hB i d rfl
   rw [if_neg (by omega)] at h
   rw [z0x h,Sort.insOuter,if_neg (by omega)]
   exact ⟨_,rfl⟩
 | succ n ih =>
  cases fuel with
  | zero=>omega
  | succ fuel =>
   have h:=hB i d rfl
   rw [if_pos (by omega)] at h
   rw [z1c h,Sort.insOuter,if_pos (by omega)]
   exact ih (by omega) (by rw [hs]; omega) (by omega) (fun k d' h1=>hB k d' (by rw [h1,hs]))
theorem zcx (a:Nat):∀ (j:Nat) (d:Array α),(Sort.insInner (ltC c) a j d).size=d.size
 | 0,d=>rfl
 | j + 1,d=>by
  unfold Sort.insInner
  split
  ·rw [zcx a j,z10]
  ·rfl
theorem zj3 (hc:∀ x y,cmp x y=some (c x y)) {fuel a b:Nat} {d:Array α} (hb:b≤d.size) (hd:d.size < 4611686018427387904) (ha:a < 4611686018427387903) (hf:d.size < fuel) :
  insG cmp fuel (a:Int) (b:Int) d.toList=some (Sort.insertionSort (ltC c) d a b).toList:=by
 unfold insG Sort.insertionSort
 rw [wadd1 (by omega)]
 refine z64 (zl4 (c:=c) (a:=a) (b:=b) (i:=a + 1) (d:=d) rfl hb (by omega) ?_ (zcx a)) (fun x=>rfl)
 intro i d' hd'
 simp only [z07,intlt]
 by_cases hi:i < b
 ·rw [if_pos hi,if_pos hi]
  refine z64 (zla (c:=c) (a:=a) (j:=i) (d:=d') (by omega) (by omega) ?_) (fun x => ?_)
  ·intro j e hj he
   simp only [jn_eq,z07,intlt]
   by_cases h1:a < j
   ·simp (disch:=omega) only [h1,if_true,wsub1,z06,Int.toNat_natCast,Nat.zero_add,Array.length_toList,List.length_set,hc,Option.bind_some,z1n,z2m,true_and]
    unfold ltC
    by_cases h2:c e[j]! e[j - 1]! < 0
    ·simp [h2]
    ·simp [h2]
   ·rw [if_neg h1,if_neg (fun h=>h1 h.1)]
    rfl
  ·rw [wadd1 (by omega)]
 ·rw [if_neg hi,if_neg hi]
theorem ze7 {fuel p q n:Nat} {d:Array α} (hp:p + n≤d.size) (hq:q + n≤d.size) (hd:d.size < 4611686018427387904) (hf:d.size < fuel) :
  swapG fuel (p:Int) (q:Int) (n:Int) d.toList=some (swpN p q n d).toList:=by
 unfold swapG
 refine z64 (zkq (p:=p) (q:=q) (n:=n) (d:=d) (by omega) ?_) (fun x=>rfl)
 intro i d' hd' hi
 simp only [z07,intlt]
 by_cases h:i < n
 ·rw [if_pos h,if_pos h]
  simp (disch:=omega) only [wadd,wadd1,z06,Int.toNat_natCast,Nat.zero_add,Array.length_toList,List.length_set,z1n,z2m]
 ·rw [if_neg h,if_neg h]
theorem zmz {fuel s m e:Nat} {d:Array α} (h1:s < m) (h2:m < e) (he:e≤d.size) (hd:d.size < 4611686018427387904) (hf:d.size < fuel) :
  ∃ d' : Array α,rotG fuel (s:Int) (m:Int) (e:Int) d.toList=some d'.toList∧RotTo s m e d d':=by
 obtain ⟨k,d1,g1,g2,g3,g4,g5,g6,g7⟩:=zlj (R:=Empty) (m:=m) (a:=s) (b:=e) (d0:=d) he (m - s + (e - m)) (m - s) (e - m) fuel d (Nat.le_refl _) (by omega) (by omega) (by omega) (by omega) (by omega) (by omega) rfl
  (B:=fun (a1:Int × Int × (List α))=>bf (!decide (a1.1=a1.2.1)) (bf (decide (a1.2.1 < a1.1)) ((swapG fuel (IntKind.i64.wrap ((m:Int) - a1.1)) (m:Int) a1.2.1 a1.2.2).bind fun r4=>need (r4.length=a1.2.2.length) <| some (.next ((IntKind.i64.wrap (a1.1 - a1.2.1)),a1.2.1,r4))) ((swapG fuel (IntKind.i64.wrap ((m:Int) - a1.1)) (IntKind.i64.wrap ((IntKind.i64.wrap ((m:Int) + a1.2.1)) - a1.1)) a1.1 a1.2.2).bind fun r6=>need (r6.length=a1.2.2.length) <| some (.next (a1.1,(IntKind.i64.wrap (a1.2.1 - a1.1)),r6)))) (some (.brk (a1.1,a1.2.1,a1.2.2))))
  (by
   intro i j d' hs hi hj him hjb
   simp only [z47,z07,intlt]
   by_cases h:i=j
   ·subst h
    rw [if_pos rfl,if_pos rfl]
   ·rw [if_neg (by omega),if_neg h]
    by_cases h3:j < i
    ·rw [if_pos h3,if_pos h3]
     rw [wsub (by omega) (by omega),wsub (by omega) (by omega),ze7 (by omega) (by omega) (by omega) (by omega)]
     simp only [Option.bind_some]
     rw [z06 (by simp [z5b])]
    ·rw [if_neg h3,if_neg h3]
     rw [wsub (by omega) (by omega),wadd (by omega),wsub (by omega) (by omega),wsub (by omega) (by omega),ze7 (by omega) (by omega) (by omega) (by omega)]
     simp only [Option.bind_some]
     rw [z06 (by simp [z5b])])
 refine ⟨swpN (m - k) m k d1,?_,Sort.permIn_trans _ _ _ s e g6 (zah (by omega) (by omega) (by omega) (by omega) (by omega)),fun x => ?_⟩
 ·unfold rotG
  rw [wsub (by omega) (by omega),wsub (by omega) (by omega)]
  rw [g1]
  simp only [z3q]
  rw [wsub (by omega) (by omega),ze7 (by omega) (by omega) (by omega) (by omega)]
  rfl
 ·rw [zbn (by omega) (by omega) (by omega),zlm (by omega),g7]
  congr 1 <;> omega
end
end Go.Av
namespace Go.Av
open Go
set_option linter.unusedVariables false
set_option linter.unusedSimpArgs false
section
variable {α:Type} [Inhabited α] {cmp : α → α → Option Int} {c : α → α → Int}
theorem zdf {x y:Nat} (h:x + y < 4611686018427387904):IntKind.i64.wrap (shrOp .u64 (IntKind.u64.wrap (IntKind.i64.wrap ((x:Int) + (y:Int)))) 1)=(((x + y) / 2:Nat):Int):=by
 rw [wadd h,z8a,Int.emod_eq_of_lt (by omega) (by omega),show (1:Int)=((1:Nat):Int) from rfl,zaq .u64 (x + y) 1 (by decide),z1w (by omega) (by omega)]
def shR (a:Nat):Nat→Array α → Array α
 | 0,d=>d
 | k + 1,d=>Sort.swp (shR a k d) (a + k) (a + k + 1)
def shL (m:Nat):Nat→Array α → Array α
 | 0,d=>d
 | k + 1,d=>Sort.swp (shL m k d) (m - k) (m - k - 1)
theorem zau (a:Nat):∀ (k:Nat) (d:Array α),(shR a k d).size=d.size
 | 0,d=>rfl
 | k + 1,d=>by unfold shR; rw [z10,zau a k]
theorem zay (m:Nat):∀ (k:Nat) (d:Array α),(shL m k d).size=d.size
 | 0,d=>rfl
 | k + 1,d=>by unfold shL; rw [z10,zay m k]
theorem zip {a:Nat} {d:Array α}:∀ {k:Nat},a + k < d.size→∀ x,(shR a k d)[x]! = rotF a (a + 1) (a + 1 + k) d x
 | 0,h,x=>by
  unfold shR rotF
  repeat' split
  all_goals first | omega | rfl | (congr 1; omega)
 | k + 1,h,x=>by
  have ih:=zip (a:=a) (d:=d) (k:=k) (by omega)
  unfold shR
  rw [zi2 _ (by rw [zau]; omega) (by rw [zau]; omega),ih,ih,ih]
  unfold rotF
  repeat' split
  all_goals first | omega | rfl | (congr 1; omega)
theorem ziw {m:Nat} {d:Array α} (hm:m < d.size):∀ {k:Nat},k≤m→∀ x,(shL m k d)[x]! = rotF (m - k) m (m + 1) d x
 | 0,h,x=>by
  unfold shL rotF
  repeat' split
  all_goals first | omega | rfl | (congr 1; omega)
 | k + 1,h,x=>by
  have ih:=ziw (m:=m) (d:=d) hm (k:=k) (by omega)
  unfold shL
  rw [zi2 _ (by rw [zay]; omega) (by rw [zay]; omega),ih,ih,ih]
  unfold rotF
  repeat' split
  all_goals first | omega | rfl | (congr 1; omega)
theorem zhl {a b:Nat} {d:Array α} (hb:b≤d.size):∀ {k:Nat},a + k < b→Sort.PermIn a b d (shR a k d)
 | 0,_=>Sort.permIn_refl d a b
 | k + 1,h=>by
  unfold shR
  exact Sort.permIn_trans _ _ _ a b (zhl hb (by omega)) (Sort.swp_permIn _ a b _ _ (by omega) (by omega) (by omega) (by omega) (by rw [zau]; exact hb))
theorem zhr {a m b:Nat} {d:Array α} (hb:b≤d.size) (hm:m < b):∀ {k:Nat},a + k≤m→Sort.PermIn a b d (shL m k d)
 | 0,_=>Sort.permIn_refl d a b
 | k + 1,h=>by
  unfold shL
  exact Sort.permIn_trans _ _ _ a b (zhr hb hm (by omega)) (Sort.swp_permIn _ a b _ _ (by omega) (by omega) (by omega) (by omega) (by rw [zay]; exact hb))
theorem zlg {R:Type} {B:Int × List α → Option (Ctl (Int × List α) R)} {a n fuel:Nat} {d:Array α} (hf:n < fuel)
  (hB:∀ (i:Nat) (d' : Array α),d'.size=d.size→i≤n→B (((a + i:Nat):Int),d'.toList)=if i < n then some (.next (((a + i + 1:Nat):Int),(Sort.swp d' (a + i) (a + i + 1)).toList)) else some (.brk (((a + i:Nat):Int),d'.toList))) :
  ∃ x:Int,loopN B fuel ((a:Int),d.toList)=some (.done (x,(shR a n d).toList)):=by
 have key:∀ k i fuel,i + k=n→k < fuel→∃ x:Int,loopN B fuel (((a + i:Nat):Int),(shR a i d).toList)=some (.done (x,(shR a n d).toList)):=by
  intro k
  induction k with
  | zero =>
   intro i fuel hi hf
   cases fuel with
   | zero=>omega
   | succ fuel =>
    have h:=hB i (shR a i d) (zau ..) (by omega)
    rw [if_neg (by omega)] at h
    rw [z0x h,show i=n by omega]
    exact ⟨_,rfl⟩
  | succ k ih =>
   intro i fuel hi hf
   cases fuel with
   | zero=>omega
   | succ fuel =>
    have h:=hB i (shR a i d) (zau ..) (by omega)
    rw [if_pos (by omega)] at h
    rw [z1c h]
    exact ih (i + 1) fuel (by omega) (by omega)
 exact key n 0 fuel (by omega) hf
theorem zmc {R:Type} {B:Int × List α → Option (Ctl (Int × List α) R)} {m n fuel:Nat} {d:Array α} (hn:n≤m) (hf:n < fuel)
  (hB:∀ (i:Nat) (d' : Array α),d'.size=d.size→i≤n→B (((m - i:Nat):Int),d'.toList)=if i < n then some (.next (((m - i - 1:Nat):Int),(Sort.swp d' (m - i) (m - i - 1)).toList)) else some (.brk (((m - i:Nat):Int),d'.toList))) :
  ∃ x:Int,loopN B fuel ((m:Int),d.toList)=some (.done (x,(shL m n d).toList)):=by
 have key:∀ k i fuel,i + k=n→k < fuel→∃ x:Int,loopN B fuel (((m - i:Nat):Int),(shL m i d).toList)=some (.done (x,(shL m n d).toList)):=by
  intro k
  induction k with
  | zero =>
   intro i fuel hi hf
   cases fuel with
   | zero=>omega
   | succ fuel =>
    have h:=hB i (shL m i d) (zay ..) (by omega)
    rw [if_neg (by omega)] at h
    rw [z0x h,show i=n by omega]
    exact ⟨_,rfl⟩
  | succ k ih =>
   intro i fuel hi hf
   cases fuel with
   | zero=>omega
   | succ fuel =>
    have h:=hB i (shL m i d) (zay ..) (by omega)
    rw [if_pos (by omega)] at h
    rw [z1c h]
    have:=ih (i + 1) fuel (by omega) (by omega)
    rwa [show m - (i + 1)=m - i - 1 by omega] at this
 exact key n 0 fuel (by omega) hf
omit [Inhabited α] in
theorem zl2 (h:IsCmp c):Sort.SWO (ltC c) where
 irrefl x:=by unfold ltC; rw [h.refl]; rfl
 trans x y z h1 h2:=by
  unfold ltC at *
  simp only [decide_eq_true_eq] at *
  exact h.lt_tr h1 (by omega)
 ntrans x y z h1 h2:=by
  unfold ltC at *
  simp only [decide_eq_false_iff_not,Int.not_lt] at *
  have a1:=h.anti x y; have a2:=h.anti y z; have a3:=h.anti x z
  by_cases g:0≤c x z
  ·exact g
  ·exfalso
   have:=h.lt_tr (a:=x) (b:=z) (d:=y) (by omega) (by omega)
   omega
end
end Go.Av
namespace Go.Av
open Go
set_option linter.unusedVariables false
set_option linter.unusedSimpArgs false
section
variable {α:Type} [Inhabited α] {cmp : α → α → Option Int} {c : α → α → Int}
theorem zm3 {lt : α → α → Bool} (hS:Sort.SWO lt) {a b r:Nat} {d:Array α} (hr:a + 1≤r∧r≤b) (hb:b≤d.size) (h2:Sort.SortedIn lt (a + 1) b d)
  (hA:r=a + 1∨lt d[r - 1]! d[a]! = true) (hB:r=b∨lt d[r]! d[a]! = false):MergeTo lt a b d (shR a (r - (a + 1)) d):=by
 have hg:∀ x,(shR a (r - (a + 1)) d)[x]! = rotF a (a + 1) r d x:=fun x=>by
  rw [zip (by omega),show a + 1 + (r - (a + 1))=r by omega]
 obtain ⟨h3,_,h5,h6,h7⟩:=zcv hS (d':=shR a (r - (a + 1)) d) (a:=a) (m:=a + 1) (b:=b) (s:=a) (e:=r) (z6r (by omega)) h2 ⟨by omega,by omega⟩ hr hg (.inl rfl) (.inr hA)
 refine ⟨zhl hb (by omega),glue2 (mid:=a + (r - (a + 1))) h5 (glue2 (mid:=r) h6 h7 ?_) h3⟩
 intro x y g1 g2 g3 g4
 rw [hg,hg,show x=r - 1 by omega]
 unfold rotF
 rw [if_neg (by omega),if_neg (by omega),if_neg (by omega),if_pos (by omega)]
 rw [show r - 1 - (a + (r - (a + 1))) + a=a by omega]
 rcases hB with h | h
 ·omega
 ·by_cases e:y=r
  ·subst e; exact h
  ·exact hS.ntrans _ _ _ (h2 r y (by omega) (by omega) g4) h
theorem      zlr {lt : α → α → Bool} (hS : Sort.SWO lt) {a m r : Nat} {d : Array α} (hr : a ≤ r ∧ r ≤ m) (hb : m + 1 ≤ d.size) (h1 : Sort.SortedIn lt a m d)
    (hA : r = a ∨ lt d[m]! d[r - 1]! = false) (hB : r = m ∨ lt d[m]! d[r]! = true) : MergeTo lt a (m + 1) d (shL m (m - r) d) := by
  have hg : ∀ x, (shL m (m - r) d)[x]! = rotF r m (m + 1) d x := fun x => by
    rw [    ziw (by omega) (by omega), show m - (m - r) = r by omega]
  obtain ⟨h3, h4, h5, h6, h7⟩ :=       zcv hS (d' := shL m (m - r) d) (a := a) (m := m) (b := m + 1) (s := r) (e := m + 1) h1 (         z6r (by omega)) hr ⟨by omega, by omega⟩ hg (.inr (.inl rfl))
    (by rcases hB with h | h
        · exact .inl h
        · exact .inr (.inr (by rw [Nat.add_sub_cancel]; exact h)))
  refine ⟨     zhr hb (by omega) (by omega), glue2 (mid := r + (m + 1 - m)) (glue2 (mid := r) h4 h5 ?_) h6 h3⟩
  intro x y g1 g2 g3 g4
  rw [hg, hg, show y = r by omega]
  unfold rotF
  rw [if_pos (by omega), if_neg (by omega), if_neg (by omega)]
  rw [show r - r + m = m by omega]
  rcases hA with h | h
  · omega
  · by_cases e : x = r - 1
    · subst e; exact h
    · exact hS.ntrans _ _ _ h (h1 x (r - 1) g1 (by omega) (by omega))
theorem z9y {S R Q:Type} {G:Option Q→Prop} {P:S→Prop} {o:Option (Out S R)} {kn:S→Option Q} {kr:R→Option Q} (h:∃ s,o=some (.done s)∧P s) (hk:∀ s,P s→G (kn s)):G (outK o kn kr):=by
 obtain ⟨s,h,hp⟩:=h
 rw [h]
 exact hk s hp
theorem bs_ex {R:Type} {B:Int × Int→Option (Ctl (Int × Int) R)} {P:Nat→Bool} {Q:Int × Int→Prop} {i0 j0 fuel:Nat} (hf:j0 - i0 < fuel) (hij:i0≤j0)
  (hQ:∀ r:Nat,i0≤r→r≤j0→(r=i0∨P (r - 1)=true)→(r=j0∨P r=false)→Q ((r:Int),(r:Int)))
  (hB:∀ i j:Nat,i0≤i→i≤j→j≤j0→B ((i:Int),(j:Int))=if i < j then (if P ((i + j) / 2)=true then some (.next ((((i + j) / 2 + 1:Nat):Int),(j:Int))) else some (.next ((i:Int),(((i + j) / 2:Nat):Int)))) else some (.brk ((i:Int),(j:Int)))) :
  ∃ s,loopN B fuel ((i0:Int),(j0:Int))=some (.done s)∧Q s:=by
 obtain ⟨r,g1,g2,g3,g4,g5⟩:=znf (P:=P) (j0 - i0) i0 j0 fuel (Nat.le_refl _) hf (Nat.le_refl _) hij (Nat.le_refl _) (.inl rfl) (.inl rfl) hB
 exact ⟨_,g1,hQ r g2 g3 g4 g5⟩
theorem jn_P {A Q:Type} {G:Option Q→Prop} {P:A→Prop} {K:A→Option Q} {f:(A→Option Q)→Option Q} (hK:∀ a,P a→G (K a)) (hf:∃ a,P a∧f K=K a):G (jn K f):=by
 obtain ⟨a,h1,h2⟩:=hf
 rw [jn_eq,h2]
 exact hK a h1
theorem zd9 (hc:∀ x y,cmp x y=some (c x y)) (hC:IsCmp c):∀ (fuel a m b:Nat) (d:Array α),a < m→m < b→b≤d.size→d.size < 1152921504606846976→d.size + (b - a) < fuel →
  Sort.SortedIn (ltC c) a m d→Sort.SortedIn (ltC c) m b d→∃ d' : Array α,symG cmp fuel (a:Int) (m:Int) (b:Int) d.toList=some d'.toList∧MergeTo (ltC c) a b d d'
 | 0,a,m,b,d,_,_,_,_,hf,_,_=>by omega
 | fuel + 1,a,m,b,d,ham,hmb,hb,hd,hf,h1,h2=>by
  have hS:=zl2 hC
  unfold symG
  simp only [z07]
  rw [wsub (by omega) (by omega),wsub (by omega) (by omega)]
  by_cases c1:m - a=1
  ·rw [if_pos (by omega)]
   have hm:m=a + 1:=by omega
   subst hm
   refine z9y (G:=fun q=>∃ d' : Array α,q=some d'.toList∧MergeTo (ltC c) a b d d') (P:=fun s=>∃ r:Nat,s=((r:Int),(r:Int))∧a + 1≤r∧r≤b∧(r=a + 1∨ltC c d[r - 1]! d[a]! = true)∧(r=b∨ltC c d[r]! d[a]! = false)) ?_ ?_
   ·refine bs_ex (P:=fun h=>ltC c d[h]! d[a]!) (by omega) (by omega) (fun r g2 g3 g4 g5=>⟨r,rfl,g2,g3,g4,g5⟩) ?_
    intro i j hi hij hj
    simp only [z07,intlt]
    rw [zdf (by omega)]
    by_cases h:i < j
    ·rw [if_pos h,if_pos h]
     simp (disch:=omega) only [z06,wadd1,Int.toNat_natCast,Nat.zero_add,Array.length_toList,hc,Option.bind_some,z1n]
     unfold ltC
     by_cases g:c d[(i + j) / 2]! d[a]! < 0 <;> simp [g]
    ·rw [if_neg h,if_neg h]
   ·rintro s ⟨r,rfl,g2,g3,g4,g5⟩
    simp only
    rw [wsub1 (by omega) (by omega)]
    refine ⟨shR a (r - (a + 1)) d,z64 (zlg (a:=a) (n:=r - (a + 1)) (by omega) ?_) (fun x=>rfl),zm3 hS ⟨g2,g3⟩ hb h2 g4 g5⟩
    intro i d' hs hi
    simp only [z07,intlt]
    by_cases h:i < r - (a + 1)
    ·rw [if_pos (by omega),if_pos h]
     simp (disch:=omega) only [z06,wadd1,Int.toNat_natCast,Nat.zero_add,Array.length_toList,List.length_set,z1n,z2m]
    ·rw [if_neg (by omega),if_neg h]
  ·rw [if_neg (by omega)]
   by_cases c2:b - m=1
   ·rw [if_pos (by omega)]
    have hbm:b=m + 1:=by omega
    subst hbm
    refine z9y (G:=fun q=>∃ d' : Array α,q=some d'.toList∧MergeTo (ltC c) a (m + 1) d d') (P:=fun s=>∃ r:Nat,s=((r:Int),(r:Int))∧a≤r∧r≤m∧(r=a∨ltC c d[m]! d[r - 1]! = false)∧(r=m∨ltC c d[m]! d[r]! = true)) ?_ ?_
    ·refine bs_ex (P:=fun h => !ltC c d[m]! d[h]!) (by omega) (by omega) (fun r g2 g3 g4 g5=>⟨r,rfl,g2,g3,by simpa using g4,by simpa using g5⟩) ?_
     intro i j hi hij hj
     simp only [z07,z47,intlt]
     rw [zdf (by omega)]
     by_cases h:i < j
     ·rw [if_pos h,if_pos h]
      simp (disch:=omega) only [z06,wadd1,Int.toNat_natCast,Nat.zero_add,Array.length_toList,hc,Option.bind_some,z1n]
      unfold ltC
      by_cases g:c d[m]! d[(i + j) / 2]! < 0 <;> simp [g]
     ·rw [if_neg h,if_neg h]
    ·rintro s ⟨r,rfl,g2,g3,g4,g5⟩
     simp only
     refine ⟨shL m (m - r) d,z64 (zmc (m:=m) (n:=m - r) (by omega) (by omega) ?_) (fun x=>rfl),zlr hS ⟨g2,g3⟩ hb h1 g4 g5⟩
     intro i d' hs hi
     simp only [z07,intlt]
     by_cases h:i < m - r
     ·rw [if_pos (by omega),if_pos h]
      simp (disch:=omega) only [z06,wsub1,Int.toNat_natCast,Nat.zero_add,Array.length_toList,List.length_set,z1n,z2m]
     ·rw [if_neg (by omega),if_neg h]
   ·rw [if_neg (by omega)]
    rw [zdf (by omega),wadd (by omega)]
    let G:Option (List α)→Prop:=fun q=>∃ d' : Array α,q=some d'.toList∧MergeTo (ltC c) a b d d'
    refine jn_P (G:=G) (P:=fun x=>∃ st r0:Nat,x=((((a + b) / 2:Nat):Int),(((a + b) / 2 + m:Nat):Int),(st:Int),(r0:Int))∧a≤st∧st≤r0∧r0≤m∧r0≤(a + b) / 2 + m - m∧(st=a∨(a + b) / 2 + m - st=b)∧(a + b) / 2 + m - st≤b∧(r0=m∨r0=(a + b) / 2)) ?_ ?_
    ·rintro _ ⟨st,r0,rfl,k1,k2,k3,k4,k5,k6,k7⟩
     refine z9y (G:=G) (P:=fun s=>∃ r:Nat,s=((r:Int),(r:Int))∧st≤r∧r≤r0∧(r=st∨ltC c d[(a + b) / 2 + m - r]! d[r - 1]! = false)∧(r=r0∨ltC c d[(a + b) / 2 + m - r - 1]! d[r]! = true)) ?_ ?_
     ·refine bs_ex (P:=fun h => !ltC c d[(a + b) / 2 + m - 1 - h]! d[h]!) (by omega) (by omega) (fun r g2 g3 g4 g5=>⟨r,rfl,g2,g3,?_,?_⟩) ?_
      ·rcases g4 with g4 | g4
       ·exact .inl g4
       ·by_cases e:r=st
        ·exact .inl e
        ·right
         rw [show (a + b) / 2 + m - 1 - (r - 1)=(a + b) / 2 + m - r by omega] at g4
         simpa using g4
      ·rcases g5 with g5 | g5
       ·exact .inl g5
       ·right
        rw [show (a + b) / 2 + m - 1 - r=(a + b) / 2 + m - r - 1 by omega] at g5
        simpa using g5
      ·intro i j hi hij hj
       simp only [z07,z47,intlt]
       rw [zdf (by omega),wsub1 (by omega) (by omega)]
       by_cases h:i < j
       ·rw [if_pos h,if_pos h,wsub (by omega) (by omega)]
        simp (disch:=omega) only [z06,wadd1,Int.toNat_natCast,Nat.zero_add,Array.length_toList,hc,Option.bind_some,z1n]
        unfold ltC
        by_cases g:c d[(a + b) / 2 + m - 1 - (i + j) / 2]! d[(i + j) / 2]! < 0 <;> simp [g]
       ·rw [if_neg h,if_neg h]
     ·rintro s ⟨r,rfl,g2,g3,g4,g5⟩
      simp only
      rw [wsub (by omega) (by omega)]
      have hmid:r + ((a + b) / 2 + m - r - m)=(a + b) / 2:=by omega
      refine jn_P (G:=G) (P:=fun x=>∃ d1:Array α,x=((((a + b) / 2 + m - r:Nat):Int),d1.toList)∧Sort.PermIn a b d d1∧∀ x,d1[x]! = rotF r m ((a + b) / 2 + m - r) d x) ?_ ?_
      ·rintro _ ⟨d1,rfl,p1,p2⟩
       obtain ⟨q1,q2,q3,q4,q5⟩:=zcv hS h1 h2 ⟨by omega,by omega⟩ ⟨by omega,by omega⟩ p2 (by
        rcases g4 with g | g
        ·rcases k5 with k | k
         ·exact .inl (by omega)
         ·exact .inr (.inl (by omega))
        ·exact .inr (.inr g)) (by
        rcases g5 with g | g
        ·rcases k7 with k | k
         ·exact .inl (by omega)
         ·exact .inr (.inl (by omega))
        ·exact .inr (.inr g))
       rw [hmid] at q1 q3 q4
       have s1:d1.size=d.size:=p1.1
       refine jn_P (G:=G) (P:=fun x=>∃ d2:Array α,x=d2.toList∧MergeTo (ltC c) a ((a + b) / 2) d1 d2) ?_ ?_
       ·rintro _ ⟨d2,rfl,m1⟩
        have s2:d2.size=d1.size:=m1.perm.1
        have e1:Sort.SortedIn (ltC c) ((a + b) / 2) ((a + b) / 2 + m - r) d2:=fun i j h1 h2 h3=>by
         rw [m1.perm.2.1 i (.inr (by omega)),m1.perm.2.1 j (.inr (by omega))]; exact q4 i j h1 h2 h3
        have e2:Sort.SortedIn (ltC c) ((a + b) / 2 + m - r) b d2:=fun i j h1 h2 h3=>by
         rw [m1.perm.2.1 i (.inr (by omega)),m1.perm.2.1 j (.inr (by omega))]; exact q5 i j h1 h2 h3
        have fin:∀ d3:Array α,MergeTo (ltC c) ((a + b) / 2) b d2 d3→MergeTo (ltC c) a b d d3:=fun d3 m3=>zha hS ⟨by omega,by omega⟩ hb p1 q1 m1 m3
        simp only [jn_eq,z07,intlt]
        by_cases w1:(a + b) / 2 < (a + b) / 2 + m - r
        ·by_cases w2:(a + b) / 2 + m - r < b
         ·rw [if_pos w1,if_pos w2]
          obtain ⟨d3,t1,t2⟩:=zd9 hc hC fuel ((a + b) / 2) ((a + b) / 2 + m - r) b d2 w1 w2 (by omega) (by omega) (by omega) e1 e2
          rw [t1]
          exact ⟨d3,rfl,fin d3 t2⟩
         ·rw [if_pos w1,if_neg w2]
          rw [show (a + b) / 2 + m - r=b by omega] at e1
          exact ⟨d2,rfl,fin d2 (z92 e1)⟩
        ·rw [if_neg w1,z0e]
         rw [show (a + b) / 2 + m - r=(a + b) / 2 by omega] at e2
         exact ⟨d2,rfl,fin d2 (z92 e2)⟩
       ·simp only [jn_eq,z07,intlt]
        by_cases w1:a < r
        ·by_cases w2:r < (a + b) / 2
         ·rw [if_pos w1,if_pos w2]
          obtain ⟨d3,t1,t2⟩:=zd9 hc hC fuel a r ((a + b) / 2) d1 w1 w2 (by omega) (by omega) (by omega) q2 q3
          refine ⟨_,⟨d3,rfl,t2⟩,?_⟩
          rw [t1]
          simp only [Option.bind_some]
          rw [z06 (by have:=t2.perm.1; simp only [Array.length_toList]; omega)]
         ·rw [if_pos w1,if_neg w2]
          rw [show r=(a + b) / 2 by omega] at q2
          exact ⟨_,⟨d1,rfl,z92 q2⟩,rfl⟩
        ·rw [if_neg w1,z0e]
         rw [show r=a by omega] at q3
         exact ⟨_,⟨d1,rfl,z92 q3⟩,rfl⟩
      ·simp only [jn_eq,z07,intlt]
       by_cases w1:r < m
       ·by_cases w2:m < (a + b) / 2 + m - r
        ·obtain ⟨d1,t1,t2⟩:=zmz (fuel:=fuel) (s:=r) (m:=m) (e:=(a + b) / 2 + m - r) (d:=d) w1 w2 (by omega) (by omega) (by omega)
         refine ⟨_,⟨d1,rfl,Sort.permIn_mono _ _ _ _ a b (by omega) (by omega) hb t2.perm,t2.get⟩,?_⟩
         rw [if_pos w1,if_pos w2,t1,Option.bind_some]
         rw [z06 (by have:=t2.perm.1; simp only [Array.length_toList]; omega)]
         simp only [intlt]
        ·rw [if_pos w1,if_neg w2]
         refine ⟨_,⟨d,rfl,Sort.permIn_refl d a b,fun x => ?_⟩,by simp only [intlt]⟩
         unfold rotF
         repeat' split
         all_goals first | omega | rfl | (congr 1; omega)
       ·rw [if_neg w1,z0e]
        refine ⟨_,⟨d,rfl,Sort.permIn_refl d a b,fun x => ?_⟩,by simp only [intlt]⟩
        unfold rotF
        repeat' split
        all_goals first | omega | rfl | (congr 1; omega)
    ·simp only [z07,intlt]
     by_cases w:(a + b) / 2 < m
     ·rw [if_pos w,wsub (by omega) (by omega)]
      exact ⟨_,⟨(a + b) / 2 + m - b,(a + b) / 2,rfl,by omega,by omega,by omega,by omega,by omega,by omega,.inr rfl⟩,rfl⟩
     ·rw [if_neg w]
      exact ⟨_,⟨a,m,rfl,by omega,by omega,by omega,by omega,.inl rfl,by omega,.inl rfl⟩,rfl⟩
end
end Go.Av
namespace Go.Av
open Go
set_option linter.unusedVariables false
set_option linter.unusedSimpArgs false
section
variable {α:Type} [Inhabited α] {cmp : α → α → Option Int} {c : α → α → Int}
theorem zbt {S R:Type} {B:S→Option (Ctl S R)} (I:Nat→S→Prop) (Dn:S→Prop) {n fuel:Nat} {s:S} (hf:n < fuel) (h0:I 0 s)
  (h:∀ i s,I i s→(∃ s',B s=some (.next s')∧I (i + 1) s' ∧ i < n)∨(∃ s',B s=some (.brk s')∧Dn s')):∃ s',loopN B fuel s=some (.done s')∧Dn s':=by
 have key:∀ k i s fuel,i + k=n→k < fuel→I i s→∃ s',loopN B fuel s=some (.done s')∧Dn s':=by
  intro k
  induction k with
  | zero =>
   intro i s fuel hi hf hI
   cases fuel with
   | zero=>omega
   | succ fuel =>
    rcases h i s hI with ⟨s',_,_,g⟩ | ⟨s',g1,g2⟩
    ·omega
    ·exact ⟨s',z0x g1,g2⟩
  | succ k ih =>
   intro i s fuel hi hf hI
   cases fuel with
   | zero=>omega
   | succ fuel =>
    rcases h i s hI with ⟨s',g1,g2,g⟩ | ⟨s',g1,g2⟩
    ·rw [z1c g1]
     exact ih (i + 1) s' fuel (by omega) (by omega) g2
    ·exact ⟨s',z0x g1,g2⟩
 exact key n 0 s fuel (by omega) hf h0
theorem z82 {lt : α → α → Bool} {a b x y:Nat} {d d' : Array α} (h:Sort.SortedIn lt x y d) (hp:Sort.PermIn a b d d') (ho:y≤a∨b≤x):Sort.SortedIn lt x y d':=fun i j h1 h2 h3=>by
 rw [hp.2.1 i (by omega),hp.2.1 j (by omega)]
 exact h i j h1 h2 h3
theorem z85 {i j k:Nat} (h:i < j):i * k + k≤j * k:=by
 have:=Nat.mul_le_mul_right k (show i + 1≤j by omega)
 rw [Nat.add_mul,Nat.one_mul] at this
 exact this
theorem zma (hc:∀ x y,cmp x y=some (c x y)) (hC:IsCmp c) {fuel:Nat} {d:Array α} (hd:d.size < 1152921504606846) (hf:4 * d.size + 100 < fuel) :
  ∃ d' : Array α,stabG cmp fuel (d.size:Int) d.toList=some d'.toList∧Sort.PermIn 0 d.size d d' ∧ Sort.SortedIn (ltC c) 0 d.size d':=by
 have hS:=zl2 hC
 generalize hn:d.size=n at *
 let G:Option (List α)→Prop:=fun q=>∃ d' : Array α,q=some d'.toList∧Sort.PermIn 0 n d d' ∧ Sort.SortedIn (ltC c) 0 n d'
 unfold stabG
 refine z9y (G:=G) (P:=fun s=>∃ (i:Nat) (d1:Array α),s=(((i * 20:Nat):Int),((i * 20 + 20:Nat):Int),d1.toList)∧i * 20≤n∧n < i * 20 + 20∧Sort.PermIn 0 n d d1∧∀ j,j < i→Sort.SortedIn (ltC c) (j * 20) (j * 20 + 20) d1) ?_ ?_
 ·refine zbt (I:=fun i s=>∃ d1:Array α,s=(((i * 20:Nat):Int),((i * 20 + 20:Nat):Int),d1.toList)∧i * 20≤n∧Sort.PermIn 0 n d d1∧∀ j,j < i→Sort.SortedIn (ltC c) (j * 20) (j * 20 + 20) d1) (n:=n) _ (by omega) ⟨d,by rfl,by omega,Sort.permIn_refl d 0 n,fun j hj=>by omega⟩ ?_
  rintro i _ ⟨d1,rfl,k1,k2,k3⟩
  have s1:d1.size=n:=k2.1.trans hn
  simp only [z07,intle]
  by_cases h:i * 20 + 20≤n
  ·left
   obtain ⟨p1,p2⟩:=Sort.insertionSort_holds hS d1 (i * 20) (i * 20 + 20) (by omega) (by omega)
   refine ⟨_,?_,⟨Sort.insertionSort (ltC c) d1 (i * 20) (i * 20 + 20),rfl,by omega,Sort.permIn_trans _ _ _ 0 n k2 (Sort.permIn_mono _ _ _ _ 0 n (by omega) (by omega) (by omega) p1),?_⟩,by omega⟩
   ·rw [if_pos h,zj3 hc (by omega) (by omega) (by omega) (by omega)]
    simp only [Option.bind_some]
    rw [z06 (by have:=p1.1; simp only [Array.length_toList]; omega),show (20:Int)=((20:Nat):Int) from rfl,wadd (by omega)]
    rw [show (i + 1) * 20=i * 20 + 20 by omega]
   ·intro j hj
    by_cases e:j=i
    ·subst e; exact p2
    ·exact z82 (k3 j (by omega)) p1 (by have:=z85 (k:=20) (show j < i by omega); omega)
  ·right
   rw [if_neg h]
   exact ⟨_,rfl,i,d1,rfl,k1,by omega,k2,k3⟩
 ·rintro _ ⟨i,d1,rfl,k1,k2,k3,k4⟩
  have s1:d1.size=n:=k3.1.trans hn
  simp only
  obtain ⟨p1,p2⟩:=Sort.insertionSort_holds hS d1 (i * 20) n (by omega) (by omega)
  rw [zj3 hc (by omega) (by omega) (by omega) (by omega)]
  simp only [Option.bind_some]
  rw [z06 (by have:=p1.1; simp only [Array.length_toList]; omega)]
  generalize hd2:Sort.insertionSort (ltC c) d1 (i * 20) n=d2 at p1 p2
  have q1:Sort.PermIn 0 n d d2:=Sort.permIn_trans _ _ _ 0 n k3 (Sort.permIn_mono _ _ _ _ 0 n (by omega) (by omega) (by omega) p1)
  have q2:∀ j,Sort.SortedIn (ltC c) (j * 20) (min (j * 20 + 20) n) d2:=fun j=>by
   by_cases e:j < i
   ·have:=z85 (k:=20) e
    rw [show min (j * 20 + 20) n=j * 20 + 20 by omega]
    exact z82 (k4 j e) p1 (by omega)
   ·by_cases e2:j=i
    ·subst e2
     rw [show min (j * 20 + 20) n=n by omega]
     exact p2
    ·exact z6r (by omega)
  refine z9y (G:=G) (P:=fun s=>∃ (x:Int) (d3:Array α),s=(x,d3.toList)∧Sort.PermIn 0 n d d3∧Sort.SortedIn (ltC c) 0 n d3) ?_ ?_
  ·refine zbt (I:=fun r s=>∃ (k:Nat) (d3:Array α),s=((k:Int),d3.toList)∧r + 20≤k∧k≤2 * n + 20∧Sort.PermIn 0 n d d3∧∀ j,Sort.SortedIn (ltC c) (j * k) (min (j * k + k) n) d3) (n:=n) _ (by omega) ⟨20,d2,by rfl,by omega,by omega,q1,q2⟩ ?_
   rintro r _ ⟨k,d3,rfl,g1,g2,g3,g4⟩
   have s3:d3.size=n:=g3.1.trans hn
   simp only [z07,intlt]
   by_cases h:k < n
   ·left
    rw [if_pos h]
    let G2:Option (Ctl (Int × List α) Empty)→Prop:=fun q=>∃ s',q=some (.next s')∧(∃ (k:Nat) (d3:Array α),s' = ((k:Int),d3.toList)∧r + 1 + 20≤k∧k≤2 * n + 20∧Sort.PermIn 0 n d d3∧∀ j,Sort.SortedIn (ltC c) (j * k) (min (j * k + k) n) d3)∧r < n
    refine z9y (G:=G2) (P:=fun s=>∃ (i:Nat) (d4:Array α),s=(((i * (2 * k):Nat):Int),((i * (2 * k) + 2 * k:Nat):Int),d4.toList)∧i * (2 * k)≤n∧n < i * (2 * k) + 2 * k∧Sort.PermIn 0 n d d4∧(∀ j,j < i→Sort.SortedIn (ltC c) (j * (2 * k)) (j * (2 * k) + 2 * k) d4)∧∀ j,i * (2 * k)≤j * k→Sort.SortedIn (ltC c) (j * k) (min (j * k + k) n) d4) ?_ ?_
    ·rw [wtwo (by omega)]
     refine zbt (I:=fun i s=>∃ d4:Array α,s=(((i * (2 * k):Nat):Int),((i * (2 * k) + 2 * k:Nat):Int),d4.toList)∧i * (2 * k)≤n∧i≤i * (2 * k)∧Sort.PermIn 0 n d d4∧(∀ j,j < i→Sort.SortedIn (ltC c) (j * (2 * k)) (j * (2 * k) + 2 * k) d4)∧∀ j,i * (2 * k)≤j * k→Sort.SortedIn (ltC c) (j * k) (min (j * k + k) n) d4) (n:=n) _ (by omega) ⟨d3,by simp,by omega,by omega,g3,fun j hj=>by omega,fun j _=>g4 j⟩ ?_
     rintro i _ ⟨d4,rfl,f1,f0,f2,f3,f4⟩
     have s4:d4.size=n:=f2.1.trans hn
     have e1:(2 * i) * k=i * (2 * k):=by rw [Nat.mul_comm 2 i,Nat.mul_assoc]
     have e2:(2 * i + 1) * k=i * (2 * k) + k:=by rw [Nat.add_mul,Nat.one_mul,e1]
     have e3:(i + 1) * (2 * k)=i * (2 * k) + 2 * k:=by rw [Nat.add_mul,Nat.one_mul]
     have t1:=f4 (2 * i) (by omega)
     have t2:=f4 (2 * i + 1) (by omega)
     rw [e1] at t1
     rw [e2] at t2
     generalize hp:i * (2 * k)=p at *
     simp only [z07,intle]
     by_cases h2:p + 2 * k≤n
     ·left
      rw [if_pos h2,wadd (by omega)]
      rw [show min (p + k) n=p + k by omega] at t1
      rw [show min (p + k + k) n=p + 2 * k by omega] at t2
      obtain ⟨d5,u1,u2⟩:=zd9 hc hC fuel p (p + k) (p + 2 * k) d4 (by omega) (by omega) (by omega) (by omega) (by omega) t1 t2
      refine ⟨_,?_,⟨d5,rfl,by omega,by omega,Sort.permIn_trans _ _ _ 0 n f2 (Sort.permIn_mono _ _ _ _ 0 n (by omega) (by omega) (by omega) u2.perm),?_,?_⟩,by omega⟩
      ·rw [u1]
       simp only [Option.bind_some]
       rw [z06 (by have:=u2.perm.1; simp only [Array.length_toList]; omega),wadd (by omega),e3]
      ·intro j hj
       by_cases e:j=i
       ·subst e
        rw [hp]
        exact u2.sorted
       ·have:=z85 (k:=2 * k) (show j < i by omega)
        exact z82 (f3 j (by omega)) u2.perm (.inl (by omega))
      ·intro j hj
       exact z82 (f4 j (by omega)) u2.perm (.inr (by omega))
     ·right
      rw [if_neg h2]
      exact ⟨_,rfl,i,d4,by rw [hp],by omega,by omega,f2,f3,by rw [hp]; exact f4⟩
    ·rintro _ ⟨i,d4,rfl,f1,f1',f2,f3,f4⟩
     have s4:d4.size=n:=f2.1.trans hn
     have e1:(2 * i) * k=i * (2 * k):=by rw [Nat.mul_comm 2 i,Nat.mul_assoc]
     have e2:(2 * i + 1) * k=i * (2 * k) + k:=by rw [Nat.add_mul,Nat.one_mul,e1]
     have t1:=f4 (2 * i) (by omega)
     have t2:=f4 (2 * i + 1) (by omega)
     rw [e1] at t1
     rw [e2] at t2
     have e4:∀ j,i < j→n≤j * (2 * k):=fun j hj=>by have:=z85 (k:=2 * k) hj; omega
     generalize hp:i * (2 * k)=p at *
     simp only
     refine jn_P (G:=G2) (P:=fun l=>∃ d5:Array α,l=d5.toList∧Sort.PermIn 0 n d d5∧∀ j,Sort.SortedIn (ltC c) (j * (2 * k)) (min (j * (2 * k) + 2 * k) n) d5) ?_ ?_
     ·rintro _ ⟨d5,rfl,u1,u2⟩
      refine ⟨_,rfl,⟨2 * k,d5,?_,by omega,by omega,u1,u2⟩,by omega⟩
      rw [show (k:Int) * 2=2 * (k:Int) by omega,wtwo (by omega)]
     ·simp only [z07]
      rw [wadd (by omega)]
      simp only [intlt]
      by_cases h2:p + k < n
      ·rw [if_pos h2]
       rw [show min (p + k) n=p + k by omega] at t1
       rw [show min (p + k + k) n=n by omega] at t2
       obtain ⟨d5,u1,u2⟩:=zd9 hc hC fuel p (p + k) n d4 (by omega) (by omega) (by omega) (by omega) (by omega) t1 t2
       refine ⟨_,⟨d5,rfl,Sort.permIn_trans _ _ _ 0 n f2 (Sort.permIn_mono _ _ _ _ 0 n (by omega) (by omega) (by omega) u2.perm),fun j => ?_⟩,?_⟩
       ·by_cases e:j < i
        ·have:=z85 (k:=2 * k) e
         rw [show min (j * (2 * k) + 2 * k) n=j * (2 * k) + 2 * k by omega]
         exact z82 (f3 j e) u2.perm (.inl (by omega))
        ·by_cases e5:j=i
         ·subst e5
          rw [hp,show min (p + 2 * k) n=n by omega]
          exact u2.sorted
         ·have:=e4 j (by omega)
          exact z6r (by omega)
       ·rw [u1]
        simp only [Option.bind_some]
        rw [z06 (by have:=u2.perm.1; simp only [Array.length_toList]; omega)]
      ·rw [if_neg h2]
       refine ⟨_,⟨d4,rfl,f2,fun j => ?_⟩,rfl⟩
       by_cases e:j < i
       ·have:=z85 (k:=2 * k) e
        rw [show min (j * (2 * k) + 2 * k) n=j * (2 * k) + 2 * k by omega]
        exact f3 j e
       ·by_cases e5:j=i
        ·subst e5
         rw [hp,show min (p + 2 * k) n=n by omega]
         rw [show min (p + k) n=n by omega] at t1
         exact t1
        ·have:=e4 j (by omega)
         exact z6r (by omega)
   ·right
    rw [if_neg h]
    have:=g4 0
    rw [Nat.zero_mul,show min (0 + k) n=n by omega] at this
    exact ⟨_,rfl,_,d3,rfl,g3,this⟩
  ·rintro _ ⟨x,d3,rfl,u1,u2⟩
   exact ⟨d3,rfl,u1,u2⟩
theorem zjd (hc:∀ x y,cmp x y=some (c x y)) (hC:IsCmp c) {fuel:Nat} {l:List α} (hd:l.length < 1152921504606846) (hf:4 * l.length + 100 < fuel) :
  ∃ r:List α,stabG cmp fuel (l.length:Int) l=some r∧r.Perm l∧∀ i j,i < j→j < r.length→c (r.getD i default) (r.getD j default)≤0:=by
 obtain ⟨d',h1,h2,h3⟩:=zma hc hC (d:=l.toArray) (fuel:=fuel) (by simpa using hd) (by simpa using hf)
 have hs:d'.size=l.length:=by have:=h2.1; simpa using this
 refine ⟨d'.toList,by simpa using h1,?_,fun i j hij hj => ?_⟩
 ·have:=h2.2.2
  simp only [List.size_toArray] at this
  rw [show d'.extract 0 l.length=d' by rw [← hs]; simp,show l.toArray.extract 0 l.length=l.toArray by simp] at this
  exact this
 ·rw [Array.length_toList] at hj
  have:=h3 i j (by omega) hij (by simpa [hs] using hj)
  rw [z1n,z1n]
  unfold ltC at this
  have a1:=hC.anti d'[i]! d'[j]!
  simp only [decide_eq_false_iff_not] at this
  omega
end
end Go.Av
namespace Go.Av
open Go
set_option linter.unusedVariables false
set_option linter.unusedSimpArgs false
def cmpV (a b:Value):Int:=if a.isText=b.isText then (if a.isText then cmpS a.s b.s else cmpZ a.n b.n) else (if a.isText then 1 else -1)
theorem zdi:IsCmp cmpV where
 vals a b:=by
  unfold cmpV
  split
  ·split
   ·exact zdc.vals _ _
   ·exact z8d.vals _ _
  ·split <;> simp
 anti a b:=by
  unfold cmpV
  cases a.isText <;> cases b.isText <;> simp
  ·exact z8d.anti _ _
  ·exact zdc.anti _ _
 tr a b d:=by
  unfold cmpV
  cases a.isText <;> cases b.isText <;> cases d.isText <;> simp
  ·exact z8d.tr _ _ _
  ·exact zdc.tr _ _ _
theorem zl7 (a b:ByteArray):(strLt a b || strEq a b)=decide (cmpS a b≤0):=by
 rw [zg2,zg4,Bool.eq_iff_iff]
 simp
 omega
theorem zg9 (x y:Int):z5q x y=some (cmpZ x y):=by
 unfold z5q z6g cmpZ
 simp only [decide_true,Bool.not_true,Option.bind_some,z0e,z07]
 split <;> (try split) <;> rfl
theorem zif (x y:Int):z4o x y=some (cmpZ x y):=by
 unfold z4o z5i cmpZ
 simp only [decide_true,Bool.not_true,Option.bind_some,z0e,z07]
 split <;> (try split) <;> rfl
theorem zhe (x y:ByteArray):z4d x y=some (cmpS x y):=by
 unfold z4d z54
 simp only [zjh,Bool.not_true,Option.bind_some,z0e]
 rw [zl7,zg2]
 simp only [z47,z07]
 rcases zdc.vals x y with h | h | h <;> simp [h]
theorem zex (a b:Value):z6h a b=some (cmpV a b):=by
 unfold z6h z7t cmpV
 simp only [zg9,zhe,zif,z47]
 cases a.isText <;> cases b.isText <;> simp [zg9,cmpZ]
theorem z9r (a b:List Value):z5n a b=some (cmpL cmpV a b):=by
 unfold z5n z08
 rw [zn2 (c:=cmpV)]
 ·rfl
 ·intro i hi
  simp only [zex,Option.bind_some,z07,z47,Int.ofNat_le]
  split
  ·rfl
  ·rw [z06 (by omega)]
 ·simp only [z07,Int.ofNat_lt]
  split <;> rfl
def z4p (v:Value):Bool:=if v.isText then decide (v.n=0) && decide (v.s.size≤64) else strEq v.s (bs [])
def okRow (p:List Value):Bool:=decide (p.length≤8) && p.all z4p
theorem zlh (v:Value):z7c v=some (z4p v):=by
 unfold z7c z4p
 have e:((v.s.size:Int)≤64)↔v.s.size≤64:=by omega
 cases v.isText <;> by_cases h:v.n=0 <;> simp [h,e]
theorem zjo {S R X:Type} [Inhabited X] {B:Nat→S→Option (Ctl S R)} {l:List X} (P:X→Bool) (f:Nat→R) {s:S}
  (hB:∀ i,i < l.length→B i s=if P (l.getD i default) then some (.ret (f i)) else some (.next s)) :
  (l.any P=false∧z0b B l.length 0 s=some (.done s))∨(l.any P=true∧∃ i,i < l.length∧P (l.getD i default)=true∧z0b B l.length 0 s=some (.ret (f i))):=by
 have key:∀ k i,i + k=l.length→((l.drop i).any P=false∧z0b B k i s=some (.done s))∨((l.drop i).any P=true∧∃ j,j < l.length∧P (l.getD j default)=true∧z0b B k i s=some (.ret (f j))):=by
  intro k
  induction k with
  | zero=>intro i hi; left; rw [List.drop_eq_nil_of_le (by omega:l.length≤i)]; exact ⟨rfl,rfl⟩
  | succ k ih =>
   intro i hi
   rw [z1o (by omega:i < l.length)]
   simp only [z0b,hB i (by omega),List.any_cons]
   by_cases h:P (l.getD i default)=true
   ·rw [if_pos h]; right; exact ⟨by rw [h]; rfl,i,by omega,h,rfl⟩
   ·rw [if_neg h]
    have hf:P (l.getD i default)=false:=by simpa using h
    rw [hf,Bool.false_or]
    exact ih (i + 1) (by omega)
 have:=key l.length 0 (by omega)
 rwa [List.drop_zero] at this
theorem zc8 (p:List Value):(p.any fun v => !z4p v) = !(p.all z4p):=by
 rw [List.any_eq_not_all_not]
 simp
theorem zc0 (p:List Value):z6m p=some (if okRow p then 0 else 4):=by
 unfold z6m z0s z0v z7f okRow
 simp only [jn_eq,z07,zlh,Option.bind_some]
 by_cases h:8 < (p.length:Int)
 ·rw [if_pos h,decide_eq_false (by omega:¬ p.length≤8)]; rfl
 ·rw [if_neg h,decide_eq_true (by omega:p.length≤8)]
  rcases zjo (S:=Unit) (R:=Int) (l:=p) (fun v => !z4p v) (fun i=>(i:Int)) (s:=()) (B:=fun i1 a2=>bf (!z4p (p.getD i1 default)) (some (.ret ((i1:Nat):Int))) (some (.next ()))) (fun i hi=>by
   cases z4p (p.getD i default) <;> rfl) with ⟨h1,h2⟩ | ⟨h1,i,_,_,h2⟩
  ·rw [h2]
   rw [zc8] at h1
   have:p.all z4p=true:=by simpa using h1
   simp [this]
  ·rw [h2]
   rw [zc8] at h1
   have:p.all z4p=false:=by simpa using h1
   simp [this,Int.natCast_nonneg]
theorem zds {a b:Value}:z7o a b=true↔a=b:=by
 rcases a with ⟨t,n,s⟩
 rcases b with ⟨t',n',s'⟩
 simp [z7o,zcw]
theorem zmy (a b:List Value):∃ r,z3c a b=some r∧(r=true↔a=b):=by
 unfold z3c
 by_cases hl:a.length=b.length
 ·rw [decide_eq_true (by omega:(a.length:Int)=(b.length:Int))]
  simp only [Bool.not_true,z0e]
  have key:∀ k i,i + k=a.length→∃ r,outK (z0b (S:=Unit) (R:=Bool) (fun i1 (a2:Unit)=>need ((0:Int)≤((i1:Nat):Int)∧((i1:Nat):Int) < (b.length:Int)) <| bf (!(z7o (a.getD i1 default) (b.getD i1 default))) (some (.ret false)) (some (.next ()))) k i ()) (fun (a3:Unit)=>some true) (fun x=>some x)=some r∧(r=true↔a.drop i=b.drop i):=by
   intro k
   induction k with
   | zero =>
    intro i hi
    refine ⟨true,rfl,?_⟩
    rw [List.drop_eq_nil_of_le (by omega:a.length≤i),List.drop_eq_nil_of_le (by omega:b.length≤i)]
    simp
   | succ k ih =>
    intro i hi
    simp only [z0b]
    rw [z06 (by omega),z1o (by omega:i < a.length),z1o (by omega:i < b.length)]
    by_cases he:z7o (a.getD i default) (b.getD i default)=true
    ·rw [he]
     obtain ⟨r,h1,h2⟩:=ih (i + 1) (by omega)
     refine ⟨r,h1,?_⟩
     rw [h2,zds.1 he]
     simp
    ·have he' : z7o (a.getD i default) (b.getD i default)=false:=by simpa using he
     rw [he']
     refine ⟨false,rfl,?_⟩
     simp only [Bool.false_eq_true,false_iff,List.cons.injEq,not_and]
     intro h
     exact absurd (zds.2 h) he
  obtain ⟨r,h1,h2⟩:=key a.length 0 (by omega)
  exact ⟨r,h1,by simpa using h2⟩
 ·rw [decide_eq_false (by omega:¬ (a.length:Int)=(b.length:Int))]
  exact ⟨false,rfl,by simp; intro h; exact hl (by rw [h])⟩
theorem zjy (a:List Value):z3c a a=some true:=by
 obtain ⟨r,h1,h2⟩:=zmy a a
 rw [h1,h2.2 rfl]
theorem zk6 {a b:Value} (ha:z4p a=true) (hb:z4p b=true):cmpV a b=0↔a=b:=by
 rcases a with ⟨t,n,s⟩
 rcases b with ⟨t',n',s'⟩
 unfold cmpV z4p at *
 cases t <;> cases t' <;> simp [zk2,zge,zcw] at *
 ·intro _; rw [ha,hb]
 ·intro h; omega
theorem z9v:∀ {a b:List Value},a.all z4p=true→b.all z4p=true→(cmpL cmpV a b=0↔a=b)
 | [],[],_,_=>by simp [cmpL]
 | [],_ :: _,_,_=>by simp [cmpL]
 | _ :: _,[],_,_=>by simp [cmpL]
 | x :: a,y :: b,ha,hb=>by
  simp only [List.all_cons,Bool.and_eq_true] at ha hb
  have h1:=zk6 ha.1 hb.1
  have h2:=z9v ha.2 hb.2
  simp only [cmpL,thenC]
  split
  ·rename_i h; rw [h2,h1.1 h]; simp
  ·rename_i h
   constructor
   ·intro g; exact absurd g h
   ·intro g; exact absurd (h1.2 (List.cons.inj g).1) h
theorem z7n {p:List Value} (h:okRow p=true):p.all z4p=true∧p.length≤8:=by
 unfold okRow at h
 simp only [Bool.and_eq_true,decide_eq_true_eq] at h
 exact ⟨h.2,h.1⟩
end Go.Av
namespace Go.Av
open Go
set_option linter.unusedVariables false
set_option linter.unusedSimpArgs false
def z1g (t:Time):Prop:=0≤t.epoch∧0≤t.loop.1∧0≤t.loop.2
def lub2 (a x:Time):Time:=⟨if a.epoch < x.epoch then x.epoch else a.epoch,(if a.loop.1 < x.loop.1 then x.loop.1 else a.loop.1,if a.loop.2 < x.loop.2 then x.loop.2 else a.loop.2)⟩
def zeroT:Time:=⟨0,(0,0)⟩
def lubL (l:List Time):Time:=l.foldl lub2 zeroT
theorem Time.ext' {a b:Time} (h1:a.epoch=b.epoch) (h2:a.loop.1=b.loop.1) (h3:a.loop.2=b.loop.2):a=b:=by
 rcases a with ⟨e,l1,l2⟩; rcases b with ⟨e',l1',l2'⟩; simp at h1 h2 h3; simp [h1,h2,h3]
theorem max0 {a:Int} (h:0≤a):a=if 0 < a then a else 0:=by
 by_cases h1:0 < a
 ·rw [if_pos h1]
 ·rw [if_neg h1]; omega
theorem zae {l:List Time} (hl:∀ x ∈ l,z1g x):z2h l=some (lubL l):=by
 unfold z2h
 rw [z4w (lubL l) (fun i a=>a=lubL (l.take i)) (fun s h=>by rw [h,List.take_length])]
 ·rfl
 ·intro i a hi ha
  refine ⟨_,?_,rfl⟩
  rw [z2r hi]
  have hx:=hl _ (z42 hi)
  generalize l.getD i default=x at *
  simp only [lubL,List.foldl_append,List.foldl_cons,List.foldl_nil]
  rw [← lubL,← ha]
  simp only [jn_eq,z0b,z4i,Option.bind_some,z07]
  rcases Nat.eq_zero_or_pos i with h0 | h0
  ·subst h0
   simp [lubL] at ha
   subst ha
   obtain ⟨x1,x2,x3⟩:=hx
   simp [outK,lub2,zeroT]
   exact ⟨max0 x1,max0 x2,max0 x3⟩
  ·rw [if_neg (by omega)]
   simp [outK,lub2]
 ·rfl
theorem mx_eq (a b:Int):(if a < b then b else a)=max a b:=by split <;> omega
theorem zks {x:Time} (h:z1g x):lub2 zeroT x=x:=by
 obtain ⟨h1,h2,h3⟩:=h
 simp only [lub2,mx_eq,zeroT]
 refine Time.ext' ?_ ?_ ?_ <;> simp only <;> omega
theorem zh6 {x y:Time} (hx:z1g x):lubL [x,y]=lub2 x y:=by
 simp [lubL,zks hx]
def leT (a b:Time):Bool:=decide (a.epoch≤b.epoch) && (decide (a.loop.1≤b.loop.1) && decide (a.loop.2≤b.loop.2))
theorem zlk {a b:Time} (ha:z1g a) (hb:z1g b):z72 a b=some (leT a b):=by
 unfold z72 z4v
 have hl:∀ x ∈ [a,b],z1g x:=fun x hx=>by
  rcases List.mem_cons.1 hx with rfl | hx
  ·exact ha
  ·rw [List.mem_singleton.1 hx]; exact hb
 rw [zae hl,zh6 ha]
 simp only [Option.bind_some,lub2,mx_eq,z1r,leT,Bool.and_true]
 congr 1
 rw [Bool.eq_iff_iff]
 simp only [Bool.and_eq_true,decide_eq_true_eq]
 omega
def cmpT (a b:Time):Int :=
 if a.epoch < b.epoch then -1 else if b.epoch < a.epoch then 1 else if a.loop.1 < b.loop.1 then -1 else if b.loop.1 < a.loop.1 then 1 else if a.loop.2 < b.loop.2 then -1 else if b.loop.2 < a.loop.2 then 1 else 0
theorem zgq (x y:Int):z31 x y=some (if x < y then -1 else if y < x then 1 else 0):=by
 unfold z31 z55
 simp only [decide_true,Bool.not_true,Option.bind_some,z0e,z07]
 split
 ·rfl
 ·split <;> rfl
theorem zmv (x1 x2 y1 y2:Int):z22 [x1,x2] [y1,y2]=some (if x1 < y1 then -1 else if y1 < x1 then 1 else if x2 < y2 then -1 else if y2 < x2 then 1 else 0):=by
 unfold z22
 simp only [List.length_cons,List.length_nil,Nat.zero_add,Nat.reduceAdd,z0b,zgq,z07,z47,Option.bind_some]
 by_cases h3:x1 < y1 <;> by_cases h4:y1 < x1 <;> by_cases h5:x2 < y2 <;> by_cases h6:y2 < x2 <;> simp [outK,need,h3,h4,h5,h6]
theorem zkh (u v:Int):z4t [u,v]=some (if u=0 then v else u):=by
 unfold z4t
 simp only [List.length_cons,List.length_nil,Nat.zero_add,Nat.reduceAdd,z0b,z07,z47]
 by_cases h1:u=0 <;> by_cases h2:v=0 <;> simp [outK,h1,h2]
theorem znw {p q:Bool} {A:Type} {x y:Option A}:bf (p && (q && true)) x y=bf p (bf q x y) y:=by cases p <;> cases q <;> rfl
theorem        z2a (a b : Time) :            z11 a b = some (cmpT a b) := by
  unfold            z11 cmpT
  simp only [      zgq,     zmv,    zkh, Option.bind_some,    znw,       z07]
  by_cases h1 : a.epoch < b.epoch <;> by_cases h2 : b.epoch < a.epoch <;> by_cases h3 : a.loop.1 < b.loop.1 <;> by_cases h4 : b.loop.1 < a.loop.1 <;> by_cases h5 : a.loop.2 < b.loop.2 <;> by_cases h6 : b.loop.2 < a.loop.2 <;>
    by_cases h7 : a.loop.1 = b.loop.1 <;> by_cases h8 : a.loop.2 = b.loop.2 <;> simp [h1, h2, h3, h4, h5, h6, h7, h8] <;> omega
theorem zjb (a b:Time):cmpT a b = -1∨cmpT a b=0∨cmpT a b=1:=by
 unfold cmpT
 repeat' split
 all_goals omega
theorem       zk0 (a b : Time) : cmpT a b = - cmpT b a := by
  unfold cmpT
  by_cases h1 : a.epoch < b.epoch <;> by_cases h2 : b.epoch < a.epoch <;> by_cases h3 : a.loop.1 < b.loop.1 <;> by_cases h4 : b.loop.1 < a.loop.1 <;> by_cases h5 : a.loop.2 < b.loop.2 <;> by_cases h6 : b.loop.2 < a.loop.2 <;>
    simp [h1, h2, h3, h4, h5, h6] <;> omega
theorem ze6 (a:Time):leT a a=true:=by simp [leT]
theorem zgg {a b c:Time} (h:leT a b=true) (g:leT b c=true):leT a c=true:=by
 simp only [leT,Bool.and_eq_true,decide_eq_true_eq] at *
 omega
theorem zfv {a b:Time}:leT a b=true↔a.epoch≤b.epoch∧a.loop.1≤b.loop.1∧a.loop.2≤b.loop.2:=by simp [leT]
theorem zf4 (u v w:Int):z4t [u,v,w]=some (thenC u (thenC v w)):=by
 unfold z4t thenC
 simp only [List.length_cons,List.length_nil,Nat.zero_add,Nat.reduceAdd,z0b,z07,z47]
 by_cases h1:u=0 <;> by_cases h2:v=0 <;> by_cases h3:w=0 <;> simp [outK,h1,h2,h3]
theorem znj (u v w:Int):z7s [u,v,w]=some (thenC u (thenC v w)):=zf4 u v w
theorem zit:IsCmp cmpT where
 vals a b:=by rcases zjb a b with h | h | h <;> omega
 anti a b:=by have:=zk0 a b; omega
 tr a b d:=by
  have e:∀ a b:Time,cmpT a b=thenC (cmpZ a.epoch b.epoch) (thenC (cmpZ a.loop.1 b.loop.1) (cmpZ a.loop.2 b.loop.2)):=fun a b=>by
   unfold cmpT thenC cmpZ
   repeat' split
   all_goals omega
  have h:=(z8d.on fun t:Time=>t.epoch).lex ((z8d.on fun t:Time=>t.loop.1).lex (z8d.on fun t:Time=>t.loop.2))
  rw [e,e,e]
  exact h.tr a b d
theorem       zk3 {a b : Time} : cmpT a b = 0 ↔ a = b := by
  constructor
  · intro h
    unfold cmpT at h
    refine Time.ext' ?_ ?_ ?_ <;> · revert h; repeat' split
                                    all_goals omega
  · rintro rfl; exact     zit.refl a
def okT (t:Time):Bool:=decide (t.epoch≤4611686018427387904) && (decide (t.loop.1≤4611686018427387904) && decide (t.loop.2≤4611686018427387904))
theorem zj7 {fuel:Nat} (hf:5 < fuel) (a b:Int):z2c fuel [a,b]=some (if a < b then b else a):=by
 unfold z2c
 obtain ⟨f,rfl⟩:∃ f,fuel=f + 2:=⟨fuel - 2,by omega⟩
 have w:IntKind.i64.wrap 2=2:=by rw [z1w (by omega) (by omega)]
 simp [loopN,outK,need,bf,w]
theorem zb9 {fuel:Nat} (hf:5 < fuel) (t:Time):z34 fuel [t]=some (if okT t then 0 else 1):=by
 unfold z34 okT
 simp only [List.length_cons,List.length_nil,Nat.zero_add,z0b,List.getD_cons_zero,zj7 hf,Option.bind_some,z07,mx_eq]
 by_cases h:4611686018427387904 < max t.epoch (max t.loop.1 t.loop.2)
 ·rw [if_pos h]
  simp only [outK]
  rw [if_neg (by simp only [Bool.and_eq_true,decide_eq_true_eq]; omega)]
 ·rw [if_neg h]
  simp only [outK]
  rw [if_pos (by simp only [Bool.and_eq_true,decide_eq_true_eq]; omega)]
end Go.Av
namespace Go.Av
open Go
set_option linter.unusedVariables false
set_option linter.unusedSimpArgs false
section
variable {α X Y:Type}
inductive R2 (r:X→Y→Prop):List X→List Y→Prop
 | nil:R2 r [] []
 | cons {x:X} {y:Y} {a:List X} {b:List Y} (h:r x y) (t:R2 r a b):R2 r (x :: a) (y :: b)
theorem R2.len {r:X→Y→Prop} {a:List X} {b:List Y} (h:R2 r a b):a.length=b.length:=by induction h <;> simp_all
theorem R2.app {r:X→Y→Prop} {a a' : List X} {b b' : List Y} (h:R2 r a b) (h' : R2 r a' b'):R2 r (a++a') (b++b'):=by
 induction h with
 | nil=>exact h'
 | cons h _ ih=>exact .cons h ih
theorem R2.split {r:X→Y→Prop}:∀ {b b' : List Y} {a:List X},R2 r a (b++b')→∃ a1 a2,a=a1++a2∧R2 r a1 b∧R2 r a2 b'
 | [],b',a,h=>⟨[],a,rfl,.nil,h⟩
 | y :: b,b',_,h=>by
  cases h with
  | cons h t =>
   obtain ⟨a1,a2,rfl,h1,h2⟩:=R2.split t
   exact ⟨_ :: a1,a2,rfl,.cons h h1,h2⟩
theorem R2.get [Inhabited X] [Inhabited Y] {r:X→Y→Prop} {a:List X} {b:List Y} (h:R2 r a b):∀ {i:Nat},i < b.length→r (a.getD i default) (b.getD i default):=by
 induction h with
 | nil=>intro i hi; simp at hi
 | cons h _ ih =>
  intro i hi
  cases i with
  | zero=>exact h
  | succ i=>exact ih (by simpa using hi)
theorem R2.one {r:X→Y→Prop} {x:X} {y:Y} (h:r x y):R2 r [x] [y]:=.cons h .nil
theorem z88 {S R Q:Type} {G:Option Q→Prop} {B:Nat→S→Option (Ctl S R)} {n:Nat} {s:S} {kn:S→Option Q} {kr:R→Option Q} (I:Nat→S→Prop) (D:S→Prop) (J:R→Prop) (h0:I 0 s) (hD:∀ s,I n s→D s) (hk:∀ s,D s→G (kn s)) (hr:∀ r,J r→G (kr r))
  (hs:∀ i s,i < n→I i s→(∃ s',B i s=some (.next s')∧I (i + 1) s')∨(∃ s',B i s=some (.brk s')∧D s')∨∃ r,B i s=some (.ret r)∧J r):G (outK (z0b B n 0 s) kn kr):=by
 rcases zim I D J h0 hs hD with ⟨s',h1,h2⟩ | ⟨r,h1,h2⟩
 ·rw [h1]; exact hk s' h2
 ·rw [h1]; exact hr r h2
theorem zd2 [Inhabited X] (a:List X) (x:X):(a++[x]).getD a.length default=x:=by simp [List.getD_eq_getElem?_getD]
theorem zlw [Inhabited X] (a b:List X) (x:X):(a++x :: b).getD a.length default=x:=by simp [List.getD_eq_getElem?_getD]
theorem zj1 (a b:List X) (x y:X):(a++x :: b).set a.length y=a++y :: b:=by simp [List.set_append]
def PR (num : α → Int) (l:List α):List (α × Int):=l.map fun x=>(x,num x)
theorem zga (num : α → Int) (l l' : List α):PR num (l++l')=PR num l++PR num l':=by simp [PR]
theorem z9o {num : α → Int} {l:List α} {p : α × Int}:p ∈ PR num l↔∃ x ∈ l,(x,num x)=p:=by simp [PR]
theorem zhc {c : α → α → Int} {y : α}:∀ {l:List (α × Int)},(∀ p ∈ l,in64 p.2) → -9223372036854775808 * (l.length:Int)≤sm c l y∧sm c l y≤9223372036854775808 * (l.length:Int)
 | [],_=>by simp [sm]
 | p :: l,h=>by
  have h1:=zhc (c:=c) (y:=y) (l:=l) fun q hq=>h q (List.mem_cons_of_mem _ hq)
  have h2:=h p (List.mem_cons_self ..)
  unfold in64 at h2
  simp only [sm,List.length_cons]
  split <;> omega
theorem zh9 {c : α → α → Int} {num : α → Int} {put : α → Int → α} {l l' : List (α × Int)} {R:List α} {e:Int} (hp:l.Perm l') (h:Tot c num put l R e):Tot c num put l' R e:=by
 have hs:∀ y,sm c l y=sm c l' y:=ziv hp
 rcases h with ⟨h1,h2,h3⟩ | ⟨h1,h2,h3⟩
 ·refine .inl ⟨h1,⟨h2.strict,fun r hr => ?_,fun r hr => ?_,fun y hy hn => ?_⟩,fun y => ?_⟩
  ·rw [← hs]; exact h2.sum r hr
  ·obtain ⟨y,g1,g2⟩:=h2.mem r hr
   exact ⟨y,hp.mem_iff.1 g1,g2⟩
  ·exact h2.all y (hp.mem_iff.2 hy) (by rw [hs]; exact hn)
  ·rw [← hs]; exact h3 y
 ·refine .inr ⟨h1,h2,fun h=>h3 fun y => ?_⟩
  rw [hs]; exact h y
theorem zkt (put : α → Int → α) (S S' : List (α × Int)):left0 put (S++S')=left0 put S++left0 put S':=by simp [left0]
theorem zko (put : α → Int → α) (p : α × Int):left0 put [p]=if p.2=0 then [] else [put p.1 p.2]:=by
 unfold left0
 by_cases h:p.2=0 <;> simp [h]
theorem zg3 (put : α → Int → α) (S:List (α × Int)):(left0 put S).length≤S.length:=by
 unfold left0
 rw [List.length_map]
 exact List.length_filter_le _ _
def fit64 (s:Int):Int × Int:=if -9223372036854775808≤s∧s < 9223372036854775808 then (s,0) else (0,10)
theorem zh7 {s:Int} (h:in64 s):fit64 s=(s,0):=if_pos h
theorem zg7 {s:Int} (h:¬ in64 s):fit64 s=(0,10):=if_neg h
def repT (t:Tally) (s:Int):Prop:=inU64 t.high∧inU64 t.low∧(t.high * 18446744073709551616 + t.low - s) % 340282366920938463463374607431768211456=0
end
end Go.Av
namespace Go.Av
open Go
set_option linter.unusedVariables false
set_option linter.unusedSimpArgs false
def cU (a b:Update):Int:=thenC (cmpL cmpV a.key b.key) (thenC (cmpL cmpV a.row b.row) (cmpT a.time b.time))
theorem cU_is:IsCmp cU:=(zdi.list.on fun u:Update=>u.key).lex ((zdi.list.on fun u:Update=>u.row).lex (zit.on fun u:Update=>u.time))
theorem z9z (a b:Update):z2j a b=some (cU a b):=by
 unfold z2j cU
 simp only [z9r,z2a,zf4,Option.bind_some]
def z3e (x:Update) (n:Int):Update:=⟨x.key,x.row,x.time,n⟩
theorem zjk {x:Update} {n:Int} (h:x.row.length≤8):z5r x n=some (z3e x n):=rfl
def z8m (x:Line_Update) (p:Update × Int):Prop:=x.of=p.1∧repT x.tally p.2
theorem zjn {a:List Line_Update} {x:Line_Update} {p s:Int} (hp:in64 p) (h:repT x.tally s) :
  ∃ t:Tally,z30 a.length p (a++[x])=some (a++[(⟨t,x.of⟩:Line_Update)])∧repT t (s + p):=by
 obtain ⟨hh,hl,hs⟩:=h
 unfold in64 inU64 repT at *
 unfold z30 z7r
 simp only [zd2,zj1,List.length_set,List.length_append,List.length_singleton,shr63 hp,z8a]
 rw [z06 (by omega),z06 (by omega)]
 simp only [Option.bind_some]
 rw [z06 (by omega),z06 (by omega),z06 (by split <;> omega)]
 simp only [Option.bind_some]
 rw [z06 (by omega)]
 refine ⟨_,rfl,?_,?_,?_⟩
 ·simp only [inU64]; omega
 ·simp only [inU64]; omega
 ·simp only; split <;> omega
theorem zje {x:Line_Update} {s:Int} (h:repT x.tally s) (hb : -85070591730234615865843651857942052864≤s∧s≤85070591730234615865843651857942052864):z33 x=some ((fit64 s).1,(fit64 s).2,x):=by
 obtain ⟨hh,hl,hs⟩:=h
 unfold inU64 at *
 have hw:in64 (IntKind.i64.wrap x.tally.low):=by unfold in64; rw [zbh]; split <;> omega
 unfold z33
 rw [shr63 hw,z8a]
 by_cases h : -9223372036854775808≤s∧s < 9223372036854775808
 ·rw [zh7 h]
  have e1:IntKind.i64.wrap x.tally.low=s:=by rw [zbh]; split <;> omega
  rw [e1]
  have e2:x.tally.high=(if s < 0 then (-1:Int) else 0) % 18446744073709551616:=by split <;> omega
  rw [decide_eq_true e2]
  rfl
 ·rw [zg7 h]
  have e2:¬ x.tally.high=(if IntKind.i64.wrap x.tally.low < 0 then (-1:Int) else 0) % 18446744073709551616:=by
   rw [zbh]
   split <;> split <;> omega
  rw [decide_eq_false e2]
  rfl
theorem zka:z1z=rotG (α:=Update):=rfl
theorem zkc:z17=insG (α:=Update) z2j:=rfl
theorem zgl:∀ (fuel:Nat) (a b d:Int) (l:List Update),z0f fuel a b d l=symG (α:=Update) z2j fuel a b d l
 | 0,_,_,_,_=>rfl
 | fuel + 1,a,b,d,l=>by
  unfold z0f symG
  simp only [zka,zgl fuel]
theorem zjm (fuel:Nat) (n:Int) (l:List Update):z1q fuel n l=stabG (α:=Update) z2j fuel n l:=by
 unfold z1q stabG
 simp only [zkc,zgl]
theorem zi6 {fuel:Nat} {l:List Update} (hl:∀ x ∈ l,in64 x.diff) (hr:∀ x ∈ l,x.row.length≤8) (hn:l.length≤4000000) (hf:20000000≤fuel) :
  ∃ R e l',z0h fuel l=some (R,e,l')∧Tot cU (fun x=>x.diff) z3e (PR (fun x=>x.diff) l) R e∧R.length≤l.length:=by
 obtain ⟨r1,h1,h2,h3⟩:=zjd (c:=cU) z9z cU_is (fuel:=fuel) (l:=l) (by omega) (by omega)
 have hlen:r1.length=l.length:=h2.length_eq
 unfold z0h z0l
 rw [zjm,h1]
 simp only [Option.bind_some]
 rw [z06 hlen]
 suffices hS:∃ R e,(_:Option ((List Update) × Int × (List Update)))=some (R,e,r1)∧Tot cU (fun x=>x.diff) z3e (PR (fun x=>x.diff) r1) R e∧R.length≤r1.length by
  obtain ⟨R,e,g1,g2,g3⟩:=hS
  refine ⟨R,e,r1,?_,zh9 ?_ g2,by omega⟩
  ·exact g1
  ·exact h2.map _
 have hl1:∀ x ∈ r1,in64 x.diff:=fun x hx=>hl x (h2.mem_iff.1 hx)
 have hr1:∀ x ∈ r1,x.row.length≤8:=fun x hx=>hr x (h2.mem_iff.1 hx)
 refine z9y (G:=fun q=>∃ R e,q=some (R,e,r1)∧Tot cU (fun x=>x.diff) z3e (PR (fun x=>x.diff) r1) R e∧R.length≤r1.length) (P:=fun a=>∃ S,R2 z8m a S∧SS cU (PR (fun x=>x.diff) r1) S∧S.length≤r1.length) ?_ ?_
 ·have:=fun B h=>zf1 (R:=Empty) (B:=B) (n:=r1.length) (fun i (a:List Line_Update)=>∃ S,R2 z8m a S∧SS cU (PR (fun x=>x.diff) (r1.take i)) S∧S.length≤i) (s:=([]:List Line_Update)) ⟨[],.nil,znv,Nat.le_refl _⟩ h
  simp only [List.take_length] at this
  refine this _ ?_
  rintro i a hi ⟨S,k1,k2,k3⟩
  have hx:=hl1 _ (z42 hi)
  rw [Nat.zero_add,z06 hi]
  have htk:PR (fun x:Update=>x.diff) (r1.take (i + 1))=PR (fun x=>x.diff) (r1.take i)++[(r1.getD i default,(r1.getD i default).diff)]:=by
   rw [z2r hi,zga]; rfl
  have hle:∀ p ∈ S,cU p.1 (r1.getD i default)≤0:=fun p hp=>by
   obtain ⟨y,g1,g2⟩:=k2.mem p hp
   obtain ⟨z,g3,g4⟩:=z9o.1 g1
   obtain ⟨j,hj,g5⟩:=List.mem_iff_getElem.1 g3
   rw [List.length_take] at hj
   have:=h3 j i (by omega) hi
   rw [← g2,← g4]
   simp only
   rw [← g5,List.getElem_take]
   rw [List.getD_eq_getElem?_getD,List.getElem?_eq_getElem (by omega:j < r1.length)] at this
   exact this
  generalize hxe:r1.getD i default=x at *
  rw [htk]
  clear htk
  let G:Option (Ctl (List Line_Update) Empty)→Prop:=fun q=>∃ s',q=some (.next s')∧∃ S,R2 z8m s' S∧SS cU (PR (fun x=>x.diff) (r1.take i)++[(x,x.diff)]) S∧S.length≤i + 1
  refine jn_P (G:=G) (P:=fun b=>∃ (b' : List Line_Update) (y:Line_Update) (S' : List (Update × Int)) (s:Int),b=b' ++ [y]∧b.length≤i + 1∧R2 z8m b' S' ∧ repT y.tally s∧SS cU (PR (fun x=>x.diff) (r1.take i)++[(x,x.diff)]) (S' ++ [(y.of,s + x.diff)])) ?_ ?_
  ·rintro _ ⟨b',y,S',s,rfl,q0,q1,q2,q3⟩
   simp only [List.length_append,List.length_singleton] at q0 ⊢
   rw [wsub1 (by omega) (by omega),z06 (by omega)]
   obtain ⟨t,g1,g2⟩:=zjn (a:=b') (x:=y) hx q2
   unfold z5l
   simp only [Option.bind_some,Nat.add_sub_cancel,Nat.zero_add,Int.toNat_natCast]
   rw [g1]
   simp only [Option.bind_some]
   rw [z06 (by simp)]
   refine ⟨_,rfl,_,R2.app q1 (R2.one (show z8m ⟨t,y.of⟩ (y.of,s + x.diff) from ⟨rfl,g2⟩)),q3,?_⟩
   have:=q1.len
   simp only [List.length_append,List.length_singleton]
   omega
  ·simp only [jn_eq,z07]
   have hlen2:=k1.len
   rcases List.eq_nil_or_concat S with rfl | ⟨A,p,rfl⟩
   ·have ha:a=[]:=List.eq_nil_of_length_eq_zero hlen2
    subst ha
    rw [if_pos (by simp),z39,z06 (by simp)]
    refine ⟨_,⟨[],_,[],0,rfl,by simp,.nil,by simp [repT,inU64],?_⟩,rfl⟩
    have:=zke (A:=[]) (B:=[]) (x:=x) (n:=x.diff) cU_is k2 (fun p hp=>by cases hp) (fun p hp=>by cases hp)
    simpa using this
   ·simp only [List.concat_eq_append] at *
    obtain ⟨a1,a2,rfl,u1,u2⟩:=R2.split k1
    cases u2 with
    | @cons y _ _ _ v t =>
     cases t
     obtain ⟨v1,v2⟩:=v
     have e1:(a1++[y]).length=a1.length + 1:=by simp
     have e2:=u1.len
     simp only [List.length_append,List.length_singleton] at k3
     rw [if_neg (by omega),e1,wsub1 (by omega) (by omega),z06 (by omega)]
     simp only [Nat.add_sub_cancel,Nat.zero_add,Int.toNat_natCast,zd2]
     rw [z06 (by omega),z9z,v1]
     simp only [Option.bind_some]
     by_cases g:cU p.1 x=0
     ·rw [decide_eq_true g]
      simp only [Bool.not_true,z0e]
      refine ⟨_,⟨a1,y,A,p.2,rfl,by omega,u1,v2,?_⟩,?_⟩
      ·rw [v1]
       exact znq cU_is k2 g
      ·rw [e1,wsub1 (by omega) (by omega)]
       simp only [Nat.add_sub_cancel,Int.toNat_natCast]
     ·rw [decide_eq_false g]
      simp only [Bool.not_false,z39]
      rw [z06 (by simp; omega)]
      refine ⟨_,⟨a1++[y],_,A++[p],0,rfl,by simp; omega,k1,by simp [repT,inU64],?_⟩,rfl⟩
      have:=zke (A:=A++[p]) (B:=[]) (x:=x) (n:=x.diff) cU_is (by simpa using k2) (fun q hq=>by
       have h4:=hle p (by simp)
       have h5:cU q.1 p.1≤0:=by
        rcases List.mem_append.1 hq with hq | hq
        ·have h6:=k2.strict
         rw [List.pairwise_append] at h6
         have:=h6.2.2 q hq p (by simp)
         omega
        ·rw [List.mem_singleton.1 hq,cU_is.refl]; omega
       have h7:=cU_is.tr _ _ _ h5 h4
       by_cases h8:cU q.1 x=0
       ·exfalso
        have h9:cU x p.1≤0:=by rw [← cU_is.eqL p.1 h8]; exact h5
        have:=cU_is.anti p.1 x
        omega
       ·omega) (fun q hq=>by cases hq)
      simpa using this
 ·rintro a ⟨S,k1,k2,k3⟩
  have hb:∀ i,i < S.length → -85070591730234615865843651857942052864≤(S.getD i default).2∧(S.getD i default).2≤85070591730234615865843651857942052864:=fun i hi=>by
   rw [k2.sum _ (z42 hi)]
   have:=zhc (c:=cU) (y:=(S.getD i default).1) (l:=PR (fun x=>x.diff) r1) (fun p hp=>by
    obtain ⟨z,g1,g2⟩:=z9o.1 hp
    rw [← g2]; exact hl1 z g1)
   have e:(PR (fun x:Update=>x.diff) r1).length=r1.length:=by simp [PR]
   rw [e] at this
   omega
  have hrow:∀ i,i < S.length→(S.getD i default).1.row.length≤8:=fun i hi=>by
   obtain ⟨y,g1,g2⟩:=k2.mem _ (z42 hi)
   obtain ⟨z,g3,g4⟩:=z9o.1 g1
   rw [← g2,← g4]
   exact hr1 z g3
  have hlen2:=k1.len
  rw [hlen2]
  refine z88 (G:=fun q=>∃ R e,q=some (R,e,r1)∧Tot cU (fun x=>x.diff) z3e (PR (fun x=>x.diff) r1) R e∧R.length≤r1.length) (fun i (b:List Update)=>(∀ j,j < i→in64 (S.getD j default).2)∧b=left0 z3e (S.take i)) (fun b=>(∀ j,j < S.length→in64 (S.getD j default).2)∧b=left0 z3e S) (fun r=>r=([],10,r1)∧∃ j,j < S.length∧¬ in64 (S.getD j default).2) ⟨fun j hj=>by omega,rfl⟩ (fun b hb=>by
   rw [List.take_length] at hb; exact hb) ?_ ?_ ?_
  rotate_left 2
  ·rintro i b hi ⟨m1,m2⟩
   obtain ⟨v1,v2⟩:=k1.get hi
   rw [Nat.zero_add,z06 hi,zje v2 (hb i hi)]
   simp only [Option.bind_some,z47,z07]
   by_cases g:in64 (S.getD i default).2
   ·left
    rw [zh7 g,v1]
    have hput:=zjk (x:=(S.getD i default).1) (n:=(S.getD i default).2) (hrow i hi)
    have hlb:b.length≤i:=by
     rw [m2]
     have:=zg3 z3e (S.take i)
     rw [List.length_take] at this
     omega
    rw [z2r hi,zkt,zko,← m2]
    have m3:∀ j,j < i + 1→in64 (S.getD j default).2:=fun j hj=>by
     by_cases e:j=i
     ·subst e; exact g
     ·exact m1 j (by omega)
    by_cases g2:(S.getD i default).2=0
    ·exact ⟨b,by simp only [if_true,if_pos g2],m3,by rw [if_pos g2,List.append_nil]⟩
    ·refine ⟨b++[z3e (S.getD i default).1 (S.getD i default).2],?_,m3,by rw [if_neg g2]⟩
     simp only [if_true,if_neg g2,hput,Option.bind_some]
     rw [z06 (by simp; omega)]
   ·right; right
    rw [zg7 g]
    exact ⟨_,rfl,rfl,i,hi,g⟩
  ·rintro b ⟨g2,g3⟩
   refine ⟨_,_,rfl,.inl ⟨rfl,?_,?_⟩,by rw [g3]; have:=zg3 z3e S; omega⟩
   ·rw [g3]
    exact znl (num:=fun x=>x.diff) (put:=z3e) cU_is (fun x n=>rfl) (fun x n y=>rfl) k2
   ·rw [zj6 cU_is k2]
    intro p hp
    obtain ⟨j,hj,e⟩:=List.mem_iff_getElem.1 hp
    have:=g2 j hj
    rw [List.getD_eq_getElem?_getD,List.getElem?_eq_getElem hj] at this
    rw [← e]; exact this
  ·rintro r ⟨g2,j,g3,g4⟩
   rw [g2]
   refine ⟨_,_,rfl,.inr ⟨rfl,rfl,?_⟩,Nat.zero_le _⟩
   rw [zj6 cU_is k2]
   intro h
   exact g4 (h _ (z42 g3))
end Go.Av
namespace Go.Av
open Go
set_option linter.unusedVariables false
set_option linter.unusedSimpArgs false
def cK (a b:Count):Int:=cmpL cmpV a.row b.row
def zm6 (x:Count) (n:Int):Count:=⟨x.row,n⟩
end Go.Av
namespace Go.Av
open Go
set_option linter.unusedVariables false
set_option linter.unusedSimpArgs false
theorem znb (v:Int):thenC 0 v=v:=rfl
theorem zdd {u v:Int} (h:u ≠ 0):thenC u v=u:=if_neg h
theorem zbu {X:Type} [Inhabited X] {R:Type} {B:Nat→Unit→Option (Ctl Unit R)} {l:List X} (e:X→Int) (f:Int→R) (hB:∀ i,i < l.length→B i ()=if e (l.getD i default)=0 then some (.next ()) else some (.ret (f (e (l.getD i default))))) :
  z0b B l.length 0 ()=if l.foldr (fun x v=>thenC (e x) v) 0=0 then some (.done ()) else some (.ret (f (l.foldr (fun x v=>thenC (e x) v) 0))):=by
 have key:∀ k i,i + k=l.length→z0b B k i ()=if (l.drop i).foldr (fun x v=>thenC (e x) v) 0=0 then some (.done ()) else some (.ret (f ((l.drop i).foldr (fun x v=>thenC (e x) v) 0))):=by
  intro k
  induction k with
  | zero =>
   intro i hi
   rw [List.drop_eq_nil_of_le (by omega)]
   rfl
  | succ k ih =>
   intro i hi
   rw [z1o (by omega:i < l.length)]
   simp only [z0b,hB i (by omega),List.foldr_cons]
   by_cases h:e (l.getD i default)=0
   ·simp only [h,if_true,znb]
    exact ih (i + 1) (by omega)
   ·simp only [zdd h,if_neg h]
 have:=key l.length 0 (by omega)
 rwa [List.drop_zero] at this
def errU (u:Update):Int:=thenC (if okRow u.key then 0 else 4) (thenC (if okRow u.row then 0 else 4) (if okT u.time then 0 else 1))
def chkL (l:List Update):Int:=l.foldr (fun u v=>thenC (errU u) v) 0
def okU (u:Update):Prop:=okRow u.key=true∧okRow u.row=true∧okT u.time=true
theorem zky {u:Update}:errU u=0↔okU u:=by
 unfold errU okU thenC
 by_cases h1:okRow u.key=true <;> by_cases h2:okRow u.row=true <;> by_cases h3:okT u.time=true <;> simp [h1,h2,h3]
theorem z94 {u v:Int}:thenC u v=0↔u=0∧v=0:=by unfold thenC; split <;> omega
theorem za9 {l:List Update}:chkL l=0↔∀ u ∈ l,okU u:=by
 induction l with
 | nil=>simp [chkL]
 | cons u l ih =>
  unfold chkL at *
  rw [List.foldr_cons,z94,zky,ih]
  simp
theorem zij (u v w:Int):thenC (thenC u v) w=thenC u (thenC v w):=by
 by_cases h1:u=0
 ·subst h1; rfl
 ·rw [zdd h1,zdd h1,zdd h1]
theorem zih (a b:List Update):chkL (a++b)=thenC (chkL a) (chkL b):=by
 induction a with
 | nil=>simp [chkL,thenC]
 | cons u a ih =>
  unfold chkL at *
  rw [List.cons_append,List.foldr_cons,List.foldr_cons,ih,zij]
theorem z9j {fuel:Nat} (hf:5 < fuel) (l:List Update):z4s fuel l=some (chkL l):=by
 unfold z4s
 rw [zbu errU (fun x=>x)]
 ·show outK (if chkL l=0 then _ else some (.ret (chkL l))) _ _=_
  split
  ·rename_i h; rw [h]; rfl
  ·rfl
 ·intro i hi
  rw [zc0,zc0,zb9 hf]
  simp only [Option.bind_some,znj,z47,z07]
  rfl
theorem zn4 {a b:Update} (ha:okU a) (hb:okU b) (h:cU a b=0) (hd:a.diff=b.diff):a=b:=by
 unfold cU at h
 rw [z94,z94,z9v (z7n ha.1).1 (z7n hb.1).1,z9v (z7n ha.2.1).1 (z7n hb.2.1).1,zk3] at h
 rcases a with ⟨k,r,t,d⟩; rcases b with ⟨k',r',t',d'⟩
 obtain ⟨e1,e2,e3⟩:=h
 simp only at e1 e2 e3 hd
 rw [e1,e2,e3,hd]
theorem zhh {p:List Value} (h:p.length≤8):z0t p=some p:=by
 unfold z0t
 rw [z06 (by omega)]
theorem zj2 {u:Update} (h:okU u):u.key.length≤8∧u.row.length≤8:=⟨(z7n h.1).2,(z7n h.2.1).2⟩
theorem zh0 {X:Type} [Inhabited X] {l:List X} {i:Nat} (h:i < l.length):l.set i (l.getD i default)=l:=by
 rw [List.getD_eq_getElem?_getD,List.getElem?_eq_getElem h]
 exact List.set_getElem_self h
theorem zf7 {l:List Update} (h:∀ u ∈ l,okU u) (hn:l.length≤4000000):z60 l=some l:=by
 unfold z60
 have hlim:(l.length:Int)≤(lim:Int):=by simp only [lim]; omega
 rw [z06 ⟨by omega,by omega,hlim⟩,z06 (by simp)]
 have e:copyL (List.replicate l.length ((⟨([]:List Value),([]:List Value),(⟨0,(0,0)⟩:Time),0⟩:Update):Update)) l=l:=by
  unfold copyL
  rw [List.drop_eq_nil_of_le (by simp)]
  simp
 rw [e]
 rw [z4w l (fun i a=>a=l) (fun s hs=>hs)]
 ·rfl
 ·intro i a hi ha
  subst ha
  obtain ⟨h1,h2⟩:=zj2 (h _ (z42 hi))
  refine ⟨_,?_,rfl⟩
  have e1:(⟨(a.getD i default).key,(a.getD i default).row,(a.getD i default).time,(a.getD i default).diff⟩:Update)=a.getD i default:=rfl
  simp only [Nat.zero_add]
  rw [z06 (by omega),z06 hi,zhh h1]
  simp only [Option.bind_some]
  rw [z06 (by omega),z06 hi,zhh h2]
  simp only [Option.bind_some]
  rw [z06 (by omega),z06 hi,z06 (by omega),z06 (by simp; exact hi),e1,zh0 hi,e1,zh0 hi]
 ·rfl
end Go.Av
namespace Go.Av
open Go
set_option linter.unusedVariables false
set_option linter.unusedSimpArgs false
set_option linter.unusedSectionVars false
section
variable {α:Type} [Inhabited α]
def growG (z : α) (p1:Int):Option (List α) :=
 bf (decide (p1 < 0)) (none) (jn (fun (a1:List α)=>some a1) fun j2=>bf (decide (0 < (IntKind.i64.wrap (p1 - (IntKind.i64.wrap ((0:Int) - 0)))))) (need ((0:Int) < (IntKind.i64.wrap (p1 - (IntKind.i64.wrap ((0:Int) - 0))))∧(IntKind.i64.wrap (p1 - (IntKind.i64.wrap ((0:Int) - 0))))≤(lim:Int)) <| need ((0:Int)≤0∧(0:Int)≤0∧(0:Int)≤((List.replicate ((IntKind.i64.wrap (p1 - (IntKind.i64.wrap ((0:Int) - 0)))).toNat) z).length:Int)) <| j2 ((List.replicate ((IntKind.i64.wrap (p1 - (IntKind.i64.wrap ((0:Int) - 0)))).toNat) z).take 0)) (j2 ([]:List α)))
def concG (z : α) (p0:List (List α)):Option (List α) :=
 outK (z0b (S:=Int) (R:=Empty) (fun i1 (a2:Int)=>bf (decide ((IntKind.i64.wrap (a2 + ((p0.getD i1 default).length:Int))) < 0)) (none) (some (.next (IntKind.i64.wrap (a2 + ((p0.getD i1 default).length:Int)))))) p0.length 0 0) (fun (a3:Int)=>(growG z a3).bind fun r4=>outK (z0b (S:=List α) (R:=Empty) (fun i5 (a6:List α)=>need (a6.length + (p0.getD i5 default).length≤274877906944) <| some (.next (a6++(p0.getD i5 default)))) p0.length 0 r4) (fun (a7:List α)=>some a7) (fun (x:Empty)=>x.elim)) (fun (x:Empty)=>x.elim)
theorem zgj {l:List (List α)} {i:Nat} (h:i < l.length):(l.take (i + 1)).flatten=(l.take i).flatten++l.getD i default:=by
 rw [z2r h]; simp
theorem zjc {l:List (List α)} {i:Nat} (h:i < l.length):l.flatten=(l.take i).flatten++(l.getD i default++(l.drop (i + 1)).flatten):=by
 have e:l=l.take i++l.getD i default :: l.drop (i + 1):=by rw [← z1o h,List.take_append_drop]
 have e2:=congrArg List.flatten e
 rw [List.flatten_append,List.flatten_cons] at e2
 exact e2
theorem zj0 {l:List (List α)} {i:Nat} (h:i < l.length):(l.take i).flatten.length + (l.getD i default).length≤l.flatten.length:=by
 have:=congrArg List.length (zjc h)
 simp only [List.length_append] at this
 omega
theorem zld {z : α} {n:Nat} (hn:n≤4000000):growG z (n:Int)=some []:=by
 unfold growG
 have e:IntKind.i64.wrap ((n:Int) - IntKind.i64.wrap ((0:Int) - 0))=(n:Int):=by
  rw [show IntKind.i64.wrap ((0:Int) - 0)=0 by rfl,z1w (by omega) (by omega)]; omega
 rw [e]
 simp only [z07,jn_eq]
 rw [if_neg (by omega)]
 split
 ·rw [z06 (by simp only [lim]; omega),z06 (by simp)]
  simp
 ·rfl
theorem zhf {z : α} {p0:List (List α)} (hn:p0.flatten.length≤4000000):concG z p0=some p0.flatten:=by
 unfold concG
 have h1:=fun B h=>z4w (R:=Empty) (B:=B) (n:=p0.length) (s:=(0:Int)) ((p0.flatten.length:Nat):Int) (fun i a=>a=(((p0.take i).flatten.length:Nat):Int)) (fun s hs=>by rw [hs,List.take_length]) h (by rfl)
 rw [h1]
 ·simp only [z3q,zld hn,Option.bind_some]
  rw [z4w p0.flatten (fun i a=>a=(p0.take i).flatten) (fun s hs=>by rw [hs,List.take_length])]
  ·rfl
  ·intro i a hi ha
   refine ⟨_,?_,rfl⟩
   have:=zj0 hi
   rw [z06 (by rw [ha]; omega),ha,zgj hi]
  ·rfl
 ·intro i a hi ha
  have:=zj0 hi
  refine ⟨_,?_,rfl⟩
  rw [ha,wadd (by omega),zgj hi,List.length_append]
  simp only [z07]
  rw [if_neg (by omega)]
end
end Go.Av
namespace Go.Av
open Go
set_option linter.unusedVariables false
set_option linter.unusedSimpArgs false
abbrev pU (l:List Update):List (Update × Int):=PR (fun x=>x.diff) l
abbrev pK (l:List Count):List (Count × Int):=PR (fun x=>x.n) l
abbrev TotU (l:List Update) (R:List Update) (e:Int):Prop:=Tot cU (fun x=>x.diff) z3e (pU l) R e
abbrev TotK (l:List Count) (R:List Count) (e:Int):Prop:=Tot cK (fun x=>x.n) zm6 (pK l) R e
theorem zbj {l R:List Update} {e:Int} (h:TotU l R e) (ho:∀ u ∈ l,okU u):∀ r ∈ R,okU r:=fun r hr=>by
 rcases h with ⟨_,h,_⟩ | ⟨_,rfl,_⟩
 ·obtain ⟨y,h1,h2⟩:=h.mem r hr
  obtain ⟨z,h3,h4⟩:=z9o.1 h1
  rw [h2,← h4]
  exact ho z h3
 ·cases hr
def zl1 (l R:List Update) (e:Int):Prop:=(chkL l ≠ 0∧R=[]∧e=chkL l)∨(chkL l=0∧TotU l R e)
theorem zey:∀ ls:List (List Update),ls.foldr (fun x v=>thenC (chkL x) v) 0=chkL ls.flatten
 | []=>rfl
 | l :: ls=>by rw [List.foldr_cons,List.flatten_cons,zih,zey ls]
theorem zmo {fuel:Nat} {ls:List (List Update)} (hf:20000000≤fuel) (hn:ls.flatten.length≤4000000) (hd:∀ u ∈ ls.flatten,in64 u.diff) :
  ∃ R e,z53 fuel ls=some (R,e)∧zl1 ls.flatten R e∧R.length≤ls.flatten.length:=by
 unfold z53
 rw [zbu chkL (fun w=>(([]:List Update),w)),zey]
 ·by_cases h:chkL ls.flatten=0
  ·rw [if_pos h]
   simp only [z3q]
   rw [show z0p ls=some ls.flatten from zhf hn]
   simp only [Option.bind_some]
   have ho:=za9.1 h
   obtain ⟨R,e,l',h1,h2,h3⟩:=zi6 (fuel:=fuel) hd (fun u hu=>(zj2 (ho u hu)).2) hn hf
   rw [h1]
   simp only [Option.bind_some]
   rw [zf7 (zbj h2 ho) (by omega)]
   exact ⟨R,e,rfl,.inr ⟨h,h2⟩,h3⟩
  ·rw [if_neg h]
   exact ⟨_,_,rfl,.inl ⟨h,rfl,rfl⟩,Nat.zero_le _⟩
 ·intro i hi
  rw [z9j (by omega)]
  simp only [Option.bind_some,z47,z07]
end Go.Av
namespace Go.Av
open Go
set_option linter.unusedVariables false
set_option linter.unusedSimpArgs false
theorem znk (l:List Update):z4q l l=some true:=by
 unfold z4q
 rw [decide_eq_true rfl,Bool.not_true,z0e]
 rw [z4w () (fun _ _=>True) (fun _ _=>rfl)]
 ·rfl
 ·intro i a hi ha
  refine ⟨(),?_,trivial⟩
  have e:z1r (l.getD i default).time (l.getD i default).time=true:=by simp [z1r]
  simp only [jn_eq,zjy,Option.bind_some,Bool.not_true,z0e,e,decide_true]
  rw [z06 (by omega),z06 (by omega),z06 (by omega),z06 (by omega)]
 ·trivial
theorem zi7 {l l' R R' : List Update} {e e' : Int} (h:TotU l R e) (h' : TotU l' R' e') (ho:∀ u ∈ l,okU u) (ho' : ∀ u ∈ l',okU u) (hs:∀ y,sm cU (pU l) y=sm cU (pU l') y):R=R' ∧ e=e' :=
 zjg cU_is h h' hs fun r hr r' hr' h1 h2=>zn4 (zbj h ho r hr) (zbj h' ho' r' hr') h1 h2
end Go.Av
namespace Go.Av
open Go
set_option linter.unusedVariables false
set_option linter.unusedSimpArgs false
theorem zm9 {l R:List Update} {e:Int} (h:TotU l R e) (ht:∀ u ∈ l,z1g u.time):∀ r ∈ R,z1g r.time:=fun r hr=>by
 rcases h with ⟨_,g,_⟩ | ⟨_,rfl,_⟩
 ·obtain ⟨y,h1,h2⟩:=g.mem r hr
  obtain ⟨z,h3,h4⟩:=z9o.1 h1
  rw [h2,← h4]
  exact ht z h3
 ·cases hr
end Go.Av
