import Derived.Test.YtgpkbkdmpdmmiaaGreatL10x4
import Derived.Test.YtgpkbkdmpdmmiaaGreatProg
import Derived.Sort.LotD3
import Derived.Sort.LotD4
import Derived.Sort.LotA
import Derived.Sort.LotB
import Derived.Sort.LotC
import Derived.Sort.AssemblyPlain
import Derived.Sort.LotD5
set_option maxRecDepth 100000
namespace Go.Av
open Go Go.Proofs
set_option linter.unusedVariables false
set_option linter.unusedSimpArgs false
theorem z68 {p0:Int} {q:List Value} (h:z4x p0=some q) :
  Summ Tryz.prog 45 [cD (dI p0)] [] (cD (lD 3 z05 q)) []:=by
 refine Summ.intro Tryz.func45 rfl (by kernel_rfl) (by kernel_rfl) [] rfl ?_
 rintro ⟨P,w0,G0,V,LL,lk,N, φ0,fx⟩ rfl rfl rfl rfl
 unfold z4x at h
 refine Tri.sg [0] [] (z00 1) ?_
 refine Tri.seqS ?_
 refine Tri.reg ?_
 refine At.seg 2 [4] [] (s':=⟨[(4,.agg [.d (.bool false),.d (dI p0),.d (.str (bs []))])],[]⟩) (by kernel_rfl) (z00 2) ?_
 refine At.one rfl (One.buildSlice (z:=[.d (.bool false),.d (dI 0),.d (.str (bs []))]) (cells:=[.d (.bool false),.d (dI p0),.d (.str (bs []))]) (xs:=List.map (z05) ([(⟨false,p0,(bs [])⟩:Value)]:List Value)) rfl rfl rfl rfl (by kernel_rfl) rfl rfl (by kernel_rfl) rfl rfl rfl (by kernel_rfl) rfl ⟨⟨rfl,.refl _⟩,trivial⟩) ?_
 refine At.le [5] (fun k hk h=>by first | (cases h; done) | (simp at hk h; omega)) ⟨[(5,cD (lD 3 z05 ([(⟨false,p0,(bs [])⟩:Value)]:List Value))),(4,.agg [.d (.bool false),.d (dI p0),.d (.str (bs []))])],[]⟩ ⟨⟨_,rfl,.c (.own rfl (List.mem_singleton.2 rfl) (Nat.le_of_ble_eq_true rfl) rfl (z2y (z05) ([(⟨false,p0,(bs [])⟩:Value)]:List Value)))⟩,⟨_,rfl,.refl _⟩,trivial⟩ trivial ?_
 refine At.sg 1 [2] [] (z00 1) ?_
 refine At.done rfl ?_
 refine Tri.ret ?_
 cases h
 exact RetAt.k
theorem z9k {fuel:Nat} {p0:List Update} {q:Bool} (h:z6e fuel p0=some q) :
    Summ Tryz.prog 59 [cD (lD 6 z01 p0)] [] (cD (.bool q)) []:=by
  refine Summ.intro Tryz.func59 rfl (by kernel_rfl) (by kernel_rfl) [] rfl ?_
  rintro ⟨P,w0,G0,V,LL,lk,N, φ0,fx⟩ rfl rfl rfl rfl
  unfold z6e at h
  refine Tri.sg [0] [] (z00 1) ?_
  refine Tri.seqS ?_
  refine Tri.sg [0,5,6,7] [] (z00 3) ?_
  refine Tri.ln 5 p0.length fun hlena2 => ?_
  refine Tri.rK 7 () (fun (x:Bool) s=>RetAt Tryz.prog Tryz.f59 (cD (.bool x)) [] s) (fun (a2:Unit)=>⟨[(0,cD (lD 6 z01 p0)),(5,cD (lD 6 z01 p0)),(6,cD (dI (p0.length:Int)))],[]⟩) [7,0,5,6] [] [8,7,0,5,6] [] [0,5,6] [] [7,0,5,6] [] h hlena2 ?_ ?_ ?_
  ·intro i1 a2 c hii1 h
   refine Tri.segL [0,3,4,5,6,7] [4] ⟨[(0,cD (lD 6 z01 p0)),(3,cD (dI ((i1:Nat):Int))),(4,.c (.ptr 4 0)),(5,cD (lD 6 z01 p0)),(6,cD (dI (p0.length:Int))),(7,cD (dI ((i1:Nat):Int)))],[(4,.box (cUpdate (p0.getD i1 default)))]⟩ _ (by kernel_rfl) (tN 1 (ai (show ((0:Int)≤((i1:Nat):Int)∧((i1:Nat):Int) < (p0.length:Int)) from ⟨by omega,by omega⟩) (z00 4))) ?_
   refine Tri.seqJ (fun (a5:Bool)=>⟨[(0,cD (lD 6 z01 p0)),(5,cD (lD 6 z01 p0)),(6,cD (dI (p0.length:Int))),(7,cD (dI ((i1:Nat):Int))),(28,cD (.bool a5))],[]⟩) h (fun a5 h => ?_) (fun j6 h => ?_)
   ·refine Tri.condK h (fun h => ?_) (fun h => ?_)
    ·refine Tri.sg [2] [] (z00 1) ?_
     refine Tri.ret ?_
     cases h
     exact RetAt.k
    ·refine Tri.kp [7,0,5,6] [] ?_
     refine Tri.skip ?_
     cases h
     exact kr
   ·rcases z20 h with ⟨hp7,h⟩ | ⟨hp7,h⟩
    ·refine Tri.dC [.a [4] [],.a [12] [4],.a [13] [],.m ⟨[(14,cD (.bool (decide ((p0.getD i1 default).diff=0))))],[]⟩ ⟨[(15,.c (.d (.bool true)))],[]⟩ [] [] [],.a [3,15] [],.a [15,16] [],.a [15,17] [],.a [0,18] [],.a [3,18] [],.a [18,20] [],.a [18,19,21] [],.a [18,22] [],.a [4,18] [4],.a [18,23,24] [],.a [18,25] [],.a [15,18,26] [],.a [15,27] []] [0,5,6,7,28] [] (z00 4) (.a (.a (.a (.m ?_ (.a (.a (.a (.a (.a (.a (.a (.a (.a (.a (.a (.a (.a .z))))))))))))))))) ?_
     · exact DOk.stepP (fun b => .val (.c (.d (.bool b))) (True)) (p:=(decide ((p0.getD i1 default).diff=0))) hp7 (fun r=>by kernel_rfl) (fun r=>by kernel_rfl) trivial (by kernel_rfl) (by kernel_rfl) (fun r=>rfl)
     exact ⟨_,h,kr⟩
    ·rcases z20 h with ⟨hp8,h⟩ | ⟨hp8,h⟩
     ·obtain ⟨hc9,h⟩:=z03 h
      obtain ⟨r10,hr10,h⟩:=z04 h
      refine Tri.dC [.a [4] [],.a [12] [4],.a [13] [],.m ⟨[(14,cD (.bool (decide ((p0.getD i1 default).diff=0))))],[]⟩ ⟨[(15,.c (.d (.bool false)))],[]⟩ [] [] [],.a [3,15] [],.a [15,16] [],.m ⟨[(15,cD (.bool false)),(17,cD (.bool (decide (0 < ((i1:Nat):Int)))))],[]⟩ ⟨[(18,.c (.d (.bool true)))],[]⟩ [] [] [],.a [0,18] [],.a [3,18] [],.a [18,20] [],.a [18,19,21] [],.a [18,22] [],.a [4,18] [4],.m ⟨[(18,cD (.bool true)),(23,.agg (cUpdate (p0.getD ((IntKind.i64.wrap (((i1:Nat):Int) - 1)).toNat) default))),(24,.agg (cUpdate (p0.getD i1 default)))],[]⟩ ⟨[(25,cD (dI r10))],[]⟩ [] [] [],.a [18,25] [],.a [15,18,26] [],.a [15,27] []] [0,5,6,7,28] [] (tN 8 (ai hc9 (z00 5))) (.a (.a (.a (.m ?_ (.a (.a (.m ?_ (.a (.a (.a (.a (.a (.a (.m ?_ (.a (.a (.a .z))))))))))))))))) ?_
      · exact DOk.stepP (fun b => .val (.c (.d (.bool b))) (True)) (p:=(decide ((p0.getD i1 default).diff=0))) hp7 (fun r=>by kernel_rfl) (fun r=>by kernel_rfl) trivial (by kernel_rfl) (by kernel_rfl) (fun r=>rfl)
      · exact DOk.stepP (fun b => .val (.c (.d (.bool b))) (True)) (p:=(decide (0 < ((i1:Nat):Int)))) hp8 (fun r=>by kernel_rfl) (fun r=>by kernel_rfl) trivial (by kernel_rfl) (by kernel_rfl) (fun r=>rfl)
      · exact DOk.cA [] [.agg (cUpdate (p0.getD ((IntKind.i64.wrap (((i1:Nat):Int) - 1)).toNat) default)),.agg (cUpdate (p0.getD i1 default))] (z3s hr10) fun r=>(.cons (.refl _) (.cons (.refl _) .nil))
      exact ⟨_,h,kr⟩
     ·refine Tri.dC [.a [4] [],.a [12] [4],.a [13] [],.m ⟨[(14,cD (.bool (decide ((p0.getD i1 default).diff=0))))],[]⟩ ⟨[(15,.c (.d (.bool false)))],[]⟩ [] [] [],.a [3,15] [],.a [15,16] [],.m ⟨[(15,cD (.bool false)),(17,cD (.bool (decide (0 < ((i1:Nat):Int)))))],[]⟩ ⟨[(18,.c (.d (.bool false)))],[]⟩ [] [] [],.a [0,18] [],.a [3,18] [],.a [18,20] [],.a [18,19,21] [],.a [18,22] [],.a [4,18] [4],.a [18,23,24] [],.a [18,25] [],.a [15,18,26] [],.a [15,27] []] [0,5,6,7,28] [] (z00 7) (.a (.a (.a (.m ?_ (.a (.a (.m ?_ (.a (.a (.a (.a (.a (.a (.a (.a (.a (.a .z))))))))))))))))) ?_
      · exact DOk.stepP (fun b => .val (.c (.d (.bool b))) (True)) (p:=(decide ((p0.getD i1 default).diff=0))) hp7 (fun r=>by kernel_rfl) (fun r=>by kernel_rfl) trivial (by kernel_rfl) (by kernel_rfl) (fun r=>rfl)
      · exact DOk.stepP (fun b => .val (.c (.d (.bool b))) (True)) (p:=(decide (0 < ((i1:Nat):Int)))) hp8 (fun r=>by kernel_rfl) (fun r=>by kernel_rfl) trivial (by kernel_rfl) (by kernel_rfl) (fun r=>rfl)
      exact ⟨_,h,kr⟩
  ·intro a3 h
   refine Tri.seqS ?_
   refine Tri.reg ?_
   refine At.sg 1 [30] [] (z00 1) ?_
   obtain ⟨r4,hr4,h⟩:=z04 h
   refine At.cA [] [cD (lD 6 z01 p0)] (zbf hr4) (.cons (.refl _) .nil) ?_
   refine At.sg 2 [2] [] (z00 2) ?_
   refine At.done rfl ?_
   refine Tri.ret ?_
   cases h
   exact RetAt.k
  · exact fun x s hx hr=>by cases hx; exact hr
theorem zcb {p0:Update} {p1:List Time} {q:Bool} (h:z4f p0 p1=some q) :
  Summ Tryz.prog 88 [.agg (cUpdate p0),cD (.cptr [lD 3 z02 p1])] [] (cD (.bool q)) []:=by
 refine Summ.intro Tryz.func88 rfl (by kernel_rfl) (by kernel_rfl) [] rfl ?_
 rintro ⟨P,w0,G0,V,LL,lk,N, φ0,fx⟩ rfl rfl rfl rfl
 unfold z4f at h
 refine Tri.le [] (fun k hk=>by cases hk) ⟨[(0,.agg (cUpdate p0)),(1,.c (.eptr [lD 3 z02 p1]))],[]⟩ ⟨⟨_,rfl,.refl _⟩,⟨_,rfl,.c (.cptrE _)⟩,trivial⟩ trivial ?_
 refine Tri.sg [1,2] [2] (z00 2) ?_
 refine Tri.seqS ?_
 obtain ⟨r1,hr1,h⟩:=z04 h
 refine Tri.dC [.a [2] [],.a [4] [2],.a [1] [],.m ⟨[(5,.agg (cTime p0.time)),(6,cD (lD 3 z02 p1))],[]⟩ ⟨[(7,.agg (cTime r1))],[]⟩ [] [] [],.a [2] [],.a [8] [2],.m ⟨[(7,.agg (cTime r1)),(9,.agg (cTime p0.time))],[]⟩ ⟨[(10,cD (.bool (!(z1o r1 p0.time))))],[]⟩ [] [] [],.a [10] []] [3] [] (z00 6) (.a (.a (.a (.m ?_ (.a (.a (.m ?_ (.a .z)))))))) ?_
 ·exact DOk.cA [] [.agg (cTime p0.time),cD (lD 3 z02 p1)] (z8m hr1) fun r=>(.cons (.refl _) (.cons (.refl _) .nil))
 ·exact DOk.one fun r _=>One.eql (b:=(z1o r1 p0.time)) (d:=9) rfl (by kernel_rfl) rfl (.inr rfl) rfl rfl (by kernel_rfl) rfl (by kernel_rfl)
 refine Tri.ret ?_
 cases h
 exact RetAt.k
theorem z2j {p0:List Update} {p1_0:List Time} {q:Int} (h:z0l p0 p1_0=some q) :
    Summ Tryz.prog 107 [cD (lD 6 z01 p0),cD (.fn 88 [.cptr [lD 3 z02 p1_0]])] [] (cD (dI q)) []:=by
  refine Summ.intro Tryz.func107 rfl (by kernel_rfl) (by kernel_rfl) [] rfl ?_
  rintro ⟨P,w0,G0,V,LL,lk,N, φ0,fx⟩ rfl rfl rfl rfl
  unfold z0l at h
  refine Tri.sg [0,1] [] (z00 1) ?_
  refine Tri.seqS ?_
  refine Tri.sg [0,1,7,8] [] (z00 3) ?_
  refine Tri.ln 0 p0.length fun hlena2 => ?_
  refine Tri.rK 8 () (fun (x:Int) s=>RetAt Tryz.prog Tryz.f107 (cD (dI x)) [] s) (fun (a2:Unit)=>⟨[(0,cD (lD 6 z01 p0)),(1,cD (.fn 88 [.cptr [lD 3 z02 p1_0]])),(7,cD (dI (p0.length:Int)))],[]⟩) [8,0,1,7] [] [9,8,0,1,7] [] [0,1,7] [] [8,0,1,7] [] h hlena2 ?_ ?_ ?_
  ·intro i1 a2 c hii1 h
   refine Tri.sg [0,1,5,7,8] [] (z00 2) ?_
   refine Tri.seqS ?_
   refine Tri.reg ?_
   refine At.sg 5 [0,1,5,7,8,11,15] [] (tN 3 (ai (show ((0:Int)≤((i1:Nat):Int)∧((i1:Nat):Int) < (p0.length:Int)) from ⟨by omega,by omega⟩) (z00 1))) ?_
   obtain ⟨r4,hr4,h⟩:=z04 h
   refine At.cA [.cptr [lD 3 z02 p1_0]] [.agg (cUpdate (p0.getD i1 default)),cD (.cptr [lD 3 z02 p1_0])] (zcb hr4) (.cons (.refl _) (.cons (.refl _) .nil)) ?_
   refine At.done rfl ?_
   refine Tri.condK h (fun h => ?_) (fun h => ?_)
   ·refine Tri.sg [4] [] (z00 2) ?_
    refine Tri.ret ?_
    cases h
    exact RetAt.k
   ·refine Tri.kp [8,0,1,7] [] ?_
    refine Tri.skip ?_
    cases h
    exact kr
  ·intro a3 h
   refine Tri.sg [4] [] (z00 1) ?_
   refine Tri.ret ?_
   cases h
   exact RetAt.k
  · exact fun x s hx hr=>by cases hx; exact hr
theorem z2h {p0:List Update} {p1_0:List Time} {q:Bool} (h:z0k p0 p1_0=some q) :
  Summ Tryz.prog 87 [cD (lD 6 z01 p0),cD (.fn 88 [.cptr [lD 3 z02 p1_0]])] [] (cD (.bool q)) []:=by
 refine Summ.intro Tryz.func87 rfl (by kernel_rfl) (by kernel_rfl) [] rfl ?_
 rintro ⟨P,w0,G0,V,LL,lk,N, φ0,fx⟩ rfl rfl rfl rfl
 unfold z0k at h
 refine Tri.sg [0,1] [] (z00 1) ?_
 refine Tri.seqS ?_
 refine Tri.reg ?_
 refine At.sg 2 [5,6] [] (z00 2) ?_
 obtain ⟨r1,hr1,h⟩:=z04 h
 refine At.cA [] [cD (lD 6 z01 p0),cD (.fn 88 [.cptr [lD 3 z02 p1_0]])] (z2j hr1) (.cons (.refl _) (.cons (.refl _) .nil)) ?_
 refine At.sg 2 [4] [] (z00 2) ?_
 refine At.done rfl ?_
 refine Tri.ret ?_
 cases h
 exact RetAt.k
theorem z9a {fuel:Nat} {p0:List Update} {p1:List Time} {q:Bool} (h:z56 fuel p0 p1=some q) :
    Summ Tryz.prog 47 [cD (lD 6 z01 p0),cD (lD 3 z02 p1)] [] (cD (.bool q)) []:=by
  refine Summ.intro Tryz.func47 rfl (by kernel_rfl) (by kernel_rfl) [] rfl ?_
  rintro ⟨P,w0,G0,V,LL,lk,N, φ0,fx⟩ rfl rfl rfl rfl
  unfold z56 at h
  refine Tri.sg [0,3] [3] (z00 2) ?_
  refine Tri.seqJ (fun (a1:Bool)=>⟨[(4,cD (.bool a1))],[]⟩) h (fun a1 h => ?_) (fun j2 h => ?_)
  ·refine Tri.ret ?_
   cases h
   exact RetAt.k
  ·refine Tri.reg ?_
   refine At.sg 1 [0,3,5] [3] (z00 1) ?_
   obtain ⟨r3,hr3,h⟩:=z04 h
   refine At.cA [] [cD (lD 6 z01 p0)] (z9k hr3) (.cons (.refl _) .nil) ?_
   refine At.sg 1 [0,3,7] [3] (z00 1) ?_
   refine At.cs [7] h (fun h => ?_) (fun h => ?_)
   ·refine At.seg 1 [3,7,8] [3] (s':=⟨[(3,.c (.ptr 3 0)),(7,cD (.bool true)),(8,cD (lD 6 z01 p0))],[(3,.box [.d (lD 3 z02 p1)])]⟩) (by kernel_rfl) (z00 1) ?_
    refine At.le [3] (fun k hk h=>by first | (cases h; done) | (simp at hk h; omega)) ⟨[(3,cD (.cptr [lD 3 z02 p1])),(7,cD (.bool true)),(8,cD (lD 6 z01 p0))],[]⟩ ⟨⟨_,rfl,.c (.box (ds:=[lD 3 z02 p1]) rfl (by simp))⟩,⟨_,rfl,.refl _⟩,⟨_,rfl,.refl _⟩,trivial⟩ trivial ?_
    refine At.seg 1 [9,3,7,8] [] (s':=⟨[(9,cD (.fn 88 [.cptr [lD 3 z02 p1]])),(3,cD (.cptr [lD 3 z02 p1])),(7,cD (.bool true)),(8,cD (lD 6 z01 p0))],[]⟩) (by kernel_rfl) (z00 1) ?_
    refine At.le [] (fun k hk=>by cases hk) ⟨[(9,cD (.fn 88 [.cptr [lD 3 z02 p1]])),(3,.c (.eptr [lD 3 z02 p1])),(7,cD (.bool true)),(8,cD (lD 6 z01 p0))],[]⟩ ⟨⟨_,rfl,.refl _⟩,⟨_,rfl,.c (.cptrE _)⟩,⟨_,rfl,.refl _⟩,⟨_,rfl,.refl _⟩,trivial⟩ trivial ?_
    obtain ⟨r4,hr4,h⟩:=z04 h
    refine At.cA [] [cD (lD 6 z01 p0),cD (.fn 88 [.cptr [lD 3 z02 p1]])] (z2h hr4) (.cons (.refl _) (.cons (.refl _) .nil)) ?_
    refine At.sg 3 [4] [] (z00 3) ?_
    refine At.done rfl ?_
    exact ⟨_,h,kr⟩
   ·refine At.sg 6 [4] [] (z00 2) ?_
    refine At.done rfl ?_
    exact ⟨_,h,kr⟩
theorem z6t {fuel:Nat} {p0:Batch} {q:Int} (h:z3f fuel p0=some q) :
    Summ Tryz.prog 15 [.agg (cBatch p0)] [] (cD (dI q)) []:=by
  refine Summ.intro Tryz.func15 rfl (by kernel_rfl) (by kernel_rfl) [] rfl ?_
  rintro ⟨P,w0,G0,V,LL,lk,N, φ0,fx⟩ rfl rfl rfl rfl
  unfold z3f at h
  refine Tri.sg [1] [1] (z00 2) ?_
  refine Tri.seqS ?_
  refine Tri.seqJ (fun (a1:Bool)=>⟨[(14,cD (.bool a1))],[]⟩) h (fun a1 h => ?_) (fun j2 h => ?_)
  ·refine Tri.condK h (fun h => ?_) (fun h => ?_)
   ·refine Tri.sg [2] [] (z00 1) ?_
    refine Tri.ret ?_
    cases h
    exact RetAt.k
   ·refine Tri.skip ?_
    refine Tri.sg [2] [] (z00 1) ?_
    refine Tri.ret ?_
    cases h
    exact RetAt.k
  ·refine Tri.reg ?_
   refine At.sg 2 [1,4] [1] (z00 2) ?_
   obtain ⟨r3,hr3,h⟩:=z04 h
   refine At.cA [] [cD (lD 3 z02 p0.since)] (z6q hr3) (.cons (.refl _) .nil) ?_
   refine At.sg 2 [1,7] [1] (z00 2) ?_
   refine At.cs [7] h (fun h => ?_) (fun h => ?_)
   ·refine At.sg 7 [14] [] (z00 1) ?_
    refine At.done rfl ?_
    exact ⟨_,h,kr⟩
   ·refine At.sg 4 [7,9,11] [] (z00 4) ?_
    obtain ⟨r4,hr4,h⟩:=z04 h
    refine At.cA [] [cD (lD 6 z01 p0.updates),cD (lD 3 z02 p0.since)] (z9a hr4) (.cons (.refl _) (.cons (.refl _) .nil)) ?_
    refine At.sg 2 [14] [] (z00 2) ?_
    refine At.done rfl ?_
    exact ⟨_,h,kr⟩
theorem z38 {p0:List Time} {p1_0:Time} {q:Int} (h:z0f p0 p1_0=some q) :
    Summ Tryz.prog 89 [cD (lD 3 z02 p0),cD (.fn 63 [.cptr [dU p1_0.epoch,dU p1_0.loop.1,dU p1_0.loop.2]])] [] (cD (dI q)) []:=by
  refine Summ.intro Tryz.func89 rfl (by kernel_rfl) (by kernel_rfl) [] rfl ?_
  rintro ⟨P,w0,G0,V,LL,lk,N, φ0,fx⟩ rfl rfl rfl rfl
  unfold z0f at h
  refine Tri.sg [0,1] [] (z00 1) ?_
  refine Tri.seqS ?_
  refine Tri.sg [0,1,7,8] [] (z00 3) ?_
  refine Tri.ln 0 p0.length fun hlena2 => ?_
  refine Tri.rK 8 () (fun (x:Int) s=>RetAt Tryz.prog Tryz.f89 (cD (dI x)) [] s) (fun (a2:Unit)=>⟨[(0,cD (lD 3 z02 p0)),(1,cD (.fn 63 [.cptr [dU p1_0.epoch,dU p1_0.loop.1,dU p1_0.loop.2]])),(7,cD (dI (p0.length:Int)))],[]⟩) [8,0,1,7] [] [9,8,0,1,7] [] [0,1,7] [] [8,0,1,7] [] h hlena2 ?_ ?_ ?_
  ·intro i1 a2 c hii1 h
   refine Tri.sg [0,1,5,7,8] [] (z00 2) ?_
   refine Tri.seqS ?_
   refine Tri.reg ?_
   refine At.sg 5 [0,1,5,7,8,11,15] [] (tN 3 (ai (show ((0:Int)≤((i1:Nat):Int)∧((i1:Nat):Int) < (p0.length:Int)) from ⟨by omega,by omega⟩) (z00 1))) ?_
   obtain ⟨r4,hr4,h⟩:=z04 h
   refine At.cA [.cptr [dU p1_0.epoch,dU p1_0.loop.1,dU p1_0.loop.2]] [.agg (cTime (p0.getD i1 default)),cD (.cptr [dU p1_0.epoch,dU p1_0.loop.1,dU p1_0.loop.2])] (z8d hr4) (.cons (.refl _) (.cons (.refl _) .nil)) ?_
   refine At.done rfl ?_
   refine Tri.condK h (fun h => ?_) (fun h => ?_)
   ·refine Tri.sg [4] [] (z00 2) ?_
    refine Tri.ret ?_
    cases h
    exact RetAt.k
   ·refine Tri.kp [8,0,1,7] [] ?_
    refine Tri.skip ?_
    cases h
    exact kr
  ·intro a3 h
   refine Tri.sg [4] [] (z00 1) ?_
   refine Tri.ret ?_
   cases h
   exact RetAt.k
  · exact fun x s hx hr=>by cases hx; exact hr
theorem z34 {p0:List Time} {p1_0:Time} {q:Bool} (h:z0d p0 p1_0=some q) :
  Summ Tryz.prog 51 [cD (lD 3 z02 p0),cD (.fn 63 [.cptr [dU p1_0.epoch,dU p1_0.loop.1,dU p1_0.loop.2]])] [] (cD (.bool q)) []:=by
 refine Summ.intro Tryz.func51 rfl (by kernel_rfl) (by kernel_rfl) [] rfl ?_
 rintro ⟨P,w0,G0,V,LL,lk,N, φ0,fx⟩ rfl rfl rfl rfl
 unfold z0d at h
 refine Tri.sg [0,1] [] (z00 1) ?_
 refine Tri.seqS ?_
 refine Tri.reg ?_
 refine At.sg 2 [5,6] [] (z00 2) ?_
 obtain ⟨r1,hr1,h⟩:=z04 h
 refine At.cA [] [cD (lD 3 z02 p0),cD (.fn 63 [.cptr [dU p1_0.epoch,dU p1_0.loop.1,dU p1_0.loop.2]])] (z38 hr1) (.cons (.refl _) (.cons (.refl _) .nil)) ?_
 refine At.sg 2 [4] [] (z00 2) ?_
 refine At.done rfl ?_
 refine Tri.ret ?_
 cases h
 exact RetAt.k
theorem zd0 {p0:List Time} {p1:Time} {q:Bool} (h:z3x p0 p1=some q) :
  Summ Tryz.prog 30 [cD (lD 3 z02 p0),.agg (cTime p1)] [] (cD (.bool q)) []:=by
 refine Summ.intro Tryz.func30 rfl (by kernel_rfl) (by kernel_rfl) [] rfl ?_
 rintro ⟨P,w0,G0,V,LL,lk,N, φ0,fx⟩ rfl rfl rfl rfl
 unfold z3x at h
 refine Tri.sg [0,3] [3] (z00 2) ?_
 refine Tri.seqS ?_
 refine Tri.reg ?_
 refine At.seg 1 [3,5] [3] (s':=⟨[(3,.c (.ptr 3 0)),(5,cD (lD 3 z02 p0))],[(3,.box (cTime p1))]⟩) (by kernel_rfl) (z00 1) ?_
 refine At.le [3] (fun k hk h=>by first | (cases h; done) | (simp at hk h; omega)) ⟨[(3,cD (.cptr [dU p1.epoch,dU p1.loop.1,dU p1.loop.2])),(5,cD (lD 3 z02 p0))],[]⟩ ⟨⟨_,rfl,.c (.box (ds:=[dU p1.epoch,dU p1.loop.1,dU p1.loop.2]) rfl (by simp))⟩,⟨_,rfl,.refl _⟩,trivial⟩ trivial ?_
 refine At.seg 1 [6,3,5] [] (s':=⟨[(6,cD (.fn 63 [.cptr [dU p1.epoch,dU p1.loop.1,dU p1.loop.2]])),(3,cD (.cptr [dU p1.epoch,dU p1.loop.1,dU p1.loop.2])),(5,cD (lD 3 z02 p0))],[]⟩) (by kernel_rfl) (z00 1) ?_
 refine At.le [] (fun k hk=>by cases hk) ⟨[(6,cD (.fn 63 [.cptr [dU p1.epoch,dU p1.loop.1,dU p1.loop.2]])),(3,.c (.eptr [dU p1.epoch,dU p1.loop.1,dU p1.loop.2])),(5,cD (lD 3 z02 p0))],[]⟩ ⟨⟨_,rfl,.refl _⟩,⟨_,rfl,.c (.cptrE _)⟩,⟨_,rfl,.refl _⟩,trivial⟩ trivial ?_
 obtain ⟨r1,hr1,h⟩:=z04 h
 refine At.cA [] [cD (lD 3 z02 p0),cD (.fn 63 [.cptr [dU p1.epoch,dU p1.loop.1,dU p1.loop.2]])] (z34 hr1) (.cons (.refl _) (.cons (.refl _) .nil)) ?_
 refine At.sg 1 [4] [] (z00 1) ?_
 refine At.done rfl ?_
 refine Tri.ret ?_
 cases h
 exact RetAt.k
theorem zcz {p0:Time} {p1:List Time} {q:Bool} (h:z8l p0 p1=some q) :
  Summ Tryz.prog 50 [.agg (cTime p0),cD (.cptr [lD 3 z02 p1])] [] (cD (.bool q)) []:=by
 refine Summ.intro Tryz.func50 rfl (by kernel_rfl) (by kernel_rfl) [] rfl ?_
 rintro ⟨P,w0,G0,V,LL,lk,N, φ0,fx⟩ rfl rfl rfl rfl
 unfold z8l at h
 refine Tri.le [] (fun k hk=>by cases hk) ⟨[(0,.agg (cTime p0)),(1,.c (.eptr [lD 3 z02 p1]))],[]⟩ ⟨⟨_,rfl,.refl _⟩,⟨_,rfl,.c (.cptrE _)⟩,trivial⟩ trivial ?_
 refine Tri.sg [1,2] [2] (z00 2) ?_
 refine Tri.seqS ?_
 refine Tri.reg ?_
 refine At.sg 2 [4,5] [] (z00 2) ?_
 obtain ⟨r1,hr1,h⟩:=z04 h
 refine At.cA [] [cD (lD 3 z02 p1),.agg (cTime p0)] (zd0 hr1) (.cons (.refl _) (.cons (.refl _) .nil)) ?_
 refine At.sg 2 [3] [] (z00 2) ?_
 refine At.done rfl ?_
 refine Tri.ret ?_
 cases h
 exact RetAt.k
theorem z32 {p0:List Time} {p1_0:List Time} {q:Int} (h:z1e p0 p1_0=some q) :
    Summ Tryz.prog 89 [cD (lD 3 z02 p0),cD (.fn 50 [.cptr [lD 3 z02 p1_0]])] [] (cD (dI q)) []:=by
  refine Summ.intro Tryz.func89 rfl (by kernel_rfl) (by kernel_rfl) [] rfl ?_
  rintro ⟨P,w0,G0,V,LL,lk,N, φ0,fx⟩ rfl rfl rfl rfl
  unfold z1e at h
  refine Tri.sg [0,1] [] (z00 1) ?_
  refine Tri.seqS ?_
  refine Tri.sg [0,1,7,8] [] (z00 3) ?_
  refine Tri.ln 0 p0.length fun hlena2 => ?_
  refine Tri.rK 8 () (fun (x:Int) s=>RetAt Tryz.prog Tryz.f89 (cD (dI x)) [] s) (fun (a2:Unit)=>⟨[(0,cD (lD 3 z02 p0)),(1,cD (.fn 50 [.cptr [lD 3 z02 p1_0]])),(7,cD (dI (p0.length:Int)))],[]⟩) [8,0,1,7] [] [9,8,0,1,7] [] [0,1,7] [] [8,0,1,7] [] h hlena2 ?_ ?_ ?_
  ·intro i1 a2 c hii1 h
   refine Tri.sg [0,1,5,7,8] [] (z00 2) ?_
   refine Tri.seqS ?_
   refine Tri.reg ?_
   refine At.sg 5 [0,1,5,7,8,11,15] [] (tN 3 (ai (show ((0:Int)≤((i1:Nat):Int)∧((i1:Nat):Int) < (p0.length:Int)) from ⟨by omega,by omega⟩) (z00 1))) ?_
   obtain ⟨r4,hr4,h⟩:=z04 h
   refine At.cA [.cptr [lD 3 z02 p1_0]] [.agg (cTime (p0.getD i1 default)),cD (.cptr [lD 3 z02 p1_0])] (zcz hr4) (.cons (.refl _) (.cons (.refl _) .nil)) ?_
   refine At.done rfl ?_
   refine Tri.condK h (fun h => ?_) (fun h => ?_)
   ·refine Tri.sg [4] [] (z00 2) ?_
    refine Tri.ret ?_
    cases h
    exact RetAt.k
   ·refine Tri.kp [8,0,1,7] [] ?_
    refine Tri.skip ?_
    cases h
    exact kr
  ·intro a3 h
   refine Tri.sg [4] [] (z00 1) ?_
   refine Tri.ret ?_
   cases h
   exact RetAt.k
  · exact fun x s hx hr=>by cases hx; exact hr
theorem z2s {p0:List Time} {p1_0:List Time} {q:Bool} (h:z19 p0 p1_0=some q) :
  Summ Tryz.prog 51 [cD (lD 3 z02 p0),cD (.fn 50 [.cptr [lD 3 z02 p1_0]])] [] (cD (.bool q)) []:=by
 refine Summ.intro Tryz.func51 rfl (by kernel_rfl) (by kernel_rfl) [] rfl ?_
 rintro ⟨P,w0,G0,V,LL,lk,N, φ0,fx⟩ rfl rfl rfl rfl
 unfold z19 at h
 refine Tri.sg [0,1] [] (z00 1) ?_
 refine Tri.seqS ?_
 refine Tri.reg ?_
 refine At.sg 2 [5,6] [] (z00 2) ?_
 obtain ⟨r1,hr1,h⟩:=z04 h
 refine At.cA [] [cD (lD 3 z02 p0),cD (.fn 50 [.cptr [lD 3 z02 p1_0]])] (z32 hr1) (.cons (.refl _) (.cons (.refl _) .nil)) ?_
 refine At.sg 2 [4] [] (z00 2) ?_
 refine At.done rfl ?_
 refine Tri.ret ?_
 cases h
 exact RetAt.k
theorem z82 {p0:List Time} {p1:List Time} {q:Bool} (h:z70 p0 p1=some q) :
    Summ Tryz.prog 17 [cD (lD 3 z02 p0),cD (lD 3 z02 p1)] [] (cD (.bool q)) []:=by
  refine Summ.intro Tryz.func17 rfl (by kernel_rfl) (by kernel_rfl) [] rfl ?_
  rintro ⟨P,w0,G0,V,LL,lk,N, φ0,fx⟩ rfl rfl rfl rfl
  unfold z70 at h
  refine Tri.segL [0,3] [3] ⟨[(0,cD (lD 3 z02 p0)),(3,.c (.ptr 3 0))],[(3,.box [.d (lD 3 z02 p1)])]⟩ _ (by kernel_rfl) (z00 2) ?_
  refine Tri.seqS ?_
  refine Tri.reg ?_
  refine At.le [3] (fun k hk h=>by first | (cases h; done) | (simp at hk h; omega)) ⟨[(0,cD (lD 3 z02 p0)),(3,cD (.cptr [lD 3 z02 p1]))],[]⟩ ⟨⟨_,rfl,.refl _⟩,⟨_,rfl,.c (.box (ds:=[lD 3 z02 p1]) rfl (by simp))⟩,trivial⟩ trivial ?_
  refine At.seg 1 [6,0,3] [] (s':=⟨[(6,cD (.fn 50 [.cptr [lD 3 z02 p1]])),(0,cD (lD 3 z02 p0)),(3,cD (.cptr [lD 3 z02 p1]))],[]⟩) (by kernel_rfl) (z00 1) ?_
  refine At.le [] (fun k hk=>by cases hk) ⟨[(6,cD (.fn 50 [.cptr [lD 3 z02 p1]])),(0,cD (lD 3 z02 p0)),(3,.c (.eptr [lD 3 z02 p1]))],[]⟩ ⟨⟨_,rfl,.refl _⟩,⟨_,rfl,.refl _⟩,⟨_,rfl,.c (.cptrE _)⟩,trivial⟩ trivial ?_
  refine At.sg 1 [0,3,5] [] (z00 1) ?_
  refine At.done rfl ?_
  refine Tri.seqJ (fun (a1:Bool)=>⟨[(4,cD (.bool a1))],[]⟩) h (fun a1 h => ?_) (fun j2 h => ?_)
  ·refine Tri.ret ?_
   cases h
   exact RetAt.k
  ·refine Tri.reg ?_
   refine At.sg 4 [0,5,10] [] (z00 4) ?_
   refine At.cs [10] h (fun h => ?_) (fun h => ?_)
   ·refine At.sg 11 [4] [] (z00 2) ?_
    refine At.done rfl ?_
    exact ⟨_,h,kr⟩
   ·refine At.sg 4 [0,5,10,14] [] (z00 4) ?_
    refine At.cs [14] h (fun h => ?_) (fun h => ?_)
    ·refine At.sg 2 [10,14,15,16] [] (z00 2) ?_
     obtain ⟨r3,hr3,h⟩:=z04 h
     refine At.cA [] [cD (lD 3 z02 p0),cD (.fn 50 [.cptr [lD 3 z02 p1]])] (z2s hr3) (.cons (.refl _) (.cons (.refl _) .nil)) ?_
     refine At.sg 4 [4] [] (z00 4) ?_
     refine At.done rfl ?_
     exact ⟨_,h,kr⟩
    ·refine At.sg 7 [4] [] (z00 3) ?_
     refine At.done rfl ?_
     exact ⟨_,h,kr⟩
theorem zbp {p0:Merger} {q:Merger} (h:z69 p0=some q) :
  Summ Tryz.prog 54 [.agg (cMerger p0)] [] (.agg (cMerger q)) []:=by
 refine Summ.intro Tryz.func54 rfl (by kernel_rfl) (by kernel_rfl) [] rfl ?_
 rintro ⟨P,w0,G0,V,LL,lk,N, φ0,fx⟩ rfl rfl rfl rfl
 unfold z69 at h
 refine Tri.sg [1,2] [1,2] (z00 2) ?_
 refine Tri.seqS ?_
 obtain ⟨r1,hr1,h⟩:=z04 h
 obtain ⟨r2,hr2,h⟩:=z04 h
 obtain ⟨r3,hr3,h⟩:=z04 h
 obtain ⟨r4,hr4,h⟩:=z04 h
 refine Tri.dC [.a [1] [],.a [3] [1],.m ⟨[(4,cD (lD 6 z01 p0.a))],[]⟩ ⟨[(5,cD (lD 6 z01 r1))],[]⟩ [] [] [],.a [1] [],.a [6] [1],.m ⟨[(7,cD (lD 6 z01 p0.b))],[]⟩ ⟨[(8,cD (lD 6 z01 r2))],[]⟩ [] [] [],.a [1] [],.a [9] [1],.m ⟨[(10,cD (lD 6 z01 p0.out))],[]⟩ ⟨[(11,cD (lD 6 z01 r3))],[]⟩ [] [] [],.a [1] [],.a [12] [1],.m ⟨[(13,cD (lD 3 z02 p0.since))],[]⟩ ⟨[(14,cD (lD 3 z02 r4))],[]⟩ [] [] [],.a [1] [],.m ⟨[(5,cD (lD 6 z01 r1)),(15,.c (.ptr 1 0))],[(1,.box (cMerger p0))]⟩ ⟨[],[(1,.box [.d (lD 6 z01 r1),.d (lD 6 z01 p0.b),.d (dI p0.i),.d (dI p0.j),.d (lD 3 z02 p0.since),.d (lD 6 z01 p0.out)])]⟩ [] [] [],.a [1] [],.m ⟨[(8,cD (lD 6 z01 r2)),(16,.c (.ptr 1 1))],[(1,.box [.d (lD 6 z01 r1),.d (lD 6 z01 p0.b),.d (dI p0.i),.d (dI p0.j),.d (lD 3 z02 p0.since),.d (lD 6 z01 p0.out)])]⟩ ⟨[],[(1,.box [.d (lD 6 z01 r1),.d (lD 6 z01 r2),.d (dI p0.i),.d (dI p0.j),.d (lD 3 z02 p0.since),.d (lD 6 z01 p0.out)])]⟩ [] [] [],.a [1] [],.m ⟨[(11,cD (lD 6 z01 r3)),(17,.c (.ptr 1 5))],[(1,.box [.d (lD 6 z01 r1),.d (lD 6 z01 r2),.d (dI p0.i),.d (dI p0.j),.d (lD 3 z02 p0.since),.d (lD 6 z01 p0.out)])]⟩ ⟨[],[(1,.box [.d (lD 6 z01 r1),.d (lD 6 z01 r2),.d (dI p0.i),.d (dI p0.j),.d (lD 3 z02 p0.since),.d (lD 6 z01 r3)])]⟩ [] [] [],.a [1] [],.m ⟨[(14,cD (lD 3 z02 r4)),(18,.c (.ptr 1 4))],[(1,.box [.d (lD 6 z01 r1),.d (lD 6 z01 r2),.d (dI p0.i),.d (dI p0.j),.d (lD 3 z02 p0.since),.d (lD 6 z01 r3)])]⟩ ⟨[],[(1,.box [.d (lD 6 z01 r1),.d (lD 6 z01 r2),.d (dI p0.i),.d (dI p0.j),.d (lD 3 z02 r4),.d (lD 6 z01 r3)])]⟩ [] [] []] [1,2] [1,2] (z00 12) (.a (.a (.m ?_ (.a (.a (.m ?_ (.a (.a (.m ?_ (.a (.a (.m ?_ (.a (.m ?_ (.a (.m ?_ (.a (.m ?_ (.a (.m ?_ .z)))))))))))))))))))) ?_
 ·exact DOk.cA [] [cD (lD 6 z01 p0.a)] (z5l hr1) fun r=>(.cons (.refl _) .nil)
 ·exact DOk.cA [] [cD (lD 6 z01 p0.b)] (z5l hr2) fun r=>(.cons (.refl _) .nil)
 ·exact DOk.cA [] [cD (lD 6 z01 p0.out)] (z5l hr3) fun r=>(.cons (.refl _) .nil)
 ·exact DOk.cA [] [cD (lD 3 z02 p0.since)] (z1u hr4) fun r=>(.cons (.refl _) .nil)
 ·exact DOk.step (.turn 1 (.box [.d (lD 6 z01 r1),.d (lD 6 z01 p0.b),.d (dI p0.i),.d (dI p0.j),.d (lD 3 z02 p0.since),.d (lD 6 z01 p0.out)])) (fun r=>by kernel_rfl) (fun r=>by kernel_rfl) trivial (by kernel_rfl) (by kernel_rfl) (fun r=>rfl)
 ·exact DOk.step (.turn 1 (.box [.d (lD 6 z01 r1),.d (lD 6 z01 r2),.d (dI p0.i),.d (dI p0.j),.d (lD 3 z02 p0.since),.d (lD 6 z01 p0.out)])) (fun r=>by kernel_rfl) (fun r=>by kernel_rfl) trivial (by kernel_rfl) (by kernel_rfl) (fun r=>rfl)
 ·exact DOk.step (.turn 1 (.box [.d (lD 6 z01 r1),.d (lD 6 z01 r2),.d (dI p0.i),.d (dI p0.j),.d (lD 3 z02 p0.since),.d (lD 6 z01 r3)])) (fun r=>by kernel_rfl) (fun r=>by kernel_rfl) trivial (by kernel_rfl) (by kernel_rfl) (fun r=>rfl)
 ·exact DOk.step (.turn 1 (.box [.d (lD 6 z01 r1),.d (lD 6 z01 r2),.d (dI p0.i),.d (dI p0.j),.d (lD 3 z02 r4),.d (lD 6 z01 r3)])) (fun r=>by kernel_rfl) (fun r=>by kernel_rfl) trivial (by kernel_rfl) (by kernel_rfl) (fun r=>rfl)
 refine Tri.sg [2] [2] (z00 2) ?_
 refine Tri.ret ?_
 cases h
 exact RetAt.k
theorem zeg {fuel:Nat} {p0:List Time} {p1:Batch} {p2:Batch} {q:Merger × Int} (h:za4 fuel p0 p1 p2=some q) :
    Summ Tryz.prog 24 [cD (lD 3 z02 p0),.agg (cBatch p1),.agg (cBatch p2)] [] (.tup [(true,[.d (lD 6 z01 q.1.a),.d (lD 6 z01 q.1.b),.d (dI q.1.i),.d (dI q.1.j),.d (lD 3 z02 q.1.since),.d (lD 6 z01 q.1.out)]),(false,[.d (dI q.2)])]) []:=by
  refine Summ.intro Tryz.func24 rfl (by kernel_rfl) (by kernel_rfl) [] rfl ?_
  rintro ⟨P,w0,G0,V,LL,lk,N, φ0,fx⟩ rfl rfl rfl rfl
  unfold za4 at h
  refine Tri.sg [0,4,5,6] [4,5,6] (z00 4) ?_
  refine Tri.seqS ?_
  refine Tri.blockB ?_
  refine Tri.seqJ (fun (a1:Bool)=>⟨[(0,cD (lD 3 z02 p0)),(4,.c (.ptr 4 0)),(5,.c (.ptr 5 0)),(6,.c (.ptr 6 0)),(8,cD (.bool a1))],[(4,.box (cBatch p1)),(5,.box (cBatch p2)),(6,.box [.zero,.zero,.d (dI 0),.d (dI 0),.zero,.zero])]⟩) h (fun a1 h => ?_) (fun j2 h => ?_)
  ·refine Tri.condK h (fun h => ?_) (fun h => ?_)
   ·refine Tri.sg [6,7] [6] (z00 3) ?_
    refine Tri.keep [6,7] [6] (s':=⟨[(6,.c (.ptr 6 0)),(7,cD (dI 4))],[(6,.box [.zero,.zero,.d (dI 0),.d (dI 0),.zero,.zero])]⟩) (by kernel_rfl) ?_
    refine Tri.le [] (fun k hk=>by cases hk) ⟨[(6,.c (.ptr 6 0)),(7,cD (dI 4))],[(6,.box [.d (lD 6 z01 ([]:List Update)),.d (lD 6 z01 ([]:List Update)),.d (dI 0),.d (dI 0),.d (lD 3 z02 ([]:List Time)),.d (lD 6 z01 ([]:List Update))])]⟩ ⟨⟨_,rfl,.refl _⟩,⟨_,rfl,.refl _⟩,trivial⟩ ⟨⟨_,rfl,.box (.cons (.zero _ _) (.cons (.zero _ _) (.cons (.refl _) (.cons (.refl _) (.cons (.zero _ _) (.cons (.zero _ _) .nil)))))),(by simp)⟩,trivial⟩ ?_
    refine Tri.ret ?_
    cases h
    exact RetAt.k
   ·refine Tri.seqJ (fun (a3:Bool)=>⟨[(0,cD (lD 3 z02 p0)),(4,.c (.ptr 4 0)),(5,.c (.ptr 5 0)),(6,.c (.ptr 6 0)),(19,cD (.bool a3))],[(4,.box (cBatch p1)),(5,.box (cBatch p2)),(6,.box [.zero,.zero,.d (dI 0),.d (dI 0),.zero,.zero])]⟩) h (fun a3 h => ?_) (fun j4 h => ?_)
    ·refine Tri.condK h (fun h => ?_) (fun h => ?_)
     ·refine Tri.sg [6,7] [6] (z00 3) ?_
      refine Tri.keep [6,7] [6] (s':=⟨[(6,.c (.ptr 6 0)),(7,cD (dI 1))],[(6,.box [.zero,.zero,.d (dI 0),.d (dI 0),.zero,.zero])]⟩) (by kernel_rfl) ?_
      refine Tri.le [] (fun k hk=>by cases hk) ⟨[(6,.c (.ptr 6 0)),(7,cD (dI 1))],[(6,.box [.d (lD 6 z01 ([]:List Update)),.d (lD 6 z01 ([]:List Update)),.d (dI 0),.d (dI 0),.d (lD 3 z02 ([]:List Time)),.d (lD 6 z01 ([]:List Update))])]⟩ ⟨⟨_,rfl,.refl _⟩,⟨_,rfl,.refl _⟩,trivial⟩ ⟨⟨_,rfl,.box (.cons (.zero _ _) (.cons (.zero _ _) (.cons (.refl _) (.cons (.refl _) (.cons (.zero _ _) (.cons (.zero _ _) .nil)))))),(by simp)⟩,trivial⟩ ?_
      refine Tri.ret ?_
      cases h
      exact RetAt.k
     ·refine Tri.skip ?_
      refine Tri.seqS ?_
      refine Tri.reg ?_
      refine At.sg 6 [6,36] [6] (z00 6) ?_
      obtain ⟨r5,hr5,h⟩:=z04 h
      refine At.cA [] [.agg [.d (lD 6 z01 p1.updates),.d (lD 6 z01 p2.updates),.d (dI 0),.d (dI 0),.d (lD 3 z02 p0),.zero]] (zbp hr5) (.cons (.agg (.cons (.le (.refl _)) (.cons (.le (.refl _)) (.cons (.le (.refl _)) (.cons (.le (.refl _)) (.cons (.le (.refl _)) (.cons (.le (.zero _ _)) .nil))))))) .nil) ?_
      refine At.sg 2 [6,7] [6] (z00 2) ?_
      refine At.done rfl ?_
      refine Tri.ret ?_
      cases h
      exact RetAt.k
    ·refine Tri.seqS ?_
     refine Tri.reg ?_
     refine At.sg 3 [0,4,5,6,20,22] [4,5,6] (z00 3) ?_
     obtain ⟨r6,hr6,h⟩:=z04 h
     refine At.cA [] [cD (lD 3 z02 p0),cD (lD 3 z02 p1.since)] (z82 hr6) (.cons (.refl _) (.cons (.refl _) .nil)) ?_
     refine At.sg 2 [0,4,5,6,19] [4,5,6] (z00 2) ?_
     refine At.done rfl ?_
     refine Tri.condK h (fun h => ?_) (fun h => ?_)
     ·refine Tri.kp [0,4,5,6,19] [4,5,6] ?_
      refine Tri.skip ?_
      exact ⟨_,h,kr⟩
     ·refine Tri.reg ?_
      refine At.sg 3 [0,4,5,6,25,27] [4,5,6] (z00 3) ?_
      obtain ⟨r7,hr7,h⟩:=z04 h
      refine At.cA [] [cD (lD 3 z02 p0),cD (lD 3 z02 p2.since)] (z82 hr7) (.cons (.refl _) (.cons (.refl _) .nil)) ?_
      refine At.sg 2 [0,4,5,6,19] [4,5,6] (z00 2) ?_
      refine At.done rfl ?_
      exact ⟨_,h,kr⟩
  ·refine Tri.seqS ?_
   refine Tri.reg ?_
   refine At.sg 1 [0,4,5,6,9] [4,5,6] (z00 1) ?_
   obtain ⟨r8,hr8,h⟩:=z04 h
   refine At.cA [] [.agg (cBatch p1)] (z6t hr8) (.cons (.refl _) .nil) ?_
   refine At.sg 2 [0,4,5,6,8] [4,5,6] (z00 2) ?_
   refine At.done rfl ?_
   refine Tri.condK h (fun h => ?_) (fun h => ?_)
   ·refine Tri.kp [0,4,5,6,8] [4,5,6] ?_
    refine Tri.skip ?_
    exact ⟨_,h,kr⟩
   ·refine Tri.seqS ?_
    refine Tri.reg ?_
    refine At.sg 1 [0,4,5,6,12] [4,5,6] (z00 1) ?_
    obtain ⟨r9,hr9,h⟩:=z04 h
    refine At.cA [] [.agg (cBatch p2)] (z6t hr9) (.cons (.refl _) .nil) ?_
    refine At.sg 2 [0,4,5,6,8] [4,5,6] (z00 2) ?_
    refine At.done rfl ?_
    refine Tri.condK h (fun h => ?_) (fun h => ?_)
    ·refine Tri.kp [0,4,5,6,8] [4,5,6] ?_
     refine Tri.skip ?_
     exact ⟨_,h,kr⟩
    ·refine Tri.reg ?_
     refine At.sg 1 [0,4,5,6,15] [4,5,6] (z00 1) ?_
     obtain ⟨r10,hr10,h⟩:=z04 h
     refine At.cA [] [cD (lD 3 z02 p0)] (z6q hr10) (.cons (.refl _) .nil) ?_
     refine At.sg 2 [0,4,5,6,8] [4,5,6] (z00 2) ?_
     refine At.done rfl ?_
     exact ⟨_,h,kr⟩
theorem z75 {p0:Update} {p1:Update} {q:Int} (h:z6r p0 p1=some q) :
  Summ Tryz.prog 95 [.agg (cUpdate p0),.agg (cUpdate p1)] [] (cD (dI q)) []:=by
 refine Summ.intro Tryz.func95 rfl (by kernel_rfl) (by kernel_rfl) [] rfl ?_
 rintro ⟨P,w0,G0,V,LL,lk,N, φ0,fx⟩ rfl rfl rfl rfl
 unfold z6r at h
 refine Tri.sg [2,3] [2,3] (z00 3) ?_
 refine Tri.seqS ?_
 obtain ⟨r1,hr1,h⟩:=z04 h
 obtain ⟨r2,hr2,h⟩:=z04 h
 obtain ⟨r3,hr3,h⟩:=z04 h
 refine Tri.dC [.a [2] [],.a [5] [2],.a [3] [],.a [7] [3],.m ⟨[(6,cD (lD 3 z05 p0.key)),(8,cD (lD 3 z05 p1.key))],[]⟩ ⟨[(9,cD (dI r1))],[]⟩ [] [] [],.a [2] [],.a [10] [2],.a [3] [],.a [12] [3],.m ⟨[(11,cD (lD 3 z05 p0.row)),(13,cD (lD 3 z05 p1.row))],[]⟩ ⟨[(14,cD (dI r2))],[]⟩ [] [] [],.m ⟨[(9,cD (dI r1)),(14,cD (dI r2))],[]⟩ ⟨[(15,.c (oC 15 1 ([r1,r2]:List Int)))],[(15,vL 1 (z25 .i64) ([r1,r2]:List Int))]⟩ [15] [] [],.m ⟨[(15,.c (oC 15 1 ([r1,r2]:List Int)))],[(15,vL 1 (z25 .i64) ([r1,r2]:List Int))]⟩ ⟨[(16,cD (dI r3))],[]⟩ [] [] [],.a [16] []] [4] [] (z00 9) (.a (.a (.a (.a (.m ?_ (.a (.a (.a (.a (.m ?_ (.m ?_ (.m ?_ (.a .z))))))))))))) ?_
 ·exact DOk.cA [] [cD (lD 3 z05 p0.key),cD (lD 3 z05 p1.key)] (z57 hr1) fun r=>(.cons (.refl _) (.cons (.refl _) .nil))
 ·exact DOk.cA [] [cD (lD 3 z05 p0.row),cD (lD 3 z05 p1.row)] (z57 hr2) fun r=>(.cons (.refl _) (.cons (.refl _) .nil))
 ·exact DOk.one fun r hr=>One.buildT (e:=3) (es:=1) (z:=[.d (dI 0)]) (cells:=[.d (dI r1),.d (dI r2)]) (z25 .i64) ([r1,r2]:List Int) rfl (by kernel_rfl) rfl rfl (St.noRef_app (by kernel_rfl) (hr 15 (by simp))) (by kernel_rfl) rfl (by kernel_rfl) rfl rfl rfl (by kernel_rfl) rfl ⟨⟨rfl,.refl _⟩,⟨rfl,.refl _⟩,trivial⟩
 ·exact DOk.cA [] [.c (oC 15 1 ([r1,r2]:List Int))] (z79 hr3) fun r=>(.cons (AVArg.view (z25 .i64) ([r1,r2]:List Int) rfl) .nil)
 refine Tri.ret ?_
 cases h
 exact RetAt.k
theorem zby {p0:List Update} {p1:Int} {p2:List Update} {q:Bool} (h:z9y p0 p1 p2=some q) :
    Summ Tryz.prog 60 [cD (lD 6 z01 p0),cD (dI p1),cD (lD 6 z01 p2)] [] (cD (.bool q)) []:=by
  refine Summ.intro Tryz.func60 rfl (by kernel_rfl) (by kernel_rfl) [] rfl ?_
  rintro ⟨P,w0,G0,V,LL,lk,N, φ0,fx⟩ rfl rfl rfl rfl
  unfold z9y at h
  refine Tri.sg [0,1,2] [] (z00 1) ?_
  refine Tri.seqS ?_
  refine Tri.seqJ (fun (a1:Bool)=>⟨[(0,cD (lD 6 z01 p0)),(1,cD (dI p1)),(2,cD (lD 6 z01 p2)),(14,cD (.bool a1))],[]⟩) h (fun a1 h => ?_) (fun j2 h => ?_)
  ·refine Tri.condK h (fun h => ?_) (fun h => ?_)
   ·refine Tri.sg [6] [] (z00 1) ?_
    refine Tri.ret ?_
    cases h
    exact RetAt.k
   ·refine Tri.skip ?_
    refine Tri.seqS ?_
    refine Tri.segL [0,1,2,18] [] ⟨[(0,cD (lD 6 z01 p0)),(1,cD (dI p1)),(2,cD (lD 6 z01 p2)),(18,cD (.bool (decide (p1=(p0.length:Int)))))],[]⟩ _ (by kernel_rfl) (z00 4) ?_
    refine Tri.condK h (fun h => ?_) (fun h => ?_)
    ·refine Tri.sg [6] [] (z00 1) ?_
     refine Tri.ret ?_
     cases h
     exact RetAt.k
    ·refine Tri.skip ?_
     refine Tri.seqS ?_
     refine Tri.seqJ (fun (a3:Bool)=>⟨[(0,cD (lD 6 z01 p0)),(1,cD (dI p1)),(2,cD (lD 6 z01 p2)),(33,cD (.bool a3))],[]⟩) h (fun a3 h => ?_) (fun j4 h => ?_)
     ·refine Tri.eqS ⟨[(0,cD (lD 6 z01 p0)),(1,cD (dI p1)),(2,cD (lD 6 z01 p2)),(33,cD (.bool a3))],[]⟩ kr ?_
      refine Tri.condK h (fun h => ?_) (fun h => ?_)
      ·refine Tri.sg [6] [] (z00 1) ?_
       refine Tri.ret ?_
       cases h
       exact RetAt.k
      ·refine Tri.skip ?_
       refine Tri.seqJ (fun (a5:Bool)=>⟨[(6,cD (.bool a5))],[]⟩) h (fun a5 h => ?_) (fun j6 h => ?_)
       ·refine Tri.ret ?_
        cases h
        exact RetAt.k
       ·rcases z20 h with ⟨hp7,h⟩ | ⟨hp7,h⟩
        ·refine Tri.dC [.a [2] [],.a [34] [],.a [35] [],.m ⟨[(36,cD (.bool (decide ((p2.length:Int)=0))))],[]⟩ ⟨[(37,.c (.d (.bool true)))],[]⟩ [] [] [],.a [2,37] [],.a [2,37] [],.a [37,39] [],.a [37,40] [],.a [37,38,41] [],.a [37,42] [],.a [0,37] [],.a [1,37] [],.a [37,44,45] [],.a [37,46] [],.a [37,43,47] [],.a [37,48] [],.a [37,49] [],.a [50] []] [6] [] (z00 5) (.a (.a (.a (.m ?_ (.a (.a (.a (.a (.a (.a (.a (.a (.a (.a (.a (.a (.a (.a .z)))))))))))))))))) ?_
         · exact DOk.stepP (fun b => .val (.c (.d (.bool b))) (True)) (p:=(decide ((p2.length:Int)=0))) hp7 (fun r=>by kernel_rfl) (fun r=>by kernel_rfl) trivial (by kernel_rfl) (by kernel_rfl) (fun r=>rfl)
         exact ⟨_,h,kr⟩
        ·obtain ⟨hc8,h⟩:=z03 h
         obtain ⟨hc9,h⟩:=z03 h
         obtain ⟨r10,hr10,h⟩:=z04 h
         refine Tri.dC [.a [2] [],.a [34] [],.a [35] [],.m ⟨[(36,cD (.bool (decide ((p2.length:Int)=0))))],[]⟩ ⟨[(37,.c (.d (.bool false)))],[]⟩ [] [] [],.a [2,37] [],.a [2,37] [],.a [37,39] [],.a [37,40] [],.a [37,38,41] [],.a [37,42] [],.a [0,37] [],.a [1,37] [],.a [37,44,45] [],.a [37,46] [],.m ⟨[(37,cD (.bool false)),(43,.agg (cUpdate (p2.getD ((IntKind.i64.wrap ((p2.length:Int) - 1)).toNat) default))),(47,.agg (cUpdate (p0.getD p1.toNat default)))],[]⟩ ⟨[(48,cD (dI r10))],[]⟩ [] [] [],.a [37,48] [],.a [37,49] [],.a [50] []] [6] [] (tN 7 (ai hc8 (tN 3 (ai hc9 (z00 4))))) (.a (.a (.a (.m ?_ (.a (.a (.a (.a (.a (.a (.a (.a (.a (.a (.m ?_ (.a (.a (.a .z)))))))))))))))))) ?_
         · exact DOk.stepP (fun b => .val (.c (.d (.bool b))) (True)) (p:=(decide ((p2.length:Int)=0))) hp7 (fun r=>by kernel_rfl) (fun r=>by kernel_rfl) trivial (by kernel_rfl) (by kernel_rfl) (fun r=>rfl)
         · exact DOk.cA [] [.agg (cUpdate (p2.getD ((IntKind.i64.wrap ((p2.length:Int) - 1)).toNat) default)),.agg (cUpdate (p0.getD p1.toNat default))] (z75 hr10) fun r=>(.cons (.refl _) (.cons (.refl _) .nil))
         exact ⟨_,h,kr⟩
     ·rcases z20 h with ⟨hp11,h⟩ | ⟨hp11,h⟩
      ·obtain ⟨hc12,h⟩:=z03 h
       obtain ⟨hc13,h⟩:=z03 h
       obtain ⟨r14,hr14,h⟩:=z04 h
       refine Tri.dC [.a [1] [],.a [19] [],.m ⟨[(20,cD (.bool (decide (0 < p1))))],[]⟩ ⟨[(21,.c (.d (.bool true)))],[]⟩ [] [] [],.a [0,21] [],.a [1,21] [],.a [21,23] [],.a [21,22,24] [],.a [21,25] [],.a [0,21] [],.a [1,21] [],.a [21,27,28] [],.a [21,29] [],.m ⟨[(21,cD (.bool true)),(26,.agg (cUpdate (p0.getD ((IntKind.i64.wrap (p1 - 1)).toNat) default))),(30,.agg (cUpdate (p0.getD p1.toNat default)))],[]⟩ ⟨[(31,cD (dI r14))],[]⟩ [] [] [],.a [21,31] [],.a [21,32] []] [0,1,2,33] [] (tN 5 (ai hc12 (tN 3 (ai hc13 (z00 3))))) (.a (.a (.m ?_ (.a (.a (.a (.a (.a (.a (.a (.a (.a (.m ?_ (.a (.a .z))))))))))))))) ?_
       · exact DOk.stepP (fun b => .val (.c (.d (.bool b))) (True)) (p:=(decide (0 < p1))) hp11 (fun r=>by kernel_rfl) (fun r=>by kernel_rfl) trivial (by kernel_rfl) (by kernel_rfl) (fun r=>rfl)
       · exact DOk.cA [] [.agg (cUpdate (p0.getD ((IntKind.i64.wrap (p1 - 1)).toNat) default)),.agg (cUpdate (p0.getD p1.toNat default))] (z75 hr14) fun r=>(.cons (.refl _) (.cons (.refl _) .nil))
       exact ⟨_,h,kr⟩
      ·refine Tri.dC [.a [1] [],.a [19] [],.m ⟨[(20,cD (.bool (decide (0 < p1))))],[]⟩ ⟨[(21,.c (.d (.bool false)))],[]⟩ [] [] [],.a [0,21] [],.a [1,21] [],.a [21,23] [],.a [21,22,24] [],.a [21,25] [],.a [0,21] [],.a [1,21] [],.a [21,27,28] [],.a [21,29] [],.a [21,26,30] [],.a [21,31] [],.a [21,32] []] [0,1,2,33] [] (z00 3) (.a (.a (.m ?_ (.a (.a (.a (.a (.a (.a (.a (.a (.a (.a (.a (.a .z))))))))))))))) ?_
       · exact DOk.stepP (fun b => .val (.c (.d (.bool b))) (True)) (p:=(decide (0 < p1))) hp11 (fun r=>by kernel_rfl) (fun r=>by kernel_rfl) trivial (by kernel_rfl) (by kernel_rfl) (fun r=>rfl)
       exact ⟨_,h,kr⟩
  ·refine Tri.reg ?_
   refine At.sg 3 [0,1,2,9] [] (z00 3) ?_
   refine At.cs [9] h (fun h => ?_) (fun h => ?_)
   ·refine At.sg 5 [0,1,2,14] [] (z00 1) ?_
    refine At.done rfl ?_
    exact ⟨_,h,kr⟩
   ·refine At.sg 5 [0,1,2,14] [] (z00 5) ?_
    refine At.done rfl ?_
    exact ⟨_,h,kr⟩
theorem z7r {fuel:Nat} {p0:Merger} {q:Int} (h:z5n fuel p0=some q) :
    Summ Tryz.prog 27 [.agg (cMerger p0)] [] (cD (dI q)) []:=by
  refine Summ.intro Tryz.func27 rfl (by kernel_rfl) (by kernel_rfl) [] rfl ?_
  rintro ⟨P,w0,G0,V,LL,lk,N, φ0,fx⟩ rfl rfl rfl rfl
  unfold z5n at h
  refine Tri.sg [1] [1] (z00 2) ?_
  refine Tri.seqJ (fun (a1:Bool)=>⟨[(1,.c (.ptr 1 0)),(3,cD (.bool a1))],[(1,.box (cMerger p0))]⟩) h (fun a1 h => ?_) (fun j2 h => ?_)
  ·refine Tri.seqS ?_
   refine Tri.seqJ (fun (a3:Bool)=>⟨[(45,cD (.bool a3))],[]⟩) h (fun a3 h => ?_) (fun j4 h => ?_)
   ·refine Tri.condK h (fun h => ?_) (fun h => ?_)
    ·refine Tri.sg [2] [] (z00 1) ?_
     refine Tri.ret ?_
     cases h
     exact RetAt.k
    ·refine Tri.skip ?_
     refine Tri.sg [2] [] (z00 1) ?_
     refine Tri.ret ?_
     cases h
     exact RetAt.k
   ·refine Tri.reg ?_
    refine At.sg 3 [1,26] [1] (z00 3) ?_
    refine At.cs [26] h (fun h => ?_) (fun h => ?_)
    ·refine At.sg 19 [45] [] (z00 3) ?_
     refine At.done rfl ?_
     exact ⟨_,h,kr⟩
    ·refine At.sg 6 [1,26,28,30,32] [1] (z00 6) ?_
     obtain ⟨r5,hr5,h⟩:=z04 h
     refine At.cA [] [cD (lD 6 z01 p0.a),cD (dI p0.i),cD (lD 6 z01 p0.out)] (zby hr5) (.cons (.refl _) (.cons (.refl _) (.cons (.refl _) .nil))) ?_
     refine At.sg 3 [1,36] [1] (z00 3) ?_
     refine At.cs [36] h (fun h => ?_) (fun h => ?_)
     ·refine At.sg 9 [45] [] (z00 1) ?_
      refine At.done rfl ?_
      exact ⟨_,h,kr⟩
     ·refine At.sg 6 [36,38,40,42] [] (z00 6) ?_
      obtain ⟨r6,hr6,h⟩:=z04 h
      refine At.cA [] [cD (lD 6 z01 p0.b),cD (dI p0.j),cD (lD 6 z01 p0.out)] (zby hr6) (.cons (.refl _) (.cons (.refl _) (.cons (.refl _) .nil))) ?_
      refine At.sg 2 [45] [] (z00 2) ?_
      refine At.done rfl ?_
      exact ⟨_,h,kr⟩
  ·refine Tri.reg ?_
   refine At.sg 2 [1,5] [1] (z00 2) ?_
   obtain ⟨r7,hr7,h⟩:=z04 h
   refine At.cA [] [cD (lD 3 z02 p0.since)] (z6q hr7) (.cons (.refl _) .nil) ?_
   refine At.sg 1 [1,7] [1] (z00 1) ?_
   refine At.cs [7] h (fun h => ?_) (fun h => ?_)
   ·refine At.sg 2 [1,7,9] [1] (z00 2) ?_
    obtain ⟨r8,hr8,h⟩:=z04 h
    refine At.cA [] [cD (lD 6 z01 p0.a)] (z9k hr8) (.cons (.refl _) .nil) ?_
    refine At.sg 2 [1,12] [1] (z00 2) ?_
    refine At.cs [12] h (fun h => ?_) (fun h => ?_)
    ·refine At.sg 2 [1,12,14] [1] (z00 2) ?_
     obtain ⟨r9,hr9,h⟩:=z04 h
     refine At.cA [] [cD (lD 6 z01 p0.b)] (z9k hr9) (.cons (.refl _) .nil) ?_
     refine At.sg 2 [1,17] [1] (z00 2) ?_
     refine At.cs [17] h (fun h => ?_) (fun h => ?_)
     ·refine At.sg 4 [1,17,19,21] [1] (z00 4) ?_
      obtain ⟨r10,hr10,h⟩:=z04 h
      refine At.cA [] [cD (lD 6 z01 p0.out),cD (lD 3 z02 p0.since)] (z9a hr10) (.cons (.refl _) (.cons (.refl _) .nil)) ?_
      refine At.sg 2 [1,3] [1] (z00 2) ?_
      refine At.done rfl ?_
      exact ⟨_,h,kr⟩
     ·refine At.sg 7 [1,3] [1] (z00 2) ?_
      refine At.done rfl ?_
      exact ⟨_,h,kr⟩
    ·refine At.sg 12 [1,3] [1] (z00 4) ?_
     refine At.done rfl ?_
     exact ⟨_,h,kr⟩
   ·refine At.sg 17 [1,3] [1] (z00 6) ?_
    refine At.done rfl ?_
    exact ⟨_,h,kr⟩
theorem zff {p0:List Update} {q:List Update} (h:z4j p0=some q) :
    Summ Tryz.prog 92 [cD (lD 6 z01 p0)] [] (.c (oC 6000 6 q)) [(6000,vL 6 z01 q)]:=by
  refine Summ.intro Tryz.func92 rfl (by kernel_rfl) (by kernel_rfl) [6000] rfl ?_
  rintro ⟨P,w0,G0,V,LL,lk,N, φ0,fx⟩ rfl rfl rfl rfl
  unfold z4j at h
  refine Tri.sg [0] [] (z00 1) ?_
  refine Tri.seqS ?_
  refine Tri.reg ?_
  refine At.seg 2 [0,6] [] (s':=⟨[(0,cD (lD 6 z01 p0)),(6,cD (dI (p0.length:Int)))],[]⟩) (by kernel_rfl) (z00 2) ?_
  obtain ⟨hc1,h⟩:=z03 h
  refine At.one rfl (One.makeT (e:=56) (es:=6) (bs:=80) (n:=(p0.length:Int)) (c:=(p0.length:Int)) (z:=[.zero,.zero,.d (dU 0),.d (dU 0),.d (dU 0),.d (dI 0)]) (z01) ((⟨([]:List Value),([]:List Value),(⟨0,(0,0)⟩:Time),0⟩:Update):Update) rfl rfl rfl rfl (by kernel_rfl) rfl rfl rfl (by kernel_rfl) rfl (by kernel_rfl) rfl (.cons (.zero _ _) (.cons (.zero _ _) (.cons (.refl _) (.cons (.refl _) (.cons (.refl _) (.cons (.refl _) .nil)))))) rfl rfl rfl hc1.1 hc1.2.1 hc1.2.2 rfl) ?_
  refine At.sg 1 [0,3] [7] (z00 1) ?_
  refine At.done rfl ?_
  refine Tri.seqS ?_
  refine Tri.reg ?_
  refine At.seg 2 [3,8,9] [7] (s':=⟨[(3,.c (oC 7 6 (List.replicate p0.length ((⟨([]:List Value),([]:List Value),(⟨0,(0,0)⟩:Time),0⟩:Update):Update)))),(8,.c (oC 7 6 (List.replicate p0.length ((⟨([]:List Value),([]:List Value),(⟨0,(0,0)⟩:Time),0⟩:Update):Update)))),(9,cD (lD 6 z01 p0))],[(7,vL 6 z01 (List.replicate p0.length ((⟨([]:List Value),([]:List Value),(⟨0,(0,0)⟩:Time),0⟩:Update):Update)))]⟩) (by kernel_rfl) (z00 2) ?_
  obtain ⟨hc2,h⟩:=z03 h
  refine At.one rfl (One.copyT (e:=56) (es:=6) (z01) (List.replicate p0.length ((⟨([]:List Value),([]:List Value),(⟨0,(0,0)⟩:Time),0⟩:Update):Update)) p0 rfl rfl rfl rfl rfl rfl rfl rfl (.list rfl (fun _ _=>rfl)) hc2) ?_
  refine At.keep [3,10] [7] (s':=⟨[(3,.c (oC 7 6 (List.replicate p0.length ((⟨([]:List Value),([]:List Value),(⟨0,(0,0)⟩:Time),0⟩:Update):Update)))),(10,cD (dI ((p0.length:Nat):Int)))],[(7,vL 6 z01 (copyL (List.replicate p0.length ((⟨([]:List Value),([]:List Value),(⟨0,(0,0)⟩:Time),0⟩:Update):Update)) p0))]⟩) (by kernel_rfl) ?_
  refine At.eqS (s':=⟨[(3,.c (oC 7 6 (copyL (List.replicate p0.length ((⟨([]:List Value),([]:List Value),(⟨0,(0,0)⟩:Time),0⟩:Update):Update)) p0))),(10,cD (dI ((p0.length:Nat):Int)))],[(7,vL 6 z01 (copyL (List.replicate p0.length ((⟨([]:List Value),([]:List Value),(⟨0,(0,0)⟩:Time),0⟩:Update):Update)) p0))]⟩) (by simp only [oC,vL,z9i hc2]) ?_
  refine At.done rfl ?_
  refine Tri.seqS ?_
  refine Tri.segL [3,12,13] [7] ⟨[(3,.c (oC 7 6 (copyL (List.replicate p0.length ((⟨([]:List Value),([]:List Value),(⟨0,(0,0)⟩:Time),0⟩:Update):Update)) p0))),(12,cD (dI ((copyL (List.replicate p0.length ((⟨([]:List Value),([]:List Value),(⟨0,(0,0)⟩:Time),0⟩:Update):Update)) p0).length:Int))),(13,cD (dI 0))],[(7,vL 6 z01 (copyL (List.replicate p0.length ((⟨([]:List Value),([]:List Value),(⟨0,(0,0)⟩:Time),0⟩:Update):Update)) p0))]⟩ _ (by kernel_rfl) (z00 3) ?_
  refine Tri.lenOfO (t:=3) rfl rfl (Nat.le_refl _) fun hlena4 => ?_
  refine Tri.rK 13 (copyL (List.replicate p0.length ((⟨([]:List Value),([]:List Value),(⟨0,(0,0)⟩:Time),0⟩:Update):Update)) p0) (fun (x:Empty) s=>False) (fun (a4:List Update)=>⟨[(3,.c (oC 7 6 a4)),(12,cD (dI ((copyL (List.replicate p0.length ((⟨([]:List Value),([]:List Value),(⟨0,(0,0)⟩:Time),0⟩:Update):Update)) p0).length:Int)))],[(7,vL 6 z01 a4)]⟩) [13,3,12] [7] [14,13,3,12] [7] [3,12] [7] [13,3,12] [7] h hlena4 ?_ ?_ ?_
  ·intro i3 a4 c hii3 h
   refine Tri.segL [3,4,12,13] [7] ⟨[(3,.c (oC 7 6 a4)),(4,cD (dI ((i3:Nat):Int))),(12,cD (dI ((copyL (List.replicate p0.length ((⟨([]:List Value),([]:List Value),(⟨0,(0,0)⟩:Time),0⟩:Update):Update)) p0).length:Int))),(13,cD (dI ((i3:Nat):Int)))],[(7,vL 6 z01 a4)]⟩ _ (by kernel_rfl) (z00 2) ?_
   obtain ⟨hc6,h⟩:=z03 h
   obtain ⟨hc7,h⟩:=z03 h
   obtain ⟨r8,hr8,h⟩:=z04 h
   obtain ⟨hc9,h⟩:=z03 h
   obtain ⟨hc10,h⟩:=z03 h
   obtain ⟨r11,hr11,h⟩:=z04 h
   obtain ⟨hc12,h⟩:=z03 h
   obtain ⟨hc13,h⟩:=z03 h
   obtain ⟨hc14,h⟩:=z03 h
   obtain ⟨hc15,h⟩:=z03 h
   refine Tri.afterA ⟨[(3,.c (oC 7 6 a4)),(12,cD (dI ((copyL (List.replicate p0.length ((⟨([]:List Value),([]:List Value),(⟨0,(0,0)⟩:Time),0⟩:Update):Update)) p0).length:Int))),(13,cD (dI ((i3:Nat):Int)))],[(7,vL 6 z01 ((a4.set (0 + i3) (⟨r8,(a4.getD (0 + i3) default).row,(a4.getD (0 + i3) default).time,(a4.getD (0 + i3) default).diff⟩:Update)).set (0 + i3) (⟨((a4.set (0 + i3) (⟨r8,(a4.getD (0 + i3) default).row,(a4.getD (0 + i3) default).time,(a4.getD (0 + i3) default).diff⟩:Update)).getD (0 + i3) default).key,r11,((a4.set (0 + i3) (⟨r8,(a4.getD (0 + i3) default).row,(a4.getD (0 + i3) default).time,(a4.getD (0 + i3) default).diff⟩:Update)).getD (0 + i3) default).time,((a4.set (0 + i3) (⟨r8,(a4.getD (0 + i3) default).row,(a4.getD (0 + i3) default).time,(a4.getD (0 + i3) default).diff⟩:Update)).getD (0 + i3) default).diff⟩:Update)))]⟩ ?_ ?_
   ·refine Tri.dS ⟨[(3,.c (oC 7 6 a4)),(12,cD (dI ((copyL (List.replicate p0.length ((⟨([]:List Value),([]:List Value),(⟨0,(0,0)⟩:Time),0⟩:Update):Update)) p0).length:Int))),(13,cD (dI ((i3:Nat):Int)))],[(7,vL 6 z01 ((a4.set (0 + i3) (⟨r8,(a4.getD (0 + i3) default).row,(a4.getD (0 + i3) default).time,(a4.getD (0 + i3) default).diff⟩:Update)).set (0 + i3) (⟨((a4.set (0 + i3) (⟨r8,(a4.getD (0 + i3) default).row,(a4.getD (0 + i3) default).time,(a4.getD (0 + i3) default).diff⟩:Update)).getD (0 + i3) default).key,r11,((a4.set (0 + i3) (⟨r8,(a4.getD (0 + i3) default).row,(a4.getD (0 + i3) default).time,(a4.getD (0 + i3) default).diff⟩:Update)).getD (0 + i3) default).time,((a4.set (0 + i3) (⟨r8,(a4.getD (0 + i3) default).row,(a4.getD (0 + i3) default).time,(a4.getD (0 + i3) default).diff⟩:Update)).getD (0 + i3) default).diff⟩:Update)))]⟩ [.a [3] [],.a [4] [],.a [3] [],.a [4] [],.a [3] [],.a [4] [],.a [20,21] [7],.a [22] [],.a [23] [7],.m ⟨[(24,cD (lD 3 z05 ((a4.getD (0 + i3) default).key)))],[]⟩ ⟨[(25,cD (lD 3 z05 r8))],[]⟩ [] [] [],.a [3] [],.a [4] [],.a [26,27] [7],.a [28] [],.a [29] [7],.m ⟨[(30,cD (lD 3 z05 ((a4.getD (0 + i3) default).row)))],[]⟩ ⟨[(31,cD (lD 3 z05 r11))],[]⟩ [] [] [],.a [16,17] [7],.a [32] [],.m ⟨[(25,cD (lD 3 z05 r8)),(33,.c (.vptr 7 6 (0 + i3) 0))],[(7,vL 6 z01 a4)]⟩ ⟨[],[(7,vL 6 z01 (a4.set (0 + i3) (⟨r8,(a4.getD (0 + i3) default).row,(a4.getD (0 + i3) default).time,(a4.getD (0 + i3) default).diff⟩:Update)))]⟩ [] [] [],.a [18,19] [7],.a [34] [],.m ⟨[(31,cD (lD 3 z05 r11)),(35,.c (.vptr 7 6 (0 + i3) 1))],[(7,vL 6 z01 (a4.set (0 + i3) (⟨r8,(a4.getD (0 + i3) default).row,(a4.getD (0 + i3) default).time,(a4.getD (0 + i3) default).diff⟩:Update)))]⟩ ⟨[],[(7,vL 6 z01 ((a4.set (0 + i3) (⟨r8,(a4.getD (0 + i3) default).row,(a4.getD (0 + i3) default).time,(a4.getD (0 + i3) default).diff⟩:Update)).set (0 + i3) (⟨((a4.set (0 + i3) (⟨r8,(a4.getD (0 + i3) default).row,(a4.getD (0 + i3) default).time,(a4.getD (0 + i3) default).diff⟩:Update)).getD (0 + i3) default).key,r11,((a4.set (0 + i3) (⟨r8,(a4.getD (0 + i3) default).row,(a4.getD (0 + i3) default).time,(a4.getD (0 + i3) default).diff⟩:Update)).getD (0 + i3) default).time,((a4.set (0 + i3) (⟨r8,(a4.getD (0 + i3) default).row,(a4.getD (0 + i3) default).time,(a4.getD (0 + i3) default).diff⟩:Update)).getD (0 + i3) default).diff⟩:Update)))]⟩ [] [] []] [3,12,13] [7] (tN 6 (ai hc6 (tN 1 (ai hc7 (tN 2 (ai hc9 (tN 1 (ai hc10 (ai hc12 (tN 1 (ai hc14 (z00 1)))))))))))) (.a (.a (.a (.a (.a (.a (.a (.a (.a (.m ?_ (.a (.a (.a (.a (.a (.m ?_ (.a (.a (.m ?_ (.a (.a (.m ?_ .z)))))))))))))))))))))) ?_
    · exact DOk.cA [] [cD (lD 3 z05 ((a4.getD (0 + i3) default).key))] (z1c hr8) fun r=>(.cons (.refl _) .nil)
    · exact DOk.cA [] [cD (lD 3 z05 ((a4.getD (0 + i3) default).row))] (z1c hr11) fun r=>(.cons (.refl _) .nil)
    · exact DOk.one fun r hr=>One.storeT (xs:=[.d (lD 3 z05 r8)]) (ds:=[lD 3 z05 r8]) (z01) a4 (⟨r8,(a4.getD (0 + i3) default).row,(a4.getD (0 + i3) default).time,(a4.getD (0 + i3) default).diff⟩:Update) rfl (by kernel_rfl) rfl rfl rfl hc13 rfl rfl (.refl _) rfl rfl rfl rfl
    · exact DOk.one fun r hr=>One.storeT (xs:=[.d (lD 3 z05 r11)]) (ds:=[lD 3 z05 r11]) (z01) (a4.set (0 + i3) (⟨r8,(a4.getD (0 + i3) default).row,(a4.getD (0 + i3) default).time,(a4.getD (0 + i3) default).diff⟩:Update)) (⟨((a4.set (0 + i3) (⟨r8,(a4.getD (0 + i3) default).row,(a4.getD (0 + i3) default).time,(a4.getD (0 + i3) default).diff⟩:Update)).getD (0 + i3) default).key,r11,((a4.set (0 + i3) (⟨r8,(a4.getD (0 + i3) default).row,(a4.getD (0 + i3) default).time,(a4.getD (0 + i3) default).diff⟩:Update)).getD (0 + i3) default).time,((a4.set (0 + i3) (⟨r8,(a4.getD (0 + i3) default).row,(a4.getD (0 + i3) default).time,(a4.getD (0 + i3) default).diff⟩:Update)).getD (0 + i3) default).diff⟩:Update) rfl (by kernel_rfl) rfl rfl rfl hc15 rfl rfl (.refl _) rfl rfl rfl rfl
    exact ⟨rfl,rfl⟩
   ·refine At.eqS (s':=⟨[(3,.c (oC 7 6 ((a4.set (0 + i3) (⟨r8,(a4.getD (0 + i3) default).row,(a4.getD (0 + i3) default).time,(a4.getD (0 + i3) default).diff⟩:Update)).set (0 + i3) (⟨((a4.set (0 + i3) (⟨r8,(a4.getD (0 + i3) default).row,(a4.getD (0 + i3) default).time,(a4.getD (0 + i3) default).diff⟩:Update)).getD (0 + i3) default).key,r11,((a4.set (0 + i3) (⟨r8,(a4.getD (0 + i3) default).row,(a4.getD (0 + i3) default).time,(a4.getD (0 + i3) default).diff⟩:Update)).getD (0 + i3) default).time,((a4.set (0 + i3) (⟨r8,(a4.getD (0 + i3) default).row,(a4.getD (0 + i3) default).time,(a4.getD (0 + i3) default).diff⟩:Update)).getD (0 + i3) default).diff⟩:Update)))),(12,cD (dI ((copyL (List.replicate p0.length ((⟨([]:List Value),([]:List Value),(⟨0,(0,0)⟩:Time),0⟩:Update):Update)) p0).length:Int))),(13,cD (dI ((i3:Nat):Int)))],[(7,vL 6 z01 ((a4.set (0 + i3) (⟨r8,(a4.getD (0 + i3) default).row,(a4.getD (0 + i3) default).time,(a4.getD (0 + i3) default).diff⟩:Update)).set (0 + i3) (⟨((a4.set (0 + i3) (⟨r8,(a4.getD (0 + i3) default).row,(a4.getD (0 + i3) default).time,(a4.getD (0 + i3) default).diff⟩:Update)).getD (0 + i3) default).key,r11,((a4.set (0 + i3) (⟨r8,(a4.getD (0 + i3) default).row,(a4.getD (0 + i3) default).time,(a4.getD (0 + i3) default).diff⟩:Update)).getD (0 + i3) default).time,((a4.set (0 + i3) (⟨r8,(a4.getD (0 + i3) default).row,(a4.getD (0 + i3) default).time,(a4.getD (0 + i3) default).diff⟩:Update)).getD (0 + i3) default).diff⟩:Update)))]⟩) (by simp only [oC,vL,List.length_set]) ?_
    refine At.keep [13,3,12] [7] (s':=⟨[(13,cD (dI ((i3:Nat):Int))),(3,.c (oC 7 6 ((a4.set (0 + i3) (⟨r8,(a4.getD (0 + i3) default).row,(a4.getD (0 + i3) default).time,(a4.getD (0 + i3) default).diff⟩:Update)).set (0 + i3) (⟨((a4.set (0 + i3) (⟨r8,(a4.getD (0 + i3) default).row,(a4.getD (0 + i3) default).time,(a4.getD (0 + i3) default).diff⟩:Update)).getD (0 + i3) default).key,r11,((a4.set (0 + i3) (⟨r8,(a4.getD (0 + i3) default).row,(a4.getD (0 + i3) default).time,(a4.getD (0 + i3) default).diff⟩:Update)).getD (0 + i3) default).time,((a4.set (0 + i3) (⟨r8,(a4.getD (0 + i3) default).row,(a4.getD (0 + i3) default).time,(a4.getD (0 + i3) default).diff⟩:Update)).getD (0 + i3) default).diff⟩:Update)))),(12,cD (dI ((copyL (List.replicate p0.length ((⟨([]:List Value),([]:List Value),(⟨0,(0,0)⟩:Time),0⟩:Update):Update)) p0).length:Int)))],[(7,vL 6 z01 ((a4.set (0 + i3) (⟨r8,(a4.getD (0 + i3) default).row,(a4.getD (0 + i3) default).time,(a4.getD (0 + i3) default).diff⟩:Update)).set (0 + i3) (⟨((a4.set (0 + i3) (⟨r8,(a4.getD (0 + i3) default).row,(a4.getD (0 + i3) default).time,(a4.getD (0 + i3) default).diff⟩:Update)).getD (0 + i3) default).key,r11,((a4.set (0 + i3) (⟨r8,(a4.getD (0 + i3) default).row,(a4.getD (0 + i3) default).time,(a4.getD (0 + i3) default).diff⟩:Update)).getD (0 + i3) default).time,((a4.set (0 + i3) (⟨r8,(a4.getD (0 + i3) default).row,(a4.getD (0 + i3) default).time,(a4.getD (0 + i3) default).diff⟩:Update)).getD (0 + i3) default).diff⟩:Update)))]⟩) (by kernel_rfl) ?_
    refine At.done rfl ?_
    cases h
    exact kr
  ·intro a5 h
   refine Tri.sg [2] [7] (z00 2) ?_
   refine Tri.keep [2] [7] (s':=⟨[(2,.c (oC 7 6 a5))],[(7,vL 6 z01 a5)]⟩) (by kernel_rfl) ?_
   refine Tri.rename 7 6000 ⟨[(2,.c (oC 6000 6 a5))],[(6000,vL 6 z01 a5)]⟩ (by kernel_rfl) rfl rfl rfl ?_
   refine Tri.ret ?_
   cases h
   exact RetAt.k
  · exact fun x=>x.elim
theorem zcn {p0:Merger} {q:Merger} (h:z69 p0=some q) :
  Summ Tryz.prog 54 [.agg (cMerger p0)] [] (.agg [.d (lD 6 z01 q.a),.d (lD 6 z01 q.b),.d (dI q.i),.d (dI q.j),.d (lD 3 z02 q.since),oC 6105 6 q.out]) [(6105,vL 6 z01 q.out)]:=by
 refine Summ.intro Tryz.func54 rfl (by kernel_rfl) (by kernel_rfl) [6105] rfl ?_
 rintro ⟨P,w0,G0,V,LL,lk,N, φ0,fx⟩ rfl rfl rfl rfl
 unfold z69 at h
 refine Tri.sg [1,2] [1,2] (z00 2) ?_
 refine Tri.seqS ?_
 obtain ⟨r1,hr1,h⟩:=z04 h
 obtain ⟨r2,hr2,h⟩:=z04 h
 obtain ⟨r3,hr3,h⟩:=z04 h
 obtain ⟨r4,hr4,h⟩:=z04 h
 refine Tri.dC [.a [1] [],.a [3] [1],.m ⟨[(4,cD (lD 6 z01 p0.a))],[]⟩ ⟨[(5,cD (lD 6 z01 r1))],[]⟩ [] [] [],.a [1] [],.a [6] [1],.m ⟨[(7,cD (lD 6 z01 p0.b))],[]⟩ ⟨[(8,cD (lD 6 z01 r2))],[]⟩ [] [] [],.a [1] [],.a [9] [1],.m ⟨[(10,cD (lD 6 z01 p0.out))],[]⟩ ⟨[(11,.c (oC 30176 6 r3))],[(30176,vL 6 z01 r3)]⟩ [30176] [] [],.a [1] [],.a [12] [1],.m ⟨[(13,cD (lD 3 z02 p0.since))],[]⟩ ⟨[(14,cD (lD 3 z02 r4))],[]⟩ [] [] [],.a [1] [],.m ⟨[(5,cD (lD 6 z01 r1)),(15,.c (.ptr 1 0))],[(1,.box (cMerger p0))]⟩ ⟨[],[(1,.box [.d (lD 6 z01 r1),.d (lD 6 z01 p0.b),.d (dI p0.i),.d (dI p0.j),.d (lD 3 z02 p0.since),.d (lD 6 z01 p0.out)])]⟩ [] [] [],.a [1] [],.m ⟨[(8,cD (lD 6 z01 r2)),(16,.c (.ptr 1 1))],[(1,.box [.d (lD 6 z01 r1),.d (lD 6 z01 p0.b),.d (dI p0.i),.d (dI p0.j),.d (lD 3 z02 p0.since),.d (lD 6 z01 p0.out)])]⟩ ⟨[],[(1,.box [.d (lD 6 z01 r1),.d (lD 6 z01 r2),.d (dI p0.i),.d (dI p0.j),.d (lD 3 z02 p0.since),.d (lD 6 z01 p0.out)])]⟩ [] [] [],.a [1] [],.m ⟨[(11,.c (oC 30176 6 r3)),(17,.c (.ptr 1 5))],[(1,.box [.d (lD 6 z01 r1),.d (lD 6 z01 r2),.d (dI p0.i),.d (dI p0.j),.d (lD 3 z02 p0.since),.d (lD 6 z01 p0.out)]),(30176,vL 6 z01 r3)]⟩ ⟨[],[(1,.box [.d (lD 6 z01 r1),.d (lD 6 z01 r2),.d (dI p0.i),.d (dI p0.j),.d (lD 3 z02 p0.since),oC 30176 6 r3])]⟩ [] [] [],.a [1] [],.m ⟨[(14,cD (lD 3 z02 r4)),(18,.c (.ptr 1 4))],[(1,.box [.d (lD 6 z01 r1),.d (lD 6 z01 r2),.d (dI p0.i),.d (dI p0.j),.d (lD 3 z02 p0.since),oC 30176 6 r3])]⟩ ⟨[],[(1,.box [.d (lD 6 z01 r1),.d (lD 6 z01 r2),.d (dI p0.i),.d (dI p0.j),.d (lD 3 z02 r4),oC 30176 6 r3])]⟩ [] [] []] [1,2] [1,2,30176] (z00 12) (.a (.a (.m ?_ (.a (.a (.m ?_ (.a (.a (.m ?_ (.a (.a (.m ?_ (.a (.m ?_ (.a (.m ?_ (.a (.m ?_ (.a (.m ?_ .z)))))))))))))))))))) ?_
 ·exact DOk.cA [] [cD (lD 6 z01 p0.a)] (z5l hr1) fun r=>(.cons (.refl _) .nil)
 ·exact DOk.cA [] [cD (lD 6 z01 p0.b)] (z5l hr2) fun r=>(.cons (.refl _) .nil)
 ·exact DOk.callL (nf:=0) (caps:=[]) (xs:=[cD (lD 6 z01 p0.out)]) [(6000,30176)] (zff hr3) rfl (fun r=>by kernel_rfl) rfl (fun r=>by kernel_rfl) (fun r=>by kernel_rfl) (fun r=>(.flat (.refl _) rfl rfl .nil)) (fun r=>trivial) (by kernel_rfl) (by kernel_rfl) (by kernel_rfl) (by kernel_rfl) (by kernel_rfl) (by kernel_rfl) (by kernel_rfl) (by kernel_rfl) (by kernel_rfl) (by kernel_rfl) (by first | kernel_rfl | (show _=_; kernel_rfl))
 ·exact DOk.cA [] [cD (lD 3 z02 p0.since)] (z1u hr4) fun r=>(.cons (.refl _) .nil)
 ·exact DOk.step (.turn 1 (.box [.d (lD 6 z01 r1),.d (lD 6 z01 p0.b),.d (dI p0.i),.d (dI p0.j),.d (lD 3 z02 p0.since),.d (lD 6 z01 p0.out)])) (fun r=>by kernel_rfl) (fun r=>by kernel_rfl) trivial (by kernel_rfl) (by kernel_rfl) (fun r=>rfl)
 ·exact DOk.step (.turn 1 (.box [.d (lD 6 z01 r1),.d (lD 6 z01 r2),.d (dI p0.i),.d (dI p0.j),.d (lD 3 z02 p0.since),.d (lD 6 z01 p0.out)])) (fun r=>by kernel_rfl) (fun r=>by kernel_rfl) trivial (by kernel_rfl) (by kernel_rfl) (fun r=>rfl)
 ·exact DOk.step (.turn 1 (.box [.d (lD 6 z01 r1),.d (lD 6 z01 r2),.d (dI p0.i),.d (dI p0.j),.d (lD 3 z02 p0.since),oC 30176 6 r3])) (fun r=>by kernel_rfl) (fun r=>by kernel_rfl) trivial (by kernel_rfl) (by kernel_rfl) (fun r=>rfl)
 ·exact DOk.step (.turn 1 (.box [.d (lD 6 z01 r1),.d (lD 6 z01 r2),.d (dI p0.i),.d (dI p0.j),.d (lD 3 z02 r4),oC 30176 6 r3])) (fun r=>by kernel_rfl) (fun r=>by kernel_rfl) trivial (by kernel_rfl) (by kernel_rfl) (fun r=>rfl)
 refine Tri.sg [2] [2,30176] (z00 2) ?_
 refine Tri.keep [2] [2,30176] (s':=⟨[(2,.c (.ptr 2 0))],[(2,.box [.d (lD 6 z01 r1),.d (lD 6 z01 r2),.d (dI p0.i),.d (dI p0.j),.d (lD 3 z02 r4),oC 30176 6 r3]),(30176,vL 6 z01 r3)]⟩) (by kernel_rfl) ?_
 refine Tri.rename 30176 6105 ⟨[(2,.c (.ptr 2 0))],[(2,.box [.d (lD 6 z01 r1),.d (lD 6 z01 r2),.d (dI p0.i),.d (dI p0.j),.d (lD 3 z02 r4),oC 6105 6 r3]),(6105,vL 6 z01 r3)]⟩ (by kernel_rfl) rfl rfl rfl ?_
 refine Tri.ret ?_
 cases h
 exact RetAt.k
theorem z7f {l0:Worker} {q:Bool × Worker} (h:z3z l0=some q) :
    Summ Tryz.prog 55 [.c (.ptr 5000 0)] [(5000,.box [.d (lD 6 z01 l0.merger.a),.d (lD 6 z01 l0.merger.b),.d (dI l0.merger.i),.d (dI l0.merger.j),.d (lD 3 z02 l0.merger.since),oC 5100 6 l0.merger.out]),(5100,vL 6 z01 l0.merger.out)] (cD (.bool q.1)) [(5150,vL 6 z01 q.2.merger.out),(5000,.box [.d (lD 6 z01 q.2.merger.a),.d (lD 6 z01 q.2.merger.b),.d (dI q.2.merger.i),.d (dI q.2.merger.j),.d (lD 3 z02 q.2.merger.since),oC 5150 6 q.2.merger.out])]:=by
  refine Summ.intro Tryz.func55 rfl (by kernel_rfl) (by kernel_rfl) [5150] rfl ?_
  rintro ⟨P,w0,G0,V,LL,lk,N, φ0,fx⟩ rfl rfl rfl rfl
  unfold z3z at h
  refine Tri.rename 5100 5150 ⟨[(0,.c (.ptr 5000 0))],[(5000,.box [.d (lD 6 z01 l0.merger.a),.d (lD 6 z01 l0.merger.b),.d (dI l0.merger.i),.d (dI l0.merger.j),.d (lD 3 z02 l0.merger.since),oC 5150 6 l0.merger.out]),(5150,vL 6 z01 l0.merger.out)]⟩ (by kernel_rfl) rfl rfl rfl ?_
  refine Tri.segL [0] [5000,5150] ⟨[(0,.c (.ptr 5000 0))],[(5000,.box [.d (lD 6 z01 l0.merger.a),.d (lD 6 z01 l0.merger.b),.d (dI l0.merger.i),.d (dI l0.merger.j),.d (lD 3 z02 l0.merger.since),oC 5150 6 l0.merger.out]),(5150,vL 6 z01 l0.merger.out)]⟩ _ (by kernel_rfl) (z00 1) ?_
  refine Tri.seqJ (fun (a1:Bool)=>⟨[(2,cD (.bool a1))],[(5000,.box [.d (lD 6 z01 l0.merger.a),.d (lD 6 z01 l0.merger.b),.d (dI l0.merger.i),.d (dI l0.merger.j),.d (lD 3 z02 l0.merger.since),oC 5150 6 l0.merger.out]),(5150,vL 6 z01 l0.merger.out)]⟩) h (fun a1 h => ?_) (fun j2 h => ?_)
  ·refine Tri.ret ?_
   cases h
   exact RetAt.k
  ·rcases z20 h with ⟨hp3,h⟩ | ⟨hp3,h⟩
   ·refine Tri.dC [.a [0] [],.a [3] [],.a [4] [],.a [5] [],.a [6] [5000],.a [0] [],.a [8] [],.a [9] [],.a [10] [],.a [11] [5000],.a [12] [],.a [7,13] [],.m ⟨[(14,cD (.bool (decide (l0.merger.i < (l0.merger.a.length:Int)))))],[]⟩ ⟨[(15,.c (.d (.bool true)))],[]⟩ [] [] [],.a [0,15] [],.a [15,16] [],.a [15,17] [],.a [15,18] [],.a [15,19] [],.a [0,15] [],.a [15,21] [],.a [15,22] [],.a [15,23] [],.a [15,24] [],.a [15,25] [],.a [15,20,26] [],.a [15,27] [],.a [28] []] [2] [5000,5150] (z00 14) (.a (.a (.a (.a (.a (.a (.a (.a (.a (.a (.a (.a (.m ?_ (.a (.a (.a (.a (.a (.a (.a (.a (.a (.a (.a (.a (.a (.a .z))))))))))))))))))))))))))) ?_
    · exact DOk.stepP (fun b => .val (.c (.d (.bool b))) (True)) (p:=(decide (l0.merger.i < (l0.merger.a.length:Int)))) hp3 (fun r=>by kernel_rfl) (fun r=>by kernel_rfl) trivial (by kernel_rfl) (by kernel_rfl) (fun r=>rfl)
    exact ⟨_,h,kr⟩
   ·refine Tri.dC [.a [0] [],.a [3] [],.a [4] [],.a [5] [],.a [6] [5000],.a [0] [],.a [8] [],.a [9] [],.a [10] [],.a [11] [5000],.a [12] [],.a [7,13] [],.m ⟨[(14,cD (.bool (decide (l0.merger.i < (l0.merger.a.length:Int)))))],[]⟩ ⟨[(15,.c (.d (.bool false)))],[]⟩ [] [] [],.a [0,15] [],.a [15,16] [],.a [15,17] [],.a [15,18] [],.a [15,19] [5000],.a [0,15] [],.a [15,21] [],.a [15,22] [],.a [15,23] [],.a [15,24] [5000],.a [15,25] [],.a [15,20,26] [],.a [15,27] [],.a [28] []] [2] [5000,5150] (z00 26) (.a (.a (.a (.a (.a (.a (.a (.a (.a (.a (.a (.a (.m ?_ (.a (.a (.a (.a (.a (.a (.a (.a (.a (.a (.a (.a (.a (.a .z))))))))))))))))))))))))))) ?_
    · exact DOk.stepP (fun b => .val (.c (.d (.bool b))) (True)) (p:=(decide (l0.merger.i < (l0.merger.a.length:Int)))) hp3 (fun r=>by kernel_rfl) (fun r=>by kernel_rfl) trivial (by kernel_rfl) (by kernel_rfl) (fun r=>rfl)
    exact ⟨_,h,kr⟩
theorem z78 {l0:Worker} {q:Update × Worker} (h:z3y l0=some q) :
    Summ Tryz.prog 93 [.c (.ptr 5000 0)] [(5000,.box [.d (lD 6 z01 l0.merger.a),.d (lD 6 z01 l0.merger.b),.d (dI l0.merger.i),.d (dI l0.merger.j),.d (lD 3 z02 l0.merger.since),oC 5100 6 l0.merger.out]),(5100,vL 6 z01 l0.merger.out)] (.agg (cUpdate q.1)) [(5150,vL 6 z01 q.2.merger.out),(5000,.box [.d (lD 6 z01 q.2.merger.a),.d (lD 6 z01 q.2.merger.b),.d (dI q.2.merger.i),.d (dI q.2.merger.j),.d (lD 3 z02 q.2.merger.since),oC 5150 6 q.2.merger.out])]:=by
  refine Summ.intro Tryz.func93 rfl (by kernel_rfl) (by kernel_rfl) [5150] rfl ?_
  rintro ⟨P,w0,G0,V,LL,lk,N, φ0,fx⟩ rfl rfl rfl rfl
  unfold z3y at h
  refine Tri.rename 5100 5150 ⟨[(0,.c (.ptr 5000 0))],[(5000,.box [.d (lD 6 z01 l0.merger.a),.d (lD 6 z01 l0.merger.b),.d (dI l0.merger.i),.d (dI l0.merger.j),.d (lD 3 z02 l0.merger.since),oC 5150 6 l0.merger.out]),(5150,vL 6 z01 l0.merger.out)]⟩ (by kernel_rfl) rfl rfl rfl ?_
  refine Tri.segL [0,2] [2,5000,5150] ⟨[(0,.c (.ptr 5000 0)),(2,.c (.ptr 2 0))],[(2,.box [.zero,.zero,.d (dU 0),.d (dU 0),.d (dU 0),.d (dI 0)]),(5000,.box [.d (lD 6 z01 l0.merger.a),.d (lD 6 z01 l0.merger.b),.d (dI l0.merger.i),.d (dI l0.merger.j),.d (lD 3 z02 l0.merger.since),oC 5150 6 l0.merger.out]),(5150,vL 6 z01 l0.merger.out)]⟩ _ (by kernel_rfl) (z00 1) ?_
  refine Tri.seqS ?_
  refine Tri.seqJ (fun (a1:Bool)=>⟨[(0,.c (.ptr 5000 0)),(2,.c (.ptr 2 0)),(56,cD (.bool a1))],[(2,.box [.zero,.zero,.d (dU 0),.d (dU 0),.d (dU 0),.d (dI 0)]),(5000,.box [.d (lD 6 z01 l0.merger.a),.d (lD 6 z01 l0.merger.b),.d (dI l0.merger.i),.d (dI l0.merger.j),.d (lD 3 z02 l0.merger.since),oC 5150 6 l0.merger.out]),(5150,vL 6 z01 l0.merger.out)]⟩) h (fun a1 h => ?_) (fun j2 h => ?_)
  ·refine Tri.condK h (fun h => ?_) (fun h => ?_)
   ·refine Tri.seqS ?_
    obtain ⟨hc3,h⟩:=z03 h
    refine Tri.dC [.a [0] [],.a [57] [],.a [58] [],.a [59] [],.a [60] [5000],.a [0] [],.a [62] [],.a [63] [],.a [64] [],.a [65] [5000],.a [61,66] [],.a [67] [],.m ⟨[(2,.c (.ptr 2 0)),(68,.agg (cUpdate (l0.merger.a.getD l0.merger.i.toNat default)))],[(2,.box [.zero,.zero,.d (dU 0),.d (dU 0),.d (dU 0),.d (dI 0)])]⟩ ⟨[],[(2,.box (cUpdate (l0.merger.a.getD l0.merger.i.toNat default)))]⟩ [] [] []] [2] [2,5000,5150] (tN 10 (ai hc3 (z00 1))) (.a (.a (.a (.a (.a (.a (.a (.a (.a (.a (.a (.a (.m ?_ .z))))))))))))) ?_
    · exact DOk.step (.turn 2 (.box (cUpdate (l0.merger.a.getD l0.merger.i.toNat default)))) (fun r=>by kernel_rfl) (fun r=>by kernel_rfl) trivial (by kernel_rfl) (by kernel_rfl) (fun r=>rfl)
    refine Tri.ret ?_
    cases h
    exact RetAt.k
   ·refine Tri.skip ?_
    refine Tri.seqS ?_
    obtain ⟨hc4,h⟩:=z03 h
    refine Tri.dC [.a [0] [],.a [69] [],.a [70] [],.a [71] [],.a [72] [5000],.a [0] [],.a [74] [],.a [75] [],.a [76] [],.a [77] [5000],.a [73,78] [],.a [79] [],.m ⟨[(2,.c (.ptr 2 0)),(80,.agg (cUpdate (l0.merger.b.getD l0.merger.j.toNat default)))],[(2,.box [.zero,.zero,.d (dU 0),.d (dU 0),.d (dU 0),.d (dI 0)])]⟩ ⟨[],[(2,.box (cUpdate (l0.merger.b.getD l0.merger.j.toNat default)))]⟩ [] [] []] [2] [2,5000,5150] (tN 10 (ai hc4 (z00 1))) (.a (.a (.a (.a (.a (.a (.a (.a (.a (.a (.a (.a (.m ?_ .z))))))))))))) ?_
    · exact DOk.step (.turn 2 (.box (cUpdate (l0.merger.b.getD l0.merger.j.toNat default)))) (fun r=>by kernel_rfl) (fun r=>by kernel_rfl) trivial (by kernel_rfl) (by kernel_rfl) (fun r=>rfl)
    refine Tri.ret ?_
    cases h
    exact RetAt.k
  ·rcases z20 h with ⟨hp5,h⟩ | ⟨hp5,h⟩
   ·rcases z20 h with ⟨hp6,h⟩ | ⟨hp6,h⟩
    ·refine Tri.dC [.a [0] [],.a [3] [],.a [4] [],.a [5] [],.a [6] [5000],.a [0] [],.a [8] [],.a [9] [],.a [10] [],.a [11] [5000],.a [12] [],.a [7,13] [],.m ⟨[(14,cD (.bool (decide (l0.merger.i < (l0.merger.a.length:Int)))))],[]⟩ ⟨[(15,.c (.d (.bool true)))],[]⟩ [] [] [],.a [0,15] [],.a [15,16] [],.a [15,17] [],.a [15,18] [],.a [15,19] [5000],.a [0,15] [],.a [15,21] [],.a [15,22] [],.a [15,23] [],.a [15,24] [5000],.a [15,25] [],.a [15,20,26] [],.m ⟨[(15,cD (.bool true)),(27,cD (.bool (decide (l0.merger.j=(l0.merger.b.length:Int)))))],[]⟩ ⟨[(28,.c (.d (.bool true)))],[]⟩ [] [] [],.a [0,28] [],.a [28,29] [],.a [28,30] [],.a [28,31] [],.a [28,32] [],.a [0,28] [],.a [28,34] [],.a [28,35] [],.a [28,36] [],.a [28,37] [],.a [28,33,38] [],.a [28,39] [],.a [0,28] [],.a [28,41] [],.a [28,42] [],.a [28,43] [],.a [28,44] [],.a [0,28] [],.a [28,46] [],.a [28,47] [],.a [28,48] [],.a [28,49] [],.a [28,45,50] [],.a [28,51] [],.a [28,40,52] [],.a [28,53] [],.a [15,28,54] [],.a [15,55] []] [0,2,56] [2,5000,5150] (z00 26) (.a (.a (.a (.a (.a (.a (.a (.a (.a (.a (.a (.a (.m ?_ (.a (.a (.a (.a (.a (.a (.a (.a (.a (.a (.a (.a (.m ?_ (.a (.a (.a (.a (.a (.a (.a (.a (.a (.a (.a (.a (.a (.a (.a (.a (.a (.a (.a (.a (.a (.a (.a (.a (.a (.a (.a (.a .z)))))))))))))))))))))))))))))))))))))))))))))))))))))) ?_
     · exact DOk.stepP (fun b => .val (.c (.d (.bool b))) (True)) (p:=(decide (l0.merger.i < (l0.merger.a.length:Int)))) hp5 (fun r=>by kernel_rfl) (fun r=>by kernel_rfl) trivial (by kernel_rfl) (by kernel_rfl) (fun r=>rfl)
     · exact DOk.stepP (fun b => .val (.c (.d (.bool b))) (True)) (p:=(decide (l0.merger.j=(l0.merger.b.length:Int)))) hp6 (fun r=>by kernel_rfl) (fun r=>by kernel_rfl) trivial (by kernel_rfl) (by kernel_rfl) (fun r=>rfl)
     exact ⟨_,h,kr⟩
    ·obtain ⟨hc7,h⟩:=z03 h
     obtain ⟨hc8,h⟩:=z03 h
     obtain ⟨r9,hr9,h⟩:=z04 h
     refine Tri.dC [.a [0] [],.a [3] [],.a [4] [],.a [5] [],.a [6] [5000],.a [0] [],.a [8] [],.a [9] [],.a [10] [],.a [11] [5000],.a [12] [],.a [7,13] [],.m ⟨[(14,cD (.bool (decide (l0.merger.i < (l0.merger.a.length:Int)))))],[]⟩ ⟨[(15,.c (.d (.bool true)))],[]⟩ [] [] [],.a [0,15] [],.a [15,16] [],.a [15,17] [],.a [15,18] [],.a [15,19] [5000],.a [0,15] [],.a [15,21] [],.a [15,22] [],.a [15,23] [],.a [15,24] [5000],.a [15,25] [],.a [15,20,26] [],.m ⟨[(15,cD (.bool true)),(27,cD (.bool (decide (l0.merger.j=(l0.merger.b.length:Int)))))],[]⟩ ⟨[(28,.c (.d (.bool false)))],[]⟩ [] [] [],.a [0,28] [],.a [28,29] [],.a [28,30] [],.a [28,31] [],.a [28,32] [5000],.a [0,28] [],.a [28,34] [],.a [28,35] [],.a [28,36] [],.a [28,37] [5000],.a [28,33,38] [],.a [28,39] [],.a [0,28] [],.a [28,41] [],.a [28,42] [],.a [28,43] [],.a [28,44] [5000],.a [0,28] [],.a [28,46] [],.a [28,47] [],.a [28,48] [],.a [28,49] [5000],.a [28,45,50] [],.a [28,51] [],.m ⟨[(28,cD (.bool false)),(40,.agg (cUpdate (l0.merger.a.getD l0.merger.i.toNat default))),(52,.agg (cUpdate (l0.merger.b.getD l0.merger.j.toNat default)))],[]⟩ ⟨[(53,cD (dI r9))],[]⟩ [] [] [],.a [28,53] [],.a [15,28,54] [],.a [15,55] []] [0,2,56] [2,5000,5150] (tN 34 (ai hc7 (tN 11 (ai hc8 (z00 4))))) (.a (.a (.a (.a (.a (.a (.a (.a (.a (.a (.a (.a (.m ?_ (.a (.a (.a (.a (.a (.a (.a (.a (.a (.a (.a (.a (.m ?_ (.a (.a (.a (.a (.a (.a (.a (.a (.a (.a (.a (.a (.a (.a (.a (.a (.a (.a (.a (.a (.a (.a (.a (.a (.m ?_ (.a (.a (.a .z)))))))))))))))))))))))))))))))))))))))))))))))))))))) ?_
     · exact DOk.stepP (fun b => .val (.c (.d (.bool b))) (True)) (p:=(decide (l0.merger.i < (l0.merger.a.length:Int)))) hp5 (fun r=>by kernel_rfl) (fun r=>by kernel_rfl) trivial (by kernel_rfl) (by kernel_rfl) (fun r=>rfl)
     · exact DOk.stepP (fun b => .val (.c (.d (.bool b))) (True)) (p:=(decide (l0.merger.j=(l0.merger.b.length:Int)))) hp6 (fun r=>by kernel_rfl) (fun r=>by kernel_rfl) trivial (by kernel_rfl) (by kernel_rfl) (fun r=>rfl)
     · exact DOk.cA [] [.agg (cUpdate (l0.merger.a.getD l0.merger.i.toNat default)),.agg (cUpdate (l0.merger.b.getD l0.merger.j.toNat default))] (z75 hr9) fun r=>(.cons (.refl _) (.cons (.refl _) .nil))
     exact ⟨_,h,kr⟩
   ·refine Tri.dC [.a [0] [],.a [3] [],.a [4] [],.a [5] [],.a [6] [5000],.a [0] [],.a [8] [],.a [9] [],.a [10] [],.a [11] [5000],.a [12] [],.a [7,13] [],.m ⟨[(14,cD (.bool (decide (l0.merger.i < (l0.merger.a.length:Int)))))],[]⟩ ⟨[(15,.c (.d (.bool false)))],[]⟩ [] [] [],.a [0,15] [],.a [15,16] [],.a [15,17] [],.a [15,18] [],.a [15,19] [],.a [0,15] [],.a [15,21] [],.a [15,22] [],.a [15,23] [],.a [15,24] [],.a [15,25] [],.a [15,20,26] [],.a [15,27] [],.a [0,28] [],.a [28,29] [],.a [28,30] [],.a [28,31] [],.a [28,32] [],.a [0,28] [],.a [28,34] [],.a [28,35] [],.a [28,36] [],.a [28,37] [],.a [28,33,38] [],.a [28,39] [],.a [0,28] [],.a [28,41] [],.a [28,42] [],.a [28,43] [],.a [28,44] [],.a [0,28] [],.a [28,46] [],.a [28,47] [],.a [28,48] [],.a [28,49] [],.a [28,45,50] [],.a [28,51] [],.a [28,40,52] [],.a [28,53] [],.a [15,28,54] [],.a [15,55] []] [0,2,56] [2,5000,5150] (z00 13) (.a (.a (.a (.a (.a (.a (.a (.a (.a (.a (.a (.a (.m ?_ (.a (.a (.a (.a (.a (.a (.a (.a (.a (.a (.a (.a (.a (.a (.a (.a (.a (.a (.a (.a (.a (.a (.a (.a (.a (.a (.a (.a (.a (.a (.a (.a (.a (.a (.a (.a (.a (.a (.a (.a (.a .z)))))))))))))))))))))))))))))))))))))))))))))))))))))) ?_
    · exact DOk.stepP (fun b => .val (.c (.d (.bool b))) (True)) (p:=(decide (l0.merger.i < (l0.merger.a.length:Int)))) hp5 (fun r=>by kernel_rfl) (fun r=>by kernel_rfl) trivial (by kernel_rfl) (by kernel_rfl) (fun r=>rfl)
    exact ⟨_,h,kr⟩
theorem zem {p0:Update} {p1:Update} {q:Bool} (h:za3 p0 p1=some q) :
  Summ Tryz.prog 124 [.agg (cUpdate p0),cD (.cptr [lD 3 z05 p1.key,lD 3 z05 p1.row,dU p1.time.epoch,dU p1.time.loop.1,dU p1.time.loop.2,dI p1.diff])] [] (cD (.bool q)) []:=by
 refine Summ.intro Tryz.func124 rfl (by kernel_rfl) (by kernel_rfl) [] rfl ?_
 rintro ⟨P,w0,G0,V,LL,lk,N, φ0,fx⟩ rfl rfl rfl rfl
 unfold za3 at h
 refine Tri.le [] (fun k hk=>by cases hk) ⟨[(0,.agg (cUpdate p0)),(1,.c (.eptr [lD 3 z05 p1.key,lD 3 z05 p1.row,dU p1.time.epoch,dU p1.time.loop.1,dU p1.time.loop.2,dI p1.diff]))],[]⟩ ⟨⟨_,rfl,.refl _⟩,⟨_,rfl,.c (.cptrE _)⟩,trivial⟩ trivial ?_
 refine Tri.sg [1,2] [2] (z00 2) ?_
 refine Tri.seqS ?_
 refine Tri.reg ?_
 refine At.sg 2 [4,5] [] (z00 2) ?_
 obtain ⟨r1,hr1,h⟩:=z04 h
 refine At.cA [] [.agg (cUpdate p0),.agg (cUpdate p1)] (z75 hr1) (.cons (.refl _) (.cons (.refl _) .nil)) ?_
 refine At.sg 2 [3] [] (z00 2) ?_
 refine At.done rfl ?_
 refine Tri.ret ?_
 cases h
 exact RetAt.k
theorem z2q {p0:List Update} {p1_0:Update} {q:Int} (h:z15 p0 p1_0=some q) :
    Summ Tryz.prog 107 [cD (lD 6 z01 p0),cD (.fn 124 [.cptr [lD 3 z05 p1_0.key,lD 3 z05 p1_0.row,dU p1_0.time.epoch,dU p1_0.time.loop.1,dU p1_0.time.loop.2,dI p1_0.diff]])] [] (cD (dI q)) []:=by
  refine Summ.intro Tryz.func107 rfl (by kernel_rfl) (by kernel_rfl) [] rfl ?_
  rintro ⟨P,w0,G0,V,LL,lk,N, φ0,fx⟩ rfl rfl rfl rfl
  unfold z15 at h
  refine Tri.sg [0,1] [] (z00 1) ?_
  refine Tri.seqS ?_
  refine Tri.sg [0,1,7,8] [] (z00 3) ?_
  refine Tri.ln 0 p0.length fun hlena2 => ?_
  refine Tri.rK 8 () (fun (x:Int) s=>RetAt Tryz.prog Tryz.f107 (cD (dI x)) [] s) (fun (a2:Unit)=>⟨[(0,cD (lD 6 z01 p0)),(1,cD (.fn 124 [.cptr [lD 3 z05 p1_0.key,lD 3 z05 p1_0.row,dU p1_0.time.epoch,dU p1_0.time.loop.1,dU p1_0.time.loop.2,dI p1_0.diff]])),(7,cD (dI (p0.length:Int)))],[]⟩) [8,0,1,7] [] [9,8,0,1,7] [] [0,1,7] [] [8,0,1,7] [] h hlena2 ?_ ?_ ?_
  ·intro i1 a2 c hii1 h
   refine Tri.sg [0,1,5,7,8] [] (z00 2) ?_
   refine Tri.seqS ?_
   refine Tri.reg ?_
   refine At.sg 5 [0,1,5,7,8,11,15] [] (tN 3 (ai (show ((0:Int)≤((i1:Nat):Int)∧((i1:Nat):Int) < (p0.length:Int)) from ⟨by omega,by omega⟩) (z00 1))) ?_
   obtain ⟨r4,hr4,h⟩:=z04 h
   refine At.cA [.cptr [lD 3 z05 p1_0.key,lD 3 z05 p1_0.row,dU p1_0.time.epoch,dU p1_0.time.loop.1,dU p1_0.time.loop.2,dI p1_0.diff]] [.agg (cUpdate (p0.getD i1 default)),cD (.cptr [lD 3 z05 p1_0.key,lD 3 z05 p1_0.row,dU p1_0.time.epoch,dU p1_0.time.loop.1,dU p1_0.time.loop.2,dI p1_0.diff])] (zem hr4) (.cons (.refl _) (.cons (.refl _) .nil)) ?_
   refine At.done rfl ?_
   refine Tri.condK h (fun h => ?_) (fun h => ?_)
   ·refine Tri.sg [4] [] (z00 2) ?_
    refine Tri.ret ?_
    cases h
    exact RetAt.k
   ·refine Tri.kp [8,0,1,7] [] ?_
    refine Tri.skip ?_
    cases h
    exact kr
  ·intro a3 h
   refine Tri.sg [4] [] (z00 1) ?_
   refine Tri.ret ?_
   cases h
   exact RetAt.k
  · exact fun x s hx hr=>by cases hx; exact hr
theorem zbw {p0:List Update} {p1:Update} {q:Int} (h:z9o p0 p1=some q) :
    Summ Tryz.prog 94 [cD (lD 6 z01 p0),.agg (cUpdate p1)] [] (cD (dI q)) []:=by
  refine Summ.intro Tryz.func94 rfl (by kernel_rfl) (by kernel_rfl) [] rfl ?_
  rintro ⟨P,w0,G0,V,LL,lk,N, φ0,fx⟩ rfl rfl rfl rfl
  unfold z9o at h
  refine Tri.sg [0,3] [3] (z00 2) ?_
  refine Tri.seqS ?_
  refine Tri.reg ?_
  refine At.seg 1 [0,3,6] [3] (s':=⟨[(0,cD (lD 6 z01 p0)),(3,.c (.ptr 3 0)),(6,cD (lD 6 z01 p0))],[(3,.box (cUpdate p1))]⟩) (by kernel_rfl) (z00 1) ?_
  refine At.le [3] (fun k hk h=>by first | (cases h; done) | (simp at hk h; omega)) ⟨[(0,cD (lD 6 z01 p0)),(3,cD (.cptr [lD 3 z05 p1.key,lD 3 z05 p1.row,dU p1.time.epoch,dU p1.time.loop.1,dU p1.time.loop.2,dI p1.diff])),(6,cD (lD 6 z01 p0))],[]⟩ ⟨⟨_,rfl,.refl _⟩,⟨_,rfl,.c (.box (ds:=[lD 3 z05 p1.key,lD 3 z05 p1.row,dU p1.time.epoch,dU p1.time.loop.1,dU p1.time.loop.2,dI p1.diff]) rfl (by simp))⟩,⟨_,rfl,.refl _⟩,trivial⟩ trivial ?_
  refine At.seg 1 [7,0,3,6] [] (s':=⟨[(7,cD (.fn 124 [.cptr [lD 3 z05 p1.key,lD 3 z05 p1.row,dU p1.time.epoch,dU p1.time.loop.1,dU p1.time.loop.2,dI p1.diff]])),(0,cD (lD 6 z01 p0)),(3,cD (.cptr [lD 3 z05 p1.key,lD 3 z05 p1.row,dU p1.time.epoch,dU p1.time.loop.1,dU p1.time.loop.2,dI p1.diff])),(6,cD (lD 6 z01 p0))],[]⟩) (by kernel_rfl) (z00 1) ?_
  refine At.le [] (fun k hk=>by cases hk) ⟨[(7,cD (.fn 124 [.cptr [lD 3 z05 p1.key,lD 3 z05 p1.row,dU p1.time.epoch,dU p1.time.loop.1,dU p1.time.loop.2,dI p1.diff]])),(0,cD (lD 6 z01 p0)),(3,.c (.eptr [lD 3 z05 p1.key,lD 3 z05 p1.row,dU p1.time.epoch,dU p1.time.loop.1,dU p1.time.loop.2,dI p1.diff])),(6,cD (lD 6 z01 p0))],[]⟩ ⟨⟨_,rfl,.refl _⟩,⟨_,rfl,.refl _⟩,⟨_,rfl,.c (.cptrE _)⟩,⟨_,rfl,.refl _⟩,trivial⟩ trivial ?_
  obtain ⟨r1,hr1,h⟩:=z04 h
  refine At.cA [] [cD (lD 6 z01 p0),cD (.fn 124 [.cptr [lD 3 z05 p1.key,lD 3 z05 p1.row,dU p1.time.epoch,dU p1.time.loop.1,dU p1.time.loop.2,dI p1.diff]])] (z2q hr1) (.cons (.refl _) (.cons (.refl _) .nil)) ?_
  refine At.sg 1 [0,5] [] (z00 1) ?_
  refine At.done rfl ?_
  refine Tri.seqS ?_
  refine Tri.sg [0,5,10] [] (z00 2) ?_
  refine Tri.condK h (fun h => ?_) (fun h => ?_)
  ·refine Tri.sg [4] [] (z00 3) ?_
   refine Tri.ret ?_
   cases h
   exact RetAt.k
  ·refine Tri.skip ?_
   refine Tri.sg [4] [] (z00 2) ?_
   refine Tri.ret ?_
   cases h
   exact RetAt.k
theorem z7g {fuel:Nat} {l0:Worker} {q:Int × Int × Worker} (h:z40 fuel l0=some q) :
    Summ Tryz.prog 56 [.c (.ptr 5000 0)] [(5000,.box [.d (lD 6 z01 l0.merger.a),.d (lD 6 z01 l0.merger.b),.d (dI l0.merger.i),.d (dI l0.merger.j),.d (lD 3 z02 l0.merger.since),oC 5100 6 l0.merger.out]),(5100,vL 6 z01 l0.merger.out)] (.tup [(false,[.d (dI q.1)]),(false,[.d (dI q.2.1)])]) [(5150,vL 6 z01 q.2.2.merger.out),(5000,.box [.d (lD 6 z01 q.2.2.merger.a),.d (lD 6 z01 q.2.2.merger.b),.d (dI q.2.2.merger.i),.d (dI q.2.2.merger.j),.d (lD 3 z02 q.2.2.merger.since),oC 5150 6 q.2.2.merger.out])]:=by
  refine Summ.intro Tryz.func56 rfl (by kernel_rfl) (by kernel_rfl) [5150] rfl ?_
  rintro ⟨P,w0,G0,V,LL,lk,N, φ0,fx⟩ rfl rfl rfl rfl
  unfold z40 at h
  refine Tri.rename 5100 5150 ⟨[(0,.c (.ptr 5000 0))],[(5000,.box [.d (lD 6 z01 l0.merger.a),.d (lD 6 z01 l0.merger.b),.d (dI l0.merger.i),.d (dI l0.merger.j),.d (lD 3 z02 l0.merger.since),oC 5150 6 l0.merger.out]),(5150,vL 6 z01 l0.merger.out)]⟩ (by kernel_rfl) rfl rfl rfl ?_
  refine Tri.sg [0] [5000,5150] (z00 2) ?_
  refine Tri.seqS ?_
  refine Tri.reg ?_
  refine At.sg 1 [0,9] [5000,5150] (z00 1) ?_
  obtain ⟨r1,hr1,h⟩:=z04 h
  refine At.cL 0 [] [.c (.ptr 5000 0)] [(5000,5000),(5100,5150),(5150,5150)] [0] [] (z78 hr1) (.ren rfl rfl .nil) ?_
  refine At.sg 2 [0,4] [4,5000,5150] (z00 2) ?_
  refine At.done rfl ?_
  refine Tri.seqS ?_
  obtain ⟨hc2,h⟩:=z03 h
  obtain ⟨hc3,h⟩:=z03 h
  refine Tri.dC [.a [0] [],.a [11] [],.a [12] [],.a [13] [],.a [14] [5000],.a [0] [],.a [16] [],.a [17] [],.a [18] [],.a [19] [5000],.m ⟨[(15,cD (lD 6 z01 r1.2.merger.a)),(20,cD (dI r1.2.merger.i))],[]⟩ ⟨[(21,cD (lD 6 z01 (sub r1.2.merger.a r1.2.merger.i (r1.2.merger.a.length:Int))))],[]⟩ [] [] [],.a [0] [],.a [22] [],.a [23] [],.a [24] [],.a [25] [5000],.a [0] [],.a [27] [],.a [28] [],.a [29] [],.a [30] [5000],.m ⟨[(26,cD (lD 6 z01 r1.2.merger.b)),(31,cD (dI r1.2.merger.j))],[]⟩ ⟨[(32,cD (lD 6 z01 (sub r1.2.merger.b r1.2.merger.j (r1.2.merger.b.length:Int))))],[]⟩ [] [] [],.a [21] [],.a [32] []] [0,4,5,6] [4,5000,5150] (z00 22) (.a (.a (.a (.a (.a (.a (.a (.a (.a (.a (.m ?_ (.a (.a (.a (.a (.a (.a (.a (.a (.a (.a (.m ?_ (.a (.a .z)))))))))))))))))))))))) ?_
  · exact DOk.one fun r _=>One.subL (z01) (l:=r1.2.merger.i) (h:=(r1.2.merger.a.length:Int)) hc2 hc2 (by kernel_rfl) rfl (by kernel_rfl) (by kernel_rfl)
  · exact DOk.one fun r _=>One.subL (z01) (l:=r1.2.merger.j) (h:=(r1.2.merger.b.length:Int)) hc3 hc3 (by kernel_rfl) rfl (by kernel_rfl) (by kernel_rfl)
  refine Tri.seqS ?_
  obtain ⟨r4,hr4,h⟩:=z04 h
  obtain ⟨hc5,h⟩:=z03 h
  obtain ⟨r6,hr6,h⟩:=z04 h
  obtain ⟨hc7,h⟩:=z03 h
  refine Tri.dC [.a [5] [],.a [5] [],.a [4] [4],.m ⟨[(34,cD (lD 6 z01 (sub r1.2.merger.a r1.2.merger.i (r1.2.merger.a.length:Int)))),(35,.agg (cUpdate r1.1))],[]⟩ ⟨[(36,cD (dI r4))],[]⟩ [] [] [],.m ⟨[(33,cD (lD 6 z01 (sub r1.2.merger.a r1.2.merger.i (r1.2.merger.a.length:Int)))),(36,cD (dI r4))],[]⟩ ⟨[(37,cD (lD 6 z01 (sub (sub r1.2.merger.a r1.2.merger.i (r1.2.merger.a.length:Int)) 0 r4)))],[]⟩ [] [] [],.a [6] [],.a [6] [],.a [4] [4],.m ⟨[(39,cD (lD 6 z01 (sub r1.2.merger.b r1.2.merger.j (r1.2.merger.b.length:Int)))),(40,.agg (cUpdate r1.1))],[]⟩ ⟨[(41,cD (dI r6))],[]⟩ [] [] [],.m ⟨[(38,cD (lD 6 z01 (sub r1.2.merger.b r1.2.merger.j (r1.2.merger.b.length:Int)))),(41,cD (dI r6))],[]⟩ ⟨[(42,cD (lD 6 z01 (sub (sub r1.2.merger.b r1.2.merger.j (r1.2.merger.b.length:Int)) 0 r6)))],[]⟩ [] [] [],.a [37] [],.a [42] []] [0,5,6] [5000,5150] (z00 8) (.a (.a (.a (.m ?_ (.m ?_ (.a (.a (.a (.m ?_ (.m ?_ (.a (.a .z)))))))))))) ?_
  · exact DOk.cA [] [cD (lD 6 z01 (sub r1.2.merger.a r1.2.merger.i (r1.2.merger.a.length:Int))),.agg (cUpdate r1.1)] (zbw hr4) fun r=>(.cons (.refl _) (.cons (.refl _) .nil))
  · exact DOk.one fun r _=>One.subL (z01) (l:=0) (h:=r4) hc5 hc5 (by kernel_rfl) rfl (by kernel_rfl) (by kernel_rfl)
  · exact DOk.cA [] [cD (lD 6 z01 (sub r1.2.merger.b r1.2.merger.j (r1.2.merger.b.length:Int))),.agg (cUpdate r1.1)] (zbw hr6) fun r=>(.cons (.refl _) (.cons (.refl _) .nil))
  · exact DOk.one fun r _=>One.subL (z01) (l:=0) (h:=r6) hc7 hc7 (by kernel_rfl) rfl (by kernel_rfl) (by kernel_rfl)
  refine Tri.seqS ?_
  refine Tri.reg ?_
  refine At.seg 7 [0,5,6,48,49,50] [5000,5150] (s':=⟨[(0,.c (.ptr 5000 0)),(5,cD (lD 6 z01 (sub (sub r1.2.merger.a r1.2.merger.i (r1.2.merger.a.length:Int)) 0 r4))),(6,cD (lD 6 z01 (sub (sub r1.2.merger.b r1.2.merger.j (r1.2.merger.b.length:Int)) 0 r6))),(48,cD (lD 3 z02 r1.2.merger.since)),(49,cD (lD 6 z01 (sub (sub r1.2.merger.a r1.2.merger.i (r1.2.merger.a.length:Int)) 0 r4))),(50,cD (lD 6 z01 (sub (sub r1.2.merger.b r1.2.merger.j (r1.2.merger.b.length:Int)) 0 r6)))],[(5000,.box [.d (lD 6 z01 r1.2.merger.a),.d (lD 6 z01 r1.2.merger.b),.d (dI r1.2.merger.i),.d (dI r1.2.merger.j),.d (lD 3 z02 r1.2.merger.since),oC 5150 6 r1.2.merger.out]),(5150,vL 6 z01 r1.2.merger.out)]⟩) (by kernel_rfl) (z00 7) ?_
  refine At.one rfl (One.buildSlice (z:=[.zero]) (cells:=[.d (lD 6 z01 (sub (sub r1.2.merger.a r1.2.merger.i (r1.2.merger.a.length:Int)) 0 r4)),.d (lD 6 z01 (sub (sub r1.2.merger.b r1.2.merger.j (r1.2.merger.b.length:Int)) 0 r6))]) (xs:=List.map ((fun xs=>[encL 6 z01 xs])) ([(sub (sub r1.2.merger.a r1.2.merger.i (r1.2.merger.a.length:Int)) 0 r4),(sub (sub r1.2.merger.b r1.2.merger.j (r1.2.merger.b.length:Int)) 0 r6)]:List (List Update))) rfl rfl rfl rfl (by kernel_rfl) rfl rfl (by kernel_rfl) rfl rfl rfl (by kernel_rfl) rfl ⟨⟨rfl,.refl _⟩,⟨rfl,.refl _⟩,trivial⟩) ?_
  refine At.le [51] (fun k hk h=>by first | (cases h; done) | (simp at hk h; omega)) ⟨[(51,cD (lD 1 (fun xs=>[encL 6 z01 xs]) ([(sub (sub r1.2.merger.a r1.2.merger.i (r1.2.merger.a.length:Int)) 0 r4),(sub (sub r1.2.merger.b r1.2.merger.j (r1.2.merger.b.length:Int)) 0 r6)]:List (List Update)))),(0,.c (.ptr 5000 0)),(5,cD (lD 6 z01 (sub (sub r1.2.merger.a r1.2.merger.i (r1.2.merger.a.length:Int)) 0 r4))),(6,cD (lD 6 z01 (sub (sub r1.2.merger.b r1.2.merger.j (r1.2.merger.b.length:Int)) 0 r6))),(48,cD (lD 3 z02 r1.2.merger.since)),(49,cD (lD 6 z01 (sub (sub r1.2.merger.a r1.2.merger.i (r1.2.merger.a.length:Int)) 0 r4))),(50,cD (lD 6 z01 (sub (sub r1.2.merger.b r1.2.merger.j (r1.2.merger.b.length:Int)) 0 r6)))],[(5000,.box [.d (lD 6 z01 r1.2.merger.a),.d (lD 6 z01 r1.2.merger.b),.d (dI r1.2.merger.i),.d (dI r1.2.merger.j),.d (lD 3 z02 r1.2.merger.since),oC 5150 6 r1.2.merger.out]),(5150,vL 6 z01 r1.2.merger.out)]⟩ ⟨⟨_,rfl,.c (.own rfl (List.mem_singleton.2 rfl) (Nat.le_of_ble_eq_true rfl) rfl (z2y ((fun xs=>[encL 6 z01 xs])) ([(sub (sub r1.2.merger.a r1.2.merger.i (r1.2.merger.a.length:Int)) 0 r4),(sub (sub r1.2.merger.b r1.2.merger.j (r1.2.merger.b.length:Int)) 0 r6)]:List (List Update))))⟩,⟨_,rfl,.refl _⟩,⟨_,rfl,.refl _⟩,⟨_,rfl,.refl _⟩,⟨_,rfl,.refl _⟩,⟨_,rfl,.refl _⟩,⟨_,rfl,.refl _⟩,trivial⟩ ⟨⟨_,rfl,.refl _,(by simp)⟩,⟨_,rfl,.refl _,(by simp)⟩,trivial⟩ ?_
  obtain ⟨r8,hr8,h⟩:=z04 h
  refine At.cA [] [cD (lD 3 z02 r1.2.merger.since),cD (lD 1 (fun xs=>[encL 6 z01 xs]) ([(sub (sub r1.2.merger.a r1.2.merger.i (r1.2.merger.a.length:Int)) 0 r4),(sub (sub r1.2.merger.b r1.2.merger.j (r1.2.merger.b.length:Int)) 0 r6)]:List (List Update)))] (z8n hr8) (.cons (.refl _) (.cons (.refl _) .nil)) ?_
  refine At.sg 5 [0,5,6,7,8] [5000,5150] (z00 5) ?_
  refine At.done rfl ?_
  refine Tri.seqS ?_
  refine Tri.segL [0,5,6,7,8,56] [5000,5150] ⟨[(0,.c (.ptr 5000 0)),(5,cD (lD 6 z01 (sub (sub r1.2.merger.a r1.2.merger.i (r1.2.merger.a.length:Int)) 0 r4))),(6,cD (lD 6 z01 (sub (sub r1.2.merger.b r1.2.merger.j (r1.2.merger.b.length:Int)) 0 r6))),(7,cD (lD 6 z01 r8.1)),(8,cD (dI r8.2)),(56,cD (.bool (!decide (r8.2=0))))],[(5000,.box [.d (lD 6 z01 r1.2.merger.a),.d (lD 6 z01 r1.2.merger.b),.d (dI r1.2.merger.i),.d (dI r1.2.merger.j),.d (lD 3 z02 r1.2.merger.since),oC 5150 6 r1.2.merger.out]),(5150,vL 6 z01 r1.2.merger.out)]⟩ _ (by kernel_rfl) (z00 2) ?_
  refine Tri.condK h (fun h => ?_) (fun h => ?_)
  ·refine Tri.sg [2,3] [5000,5150] (z00 3) ?_
   refine Tri.ret ?_
   cases h
   exact RetAt.k
  ·refine Tri.skip ?_
   refine Tri.seqS ?_
   obtain ⟨hc9,h⟩:=z03 h
   refine Tri.dA ⟨[(5,cD (lD 6 z01 (sub (sub r1.2.merger.a r1.2.merger.i (r1.2.merger.a.length:Int)) 0 r4))),(6,cD (lD 6 z01 (sub (sub r1.2.merger.b r1.2.merger.j (r1.2.merger.b.length:Int)) 0 r6)))],[(5000,.box [.d (lD 6 z01 r1.2.merger.a),.d (lD 6 z01 r1.2.merger.b),.d (dI (IntKind.i64.wrap (r1.2.merger.i + ((sub (sub r1.2.merger.a r1.2.merger.i (r1.2.merger.a.length:Int)) 0 r4).length:Int)))),.d (dI (IntKind.i64.wrap (r1.2.merger.j + ((sub (sub r1.2.merger.b r1.2.merger.j (r1.2.merger.b.length:Int)) 0 r6).length:Int)))),.d (lD 3 z02 r1.2.merger.since),oC 5150 6 (r1.2.merger.out++r8.1)]),(5150,vL 6 z01 (r1.2.merger.out++r8.1))]⟩ [(7,25,⟨[(64,.c (.ptr 5000 2))],[(5000,.box [.d (lD 6 z01 r1.2.merger.a),.d (lD 6 z01 r1.2.merger.b),.d (dI r1.2.merger.i),.d (dI r1.2.merger.j),.d (lD 3 z02 r1.2.merger.since),.any])]⟩),(15,25,⟨[(72,.c (.ptr 5000 3))],[(5000,.box [.d (lD 6 z01 r1.2.merger.a),.d (lD 6 z01 r1.2.merger.b),.d (dI r1.2.merger.i),.d (dI r1.2.merger.j),.d (lD 3 z02 r1.2.merger.since),.any])]⟩)] [.a [0] [],.a [0] [],.a [0] [],.a [0] [],.a [61] [],.a [62] [],.a [63] [],.a [64] [5000],.a [5] [],.a [66] [],.a [65,67] [],.a [0] [],.a [69] [],.a [70] [],.a [71] [],.a [72] [5000],.a [6] [],.a [74] [],.a [73,75] [],.a [0] [],.a [77] [],.a [78] [],.a [79] [],.a [80] [5000],.a [7] [],.m ⟨[(81,.c (oC 5150 6 r1.2.merger.out)),(82,cD (lD 6 z01 r8.1))],[(5000,.box [.d (lD 6 z01 r1.2.merger.a),.d (lD 6 z01 r1.2.merger.b),.d (dI r1.2.merger.i),.d (dI r1.2.merger.j),.d (lD 3 z02 r1.2.merger.since),oC 5150 6 r1.2.merger.out]),(5150,vL 6 z01 r1.2.merger.out)]⟩ ⟨[(83,.c (oC 5150 6 (r1.2.merger.out++r8.1))),(81,.c (.any))],[(5150,vL 6 z01 (r1.2.merger.out++r8.1)),(5000,.box [.d (lD 6 z01 r1.2.merger.a),.d (lD 6 z01 r1.2.merger.b),.d (dI r1.2.merger.i),.d (dI r1.2.merger.j),.d (lD 3 z02 r1.2.merger.since),.any])]⟩ [5150] [81] [5000],.a [58] [],.a [84] [],.a [85] [],.m ⟨[(68,cD (dI (IntKind.i64.wrap (r1.2.merger.i + ((sub (sub r1.2.merger.a r1.2.merger.i (r1.2.merger.a.length:Int)) 0 r4).length:Int))))),(86,.c (.ptr 5000 2))],[(5000,.box [.d (lD 6 z01 r1.2.merger.a),.d (lD 6 z01 r1.2.merger.b),.d (dI r1.2.merger.i),.d (dI r1.2.merger.j),.d (lD 3 z02 r1.2.merger.since),.any])]⟩ ⟨[],[(5000,.box [.d (lD 6 z01 r1.2.merger.a),.d (lD 6 z01 r1.2.merger.b),.d (dI (IntKind.i64.wrap (r1.2.merger.i + ((sub (sub r1.2.merger.a r1.2.merger.i (r1.2.merger.a.length:Int)) 0 r4).length:Int)))),.d (dI r1.2.merger.j),.d (lD 3 z02 r1.2.merger.since),.any])]⟩ [] [] [],.a [59] [],.a [87] [],.a [88] [],.m ⟨[(76,cD (dI (IntKind.i64.wrap (r1.2.merger.j + ((sub (sub r1.2.merger.b r1.2.merger.j (r1.2.merger.b.length:Int)) 0 r6).length:Int))))),(89,.c (.ptr 5000 3))],[(5000,.box [.d (lD 6 z01 r1.2.merger.a),.d (lD 6 z01 r1.2.merger.b),.d (dI (IntKind.i64.wrap (r1.2.merger.i + ((sub (sub r1.2.merger.a r1.2.merger.i (r1.2.merger.a.length:Int)) 0 r4).length:Int)))),.d (dI r1.2.merger.j),.d (lD 3 z02 r1.2.merger.since),.any])]⟩ ⟨[],[(5000,.box [.d (lD 6 z01 r1.2.merger.a),.d (lD 6 z01 r1.2.merger.b),.d (dI (IntKind.i64.wrap (r1.2.merger.i + ((sub (sub r1.2.merger.a r1.2.merger.i (r1.2.merger.a.length:Int)) 0 r4).length:Int)))),.d (dI (IntKind.i64.wrap (r1.2.merger.j + ((sub (sub r1.2.merger.b r1.2.merger.j (r1.2.merger.b.length:Int)) 0 r6).length:Int)))),.d (lD 3 z02 r1.2.merger.since),.any])]⟩ [] [] [],.a [60] [],.a [90] [],.a [91] [],.m ⟨[(83,.c (oC 5150 6 (r1.2.merger.out++r8.1))),(92,.c (.ptr 5000 5))],[(5000,.box [.d (lD 6 z01 r1.2.merger.a),.d (lD 6 z01 r1.2.merger.b),.d (dI (IntKind.i64.wrap (r1.2.merger.i + ((sub (sub r1.2.merger.a r1.2.merger.i (r1.2.merger.a.length:Int)) 0 r4).length:Int)))),.d (dI (IntKind.i64.wrap (r1.2.merger.j + ((sub (sub r1.2.merger.b r1.2.merger.j (r1.2.merger.b.length:Int)) 0 r6).length:Int)))),.d (lD 3 z02 r1.2.merger.since),.any]),(5150,vL 6 z01 (r1.2.merger.out++r8.1))]⟩ ⟨[],[(5000,.box [.d (lD 6 z01 r1.2.merger.a),.d (lD 6 z01 r1.2.merger.b),.d (dI (IntKind.i64.wrap (r1.2.merger.i + ((sub (sub r1.2.merger.a r1.2.merger.i (r1.2.merger.a.length:Int)) 0 r4).length:Int)))),.d (dI (IntKind.i64.wrap (r1.2.merger.j + ((sub (sub r1.2.merger.b r1.2.merger.j (r1.2.merger.b.length:Int)) 0 r6).length:Int)))),.d (lD 3 z02 r1.2.merger.since),oC 5150 6 (r1.2.merger.out++r8.1)])]⟩ [] [] []] [5,6] [5000,5150] (cs:=True∧True∧True∧True∧True∧True∧True∧True∧True∧True∧True∧True∧True∧True∧True∧True∧True∧True∧True∧True∧True∧True∧True∧True∧True∧True∧True∧True∧True∧True∧True∧True∧True∧True∧True) ⟨trivial,trivial,trivial,trivial,trivial,trivial,trivial,trivial,trivial,trivial,trivial,trivial,trivial,trivial,trivial,trivial,trivial,trivial,trivial,trivial,trivial,trivial,trivial,trivial,trivial,trivial,trivial,trivial,trivial,trivial,trivial,trivial,trivial,trivial,trivial⟩ (.a (.a (.a (.a (.a (.a (.a (.a (.a (.a (.a (.a (.a (.a (.a (.a (.a (.a (.a (.a (.a (.a (.a (.a (.a (.m ?_ (.a (.a (.a (.m ?_ (.a (.a (.a (.m ?_ (.a (.a (.a (.m ?_ .z)))))))))))))))))))))))))))))))))))))) (z5d.k (z5d.k z5d.z)) ?_
   · exact DOk.drop (k:=5150) (d:=83) (v:=vL 6 z01 (r1.2.merger.out++r8.1)) (av:=.c (oC 5150 6 (r1.2.merger.out++r8.1))) rfl (fun r hr=>One.appendT (e:=56) (es:=6) (z01) r1.2.merger.out r8.1 rfl rfl (by kernel_rfl) rfl rfl (.of 56 80 [.zero,.zero,.d (dU 0),.d (dU 0),.d (dU 0),.d (dI 0)] (by kernel_rfl) (by kernel_rfl) (by kernel_rfl) (by kernel_rfl) rfl (by kernel_rfl) rfl) rfl rfl rfl (.list rfl (fun _ _=>rfl)) hc9) (by kernel_rfl) (by kernel_rfl) (by kernel_rfl) (by kernel_rfl)
   · exact DOk.step (.turn 5000 (.box [.d (lD 6 z01 r1.2.merger.a),.d (lD 6 z01 r1.2.merger.b),.d (dI (IntKind.i64.wrap (r1.2.merger.i + ((sub (sub r1.2.merger.a r1.2.merger.i (r1.2.merger.a.length:Int)) 0 r4).length:Int)))),.d (dI r1.2.merger.j),.d (lD 3 z02 r1.2.merger.since),.any])) (fun r=>by kernel_rfl) (fun r=>by kernel_rfl) trivial (by kernel_rfl) (by kernel_rfl) (fun r=>rfl)
   · exact DOk.step (.turn 5000 (.box [.d (lD 6 z01 r1.2.merger.a),.d (lD 6 z01 r1.2.merger.b),.d (dI (IntKind.i64.wrap (r1.2.merger.i + ((sub (sub r1.2.merger.a r1.2.merger.i (r1.2.merger.a.length:Int)) 0 r4).length:Int)))),.d (dI (IntKind.i64.wrap (r1.2.merger.j + ((sub (sub r1.2.merger.b r1.2.merger.j (r1.2.merger.b.length:Int)) 0 r6).length:Int)))),.d (lD 3 z02 r1.2.merger.since),.any])) (fun r=>by kernel_rfl) (fun r=>by kernel_rfl) trivial (by kernel_rfl) (by kernel_rfl) (fun r=>rfl)
   · exact DOk.step (.turn 5000 (.box [.d (lD 6 z01 r1.2.merger.a),.d (lD 6 z01 r1.2.merger.b),.d (dI (IntKind.i64.wrap (r1.2.merger.i + ((sub (sub r1.2.merger.a r1.2.merger.i (r1.2.merger.a.length:Int)) 0 r4).length:Int)))),.d (dI (IntKind.i64.wrap (r1.2.merger.j + ((sub (sub r1.2.merger.b r1.2.merger.j (r1.2.merger.b.length:Int)) 0 r6).length:Int)))),.d (lD 3 z02 r1.2.merger.since),oC 5150 6 (r1.2.merger.out++r8.1)])) (fun r=>by kernel_rfl) (fun r=>by kernel_rfl) trivial (by kernel_rfl) (by kernel_rfl) (fun r=>rfl)
   refine Tri.sg [2,3] [5000,5150] (z00 7) ?_
   refine Tri.ret ?_
   cases h
   exact RetAt.k
theorem zbl {fuel:Nat} {p0:Merger} {p1:Int} {q:Merger × Int × Int} (h:z8t fuel p0 p1=some q) :
    Summ Tryz.prog 20 [.agg (cMerger p0),cD (dI p1)] [] (.tup [(true,[.d (lD 6 z01 q.1.a),.d (lD 6 z01 q.1.b),.d (dI q.1.i),.d (dI q.1.j),.d (lD 3 z02 q.1.since),.d (lD 6 z01 q.1.out)]),(false,[.d (dI q.2.1)]),(false,[.d (dI q.2.2)])]) []:=by
  refine Summ.intro Tryz.func20 rfl (by kernel_rfl) (by kernel_rfl) [] rfl ?_
  rintro ⟨P,w0,G0,V,LL,lk,N, φ0,fx⟩ rfl rfl rfl rfl
  unfold z8t at h
  refine Tri.sg [1,2,4] [2,4] (z00 4) ?_
  refine Tri.seqS ?_
  refine Tri.seqS ?_
  refine Tri.reg ?_
  refine At.sg 1 [1,2,4,12] [2,4] (z00 1) ?_
  obtain ⟨r1,hr1,h⟩:=z04 h
  refine At.cA [] [.agg (cMerger p0)] (z7r hr1) (.cons (.refl _) .nil) ?_
  refine At.sg 1 [1,2,4,7] [2,4] (z00 1) ?_
  refine At.done rfl ?_
  refine Tri.sg [1,2,4,7,15] [2,4] (z00 2) ?_
  refine Tri.condK h (fun h => ?_) (fun h => ?_)
  ·refine Tri.sg [4,5,6] [4] (z00 5) ?_
   refine Tri.keep [4,5,6] [4] (s':=⟨[(4,.c (.ptr 4 0)),(5,cD (dI 0)),(6,cD (dI r1))],[(4,.box [.zero,.zero,.d (dI 0),.d (dI 0),.zero,.zero])]⟩) (by kernel_rfl) ?_
   refine Tri.le [] (fun k hk=>by cases hk) ⟨[(4,.c (.ptr 4 0)),(5,cD (dI 0)),(6,cD (dI r1))],[(4,.box [.d (lD 6 z01 ([]:List Update)),.d (lD 6 z01 ([]:List Update)),.d (dI 0),.d (dI 0),.d (lD 3 z02 ([]:List Time)),.d (lD 6 z01 ([]:List Update))])]⟩ ⟨⟨_,rfl,.refl _⟩,⟨_,rfl,.refl _⟩,⟨_,rfl,.refl _⟩,trivial⟩ ⟨⟨_,rfl,.box (.cons (.zero _ _) (.cons (.zero _ _) (.cons (.refl _) (.cons (.refl _) (.cons (.zero _ _) (.cons (.zero _ _) .nil)))))),(by simp)⟩,trivial⟩ ?_
   refine Tri.ret ?_
   cases h
   exact RetAt.k
  ·refine Tri.skip ?_
   refine Tri.seqS ?_
   refine Tri.reg ?_
   refine At.sg 1 [1,4,18] [4] (z00 1) ?_
   obtain ⟨r2,hr2,h⟩:=z04 h
   refine At.cL 0 [] [.agg (cMerger p0)] [(6105,30304)] [1,4] [4] (zcn hr2) (.flat (.refl _) rfl rfl .nil) ?_
   refine At.sg 3 [1,4,8] [4,21,30304] (z00 3) ?_
   refine At.done rfl ?_
   refine Tri.sg [1,4,8,9] [4,21,30304] (z00 1) ?_
   refine Tri.seqS ?_
   refine Tri.lK (0,(⟨r2⟩:Worker)) (fun (x:Merger × Int × Int) s=>RetAt Tryz.prog Tryz.f20 (.tup [(true,[.d (lD 6 z01 x.1.a),.d (lD 6 z01 x.1.b),.d (dI x.1.i),.d (dI x.1.j),.d (lD 3 z02 x.1.since),.d (lD 6 z01 x.1.out)]),(false,[.d (dI x.2.1)]),(false,[.d (dI x.2.2)])]) [] s) (fun (a3:Int × Worker)=>⟨[(1,cD (dI p1)),(4,.c (.ptr 4 0)),(8,.c (.ptr 21 0)),(9,cD (dI a3.1))],[(4,.box [.zero,.zero,.d (dI 0),.d (dI 0),.zero,.zero]),(21,.box [.d (lD 6 z01 a3.2.merger.a),.d (lD 6 z01 a3.2.merger.b),.d (dI a3.2.merger.i),.d (dI a3.2.merger.j),.d (lD 3 z02 a3.2.merger.since),oC 30304 6 a3.2.merger.out]),(30304,vL 6 z01 a3.2.merger.out)]⟩) [1,4,8,9] [4,21,30304] h ?_ ?_ ?_
   ·intro a3 c h
    refine Tri.seqS ?_
    refine Tri.seqJ (fun (a5:Bool × Worker)=>⟨[(1,cD (dI p1)),(4,.c (.ptr 4 0)),(8,.c (.ptr 21 0)),(9,cD (dI a3.1)),(28,cD (.bool a5.1))],[(4,.box [.zero,.zero,.d (dI 0),.d (dI 0),.zero,.zero]),(21,.box [.d (lD 6 z01 a5.2.merger.a),.d (lD 6 z01 a5.2.merger.b),.d (dI a5.2.merger.i),.d (dI a5.2.merger.j),.d (lD 3 z02 a5.2.merger.since),oC 30304 6 a5.2.merger.out]),(30304,vL 6 z01 a5.2.merger.out)]⟩) h (fun a5 h => ?_) (fun j6 h => ?_)
    ·refine Tri.condK h (fun h => ?_) (fun h => ?_)
     ·refine Tri.skip ?_
      refine Tri.blockB ?_
      refine Tri.seqS ?_
      refine Tri.reg ?_
      refine At.sg 1 [1,4,8,9,30] [4,21,30304] (z00 1) ?_
      obtain ⟨r7,hr7,h⟩:=z04 h
      refine At.cL 0 [] [.c (.ptr 21 0)] [(5000,21),(5100,30304),(5150,30304)] [1,4,8,9] [4] (z7g hr7) (.ren rfl rfl .nil) ?_
      refine At.sg 5 [1,4,8,9,10,11] [4,21,30304] (z00 5) ?_
      refine At.done rfl ?_
      refine Tri.seqS ?_
      refine Tri.sg [1,4,8,9,10,11,35] [4,21,30304] (z00 2) ?_
      refine Tri.condK h (fun h => ?_) (fun h => ?_)
      ·refine Tri.sg [4,5,6] [4,30304] (z00 9) ?_
       refine Tri.keep [4,5,6] [4,30304] (s':=⟨[(4,.c (.ptr 4 0)),(5,cD (dI a3.1)),(6,cD (dI r7.2.1))],[(4,.box [.d (lD 6 z01 r7.2.2.merger.a),.d (lD 6 z01 r7.2.2.merger.b),.d (dI r7.2.2.merger.i),.d (dI r7.2.2.merger.j),.d (lD 3 z02 r7.2.2.merger.since),oC 30304 6 r7.2.2.merger.out]),(30304,vL 6 z01 r7.2.2.merger.out)]⟩) (by kernel_rfl) ?_
       refine Tri.le [30304] (fun k hk h=>by first | (cases h; done) | (simp at hk h; omega)) ⟨[(4,.c (.ptr 4 0)),(5,cD (dI a3.1)),(6,cD (dI r7.2.1))],[(4,.box (cMerger r7.2.2.merger))]⟩ ⟨⟨_,rfl,.refl _⟩,⟨_,rfl,.refl _⟩,⟨_,rfl,.refl _⟩,trivial⟩ ⟨⟨_,rfl,.box (.cons (.refl _) (.cons (.refl _) (.cons (.refl _) (.cons (.refl _) (.cons (.refl _) (.cons (CLe.frozen (z01) r7.2.2.merger.out rfl (by simp)) .nil)))))),(by simp)⟩,trivial⟩ ?_
       refine Tri.ret ?_
       cases h
       exact RetAt.k
      ·refine Tri.skip ?_
       refine Tri.reg ?_
       refine At.sg 4 [1,4,8,9] [4,21,30304] (z00 4) ?_
       refine At.done rfl ?_
       cases h
       exact kr
     ·refine Tri.kp [1,4,8,9] [4,21,30304] ?_
      refine Tri.exit ?_
      cases h
      exact ⟨rfl,kr⟩
    ·refine Tri.reg ?_
     refine At.sg 4 [1,4,8,9,25] [4,21,30304] (z00 4) ?_
     refine At.cs [25] h (fun h => ?_) (fun h => ?_)
     ·refine At.sg 1 [1,4,8,9,25,26] [4,21,30304] (z00 1) ?_
      obtain ⟨r8,hr8,h⟩:=z04 h
      refine At.cL 0 [] [.c (.ptr 21 0)] [(5000,21),(5100,30304),(5150,30304)] [1,4,8,9,25] [4] (z7f hr8) (.ren rfl rfl .nil) ?_
      refine At.sg 1 [1,4,8,9,28] [4,21,30304] (z00 1) ?_
      refine At.done rfl ?_
      exact ⟨_,h,kr⟩
     ·refine At.sg 3 [1,4,8,9,28] [4,21,30304] (z00 1) ?_
      refine At.done rfl ?_
      exact ⟨_,h,kr⟩
   ·intro a4 h
    refine Tri.sg [4,5,6] [4,30304] (z00 8) ?_
    refine Tri.keep [4,5,6] [4,30304] (s':=⟨[(4,.c (.ptr 4 0)),(5,cD (dI a4.1)),(6,cD (dI 0))],[(4,.box [.d (lD 6 z01 a4.2.merger.a),.d (lD 6 z01 a4.2.merger.b),.d (dI a4.2.merger.i),.d (dI a4.2.merger.j),.d (lD 3 z02 a4.2.merger.since),oC 30304 6 a4.2.merger.out]),(30304,vL 6 z01 a4.2.merger.out)]⟩) (by kernel_rfl) ?_
    refine Tri.le [30304] (fun k hk h=>by first | (cases h; done) | (simp at hk h; omega)) ⟨[(4,.c (.ptr 4 0)),(5,cD (dI a4.1)),(6,cD (dI 0))],[(4,.box (cMerger a4.2.merger))]⟩ ⟨⟨_,rfl,.refl _⟩,⟨_,rfl,.refl _⟩,⟨_,rfl,.refl _⟩,trivial⟩ ⟨⟨_,rfl,.box (.cons (.refl _) (.cons (.refl _) (.cons (.refl _) (.cons (.refl _) (.cons (.refl _) (.cons (CLe.frozen (z01) a4.2.merger.out rfl (by simp)) .nil)))))),(by simp)⟩,trivial⟩ ?_
    refine Tri.ret ?_
    cases h
    exact RetAt.k
   · exact fun x s hx hr=>by cases hx; exact hr
theorem z7u {l0:Worker} {q:Bool × Worker} (h:z48 l0=some q) :
    Summ Tryz.prog 55 [.c (.ptr 5000 0)] [(5000,.box (cMerger l0.merger))] (cD (.bool q.1)) [(5000,.box (cMerger q.2.merger))]:=by
  refine Summ.intro Tryz.func55 rfl (by kernel_rfl) (by kernel_rfl) [] rfl ?_
  rintro ⟨P,w0,G0,V,LL,lk,N, φ0,fx⟩ rfl rfl rfl rfl
  unfold z48 at h
  refine Tri.segL [0] [5000] ⟨[(0,.c (.ptr 5000 0))],[(5000,.box (cMerger l0.merger))]⟩ _ (by kernel_rfl) (z00 1) ?_
  refine Tri.seqJ (fun (a1:Bool)=>⟨[(2,cD (.bool a1))],[(5000,.box (cMerger l0.merger))]⟩) h (fun a1 h => ?_) (fun j2 h => ?_)
  ·refine Tri.ret ?_
   cases h
   exact RetAt.k
  ·rcases z20 h with ⟨hp3,h⟩ | ⟨hp3,h⟩
   ·refine Tri.dC [.a [0] [],.a [3] [],.a [4] [],.a [5] [],.a [6] [5000],.a [0] [],.a [8] [],.a [9] [],.a [10] [],.a [11] [5000],.a [12] [],.a [7,13] [],.m ⟨[(14,cD (.bool (decide (l0.merger.i < (l0.merger.a.length:Int)))))],[]⟩ ⟨[(15,.c (.d (.bool true)))],[]⟩ [] [] [],.a [0,15] [],.a [15,16] [],.a [15,17] [],.a [15,18] [],.a [15,19] [],.a [0,15] [],.a [15,21] [],.a [15,22] [],.a [15,23] [],.a [15,24] [],.a [15,25] [],.a [15,20,26] [],.a [15,27] [],.a [28] []] [2] [5000] (z00 14) (.a (.a (.a (.a (.a (.a (.a (.a (.a (.a (.a (.a (.m ?_ (.a (.a (.a (.a (.a (.a (.a (.a (.a (.a (.a (.a (.a (.a .z))))))))))))))))))))))))))) ?_
    · exact DOk.stepP (fun b => .val (.c (.d (.bool b))) (True)) (p:=(decide (l0.merger.i < (l0.merger.a.length:Int)))) hp3 (fun r=>by kernel_rfl) (fun r=>by kernel_rfl) trivial (by kernel_rfl) (by kernel_rfl) (fun r=>rfl)
    exact ⟨_,h,kr⟩
   ·refine Tri.dC [.a [0] [],.a [3] [],.a [4] [],.a [5] [],.a [6] [5000],.a [0] [],.a [8] [],.a [9] [],.a [10] [],.a [11] [5000],.a [12] [],.a [7,13] [],.m ⟨[(14,cD (.bool (decide (l0.merger.i < (l0.merger.a.length:Int)))))],[]⟩ ⟨[(15,.c (.d (.bool false)))],[]⟩ [] [] [],.a [0,15] [],.a [15,16] [],.a [15,17] [],.a [15,18] [],.a [15,19] [5000],.a [0,15] [],.a [15,21] [],.a [15,22] [],.a [15,23] [],.a [15,24] [5000],.a [15,25] [],.a [15,20,26] [],.a [15,27] [],.a [28] []] [2] [5000] (z00 26) (.a (.a (.a (.a (.a (.a (.a (.a (.a (.a (.a (.a (.m ?_ (.a (.a (.a (.a (.a (.a (.a (.a (.a (.a (.a (.a (.a (.a .z))))))))))))))))))))))))))) ?_
    · exact DOk.stepP (fun b => .val (.c (.d (.bool b))) (True)) (p:=(decide (l0.merger.i < (l0.merger.a.length:Int)))) hp3 (fun r=>by kernel_rfl) (fun r=>by kernel_rfl) trivial (by kernel_rfl) (by kernel_rfl) (fun r=>rfl)
    exact ⟨_,h,kr⟩
theorem zc5 {fuel:Nat} {p0:Merger} {q:Batch × Int} (h:z9u fuel p0=some q) :
    Summ Tryz.prog 22 [.agg (cMerger p0)] [] (.tup [(true,[.d (lD 3 z02 q.1.since),.d (lD 6 z01 q.1.updates)]),(false,[.d (dI q.2)])]) []:=by
  refine Summ.intro Tryz.func22 rfl (by kernel_rfl) (by kernel_rfl) [] rfl ?_
  rintro ⟨P,w0,G0,V,LL,lk,N, φ0,fx⟩ rfl rfl rfl rfl
  unfold z9u at h
  refine Tri.sg [1,2] [1,2] (z00 3) ?_
  refine Tri.sg [1,2,4] [1,2,4] (z00 4) ?_
  refine Tri.seqS ?_
  refine Tri.seqJ (fun (a1:Bool)=>⟨[(1,.c (.ptr 1 0)),(2,.c (.ptr 2 0)),(12,cD (.bool a1))],[(1,.box (cMerger p0)),(2,.box [.zero,.zero])]⟩) h (fun a1 h => ?_) (fun j2 h => ?_)
  ·refine Tri.condK h (fun h => ?_) (fun h => ?_)
   ·refine Tri.sg [2,3] [2] (z00 3) ?_
    refine Tri.keep [2,3] [2] (s':=⟨[(2,.c (.ptr 2 0)),(3,cD (dI 8))],[(2,.box [.zero,.zero])]⟩) (by kernel_rfl) ?_
    refine Tri.le [] (fun k hk=>by cases hk) ⟨[(2,.c (.ptr 2 0)),(3,cD (dI 8))],[(2,.box [.d (lD 3 z02 ([]:List Time)),.d (lD 6 z01 ([]:List Update))])]⟩ ⟨⟨_,rfl,.refl _⟩,⟨_,rfl,.refl _⟩,trivial⟩ ⟨⟨_,rfl,.box (.cons (.zero _ _) (.cons (.zero _ _) .nil)),(by simp)⟩,trivial⟩ ?_
    refine Tri.ret ?_
    cases h
    exact RetAt.k
   ·refine Tri.skip ?_
    refine Tri.seqS ?_
    refine Tri.reg ?_
    refine At.sg 1 [1,2,14] [1,2] (z00 1) ?_
    obtain ⟨r3,hr3,h⟩:=z04 h
    refine At.cA [] [.agg (cMerger p0)] (zbp hr3) (.cons (.refl _) .nil) ?_
    refine At.sg 1 [1,2] [1,2] (z00 1) ?_
    refine At.done rfl ?_
    refine Tri.sg [2,3] [2] (z00 7) ?_
    refine Tri.ret ?_
    cases h
    exact RetAt.k
  ·refine Tri.reg ?_
   refine At.sg 1 [1,2,4,7] [1,2,4] (z00 1) ?_
   obtain ⟨r4,hr4,h⟩:=z04 h
   refine At.cA [] [.agg (cMerger p0)] (z7r hr4) (.cons (.refl _) .nil) ?_
   refine At.sg 2 [1,2,4,10] [1,2,4] (z00 2) ?_
   refine At.cs [10] h (fun h => ?_) (fun h => ?_)
   ·refine At.sg 2 [1,2,12] [1,2] (z00 1) ?_
    refine At.done rfl ?_
    exact ⟨_,h,kr⟩
   ·obtain ⟨r5,hr5,h⟩:=z04 h
    refine At.cL 0 [] [.c (.ptr 4 0)] [(5000,4)] [1,2,10] [1,2] (z7u hr5) (.ren rfl rfl .nil) ?_
    refine At.sg 1 [1,2,12] [1,2] (z00 1) ?_
    refine At.done rfl ?_
    exact ⟨_,h,kr⟩
theorem zao {fuel:Nat} {q:Bool} (h:z44 fuel=some q) :
    Summ Tryz.prog 13 [] [] (cD (.bool q)) []:=by
  refine Summ.intro Tryz.func13 rfl (by kernel_rfl) (by kernel_rfl) [] rfl ?_
  rintro ⟨P,w0,G0,V,LL,lk,N, φ0,fx⟩ rfl rfl rfl rfl
  unfold z44 at h
  refine Tri.sg [] [] (z00 1) ?_
  refine Tri.seqS ?_
  refine Tri.reg ?_
  obtain ⟨r1,hr1,h⟩:=z04 h
  refine At.cA [] [cD (dI 1)] (z68 hr1) (.cons (.refl _) .nil) ?_
  refine At.seg 1 [17] [] (s':=⟨[(17,.agg [.zero,.d (lD 3 z05 r1),.d (dU 0),.d (dU 0),.d (dU 0),.d (dI 1)])],[]⟩) (by kernel_rfl) (z00 1) ?_
  refine At.one rfl (One.buildSlice (z:=[.zero,.zero,.d (dU 0),.d (dU 0),.d (dU 0),.d (dI 0)]) (cells:=[.zero,.d (lD 3 z05 r1),.d (dU 0),.d (dU 0),.d (dU 0),.d (dI 1)]) (xs:=List.map (z01) ([(⟨([]:List Value),r1,(⟨0,(0,0)⟩:Time),1⟩:Update)]:List Update)) rfl rfl rfl rfl (by kernel_rfl) rfl rfl (by kernel_rfl) rfl rfl rfl (by kernel_rfl) rfl ⟨⟨rfl,(.cons (.zero _ _) (.cons (.refl _) (.cons (.refl _) (.cons (.refl _) (.cons (.refl _) (.cons (.refl _) .nil))))))⟩,trivial⟩) ?_
  refine At.le [18] (fun k hk h=>by first | (cases h; done) | (simp at hk h; omega)) ⟨[(18,cD (lD 6 z01 ([(⟨([]:List Value),r1,(⟨0,(0,0)⟩:Time),1⟩:Update)]:List Update))),(17,.agg [.zero,.d (lD 3 z05 r1),.d (dU 0),.d (dU 0),.d (dU 0),.d (dI 1)])],[]⟩ ⟨⟨_,rfl,.c (.own rfl (List.mem_singleton.2 rfl) (Nat.le_of_ble_eq_true rfl) rfl (z2y (z01) ([(⟨([]:List Value),r1,(⟨0,(0,0)⟩:Time),1⟩:Update)]:List Update)))⟩,⟨_,rfl,.refl _⟩,trivial⟩ trivial ?_
  obtain ⟨r2,hr2,h⟩:=z04 h
  refine At.cA [] [cD (dI 2)] (z68 hr2) (.cons (.refl _) .nil) ?_
  refine At.seg 1 [18,20] [] (s':=⟨[(18,cD (lD 6 z01 ([(⟨([]:List Value),r1,(⟨0,(0,0)⟩:Time),1⟩:Update)]:List Update))),(20,.agg [.zero,.d (lD 3 z05 r2),.d (dU 0),.d (dU 0),.d (dU 0),.d (dI 5)])],[]⟩) (by kernel_rfl) (z00 1) ?_
  refine At.one rfl (One.buildSlice (z:=[.zero,.zero,.d (dU 0),.d (dU 0),.d (dU 0),.d (dI 0)]) (cells:=[.zero,.d (lD 3 z05 r2),.d (dU 0),.d (dU 0),.d (dU 0),.d (dI 5)]) (xs:=List.map (z01) ([(⟨([]:List Value),r2,(⟨0,(0,0)⟩:Time),5⟩:Update)]:List Update)) rfl rfl rfl rfl (by kernel_rfl) rfl rfl (by kernel_rfl) rfl rfl rfl (by kernel_rfl) rfl ⟨⟨rfl,(.cons (.zero _ _) (.cons (.refl _) (.cons (.refl _) (.cons (.refl _) (.cons (.refl _) (.cons (.refl _) .nil))))))⟩,trivial⟩) ?_
  refine At.le [21] (fun k hk h=>by first | (cases h; done) | (simp at hk h; omega)) ⟨[(21,cD (lD 6 z01 ([(⟨([]:List Value),r2,(⟨0,(0,0)⟩:Time),5⟩:Update)]:List Update))),(18,cD (lD 6 z01 ([(⟨([]:List Value),r1,(⟨0,(0,0)⟩:Time),1⟩:Update)]:List Update))),(20,.agg [.zero,.d (lD 3 z05 r2),.d (dU 0),.d (dU 0),.d (dU 0),.d (dI 5)])],[]⟩ ⟨⟨_,rfl,.c (.own rfl (List.mem_singleton.2 rfl) (Nat.le_of_ble_eq_true rfl) rfl (z2y (z01) ([(⟨([]:List Value),r2,(⟨0,(0,0)⟩:Time),5⟩:Update)]:List Update)))⟩,⟨_,rfl,.refl _⟩,⟨_,rfl,.refl _⟩,trivial⟩ trivial ?_
  refine At.one rfl (One.buildSlice (z:=[.zero]) (cells:=[.d (lD 6 z01 ([(⟨([]:List Value),r1,(⟨0,(0,0)⟩:Time),1⟩:Update)]:List Update)),.d (lD 6 z01 ([(⟨([]:List Value),r2,(⟨0,(0,0)⟩:Time),5⟩:Update)]:List Update))]) (xs:=List.map ((fun xs=>[encL 6 z01 xs])) ([([(⟨([]:List Value),r1,(⟨0,(0,0)⟩:Time),1⟩:Update)]:List Update),([(⟨([]:List Value),r2,(⟨0,(0,0)⟩:Time),5⟩:Update)]:List Update)]:List (List Update))) rfl rfl rfl rfl (by kernel_rfl) rfl rfl (by kernel_rfl) rfl rfl rfl (by kernel_rfl) rfl ⟨⟨rfl,.refl _⟩,⟨rfl,.refl _⟩,trivial⟩) ?_
  refine At.le [22] (fun k hk h=>by first | (cases h; done) | (simp at hk h; omega)) ⟨[(22,cD (lD 1 (fun xs=>[encL 6 z01 xs]) ([([(⟨([]:List Value),r1,(⟨0,(0,0)⟩:Time),1⟩:Update)]:List Update),([(⟨([]:List Value),r2,(⟨0,(0,0)⟩:Time),5⟩:Update)]:List Update)]:List (List Update)))),(18,cD (lD 6 z01 ([(⟨([]:List Value),r1,(⟨0,(0,0)⟩:Time),1⟩:Update)]:List Update))),(21,cD (lD 6 z01 ([(⟨([]:List Value),r2,(⟨0,(0,0)⟩:Time),5⟩:Update)]:List Update)))],[]⟩ ⟨⟨_,rfl,.c (.own rfl (List.mem_singleton.2 rfl) (Nat.le_of_ble_eq_true rfl) rfl (z2y ((fun xs=>[encL 6 z01 xs])) ([([(⟨([]:List Value),r1,(⟨0,(0,0)⟩:Time),1⟩:Update)]:List Update),([(⟨([]:List Value),r2,(⟨0,(0,0)⟩:Time),5⟩:Update)]:List Update)]:List (List Update))))⟩,⟨_,rfl,.refl _⟩,⟨_,rfl,.refl _⟩,trivial⟩ trivial ?_
  obtain ⟨r3,hr3,h⟩:=z04 h
  refine At.cA [] [.c (.zero),cD (lD 1 (fun xs=>[encL 6 z01 xs]) ([([(⟨([]:List Value),r1,(⟨0,(0,0)⟩:Time),1⟩:Update)]:List Update),([(⟨([]:List Value),r2,(⟨0,(0,0)⟩:Time),5⟩:Update)]:List Update)]:List (List Update)))] (zas hr3) (.cons (.c (.le (.zero _ _))) (.cons (.refl _) .nil)) ?_
  refine At.sg 6 [1,2] [1] (z00 6) ?_
  refine At.done rfl ?_
  refine Tri.seqS ?_
  refine Tri.reg ?_
  obtain ⟨r4,hr4,h⟩:=z04 h
  refine At.cA [] [cD (dI 1)] (z68 hr4) (.cons (.refl _) .nil) ?_
  refine At.seg 1 [1,2,28] [1] (s':=⟨[(1,.c (.ptr 1 0)),(2,cD (dI r3.2)),(28,.agg [.zero,.d (lD 3 z05 r4),.d (dU 0),.d (dU 0),.d (dU 0),.d (dI (-1))])],[(1,.box (cBatch r3.1))]⟩) (by kernel_rfl) (z00 1) ?_
  refine At.one rfl (One.buildSlice (z:=[.zero,.zero,.d (dU 0),.d (dU 0),.d (dU 0),.d (dI 0)]) (cells:=[.zero,.d (lD 3 z05 r4),.d (dU 0),.d (dU 0),.d (dU 0),.d (dI (-1))]) (xs:=List.map (z01) ([(⟨([]:List Value),r4,(⟨0,(0,0)⟩:Time),(-1)⟩:Update)]:List Update)) rfl rfl rfl rfl (by kernel_rfl) rfl rfl (by kernel_rfl) rfl rfl rfl (by kernel_rfl) rfl ⟨⟨rfl,(.cons (.zero _ _) (.cons (.refl _) (.cons (.refl _) (.cons (.refl _) (.cons (.refl _) (.cons (.refl _) .nil))))))⟩,trivial⟩) ?_
  refine At.le [29] (fun k hk h=>by first | (cases h; done) | (simp at hk h; omega)) ⟨[(29,cD (lD 6 z01 ([(⟨([]:List Value),r4,(⟨0,(0,0)⟩:Time),(-1)⟩:Update)]:List Update))),(1,.c (.ptr 1 0)),(2,cD (dI r3.2)),(28,.agg [.zero,.d (lD 3 z05 r4),.d (dU 0),.d (dU 0),.d (dU 0),.d (dI (-1))])],[(1,.box (cBatch r3.1))]⟩ ⟨⟨_,rfl,.c (.own rfl (List.mem_singleton.2 rfl) (Nat.le_of_ble_eq_true rfl) rfl (z2y (z01) ([(⟨([]:List Value),r4,(⟨0,(0,0)⟩:Time),(-1)⟩:Update)]:List Update)))⟩,⟨_,rfl,.refl _⟩,⟨_,rfl,.refl _⟩,⟨_,rfl,.refl _⟩,trivial⟩ ⟨⟨_,rfl,.refl _,(by simp)⟩,trivial⟩ ?_
  refine At.one rfl (One.buildSlice (z:=[.zero]) (cells:=[.d (lD 6 z01 ([(⟨([]:List Value),r4,(⟨0,(0,0)⟩:Time),(-1)⟩:Update)]:List Update))]) (xs:=List.map ((fun xs=>[encL 6 z01 xs])) ([([(⟨([]:List Value),r4,(⟨0,(0,0)⟩:Time),(-1)⟩:Update)]:List Update)]:List (List Update))) rfl rfl rfl rfl (by kernel_rfl) rfl rfl (by kernel_rfl) rfl rfl rfl (by kernel_rfl) rfl ⟨⟨rfl,.refl _⟩,trivial⟩) ?_
  refine At.le [30] (fun k hk h=>by first | (cases h; done) | (simp at hk h; omega)) ⟨[(30,cD (lD 1 (fun xs=>[encL 6 z01 xs]) ([([(⟨([]:List Value),r4,(⟨0,(0,0)⟩:Time),(-1)⟩:Update)]:List Update)]:List (List Update)))),(1,.c (.ptr 1 0)),(2,cD (dI r3.2)),(29,cD (lD 6 z01 ([(⟨([]:List Value),r4,(⟨0,(0,0)⟩:Time),(-1)⟩:Update)]:List Update)))],[(1,.box (cBatch r3.1))]⟩ ⟨⟨_,rfl,.c (.own rfl (List.mem_singleton.2 rfl) (Nat.le_of_ble_eq_true rfl) rfl (z2y ((fun xs=>[encL 6 z01 xs])) ([([(⟨([]:List Value),r4,(⟨0,(0,0)⟩:Time),(-1)⟩:Update)]:List Update)]:List (List Update))))⟩,⟨_,rfl,.refl _⟩,⟨_,rfl,.refl _⟩,⟨_,rfl,.refl _⟩,trivial⟩ ⟨⟨_,rfl,.refl _,(by simp)⟩,trivial⟩ ?_
  obtain ⟨r5,hr5,h⟩:=z04 h
  refine At.cA [] [.c (.zero),cD (lD 1 (fun xs=>[encL 6 z01 xs]) ([([(⟨([]:List Value),r4,(⟨0,(0,0)⟩:Time),(-1)⟩:Update)]:List Update)]:List (List Update)))] (zas hr5) (.cons (.c (.le (.zero _ _))) (.cons (.refl _) .nil)) ?_
  refine At.sg 6 [1,2,3,4] [1,3] (z00 6) ?_
  refine At.done rfl ?_
  refine Tri.seqS ?_
  refine Tri.reg ?_
  refine At.seg 2 [2,4,35,36] [] (s':=⟨[(2,cD (dI r3.2)),(4,cD (dI r5.2)),(35,.agg (cBatch r3.1)),(36,.agg (cBatch r5.1))],[]⟩) (by kernel_rfl) (z00 2) ?_
  obtain ⟨r6,hr6,h⟩:=z04 h
  refine At.cA [] [.c (.zero),.agg (cBatch r3.1),.agg (cBatch r5.1)] (zeg hr6) (.cons (.c (.le (.zero _ _))) (.cons (.refl _) (.cons (.refl _) .nil))) ?_
  refine At.sg 6 [2,4,5,6] [5] (z00 6) ?_
  refine At.done rfl ?_
  refine Tri.seqS ?_
  refine Tri.reg ?_
  refine At.sg 1 [2,4,5,6,41] [5] (z00 1) ?_
  obtain ⟨r7,hr7,h⟩:=z04 h
  refine At.cA [] [.agg (cMerger r6.1),cD (dI 1)] (zbl hr7) (.cons (.refl _) (.cons (.refl _) .nil)) ?_
  refine At.sg 7 [2,4,5,6,7,8] [5] (z00 7) ?_
  refine At.done rfl ?_
  refine Tri.seqS ?_
  refine Tri.reg ?_
  refine At.sg 1 [2,4,5,6,7,8,47] [5] (z00 1) ?_
  obtain ⟨r8,hr8,h⟩:=z04 h
  refine At.cA [] [.agg (cMerger r7.1)] (zc5 hr8) (.cons (.refl _) .nil) ?_
  refine At.sg 6 [2,4,5,6,7,8,10] [5] (z00 6) ?_
  refine At.done rfl ?_
  refine Tri.seqS ?_
  refine Tri.reg ?_
  refine At.sg 1 [2,4,5,6,7,8,10,52] [5] (z00 1) ?_
  obtain ⟨r9,hr9,h⟩:=z04 h
  refine At.cA [] [.agg (cMerger r7.1),cD (dI 9)] (zbl hr9) (.cons (.refl _) (.cons (.refl _) .nil)) ?_
  refine At.sg 7 [2,4,5,6,7,8,10,11,12] [5] (z00 7) ?_
  refine At.done rfl ?_
  refine Tri.seqS ?_
  refine Tri.reg ?_
  refine At.sg 1 [2,4,6,7,8,10,11,12,58] [] (z00 1) ?_
  obtain ⟨r10,hr10,h⟩:=z04 h
  refine At.cA [] [.agg (cMerger r9.1)] (zc5 hr10) (.cons (.refl _) .nil) ?_
  refine At.sg 6 [2,4,6,7,8,10,11,12,13,14] [13] (z00 6) ?_
  refine At.done rfl ?_
  refine Tri.seqJ (fun (a11:Bool)=>⟨[(0,cD (.bool a11))],[]⟩) h (fun a11 h => ?_) (fun j12 h => ?_)
  ·refine Tri.ret ?_
   cases h
   exact RetAt.k
  ·refine Tri.reg ?_
   refine At.sg 3 [4,6,7,8,10,11,12,13,14,64] [13] (z00 3) ?_
   refine At.cs [64] h (fun h => ?_) (fun h => ?_)
   ·refine At.sg 4 [6,7,8,10,11,12,13,14,68] [13] (z00 4) ?_
    refine At.cs [68] h (fun h => ?_) (fun h => ?_)
    ·refine At.sg 4 [7,8,10,11,12,13,14,72] [13] (z00 4) ?_
     refine At.cs [72] h (fun h => ?_) (fun h => ?_)
     ·refine At.sg 4 [8,10,11,12,13,14,76] [13] (z00 4) ?_
      refine At.cs [76] h (fun h => ?_) (fun h => ?_)
      ·refine At.sg 4 [10,11,12,13,14,80] [13] (z00 4) ?_
       refine At.cs [80] h (fun h => ?_) (fun h => ?_)
       ·refine At.sg 4 [11,12,13,14,84] [13] (z00 4) ?_
        refine At.cs [84] h (fun h => ?_) (fun h => ?_)
        ·refine At.sg 4 [12,13,14,88] [13] (z00 4) ?_
         refine At.cs [88] h (fun h => ?_) (fun h => ?_)
         ·refine At.sg 4 [13,14,92] [13] (z00 4) ?_
          refine At.cs [92] h (fun h => ?_) (fun h => ?_)
          ·refine At.sg 4 [13,96] [13] (z00 4) ?_
           refine At.cs [96] h (fun h => ?_) (fun h => ?_)
           ·refine At.sg 6 [13,102] [13] (z00 6) ?_
            refine At.cs [102] h (fun h => ?_) (fun h => ?_)
            ·obtain ⟨hc13,h⟩:=z03 h
             refine At.sg 8 [110] [] (tN 2 (ai hc13 (z00 5))) ?_
             refine At.cs [110] h (fun h => ?_) (fun h => ?_)
             ·refine At.seg 1 [110,111] [] (s':=⟨[(110,cD (.bool true)),(111,.agg [.d (dU 2),.d (dU 0),.d (dU 0)])],[]⟩) (by kernel_rfl) (z00 1) ?_
              refine At.one rfl (One.buildSlice (z:=[.d (dU 0),.d (dU 0),.d (dU 0)]) (cells:=[.d (dU 2),.d (dU 0),.d (dU 0)]) (xs:=List.map (z02) ([(⟨2,(0,0)⟩:Time)]:List Time)) rfl rfl rfl rfl (by kernel_rfl) rfl rfl (by kernel_rfl) rfl rfl rfl (by kernel_rfl) rfl ⟨⟨rfl,.refl _⟩,trivial⟩) ?_
              refine At.le [112] (fun k hk h=>by first | (cases h; done) | (simp at hk h; omega)) ⟨[(112,cD (lD 3 z02 ([(⟨2,(0,0)⟩:Time)]:List Time))),(110,cD (.bool true)),(111,.agg [.d (dU 2),.d (dU 0),.d (dU 0)])],[]⟩ ⟨⟨_,rfl,.c (.own rfl (List.mem_singleton.2 rfl) (Nat.le_of_ble_eq_true rfl) rfl (z2y (z02) ([(⟨2,(0,0)⟩:Time)]:List Time)))⟩,⟨_,rfl,.refl _⟩,⟨_,rfl,.refl _⟩,trivial⟩ trivial ?_
              refine At.seg 1 [110,112,113] [] (s':=⟨[(110,cD (.bool true)),(112,cD (lD 3 z02 ([(⟨2,(0,0)⟩:Time)]:List Time))),(113,.agg [.d (dU 1),.d (dU 0),.d (dU 0)])],[]⟩) (by kernel_rfl) (z00 1) ?_
              refine At.one rfl (One.buildSlice (z:=[.d (dU 0),.d (dU 0),.d (dU 0)]) (cells:=[.d (dU 1),.d (dU 0),.d (dU 0)]) (xs:=List.map (z02) ([(⟨1,(0,0)⟩:Time)]:List Time)) rfl rfl rfl rfl (by kernel_rfl) rfl rfl (by kernel_rfl) rfl rfl rfl (by kernel_rfl) rfl ⟨⟨rfl,.refl _⟩,trivial⟩) ?_
              refine At.le [114] (fun k hk h=>by first | (cases h; done) | (simp at hk h; omega)) ⟨[(114,cD (lD 3 z02 ([(⟨1,(0,0)⟩:Time)]:List Time))),(110,cD (.bool true)),(112,cD (lD 3 z02 ([(⟨2,(0,0)⟩:Time)]:List Time))),(113,.agg [.d (dU 1),.d (dU 0),.d (dU 0)])],[]⟩ ⟨⟨_,rfl,.c (.own rfl (List.mem_singleton.2 rfl) (Nat.le_of_ble_eq_true rfl) rfl (z2y (z02) ([(⟨1,(0,0)⟩:Time)]:List Time)))⟩,⟨_,rfl,.refl _⟩,⟨_,rfl,.refl _⟩,⟨_,rfl,.refl _⟩,trivial⟩ trivial ?_
              obtain ⟨r14,hr14,h⟩:=z04 h
              refine At.cA [] [cD (lD 3 z02 ([(⟨2,(0,0)⟩:Time)]:List Time)),cD (lD 3 z02 ([(⟨1,(0,0)⟩:Time)]:List Time))] (z82 hr14) (.cons (.refl _) (.cons (.refl _) .nil)) ?_
              refine At.sg 2 [0] [] (z00 2) ?_
              refine At.done rfl ?_
              exact ⟨_,h,kr⟩
             ·refine At.sg 7 [0] [] (z00 2) ?_
              refine At.done rfl ?_
              exact ⟨_,h,kr⟩
            ·refine At.sg 15 [0] [] (z00 4) ?_
             refine At.done rfl ?_
             exact ⟨_,h,kr⟩
           ·refine At.sg 21 [0] [] (z00 6) ?_
            refine At.done rfl ?_
            exact ⟨_,h,kr⟩
          ·refine At.sg 25 [0] [] (z00 8) ?_
           refine At.done rfl ?_
           exact ⟨_,h,kr⟩
         ·refine At.sg 29 [0] [] (z00 10) ?_
          refine At.done rfl ?_
          exact ⟨_,h,kr⟩
        ·refine At.sg 33 [0] [] (z00 12) ?_
         refine At.done rfl ?_
         exact ⟨_,h,kr⟩
       ·refine At.sg 37 [0] [] (z00 14) ?_
        refine At.done rfl ?_
        exact ⟨_,h,kr⟩
      ·refine At.sg 41 [0] [] (z00 16) ?_
       refine At.done rfl ?_
       exact ⟨_,h,kr⟩
     ·refine At.sg 45 [0] [] (z00 18) ?_
      refine At.done rfl ?_
      exact ⟨_,h,kr⟩
    ·refine At.sg 49 [0] [] (z00 20) ?_
     refine At.done rfl ?_
     exact ⟨_,h,kr⟩
   ·refine At.sg 53 [0] [] (z00 22) ?_
    refine At.done rfl ?_
    exact ⟨_,h,kr⟩
theorem z2i {p0:List Value} {p1:List Value} {q:Bool} (h:z37 p0 p1=some q) :
    Summ Tryz.prog 62 [cD (lD 3 z05 p0),cD (lD 3 z05 p1)] [] (cD (.bool q)) []:=by
  refine Summ.intro Tryz.func62 rfl (by kernel_rfl) (by kernel_rfl) [] rfl ?_
  rintro ⟨P,w0,G0,V,LL,lk,N, φ0,fx⟩ rfl rfl rfl rfl
  unfold z37 at h
  refine Tri.sg [0,1] [] (z00 1) ?_
  refine Tri.seqS ?_
  refine Tri.sg [0,1,10] [] (z00 5) ?_
  refine Tri.condK h (fun h => ?_) (fun h => ?_)
  ·refine Tri.sg [4] [] (z00 1) ?_
   refine Tri.ret ?_
   cases h
   exact RetAt.k
  ·refine Tri.skip ?_
   refine Tri.seqS ?_
   refine Tri.sg [0,1,12,13] [] (z00 3) ?_
   refine Tri.ln 0 p0.length fun hlena2 => ?_
   refine Tri.rK 13 () (fun (x:Bool) s=>RetAt Tryz.prog Tryz.f62 (cD (.bool x)) [] s) (fun (a2:Unit)=>⟨[(0,cD (lD 3 z05 p0)),(1,cD (lD 3 z05 p1)),(12,cD (dI (p0.length:Int)))],[]⟩) [13,0,1,12] [] [14,13,0,1,12] [] [0,1,12] [] [13,0,1,12] [] h hlena2 ?_ ?_ ?_
   ·intro i1 a2 c hii1 h
    refine Tri.sg [0,1,5,12,13] [] (z00 2) ?_
    refine Tri.seqS ?_
    obtain ⟨hc4,h⟩:=z03 h
    refine Tri.dC [.a [0] [],.a [5] [],.a [16,17] [],.a [18] [],.a [1] [],.a [5] [],.a [20,21] [],.a [22] [],.m ⟨[(19,.agg (cValue (p0.getD i1 default))),(23,.agg (cValue (p1.getD i1 default)))],[]⟩ ⟨[(24,cD (.bool (!(z7e (p0.getD i1 default) (p1.getD i1 default)))))],[]⟩ [] [] []] [0,1,12,13,24] [] (tN 2 (ai (show ((0:Int)≤((i1:Nat):Int)∧((i1:Nat):Int) < (p0.length:Int)) from ⟨by omega,by omega⟩) (tN 3 (ai hc4 (z00 1))))) (.a (.a (.a (.a (.a (.a (.a (.a (.m ?_ .z))))))))) ?_
    · exact DOk.one fun r _=>One.eql (b:=(z7e (p0.getD i1 default) (p1.getD i1 default))) (d:=9) rfl (by kernel_rfl) rfl (.inr rfl) rfl rfl (by kernel_rfl) rfl (by kernel_rfl)
    refine Tri.condK h (fun h => ?_) (fun h => ?_)
    ·refine Tri.sg [4] [] (z00 1) ?_
     refine Tri.ret ?_
     cases h
     exact RetAt.k
    ·refine Tri.kp [13,0,1,12] [] ?_
     refine Tri.skip ?_
     cases h
     exact kr
   ·intro a3 h
    refine Tri.sg [4] [] (z00 1) ?_
    refine Tri.ret ?_
    cases h
    exact RetAt.k
   · exact fun x s hx hr=>by cases hx; exact hr
theorem zau {p0:List Update} {p1:List Update} {q:Bool} (h:z4m p0 p1=some q) :
    Summ Tryz.prog 29 [cD (lD 6 z01 p0),cD (lD 6 z01 p1)] [] (cD (.bool q)) []:=by
  refine Summ.intro Tryz.func29 rfl (by kernel_rfl) (by kernel_rfl) [] rfl ?_
  rintro ⟨P,w0,G0,V,LL,lk,N, φ0,fx⟩ rfl rfl rfl rfl
  unfold z4m at h
  refine Tri.sg [0,1] [] (z00 1) ?_
  refine Tri.seqS ?_
  refine Tri.sg [0,1,10] [] (z00 5) ?_
  refine Tri.condK h (fun h => ?_) (fun h => ?_)
  ·refine Tri.sg [4] [] (z00 1) ?_
   refine Tri.ret ?_
   cases h
   exact RetAt.k
  ·refine Tri.skip ?_
   refine Tri.seqS ?_
   refine Tri.sg [0,1,12,13] [] (z00 3) ?_
   refine Tri.ln 0 p0.length fun hlena2 => ?_
   refine Tri.rK 13 () (fun (x:Bool) s=>RetAt Tryz.prog Tryz.f29 (cD (.bool x)) [] s) (fun (a2:Unit)=>⟨[(0,cD (lD 6 z01 p0)),(1,cD (lD 6 z01 p1)),(12,cD (dI (p0.length:Int)))],[]⟩) [13,0,1,12] [] [14,13,0,1,12] [] [0,1,12] [] [13,0,1,12] [] h hlena2 ?_ ?_ ?_
   ·intro i1 a2 c hii1 h
    refine Tri.segL [0,1,5,12,13] [] ⟨[(0,cD (lD 6 z01 p0)),(1,cD (lD 6 z01 p1)),(5,cD (dI ((i1:Nat):Int))),(12,cD (dI (p0.length:Int))),(13,cD (dI ((i1:Nat):Int)))],[]⟩ _ (by kernel_rfl) (z00 2) ?_
    refine Tri.seqJ (fun (a4:Bool)=>⟨[(0,cD (lD 6 z01 p0)),(1,cD (lD 6 z01 p1)),(12,cD (dI (p0.length:Int))),(13,cD (dI ((i1:Nat):Int))),(67,cD (.bool a4))],[]⟩) h (fun a4 h => ?_) (fun j5 h => ?_)
    ·refine Tri.condK h (fun h => ?_) (fun h => ?_)
     ·refine Tri.sg [4] [] (z00 1) ?_
      refine Tri.ret ?_
      cases h
      exact RetAt.k
     ·refine Tri.kp [13,0,1,12] [] ?_
      refine Tri.skip ?_
      cases h
      exact kr
    ·obtain ⟨hc6,h⟩:=z03 h
     obtain ⟨r7,hr7,h⟩:=z04 h
     rcases z20 h with ⟨hp8,h⟩ | ⟨hp8,h⟩
     ·refine Tri.dC [.a [0] [],.a [5] [],.a [16,17] [],.a [18] [],.a [19] [],.a [1] [],.a [5] [],.a [21,22] [],.a [23] [],.a [24] [],.m ⟨[(20,cD (lD 3 z05 ((p0.getD i1 default).key))),(25,cD (lD 3 z05 ((p1.getD i1 default).key)))],[]⟩ ⟨[(26,cD (.bool r7))],[]⟩ [] [] [],.a [26] [],.m ⟨[(27,cD (.bool (!r7)))],[]⟩ ⟨[(28,.c (.d (.bool true)))],[]⟩ [] [] [],.a [0,28] [],.a [5,28] [],.a [28,29,30] [],.a [28,31] [],.a [28,32] [],.a [1,28] [],.a [5,28] [],.a [28,34,35] [],.a [28,36] [],.a [28,37] [],.a [28,33,38] [],.a [28,39] [],.a [28,40] [],.a [41] [],.a [0,42] [],.a [5,42] [],.a [42,43,44] [],.a [42,45] [],.a [42,46] [],.a [1,42] [],.a [5,42] [],.a [42,48,49] [],.a [42,50] [],.a [42,51] [],.a [42,47,52] [],.a [42,53] [],.a [54] [],.a [0,55] [],.a [5,55] [],.a [55,56,57] [],.a [55,58] [],.a [55,59] [],.a [1,55] [],.a [5,55] [],.a [55,61,62] [],.a [55,63] [],.a [55,64] [],.a [55,60,65] [],.a [55,66] []] [0,1,12,13,67] [] (tN 2 (ai (show ((0:Int)≤((i1:Nat):Int)∧((i1:Nat):Int) < (p0.length:Int)) from ⟨by omega,by omega⟩) (tN 4 (ai hc6 (z00 8))))) (.a (.a (.a (.a (.a (.a (.a (.a (.a (.a (.m ?_ (.a (.m ?_ (.a (.a (.a (.a (.a (.a (.a (.a (.a (.a (.a (.a (.a (.a (.a (.a (.a (.a (.a (.a (.a (.a (.a (.a (.a (.a (.a (.a (.a (.a (.a (.a (.a (.a (.a (.a (.a (.a (.a .z)))))))))))))))))))))))))))))))))))))))))))))))))))) ?_
      · exact DOk.cA [] [cD (lD 3 z05 ((p0.getD i1 default).key)),cD (lD 3 z05 ((p1.getD i1 default).key))] (z2i hr7) fun r=>(.cons (.refl _) (.cons (.refl _) .nil))
      · exact DOk.stepP (fun b => .val (.c (.d (.bool b))) (True)) (p:=(!r7)) hp8 (fun r=>by kernel_rfl) (fun r=>by kernel_rfl) trivial (by kernel_rfl) (by kernel_rfl) (fun r=>rfl)
      exact ⟨_,h,kr⟩
     ·obtain ⟨hc9,h⟩:=z03 h
      obtain ⟨r10,hr10,h⟩:=z04 h
      rcases z20 h with ⟨hp11,h⟩ | ⟨hp11,h⟩
      ·refine Tri.dC [.a [0] [],.a [5] [],.a [16,17] [],.a [18] [],.a [19] [],.a [1] [],.a [5] [],.a [21,22] [],.a [23] [],.a [24] [],.m ⟨[(20,cD (lD 3 z05 ((p0.getD i1 default).key))),(25,cD (lD 3 z05 ((p1.getD i1 default).key)))],[]⟩ ⟨[(26,cD (.bool r7))],[]⟩ [] [] [],.a [26] [],.m ⟨[(27,cD (.bool (!r7)))],[]⟩ ⟨[(28,.c (.d (.bool false)))],[]⟩ [] [] [],.a [0,28] [],.a [5,28] [],.a [28,29,30] [],.a [28,31] [],.a [28,32] [],.a [1,28] [],.a [5,28] [],.a [28,34,35] [],.a [28,36] [],.a [28,37] [],.m ⟨[(28,cD (.bool false)),(33,cD (lD 3 z05 ((p0.getD i1 default).row))),(38,cD (lD 3 z05 ((p1.getD i1 default).row)))],[]⟩ ⟨[(39,cD (.bool r10))],[]⟩ [] [] [],.a [28,39] [],.a [28,40] [],.m ⟨[(41,cD (.bool (!r10)))],[]⟩ ⟨[(42,.c (.d (.bool true)))],[]⟩ [] [] [],.a [0,42] [],.a [5,42] [],.a [42,43,44] [],.a [42,45] [],.a [42,46] [],.a [1,42] [],.a [5,42] [],.a [42,48,49] [],.a [42,50] [],.a [42,51] [],.a [42,47,52] [],.a [42,53] [],.a [54] [],.a [0,55] [],.a [5,55] [],.a [55,56,57] [],.a [55,58] [],.a [55,59] [],.a [1,55] [],.a [5,55] [],.a [55,61,62] [],.a [55,63] [],.a [55,64] [],.a [55,60,65] [],.a [55,66] []] [0,1,12,13,67] [] (tN 2 (ai (show ((0:Int)≤((i1:Nat):Int)∧((i1:Nat):Int) < (p0.length:Int)) from ⟨by omega,by omega⟩) (tN 4 (ai hc6 (tN 5 (ai (show ((0:Int)≤((i1:Nat):Int)∧((i1:Nat):Int) < (p0.length:Int)) from ⟨by omega,by omega⟩) (tN 4 (ai hc9 (z00 7))))))))) (.a (.a (.a (.a (.a (.a (.a (.a (.a (.a (.m ?_ (.a (.m ?_ (.a (.a (.a (.a (.a (.a (.a (.a (.a (.a (.m ?_ (.a (.a (.m ?_ (.a (.a (.a (.a (.a (.a (.a (.a (.a (.a (.a (.a (.a (.a (.a (.a (.a (.a (.a (.a (.a (.a (.a (.a (.a .z)))))))))))))))))))))))))))))))))))))))))))))))))))) ?_
       · exact DOk.cA [] [cD (lD 3 z05 ((p0.getD i1 default).key)),cD (lD 3 z05 ((p1.getD i1 default).key))] (z2i hr7) fun r=>(.cons (.refl _) (.cons (.refl _) .nil))
       · exact DOk.stepP (fun b => .val (.c (.d (.bool b))) (True)) (p:=(!r7)) hp8 (fun r=>by kernel_rfl) (fun r=>by kernel_rfl) trivial (by kernel_rfl) (by kernel_rfl) (fun r=>rfl)
       · exact DOk.cA [] [cD (lD 3 z05 ((p0.getD i1 default).row)),cD (lD 3 z05 ((p1.getD i1 default).row))] (z2i hr10) fun r=>(.cons (.refl _) (.cons (.refl _) .nil))
       · exact DOk.stepP (fun b => .val (.c (.d (.bool b))) (True)) (p:=(!r10)) hp11 (fun r=>by kernel_rfl) (fun r=>by kernel_rfl) trivial (by kernel_rfl) (by kernel_rfl) (fun r=>rfl)
       exact ⟨_,h,kr⟩
      ·obtain ⟨hc12,h⟩:=z03 h
       rcases z20 h with ⟨hp13,h⟩ | ⟨hp13,h⟩
       ·refine Tri.dC [.a [0] [],.a [5] [],.a [16,17] [],.a [18] [],.a [19] [],.a [1] [],.a [5] [],.a [21,22] [],.a [23] [],.a [24] [],.m ⟨[(20,cD (lD 3 z05 ((p0.getD i1 default).key))),(25,cD (lD 3 z05 ((p1.getD i1 default).key)))],[]⟩ ⟨[(26,cD (.bool r7))],[]⟩ [] [] [],.a [26] [],.m ⟨[(27,cD (.bool (!r7)))],[]⟩ ⟨[(28,.c (.d (.bool false)))],[]⟩ [] [] [],.a [0,28] [],.a [5,28] [],.a [28,29,30] [],.a [28,31] [],.a [28,32] [],.a [1,28] [],.a [5,28] [],.a [28,34,35] [],.a [28,36] [],.a [28,37] [],.m ⟨[(28,cD (.bool false)),(33,cD (lD 3 z05 ((p0.getD i1 default).row))),(38,cD (lD 3 z05 ((p1.getD i1 default).row)))],[]⟩ ⟨[(39,cD (.bool r10))],[]⟩ [] [] [],.a [28,39] [],.a [28,40] [],.m ⟨[(41,cD (.bool (!r10)))],[]⟩ ⟨[(42,.c (.d (.bool false)))],[]⟩ [] [] [],.a [0,42] [],.a [5,42] [],.a [42,43,44] [],.a [42,45] [],.a [42,46] [],.a [1,42] [],.a [5,42] [],.a [42,48,49] [],.a [42,50] [],.a [42,51] [],.m ⟨[(42,cD (.bool false)),(47,.agg [.d (dU ((p0.getD i1 default).time.epoch)),.d (dU ((p0.getD i1 default).time.loop.1)),.d (dU ((p0.getD i1 default).time.loop.2))]),(52,.agg [.d (dU ((p1.getD i1 default).time.epoch)),.d (dU ((p1.getD i1 default).time.loop.1)),.d (dU ((p1.getD i1 default).time.loop.2))])],[]⟩ ⟨[(53,cD (.bool (!(z1o ((p0.getD i1 default).time) ((p1.getD i1 default).time)))))],[]⟩ [] [] [],.a [42,53] [],.m ⟨[(54,cD (.bool (!(z1o ((p0.getD i1 default).time) ((p1.getD i1 default).time)))))],[]⟩ ⟨[(55,.c (.d (.bool true)))],[]⟩ [] [] [],.a [0,55] [],.a [5,55] [],.a [55,56,57] [],.a [55,58] [],.a [55,59] [],.a [1,55] [],.a [5,55] [],.a [55,61,62] [],.a [55,63] [],.a [55,64] [],.a [55,60,65] [],.a [55,66] []] [0,1,12,13,67] [] (tN 2 (ai (show ((0:Int)≤((i1:Nat):Int)∧((i1:Nat):Int) < (p0.length:Int)) from ⟨by omega,by omega⟩) (tN 4 (ai hc6 (tN 5 (ai (show ((0:Int)≤((i1:Nat):Int)∧((i1:Nat):Int) < (p0.length:Int)) from ⟨by omega,by omega⟩) (tN 4 (ai hc9 (tN 6 (ai (show ((0:Int)≤((i1:Nat):Int)∧((i1:Nat):Int) < (p0.length:Int)) from ⟨by omega,by omega⟩) (tN 4 (ai hc12 (z00 4))))))))))))) (.a (.a (.a (.a (.a (.a (.a (.a (.a (.a (.m ?_ (.a (.m ?_ (.a (.a (.a (.a (.a (.a (.a (.a (.a (.a (.m ?_ (.a (.a (.m ?_ (.a (.a (.a (.a (.a (.a (.a (.a (.a (.a (.m ?_ (.a (.m ?_ (.a (.a (.a (.a (.a (.a (.a (.a (.a (.a (.a (.a .z)))))))))))))))))))))))))))))))))))))))))))))))))))) ?_
        · exact DOk.cA [] [cD (lD 3 z05 ((p0.getD i1 default).key)),cD (lD 3 z05 ((p1.getD i1 default).key))] (z2i hr7) fun r=>(.cons (.refl _) (.cons (.refl _) .nil))
        · exact DOk.stepP (fun b => .val (.c (.d (.bool b))) (True)) (p:=(!r7)) hp8 (fun r=>by kernel_rfl) (fun r=>by kernel_rfl) trivial (by kernel_rfl) (by kernel_rfl) (fun r=>rfl)
        · exact DOk.cA [] [cD (lD 3 z05 ((p0.getD i1 default).row)),cD (lD 3 z05 ((p1.getD i1 default).row))] (z2i hr10) fun r=>(.cons (.refl _) (.cons (.refl _) .nil))
        · exact DOk.stepP (fun b => .val (.c (.d (.bool b))) (True)) (p:=(!r10)) hp11 (fun r=>by kernel_rfl) (fun r=>by kernel_rfl) trivial (by kernel_rfl) (by kernel_rfl) (fun r=>rfl)
        · exact DOk.one fun r _=>One.eql (b:=(z1o ((p0.getD i1 default).time) ((p1.getD i1 default).time))) (d:=9) rfl (by kernel_rfl) rfl (.inr rfl) rfl rfl (by kernel_rfl) rfl (by kernel_rfl)
        · exact DOk.stepP (fun b => .val (.c (.d (.bool b))) (True)) (p:=(!(z1o ((p0.getD i1 default).time) ((p1.getD i1 default).time)))) hp13 (fun r=>by kernel_rfl) (fun r=>by kernel_rfl) trivial (by kernel_rfl) (by kernel_rfl) (fun r=>rfl)
        exact ⟨_,h,kr⟩
       ·obtain ⟨hc14,h⟩:=z03 h
        refine Tri.dC [.a [0] [],.a [5] [],.a [16,17] [],.a [18] [],.a [19] [],.a [1] [],.a [5] [],.a [21,22] [],.a [23] [],.a [24] [],.m ⟨[(20,cD (lD 3 z05 ((p0.getD i1 default).key))),(25,cD (lD 3 z05 ((p1.getD i1 default).key)))],[]⟩ ⟨[(26,cD (.bool r7))],[]⟩ [] [] [],.a [26] [],.m ⟨[(27,cD (.bool (!r7)))],[]⟩ ⟨[(28,.c (.d (.bool false)))],[]⟩ [] [] [],.a [0,28] [],.a [5,28] [],.a [28,29,30] [],.a [28,31] [],.a [28,32] [],.a [1,28] [],.a [5,28] [],.a [28,34,35] [],.a [28,36] [],.a [28,37] [],.m ⟨[(28,cD (.bool false)),(33,cD (lD 3 z05 ((p0.getD i1 default).row))),(38,cD (lD 3 z05 ((p1.getD i1 default).row)))],[]⟩ ⟨[(39,cD (.bool r10))],[]⟩ [] [] [],.a [28,39] [],.a [28,40] [],.m ⟨[(41,cD (.bool (!r10)))],[]⟩ ⟨[(42,.c (.d (.bool false)))],[]⟩ [] [] [],.a [0,42] [],.a [5,42] [],.a [42,43,44] [],.a [42,45] [],.a [42,46] [],.a [1,42] [],.a [5,42] [],.a [42,48,49] [],.a [42,50] [],.a [42,51] [],.m ⟨[(42,cD (.bool false)),(47,.agg [.d (dU ((p0.getD i1 default).time.epoch)),.d (dU ((p0.getD i1 default).time.loop.1)),.d (dU ((p0.getD i1 default).time.loop.2))]),(52,.agg [.d (dU ((p1.getD i1 default).time.epoch)),.d (dU ((p1.getD i1 default).time.loop.1)),.d (dU ((p1.getD i1 default).time.loop.2))])],[]⟩ ⟨[(53,cD (.bool (!(z1o ((p0.getD i1 default).time) ((p1.getD i1 default).time)))))],[]⟩ [] [] [],.a [42,53] [],.m ⟨[(54,cD (.bool (!(z1o ((p0.getD i1 default).time) ((p1.getD i1 default).time)))))],[]⟩ ⟨[(55,.c (.d (.bool false)))],[]⟩ [] [] [],.a [0,55] [],.a [5,55] [],.a [55,56,57] [],.a [55,58] [],.a [55,59] [],.a [1,55] [],.a [5,55] [],.a [55,61,62] [],.a [55,63] [],.a [55,64] [],.a [55,60,65] [],.a [55,66] []] [0,1,12,13,67] [] (tN 2 (ai (show ((0:Int)≤((i1:Nat):Int)∧((i1:Nat):Int) < (p0.length:Int)) from ⟨by omega,by omega⟩) (tN 4 (ai hc6 (tN 5 (ai (show ((0:Int)≤((i1:Nat):Int)∧((i1:Nat):Int) < (p0.length:Int)) from ⟨by omega,by omega⟩) (tN 4 (ai hc9 (tN 6 (ai (show ((0:Int)≤((i1:Nat):Int)∧((i1:Nat):Int) < (p0.length:Int)) from ⟨by omega,by omega⟩) (tN 4 (ai hc12 (tN 5 (ai (show ((0:Int)≤((i1:Nat):Int)∧((i1:Nat):Int) < (p0.length:Int)) from ⟨by omega,by omega⟩) (tN 4 (ai hc14 (z00 4))))))))))))))))) (.a (.a (.a (.a (.a (.a (.a (.a (.a (.a (.m ?_ (.a (.m ?_ (.a (.a (.a (.a (.a (.a (.a (.a (.a (.a (.m ?_ (.a (.a (.m ?_ (.a (.a (.a (.a (.a (.a (.a (.a (.a (.a (.m ?_ (.a (.m ?_ (.a (.a (.a (.a (.a (.a (.a (.a (.a (.a (.a (.a .z)))))))))))))))))))))))))))))))))))))))))))))))))))) ?_
        · exact DOk.cA [] [cD (lD 3 z05 ((p0.getD i1 default).key)),cD (lD 3 z05 ((p1.getD i1 default).key))] (z2i hr7) fun r=>(.cons (.refl _) (.cons (.refl _) .nil))
        · exact DOk.stepP (fun b => .val (.c (.d (.bool b))) (True)) (p:=(!r7)) hp8 (fun r=>by kernel_rfl) (fun r=>by kernel_rfl) trivial (by kernel_rfl) (by kernel_rfl) (fun r=>rfl)
        · exact DOk.cA [] [cD (lD 3 z05 ((p0.getD i1 default).row)),cD (lD 3 z05 ((p1.getD i1 default).row))] (z2i hr10) fun r=>(.cons (.refl _) (.cons (.refl _) .nil))
        · exact DOk.stepP (fun b => .val (.c (.d (.bool b))) (True)) (p:=(!r10)) hp11 (fun r=>by kernel_rfl) (fun r=>by kernel_rfl) trivial (by kernel_rfl) (by kernel_rfl) (fun r=>rfl)
        · exact DOk.one fun r _=>One.eql (b:=(z1o ((p0.getD i1 default).time) ((p1.getD i1 default).time))) (d:=9) rfl (by kernel_rfl) rfl (.inr rfl) rfl rfl (by kernel_rfl) rfl (by kernel_rfl)
        · exact DOk.stepP (fun b => .val (.c (.d (.bool b))) (True)) (p:=(!(z1o ((p0.getD i1 default).time) ((p1.getD i1 default).time)))) hp13 (fun r=>by kernel_rfl) (fun r=>by kernel_rfl) trivial (by kernel_rfl) (by kernel_rfl) (fun r=>rfl)
        exact ⟨_,h,kr⟩
   ·intro a3 h
    refine Tri.sg [4] [] (z00 1) ?_
    refine Tri.ret ?_
    cases h
    exact RetAt.k
   · exact fun x s hx hr=>by cases hx; exact hr
theorem z9e {p0:Update} {p1:List Value} {q:Int} (h:z5z p0 p1=some q) :
  Summ Tryz.prog 105 [.agg (cUpdate p0),cD (lD 3 z05 p1)] [] (cD (dI q)) []:=by
 refine Summ.intro Tryz.func105 rfl (by kernel_rfl) (by kernel_rfl) [] rfl ?_
 rintro ⟨P,w0,G0,V,LL,lk,N, φ0,fx⟩ rfl rfl rfl rfl
 unfold z5z at h
 refine Tri.sg [1,2] [2] (z00 2) ?_
 refine Tri.seqS ?_
 refine Tri.reg ?_
 refine At.sg 3 [6,7] [] (z00 3) ?_
 obtain ⟨r1,hr1,h⟩:=z04 h
 refine At.cA [] [cD (lD 3 z05 p0.key),cD (lD 3 z05 p1)] (z57 hr1) (.cons (.refl _) (.cons (.refl _) .nil)) ?_
 refine At.sg 1 [4] [] (z00 1) ?_
 refine At.done rfl ?_
 refine Tri.ret ?_
 cases h
 exact RetAt.k
theorem z1w {fuel:Nat} {p0:List Update} {p1:List Value} {q:Int × Bool} (h:z09 fuel p0 p1=some q) :
    Summ Tryz.prog 104 [cD (lD 6 z01 p0),cD (lD 3 z05 p1),cD (.fn 105 [])] [] (.tup [(false,[.d (dI q.1)]),(false,[.d (.bool q.2)])]) []:=by
  refine Summ.intro Tryz.func104 rfl (by kernel_rfl) (by kernel_rfl) [] rfl ?_
  rintro ⟨P,w0,G0,V,LL,lk,N, φ0,fx⟩ rfl rfl rfl rfl
  unfold z09 at h
  refine Tri.sg [0,1,2] [] (z00 2) ?_
  refine Tri.sg [0,1,2,8] [] (z00 3) ?_
  refine Tri.sg [0,1,2,8,9,10] [] (z00 3) ?_
  refine Tri.seqS ?_
  refine Tri.lK (0,(p0.length:Int)) (fun (x:Empty) s=>False) (fun (a1:Int × Int)=>⟨[(0,cD (lD 6 z01 p0)),(1,cD (lD 3 z05 p1)),(2,cD (.fn 105 [])),(8,cD (dI (p0.length:Int))),(9,cD (dI a1.1)),(10,cD (dI a1.2))],[]⟩) [0,1,2,8,9,10] [] h ?_ ?_ ?_
  ·intro a1 c h
   refine Tri.seqS ?_
   refine Tri.sg [0,1,2,8,9,10,17] [] (z00 3) ?_
   refine Tri.condK h (fun h => ?_) (fun h => ?_)
   ·refine Tri.skip ?_
    refine Tri.blockB ?_
    refine Tri.sg [0,1,2,8,9,10,11] [] (tN 4 (ai (show ((0:Int)≤1) from (by decide:(0:Int)≤1)) (z00 2))) ?_
    refine Tri.seqS ?_
    refine Tri.reg ?_
    obtain ⟨hc7,h⟩:=z03 h
    refine At.sg 6 [0,1,2,8,9,10,11,24,28,29] [] (tN 3 (ai hc7 (z00 2))) ?_
    obtain ⟨r8,hr8,h⟩:=z04 h
    refine At.cA [] [.agg (cUpdate (p0.getD ((IntKind.i64.wrap (shrOp .u64 (IntKind.u64.wrap (IntKind.i64.wrap (a1.1 + a1.2))) 1)).toNat) default)),cD (lD 3 z05 p1)] (z9e hr8) (.cons (.refl _) (.cons (.refl _) .nil)) ?_
    refine At.sg 1 [0,1,2,8,9,10,11,31] [] (z00 1) ?_
    refine At.done rfl ?_
    refine Tri.condK h (fun h => ?_) (fun h => ?_)
    ·refine Tri.reg ?_
     refine At.sg 3 [0,1,2,8,9,10] [] (z00 3) ?_
     refine At.done rfl ?_
     cases h
     exact kr
    ·refine Tri.reg ?_
     refine At.sg 2 [0,1,2,8,9,10] [] (z00 2) ?_
     refine At.done rfl ?_
     cases h
     exact kr
   ·refine Tri.kp [0,1,2,8,9,10] [] ?_
    refine Tri.exit ?_
    cases h
    exact ⟨rfl,kr⟩
  ·intro a2 h
   refine Tri.seqJ (fun (a3:Bool)=>⟨[(6,cD (dI a2.1)),(7,cD (.bool a3))],[]⟩) h (fun a3 h => ?_) (fun j4 h => ?_)
   ·refine Tri.ret ?_
    cases h
    exact RetAt.k
   ·refine Tri.reg ?_
    refine At.sg 5 [0,1,2,9,35,39] [] (z00 5) ?_
    refine At.cs [39] h (fun h => ?_) (fun h => ?_)
    ·obtain ⟨hc5,h⟩:=z03 h
     refine At.sg 6 [35,39,40,44,45] [] (tN 3 (ai hc5 (z00 2))) ?_
     obtain ⟨r6,hr6,h⟩:=z04 h
     refine At.cA [] [.agg (cUpdate (p0.getD a2.1.toNat default)),cD (lD 3 z05 p1)] (z9e hr6) (.cons (.refl _) (.cons (.refl _) .nil)) ?_
     refine At.sg 4 [6,7] [] (z00 4) ?_
     refine At.done rfl ?_
     exact ⟨_,h,kr⟩
    ·refine At.sg 11 [6,7] [] (z00 3) ?_
     refine At.done rfl ?_
     exact ⟨_,h,kr⟩
  · exact fun x=>x.elim
theorem za6 {fuel:Nat} {p0:List Update} {p1:List Value} {q:Int} (h:z64 fuel p0 p1=some q) :
  Summ Tryz.prog 69 [cD (lD 6 z01 p0),cD (lD 3 z05 p1)] [] (cD (dI q)) []:=by
 refine Summ.intro Tryz.func69 rfl (by kernel_rfl) (by kernel_rfl) [] rfl ?_
 rintro ⟨P,w0,G0,V,LL,lk,N, φ0,fx⟩ rfl rfl rfl rfl
 unfold z64 at h
 refine Tri.sg [0,1] [] (z00 1) ?_
 refine Tri.seqS ?_
 refine Tri.reg ?_
 refine At.sg 2 [8,9] [] (z00 2) ?_
 obtain ⟨r1,hr1,h⟩:=z04 h
 refine At.cA [] [cD (lD 6 z01 p0),cD (lD 3 z05 p1),cD (.fn 105 [])] (z1w hr1) (.cons (.refl _) (.cons (.refl _) (.cons (.refl _) .nil))) ?_
 refine At.sg 5 [5] [] (z00 5) ?_
 refine At.done rfl ?_
 refine Tri.sg [4] [] (z00 2) ?_
 refine Tri.ret ?_
 cases h
 exact RetAt.k
theorem zfe {fuel:Nat} {p0:Batch} {p1:List Value} {q:Int × Int} (h:z6w fuel p0 p1=some q) :
    Summ Tryz.prog 33 [.agg (cBatch p0),cD (lD 3 z05 p1)] [] (.tup [(false,[.d (dI q.1)]),(false,[.d (dI q.2)])]) []:=by
  refine Summ.intro Tryz.func33 rfl (by kernel_rfl) (by kernel_rfl) [] rfl ?_
  rintro ⟨P,w0,G0,V,LL,lk,N, φ0,fx⟩ rfl rfl rfl rfl
  unfold z6w at h
  refine Tri.sg [1,2] [2] (z00 3) ?_
  refine Tri.seqS ?_
  refine Tri.seqS ?_
  refine Tri.reg ?_
  refine At.sg 1 [1,2,7] [2] (z00 1) ?_
  obtain ⟨r1,hr1,h⟩:=z04 h
  refine At.cA [] [.agg (cBatch p0)] (z6t hr1) (.cons (.refl _) .nil) ?_
  refine At.sg 1 [1,2,6] [2] (z00 1) ?_
  refine At.done rfl ?_
  refine Tri.sg [1,2,6,10] [2] (z00 2) ?_
  refine Tri.condK h (fun h => ?_) (fun h => ?_)
  ·refine Tri.sg [4,5] [] (z00 3) ?_
   refine Tri.ret ?_
   cases h
   exact RetAt.k
  ·refine Tri.skip ?_
   refine Tri.seqS ?_
   refine Tri.reg ?_
   refine At.sg 3 [13,14] [] (z00 3) ?_
   obtain ⟨r2,hr2,h⟩:=z04 h
   refine At.cA [] [cD (lD 6 z01 p0.updates),cD (lD 3 z05 p1)] (za6 hr2) (.cons (.refl _) (.cons (.refl _) .nil)) ?_
   refine At.sg 2 [4,5] [] (z00 2) ?_
   refine At.done rfl ?_
   refine Tri.ret ?_
   cases h
   exact RetAt.k
theorem zdv {p0:Update} {p1:List Value} {q:Bool} (h:z7j p0 p1=some q) :
  Summ Tryz.prog 108 [.agg (cUpdate p0),cD (.cptr [lD 3 z05 p1])] [] (cD (.bool q)) []:=by
 refine Summ.intro Tryz.func108 rfl (by kernel_rfl) (by kernel_rfl) [] rfl ?_
 rintro ⟨P,w0,G0,V,LL,lk,N, φ0,fx⟩ rfl rfl rfl rfl
 unfold z7j at h
 refine Tri.le [] (fun k hk=>by cases hk) ⟨[(0,.agg (cUpdate p0)),(1,.c (.eptr [lD 3 z05 p1]))],[]⟩ ⟨⟨_,rfl,.refl _⟩,⟨_,rfl,.c (.cptrE _)⟩,trivial⟩ trivial ?_
 refine Tri.sg [1,2] [2] (z00 2) ?_
 refine Tri.seqS ?_
 refine Tri.reg ?_
 refine At.sg 3 [5,6] [] (z00 3) ?_
 obtain ⟨r1,hr1,h⟩:=z04 h
 refine At.cA [] [cD (lD 3 z05 p0.key),cD (lD 3 z05 p1)] (z57 hr1) (.cons (.refl _) (.cons (.refl _) .nil)) ?_
 refine At.sg 2 [3] [] (z00 2) ?_
 refine At.done rfl ?_
 refine Tri.ret ?_
 cases h
 exact RetAt.k
theorem z2n {p0:List Update} {p1_0:List Value} {q:Int} (h:z0p p0 p1_0=some q) :
    Summ Tryz.prog 107 [cD (lD 6 z01 p0),cD (.fn 108 [.cptr [lD 3 z05 p1_0]])] [] (cD (dI q)) []:=by
  refine Summ.intro Tryz.func107 rfl (by kernel_rfl) (by kernel_rfl) [] rfl ?_
  rintro ⟨P,w0,G0,V,LL,lk,N, φ0,fx⟩ rfl rfl rfl rfl
  unfold z0p at h
  refine Tri.sg [0,1] [] (z00 1) ?_
  refine Tri.seqS ?_
  refine Tri.sg [0,1,7,8] [] (z00 3) ?_
  refine Tri.ln 0 p0.length fun hlena2 => ?_
  refine Tri.rK 8 () (fun (x:Int) s=>RetAt Tryz.prog Tryz.f107 (cD (dI x)) [] s) (fun (a2:Unit)=>⟨[(0,cD (lD 6 z01 p0)),(1,cD (.fn 108 [.cptr [lD 3 z05 p1_0]])),(7,cD (dI (p0.length:Int)))],[]⟩) [8,0,1,7] [] [9,8,0,1,7] [] [0,1,7] [] [8,0,1,7] [] h hlena2 ?_ ?_ ?_
  ·intro i1 a2 c hii1 h
   refine Tri.sg [0,1,5,7,8] [] (z00 2) ?_
   refine Tri.seqS ?_
   refine Tri.reg ?_
   refine At.sg 5 [0,1,5,7,8,11,15] [] (tN 3 (ai (show ((0:Int)≤((i1:Nat):Int)∧((i1:Nat):Int) < (p0.length:Int)) from ⟨by omega,by omega⟩) (z00 1))) ?_
   obtain ⟨r4,hr4,h⟩:=z04 h
   refine At.cA [.cptr [lD 3 z05 p1_0]] [.agg (cUpdate (p0.getD i1 default)),cD (.cptr [lD 3 z05 p1_0])] (zdv hr4) (.cons (.refl _) (.cons (.refl _) .nil)) ?_
   refine At.done rfl ?_
   refine Tri.condK h (fun h => ?_) (fun h => ?_)
   ·refine Tri.sg [4] [] (z00 2) ?_
    refine Tri.ret ?_
    cases h
    exact RetAt.k
   ·refine Tri.kp [8,0,1,7] [] ?_
    refine Tri.skip ?_
    cases h
    exact kr
  ·intro a3 h
   refine Tri.sg [4] [] (z00 1) ?_
   refine Tri.ret ?_
   cases h
   exact RetAt.k
  · exact fun x s hx hr=>by cases hx; exact hr
theorem zfk {fuel:Nat} {p0:List Update} {p1:List Value} {q:List Update} (h:z7i fuel p0 p1=some q) :
    Summ Tryz.prog 71 [cD (lD 6 z01 p0),cD (lD 3 z05 p1)] [] (cD (lD 6 z01 q)) []:=by
  refine Summ.intro Tryz.func71 rfl (by kernel_rfl) (by kernel_rfl) [] rfl ?_
  rintro ⟨P,w0,G0,V,LL,lk,N, φ0,fx⟩ rfl rfl rfl rfl
  unfold z7i at h
  refine Tri.sg [0,3] [3] (z00 2) ?_
  refine Tri.seqS ?_
  refine Tri.reg ?_
  refine At.sg 3 [3,6,7,8] [3] (z00 3) ?_
  obtain ⟨r1,hr1,h⟩:=z04 h
  refine At.cA [] [cD (lD 6 z01 p0),cD (lD 3 z05 p1)] (za6 hr1) (.cons (.refl _) (.cons (.refl _) .nil)) ?_
  obtain ⟨hc2,h⟩:=z03 h
  refine At.seg 1 [10,3,6,9] [3] (s':=⟨[(10,.c (.d (.list 6 ((p0.length:Int).toNat - r1.toNat) (fun i=>z01 (p0.getD (r1.toNat + i) default))))),(3,.c (.ptr 3 0)),(6,cD (lD 6 z01 p0)),(9,cD (dI r1))],[(3,.box [.d (lD 3 z05 p1)])]⟩) (by kernel_rfl) (ai hc2 trivial) ?_
  refine At.le [] (fun k hk=>by cases hk) ⟨[(10,cD (lD 6 z01 (sub p0 r1 (p0.length:Int)))),(3,.c (.ptr 3 0)),(6,cD (lD 6 z01 p0)),(9,cD (dI r1))],[(3,.box [.d (lD 3 z05 p1)])]⟩ ⟨⟨_,rfl,.c (.subD (z01) hc2.1 hc2.2.1 hc2.2.2)⟩,⟨_,rfl,.refl _⟩,⟨_,rfl,.refl _⟩,⟨_,rfl,.refl _⟩,trivial⟩ ⟨⟨_,rfl,.refl _,(by simp)⟩,trivial⟩ ?_
  refine At.sg 1 [0,3] [3] (z00 1) ?_
  refine At.done rfl ?_
  refine Tri.seqS ?_
  refine Tri.reg ?_
  refine At.seg 1 [0,3,11] [3] (s':=⟨[(0,cD (lD 6 z01 (sub p0 r1 (p0.length:Int)))),(3,.c (.ptr 3 0)),(11,cD (lD 6 z01 (sub p0 r1 (p0.length:Int))))],[(3,.box [.d (lD 3 z05 p1)])]⟩) (by kernel_rfl) (z00 1) ?_
  refine At.le [3] (fun k hk h=>by first | (cases h; done) | (simp at hk h; omega)) ⟨[(0,cD (lD 6 z01 (sub p0 r1 (p0.length:Int)))),(3,cD (.cptr [lD 3 z05 p1])),(11,cD (lD 6 z01 (sub p0 r1 (p0.length:Int))))],[]⟩ ⟨⟨_,rfl,.refl _⟩,⟨_,rfl,.c (.box (ds:=[lD 3 z05 p1]) rfl (by simp))⟩,⟨_,rfl,.refl _⟩,trivial⟩ trivial ?_
  refine At.seg 1 [12,0,3,11] [] (s':=⟨[(12,cD (.fn 108 [.cptr [lD 3 z05 p1]])),(0,cD (lD 6 z01 (sub p0 r1 (p0.length:Int)))),(3,cD (.cptr [lD 3 z05 p1])),(11,cD (lD 6 z01 (sub p0 r1 (p0.length:Int))))],[]⟩) (by kernel_rfl) (z00 1) ?_
  refine At.le [] (fun k hk=>by cases hk) ⟨[(12,cD (.fn 108 [.cptr [lD 3 z05 p1]])),(0,cD (lD 6 z01 (sub p0 r1 (p0.length:Int)))),(3,.c (.eptr [lD 3 z05 p1])),(11,cD (lD 6 z01 (sub p0 r1 (p0.length:Int))))],[]⟩ ⟨⟨_,rfl,.refl _⟩,⟨_,rfl,.refl _⟩,⟨_,rfl,.c (.cptrE _)⟩,⟨_,rfl,.refl _⟩,trivial⟩ trivial ?_
  obtain ⟨r3,hr3,h⟩:=z04 h
  refine At.cA [] [cD (lD 6 z01 (sub p0 r1 (p0.length:Int))),cD (.fn 108 [.cptr [lD 3 z05 p1]])] (z2n hr3) (.cons (.refl _) (.cons (.refl _) .nil)) ?_
  refine At.sg 1 [0,5] [] (z00 1) ?_
  refine At.done rfl ?_
  refine Tri.seqJ (fun (a4:Int)=>⟨[(0,cD (lD 6 z01 (sub p0 r1 (p0.length:Int)))),(5,cD (dI a4))],[]⟩) h (fun a4 h => ?_) (fun j5 h => ?_)
  ·refine Tri.seqS ?_
   refine Tri.reg ?_
   refine At.seg 3 [18,19,20] [] (s':=⟨[(18,cD (lD 6 z01 (sub p0 r1 (p0.length:Int)))),(19,cD (dI a4)),(20,cD (dI a4))],[]⟩) (by kernel_rfl) (z00 3) ?_
   obtain ⟨hc6,h⟩:=z03 h
   refine At.one rfl (One.subL3 (es:=6) (z01) (l:=0) (h:=a4) (m:=a4) hc6 rfl rfl rfl (by kernel_rfl)) ?_
   obtain ⟨r7,hr7,h⟩:=z04 h
   refine At.cA [] [cD (lD 6 z01 (sub (sub p0 r1 (p0.length:Int)) 0 a4))] (z5l hr7) (.cons (.refl _) .nil) ?_
   refine At.sg 1 [4] [] (z00 1) ?_
   refine At.done rfl ?_
   refine Tri.ret ?_
   cases h
   exact RetAt.k
  ·refine Tri.sg [0,5,15] [] (z00 2) ?_
   refine Tri.condK h (fun h => ?_) (fun h => ?_)
   ·refine Tri.reg ?_
    refine At.sg 3 [0,5] [] (z00 3) ?_
    refine At.done rfl ?_
    exact ⟨_,h,kr⟩
   ·refine Tri.kp [0,5] [] ?_
    refine Tri.skip ?_
    exact ⟨_,h,kr⟩
theorem zak {fuel:Nat} {p0:Batch} {p1:List Value} {q:(List Update) × Int} (h:z4u fuel p0 p1=some q) :
    Summ Tryz.prog 35 [.agg (cBatch p0),cD (lD 3 z05 p1)] [] (.tup [(false,[.d (lD 6 z01 q.1)]),(false,[.d (dI q.2)])]) []:=by
  refine Summ.intro Tryz.func35 rfl (by kernel_rfl) (by kernel_rfl) [] rfl ?_
  rintro ⟨P,w0,G0,V,LL,lk,N, φ0,fx⟩ rfl rfl rfl rfl
  unfold z4u at h
  refine Tri.sg [1,2] [2] (z00 3) ?_
  refine Tri.seqS ?_
  refine Tri.seqS ?_
  refine Tri.reg ?_
  refine At.sg 1 [1,2,7] [2] (z00 1) ?_
  obtain ⟨r1,hr1,h⟩:=z04 h
  refine At.cA [] [.agg (cBatch p0)] (z6t hr1) (.cons (.refl _) .nil) ?_
  refine At.sg 1 [1,2,6] [2] (z00 1) ?_
  refine At.done rfl ?_
  refine Tri.sg [1,2,6,10] [2] (z00 2) ?_
  refine Tri.condK h (fun h => ?_) (fun h => ?_)
  ·refine Tri.sg [4,5] [] (z00 3) ?_
   refine Tri.keep [4,5] [] (s':=⟨[(4,.c (.zero)),(5,cD (dI r1))],[]⟩) (by kernel_rfl) ?_
   refine Tri.le [] (fun k hk=>by cases hk) ⟨[(4,cD (lD 6 z01 ([]:List Update))),(5,cD (dI r1))],[]⟩ ⟨⟨_,rfl,.c (.zero _ _)⟩,⟨_,rfl,.refl _⟩,trivial⟩ trivial ?_
   refine Tri.ret ?_
   cases h
   exact RetAt.k
  ·refine Tri.skip ?_
   refine Tri.seqS ?_
   refine Tri.reg ?_
   refine At.sg 3 [13,14] [] (z00 3) ?_
   obtain ⟨r2,hr2,h⟩:=z04 h
   refine At.cA [] [cD (lD 6 z01 p0.updates),cD (lD 3 z05 p1)] (zfk hr2) (.cons (.refl _) (.cons (.refl _) .nil)) ?_
   refine At.sg 2 [4,5] [] (z00 2) ?_
   refine At.done rfl ?_
   refine Tri.ret ?_
   cases h
   exact RetAt.k
end Go.Av
namespace Go.Av
open Go Go.Proofs
set_option linter.unusedVariables false
set_option linter.unusedSimpArgs false
theorem z89 {fuel:Nat} {p0:Batch} {p1:List Value} {q:Bool} (h:z31 fuel p0 p1=some q) :
    Summ Tryz.prog 10 [.agg (cBatch p0),cD (lD 3 z05 p1)] [] (cD (.bool q)) []:=by
  refine Summ.intro Tryz.func10 rfl (by kernel_rfl) (by kernel_rfl) [] rfl ?_
  rintro ⟨P,w0,G0,V,LL,lk,N, φ0,fx⟩ rfl rfl rfl rfl
  unfold z31 at h
  refine Tri.sg [1,2] [2] (z00 2) ?_
  refine Tri.seqS ?_
  refine Tri.seqS ?_
  refine Tri.reg ?_
  obtain ⟨r1,hr1,h⟩:=z04 h
  refine At.cA [] [] (zao hr1) .nil ?_
  refine At.sg 1 [1,2,15] [2] (z00 1) ?_
  refine At.done rfl ?_
  refine Tri.condK h (fun h => ?_) (fun h => ?_)
  ·refine Tri.sg [4] [] (z00 1) ?_
   refine Tri.ret ?_
   cases h
   exact RetAt.k
  ·refine Tri.skip ?_
   refine Tri.seqS ?_
   refine Tri.reg ?_
   refine At.sg 2 [1,2,17,18] [2] (z00 2) ?_
   obtain ⟨r2,hr2,h⟩:=z04 h
   refine At.cA [] [.agg (cBatch p0),cD (lD 3 z05 p1)] (zfe hr2) (.cons (.refl _) (.cons (.refl _) .nil)) ?_
   refine At.sg 5 [1,2,5,6] [2] (z00 5) ?_
   refine At.done rfl ?_
   refine Tri.seqS ?_
   refine Tri.reg ?_
   refine At.sg 2 [2,5,6,23,24] [2] (z00 2) ?_
   obtain ⟨r3,hr3,h⟩:=z04 h
   refine At.cA [] [.agg (cBatch p0),cD (lD 3 z05 p1)] (zak hr3) (.cons (.refl _) (.cons (.refl _) .nil)) ?_
   refine At.sg 5 [2,5,6,7,8] [2] (z00 5) ?_
   refine At.done rfl ?_
   refine Tri.seqS ?_
   refine Tri.sg [2,5,6,7,8,29] [2] (z00 2) ?_
   refine Tri.condK h (fun h => ?_) (fun h => ?_)
   ·refine Tri.seqJ (fun (a4:Bool)=>⟨[(4,cD (.bool a4))],[]⟩) h (fun a4 h => ?_) (fun j5 h => ?_)
    ·refine Tri.ret ?_
     cases h
     exact RetAt.k
    ·refine Tri.reg ?_
     refine At.sg 3 [6,7,8,32] [] (z00 3) ?_
     refine At.cs [32] h (fun h => ?_) (fun h => ?_)
     ·refine At.sg 5 [6,8,37] [] (z00 5) ?_
      refine At.cs [37] h (fun h => ?_) (fun h => ?_)
      ·refine At.sg 5 [4] [] (z00 5) ?_
       refine At.done rfl ?_
       exact ⟨_,h,kr⟩
      ·refine At.sg 5 [4] [] (z00 2) ?_
       refine At.done rfl ?_
       exact ⟨_,h,kr⟩
     ·refine At.sg 10 [4] [] (z00 4) ?_
      refine At.done rfl ?_
      exact ⟨_,h,kr⟩
   ·refine Tri.skip ?_
    refine Tri.seqS ?_
    refine Tri.seqJ (fun (a6:Bool)=>⟨[(2,.c (.ptr 2 0)),(66,cD (.bool a6))],[(2,.box (cBatch p0))]⟩) h (fun a6 h => ?_) (fun j7 h => ?_)
    ·refine Tri.condK h (fun h => ?_) (fun h => ?_)
     ·refine Tri.sg [4] [] (z00 1) ?_
      refine Tri.ret ?_
      cases h
      exact RetAt.k
     ·refine Tri.skip ?_
      refine Tri.sg [2,9] [2] (z00 1) ?_
      refine Tri.seqS ?_
      refine Tri.sg [2,9,68,69,70] [2] (z00 4) ?_
      refine Tri.ln 68 p0.updates.length fun hlena9 => ?_
      refine Tri.rK 70 (0) (fun (x:Empty) s=>False) (fun (a9:Int)=>⟨[(2,.c (.ptr 2 0)),(9,cD (dI a9)),(68,cD (lD 6 z01 p0.updates)),(69,cD (dI (p0.updates.length:Int)))],[(2,.box (cBatch p0))]⟩) [70,2,9,68,69] [2] [71,70,2,9,68,69] [2] [2,9,68,69] [2] [70,2,9,68,69] [2] h hlena9 ?_ ?_ ?_
      ·intro i8 a9 c hii8 h
       refine Tri.segL [2,9,10,11,68,69,70] [2,11] ⟨[(2,.c (.ptr 2 0)),(9,cD (dI a9)),(10,cD (dI ((i8:Nat):Int))),(11,.c (.ptr 11 0)),(68,cD (lD 6 z01 p0.updates)),(69,cD (dI (p0.updates.length:Int))),(70,cD (dI ((i8:Nat):Int)))],[(2,.box (cBatch p0)),(11,.box (cUpdate (p0.updates.getD i8 default)))]⟩ _ (by kernel_rfl) (tN 1 (ai (show ((0:Int)≤((i8:Nat):Int)∧((i8:Nat):Int) < (p0.updates.length:Int)) from ⟨by omega,by omega⟩) (z00 4))) ?_
       refine Tri.seqS ?_
       refine Tri.seqJ (fun (a11:Bool)=>⟨[(2,.c (.ptr 2 0)),(9,cD (dI a9)),(11,.c (.ptr 11 0)),(68,cD (lD 6 z01 p0.updates)),(69,cD (dI (p0.updates.length:Int))),(70,cD (dI ((i8:Nat):Int))),(91,cD (.bool a11))],[(2,.box (cBatch p0)),(11,.box (cUpdate (p0.updates.getD i8 default)))]⟩) h (fun a11 h => ?_) (fun j12 h => ?_)
       ·refine Tri.condK h (fun h => ?_) (fun h => ?_)
        ·refine Tri.kp [70,2,9,68,69] [2] ?_
         refine Tri.exit ?_
         cases h
         exact ⟨rfl,kr⟩
        ·refine Tri.skip ?_
         refine Tri.seqS ?_
         refine Tri.reg ?_
         refine At.sg 3 [2,9,68,69,70,93,95] [2] (z00 3) ?_
         obtain ⟨r13,hr13,h⟩:=z04 h
         refine At.cA [] [.agg (cBatch p0),cD (lD 3 z05 ((p0.updates.getD i8 default).key))] (zak hr13) (.cons (.refl _) (.cons (.refl _) .nil)) ?_
         refine At.sg 5 [2,9,12,68,69,70] [2] (z00 5) ?_
         refine At.done rfl ?_
         refine Tri.reg ?_
         refine At.sg 5 [70,2,9,68,69] [2] (z00 5) ?_
         refine At.done rfl ?_
         cases h
         exact kr
       ·rcases z20 h with ⟨hp14,h⟩ | ⟨hp14,h⟩
        ·obtain ⟨hc15,h⟩:=z03 h
         obtain ⟨r16,hr16,h⟩:=z04 h
         refine Tri.dC [.a [10] [],.a [75] [],.m ⟨[(76,cD (.bool (decide (0 < ((i8:Nat):Int)))))],[]⟩ ⟨[(77,.c (.d (.bool true)))],[]⟩ [] [] [],.a [2,77] [],.a [77,78] [2],.a [10,77] [],.a [77,80] [],.a [77,79,81] [],.a [77,82] [],.a [77,83] [],.a [77,84] [],.a [11,77] [],.a [77,86] [11],.a [77,87] [],.m ⟨[(77,cD (.bool true)),(85,.agg [.d (lD 3 z05 ((p0.updates.getD ((IntKind.i64.wrap (((i8:Nat):Int) - 1)).toNat) default).key)),.zero,.d (dU 0),.d (dU 0),.d (dU 0),.d (dI 0)]),(88,.agg [.d (lD 3 z05 ((p0.updates.getD i8 default).key)),.zero,.d (dU 0),.d (dU 0),.d (dU 0),.d (dI 0)])],[]⟩ ⟨[(89,cD (dI r16))],[]⟩ [] [] [],.a [77,89] [],.a [77,90] []] [2,9,11,68,69,70,91] [2,11] (tN 6 (ai hc15 (z00 8))) (.a (.a (.m ?_ (.a (.a (.a (.a (.a (.a (.a (.a (.a (.a (.a (.m ?_ (.a (.a .z))))))))))))))))) ?_
         · exact DOk.stepP (fun b => .val (.c (.d (.bool b))) (True)) (p:=(decide (0 < ((i8:Nat):Int)))) hp14 (fun r=>by kernel_rfl) (fun r=>by kernel_rfl) trivial (by kernel_rfl) (by kernel_rfl) (fun r=>rfl)
         · exact DOk.cA [] [.agg [.d (lD 3 z05 ((p0.updates.getD ((IntKind.i64.wrap (((i8:Nat):Int) - 1)).toNat) default).key)),.zero,.d (dU 0),.d (dU 0),.d (dU 0),.d (dI 0)],.agg [.d (lD 3 z05 ((p0.updates.getD i8 default).key)),.zero,.d (dU 0),.d (dU 0),.d (dU 0),.d (dI 0)]] (z3s hr16) fun r=>(.cons (.agg (.cons (.le (.refl _)) (.cons (.le (.zero _ _)) (.cons (.le (.refl _)) (.cons (.le (.refl _)) (.cons (.le (.refl _)) (.cons (.le (.refl _)) .nil))))))) (.cons (.agg (.cons (.le (.refl _)) (.cons (.le (.zero _ _)) (.cons (.le (.refl _)) (.cons (.le (.refl _)) (.cons (.le (.refl _)) (.cons (.le (.refl _)) .nil))))))) .nil))
         exact ⟨_,h,kr⟩
        ·refine Tri.dC [.a [10] [],.a [75] [],.m ⟨[(76,cD (.bool (decide (0 < ((i8:Nat):Int)))))],[]⟩ ⟨[(77,.c (.d (.bool false)))],[]⟩ [] [] [],.a [2,77] [],.a [77,78] [],.a [10,77] [],.a [77,80] [],.a [77,79,81] [],.a [77,82] [],.a [77,83] [],.a [77,84] [],.a [11,77] [],.a [77,86] [],.a [77,87] [],.a [77,85,88] [],.a [77,89] [],.a [77,90] []] [2,9,11,68,69,70,91] [2,11] (z00 3) (.a (.a (.m ?_ (.a (.a (.a (.a (.a (.a (.a (.a (.a (.a (.a (.a (.a (.a .z))))))))))))))))) ?_
         · exact DOk.stepP (fun b => .val (.c (.d (.bool b))) (True)) (p:=(decide (0 < ((i8:Nat):Int)))) hp14 (fun r=>by kernel_rfl) (fun r=>by kernel_rfl) trivial (by kernel_rfl) (by kernel_rfl) (fun r=>rfl)
         exact ⟨_,h,kr⟩
      ·intro a10 h
       refine Tri.sg [4] [] (z00 6) ?_
       refine Tri.ret ?_
       cases h
       exact RetAt.k
      · exact fun x=>x.elim
    ·refine Tri.reg ?_
     refine At.sg 3 [2,5,7,44] [2] (z00 3) ?_
     refine At.cs [44] h (fun h => ?_) (fun h => ?_)
     ·refine At.sg 22 [2,66] [2] (z00 3) ?_
      refine At.done rfl ?_
      exact ⟨_,h,kr⟩
     ·refine At.sg 10 [2,5,7,54] [2] (z00 10) ?_
      refine At.cs [54] h (fun h => ?_) (fun h => ?_)
      ·refine At.sg 12 [2,66] [2] (z00 1) ?_
       refine At.done rfl ?_
       exact ⟨_,h,kr⟩
      ·refine At.sg 7 [2,7,54,56,57,61] [2] (z00 7) ?_
       obtain ⟨hc17,h⟩:=z03 h
       refine At.seg 1 [62,2,7,54,56,57,61] [2] (s':=⟨[(62,.c (.d (.list 6 ((IntKind.i64.wrap (r2.1 + (r3.1.length:Int))).toNat - r2.1.toNat) (fun i=>z01 (p0.updates.getD (r2.1.toNat + i) default))))),(2,.c (.ptr 2 0)),(7,cD (lD 6 z01 r3.1)),(54,cD (.bool false)),(56,cD (lD 6 z01 p0.updates)),(57,cD (dI r2.1)),(61,cD (dI (IntKind.i64.wrap (r2.1 + (r3.1.length:Int)))))],[(2,.box (cBatch p0))]⟩) (by kernel_rfl) (ai hc17 trivial) ?_
       refine At.le [] (fun k hk=>by cases hk) ⟨[(62,cD (lD 6 z01 (sub p0.updates r2.1 (IntKind.i64.wrap (r2.1 + (r3.1.length:Int)))))),(2,.c (.ptr 2 0)),(7,cD (lD 6 z01 r3.1)),(54,cD (.bool false)),(56,cD (lD 6 z01 p0.updates)),(57,cD (dI r2.1)),(61,cD (dI (IntKind.i64.wrap (r2.1 + (r3.1.length:Int)))))],[(2,.box (cBatch p0))]⟩ ⟨⟨_,rfl,.c (.subD (z01) hc17.1 hc17.2.1 hc17.2.2)⟩,⟨_,rfl,.refl _⟩,⟨_,rfl,.refl _⟩,⟨_,rfl,.refl _⟩,⟨_,rfl,.refl _⟩,⟨_,rfl,.refl _⟩,⟨_,rfl,.refl _⟩,trivial⟩ ⟨⟨_,rfl,.refl _,(by simp)⟩,trivial⟩ ?_
       refine At.sg 1 [2,54,62,63] [2] (z00 1) ?_
       obtain ⟨r18,hr18,h⟩:=z04 h
       refine At.cA [] [cD (lD 6 z01 (sub p0.updates r2.1 (IntKind.i64.wrap (r2.1 + (r3.1.length:Int))))),cD (lD 6 z01 r3.1)] (zau hr18) (.cons (.refl _) (.cons (.refl _) .nil)) ?_
       refine At.sg 2 [2,66] [2] (z00 2) ?_
       refine At.done rfl ?_
       exact ⟨_,h,kr⟩
end Go.Av
namespace Go.Av
open Go Go.Proofs
set_option linter.unusedVariables false
set_option linter.unusedSimpArgs false
def zae (x:Time):Prop:=(okInt .u64) x.epoch∧(fun p=>(okInt .u64) p.1∧(okInt .u64) p.2) x.loop∧True
def z6f (x:Time):Nat:=((fun _=>1) x.epoch + ((fun p=>(fun _=>1) p.1 + (fun _=>1) p.2 + 1) x.loop + 0)) + 1
def z8w (x:Value):Prop:=(fun _=>True) x.isText∧(okInt .i64) x.n∧(fun s=>s.size≤maxN) x.s∧True
def z6j (x:Value):Nat:=((fun _=>1) x.isText + ((fun _=>1) x.n + ((fun s=>s.size + 1) x.s + 0))) + 1
def zb7 (x:Update):Prop:=(fun xs=>xs.length≤maxN∧∀ x ∈ xs,(z8w) x) x.key∧(fun xs=>xs.length≤maxN∧∀ x ∈ xs,(z8w) x) x.row∧(zae) x.time∧(okInt .i64) x.diff∧True
def z5x (x:Update):Nat:=((fun xs=>(xs.map (z6j)).sum + 1) x.key + ((fun xs=>(xs.map (z6j)).sum + 1) x.row + ((z6f) x.time + ((fun _=>1) x.diff + 0)))) + 1
def zh1 (x:Batch):Prop:=(fun xs=>xs.length≤maxN∧∀ x ∈ xs,(zae) x) x.since∧(fun xs=>xs.length≤maxN∧∀ x ∈ xs,(zb7) x) x.updates∧True
def z9t (x:Batch):Nat:=((fun xs=>(xs.map (z6f)).sum + 1) x.since + ((fun xs=>(xs.map (z5x)).sum + 1) x.updates + 0)) + 1
def okWide (x:Wide):Prop:=(okInt .i64) x.high∧(okInt .u64) x.low∧True
theorem zez {H:Type} {enc:TypeId × Go.Value→H} {W:World} {Z:TypeId→DataW H→Prop} {B:DataW H→Nat} (hZ:Fine Tryz.prog Z) (hB:BulkOk B):Reads enc Tryz.prog W Z B 54 z02 zae z6f:=fun n=>by
 have h:=z12.struct (n:=n) (enc:=enc) (W:=W) (tot:=3) hZ hB Tryz.underlying54 (by kernel_rfl) (fun m _=>(z3e.cons (k:=1) (z12.int hB Tryz.underlying51) rfl (by kernel_rfl) (z3e.cons (k:=2) (z12.pair hZ hB Tryz.underlying52 (k:=1) (by kernel_rfl) (by kernel_rfl) (fun m _=>(z12.int hB Tryz.underlying51))) rfl (by kernel_rfl) (z3e.nil (off:=3)))))
 exact h.map (fun (p:Int × (Int × Int) × Unit)=>(⟨p.1,p.2.1⟩:Time)) (fun _ _=>rfl) (fun _ h=>h) (fun _ _=>Nat.le_refl _)
theorem zaz {H:Type} {enc:TypeId × Go.Value→H} {W:World} {Z:TypeId→DataW H→Prop} {B:DataW H→Nat} (hZ:Fine Tryz.prog Z) (hB:BulkOk B):Reads enc Tryz.prog W Z B 58 z05 z8w z6j:=fun n=>by
 have h:=z12.struct (n:=n) (enc:=enc) (W:=W) (tot:=3) hZ hB Tryz.underlying58 (by kernel_rfl) (fun m _=>(z3e.cons (k:=1) (z12.bool hB Tryz.underlying4) rfl (by kernel_rfl) (z3e.cons (k:=1) (z12.int hB Tryz.underlying2) rfl (by kernel_rfl) (z3e.cons (k:=1) (z12.string hZ hB Tryz.underlying9) rfl (by kernel_rfl) (z3e.nil (off:=3))))))
 exact h.map (fun (p:Bool × Int × ByteArray × Unit)=>(⟨p.1,p.2.1,p.2.2.1⟩:Value)) (fun _ _=>rfl) (fun _ h=>h) (fun _ _=>Nat.le_refl _)
theorem zgv {H:Type} {enc:TypeId × Go.Value→H} {W:World} {Z:TypeId→DataW H→Prop} {B:DataW H→Nat} (hZ:Fine Tryz.prog Z) (hB:BulkOk B):Reads enc Tryz.prog W Z B 56 z01 zb7 z5x:=fun n=>by
 have h:=z12.struct (n:=n) (enc:=enc) (W:=W) (tot:=6) hZ hB Tryz.underlying56 (by kernel_rfl) (fun m _=>(z3e.cons (k:=1) (z12.slice (es:=3) (e:=z05) (ok:=z8w) (bulk:=z6j) hZ hB Tryz.underlying50 (by kernel_rfl) (by kernel_rfl) rfl (fun _ _=>rfl) (fun m _=>(zaz hZ hB m))) rfl (by kernel_rfl) (z3e.cons (k:=1) (z12.slice (es:=3) (e:=z05) (ok:=z8w) (bulk:=z6j) hZ hB Tryz.underlying50 (by kernel_rfl) (by kernel_rfl) rfl (fun _ _=>rfl) (fun m _=>(zaz hZ hB m))) rfl (by kernel_rfl) (z3e.cons (k:=3) (zez hZ hB m) rfl (by kernel_rfl) (z3e.cons (k:=1) (z12.int hB Tryz.underlying2) rfl (by kernel_rfl) (z3e.nil (off:=6)))))))
 exact h.map (fun (p:(List Value) × (List Value) × Time × Int × Unit)=>(⟨p.1,p.2.1,p.2.2.1,p.2.2.2.1⟩:Update)) (fun _ _=>rfl) (fun _ h=>h) (fun _ _=>Nat.le_refl _)
theorem zhk {H:Type} {enc:TypeId × Go.Value→H} {W:World} {Z:TypeId→DataW H→Prop} {B:DataW H→Nat} (hZ:Fine Tryz.prog Z) (hB:BulkOk B):Reads enc Tryz.prog W Z B 26 zj2 zh1 z9t:=fun n=>by
 have h:=z12.struct (n:=n) (enc:=enc) (W:=W) (tot:=2) hZ hB Tryz.underlying26 (by kernel_rfl) (fun m _=>(z3e.cons (k:=1) (z12.slice (es:=3) (e:=z02) (ok:=zae) (bulk:=z6f) hZ hB Tryz.underlying22 (by kernel_rfl) (by kernel_rfl) rfl (fun _ _=>rfl) (fun m _=>(zez hZ hB m))) rfl (by kernel_rfl) (z3e.cons (k:=1) (z12.slice (es:=6) (e:=z01) (ok:=zb7) (bulk:=z5x) hZ hB Tryz.underlying24 (by kernel_rfl) (by kernel_rfl) rfl (fun _ _=>rfl) (fun m _=>(zgv hZ hB m))) rfl (by kernel_rfl) (z3e.nil (off:=2)))))
 exact h.map (fun (p:(List Time) × (List Update) × Unit)=>(⟨p.1,p.2.1⟩:Batch)) (fun _ _=>rfl) (fun _ h=>h) (fun _ _=>Nat.le_refl _)
end Go.Av
/-
 Av,part V: of loops,without any program.
-/
namespace Go.Av
set_option linter.unusedVariables false
set_option linter.unusedSimpArgs false
section
variable {S R Q A X:Type}
theorem        ze8 {B : Nat → S → Option (Ctl S R)} {n : Nat} (I : Nat → S → Prop) {s : S} (h0 : I 0 s) (hs : ∀ i s, i < n → I i s → ∃ s', B i s = some (.next s') ∧ I (i + 1) s') :
    ∃ s',    z0c B n 0 s = some (.done s') ∧ I n s' := by
  have key : ∀ k i s, i + k = n → I i s → ∃ s',    z0c B k i s = some (.done s') ∧ I n s' := by
    intro k
    induction k with
    | zero => intro i s hi h; exact ⟨s, rfl, by have : i = n := by omega
                                                subst this; exact h⟩
    | succ k ih =>
      intro i s hi h
      obtain ⟨s', h1, h2⟩ := hs i s (by omega) h
      obtain ⟨s2, h3, h4⟩ := ih (i + 1) s' (by omega) h2
      exact ⟨s2, by simp only [   z0c, h1, h3], h4⟩
  exact key n 0 s (by omega) h0
theorem z7c {B:Nat→S→Option (Ctl S R)} {n:Nat} {s:S} (r:S) (I:Nat→S→Prop) (hr:∀ s,I n s→s=r) (hs:∀ i s,i < n→I i s→∃ s',B i s=some (.next s')∧I (i + 1) s') (h0:I 0 s) :
  z0c B n 0 s=some (.done r):=by
 obtain ⟨s',h1,h2⟩:=ze8 I h0 hs
 rw [h1,hr s' h2]
theorem         zgo {B : Nat → S → Option (Ctl S R)} {n : Nat} (I : Nat → S → Prop) (D : S → Prop) (J : R → Prop) {s : S} (h0 : I 0 s)
    (hs : ∀ i s, i < n → I i s → (∃ s', B i s = some (.next s') ∧ I (i + 1) s') ∨ (∃ s', B i s = some (.brk s') ∧ D s') ∨ ∃ r, B i s = some (.ret r) ∧ J r) (hD : ∀ s, I n s → D s) :
    (∃ s',    z0c B n 0 s = some (.done s') ∧ D s') ∨ ∃ r,    z0c B n 0 s = some (.ret r) ∧ J r := by
  have key : ∀ k i s, i + k = n → I i s → (∃ s',    z0c B k i s = some (.done s') ∧ D s') ∨ ∃ r,    z0c B k i s = some (.ret r) ∧ J r := by
    intro k
    induction k with
    | zero => intro i s hi h; exact .inl ⟨s, rfl, by have : i = n := by omega
                                                     subst this; exact hD s h⟩
    | succ k ih =>
      intro i s hi h
      rcases hs i s (by omega) h with ⟨s', h1, h2⟩ | ⟨s', h1, h2⟩ | ⟨r, h1, h2⟩
      · rcases ih (i + 1) s' (by omega) h2 with ⟨s2, h3, h4⟩ | ⟨r, h3, h4⟩
        · exact .inl ⟨s2, by simp only [   z0c, h1, h3], h4⟩
        · exact .inr ⟨r, by simp only [   z0c, h1, h3], h4⟩
      · exact .inl ⟨s', by simp only [   z0c, h1], h2⟩
      · exact .inr ⟨r, by simp only [   z0c, h1], h2⟩
  exact key n 0 s (by omega) h0
theorem z7y [Inhabited X] {l:List X} {i:Nat} (h:i < l.length):l.take (i + 1)=l.take i++[l.getD i default]:=by
 rw [List.take_add_one,List.getElem?_eq_getElem h,List.getD_eq_getElem?_getD,List.getElem?_eq_getElem h]
 rfl
theorem z9r [Inhabited X] {l:List X} {i:Nat} (h:i < l.length):l.getD i default ∈ l:=by
 rw [List.getD_eq_getElem?_getD,List.getElem?_eq_getElem h]
 exact List.getElem_mem h
@[simp] theorem z4r {s:S} {kn:S→Option Q} {kr:R→Option Q}:outK (some (.done s)) kn kr=kn s:=rfl
@[simp] theorem zko {r:R} {kn:S→Option Q} {kr:R→Option Q}:outK (some (.ret r)) kn kr=kr r:=rfl
@[simp] theorem z6o {x y:Option Q}:bf true x y=x:=rfl
@[simp] theorem z1h {x y:Option Q}:bf false x y=y:=rfl
theorem z06 {c:Prop} [Decidable c] {k:Option Q} (h:c):need c k=k:=by unfold need; rw [if_pos h]
@[simp] theorem jn_eq {j:A→Option Q} {k:(A→Option Q)→Option Q}:jn j k=k j:=rfl
@[simp] theorem z0a {p:Prop} [Decidable p] {x y:Option Q}:bf (decide p) x y=if p then x else y:=by by_cases h:p <;> simp [h,bf]
@[simp] theorem z8h {b:Bool} {x y:Option Q}:bf (!b) x y=bf b y x:=by cases b <;> rfl
end
end Go.Av
/-
 Orders,as comparisons with three answers: without any program.
-/
namespace Go.Av
open Go
set_option linter.unusedVariables false
set_option linter.unusedSimpArgs false
structure IsCmp {α:Type} (c : α → α → Int):Prop where
 vals:∀ a b,c a b = -1∨c a b=0∨c a b=1
 anti:∀ a b,c b a = - c a b
 tr:∀ a b d,c a b≤0→c b d≤0→c a d≤0
namespace IsCmp
variable {α β:Type} {c : α → α → Int}
theorem refl (h:IsCmp c) (a : α):c a a=0:=by have:=h.anti a a; omega
theorem lt_tr (h:IsCmp c) {a b d : α} (h1:c a b < 0) (h2:c b d≤0):c a d < 0:=by
 have:=h.tr a b d (by omega) h2
 rcases h.vals a d with g | g | g
 ·omega
 ·have g1:=h.anti a d
  have g2:=h.tr b d a h2 (by omega)
  have g3:=h.anti a b
  omega
 ·omega
theorem le_lt (h:IsCmp c) {a b d : α} (h1:c a b≤0) (h2:c b d < 0):c a d < 0:=by
 have:=h.tr a b d h1 (by omega)
 rcases h.vals a d with g | g | g
 ·omega
 ·have g1:=h.anti a d
  have g2:=h.tr d a b (by omega) h1
  have g3:=h.anti b d
  omega
 ·omega
theorem eqL (h:IsCmp c) {a b : α} (d : α) (h1:c a b=0):c a d=c b d:=by
 have h2:=h.anti a b
 have t1:=h.tr a b d (by omega)
 have t2:=h.tr b a d (by omega)
 have t3:=h.tr d a b
 have t4:=h.tr d b a
 have a1:=h.anti a d
 have a2:=h.anti b d
 rcases h.vals a d with g | g | g <;> rcases h.vals b d with k | k | k <;> omega
theorem eqR (h:IsCmp c) {a b : α} (d : α) (h1:c a b=0):c d a=c d b:=by
 have:=h.eqL d h1
 have a1:=h.anti a d
 have a2:=h.anti b d
 omega
theorem on (h:IsCmp c) (f : β → α):IsCmp fun x y=>c (f x) (f y):=⟨fun a b=>h.vals _ _,fun a b=>h.anti _ _,fun a b d=>h.tr _ _ _⟩
end IsCmp
def cmpZ (a b:Int):Int:=if a < b then -1 else if b < a then 1 else 0
theorem z7x:IsCmp cmpZ where
 vals a b:=by unfold cmpZ; split <;> (try split) <;> simp
 anti a b:=by unfold cmpZ; split <;> (try split) <;> (try split) <;> (try split) <;> omega
 tr a b d:=by unfold cmpZ; split <;> (try split) <;> (try split) <;> (try split) <;> (try split) <;> (try split) <;> omega
theorem zi2 {a b:Int}:cmpZ a b=0↔a=b:=by unfold cmpZ; split <;> (try split) <;> omega
def thenC (u v:Int):Int:=if u=0 then v else u
theorem IsCmp.lex {α:Type} {c d : α → α → Int} (hc:IsCmp c) (hd:IsCmp d):IsCmp fun a b=>thenC (c a b) (d a b) where
 vals a b:=by
  unfold thenC
  split
  ·exact hd.vals a b
  ·exact hc.vals a b
 anti a b:=by
  have h1:=hc.anti a b
  have h2:=hd.anti a b
  unfold thenC
  split <;> split <;> omega
 tr a b e h1 h2:=by
  unfold thenC at *
  by_cases g1:c a b=0 <;> by_cases g2:c b e=0
  ·have:=hc.eqL e g1
   rw [if_pos g1] at h1; rw [if_pos g2] at h2; rw [if_pos (by omega)]
   exact hd.tr a b e h1 h2
  ·have:=hc.eqL e g1
   rw [if_neg g2] at h2; rw [if_neg (by omega)]; omega
  ·have:=hc.eqR a g2
   rw [if_neg g1] at h1; rw [if_neg (by omega)]; omega
  ·rw [if_neg g1] at h1; rw [if_neg g2] at h2
   have:=hc.lt_tr (a:=a) (b:=b) (d:=e) (by omega) h2
   rw [if_neg (by omega)]; omega
def cmpL {α:Type} (c : α → α → Int):List α → List α → Int
 | [],[]=>0
 | [],_ :: _ => -1
 | _ :: _,[]=>1
 | a :: x,b :: y=>thenC (c a b) (cmpL c x y)
theorem IsCmp.list {α:Type} {c : α → α → Int} (h:IsCmp c):IsCmp (cmpL c) where
 vals:=by
  intro a
  induction a with
  | nil=>intro b; cases b <;> simp [cmpL]
  | cons x a ih =>
   intro b
   cases b with
   | nil=>simp [cmpL]
   | cons y b =>
    simp only [cmpL,thenC]
    split
    ·exact ih b
    ·exact h.vals x y
 anti:=by
  intro a
  induction a with
  | nil=>intro b; cases b <;> simp [cmpL]
  | cons x a ih =>
   intro b
   cases b with
   | nil=>simp [cmpL]
   | cons y b =>
    have h1:=h.anti x y
    have h2:=ih b
    simp only [cmpL,thenC]
    split <;> split <;> omega
 tr:=by
  intro a
  induction a with
  | nil=>intro b d _ _; cases d <;> simp [cmpL]
  | cons x a ih =>
   intro b d h1 h2
   cases b with
   | nil=>simp [cmpL] at h1
   | cons y b =>
    cases d with
    | nil=>simp [cmpL] at h2
    | cons z d =>
     simp only [cmpL] at *
     unfold thenC at *
     by_cases g1:c x y=0 <;> by_cases g2:c y z=0
     ·have:=h.eqL z g1
      rw [if_pos g1] at h1; rw [if_pos g2] at h2; rw [if_pos (by omega)]
      exact ih b d h1 h2
     ·have:=h.eqL z g1
      rw [if_neg g2] at h2; rw [if_neg (by omega)]; omega
     ·have:=h.eqR x g2
      rw [if_neg g1] at h1; rw [if_neg (by omega)]; omega
     ·rw [if_neg g1] at h1; rw [if_neg g2] at h2
      have:=h.lt_tr (a:=x) (b:=y) (d:=z) (by omega) h2
      rw [if_neg (by omega)]; omega
def cmpU8 (a b:UInt8):Int:=cmpZ (a.toNat:Int) (b.toNat:Int)
theorem zip:IsCmp cmpU8:=z7x.on fun a:UInt8=>(a.toNat:Int)
theorem zbb:∀ x y:List UInt8,Op.bytesLess x y=decide (cmpL cmpU8 x y < 0)
 | [],[]=>by simp [Op.bytesLess,cmpL]
 | [],_ :: _=>by simp [Op.bytesLess,cmpL]
 | _ :: _,[]=>by simp [Op.bytesLess,cmpL]
 | a :: x,b :: y=>by
  rw [Op.bytesLess,zbb x y,cmpL]
  have e1:(a < b)↔(a.toNat:Int) < (b.toNat:Int):=by rw [UInt8.lt_iff_toNat_lt]; omega
  have e2:(a=b)↔(a.toNat:Int)=(b.toNat:Int):=by rw [← UInt8.toNat_inj]; omega
  unfold cmpU8 thenC cmpZ
  rw [Bool.eq_iff_iff]
  simp only [Bool.or_eq_true,Bool.and_eq_true,decide_eq_true_eq,beq_iff_eq,e1,e2]
  by_cases h1:(a.toNat:Int) < (b.toNat:Int)
  ·simp [h1]
  ·by_cases h2:(b.toNat:Int) < (a.toNat:Int)
   ·simp [h1,h2]; omega
   ·have:(a.toNat:Int)=(b.toNat:Int):=by omega
    simp [this]
theorem zcw:∀ x y:List UInt8,(x == y)=decide (cmpL cmpU8 x y=0)
 | [],[]=>by simp [cmpL]
 | [],_ :: _=>by simp [cmpL]
 | _ :: _,[]=>by simp [cmpL]
 | a :: x,b :: y=>by
  rw [List.cons_beq_cons,zcw x y,cmpL]
  have e2:(a=b)↔(a.toNat:Int)=(b.toNat:Int):=by rw [← UInt8.toNat_inj]; omega
  have e3:cmpU8 a b=0↔(a.toNat:Int)=(b.toNat:Int):=zi2
  unfold thenC
  rw [Bool.eq_iff_iff]
  simp only [Bool.and_eq_true,decide_eq_true_eq,beq_iff_eq,e2]
  by_cases h:cmpU8 a b=0
  ·rw [if_pos h]; simp [e3.1 h]
  ·rw [if_neg h]
   constructor
   ·rintro ⟨g,_⟩; exact absurd (e3.2 g) h
   ·intro g; exact absurd g h
def cmpS (a b:ByteArray):Int:=cmpL cmpU8 a.toList b.toList
theorem zcj:IsCmp cmpS:=zip.list.on fun a:ByteArray=>a.toList
theorem zev (a b:ByteArray):strLt a b=decide (cmpS a b < 0):=zbb _ _
theorem zi9 (a b:ByteArray):strEq a b=decide (cmpS a b=0):=zcw _ _
theorem zhf (a:ByteArray):strEq a a=true:=by unfold strEq; simp
theorem zfd {a b:ByteArray} (h:a.toList=b.toList):a=b:=by
 rw [ByteArray.toList_eq,ByteArray.toList_eq] at h
 cases a; cases b
 simp at h
 simp [h]
theorem zib {a b:ByteArray}:strEq a b=true↔a=b:=by
 unfold strEq
 rw [beq_iff_eq]
 exact ⟨zfd,fun h=>by rw [h]⟩
theorem z36 {α:Type} [Inhabited α] {l:List α} {i:Nat} (h:i < l.length):l.drop i=l.getD i default :: l.drop (i + 1):=by
 rw [List.drop_eq_getElem_cons h,List.getD_eq_getElem?_getD,List.getElem?_eq_getElem h]; rfl
theorem zjq {α:Type} [Inhabited α] {c : α → α → Int} {p0 p1:List α} {B:Nat→Unit→Option (Ctl Unit Int)} {kn:Unit→Option Int}
  (hB:∀ i,i < p0.length→B i ()=if p1.length≤i then some (.ret 1) else if c (p0.getD i default) (p1.getD i default)=0 then some (.next ()) else some (.ret (c (p0.getD i default) (p1.getD i default))))
  (hk:kn ()=some (if p0.length < p1.length then -1 else 0)):outK (z0c B p0.length 0 ()) kn (fun x=>some x)=some (cmpL c p0 p1):=by
 have key:∀ k i,i + k=p0.length→i≤p1.length→outK (z0c B k i ()) kn (fun x=>some x)=some (cmpL c (p0.drop i) (p1.drop i)):=by
  intro k
  induction k with
  | zero =>
   intro i hi hle
   simp only [z0c,z4r,hk]
   rw [List.drop_eq_nil_of_le (by omega:p0.length≤i)]
   by_cases h:p0.length < p1.length
   ·rw [if_pos h,z36 (by omega:i < p1.length)]; rfl
   ·rw [if_neg h,List.drop_eq_nil_of_le (by omega:p1.length≤i)]; rfl
  | succ k ih =>
   intro i hi hle
   simp only [z0c,hB i (by omega)]
   rw [z36 (by omega:i < p0.length)]
   by_cases h:p1.length≤i
   ·rw [if_pos h,List.drop_eq_nil_of_le (by omega:p1.length≤i)]; rfl
   ·rw [if_neg h,z36 (by omega:i < p1.length)]
    simp only [cmpL,thenC]
    by_cases h0:c (p0.getD i default) (p1.getD i default)=0
    ·rw [if_pos h0,if_pos h0]; exact ih (i + 1) (by omega) (by omega)
    ·rw [if_neg h0,if_neg h0]; rfl
 exact key p0.length 0 (by omega) (by omega)
end Go.Av
/-
 Numbers and bits: without any program.
-/
namespace Go.Av
open Go
set_option linter.unusedVariables false
set_option linter.unusedSimpArgs false
theorem zb2 (n:Int):IntKind.u64.wrap n=n % 18446744073709551616:=by simp [IntKind.wrap,IntKind.bits,IntKind.signed]
theorem ziq (n:Int):IntKind.i64.wrap n=if n % 18446744073709551616 ≥ 9223372036854775808 then n % 18446744073709551616 - 18446744073709551616 else n % 18446744073709551616:=by
 simp [IntKind.wrap,IntKind.bits,IntKind.signed]
def in64 (x:Int):Prop := -9223372036854775808≤x∧x < 9223372036854775808
theorem z72 {x:Int} (h:in64 x):IntKind.i64.wrap x=x:=by
 unfold in64 at h
 rw [ziq]
 split <;> omega
theorem zal (k:IntKind) (n m:Nat) (hm:m≤k.bits):shrOp k (n:Int) (m:Int)=((n / 2 ^ m:Nat):Int):=by
 unfold shrOp
 rw [Int.toNat_natCast,Nat.min_eq_left hm,Int.fdiv_eq_ediv_of_nonneg _ (by exact Int.le_of_lt (Int.pow_pos (by decide)))]
 push_cast
 rfl
theorem z86 {w:Nat} (n:Nat) (h:n < 2 ^ w):(BitVec.ofInt w (n:Int)).toNat=n:=by
 rw [BitVec.toNat_ofInt]
 have e:((n:Int) % ((2 ^ w:Nat):Int))=(n:Int):=Int.emod_eq_of_lt (by omega) (by exact_mod_cast h)
 rw [e,Int.toNat_natCast]
theorem uwrap {k:IntKind} (hs:k.signed=false) {n:Nat} (h:n < 2 ^ k.bits):k.wrap (n:Int)=(n:Int):=by
 unfold IntKind.wrap
 simp only [hs,Bool.false_and,Bool.false_eq_true,if_false]
 have:((2:Int) ^ k.bits)=((2 ^ k.bits:Nat):Int):=by push_cast; rfl
 rw [this]
 exact Int.emod_eq_of_lt (by omega) (by exact_mod_cast h)
theorem zel {k:IntKind} (hs:k.signed=false) {x y:Nat} (hx:x < 2 ^ k.bits) (hy:y < 2 ^ k.bits):z0i .xor k (x:Int) (y:Int)=((x ^^^ y:Nat):Int):=by
 unfold z0i
 simp only
 rw [BitVec.toNat_xor,z86 x hx,z86 y hy,uwrap hs (Nat.xor_lt_two_pow hx hy)]
theorem zjx {k:IntKind} (hs:k.signed=false) {x y:Nat} (hx:x < 2 ^ k.bits) (hy:y < 2 ^ k.bits):z0i .and k (x:Int) (y:Int)=((x &&& y:Nat):Int):=by
 unfold z0i
 simp only
 rw [BitVec.toNat_and,z86 x hx,z86 y hy,uwrap hs (Nat.and_lt_two_pow x hy)]
theorem zek {k:IntKind} (n m:Nat) (hm:m≤k.bits):shlOp k (n:Int) (m:Int)=k.wrap ((n * 2 ^ m:Nat):Int):=by
 unfold shlOp
 rw [Int.toNat_natCast,Nat.min_eq_left hm]
 push_cast
 rfl
end Go.Av
namespace Go.Av
open Go
set_option linter.unusedVariables false
set_option linter.unusedSimpArgs false
section
variable {α:Type} {c : α → α → Int}
def sm (c : α → α → Int):List (α × Int) → α → Int
 | [],_=>0
 | p :: l,y=>(if c y p.1=0 then p.2 else 0) + sm c l y
structure SS (c : α → α → Int) (l S:List (α × Int)):Prop where
 strict:S.Pairwise fun a b=>c a.1 b.1 < 0
 sum:∀ p ∈ S,p.2=sm c l p.1
 mem:∀ p ∈ S,∃ y ∈ l,y.1=p.1
 all:∀ y ∈ l,∃ p ∈ S,c p.1 y.1=0
def Fits (c : α → α → Int) (l:List (α × Int)):Prop := ∀ y,in64 (sm c l y)
structure Res (c : α → α → Int) (num : α → Int) (put : α → Int → α) (l:List (α × Int)) (R:List α):Prop where
 strict:R.Pairwise fun a b=>c a b < 0
 sum:∀ r ∈ R,num r=sm c l r∧num r ≠ 0
 mem:∀ r ∈ R,∃ y ∈ l,r=put y.1 (num r)
 all:∀ y ∈ l,sm c l y.1 ≠ 0→∃ r ∈ R,c r y.1=0
def Tot (c : α → α → Int) (num : α → Int) (put : α → Int → α) (l:List (α × Int)) (R:List α) (e:Int):Prop:=(e=0∧Res c num put l R∧Fits c l)∨(e=10∧R=[]∧¬ Fits c l)
end
end Go.Av
namespace Go.Av
open Go
set_option linter.unusedVariables false
set_option linter.unusedSimpArgs false
section
variable {α:Type} [Inhabited α]
theorem z1y (d:Array α) (j:Nat):d.toList.getD j default=d[j]!:=by
 rw [List.getD_eq_getElem?_getD,Array.getElem?_toList,getElem!_def]
 cases d[j]? <;> rfl
theorem z3a (d:Array α) (i j:Nat):(d.toList.set i d[j]!).set j d[i]! = (Sort.swp d i j).toList:=by
 unfold Sort.swp
 rw [Array.toList_setIfInBounds,Array.toList_setIfInBounds]
theorem z18 (d:Array α) (i j:Nat):(Sort.swp d i j).size=d.size:=by unfold Sort.swp; simp
theorem wsub1 {j:Nat} (h1:1≤j) (h:j < 4611686018427387904):IntKind.i64.wrap ((j:Int) - 1)=((j - 1:Nat):Int):=by
 rw [z1q (by omega) (by omega)]; omega
theorem wadd1 {j:Nat} (h:j < 4611686018427387904):IntKind.i64.wrap ((j:Int) + 1)=((j + 1:Nat):Int):=by
 rw [z1q (by omega) (by omega)]; omega
theorem wsub {i j:Nat} (h1:j≤i) (h:i < 4611686018427387904):IntKind.i64.wrap ((i:Int) - (j:Int))=((i - j:Nat):Int):=by
 rw [z1q (by omega) (by omega)]; omega
theorem wadd {i j:Nat} (h:i + j < 4611686018427387904):IntKind.i64.wrap ((i:Int) + (j:Int))=((i + j:Nat):Int):=by
 rw [z1q (by omega) (by omega)]; omega
theorem wtwo {i:Nat} (h:2 * i < 4611686018427387904):IntKind.i64.wrap ((2:Int) * (i:Int))=((2 * i:Nat):Int):=by
 rw [z1q (by omega) (by omega)]; omega
theorem intle {i j:Nat}:((i:Int)≤(j:Int))=(i≤j):=propext (by omega)
theorem intlt {i j:Nat}:((i:Int) < (j:Int))=(i < j):=propext (by omega)
theorem z21 {S R:Type} {B:S→Option (Ctl S R)} {fuel:Nat} {s s' : S} (h:B s=some (.next s')):loopN B (fuel + 1) s=loopN B fuel s':=by rw [loopN,h]
theorem z1l {S R:Type} {B:S→Option (Ctl S R)} {fuel:Nat} {s s' : S} (h:B s=some (.brk s')):loopN B (fuel + 1) s=some (.done s'):=by rw [loopN,h]
theorem z7d {S R:Type} {B:S→Option (Ctl S R)} {fuel:Nat} {s:S} {r:R} (h:B s=some (.ret r)):loopN B (fuel + 1) s=some (.ret r):=by rw [loopN,h]
theorem z8x {X Y R Q:Type} {o:Option (Out (X × Y) R)} {kn:X × Y→Option Q} {kr:R→Option Q} {r:Y} {q:Option Q} (h:∃ x:X,o=some (.done (x,r))) (hk:∀ x,kn (x,r)=q):outK o kn kr=q:=by
 obtain ⟨x,h⟩:=h
 rw [h]
 exact hk x
end
end Go.Av
namespace Go.Av
open Go
set_option linter.unusedVariables false
set_option linter.unusedSimpArgs false
section
variable {α:Type} [Inhabited α]
def rotF (a m b:Nat) (d:Array α) (x:Nat) : α:=if a≤x∧x < a + (b - m) then d[x - a + m]! else if a + (b - m)≤x∧x < b then d[x - (a + (b - m)) + a]! else d[x]!
structure RotTo (a m b:Nat) (d d' : Array α):Prop where
 perm:Sort.PermIn a b d d'
 get:∀ x,d'[x]! = rotF a m b d x
end
end Go.Av
namespace Go.Av
open Go
set_option linter.unusedVariables false
set_option linter.unusedSimpArgs false
section
variable {α:Type} [Inhabited α]
theorem zjr {R:Type} {B:Int × Int→Option (Ctl (Int × Int) R)} {P:Nat→Bool} {i0 j0:Nat}:∀ (n i j fuel:Nat),j - i≤n→n < fuel→i0≤i→i≤j→j≤j0→(i=i0∨P (i - 1)=true)→(j=j0∨P j=false) →
  (∀ i j:Nat,i0≤i→i≤j→j≤j0→B ((i:Int),(j:Int))=if i < j then (if P ((i + j) / 2)=true then some (.next ((((i + j) / 2 + 1:Nat):Int),(j:Int))) else some (.next ((i:Int),(((i + j) / 2:Nat):Int)))) else some (.brk ((i:Int),(j:Int)))) →
  ∃ r:Nat,loopN B fuel ((i:Int),(j:Int))=some (.done ((r:Int),(r:Int)))∧i0≤r∧r≤j0∧(r=i0∨P (r - 1)=true)∧(r=j0∨P r=false):=by
 intro n
 induction n with
 | zero =>
  intro i j fuel hn hf h1 h2 h3 h4 h5 hB
  cases fuel with
  | zero=>omega
  | succ fuel =>
   have h:=hB i j h1 h2 h3
   rw [if_neg (by omega)] at h
   have:i=j:=by omega
   subst this
   exact ⟨i,z1l h,h1,h3,h4,h5⟩
 | succ n ih =>
  intro i j fuel hn hf h1 h2 h3 h4 h5 hB
  cases fuel with
  | zero=>omega
  | succ fuel =>
   have h:=hB i j h1 h2 h3
   by_cases hl:i < j
   ·rw [if_pos hl] at h
    by_cases hp:P ((i + j) / 2)=true
    ·rw [if_pos hp] at h
     rw [z21 h]
     exact ih _ j fuel (by omega) (by omega) (by omega) (by omega) h3 (.inr (by rw [Nat.add_sub_cancel]; exact hp)) h5 hB
    ·rw [if_neg hp] at h
     rw [z21 h]
     exact ih i _ fuel (by omega) (by omega) h1 (by omega) (by omega) h4 (.inr (by simpa using hp)) hB
   ·rw [if_neg hl] at h
    have:i=j:=by omega
    subst this
    exact ⟨i,z1l h,h1,h3,h4,h5⟩
variable {lt : α → α → Bool}
structure MergeTo (lt : α → α → Bool) (a b:Nat) (d d' : Array α):Prop where
 perm:Sort.PermIn a b d d'
 sorted:Sort.SortedIn lt a b d'
end
end Go.Av
namespace Go.Av
open Go
set_option linter.unusedVariables false
set_option linter.unusedSimpArgs false
section
variable {α:Type} [Inhabited α] {cmp : α → α → Option Int} {c : α → α → Int}
theorem zk7 {x y:Nat} (h:x + y < 4611686018427387904):IntKind.i64.wrap (shrOp .u64 (IntKind.u64.wrap (IntKind.i64.wrap ((x:Int) + (y:Int)))) 1)=(((x + y) / 2:Nat):Int):=by
 rw [wadd h,zb2,Int.emod_eq_of_lt (by omega) (by omega),show (1:Int)=((1:Nat):Int) from rfl,zal .u64 (x + y) 1 (by decide),z1q (by omega) (by omega)]
end
end Go.Av
namespace Go.Av
open Go
set_option linter.unusedVariables false
set_option linter.unusedSimpArgs false
def cmpV (a b:Value):Int:=if a.isText=b.isText then (if a.isText then cmpS a.s b.s else cmpZ a.n b.n) else (if a.isText then 1 else -1)
theorem z3i:IsCmp cmpV where
 vals a b:=by
  unfold cmpV
  split
  ·split
   ·exact zcj.vals _ _
   ·exact z7x.vals _ _
  ·split <;> simp
 anti a b:=by
  unfold cmpV
  cases a.isText <;> cases b.isText <;> simp
  ·exact z7x.anti _ _
  ·exact zcj.anti _ _
 tr a b d:=by
  unfold cmpV
  cases a.isText <;> cases b.isText <;> cases d.isText <;> simp
  ·exact z7x.tr _ _ _
  ·exact zcj.tr _ _ _
theorem zid (a b:ByteArray):(strLt a b || strEq a b)=decide (cmpS a b≤0):=by
 rw [zev,zi9,Bool.eq_iff_iff]
 simp
 omega
theorem zf0 (x y:Int):z5e x y=some (cmpZ x y):=by
 unfold z5e z60 cmpZ
 simp only [decide_true,Bool.not_true,Option.bind_some,z1h,z0a]
 split <;> (try split) <;> rfl
theorem zgw (x y:Int):z4l x y=some (cmpZ x y):=by
 unfold z4l z5i cmpZ
 simp only [decide_true,Bool.not_true,Option.bind_some,z1h,z0a]
 split <;> (try split) <;> rfl
theorem zgc (x y:ByteArray):z49 x y=some (cmpS x y):=by
 unfold z49 z50
 simp only [zhf,Bool.not_true,Option.bind_some,z1h]
 rw [zid,zev]
 simp only [z8h,z0a]
 rcases zcj.vals x y with h | h | h <;> simp [h]
theorem zdq (a b:Value):z61 a b=some (cmpV a b):=by
 unfold z61 z7n cmpV
 simp only [zf0,zgc,zgw,z8h]
 cases a.isText <;> cases b.isText <;> simp [zf0,cmpZ]
theorem z7t (a b:List Value):z3t a b=some (cmpL cmpV a b):=by
 unfold z3t z07
 rw [zjq (c:=cmpV)]
 ·rfl
 ·intro i hi
  simp only [zdq,Option.bind_some,z0a,z8h,Int.ofNat_le]
  split
  ·rfl
  ·rw [z06 (by omega)]
 ·simp only [z0a,Int.ofNat_lt]
  split <;> rfl
def z6l (v:Value):Bool:=if v.isText then decide (v.n=0) && decide (v.s.size≤64) else strEq v.s (bs [])
def okRow (p:List Value):Bool:=decide (p.length≤8) && p.all z6l
theorem zj6 (v:Value):z6z v=some (z6l v):=by
 unfold z6z z6l
 have e:((v.s.size:Int)≤64)↔v.s.size≤64:=by omega
 cases v.isText <;> by_cases h:v.n=0 <;> simp [h,e]
theorem zha {S R X:Type} [Inhabited X] {B:Nat→S→Option (Ctl S R)} {l:List X} (P:X→Bool) (f:Nat→R) {s:S}
  (hB:∀ i,i < l.length→B i s=if P (l.getD i default) then some (.ret (f i)) else some (.next s)) :
  (l.any P=false∧z0c B l.length 0 s=some (.done s))∨(l.any P=true∧∃ i,i < l.length∧P (l.getD i default)=true∧z0c B l.length 0 s=some (.ret (f i))):=by
 have key:∀ k i,i + k=l.length→((l.drop i).any P=false∧z0c B k i s=some (.done s))∨((l.drop i).any P=true∧∃ j,j < l.length∧P (l.getD j default)=true∧z0c B k i s=some (.ret (f j))):=by
  intro k
  induction k with
  | zero=>intro i hi; left; rw [List.drop_eq_nil_of_le (by omega:l.length≤i)]; exact ⟨rfl,rfl⟩
  | succ k ih =>
   intro i hi
   rw [z36 (by omega:i < l.length)]
   simp only [z0c,hB i (by omega),List.any_cons]
   by_cases h:P (l.getD i default)=true
   ·rw [if_pos h]; right; exact ⟨by rw [h]; rfl,i,by omega,h,rfl⟩
   ·rw [if_neg h]
    have hf:P (l.getD i default)=false:=by simpa using h
    rw [hf,Bool.false_or]
    exact ih (i + 1) (by omega)
 have:=key l.length 0 (by omega)
 rwa [List.drop_zero] at this
theorem zbc (p:List Value):(p.any fun v => !z6l v) = !(p.all z6l):=by
 rw [List.any_eq_not_all_not]
 simp
theorem zbi (p:List Value):z62 p=some (if okRow p then 0 else 4):=by
 unfold z62 z0n z0r z77 okRow
 simp only [jn_eq,z0a,zj6,Option.bind_some]
 by_cases h:8 < (p.length:Int)
 ·rw [if_pos h,decide_eq_false (by omega:¬ p.length≤8)]; rfl
 ·rw [if_neg h,decide_eq_true (by omega:p.length≤8)]
  rcases zha (S:=Unit) (R:=Int) (l:=p) (fun v => !z6l v) (fun i=>(i:Int)) (s:=()) (B:=fun i1 a2=>bf (!z6l (p.getD i1 default)) (some (.ret ((i1:Nat):Int))) (some (.next ()))) (fun i hi=>by
   cases z6l (p.getD i default) <;> rfl) with ⟨h1,h2⟩ | ⟨h1,i,_,_,h2⟩
  ·rw [h2]
   rw [zbc] at h1
   have:p.all z6l=true:=by simpa using h1
   simp [this]
  ·rw [h2]
   rw [zbc] at h1
   have:p.all z6l=false:=by simpa using h1
   simp [this,Int.natCast_nonneg]
theorem zcy {a b:Value}:z7e a b=true↔a=b:=by
 rcases a with ⟨t,n,s⟩
 rcases b with ⟨t',n',s'⟩
 simp [z7e,zib]
theorem zjp (a b:List Value):∃ r,z37 a b=some r∧(r=true↔a=b):=by
 unfold z37
 by_cases hl:a.length=b.length
 ·rw [decide_eq_true (by omega:(a.length:Int)=(b.length:Int))]
  simp only [Bool.not_true,z1h]
  have key:∀ k i,i + k=a.length→∃ r,outK (z0c (S:=Unit) (R:=Bool) (fun i1 (a2:Unit)=>need ((0:Int)≤((i1:Nat):Int)∧((i1:Nat):Int) < (b.length:Int)) <| bf (!(z7e (a.getD i1 default) (b.getD i1 default))) (some (.ret false)) (some (.next ()))) k i ()) (fun (a3:Unit)=>some true) (fun x=>some x)=some r∧(r=true↔a.drop i=b.drop i):=by
   intro k
   induction k with
   | zero =>
    intro i hi
    refine ⟨true,rfl,?_⟩
    rw [List.drop_eq_nil_of_le (by omega:a.length≤i),List.drop_eq_nil_of_le (by omega:b.length≤i)]
    simp
   | succ k ih =>
    intro i hi
    simp only [z0c]
    rw [z06 (by omega),z36 (by omega:i < a.length),z36 (by omega:i < b.length)]
    by_cases he:z7e (a.getD i default) (b.getD i default)=true
    ·rw [he]
     obtain ⟨r,h1,h2⟩:=ih (i + 1) (by omega)
     refine ⟨r,h1,?_⟩
     rw [h2,zcy.1 he]
     simp
    ·have he' : z7e (a.getD i default) (b.getD i default)=false:=by simpa using he
     rw [he']
     refine ⟨false,rfl,?_⟩
     simp only [Bool.false_eq_true,false_iff,List.cons.injEq,not_and]
     intro h
     exact absurd (zcy.2 h) he
  obtain ⟨r,h1,h2⟩:=key a.length 0 (by omega)
  exact ⟨r,h1,by simpa using h2⟩
 ·rw [decide_eq_false (by omega:¬ (a.length:Int)=(b.length:Int))]
  exact ⟨false,rfl,by simp; intro h; exact hl (by rw [h])⟩
theorem zin (a:List Value):z37 a a=some true:=by
 obtain ⟨r,h1,h2⟩:=zjp a a
 rw [h1,h2.2 rfl]
theorem zes {p:List Value} (h:okRow p=true):p.all z6l=true∧p.length≤8:=by
 unfold okRow at h
 simp only [Bool.and_eq_true,decide_eq_true_eq] at h
 exact ⟨h.2,h.1⟩
end Go.Av
namespace Go.Av
open Go
set_option linter.unusedVariables false
set_option linter.unusedSimpArgs false
def z4a (t:Time):Prop:=0≤t.epoch∧0≤t.loop.1∧0≤t.loop.2
def lub2 (a x:Time):Time:=⟨if a.epoch < x.epoch then x.epoch else a.epoch,(if a.loop.1 < x.loop.1 then x.loop.1 else a.loop.1,if a.loop.2 < x.loop.2 then x.loop.2 else a.loop.2)⟩
def zeroT:Time:=⟨0,(0,0)⟩
def lubL (l:List Time):Time:=l.foldl lub2 zeroT
theorem Time.ext' {a b:Time} (h1:a.epoch=b.epoch) (h2:a.loop.1=b.loop.1) (h3:a.loop.2=b.loop.2):a=b:=by
 rcases a with ⟨e,l1,l2⟩; rcases b with ⟨e',l1',l2'⟩; simp at h1 h2 h3; simp [h1,h2,h3]
theorem max0 {a:Int} (h:0≤a):a=if 0 < a then a else 0:=by
 by_cases h1:0 < a
 ·rw [if_pos h1]
 ·rw [if_neg h1]; omega
theorem z9w {l:List Time} (hl:∀ x ∈ l,z4a x):z2e l=some (lubL l):=by
 unfold z2e
 rw [z7c (lubL l) (fun i a=>a=lubL (l.take i)) (fun s h=>by rw [h,List.take_length])]
 ·rfl
 ·intro i a hi ha
  refine ⟨_,?_,rfl⟩
  rw [z7y hi]
  have hx:=hl _ (z9r hi)
  generalize l.getD i default=x at *
  simp only [lubL,List.foldl_append,List.foldl_cons,List.foldl_nil]
  rw [← lubL,← ha]
  simp only [jn_eq,z0c,z4g,Option.bind_some,z0a]
  rcases Nat.eq_zero_or_pos i with h0 | h0
  ·subst h0
   simp [lubL] at ha
   subst ha
   obtain ⟨x1,x2,x3⟩:=hx
   simp [outK,lub2,zeroT]
   exact ⟨max0 x1,max0 x2,max0 x3⟩
  ·rw [if_neg (by omega)]
   simp [outK,lub2]
 ·rfl
theorem mx_eq (a b:Int):(if a < b then b else a)=max a b:=by split <;> omega
theorem zii {x:Time} (h:z4a x):lub2 zeroT x=x:=by
 obtain ⟨h1,h2,h3⟩:=h
 simp only [lub2,mx_eq,zeroT]
 refine Time.ext' ?_ ?_ ?_ <;> simp only <;> omega
theorem zg4 {x y:Time} (hx:z4a x):lubL [x,y]=lub2 x y:=by
 simp [lubL,zii hx]
def leT (a b:Time):Bool:=decide (a.epoch≤b.epoch) && (decide (a.loop.1≤b.loop.1) && decide (a.loop.2≤b.loop.2))
theorem zj1 {a b:Time} (ha:z4a a) (hb:z4a b):z6n a b=some (leT a b):=by
 unfold z6n z4n
 have hl:∀ x ∈ [a,b],z4a x:=fun x hx=>by
  rcases List.mem_cons.1 hx with rfl | hx
  ·exact ha
  ·rw [List.mem_singleton.1 hx]; exact hb
 rw [z9w hl,zg4 ha]
 simp only [Option.bind_some,lub2,mx_eq,z1o,leT,Bool.and_true]
 congr 1
 rw [Bool.eq_iff_iff]
 simp only [Bool.and_eq_true,decide_eq_true_eq]
 omega
def cmpT (a b:Time):Int :=
 if a.epoch < b.epoch then -1 else if b.epoch < a.epoch then 1 else if a.loop.1 < b.loop.1 then -1 else if b.loop.1 < a.loop.1 then 1 else if a.loop.2 < b.loop.2 then -1 else if b.loop.2 < a.loop.2 then 1 else 0
theorem zet (x y:Int):z2z x y=some (if x < y then -1 else if y < x then 1 else 0):=by
 unfold z2z z4z
 simp only [decide_true,Bool.not_true,Option.bind_some,z1h,z0a]
 split
 ·rfl
 ·split <;> rfl
theorem zjk (x1 x2 y1 y2:Int):z1x [x1,x2] [y1,y2]=some (if x1 < y1 then -1 else if y1 < x1 then 1 else if x2 < y2 then -1 else if y2 < x2 then 1 else 0):=by
 unfold z1x
 simp only [List.length_cons,List.length_nil,Nat.zero_add,Nat.reduceAdd,z0c,zet,z0a,z8h,Option.bind_some]
 by_cases h3:x1 < y1 <;> by_cases h4:y1 < x1 <;> by_cases h5:x2 < y2 <;> by_cases h6:y2 < x2 <;> simp [outK,need,h3,h4,h5,h6]
theorem zke (u v:Int):z4p [u,v]=some (if u=0 then v else u):=by
 unfold z4p
 simp only [List.length_cons,List.length_nil,Nat.zero_add,Nat.reduceAdd,z0c,z0a,z8h]
 by_cases h1:u=0 <;> by_cases h2:v=0 <;> simp [outK,h1,h2]
theorem zkn {p q:Bool} {A:Type} {x y:Option A}:bf (p && (q && true)) x y=bf p (bf q x y) y:=by cases p <;> cases q <;> rfl
theorem        z28 (a b : Time) :            z0v a b = some (cmpT a b) := by
  unfold            z0v cmpT
  simp only [      zet,     zjk,    zke, Option.bind_some,    zkn,       z0a]
  by_cases h1 : a.epoch < b.epoch <;> by_cases h2 : b.epoch < a.epoch <;> by_cases h3 : a.loop.1 < b.loop.1 <;> by_cases h4 : b.loop.1 < a.loop.1 <;> by_cases h5 : a.loop.2 < b.loop.2 <;> by_cases h6 : b.loop.2 < a.loop.2 <;>
    by_cases h7 : a.loop.1 = b.loop.1 <;> by_cases h8 : a.loop.2 = b.loop.2 <;> simp [h1, h2, h3, h4, h5, h6, h7, h8] <;> omega
theorem zh7 (a b:Time):cmpT a b = -1∨cmpT a b=0∨cmpT a b=1:=by
 unfold cmpT
 repeat' split
 all_goals omega
theorem       zi7 (a b : Time) : cmpT a b = - cmpT b a := by
  unfold cmpT
  by_cases h1 : a.epoch < b.epoch <;> by_cases h2 : b.epoch < a.epoch <;> by_cases h3 : a.loop.1 < b.loop.1 <;> by_cases h4 : b.loop.1 < a.loop.1 <;> by_cases h5 : a.loop.2 < b.loop.2 <;> by_cases h6 : b.loop.2 < a.loop.2 <;>
    simp [h1, h2, h3, h4, h5, h6] <;> omega
theorem zg5 (a:Time):leT a a=true:=by simp [leT]
theorem zew {a b c:Time} (h:leT a b=true) (g:leT b c=true):leT a c=true:=by
 simp only [leT,Bool.and_eq_true,decide_eq_true_eq] at *
 omega
theorem zk6 {a b:Time}:leT a b=true↔a.epoch≤b.epoch∧a.loop.1≤b.loop.1∧a.loop.2≤b.loop.2:=by simp [leT]
theorem zdf (u v w:Int):z4p [u,v,w]=some (thenC u (thenC v w)):=by
 unfold z4p thenC
 simp only [List.length_cons,List.length_nil,Nat.zero_add,Nat.reduceAdd,z0c,z0a,z8h]
 by_cases h1:u=0 <;> by_cases h2:v=0 <;> by_cases h3:w=0 <;> simp [outK,h1,h2,h3]
theorem zkk (u v w:Int):z7k [u,v,w]=some (thenC u (thenC v w)):=zdf u v w
theorem zju:IsCmp cmpT where
 vals a b:=by rcases zh7 a b with h | h | h <;> omega
 anti a b:=by have:=zi7 a b; omega
 tr a b d:=by
  have e:∀ a b:Time,cmpT a b=thenC (cmpZ a.epoch b.epoch) (thenC (cmpZ a.loop.1 b.loop.1) (cmpZ a.loop.2 b.loop.2)):=fun a b=>by
   unfold cmpT thenC cmpZ
   repeat' split
   all_goals omega
  have h:=(z7x.on fun t:Time=>t.epoch).lex ((z7x.on fun t:Time=>t.loop.1).lex (z7x.on fun t:Time=>t.loop.2))
  rw [e,e,e]
  exact h.tr a b d
def okT (t:Time):Bool:=decide (t.epoch≤4611686018427387904) && (decide (t.loop.1≤4611686018427387904) && decide (t.loop.2≤4611686018427387904))
theorem zgz {fuel:Nat} (hf:5 < fuel) (a b:Int):z29 fuel [a,b]=some (if a < b then b else a):=by
 unfold z29
 obtain ⟨f,rfl⟩:∃ f,fuel=f + 2:=⟨fuel - 2,by omega⟩
 have w:IntKind.i64.wrap 2=2:=by rw [z1q (by omega) (by omega)]
 simp [loopN,outK,need,bf,w]
theorem zab {fuel:Nat} (hf:5 < fuel) (t:Time):z2w fuel [t]=some (if okT t then 0 else 1):=by
 unfold z2w okT
 simp only [List.length_cons,List.length_nil,Nat.zero_add,z0c,List.getD_cons_zero,zgz hf,Option.bind_some,z0a,mx_eq]
 by_cases h:4611686018427387904 < max t.epoch (max t.loop.1 t.loop.2)
 ·rw [if_pos h]
  simp only [outK]
  rw [if_neg (by simp only [Bool.and_eq_true,decide_eq_true_eq]; omega)]
 ·rw [if_neg h]
  simp only [outK]
  rw [if_pos (by simp only [Bool.and_eq_true,decide_eq_true_eq]; omega)]
end Go.Av
namespace Go.Av
open Go
set_option linter.unusedVariables false
set_option linter.unusedSimpArgs false
section
variable {α X Y:Type}
inductive R2 (r:X→Y→Prop):List X→List Y→Prop
 | nil:R2 r [] []
 | cons {x:X} {y:Y} {a:List X} {b:List Y} (h:r x y) (t:R2 r a b):R2 r (x :: a) (y :: b)
theorem R2.len {r:X→Y→Prop} {a:List X} {b:List Y} (h:R2 r a b):a.length=b.length:=by induction h <;> simp_all
theorem R2.app {r:X→Y→Prop} {a a' : List X} {b b' : List Y} (h:R2 r a b) (h' : R2 r a' b'):R2 r (a++a') (b++b'):=by
 induction h with
 | nil=>exact h'
 | cons h _ ih=>exact .cons h ih
theorem R2.split {r:X→Y→Prop}:∀ {b b' : List Y} {a:List X},R2 r a (b++b')→∃ a1 a2,a=a1++a2∧R2 r a1 b∧R2 r a2 b'
 | [],b',a,h=>⟨[],a,rfl,.nil,h⟩
 | y :: b,b',_,h=>by
  cases h with
  | cons h t =>
   obtain ⟨a1,a2,rfl,h1,h2⟩:=R2.split t
   exact ⟨_ :: a1,a2,rfl,.cons h h1,h2⟩
theorem R2.get [Inhabited X] [Inhabited Y] {r:X→Y→Prop} {a:List X} {b:List Y} (h:R2 r a b):∀ {i:Nat},i < b.length→r (a.getD i default) (b.getD i default):=by
 induction h with
 | nil=>intro i hi; simp at hi
 | cons h _ ih =>
  intro i hi
  cases i with
  | zero=>exact h
  | succ i=>exact ih (by simpa using hi)
theorem R2.one {r:X→Y→Prop} {x:X} {y:Y} (h:r x y):R2 r [x] [y]:=.cons h .nil
theorem zd7 {S R Q:Type} {G:Option Q→Prop} {B:Nat→S→Option (Ctl S R)} {n:Nat} {s:S} {kn:S→Option Q} {kr:R→Option Q} (I:Nat→S→Prop) (D:S→Prop) (J:R→Prop) (h0:I 0 s) (hD:∀ s,I n s→D s) (hk:∀ s,D s→G (kn s)) (hr:∀ r,J r→G (kr r))
  (hs:∀ i s,i < n→I i s→(∃ s',B i s=some (.next s')∧I (i + 1) s')∨(∃ s',B i s=some (.brk s')∧D s')∨∃ r,B i s=some (.ret r)∧J r):G (outK (z0c B n 0 s) kn kr):=by
 rcases zgo I D J h0 hs hD with ⟨s',h1,h2⟩ | ⟨r,h1,h2⟩
 ·rw [h1]; exact hk s' h2
 ·rw [h1]; exact hr r h2
def PR (num : α → Int) (l:List α):List (α × Int):=l.map fun x=>(x,num x)
end
end Go.Av
namespace Go.Av
open Go
set_option linter.unusedVariables false
set_option linter.unusedSimpArgs false
def cU (a b:Update):Int:=thenC (cmpL cmpV a.key b.key) (thenC (cmpL cmpV a.row b.row) (cmpT a.time b.time))
theorem cU_is:IsCmp cU:=(z3i.list.on fun u:Update=>u.key).lex ((z3i.list.on fun u:Update=>u.row).lex (zju.on fun u:Update=>u.time))
theorem zca (a b:Update):z2x a b=some (cU a b):=by
 unfold z2x cU
 simp only [z7t,z28,zdf,Option.bind_some]
def zhx (x:Update) (n:Int):Update:=⟨x.key,x.row,x.time,n⟩
end Go.Av
namespace Go.Av
open Go
set_option linter.unusedVariables false
set_option linter.unusedSimpArgs false
def cK (a b:Count):Int:=cmpL cmpV a.row b.row
def zja (x:Count) (n:Int):Count:=⟨x.row,n⟩
end Go.Av
namespace Go.Av
open Go
set_option linter.unusedVariables false
set_option linter.unusedSimpArgs false
theorem zjg (v:Int):thenC 0 v=v:=rfl
theorem zjf {u v:Int} (h:u ≠ 0):thenC u v=u:=if_neg h
theorem zde {X:Type} [Inhabited X] {R:Type} {B:Nat→Unit→Option (Ctl Unit R)} {l:List X} (e:X→Int) (f:Int→R) (hB:∀ i,i < l.length→B i ()=if e (l.getD i default)=0 then some (.next ()) else some (.ret (f (e (l.getD i default))))) :
  z0c B l.length 0 ()=if l.foldr (fun x v=>thenC (e x) v) 0=0 then some (.done ()) else some (.ret (f (l.foldr (fun x v=>thenC (e x) v) 0))):=by
 have key:∀ k i,i + k=l.length→z0c B k i ()=if (l.drop i).foldr (fun x v=>thenC (e x) v) 0=0 then some (.done ()) else some (.ret (f ((l.drop i).foldr (fun x v=>thenC (e x) v) 0))):=by
  intro k
  induction k with
  | zero =>
   intro i hi
   rw [List.drop_eq_nil_of_le (by omega)]
   rfl
  | succ k ih =>
   intro i hi
   rw [z36 (by omega:i < l.length)]
   simp only [z0c,hB i (by omega),List.foldr_cons]
   by_cases h:e (l.getD i default)=0
   ·simp only [h,if_true,zjg]
    exact ih (i + 1) (by omega)
   ·simp only [zjf h,if_neg h]
 have:=key l.length 0 (by omega)
 rwa [List.drop_zero] at this
def errU (u:Update):Int:=thenC (if okRow u.key then 0 else 4) (thenC (if okRow u.row then 0 else 4) (if okT u.time then 0 else 1))
def chkL (l:List Update):Int:=l.foldr (fun u v=>thenC (errU u) v) 0
def okU (u:Update):Prop:=okRow u.key=true∧okRow u.row=true∧okT u.time=true
theorem zi3 {u:Update}:errU u=0↔okU u:=by
 unfold errU okU thenC
 by_cases h1:okRow u.key=true <;> by_cases h2:okRow u.row=true <;> by_cases h3:okT u.time=true <;> simp [h1,h2,h3]
theorem zdp {u v:Int}:thenC u v=0↔u=0∧v=0:=by unfold thenC; split <;> omega
theorem zht {l:List Update}:chkL l=0↔∀ u ∈ l,okU u:=by
 induction l with
 | nil=>simp [chkL]
 | cons u l ih =>
  unfold chkL at *
  rw [List.foldr_cons,zdp,zi3,ih]
  simp
theorem zg6 {fuel:Nat} (hf:5 < fuel) (l:List Update):z4o fuel l=some (chkL l):=by
 unfold z4o
 rw [zde errU (fun x=>x)]
 ·show outK (if chkL l=0 then _ else some (.ret (chkL l))) _ _=_
  split
  ·rename_i h; rw [h]; rfl
  ·rfl
 ·intro i hi
  rw [zbi,zbi,zab hf]
  simp only [Option.bind_some,zkk,z8h,z0a]
  rfl
theorem zgd {p:List Value} (h:p.length≤8):z0o p=some p:=by
 unfold z0o
 rw [z06 (by omega)]
theorem zjh {u:Update} (h:okU u):u.key.length≤8∧u.row.length≤8:=⟨(zes h.1).2,(zes h.2.1).2⟩
theorem zfs {X:Type} [Inhabited X] {l:List X} {i:Nat} (h:i < l.length):l.set i (l.getD i default)=l:=by
 rw [List.getD_eq_getElem?_getD,List.getElem?_eq_getElem h]
 exact List.set_getElem_self h
theorem zkc {l:List Update} (h:∀ u ∈ l,okU u) (hn:l.length≤4000000):z4j l=some l:=by
 unfold z4j
 have hlim:(l.length:Int)≤(lim:Int):=by simp only [lim]; omega
 rw [z06 ⟨by omega,by omega,hlim⟩,z06 (by simp)]
 have e:copyL (List.replicate l.length ((⟨([]:List Value),([]:List Value),(⟨0,(0,0)⟩:Time),0⟩:Update):Update)) l=l:=by
  unfold copyL
  rw [List.drop_eq_nil_of_le (by simp)]
  simp
 rw [e]
 rw [z7c l (fun i a=>a=l) (fun s hs=>hs)]
 ·rfl
 ·intro i a hi ha
  subst ha
  obtain ⟨h1,h2⟩:=zjh (h _ (z9r hi))
  refine ⟨_,?_,rfl⟩
  have e1:(⟨(a.getD i default).key,(a.getD i default).row,(a.getD i default).time,(a.getD i default).diff⟩:Update)=a.getD i default:=rfl
  simp only [Nat.zero_add]
  rw [z06 (by omega),z06 hi,zgd h1]
  simp only [Option.bind_some]
  rw [z06 (by omega),z06 hi,zgd h2]
  simp only [Option.bind_some]
  rw [z06 (by omega),z06 hi,z06 (by omega),z06 (by simp; exact hi),e1,zfs hi,e1,zfs hi]
 ·rfl
end Go.Av
namespace Go.Av
open Go
set_option linter.unusedVariables false
set_option linter.unusedSimpArgs false
abbrev pU (l:List Update):List (Update × Int):=PR (fun x=>x.diff) l
abbrev pK (l:List Count):List (Count × Int):=PR (fun x=>x.n) l
abbrev TotU (l:List Update) (R:List Update) (e:Int):Prop:=Tot cU (fun x=>x.diff) zhx (pU l) R e
abbrev TotK (l:List Count) (R:List Count) (e:Int):Prop:=Tot cK (fun x=>x.n) zja (pK l) R e
end Go.Av
namespace Go.Av
open Go
set_option linter.unusedVariables false
set_option linter.unusedSimpArgs false
theorem zki (l:List Update):z4m l l=some true:=by
 unfold z4m
 rw [decide_eq_true rfl,Bool.not_true,z1h]
 rw [z7c () (fun _ _=>True) (fun _ _=>rfl)]
 ·rfl
 ·intro i a hi ha
  refine ⟨(),?_,trivial⟩
  have e:z1o (l.getD i default).time (l.getD i default).time=true:=by simp [z1o]
  simp only [jn_eq,zin,Option.bind_some,Bool.not_true,z1h,e,decide_true]
  rw [z06 (by omega),z06 (by omega),z06 (by omega),z06 (by omega)]
 ·trivial
end Go.Av
namespace Go.Av
open Go
set_option linter.unusedVariables false
set_option linter.unusedSimpArgs false
def glb2 (a x:Time):Time:=⟨if x.epoch < a.epoch then x.epoch else a.epoch,(if x.loop.1 < a.loop.1 then x.loop.1 else a.loop.1,if x.loop.2 < a.loop.2 then x.loop.2 else a.loop.2)⟩
def glbL:List Time→Time
 | []=>zeroT
 | x :: l=>l.foldl glb2 x
theorem zgu (a:Time):z1o a a=true:=by simp [z1o]
theorem zgq {l:List Time} (h:l ≠ []) (x:Time):glbL (l++[x])=glb2 (glbL l) x:=by
 cases l with
 | nil=>exact absurd rfl h
 | cons y l=>simp [glbL,List.foldl_append]
theorem zg2 (l:List Time):z46 l=some (glbL l):=by
 unfold z46
 rw [z7c (glbL l) (fun i a=>a=glbL (l.take i)) (fun s h=>by rw [h,List.take_length])]
 ·rfl
 ·intro i a hi ha
  refine ⟨_,?_,rfl⟩
  rw [z7y hi]
  simp only [jn_eq,z0c,z5r,Option.bind_some,z0a]
  rcases Nat.eq_zero_or_pos i with h0 | h0
  ·subst h0
   generalize l.getD 0 default=x at *
   simp [outK,glbL]
  ·rw [if_neg (by omega),zgq (by intro h; have h2:=congrArg List.length h; rw [List.length_take] at h2; simp only [List.length_nil] at h2; omega),← ha]
   generalize l.getD i default=x at *
   simp [outK,glb2]
 ·rfl
theorem mn_eq (a b:Int):(if b < a then b else a)=min a b:=by split <;> omega
theorem zjb {a b:Time} (h:leT a b=true) (g:leT b a=true):z1o a b=true:=by
 simp only [leT,z1o,Bool.and_eq_true,decide_eq_true_eq,Bool.and_true] at *
 omega
end Go.Av
namespace Go.Av
open Go
set_option linter.unusedVariables false
set_option linter.unusedSimpArgs false
def ltT (x y:Time):Bool:=decide (cmpT x y < 0)
theorem zfb {a fuel:Nat} {B:Int × List Time→Option (Ctl (Int × List Time) Empty)} {j:Nat} {d:Array Time} (hj:j < d.size) (hf:j < fuel)
  (hB:∀ (j:Nat) (d' : Array Time),j < d'.size→d'.size=d.size→B ((j:Int),d'.toList)=if a < j∧ltT d'[j]! d'[j - 1]! = true then some (.next (((j - 1:Nat):Int),(Sort.swp d' j (j - 1)).toList)) else some (.brk ((j:Int),d'.toList))) :
  ∃ x:Int,loopN B fuel ((j:Int),d.toList)=some (.done (x,(Sort.insInner ltT a j d).toList)):=by
 induction j generalizing d fuel with
 | zero =>
  cases fuel with
  | zero=>omega
  | succ fuel =>
   refine ⟨0,z1l (s':=(((0:Nat):Int),d.toList)) ?_⟩
   rw [hB 0 d hj rfl,if_neg (by omega)]
 | succ j ih =>
  cases fuel with
  | zero=>omega
  | succ fuel =>
   have h:=hB (j + 1) d hj rfl
   rw [Nat.add_sub_cancel] at h
   unfold Sort.insInner
   by_cases hc:a < j + 1∧ltT d[j + 1]! d[j]! = true
   ·rw [if_pos hc] at h
    rw [z21 h,if_pos (by simp [hc.1,hc.2])]
    exact ih (by rw [z18]; omega) (by omega) (fun k d' h1 h2=>hB k d' h1 (by rw [h2,z18]))
   ·rw [if_neg hc] at h
    rw [z1l h,if_neg (by simpa using hc)]
    exact ⟨_,rfl⟩
theorem zfi {a b fuel:Nat} {B:Int × List Time→Option (Ctl (Int × List Time) Empty)} {n i:Nat} {d:Array Time} (hn:b - i=n) (hb:b≤d.size) (hf:b - i < fuel)
  (hB:∀ (i:Nat) (d' : Array Time),d'.size=d.size→B ((i:Int),d'.toList)=if i < b then some (.next (((i + 1:Nat):Int),(Sort.insInner ltT a i d').toList)) else some (.brk ((i:Int),d'.toList)))
  (hs:∀ (i:Nat) (d' : Array Time),(Sort.insInner ltT a i d').size=d'.size) :
  ∃ x:Int,loopN B fuel ((i:Int),d.toList)=some (.done (x,(Sort.insOuter ltT a b i d).toList)):=by
 induction n generalizing i d fuel with
 | zero =>
  cases fuel with
  | zero=>omega
  | succ fuel =>
   have h:=hB i d rfl
   rw [if_neg (by omega)] at h
   rw [z1l h,Sort.insOuter,if_neg (by omega)]
   exact ⟨_,rfl⟩
 | succ n ih =>
  cases fuel with
  | zero=>omega
  | succ fuel =>
   have h:=hB i d rfl
   rw [if_pos (by omega)] at h
   rw [z21 h,Sort.insOuter,if_pos (by omega)]
   exact ih (by omega) (by rw [hs]; omega) (by omega) (fun k d' h1=>hB k d' (by rw [h1,hs]))
theorem za0 (a:Nat):∀ (j:Nat) (d:Array Time),(Sort.insInner ltT a j d).size=d.size
 | 0,d=>rfl
 | j + 1,d=>by
  unfold Sort.insInner
  split
  ·rw [za0 a j,z18]
  ·rfl
theorem zfz {fuel a b:Nat} {d:Array Time} (hb:b≤d.size) (hd:d.size < 4611686018427387904) (ha:a < 4611686018427387903) (hf:d.size < fuel) :
  z0x fuel (a:Int) (b:Int) d.toList=some (Sort.insertionSort ltT d a b).toList:=by
 unfold z0x Sort.insertionSort
 rw [wadd1 (by omega)]
 refine z8x (zfi (a:=a) (b:=b) (i:=a + 1) (d:=d) rfl hb (by omega) ?_ (za0 a)) (fun x=>rfl)
 intro i d' hd'
 simp only [z0a,intlt]
 by_cases hi:i < b
 ·rw [if_pos hi,if_pos hi]
  refine z8x (zfb (a:=a) (j:=i) (d:=d') (by omega) (by omega) ?_) (fun x => ?_)
  ·intro j e hj he
   simp only [jn_eq,z0a,intlt]
   by_cases h1:a < j
   ·simp (disch:=omega) only [h1,if_true,wsub1,z06,Int.toNat_natCast,Nat.zero_add,Array.length_toList,List.length_set,z28,Option.bind_some,z1y,z3a,true_and]
    unfold ltT
    by_cases h2:cmpT e[j]! e[j - 1]! < 0
    ·simp [h2]
    ·simp [h2]
   ·rw [if_neg h1,if_neg (fun h=>h1 h.1)]
    rfl
  ·rw [wadd1 (by omega)]
 ·rw [if_neg hi,if_neg hi]
end Go.Av
namespace Go.Av
open Go
set_option linter.unusedVariables false
set_option linter.unusedSimpArgs false
theorem zgl (hi first:Nat):∀ (n root:Nat) (d:Array Time),hi - root≤n→(Sort.siftDown ltT hi first root d).size=d.size:=by
 intro n
 induction n with
 | zero =>
  intro root d hn
  rw [Sort.siftDown,dif_pos (by omega)]
 | succ n ih =>
  intro root d hn
  rw [Sort.siftDown]
  split
  ·rfl
  ·split
   ·split
    ·rfl
    ·split
     ·rw [ih _ _ (by omega),z18]
     ·rfl
   ·split
    ·rfl
    ·rw [ih _ _ (by omega),z18]
def z5m (hi first root:Nat) (d:Array Time):Option Nat :=
 if 2 * root + 1 ≥ hi then none else
  let c:=if 2 * root + 1 + 1 < hi∧ltT d[first + (2 * root + 1)]! d[first + (2 * root + 1) + 1]! = true then 2 * root + 2 else 2 * root + 1
  if ltT d[first + root]! d[first + c]! = true then some c else none
theorem zbj (hi first root:Nat) (d:Array Time):Sort.siftDown ltT hi first root d=match z5m hi first root d with
  | some c=>Sort.siftDown ltT hi first c (Sort.swp d (first + root) (first + c))
  | none=>d:=by
 rw [Sort.siftDown]
 unfold z5m
 by_cases h1:2 * root + 1 ≥ hi
 ·rw [dif_pos h1,if_pos h1]
 ·rw [dif_neg h1,if_neg h1]
  by_cases h2:2 * root + 1 + 1 < hi∧ltT d[first + (2 * root + 1)]! d[first + (2 * root + 1) + 1]! = true
  ·rw [if_pos (by simpa using h2)]
   simp only [if_pos h2]
   by_cases h3:ltT d[first + root]! d[first + (2 * root + 2)]! = true
   ·rw [if_neg (by simp [h3]),dif_pos (by omega)]
    simp only [h3,if_true]
   ·rw [if_pos (by simpa using h3)]
    simp only [if_neg h3]
  ·rw [if_neg (by simpa using h2)]
   simp only [if_neg h2]
   by_cases h3:ltT d[first + root]! d[first + (2 * root + 1)]! = true
   ·rw [if_neg (by simp [h3])]
    simp only [h3,if_true]
   ·rw [if_pos (by simpa using h3)]
    simp only [if_neg h3]
theorem zgr {hi first root c:Nat} {d:Array Time} (h:z5m hi first root d=some c):root < c∧c < hi:=by
 unfold z5m at h
 split at h
 ·cases h
 ·dsimp only at h
  generalize hc:(if 2 * root + 1 + 1 < hi∧ltT d[first + (2 * root + 1)]! d[first + (2 * root + 1) + 1]! = true then 2 * root + 2 else 2 * root + 1)=k at h
  have hk:root < k∧k < hi:=by
   split at hc <;> omega
  split at h
  ·cases h; exact hk
  ·cases h
theorem zhq {hi first fuel:Nat} {B:Int × List Time→Option (Ctl (Int × List Time) (List Time))} {Q:Type} {kn:Int × List Time→Option Q} {kr:List Time→Option Q} {q:Option Q} {n root:Nat} {d:Array Time}
  (hn:hi - root≤n) (hf:n < fuel) (hsz:first + hi≤d.size)
  (hB:∀ (root:Nat) (d' : Array Time),d'.size=d.size→root≤1152921504606846976→B ((root:Int),d'.toList)=if 2 * root + 1 ≥ hi then some (.brk ((root:Int),d'.toList)) else match z5m hi first root d' with
   | some c=>some (.next ((c:Int),(Sort.swp d' (first + root) (first + c)).toList))
   | none=>some (.ret d'.toList))
  (hr:root≤1152921504606846976) (hd:d.size≤1152921504606846976) (hkn:∀ x,kn (x,(Sort.siftDown ltT hi first root d).toList)=q) (hkr:kr (Sort.siftDown ltT hi first root d).toList=q) :
  outK (loopN B fuel ((root:Int),d.toList)) kn kr=q:=by
 induction n generalizing root d fuel with
 | zero =>
  cases fuel with
  | zero=>omega
  | succ fuel =>
   have h:=hB root d rfl hr
   have hs:=zbj hi first root d
   have e:z5m hi first root d=none:=by unfold z5m; rw [if_pos (by omega)]
   rw [e] at hs
   simp only at hs
   rw [hs] at hkn hkr
   rw [if_pos (by omega)] at h
   rw [z1l h]; exact hkn _
 | succ n ih =>
  cases fuel with
  | zero=>omega
  | succ fuel =>
   have h:=hB root d rfl hr
   have hs:=zbj hi first root d
   cases e:z5m hi first root d with
   | none =>
    rw [e] at h hs
    simp only at h hs
    rw [hs] at hkn hkr
    split at h
    ·rw [z1l h]; exact hkn _
    ·rw [z7d h]; exact hkr
   | some c =>
    have hc:=zgr e
    have hlt:¬ 2 * root + 1 ≥ hi:=fun hh=>by unfold z5m at e; rw [if_pos hh] at e; cases e
    rw [e] at h hs
    rw [if_neg hlt] at h
    simp only at h hs
    rw [hs] at hkn hkr
    rw [z21 h]
    exact ih (by omega) (by omega) (by rw [z18]; omega) (fun r d' h1 h2=>hB r d' (by rw [h1,z18]) h2) (by omega) (by rw [z18]; omega) hkn hkr
theorem zcr {fuel lo hi first:Nat} {d:Array Time} (hsz:first + hi≤d.size) (hd:d.size < 1152921504606846976) (hlo:lo < 1152921504606846976) (hf:d.size < fuel) :
  z1k fuel (lo:Int) (hi:Int) (first:Int) d.toList=some (Sort.siftDown ltT hi first lo d).toList:=by
 unfold z1k
 refine zhq (hi:=hi) (first:=first) (n:=hi) (by omega) (by omega) hsz ?_ (by omega) (by omega) (fun x=>rfl) rfl
 intro root e he hroot
 have hw1:IntKind.i64.wrap (IntKind.i64.wrap ((2:Int) * (root:Int)) + 1)=((2 * root + 1:Nat):Int):=by rw [wtwo (by omega),wadd1 (by omega)]
 simp only [hw1,z0a,jn_eq]
 by_cases h1:2 * root + 1 ≥ hi
 ·rw [if_pos h1,if_pos (by omega)]
 ·rw [if_neg h1,if_neg (by omega)]
  unfold z5m
  rw [if_neg h1]
  have hw2:IntKind.i64.wrap (((2 * root + 1:Nat):Int) + 1)=((2 * root + 1 + 1:Nat):Int):=wadd1 (by omega)
  have hw3:IntKind.i64.wrap ((first:Int) + ((2 * root + 1:Nat):Int))=((first + (2 * root + 1):Nat):Int):=wadd (by omega)
  have hw4:IntKind.i64.wrap (((first + (2 * root + 1):Nat):Int) + 1)=((first + (2 * root + 1) + 1:Nat):Int):=wadd1 (by omega)
  have hw5:IntKind.i64.wrap ((first:Int) + (root:Int))=((first + root:Nat):Int):=wadd (by omega)
  have hw6:IntKind.i64.wrap ((first:Int) + ((2 * root + 1 + 1:Nat):Int))=((first + (2 * root + 2):Nat):Int):=by rw [wadd (by omega)]
  simp only [hw2,hw3,hw4,hw5,hw6,intlt,Int.toNat_natCast,Nat.zero_add]
  by_cases h2:2 * root + 1 + 1 < hi
  ·rw [if_pos h2]
   simp (disch:=omega) only [z06,Array.length_toList,z28,Option.bind_some,z1y]
   by_cases h3:cmpT e[first + (2 * root + 1)]! e[first + (2 * root + 1) + 1]! < 0
   ·have h4:2 * root + 1 + 1 < hi∧ltT e[first + (2 * root + 1)]! e[first + (2 * root + 1) + 1]! = true:=⟨h2,by unfold ltT; simp [h3]⟩
    simp (disch:=omega) only [h3,if_true,if_pos h4,hw6,Int.toNat_natCast,Nat.zero_add,z06,Array.length_toList,List.length_set,z28,Option.bind_some,z1y,z3a]
    unfold ltT
    by_cases h:cmpT e[first + root]! e[first + (2 * root + 2)]! < 0
    ·simp [h]; omega
    ·simp [h]
   ·have h4:¬ (2 * root + 1 + 1 < hi∧ltT e[first + (2 * root + 1)]! e[first + (2 * root + 1) + 1]! = true):=fun h=>h3 (by have:=h.2; unfold ltT at this; simpa using this)
    simp (disch:=omega) only [h3,if_false,if_neg h4,hw3,Int.toNat_natCast,Nat.zero_add,z06,Array.length_toList,List.length_set,z28,Option.bind_some,z1y,z3a]
    unfold ltT
    by_cases h:cmpT e[first + root]! e[first + (2 * root + 1)]! < 0
    ·simp [h]
    ·simp [h]
  ·rw [if_neg h2]
   have h4:¬ (2 * root + 1 + 1 < hi∧ltT e[first + (2 * root + 1)]! e[first + (2 * root + 1) + 1]! = true):=fun h=>h2 h.1
   simp (disch:=omega) only [z1h,if_neg h4,hw3,Int.toNat_natCast,Nat.zero_add,z06,Array.length_toList,List.length_set,z28,Option.bind_some,z1y,z3a]
   unfold ltT
   by_cases h:cmpT e[first + root]! e[first + (2 * root + 1)]! < 0
   ·simp [h]
   ·simp [h]
end Go.Av
namespace Go.Av
open Go
set_option linter.unusedVariables false
set_option linter.unusedSimpArgs false
theorem z8y (hi first root:Nat) (d:Array Time):(Sort.siftDown ltT hi first root d).size=d.size:=zgl hi first hi root d (by omega)
theorem zeq {B:Int × List Time→Option (Ctl (Int × List Time) Empty)} (g h:Nat→Array Time→Array Time) {k k0 fuel:Nat} {d:Array Time} (hk:k≤k0) (hg:∀ k d,(g k d).size=d.size) (hf:k < fuel)
  (hB:∀ (k:Nat) (d' : Array Time),k≤k0→d'.size=d.size→B ((k:Int) - 1,d'.toList)=match k with | 0=>some (.brk (-1,d'.toList)) | k + 1=>some (.next ((k:Int) - 1,(g k d').toList)))
  (h0:∀ d,h 0 d=d) (h1:∀ k d,h (k + 1) d=h k (g k d)) :
  ∃ x:Int,loopN B fuel ((k:Int) - 1,d.toList)=some (.done (x,(h k d).toList)):=by
 induction k generalizing d fuel with
 | zero =>
  cases fuel with
  | zero=>omega
  | succ fuel=>exact ⟨-1,by rw [z1l (hB 0 d hk rfl),h0]⟩
 | succ k ih =>
  cases fuel with
  | zero=>omega
  | succ fuel =>
   rw [z21 (hB (k + 1) d hk rfl),h1]
   exact ih (by omega) (by omega) (fun k' d' h2 h=>hB k' d' h2 (by rw [h,hg]))
theorem z96 (hi first:Nat):∀ (k:Nat) (d:Array Time),(Sort.heapBuild ltT hi first k d).size=d.size
 | 0,d=>rfl
 | k + 1,d=>by unfold Sort.heapBuild; rw [z96 hi first k,z8y]
theorem zgn {fuel a b:Nat} {d:Array Time} (hab:a < b) (hb:b≤d.size) (hd:d.size < 1152921504606846976) (hf:d.size + 2 < fuel) :
  z1j fuel (a:Int) (b:Int) d.toList=some (Sort.heapSort ltT d a b).toList:=by
 unfold z1j Sort.heapSort
 have e0:IntKind.i64.wrap ((b:Int) - (a:Int))=((b - a:Nat):Int):=wsub (by omega) (by omega)
 have e1:IntKind.i64.wrap (((b - a:Nat):Int) - 1)=(((b - a:Nat):Int) - 1):=z1q (by omega) (by omega)
 have e2:IntKind.i64.wrap ((((b - a:Nat):Int) - 1).tdiv 2)=(((b - a - 1) / 2 + 1:Nat):Int) - 1:=by
  rw [Int.tdiv_eq_ediv_of_nonneg (by omega),z1q (by omega) (by omega)]; omega
 rw [e0,e1,e2]
 refine z8x (zeq (k0:=(b - a - 1) / 2 + 1) (fun k d=>Sort.siftDown ltT (b - a) a k d) (fun k d=>Sort.heapBuild ltT (b - a) a k d) (Nat.le_refl _) (fun k d=>z8y _ _ _ _) (by omega) ?_ (fun d=>rfl) (fun k d=>rfl)) (fun x => ?_)
 ·intro k e hk he
  simp only [z0a]
  cases k with
  | zero=>rw [if_neg (by omega)]; rfl
  | succ k =>
   rw [if_pos (by omega),show ((k + 1:Nat):Int) - 1=(k:Int) by omega,zcr (by omega) (by omega) (by omega) (by omega),Option.bind_some]
   rw [z06 (by rw [Array.length_toList,Array.length_toList,z8y]),z72 (by unfold in64; omega)]
 ·have hsz:=z96 (b - a) a ((b - a - 1) / 2 + 1) d
  simp only
  generalize Sort.heapBuild ltT (b - a) a ((b - a - 1) / 2 + 1) d=d1 at *
  refine z8x (zeq (k0:=b - a) (fun k d=>Sort.siftDown ltT k a 0 (Sort.swp d a (a + k))) (fun k d=>Sort.heapPop ltT a k d) (Nat.le_refl _) (fun k d=>by rw [z8y,z18]) (by omega) ?_ (fun d=>rfl) (fun k d=>rfl)) (fun x=>rfl)
  intro k e hk he
  simp only [z0a]
  cases k with
  | zero=>rw [if_neg (by omega)]; rfl
  | succ k =>
   rw [if_pos (by omega),show ((k + 1:Nat):Int) - 1=(k:Int) by omega]
   have w1:IntKind.i64.wrap ((a:Int) + (k:Int))=((a + k:Nat):Int):=wadd (by omega)
   have w2:IntKind.i64.wrap ((k:Int) - 1)=(k:Int) - 1:=z72 (by unfold in64; omega)
   have hs:=zcr (fuel:=fuel) (lo:=0) (hi:=k) (first:=a) (d:=Sort.swp e a (a + k)) (by rw [z18]; omega) (by rw [z18]; omega) (by omega) (by rw [z18]; omega)
   rw [show ((0:Nat):Int)=0 from rfl] at hs
   simp (disch:=omega) only [w1,w2,Int.toNat_natCast,Nat.zero_add,z06,Array.length_toList,List.length_set,z1y,z3a,hs,Option.bind_some,z8y,z18]
   rw [z06 trivial]
theorem zc3 {a b s:Nat} {d:Array Time} (ha:a < d.size) (hb:b < d.size) (hs:s < 1000):z16 d.toList (a:Int) (b:Int) (s:Int)=some (((Sort.order2 ltT d a b s).1:Int),((Sort.order2 ltT d a b s).2.1:Int),((Sort.order2 ltT d a b s).2.2:Int)):=by
 unfold z16 Sort.order2
 simp (disch:=omega) only [Int.toNat_natCast,z06,Array.length_toList,z28,Option.bind_some,z1y,wadd1,z0a]
 unfold ltT
 by_cases h:cmpT d[b]! d[a]! < 0
 ·simp [h]
 ·simp [h]
theorem z73 {a b s:Nat} {d:Array Time}:((Sort.order2 ltT d a b s).1=a∧(Sort.order2 ltT d a b s).2.1=b∨(Sort.order2 ltT d a b s).1=b∧(Sort.order2 ltT d a b s).2.1=a)∧(Sort.order2 ltT d a b s).2.2≤s + 1:=by
 unfold Sort.order2
 split
 ·exact ⟨.inr ⟨rfl,rfl⟩,Nat.le_refl _⟩
 ·exact ⟨.inl ⟨rfl,rfl⟩,Nat.le_succ _⟩
theorem zbr {a b c s:Nat} {d:Array Time} (ha:a < d.size) (hb:b < d.size) (hc:c < d.size) (hs:s < 900):z17 d.toList (a:Int) (b:Int) (c:Int) (s:Int)=some (((Sort.median ltT d a b c s).1:Int),((Sort.median ltT d a b c s).2:Int)):=by
 unfold z17
 have m1:=z73 (a:=a) (b:=b) (s:=s) (d:=d)
 rw [zc3 ha hb (by omega),Option.bind_some]
 have e:Sort.median ltT d a b c s=(let r2:=Sort.order2 ltT d (Sort.order2 ltT d a b s).2.1 c (Sort.order2 ltT d a b s).2.2; let r3:=Sort.order2 ltT d (Sort.order2 ltT d a b s).1 r2.1 r2.2.2; (r3.2.1,r3.2.2)):=rfl
 rw [e]
 generalize Sort.order2 ltT d a b s=r1 at *
 have m2:=z73 (a:=r1.2.1) (b:=c) (s:=r1.2.2) (d:=d)
 simp only
 rw [zc3 (by omega) hc (by omega),Option.bind_some]
 generalize Sort.order2 ltT d r1.2.1 c r1.2.2=r2 at *
 simp only
 rw [zc3 (by omega) (by omega) (by omega),Option.bind_some]
theorem ze9 {a b c s:Nat} {d:Array Time}:(Sort.median ltT d a b c s).2≤s + 3:=by
 have e:Sort.median ltT d a b c s=(let r2:=Sort.order2 ltT d (Sort.order2 ltT d a b s).2.1 c (Sort.order2 ltT d a b s).2.2; let r3:=Sort.order2 ltT d (Sort.order2 ltT d a b s).1 r2.1 r2.2.2; (r3.2.1,r3.2.2)):=rfl
 rw [e]
 have m1:=z73 (a:=a) (b:=b) (s:=s) (d:=d)
 generalize Sort.order2 ltT d a b s=r1 at *
 have m2:=z73 (a:=r1.2.1) (b:=c) (s:=r1.2.2) (d:=d)
 simp only
 generalize Sort.order2 ltT d r1.2.1 c r1.2.2=r2 at *
 have m3:=z73 (a:=r1.1) (b:=r2.1) (s:=r2.2.2) (d:=d)
 omega
theorem z6x {a s:Nat} {d:Array Time} (h1:1≤a) (ha:a + 1 < d.size) (hd:d.size < 1152921504606846976) (hs:s < 900):z0b d.toList (a:Int) (s:Int)=some (((Sort.medianAdjacent ltT d a s).1:Int),((Sort.medianAdjacent ltT d a s).2:Int)):=by
 unfold z0b Sort.medianAdjacent
 rw [wsub1 h1 (by omega),wadd1 (by omega),zbr (by omega) (by omega) ha hs,Option.bind_some]
def hintN:Sort.Hint→Int
 | .unknown=>0
 | .increasing=>1
 | .decreasing=>2
theorem z6g {a s:Nat} {d:Array Time}:(Sort.medianAdjacent ltT d a s).2≤s + 3:=ze9
theorem     zjw {Q : Type} {i j k : Nat} {d : Array Time} (hd : d.size < 1152921504606846976) (hi : 1 ≤ i ∧ i + 1 < d.size) (hj : 1 ≤ j ∧ j + 1 < d.size) (hk : 1 ≤ k ∧ k + 1 < d.size) {K : Int × Int → Option Q} {r1 r2 r3 : Nat × Nat}
    (h1 : Sort.medianAdjacent ltT d i 0 = r1) (h2 : Sort.medianAdjacent ltT d j r1.2 = r2) (h3 : Sort.medianAdjacent ltT d k r2.2 = r3) :
    ((                                         z0b d.toList (i : Int) 0).bind fun r6 => (                                         z0b d.toList (j : Int) r6.2).bind fun r7 => (                                         z0b d.toList (k : Int) r7.2).bind fun r8 => (                                 z17 d.toList r6.1 r7.1 r8.1 r8.2).bind K)
      = K (((Sort.median ltT d r1.1 r2.1 r3.1 r3.2).1 : Int), ((Sort.median ltT d r1.1 r2.1 r3.1 r3.2).2 : Int)) ∧ (Sort.median ltT d r1.1 r2.1 r3.1 r3.2).2 < 1000 := by
  have z : ((0 : Nat) : Int) = 0 := rfl
  have q1 :=               z6x (a := i) (s := 0) (d := d) hi.1 hi.2 hd (by omega)
  have c1 :=                z6g (a := i) (s := 0) (d := d)
  have p1 := Sort.medianAdjacent_mem ltT d i 0
  rw [z, h1] at q1
  rw [h1] at c1 p1
  have q2 :=               z6x (a := j) (s := r1.2) (d := d) hj.1 hj.2 hd (by omega)
  have c2 :=                z6g (a := j) (s := r1.2) (d := d)
  have p2 := Sort.medianAdjacent_mem ltT d j r1.2
  rw [h2] at q2 c2 p2
  have q3 :=               z6x (a := k) (s := r2.2) (d := d) hk.1 hk.2 hd (by omega)
  have c3 :=                z6g (a := k) (s := r2.2) (d := d)
  have p3 := Sort.medianAdjacent_mem ltT d k r2.2
  rw [h3] at q3 c3 p3
  have q4 :=       zbr (a := r1.1) (b := r2.1) (c := r3.1) (s := r3.2) (d := d) (by omega) (by omega) (by omega) (by omega)
  have c4 :=        ze9 (a := r1.1) (b := r2.1) (c := r3.1) (s := r3.2) (d := d)
  rw [q1, Option.bind_some]
  simp only
  rw [q2, Option.bind_some]
  simp only
  rw [q3, Option.bind_some]
  simp only
  rw [q4, Option.bind_some]
  exact ⟨rfl, by omega⟩
theorem zd1 {r:Nat × Nat}:(if ((r.2:Nat):Int)=0 then some (((r.1:Nat):Int),(1:Int)) else if ((r.2:Nat):Int)=12 then some (((r.1:Nat):Int),2) else some (((r.1:Nat):Int),0))=some (((r.1:Nat):Int),hintN (Sort.hintOf r.2)):=by
 unfold Sort.hintOf
 by_cases h1:r.2=0
 ·rw [if_pos (by omega),if_pos h1]; rfl
 ·rw [if_neg (by omega),if_neg h1]
  by_cases h2:r.2=12
  ·rw [if_pos (by omega),if_pos h2]; rfl
  ·rw [if_neg (by omega),if_neg h2]; rfl
theorem choosePivot_eq {a b:Nat} {d:Array Time} (hab:a < b) (hb:b≤d.size) (hd:d.size < 1152921504606846976) :
  z1g d.toList (a:Int) (b:Int)=some (((Sort.choosePivot ltT d a b).1:Int),hintN (Sort.choosePivot ltT d a b).2):=by
 unfold z1g
 have e0:IntKind.i64.wrap ((b:Int) - (a:Int))=((b - a:Nat):Int):=wsub (by omega) (by omega)
 have e1:IntKind.i64.wrap (((b - a:Nat):Int).tdiv 4)=(((b - a) / 4:Nat):Int):=by rw [Int.tdiv_eq_ediv_of_nonneg (by omega),z1q (by omega) (by omega)]; omega
 have m:∀ k:Nat,k≤3→IntKind.i64.wrap ((a:Int) + IntKind.i64.wrap ((((b - a) / 4:Nat):Int) * (k:Int)))=((a + (b - a) / 4 * k:Nat):Int):=fun k hk=>by
  have h1:(b - a) / 4 * k≤b - a:=Nat.le_trans (Nat.mul_le_mul_left _ hk) (by omega)
  have h2:(((b - a) / 4:Nat):Int) * (k:Int)=(((b - a) / 4 * k:Nat):Int):=by rw [Int.natCast_mul]
  have h3:IntKind.i64.wrap (((b - a) / 4 * k:Nat):Int)=(((b - a) / 4 * k:Nat):Int):=z72 (by unfold in64; omega)
  rw [h2,h3,wadd (by omega)]
 have m1:=m 1 (by omega)
 have m2:=m 2 (by omega)
 have m3:=m 3 (by omega)
 rw [show ((1:Nat):Int)=1 from rfl] at m1
 rw [show ((2:Nat):Int)=2 from rfl] at m2
 rw [show ((3:Nat):Int)=3 from rfl] at m3
 simp only [e0,e1,m1,m2,m3,jn_eq,z0a]
 rw [Sort.choosePivot_eq]
 clear e0 e1 m m1 m2 m3
 have hraw:Sort.rawPivot ltT d a b=if b - a ≥ 8 then (if b - a ≥ 50 then (Sort.median ltT d (Sort.medianAdjacent ltT d (a + (b - a) / 4 * 1) 0).1 (Sort.medianAdjacent ltT d (a + (b - a) / 4 * 2) (Sort.medianAdjacent ltT d (a + (b - a) / 4 * 1) 0).2).1 (Sort.medianAdjacent ltT d (a + (b - a) / 4 * 3) (Sort.medianAdjacent ltT d (a + (b - a) / 4 * 2) (Sort.medianAdjacent ltT d (a + (b - a) / 4 * 1) 0).2).2).1 (Sort.medianAdjacent ltT d (a + (b - a) / 4 * 3) (Sort.medianAdjacent ltT d (a + (b - a) / 4 * 2) (Sort.medianAdjacent ltT d (a + (b - a) / 4 * 1) 0).2).2).2)
   else (Sort.median ltT d (a + (b - a) / 4 * 1) (a + (b - a) / 4 * 2) (a + (b - a) / 4 * 3) 0)) else (a + (b - a) / 4 * 2,0):=rfl
 rw [hraw]
 by_cases h8:b - a ≥ 8
 ·rw [if_pos (by omega),if_pos h8]
  by_cases h50:b - a ≥ 50
  ·rw [if_pos (by omega),if_pos h50]
   obtain ⟨q,_⟩:=zjw (d:=d) (i:=a + (b - a) / 4 * 1) (j:=a + (b - a) / 4 * 2) (k:=a + (b - a) / 4 * 3) (K:=fun (a1:Int × Int)=>if a1.2=0 then some (a1.1,(1:Int)) else if a1.2=12 then some (a1.1,2) else some (a1.1,0)) hd (by omega) (by omega) (by omega) rfl rfl rfl
   exact q.trans zd1
  ·rw [if_neg (by omega),if_neg h50]
   have z:((0:Nat):Int)=0:=rfl
   have q1:=zbr (a:=a + (b - a) / 4 * 1) (b:=a + (b - a) / 4 * 2) (c:=a + (b - a) / 4 * 3) (s:=0) (d:=d) (by omega) (by omega) (by omega) (by omega)
   rw [z] at q1
   simp only
   rw [q1,Option.bind_some]
   exact zd1
 ·rw [if_neg (by omega),if_neg h8]
  exact zd1 (r:=(a + (b - a) / 4 * 2,0))
theorem zg3 {B:Int × Int × List Time→Option (Ctl (Int × Int × List Time) Empty)} {n i j fuel:Nat} {d:Array Time} (hn:j - i≤n) (hf:n < fuel) (hj:j < d.size)
  (hB:∀ (i j:Nat) (d' : Array Time),d'.size=d.size→j < d.size→B ((i:Int),(j:Int),d'.toList)=if i < j then some (.next (((i + 1:Nat):Int),((j - 1:Nat):Int),(Sort.swp d' i j).toList)) else some (.brk ((i:Int),(j:Int),d'.toList))) :
  ∃ x y:Int,loopN B fuel ((i:Int),(j:Int),d.toList)=some (.done (x,y,(Sort.reverseLoop i j d).toList)):=by
 induction n generalizing i j d fuel with
 | zero =>
  cases fuel with
  | zero=>omega
  | succ fuel =>
   have h:=hB i j d rfl hj
   rw [if_neg (by omega)] at h
   rw [z1l h,Sort.reverseLoop,if_neg (by omega)]
   exact ⟨_,_,rfl⟩
 | succ n ih =>
  cases fuel with
  | zero=>omega
  | succ fuel =>
   have h:=hB i j d rfl hj
   by_cases hij:i < j
   ·rw [if_pos hij] at h
    rw [z21 h,Sort.reverseLoop,if_pos hij]
    exact ih (by omega) (by omega) (by rw [z18]; omega) (fun i' j' d' h1 h2=>hB i' j' d' (by rw [h1,z18]) (by rw [z18] at h2; exact h2))
   ·rw [if_neg hij] at h
    rw [z1l h,Sort.reverseLoop,if_neg hij]
    exact ⟨_,_,rfl⟩
theorem ziv {X Y Z R Q:Type} {o:Option (Out (X × Y × Z) R)} {kn:X × Y × Z→Option Q} {kr:R→Option Q} {r:Z} {q:Option Q} (h:∃ (x:X) (y:Y),o=some (.done (x,y,r))) (hk:∀ x y,kn (x,y,r)=q):outK o kn kr=q:=by
 obtain ⟨x,y,h⟩:=h
 rw [h]
 exact hk x y
theorem zea {fuel a b:Nat} {d:Array Time} (hab:a < b) (hb:b≤d.size) (hd:d.size < 1152921504606846976) (hf:d.size + 2 < fuel) :
  z13 fuel (a:Int) (b:Int) d.toList=some (Sort.reverseRange d a b).toList:=by
 unfold z13 Sort.reverseRange
 rw [wsub1 (by omega) (by omega)]
 refine ziv (zg3 (n:=d.size) (by omega) (by omega) (by omega) ?_) (fun x y=>rfl)
 intro i j e he hj
 simp only [z0a,intlt]
 by_cases hij:i < j
 ·rw [if_pos hij,if_pos hij]
  simp (disch:=omega) only [wsub1,wadd1,Int.toNat_natCast,Nat.zero_add,z06,Array.length_toList,List.length_set,z1y,z3a]
 ·rw [if_neg hij,if_neg hij]
end Go.Av
namespace Go.Av
open Go
set_option linter.unusedVariables false
set_option linter.unusedSimpArgs false
section
variable {α:Type} [Inhabited α]
theorem z3w (p : α → Bool) (d:Array α) (j:Nat):∀ (n i:Nat),j + 1 - i≤n→Sort.scanUp p d j i≤max i (j + 1)∧i≤Sort.scanUp p d j i:=by
 intro n
 induction n with
 | zero =>
  intro i hn
  rw [Sort.scanUp,if_neg (by simp; omega)]
  omega
 | succ n ih =>
  intro i hn
  rw [Sort.scanUp]
  split
  ·rename_i h
   have:i≤j:=by simp at h; exact h.1
   have:=ih (i + 1) (by omega)
   omega
  ·omega
theorem z2d (p : α → Bool) (d:Array α) (i:Nat):∀ (j:Nat),Sort.scanDown p d i j≤j
 | 0=>Nat.le_refl _
 | j + 1=>by
  unfold Sort.scanDown
  split
  ·have:=z2d p d i j; omega
  ·omega
theorem z9z {S R:Type} {B:S→Option (Ctl S R)} (e:Nat→S) (p : α → Bool) (d:Array α) {j:Nat}:∀ (n i fuel:Nat),j + 1 - i≤n→n < fuel→(∀ i',i≤i' → i' ≤ max i (j + 1)→B (e i')=if i' ≤ j∧p d[i']! = true then some (.next (e (i' + 1))) else some (.brk (e i'))) →
  loopN B fuel (e i)=some (.done (e (Sort.scanUp p d j i))):=by
 intro n
 induction n with
 | zero =>
  intro i fuel hn hf hB
  cases fuel with
  | zero=>omega
  | succ fuel =>
   have h:=hB i (Nat.le_refl _) (by omega)
   rw [if_neg (by omega)] at h
   rw [z1l h,Sort.scanUp,if_neg (by simp; omega)]
 | succ n ih =>
  intro i fuel hn hf hB
  cases fuel with
  | zero=>omega
  | succ fuel =>
   have h:=hB i (Nat.le_refl _) (by omega)
   by_cases hc:i≤j∧p d[i]! = true
   ·rw [if_pos hc] at h
    rw [z21 h,Sort.scanUp,if_pos (by simpa using hc)]
    exact ih (i + 1) fuel (by omega) (by omega) (fun i' h1 h2=>hB i' (by omega) (by omega))
   ·rw [if_neg hc] at h
    rw [z1l h,Sort.scanUp,if_neg (by simpa using hc)]
theorem z8k {S R:Type} {B:S→Option (Ctl S R)} (e:Nat→S) (p : α → Bool) (d:Array α) {i:Nat} (hi:1≤i):∀ (j fuel:Nat),j < fuel→(∀ j',j' ≤ j→B (e j')=if i≤j' ∧ p d[j']! = true then some (.next (e (j' - 1))) else some (.brk (e j'))) →
  loopN B fuel (e j)=some (.done (e (Sort.scanDown p d i j))):=by
 intro j
 induction j with
 | zero =>
  intro fuel hf hB
  cases fuel with
  | zero=>omega
  | succ fuel =>
   have h:=hB 0 (Nat.le_refl _)
   rw [if_neg (by omega)] at h
   rw [z1l h]; rfl
 | succ j ih =>
  intro fuel hf hB
  cases fuel with
  | zero=>omega
  | succ fuel =>
   have h:=hB (j + 1) (Nat.le_refl _)
   unfold Sort.scanDown
   by_cases hc:i≤j + 1∧p d[j + 1]! = true
   ·rw [if_pos hc] at h
    rw [z21 h,if_pos (by simpa using hc)]
    exact ih fuel (by omega) (fun j' h1=>hB j' (by omega))
   ·rw [if_neg hc] at h
    rw [z1l h,if_neg (by simpa using hc)]
end
theorem z7h (a i j:Nat) (d:Array Time):Sort.partLoop ltT a i j d =
  if Sort.scanUp (fun x=>ltT x d[a]!) d j i > Sort.scanDown (fun x => !ltT x d[a]!) d (Sort.scanUp (fun x=>ltT x d[a]!) d j i) j then (Sort.scanDown (fun x => !ltT x d[a]!) d (Sort.scanUp (fun x=>ltT x d[a]!) d j i) j,d)
  else Sort.partLoop ltT a (Sort.scanUp (fun x=>ltT x d[a]!) d j i + 1) (Sort.scanDown (fun x => !ltT x d[a]!) d (Sort.scanUp (fun x=>ltT x d[a]!) d j i) j - 1) (Sort.swp d (Sort.scanUp (fun x=>ltT x d[a]!) d j i) (Sort.scanDown (fun x => !ltT x d[a]!) d (Sort.scanUp (fun x=>ltT x d[a]!) d j i) j)):=Sort.partLoop_eq ltT a i j d
theorem z6u (a i j:Nat) (d:Array Time):Sort.partEqLoop ltT a i j d =
  if Sort.scanUp (fun x => !ltT d[a]! x) d j i > Sort.scanDown (fun x=>ltT d[a]! x) d (Sort.scanUp (fun x => !ltT d[a]! x) d j i) j then (Sort.scanUp (fun x => !ltT d[a]! x) d j i,d)
  else Sort.partEqLoop ltT a (Sort.scanUp (fun x => !ltT d[a]! x) d j i + 1) (Sort.scanDown (fun x=>ltT d[a]! x) d (Sort.scanUp (fun x => !ltT d[a]! x) d j i) j - 1) (Sort.swp d (Sort.scanUp (fun x => !ltT d[a]! x) d j i) (Sort.scanDown (fun x=>ltT d[a]! x) d (Sort.scanUp (fun x => !ltT d[a]! x) d j i) j)):=Sort.partEqLoop_eq ltT a i j d
theorem zhs {B:Int × Int × List Time→Option (Ctl (Int × Int × List Time) Empty)} {a:Nat}:∀ (n i j fuel:Nat) (d:Array Time),j + 1 - i≤n→n < fuel→1≤i→i≤d.size→j < d.size →
  (∀ (i j:Nat) (d' : Array Time),d'.size=d.size→1≤i→i≤d.size→j < d.size→B ((i:Int),(j:Int),d'.toList) =
   if Sort.scanUp (fun x=>ltT x d'[a]!) d' j i > Sort.scanDown (fun x => !ltT x d'[a]!) d' (Sort.scanUp (fun x=>ltT x d'[a]!) d' j i) j
   then some (.brk (((Sort.scanUp (fun x=>ltT x d'[a]!) d' j i:Nat):Int),((Sort.scanDown (fun x => !ltT x d'[a]!) d' (Sort.scanUp (fun x=>ltT x d'[a]!) d' j i) j:Nat):Int),d'.toList))
   else some (.next (((Sort.scanUp (fun x=>ltT x d'[a]!) d' j i + 1:Nat):Int),((Sort.scanDown (fun x => !ltT x d'[a]!) d' (Sort.scanUp (fun x=>ltT x d'[a]!) d' j i) j - 1:Nat):Int),(Sort.swp d' (Sort.scanUp (fun x=>ltT x d'[a]!) d' j i) (Sort.scanDown (fun x => !ltT x d'[a]!) d' (Sort.scanUp (fun x=>ltT x d'[a]!) d' j i) j)).toList))) →
  ∃ x:Int,loopN B fuel ((i:Int),(j:Int),d.toList)=some (.done (x,((Sort.partLoop ltT a i j d).1:Int),(Sort.partLoop ltT a i j d).2.toList)):=by
 intro n
 induction n with
 | zero =>
  intro i j fuel d hn hf hi hi2 hj hB
  cases fuel with
  | zero=>omega
  | succ fuel =>
   have h:=hB i j d rfl hi hi2 hj
   have u:=(z3w (fun x=>ltT x d[a]!) d j _ i (Nat.le_refl _))
   have v:=z2d (fun x => !ltT x d[a]!) d (Sort.scanUp (fun x=>ltT x d[a]!) d j i) j
   rw [if_pos (by omega)] at h
   rw [z1l h,z7h,if_pos (by omega)]
   exact ⟨_,rfl⟩
 | succ n ih =>
  intro i j fuel d hn hf hi hi2 hj hB
  cases fuel with
  | zero=>omega
  | succ fuel =>
   have h:=hB i j d rfl hi hi2 hj
   have u:=(z3w (fun x=>ltT x d[a]!) d j _ i (Nat.le_refl _))
   have v:=z2d (fun x => !ltT x d[a]!) d (Sort.scanUp (fun x=>ltT x d[a]!) d j i) j
   rw [z7h]
   generalize Sort.scanUp (fun x=>ltT x d[a]!) d j i=i2 at *
   generalize Sort.scanDown (fun x => !ltT x d[a]!) d i2 j=j2 at *
   by_cases hc:i2 > j2
   ·rw [if_pos hc] at h
    rw [z1l h,if_pos hc]
    exact ⟨_,rfl⟩
   ·rw [if_neg hc] at h
    rw [z21 h,if_neg hc]
    exact ih _ _ _ _ (by omega) (by omega) (by omega) (by rw [z18]; omega) (by rw [z18]; omega) (fun i' j' d' h1 h2 h3 h4=>hB i' j' d' (by rw [h1,z18]) h2 (by rw [z18] at h3; exact h3) (by rw [z18] at h4; exact h4))
theorem zgj {B:Int × Int × List Time→Option (Ctl (Int × Int × List Time) Empty)} {a:Nat}:∀ (n i j fuel:Nat) (d:Array Time),j + 1 - i≤n→n < fuel→1≤i→i≤d.size→j < d.size →
  (∀ (i j:Nat) (d' : Array Time),d'.size=d.size→1≤i→i≤d.size→j < d.size→B ((i:Int),(j:Int),d'.toList) =
   if Sort.scanUp (fun x => !ltT d'[a]! x) d' j i > Sort.scanDown (fun x=>ltT d'[a]! x) d' (Sort.scanUp (fun x => !ltT d'[a]! x) d' j i) j
   then some (.brk (((Sort.scanUp (fun x => !ltT d'[a]! x) d' j i:Nat):Int),((Sort.scanDown (fun x=>ltT d'[a]! x) d' (Sort.scanUp (fun x => !ltT d'[a]! x) d' j i) j:Nat):Int),d'.toList))
   else some (.next (((Sort.scanUp (fun x => !ltT d'[a]! x) d' j i + 1:Nat):Int),((Sort.scanDown (fun x=>ltT d'[a]! x) d' (Sort.scanUp (fun x => !ltT d'[a]! x) d' j i) j - 1:Nat):Int),(Sort.swp d' (Sort.scanUp (fun x => !ltT d'[a]! x) d' j i) (Sort.scanDown (fun x=>ltT d'[a]! x) d' (Sort.scanUp (fun x => !ltT d'[a]! x) d' j i) j)).toList))) →
  ∃ x:Int,loopN B fuel ((i:Int),(j:Int),d.toList)=some (.done (((Sort.partEqLoop ltT a i j d).1:Int),x,(Sort.partEqLoop ltT a i j d).2.toList)):=by
 intro n
 induction n with
 | zero =>
  intro i j fuel d hn hf hi hi2 hj hB
  cases fuel with
  | zero=>omega
  | succ fuel =>
   have h:=hB i j d rfl hi hi2 hj
   have u:=(z3w (fun x => !ltT d[a]! x) d j _ i (Nat.le_refl _))
   have v:=z2d (fun x=>ltT d[a]! x) d (Sort.scanUp (fun x => !ltT d[a]! x) d j i) j
   rw [if_pos (by omega)] at h
   rw [z1l h,z6u,if_pos (by omega)]
   exact ⟨_,rfl⟩
 | succ n ih =>
  intro i j fuel d hn hf hi hi2 hj hB
  cases fuel with
  | zero=>omega
  | succ fuel =>
   have h:=hB i j d rfl hi hi2 hj
   have u:=(z3w (fun x => !ltT d[a]! x) d j _ i (Nat.le_refl _))
   have v:=z2d (fun x=>ltT d[a]! x) d (Sort.scanUp (fun x => !ltT d[a]! x) d j i) j
   rw [z6u]
   generalize Sort.scanUp (fun x => !ltT d[a]! x) d j i=i2 at *
   generalize Sort.scanDown (fun x=>ltT d[a]! x) d i2 j=j2 at *
   by_cases hc:i2 > j2
   ·rw [if_pos hc] at h
    rw [z1l h,if_pos hc]
    exact ⟨_,rfl⟩
   ·rw [if_neg hc] at h
    rw [z21 h,if_neg hc]
    exact ih _ _ _ _ (by omega) (by omega) (by omega) (by rw [z18]; omega) (by rw [z18]; omega) (fun i' j' d' h1 h2 h3 h4=>hB i' j' d' (by rw [h1,z18]) h2 (by rw [z18] at h3; exact h3) (by rw [z18] at h4; exact h4))
theorem zj8 {X Y Z R Q:Type} {o:Option (Out (X × Y × Z) R)} {kn:X × Y × Z→Option Q} {kr:R→Option Q} {y:Y} {z:Z} {q:Option Q} (h:∃ x:X,o=some (.done (x,y,z))) (hk:∀ x,kn (x,y,z)=q):outK o kn kr=q:=by
 obtain ⟨x,h⟩:=h
 rw [h]
 exact hk x
theorem zir {X Y Z R Q:Type} {o:Option (Out (X × Y × Z) R)} {kn:X × Y × Z→Option Q} {kr:R→Option Q} {x:X} {z:Z} {q:Option Q} (h:∃ y:Y,o=some (.done (x,y,z))) (hk:∀ y,kn (x,y,z)=q):outK o kn kr=q:=by
 obtain ⟨y,h⟩:=h
 rw [h]
 exact hk y
theorem zcm {fuel a b pivot:Nat} {d:Array Time} (hp:a≤pivot∧pivot < b) (hab:a + 1 < b) (hb:b≤d.size) (hd:d.size < 1152921504606846976) (hf:d.size + 2 < fuel) :
  z0w fuel (a:Int) (b:Int) (pivot:Int) d.toList=some (((Sort.partitionEqual ltT d a b pivot).1:Int),(Sort.partitionEqual ltT d a b pivot).2.toList):=by
 unfold z0w Sort.partitionEqual
 have w1:IntKind.i64.wrap ((a:Int) + 1)=((a + 1:Nat):Int):=wadd1 (by omega)
 have w2:IntKind.i64.wrap ((b:Int) - 1)=((b - 1:Nat):Int):=wsub1 (by omega) (by omega)
 rw [w1,w2]
 simp only [Int.toNat_natCast,Nat.zero_add,Array.length_toList,List.length_set,z1y,z3a]
 rw [z06 (by omega),z06 (by omega),z06 (by omega),z06 (by omega),z06 (by omega),z06 (by omega),z06 (by omega),z06 (by omega)]
 have hsz:=z18 d a pivot
 generalize Sort.swp d a pivot=d1 at *
 refine zir (zgj (a:=a) d1.size (a + 1) (b - 1) fuel d1 (by omega) (by omega) (by omega) (by omega) (by omega) ?_) (fun x=>rfl)
 intro i j e he hi hi2 hj
 simp only
 have u:=(z3w (fun x => !ltT e[a]! x) e j _ i (Nat.le_refl _))
 have v:=z2d (fun x=>ltT e[a]! x) e (Sort.scanUp (fun x => !ltT e[a]! x) e j i) j
 rw [z9z (R:=Empty) (fun i:Nat=>(i:Int)) (fun x => !ltT e[a]! x) e (j:=j) d1.size i fuel (by omega) (by omega) (fun k h1 h2 => ?_)]
 ·simp only [z4r]
  generalize Sort.scanUp (fun x => !ltT e[a]! x) e j i=i2 at *
  rw [z8k (R:=Empty) (fun i:Nat=>(i:Int)) (fun x=>ltT e[a]! x) e (i:=i2) (by omega) j fuel (by omega) (fun k h1 => ?_)]
  ·simp only [z4r,z0a,intlt,gt_iff_lt]
   generalize Sort.scanDown (fun x=>ltT e[a]! x) e i2 j=j2 at *
   by_cases hc:j2 < i2
   ·rw [if_pos hc,if_pos hc]
   ·rw [if_neg hc,if_neg hc]
    simp (disch:=omega) only [wsub1,wadd1,Int.toNat_natCast,Nat.zero_add,z06,Array.length_toList,List.length_set,z1y,z3a]
  ·simp only [jn_eq,z0a,intle]
   by_cases hc:i2≤k
   ·rw [if_pos hc]
    simp (disch:=omega) only [wsub1,Int.toNat_natCast,Nat.zero_add,z06,Array.length_toList,z28,Option.bind_some,z1y,z0a,hc,true_and]
    unfold ltT
    by_cases h:cmpT e[a]! e[k]! < 0
    ·simp [h]
    ·simp [h]
   ·rw [if_neg hc,if_neg (fun h=>hc h.1),z1h]
 ·simp only [jn_eq,z0a,intle]
  by_cases hc:k≤j
  ·rw [if_pos hc]
   simp (disch:=omega) only [wadd1,Int.toNat_natCast,Nat.zero_add,z06,Array.length_toList,z28,Option.bind_some,z1y,hc,true_and]
   unfold ltT
   by_cases h:cmpT e[a]! e[k]! < 0
   ·simp [h]
   ·simp [h]
  ·rw [if_neg hc,if_neg (fun h=>hc h.1),z1h]
theorem zfg {a:Nat}:∀ (n i j:Nat) (d:Array Time),j + 1 - i≤n→1≤i→i≤d.size→j < d.size→(Sort.partLoop ltT a i j d).1≤j∧(Sort.partLoop ltT a i j d).2.size=d.size:=by
 intro n
 induction n with
 | zero =>
  intro i j d hn hi hi2 hj
  have u:=(z3w (fun x=>ltT x d[a]!) d j _ i (Nat.le_refl _))
  have v:=z2d (fun x => !ltT x d[a]!) d (Sort.scanUp (fun x=>ltT x d[a]!) d j i) j
  rw [z7h,if_pos (by omega)]
  exact ⟨v,rfl⟩
 | succ n ih =>
  intro i j d hn hi hi2 hj
  have u:=(z3w (fun x=>ltT x d[a]!) d j _ i (Nat.le_refl _))
  have v:=z2d (fun x => !ltT x d[a]!) d (Sort.scanUp (fun x=>ltT x d[a]!) d j i) j
  rw [z7h]
  generalize Sort.scanUp (fun x=>ltT x d[a]!) d j i=i2 at *
  generalize Sort.scanDown (fun x => !ltT x d[a]!) d i2 j=j2 at *
  by_cases hc:i2 > j2
  ·rw [if_pos hc]; exact ⟨v,rfl⟩
  ·rw [if_neg hc]
   have:=ih (i2 + 1) (j2 - 1) (Sort.swp d i2 j2) (by omega) (by omega) (by rw [z18]; omega) (by rw [z18]; omega)
   rw [z18] at this
   omega
theorem zfp {fuel a b pivot:Nat} {d:Array Time} (hp:a≤pivot∧pivot < b) (hab:a + 1 < b) (hb:b≤d.size) (hd:d.size < 1152921504606846976) (hf:d.size + 2 < fuel) :
  z1f fuel (a:Int) (b:Int) (pivot:Int) d.toList=some (((Sort.partition ltT d a b pivot).1:Int),(Sort.partition ltT d a b pivot).2.1,(Sort.partition ltT d a b pivot).2.2.toList):=by
 unfold z1f Sort.partition
 have w1:IntKind.i64.wrap ((a:Int) + 1)=((a + 1:Nat):Int):=wadd1 (by omega)
 have w2:IntKind.i64.wrap ((b:Int) - 1)=((b - 1:Nat):Int):=wsub1 (by omega) (by omega)
 rw [w1,w2]
 simp only [Int.toNat_natCast,Nat.zero_add,Array.length_toList,List.length_set,z1y,z3a]
 rw [z06 (by omega),z06 (by omega),z06 (by omega),z06 (by omega),z06 (by omega),z06 (by omega),z06 (by omega),z06 (by omega)]
 have hsz:=z18 d a pivot
 generalize Sort.swp d a pivot=e at *
 have u:=(z3w (fun x=>ltT x e[a]!) e (b - 1) _ (a + 1) (Nat.le_refl _))
 have v:=z2d (fun x => !ltT x e[a]!) e (Sort.scanUp (fun x=>ltT x e[a]!) e (b - 1) (a + 1)) (b - 1)
 rw [z9z (R:=Empty) (fun i:Nat=>((i:Int),((b - 1:Nat):Int))) (fun x=>ltT x e[a]!) e (j:=b - 1) e.size (a + 1) fuel (by omega) (by omega) (fun k h1 h2 => ?_)]
 ·simp only [z4r]
  generalize Sort.scanUp (fun x=>ltT x e[a]!) e (b - 1) (a + 1)=i2 at *
  rw [z8k (R:=Empty) (fun i:Nat=>(i:Int)) (fun x => !ltT x e[a]!) e (i:=i2) (by omega) (b - 1) fuel (by omega) (fun k h1 => ?_)]
  ·simp only [z4r,z0a,intlt,gt_iff_lt]
   generalize Sort.scanDown (fun x => !ltT x e[a]!) e i2 (b - 1)=j2 at *
   by_cases hc:j2 < i2
   ·rw [if_pos hc,if_pos hc]
    simp (disch:=omega) only [Int.toNat_natCast,Nat.zero_add,z06,Array.length_toList,List.length_set,z1y,z3a]
   ·rw [if_neg hc,if_neg hc]
    have w3:IntKind.i64.wrap ((i2:Int) + 1)=((i2 + 1:Nat):Int):=wadd1 (by omega)
    have w4:IntKind.i64.wrap ((j2:Int) - 1)=((j2 - 1:Nat):Int):=wsub1 (by omega) (by omega)
    rw [w3,w4]
    simp only [Int.toNat_natCast,Nat.zero_add,Array.length_toList,List.length_set,z1y,z3a]
    rw [z06 (by omega),z06 (by omega),z06 (by omega),z06 (by omega),z06 (by omega),z06 (by omega),z06 (by omega),z06 (by omega)]
    have hsz2:=z18 e i2 j2
    generalize Sort.swp e i2 j2=f at *
    refine zj8 (zhs (a:=a) f.size (i2 + 1) (j2 - 1) fuel f (by omega) (by omega) (by omega) (by omega) (by omega) ?_) (fun x => ?_)
    ·intro i j g he hi hi2 hj
     simp only
     have u:=(z3w (fun x=>ltT x g[a]!) g j _ i (Nat.le_refl _))
     have v:=z2d (fun x => !ltT x g[a]!) g (Sort.scanUp (fun x=>ltT x g[a]!) g j i) j
     rw [z9z (R:=Empty) (fun i:Nat=>(i:Int)) (fun x=>ltT x g[a]!) g (j:=j) f.size i fuel (by omega) (by omega) (fun k h1 h2 => ?_)]
     ·simp only [z4r]
      generalize Sort.scanUp (fun x=>ltT x g[a]!) g j i=i3 at *
      rw [z8k (R:=Empty) (fun i:Nat=>(i:Int)) (fun x => !ltT x g[a]!) g (i:=i3) (by omega) j fuel (by omega) (fun k h1 => ?_)]
      ·simp only [z4r,z0a,intlt,gt_iff_lt]
       generalize Sort.scanDown (fun x => !ltT x g[a]!) g i3 j=j3 at *
       by_cases hc:j3 < i3
       ·rw [if_pos hc,if_pos hc]
       ·rw [if_neg hc,if_neg hc]
        simp (disch:=omega) only [wsub1,wadd1,Int.toNat_natCast,Nat.zero_add,z06,Array.length_toList,List.length_set,z1y,z3a]
      ·simp only [jn_eq,z0a,intle]
       by_cases hc:i3≤k
       ·rw [if_pos hc]
        simp (disch:=omega) only [wsub1,Int.toNat_natCast,Nat.zero_add,z06,Array.length_toList,z28,Option.bind_some,z1y,z0a,hc,true_and]
        unfold ltT
        by_cases h:cmpT g[k]! g[a]! < 0
        ·simp [h]
        ·simp [h]
       ·rw [if_neg hc,if_neg (fun h=>hc h.1),z1h]
     ·simp only [jn_eq,z0a,intle]
      by_cases hc:k≤j
      ·rw [if_pos hc]
       simp (disch:=omega) only [wadd1,Int.toNat_natCast,Nat.zero_add,z06,Array.length_toList,z28,Option.bind_some,z1y,hc,true_and]
       unfold ltT
       by_cases h:cmpT g[k]! g[a]! < 0
       ·simp [h]
       ·simp [h]
      ·rw [if_neg hc,if_neg (fun h=>hc h.1),z1h]
    ·have hl:=zfg (a:=a) f.size (i2 + 1) (j2 - 1) f (by omega) (by omega) (by omega) (by omega)
     generalize Sort.partLoop ltT a (i2 + 1) (j2 - 1) f=r at *
     simp (disch:=omega) only [Int.toNat_natCast,Nat.zero_add,z06,Array.length_toList,List.length_set,z1y,z3a]
  ·simp only [jn_eq,z0a,intle]
   by_cases hc:i2≤k
   ·rw [if_pos hc]
    simp (disch:=omega) only [wsub1,Int.toNat_natCast,Nat.zero_add,z06,Array.length_toList,z28,Option.bind_some,z1y,z0a,hc,true_and]
    unfold ltT
    by_cases h:cmpT e[k]! e[a]! < 0
    ·simp [h]
    ·simp [h]
   ·rw [if_neg hc,if_neg (fun h=>hc h.1),z1h]
 ·simp only [jn_eq,z0a,intle]
  by_cases hc:k≤b - 1
  ·rw [if_pos hc]
   simp (disch:=omega) only [wadd1,Int.toNat_natCast,Nat.zero_add,z06,Array.length_toList,z28,Option.bind_some,z1y,hc,true_and]
   unfold ltT
   by_cases h:cmpT e[k]! e[a]! < 0
   ·simp [h]
   ·simp [h]
  ·rw [if_neg hc,if_neg (fun h=>hc h.1),z1h]
end Go.Av
namespace Go.Av
open Go
set_option linter.unusedVariables false
set_option linter.unusedSimpArgs false
theorem z97:∀ (j:Nat) (d:Array Time),(Sort.shiftDown ltT j d).size=d.size
 | 0,d=>rfl
 | j + 1,d=>by
  unfold Sort.shiftDown
  split
  ·rfl
  ·rw [z97 j,z18]
theorem zeo {B:Int × List Time→Option (Ctl (Int × List Time) Empty)}:∀ (j fuel:Nat) (d:Array Time),j < fuel→j < d.size →
  (∀ (j:Nat) (d' : Array Time),d'.size=d.size→j < d.size→B ((j:Int),d'.toList)=if 1≤j∧ltT d'[j]! d'[j - 1]! = true then some (.next (((j - 1:Nat):Int),(Sort.swp d' j (j - 1)).toList)) else some (.brk ((j:Int),d'.toList))) →
  ∃ x:Int,loopN B fuel ((j:Int),d.toList)=some (.done (x,(Sort.shiftDown ltT j d).toList)):=by
 intro j
 induction j with
 | zero =>
  intro fuel d hf hj hB
  cases fuel with
  | zero=>omega
  | succ fuel =>
   have h:=hB 0 d rfl hj
   rw [if_neg (by omega)] at h
   rw [z1l h]
   exact ⟨_,rfl⟩
 | succ j ih =>
  intro fuel d hf hj hB
  cases fuel with
  | zero=>omega
  | succ fuel =>
   have h:=hB (j + 1) d rfl hj
   rw [Nat.add_sub_cancel] at h
   unfold Sort.shiftDown
   by_cases hc:ltT d[j + 1]! d[j]! = true
   ·rw [if_pos ⟨by omega,hc⟩] at h
    rw [z21 h,if_neg (by simp [hc])]
    exact ih fuel _ (by omega) (by rw [z18]; omega) (fun j' d' h1 h2=>hB j' d' (by rw [h1,z18]) (by rw [z18] at h2; exact h2))
   ·rw [if_neg (fun h=>hc h.2)] at h
    rw [z1l h,if_pos (by simpa using hc)]
    exact ⟨_,rfl⟩
theorem zhe (b:Nat):∀ (n j:Nat) (d:Array Time),b - j≤n→(Sort.shiftUp ltT b j d).size=d.size:=by
 intro n
 induction n with
 | zero=>intro j d hn; rw [Sort.shiftUp,if_neg (by omega)]
 | succ n ih =>
  intro j d hn
  rw [Sort.shiftUp]
  split
  ·split
   ·rfl
   ·rw [ih _ _ (by omega),z18]
  ·rfl
theorem zfq {B:Int × List Time→Option (Ctl (Int × List Time) Empty)} {b:Nat}:∀ (n j fuel:Nat) (d:Array Time),b - j≤n→n < fuel→1≤j→b≤d.size →
  (∀ (j:Nat) (d' : Array Time),d'.size=d.size→1≤j→B ((j:Int),d'.toList)=if j < b∧ltT d'[j]! d'[j - 1]! = true then some (.next (((j + 1:Nat):Int),(Sort.swp d' j (j - 1)).toList)) else some (.brk ((j:Int),d'.toList))) →
  ∃ x:Int,loopN B fuel ((j:Int),d.toList)=some (.done (x,(Sort.shiftUp ltT b j d).toList)):=by
 intro n
 induction n with
 | zero =>
  intro j fuel d hn hf hj hb hB
  cases fuel with
  | zero=>omega
  | succ fuel =>
   have h:=hB j d rfl hj
   rw [if_neg (by omega)] at h
   rw [z1l h,Sort.shiftUp,if_neg (by omega)]
   exact ⟨_,rfl⟩
 | succ n ih =>
  intro j fuel d hn hf hj hb hB
  cases fuel with
  | zero=>omega
  | succ fuel =>
   have h:=hB j d rfl hj
   rw [Sort.shiftUp]
   by_cases hjb:j < b
   ·rw [if_pos hjb]
    by_cases hc:ltT d[j]! d[j - 1]! = true
    ·rw [if_pos ⟨hjb,hc⟩] at h
     rw [z21 h,if_neg (by simp [hc])]
     exact ih _ fuel _ (by omega) (by omega) (by omega) (by rw [z18]; omega) (fun j' d' h1 h2=>hB j' d' (by rw [h1,z18]) h2)
    ·rw [if_neg (fun h=>hc h.2)] at h
     rw [z1l h,if_pos (by simpa using hc)]
     exact ⟨_,rfl⟩
   ·rw [if_neg (fun h=>hjb h.1)] at h
    rw [z1l h,if_neg hjb]
    exact ⟨_,rfl⟩
theorem z9x {B:Int→Option (Ctl Int Empty)} {b:Nat} {d:Array Time}:∀ (n i fuel:Nat),b - i≤n→n < fuel→1≤i →
  (∀ (i' : Nat),i≤i' → B (i' : Int)=if i' < b∧ltT d[i']! d[i' - 1]! = false then some (.next ((i' + 1:Nat):Int)) else some (.brk (i' : Int))) →
  loopN B fuel (i:Int)=some (.done ((Sort.scanSorted ltT d b i:Nat):Int))∧i≤Sort.scanSorted ltT d b i∧(i≤b→Sort.scanSorted ltT d b i≤b):=by
 intro n
 induction n with
 | zero =>
  intro i fuel hn hf hi hB
  cases fuel with
  | zero=>omega
  | succ fuel =>
   have h:=hB i (Nat.le_refl _)
   rw [if_neg (by omega)] at h
   rw [z1l h,Sort.scanSorted,if_neg (by simp; omega)]
   exact ⟨rfl,Nat.le_refl _,fun h=>h⟩
 | succ n ih =>
  intro i fuel hn hf hi hB
  cases fuel with
  | zero=>omega
  | succ fuel =>
   have h:=hB i (Nat.le_refl _)
   rw [Sort.scanSorted]
   by_cases hc:i < b∧ltT d[i]! d[i - 1]! = false
   ·rw [if_pos hc] at h
    rw [z21 h,if_pos (by simpa using hc)]
    obtain ⟨h1,h2,h3⟩:=ih (i + 1) fuel (by omega) (by omega) (by omega) (fun i' h=>hB i' (by omega))
    exact ⟨h1,by omega,fun h=>h3 (by omega)⟩
   ·rw [if_neg hc] at h
    rw [z1l h,if_neg (by simpa using hc)]
    exact ⟨rfl,Nat.le_refl _,fun h=>h⟩
def zag (a b i:Nat) (d:Array Time):Array Time :=
 let d:=Sort.swp d i (i - 1)
 let d:=if i - a ≥ 2 then Sort.shiftDown ltT (i - 1) d else d
 if b - i ≥ 2 then Sort.shiftUp ltT b (i + 1) d else d
theorem zb4 (a b i:Nat) (d:Array Time):(zag a b i d).size=d.size:=by
 unfold zag
 dsimp only
 split <;> split <;> simp [zhe b b _ _ (Nat.sub_le _ _),z97,z18]
theorem za7 (a b s i:Nat) (d:Array Time):Sort.partialIns ltT a b (s + 1) i d =
  if Sort.scanSorted ltT d b i=b then (d,true) else if b - a < 50 then (d,false) else Sort.partialIns ltT a b s (Sort.scanSorted ltT d b i) (zag a b (Sort.scanSorted ltT d b i) d):=rfl
theorem ziz {B:Int × Int × List Time→Option (Ctl (Int × Int × List Time) (Bool × List Time))} {a b:Nat} {Q:Type} {kn:Int × Int × List Time→Option Q} {kr:Bool × List Time→Option Q} {q:Option Q}:∀ (s i fuel:Nat) (d:Array Time),s≤5→s < fuel→a < i→i≤b →
  (∀ (i:Nat) (d' : Array Time),d'.size=d.size→a < i→i≤b→i≤Sort.scanSorted ltT d' b i∧Sort.scanSorted ltT d' b i≤b) →
  (∀ (s i:Nat) (d' : Array Time),d'.size=d.size→s≤5→a < i→i≤b→B ((i:Int),((5 - s:Nat):Int),d'.toList)=match s with
   | 0=>some (.brk ((i:Int),5,d'.toList))
   | s + 1=>if Sort.scanSorted ltT d' b i=b then some (.ret (true,d'.toList)) else if b - a < 50 then some (.ret (false,d'.toList)) else some (.next (((Sort.scanSorted ltT d' b i:Nat):Int),((5 - s:Nat):Int),(zag a b (Sort.scanSorted ltT d' b i) d').toList))) →
  (∀ x,(Sort.partialIns ltT a b s i d).2=false→kn (x,5,(Sort.partialIns ltT a b s i d).1.toList)=q)→(kr ((Sort.partialIns ltT a b s i d).2,(Sort.partialIns ltT a b s i d).1.toList)=q) →
  outK (loopN B fuel ((i:Int),((5 - s:Nat):Int),d.toList)) kn kr=q:=by
 intro s
 induction s with
 | zero =>
  intro i fuel d hs hf hi hib hsc hB hkn hkr
  cases fuel with
  | zero=>omega
  | succ fuel =>
   rw [z1l (hB 0 i d rfl hs hi hib)]
   exact hkn _ rfl
 | succ s ih =>
  intro i fuel d hs hf hi hib hsc hB hkn hkr
  cases fuel with
  | zero=>omega
  | succ fuel =>
   have h:=hB (s + 1) i d rfl hs hi hib
   simp only at h
   rw [za7] at hkn hkr
   have hb:=hsc i d rfl hi hib
   by_cases h1:Sort.scanSorted ltT d b i=b
   ·rw [if_pos h1] at h
    rw [z7d h]
    rw [if_pos h1] at hkr
    exact hkr
   ·rw [if_neg h1] at h hkn hkr
    by_cases h2:b - a < 50
    ·rw [if_pos h2] at h
     rw [z7d h]
     rw [if_pos h2] at hkr
     exact hkr
    ·rw [if_neg h2] at h hkn hkr
     rw [z21 h]
     exact ih _ fuel _ (by omega) (by omega) (by omega) (by omega) (fun i' d' h1 h2 h3=>hsc i' d' (by rw [h1,zb4]) h2 h3) (fun s' i' d' h1 h2 h3 h4=>hB s' i' d' (by rw [h1,zb4]) h2 h3 h4) hkn hkr
theorem z9l {fuel a b:Nat} {d:Array Time} (hab:a < b) (hb:b≤d.size) (hd:d.size < 1152921504606846976) (hf:d.size + 10 < fuel) :
  z0j fuel (a:Int) (b:Int) d.toList=some ((Sort.partialInsertionSort ltT d a b).2,(Sort.partialInsertionSort ltT d a b).1.toList):=by
 unfold z0j Sort.partialInsertionSort
 rw [wadd1 (by omega)]
 refine ziz (a:=a) (b:=b) 5 (a + 1) fuel d (by omega) (by omega) (by omega) (by omega) ?_ ?_ (fun x h=>by rw [h]) rfl
 ·intro i e he h1 h2
  have:=(z9x (B:=fun x=>if x.toNat < b∧ltT e[x.toNat]! e[x.toNat - 1]! = false then some (.next ((x.toNat + 1:Nat):Int)) else some (.brk (x.toNat:Int))) (b:=b) (d:=e) b i (b + 1) (by omega) (by omega) (by omega) (fun i' h=>by simp only [Int.toNat_natCast]))
  exact ⟨this.2.1,this.2.2 h2⟩
 ·intro s i e he hs hi hib
  cases s with
  | zero=>rfl
  | succ s =>
   simp only [z0a,jn_eq]
   rw [if_pos (show ((5 - (s + 1):Nat):Int) < 5 by omega)]
   obtain ⟨g1,g2,g3⟩:=z9x (B:=fun (a5:Int)=>if (a5 < (b:Int)) then (need ((0:Int)≤a5∧a5 < (e.toList.length:Int)) <| need ((0 + a5.toNat) < e.toList.length) <| need ((0:Int)≤(IntKind.i64.wrap (a5 - 1))∧(IntKind.i64.wrap (a5 - 1)) < (e.toList.length:Int)) <| need ((0 + (IntKind.i64.wrap (a5 - 1)).toNat) < e.toList.length) <| (z0v (e.toList.getD (0 + a5.toNat) default) (e.toList.getD (0 + (IntKind.i64.wrap (a5 - 1)).toNat) default)).bind fun r54=>bf (!(decide (r54 < 0))) (some (.next (IntKind.i64.wrap (a5 + 1)))) (some (.brk a5))) else (bf false (some (.next (IntKind.i64.wrap (a5 + 1)))) (some (.brk a5)))) (b:=b) (d:=e) b i fuel (by omega) (by omega) (by omega) (fun k hk=>by
    simp only [jn_eq,intlt]
    by_cases hc:k < b
    ·rw [if_pos hc]
     simp (disch:=omega) only [wsub1,wadd1,Int.toNat_natCast,Nat.zero_add,z06,Array.length_toList,z28,Option.bind_some,z1y,hc,true_and]
     unfold ltT
     by_cases h:cmpT e[k]! e[k - 1]! < 0
     ·simp [h]
     ·simp [h]
    ·rw [if_neg hc,if_neg (fun h=>hc h.1),z1h])
   rw [g1]
   simp only [z4r]
   have g3:=g3 hib
   generalize Sort.scanSorted ltT e b i=i2 at *
   by_cases h1:i2=b
   ·rw [if_pos h1,if_pos (by omega)]
   ·rw [if_neg h1,if_neg (by omega),wsub (by omega) (by omega)]
    by_cases h2:b - a < 50
    ·rw [if_pos h2,if_pos (by omega)]
    ·rw [if_neg h2,if_neg (by omega)]
     have w1:IntKind.i64.wrap ((i2:Int) + 1)=((i2 + 1:Nat):Int):=wadd1 (by omega)
     have w2:IntKind.i64.wrap ((i2:Int) - 1)=((i2 - 1:Nat):Int):=wsub1 (by omega) (by omega)
     have w3:IntKind.i64.wrap ((i2:Int) - (a:Int))=((i2 - a:Nat):Int):=wsub (by omega) (by omega)
     have w4:IntKind.i64.wrap ((b:Int) - (i2:Int))=((b - i2:Nat):Int):=wsub (by omega) (by omega)
     have w5:IntKind.i64.wrap (((5 - (s + 1):Nat):Int) + 1)=((5 - s:Nat):Int):=by rw [wadd1 (by omega)]; omega
     simp only [w1,w2,w3,w4,w5,Int.toNat_natCast,Nat.zero_add,Array.length_toList,List.length_set,z1y,z3a,jn_eq]
     rw [z06 (by omega),z06 (by omega),z06 (by omega),z06 (by omega),z06 (by omega),z06 (by omega),z06 (by omega),z06 (by omega)]
     unfold zag
     dsimp only
     have hsz:=z18 e i2 (i2 - 1)
     generalize Sort.swp e i2 (i2 - 1)=f at *
     have up:∀ g:Array Time,g.size=e.size→(if (2:Int)≤((b - i2:Nat):Int) then (outK (loopN (S:=Int × (List Time)) (R:=Empty) (fun (a17:Int × (List Time))=>if (a17.1 < (b:Int)) then (need ((0:Int)≤a17.1∧a17.1 < (a17.2.length:Int)) <| need (a17.1.toNat < a17.2.length) <| need ((0:Int)≤(IntKind.i64.wrap (a17.1 - 1))∧(IntKind.i64.wrap (a17.1 - 1)) < (a17.2.length:Int)) <| need ((IntKind.i64.wrap (a17.1 - 1)).toNat < a17.2.length) <| (z0v (a17.2.getD a17.1.toNat default) (a17.2.getD (IntKind.i64.wrap (a17.1 - 1)).toNat default)).bind fun r23=>bf (!(decide (r23 < 0))) (some (.brk (a17.1,a17.2))) (need ((0:Int)≤(IntKind.i64.wrap (a17.1 - 1))∧(IntKind.i64.wrap (a17.1 - 1)) < (a17.2.length:Int)) <| need ((IntKind.i64.wrap (a17.1 - 1)).toNat < a17.2.length) <| need ((0:Int)≤a17.1∧a17.1 < (a17.2.length:Int)) <| need (a17.1.toNat < a17.2.length) <| need ((0:Int)≤a17.1∧a17.1 < (a17.2.length:Int)) <| need (a17.1.toNat < a17.2.length) <| need ((0:Int)≤(IntKind.i64.wrap (a17.1 - 1))∧(IntKind.i64.wrap (a17.1 - 1)) < (a17.2.length:Int)) <| need ((IntKind.i64.wrap (a17.1 - 1)).toNat < a17.2.length) <| some (.next ((IntKind.i64.wrap (a17.1 + 1)),((a17.2.set a17.1.toNat (a17.2.getD (IntKind.i64.wrap (a17.1 - 1)).toNat default)).set (IntKind.i64.wrap (a17.1 - 1)).toNat (a17.2.getD a17.1.toNat default)))))) else (some (.brk (a17.1,a17.2)))) fuel (((i2 + 1:Nat):Int),g.toList)) (fun (a18:Int × (List Time))=>some (Ctl.next ((i2:Int),((5 - s:Nat):Int),a18.2))) (fun (x:Empty)=>x.elim)) else some (Ctl.next ((i2:Int),((5 - s:Nat):Int),g.toList)))=(some (Ctl.next ((i2:Int),((5 - s:Nat):Int),(if b - i2 ≥ 2 then Sort.shiftUp ltT b (i2 + 1) g else g).toList)):Option (Ctl (Int × Int × List Time) (Bool × List Time))):=fun g hg=>by
      by_cases h3:b - i2 ≥ 2
      ·rw [if_pos h3,if_pos (by omega)]
       refine z8x (zfq (b:=b) b (i2 + 1) fuel g (by omega) (by omega) (by omega) (by omega) ?_) (fun x=>rfl)
       intro j g' hg' hj
       simp only [intlt]
       by_cases hc:j < b
       ·rw [if_pos hc]
        simp (disch:=omega) only [wsub1,wadd1,Int.toNat_natCast,Nat.zero_add,z06,Array.length_toList,List.length_set,z28,Option.bind_some,z1y,z3a,hc,true_and]
        unfold ltT
        by_cases h:cmpT g'[j]! g'[j - 1]! < 0
        ·simp [h]
        ·simp [h]
       ·rw [if_neg hc,if_neg (fun h=>hc h.1)]
      ·rw [if_neg h3,if_neg (by omega)]
     by_cases h4:i2 - a ≥ 2
     ·rw [if_pos h4,if_pos (by omega)]
      refine z8x (zeo (i2 - 1) fuel f (by omega) (by omega) ?_) (fun x => ?_)
      ·intro j g' hg' hj
       by_cases hc:1≤j
       ·simp only [show ((1:Int)≤(j:Int))=True from eq_true (by omega),if_true]
        simp (disch:=omega) only [wsub1,wadd1,Int.toNat_natCast,Nat.zero_add,z06,Array.length_toList,List.length_set,z28,Option.bind_some,z1y,z3a,hc,true_and]
        unfold ltT
        by_cases h:cmpT g'[j]! g'[j - 1]! < 0
        ·simp [h]
        ·simp [h]
       ·rw [if_neg (by simp only; omega),if_neg (fun h=>hc h.1)]
      ·exact up (Sort.shiftDown ltT (i2 - 1) f) (by rw [z97]; omega)
     ·rw [if_neg h4,if_neg (by omega)]
      exact up f (by omega)
end Go.Av
namespace Go.Av
open Go
set_option linter.unusedVariables false
set_option linter.unusedSimpArgs false
theorem zjl:∀ x:Fin 256,∃ l:Fin 9,bt z2o (x.val:Int)=(l.val:Int)∧x.val < 2 ^ l.val∧(x.val=0→l.val=0)∧(x.val ≠ 0→2 ^ (l.val - 1)≤x.val∧0 < l.val):=by decide +kernel
def IsLen (n L:Nat):Prop:=n < 2 ^ L∧(n=0→L=0)∧(n ≠ 0→2 ^ (L - 1)≤n∧0 < L)
theorem IsLen.shift {n L s:Nat} (h:IsLen (n / 2 ^ s) L) (hn:2 ^ s≤n):IsLen n (L + s):=by
 obtain ⟨h1,h2,h3⟩:=h
 have hp:0 < 2 ^ s:=Nat.pow_pos (by decide)
 have hq:n / 2 ^ s ≠ 0:=Nat.ne_of_gt (Nat.div_pos hn hp)
 obtain ⟨h4,h5⟩:=h3 hq
 refine ⟨?_,fun h=>by omega,fun _=>⟨?_,by omega⟩⟩
 ·rw [Nat.pow_add]
  exact (Nat.div_lt_iff_lt_mul hp).1 h1
 ·rw [show L + s - 1=(L - 1) + s by omega,Nat.pow_add]
  exact (Nat.le_div_iff_mul_le hp).1 h4
theorem ziw {n:Nat} (h:n < 2 ^ 64):∃ L:Nat,z5k (n:Int)=some (L:Int)∧IsLen n L∧L≤64:=by
 have last:∀ (x b:Nat),x < 256→b≤56→∃ L:Nat,(need ((0:Int)≤(IntKind.u8.wrap (x:Int))∧(IntKind.u8.wrap (x:Int)) < (z2o.size:Int)) <| some (IntKind.i64.wrap ((b:Int) + (IntKind.i64.wrap (bt z2o (IntKind.u8.wrap (x:Int)))))))=some ((L + b:Nat):Int)∧IsLen x L∧L≤8:=fun x b hx hb=>by
  obtain ⟨l,h1,h2,h3,h4⟩:=zjl ⟨x,hx⟩
  have e:IntKind.u8.wrap (x:Int)=(x:Int):=uwrap (k:=.u8) rfl hx
  have hsz:z2o.size=256:=by decide +kernel
  rw [e,hsz,z06 (by omega),h1]
  have hl:=l.isLt
  refine ⟨l.val,?_,⟨h2,h3,h4⟩,by omega⟩
  rw [z1q (n:=(l.val:Int)) (by omega) (by omega),z1q (by omega) (by omega)]
  exact congrArg some (by omega)
 have s8:∀ x:Nat,shrOp .u64 (x:Int) 8=((x / 2 ^ 8:Nat):Int):=fun x=>zal .u64 x 8 (by decide)
 have s16:∀ x:Nat,shrOp .u64 (x:Int) 16=((x / 2 ^ 16:Nat):Int):=fun x=>zal .u64 x 16 (by decide)
 have s32:∀ x:Nat,shrOp .u64 (x:Int) 32=((x / 2 ^ 32:Nat):Int):=fun x=>zal .u64 x 32 (by decide)
 have p8:∀ (x b:Nat),x < 65536→b≤48→∃ L:Nat,bf (decide (256≤(x:Int))) (need ((0:Int)≤(IntKind.u8.wrap (shrOp .u64 (x:Int) 8))∧(IntKind.u8.wrap (shrOp .u64 (x:Int) 8)) < (z2o.size:Int)) <| some (IntKind.i64.wrap ((IntKind.i64.wrap ((b:Int) + 8)) + (IntKind.i64.wrap (bt z2o (IntKind.u8.wrap (shrOp .u64 (x:Int) 8))))))) (need ((0:Int)≤(IntKind.u8.wrap (x:Int))∧(IntKind.u8.wrap (x:Int)) < (z2o.size:Int)) <| some (IntKind.i64.wrap ((b:Int) + (IntKind.i64.wrap (bt z2o (IntKind.u8.wrap (x:Int)))))))=some ((L + b:Nat):Int)∧IsLen x L∧L≤16:=fun x b hx hb=>by
  rw [z0a]
  by_cases h1:256≤(x:Int)
  ·rw [if_pos h1,s8,z1q (n:=(b:Int) + 8) (by omega) (by omega)]
   obtain ⟨L,g1,g2,g3⟩:=last (x / 2 ^ 8) (b + 8) (by omega) (by omega)
   rw [show ((b + 8:Nat):Int)=(b:Int) + 8 by omega] at g1
   refine ⟨L + 8,?_,g2.shift (by omega),by omega⟩
   exact g1.trans (congrArg some (by omega))
  ·rw [if_neg h1]
   obtain ⟨L,g1,g2,g3⟩:=last x b (by omega) (by omega)
   exact ⟨L,g1,g2,by omega⟩
 unfold z5k
 simp only [jn_eq]
 by_cases h1:4294967296≤(n:Int)
 ·rw [z0a,if_pos h1,s32,z0a]
  by_cases h2:65536≤((n / 2 ^ 32:Nat):Int)
  ·rw [if_pos h2,s16,show IntKind.i64.wrap (32 + 16)=((48:Nat):Int) from by decide]
   obtain ⟨L,g1,g2,g3⟩:=p8 (n / 2 ^ 32 / 2 ^ 16) 48 (by omega) (by omega)
   refine ⟨L + 48,g1,?_,by omega⟩
   have:=(g2.shift (by omega)).shift (n:=n) (s:=32) (by omega)
   rw [Nat.add_assoc] at this
   exact this
  ·rw [if_neg h2]
   obtain ⟨L,g1,g2,g3⟩:=p8 (n / 2 ^ 32) 32 (by omega) (by omega)
   exact ⟨L + 32,g1,g2.shift (by omega),by omega⟩
 ·rw [z0a,if_neg h1,z0a]
  by_cases h2:65536≤(n:Int)
  ·rw [if_pos h2,s16,show IntKind.i64.wrap (0 + 16)=((16:Nat):Int) from by decide]
   obtain ⟨L,g1,g2,g3⟩:=p8 (n / 2 ^ 16) 16 (by omega) (by omega)
   exact ⟨L + 16,g1,g2.shift (by omega),by omega⟩
  ·rw [if_neg h2]
   obtain ⟨L,g1,g2,g3⟩:=p8 n 0 (by omega) (by omega)
   exact ⟨L,by rw [show ((0:Nat):Int)=0 from rfl] at g1; exact g1,g2,by omega⟩
theorem ziy {n L K:Nat} (h:IsLen n L) (g:IsLen n K):L=K:=by
 obtain ⟨h1,h2,h3⟩:=h
 obtain ⟨g1,g2,g3⟩:=g
 by_cases h0:n=0
 ·rw [h2 h0,g2 h0]
 ·obtain ⟨h4,h5⟩:=h3 h0
  obtain ⟨g4,g5⟩:=g3 h0
  rcases Nat.lt_trichotomy L K with e | e | e
  ·have:=Nat.pow_le_pow_right (n:=2) (by decide) (show L≤K - 1 by omega); omega
  ·exact e
  ·have:=Nat.pow_le_pow_right (n:=2) (by decide) (show K≤L - 1 by omega); omega
theorem zhd (n:Nat):IsLen n (Sort.bitsLen n):=by
 refine ⟨Sort.lt_two_pow_bitsLen n,fun h=>by rw [h]; rfl,fun h => ?_⟩
 have hp:0 < Sort.bitsLen n:=by unfold Sort.bitsLen; rw [if_neg h]; omega
 refine ⟨?_,hp⟩
 have:=mt (Sort.bitsLen_le_iff n (Sort.bitsLen n - 1)).2 (by omega)
 omega
theorem ze2 {n k:Nat} (h:n < 2 ^ k):Sort.bitsLen n≤k:=(Sort.bitsLen_le_iff n k).2 h
theorem zig {n:Nat} (h:n < 2 ^ 64):z58 (n:Int)=some ((Sort.bitsLen n:Nat):Int):=by
 unfold z58
 have e:IntKind.u64.wrap (n:Int)=(n:Int):=uwrap (k:=.u64) rfl h
 obtain ⟨L,e1,e2,_⟩:=ziw h
 rw [show Sort.bitsLen n=L from ziy (zhd n) e2]
 first
  | rw [e,e1]; rfl
  | (rw [e1]; rfl)
end Go.Av
namespace Go.Av
open Go
set_option linter.unusedVariables false
set_option linter.unusedSimpArgs false
theorem zjt {x:Nat} (h:x < 2 ^ 64):z3c (x:Int)=some (((Sort.xorNextN x:Nat):Int),((Sort.xorNextN x:Nat):Int)):=by
 unfold z3c
 have s13:∀ y:Nat,shlOp .u64 (y:Int) 13=((y * 8192 % 18446744073709551616:Nat):Int):=fun y=>by
  have:=zek (k:=.u64) y 13 (by decide)
  rw [show ((13:Nat):Int)=13 from rfl] at this
  rw [this,zb2]; omega
 have s17:∀ y:Nat,shlOp .u64 (y:Int) 17=((y * 131072 % 18446744073709551616:Nat):Int):=fun y=>by
  have:=zek (k:=.u64) y 17 (by decide)
  rw [show ((17:Nat):Int)=17 from rfl] at this
  rw [this,zb2]; omega
 have s7:∀ y:Nat,shrOp .u64 (y:Int) 7=((y / 128:Nat):Int):=fun y=>zal .u64 y 7 (by decide)
 have ha:x ^^^ (x * 8192 % 18446744073709551616) < 2 ^ 64:=Nat.xor_lt_two_pow h (by omega)
 have hb:(x ^^^ (x * 8192 % 18446744073709551616)) ^^^ ((x ^^^ (x * 8192 % 18446744073709551616)) / 128) < 2 ^ 64:=Nat.xor_lt_two_pow ha (by omega)
 rw [s13,zel (k:=.u64) rfl h (show x * 8192 % 18446744073709551616 < 2 ^ 64 by omega),s7,zel (k:=.u64) rfl ha (show (x ^^^ (x * 8192 % 18446744073709551616)) / 128 < 2 ^ 64 by omega),s17,zel (k:=.u64) rfl hb (show ((x ^^^ (x * 8192 % 18446744073709551616)) ^^^ ((x ^^^ (x * 8192 % 18446744073709551616)) / 128)) * 131072 % 18446744073709551616 < 2 ^ 64 by omega)]
 rfl
theorem zbv (a l m:Nat) (st:UInt64 × Array Time) (i:Nat):(Sort.breakStep a l m st i).2.size=st.2.size:=by
 unfold Sort.breakStep
 exact z18 _ _ _
theorem zhi {l:Nat} (h:l < 1152921504606846976):Sort.bitsLen l≤60:=ze2 h
theorem zhh {B:Int × Int × Int × List Time→Option (Ctl (Int × Int × Int × List Time) Empty)} {a b l M fuel K:Nat} {d:Array Time} {r0:UInt64} {n0:Nat} (h0:r0.toNat=n0) {Q:Type} {kn:Int × Int × Int × List Time→Option Q} {kr:Empty→Option Q} {q:Option Q} (hf:4 < fuel) (hK0:1≤K) (hK:a≤K - 1) (hK2:K + 1 < b) (hb:b≤d.size)
  (hB:∀ (k:Nat) (r:UInt64) (e:Array Time),e.size=d.size→a≤k→k≤K + 1→k < b→B ((n0:Int),(k:Int),(r.toNat:Int),e.toList)=some (.next ((n0:Int),((k + 1:Nat):Int),((Sort.breakStep a l M (r,e) k).1.toNat:Int),(Sort.breakStep a l M (r,e) k).2.toList)))
  (hE:∀ (r:UInt64) (e:Array Time),B ((n0:Int),((K + 2:Nat):Int),(r.toNat:Int),e.toList)=some (.brk ((n0:Int),((K + 2:Nat):Int),(r.toNat:Int),e.toList)))
  (hk:∀ x y z,kn (x,y,z,(Sort.breakStep a l M (Sort.breakStep a l M (Sort.breakStep a l M (r0,d) (K - 1)) (K - 1 + 1)) (K - 1 + 2)).2.toList)=q) :
  outK (loopN B fuel ((n0:Int),((K - 1:Nat):Int),(n0:Int),d.toList)) kn kr=q:=by
 subst h0
 obtain ⟨f,rfl⟩:∃ f,fuel=f + 1 + 1 + 1 + 1:=⟨fuel - 4,by omega⟩
 have s1:=zbv a l M (r0,d) (K - 1)
 have s2:=zbv a l M (Sort.breakStep a l M (r0,d) (K - 1)) (K - 1 + 1)
 have h1:=hB (K - 1) r0 d rfl (by omega) (by omega) (by omega)
 have h2:=hB (K - 1 + 1) (Sort.breakStep a l M (r0,d) (K - 1)).1 (Sort.breakStep a l M (r0,d) (K - 1)).2 s1 (by omega) (by omega) (by omega)
 have h3:=hB (K - 1 + 1 + 1) (Sort.breakStep a l M (Sort.breakStep a l M (r0,d) (K - 1)) (K - 1 + 1)).1 (Sort.breakStep a l M (Sort.breakStep a l M (r0,d) (K - 1)) (K - 1 + 1)).2 (s2.trans s1) (by omega) (by omega) (by omega)
 rw [z21 h1,z21 h2,z21 h3,show K - 1 + 1 + 1 + 1=K + 2 by omega,z1l (hE _ _)]
 exact hk _ _ _
theorem zd2 {fuel a b:Nat} {d:Array Time} (hab:a < b) (hb:b≤d.size) (hd:d.size < 1152921504606846976) (hf:4 < fuel) :
  z0y fuel (a:Int) (b:Int) d.toList=some (Sort.breakPatterns d a b).toList:=by
 unfold z0y Sort.breakPatterns
 have e0:IntKind.i64.wrap ((b:Int) - (a:Int))=((b - a:Nat):Int):=wsub (by omega) (by omega)
 simp only [e0,z0a]
 by_cases h8:b - a ≥ 8
 ·rw [if_pos h8,if_pos (by omega)]
  have hL:=zhi (l:=b - a) (by omega)
  have hLl:=Sort.lt_two_pow_bitsLen (b - a)
  have hLu:=Sort.two_pow_bitsLen_le (n:=b - a) (by omega)
  have hp:2 ^ Sort.bitsLen (b - a)≤2 ^ 60:=Nat.pow_le_pow_right (by decide) hL
  have hm:z3l ((b - a:Nat):Int)=some ((2 ^ Sort.bitsLen (b - a):Nat):Int):=by
   unfold z3l
   have e:IntKind.u64.wrap ((b - a:Nat):Int)=((b - a:Nat):Int):=uwrap (k:=.u64) rfl (show b - a < 2 ^ 64 by omega)
   rw [e,zig (by omega),Option.bind_some,z06 (by omega)]
   have:=zek (k:=.u64) 1 (Sort.bitsLen (b - a)) (by show Sort.bitsLen (b - a)≤64; omega)
   rw [show ((1:Nat):Int)=1 from rfl,Nat.one_mul] at this
   rw [this,uwrap (k:=.u64) rfl (show 2 ^ Sort.bitsLen (b - a) < 2 ^ 64 by omega)]
  rw [hm,Option.bind_some,Nat.one_shiftLeft]
  generalize 2 ^ Sort.bitsLen (b - a)=M at *
  have e1:IntKind.i64.wrap (((b - a:Nat):Int).tdiv 4)=(((b - a) / 4:Nat):Int):=by rw [Int.tdiv_eq_ediv_of_nonneg (by omega),z1q (by omega) (by omega)]; omega
  have e2:IntKind.i64.wrap ((((b - a) / 4:Nat):Int) * 2)=(((b - a) / 4 * 2:Nat):Int):=by rw [z1q (by omega) (by omega)]; omega
  have e3:IntKind.i64.wrap ((a:Int) + (((b - a) / 4 * 2:Nat):Int))=((a + (b - a) / 4 * 2:Nat):Int):=wadd (by omega)
  have e4:IntKind.i64.wrap (((a + (b - a) / 4 * 2:Nat):Int) - 1)=((a + (b - a) / 4 * 2 - 1:Nat):Int):=wsub1 (by omega) (by omega)
  have e5:IntKind.i64.wrap (((a + (b - a) / 4 * 2:Nat):Int) + 1)=((a + (b - a) / 4 * 2 + 1:Nat):Int):=wadd1 (by omega)
  have e6:IntKind.i64.wrap ((b - a:Nat):Int)=((b - a:Nat):Int):=z72 (by unfold in64; omega)
  have e7:IntKind.u64.wrap ((b - a:Nat):Int)=((b - a:Nat):Int):=uwrap (k:=.u64) rfl (show b - a < 2 ^ 64 by omega)
  have e8:IntKind.u64.wrap ((M:Int) - 1)=((M - 1:Nat):Int):=by rw [zb2]; omega
  simp only [e1,e2,e3,e4,e7,e8,jn_eq]
  have hr0:(UInt64.ofNat (b - a)).toNat=b - a:=by rw [UInt64.toNat_ofNat']; omega
  refine zhh (r0:=UInt64.ofNat (b - a)) (n0:=b - a) hr0 (a:=a) (l:=(b - a)) (M:=M) (b:=b) (K:=a + (b - a) / 4 * 2) hf (by omega) (by omega) (by omega) hb ?_ ?_ (fun x y z=>by dsimp only)
  ·intro k r e he hk1 hk2 hk3
   simp only
   rw [if_pos (show (k:Int)≤_ by rw [e1,e2,e3,e5]; omega)]
   have hr:=UInt64.toNat_lt r
   rw [zjt (by omega),Option.bind_some]
   unfold Sort.breakStep
   dsimp only
   rw [Sort.xorNext_toNat]
   have hx:=Sort.xorNextN_lt r.toNat (by omega)
   have ea:z0i .and .u64 ((Sort.xorNextN r.toNat:Nat):Int) ((M - 1:Nat):Int)=((Sort.xorNextN r.toNat &&& (M - 1):Nat):Int):=zjx (k:=.u64) rfl (show _ < 2 ^ 64 by omega) (show M - 1 < 2 ^ 64 by omega)
   have hal:Sort.xorNextN r.toNat &&& (M - 1)≤M - 1:=Nat.and_le_right
   rw [ea]
   generalize Sort.xorNextN r.toNat &&& (M - 1)=o at *
   have eo:IntKind.i64.wrap (o:Int)=(o:Int):=z72 (by unfold in64; omega)
   rw [eo]
   have w1:IntKind.i64.wrap ((k:Int) + 1)=((k + 1:Nat):Int):=wadd1 (by omega)
   by_cases ho:o ≥ b - a
   ·have w2:IntKind.i64.wrap ((o:Int) - ((b - a:Nat):Int))=((o - (b - a):Nat):Int):=wsub (by omega) (by omega)
    have w3:IntKind.i64.wrap ((a:Int) + ((o - (b - a):Nat):Int))=((a + (o - (b - a)):Nat):Int):=wadd (by omega)
    rw [if_pos ho,if_pos (by omega),w1,w2,w3]
    simp (disch:=omega) only [Int.toNat_natCast,Nat.zero_add,z06,Array.length_toList,List.length_set,z1y,z3a]
   ·have w3:IntKind.i64.wrap ((a:Int) + (o:Int))=((a + o:Nat):Int):=wadd (by omega)
    rw [if_neg ho,if_neg (by omega),w1,w3]
    simp (disch:=omega) only [Int.toNat_natCast,Nat.zero_add,z06,Array.length_toList,List.length_set,z1y,z3a]
  ·intro r e
   simp only
   rw [if_neg (show ¬ ((a + (b - a) / 4 * 2 + 2:Nat):Int)≤_ by rw [e1,e2,e3,e5]; omega)]
 ·rw [if_neg h8,if_neg (by omega)]
end Go.Av
namespace Go.Av
open Go
set_option linter.unusedVariables false
set_option linter.unusedSimpArgs false
abbrev PdqS:=Int × Int × Int × Bool × Bool × (List Time)
def pK12 (fuel : Nat) (a b : Int) (lim len : Int) (pivot : Int) (wb wp : Bool) (l : List Time) (x : Bool) : Option (Ctl PdqS (List Time)) :=
  bf x ((                                         z0w fuel a b pivot l).bind fun r14 => need (r14.2.length = l.length) <| some (.next (r14.1, b, lim, wb, wp, r14.2)))
    ((                                    z1f fuel a b pivot l).bind fun r16 => need (r16.2.2.length = l.length) <| bf (decide ((IntKind.i64.wrap (r16.1 - a)) < (IntKind.i64.wrap (b - r16.1))))
      ((                                  z0h fuel a r16.1 lim r16.2.2).bind fun r18 => need (r18.length = r16.2.2.length) <| some (.next ((IntKind.i64.wrap (r16.1 + 1)), b, lim, (decide ((IntKind.i64.wrap (len.tdiv 8)) ≤ (IntKind.i64.wrap (r16.1 - a)))), r16.2.1, r18)))
      ((                                  z0h fuel (IntKind.i64.wrap (r16.1 + 1)) b lim r16.2.2).bind fun r20 => need (r20.length = r16.2.2.length) <| some (.next (a, r16.1, lim, (decide ((IntKind.i64.wrap (len.tdiv 8)) ≤ (IntKind.i64.wrap (b - r16.1)))), r16.2.1, r20))))
def pK10 (fuel:Nat) (a b:Int) (lim len:Int) (pivot:Int) (wb wp:Bool) (l:List Time):Option (Ctl PdqS (List Time)) :=
 jn (fun (a12:Bool)=>pK12 fuel a b lim len pivot wb wp l a12) fun j13=>bf (decide (0 < a)) (need ((0:Int)≤(IntKind.i64.wrap (a - 1))∧(IntKind.i64.wrap (a - 1)) < (l.length:Int)) <| need ((0 + (IntKind.i64.wrap (a - 1)).toNat) < l.length) <| need ((0:Int)≤pivot∧pivot < (l.length:Int)) <| need ((0 + pivot.toNat) < l.length) <| (z0v (l.getD (0 + (IntKind.i64.wrap (a - 1)).toNat) default) (l.getD (0 + pivot.toNat) default)).bind fun r27=>j13 (!(decide (r27 < 0)))) (j13 false)
def pK8 (fuel:Nat) (a b:Int) (lim len:Int) (wb wp:Bool) (pivot hint:Int) (l:List Time):Option (Ctl PdqS (List Time)) :=
 jn (fun (a10:Bool × Bool × (List Time))=>pK10 fuel a b lim len pivot a10.1 a10.2.1 a10.2.2) fun j11=>jn (fun (a28:Bool × Bool × Bool)=>bf a28.2.2 ((z0j fuel a b l).bind fun r30=>need (r30.2.length=l.length) <| bf r30.1 (some (.ret r30.2)) (j11 (a28.1,a28.2.1,r30.2))) (j11 (a28.1,a28.2.1,l))) fun j29=>bf wb (bf wp (j29 (true,true,(decide (hint=1)))) (j29 (true,false,false))) (j29 (false,wp,false))
def pK5 (fuel:Nat) (a b:Int) (wb wp:Bool) (lim len:Int) (l:List Time):Option (Ctl PdqS (List Time)) :=
 (z1g l a b).bind fun r7=>jn (fun (a8:Int × Int × (List Time))=>pK8 fuel a b lim len wb wp a8.1 a8.2.1 a8.2.2) fun j9=>bf (decide (r7.2=2)) ((z13 fuel a b l).bind fun r32=>need (r32.length=l.length) <| j9 ((IntKind.i64.wrap ((IntKind.i64.wrap (b - 1)) - (IntKind.i64.wrap (r7.1 - a)))),1,r32)) (j9 (r7.1,r7.2,l))
def pBody (fuel:Nat) (a1:PdqS):Option (Ctl PdqS (List Time)) :=
 bf (decide ((IntKind.i64.wrap (a1.2.1 - a1.1))≤12)) ((z0x fuel a1.1 a1.2.1 a1.2.2.2.2.2).bind fun r3=>some (.ret r3)) (bf (decide (a1.2.2.1=0)) ((z1j fuel a1.1 a1.2.1 a1.2.2.2.2.2).bind fun r4=>some (.ret r4))
  (jn (fun (a5:Int × Int × (List Time))=>pK5 fuel a1.1 a1.2.1 a1.2.2.2.1 a1.2.2.2.2.1 a5.1 a5.2.1 a5.2.2) fun j6=>bf (!a1.2.2.2.1) ((z0y fuel a1.1 a1.2.1 a1.2.2.2.2.2).bind fun r34=>need (r34.length=a1.2.2.2.2.2.length) <| j6 ((IntKind.i64.wrap (a1.2.2.1 - 1)),(IntKind.i64.wrap (a1.2.1 - a1.1)),r34)) (j6 (a1.2.2.1,(IntKind.i64.wrap (a1.2.1 - a1.1)),a1.2.2.2.2.2))))
theorem zk3 (fuel:Nat) (a b lim:Int) (l:List Time):z0h (fuel + 1) a b lim l=outK (loopN (pBody fuel) fuel (a,b,lim,true,true,l)) (fun _=>none) (fun x=>some x):=rfl
def qD (a b lim:Nat) (wb wp:Bool) (pivot:Nat) (d:Array Time):Array Time :=
 if a > 0 && !ltT d[a - 1]! d[pivot]! then
  match Sort.partitionEqual ltT d a b pivot with
  | (mid,d4)=>if _h:a < mid∧mid≤b then Sort.pdq ltT d4 mid b lim wb wp else d4
 else
  match Sort.partition ltT d a b pivot with
  | (mid,alreadyPartitioned,d4) =>
   if _h:a≤mid∧mid < b then
    if mid - a < b - mid then
     Sort.pdq ltT (Sort.pdq ltT d4 a mid lim true true) (mid + 1) b lim (decide (mid - a ≥ (b - a) / 8)) alreadyPartitioned
    else
     Sort.pdq ltT (Sort.pdq ltT d4 (mid + 1) b lim true true) a mid lim (decide (b - mid ≥ (b - a) / 8)) alreadyPartitioned
   else d4
def qC (a b lim:Nat) (wb wp:Bool) (pivot:Nat) (hint:Sort.Hint) (d:Array Time):Array Time :=
 let pi:=if wb && wp && hint = .increasing then Sort.partialInsertionSort ltT d a b else (d,false)
 if pi.2 then pi.1 else qD a b lim wb wp pivot pi.1
def qB (a b lim:Nat) (wb wp:Bool) (d:Array Time):Array Time :=
 let c:=Sort.choosePivot ltT d a b
 if c.2 = .decreasing then qC a b lim wb wp ((b - 1) - (c.1 - a)) .increasing (Sort.reverseRange d a b) else qC a b lim wb wp c.1 c.2 d
theorem zk5 (d:Array Time) (a b lim:Nat) (wb wp:Bool):Sort.pdq ltT d a b lim wb wp =
  if b - a≤12 then Sort.insertionSort ltT d a b else if lim=0 then Sort.heapSort ltT d a b else
   (if wb then qB a b lim wb wp d else qB a b (lim - 1) wb wp (Sort.breakPatterns d a b)):=by
 rw [Sort.pdq]
 by_cases h1:b - a≤12
 ·rw [if_pos h1,if_pos h1]
 ·rw [if_neg h1,if_neg h1]
  by_cases h2:lim=0
  ·rw [if_pos h2,if_pos h2]
  ·rw [if_neg h2,if_neg h2]
   cases wb
   ·simp only [Bool.not_false,if_true]
    unfold qB
    dsimp only
    by_cases h3:(Sort.choosePivot ltT (Sort.breakPatterns d a b) a b).2 = .decreasing
    ·simp only [if_pos h3]; rfl
    ·simp only [if_neg h3]; rfl
   ·simp only [Bool.not_true,Bool.false_eq_true,if_false,if_true]
    unfold qB
    dsimp only
    by_cases h3:(Sort.choosePivot ltT d a b).2 = .decreasing
    ·simp only [if_pos h3]; rfl
    ·simp only [if_neg h3]; rfl
theorem zcv {α:Type} [Inhabited α] (p : α → Bool) (d:Array α) (i:Nat):∀ (j:Nat),i≤j + 1→i≤Sort.scanDown p d i j + 1
 | 0,h=>h
 | j + 1,h=>by
  unfold Sort.scanDown
  split
  ·rename_i hc
   have:i≤j + 1:=by simp at hc; exact hc.1
   exact zcv p d i j this
  ·exact h
theorem zgt {α:Type} [Inhabited α] (p : α → Bool) (d:Array α) (j:Nat):∀ (n i:Nat),j + 1 - i≤n→Sort.scanUp p d j i≤j→p d[Sort.scanUp p d j i]! = false:=by
 intro n
 induction n with
 | zero =>
  intro i hn h
  rw [Sort.scanUp] at h ⊢
  split at h
  ·rename_i hc; simp at hc; omega
  ·omega
 | succ n ih =>
  intro i hn h
  rw [Sort.scanUp] at h ⊢
  split at h
  ·rename_i hc
   rw [if_pos hc]
   exact ih (i + 1) (by omega) h
  ·rename_i hc
   rw [if_neg hc]
   simp at hc
   exact hc h
theorem zbe {α:Type} [Inhabited α] (p : α → Bool) (d:Array α) (i:Nat):∀ (j:Nat),i≤Sort.scanDown p d i j→1≤i→p d[Sort.scanDown p d i j]! = false
 | 0,h,h1=>by have:Sort.scanDown p d i 0=0:=rfl; omega
 | j + 1,h,h1=>by
  unfold Sort.scanDown at h ⊢
  split at h
  ·rename_i hc
   rw [if_pos hc]
   exact zbe p d i j h h1
  ·rename_i hc
   rw [if_neg hc]
   simp at hc
   exact hc h
theorem zji {α:Type} [Inhabited α] (p q : α → Bool) (hq:∀ x,q x = !p x) (d:Array α) (i j:Nat):1≤i→Sort.scanUp p d j i ≠ Sort.scanDown q d (Sort.scanUp p d j i) j:=fun hi e=>by
 have u:=z3w p d j _ i (Nat.le_refl _)
 have v:=z2d q d (Sort.scanUp p d j i) j
 have h1:=zgt p d j _ i (Nat.le_refl _) (by omega)
 have h2:=zbe q d (Sort.scanUp p d j i) j (by omega) (by omega)
 rw [← e,hq,h1] at h2
 cases h2
theorem zef {a:Nat}:∀ (n i j:Nat) (d:Array Time),j + 1 - i≤n→1≤i→i≤j + 1→j < d.size→i≤(Sort.partEqLoop ltT a i j d).1∧(Sort.partEqLoop ltT a i j d).1≤j + 1∧(Sort.partEqLoop ltT a i j d).2.size=d.size:=by
 intro n
 induction n with
 | zero =>
  intro i j d hn hi hi2 hj
  have u:=(z3w (fun x => !ltT d[a]! x) d j _ i (Nat.le_refl _))
  have v:=z2d (fun x=>ltT d[a]! x) d (Sort.scanUp (fun x => !ltT d[a]! x) d j i) j
  rw [z6u,if_pos (by omega)]
  exact ⟨u.2,by show Sort.scanUp _ _ _ _≤_; omega,rfl⟩
 | succ n ih =>
  intro i j d hn hi hi2 hj
  have u:=(z3w (fun x => !ltT d[a]! x) d j _ i (Nat.le_refl _))
  have v:=z2d (fun x=>ltT d[a]! x) d (Sort.scanUp (fun x => !ltT d[a]! x) d j i) j
  have w:=zcv (fun x=>ltT d[a]! x) d (Sort.scanUp (fun x => !ltT d[a]! x) d j i) j
  have hno:=zji (fun x => !ltT d[a]! x) (fun x=>ltT d[a]! x) (fun x=>by simp) d i j
  rw [z6u]
  generalize Sort.scanUp (fun x => !ltT d[a]! x) d j i=i2 at *
  generalize Sort.scanDown (fun x=>ltT d[a]! x) d i2 j=j2 at *
  by_cases hc:i2 > j2
  ·rw [if_pos hc]
   exact ⟨u.2,by show i2≤_; omega,rfl⟩
  ·rw [if_neg hc]
   have:=ih (i2 + 1) (j2 - 1) (Sort.swp d i2 j2) (by omega) (by omega) (by omega) (by rw [z18]; omega)
   rw [z18] at this
   omega
end Go.Av
