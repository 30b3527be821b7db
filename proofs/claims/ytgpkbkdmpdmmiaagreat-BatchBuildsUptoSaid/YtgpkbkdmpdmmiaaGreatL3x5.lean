import Derived.Test.YtgpkbkdmpdmmiaaGreatL3x4
import Derived.Test.YtgpkbkdmpdmmiaaGreatProg
import Derived.Sort.LotD3
import Derived.Sort.LotD4
import Derived.Sort.LotA
import Derived.Sort.LotB
import Derived.Sort.LotC
set_option maxRecDepth 100000
namespace Go.Av
open Go Go.Proofs
set_option linter.unusedVariables false
set_option linter.unusedSimpArgs false
theorem z5n {p0:List Value} {q:List Value} (h:z4l p0=some q) :
  Summ Tryz.prog 91 [cD (lD 3 z05 p0)] [] (cD (lD 3 z05 q)) []:=by
 refine Summ.intro Tryz.func91 rfl (by kernel_rfl) (by kernel_rfl) [] rfl ?_
 rintro ⟨P,w0,G0,V,LL,lk,N, φ0,fx⟩ rfl rfl rfl rfl
 unfold z4l at h
 refine Tri.segL [0] [] ⟨[(0,cD (lD 3 z05 p0))],[]⟩ _ (by kernel_rfl) (z00 1) ?_
 refine Tri.seqS ?_
 refine Tri.reg ?_
 refine At.one rfl (One.build0 (e:=58) (es:=3) rfl rfl rfl rfl (by kernel_rfl) rfl) ?_
 refine At.seg 1 [3,4] [] (s':=⟨[(3,.c (.zero)),(4,cD (lD 3 z05 p0))],[]⟩) (by kernel_rfl) (z00 1) ?_
 obtain ⟨hc1,h⟩:=z03 h
 refine At.one rfl (One.append0 (e:=58) (es:=3) (m:=p0.length) (get:=fun i=>z05 (p0.getD i default)) rfl rfl rfl rfl (by kernel_rfl) (.of 58 32 [.d (.bool false),.d (dI 0),.d (.str (bs []))] (by kernel_rfl) (by kernel_rfl) (by kernel_rfl) (by kernel_rfl) rfl (by kernel_rfl) rfl) rfl rfl (.list rfl (fun _ _=>rfl)) hc1) ?_
 refine At.sg 1 [2] [5] (z00 1) ?_
 refine At.done rfl ?_
 refine Tri.keep [2] [5] (s':=⟨[(2,.c (oC 5 3 p0))],[(5,vL 3 z05 p0)]⟩) (by kernel_rfl) ?_
 refine Tri.le [5] (fun k hk h=>by first | (cases h; done) | (simp at hk h; omega)) ⟨[(2,cD (lD 3 z05 p0))],[]⟩ ⟨⟨_,rfl,.c (CLe.frozen (z05) p0 rfl (by simp))⟩,trivial⟩ trivial ?_
 refine Tri.ret ?_
 cases h
 exact RetAt.k
theorem zbr {p0:Value} {p1:Value} {q:Int} (h:z4i p0 p1=some q) :
    Summ Tryz.prog 106 [.agg (cValue p0),.agg (cValue p1)] [] (cD (dI q)) []:=by
  refine Summ.intro Tryz.func106 rfl (by kernel_rfl) (by kernel_rfl) [] rfl ?_
  rintro ⟨P,w0,G0,V,LL,lk,N, φ0,fx⟩ rfl rfl rfl rfl
  unfold z4i at h
  refine Tri.segL [2,3] [2,3] ⟨[(2,.c (.ptr 2 0)),(3,.c (.ptr 3 0))],[(2,.box (cValue p0)),(3,.box (cValue p1))]⟩ _ (by kernel_rfl) (z00 3) ?_
  refine Tri.seqJ (fun (a1:Bool × Bool)=>⟨[(2,.c (.ptr 2 0)),(3,.c (.ptr 3 0)),(5,cD (.bool a1.1)),(6,cD (.bool a1.2))],[(2,.box (cValue p0)),(3,.box (cValue p1))]⟩) h (fun a1 h => ?_) (fun j2 h => ?_)
  ·refine Tri.seqJ (fun (a3:Bool × Bool)=>⟨[(5,cD (.bool a3.1)),(6,cD (.bool a3.2))],[]⟩) h (fun a3 h => ?_) (fun j4 h => ?_)
   ·refine Tri.seqS ?_
    refine Tri.blockB ?_
    refine Tri.sg [6,55] [] (z00 2) ?_
    refine Tri.condK h (fun h => ?_) (fun h => ?_)
    ·refine Tri.sg [4] [] (z00 1) ?_
     refine Tri.ret ?_
     cases h
     exact RetAt.k
    ·refine Tri.sg [57] [] (z00 2) ?_
     refine Tri.condK h (fun h => ?_) (fun h => ?_)
     ·refine Tri.sg [4] [] (z00 1) ?_
      refine Tri.ret ?_
      cases h
      exact RetAt.k
     ·refine Tri.skip ?_
      refine Tri.sg [4] [] (z00 1) ?_
      refine Tri.ret ?_
      cases h
      exact RetAt.k
   ·refine Tri.seqJ (fun (a5:Bool)=>⟨[(2,.c (.ptr 2 0)),(3,.c (.ptr 3 0)),(5,cD (.bool a1.1)),(6,cD (.bool a1.2)),(26,cD (.bool a5))],[(2,.box (cValue p0)),(3,.box (cValue p1))]⟩) h (fun a5 h => ?_) (fun j6 h => ?_)
    ·refine Tri.condK h (fun h => ?_) (fun h => ?_)
     ·refine Tri.dC [.a [2] [],.a [27] [2],.a [3] [],.a [29] [3],.a [28,30] [],.a [2] [],.a [32] [2],.a [3] [],.a [34] [3],.a [33,35] [],.a [31] [],.a [36] []] [5,6] [] (z00 12) (.a (.a (.a (.a (.a (.a (.a (.a (.a (.a (.a (.a .z)))))))))))) ?_
      exact ⟨_,h,kr⟩
     ·refine Tri.seqJ (fun (a7:Bool)=>⟨[(2,.c (.ptr 2 0)),(3,.c (.ptr 3 0)),(5,cD (.bool a1.1)),(6,cD (.bool a1.2)),(44,cD (.bool a7))],[(2,.box (cValue p0)),(3,.box (cValue p1))]⟩) h (fun a7 h => ?_) (fun j8 h => ?_)
      ·refine Tri.condK h (fun h => ?_) (fun h => ?_)
       ·refine Tri.dC [.a [2] [],.a [45] [2],.a [3] [],.a [47] [3],.a [46,48] [],.a [2] [],.a [50] [2],.a [3] [],.a [52] [3],.a [51,53] [],.a [49] [],.a [54] []] [5,6] [] (z00 12) (.a (.a (.a (.a (.a (.a (.a (.a (.a (.a (.a (.a .z)))))))))))) ?_
        exact ⟨_,h,kr⟩
       ·refine Tri.kp [5,6] [] ?_
        refine Tri.skip ?_
        exact ⟨_,h,kr⟩
      ·refine Tri.reg ?_
       refine At.sg 4 [2,3,5,6,40] [2,3] (z00 4) ?_
       refine At.cs [40] h (fun h => ?_) (fun h => ?_)
       ·refine At.sg 4 [2,3,5,6,44] [2,3] (z00 4) ?_
        refine At.done rfl ?_
        exact ⟨_,h,kr⟩
       ·refine At.sg 4 [2,3,5,6,44] [2,3] (z00 1) ?_
        refine At.done rfl ?_
        exact ⟨_,h,kr⟩
    ·refine Tri.reg ?_
     refine At.sg 3 [2,3,5,6,23] [2,3] (z00 3) ?_
     refine At.cs [23] h (fun h => ?_) (fun h => ?_)
     ·refine At.sg 3 [2,3,5,6,26] [2,3] (z00 3) ?_
      refine At.done rfl ?_
      exact ⟨_,h,kr⟩
     ·refine At.sg 3 [2,3,5,6,26] [2,3] (z00 1) ?_
      refine At.done rfl ?_
      exact ⟨_,h,kr⟩
  ·rcases z1f h with ⟨hp9,h⟩ | ⟨hp9,h⟩
   ·rcases z1f h with ⟨hp10,h⟩ | ⟨hp10,h⟩
    ·refine Tri.dC [.a [2] [],.a [7] [2],.a [8] [],.m ⟨[(9,cD (.bool (!p0.isText)))],[]⟩ ⟨[(10,.c (.d (.bool true)))],[]⟩ [] [] [],.a [3,10] [],.a [10,11] [3],.a [10,12] [],.a [2] [],.a [14] [2],.m ⟨[(15,cD (.bool p0.isText))],[]⟩ ⟨[(16,.c (.d (.bool true)))],[]⟩ [] [] [],.a [3,16] [],.a [16,17] [3],.a [16,18] [],.a [16,19] [],.a [13] [],.a [20] []] [2,3,5,6] [2,3] (z00 14) (.a (.a (.a (.m ?_ (.a (.a (.a (.a (.a (.m ?_ (.a (.a (.a (.a (.a (.a .z)))))))))))))))) ?_
     · exact DOk.stepP (fun b => .val (.c (.d (.bool b))) (True)) (p:=(!p0.isText)) hp9 (fun r=>by kernel_rfl) (fun r=>by kernel_rfl) trivial (by kernel_rfl) (by kernel_rfl) (fun r=>rfl)
     · exact DOk.stepP (fun b => .val (.c (.d (.bool b))) (True)) (p:=p0.isText) hp10 (fun r=>by kernel_rfl) (fun r=>by kernel_rfl) trivial (by kernel_rfl) (by kernel_rfl) (fun r=>rfl)
     exact ⟨_,h,kr⟩
    ·refine Tri.dC [.a [2] [],.a [7] [2],.a [8] [],.m ⟨[(9,cD (.bool (!p0.isText)))],[]⟩ ⟨[(10,.c (.d (.bool true)))],[]⟩ [] [] [],.a [3,10] [],.a [10,11] [3],.a [10,12] [],.a [2] [],.a [14] [2],.m ⟨[(15,cD (.bool p0.isText))],[]⟩ ⟨[(16,.c (.d (.bool false)))],[]⟩ [] [] [],.a [3,16] [],.a [16,17] [],.a [16,18] [],.a [16,19] [],.a [13] [],.a [20] []] [2,3,5,6] [2,3] (z00 11) (.a (.a (.a (.m ?_ (.a (.a (.a (.a (.a (.m ?_ (.a (.a (.a (.a (.a (.a .z)))))))))))))))) ?_
     · exact DOk.stepP (fun b => .val (.c (.d (.bool b))) (True)) (p:=(!p0.isText)) hp9 (fun r=>by kernel_rfl) (fun r=>by kernel_rfl) trivial (by kernel_rfl) (by kernel_rfl) (fun r=>rfl)
     · exact DOk.stepP (fun b => .val (.c (.d (.bool b))) (True)) (p:=p0.isText) hp10 (fun r=>by kernel_rfl) (fun r=>by kernel_rfl) trivial (by kernel_rfl) (by kernel_rfl) (fun r=>rfl)
     exact ⟨_,h,kr⟩
   ·rcases z1f h with ⟨hp11,h⟩ | ⟨hp11,h⟩
    ·refine Tri.dC [.a [2] [],.a [7] [2],.a [8] [],.m ⟨[(9,cD (.bool (!p0.isText)))],[]⟩ ⟨[(10,.c (.d (.bool false)))],[]⟩ [] [] [],.a [3,10] [],.a [10,11] [],.a [10,12] [],.a [2] [],.a [14] [2],.m ⟨[(15,cD (.bool p0.isText))],[]⟩ ⟨[(16,.c (.d (.bool true)))],[]⟩ [] [] [],.a [3,16] [],.a [16,17] [3],.a [16,18] [],.a [16,19] [],.a [13] [],.a [20] []] [2,3,5,6] [2,3] (z00 12) (.a (.a (.a (.m ?_ (.a (.a (.a (.a (.a (.m ?_ (.a (.a (.a (.a (.a (.a .z)))))))))))))))) ?_
     · exact DOk.stepP (fun b => .val (.c (.d (.bool b))) (True)) (p:=(!p0.isText)) hp9 (fun r=>by kernel_rfl) (fun r=>by kernel_rfl) trivial (by kernel_rfl) (by kernel_rfl) (fun r=>rfl)
     · exact DOk.stepP (fun b => .val (.c (.d (.bool b))) (True)) (p:=p0.isText) hp11 (fun r=>by kernel_rfl) (fun r=>by kernel_rfl) trivial (by kernel_rfl) (by kernel_rfl) (fun r=>rfl)
     exact ⟨_,h,kr⟩
    ·refine Tri.dC [.a [2] [],.a [7] [2],.a [8] [],.m ⟨[(9,cD (.bool (!p0.isText)))],[]⟩ ⟨[(10,.c (.d (.bool false)))],[]⟩ [] [] [],.a [3,10] [],.a [10,11] [],.a [10,12] [],.a [2] [],.a [14] [2],.m ⟨[(15,cD (.bool p0.isText))],[]⟩ ⟨[(16,.c (.d (.bool false)))],[]⟩ [] [] [],.a [3,16] [],.a [16,17] [],.a [16,18] [],.a [16,19] [],.a [13] [],.a [20] []] [2,3,5,6] [2,3] (z00 9) (.a (.a (.a (.m ?_ (.a (.a (.a (.a (.a (.m ?_ (.a (.a (.a (.a (.a (.a .z)))))))))))))))) ?_
     · exact DOk.stepP (fun b => .val (.c (.d (.bool b))) (True)) (p:=(!p0.isText)) hp9 (fun r=>by kernel_rfl) (fun r=>by kernel_rfl) trivial (by kernel_rfl) (by kernel_rfl) (fun r=>rfl)
     · exact DOk.stepP (fun b => .val (.c (.d (.bool b))) (True)) (p:=p0.isText) hp11 (fun r=>by kernel_rfl) (fun r=>by kernel_rfl) trivial (by kernel_rfl) (by kernel_rfl) (fun r=>rfl)
     exact ⟨_,h,kr⟩
theorem z9j {fuel:Nat} {p0:List Value} {p1:List Value} {q:Int} (h:z4k fuel p0 p1=some q) :
    Summ Tryz.prog 70 [cD (lD 3 z05 p0),cD (lD 3 z05 p1)] [] (cD (dI q)) []:=by
  refine Summ.intro Tryz.func70 rfl (by kernel_rfl) (by kernel_rfl) [] rfl ?_
  rintro ⟨P,w0,G0,V,LL,lk,N, φ0,fx⟩ rfl rfl rfl rfl
  unfold z4k at h
  refine Tri.sg [0,1] [] (z00 1) ?_
  refine Tri.seqS ?_
  refine Tri.sg [0,1,5] [] (z00 1) ?_
  refine Tri.lK (0) (fun (x:Int) s=>RetAt Tryz.prog Tryz.f70 (cD (dI x)) [] s) (fun (a1:Int)=>⟨[(0,cD (lD 3 z05 p0)),(1,cD (lD 3 z05 p1)),(5,cD (dI a1))],[]⟩) [0,1,5] [] h ?_ ?_ ?_
  ·intro a1 c h
   refine Tri.seqS ?_
   refine Tri.seqJ (fun (a3:Bool)=>⟨[(0,cD (lD 3 z05 p0)),(1,cD (lD 3 z05 p1)),(5,cD (dI a1)),(16,cD (.bool a3))],[]⟩) h (fun a3 h => ?_) (fun j4 h => ?_)
   ·refine Tri.condK h (fun h => ?_) (fun h => ?_)
    ·refine Tri.skip ?_
     refine Tri.seqS ?_
     refine Tri.blockB ?_
     refine Tri.seqS ?_
     obtain ⟨hc5,h⟩:=z03 h
     obtain ⟨hc6,h⟩:=z03 h
     obtain ⟨r7,hr7,h⟩:=z04 h
     refine Tri.dC [.a [0] [],.a [5] [],.a [19,20] [],.a [21] [],.a [1] [],.a [5] [],.a [23,24] [],.a [25] [],.m ⟨[(22,.agg (cValue (p0.getD a1.toNat default))),(26,.agg (cValue (p1.getD a1.toNat default)))],[]⟩ ⟨[(27,cD (dI r7))],[]⟩ [] [] [],.a [27] []] [0,1,5,6] [] (tN 2 (ai hc5 (tN 3 (ai hc6 (z00 2))))) (.a (.a (.a (.a (.a (.a (.a (.a (.m ?_ (.a .z)))))))))) ?_
     · exact DOk.cA [] [.agg (cValue (p0.getD a1.toNat default)),.agg (cValue (p1.getD a1.toNat default))] (zbr hr7) fun r=>(.cons (.refl _) (.cons (.refl _) .nil))
     refine Tri.sg [0,1,5,6,29] [] (z00 2) ?_
     refine Tri.condK h (fun h => ?_) (fun h => ?_)
     ·refine Tri.sg [4] [] (z00 2) ?_
      refine Tri.ret ?_
      cases h
      exact RetAt.k
     ·refine Tri.skip ?_
      refine Tri.reg ?_
      refine At.sg 3 [0,1,5] [] (z00 3) ?_
      refine At.done rfl ?_
      cases h
      exact kr
    ·refine Tri.kp [0,1,5] [] ?_
     refine Tri.exit ?_
     cases h
     exact ⟨rfl,kr⟩
   ·refine Tri.reg ?_
    refine At.sg 5 [0,1,5,11] [] (z00 5) ?_
    refine At.cs [11] h (fun h => ?_) (fun h => ?_)
    ·refine At.sg 5 [0,1,5,16] [] (z00 5) ?_
     refine At.done rfl ?_
     exact ⟨_,h,kr⟩
    ·refine At.sg 5 [0,1,5,16] [] (z00 1) ?_
     refine At.done rfl ?_
     exact ⟨_,h,kr⟩
  ·intro a2 h
   refine Tri.seqS ?_
   refine Tri.blockB ?_
   refine Tri.sg [0,1,31] [] (z00 6) ?_
   refine Tri.condK h (fun h => ?_) (fun h => ?_)
   ·refine Tri.sg [4] [] (z00 1) ?_
    refine Tri.ret ?_
    cases h
    exact RetAt.k
   ·refine Tri.sg [37] [] (z00 6) ?_
    refine Tri.condK h (fun h => ?_) (fun h => ?_)
    ·refine Tri.sg [4] [] (z00 1) ?_
     refine Tri.ret ?_
     cases h
     exact RetAt.k
    ·refine Tri.skip ?_
     refine Tri.sg [4] [] (z00 1) ?_
     refine Tri.ret ?_
     cases h
     exact RetAt.k
  · exact fun x s hx hr=>by cases hx; exact hr
theorem z67 {fuel:Nat} {p0:Update} {p1:Update} {q:Int} (h:z1w fuel p0 p1=some q) :
    Summ Tryz.prog 83 [.agg (cUpdate p0),.agg (cUpdate p1)] [] (cD (dI q)) []:=by
  refine Summ.intro Tryz.func83 rfl (by kernel_rfl) (by kernel_rfl) [] rfl ?_
  rintro ⟨P,w0,G0,V,LL,lk,N, φ0,fx⟩ rfl rfl rfl rfl
  unfold z1w at h
  refine Tri.sg [2,3] [2,3] (z00 3) ?_
  refine Tri.seqS ?_
  refine Tri.reg ?_
  refine At.sg 4 [2,3,7,9] [2,3] (z00 4) ?_
  obtain ⟨r1,hr1,h⟩:=z04 h
  refine At.cA [] [cD (lD 3 z05 p0.key),cD (lD 3 z05 p1.key)] (z9j hr1) (.cons (.refl _) (.cons (.refl _) .nil)) ?_
  refine At.sg 1 [2,3,5] [2,3] (z00 1) ?_
  refine At.done rfl ?_
  refine Tri.seqJ (fun (a2:Int)=>⟨[(2,.c (.ptr 2 0)),(3,.c (.ptr 3 0)),(5,cD (dI a2))],[(2,.box (cUpdate p0)),(3,.box (cUpdate p1))]⟩) h (fun a2 h => ?_) (fun j3 h => ?_)
  ·refine Tri.seqJ (fun (a4:Int)=>⟨[(5,cD (dI a4))],[]⟩) h (fun a4 h => ?_) (fun j5 h => ?_)
   ·refine Tri.sg [4] [] (z00 2) ?_
    refine Tri.ret ?_
    cases h
    exact RetAt.k
   ·refine Tri.sg [2,3,5,19] [2,3] (z00 2) ?_
    refine Tri.condK h (fun h => ?_) (fun h => ?_)
    ·refine Tri.reg ?_
     refine At.sg 4 [21,23] [] (z00 4) ?_
     obtain ⟨r6,hr6,h⟩:=z04 h
     refine At.cA [] [.agg (cTime p0.time),.agg (cTime p1.time)] (z88 hr6) (.cons (.refl _) (.cons (.refl _) .nil)) ?_
     refine At.sg 1 [5] [] (z00 1) ?_
     refine At.done rfl ?_
     exact ⟨_,h,kr⟩
    ·refine Tri.kp [5] [] ?_
     refine Tri.skip ?_
     exact ⟨_,h,kr⟩
  ·refine Tri.sg [2,3,5,12] [2,3] (z00 2) ?_
   refine Tri.condK h (fun h => ?_) (fun h => ?_)
   ·refine Tri.reg ?_
    refine At.sg 4 [2,3,14,16] [2,3] (z00 4) ?_
    obtain ⟨r7,hr7,h⟩:=z04 h
    refine At.cA [] [cD (lD 3 z05 p0.row),cD (lD 3 z05 p1.row)] (z9j hr7) (.cons (.refl _) (.cons (.refl _) .nil)) ?_
    refine At.sg 1 [2,3,5] [2,3] (z00 1) ?_
    refine At.done rfl ?_
    exact ⟨_,h,kr⟩
   ·refine Tri.kp [2,3,5] [2,3] ?_
    refine Tri.skip ?_
    exact ⟨_,h,kr⟩
theorem zbq {p0:List Update} {q:List Update} (h:z30 p0=some q) :
    Summ Tryz.prog 53 [.c (wC 6 z01 p0)] [] (cD (lD 6 z01 q)) []:=by
  refine Summ.intro Tryz.func53 rfl (by kernel_rfl) (by kernel_rfl) [] rfl ?_
  rintro ⟨P,w0,G0,V,LL,lk,N, φ0,fx⟩ rfl rfl rfl rfl
  unfold z30 at h
  refine Tri.sg [0] [] (z00 1) ?_
  refine Tri.sg [0,3] [] (z00 1) ?_
  refine Tri.seqS ?_
  refine Tri.segL [3,6,7,8] [] ⟨[(3,.c (.zero)),(6,.c (wC 6 z01 p0)),(7,cD (dI (p0.length:Int))),(8,cD (dI 0))],[]⟩ _ (by kernel_rfl) (z00 3) ?_
  refine Tri.ln 6 p0.length fun hlena2 => ?_
  refine Tri.newOwn (t:=3) (k:=1003) (es:=6) (fun i=>z01 (([]:List Update).getD i default)) rfl rfl rfl ?_
  refine Tri.rK 8 ([]:List Update) (fun (x:Empty) s=>False) (fun (a2:List Update)=>⟨[(3,.c (oC 1003 6 a2)),(6,.c (wC 6 z01 p0)),(7,cD (dI (p0.length:Int)))],[(1003,vL 6 z01 a2)]⟩) [8,3,6,7] [1003] [9,8,3,6,7] [1003] [3,6,7] [1003] [8,3,6,7] [1003] h hlena2 ?_ ?_ ?_
  ·intro i1 a2 c hii1 h
   refine Tri.sg [3,5,6,7,8] [5,1003] (ai (show ((0:Int)≤((i1:Nat):Int)∧((i1:Nat):Int) < (p0.length:Int)) from ⟨by omega,by omega⟩) (z00 3)) ?_
   refine Tri.seqS ?_
   refine Tri.reg ?_
   refine At.sg 2 [3,5,6,7,8,13] [5,1003] (z00 2) ?_
   obtain ⟨r4,hr4,h⟩:=z04 h
   refine At.cA [] [cD (lD 3 z05 ((p0.getD i1 default).key))] (z5n hr4) (.cons (.refl _) .nil) ?_
   refine At.sg 2 [3,5,6,7,8] [5,1003] (z00 2) ?_
   refine At.done rfl ?_
   refine Tri.seqS ?_
   refine Tri.reg ?_
   refine At.sg 2 [3,5,6,7,8,17] [5,1003] (z00 2) ?_
   obtain ⟨r5,hr5,h⟩:=z04 h
   refine At.cA [] [cD (lD 3 z05 ((p0.getD i1 default).row))] (z5n hr5) (.cons (.refl _) .nil) ?_
   refine At.sg 2 [3,5,6,7,8] [5,1003] (z00 2) ?_
   refine At.done rfl ?_
   refine Tri.reg ?_
   refine At.seg 2 [6,7,8,20,21] [1003] (s':=⟨[(6,.c (wC 6 z01 p0)),(7,cD (dI (p0.length:Int))),(8,cD (dI ((i1:Nat):Int))),(20,.c (oC 1003 6 a2)),(21,.agg [.d (lD 3 z05 r4),.d (lD 3 z05 r5),.d (dU ((p0.getD i1 default).time.epoch)),.d (dU ((p0.getD i1 default).time.loop.1)),.d (dU ((p0.getD i1 default).time.loop.2)),.d (dI ((p0.getD i1 default).diff))])],[(1003,vL 6 z01 a2)]⟩) (by kernel_rfl) (z00 2) ?_
   refine At.one rfl (One.buildSlice (z:=[.zero,.zero,.d (dU 0),.d (dU 0),.d (dU 0),.d (dI 0)]) (cells:=[.d (lD 3 z05 r4),.d (lD 3 z05 r5),.d (dU ((p0.getD i1 default).time.epoch)),.d (dU ((p0.getD i1 default).time.loop.1)),.d (dU ((p0.getD i1 default).time.loop.2)),.d (dI ((p0.getD i1 default).diff))]) (xs:=List.map (z01) ([(⟨r4,r5,(p0.getD i1 default).time,(p0.getD i1 default).diff⟩:Update)]:List Update)) rfl rfl rfl rfl (by kernel_rfl) rfl rfl (by kernel_rfl) rfl rfl rfl (by kernel_rfl) rfl ⟨⟨rfl,.refl _⟩,trivial⟩) ?_
   refine At.le [22] (fun k hk h=>by first | (cases h; done) | (simp at hk h; omega)) ⟨[(22,cD (lD 6 z01 ([(⟨r4,r5,(p0.getD i1 default).time,(p0.getD i1 default).diff⟩:Update)]:List Update))),(6,.c (wC 6 z01 p0)),(7,cD (dI (p0.length:Int))),(8,cD (dI ((i1:Nat):Int))),(20,.c (oC 1003 6 a2)),(21,.agg [.d (lD 3 z05 r4),.d (lD 3 z05 r5),.d (dU ((p0.getD i1 default).time.epoch)),.d (dU ((p0.getD i1 default).time.loop.1)),.d (dU ((p0.getD i1 default).time.loop.2)),.d (dI ((p0.getD i1 default).diff))])],[(1003,vL 6 z01 a2)]⟩ ⟨⟨_,rfl,.c (.own rfl (List.mem_singleton.2 rfl) (Nat.le_of_ble_eq_true rfl) rfl (z1z (z01) ([(⟨r4,r5,(p0.getD i1 default).time,(p0.getD i1 default).diff⟩:Update)]:List Update)))⟩,⟨_,rfl,.refl _⟩,⟨_,rfl,.refl _⟩,⟨_,rfl,.refl _⟩,⟨_,rfl,.refl _⟩,⟨_,rfl,.refl _⟩,trivial⟩ ⟨⟨_,rfl,.refl _,(by simp)⟩,trivial⟩ ?_
   obtain ⟨hc6,h⟩:=z03 h
   refine At.one rfl (One.appendT (e:=56) (es:=6) (z01) a2 ([(⟨r4,r5,(p0.getD i1 default).time,(p0.getD i1 default).diff⟩:Update)]:List Update) rfl rfl rfl rfl rfl (.of 56 80 [.zero,.zero,.d (dU 0),.d (dU 0),.d (dU 0),.d (dI 0)] (by kernel_rfl) (by kernel_rfl) (by kernel_rfl) (by kernel_rfl) rfl (by kernel_rfl) rfl) rfl rfl rfl (.list rfl (fun _ _=>rfl)) hc6) ?_
   refine At.sg 1 [8,3,6,7] [1003] (z00 1) ?_
   refine At.done rfl ?_
   cases h
   exact kr
  ·intro a3 h
   refine Tri.sg [2] [1003] (z00 2) ?_
   refine Tri.keep [2] [1003] (s':=⟨[(2,.c (oC 1003 6 a3))],[(1003,vL 6 z01 a3)]⟩) (by kernel_rfl) ?_
   refine Tri.le [1003] (fun k hk h=>by first | (cases h; done) | (simp at hk h; omega)) ⟨[(2,cD (lD 6 z01 a3))],[]⟩ ⟨⟨_,rfl,.c (CLe.frozen (z01) a3 rfl (by simp))⟩,trivial⟩ trivial ?_
   refine Tri.ret ?_
   cases h
   exact RetAt.k
  · exact fun x=>x.elim
theorem z7l {p0:Int} {q:List Value} (h:z61 p0=some q) :
  Summ Tryz.prog 45 [cD (dI p0)] [] (cD (lD 3 z05 q)) []:=by
 refine Summ.intro Tryz.func45 rfl (by kernel_rfl) (by kernel_rfl) [] rfl ?_
 rintro ⟨P,w0,G0,V,LL,lk,N, φ0,fx⟩ rfl rfl rfl rfl
 unfold z61 at h
 refine Tri.sg [0] [] (z00 1) ?_
 refine Tri.seqS ?_
 refine Tri.reg ?_
 refine At.seg 2 [4] [] (s':=⟨[(4,.agg [.d (.bool false),.d (dI p0),.d (.str (bs []))])],[]⟩) (by kernel_rfl) (z00 2) ?_
 refine At.one rfl (One.buildSlice (z:=[.d (.bool false),.d (dI 0),.d (.str (bs []))]) (cells:=[.d (.bool false),.d (dI p0),.d (.str (bs []))]) (xs:=List.map (z05) ([(⟨false,p0,(bs [])⟩:Value)]:List Value)) rfl rfl rfl rfl (by kernel_rfl) rfl rfl (by kernel_rfl) rfl rfl rfl (by kernel_rfl) rfl ⟨⟨rfl,.refl _⟩,trivial⟩) ?_
 refine At.le [5] (fun k hk h=>by first | (cases h; done) | (simp at hk h; omega)) ⟨[(5,cD (lD 3 z05 ([(⟨false,p0,(bs [])⟩:Value)]:List Value))),(4,.agg [.d (.bool false),.d (dI p0),.d (.str (bs []))])],[]⟩ ⟨⟨_,rfl,.c (.own rfl (List.mem_singleton.2 rfl) (Nat.le_of_ble_eq_true rfl) rfl (z1z (z05) ([(⟨false,p0,(bs [])⟩:Value)]:List Value)))⟩,⟨_,rfl,.refl _⟩,trivial⟩ trivial ?_
 refine At.sg 1 [2] [] (z00 1) ?_
 refine At.done rfl ?_
 refine Tri.ret ?_
 cases h
 exact RetAt.k
theorem zbm {fuel:Nat} {p0:List Update} {q:Bool} (h:z4n fuel p0=some q) :
    Summ Tryz.prog 59 [cD (lD 6 z01 p0)] [] (cD (.bool q)) []:=by
  refine Summ.intro Tryz.func59 rfl (by kernel_rfl) (by kernel_rfl) [] rfl ?_
  rintro ⟨P,w0,G0,V,LL,lk,N, φ0,fx⟩ rfl rfl rfl rfl
  unfold z4n at h
  refine Tri.sg [0] [] (z00 1) ?_
  refine Tri.seqS ?_
  refine Tri.sg [0,5,6,7] [] (z00 3) ?_
  refine Tri.ln 5 p0.length fun hlena2 => ?_
  refine Tri.rK 7 () (fun (x:Bool) s=>RetAt Tryz.prog Tryz.f59 (cD (.bool x)) [] s) (fun (a2:Unit)=>⟨[(0,cD (lD 6 z01 p0)),(5,cD (lD 6 z01 p0)),(6,cD (dI (p0.length:Int)))],[]⟩) [7,0,5,6] [] [8,7,0,5,6] [] [0,5,6] [] [7,0,5,6] [] h hlena2 ?_ ?_ ?_
  ·intro i1 a2 c hii1 h
   refine Tri.segL [0,3,4,5,6,7] [4] ⟨[(0,cD (lD 6 z01 p0)),(3,cD (dI ((i1:Nat):Int))),(4,.c (.ptr 4 0)),(5,cD (lD 6 z01 p0)),(6,cD (dI (p0.length:Int))),(7,cD (dI ((i1:Nat):Int)))],[(4,.box (cUpdate (p0.getD i1 default)))]⟩ _ (by kernel_rfl) (tN 1 (ai (show ((0:Int)≤((i1:Nat):Int)∧((i1:Nat):Int) < (p0.length:Int)) from ⟨by omega,by omega⟩) (z00 4))) ?_
   refine Tri.seqJ (fun (a5:Bool)=>⟨[(0,cD (lD 6 z01 p0)),(5,cD (lD 6 z01 p0)),(6,cD (dI (p0.length:Int))),(7,cD (dI ((i1:Nat):Int))),(28,cD (.bool a5))],[]⟩) h (fun a5 h => ?_) (fun j6 h => ?_)
   ·refine Tri.condK h (fun h => ?_) (fun h => ?_)
    ·refine Tri.sg [2] [] (z00 1) ?_
     refine Tri.ret ?_
     cases h
     exact RetAt.k
    ·refine Tri.kp [7,0,5,6] [] ?_
     refine Tri.skip ?_
     cases h
     exact kr
   ·rcases z1f h with ⟨hp7,h⟩ | ⟨hp7,h⟩
    ·refine Tri.dC [.a [4] [],.a [12] [4],.a [13] [],.m ⟨[(14,cD (.bool (decide ((p0.getD i1 default).diff=0))))],[]⟩ ⟨[(15,.c (.d (.bool true)))],[]⟩ [] [] [],.a [3,15] [],.a [15,16] [],.a [15,17] [],.a [0,18] [],.a [3,18] [],.a [18,20] [],.a [18,19,21] [],.a [18,22] [],.a [4,18] [4],.a [18,23,24] [],.a [18,25] [],.a [15,18,26] [],.a [15,27] []] [0,5,6,7,28] [] (z00 4) (.a (.a (.a (.m ?_ (.a (.a (.a (.a (.a (.a (.a (.a (.a (.a (.a (.a (.a .z))))))))))))))))) ?_
     · exact DOk.stepP (fun b => .val (.c (.d (.bool b))) (True)) (p:=(decide ((p0.getD i1 default).diff=0))) hp7 (fun r=>by kernel_rfl) (fun r=>by kernel_rfl) trivial (by kernel_rfl) (by kernel_rfl) (fun r=>rfl)
     exact ⟨_,h,kr⟩
    ·rcases z1f h with ⟨hp8,h⟩ | ⟨hp8,h⟩
     ·obtain ⟨hc9,h⟩:=z03 h
      obtain ⟨r10,hr10,h⟩:=z04 h
      refine Tri.dC [.a [4] [],.a [12] [4],.a [13] [],.m ⟨[(14,cD (.bool (decide ((p0.getD i1 default).diff=0))))],[]⟩ ⟨[(15,.c (.d (.bool false)))],[]⟩ [] [] [],.a [3,15] [],.a [15,16] [],.m ⟨[(15,cD (.bool false)),(17,cD (.bool (decide (0 < ((i1:Nat):Int)))))],[]⟩ ⟨[(18,.c (.d (.bool true)))],[]⟩ [] [] [],.a [0,18] [],.a [3,18] [],.a [18,20] [],.a [18,19,21] [],.a [18,22] [],.a [4,18] [4],.m ⟨[(18,cD (.bool true)),(23,.agg (cUpdate (p0.getD ((IntKind.i64.wrap (((i1:Nat):Int) - 1)).toNat) default))),(24,.agg (cUpdate (p0.getD i1 default)))],[]⟩ ⟨[(25,cD (dI r10))],[]⟩ [] [] [],.a [18,25] [],.a [15,18,26] [],.a [15,27] []] [0,5,6,7,28] [] (tN 8 (ai hc9 (z00 5))) (.a (.a (.a (.m ?_ (.a (.a (.m ?_ (.a (.a (.a (.a (.a (.a (.m ?_ (.a (.a (.a .z))))))))))))))))) ?_
      · exact DOk.stepP (fun b => .val (.c (.d (.bool b))) (True)) (p:=(decide ((p0.getD i1 default).diff=0))) hp7 (fun r=>by kernel_rfl) (fun r=>by kernel_rfl) trivial (by kernel_rfl) (by kernel_rfl) (fun r=>rfl)
      · exact DOk.stepP (fun b => .val (.c (.d (.bool b))) (True)) (p:=(decide (0 < ((i1:Nat):Int)))) hp8 (fun r=>by kernel_rfl) (fun r=>by kernel_rfl) trivial (by kernel_rfl) (by kernel_rfl) (fun r=>rfl)
      · exact DOk.cA [] [.agg (cUpdate (p0.getD ((IntKind.i64.wrap (((i1:Nat):Int) - 1)).toNat) default)),.agg (cUpdate (p0.getD i1 default))] (z5c hr10) fun r=>(.cons (.refl _) (.cons (.refl _) .nil))
      exact ⟨_,h,kr⟩
     ·refine Tri.dC [.a [4] [],.a [12] [4],.a [13] [],.m ⟨[(14,cD (.bool (decide ((p0.getD i1 default).diff=0))))],[]⟩ ⟨[(15,.c (.d (.bool false)))],[]⟩ [] [] [],.a [3,15] [],.a [15,16] [],.m ⟨[(15,cD (.bool false)),(17,cD (.bool (decide (0 < ((i1:Nat):Int)))))],[]⟩ ⟨[(18,.c (.d (.bool false)))],[]⟩ [] [] [],.a [0,18] [],.a [3,18] [],.a [18,20] [],.a [18,19,21] [],.a [18,22] [],.a [4,18] [4],.a [18,23,24] [],.a [18,25] [],.a [15,18,26] [],.a [15,27] []] [0,5,6,7,28] [] (z00 7) (.a (.a (.a (.m ?_ (.a (.a (.m ?_ (.a (.a (.a (.a (.a (.a (.a (.a (.a (.a .z))))))))))))))))) ?_
      · exact DOk.stepP (fun b => .val (.c (.d (.bool b))) (True)) (p:=(decide ((p0.getD i1 default).diff=0))) hp7 (fun r=>by kernel_rfl) (fun r=>by kernel_rfl) trivial (by kernel_rfl) (by kernel_rfl) (fun r=>rfl)
      · exact DOk.stepP (fun b => .val (.c (.d (.bool b))) (True)) (p:=(decide (0 < ((i1:Nat):Int)))) hp8 (fun r=>by kernel_rfl) (fun r=>by kernel_rfl) trivial (by kernel_rfl) (by kernel_rfl) (fun r=>rfl)
      exact ⟨_,h,kr⟩
  ·intro a3 h
   refine Tri.seqS ?_
   refine Tri.reg ?_
   refine At.sg 1 [30] [] (z00 1) ?_
   obtain ⟨r4,hr4,h⟩:=z04 h
   refine At.cA [] [cD (lD 6 z01 p0)] (ze4 hr4) (.cons (.refl _) .nil) ?_
   refine At.sg 2 [2] [] (z00 2) ?_
   refine At.done rfl ?_
   refine Tri.ret ?_
   cases h
   exact RetAt.k
  · exact fun x s hx hr=>by cases hx; exact hr
theorem zem {p0:Update} {p1:List Time} {q:Bool} (h:z5d p0 p1=some q) :
  Summ Tryz.prog 88 [.agg (cUpdate p0),cD (.cptr [lD 3 z02 p1])] [] (cD (.bool q)) []:=by
 refine Summ.intro Tryz.func88 rfl (by kernel_rfl) (by kernel_rfl) [] rfl ?_
 rintro ⟨P,w0,G0,V,LL,lk,N, φ0,fx⟩ rfl rfl rfl rfl
 unfold z5d at h
 refine Tri.le [] (fun k hk=>by cases hk) ⟨[(0,.agg (cUpdate p0)),(1,.c (.eptr [lD 3 z02 p1]))],[]⟩ ⟨⟨_,rfl,.refl _⟩,⟨_,rfl,.c (.cptrE _)⟩,trivial⟩ trivial ?_
 refine Tri.sg [1,2] [2] (z00 2) ?_
 refine Tri.seqS ?_
 obtain ⟨r1,hr1,h⟩:=z04 h
 refine Tri.dC [.a [2] [],.a [4] [2],.a [1] [],.m ⟨[(5,.agg (cTime p0.time)),(6,cD (lD 3 z02 p1))],[]⟩ ⟨[(7,.agg (cTime r1))],[]⟩ [] [] [],.a [2] [],.a [8] [2],.m ⟨[(7,.agg (cTime r1)),(9,.agg (cTime p0.time))],[]⟩ ⟨[(10,cD (.bool (!(z0j r1 p0.time))))],[]⟩ [] [] [],.a [10] []] [3] [] (z00 6) (.a (.a (.a (.m ?_ (.a (.a (.m ?_ (.a .z)))))))) ?_
 ·exact DOk.cA [] [.agg (cTime p0.time),cD (lD 3 z02 p1)] (zak hr1) fun r=>(.cons (.refl _) (.cons (.refl _) .nil))
 ·exact DOk.one fun r _=>One.eql (b:=(z0j r1 p0.time)) (d:=9) rfl (by kernel_rfl) rfl (.inr rfl) rfl rfl (by kernel_rfl) rfl (by kernel_rfl)
 refine Tri.ret ?_
 cases h
 exact RetAt.k
theorem z2t {p0:List Update} {p1_0:List Time} {q:Int} (h:z0q p0 p1_0=some q) :
    Summ Tryz.prog 107 [cD (lD 6 z01 p0),cD (.fn 88 [.cptr [lD 3 z02 p1_0]])] [] (cD (dI q)) []:=by
  refine Summ.intro Tryz.func107 rfl (by kernel_rfl) (by kernel_rfl) [] rfl ?_
  rintro ⟨P,w0,G0,V,LL,lk,N, φ0,fx⟩ rfl rfl rfl rfl
  unfold z0q at h
  refine Tri.sg [0,1] [] (z00 1) ?_
  refine Tri.seqS ?_
  refine Tri.sg [0,1,7,8] [] (z00 3) ?_
  refine Tri.ln 0 p0.length fun hlena2 => ?_
  refine Tri.rK 8 () (fun (x:Int) s=>RetAt Tryz.prog Tryz.f107 (cD (dI x)) [] s) (fun (a2:Unit)=>⟨[(0,cD (lD 6 z01 p0)),(1,cD (.fn 88 [.cptr [lD 3 z02 p1_0]])),(7,cD (dI (p0.length:Int)))],[]⟩) [8,0,1,7] [] [9,8,0,1,7] [] [0,1,7] [] [8,0,1,7] [] h hlena2 ?_ ?_ ?_
  ·intro i1 a2 c hii1 h
   refine Tri.sg [0,1,5,7,8] [] (z00 2) ?_
   refine Tri.seqS ?_
   refine Tri.reg ?_
   refine At.sg 5 [0,1,5,7,8,11,15] [] (tN 3 (ai (show ((0:Int)≤((i1:Nat):Int)∧((i1:Nat):Int) < (p0.length:Int)) from ⟨by omega,by omega⟩) (z00 1))) ?_
   obtain ⟨r4,hr4,h⟩:=z04 h
   refine At.cA [.cptr [lD 3 z02 p1_0]] [.agg (cUpdate (p0.getD i1 default)),cD (.cptr [lD 3 z02 p1_0])] (zem hr4) (.cons (.refl _) (.cons (.refl _) .nil)) ?_
   refine At.done rfl ?_
   refine Tri.condK h (fun h => ?_) (fun h => ?_)
   ·refine Tri.sg [4] [] (z00 2) ?_
    refine Tri.ret ?_
    cases h
    exact RetAt.k
   ·refine Tri.kp [8,0,1,7] [] ?_
    refine Tri.skip ?_
    cases h
    exact kr
  ·intro a3 h
   refine Tri.sg [4] [] (z00 1) ?_
   refine Tri.ret ?_
   cases h
   exact RetAt.k
  · exact fun x s hx hr=>by cases hx; exact hr
theorem z2q {p0:List Update} {p1_0:List Time} {q:Bool} (h:z0o p0 p1_0=some q) :
  Summ Tryz.prog 87 [cD (lD 6 z01 p0),cD (.fn 88 [.cptr [lD 3 z02 p1_0]])] [] (cD (.bool q)) []:=by
 refine Summ.intro Tryz.func87 rfl (by kernel_rfl) (by kernel_rfl) [] rfl ?_
 rintro ⟨P,w0,G0,V,LL,lk,N, φ0,fx⟩ rfl rfl rfl rfl
 unfold z0o at h
 refine Tri.sg [0,1] [] (z00 1) ?_
 refine Tri.seqS ?_
 refine Tri.reg ?_
 refine At.sg 2 [5,6] [] (z00 2) ?_
 obtain ⟨r1,hr1,h⟩:=z04 h
 refine At.cA [] [cD (lD 6 z01 p0),cD (.fn 88 [.cptr [lD 3 z02 p1_0]])] (z2t hr1) (.cons (.refl _) (.cons (.refl _) .nil)) ?_
 refine At.sg 2 [4] [] (z00 2) ?_
 refine At.done rfl ?_
 refine Tri.ret ?_
 cases h
 exact RetAt.k
theorem zbi {fuel:Nat} {p0:List Update} {p1:List Time} {q:Bool} (h:z6f fuel p0 p1=some q) :
    Summ Tryz.prog 47 [cD (lD 6 z01 p0),cD (lD 3 z02 p1)] [] (cD (.bool q)) []:=by
  refine Summ.intro Tryz.func47 rfl (by kernel_rfl) (by kernel_rfl) [] rfl ?_
  rintro ⟨P,w0,G0,V,LL,lk,N, φ0,fx⟩ rfl rfl rfl rfl
  unfold z6f at h
  refine Tri.sg [0,3] [3] (z00 2) ?_
  refine Tri.seqJ (fun (a1:Bool)=>⟨[(4,cD (.bool a1))],[]⟩) h (fun a1 h => ?_) (fun j2 h => ?_)
  ·refine Tri.ret ?_
   cases h
   exact RetAt.k
  ·refine Tri.reg ?_
   refine At.sg 1 [0,3,5] [3] (z00 1) ?_
   obtain ⟨r3,hr3,h⟩:=z04 h
   refine At.cA [] [cD (lD 6 z01 p0)] (zbm hr3) (.cons (.refl _) .nil) ?_
   refine At.sg 1 [0,3,7] [3] (z00 1) ?_
   refine At.cs [7] h (fun h => ?_) (fun h => ?_)
   ·refine At.seg 1 [3,7,8] [3] (s':=⟨[(3,.c (.ptr 3 0)),(7,cD (.bool true)),(8,cD (lD 6 z01 p0))],[(3,.box [.d (lD 3 z02 p1)])]⟩) (by kernel_rfl) (z00 1) ?_
    refine At.le [3] (fun k hk h=>by first | (cases h; done) | (simp at hk h; omega)) ⟨[(3,cD (.cptr [lD 3 z02 p1])),(7,cD (.bool true)),(8,cD (lD 6 z01 p0))],[]⟩ ⟨⟨_,rfl,.c (.box (ds:=[lD 3 z02 p1]) rfl (by simp))⟩,⟨_,rfl,.refl _⟩,⟨_,rfl,.refl _⟩,trivial⟩ trivial ?_
    refine At.seg 1 [9,3,7,8] [] (s':=⟨[(9,cD (.fn 88 [.cptr [lD 3 z02 p1]])),(3,cD (.cptr [lD 3 z02 p1])),(7,cD (.bool true)),(8,cD (lD 6 z01 p0))],[]⟩) (by kernel_rfl) (z00 1) ?_
    refine At.le [] (fun k hk=>by cases hk) ⟨[(9,cD (.fn 88 [.cptr [lD 3 z02 p1]])),(3,.c (.eptr [lD 3 z02 p1])),(7,cD (.bool true)),(8,cD (lD 6 z01 p0))],[]⟩ ⟨⟨_,rfl,.refl _⟩,⟨_,rfl,.c (.cptrE _)⟩,⟨_,rfl,.refl _⟩,⟨_,rfl,.refl _⟩,trivial⟩ trivial ?_
    obtain ⟨r4,hr4,h⟩:=z04 h
    refine At.cA [] [cD (lD 6 z01 p0),cD (.fn 88 [.cptr [lD 3 z02 p1]])] (z2q hr4) (.cons (.refl _) (.cons (.refl _) .nil)) ?_
    refine At.sg 3 [4] [] (z00 3) ?_
    refine At.done rfl ?_
    exact ⟨_,h,kr⟩
   ·refine At.sg 6 [4] [] (z00 2) ?_
    refine At.done rfl ?_
    exact ⟨_,h,kr⟩
theorem z86 {fuel:Nat} {p0:Batch} {q:Int} (h:z5t fuel p0=some q) :
    Summ Tryz.prog 15 [.agg (cBatch p0)] [] (cD (dI q)) []:=by
  refine Summ.intro Tryz.func15 rfl (by kernel_rfl) (by kernel_rfl) [] rfl ?_
  rintro ⟨P,w0,G0,V,LL,lk,N, φ0,fx⟩ rfl rfl rfl rfl
  unfold z5t at h
  refine Tri.sg [1] [1] (z00 2) ?_
  refine Tri.seqS ?_
  refine Tri.seqJ (fun (a1:Bool)=>⟨[(14,cD (.bool a1))],[]⟩) h (fun a1 h => ?_) (fun j2 h => ?_)
  ·refine Tri.condK h (fun h => ?_) (fun h => ?_)
   ·refine Tri.sg [2] [] (z00 1) ?_
    refine Tri.ret ?_
    cases h
    exact RetAt.k
   ·refine Tri.skip ?_
    refine Tri.sg [2] [] (z00 1) ?_
    refine Tri.ret ?_
    cases h
    exact RetAt.k
  ·refine Tri.reg ?_
   refine At.sg 2 [1,4] [1] (z00 2) ?_
   obtain ⟨r3,hr3,h⟩:=z04 h
   refine At.cA [] [cD (lD 3 z02 p0.since)] (z81 hr3) (.cons (.refl _) .nil) ?_
   refine At.sg 2 [1,7] [1] (z00 2) ?_
   refine At.cs [7] h (fun h => ?_) (fun h => ?_)
   ·refine At.sg 7 [14] [] (z00 1) ?_
    refine At.done rfl ?_
    exact ⟨_,h,kr⟩
   ·refine At.sg 4 [7,9,11] [] (z00 4) ?_
    obtain ⟨r4,hr4,h⟩:=z04 h
    refine At.cA [] [cD (lD 6 z01 p0.updates),cD (lD 3 z02 p0.since)] (zbi hr4) (.cons (.refl _) (.cons (.refl _) .nil)) ?_
    refine At.sg 2 [14] [] (z00 2) ?_
    refine At.done rfl ?_
    exact ⟨_,h,kr⟩
theorem z3s {p0:List Time} {p1_0:Time} {q:Int} (h:z0f p0 p1_0=some q) :
    Summ Tryz.prog 89 [cD (lD 3 z02 p0),cD (.fn 63 [.cptr [dU p1_0.epoch,dU p1_0.loop.1,dU p1_0.loop.2]])] [] (cD (dI q)) []:=by
  refine Summ.intro Tryz.func89 rfl (by kernel_rfl) (by kernel_rfl) [] rfl ?_
  rintro ⟨P,w0,G0,V,LL,lk,N, φ0,fx⟩ rfl rfl rfl rfl
  unfold z0f at h
  refine Tri.sg [0,1] [] (z00 1) ?_
  refine Tri.seqS ?_
  refine Tri.sg [0,1,7,8] [] (z00 3) ?_
  refine Tri.ln 0 p0.length fun hlena2 => ?_
  refine Tri.rK 8 () (fun (x:Int) s=>RetAt Tryz.prog Tryz.f89 (cD (dI x)) [] s) (fun (a2:Unit)=>⟨[(0,cD (lD 3 z02 p0)),(1,cD (.fn 63 [.cptr [dU p1_0.epoch,dU p1_0.loop.1,dU p1_0.loop.2]])),(7,cD (dI (p0.length:Int)))],[]⟩) [8,0,1,7] [] [9,8,0,1,7] [] [0,1,7] [] [8,0,1,7] [] h hlena2 ?_ ?_ ?_
  ·intro i1 a2 c hii1 h
   refine Tri.sg [0,1,5,7,8] [] (z00 2) ?_
   refine Tri.seqS ?_
   refine Tri.reg ?_
   refine At.sg 5 [0,1,5,7,8,11,15] [] (tN 3 (ai (show ((0:Int)≤((i1:Nat):Int)∧((i1:Nat):Int) < (p0.length:Int)) from ⟨by omega,by omega⟩) (z00 1))) ?_
   obtain ⟨r4,hr4,h⟩:=z04 h
   refine At.cA [.cptr [dU p1_0.epoch,dU p1_0.loop.1,dU p1_0.loop.2]] [.agg (cTime (p0.getD i1 default)),cD (.cptr [dU p1_0.epoch,dU p1_0.loop.1,dU p1_0.loop.2])] (zaa hr4) (.cons (.refl _) (.cons (.refl _) .nil)) ?_
   refine At.done rfl ?_
   refine Tri.condK h (fun h => ?_) (fun h => ?_)
   ·refine Tri.sg [4] [] (z00 2) ?_
    refine Tri.ret ?_
    cases h
    exact RetAt.k
   ·refine Tri.kp [8,0,1,7] [] ?_
    refine Tri.skip ?_
    cases h
    exact kr
  ·intro a3 h
   refine Tri.sg [4] [] (z00 1) ?_
   refine Tri.ret ?_
   cases h
   exact RetAt.k
  · exact fun x s hx hr=>by cases hx; exact hr
theorem z3n {p0:List Time} {p1_0:Time} {q:Bool} (h:z0d p0 p1_0=some q) :
  Summ Tryz.prog 51 [cD (lD 3 z02 p0),cD (.fn 63 [.cptr [dU p1_0.epoch,dU p1_0.loop.1,dU p1_0.loop.2]])] [] (cD (.bool q)) []:=by
 refine Summ.intro Tryz.func51 rfl (by kernel_rfl) (by kernel_rfl) [] rfl ?_
 rintro ⟨P,w0,G0,V,LL,lk,N, φ0,fx⟩ rfl rfl rfl rfl
 unfold z0d at h
 refine Tri.sg [0,1] [] (z00 1) ?_
 refine Tri.seqS ?_
 refine Tri.reg ?_
 refine At.sg 2 [5,6] [] (z00 2) ?_
 obtain ⟨r1,hr1,h⟩:=z04 h
 refine At.cA [] [cD (lD 3 z02 p0),cD (.fn 63 [.cptr [dU p1_0.epoch,dU p1_0.loop.1,dU p1_0.loop.2]])] (z3s hr1) (.cons (.refl _) (.cons (.refl _) .nil)) ?_
 refine At.sg 2 [4] [] (z00 2) ?_
 refine At.done rfl ?_
 refine Tri.ret ?_
 cases h
 exact RetAt.k
theorem zg1 {p0:List Time} {p1:Time} {q:Bool} (h:z4m p0 p1=some q) :
  Summ Tryz.prog 30 [cD (lD 3 z02 p0),.agg (cTime p1)] [] (cD (.bool q)) []:=by
 refine Summ.intro Tryz.func30 rfl (by kernel_rfl) (by kernel_rfl) [] rfl ?_
 rintro ⟨P,w0,G0,V,LL,lk,N, φ0,fx⟩ rfl rfl rfl rfl
 unfold z4m at h
 refine Tri.sg [0,3] [3] (z00 2) ?_
 refine Tri.seqS ?_
 refine Tri.reg ?_
 refine At.seg 1 [3,5] [3] (s':=⟨[(3,.c (.ptr 3 0)),(5,cD (lD 3 z02 p0))],[(3,.box (cTime p1))]⟩) (by kernel_rfl) (z00 1) ?_
 refine At.le [3] (fun k hk h=>by first | (cases h; done) | (simp at hk h; omega)) ⟨[(3,cD (.cptr [dU p1.epoch,dU p1.loop.1,dU p1.loop.2])),(5,cD (lD 3 z02 p0))],[]⟩ ⟨⟨_,rfl,.c (.box (ds:=[dU p1.epoch,dU p1.loop.1,dU p1.loop.2]) rfl (by simp))⟩,⟨_,rfl,.refl _⟩,trivial⟩ trivial ?_
 refine At.seg 1 [6,3,5] [] (s':=⟨[(6,cD (.fn 63 [.cptr [dU p1.epoch,dU p1.loop.1,dU p1.loop.2]])),(3,cD (.cptr [dU p1.epoch,dU p1.loop.1,dU p1.loop.2])),(5,cD (lD 3 z02 p0))],[]⟩) (by kernel_rfl) (z00 1) ?_
 refine At.le [] (fun k hk=>by cases hk) ⟨[(6,cD (.fn 63 [.cptr [dU p1.epoch,dU p1.loop.1,dU p1.loop.2]])),(3,.c (.eptr [dU p1.epoch,dU p1.loop.1,dU p1.loop.2])),(5,cD (lD 3 z02 p0))],[]⟩ ⟨⟨_,rfl,.refl _⟩,⟨_,rfl,.c (.cptrE _)⟩,⟨_,rfl,.refl _⟩,trivial⟩ trivial ?_
 obtain ⟨r1,hr1,h⟩:=z04 h
 refine At.cA [] [cD (lD 3 z02 p0),cD (.fn 63 [.cptr [dU p1.epoch,dU p1.loop.1,dU p1.loop.2]])] (z3n hr1) (.cons (.refl _) (.cons (.refl _) .nil)) ?_
 refine At.sg 1 [4] [] (z00 1) ?_
 refine At.done rfl ?_
 refine Tri.ret ?_
 cases h
 exact RetAt.k
theorem zg6 {p0:Time} {p1:List Time} {q:Bool} (h:z6b p0 p1=some q) :
  Summ Tryz.prog 50 [.agg (cTime p0),cD (.cptr [lD 3 z02 p1])] [] (cD (.bool q)) []:=by
 refine Summ.intro Tryz.func50 rfl (by kernel_rfl) (by kernel_rfl) [] rfl ?_
 rintro ⟨P,w0,G0,V,LL,lk,N, φ0,fx⟩ rfl rfl rfl rfl
 unfold z6b at h
 refine Tri.le [] (fun k hk=>by cases hk) ⟨[(0,.agg (cTime p0)),(1,.c (.eptr [lD 3 z02 p1]))],[]⟩ ⟨⟨_,rfl,.refl _⟩,⟨_,rfl,.c (.cptrE _)⟩,trivial⟩ trivial ?_
 refine Tri.sg [1,2] [2] (z00 2) ?_
 refine Tri.seqS ?_
 refine Tri.reg ?_
 refine At.sg 2 [4,5] [] (z00 2) ?_
 obtain ⟨r1,hr1,h⟩:=z04 h
 refine At.cA [] [cD (lD 3 z02 p1),.agg (cTime p0)] (zg1 hr1) (.cons (.refl _) (.cons (.refl _) .nil)) ?_
 refine At.sg 2 [3] [] (z00 2) ?_
 refine At.done rfl ?_
 refine Tri.ret ?_
 cases h
 exact RetAt.k
theorem z3h {p0:List Time} {p1_0:List Time} {q:Int} (h:z0x p0 p1_0=some q) :
    Summ Tryz.prog 89 [cD (lD 3 z02 p0),cD (.fn 50 [.cptr [lD 3 z02 p1_0]])] [] (cD (dI q)) []:=by
  refine Summ.intro Tryz.func89 rfl (by kernel_rfl) (by kernel_rfl) [] rfl ?_
  rintro ⟨P,w0,G0,V,LL,lk,N, φ0,fx⟩ rfl rfl rfl rfl
  unfold z0x at h
  refine Tri.sg [0,1] [] (z00 1) ?_
  refine Tri.seqS ?_
  refine Tri.sg [0,1,7,8] [] (z00 3) ?_
  refine Tri.ln 0 p0.length fun hlena2 => ?_
  refine Tri.rK 8 () (fun (x:Int) s=>RetAt Tryz.prog Tryz.f89 (cD (dI x)) [] s) (fun (a2:Unit)=>⟨[(0,cD (lD 3 z02 p0)),(1,cD (.fn 50 [.cptr [lD 3 z02 p1_0]])),(7,cD (dI (p0.length:Int)))],[]⟩) [8,0,1,7] [] [9,8,0,1,7] [] [0,1,7] [] [8,0,1,7] [] h hlena2 ?_ ?_ ?_
  ·intro i1 a2 c hii1 h
   refine Tri.sg [0,1,5,7,8] [] (z00 2) ?_
   refine Tri.seqS ?_
   refine Tri.reg ?_
   refine At.sg 5 [0,1,5,7,8,11,15] [] (tN 3 (ai (show ((0:Int)≤((i1:Nat):Int)∧((i1:Nat):Int) < (p0.length:Int)) from ⟨by omega,by omega⟩) (z00 1))) ?_
   obtain ⟨r4,hr4,h⟩:=z04 h
   refine At.cA [.cptr [lD 3 z02 p1_0]] [.agg (cTime (p0.getD i1 default)),cD (.cptr [lD 3 z02 p1_0])] (zg6 hr4) (.cons (.refl _) (.cons (.refl _) .nil)) ?_
   refine At.done rfl ?_
   refine Tri.condK h (fun h => ?_) (fun h => ?_)
   ·refine Tri.sg [4] [] (z00 2) ?_
    refine Tri.ret ?_
    cases h
    exact RetAt.k
   ·refine Tri.kp [8,0,1,7] [] ?_
    refine Tri.skip ?_
    cases h
    exact kr
  ·intro a3 h
   refine Tri.sg [4] [] (z00 1) ?_
   refine Tri.ret ?_
   cases h
   exact RetAt.k
  · exact fun x s hx hr=>by cases hx; exact hr
theorem z37 {p0:List Time} {p1_0:List Time} {q:Bool} (h:z0h p0 p1_0=some q) :
  Summ Tryz.prog 51 [cD (lD 3 z02 p0),cD (.fn 50 [.cptr [lD 3 z02 p1_0]])] [] (cD (.bool q)) []:=by
 refine Summ.intro Tryz.func51 rfl (by kernel_rfl) (by kernel_rfl) [] rfl ?_
 rintro ⟨P,w0,G0,V,LL,lk,N, φ0,fx⟩ rfl rfl rfl rfl
 unfold z0h at h
 refine Tri.sg [0,1] [] (z00 1) ?_
 refine Tri.seqS ?_
 refine Tri.reg ?_
 refine At.sg 2 [5,6] [] (z00 2) ?_
 obtain ⟨r1,hr1,h⟩:=z04 h
 refine At.cA [] [cD (lD 3 z02 p0),cD (.fn 50 [.cptr [lD 3 z02 p1_0]])] (z3h hr1) (.cons (.refl _) (.cons (.refl _) .nil)) ?_
 refine At.sg 2 [4] [] (z00 2) ?_
 refine At.done rfl ?_
 refine Tri.ret ?_
 cases h
 exact RetAt.k
theorem z80 {p0:List Time} {p1:List Time} {q:Bool} (h:z5r p0 p1=some q) :
    Summ Tryz.prog 17 [cD (lD 3 z02 p0),cD (lD 3 z02 p1)] [] (cD (.bool q)) []:=by
  refine Summ.intro Tryz.func17 rfl (by kernel_rfl) (by kernel_rfl) [] rfl ?_
  rintro ⟨P,w0,G0,V,LL,lk,N, φ0,fx⟩ rfl rfl rfl rfl
  unfold z5r at h
  refine Tri.segL [0,3] [3] ⟨[(0,cD (lD 3 z02 p0)),(3,.c (.ptr 3 0))],[(3,.box [.d (lD 3 z02 p1)])]⟩ _ (by kernel_rfl) (z00 2) ?_
  refine Tri.seqS ?_
  refine Tri.reg ?_
  refine At.le [3] (fun k hk h=>by first | (cases h; done) | (simp at hk h; omega)) ⟨[(0,cD (lD 3 z02 p0)),(3,cD (.cptr [lD 3 z02 p1]))],[]⟩ ⟨⟨_,rfl,.refl _⟩,⟨_,rfl,.c (.box (ds:=[lD 3 z02 p1]) rfl (by simp))⟩,trivial⟩ trivial ?_
  refine At.seg 1 [6,0,3] [] (s':=⟨[(6,cD (.fn 50 [.cptr [lD 3 z02 p1]])),(0,cD (lD 3 z02 p0)),(3,cD (.cptr [lD 3 z02 p1]))],[]⟩) (by kernel_rfl) (z00 1) ?_
  refine At.le [] (fun k hk=>by cases hk) ⟨[(6,cD (.fn 50 [.cptr [lD 3 z02 p1]])),(0,cD (lD 3 z02 p0)),(3,.c (.eptr [lD 3 z02 p1]))],[]⟩ ⟨⟨_,rfl,.refl _⟩,⟨_,rfl,.refl _⟩,⟨_,rfl,.c (.cptrE _)⟩,trivial⟩ trivial ?_
  refine At.sg 1 [0,3,5] [] (z00 1) ?_
  refine At.done rfl ?_
  refine Tri.seqJ (fun (a1:Bool)=>⟨[(4,cD (.bool a1))],[]⟩) h (fun a1 h => ?_) (fun j2 h => ?_)
  ·refine Tri.ret ?_
   cases h
   exact RetAt.k
  ·refine Tri.reg ?_
   refine At.sg 4 [0,5,10] [] (z00 4) ?_
   refine At.cs [10] h (fun h => ?_) (fun h => ?_)
   ·refine At.sg 11 [4] [] (z00 2) ?_
    refine At.done rfl ?_
    exact ⟨_,h,kr⟩
   ·refine At.sg 4 [0,5,10,14] [] (z00 4) ?_
    refine At.cs [14] h (fun h => ?_) (fun h => ?_)
    ·refine At.sg 2 [10,14,15,16] [] (z00 2) ?_
     obtain ⟨r3,hr3,h⟩:=z04 h
     refine At.cA [] [cD (lD 3 z02 p0),cD (.fn 50 [.cptr [lD 3 z02 p1]])] (z37 hr3) (.cons (.refl _) (.cons (.refl _) .nil)) ?_
     refine At.sg 4 [4] [] (z00 4) ?_
     refine At.done rfl ?_
     exact ⟨_,h,kr⟩
    ·refine At.sg 7 [4] [] (z00 3) ?_
     refine At.done rfl ?_
     exact ⟨_,h,kr⟩
theorem zes {p0:Merger} {q:Merger} (h:z7q p0=some q) :
  Summ Tryz.prog 54 [.agg (cMerger p0)] [] (.agg (cMerger q)) []:=by
 refine Summ.intro Tryz.func54 rfl (by kernel_rfl) (by kernel_rfl) [] rfl ?_
 rintro ⟨P,w0,G0,V,LL,lk,N, φ0,fx⟩ rfl rfl rfl rfl
 unfold z7q at h
 refine Tri.sg [1,2] [1,2] (z00 2) ?_
 refine Tri.seqS ?_
 obtain ⟨r1,hr1,h⟩:=z04 h
 obtain ⟨r2,hr2,h⟩:=z04 h
 obtain ⟨r3,hr3,h⟩:=z04 h
 obtain ⟨r4,hr4,h⟩:=z04 h
 refine Tri.dC [.a [1] [],.a [3] [1],.m ⟨[(4,cD (lD 6 z01 p0.a))],[]⟩ ⟨[(5,cD (lD 6 z01 r1))],[]⟩ [] [] [],.a [1] [],.a [6] [1],.m ⟨[(7,cD (lD 6 z01 p0.b))],[]⟩ ⟨[(8,cD (lD 6 z01 r2))],[]⟩ [] [] [],.a [1] [],.a [9] [1],.m ⟨[(10,cD (lD 6 z01 p0.out))],[]⟩ ⟨[(11,cD (lD 6 z01 r3))],[]⟩ [] [] [],.a [1] [],.a [12] [1],.m ⟨[(13,cD (lD 3 z02 p0.since))],[]⟩ ⟨[(14,cD (lD 3 z02 r4))],[]⟩ [] [] [],.a [1] [],.m ⟨[(5,cD (lD 6 z01 r1)),(15,.c (.ptr 1 0))],[(1,.box (cMerger p0))]⟩ ⟨[],[(1,.box [.d (lD 6 z01 r1),.d (lD 6 z01 p0.b),.d (dI p0.i),.d (dI p0.j),.d (lD 3 z02 p0.since),.d (lD 6 z01 p0.out)])]⟩ [] [] [],.a [1] [],.m ⟨[(8,cD (lD 6 z01 r2)),(16,.c (.ptr 1 1))],[(1,.box [.d (lD 6 z01 r1),.d (lD 6 z01 p0.b),.d (dI p0.i),.d (dI p0.j),.d (lD 3 z02 p0.since),.d (lD 6 z01 p0.out)])]⟩ ⟨[],[(1,.box [.d (lD 6 z01 r1),.d (lD 6 z01 r2),.d (dI p0.i),.d (dI p0.j),.d (lD 3 z02 p0.since),.d (lD 6 z01 p0.out)])]⟩ [] [] [],.a [1] [],.m ⟨[(11,cD (lD 6 z01 r3)),(17,.c (.ptr 1 5))],[(1,.box [.d (lD 6 z01 r1),.d (lD 6 z01 r2),.d (dI p0.i),.d (dI p0.j),.d (lD 3 z02 p0.since),.d (lD 6 z01 p0.out)])]⟩ ⟨[],[(1,.box [.d (lD 6 z01 r1),.d (lD 6 z01 r2),.d (dI p0.i),.d (dI p0.j),.d (lD 3 z02 p0.since),.d (lD 6 z01 r3)])]⟩ [] [] [],.a [1] [],.m ⟨[(14,cD (lD 3 z02 r4)),(18,.c (.ptr 1 4))],[(1,.box [.d (lD 6 z01 r1),.d (lD 6 z01 r2),.d (dI p0.i),.d (dI p0.j),.d (lD 3 z02 p0.since),.d (lD 6 z01 r3)])]⟩ ⟨[],[(1,.box [.d (lD 6 z01 r1),.d (lD 6 z01 r2),.d (dI p0.i),.d (dI p0.j),.d (lD 3 z02 r4),.d (lD 6 z01 r3)])]⟩ [] [] []] [1,2] [1,2] (z00 12) (.a (.a (.m ?_ (.a (.a (.m ?_ (.a (.a (.m ?_ (.a (.a (.m ?_ (.a (.m ?_ (.a (.m ?_ (.a (.m ?_ (.a (.m ?_ .z)))))))))))))))))))) ?_
 ·exact DOk.cA [] [cD (lD 6 z01 p0.a)] (z7j hr1) fun r=>(.cons (.refl _) .nil)
 ·exact DOk.cA [] [cD (lD 6 z01 p0.b)] (z7j hr2) fun r=>(.cons (.refl _) .nil)
 ·exact DOk.cA [] [cD (lD 6 z01 p0.out)] (z7j hr3) fun r=>(.cons (.refl _) .nil)
 ·exact DOk.cA [] [cD (lD 3 z02 p0.since)] (z21 hr4) fun r=>(.cons (.refl _) .nil)
 ·exact DOk.step (.turn 1 (.box [.d (lD 6 z01 r1),.d (lD 6 z01 p0.b),.d (dI p0.i),.d (dI p0.j),.d (lD 3 z02 p0.since),.d (lD 6 z01 p0.out)])) (fun r=>by kernel_rfl) (fun r=>by kernel_rfl) trivial (by kernel_rfl) (by kernel_rfl) (fun r=>rfl)
 ·exact DOk.step (.turn 1 (.box [.d (lD 6 z01 r1),.d (lD 6 z01 r2),.d (dI p0.i),.d (dI p0.j),.d (lD 3 z02 p0.since),.d (lD 6 z01 p0.out)])) (fun r=>by kernel_rfl) (fun r=>by kernel_rfl) trivial (by kernel_rfl) (by kernel_rfl) (fun r=>rfl)
 ·exact DOk.step (.turn 1 (.box [.d (lD 6 z01 r1),.d (lD 6 z01 r2),.d (dI p0.i),.d (dI p0.j),.d (lD 3 z02 p0.since),.d (lD 6 z01 r3)])) (fun r=>by kernel_rfl) (fun r=>by kernel_rfl) trivial (by kernel_rfl) (by kernel_rfl) (fun r=>rfl)
 ·exact DOk.step (.turn 1 (.box [.d (lD 6 z01 r1),.d (lD 6 z01 r2),.d (dI p0.i),.d (dI p0.j),.d (lD 3 z02 r4),.d (lD 6 z01 r3)])) (fun r=>by kernel_rfl) (fun r=>by kernel_rfl) trivial (by kernel_rfl) (by kernel_rfl) (fun r=>rfl)
 refine Tri.sg [2] [2] (z00 2) ?_
 refine Tri.ret ?_
 cases h
 exact RetAt.k
theorem zhk {fuel:Nat} {p0:List Time} {p1:Batch} {p2:Batch} {q:Merger × Int} (h:zcd fuel p0 p1 p2=some q) :
    Summ Tryz.prog 24 [cD (lD 3 z02 p0),.agg (cBatch p1),.agg (cBatch p2)] [] (.tup [(true,[.d (lD 6 z01 q.1.a),.d (lD 6 z01 q.1.b),.d (dI q.1.i),.d (dI q.1.j),.d (lD 3 z02 q.1.since),.d (lD 6 z01 q.1.out)]),(false,[.d (dI q.2)])]) []:=by
  refine Summ.intro Tryz.func24 rfl (by kernel_rfl) (by kernel_rfl) [] rfl ?_
  rintro ⟨P,w0,G0,V,LL,lk,N, φ0,fx⟩ rfl rfl rfl rfl
  unfold zcd at h
  refine Tri.sg [0,4,5,6] [4,5,6] (z00 4) ?_
  refine Tri.seqS ?_
  refine Tri.blockB ?_
  refine Tri.seqJ (fun (a1:Bool)=>⟨[(0,cD (lD 3 z02 p0)),(4,.c (.ptr 4 0)),(5,.c (.ptr 5 0)),(6,.c (.ptr 6 0)),(8,cD (.bool a1))],[(4,.box (cBatch p1)),(5,.box (cBatch p2)),(6,.box [.zero,.zero,.d (dI 0),.d (dI 0),.zero,.zero])]⟩) h (fun a1 h => ?_) (fun j2 h => ?_)
  ·refine Tri.condK h (fun h => ?_) (fun h => ?_)
   ·refine Tri.sg [6,7] [6] (z00 3) ?_
    refine Tri.keep [6,7] [6] (s':=⟨[(6,.c (.ptr 6 0)),(7,cD (dI 4))],[(6,.box [.zero,.zero,.d (dI 0),.d (dI 0),.zero,.zero])]⟩) (by kernel_rfl) ?_
    refine Tri.le [] (fun k hk=>by cases hk) ⟨[(6,.c (.ptr 6 0)),(7,cD (dI 4))],[(6,.box [.d (lD 6 z01 ([]:List Update)),.d (lD 6 z01 ([]:List Update)),.d (dI 0),.d (dI 0),.d (lD 3 z02 ([]:List Time)),.d (lD 6 z01 ([]:List Update))])]⟩ ⟨⟨_,rfl,.refl _⟩,⟨_,rfl,.refl _⟩,trivial⟩ ⟨⟨_,rfl,.box (.cons (.zero _ _) (.cons (.zero _ _) (.cons (.refl _) (.cons (.refl _) (.cons (.zero _ _) (.cons (.zero _ _) .nil)))))),(by simp)⟩,trivial⟩ ?_
    refine Tri.ret ?_
    cases h
    exact RetAt.k
   ·refine Tri.seqJ (fun (a3:Bool)=>⟨[(0,cD (lD 3 z02 p0)),(4,.c (.ptr 4 0)),(5,.c (.ptr 5 0)),(6,.c (.ptr 6 0)),(19,cD (.bool a3))],[(4,.box (cBatch p1)),(5,.box (cBatch p2)),(6,.box [.zero,.zero,.d (dI 0),.d (dI 0),.zero,.zero])]⟩) h (fun a3 h => ?_) (fun j4 h => ?_)
    ·refine Tri.condK h (fun h => ?_) (fun h => ?_)
     ·refine Tri.sg [6,7] [6] (z00 3) ?_
      refine Tri.keep [6,7] [6] (s':=⟨[(6,.c (.ptr 6 0)),(7,cD (dI 1))],[(6,.box [.zero,.zero,.d (dI 0),.d (dI 0),.zero,.zero])]⟩) (by kernel_rfl) ?_
      refine Tri.le [] (fun k hk=>by cases hk) ⟨[(6,.c (.ptr 6 0)),(7,cD (dI 1))],[(6,.box [.d (lD 6 z01 ([]:List Update)),.d (lD 6 z01 ([]:List Update)),.d (dI 0),.d (dI 0),.d (lD 3 z02 ([]:List Time)),.d (lD 6 z01 ([]:List Update))])]⟩ ⟨⟨_,rfl,.refl _⟩,⟨_,rfl,.refl _⟩,trivial⟩ ⟨⟨_,rfl,.box (.cons (.zero _ _) (.cons (.zero _ _) (.cons (.refl _) (.cons (.refl _) (.cons (.zero _ _) (.cons (.zero _ _) .nil)))))),(by simp)⟩,trivial⟩ ?_
      refine Tri.ret ?_
      cases h
      exact RetAt.k
     ·refine Tri.skip ?_
      refine Tri.seqS ?_
      refine Tri.reg ?_
      refine At.sg 6 [6,36] [6] (z00 6) ?_
      obtain ⟨r5,hr5,h⟩:=z04 h
      refine At.cA [] [.agg [.d (lD 6 z01 p1.updates),.d (lD 6 z01 p2.updates),.d (dI 0),.d (dI 0),.d (lD 3 z02 p0),.zero]] (zes hr5) (.cons (.agg (.cons (.le (.refl _)) (.cons (.le (.refl _)) (.cons (.le (.refl _)) (.cons (.le (.refl _)) (.cons (.le (.refl _)) (.cons (.le (.zero _ _)) .nil))))))) .nil) ?_
      refine At.sg 2 [6,7] [6] (z00 2) ?_
      refine At.done rfl ?_
      refine Tri.ret ?_
      cases h
      exact RetAt.k
    ·refine Tri.seqS ?_
     refine Tri.reg ?_
     refine At.sg 3 [0,4,5,6,20,22] [4,5,6] (z00 3) ?_
     obtain ⟨r6,hr6,h⟩:=z04 h
     refine At.cA [] [cD (lD 3 z02 p0),cD (lD 3 z02 p1.since)] (z80 hr6) (.cons (.refl _) (.cons (.refl _) .nil)) ?_
     refine At.sg 2 [0,4,5,6,19] [4,5,6] (z00 2) ?_
     refine At.done rfl ?_
     refine Tri.condK h (fun h => ?_) (fun h => ?_)
     ·refine Tri.kp [0,4,5,6,19] [4,5,6] ?_
      refine Tri.skip ?_
      exact ⟨_,h,kr⟩
     ·refine Tri.reg ?_
      refine At.sg 3 [0,4,5,6,25,27] [4,5,6] (z00 3) ?_
      obtain ⟨r7,hr7,h⟩:=z04 h
      refine At.cA [] [cD (lD 3 z02 p0),cD (lD 3 z02 p2.since)] (z80 hr7) (.cons (.refl _) (.cons (.refl _) .nil)) ?_
      refine At.sg 2 [0,4,5,6,19] [4,5,6] (z00 2) ?_
      refine At.done rfl ?_
      exact ⟨_,h,kr⟩
  ·refine Tri.seqS ?_
   refine Tri.reg ?_
   refine At.sg 1 [0,4,5,6,9] [4,5,6] (z00 1) ?_
   obtain ⟨r8,hr8,h⟩:=z04 h
   refine At.cA [] [.agg (cBatch p1)] (z86 hr8) (.cons (.refl _) .nil) ?_
   refine At.sg 2 [0,4,5,6,8] [4,5,6] (z00 2) ?_
   refine At.done rfl ?_
   refine Tri.condK h (fun h => ?_) (fun h => ?_)
   ·refine Tri.kp [0,4,5,6,8] [4,5,6] ?_
    refine Tri.skip ?_
    exact ⟨_,h,kr⟩
   ·refine Tri.seqS ?_
    refine Tri.reg ?_
    refine At.sg 1 [0,4,5,6,12] [4,5,6] (z00 1) ?_
    obtain ⟨r9,hr9,h⟩:=z04 h
    refine At.cA [] [.agg (cBatch p2)] (z86 hr9) (.cons (.refl _) .nil) ?_
    refine At.sg 2 [0,4,5,6,8] [4,5,6] (z00 2) ?_
    refine At.done rfl ?_
    refine Tri.condK h (fun h => ?_) (fun h => ?_)
    ·refine Tri.kp [0,4,5,6,8] [4,5,6] ?_
     refine Tri.skip ?_
     exact ⟨_,h,kr⟩
    ·refine Tri.reg ?_
     refine At.sg 1 [0,4,5,6,15] [4,5,6] (z00 1) ?_
     obtain ⟨r10,hr10,h⟩:=z04 h
     refine At.cA [] [cD (lD 3 z02 p0)] (z81 hr10) (.cons (.refl _) .nil) ?_
     refine At.sg 2 [0,4,5,6,8] [4,5,6] (z00 2) ?_
     refine At.done rfl ?_
     exact ⟨_,h,kr⟩
theorem z8g {p0:Update} {p1:Update} {q:Int} (h:z85 p0 p1=some q) :
  Summ Tryz.prog 95 [.agg (cUpdate p0),.agg (cUpdate p1)] [] (cD (dI q)) []:=by
 refine Summ.intro Tryz.func95 rfl (by kernel_rfl) (by kernel_rfl) [] rfl ?_
 rintro ⟨P,w0,G0,V,LL,lk,N, φ0,fx⟩ rfl rfl rfl rfl
 unfold z85 at h
 refine Tri.sg [2,3] [2,3] (z00 3) ?_
 refine Tri.seqS ?_
 obtain ⟨r1,hr1,h⟩:=z04 h
 obtain ⟨r2,hr2,h⟩:=z04 h
 obtain ⟨r3,hr3,h⟩:=z04 h
 refine Tri.dC [.a [2] [],.a [5] [2],.a [3] [],.a [7] [3],.m ⟨[(6,cD (lD 3 z05 p0.key)),(8,cD (lD 3 z05 p1.key))],[]⟩ ⟨[(9,cD (dI r1))],[]⟩ [] [] [],.a [2] [],.a [10] [2],.a [3] [],.a [12] [3],.m ⟨[(11,cD (lD 3 z05 p0.row)),(13,cD (lD 3 z05 p1.row))],[]⟩ ⟨[(14,cD (dI r2))],[]⟩ [] [] [],.m ⟨[(9,cD (dI r1)),(14,cD (dI r2))],[]⟩ ⟨[(15,.c (oC 15 1 ([r1,r2]:List Int)))],[(15,vL 1 (z2d .i64) ([r1,r2]:List Int))]⟩ [15] [] [],.m ⟨[(15,.c (oC 15 1 ([r1,r2]:List Int)))],[(15,vL 1 (z2d .i64) ([r1,r2]:List Int))]⟩ ⟨[(16,cD (dI r3))],[]⟩ [] [] [],.a [16] []] [4] [] (z00 9) (.a (.a (.a (.a (.m ?_ (.a (.a (.a (.a (.m ?_ (.m ?_ (.m ?_ (.a .z))))))))))))) ?_
 ·exact DOk.cA [] [cD (lD 3 z05 p0.key),cD (lD 3 z05 p1.key)] (z8i hr1) fun r=>(.cons (.refl _) (.cons (.refl _) .nil))
 ·exact DOk.cA [] [cD (lD 3 z05 p0.row),cD (lD 3 z05 p1.row)] (z8i hr2) fun r=>(.cons (.refl _) (.cons (.refl _) .nil))
 ·exact DOk.one fun r hr=>One.buildT (e:=3) (es:=1) (z:=[.d (dI 0)]) (cells:=[.d (dI r1),.d (dI r2)]) (z2d .i64) ([r1,r2]:List Int) rfl (by kernel_rfl) rfl rfl (St.noRef_app (by kernel_rfl) (hr 15 (by simp))) (by kernel_rfl) rfl (by kernel_rfl) rfl rfl rfl (by kernel_rfl) rfl ⟨⟨rfl,.refl _⟩,⟨rfl,.refl _⟩,trivial⟩
 ·exact DOk.cA [] [.c (oC 15 1 ([r1,r2]:List Int))] (z8k hr3) fun r=>(.cons (AVArg.view (z2d .i64) ([r1,r2]:List Int) rfl) .nil)
 refine Tri.ret ?_
 cases h
 exact RetAt.k
theorem zet {p0:List Update} {p1:Int} {p2:List Update} {q:Bool} (h:zc3 p0 p1 p2=some q) :
    Summ Tryz.prog 60 [cD (lD 6 z01 p0),cD (dI p1),cD (lD 6 z01 p2)] [] (cD (.bool q)) []:=by
  refine Summ.intro Tryz.func60 rfl (by kernel_rfl) (by kernel_rfl) [] rfl ?_
  rintro ⟨P,w0,G0,V,LL,lk,N, φ0,fx⟩ rfl rfl rfl rfl
  unfold zc3 at h
  refine Tri.sg [0,1,2] [] (z00 1) ?_
  refine Tri.seqS ?_
  refine Tri.seqJ (fun (a1:Bool)=>⟨[(0,cD (lD 6 z01 p0)),(1,cD (dI p1)),(2,cD (lD 6 z01 p2)),(14,cD (.bool a1))],[]⟩) h (fun a1 h => ?_) (fun j2 h => ?_)
  ·refine Tri.condK h (fun h => ?_) (fun h => ?_)
   ·refine Tri.sg [6] [] (z00 1) ?_
    refine Tri.ret ?_
    cases h
    exact RetAt.k
   ·refine Tri.skip ?_
    refine Tri.seqS ?_
    refine Tri.segL [0,1,2,18] [] ⟨[(0,cD (lD 6 z01 p0)),(1,cD (dI p1)),(2,cD (lD 6 z01 p2)),(18,cD (.bool (decide (p1=(p0.length:Int)))))],[]⟩ _ (by kernel_rfl) (z00 4) ?_
    refine Tri.condK h (fun h => ?_) (fun h => ?_)
    ·refine Tri.sg [6] [] (z00 1) ?_
     refine Tri.ret ?_
     cases h
     exact RetAt.k
    ·refine Tri.skip ?_
     refine Tri.seqS ?_
     refine Tri.seqJ (fun (a3:Bool)=>⟨[(0,cD (lD 6 z01 p0)),(1,cD (dI p1)),(2,cD (lD 6 z01 p2)),(33,cD (.bool a3))],[]⟩) h (fun a3 h => ?_) (fun j4 h => ?_)
     ·refine Tri.eqS ⟨[(0,cD (lD 6 z01 p0)),(1,cD (dI p1)),(2,cD (lD 6 z01 p2)),(33,cD (.bool a3))],[]⟩ kr ?_
      refine Tri.condK h (fun h => ?_) (fun h => ?_)
      ·refine Tri.sg [6] [] (z00 1) ?_
       refine Tri.ret ?_
       cases h
       exact RetAt.k
      ·refine Tri.skip ?_
       refine Tri.seqJ (fun (a5:Bool)=>⟨[(6,cD (.bool a5))],[]⟩) h (fun a5 h => ?_) (fun j6 h => ?_)
       ·refine Tri.ret ?_
        cases h
        exact RetAt.k
       ·rcases z1f h with ⟨hp7,h⟩ | ⟨hp7,h⟩
        ·refine Tri.dC [.a [2] [],.a [34] [],.a [35] [],.m ⟨[(36,cD (.bool (decide ((p2.length:Int)=0))))],[]⟩ ⟨[(37,.c (.d (.bool true)))],[]⟩ [] [] [],.a [2,37] [],.a [2,37] [],.a [37,39] [],.a [37,40] [],.a [37,38,41] [],.a [37,42] [],.a [0,37] [],.a [1,37] [],.a [37,44,45] [],.a [37,46] [],.a [37,43,47] [],.a [37,48] [],.a [37,49] [],.a [50] []] [6] [] (z00 5) (.a (.a (.a (.m ?_ (.a (.a (.a (.a (.a (.a (.a (.a (.a (.a (.a (.a (.a (.a .z)))))))))))))))))) ?_
         · exact DOk.stepP (fun b => .val (.c (.d (.bool b))) (True)) (p:=(decide ((p2.length:Int)=0))) hp7 (fun r=>by kernel_rfl) (fun r=>by kernel_rfl) trivial (by kernel_rfl) (by kernel_rfl) (fun r=>rfl)
         exact ⟨_,h,kr⟩
        ·obtain ⟨hc8,h⟩:=z03 h
         obtain ⟨hc9,h⟩:=z03 h
         obtain ⟨r10,hr10,h⟩:=z04 h
         refine Tri.dC [.a [2] [],.a [34] [],.a [35] [],.m ⟨[(36,cD (.bool (decide ((p2.length:Int)=0))))],[]⟩ ⟨[(37,.c (.d (.bool false)))],[]⟩ [] [] [],.a [2,37] [],.a [2,37] [],.a [37,39] [],.a [37,40] [],.a [37,38,41] [],.a [37,42] [],.a [0,37] [],.a [1,37] [],.a [37,44,45] [],.a [37,46] [],.m ⟨[(37,cD (.bool false)),(43,.agg (cUpdate (p2.getD ((IntKind.i64.wrap ((p2.length:Int) - 1)).toNat) default))),(47,.agg (cUpdate (p0.getD p1.toNat default)))],[]⟩ ⟨[(48,cD (dI r10))],[]⟩ [] [] [],.a [37,48] [],.a [37,49] [],.a [50] []] [6] [] (tN 7 (ai hc8 (tN 3 (ai hc9 (z00 4))))) (.a (.a (.a (.m ?_ (.a (.a (.a (.a (.a (.a (.a (.a (.a (.a (.m ?_ (.a (.a (.a .z)))))))))))))))))) ?_
         · exact DOk.stepP (fun b => .val (.c (.d (.bool b))) (True)) (p:=(decide ((p2.length:Int)=0))) hp7 (fun r=>by kernel_rfl) (fun r=>by kernel_rfl) trivial (by kernel_rfl) (by kernel_rfl) (fun r=>rfl)
         · exact DOk.cA [] [.agg (cUpdate (p2.getD ((IntKind.i64.wrap ((p2.length:Int) - 1)).toNat) default)),.agg (cUpdate (p0.getD p1.toNat default))] (z8g hr10) fun r=>(.cons (.refl _) (.cons (.refl _) .nil))
         exact ⟨_,h,kr⟩
     ·rcases z1f h with ⟨hp11,h⟩ | ⟨hp11,h⟩
      ·obtain ⟨hc12,h⟩:=z03 h
       obtain ⟨hc13,h⟩:=z03 h
       obtain ⟨r14,hr14,h⟩:=z04 h
       refine Tri.dC [.a [1] [],.a [19] [],.m ⟨[(20,cD (.bool (decide (0 < p1))))],[]⟩ ⟨[(21,.c (.d (.bool true)))],[]⟩ [] [] [],.a [0,21] [],.a [1,21] [],.a [21,23] [],.a [21,22,24] [],.a [21,25] [],.a [0,21] [],.a [1,21] [],.a [21,27,28] [],.a [21,29] [],.m ⟨[(21,cD (.bool true)),(26,.agg (cUpdate (p0.getD ((IntKind.i64.wrap (p1 - 1)).toNat) default))),(30,.agg (cUpdate (p0.getD p1.toNat default)))],[]⟩ ⟨[(31,cD (dI r14))],[]⟩ [] [] [],.a [21,31] [],.a [21,32] []] [0,1,2,33] [] (tN 5 (ai hc12 (tN 3 (ai hc13 (z00 3))))) (.a (.a (.m ?_ (.a (.a (.a (.a (.a (.a (.a (.a (.a (.m ?_ (.a (.a .z))))))))))))))) ?_
       · exact DOk.stepP (fun b => .val (.c (.d (.bool b))) (True)) (p:=(decide (0 < p1))) hp11 (fun r=>by kernel_rfl) (fun r=>by kernel_rfl) trivial (by kernel_rfl) (by kernel_rfl) (fun r=>rfl)
       · exact DOk.cA [] [.agg (cUpdate (p0.getD ((IntKind.i64.wrap (p1 - 1)).toNat) default)),.agg (cUpdate (p0.getD p1.toNat default))] (z8g hr14) fun r=>(.cons (.refl _) (.cons (.refl _) .nil))
       exact ⟨_,h,kr⟩
      ·refine Tri.dC [.a [1] [],.a [19] [],.m ⟨[(20,cD (.bool (decide (0 < p1))))],[]⟩ ⟨[(21,.c (.d (.bool false)))],[]⟩ [] [] [],.a [0,21] [],.a [1,21] [],.a [21,23] [],.a [21,22,24] [],.a [21,25] [],.a [0,21] [],.a [1,21] [],.a [21,27,28] [],.a [21,29] [],.a [21,26,30] [],.a [21,31] [],.a [21,32] []] [0,1,2,33] [] (z00 3) (.a (.a (.m ?_ (.a (.a (.a (.a (.a (.a (.a (.a (.a (.a (.a (.a .z))))))))))))))) ?_
       · exact DOk.stepP (fun b => .val (.c (.d (.bool b))) (True)) (p:=(decide (0 < p1))) hp11 (fun r=>by kernel_rfl) (fun r=>by kernel_rfl) trivial (by kernel_rfl) (by kernel_rfl) (fun r=>rfl)
       exact ⟨_,h,kr⟩
  ·refine Tri.reg ?_
   refine At.sg 3 [0,1,2,9] [] (z00 3) ?_
   refine At.cs [9] h (fun h => ?_) (fun h => ?_)
   ·refine At.sg 5 [0,1,2,14] [] (z00 1) ?_
    refine At.done rfl ?_
    exact ⟨_,h,kr⟩
   ·refine At.sg 5 [0,1,2,14] [] (z00 5) ?_
    refine At.done rfl ?_
    exact ⟨_,h,kr⟩
theorem z9b {fuel:Nat} {p0:Merger} {q:Int} (h:z6y fuel p0=some q) :
    Summ Tryz.prog 27 [.agg (cMerger p0)] [] (cD (dI q)) []:=by
  refine Summ.intro Tryz.func27 rfl (by kernel_rfl) (by kernel_rfl) [] rfl ?_
  rintro ⟨P,w0,G0,V,LL,lk,N, φ0,fx⟩ rfl rfl rfl rfl
  unfold z6y at h
  refine Tri.sg [1] [1] (z00 2) ?_
  refine Tri.seqJ (fun (a1:Bool)=>⟨[(1,.c (.ptr 1 0)),(3,cD (.bool a1))],[(1,.box (cMerger p0))]⟩) h (fun a1 h => ?_) (fun j2 h => ?_)
  ·refine Tri.seqS ?_
   refine Tri.seqJ (fun (a3:Bool)=>⟨[(45,cD (.bool a3))],[]⟩) h (fun a3 h => ?_) (fun j4 h => ?_)
   ·refine Tri.condK h (fun h => ?_) (fun h => ?_)
    ·refine Tri.sg [2] [] (z00 1) ?_
     refine Tri.ret ?_
     cases h
     exact RetAt.k
    ·refine Tri.skip ?_
     refine Tri.sg [2] [] (z00 1) ?_
     refine Tri.ret ?_
     cases h
     exact RetAt.k
   ·refine Tri.reg ?_
    refine At.sg 3 [1,26] [1] (z00 3) ?_
    refine At.cs [26] h (fun h => ?_) (fun h => ?_)
    ·refine At.sg 19 [45] [] (z00 3) ?_
     refine At.done rfl ?_
     exact ⟨_,h,kr⟩
    ·refine At.sg 6 [1,26,28,30,32] [1] (z00 6) ?_
     obtain ⟨r5,hr5,h⟩:=z04 h
     refine At.cA [] [cD (lD 6 z01 p0.a),cD (dI p0.i),cD (lD 6 z01 p0.out)] (zet hr5) (.cons (.refl _) (.cons (.refl _) (.cons (.refl _) .nil))) ?_
     refine At.sg 3 [1,36] [1] (z00 3) ?_
     refine At.cs [36] h (fun h => ?_) (fun h => ?_)
     ·refine At.sg 9 [45] [] (z00 1) ?_
      refine At.done rfl ?_
      exact ⟨_,h,kr⟩
     ·refine At.sg 6 [36,38,40,42] [] (z00 6) ?_
      obtain ⟨r6,hr6,h⟩:=z04 h
      refine At.cA [] [cD (lD 6 z01 p0.b),cD (dI p0.j),cD (lD 6 z01 p0.out)] (zet hr6) (.cons (.refl _) (.cons (.refl _) (.cons (.refl _) .nil))) ?_
      refine At.sg 2 [45] [] (z00 2) ?_
      refine At.done rfl ?_
      exact ⟨_,h,kr⟩
  ·refine Tri.reg ?_
   refine At.sg 2 [1,5] [1] (z00 2) ?_
   obtain ⟨r7,hr7,h⟩:=z04 h
   refine At.cA [] [cD (lD 3 z02 p0.since)] (z81 hr7) (.cons (.refl _) .nil) ?_
   refine At.sg 1 [1,7] [1] (z00 1) ?_
   refine At.cs [7] h (fun h => ?_) (fun h => ?_)
   ·refine At.sg 2 [1,7,9] [1] (z00 2) ?_
    obtain ⟨r8,hr8,h⟩:=z04 h
    refine At.cA [] [cD (lD 6 z01 p0.a)] (zbm hr8) (.cons (.refl _) .nil) ?_
    refine At.sg 2 [1,12] [1] (z00 2) ?_
    refine At.cs [12] h (fun h => ?_) (fun h => ?_)
    ·refine At.sg 2 [1,12,14] [1] (z00 2) ?_
     obtain ⟨r9,hr9,h⟩:=z04 h
     refine At.cA [] [cD (lD 6 z01 p0.b)] (zbm hr9) (.cons (.refl _) .nil) ?_
     refine At.sg 2 [1,17] [1] (z00 2) ?_
     refine At.cs [17] h (fun h => ?_) (fun h => ?_)
     ·refine At.sg 4 [1,17,19,21] [1] (z00 4) ?_
      obtain ⟨r10,hr10,h⟩:=z04 h
      refine At.cA [] [cD (lD 6 z01 p0.out),cD (lD 3 z02 p0.since)] (zbi hr10) (.cons (.refl _) (.cons (.refl _) .nil)) ?_
      refine At.sg 2 [1,3] [1] (z00 2) ?_
      refine At.done rfl ?_
      exact ⟨_,h,kr⟩
     ·refine At.sg 7 [1,3] [1] (z00 2) ?_
      refine At.done rfl ?_
      exact ⟨_,h,kr⟩
    ·refine At.sg 12 [1,3] [1] (z00 4) ?_
     refine At.done rfl ?_
     exact ⟨_,h,kr⟩
   ·refine At.sg 17 [1,3] [1] (z00 6) ?_
    refine At.done rfl ?_
    exact ⟨_,h,kr⟩
theorem ziw {p0:List Update} {q:List Update} (h:z6v p0=some q) :
    Summ Tryz.prog 92 [cD (lD 6 z01 p0)] [] (.c (oC 6000 6 q)) [(6000,vL 6 z01 q)]:=by
  refine Summ.intro Tryz.func92 rfl (by kernel_rfl) (by kernel_rfl) [6000] rfl ?_
  rintro ⟨P,w0,G0,V,LL,lk,N, φ0,fx⟩ rfl rfl rfl rfl
  unfold z6v at h
  refine Tri.sg [0] [] (z00 1) ?_
  refine Tri.seqS ?_
  refine Tri.reg ?_
  refine At.seg 2 [0,6] [] (s':=⟨[(0,cD (lD 6 z01 p0)),(6,cD (dI (p0.length:Int)))],[]⟩) (by kernel_rfl) (z00 2) ?_
  obtain ⟨hc1,h⟩:=z03 h
  refine At.one rfl (One.makeT (e:=56) (es:=6) (bs:=80) (n:=(p0.length:Int)) (c:=(p0.length:Int)) (z:=[.zero,.zero,.d (dU 0),.d (dU 0),.d (dU 0),.d (dI 0)]) (z01) ((⟨([]:List Value),([]:List Value),(⟨0,(0,0)⟩:Time),0⟩:Update):Update) rfl rfl rfl rfl (by kernel_rfl) rfl rfl rfl (by kernel_rfl) rfl (by kernel_rfl) rfl (.cons (.zero _ _) (.cons (.zero _ _) (.cons (.refl _) (.cons (.refl _) (.cons (.refl _) (.cons (.refl _) .nil)))))) rfl rfl rfl hc1.1 hc1.2.1 hc1.2.2 rfl) ?_
  refine At.sg 1 [0,3] [7] (z00 1) ?_
  refine At.done rfl ?_
  refine Tri.seqS ?_
  refine Tri.reg ?_
  refine At.seg 2 [3,8,9] [7] (s':=⟨[(3,.c (oC 7 6 (List.replicate p0.length ((⟨([]:List Value),([]:List Value),(⟨0,(0,0)⟩:Time),0⟩:Update):Update)))),(8,.c (oC 7 6 (List.replicate p0.length ((⟨([]:List Value),([]:List Value),(⟨0,(0,0)⟩:Time),0⟩:Update):Update)))),(9,cD (lD 6 z01 p0))],[(7,vL 6 z01 (List.replicate p0.length ((⟨([]:List Value),([]:List Value),(⟨0,(0,0)⟩:Time),0⟩:Update):Update)))]⟩) (by kernel_rfl) (z00 2) ?_
  obtain ⟨hc2,h⟩:=z03 h
  refine At.one rfl (One.copyT (e:=56) (es:=6) (z01) (List.replicate p0.length ((⟨([]:List Value),([]:List Value),(⟨0,(0,0)⟩:Time),0⟩:Update):Update)) p0 rfl rfl rfl rfl rfl rfl rfl rfl (.list rfl (fun _ _=>rfl)) hc2) ?_
  refine At.keep [3,10] [7] (s':=⟨[(3,.c (oC 7 6 (List.replicate p0.length ((⟨([]:List Value),([]:List Value),(⟨0,(0,0)⟩:Time),0⟩:Update):Update)))),(10,cD (dI ((p0.length:Nat):Int)))],[(7,vL 6 z01 (copyL (List.replicate p0.length ((⟨([]:List Value),([]:List Value),(⟨0,(0,0)⟩:Time),0⟩:Update):Update)) p0))]⟩) (by kernel_rfl) ?_
  refine At.eqS (s':=⟨[(3,.c (oC 7 6 (copyL (List.replicate p0.length ((⟨([]:List Value),([]:List Value),(⟨0,(0,0)⟩:Time),0⟩:Update):Update)) p0))),(10,cD (dI ((p0.length:Nat):Int)))],[(7,vL 6 z01 (copyL (List.replicate p0.length ((⟨([]:List Value),([]:List Value),(⟨0,(0,0)⟩:Time),0⟩:Update):Update)) p0))]⟩) (by simp only [oC,vL,zba hc2]) ?_
  refine At.done rfl ?_
  refine Tri.seqS ?_
  refine Tri.segL [3,12,13] [7] ⟨[(3,.c (oC 7 6 (copyL (List.replicate p0.length ((⟨([]:List Value),([]:List Value),(⟨0,(0,0)⟩:Time),0⟩:Update):Update)) p0))),(12,cD (dI ((copyL (List.replicate p0.length ((⟨([]:List Value),([]:List Value),(⟨0,(0,0)⟩:Time),0⟩:Update):Update)) p0).length:Int))),(13,cD (dI 0))],[(7,vL 6 z01 (copyL (List.replicate p0.length ((⟨([]:List Value),([]:List Value),(⟨0,(0,0)⟩:Time),0⟩:Update):Update)) p0))]⟩ _ (by kernel_rfl) (z00 3) ?_
  refine Tri.lenOfO (t:=3) rfl rfl (Nat.le_refl _) fun hlena4 => ?_
  refine Tri.rK 13 (copyL (List.replicate p0.length ((⟨([]:List Value),([]:List Value),(⟨0,(0,0)⟩:Time),0⟩:Update):Update)) p0) (fun (x:Empty) s=>False) (fun (a4:List Update)=>⟨[(3,.c (oC 7 6 a4)),(12,cD (dI ((copyL (List.replicate p0.length ((⟨([]:List Value),([]:List Value),(⟨0,(0,0)⟩:Time),0⟩:Update):Update)) p0).length:Int)))],[(7,vL 6 z01 a4)]⟩) [13,3,12] [7] [14,13,3,12] [7] [3,12] [7] [13,3,12] [7] h hlena4 ?_ ?_ ?_
  ·intro i3 a4 c hii3 h
   refine Tri.segL [3,4,12,13] [7] ⟨[(3,.c (oC 7 6 a4)),(4,cD (dI ((i3:Nat):Int))),(12,cD (dI ((copyL (List.replicate p0.length ((⟨([]:List Value),([]:List Value),(⟨0,(0,0)⟩:Time),0⟩:Update):Update)) p0).length:Int))),(13,cD (dI ((i3:Nat):Int)))],[(7,vL 6 z01 a4)]⟩ _ (by kernel_rfl) (z00 2) ?_
   obtain ⟨hc6,h⟩:=z03 h
   obtain ⟨hc7,h⟩:=z03 h
   obtain ⟨r8,hr8,h⟩:=z04 h
   obtain ⟨hc9,h⟩:=z03 h
   obtain ⟨hc10,h⟩:=z03 h
   obtain ⟨r11,hr11,h⟩:=z04 h
   obtain ⟨hc12,h⟩:=z03 h
   obtain ⟨hc13,h⟩:=z03 h
   obtain ⟨hc14,h⟩:=z03 h
   obtain ⟨hc15,h⟩:=z03 h
   refine Tri.afterA ⟨[(3,.c (oC 7 6 a4)),(12,cD (dI ((copyL (List.replicate p0.length ((⟨([]:List Value),([]:List Value),(⟨0,(0,0)⟩:Time),0⟩:Update):Update)) p0).length:Int))),(13,cD (dI ((i3:Nat):Int)))],[(7,vL 6 z01 ((a4.set (0 + i3) (⟨r8,(a4.getD (0 + i3) default).row,(a4.getD (0 + i3) default).time,(a4.getD (0 + i3) default).diff⟩:Update)).set (0 + i3) (⟨((a4.set (0 + i3) (⟨r8,(a4.getD (0 + i3) default).row,(a4.getD (0 + i3) default).time,(a4.getD (0 + i3) default).diff⟩:Update)).getD (0 + i3) default).key,r11,((a4.set (0 + i3) (⟨r8,(a4.getD (0 + i3) default).row,(a4.getD (0 + i3) default).time,(a4.getD (0 + i3) default).diff⟩:Update)).getD (0 + i3) default).time,((a4.set (0 + i3) (⟨r8,(a4.getD (0 + i3) default).row,(a4.getD (0 + i3) default).time,(a4.getD (0 + i3) default).diff⟩:Update)).getD (0 + i3) default).diff⟩:Update)))]⟩ ?_ ?_
   ·refine Tri.dS ⟨[(3,.c (oC 7 6 a4)),(12,cD (dI ((copyL (List.replicate p0.length ((⟨([]:List Value),([]:List Value),(⟨0,(0,0)⟩:Time),0⟩:Update):Update)) p0).length:Int))),(13,cD (dI ((i3:Nat):Int)))],[(7,vL 6 z01 ((a4.set (0 + i3) (⟨r8,(a4.getD (0 + i3) default).row,(a4.getD (0 + i3) default).time,(a4.getD (0 + i3) default).diff⟩:Update)).set (0 + i3) (⟨((a4.set (0 + i3) (⟨r8,(a4.getD (0 + i3) default).row,(a4.getD (0 + i3) default).time,(a4.getD (0 + i3) default).diff⟩:Update)).getD (0 + i3) default).key,r11,((a4.set (0 + i3) (⟨r8,(a4.getD (0 + i3) default).row,(a4.getD (0 + i3) default).time,(a4.getD (0 + i3) default).diff⟩:Update)).getD (0 + i3) default).time,((a4.set (0 + i3) (⟨r8,(a4.getD (0 + i3) default).row,(a4.getD (0 + i3) default).time,(a4.getD (0 + i3) default).diff⟩:Update)).getD (0 + i3) default).diff⟩:Update)))]⟩ [.a [3] [],.a [4] [],.a [3] [],.a [4] [],.a [3] [],.a [4] [],.a [20,21] [7],.a [22] [],.a [23] [7],.m ⟨[(24,cD (lD 3 z05 ((a4.getD (0 + i3) default).key)))],[]⟩ ⟨[(25,cD (lD 3 z05 r8))],[]⟩ [] [] [],.a [3] [],.a [4] [],.a [26,27] [7],.a [28] [],.a [29] [7],.m ⟨[(30,cD (lD 3 z05 ((a4.getD (0 + i3) default).row)))],[]⟩ ⟨[(31,cD (lD 3 z05 r11))],[]⟩ [] [] [],.a [16,17] [7],.a [32] [],.m ⟨[(25,cD (lD 3 z05 r8)),(33,.c (.vptr 7 6 (0 + i3) 0))],[(7,vL 6 z01 a4)]⟩ ⟨[],[(7,vL 6 z01 (a4.set (0 + i3) (⟨r8,(a4.getD (0 + i3) default).row,(a4.getD (0 + i3) default).time,(a4.getD (0 + i3) default).diff⟩:Update)))]⟩ [] [] [],.a [18,19] [7],.a [34] [],.m ⟨[(31,cD (lD 3 z05 r11)),(35,.c (.vptr 7 6 (0 + i3) 1))],[(7,vL 6 z01 (a4.set (0 + i3) (⟨r8,(a4.getD (0 + i3) default).row,(a4.getD (0 + i3) default).time,(a4.getD (0 + i3) default).diff⟩:Update)))]⟩ ⟨[],[(7,vL 6 z01 ((a4.set (0 + i3) (⟨r8,(a4.getD (0 + i3) default).row,(a4.getD (0 + i3) default).time,(a4.getD (0 + i3) default).diff⟩:Update)).set (0 + i3) (⟨((a4.set (0 + i3) (⟨r8,(a4.getD (0 + i3) default).row,(a4.getD (0 + i3) default).time,(a4.getD (0 + i3) default).diff⟩:Update)).getD (0 + i3) default).key,r11,((a4.set (0 + i3) (⟨r8,(a4.getD (0 + i3) default).row,(a4.getD (0 + i3) default).time,(a4.getD (0 + i3) default).diff⟩:Update)).getD (0 + i3) default).time,((a4.set (0 + i3) (⟨r8,(a4.getD (0 + i3) default).row,(a4.getD (0 + i3) default).time,(a4.getD (0 + i3) default).diff⟩:Update)).getD (0 + i3) default).diff⟩:Update)))]⟩ [] [] []] [3,12,13] [7] (tN 6 (ai hc6 (tN 1 (ai hc7 (tN 2 (ai hc9 (tN 1 (ai hc10 (ai hc12 (tN 1 (ai hc14 (z00 1)))))))))))) (.a (.a (.a (.a (.a (.a (.a (.a (.a (.m ?_ (.a (.a (.a (.a (.a (.m ?_ (.a (.a (.m ?_ (.a (.a (.m ?_ .z)))))))))))))))))))))) ?_
    · exact DOk.cA [] [cD (lD 3 z05 ((a4.getD (0 + i3) default).key))] (z1j hr8) fun r=>(.cons (.refl _) .nil)
    · exact DOk.cA [] [cD (lD 3 z05 ((a4.getD (0 + i3) default).row))] (z1j hr11) fun r=>(.cons (.refl _) .nil)
    · exact DOk.one fun r hr=>One.storeT (xs:=[.d (lD 3 z05 r8)]) (ds:=[lD 3 z05 r8]) (z01) a4 (⟨r8,(a4.getD (0 + i3) default).row,(a4.getD (0 + i3) default).time,(a4.getD (0 + i3) default).diff⟩:Update) rfl (by kernel_rfl) rfl rfl rfl hc13 rfl rfl (.refl _) rfl rfl rfl rfl
    · exact DOk.one fun r hr=>One.storeT (xs:=[.d (lD 3 z05 r11)]) (ds:=[lD 3 z05 r11]) (z01) (a4.set (0 + i3) (⟨r8,(a4.getD (0 + i3) default).row,(a4.getD (0 + i3) default).time,(a4.getD (0 + i3) default).diff⟩:Update)) (⟨((a4.set (0 + i3) (⟨r8,(a4.getD (0 + i3) default).row,(a4.getD (0 + i3) default).time,(a4.getD (0 + i3) default).diff⟩:Update)).getD (0 + i3) default).key,r11,((a4.set (0 + i3) (⟨r8,(a4.getD (0 + i3) default).row,(a4.getD (0 + i3) default).time,(a4.getD (0 + i3) default).diff⟩:Update)).getD (0 + i3) default).time,((a4.set (0 + i3) (⟨r8,(a4.getD (0 + i3) default).row,(a4.getD (0 + i3) default).time,(a4.getD (0 + i3) default).diff⟩:Update)).getD (0 + i3) default).diff⟩:Update) rfl (by kernel_rfl) rfl rfl rfl hc15 rfl rfl (.refl _) rfl rfl rfl rfl
    exact ⟨rfl,rfl⟩
   ·refine At.eqS (s':=⟨[(3,.c (oC 7 6 ((a4.set (0 + i3) (⟨r8,(a4.getD (0 + i3) default).row,(a4.getD (0 + i3) default).time,(a4.getD (0 + i3) default).diff⟩:Update)).set (0 + i3) (⟨((a4.set (0 + i3) (⟨r8,(a4.getD (0 + i3) default).row,(a4.getD (0 + i3) default).time,(a4.getD (0 + i3) default).diff⟩:Update)).getD (0 + i3) default).key,r11,((a4.set (0 + i3) (⟨r8,(a4.getD (0 + i3) default).row,(a4.getD (0 + i3) default).time,(a4.getD (0 + i3) default).diff⟩:Update)).getD (0 + i3) default).time,((a4.set (0 + i3) (⟨r8,(a4.getD (0 + i3) default).row,(a4.getD (0 + i3) default).time,(a4.getD (0 + i3) default).diff⟩:Update)).getD (0 + i3) default).diff⟩:Update)))),(12,cD (dI ((copyL (List.replicate p0.length ((⟨([]:List Value),([]:List Value),(⟨0,(0,0)⟩:Time),0⟩:Update):Update)) p0).length:Int))),(13,cD (dI ((i3:Nat):Int)))],[(7,vL 6 z01 ((a4.set (0 + i3) (⟨r8,(a4.getD (0 + i3) default).row,(a4.getD (0 + i3) default).time,(a4.getD (0 + i3) default).diff⟩:Update)).set (0 + i3) (⟨((a4.set (0 + i3) (⟨r8,(a4.getD (0 + i3) default).row,(a4.getD (0 + i3) default).time,(a4.getD (0 + i3) default).diff⟩:Update)).getD (0 + i3) default).key,r11,((a4.set (0 + i3) (⟨r8,(a4.getD (0 + i3) default).row,(a4.getD (0 + i3) default).time,(a4.getD (0 + i3) default).diff⟩:Update)).getD (0 + i3) default).time,((a4.set (0 + i3) (⟨r8,(a4.getD (0 + i3) default).row,(a4.getD (0 + i3) default).time,(a4.getD (0 + i3) default).diff⟩:Update)).getD (0 + i3) default).diff⟩:Update)))]⟩) (by simp only [oC,vL,List.length_set]) ?_
    refine At.keep [13,3,12] [7] (s':=⟨[(13,cD (dI ((i3:Nat):Int))),(3,.c (oC 7 6 ((a4.set (0 + i3) (⟨r8,(a4.getD (0 + i3) default).row,(a4.getD (0 + i3) default).time,(a4.getD (0 + i3) default).diff⟩:Update)).set (0 + i3) (⟨((a4.set (0 + i3) (⟨r8,(a4.getD (0 + i3) default).row,(a4.getD (0 + i3) default).time,(a4.getD (0 + i3) default).diff⟩:Update)).getD (0 + i3) default).key,r11,((a4.set (0 + i3) (⟨r8,(a4.getD (0 + i3) default).row,(a4.getD (0 + i3) default).time,(a4.getD (0 + i3) default).diff⟩:Update)).getD (0 + i3) default).time,((a4.set (0 + i3) (⟨r8,(a4.getD (0 + i3) default).row,(a4.getD (0 + i3) default).time,(a4.getD (0 + i3) default).diff⟩:Update)).getD (0 + i3) default).diff⟩:Update)))),(12,cD (dI ((copyL (List.replicate p0.length ((⟨([]:List Value),([]:List Value),(⟨0,(0,0)⟩:Time),0⟩:Update):Update)) p0).length:Int)))],[(7,vL 6 z01 ((a4.set (0 + i3) (⟨r8,(a4.getD (0 + i3) default).row,(a4.getD (0 + i3) default).time,(a4.getD (0 + i3) default).diff⟩:Update)).set (0 + i3) (⟨((a4.set (0 + i3) (⟨r8,(a4.getD (0 + i3) default).row,(a4.getD (0 + i3) default).time,(a4.getD (0 + i3) default).diff⟩:Update)).getD (0 + i3) default).key,r11,((a4.set (0 + i3) (⟨r8,(a4.getD (0 + i3) default).row,(a4.getD (0 + i3) default).time,(a4.getD (0 + i3) default).diff⟩:Update)).getD (0 + i3) default).time,((a4.set (0 + i3) (⟨r8,(a4.getD (0 + i3) default).row,(a4.getD (0 + i3) default).time,(a4.getD (0 + i3) default).diff⟩:Update)).getD (0 + i3) default).diff⟩:Update)))]⟩) (by kernel_rfl) ?_
    refine At.done rfl ?_
    cases h
    exact kr
  ·intro a5 h
   refine Tri.sg [2] [7] (z00 2) ?_
   refine Tri.keep [2] [7] (s':=⟨[(2,.c (oC 7 6 a5))],[(7,vL 6 z01 a5)]⟩) (by kernel_rfl) ?_
   refine Tri.rename 7 6000 ⟨[(2,.c (oC 6000 6 a5))],[(6000,vL 6 z01 a5)]⟩ (by kernel_rfl) rfl rfl rfl ?_
   refine Tri.ret ?_
   cases h
   exact RetAt.k
  · exact fun x=>x.elim
theorem zfg {p0:Merger} {q:Merger} (h:z7q p0=some q) :
  Summ Tryz.prog 54 [.agg (cMerger p0)] [] (.agg [.d (lD 6 z01 q.a),.d (lD 6 z01 q.b),.d (dI q.i),.d (dI q.j),.d (lD 3 z02 q.since),oC 6105 6 q.out]) [(6105,vL 6 z01 q.out)]:=by
 refine Summ.intro Tryz.func54 rfl (by kernel_rfl) (by kernel_rfl) [6105] rfl ?_
 rintro ⟨P,w0,G0,V,LL,lk,N, φ0,fx⟩ rfl rfl rfl rfl
 unfold z7q at h
 refine Tri.sg [1,2] [1,2] (z00 2) ?_
 refine Tri.seqS ?_
 obtain ⟨r1,hr1,h⟩:=z04 h
 obtain ⟨r2,hr2,h⟩:=z04 h
 obtain ⟨r3,hr3,h⟩:=z04 h
 obtain ⟨r4,hr4,h⟩:=z04 h
 refine Tri.dC [.a [1] [],.a [3] [1],.m ⟨[(4,cD (lD 6 z01 p0.a))],[]⟩ ⟨[(5,cD (lD 6 z01 r1))],[]⟩ [] [] [],.a [1] [],.a [6] [1],.m ⟨[(7,cD (lD 6 z01 p0.b))],[]⟩ ⟨[(8,cD (lD 6 z01 r2))],[]⟩ [] [] [],.a [1] [],.a [9] [1],.m ⟨[(10,cD (lD 6 z01 p0.out))],[]⟩ ⟨[(11,.c (oC 30176 6 r3))],[(30176,vL 6 z01 r3)]⟩ [30176] [] [],.a [1] [],.a [12] [1],.m ⟨[(13,cD (lD 3 z02 p0.since))],[]⟩ ⟨[(14,cD (lD 3 z02 r4))],[]⟩ [] [] [],.a [1] [],.m ⟨[(5,cD (lD 6 z01 r1)),(15,.c (.ptr 1 0))],[(1,.box (cMerger p0))]⟩ ⟨[],[(1,.box [.d (lD 6 z01 r1),.d (lD 6 z01 p0.b),.d (dI p0.i),.d (dI p0.j),.d (lD 3 z02 p0.since),.d (lD 6 z01 p0.out)])]⟩ [] [] [],.a [1] [],.m ⟨[(8,cD (lD 6 z01 r2)),(16,.c (.ptr 1 1))],[(1,.box [.d (lD 6 z01 r1),.d (lD 6 z01 p0.b),.d (dI p0.i),.d (dI p0.j),.d (lD 3 z02 p0.since),.d (lD 6 z01 p0.out)])]⟩ ⟨[],[(1,.box [.d (lD 6 z01 r1),.d (lD 6 z01 r2),.d (dI p0.i),.d (dI p0.j),.d (lD 3 z02 p0.since),.d (lD 6 z01 p0.out)])]⟩ [] [] [],.a [1] [],.m ⟨[(11,.c (oC 30176 6 r3)),(17,.c (.ptr 1 5))],[(1,.box [.d (lD 6 z01 r1),.d (lD 6 z01 r2),.d (dI p0.i),.d (dI p0.j),.d (lD 3 z02 p0.since),.d (lD 6 z01 p0.out)]),(30176,vL 6 z01 r3)]⟩ ⟨[],[(1,.box [.d (lD 6 z01 r1),.d (lD 6 z01 r2),.d (dI p0.i),.d (dI p0.j),.d (lD 3 z02 p0.since),oC 30176 6 r3])]⟩ [] [] [],.a [1] [],.m ⟨[(14,cD (lD 3 z02 r4)),(18,.c (.ptr 1 4))],[(1,.box [.d (lD 6 z01 r1),.d (lD 6 z01 r2),.d (dI p0.i),.d (dI p0.j),.d (lD 3 z02 p0.since),oC 30176 6 r3])]⟩ ⟨[],[(1,.box [.d (lD 6 z01 r1),.d (lD 6 z01 r2),.d (dI p0.i),.d (dI p0.j),.d (lD 3 z02 r4),oC 30176 6 r3])]⟩ [] [] []] [1,2] [1,2,30176] (z00 12) (.a (.a (.m ?_ (.a (.a (.m ?_ (.a (.a (.m ?_ (.a (.a (.m ?_ (.a (.m ?_ (.a (.m ?_ (.a (.m ?_ (.a (.m ?_ .z)))))))))))))))))))) ?_
 ·exact DOk.cA [] [cD (lD 6 z01 p0.a)] (z7j hr1) fun r=>(.cons (.refl _) .nil)
 ·exact DOk.cA [] [cD (lD 6 z01 p0.b)] (z7j hr2) fun r=>(.cons (.refl _) .nil)
 ·exact DOk.callL (nf:=0) (caps:=[]) (xs:=[cD (lD 6 z01 p0.out)]) [(6000,30176)] (ziw hr3) rfl (fun r=>by kernel_rfl) rfl (fun r=>by kernel_rfl) (fun r=>by kernel_rfl) (fun r=>(.flat (.refl _) rfl rfl .nil)) (fun r=>trivial) (by kernel_rfl) (by kernel_rfl) (by kernel_rfl) (by kernel_rfl) (by kernel_rfl) (by kernel_rfl) (by kernel_rfl) (by kernel_rfl) (by kernel_rfl) (by kernel_rfl) (by first | kernel_rfl | (show _=_; kernel_rfl))
 ·exact DOk.cA [] [cD (lD 3 z02 p0.since)] (z21 hr4) fun r=>(.cons (.refl _) .nil)
 ·exact DOk.step (.turn 1 (.box [.d (lD 6 z01 r1),.d (lD 6 z01 p0.b),.d (dI p0.i),.d (dI p0.j),.d (lD 3 z02 p0.since),.d (lD 6 z01 p0.out)])) (fun r=>by kernel_rfl) (fun r=>by kernel_rfl) trivial (by kernel_rfl) (by kernel_rfl) (fun r=>rfl)
 ·exact DOk.step (.turn 1 (.box [.d (lD 6 z01 r1),.d (lD 6 z01 r2),.d (dI p0.i),.d (dI p0.j),.d (lD 3 z02 p0.since),.d (lD 6 z01 p0.out)])) (fun r=>by kernel_rfl) (fun r=>by kernel_rfl) trivial (by kernel_rfl) (by kernel_rfl) (fun r=>rfl)
 ·exact DOk.step (.turn 1 (.box [.d (lD 6 z01 r1),.d (lD 6 z01 r2),.d (dI p0.i),.d (dI p0.j),.d (lD 3 z02 p0.since),oC 30176 6 r3])) (fun r=>by kernel_rfl) (fun r=>by kernel_rfl) trivial (by kernel_rfl) (by kernel_rfl) (fun r=>rfl)
 ·exact DOk.step (.turn 1 (.box [.d (lD 6 z01 r1),.d (lD 6 z01 r2),.d (dI p0.i),.d (dI p0.j),.d (lD 3 z02 r4),oC 30176 6 r3])) (fun r=>by kernel_rfl) (fun r=>by kernel_rfl) trivial (by kernel_rfl) (by kernel_rfl) (fun r=>rfl)
 refine Tri.sg [2] [2,30176] (z00 2) ?_
 refine Tri.keep [2] [2,30176] (s':=⟨[(2,.c (.ptr 2 0))],[(2,.box [.d (lD 6 z01 r1),.d (lD 6 z01 r2),.d (dI p0.i),.d (dI p0.j),.d (lD 3 z02 r4),oC 30176 6 r3]),(30176,vL 6 z01 r3)]⟩) (by kernel_rfl) ?_
 refine Tri.rename 30176 6105 ⟨[(2,.c (.ptr 2 0))],[(2,.box [.d (lD 6 z01 r1),.d (lD 6 z01 r2),.d (dI p0.i),.d (dI p0.j),.d (lD 3 z02 r4),oC 6105 6 r3]),(6105,vL 6 z01 r3)]⟩ (by kernel_rfl) rfl rfl rfl ?_
 refine Tri.ret ?_
 cases h
 exact RetAt.k
theorem z91 {l0:Worker} {q:Bool × Worker} (h:z4r l0=some q) :
    Summ Tryz.prog 55 [.c (.ptr 5000 0)] [(5000,.box [.d (lD 6 z01 l0.merger.a),.d (lD 6 z01 l0.merger.b),.d (dI l0.merger.i),.d (dI l0.merger.j),.d (lD 3 z02 l0.merger.since),oC 5100 6 l0.merger.out]),(5100,vL 6 z01 l0.merger.out)] (cD (.bool q.1)) [(5150,vL 6 z01 q.2.merger.out),(5000,.box [.d (lD 6 z01 q.2.merger.a),.d (lD 6 z01 q.2.merger.b),.d (dI q.2.merger.i),.d (dI q.2.merger.j),.d (lD 3 z02 q.2.merger.since),oC 5150 6 q.2.merger.out])]:=by
  refine Summ.intro Tryz.func55 rfl (by kernel_rfl) (by kernel_rfl) [5150] rfl ?_
  rintro ⟨P,w0,G0,V,LL,lk,N, φ0,fx⟩ rfl rfl rfl rfl
  unfold z4r at h
  refine Tri.rename 5100 5150 ⟨[(0,.c (.ptr 5000 0))],[(5000,.box [.d (lD 6 z01 l0.merger.a),.d (lD 6 z01 l0.merger.b),.d (dI l0.merger.i),.d (dI l0.merger.j),.d (lD 3 z02 l0.merger.since),oC 5150 6 l0.merger.out]),(5150,vL 6 z01 l0.merger.out)]⟩ (by kernel_rfl) rfl rfl rfl ?_
  refine Tri.segL [0] [5000,5150] ⟨[(0,.c (.ptr 5000 0))],[(5000,.box [.d (lD 6 z01 l0.merger.a),.d (lD 6 z01 l0.merger.b),.d (dI l0.merger.i),.d (dI l0.merger.j),.d (lD 3 z02 l0.merger.since),oC 5150 6 l0.merger.out]),(5150,vL 6 z01 l0.merger.out)]⟩ _ (by kernel_rfl) (z00 1) ?_
  refine Tri.seqJ (fun (a1:Bool)=>⟨[(2,cD (.bool a1))],[(5000,.box [.d (lD 6 z01 l0.merger.a),.d (lD 6 z01 l0.merger.b),.d (dI l0.merger.i),.d (dI l0.merger.j),.d (lD 3 z02 l0.merger.since),oC 5150 6 l0.merger.out]),(5150,vL 6 z01 l0.merger.out)]⟩) h (fun a1 h => ?_) (fun j2 h => ?_)
  ·refine Tri.ret ?_
   cases h
   exact RetAt.k
  ·rcases z1f h with ⟨hp3,h⟩ | ⟨hp3,h⟩
   ·refine Tri.dC [.a [0] [],.a [3] [],.a [4] [],.a [5] [],.a [6] [5000],.a [0] [],.a [8] [],.a [9] [],.a [10] [],.a [11] [5000],.a [12] [],.a [7,13] [],.m ⟨[(14,cD (.bool (decide (l0.merger.i < (l0.merger.a.length:Int)))))],[]⟩ ⟨[(15,.c (.d (.bool true)))],[]⟩ [] [] [],.a [0,15] [],.a [15,16] [],.a [15,17] [],.a [15,18] [],.a [15,19] [],.a [0,15] [],.a [15,21] [],.a [15,22] [],.a [15,23] [],.a [15,24] [],.a [15,25] [],.a [15,20,26] [],.a [15,27] [],.a [28] []] [2] [5000,5150] (z00 14) (.a (.a (.a (.a (.a (.a (.a (.a (.a (.a (.a (.a (.m ?_ (.a (.a (.a (.a (.a (.a (.a (.a (.a (.a (.a (.a (.a (.a .z))))))))))))))))))))))))))) ?_
    · exact DOk.stepP (fun b => .val (.c (.d (.bool b))) (True)) (p:=(decide (l0.merger.i < (l0.merger.a.length:Int)))) hp3 (fun r=>by kernel_rfl) (fun r=>by kernel_rfl) trivial (by kernel_rfl) (by kernel_rfl) (fun r=>rfl)
    exact ⟨_,h,kr⟩
   ·refine Tri.dC [.a [0] [],.a [3] [],.a [4] [],.a [5] [],.a [6] [5000],.a [0] [],.a [8] [],.a [9] [],.a [10] [],.a [11] [5000],.a [12] [],.a [7,13] [],.m ⟨[(14,cD (.bool (decide (l0.merger.i < (l0.merger.a.length:Int)))))],[]⟩ ⟨[(15,.c (.d (.bool false)))],[]⟩ [] [] [],.a [0,15] [],.a [15,16] [],.a [15,17] [],.a [15,18] [],.a [15,19] [5000],.a [0,15] [],.a [15,21] [],.a [15,22] [],.a [15,23] [],.a [15,24] [5000],.a [15,25] [],.a [15,20,26] [],.a [15,27] [],.a [28] []] [2] [5000,5150] (z00 26) (.a (.a (.a (.a (.a (.a (.a (.a (.a (.a (.a (.a (.m ?_ (.a (.a (.a (.a (.a (.a (.a (.a (.a (.a (.a (.a (.a (.a .z))))))))))))))))))))))))))) ?_
    · exact DOk.stepP (fun b => .val (.c (.d (.bool b))) (True)) (p:=(decide (l0.merger.i < (l0.merger.a.length:Int)))) hp3 (fun r=>by kernel_rfl) (fun r=>by kernel_rfl) trivial (by kernel_rfl) (by kernel_rfl) (fun r=>rfl)
    exact ⟨_,h,kr⟩
theorem z8l {l0:Worker} {q:Update × Worker} (h:z4p l0=some q) :
    Summ Tryz.prog 93 [.c (.ptr 5000 0)] [(5000,.box [.d (lD 6 z01 l0.merger.a),.d (lD 6 z01 l0.merger.b),.d (dI l0.merger.i),.d (dI l0.merger.j),.d (lD 3 z02 l0.merger.since),oC 5100 6 l0.merger.out]),(5100,vL 6 z01 l0.merger.out)] (.agg (cUpdate q.1)) [(5150,vL 6 z01 q.2.merger.out),(5000,.box [.d (lD 6 z01 q.2.merger.a),.d (lD 6 z01 q.2.merger.b),.d (dI q.2.merger.i),.d (dI q.2.merger.j),.d (lD 3 z02 q.2.merger.since),oC 5150 6 q.2.merger.out])]:=by
  refine Summ.intro Tryz.func93 rfl (by kernel_rfl) (by kernel_rfl) [5150] rfl ?_
  rintro ⟨P,w0,G0,V,LL,lk,N, φ0,fx⟩ rfl rfl rfl rfl
  unfold z4p at h
  refine Tri.rename 5100 5150 ⟨[(0,.c (.ptr 5000 0))],[(5000,.box [.d (lD 6 z01 l0.merger.a),.d (lD 6 z01 l0.merger.b),.d (dI l0.merger.i),.d (dI l0.merger.j),.d (lD 3 z02 l0.merger.since),oC 5150 6 l0.merger.out]),(5150,vL 6 z01 l0.merger.out)]⟩ (by kernel_rfl) rfl rfl rfl ?_
  refine Tri.segL [0,2] [2,5000,5150] ⟨[(0,.c (.ptr 5000 0)),(2,.c (.ptr 2 0))],[(2,.box [.zero,.zero,.d (dU 0),.d (dU 0),.d (dU 0),.d (dI 0)]),(5000,.box [.d (lD 6 z01 l0.merger.a),.d (lD 6 z01 l0.merger.b),.d (dI l0.merger.i),.d (dI l0.merger.j),.d (lD 3 z02 l0.merger.since),oC 5150 6 l0.merger.out]),(5150,vL 6 z01 l0.merger.out)]⟩ _ (by kernel_rfl) (z00 1) ?_
  refine Tri.seqS ?_
  refine Tri.seqJ (fun (a1:Bool)=>⟨[(0,.c (.ptr 5000 0)),(2,.c (.ptr 2 0)),(56,cD (.bool a1))],[(2,.box [.zero,.zero,.d (dU 0),.d (dU 0),.d (dU 0),.d (dI 0)]),(5000,.box [.d (lD 6 z01 l0.merger.a),.d (lD 6 z01 l0.merger.b),.d (dI l0.merger.i),.d (dI l0.merger.j),.d (lD 3 z02 l0.merger.since),oC 5150 6 l0.merger.out]),(5150,vL 6 z01 l0.merger.out)]⟩) h (fun a1 h => ?_) (fun j2 h => ?_)
  ·refine Tri.condK h (fun h => ?_) (fun h => ?_)
   ·refine Tri.seqS ?_
    obtain ⟨hc3,h⟩:=z03 h
    refine Tri.dC [.a [0] [],.a [57] [],.a [58] [],.a [59] [],.a [60] [5000],.a [0] [],.a [62] [],.a [63] [],.a [64] [],.a [65] [5000],.a [61,66] [],.a [67] [],.m ⟨[(2,.c (.ptr 2 0)),(68,.agg (cUpdate (l0.merger.a.getD l0.merger.i.toNat default)))],[(2,.box [.zero,.zero,.d (dU 0),.d (dU 0),.d (dU 0),.d (dI 0)])]⟩ ⟨[],[(2,.box (cUpdate (l0.merger.a.getD l0.merger.i.toNat default)))]⟩ [] [] []] [2] [2,5000,5150] (tN 10 (ai hc3 (z00 1))) (.a (.a (.a (.a (.a (.a (.a (.a (.a (.a (.a (.a (.m ?_ .z))))))))))))) ?_
    · exact DOk.step (.turn 2 (.box (cUpdate (l0.merger.a.getD l0.merger.i.toNat default)))) (fun r=>by kernel_rfl) (fun r=>by kernel_rfl) trivial (by kernel_rfl) (by kernel_rfl) (fun r=>rfl)
    refine Tri.ret ?_
    cases h
    exact RetAt.k
   ·refine Tri.skip ?_
    refine Tri.seqS ?_
    obtain ⟨hc4,h⟩:=z03 h
    refine Tri.dC [.a [0] [],.a [69] [],.a [70] [],.a [71] [],.a [72] [5000],.a [0] [],.a [74] [],.a [75] [],.a [76] [],.a [77] [5000],.a [73,78] [],.a [79] [],.m ⟨[(2,.c (.ptr 2 0)),(80,.agg (cUpdate (l0.merger.b.getD l0.merger.j.toNat default)))],[(2,.box [.zero,.zero,.d (dU 0),.d (dU 0),.d (dU 0),.d (dI 0)])]⟩ ⟨[],[(2,.box (cUpdate (l0.merger.b.getD l0.merger.j.toNat default)))]⟩ [] [] []] [2] [2,5000,5150] (tN 10 (ai hc4 (z00 1))) (.a (.a (.a (.a (.a (.a (.a (.a (.a (.a (.a (.a (.m ?_ .z))))))))))))) ?_
    · exact DOk.step (.turn 2 (.box (cUpdate (l0.merger.b.getD l0.merger.j.toNat default)))) (fun r=>by kernel_rfl) (fun r=>by kernel_rfl) trivial (by kernel_rfl) (by kernel_rfl) (fun r=>rfl)
    refine Tri.ret ?_
    cases h
    exact RetAt.k
  ·rcases z1f h with ⟨hp5,h⟩ | ⟨hp5,h⟩
   ·rcases z1f h with ⟨hp6,h⟩ | ⟨hp6,h⟩
    ·refine Tri.dC [.a [0] [],.a [3] [],.a [4] [],.a [5] [],.a [6] [5000],.a [0] [],.a [8] [],.a [9] [],.a [10] [],.a [11] [5000],.a [12] [],.a [7,13] [],.m ⟨[(14,cD (.bool (decide (l0.merger.i < (l0.merger.a.length:Int)))))],[]⟩ ⟨[(15,.c (.d (.bool true)))],[]⟩ [] [] [],.a [0,15] [],.a [15,16] [],.a [15,17] [],.a [15,18] [],.a [15,19] [5000],.a [0,15] [],.a [15,21] [],.a [15,22] [],.a [15,23] [],.a [15,24] [5000],.a [15,25] [],.a [15,20,26] [],.m ⟨[(15,cD (.bool true)),(27,cD (.bool (decide (l0.merger.j=(l0.merger.b.length:Int)))))],[]⟩ ⟨[(28,.c (.d (.bool true)))],[]⟩ [] [] [],.a [0,28] [],.a [28,29] [],.a [28,30] [],.a [28,31] [],.a [28,32] [],.a [0,28] [],.a [28,34] [],.a [28,35] [],.a [28,36] [],.a [28,37] [],.a [28,33,38] [],.a [28,39] [],.a [0,28] [],.a [28,41] [],.a [28,42] [],.a [28,43] [],.a [28,44] [],.a [0,28] [],.a [28,46] [],.a [28,47] [],.a [28,48] [],.a [28,49] [],.a [28,45,50] [],.a [28,51] [],.a [28,40,52] [],.a [28,53] [],.a [15,28,54] [],.a [15,55] []] [0,2,56] [2,5000,5150] (z00 26) (.a (.a (.a (.a (.a (.a (.a (.a (.a (.a (.a (.a (.m ?_ (.a (.a (.a (.a (.a (.a (.a (.a (.a (.a (.a (.a (.m ?_ (.a (.a (.a (.a (.a (.a (.a (.a (.a (.a (.a (.a (.a (.a (.a (.a (.a (.a (.a (.a (.a (.a (.a (.a (.a (.a (.a (.a .z)))))))))))))))))))))))))))))))))))))))))))))))))))))) ?_
     · exact DOk.stepP (fun b => .val (.c (.d (.bool b))) (True)) (p:=(decide (l0.merger.i < (l0.merger.a.length:Int)))) hp5 (fun r=>by kernel_rfl) (fun r=>by kernel_rfl) trivial (by kernel_rfl) (by kernel_rfl) (fun r=>rfl)
     · exact DOk.stepP (fun b => .val (.c (.d (.bool b))) (True)) (p:=(decide (l0.merger.j=(l0.merger.b.length:Int)))) hp6 (fun r=>by kernel_rfl) (fun r=>by kernel_rfl) trivial (by kernel_rfl) (by kernel_rfl) (fun r=>rfl)
     exact ⟨_,h,kr⟩
    ·obtain ⟨hc7,h⟩:=z03 h
     obtain ⟨hc8,h⟩:=z03 h
     obtain ⟨r9,hr9,h⟩:=z04 h
     refine Tri.dC [.a [0] [],.a [3] [],.a [4] [],.a [5] [],.a [6] [5000],.a [0] [],.a [8] [],.a [9] [],.a [10] [],.a [11] [5000],.a [12] [],.a [7,13] [],.m ⟨[(14,cD (.bool (decide (l0.merger.i < (l0.merger.a.length:Int)))))],[]⟩ ⟨[(15,.c (.d (.bool true)))],[]⟩ [] [] [],.a [0,15] [],.a [15,16] [],.a [15,17] [],.a [15,18] [],.a [15,19] [5000],.a [0,15] [],.a [15,21] [],.a [15,22] [],.a [15,23] [],.a [15,24] [5000],.a [15,25] [],.a [15,20,26] [],.m ⟨[(15,cD (.bool true)),(27,cD (.bool (decide (l0.merger.j=(l0.merger.b.length:Int)))))],[]⟩ ⟨[(28,.c (.d (.bool false)))],[]⟩ [] [] [],.a [0,28] [],.a [28,29] [],.a [28,30] [],.a [28,31] [],.a [28,32] [5000],.a [0,28] [],.a [28,34] [],.a [28,35] [],.a [28,36] [],.a [28,37] [5000],.a [28,33,38] [],.a [28,39] [],.a [0,28] [],.a [28,41] [],.a [28,42] [],.a [28,43] [],.a [28,44] [5000],.a [0,28] [],.a [28,46] [],.a [28,47] [],.a [28,48] [],.a [28,49] [5000],.a [28,45,50] [],.a [28,51] [],.m ⟨[(28,cD (.bool false)),(40,.agg (cUpdate (l0.merger.a.getD l0.merger.i.toNat default))),(52,.agg (cUpdate (l0.merger.b.getD l0.merger.j.toNat default)))],[]⟩ ⟨[(53,cD (dI r9))],[]⟩ [] [] [],.a [28,53] [],.a [15,28,54] [],.a [15,55] []] [0,2,56] [2,5000,5150] (tN 34 (ai hc7 (tN 11 (ai hc8 (z00 4))))) (.a (.a (.a (.a (.a (.a (.a (.a (.a (.a (.a (.a (.m ?_ (.a (.a (.a (.a (.a (.a (.a (.a (.a (.a (.a (.a (.m ?_ (.a (.a (.a (.a (.a (.a (.a (.a (.a (.a (.a (.a (.a (.a (.a (.a (.a (.a (.a (.a (.a (.a (.a (.a (.m ?_ (.a (.a (.a .z)))))))))))))))))))))))))))))))))))))))))))))))))))))) ?_
     · exact DOk.stepP (fun b => .val (.c (.d (.bool b))) (True)) (p:=(decide (l0.merger.i < (l0.merger.a.length:Int)))) hp5 (fun r=>by kernel_rfl) (fun r=>by kernel_rfl) trivial (by kernel_rfl) (by kernel_rfl) (fun r=>rfl)
     · exact DOk.stepP (fun b => .val (.c (.d (.bool b))) (True)) (p:=(decide (l0.merger.j=(l0.merger.b.length:Int)))) hp6 (fun r=>by kernel_rfl) (fun r=>by kernel_rfl) trivial (by kernel_rfl) (by kernel_rfl) (fun r=>rfl)
     · exact DOk.cA [] [.agg (cUpdate (l0.merger.a.getD l0.merger.i.toNat default)),.agg (cUpdate (l0.merger.b.getD l0.merger.j.toNat default))] (z8g hr9) fun r=>(.cons (.refl _) (.cons (.refl _) .nil))
     exact ⟨_,h,kr⟩
   ·refine Tri.dC [.a [0] [],.a [3] [],.a [4] [],.a [5] [],.a [6] [5000],.a [0] [],.a [8] [],.a [9] [],.a [10] [],.a [11] [5000],.a [12] [],.a [7,13] [],.m ⟨[(14,cD (.bool (decide (l0.merger.i < (l0.merger.a.length:Int)))))],[]⟩ ⟨[(15,.c (.d (.bool false)))],[]⟩ [] [] [],.a [0,15] [],.a [15,16] [],.a [15,17] [],.a [15,18] [],.a [15,19] [],.a [0,15] [],.a [15,21] [],.a [15,22] [],.a [15,23] [],.a [15,24] [],.a [15,25] [],.a [15,20,26] [],.a [15,27] [],.a [0,28] [],.a [28,29] [],.a [28,30] [],.a [28,31] [],.a [28,32] [],.a [0,28] [],.a [28,34] [],.a [28,35] [],.a [28,36] [],.a [28,37] [],.a [28,33,38] [],.a [28,39] [],.a [0,28] [],.a [28,41] [],.a [28,42] [],.a [28,43] [],.a [28,44] [],.a [0,28] [],.a [28,46] [],.a [28,47] [],.a [28,48] [],.a [28,49] [],.a [28,45,50] [],.a [28,51] [],.a [28,40,52] [],.a [28,53] [],.a [15,28,54] [],.a [15,55] []] [0,2,56] [2,5000,5150] (z00 13) (.a (.a (.a (.a (.a (.a (.a (.a (.a (.a (.a (.a (.m ?_ (.a (.a (.a (.a (.a (.a (.a (.a (.a (.a (.a (.a (.a (.a (.a (.a (.a (.a (.a (.a (.a (.a (.a (.a (.a (.a (.a (.a (.a (.a (.a (.a (.a (.a (.a (.a (.a (.a (.a (.a (.a .z)))))))))))))))))))))))))))))))))))))))))))))))))))))) ?_
    · exact DOk.stepP (fun b => .val (.c (.d (.bool b))) (True)) (p:=(decide (l0.merger.i < (l0.merger.a.length:Int)))) hp5 (fun r=>by kernel_rfl) (fun r=>by kernel_rfl) trivial (by kernel_rfl) (by kernel_rfl) (fun r=>rfl)
    exact ⟨_,h,kr⟩
theorem zhu {p0:Update} {p1:Update} {q:Bool} (h:zca p0 p1=some q) :
  Summ Tryz.prog 124 [.agg (cUpdate p0),cD (.cptr [lD 3 z05 p1.key,lD 3 z05 p1.row,dU p1.time.epoch,dU p1.time.loop.1,dU p1.time.loop.2,dI p1.diff])] [] (cD (.bool q)) []:=by
 refine Summ.intro Tryz.func124 rfl (by kernel_rfl) (by kernel_rfl) [] rfl ?_
 rintro ⟨P,w0,G0,V,LL,lk,N, φ0,fx⟩ rfl rfl rfl rfl
 unfold zca at h
 refine Tri.le [] (fun k hk=>by cases hk) ⟨[(0,.agg (cUpdate p0)),(1,.c (.eptr [lD 3 z05 p1.key,lD 3 z05 p1.row,dU p1.time.epoch,dU p1.time.loop.1,dU p1.time.loop.2,dI p1.diff]))],[]⟩ ⟨⟨_,rfl,.refl _⟩,⟨_,rfl,.c (.cptrE _)⟩,trivial⟩ trivial ?_
 refine Tri.sg [1,2] [2] (z00 2) ?_
 refine Tri.seqS ?_
 refine Tri.reg ?_
 refine At.sg 2 [4,5] [] (z00 2) ?_
 obtain ⟨r1,hr1,h⟩:=z04 h
 refine At.cA [] [.agg (cUpdate p0),.agg (cUpdate p1)] (z8g hr1) (.cons (.refl _) (.cons (.refl _) .nil)) ?_
 refine At.sg 2 [3] [] (z00 2) ?_
 refine At.done rfl ?_
 refine Tri.ret ?_
 cases h
 exact RetAt.k
theorem z34 {p0:List Update} {p1_0:Update} {q:Int} (h:z1d p0 p1_0=some q) :
    Summ Tryz.prog 107 [cD (lD 6 z01 p0),cD (.fn 124 [.cptr [lD 3 z05 p1_0.key,lD 3 z05 p1_0.row,dU p1_0.time.epoch,dU p1_0.time.loop.1,dU p1_0.time.loop.2,dI p1_0.diff]])] [] (cD (dI q)) []:=by
  refine Summ.intro Tryz.func107 rfl (by kernel_rfl) (by kernel_rfl) [] rfl ?_
  rintro ⟨P,w0,G0,V,LL,lk,N, φ0,fx⟩ rfl rfl rfl rfl
  unfold z1d at h
  refine Tri.sg [0,1] [] (z00 1) ?_
  refine Tri.seqS ?_
  refine Tri.sg [0,1,7,8] [] (z00 3) ?_
  refine Tri.ln 0 p0.length fun hlena2 => ?_
  refine Tri.rK 8 () (fun (x:Int) s=>RetAt Tryz.prog Tryz.f107 (cD (dI x)) [] s) (fun (a2:Unit)=>⟨[(0,cD (lD 6 z01 p0)),(1,cD (.fn 124 [.cptr [lD 3 z05 p1_0.key,lD 3 z05 p1_0.row,dU p1_0.time.epoch,dU p1_0.time.loop.1,dU p1_0.time.loop.2,dI p1_0.diff]])),(7,cD (dI (p0.length:Int)))],[]⟩) [8,0,1,7] [] [9,8,0,1,7] [] [0,1,7] [] [8,0,1,7] [] h hlena2 ?_ ?_ ?_
  ·intro i1 a2 c hii1 h
   refine Tri.sg [0,1,5,7,8] [] (z00 2) ?_
   refine Tri.seqS ?_
   refine Tri.reg ?_
   refine At.sg 5 [0,1,5,7,8,11,15] [] (tN 3 (ai (show ((0:Int)≤((i1:Nat):Int)∧((i1:Nat):Int) < (p0.length:Int)) from ⟨by omega,by omega⟩) (z00 1))) ?_
   obtain ⟨r4,hr4,h⟩:=z04 h
   refine At.cA [.cptr [lD 3 z05 p1_0.key,lD 3 z05 p1_0.row,dU p1_0.time.epoch,dU p1_0.time.loop.1,dU p1_0.time.loop.2,dI p1_0.diff]] [.agg (cUpdate (p0.getD i1 default)),cD (.cptr [lD 3 z05 p1_0.key,lD 3 z05 p1_0.row,dU p1_0.time.epoch,dU p1_0.time.loop.1,dU p1_0.time.loop.2,dI p1_0.diff])] (zhu hr4) (.cons (.refl _) (.cons (.refl _) .nil)) ?_
   refine At.done rfl ?_
   refine Tri.condK h (fun h => ?_) (fun h => ?_)
   ·refine Tri.sg [4] [] (z00 2) ?_
    refine Tri.ret ?_
    cases h
    exact RetAt.k
   ·refine Tri.kp [8,0,1,7] [] ?_
    refine Tri.skip ?_
    cases h
    exact kr
  ·intro a3 h
   refine Tri.sg [4] [] (z00 1) ?_
   refine Tri.ret ?_
   cases h
   exact RetAt.k
  · exact fun x s hx hr=>by cases hx; exact hr
theorem zex {p0:List Update} {p1:Update} {q:Int} (h:zbx p0 p1=some q) :
    Summ Tryz.prog 94 [cD (lD 6 z01 p0),.agg (cUpdate p1)] [] (cD (dI q)) []:=by
  refine Summ.intro Tryz.func94 rfl (by kernel_rfl) (by kernel_rfl) [] rfl ?_
  rintro ⟨P,w0,G0,V,LL,lk,N, φ0,fx⟩ rfl rfl rfl rfl
  unfold zbx at h
  refine Tri.sg [0,3] [3] (z00 2) ?_
  refine Tri.seqS ?_
  refine Tri.reg ?_
  refine At.seg 1 [0,3,6] [3] (s':=⟨[(0,cD (lD 6 z01 p0)),(3,.c (.ptr 3 0)),(6,cD (lD 6 z01 p0))],[(3,.box (cUpdate p1))]⟩) (by kernel_rfl) (z00 1) ?_
  refine At.le [3] (fun k hk h=>by first | (cases h; done) | (simp at hk h; omega)) ⟨[(0,cD (lD 6 z01 p0)),(3,cD (.cptr [lD 3 z05 p1.key,lD 3 z05 p1.row,dU p1.time.epoch,dU p1.time.loop.1,dU p1.time.loop.2,dI p1.diff])),(6,cD (lD 6 z01 p0))],[]⟩ ⟨⟨_,rfl,.refl _⟩,⟨_,rfl,.c (.box (ds:=[lD 3 z05 p1.key,lD 3 z05 p1.row,dU p1.time.epoch,dU p1.time.loop.1,dU p1.time.loop.2,dI p1.diff]) rfl (by simp))⟩,⟨_,rfl,.refl _⟩,trivial⟩ trivial ?_
  refine At.seg 1 [7,0,3,6] [] (s':=⟨[(7,cD (.fn 124 [.cptr [lD 3 z05 p1.key,lD 3 z05 p1.row,dU p1.time.epoch,dU p1.time.loop.1,dU p1.time.loop.2,dI p1.diff]])),(0,cD (lD 6 z01 p0)),(3,cD (.cptr [lD 3 z05 p1.key,lD 3 z05 p1.row,dU p1.time.epoch,dU p1.time.loop.1,dU p1.time.loop.2,dI p1.diff])),(6,cD (lD 6 z01 p0))],[]⟩) (by kernel_rfl) (z00 1) ?_
  refine At.le [] (fun k hk=>by cases hk) ⟨[(7,cD (.fn 124 [.cptr [lD 3 z05 p1.key,lD 3 z05 p1.row,dU p1.time.epoch,dU p1.time.loop.1,dU p1.time.loop.2,dI p1.diff]])),(0,cD (lD 6 z01 p0)),(3,.c (.eptr [lD 3 z05 p1.key,lD 3 z05 p1.row,dU p1.time.epoch,dU p1.time.loop.1,dU p1.time.loop.2,dI p1.diff])),(6,cD (lD 6 z01 p0))],[]⟩ ⟨⟨_,rfl,.refl _⟩,⟨_,rfl,.refl _⟩,⟨_,rfl,.c (.cptrE _)⟩,⟨_,rfl,.refl _⟩,trivial⟩ trivial ?_
  obtain ⟨r1,hr1,h⟩:=z04 h
  refine At.cA [] [cD (lD 6 z01 p0),cD (.fn 124 [.cptr [lD 3 z05 p1.key,lD 3 z05 p1.row,dU p1.time.epoch,dU p1.time.loop.1,dU p1.time.loop.2,dI p1.diff]])] (z34 hr1) (.cons (.refl _) (.cons (.refl _) .nil)) ?_
  refine At.sg 1 [0,5] [] (z00 1) ?_
  refine At.done rfl ?_
  refine Tri.seqS ?_
  refine Tri.sg [0,5,10] [] (z00 2) ?_
  refine Tri.condK h (fun h => ?_) (fun h => ?_)
  ·refine Tri.sg [4] [] (z00 3) ?_
   refine Tri.ret ?_
   cases h
   exact RetAt.k
  ·refine Tri.skip ?_
   refine Tri.sg [4] [] (z00 2) ?_
   refine Tri.ret ?_
   cases h
   exact RetAt.k
theorem z90 {fuel:Nat} {l0:Worker} {q:Int × Int × Worker} (h:z4t fuel l0=some q) :
    Summ Tryz.prog 56 [.c (.ptr 5000 0)] [(5000,.box [.d (lD 6 z01 l0.merger.a),.d (lD 6 z01 l0.merger.b),.d (dI l0.merger.i),.d (dI l0.merger.j),.d (lD 3 z02 l0.merger.since),oC 5100 6 l0.merger.out]),(5100,vL 6 z01 l0.merger.out)] (.tup [(false,[.d (dI q.1)]),(false,[.d (dI q.2.1)])]) [(5150,vL 6 z01 q.2.2.merger.out),(5000,.box [.d (lD 6 z01 q.2.2.merger.a),.d (lD 6 z01 q.2.2.merger.b),.d (dI q.2.2.merger.i),.d (dI q.2.2.merger.j),.d (lD 3 z02 q.2.2.merger.since),oC 5150 6 q.2.2.merger.out])]:=by
  refine Summ.intro Tryz.func56 rfl (by kernel_rfl) (by kernel_rfl) [5150] rfl ?_
  rintro ⟨P,w0,G0,V,LL,lk,N, φ0,fx⟩ rfl rfl rfl rfl
  unfold z4t at h
  refine Tri.rename 5100 5150 ⟨[(0,.c (.ptr 5000 0))],[(5000,.box [.d (lD 6 z01 l0.merger.a),.d (lD 6 z01 l0.merger.b),.d (dI l0.merger.i),.d (dI l0.merger.j),.d (lD 3 z02 l0.merger.since),oC 5150 6 l0.merger.out]),(5150,vL 6 z01 l0.merger.out)]⟩ (by kernel_rfl) rfl rfl rfl ?_
  refine Tri.sg [0] [5000,5150] (z00 2) ?_
  refine Tri.seqS ?_
  refine Tri.reg ?_
  refine At.sg 1 [0,9] [5000,5150] (z00 1) ?_
  obtain ⟨r1,hr1,h⟩:=z04 h
  refine At.cL 0 [] [.c (.ptr 5000 0)] [(5000,5000),(5100,5150),(5150,5150)] [0] [] (z8l hr1) (.ren rfl rfl .nil) ?_
  refine At.sg 2 [0,4] [4,5000,5150] (z00 2) ?_
  refine At.done rfl ?_
  refine Tri.seqS ?_
  obtain ⟨hc2,h⟩:=z03 h
  obtain ⟨hc3,h⟩:=z03 h
  refine Tri.dC [.a [0] [],.a [11] [],.a [12] [],.a [13] [],.a [14] [5000],.a [0] [],.a [16] [],.a [17] [],.a [18] [],.a [19] [5000],.m ⟨[(15,cD (lD 6 z01 r1.2.merger.a)),(20,cD (dI r1.2.merger.i))],[]⟩ ⟨[(21,cD (lD 6 z01 (sub r1.2.merger.a r1.2.merger.i (r1.2.merger.a.length:Int))))],[]⟩ [] [] [],.a [0] [],.a [22] [],.a [23] [],.a [24] [],.a [25] [5000],.a [0] [],.a [27] [],.a [28] [],.a [29] [],.a [30] [5000],.m ⟨[(26,cD (lD 6 z01 r1.2.merger.b)),(31,cD (dI r1.2.merger.j))],[]⟩ ⟨[(32,cD (lD 6 z01 (sub r1.2.merger.b r1.2.merger.j (r1.2.merger.b.length:Int))))],[]⟩ [] [] [],.a [21] [],.a [32] []] [0,4,5,6] [4,5000,5150] (z00 22) (.a (.a (.a (.a (.a (.a (.a (.a (.a (.a (.m ?_ (.a (.a (.a (.a (.a (.a (.a (.a (.a (.a (.m ?_ (.a (.a .z)))))))))))))))))))))))) ?_
  · exact DOk.one fun r _=>One.subL (z01) (l:=r1.2.merger.i) (h:=(r1.2.merger.a.length:Int)) hc2 hc2 (by kernel_rfl) rfl (by kernel_rfl) (by kernel_rfl)
  · exact DOk.one fun r _=>One.subL (z01) (l:=r1.2.merger.j) (h:=(r1.2.merger.b.length:Int)) hc3 hc3 (by kernel_rfl) rfl (by kernel_rfl) (by kernel_rfl)
  refine Tri.seqS ?_
  obtain ⟨r4,hr4,h⟩:=z04 h
  obtain ⟨hc5,h⟩:=z03 h
  obtain ⟨r6,hr6,h⟩:=z04 h
  obtain ⟨hc7,h⟩:=z03 h
  refine Tri.dC [.a [5] [],.a [5] [],.a [4] [4],.m ⟨[(34,cD (lD 6 z01 (sub r1.2.merger.a r1.2.merger.i (r1.2.merger.a.length:Int)))),(35,.agg (cUpdate r1.1))],[]⟩ ⟨[(36,cD (dI r4))],[]⟩ [] [] [],.m ⟨[(33,cD (lD 6 z01 (sub r1.2.merger.a r1.2.merger.i (r1.2.merger.a.length:Int)))),(36,cD (dI r4))],[]⟩ ⟨[(37,cD (lD 6 z01 (sub (sub r1.2.merger.a r1.2.merger.i (r1.2.merger.a.length:Int)) 0 r4)))],[]⟩ [] [] [],.a [6] [],.a [6] [],.a [4] [4],.m ⟨[(39,cD (lD 6 z01 (sub r1.2.merger.b r1.2.merger.j (r1.2.merger.b.length:Int)))),(40,.agg (cUpdate r1.1))],[]⟩ ⟨[(41,cD (dI r6))],[]⟩ [] [] [],.m ⟨[(38,cD (lD 6 z01 (sub r1.2.merger.b r1.2.merger.j (r1.2.merger.b.length:Int)))),(41,cD (dI r6))],[]⟩ ⟨[(42,cD (lD 6 z01 (sub (sub r1.2.merger.b r1.2.merger.j (r1.2.merger.b.length:Int)) 0 r6)))],[]⟩ [] [] [],.a [37] [],.a [42] []] [0,5,6] [5000,5150] (z00 8) (.a (.a (.a (.m ?_ (.m ?_ (.a (.a (.a (.m ?_ (.m ?_ (.a (.a .z)))))))))))) ?_
  · exact DOk.cA [] [cD (lD 6 z01 (sub r1.2.merger.a r1.2.merger.i (r1.2.merger.a.length:Int))),.agg (cUpdate r1.1)] (zex hr4) fun r=>(.cons (.refl _) (.cons (.refl _) .nil))
  · exact DOk.one fun r _=>One.subL (z01) (l:=0) (h:=r4) hc5 hc5 (by kernel_rfl) rfl (by kernel_rfl) (by kernel_rfl)
  · exact DOk.cA [] [cD (lD 6 z01 (sub r1.2.merger.b r1.2.merger.j (r1.2.merger.b.length:Int))),.agg (cUpdate r1.1)] (zex hr6) fun r=>(.cons (.refl _) (.cons (.refl _) .nil))
  · exact DOk.one fun r _=>One.subL (z01) (l:=0) (h:=r6) hc7 hc7 (by kernel_rfl) rfl (by kernel_rfl) (by kernel_rfl)
  refine Tri.seqS ?_
  refine Tri.reg ?_
  refine At.seg 7 [0,5,6,48,49,50] [5000,5150] (s':=⟨[(0,.c (.ptr 5000 0)),(5,cD (lD 6 z01 (sub (sub r1.2.merger.a r1.2.merger.i (r1.2.merger.a.length:Int)) 0 r4))),(6,cD (lD 6 z01 (sub (sub r1.2.merger.b r1.2.merger.j (r1.2.merger.b.length:Int)) 0 r6))),(48,cD (lD 3 z02 r1.2.merger.since)),(49,cD (lD 6 z01 (sub (sub r1.2.merger.a r1.2.merger.i (r1.2.merger.a.length:Int)) 0 r4))),(50,cD (lD 6 z01 (sub (sub r1.2.merger.b r1.2.merger.j (r1.2.merger.b.length:Int)) 0 r6)))],[(5000,.box [.d (lD 6 z01 r1.2.merger.a),.d (lD 6 z01 r1.2.merger.b),.d (dI r1.2.merger.i),.d (dI r1.2.merger.j),.d (lD 3 z02 r1.2.merger.since),oC 5150 6 r1.2.merger.out]),(5150,vL 6 z01 r1.2.merger.out)]⟩) (by kernel_rfl) (z00 7) ?_
  refine At.one rfl (One.buildSlice (z:=[.zero]) (cells:=[.d (lD 6 z01 (sub (sub r1.2.merger.a r1.2.merger.i (r1.2.merger.a.length:Int)) 0 r4)),.d (lD 6 z01 (sub (sub r1.2.merger.b r1.2.merger.j (r1.2.merger.b.length:Int)) 0 r6))]) (xs:=List.map ((fun xs=>[encL 6 z01 xs])) ([(sub (sub r1.2.merger.a r1.2.merger.i (r1.2.merger.a.length:Int)) 0 r4),(sub (sub r1.2.merger.b r1.2.merger.j (r1.2.merger.b.length:Int)) 0 r6)]:List (List Update))) rfl rfl rfl rfl (by kernel_rfl) rfl rfl (by kernel_rfl) rfl rfl rfl (by kernel_rfl) rfl ⟨⟨rfl,.refl _⟩,⟨rfl,.refl _⟩,trivial⟩) ?_
  refine At.le [51] (fun k hk h=>by first | (cases h; done) | (simp at hk h; omega)) ⟨[(51,cD (lD 1 (fun xs=>[encL 6 z01 xs]) ([(sub (sub r1.2.merger.a r1.2.merger.i (r1.2.merger.a.length:Int)) 0 r4),(sub (sub r1.2.merger.b r1.2.merger.j (r1.2.merger.b.length:Int)) 0 r6)]:List (List Update)))),(0,.c (.ptr 5000 0)),(5,cD (lD 6 z01 (sub (sub r1.2.merger.a r1.2.merger.i (r1.2.merger.a.length:Int)) 0 r4))),(6,cD (lD 6 z01 (sub (sub r1.2.merger.b r1.2.merger.j (r1.2.merger.b.length:Int)) 0 r6))),(48,cD (lD 3 z02 r1.2.merger.since)),(49,cD (lD 6 z01 (sub (sub r1.2.merger.a r1.2.merger.i (r1.2.merger.a.length:Int)) 0 r4))),(50,cD (lD 6 z01 (sub (sub r1.2.merger.b r1.2.merger.j (r1.2.merger.b.length:Int)) 0 r6)))],[(5000,.box [.d (lD 6 z01 r1.2.merger.a),.d (lD 6 z01 r1.2.merger.b),.d (dI r1.2.merger.i),.d (dI r1.2.merger.j),.d (lD 3 z02 r1.2.merger.since),oC 5150 6 r1.2.merger.out]),(5150,vL 6 z01 r1.2.merger.out)]⟩ ⟨⟨_,rfl,.c (.own rfl (List.mem_singleton.2 rfl) (Nat.le_of_ble_eq_true rfl) rfl (z1z ((fun xs=>[encL 6 z01 xs])) ([(sub (sub r1.2.merger.a r1.2.merger.i (r1.2.merger.a.length:Int)) 0 r4),(sub (sub r1.2.merger.b r1.2.merger.j (r1.2.merger.b.length:Int)) 0 r6)]:List (List Update))))⟩,⟨_,rfl,.refl _⟩,⟨_,rfl,.refl _⟩,⟨_,rfl,.refl _⟩,⟨_,rfl,.refl _⟩,⟨_,rfl,.refl _⟩,⟨_,rfl,.refl _⟩,trivial⟩ ⟨⟨_,rfl,.refl _,(by simp)⟩,⟨_,rfl,.refl _,(by simp)⟩,trivial⟩ ?_
  obtain ⟨r8,hr8,h⟩:=z04 h
  refine At.cA [] [cD (lD 3 z02 r1.2.merger.since),cD (lD 1 (fun xs=>[encL 6 z01 xs]) ([(sub (sub r1.2.merger.a r1.2.merger.i (r1.2.merger.a.length:Int)) 0 r4),(sub (sub r1.2.merger.b r1.2.merger.j (r1.2.merger.b.length:Int)) 0 r6)]:List (List Update)))] (zaj hr8) (.cons (.refl _) (.cons (.refl _) .nil)) ?_
  refine At.sg 5 [0,5,6,7,8] [5000,5150] (z00 5) ?_
  refine At.done rfl ?_
  refine Tri.seqS ?_
  refine Tri.segL [0,5,6,7,8,56] [5000,5150] ⟨[(0,.c (.ptr 5000 0)),(5,cD (lD 6 z01 (sub (sub r1.2.merger.a r1.2.merger.i (r1.2.merger.a.length:Int)) 0 r4))),(6,cD (lD 6 z01 (sub (sub r1.2.merger.b r1.2.merger.j (r1.2.merger.b.length:Int)) 0 r6))),(7,cD (lD 6 z01 r8.1)),(8,cD (dI r8.2)),(56,cD (.bool (!decide (r8.2=0))))],[(5000,.box [.d (lD 6 z01 r1.2.merger.a),.d (lD 6 z01 r1.2.merger.b),.d (dI r1.2.merger.i),.d (dI r1.2.merger.j),.d (lD 3 z02 r1.2.merger.since),oC 5150 6 r1.2.merger.out]),(5150,vL 6 z01 r1.2.merger.out)]⟩ _ (by kernel_rfl) (z00 2) ?_
  refine Tri.condK h (fun h => ?_) (fun h => ?_)
  ·refine Tri.sg [2,3] [5000,5150] (z00 3) ?_
   refine Tri.ret ?_
   cases h
   exact RetAt.k
  ·refine Tri.skip ?_
   refine Tri.seqS ?_
   obtain ⟨hc9,h⟩:=z03 h
   refine Tri.dA ⟨[(5,cD (lD 6 z01 (sub (sub r1.2.merger.a r1.2.merger.i (r1.2.merger.a.length:Int)) 0 r4))),(6,cD (lD 6 z01 (sub (sub r1.2.merger.b r1.2.merger.j (r1.2.merger.b.length:Int)) 0 r6)))],[(5000,.box [.d (lD 6 z01 r1.2.merger.a),.d (lD 6 z01 r1.2.merger.b),.d (dI (IntKind.i64.wrap (r1.2.merger.i + ((sub (sub r1.2.merger.a r1.2.merger.i (r1.2.merger.a.length:Int)) 0 r4).length:Int)))),.d (dI (IntKind.i64.wrap (r1.2.merger.j + ((sub (sub r1.2.merger.b r1.2.merger.j (r1.2.merger.b.length:Int)) 0 r6).length:Int)))),.d (lD 3 z02 r1.2.merger.since),oC 5150 6 (r1.2.merger.out++r8.1)]),(5150,vL 6 z01 (r1.2.merger.out++r8.1))]⟩ [(7,25,⟨[(64,.c (.ptr 5000 2))],[(5000,.box [.d (lD 6 z01 r1.2.merger.a),.d (lD 6 z01 r1.2.merger.b),.d (dI r1.2.merger.i),.d (dI r1.2.merger.j),.d (lD 3 z02 r1.2.merger.since),.any])]⟩),(15,25,⟨[(72,.c (.ptr 5000 3))],[(5000,.box [.d (lD 6 z01 r1.2.merger.a),.d (lD 6 z01 r1.2.merger.b),.d (dI r1.2.merger.i),.d (dI r1.2.merger.j),.d (lD 3 z02 r1.2.merger.since),.any])]⟩)] [.a [0] [],.a [0] [],.a [0] [],.a [0] [],.a [61] [],.a [62] [],.a [63] [],.a [64] [5000],.a [5] [],.a [66] [],.a [65,67] [],.a [0] [],.a [69] [],.a [70] [],.a [71] [],.a [72] [5000],.a [6] [],.a [74] [],.a [73,75] [],.a [0] [],.a [77] [],.a [78] [],.a [79] [],.a [80] [5000],.a [7] [],.m ⟨[(81,.c (oC 5150 6 r1.2.merger.out)),(82,cD (lD 6 z01 r8.1))],[(5000,.box [.d (lD 6 z01 r1.2.merger.a),.d (lD 6 z01 r1.2.merger.b),.d (dI r1.2.merger.i),.d (dI r1.2.merger.j),.d (lD 3 z02 r1.2.merger.since),oC 5150 6 r1.2.merger.out]),(5150,vL 6 z01 r1.2.merger.out)]⟩ ⟨[(83,.c (oC 5150 6 (r1.2.merger.out++r8.1))),(81,.c (.any))],[(5150,vL 6 z01 (r1.2.merger.out++r8.1)),(5000,.box [.d (lD 6 z01 r1.2.merger.a),.d (lD 6 z01 r1.2.merger.b),.d (dI r1.2.merger.i),.d (dI r1.2.merger.j),.d (lD 3 z02 r1.2.merger.since),.any])]⟩ [5150] [81] [5000],.a [58] [],.a [84] [],.a [85] [],.m ⟨[(68,cD (dI (IntKind.i64.wrap (r1.2.merger.i + ((sub (sub r1.2.merger.a r1.2.merger.i (r1.2.merger.a.length:Int)) 0 r4).length:Int))))),(86,.c (.ptr 5000 2))],[(5000,.box [.d (lD 6 z01 r1.2.merger.a),.d (lD 6 z01 r1.2.merger.b),.d (dI r1.2.merger.i),.d (dI r1.2.merger.j),.d (lD 3 z02 r1.2.merger.since),.any])]⟩ ⟨[],[(5000,.box [.d (lD 6 z01 r1.2.merger.a),.d (lD 6 z01 r1.2.merger.b),.d (dI (IntKind.i64.wrap (r1.2.merger.i + ((sub (sub r1.2.merger.a r1.2.merger.i (r1.2.merger.a.length:Int)) 0 r4).length:Int)))),.d (dI r1.2.merger.j),.d (lD 3 z02 r1.2.merger.since),.any])]⟩ [] [] [],.a [59] [],.a [87] [],.a [88] [],.m ⟨[(76,cD (dI (IntKind.i64.wrap (r1.2.merger.j + ((sub (sub r1.2.merger.b r1.2.merger.j (r1.2.merger.b.length:Int)) 0 r6).length:Int))))),(89,.c (.ptr 5000 3))],[(5000,.box [.d (lD 6 z01 r1.2.merger.a),.d (lD 6 z01 r1.2.merger.b),.d (dI (IntKind.i64.wrap (r1.2.merger.i + ((sub (sub r1.2.merger.a r1.2.merger.i (r1.2.merger.a.length:Int)) 0 r4).length:Int)))),.d (dI r1.2.merger.j),.d (lD 3 z02 r1.2.merger.since),.any])]⟩ ⟨[],[(5000,.box [.d (lD 6 z01 r1.2.merger.a),.d (lD 6 z01 r1.2.merger.b),.d (dI (IntKind.i64.wrap (r1.2.merger.i + ((sub (sub r1.2.merger.a r1.2.merger.i (r1.2.merger.a.length:Int)) 0 r4).length:Int)))),.d (dI (IntKind.i64.wrap (r1.2.merger.j + ((sub (sub r1.2.merger.b r1.2.merger.j (r1.2.merger.b.length:Int)) 0 r6).length:Int)))),.d (lD 3 z02 r1.2.merger.since),.any])]⟩ [] [] [],.a [60] [],.a [90] [],.a [91] [],.m ⟨[(83,.c (oC 5150 6 (r1.2.merger.out++r8.1))),(92,.c (.ptr 5000 5))],[(5000,.box [.d (lD 6 z01 r1.2.merger.a),.d (lD 6 z01 r1.2.merger.b),.d (dI (IntKind.i64.wrap (r1.2.merger.i + ((sub (sub r1.2.merger.a r1.2.merger.i (r1.2.merger.a.length:Int)) 0 r4).length:Int)))),.d (dI (IntKind.i64.wrap (r1.2.merger.j + ((sub (sub r1.2.merger.b r1.2.merger.j (r1.2.merger.b.length:Int)) 0 r6).length:Int)))),.d (lD 3 z02 r1.2.merger.since),.any]),(5150,vL 6 z01 (r1.2.merger.out++r8.1))]⟩ ⟨[],[(5000,.box [.d (lD 6 z01 r1.2.merger.a),.d (lD 6 z01 r1.2.merger.b),.d (dI (IntKind.i64.wrap (r1.2.merger.i + ((sub (sub r1.2.merger.a r1.2.merger.i (r1.2.merger.a.length:Int)) 0 r4).length:Int)))),.d (dI (IntKind.i64.wrap (r1.2.merger.j + ((sub (sub r1.2.merger.b r1.2.merger.j (r1.2.merger.b.length:Int)) 0 r6).length:Int)))),.d (lD 3 z02 r1.2.merger.since),oC 5150 6 (r1.2.merger.out++r8.1)])]⟩ [] [] []] [5,6] [5000,5150] (cs:=True∧True∧True∧True∧True∧True∧True∧True∧True∧True∧True∧True∧True∧True∧True∧True∧True∧True∧True∧True∧True∧True∧True∧True∧True∧True∧True∧True∧True∧True∧True∧True∧True∧True∧True) ⟨trivial,trivial,trivial,trivial,trivial,trivial,trivial,trivial,trivial,trivial,trivial,trivial,trivial,trivial,trivial,trivial,trivial,trivial,trivial,trivial,trivial,trivial,trivial,trivial,trivial,trivial,trivial,trivial,trivial,trivial,trivial,trivial,trivial,trivial,trivial⟩ (.a (.a (.a (.a (.a (.a (.a (.a (.a (.a (.a (.a (.a (.a (.a (.a (.a (.a (.a (.a (.a (.a (.a (.a (.a (.m ?_ (.a (.a (.a (.m ?_ (.a (.a (.a (.m ?_ (.a (.a (.a (.m ?_ .z)))))))))))))))))))))))))))))))))))))) (z6n.k (z6n.k z6n.z)) ?_
   · exact DOk.drop (k:=5150) (d:=83) (v:=vL 6 z01 (r1.2.merger.out++r8.1)) (av:=.c (oC 5150 6 (r1.2.merger.out++r8.1))) rfl (fun r hr=>One.appendT (e:=56) (es:=6) (z01) r1.2.merger.out r8.1 rfl rfl (by kernel_rfl) rfl rfl (.of 56 80 [.zero,.zero,.d (dU 0),.d (dU 0),.d (dU 0),.d (dI 0)] (by kernel_rfl) (by kernel_rfl) (by kernel_rfl) (by kernel_rfl) rfl (by kernel_rfl) rfl) rfl rfl rfl (.list rfl (fun _ _=>rfl)) hc9) (by kernel_rfl) (by kernel_rfl) (by kernel_rfl) (by kernel_rfl)
   · exact DOk.step (.turn 5000 (.box [.d (lD 6 z01 r1.2.merger.a),.d (lD 6 z01 r1.2.merger.b),.d (dI (IntKind.i64.wrap (r1.2.merger.i + ((sub (sub r1.2.merger.a r1.2.merger.i (r1.2.merger.a.length:Int)) 0 r4).length:Int)))),.d (dI r1.2.merger.j),.d (lD 3 z02 r1.2.merger.since),.any])) (fun r=>by kernel_rfl) (fun r=>by kernel_rfl) trivial (by kernel_rfl) (by kernel_rfl) (fun r=>rfl)
   · exact DOk.step (.turn 5000 (.box [.d (lD 6 z01 r1.2.merger.a),.d (lD 6 z01 r1.2.merger.b),.d (dI (IntKind.i64.wrap (r1.2.merger.i + ((sub (sub r1.2.merger.a r1.2.merger.i (r1.2.merger.a.length:Int)) 0 r4).length:Int)))),.d (dI (IntKind.i64.wrap (r1.2.merger.j + ((sub (sub r1.2.merger.b r1.2.merger.j (r1.2.merger.b.length:Int)) 0 r6).length:Int)))),.d (lD 3 z02 r1.2.merger.since),.any])) (fun r=>by kernel_rfl) (fun r=>by kernel_rfl) trivial (by kernel_rfl) (by kernel_rfl) (fun r=>rfl)
   · exact DOk.step (.turn 5000 (.box [.d (lD 6 z01 r1.2.merger.a),.d (lD 6 z01 r1.2.merger.b),.d (dI (IntKind.i64.wrap (r1.2.merger.i + ((sub (sub r1.2.merger.a r1.2.merger.i (r1.2.merger.a.length:Int)) 0 r4).length:Int)))),.d (dI (IntKind.i64.wrap (r1.2.merger.j + ((sub (sub r1.2.merger.b r1.2.merger.j (r1.2.merger.b.length:Int)) 0 r6).length:Int)))),.d (lD 3 z02 r1.2.merger.since),oC 5150 6 (r1.2.merger.out++r8.1)])) (fun r=>by kernel_rfl) (fun r=>by kernel_rfl) trivial (by kernel_rfl) (by kernel_rfl) (fun r=>rfl)
   refine Tri.sg [2,3] [5000,5150] (z00 7) ?_
   refine Tri.ret ?_
   cases h
   exact RetAt.k
theorem zdt {fuel:Nat} {p0:Merger} {p1:Int} {q:Merger × Int × Int} (h:zan fuel p0 p1=some q) :
    Summ Tryz.prog 20 [.agg (cMerger p0),cD (dI p1)] [] (.tup [(true,[.d (lD 6 z01 q.1.a),.d (lD 6 z01 q.1.b),.d (dI q.1.i),.d (dI q.1.j),.d (lD 3 z02 q.1.since),.d (lD 6 z01 q.1.out)]),(false,[.d (dI q.2.1)]),(false,[.d (dI q.2.2)])]) []:=by
  refine Summ.intro Tryz.func20 rfl (by kernel_rfl) (by kernel_rfl) [] rfl ?_
  rintro ⟨P,w0,G0,V,LL,lk,N, φ0,fx⟩ rfl rfl rfl rfl
  unfold zan at h
  refine Tri.sg [1,2,4] [2,4] (z00 4) ?_
  refine Tri.seqS ?_
  refine Tri.seqS ?_
  refine Tri.reg ?_
  refine At.sg 1 [1,2,4,12] [2,4] (z00 1) ?_
  obtain ⟨r1,hr1,h⟩:=z04 h
  refine At.cA [] [.agg (cMerger p0)] (z9b hr1) (.cons (.refl _) .nil) ?_
  refine At.sg 1 [1,2,4,7] [2,4] (z00 1) ?_
  refine At.done rfl ?_
  refine Tri.sg [1,2,4,7,15] [2,4] (z00 2) ?_
  refine Tri.condK h (fun h => ?_) (fun h => ?_)
  ·refine Tri.sg [4,5,6] [4] (z00 5) ?_
   refine Tri.keep [4,5,6] [4] (s':=⟨[(4,.c (.ptr 4 0)),(5,cD (dI 0)),(6,cD (dI r1))],[(4,.box [.zero,.zero,.d (dI 0),.d (dI 0),.zero,.zero])]⟩) (by kernel_rfl) ?_
   refine Tri.le [] (fun k hk=>by cases hk) ⟨[(4,.c (.ptr 4 0)),(5,cD (dI 0)),(6,cD (dI r1))],[(4,.box [.d (lD 6 z01 ([]:List Update)),.d (lD 6 z01 ([]:List Update)),.d (dI 0),.d (dI 0),.d (lD 3 z02 ([]:List Time)),.d (lD 6 z01 ([]:List Update))])]⟩ ⟨⟨_,rfl,.refl _⟩,⟨_,rfl,.refl _⟩,⟨_,rfl,.refl _⟩,trivial⟩ ⟨⟨_,rfl,.box (.cons (.zero _ _) (.cons (.zero _ _) (.cons (.refl _) (.cons (.refl _) (.cons (.zero _ _) (.cons (.zero _ _) .nil)))))),(by simp)⟩,trivial⟩ ?_
   refine Tri.ret ?_
   cases h
   exact RetAt.k
  ·refine Tri.skip ?_
   refine Tri.seqS ?_
   refine Tri.reg ?_
   refine At.sg 1 [1,4,18] [4] (z00 1) ?_
   obtain ⟨r2,hr2,h⟩:=z04 h
   refine At.cL 0 [] [.agg (cMerger p0)] [(6105,30304)] [1,4] [4] (zfg hr2) (.flat (.refl _) rfl rfl .nil) ?_
   refine At.sg 3 [1,4,8] [4,21,30304] (z00 3) ?_
   refine At.done rfl ?_
   refine Tri.sg [1,4,8,9] [4,21,30304] (z00 1) ?_
   refine Tri.seqS ?_
   refine Tri.lK (0,(⟨r2⟩:Worker)) (fun (x:Merger × Int × Int) s=>RetAt Tryz.prog Tryz.f20 (.tup [(true,[.d (lD 6 z01 x.1.a),.d (lD 6 z01 x.1.b),.d (dI x.1.i),.d (dI x.1.j),.d (lD 3 z02 x.1.since),.d (lD 6 z01 x.1.out)]),(false,[.d (dI x.2.1)]),(false,[.d (dI x.2.2)])]) [] s) (fun (a3:Int × Worker)=>⟨[(1,cD (dI p1)),(4,.c (.ptr 4 0)),(8,.c (.ptr 21 0)),(9,cD (dI a3.1))],[(4,.box [.zero,.zero,.d (dI 0),.d (dI 0),.zero,.zero]),(21,.box [.d (lD 6 z01 a3.2.merger.a),.d (lD 6 z01 a3.2.merger.b),.d (dI a3.2.merger.i),.d (dI a3.2.merger.j),.d (lD 3 z02 a3.2.merger.since),oC 30304 6 a3.2.merger.out]),(30304,vL 6 z01 a3.2.merger.out)]⟩) [1,4,8,9] [4,21,30304] h ?_ ?_ ?_
   ·intro a3 c h
    refine Tri.seqS ?_
    refine Tri.seqJ (fun (a5:Bool × Worker)=>⟨[(1,cD (dI p1)),(4,.c (.ptr 4 0)),(8,.c (.ptr 21 0)),(9,cD (dI a3.1)),(28,cD (.bool a5.1))],[(4,.box [.zero,.zero,.d (dI 0),.d (dI 0),.zero,.zero]),(21,.box [.d (lD 6 z01 a5.2.merger.a),.d (lD 6 z01 a5.2.merger.b),.d (dI a5.2.merger.i),.d (dI a5.2.merger.j),.d (lD 3 z02 a5.2.merger.since),oC 30304 6 a5.2.merger.out]),(30304,vL 6 z01 a5.2.merger.out)]⟩) h (fun a5 h => ?_) (fun j6 h => ?_)
    ·refine Tri.condK h (fun h => ?_) (fun h => ?_)
     ·refine Tri.skip ?_
      refine Tri.blockB ?_
      refine Tri.seqS ?_
      refine Tri.reg ?_
      refine At.sg 1 [1,4,8,9,30] [4,21,30304] (z00 1) ?_
      obtain ⟨r7,hr7,h⟩:=z04 h
      refine At.cL 0 [] [.c (.ptr 21 0)] [(5000,21),(5100,30304),(5150,30304)] [1,4,8,9] [4] (z90 hr7) (.ren rfl rfl .nil) ?_
      refine At.sg 5 [1,4,8,9,10,11] [4,21,30304] (z00 5) ?_
      refine At.done rfl ?_
      refine Tri.seqS ?_
      refine Tri.sg [1,4,8,9,10,11,35] [4,21,30304] (z00 2) ?_
      refine Tri.condK h (fun h => ?_) (fun h => ?_)
      ·refine Tri.sg [4,5,6] [4,30304] (z00 9) ?_
       refine Tri.keep [4,5,6] [4,30304] (s':=⟨[(4,.c (.ptr 4 0)),(5,cD (dI a3.1)),(6,cD (dI r7.2.1))],[(4,.box [.d (lD 6 z01 r7.2.2.merger.a),.d (lD 6 z01 r7.2.2.merger.b),.d (dI r7.2.2.merger.i),.d (dI r7.2.2.merger.j),.d (lD 3 z02 r7.2.2.merger.since),oC 30304 6 r7.2.2.merger.out]),(30304,vL 6 z01 r7.2.2.merger.out)]⟩) (by kernel_rfl) ?_
       refine Tri.le [30304] (fun k hk h=>by first | (cases h; done) | (simp at hk h; omega)) ⟨[(4,.c (.ptr 4 0)),(5,cD (dI a3.1)),(6,cD (dI r7.2.1))],[(4,.box (cMerger r7.2.2.merger))]⟩ ⟨⟨_,rfl,.refl _⟩,⟨_,rfl,.refl _⟩,⟨_,rfl,.refl _⟩,trivial⟩ ⟨⟨_,rfl,.box (.cons (.refl _) (.cons (.refl _) (.cons (.refl _) (.cons (.refl _) (.cons (.refl _) (.cons (CLe.frozen (z01) r7.2.2.merger.out rfl (by simp)) .nil)))))),(by simp)⟩,trivial⟩ ?_
       refine Tri.ret ?_
       cases h
       exact RetAt.k
      ·refine Tri.skip ?_
       refine Tri.reg ?_
       refine At.sg 4 [1,4,8,9] [4,21,30304] (z00 4) ?_
       refine At.done rfl ?_
       cases h
       exact kr
     ·refine Tri.kp [1,4,8,9] [4,21,30304] ?_
      refine Tri.exit ?_
      cases h
      exact ⟨rfl,kr⟩
    ·refine Tri.reg ?_
     refine At.sg 4 [1,4,8,9,25] [4,21,30304] (z00 4) ?_
     refine At.cs [25] h (fun h => ?_) (fun h => ?_)
     ·refine At.sg 1 [1,4,8,9,25,26] [4,21,30304] (z00 1) ?_
      obtain ⟨r8,hr8,h⟩:=z04 h
      refine At.cL 0 [] [.c (.ptr 21 0)] [(5000,21),(5100,30304),(5150,30304)] [1,4,8,9,25] [4] (z91 hr8) (.ren rfl rfl .nil) ?_
      refine At.sg 1 [1,4,8,9,28] [4,21,30304] (z00 1) ?_
      refine At.done rfl ?_
      exact ⟨_,h,kr⟩
     ·refine At.sg 3 [1,4,8,9,28] [4,21,30304] (z00 1) ?_
      refine At.done rfl ?_
      exact ⟨_,h,kr⟩
   ·intro a4 h
    refine Tri.sg [4,5,6] [4,30304] (z00 8) ?_
    refine Tri.keep [4,5,6] [4,30304] (s':=⟨[(4,.c (.ptr 4 0)),(5,cD (dI a4.1)),(6,cD (dI 0))],[(4,.box [.d (lD 6 z01 a4.2.merger.a),.d (lD 6 z01 a4.2.merger.b),.d (dI a4.2.merger.i),.d (dI a4.2.merger.j),.d (lD 3 z02 a4.2.merger.since),oC 30304 6 a4.2.merger.out]),(30304,vL 6 z01 a4.2.merger.out)]⟩) (by kernel_rfl) ?_
    refine Tri.le [30304] (fun k hk h=>by first | (cases h; done) | (simp at hk h; omega)) ⟨[(4,.c (.ptr 4 0)),(5,cD (dI a4.1)),(6,cD (dI 0))],[(4,.box (cMerger a4.2.merger))]⟩ ⟨⟨_,rfl,.refl _⟩,⟨_,rfl,.refl _⟩,⟨_,rfl,.refl _⟩,trivial⟩ ⟨⟨_,rfl,.box (.cons (.refl _) (.cons (.refl _) (.cons (.refl _) (.cons (.refl _) (.cons (.refl _) (.cons (CLe.frozen (z01) a4.2.merger.out rfl (by simp)) .nil)))))),(by simp)⟩,trivial⟩ ?_
    refine Tri.ret ?_
    cases h
    exact RetAt.k
   · exact fun x s hx hr=>by cases hx; exact hr
theorem z93 {l0:Worker} {q:Bool × Worker} (h:z53 l0=some q) :
    Summ Tryz.prog 55 [.c (.ptr 5000 0)] [(5000,.box (cMerger l0.merger))] (cD (.bool q.1)) [(5000,.box (cMerger q.2.merger))]:=by
  refine Summ.intro Tryz.func55 rfl (by kernel_rfl) (by kernel_rfl) [] rfl ?_
  rintro ⟨P,w0,G0,V,LL,lk,N, φ0,fx⟩ rfl rfl rfl rfl
  unfold z53 at h
  refine Tri.segL [0] [5000] ⟨[(0,.c (.ptr 5000 0))],[(5000,.box (cMerger l0.merger))]⟩ _ (by kernel_rfl) (z00 1) ?_
  refine Tri.seqJ (fun (a1:Bool)=>⟨[(2,cD (.bool a1))],[(5000,.box (cMerger l0.merger))]⟩) h (fun a1 h => ?_) (fun j2 h => ?_)
  ·refine Tri.ret ?_
   cases h
   exact RetAt.k
  ·rcases z1f h with ⟨hp3,h⟩ | ⟨hp3,h⟩
   ·refine Tri.dC [.a [0] [],.a [3] [],.a [4] [],.a [5] [],.a [6] [5000],.a [0] [],.a [8] [],.a [9] [],.a [10] [],.a [11] [5000],.a [12] [],.a [7,13] [],.m ⟨[(14,cD (.bool (decide (l0.merger.i < (l0.merger.a.length:Int)))))],[]⟩ ⟨[(15,.c (.d (.bool true)))],[]⟩ [] [] [],.a [0,15] [],.a [15,16] [],.a [15,17] [],.a [15,18] [],.a [15,19] [],.a [0,15] [],.a [15,21] [],.a [15,22] [],.a [15,23] [],.a [15,24] [],.a [15,25] [],.a [15,20,26] [],.a [15,27] [],.a [28] []] [2] [5000] (z00 14) (.a (.a (.a (.a (.a (.a (.a (.a (.a (.a (.a (.a (.m ?_ (.a (.a (.a (.a (.a (.a (.a (.a (.a (.a (.a (.a (.a (.a .z))))))))))))))))))))))))))) ?_
    · exact DOk.stepP (fun b => .val (.c (.d (.bool b))) (True)) (p:=(decide (l0.merger.i < (l0.merger.a.length:Int)))) hp3 (fun r=>by kernel_rfl) (fun r=>by kernel_rfl) trivial (by kernel_rfl) (by kernel_rfl) (fun r=>rfl)
    exact ⟨_,h,kr⟩
   ·refine Tri.dC [.a [0] [],.a [3] [],.a [4] [],.a [5] [],.a [6] [5000],.a [0] [],.a [8] [],.a [9] [],.a [10] [],.a [11] [5000],.a [12] [],.a [7,13] [],.m ⟨[(14,cD (.bool (decide (l0.merger.i < (l0.merger.a.length:Int)))))],[]⟩ ⟨[(15,.c (.d (.bool false)))],[]⟩ [] [] [],.a [0,15] [],.a [15,16] [],.a [15,17] [],.a [15,18] [],.a [15,19] [5000],.a [0,15] [],.a [15,21] [],.a [15,22] [],.a [15,23] [],.a [15,24] [5000],.a [15,25] [],.a [15,20,26] [],.a [15,27] [],.a [28] []] [2] [5000] (z00 26) (.a (.a (.a (.a (.a (.a (.a (.a (.a (.a (.a (.a (.m ?_ (.a (.a (.a (.a (.a (.a (.a (.a (.a (.a (.a (.a (.a (.a .z))))))))))))))))))))))))))) ?_
    · exact DOk.stepP (fun b => .val (.c (.d (.bool b))) (True)) (p:=(decide (l0.merger.i < (l0.merger.a.length:Int)))) hp3 (fun r=>by kernel_rfl) (fun r=>by kernel_rfl) trivial (by kernel_rfl) (by kernel_rfl) (fun r=>rfl)
    exact ⟨_,h,kr⟩
theorem zf2 {fuel:Nat} {p0:Merger} {q:Batch × Int} (h:zc2 fuel p0=some q) :
    Summ Tryz.prog 22 [.agg (cMerger p0)] [] (.tup [(true,[.d (lD 3 z02 q.1.since),.d (lD 6 z01 q.1.updates)]),(false,[.d (dI q.2)])]) []:=by
  refine Summ.intro Tryz.func22 rfl (by kernel_rfl) (by kernel_rfl) [] rfl ?_
  rintro ⟨P,w0,G0,V,LL,lk,N, φ0,fx⟩ rfl rfl rfl rfl
  unfold zc2 at h
  refine Tri.sg [1,2] [1,2] (z00 3) ?_
  refine Tri.sg [1,2,4] [1,2,4] (z00 4) ?_
  refine Tri.seqS ?_
  refine Tri.seqJ (fun (a1:Bool)=>⟨[(1,.c (.ptr 1 0)),(2,.c (.ptr 2 0)),(12,cD (.bool a1))],[(1,.box (cMerger p0)),(2,.box [.zero,.zero])]⟩) h (fun a1 h => ?_) (fun j2 h => ?_)
  ·refine Tri.condK h (fun h => ?_) (fun h => ?_)
   ·refine Tri.sg [2,3] [2] (z00 3) ?_
    refine Tri.keep [2,3] [2] (s':=⟨[(2,.c (.ptr 2 0)),(3,cD (dI 8))],[(2,.box [.zero,.zero])]⟩) (by kernel_rfl) ?_
    refine Tri.le [] (fun k hk=>by cases hk) ⟨[(2,.c (.ptr 2 0)),(3,cD (dI 8))],[(2,.box [.d (lD 3 z02 ([]:List Time)),.d (lD 6 z01 ([]:List Update))])]⟩ ⟨⟨_,rfl,.refl _⟩,⟨_,rfl,.refl _⟩,trivial⟩ ⟨⟨_,rfl,.box (.cons (.zero _ _) (.cons (.zero _ _) .nil)),(by simp)⟩,trivial⟩ ?_
    refine Tri.ret ?_
    cases h
    exact RetAt.k
   ·refine Tri.skip ?_
    refine Tri.seqS ?_
    refine Tri.reg ?_
    refine At.sg 1 [1,2,14] [1,2] (z00 1) ?_
    obtain ⟨r3,hr3,h⟩:=z04 h
    refine At.cA [] [.agg (cMerger p0)] (zes hr3) (.cons (.refl _) .nil) ?_
    refine At.sg 1 [1,2] [1,2] (z00 1) ?_
    refine At.done rfl ?_
    refine Tri.sg [2,3] [2] (z00 7) ?_
    refine Tri.ret ?_
    cases h
    exact RetAt.k
  ·refine Tri.reg ?_
   refine At.sg 1 [1,2,4,7] [1,2,4] (z00 1) ?_
   obtain ⟨r4,hr4,h⟩:=z04 h
   refine At.cA [] [.agg (cMerger p0)] (z9b hr4) (.cons (.refl _) .nil) ?_
   refine At.sg 2 [1,2,4,10] [1,2,4] (z00 2) ?_
   refine At.cs [10] h (fun h => ?_) (fun h => ?_)
   ·refine At.sg 2 [1,2,12] [1,2] (z00 1) ?_
    refine At.done rfl ?_
    exact ⟨_,h,kr⟩
   ·obtain ⟨r5,hr5,h⟩:=z04 h
    refine At.cL 0 [] [.c (.ptr 4 0)] [(5000,4)] [1,2,10] [1,2] (z93 hr5) (.ren rfl rfl .nil) ?_
    refine At.sg 1 [1,2,12] [1,2] (z00 1) ?_
    refine At.done rfl ?_
    exact ⟨_,h,kr⟩
theorem z41 {fuel:Nat} {q:Bool} (h:z50 fuel=some q) :
    Summ Tryz.prog 13 [] [] (cD (.bool q)) []:=by
  refine Summ.intro Tryz.func13 rfl (by kernel_rfl) (by kernel_rfl) [] rfl ?_
  rintro ⟨P,w0,G0,V,LL,lk,N, φ0,fx⟩ rfl rfl rfl rfl
  unfold z50 at h
  refine Tri.sg [] [] (z00 1) ?_
  refine Tri.seqS ?_
  refine Tri.reg ?_
  obtain ⟨r1,hr1,h⟩:=z04 h
  refine At.cA [] [cD (dI 1)] (z7l hr1) (.cons (.refl _) .nil) ?_
  refine At.seg 1 [17] [] (s':=⟨[(17,.agg [.zero,.d (lD 3 z05 r1),.d (dU 0),.d (dU 0),.d (dU 0),.d (dI 1)])],[]⟩) (by kernel_rfl) (z00 1) ?_
  refine At.one rfl (One.buildSlice (z:=[.zero,.zero,.d (dU 0),.d (dU 0),.d (dU 0),.d (dI 0)]) (cells:=[.zero,.d (lD 3 z05 r1),.d (dU 0),.d (dU 0),.d (dU 0),.d (dI 1)]) (xs:=List.map (z01) ([(⟨([]:List Value),r1,(⟨0,(0,0)⟩:Time),1⟩:Update)]:List Update)) rfl rfl rfl rfl (by kernel_rfl) rfl rfl (by kernel_rfl) rfl rfl rfl (by kernel_rfl) rfl ⟨⟨rfl,(.cons (.zero _ _) (.cons (.refl _) (.cons (.refl _) (.cons (.refl _) (.cons (.refl _) (.cons (.refl _) .nil))))))⟩,trivial⟩) ?_
  refine At.le [18] (fun k hk h=>by first | (cases h; done) | (simp at hk h; omega)) ⟨[(18,cD (lD 6 z01 ([(⟨([]:List Value),r1,(⟨0,(0,0)⟩:Time),1⟩:Update)]:List Update))),(17,.agg [.zero,.d (lD 3 z05 r1),.d (dU 0),.d (dU 0),.d (dU 0),.d (dI 1)])],[]⟩ ⟨⟨_,rfl,.c (.own rfl (List.mem_singleton.2 rfl) (Nat.le_of_ble_eq_true rfl) rfl (z1z (z01) ([(⟨([]:List Value),r1,(⟨0,(0,0)⟩:Time),1⟩:Update)]:List Update)))⟩,⟨_,rfl,.refl _⟩,trivial⟩ trivial ?_
  obtain ⟨r2,hr2,h⟩:=z04 h
  refine At.cA [] [cD (dI 2)] (z7l hr2) (.cons (.refl _) .nil) ?_
  refine At.seg 1 [18,20] [] (s':=⟨[(18,cD (lD 6 z01 ([(⟨([]:List Value),r1,(⟨0,(0,0)⟩:Time),1⟩:Update)]:List Update))),(20,.agg [.zero,.d (lD 3 z05 r2),.d (dU 0),.d (dU 0),.d (dU 0),.d (dI 5)])],[]⟩) (by kernel_rfl) (z00 1) ?_
  refine At.one rfl (One.buildSlice (z:=[.zero,.zero,.d (dU 0),.d (dU 0),.d (dU 0),.d (dI 0)]) (cells:=[.zero,.d (lD 3 z05 r2),.d (dU 0),.d (dU 0),.d (dU 0),.d (dI 5)]) (xs:=List.map (z01) ([(⟨([]:List Value),r2,(⟨0,(0,0)⟩:Time),5⟩:Update)]:List Update)) rfl rfl rfl rfl (by kernel_rfl) rfl rfl (by kernel_rfl) rfl rfl rfl (by kernel_rfl) rfl ⟨⟨rfl,(.cons (.zero _ _) (.cons (.refl _) (.cons (.refl _) (.cons (.refl _) (.cons (.refl _) (.cons (.refl _) .nil))))))⟩,trivial⟩) ?_
  refine At.le [21] (fun k hk h=>by first | (cases h; done) | (simp at hk h; omega)) ⟨[(21,cD (lD 6 z01 ([(⟨([]:List Value),r2,(⟨0,(0,0)⟩:Time),5⟩:Update)]:List Update))),(18,cD (lD 6 z01 ([(⟨([]:List Value),r1,(⟨0,(0,0)⟩:Time),1⟩:Update)]:List Update))),(20,.agg [.zero,.d (lD 3 z05 r2),.d (dU 0),.d (dU 0),.d (dU 0),.d (dI 5)])],[]⟩ ⟨⟨_,rfl,.c (.own rfl (List.mem_singleton.2 rfl) (Nat.le_of_ble_eq_true rfl) rfl (z1z (z01) ([(⟨([]:List Value),r2,(⟨0,(0,0)⟩:Time),5⟩:Update)]:List Update)))⟩,⟨_,rfl,.refl _⟩,⟨_,rfl,.refl _⟩,trivial⟩ trivial ?_
  refine At.one rfl (One.buildSlice (z:=[.zero]) (cells:=[.d (lD 6 z01 ([(⟨([]:List Value),r1,(⟨0,(0,0)⟩:Time),1⟩:Update)]:List Update)),.d (lD 6 z01 ([(⟨([]:List Value),r2,(⟨0,(0,0)⟩:Time),5⟩:Update)]:List Update))]) (xs:=List.map ((fun xs=>[encL 6 z01 xs])) ([([(⟨([]:List Value),r1,(⟨0,(0,0)⟩:Time),1⟩:Update)]:List Update),([(⟨([]:List Value),r2,(⟨0,(0,0)⟩:Time),5⟩:Update)]:List Update)]:List (List Update))) rfl rfl rfl rfl (by kernel_rfl) rfl rfl (by kernel_rfl) rfl rfl rfl (by kernel_rfl) rfl ⟨⟨rfl,.refl _⟩,⟨rfl,.refl _⟩,trivial⟩) ?_
  refine At.le [22] (fun k hk h=>by first | (cases h; done) | (simp at hk h; omega)) ⟨[(22,cD (lD 1 (fun xs=>[encL 6 z01 xs]) ([([(⟨([]:List Value),r1,(⟨0,(0,0)⟩:Time),1⟩:Update)]:List Update),([(⟨([]:List Value),r2,(⟨0,(0,0)⟩:Time),5⟩:Update)]:List Update)]:List (List Update)))),(18,cD (lD 6 z01 ([(⟨([]:List Value),r1,(⟨0,(0,0)⟩:Time),1⟩:Update)]:List Update))),(21,cD (lD 6 z01 ([(⟨([]:List Value),r2,(⟨0,(0,0)⟩:Time),5⟩:Update)]:List Update)))],[]⟩ ⟨⟨_,rfl,.c (.own rfl (List.mem_singleton.2 rfl) (Nat.le_of_ble_eq_true rfl) rfl (z1z ((fun xs=>[encL 6 z01 xs])) ([([(⟨([]:List Value),r1,(⟨0,(0,0)⟩:Time),1⟩:Update)]:List Update),([(⟨([]:List Value),r2,(⟨0,(0,0)⟩:Time),5⟩:Update)]:List Update)]:List (List Update))))⟩,⟨_,rfl,.refl _⟩,⟨_,rfl,.refl _⟩,trivial⟩ trivial ?_
  obtain ⟨r3,hr3,h⟩:=z04 h
  refine At.cA [] [.c (.zero),cD (lD 1 (fun xs=>[encL 6 z01 xs]) ([([(⟨([]:List Value),r1,(⟨0,(0,0)⟩:Time),1⟩:Update)]:List Update),([(⟨([]:List Value),r2,(⟨0,(0,0)⟩:Time),5⟩:Update)]:List Update)]:List (List Update)))] (z9s hr3) (.cons (.c (.le (.zero _ _))) (.cons (.refl _) .nil)) ?_
  refine At.sg 6 [1,2] [1] (z00 6) ?_
  refine At.done rfl ?_
  refine Tri.seqS ?_
  refine Tri.reg ?_
  obtain ⟨r4,hr4,h⟩:=z04 h
  refine At.cA [] [cD (dI 1)] (z7l hr4) (.cons (.refl _) .nil) ?_
  refine At.seg 1 [1,2,28] [1] (s':=⟨[(1,.c (.ptr 1 0)),(2,cD (dI r3.2)),(28,.agg [.zero,.d (lD 3 z05 r4),.d (dU 0),.d (dU 0),.d (dU 0),.d (dI (-1))])],[(1,.box (cBatch r3.1))]⟩) (by kernel_rfl) (z00 1) ?_
  refine At.one rfl (One.buildSlice (z:=[.zero,.zero,.d (dU 0),.d (dU 0),.d (dU 0),.d (dI 0)]) (cells:=[.zero,.d (lD 3 z05 r4),.d (dU 0),.d (dU 0),.d (dU 0),.d (dI (-1))]) (xs:=List.map (z01) ([(⟨([]:List Value),r4,(⟨0,(0,0)⟩:Time),(-1)⟩:Update)]:List Update)) rfl rfl rfl rfl (by kernel_rfl) rfl rfl (by kernel_rfl) rfl rfl rfl (by kernel_rfl) rfl ⟨⟨rfl,(.cons (.zero _ _) (.cons (.refl _) (.cons (.refl _) (.cons (.refl _) (.cons (.refl _) (.cons (.refl _) .nil))))))⟩,trivial⟩) ?_
  refine At.le [29] (fun k hk h=>by first | (cases h; done) | (simp at hk h; omega)) ⟨[(29,cD (lD 6 z01 ([(⟨([]:List Value),r4,(⟨0,(0,0)⟩:Time),(-1)⟩:Update)]:List Update))),(1,.c (.ptr 1 0)),(2,cD (dI r3.2)),(28,.agg [.zero,.d (lD 3 z05 r4),.d (dU 0),.d (dU 0),.d (dU 0),.d (dI (-1))])],[(1,.box (cBatch r3.1))]⟩ ⟨⟨_,rfl,.c (.own rfl (List.mem_singleton.2 rfl) (Nat.le_of_ble_eq_true rfl) rfl (z1z (z01) ([(⟨([]:List Value),r4,(⟨0,(0,0)⟩:Time),(-1)⟩:Update)]:List Update)))⟩,⟨_,rfl,.refl _⟩,⟨_,rfl,.refl _⟩,⟨_,rfl,.refl _⟩,trivial⟩ ⟨⟨_,rfl,.refl _,(by simp)⟩,trivial⟩ ?_
  refine At.one rfl (One.buildSlice (z:=[.zero]) (cells:=[.d (lD 6 z01 ([(⟨([]:List Value),r4,(⟨0,(0,0)⟩:Time),(-1)⟩:Update)]:List Update))]) (xs:=List.map ((fun xs=>[encL 6 z01 xs])) ([([(⟨([]:List Value),r4,(⟨0,(0,0)⟩:Time),(-1)⟩:Update)]:List Update)]:List (List Update))) rfl rfl rfl rfl (by kernel_rfl) rfl rfl (by kernel_rfl) rfl rfl rfl (by kernel_rfl) rfl ⟨⟨rfl,.refl _⟩,trivial⟩) ?_
  refine At.le [30] (fun k hk h=>by first | (cases h; done) | (simp at hk h; omega)) ⟨[(30,cD (lD 1 (fun xs=>[encL 6 z01 xs]) ([([(⟨([]:List Value),r4,(⟨0,(0,0)⟩:Time),(-1)⟩:Update)]:List Update)]:List (List Update)))),(1,.c (.ptr 1 0)),(2,cD (dI r3.2)),(29,cD (lD 6 z01 ([(⟨([]:List Value),r4,(⟨0,(0,0)⟩:Time),(-1)⟩:Update)]:List Update)))],[(1,.box (cBatch r3.1))]⟩ ⟨⟨_,rfl,.c (.own rfl (List.mem_singleton.2 rfl) (Nat.le_of_ble_eq_true rfl) rfl (z1z ((fun xs=>[encL 6 z01 xs])) ([([(⟨([]:List Value),r4,(⟨0,(0,0)⟩:Time),(-1)⟩:Update)]:List Update)]:List (List Update))))⟩,⟨_,rfl,.refl _⟩,⟨_,rfl,.refl _⟩,⟨_,rfl,.refl _⟩,trivial⟩ ⟨⟨_,rfl,.refl _,(by simp)⟩,trivial⟩ ?_
  obtain ⟨r5,hr5,h⟩:=z04 h
  refine At.cA [] [.c (.zero),cD (lD 1 (fun xs=>[encL 6 z01 xs]) ([([(⟨([]:List Value),r4,(⟨0,(0,0)⟩:Time),(-1)⟩:Update)]:List Update)]:List (List Update)))] (z9s hr5) (.cons (.c (.le (.zero _ _))) (.cons (.refl _) .nil)) ?_
  refine At.sg 6 [1,2,3,4] [1,3] (z00 6) ?_
  refine At.done rfl ?_
  refine Tri.seqS ?_
  refine Tri.reg ?_
  refine At.seg 2 [2,4,35,36] [] (s':=⟨[(2,cD (dI r3.2)),(4,cD (dI r5.2)),(35,.agg (cBatch r3.1)),(36,.agg (cBatch r5.1))],[]⟩) (by kernel_rfl) (z00 2) ?_
  obtain ⟨r6,hr6,h⟩:=z04 h
  refine At.cA [] [.c (.zero),.agg (cBatch r3.1),.agg (cBatch r5.1)] (zhk hr6) (.cons (.c (.le (.zero _ _))) (.cons (.refl _) (.cons (.refl _) .nil))) ?_
  refine At.sg 6 [2,4,5,6] [5] (z00 6) ?_
  refine At.done rfl ?_
  refine Tri.seqS ?_
  refine Tri.reg ?_
  refine At.sg 1 [2,4,5,6,41] [5] (z00 1) ?_
  obtain ⟨r7,hr7,h⟩:=z04 h
  refine At.cA [] [.agg (cMerger r6.1),cD (dI 1)] (zdt hr7) (.cons (.refl _) (.cons (.refl _) .nil)) ?_
  refine At.sg 7 [2,4,5,6,7,8] [5] (z00 7) ?_
  refine At.done rfl ?_
  refine Tri.seqS ?_
  refine Tri.reg ?_
  refine At.sg 1 [2,4,5,6,7,8,47] [5] (z00 1) ?_
  obtain ⟨r8,hr8,h⟩:=z04 h
  refine At.cA [] [.agg (cMerger r7.1)] (zf2 hr8) (.cons (.refl _) .nil) ?_
  refine At.sg 6 [2,4,5,6,7,8,10] [5] (z00 6) ?_
  refine At.done rfl ?_
  refine Tri.seqS ?_
  refine Tri.reg ?_
  refine At.sg 1 [2,4,5,6,7,8,10,52] [5] (z00 1) ?_
  obtain ⟨r9,hr9,h⟩:=z04 h
  refine At.cA [] [.agg (cMerger r7.1),cD (dI 9)] (zdt hr9) (.cons (.refl _) (.cons (.refl _) .nil)) ?_
  refine At.sg 7 [2,4,5,6,7,8,10,11,12] [5] (z00 7) ?_
  refine At.done rfl ?_
  refine Tri.seqS ?_
  refine Tri.reg ?_
  refine At.sg 1 [2,4,6,7,8,10,11,12,58] [] (z00 1) ?_
  obtain ⟨r10,hr10,h⟩:=z04 h
  refine At.cA [] [.agg (cMerger r9.1)] (zf2 hr10) (.cons (.refl _) .nil) ?_
  refine At.sg 6 [2,4,6,7,8,10,11,12,13,14] [13] (z00 6) ?_
  refine At.done rfl ?_
  refine Tri.seqJ (fun (a11:Bool)=>⟨[(0,cD (.bool a11))],[]⟩) h (fun a11 h => ?_) (fun j12 h => ?_)
  ·refine Tri.ret ?_
   cases h
   exact RetAt.k
  ·refine Tri.reg ?_
   refine At.sg 3 [4,6,7,8,10,11,12,13,14,64] [13] (z00 3) ?_
   refine At.cs [64] h (fun h => ?_) (fun h => ?_)
   ·refine At.sg 4 [6,7,8,10,11,12,13,14,68] [13] (z00 4) ?_
    refine At.cs [68] h (fun h => ?_) (fun h => ?_)
    ·refine At.sg 4 [7,8,10,11,12,13,14,72] [13] (z00 4) ?_
     refine At.cs [72] h (fun h => ?_) (fun h => ?_)
     ·refine At.sg 4 [8,10,11,12,13,14,76] [13] (z00 4) ?_
      refine At.cs [76] h (fun h => ?_) (fun h => ?_)
      ·refine At.sg 4 [10,11,12,13,14,80] [13] (z00 4) ?_
       refine At.cs [80] h (fun h => ?_) (fun h => ?_)
       ·refine At.sg 4 [11,12,13,14,84] [13] (z00 4) ?_
        refine At.cs [84] h (fun h => ?_) (fun h => ?_)
        ·refine At.sg 4 [12,13,14,88] [13] (z00 4) ?_
         refine At.cs [88] h (fun h => ?_) (fun h => ?_)
         ·refine At.sg 4 [13,14,92] [13] (z00 4) ?_
          refine At.cs [92] h (fun h => ?_) (fun h => ?_)
          ·refine At.sg 4 [13,96] [13] (z00 4) ?_
           refine At.cs [96] h (fun h => ?_) (fun h => ?_)
           ·refine At.sg 6 [13,102] [13] (z00 6) ?_
            refine At.cs [102] h (fun h => ?_) (fun h => ?_)
            ·obtain ⟨hc13,h⟩:=z03 h
             refine At.sg 8 [110] [] (tN 2 (ai hc13 (z00 5))) ?_
             refine At.cs [110] h (fun h => ?_) (fun h => ?_)
             ·refine At.seg 1 [110,111] [] (s':=⟨[(110,cD (.bool true)),(111,.agg [.d (dU 2),.d (dU 0),.d (dU 0)])],[]⟩) (by kernel_rfl) (z00 1) ?_
              refine At.one rfl (One.buildSlice (z:=[.d (dU 0),.d (dU 0),.d (dU 0)]) (cells:=[.d (dU 2),.d (dU 0),.d (dU 0)]) (xs:=List.map (z02) ([(⟨2,(0,0)⟩:Time)]:List Time)) rfl rfl rfl rfl (by kernel_rfl) rfl rfl (by kernel_rfl) rfl rfl rfl (by kernel_rfl) rfl ⟨⟨rfl,.refl _⟩,trivial⟩) ?_
              refine At.le [112] (fun k hk h=>by first | (cases h; done) | (simp at hk h; omega)) ⟨[(112,cD (lD 3 z02 ([(⟨2,(0,0)⟩:Time)]:List Time))),(110,cD (.bool true)),(111,.agg [.d (dU 2),.d (dU 0),.d (dU 0)])],[]⟩ ⟨⟨_,rfl,.c (.own rfl (List.mem_singleton.2 rfl) (Nat.le_of_ble_eq_true rfl) rfl (z1z (z02) ([(⟨2,(0,0)⟩:Time)]:List Time)))⟩,⟨_,rfl,.refl _⟩,⟨_,rfl,.refl _⟩,trivial⟩ trivial ?_
              refine At.seg 1 [110,112,113] [] (s':=⟨[(110,cD (.bool true)),(112,cD (lD 3 z02 ([(⟨2,(0,0)⟩:Time)]:List Time))),(113,.agg [.d (dU 1),.d (dU 0),.d (dU 0)])],[]⟩) (by kernel_rfl) (z00 1) ?_
              refine At.one rfl (One.buildSlice (z:=[.d (dU 0),.d (dU 0),.d (dU 0)]) (cells:=[.d (dU 1),.d (dU 0),.d (dU 0)]) (xs:=List.map (z02) ([(⟨1,(0,0)⟩:Time)]:List Time)) rfl rfl rfl rfl (by kernel_rfl) rfl rfl (by kernel_rfl) rfl rfl rfl (by kernel_rfl) rfl ⟨⟨rfl,.refl _⟩,trivial⟩) ?_
              refine At.le [114] (fun k hk h=>by first | (cases h; done) | (simp at hk h; omega)) ⟨[(114,cD (lD 3 z02 ([(⟨1,(0,0)⟩:Time)]:List Time))),(110,cD (.bool true)),(112,cD (lD 3 z02 ([(⟨2,(0,0)⟩:Time)]:List Time))),(113,.agg [.d (dU 1),.d (dU 0),.d (dU 0)])],[]⟩ ⟨⟨_,rfl,.c (.own rfl (List.mem_singleton.2 rfl) (Nat.le_of_ble_eq_true rfl) rfl (z1z (z02) ([(⟨1,(0,0)⟩:Time)]:List Time)))⟩,⟨_,rfl,.refl _⟩,⟨_,rfl,.refl _⟩,⟨_,rfl,.refl _⟩,trivial⟩ trivial ?_
              obtain ⟨r14,hr14,h⟩:=z04 h
              refine At.cA [] [cD (lD 3 z02 ([(⟨2,(0,0)⟩:Time)]:List Time)),cD (lD 3 z02 ([(⟨1,(0,0)⟩:Time)]:List Time))] (z80 hr14) (.cons (.refl _) (.cons (.refl _) .nil)) ?_
              refine At.sg 2 [0] [] (z00 2) ?_
              refine At.done rfl ?_
              exact ⟨_,h,kr⟩
             ·refine At.sg 7 [0] [] (z00 2) ?_
              refine At.done rfl ?_
              exact ⟨_,h,kr⟩
            ·refine At.sg 15 [0] [] (z00 4) ?_
             refine At.done rfl ?_
             exact ⟨_,h,kr⟩
           ·refine At.sg 21 [0] [] (z00 6) ?_
            refine At.done rfl ?_
            exact ⟨_,h,kr⟩
          ·refine At.sg 25 [0] [] (z00 8) ?_
           refine At.done rfl ?_
           exact ⟨_,h,kr⟩
         ·refine At.sg 29 [0] [] (z00 10) ?_
          refine At.done rfl ?_
          exact ⟨_,h,kr⟩
        ·refine At.sg 33 [0] [] (z00 12) ?_
         refine At.done rfl ?_
         exact ⟨_,h,kr⟩
       ·refine At.sg 37 [0] [] (z00 14) ?_
        refine At.done rfl ?_
        exact ⟨_,h,kr⟩
      ·refine At.sg 41 [0] [] (z00 16) ?_
       refine At.done rfl ?_
       exact ⟨_,h,kr⟩
     ·refine At.sg 45 [0] [] (z00 18) ?_
      refine At.done rfl ?_
      exact ⟨_,h,kr⟩
    ·refine At.sg 49 [0] [] (z00 20) ?_
     refine At.done rfl ?_
     exact ⟨_,h,kr⟩
   ·refine At.sg 53 [0] [] (z00 22) ?_
    refine At.done rfl ?_
    exact ⟨_,h,kr⟩
theorem z2s {p0:List Value} {p1:List Value} {q:Bool} (h:z3p p0 p1=some q) :
    Summ Tryz.prog 62 [cD (lD 3 z05 p0),cD (lD 3 z05 p1)] [] (cD (.bool q)) []:=by
  refine Summ.intro Tryz.func62 rfl (by kernel_rfl) (by kernel_rfl) [] rfl ?_
  rintro ⟨P,w0,G0,V,LL,lk,N, φ0,fx⟩ rfl rfl rfl rfl
  unfold z3p at h
  refine Tri.sg [0,1] [] (z00 1) ?_
  refine Tri.seqS ?_
  refine Tri.sg [0,1,10] [] (z00 5) ?_
  refine Tri.condK h (fun h => ?_) (fun h => ?_)
  ·refine Tri.sg [4] [] (z00 1) ?_
   refine Tri.ret ?_
   cases h
   exact RetAt.k
  ·refine Tri.skip ?_
   refine Tri.seqS ?_
   refine Tri.sg [0,1,12,13] [] (z00 3) ?_
   refine Tri.ln 0 p0.length fun hlena2 => ?_
   refine Tri.rK 13 () (fun (x:Bool) s=>RetAt Tryz.prog Tryz.f62 (cD (.bool x)) [] s) (fun (a2:Unit)=>⟨[(0,cD (lD 3 z05 p0)),(1,cD (lD 3 z05 p1)),(12,cD (dI (p0.length:Int)))],[]⟩) [13,0,1,12] [] [14,13,0,1,12] [] [0,1,12] [] [13,0,1,12] [] h hlena2 ?_ ?_ ?_
   ·intro i1 a2 c hii1 h
    refine Tri.sg [0,1,5,12,13] [] (z00 2) ?_
    refine Tri.seqS ?_
    obtain ⟨hc4,h⟩:=z03 h
    refine Tri.dC [.a [0] [],.a [5] [],.a [16,17] [],.a [18] [],.a [1] [],.a [5] [],.a [20,21] [],.a [22] [],.m ⟨[(19,.agg (cValue (p0.getD i1 default))),(23,.agg (cValue (p1.getD i1 default)))],[]⟩ ⟨[(24,cD (.bool (!(z8y (p0.getD i1 default) (p1.getD i1 default)))))],[]⟩ [] [] []] [0,1,12,13,24] [] (tN 2 (ai (show ((0:Int)≤((i1:Nat):Int)∧((i1:Nat):Int) < (p0.length:Int)) from ⟨by omega,by omega⟩) (tN 3 (ai hc4 (z00 1))))) (.a (.a (.a (.a (.a (.a (.a (.a (.m ?_ .z))))))))) ?_
    · exact DOk.one fun r _=>One.eql (b:=(z8y (p0.getD i1 default) (p1.getD i1 default))) (d:=9) rfl (by kernel_rfl) rfl (.inr rfl) rfl rfl (by kernel_rfl) rfl (by kernel_rfl)
    refine Tri.condK h (fun h => ?_) (fun h => ?_)
    ·refine Tri.sg [4] [] (z00 1) ?_
     refine Tri.ret ?_
     cases h
     exact RetAt.k
    ·refine Tri.kp [13,0,1,12] [] ?_
     refine Tri.skip ?_
     cases h
     exact kr
   ·intro a3 h
    refine Tri.sg [4] [] (z00 1) ?_
    refine Tri.ret ?_
    cases h
    exact RetAt.k
   · exact fun x s hx hr=>by cases hx; exact hr
theorem zdk {p0:List Update} {p1:List Update} {q:Bool} (h:z5j p0 p1=some q) :
    Summ Tryz.prog 29 [cD (lD 6 z01 p0),cD (lD 6 z01 p1)] [] (cD (.bool q)) []:=by
  refine Summ.intro Tryz.func29 rfl (by kernel_rfl) (by kernel_rfl) [] rfl ?_
  rintro ⟨P,w0,G0,V,LL,lk,N, φ0,fx⟩ rfl rfl rfl rfl
  unfold z5j at h
  refine Tri.sg [0,1] [] (z00 1) ?_
  refine Tri.seqS ?_
  refine Tri.sg [0,1,10] [] (z00 5) ?_
  refine Tri.condK h (fun h => ?_) (fun h => ?_)
  ·refine Tri.sg [4] [] (z00 1) ?_
   refine Tri.ret ?_
   cases h
   exact RetAt.k
  ·refine Tri.skip ?_
   refine Tri.seqS ?_
   refine Tri.sg [0,1,12,13] [] (z00 3) ?_
   refine Tri.ln 0 p0.length fun hlena2 => ?_
   refine Tri.rK 13 () (fun (x:Bool) s=>RetAt Tryz.prog Tryz.f29 (cD (.bool x)) [] s) (fun (a2:Unit)=>⟨[(0,cD (lD 6 z01 p0)),(1,cD (lD 6 z01 p1)),(12,cD (dI (p0.length:Int)))],[]⟩) [13,0,1,12] [] [14,13,0,1,12] [] [0,1,12] [] [13,0,1,12] [] h hlena2 ?_ ?_ ?_
   ·intro i1 a2 c hii1 h
    refine Tri.segL [0,1,5,12,13] [] ⟨[(0,cD (lD 6 z01 p0)),(1,cD (lD 6 z01 p1)),(5,cD (dI ((i1:Nat):Int))),(12,cD (dI (p0.length:Int))),(13,cD (dI ((i1:Nat):Int)))],[]⟩ _ (by kernel_rfl) (z00 2) ?_
    refine Tri.seqJ (fun (a4:Bool)=>⟨[(0,cD (lD 6 z01 p0)),(1,cD (lD 6 z01 p1)),(12,cD (dI (p0.length:Int))),(13,cD (dI ((i1:Nat):Int))),(67,cD (.bool a4))],[]⟩) h (fun a4 h => ?_) (fun j5 h => ?_)
    ·refine Tri.condK h (fun h => ?_) (fun h => ?_)
     ·refine Tri.sg [4] [] (z00 1) ?_
      refine Tri.ret ?_
      cases h
      exact RetAt.k
     ·refine Tri.kp [13,0,1,12] [] ?_
      refine Tri.skip ?_
      cases h
      exact kr
    ·obtain ⟨hc6,h⟩:=z03 h
     obtain ⟨r7,hr7,h⟩:=z04 h
     rcases z1f h with ⟨hp8,h⟩ | ⟨hp8,h⟩
     ·refine Tri.dC [.a [0] [],.a [5] [],.a [16,17] [],.a [18] [],.a [19] [],.a [1] [],.a [5] [],.a [21,22] [],.a [23] [],.a [24] [],.m ⟨[(20,cD (lD 3 z05 ((p0.getD i1 default).key))),(25,cD (lD 3 z05 ((p1.getD i1 default).key)))],[]⟩ ⟨[(26,cD (.bool r7))],[]⟩ [] [] [],.a [26] [],.m ⟨[(27,cD (.bool (!r7)))],[]⟩ ⟨[(28,.c (.d (.bool true)))],[]⟩ [] [] [],.a [0,28] [],.a [5,28] [],.a [28,29,30] [],.a [28,31] [],.a [28,32] [],.a [1,28] [],.a [5,28] [],.a [28,34,35] [],.a [28,36] [],.a [28,37] [],.a [28,33,38] [],.a [28,39] [],.a [28,40] [],.a [41] [],.a [0,42] [],.a [5,42] [],.a [42,43,44] [],.a [42,45] [],.a [42,46] [],.a [1,42] [],.a [5,42] [],.a [42,48,49] [],.a [42,50] [],.a [42,51] [],.a [42,47,52] [],.a [42,53] [],.a [54] [],.a [0,55] [],.a [5,55] [],.a [55,56,57] [],.a [55,58] [],.a [55,59] [],.a [1,55] [],.a [5,55] [],.a [55,61,62] [],.a [55,63] [],.a [55,64] [],.a [55,60,65] [],.a [55,66] []] [0,1,12,13,67] [] (tN 2 (ai (show ((0:Int)≤((i1:Nat):Int)∧((i1:Nat):Int) < (p0.length:Int)) from ⟨by omega,by omega⟩) (tN 4 (ai hc6 (z00 8))))) (.a (.a (.a (.a (.a (.a (.a (.a (.a (.a (.m ?_ (.a (.m ?_ (.a (.a (.a (.a (.a (.a (.a (.a (.a (.a (.a (.a (.a (.a (.a (.a (.a (.a (.a (.a (.a (.a (.a (.a (.a (.a (.a (.a (.a (.a (.a (.a (.a (.a (.a (.a (.a (.a (.a .z)))))))))))))))))))))))))))))))))))))))))))))))))))) ?_
      · exact DOk.cA [] [cD (lD 3 z05 ((p0.getD i1 default).key)),cD (lD 3 z05 ((p1.getD i1 default).key))] (z2s hr7) fun r=>(.cons (.refl _) (.cons (.refl _) .nil))
      · exact DOk.stepP (fun b => .val (.c (.d (.bool b))) (True)) (p:=(!r7)) hp8 (fun r=>by kernel_rfl) (fun r=>by kernel_rfl) trivial (by kernel_rfl) (by kernel_rfl) (fun r=>rfl)
      exact ⟨_,h,kr⟩
     ·obtain ⟨hc9,h⟩:=z03 h
      obtain ⟨r10,hr10,h⟩:=z04 h
      rcases z1f h with ⟨hp11,h⟩ | ⟨hp11,h⟩
      ·refine Tri.dC [.a [0] [],.a [5] [],.a [16,17] [],.a [18] [],.a [19] [],.a [1] [],.a [5] [],.a [21,22] [],.a [23] [],.a [24] [],.m ⟨[(20,cD (lD 3 z05 ((p0.getD i1 default).key))),(25,cD (lD 3 z05 ((p1.getD i1 default).key)))],[]⟩ ⟨[(26,cD (.bool r7))],[]⟩ [] [] [],.a [26] [],.m ⟨[(27,cD (.bool (!r7)))],[]⟩ ⟨[(28,.c (.d (.bool false)))],[]⟩ [] [] [],.a [0,28] [],.a [5,28] [],.a [28,29,30] [],.a [28,31] [],.a [28,32] [],.a [1,28] [],.a [5,28] [],.a [28,34,35] [],.a [28,36] [],.a [28,37] [],.m ⟨[(28,cD (.bool false)),(33,cD (lD 3 z05 ((p0.getD i1 default).row))),(38,cD (lD 3 z05 ((p1.getD i1 default).row)))],[]⟩ ⟨[(39,cD (.bool r10))],[]⟩ [] [] [],.a [28,39] [],.a [28,40] [],.m ⟨[(41,cD (.bool (!r10)))],[]⟩ ⟨[(42,.c (.d (.bool true)))],[]⟩ [] [] [],.a [0,42] [],.a [5,42] [],.a [42,43,44] [],.a [42,45] [],.a [42,46] [],.a [1,42] [],.a [5,42] [],.a [42,48,49] [],.a [42,50] [],.a [42,51] [],.a [42,47,52] [],.a [42,53] [],.a [54] [],.a [0,55] [],.a [5,55] [],.a [55,56,57] [],.a [55,58] [],.a [55,59] [],.a [1,55] [],.a [5,55] [],.a [55,61,62] [],.a [55,63] [],.a [55,64] [],.a [55,60,65] [],.a [55,66] []] [0,1,12,13,67] [] (tN 2 (ai (show ((0:Int)≤((i1:Nat):Int)∧((i1:Nat):Int) < (p0.length:Int)) from ⟨by omega,by omega⟩) (tN 4 (ai hc6 (tN 5 (ai (show ((0:Int)≤((i1:Nat):Int)∧((i1:Nat):Int) < (p0.length:Int)) from ⟨by omega,by omega⟩) (tN 4 (ai hc9 (z00 7))))))))) (.a (.a (.a (.a (.a (.a (.a (.a (.a (.a (.m ?_ (.a (.m ?_ (.a (.a (.a (.a (.a (.a (.a (.a (.a (.a (.m ?_ (.a (.a (.m ?_ (.a (.a (.a (.a (.a (.a (.a (.a (.a (.a (.a (.a (.a (.a (.a (.a (.a (.a (.a (.a (.a (.a (.a (.a (.a .z)))))))))))))))))))))))))))))))))))))))))))))))))))) ?_
       · exact DOk.cA [] [cD (lD 3 z05 ((p0.getD i1 default).key)),cD (lD 3 z05 ((p1.getD i1 default).key))] (z2s hr7) fun r=>(.cons (.refl _) (.cons (.refl _) .nil))
       · exact DOk.stepP (fun b => .val (.c (.d (.bool b))) (True)) (p:=(!r7)) hp8 (fun r=>by kernel_rfl) (fun r=>by kernel_rfl) trivial (by kernel_rfl) (by kernel_rfl) (fun r=>rfl)
       · exact DOk.cA [] [cD (lD 3 z05 ((p0.getD i1 default).row)),cD (lD 3 z05 ((p1.getD i1 default).row))] (z2s hr10) fun r=>(.cons (.refl _) (.cons (.refl _) .nil))
       · exact DOk.stepP (fun b => .val (.c (.d (.bool b))) (True)) (p:=(!r10)) hp11 (fun r=>by kernel_rfl) (fun r=>by kernel_rfl) trivial (by kernel_rfl) (by kernel_rfl) (fun r=>rfl)
       exact ⟨_,h,kr⟩
      ·obtain ⟨hc12,h⟩:=z03 h
       rcases z1f h with ⟨hp13,h⟩ | ⟨hp13,h⟩
       ·refine Tri.dC [.a [0] [],.a [5] [],.a [16,17] [],.a [18] [],.a [19] [],.a [1] [],.a [5] [],.a [21,22] [],.a [23] [],.a [24] [],.m ⟨[(20,cD (lD 3 z05 ((p0.getD i1 default).key))),(25,cD (lD 3 z05 ((p1.getD i1 default).key)))],[]⟩ ⟨[(26,cD (.bool r7))],[]⟩ [] [] [],.a [26] [],.m ⟨[(27,cD (.bool (!r7)))],[]⟩ ⟨[(28,.c (.d (.bool false)))],[]⟩ [] [] [],.a [0,28] [],.a [5,28] [],.a [28,29,30] [],.a [28,31] [],.a [28,32] [],.a [1,28] [],.a [5,28] [],.a [28,34,35] [],.a [28,36] [],.a [28,37] [],.m ⟨[(28,cD (.bool false)),(33,cD (lD 3 z05 ((p0.getD i1 default).row))),(38,cD (lD 3 z05 ((p1.getD i1 default).row)))],[]⟩ ⟨[(39,cD (.bool r10))],[]⟩ [] [] [],.a [28,39] [],.a [28,40] [],.m ⟨[(41,cD (.bool (!r10)))],[]⟩ ⟨[(42,.c (.d (.bool false)))],[]⟩ [] [] [],.a [0,42] [],.a [5,42] [],.a [42,43,44] [],.a [42,45] [],.a [42,46] [],.a [1,42] [],.a [5,42] [],.a [42,48,49] [],.a [42,50] [],.a [42,51] [],.m ⟨[(42,cD (.bool false)),(47,.agg [.d (dU ((p0.getD i1 default).time.epoch)),.d (dU ((p0.getD i1 default).time.loop.1)),.d (dU ((p0.getD i1 default).time.loop.2))]),(52,.agg [.d (dU ((p1.getD i1 default).time.epoch)),.d (dU ((p1.getD i1 default).time.loop.1)),.d (dU ((p1.getD i1 default).time.loop.2))])],[]⟩ ⟨[(53,cD (.bool (!(z0j ((p0.getD i1 default).time) ((p1.getD i1 default).time)))))],[]⟩ [] [] [],.a [42,53] [],.m ⟨[(54,cD (.bool (!(z0j ((p0.getD i1 default).time) ((p1.getD i1 default).time)))))],[]⟩ ⟨[(55,.c (.d (.bool true)))],[]⟩ [] [] [],.a [0,55] [],.a [5,55] [],.a [55,56,57] [],.a [55,58] [],.a [55,59] [],.a [1,55] [],.a [5,55] [],.a [55,61,62] [],.a [55,63] [],.a [55,64] [],.a [55,60,65] [],.a [55,66] []] [0,1,12,13,67] [] (tN 2 (ai (show ((0:Int)≤((i1:Nat):Int)∧((i1:Nat):Int) < (p0.length:Int)) from ⟨by omega,by omega⟩) (tN 4 (ai hc6 (tN 5 (ai (show ((0:Int)≤((i1:Nat):Int)∧((i1:Nat):Int) < (p0.length:Int)) from ⟨by omega,by omega⟩) (tN 4 (ai hc9 (tN 6 (ai (show ((0:Int)≤((i1:Nat):Int)∧((i1:Nat):Int) < (p0.length:Int)) from ⟨by omega,by omega⟩) (tN 4 (ai hc12 (z00 4))))))))))))) (.a (.a (.a (.a (.a (.a (.a (.a (.a (.a (.m ?_ (.a (.m ?_ (.a (.a (.a (.a (.a (.a (.a (.a (.a (.a (.m ?_ (.a (.a (.m ?_ (.a (.a (.a (.a (.a (.a (.a (.a (.a (.a (.m ?_ (.a (.m ?_ (.a (.a (.a (.a (.a (.a (.a (.a (.a (.a (.a (.a .z)))))))))))))))))))))))))))))))))))))))))))))))))))) ?_
        · exact DOk.cA [] [cD (lD 3 z05 ((p0.getD i1 default).key)),cD (lD 3 z05 ((p1.getD i1 default).key))] (z2s hr7) fun r=>(.cons (.refl _) (.cons (.refl _) .nil))
        · exact DOk.stepP (fun b => .val (.c (.d (.bool b))) (True)) (p:=(!r7)) hp8 (fun r=>by kernel_rfl) (fun r=>by kernel_rfl) trivial (by kernel_rfl) (by kernel_rfl) (fun r=>rfl)
        · exact DOk.cA [] [cD (lD 3 z05 ((p0.getD i1 default).row)),cD (lD 3 z05 ((p1.getD i1 default).row))] (z2s hr10) fun r=>(.cons (.refl _) (.cons (.refl _) .nil))
        · exact DOk.stepP (fun b => .val (.c (.d (.bool b))) (True)) (p:=(!r10)) hp11 (fun r=>by kernel_rfl) (fun r=>by kernel_rfl) trivial (by kernel_rfl) (by kernel_rfl) (fun r=>rfl)
        · exact DOk.one fun r _=>One.eql (b:=(z0j ((p0.getD i1 default).time) ((p1.getD i1 default).time))) (d:=9) rfl (by kernel_rfl) rfl (.inr rfl) rfl rfl (by kernel_rfl) rfl (by kernel_rfl)
        · exact DOk.stepP (fun b => .val (.c (.d (.bool b))) (True)) (p:=(!(z0j ((p0.getD i1 default).time) ((p1.getD i1 default).time)))) hp13 (fun r=>by kernel_rfl) (fun r=>by kernel_rfl) trivial (by kernel_rfl) (by kernel_rfl) (fun r=>rfl)
        exact ⟨_,h,kr⟩
       ·obtain ⟨hc14,h⟩:=z03 h
        refine Tri.dC [.a [0] [],.a [5] [],.a [16,17] [],.a [18] [],.a [19] [],.a [1] [],.a [5] [],.a [21,22] [],.a [23] [],.a [24] [],.m ⟨[(20,cD (lD 3 z05 ((p0.getD i1 default).key))),(25,cD (lD 3 z05 ((p1.getD i1 default).key)))],[]⟩ ⟨[(26,cD (.bool r7))],[]⟩ [] [] [],.a [26] [],.m ⟨[(27,cD (.bool (!r7)))],[]⟩ ⟨[(28,.c (.d (.bool false)))],[]⟩ [] [] [],.a [0,28] [],.a [5,28] [],.a [28,29,30] [],.a [28,31] [],.a [28,32] [],.a [1,28] [],.a [5,28] [],.a [28,34,35] [],.a [28,36] [],.a [28,37] [],.m ⟨[(28,cD (.bool false)),(33,cD (lD 3 z05 ((p0.getD i1 default).row))),(38,cD (lD 3 z05 ((p1.getD i1 default).row)))],[]⟩ ⟨[(39,cD (.bool r10))],[]⟩ [] [] [],.a [28,39] [],.a [28,40] [],.m ⟨[(41,cD (.bool (!r10)))],[]⟩ ⟨[(42,.c (.d (.bool false)))],[]⟩ [] [] [],.a [0,42] [],.a [5,42] [],.a [42,43,44] [],.a [42,45] [],.a [42,46] [],.a [1,42] [],.a [5,42] [],.a [42,48,49] [],.a [42,50] [],.a [42,51] [],.m ⟨[(42,cD (.bool false)),(47,.agg [.d (dU ((p0.getD i1 default).time.epoch)),.d (dU ((p0.getD i1 default).time.loop.1)),.d (dU ((p0.getD i1 default).time.loop.2))]),(52,.agg [.d (dU ((p1.getD i1 default).time.epoch)),.d (dU ((p1.getD i1 default).time.loop.1)),.d (dU ((p1.getD i1 default).time.loop.2))])],[]⟩ ⟨[(53,cD (.bool (!(z0j ((p0.getD i1 default).time) ((p1.getD i1 default).time)))))],[]⟩ [] [] [],.a [42,53] [],.m ⟨[(54,cD (.bool (!(z0j ((p0.getD i1 default).time) ((p1.getD i1 default).time)))))],[]⟩ ⟨[(55,.c (.d (.bool false)))],[]⟩ [] [] [],.a [0,55] [],.a [5,55] [],.a [55,56,57] [],.a [55,58] [],.a [55,59] [],.a [1,55] [],.a [5,55] [],.a [55,61,62] [],.a [55,63] [],.a [55,64] [],.a [55,60,65] [],.a [55,66] []] [0,1,12,13,67] [] (tN 2 (ai (show ((0:Int)≤((i1:Nat):Int)∧((i1:Nat):Int) < (p0.length:Int)) from ⟨by omega,by omega⟩) (tN 4 (ai hc6 (tN 5 (ai (show ((0:Int)≤((i1:Nat):Int)∧((i1:Nat):Int) < (p0.length:Int)) from ⟨by omega,by omega⟩) (tN 4 (ai hc9 (tN 6 (ai (show ((0:Int)≤((i1:Nat):Int)∧((i1:Nat):Int) < (p0.length:Int)) from ⟨by omega,by omega⟩) (tN 4 (ai hc12 (tN 5 (ai (show ((0:Int)≤((i1:Nat):Int)∧((i1:Nat):Int) < (p0.length:Int)) from ⟨by omega,by omega⟩) (tN 4 (ai hc14 (z00 4))))))))))))))))) (.a (.a (.a (.a (.a (.a (.a (.a (.a (.a (.m ?_ (.a (.m ?_ (.a (.a (.a (.a (.a (.a (.a (.a (.a (.a (.m ?_ (.a (.a (.m ?_ (.a (.a (.a (.a (.a (.a (.a (.a (.a (.a (.m ?_ (.a (.m ?_ (.a (.a (.a (.a (.a (.a (.a (.a (.a (.a (.a (.a .z)))))))))))))))))))))))))))))))))))))))))))))))))))) ?_
        · exact DOk.cA [] [cD (lD 3 z05 ((p0.getD i1 default).key)),cD (lD 3 z05 ((p1.getD i1 default).key))] (z2s hr7) fun r=>(.cons (.refl _) (.cons (.refl _) .nil))
        · exact DOk.stepP (fun b => .val (.c (.d (.bool b))) (True)) (p:=(!r7)) hp8 (fun r=>by kernel_rfl) (fun r=>by kernel_rfl) trivial (by kernel_rfl) (by kernel_rfl) (fun r=>rfl)
        · exact DOk.cA [] [cD (lD 3 z05 ((p0.getD i1 default).row)),cD (lD 3 z05 ((p1.getD i1 default).row))] (z2s hr10) fun r=>(.cons (.refl _) (.cons (.refl _) .nil))
        · exact DOk.stepP (fun b => .val (.c (.d (.bool b))) (True)) (p:=(!r10)) hp11 (fun r=>by kernel_rfl) (fun r=>by kernel_rfl) trivial (by kernel_rfl) (by kernel_rfl) (fun r=>rfl)
        · exact DOk.one fun r _=>One.eql (b:=(z0j ((p0.getD i1 default).time) ((p1.getD i1 default).time))) (d:=9) rfl (by kernel_rfl) rfl (.inr rfl) rfl rfl (by kernel_rfl) rfl (by kernel_rfl)
        · exact DOk.stepP (fun b => .val (.c (.d (.bool b))) (True)) (p:=(!(z0j ((p0.getD i1 default).time) ((p1.getD i1 default).time)))) hp13 (fun r=>by kernel_rfl) (fun r=>by kernel_rfl) trivial (by kernel_rfl) (by kernel_rfl) (fun r=>rfl)
        exact ⟨_,h,kr⟩
   ·intro a3 h
    refine Tri.sg [4] [] (z00 1) ?_
    refine Tri.ret ?_
    cases h
    exact RetAt.k
   · exact fun x s hx hr=>by cases hx; exact hr
theorem z4b {p0:Batch} {p1:Batch} {q:Bool} (h:z3w p0 p1=some q) :
    Summ Tryz.prog 14 [.agg (cBatch p0),.agg (cBatch p1)] [] (cD (.bool q)) []:=by
  refine Summ.intro Tryz.func14 rfl (by kernel_rfl) (by kernel_rfl) [] rfl ?_
  rintro ⟨P,w0,G0,V,LL,lk,N, φ0,fx⟩ rfl rfl rfl rfl
  unfold z3w at h
  refine Tri.sg [2,3] [2,3] (z00 3) ?_
  refine Tri.seqJ (fun (a1:Bool)=>⟨[(4,cD (.bool a1))],[]⟩) h (fun a1 h => ?_) (fun j2 h => ?_)
  ·refine Tri.ret ?_
   cases h
   exact RetAt.k
  ·refine Tri.reg ?_
   refine At.sg 4 [2,3,6,8] [2,3] (z00 4) ?_
   obtain ⟨r3,hr3,h⟩:=z04 h
   refine At.cA [] [cD (lD 3 z02 p0.since),cD (lD 3 z02 p1.since)] (z9e hr3) (.cons (.refl _) (.cons (.refl _) .nil)) ?_
   refine At.sg 1 [2,3,10] [2,3] (z00 1) ?_
   refine At.cs [10] h (fun h => ?_) (fun h => ?_)
   ·refine At.sg 4 [10,12,14] [] (z00 4) ?_
    obtain ⟨r4,hr4,h⟩:=z04 h
    refine At.cA [] [cD (lD 6 z01 p0.updates),cD (lD 6 z01 p1.updates)] (zdk hr4) (.cons (.refl _) (.cons (.refl _) .nil)) ?_
    refine At.sg 2 [4] [] (z00 2) ?_
    refine At.done rfl ?_
    exact ⟨_,h,kr⟩
   ·refine At.sg 7 [4] [] (z00 2) ?_
    refine At.done rfl ?_
    exact ⟨_,h,kr⟩
theorem zdh {fuel:Nat} {p0:List Update} {q:Bool} (h:z3q fuel p0=some q) :
    Summ Tryz.prog 48 [cD (lD 6 z01 p0)] [] (cD (.bool q)) []:=by
  refine Summ.intro Tryz.func48 rfl (by kernel_rfl) (by kernel_rfl) [] rfl ?_
  rintro ⟨P,w0,G0,V,LL,lk,N, φ0,fx⟩ rfl rfl rfl rfl
  unfold z3q at h
  refine Tri.sg [0] [] (z00 1) ?_
  refine Tri.seqS ?_
  refine Tri.sg [0,5,6,7] [] (z00 3) ?_
  refine Tri.ln 5 p0.length fun hlena2 => ?_
  refine Tri.rK 7 () (fun (x:Bool) s=>RetAt Tryz.prog Tryz.f48 (cD (.bool x)) [] s) (fun (a2:Unit)=>⟨[(0,cD (lD 6 z01 p0)),(5,cD (lD 6 z01 p0)),(6,cD (dI (p0.length:Int)))],[]⟩) [7,0,5,6] [] [8,7,0,5,6] [] [0,5,6] [] [7,0,5,6] [] h hlena2 ?_ ?_ ?_
  ·intro i1 a2 c hii1 h
   refine Tri.segL [0,3,4,5,6,7] [4] ⟨[(0,cD (lD 6 z01 p0)),(3,cD (dI ((i1:Nat):Int))),(4,.c (.ptr 4 0)),(5,cD (lD 6 z01 p0)),(6,cD (dI (p0.length:Int))),(7,cD (dI ((i1:Nat):Int)))],[(4,.box (cUpdate (p0.getD i1 default)))]⟩ _ (by kernel_rfl) (tN 1 (ai (show ((0:Int)≤((i1:Nat):Int)∧((i1:Nat):Int) < (p0.length:Int)) from ⟨by omega,by omega⟩) (z00 4))) ?_
   refine Tri.seqJ (fun (a5:Bool)=>⟨[(0,cD (lD 6 z01 p0)),(5,cD (lD 6 z01 p0)),(6,cD (dI (p0.length:Int))),(7,cD (dI ((i1:Nat):Int))),(28,cD (.bool a5))],[]⟩) h (fun a5 h => ?_) (fun j6 h => ?_)
   ·refine Tri.condK h (fun h => ?_) (fun h => ?_)
    ·refine Tri.sg [2] [] (z00 1) ?_
     refine Tri.ret ?_
     cases h
     exact RetAt.k
    ·refine Tri.kp [7,0,5,6] [] ?_
     refine Tri.skip ?_
     cases h
     exact kr
   ·rcases z1f h with ⟨hp7,h⟩ | ⟨hp7,h⟩
    ·refine Tri.dC [.a [4] [],.a [12] [4],.a [13] [],.m ⟨[(14,cD (.bool (decide ((p0.getD i1 default).diff=0))))],[]⟩ ⟨[(15,.c (.d (.bool true)))],[]⟩ [] [] [],.a [3,15] [],.a [15,16] [],.a [15,17] [],.a [0,18] [],.a [3,18] [],.a [18,20] [],.a [18,19,21] [],.a [18,22] [],.a [4,18] [4],.a [18,23,24] [],.a [18,25] [],.a [15,18,26] [],.a [15,27] []] [0,5,6,7,28] [] (z00 4) (.a (.a (.a (.m ?_ (.a (.a (.a (.a (.a (.a (.a (.a (.a (.a (.a (.a (.a .z))))))))))))))))) ?_
     · exact DOk.stepP (fun b => .val (.c (.d (.bool b))) (True)) (p:=(decide ((p0.getD i1 default).diff=0))) hp7 (fun r=>by kernel_rfl) (fun r=>by kernel_rfl) trivial (by kernel_rfl) (by kernel_rfl) (fun r=>rfl)
     exact ⟨_,h,kr⟩
    ·rcases z1f h with ⟨hp8,h⟩ | ⟨hp8,h⟩
     ·obtain ⟨hc9,h⟩:=z03 h
      obtain ⟨r10,hr10,h⟩:=z04 h
      refine Tri.dC [.a [4] [],.a [12] [4],.a [13] [],.m ⟨[(14,cD (.bool (decide ((p0.getD i1 default).diff=0))))],[]⟩ ⟨[(15,.c (.d (.bool false)))],[]⟩ [] [] [],.a [3,15] [],.a [15,16] [],.m ⟨[(15,cD (.bool false)),(17,cD (.bool (decide (0 < ((i1:Nat):Int)))))],[]⟩ ⟨[(18,.c (.d (.bool true)))],[]⟩ [] [] [],.a [0,18] [],.a [3,18] [],.a [18,20] [],.a [18,19,21] [],.a [18,22] [],.a [4,18] [4],.m ⟨[(18,cD (.bool true)),(23,.agg (cUpdate (p0.getD ((IntKind.i64.wrap (((i1:Nat):Int) - 1)).toNat) default))),(24,.agg (cUpdate (p0.getD i1 default)))],[]⟩ ⟨[(25,cD (dI r10))],[]⟩ [] [] [],.a [18,25] [],.a [15,18,26] [],.a [15,27] []] [0,5,6,7,28] [] (tN 8 (ai hc9 (z00 5))) (.a (.a (.a (.m ?_ (.a (.a (.m ?_ (.a (.a (.a (.a (.a (.a (.m ?_ (.a (.a (.a .z))))))))))))))))) ?_
      · exact DOk.stepP (fun b => .val (.c (.d (.bool b))) (True)) (p:=(decide ((p0.getD i1 default).diff=0))) hp7 (fun r=>by kernel_rfl) (fun r=>by kernel_rfl) trivial (by kernel_rfl) (by kernel_rfl) (fun r=>rfl)
      · exact DOk.stepP (fun b => .val (.c (.d (.bool b))) (True)) (p:=(decide (0 < ((i1:Nat):Int)))) hp8 (fun r=>by kernel_rfl) (fun r=>by kernel_rfl) trivial (by kernel_rfl) (by kernel_rfl) (fun r=>rfl)
      · exact DOk.cA [] [.agg (cUpdate (p0.getD ((IntKind.i64.wrap (((i1:Nat):Int) - 1)).toNat) default)),.agg (cUpdate (p0.getD i1 default))] (z67 hr10) fun r=>(.cons (.refl _) (.cons (.refl _) .nil))
      exact ⟨_,h,kr⟩
     ·refine Tri.dC [.a [4] [],.a [12] [4],.a [13] [],.m ⟨[(14,cD (.bool (decide ((p0.getD i1 default).diff=0))))],[]⟩ ⟨[(15,.c (.d (.bool false)))],[]⟩ [] [] [],.a [3,15] [],.a [15,16] [],.m ⟨[(15,cD (.bool false)),(17,cD (.bool (decide (0 < ((i1:Nat):Int)))))],[]⟩ ⟨[(18,.c (.d (.bool false)))],[]⟩ [] [] [],.a [0,18] [],.a [3,18] [],.a [18,20] [],.a [18,19,21] [],.a [18,22] [],.a [4,18] [4],.a [18,23,24] [],.a [18,25] [],.a [15,18,26] [],.a [15,27] []] [0,5,6,7,28] [] (z00 7) (.a (.a (.a (.m ?_ (.a (.a (.m ?_ (.a (.a (.a (.a (.a (.a (.a (.a (.a (.a .z))))))))))))))))) ?_
      · exact DOk.stepP (fun b => .val (.c (.d (.bool b))) (True)) (p:=(decide ((p0.getD i1 default).diff=0))) hp7 (fun r=>by kernel_rfl) (fun r=>by kernel_rfl) trivial (by kernel_rfl) (by kernel_rfl) (fun r=>rfl)
      · exact DOk.stepP (fun b => .val (.c (.d (.bool b))) (True)) (p:=(decide (0 < ((i1:Nat):Int)))) hp8 (fun r=>by kernel_rfl) (fun r=>by kernel_rfl) trivial (by kernel_rfl) (by kernel_rfl) (fun r=>rfl)
      exact ⟨_,h,kr⟩
  ·intro a3 h
   refine Tri.seqS ?_
   refine Tri.reg ?_
   refine At.sg 1 [30] [] (z00 1) ?_
   obtain ⟨r4,hr4,h⟩:=z04 h
   refine At.cA [] [cD (lD 6 z01 p0)] (z73 hr4) (.cons (.refl _) .nil) ?_
   refine At.sg 2 [2] [] (z00 2) ?_
   refine At.done rfl ?_
   refine Tri.ret ?_
   cases h
   exact RetAt.k
  · exact fun x s hx hr=>by cases hx; exact hr
theorem zbg {p0:List Update} {p1:List Time} {q:Bool} (h:z48 p0 p1=some q) :
    Summ Tryz.prog 49 [cD (lD 6 z01 p0),cD (lD 3 z02 p1)] [] (cD (.bool q)) []:=by
  refine Summ.intro Tryz.func49 rfl (by kernel_rfl) (by kernel_rfl) [] rfl ?_
  rintro ⟨P,w0,G0,V,LL,lk,N, φ0,fx⟩ rfl rfl rfl rfl
  unfold z48 at h
  refine Tri.sg [0,1] [] (z00 1) ?_
  refine Tri.seqS ?_
  refine Tri.sg [1,7,8,9] [] (z00 3) ?_
  refine Tri.ln 7 p0.length fun hlena2 => ?_
  refine Tri.rK 9 () (fun (x:Bool) s=>RetAt Tryz.prog Tryz.f49 (cD (.bool x)) [] s) (fun (a2:Unit)=>⟨[(1,cD (lD 3 z02 p1)),(7,cD (lD 6 z01 p0)),(8,cD (dI (p0.length:Int)))],[]⟩) [9,1,7,8] [] [10,9,1,7,8] [] [1,7,8] [] [9,1,7,8] [] h hlena2 ?_ ?_ ?_
  ·intro i1 a2 c hii1 h
   refine Tri.sg [1,6,7,8,9] [6] (ai (show ((0:Int)≤((i1:Nat):Int)∧((i1:Nat):Int) < (p0.length:Int)) from ⟨by omega,by omega⟩) (z00 3)) ?_
   refine Tri.seqS ?_
   obtain ⟨r4,hr4,h⟩:=z04 h
   refine Tri.dC [.a [6] [],.a [13] [6],.a [1] [],.m ⟨[(14,.agg [.d (dU ((p0.getD i1 default).time.epoch)),.d (dU ((p0.getD i1 default).time.loop.1)),.d (dU ((p0.getD i1 default).time.loop.2))]),(15,cD (lD 3 z02 p1))],[]⟩ ⟨[(16,.agg (cTime r4))],[]⟩ [] [] [],.a [6] [],.a [17] [6],.m ⟨[(16,.agg (cTime r4)),(18,.agg [.d (dU ((p0.getD i1 default).time.epoch)),.d (dU ((p0.getD i1 default).time.loop.1)),.d (dU ((p0.getD i1 default).time.loop.2))])],[]⟩ ⟨[(19,cD (.bool (!(z0j r4 ((p0.getD i1 default).time)))))],[]⟩ [] [] []] [1,7,8,9,19] [] (z00 5) (.a (.a (.a (.m ?_ (.a (.a (.m ?_ .z))))))) ?_
   · exact DOk.cA [] [.agg [.d (dU ((p0.getD i1 default).time.epoch)),.d (dU ((p0.getD i1 default).time.loop.1)),.d (dU ((p0.getD i1 default).time.loop.2))],cD (lD 3 z02 p1)] (z87 hr4) fun r=>(.cons (.refl _) (.cons (.refl _) .nil))
   · exact DOk.one fun r _=>One.eql (b:=(z0j r4 ((p0.getD i1 default).time))) (d:=9) rfl (by kernel_rfl) rfl (.inr rfl) rfl rfl (by kernel_rfl) rfl (by kernel_rfl)
   refine Tri.condK h (fun h => ?_) (fun h => ?_)
   ·refine Tri.sg [4] [] (z00 1) ?_
    refine Tri.ret ?_
    cases h
    exact RetAt.k
   ·refine Tri.kp [9,1,7,8] [] ?_
    refine Tri.skip ?_
    cases h
    exact kr
  ·intro a3 h
   refine Tri.sg [4] [] (z00 1) ?_
   refine Tri.ret ?_
   cases h
   exact RetAt.k
  · exact fun x s hx hr=>by cases hx; exact hr
theorem z8u {fuel:Nat} {p0:Batch} {q:Int} (h:z42 fuel p0=some q) :
    Summ Tryz.prog 16 [.agg (cBatch p0)] [] (cD (dI q)) []:=by
  refine Summ.intro Tryz.func16 rfl (by kernel_rfl) (by kernel_rfl) [] rfl ?_
  rintro ⟨P,w0,G0,V,LL,lk,N, φ0,fx⟩ rfl rfl rfl rfl
  unfold z42 at h
  refine Tri.sg [1] [1] (z00 2) ?_
  refine Tri.seqS ?_
  refine Tri.seqJ (fun (a1:Bool)=>⟨[(20,cD (.bool a1))],[]⟩) h (fun a1 h => ?_) (fun j2 h => ?_)
  ·refine Tri.condK h (fun h => ?_) (fun h => ?_)
   ·refine Tri.sg [2] [] (z00 1) ?_
    refine Tri.ret ?_
    cases h
    exact RetAt.k
   ·refine Tri.skip ?_
    refine Tri.sg [2] [] (z00 1) ?_
    refine Tri.ret ?_
    cases h
    exact RetAt.k
  ·refine Tri.reg ?_
   refine At.sg 2 [1,4] [1] (z00 2) ?_
   obtain ⟨r3,hr3,h⟩:=z04 h
   refine At.cA [] [cD (lD 3 z02 p0.since)] (z8x hr3) (.cons (.refl _) .nil) ?_
   refine At.sg 2 [1,7] [1] (z00 2) ?_
   refine At.cs [7] h (fun h => ?_) (fun h => ?_)
   ·refine At.sg 13 [20] [] (z00 3) ?_
    refine At.done rfl ?_
    exact ⟨_,h,kr⟩
   ·refine At.sg 2 [1,7,9] [1] (z00 2) ?_
    obtain ⟨r4,hr4,h⟩:=z04 h
    refine At.cA [] [cD (lD 6 z01 p0.updates)] (zdh hr4) (.cons (.refl _) .nil) ?_
    refine At.sg 3 [1,13] [1] (z00 3) ?_
    refine At.cs [13] h (fun h => ?_) (fun h => ?_)
    ·refine At.sg 7 [20] [] (z00 1) ?_
     refine At.done rfl ?_
     exact ⟨_,h,kr⟩
    ·refine At.sg 4 [13,15,17] [] (z00 4) ?_
     obtain ⟨r5,hr5,h⟩:=z04 h
     refine At.cA [] [cD (lD 6 z01 p0.updates),cD (lD 3 z02 p0.since)] (zbg hr5) (.cons (.refl _) (.cons (.refl _) .nil)) ?_
     refine At.sg 2 [20] [] (z00 2) ?_
     refine At.done rfl ?_
     exact ⟨_,h,kr⟩
end Go.Av
namespace Go.Av
open Go Go.Proofs
set_option linter.unusedVariables false
set_option linter.unusedSimpArgs false
theorem zas {p0:List Update} {q:List Update} (h:z30 p0=some q) :
    Summ Tryz.prog 53 [.c (wC 6 z01 p0)] [] (.c (oC 6000 6 q)) [(6000,vL 6 z01 q)]:=by
  refine Summ.intro Tryz.func53 rfl (by kernel_rfl) (by kernel_rfl) [6000] rfl ?_
  rintro ⟨P,w0,G0,V,LL,lk,N, φ0,fx⟩ rfl rfl rfl rfl
  unfold z30 at h
  refine Tri.sg [0] [] (z00 1) ?_
  refine Tri.sg [0,3] [] (z00 1) ?_
  refine Tri.seqS ?_
  refine Tri.segL [3,6,7,8] [] ⟨[(3,.c (.zero)),(6,.c (wC 6 z01 p0)),(7,cD (dI (p0.length:Int))),(8,cD (dI 0))],[]⟩ _ (by kernel_rfl) (z00 3) ?_
  refine Tri.ln 6 p0.length fun hlena2 => ?_
  refine Tri.newOwn (t:=3) (k:=1003) (es:=6) (fun i=>z01 (([]:List Update).getD i default)) rfl rfl rfl ?_
  refine Tri.rK 8 ([]:List Update) (fun (x:Empty) s=>False) (fun (a2:List Update)=>⟨[(3,.c (oC 1003 6 a2)),(6,.c (wC 6 z01 p0)),(7,cD (dI (p0.length:Int)))],[(1003,vL 6 z01 a2)]⟩) [8,3,6,7] [1003] [9,8,3,6,7] [1003] [3,6,7] [1003] [8,3,6,7] [1003] h hlena2 ?_ ?_ ?_
  ·intro i1 a2 c hii1 h
   refine Tri.sg [3,5,6,7,8] [5,1003] (ai (show ((0:Int)≤((i1:Nat):Int)∧((i1:Nat):Int) < (p0.length:Int)) from ⟨by omega,by omega⟩) (z00 3)) ?_
   refine Tri.seqS ?_
   refine Tri.reg ?_
   refine At.sg 2 [3,5,6,7,8,13] [5,1003] (z00 2) ?_
   obtain ⟨r4,hr4,h⟩:=z04 h
   refine At.cA [] [cD (lD 3 z05 ((p0.getD i1 default).key))] (z5n hr4) (.cons (.refl _) .nil) ?_
   refine At.sg 2 [3,5,6,7,8] [5,1003] (z00 2) ?_
   refine At.done rfl ?_
   refine Tri.seqS ?_
   refine Tri.reg ?_
   refine At.sg 2 [3,5,6,7,8,17] [5,1003] (z00 2) ?_
   obtain ⟨r5,hr5,h⟩:=z04 h
   refine At.cA [] [cD (lD 3 z05 ((p0.getD i1 default).row))] (z5n hr5) (.cons (.refl _) .nil) ?_
   refine At.sg 2 [3,5,6,7,8] [5,1003] (z00 2) ?_
   refine At.done rfl ?_
   refine Tri.reg ?_
   refine At.seg 2 [6,7,8,20,21] [1003] (s':=⟨[(6,.c (wC 6 z01 p0)),(7,cD (dI (p0.length:Int))),(8,cD (dI ((i1:Nat):Int))),(20,.c (oC 1003 6 a2)),(21,.agg [.d (lD 3 z05 r4),.d (lD 3 z05 r5),.d (dU ((p0.getD i1 default).time.epoch)),.d (dU ((p0.getD i1 default).time.loop.1)),.d (dU ((p0.getD i1 default).time.loop.2)),.d (dI ((p0.getD i1 default).diff))])],[(1003,vL 6 z01 a2)]⟩) (by kernel_rfl) (z00 2) ?_
   refine At.one rfl (One.buildSlice (z:=[.zero,.zero,.d (dU 0),.d (dU 0),.d (dU 0),.d (dI 0)]) (cells:=[.d (lD 3 z05 r4),.d (lD 3 z05 r5),.d (dU ((p0.getD i1 default).time.epoch)),.d (dU ((p0.getD i1 default).time.loop.1)),.d (dU ((p0.getD i1 default).time.loop.2)),.d (dI ((p0.getD i1 default).diff))]) (xs:=List.map (z01) ([(⟨r4,r5,(p0.getD i1 default).time,(p0.getD i1 default).diff⟩:Update)]:List Update)) rfl rfl rfl rfl (by kernel_rfl) rfl rfl (by kernel_rfl) rfl rfl rfl (by kernel_rfl) rfl ⟨⟨rfl,.refl _⟩,trivial⟩) ?_
   refine At.le [22] (fun k hk h=>by first | (cases h; done) | (simp at hk h; omega)) ⟨[(22,cD (lD 6 z01 ([(⟨r4,r5,(p0.getD i1 default).time,(p0.getD i1 default).diff⟩:Update)]:List Update))),(6,.c (wC 6 z01 p0)),(7,cD (dI (p0.length:Int))),(8,cD (dI ((i1:Nat):Int))),(20,.c (oC 1003 6 a2)),(21,.agg [.d (lD 3 z05 r4),.d (lD 3 z05 r5),.d (dU ((p0.getD i1 default).time.epoch)),.d (dU ((p0.getD i1 default).time.loop.1)),.d (dU ((p0.getD i1 default).time.loop.2)),.d (dI ((p0.getD i1 default).diff))])],[(1003,vL 6 z01 a2)]⟩ ⟨⟨_,rfl,.c (.own rfl (List.mem_singleton.2 rfl) (Nat.le_of_ble_eq_true rfl) rfl (z1z (z01) ([(⟨r4,r5,(p0.getD i1 default).time,(p0.getD i1 default).diff⟩:Update)]:List Update)))⟩,⟨_,rfl,.refl _⟩,⟨_,rfl,.refl _⟩,⟨_,rfl,.refl _⟩,⟨_,rfl,.refl _⟩,⟨_,rfl,.refl _⟩,trivial⟩ ⟨⟨_,rfl,.refl _,(by simp)⟩,trivial⟩ ?_
   obtain ⟨hc6,h⟩:=z03 h
   refine At.one rfl (One.appendT (e:=56) (es:=6) (z01) a2 ([(⟨r4,r5,(p0.getD i1 default).time,(p0.getD i1 default).diff⟩:Update)]:List Update) rfl rfl rfl rfl rfl (.of 56 80 [.zero,.zero,.d (dU 0),.d (dU 0),.d (dU 0),.d (dI 0)] (by kernel_rfl) (by kernel_rfl) (by kernel_rfl) (by kernel_rfl) rfl (by kernel_rfl) rfl) rfl rfl rfl (.list rfl (fun _ _=>rfl)) hc6) ?_
   refine At.sg 1 [8,3,6,7] [1003] (z00 1) ?_
   refine At.done rfl ?_
   cases h
   exact kr
  ·intro a3 h
   refine Tri.sg [2] [1003] (z00 2) ?_
   refine Tri.keep [2] [1003] (s':=⟨[(2,.c (oC 1003 6 a3))],[(1003,vL 6 z01 a3)]⟩) (by kernel_rfl) ?_
   refine Tri.rename 1003 6000 ⟨[(2,.c (oC 6000 6 a3))],[(6000,vL 6 z01 a3)]⟩ (by kernel_rfl) rfl rfl rfl ?_
   refine Tri.ret ?_
   cases h
   exact RetAt.k
  · exact fun x=>x.elim
theorem zah {p0:List Update} {p1:List Time} {q:List Update} (h:z4e p0 p1=some q) :
    Summ Tryz.prog 44 [.c (wC 6 z01 p0),cD (lD 3 z02 p1)] [] (cD (lD 6 z01 q)) []:=by
  refine Summ.intro Tryz.func44 rfl (by kernel_rfl) (by kernel_rfl) [] rfl ?_
  rintro ⟨P,w0,G0,V,LL,lk,N, φ0,fx⟩ rfl rfl rfl rfl
  unfold z4e at h
  refine Tri.sg [0,1] [] (z00 1) ?_
  refine Tri.seqS ?_
  refine Tri.reg ?_
  refine At.sg 1 [1,7] [] (z00 1) ?_
  obtain ⟨r1,hr1,h⟩:=z04 h
  refine At.cL 0 [] [.c (wC 6 z01 p0)] [(6000,30128)] [1] [] (zas hr1) (.flat (.refl _) rfl rfl .nil) ?_
  refine At.sg 1 [1,5] [30128] (z00 1) ?_
  refine At.done rfl ?_
  refine Tri.seqS ?_
  refine Tri.segL [1,5,10,11] [30128] ⟨[(1,cD (lD 3 z02 p1)),(5,.c (oC 30128 6 r1)),(10,cD (dI (r1.length:Int))),(11,cD (dI 0))],[(30128,vL 6 z01 r1)]⟩ _ (by kernel_rfl) (z00 3) ?_
  refine Tri.lenOfO (t:=5) rfl rfl (Nat.le_refl _) fun hlena3 => ?_
  refine Tri.rK 11 (r1) (fun (x:Empty) s=>False) (fun (a3:List Update)=>⟨[(1,cD (lD 3 z02 p1)),(5,.c (oC 30128 6 a3)),(10,cD (dI (r1.length:Int)))],[(30128,vL 6 z01 a3)]⟩) [11,1,5,10] [30128] [12,11,1,5,10] [30128] [1,5,10] [30128] [11,1,5,10] [30128] h hlena3 ?_ ?_ ?_
  ·intro i2 a3 c hii2 h
   refine Tri.sg [1,5,6,10,11] [30128] (z00 2) ?_
   refine Tri.reg ?_
   obtain ⟨hc5,h⟩:=z03 h
   obtain ⟨hc6,h⟩:=z03 h
   refine At.sg 8 [1,5,10,11,14,15,20,21] [30128] (tN 4 (ai hc5 (tN 1 (ai hc6 (z00 1))))) ?_
   obtain ⟨r7,hr7,h⟩:=z04 h
   refine At.cA [] [.agg [.d (dU ((a3.getD (0 + i2) default).time.epoch)),.d (dU ((a3.getD (0 + i2) default).time.loop.1)),.d (dU ((a3.getD (0 + i2) default).time.loop.2))],cD (lD 3 z02 p1)] (z87 hr7) (.cons (.refl _) (.cons (.refl _) .nil)) ?_
   obtain ⟨hc8,h⟩:=z03 h
   refine At.seg 2 [1,5,10,11,22,24] [30128] (s':=⟨[(1,cD (lD 3 z02 p1)),(5,.c (oC 30128 6 a3)),(10,cD (dI (r1.length:Int))),(11,cD (dI ((i2:Nat):Int))),(22,.agg (cTime r7)),(24,.c (.vptr 30128 6 (0 + i2) 2))],[(30128,vL 6 z01 a3)]⟩) (by kernel_rfl) (ai hc8 (z00 1)) ?_
   obtain ⟨hc9,h⟩:=z03 h
   refine At.one rfl (One.storeT (xs:=[.d (dU r7.epoch),.d (dU r7.loop.1),.d (dU r7.loop.2)]) (ds:=[dU r7.epoch,dU r7.loop.1,dU r7.loop.2]) (z01) a3 (⟨(a3.getD (0 + i2) default).key,(a3.getD (0 + i2) default).row,r7,(a3.getD (0 + i2) default).diff⟩:Update) rfl rfl rfl rfl rfl hc9 rfl rfl (.refl _) rfl rfl rfl rfl) ?_
   refine At.keep [1,5,10,11] [30128] (s':=⟨[(1,cD (lD 3 z02 p1)),(5,.c (oC 30128 6 a3)),(10,cD (dI (r1.length:Int))),(11,cD (dI ((i2:Nat):Int)))],[(30128,vL 6 z01 (a3.set (0 + i2) (⟨(a3.getD (0 + i2) default).key,(a3.getD (0 + i2) default).row,r7,(a3.getD (0 + i2) default).diff⟩:Update)))]⟩) (by kernel_rfl) ?_
   refine At.eqS (s':=⟨[(1,cD (lD 3 z02 p1)),(5,.c (oC 30128 6 (a3.set (0 + i2) (⟨(a3.getD (0 + i2) default).key,(a3.getD (0 + i2) default).row,r7,(a3.getD (0 + i2) default).diff⟩:Update)))),(10,cD (dI (r1.length:Int))),(11,cD (dI ((i2:Nat):Int)))],[(30128,vL 6 z01 (a3.set (0 + i2) (⟨(a3.getD (0 + i2) default).key,(a3.getD (0 + i2) default).row,r7,(a3.getD (0 + i2) default).diff⟩:Update)))]⟩) (by simp only [oC,vL,List.length_set]) ?_
   refine At.keep [11,1,5,10] [30128] (s':=⟨[(11,cD (dI ((i2:Nat):Int))),(1,cD (lD 3 z02 p1)),(5,.c (oC 30128 6 (a3.set (0 + i2) (⟨(a3.getD (0 + i2) default).key,(a3.getD (0 + i2) default).row,r7,(a3.getD (0 + i2) default).diff⟩:Update)))),(10,cD (dI (r1.length:Int)))],[(30128,vL 6 z01 (a3.set (0 + i2) (⟨(a3.getD (0 + i2) default).key,(a3.getD (0 + i2) default).row,r7,(a3.getD (0 + i2) default).diff⟩:Update)))]⟩) (by kernel_rfl) ?_
   refine At.done rfl ?_
   cases h
   exact kr
  ·intro a4 h
   refine Tri.sg [4] [30128] (z00 2) ?_
   refine Tri.keep [4] [30128] (s':=⟨[(4,.c (oC 30128 6 a4))],[(30128,vL 6 z01 a4)]⟩) (by kernel_rfl) ?_
   refine Tri.le [30128] (fun k hk h=>by first | (cases h; done) | (simp at hk h; omega)) ⟨[(4,cD (lD 6 z01 a4))],[]⟩ ⟨⟨_,rfl,.c (CLe.frozen (z01) a4 rfl (by simp))⟩,trivial⟩ trivial ?_
   refine Tri.ret ?_
   cases h
   exact RetAt.k
  · exact fun x=>x.elim
theorem z8c {p0:Wide} {p1:Int} {q:Wide} (h:z23 p0 p1=some q) :
    Summ Tryz.prog 84 [.agg (cWide p0),cD (dI p1)] [] (.agg (cWide q)) []:=by
  refine Summ.intro Tryz.func84 rfl (by kernel_rfl) (by kernel_rfl) [] rfl ?_
  rintro ⟨P,w0,G0,V,LL,lk,N, φ0,fx⟩ rfl rfl rfl rfl
  unfold z23 at h
  refine Tri.sg [1,2,4] [2,4] (z00 2) ?_
  refine Tri.sg [1,2,4,5] [2,4] (z00 6) ?_
  refine Tri.seqJ (fun (a1:Wide)=>⟨[(1,cD (dI p1)),(2,.c (.ptr 2 0)),(4,.c (.ptr 4 0)),(5,cD (dU (IntKind.u64.wrap (p0.low + (IntKind.u64.wrap p1)))))],[(2,.box (cWide a1)),(4,.box [.d (dI 0),.d (dU 0)])]⟩) h (fun a1 h => ?_) (fun j2 h => ?_)
  ·refine Tri.seqJ (fun (a3:Wide)=>⟨[(2,.c (.ptr 2 0)),(4,.c (.ptr 4 0)),(5,cD (dU (IntKind.u64.wrap (p0.low + (IntKind.u64.wrap p1)))))],[(2,.box (cWide a3)),(4,.box [.d (dI 0),.d (dU 0)])]⟩) h (fun a3 h => ?_) (fun j4 h => ?_)
   ·refine Tri.sg [2,4] [2,4] (z00 3) ?_
    refine Tri.sg [4] [4] (z00 2) ?_
    refine Tri.ret ?_
    cases h
    exact RetAt.k
   ·refine Tri.sg [2,4,5,20] [2,4] (z00 2) ?_
    refine Tri.condK h (fun h => ?_) (fun h => ?_)
    ·refine Tri.reg ?_
     refine At.sg 5 [2,4,5] [2,4] (z00 5) ?_
     refine At.done rfl ?_
     exact ⟨_,h,kr⟩
    ·refine Tri.kp [2,4,5] [2,4] ?_
     refine Tri.skip ?_
     exact ⟨_,h,kr⟩
  ·refine Tri.sg [1,2,4,5,14] [2,4] (z00 4) ?_
   refine Tri.condK h (fun h => ?_) (fun h => ?_)
   ·refine Tri.reg ?_
    refine At.sg 5 [1,2,4,5] [2,4] (z00 5) ?_
    refine At.done rfl ?_
    exact ⟨_,h,kr⟩
   ·refine Tri.kp [1,2,4,5] [2,4] ?_
    refine Tri.skip ?_
    exact ⟨_,h,kr⟩
theorem z8o {p0:Wide} {q:Int × Int} (h:z26 p0=some q) :
    Summ Tryz.prog 85 [.agg (cWide p0)] [] (.tup [(false,[.d (dI q.1)]),(false,[.d (dI q.2)])]) []:=by
  refine Summ.intro Tryz.func85 rfl (by kernel_rfl) (by kernel_rfl) [] rfl ?_
  rintro ⟨P,w0,G0,V,LL,lk,N, φ0,fx⟩ rfl rfl rfl rfl
  unfold z26 at h
  refine Tri.sg [1] [1] (z00 3) ?_
  refine Tri.sg [1,4] [1] (z00 4) ?_
  refine Tri.seqS ?_
  refine Tri.seqJ (fun (a1:Int × Bool)=>⟨[(4,cD (dI a1.1)),(23,cD (.bool a1.2))],[]⟩) h (fun a1 h => ?_) (fun j2 h => ?_)
  ·refine Tri.condK h (fun h => ?_) (fun h => ?_)
   ·refine Tri.sg [2,3] [] (z00 3) ?_
    refine Tri.ret ?_
    cases h
    exact RetAt.k
   ·refine Tri.skip ?_
    refine Tri.sg [2,3] [] (z00 2) ?_
    refine Tri.ret ?_
    cases h
    exact RetAt.k
  ·refine Tri.reg ?_
   refine At.sg 4 [1,4,11] [1] (z00 4) ?_
   refine At.cs [11] h (fun h => ?_) (fun h => ?_)
   ·refine At.sg 4 [1,4,15] [1] (z00 4) ?_
    refine At.cs [15] h (fun h => ?_) (fun h => ?_)
    ·refine At.sg 8 [4,23] [] (z00 1) ?_
     refine At.done rfl ?_
     exact ⟨_,h,kr⟩
    ·refine At.sg 4 [4,15,19] [] (z00 4) ?_
     refine At.cs [19] h (fun h => ?_) (fun h => ?_)
     ·refine At.sg 4 [4,23] [] (z00 4) ?_
      refine At.done rfl ?_
      exact ⟨_,h,kr⟩
     ·refine At.sg 4 [4,23] [] (z00 2) ?_
      refine At.done rfl ?_
      exact ⟨_,h,kr⟩
   ·refine At.sg 8 [4,15,19] [] (z00 6) ?_
    refine At.cs [19] h (fun h => ?_) (fun h => ?_)
    ·refine At.sg 4 [4,23] [] (z00 4) ?_
     refine At.done rfl ?_
     exact ⟨_,h,kr⟩
    ·refine At.sg 4 [4,23] [] (z00 2) ?_
     refine At.done rfl ?_
     exact ⟨_,h,kr⟩
theorem z9z {fuel:Nat} {p0:List (List Update)} {q:(List Update) × Int} (h:z3c fuel p0=some q) :
    Summ Tryz.prog 43 [cD (lD 1 (fun xs=>[encL 6 z01 xs]) p0)] [] (.tup [(false,[.d (lD 6 z01 q.1)]),(false,[.d (dI q.2)])]) []:=by
  refine Summ.intro Tryz.func43 rfl (by kernel_rfl) (by kernel_rfl) [] rfl ?_
  rintro ⟨P,w0,G0,V,LL,lk,N, φ0,fx⟩ rfl rfl rfl rfl
  unfold z3c at h
  refine Tri.sg [0] [] (z00 2) ?_
  refine Tri.sg [0,4] [] (z00 1) ?_
  refine Tri.seqS ?_
  refine Tri.segL [4,18,19,20] [] ⟨[(4,.c (.zero)),(18,cD (lD 1 (fun xs=>[encL 6 z01 xs]) p0)),(19,cD (dI (p0.length:Int))),(20,cD (dI 0))],[]⟩ _ (by kernel_rfl) (z00 3) ?_
  refine Tri.ln 18 p0.length fun hlena2 => ?_
  refine Tri.newOwn (t:=4) (k:=1004) (es:=6) (fun i=>z01 (([]:List Update).getD i default)) rfl rfl rfl ?_
  refine Tri.rK 20 ([]:List Update) (fun (x:(List Update) × Int) s=>RetAt Tryz.prog Tryz.f43 (.tup [(false,[.d (lD 6 z01 x.1)]),(false,[.d (dI x.2)])]) [] s) (fun (a2:List Update)=>⟨[(4,.c (oC 1004 6 a2)),(18,cD (lD 1 (fun xs=>[encL 6 z01 xs]) p0)),(19,cD (dI (p0.length:Int)))],[(1004,vL 6 z01 a2)]⟩) [20,4,18,19] [1004] [21,20,4,18,19] [1004] [4,18,19] [1004] [20,4,18,19] [1004] h hlena2 ?_ ?_ ?_
  ·intro i1 a2 c hii1 h
   refine Tri.sg [4,6,18,19,20] [1004] (ai (show ((0:Int)≤((i1:Nat):Int)∧((i1:Nat):Int) < (p0.length:Int)) from ⟨by omega,by omega⟩) (z00 2)) ?_
   refine Tri.seqS ?_
   refine Tri.reg ?_
   refine At.sg 1 [4,6,18,19,20,24] [1004] (z00 1) ?_
   obtain ⟨r48,hr48,h⟩:=z04 h
   refine At.cA [] [cD (lD 6 z01 (p0.getD i1 default))] (z73 hr48) (.cons (.refl _) .nil) ?_
   refine At.sg 1 [4,6,7,18,19,20] [1004] (z00 1) ?_
   refine At.done rfl ?_
   refine Tri.seqS ?_
   refine Tri.sg [4,6,7,18,19,20,27] [1004] (z00 2) ?_
   refine Tri.condK h (fun h => ?_) (fun h => ?_)
   ·refine Tri.sg [2,3] [] (z00 3) ?_
    refine Tri.keep [2,3] [] (s':=⟨[(2,.c (.zero)),(3,cD (dI r48))],[]⟩) (by kernel_rfl) ?_
    refine Tri.le [] (fun k hk=>by cases hk) ⟨[(2,cD (lD 6 z01 ([]:List Update))),(3,cD (dI r48))],[]⟩ ⟨⟨_,rfl,.c (.zero _ _)⟩,⟨_,rfl,.refl _⟩,trivial⟩ trivial ?_
    refine Tri.ret ?_
    cases h
    exact RetAt.k
   ·refine Tri.skip ?_
    refine Tri.reg ?_
    refine At.seg 2 [18,19,20,29,30] [1004] (s':=⟨[(18,cD (lD 1 (fun xs=>[encL 6 z01 xs]) p0)),(19,cD (dI (p0.length:Int))),(20,cD (dI ((i1:Nat):Int))),(29,.c (oC 1004 6 a2)),(30,cD (lD 6 z01 (p0.getD i1 default)))],[(1004,vL 6 z01 a2)]⟩) (by kernel_rfl) (z00 2) ?_
    obtain ⟨hc49,h⟩:=z03 h
    refine At.one rfl (One.appendT (e:=56) (es:=6) (z01) a2 (p0.getD i1 default) rfl rfl rfl rfl rfl (.of 56 80 [.zero,.zero,.d (dU 0),.d (dU 0),.d (dU 0),.d (dI 0)] (by kernel_rfl) (by kernel_rfl) (by kernel_rfl) (by kernel_rfl) rfl (by kernel_rfl) rfl) rfl rfl rfl (.list rfl (fun _ _=>rfl)) hc49) ?_
    refine At.sg 1 [20,4,18,19] [1004] (z00 1) ?_
    refine At.done rfl ?_
    cases h
    exact kr
  ·intro a3 h
   refine Tri.sg [4,8] [1004] (z00 1) ?_
   refine Tri.sg [4,8,9] [1004] (z00 1) ?_
   refine Tri.seqS ?_
   refine Tri.segL [8,9,33,34,35] [1004] ⟨[(8,.c (.zero)),(9,.c (.zero)),(33,.c (oC 1004 6 a3)),(34,cD (dI (a3.length:Int))),(35,cD (dI 0))],[(1004,vL 6 z01 a3)]⟩ _ (by kernel_rfl) (z00 3) ?_
   refine Tri.newOwn (t:=8) (k:=1008) (es:=6) (fun i=>z01 (([]:List Update).getD i default)) rfl rfl rfl ?_
   refine Tri.newOwn (t:=9) (k:=1009) (es:=2) (fun i=>z12 (([]:List Wide).getD i default)) rfl rfl rfl ?_
   refine Tri.lenOfO (t:=33) rfl rfl (Nat.le_refl _) fun hlena5 => ?_
   refine Tri.rK 35 (([]:List Update),([]:List Wide)) (fun (x:Empty) s=>False) (fun (a5:(List Update) × (List Wide))=>⟨[(8,.c (oC 1008 6 a5.1)),(9,.c (oC 1009 2 a5.2)),(33,.c (oC 1004 6 a3)),(34,cD (dI (a3.length:Int)))],[(1004,vL 6 z01 a3),(1008,vL 6 z01 a5.1),(1009,vL 2 z12 a5.2)]⟩) [35,8,9,33,34] [1004,1008,1009] [36,35,8,9,33,34] [1004,1008,1009] [8,9,33,34] [1004,1008,1009] [35,8,9,33,34] [1004,1008,1009] h hlena5 ?_ ?_ ?_
   ·intro i4 a5 c hii4 h
    obtain ⟨hc16,h⟩:=z03 h
    refine Tri.sg [8,9,11,33,34,35] [11,1004,1008,1009] (ai (show ((0:Int)≤((i4:Nat):Int)∧((i4:Nat):Int) < (a3.length:Int)) from ⟨by omega,by omega⟩) (ai hc16 (z00 2))) ?_
    refine Tri.sg [8,9,11,12,33,34,35] [11,1004,1008,1009] (z00 1) ?_
    refine Tri.seqS ?_
    refine Tri.lK (0) (fun (x:Empty) s=>False) (fun (a17:Int)=>⟨[(8,.c (oC 1008 6 a5.1)),(9,.c (oC 1009 2 a5.2)),(11,.c (.ptr 11 0)),(12,cD (dI a17)),(33,.c (oC 1004 6 a3)),(34,cD (dI (a3.length:Int))),(35,cD (dI ((i4:Nat):Int)))],[(11,.box (cUpdate (a3.getD (0 + i4) default))),(1004,vL 6 z01 a3),(1008,vL 6 z01 a5.1),(1009,vL 2 z12 a5.2)]⟩) [8,9,11,12,33,34,35] [11,1004,1008,1009] h ?_ ?_ ?_
    ·intro a17 c h
     refine Tri.eqS ⟨[(8,.c (oC 1008 6 a5.1)),(9,.c (oC 1009 2 a5.2)),(11,.c (.ptr 11 0)),(12,cD (dI a17)),(33,.c (oC 1004 6 a3)),(34,cD (dI (a3.length:Int))),(35,cD (dI ((i4:Nat):Int)))],[(11,.box (cUpdate (a3.getD (0 + i4) default))),(1004,vL 6 z01 a3),(1008,vL 6 z01 a5.1),(1009,vL 2 z12 a5.2)]⟩ kr ?_
     refine Tri.seqS ?_
     refine Tri.seqJ (fun (a42:Bool)=>⟨[(8,.c (oC 1008 6 a5.1)),(9,.c (oC 1009 2 a5.2)),(11,.c (.ptr 11 0)),(12,cD (dI a17)),(33,.c (oC 1004 6 a3)),(34,cD (dI (a3.length:Int))),(35,cD (dI ((i4:Nat):Int))),(51,cD (.bool a42))],[(11,.box (cUpdate (a3.getD (0 + i4) default))),(1004,vL 6 z01 a3),(1008,vL 6 z01 a5.1),(1009,vL 2 z12 a5.2)]⟩) h (fun a42 h => ?_) (fun j43 h => ?_)
     ·refine Tri.condK h (fun h => ?_) (fun h => ?_)
      ·refine Tri.skip ?_
       refine Tri.blockB ?_
       refine Tri.reg ?_
       refine At.sg 3 [8,9,11,12,33,34,35] [11,1004,1008,1009] (z00 3) ?_
       refine At.done rfl ?_
       cases h
       exact kr
      ·refine Tri.kp [8,9,11,12,33,34,35] [11,1004,1008,1009] ?_
       refine Tri.exit ?_
       cases h
       exact ⟨rfl,kr⟩
     ·rcases z1f h with ⟨hp44,h⟩ | ⟨hp44,h⟩
      ·obtain ⟨hc45,h⟩:=z03 h
       obtain ⟨hc46,h⟩:=z03 h
       obtain ⟨r47,hr47,h⟩:=z04 h
       refine Tri.dC [.a [12] [],.a [8] [],.a [40] [1008],.a [39,41] [],.m ⟨[(42,cD (.bool (decide (a17 < (a5.1.length:Int)))))],[]⟩ ⟨[(43,.c (.d (.bool true)))],[]⟩ [] [] [],.a [8,43] [],.a [12,43] [],.a [43,44,45] [1008],.a [43,46] [1008],.a [11,43] [11],.m ⟨[(43,cD (.bool true)),(47,.agg (cUpdate (a5.1.getD (0 + a17.toNat) default))),(48,.agg (cUpdate (a3.getD (0 + i4) default)))],[]⟩ ⟨[(49,cD (dI r47))],[]⟩ [] [] [],.a [43,49] [],.a [43,50] []] [8,9,11,12,33,34,35,51] [11,1004,1008,1009] (tN 6 (ai hc45 (ai hc46 (z00 3)))) (.a (.a (.a (.a (.m ?_ (.a (.a (.a (.a (.a (.m ?_ (.a (.a .z))))))))))))) ?_
       · exact DOk.stepP (fun b => .val (.c (.d (.bool b))) (True)) (p:=(decide (a17 < (a5.1.length:Int)))) hp44 (fun r=>by kernel_rfl) (fun r=>by kernel_rfl) trivial (by kernel_rfl) (by kernel_rfl) (fun r=>rfl)
       · exact DOk.cA [] [.agg (cUpdate (a5.1.getD (0 + a17.toNat) default)),.agg (cUpdate (a3.getD (0 + i4) default))] (z67 hr47) fun r=>(.cons (.refl _) (.cons (.refl _) .nil))
       exact ⟨_,h,kr⟩
      ·refine Tri.dC [.a [12] [],.a [8] [],.a [40] [1008],.a [39,41] [],.m ⟨[(42,cD (.bool (decide (a17 < (a5.1.length:Int)))))],[]⟩ ⟨[(43,.c (.d (.bool false)))],[]⟩ [] [] [],.a [8,43] [],.a [12,43] [],.a [43,44,45] [],.a [43,46] [],.a [11,43] [11],.a [43,47,48] [],.a [43,49] [],.a [43,50] []] [8,9,11,12,33,34,35,51] [11,1004,1008,1009] (z00 5) (.a (.a (.a (.a (.m ?_ (.a (.a (.a (.a (.a (.a (.a (.a .z))))))))))))) ?_
       · exact DOk.stepP (fun b => .val (.c (.d (.bool b))) (True)) (p:=(decide (a17 < (a5.1.length:Int)))) hp44 (fun r=>by kernel_rfl) (fun r=>by kernel_rfl) trivial (by kernel_rfl) (by kernel_rfl) (fun r=>rfl)
       exact ⟨_,h,kr⟩
    ·intro a18 h
     refine Tri.seqJ (fun (a19:(List Update) × (List Wide))=>⟨[(8,.c (oC 71 6 a19.1)),(9,.c (oC 83 2 a19.2)),(11,.c (.ptr 11 0)),(12,cD (dI a18)),(33,.c (oC 1004 6 a3)),(34,cD (dI (a3.length:Int))),(35,cD (dI ((i4:Nat):Int)))],[(11,.box (cUpdate (a3.getD (0 + i4) default))),(71,vL 6 z01 a19.1),(83,vL 2 z12 a19.2),(1004,vL 6 z01 a3)]⟩) h (fun a19 h => ?_) (fun j20 h => ?_)
     ·refine Tri.eqS ⟨[(8,.c (oC 71 6 a19.1)),(9,.c (oC 83 2 a19.2)),(11,.c (.ptr 11 0)),(12,cD (dI a18)),(33,.c (oC 1004 6 a3)),(34,cD (dI (a3.length:Int))),(35,cD (dI ((i4:Nat):Int)))],[(11,.box (cUpdate (a3.getD (0 + i4) default))),(71,vL 6 z01 a19.1),(83,vL 2 z12 a19.2),(1004,vL 6 z01 a3)]⟩ kr ?_
      obtain ⟨hc21,h⟩:=z03 h
      obtain ⟨hc22,h⟩:=z03 h
      obtain ⟨r23,hr23,h⟩:=z04 h
      obtain ⟨hc24,h⟩:=z03 h
      obtain ⟨hc25,h⟩:=z03 h
      refine Tri.afterA ⟨[(8,.c (oC 71 6 a19.1)),(9,.c (oC 83 2 a19.2)),(33,.c (oC 1004 6 a3)),(34,cD (dI (a3.length:Int))),(35,cD (dI ((i4:Nat):Int)))],[(71,vL 6 z01 a19.1),(83,vL 2 z12 (a19.2.set (0 + a18.toNat) r23)),(1004,vL 6 z01 a3)]⟩ ?_ ?_
      ·refine Tri.dS ⟨[(8,.c (oC 71 6 a19.1)),(9,.c (oC 83 2 a19.2)),(33,.c (oC 1004 6 a3)),(34,cD (dI (a3.length:Int))),(35,cD (dI ((i4:Nat):Int)))],[(71,vL 6 z01 a19.1),(83,vL 2 z12 (a19.2.set (0 + a18.toNat) r23)),(1004,vL 6 z01 a3)]⟩ [.a [9] [],.a [12] [],.a [9] [],.a [12] [],.a [93,94] [83],.a [95] [83],.a [11] [],.a [97] [11],.m ⟨[(96,.agg (cWide (a19.2.getD (0 + a18.toNat) default))),(98,cD (dI ((a3.getD (0 + i4) default).diff)))],[]⟩ ⟨[(99,.agg (cWide r23))],[]⟩ [] [] [],.a [91,92] [83],.m ⟨[(99,.agg (cWide r23)),(100,.c (.vptr 83 2 (0 + a18.toNat) 0))],[(83,vL 2 z12 a19.2)]⟩ ⟨[],[(83,vL 2 z12 (a19.2.set (0 + a18.toNat) r23))]⟩ [] [] []] [8,9,33,34,35] [71,83,1004] (tN 4 (ai hc21 (ai hc22 (tN 2 (ai hc24 trivial))))) (.a (.a (.a (.a (.a (.a (.a (.a (.m ?_ (.a (.m ?_ .z))))))))))) ?_
       · exact DOk.cA [] [.agg (cWide (a19.2.getD (0 + a18.toNat) default)),cD (dI ((a3.getD (0 + i4) default).diff))] (z8c hr23) fun r=>(.cons (.refl _) (.cons (.refl _) .nil))
       · exact DOk.one fun r hr=>One.storeT (xs:=[.d (dI r23.high),.d (dU r23.low)]) (ds:=[dI r23.high,dU r23.low]) (z12) a19.2 r23 rfl (by kernel_rfl) rfl rfl rfl hc25 rfl rfl (.refl _) rfl rfl rfl rfl
       exact ⟨rfl,rfl⟩
      ·refine At.eqS (s':=⟨[(8,.c (oC 71 6 a19.1)),(9,.c (oC 83 2 (a19.2.set (0 + a18.toNat) r23))),(33,.c (oC 1004 6 a3)),(34,cD (dI (a3.length:Int))),(35,cD (dI ((i4:Nat):Int)))],[(71,vL 6 z01 a19.1),(83,vL 2 z12 (a19.2.set (0 + a18.toNat) r23)),(1004,vL 6 z01 a3)]⟩) (by simp only [oC,vL,List.length_set]) ?_
       refine At.keep [8,9,33,34,35] [71,83,1004] (s':=⟨[(8,.c (oC 71 6 a19.1)),(9,.c (oC 83 2 (a19.2.set (0 + a18.toNat) r23))),(33,.c (oC 1004 6 a3)),(34,cD (dI (a3.length:Int))),(35,cD (dI ((i4:Nat):Int)))],[(71,vL 6 z01 a19.1),(83,vL 2 z12 (a19.2.set (0 + a18.toNat) r23)),(1004,vL 6 z01 a3)]⟩) (by kernel_rfl) ?_
       refine At.rename 71 1008 ⟨[(8,.c (oC 1008 6 a19.1)),(9,.c (oC 83 2 (a19.2.set (0 + a18.toNat) r23))),(33,.c (oC 1004 6 a3)),(34,cD (dI (a3.length:Int))),(35,cD (dI ((i4:Nat):Int)))],[(1008,vL 6 z01 a19.1),(83,vL 2 z12 (a19.2.set (0 + a18.toNat) r23)),(1004,vL 6 z01 a3)]⟩ (by kernel_rfl) rfl rfl rfl ?_
       refine At.keep [8,9,33,34,35] [1008,83,1004] (s':=⟨[(8,.c (oC 1008 6 a19.1)),(9,.c (oC 83 2 (a19.2.set (0 + a18.toNat) r23))),(33,.c (oC 1004 6 a3)),(34,cD (dI (a3.length:Int))),(35,cD (dI ((i4:Nat):Int)))],[(1008,vL 6 z01 a19.1),(83,vL 2 z12 (a19.2.set (0 + a18.toNat) r23)),(1004,vL 6 z01 a3)]⟩) (by kernel_rfl) ?_
       refine At.rename 83 1009 ⟨[(8,.c (oC 1008 6 a19.1)),(9,.c (oC 1009 2 (a19.2.set (0 + a18.toNat) r23))),(33,.c (oC 1004 6 a3)),(34,cD (dI (a3.length:Int))),(35,cD (dI ((i4:Nat):Int)))],[(1008,vL 6 z01 a19.1),(1009,vL 2 z12 (a19.2.set (0 + a18.toNat) r23)),(1004,vL 6 z01 a3)]⟩ (by kernel_rfl) rfl rfl rfl ?_
       refine At.keep [35,8,9,33,34] [1004,1008,1009] (s':=⟨[(35,cD (dI ((i4:Nat):Int))),(8,.c (oC 1008 6 a19.1)),(9,.c (oC 1009 2 (a19.2.set (0 + a18.toNat) r23))),(33,.c (oC 1004 6 a3)),(34,cD (dI (a3.length:Int)))],[(1004,vL 6 z01 a3),(1008,vL 6 z01 a19.1),(1009,vL 2 z12 (a19.2.set (0 + a18.toNat) r23))]⟩) (by kernel_rfl) ?_
       refine At.done rfl ?_
       cases h
       exact kr
     ·refine Tri.seqJ (fun (a26:Bool)=>⟨[(8,.c (oC 1008 6 a5.1)),(9,.c (oC 1009 2 a5.2)),(11,.c (.ptr 11 0)),(12,cD (dI a18)),(33,.c (oC 1004 6 a3)),(34,cD (dI (a3.length:Int))),(35,cD (dI ((i4:Nat):Int))),(66,cD (.bool a26))],[(11,.box (cUpdate (a3.getD (0 + i4) default))),(1004,vL 6 z01 a3),(1008,vL 6 z01 a5.1),(1009,vL 2 z12 a5.2)]⟩) h (fun a26 h => ?_) (fun j27 h => ?_)
      ·refine Tri.condK h (fun h => ?_) (fun h => ?_)
       ·refine Tri.seqS ?_
        obtain ⟨hc28,h⟩:=z03 h
        obtain ⟨hc29,h⟩:=z03 h
        obtain ⟨hc30,h⟩:=z03 h
        obtain ⟨hc31,h⟩:=z03 h
        obtain ⟨hc32,h⟩:=z03 h
        refine Tri.dC [.m ⟨[],[]⟩ ⟨[(67,.c (.zero))],[]⟩ [] [] [],.a [8] [],.a [12] [],.a [68,69] [1008],.m ⟨[(67,.c (.zero)),(70,.c (.own 1008 6 (0 + (0:Int).toNat) (a18.toNat - (0:Int).toNat)))],[(1008,vL 6 z01 a5.1)]⟩ ⟨[(71,.c (oC 71 6 (sub a5.1 (0:Int) a18)))],[(71,vL 6 z01 (sub a5.1 (0:Int) a18))]⟩ [71] [] [],.a [11] [11],.m ⟨[(72,.agg (cUpdate (a3.getD (0 + i4) default)))],[]⟩ ⟨[(73,.c (oC 73 6 ([(a3.getD (0 + i4) default)]:List Update)))],[(73,vL 6 z01 ([(a3.getD (0 + i4) default)]:List Update))]⟩ [73] [] [],.m ⟨[(71,.c (oC 71 6 (sub a5.1 (0:Int) a18))),(73,.c (oC 73 6 ([(a3.getD (0 + i4) default)]:List Update)))],[(71,vL 6 z01 (sub a5.1 (0:Int) a18)),(73,vL 6 z01 ([(a3.getD (0 + i4) default)]:List Update))]⟩ ⟨[(74,.c (oC 71 6 ((sub a5.1 (0:Int) a18)++([(a3.getD (0 + i4) default)]:List Update)))),(71,.c (.any))],[(71,vL 6 z01 ((sub a5.1 (0:Int) a18)++([(a3.getD (0 + i4) default)]:List Update)))]⟩ [71] [71] [],.a [8] [],.a [12] [],.a [75,76] [1008],.m ⟨[(71,.c (.any)),(74,.c (oC 71 6 ((sub a5.1 (0:Int) a18)++([(a3.getD (0 + i4) default)]:List Update)))),(77,.c (.own 1008 6 (0 + a18.toNat) ((a5.1.length:Int).toNat - a18.toNat)))],[(71,vL 6 z01 ((sub a5.1 (0:Int) a18)++([(a3.getD (0 + i4) default)]:List Update))),(1008,vL 6 z01 a5.1)]⟩ ⟨[(78,.c (oC 71 6 (((sub a5.1 (0:Int) a18)++([(a3.getD (0 + i4) default)]:List Update))++(sub a5.1 a18 (a5.1.length:Int))))),(71,.c (.any)),(74,.c (.any))],[(71,vL 6 z01 (((sub a5.1 (0:Int) a18)++([(a3.getD (0 + i4) default)]:List Update))++(sub a5.1 a18 (a5.1.length:Int))))]⟩ [71] [71,74] [],.a [78] []] [8,9,11,12,33,34,35] [11,71,1004,1009] (tN 2 (ai hc28 (tN 3 (ai hc31 (z00 1))))) (.m ?_ (.a (.a (.a (.m ?_ (.a (.m ?_ (.m ?_ (.a (.a (.a (.m ?_ (.a .z))))))))))))) ?_
        · exact DOk.one fun r _=>One.build0 (e:=56) (es:=6) rfl (by kernel_rfl) rfl rfl (by kernel_rfl) rfl
        · exact DOk.one fun r hr=>One.append0 (e:=56) (es:=6) (m:=(sub a5.1 (0:Int) a18).length) (get:=fun i=>z01 ((sub a5.1 (0:Int) a18).getD i default)) rfl (by kernel_rfl) rfl rfl (St.noRef_app (by kernel_rfl) (hr 71 (by simp))) (.of 56 80 [.zero,.zero,.d (dU 0),.d (dU 0),.d (dU 0),.d (dI 0)] (by kernel_rfl) (by kernel_rfl) (by kernel_rfl) (by kernel_rfl) rfl (by kernel_rfl) rfl) rfl rfl (.subO (z01) rfl hc28.1 hc28.2.1 hc28.2.2) hc29
        · exact DOk.one fun r hr=>One.buildT (e:=56) (es:=6) (z:=[.zero,.zero,.d (dU 0),.d (dU 0),.d (dU 0),.d (dI 0)]) (cells:=[.d (lD 3 z05 ((a3.getD (0 + i4) default).key)),.d (lD 3 z05 ((a3.getD (0 + i4) default).row)),.d (dU ((a3.getD (0 + i4) default).time.epoch)),.d (dU ((a3.getD (0 + i4) default).time.loop.1)),.d (dU ((a3.getD (0 + i4) default).time.loop.2)),.d (dI ((a3.getD (0 + i4) default).diff))]) (z01) ([(a3.getD (0 + i4) default)]:List Update) rfl (by kernel_rfl) rfl rfl (St.noRef_app (by kernel_rfl) (hr 73 (by simp))) (by kernel_rfl) rfl (by kernel_rfl) rfl rfl rfl (by kernel_rfl) rfl ⟨⟨rfl,.refl _⟩,trivial⟩
        · exact DOk.drop (k:=71) (d:=74) (v:=vL 6 z01 ((sub a5.1 (0:Int) a18)++([(a3.getD (0 + i4) default)]:List Update))) (av:=.c (oC 71 6 ((sub a5.1 (0:Int) a18)++([(a3.getD (0 + i4) default)]:List Update)))) rfl (fun r hr=>One.appendT (e:=56) (es:=6) (z01) (sub a5.1 (0:Int) a18) ([(a3.getD (0 + i4) default)]:List Update) rfl rfl (by kernel_rfl) rfl rfl (.of 56 80 [.zero,.zero,.d (dU 0),.d (dU 0),.d (dU 0),.d (dI 0)] (by kernel_rfl) (by kernel_rfl) (by kernel_rfl) (by kernel_rfl) rfl (by kernel_rfl) rfl) rfl rfl rfl (.own rfl (by simp) rfl (ze9 (z01) ([(a3.getD (0 + i4) default)]:List Update) _)) hc30) (by kernel_rfl) (by kernel_rfl) (by kernel_rfl) (by kernel_rfl)
        · exact DOk.drop (k:=71) (d:=78) (v:=vL 6 z01 (((sub a5.1 (0:Int) a18)++([(a3.getD (0 + i4) default)]:List Update))++(sub a5.1 a18 (a5.1.length:Int)))) (av:=.c (oC 71 6 (((sub a5.1 (0:Int) a18)++([(a3.getD (0 + i4) default)]:List Update))++(sub a5.1 a18 (a5.1.length:Int))))) rfl (fun r hr=>One.appendT (e:=56) (es:=6) (z01) ((sub a5.1 (0:Int) a18)++([(a3.getD (0 + i4) default)]:List Update)) (sub a5.1 a18 (a5.1.length:Int)) rfl rfl (by kernel_rfl) rfl rfl (.of 56 80 [.zero,.zero,.d (dU 0),.d (dU 0),.d (dU 0),.d (dI 0)] (by kernel_rfl) (by kernel_rfl) (by kernel_rfl) (by kernel_rfl) rfl (by kernel_rfl) rfl) rfl rfl rfl (.subO (z01) rfl hc31.1 hc31.2.1 hc31.2.2) hc32) (by kernel_rfl) (by kernel_rfl) (by kernel_rfl) (by kernel_rfl)
        obtain ⟨hc33,h⟩:=z03 h
        obtain ⟨hc34,h⟩:=z03 h
        obtain ⟨hc35,h⟩:=z03 h
        obtain ⟨hc36,h⟩:=z03 h
        obtain ⟨hc37,h⟩:=z03 h
        refine Tri.dC [.m ⟨[],[]⟩ ⟨[(79,.c (.zero))],[]⟩ [] [] [],.a [9] [],.a [12] [],.a [80,81] [1009],.m ⟨[(79,.c (.zero)),(82,.c (.own 1009 2 (0 + (0:Int).toNat) (a18.toNat - (0:Int).toNat)))],[(1009,vL 2 z12 a5.2)]⟩ ⟨[(83,.c (oC 83 2 (sub a5.2 (0:Int) a18)))],[(83,vL 2 z12 (sub a5.2 (0:Int) a18))]⟩ [83] [] [],.a [] [],.m ⟨[(84,.agg [.d (dI 0),.d (dU 0)])],[]⟩ ⟨[(85,.c (oC 85 2 ([(⟨0,0⟩:Wide)]:List Wide)))],[(85,vL 2 z12 ([(⟨0,0⟩:Wide)]:List Wide))]⟩ [85] [] [],.m ⟨[(83,.c (oC 83 2 (sub a5.2 (0:Int) a18))),(85,.c (oC 85 2 ([(⟨0,0⟩:Wide)]:List Wide)))],[(83,vL 2 z12 (sub a5.2 (0:Int) a18)),(85,vL 2 z12 ([(⟨0,0⟩:Wide)]:List Wide))]⟩ ⟨[(86,.c (oC 83 2 ((sub a5.2 (0:Int) a18)++([(⟨0,0⟩:Wide)]:List Wide)))),(83,.c (.any))],[(83,vL 2 z12 ((sub a5.2 (0:Int) a18)++([(⟨0,0⟩:Wide)]:List Wide)))]⟩ [83] [83] [],.a [9] [],.a [12] [],.a [87,88] [1009],.m ⟨[(83,.c (.any)),(86,.c (oC 83 2 ((sub a5.2 (0:Int) a18)++([(⟨0,0⟩:Wide)]:List Wide)))),(89,.c (.own 1009 2 (0 + a18.toNat) ((a5.2.length:Int).toNat - a18.toNat)))],[(83,vL 2 z12 ((sub a5.2 (0:Int) a18)++([(⟨0,0⟩:Wide)]:List Wide))),(1009,vL 2 z12 a5.2)]⟩ ⟨[(90,.c (oC 83 2 (((sub a5.2 (0:Int) a18)++([(⟨0,0⟩:Wide)]:List Wide))++(sub a5.2 a18 (a5.2.length:Int))))),(83,.c (.any)),(86,.c (.any))],[(83,vL 2 z12 (((sub a5.2 (0:Int) a18)++([(⟨0,0⟩:Wide)]:List Wide))++(sub a5.2 a18 (a5.2.length:Int))))]⟩ [83] [83,86] [],.a [90] []] [8,9,11,12,33,34,35] [11,71,83,1004] (tN 2 (ai hc33 (tN 3 (ai hc36 (z00 1))))) (.m ?_ (.a (.a (.a (.m ?_ (.a (.m ?_ (.m ?_ (.a (.a (.a (.m ?_ (.a .z))))))))))))) ?_
        · exact DOk.one fun r _=>One.build0 (e:=109) (es:=2) rfl (by kernel_rfl) rfl rfl (by kernel_rfl) rfl
        · exact DOk.one fun r hr=>One.append0 (e:=109) (es:=2) (m:=(sub a5.2 (0:Int) a18).length) (get:=fun i=>z12 ((sub a5.2 (0:Int) a18).getD i default)) rfl (by kernel_rfl) rfl rfl (St.noRef_app (by kernel_rfl) (hr 83 (by simp))) (.of 109 16 [.d (dI 0),.d (dU 0)] (by kernel_rfl) (by kernel_rfl) (by kernel_rfl) (by kernel_rfl) rfl (by kernel_rfl) rfl) rfl rfl (.subO (z12) rfl hc33.1 hc33.2.1 hc33.2.2) hc34
        · exact DOk.one fun r hr=>One.buildT (e:=109) (es:=2) (z:=[.d (dI 0),.d (dU 0)]) (cells:=[.d (dI 0),.d (dU 0)]) (z12) ([(⟨0,0⟩:Wide)]:List Wide) rfl (by kernel_rfl) rfl rfl (St.noRef_app (by kernel_rfl) (hr 85 (by simp))) (by kernel_rfl) rfl (by kernel_rfl) rfl rfl rfl (by kernel_rfl) rfl ⟨⟨rfl,.refl _⟩,trivial⟩
        · exact DOk.drop (k:=83) (d:=86) (v:=vL 2 z12 ((sub a5.2 (0:Int) a18)++([(⟨0,0⟩:Wide)]:List Wide))) (av:=.c (oC 83 2 ((sub a5.2 (0:Int) a18)++([(⟨0,0⟩:Wide)]:List Wide)))) rfl (fun r hr=>One.appendT (e:=109) (es:=2) (z12) (sub a5.2 (0:Int) a18) ([(⟨0,0⟩:Wide)]:List Wide) rfl rfl (by kernel_rfl) rfl rfl (.of 109 16 [.d (dI 0),.d (dU 0)] (by kernel_rfl) (by kernel_rfl) (by kernel_rfl) (by kernel_rfl) rfl (by kernel_rfl) rfl) rfl rfl rfl (.own rfl (by simp) rfl (ze9 (z12) ([(⟨0,0⟩:Wide)]:List Wide) _)) hc35) (by kernel_rfl) (by kernel_rfl) (by kernel_rfl) (by kernel_rfl)
        · exact DOk.drop (k:=83) (d:=90) (v:=vL 2 z12 (((sub a5.2 (0:Int) a18)++([(⟨0,0⟩:Wide)]:List Wide))++(sub a5.2 a18 (a5.2.length:Int)))) (av:=.c (oC 83 2 (((sub a5.2 (0:Int) a18)++([(⟨0,0⟩:Wide)]:List Wide))++(sub a5.2 a18 (a5.2.length:Int))))) rfl (fun r hr=>One.appendT (e:=109) (es:=2) (z12) ((sub a5.2 (0:Int) a18)++([(⟨0,0⟩:Wide)]:List Wide)) (sub a5.2 a18 (a5.2.length:Int)) rfl rfl (by kernel_rfl) rfl rfl (.of 109 16 [.d (dI 0),.d (dU 0)] (by kernel_rfl) (by kernel_rfl) (by kernel_rfl) (by kernel_rfl) rfl (by kernel_rfl) rfl) rfl rfl rfl (.subO (z12) rfl hc36.1 hc36.2.1 hc36.2.2) hc37) (by kernel_rfl) (by kernel_rfl) (by kernel_rfl) (by kernel_rfl)
        exact ⟨_,h,kr⟩
       ·refine Tri.keep [8,9,11,12,33,34,35] [11,1004,1008,1009] (s':=⟨[(8,.c (oC 1008 6 a5.1)),(9,.c (oC 1009 2 a5.2)),(11,.c (.ptr 11 0)),(12,cD (dI a18)),(33,.c (oC 1004 6 a3)),(34,cD (dI (a3.length:Int))),(35,cD (dI ((i4:Nat):Int)))],[(11,.box (cUpdate (a3.getD (0 + i4) default))),(1004,vL 6 z01 a3),(1008,vL 6 z01 a5.1),(1009,vL 2 z12 a5.2)]⟩) (by kernel_rfl) ?_
        refine Tri.rename 1008 71 ⟨[(8,.c (oC 71 6 a5.1)),(9,.c (oC 1009 2 a5.2)),(11,.c (.ptr 11 0)),(12,cD (dI a18)),(33,.c (oC 1004 6 a3)),(34,cD (dI (a3.length:Int))),(35,cD (dI ((i4:Nat):Int)))],[(11,.box (cUpdate (a3.getD (0 + i4) default))),(1004,vL 6 z01 a3),(71,vL 6 z01 a5.1),(1009,vL 2 z12 a5.2)]⟩ (by kernel_rfl) rfl rfl rfl ?_
        refine Tri.keep [8,9,11,12,33,34,35] [11,1004,71,1009] (s':=⟨[(8,.c (oC 71 6 a5.1)),(9,.c (oC 1009 2 a5.2)),(11,.c (.ptr 11 0)),(12,cD (dI a18)),(33,.c (oC 1004 6 a3)),(34,cD (dI (a3.length:Int))),(35,cD (dI ((i4:Nat):Int)))],[(11,.box (cUpdate (a3.getD (0 + i4) default))),(1004,vL 6 z01 a3),(71,vL 6 z01 a5.1),(1009,vL 2 z12 a5.2)]⟩) (by kernel_rfl) ?_
        refine Tri.rename 1009 83 ⟨[(8,.c (oC 71 6 a5.1)),(9,.c (oC 83 2 a5.2)),(11,.c (.ptr 11 0)),(12,cD (dI a18)),(33,.c (oC 1004 6 a3)),(34,cD (dI (a3.length:Int))),(35,cD (dI ((i4:Nat):Int)))],[(11,.box (cUpdate (a3.getD (0 + i4) default))),(1004,vL 6 z01 a3),(71,vL 6 z01 a5.1),(83,vL 2 z12 a5.2)]⟩ (by kernel_rfl) rfl rfl rfl ?_
        refine Tri.kp [8,9,11,12,33,34,35] [11,71,83,1004] ?_
        refine Tri.skip ?_
        exact ⟨_,h,kr⟩
      ·rcases z1f h with ⟨hp38,h⟩ | ⟨hp38,h⟩
       ·refine Tri.dC [.a [12] [],.a [8] [],.a [55] [1008],.a [54,56] [],.m ⟨[(57,cD (.bool (decide (a18=(a5.1.length:Int)))))],[]⟩ ⟨[(58,.c (.d (.bool true)))],[]⟩ [] [] [],.a [8,58] [],.a [12,58] [],.a [58,59,60] [],.a [58,61] [],.a [11,58] [11],.a [58,62,63] [],.a [58,64] [],.a [58,65] []] [8,9,11,12,33,34,35,66] [11,1004,1008,1009] (z00 5) (.a (.a (.a (.a (.m ?_ (.a (.a (.a (.a (.a (.a (.a (.a .z))))))))))))) ?_
        · exact DOk.stepP (fun b => .val (.c (.d (.bool b))) (True)) (p:=(decide (a18=(a5.1.length:Int)))) hp38 (fun r=>by kernel_rfl) (fun r=>by kernel_rfl) trivial (by kernel_rfl) (by kernel_rfl) (fun r=>rfl)
        exact ⟨_,h,kr⟩
       ·obtain ⟨hc39,h⟩:=z03 h
        obtain ⟨hc40,h⟩:=z03 h
        obtain ⟨r41,hr41,h⟩:=z04 h
        refine Tri.dC [.a [12] [],.a [8] [],.a [55] [1008],.a [54,56] [],.m ⟨[(57,cD (.bool (decide (a18=(a5.1.length:Int)))))],[]⟩ ⟨[(58,.c (.d (.bool false)))],[]⟩ [] [] [],.a [8,58] [],.a [12,58] [],.a [58,59,60] [1008],.a [58,61] [1008],.a [11,58] [11],.m ⟨[(58,cD (.bool false)),(62,.agg (cUpdate (a5.1.getD (0 + a18.toNat) default))),(63,.agg (cUpdate (a3.getD (0 + i4) default)))],[]⟩ ⟨[(64,cD (dI r41))],[]⟩ [] [] [],.a [58,64] [],.a [58,65] []] [8,9,11,12,33,34,35,66] [11,1004,1008,1009] (tN 6 (ai hc39 (ai hc40 (z00 3)))) (.a (.a (.a (.a (.m ?_ (.a (.a (.a (.a (.a (.m ?_ (.a (.a .z))))))))))))) ?_
        · exact DOk.stepP (fun b => .val (.c (.d (.bool b))) (True)) (p:=(decide (a18=(a5.1.length:Int)))) hp38 (fun r=>by kernel_rfl) (fun r=>by kernel_rfl) trivial (by kernel_rfl) (by kernel_rfl) (fun r=>rfl)
        · exact DOk.cA [] [.agg (cUpdate (a5.1.getD (0 + a18.toNat) default)),.agg (cUpdate (a3.getD (0 + i4) default))] (z67 hr41) fun r=>(.cons (.refl _) (.cons (.refl _) .nil))
        exact ⟨_,h,kr⟩
    · exact fun x=>x.elim
   ·intro a6 h
    refine Tri.sg [8,9,13] [1008,1009] (z00 1) ?_
    refine Tri.seqS ?_
    refine Tri.segL [9,13,102,103,104] [1008,1009] ⟨[(9,.c (oC 1009 2 a6.2)),(13,.c (.zero)),(102,.c (oC 1008 6 a6.1)),(103,cD (dI (a6.1.length:Int))),(104,cD (dI 0))],[(1008,vL 6 z01 a6.1),(1009,vL 2 z12 a6.2)]⟩ _ (by kernel_rfl) (z00 3) ?_
    refine Tri.lenOfO (t:=102) rfl rfl (Nat.le_refl _) fun hlena8 => ?_
    refine Tri.newOwn (t:=13) (k:=1013) (es:=6) (fun i=>z01 (([]:List Update).getD i default)) rfl rfl rfl ?_
    refine Tri.rK 104 ([]:List Update) (fun (x:(List Update) × Int) s=>RetAt Tryz.prog Tryz.f43 (.tup [(false,[.d (lD 6 z01 x.1)]),(false,[.d (dI x.2)])]) [] s) (fun (a8:List Update)=>⟨[(9,.c (oC 1009 2 a6.2)),(13,.c (oC 1013 6 a8)),(102,.c (oC 1008 6 a6.1)),(103,cD (dI (a6.1.length:Int)))],[(1008,vL 6 z01 a6.1),(1009,vL 2 z12 a6.2),(1013,vL 6 z01 a8)]⟩) [104,9,13,102,103] [1008,1009,1013] [105,104,9,13,102,103] [1008,1009,1013] [9,13,102,103] [1008,1009,1013] [104,9,13,102,103] [1008,1009,1013] h hlena8 ?_ ?_ ?_
    ·intro i7 a8 c hii7 h
     obtain ⟨hc11,h⟩:=z03 h
     refine Tri.sg [9,13,14,15,102,103,104] [15,1008,1009,1013] (tN 1 (ai (show ((0:Int)≤((i7:Nat):Int)∧((i7:Nat):Int) < (a6.1.length:Int)) from ⟨by omega,by omega⟩) (ai hc11 (z00 3)))) ?_
     refine Tri.seqS ?_
     refine Tri.reg ?_
     obtain ⟨hc12,h⟩:=z03 h
     obtain ⟨hc13,h⟩:=z03 h
     refine At.sg 4 [9,13,15,102,103,104,113] [15,1008,1009,1013] (tN 2 (ai hc12 (ai hc13 trivial))) ?_
     obtain ⟨r14,hr14,h⟩:=z04 h
     refine At.cA [] [.agg (cWide (a6.2.getD (0 + i7) default))] (z8o hr14) (.cons (.refl _) .nil) ?_
     refine At.sg 5 [9,13,15,16,17,102,103,104] [15,1008,1009,1013] (z00 5) ?_
     refine At.done rfl ?_
     refine Tri.seqS ?_
     refine Tri.sg [9,13,15,16,17,102,103,104,118] [15,1008,1009,1013] (z00 2) ?_
     refine Tri.condK h (fun h => ?_) (fun h => ?_)
     ·refine Tri.sg [2,3] [] (z00 3) ?_
      refine Tri.keep [2,3] [] (s':=⟨[(2,.c (.zero)),(3,cD (dI r14.2))],[]⟩) (by kernel_rfl) ?_
      refine Tri.le [] (fun k hk=>by cases hk) ⟨[(2,cD (lD 6 z01 ([]:List Update))),(3,cD (dI r14.2))],[]⟩ ⟨⟨_,rfl,.c (.zero _ _)⟩,⟨_,rfl,.refl _⟩,trivial⟩ trivial ?_
      refine Tri.ret ?_
      cases h
      exact RetAt.k
     ·refine Tri.skip ?_
      refine Tri.sg [9,13,15,16,102,103,104] [15,1008,1009,1013] (z00 3) ?_
      refine Tri.sg [9,13,15,102,103,104,123] [15,1008,1009,1013] (z00 2) ?_
      refine Tri.condK h (fun h => ?_) (fun h => ?_)
      ·refine Tri.reg ?_
       refine At.seg 2 [9,102,103,104,124,125] [1008,1009,1013] (s':=⟨[(9,.c (oC 1009 2 a6.2)),(102,.c (oC 1008 6 a6.1)),(103,cD (dI (a6.1.length:Int))),(104,cD (dI ((i7:Nat):Int))),(124,.c (oC 1013 6 a8)),(125,.agg [.d (lD 3 z05 ((a6.1.getD (0 + i7) default).key)),.d (lD 3 z05 ((a6.1.getD (0 + i7) default).row)),.d (dU ((a6.1.getD (0 + i7) default).time.epoch)),.d (dU ((a6.1.getD (0 + i7) default).time.loop.1)),.d (dU ((a6.1.getD (0 + i7) default).time.loop.2)),.d (dI r14.1)])],[(1008,vL 6 z01 a6.1),(1009,vL 2 z12 a6.2),(1013,vL 6 z01 a8)]⟩) (by kernel_rfl) (z00 2) ?_
       refine At.one rfl (One.buildSlice (z:=[.zero,.zero,.d (dU 0),.d (dU 0),.d (dU 0),.d (dI 0)]) (cells:=[.d (lD 3 z05 ((a6.1.getD (0 + i7) default).key)),.d (lD 3 z05 ((a6.1.getD (0 + i7) default).row)),.d (dU ((a6.1.getD (0 + i7) default).time.epoch)),.d (dU ((a6.1.getD (0 + i7) default).time.loop.1)),.d (dU ((a6.1.getD (0 + i7) default).time.loop.2)),.d (dI r14.1)]) (xs:=List.map (z01) ([(⟨(a6.1.getD (0 + i7) default).key,(a6.1.getD (0 + i7) default).row,(a6.1.getD (0 + i7) default).time,r14.1⟩:Update)]:List Update)) rfl rfl rfl rfl (by kernel_rfl) rfl rfl (by kernel_rfl) rfl rfl rfl (by kernel_rfl) rfl ⟨⟨rfl,.refl _⟩,trivial⟩) ?_
       refine At.le [126] (fun k hk h=>by first | (cases h; done) | (simp at hk h; omega)) ⟨[(126,cD (lD 6 z01 ([(⟨(a6.1.getD (0 + i7) default).key,(a6.1.getD (0 + i7) default).row,(a6.1.getD (0 + i7) default).time,r14.1⟩:Update)]:List Update))),(9,.c (oC 1009 2 a6.2)),(102,.c (oC 1008 6 a6.1)),(103,cD (dI (a6.1.length:Int))),(104,cD (dI ((i7:Nat):Int))),(124,.c (oC 1013 6 a8)),(125,.agg [.d (lD 3 z05 ((a6.1.getD (0 + i7) default).key)),.d (lD 3 z05 ((a6.1.getD (0 + i7) default).row)),.d (dU ((a6.1.getD (0 + i7) default).time.epoch)),.d (dU ((a6.1.getD (0 + i7) default).time.loop.1)),.d (dU ((a6.1.getD (0 + i7) default).time.loop.2)),.d (dI r14.1)])],[(1008,vL 6 z01 a6.1),(1009,vL 2 z12 a6.2),(1013,vL 6 z01 a8)]⟩ ⟨⟨_,rfl,.c (.own rfl (List.mem_singleton.2 rfl) (Nat.le_of_ble_eq_true rfl) rfl (z1z (z01) ([(⟨(a6.1.getD (0 + i7) default).key,(a6.1.getD (0 + i7) default).row,(a6.1.getD (0 + i7) default).time,r14.1⟩:Update)]:List Update)))⟩,⟨_,rfl,.refl _⟩,⟨_,rfl,.refl _⟩,⟨_,rfl,.refl _⟩,⟨_,rfl,.refl _⟩,⟨_,rfl,.refl _⟩,⟨_,rfl,.refl _⟩,trivial⟩ ⟨⟨_,rfl,.refl _,(by simp)⟩,⟨_,rfl,.refl _,(by simp)⟩,⟨_,rfl,.refl _,(by simp)⟩,trivial⟩ ?_
       obtain ⟨hc15,h⟩:=z03 h
       refine At.one rfl (One.appendT (e:=56) (es:=6) (z01) a8 ([(⟨(a6.1.getD (0 + i7) default).key,(a6.1.getD (0 + i7) default).row,(a6.1.getD (0 + i7) default).time,r14.1⟩:Update)]:List Update) rfl rfl rfl rfl rfl (.of 56 80 [.zero,.zero,.d (dU 0),.d (dU 0),.d (dU 0),.d (dI 0)] (by kernel_rfl) (by kernel_rfl) (by kernel_rfl) (by kernel_rfl) rfl (by kernel_rfl) rfl) rfl rfl rfl (.list rfl (fun _ _=>rfl)) hc15) ?_
       refine At.sg 1 [104,9,13,102,103] [1008,1009,1013] (z00 1) ?_
       refine At.done rfl ?_
       cases h
       exact kr
      ·refine Tri.kp [104,9,13,102,103] [1008,1009,1013] ?_
       refine Tri.skip ?_
       cases h
       exact kr
    ·intro a9 h
     refine Tri.seqS ?_
     refine Tri.reg ?_
     refine At.seg 1 [129] [1013] (s':=⟨[(129,.c (oC 1013 6 a9))],[(1013,vL 6 z01 a9)]⟩) (by kernel_rfl) (z00 1) ?_
     obtain ⟨r10,hr10,h⟩:=z04 h
     refine At.cA [] [.c (oC 1013 6 a9)] (zbq hr10) (.cons (AVArg.view (z01) a9 rfl) .nil) ?_
     refine At.sg 2 [2,3] [] (z00 2) ?_
     refine At.done rfl ?_
     refine Tri.ret ?_
     cases h
     exact RetAt.k
    · exact fun x s hx hr=>by cases hx; exact hr
   · exact fun x=>x.elim
  · exact fun x s hx hr=>by cases hx; exact hr
theorem zd6 {fuel:Nat} {p0:List Time} {p1:List (List Update)} {q:Batch × Int} (h:z4x fuel p0 p1=some q) :
    Summ Tryz.prog 12 [cD (lD 3 z02 p0),cD (lD 1 (fun xs=>[encL 6 z01 xs]) p1)] [] (.tup [(true,[.d (lD 3 z02 q.1.since),.d (lD 6 z01 q.1.updates)]),(false,[.d (dI q.2)])]) []:=by
  refine Summ.intro Tryz.func12 rfl (by kernel_rfl) (by kernel_rfl) [] rfl ?_
  rintro ⟨P,w0,G0,V,LL,lk,N, φ0,fx⟩ rfl rfl rfl rfl
  unfold z4x at h
  refine Tri.sg [0,1,4] [4] (z00 2) ?_
  refine Tri.seqS ?_
  refine Tri.seqS ?_
  refine Tri.reg ?_
  refine At.sg 1 [0,1,4,12] [4] (z00 1) ?_
  obtain ⟨r1,hr1,h⟩:=z04 h
  refine At.cA [] [cD (lD 3 z02 p0)] (z8x hr1) (.cons (.refl _) .nil) ?_
  refine At.sg 1 [0,1,4,14] [4] (z00 1) ?_
  refine At.done rfl ?_
  refine Tri.condK h (fun h => ?_) (fun h => ?_)
  ·refine Tri.sg [4,5] [4] (z00 3) ?_
   refine Tri.keep [4,5] [4] (s':=⟨[(4,.c (.ptr 4 0)),(5,cD (dI 4))],[(4,.box [.zero,.zero])]⟩) (by kernel_rfl) ?_
   refine Tri.le [] (fun k hk=>by cases hk) ⟨[(4,.c (.ptr 4 0)),(5,cD (dI 4))],[(4,.box [.d (lD 3 z02 ([]:List Time)),.d (lD 6 z01 ([]:List Update))])]⟩ ⟨⟨_,rfl,.refl _⟩,⟨_,rfl,.refl _⟩,trivial⟩ ⟨⟨_,rfl,.box (.cons (.zero _ _) (.cons (.zero _ _) .nil)),(by simp)⟩,trivial⟩ ?_
   refine Tri.ret ?_
   cases h
   exact RetAt.k
  ·refine Tri.skip ?_
   refine Tri.sg [0,1,4,6] [4] (z00 1) ?_
   refine Tri.seqS ?_
   refine Tri.segL [0,4,6,16,17,18] [4] ⟨[(0,cD (lD 3 z02 p0)),(4,.c (.ptr 4 0)),(6,.c (.zero)),(16,cD (lD 1 (fun xs=>[encL 6 z01 xs]) p1)),(17,cD (dI (p1.length:Int))),(18,cD (dI 0))],[(4,.box [.zero,.zero])]⟩ _ (by kernel_rfl) (z00 3) ?_
   refine Tri.ln 16 p1.length fun hlena3 => ?_
   refine Tri.newOwn (t:=6) (k:=1006) (es:=6) (fun i=>z01 (([]:List Update).getD i default)) rfl rfl rfl ?_
   refine Tri.rK 18 ([]:List Update) (fun (x:Batch × Int) s=>RetAt Tryz.prog Tryz.f12 (.tup [(true,[.d (lD 3 z02 x.1.since),.d (lD 6 z01 x.1.updates)]),(false,[.d (dI x.2)])]) [] s) (fun (a3:List Update)=>⟨[(0,cD (lD 3 z02 p0)),(4,.c (.ptr 4 0)),(6,.c (oC 1006 6 a3)),(16,cD (lD 1 (fun xs=>[encL 6 z01 xs]) p1)),(17,cD (dI (p1.length:Int)))],[(4,.box [.zero,.zero]),(1006,vL 6 z01 a3)]⟩) [18,0,4,6,16,17] [4,1006] [19,18,0,4,6,16,17] [4,1006] [0,4,6,16,17] [4,1006] [18,0,4,6,16,17] [4,1006] h hlena3 ?_ ?_ ?_
   ·intro i2 a3 c hii2 h
    refine Tri.sg [0,4,6,8,16,17,18] [4,1006] (ai (show ((0:Int)≤((i2:Nat):Int)∧((i2:Nat):Int) < (p1.length:Int)) from ⟨by omega,by omega⟩) (z00 2)) ?_
    refine Tri.seqS ?_
    refine Tri.reg ?_
    refine At.sg 1 [0,4,6,8,16,17,18,22] [4,1006] (z00 1) ?_
    obtain ⟨r8,hr8,h⟩:=z04 h
    refine At.cA [] [cD (lD 6 z01 (p1.getD i2 default))] (z73 hr8) (.cons (.refl _) .nil) ?_
    refine At.sg 1 [0,4,6,8,9,16,17,18] [4,1006] (z00 1) ?_
    refine At.done rfl ?_
    refine Tri.seqS ?_
    refine Tri.sg [0,4,6,8,9,16,17,18,25] [4,1006] (z00 2) ?_
    refine Tri.condK h (fun h => ?_) (fun h => ?_)
    ·refine Tri.sg [4,5] [4] (z00 4) ?_
     refine Tri.keep [4,5] [4] (s':=⟨[(4,.c (.ptr 4 0)),(5,cD (dI r8))],[(4,.box [.zero,.zero])]⟩) (by kernel_rfl) ?_
     refine Tri.le [] (fun k hk=>by cases hk) ⟨[(4,.c (.ptr 4 0)),(5,cD (dI r8))],[(4,.box [.d (lD 3 z02 ([]:List Time)),.d (lD 6 z01 ([]:List Update))])]⟩ ⟨⟨_,rfl,.refl _⟩,⟨_,rfl,.refl _⟩,trivial⟩ ⟨⟨_,rfl,.box (.cons (.zero _ _) (.cons (.zero _ _) .nil)),(by simp)⟩,trivial⟩ ?_
     refine Tri.ret ?_
     cases h
     exact RetAt.k
    ·refine Tri.skip ?_
     refine Tri.reg ?_
     refine At.seg 2 [0,4,16,17,18,28,29] [4,1006] (s':=⟨[(0,cD (lD 3 z02 p0)),(4,.c (.ptr 4 0)),(16,cD (lD 1 (fun xs=>[encL 6 z01 xs]) p1)),(17,cD (dI (p1.length:Int))),(18,cD (dI ((i2:Nat):Int))),(28,.c (oC 1006 6 a3)),(29,cD (lD 6 z01 (p1.getD i2 default)))],[(4,.box [.zero,.zero]),(1006,vL 6 z01 a3)]⟩) (by kernel_rfl) (z00 2) ?_
     obtain ⟨hc9,h⟩:=z03 h
     refine At.one rfl (One.appendT (e:=56) (es:=6) (z01) a3 (p1.getD i2 default) rfl rfl rfl rfl rfl (.of 56 80 [.zero,.zero,.d (dU 0),.d (dU 0),.d (dU 0),.d (dI 0)] (by kernel_rfl) (by kernel_rfl) (by kernel_rfl) (by kernel_rfl) rfl (by kernel_rfl) rfl) rfl rfl rfl (.list rfl (fun _ _=>rfl)) hc9) ?_
     refine At.sg 1 [18,0,4,6,16,17] [4,1006] (z00 1) ?_
     refine At.done rfl ?_
     cases h
     exact kr
   ·intro a4 h
    refine Tri.seqS ?_
    refine Tri.reg ?_
    refine At.seg 2 [0,4,33,34] [4,1006] (s':=⟨[(0,cD (lD 3 z02 p0)),(4,.c (.ptr 4 0)),(33,.c (oC 1006 6 a4)),(34,cD (lD 3 z02 p0))],[(4,.box [.zero,.zero]),(1006,vL 6 z01 a4)]⟩) (by kernel_rfl) (z00 2) ?_
    obtain ⟨r5,hr5,h⟩:=z04 h
    refine At.cA [] [.c (oC 1006 6 a4),cD (lD 3 z02 p0)] (zah hr5) (.cons (AVArg.view (z01) a4 rfl) (.cons (.refl _) .nil)) ?_
    refine At.one rfl (One.buildSlice (z:=[.zero]) (cells:=[.d (lD 6 z01 r5)]) (xs:=List.map ((fun xs=>[encL 6 z01 xs])) ([r5]:List (List Update))) rfl rfl rfl rfl (by kernel_rfl) rfl rfl (by kernel_rfl) rfl rfl rfl (by kernel_rfl) rfl ⟨⟨rfl,.refl _⟩,trivial⟩) ?_
    refine At.le [36] (fun k hk h=>by first | (cases h; done) | (simp at hk h; omega)) ⟨[(36,cD (lD 1 (fun xs=>[encL 6 z01 xs]) ([r5]:List (List Update)))),(0,cD (lD 3 z02 p0)),(4,.c (.ptr 4 0)),(35,cD (lD 6 z01 r5))],[(4,.box [.zero,.zero])]⟩ ⟨⟨_,rfl,.c (.own rfl (List.mem_singleton.2 rfl) (Nat.le_of_ble_eq_true rfl) rfl (z1z ((fun xs=>[encL 6 z01 xs])) ([r5]:List (List Update))))⟩,⟨_,rfl,.refl _⟩,⟨_,rfl,.refl _⟩,⟨_,rfl,.refl _⟩,trivial⟩ ⟨⟨_,rfl,.refl _,(by simp)⟩,trivial⟩ ?_
    obtain ⟨r6,hr6,h⟩:=z04 h
    refine At.cA [] [cD (lD 1 (fun xs=>[encL 6 z01 xs]) ([r5]:List (List Update)))] (z9z hr6) (.cons (.refl _) .nil) ?_
    refine At.sg 5 [0,4,10,11] [4] (z00 5) ?_
    refine At.done rfl ?_
    refine Tri.seqS ?_
    refine Tri.segL [0,4,10,11,41] [4] ⟨[(0,cD (lD 3 z02 p0)),(4,.c (.ptr 4 0)),(10,cD (lD 6 z01 r6.1)),(11,cD (dI r6.2)),(41,cD (.bool (!decide (r6.2=0))))],[(4,.box [.zero,.zero])]⟩ _ (by kernel_rfl) (z00 2) ?_
    refine Tri.condK h (fun h => ?_) (fun h => ?_)
    ·refine Tri.sg [4,5] [4] (z00 4) ?_
     refine Tri.keep [4,5] [4] (s':=⟨[(4,.c (.ptr 4 0)),(5,cD (dI r6.2))],[(4,.box [.zero,.zero])]⟩) (by kernel_rfl) ?_
     refine Tri.le [] (fun k hk=>by cases hk) ⟨[(4,.c (.ptr 4 0)),(5,cD (dI r6.2))],[(4,.box [.d (lD 3 z02 ([]:List Time)),.d (lD 6 z01 ([]:List Update))])]⟩ ⟨⟨_,rfl,.refl _⟩,⟨_,rfl,.refl _⟩,trivial⟩ ⟨⟨_,rfl,.box (.cons (.zero _ _) (.cons (.zero _ _) .nil)),(by simp)⟩,trivial⟩ ?_
     refine Tri.ret ?_
     cases h
     exact RetAt.k
    ·refine Tri.skip ?_
     refine Tri.seqS ?_
     refine Tri.reg ?_
     refine At.one rfl (One.build0 (e:=54) (es:=3) rfl rfl rfl rfl (by kernel_rfl) rfl) ?_
     refine At.seg 1 [4,10,44,45] [4] (s':=⟨[(4,.c (.ptr 4 0)),(10,cD (lD 6 z01 r6.1)),(44,.c (.zero)),(45,cD (lD 3 z02 p0))],[(4,.box [.zero,.zero])]⟩) (by kernel_rfl) (z00 1) ?_
     obtain ⟨hc7,h⟩:=z03 h
     refine At.one rfl (One.append0 (e:=54) (es:=3) (m:=p0.length) (get:=fun i=>z02 (p0.getD i default)) rfl rfl rfl rfl (by kernel_rfl) (.of 54 24 [.d (dU 0),.d (dU 0),.d (dU 0)] (by kernel_rfl) (by kernel_rfl) (by kernel_rfl) (by kernel_rfl) rfl (by kernel_rfl) rfl) rfl rfl (.list rfl (fun _ _=>rfl)) hc7) ?_
     refine At.sg 4 [4,5] [4,46] (z00 4) ?_
     refine At.done rfl ?_
     refine Tri.keep [4,5] [4,46] (s':=⟨[(4,.c (.ptr 4 0)),(5,cD (dI 0))],[(4,.box [oC 46 3 p0,.d (lD 6 z01 r6.1)]),(46,vL 3 z02 p0)]⟩) (by kernel_rfl) ?_
     refine Tri.le [46] (fun k hk h=>by first | (cases h; done) | (simp at hk h; omega)) ⟨[(4,.c (.ptr 4 0)),(5,cD (dI 0))],[(4,.box [.d (lD 3 z02 p0),.d (lD 6 z01 r6.1)])]⟩ ⟨⟨_,rfl,.refl _⟩,⟨_,rfl,.refl _⟩,trivial⟩ ⟨⟨_,rfl,.box (.cons (CLe.frozen (z02) p0 rfl (by simp)) (.cons (.refl _) .nil)),(by simp)⟩,trivial⟩ ?_
     refine Tri.ret ?_
     cases h
     exact RetAt.k
   · exact fun x s hx hr=>by cases hx; exact hr
theorem zcf {p0:List Time} {p1:Time} {q:Bool} (h:z4q p0 p1=some q) :
    Summ Tryz.prog 52 [cD (lD 3 z02 p0),.agg (cTime p1)] [] (cD (.bool q)) []:=by
  refine Summ.intro Tryz.func52 rfl (by kernel_rfl) (by kernel_rfl) [] rfl ?_
  rintro ⟨P,w0,G0,V,LL,lk,N, φ0,fx⟩ rfl rfl rfl rfl
  unfold z4q at h
  refine Tri.sg [0,3] [3] (z00 2) ?_
  refine Tri.seqS ?_
  refine Tri.sg [3,7,8,9] [3] (z00 3) ?_
  refine Tri.ln 7 p0.length fun hlena2 => ?_
  refine Tri.rK 9 () (fun (x:Bool) s=>RetAt Tryz.prog Tryz.f52 (cD (.bool x)) [] s) (fun (a2:Unit)=>⟨[(3,.c (.ptr 3 0)),(7,cD (lD 3 z02 p0)),(8,cD (dI (p0.length:Int)))],[(3,.box (cTime p1))]⟩) [9,3,7,8] [3] [10,9,3,7,8] [3] [3,7,8] [3] [9,3,7,8] [3] h hlena2 ?_ ?_ ?_
  ·intro i1 a2 c hii1 h
   refine Tri.sg [3,6,7,8,9] [3,6] (ai (show ((0:Int)≤((i1:Nat):Int)∧((i1:Nat):Int) < (p0.length:Int)) from ⟨by omega,by omega⟩) (z00 3)) ?_
   refine Tri.seqS ?_
   refine Tri.reg ?_
   refine At.sg 2 [3,7,8,9,13,14] [3] (z00 2) ?_
   obtain ⟨r4,hr4,h⟩:=z04 h
   refine At.cA [] [.agg (cTime (p0.getD i1 default)),.agg (cTime p1)] (z8v hr4) (.cons (.refl _) (.cons (.refl _) .nil)) ?_
   refine At.done rfl ?_
   refine Tri.condK h (fun h => ?_) (fun h => ?_)
   ·refine Tri.sg [4] [] (z00 1) ?_
    refine Tri.ret ?_
    cases h
    exact RetAt.k
   ·refine Tri.kp [9,3,7,8] [3] ?_
    refine Tri.skip ?_
    cases h
    exact kr
  ·intro a3 h
   refine Tri.sg [4] [] (z00 1) ?_
   refine Tri.ret ?_
   cases h
   exact RetAt.k
  · exact fun x s hx hr=>by cases hx; exact hr
theorem zcy {p0:List Time} {p1:List Time} {q:Bool} (h:z55 p0 p1=some q) :
    Summ Tryz.prog 18 [cD (lD 3 z02 p0),cD (lD 3 z02 p1)] [] (cD (.bool q)) []:=by
  refine Summ.intro Tryz.func18 rfl (by kernel_rfl) (by kernel_rfl) [] rfl ?_
  rintro ⟨P,w0,G0,V,LL,lk,N, φ0,fx⟩ rfl rfl rfl rfl
  unfold z55 at h
  refine Tri.sg [0,1] [] (z00 1) ?_
  refine Tri.seqS ?_
  refine Tri.sg [0,1,9] [] (z00 3) ?_
  refine Tri.condK h (fun h => ?_) (fun h => ?_)
  ·refine Tri.sg [4] [] (z00 1) ?_
   refine Tri.ret ?_
   cases h
   exact RetAt.k
  ·refine Tri.skip ?_
   refine Tri.seqS ?_
   refine Tri.sg [0,1,10,11,12] [] (z00 3) ?_
   refine Tri.ln 10 p0.length fun hlena2 => ?_
   refine Tri.rK 12 () (fun (x:Bool) s=>RetAt Tryz.prog Tryz.f18 (cD (.bool x)) [] s) (fun (a2:Unit)=>⟨[(0,cD (lD 3 z02 p0)),(1,cD (lD 3 z02 p1)),(10,cD (lD 3 z02 p0)),(11,cD (dI (p0.length:Int)))],[]⟩) [12,0,1,10,11] [] [13,12,0,1,10,11] [] [0,1,10,11] [] [12,0,1,10,11] [] h hlena2 ?_ ?_ ?_
   ·intro i1 a2 c hii1 h
    refine Tri.sg [0,1,6,10,11,12] [6] (ai (show ((0:Int)≤((i1:Nat):Int)∧((i1:Nat):Int) < (p0.length:Int)) from ⟨by omega,by omega⟩) (z00 3)) ?_
    refine Tri.seqS ?_
    refine Tri.reg ?_
    refine At.sg 2 [0,1,10,11,12,16,17] [] (z00 2) ?_
    obtain ⟨r4,hr4,h⟩:=z04 h
    refine At.cA [] [cD (lD 3 z02 p1),.agg (cTime (p0.getD i1 default))] (zcf hr4) (.cons (.refl _) (.cons (.refl _) .nil)) ?_
    refine At.sg 1 [0,1,10,11,12,19] [] (z00 1) ?_
    refine At.done rfl ?_
    refine Tri.condK h (fun h => ?_) (fun h => ?_)
    ·refine Tri.sg [4] [] (z00 1) ?_
     refine Tri.ret ?_
     cases h
     exact RetAt.k
    ·refine Tri.kp [12,0,1,10,11] [] ?_
     refine Tri.skip ?_
     cases h
     exact kr
   ·intro a3 h
    refine Tri.sg [4] [] (z00 4) ?_
    refine Tri.ret ?_
    cases h
    exact RetAt.k
   · exact fun x s hx hr=>by cases hx; exact hr
theorem za1 {fuel:Nat} {p0:List Time} {p1:List (List Update)} {p2:Batch} {p3:List Time} {q:Bool} (h:z3g fuel p0 p1 p2 p3=some q) :
    Summ Tryz.prog 3 [cD (lD 3 z02 p0),cD (lD 1 (fun xs=>[encL 6 z01 xs]) p1),.agg (cBatch p2),cD (lD 3 z02 p3)] [] (cD (.bool q)) []:=by
  refine Summ.intro Tryz.func3 rfl (by kernel_rfl) (by kernel_rfl) [] rfl ?_
  rintro ⟨P,w0,G0,V,LL,lk,N, φ0,fx⟩ rfl rfl rfl rfl
  unfold z3g at h
  refine Tri.sg [0,1,3,6] [6] (z00 2) ?_
  refine Tri.seqS ?_
  refine Tri.reg ?_
  refine At.sg 2 [0,1,3,6,14,15] [6] (z00 2) ?_
  obtain ⟨r1,hr1,h⟩:=z04 h
  refine At.cA [] [cD (lD 3 z02 p0),cD (lD 1 (fun xs=>[encL 6 z01 xs]) p1)] (z9s hr1) (.cons (.refl _) (.cons (.refl _) .nil)) ?_
  refine At.sg 6 [0,1,3,6,9,10] [6,9] (z00 6) ?_
  refine At.done rfl ?_
  refine Tri.seqS ?_
  refine Tri.reg ?_
  refine At.sg 2 [0,3,6,9,10,20,21] [6,9] (z00 2) ?_
  obtain ⟨r2,hr2,h⟩:=z04 h
  refine At.cA [] [cD (lD 3 z02 p0),cD (lD 1 (fun xs=>[encL 6 z01 xs]) p1)] (zd6 hr2) (.cons (.refl _) (.cons (.refl _) .nil)) ?_
  refine At.seg 6 [0,3,6,9,10,11,12] [6,9,11] (s':=⟨[(0,cD (lD 3 z02 p0)),(3,cD (lD 3 z02 p3)),(6,.c (.ptr 6 0)),(9,.c (.ptr 9 0)),(10,cD (dI r1.2)),(11,.c (.ptr 11 0)),(12,cD (dI r2.2))],[(6,.box (cBatch p2)),(9,.box (cBatch r1.1)),(11,.box (cBatch r2.1))]⟩) (by kernel_rfl) (z00 6) ?_
  refine At.done rfl ?_
  refine Tri.seqJ (fun (a3:Bool)=>⟨[(8,cD (.bool a3))],[]⟩) h (fun a3 h => ?_) (fun j4 h => ?_)
  ·refine Tri.ret ?_
   cases h
   exact RetAt.k
  ·obtain ⟨r5,hr5,h⟩:=z04 h
   rcases z1f h with ⟨hp6,h⟩ | ⟨hp6,h⟩
   ·obtain ⟨r7,hr7,h⟩:=z04 h
    rcases z1f h with ⟨hp8,h⟩ | ⟨hp8,h⟩
    ·rcases z1f h with ⟨hp9,h⟩ | ⟨hp9,h⟩
     ·obtain ⟨r10,hr10,h⟩:=z04 h
      obtain ⟨r11,hr11,h⟩:=z04 h
      rcases z1f h with ⟨hp12,h⟩ | ⟨hp12,h⟩
      ·obtain ⟨r13,hr13,h⟩:=z04 h
       obtain ⟨r14,hr14,h⟩:=z04 h
       refine Tri.dC [.m ⟨[],[]⟩ ⟨[(25,cD (.bool r5))],[]⟩ [] [] [],.m ⟨[(25,cD (.bool r5))],[]⟩ ⟨[(26,.c (.d (.bool true)))],[]⟩ [] [] [],.a [9,26] [9],.a [11,26] [11],.m ⟨[(26,cD (.bool true)),(27,.agg (cBatch r1.1)),(28,.agg (cBatch r2.1))],[]⟩ ⟨[(29,cD (.bool r7))],[]⟩ [] [] [],.a [26,29] [],.m ⟨[(30,cD (.bool r7))],[]⟩ ⟨[(31,.c (.d (.bool true)))],[]⟩ [] [] [],.a [10,31] [],.a [12,31] [],.a [31,32,33] [],.a [31,34] [],.m ⟨[(35,cD (.bool (decide (r1.2=r2.2))))],[]⟩ ⟨[(36,.c (.d (.bool true)))],[]⟩ [] [] [],.a [6,36] [6],.m ⟨[(36,cD (.bool true)),(37,.agg (cBatch p2))],[]⟩ ⟨[(38,cD (dI r10))],[]⟩ [] [] [],.a [6,36] [6],.m ⟨[(36,cD (.bool true)),(39,.agg (cBatch p2))],[]⟩ ⟨[(40,cD (dI r11))],[]⟩ [] [] [],.a [36,38,40] [],.a [36,41] [],.m ⟨[(42,cD (.bool (decide (r10=r11))))],[]⟩ ⟨[(43,.c (.d (.bool true)))],[]⟩ [] [] [],.a [0,43] [],.a [3,43] [],.m ⟨[(43,cD (.bool true)),(44,cD (lD 3 z02 p0)),(45,cD (lD 3 z02 p3))],[]⟩ ⟨[(46,cD (.bool r13))],[]⟩ [] [] [],.a [0,43] [],.a [3,43] [],.m ⟨[(43,cD (.bool true)),(47,cD (lD 3 z02 p0)),(48,cD (lD 3 z02 p3))],[]⟩ ⟨[(49,cD (.bool r14))],[]⟩ [] [] [],.a [43,46,49] [],.a [43,50] [],.a [51] []] [8] [] (z00 18) (.m ?_ (.m ?_ (.a (.a (.m ?_ (.a (.m ?_ (.a (.a (.a (.a (.m ?_ (.a (.m ?_ (.a (.m ?_ (.a (.a (.m ?_ (.a (.a (.m ?_ (.a (.a (.m ?_ (.a (.a (.a .z)))))))))))))))))))))))))))) ?_
       · exact DOk.cA [] [] (z41 hr5) fun r => .nil
       · exact DOk.stepP (fun b => .val (.c (.d (.bool b))) (True)) (p:=r5) hp6 (fun r=>by kernel_rfl) (fun r=>by kernel_rfl) trivial (by kernel_rfl) (by kernel_rfl) (fun r=>rfl)
       · exact DOk.cA [] [.agg (cBatch r1.1),.agg (cBatch r2.1)] (z4b hr7) fun r=>(.cons (.refl _) (.cons (.refl _) .nil))
       · exact DOk.stepP (fun b => .val (.c (.d (.bool b))) (True)) (p:=r7) hp8 (fun r=>by kernel_rfl) (fun r=>by kernel_rfl) trivial (by kernel_rfl) (by kernel_rfl) (fun r=>rfl)
       · exact DOk.stepP (fun b => .val (.c (.d (.bool b))) (True)) (p:=(decide (r1.2=r2.2))) hp9 (fun r=>by kernel_rfl) (fun r=>by kernel_rfl) trivial (by kernel_rfl) (by kernel_rfl) (fun r=>rfl)
       · exact DOk.cA [] [.agg (cBatch p2)] (z86 hr10) fun r=>(.cons (.refl _) .nil)
       · exact DOk.cA [] [.agg (cBatch p2)] (z8u hr11) fun r=>(.cons (.refl _) .nil)
       · exact DOk.stepP (fun b => .val (.c (.d (.bool b))) (True)) (p:=(decide (r10=r11))) hp12 (fun r=>by kernel_rfl) (fun r=>by kernel_rfl) trivial (by kernel_rfl) (by kernel_rfl) (fun r=>rfl)
       · exact DOk.cA [] [cD (lD 3 z02 p0),cD (lD 3 z02 p3)] (z80 hr13) fun r=>(.cons (.refl _) (.cons (.refl _) .nil))
       · exact DOk.cA [] [cD (lD 3 z02 p0),cD (lD 3 z02 p3)] (zcy hr14) fun r=>(.cons (.refl _) (.cons (.refl _) .nil))
       exact ⟨_,h,kr⟩
      ·refine Tri.dC [.m ⟨[],[]⟩ ⟨[(25,cD (.bool r5))],[]⟩ [] [] [],.m ⟨[(25,cD (.bool r5))],[]⟩ ⟨[(26,.c (.d (.bool true)))],[]⟩ [] [] [],.a [9,26] [9],.a [11,26] [11],.m ⟨[(26,cD (.bool true)),(27,.agg (cBatch r1.1)),(28,.agg (cBatch r2.1))],[]⟩ ⟨[(29,cD (.bool r7))],[]⟩ [] [] [],.a [26,29] [],.m ⟨[(30,cD (.bool r7))],[]⟩ ⟨[(31,.c (.d (.bool true)))],[]⟩ [] [] [],.a [10,31] [],.a [12,31] [],.a [31,32,33] [],.a [31,34] [],.m ⟨[(35,cD (.bool (decide (r1.2=r2.2))))],[]⟩ ⟨[(36,.c (.d (.bool true)))],[]⟩ [] [] [],.a [6,36] [6],.m ⟨[(36,cD (.bool true)),(37,.agg (cBatch p2))],[]⟩ ⟨[(38,cD (dI r10))],[]⟩ [] [] [],.a [6,36] [6],.m ⟨[(36,cD (.bool true)),(39,.agg (cBatch p2))],[]⟩ ⟨[(40,cD (dI r11))],[]⟩ [] [] [],.a [36,38,40] [],.a [36,41] [],.m ⟨[(42,cD (.bool (decide (r10=r11))))],[]⟩ ⟨[(43,.c (.d (.bool false)))],[]⟩ [] [] [],.a [0,43] [],.a [3,43] [],.a [43,44,45] [],.a [0,43] [],.a [3,43] [],.a [43,47,48] [],.a [43,46,49] [],.a [43,50] [],.a [51] []] [8] [] (z00 13) (.m ?_ (.m ?_ (.a (.a (.m ?_ (.a (.m ?_ (.a (.a (.a (.a (.m ?_ (.a (.m ?_ (.a (.m ?_ (.a (.a (.m ?_ (.a (.a (.a (.a (.a (.a (.a (.a (.a .z)))))))))))))))))))))))))))) ?_
       · exact DOk.cA [] [] (z41 hr5) fun r => .nil
       · exact DOk.stepP (fun b => .val (.c (.d (.bool b))) (True)) (p:=r5) hp6 (fun r=>by kernel_rfl) (fun r=>by kernel_rfl) trivial (by kernel_rfl) (by kernel_rfl) (fun r=>rfl)
       · exact DOk.cA [] [.agg (cBatch r1.1),.agg (cBatch r2.1)] (z4b hr7) fun r=>(.cons (.refl _) (.cons (.refl _) .nil))
       · exact DOk.stepP (fun b => .val (.c (.d (.bool b))) (True)) (p:=r7) hp8 (fun r=>by kernel_rfl) (fun r=>by kernel_rfl) trivial (by kernel_rfl) (by kernel_rfl) (fun r=>rfl)
       · exact DOk.stepP (fun b => .val (.c (.d (.bool b))) (True)) (p:=(decide (r1.2=r2.2))) hp9 (fun r=>by kernel_rfl) (fun r=>by kernel_rfl) trivial (by kernel_rfl) (by kernel_rfl) (fun r=>rfl)
       · exact DOk.cA [] [.agg (cBatch p2)] (z86 hr10) fun r=>(.cons (.refl _) .nil)
       · exact DOk.cA [] [.agg (cBatch p2)] (z8u hr11) fun r=>(.cons (.refl _) .nil)
       · exact DOk.stepP (fun b => .val (.c (.d (.bool b))) (True)) (p:=(decide (r10=r11))) hp12 (fun r=>by kernel_rfl) (fun r=>by kernel_rfl) trivial (by kernel_rfl) (by kernel_rfl) (fun r=>rfl)
       exact ⟨_,h,kr⟩
     ·refine Tri.dC [.m ⟨[],[]⟩ ⟨[(25,cD (.bool r5))],[]⟩ [] [] [],.m ⟨[(25,cD (.bool r5))],[]⟩ ⟨[(26,.c (.d (.bool true)))],[]⟩ [] [] [],.a [9,26] [9],.a [11,26] [11],.m ⟨[(26,cD (.bool true)),(27,.agg (cBatch r1.1)),(28,.agg (cBatch r2.1))],[]⟩ ⟨[(29,cD (.bool r7))],[]⟩ [] [] [],.a [26,29] [],.m ⟨[(30,cD (.bool r7))],[]⟩ ⟨[(31,.c (.d (.bool true)))],[]⟩ [] [] [],.a [10,31] [],.a [12,31] [],.a [31,32,33] [],.a [31,34] [],.m ⟨[(35,cD (.bool (decide (r1.2=r2.2))))],[]⟩ ⟨[(36,.c (.d (.bool false)))],[]⟩ [] [] [],.a [6,36] [6],.a [36,37] [],.a [6,36] [6],.a [36,39] [],.a [36,38,40] [],.a [36,41] [],.a [42] [],.a [0,43] [],.a [3,43] [],.a [43,44,45] [],.a [0,43] [],.a [3,43] [],.a [43,47,48] [],.a [43,46,49] [],.a [43,50] [],.a [51] []] [8] [] (z00 11) (.m ?_ (.m ?_ (.a (.a (.m ?_ (.a (.m ?_ (.a (.a (.a (.a (.m ?_ (.a (.a (.a (.a (.a (.a (.a (.a (.a (.a (.a (.a (.a (.a (.a (.a .z)))))))))))))))))))))))))))) ?_
      · exact DOk.cA [] [] (z41 hr5) fun r => .nil
      · exact DOk.stepP (fun b => .val (.c (.d (.bool b))) (True)) (p:=r5) hp6 (fun r=>by kernel_rfl) (fun r=>by kernel_rfl) trivial (by kernel_rfl) (by kernel_rfl) (fun r=>rfl)
      · exact DOk.cA [] [.agg (cBatch r1.1),.agg (cBatch r2.1)] (z4b hr7) fun r=>(.cons (.refl _) (.cons (.refl _) .nil))
      · exact DOk.stepP (fun b => .val (.c (.d (.bool b))) (True)) (p:=r7) hp8 (fun r=>by kernel_rfl) (fun r=>by kernel_rfl) trivial (by kernel_rfl) (by kernel_rfl) (fun r=>rfl)
      · exact DOk.stepP (fun b => .val (.c (.d (.bool b))) (True)) (p:=(decide (r1.2=r2.2))) hp9 (fun r=>by kernel_rfl) (fun r=>by kernel_rfl) trivial (by kernel_rfl) (by kernel_rfl) (fun r=>rfl)
      exact ⟨_,h,kr⟩
    ·refine Tri.dC [.m ⟨[],[]⟩ ⟨[(25,cD (.bool r5))],[]⟩ [] [] [],.m ⟨[(25,cD (.bool r5))],[]⟩ ⟨[(26,.c (.d (.bool true)))],[]⟩ [] [] [],.a [9,26] [9],.a [11,26] [11],.m ⟨[(26,cD (.bool true)),(27,.agg (cBatch r1.1)),(28,.agg (cBatch r2.1))],[]⟩ ⟨[(29,cD (.bool r7))],[]⟩ [] [] [],.a [26,29] [],.m ⟨[(30,cD (.bool r7))],[]⟩ ⟨[(31,.c (.d (.bool false)))],[]⟩ [] [] [],.a [10,31] [],.a [12,31] [],.a [31,32,33] [],.a [31,34] [],.a [35] [],.a [6,36] [6],.a [36,37] [],.a [6,36] [6],.a [36,39] [],.a [36,38,40] [],.a [36,41] [],.a [42] [],.a [0,43] [],.a [3,43] [],.a [43,44,45] [],.a [0,43] [],.a [3,43] [],.a [43,47,48] [],.a [43,46,49] [],.a [43,50] [],.a [51] []] [8] [] (z00 9) (.m ?_ (.m ?_ (.a (.a (.m ?_ (.a (.m ?_ (.a (.a (.a (.a (.a (.a (.a (.a (.a (.a (.a (.a (.a (.a (.a (.a (.a (.a (.a (.a (.a .z)))))))))))))))))))))))))))) ?_
     · exact DOk.cA [] [] (z41 hr5) fun r => .nil
     · exact DOk.stepP (fun b => .val (.c (.d (.bool b))) (True)) (p:=r5) hp6 (fun r=>by kernel_rfl) (fun r=>by kernel_rfl) trivial (by kernel_rfl) (by kernel_rfl) (fun r=>rfl)
     · exact DOk.cA [] [.agg (cBatch r1.1),.agg (cBatch r2.1)] (z4b hr7) fun r=>(.cons (.refl _) (.cons (.refl _) .nil))
     · exact DOk.stepP (fun b => .val (.c (.d (.bool b))) (True)) (p:=r7) hp8 (fun r=>by kernel_rfl) (fun r=>by kernel_rfl) trivial (by kernel_rfl) (by kernel_rfl) (fun r=>rfl)
     exact ⟨_,h,kr⟩
   ·refine Tri.dC [.m ⟨[],[]⟩ ⟨[(25,cD (.bool r5))],[]⟩ [] [] [],.m ⟨[(25,cD (.bool r5))],[]⟩ ⟨[(26,.c (.d (.bool false)))],[]⟩ [] [] [],.a [9,26] [9],.a [11,26] [11],.a [26,27,28] [],.a [26,29] [],.a [30] [],.a [10,31] [],.a [12,31] [],.a [31,32,33] [],.a [31,34] [],.a [35] [],.a [6,36] [6],.a [36,37] [],.a [6,36] [6],.a [36,39] [],.a [36,38,40] [],.a [36,41] [],.a [42] [],.a [0,43] [],.a [3,43] [],.a [43,44,45] [],.a [0,43] [],.a [3,43] [],.a [43,47,48] [],.a [43,46,49] [],.a [43,50] [],.a [51] []] [8] [] (z00 8) (.m ?_ (.m ?_ (.a (.a (.a (.a (.a (.a (.a (.a (.a (.a (.a (.a (.a (.a (.a (.a (.a (.a (.a (.a (.a (.a (.a (.a (.a (.a .z)))))))))))))))))))))))))))) ?_
    · exact DOk.cA [] [] (z41 hr5) fun r => .nil
    · exact DOk.stepP (fun b => .val (.c (.d (.bool b))) (True)) (p:=r5) hp6 (fun r=>by kernel_rfl) (fun r=>by kernel_rfl) trivial (by kernel_rfl) (by kernel_rfl) (fun r=>rfl)
    exact ⟨_,h,kr⟩
end Go.Av
namespace Go.Av
open Go Go.Proofs
set_option linter.unusedVariables false
set_option linter.unusedSimpArgs false
def za9 (x:Time):Prop:=(okInt .u64) x.epoch∧(fun p=>(okInt .u64) p.1∧(okInt .u64) p.2) x.loop∧True
def z5h (x:Time):Nat:=((fun _=>1) x.epoch + ((fun p=>(fun _=>1) p.1 + (fun _=>1) p.2 + 1) x.loop + 0)) + 1
def zcp (x:Value):Prop:=(fun _=>True) x.isText∧(okInt .i64) x.n∧(fun s=>s.size≤maxN) x.s∧True
def z79 (x:Value):Nat:=((fun _=>1) x.isText + ((fun _=>1) x.n + ((fun s=>s.size + 1) x.s + 0))) + 1
def z9n (x:Update):Prop:=(fun xs=>xs.length≤maxN∧∀ x ∈ xs,(zcp) x) x.key∧(fun xs=>xs.length≤maxN∧∀ x ∈ xs,(zcp) x) x.row∧(za9) x.time∧(okInt .i64) x.diff∧True
def z2u (x:Update):Nat:=((fun xs=>(xs.map (z79)).sum + 1) x.key + ((fun xs=>(xs.map (z79)).sum + 1) x.row + ((z5h) x.time + ((fun _=>1) x.diff + 0)))) + 1
def zl7 (x:Batch):Prop:=(fun xs=>xs.length≤maxN∧∀ x ∈ xs,(za9) x) x.since∧(fun xs=>xs.length≤maxN∧∀ x ∈ xs,(z9n) x) x.updates∧True
def zbz (x:Batch):Nat:=((fun xs=>(xs.map (z5h)).sum + 1) x.since + ((fun xs=>(xs.map (z2u)).sum + 1) x.updates + 0)) + 1
def okWide (x:Wide):Prop:=(okInt .i64) x.high∧(okInt .u64) x.low∧True
theorem zbv {H:Type} {enc:TypeId × Go.Value→H} {W:World} {Z:TypeId→DataW H→Prop} {B:DataW H→Nat} (hZ:Fine Tryz.prog Z) (hB:BulkOk B):Reads enc Tryz.prog W Z B 54 z02 za9 z5h:=fun n=>by
 have h:=z13.struct (n:=n) (enc:=enc) (W:=W) (tot:=3) hZ hB Tryz.underlying54 (by kernel_rfl) (fun m _=>(z3y.cons (k:=1) (z13.int hB Tryz.underlying51) rfl (by kernel_rfl) (z3y.cons (k:=2) (z13.pair hZ hB Tryz.underlying52 (k:=1) (by kernel_rfl) (by kernel_rfl) (fun m _=>(z13.int hB Tryz.underlying51))) rfl (by kernel_rfl) (z3y.nil (off:=3)))))
 exact h.map (fun (p:Int × (Int × Int) × Unit)=>(⟨p.1,p.2.1⟩:Time)) (fun _ _=>rfl) (fun _ h=>h) (fun _ _=>Nat.le_refl _)
theorem zgt {H:Type} {enc:TypeId × Go.Value→H} {W:World} {Z:TypeId→DataW H→Prop} {B:DataW H→Nat} (hZ:Fine Tryz.prog Z) (hB:BulkOk B):Reads enc Tryz.prog W Z B 58 z05 zcp z79:=fun n=>by
 have h:=z13.struct (n:=n) (enc:=enc) (W:=W) (tot:=3) hZ hB Tryz.underlying58 (by kernel_rfl) (fun m _=>(z3y.cons (k:=1) (z13.bool hB Tryz.underlying4) rfl (by kernel_rfl) (z3y.cons (k:=1) (z13.int hB Tryz.underlying2) rfl (by kernel_rfl) (z3y.cons (k:=1) (z13.string hZ hB Tryz.underlying9) rfl (by kernel_rfl) (z3y.nil (off:=3))))))
 exact h.map (fun (p:Bool × Int × ByteArray × Unit)=>(⟨p.1,p.2.1,p.2.2.1⟩:Value)) (fun _ _=>rfl) (fun _ h=>h) (fun _ _=>Nat.le_refl _)
theorem zfk {H:Type} {enc:TypeId × Go.Value→H} {W:World} {Z:TypeId→DataW H→Prop} {B:DataW H→Nat} (hZ:Fine Tryz.prog Z) (hB:BulkOk B):Reads enc Tryz.prog W Z B 56 z01 z9n z2u:=fun n=>by
 have h:=z13.struct (n:=n) (enc:=enc) (W:=W) (tot:=6) hZ hB Tryz.underlying56 (by kernel_rfl) (fun m _=>(z3y.cons (k:=1) (z13.slice (es:=3) (e:=z05) (ok:=zcp) (bulk:=z79) hZ hB Tryz.underlying50 (by kernel_rfl) (by kernel_rfl) rfl (fun _ _=>rfl) (fun m _=>(zgt hZ hB m))) rfl (by kernel_rfl) (z3y.cons (k:=1) (z13.slice (es:=3) (e:=z05) (ok:=zcp) (bulk:=z79) hZ hB Tryz.underlying50 (by kernel_rfl) (by kernel_rfl) rfl (fun _ _=>rfl) (fun m _=>(zgt hZ hB m))) rfl (by kernel_rfl) (z3y.cons (k:=3) (zbv hZ hB m) rfl (by kernel_rfl) (z3y.cons (k:=1) (z13.int hB Tryz.underlying2) rfl (by kernel_rfl) (z3y.nil (off:=6)))))))
 exact h.map (fun (p:(List Value) × (List Value) × Time × Int × Unit)=>(⟨p.1,p.2.1,p.2.2.1,p.2.2.2.1⟩:Update)) (fun _ _=>rfl) (fun _ h=>h) (fun _ _=>Nat.le_refl _)
theorem zlx {H:Type} {enc:TypeId × Go.Value→H} {W:World} {Z:TypeId→DataW H→Prop} {B:DataW H→Nat} (hZ:Fine Tryz.prog Z) (hB:BulkOk B):Reads enc Tryz.prog W Z B 26 znt zl7 zbz:=fun n=>by
 have h:=z13.struct (n:=n) (enc:=enc) (W:=W) (tot:=2) hZ hB Tryz.underlying26 (by kernel_rfl) (fun m _=>(z3y.cons (k:=1) (z13.slice (es:=3) (e:=z02) (ok:=za9) (bulk:=z5h) hZ hB Tryz.underlying22 (by kernel_rfl) (by kernel_rfl) rfl (fun _ _=>rfl) (fun m _=>(zbv hZ hB m))) rfl (by kernel_rfl) (z3y.cons (k:=1) (z13.slice (es:=6) (e:=z01) (ok:=z9n) (bulk:=z2u) hZ hB Tryz.underlying24 (by kernel_rfl) (by kernel_rfl) rfl (fun _ _=>rfl) (fun m _=>(zfk hZ hB m))) rfl (by kernel_rfl) (z3y.nil (off:=2)))))
 exact h.map (fun (p:(List Time) × (List Update) × Unit)=>(⟨p.1,p.2.1⟩:Batch)) (fun _ _=>rfl) (fun _ h=>h) (fun _ _=>Nat.le_refl _)
end Go.Av
/-
 Av,part V: of loops,without any program.
-/
namespace Go.Av
set_option linter.unusedVariables false
set_option linter.unusedSimpArgs false
section
variable {S R Q A X:Type}
theorem        z98 {B : Nat → S → Option (Ctl S R)} {n : Nat} (I : Nat → S → Prop) {s : S} (h0 : I 0 s) (hs : ∀ i s, i < n → I i s → ∃ s', B i s = some (.next s') ∧ I (i + 1) s') :
    ∃ s',    z08 B n 0 s = some (.done s') ∧ I n s' := by
  have key : ∀ k i s, i + k = n → I i s → ∃ s',    z08 B k i s = some (.done s') ∧ I n s' := by
    intro k
    induction k with
    | zero => intro i s hi h; exact ⟨s, rfl, by have : i = n := by omega
                                                subst this; exact h⟩
    | succ k ih =>
      intro i s hi h
      obtain ⟨s', h1, h2⟩ := hs i s (by omega) h
      obtain ⟨s2, h3, h4⟩ := ih (i + 1) s' (by omega) h2
      exact ⟨s2, by simp only [   z08, h1, h3], h4⟩
  exact key n 0 s (by omega) h0
theorem z31 {B:Nat→S→Option (Ctl S R)} {n:Nat} {s:S} (r:S) (I:Nat→S→Prop) (hr:∀ s,I n s→s=r) (hs:∀ i s,i < n→I i s→∃ s',B i s=some (.next s')∧I (i + 1) s') (h0:I 0 s) :
  z08 B n 0 s=some (.done r):=by
 obtain ⟨s',h1,h2⟩:=z98 I h0 hs
 rw [h1,hr s' h2]
theorem         zfl {B : Nat → S → Option (Ctl S R)} {n : Nat} (I : Nat → S → Prop) (D : S → Prop) (J : R → Prop) {s : S} (h0 : I 0 s)
    (hs : ∀ i s, i < n → I i s → (∃ s', B i s = some (.next s') ∧ I (i + 1) s') ∨ (∃ s', B i s = some (.brk s') ∧ D s') ∨ ∃ r, B i s = some (.ret r) ∧ J r) (hD : ∀ s, I n s → D s) :
    (∃ s',    z08 B n 0 s = some (.done s') ∧ D s') ∨ ∃ r,    z08 B n 0 s = some (.ret r) ∧ J r := by
  have key : ∀ k i s, i + k = n → I i s → (∃ s',    z08 B k i s = some (.done s') ∧ D s') ∨ ∃ r,    z08 B k i s = some (.ret r) ∧ J r := by
    intro k
    induction k with
    | zero => intro i s hi h; exact .inl ⟨s, rfl, by have : i = n := by omega
                                                     subst this; exact hD s h⟩
    | succ k ih =>
      intro i s hi h
      rcases hs i s (by omega) h with ⟨s', h1, h2⟩ | ⟨s', h1, h2⟩ | ⟨r, h1, h2⟩
      · rcases ih (i + 1) s' (by omega) h2 with ⟨s2, h3, h4⟩ | ⟨r, h3, h4⟩
        · exact .inl ⟨s2, by simp only [   z08, h1, h3], h4⟩
        · exact .inr ⟨r, by simp only [   z08, h1, h3], h4⟩
      · exact .inl ⟨s', by simp only [   z08, h1], h2⟩
      · exact .inr ⟨r, by simp only [   z08, h1], h2⟩
  exact key n 0 s (by omega) h0
theorem z22 [Inhabited X] {l:List X} {i:Nat} (h:i < l.length):l.take (i + 1)=l.take i++[l.getD i default]:=by
 rw [List.take_add_one,List.getElem?_eq_getElem h,List.getD_eq_getElem?_getD,List.getElem?_eq_getElem h]
 rfl
theorem z2b [Inhabited X] {l:List X} {i:Nat} (h:i < l.length):l.getD i default ∈ l:=by
 rw [List.getD_eq_getElem?_getD,List.getElem?_eq_getElem h]
 exact List.getElem_mem h
theorem zk7 [Inhabited X] {B:Nat→S→Option (Ctl S R)} {l:List X} (f:S→X→S) {s:S} (hB:∀ i a,i < l.length→B i a=some (.next (f a (l.getD i default)))) :
  z08 B l.length 0 s=some (.done (l.foldl f s)):=by
 obtain ⟨s',h1,h2⟩:=z98 (B:=B) (n:=l.length) (fun i a=>a=(l.take i).foldl f s) (s:=s) rfl fun i a hi ha=>⟨_,hB i a hi,by rw [z22 hi,List.foldl_append,← ha]; rfl⟩
 rw [h1,h2,List.take_length]
@[simp] theorem z2a {s:S} {kn:S→Option Q} {kr:R→Option Q}:outK (some (.done s)) kn kr=kn s:=rfl
@[simp] theorem zpp {r:R} {kn:S→Option Q} {kr:R→Option Q}:outK (some (.ret r)) kn kr=kr r:=rfl
@[simp] theorem z5w {x y:Option Q}:bf true x y=x:=rfl
@[simp] theorem z0z {x y:Option Q}:bf false x y=y:=rfl
theorem z06 {c:Prop} [Decidable c] {k:Option Q} (h:c):need c k=k:=by unfold need; rw [if_pos h]
@[simp] theorem jn_eq {j:A→Option Q} {k:(A→Option Q)→Option Q}:jn j k=k j:=rfl
@[simp] theorem z07 {p:Prop} [Decidable p] {x y:Option Q}:bf (decide p) x y=if p then x else y:=by by_cases h:p <;> simp [h,bf]
@[simp] theorem z3x {b:Bool} {x y:Option Q}:bf (!b) x y=bf b y x:=by cases b <;> rfl
end
end Go.Av
/-
 Orders,as comparisons with three answers: without any program.
-/
namespace Go.Av
open Go
set_option linter.unusedVariables false
set_option linter.unusedSimpArgs false
structure IsCmp {α:Type} (c : α → α → Int):Prop where
 vals:∀ a b,c a b = -1∨c a b=0∨c a b=1
 anti:∀ a b,c b a = - c a b
 tr:∀ a b d,c a b≤0→c b d≤0→c a d≤0
namespace IsCmp
variable {α β:Type} {c : α → α → Int}
theorem refl (h:IsCmp c) (a : α):c a a=0:=by have:=h.anti a a; omega
theorem lt_tr (h:IsCmp c) {a b d : α} (h1:c a b < 0) (h2:c b d≤0):c a d < 0:=by
 have:=h.tr a b d (by omega) h2
 rcases h.vals a d with g | g | g
 ·omega
 ·have g1:=h.anti a d
  have g2:=h.tr b d a h2 (by omega)
  have g3:=h.anti a b
  omega
 ·omega
theorem eqL (h:IsCmp c) {a b : α} (d : α) (h1:c a b=0):c a d=c b d:=by
 have h2:=h.anti a b
 have t1:=h.tr a b d (by omega)
 have t2:=h.tr b a d (by omega)
 have t3:=h.tr d a b
 have t4:=h.tr d b a
 have a1:=h.anti a d
 have a2:=h.anti b d
 rcases h.vals a d with g | g | g <;> rcases h.vals b d with k | k | k <;> omega
theorem eqR (h:IsCmp c) {a b : α} (d : α) (h1:c a b=0):c d a=c d b:=by
 have:=h.eqL d h1
 have a1:=h.anti a d
 have a2:=h.anti b d
 omega
theorem symm0 (h:IsCmp c) {a b : α} (h1:c a b=0):c b a=0:=by have:=h.anti a b; omega
theorem gt_iff (h:IsCmp c) {a b : α}:0 < c a b↔c b a < 0:=by have:=h.anti a b; omega
theorem on (h:IsCmp c) (f : β → α):IsCmp fun x y=>c (f x) (f y):=⟨fun a b=>h.vals _ _,fun a b=>h.anti _ _,fun a b d=>h.tr _ _ _⟩
end IsCmp
def cmpZ (a b:Int):Int:=if a < b then -1 else if b < a then 1 else 0
theorem z9v:IsCmp cmpZ where
 vals a b:=by unfold cmpZ; split <;> (try split) <;> simp
 anti a b:=by unfold cmpZ; split <;> (try split) <;> (try split) <;> (try split) <;> omega
 tr a b d:=by unfold cmpZ; split <;> (try split) <;> (try split) <;> (try split) <;> (try split) <;> (try split) <;> omega
theorem zij {a b:Int}:cmpZ a b=0↔a=b:=by unfold cmpZ; split <;> (try split) <;> omega
def thenC (u v:Int):Int:=if u=0 then v else u
theorem IsCmp.lex {α:Type} {c d : α → α → Int} (hc:IsCmp c) (hd:IsCmp d):IsCmp fun a b=>thenC (c a b) (d a b) where
 vals a b:=by
  unfold thenC
  split
  ·exact hd.vals a b
  ·exact hc.vals a b
 anti a b:=by
  have h1:=hc.anti a b
  have h2:=hd.anti a b
  unfold thenC
  split <;> split <;> omega
 tr a b e h1 h2:=by
  unfold thenC at *
  by_cases g1:c a b=0 <;> by_cases g2:c b e=0
  ·have:=hc.eqL e g1
   rw [if_pos g1] at h1; rw [if_pos g2] at h2; rw [if_pos (by omega)]
   exact hd.tr a b e h1 h2
  ·have:=hc.eqL e g1
   rw [if_neg g2] at h2; rw [if_neg (by omega)]; omega
  ·have:=hc.eqR a g2
   rw [if_neg g1] at h1; rw [if_neg (by omega)]; omega
  ·rw [if_neg g1] at h1; rw [if_neg g2] at h2
   have:=hc.lt_tr (a:=a) (b:=b) (d:=e) (by omega) h2
   rw [if_neg (by omega)]; omega
def cmpL {α:Type} (c : α → α → Int):List α → List α → Int
 | [],[]=>0
 | [],_ :: _ => -1
 | _ :: _,[]=>1
 | a :: x,b :: y=>thenC (c a b) (cmpL c x y)
theorem IsCmp.list {α:Type} {c : α → α → Int} (h:IsCmp c):IsCmp (cmpL c) where
 vals:=by
  intro a
  induction a with
  | nil=>intro b; cases b <;> simp [cmpL]
  | cons x a ih =>
   intro b
   cases b with
   | nil=>simp [cmpL]
   | cons y b =>
    simp only [cmpL,thenC]
    split
    ·exact ih b
    ·exact h.vals x y
 anti:=by
  intro a
  induction a with
  | nil=>intro b; cases b <;> simp [cmpL]
  | cons x a ih =>
   intro b
   cases b with
   | nil=>simp [cmpL]
   | cons y b =>
    have h1:=h.anti x y
    have h2:=ih b
    simp only [cmpL,thenC]
    split <;> split <;> omega
 tr:=by
  intro a
  induction a with
  | nil=>intro b d _ _; cases d <;> simp [cmpL]
  | cons x a ih =>
   intro b d h1 h2
   cases b with
   | nil=>simp [cmpL] at h1
   | cons y b =>
    cases d with
    | nil=>simp [cmpL] at h2
    | cons z d =>
     simp only [cmpL] at *
     unfold thenC at *
     by_cases g1:c x y=0 <;> by_cases g2:c y z=0
     ·have:=h.eqL z g1
      rw [if_pos g1] at h1; rw [if_pos g2] at h2; rw [if_pos (by omega)]
      exact ih b d h1 h2
     ·have:=h.eqL z g1
      rw [if_neg g2] at h2; rw [if_neg (by omega)]; omega
     ·have:=h.eqR x g2
      rw [if_neg g1] at h1; rw [if_neg (by omega)]; omega
     ·rw [if_neg g1] at h1; rw [if_neg g2] at h2
      have:=h.lt_tr (a:=x) (b:=y) (d:=z) (by omega) h2
      rw [if_neg (by omega)]; omega
def cmpU8 (a b:UInt8):Int:=cmpZ (a.toNat:Int) (b.toNat:Int)
theorem zo2:IsCmp cmpU8:=z9v.on fun a:UInt8=>(a.toNat:Int)
theorem ze3:∀ x y:List UInt8,Op.bytesLess x y=decide (cmpL cmpU8 x y < 0)
 | [],[]=>by simp [Op.bytesLess,cmpL]
 | [],_ :: _=>by simp [Op.bytesLess,cmpL]
 | _ :: _,[]=>by simp [Op.bytesLess,cmpL]
 | a :: x,b :: y=>by
  rw [Op.bytesLess,ze3 x y,cmpL]
  have e1:(a < b)↔(a.toNat:Int) < (b.toNat:Int):=by rw [UInt8.lt_iff_toNat_lt]; omega
  have e2:(a=b)↔(a.toNat:Int)=(b.toNat:Int):=by rw [← UInt8.toNat_inj]; omega
  unfold cmpU8 thenC cmpZ
  rw [Bool.eq_iff_iff]
  simp only [Bool.or_eq_true,Bool.and_eq_true,decide_eq_true_eq,beq_iff_eq,e1,e2]
  by_cases h1:(a.toNat:Int) < (b.toNat:Int)
  ·simp [h1]
  ·by_cases h2:(b.toNat:Int) < (a.toNat:Int)
   ·simp [h1,h2]; omega
   ·have:(a.toNat:Int)=(b.toNat:Int):=by omega
    simp [this]
theorem zfv:∀ x y:List UInt8,(x == y)=decide (cmpL cmpU8 x y=0)
 | [],[]=>by simp [cmpL]
 | [],_ :: _=>by simp [cmpL]
 | _ :: _,[]=>by simp [cmpL]
 | a :: x,b :: y=>by
  rw [List.cons_beq_cons,zfv x y,cmpL]
  have e2:(a=b)↔(a.toNat:Int)=(b.toNat:Int):=by rw [← UInt8.toNat_inj]; omega
  have e3:cmpU8 a b=0↔(a.toNat:Int)=(b.toNat:Int):=zij
  unfold thenC
  rw [Bool.eq_iff_iff]
  simp only [Bool.and_eq_true,decide_eq_true_eq,beq_iff_eq,e2]
  by_cases h:cmpU8 a b=0
  ·rw [if_pos h]; simp [e3.1 h]
  ·rw [if_neg h]
   constructor
   ·rintro ⟨g,_⟩; exact absurd (e3.2 g) h
   ·intro g; exact absurd g h
def cmpS (a b:ByteArray):Int:=cmpL cmpU8 a.toList b.toList
theorem zcw:IsCmp cmpS:=zo2.list.on fun a:ByteArray=>a.toList
theorem zeo (a b:ByteArray):strLt a b=decide (cmpS a b < 0):=ze3 _ _
theorem zik (a b:ByteArray):strEq a b=decide (cmpS a b=0):=zfv _ _
theorem zlt (a:ByteArray):strEq a a=true:=by unfold strEq; simp
theorem zis {a b:ByteArray} (h:a.toList=b.toList):a=b:=by
 rw [ByteArray.toList_eq,ByteArray.toList_eq] at h
 cases a; cases b
 simp at h
 simp [h]
theorem zf4 {a b:ByteArray}:strEq a b=true↔a=b:=by
 unfold strEq
 rw [beq_iff_eq]
 exact ⟨zis,fun h=>by rw [h]⟩
theorem zmi {a b:ByteArray}:cmpS a b=0↔a=b:=by
 rw [← zf4,zik,decide_eq_true_eq]
theorem z1b {α:Type} [Inhabited α] {l:List α} {i:Nat} (h:i < l.length):l.drop i=l.getD i default :: l.drop (i + 1):=by
 rw [List.drop_eq_getElem_cons h,List.getD_eq_getElem?_getD,List.getElem?_eq_getElem h]; rfl
theorem zp4 {α:Type} [Inhabited α] {c : α → α → Int} {p0 p1:List α} {B:Nat→Unit→Option (Ctl Unit Int)} {kn:Unit→Option Int}
  (hB:∀ i,i < p0.length→B i ()=if p1.length≤i then some (.ret 1) else if c (p0.getD i default) (p1.getD i default)=0 then some (.next ()) else some (.ret (c (p0.getD i default) (p1.getD i default))))
  (hk:kn ()=some (if p0.length < p1.length then -1 else 0)):outK (z08 B p0.length 0 ()) kn (fun x=>some x)=some (cmpL c p0 p1):=by
 have key:∀ k i,i + k=p0.length→i≤p1.length→outK (z08 B k i ()) kn (fun x=>some x)=some (cmpL c (p0.drop i) (p1.drop i)):=by
  intro k
  induction k with
  | zero =>
   intro i hi hle
   simp only [z08,z2a,hk]
   rw [List.drop_eq_nil_of_le (by omega:p0.length≤i)]
   by_cases h:p0.length < p1.length
   ·rw [if_pos h,z1b (by omega:i < p1.length)]; rfl
   ·rw [if_neg h,List.drop_eq_nil_of_le (by omega:p1.length≤i)]; rfl
  | succ k ih =>
   intro i hi hle
   simp only [z08,hB i (by omega)]
   rw [z1b (by omega:i < p0.length)]
   by_cases h:p1.length≤i
   ·rw [if_pos h,List.drop_eq_nil_of_le (by omega:p1.length≤i)]; rfl
   ·rw [if_neg h,z1b (by omega:i < p1.length)]
    simp only [cmpL,thenC]
    by_cases h0:c (p0.getD i default) (p1.getD i default)=0
    ·rw [if_pos h0,if_pos h0]; exact ih (i + 1) (by omega) (by omega)
    ·rw [if_neg h0,if_neg h0]; rfl
 exact key p0.length 0 (by omega) (by omega)
theorem znm {α:Type} [Inhabited α] {c : α → α → Int} {p0 p1:List α} {B:Int→Option (Ctl Int Int)} {kn:Int→Option Int} {fuel:Nat} (hf:p0.length < fuel)
  (hB:∀ i:Nat,i≤p0.length→i≤p1.length→B (i:Int)=if i < p0.length∧i < p1.length then (if c (p0.getD i default) (p1.getD i default)=0 then some (.next ((i + 1:Nat):Int)) else some (.ret (c (p0.getD i default) (p1.getD i default)))) else some (.brk (i:Int)))
  (hk:∀ i,kn i=some (if p0.length < p1.length then -1 else if p1.length < p0.length then 1 else 0)):outK (loopN B fuel 0) kn (fun x=>some x)=some (cmpL c p0 p1):=by
 have key:∀ k i fuel,i + k=p0.length→i≤p1.length→k < fuel→outK (loopN B fuel (i:Int)) kn (fun x=>some x)=some (cmpL c (p0.drop i) (p1.drop i)):=by
  intro k
  induction k with
  | zero =>
   intro i fuel hi hle hf
   cases fuel with
   | zero=>omega
   | succ fuel =>
    simp only [loopN,hB i (by omega) hle]
    rw [if_neg (by omega)]
    simp only [z2a,hk]
    rw [List.drop_eq_nil_of_le (by omega:p0.length≤i)]
    by_cases h:p0.length < p1.length
    ·rw [if_pos h,z1b (by omega:i < p1.length)]; rfl
    ·rw [if_neg h,if_neg (by omega),List.drop_eq_nil_of_le (by omega:p1.length≤i)]; rfl
  | succ k ih =>
   intro i fuel hi hle hf
   cases fuel with
   | zero=>omega
   | succ fuel =>
    simp only [loopN,hB i (by omega) hle]
    rw [z1b (by omega:i < p0.length)]
    by_cases h:i < p1.length
    ·rw [if_pos ⟨by omega,h⟩,z1b (by omega:i < p1.length)]
     simp only [cmpL,thenC]
     by_cases h0:c (p0.getD i default) (p1.getD i default)=0
     ·rw [if_pos h0,if_pos h0]
      exact ih (i + 1) fuel (by omega) (by omega) (by omega)
     ·rw [if_neg h0,if_neg h0]; rfl
    ·rw [if_neg (by omega),List.drop_eq_nil_of_le (by omega:p1.length≤i)]
     simp only [z2a,hk]
     rw [if_neg (by omega),if_pos (by omega)]; rfl
 exact key p0.length 0 fuel (by omega) (by omega) hf
end Go.Av
/-
 Numbers and bits: without any program.
-/
namespace Go.Av
open Go
set_option linter.unusedVariables false
set_option linter.unusedSimpArgs false
theorem z8m (n:Int):IntKind.u64.wrap n=n % 18446744073709551616:=by simp [IntKind.wrap,IntKind.bits,IntKind.signed]
theorem z8p (n:Int):IntKind.i64.wrap n=if n % 18446744073709551616 ≥ 9223372036854775808 then n % 18446744073709551616 - 18446744073709551616 else n % 18446744073709551616:=by
 simp [IntKind.wrap,IntKind.bits,IntKind.signed]
def in64 (x:Int):Prop := -9223372036854775808≤x∧x < 9223372036854775808
def inU64 (x:Int):Prop:=0≤x∧x < 18446744073709551616
theorem z5q {x:Int} (h:in64 x):IntKind.i64.wrap x=x:=by
 unfold in64 at h
 rw [z8p]
 split <;> omega
theorem shr63 {x:Int} (h:in64 x):shrOp .i64 x 63=if x < 0 then -1 else 0:=by
 unfold in64 at h
 unfold shrOp
 have e:(2:Int) ^ (min (63:Int).toNat IntKind.i64.bits)=9223372036854775808:=by decide
 rw [e,Int.fdiv_eq_ediv_of_nonneg _ (by decide)]
 split <;> omega
theorem zct (k:IntKind) (n m:Nat) (hm:m≤k.bits):shrOp k (n:Int) (m:Int)=((n / 2 ^ m:Nat):Int):=by
 unfold shrOp
 rw [Int.toNat_natCast,Nat.min_eq_left hm,Int.fdiv_eq_ediv_of_nonneg _ (by exact Int.le_of_lt (Int.pow_pos (by decide)))]
 push_cast
 rfl
theorem z9x {w:Nat} (n:Nat) (h:n < 2 ^ w):(BitVec.ofInt w (n:Int)).toNat=n:=by
 rw [BitVec.toNat_ofInt]
 have e:((n:Int) % ((2 ^ w:Nat):Int))=(n:Int):=Int.emod_eq_of_lt (by omega) (by exact_mod_cast h)
 rw [e,Int.toNat_natCast]
theorem uwrap {k:IntKind} (hs:k.signed=false) {n:Nat} (h:n < 2 ^ k.bits):k.wrap (n:Int)=(n:Int):=by
 unfold IntKind.wrap
 simp only [hs,Bool.false_and,Bool.false_eq_true,if_false]
 have:((2:Int) ^ k.bits)=((2 ^ k.bits:Nat):Int):=by push_cast; rfl
 rw [this]
 exact Int.emod_eq_of_lt (by omega) (by exact_mod_cast h)
theorem zhr {k:IntKind} (hs:k.signed=false) {x y:Nat} (hx:x < 2 ^ k.bits) (hy:y < 2 ^ k.bits):z0m .xor k (x:Int) (y:Int)=((x ^^^ y:Nat):Int):=by
 unfold z0m
 simp only
 rw [BitVec.toNat_xor,z9x x hx,z9x y hy,uwrap hs (Nat.xor_lt_two_pow hx hy)]
theorem zpb {k:IntKind} (hs:k.signed=false) {x y:Nat} (hx:x < 2 ^ k.bits) (hy:y < 2 ^ k.bits):z0m .and k (x:Int) (y:Int)=((x &&& y:Nat):Int):=by
 unfold z0m
 simp only
 rw [BitVec.toNat_and,z9x x hx,z9x y hy,uwrap hs (Nat.and_lt_two_pow x hy)]
theorem zhl {k:IntKind} (n m:Nat) (hm:m≤k.bits):shlOp k (n:Int) (m:Int)=k.wrap ((n * 2 ^ m:Nat):Int):=by
 unfold shlOp
 rw [Int.toNat_natCast,Nat.min_eq_left hm]
 push_cast
 rfl
end Go.Av
namespace Go.Av
open Go
set_option linter.unusedVariables false
set_option linter.unusedSimpArgs false
section
variable {α:Type} {c : α → α → Int}
def sm (c : α → α → Int):List (α × Int) → α → Int
 | [],_=>0
 | p :: l,y=>(if c y p.1=0 then p.2 else 0) + sm c l y
theorem zi0 (l l' : List (α × Int)) (y : α):sm c (l++l') y=sm c l y + sm c l' y:=by
 induction l with
 | nil=>simp [sm]
 | cons p l ih=>simp only [List.cons_append,sm,ih]; omega
theorem zop {l l' : List (α × Int)} (h:l.Perm l') (y : α):sm c l y=sm c l' y:=by
 induction h with
 | nil=>rfl
 | cons p _ ih=>simp only [sm,ih]
 | swap p q l=>simp only [sm]; omega
 | trans _ _ h1 h2=>exact h1.trans h2
theorem z7o (hC:IsCmp c) {y z : α} (h:c y z=0):∀ l:List (α × Int),sm c l y=sm c l z
 | []=>rfl
 | p :: l=>by simp only [sm,z7o hC h l,hC.eqL p.1 h]
theorem zhq {y : α}:∀ {l:List (α × Int)},(∀ p ∈ l,c y p.1 ≠ 0)→sm c l y=0
 | [],_=>rfl
 | p :: l,h=>by simp only [sm,if_neg (h p (List.mem_cons_self ..)),zhq fun q hq=>h q (List.mem_cons_of_mem _ hq)]; omega
theorem zhw {y : α} {l:List (α × Int)} (h:sm c l y ≠ 0):∃ p ∈ l,c y p.1=0:=by
 apply Classical.byContradiction
 intro hn
 exact h (zhq fun p hp e=>hn ⟨p,hp,e⟩)
structure SS (c : α → α → Int) (l S:List (α × Int)):Prop where
 strict:S.Pairwise fun a b=>c a.1 b.1 < 0
 sum:∀ p ∈ S,p.2=sm c l p.1
 mem:∀ p ∈ S,∃ y ∈ l,y.1=p.1
 all:∀ y ∈ l,∃ p ∈ S,c p.1 y.1=0
theorem zmb:SS c [] []:=⟨List.Pairwise.nil,fun p h=>(by cases h),fun p h=>(by cases h),fun p h=>(by cases h)⟩
theorem zmt (x y : α) (n:Int):sm c [(x,n)] y=if c y x=0 then n else 0:=by simp [sm]
theorem zjo (hC:IsCmp c) {l A B:List (α × Int)} {x : α} {n:Int} (h:SS c l (A++B)) (hA:∀ p ∈ A,c p.1 x < 0) (hB:∀ p ∈ B,c x p.1 < 0):SS c (l++[(x,n)]) (A++(x,n) :: B):=by
 have hne:∀ p ∈ A++B,c p.1 x ≠ 0:=fun p hp=>by
  rcases List.mem_append.1 hp with hp | hp
  ·have:=hA p hp; omega
  ·have:=hB p hp; have:=hC.anti x p.1; omega
 have hs:=h.strict
 rw [List.pairwise_append] at hs
 refine ⟨?_,?_,?_,?_⟩
 ·rw [List.pairwise_append]
  refine ⟨hs.1,List.pairwise_cons.2 ⟨hB,hs.2.1⟩,fun a ha b hb => ?_⟩
  rcases List.mem_cons.1 hb with rfl | hb
  ·exact hA a ha
  ·exact hs.2.2 a ha b hb
 ·intro p hp
  rw [zi0,zmt]
  have hp' : p=(x,n)∨p ∈ A++B:=by
   rcases List.mem_append.1 hp with hp | hp
   ·exact .inr (List.mem_append.2 (.inl hp))
   ·rcases List.mem_cons.1 hp with hp | hp
    ·exact .inl hp
    ·exact .inr (List.mem_append.2 (.inr hp))
  rcases hp' with rfl | hp'
  ·simp only [hC.refl]
   rw [zhq fun q hq e => ?_]
   ·simp
   ·obtain ⟨p,hp,e2⟩:=h.all q hq
    exact hne p hp (by rw [hC.eqL x e2]; exact hC.symm0 e)
  ·rw [if_neg (hne p hp'),← h.sum p hp']
   omega
 ·intro p hp
  rcases List.mem_append.1 hp with hp | hp
  ·obtain ⟨y,h1,h2⟩:=h.mem p (List.mem_append.2 (.inl hp))
   exact ⟨y,List.mem_append.2 (.inl h1),h2⟩
  ·rcases List.mem_cons.1 hp with rfl | hp
   ·exact ⟨(x,n),List.mem_append.2 (.inr (List.mem_singleton.2 rfl)),rfl⟩
   ·obtain ⟨y,h1,h2⟩:=h.mem p (List.mem_append.2 (.inr hp))
    exact ⟨y,List.mem_append.2 (.inl h1),h2⟩
 ·intro y hy
  rcases List.mem_append.1 hy with hy | hy
  ·obtain ⟨p,h1,h2⟩:=h.all y hy
   refine ⟨p,?_,h2⟩
   rcases List.mem_append.1 h1 with h1 | h1
   ·exact List.mem_append.2 (.inl h1)
   ·exact List.mem_append.2 (.inr (List.mem_cons_of_mem _ h1))
  ·rw [List.mem_singleton.1 hy]
   exact ⟨(x,n),List.mem_append.2 (.inr (List.mem_cons_self ..)),hC.refl x⟩
theorem zna (hC:IsCmp c) {l A B:List (α × Int)} {x : α} {p : α × Int} {n:Int} (h:SS c l (A++p :: B)) (hp:c p.1 x=0):SS c (l++[(x,n)]) (A++(p.1,p.2 + n) :: B):=by
 have hs:=h.strict
 rw [List.pairwise_append,List.pairwise_cons] at hs
 have hx:=hC.symm0 hp
 have hA:∀ q ∈ A,c q.1 x ≠ 0:=fun q hq e=>by
  have:=hs.2.2 q hq p (List.mem_cons_self ..)
  rw [hC.eqR q.1 hp] at this
  omega
 have hB:∀ q ∈ B,c q.1 x ≠ 0:=fun q hq e=>by
  have:=hs.2.1.1 q hq
  rw [hC.eqL q.1 hp,hC.symm0 e] at this
  omega
 refine ⟨?_,?_,?_,?_⟩
 ·rw [List.pairwise_append,List.pairwise_cons]
  refine ⟨hs.1,⟨hs.2.1.1,hs.2.1.2⟩,fun a ha b hb => ?_⟩
  rcases List.mem_cons.1 hb with rfl | hb
  ·exact hs.2.2 a ha p (List.mem_cons_self ..)
  ·exact hs.2.2 a ha b (List.mem_cons_of_mem _ hb)
 ·intro q hq
  rw [zi0,zmt]
  rcases List.mem_append.1 hq with hq | hq
  ·rw [if_neg (hA q hq),h.sum q (List.mem_append.2 (.inl hq))]; omega
  ·rcases List.mem_cons.1 hq with rfl | hq
   ·simp only
    rw [if_pos hp,h.sum p (List.mem_append.2 (.inr (List.mem_cons_self ..)))]
   ·rw [if_neg (hB q hq),h.sum q (List.mem_append.2 (.inr (List.mem_cons_of_mem _ hq)))]; omega
 ·intro q hq
  have:∃ q' ∈ A++p :: B,q'.1=q.1:=by
   rcases List.mem_append.1 hq with hq | hq
   ·exact ⟨q,List.mem_append.2 (.inl hq),rfl⟩
   ·rcases List.mem_cons.1 hq with rfl | hq
    ·exact ⟨p,List.mem_append.2 (.inr (List.mem_cons_self ..)),rfl⟩
    ·exact ⟨q,List.mem_append.2 (.inr (List.mem_cons_of_mem _ hq)),rfl⟩
  obtain ⟨q',h1,h2⟩:=this
  obtain ⟨y,h3,h4⟩:=h.mem q' h1
  exact ⟨y,List.mem_append.2 (.inl h3),h4.trans h2⟩
 ·intro y hy
  rcases List.mem_append.1 hy with hy | hy
  ·obtain ⟨q,h1,h2⟩:=h.all y hy
   rcases List.mem_append.1 h1 with h1 | h1
   ·exact ⟨q,List.mem_append.2 (.inl h1),h2⟩
   ·rcases List.mem_cons.1 h1 with rfl | h1
    ·exact ⟨(q.1,q.2 + n),List.mem_append.2 (.inr (List.mem_cons_self ..)),h2⟩
    ·exact ⟨q,List.mem_append.2 (.inr (List.mem_cons_of_mem _ h1)),h2⟩
  ·rw [List.mem_singleton.1 hy]
   exact ⟨(p.1,p.2 + n),List.mem_append.2 (.inr (List.mem_cons_self ..)),hp⟩
def Fits (c : α → α → Int) (l:List (α × Int)):Prop := ∀ y,in64 (sm c l y)
theorem zf6 (hC:IsCmp c) {l S:List (α × Int)} (h:SS c l S):Fits c l↔∀ p ∈ S,in64 p.2:=by
 constructor
 ·intro hf p hp
  rw [h.sum p hp]; exact hf p.1
 ·intro hf y
  by_cases e:sm c l y=0
  ·rw [e]; unfold in64; omega
  ·obtain ⟨q,h1,h2⟩:=zhw e
   obtain ⟨p,h3,h4⟩:=h.all q h1
   have e2:c p.1 y=0:=by rw [hC.eqL y h4]; exact hC.symm0 h2
   rw [← z7o hC e2,← h.sum p h3]
   exact hf p h3
structure Res (c : α → α → Int) (num : α → Int) (put : α → Int → α) (l:List (α × Int)) (R:List α):Prop where
 strict:R.Pairwise fun a b=>c a b < 0
 sum:∀ r ∈ R,num r=sm c l r∧num r ≠ 0
 mem:∀ r ∈ R,∃ y ∈ l,r=put y.1 (num r)
 all:∀ y ∈ l,sm c l y.1 ≠ 0→∃ r ∈ R,c r y.1=0
def Tot (c : α → α → Int) (num : α → Int) (put : α → Int → α) (l:List (α × Int)) (R:List α) (e:Int):Prop:=(e=0∧Res c num put l R∧Fits c l)∨(e=10∧R=[]∧¬ Fits c l)
def left0 (put : α → Int → α) (S:List (α × Int)):List α:=(S.filter fun p => !decide (p.2=0)).map fun p=>put p.1 p.2
theorem zn9 (hC:IsCmp c) {num : α → Int} {put : α → Int → α} (h1:∀ x n,num (put x n)=n) (h2:∀ x n y,c (put x n) y=c x y) {l S:List (α × Int)} (h:SS c l S):Res c num put l (left0 put S):=by
 have h3:∀ x n y,c y (put x n)=c y x:=fun x n y=>by have:=hC.anti y (put x n); have:=hC.anti y x; have:=h2 x n y; omega
 unfold left0
 refine ⟨?_,?_,?_,?_⟩
 ·rw [List.pairwise_map]
  refine List.Pairwise.imp (fun {a b} hab => ?_) (h.strict.filter _)
  rw [h2,h3]; exact hab
 ·intro r hr
  obtain ⟨p,hp,rfl⟩:=List.mem_map.1 hr
  obtain ⟨hp,hz⟩:=List.mem_filter.1 hp
  rw [h1]
  refine ⟨?_,by simpa using hz⟩
  rw [z7o hC (show c (put p.1 p.2) p.1=0 by rw [h2]; exact hC.refl _)]
  exact h.sum p hp
 ·intro r hr
  obtain ⟨p,hp,rfl⟩:=List.mem_map.1 hr
  obtain ⟨hp,hz⟩:=List.mem_filter.1 hp
  obtain ⟨y,g1,g2⟩:=h.mem p hp
  exact ⟨y,g1,by rw [h1,g2]⟩
 ·intro y hy hn
  obtain ⟨p,g1,g2⟩:=h.all y hy
  refine ⟨put p.1 p.2,List.mem_map.2 ⟨p,List.mem_filter.2 ⟨g1,?_⟩,rfl⟩,by rw [h2]; exact g2⟩
  have:=h.sum p g1
  rw [z7o hC g2] at this
  simp only [Bool.not_eq_eq_eq_not,Bool.not_true,decide_eq_false_iff_not]
  omega
theorem zh8 (hC:IsCmp c):∀ {R R' : List α},R.Pairwise (fun a b=>c a b < 0)→R'.Pairwise (fun a b=>c a b < 0)→(∀ x,x ∈ R↔x ∈ R')→R=R'
 | [],[],_,_,_=>rfl
 | [],x :: _,_,_,h=>by cases (h x).2 (List.mem_cons_self ..)
 | x :: _,[],_,_,h=>by cases (h x).1 (List.mem_cons_self ..)
 | a :: R,b :: R',h1,h2,h=>by
  rw [List.pairwise_cons] at h1 h2
  have hab:a=b:=by
   rcases List.mem_cons.1 ((h a).1 (List.mem_cons_self ..)) with e | e
   ·exact e
   ·rcases List.mem_cons.1 ((h b).2 (List.mem_cons_self ..)) with e2 | e2
    ·exact e2.symm
    ·have:=h2.1 a e; have:=h1.1 b e2; have:=hC.anti a b; omega
  subst hab
  have ne1:a ∉ R:=fun g=>by have:=h1.1 a g; rw [hC.refl] at this; omega
  have ne2:a ∉ R':=fun g=>by have:=h2.1 a g; rw [hC.refl] at this; omega
  rw [zh8 hC h1.2 h2.2 fun x => ?_]
  constructor
  ·intro hx
   rcases List.mem_cons.1 ((h x).1 (List.mem_cons_of_mem _ hx)) with rfl | g
   ·exact absurd hx ne1
   ·exact g
  ·intro hx
   rcases List.mem_cons.1 ((h x).2 (List.mem_cons_of_mem _ hx)) with rfl | g
   ·exact absurd hx ne2
   ·exact g
theorem zle (hC:IsCmp c) {num : α → Int} {put : α → Int → α} {l l' : List (α × Int)} {R R' : List α} (h:Res c num put l R) (h' : Res c num put l' R') (hs:∀ y,sm c l y=sm c l' y)
  (hV:∀ r ∈ R,∀ r' ∈ R',c r r' = 0→num r=num r' → r=r'):R=R':=by
 refine zh8 hC h.strict h'.strict fun x=>⟨fun hx => ?_,fun hx => ?_⟩
 ·obtain ⟨e1,e2⟩:=h.sum x hx
  rw [hs] at e1
  obtain ⟨y,hy,e3⟩:=zhw (c:=c) (l:=l') (y:=x) (by omega)
  obtain ⟨r,hr,e4⟩:=h'.all y hy (by rw [← z7o hC e3]; omega)
  have e5:c x r=0:=by rw [hC.eqL r e3]; exact hC.symm0 e4
  rw [hV x hx r hr e5 (by rw [(h'.sum r hr).1,← z7o hC e5]; exact e1)]
  exact hr
 ·obtain ⟨e1,e2⟩:=h'.sum x hx
  rw [← hs] at e1
  obtain ⟨y,hy,e3⟩:=zhw (c:=c) (l:=l) (y:=x) (by omega)
  obtain ⟨r,hr,e4⟩:=h.all y hy (by rw [← z7o hC e3]; omega)
  have e5:c r x=0:=by rw [hC.eqL x e4]; exact hC.symm0 e3
  rw [← hV r hr x hx e5 (by rw [(h.sum r hr).1,z7o hC e5]; omega)]
  exact hr
theorem zly (hC:IsCmp c) {num : α → Int} {put : α → Int → α} {l l' : List (α × Int)} {R R' : List α} {e e' : Int} (h:Tot c num put l R e) (h' : Tot c num put l' R' e') (hs:∀ y,sm c l y=sm c l' y)
  (hV:∀ r ∈ R,∀ r' ∈ R',c r r' = 0→num r=num r' → r=r'):R=R' ∧ e=e':=by
 have hf:Fits c l↔Fits c l':=by unfold Fits; simp only [hs]
 rcases h with ⟨rfl,h1,h2⟩ | ⟨rfl,rfl,h2⟩
 ·rcases h' with ⟨rfl,g1,g2⟩ | ⟨rfl,rfl,g2⟩
  ·exact ⟨zle hC h1 g1 hs hV,rfl⟩
  ·exact absurd (hf.1 h2) g2
 ·rcases h' with ⟨rfl,g1,g2⟩ | ⟨rfl,rfl,g2⟩
  ·exact absurd (hf.2 g2) h2
  ·exact ⟨rfl,rfl⟩
end
end Go.Av
namespace Go.Av
open Go
set_option linter.unusedVariables false
section
variable {α:Type} [Inhabited α]
def insG (cmp : α → α → Option Int) (fuel:Nat) (p1:Int) (p2:Int) (l0:List α):Option (List α) :=
 outK (loopN (S:=Int × (List α)) (R:=Empty) (fun (a1:Int × (List α))=>bf (decide (a1.1 < p2)) (outK (loopN (S:=Int × (List α)) (R:=Empty) (fun (a3:Int × (List α))=>jn (fun (a5:Bool)=>bf a5 (need ((0:Int)≤(IntKind.i64.wrap (a3.1 - 1))∧(IntKind.i64.wrap (a3.1 - 1)) < (a3.2.length:Int)) <| need ((0 + (IntKind.i64.wrap (a3.1 - 1)).toNat) < a3.2.length) <| need ((0:Int)≤a3.1∧a3.1 < (a3.2.length:Int)) <| need ((0 + a3.1.toNat) < a3.2.length) <| need ((0:Int)≤a3.1∧a3.1 < (a3.2.length:Int)) <| need ((0 + a3.1.toNat) < a3.2.length) <| need ((0:Int)≤(IntKind.i64.wrap (a3.1 - 1))∧(IntKind.i64.wrap (a3.1 - 1)) < (a3.2.length:Int)) <| need ((0 + (IntKind.i64.wrap (a3.1 - 1)).toNat) < (a3.2.set (0 + a3.1.toNat) (a3.2.getD (0 + (IntKind.i64.wrap (a3.1 - 1)).toNat) default)).length) <| some (.next ((IntKind.i64.wrap (a3.1 - 1)),((a3.2.set (0 + a3.1.toNat) (a3.2.getD (0 + (IntKind.i64.wrap (a3.1 - 1)).toNat) default)).set (0 + (IntKind.i64.wrap (a3.1 - 1)).toNat) (a3.2.getD (0 + a3.1.toNat) default))))) (some (.brk (a3.1,a3.2)))) fun j6=>bf (decide (p1 < a3.1)) (need ((0:Int)≤a3.1∧a3.1 < (a3.2.length:Int)) <| need ((0 + a3.1.toNat) < a3.2.length) <| need ((0:Int)≤(IntKind.i64.wrap (a3.1 - 1))∧(IntKind.i64.wrap (a3.1 - 1)) < (a3.2.length:Int)) <| need ((0 + (IntKind.i64.wrap (a3.1 - 1)).toNat) < a3.2.length) <| (cmp (a3.2.getD (0 + a3.1.toNat) default) (a3.2.getD (0 + (IntKind.i64.wrap (a3.1 - 1)).toNat) default)).bind fun r20=>j6 (decide (r20 < 0))) (j6 false)) fuel (a1.1,a1.2)) (fun (a4:Int × (List α))=>some (.next ((IntKind.i64.wrap (a1.1 + 1)),a4.2))) (fun (x:Empty)=>x.elim)) (some (.brk (a1.1,a1.2)))) fuel ((IntKind.i64.wrap (p1 + 1)),l0)) (fun (a2:Int × (List α))=>some a2.2) (fun (x:Empty)=>x.elim)
def swapG (fuel:Nat) (p1:Int) (p2:Int) (p3:Int) (l0:List α):Option (List α) :=
 outK (loopN (S:=Int × (List α)) (R:=Empty) (fun (a1:Int × (List α))=>bf (decide (a1.1 < p3)) (need ((0:Int)≤(IntKind.i64.wrap (p2 + a1.1))∧(IntKind.i64.wrap (p2 + a1.1)) < (a1.2.length:Int)) <| need ((0 + (IntKind.i64.wrap (p2 + a1.1)).toNat) < a1.2.length) <| need ((0:Int)≤(IntKind.i64.wrap (p1 + a1.1))∧(IntKind.i64.wrap (p1 + a1.1)) < (a1.2.length:Int)) <| need ((0 + (IntKind.i64.wrap (p1 + a1.1)).toNat) < a1.2.length) <| need ((0:Int)≤(IntKind.i64.wrap (p1 + a1.1))∧(IntKind.i64.wrap (p1 + a1.1)) < (a1.2.length:Int)) <| need ((0 + (IntKind.i64.wrap (p1 + a1.1)).toNat) < a1.2.length) <| need ((0:Int)≤(IntKind.i64.wrap (p2 + a1.1))∧(IntKind.i64.wrap (p2 + a1.1)) < (a1.2.length:Int)) <| need ((0 + (IntKind.i64.wrap (p2 + a1.1)).toNat) < (a1.2.set (0 + (IntKind.i64.wrap (p1 + a1.1)).toNat) (a1.2.getD (0 + (IntKind.i64.wrap (p2 + a1.1)).toNat) default)).length) <| some (.next ((IntKind.i64.wrap (a1.1 + 1)),((a1.2.set (0 + (IntKind.i64.wrap (p1 + a1.1)).toNat) (a1.2.getD (0 + (IntKind.i64.wrap (p2 + a1.1)).toNat) default)).set (0 + (IntKind.i64.wrap (p2 + a1.1)).toNat) (a1.2.getD (0 + (IntKind.i64.wrap (p1 + a1.1)).toNat) default))))) (some (.brk (a1.1,a1.2)))) fuel (0,l0)) (fun (a2:Int × (List α))=>some a2.2) (fun (x:Empty)=>x.elim)
def rotG (fuel:Nat) (p1:Int) (p2:Int) (p3:Int) (l0:List α):Option (List α) :=
 outK (loopN (S:=Int × Int × (List α)) (R:=Empty) (fun (a1:Int × Int × (List α))=>bf (!decide (a1.1=a1.2.1)) (bf (decide (a1.2.1 < a1.1)) ((swapG fuel (IntKind.i64.wrap (p2 - a1.1)) p2 a1.2.1 a1.2.2).bind fun r4=>need (r4.length=a1.2.2.length) <| some (.next ((IntKind.i64.wrap (a1.1 - a1.2.1)),a1.2.1,r4))) ((swapG fuel (IntKind.i64.wrap (p2 - a1.1)) (IntKind.i64.wrap ((IntKind.i64.wrap (p2 + a1.2.1)) - a1.1)) a1.1 a1.2.2).bind fun r6=>need (r6.length=a1.2.2.length) <| some (.next (a1.1,(IntKind.i64.wrap (a1.2.1 - a1.1)),r6)))) (some (.brk (a1.1,a1.2.1,a1.2.2)))) fuel ((IntKind.i64.wrap (p2 - p1)),(IntKind.i64.wrap (p3 - p2)),l0)) (fun (a2:Int × Int × (List α))=>(swapG fuel (IntKind.i64.wrap (p2 - a2.1)) p2 a2.1 a2.2.2).bind fun r3=>some r3) (fun (x:Empty)=>x.elim)
def symG (cmp : α → α → Option Int):Nat→Int→Int→Int→(List α)→Option (List α)
 | 0,_,_,_,_=>none
 | fuel + 1,p1,p2,p3,l0 =>
 bf (decide ((IntKind.i64.wrap (p2 - p1))=1)) (outK (loopN (S:=Int × Int) (R:=Empty) (fun (a1:Int × Int)=>bf (decide (a1.1 < a1.2)) (need ((0:Int)≤(IntKind.i64.wrap (shrOp .u64 (IntKind.u64.wrap (IntKind.i64.wrap (a1.1 + a1.2))) 1))∧(IntKind.i64.wrap (shrOp .u64 (IntKind.u64.wrap (IntKind.i64.wrap (a1.1 + a1.2))) 1)) < (l0.length:Int)) <| need ((0 + (IntKind.i64.wrap (shrOp .u64 (IntKind.u64.wrap (IntKind.i64.wrap (a1.1 + a1.2))) 1)).toNat) < l0.length) <| need ((0:Int)≤p1∧p1 < (l0.length:Int)) <| need ((0 + p1.toNat) < l0.length) <| (cmp (l0.getD (0 + (IntKind.i64.wrap (shrOp .u64 (IntKind.u64.wrap (IntKind.i64.wrap (a1.1 + a1.2))) 1)).toNat) default) (l0.getD (0 + p1.toNat) default)).bind fun r17=>bf (decide (r17 < 0)) (some (.next ((IntKind.i64.wrap ((IntKind.i64.wrap (shrOp .u64 (IntKind.u64.wrap (IntKind.i64.wrap (a1.1 + a1.2))) 1)) + 1)),a1.2))) (some (.next (a1.1,(IntKind.i64.wrap (shrOp .u64 (IntKind.u64.wrap (IntKind.i64.wrap (a1.1 + a1.2))) 1)))))) (some (.brk (a1.1,a1.2)))) fuel (p2,p3)) (fun (a2:Int × Int)=>outK (loopN (S:=Int × (List α)) (R:=Empty) (fun (a3:Int × (List α))=>bf (decide (a3.1 < (IntKind.i64.wrap (a2.1 - 1)))) (need ((0:Int)≤(IntKind.i64.wrap (a3.1 + 1))∧(IntKind.i64.wrap (a3.1 + 1)) < (a3.2.length:Int)) <| need ((0 + (IntKind.i64.wrap (a3.1 + 1)).toNat) < a3.2.length) <| need ((0:Int)≤a3.1∧a3.1 < (a3.2.length:Int)) <| need ((0 + a3.1.toNat) < a3.2.length) <| need ((0:Int)≤a3.1∧a3.1 < (a3.2.length:Int)) <| need ((0 + a3.1.toNat) < a3.2.length) <| need ((0:Int)≤(IntKind.i64.wrap (a3.1 + 1))∧(IntKind.i64.wrap (a3.1 + 1)) < (a3.2.length:Int)) <| need ((0 + (IntKind.i64.wrap (a3.1 + 1)).toNat) < (a3.2.set (0 + a3.1.toNat) (a3.2.getD (0 + (IntKind.i64.wrap (a3.1 + 1)).toNat) default)).length) <| some (.next ((IntKind.i64.wrap (a3.1 + 1)),((a3.2.set (0 + a3.1.toNat) (a3.2.getD (0 + (IntKind.i64.wrap (a3.1 + 1)).toNat) default)).set (0 + (IntKind.i64.wrap (a3.1 + 1)).toNat) (a3.2.getD (0 + a3.1.toNat) default))))) (some (.brk (a3.1,a3.2)))) fuel (p1,l0)) (fun (a4:Int × (List α))=>some a4.2) (fun (x:Empty)=>x.elim)) (fun (x:Empty)=>x.elim)) (bf (decide ((IntKind.i64.wrap (p3 - p2))=1)) (outK (loopN (S:=Int × Int) (R:=Empty) (fun (a18:Int × Int)=>bf (decide (a18.1 < a18.2)) (need ((0:Int)≤p2∧p2 < (l0.length:Int)) <| need ((0 + p2.toNat) < l0.length) <| need ((0:Int)≤(IntKind.i64.wrap (shrOp .u64 (IntKind.u64.wrap (IntKind.i64.wrap (a18.1 + a18.2))) 1))∧(IntKind.i64.wrap (shrOp .u64 (IntKind.u64.wrap (IntKind.i64.wrap (a18.1 + a18.2))) 1)) < (l0.length:Int)) <| need ((0 + (IntKind.i64.wrap (shrOp .u64 (IntKind.u64.wrap (IntKind.i64.wrap (a18.1 + a18.2))) 1)).toNat) < l0.length) <| (cmp (l0.getD (0 + p2.toNat) default) (l0.getD (0 + (IntKind.i64.wrap (shrOp .u64 (IntKind.u64.wrap (IntKind.i64.wrap (a18.1 + a18.2))) 1)).toNat) default)).bind fun r34=>bf (!(decide (r34 < 0))) (some (.next ((IntKind.i64.wrap ((IntKind.i64.wrap (shrOp .u64 (IntKind.u64.wrap (IntKind.i64.wrap (a18.1 + a18.2))) 1)) + 1)),a18.2))) (some (.next (a18.1,(IntKind.i64.wrap (shrOp .u64 (IntKind.u64.wrap (IntKind.i64.wrap (a18.1 + a18.2))) 1)))))) (some (.brk (a18.1,a18.2)))) fuel (p1,p2)) (fun (a19:Int × Int)=>outK (loopN (S:=Int × (List α)) (R:=Empty) (fun (a20:Int × (List α))=>bf (decide (a19.1 < a20.1)) (need ((0:Int)≤(IntKind.i64.wrap (a20.1 - 1))∧(IntKind.i64.wrap (a20.1 - 1)) < (a20.2.length:Int)) <| need ((0 + (IntKind.i64.wrap (a20.1 - 1)).toNat) < a20.2.length) <| need ((0:Int)≤a20.1∧a20.1 < (a20.2.length:Int)) <| need ((0 + a20.1.toNat) < a20.2.length) <| need ((0:Int)≤a20.1∧a20.1 < (a20.2.length:Int)) <| need ((0 + a20.1.toNat) < a20.2.length) <| need ((0:Int)≤(IntKind.i64.wrap (a20.1 - 1))∧(IntKind.i64.wrap (a20.1 - 1)) < (a20.2.length:Int)) <| need ((0 + (IntKind.i64.wrap (a20.1 - 1)).toNat) < (a20.2.set (0 + a20.1.toNat) (a20.2.getD (0 + (IntKind.i64.wrap (a20.1 - 1)).toNat) default)).length) <| some (.next ((IntKind.i64.wrap (a20.1 - 1)),((a20.2.set (0 + a20.1.toNat) (a20.2.getD (0 + (IntKind.i64.wrap (a20.1 - 1)).toNat) default)).set (0 + (IntKind.i64.wrap (a20.1 - 1)).toNat) (a20.2.getD (0 + a20.1.toNat) default))))) (some (.brk (a20.1,a20.2)))) fuel (p2,l0)) (fun (a21:Int × (List α))=>some a21.2) (fun (x:Empty)=>x.elim)) (fun (x:Empty)=>x.elim)) (jn (fun (a35:Int × Int × Int × Int)=>outK (loopN (S:=Int × Int) (R:=Empty) (fun (a37:Int × Int)=>bf (decide (a37.1 < a37.2)) (need ((0:Int)≤(IntKind.i64.wrap ((IntKind.i64.wrap (a35.2.1 - 1)) - (IntKind.i64.wrap (shrOp .u64 (IntKind.u64.wrap (IntKind.i64.wrap (a37.1 + a37.2))) 1))))∧(IntKind.i64.wrap ((IntKind.i64.wrap (a35.2.1 - 1)) - (IntKind.i64.wrap (shrOp .u64 (IntKind.u64.wrap (IntKind.i64.wrap (a37.1 + a37.2))) 1)))) < (l0.length:Int)) <| need ((0 + (IntKind.i64.wrap ((IntKind.i64.wrap (a35.2.1 - 1)) - (IntKind.i64.wrap (shrOp .u64 (IntKind.u64.wrap (IntKind.i64.wrap (a37.1 + a37.2))) 1)))).toNat) < l0.length) <| need ((0:Int)≤(IntKind.i64.wrap (shrOp .u64 (IntKind.u64.wrap (IntKind.i64.wrap (a37.1 + a37.2))) 1))∧(IntKind.i64.wrap (shrOp .u64 (IntKind.u64.wrap (IntKind.i64.wrap (a37.1 + a37.2))) 1)) < (l0.length:Int)) <| need ((0 + (IntKind.i64.wrap (shrOp .u64 (IntKind.u64.wrap (IntKind.i64.wrap (a37.1 + a37.2))) 1)).toNat) < l0.length) <| (cmp (l0.getD (0 + (IntKind.i64.wrap ((IntKind.i64.wrap (a35.2.1 - 1)) - (IntKind.i64.wrap (shrOp .u64 (IntKind.u64.wrap (IntKind.i64.wrap (a37.1 + a37.2))) 1)))).toNat) default) (l0.getD (0 + (IntKind.i64.wrap (shrOp .u64 (IntKind.u64.wrap (IntKind.i64.wrap (a37.1 + a37.2))) 1)).toNat) default)).bind fun r58=>bf (!(decide (r58 < 0))) (some (.next ((IntKind.i64.wrap ((IntKind.i64.wrap (shrOp .u64 (IntKind.u64.wrap (IntKind.i64.wrap (a37.1 + a37.2))) 1)) + 1)),a37.2))) (some (.next (a37.1,(IntKind.i64.wrap (shrOp .u64 (IntKind.u64.wrap (IntKind.i64.wrap (a37.1 + a37.2))) 1)))))) (some (.brk (a37.1,a37.2)))) fuel (a35.2.2.1,a35.2.2.2)) (fun (a38:Int × Int)=>jn (fun (a39:Int × (List α))=>jn (fun (a41:List α)=>jn (fun (a43:Bool)=>bf a43 ((symG cmp fuel a35.1 a39.1 p3 a41).bind fun r45=>some r45) (some a41)) fun j44=>bf (decide (a35.1 < a39.1)) (j44 (decide (a39.1 < p3))) (j44 false)) fun j42=>jn (fun (a46:Bool)=>bf a46 ((symG cmp fuel p1 a38.1 a35.1 a39.2).bind fun r48=>need (r48.length=a39.2.length) <| j42 r48) (j42 a39.2)) fun j47=>bf (decide (p1 < a38.1)) (j47 (decide (a38.1 < a35.1))) (j47 false)) fun j40=>jn (fun (a50:Int × Bool)=>bf a50.2 ((rotG fuel a38.1 p2 a50.1 l0).bind fun r52=>need (r52.length=l0.length) <| j40 (a50.1,r52)) (j40 (a50.1,l0))) fun j51=>bf (decide (a38.1 < p2)) (j51 ((IntKind.i64.wrap (a35.2.1 - a38.1)),(decide (p2 < (IntKind.i64.wrap (a35.2.1 - a38.1)))))) (j51 ((IntKind.i64.wrap (a35.2.1 - a38.1)),false))) (fun (x:Empty)=>x.elim)) fun j36=>bf (decide ((IntKind.i64.wrap (shrOp .u64 (IntKind.u64.wrap (IntKind.i64.wrap (p1 + p3))) 1)) < p2)) (j36 ((IntKind.i64.wrap (shrOp .u64 (IntKind.u64.wrap (IntKind.i64.wrap (p1 + p3))) 1)),(IntKind.i64.wrap ((IntKind.i64.wrap (shrOp .u64 (IntKind.u64.wrap (IntKind.i64.wrap (p1 + p3))) 1)) + p2)),(IntKind.i64.wrap ((IntKind.i64.wrap ((IntKind.i64.wrap (shrOp .u64 (IntKind.u64.wrap (IntKind.i64.wrap (p1 + p3))) 1)) + p2)) - p3)),(IntKind.i64.wrap (shrOp .u64 (IntKind.u64.wrap (IntKind.i64.wrap (p1 + p3))) 1)))) (j36 ((IntKind.i64.wrap (shrOp .u64 (IntKind.u64.wrap (IntKind.i64.wrap (p1 + p3))) 1)),(IntKind.i64.wrap ((IntKind.i64.wrap (shrOp .u64 (IntKind.u64.wrap (IntKind.i64.wrap (p1 + p3))) 1)) + p2)),p1,p2))))
def stabG (cmp : α → α → Option Int) (fuel:Nat) (p1:Int) (l0:List α):Option (List α) :=
 outK (loopN (S:=Int × Int × (List α)) (R:=Empty) (fun (a1:Int × Int × (List α))=>bf (decide (a1.2.1≤p1)) ((insG cmp fuel a1.1 a1.2.1 a1.2.2).bind fun r15=>need (r15.length=a1.2.2.length) <| some (.next (a1.2.1,(IntKind.i64.wrap (a1.2.1 + 20)),r15))) (some (.brk (a1.1,a1.2.1,a1.2.2)))) fuel (0,20,l0)) (fun (a2:Int × Int × (List α))=>(insG cmp fuel a2.1 p1 a2.2.2).bind fun r3=>need (r3.length=a2.2.2.length) <| outK (loopN (S:=Int × (List α)) (R:=Empty) (fun (a5:Int × (List α))=>bf (decide (a5.1 < p1)) (outK (loopN (S:=Int × Int × (List α)) (R:=Empty) (fun (a7:Int × Int × (List α))=>bf (decide (a7.2.1≤p1)) ((symG cmp fuel a7.1 (IntKind.i64.wrap (a7.1 + a5.1)) a7.2.1 a7.2.2).bind fun r13=>need (r13.length=a7.2.2.length) <| some (.next (a7.2.1,(IntKind.i64.wrap (a7.2.1 + (IntKind.i64.wrap ((2:Int) * a5.1)))),r13))) (some (.brk (a7.1,a7.2.1,a7.2.2)))) fuel (0,(IntKind.i64.wrap ((2:Int) * a5.1)),a5.2)) (fun (a8:Int × Int × (List α))=>jn (fun (a9:List α)=>some (.next ((IntKind.i64.wrap (a5.1 * 2)),a9))) fun j10=>bf (decide ((IntKind.i64.wrap (a8.1 + a5.1)) < p1)) ((symG cmp fuel a8.1 (IntKind.i64.wrap (a8.1 + a5.1)) p1 a8.2.2).bind fun r11=>need (r11.length=a8.2.2.length) <| j10 r11) (j10 a8.2.2)) (fun (x:Empty)=>x.elim)) (some (.brk (a5.1,a5.2)))) fuel (20,r3)) (fun (a6:Int × (List α))=>some a6.2) (fun (x:Empty)=>x.elim)) (fun (x:Empty)=>x.elim)
end
end Go.Av
namespace Go.Av
open Go
set_option linter.unusedVariables false
set_option linter.unusedSimpArgs false
section
variable {α:Type} [Inhabited α]
theorem z1p (d:Array α) (j:Nat):d.toList.getD j default=d[j]!:=by
 rw [List.getD_eq_getElem?_getD,Array.getElem?_toList,getElem!_def]
 cases d[j]? <;> rfl
theorem z2r (d:Array α) (i j:Nat):(d.toList.set i d[j]!).set j d[i]! = (Sort.swp d i j).toList:=by
 unfold Sort.swp
 rw [Array.toList_setIfInBounds,Array.toList_setIfInBounds]
theorem z10 (d:Array α) (i j:Nat):(Sort.swp d i j).size=d.size:=by unfold Sort.swp; simp
theorem wsub1 {j:Nat} (h1:1≤j) (h:j < 4611686018427387904):IntKind.i64.wrap ((j:Int) - 1)=((j - 1:Nat):Int):=by
 rw [z1t (by omega) (by omega)]; omega
theorem wadd1 {j:Nat} (h:j < 4611686018427387904):IntKind.i64.wrap ((j:Int) + 1)=((j + 1:Nat):Int):=by
 rw [z1t (by omega) (by omega)]; omega
theorem wsub {i j:Nat} (h1:j≤i) (h:i < 4611686018427387904):IntKind.i64.wrap ((i:Int) - (j:Int))=((i - j:Nat):Int):=by
 rw [z1t (by omega) (by omega)]; omega
theorem wadd {i j:Nat} (h:i + j < 4611686018427387904):IntKind.i64.wrap ((i:Int) + (j:Int))=((i + j:Nat):Int):=by
 rw [z1t (by omega) (by omega)]; omega
theorem wtwo {i:Nat} (h:2 * i < 4611686018427387904):IntKind.i64.wrap ((2:Int) * (i:Int))=((2 * i:Nat):Int):=by
 rw [z1t (by omega) (by omega)]; omega
theorem intle {i j:Nat}:((i:Int)≤(j:Int))=(i≤j):=propext (by omega)
theorem intlt {i j:Nat}:((i:Int) < (j:Int))=(i < j):=propext (by omega)
theorem z1e {S R:Type} {B:S→Option (Ctl S R)} {fuel:Nat} {s s' : S} (h:B s=some (.next s')):loopN B (fuel + 1) s=loopN B fuel s':=by rw [loopN,h]
theorem z0w {S R:Type} {B:S→Option (Ctl S R)} {fuel:Nat} {s s' : S} (h:B s=some (.brk s')):loopN B (fuel + 1) s=some (.done s'):=by rw [loopN,h]
theorem z8r {S R:Type} {B:S→Option (Ctl S R)} {fuel:Nat} {s:S} {r:R} (h:B s=some (.ret r)):loopN B (fuel + 1) s=some (.ret r):=by rw [loopN,h]
theorem z6z {X Y R Q:Type} {o:Option (Out (X × Y) R)} {kn:X × Y→Option Q} {kr:R→Option Q} {r:Y} {q:Option Q} (h:∃ x:X,o=some (.done (x,r))) (hk:∀ x,kn (x,r)=q):outK o kn kr=q:=by
 obtain ⟨x,h⟩:=h
 rw [h]
 exact hk x
end
end Go.Av
