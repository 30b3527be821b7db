import Derived.Test.YtgpkbkdmpdmmiaaGreatL9x4
import Derived.Test.YtgpkbkdmpdmmiaaGreatProg
import Derived.Sort.LotD3
import Derived.Sort.LotD4
import Derived.Sort.LotA
import Derived.Sort.LotB
import Derived.Sort.LotC
import Derived.Sort.AssemblyPlain
set_option maxRecDepth 100000
namespace Go.Av
open Go Go.Proofs
set_option linter.unusedVariables false
set_option linter.unusedSimpArgs false
theorem z8n {p0:List Value} {q:List Value} (h:z49 p0=some q) :
  Summ Tryz.prog 91 [cD (lD 3 z04 p0)] [] (cD (lD 3 z04 q)) []:=by
 refine Summ.intro Tryz.func91 rfl (by kernel_rfl) (by kernel_rfl) [] rfl ?_
 rintro ⟨P,w0,G0,V,LL,lk,N, φ0,fx⟩ rfl rfl rfl rfl
 unfold z49 at h
 refine Tri.segL [0] [] ⟨[(0,cD (lD 3 z04 p0))],[]⟩ _ (by kernel_rfl) (z00 1) ?_
 refine Tri.seqS ?_
 refine Tri.reg ?_
 refine At.one rfl (One.build0 (e:=58) (es:=3) rfl rfl rfl rfl (by kernel_rfl) rfl) ?_
 refine At.seg 1 [3,4] [] (s':=⟨[(3,.c (.zero)),(4,cD (lD 3 z04 p0))],[]⟩) (by kernel_rfl) (z00 1) ?_
 obtain ⟨hc1,h⟩:=z03 h
 refine At.one rfl (One.append0 (e:=58) (es:=3) (m:=p0.length) (get:=fun i=>z04 (p0.getD i default)) rfl rfl rfl rfl (by kernel_rfl) (.of 58 32 [.d (.bool false),.d (dI 0),.d (.str (bs []))] (by kernel_rfl) (by kernel_rfl) (by kernel_rfl) (by kernel_rfl) rfl (by kernel_rfl) rfl) rfl rfl (.list rfl (fun _ _=>rfl)) hc1) ?_
 refine At.sg 1 [2] [5] (z00 1) ?_
 refine At.done rfl ?_
 refine Tri.keep [2] [5] (s':=⟨[(2,.c (oC 5 3 p0))],[(5,vL 3 z04 p0)]⟩) (by kernel_rfl) ?_
 refine Tri.le [5] (fun k hk h=>by first | (cases h; done) | (simp at hk h; omega)) ⟨[(2,cD (lD 3 z04 p0))],[]⟩ ⟨⟨_,rfl,.c (CLe.frozen (z04) p0 rfl (by simp))⟩,trivial⟩ trivial ?_
 refine Tri.ret ?_
 cases h
 exact RetAt.k
theorem zaw {p0:Value} {p1:Value} {q:Int} (h:z44 p0 p1=some q) :
    Summ Tryz.prog 106 [.agg (cValue p0),.agg (cValue p1)] [] (cD (dI q)) []:=by
  refine Summ.intro Tryz.func106 rfl (by kernel_rfl) (by kernel_rfl) [] rfl ?_
  rintro ⟨P,w0,G0,V,LL,lk,N, φ0,fx⟩ rfl rfl rfl rfl
  unfold z44 at h
  refine Tri.segL [2,3] [2,3] ⟨[(2,.c (.ptr 2 0)),(3,.c (.ptr 3 0))],[(2,.box (cValue p0)),(3,.box (cValue p1))]⟩ _ (by kernel_rfl) (z00 3) ?_
  refine Tri.seqJ (fun (a1:Bool × Bool)=>⟨[(2,.c (.ptr 2 0)),(3,.c (.ptr 3 0)),(5,cD (.bool a1.1)),(6,cD (.bool a1.2))],[(2,.box (cValue p0)),(3,.box (cValue p1))]⟩) h (fun a1 h => ?_) (fun j2 h => ?_)
  ·refine Tri.seqJ (fun (a3:Bool × Bool)=>⟨[(5,cD (.bool a3.1)),(6,cD (.bool a3.2))],[]⟩) h (fun a3 h => ?_) (fun j4 h => ?_)
   ·refine Tri.seqS ?_
    refine Tri.blockB ?_
    refine Tri.sg [6,55] [] (z00 2) ?_
    refine Tri.condK h (fun h => ?_) (fun h => ?_)
    ·refine Tri.sg [4] [] (z00 1) ?_
     refine Tri.ret ?_
     cases h
     exact RetAt.k
    ·refine Tri.sg [57] [] (z00 2) ?_
     refine Tri.condK h (fun h => ?_) (fun h => ?_)
     ·refine Tri.sg [4] [] (z00 1) ?_
      refine Tri.ret ?_
      cases h
      exact RetAt.k
     ·refine Tri.skip ?_
      refine Tri.sg [4] [] (z00 1) ?_
      refine Tri.ret ?_
      cases h
      exact RetAt.k
   ·refine Tri.seqJ (fun (a5:Bool)=>⟨[(2,.c (.ptr 2 0)),(3,.c (.ptr 3 0)),(5,cD (.bool a1.1)),(6,cD (.bool a1.2)),(26,cD (.bool a5))],[(2,.box (cValue p0)),(3,.box (cValue p1))]⟩) h (fun a5 h => ?_) (fun j6 h => ?_)
    ·refine Tri.condK h (fun h => ?_) (fun h => ?_)
     ·refine Tri.dC [.a [2] [],.a [27] [2],.a [3] [],.a [29] [3],.a [28,30] [],.a [2] [],.a [32] [2],.a [3] [],.a [34] [3],.a [33,35] [],.a [31] [],.a [36] []] [5,6] [] (z00 12) (.a (.a (.a (.a (.a (.a (.a (.a (.a (.a (.a (.a .z)))))))))))) ?_
      exact ⟨_,h,kr⟩
     ·refine Tri.seqJ (fun (a7:Bool)=>⟨[(2,.c (.ptr 2 0)),(3,.c (.ptr 3 0)),(5,cD (.bool a1.1)),(6,cD (.bool a1.2)),(44,cD (.bool a7))],[(2,.box (cValue p0)),(3,.box (cValue p1))]⟩) h (fun a7 h => ?_) (fun j8 h => ?_)
      ·refine Tri.condK h (fun h => ?_) (fun h => ?_)
       ·refine Tri.dC [.a [2] [],.a [45] [2],.a [3] [],.a [47] [3],.a [46,48] [],.a [2] [],.a [50] [2],.a [3] [],.a [52] [3],.a [51,53] [],.a [49] [],.a [54] []] [5,6] [] (z00 12) (.a (.a (.a (.a (.a (.a (.a (.a (.a (.a (.a (.a .z)))))))))))) ?_
        exact ⟨_,h,kr⟩
       ·refine Tri.kp [5,6] [] ?_
        refine Tri.skip ?_
        exact ⟨_,h,kr⟩
      ·refine Tri.reg ?_
       refine At.sg 4 [2,3,5,6,40] [2,3] (z00 4) ?_
       refine At.cs [40] h (fun h => ?_) (fun h => ?_)
       ·refine At.sg 4 [2,3,5,6,44] [2,3] (z00 4) ?_
        refine At.done rfl ?_
        exact ⟨_,h,kr⟩
       ·refine At.sg 4 [2,3,5,6,44] [2,3] (z00 1) ?_
        refine At.done rfl ?_
        exact ⟨_,h,kr⟩
    ·refine Tri.reg ?_
     refine At.sg 3 [2,3,5,6,23] [2,3] (z00 3) ?_
     refine At.cs [23] h (fun h => ?_) (fun h => ?_)
     ·refine At.sg 3 [2,3,5,6,26] [2,3] (z00 3) ?_
      refine At.done rfl ?_
      exact ⟨_,h,kr⟩
     ·refine At.sg 3 [2,3,5,6,26] [2,3] (z00 1) ?_
      refine At.done rfl ?_
      exact ⟨_,h,kr⟩
  ·rcases z1o h with ⟨hp9,h⟩ | ⟨hp9,h⟩
   ·rcases z1o h with ⟨hp10,h⟩ | ⟨hp10,h⟩
    ·refine Tri.dC [.a [2] [],.a [7] [2],.a [8] [],.m ⟨[(9,cD (.bool (!p0.isText)))],[]⟩ ⟨[(10,.c (.d (.bool true)))],[]⟩ [] [] [],.a [3,10] [],.a [10,11] [3],.a [10,12] [],.a [2] [],.a [14] [2],.m ⟨[(15,cD (.bool p0.isText))],[]⟩ ⟨[(16,.c (.d (.bool true)))],[]⟩ [] [] [],.a [3,16] [],.a [16,17] [3],.a [16,18] [],.a [16,19] [],.a [13] [],.a [20] []] [2,3,5,6] [2,3] (z00 14) (.a (.a (.a (.m ?_ (.a (.a (.a (.a (.a (.m ?_ (.a (.a (.a (.a (.a (.a .z)))))))))))))))) ?_
     · exact DOk.stepP (fun b => .val (.c (.d (.bool b))) (True)) (p:=(!p0.isText)) hp9 (fun r=>by kernel_rfl) (fun r=>by kernel_rfl) trivial (by kernel_rfl) (by kernel_rfl) (fun r=>rfl)
     · exact DOk.stepP (fun b => .val (.c (.d (.bool b))) (True)) (p:=p0.isText) hp10 (fun r=>by kernel_rfl) (fun r=>by kernel_rfl) trivial (by kernel_rfl) (by kernel_rfl) (fun r=>rfl)
     exact ⟨_,h,kr⟩
    ·refine Tri.dC [.a [2] [],.a [7] [2],.a [8] [],.m ⟨[(9,cD (.bool (!p0.isText)))],[]⟩ ⟨[(10,.c (.d (.bool true)))],[]⟩ [] [] [],.a [3,10] [],.a [10,11] [3],.a [10,12] [],.a [2] [],.a [14] [2],.m ⟨[(15,cD (.bool p0.isText))],[]⟩ ⟨[(16,.c (.d (.bool false)))],[]⟩ [] [] [],.a [3,16] [],.a [16,17] [],.a [16,18] [],.a [16,19] [],.a [13] [],.a [20] []] [2,3,5,6] [2,3] (z00 11) (.a (.a (.a (.m ?_ (.a (.a (.a (.a (.a (.m ?_ (.a (.a (.a (.a (.a (.a .z)))))))))))))))) ?_
     · exact DOk.stepP (fun b => .val (.c (.d (.bool b))) (True)) (p:=(!p0.isText)) hp9 (fun r=>by kernel_rfl) (fun r=>by kernel_rfl) trivial (by kernel_rfl) (by kernel_rfl) (fun r=>rfl)
     · exact DOk.stepP (fun b => .val (.c (.d (.bool b))) (True)) (p:=p0.isText) hp10 (fun r=>by kernel_rfl) (fun r=>by kernel_rfl) trivial (by kernel_rfl) (by kernel_rfl) (fun r=>rfl)
     exact ⟨_,h,kr⟩
   ·rcases z1o h with ⟨hp11,h⟩ | ⟨hp11,h⟩
    ·refine Tri.dC [.a [2] [],.a [7] [2],.a [8] [],.m ⟨[(9,cD (.bool (!p0.isText)))],[]⟩ ⟨[(10,.c (.d (.bool false)))],[]⟩ [] [] [],.a [3,10] [],.a [10,11] [],.a [10,12] [],.a [2] [],.a [14] [2],.m ⟨[(15,cD (.bool p0.isText))],[]⟩ ⟨[(16,.c (.d (.bool true)))],[]⟩ [] [] [],.a [3,16] [],.a [16,17] [3],.a [16,18] [],.a [16,19] [],.a [13] [],.a [20] []] [2,3,5,6] [2,3] (z00 12) (.a (.a (.a (.m ?_ (.a (.a (.a (.a (.a (.m ?_ (.a (.a (.a (.a (.a (.a .z)))))))))))))))) ?_
     · exact DOk.stepP (fun b => .val (.c (.d (.bool b))) (True)) (p:=(!p0.isText)) hp9 (fun r=>by kernel_rfl) (fun r=>by kernel_rfl) trivial (by kernel_rfl) (by kernel_rfl) (fun r=>rfl)
     · exact DOk.stepP (fun b => .val (.c (.d (.bool b))) (True)) (p:=p0.isText) hp11 (fun r=>by kernel_rfl) (fun r=>by kernel_rfl) trivial (by kernel_rfl) (by kernel_rfl) (fun r=>rfl)
     exact ⟨_,h,kr⟩
    ·refine Tri.dC [.a [2] [],.a [7] [2],.a [8] [],.m ⟨[(9,cD (.bool (!p0.isText)))],[]⟩ ⟨[(10,.c (.d (.bool false)))],[]⟩ [] [] [],.a [3,10] [],.a [10,11] [],.a [10,12] [],.a [2] [],.a [14] [2],.m ⟨[(15,cD (.bool p0.isText))],[]⟩ ⟨[(16,.c (.d (.bool false)))],[]⟩ [] [] [],.a [3,16] [],.a [16,17] [],.a [16,18] [],.a [16,19] [],.a [13] [],.a [20] []] [2,3,5,6] [2,3] (z00 9) (.a (.a (.a (.m ?_ (.a (.a (.a (.a (.a (.m ?_ (.a (.a (.a (.a (.a (.a .z)))))))))))))))) ?_
     · exact DOk.stepP (fun b => .val (.c (.d (.bool b))) (True)) (p:=(!p0.isText)) hp9 (fun r=>by kernel_rfl) (fun r=>by kernel_rfl) trivial (by kernel_rfl) (by kernel_rfl) (fun r=>rfl)
     · exact DOk.stepP (fun b => .val (.c (.d (.bool b))) (True)) (p:=p0.isText) hp11 (fun r=>by kernel_rfl) (fun r=>by kernel_rfl) trivial (by kernel_rfl) (by kernel_rfl) (fun r=>rfl)
     exact ⟨_,h,kr⟩
theorem z5e {fuel:Nat} {p0:List Value} {p1:List Value} {q:Int} (h:z2i fuel p0 p1=some q) :
    Summ Tryz.prog 70 [cD (lD 3 z04 p0),cD (lD 3 z04 p1)] [] (cD (dI q)) []:=by
  refine Summ.intro Tryz.func70 rfl (by kernel_rfl) (by kernel_rfl) [] rfl ?_
  rintro ⟨P,w0,G0,V,LL,lk,N, φ0,fx⟩ rfl rfl rfl rfl
  unfold z2i at h
  refine Tri.sg [0,1] [] (z00 1) ?_
  refine Tri.seqS ?_
  refine Tri.sg [0,1,5] [] (z00 1) ?_
  refine Tri.lK (0) (fun (x:Int) s=>RetAt Tryz.prog Tryz.f70 (cD (dI x)) [] s) (fun (a1:Int)=>⟨[(0,cD (lD 3 z04 p0)),(1,cD (lD 3 z04 p1)),(5,cD (dI a1))],[]⟩) [0,1,5] [] h ?_ ?_ ?_
  ·intro a1 c h
   refine Tri.seqS ?_
   refine Tri.seqJ (fun (a3:Bool)=>⟨[(0,cD (lD 3 z04 p0)),(1,cD (lD 3 z04 p1)),(5,cD (dI a1)),(16,cD (.bool a3))],[]⟩) h (fun a3 h => ?_) (fun j4 h => ?_)
   ·refine Tri.condK h (fun h => ?_) (fun h => ?_)
    ·refine Tri.skip ?_
     refine Tri.seqS ?_
     refine Tri.blockB ?_
     refine Tri.seqS ?_
     obtain ⟨hc5,h⟩:=z03 h
     obtain ⟨hc6,h⟩:=z03 h
     obtain ⟨r7,hr7,h⟩:=z05 h
     refine Tri.dC [.a [0] [],.a [5] [],.a [19,20] [],.a [21] [],.a [1] [],.a [5] [],.a [23,24] [],.a [25] [],.m ⟨[(22,.agg (cValue (p0.getD a1.toNat default))),(26,.agg (cValue (p1.getD a1.toNat default)))],[]⟩ ⟨[(27,cD (dI r7))],[]⟩ [] [] [],.a [27] []] [0,1,5,6] [] (tN 2 (ai hc5 (tN 3 (ai hc6 (z00 2))))) (.a (.a (.a (.a (.a (.a (.a (.a (.m ?_ (.a .z)))))))))) ?_
     · exact DOk.cA [] [.agg (cValue (p0.getD a1.toNat default)),.agg (cValue (p1.getD a1.toNat default))] (zaw hr7) fun r=>(.cons (.refl _) (.cons (.refl _) .nil))
     refine Tri.sg [0,1,5,6,29] [] (z00 2) ?_
     refine Tri.condK h (fun h => ?_) (fun h => ?_)
     ·refine Tri.sg [4] [] (z00 2) ?_
      refine Tri.ret ?_
      cases h
      exact RetAt.k
     ·refine Tri.skip ?_
      refine Tri.reg ?_
      refine At.sg 3 [0,1,5] [] (z00 3) ?_
      refine At.done rfl ?_
      cases h
      exact kr
    ·refine Tri.kp [0,1,5] [] ?_
     refine Tri.exit ?_
     cases h
     exact ⟨rfl,kr⟩
   ·refine Tri.reg ?_
    refine At.sg 5 [0,1,5,11] [] (z00 5) ?_
    refine At.cs [11] h (fun h => ?_) (fun h => ?_)
    ·refine At.sg 5 [0,1,5,16] [] (z00 5) ?_
     refine At.done rfl ?_
     exact ⟨_,h,kr⟩
    ·refine At.sg 5 [0,1,5,16] [] (z00 1) ?_
     refine At.done rfl ?_
     exact ⟨_,h,kr⟩
  ·intro a2 h
   refine Tri.seqS ?_
   refine Tri.blockB ?_
   refine Tri.sg [0,1,31] [] (z00 6) ?_
   refine Tri.condK h (fun h => ?_) (fun h => ?_)
   ·refine Tri.sg [4] [] (z00 1) ?_
    refine Tri.ret ?_
    cases h
    exact RetAt.k
   ·refine Tri.sg [37] [] (z00 6) ?_
    refine Tri.condK h (fun h => ?_) (fun h => ?_)
    ·refine Tri.sg [4] [] (z00 1) ?_
     refine Tri.ret ?_
     cases h
     exact RetAt.k
    ·refine Tri.skip ?_
     refine Tri.sg [4] [] (z00 1) ?_
     refine Tri.ret ?_
     cases h
     exact RetAt.k
  · exact fun x s hx hr=>by cases hx; exact hr
theorem zat {fuel:Nat} {p0:Update} {p1:Update} {q:Int} (h:z3a fuel p0 p1=some q) :
    Summ Tryz.prog 83 [.agg (cUpdate p0),.agg (cUpdate p1)] [] (cD (dI q)) []:=by
  refine Summ.intro Tryz.func83 rfl (by kernel_rfl) (by kernel_rfl) [] rfl ?_
  rintro ⟨P,w0,G0,V,LL,lk,N, φ0,fx⟩ rfl rfl rfl rfl
  unfold z3a at h
  refine Tri.sg [2,3] [2,3] (z00 3) ?_
  refine Tri.seqS ?_
  refine Tri.reg ?_
  refine At.sg 4 [2,3,7,9] [2,3] (z00 4) ?_
  obtain ⟨r1,hr1,h⟩:=z05 h
  refine At.cA [] [cD (lD 3 z04 p0.key),cD (lD 3 z04 p1.key)] (z5e hr1) (.cons (.refl _) (.cons (.refl _) .nil)) ?_
  refine At.sg 1 [2,3,5] [2,3] (z00 1) ?_
  refine At.done rfl ?_
  refine Tri.seqJ (fun (a2:Int)=>⟨[(2,.c (.ptr 2 0)),(3,.c (.ptr 3 0)),(5,cD (dI a2))],[(2,.box (cUpdate p0)),(3,.box (cUpdate p1))]⟩) h (fun a2 h => ?_) (fun j3 h => ?_)
  ·refine Tri.seqJ (fun (a4:Int)=>⟨[(5,cD (dI a4))],[]⟩) h (fun a4 h => ?_) (fun j5 h => ?_)
   ·refine Tri.sg [4] [] (z00 2) ?_
    refine Tri.ret ?_
    cases h
    exact RetAt.k
   ·refine Tri.sg [2,3,5,19] [2,3] (z00 2) ?_
    refine Tri.condK h (fun h => ?_) (fun h => ?_)
    ·refine Tri.reg ?_
     refine At.sg 4 [21,23] [] (z00 4) ?_
     obtain ⟨r6,hr6,h⟩:=z05 h
     refine At.cA [] [.agg (cTime p0.time),.agg (cTime p1.time)] (z7r hr6) (.cons (.refl _) (.cons (.refl _) .nil)) ?_
     refine At.sg 1 [5] [] (z00 1) ?_
     refine At.done rfl ?_
     exact ⟨_,h,kr⟩
    ·refine Tri.kp [5] [] ?_
     refine Tri.skip ?_
     exact ⟨_,h,kr⟩
  ·refine Tri.sg [2,3,5,12] [2,3] (z00 2) ?_
   refine Tri.condK h (fun h => ?_) (fun h => ?_)
   ·refine Tri.reg ?_
    refine At.sg 4 [2,3,14,16] [2,3] (z00 4) ?_
    obtain ⟨r7,hr7,h⟩:=z05 h
    refine At.cA [] [cD (lD 3 z04 p0.row),cD (lD 3 z04 p1.row)] (z5e hr7) (.cons (.refl _) (.cons (.refl _) .nil)) ?_
    refine At.sg 1 [2,3,5] [2,3] (z00 1) ?_
    refine At.done rfl ?_
    exact ⟨_,h,kr⟩
   ·refine Tri.kp [2,3,5] [2,3] ?_
    refine Tri.skip ?_
    exact ⟨_,h,kr⟩
theorem zax {p0:List Update} {q:List Update} (h:z59 p0=some q) :
    Summ Tryz.prog 53 [.c (wC 6 z01 p0)] [] (cD (lD 6 z01 q)) []:=by
  refine Summ.intro Tryz.func53 rfl (by kernel_rfl) (by kernel_rfl) [] rfl ?_
  rintro ⟨P,w0,G0,V,LL,lk,N, φ0,fx⟩ rfl rfl rfl rfl
  unfold z59 at h
  refine Tri.sg [0] [] (z00 1) ?_
  refine Tri.sg [0,3] [] (z00 1) ?_
  refine Tri.seqS ?_
  refine Tri.segL [3,6,7,8] [] ⟨[(3,.c (.zero)),(6,.c (wC 6 z01 p0)),(7,cD (dI (p0.length:Int))),(8,cD (dI 0))],[]⟩ _ (by kernel_rfl) (z00 3) ?_
  refine Tri.ln 6 p0.length fun hlena2 => ?_
  refine Tri.newOwn (t:=3) (k:=1003) (es:=6) (fun i=>z01 (([]:List Update).getD i default)) rfl rfl rfl ?_
  refine Tri.rK 8 ([]:List Update) (fun (x:Empty) s=>False) (fun (a2:List Update)=>⟨[(3,.c (oC 1003 6 a2)),(6,.c (wC 6 z01 p0)),(7,cD (dI (p0.length:Int)))],[(1003,vL 6 z01 a2)]⟩) [8,3,6,7] [1003] [9,8,3,6,7] [1003] [3,6,7] [1003] [8,3,6,7] [1003] h hlena2 ?_ ?_ ?_
  ·intro i1 a2 c hii1 h
   refine Tri.sg [3,5,6,7,8] [5,1003] (ai (show ((0:Int)≤((i1:Nat):Int)∧((i1:Nat):Int) < (p0.length:Int)) from ⟨by omega,by omega⟩) (z00 3)) ?_
   refine Tri.seqS ?_
   refine Tri.reg ?_
   refine At.sg 2 [3,5,6,7,8,13] [5,1003] (z00 2) ?_
   obtain ⟨r4,hr4,h⟩:=z05 h
   refine At.cA [] [cD (lD 3 z04 ((p0.getD i1 default).key))] (z8n hr4) (.cons (.refl _) .nil) ?_
   refine At.sg 2 [3,5,6,7,8] [5,1003] (z00 2) ?_
   refine At.done rfl ?_
   refine Tri.seqS ?_
   refine Tri.reg ?_
   refine At.sg 2 [3,5,6,7,8,17] [5,1003] (z00 2) ?_
   obtain ⟨r5,hr5,h⟩:=z05 h
   refine At.cA [] [cD (lD 3 z04 ((p0.getD i1 default).row))] (z8n hr5) (.cons (.refl _) .nil) ?_
   refine At.sg 2 [3,5,6,7,8] [5,1003] (z00 2) ?_
   refine At.done rfl ?_
   refine Tri.reg ?_
   refine At.seg 2 [6,7,8,20,21] [1003] (s':=⟨[(6,.c (wC 6 z01 p0)),(7,cD (dI (p0.length:Int))),(8,cD (dI ((i1:Nat):Int))),(20,.c (oC 1003 6 a2)),(21,.agg [.d (lD 3 z04 r4),.d (lD 3 z04 r5),.d (dU ((p0.getD i1 default).time.epoch)),.d (dU ((p0.getD i1 default).time.loop.1)),.d (dU ((p0.getD i1 default).time.loop.2)),.d (dI ((p0.getD i1 default).diff))])],[(1003,vL 6 z01 a2)]⟩) (by kernel_rfl) (z00 2) ?_
   refine At.one rfl (One.buildSlice (z:=[.zero,.zero,.d (dU 0),.d (dU 0),.d (dU 0),.d (dI 0)]) (cells:=[.d (lD 3 z04 r4),.d (lD 3 z04 r5),.d (dU ((p0.getD i1 default).time.epoch)),.d (dU ((p0.getD i1 default).time.loop.1)),.d (dU ((p0.getD i1 default).time.loop.2)),.d (dI ((p0.getD i1 default).diff))]) (xs:=List.map (z01) ([(⟨r4,r5,(p0.getD i1 default).time,(p0.getD i1 default).diff⟩:Update)]:List Update)) rfl rfl rfl rfl (by kernel_rfl) rfl rfl (by kernel_rfl) rfl rfl rfl (by kernel_rfl) rfl ⟨⟨rfl,.refl _⟩,trivial⟩) ?_
   refine At.le [22] (fun k hk h=>by first | (cases h; done) | (simp at hk h; omega)) ⟨[(22,cD (lD 6 z01 ([(⟨r4,r5,(p0.getD i1 default).time,(p0.getD i1 default).diff⟩:Update)]:List Update))),(6,.c (wC 6 z01 p0)),(7,cD (dI (p0.length:Int))),(8,cD (dI ((i1:Nat):Int))),(20,.c (oC 1003 6 a2)),(21,.agg [.d (lD 3 z04 r4),.d (lD 3 z04 r5),.d (dU ((p0.getD i1 default).time.epoch)),.d (dU ((p0.getD i1 default).time.loop.1)),.d (dU ((p0.getD i1 default).time.loop.2)),.d (dI ((p0.getD i1 default).diff))])],[(1003,vL 6 z01 a2)]⟩ ⟨⟨_,rfl,.c (.own rfl (List.mem_singleton.2 rfl) (Nat.le_of_ble_eq_true rfl) rfl (z24 (z01) ([(⟨r4,r5,(p0.getD i1 default).time,(p0.getD i1 default).diff⟩:Update)]:List Update)))⟩,⟨_,rfl,.refl _⟩,⟨_,rfl,.refl _⟩,⟨_,rfl,.refl _⟩,⟨_,rfl,.refl _⟩,⟨_,rfl,.refl _⟩,trivial⟩ ⟨⟨_,rfl,.refl _,(by simp)⟩,trivial⟩ ?_
   obtain ⟨hc6,h⟩:=z03 h
   refine At.one rfl (One.appendT (e:=56) (es:=6) (z01) a2 ([(⟨r4,r5,(p0.getD i1 default).time,(p0.getD i1 default).diff⟩:Update)]:List Update) rfl rfl rfl rfl rfl (.of 56 80 [.zero,.zero,.d (dU 0),.d (dU 0),.d (dU 0),.d (dI 0)] (by kernel_rfl) (by kernel_rfl) (by kernel_rfl) (by kernel_rfl) rfl (by kernel_rfl) rfl) rfl rfl rfl (.list rfl (fun _ _=>rfl)) hc6) ?_
   refine At.sg 1 [8,3,6,7] [1003] (z00 1) ?_
   refine At.done rfl ?_
   cases h
   exact kr
  ·intro a3 h
   refine Tri.sg [2] [1003] (z00 2) ?_
   refine Tri.keep [2] [1003] (s':=⟨[(2,.c (oC 1003 6 a3))],[(1003,vL 6 z01 a3)]⟩) (by kernel_rfl) ?_
   refine Tri.le [1003] (fun k hk h=>by first | (cases h; done) | (simp at hk h; omega)) ⟨[(2,cD (lD 6 z01 a3))],[]⟩ ⟨⟨_,rfl,.c (CLe.frozen (z01) a3 rfl (by simp))⟩,trivial⟩ trivial ?_
   refine Tri.ret ?_
   cases h
   exact RetAt.k
  · exact fun x=>x.elim
theorem z74 {p0:Int} {q:List Value} (h:z5m p0=some q) :
  Summ Tryz.prog 45 [cD (dI p0)] [] (cD (lD 3 z04 q)) []:=by
 refine Summ.intro Tryz.func45 rfl (by kernel_rfl) (by kernel_rfl) [] rfl ?_
 rintro ⟨P,w0,G0,V,LL,lk,N, φ0,fx⟩ rfl rfl rfl rfl
 unfold z5m at h
 refine Tri.sg [0] [] (z00 1) ?_
 refine Tri.seqS ?_
 refine Tri.reg ?_
 refine At.seg 2 [4] [] (s':=⟨[(4,.agg [.d (.bool false),.d (dI p0),.d (.str (bs []))])],[]⟩) (by kernel_rfl) (z00 2) ?_
 refine At.one rfl (One.buildSlice (z:=[.d (.bool false),.d (dI 0),.d (.str (bs []))]) (cells:=[.d (.bool false),.d (dI p0),.d (.str (bs []))]) (xs:=List.map (z04) ([(⟨false,p0,(bs [])⟩:Value)]:List Value)) rfl rfl rfl rfl (by kernel_rfl) rfl rfl (by kernel_rfl) rfl rfl rfl (by kernel_rfl) rfl ⟨⟨rfl,.refl _⟩,trivial⟩) ?_
 refine At.le [5] (fun k hk h=>by first | (cases h; done) | (simp at hk h; omega)) ⟨[(5,cD (lD 3 z04 ([(⟨false,p0,(bs [])⟩:Value)]:List Value))),(4,.agg [.d (.bool false),.d (dI p0),.d (.str (bs []))])],[]⟩ ⟨⟨_,rfl,.c (.own rfl (List.mem_singleton.2 rfl) (Nat.le_of_ble_eq_true rfl) rfl (z24 (z04) ([(⟨false,p0,(bs [])⟩:Value)]:List Value)))⟩,⟨_,rfl,.refl _⟩,trivial⟩ trivial ?_
 refine At.sg 1 [2] [] (z00 1) ?_
 refine At.done rfl ?_
 refine Tri.ret ?_
 cases h
 exact RetAt.k
theorem zal {fuel:Nat} {p0:List Update} {q:Bool} (h:z4c fuel p0=some q) :
    Summ Tryz.prog 59 [cD (lD 6 z01 p0)] [] (cD (.bool q)) []:=by
  refine Summ.intro Tryz.func59 rfl (by kernel_rfl) (by kernel_rfl) [] rfl ?_
  rintro ⟨P,w0,G0,V,LL,lk,N, φ0,fx⟩ rfl rfl rfl rfl
  unfold z4c at h
  refine Tri.sg [0] [] (z00 1) ?_
  refine Tri.seqS ?_
  refine Tri.sg [0,5,6,7] [] (z00 3) ?_
  refine Tri.ln 5 p0.length fun hlena2 => ?_
  refine Tri.rK 7 () (fun (x:Bool) s=>RetAt Tryz.prog Tryz.f59 (cD (.bool x)) [] s) (fun (a2:Unit)=>⟨[(0,cD (lD 6 z01 p0)),(5,cD (lD 6 z01 p0)),(6,cD (dI (p0.length:Int)))],[]⟩) [7,0,5,6] [] [8,7,0,5,6] [] [0,5,6] [] [7,0,5,6] [] h hlena2 ?_ ?_ ?_
  ·intro i1 a2 c hii1 h
   refine Tri.segL [0,3,4,5,6,7] [4] ⟨[(0,cD (lD 6 z01 p0)),(3,cD (dI ((i1:Nat):Int))),(4,.c (.ptr 4 0)),(5,cD (lD 6 z01 p0)),(6,cD (dI (p0.length:Int))),(7,cD (dI ((i1:Nat):Int)))],[(4,.box (cUpdate (p0.getD i1 default)))]⟩ _ (by kernel_rfl) (tN 1 (ai (show ((0:Int)≤((i1:Nat):Int)∧((i1:Nat):Int) < (p0.length:Int)) from ⟨by omega,by omega⟩) (z00 4))) ?_
   refine Tri.seqJ (fun (a5:Bool)=>⟨[(0,cD (lD 6 z01 p0)),(5,cD (lD 6 z01 p0)),(6,cD (dI (p0.length:Int))),(7,cD (dI ((i1:Nat):Int))),(28,cD (.bool a5))],[]⟩) h (fun a5 h => ?_) (fun j6 h => ?_)
   ·refine Tri.condK h (fun h => ?_) (fun h => ?_)
    ·refine Tri.sg [2] [] (z00 1) ?_
     refine Tri.ret ?_
     cases h
     exact RetAt.k
    ·refine Tri.kp [7,0,5,6] [] ?_
     refine Tri.skip ?_
     cases h
     exact kr
   ·rcases z1o h with ⟨hp7,h⟩ | ⟨hp7,h⟩
    ·refine Tri.dC [.a [4] [],.a [12] [4],.a [13] [],.m ⟨[(14,cD (.bool (decide ((p0.getD i1 default).diff=0))))],[]⟩ ⟨[(15,.c (.d (.bool true)))],[]⟩ [] [] [],.a [3,15] [],.a [15,16] [],.a [15,17] [],.a [0,18] [],.a [3,18] [],.a [18,20] [],.a [18,19,21] [],.a [18,22] [],.a [4,18] [4],.a [18,23,24] [],.a [18,25] [],.a [15,18,26] [],.a [15,27] []] [0,5,6,7,28] [] (z00 4) (.a (.a (.a (.m ?_ (.a (.a (.a (.a (.a (.a (.a (.a (.a (.a (.a (.a (.a .z))))))))))))))))) ?_
     · exact DOk.stepP (fun b => .val (.c (.d (.bool b))) (True)) (p:=(decide ((p0.getD i1 default).diff=0))) hp7 (fun r=>by kernel_rfl) (fun r=>by kernel_rfl) trivial (by kernel_rfl) (by kernel_rfl) (fun r=>rfl)
     exact ⟨_,h,kr⟩
    ·rcases z1o h with ⟨hp8,h⟩ | ⟨hp8,h⟩
     ·obtain ⟨hc9,h⟩:=z03 h
      obtain ⟨r10,hr10,h⟩:=z05 h
      refine Tri.dC [.a [4] [],.a [12] [4],.a [13] [],.m ⟨[(14,cD (.bool (decide ((p0.getD i1 default).diff=0))))],[]⟩ ⟨[(15,.c (.d (.bool false)))],[]⟩ [] [] [],.a [3,15] [],.a [15,16] [],.m ⟨[(15,cD (.bool false)),(17,cD (.bool (decide (0 < ((i1:Nat):Int)))))],[]⟩ ⟨[(18,.c (.d (.bool true)))],[]⟩ [] [] [],.a [0,18] [],.a [3,18] [],.a [18,20] [],.a [18,19,21] [],.a [18,22] [],.a [4,18] [4],.m ⟨[(18,cD (.bool true)),(23,.agg (cUpdate (p0.getD ((IntKind.i64.wrap (((i1:Nat):Int) - 1)).toNat) default))),(24,.agg (cUpdate (p0.getD i1 default)))],[]⟩ ⟨[(25,cD (dI r10))],[]⟩ [] [] [],.a [18,25] [],.a [15,18,26] [],.a [15,27] []] [0,5,6,7,28] [] (tN 8 (ai hc9 (z00 5))) (.a (.a (.a (.m ?_ (.a (.a (.m ?_ (.a (.a (.a (.a (.a (.a (.m ?_ (.a (.a (.a .z))))))))))))))))) ?_
      · exact DOk.stepP (fun b => .val (.c (.d (.bool b))) (True)) (p:=(decide ((p0.getD i1 default).diff=0))) hp7 (fun r=>by kernel_rfl) (fun r=>by kernel_rfl) trivial (by kernel_rfl) (by kernel_rfl) (fun r=>rfl)
      · exact DOk.stepP (fun b => .val (.c (.d (.bool b))) (True)) (p:=(decide (0 < ((i1:Nat):Int)))) hp8 (fun r=>by kernel_rfl) (fun r=>by kernel_rfl) trivial (by kernel_rfl) (by kernel_rfl) (fun r=>rfl)
      · exact DOk.cA [] [.agg (cUpdate (p0.getD ((IntKind.i64.wrap (((i1:Nat):Int) - 1)).toNat) default)),.agg (cUpdate (p0.getD i1 default))] (z52 hr10) fun r=>(.cons (.refl _) (.cons (.refl _) .nil))
      exact ⟨_,h,kr⟩
     ·refine Tri.dC [.a [4] [],.a [12] [4],.a [13] [],.m ⟨[(14,cD (.bool (decide ((p0.getD i1 default).diff=0))))],[]⟩ ⟨[(15,.c (.d (.bool false)))],[]⟩ [] [] [],.a [3,15] [],.a [15,16] [],.m ⟨[(15,cD (.bool false)),(17,cD (.bool (decide (0 < ((i1:Nat):Int)))))],[]⟩ ⟨[(18,.c (.d (.bool false)))],[]⟩ [] [] [],.a [0,18] [],.a [3,18] [],.a [18,20] [],.a [18,19,21] [],.a [18,22] [],.a [4,18] [4],.a [18,23,24] [],.a [18,25] [],.a [15,18,26] [],.a [15,27] []] [0,5,6,7,28] [] (z00 7) (.a (.a (.a (.m ?_ (.a (.a (.m ?_ (.a (.a (.a (.a (.a (.a (.a (.a (.a (.a .z))))))))))))))))) ?_
      · exact DOk.stepP (fun b => .val (.c (.d (.bool b))) (True)) (p:=(decide ((p0.getD i1 default).diff=0))) hp7 (fun r=>by kernel_rfl) (fun r=>by kernel_rfl) trivial (by kernel_rfl) (by kernel_rfl) (fun r=>rfl)
      · exact DOk.stepP (fun b => .val (.c (.d (.bool b))) (True)) (p:=(decide (0 < ((i1:Nat):Int)))) hp8 (fun r=>by kernel_rfl) (fun r=>by kernel_rfl) trivial (by kernel_rfl) (by kernel_rfl) (fun r=>rfl)
      exact ⟨_,h,kr⟩
  ·intro a3 h
   refine Tri.seqS ?_
   refine Tri.reg ?_
   refine At.sg 1 [30] [] (z00 1) ?_
   obtain ⟨r4,hr4,h⟩:=z05 h
   refine At.cA [] [cD (lD 6 z01 p0)] (zd1 hr4) (.cons (.refl _) .nil) ?_
   refine At.sg 2 [2] [] (z00 2) ?_
   refine At.done rfl ?_
   refine Tri.ret ?_
   cases h
   exact RetAt.k
  · exact fun x s hx hr=>by cases hx; exact hr
theorem zde {p0:Update} {p1:List Time} {q:Bool} (h:z51 p0 p1=some q) :
  Summ Tryz.prog 88 [.agg (cUpdate p0),cD (.cptr [lD 3 z02 p1])] [] (cD (.bool q)) []:=by
 refine Summ.intro Tryz.func88 rfl (by kernel_rfl) (by kernel_rfl) [] rfl ?_
 rintro ⟨P,w0,G0,V,LL,lk,N, φ0,fx⟩ rfl rfl rfl rfl
 unfold z51 at h
 refine Tri.le [] (fun k hk=>by cases hk) ⟨[(0,.agg (cUpdate p0)),(1,.c (.eptr [lD 3 z02 p1]))],[]⟩ ⟨⟨_,rfl,.refl _⟩,⟨_,rfl,.c (.cptrE _)⟩,trivial⟩ trivial ?_
 refine Tri.sg [1,2] [2] (z00 2) ?_
 refine Tri.seqS ?_
 obtain ⟨r1,hr1,h⟩:=z05 h
 refine Tri.dC [.a [2] [],.a [4] [2],.a [1] [],.m ⟨[(5,.agg (cTime p0.time)),(6,cD (lD 3 z02 p1))],[]⟩ ⟨[(7,.agg (cTime r1))],[]⟩ [] [] [],.a [2] [],.a [8] [2],.m ⟨[(7,.agg (cTime r1)),(9,.agg (cTime p0.time))],[]⟩ ⟨[(10,cD (.bool (!(z0h r1 p0.time))))],[]⟩ [] [] [],.a [10] []] [3] [] (z00 6) (.a (.a (.a (.m ?_ (.a (.a (.m ?_ (.a .z)))))))) ?_
 ·exact DOk.cA [] [.agg (cTime p0.time),cD (lD 3 z02 p1)] (z9m hr1) fun r=>(.cons (.refl _) (.cons (.refl _) .nil))
 ·exact DOk.one fun r _=>One.eql (b:=(z0h r1 p0.time)) (d:=9) rfl (by kernel_rfl) rfl (.inr rfl) rfl rfl (by kernel_rfl) rfl (by kernel_rfl)
 refine Tri.ret ?_
 cases h
 exact RetAt.k
theorem z2q {p0:List Update} {p1_0:List Time} {q:Int} (h:z0m p0 p1_0=some q) :
    Summ Tryz.prog 107 [cD (lD 6 z01 p0),cD (.fn 88 [.cptr [lD 3 z02 p1_0]])] [] (cD (dI q)) []:=by
  refine Summ.intro Tryz.func107 rfl (by kernel_rfl) (by kernel_rfl) [] rfl ?_
  rintro ⟨P,w0,G0,V,LL,lk,N, φ0,fx⟩ rfl rfl rfl rfl
  unfold z0m at h
  refine Tri.sg [0,1] [] (z00 1) ?_
  refine Tri.seqS ?_
  refine Tri.sg [0,1,7,8] [] (z00 3) ?_
  refine Tri.ln 0 p0.length fun hlena2 => ?_
  refine Tri.rK 8 () (fun (x:Int) s=>RetAt Tryz.prog Tryz.f107 (cD (dI x)) [] s) (fun (a2:Unit)=>⟨[(0,cD (lD 6 z01 p0)),(1,cD (.fn 88 [.cptr [lD 3 z02 p1_0]])),(7,cD (dI (p0.length:Int)))],[]⟩) [8,0,1,7] [] [9,8,0,1,7] [] [0,1,7] [] [8,0,1,7] [] h hlena2 ?_ ?_ ?_
  ·intro i1 a2 c hii1 h
   refine Tri.sg [0,1,5,7,8] [] (z00 2) ?_
   refine Tri.seqS ?_
   refine Tri.reg ?_
   refine At.sg 5 [0,1,5,7,8,11,15] [] (tN 3 (ai (show ((0:Int)≤((i1:Nat):Int)∧((i1:Nat):Int) < (p0.length:Int)) from ⟨by omega,by omega⟩) (z00 1))) ?_
   obtain ⟨r4,hr4,h⟩:=z05 h
   refine At.cA [.cptr [lD 3 z02 p1_0]] [.agg (cUpdate (p0.getD i1 default)),cD (.cptr [lD 3 z02 p1_0])] (zde hr4) (.cons (.refl _) (.cons (.refl _) .nil)) ?_
   refine At.done rfl ?_
   refine Tri.condK h (fun h => ?_) (fun h => ?_)
   ·refine Tri.sg [4] [] (z00 2) ?_
    refine Tri.ret ?_
    cases h
    exact RetAt.k
   ·refine Tri.kp [8,0,1,7] [] ?_
    refine Tri.skip ?_
    cases h
    exact kr
  ·intro a3 h
   refine Tri.sg [4] [] (z00 1) ?_
   refine Tri.ret ?_
   cases h
   exact RetAt.k
  · exact fun x s hx hr=>by cases hx; exact hr
theorem z2n {p0:List Update} {p1_0:List Time} {q:Bool} (h:z0k p0 p1_0=some q) :
  Summ Tryz.prog 87 [cD (lD 6 z01 p0),cD (.fn 88 [.cptr [lD 3 z02 p1_0]])] [] (cD (.bool q)) []:=by
 refine Summ.intro Tryz.func87 rfl (by kernel_rfl) (by kernel_rfl) [] rfl ?_
 rintro ⟨P,w0,G0,V,LL,lk,N, φ0,fx⟩ rfl rfl rfl rfl
 unfold z0k at h
 refine Tri.sg [0,1] [] (z00 1) ?_
 refine Tri.seqS ?_
 refine Tri.reg ?_
 refine At.sg 2 [5,6] [] (z00 2) ?_
 obtain ⟨r1,hr1,h⟩:=z05 h
 refine At.cA [] [cD (lD 6 z01 p0),cD (.fn 88 [.cptr [lD 3 z02 p1_0]])] (z2q hr1) (.cons (.refl _) (.cons (.refl _) .nil)) ?_
 refine At.sg 2 [4] [] (z00 2) ?_
 refine At.done rfl ?_
 refine Tri.ret ?_
 cases h
 exact RetAt.k
theorem zaf {fuel:Nat} {p0:List Update} {p1:List Time} {q:Bool} (h:z63 fuel p0 p1=some q) :
    Summ Tryz.prog 47 [cD (lD 6 z01 p0),cD (lD 3 z02 p1)] [] (cD (.bool q)) []:=by
  refine Summ.intro Tryz.func47 rfl (by kernel_rfl) (by kernel_rfl) [] rfl ?_
  rintro ⟨P,w0,G0,V,LL,lk,N, φ0,fx⟩ rfl rfl rfl rfl
  unfold z63 at h
  refine Tri.sg [0,3] [3] (z00 2) ?_
  refine Tri.seqJ (fun (a1:Bool)=>⟨[(4,cD (.bool a1))],[]⟩) h (fun a1 h => ?_) (fun j2 h => ?_)
  ·refine Tri.ret ?_
   cases h
   exact RetAt.k
  ·refine Tri.reg ?_
   refine At.sg 1 [0,3,5] [3] (z00 1) ?_
   obtain ⟨r3,hr3,h⟩:=z05 h
   refine At.cA [] [cD (lD 6 z01 p0)] (zal hr3) (.cons (.refl _) .nil) ?_
   refine At.sg 1 [0,3,7] [3] (z00 1) ?_
   refine At.cs [7] h (fun h => ?_) (fun h => ?_)
   ·refine At.seg 1 [3,7,8] [3] (s':=⟨[(3,.c (.ptr 3 0)),(7,cD (.bool true)),(8,cD (lD 6 z01 p0))],[(3,.box [.d (lD 3 z02 p1)])]⟩) (by kernel_rfl) (z00 1) ?_
    refine At.le [3] (fun k hk h=>by first | (cases h; done) | (simp at hk h; omega)) ⟨[(3,cD (.cptr [lD 3 z02 p1])),(7,cD (.bool true)),(8,cD (lD 6 z01 p0))],[]⟩ ⟨⟨_,rfl,.c (.box (ds:=[lD 3 z02 p1]) rfl (by simp))⟩,⟨_,rfl,.refl _⟩,⟨_,rfl,.refl _⟩,trivial⟩ trivial ?_
    refine At.seg 1 [9,3,7,8] [] (s':=⟨[(9,cD (.fn 88 [.cptr [lD 3 z02 p1]])),(3,cD (.cptr [lD 3 z02 p1])),(7,cD (.bool true)),(8,cD (lD 6 z01 p0))],[]⟩) (by kernel_rfl) (z00 1) ?_
    refine At.le [] (fun k hk=>by cases hk) ⟨[(9,cD (.fn 88 [.cptr [lD 3 z02 p1]])),(3,.c (.eptr [lD 3 z02 p1])),(7,cD (.bool true)),(8,cD (lD 6 z01 p0))],[]⟩ ⟨⟨_,rfl,.refl _⟩,⟨_,rfl,.c (.cptrE _)⟩,⟨_,rfl,.refl _⟩,⟨_,rfl,.refl _⟩,trivial⟩ trivial ?_
    obtain ⟨r4,hr4,h⟩:=z05 h
    refine At.cA [] [cD (lD 6 z01 p0),cD (.fn 88 [.cptr [lD 3 z02 p1]])] (z2n hr4) (.cons (.refl _) (.cons (.refl _) .nil)) ?_
    refine At.sg 3 [4] [] (z00 3) ?_
    refine At.done rfl ?_
    exact ⟨_,h,kr⟩
   ·refine At.sg 6 [4] [] (z00 2) ?_
    refine At.done rfl ?_
    exact ⟨_,h,kr⟩
theorem z7m {fuel:Nat} {p0:Batch} {q:Int} (h:z3k fuel p0=some q) :
    Summ Tryz.prog 15 [.agg (cBatch p0)] [] (cD (dI q)) []:=by
  refine Summ.intro Tryz.func15 rfl (by kernel_rfl) (by kernel_rfl) [] rfl ?_
  rintro ⟨P,w0,G0,V,LL,lk,N, φ0,fx⟩ rfl rfl rfl rfl
  unfold z3k at h
  refine Tri.sg [1] [1] (z00 2) ?_
  refine Tri.seqS ?_
  refine Tri.seqJ (fun (a1:Bool)=>⟨[(14,cD (.bool a1))],[]⟩) h (fun a1 h => ?_) (fun j2 h => ?_)
  ·refine Tri.condK h (fun h => ?_) (fun h => ?_)
   ·refine Tri.sg [2] [] (z00 1) ?_
    refine Tri.ret ?_
    cases h
    exact RetAt.k
   ·refine Tri.skip ?_
    refine Tri.sg [2] [] (z00 1) ?_
    refine Tri.ret ?_
    cases h
    exact RetAt.k
  ·refine Tri.reg ?_
   refine At.sg 2 [1,4] [1] (z00 2) ?_
   obtain ⟨r3,hr3,h⟩:=z05 h
   refine At.cA [] [cD (lD 3 z02 p0.since)] (z7q hr3) (.cons (.refl _) .nil) ?_
   refine At.sg 2 [1,7] [1] (z00 2) ?_
   refine At.cs [7] h (fun h => ?_) (fun h => ?_)
   ·refine At.sg 7 [14] [] (z00 1) ?_
    refine At.done rfl ?_
    exact ⟨_,h,kr⟩
   ·refine At.sg 4 [7,9,11] [] (z00 4) ?_
    obtain ⟨r4,hr4,h⟩:=z05 h
    refine At.cA [] [cD (lD 6 z01 p0.updates),cD (lD 3 z02 p0.since)] (zaf hr4) (.cons (.refl _) (.cons (.refl _) .nil)) ?_
    refine At.sg 2 [14] [] (z00 2) ?_
    refine At.done rfl ?_
    exact ⟨_,h,kr⟩
theorem z3d {p0:List Time} {p1_0:Time} {q:Int} (h:z0f p0 p1_0=some q) :
    Summ Tryz.prog 89 [cD (lD 3 z02 p0),cD (.fn 63 [.cptr [dU p1_0.epoch,dU p1_0.loop.1,dU p1_0.loop.2]])] [] (cD (dI q)) []:=by
  refine Summ.intro Tryz.func89 rfl (by kernel_rfl) (by kernel_rfl) [] rfl ?_
  rintro ⟨P,w0,G0,V,LL,lk,N, φ0,fx⟩ rfl rfl rfl rfl
  unfold z0f at h
  refine Tri.sg [0,1] [] (z00 1) ?_
  refine Tri.seqS ?_
  refine Tri.sg [0,1,7,8] [] (z00 3) ?_
  refine Tri.ln 0 p0.length fun hlena2 => ?_
  refine Tri.rK 8 () (fun (x:Int) s=>RetAt Tryz.prog Tryz.f89 (cD (dI x)) [] s) (fun (a2:Unit)=>⟨[(0,cD (lD 3 z02 p0)),(1,cD (.fn 63 [.cptr [dU p1_0.epoch,dU p1_0.loop.1,dU p1_0.loop.2]])),(7,cD (dI (p0.length:Int)))],[]⟩) [8,0,1,7] [] [9,8,0,1,7] [] [0,1,7] [] [8,0,1,7] [] h hlena2 ?_ ?_ ?_
  ·intro i1 a2 c hii1 h
   refine Tri.sg [0,1,5,7,8] [] (z00 2) ?_
   refine Tri.seqS ?_
   refine Tri.reg ?_
   refine At.sg 5 [0,1,5,7,8,11,15] [] (tN 3 (ai (show ((0:Int)≤((i1:Nat):Int)∧((i1:Nat):Int) < (p0.length:Int)) from ⟨by omega,by omega⟩) (z00 1))) ?_
   obtain ⟨r4,hr4,h⟩:=z05 h
   refine At.cA [.cptr [dU p1_0.epoch,dU p1_0.loop.1,dU p1_0.loop.2]] [.agg (cTime (p0.getD i1 default)),cD (.cptr [dU p1_0.epoch,dU p1_0.loop.1,dU p1_0.loop.2])] (z99 hr4) (.cons (.refl _) (.cons (.refl _) .nil)) ?_
   refine At.done rfl ?_
   refine Tri.condK h (fun h => ?_) (fun h => ?_)
   ·refine Tri.sg [4] [] (z00 2) ?_
    refine Tri.ret ?_
    cases h
    exact RetAt.k
   ·refine Tri.kp [8,0,1,7] [] ?_
    refine Tri.skip ?_
    cases h
    exact kr
  ·intro a3 h
   refine Tri.sg [4] [] (z00 1) ?_
   refine Tri.ret ?_
   cases h
   exact RetAt.k
  · exact fun x s hx hr=>by cases hx; exact hr
theorem z39 {p0:List Time} {p1_0:Time} {q:Bool} (h:z0d p0 p1_0=some q) :
  Summ Tryz.prog 51 [cD (lD 3 z02 p0),cD (.fn 63 [.cptr [dU p1_0.epoch,dU p1_0.loop.1,dU p1_0.loop.2]])] [] (cD (.bool q)) []:=by
 refine Summ.intro Tryz.func51 rfl (by kernel_rfl) (by kernel_rfl) [] rfl ?_
 rintro ⟨P,w0,G0,V,LL,lk,N, φ0,fx⟩ rfl rfl rfl rfl
 unfold z0d at h
 refine Tri.sg [0,1] [] (z00 1) ?_
 refine Tri.seqS ?_
 refine Tri.reg ?_
 refine At.sg 2 [5,6] [] (z00 2) ?_
 obtain ⟨r1,hr1,h⟩:=z05 h
 refine At.cA [] [cD (lD 3 z02 p0),cD (.fn 63 [.cptr [dU p1_0.epoch,dU p1_0.loop.1,dU p1_0.loop.2]])] (z3d hr1) (.cons (.refl _) (.cons (.refl _) .nil)) ?_
 refine At.sg 2 [4] [] (z00 2) ?_
 refine At.done rfl ?_
 refine Tri.ret ?_
 cases h
 exact RetAt.k
theorem zet {p0:List Time} {p1:Time} {q:Bool} (h:z4a p0 p1=some q) :
  Summ Tryz.prog 30 [cD (lD 3 z02 p0),.agg (cTime p1)] [] (cD (.bool q)) []:=by
 refine Summ.intro Tryz.func30 rfl (by kernel_rfl) (by kernel_rfl) [] rfl ?_
 rintro ⟨P,w0,G0,V,LL,lk,N, φ0,fx⟩ rfl rfl rfl rfl
 unfold z4a at h
 refine Tri.sg [0,3] [3] (z00 2) ?_
 refine Tri.seqS ?_
 refine Tri.reg ?_
 refine At.seg 1 [3,5] [3] (s':=⟨[(3,.c (.ptr 3 0)),(5,cD (lD 3 z02 p0))],[(3,.box (cTime p1))]⟩) (by kernel_rfl) (z00 1) ?_
 refine At.le [3] (fun k hk h=>by first | (cases h; done) | (simp at hk h; omega)) ⟨[(3,cD (.cptr [dU p1.epoch,dU p1.loop.1,dU p1.loop.2])),(5,cD (lD 3 z02 p0))],[]⟩ ⟨⟨_,rfl,.c (.box (ds:=[dU p1.epoch,dU p1.loop.1,dU p1.loop.2]) rfl (by simp))⟩,⟨_,rfl,.refl _⟩,trivial⟩ trivial ?_
 refine At.seg 1 [6,3,5] [] (s':=⟨[(6,cD (.fn 63 [.cptr [dU p1.epoch,dU p1.loop.1,dU p1.loop.2]])),(3,cD (.cptr [dU p1.epoch,dU p1.loop.1,dU p1.loop.2])),(5,cD (lD 3 z02 p0))],[]⟩) (by kernel_rfl) (z00 1) ?_
 refine At.le [] (fun k hk=>by cases hk) ⟨[(6,cD (.fn 63 [.cptr [dU p1.epoch,dU p1.loop.1,dU p1.loop.2]])),(3,.c (.eptr [dU p1.epoch,dU p1.loop.1,dU p1.loop.2])),(5,cD (lD 3 z02 p0))],[]⟩ ⟨⟨_,rfl,.refl _⟩,⟨_,rfl,.c (.cptrE _)⟩,⟨_,rfl,.refl _⟩,trivial⟩ trivial ?_
 obtain ⟨r1,hr1,h⟩:=z05 h
 refine At.cA [] [cD (lD 3 z02 p0),cD (.fn 63 [.cptr [dU p1.epoch,dU p1.loop.1,dU p1.loop.2]])] (z39 hr1) (.cons (.refl _) (.cons (.refl _) .nil)) ?_
 refine At.sg 1 [4] [] (z00 1) ?_
 refine At.done rfl ?_
 refine Tri.ret ?_
 cases h
 exact RetAt.k
theorem zf0 {p0:Time} {p1:List Time} {q:Bool} (h:z9i p0 p1=some q) :
  Summ Tryz.prog 50 [.agg (cTime p0),cD (.cptr [lD 3 z02 p1])] [] (cD (.bool q)) []:=by
 refine Summ.intro Tryz.func50 rfl (by kernel_rfl) (by kernel_rfl) [] rfl ?_
 rintro ⟨P,w0,G0,V,LL,lk,N, φ0,fx⟩ rfl rfl rfl rfl
 unfold z9i at h
 refine Tri.le [] (fun k hk=>by cases hk) ⟨[(0,.agg (cTime p0)),(1,.c (.eptr [lD 3 z02 p1]))],[]⟩ ⟨⟨_,rfl,.refl _⟩,⟨_,rfl,.c (.cptrE _)⟩,trivial⟩ trivial ?_
 refine Tri.sg [1,2] [2] (z00 2) ?_
 refine Tri.seqS ?_
 refine Tri.reg ?_
 refine At.sg 2 [4,5] [] (z00 2) ?_
 obtain ⟨r1,hr1,h⟩:=z05 h
 refine At.cA [] [cD (lD 3 z02 p1),.agg (cTime p0)] (zet hr1) (.cons (.refl _) (.cons (.refl _) .nil)) ?_
 refine At.sg 2 [3] [] (z00 2) ?_
 refine At.done rfl ?_
 refine Tri.ret ?_
 cases h
 exact RetAt.k
theorem z35 {p0:List Time} {p1_0:List Time} {q:Int} (h:z1g p0 p1_0=some q) :
    Summ Tryz.prog 89 [cD (lD 3 z02 p0),cD (.fn 50 [.cptr [lD 3 z02 p1_0]])] [] (cD (dI q)) []:=by
  refine Summ.intro Tryz.func89 rfl (by kernel_rfl) (by kernel_rfl) [] rfl ?_
  rintro ⟨P,w0,G0,V,LL,lk,N, φ0,fx⟩ rfl rfl rfl rfl
  unfold z1g at h
  refine Tri.sg [0,1] [] (z00 1) ?_
  refine Tri.seqS ?_
  refine Tri.sg [0,1,7,8] [] (z00 3) ?_
  refine Tri.ln 0 p0.length fun hlena2 => ?_
  refine Tri.rK 8 () (fun (x:Int) s=>RetAt Tryz.prog Tryz.f89 (cD (dI x)) [] s) (fun (a2:Unit)=>⟨[(0,cD (lD 3 z02 p0)),(1,cD (.fn 50 [.cptr [lD 3 z02 p1_0]])),(7,cD (dI (p0.length:Int)))],[]⟩) [8,0,1,7] [] [9,8,0,1,7] [] [0,1,7] [] [8,0,1,7] [] h hlena2 ?_ ?_ ?_
  ·intro i1 a2 c hii1 h
   refine Tri.sg [0,1,5,7,8] [] (z00 2) ?_
   refine Tri.seqS ?_
   refine Tri.reg ?_
   refine At.sg 5 [0,1,5,7,8,11,15] [] (tN 3 (ai (show ((0:Int)≤((i1:Nat):Int)∧((i1:Nat):Int) < (p0.length:Int)) from ⟨by omega,by omega⟩) (z00 1))) ?_
   obtain ⟨r4,hr4,h⟩:=z05 h
   refine At.cA [.cptr [lD 3 z02 p1_0]] [.agg (cTime (p0.getD i1 default)),cD (.cptr [lD 3 z02 p1_0])] (zf0 hr4) (.cons (.refl _) (.cons (.refl _) .nil)) ?_
   refine At.done rfl ?_
   refine Tri.condK h (fun h => ?_) (fun h => ?_)
   ·refine Tri.sg [4] [] (z00 2) ?_
    refine Tri.ret ?_
    cases h
    exact RetAt.k
   ·refine Tri.kp [8,0,1,7] [] ?_
    refine Tri.skip ?_
    cases h
    exact kr
  ·intro a3 h
   refine Tri.sg [4] [] (z00 1) ?_
   refine Tri.ret ?_
   cases h
   exact RetAt.k
  · exact fun x s hx hr=>by cases hx; exact hr
theorem z2z {p0:List Time} {p1_0:List Time} {q:Bool} (h:z19 p0 p1_0=some q) :
  Summ Tryz.prog 51 [cD (lD 3 z02 p0),cD (.fn 50 [.cptr [lD 3 z02 p1_0]])] [] (cD (.bool q)) []:=by
 refine Summ.intro Tryz.func51 rfl (by kernel_rfl) (by kernel_rfl) [] rfl ?_
 rintro ⟨P,w0,G0,V,LL,lk,N, φ0,fx⟩ rfl rfl rfl rfl
 unfold z19 at h
 refine Tri.sg [0,1] [] (z00 1) ?_
 refine Tri.seqS ?_
 refine Tri.reg ?_
 refine At.sg 2 [5,6] [] (z00 2) ?_
 obtain ⟨r1,hr1,h⟩:=z05 h
 refine At.cA [] [cD (lD 3 z02 p0),cD (.fn 50 [.cptr [lD 3 z02 p1_0]])] (z35 hr1) (.cons (.refl _) (.cons (.refl _) .nil)) ?_
 refine At.sg 2 [4] [] (z00 2) ?_
 refine At.done rfl ?_
 refine Tri.ret ?_
 cases h
 exact RetAt.k
theorem z91 {p0:List Time} {p1:List Time} {q:Bool} (h:z7x p0 p1=some q) :
    Summ Tryz.prog 17 [cD (lD 3 z02 p0),cD (lD 3 z02 p1)] [] (cD (.bool q)) []:=by
  refine Summ.intro Tryz.func17 rfl (by kernel_rfl) (by kernel_rfl) [] rfl ?_
  rintro ⟨P,w0,G0,V,LL,lk,N, φ0,fx⟩ rfl rfl rfl rfl
  unfold z7x at h
  refine Tri.segL [0,3] [3] ⟨[(0,cD (lD 3 z02 p0)),(3,.c (.ptr 3 0))],[(3,.box [.d (lD 3 z02 p1)])]⟩ _ (by kernel_rfl) (z00 2) ?_
  refine Tri.seqS ?_
  refine Tri.reg ?_
  refine At.le [3] (fun k hk h=>by first | (cases h; done) | (simp at hk h; omega)) ⟨[(0,cD (lD 3 z02 p0)),(3,cD (.cptr [lD 3 z02 p1]))],[]⟩ ⟨⟨_,rfl,.refl _⟩,⟨_,rfl,.c (.box (ds:=[lD 3 z02 p1]) rfl (by simp))⟩,trivial⟩ trivial ?_
  refine At.seg 1 [6,0,3] [] (s':=⟨[(6,cD (.fn 50 [.cptr [lD 3 z02 p1]])),(0,cD (lD 3 z02 p0)),(3,cD (.cptr [lD 3 z02 p1]))],[]⟩) (by kernel_rfl) (z00 1) ?_
  refine At.le [] (fun k hk=>by cases hk) ⟨[(6,cD (.fn 50 [.cptr [lD 3 z02 p1]])),(0,cD (lD 3 z02 p0)),(3,.c (.eptr [lD 3 z02 p1]))],[]⟩ ⟨⟨_,rfl,.refl _⟩,⟨_,rfl,.refl _⟩,⟨_,rfl,.c (.cptrE _)⟩,trivial⟩ trivial ?_
  refine At.sg 1 [0,3,5] [] (z00 1) ?_
  refine At.done rfl ?_
  refine Tri.seqJ (fun (a1:Bool)=>⟨[(4,cD (.bool a1))],[]⟩) h (fun a1 h => ?_) (fun j2 h => ?_)
  ·refine Tri.ret ?_
   cases h
   exact RetAt.k
  ·refine Tri.reg ?_
   refine At.sg 4 [0,5,10] [] (z00 4) ?_
   refine At.cs [10] h (fun h => ?_) (fun h => ?_)
   ·refine At.sg 11 [4] [] (z00 2) ?_
    refine At.done rfl ?_
    exact ⟨_,h,kr⟩
   ·refine At.sg 4 [0,5,10,14] [] (z00 4) ?_
    refine At.cs [14] h (fun h => ?_) (fun h => ?_)
    ·refine At.sg 2 [10,14,15,16] [] (z00 2) ?_
     obtain ⟨r3,hr3,h⟩:=z05 h
     refine At.cA [] [cD (lD 3 z02 p0),cD (.fn 50 [.cptr [lD 3 z02 p1]])] (z2z hr3) (.cons (.refl _) (.cons (.refl _) .nil)) ?_
     refine At.sg 4 [4] [] (z00 4) ?_
     refine At.done rfl ?_
     exact ⟨_,h,kr⟩
    ·refine At.sg 7 [4] [] (z00 3) ?_
     refine At.done rfl ?_
     exact ⟨_,h,kr⟩
theorem zdt {p0:Merger} {q:Merger} (h:z75 p0=some q) :
  Summ Tryz.prog 54 [.agg (cMerger p0)] [] (.agg (cMerger q)) []:=by
 refine Summ.intro Tryz.func54 rfl (by kernel_rfl) (by kernel_rfl) [] rfl ?_
 rintro ⟨P,w0,G0,V,LL,lk,N, φ0,fx⟩ rfl rfl rfl rfl
 unfold z75 at h
 refine Tri.sg [1,2] [1,2] (z00 2) ?_
 refine Tri.seqS ?_
 obtain ⟨r1,hr1,h⟩:=z05 h
 obtain ⟨r2,hr2,h⟩:=z05 h
 obtain ⟨r3,hr3,h⟩:=z05 h
 obtain ⟨r4,hr4,h⟩:=z05 h
 refine Tri.dC [.a [1] [],.a [3] [1],.m ⟨[(4,cD (lD 6 z01 p0.a))],[]⟩ ⟨[(5,cD (lD 6 z01 r1))],[]⟩ [] [] [],.a [1] [],.a [6] [1],.m ⟨[(7,cD (lD 6 z01 p0.b))],[]⟩ ⟨[(8,cD (lD 6 z01 r2))],[]⟩ [] [] [],.a [1] [],.a [9] [1],.m ⟨[(10,cD (lD 6 z01 p0.out))],[]⟩ ⟨[(11,cD (lD 6 z01 r3))],[]⟩ [] [] [],.a [1] [],.a [12] [1],.m ⟨[(13,cD (lD 3 z02 p0.since))],[]⟩ ⟨[(14,cD (lD 3 z02 r4))],[]⟩ [] [] [],.a [1] [],.m ⟨[(5,cD (lD 6 z01 r1)),(15,.c (.ptr 1 0))],[(1,.box (cMerger p0))]⟩ ⟨[],[(1,.box [.d (lD 6 z01 r1),.d (lD 6 z01 p0.b),.d (dI p0.i),.d (dI p0.j),.d (lD 3 z02 p0.since),.d (lD 6 z01 p0.out)])]⟩ [] [] [],.a [1] [],.m ⟨[(8,cD (lD 6 z01 r2)),(16,.c (.ptr 1 1))],[(1,.box [.d (lD 6 z01 r1),.d (lD 6 z01 p0.b),.d (dI p0.i),.d (dI p0.j),.d (lD 3 z02 p0.since),.d (lD 6 z01 p0.out)])]⟩ ⟨[],[(1,.box [.d (lD 6 z01 r1),.d (lD 6 z01 r2),.d (dI p0.i),.d (dI p0.j),.d (lD 3 z02 p0.since),.d (lD 6 z01 p0.out)])]⟩ [] [] [],.a [1] [],.m ⟨[(11,cD (lD 6 z01 r3)),(17,.c (.ptr 1 5))],[(1,.box [.d (lD 6 z01 r1),.d (lD 6 z01 r2),.d (dI p0.i),.d (dI p0.j),.d (lD 3 z02 p0.since),.d (lD 6 z01 p0.out)])]⟩ ⟨[],[(1,.box [.d (lD 6 z01 r1),.d (lD 6 z01 r2),.d (dI p0.i),.d (dI p0.j),.d (lD 3 z02 p0.since),.d (lD 6 z01 r3)])]⟩ [] [] [],.a [1] [],.m ⟨[(14,cD (lD 3 z02 r4)),(18,.c (.ptr 1 4))],[(1,.box [.d (lD 6 z01 r1),.d (lD 6 z01 r2),.d (dI p0.i),.d (dI p0.j),.d (lD 3 z02 p0.since),.d (lD 6 z01 r3)])]⟩ ⟨[],[(1,.box [.d (lD 6 z01 r1),.d (lD 6 z01 r2),.d (dI p0.i),.d (dI p0.j),.d (lD 3 z02 r4),.d (lD 6 z01 r3)])]⟩ [] [] []] [1,2] [1,2] (z00 12) (.a (.a (.m ?_ (.a (.a (.m ?_ (.a (.a (.m ?_ (.a (.a (.m ?_ (.a (.m ?_ (.a (.m ?_ (.a (.m ?_ (.a (.m ?_ .z)))))))))))))))))))) ?_
 ·exact DOk.cA [] [cD (lD 6 z01 p0.a)] (z6f hr1) fun r=>(.cons (.refl _) .nil)
 ·exact DOk.cA [] [cD (lD 6 z01 p0.b)] (z6f hr2) fun r=>(.cons (.refl _) .nil)
 ·exact DOk.cA [] [cD (lD 6 z01 p0.out)] (z6f hr3) fun r=>(.cons (.refl _) .nil)
 ·exact DOk.cA [] [cD (lD 3 z02 p0.since)] (z1v hr4) fun r=>(.cons (.refl _) .nil)
 ·exact DOk.step (.turn 1 (.box [.d (lD 6 z01 r1),.d (lD 6 z01 p0.b),.d (dI p0.i),.d (dI p0.j),.d (lD 3 z02 p0.since),.d (lD 6 z01 p0.out)])) (fun r=>by kernel_rfl) (fun r=>by kernel_rfl) trivial (by kernel_rfl) (by kernel_rfl) (fun r=>rfl)
 ·exact DOk.step (.turn 1 (.box [.d (lD 6 z01 r1),.d (lD 6 z01 r2),.d (dI p0.i),.d (dI p0.j),.d (lD 3 z02 p0.since),.d (lD 6 z01 p0.out)])) (fun r=>by kernel_rfl) (fun r=>by kernel_rfl) trivial (by kernel_rfl) (by kernel_rfl) (fun r=>rfl)
 ·exact DOk.step (.turn 1 (.box [.d (lD 6 z01 r1),.d (lD 6 z01 r2),.d (dI p0.i),.d (dI p0.j),.d (lD 3 z02 p0.since),.d (lD 6 z01 r3)])) (fun r=>by kernel_rfl) (fun r=>by kernel_rfl) trivial (by kernel_rfl) (by kernel_rfl) (fun r=>rfl)
 ·exact DOk.step (.turn 1 (.box [.d (lD 6 z01 r1),.d (lD 6 z01 r2),.d (dI p0.i),.d (dI p0.j),.d (lD 3 z02 r4),.d (lD 6 z01 r3)])) (fun r=>by kernel_rfl) (fun r=>by kernel_rfl) trivial (by kernel_rfl) (by kernel_rfl) (fun r=>rfl)
 refine Tri.sg [2] [2] (z00 2) ?_
 refine Tri.ret ?_
 cases h
 exact RetAt.k
theorem zg4 {fuel:Nat} {p0:List Time} {p1:Batch} {p2:Batch} {q:Merger × Int} (h:zbh fuel p0 p1 p2=some q) :
    Summ Tryz.prog 24 [cD (lD 3 z02 p0),.agg (cBatch p1),.agg (cBatch p2)] [] (.tup [(true,[.d (lD 6 z01 q.1.a),.d (lD 6 z01 q.1.b),.d (dI q.1.i),.d (dI q.1.j),.d (lD 3 z02 q.1.since),.d (lD 6 z01 q.1.out)]),(false,[.d (dI q.2)])]) []:=by
  refine Summ.intro Tryz.func24 rfl (by kernel_rfl) (by kernel_rfl) [] rfl ?_
  rintro ⟨P,w0,G0,V,LL,lk,N, φ0,fx⟩ rfl rfl rfl rfl
  unfold zbh at h
  refine Tri.sg [0,4,5,6] [4,5,6] (z00 4) ?_
  refine Tri.seqS ?_
  refine Tri.blockB ?_
  refine Tri.seqJ (fun (a1:Bool)=>⟨[(0,cD (lD 3 z02 p0)),(4,.c (.ptr 4 0)),(5,.c (.ptr 5 0)),(6,.c (.ptr 6 0)),(8,cD (.bool a1))],[(4,.box (cBatch p1)),(5,.box (cBatch p2)),(6,.box [.zero,.zero,.d (dI 0),.d (dI 0),.zero,.zero])]⟩) h (fun a1 h => ?_) (fun j2 h => ?_)
  ·refine Tri.condK h (fun h => ?_) (fun h => ?_)
   ·refine Tri.sg [6,7] [6] (z00 3) ?_
    refine Tri.keep [6,7] [6] (s':=⟨[(6,.c (.ptr 6 0)),(7,cD (dI 4))],[(6,.box [.zero,.zero,.d (dI 0),.d (dI 0),.zero,.zero])]⟩) (by kernel_rfl) ?_
    refine Tri.le [] (fun k hk=>by cases hk) ⟨[(6,.c (.ptr 6 0)),(7,cD (dI 4))],[(6,.box [.d (lD 6 z01 ([]:List Update)),.d (lD 6 z01 ([]:List Update)),.d (dI 0),.d (dI 0),.d (lD 3 z02 ([]:List Time)),.d (lD 6 z01 ([]:List Update))])]⟩ ⟨⟨_,rfl,.refl _⟩,⟨_,rfl,.refl _⟩,trivial⟩ ⟨⟨_,rfl,.box (.cons (.zero _ _) (.cons (.zero _ _) (.cons (.refl _) (.cons (.refl _) (.cons (.zero _ _) (.cons (.zero _ _) .nil)))))),(by simp)⟩,trivial⟩ ?_
    refine Tri.ret ?_
    cases h
    exact RetAt.k
   ·refine Tri.seqJ (fun (a3:Bool)=>⟨[(0,cD (lD 3 z02 p0)),(4,.c (.ptr 4 0)),(5,.c (.ptr 5 0)),(6,.c (.ptr 6 0)),(19,cD (.bool a3))],[(4,.box (cBatch p1)),(5,.box (cBatch p2)),(6,.box [.zero,.zero,.d (dI 0),.d (dI 0),.zero,.zero])]⟩) h (fun a3 h => ?_) (fun j4 h => ?_)
    ·refine Tri.condK h (fun h => ?_) (fun h => ?_)
     ·refine Tri.sg [6,7] [6] (z00 3) ?_
      refine Tri.keep [6,7] [6] (s':=⟨[(6,.c (.ptr 6 0)),(7,cD (dI 1))],[(6,.box [.zero,.zero,.d (dI 0),.d (dI 0),.zero,.zero])]⟩) (by kernel_rfl) ?_
      refine Tri.le [] (fun k hk=>by cases hk) ⟨[(6,.c (.ptr 6 0)),(7,cD (dI 1))],[(6,.box [.d (lD 6 z01 ([]:List Update)),.d (lD 6 z01 ([]:List Update)),.d (dI 0),.d (dI 0),.d (lD 3 z02 ([]:List Time)),.d (lD 6 z01 ([]:List Update))])]⟩ ⟨⟨_,rfl,.refl _⟩,⟨_,rfl,.refl _⟩,trivial⟩ ⟨⟨_,rfl,.box (.cons (.zero _ _) (.cons (.zero _ _) (.cons (.refl _) (.cons (.refl _) (.cons (.zero _ _) (.cons (.zero _ _) .nil)))))),(by simp)⟩,trivial⟩ ?_
      refine Tri.ret ?_
      cases h
      exact RetAt.k
     ·refine Tri.skip ?_
      refine Tri.seqS ?_
      refine Tri.reg ?_
      refine At.sg 6 [6,36] [6] (z00 6) ?_
      obtain ⟨r5,hr5,h⟩:=z05 h
      refine At.cA [] [.agg [.d (lD 6 z01 p1.updates),.d (lD 6 z01 p2.updates),.d (dI 0),.d (dI 0),.d (lD 3 z02 p0),.zero]] (zdt hr5) (.cons (.agg (.cons (.le (.refl _)) (.cons (.le (.refl _)) (.cons (.le (.refl _)) (.cons (.le (.refl _)) (.cons (.le (.refl _)) (.cons (.le (.zero _ _)) .nil))))))) .nil) ?_
      refine At.sg 2 [6,7] [6] (z00 2) ?_
      refine At.done rfl ?_
      refine Tri.ret ?_
      cases h
      exact RetAt.k
    ·refine Tri.seqS ?_
     refine Tri.reg ?_
     refine At.sg 3 [0,4,5,6,20,22] [4,5,6] (z00 3) ?_
     obtain ⟨r6,hr6,h⟩:=z05 h
     refine At.cA [] [cD (lD 3 z02 p0),cD (lD 3 z02 p1.since)] (z91 hr6) (.cons (.refl _) (.cons (.refl _) .nil)) ?_
     refine At.sg 2 [0,4,5,6,19] [4,5,6] (z00 2) ?_
     refine At.done rfl ?_
     refine Tri.condK h (fun h => ?_) (fun h => ?_)
     ·refine Tri.kp [0,4,5,6,19] [4,5,6] ?_
      refine Tri.skip ?_
      exact ⟨_,h,kr⟩
     ·refine Tri.reg ?_
      refine At.sg 3 [0,4,5,6,25,27] [4,5,6] (z00 3) ?_
      obtain ⟨r7,hr7,h⟩:=z05 h
      refine At.cA [] [cD (lD 3 z02 p0),cD (lD 3 z02 p2.since)] (z91 hr7) (.cons (.refl _) (.cons (.refl _) .nil)) ?_
      refine At.sg 2 [0,4,5,6,19] [4,5,6] (z00 2) ?_
      refine At.done rfl ?_
      exact ⟨_,h,kr⟩
  ·refine Tri.seqS ?_
   refine Tri.reg ?_
   refine At.sg 1 [0,4,5,6,9] [4,5,6] (z00 1) ?_
   obtain ⟨r8,hr8,h⟩:=z05 h
   refine At.cA [] [.agg (cBatch p1)] (z7m hr8) (.cons (.refl _) .nil) ?_
   refine At.sg 2 [0,4,5,6,8] [4,5,6] (z00 2) ?_
   refine At.done rfl ?_
   refine Tri.condK h (fun h => ?_) (fun h => ?_)
   ·refine Tri.kp [0,4,5,6,8] [4,5,6] ?_
    refine Tri.skip ?_
    exact ⟨_,h,kr⟩
   ·refine Tri.seqS ?_
    refine Tri.reg ?_
    refine At.sg 1 [0,4,5,6,12] [4,5,6] (z00 1) ?_
    obtain ⟨r9,hr9,h⟩:=z05 h
    refine At.cA [] [.agg (cBatch p2)] (z7m hr9) (.cons (.refl _) .nil) ?_
    refine At.sg 2 [0,4,5,6,8] [4,5,6] (z00 2) ?_
    refine At.done rfl ?_
    refine Tri.condK h (fun h => ?_) (fun h => ?_)
    ·refine Tri.kp [0,4,5,6,8] [4,5,6] ?_
     refine Tri.skip ?_
     exact ⟨_,h,kr⟩
    ·refine Tri.reg ?_
     refine At.sg 1 [0,4,5,6,15] [4,5,6] (z00 1) ?_
     obtain ⟨r10,hr10,h⟩:=z05 h
     refine At.cA [] [cD (lD 3 z02 p0)] (z7q hr10) (.cons (.refl _) .nil) ?_
     refine At.sg 2 [0,4,5,6,8] [4,5,6] (z00 2) ?_
     refine At.done rfl ?_
     exact ⟨_,h,kr⟩
theorem z7z {p0:Update} {p1:Update} {q:Int} (h:z7k p0 p1=some q) :
  Summ Tryz.prog 95 [.agg (cUpdate p0),.agg (cUpdate p1)] [] (cD (dI q)) []:=by
 refine Summ.intro Tryz.func95 rfl (by kernel_rfl) (by kernel_rfl) [] rfl ?_
 rintro ⟨P,w0,G0,V,LL,lk,N, φ0,fx⟩ rfl rfl rfl rfl
 unfold z7k at h
 refine Tri.sg [2,3] [2,3] (z00 3) ?_
 refine Tri.seqS ?_
 obtain ⟨r1,hr1,h⟩:=z05 h
 obtain ⟨r2,hr2,h⟩:=z05 h
 obtain ⟨r3,hr3,h⟩:=z05 h
 refine Tri.dC [.a [2] [],.a [5] [2],.a [3] [],.a [7] [3],.m ⟨[(6,cD (lD 3 z04 p0.key)),(8,cD (lD 3 z04 p1.key))],[]⟩ ⟨[(9,cD (dI r1))],[]⟩ [] [] [],.a [2] [],.a [10] [2],.a [3] [],.a [12] [3],.m ⟨[(11,cD (lD 3 z04 p0.row)),(13,cD (lD 3 z04 p1.row))],[]⟩ ⟨[(14,cD (dI r2))],[]⟩ [] [] [],.m ⟨[(9,cD (dI r1)),(14,cD (dI r2))],[]⟩ ⟨[(15,.c (oC 15 1 ([r1,r2]:List Int)))],[(15,vL 1 (z26 .i64) ([r1,r2]:List Int))]⟩ [15] [] [],.m ⟨[(15,.c (oC 15 1 ([r1,r2]:List Int)))],[(15,vL 1 (z26 .i64) ([r1,r2]:List Int))]⟩ ⟨[(16,cD (dI r3))],[]⟩ [] [] [],.a [16] []] [4] [] (z00 9) (.a (.a (.a (.a (.m ?_ (.a (.a (.a (.a (.m ?_ (.m ?_ (.m ?_ (.a .z))))))))))))) ?_
 ·exact DOk.cA [] [cD (lD 3 z04 p0.key),cD (lD 3 z04 p1.key)] (z62 hr1) fun r=>(.cons (.refl _) (.cons (.refl _) .nil))
 ·exact DOk.cA [] [cD (lD 3 z04 p0.row),cD (lD 3 z04 p1.row)] (z62 hr2) fun r=>(.cons (.refl _) (.cons (.refl _) .nil))
 ·exact DOk.one fun r hr=>One.buildT (e:=3) (es:=1) (z:=[.d (dI 0)]) (cells:=[.d (dI r1),.d (dI r2)]) (z26 .i64) ([r1,r2]:List Int) rfl (by kernel_rfl) rfl rfl (St.noRef_app (by kernel_rfl) (hr 15 (by simp))) (by kernel_rfl) rfl (by kernel_rfl) rfl rfl rfl (by kernel_rfl) rfl ⟨⟨rfl,.refl _⟩,⟨rfl,.refl _⟩,trivial⟩
 ·exact DOk.cA [] [.c (oC 15 1 ([r1,r2]:List Int))] (z86 hr3) fun r=>(.cons (AVArg.view (z26 .i64) ([r1,r2]:List Int) rfl) .nil)
 refine Tri.ret ?_
 cases h
 exact RetAt.k
theorem ze0 {p0:List Update} {p1:Int} {p2:List Update} {q:Bool} (h:zb0 p0 p1 p2=some q) :
    Summ Tryz.prog 60 [cD (lD 6 z01 p0),cD (dI p1),cD (lD 6 z01 p2)] [] (cD (.bool q)) []:=by
  refine Summ.intro Tryz.func60 rfl (by kernel_rfl) (by kernel_rfl) [] rfl ?_
  rintro ⟨P,w0,G0,V,LL,lk,N, φ0,fx⟩ rfl rfl rfl rfl
  unfold zb0 at h
  refine Tri.sg [0,1,2] [] (z00 1) ?_
  refine Tri.seqS ?_
  refine Tri.seqJ (fun (a1:Bool)=>⟨[(0,cD (lD 6 z01 p0)),(1,cD (dI p1)),(2,cD (lD 6 z01 p2)),(14,cD (.bool a1))],[]⟩) h (fun a1 h => ?_) (fun j2 h => ?_)
  ·refine Tri.condK h (fun h => ?_) (fun h => ?_)
   ·refine Tri.sg [6] [] (z00 1) ?_
    refine Tri.ret ?_
    cases h
    exact RetAt.k
   ·refine Tri.skip ?_
    refine Tri.seqS ?_
    refine Tri.segL [0,1,2,18] [] ⟨[(0,cD (lD 6 z01 p0)),(1,cD (dI p1)),(2,cD (lD 6 z01 p2)),(18,cD (.bool (decide (p1=(p0.length:Int)))))],[]⟩ _ (by kernel_rfl) (z00 4) ?_
    refine Tri.condK h (fun h => ?_) (fun h => ?_)
    ·refine Tri.sg [6] [] (z00 1) ?_
     refine Tri.ret ?_
     cases h
     exact RetAt.k
    ·refine Tri.skip ?_
     refine Tri.seqS ?_
     refine Tri.seqJ (fun (a3:Bool)=>⟨[(0,cD (lD 6 z01 p0)),(1,cD (dI p1)),(2,cD (lD 6 z01 p2)),(33,cD (.bool a3))],[]⟩) h (fun a3 h => ?_) (fun j4 h => ?_)
     ·refine Tri.eqS ⟨[(0,cD (lD 6 z01 p0)),(1,cD (dI p1)),(2,cD (lD 6 z01 p2)),(33,cD (.bool a3))],[]⟩ kr ?_
      refine Tri.condK h (fun h => ?_) (fun h => ?_)
      ·refine Tri.sg [6] [] (z00 1) ?_
       refine Tri.ret ?_
       cases h
       exact RetAt.k
      ·refine Tri.skip ?_
       refine Tri.seqJ (fun (a5:Bool)=>⟨[(6,cD (.bool a5))],[]⟩) h (fun a5 h => ?_) (fun j6 h => ?_)
       ·refine Tri.ret ?_
        cases h
        exact RetAt.k
       ·rcases z1o h with ⟨hp7,h⟩ | ⟨hp7,h⟩
        ·refine Tri.dC [.a [2] [],.a [34] [],.a [35] [],.m ⟨[(36,cD (.bool (decide ((p2.length:Int)=0))))],[]⟩ ⟨[(37,.c (.d (.bool true)))],[]⟩ [] [] [],.a [2,37] [],.a [2,37] [],.a [37,39] [],.a [37,40] [],.a [37,38,41] [],.a [37,42] [],.a [0,37] [],.a [1,37] [],.a [37,44,45] [],.a [37,46] [],.a [37,43,47] [],.a [37,48] [],.a [37,49] [],.a [50] []] [6] [] (z00 5) (.a (.a (.a (.m ?_ (.a (.a (.a (.a (.a (.a (.a (.a (.a (.a (.a (.a (.a (.a .z)))))))))))))))))) ?_
         · exact DOk.stepP (fun b => .val (.c (.d (.bool b))) (True)) (p:=(decide ((p2.length:Int)=0))) hp7 (fun r=>by kernel_rfl) (fun r=>by kernel_rfl) trivial (by kernel_rfl) (by kernel_rfl) (fun r=>rfl)
         exact ⟨_,h,kr⟩
        ·obtain ⟨hc8,h⟩:=z03 h
         obtain ⟨hc9,h⟩:=z03 h
         obtain ⟨r10,hr10,h⟩:=z05 h
         refine Tri.dC [.a [2] [],.a [34] [],.a [35] [],.m ⟨[(36,cD (.bool (decide ((p2.length:Int)=0))))],[]⟩ ⟨[(37,.c (.d (.bool false)))],[]⟩ [] [] [],.a [2,37] [],.a [2,37] [],.a [37,39] [],.a [37,40] [],.a [37,38,41] [],.a [37,42] [],.a [0,37] [],.a [1,37] [],.a [37,44,45] [],.a [37,46] [],.m ⟨[(37,cD (.bool false)),(43,.agg (cUpdate (p2.getD ((IntKind.i64.wrap ((p2.length:Int) - 1)).toNat) default))),(47,.agg (cUpdate (p0.getD p1.toNat default)))],[]⟩ ⟨[(48,cD (dI r10))],[]⟩ [] [] [],.a [37,48] [],.a [37,49] [],.a [50] []] [6] [] (tN 7 (ai hc8 (tN 3 (ai hc9 (z00 4))))) (.a (.a (.a (.m ?_ (.a (.a (.a (.a (.a (.a (.a (.a (.a (.a (.m ?_ (.a (.a (.a .z)))))))))))))))))) ?_
         · exact DOk.stepP (fun b => .val (.c (.d (.bool b))) (True)) (p:=(decide ((p2.length:Int)=0))) hp7 (fun r=>by kernel_rfl) (fun r=>by kernel_rfl) trivial (by kernel_rfl) (by kernel_rfl) (fun r=>rfl)
         · exact DOk.cA [] [.agg (cUpdate (p2.getD ((IntKind.i64.wrap ((p2.length:Int) - 1)).toNat) default)),.agg (cUpdate (p0.getD p1.toNat default))] (z7z hr10) fun r=>(.cons (.refl _) (.cons (.refl _) .nil))
         exact ⟨_,h,kr⟩
     ·rcases z1o h with ⟨hp11,h⟩ | ⟨hp11,h⟩
      ·obtain ⟨hc12,h⟩:=z03 h
       obtain ⟨hc13,h⟩:=z03 h
       obtain ⟨r14,hr14,h⟩:=z05 h
       refine Tri.dC [.a [1] [],.a [19] [],.m ⟨[(20,cD (.bool (decide (0 < p1))))],[]⟩ ⟨[(21,.c (.d (.bool true)))],[]⟩ [] [] [],.a [0,21] [],.a [1,21] [],.a [21,23] [],.a [21,22,24] [],.a [21,25] [],.a [0,21] [],.a [1,21] [],.a [21,27,28] [],.a [21,29] [],.m ⟨[(21,cD (.bool true)),(26,.agg (cUpdate (p0.getD ((IntKind.i64.wrap (p1 - 1)).toNat) default))),(30,.agg (cUpdate (p0.getD p1.toNat default)))],[]⟩ ⟨[(31,cD (dI r14))],[]⟩ [] [] [],.a [21,31] [],.a [21,32] []] [0,1,2,33] [] (tN 5 (ai hc12 (tN 3 (ai hc13 (z00 3))))) (.a (.a (.m ?_ (.a (.a (.a (.a (.a (.a (.a (.a (.a (.m ?_ (.a (.a .z))))))))))))))) ?_
       · exact DOk.stepP (fun b => .val (.c (.d (.bool b))) (True)) (p:=(decide (0 < p1))) hp11 (fun r=>by kernel_rfl) (fun r=>by kernel_rfl) trivial (by kernel_rfl) (by kernel_rfl) (fun r=>rfl)
       · exact DOk.cA [] [.agg (cUpdate (p0.getD ((IntKind.i64.wrap (p1 - 1)).toNat) default)),.agg (cUpdate (p0.getD p1.toNat default))] (z7z hr14) fun r=>(.cons (.refl _) (.cons (.refl _) .nil))
       exact ⟨_,h,kr⟩
      ·refine Tri.dC [.a [1] [],.a [19] [],.m ⟨[(20,cD (.bool (decide (0 < p1))))],[]⟩ ⟨[(21,.c (.d (.bool false)))],[]⟩ [] [] [],.a [0,21] [],.a [1,21] [],.a [21,23] [],.a [21,22,24] [],.a [21,25] [],.a [0,21] [],.a [1,21] [],.a [21,27,28] [],.a [21,29] [],.a [21,26,30] [],.a [21,31] [],.a [21,32] []] [0,1,2,33] [] (z00 3) (.a (.a (.m ?_ (.a (.a (.a (.a (.a (.a (.a (.a (.a (.a (.a (.a .z))))))))))))))) ?_
       · exact DOk.stepP (fun b => .val (.c (.d (.bool b))) (True)) (p:=(decide (0 < p1))) hp11 (fun r=>by kernel_rfl) (fun r=>by kernel_rfl) trivial (by kernel_rfl) (by kernel_rfl) (fun r=>rfl)
       exact ⟨_,h,kr⟩
  ·refine Tri.reg ?_
   refine At.sg 3 [0,1,2,9] [] (z00 3) ?_
   refine At.cs [9] h (fun h => ?_) (fun h => ?_)
   ·refine At.sg 5 [0,1,2,14] [] (z00 1) ?_
    refine At.done rfl ?_
    exact ⟨_,h,kr⟩
   ·refine At.sg 5 [0,1,2,14] [] (z00 5) ?_
    refine At.done rfl ?_
    exact ⟨_,h,kr⟩
theorem z8e {fuel:Nat} {p0:Merger} {q:Int} (h:z6g fuel p0=some q) :
    Summ Tryz.prog 27 [.agg (cMerger p0)] [] (cD (dI q)) []:=by
  refine Summ.intro Tryz.func27 rfl (by kernel_rfl) (by kernel_rfl) [] rfl ?_
  rintro ⟨P,w0,G0,V,LL,lk,N, φ0,fx⟩ rfl rfl rfl rfl
  unfold z6g at h
  refine Tri.sg [1] [1] (z00 2) ?_
  refine Tri.seqJ (fun (a1:Bool)=>⟨[(1,.c (.ptr 1 0)),(3,cD (.bool a1))],[(1,.box (cMerger p0))]⟩) h (fun a1 h => ?_) (fun j2 h => ?_)
  ·refine Tri.seqS ?_
   refine Tri.seqJ (fun (a3:Bool)=>⟨[(45,cD (.bool a3))],[]⟩) h (fun a3 h => ?_) (fun j4 h => ?_)
   ·refine Tri.condK h (fun h => ?_) (fun h => ?_)
    ·refine Tri.sg [2] [] (z00 1) ?_
     refine Tri.ret ?_
     cases h
     exact RetAt.k
    ·refine Tri.skip ?_
     refine Tri.sg [2] [] (z00 1) ?_
     refine Tri.ret ?_
     cases h
     exact RetAt.k
   ·refine Tri.reg ?_
    refine At.sg 3 [1,26] [1] (z00 3) ?_
    refine At.cs [26] h (fun h => ?_) (fun h => ?_)
    ·refine At.sg 19 [45] [] (z00 3) ?_
     refine At.done rfl ?_
     exact ⟨_,h,kr⟩
    ·refine At.sg 6 [1,26,28,30,32] [1] (z00 6) ?_
     obtain ⟨r5,hr5,h⟩:=z05 h
     refine At.cA [] [cD (lD 6 z01 p0.a),cD (dI p0.i),cD (lD 6 z01 p0.out)] (ze0 hr5) (.cons (.refl _) (.cons (.refl _) (.cons (.refl _) .nil))) ?_
     refine At.sg 3 [1,36] [1] (z00 3) ?_
     refine At.cs [36] h (fun h => ?_) (fun h => ?_)
     ·refine At.sg 9 [45] [] (z00 1) ?_
      refine At.done rfl ?_
      exact ⟨_,h,kr⟩
     ·refine At.sg 6 [36,38,40,42] [] (z00 6) ?_
      obtain ⟨r6,hr6,h⟩:=z05 h
      refine At.cA [] [cD (lD 6 z01 p0.b),cD (dI p0.j),cD (lD 6 z01 p0.out)] (ze0 hr6) (.cons (.refl _) (.cons (.refl _) (.cons (.refl _) .nil))) ?_
      refine At.sg 2 [45] [] (z00 2) ?_
      refine At.done rfl ?_
      exact ⟨_,h,kr⟩
  ·refine Tri.reg ?_
   refine At.sg 2 [1,5] [1] (z00 2) ?_
   obtain ⟨r7,hr7,h⟩:=z05 h
   refine At.cA [] [cD (lD 3 z02 p0.since)] (z7q hr7) (.cons (.refl _) .nil) ?_
   refine At.sg 1 [1,7] [1] (z00 1) ?_
   refine At.cs [7] h (fun h => ?_) (fun h => ?_)
   ·refine At.sg 2 [1,7,9] [1] (z00 2) ?_
    obtain ⟨r8,hr8,h⟩:=z05 h
    refine At.cA [] [cD (lD 6 z01 p0.a)] (zal hr8) (.cons (.refl _) .nil) ?_
    refine At.sg 2 [1,12] [1] (z00 2) ?_
    refine At.cs [12] h (fun h => ?_) (fun h => ?_)
    ·refine At.sg 2 [1,12,14] [1] (z00 2) ?_
     obtain ⟨r9,hr9,h⟩:=z05 h
     refine At.cA [] [cD (lD 6 z01 p0.b)] (zal hr9) (.cons (.refl _) .nil) ?_
     refine At.sg 2 [1,17] [1] (z00 2) ?_
     refine At.cs [17] h (fun h => ?_) (fun h => ?_)
     ·refine At.sg 4 [1,17,19,21] [1] (z00 4) ?_
      obtain ⟨r10,hr10,h⟩:=z05 h
      refine At.cA [] [cD (lD 6 z01 p0.out),cD (lD 3 z02 p0.since)] (zaf hr10) (.cons (.refl _) (.cons (.refl _) .nil)) ?_
      refine At.sg 2 [1,3] [1] (z00 2) ?_
      refine At.done rfl ?_
      exact ⟨_,h,kr⟩
     ·refine At.sg 7 [1,3] [1] (z00 2) ?_
      refine At.done rfl ?_
      exact ⟨_,h,kr⟩
    ·refine At.sg 12 [1,3] [1] (z00 4) ?_
     refine At.done rfl ?_
     exact ⟨_,h,kr⟩
   ·refine At.sg 17 [1,3] [1] (z00 6) ?_
    refine At.done rfl ?_
    exact ⟨_,h,kr⟩
theorem zh8 {p0:List Update} {q:List Update} (h:z56 p0=some q) :
    Summ Tryz.prog 92 [cD (lD 6 z01 p0)] [] (.c (oC 6000 6 q)) [(6000,vL 6 z01 q)]:=by
  refine Summ.intro Tryz.func92 rfl (by kernel_rfl) (by kernel_rfl) [6000] rfl ?_
  rintro ⟨P,w0,G0,V,LL,lk,N, φ0,fx⟩ rfl rfl rfl rfl
  unfold z56 at h
  refine Tri.sg [0] [] (z00 1) ?_
  refine Tri.seqS ?_
  refine Tri.reg ?_
  refine At.seg 2 [0,6] [] (s':=⟨[(0,cD (lD 6 z01 p0)),(6,cD (dI (p0.length:Int)))],[]⟩) (by kernel_rfl) (z00 2) ?_
  obtain ⟨hc1,h⟩:=z03 h
  refine At.one rfl (One.makeT (e:=56) (es:=6) (bs:=80) (n:=(p0.length:Int)) (c:=(p0.length:Int)) (z:=[.zero,.zero,.d (dU 0),.d (dU 0),.d (dU 0),.d (dI 0)]) (z01) ((⟨([]:List Value),([]:List Value),(⟨0,(0,0)⟩:Time),0⟩:Update):Update) rfl rfl rfl rfl (by kernel_rfl) rfl rfl rfl (by kernel_rfl) rfl (by kernel_rfl) rfl (.cons (.zero _ _) (.cons (.zero _ _) (.cons (.refl _) (.cons (.refl _) (.cons (.refl _) (.cons (.refl _) .nil)))))) rfl rfl rfl hc1.1 hc1.2.1 hc1.2.2 rfl) ?_
  refine At.sg 1 [0,3] [7] (z00 1) ?_
  refine At.done rfl ?_
  refine Tri.seqS ?_
  refine Tri.reg ?_
  refine At.seg 2 [3,8,9] [7] (s':=⟨[(3,.c (oC 7 6 (List.replicate p0.length ((⟨([]:List Value),([]:List Value),(⟨0,(0,0)⟩:Time),0⟩:Update):Update)))),(8,.c (oC 7 6 (List.replicate p0.length ((⟨([]:List Value),([]:List Value),(⟨0,(0,0)⟩:Time),0⟩:Update):Update)))),(9,cD (lD 6 z01 p0))],[(7,vL 6 z01 (List.replicate p0.length ((⟨([]:List Value),([]:List Value),(⟨0,(0,0)⟩:Time),0⟩:Update):Update)))]⟩) (by kernel_rfl) (z00 2) ?_
  obtain ⟨hc2,h⟩:=z03 h
  refine At.one rfl (One.copyT (e:=56) (es:=6) (z01) (List.replicate p0.length ((⟨([]:List Value),([]:List Value),(⟨0,(0,0)⟩:Time),0⟩:Update):Update)) p0 rfl rfl rfl rfl rfl rfl rfl rfl (.list rfl (fun _ _=>rfl)) hc2) ?_
  refine At.keep [3,10] [7] (s':=⟨[(3,.c (oC 7 6 (List.replicate p0.length ((⟨([]:List Value),([]:List Value),(⟨0,(0,0)⟩:Time),0⟩:Update):Update)))),(10,cD (dI ((p0.length:Nat):Int)))],[(7,vL 6 z01 (copyL (List.replicate p0.length ((⟨([]:List Value),([]:List Value),(⟨0,(0,0)⟩:Time),0⟩:Update):Update)) p0))]⟩) (by kernel_rfl) ?_
  refine At.eqS (s':=⟨[(3,.c (oC 7 6 (copyL (List.replicate p0.length ((⟨([]:List Value),([]:List Value),(⟨0,(0,0)⟩:Time),0⟩:Update):Update)) p0))),(10,cD (dI ((p0.length:Nat):Int)))],[(7,vL 6 z01 (copyL (List.replicate p0.length ((⟨([]:List Value),([]:List Value),(⟨0,(0,0)⟩:Time),0⟩:Update):Update)) p0))]⟩) (by simp only [oC,vL,zan hc2]) ?_
  refine At.done rfl ?_
  refine Tri.seqS ?_
  refine Tri.segL [3,12,13] [7] ⟨[(3,.c (oC 7 6 (copyL (List.replicate p0.length ((⟨([]:List Value),([]:List Value),(⟨0,(0,0)⟩:Time),0⟩:Update):Update)) p0))),(12,cD (dI ((copyL (List.replicate p0.length ((⟨([]:List Value),([]:List Value),(⟨0,(0,0)⟩:Time),0⟩:Update):Update)) p0).length:Int))),(13,cD (dI 0))],[(7,vL 6 z01 (copyL (List.replicate p0.length ((⟨([]:List Value),([]:List Value),(⟨0,(0,0)⟩:Time),0⟩:Update):Update)) p0))]⟩ _ (by kernel_rfl) (z00 3) ?_
  refine Tri.lenOfO (t:=3) rfl rfl (Nat.le_refl _) fun hlena4 => ?_
  refine Tri.rK 13 (copyL (List.replicate p0.length ((⟨([]:List Value),([]:List Value),(⟨0,(0,0)⟩:Time),0⟩:Update):Update)) p0) (fun (x:Empty) s=>False) (fun (a4:List Update)=>⟨[(3,.c (oC 7 6 a4)),(12,cD (dI ((copyL (List.replicate p0.length ((⟨([]:List Value),([]:List Value),(⟨0,(0,0)⟩:Time),0⟩:Update):Update)) p0).length:Int)))],[(7,vL 6 z01 a4)]⟩) [13,3,12] [7] [14,13,3,12] [7] [3,12] [7] [13,3,12] [7] h hlena4 ?_ ?_ ?_
  ·intro i3 a4 c hii3 h
   refine Tri.segL [3,4,12,13] [7] ⟨[(3,.c (oC 7 6 a4)),(4,cD (dI ((i3:Nat):Int))),(12,cD (dI ((copyL (List.replicate p0.length ((⟨([]:List Value),([]:List Value),(⟨0,(0,0)⟩:Time),0⟩:Update):Update)) p0).length:Int))),(13,cD (dI ((i3:Nat):Int)))],[(7,vL 6 z01 a4)]⟩ _ (by kernel_rfl) (z00 2) ?_
   obtain ⟨hc6,h⟩:=z03 h
   obtain ⟨hc7,h⟩:=z03 h
   obtain ⟨r8,hr8,h⟩:=z05 h
   obtain ⟨hc9,h⟩:=z03 h
   obtain ⟨hc10,h⟩:=z03 h
   obtain ⟨r11,hr11,h⟩:=z05 h
   obtain ⟨hc12,h⟩:=z03 h
   obtain ⟨hc13,h⟩:=z03 h
   obtain ⟨hc14,h⟩:=z03 h
   obtain ⟨hc15,h⟩:=z03 h
   refine Tri.afterA ⟨[(3,.c (oC 7 6 a4)),(12,cD (dI ((copyL (List.replicate p0.length ((⟨([]:List Value),([]:List Value),(⟨0,(0,0)⟩:Time),0⟩:Update):Update)) p0).length:Int))),(13,cD (dI ((i3:Nat):Int)))],[(7,vL 6 z01 ((a4.set (0 + i3) (⟨r8,(a4.getD (0 + i3) default).row,(a4.getD (0 + i3) default).time,(a4.getD (0 + i3) default).diff⟩:Update)).set (0 + i3) (⟨((a4.set (0 + i3) (⟨r8,(a4.getD (0 + i3) default).row,(a4.getD (0 + i3) default).time,(a4.getD (0 + i3) default).diff⟩:Update)).getD (0 + i3) default).key,r11,((a4.set (0 + i3) (⟨r8,(a4.getD (0 + i3) default).row,(a4.getD (0 + i3) default).time,(a4.getD (0 + i3) default).diff⟩:Update)).getD (0 + i3) default).time,((a4.set (0 + i3) (⟨r8,(a4.getD (0 + i3) default).row,(a4.getD (0 + i3) default).time,(a4.getD (0 + i3) default).diff⟩:Update)).getD (0 + i3) default).diff⟩:Update)))]⟩ ?_ ?_
   ·refine Tri.dS ⟨[(3,.c (oC 7 6 a4)),(12,cD (dI ((copyL (List.replicate p0.length ((⟨([]:List Value),([]:List Value),(⟨0,(0,0)⟩:Time),0⟩:Update):Update)) p0).length:Int))),(13,cD (dI ((i3:Nat):Int)))],[(7,vL 6 z01 ((a4.set (0 + i3) (⟨r8,(a4.getD (0 + i3) default).row,(a4.getD (0 + i3) default).time,(a4.getD (0 + i3) default).diff⟩:Update)).set (0 + i3) (⟨((a4.set (0 + i3) (⟨r8,(a4.getD (0 + i3) default).row,(a4.getD (0 + i3) default).time,(a4.getD (0 + i3) default).diff⟩:Update)).getD (0 + i3) default).key,r11,((a4.set (0 + i3) (⟨r8,(a4.getD (0 + i3) default).row,(a4.getD (0 + i3) default).time,(a4.getD (0 + i3) default).diff⟩:Update)).getD (0 + i3) default).time,((a4.set (0 + i3) (⟨r8,(a4.getD (0 + i3) default).row,(a4.getD (0 + i3) default).time,(a4.getD (0 + i3) default).diff⟩:Update)).getD (0 + i3) default).diff⟩:Update)))]⟩ [.a [3] [],.a [4] [],.a [3] [],.a [4] [],.a [3] [],.a [4] [],.a [20,21] [7],.a [22] [],.a [23] [7],.m ⟨[(24,cD (lD 3 z04 ((a4.getD (0 + i3) default).key)))],[]⟩ ⟨[(25,cD (lD 3 z04 r8))],[]⟩ [] [] [],.a [3] [],.a [4] [],.a [26,27] [7],.a [28] [],.a [29] [7],.m ⟨[(30,cD (lD 3 z04 ((a4.getD (0 + i3) default).row)))],[]⟩ ⟨[(31,cD (lD 3 z04 r11))],[]⟩ [] [] [],.a [16,17] [7],.a [32] [],.m ⟨[(25,cD (lD 3 z04 r8)),(33,.c (.vptr 7 6 (0 + i3) 0))],[(7,vL 6 z01 a4)]⟩ ⟨[],[(7,vL 6 z01 (a4.set (0 + i3) (⟨r8,(a4.getD (0 + i3) default).row,(a4.getD (0 + i3) default).time,(a4.getD (0 + i3) default).diff⟩:Update)))]⟩ [] [] [],.a [18,19] [7],.a [34] [],.m ⟨[(31,cD (lD 3 z04 r11)),(35,.c (.vptr 7 6 (0 + i3) 1))],[(7,vL 6 z01 (a4.set (0 + i3) (⟨r8,(a4.getD (0 + i3) default).row,(a4.getD (0 + i3) default).time,(a4.getD (0 + i3) default).diff⟩:Update)))]⟩ ⟨[],[(7,vL 6 z01 ((a4.set (0 + i3) (⟨r8,(a4.getD (0 + i3) default).row,(a4.getD (0 + i3) default).time,(a4.getD (0 + i3) default).diff⟩:Update)).set (0 + i3) (⟨((a4.set (0 + i3) (⟨r8,(a4.getD (0 + i3) default).row,(a4.getD (0 + i3) default).time,(a4.getD (0 + i3) default).diff⟩:Update)).getD (0 + i3) default).key,r11,((a4.set (0 + i3) (⟨r8,(a4.getD (0 + i3) default).row,(a4.getD (0 + i3) default).time,(a4.getD (0 + i3) default).diff⟩:Update)).getD (0 + i3) default).time,((a4.set (0 + i3) (⟨r8,(a4.getD (0 + i3) default).row,(a4.getD (0 + i3) default).time,(a4.getD (0 + i3) default).diff⟩:Update)).getD (0 + i3) default).diff⟩:Update)))]⟩ [] [] []] [3,12,13] [7] (tN 6 (ai hc6 (tN 1 (ai hc7 (tN 2 (ai hc9 (tN 1 (ai hc10 (ai hc12 (tN 1 (ai hc14 (z00 1)))))))))))) (.a (.a (.a (.a (.a (.a (.a (.a (.a (.m ?_ (.a (.a (.a (.a (.a (.m ?_ (.a (.a (.m ?_ (.a (.a (.m ?_ .z)))))))))))))))))))))) ?_
    · exact DOk.cA [] [cD (lD 3 z04 ((a4.getD (0 + i3) default).key))] (z1e hr8) fun r=>(.cons (.refl _) .nil)
    · exact DOk.cA [] [cD (lD 3 z04 ((a4.getD (0 + i3) default).row))] (z1e hr11) fun r=>(.cons (.refl _) .nil)
    · exact DOk.one fun r hr=>One.storeT (xs:=[.d (lD 3 z04 r8)]) (ds:=[lD 3 z04 r8]) (z01) a4 (⟨r8,(a4.getD (0 + i3) default).row,(a4.getD (0 + i3) default).time,(a4.getD (0 + i3) default).diff⟩:Update) rfl (by kernel_rfl) rfl rfl rfl hc13 rfl rfl (.refl _) rfl rfl rfl rfl
    · exact DOk.one fun r hr=>One.storeT (xs:=[.d (lD 3 z04 r11)]) (ds:=[lD 3 z04 r11]) (z01) (a4.set (0 + i3) (⟨r8,(a4.getD (0 + i3) default).row,(a4.getD (0 + i3) default).time,(a4.getD (0 + i3) default).diff⟩:Update)) (⟨((a4.set (0 + i3) (⟨r8,(a4.getD (0 + i3) default).row,(a4.getD (0 + i3) default).time,(a4.getD (0 + i3) default).diff⟩:Update)).getD (0 + i3) default).key,r11,((a4.set (0 + i3) (⟨r8,(a4.getD (0 + i3) default).row,(a4.getD (0 + i3) default).time,(a4.getD (0 + i3) default).diff⟩:Update)).getD (0 + i3) default).time,((a4.set (0 + i3) (⟨r8,(a4.getD (0 + i3) default).row,(a4.getD (0 + i3) default).time,(a4.getD (0 + i3) default).diff⟩:Update)).getD (0 + i3) default).diff⟩:Update) rfl (by kernel_rfl) rfl rfl rfl hc15 rfl rfl (.refl _) rfl rfl rfl rfl
    exact ⟨rfl,rfl⟩
   ·refine At.eqS (s':=⟨[(3,.c (oC 7 6 ((a4.set (0 + i3) (⟨r8,(a4.getD (0 + i3) default).row,(a4.getD (0 + i3) default).time,(a4.getD (0 + i3) default).diff⟩:Update)).set (0 + i3) (⟨((a4.set (0 + i3) (⟨r8,(a4.getD (0 + i3) default).row,(a4.getD (0 + i3) default).time,(a4.getD (0 + i3) default).diff⟩:Update)).getD (0 + i3) default).key,r11,((a4.set (0 + i3) (⟨r8,(a4.getD (0 + i3) default).row,(a4.getD (0 + i3) default).time,(a4.getD (0 + i3) default).diff⟩:Update)).getD (0 + i3) default).time,((a4.set (0 + i3) (⟨r8,(a4.getD (0 + i3) default).row,(a4.getD (0 + i3) default).time,(a4.getD (0 + i3) default).diff⟩:Update)).getD (0 + i3) default).diff⟩:Update)))),(12,cD (dI ((copyL (List.replicate p0.length ((⟨([]:List Value),([]:List Value),(⟨0,(0,0)⟩:Time),0⟩:Update):Update)) p0).length:Int))),(13,cD (dI ((i3:Nat):Int)))],[(7,vL 6 z01 ((a4.set (0 + i3) (⟨r8,(a4.getD (0 + i3) default).row,(a4.getD (0 + i3) default).time,(a4.getD (0 + i3) default).diff⟩:Update)).set (0 + i3) (⟨((a4.set (0 + i3) (⟨r8,(a4.getD (0 + i3) default).row,(a4.getD (0 + i3) default).time,(a4.getD (0 + i3) default).diff⟩:Update)).getD (0 + i3) default).key,r11,((a4.set (0 + i3) (⟨r8,(a4.getD (0 + i3) default).row,(a4.getD (0 + i3) default).time,(a4.getD (0 + i3) default).diff⟩:Update)).getD (0 + i3) default).time,((a4.set (0 + i3) (⟨r8,(a4.getD (0 + i3) default).row,(a4.getD (0 + i3) default).time,(a4.getD (0 + i3) default).diff⟩:Update)).getD (0 + i3) default).diff⟩:Update)))]⟩) (by simp only [oC,vL,List.length_set]) ?_
    refine At.keep [13,3,12] [7] (s':=⟨[(13,cD (dI ((i3:Nat):Int))),(3,.c (oC 7 6 ((a4.set (0 + i3) (⟨r8,(a4.getD (0 + i3) default).row,(a4.getD (0 + i3) default).time,(a4.getD (0 + i3) default).diff⟩:Update)).set (0 + i3) (⟨((a4.set (0 + i3) (⟨r8,(a4.getD (0 + i3) default).row,(a4.getD (0 + i3) default).time,(a4.getD (0 + i3) default).diff⟩:Update)).getD (0 + i3) default).key,r11,((a4.set (0 + i3) (⟨r8,(a4.getD (0 + i3) default).row,(a4.getD (0 + i3) default).time,(a4.getD (0 + i3) default).diff⟩:Update)).getD (0 + i3) default).time,((a4.set (0 + i3) (⟨r8,(a4.getD (0 + i3) default).row,(a4.getD (0 + i3) default).time,(a4.getD (0 + i3) default).diff⟩:Update)).getD (0 + i3) default).diff⟩:Update)))),(12,cD (dI ((copyL (List.replicate p0.length ((⟨([]:List Value),([]:List Value),(⟨0,(0,0)⟩:Time),0⟩:Update):Update)) p0).length:Int)))],[(7,vL 6 z01 ((a4.set (0 + i3) (⟨r8,(a4.getD (0 + i3) default).row,(a4.getD (0 + i3) default).time,(a4.getD (0 + i3) default).diff⟩:Update)).set (0 + i3) (⟨((a4.set (0 + i3) (⟨r8,(a4.getD (0 + i3) default).row,(a4.getD (0 + i3) default).time,(a4.getD (0 + i3) default).diff⟩:Update)).getD (0 + i3) default).key,r11,((a4.set (0 + i3) (⟨r8,(a4.getD (0 + i3) default).row,(a4.getD (0 + i3) default).time,(a4.getD (0 + i3) default).diff⟩:Update)).getD (0 + i3) default).time,((a4.set (0 + i3) (⟨r8,(a4.getD (0 + i3) default).row,(a4.getD (0 + i3) default).time,(a4.getD (0 + i3) default).diff⟩:Update)).getD (0 + i3) default).diff⟩:Update)))]⟩) (by kernel_rfl) ?_
    refine At.done rfl ?_
    cases h
    exact kr
  ·intro a5 h
   refine Tri.sg [2] [7] (z00 2) ?_
   refine Tri.keep [2] [7] (s':=⟨[(2,.c (oC 7 6 a5))],[(7,vL 6 z01 a5)]⟩) (by kernel_rfl) ?_
   refine Tri.rename 7 6000 ⟨[(2,.c (oC 6000 6 a5))],[(6000,vL 6 z01 a5)]⟩ (by kernel_rfl) rfl rfl rfl ?_
   refine Tri.ret ?_
   cases h
   exact RetAt.k
  · exact fun x=>x.elim
theorem zeb {p0:Merger} {q:Merger} (h:z75 p0=some q) :
  Summ Tryz.prog 54 [.agg (cMerger p0)] [] (.agg [.d (lD 6 z01 q.a),.d (lD 6 z01 q.b),.d (dI q.i),.d (dI q.j),.d (lD 3 z02 q.since),oC 6105 6 q.out]) [(6105,vL 6 z01 q.out)]:=by
 refine Summ.intro Tryz.func54 rfl (by kernel_rfl) (by kernel_rfl) [6105] rfl ?_
 rintro ⟨P,w0,G0,V,LL,lk,N, φ0,fx⟩ rfl rfl rfl rfl
 unfold z75 at h
 refine Tri.sg [1,2] [1,2] (z00 2) ?_
 refine Tri.seqS ?_
 obtain ⟨r1,hr1,h⟩:=z05 h
 obtain ⟨r2,hr2,h⟩:=z05 h
 obtain ⟨r3,hr3,h⟩:=z05 h
 obtain ⟨r4,hr4,h⟩:=z05 h
 refine Tri.dC [.a [1] [],.a [3] [1],.m ⟨[(4,cD (lD 6 z01 p0.a))],[]⟩ ⟨[(5,cD (lD 6 z01 r1))],[]⟩ [] [] [],.a [1] [],.a [6] [1],.m ⟨[(7,cD (lD 6 z01 p0.b))],[]⟩ ⟨[(8,cD (lD 6 z01 r2))],[]⟩ [] [] [],.a [1] [],.a [9] [1],.m ⟨[(10,cD (lD 6 z01 p0.out))],[]⟩ ⟨[(11,.c (oC 30176 6 r3))],[(30176,vL 6 z01 r3)]⟩ [30176] [] [],.a [1] [],.a [12] [1],.m ⟨[(13,cD (lD 3 z02 p0.since))],[]⟩ ⟨[(14,cD (lD 3 z02 r4))],[]⟩ [] [] [],.a [1] [],.m ⟨[(5,cD (lD 6 z01 r1)),(15,.c (.ptr 1 0))],[(1,.box (cMerger p0))]⟩ ⟨[],[(1,.box [.d (lD 6 z01 r1),.d (lD 6 z01 p0.b),.d (dI p0.i),.d (dI p0.j),.d (lD 3 z02 p0.since),.d (lD 6 z01 p0.out)])]⟩ [] [] [],.a [1] [],.m ⟨[(8,cD (lD 6 z01 r2)),(16,.c (.ptr 1 1))],[(1,.box [.d (lD 6 z01 r1),.d (lD 6 z01 p0.b),.d (dI p0.i),.d (dI p0.j),.d (lD 3 z02 p0.since),.d (lD 6 z01 p0.out)])]⟩ ⟨[],[(1,.box [.d (lD 6 z01 r1),.d (lD 6 z01 r2),.d (dI p0.i),.d (dI p0.j),.d (lD 3 z02 p0.since),.d (lD 6 z01 p0.out)])]⟩ [] [] [],.a [1] [],.m ⟨[(11,.c (oC 30176 6 r3)),(17,.c (.ptr 1 5))],[(1,.box [.d (lD 6 z01 r1),.d (lD 6 z01 r2),.d (dI p0.i),.d (dI p0.j),.d (lD 3 z02 p0.since),.d (lD 6 z01 p0.out)]),(30176,vL 6 z01 r3)]⟩ ⟨[],[(1,.box [.d (lD 6 z01 r1),.d (lD 6 z01 r2),.d (dI p0.i),.d (dI p0.j),.d (lD 3 z02 p0.since),oC 30176 6 r3])]⟩ [] [] [],.a [1] [],.m ⟨[(14,cD (lD 3 z02 r4)),(18,.c (.ptr 1 4))],[(1,.box [.d (lD 6 z01 r1),.d (lD 6 z01 r2),.d (dI p0.i),.d (dI p0.j),.d (lD 3 z02 p0.since),oC 30176 6 r3])]⟩ ⟨[],[(1,.box [.d (lD 6 z01 r1),.d (lD 6 z01 r2),.d (dI p0.i),.d (dI p0.j),.d (lD 3 z02 r4),oC 30176 6 r3])]⟩ [] [] []] [1,2] [1,2,30176] (z00 12) (.a (.a (.m ?_ (.a (.a (.m ?_ (.a (.a (.m ?_ (.a (.a (.m ?_ (.a (.m ?_ (.a (.m ?_ (.a (.m ?_ (.a (.m ?_ .z)))))))))))))))))))) ?_
 ·exact DOk.cA [] [cD (lD 6 z01 p0.a)] (z6f hr1) fun r=>(.cons (.refl _) .nil)
 ·exact DOk.cA [] [cD (lD 6 z01 p0.b)] (z6f hr2) fun r=>(.cons (.refl _) .nil)
 ·exact DOk.callL (nf:=0) (caps:=[]) (xs:=[cD (lD 6 z01 p0.out)]) [(6000,30176)] (zh8 hr3) rfl (fun r=>by kernel_rfl) rfl (fun r=>by kernel_rfl) (fun r=>by kernel_rfl) (fun r=>(.flat (.refl _) rfl rfl .nil)) (fun r=>trivial) (by kernel_rfl) (by kernel_rfl) (by kernel_rfl) (by kernel_rfl) (by kernel_rfl) (by kernel_rfl) (by kernel_rfl) (by kernel_rfl) (by kernel_rfl) (by kernel_rfl) (by first | kernel_rfl | (show _=_; kernel_rfl))
 ·exact DOk.cA [] [cD (lD 3 z02 p0.since)] (z1v hr4) fun r=>(.cons (.refl _) .nil)
 ·exact DOk.step (.turn 1 (.box [.d (lD 6 z01 r1),.d (lD 6 z01 p0.b),.d (dI p0.i),.d (dI p0.j),.d (lD 3 z02 p0.since),.d (lD 6 z01 p0.out)])) (fun r=>by kernel_rfl) (fun r=>by kernel_rfl) trivial (by kernel_rfl) (by kernel_rfl) (fun r=>rfl)
 ·exact DOk.step (.turn 1 (.box [.d (lD 6 z01 r1),.d (lD 6 z01 r2),.d (dI p0.i),.d (dI p0.j),.d (lD 3 z02 p0.since),.d (lD 6 z01 p0.out)])) (fun r=>by kernel_rfl) (fun r=>by kernel_rfl) trivial (by kernel_rfl) (by kernel_rfl) (fun r=>rfl)
 ·exact DOk.step (.turn 1 (.box [.d (lD 6 z01 r1),.d (lD 6 z01 r2),.d (dI p0.i),.d (dI p0.j),.d (lD 3 z02 p0.since),oC 30176 6 r3])) (fun r=>by kernel_rfl) (fun r=>by kernel_rfl) trivial (by kernel_rfl) (by kernel_rfl) (fun r=>rfl)
 ·exact DOk.step (.turn 1 (.box [.d (lD 6 z01 r1),.d (lD 6 z01 r2),.d (dI p0.i),.d (dI p0.j),.d (lD 3 z02 r4),oC 30176 6 r3])) (fun r=>by kernel_rfl) (fun r=>by kernel_rfl) trivial (by kernel_rfl) (by kernel_rfl) (fun r=>rfl)
 refine Tri.sg [2] [2,30176] (z00 2) ?_
 refine Tri.keep [2] [2,30176] (s':=⟨[(2,.c (.ptr 2 0))],[(2,.box [.d (lD 6 z01 r1),.d (lD 6 z01 r2),.d (dI p0.i),.d (dI p0.j),.d (lD 3 z02 r4),oC 30176 6 r3]),(30176,vL 6 z01 r3)]⟩) (by kernel_rfl) ?_
 refine Tri.rename 30176 6105 ⟨[(2,.c (.ptr 2 0))],[(2,.box [.d (lD 6 z01 r1),.d (lD 6 z01 r2),.d (dI p0.i),.d (dI p0.j),.d (lD 3 z02 r4),oC 6105 6 r3]),(6105,vL 6 z01 r3)]⟩ (by kernel_rfl) rfl rfl rfl ?_
 refine Tri.ret ?_
 cases h
 exact RetAt.k
theorem z8c {l0:Worker} {q:Bool × Worker} (h:z4h l0=some q) :
    Summ Tryz.prog 55 [.c (.ptr 5000 0)] [(5000,.box [.d (lD 6 z01 l0.merger.a),.d (lD 6 z01 l0.merger.b),.d (dI l0.merger.i),.d (dI l0.merger.j),.d (lD 3 z02 l0.merger.since),oC 5100 6 l0.merger.out]),(5100,vL 6 z01 l0.merger.out)] (cD (.bool q.1)) [(5150,vL 6 z01 q.2.merger.out),(5000,.box [.d (lD 6 z01 q.2.merger.a),.d (lD 6 z01 q.2.merger.b),.d (dI q.2.merger.i),.d (dI q.2.merger.j),.d (lD 3 z02 q.2.merger.since),oC 5150 6 q.2.merger.out])]:=by
  refine Summ.intro Tryz.func55 rfl (by kernel_rfl) (by kernel_rfl) [5150] rfl ?_
  rintro ⟨P,w0,G0,V,LL,lk,N, φ0,fx⟩ rfl rfl rfl rfl
  unfold z4h at h
  refine Tri.rename 5100 5150 ⟨[(0,.c (.ptr 5000 0))],[(5000,.box [.d (lD 6 z01 l0.merger.a),.d (lD 6 z01 l0.merger.b),.d (dI l0.merger.i),.d (dI l0.merger.j),.d (lD 3 z02 l0.merger.since),oC 5150 6 l0.merger.out]),(5150,vL 6 z01 l0.merger.out)]⟩ (by kernel_rfl) rfl rfl rfl ?_
  refine Tri.segL [0] [5000,5150] ⟨[(0,.c (.ptr 5000 0))],[(5000,.box [.d (lD 6 z01 l0.merger.a),.d (lD 6 z01 l0.merger.b),.d (dI l0.merger.i),.d (dI l0.merger.j),.d (lD 3 z02 l0.merger.since),oC 5150 6 l0.merger.out]),(5150,vL 6 z01 l0.merger.out)]⟩ _ (by kernel_rfl) (z00 1) ?_
  refine Tri.seqJ (fun (a1:Bool)=>⟨[(2,cD (.bool a1))],[(5000,.box [.d (lD 6 z01 l0.merger.a),.d (lD 6 z01 l0.merger.b),.d (dI l0.merger.i),.d (dI l0.merger.j),.d (lD 3 z02 l0.merger.since),oC 5150 6 l0.merger.out]),(5150,vL 6 z01 l0.merger.out)]⟩) h (fun a1 h => ?_) (fun j2 h => ?_)
  ·refine Tri.ret ?_
   cases h
   exact RetAt.k
  ·rcases z1o h with ⟨hp3,h⟩ | ⟨hp3,h⟩
   ·refine Tri.dC [.a [0] [],.a [3] [],.a [4] [],.a [5] [],.a [6] [5000],.a [0] [],.a [8] [],.a [9] [],.a [10] [],.a [11] [5000],.a [12] [],.a [7,13] [],.m ⟨[(14,cD (.bool (decide (l0.merger.i < (l0.merger.a.length:Int)))))],[]⟩ ⟨[(15,.c (.d (.bool true)))],[]⟩ [] [] [],.a [0,15] [],.a [15,16] [],.a [15,17] [],.a [15,18] [],.a [15,19] [],.a [0,15] [],.a [15,21] [],.a [15,22] [],.a [15,23] [],.a [15,24] [],.a [15,25] [],.a [15,20,26] [],.a [15,27] [],.a [28] []] [2] [5000,5150] (z00 14) (.a (.a (.a (.a (.a (.a (.a (.a (.a (.a (.a (.a (.m ?_ (.a (.a (.a (.a (.a (.a (.a (.a (.a (.a (.a (.a (.a (.a .z))))))))))))))))))))))))))) ?_
    · exact DOk.stepP (fun b => .val (.c (.d (.bool b))) (True)) (p:=(decide (l0.merger.i < (l0.merger.a.length:Int)))) hp3 (fun r=>by kernel_rfl) (fun r=>by kernel_rfl) trivial (by kernel_rfl) (by kernel_rfl) (fun r=>rfl)
    exact ⟨_,h,kr⟩
   ·refine Tri.dC [.a [0] [],.a [3] [],.a [4] [],.a [5] [],.a [6] [5000],.a [0] [],.a [8] [],.a [9] [],.a [10] [],.a [11] [5000],.a [12] [],.a [7,13] [],.m ⟨[(14,cD (.bool (decide (l0.merger.i < (l0.merger.a.length:Int)))))],[]⟩ ⟨[(15,.c (.d (.bool false)))],[]⟩ [] [] [],.a [0,15] [],.a [15,16] [],.a [15,17] [],.a [15,18] [],.a [15,19] [5000],.a [0,15] [],.a [15,21] [],.a [15,22] [],.a [15,23] [],.a [15,24] [5000],.a [15,25] [],.a [15,20,26] [],.a [15,27] [],.a [28] []] [2] [5000,5150] (z00 26) (.a (.a (.a (.a (.a (.a (.a (.a (.a (.a (.a (.a (.m ?_ (.a (.a (.a (.a (.a (.a (.a (.a (.a (.a (.a (.a (.a (.a .z))))))))))))))))))))))))))) ?_
    · exact DOk.stepP (fun b => .val (.c (.d (.bool b))) (True)) (p:=(decide (l0.merger.i < (l0.merger.a.length:Int)))) hp3 (fun r=>by kernel_rfl) (fun r=>by kernel_rfl) trivial (by kernel_rfl) (by kernel_rfl) (fun r=>rfl)
    exact ⟨_,h,kr⟩
theorem z85 {l0:Worker} {q:Update × Worker} (h:z4d l0=some q) :
    Summ Tryz.prog 93 [.c (.ptr 5000 0)] [(5000,.box [.d (lD 6 z01 l0.merger.a),.d (lD 6 z01 l0.merger.b),.d (dI l0.merger.i),.d (dI l0.merger.j),.d (lD 3 z02 l0.merger.since),oC 5100 6 l0.merger.out]),(5100,vL 6 z01 l0.merger.out)] (.agg (cUpdate q.1)) [(5150,vL 6 z01 q.2.merger.out),(5000,.box [.d (lD 6 z01 q.2.merger.a),.d (lD 6 z01 q.2.merger.b),.d (dI q.2.merger.i),.d (dI q.2.merger.j),.d (lD 3 z02 q.2.merger.since),oC 5150 6 q.2.merger.out])]:=by
  refine Summ.intro Tryz.func93 rfl (by kernel_rfl) (by kernel_rfl) [5150] rfl ?_
  rintro ⟨P,w0,G0,V,LL,lk,N, φ0,fx⟩ rfl rfl rfl rfl
  unfold z4d at h
  refine Tri.rename 5100 5150 ⟨[(0,.c (.ptr 5000 0))],[(5000,.box [.d (lD 6 z01 l0.merger.a),.d (lD 6 z01 l0.merger.b),.d (dI l0.merger.i),.d (dI l0.merger.j),.d (lD 3 z02 l0.merger.since),oC 5150 6 l0.merger.out]),(5150,vL 6 z01 l0.merger.out)]⟩ (by kernel_rfl) rfl rfl rfl ?_
  refine Tri.segL [0,2] [2,5000,5150] ⟨[(0,.c (.ptr 5000 0)),(2,.c (.ptr 2 0))],[(2,.box [.zero,.zero,.d (dU 0),.d (dU 0),.d (dU 0),.d (dI 0)]),(5000,.box [.d (lD 6 z01 l0.merger.a),.d (lD 6 z01 l0.merger.b),.d (dI l0.merger.i),.d (dI l0.merger.j),.d (lD 3 z02 l0.merger.since),oC 5150 6 l0.merger.out]),(5150,vL 6 z01 l0.merger.out)]⟩ _ (by kernel_rfl) (z00 1) ?_
  refine Tri.seqS ?_
  refine Tri.seqJ (fun (a1:Bool)=>⟨[(0,.c (.ptr 5000 0)),(2,.c (.ptr 2 0)),(56,cD (.bool a1))],[(2,.box [.zero,.zero,.d (dU 0),.d (dU 0),.d (dU 0),.d (dI 0)]),(5000,.box [.d (lD 6 z01 l0.merger.a),.d (lD 6 z01 l0.merger.b),.d (dI l0.merger.i),.d (dI l0.merger.j),.d (lD 3 z02 l0.merger.since),oC 5150 6 l0.merger.out]),(5150,vL 6 z01 l0.merger.out)]⟩) h (fun a1 h => ?_) (fun j2 h => ?_)
  ·refine Tri.condK h (fun h => ?_) (fun h => ?_)
   ·refine Tri.seqS ?_
    obtain ⟨hc3,h⟩:=z03 h
    refine Tri.dC [.a [0] [],.a [57] [],.a [58] [],.a [59] [],.a [60] [5000],.a [0] [],.a [62] [],.a [63] [],.a [64] [],.a [65] [5000],.a [61,66] [],.a [67] [],.m ⟨[(2,.c (.ptr 2 0)),(68,.agg (cUpdate (l0.merger.a.getD l0.merger.i.toNat default)))],[(2,.box [.zero,.zero,.d (dU 0),.d (dU 0),.d (dU 0),.d (dI 0)])]⟩ ⟨[],[(2,.box (cUpdate (l0.merger.a.getD l0.merger.i.toNat default)))]⟩ [] [] []] [2] [2,5000,5150] (tN 10 (ai hc3 (z00 1))) (.a (.a (.a (.a (.a (.a (.a (.a (.a (.a (.a (.a (.m ?_ .z))))))))))))) ?_
    · exact DOk.step (.turn 2 (.box (cUpdate (l0.merger.a.getD l0.merger.i.toNat default)))) (fun r=>by kernel_rfl) (fun r=>by kernel_rfl) trivial (by kernel_rfl) (by kernel_rfl) (fun r=>rfl)
    refine Tri.ret ?_
    cases h
    exact RetAt.k
   ·refine Tri.skip ?_
    refine Tri.seqS ?_
    obtain ⟨hc4,h⟩:=z03 h
    refine Tri.dC [.a [0] [],.a [69] [],.a [70] [],.a [71] [],.a [72] [5000],.a [0] [],.a [74] [],.a [75] [],.a [76] [],.a [77] [5000],.a [73,78] [],.a [79] [],.m ⟨[(2,.c (.ptr 2 0)),(80,.agg (cUpdate (l0.merger.b.getD l0.merger.j.toNat default)))],[(2,.box [.zero,.zero,.d (dU 0),.d (dU 0),.d (dU 0),.d (dI 0)])]⟩ ⟨[],[(2,.box (cUpdate (l0.merger.b.getD l0.merger.j.toNat default)))]⟩ [] [] []] [2] [2,5000,5150] (tN 10 (ai hc4 (z00 1))) (.a (.a (.a (.a (.a (.a (.a (.a (.a (.a (.a (.a (.m ?_ .z))))))))))))) ?_
    · exact DOk.step (.turn 2 (.box (cUpdate (l0.merger.b.getD l0.merger.j.toNat default)))) (fun r=>by kernel_rfl) (fun r=>by kernel_rfl) trivial (by kernel_rfl) (by kernel_rfl) (fun r=>rfl)
    refine Tri.ret ?_
    cases h
    exact RetAt.k
  ·rcases z1o h with ⟨hp5,h⟩ | ⟨hp5,h⟩
   ·rcases z1o h with ⟨hp6,h⟩ | ⟨hp6,h⟩
    ·refine Tri.dC [.a [0] [],.a [3] [],.a [4] [],.a [5] [],.a [6] [5000],.a [0] [],.a [8] [],.a [9] [],.a [10] [],.a [11] [5000],.a [12] [],.a [7,13] [],.m ⟨[(14,cD (.bool (decide (l0.merger.i < (l0.merger.a.length:Int)))))],[]⟩ ⟨[(15,.c (.d (.bool true)))],[]⟩ [] [] [],.a [0,15] [],.a [15,16] [],.a [15,17] [],.a [15,18] [],.a [15,19] [5000],.a [0,15] [],.a [15,21] [],.a [15,22] [],.a [15,23] [],.a [15,24] [5000],.a [15,25] [],.a [15,20,26] [],.m ⟨[(15,cD (.bool true)),(27,cD (.bool (decide (l0.merger.j=(l0.merger.b.length:Int)))))],[]⟩ ⟨[(28,.c (.d (.bool true)))],[]⟩ [] [] [],.a [0,28] [],.a [28,29] [],.a [28,30] [],.a [28,31] [],.a [28,32] [],.a [0,28] [],.a [28,34] [],.a [28,35] [],.a [28,36] [],.a [28,37] [],.a [28,33,38] [],.a [28,39] [],.a [0,28] [],.a [28,41] [],.a [28,42] [],.a [28,43] [],.a [28,44] [],.a [0,28] [],.a [28,46] [],.a [28,47] [],.a [28,48] [],.a [28,49] [],.a [28,45,50] [],.a [28,51] [],.a [28,40,52] [],.a [28,53] [],.a [15,28,54] [],.a [15,55] []] [0,2,56] [2,5000,5150] (z00 26) (.a (.a (.a (.a (.a (.a (.a (.a (.a (.a (.a (.a (.m ?_ (.a (.a (.a (.a (.a (.a (.a (.a (.a (.a (.a (.a (.m ?_ (.a (.a (.a (.a (.a (.a (.a (.a (.a (.a (.a (.a (.a (.a (.a (.a (.a (.a (.a (.a (.a (.a (.a (.a (.a (.a (.a (.a .z)))))))))))))))))))))))))))))))))))))))))))))))))))))) ?_
     · exact DOk.stepP (fun b => .val (.c (.d (.bool b))) (True)) (p:=(decide (l0.merger.i < (l0.merger.a.length:Int)))) hp5 (fun r=>by kernel_rfl) (fun r=>by kernel_rfl) trivial (by kernel_rfl) (by kernel_rfl) (fun r=>rfl)
     · exact DOk.stepP (fun b => .val (.c (.d (.bool b))) (True)) (p:=(decide (l0.merger.j=(l0.merger.b.length:Int)))) hp6 (fun r=>by kernel_rfl) (fun r=>by kernel_rfl) trivial (by kernel_rfl) (by kernel_rfl) (fun r=>rfl)
     exact ⟨_,h,kr⟩
    ·obtain ⟨hc7,h⟩:=z03 h
     obtain ⟨hc8,h⟩:=z03 h
     obtain ⟨r9,hr9,h⟩:=z05 h
     refine Tri.dC [.a [0] [],.a [3] [],.a [4] [],.a [5] [],.a [6] [5000],.a [0] [],.a [8] [],.a [9] [],.a [10] [],.a [11] [5000],.a [12] [],.a [7,13] [],.m ⟨[(14,cD (.bool (decide (l0.merger.i < (l0.merger.a.length:Int)))))],[]⟩ ⟨[(15,.c (.d (.bool true)))],[]⟩ [] [] [],.a [0,15] [],.a [15,16] [],.a [15,17] [],.a [15,18] [],.a [15,19] [5000],.a [0,15] [],.a [15,21] [],.a [15,22] [],.a [15,23] [],.a [15,24] [5000],.a [15,25] [],.a [15,20,26] [],.m ⟨[(15,cD (.bool true)),(27,cD (.bool (decide (l0.merger.j=(l0.merger.b.length:Int)))))],[]⟩ ⟨[(28,.c (.d (.bool false)))],[]⟩ [] [] [],.a [0,28] [],.a [28,29] [],.a [28,30] [],.a [28,31] [],.a [28,32] [5000],.a [0,28] [],.a [28,34] [],.a [28,35] [],.a [28,36] [],.a [28,37] [5000],.a [28,33,38] [],.a [28,39] [],.a [0,28] [],.a [28,41] [],.a [28,42] [],.a [28,43] [],.a [28,44] [5000],.a [0,28] [],.a [28,46] [],.a [28,47] [],.a [28,48] [],.a [28,49] [5000],.a [28,45,50] [],.a [28,51] [],.m ⟨[(28,cD (.bool false)),(40,.agg (cUpdate (l0.merger.a.getD l0.merger.i.toNat default))),(52,.agg (cUpdate (l0.merger.b.getD l0.merger.j.toNat default)))],[]⟩ ⟨[(53,cD (dI r9))],[]⟩ [] [] [],.a [28,53] [],.a [15,28,54] [],.a [15,55] []] [0,2,56] [2,5000,5150] (tN 34 (ai hc7 (tN 11 (ai hc8 (z00 4))))) (.a (.a (.a (.a (.a (.a (.a (.a (.a (.a (.a (.a (.m ?_ (.a (.a (.a (.a (.a (.a (.a (.a (.a (.a (.a (.a (.m ?_ (.a (.a (.a (.a (.a (.a (.a (.a (.a (.a (.a (.a (.a (.a (.a (.a (.a (.a (.a (.a (.a (.a (.a (.a (.m ?_ (.a (.a (.a .z)))))))))))))))))))))))))))))))))))))))))))))))))))))) ?_
     · exact DOk.stepP (fun b => .val (.c (.d (.bool b))) (True)) (p:=(decide (l0.merger.i < (l0.merger.a.length:Int)))) hp5 (fun r=>by kernel_rfl) (fun r=>by kernel_rfl) trivial (by kernel_rfl) (by kernel_rfl) (fun r=>rfl)
     · exact DOk.stepP (fun b => .val (.c (.d (.bool b))) (True)) (p:=(decide (l0.merger.j=(l0.merger.b.length:Int)))) hp6 (fun r=>by kernel_rfl) (fun r=>by kernel_rfl) trivial (by kernel_rfl) (by kernel_rfl) (fun r=>rfl)
     · exact DOk.cA [] [.agg (cUpdate (l0.merger.a.getD l0.merger.i.toNat default)),.agg (cUpdate (l0.merger.b.getD l0.merger.j.toNat default))] (z7z hr9) fun r=>(.cons (.refl _) (.cons (.refl _) .nil))
     exact ⟨_,h,kr⟩
   ·refine Tri.dC [.a [0] [],.a [3] [],.a [4] [],.a [5] [],.a [6] [5000],.a [0] [],.a [8] [],.a [9] [],.a [10] [],.a [11] [5000],.a [12] [],.a [7,13] [],.m ⟨[(14,cD (.bool (decide (l0.merger.i < (l0.merger.a.length:Int)))))],[]⟩ ⟨[(15,.c (.d (.bool false)))],[]⟩ [] [] [],.a [0,15] [],.a [15,16] [],.a [15,17] [],.a [15,18] [],.a [15,19] [],.a [0,15] [],.a [15,21] [],.a [15,22] [],.a [15,23] [],.a [15,24] [],.a [15,25] [],.a [15,20,26] [],.a [15,27] [],.a [0,28] [],.a [28,29] [],.a [28,30] [],.a [28,31] [],.a [28,32] [],.a [0,28] [],.a [28,34] [],.a [28,35] [],.a [28,36] [],.a [28,37] [],.a [28,33,38] [],.a [28,39] [],.a [0,28] [],.a [28,41] [],.a [28,42] [],.a [28,43] [],.a [28,44] [],.a [0,28] [],.a [28,46] [],.a [28,47] [],.a [28,48] [],.a [28,49] [],.a [28,45,50] [],.a [28,51] [],.a [28,40,52] [],.a [28,53] [],.a [15,28,54] [],.a [15,55] []] [0,2,56] [2,5000,5150] (z00 13) (.a (.a (.a (.a (.a (.a (.a (.a (.a (.a (.a (.a (.m ?_ (.a (.a (.a (.a (.a (.a (.a (.a (.a (.a (.a (.a (.a (.a (.a (.a (.a (.a (.a (.a (.a (.a (.a (.a (.a (.a (.a (.a (.a (.a (.a (.a (.a (.a (.a (.a (.a (.a (.a (.a (.a .z)))))))))))))))))))))))))))))))))))))))))))))))))))))) ?_
    · exact DOk.stepP (fun b => .val (.c (.d (.bool b))) (True)) (p:=(decide (l0.merger.i < (l0.merger.a.length:Int)))) hp5 (fun r=>by kernel_rfl) (fun r=>by kernel_rfl) trivial (by kernel_rfl) (by kernel_rfl) (fun r=>rfl)
    exact ⟨_,h,kr⟩
theorem zg2 {p0:Update} {p1:Update} {q:Bool} (h:zbb p0 p1=some q) :
  Summ Tryz.prog 124 [.agg (cUpdate p0),cD (.cptr [lD 3 z04 p1.key,lD 3 z04 p1.row,dU p1.time.epoch,dU p1.time.loop.1,dU p1.time.loop.2,dI p1.diff])] [] (cD (.bool q)) []:=by
 refine Summ.intro Tryz.func124 rfl (by kernel_rfl) (by kernel_rfl) [] rfl ?_
 rintro ⟨P,w0,G0,V,LL,lk,N, φ0,fx⟩ rfl rfl rfl rfl
 unfold zbb at h
 refine Tri.le [] (fun k hk=>by cases hk) ⟨[(0,.agg (cUpdate p0)),(1,.c (.eptr [lD 3 z04 p1.key,lD 3 z04 p1.row,dU p1.time.epoch,dU p1.time.loop.1,dU p1.time.loop.2,dI p1.diff]))],[]⟩ ⟨⟨_,rfl,.refl _⟩,⟨_,rfl,.c (.cptrE _)⟩,trivial⟩ trivial ?_
 refine Tri.sg [1,2] [2] (z00 2) ?_
 refine Tri.seqS ?_
 refine Tri.reg ?_
 refine At.sg 2 [4,5] [] (z00 2) ?_
 obtain ⟨r1,hr1,h⟩:=z05 h
 refine At.cA [] [.agg (cUpdate p0),.agg (cUpdate p1)] (z7z hr1) (.cons (.refl _) (.cons (.refl _) .nil)) ?_
 refine At.sg 2 [3] [] (z00 2) ?_
 refine At.done rfl ?_
 refine Tri.ret ?_
 cases h
 exact RetAt.k
theorem z2x {p0:List Update} {p1_0:Update} {q:Int} (h:z17 p0 p1_0=some q) :
    Summ Tryz.prog 107 [cD (lD 6 z01 p0),cD (.fn 124 [.cptr [lD 3 z04 p1_0.key,lD 3 z04 p1_0.row,dU p1_0.time.epoch,dU p1_0.time.loop.1,dU p1_0.time.loop.2,dI p1_0.diff]])] [] (cD (dI q)) []:=by
  refine Summ.intro Tryz.func107 rfl (by kernel_rfl) (by kernel_rfl) [] rfl ?_
  rintro ⟨P,w0,G0,V,LL,lk,N, φ0,fx⟩ rfl rfl rfl rfl
  unfold z17 at h
  refine Tri.sg [0,1] [] (z00 1) ?_
  refine Tri.seqS ?_
  refine Tri.sg [0,1,7,8] [] (z00 3) ?_
  refine Tri.ln 0 p0.length fun hlena2 => ?_
  refine Tri.rK 8 () (fun (x:Int) s=>RetAt Tryz.prog Tryz.f107 (cD (dI x)) [] s) (fun (a2:Unit)=>⟨[(0,cD (lD 6 z01 p0)),(1,cD (.fn 124 [.cptr [lD 3 z04 p1_0.key,lD 3 z04 p1_0.row,dU p1_0.time.epoch,dU p1_0.time.loop.1,dU p1_0.time.loop.2,dI p1_0.diff]])),(7,cD (dI (p0.length:Int)))],[]⟩) [8,0,1,7] [] [9,8,0,1,7] [] [0,1,7] [] [8,0,1,7] [] h hlena2 ?_ ?_ ?_
  ·intro i1 a2 c hii1 h
   refine Tri.sg [0,1,5,7,8] [] (z00 2) ?_
   refine Tri.seqS ?_
   refine Tri.reg ?_
   refine At.sg 5 [0,1,5,7,8,11,15] [] (tN 3 (ai (show ((0:Int)≤((i1:Nat):Int)∧((i1:Nat):Int) < (p0.length:Int)) from ⟨by omega,by omega⟩) (z00 1))) ?_
   obtain ⟨r4,hr4,h⟩:=z05 h
   refine At.cA [.cptr [lD 3 z04 p1_0.key,lD 3 z04 p1_0.row,dU p1_0.time.epoch,dU p1_0.time.loop.1,dU p1_0.time.loop.2,dI p1_0.diff]] [.agg (cUpdate (p0.getD i1 default)),cD (.cptr [lD 3 z04 p1_0.key,lD 3 z04 p1_0.row,dU p1_0.time.epoch,dU p1_0.time.loop.1,dU p1_0.time.loop.2,dI p1_0.diff])] (zg2 hr4) (.cons (.refl _) (.cons (.refl _) .nil)) ?_
   refine At.done rfl ?_
   refine Tri.condK h (fun h => ?_) (fun h => ?_)
   ·refine Tri.sg [4] [] (z00 2) ?_
    refine Tri.ret ?_
    cases h
    exact RetAt.k
   ·refine Tri.kp [8,0,1,7] [] ?_
    refine Tri.skip ?_
    cases h
    exact kr
  ·intro a3 h
   refine Tri.sg [4] [] (z00 1) ?_
   refine Tri.ret ?_
   cases h
   exact RetAt.k
  · exact fun x s hx hr=>by cases hx; exact hr
theorem zdj {p0:List Update} {p1:Update} {q:Int} (h:zaz p0 p1=some q) :
    Summ Tryz.prog 94 [cD (lD 6 z01 p0),.agg (cUpdate p1)] [] (cD (dI q)) []:=by
  refine Summ.intro Tryz.func94 rfl (by kernel_rfl) (by kernel_rfl) [] rfl ?_
  rintro ⟨P,w0,G0,V,LL,lk,N, φ0,fx⟩ rfl rfl rfl rfl
  unfold zaz at h
  refine Tri.sg [0,3] [3] (z00 2) ?_
  refine Tri.seqS ?_
  refine Tri.reg ?_
  refine At.seg 1 [0,3,6] [3] (s':=⟨[(0,cD (lD 6 z01 p0)),(3,.c (.ptr 3 0)),(6,cD (lD 6 z01 p0))],[(3,.box (cUpdate p1))]⟩) (by kernel_rfl) (z00 1) ?_
  refine At.le [3] (fun k hk h=>by first | (cases h; done) | (simp at hk h; omega)) ⟨[(0,cD (lD 6 z01 p0)),(3,cD (.cptr [lD 3 z04 p1.key,lD 3 z04 p1.row,dU p1.time.epoch,dU p1.time.loop.1,dU p1.time.loop.2,dI p1.diff])),(6,cD (lD 6 z01 p0))],[]⟩ ⟨⟨_,rfl,.refl _⟩,⟨_,rfl,.c (.box (ds:=[lD 3 z04 p1.key,lD 3 z04 p1.row,dU p1.time.epoch,dU p1.time.loop.1,dU p1.time.loop.2,dI p1.diff]) rfl (by simp))⟩,⟨_,rfl,.refl _⟩,trivial⟩ trivial ?_
  refine At.seg 1 [7,0,3,6] [] (s':=⟨[(7,cD (.fn 124 [.cptr [lD 3 z04 p1.key,lD 3 z04 p1.row,dU p1.time.epoch,dU p1.time.loop.1,dU p1.time.loop.2,dI p1.diff]])),(0,cD (lD 6 z01 p0)),(3,cD (.cptr [lD 3 z04 p1.key,lD 3 z04 p1.row,dU p1.time.epoch,dU p1.time.loop.1,dU p1.time.loop.2,dI p1.diff])),(6,cD (lD 6 z01 p0))],[]⟩) (by kernel_rfl) (z00 1) ?_
  refine At.le [] (fun k hk=>by cases hk) ⟨[(7,cD (.fn 124 [.cptr [lD 3 z04 p1.key,lD 3 z04 p1.row,dU p1.time.epoch,dU p1.time.loop.1,dU p1.time.loop.2,dI p1.diff]])),(0,cD (lD 6 z01 p0)),(3,.c (.eptr [lD 3 z04 p1.key,lD 3 z04 p1.row,dU p1.time.epoch,dU p1.time.loop.1,dU p1.time.loop.2,dI p1.diff])),(6,cD (lD 6 z01 p0))],[]⟩ ⟨⟨_,rfl,.refl _⟩,⟨_,rfl,.refl _⟩,⟨_,rfl,.c (.cptrE _)⟩,⟨_,rfl,.refl _⟩,trivial⟩ trivial ?_
  obtain ⟨r1,hr1,h⟩:=z05 h
  refine At.cA [] [cD (lD 6 z01 p0),cD (.fn 124 [.cptr [lD 3 z04 p1.key,lD 3 z04 p1.row,dU p1.time.epoch,dU p1.time.loop.1,dU p1.time.loop.2,dI p1.diff]])] (z2x hr1) (.cons (.refl _) (.cons (.refl _) .nil)) ?_
  refine At.sg 1 [0,5] [] (z00 1) ?_
  refine At.done rfl ?_
  refine Tri.seqS ?_
  refine Tri.sg [0,5,10] [] (z00 2) ?_
  refine Tri.condK h (fun h => ?_) (fun h => ?_)
  ·refine Tri.sg [4] [] (z00 3) ?_
   refine Tri.ret ?_
   cases h
   exact RetAt.k
  ·refine Tri.skip ?_
   refine Tri.sg [4] [] (z00 2) ?_
   refine Tri.ret ?_
   cases h
   exact RetAt.k
theorem z8b {fuel:Nat} {l0:Worker} {q:Int × Int × Worker} (h:z4i fuel l0=some q) :
    Summ Tryz.prog 56 [.c (.ptr 5000 0)] [(5000,.box [.d (lD 6 z01 l0.merger.a),.d (lD 6 z01 l0.merger.b),.d (dI l0.merger.i),.d (dI l0.merger.j),.d (lD 3 z02 l0.merger.since),oC 5100 6 l0.merger.out]),(5100,vL 6 z01 l0.merger.out)] (.tup [(false,[.d (dI q.1)]),(false,[.d (dI q.2.1)])]) [(5150,vL 6 z01 q.2.2.merger.out),(5000,.box [.d (lD 6 z01 q.2.2.merger.a),.d (lD 6 z01 q.2.2.merger.b),.d (dI q.2.2.merger.i),.d (dI q.2.2.merger.j),.d (lD 3 z02 q.2.2.merger.since),oC 5150 6 q.2.2.merger.out])]:=by
  refine Summ.intro Tryz.func56 rfl (by kernel_rfl) (by kernel_rfl) [5150] rfl ?_
  rintro ⟨P,w0,G0,V,LL,lk,N, φ0,fx⟩ rfl rfl rfl rfl
  unfold z4i at h
  refine Tri.rename 5100 5150 ⟨[(0,.c (.ptr 5000 0))],[(5000,.box [.d (lD 6 z01 l0.merger.a),.d (lD 6 z01 l0.merger.b),.d (dI l0.merger.i),.d (dI l0.merger.j),.d (lD 3 z02 l0.merger.since),oC 5150 6 l0.merger.out]),(5150,vL 6 z01 l0.merger.out)]⟩ (by kernel_rfl) rfl rfl rfl ?_
  refine Tri.sg [0] [5000,5150] (z00 2) ?_
  refine Tri.seqS ?_
  refine Tri.reg ?_
  refine At.sg 1 [0,9] [5000,5150] (z00 1) ?_
  obtain ⟨r1,hr1,h⟩:=z05 h
  refine At.cL 0 [] [.c (.ptr 5000 0)] [(5000,5000),(5100,5150),(5150,5150)] [0] [] (z85 hr1) (.ren rfl rfl .nil) ?_
  refine At.sg 2 [0,4] [4,5000,5150] (z00 2) ?_
  refine At.done rfl ?_
  refine Tri.seqS ?_
  obtain ⟨hc2,h⟩:=z03 h
  obtain ⟨hc3,h⟩:=z03 h
  refine Tri.dC [.a [0] [],.a [11] [],.a [12] [],.a [13] [],.a [14] [5000],.a [0] [],.a [16] [],.a [17] [],.a [18] [],.a [19] [5000],.m ⟨[(15,cD (lD 6 z01 r1.2.merger.a)),(20,cD (dI r1.2.merger.i))],[]⟩ ⟨[(21,cD (lD 6 z01 (sub r1.2.merger.a r1.2.merger.i (r1.2.merger.a.length:Int))))],[]⟩ [] [] [],.a [0] [],.a [22] [],.a [23] [],.a [24] [],.a [25] [5000],.a [0] [],.a [27] [],.a [28] [],.a [29] [],.a [30] [5000],.m ⟨[(26,cD (lD 6 z01 r1.2.merger.b)),(31,cD (dI r1.2.merger.j))],[]⟩ ⟨[(32,cD (lD 6 z01 (sub r1.2.merger.b r1.2.merger.j (r1.2.merger.b.length:Int))))],[]⟩ [] [] [],.a [21] [],.a [32] []] [0,4,5,6] [4,5000,5150] (z00 22) (.a (.a (.a (.a (.a (.a (.a (.a (.a (.a (.m ?_ (.a (.a (.a (.a (.a (.a (.a (.a (.a (.a (.m ?_ (.a (.a .z)))))))))))))))))))))))) ?_
  · exact DOk.one fun r _=>One.subL (z01) (l:=r1.2.merger.i) (h:=(r1.2.merger.a.length:Int)) hc2 hc2 (by kernel_rfl) rfl (by kernel_rfl) (by kernel_rfl)
  · exact DOk.one fun r _=>One.subL (z01) (l:=r1.2.merger.j) (h:=(r1.2.merger.b.length:Int)) hc3 hc3 (by kernel_rfl) rfl (by kernel_rfl) (by kernel_rfl)
  refine Tri.seqS ?_
  obtain ⟨r4,hr4,h⟩:=z05 h
  obtain ⟨hc5,h⟩:=z03 h
  obtain ⟨r6,hr6,h⟩:=z05 h
  obtain ⟨hc7,h⟩:=z03 h
  refine Tri.dC [.a [5] [],.a [5] [],.a [4] [4],.m ⟨[(34,cD (lD 6 z01 (sub r1.2.merger.a r1.2.merger.i (r1.2.merger.a.length:Int)))),(35,.agg (cUpdate r1.1))],[]⟩ ⟨[(36,cD (dI r4))],[]⟩ [] [] [],.m ⟨[(33,cD (lD 6 z01 (sub r1.2.merger.a r1.2.merger.i (r1.2.merger.a.length:Int)))),(36,cD (dI r4))],[]⟩ ⟨[(37,cD (lD 6 z01 (sub (sub r1.2.merger.a r1.2.merger.i (r1.2.merger.a.length:Int)) 0 r4)))],[]⟩ [] [] [],.a [6] [],.a [6] [],.a [4] [4],.m ⟨[(39,cD (lD 6 z01 (sub r1.2.merger.b r1.2.merger.j (r1.2.merger.b.length:Int)))),(40,.agg (cUpdate r1.1))],[]⟩ ⟨[(41,cD (dI r6))],[]⟩ [] [] [],.m ⟨[(38,cD (lD 6 z01 (sub r1.2.merger.b r1.2.merger.j (r1.2.merger.b.length:Int)))),(41,cD (dI r6))],[]⟩ ⟨[(42,cD (lD 6 z01 (sub (sub r1.2.merger.b r1.2.merger.j (r1.2.merger.b.length:Int)) 0 r6)))],[]⟩ [] [] [],.a [37] [],.a [42] []] [0,5,6] [5000,5150] (z00 8) (.a (.a (.a (.m ?_ (.m ?_ (.a (.a (.a (.m ?_ (.m ?_ (.a (.a .z)))))))))))) ?_
  · exact DOk.cA [] [cD (lD 6 z01 (sub r1.2.merger.a r1.2.merger.i (r1.2.merger.a.length:Int))),.agg (cUpdate r1.1)] (zdj hr4) fun r=>(.cons (.refl _) (.cons (.refl _) .nil))
  · exact DOk.one fun r _=>One.subL (z01) (l:=0) (h:=r4) hc5 hc5 (by kernel_rfl) rfl (by kernel_rfl) (by kernel_rfl)
  · exact DOk.cA [] [cD (lD 6 z01 (sub r1.2.merger.b r1.2.merger.j (r1.2.merger.b.length:Int))),.agg (cUpdate r1.1)] (zdj hr6) fun r=>(.cons (.refl _) (.cons (.refl _) .nil))
  · exact DOk.one fun r _=>One.subL (z01) (l:=0) (h:=r6) hc7 hc7 (by kernel_rfl) rfl (by kernel_rfl) (by kernel_rfl)
  refine Tri.seqS ?_
  refine Tri.reg ?_
  refine At.seg 7 [0,5,6,48,49,50] [5000,5150] (s':=⟨[(0,.c (.ptr 5000 0)),(5,cD (lD 6 z01 (sub (sub r1.2.merger.a r1.2.merger.i (r1.2.merger.a.length:Int)) 0 r4))),(6,cD (lD 6 z01 (sub (sub r1.2.merger.b r1.2.merger.j (r1.2.merger.b.length:Int)) 0 r6))),(48,cD (lD 3 z02 r1.2.merger.since)),(49,cD (lD 6 z01 (sub (sub r1.2.merger.a r1.2.merger.i (r1.2.merger.a.length:Int)) 0 r4))),(50,cD (lD 6 z01 (sub (sub r1.2.merger.b r1.2.merger.j (r1.2.merger.b.length:Int)) 0 r6)))],[(5000,.box [.d (lD 6 z01 r1.2.merger.a),.d (lD 6 z01 r1.2.merger.b),.d (dI r1.2.merger.i),.d (dI r1.2.merger.j),.d (lD 3 z02 r1.2.merger.since),oC 5150 6 r1.2.merger.out]),(5150,vL 6 z01 r1.2.merger.out)]⟩) (by kernel_rfl) (z00 7) ?_
  refine At.one rfl (One.buildSlice (z:=[.zero]) (cells:=[.d (lD 6 z01 (sub (sub r1.2.merger.a r1.2.merger.i (r1.2.merger.a.length:Int)) 0 r4)),.d (lD 6 z01 (sub (sub r1.2.merger.b r1.2.merger.j (r1.2.merger.b.length:Int)) 0 r6))]) (xs:=List.map ((fun xs=>[encL 6 z01 xs])) ([(sub (sub r1.2.merger.a r1.2.merger.i (r1.2.merger.a.length:Int)) 0 r4),(sub (sub r1.2.merger.b r1.2.merger.j (r1.2.merger.b.length:Int)) 0 r6)]:List (List Update))) rfl rfl rfl rfl (by kernel_rfl) rfl rfl (by kernel_rfl) rfl rfl rfl (by kernel_rfl) rfl ⟨⟨rfl,.refl _⟩,⟨rfl,.refl _⟩,trivial⟩) ?_
  refine At.le [51] (fun k hk h=>by first | (cases h; done) | (simp at hk h; omega)) ⟨[(51,cD (lD 1 (fun xs=>[encL 6 z01 xs]) ([(sub (sub r1.2.merger.a r1.2.merger.i (r1.2.merger.a.length:Int)) 0 r4),(sub (sub r1.2.merger.b r1.2.merger.j (r1.2.merger.b.length:Int)) 0 r6)]:List (List Update)))),(0,.c (.ptr 5000 0)),(5,cD (lD 6 z01 (sub (sub r1.2.merger.a r1.2.merger.i (r1.2.merger.a.length:Int)) 0 r4))),(6,cD (lD 6 z01 (sub (sub r1.2.merger.b r1.2.merger.j (r1.2.merger.b.length:Int)) 0 r6))),(48,cD (lD 3 z02 r1.2.merger.since)),(49,cD (lD 6 z01 (sub (sub r1.2.merger.a r1.2.merger.i (r1.2.merger.a.length:Int)) 0 r4))),(50,cD (lD 6 z01 (sub (sub r1.2.merger.b r1.2.merger.j (r1.2.merger.b.length:Int)) 0 r6)))],[(5000,.box [.d (lD 6 z01 r1.2.merger.a),.d (lD 6 z01 r1.2.merger.b),.d (dI r1.2.merger.i),.d (dI r1.2.merger.j),.d (lD 3 z02 r1.2.merger.since),oC 5150 6 r1.2.merger.out]),(5150,vL 6 z01 r1.2.merger.out)]⟩ ⟨⟨_,rfl,.c (.own rfl (List.mem_singleton.2 rfl) (Nat.le_of_ble_eq_true rfl) rfl (z24 ((fun xs=>[encL 6 z01 xs])) ([(sub (sub r1.2.merger.a r1.2.merger.i (r1.2.merger.a.length:Int)) 0 r4),(sub (sub r1.2.merger.b r1.2.merger.j (r1.2.merger.b.length:Int)) 0 r6)]:List (List Update))))⟩,⟨_,rfl,.refl _⟩,⟨_,rfl,.refl _⟩,⟨_,rfl,.refl _⟩,⟨_,rfl,.refl _⟩,⟨_,rfl,.refl _⟩,⟨_,rfl,.refl _⟩,trivial⟩ ⟨⟨_,rfl,.refl _,(by simp)⟩,⟨_,rfl,.refl _,(by simp)⟩,trivial⟩ ?_
  obtain ⟨r8,hr8,h⟩:=z05 h
  refine At.cA [] [cD (lD 3 z02 r1.2.merger.since),cD (lD 1 (fun xs=>[encL 6 z01 xs]) ([(sub (sub r1.2.merger.a r1.2.merger.i (r1.2.merger.a.length:Int)) 0 r4),(sub (sub r1.2.merger.b r1.2.merger.j (r1.2.merger.b.length:Int)) 0 r6)]:List (List Update)))] (z9k hr8) (.cons (.refl _) (.cons (.refl _) .nil)) ?_
  refine At.sg 5 [0,5,6,7,8] [5000,5150] (z00 5) ?_
  refine At.done rfl ?_
  refine Tri.seqS ?_
  refine Tri.segL [0,5,6,7,8,56] [5000,5150] ⟨[(0,.c (.ptr 5000 0)),(5,cD (lD 6 z01 (sub (sub r1.2.merger.a r1.2.merger.i (r1.2.merger.a.length:Int)) 0 r4))),(6,cD (lD 6 z01 (sub (sub r1.2.merger.b r1.2.merger.j (r1.2.merger.b.length:Int)) 0 r6))),(7,cD (lD 6 z01 r8.1)),(8,cD (dI r8.2)),(56,cD (.bool (!decide (r8.2=0))))],[(5000,.box [.d (lD 6 z01 r1.2.merger.a),.d (lD 6 z01 r1.2.merger.b),.d (dI r1.2.merger.i),.d (dI r1.2.merger.j),.d (lD 3 z02 r1.2.merger.since),oC 5150 6 r1.2.merger.out]),(5150,vL 6 z01 r1.2.merger.out)]⟩ _ (by kernel_rfl) (z00 2) ?_
  refine Tri.condK h (fun h => ?_) (fun h => ?_)
  ·refine Tri.sg [2,3] [5000,5150] (z00 3) ?_
   refine Tri.ret ?_
   cases h
   exact RetAt.k
  ·refine Tri.skip ?_
   refine Tri.seqS ?_
   obtain ⟨hc9,h⟩:=z03 h
   refine Tri.dA ⟨[(5,cD (lD 6 z01 (sub (sub r1.2.merger.a r1.2.merger.i (r1.2.merger.a.length:Int)) 0 r4))),(6,cD (lD 6 z01 (sub (sub r1.2.merger.b r1.2.merger.j (r1.2.merger.b.length:Int)) 0 r6)))],[(5000,.box [.d (lD 6 z01 r1.2.merger.a),.d (lD 6 z01 r1.2.merger.b),.d (dI (IntKind.i64.wrap (r1.2.merger.i + ((sub (sub r1.2.merger.a r1.2.merger.i (r1.2.merger.a.length:Int)) 0 r4).length:Int)))),.d (dI (IntKind.i64.wrap (r1.2.merger.j + ((sub (sub r1.2.merger.b r1.2.merger.j (r1.2.merger.b.length:Int)) 0 r6).length:Int)))),.d (lD 3 z02 r1.2.merger.since),oC 5150 6 (r1.2.merger.out++r8.1)]),(5150,vL 6 z01 (r1.2.merger.out++r8.1))]⟩ [(7,25,⟨[(64,.c (.ptr 5000 2))],[(5000,.box [.d (lD 6 z01 r1.2.merger.a),.d (lD 6 z01 r1.2.merger.b),.d (dI r1.2.merger.i),.d (dI r1.2.merger.j),.d (lD 3 z02 r1.2.merger.since),.any])]⟩),(15,25,⟨[(72,.c (.ptr 5000 3))],[(5000,.box [.d (lD 6 z01 r1.2.merger.a),.d (lD 6 z01 r1.2.merger.b),.d (dI r1.2.merger.i),.d (dI r1.2.merger.j),.d (lD 3 z02 r1.2.merger.since),.any])]⟩)] [.a [0] [],.a [0] [],.a [0] [],.a [0] [],.a [61] [],.a [62] [],.a [63] [],.a [64] [5000],.a [5] [],.a [66] [],.a [65,67] [],.a [0] [],.a [69] [],.a [70] [],.a [71] [],.a [72] [5000],.a [6] [],.a [74] [],.a [73,75] [],.a [0] [],.a [77] [],.a [78] [],.a [79] [],.a [80] [5000],.a [7] [],.m ⟨[(81,.c (oC 5150 6 r1.2.merger.out)),(82,cD (lD 6 z01 r8.1))],[(5000,.box [.d (lD 6 z01 r1.2.merger.a),.d (lD 6 z01 r1.2.merger.b),.d (dI r1.2.merger.i),.d (dI r1.2.merger.j),.d (lD 3 z02 r1.2.merger.since),oC 5150 6 r1.2.merger.out]),(5150,vL 6 z01 r1.2.merger.out)]⟩ ⟨[(83,.c (oC 5150 6 (r1.2.merger.out++r8.1))),(81,.c (.any))],[(5150,vL 6 z01 (r1.2.merger.out++r8.1)),(5000,.box [.d (lD 6 z01 r1.2.merger.a),.d (lD 6 z01 r1.2.merger.b),.d (dI r1.2.merger.i),.d (dI r1.2.merger.j),.d (lD 3 z02 r1.2.merger.since),.any])]⟩ [5150] [81] [5000],.a [58] [],.a [84] [],.a [85] [],.m ⟨[(68,cD (dI (IntKind.i64.wrap (r1.2.merger.i + ((sub (sub r1.2.merger.a r1.2.merger.i (r1.2.merger.a.length:Int)) 0 r4).length:Int))))),(86,.c (.ptr 5000 2))],[(5000,.box [.d (lD 6 z01 r1.2.merger.a),.d (lD 6 z01 r1.2.merger.b),.d (dI r1.2.merger.i),.d (dI r1.2.merger.j),.d (lD 3 z02 r1.2.merger.since),.any])]⟩ ⟨[],[(5000,.box [.d (lD 6 z01 r1.2.merger.a),.d (lD 6 z01 r1.2.merger.b),.d (dI (IntKind.i64.wrap (r1.2.merger.i + ((sub (sub r1.2.merger.a r1.2.merger.i (r1.2.merger.a.length:Int)) 0 r4).length:Int)))),.d (dI r1.2.merger.j),.d (lD 3 z02 r1.2.merger.since),.any])]⟩ [] [] [],.a [59] [],.a [87] [],.a [88] [],.m ⟨[(76,cD (dI (IntKind.i64.wrap (r1.2.merger.j + ((sub (sub r1.2.merger.b r1.2.merger.j (r1.2.merger.b.length:Int)) 0 r6).length:Int))))),(89,.c (.ptr 5000 3))],[(5000,.box [.d (lD 6 z01 r1.2.merger.a),.d (lD 6 z01 r1.2.merger.b),.d (dI (IntKind.i64.wrap (r1.2.merger.i + ((sub (sub r1.2.merger.a r1.2.merger.i (r1.2.merger.a.length:Int)) 0 r4).length:Int)))),.d (dI r1.2.merger.j),.d (lD 3 z02 r1.2.merger.since),.any])]⟩ ⟨[],[(5000,.box [.d (lD 6 z01 r1.2.merger.a),.d (lD 6 z01 r1.2.merger.b),.d (dI (IntKind.i64.wrap (r1.2.merger.i + ((sub (sub r1.2.merger.a r1.2.merger.i (r1.2.merger.a.length:Int)) 0 r4).length:Int)))),.d (dI (IntKind.i64.wrap (r1.2.merger.j + ((sub (sub r1.2.merger.b r1.2.merger.j (r1.2.merger.b.length:Int)) 0 r6).length:Int)))),.d (lD 3 z02 r1.2.merger.since),.any])]⟩ [] [] [],.a [60] [],.a [90] [],.a [91] [],.m ⟨[(83,.c (oC 5150 6 (r1.2.merger.out++r8.1))),(92,.c (.ptr 5000 5))],[(5000,.box [.d (lD 6 z01 r1.2.merger.a),.d (lD 6 z01 r1.2.merger.b),.d (dI (IntKind.i64.wrap (r1.2.merger.i + ((sub (sub r1.2.merger.a r1.2.merger.i (r1.2.merger.a.length:Int)) 0 r4).length:Int)))),.d (dI (IntKind.i64.wrap (r1.2.merger.j + ((sub (sub r1.2.merger.b r1.2.merger.j (r1.2.merger.b.length:Int)) 0 r6).length:Int)))),.d (lD 3 z02 r1.2.merger.since),.any]),(5150,vL 6 z01 (r1.2.merger.out++r8.1))]⟩ ⟨[],[(5000,.box [.d (lD 6 z01 r1.2.merger.a),.d (lD 6 z01 r1.2.merger.b),.d (dI (IntKind.i64.wrap (r1.2.merger.i + ((sub (sub r1.2.merger.a r1.2.merger.i (r1.2.merger.a.length:Int)) 0 r4).length:Int)))),.d (dI (IntKind.i64.wrap (r1.2.merger.j + ((sub (sub r1.2.merger.b r1.2.merger.j (r1.2.merger.b.length:Int)) 0 r6).length:Int)))),.d (lD 3 z02 r1.2.merger.since),oC 5150 6 (r1.2.merger.out++r8.1)])]⟩ [] [] []] [5,6] [5000,5150] (cs:=True∧True∧True∧True∧True∧True∧True∧True∧True∧True∧True∧True∧True∧True∧True∧True∧True∧True∧True∧True∧True∧True∧True∧True∧True∧True∧True∧True∧True∧True∧True∧True∧True∧True∧True) ⟨trivial,trivial,trivial,trivial,trivial,trivial,trivial,trivial,trivial,trivial,trivial,trivial,trivial,trivial,trivial,trivial,trivial,trivial,trivial,trivial,trivial,trivial,trivial,trivial,trivial,trivial,trivial,trivial,trivial,trivial,trivial,trivial,trivial,trivial,trivial⟩ (.a (.a (.a (.a (.a (.a (.a (.a (.a (.a (.a (.a (.a (.a (.a (.a (.a (.a (.a (.a (.a (.a (.a (.a (.a (.m ?_ (.a (.a (.a (.m ?_ (.a (.a (.a (.m ?_ (.a (.a (.a (.m ?_ .z)))))))))))))))))))))))))))))))))))))) (z64.k (z64.k z64.z)) ?_
   · exact DOk.drop (k:=5150) (d:=83) (v:=vL 6 z01 (r1.2.merger.out++r8.1)) (av:=.c (oC 5150 6 (r1.2.merger.out++r8.1))) rfl (fun r hr=>One.appendT (e:=56) (es:=6) (z01) r1.2.merger.out r8.1 rfl rfl (by kernel_rfl) rfl rfl (.of 56 80 [.zero,.zero,.d (dU 0),.d (dU 0),.d (dU 0),.d (dI 0)] (by kernel_rfl) (by kernel_rfl) (by kernel_rfl) (by kernel_rfl) rfl (by kernel_rfl) rfl) rfl rfl rfl (.list rfl (fun _ _=>rfl)) hc9) (by kernel_rfl) (by kernel_rfl) (by kernel_rfl) (by kernel_rfl)
   · exact DOk.step (.turn 5000 (.box [.d (lD 6 z01 r1.2.merger.a),.d (lD 6 z01 r1.2.merger.b),.d (dI (IntKind.i64.wrap (r1.2.merger.i + ((sub (sub r1.2.merger.a r1.2.merger.i (r1.2.merger.a.length:Int)) 0 r4).length:Int)))),.d (dI r1.2.merger.j),.d (lD 3 z02 r1.2.merger.since),.any])) (fun r=>by kernel_rfl) (fun r=>by kernel_rfl) trivial (by kernel_rfl) (by kernel_rfl) (fun r=>rfl)
   · exact DOk.step (.turn 5000 (.box [.d (lD 6 z01 r1.2.merger.a),.d (lD 6 z01 r1.2.merger.b),.d (dI (IntKind.i64.wrap (r1.2.merger.i + ((sub (sub r1.2.merger.a r1.2.merger.i (r1.2.merger.a.length:Int)) 0 r4).length:Int)))),.d (dI (IntKind.i64.wrap (r1.2.merger.j + ((sub (sub r1.2.merger.b r1.2.merger.j (r1.2.merger.b.length:Int)) 0 r6).length:Int)))),.d (lD 3 z02 r1.2.merger.since),.any])) (fun r=>by kernel_rfl) (fun r=>by kernel_rfl) trivial (by kernel_rfl) (by kernel_rfl) (fun r=>rfl)
   · exact DOk.step (.turn 5000 (.box [.d (lD 6 z01 r1.2.merger.a),.d (lD 6 z01 r1.2.merger.b),.d (dI (IntKind.i64.wrap (r1.2.merger.i + ((sub (sub r1.2.merger.a r1.2.merger.i (r1.2.merger.a.length:Int)) 0 r4).length:Int)))),.d (dI (IntKind.i64.wrap (r1.2.merger.j + ((sub (sub r1.2.merger.b r1.2.merger.j (r1.2.merger.b.length:Int)) 0 r6).length:Int)))),.d (lD 3 z02 r1.2.merger.since),oC 5150 6 (r1.2.merger.out++r8.1)])) (fun r=>by kernel_rfl) (fun r=>by kernel_rfl) trivial (by kernel_rfl) (by kernel_rfl) (fun r=>rfl)
   refine Tri.sg [2,3] [5000,5150] (z00 7) ?_
   refine Tri.ret ?_
   cases h
   exact RetAt.k
theorem zd7 {fuel:Nat} {p0:Merger} {p1:Int} {q:Merger × Int × Int} (h:z9n fuel p0 p1=some q) :
    Summ Tryz.prog 20 [.agg (cMerger p0),cD (dI p1)] [] (.tup [(true,[.d (lD 6 z01 q.1.a),.d (lD 6 z01 q.1.b),.d (dI q.1.i),.d (dI q.1.j),.d (lD 3 z02 q.1.since),.d (lD 6 z01 q.1.out)]),(false,[.d (dI q.2.1)]),(false,[.d (dI q.2.2)])]) []:=by
  refine Summ.intro Tryz.func20 rfl (by kernel_rfl) (by kernel_rfl) [] rfl ?_
  rintro ⟨P,w0,G0,V,LL,lk,N, φ0,fx⟩ rfl rfl rfl rfl
  unfold z9n at h
  refine Tri.sg [1,2,4] [2,4] (z00 4) ?_
  refine Tri.seqS ?_
  refine Tri.seqS ?_
  refine Tri.reg ?_
  refine At.sg 1 [1,2,4,12] [2,4] (z00 1) ?_
  obtain ⟨r1,hr1,h⟩:=z05 h
  refine At.cA [] [.agg (cMerger p0)] (z8e hr1) (.cons (.refl _) .nil) ?_
  refine At.sg 1 [1,2,4,7] [2,4] (z00 1) ?_
  refine At.done rfl ?_
  refine Tri.sg [1,2,4,7,15] [2,4] (z00 2) ?_
  refine Tri.condK h (fun h => ?_) (fun h => ?_)
  ·refine Tri.sg [4,5,6] [4] (z00 5) ?_
   refine Tri.keep [4,5,6] [4] (s':=⟨[(4,.c (.ptr 4 0)),(5,cD (dI 0)),(6,cD (dI r1))],[(4,.box [.zero,.zero,.d (dI 0),.d (dI 0),.zero,.zero])]⟩) (by kernel_rfl) ?_
   refine Tri.le [] (fun k hk=>by cases hk) ⟨[(4,.c (.ptr 4 0)),(5,cD (dI 0)),(6,cD (dI r1))],[(4,.box [.d (lD 6 z01 ([]:List Update)),.d (lD 6 z01 ([]:List Update)),.d (dI 0),.d (dI 0),.d (lD 3 z02 ([]:List Time)),.d (lD 6 z01 ([]:List Update))])]⟩ ⟨⟨_,rfl,.refl _⟩,⟨_,rfl,.refl _⟩,⟨_,rfl,.refl _⟩,trivial⟩ ⟨⟨_,rfl,.box (.cons (.zero _ _) (.cons (.zero _ _) (.cons (.refl _) (.cons (.refl _) (.cons (.zero _ _) (.cons (.zero _ _) .nil)))))),(by simp)⟩,trivial⟩ ?_
   refine Tri.ret ?_
   cases h
   exact RetAt.k
  ·refine Tri.skip ?_
   refine Tri.seqS ?_
   refine Tri.reg ?_
   refine At.sg 1 [1,4,18] [4] (z00 1) ?_
   obtain ⟨r2,hr2,h⟩:=z05 h
   refine At.cL 0 [] [.agg (cMerger p0)] [(6105,30304)] [1,4] [4] (zeb hr2) (.flat (.refl _) rfl rfl .nil) ?_
   refine At.sg 3 [1,4,8] [4,21,30304] (z00 3) ?_
   refine At.done rfl ?_
   refine Tri.sg [1,4,8,9] [4,21,30304] (z00 1) ?_
   refine Tri.seqS ?_
   refine Tri.lK (0,(⟨r2⟩:Worker)) (fun (x:Merger × Int × Int) s=>RetAt Tryz.prog Tryz.f20 (.tup [(true,[.d (lD 6 z01 x.1.a),.d (lD 6 z01 x.1.b),.d (dI x.1.i),.d (dI x.1.j),.d (lD 3 z02 x.1.since),.d (lD 6 z01 x.1.out)]),(false,[.d (dI x.2.1)]),(false,[.d (dI x.2.2)])]) [] s) (fun (a3:Int × Worker)=>⟨[(1,cD (dI p1)),(4,.c (.ptr 4 0)),(8,.c (.ptr 21 0)),(9,cD (dI a3.1))],[(4,.box [.zero,.zero,.d (dI 0),.d (dI 0),.zero,.zero]),(21,.box [.d (lD 6 z01 a3.2.merger.a),.d (lD 6 z01 a3.2.merger.b),.d (dI a3.2.merger.i),.d (dI a3.2.merger.j),.d (lD 3 z02 a3.2.merger.since),oC 30304 6 a3.2.merger.out]),(30304,vL 6 z01 a3.2.merger.out)]⟩) [1,4,8,9] [4,21,30304] h ?_ ?_ ?_
   ·intro a3 c h
    refine Tri.seqS ?_
    refine Tri.seqJ (fun (a5:Bool × Worker)=>⟨[(1,cD (dI p1)),(4,.c (.ptr 4 0)),(8,.c (.ptr 21 0)),(9,cD (dI a3.1)),(28,cD (.bool a5.1))],[(4,.box [.zero,.zero,.d (dI 0),.d (dI 0),.zero,.zero]),(21,.box [.d (lD 6 z01 a5.2.merger.a),.d (lD 6 z01 a5.2.merger.b),.d (dI a5.2.merger.i),.d (dI a5.2.merger.j),.d (lD 3 z02 a5.2.merger.since),oC 30304 6 a5.2.merger.out]),(30304,vL 6 z01 a5.2.merger.out)]⟩) h (fun a5 h => ?_) (fun j6 h => ?_)
    ·refine Tri.condK h (fun h => ?_) (fun h => ?_)
     ·refine Tri.skip ?_
      refine Tri.blockB ?_
      refine Tri.seqS ?_
      refine Tri.reg ?_
      refine At.sg 1 [1,4,8,9,30] [4,21,30304] (z00 1) ?_
      obtain ⟨r7,hr7,h⟩:=z05 h
      refine At.cL 0 [] [.c (.ptr 21 0)] [(5000,21),(5100,30304),(5150,30304)] [1,4,8,9] [4] (z8b hr7) (.ren rfl rfl .nil) ?_
      refine At.sg 5 [1,4,8,9,10,11] [4,21,30304] (z00 5) ?_
      refine At.done rfl ?_
      refine Tri.seqS ?_
      refine Tri.sg [1,4,8,9,10,11,35] [4,21,30304] (z00 2) ?_
      refine Tri.condK h (fun h => ?_) (fun h => ?_)
      ·refine Tri.sg [4,5,6] [4,30304] (z00 9) ?_
       refine Tri.keep [4,5,6] [4,30304] (s':=⟨[(4,.c (.ptr 4 0)),(5,cD (dI a3.1)),(6,cD (dI r7.2.1))],[(4,.box [.d (lD 6 z01 r7.2.2.merger.a),.d (lD 6 z01 r7.2.2.merger.b),.d (dI r7.2.2.merger.i),.d (dI r7.2.2.merger.j),.d (lD 3 z02 r7.2.2.merger.since),oC 30304 6 r7.2.2.merger.out]),(30304,vL 6 z01 r7.2.2.merger.out)]⟩) (by kernel_rfl) ?_
       refine Tri.le [30304] (fun k hk h=>by first | (cases h; done) | (simp at hk h; omega)) ⟨[(4,.c (.ptr 4 0)),(5,cD (dI a3.1)),(6,cD (dI r7.2.1))],[(4,.box (cMerger r7.2.2.merger))]⟩ ⟨⟨_,rfl,.refl _⟩,⟨_,rfl,.refl _⟩,⟨_,rfl,.refl _⟩,trivial⟩ ⟨⟨_,rfl,.box (.cons (.refl _) (.cons (.refl _) (.cons (.refl _) (.cons (.refl _) (.cons (.refl _) (.cons (CLe.frozen (z01) r7.2.2.merger.out rfl (by simp)) .nil)))))),(by simp)⟩,trivial⟩ ?_
       refine Tri.ret ?_
       cases h
       exact RetAt.k
      ·refine Tri.skip ?_
       refine Tri.reg ?_
       refine At.sg 4 [1,4,8,9] [4,21,30304] (z00 4) ?_
       refine At.done rfl ?_
       cases h
       exact kr
     ·refine Tri.kp [1,4,8,9] [4,21,30304] ?_
      refine Tri.exit ?_
      cases h
      exact ⟨rfl,kr⟩
    ·refine Tri.reg ?_
     refine At.sg 4 [1,4,8,9,25] [4,21,30304] (z00 4) ?_
     refine At.cs [25] h (fun h => ?_) (fun h => ?_)
     ·refine At.sg 1 [1,4,8,9,25,26] [4,21,30304] (z00 1) ?_
      obtain ⟨r8,hr8,h⟩:=z05 h
      refine At.cL 0 [] [.c (.ptr 21 0)] [(5000,21),(5100,30304),(5150,30304)] [1,4,8,9,25] [4] (z8c hr8) (.ren rfl rfl .nil) ?_
      refine At.sg 1 [1,4,8,9,28] [4,21,30304] (z00 1) ?_
      refine At.done rfl ?_
      exact ⟨_,h,kr⟩
     ·refine At.sg 3 [1,4,8,9,28] [4,21,30304] (z00 1) ?_
      refine At.done rfl ?_
      exact ⟨_,h,kr⟩
   ·intro a4 h
    refine Tri.sg [4,5,6] [4,30304] (z00 8) ?_
    refine Tri.keep [4,5,6] [4,30304] (s':=⟨[(4,.c (.ptr 4 0)),(5,cD (dI a4.1)),(6,cD (dI 0))],[(4,.box [.d (lD 6 z01 a4.2.merger.a),.d (lD 6 z01 a4.2.merger.b),.d (dI a4.2.merger.i),.d (dI a4.2.merger.j),.d (lD 3 z02 a4.2.merger.since),oC 30304 6 a4.2.merger.out]),(30304,vL 6 z01 a4.2.merger.out)]⟩) (by kernel_rfl) ?_
    refine Tri.le [30304] (fun k hk h=>by first | (cases h; done) | (simp at hk h; omega)) ⟨[(4,.c (.ptr 4 0)),(5,cD (dI a4.1)),(6,cD (dI 0))],[(4,.box (cMerger a4.2.merger))]⟩ ⟨⟨_,rfl,.refl _⟩,⟨_,rfl,.refl _⟩,⟨_,rfl,.refl _⟩,trivial⟩ ⟨⟨_,rfl,.box (.cons (.refl _) (.cons (.refl _) (.cons (.refl _) (.cons (.refl _) (.cons (.refl _) (.cons (CLe.frozen (z01) a4.2.merger.out rfl (by simp)) .nil)))))),(by simp)⟩,trivial⟩ ?_
    refine Tri.ret ?_
    cases h
    exact RetAt.k
   · exact fun x s hx hr=>by cases hx; exact hr
theorem z8h {l0:Worker} {q:Bool × Worker} (h:z4o l0=some q) :
    Summ Tryz.prog 55 [.c (.ptr 5000 0)] [(5000,.box (cMerger l0.merger))] (cD (.bool q.1)) [(5000,.box (cMerger q.2.merger))]:=by
  refine Summ.intro Tryz.func55 rfl (by kernel_rfl) (by kernel_rfl) [] rfl ?_
  rintro ⟨P,w0,G0,V,LL,lk,N, φ0,fx⟩ rfl rfl rfl rfl
  unfold z4o at h
  refine Tri.segL [0] [5000] ⟨[(0,.c (.ptr 5000 0))],[(5000,.box (cMerger l0.merger))]⟩ _ (by kernel_rfl) (z00 1) ?_
  refine Tri.seqJ (fun (a1:Bool)=>⟨[(2,cD (.bool a1))],[(5000,.box (cMerger l0.merger))]⟩) h (fun a1 h => ?_) (fun j2 h => ?_)
  ·refine Tri.ret ?_
   cases h
   exact RetAt.k
  ·rcases z1o h with ⟨hp3,h⟩ | ⟨hp3,h⟩
   ·refine Tri.dC [.a [0] [],.a [3] [],.a [4] [],.a [5] [],.a [6] [5000],.a [0] [],.a [8] [],.a [9] [],.a [10] [],.a [11] [5000],.a [12] [],.a [7,13] [],.m ⟨[(14,cD (.bool (decide (l0.merger.i < (l0.merger.a.length:Int)))))],[]⟩ ⟨[(15,.c (.d (.bool true)))],[]⟩ [] [] [],.a [0,15] [],.a [15,16] [],.a [15,17] [],.a [15,18] [],.a [15,19] [],.a [0,15] [],.a [15,21] [],.a [15,22] [],.a [15,23] [],.a [15,24] [],.a [15,25] [],.a [15,20,26] [],.a [15,27] [],.a [28] []] [2] [5000] (z00 14) (.a (.a (.a (.a (.a (.a (.a (.a (.a (.a (.a (.a (.m ?_ (.a (.a (.a (.a (.a (.a (.a (.a (.a (.a (.a (.a (.a (.a .z))))))))))))))))))))))))))) ?_
    · exact DOk.stepP (fun b => .val (.c (.d (.bool b))) (True)) (p:=(decide (l0.merger.i < (l0.merger.a.length:Int)))) hp3 (fun r=>by kernel_rfl) (fun r=>by kernel_rfl) trivial (by kernel_rfl) (by kernel_rfl) (fun r=>rfl)
    exact ⟨_,h,kr⟩
   ·refine Tri.dC [.a [0] [],.a [3] [],.a [4] [],.a [5] [],.a [6] [5000],.a [0] [],.a [8] [],.a [9] [],.a [10] [],.a [11] [5000],.a [12] [],.a [7,13] [],.m ⟨[(14,cD (.bool (decide (l0.merger.i < (l0.merger.a.length:Int)))))],[]⟩ ⟨[(15,.c (.d (.bool false)))],[]⟩ [] [] [],.a [0,15] [],.a [15,16] [],.a [15,17] [],.a [15,18] [],.a [15,19] [5000],.a [0,15] [],.a [15,21] [],.a [15,22] [],.a [15,23] [],.a [15,24] [5000],.a [15,25] [],.a [15,20,26] [],.a [15,27] [],.a [28] []] [2] [5000] (z00 26) (.a (.a (.a (.a (.a (.a (.a (.a (.a (.a (.a (.a (.m ?_ (.a (.a (.a (.a (.a (.a (.a (.a (.a (.a (.a (.a (.a (.a .z))))))))))))))))))))))))))) ?_
    · exact DOk.stepP (fun b => .val (.c (.d (.bool b))) (True)) (p:=(decide (l0.merger.i < (l0.merger.a.length:Int)))) hp3 (fun r=>by kernel_rfl) (fun r=>by kernel_rfl) trivial (by kernel_rfl) (by kernel_rfl) (fun r=>rfl)
    exact ⟨_,h,kr⟩
theorem zdi {fuel:Nat} {p0:Merger} {q:Batch × Int} (h:zb7 fuel p0=some q) :
    Summ Tryz.prog 22 [.agg (cMerger p0)] [] (.tup [(true,[.d (lD 3 z02 q.1.since),.d (lD 6 z01 q.1.updates)]),(false,[.d (dI q.2)])]) []:=by
  refine Summ.intro Tryz.func22 rfl (by kernel_rfl) (by kernel_rfl) [] rfl ?_
  rintro ⟨P,w0,G0,V,LL,lk,N, φ0,fx⟩ rfl rfl rfl rfl
  unfold zb7 at h
  refine Tri.sg [1,2] [1,2] (z00 3) ?_
  refine Tri.sg [1,2,4] [1,2,4] (z00 4) ?_
  refine Tri.seqS ?_
  refine Tri.seqJ (fun (a1:Bool)=>⟨[(1,.c (.ptr 1 0)),(2,.c (.ptr 2 0)),(12,cD (.bool a1))],[(1,.box (cMerger p0)),(2,.box [.zero,.zero])]⟩) h (fun a1 h => ?_) (fun j2 h => ?_)
  ·refine Tri.condK h (fun h => ?_) (fun h => ?_)
   ·refine Tri.sg [2,3] [2] (z00 3) ?_
    refine Tri.keep [2,3] [2] (s':=⟨[(2,.c (.ptr 2 0)),(3,cD (dI 8))],[(2,.box [.zero,.zero])]⟩) (by kernel_rfl) ?_
    refine Tri.le [] (fun k hk=>by cases hk) ⟨[(2,.c (.ptr 2 0)),(3,cD (dI 8))],[(2,.box [.d (lD 3 z02 ([]:List Time)),.d (lD 6 z01 ([]:List Update))])]⟩ ⟨⟨_,rfl,.refl _⟩,⟨_,rfl,.refl _⟩,trivial⟩ ⟨⟨_,rfl,.box (.cons (.zero _ _) (.cons (.zero _ _) .nil)),(by simp)⟩,trivial⟩ ?_
    refine Tri.ret ?_
    cases h
    exact RetAt.k
   ·refine Tri.skip ?_
    refine Tri.seqS ?_
    refine Tri.reg ?_
    refine At.sg 1 [1,2,14] [1,2] (z00 1) ?_
    obtain ⟨r3,hr3,h⟩:=z05 h
    refine At.cA [] [.agg (cMerger p0)] (zdt hr3) (.cons (.refl _) .nil) ?_
    refine At.sg 1 [1,2] [1,2] (z00 1) ?_
    refine At.done rfl ?_
    refine Tri.sg [2,3] [2] (z00 7) ?_
    refine Tri.ret ?_
    cases h
    exact RetAt.k
  ·refine Tri.reg ?_
   refine At.sg 1 [1,2,4,7] [1,2,4] (z00 1) ?_
   obtain ⟨r4,hr4,h⟩:=z05 h
   refine At.cA [] [.agg (cMerger p0)] (z8e hr4) (.cons (.refl _) .nil) ?_
   refine At.sg 2 [1,2,4,10] [1,2,4] (z00 2) ?_
   refine At.cs [10] h (fun h => ?_) (fun h => ?_)
   ·refine At.sg 2 [1,2,12] [1,2] (z00 1) ?_
    refine At.done rfl ?_
    exact ⟨_,h,kr⟩
   ·obtain ⟨r5,hr5,h⟩:=z05 h
    refine At.cL 0 [] [.c (.ptr 4 0)] [(5000,4)] [1,2,10] [1,2] (z8h hr5) (.ren rfl rfl .nil) ?_
    refine At.sg 1 [1,2,12] [1,2] (z00 1) ?_
    refine At.done rfl ?_
    exact ⟨_,h,kr⟩
theorem zbt {fuel:Nat} {q:Bool} (h:z4q fuel=some q) :
    Summ Tryz.prog 13 [] [] (cD (.bool q)) []:=by
  refine Summ.intro Tryz.func13 rfl (by kernel_rfl) (by kernel_rfl) [] rfl ?_
  rintro ⟨P,w0,G0,V,LL,lk,N, φ0,fx⟩ rfl rfl rfl rfl
  unfold z4q at h
  refine Tri.sg [] [] (z00 1) ?_
  refine Tri.seqS ?_
  refine Tri.reg ?_
  obtain ⟨r1,hr1,h⟩:=z05 h
  refine At.cA [] [cD (dI 1)] (z74 hr1) (.cons (.refl _) .nil) ?_
  refine At.seg 1 [17] [] (s':=⟨[(17,.agg [.zero,.d (lD 3 z04 r1),.d (dU 0),.d (dU 0),.d (dU 0),.d (dI 1)])],[]⟩) (by kernel_rfl) (z00 1) ?_
  refine At.one rfl (One.buildSlice (z:=[.zero,.zero,.d (dU 0),.d (dU 0),.d (dU 0),.d (dI 0)]) (cells:=[.zero,.d (lD 3 z04 r1),.d (dU 0),.d (dU 0),.d (dU 0),.d (dI 1)]) (xs:=List.map (z01) ([(⟨([]:List Value),r1,(⟨0,(0,0)⟩:Time),1⟩:Update)]:List Update)) rfl rfl rfl rfl (by kernel_rfl) rfl rfl (by kernel_rfl) rfl rfl rfl (by kernel_rfl) rfl ⟨⟨rfl,(.cons (.zero _ _) (.cons (.refl _) (.cons (.refl _) (.cons (.refl _) (.cons (.refl _) (.cons (.refl _) .nil))))))⟩,trivial⟩) ?_
  refine At.le [18] (fun k hk h=>by first | (cases h; done) | (simp at hk h; omega)) ⟨[(18,cD (lD 6 z01 ([(⟨([]:List Value),r1,(⟨0,(0,0)⟩:Time),1⟩:Update)]:List Update))),(17,.agg [.zero,.d (lD 3 z04 r1),.d (dU 0),.d (dU 0),.d (dU 0),.d (dI 1)])],[]⟩ ⟨⟨_,rfl,.c (.own rfl (List.mem_singleton.2 rfl) (Nat.le_of_ble_eq_true rfl) rfl (z24 (z01) ([(⟨([]:List Value),r1,(⟨0,(0,0)⟩:Time),1⟩:Update)]:List Update)))⟩,⟨_,rfl,.refl _⟩,trivial⟩ trivial ?_
  obtain ⟨r2,hr2,h⟩:=z05 h
  refine At.cA [] [cD (dI 2)] (z74 hr2) (.cons (.refl _) .nil) ?_
  refine At.seg 1 [18,20] [] (s':=⟨[(18,cD (lD 6 z01 ([(⟨([]:List Value),r1,(⟨0,(0,0)⟩:Time),1⟩:Update)]:List Update))),(20,.agg [.zero,.d (lD 3 z04 r2),.d (dU 0),.d (dU 0),.d (dU 0),.d (dI 5)])],[]⟩) (by kernel_rfl) (z00 1) ?_
  refine At.one rfl (One.buildSlice (z:=[.zero,.zero,.d (dU 0),.d (dU 0),.d (dU 0),.d (dI 0)]) (cells:=[.zero,.d (lD 3 z04 r2),.d (dU 0),.d (dU 0),.d (dU 0),.d (dI 5)]) (xs:=List.map (z01) ([(⟨([]:List Value),r2,(⟨0,(0,0)⟩:Time),5⟩:Update)]:List Update)) rfl rfl rfl rfl (by kernel_rfl) rfl rfl (by kernel_rfl) rfl rfl rfl (by kernel_rfl) rfl ⟨⟨rfl,(.cons (.zero _ _) (.cons (.refl _) (.cons (.refl _) (.cons (.refl _) (.cons (.refl _) (.cons (.refl _) .nil))))))⟩,trivial⟩) ?_
  refine At.le [21] (fun k hk h=>by first | (cases h; done) | (simp at hk h; omega)) ⟨[(21,cD (lD 6 z01 ([(⟨([]:List Value),r2,(⟨0,(0,0)⟩:Time),5⟩:Update)]:List Update))),(18,cD (lD 6 z01 ([(⟨([]:List Value),r1,(⟨0,(0,0)⟩:Time),1⟩:Update)]:List Update))),(20,.agg [.zero,.d (lD 3 z04 r2),.d (dU 0),.d (dU 0),.d (dU 0),.d (dI 5)])],[]⟩ ⟨⟨_,rfl,.c (.own rfl (List.mem_singleton.2 rfl) (Nat.le_of_ble_eq_true rfl) rfl (z24 (z01) ([(⟨([]:List Value),r2,(⟨0,(0,0)⟩:Time),5⟩:Update)]:List Update)))⟩,⟨_,rfl,.refl _⟩,⟨_,rfl,.refl _⟩,trivial⟩ trivial ?_
  refine At.one rfl (One.buildSlice (z:=[.zero]) (cells:=[.d (lD 6 z01 ([(⟨([]:List Value),r1,(⟨0,(0,0)⟩:Time),1⟩:Update)]:List Update)),.d (lD 6 z01 ([(⟨([]:List Value),r2,(⟨0,(0,0)⟩:Time),5⟩:Update)]:List Update))]) (xs:=List.map ((fun xs=>[encL 6 z01 xs])) ([([(⟨([]:List Value),r1,(⟨0,(0,0)⟩:Time),1⟩:Update)]:List Update),([(⟨([]:List Value),r2,(⟨0,(0,0)⟩:Time),5⟩:Update)]:List Update)]:List (List Update))) rfl rfl rfl rfl (by kernel_rfl) rfl rfl (by kernel_rfl) rfl rfl rfl (by kernel_rfl) rfl ⟨⟨rfl,.refl _⟩,⟨rfl,.refl _⟩,trivial⟩) ?_
  refine At.le [22] (fun k hk h=>by first | (cases h; done) | (simp at hk h; omega)) ⟨[(22,cD (lD 1 (fun xs=>[encL 6 z01 xs]) ([([(⟨([]:List Value),r1,(⟨0,(0,0)⟩:Time),1⟩:Update)]:List Update),([(⟨([]:List Value),r2,(⟨0,(0,0)⟩:Time),5⟩:Update)]:List Update)]:List (List Update)))),(18,cD (lD 6 z01 ([(⟨([]:List Value),r1,(⟨0,(0,0)⟩:Time),1⟩:Update)]:List Update))),(21,cD (lD 6 z01 ([(⟨([]:List Value),r2,(⟨0,(0,0)⟩:Time),5⟩:Update)]:List Update)))],[]⟩ ⟨⟨_,rfl,.c (.own rfl (List.mem_singleton.2 rfl) (Nat.le_of_ble_eq_true rfl) rfl (z24 ((fun xs=>[encL 6 z01 xs])) ([([(⟨([]:List Value),r1,(⟨0,(0,0)⟩:Time),1⟩:Update)]:List Update),([(⟨([]:List Value),r2,(⟨0,(0,0)⟩:Time),5⟩:Update)]:List Update)]:List (List Update))))⟩,⟨_,rfl,.refl _⟩,⟨_,rfl,.refl _⟩,trivial⟩ trivial ?_
  obtain ⟨r3,hr3,h⟩:=z05 h
  refine At.cA [] [.c (.zero),cD (lD 1 (fun xs=>[encL 6 z01 xs]) ([([(⟨([]:List Value),r1,(⟨0,(0,0)⟩:Time),1⟩:Update)]:List Update),([(⟨([]:List Value),r2,(⟨0,(0,0)⟩:Time),5⟩:Update)]:List Update)]:List (List Update)))] (zbv hr3) (.cons (.c (.le (.zero _ _))) (.cons (.refl _) .nil)) ?_
  refine At.sg 6 [1,2] [1] (z00 6) ?_
  refine At.done rfl ?_
  refine Tri.seqS ?_
  refine Tri.reg ?_
  obtain ⟨r4,hr4,h⟩:=z05 h
  refine At.cA [] [cD (dI 1)] (z74 hr4) (.cons (.refl _) .nil) ?_
  refine At.seg 1 [1,2,28] [1] (s':=⟨[(1,.c (.ptr 1 0)),(2,cD (dI r3.2)),(28,.agg [.zero,.d (lD 3 z04 r4),.d (dU 0),.d (dU 0),.d (dU 0),.d (dI (-1))])],[(1,.box (cBatch r3.1))]⟩) (by kernel_rfl) (z00 1) ?_
  refine At.one rfl (One.buildSlice (z:=[.zero,.zero,.d (dU 0),.d (dU 0),.d (dU 0),.d (dI 0)]) (cells:=[.zero,.d (lD 3 z04 r4),.d (dU 0),.d (dU 0),.d (dU 0),.d (dI (-1))]) (xs:=List.map (z01) ([(⟨([]:List Value),r4,(⟨0,(0,0)⟩:Time),(-1)⟩:Update)]:List Update)) rfl rfl rfl rfl (by kernel_rfl) rfl rfl (by kernel_rfl) rfl rfl rfl (by kernel_rfl) rfl ⟨⟨rfl,(.cons (.zero _ _) (.cons (.refl _) (.cons (.refl _) (.cons (.refl _) (.cons (.refl _) (.cons (.refl _) .nil))))))⟩,trivial⟩) ?_
  refine At.le [29] (fun k hk h=>by first | (cases h; done) | (simp at hk h; omega)) ⟨[(29,cD (lD 6 z01 ([(⟨([]:List Value),r4,(⟨0,(0,0)⟩:Time),(-1)⟩:Update)]:List Update))),(1,.c (.ptr 1 0)),(2,cD (dI r3.2)),(28,.agg [.zero,.d (lD 3 z04 r4),.d (dU 0),.d (dU 0),.d (dU 0),.d (dI (-1))])],[(1,.box (cBatch r3.1))]⟩ ⟨⟨_,rfl,.c (.own rfl (List.mem_singleton.2 rfl) (Nat.le_of_ble_eq_true rfl) rfl (z24 (z01) ([(⟨([]:List Value),r4,(⟨0,(0,0)⟩:Time),(-1)⟩:Update)]:List Update)))⟩,⟨_,rfl,.refl _⟩,⟨_,rfl,.refl _⟩,⟨_,rfl,.refl _⟩,trivial⟩ ⟨⟨_,rfl,.refl _,(by simp)⟩,trivial⟩ ?_
  refine At.one rfl (One.buildSlice (z:=[.zero]) (cells:=[.d (lD 6 z01 ([(⟨([]:List Value),r4,(⟨0,(0,0)⟩:Time),(-1)⟩:Update)]:List Update))]) (xs:=List.map ((fun xs=>[encL 6 z01 xs])) ([([(⟨([]:List Value),r4,(⟨0,(0,0)⟩:Time),(-1)⟩:Update)]:List Update)]:List (List Update))) rfl rfl rfl rfl (by kernel_rfl) rfl rfl (by kernel_rfl) rfl rfl rfl (by kernel_rfl) rfl ⟨⟨rfl,.refl _⟩,trivial⟩) ?_
  refine At.le [30] (fun k hk h=>by first | (cases h; done) | (simp at hk h; omega)) ⟨[(30,cD (lD 1 (fun xs=>[encL 6 z01 xs]) ([([(⟨([]:List Value),r4,(⟨0,(0,0)⟩:Time),(-1)⟩:Update)]:List Update)]:List (List Update)))),(1,.c (.ptr 1 0)),(2,cD (dI r3.2)),(29,cD (lD 6 z01 ([(⟨([]:List Value),r4,(⟨0,(0,0)⟩:Time),(-1)⟩:Update)]:List Update)))],[(1,.box (cBatch r3.1))]⟩ ⟨⟨_,rfl,.c (.own rfl (List.mem_singleton.2 rfl) (Nat.le_of_ble_eq_true rfl) rfl (z24 ((fun xs=>[encL 6 z01 xs])) ([([(⟨([]:List Value),r4,(⟨0,(0,0)⟩:Time),(-1)⟩:Update)]:List Update)]:List (List Update))))⟩,⟨_,rfl,.refl _⟩,⟨_,rfl,.refl _⟩,⟨_,rfl,.refl _⟩,trivial⟩ ⟨⟨_,rfl,.refl _,(by simp)⟩,trivial⟩ ?_
  obtain ⟨r5,hr5,h⟩:=z05 h
  refine At.cA [] [.c (.zero),cD (lD 1 (fun xs=>[encL 6 z01 xs]) ([([(⟨([]:List Value),r4,(⟨0,(0,0)⟩:Time),(-1)⟩:Update)]:List Update)]:List (List Update)))] (zbv hr5) (.cons (.c (.le (.zero _ _))) (.cons (.refl _) .nil)) ?_
  refine At.sg 6 [1,2,3,4] [1,3] (z00 6) ?_
  refine At.done rfl ?_
  refine Tri.seqS ?_
  refine Tri.reg ?_
  refine At.seg 2 [2,4,35,36] [] (s':=⟨[(2,cD (dI r3.2)),(4,cD (dI r5.2)),(35,.agg (cBatch r3.1)),(36,.agg (cBatch r5.1))],[]⟩) (by kernel_rfl) (z00 2) ?_
  obtain ⟨r6,hr6,h⟩:=z05 h
  refine At.cA [] [.c (.zero),.agg (cBatch r3.1),.agg (cBatch r5.1)] (zg4 hr6) (.cons (.c (.le (.zero _ _))) (.cons (.refl _) (.cons (.refl _) .nil))) ?_
  refine At.sg 6 [2,4,5,6] [5] (z00 6) ?_
  refine At.done rfl ?_
  refine Tri.seqS ?_
  refine Tri.reg ?_
  refine At.sg 1 [2,4,5,6,41] [5] (z00 1) ?_
  obtain ⟨r7,hr7,h⟩:=z05 h
  refine At.cA [] [.agg (cMerger r6.1),cD (dI 1)] (zd7 hr7) (.cons (.refl _) (.cons (.refl _) .nil)) ?_
  refine At.sg 7 [2,4,5,6,7,8] [5] (z00 7) ?_
  refine At.done rfl ?_
  refine Tri.seqS ?_
  refine Tri.reg ?_
  refine At.sg 1 [2,4,5,6,7,8,47] [5] (z00 1) ?_
  obtain ⟨r8,hr8,h⟩:=z05 h
  refine At.cA [] [.agg (cMerger r7.1)] (zdi hr8) (.cons (.refl _) .nil) ?_
  refine At.sg 6 [2,4,5,6,7,8,10] [5] (z00 6) ?_
  refine At.done rfl ?_
  refine Tri.seqS ?_
  refine Tri.reg ?_
  refine At.sg 1 [2,4,5,6,7,8,10,52] [5] (z00 1) ?_
  obtain ⟨r9,hr9,h⟩:=z05 h
  refine At.cA [] [.agg (cMerger r7.1),cD (dI 9)] (zd7 hr9) (.cons (.refl _) (.cons (.refl _) .nil)) ?_
  refine At.sg 7 [2,4,5,6,7,8,10,11,12] [5] (z00 7) ?_
  refine At.done rfl ?_
  refine Tri.seqS ?_
  refine Tri.reg ?_
  refine At.sg 1 [2,4,6,7,8,10,11,12,58] [] (z00 1) ?_
  obtain ⟨r10,hr10,h⟩:=z05 h
  refine At.cA [] [.agg (cMerger r9.1)] (zdi hr10) (.cons (.refl _) .nil) ?_
  refine At.sg 6 [2,4,6,7,8,10,11,12,13,14] [13] (z00 6) ?_
  refine At.done rfl ?_
  refine Tri.seqJ (fun (a11:Bool)=>⟨[(0,cD (.bool a11))],[]⟩) h (fun a11 h => ?_) (fun j12 h => ?_)
  ·refine Tri.ret ?_
   cases h
   exact RetAt.k
  ·refine Tri.reg ?_
   refine At.sg 3 [4,6,7,8,10,11,12,13,14,64] [13] (z00 3) ?_
   refine At.cs [64] h (fun h => ?_) (fun h => ?_)
   ·refine At.sg 4 [6,7,8,10,11,12,13,14,68] [13] (z00 4) ?_
    refine At.cs [68] h (fun h => ?_) (fun h => ?_)
    ·refine At.sg 4 [7,8,10,11,12,13,14,72] [13] (z00 4) ?_
     refine At.cs [72] h (fun h => ?_) (fun h => ?_)
     ·refine At.sg 4 [8,10,11,12,13,14,76] [13] (z00 4) ?_
      refine At.cs [76] h (fun h => ?_) (fun h => ?_)
      ·refine At.sg 4 [10,11,12,13,14,80] [13] (z00 4) ?_
       refine At.cs [80] h (fun h => ?_) (fun h => ?_)
       ·refine At.sg 4 [11,12,13,14,84] [13] (z00 4) ?_
        refine At.cs [84] h (fun h => ?_) (fun h => ?_)
        ·refine At.sg 4 [12,13,14,88] [13] (z00 4) ?_
         refine At.cs [88] h (fun h => ?_) (fun h => ?_)
         ·refine At.sg 4 [13,14,92] [13] (z00 4) ?_
          refine At.cs [92] h (fun h => ?_) (fun h => ?_)
          ·refine At.sg 4 [13,96] [13] (z00 4) ?_
           refine At.cs [96] h (fun h => ?_) (fun h => ?_)
           ·refine At.sg 6 [13,102] [13] (z00 6) ?_
            refine At.cs [102] h (fun h => ?_) (fun h => ?_)
            ·obtain ⟨hc13,h⟩:=z03 h
             refine At.sg 8 [110] [] (tN 2 (ai hc13 (z00 5))) ?_
             refine At.cs [110] h (fun h => ?_) (fun h => ?_)
             ·refine At.seg 1 [110,111] [] (s':=⟨[(110,cD (.bool true)),(111,.agg [.d (dU 2),.d (dU 0),.d (dU 0)])],[]⟩) (by kernel_rfl) (z00 1) ?_
              refine At.one rfl (One.buildSlice (z:=[.d (dU 0),.d (dU 0),.d (dU 0)]) (cells:=[.d (dU 2),.d (dU 0),.d (dU 0)]) (xs:=List.map (z02) ([(⟨2,(0,0)⟩:Time)]:List Time)) rfl rfl rfl rfl (by kernel_rfl) rfl rfl (by kernel_rfl) rfl rfl rfl (by kernel_rfl) rfl ⟨⟨rfl,.refl _⟩,trivial⟩) ?_
              refine At.le [112] (fun k hk h=>by first | (cases h; done) | (simp at hk h; omega)) ⟨[(112,cD (lD 3 z02 ([(⟨2,(0,0)⟩:Time)]:List Time))),(110,cD (.bool true)),(111,.agg [.d (dU 2),.d (dU 0),.d (dU 0)])],[]⟩ ⟨⟨_,rfl,.c (.own rfl (List.mem_singleton.2 rfl) (Nat.le_of_ble_eq_true rfl) rfl (z24 (z02) ([(⟨2,(0,0)⟩:Time)]:List Time)))⟩,⟨_,rfl,.refl _⟩,⟨_,rfl,.refl _⟩,trivial⟩ trivial ?_
              refine At.seg 1 [110,112,113] [] (s':=⟨[(110,cD (.bool true)),(112,cD (lD 3 z02 ([(⟨2,(0,0)⟩:Time)]:List Time))),(113,.agg [.d (dU 1),.d (dU 0),.d (dU 0)])],[]⟩) (by kernel_rfl) (z00 1) ?_
              refine At.one rfl (One.buildSlice (z:=[.d (dU 0),.d (dU 0),.d (dU 0)]) (cells:=[.d (dU 1),.d (dU 0),.d (dU 0)]) (xs:=List.map (z02) ([(⟨1,(0,0)⟩:Time)]:List Time)) rfl rfl rfl rfl (by kernel_rfl) rfl rfl (by kernel_rfl) rfl rfl rfl (by kernel_rfl) rfl ⟨⟨rfl,.refl _⟩,trivial⟩) ?_
              refine At.le [114] (fun k hk h=>by first | (cases h; done) | (simp at hk h; omega)) ⟨[(114,cD (lD 3 z02 ([(⟨1,(0,0)⟩:Time)]:List Time))),(110,cD (.bool true)),(112,cD (lD 3 z02 ([(⟨2,(0,0)⟩:Time)]:List Time))),(113,.agg [.d (dU 1),.d (dU 0),.d (dU 0)])],[]⟩ ⟨⟨_,rfl,.c (.own rfl (List.mem_singleton.2 rfl) (Nat.le_of_ble_eq_true rfl) rfl (z24 (z02) ([(⟨1,(0,0)⟩:Time)]:List Time)))⟩,⟨_,rfl,.refl _⟩,⟨_,rfl,.refl _⟩,⟨_,rfl,.refl _⟩,trivial⟩ trivial ?_
              obtain ⟨r14,hr14,h⟩:=z05 h
              refine At.cA [] [cD (lD 3 z02 ([(⟨2,(0,0)⟩:Time)]:List Time)),cD (lD 3 z02 ([(⟨1,(0,0)⟩:Time)]:List Time))] (z91 hr14) (.cons (.refl _) (.cons (.refl _) .nil)) ?_
              refine At.sg 2 [0] [] (z00 2) ?_
              refine At.done rfl ?_
              exact ⟨_,h,kr⟩
             ·refine At.sg 7 [0] [] (z00 2) ?_
              refine At.done rfl ?_
              exact ⟨_,h,kr⟩
            ·refine At.sg 15 [0] [] (z00 4) ?_
             refine At.done rfl ?_
             exact ⟨_,h,kr⟩
           ·refine At.sg 21 [0] [] (z00 6) ?_
            refine At.done rfl ?_
            exact ⟨_,h,kr⟩
          ·refine At.sg 25 [0] [] (z00 8) ?_
           refine At.done rfl ?_
           exact ⟨_,h,kr⟩
         ·refine At.sg 29 [0] [] (z00 10) ?_
          refine At.done rfl ?_
          exact ⟨_,h,kr⟩
        ·refine At.sg 33 [0] [] (z00 12) ?_
         refine At.done rfl ?_
         exact ⟨_,h,kr⟩
       ·refine At.sg 37 [0] [] (z00 14) ?_
        refine At.done rfl ?_
        exact ⟨_,h,kr⟩
      ·refine At.sg 41 [0] [] (z00 16) ?_
       refine At.done rfl ?_
       exact ⟨_,h,kr⟩
     ·refine At.sg 45 [0] [] (z00 18) ?_
      refine At.done rfl ?_
      exact ⟨_,h,kr⟩
    ·refine At.sg 49 [0] [] (z00 20) ?_
     refine At.done rfl ?_
     exact ⟨_,h,kr⟩
   ·refine At.sg 53 [0] [] (z00 22) ?_
    refine At.done rfl ?_
    exact ⟨_,h,kr⟩
theorem z2p {p0:List Value} {p1:List Value} {q:Bool} (h:z3c p0 p1=some q) :
    Summ Tryz.prog 62 [cD (lD 3 z04 p0),cD (lD 3 z04 p1)] [] (cD (.bool q)) []:=by
  refine Summ.intro Tryz.func62 rfl (by kernel_rfl) (by kernel_rfl) [] rfl ?_
  rintro ⟨P,w0,G0,V,LL,lk,N, φ0,fx⟩ rfl rfl rfl rfl
  unfold z3c at h
  refine Tri.sg [0,1] [] (z00 1) ?_
  refine Tri.seqS ?_
  refine Tri.sg [0,1,10] [] (z00 5) ?_
  refine Tri.condK h (fun h => ?_) (fun h => ?_)
  ·refine Tri.sg [4] [] (z00 1) ?_
   refine Tri.ret ?_
   cases h
   exact RetAt.k
  ·refine Tri.skip ?_
   refine Tri.seqS ?_
   refine Tri.sg [0,1,12,13] [] (z00 3) ?_
   refine Tri.ln 0 p0.length fun hlena2 => ?_
   refine Tri.rK 13 () (fun (x:Bool) s=>RetAt Tryz.prog Tryz.f62 (cD (.bool x)) [] s) (fun (a2:Unit)=>⟨[(0,cD (lD 3 z04 p0)),(1,cD (lD 3 z04 p1)),(12,cD (dI (p0.length:Int)))],[]⟩) [13,0,1,12] [] [14,13,0,1,12] [] [0,1,12] [] [13,0,1,12] [] h hlena2 ?_ ?_ ?_
   ·intro i1 a2 c hii1 h
    refine Tri.sg [0,1,5,12,13] [] (z00 2) ?_
    refine Tri.seqS ?_
    obtain ⟨hc4,h⟩:=z03 h
    refine Tri.dC [.a [0] [],.a [5] [],.a [16,17] [],.a [18] [],.a [1] [],.a [5] [],.a [20,21] [],.a [22] [],.m ⟨[(19,.agg (cValue (p0.getD i1 default))),(23,.agg (cValue (p1.getD i1 default)))],[]⟩ ⟨[(24,cD (.bool (!(z8a (p0.getD i1 default) (p1.getD i1 default)))))],[]⟩ [] [] []] [0,1,12,13,24] [] (tN 2 (ai (show ((0:Int)≤((i1:Nat):Int)∧((i1:Nat):Int) < (p0.length:Int)) from ⟨by omega,by omega⟩) (tN 3 (ai hc4 (z00 1))))) (.a (.a (.a (.a (.a (.a (.a (.a (.m ?_ .z))))))))) ?_
    · exact DOk.one fun r _=>One.eql (b:=(z8a (p0.getD i1 default) (p1.getD i1 default))) (d:=9) rfl (by kernel_rfl) rfl (.inr rfl) rfl rfl (by kernel_rfl) rfl (by kernel_rfl)
    refine Tri.condK h (fun h => ?_) (fun h => ?_)
    ·refine Tri.sg [4] [] (z00 1) ?_
     refine Tri.ret ?_
     cases h
     exact RetAt.k
    ·refine Tri.kp [13,0,1,12] [] ?_
     refine Tri.skip ?_
     cases h
     exact kr
   ·intro a3 h
    refine Tri.sg [4] [] (z00 1) ?_
    refine Tri.ret ?_
    cases h
    exact RetAt.k
   · exact fun x s hx hr=>by cases hx; exact hr
theorem zcw {p0:List Update} {p1:List Update} {q:Bool} (h:z5a p0 p1=some q) :
    Summ Tryz.prog 29 [cD (lD 6 z01 p0),cD (lD 6 z01 p1)] [] (cD (.bool q)) []:=by
  refine Summ.intro Tryz.func29 rfl (by kernel_rfl) (by kernel_rfl) [] rfl ?_
  rintro ⟨P,w0,G0,V,LL,lk,N, φ0,fx⟩ rfl rfl rfl rfl
  unfold z5a at h
  refine Tri.sg [0,1] [] (z00 1) ?_
  refine Tri.seqS ?_
  refine Tri.sg [0,1,10] [] (z00 5) ?_
  refine Tri.condK h (fun h => ?_) (fun h => ?_)
  ·refine Tri.sg [4] [] (z00 1) ?_
   refine Tri.ret ?_
   cases h
   exact RetAt.k
  ·refine Tri.skip ?_
   refine Tri.seqS ?_
   refine Tri.sg [0,1,12,13] [] (z00 3) ?_
   refine Tri.ln 0 p0.length fun hlena2 => ?_
   refine Tri.rK 13 () (fun (x:Bool) s=>RetAt Tryz.prog Tryz.f29 (cD (.bool x)) [] s) (fun (a2:Unit)=>⟨[(0,cD (lD 6 z01 p0)),(1,cD (lD 6 z01 p1)),(12,cD (dI (p0.length:Int)))],[]⟩) [13,0,1,12] [] [14,13,0,1,12] [] [0,1,12] [] [13,0,1,12] [] h hlena2 ?_ ?_ ?_
   ·intro i1 a2 c hii1 h
    refine Tri.segL [0,1,5,12,13] [] ⟨[(0,cD (lD 6 z01 p0)),(1,cD (lD 6 z01 p1)),(5,cD (dI ((i1:Nat):Int))),(12,cD (dI (p0.length:Int))),(13,cD (dI ((i1:Nat):Int)))],[]⟩ _ (by kernel_rfl) (z00 2) ?_
    refine Tri.seqJ (fun (a4:Bool)=>⟨[(0,cD (lD 6 z01 p0)),(1,cD (lD 6 z01 p1)),(12,cD (dI (p0.length:Int))),(13,cD (dI ((i1:Nat):Int))),(67,cD (.bool a4))],[]⟩) h (fun a4 h => ?_) (fun j5 h => ?_)
    ·refine Tri.condK h (fun h => ?_) (fun h => ?_)
     ·refine Tri.sg [4] [] (z00 1) ?_
      refine Tri.ret ?_
      cases h
      exact RetAt.k
     ·refine Tri.kp [13,0,1,12] [] ?_
      refine Tri.skip ?_
      cases h
      exact kr
    ·obtain ⟨hc6,h⟩:=z03 h
     obtain ⟨r7,hr7,h⟩:=z05 h
     rcases z1o h with ⟨hp8,h⟩ | ⟨hp8,h⟩
     ·refine Tri.dC [.a [0] [],.a [5] [],.a [16,17] [],.a [18] [],.a [19] [],.a [1] [],.a [5] [],.a [21,22] [],.a [23] [],.a [24] [],.m ⟨[(20,cD (lD 3 z04 ((p0.getD i1 default).key))),(25,cD (lD 3 z04 ((p1.getD i1 default).key)))],[]⟩ ⟨[(26,cD (.bool r7))],[]⟩ [] [] [],.a [26] [],.m ⟨[(27,cD (.bool (!r7)))],[]⟩ ⟨[(28,.c (.d (.bool true)))],[]⟩ [] [] [],.a [0,28] [],.a [5,28] [],.a [28,29,30] [],.a [28,31] [],.a [28,32] [],.a [1,28] [],.a [5,28] [],.a [28,34,35] [],.a [28,36] [],.a [28,37] [],.a [28,33,38] [],.a [28,39] [],.a [28,40] [],.a [41] [],.a [0,42] [],.a [5,42] [],.a [42,43,44] [],.a [42,45] [],.a [42,46] [],.a [1,42] [],.a [5,42] [],.a [42,48,49] [],.a [42,50] [],.a [42,51] [],.a [42,47,52] [],.a [42,53] [],.a [54] [],.a [0,55] [],.a [5,55] [],.a [55,56,57] [],.a [55,58] [],.a [55,59] [],.a [1,55] [],.a [5,55] [],.a [55,61,62] [],.a [55,63] [],.a [55,64] [],.a [55,60,65] [],.a [55,66] []] [0,1,12,13,67] [] (tN 2 (ai (show ((0:Int)≤((i1:Nat):Int)∧((i1:Nat):Int) < (p0.length:Int)) from ⟨by omega,by omega⟩) (tN 4 (ai hc6 (z00 8))))) (.a (.a (.a (.a (.a (.a (.a (.a (.a (.a (.m ?_ (.a (.m ?_ (.a (.a (.a (.a (.a (.a (.a (.a (.a (.a (.a (.a (.a (.a (.a (.a (.a (.a (.a (.a (.a (.a (.a (.a (.a (.a (.a (.a (.a (.a (.a (.a (.a (.a (.a (.a (.a (.a (.a .z)))))))))))))))))))))))))))))))))))))))))))))))))))) ?_
      · exact DOk.cA [] [cD (lD 3 z04 ((p0.getD i1 default).key)),cD (lD 3 z04 ((p1.getD i1 default).key))] (z2p hr7) fun r=>(.cons (.refl _) (.cons (.refl _) .nil))
      · exact DOk.stepP (fun b => .val (.c (.d (.bool b))) (True)) (p:=(!r7)) hp8 (fun r=>by kernel_rfl) (fun r=>by kernel_rfl) trivial (by kernel_rfl) (by kernel_rfl) (fun r=>rfl)
      exact ⟨_,h,kr⟩
     ·obtain ⟨hc9,h⟩:=z03 h
      obtain ⟨r10,hr10,h⟩:=z05 h
      rcases z1o h with ⟨hp11,h⟩ | ⟨hp11,h⟩
      ·refine Tri.dC [.a [0] [],.a [5] [],.a [16,17] [],.a [18] [],.a [19] [],.a [1] [],.a [5] [],.a [21,22] [],.a [23] [],.a [24] [],.m ⟨[(20,cD (lD 3 z04 ((p0.getD i1 default).key))),(25,cD (lD 3 z04 ((p1.getD i1 default).key)))],[]⟩ ⟨[(26,cD (.bool r7))],[]⟩ [] [] [],.a [26] [],.m ⟨[(27,cD (.bool (!r7)))],[]⟩ ⟨[(28,.c (.d (.bool false)))],[]⟩ [] [] [],.a [0,28] [],.a [5,28] [],.a [28,29,30] [],.a [28,31] [],.a [28,32] [],.a [1,28] [],.a [5,28] [],.a [28,34,35] [],.a [28,36] [],.a [28,37] [],.m ⟨[(28,cD (.bool false)),(33,cD (lD 3 z04 ((p0.getD i1 default).row))),(38,cD (lD 3 z04 ((p1.getD i1 default).row)))],[]⟩ ⟨[(39,cD (.bool r10))],[]⟩ [] [] [],.a [28,39] [],.a [28,40] [],.m ⟨[(41,cD (.bool (!r10)))],[]⟩ ⟨[(42,.c (.d (.bool true)))],[]⟩ [] [] [],.a [0,42] [],.a [5,42] [],.a [42,43,44] [],.a [42,45] [],.a [42,46] [],.a [1,42] [],.a [5,42] [],.a [42,48,49] [],.a [42,50] [],.a [42,51] [],.a [42,47,52] [],.a [42,53] [],.a [54] [],.a [0,55] [],.a [5,55] [],.a [55,56,57] [],.a [55,58] [],.a [55,59] [],.a [1,55] [],.a [5,55] [],.a [55,61,62] [],.a [55,63] [],.a [55,64] [],.a [55,60,65] [],.a [55,66] []] [0,1,12,13,67] [] (tN 2 (ai (show ((0:Int)≤((i1:Nat):Int)∧((i1:Nat):Int) < (p0.length:Int)) from ⟨by omega,by omega⟩) (tN 4 (ai hc6 (tN 5 (ai (show ((0:Int)≤((i1:Nat):Int)∧((i1:Nat):Int) < (p0.length:Int)) from ⟨by omega,by omega⟩) (tN 4 (ai hc9 (z00 7))))))))) (.a (.a (.a (.a (.a (.a (.a (.a (.a (.a (.m ?_ (.a (.m ?_ (.a (.a (.a (.a (.a (.a (.a (.a (.a (.a (.m ?_ (.a (.a (.m ?_ (.a (.a (.a (.a (.a (.a (.a (.a (.a (.a (.a (.a (.a (.a (.a (.a (.a (.a (.a (.a (.a (.a (.a (.a (.a .z)))))))))))))))))))))))))))))))))))))))))))))))))))) ?_
       · exact DOk.cA [] [cD (lD 3 z04 ((p0.getD i1 default).key)),cD (lD 3 z04 ((p1.getD i1 default).key))] (z2p hr7) fun r=>(.cons (.refl _) (.cons (.refl _) .nil))
       · exact DOk.stepP (fun b => .val (.c (.d (.bool b))) (True)) (p:=(!r7)) hp8 (fun r=>by kernel_rfl) (fun r=>by kernel_rfl) trivial (by kernel_rfl) (by kernel_rfl) (fun r=>rfl)
       · exact DOk.cA [] [cD (lD 3 z04 ((p0.getD i1 default).row)),cD (lD 3 z04 ((p1.getD i1 default).row))] (z2p hr10) fun r=>(.cons (.refl _) (.cons (.refl _) .nil))
       · exact DOk.stepP (fun b => .val (.c (.d (.bool b))) (True)) (p:=(!r10)) hp11 (fun r=>by kernel_rfl) (fun r=>by kernel_rfl) trivial (by kernel_rfl) (by kernel_rfl) (fun r=>rfl)
       exact ⟨_,h,kr⟩
      ·obtain ⟨hc12,h⟩:=z03 h
       rcases z1o h with ⟨hp13,h⟩ | ⟨hp13,h⟩
       ·refine Tri.dC [.a [0] [],.a [5] [],.a [16,17] [],.a [18] [],.a [19] [],.a [1] [],.a [5] [],.a [21,22] [],.a [23] [],.a [24] [],.m ⟨[(20,cD (lD 3 z04 ((p0.getD i1 default).key))),(25,cD (lD 3 z04 ((p1.getD i1 default).key)))],[]⟩ ⟨[(26,cD (.bool r7))],[]⟩ [] [] [],.a [26] [],.m ⟨[(27,cD (.bool (!r7)))],[]⟩ ⟨[(28,.c (.d (.bool false)))],[]⟩ [] [] [],.a [0,28] [],.a [5,28] [],.a [28,29,30] [],.a [28,31] [],.a [28,32] [],.a [1,28] [],.a [5,28] [],.a [28,34,35] [],.a [28,36] [],.a [28,37] [],.m ⟨[(28,cD (.bool false)),(33,cD (lD 3 z04 ((p0.getD i1 default).row))),(38,cD (lD 3 z04 ((p1.getD i1 default).row)))],[]⟩ ⟨[(39,cD (.bool r10))],[]⟩ [] [] [],.a [28,39] [],.a [28,40] [],.m ⟨[(41,cD (.bool (!r10)))],[]⟩ ⟨[(42,.c (.d (.bool false)))],[]⟩ [] [] [],.a [0,42] [],.a [5,42] [],.a [42,43,44] [],.a [42,45] [],.a [42,46] [],.a [1,42] [],.a [5,42] [],.a [42,48,49] [],.a [42,50] [],.a [42,51] [],.m ⟨[(42,cD (.bool false)),(47,.agg [.d (dU ((p0.getD i1 default).time.epoch)),.d (dU ((p0.getD i1 default).time.loop.1)),.d (dU ((p0.getD i1 default).time.loop.2))]),(52,.agg [.d (dU ((p1.getD i1 default).time.epoch)),.d (dU ((p1.getD i1 default).time.loop.1)),.d (dU ((p1.getD i1 default).time.loop.2))])],[]⟩ ⟨[(53,cD (.bool (!(z0h ((p0.getD i1 default).time) ((p1.getD i1 default).time)))))],[]⟩ [] [] [],.a [42,53] [],.m ⟨[(54,cD (.bool (!(z0h ((p0.getD i1 default).time) ((p1.getD i1 default).time)))))],[]⟩ ⟨[(55,.c (.d (.bool true)))],[]⟩ [] [] [],.a [0,55] [],.a [5,55] [],.a [55,56,57] [],.a [55,58] [],.a [55,59] [],.a [1,55] [],.a [5,55] [],.a [55,61,62] [],.a [55,63] [],.a [55,64] [],.a [55,60,65] [],.a [55,66] []] [0,1,12,13,67] [] (tN 2 (ai (show ((0:Int)≤((i1:Nat):Int)∧((i1:Nat):Int) < (p0.length:Int)) from ⟨by omega,by omega⟩) (tN 4 (ai hc6 (tN 5 (ai (show ((0:Int)≤((i1:Nat):Int)∧((i1:Nat):Int) < (p0.length:Int)) from ⟨by omega,by omega⟩) (tN 4 (ai hc9 (tN 6 (ai (show ((0:Int)≤((i1:Nat):Int)∧((i1:Nat):Int) < (p0.length:Int)) from ⟨by omega,by omega⟩) (tN 4 (ai hc12 (z00 4))))))))))))) (.a (.a (.a (.a (.a (.a (.a (.a (.a (.a (.m ?_ (.a (.m ?_ (.a (.a (.a (.a (.a (.a (.a (.a (.a (.a (.m ?_ (.a (.a (.m ?_ (.a (.a (.a (.a (.a (.a (.a (.a (.a (.a (.m ?_ (.a (.m ?_ (.a (.a (.a (.a (.a (.a (.a (.a (.a (.a (.a (.a .z)))))))))))))))))))))))))))))))))))))))))))))))))))) ?_
        · exact DOk.cA [] [cD (lD 3 z04 ((p0.getD i1 default).key)),cD (lD 3 z04 ((p1.getD i1 default).key))] (z2p hr7) fun r=>(.cons (.refl _) (.cons (.refl _) .nil))
        · exact DOk.stepP (fun b => .val (.c (.d (.bool b))) (True)) (p:=(!r7)) hp8 (fun r=>by kernel_rfl) (fun r=>by kernel_rfl) trivial (by kernel_rfl) (by kernel_rfl) (fun r=>rfl)
        · exact DOk.cA [] [cD (lD 3 z04 ((p0.getD i1 default).row)),cD (lD 3 z04 ((p1.getD i1 default).row))] (z2p hr10) fun r=>(.cons (.refl _) (.cons (.refl _) .nil))
        · exact DOk.stepP (fun b => .val (.c (.d (.bool b))) (True)) (p:=(!r10)) hp11 (fun r=>by kernel_rfl) (fun r=>by kernel_rfl) trivial (by kernel_rfl) (by kernel_rfl) (fun r=>rfl)
        · exact DOk.one fun r _=>One.eql (b:=(z0h ((p0.getD i1 default).time) ((p1.getD i1 default).time))) (d:=9) rfl (by kernel_rfl) rfl (.inr rfl) rfl rfl (by kernel_rfl) rfl (by kernel_rfl)
        · exact DOk.stepP (fun b => .val (.c (.d (.bool b))) (True)) (p:=(!(z0h ((p0.getD i1 default).time) ((p1.getD i1 default).time)))) hp13 (fun r=>by kernel_rfl) (fun r=>by kernel_rfl) trivial (by kernel_rfl) (by kernel_rfl) (fun r=>rfl)
        exact ⟨_,h,kr⟩
       ·obtain ⟨hc14,h⟩:=z03 h
        refine Tri.dC [.a [0] [],.a [5] [],.a [16,17] [],.a [18] [],.a [19] [],.a [1] [],.a [5] [],.a [21,22] [],.a [23] [],.a [24] [],.m ⟨[(20,cD (lD 3 z04 ((p0.getD i1 default).key))),(25,cD (lD 3 z04 ((p1.getD i1 default).key)))],[]⟩ ⟨[(26,cD (.bool r7))],[]⟩ [] [] [],.a [26] [],.m ⟨[(27,cD (.bool (!r7)))],[]⟩ ⟨[(28,.c (.d (.bool false)))],[]⟩ [] [] [],.a [0,28] [],.a [5,28] [],.a [28,29,30] [],.a [28,31] [],.a [28,32] [],.a [1,28] [],.a [5,28] [],.a [28,34,35] [],.a [28,36] [],.a [28,37] [],.m ⟨[(28,cD (.bool false)),(33,cD (lD 3 z04 ((p0.getD i1 default).row))),(38,cD (lD 3 z04 ((p1.getD i1 default).row)))],[]⟩ ⟨[(39,cD (.bool r10))],[]⟩ [] [] [],.a [28,39] [],.a [28,40] [],.m ⟨[(41,cD (.bool (!r10)))],[]⟩ ⟨[(42,.c (.d (.bool false)))],[]⟩ [] [] [],.a [0,42] [],.a [5,42] [],.a [42,43,44] [],.a [42,45] [],.a [42,46] [],.a [1,42] [],.a [5,42] [],.a [42,48,49] [],.a [42,50] [],.a [42,51] [],.m ⟨[(42,cD (.bool false)),(47,.agg [.d (dU ((p0.getD i1 default).time.epoch)),.d (dU ((p0.getD i1 default).time.loop.1)),.d (dU ((p0.getD i1 default).time.loop.2))]),(52,.agg [.d (dU ((p1.getD i1 default).time.epoch)),.d (dU ((p1.getD i1 default).time.loop.1)),.d (dU ((p1.getD i1 default).time.loop.2))])],[]⟩ ⟨[(53,cD (.bool (!(z0h ((p0.getD i1 default).time) ((p1.getD i1 default).time)))))],[]⟩ [] [] [],.a [42,53] [],.m ⟨[(54,cD (.bool (!(z0h ((p0.getD i1 default).time) ((p1.getD i1 default).time)))))],[]⟩ ⟨[(55,.c (.d (.bool false)))],[]⟩ [] [] [],.a [0,55] [],.a [5,55] [],.a [55,56,57] [],.a [55,58] [],.a [55,59] [],.a [1,55] [],.a [5,55] [],.a [55,61,62] [],.a [55,63] [],.a [55,64] [],.a [55,60,65] [],.a [55,66] []] [0,1,12,13,67] [] (tN 2 (ai (show ((0:Int)≤((i1:Nat):Int)∧((i1:Nat):Int) < (p0.length:Int)) from ⟨by omega,by omega⟩) (tN 4 (ai hc6 (tN 5 (ai (show ((0:Int)≤((i1:Nat):Int)∧((i1:Nat):Int) < (p0.length:Int)) from ⟨by omega,by omega⟩) (tN 4 (ai hc9 (tN 6 (ai (show ((0:Int)≤((i1:Nat):Int)∧((i1:Nat):Int) < (p0.length:Int)) from ⟨by omega,by omega⟩) (tN 4 (ai hc12 (tN 5 (ai (show ((0:Int)≤((i1:Nat):Int)∧((i1:Nat):Int) < (p0.length:Int)) from ⟨by omega,by omega⟩) (tN 4 (ai hc14 (z00 4))))))))))))))))) (.a (.a (.a (.a (.a (.a (.a (.a (.a (.a (.m ?_ (.a (.m ?_ (.a (.a (.a (.a (.a (.a (.a (.a (.a (.a (.m ?_ (.a (.a (.m ?_ (.a (.a (.a (.a (.a (.a (.a (.a (.a (.a (.m ?_ (.a (.m ?_ (.a (.a (.a (.a (.a (.a (.a (.a (.a (.a (.a (.a .z)))))))))))))))))))))))))))))))))))))))))))))))))))) ?_
        · exact DOk.cA [] [cD (lD 3 z04 ((p0.getD i1 default).key)),cD (lD 3 z04 ((p1.getD i1 default).key))] (z2p hr7) fun r=>(.cons (.refl _) (.cons (.refl _) .nil))
        · exact DOk.stepP (fun b => .val (.c (.d (.bool b))) (True)) (p:=(!r7)) hp8 (fun r=>by kernel_rfl) (fun r=>by kernel_rfl) trivial (by kernel_rfl) (by kernel_rfl) (fun r=>rfl)
        · exact DOk.cA [] [cD (lD 3 z04 ((p0.getD i1 default).row)),cD (lD 3 z04 ((p1.getD i1 default).row))] (z2p hr10) fun r=>(.cons (.refl _) (.cons (.refl _) .nil))
        · exact DOk.stepP (fun b => .val (.c (.d (.bool b))) (True)) (p:=(!r10)) hp11 (fun r=>by kernel_rfl) (fun r=>by kernel_rfl) trivial (by kernel_rfl) (by kernel_rfl) (fun r=>rfl)
        · exact DOk.one fun r _=>One.eql (b:=(z0h ((p0.getD i1 default).time) ((p1.getD i1 default).time))) (d:=9) rfl (by kernel_rfl) rfl (.inr rfl) rfl rfl (by kernel_rfl) rfl (by kernel_rfl)
        · exact DOk.stepP (fun b => .val (.c (.d (.bool b))) (True)) (p:=(!(z0h ((p0.getD i1 default).time) ((p1.getD i1 default).time)))) hp13 (fun r=>by kernel_rfl) (fun r=>by kernel_rfl) trivial (by kernel_rfl) (by kernel_rfl) (fun r=>rfl)
        exact ⟨_,h,kr⟩
   ·intro a3 h
    refine Tri.sg [4] [] (z00 1) ?_
    refine Tri.ret ?_
    cases h
    exact RetAt.k
   · exact fun x s hx hr=>by cases hx; exact hr
theorem zcv {fuel:Nat} {p0:List Update} {q:Bool} (h:z3b fuel p0=some q) :
    Summ Tryz.prog 48 [cD (lD 6 z01 p0)] [] (cD (.bool q)) []:=by
  refine Summ.intro Tryz.func48 rfl (by kernel_rfl) (by kernel_rfl) [] rfl ?_
  rintro ⟨P,w0,G0,V,LL,lk,N, φ0,fx⟩ rfl rfl rfl rfl
  unfold z3b at h
  refine Tri.sg [0] [] (z00 1) ?_
  refine Tri.seqS ?_
  refine Tri.sg [0,5,6,7] [] (z00 3) ?_
  refine Tri.ln 5 p0.length fun hlena2 => ?_
  refine Tri.rK 7 () (fun (x:Bool) s=>RetAt Tryz.prog Tryz.f48 (cD (.bool x)) [] s) (fun (a2:Unit)=>⟨[(0,cD (lD 6 z01 p0)),(5,cD (lD 6 z01 p0)),(6,cD (dI (p0.length:Int)))],[]⟩) [7,0,5,6] [] [8,7,0,5,6] [] [0,5,6] [] [7,0,5,6] [] h hlena2 ?_ ?_ ?_
  ·intro i1 a2 c hii1 h
   refine Tri.segL [0,3,4,5,6,7] [4] ⟨[(0,cD (lD 6 z01 p0)),(3,cD (dI ((i1:Nat):Int))),(4,.c (.ptr 4 0)),(5,cD (lD 6 z01 p0)),(6,cD (dI (p0.length:Int))),(7,cD (dI ((i1:Nat):Int)))],[(4,.box (cUpdate (p0.getD i1 default)))]⟩ _ (by kernel_rfl) (tN 1 (ai (show ((0:Int)≤((i1:Nat):Int)∧((i1:Nat):Int) < (p0.length:Int)) from ⟨by omega,by omega⟩) (z00 4))) ?_
   refine Tri.seqJ (fun (a5:Bool)=>⟨[(0,cD (lD 6 z01 p0)),(5,cD (lD 6 z01 p0)),(6,cD (dI (p0.length:Int))),(7,cD (dI ((i1:Nat):Int))),(28,cD (.bool a5))],[]⟩) h (fun a5 h => ?_) (fun j6 h => ?_)
   ·refine Tri.condK h (fun h => ?_) (fun h => ?_)
    ·refine Tri.sg [2] [] (z00 1) ?_
     refine Tri.ret ?_
     cases h
     exact RetAt.k
    ·refine Tri.kp [7,0,5,6] [] ?_
     refine Tri.skip ?_
     cases h
     exact kr
   ·rcases z1o h with ⟨hp7,h⟩ | ⟨hp7,h⟩
    ·refine Tri.dC [.a [4] [],.a [12] [4],.a [13] [],.m ⟨[(14,cD (.bool (decide ((p0.getD i1 default).diff=0))))],[]⟩ ⟨[(15,.c (.d (.bool true)))],[]⟩ [] [] [],.a [3,15] [],.a [15,16] [],.a [15,17] [],.a [0,18] [],.a [3,18] [],.a [18,20] [],.a [18,19,21] [],.a [18,22] [],.a [4,18] [4],.a [18,23,24] [],.a [18,25] [],.a [15,18,26] [],.a [15,27] []] [0,5,6,7,28] [] (z00 4) (.a (.a (.a (.m ?_ (.a (.a (.a (.a (.a (.a (.a (.a (.a (.a (.a (.a (.a .z))))))))))))))))) ?_
     · exact DOk.stepP (fun b => .val (.c (.d (.bool b))) (True)) (p:=(decide ((p0.getD i1 default).diff=0))) hp7 (fun r=>by kernel_rfl) (fun r=>by kernel_rfl) trivial (by kernel_rfl) (by kernel_rfl) (fun r=>rfl)
     exact ⟨_,h,kr⟩
    ·rcases z1o h with ⟨hp8,h⟩ | ⟨hp8,h⟩
     ·obtain ⟨hc9,h⟩:=z03 h
      obtain ⟨r10,hr10,h⟩:=z05 h
      refine Tri.dC [.a [4] [],.a [12] [4],.a [13] [],.m ⟨[(14,cD (.bool (decide ((p0.getD i1 default).diff=0))))],[]⟩ ⟨[(15,.c (.d (.bool false)))],[]⟩ [] [] [],.a [3,15] [],.a [15,16] [],.m ⟨[(15,cD (.bool false)),(17,cD (.bool (decide (0 < ((i1:Nat):Int)))))],[]⟩ ⟨[(18,.c (.d (.bool true)))],[]⟩ [] [] [],.a [0,18] [],.a [3,18] [],.a [18,20] [],.a [18,19,21] [],.a [18,22] [],.a [4,18] [4],.m ⟨[(18,cD (.bool true)),(23,.agg (cUpdate (p0.getD ((IntKind.i64.wrap (((i1:Nat):Int) - 1)).toNat) default))),(24,.agg (cUpdate (p0.getD i1 default)))],[]⟩ ⟨[(25,cD (dI r10))],[]⟩ [] [] [],.a [18,25] [],.a [15,18,26] [],.a [15,27] []] [0,5,6,7,28] [] (tN 8 (ai hc9 (z00 5))) (.a (.a (.a (.m ?_ (.a (.a (.m ?_ (.a (.a (.a (.a (.a (.a (.m ?_ (.a (.a (.a .z))))))))))))))))) ?_
      · exact DOk.stepP (fun b => .val (.c (.d (.bool b))) (True)) (p:=(decide ((p0.getD i1 default).diff=0))) hp7 (fun r=>by kernel_rfl) (fun r=>by kernel_rfl) trivial (by kernel_rfl) (by kernel_rfl) (fun r=>rfl)
      · exact DOk.stepP (fun b => .val (.c (.d (.bool b))) (True)) (p:=(decide (0 < ((i1:Nat):Int)))) hp8 (fun r=>by kernel_rfl) (fun r=>by kernel_rfl) trivial (by kernel_rfl) (by kernel_rfl) (fun r=>rfl)
      · exact DOk.cA [] [.agg (cUpdate (p0.getD ((IntKind.i64.wrap (((i1:Nat):Int) - 1)).toNat) default)),.agg (cUpdate (p0.getD i1 default))] (zat hr10) fun r=>(.cons (.refl _) (.cons (.refl _) .nil))
      exact ⟨_,h,kr⟩
     ·refine Tri.dC [.a [4] [],.a [12] [4],.a [13] [],.m ⟨[(14,cD (.bool (decide ((p0.getD i1 default).diff=0))))],[]⟩ ⟨[(15,.c (.d (.bool false)))],[]⟩ [] [] [],.a [3,15] [],.a [15,16] [],.m ⟨[(15,cD (.bool false)),(17,cD (.bool (decide (0 < ((i1:Nat):Int)))))],[]⟩ ⟨[(18,.c (.d (.bool false)))],[]⟩ [] [] [],.a [0,18] [],.a [3,18] [],.a [18,20] [],.a [18,19,21] [],.a [18,22] [],.a [4,18] [4],.a [18,23,24] [],.a [18,25] [],.a [15,18,26] [],.a [15,27] []] [0,5,6,7,28] [] (z00 7) (.a (.a (.a (.m ?_ (.a (.a (.m ?_ (.a (.a (.a (.a (.a (.a (.a (.a (.a (.a .z))))))))))))))))) ?_
      · exact DOk.stepP (fun b => .val (.c (.d (.bool b))) (True)) (p:=(decide ((p0.getD i1 default).diff=0))) hp7 (fun r=>by kernel_rfl) (fun r=>by kernel_rfl) trivial (by kernel_rfl) (by kernel_rfl) (fun r=>rfl)
      · exact DOk.stepP (fun b => .val (.c (.d (.bool b))) (True)) (p:=(decide (0 < ((i1:Nat):Int)))) hp8 (fun r=>by kernel_rfl) (fun r=>by kernel_rfl) trivial (by kernel_rfl) (by kernel_rfl) (fun r=>rfl)
      exact ⟨_,h,kr⟩
  ·intro a3 h
   refine Tri.seqS ?_
   refine Tri.reg ?_
   refine At.sg 1 [30] [] (z00 1) ?_
   obtain ⟨r4,hr4,h⟩:=z05 h
   refine At.cA [] [cD (lD 6 z01 p0)] (zc3 hr4) (.cons (.refl _) .nil) ?_
   refine At.sg 2 [2] [] (z00 2) ?_
   refine At.done rfl ?_
   refine Tri.ret ?_
   cases h
   exact RetAt.k
  · exact fun x s hx hr=>by cases hx; exact hr
theorem zab {p0:List Update} {p1:List Time} {q:Bool} (h:z3o p0 p1=some q) :
    Summ Tryz.prog 49 [cD (lD 6 z01 p0),cD (lD 3 z02 p1)] [] (cD (.bool q)) []:=by
  refine Summ.intro Tryz.func49 rfl (by kernel_rfl) (by kernel_rfl) [] rfl ?_
  rintro ⟨P,w0,G0,V,LL,lk,N, φ0,fx⟩ rfl rfl rfl rfl
  unfold z3o at h
  refine Tri.sg [0,1] [] (z00 1) ?_
  refine Tri.seqS ?_
  refine Tri.sg [1,7,8,9] [] (z00 3) ?_
  refine Tri.ln 7 p0.length fun hlena2 => ?_
  refine Tri.rK 9 () (fun (x:Bool) s=>RetAt Tryz.prog Tryz.f49 (cD (.bool x)) [] s) (fun (a2:Unit)=>⟨[(1,cD (lD 3 z02 p1)),(7,cD (lD 6 z01 p0)),(8,cD (dI (p0.length:Int)))],[]⟩) [9,1,7,8] [] [10,9,1,7,8] [] [1,7,8] [] [9,1,7,8] [] h hlena2 ?_ ?_ ?_
  ·intro i1 a2 c hii1 h
   refine Tri.sg [1,6,7,8,9] [6] (ai (show ((0:Int)≤((i1:Nat):Int)∧((i1:Nat):Int) < (p0.length:Int)) from ⟨by omega,by omega⟩) (z00 3)) ?_
   refine Tri.seqS ?_
   obtain ⟨r4,hr4,h⟩:=z05 h
   refine Tri.dC [.a [6] [],.a [13] [6],.a [1] [],.m ⟨[(14,.agg [.d (dU ((p0.getD i1 default).time.epoch)),.d (dU ((p0.getD i1 default).time.loop.1)),.d (dU ((p0.getD i1 default).time.loop.2))]),(15,cD (lD 3 z02 p1))],[]⟩ ⟨[(16,.agg (cTime r4))],[]⟩ [] [] [],.a [6] [],.a [17] [6],.m ⟨[(16,.agg (cTime r4)),(18,.agg [.d (dU ((p0.getD i1 default).time.epoch)),.d (dU ((p0.getD i1 default).time.loop.1)),.d (dU ((p0.getD i1 default).time.loop.2))])],[]⟩ ⟨[(19,cD (.bool (!(z0h r4 ((p0.getD i1 default).time)))))],[]⟩ [] [] []] [1,7,8,9,19] [] (z00 5) (.a (.a (.a (.m ?_ (.a (.a (.m ?_ .z))))))) ?_
   · exact DOk.cA [] [.agg [.d (dU ((p0.getD i1 default).time.epoch)),.d (dU ((p0.getD i1 default).time.loop.1)),.d (dU ((p0.getD i1 default).time.loop.2))],cD (lD 3 z02 p1)] (zau hr4) fun r=>(.cons (.refl _) (.cons (.refl _) .nil))
   · exact DOk.one fun r _=>One.eql (b:=(z0h r4 ((p0.getD i1 default).time))) (d:=9) rfl (by kernel_rfl) rfl (.inr rfl) rfl rfl (by kernel_rfl) rfl (by kernel_rfl)
   refine Tri.condK h (fun h => ?_) (fun h => ?_)
   ·refine Tri.sg [4] [] (z00 1) ?_
    refine Tri.ret ?_
    cases h
    exact RetAt.k
   ·refine Tri.kp [9,1,7,8] [] ?_
    refine Tri.skip ?_
    cases h
    exact kr
  ·intro a3 h
   refine Tri.sg [4] [] (z00 1) ?_
   refine Tri.ret ?_
   cases h
   exact RetAt.k
  · exact fun x s hx hr=>by cases hx; exact hr
theorem z87 {fuel:Nat} {p0:Batch} {q:Int} (h:z2c fuel p0=some q) :
    Summ Tryz.prog 16 [.agg (cBatch p0)] [] (cD (dI q)) []:=by
  refine Summ.intro Tryz.func16 rfl (by kernel_rfl) (by kernel_rfl) [] rfl ?_
  rintro ⟨P,w0,G0,V,LL,lk,N, φ0,fx⟩ rfl rfl rfl rfl
  unfold z2c at h
  refine Tri.sg [1] [1] (z00 2) ?_
  refine Tri.seqS ?_
  refine Tri.seqJ (fun (a1:Bool)=>⟨[(20,cD (.bool a1))],[]⟩) h (fun a1 h => ?_) (fun j2 h => ?_)
  ·refine Tri.condK h (fun h => ?_) (fun h => ?_)
   ·refine Tri.sg [2] [] (z00 1) ?_
    refine Tri.ret ?_
    cases h
    exact RetAt.k
   ·refine Tri.skip ?_
    refine Tri.sg [2] [] (z00 1) ?_
    refine Tri.ret ?_
    cases h
    exact RetAt.k
  ·refine Tri.reg ?_
   refine At.sg 2 [1,4] [1] (z00 2) ?_
   obtain ⟨r3,hr3,h⟩:=z05 h
   refine At.cA [] [cD (lD 3 z02 p0.since)] (zc7 hr3) (.cons (.refl _) .nil) ?_
   refine At.sg 2 [1,7] [1] (z00 2) ?_
   refine At.cs [7] h (fun h => ?_) (fun h => ?_)
   ·refine At.sg 13 [20] [] (z00 3) ?_
    refine At.done rfl ?_
    exact ⟨_,h,kr⟩
   ·refine At.sg 2 [1,7,9] [1] (z00 2) ?_
    obtain ⟨r4,hr4,h⟩:=z05 h
    refine At.cA [] [cD (lD 6 z01 p0.updates)] (zcv hr4) (.cons (.refl _) .nil) ?_
    refine At.sg 3 [1,13] [1] (z00 3) ?_
    refine At.cs [13] h (fun h => ?_) (fun h => ?_)
    ·refine At.sg 7 [20] [] (z00 1) ?_
     refine At.done rfl ?_
     exact ⟨_,h,kr⟩
    ·refine At.sg 4 [13,15,17] [] (z00 4) ?_
     obtain ⟨r5,hr5,h⟩:=z05 h
     refine At.cA [] [cD (lD 6 z01 p0.updates),cD (lD 3 z02 p0.since)] (zab hr5) (.cons (.refl _) (.cons (.refl _) .nil)) ?_
     refine At.sg 2 [20] [] (z00 2) ?_
     refine At.done rfl ?_
     exact ⟨_,h,kr⟩
theorem zai {p0:Update} {p1:List Value} {q:Int} (h:z6u p0 p1=some q) :
  Summ Tryz.prog 105 [.agg (cUpdate p0),cD (lD 3 z04 p1)] [] (cD (dI q)) []:=by
 refine Summ.intro Tryz.func105 rfl (by kernel_rfl) (by kernel_rfl) [] rfl ?_
 rintro ⟨P,w0,G0,V,LL,lk,N, φ0,fx⟩ rfl rfl rfl rfl
 unfold z6u at h
 refine Tri.sg [1,2] [2] (z00 2) ?_
 refine Tri.seqS ?_
 refine Tri.reg ?_
 refine At.sg 3 [6,7] [] (z00 3) ?_
 obtain ⟨r1,hr1,h⟩:=z05 h
 refine At.cA [] [cD (lD 3 z04 p0.key),cD (lD 3 z04 p1)] (z62 hr1) (.cons (.refl _) (.cons (.refl _) .nil)) ?_
 refine At.sg 1 [4] [] (z00 1) ?_
 refine At.done rfl ?_
 refine Tri.ret ?_
 cases h
 exact RetAt.k
theorem z1y {fuel:Nat} {p0:List Update} {p1:List Value} {q:Int × Bool} (h:z0b fuel p0 p1=some q) :
    Summ Tryz.prog 104 [cD (lD 6 z01 p0),cD (lD 3 z04 p1),cD (.fn 105 [])] [] (.tup [(false,[.d (dI q.1)]),(false,[.d (.bool q.2)])]) []:=by
  refine Summ.intro Tryz.func104 rfl (by kernel_rfl) (by kernel_rfl) [] rfl ?_
  rintro ⟨P,w0,G0,V,LL,lk,N, φ0,fx⟩ rfl rfl rfl rfl
  unfold z0b at h
  refine Tri.sg [0,1,2] [] (z00 2) ?_
  refine Tri.sg [0,1,2,8] [] (z00 3) ?_
  refine Tri.sg [0,1,2,8,9,10] [] (z00 3) ?_
  refine Tri.seqS ?_
  refine Tri.lK (0,(p0.length:Int)) (fun (x:Empty) s=>False) (fun (a1:Int × Int)=>⟨[(0,cD (lD 6 z01 p0)),(1,cD (lD 3 z04 p1)),(2,cD (.fn 105 [])),(8,cD (dI (p0.length:Int))),(9,cD (dI a1.1)),(10,cD (dI a1.2))],[]⟩) [0,1,2,8,9,10] [] h ?_ ?_ ?_
  ·intro a1 c h
   refine Tri.seqS ?_
   refine Tri.sg [0,1,2,8,9,10,17] [] (z00 3) ?_
   refine Tri.condK h (fun h => ?_) (fun h => ?_)
   ·refine Tri.skip ?_
    refine Tri.blockB ?_
    refine Tri.sg [0,1,2,8,9,10,11] [] (tN 4 (ai (show ((0:Int)≤1) from (by decide:(0:Int)≤1)) (z00 2))) ?_
    refine Tri.seqS ?_
    refine Tri.reg ?_
    obtain ⟨hc7,h⟩:=z03 h
    refine At.sg 6 [0,1,2,8,9,10,11,24,28,29] [] (tN 3 (ai hc7 (z00 2))) ?_
    obtain ⟨r8,hr8,h⟩:=z05 h
    refine At.cA [] [.agg (cUpdate (p0.getD ((IntKind.i64.wrap (shrOp .u64 (IntKind.u64.wrap (IntKind.i64.wrap (a1.1 + a1.2))) 1)).toNat) default)),cD (lD 3 z04 p1)] (zai hr8) (.cons (.refl _) (.cons (.refl _) .nil)) ?_
    refine At.sg 1 [0,1,2,8,9,10,11,31] [] (z00 1) ?_
    refine At.done rfl ?_
    refine Tri.condK h (fun h => ?_) (fun h => ?_)
    ·refine Tri.reg ?_
     refine At.sg 3 [0,1,2,8,9,10] [] (z00 3) ?_
     refine At.done rfl ?_
     cases h
     exact kr
    ·refine Tri.reg ?_
     refine At.sg 2 [0,1,2,8,9,10] [] (z00 2) ?_
     refine At.done rfl ?_
     cases h
     exact kr
   ·refine Tri.kp [0,1,2,8,9,10] [] ?_
    refine Tri.exit ?_
    cases h
    exact ⟨rfl,kr⟩
  ·intro a2 h
   refine Tri.seqJ (fun (a3:Bool)=>⟨[(6,cD (dI a2.1)),(7,cD (.bool a3))],[]⟩) h (fun a3 h => ?_) (fun j4 h => ?_)
   ·refine Tri.ret ?_
    cases h
    exact RetAt.k
   ·refine Tri.reg ?_
    refine At.sg 5 [0,1,2,9,35,39] [] (z00 5) ?_
    refine At.cs [39] h (fun h => ?_) (fun h => ?_)
    ·obtain ⟨hc5,h⟩:=z03 h
     refine At.sg 6 [35,39,40,44,45] [] (tN 3 (ai hc5 (z00 2))) ?_
     obtain ⟨r6,hr6,h⟩:=z05 h
     refine At.cA [] [.agg (cUpdate (p0.getD a2.1.toNat default)),cD (lD 3 z04 p1)] (zai hr6) (.cons (.refl _) (.cons (.refl _) .nil)) ?_
     refine At.sg 4 [6,7] [] (z00 4) ?_
     refine At.done rfl ?_
     exact ⟨_,h,kr⟩
    ·refine At.sg 11 [6,7] [] (z00 3) ?_
     refine At.done rfl ?_
     exact ⟨_,h,kr⟩
  · exact fun x=>x.elim
theorem zc0 {fuel:Nat} {p0:List Update} {p1:List Value} {q:Int} (h:z72 fuel p0 p1=some q) :
  Summ Tryz.prog 69 [cD (lD 6 z01 p0),cD (lD 3 z04 p1)] [] (cD (dI q)) []:=by
 refine Summ.intro Tryz.func69 rfl (by kernel_rfl) (by kernel_rfl) [] rfl ?_
 rintro ⟨P,w0,G0,V,LL,lk,N, φ0,fx⟩ rfl rfl rfl rfl
 unfold z72 at h
 refine Tri.sg [0,1] [] (z00 1) ?_
 refine Tri.seqS ?_
 refine Tri.reg ?_
 refine At.sg 2 [8,9] [] (z00 2) ?_
 obtain ⟨r1,hr1,h⟩:=z05 h
 refine At.cA [] [cD (lD 6 z01 p0),cD (lD 3 z04 p1),cD (.fn 105 [])] (z1y hr1) (.cons (.refl _) (.cons (.refl _) (.cons (.refl _) .nil))) ?_
 refine At.sg 5 [5] [] (z00 5) ?_
 refine At.done rfl ?_
 refine Tri.sg [4] [] (z00 2) ?_
 refine Tri.ret ?_
 cases h
 exact RetAt.k
theorem zha {fuel:Nat} {p0:Batch} {p1:List Value} {q:Int × Int} (h:z7p fuel p0 p1=some q) :
    Summ Tryz.prog 33 [.agg (cBatch p0),cD (lD 3 z04 p1)] [] (.tup [(false,[.d (dI q.1)]),(false,[.d (dI q.2)])]) []:=by
  refine Summ.intro Tryz.func33 rfl (by kernel_rfl) (by kernel_rfl) [] rfl ?_
  rintro ⟨P,w0,G0,V,LL,lk,N, φ0,fx⟩ rfl rfl rfl rfl
  unfold z7p at h
  refine Tri.sg [1,2] [2] (z00 3) ?_
  refine Tri.seqS ?_
  refine Tri.seqS ?_
  refine Tri.reg ?_
  refine At.sg 1 [1,2,7] [2] (z00 1) ?_
  obtain ⟨r1,hr1,h⟩:=z05 h
  refine At.cA [] [.agg (cBatch p0)] (z7m hr1) (.cons (.refl _) .nil) ?_
  refine At.sg 1 [1,2,6] [2] (z00 1) ?_
  refine At.done rfl ?_
  refine Tri.sg [1,2,6,10] [2] (z00 2) ?_
  refine Tri.condK h (fun h => ?_) (fun h => ?_)
  ·refine Tri.sg [4,5] [] (z00 3) ?_
   refine Tri.ret ?_
   cases h
   exact RetAt.k
  ·refine Tri.skip ?_
   refine Tri.seqS ?_
   refine Tri.reg ?_
   refine At.sg 3 [13,14] [] (z00 3) ?_
   obtain ⟨r2,hr2,h⟩:=z05 h
   refine At.cA [] [cD (lD 6 z01 p0.updates),cD (lD 3 z04 p1)] (zc0 hr2) (.cons (.refl _) (.cons (.refl _) .nil)) ?_
   refine At.sg 2 [4,5] [] (z00 2) ?_
   refine At.done rfl ?_
   refine Tri.ret ?_
   cases h
   exact RetAt.k
theorem zf3 {p0:Update} {p1:List Value} {q:Bool} (h:z8f p0 p1=some q) :
  Summ Tryz.prog 108 [.agg (cUpdate p0),cD (.cptr [lD 3 z04 p1])] [] (cD (.bool q)) []:=by
 refine Summ.intro Tryz.func108 rfl (by kernel_rfl) (by kernel_rfl) [] rfl ?_
 rintro ⟨P,w0,G0,V,LL,lk,N, φ0,fx⟩ rfl rfl rfl rfl
 unfold z8f at h
 refine Tri.le [] (fun k hk=>by cases hk) ⟨[(0,.agg (cUpdate p0)),(1,.c (.eptr [lD 3 z04 p1]))],[]⟩ ⟨⟨_,rfl,.refl _⟩,⟨_,rfl,.c (.cptrE _)⟩,trivial⟩ trivial ?_
 refine Tri.sg [1,2] [2] (z00 2) ?_
 refine Tri.seqS ?_
 refine Tri.reg ?_
 refine At.sg 3 [5,6] [] (z00 3) ?_
 obtain ⟨r1,hr1,h⟩:=z05 h
 refine At.cA [] [cD (lD 3 z04 p0.key),cD (lD 3 z04 p1)] (z62 hr1) (.cons (.refl _) (.cons (.refl _) .nil)) ?_
 refine At.sg 2 [3] [] (z00 2) ?_
 refine At.done rfl ?_
 refine Tri.ret ?_
 cases h
 exact RetAt.k
theorem z2u {p0:List Update} {p1_0:List Value} {q:Int} (h:z0q p0 p1_0=some q) :
    Summ Tryz.prog 107 [cD (lD 6 z01 p0),cD (.fn 108 [.cptr [lD 3 z04 p1_0]])] [] (cD (dI q)) []:=by
  refine Summ.intro Tryz.func107 rfl (by kernel_rfl) (by kernel_rfl) [] rfl ?_
  rintro ⟨P,w0,G0,V,LL,lk,N, φ0,fx⟩ rfl rfl rfl rfl
  unfold z0q at h
  refine Tri.sg [0,1] [] (z00 1) ?_
  refine Tri.seqS ?_
  refine Tri.sg [0,1,7,8] [] (z00 3) ?_
  refine Tri.ln 0 p0.length fun hlena2 => ?_
  refine Tri.rK 8 () (fun (x:Int) s=>RetAt Tryz.prog Tryz.f107 (cD (dI x)) [] s) (fun (a2:Unit)=>⟨[(0,cD (lD 6 z01 p0)),(1,cD (.fn 108 [.cptr [lD 3 z04 p1_0]])),(7,cD (dI (p0.length:Int)))],[]⟩) [8,0,1,7] [] [9,8,0,1,7] [] [0,1,7] [] [8,0,1,7] [] h hlena2 ?_ ?_ ?_
  ·intro i1 a2 c hii1 h
   refine Tri.sg [0,1,5,7,8] [] (z00 2) ?_
   refine Tri.seqS ?_
   refine Tri.reg ?_
   refine At.sg 5 [0,1,5,7,8,11,15] [] (tN 3 (ai (show ((0:Int)≤((i1:Nat):Int)∧((i1:Nat):Int) < (p0.length:Int)) from ⟨by omega,by omega⟩) (z00 1))) ?_
   obtain ⟨r4,hr4,h⟩:=z05 h
   refine At.cA [.cptr [lD 3 z04 p1_0]] [.agg (cUpdate (p0.getD i1 default)),cD (.cptr [lD 3 z04 p1_0])] (zf3 hr4) (.cons (.refl _) (.cons (.refl _) .nil)) ?_
   refine At.done rfl ?_
   refine Tri.condK h (fun h => ?_) (fun h => ?_)
   ·refine Tri.sg [4] [] (z00 2) ?_
    refine Tri.ret ?_
    cases h
    exact RetAt.k
   ·refine Tri.kp [8,0,1,7] [] ?_
    refine Tri.skip ?_
    cases h
    exact kr
  ·intro a3 h
   refine Tri.sg [4] [] (z00 1) ?_
   refine Tri.ret ?_
   cases h
   exact RetAt.k
  · exact fun x s hx hr=>by cases hx; exact hr
theorem zhc {fuel:Nat} {p0:List Update} {p1:List Value} {q:List Update} (h:z8g fuel p0 p1=some q) :
    Summ Tryz.prog 71 [cD (lD 6 z01 p0),cD (lD 3 z04 p1)] [] (cD (lD 6 z01 q)) []:=by
  refine Summ.intro Tryz.func71 rfl (by kernel_rfl) (by kernel_rfl) [] rfl ?_
  rintro ⟨P,w0,G0,V,LL,lk,N, φ0,fx⟩ rfl rfl rfl rfl
  unfold z8g at h
  refine Tri.sg [0,3] [3] (z00 2) ?_
  refine Tri.seqS ?_
  refine Tri.reg ?_
  refine At.sg 3 [3,6,7,8] [3] (z00 3) ?_
  obtain ⟨r1,hr1,h⟩:=z05 h
  refine At.cA [] [cD (lD 6 z01 p0),cD (lD 3 z04 p1)] (zc0 hr1) (.cons (.refl _) (.cons (.refl _) .nil)) ?_
  obtain ⟨hc2,h⟩:=z03 h
  refine At.seg 1 [10,3,6,9] [3] (s':=⟨[(10,.c (.d (.list 6 ((p0.length:Int).toNat - r1.toNat) (fun i=>z01 (p0.getD (r1.toNat + i) default))))),(3,.c (.ptr 3 0)),(6,cD (lD 6 z01 p0)),(9,cD (dI r1))],[(3,.box [.d (lD 3 z04 p1)])]⟩) (by kernel_rfl) (ai hc2 trivial) ?_
  refine At.le [] (fun k hk=>by cases hk) ⟨[(10,cD (lD 6 z01 (sub p0 r1 (p0.length:Int)))),(3,.c (.ptr 3 0)),(6,cD (lD 6 z01 p0)),(9,cD (dI r1))],[(3,.box [.d (lD 3 z04 p1)])]⟩ ⟨⟨_,rfl,.c (.subD (z01) hc2.1 hc2.2.1 hc2.2.2)⟩,⟨_,rfl,.refl _⟩,⟨_,rfl,.refl _⟩,⟨_,rfl,.refl _⟩,trivial⟩ ⟨⟨_,rfl,.refl _,(by simp)⟩,trivial⟩ ?_
  refine At.sg 1 [0,3] [3] (z00 1) ?_
  refine At.done rfl ?_
  refine Tri.seqS ?_
  refine Tri.reg ?_
  refine At.seg 1 [0,3,11] [3] (s':=⟨[(0,cD (lD 6 z01 (sub p0 r1 (p0.length:Int)))),(3,.c (.ptr 3 0)),(11,cD (lD 6 z01 (sub p0 r1 (p0.length:Int))))],[(3,.box [.d (lD 3 z04 p1)])]⟩) (by kernel_rfl) (z00 1) ?_
  refine At.le [3] (fun k hk h=>by first | (cases h; done) | (simp at hk h; omega)) ⟨[(0,cD (lD 6 z01 (sub p0 r1 (p0.length:Int)))),(3,cD (.cptr [lD 3 z04 p1])),(11,cD (lD 6 z01 (sub p0 r1 (p0.length:Int))))],[]⟩ ⟨⟨_,rfl,.refl _⟩,⟨_,rfl,.c (.box (ds:=[lD 3 z04 p1]) rfl (by simp))⟩,⟨_,rfl,.refl _⟩,trivial⟩ trivial ?_
  refine At.seg 1 [12,0,3,11] [] (s':=⟨[(12,cD (.fn 108 [.cptr [lD 3 z04 p1]])),(0,cD (lD 6 z01 (sub p0 r1 (p0.length:Int)))),(3,cD (.cptr [lD 3 z04 p1])),(11,cD (lD 6 z01 (sub p0 r1 (p0.length:Int))))],[]⟩) (by kernel_rfl) (z00 1) ?_
  refine At.le [] (fun k hk=>by cases hk) ⟨[(12,cD (.fn 108 [.cptr [lD 3 z04 p1]])),(0,cD (lD 6 z01 (sub p0 r1 (p0.length:Int)))),(3,.c (.eptr [lD 3 z04 p1])),(11,cD (lD 6 z01 (sub p0 r1 (p0.length:Int))))],[]⟩ ⟨⟨_,rfl,.refl _⟩,⟨_,rfl,.refl _⟩,⟨_,rfl,.c (.cptrE _)⟩,⟨_,rfl,.refl _⟩,trivial⟩ trivial ?_
  obtain ⟨r3,hr3,h⟩:=z05 h
  refine At.cA [] [cD (lD 6 z01 (sub p0 r1 (p0.length:Int))),cD (.fn 108 [.cptr [lD 3 z04 p1]])] (z2u hr3) (.cons (.refl _) (.cons (.refl _) .nil)) ?_
  refine At.sg 1 [0,5] [] (z00 1) ?_
  refine At.done rfl ?_
  refine Tri.seqJ (fun (a4:Int)=>⟨[(0,cD (lD 6 z01 (sub p0 r1 (p0.length:Int)))),(5,cD (dI a4))],[]⟩) h (fun a4 h => ?_) (fun j5 h => ?_)
  ·refine Tri.seqS ?_
   refine Tri.reg ?_
   refine At.seg 3 [18,19,20] [] (s':=⟨[(18,cD (lD 6 z01 (sub p0 r1 (p0.length:Int)))),(19,cD (dI a4)),(20,cD (dI a4))],[]⟩) (by kernel_rfl) (z00 3) ?_
   obtain ⟨hc6,h⟩:=z03 h
   refine At.one rfl (One.subL3 (es:=6) (z01) (l:=0) (h:=a4) (m:=a4) hc6 rfl rfl rfl (by kernel_rfl)) ?_
   obtain ⟨r7,hr7,h⟩:=z05 h
   refine At.cA [] [cD (lD 6 z01 (sub (sub p0 r1 (p0.length:Int)) 0 a4))] (z6f hr7) (.cons (.refl _) .nil) ?_
   refine At.sg 1 [4] [] (z00 1) ?_
   refine At.done rfl ?_
   refine Tri.ret ?_
   cases h
   exact RetAt.k
  ·refine Tri.sg [0,5,15] [] (z00 2) ?_
   refine Tri.condK h (fun h => ?_) (fun h => ?_)
   ·refine Tri.reg ?_
    refine At.sg 3 [0,5] [] (z00 3) ?_
    refine At.done rfl ?_
    exact ⟨_,h,kr⟩
   ·refine Tri.kp [0,5] [] ?_
    refine Tri.skip ?_
    exact ⟨_,h,kr⟩
theorem zg6 {fuel:Nat} {p0:Batch} {p1:List Value} {q:(List Update) × Int} (h:z6z fuel p0 p1=some q) :
    Summ Tryz.prog 35 [.agg (cBatch p0),cD (lD 3 z04 p1)] [] (.tup [(false,[.d (lD 6 z01 q.1)]),(false,[.d (dI q.2)])]) []:=by
  refine Summ.intro Tryz.func35 rfl (by kernel_rfl) (by kernel_rfl) [] rfl ?_
  rintro ⟨P,w0,G0,V,LL,lk,N, φ0,fx⟩ rfl rfl rfl rfl
  unfold z6z at h
  refine Tri.sg [1,2] [2] (z00 3) ?_
  refine Tri.seqS ?_
  refine Tri.seqS ?_
  refine Tri.reg ?_
  refine At.sg 1 [1,2,7] [2] (z00 1) ?_
  obtain ⟨r1,hr1,h⟩:=z05 h
  refine At.cA [] [.agg (cBatch p0)] (z7m hr1) (.cons (.refl _) .nil) ?_
  refine At.sg 1 [1,2,6] [2] (z00 1) ?_
  refine At.done rfl ?_
  refine Tri.sg [1,2,6,10] [2] (z00 2) ?_
  refine Tri.condK h (fun h => ?_) (fun h => ?_)
  ·refine Tri.sg [4,5] [] (z00 3) ?_
   refine Tri.keep [4,5] [] (s':=⟨[(4,.c (.zero)),(5,cD (dI r1))],[]⟩) (by kernel_rfl) ?_
   refine Tri.le [] (fun k hk=>by cases hk) ⟨[(4,cD (lD 6 z01 ([]:List Update))),(5,cD (dI r1))],[]⟩ ⟨⟨_,rfl,.c (.zero _ _)⟩,⟨_,rfl,.refl _⟩,trivial⟩ trivial ?_
   refine Tri.ret ?_
   cases h
   exact RetAt.k
  ·refine Tri.skip ?_
   refine Tri.seqS ?_
   refine Tri.reg ?_
   refine At.sg 3 [13,14] [] (z00 3) ?_
   obtain ⟨r2,hr2,h⟩:=z05 h
   refine At.cA [] [cD (lD 6 z01 p0.updates),cD (lD 3 z04 p1)] (zhc hr2) (.cons (.refl _) (.cons (.refl _) .nil)) ?_
   refine At.sg 2 [4,5] [] (z00 2) ?_
   refine At.done rfl ?_
   refine Tri.ret ?_
   cases h
   exact RetAt.k
end Go.Av
namespace Go.Av
open Go Go.Proofs
set_option linter.unusedVariables false
set_option linter.unusedSimpArgs false
theorem zcf {fuel:Nat} {p0:Batch} {p1:List Value} {q:Int × Int} (h:z47 fuel p0 p1=some q) :
    Summ Tryz.prog 34 [.agg (cBatch p0),cD (lD 3 z04 p1)] [] (.tup [(false,[.d (dI q.1)]),(false,[.d (dI q.2)])]) []:=by
  refine Summ.intro Tryz.func34 rfl (by kernel_rfl) (by kernel_rfl) [] rfl ?_
  rintro ⟨P,w0,G0,V,LL,lk,N, φ0,fx⟩ rfl rfl rfl rfl
  unfold z47 at h
  refine Tri.sg [1,2] [2] (z00 3) ?_
  refine Tri.seqS ?_
  refine Tri.seqS ?_
  refine Tri.reg ?_
  refine At.sg 1 [1,2,7] [2] (z00 1) ?_
  obtain ⟨r1,hr1,h⟩:=z05 h
  refine At.cA [] [.agg (cBatch p0)] (z87 hr1) (.cons (.refl _) .nil) ?_
  refine At.sg 1 [1,2,9] [2] (z00 1) ?_
  refine At.done rfl ?_
  refine Tri.condK h (fun h => ?_) (fun h => ?_)
  ·refine Tri.sg [4,5] [] (z00 2) ?_
   refine Tri.ret ?_
   cases h
   exact RetAt.k
  ·refine Tri.skip ?_
   refine Tri.sg [1,2,6] [2] (z00 1) ?_
   refine Tri.seqS ?_
   refine Tri.lK (0) (fun (x:Empty) s=>False) (fun (a2:Int)=>⟨[(1,cD (lD 3 z04 p1)),(2,.c (.ptr 2 0)),(6,cD (dI a2))],[(2,.box (cBatch p0))]⟩) [1,2,6] [2] h ?_ ?_ ?_
   ·intro a2 c h
    refine Tri.seqS ?_
    refine Tri.seqJ (fun (a4:Bool)=>⟨[(1,cD (lD 3 z04 p1)),(2,.c (.ptr 2 0)),(6,cD (dI a2)),(25,cD (.bool a4))],[(2,.box (cBatch p0))]⟩) h (fun a4 h => ?_) (fun j5 h => ?_)
    ·refine Tri.condK h (fun h => ?_) (fun h => ?_)
     ·refine Tri.skip ?_
      refine Tri.blockB ?_
      refine Tri.reg ?_
      refine At.sg 3 [1,2,6] [2] (z00 3) ?_
      refine At.done rfl ?_
      cases h
      exact kr
     ·refine Tri.kp [1,2,6] [2] ?_
      refine Tri.exit ?_
      cases h
      exact ⟨rfl,kr⟩
    ·refine Tri.reg ?_
     refine At.sg 6 [1,2,6,15] [2] (z00 6) ?_
     refine At.cs [15] h (fun h => ?_) (fun h => ?_)
     ·obtain ⟨hc6,h⟩:=z03 h
      refine At.sg 7 [1,2,6,15,21,22] [2] (tN 3 (ai hc6 (z00 3))) ?_
      obtain ⟨r7,hr7,h⟩:=z05 h
      refine At.cA [] [cD (lD 3 z04 ((p0.updates.getD a2.toNat default).key)),cD (lD 3 z04 p1)] (z5e hr7) (.cons (.refl _) (.cons (.refl _) .nil)) ?_
      refine At.sg 2 [1,2,6,25] [2] (z00 2) ?_
      refine At.done rfl ?_
      exact ⟨_,h,kr⟩
     ·refine At.sg 10 [1,2,6,25] [2] (z00 1) ?_
      refine At.done rfl ?_
      exact ⟨_,h,kr⟩
   ·intro a3 h
    refine Tri.sg [4,5] [] (z00 3) ?_
    refine Tri.ret ?_
    cases h
    exact RetAt.k
   · exact fun x=>x.elim
theorem zbx {fuel:Nat} {p0:Batch} {p1:List Value} {q:(List Update) × Int} (h:z3p fuel p0 p1=some q) :
    Summ Tryz.prog 36 [.agg (cBatch p0),cD (lD 3 z04 p1)] [] (.tup [(false,[.d (lD 6 z01 q.1)]),(false,[.d (dI q.2)])]) []:=by
  refine Summ.intro Tryz.func36 rfl (by kernel_rfl) (by kernel_rfl) [] rfl ?_
  rintro ⟨P,w0,G0,V,LL,lk,N, φ0,fx⟩ rfl rfl rfl rfl
  unfold z3p at h
  refine Tri.sg [1,2] [2] (z00 3) ?_
  refine Tri.seqS ?_
  refine Tri.seqS ?_
  refine Tri.reg ?_
  refine At.sg 1 [1,2,9] [2] (z00 1) ?_
  obtain ⟨r1,hr1,h⟩:=z05 h
  refine At.cA [] [.agg (cBatch p0)] (z87 hr1) (.cons (.refl _) .nil) ?_
  refine At.sg 1 [1,2,11] [2] (z00 1) ?_
  refine At.done rfl ?_
  refine Tri.condK h (fun h => ?_) (fun h => ?_)
  ·refine Tri.sg [4,5] [] (z00 2) ?_
   refine Tri.keep [4,5] [] (s':=⟨[(4,.c (.zero)),(5,cD (dI 4))],[]⟩) (by kernel_rfl) ?_
   refine Tri.le [] (fun k hk=>by cases hk) ⟨[(4,cD (lD 6 z01 ([]:List Update))),(5,cD (dI 4))],[]⟩ ⟨⟨_,rfl,.c (.zero _ _)⟩,⟨_,rfl,.refl _⟩,trivial⟩ trivial ?_
   refine Tri.ret ?_
   cases h
   exact RetAt.k
  ·refine Tri.skip ?_
   refine Tri.sg [1,2,6] [2] (z00 1) ?_
   refine Tri.seqS ?_
   refine Tri.segL [1,6,13,14,15] [] ⟨[(1,cD (lD 3 z04 p1)),(6,.c (.zero)),(13,cD (lD 6 z01 p0.updates)),(14,cD (dI (p0.updates.length:Int))),(15,cD (dI 0))],[]⟩ _ (by kernel_rfl) (z00 4) ?_
   refine Tri.ln 13 p0.updates.length fun hlena3 => ?_
   refine Tri.newOwn (t:=6) (k:=1006) (es:=6) (fun i=>z01 (([]:List Update).getD i default)) rfl rfl rfl ?_
   refine Tri.rK 15 ([]:List Update) (fun (x:Empty) s=>False) (fun (a3:List Update)=>⟨[(1,cD (lD 3 z04 p1)),(6,.c (oC 1006 6 a3)),(13,cD (lD 6 z01 p0.updates)),(14,cD (dI (p0.updates.length:Int)))],[(1006,vL 6 z01 a3)]⟩) [15,1,6,13,14] [1006] [16,15,1,6,13,14] [1006] [1,6,13,14] [1006] [15,1,6,13,14] [1006] h hlena3 ?_ ?_ ?_
   ·intro i2 a3 c hii2 h
    refine Tri.sg [1,6,8,13,14,15] [8,1006] (ai (show ((0:Int)≤((i2:Nat):Int)∧((i2:Nat):Int) < (p0.updates.length:Int)) from ⟨by omega,by omega⟩) (z00 3)) ?_
    refine Tri.seqS ?_
    refine Tri.reg ?_
    refine At.sg 3 [1,6,8,13,14,15,20,21] [8,1006] (z00 3) ?_
    obtain ⟨r6,hr6,h⟩:=z05 h
    refine At.cA [] [cD (lD 3 z04 ((p0.updates.getD i2 default).key)),cD (lD 3 z04 p1)] (z5e hr6) (.cons (.refl _) (.cons (.refl _) .nil)) ?_
    refine At.sg 1 [1,6,8,13,14,15,23] [8,1006] (z00 1) ?_
    refine At.done rfl ?_
    refine Tri.condK h (fun h => ?_) (fun h => ?_)
    ·refine Tri.reg ?_
     refine At.seg 2 [1,13,14,15,24,25] [1006] (s':=⟨[(1,cD (lD 3 z04 p1)),(13,cD (lD 6 z01 p0.updates)),(14,cD (dI (p0.updates.length:Int))),(15,cD (dI ((i2:Nat):Int))),(24,.c (oC 1006 6 a3)),(25,.agg (cUpdate (p0.updates.getD i2 default)))],[(1006,vL 6 z01 a3)]⟩) (by kernel_rfl) (z00 2) ?_
     refine At.one rfl (One.buildSlice (z:=[.zero,.zero,.d (dU 0),.d (dU 0),.d (dU 0),.d (dI 0)]) (cells:=[.d (lD 3 z04 ((p0.updates.getD i2 default).key)),.d (lD 3 z04 ((p0.updates.getD i2 default).row)),.d (dU ((p0.updates.getD i2 default).time.epoch)),.d (dU ((p0.updates.getD i2 default).time.loop.1)),.d (dU ((p0.updates.getD i2 default).time.loop.2)),.d (dI ((p0.updates.getD i2 default).diff))]) (xs:=List.map (z01) ([(p0.updates.getD i2 default)]:List Update)) rfl rfl rfl rfl (by kernel_rfl) rfl rfl (by kernel_rfl) rfl rfl rfl (by kernel_rfl) rfl ⟨⟨rfl,.refl _⟩,trivial⟩) ?_
     refine At.le [26] (fun k hk h=>by first | (cases h; done) | (simp at hk h; omega)) ⟨[(26,cD (lD 6 z01 ([(p0.updates.getD i2 default)]:List Update))),(1,cD (lD 3 z04 p1)),(13,cD (lD 6 z01 p0.updates)),(14,cD (dI (p0.updates.length:Int))),(15,cD (dI ((i2:Nat):Int))),(24,.c (oC 1006 6 a3)),(25,.agg (cUpdate (p0.updates.getD i2 default)))],[(1006,vL 6 z01 a3)]⟩ ⟨⟨_,rfl,.c (.own rfl (List.mem_singleton.2 rfl) (Nat.le_of_ble_eq_true rfl) rfl (z24 (z01) ([(p0.updates.getD i2 default)]:List Update)))⟩,⟨_,rfl,.refl _⟩,⟨_,rfl,.refl _⟩,⟨_,rfl,.refl _⟩,⟨_,rfl,.refl _⟩,⟨_,rfl,.refl _⟩,⟨_,rfl,.refl _⟩,trivial⟩ ⟨⟨_,rfl,.refl _,(by simp)⟩,trivial⟩ ?_
     obtain ⟨hc7,h⟩:=z03 h
     refine At.one rfl (One.appendT (e:=56) (es:=6) (z01) a3 ([(p0.updates.getD i2 default)]:List Update) rfl rfl rfl rfl rfl (.of 56 80 [.zero,.zero,.d (dU 0),.d (dU 0),.d (dU 0),.d (dI 0)] (by kernel_rfl) (by kernel_rfl) (by kernel_rfl) (by kernel_rfl) rfl (by kernel_rfl) rfl) rfl rfl rfl (.list rfl (fun _ _=>rfl)) hc7) ?_
     refine At.sg 1 [15,1,6,13,14] [1006] (z00 1) ?_
     refine At.done rfl ?_
     cases h
     exact kr
    ·refine Tri.kp [15,1,6,13,14] [1006] ?_
     refine Tri.skip ?_
     cases h
     exact kr
   ·intro a4 h
    refine Tri.seqS ?_
    refine Tri.reg ?_
    refine At.seg 1 [29] [1006] (s':=⟨[(29,.c (oC 1006 6 a4))],[(1006,vL 6 z01 a4)]⟩) (by kernel_rfl) (z00 1) ?_
    obtain ⟨r5,hr5,h⟩:=z05 h
    refine At.cA [] [.c (oC 1006 6 a4)] (zax hr5) (.cons (AVArg.view (z01) a4 rfl) .nil) ?_
    refine At.sg 2 [4,5] [] (z00 2) ?_
    refine At.done rfl ?_
    refine Tri.ret ?_
    cases h
    exact RetAt.k
   · exact fun x=>x.elim
theorem z9s {fuel:Nat} {p0:Batch} {p1:List Value} {q:Bool} (h:z3i fuel p0 p1=some q) :
    Summ Tryz.prog 9 [.agg (cBatch p0),cD (lD 3 z04 p1)] [] (cD (.bool q)) []:=by
  refine Summ.intro Tryz.func9 rfl (by kernel_rfl) (by kernel_rfl) [] rfl ?_
  rintro ⟨P,w0,G0,V,LL,lk,N, φ0,fx⟩ rfl rfl rfl rfl
  unfold z3i at h
  refine Tri.sg [1,2] [2] (z00 2) ?_
  refine Tri.seqS ?_
  refine Tri.reg ?_
  refine At.sg 2 [1,2,14,15] [2] (z00 2) ?_
  obtain ⟨r1,hr1,h⟩:=z05 h
  refine At.cA [] [.agg (cBatch p0),cD (lD 3 z04 p1)] (zha hr1) (.cons (.refl _) (.cons (.refl _) .nil)) ?_
  refine At.sg 5 [1,2,5,6] [2] (z00 5) ?_
  refine At.done rfl ?_
  refine Tri.seqS ?_
  refine Tri.reg ?_
  refine At.sg 2 [1,2,5,6,20,21] [2] (z00 2) ?_
  obtain ⟨r2,hr2,h⟩:=z05 h
  refine At.cA [] [.agg (cBatch p0),cD (lD 3 z04 p1)] (zcf hr2) (.cons (.refl _) (.cons (.refl _) .nil)) ?_
  refine At.sg 5 [1,2,5,6,7,8] [2] (z00 5) ?_
  refine At.done rfl ?_
  refine Tri.seqS ?_
  refine Tri.reg ?_
  refine At.sg 2 [1,2,5,6,7,8,26,27] [2] (z00 2) ?_
  obtain ⟨r3,hr3,h⟩:=z05 h
  refine At.cA [] [.agg (cBatch p0),cD (lD 3 z04 p1)] (zg6 hr3) (.cons (.refl _) (.cons (.refl _) .nil)) ?_
  refine At.sg 5 [1,2,5,6,7,8,9,10] [2] (z00 5) ?_
  refine At.done rfl ?_
  refine Tri.seqS ?_
  refine Tri.reg ?_
  refine At.sg 2 [5,6,7,8,9,10,32,33] [] (z00 2) ?_
  obtain ⟨r4,hr4,h⟩:=z05 h
  refine At.cA [] [.agg (cBatch p0),cD (lD 3 z04 p1)] (zbx hr4) (.cons (.refl _) (.cons (.refl _) .nil)) ?_
  refine At.sg 5 [5,6,7,8,9,10,11,12] [] (z00 5) ?_
  refine At.done rfl ?_
  refine Tri.seqJ (fun (a5:Bool)=>⟨[(4,cD (.bool a5))],[]⟩) h (fun a5 h => ?_) (fun j6 h => ?_)
  ·refine Tri.ret ?_
   cases h
   exact RetAt.k
  ·refine Tri.reg ?_
   obtain ⟨r7,hr7,h⟩:=z05 h
   refine At.cA [] [] (zbt hr7) .nil ?_
   refine At.sg 1 [5,6,7,8,9,10,11,12,38] [] (z00 1) ?_
   refine At.cs [38] h (fun h => ?_) (fun h => ?_)
   ·refine At.sg 5 [6,8,9,10,11,12,43] [] (z00 5) ?_
    refine At.cs [43] h (fun h => ?_) (fun h => ?_)
    ·refine At.sg 5 [9,10,11,12,48] [] (z00 5) ?_
     refine At.cs [48] h (fun h => ?_) (fun h => ?_)
     ·refine At.sg 2 [10,12,48,49,50] [] (z00 2) ?_
      obtain ⟨r8,hr8,h⟩:=z05 h
      refine At.cA [] [cD (lD 6 z01 r3.1),cD (lD 6 z01 r4.1)] (zcw hr8) (.cons (.refl _) (.cons (.refl _) .nil)) ?_
      refine At.sg 2 [10,12,53] [] (z00 2) ?_
      refine At.cs [53] h (fun h => ?_) (fun h => ?_)
      ·refine At.sg 5 [4] [] (z00 5) ?_
       refine At.done rfl ?_
       exact ⟨_,h,kr⟩
      ·refine At.sg 5 [4] [] (z00 2) ?_
       refine At.done rfl ?_
       exact ⟨_,h,kr⟩
     ·refine At.sg 10 [4] [] (z00 4) ?_
      refine At.done rfl ?_
      exact ⟨_,h,kr⟩
    ·refine At.sg 15 [4] [] (z00 6) ?_
     refine At.done rfl ?_
     exact ⟨_,h,kr⟩
   ·refine At.sg 20 [4] [] (z00 8) ?_
    refine At.done rfl ?_
    exact ⟨_,h,kr⟩
end Go.Av
namespace Go.Av
open Go Go.Proofs
set_option linter.unusedVariables false
set_option linter.unusedSimpArgs false
def zbw (x:Time):Prop:=(okInt .u64) x.epoch∧(fun p=>(okInt .u64) p.1∧(okInt .u64) p.2) x.loop∧True
def z7b (x:Time):Nat:=((fun _=>1) x.epoch + ((fun p=>(fun _=>1) p.1 + (fun _=>1) p.2 + 1) x.loop + 0)) + 1
def z9x (x:Value):Prop:=(fun _=>True) x.isText∧(okInt .i64) x.n∧(fun s=>s.size≤maxN) x.s∧True
def z5i (x:Value):Nat:=((fun _=>1) x.isText + ((fun _=>1) x.n + ((fun s=>s.size + 1) x.s + 0))) + 1
def zcp (x:Update):Prop:=(fun xs=>xs.length≤maxN∧∀ x ∈ xs,(z9x) x) x.key∧(fun xs=>xs.length≤maxN∧∀ x ∈ xs,(z9x) x) x.row∧(zbw) x.time∧(okInt .i64) x.diff∧True
def z42 (x:Update):Nat:=((fun xs=>(xs.map (z5i)).sum + 1) x.key + ((fun xs=>(xs.map (z5i)).sum + 1) x.row + ((z7b) x.time + ((fun _=>1) x.diff + 0)))) + 1
def zja (x:Batch):Prop:=(fun xs=>xs.length≤maxN∧∀ x ∈ xs,(zbw) x) x.since∧(fun xs=>xs.length≤maxN∧∀ x ∈ xs,(zcp) x) x.updates∧True
def zb1 (x:Batch):Nat:=((fun xs=>(xs.map (z7b)).sum + 1) x.since + ((fun xs=>(xs.map (z42)).sum + 1) x.updates + 0)) + 1
def okWide (x:Wide):Prop:=(okInt .i64) x.high∧(okInt .u64) x.low∧True
theorem zgt {H:Type} {enc:TypeId × Go.Value→H} {W:World} {Z:TypeId→DataW H→Prop} {B:DataW H→Nat} (hZ:Fine Tryz.prog Z) (hB:BulkOk B):Reads enc Tryz.prog W Z B 54 z02 zbw z7b:=fun n=>by
 have h:=z14.struct (n:=n) (enc:=enc) (W:=W) (tot:=3) hZ hB Tryz.underlying54 (by kernel_rfl) (fun m _=>(z3j.cons (k:=1) (z14.int hB Tryz.underlying51) rfl (by kernel_rfl) (z3j.cons (k:=2) (z14.pair hZ hB Tryz.underlying52 (k:=1) (by kernel_rfl) (by kernel_rfl) (fun m _=>(z14.int hB Tryz.underlying51))) rfl (by kernel_rfl) (z3j.nil (off:=3)))))
 exact h.map (fun (p:Int × (Int × Int) × Unit)=>(⟨p.1,p.2.1⟩:Time)) (fun _ _=>rfl) (fun _ h=>h) (fun _ _=>Nat.le_refl _)
theorem zco {H:Type} {enc:TypeId × Go.Value→H} {W:World} {Z:TypeId→DataW H→Prop} {B:DataW H→Nat} (hZ:Fine Tryz.prog Z) (hB:BulkOk B):Reads enc Tryz.prog W Z B 58 z04 z9x z5i:=fun n=>by
 have h:=z14.struct (n:=n) (enc:=enc) (W:=W) (tot:=3) hZ hB Tryz.underlying58 (by kernel_rfl) (fun m _=>(z3j.cons (k:=1) (z14.bool hB Tryz.underlying4) rfl (by kernel_rfl) (z3j.cons (k:=1) (z14.int hB Tryz.underlying2) rfl (by kernel_rfl) (z3j.cons (k:=1) (z14.string hZ hB Tryz.underlying9) rfl (by kernel_rfl) (z3j.nil (off:=3))))))
 exact h.map (fun (p:Bool × Int × ByteArray × Unit)=>(⟨p.1,p.2.1,p.2.2.1⟩:Value)) (fun _ _=>rfl) (fun _ h=>h) (fun _ _=>Nat.le_refl _)
theorem zio {H:Type} {enc:TypeId × Go.Value→H} {W:World} {Z:TypeId→DataW H→Prop} {B:DataW H→Nat} (hZ:Fine Tryz.prog Z) (hB:BulkOk B):Reads enc Tryz.prog W Z B 56 z01 zcp z42:=fun n=>by
 have h:=z14.struct (n:=n) (enc:=enc) (W:=W) (tot:=6) hZ hB Tryz.underlying56 (by kernel_rfl) (fun m _=>(z3j.cons (k:=1) (z14.slice (es:=3) (e:=z04) (ok:=z9x) (bulk:=z5i) hZ hB Tryz.underlying50 (by kernel_rfl) (by kernel_rfl) rfl (fun _ _=>rfl) (fun m _=>(zco hZ hB m))) rfl (by kernel_rfl) (z3j.cons (k:=1) (z14.slice (es:=3) (e:=z04) (ok:=z9x) (bulk:=z5i) hZ hB Tryz.underlying50 (by kernel_rfl) (by kernel_rfl) rfl (fun _ _=>rfl) (fun m _=>(zco hZ hB m))) rfl (by kernel_rfl) (z3j.cons (k:=3) (zgt hZ hB m) rfl (by kernel_rfl) (z3j.cons (k:=1) (z14.int hB Tryz.underlying2) rfl (by kernel_rfl) (z3j.nil (off:=6)))))))
 exact h.map (fun (p:(List Value) × (List Value) × Time × Int × Unit)=>(⟨p.1,p.2.1,p.2.2.1,p.2.2.2.1⟩:Update)) (fun _ _=>rfl) (fun _ h=>h) (fun _ _=>Nat.le_refl _)
theorem zjp {H:Type} {enc:TypeId × Go.Value→H} {W:World} {Z:TypeId→DataW H→Prop} {B:DataW H→Nat} (hZ:Fine Tryz.prog Z) (hB:BulkOk B):Reads enc Tryz.prog W Z B 26 zlq zja zb1:=fun n=>by
 have h:=z14.struct (n:=n) (enc:=enc) (W:=W) (tot:=2) hZ hB Tryz.underlying26 (by kernel_rfl) (fun m _=>(z3j.cons (k:=1) (z14.slice (es:=3) (e:=z02) (ok:=zbw) (bulk:=z7b) hZ hB Tryz.underlying22 (by kernel_rfl) (by kernel_rfl) rfl (fun _ _=>rfl) (fun m _=>(zgt hZ hB m))) rfl (by kernel_rfl) (z3j.cons (k:=1) (z14.slice (es:=6) (e:=z01) (ok:=zcp) (bulk:=z42) hZ hB Tryz.underlying24 (by kernel_rfl) (by kernel_rfl) rfl (fun _ _=>rfl) (fun m _=>(zio hZ hB m))) rfl (by kernel_rfl) (z3j.nil (off:=2)))))
 exact h.map (fun (p:(List Time) × (List Update) × Unit)=>(⟨p.1,p.2.1⟩:Batch)) (fun _ _=>rfl) (fun _ h=>h) (fun _ _=>Nat.le_refl _)
end Go.Av
/-
 Av,part V: of loops,without any program.
-/
namespace Go.Av
set_option linter.unusedVariables false
set_option linter.unusedSimpArgs false
section
variable {S R Q A X:Type}
theorem        zcm {B : Nat → S → Option (Ctl S R)} {n : Nat} (I : Nat → S → Prop) {s : S} (h0 : I 0 s) (hs : ∀ i s, i < n → I i s → ∃ s', B i s = some (.next s') ∧ I (i + 1) s') :
    ∃ s',    z07 B n 0 s = some (.done s') ∧ I n s' := by
  have key : ∀ k i s, i + k = n → I i s → ∃ s',    z07 B k i s = some (.done s') ∧ I n s' := by
    intro k
    induction k with
    | zero => intro i s hi h; exact ⟨s, rfl, by have : i = n := by omega
                                                subst this; exact h⟩
    | succ k ih =>
      intro i s hi h
      obtain ⟨s', h1, h2⟩ := hs i s (by omega) h
      obtain ⟨s2, h3, h4⟩ := ih (i + 1) s' (by omega) h2
      exact ⟨s2, by simp only [   z07, h1, h3], h4⟩
  exact key n 0 s (by omega) h0
theorem z4p {B:Nat→S→Option (Ctl S R)} {n:Nat} {s:S} (r:S) (I:Nat→S→Prop) (hr:∀ s,I n s→s=r) (hs:∀ i s,i < n→I i s→∃ s',B i s=some (.next s')∧I (i + 1) s') (h0:I 0 s) :
  z07 B n 0 s=some (.done r):=by
 obtain ⟨s',h1,h2⟩:=zcm I h0 hs
 rw [h1,hr s' h2]
theorem         zit {B : Nat → S → Option (Ctl S R)} {n : Nat} (I : Nat → S → Prop) (D : S → Prop) (J : R → Prop) {s : S} (h0 : I 0 s)
    (hs : ∀ i s, i < n → I i s → (∃ s', B i s = some (.next s') ∧ I (i + 1) s') ∨ (∃ s', B i s = some (.brk s') ∧ D s') ∨ ∃ r, B i s = some (.ret r) ∧ J r) (hD : ∀ s, I n s → D s) :
    (∃ s',    z07 B n 0 s = some (.done s') ∧ D s') ∨ ∃ r,    z07 B n 0 s = some (.ret r) ∧ J r := by
  have key : ∀ k i s, i + k = n → I i s → (∃ s',    z07 B k i s = some (.done s') ∧ D s') ∨ ∃ r,    z07 B k i s = some (.ret r) ∧ J r := by
    intro k
    induction k with
    | zero => intro i s hi h; exact .inl ⟨s, rfl, by have : i = n := by omega
                                                     subst this; exact hD s h⟩
    | succ k ih =>
      intro i s hi h
      rcases hs i s (by omega) h with ⟨s', h1, h2⟩ | ⟨s', h1, h2⟩ | ⟨r, h1, h2⟩
      · rcases ih (i + 1) s' (by omega) h2 with ⟨s2, h3, h4⟩ | ⟨r, h3, h4⟩
        · exact .inl ⟨s2, by simp only [   z07, h1, h3], h4⟩
        · exact .inr ⟨r, by simp only [   z07, h1, h3], h4⟩
      · exact .inl ⟨s', by simp only [   z07, h1], h2⟩
      · exact .inr ⟨r, by simp only [   z07, h1], h2⟩
  exact key n 0 s (by omega) h0
theorem z4f [Inhabited X] {l:List X} {i:Nat} (h:i < l.length):l.take (i + 1)=l.take i++[l.getD i default]:=by
 rw [List.take_add_one,List.getElem?_eq_getElem h,List.getD_eq_getElem?_getD,List.getElem?_eq_getElem h]
 rfl
theorem z5h [Inhabited X] {l:List X} {i:Nat} (h:i < l.length):l.getD i default ∈ l:=by
 rw [List.getD_eq_getElem?_getD,List.getElem?_eq_getElem h]
 exact List.getElem_mem h
theorem zic [Inhabited X] {B:Nat→S→Option (Ctl S R)} {l:List X} (f:S→X→S) {s:S} (hB:∀ i a,i < l.length→B i a=some (.next (f a (l.getD i default)))) :
  z07 B l.length 0 s=some (.done (l.foldl f s)):=by
 obtain ⟨s',h1,h2⟩:=zcm (B:=B) (n:=l.length) (fun i a=>a=(l.take i).foldl f s) (s:=s) rfl fun i a hi ha=>⟨_,hB i a hi,by rw [z4f hi,List.foldl_append,← ha]; rfl⟩
 rw [h1,h2,List.take_length]
@[simp] theorem z2o {s:S} {kn:S→Option Q} {kr:R→Option Q}:outK (some (.done s)) kn kr=kn s:=rfl
@[simp] theorem zn1 {r:R} {kn:S→Option Q} {kr:R→Option Q}:outK (some (.ret r)) kn kr=kr r:=rfl
@[simp] theorem z6o {x y:Option Q}:bf true x y=x:=rfl
@[simp] theorem z0y {x y:Option Q}:bf false x y=y:=rfl
theorem z06 {c:Prop} [Decidable c] {k:Option Q} (h:c):need c k=k:=by unfold need; rw [if_pos h]
@[simp] theorem jn_eq {j:A→Option Q} {k:(A→Option Q)→Option Q}:jn j k=k j:=rfl
@[simp] theorem z08 {p:Prop} [Decidable p] {x y:Option Q}:bf (decide p) x y=if p then x else y:=by by_cases h:p <;> simp [h,bf]
@[simp] theorem z7d {b:Bool} {x y:Option Q}:bf (!b) x y=bf b y x:=by cases b <;> rfl
end
end Go.Av
/-
 Orders,as comparisons with three answers: without any program.
-/
namespace Go.Av
open Go
set_option linter.unusedVariables false
set_option linter.unusedSimpArgs false
structure IsCmp {α:Type} (c : α → α → Int):Prop where
 vals:∀ a b,c a b = -1∨c a b=0∨c a b=1
 anti:∀ a b,c b a = - c a b
 tr:∀ a b d,c a b≤0→c b d≤0→c a d≤0
namespace IsCmp
variable {α β:Type} {c : α → α → Int}
theorem refl (h:IsCmp c) (a : α):c a a=0:=by have:=h.anti a a; omega
theorem lt_tr (h:IsCmp c) {a b d : α} (h1:c a b < 0) (h2:c b d≤0):c a d < 0:=by
 have:=h.tr a b d (by omega) h2
 rcases h.vals a d with g | g | g
 ·omega
 ·have g1:=h.anti a d
  have g2:=h.tr b d a h2 (by omega)
  have g3:=h.anti a b
  omega
 ·omega
theorem le_lt (h:IsCmp c) {a b d : α} (h1:c a b≤0) (h2:c b d < 0):c a d < 0:=by
 have:=h.tr a b d h1 (by omega)
 rcases h.vals a d with g | g | g
 ·omega
 ·have g1:=h.anti a d
  have g2:=h.tr d a b (by omega) h1
  have g3:=h.anti b d
  omega
 ·omega
theorem eqL (h:IsCmp c) {a b : α} (d : α) (h1:c a b=0):c a d=c b d:=by
 have h2:=h.anti a b
 have t1:=h.tr a b d (by omega)
 have t2:=h.tr b a d (by omega)
 have t3:=h.tr d a b
 have t4:=h.tr d b a
 have a1:=h.anti a d
 have a2:=h.anti b d
 rcases h.vals a d with g | g | g <;> rcases h.vals b d with k | k | k <;> omega
theorem eqR (h:IsCmp c) {a b : α} (d : α) (h1:c a b=0):c d a=c d b:=by
 have:=h.eqL d h1
 have a1:=h.anti a d
 have a2:=h.anti b d
 omega
theorem on (h:IsCmp c) (f : β → α):IsCmp fun x y=>c (f x) (f y):=⟨fun a b=>h.vals _ _,fun a b=>h.anti _ _,fun a b d=>h.tr _ _ _⟩
end IsCmp
def cmpZ (a b:Int):Int:=if a < b then -1 else if b < a then 1 else 0
theorem z8y:IsCmp cmpZ where
 vals a b:=by unfold cmpZ; split <;> (try split) <;> simp
 anti a b:=by unfold cmpZ; split <;> (try split) <;> (try split) <;> (try split) <;> omega
 tr a b d:=by unfold cmpZ; split <;> (try split) <;> (try split) <;> (try split) <;> (try split) <;> (try split) <;> omega
theorem zkq {a b:Int}:cmpZ a b=0↔a=b:=by unfold cmpZ; split <;> (try split) <;> omega
def thenC (u v:Int):Int:=if u=0 then v else u
theorem IsCmp.lex {α:Type} {c d : α → α → Int} (hc:IsCmp c) (hd:IsCmp d):IsCmp fun a b=>thenC (c a b) (d a b) where
 vals a b:=by
  unfold thenC
  split
  ·exact hd.vals a b
  ·exact hc.vals a b
 anti a b:=by
  have h1:=hc.anti a b
  have h2:=hd.anti a b
  unfold thenC
  split <;> split <;> omega
 tr a b e h1 h2:=by
  unfold thenC at *
  by_cases g1:c a b=0 <;> by_cases g2:c b e=0
  ·have:=hc.eqL e g1
   rw [if_pos g1] at h1; rw [if_pos g2] at h2; rw [if_pos (by omega)]
   exact hd.tr a b e h1 h2
  ·have:=hc.eqL e g1
   rw [if_neg g2] at h2; rw [if_neg (by omega)]; omega
  ·have:=hc.eqR a g2
   rw [if_neg g1] at h1; rw [if_neg (by omega)]; omega
  ·rw [if_neg g1] at h1; rw [if_neg g2] at h2
   have:=hc.lt_tr (a:=a) (b:=b) (d:=e) (by omega) h2
   rw [if_neg (by omega)]; omega
def cmpL {α:Type} (c : α → α → Int):List α → List α → Int
 | [],[]=>0
 | [],_ :: _ => -1
 | _ :: _,[]=>1
 | a :: x,b :: y=>thenC (c a b) (cmpL c x y)
theorem IsCmp.list {α:Type} {c : α → α → Int} (h:IsCmp c):IsCmp (cmpL c) where
 vals:=by
  intro a
  induction a with
  | nil=>intro b; cases b <;> simp [cmpL]
  | cons x a ih =>
   intro b
   cases b with
   | nil=>simp [cmpL]
   | cons y b =>
    simp only [cmpL,thenC]
    split
    ·exact ih b
    ·exact h.vals x y
 anti:=by
  intro a
  induction a with
  | nil=>intro b; cases b <;> simp [cmpL]
  | cons x a ih =>
   intro b
   cases b with
   | nil=>simp [cmpL]
   | cons y b =>
    have h1:=h.anti x y
    have h2:=ih b
    simp only [cmpL,thenC]
    split <;> split <;> omega
 tr:=by
  intro a
  induction a with
  | nil=>intro b d _ _; cases d <;> simp [cmpL]
  | cons x a ih =>
   intro b d h1 h2
   cases b with
   | nil=>simp [cmpL] at h1
   | cons y b =>
    cases d with
    | nil=>simp [cmpL] at h2
    | cons z d =>
     simp only [cmpL] at *
     unfold thenC at *
     by_cases g1:c x y=0 <;> by_cases g2:c y z=0
     ·have:=h.eqL z g1
      rw [if_pos g1] at h1; rw [if_pos g2] at h2; rw [if_pos (by omega)]
      exact ih b d h1 h2
     ·have:=h.eqL z g1
      rw [if_neg g2] at h2; rw [if_neg (by omega)]; omega
     ·have:=h.eqR x g2
      rw [if_neg g1] at h1; rw [if_neg (by omega)]; omega
     ·rw [if_neg g1] at h1; rw [if_neg g2] at h2
      have:=h.lt_tr (a:=x) (b:=y) (d:=z) (by omega) h2
      rw [if_neg (by omega)]; omega
def cmpU8 (a b:UInt8):Int:=cmpZ (a.toNat:Int) (b.toNat:Int)
theorem zl6:IsCmp cmpU8:=z8y.on fun a:UInt8=>(a.toNat:Int)
theorem zd4:∀ x y:List UInt8,Op.bytesLess x y=decide (cmpL cmpU8 x y < 0)
 | [],[]=>by simp [Op.bytesLess,cmpL]
 | [],_ :: _=>by simp [Op.bytesLess,cmpL]
 | _ :: _,[]=>by simp [Op.bytesLess,cmpL]
 | a :: x,b :: y=>by
  rw [Op.bytesLess,zd4 x y,cmpL]
  have e1:(a < b)↔(a.toNat:Int) < (b.toNat:Int):=by rw [UInt8.lt_iff_toNat_lt]; omega
  have e2:(a=b)↔(a.toNat:Int)=(b.toNat:Int):=by rw [← UInt8.toNat_inj]; omega
  unfold cmpU8 thenC cmpZ
  rw [Bool.eq_iff_iff]
  simp only [Bool.or_eq_true,Bool.and_eq_true,decide_eq_true_eq,beq_iff_eq,e1,e2]
  by_cases h1:(a.toNat:Int) < (b.toNat:Int)
  ·simp [h1]
  ·by_cases h2:(b.toNat:Int) < (a.toNat:Int)
   ·simp [h1,h2]; omega
   ·have:(a.toNat:Int)=(b.toNat:Int):=by omega
    simp [this]
theorem zed:∀ x y:List UInt8,(x == y)=decide (cmpL cmpU8 x y=0)
 | [],[]=>by simp [cmpL]
 | [],_ :: _=>by simp [cmpL]
 | _ :: _,[]=>by simp [cmpL]
 | a :: x,b :: y=>by
  rw [List.cons_beq_cons,zed x y,cmpL]
  have e2:(a=b)↔(a.toNat:Int)=(b.toNat:Int):=by rw [← UInt8.toNat_inj]; omega
  have e3:cmpU8 a b=0↔(a.toNat:Int)=(b.toNat:Int):=zkq
  unfold thenC
  rw [Bool.eq_iff_iff]
  simp only [Bool.and_eq_true,decide_eq_true_eq,beq_iff_eq,e2]
  by_cases h:cmpU8 a b=0
  ·rw [if_pos h]; simp [e3.1 h]
  ·rw [if_neg h]
   constructor
   ·rintro ⟨g,_⟩; exact absurd (e3.2 g) h
   ·intro g; exact absurd g h
def cmpS (a b:ByteArray):Int:=cmpL cmpU8 a.toList b.toList
theorem zc4:IsCmp cmpS:=zl6.list.on fun a:ByteArray=>a.toList
theorem zdr (a b:ByteArray):strLt a b=decide (cmpS a b < 0):=zd4 _ _
theorem zki (a b:ByteArray):strEq a b=decide (cmpS a b=0):=zed _ _
theorem zjn (a:ByteArray):strEq a a=true:=by unfold strEq; simp
theorem zh0 {a b:ByteArray} (h:a.toList=b.toList):a=b:=by
 rw [ByteArray.toList_eq,ByteArray.toList_eq] at h
 cases a; cases b
 simp at h
 simp [h]
theorem zjz {a b:ByteArray}:strEq a b=true↔a=b:=by
 unfold strEq
 rw [beq_iff_eq]
 exact ⟨zh0,fun h=>by rw [h]⟩
theorem z29 {α:Type} [Inhabited α] {l:List α} {i:Nat} (h:i < l.length):l.drop i=l.getD i default :: l.drop (i + 1):=by
 rw [List.drop_eq_getElem_cons h,List.getD_eq_getElem?_getD,List.getElem?_eq_getElem h]; rfl
theorem zmi {α:Type} [Inhabited α] {c : α → α → Int} {p0 p1:List α} {B:Nat→Unit→Option (Ctl Unit Int)} {kn:Unit→Option Int}
  (hB:∀ i,i < p0.length→B i ()=if p1.length≤i then some (.ret 1) else if c (p0.getD i default) (p1.getD i default)=0 then some (.next ()) else some (.ret (c (p0.getD i default) (p1.getD i default))))
  (hk:kn ()=some (if p0.length < p1.length then -1 else 0)):outK (z07 B p0.length 0 ()) kn (fun x=>some x)=some (cmpL c p0 p1):=by
 have key:∀ k i,i + k=p0.length→i≤p1.length→outK (z07 B k i ()) kn (fun x=>some x)=some (cmpL c (p0.drop i) (p1.drop i)):=by
  intro k
  induction k with
  | zero =>
   intro i hi hle
   simp only [z07,z2o,hk]
   rw [List.drop_eq_nil_of_le (by omega:p0.length≤i)]
   by_cases h:p0.length < p1.length
   ·rw [if_pos h,z29 (by omega:i < p1.length)]; rfl
   ·rw [if_neg h,List.drop_eq_nil_of_le (by omega:p1.length≤i)]; rfl
  | succ k ih =>
   intro i hi hle
   simp only [z07,hB i (by omega)]
   rw [z29 (by omega:i < p0.length)]
   by_cases h:p1.length≤i
   ·rw [if_pos h,List.drop_eq_nil_of_le (by omega:p1.length≤i)]; rfl
   ·rw [if_neg h,z29 (by omega:i < p1.length)]
    simp only [cmpL,thenC]
    by_cases h0:c (p0.getD i default) (p1.getD i default)=0
    ·rw [if_pos h0,if_pos h0]; exact ih (i + 1) (by omega) (by omega)
    ·rw [if_neg h0,if_neg h0]; rfl
 exact key p0.length 0 (by omega) (by omega)
theorem zla {α:Type} [Inhabited α] {c : α → α → Int} {p0 p1:List α} {B:Int→Option (Ctl Int Int)} {kn:Int→Option Int} {fuel:Nat} (hf:p0.length < fuel)
  (hB:∀ i:Nat,i≤p0.length→i≤p1.length→B (i:Int)=if i < p0.length∧i < p1.length then (if c (p0.getD i default) (p1.getD i default)=0 then some (.next ((i + 1:Nat):Int)) else some (.ret (c (p0.getD i default) (p1.getD i default)))) else some (.brk (i:Int)))
  (hk:∀ i,kn i=some (if p0.length < p1.length then -1 else if p1.length < p0.length then 1 else 0)):outK (loopN B fuel 0) kn (fun x=>some x)=some (cmpL c p0 p1):=by
 have key:∀ k i fuel,i + k=p0.length→i≤p1.length→k < fuel→outK (loopN B fuel (i:Int)) kn (fun x=>some x)=some (cmpL c (p0.drop i) (p1.drop i)):=by
  intro k
  induction k with
  | zero =>
   intro i fuel hi hle hf
   cases fuel with
   | zero=>omega
   | succ fuel =>
    simp only [loopN,hB i (by omega) hle]
    rw [if_neg (by omega)]
    simp only [z2o,hk]
    rw [List.drop_eq_nil_of_le (by omega:p0.length≤i)]
    by_cases h:p0.length < p1.length
    ·rw [if_pos h,z29 (by omega:i < p1.length)]; rfl
    ·rw [if_neg h,if_neg (by omega),List.drop_eq_nil_of_le (by omega:p1.length≤i)]; rfl
  | succ k ih =>
   intro i fuel hi hle hf
   cases fuel with
   | zero=>omega
   | succ fuel =>
    simp only [loopN,hB i (by omega) hle]
    rw [z29 (by omega:i < p0.length)]
    by_cases h:i < p1.length
    ·rw [if_pos ⟨by omega,h⟩,z29 (by omega:i < p1.length)]
     simp only [cmpL,thenC]
     by_cases h0:c (p0.getD i default) (p1.getD i default)=0
     ·rw [if_pos h0,if_pos h0]
      exact ih (i + 1) fuel (by omega) (by omega) (by omega)
     ·rw [if_neg h0,if_neg h0]; rfl
    ·rw [if_neg (by omega),List.drop_eq_nil_of_le (by omega:p1.length≤i)]
     simp only [z2o,hk]
     rw [if_neg (by omega),if_pos (by omega)]; rfl
 exact key p0.length 0 fuel (by omega) (by omega) hf
theorem zih {S R:Type} {B:S→Option (Ctl S R)} (f:Nat→S) {n fuel:Nat} {z:S} (hf:n < fuel) (hs:∀ i,i < n→B (f i)=some (.next (f (i + 1)))) (he:B (f n)=some (.brk z)):loopN B fuel (f 0)=some (.done z):=by
 have key:∀ k i fuel,i + k=n→k < fuel→loopN B fuel (f i)=some (.done z):=by
  intro k
  induction k with
  | zero =>
   intro i fuel hi hf
   have:i=n:=by omega
   subst this
   cases fuel with
   | zero=>omega
   | succ fuel=>simp only [loopN,he]
  | succ k ih =>
   intro i fuel hi hf
   cases fuel with
   | zero=>omega
   | succ fuel=>simp only [loopN,hs i (by omega)]; exact ih (i + 1) fuel (by omega) (by omega)
 exact key n 0 fuel (by omega) hf
end Go.Av
/-
 Numbers and bits: without any program.
-/
namespace Go.Av
open Go
set_option linter.unusedVariables false
set_option linter.unusedSimpArgs false
theorem zcl (n:Int):IntKind.u64.wrap n=n % 18446744073709551616:=by simp [IntKind.wrap,IntKind.bits,IntKind.signed]
theorem zlr (n:Int):IntKind.i64.wrap n=if n % 18446744073709551616 ≥ 9223372036854775808 then n % 18446744073709551616 - 18446744073709551616 else n % 18446744073709551616:=by
 simp [IntKind.wrap,IntKind.bits,IntKind.signed]
def in64 (x:Int):Prop := -9223372036854775808≤x∧x < 9223372036854775808
theorem z7w {x:Int} (h:in64 x):IntKind.i64.wrap x=x:=by
 unfold in64 at h
 rw [zlr]
 split <;> omega
theorem zbm (k:IntKind) (n m:Nat) (hm:m≤k.bits):shrOp k (n:Int) (m:Int)=((n / 2 ^ m:Nat):Int):=by
 unfold shrOp
 rw [Int.toNat_natCast,Nat.min_eq_left hm,Int.fdiv_eq_ediv_of_nonneg _ (by exact Int.le_of_lt (Int.pow_pos (by decide)))]
 push_cast
 rfl
theorem z92 {w:Nat} (n:Nat) (h:n < 2 ^ w):(BitVec.ofInt w (n:Int)).toNat=n:=by
 rw [BitVec.toNat_ofInt]
 have e:((n:Int) % ((2 ^ w:Nat):Int))=(n:Int):=Int.emod_eq_of_lt (by omega) (by exact_mod_cast h)
 rw [e,Int.toNat_natCast]
theorem uwrap {k:IntKind} (hs:k.signed=false) {n:Nat} (h:n < 2 ^ k.bits):k.wrap (n:Int)=(n:Int):=by
 unfold IntKind.wrap
 simp only [hs,Bool.false_and,Bool.false_eq_true,if_false]
 have:((2:Int) ^ k.bits)=((2 ^ k.bits:Nat):Int):=by push_cast; rfl
 rw [this]
 exact Int.emod_eq_of_lt (by omega) (by exact_mod_cast h)
theorem zge {k:IntKind} (hs:k.signed=false) {x y:Nat} (hx:x < 2 ^ k.bits) (hy:y < 2 ^ k.bits):z0j .xor k (x:Int) (y:Int)=((x ^^^ y:Nat):Int):=by
 unfold z0j
 simp only
 rw [BitVec.toNat_xor,z92 x hx,z92 y hy,uwrap hs (Nat.xor_lt_two_pow hx hy)]
theorem zly {k:IntKind} (hs:k.signed=false) {x y:Nat} (hx:x < 2 ^ k.bits) (hy:y < 2 ^ k.bits):z0j .and k (x:Int) (y:Int)=((x &&& y:Nat):Int):=by
 unfold z0j
 simp only
 rw [BitVec.toNat_and,z92 x hx,z92 y hy,uwrap hs (Nat.and_lt_two_pow x hy)]
theorem zg5 {k:IntKind} (n m:Nat) (hm:m≤k.bits):shlOp k (n:Int) (m:Int)=k.wrap ((n * 2 ^ m:Nat):Int):=by
 unfold shlOp
 rw [Int.toNat_natCast,Nat.min_eq_left hm]
 push_cast
 rfl
end Go.Av
namespace Go.Av
open Go
set_option linter.unusedVariables false
set_option linter.unusedSimpArgs false
section
variable {α:Type} {c : α → α → Int}
def sm (c : α → α → Int):List (α × Int) → α → Int
 | [],_=>0
 | p :: l,y=>(if c y p.1=0 then p.2 else 0) + sm c l y
structure SS (c : α → α → Int) (l S:List (α × Int)):Prop where
 strict:S.Pairwise fun a b=>c a.1 b.1 < 0
 sum:∀ p ∈ S,p.2=sm c l p.1
 mem:∀ p ∈ S,∃ y ∈ l,y.1=p.1
 all:∀ y ∈ l,∃ p ∈ S,c p.1 y.1=0
def Fits (c : α → α → Int) (l:List (α × Int)):Prop := ∀ y,in64 (sm c l y)
structure Res (c : α → α → Int) (num : α → Int) (put : α → Int → α) (l:List (α × Int)) (R:List α):Prop where
 strict:R.Pairwise fun a b=>c a b < 0
 sum:∀ r ∈ R,num r=sm c l r∧num r ≠ 0
 mem:∀ r ∈ R,∃ y ∈ l,r=put y.1 (num r)
 all:∀ y ∈ l,sm c l y.1 ≠ 0→∃ r ∈ R,c r y.1=0
def Tot (c : α → α → Int) (num : α → Int) (put : α → Int → α) (l:List (α × Int)) (R:List α) (e:Int):Prop:=(e=0∧Res c num put l R∧Fits c l)∨(e=10∧R=[]∧¬ Fits c l)
end
end Go.Av
namespace Go.Av
open Go
set_option linter.unusedVariables false
set_option linter.unusedSimpArgs false
section
variable {α:Type} [Inhabited α]
theorem z20 (d:Array α) (j:Nat):d.toList.getD j default=d[j]!:=by
 rw [List.getD_eq_getElem?_getD,Array.getElem?_toList,getElem!_def]
 cases d[j]? <;> rfl
theorem z3f (d:Array α) (i j:Nat):(d.toList.set i d[j]!).set j d[i]! = (Sort.swp d i j).toList:=by
 unfold Sort.swp
 rw [Array.toList_setIfInBounds,Array.toList_setIfInBounds]
theorem z18 (d:Array α) (i j:Nat):(Sort.swp d i j).size=d.size:=by unfold Sort.swp; simp
theorem wsub1 {j:Nat} (h1:1≤j) (h:j < 4611686018427387904):IntKind.i64.wrap ((j:Int) - 1)=((j - 1:Nat):Int):=by
 rw [z1q (by omega) (by omega)]; omega
theorem wadd1 {j:Nat} (h:j < 4611686018427387904):IntKind.i64.wrap ((j:Int) + 1)=((j + 1:Nat):Int):=by
 rw [z1q (by omega) (by omega)]; omega
theorem wsub {i j:Nat} (h1:j≤i) (h:i < 4611686018427387904):IntKind.i64.wrap ((i:Int) - (j:Int))=((i - j:Nat):Int):=by
 rw [z1q (by omega) (by omega)]; omega
theorem wadd {i j:Nat} (h:i + j < 4611686018427387904):IntKind.i64.wrap ((i:Int) + (j:Int))=((i + j:Nat):Int):=by
 rw [z1q (by omega) (by omega)]; omega
theorem wtwo {i:Nat} (h:2 * i < 4611686018427387904):IntKind.i64.wrap ((2:Int) * (i:Int))=((2 * i:Nat):Int):=by
 rw [z1q (by omega) (by omega)]; omega
theorem intle {i j:Nat}:((i:Int)≤(j:Int))=(i≤j):=propext (by omega)
theorem intlt {i j:Nat}:((i:Int) < (j:Int))=(i < j):=propext (by omega)
theorem z1w {S R:Type} {B:S→Option (Ctl S R)} {fuel:Nat} {s s' : S} (h:B s=some (.next s')):loopN B (fuel + 1) s=loopN B fuel s':=by rw [loopN,h]
theorem z1k {S R:Type} {B:S→Option (Ctl S R)} {fuel:Nat} {s s' : S} (h:B s=some (.brk s')):loopN B (fuel + 1) s=some (.done s'):=by rw [loopN,h]
theorem z88 {S R:Type} {B:S→Option (Ctl S R)} {fuel:Nat} {s:S} {r:R} (h:B s=some (.ret r)):loopN B (fuel + 1) s=some (.ret r):=by rw [loopN,h]
theorem za0 {X Y R Q:Type} {o:Option (Out (X × Y) R)} {kn:X × Y→Option Q} {kr:R→Option Q} {r:Y} {q:Option Q} (h:∃ x:X,o=some (.done (x,r))) (hk:∀ x,kn (x,r)=q):outK o kn kr=q:=by
 obtain ⟨x,h⟩:=h
 rw [h]
 exact hk x
end
end Go.Av
namespace Go.Av
open Go
set_option linter.unusedVariables false
set_option linter.unusedSimpArgs false
section
variable {α:Type} [Inhabited α]
def rotF (a m b:Nat) (d:Array α) (x:Nat) : α:=if a≤x∧x < a + (b - m) then d[x - a + m]! else if a + (b - m)≤x∧x < b then d[x - (a + (b - m)) + a]! else d[x]!
structure RotTo (a m b:Nat) (d d' : Array α):Prop where
 perm:Sort.PermIn a b d d'
 get:∀ x,d'[x]! = rotF a m b d x
end
end Go.Av
namespace Go.Av
open Go
set_option linter.unusedVariables false
set_option linter.unusedSimpArgs false
section
variable {α:Type} [Inhabited α]
theorem zm0 {R:Type} {B:Int × Int→Option (Ctl (Int × Int) R)} {P:Nat→Bool} {i0 j0:Nat}:∀ (n i j fuel:Nat),j - i≤n→n < fuel→i0≤i→i≤j→j≤j0→(i=i0∨P (i - 1)=true)→(j=j0∨P j=false) →
  (∀ i j:Nat,i0≤i→i≤j→j≤j0→B ((i:Int),(j:Int))=if i < j then (if P ((i + j) / 2)=true then some (.next ((((i + j) / 2 + 1:Nat):Int),(j:Int))) else some (.next ((i:Int),(((i + j) / 2:Nat):Int)))) else some (.brk ((i:Int),(j:Int)))) →
  ∃ r:Nat,loopN B fuel ((i:Int),(j:Int))=some (.done ((r:Int),(r:Int)))∧i0≤r∧r≤j0∧(r=i0∨P (r - 1)=true)∧(r=j0∨P r=false):=by
 intro n
 induction n with
 | zero =>
  intro i j fuel hn hf h1 h2 h3 h4 h5 hB
  cases fuel with
  | zero=>omega
  | succ fuel =>
   have h:=hB i j h1 h2 h3
   rw [if_neg (by omega)] at h
   have:i=j:=by omega
   subst this
   exact ⟨i,z1k h,h1,h3,h4,h5⟩
 | succ n ih =>
  intro i j fuel hn hf h1 h2 h3 h4 h5 hB
  cases fuel with
  | zero=>omega
  | succ fuel =>
   have h:=hB i j h1 h2 h3
   by_cases hl:i < j
   ·rw [if_pos hl] at h
    by_cases hp:P ((i + j) / 2)=true
    ·rw [if_pos hp] at h
     rw [z1w h]
     exact ih _ j fuel (by omega) (by omega) (by omega) (by omega) h3 (.inr (by rw [Nat.add_sub_cancel]; exact hp)) h5 hB
    ·rw [if_neg hp] at h
     rw [z1w h]
     exact ih i _ fuel (by omega) (by omega) h1 (by omega) (by omega) h4 (.inr (by simpa using hp)) hB
   ·rw [if_neg hl] at h
    have:i=j:=by omega
    subst this
    exact ⟨i,z1k h,h1,h3,h4,h5⟩
variable {lt : α → α → Bool}
structure MergeTo (lt : α → α → Bool) (a b:Nat) (d d' : Array α):Prop where
 perm:Sort.PermIn a b d d'
 sorted:Sort.SortedIn lt a b d'
end
end Go.Av
namespace Go.Av
open Go
set_option linter.unusedVariables false
set_option linter.unusedSimpArgs false
section
variable {α:Type} [Inhabited α] {cmp : α → α → Option Int} {c : α → α → Int}
theorem zm2 {x y:Nat} (h:x + y < 4611686018427387904):IntKind.i64.wrap (shrOp .u64 (IntKind.u64.wrap (IntKind.i64.wrap ((x:Int) + (y:Int)))) 1)=(((x + y) / 2:Nat):Int):=by
 rw [wadd h,zcl,Int.emod_eq_of_lt (by omega) (by omega),show (1:Int)=((1:Nat):Int) from rfl,zbm .u64 (x + y) 1 (by decide),z1q (by omega) (by omega)]
end
end Go.Av
namespace Go.Av
open Go
set_option linter.unusedVariables false
set_option linter.unusedSimpArgs false
def cmpV (a b:Value):Int:=if a.isText=b.isText then (if a.isText then cmpS a.s b.s else cmpZ a.n b.n) else (if a.isText then 1 else -1)
theorem ze6:IsCmp cmpV where
 vals a b:=by
  unfold cmpV
  split
  ·split
   ·exact zc4.vals _ _
   ·exact z8y.vals _ _
  ·split <;> simp
 anti a b:=by
  unfold cmpV
  cases a.isText <;> cases b.isText <;> simp
  ·exact z8y.anti _ _
  ·exact zc4.anti _ _
 tr a b d:=by
  unfold cmpV
  cases a.isText <;> cases b.isText <;> cases d.isText <;> simp
  ·exact z8y.tr _ _ _
  ·exact zc4.tr _ _ _
theorem zgl (a b:ByteArray):(strLt a b || strEq a b)=decide (cmpS a b≤0):=by
 rw [zdr,zki,Bool.eq_iff_iff]
 simp
 omega
theorem zgh (x y:Int):z66 x y=some (cmpZ x y):=by
 unfold z66 z6w cmpZ
 simp only [decide_true,Bool.not_true,Option.bind_some,z0y,z08]
 split <;> (try split) <;> rfl
theorem ziv (x y:Int):z58 x y=some (cmpZ x y):=by
 unfold z58 z65 cmpZ
 simp only [decide_true,Bool.not_true,Option.bind_some,z0y,z08]
 split <;> (try split) <;> rfl
theorem zi3 (x y:ByteArray):z4w x y=some (cmpS x y):=by
 unfold z4w z5q
 simp only [zjn,Bool.not_true,Option.bind_some,z0y]
 rw [zgl,zdr]
 simp only [z7d,z08]
 rcases zc4.vals x y with h | h | h <;> simp [h]
theorem zfv (a b:Value):z6t a b=some (cmpV a b):=by
 unfold z6t z8p cmpV
 simp only [zgh,zi3,ziv,z7d]
 cases a.isText <;> cases b.isText <;> simp [zgh,cmpZ]
theorem z8k (a b:List Value):z43 a b=some (cmpL cmpV a b):=by
 unfold z43 z09
 rw [zmi (c:=cmpV)]
 ·rfl
 ·intro i hi
  simp only [zfv,Option.bind_some,z08,z7d,Int.ofNat_le]
  split
  ·rfl
  ·rw [z06 (by omega)]
 ·simp only [z08,Int.ofNat_lt]
  split <;> rfl
theorem zdp (a b:Value):z44 a b=some (cmpV a b):=by
 unfold z44 cmpV
 rw [zgl,zdr]
 cases a.isText <;> cases b.isText <;> simp
 ·unfold cmpZ; split <;> (try split) <;> simp_all
 ·rcases zc4.vals a.s b.s with h | h | h <;> simp [h]
theorem z8m (a b:List Value) {fuel:Nat} (hf:a.length < fuel) (hn:a.length≤maxN):z2i fuel a b=some (cmpL cmpV a b):=by
 unfold z2i
 unfold maxN at hn
 refine zla (c:=cmpV) hf ?_ ?_
 ·intro i hi hi'
  simp only [jn_eq,zdp,Option.bind_some,z08,z7d,Int.ofNat_lt,Int.toNat_natCast]
  have e:IntKind.i64.wrap ((i:Int) + 1)=((i + 1:Nat):Int):=by rw [z1q (by omega) (by omega)]; omega
  by_cases h1:i < a.length
  ·by_cases h2:i < b.length
   ·rw [if_pos (⟨h1,h2⟩:i < a.length∧i < b.length),if_pos h1,if_pos h2,z06 (by omega),z06 (by omega),e]
   ·rw [if_neg (fun h=>h2 h.2:¬ (i < a.length∧i < b.length)),if_pos h1,if_neg h2]
  ·rw [if_neg (fun h=>h1 h.1:¬ (i < a.length∧i < b.length)),if_neg h1,z0y]
 ·intro i
  simp only [z08,Int.ofNat_lt]
  split
  ·rfl
  ·split <;> rfl
def z4e (v:Value):Bool:=if v.isText then decide (v.n=0) && decide (v.s.size≤64) else strEq v.s (bs [])
def okRow (p:List Value):Bool:=decide (p.length≤8) && p.all z4e
theorem zlo (v:Value):z7v v=some (z4e v):=by
 unfold z7v z4e
 have e:((v.s.size:Int)≤64)↔v.s.size≤64:=by omega
 cases v.isText <;> by_cases h:v.n=0 <;> simp [h,e]
theorem zij (v:Value):z4u v=some (z4e v):=by
 unfold z4u z4e
 have e:((v.s.size:Int)≤64)↔v.s.size≤64:=by omega
 cases v.isText <;> by_cases h:v.n=0 <;> simp [h,e]
theorem zff {S R X:Type} [Inhabited X] {B:Nat→S→Option (Ctl S R)} {l:List X} (P:X→Bool) (f:Nat→R) {s:S}
  (hB:∀ i,i < l.length→B i s=if P (l.getD i default) then some (.ret (f i)) else some (.next s)) :
  (l.any P=false∧z07 B l.length 0 s=some (.done s))∨(l.any P=true∧∃ i,i < l.length∧P (l.getD i default)=true∧z07 B l.length 0 s=some (.ret (f i))):=by
 have key:∀ k i,i + k=l.length→((l.drop i).any P=false∧z07 B k i s=some (.done s))∨((l.drop i).any P=true∧∃ j,j < l.length∧P (l.getD j default)=true∧z07 B k i s=some (.ret (f j))):=by
  intro k
  induction k with
  | zero=>intro i hi; left; rw [List.drop_eq_nil_of_le (by omega:l.length≤i)]; exact ⟨rfl,rfl⟩
  | succ k ih =>
   intro i hi
   rw [z29 (by omega:i < l.length)]
   simp only [z07,hB i (by omega),List.any_cons]
   by_cases h:P (l.getD i default)=true
   ·rw [if_pos h]; right; exact ⟨by rw [h]; rfl,i,by omega,h,rfl⟩
   ·rw [if_neg h]
    have hf:P (l.getD i default)=false:=by simpa using h
    rw [hf,Bool.false_or]
    exact ih (i + 1) (by omega)
 have:=key l.length 0 (by omega)
 rwa [List.drop_zero] at this
theorem z81 (p:List Value):(p.any fun v => !z4e v) = !(p.all z4e):=by
 rw [List.any_eq_not_all_not]
 simp
theorem zd5 (p:List Value):z6y p=some (if okRow p then 0 else 4):=by
 unfold z6y z0o z0s z80 okRow
 simp only [jn_eq,z08,zlo,Option.bind_some]
 by_cases h:8 < (p.length:Int)
 ·rw [if_pos h,decide_eq_false (by omega:¬ p.length≤8)]; rfl
 ·rw [if_neg h,decide_eq_true (by omega:p.length≤8)]
  rcases zff (S:=Unit) (R:=Int) (l:=p) (fun v => !z4e v) (fun i=>(i:Int)) (s:=()) (B:=fun i1 a2=>bf (!z4e (p.getD i1 default)) (some (.ret ((i1:Nat):Int))) (some (.next ()))) (fun i hi=>by
   cases z4e (p.getD i default) <;> rfl) with ⟨h1,h2⟩ | ⟨h1,i,_,_,h2⟩
  ·rw [h2]
   rw [z81] at h1
   have:p.all z4e=true:=by simpa using h1
   simp [this]
  ·rw [h2]
   rw [z81] at h1
   have:p.all z4e=false:=by simpa using h1
   simp [this,Int.natCast_nonneg]
theorem zir (p:List Value):z4s p=some (if okRow p then 0 else 4):=by
 unfold z4s okRow
 simp only [zij,Option.bind_some]
 rcases zff (S:=Unit) (R:=Int) (l:=p) (fun v => !z4e v) (fun i=>(4:Int)) (s:=()) (B:=fun i1 a2=>bf (!z4e (p.getD i1 default)) (some (.ret 4)) (some (.next ()))) (fun i hi=>by
   cases z4e (p.getD i default) <;> rfl) with ⟨h1,h2⟩ | ⟨h1,i,_,_,h2⟩
 ·rw [h2]
  rw [z81] at h1
  have:p.all z4e=true:=by simpa using h1
  simp only [z2o,z08,this,Bool.and_true]
  by_cases h:8 < (p.length:Int)
  ·rw [if_pos h,decide_eq_false (by omega:¬ p.length≤8)]; rfl
  ·rw [if_neg h,decide_eq_true (by omega:p.length≤8)]; rfl
 ·rw [h2]
  rw [z81] at h1
  have:p.all z4e=false:=by simpa using h1
  simp [this]
theorem zeg {a b:Value}:z8a a b=true↔a=b:=by
 rcases a with ⟨t,n,s⟩
 rcases b with ⟨t',n',s'⟩
 simp [z8a,zjz]
theorem zm9 (a b:List Value):∃ r,z3c a b=some r∧(r=true↔a=b):=by
 unfold z3c
 by_cases hl:a.length=b.length
 ·rw [decide_eq_true (by omega:(a.length:Int)=(b.length:Int))]
  simp only [Bool.not_true,z0y]
  have key:∀ k i,i + k=a.length→∃ r,outK (z07 (S:=Unit) (R:=Bool) (fun i1 (a2:Unit)=>need ((0:Int)≤((i1:Nat):Int)∧((i1:Nat):Int) < (b.length:Int)) <| bf (!(z8a (a.getD i1 default) (b.getD i1 default))) (some (.ret false)) (some (.next ()))) k i ()) (fun (a3:Unit)=>some true) (fun x=>some x)=some r∧(r=true↔a.drop i=b.drop i):=by
   intro k
   induction k with
   | zero =>
    intro i hi
    refine ⟨true,rfl,?_⟩
    rw [List.drop_eq_nil_of_le (by omega:a.length≤i),List.drop_eq_nil_of_le (by omega:b.length≤i)]
    simp
   | succ k ih =>
    intro i hi
    simp only [z07]
    rw [z06 (by omega),z29 (by omega:i < a.length),z29 (by omega:i < b.length)]
    by_cases he:z8a (a.getD i default) (b.getD i default)=true
    ·rw [he]
     obtain ⟨r,h1,h2⟩:=ih (i + 1) (by omega)
     refine ⟨r,h1,?_⟩
     rw [h2,zeg.1 he]
     simp
    ·have he' : z8a (a.getD i default) (b.getD i default)=false:=by simpa using he
     rw [he']
     refine ⟨false,rfl,?_⟩
     simp only [Bool.false_eq_true,false_iff,List.cons.injEq,not_and]
     intro h
     exact absurd (zeg.2 h) he
  obtain ⟨r,h1,h2⟩:=key a.length 0 (by omega)
  exact ⟨r,h1,by simpa using h2⟩
 ·rw [decide_eq_false (by omega:¬ (a.length:Int)=(b.length:Int))]
  exact ⟨false,rfl,by simp; intro h; exact hl (by rw [h])⟩
theorem zkc (a:List Value):z3c a a=some true:=by
 obtain ⟨r,h1,h2⟩:=zm9 a a
 rw [h1,h2.2 rfl]
theorem zgq {p:List Value} (h:okRow p=true):p.all z4e=true∧p.length≤8:=by
 unfold okRow at h
 simp only [Bool.and_eq_true,decide_eq_true_eq] at h
 exact ⟨h.2,h.1⟩
end Go.Av
namespace Go.Av
open Go
set_option linter.unusedVariables false
set_option linter.unusedSimpArgs false
def z3q (t:Time):Prop:=0≤t.epoch∧0≤t.loop.1∧0≤t.loop.2
def lub2 (a x:Time):Time:=⟨if a.epoch < x.epoch then x.epoch else a.epoch,(if a.loop.1 < x.loop.1 then x.loop.1 else a.loop.1,if a.loop.2 < x.loop.2 then x.loop.2 else a.loop.2)⟩
def zeroT:Time:=⟨0,(0,0)⟩
def lubL (l:List Time):Time:=l.foldl lub2 zeroT
theorem Time.ext' {a b:Time} (h1:a.epoch=b.epoch) (h2:a.loop.1=b.loop.1) (h3:a.loop.2=b.loop.2):a=b:=by
 rcases a with ⟨e,l1,l2⟩; rcases b with ⟨e',l1',l2'⟩; simp at h1 h2 h3; simp [h1,h2,h3]
theorem max0 {a:Int} (h:0≤a):a=if 0 < a then a else 0:=by
 by_cases h1:0 < a
 ·rw [if_pos h1]
 ·rw [if_neg h1]; omega
theorem zb5 {l:List Time} (hl:∀ x ∈ l,z3q x):z2l l=some (lubL l):=by
 unfold z2l
 rw [z4p (lubL l) (fun i a=>a=lubL (l.take i)) (fun s h=>by rw [h,List.take_length])]
 ·rfl
 ·intro i a hi ha
  refine ⟨_,?_,rfl⟩
  rw [z4f hi]
  have hx:=hl _ (z5h hi)
  generalize l.getD i default=x at *
  simp only [lubL,List.foldl_append,List.foldl_cons,List.foldl_nil]
  rw [← lubL,← ha]
  simp only [jn_eq,z07,z53,Option.bind_some,z08]
  rcases Nat.eq_zero_or_pos i with h0 | h0
  ·subst h0
   simp [lubL] at ha
   subst ha
   obtain ⟨x1,x2,x3⟩:=hx
   simp [outK,lub2,zeroT]
   exact ⟨max0 x1,max0 x2,max0 x3⟩
  ·rw [if_neg (by omega)]
   simp [outK,lub2]
 ·rfl
theorem mx_eq (a b:Int):(if a < b then b else a)=max a b:=by split <;> omega
theorem zkp {x:Time} (h:z3q x):lub2 zeroT x=x:=by
 obtain ⟨h1,h2,h3⟩:=h
 simp only [lub2,mx_eq,zeroT]
 refine Time.ext' ?_ ?_ ?_ <;> simp only <;> omega
theorem zey {x y:Time} (hx:z3q x):lubL [x,y]=lub2 x y:=by
 simp [lubL,zkp hx]
def leT (a b:Time):Bool:=decide (a.epoch≤b.epoch) && (decide (a.loop.1≤b.loop.1) && decide (a.loop.2≤b.loop.2))
theorem zl2 {a b:Time} (ha:z3q a) (hb:z3q b):z7f a b=some (leT a b):=by
 unfold z7f z5f
 have hl:∀ x ∈ [a,b],z3q x:=fun x hx=>by
  rcases List.mem_cons.1 hx with rfl | hx
  ·exact ha
  ·rw [List.mem_singleton.1 hx]; exact hb
 rw [zb5 hl,zey ha]
 simp only [Option.bind_some,lub2,mx_eq,z0h,leT,Bool.and_true]
 congr 1
 rw [Bool.eq_iff_iff]
 simp only [Bool.and_eq_true,decide_eq_true_eq]
 omega
theorem ziw (a b:Time):z3t a b=some (leT a b):=by
 unfold z3t leT
 simp only [z07,z08]
 by_cases h1:b.loop.1 < a.loop.1 <;> by_cases h2:b.loop.2 < a.loop.2 <;> by_cases h3:a.epoch≤b.epoch <;> simp [outK,h1,h2,h3] <;> omega
def cmpT (a b:Time):Int :=
 if a.epoch < b.epoch then -1 else if b.epoch < a.epoch then 1 else if a.loop.1 < b.loop.1 then -1 else if b.loop.1 < a.loop.1 then 1 else if a.loop.2 < b.loop.2 then -1 else if b.loop.2 < a.loop.2 then 1 else 0
theorem           zcz (a b : Time) :                  z2b a b = some (cmpT a b) := by
  unfold                  z2b cmpT
  simp only [   z07,       z08,    z7d]
  by_cases h1 : a.epoch < b.epoch <;> by_cases h2 : b.epoch < a.epoch <;> by_cases h3 : a.loop.1 < b.loop.1 <;> by_cases h4 : b.loop.1 < a.loop.1 <;> by_cases h5 : a.loop.2 < b.loop.2 <;> by_cases h6 : b.loop.2 < a.loop.2 <;>
    simp [outK, h1, h2, h3, h4, h5, h6] <;> omega
theorem zgy (x y:Int):z34 x y=some (if x < y then -1 else if y < x then 1 else 0):=by
 unfold z34 z5s
 simp only [decide_true,Bool.not_true,Option.bind_some,z0y,z08]
 split
 ·rfl
 ·split <;> rfl
theorem zmc (x1 x2 y1 y2:Int):z1z [x1,x2] [y1,y2]=some (if x1 < y1 then -1 else if y1 < x1 then 1 else if x2 < y2 then -1 else if y2 < x2 then 1 else 0):=by
 unfold z1z
 simp only [List.length_cons,List.length_nil,Nat.zero_add,Nat.reduceAdd,z07,zgy,z08,z7d,Option.bind_some]
 by_cases h3:x1 < y1 <;> by_cases h4:y1 < x1 <;> by_cases h5:x2 < y2 <;> by_cases h6:y2 < x2 <;> simp [outK,need,h3,h4,h5,h6]
theorem zmr (u v:Int):z5d [u,v]=some (if u=0 then v else u):=by
 unfold z5d
 simp only [List.length_cons,List.length_nil,Nat.zero_add,Nat.reduceAdd,z07,z08,z7d]
 by_cases h1:u=0 <;> by_cases h2:v=0 <;> simp [outK,h1,h2]
theorem zmz {p q:Bool} {A:Type} {x y:Option A}:bf (p && (q && true)) x y=bf p (bf q x y) y:=by cases p <;> cases q <;> rfl
theorem        z2a (a b : Time) :            z0w a b = some (cmpT a b) := by
  unfold            z0w cmpT
  simp only [      zgy,     zmc,    zmr, Option.bind_some,    zmz,       z08]
  by_cases h1 : a.epoch < b.epoch <;> by_cases h2 : b.epoch < a.epoch <;> by_cases h3 : a.loop.1 < b.loop.1 <;> by_cases h4 : b.loop.1 < a.loop.1 <;> by_cases h5 : a.loop.2 < b.loop.2 <;> by_cases h6 : b.loop.2 < a.loop.2 <;>
    by_cases h7 : a.loop.1 = b.loop.1 <;> by_cases h8 : a.loop.2 = b.loop.2 <;> simp [h1, h2, h3, h4, h5, h6, h7, h8] <;> omega
theorem zjx (a b:Time):cmpT a b = -1∨cmpT a b=0∨cmpT a b=1:=by
 unfold cmpT
 repeat' split
 all_goals omega
theorem       zkh (a b : Time) : cmpT a b = - cmpT b a := by
  unfold cmpT
  by_cases h1 : a.epoch < b.epoch <;> by_cases h2 : b.epoch < a.epoch <;> by_cases h3 : a.loop.1 < b.loop.1 <;> by_cases h4 : b.loop.1 < a.loop.1 <;> by_cases h5 : a.loop.2 < b.loop.2 <;> by_cases h6 : b.loop.2 < a.loop.2 <;>
    simp [h1, h2, h3, h4, h5, h6] <;> omega
theorem zhv (a:Time):leT a a=true:=by simp [leT]
theorem zgj {a b c:Time} (h:leT a b=true) (g:leT b c=true):leT a c=true:=by
 simp only [leT,Bool.and_eq_true,decide_eq_true_eq] at *
 omega
theorem zmg {a b:Time}:leT a b=true↔a.epoch≤b.epoch∧a.loop.1≤b.loop.1∧a.loop.2≤b.loop.2:=by simp [leT]
theorem zfl (u v w:Int):z5d [u,v,w]=some (thenC u (thenC v w)):=by
 unfold z5d thenC
 simp only [List.length_cons,List.length_nil,Nat.zero_add,Nat.reduceAdd,z07,z08,z7d]
 by_cases h1:u=0 <;> by_cases h2:v=0 <;> by_cases h3:w=0 <;> simp [outK,h1,h2,h3]
theorem zmx (u v w:Int):z8l [u,v,w]=some (thenC u (thenC v w)):=zfl u v w
theorem zm6:IsCmp cmpT where
 vals a b:=by rcases zjx a b with h | h | h <;> omega
 anti a b:=by have:=zkh a b; omega
 tr a b d:=by
  have e:∀ a b:Time,cmpT a b=thenC (cmpZ a.epoch b.epoch) (thenC (cmpZ a.loop.1 b.loop.1) (cmpZ a.loop.2 b.loop.2)):=fun a b=>by
   unfold cmpT thenC cmpZ
   repeat' split
   all_goals omega
  have h:=(z8y.on fun t:Time=>t.epoch).lex ((z8y.on fun t:Time=>t.loop.1).lex (z8y.on fun t:Time=>t.loop.2))
  rw [e,e,e]
  exact h.tr a b d
def okT (t:Time):Bool:=decide (t.epoch≤4611686018427387904) && (decide (t.loop.1≤4611686018427387904) && decide (t.loop.2≤4611686018427387904))
theorem zj8 {fuel:Nat} (hf:5 < fuel) (a b:Int):z2f fuel [a,b]=some (if a < b then b else a):=by
 unfold z2f
 obtain ⟨f,rfl⟩:∃ f,fuel=f + 2:=⟨fuel - 2,by omega⟩
 have w:IntKind.i64.wrap 2=2:=by rw [z1q (by omega) (by omega)]
 simp [loopN,outK,need,bf,w]
theorem zc6 {fuel:Nat} (hf:5 < fuel) (t:Time):z32 fuel [t]=some (if okT t then 0 else 1):=by
 unfold z32 okT
 simp only [List.length_cons,List.length_nil,Nat.zero_add,z07,List.getD_cons_zero,zj8 hf,Option.bind_some,z08,mx_eq]
 by_cases h:4611686018427387904 < max t.epoch (max t.loop.1 t.loop.2)
 ·rw [if_pos h]
  simp only [outK]
  rw [if_neg (by simp only [Bool.and_eq_true,decide_eq_true_eq]; omega)]
 ·rw [if_neg h]
  simp only [outK]
  rw [if_pos (by simp only [Bool.and_eq_true,decide_eq_true_eq]; omega)]
theorem z9l (t:Time):z2d [t]=some (if okT t then 0 else 1):=by
 unfold z2d okT
 simp only [List.length_cons,List.length_nil,Nat.zero_add,z07,List.getD_cons_zero,z08]
 by_cases h1:4611686018427387904 < t.epoch <;> by_cases h2:4611686018427387904 < t.loop.1 <;> by_cases h3:4611686018427387904 < t.loop.2 <;> simp [outK,h1,h2,h3] <;> omega
end Go.Av
namespace Go.Av
open Go
set_option linter.unusedVariables false
set_option linter.unusedSimpArgs false
section
variable {α X Y:Type}
inductive R2 (r:X→Y→Prop):List X→List Y→Prop
 | nil:R2 r [] []
 | cons {x:X} {y:Y} {a:List X} {b:List Y} (h:r x y) (t:R2 r a b):R2 r (x :: a) (y :: b)
theorem R2.len {r:X→Y→Prop} {a:List X} {b:List Y} (h:R2 r a b):a.length=b.length:=by induction h <;> simp_all
theorem R2.app {r:X→Y→Prop} {a a' : List X} {b b' : List Y} (h:R2 r a b) (h' : R2 r a' b'):R2 r (a++a') (b++b'):=by
 induction h with
 | nil=>exact h'
 | cons h _ ih=>exact .cons h ih
theorem R2.split {r:X→Y→Prop}:∀ {b b' : List Y} {a:List X},R2 r a (b++b')→∃ a1 a2,a=a1++a2∧R2 r a1 b∧R2 r a2 b'
 | [],b',a,h=>⟨[],a,rfl,.nil,h⟩
 | y :: b,b',_,h=>by
  cases h with
  | cons h t =>
   obtain ⟨a1,a2,rfl,h1,h2⟩:=R2.split t
   exact ⟨_ :: a1,a2,rfl,.cons h h1,h2⟩
theorem R2.get [Inhabited X] [Inhabited Y] {r:X→Y→Prop} {a:List X} {b:List Y} (h:R2 r a b):∀ {i:Nat},i < b.length→r (a.getD i default) (b.getD i default):=by
 induction h with
 | nil=>intro i hi; simp at hi
 | cons h _ ih =>
  intro i hi
  cases i with
  | zero=>exact h
  | succ i=>exact ih (by simpa using hi)
theorem R2.one {r:X→Y→Prop} {x:X} {y:Y} (h:r x y):R2 r [x] [y]:=.cons h .nil
theorem zcc {S R Q:Type} {G:Option Q→Prop} {B:Nat→S→Option (Ctl S R)} {n:Nat} {s:S} {kn:S→Option Q} {kr:R→Option Q} (I:Nat→S→Prop) (D:S→Prop) (J:R→Prop) (h0:I 0 s) (hD:∀ s,I n s→D s) (hk:∀ s,D s→G (kn s)) (hr:∀ r,J r→G (kr r))
  (hs:∀ i s,i < n→I i s→(∃ s',B i s=some (.next s')∧I (i + 1) s')∨(∃ s',B i s=some (.brk s')∧D s')∨∃ r,B i s=some (.ret r)∧J r):G (outK (z07 B n 0 s) kn kr):=by
 rcases zit I D J h0 hs hD with ⟨s',h1,h2⟩ | ⟨r,h1,h2⟩
 ·rw [h1]; exact hk s' h2
 ·rw [h1]; exact hr r h2
def PR (num : α → Int) (l:List α):List (α × Int):=l.map fun x=>(x,num x)
end
end Go.Av
namespace Go.Av
open Go
set_option linter.unusedVariables false
set_option linter.unusedSimpArgs false
def cU (a b:Update):Int:=thenC (cmpL cmpV a.key b.key) (thenC (cmpL cmpV a.row b.row) (cmpT a.time b.time))
theorem cU_is:IsCmp cU:=(ze6.list.on fun u:Update=>u.key).lex ((ze6.list.on fun u:Update=>u.row).lex (zm6.on fun u:Update=>u.time))
theorem zar (a b:Update):z3h a b=some (cU a b):=by
 unfold z3h cU
 simp only [z8k,z2a,zfl,Option.bind_some]
def zke (x:Update) (n:Int):Update:=⟨x.key,x.row,x.time,n⟩
end Go.Av
namespace Go.Av
open Go
set_option linter.unusedVariables false
set_option linter.unusedSimpArgs false
def cK (a b:Count):Int:=cmpL cmpV a.row b.row
def zlk (x:Count) (n:Int):Count:=⟨x.row,n⟩
end Go.Av
namespace Go.Av
open Go
set_option linter.unusedVariables false
set_option linter.unusedSimpArgs false
theorem zlx (v:Int):thenC 0 v=v:=rfl
theorem zmk {u v:Int} (h:u ≠ 0):thenC u v=u:=if_neg h
theorem z9o {X:Type} [Inhabited X] {R:Type} {B:Nat→Unit→Option (Ctl Unit R)} {l:List X} (e:X→Int) (f:Int→R) (hB:∀ i,i < l.length→B i ()=if e (l.getD i default)=0 then some (.next ()) else some (.ret (f (e (l.getD i default))))) :
  z07 B l.length 0 ()=if l.foldr (fun x v=>thenC (e x) v) 0=0 then some (.done ()) else some (.ret (f (l.foldr (fun x v=>thenC (e x) v) 0))):=by
 have key:∀ k i,i + k=l.length→z07 B k i ()=if (l.drop i).foldr (fun x v=>thenC (e x) v) 0=0 then some (.done ()) else some (.ret (f ((l.drop i).foldr (fun x v=>thenC (e x) v) 0))):=by
  intro k
  induction k with
  | zero =>
   intro i hi
   rw [List.drop_eq_nil_of_le (by omega)]
   rfl
  | succ k ih =>
   intro i hi
   rw [z29 (by omega:i < l.length)]
   simp only [z07,hB i (by omega),List.foldr_cons]
   by_cases h:e (l.getD i default)=0
   ·simp only [h,if_true,zlx]
    exact ih (i + 1) (by omega)
   ·simp only [zmk h,if_neg h]
 have:=key l.length 0 (by omega)
 rwa [List.drop_zero] at this
theorem zhm {S R:Type} {B B' : Nat→S→Option (Ctl S R)} {n:Nat} {s:S} (h:∀ i s,i < n→B i s=B' i s):z07 B n 0 s=z07 B' n 0 s:=by
 have key:∀ k i s,i + k=n→z07 B k i s=z07 B' k i s:=by
  intro k
  induction k with
  | zero=>intro i s hi; rfl
  | succ k ih =>
   intro i s hi
   simp only [z07,h i s (by omega)]
   cases B' i s with
   | none=>rfl
   | some c=>cases c <;> simp only [ih (i + 1) _ (by omega)]
 exact key n 0 s (by omega)
def errU (u:Update):Int:=thenC (if okRow u.key then 0 else 4) (thenC (if okRow u.row then 0 else 4) (if okT u.time then 0 else 1))
def chkL (l:List Update):Int:=l.foldr (fun u v=>thenC (errU u) v) 0
def okU (u:Update):Prop:=okRow u.key=true∧okRow u.row=true∧okT u.time=true
theorem zkl {u:Update}:errU u=0↔okU u:=by
 unfold errU okU thenC
 by_cases h1:okRow u.key=true <;> by_cases h2:okRow u.row=true <;> by_cases h3:okT u.time=true <;> simp [h1,h2,h3]
theorem zcb {u v:Int}:thenC u v=0↔u=0∧v=0:=by unfold thenC; split <;> omega
theorem zk9 {l:List Update}:chkL l=0↔∀ u ∈ l,okU u:=by
 induction l with
 | nil=>simp [chkL]
 | cons u l ih =>
  unfold chkL at *
  rw [List.foldr_cons,zcb,zkl,ih]
  simp
theorem zap {fuel:Nat} (hf:5 < fuel) (l:List Update):z5c fuel l=some (chkL l):=by
 unfold z5c
 rw [z9o errU (fun x=>x)]
 ·show outK (if chkL l=0 then _ else some (.ret (chkL l))) _ _=_
  split
  ·rename_i h; rw [h]; rfl
  ·rfl
 ·intro i hi
  rw [zd5,zd5,zc6 hf]
  simp only [Option.bind_some,zmx,z7d,z08]
  rfl
theorem zh2 (l:List Update):z4t l=some (chkL l):=by
 unfold z4t
 rw [z9o errU (fun x=>x)]
 ·show outK (if chkL l=0 then _ else some (.ret (chkL l))) _ _=_
  split
  ·rename_i h; rw [h]; rfl
  ·rfl
 ·intro i hi
  simp only [List.length_cons,List.length_nil,Nat.zero_add,Nat.reduceAdd,z07,List.getD_cons_zero,List.getD_cons_succ,zir,z9l,Option.bind_some,z7d,z08]
  generalize l.getD i default=u
  unfold errU thenC
  by_cases h1:okRow u.key=true <;> by_cases h2:okRow u.row=true <;> by_cases h3:okT u.time=true <;> simp [h1,h2,h3,outK]
theorem zf6 {fuel:Nat} {a b:Update} (h1:a.key.length < fuel) (h2:a.row.length < fuel) (h3:a.key.length≤maxN) (h4:a.row.length≤maxN):z3a fuel a b=some (cU a b):=by
 unfold z3a cU thenC
 simp only [z8m _ _ h1 h3,z8m _ _ h2 h4,zcz,Option.bind_some,jn_eq,z08]
 by_cases e1:cmpL cmpV a.key b.key=0
 ·rw [if_pos e1,if_pos e1]
  by_cases e2:cmpL cmpV a.row b.row=0
  ·rw [if_pos e2,if_pos e2]
  ·rw [if_neg e2,if_neg e2]
 ·rw [if_neg e1,if_neg e1,if_neg e1]
theorem zg0 {p:List Value} (h:p.length≤8):z49 p=some p:=by
 unfold z49
 rw [z06 (by omega)]
theorem zia {p:List Value} (h:p.length≤8):z0p p=some p:=by
 unfold z0p
 rw [z06 (by omega)]
theorem zgc {u:Update} (h:okU u):u.key.length≤8∧u.row.length≤8:=⟨(zgq h.1).2,(zgq h.2.1).2⟩
theorem zib {l:List Update} (h:∀ u ∈ l,okU u) (hn:l.length≤4000000):z59 l=some l:=by
 unfold z59
 rw [z4p l (fun i a=>a=l.take i) (fun s hs=>by rw [hs,List.take_length])]
 ·rfl
 ·intro i a hi ha
  obtain ⟨h1,h2⟩:=zgc (h _ (z5h hi))
  refine ⟨_,?_,rfl⟩
  rw [zg0 h1,zg0 h2]
  simp only [Option.bind_some]
  rw [z06 (by rw [ha,List.length_take]; simp; omega),ha,z4f hi]
 ·rfl
theorem zhh {X:Type} [Inhabited X] {l:List X} {i:Nat} (h:i < l.length):l.set i (l.getD i default)=l:=by
 rw [List.getD_eq_getElem?_getD,List.getElem?_eq_getElem h]
 exact List.set_getElem_self h
theorem zmq {l:List Update} (h:∀ u ∈ l,okU u) (hn:l.length≤4000000):z56 l=some l:=by
 unfold z56
 have hlim:(l.length:Int)≤(lim:Int):=by simp only [lim]; omega
 rw [z06 ⟨by omega,by omega,hlim⟩,z06 (by simp)]
 have e:copyL (List.replicate l.length ((⟨([]:List Value),([]:List Value),(⟨0,(0,0)⟩:Time),0⟩:Update):Update)) l=l:=by
  unfold copyL
  rw [List.drop_eq_nil_of_le (by simp)]
  simp
 rw [e]
 rw [z4p l (fun i a=>a=l) (fun s hs=>hs)]
 ·rfl
 ·intro i a hi ha
  subst ha
  obtain ⟨h1,h2⟩:=zgc (h _ (z5h hi))
  refine ⟨_,?_,rfl⟩
  have e1:(⟨(a.getD i default).key,(a.getD i default).row,(a.getD i default).time,(a.getD i default).diff⟩:Update)=a.getD i default:=rfl
  simp only [Nat.zero_add]
  rw [z06 (by omega),z06 hi,zia h1]
  simp only [Option.bind_some]
  rw [z06 (by omega),z06 hi,zia h2]
  simp only [Option.bind_some]
  rw [z06 (by omega),z06 hi,z06 (by omega),z06 (by simp; exact hi),e1,zhh hi,e1,zhh hi]
 ·rfl
end Go.Av
namespace Go.Av
open Go
set_option linter.unusedVariables false
set_option linter.unusedSimpArgs false
abbrev pU (l:List Update):List (Update × Int):=PR (fun x=>x.diff) l
abbrev pK (l:List Count):List (Count × Int):=PR (fun x=>x.n) l
abbrev TotU (l:List Update) (R:List Update) (e:Int):Prop:=Tot cU (fun x=>x.diff) zke (pU l) R e
abbrev TotK (l:List Count) (R:List Count) (e:Int):Prop:=Tot cK (fun x=>x.n) zlk (pK l) R e
end Go.Av
namespace Go.Av
open Go
set_option linter.unusedVariables false
set_option linter.unusedSimpArgs false
theorem zmt (l:List Update):z5a l l=some true:=by
 unfold z5a
 rw [decide_eq_true rfl,Bool.not_true,z0y]
 rw [z4p () (fun _ _=>True) (fun _ _=>rfl)]
 ·rfl
 ·intro i a hi ha
  refine ⟨(),?_,trivial⟩
  have e:z0h (l.getD i default).time (l.getD i default).time=true:=by simp [z0h]
  simp only [jn_eq,zkc,Option.bind_some,Bool.not_true,z0y,e,decide_true]
  rw [z06 (by omega),z06 (by omega),z06 (by omega),z06 (by omega)]
 ·trivial
def z9g (u:Update):Prop:=u.key.length≤2000000∧u.row.length≤2000000
theorem zlt {fuel:Nat} {a b:Update} (hf:20000000≤fuel) (h:z9g a):z3a fuel a b=some (cU a b) :=
 zf6 (by have:=h.1; omega) (by have:=h.2; omega) (by have:=h.1; unfold maxN; omega) (by have:=h.2; unfold maxN; omega)
theorem zm5 {fuel:Nat} {l:List Update} (hf:20000000≤fuel) (hn:l.length≤4000000) (hk:∀ u ∈ l,z9g u):∃ b,z4c fuel l=some b∧z3b fuel l=some b:=by
 have e:z3b fuel l=z4c fuel l:=by
  unfold z3b z4c
  rw [zh2,zap (by omega)]
  congr 1
  refine zhm fun i s hi => ?_
  simp only [jn_eq,z08]
  split
  ·rfl
  ·by_cases g:0 < ((i:Nat):Int)
   ·rw [if_pos g,if_pos g,wsub1 (by omega) (by omega),z06 (by omega),z06 (by omega),zar,zlt hf (hk _ (z5h (by rw [Int.toNat_natCast]; omega)))]
   ·rw [if_neg g,if_neg g]
 have hs:∃ b,z4c fuel l=some b:=by
  unfold z4c
  rw [zap (by omega)]
  refine zcc (G:=fun q=>∃ b,q=some b) (fun _ _=>True) (fun _=>True) (fun _=>True) trivial (fun _ _=>trivial) (fun s _=>⟨_,rfl⟩) (fun r _=>⟨_,rfl⟩) ?_
  intro i s hi _
  simp only [jn_eq,z08]
  by_cases h0:(l.getD i default).diff=0
  ·rw [if_pos h0]
   exact .inr (.inr ⟨_,rfl,trivial⟩)
  ·rw [if_neg h0]
   by_cases g:0 < ((i:Nat):Int)
   ·rw [if_pos g,wsub1 (by omega) (by omega),z06 (by omega),zar]
    simp only [Option.bind_some,z08]
    split
    ·exact .inr (.inr ⟨_,rfl,trivial⟩)
    ·exact .inl ⟨_,rfl,trivial⟩
   ·rw [if_neg g]
    exact .inl ⟨_,rfl,trivial⟩
 obtain ⟨b,hb⟩:=hs
 exact ⟨b,hb,e.trans hb⟩
end Go.Av
namespace Go.Av
open Go
set_option linter.unusedVariables false
set_option linter.unusedSimpArgs false
def glb2 (a x:Time):Time:=⟨if x.epoch < a.epoch then x.epoch else a.epoch,(if x.loop.1 < a.loop.1 then x.loop.1 else a.loop.1,if x.loop.2 < a.loop.2 then x.loop.2 else a.loop.2)⟩
def glbL:List Time→Time
 | []=>zeroT
 | x :: l=>l.foldl glb2 x
theorem zen (a:Time):z0h a a=true:=by simp [z0h]
theorem zel {l:List Time} (h:l ≠ []) (x:Time):glbL (l++[x])=glb2 (glbL l) x:=by
 cases l with
 | nil=>exact absurd rfl h
 | cons y l=>simp [glbL,List.foldl_append]
theorem zhr (l:List Time):z4l l=some (glbL l):=by
 unfold z4l
 rw [z4p (glbL l) (fun i a=>a=glbL (l.take i)) (fun s h=>by rw [h,List.take_length])]
 ·rfl
 ·intro i a hi ha
  refine ⟨_,?_,rfl⟩
  rw [z4f hi]
  simp only [jn_eq,z07,z6n,Option.bind_some,z08]
  rcases Nat.eq_zero_or_pos i with h0 | h0
  ·subst h0
   generalize l.getD 0 default=x at *
   simp [outK,glbL]
  ·rw [if_neg (by omega),zel (by intro h; have h2:=congrArg List.length h; rw [List.length_take] at h2; simp only [List.length_nil] at h2; omega),← ha]
   generalize l.getD i default=x at *
   simp [outK,glb2]
 ·rfl
theorem mn_eq (a b:Int):(if b < a then b else a)=min a b:=by split <;> omega
theorem zll {a b:Time} (h:leT a b=true) (g:leT b a=true):z0h a b=true:=by
 simp only [leT,z0h,Bool.and_eq_true,decide_eq_true_eq,Bool.and_true] at *
 omega
end Go.Av
namespace Go.Av
open Go
set_option linter.unusedVariables false
set_option linter.unusedSimpArgs false
def ltT (x y:Time):Bool:=decide (cmpT x y < 0)
theorem zgz {a fuel:Nat} {B:Int × List Time→Option (Ctl (Int × List Time) Empty)} {j:Nat} {d:Array Time} (hj:j < d.size) (hf:j < fuel)
  (hB:∀ (j:Nat) (d' : Array Time),j < d'.size→d'.size=d.size→B ((j:Int),d'.toList)=if a < j∧ltT d'[j]! d'[j - 1]! = true then some (.next (((j - 1:Nat):Int),(Sort.swp d' j (j - 1)).toList)) else some (.brk ((j:Int),d'.toList))) :
  ∃ x:Int,loopN B fuel ((j:Int),d.toList)=some (.done (x,(Sort.insInner ltT a j d).toList)):=by
 induction j generalizing d fuel with
 | zero =>
  cases fuel with
  | zero=>omega
  | succ fuel =>
   refine ⟨0,z1k (s':=(((0:Nat):Int),d.toList)) ?_⟩
   rw [hB 0 d hj rfl,if_neg (by omega)]
 | succ j ih =>
  cases fuel with
  | zero=>omega
  | succ fuel =>
   have h:=hB (j + 1) d hj rfl
   rw [Nat.add_sub_cancel] at h
   unfold Sort.insInner
   by_cases hc:a < j + 1∧ltT d[j + 1]! d[j]! = true
   ·rw [if_pos hc] at h
    rw [z1w h,if_pos (by simp [hc.1,hc.2])]
    exact ih (by rw [z18]; omega) (by omega) (fun k d' h1 h2=>hB k d' h1 (by rw [h2,z18]))
   ·rw [if_neg hc] at h
    rw [z1k h,if_neg (by simpa using hc)]
    exact ⟨_,rfl⟩
theorem zh5 {a b fuel:Nat} {B:Int × List Time→Option (Ctl (Int × List Time) Empty)} {n i:Nat} {d:Array Time} (hn:b - i=n) (hb:b≤d.size) (hf:b - i < fuel)
  (hB:∀ (i:Nat) (d' : Array Time),d'.size=d.size→B ((i:Int),d'.toList)=if i < b then some (.next (((i + 1:Nat):Int),(Sort.insInner ltT a i d').toList)) else some (.brk ((i:Int),d'.toList)))
  (hs:∀ (i:Nat) (d' : Array Time),(Sort.insInner ltT a i d').size=d'.size) :
  ∃ x:Int,loopN B fuel ((i:Int),d.toList)=some (.done (x,(Sort.insOuter ltT a b i d).toList)):=by
 induction n generalizing i d fuel with
 | zero =>
  cases fuel with
  | zero=>omega
  | succ fuel =>
   have h:=hB i d rfl
   rw [if_neg (by omega)] at h
   rw [z1k h,Sort.insOuter,if_neg (by omega)]
   exact ⟨_,rfl⟩
 | succ n ih =>
  cases fuel with
  | zero=>omega
  | succ fuel =>
   have h:=hB i d rfl
   rw [if_pos (by omega)] at h
   rw [z1w h,Sort.insOuter,if_pos (by omega)]
   exact ih (by omega) (by rw [hs]; omega) (by omega) (fun k d' h1=>hB k d' (by rw [h1,hs]))
theorem zbf (a:Nat):∀ (j:Nat) (d:Array Time),(Sort.insInner ltT a j d).size=d.size
 | 0,d=>rfl
 | j + 1,d=>by
  unfold Sort.insInner
  split
  ·rw [zbf a j,z18]
  ·rfl
theorem zhq {fuel a b:Nat} {d:Array Time} (hb:b≤d.size) (hd:d.size < 4611686018427387904) (ha:a < 4611686018427387903) (hf:d.size < fuel) :
  z0z fuel (a:Int) (b:Int) d.toList=some (Sort.insertionSort ltT d a b).toList:=by
 unfold z0z Sort.insertionSort
 rw [wadd1 (by omega)]
 refine za0 (zh5 (a:=a) (b:=b) (i:=a + 1) (d:=d) rfl hb (by omega) ?_ (zbf a)) (fun x=>rfl)
 intro i d' hd'
 simp only [z08,intlt]
 by_cases hi:i < b
 ·rw [if_pos hi,if_pos hi]
  refine za0 (zgz (a:=a) (j:=i) (d:=d') (by omega) (by omega) ?_) (fun x => ?_)
  ·intro j e hj he
   simp only [jn_eq,z08,intlt]
   by_cases h1:a < j
   ·simp (disch:=omega) only [h1,if_true,wsub1,z06,Int.toNat_natCast,Nat.zero_add,Array.length_toList,List.length_set,z2a,Option.bind_some,z20,z3f,true_and]
    unfold ltT
    by_cases h2:cmpT e[j]! e[j - 1]! < 0
    ·simp [h2]
    ·simp [h2]
   ·rw [if_neg h1,if_neg (fun h=>h1 h.1)]
    rfl
  ·rw [wadd1 (by omega)]
 ·rw [if_neg hi,if_neg hi]
end Go.Av
namespace Go.Av
open Go
set_option linter.unusedVariables false
set_option linter.unusedSimpArgs false
theorem zis (hi first:Nat):∀ (n root:Nat) (d:Array Time),hi - root≤n→(Sort.siftDown ltT hi first root d).size=d.size:=by
 intro n
 induction n with
 | zero =>
  intro root d hn
  rw [Sort.siftDown,dif_pos (by omega)]
 | succ n ih =>
  intro root d hn
  rw [Sort.siftDown]
  split
  ·rfl
  ·split
   ·split
    ·rfl
    ·split
     ·rw [ih _ _ (by omega),z18]
     ·rfl
   ·split
    ·rfl
    ·rw [ih _ _ (by omega),z18]
def z6e (hi first root:Nat) (d:Array Time):Option Nat :=
 if 2 * root + 1 ≥ hi then none else
  let c:=if 2 * root + 1 + 1 < hi∧ltT d[first + (2 * root + 1)]! d[first + (2 * root + 1) + 1]! = true then 2 * root + 2 else 2 * root + 1
  if ltT d[first + root]! d[first + c]! = true then some c else none
theorem zd2 (hi first root:Nat) (d:Array Time):Sort.siftDown ltT hi first root d=match z6e hi first root d with
  | some c=>Sort.siftDown ltT hi first c (Sort.swp d (first + root) (first + c))
  | none=>d:=by
 rw [Sort.siftDown]
 unfold z6e
 by_cases h1:2 * root + 1 ≥ hi
 ·rw [dif_pos h1,if_pos h1]
 ·rw [dif_neg h1,if_neg h1]
  by_cases h2:2 * root + 1 + 1 < hi∧ltT d[first + (2 * root + 1)]! d[first + (2 * root + 1) + 1]! = true
  ·rw [if_pos (by simpa using h2)]
   simp only [if_pos h2]
   by_cases h3:ltT d[first + root]! d[first + (2 * root + 2)]! = true
   ·rw [if_neg (by simp [h3]),dif_pos (by omega)]
    simp only [h3,if_true]
   ·rw [if_pos (by simpa using h3)]
    simp only [if_neg h3]
  ·rw [if_neg (by simpa using h2)]
   simp only [if_neg h2]
   by_cases h3:ltT d[first + root]! d[first + (2 * root + 1)]! = true
   ·rw [if_neg (by simp [h3])]
    simp only [h3,if_true]
   ·rw [if_pos (by simpa using h3)]
    simp only [if_neg h3]
theorem zip {hi first root c:Nat} {d:Array Time} (h:z6e hi first root d=some c):root < c∧c < hi:=by
 unfold z6e at h
 split at h
 ·cases h
 ·dsimp only at h
  generalize hc:(if 2 * root + 1 + 1 < hi∧ltT d[first + (2 * root + 1)]! d[first + (2 * root + 1) + 1]! = true then 2 * root + 2 else 2 * root + 1)=k at h
  have hk:root < k∧k < hi:=by
   split at hc <;> omega
  split at h
  ·cases h; exact hk
  ·cases h
theorem zkg {hi first fuel:Nat} {B:Int × List Time→Option (Ctl (Int × List Time) (List Time))} {Q:Type} {kn:Int × List Time→Option Q} {kr:List Time→Option Q} {q:Option Q} {n root:Nat} {d:Array Time}
  (hn:hi - root≤n) (hf:n < fuel) (hsz:first + hi≤d.size)
  (hB:∀ (root:Nat) (d' : Array Time),d'.size=d.size→root≤1152921504606846976→B ((root:Int),d'.toList)=if 2 * root + 1 ≥ hi then some (.brk ((root:Int),d'.toList)) else match z6e hi first root d' with
   | some c=>some (.next ((c:Int),(Sort.swp d' (first + root) (first + c)).toList))
   | none=>some (.ret d'.toList))
  (hr:root≤1152921504606846976) (hd:d.size≤1152921504606846976) (hkn:∀ x,kn (x,(Sort.siftDown ltT hi first root d).toList)=q) (hkr:kr (Sort.siftDown ltT hi first root d).toList=q) :
  outK (loopN B fuel ((root:Int),d.toList)) kn kr=q:=by
 induction n generalizing root d fuel with
 | zero =>
  cases fuel with
  | zero=>omega
  | succ fuel =>
   have h:=hB root d rfl hr
   have hs:=zd2 hi first root d
   have e:z6e hi first root d=none:=by unfold z6e; rw [if_pos (by omega)]
   rw [e] at hs
   simp only at hs
   rw [hs] at hkn hkr
   rw [if_pos (by omega)] at h
   rw [z1k h]; exact hkn _
 | succ n ih =>
  cases fuel with
  | zero=>omega
  | succ fuel =>
   have h:=hB root d rfl hr
   have hs:=zd2 hi first root d
   cases e:z6e hi first root d with
   | none =>
    rw [e] at h hs
    simp only at h hs
    rw [hs] at hkn hkr
    split at h
    ·rw [z1k h]; exact hkn _
    ·rw [z88 h]; exact hkr
   | some c =>
    have hc:=zip e
    have hlt:¬ 2 * root + 1 ≥ hi:=fun hh=>by unfold z6e at e; rw [if_pos hh] at e; cases e
    rw [e] at h hs
    rw [if_neg hlt] at h
    simp only at h hs
    rw [hs] at hkn hkr
    rw [z1w h]
    exact ih (by omega) (by omega) (by rw [z18]; omega) (fun r d' h1 h2=>hB r d' (by rw [h1,z18]) h2) (by omega) (by rw [z18]; omega) hkn hkr
theorem zeh {fuel lo hi first:Nat} {d:Array Time} (hsz:first + hi≤d.size) (hd:d.size < 1152921504606846976) (hlo:lo < 1152921504606846976) (hf:d.size < fuel) :
  z1m fuel (lo:Int) (hi:Int) (first:Int) d.toList=some (Sort.siftDown ltT hi first lo d).toList:=by
 unfold z1m
 refine zkg (hi:=hi) (first:=first) (n:=hi) (by omega) (by omega) hsz ?_ (by omega) (by omega) (fun x=>rfl) rfl
 intro root e he hroot
 have hw1:IntKind.i64.wrap (IntKind.i64.wrap ((2:Int) * (root:Int)) + 1)=((2 * root + 1:Nat):Int):=by rw [wtwo (by omega),wadd1 (by omega)]
 simp only [hw1,z08,jn_eq]
 by_cases h1:2 * root + 1 ≥ hi
 ·rw [if_pos h1,if_pos (by omega)]
 ·rw [if_neg h1,if_neg (by omega)]
  unfold z6e
  rw [if_neg h1]
  have hw2:IntKind.i64.wrap (((2 * root + 1:Nat):Int) + 1)=((2 * root + 1 + 1:Nat):Int):=wadd1 (by omega)
  have hw3:IntKind.i64.wrap ((first:Int) + ((2 * root + 1:Nat):Int))=((first + (2 * root + 1):Nat):Int):=wadd (by omega)
  have hw4:IntKind.i64.wrap (((first + (2 * root + 1):Nat):Int) + 1)=((first + (2 * root + 1) + 1:Nat):Int):=wadd1 (by omega)
  have hw5:IntKind.i64.wrap ((first:Int) + (root:Int))=((first + root:Nat):Int):=wadd (by omega)
  have hw6:IntKind.i64.wrap ((first:Int) + ((2 * root + 1 + 1:Nat):Int))=((first + (2 * root + 2):Nat):Int):=by rw [wadd (by omega)]
  simp only [hw2,hw3,hw4,hw5,hw6,intlt,Int.toNat_natCast,Nat.zero_add]
  by_cases h2:2 * root + 1 + 1 < hi
  ·rw [if_pos h2]
   simp (disch:=omega) only [z06,Array.length_toList,z2a,Option.bind_some,z20]
   by_cases h3:cmpT e[first + (2 * root + 1)]! e[first + (2 * root + 1) + 1]! < 0
   ·have h4:2 * root + 1 + 1 < hi∧ltT e[first + (2 * root + 1)]! e[first + (2 * root + 1) + 1]! = true:=⟨h2,by unfold ltT; simp [h3]⟩
    simp (disch:=omega) only [h3,if_true,if_pos h4,hw6,Int.toNat_natCast,Nat.zero_add,z06,Array.length_toList,List.length_set,z2a,Option.bind_some,z20,z3f]
    unfold ltT
    by_cases h:cmpT e[first + root]! e[first + (2 * root + 2)]! < 0
    ·simp [h]; omega
    ·simp [h]
   ·have h4:¬ (2 * root + 1 + 1 < hi∧ltT e[first + (2 * root + 1)]! e[first + (2 * root + 1) + 1]! = true):=fun h=>h3 (by have:=h.2; unfold ltT at this; simpa using this)
    simp (disch:=omega) only [h3,if_false,if_neg h4,hw3,Int.toNat_natCast,Nat.zero_add,z06,Array.length_toList,List.length_set,z2a,Option.bind_some,z20,z3f]
    unfold ltT
    by_cases h:cmpT e[first + root]! e[first + (2 * root + 1)]! < 0
    ·simp [h]
    ·simp [h]
  ·rw [if_neg h2]
   have h4:¬ (2 * root + 1 + 1 < hi∧ltT e[first + (2 * root + 1)]! e[first + (2 * root + 1) + 1]! = true):=fun h=>h2 h.1
   simp (disch:=omega) only [z0y,if_neg h4,hw3,Int.toNat_natCast,Nat.zero_add,z06,Array.length_toList,List.length_set,z2a,Option.bind_some,z20,z3f]
   unfold ltT
   by_cases h:cmpT e[first + root]! e[first + (2 * root + 1)]! < 0
   ·simp [h]
   ·simp [h]
end Go.Av
namespace Go.Av
open Go
set_option linter.unusedVariables false
set_option linter.unusedSimpArgs false
theorem z9y (hi first root:Nat) (d:Array Time):(Sort.siftDown ltT hi first root d).size=d.size:=zis hi first hi root d (by omega)
theorem zgf {B:Int × List Time→Option (Ctl (Int × List Time) Empty)} (g h:Nat→Array Time→Array Time) {k k0 fuel:Nat} {d:Array Time} (hk:k≤k0) (hg:∀ k d,(g k d).size=d.size) (hf:k < fuel)
  (hB:∀ (k:Nat) (d' : Array Time),k≤k0→d'.size=d.size→B ((k:Int) - 1,d'.toList)=match k with | 0=>some (.brk (-1,d'.toList)) | k + 1=>some (.next ((k:Int) - 1,(g k d').toList)))
  (h0:∀ d,h 0 d=d) (h1:∀ k d,h (k + 1) d=h k (g k d)) :
  ∃ x:Int,loopN B fuel ((k:Int) - 1,d.toList)=some (.done (x,(h k d).toList)):=by
 induction k generalizing d fuel with
 | zero =>
  cases fuel with
  | zero=>omega
  | succ fuel=>exact ⟨-1,by rw [z1k (hB 0 d hk rfl),h0]⟩
 | succ k ih =>
  cases fuel with
  | zero=>omega
  | succ fuel =>
   rw [z1w (hB (k + 1) d hk rfl),h1]
   exact ih (by omega) (by omega) (fun k' d' h2 h=>hB k' d' h2 (by rw [h,hg]))
theorem zao (hi first:Nat):∀ (k:Nat) (d:Array Time),(Sort.heapBuild ltT hi first k d).size=d.size
 | 0,d=>rfl
 | k + 1,d=>by unfold Sort.heapBuild; rw [zao hi first k,z9y]
theorem zin {fuel a b:Nat} {d:Array Time} (hab:a < b) (hb:b≤d.size) (hd:d.size < 1152921504606846976) (hf:d.size + 2 < fuel) :
  z1l fuel (a:Int) (b:Int) d.toList=some (Sort.heapSort ltT d a b).toList:=by
 unfold z1l Sort.heapSort
 have e0:IntKind.i64.wrap ((b:Int) - (a:Int))=((b - a:Nat):Int):=wsub (by omega) (by omega)
 have e1:IntKind.i64.wrap (((b - a:Nat):Int) - 1)=(((b - a:Nat):Int) - 1):=z1q (by omega) (by omega)
 have e2:IntKind.i64.wrap ((((b - a:Nat):Int) - 1).tdiv 2)=(((b - a - 1) / 2 + 1:Nat):Int) - 1:=by
  rw [Int.tdiv_eq_ediv_of_nonneg (by omega),z1q (by omega) (by omega)]; omega
 rw [e0,e1,e2]
 refine za0 (zgf (k0:=(b - a - 1) / 2 + 1) (fun k d=>Sort.siftDown ltT (b - a) a k d) (fun k d=>Sort.heapBuild ltT (b - a) a k d) (Nat.le_refl _) (fun k d=>z9y _ _ _ _) (by omega) ?_ (fun d=>rfl) (fun k d=>rfl)) (fun x => ?_)
 ·intro k e hk he
  simp only [z08]
  cases k with
  | zero=>rw [if_neg (by omega)]; rfl
  | succ k =>
   rw [if_pos (by omega),show ((k + 1:Nat):Int) - 1=(k:Int) by omega,zeh (by omega) (by omega) (by omega) (by omega),Option.bind_some]
   rw [z06 (by rw [Array.length_toList,Array.length_toList,z9y]),z7w (by unfold in64; omega)]
 ·have hsz:=zao (b - a) a ((b - a - 1) / 2 + 1) d
  simp only
  generalize Sort.heapBuild ltT (b - a) a ((b - a - 1) / 2 + 1) d=d1 at *
  refine za0 (zgf (k0:=b - a) (fun k d=>Sort.siftDown ltT k a 0 (Sort.swp d a (a + k))) (fun k d=>Sort.heapPop ltT a k d) (Nat.le_refl _) (fun k d=>by rw [z9y,z18]) (by omega) ?_ (fun d=>rfl) (fun k d=>rfl)) (fun x=>rfl)
  intro k e hk he
  simp only [z08]
  cases k with
  | zero=>rw [if_neg (by omega)]; rfl
  | succ k =>
   rw [if_pos (by omega),show ((k + 1:Nat):Int) - 1=(k:Int) by omega]
   have w1:IntKind.i64.wrap ((a:Int) + (k:Int))=((a + k:Nat):Int):=wadd (by omega)
   have w2:IntKind.i64.wrap ((k:Int) - 1)=(k:Int) - 1:=z7w (by unfold in64; omega)
   have hs:=zeh (fuel:=fuel) (lo:=0) (hi:=k) (first:=a) (d:=Sort.swp e a (a + k)) (by rw [z18]; omega) (by rw [z18]; omega) (by omega) (by rw [z18]; omega)
   rw [show ((0:Nat):Int)=0 from rfl] at hs
   simp (disch:=omega) only [w1,w2,Int.toNat_natCast,Nat.zero_add,z06,Array.length_toList,List.length_set,z20,z3f,hs,Option.bind_some,z9y,z18]
   rw [z06 trivial]
theorem zdl {a b s:Nat} {d:Array Time} (ha:a < d.size) (hb:b < d.size) (hs:s < 1000):z1a d.toList (a:Int) (b:Int) (s:Int)=some (((Sort.order2 ltT d a b s).1:Int),((Sort.order2 ltT d a b s).2.1:Int),((Sort.order2 ltT d a b s).2.2:Int)):=by
 unfold z1a Sort.order2
 simp (disch:=omega) only [Int.toNat_natCast,z06,Array.length_toList,z2a,Option.bind_some,z20,wadd1,z08]
 unfold ltT
 by_cases h:cmpT d[b]! d[a]! < 0
 ·simp [h]
 ·simp [h]
theorem z7u {a b s:Nat} {d:Array Time}:((Sort.order2 ltT d a b s).1=a∧(Sort.order2 ltT d a b s).2.1=b∨(Sort.order2 ltT d a b s).1=b∧(Sort.order2 ltT d a b s).2.1=a)∧(Sort.order2 ltT d a b s).2.2≤s + 1:=by
 unfold Sort.order2
 split
 ·exact ⟨.inr ⟨rfl,rfl⟩,Nat.le_refl _⟩
 ·exact ⟨.inl ⟨rfl,rfl⟩,Nat.le_succ _⟩
theorem zdh {a b c s:Nat} {d:Array Time} (ha:a < d.size) (hb:b < d.size) (hc:c < d.size) (hs:s < 900):z1b d.toList (a:Int) (b:Int) (c:Int) (s:Int)=some (((Sort.median ltT d a b c s).1:Int),((Sort.median ltT d a b c s).2:Int)):=by
 unfold z1b
 have m1:=z7u (a:=a) (b:=b) (s:=s) (d:=d)
 rw [zdl ha hb (by omega),Option.bind_some]
 have e:Sort.median ltT d a b c s=(let r2:=Sort.order2 ltT d (Sort.order2 ltT d a b s).2.1 c (Sort.order2 ltT d a b s).2.2; let r3:=Sort.order2 ltT d (Sort.order2 ltT d a b s).1 r2.1 r2.2.2; (r3.2.1,r3.2.2)):=rfl
 rw [e]
 generalize Sort.order2 ltT d a b s=r1 at *
 have m2:=z7u (a:=r1.2.1) (b:=c) (s:=r1.2.2) (d:=d)
 simp only
 rw [zdl (by omega) hc (by omega),Option.bind_some]
 generalize Sort.order2 ltT d r1.2.1 c r1.2.2=r2 at *
 simp only
 rw [zdl (by omega) (by omega) (by omega),Option.bind_some]
theorem zfj {a b c s:Nat} {d:Array Time}:(Sort.median ltT d a b c s).2≤s + 3:=by
 have e:Sort.median ltT d a b c s=(let r2:=Sort.order2 ltT d (Sort.order2 ltT d a b s).2.1 c (Sort.order2 ltT d a b s).2.2; let r3:=Sort.order2 ltT d (Sort.order2 ltT d a b s).1 r2.1 r2.2.2; (r3.2.1,r3.2.2)):=rfl
 rw [e]
 have m1:=z7u (a:=a) (b:=b) (s:=s) (d:=d)
 generalize Sort.order2 ltT d a b s=r1 at *
 have m2:=z7u (a:=r1.2.1) (b:=c) (s:=r1.2.2) (d:=d)
 simp only
 generalize Sort.order2 ltT d r1.2.1 c r1.2.2=r2 at *
 have m3:=z7u (a:=r1.1) (b:=r2.1) (s:=r2.2.2) (d:=d)
 omega
theorem z7s {a s:Nat} {d:Array Time} (h1:1≤a) (ha:a + 1 < d.size) (hd:d.size < 1152921504606846976) (hs:s < 900):z0c d.toList (a:Int) (s:Int)=some (((Sort.medianAdjacent ltT d a s).1:Int),((Sort.medianAdjacent ltT d a s).2:Int)):=by
 unfold z0c Sort.medianAdjacent
 rw [wsub1 h1 (by omega),wadd1 (by omega),zdh (by omega) (by omega) ha hs,Option.bind_some]
def hintN:Sort.Hint→Int
 | .unknown=>0
 | .increasing=>1
 | .decreasing=>2
theorem z7c {a s:Nat} {d:Array Time}:(Sort.medianAdjacent ltT d a s).2≤s + 3:=zfj
theorem     zlu {Q : Type} {i j k : Nat} {d : Array Time} (hd : d.size < 1152921504606846976) (hi : 1 ≤ i ∧ i + 1 < d.size) (hj : 1 ≤ j ∧ j + 1 < d.size) (hk : 1 ≤ k ∧ k + 1 < d.size) {K : Int × Int → Option Q} {r1 r2 r3 : Nat × Nat}
    (h1 : Sort.medianAdjacent ltT d i 0 = r1) (h2 : Sort.medianAdjacent ltT d j r1.2 = r2) (h3 : Sort.medianAdjacent ltT d k r2.2 = r3) :
    ((                                         z0c d.toList (i : Int) 0).bind fun r6 => (                                         z0c d.toList (j : Int) r6.2).bind fun r7 => (                                         z0c d.toList (k : Int) r7.2).bind fun r8 => (                                 z1b d.toList r6.1 r7.1 r8.1 r8.2).bind K)
      = K (((Sort.median ltT d r1.1 r2.1 r3.1 r3.2).1 : Int), ((Sort.median ltT d r1.1 r2.1 r3.1 r3.2).2 : Int)) ∧ (Sort.median ltT d r1.1 r2.1 r3.1 r3.2).2 < 1000 := by
  have z : ((0 : Nat) : Int) = 0 := rfl
  have q1 :=               z7s (a := i) (s := 0) (d := d) hi.1 hi.2 hd (by omega)
  have c1 :=                z7c (a := i) (s := 0) (d := d)
  have p1 := Sort.medianAdjacent_mem ltT d i 0
  rw [z, h1] at q1
  rw [h1] at c1 p1
  have q2 :=               z7s (a := j) (s := r1.2) (d := d) hj.1 hj.2 hd (by omega)
  have c2 :=                z7c (a := j) (s := r1.2) (d := d)
  have p2 := Sort.medianAdjacent_mem ltT d j r1.2
  rw [h2] at q2 c2 p2
  have q3 :=               z7s (a := k) (s := r2.2) (d := d) hk.1 hk.2 hd (by omega)
  have c3 :=                z7c (a := k) (s := r2.2) (d := d)
  have p3 := Sort.medianAdjacent_mem ltT d k r2.2
  rw [h3] at q3 c3 p3
  have q4 :=       zdh (a := r1.1) (b := r2.1) (c := r3.1) (s := r3.2) (d := d) (by omega) (by omega) (by omega) (by omega)
  have c4 :=        zfj (a := r1.1) (b := r2.1) (c := r3.1) (s := r3.2) (d := d)
  rw [q1, Option.bind_some]
  simp only
  rw [q2, Option.bind_some]
  simp only
  rw [q3, Option.bind_some]
  simp only
  rw [q4, Option.bind_some]
  exact ⟨rfl, by omega⟩
theorem zer {r:Nat × Nat}:(if ((r.2:Nat):Int)=0 then some (((r.1:Nat):Int),(1:Int)) else if ((r.2:Nat):Int)=12 then some (((r.1:Nat):Int),2) else some (((r.1:Nat):Int),0))=some (((r.1:Nat):Int),hintN (Sort.hintOf r.2)):=by
 unfold Sort.hintOf
 by_cases h1:r.2=0
 ·rw [if_pos (by omega),if_pos h1]; rfl
 ·rw [if_neg (by omega),if_neg h1]
  by_cases h2:r.2=12
  ·rw [if_pos (by omega),if_pos h2]; rfl
  ·rw [if_neg (by omega),if_neg h2]; rfl
theorem choosePivot_eq {a b:Nat} {d:Array Time} (hab:a < b) (hb:b≤d.size) (hd:d.size < 1152921504606846976) :
  z1h d.toList (a:Int) (b:Int)=some (((Sort.choosePivot ltT d a b).1:Int),hintN (Sort.choosePivot ltT d a b).2):=by
 unfold z1h
 have e0:IntKind.i64.wrap ((b:Int) - (a:Int))=((b - a:Nat):Int):=wsub (by omega) (by omega)
 have e1:IntKind.i64.wrap (((b - a:Nat):Int).tdiv 4)=(((b - a) / 4:Nat):Int):=by rw [Int.tdiv_eq_ediv_of_nonneg (by omega),z1q (by omega) (by omega)]; omega
 have m:∀ k:Nat,k≤3→IntKind.i64.wrap ((a:Int) + IntKind.i64.wrap ((((b - a) / 4:Nat):Int) * (k:Int)))=((a + (b - a) / 4 * k:Nat):Int):=fun k hk=>by
  have h1:(b - a) / 4 * k≤b - a:=Nat.le_trans (Nat.mul_le_mul_left _ hk) (by omega)
  have h2:(((b - a) / 4:Nat):Int) * (k:Int)=(((b - a) / 4 * k:Nat):Int):=by rw [Int.natCast_mul]
  have h3:IntKind.i64.wrap (((b - a) / 4 * k:Nat):Int)=(((b - a) / 4 * k:Nat):Int):=z7w (by unfold in64; omega)
  rw [h2,h3,wadd (by omega)]
 have m1:=m 1 (by omega)
 have m2:=m 2 (by omega)
 have m3:=m 3 (by omega)
 rw [show ((1:Nat):Int)=1 from rfl] at m1
 rw [show ((2:Nat):Int)=2 from rfl] at m2
 rw [show ((3:Nat):Int)=3 from rfl] at m3
 simp only [e0,e1,m1,m2,m3,jn_eq,z08]
 rw [Sort.choosePivot_eq]
 clear e0 e1 m m1 m2 m3
 have hraw:Sort.rawPivot ltT d a b=if b - a ≥ 8 then (if b - a ≥ 50 then (Sort.median ltT d (Sort.medianAdjacent ltT d (a + (b - a) / 4 * 1) 0).1 (Sort.medianAdjacent ltT d (a + (b - a) / 4 * 2) (Sort.medianAdjacent ltT d (a + (b - a) / 4 * 1) 0).2).1 (Sort.medianAdjacent ltT d (a + (b - a) / 4 * 3) (Sort.medianAdjacent ltT d (a + (b - a) / 4 * 2) (Sort.medianAdjacent ltT d (a + (b - a) / 4 * 1) 0).2).2).1 (Sort.medianAdjacent ltT d (a + (b - a) / 4 * 3) (Sort.medianAdjacent ltT d (a + (b - a) / 4 * 2) (Sort.medianAdjacent ltT d (a + (b - a) / 4 * 1) 0).2).2).2)
   else (Sort.median ltT d (a + (b - a) / 4 * 1) (a + (b - a) / 4 * 2) (a + (b - a) / 4 * 3) 0)) else (a + (b - a) / 4 * 2,0):=rfl
 rw [hraw]
 by_cases h8:b - a ≥ 8
 ·rw [if_pos (by omega),if_pos h8]
  by_cases h50:b - a ≥ 50
  ·rw [if_pos (by omega),if_pos h50]
   obtain ⟨q,_⟩:=zlu (d:=d) (i:=a + (b - a) / 4 * 1) (j:=a + (b - a) / 4 * 2) (k:=a + (b - a) / 4 * 3) (K:=fun (a1:Int × Int)=>if a1.2=0 then some (a1.1,(1:Int)) else if a1.2=12 then some (a1.1,2) else some (a1.1,0)) hd (by omega) (by omega) (by omega) rfl rfl rfl
   exact q.trans zer
  ·rw [if_neg (by omega),if_neg h50]
   have z:((0:Nat):Int)=0:=rfl
   have q1:=zdh (a:=a + (b - a) / 4 * 1) (b:=a + (b - a) / 4 * 2) (c:=a + (b - a) / 4 * 3) (s:=0) (d:=d) (by omega) (by omega) (by omega) (by omega)
   rw [z] at q1
   simp only
   rw [q1,Option.bind_some]
   exact zer
 ·rw [if_neg (by omega),if_neg h8]
  exact zer (r:=(a + (b - a) / 4 * 2,0))
theorem zi0 {B:Int × Int × List Time→Option (Ctl (Int × Int × List Time) Empty)} {n i j fuel:Nat} {d:Array Time} (hn:j - i≤n) (hf:n < fuel) (hj:j < d.size)
  (hB:∀ (i j:Nat) (d' : Array Time),d'.size=d.size→j < d.size→B ((i:Int),(j:Int),d'.toList)=if i < j then some (.next (((i + 1:Nat):Int),((j - 1:Nat):Int),(Sort.swp d' i j).toList)) else some (.brk ((i:Int),(j:Int),d'.toList))) :
  ∃ x y:Int,loopN B fuel ((i:Int),(j:Int),d.toList)=some (.done (x,y,(Sort.reverseLoop i j d).toList)):=by
 induction n generalizing i j d fuel with
 | zero =>
  cases fuel with
  | zero=>omega
  | succ fuel =>
   have h:=hB i j d rfl hj
   rw [if_neg (by omega)] at h
   rw [z1k h,Sort.reverseLoop,if_neg (by omega)]
   exact ⟨_,_,rfl⟩
 | succ n ih =>
  cases fuel with
  | zero=>omega
  | succ fuel =>
   have h:=hB i j d rfl hj
   by_cases hij:i < j
   ·rw [if_pos hij] at h
    rw [z1w h,Sort.reverseLoop,if_pos hij]
    exact ih (by omega) (by omega) (by rw [z18]; omega) (fun i' j' d' h1 h2=>hB i' j' d' (by rw [h1,z18]) (by rw [z18] at h2; exact h2))
   ·rw [if_neg hij] at h
    rw [z1k h,Sort.reverseLoop,if_neg hij]
    exact ⟨_,_,rfl⟩
theorem zl7 {X Y Z R Q:Type} {o:Option (Out (X × Y × Z) R)} {kn:X × Y × Z→Option Q} {kr:R→Option Q} {r:Z} {q:Option Q} (h:∃ (x:X) (y:Y),o=some (.done (x,y,r))) (hk:∀ x y,kn (x,y,r)=q):outK o kn kr=q:=by
 obtain ⟨x,y,h⟩:=h
 rw [h]
 exact hk x y
theorem zfk {fuel a b:Nat} {d:Array Time} (hab:a < b) (hb:b≤d.size) (hd:d.size < 1152921504606846976) (hf:d.size + 2 < fuel) :
  z15 fuel (a:Int) (b:Int) d.toList=some (Sort.reverseRange d a b).toList:=by
 unfold z15 Sort.reverseRange
 rw [wsub1 (by omega) (by omega)]
 refine zl7 (zi0 (n:=d.size) (by omega) (by omega) (by omega) ?_) (fun x y=>rfl)
 intro i j e he hj
 simp only [z08,intlt]
 by_cases hij:i < j
 ·rw [if_pos hij,if_pos hij]
  simp (disch:=omega) only [wsub1,wadd1,Int.toNat_natCast,Nat.zero_add,z06,Array.length_toList,List.length_set,z20,z3f]
 ·rw [if_neg hij,if_neg hij]
end Go.Av
namespace Go.Av
open Go
set_option linter.unusedVariables false
set_option linter.unusedSimpArgs false
section
variable {α:Type} [Inhabited α]
theorem z4b (p : α → Bool) (d:Array α) (j:Nat):∀ (n i:Nat),j + 1 - i≤n→Sort.scanUp p d j i≤max i (j + 1)∧i≤Sort.scanUp p d j i:=by
 intro n
 induction n with
 | zero =>
  intro i hn
  rw [Sort.scanUp,if_neg (by simp; omega)]
  omega
 | succ n ih =>
  intro i hn
  rw [Sort.scanUp]
  split
  ·rename_i h
   have:i≤j:=by simp at h; exact h.1
   have:=ih (i + 1) (by omega)
   omega
  ·omega
theorem z2m (p : α → Bool) (d:Array α) (i:Nat):∀ (j:Nat),Sort.scanDown p d i j≤j
 | 0=>Nat.le_refl _
 | j + 1=>by
  unfold Sort.scanDown
  split
  ·have:=z2m p d i j; omega
  ·omega
theorem zbd {S R:Type} {B:S→Option (Ctl S R)} (e:Nat→S) (p : α → Bool) (d:Array α) {j:Nat}:∀ (n i fuel:Nat),j + 1 - i≤n→n < fuel→(∀ i',i≤i' → i' ≤ max i (j + 1)→B (e i')=if i' ≤ j∧p d[i']! = true then some (.next (e (i' + 1))) else some (.brk (e i'))) →
  loopN B fuel (e i)=some (.done (e (Sort.scanUp p d j i))):=by
 intro n
 induction n with
 | zero =>
  intro i fuel hn hf hB
  cases fuel with
  | zero=>omega
  | succ fuel =>
   have h:=hB i (Nat.le_refl _) (by omega)
   rw [if_neg (by omega)] at h
   rw [z1k h,Sort.scanUp,if_neg (by simp; omega)]
 | succ n ih =>
  intro i fuel hn hf hB
  cases fuel with
  | zero=>omega
  | succ fuel =>
   have h:=hB i (Nat.le_refl _) (by omega)
   by_cases hc:i≤j∧p d[i]! = true
   ·rw [if_pos hc] at h
    rw [z1w h,Sort.scanUp,if_pos (by simpa using hc)]
    exact ih (i + 1) fuel (by omega) (by omega) (fun i' h1 h2=>hB i' (by omega) (by omega))
   ·rw [if_neg hc] at h
    rw [z1k h,Sort.scanUp,if_neg (by simpa using hc)]
theorem z9j {S R:Type} {B:S→Option (Ctl S R)} (e:Nat→S) (p : α → Bool) (d:Array α) {i:Nat} (hi:1≤i):∀ (j fuel:Nat),j < fuel→(∀ j',j' ≤ j→B (e j')=if i≤j' ∧ p d[j']! = true then some (.next (e (j' - 1))) else some (.brk (e j'))) →
  loopN B fuel (e j)=some (.done (e (Sort.scanDown p d i j))):=by
 intro j
 induction j with
 | zero =>
  intro fuel hf hB
  cases fuel with
  | zero=>omega
  | succ fuel =>
   have h:=hB 0 (Nat.le_refl _)
   rw [if_neg (by omega)] at h
   rw [z1k h]; rfl
 | succ j ih =>
  intro fuel hf hB
  cases fuel with
  | zero=>omega
  | succ fuel =>
   have h:=hB (j + 1) (Nat.le_refl _)
   unfold Sort.scanDown
   by_cases hc:i≤j + 1∧p d[j + 1]! = true
   ·rw [if_pos hc] at h
    rw [z1w h,if_pos (by simpa using hc)]
    exact ih fuel (by omega) (fun j' h1=>hB j' (by omega))
   ·rw [if_neg hc] at h
    rw [z1k h,if_neg (by simpa using hc)]
end
theorem z8s (a i j:Nat) (d:Array Time):Sort.partLoop ltT a i j d =
  if Sort.scanUp (fun x=>ltT x d[a]!) d j i > Sort.scanDown (fun x => !ltT x d[a]!) d (Sort.scanUp (fun x=>ltT x d[a]!) d j i) j then (Sort.scanDown (fun x => !ltT x d[a]!) d (Sort.scanUp (fun x=>ltT x d[a]!) d j i) j,d)
  else Sort.partLoop ltT a (Sort.scanUp (fun x=>ltT x d[a]!) d j i + 1) (Sort.scanDown (fun x => !ltT x d[a]!) d (Sort.scanUp (fun x=>ltT x d[a]!) d j i) j - 1) (Sort.swp d (Sort.scanUp (fun x=>ltT x d[a]!) d j i) (Sort.scanDown (fun x => !ltT x d[a]!) d (Sort.scanUp (fun x=>ltT x d[a]!) d j i) j)):=Sort.partLoop_eq ltT a i j d
theorem z7o (a i j:Nat) (d:Array Time):Sort.partEqLoop ltT a i j d =
  if Sort.scanUp (fun x => !ltT d[a]! x) d j i > Sort.scanDown (fun x=>ltT d[a]! x) d (Sort.scanUp (fun x => !ltT d[a]! x) d j i) j then (Sort.scanUp (fun x => !ltT d[a]! x) d j i,d)
  else Sort.partEqLoop ltT a (Sort.scanUp (fun x => !ltT d[a]! x) d j i + 1) (Sort.scanDown (fun x=>ltT d[a]! x) d (Sort.scanUp (fun x => !ltT d[a]! x) d j i) j - 1) (Sort.swp d (Sort.scanUp (fun x => !ltT d[a]! x) d j i) (Sort.scanDown (fun x=>ltT d[a]! x) d (Sort.scanUp (fun x => !ltT d[a]! x) d j i) j)):=Sort.partEqLoop_eq ltT a i j d
theorem zkb {B:Int × Int × List Time→Option (Ctl (Int × Int × List Time) Empty)} {a:Nat}:∀ (n i j fuel:Nat) (d:Array Time),j + 1 - i≤n→n < fuel→1≤i→i≤d.size→j < d.size →
  (∀ (i j:Nat) (d' : Array Time),d'.size=d.size→1≤i→i≤d.size→j < d.size→B ((i:Int),(j:Int),d'.toList) =
   if Sort.scanUp (fun x=>ltT x d'[a]!) d' j i > Sort.scanDown (fun x => !ltT x d'[a]!) d' (Sort.scanUp (fun x=>ltT x d'[a]!) d' j i) j
   then some (.brk (((Sort.scanUp (fun x=>ltT x d'[a]!) d' j i:Nat):Int),((Sort.scanDown (fun x => !ltT x d'[a]!) d' (Sort.scanUp (fun x=>ltT x d'[a]!) d' j i) j:Nat):Int),d'.toList))
   else some (.next (((Sort.scanUp (fun x=>ltT x d'[a]!) d' j i + 1:Nat):Int),((Sort.scanDown (fun x => !ltT x d'[a]!) d' (Sort.scanUp (fun x=>ltT x d'[a]!) d' j i) j - 1:Nat):Int),(Sort.swp d' (Sort.scanUp (fun x=>ltT x d'[a]!) d' j i) (Sort.scanDown (fun x => !ltT x d'[a]!) d' (Sort.scanUp (fun x=>ltT x d'[a]!) d' j i) j)).toList))) →
  ∃ x:Int,loopN B fuel ((i:Int),(j:Int),d.toList)=some (.done (x,((Sort.partLoop ltT a i j d).1:Int),(Sort.partLoop ltT a i j d).2.toList)):=by
 intro n
 induction n with
 | zero =>
  intro i j fuel d hn hf hi hi2 hj hB
  cases fuel with
  | zero=>omega
  | succ fuel =>
   have h:=hB i j d rfl hi hi2 hj
   have u:=(z4b (fun x=>ltT x d[a]!) d j _ i (Nat.le_refl _))
   have v:=z2m (fun x => !ltT x d[a]!) d (Sort.scanUp (fun x=>ltT x d[a]!) d j i) j
   rw [if_pos (by omega)] at h
   rw [z1k h,z8s,if_pos (by omega)]
   exact ⟨_,rfl⟩
 | succ n ih =>
  intro i j fuel d hn hf hi hi2 hj hB
  cases fuel with
  | zero=>omega
  | succ fuel =>
   have h:=hB i j d rfl hi hi2 hj
   have u:=(z4b (fun x=>ltT x d[a]!) d j _ i (Nat.le_refl _))
   have v:=z2m (fun x => !ltT x d[a]!) d (Sort.scanUp (fun x=>ltT x d[a]!) d j i) j
   rw [z8s]
   generalize Sort.scanUp (fun x=>ltT x d[a]!) d j i=i2 at *
   generalize Sort.scanDown (fun x => !ltT x d[a]!) d i2 j=j2 at *
   by_cases hc:i2 > j2
   ·rw [if_pos hc] at h
    rw [z1k h,if_pos hc]
    exact ⟨_,rfl⟩
   ·rw [if_neg hc] at h
    rw [z1w h,if_neg hc]
    exact ih _ _ _ _ (by omega) (by omega) (by omega) (by rw [z18]; omega) (by rw [z18]; omega) (fun i' j' d' h1 h2 h3 h4=>hB i' j' d' (by rw [h1,z18]) h2 (by rw [z18] at h3; exact h3) (by rw [z18] at h4; exact h4))
theorem zil {B:Int × Int × List Time→Option (Ctl (Int × Int × List Time) Empty)} {a:Nat}:∀ (n i j fuel:Nat) (d:Array Time),j + 1 - i≤n→n < fuel→1≤i→i≤d.size→j < d.size →
  (∀ (i j:Nat) (d' : Array Time),d'.size=d.size→1≤i→i≤d.size→j < d.size→B ((i:Int),(j:Int),d'.toList) =
   if Sort.scanUp (fun x => !ltT d'[a]! x) d' j i > Sort.scanDown (fun x=>ltT d'[a]! x) d' (Sort.scanUp (fun x => !ltT d'[a]! x) d' j i) j
   then some (.brk (((Sort.scanUp (fun x => !ltT d'[a]! x) d' j i:Nat):Int),((Sort.scanDown (fun x=>ltT d'[a]! x) d' (Sort.scanUp (fun x => !ltT d'[a]! x) d' j i) j:Nat):Int),d'.toList))
   else some (.next (((Sort.scanUp (fun x => !ltT d'[a]! x) d' j i + 1:Nat):Int),((Sort.scanDown (fun x=>ltT d'[a]! x) d' (Sort.scanUp (fun x => !ltT d'[a]! x) d' j i) j - 1:Nat):Int),(Sort.swp d' (Sort.scanUp (fun x => !ltT d'[a]! x) d' j i) (Sort.scanDown (fun x=>ltT d'[a]! x) d' (Sort.scanUp (fun x => !ltT d'[a]! x) d' j i) j)).toList))) →
  ∃ x:Int,loopN B fuel ((i:Int),(j:Int),d.toList)=some (.done (((Sort.partEqLoop ltT a i j d).1:Int),x,(Sort.partEqLoop ltT a i j d).2.toList)):=by
 intro n
 induction n with
 | zero =>
  intro i j fuel d hn hf hi hi2 hj hB
  cases fuel with
  | zero=>omega
  | succ fuel =>
   have h:=hB i j d rfl hi hi2 hj
   have u:=(z4b (fun x => !ltT d[a]! x) d j _ i (Nat.le_refl _))
   have v:=z2m (fun x=>ltT d[a]! x) d (Sort.scanUp (fun x => !ltT d[a]! x) d j i) j
   rw [if_pos (by omega)] at h
   rw [z1k h,z7o,if_pos (by omega)]
   exact ⟨_,rfl⟩
 | succ n ih =>
  intro i j fuel d hn hf hi hi2 hj hB
  cases fuel with
  | zero=>omega
  | succ fuel =>
   have h:=hB i j d rfl hi hi2 hj
   have u:=(z4b (fun x => !ltT d[a]! x) d j _ i (Nat.le_refl _))
   have v:=z2m (fun x=>ltT d[a]! x) d (Sort.scanUp (fun x => !ltT d[a]! x) d j i) j
   rw [z7o]
   generalize Sort.scanUp (fun x => !ltT d[a]! x) d j i=i2 at *
   generalize Sort.scanDown (fun x=>ltT d[a]! x) d i2 j=j2 at *
   by_cases hc:i2 > j2
   ·rw [if_pos hc] at h
    rw [z1k h,if_pos hc]
    exact ⟨_,rfl⟩
   ·rw [if_neg hc] at h
    rw [z1w h,if_neg hc]
    exact ih _ _ _ _ (by omega) (by omega) (by omega) (by rw [z18]; omega) (by rw [z18]; omega) (fun i' j' d' h1 h2 h3 h4=>hB i' j' d' (by rw [h1,z18]) h2 (by rw [z18] at h3; exact h3) (by rw [z18] at h4; exact h4))
theorem zli {X Y Z R Q:Type} {o:Option (Out (X × Y × Z) R)} {kn:X × Y × Z→Option Q} {kr:R→Option Q} {y:Y} {z:Z} {q:Option Q} (h:∃ x:X,o=some (.done (x,y,z))) (hk:∀ x,kn (x,y,z)=q):outK o kn kr=q:=by
 obtain ⟨x,h⟩:=h
 rw [h]
 exact hk x
theorem zlj {X Y Z R Q:Type} {o:Option (Out (X × Y × Z) R)} {kn:X × Y × Z→Option Q} {kr:R→Option Q} {x:X} {z:Z} {q:Option Q} (h:∃ y:Y,o=some (.done (x,y,z))) (hk:∀ y,kn (x,y,z)=q):outK o kn kr=q:=by
 obtain ⟨y,h⟩:=h
 rw [h]
 exact hk y
theorem zec {fuel a b pivot:Nat} {d:Array Time} (hp:a≤pivot∧pivot < b) (hab:a + 1 < b) (hb:b≤d.size) (hd:d.size < 1152921504606846976) (hf:d.size + 2 < fuel) :
  z0x fuel (a:Int) (b:Int) (pivot:Int) d.toList=some (((Sort.partitionEqual ltT d a b pivot).1:Int),(Sort.partitionEqual ltT d a b pivot).2.toList):=by
 unfold z0x Sort.partitionEqual
 have w1:IntKind.i64.wrap ((a:Int) + 1)=((a + 1:Nat):Int):=wadd1 (by omega)
 have w2:IntKind.i64.wrap ((b:Int) - 1)=((b - 1:Nat):Int):=wsub1 (by omega) (by omega)
 rw [w1,w2]
 simp only [Int.toNat_natCast,Nat.zero_add,Array.length_toList,List.length_set,z20,z3f]
 rw [z06 (by omega),z06 (by omega),z06 (by omega),z06 (by omega),z06 (by omega),z06 (by omega),z06 (by omega),z06 (by omega)]
 have hsz:=z18 d a pivot
 generalize Sort.swp d a pivot=d1 at *
 refine zlj (zil (a:=a) d1.size (a + 1) (b - 1) fuel d1 (by omega) (by omega) (by omega) (by omega) (by omega) ?_) (fun x=>rfl)
 intro i j e he hi hi2 hj
 simp only
 have u:=(z4b (fun x => !ltT e[a]! x) e j _ i (Nat.le_refl _))
 have v:=z2m (fun x=>ltT e[a]! x) e (Sort.scanUp (fun x => !ltT e[a]! x) e j i) j
 rw [zbd (R:=Empty) (fun i:Nat=>(i:Int)) (fun x => !ltT e[a]! x) e (j:=j) d1.size i fuel (by omega) (by omega) (fun k h1 h2 => ?_)]
 ·simp only [z2o]
  generalize Sort.scanUp (fun x => !ltT e[a]! x) e j i=i2 at *
  rw [z9j (R:=Empty) (fun i:Nat=>(i:Int)) (fun x=>ltT e[a]! x) e (i:=i2) (by omega) j fuel (by omega) (fun k h1 => ?_)]
  ·simp only [z2o,z08,intlt,gt_iff_lt]
   generalize Sort.scanDown (fun x=>ltT e[a]! x) e i2 j=j2 at *
   by_cases hc:j2 < i2
   ·rw [if_pos hc,if_pos hc]
   ·rw [if_neg hc,if_neg hc]
    simp (disch:=omega) only [wsub1,wadd1,Int.toNat_natCast,Nat.zero_add,z06,Array.length_toList,List.length_set,z20,z3f]
  ·simp only [jn_eq,z08,intle]
   by_cases hc:i2≤k
   ·rw [if_pos hc]
    simp (disch:=omega) only [wsub1,Int.toNat_natCast,Nat.zero_add,z06,Array.length_toList,z2a,Option.bind_some,z20,z08,hc,true_and]
    unfold ltT
    by_cases h:cmpT e[a]! e[k]! < 0
    ·simp [h]
    ·simp [h]
   ·rw [if_neg hc,if_neg (fun h=>hc h.1),z0y]
 ·simp only [jn_eq,z08,intle]
  by_cases hc:k≤j
  ·rw [if_pos hc]
   simp (disch:=omega) only [wadd1,Int.toNat_natCast,Nat.zero_add,z06,Array.length_toList,z2a,Option.bind_some,z20,hc,true_and]
   unfold ltT
   by_cases h:cmpT e[a]! e[k]! < 0
   ·simp [h]
   ·simp [h]
  ·rw [if_neg hc,if_neg (fun h=>hc h.1),z0y]
theorem zh3 {a:Nat}:∀ (n i j:Nat) (d:Array Time),j + 1 - i≤n→1≤i→i≤d.size→j < d.size→(Sort.partLoop ltT a i j d).1≤j∧(Sort.partLoop ltT a i j d).2.size=d.size:=by
 intro n
 induction n with
 | zero =>
  intro i j d hn hi hi2 hj
  have u:=(z4b (fun x=>ltT x d[a]!) d j _ i (Nat.le_refl _))
  have v:=z2m (fun x => !ltT x d[a]!) d (Sort.scanUp (fun x=>ltT x d[a]!) d j i) j
  rw [z8s,if_pos (by omega)]
  exact ⟨v,rfl⟩
 | succ n ih =>
  intro i j d hn hi hi2 hj
  have u:=(z4b (fun x=>ltT x d[a]!) d j _ i (Nat.le_refl _))
  have v:=z2m (fun x => !ltT x d[a]!) d (Sort.scanUp (fun x=>ltT x d[a]!) d j i) j
  rw [z8s]
  generalize Sort.scanUp (fun x=>ltT x d[a]!) d j i=i2 at *
  generalize Sort.scanDown (fun x => !ltT x d[a]!) d i2 j=j2 at *
  by_cases hc:i2 > j2
  ·rw [if_pos hc]; exact ⟨v,rfl⟩
  ·rw [if_neg hc]
   have:=ih (i2 + 1) (j2 - 1) (Sort.swp d i2 j2) (by omega) (by omega) (by rw [z18]; omega) (by rw [z18]; omega)
   rw [z18] at this
   omega
theorem zhg {fuel a b pivot:Nat} {d:Array Time} (hp:a≤pivot∧pivot < b) (hab:a + 1 < b) (hb:b≤d.size) (hd:d.size < 1152921504606846976) (hf:d.size + 2 < fuel) :
  z1i fuel (a:Int) (b:Int) (pivot:Int) d.toList=some (((Sort.partition ltT d a b pivot).1:Int),(Sort.partition ltT d a b pivot).2.1,(Sort.partition ltT d a b pivot).2.2.toList):=by
 unfold z1i Sort.partition
 have w1:IntKind.i64.wrap ((a:Int) + 1)=((a + 1:Nat):Int):=wadd1 (by omega)
 have w2:IntKind.i64.wrap ((b:Int) - 1)=((b - 1:Nat):Int):=wsub1 (by omega) (by omega)
 rw [w1,w2]
 simp only [Int.toNat_natCast,Nat.zero_add,Array.length_toList,List.length_set,z20,z3f]
 rw [z06 (by omega),z06 (by omega),z06 (by omega),z06 (by omega),z06 (by omega),z06 (by omega),z06 (by omega),z06 (by omega)]
 have hsz:=z18 d a pivot
 generalize Sort.swp d a pivot=e at *
 have u:=(z4b (fun x=>ltT x e[a]!) e (b - 1) _ (a + 1) (Nat.le_refl _))
 have v:=z2m (fun x => !ltT x e[a]!) e (Sort.scanUp (fun x=>ltT x e[a]!) e (b - 1) (a + 1)) (b - 1)
 rw [zbd (R:=Empty) (fun i:Nat=>((i:Int),((b - 1:Nat):Int))) (fun x=>ltT x e[a]!) e (j:=b - 1) e.size (a + 1) fuel (by omega) (by omega) (fun k h1 h2 => ?_)]
 ·simp only [z2o]
  generalize Sort.scanUp (fun x=>ltT x e[a]!) e (b - 1) (a + 1)=i2 at *
  rw [z9j (R:=Empty) (fun i:Nat=>(i:Int)) (fun x => !ltT x e[a]!) e (i:=i2) (by omega) (b - 1) fuel (by omega) (fun k h1 => ?_)]
  ·simp only [z2o,z08,intlt,gt_iff_lt]
   generalize Sort.scanDown (fun x => !ltT x e[a]!) e i2 (b - 1)=j2 at *
   by_cases hc:j2 < i2
   ·rw [if_pos hc,if_pos hc]
    simp (disch:=omega) only [Int.toNat_natCast,Nat.zero_add,z06,Array.length_toList,List.length_set,z20,z3f]
   ·rw [if_neg hc,if_neg hc]
    have w3:IntKind.i64.wrap ((i2:Int) + 1)=((i2 + 1:Nat):Int):=wadd1 (by omega)
    have w4:IntKind.i64.wrap ((j2:Int) - 1)=((j2 - 1:Nat):Int):=wsub1 (by omega) (by omega)
    rw [w3,w4]
    simp only [Int.toNat_natCast,Nat.zero_add,Array.length_toList,List.length_set,z20,z3f]
    rw [z06 (by omega),z06 (by omega),z06 (by omega),z06 (by omega),z06 (by omega),z06 (by omega),z06 (by omega),z06 (by omega)]
    have hsz2:=z18 e i2 j2
    generalize Sort.swp e i2 j2=f at *
    refine zli (zkb (a:=a) f.size (i2 + 1) (j2 - 1) fuel f (by omega) (by omega) (by omega) (by omega) (by omega) ?_) (fun x => ?_)
    ·intro i j g he hi hi2 hj
     simp only
     have u:=(z4b (fun x=>ltT x g[a]!) g j _ i (Nat.le_refl _))
     have v:=z2m (fun x => !ltT x g[a]!) g (Sort.scanUp (fun x=>ltT x g[a]!) g j i) j
     rw [zbd (R:=Empty) (fun i:Nat=>(i:Int)) (fun x=>ltT x g[a]!) g (j:=j) f.size i fuel (by omega) (by omega) (fun k h1 h2 => ?_)]
     ·simp only [z2o]
      generalize Sort.scanUp (fun x=>ltT x g[a]!) g j i=i3 at *
      rw [z9j (R:=Empty) (fun i:Nat=>(i:Int)) (fun x => !ltT x g[a]!) g (i:=i3) (by omega) j fuel (by omega) (fun k h1 => ?_)]
      ·simp only [z2o,z08,intlt,gt_iff_lt]
       generalize Sort.scanDown (fun x => !ltT x g[a]!) g i3 j=j3 at *
       by_cases hc:j3 < i3
       ·rw [if_pos hc,if_pos hc]
       ·rw [if_neg hc,if_neg hc]
        simp (disch:=omega) only [wsub1,wadd1,Int.toNat_natCast,Nat.zero_add,z06,Array.length_toList,List.length_set,z20,z3f]
      ·simp only [jn_eq,z08,intle]
       by_cases hc:i3≤k
       ·rw [if_pos hc]
        simp (disch:=omega) only [wsub1,Int.toNat_natCast,Nat.zero_add,z06,Array.length_toList,z2a,Option.bind_some,z20,z08,hc,true_and]
        unfold ltT
        by_cases h:cmpT g[k]! g[a]! < 0
        ·simp [h]
        ·simp [h]
       ·rw [if_neg hc,if_neg (fun h=>hc h.1),z0y]
     ·simp only [jn_eq,z08,intle]
      by_cases hc:k≤j
      ·rw [if_pos hc]
       simp (disch:=omega) only [wadd1,Int.toNat_natCast,Nat.zero_add,z06,Array.length_toList,z2a,Option.bind_some,z20,hc,true_and]
       unfold ltT
       by_cases h:cmpT g[k]! g[a]! < 0
       ·simp [h]
       ·simp [h]
      ·rw [if_neg hc,if_neg (fun h=>hc h.1),z0y]
    ·have hl:=zh3 (a:=a) f.size (i2 + 1) (j2 - 1) f (by omega) (by omega) (by omega) (by omega)
     generalize Sort.partLoop ltT a (i2 + 1) (j2 - 1) f=r at *
     simp (disch:=omega) only [Int.toNat_natCast,Nat.zero_add,z06,Array.length_toList,List.length_set,z20,z3f]
  ·simp only [jn_eq,z08,intle]
   by_cases hc:i2≤k
   ·rw [if_pos hc]
    simp (disch:=omega) only [wsub1,Int.toNat_natCast,Nat.zero_add,z06,Array.length_toList,z2a,Option.bind_some,z20,z08,hc,true_and]
    unfold ltT
    by_cases h:cmpT e[k]! e[a]! < 0
    ·simp [h]
    ·simp [h]
   ·rw [if_neg hc,if_neg (fun h=>hc h.1),z0y]
 ·simp only [jn_eq,z08,intle]
  by_cases hc:k≤b - 1
  ·rw [if_pos hc]
   simp (disch:=omega) only [wadd1,Int.toNat_natCast,Nat.zero_add,z06,Array.length_toList,z2a,Option.bind_some,z20,hc,true_and]
   unfold ltT
   by_cases h:cmpT e[k]! e[a]! < 0
   ·simp [h]
   ·simp [h]
  ·rw [if_neg hc,if_neg (fun h=>hc h.1),z0y]
end Go.Av
