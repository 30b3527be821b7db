import Derived.Test.YtgpkbkdmpdmmiaaGreatL84
import Derived.Test.YtgpkbkdmpdmmiaaGreatProg
import Derived.Sort.LotD3
import Derived.Sort.LotD4
import Derived.Sort.LotA
import Derived.Sort.LotB
import Derived.Sort.LotC
namespace Go.Av
open Go Go.Proofs
set_option linter.unusedVariables false
set_option linter.unusedSimpArgs false
set_option maxRecDepth 100000 in
theorem freshetlaw06_row_ok {p0:Int} {q:List Value} (h:freshetlaw06_row p0=some q) :
  Summ Tryz.prog 45 [cD (dI p0)] [] (cD (lD 3 encValue q)) []:=by
 refine Summ.intro Tryz.func45 rfl (by kernel_rfl) (by kernel_rfl) [] rfl ?_
 rintro ⟨P,w0,G0,V,LL,lk,N, φ0,fx⟩ rfl rfl rfl rfl
 unfold freshetlaw06_row at h
 refine Tri.sg [0] [] (allT_ok 1) ?_
 refine Tri.seqS ?_
 refine Tri.reg ?_
 refine At.seg 2 [4] [] (s':=⟨[(4,.agg [.d (.bool false),.d (dI p0),.d (.str (bs []))])],[]⟩) (by kernel_rfl) (allT_ok 2) ?_
 refine At.one rfl (One.buildSlice (z:=[.d (.bool false),.d (dI 0),.d (.str (bs []))]) (cells:=[.d (.bool false),.d (dI p0),.d (.str (bs []))]) (xs:=List.map (encValue) ([(⟨false,p0,(bs [])⟩:Value)]:List Value)) rfl rfl rfl rfl (by kernel_rfl) rfl rfl (by kernel_rfl) rfl rfl rfl (by kernel_rfl) rfl ⟨⟨rfl,.refl _⟩,trivial⟩) ?_
 refine At.le [5] (fun k hk h=>by first | (cases h; done) | (simp at hk h; omega)) ⟨[(5,cD (lD 3 encValue ([(⟨false,p0,(bs [])⟩:Value)]:List Value))),(4,.agg [.d (.bool false),.d (dI p0),.d (.str (bs []))])],[]⟩ ⟨⟨_,rfl,.c (.own rfl (List.mem_singleton.2 rfl) (Nat.le_of_ble_eq_true rfl) rfl (encs_getD (encValue) ([(⟨false,p0,(bs [])⟩:Value)]:List Value)))⟩,⟨_,rfl,.refl _⟩,trivial⟩ trivial ?_
 refine At.sg 1 [2] [] (allT_ok 1) ?_
 refine At.done rfl ?_
 refine Tri.ret ?_
 cases h
 exact RetAt.k
set_option maxRecDepth 100000 in
theorem diff_Even_ok {fuel:Nat} {p0:List Update} {q:Bool} (h:diff_Even fuel p0=some q) :
    Summ Tryz.prog 59 [cD (lD 6 encUpdate p0)] [] (cD (.bool q)) []:=by
  refine Summ.intro Tryz.func59 rfl (by kernel_rfl) (by kernel_rfl) [] rfl ?_
  rintro ⟨P,w0,G0,V,LL,lk,N, φ0,fx⟩ rfl rfl rfl rfl
  unfold diff_Even at h
  refine Tri.sg [0] [] (allT_ok 1) ?_
  refine Tri.seqS ?_
  refine Tri.sg [0,5,6,7] [] (allT_ok 3) ?_
  refine Tri.ln 5 p0.length fun hlena2 => ?_
  refine Tri.rK 7 () (fun (x:Bool) s=>RetAt Tryz.prog Tryz.f59 (cD (.bool x)) [] s) (fun (a2:Unit)=>⟨[(0,cD (lD 6 encUpdate p0)),(5,cD (lD 6 encUpdate p0)),(6,cD (dI (p0.length:Int)))],[]⟩) [7,0,5,6] [] [8,7,0,5,6] [] [0,5,6] [] [7,0,5,6] [] h hlena2 ?_ ?_ ?_
  ·intro i1 a2 c hii1 h
   refine Tri.segL [0,3,4,5,6,7] [4] ⟨[(0,cD (lD 6 encUpdate p0)),(3,cD (dI ((i1:Nat):Int))),(4,.c (.ptr 4 0)),(5,cD (lD 6 encUpdate p0)),(6,cD (dI (p0.length:Int))),(7,cD (dI ((i1:Nat):Int)))],[(4,.box (cUpdate (p0.getD i1 default)))]⟩ _ (by kernel_rfl) (tN 1 (ai (show ((0:Int)≤((i1:Nat):Int)∧((i1:Nat):Int) < (p0.length:Int)) from ⟨by omega,by omega⟩) (allT_ok 4))) ?_
   refine Tri.seqJ (fun (a5:Bool)=>⟨[(0,cD (lD 6 encUpdate p0)),(5,cD (lD 6 encUpdate p0)),(6,cD (dI (p0.length:Int))),(7,cD (dI ((i1:Nat):Int))),(28,cD (.bool a5))],[]⟩) h (fun a5 h => ?_) (fun j6 h => ?_)
   ·refine Tri.condK h (fun h => ?_) (fun h => ?_)
    ·refine Tri.sg [2] [] (allT_ok 1) ?_
     refine Tri.ret ?_
     cases h
     exact RetAt.k
    ·refine Tri.kp [7,0,5,6] [] ?_
     refine Tri.skip ?_
     cases h
     exact kr
   ·rcases bf_cases h with ⟨hp7,h⟩ | ⟨hp7,h⟩
    ·refine Tri.dC [.a [4] [],.a [12] [4],.a [13] [],.m ⟨[(14,cD (.bool (decide ((p0.getD i1 default).diff=0))))],[]⟩ ⟨[(15,.c (.d (.bool true)))],[]⟩ [] [] [],.a [3,15] [],.a [15,16] [],.a [15,17] [],.a [0,18] [],.a [3,18] [],.a [18,20] [],.a [18,19,21] [],.a [18,22] [],.a [4,18] [4],.a [18,23,24] [],.a [18,25] [],.a [15,18,26] [],.a [15,27] []] [0,5,6,7,28] [] (allT_ok 4) (.a (.a (.a (.m ?_ (.a (.a (.a (.a (.a (.a (.a (.a (.a (.a (.a (.a (.a .z))))))))))))))))) ?_
     · exact DOk.stepP (fun b => .val (.c (.d (.bool b))) (True)) (p:=(decide ((p0.getD i1 default).diff=0))) hp7 (fun r=>by kernel_rfl) (fun r=>by kernel_rfl) trivial (by kernel_rfl) (by kernel_rfl) (fun r=>rfl)
     exact ⟨_,h,kr⟩
    ·rcases bf_cases h with ⟨hp8,h⟩ | ⟨hp8,h⟩
     ·obtain ⟨hc9,h⟩:=need_elim h
      obtain ⟨r10,hr10,h⟩:=bind_elim h
      refine Tri.dC [.a [4] [],.a [12] [4],.a [13] [],.m ⟨[(14,cD (.bool (decide ((p0.getD i1 default).diff=0))))],[]⟩ ⟨[(15,.c (.d (.bool false)))],[]⟩ [] [] [],.a [3,15] [],.a [15,16] [],.m ⟨[(15,cD (.bool false)),(17,cD (.bool (decide (0 < ((i1:Nat):Int)))))],[]⟩ ⟨[(18,.c (.d (.bool true)))],[]⟩ [] [] [],.a [0,18] [],.a [3,18] [],.a [18,20] [],.a [18,19,21] [],.a [18,22] [],.a [4,18] [4],.m ⟨[(18,cD (.bool true)),(23,.agg (cUpdate (p0.getD ((IntKind.i64.wrap (((i1:Nat):Int) - 1)).toNat) default))),(24,.agg (cUpdate (p0.getD i1 default)))],[]⟩ ⟨[(25,cD (dI r10))],[]⟩ [] [] [],.a [18,25] [],.a [15,18,26] [],.a [15,27] []] [0,5,6,7,28] [] (tN 8 (ai hc9 (allT_ok 5))) (.a (.a (.a (.m ?_ (.a (.a (.m ?_ (.a (.a (.a (.a (.a (.a (.m ?_ (.a (.a (.a .z))))))))))))))))) ?_
      · exact DOk.stepP (fun b => .val (.c (.d (.bool b))) (True)) (p:=(decide ((p0.getD i1 default).diff=0))) hp7 (fun r=>by kernel_rfl) (fun r=>by kernel_rfl) trivial (by kernel_rfl) (by kernel_rfl) (fun r=>rfl)
      · exact DOk.stepP (fun b => .val (.c (.d (.bool b))) (True)) (p:=(decide (0 < ((i1:Nat):Int)))) hp8 (fun r=>by kernel_rfl) (fun r=>by kernel_rfl) trivial (by kernel_rfl) (by kernel_rfl) (fun r=>rfl)
      · exact DOk.cA [] [.agg (cUpdate (p0.getD ((IntKind.i64.wrap (((i1:Nat):Int) - 1)).toNat) default)),.agg (cUpdate (p0.getD i1 default))] (diff_Compare_ok hr10) fun r=>(.cons (.refl _) (.cons (.refl _) .nil))
      exact ⟨_,h,kr⟩
     ·refine Tri.dC [.a [4] [],.a [12] [4],.a [13] [],.m ⟨[(14,cD (.bool (decide ((p0.getD i1 default).diff=0))))],[]⟩ ⟨[(15,.c (.d (.bool false)))],[]⟩ [] [] [],.a [3,15] [],.a [15,16] [],.m ⟨[(15,cD (.bool false)),(17,cD (.bool (decide (0 < ((i1:Nat):Int)))))],[]⟩ ⟨[(18,.c (.d (.bool false)))],[]⟩ [] [] [],.a [0,18] [],.a [3,18] [],.a [18,20] [],.a [18,19,21] [],.a [18,22] [],.a [4,18] [4],.a [18,23,24] [],.a [18,25] [],.a [15,18,26] [],.a [15,27] []] [0,5,6,7,28] [] (allT_ok 7) (.a (.a (.a (.m ?_ (.a (.a (.m ?_ (.a (.a (.a (.a (.a (.a (.a (.a (.a (.a .z))))))))))))))))) ?_
      · exact DOk.stepP (fun b => .val (.c (.d (.bool b))) (True)) (p:=(decide ((p0.getD i1 default).diff=0))) hp7 (fun r=>by kernel_rfl) (fun r=>by kernel_rfl) trivial (by kernel_rfl) (by kernel_rfl) (fun r=>rfl)
      · exact DOk.stepP (fun b => .val (.c (.d (.bool b))) (True)) (p:=(decide (0 < ((i1:Nat):Int)))) hp8 (fun r=>by kernel_rfl) (fun r=>by kernel_rfl) trivial (by kernel_rfl) (by kernel_rfl) (fun r=>rfl)
      exact ⟨_,h,kr⟩
  ·intro a3 h
   refine Tri.seqS ?_
   refine Tri.reg ?_
   refine At.sg 1 [30] [] (allT_ok 1) ?_
   obtain ⟨r4,hr4,h⟩:=bind_elim h
   refine At.cA [] [cD (lD 6 encUpdate p0)] (diff_Check_ok hr4) (.cons (.refl _) .nil) ?_
   refine At.sg 2 [2] [] (allT_ok 2) ?_
   refine At.done rfl ?_
   refine Tri.ret ?_
   cases h
   exact RetAt.k
  · exact fun x s hx hr=>by cases hx; exact hr
set_option maxRecDepth 100000 in
theorem batch_settled_1_ok {p0:Update} {p1:List Time} {q:Bool} (h:batch_settled_1 p0 p1=some q) :
  Summ Tryz.prog 88 [.agg (cUpdate p0),cD (.cptr [lD 3 encTime p1])] [] (cD (.bool q)) []:=by
 refine Summ.intro Tryz.func88 rfl (by kernel_rfl) (by kernel_rfl) [] rfl ?_
 rintro ⟨P,w0,G0,V,LL,lk,N, φ0,fx⟩ rfl rfl rfl rfl
 unfold batch_settled_1 at h
 refine Tri.le [] (fun k hk=>by cases hk) ⟨[(0,.agg (cUpdate p0)),(1,.c (.eptr [lD 3 encTime p1]))],[]⟩ ⟨⟨_,rfl,.refl _⟩,⟨_,rfl,.c (.cptrE _)⟩,trivial⟩ trivial ?_
 refine Tri.sg [1,2] [2] (allT_ok 2) ?_
 refine Tri.seqS ?_
 obtain ⟨r1,hr1,h⟩:=bind_elim h
 refine Tri.dC [.a [2] [],.a [4] [2],.a [1] [],.m ⟨[(5,.agg (cTime p0.time)),(6,cD (lD 3 encTime p1))],[]⟩ ⟨[(7,.agg (cTime r1))],[]⟩ [] [] [],.a [2] [],.a [8] [2],.m ⟨[(7,.agg (cTime r1)),(9,.agg (cTime p0.time))],[]⟩ ⟨[(10,cD (.bool (!(eqTime r1 p0.time))))],[]⟩ [] [] [],.a [10] []] [3] [] (allT_ok 6) (.a (.a (.a (.m ?_ (.a (.a (.m ?_ (.a .z)))))))) ?_
 ·exact DOk.cA [] [.agg (cTime p0.time),cD (lD 3 encTime p1)] (moment_Advance_ok hr1) fun r=>(.cons (.refl _) (.cons (.refl _) .nil))
 ·exact DOk.one fun r _=>One.eql (b:=(eqTime r1 p0.time)) (d:=9) rfl (by kernel_rfl) rfl (.inr rfl) rfl rfl (by kernel_rfl) rfl (by kernel_rfl)
 refine Tri.ret ?_
 cases h
 exact RetAt.k
set_option maxRecDepth 100000 in
theorem slices_IndexFuncfreshet_api_Update_freshet_api_Update_Update__batch_settled_1_ok {p0:List Update} {p1_0:List Time} {q:Int} (h:slices_IndexFuncfreshet_api_Update_freshet_api_Update_Update__batch_settled_1 p0 p1_0=some q) :
    Summ Tryz.prog 107 [cD (lD 6 encUpdate p0),cD (.fn 88 [.cptr [lD 3 encTime p1_0]])] [] (cD (dI q)) []:=by
  refine Summ.intro Tryz.func107 rfl (by kernel_rfl) (by kernel_rfl) [] rfl ?_
  rintro ⟨P,w0,G0,V,LL,lk,N, φ0,fx⟩ rfl rfl rfl rfl
  unfold slices_IndexFuncfreshet_api_Update_freshet_api_Update_Update__batch_settled_1 at h
  refine Tri.sg [0,1] [] (allT_ok 1) ?_
  refine Tri.seqS ?_
  refine Tri.sg [0,1,7,8] [] (allT_ok 3) ?_
  refine Tri.ln 0 p0.length fun hlena2 => ?_
  refine Tri.rK 8 () (fun (x:Int) s=>RetAt Tryz.prog Tryz.f107 (cD (dI x)) [] s) (fun (a2:Unit)=>⟨[(0,cD (lD 6 encUpdate p0)),(1,cD (.fn 88 [.cptr [lD 3 encTime p1_0]])),(7,cD (dI (p0.length:Int)))],[]⟩) [8,0,1,7] [] [9,8,0,1,7] [] [0,1,7] [] [8,0,1,7] [] h hlena2 ?_ ?_ ?_
  ·intro i1 a2 c hii1 h
   refine Tri.sg [0,1,5,7,8] [] (allT_ok 2) ?_
   refine Tri.seqS ?_
   refine Tri.reg ?_
   refine At.sg 5 [0,1,5,7,8,11,15] [] (tN 3 (ai (show ((0:Int)≤((i1:Nat):Int)∧((i1:Nat):Int) < (p0.length:Int)) from ⟨by omega,by omega⟩) (allT_ok 1))) ?_
   obtain ⟨r4,hr4,h⟩:=bind_elim h
   refine At.cA [.cptr [lD 3 encTime p1_0]] [.agg (cUpdate (p0.getD i1 default)),cD (.cptr [lD 3 encTime p1_0])] (batch_settled_1_ok hr4) (.cons (.refl _) (.cons (.refl _) .nil)) ?_
   refine At.done rfl ?_
   refine Tri.condK h (fun h => ?_) (fun h => ?_)
   ·refine Tri.sg [4] [] (allT_ok 2) ?_
    refine Tri.ret ?_
    cases h
    exact RetAt.k
   ·refine Tri.kp [8,0,1,7] [] ?_
    refine Tri.skip ?_
    cases h
    exact kr
  ·intro a3 h
   refine Tri.sg [4] [] (allT_ok 1) ?_
   refine Tri.ret ?_
   cases h
   exact RetAt.k
  · exact fun x s hx hr=>by cases hx; exact hr
set_option maxRecDepth 100000 in
theorem slices_ContainsFuncfreshet_api_Update_freshet_api_Update_Update__batch_settled_1_ok {p0:List Update} {p1_0:List Time} {q:Bool} (h:slices_ContainsFuncfreshet_api_Update_freshet_api_Update_Update__batch_settled_1 p0 p1_0=some q) :
  Summ Tryz.prog 87 [cD (lD 6 encUpdate p0),cD (.fn 88 [.cptr [lD 3 encTime p1_0]])] [] (cD (.bool q)) []:=by
 refine Summ.intro Tryz.func87 rfl (by kernel_rfl) (by kernel_rfl) [] rfl ?_
 rintro ⟨P,w0,G0,V,LL,lk,N, φ0,fx⟩ rfl rfl rfl rfl
 unfold slices_ContainsFuncfreshet_api_Update_freshet_api_Update_Update__batch_settled_1 at h
 refine Tri.sg [0,1] [] (allT_ok 1) ?_
 refine Tri.seqS ?_
 refine Tri.reg ?_
 refine At.sg 2 [5,6] [] (allT_ok 2) ?_
 obtain ⟨r1,hr1,h⟩:=bind_elim h
 refine At.cA [] [cD (lD 6 encUpdate p0),cD (.fn 88 [.cptr [lD 3 encTime p1_0]])] (slices_IndexFuncfreshet_api_Update_freshet_api_Update_Update__batch_settled_1_ok hr1) (.cons (.refl _) (.cons (.refl _) .nil)) ?_
 refine At.sg 2 [4] [] (allT_ok 2) ?_
 refine At.done rfl ?_
 refine Tri.ret ?_
 cases h
 exact RetAt.k
set_option maxRecDepth 100000 in
theorem batch_settled_ok {fuel:Nat} {p0:List Update} {p1:List Time} {q:Bool} (h:batch_settled fuel p0 p1=some q) :
    Summ Tryz.prog 47 [cD (lD 6 encUpdate p0),cD (lD 3 encTime p1)] [] (cD (.bool q)) []:=by
  refine Summ.intro Tryz.func47 rfl (by kernel_rfl) (by kernel_rfl) [] rfl ?_
  rintro ⟨P,w0,G0,V,LL,lk,N, φ0,fx⟩ rfl rfl rfl rfl
  unfold batch_settled at h
  refine Tri.sg [0,3] [3] (allT_ok 2) ?_
  refine Tri.seqJ (fun (a1:Bool)=>⟨[(4,cD (.bool a1))],[]⟩) h (fun a1 h => ?_) (fun j2 h => ?_)
  ·refine Tri.ret ?_
   cases h
   exact RetAt.k
  ·refine Tri.reg ?_
   refine At.sg 1 [0,3,5] [3] (allT_ok 1) ?_
   obtain ⟨r3,hr3,h⟩:=bind_elim h
   refine At.cA [] [cD (lD 6 encUpdate p0)] (diff_Even_ok hr3) (.cons (.refl _) .nil) ?_
   refine At.sg 1 [0,3,7] [3] (allT_ok 1) ?_
   refine At.cs [7] h (fun h => ?_) (fun h => ?_)
   ·refine At.seg 1 [3,7,8] [3] (s':=⟨[(3,.c (.ptr 3 0)),(7,cD (.bool true)),(8,cD (lD 6 encUpdate p0))],[(3,.box [.d (lD 3 encTime p1)])]⟩) (by kernel_rfl) (allT_ok 1) ?_
    refine At.le [3] (fun k hk h=>by first | (cases h; done) | (simp at hk h; omega)) ⟨[(3,cD (.cptr [lD 3 encTime p1])),(7,cD (.bool true)),(8,cD (lD 6 encUpdate p0))],[]⟩ ⟨⟨_,rfl,.c (.box (ds:=[lD 3 encTime p1]) rfl (by simp))⟩,⟨_,rfl,.refl _⟩,⟨_,rfl,.refl _⟩,trivial⟩ trivial ?_
    refine At.seg 1 [9,3,7,8] [] (s':=⟨[(9,cD (.fn 88 [.cptr [lD 3 encTime p1]])),(3,cD (.cptr [lD 3 encTime p1])),(7,cD (.bool true)),(8,cD (lD 6 encUpdate p0))],[]⟩) (by kernel_rfl) (allT_ok 1) ?_
    refine At.le [] (fun k hk=>by cases hk) ⟨[(9,cD (.fn 88 [.cptr [lD 3 encTime p1]])),(3,.c (.eptr [lD 3 encTime p1])),(7,cD (.bool true)),(8,cD (lD 6 encUpdate p0))],[]⟩ ⟨⟨_,rfl,.refl _⟩,⟨_,rfl,.c (.cptrE _)⟩,⟨_,rfl,.refl _⟩,⟨_,rfl,.refl _⟩,trivial⟩ trivial ?_
    obtain ⟨r4,hr4,h⟩:=bind_elim h
    refine At.cA [] [cD (lD 6 encUpdate p0),cD (.fn 88 [.cptr [lD 3 encTime p1]])] (slices_ContainsFuncfreshet_api_Update_freshet_api_Update_Update__batch_settled_1_ok hr4) (.cons (.refl _) (.cons (.refl _) .nil)) ?_
    refine At.sg 3 [4] [] (allT_ok 3) ?_
    refine At.done rfl ?_
    exact ⟨_,h,kr⟩
   ·refine At.sg 6 [4] [] (allT_ok 2) ?_
    refine At.done rfl ?_
    exact ⟨_,h,kr⟩
set_option maxRecDepth 100000 in
theorem batch_Check_ok {fuel:Nat} {p0:Batch} {q:Int} (h:batch_Check fuel p0=some q) :
    Summ Tryz.prog 15 [.agg (cBatch p0)] [] (cD (dI q)) []:=by
  refine Summ.intro Tryz.func15 rfl (by kernel_rfl) (by kernel_rfl) [] rfl ?_
  rintro ⟨P,w0,G0,V,LL,lk,N, φ0,fx⟩ rfl rfl rfl rfl
  unfold batch_Check at h
  refine Tri.sg [1] [1] (allT_ok 2) ?_
  refine Tri.seqS ?_
  refine Tri.seqJ (fun (a1:Bool)=>⟨[(14,cD (.bool a1))],[]⟩) h (fun a1 h => ?_) (fun j2 h => ?_)
  ·refine Tri.condK h (fun h => ?_) (fun h => ?_)
   ·refine Tri.sg [2] [] (allT_ok 1) ?_
    refine Tri.ret ?_
    cases h
    exact RetAt.k
   ·refine Tri.skip ?_
    refine Tri.sg [2] [] (allT_ok 1) ?_
    refine Tri.ret ?_
    cases h
    exact RetAt.k
  ·refine Tri.reg ?_
   refine At.sg 2 [1,4] [1] (allT_ok 2) ?_
   obtain ⟨r3,hr3,h⟩:=bind_elim h
   refine At.cA [] [cD (lD 3 encTime p0.since)] (batch_front_ok hr3) (.cons (.refl _) .nil) ?_
   refine At.sg 2 [1,7] [1] (allT_ok 2) ?_
   refine At.cs [7] h (fun h => ?_) (fun h => ?_)
   ·refine At.sg 7 [14] [] (allT_ok 1) ?_
    refine At.done rfl ?_
    exact ⟨_,h,kr⟩
   ·refine At.sg 4 [7,9,11] [] (allT_ok 4) ?_
    obtain ⟨r4,hr4,h⟩:=bind_elim h
    refine At.cA [] [cD (lD 6 encUpdate p0.updates),cD (lD 3 encTime p0.since)] (batch_settled_ok hr4) (.cons (.refl _) (.cons (.refl _) .nil)) ?_
    refine At.sg 2 [14] [] (allT_ok 2) ?_
    refine At.done rfl ?_
    exact ⟨_,h,kr⟩
set_option maxRecDepth 100000 in
theorem slices_IndexFuncfreshet_api_Time_freshet_api_Time_Time__Beyond_1_ok {p0:List Time} {p1_0:Time} {q:Int} (h:slices_IndexFuncfreshet_api_Time_freshet_api_Time_Time__Beyond_1 p0 p1_0=some q) :
    Summ Tryz.prog 89 [cD (lD 3 encTime p0),cD (.fn 63 [.cptr [dU p1_0.epoch,dU p1_0.loop.1,dU p1_0.loop.2]])] [] (cD (dI q)) []:=by
  refine Summ.intro Tryz.func89 rfl (by kernel_rfl) (by kernel_rfl) [] rfl ?_
  rintro ⟨P,w0,G0,V,LL,lk,N, φ0,fx⟩ rfl rfl rfl rfl
  unfold slices_IndexFuncfreshet_api_Time_freshet_api_Time_Time__Beyond_1 at h
  refine Tri.sg [0,1] [] (allT_ok 1) ?_
  refine Tri.seqS ?_
  refine Tri.sg [0,1,7,8] [] (allT_ok 3) ?_
  refine Tri.ln 0 p0.length fun hlena2 => ?_
  refine Tri.rK 8 () (fun (x:Int) s=>RetAt Tryz.prog Tryz.f89 (cD (dI x)) [] s) (fun (a2:Unit)=>⟨[(0,cD (lD 3 encTime p0)),(1,cD (.fn 63 [.cptr [dU p1_0.epoch,dU p1_0.loop.1,dU p1_0.loop.2]])),(7,cD (dI (p0.length:Int)))],[]⟩) [8,0,1,7] [] [9,8,0,1,7] [] [0,1,7] [] [8,0,1,7] [] h hlena2 ?_ ?_ ?_
  ·intro i1 a2 c hii1 h
   refine Tri.sg [0,1,5,7,8] [] (allT_ok 2) ?_
   refine Tri.seqS ?_
   refine Tri.reg ?_
   refine At.sg 5 [0,1,5,7,8,11,15] [] (tN 3 (ai (show ((0:Int)≤((i1:Nat):Int)∧((i1:Nat):Int) < (p0.length:Int)) from ⟨by omega,by omega⟩) (allT_ok 1))) ?_
   obtain ⟨r4,hr4,h⟩:=bind_elim h
   refine At.cA [.cptr [dU p1_0.epoch,dU p1_0.loop.1,dU p1_0.loop.2]] [.agg (cTime (p0.getD i1 default)),cD (.cptr [dU p1_0.epoch,dU p1_0.loop.1,dU p1_0.loop.2])] (moment_Beyond_1_ok hr4) (.cons (.refl _) (.cons (.refl _) .nil)) ?_
   refine At.done rfl ?_
   refine Tri.condK h (fun h => ?_) (fun h => ?_)
   ·refine Tri.sg [4] [] (allT_ok 2) ?_
    refine Tri.ret ?_
    cases h
    exact RetAt.k
   ·refine Tri.kp [8,0,1,7] [] ?_
    refine Tri.skip ?_
    cases h
    exact kr
  ·intro a3 h
   refine Tri.sg [4] [] (allT_ok 1) ?_
   refine Tri.ret ?_
   cases h
   exact RetAt.k
  · exact fun x s hx hr=>by cases hx; exact hr
set_option maxRecDepth 100000 in
theorem slices_ContainsFuncfreshet_api_Time_freshet_api_Time_Time__Beyond_1_ok {p0:List Time} {p1_0:Time} {q:Bool} (h:slices_ContainsFuncfreshet_api_Time_freshet_api_Time_Time__Beyond_1 p0 p1_0=some q) :
  Summ Tryz.prog 51 [cD (lD 3 encTime p0),cD (.fn 63 [.cptr [dU p1_0.epoch,dU p1_0.loop.1,dU p1_0.loop.2]])] [] (cD (.bool q)) []:=by
 refine Summ.intro Tryz.func51 rfl (by kernel_rfl) (by kernel_rfl) [] rfl ?_
 rintro ⟨P,w0,G0,V,LL,lk,N, φ0,fx⟩ rfl rfl rfl rfl
 unfold slices_ContainsFuncfreshet_api_Time_freshet_api_Time_Time__Beyond_1 at h
 refine Tri.sg [0,1] [] (allT_ok 1) ?_
 refine Tri.seqS ?_
 refine Tri.reg ?_
 refine At.sg 2 [5,6] [] (allT_ok 2) ?_
 obtain ⟨r1,hr1,h⟩:=bind_elim h
 refine At.cA [] [cD (lD 3 encTime p0),cD (.fn 63 [.cptr [dU p1_0.epoch,dU p1_0.loop.1,dU p1_0.loop.2]])] (slices_IndexFuncfreshet_api_Time_freshet_api_Time_Time__Beyond_1_ok hr1) (.cons (.refl _) (.cons (.refl _) .nil)) ?_
 refine At.sg 2 [4] [] (allT_ok 2) ?_
 refine At.done rfl ?_
 refine Tri.ret ?_
 cases h
 exact RetAt.k
set_option maxRecDepth 100000 in
theorem moment_Beyond_ok {p0:List Time} {p1:Time} {q:Bool} (h:moment_Beyond p0 p1=some q) :
  Summ Tryz.prog 30 [cD (lD 3 encTime p0),.agg (cTime p1)] [] (cD (.bool q)) []:=by
 refine Summ.intro Tryz.func30 rfl (by kernel_rfl) (by kernel_rfl) [] rfl ?_
 rintro ⟨P,w0,G0,V,LL,lk,N, φ0,fx⟩ rfl rfl rfl rfl
 unfold moment_Beyond at h
 refine Tri.sg [0,3] [3] (allT_ok 2) ?_
 refine Tri.seqS ?_
 refine Tri.reg ?_
 refine At.seg 1 [3,5] [3] (s':=⟨[(3,.c (.ptr 3 0)),(5,cD (lD 3 encTime p0))],[(3,.box (cTime p1))]⟩) (by kernel_rfl) (allT_ok 1) ?_
 refine At.le [3] (fun k hk h=>by first | (cases h; done) | (simp at hk h; omega)) ⟨[(3,cD (.cptr [dU p1.epoch,dU p1.loop.1,dU p1.loop.2])),(5,cD (lD 3 encTime p0))],[]⟩ ⟨⟨_,rfl,.c (.box (ds:=[dU p1.epoch,dU p1.loop.1,dU p1.loop.2]) rfl (by simp))⟩,⟨_,rfl,.refl _⟩,trivial⟩ trivial ?_
 refine At.seg 1 [6,3,5] [] (s':=⟨[(6,cD (.fn 63 [.cptr [dU p1.epoch,dU p1.loop.1,dU p1.loop.2]])),(3,cD (.cptr [dU p1.epoch,dU p1.loop.1,dU p1.loop.2])),(5,cD (lD 3 encTime p0))],[]⟩) (by kernel_rfl) (allT_ok 1) ?_
 refine At.le [] (fun k hk=>by cases hk) ⟨[(6,cD (.fn 63 [.cptr [dU p1.epoch,dU p1.loop.1,dU p1.loop.2]])),(3,.c (.eptr [dU p1.epoch,dU p1.loop.1,dU p1.loop.2])),(5,cD (lD 3 encTime p0))],[]⟩ ⟨⟨_,rfl,.refl _⟩,⟨_,rfl,.c (.cptrE _)⟩,⟨_,rfl,.refl _⟩,trivial⟩ trivial ?_
 obtain ⟨r1,hr1,h⟩:=bind_elim h
 refine At.cA [] [cD (lD 3 encTime p0),cD (.fn 63 [.cptr [dU p1.epoch,dU p1.loop.1,dU p1.loop.2]])] (slices_ContainsFuncfreshet_api_Time_freshet_api_Time_Time__Beyond_1_ok hr1) (.cons (.refl _) (.cons (.refl _) .nil)) ?_
 refine At.sg 1 [4] [] (allT_ok 1) ?_
 refine At.done rfl ?_
 refine Tri.ret ?_
 cases h
 exact RetAt.k
set_option maxRecDepth 100000 in
theorem batch_Later_1_ok {p0:Time} {p1:List Time} {q:Bool} (h:batch_Later_1 p0 p1=some q) :
  Summ Tryz.prog 50 [.agg (cTime p0),cD (.cptr [lD 3 encTime p1])] [] (cD (.bool q)) []:=by
 refine Summ.intro Tryz.func50 rfl (by kernel_rfl) (by kernel_rfl) [] rfl ?_
 rintro ⟨P,w0,G0,V,LL,lk,N, φ0,fx⟩ rfl rfl rfl rfl
 unfold batch_Later_1 at h
 refine Tri.le [] (fun k hk=>by cases hk) ⟨[(0,.agg (cTime p0)),(1,.c (.eptr [lD 3 encTime p1]))],[]⟩ ⟨⟨_,rfl,.refl _⟩,⟨_,rfl,.c (.cptrE _)⟩,trivial⟩ trivial ?_
 refine Tri.sg [1,2] [2] (allT_ok 2) ?_
 refine Tri.seqS ?_
 refine Tri.reg ?_
 refine At.sg 2 [4,5] [] (allT_ok 2) ?_
 obtain ⟨r1,hr1,h⟩:=bind_elim h
 refine At.cA [] [cD (lD 3 encTime p1),.agg (cTime p0)] (moment_Beyond_ok hr1) (.cons (.refl _) (.cons (.refl _) .nil)) ?_
 refine At.sg 2 [3] [] (allT_ok 2) ?_
 refine At.done rfl ?_
 refine Tri.ret ?_
 cases h
 exact RetAt.k
set_option maxRecDepth 100000 in
theorem slices_IndexFuncfreshet_api_Time_freshet_api_Time_Time__batch_Later_1_ok {p0:List Time} {p1_0:List Time} {q:Int} (h:slices_IndexFuncfreshet_api_Time_freshet_api_Time_Time__batch_Later_1 p0 p1_0=some q) :
    Summ Tryz.prog 89 [cD (lD 3 encTime p0),cD (.fn 50 [.cptr [lD 3 encTime p1_0]])] [] (cD (dI q)) []:=by
  refine Summ.intro Tryz.func89 rfl (by kernel_rfl) (by kernel_rfl) [] rfl ?_
  rintro ⟨P,w0,G0,V,LL,lk,N, φ0,fx⟩ rfl rfl rfl rfl
  unfold slices_IndexFuncfreshet_api_Time_freshet_api_Time_Time__batch_Later_1 at h
  refine Tri.sg [0,1] [] (allT_ok 1) ?_
  refine Tri.seqS ?_
  refine Tri.sg [0,1,7,8] [] (allT_ok 3) ?_
  refine Tri.ln 0 p0.length fun hlena2 => ?_
  refine Tri.rK 8 () (fun (x:Int) s=>RetAt Tryz.prog Tryz.f89 (cD (dI x)) [] s) (fun (a2:Unit)=>⟨[(0,cD (lD 3 encTime p0)),(1,cD (.fn 50 [.cptr [lD 3 encTime p1_0]])),(7,cD (dI (p0.length:Int)))],[]⟩) [8,0,1,7] [] [9,8,0,1,7] [] [0,1,7] [] [8,0,1,7] [] h hlena2 ?_ ?_ ?_
  ·intro i1 a2 c hii1 h
   refine Tri.sg [0,1,5,7,8] [] (allT_ok 2) ?_
   refine Tri.seqS ?_
   refine Tri.reg ?_
   refine At.sg 5 [0,1,5,7,8,11,15] [] (tN 3 (ai (show ((0:Int)≤((i1:Nat):Int)∧((i1:Nat):Int) < (p0.length:Int)) from ⟨by omega,by omega⟩) (allT_ok 1))) ?_
   obtain ⟨r4,hr4,h⟩:=bind_elim h
   refine At.cA [.cptr [lD 3 encTime p1_0]] [.agg (cTime (p0.getD i1 default)),cD (.cptr [lD 3 encTime p1_0])] (batch_Later_1_ok hr4) (.cons (.refl _) (.cons (.refl _) .nil)) ?_
   refine At.done rfl ?_
   refine Tri.condK h (fun h => ?_) (fun h => ?_)
   ·refine Tri.sg [4] [] (allT_ok 2) ?_
    refine Tri.ret ?_
    cases h
    exact RetAt.k
   ·refine Tri.kp [8,0,1,7] [] ?_
    refine Tri.skip ?_
    cases h
    exact kr
  ·intro a3 h
   refine Tri.sg [4] [] (allT_ok 1) ?_
   refine Tri.ret ?_
   cases h
   exact RetAt.k
  · exact fun x s hx hr=>by cases hx; exact hr
set_option maxRecDepth 100000 in
theorem slices_ContainsFuncfreshet_api_Time_freshet_api_Time_Time__batch_Later_1_ok {p0:List Time} {p1_0:List Time} {q:Bool} (h:slices_ContainsFuncfreshet_api_Time_freshet_api_Time_Time__batch_Later_1 p0 p1_0=some q) :
  Summ Tryz.prog 51 [cD (lD 3 encTime p0),cD (.fn 50 [.cptr [lD 3 encTime p1_0]])] [] (cD (.bool q)) []:=by
 refine Summ.intro Tryz.func51 rfl (by kernel_rfl) (by kernel_rfl) [] rfl ?_
 rintro ⟨P,w0,G0,V,LL,lk,N, φ0,fx⟩ rfl rfl rfl rfl
 unfold slices_ContainsFuncfreshet_api_Time_freshet_api_Time_Time__batch_Later_1 at h
 refine Tri.sg [0,1] [] (allT_ok 1) ?_
 refine Tri.seqS ?_
 refine Tri.reg ?_
 refine At.sg 2 [5,6] [] (allT_ok 2) ?_
 obtain ⟨r1,hr1,h⟩:=bind_elim h
 refine At.cA [] [cD (lD 3 encTime p0),cD (.fn 50 [.cptr [lD 3 encTime p1_0]])] (slices_IndexFuncfreshet_api_Time_freshet_api_Time_Time__batch_Later_1_ok hr1) (.cons (.refl _) (.cons (.refl _) .nil)) ?_
 refine At.sg 2 [4] [] (allT_ok 2) ?_
 refine At.done rfl ?_
 refine Tri.ret ?_
 cases h
 exact RetAt.k
set_option maxRecDepth 100000 in
theorem batch_Later_ok {p0:List Time} {p1:List Time} {q:Bool} (h:batch_Later p0 p1=some q) :
    Summ Tryz.prog 17 [cD (lD 3 encTime p0),cD (lD 3 encTime p1)] [] (cD (.bool q)) []:=by
  refine Summ.intro Tryz.func17 rfl (by kernel_rfl) (by kernel_rfl) [] rfl ?_
  rintro ⟨P,w0,G0,V,LL,lk,N, φ0,fx⟩ rfl rfl rfl rfl
  unfold batch_Later at h
  refine Tri.segL [0,3] [3] ⟨[(0,cD (lD 3 encTime p0)),(3,.c (.ptr 3 0))],[(3,.box [.d (lD 3 encTime p1)])]⟩ _ (by kernel_rfl) (allT_ok 2) ?_
  refine Tri.seqS ?_
  refine Tri.reg ?_
  refine At.le [3] (fun k hk h=>by first | (cases h; done) | (simp at hk h; omega)) ⟨[(0,cD (lD 3 encTime p0)),(3,cD (.cptr [lD 3 encTime p1]))],[]⟩ ⟨⟨_,rfl,.refl _⟩,⟨_,rfl,.c (.box (ds:=[lD 3 encTime p1]) rfl (by simp))⟩,trivial⟩ trivial ?_
  refine At.seg 1 [6,0,3] [] (s':=⟨[(6,cD (.fn 50 [.cptr [lD 3 encTime p1]])),(0,cD (lD 3 encTime p0)),(3,cD (.cptr [lD 3 encTime p1]))],[]⟩) (by kernel_rfl) (allT_ok 1) ?_
  refine At.le [] (fun k hk=>by cases hk) ⟨[(6,cD (.fn 50 [.cptr [lD 3 encTime p1]])),(0,cD (lD 3 encTime p0)),(3,.c (.eptr [lD 3 encTime p1]))],[]⟩ ⟨⟨_,rfl,.refl _⟩,⟨_,rfl,.refl _⟩,⟨_,rfl,.c (.cptrE _)⟩,trivial⟩ trivial ?_
  refine At.sg 1 [0,3,5] [] (allT_ok 1) ?_
  refine At.done rfl ?_
  refine Tri.seqJ (fun (a1:Bool)=>⟨[(4,cD (.bool a1))],[]⟩) h (fun a1 h => ?_) (fun j2 h => ?_)
  ·refine Tri.ret ?_
   cases h
   exact RetAt.k
  ·refine Tri.reg ?_
   refine At.sg 4 [0,5,10] [] (allT_ok 4) ?_
   refine At.cs [10] h (fun h => ?_) (fun h => ?_)
   ·refine At.sg 11 [4] [] (allT_ok 2) ?_
    refine At.done rfl ?_
    exact ⟨_,h,kr⟩
   ·refine At.sg 4 [0,5,10,14] [] (allT_ok 4) ?_
    refine At.cs [14] h (fun h => ?_) (fun h => ?_)
    ·refine At.sg 2 [10,14,15,16] [] (allT_ok 2) ?_
     obtain ⟨r3,hr3,h⟩:=bind_elim h
     refine At.cA [] [cD (lD 3 encTime p0),cD (.fn 50 [.cptr [lD 3 encTime p1]])] (slices_ContainsFuncfreshet_api_Time_freshet_api_Time_Time__batch_Later_1_ok hr3) (.cons (.refl _) (.cons (.refl _) .nil)) ?_
     refine At.sg 4 [4] [] (allT_ok 4) ?_
     refine At.done rfl ?_
     exact ⟨_,h,kr⟩
    ·refine At.sg 7 [4] [] (allT_ok 3) ?_
     refine At.done rfl ?_
     exact ⟨_,h,kr⟩
set_option maxRecDepth 100000 in
theorem batch_Own_ok {p0:Merger} {q:Merger} (h:batch_Own p0=some q) :
  Summ Tryz.prog 54 [.agg (cMerger p0)] [] (.agg (cMerger q)) []:=by
 refine Summ.intro Tryz.func54 rfl (by kernel_rfl) (by kernel_rfl) [] rfl ?_
 rintro ⟨P,w0,G0,V,LL,lk,N, φ0,fx⟩ rfl rfl rfl rfl
 unfold batch_Own at h
 refine Tri.sg [1,2] [1,2] (allT_ok 2) ?_
 refine Tri.seqS ?_
 obtain ⟨r1,hr1,h⟩:=bind_elim h
 obtain ⟨r2,hr2,h⟩:=bind_elim h
 obtain ⟨r3,hr3,h⟩:=bind_elim h
 obtain ⟨r4,hr4,h⟩:=bind_elim h
 refine Tri.dC [.a [1] [],.a [3] [1],.m ⟨[(4,cD (lD 6 encUpdate p0.a))],[]⟩ ⟨[(5,cD (lD 6 encUpdate r1))],[]⟩ [] [] [],.a [1] [],.a [6] [1],.m ⟨[(7,cD (lD 6 encUpdate p0.b))],[]⟩ ⟨[(8,cD (lD 6 encUpdate r2))],[]⟩ [] [] [],.a [1] [],.a [9] [1],.m ⟨[(10,cD (lD 6 encUpdate p0.out))],[]⟩ ⟨[(11,cD (lD 6 encUpdate r3))],[]⟩ [] [] [],.a [1] [],.a [12] [1],.m ⟨[(13,cD (lD 3 encTime p0.since))],[]⟩ ⟨[(14,cD (lD 3 encTime r4))],[]⟩ [] [] [],.a [1] [],.m ⟨[(5,cD (lD 6 encUpdate r1)),(15,.c (.ptr 1 0))],[(1,.box (cMerger p0))]⟩ ⟨[],[(1,.box [.d (lD 6 encUpdate r1),.d (lD 6 encUpdate p0.b),.d (dI p0.i),.d (dI p0.j),.d (lD 3 encTime p0.since),.d (lD 6 encUpdate p0.out)])]⟩ [] [] [],.a [1] [],.m ⟨[(8,cD (lD 6 encUpdate r2)),(16,.c (.ptr 1 1))],[(1,.box [.d (lD 6 encUpdate r1),.d (lD 6 encUpdate p0.b),.d (dI p0.i),.d (dI p0.j),.d (lD 3 encTime p0.since),.d (lD 6 encUpdate p0.out)])]⟩ ⟨[],[(1,.box [.d (lD 6 encUpdate r1),.d (lD 6 encUpdate r2),.d (dI p0.i),.d (dI p0.j),.d (lD 3 encTime p0.since),.d (lD 6 encUpdate p0.out)])]⟩ [] [] [],.a [1] [],.m ⟨[(11,cD (lD 6 encUpdate r3)),(17,.c (.ptr 1 5))],[(1,.box [.d (lD 6 encUpdate r1),.d (lD 6 encUpdate r2),.d (dI p0.i),.d (dI p0.j),.d (lD 3 encTime p0.since),.d (lD 6 encUpdate p0.out)])]⟩ ⟨[],[(1,.box [.d (lD 6 encUpdate r1),.d (lD 6 encUpdate r2),.d (dI p0.i),.d (dI p0.j),.d (lD 3 encTime p0.since),.d (lD 6 encUpdate r3)])]⟩ [] [] [],.a [1] [],.m ⟨[(14,cD (lD 3 encTime r4)),(18,.c (.ptr 1 4))],[(1,.box [.d (lD 6 encUpdate r1),.d (lD 6 encUpdate r2),.d (dI p0.i),.d (dI p0.j),.d (lD 3 encTime p0.since),.d (lD 6 encUpdate r3)])]⟩ ⟨[],[(1,.box [.d (lD 6 encUpdate r1),.d (lD 6 encUpdate r2),.d (dI p0.i),.d (dI p0.j),.d (lD 3 encTime r4),.d (lD 6 encUpdate r3)])]⟩ [] [] []] [1,2] [1,2] (allT_ok 12) (.a (.a (.m ?_ (.a (.a (.m ?_ (.a (.a (.m ?_ (.a (.a (.m ?_ (.a (.m ?_ (.a (.m ?_ (.a (.m ?_ (.a (.m ?_ .z)))))))))))))))))))) ?_
 ·exact DOk.cA [] [cD (lD 6 encUpdate p0.a)] (diff_Own_ok hr1) fun r=>(.cons (.refl _) .nil)
 ·exact DOk.cA [] [cD (lD 6 encUpdate p0.b)] (diff_Own_ok hr2) fun r=>(.cons (.refl _) .nil)
 ·exact DOk.cA [] [cD (lD 6 encUpdate p0.out)] (diff_Own_ok hr3) fun r=>(.cons (.refl _) .nil)
 ·exact DOk.cA [] [cD (lD 3 encTime p0.since)] (slices_Clonefreshet_api_Time_freshet_api_Time_Time_ok hr4) fun r=>(.cons (.refl _) .nil)
 ·exact DOk.step (.turn 1 (.box [.d (lD 6 encUpdate r1),.d (lD 6 encUpdate p0.b),.d (dI p0.i),.d (dI p0.j),.d (lD 3 encTime p0.since),.d (lD 6 encUpdate p0.out)])) (fun r=>by kernel_rfl) (fun r=>by kernel_rfl) trivial (by kernel_rfl) (by kernel_rfl) (fun r=>rfl)
 ·exact DOk.step (.turn 1 (.box [.d (lD 6 encUpdate r1),.d (lD 6 encUpdate r2),.d (dI p0.i),.d (dI p0.j),.d (lD 3 encTime p0.since),.d (lD 6 encUpdate p0.out)])) (fun r=>by kernel_rfl) (fun r=>by kernel_rfl) trivial (by kernel_rfl) (by kernel_rfl) (fun r=>rfl)
 ·exact DOk.step (.turn 1 (.box [.d (lD 6 encUpdate r1),.d (lD 6 encUpdate r2),.d (dI p0.i),.d (dI p0.j),.d (lD 3 encTime p0.since),.d (lD 6 encUpdate r3)])) (fun r=>by kernel_rfl) (fun r=>by kernel_rfl) trivial (by kernel_rfl) (by kernel_rfl) (fun r=>rfl)
 ·exact DOk.step (.turn 1 (.box [.d (lD 6 encUpdate r1),.d (lD 6 encUpdate r2),.d (dI p0.i),.d (dI p0.j),.d (lD 3 encTime r4),.d (lD 6 encUpdate r3)])) (fun r=>by kernel_rfl) (fun r=>by kernel_rfl) trivial (by kernel_rfl) (by kernel_rfl) (fun r=>rfl)
 refine Tri.sg [2] [2] (allT_ok 2) ?_
 refine Tri.ret ?_
 cases h
 exact RetAt.k
set_option maxRecDepth 100000 in
theorem batch_Start_ok {fuel:Nat} {p0:List Time} {p1:Batch} {p2:Batch} {q:Merger × Int} (h:batch_Start fuel p0 p1 p2=some q) :
    Summ Tryz.prog 24 [cD (lD 3 encTime p0),.agg (cBatch p1),.agg (cBatch p2)] [] (.tup [(true,[.d (lD 6 encUpdate q.1.a),.d (lD 6 encUpdate q.1.b),.d (dI q.1.i),.d (dI q.1.j),.d (lD 3 encTime q.1.since),.d (lD 6 encUpdate q.1.out)]),(false,[.d (dI q.2)])]) []:=by
  refine Summ.intro Tryz.func24 rfl (by kernel_rfl) (by kernel_rfl) [] rfl ?_
  rintro ⟨P,w0,G0,V,LL,lk,N, φ0,fx⟩ rfl rfl rfl rfl
  unfold batch_Start at h
  refine Tri.sg [0,4,5,6] [4,5,6] (allT_ok 4) ?_
  refine Tri.seqS ?_
  refine Tri.blockB ?_
  refine Tri.seqJ (fun (a1:Bool)=>⟨[(0,cD (lD 3 encTime p0)),(4,.c (.ptr 4 0)),(5,.c (.ptr 5 0)),(6,.c (.ptr 6 0)),(8,cD (.bool a1))],[(4,.box (cBatch p1)),(5,.box (cBatch p2)),(6,.box [.zero,.zero,.d (dI 0),.d (dI 0),.zero,.zero])]⟩) h (fun a1 h => ?_) (fun j2 h => ?_)
  ·refine Tri.condK h (fun h => ?_) (fun h => ?_)
   ·refine Tri.sg [6,7] [6] (allT_ok 3) ?_
    refine Tri.keep [6,7] [6] (s':=⟨[(6,.c (.ptr 6 0)),(7,cD (dI 4))],[(6,.box [.zero,.zero,.d (dI 0),.d (dI 0),.zero,.zero])]⟩) (by kernel_rfl) ?_
    refine Tri.le [] (fun k hk=>by cases hk) ⟨[(6,.c (.ptr 6 0)),(7,cD (dI 4))],[(6,.box [.d (lD 6 encUpdate ([]:List Update)),.d (lD 6 encUpdate ([]:List Update)),.d (dI 0),.d (dI 0),.d (lD 3 encTime ([]:List Time)),.d (lD 6 encUpdate ([]:List Update))])]⟩ ⟨⟨_,rfl,.refl _⟩,⟨_,rfl,.refl _⟩,trivial⟩ ⟨⟨_,rfl,.box (.cons (.zero _ _) (.cons (.zero _ _) (.cons (.refl _) (.cons (.refl _) (.cons (.zero _ _) (.cons (.zero _ _) .nil)))))),(by simp)⟩,trivial⟩ ?_
    refine Tri.ret ?_
    cases h
    exact RetAt.k
   ·refine Tri.seqJ (fun (a3:Bool)=>⟨[(0,cD (lD 3 encTime p0)),(4,.c (.ptr 4 0)),(5,.c (.ptr 5 0)),(6,.c (.ptr 6 0)),(19,cD (.bool a3))],[(4,.box (cBatch p1)),(5,.box (cBatch p2)),(6,.box [.zero,.zero,.d (dI 0),.d (dI 0),.zero,.zero])]⟩) h (fun a3 h => ?_) (fun j4 h => ?_)
    ·refine Tri.condK h (fun h => ?_) (fun h => ?_)
     ·refine Tri.sg [6,7] [6] (allT_ok 3) ?_
      refine Tri.keep [6,7] [6] (s':=⟨[(6,.c (.ptr 6 0)),(7,cD (dI 1))],[(6,.box [.zero,.zero,.d (dI 0),.d (dI 0),.zero,.zero])]⟩) (by kernel_rfl) ?_
      refine Tri.le [] (fun k hk=>by cases hk) ⟨[(6,.c (.ptr 6 0)),(7,cD (dI 1))],[(6,.box [.d (lD 6 encUpdate ([]:List Update)),.d (lD 6 encUpdate ([]:List Update)),.d (dI 0),.d (dI 0),.d (lD 3 encTime ([]:List Time)),.d (lD 6 encUpdate ([]:List Update))])]⟩ ⟨⟨_,rfl,.refl _⟩,⟨_,rfl,.refl _⟩,trivial⟩ ⟨⟨_,rfl,.box (.cons (.zero _ _) (.cons (.zero _ _) (.cons (.refl _) (.cons (.refl _) (.cons (.zero _ _) (.cons (.zero _ _) .nil)))))),(by simp)⟩,trivial⟩ ?_
      refine Tri.ret ?_
      cases h
      exact RetAt.k
     ·refine Tri.skip ?_
      refine Tri.seqS ?_
      refine Tri.reg ?_
      refine At.sg 6 [6,36] [6] (allT_ok 6) ?_
      obtain ⟨r5,hr5,h⟩:=bind_elim h
      refine At.cA [] [.agg [.d (lD 6 encUpdate p1.updates),.d (lD 6 encUpdate p2.updates),.d (dI 0),.d (dI 0),.d (lD 3 encTime p0),.zero]] (batch_Own_ok hr5) (.cons (.agg (.cons (.le (.refl _)) (.cons (.le (.refl _)) (.cons (.le (.refl _)) (.cons (.le (.refl _)) (.cons (.le (.refl _)) (.cons (.le (.zero _ _)) .nil))))))) .nil) ?_
      refine At.sg 2 [6,7] [6] (allT_ok 2) ?_
      refine At.done rfl ?_
      refine Tri.ret ?_
      cases h
      exact RetAt.k
    ·refine Tri.seqS ?_
     refine Tri.reg ?_
     refine At.sg 3 [0,4,5,6,20,22] [4,5,6] (allT_ok 3) ?_
     obtain ⟨r6,hr6,h⟩:=bind_elim h
     refine At.cA [] [cD (lD 3 encTime p0),cD (lD 3 encTime p1.since)] (batch_Later_ok hr6) (.cons (.refl _) (.cons (.refl _) .nil)) ?_
     refine At.sg 2 [0,4,5,6,19] [4,5,6] (allT_ok 2) ?_
     refine At.done rfl ?_
     refine Tri.condK h (fun h => ?_) (fun h => ?_)
     ·refine Tri.kp [0,4,5,6,19] [4,5,6] ?_
      refine Tri.skip ?_
      exact ⟨_,h,kr⟩
     ·refine Tri.reg ?_
      refine At.sg 3 [0,4,5,6,25,27] [4,5,6] (allT_ok 3) ?_
      obtain ⟨r7,hr7,h⟩:=bind_elim h
      refine At.cA [] [cD (lD 3 encTime p0),cD (lD 3 encTime p2.since)] (batch_Later_ok hr7) (.cons (.refl _) (.cons (.refl _) .nil)) ?_
      refine At.sg 2 [0,4,5,6,19] [4,5,6] (allT_ok 2) ?_
      refine At.done rfl ?_
      exact ⟨_,h,kr⟩
  ·refine Tri.seqS ?_
   refine Tri.reg ?_
   refine At.sg 1 [0,4,5,6,9] [4,5,6] (allT_ok 1) ?_
   obtain ⟨r8,hr8,h⟩:=bind_elim h
   refine At.cA [] [.agg (cBatch p1)] (batch_Check_ok hr8) (.cons (.refl _) .nil) ?_
   refine At.sg 2 [0,4,5,6,8] [4,5,6] (allT_ok 2) ?_
   refine At.done rfl ?_
   refine Tri.condK h (fun h => ?_) (fun h => ?_)
   ·refine Tri.kp [0,4,5,6,8] [4,5,6] ?_
    refine Tri.skip ?_
    exact ⟨_,h,kr⟩
   ·refine Tri.seqS ?_
    refine Tri.reg ?_
    refine At.sg 1 [0,4,5,6,12] [4,5,6] (allT_ok 1) ?_
    obtain ⟨r9,hr9,h⟩:=bind_elim h
    refine At.cA [] [.agg (cBatch p2)] (batch_Check_ok hr9) (.cons (.refl _) .nil) ?_
    refine At.sg 2 [0,4,5,6,8] [4,5,6] (allT_ok 2) ?_
    refine At.done rfl ?_
    refine Tri.condK h (fun h => ?_) (fun h => ?_)
    ·refine Tri.kp [0,4,5,6,8] [4,5,6] ?_
     refine Tri.skip ?_
     exact ⟨_,h,kr⟩
    ·refine Tri.reg ?_
     refine At.sg 1 [0,4,5,6,15] [4,5,6] (allT_ok 1) ?_
     obtain ⟨r10,hr10,h⟩:=bind_elim h
     refine At.cA [] [cD (lD 3 encTime p0)] (batch_front_ok hr10) (.cons (.refl _) .nil) ?_
     refine At.sg 2 [0,4,5,6,8] [4,5,6] (allT_ok 2) ?_
     refine At.done rfl ?_
     exact ⟨_,h,kr⟩
set_option maxRecDepth 100000 in
theorem batch_rows_ok {p0:Update} {p1:Update} {q:Int} (h:batch_rows p0 p1=some q) :
  Summ Tryz.prog 95 [.agg (cUpdate p0),.agg (cUpdate p1)] [] (cD (dI q)) []:=by
 refine Summ.intro Tryz.func95 rfl (by kernel_rfl) (by kernel_rfl) [] rfl ?_
 rintro ⟨P,w0,G0,V,LL,lk,N, φ0,fx⟩ rfl rfl rfl rfl
 unfold batch_rows at h
 refine Tri.sg [2,3] [2,3] (allT_ok 3) ?_
 refine Tri.seqS ?_
 obtain ⟨r1,hr1,h⟩:=bind_elim h
 obtain ⟨r2,hr2,h⟩:=bind_elim h
 obtain ⟨r3,hr3,h⟩:=bind_elim h
 refine Tri.dC [.a [2] [],.a [5] [2],.a [3] [],.a [7] [3],.m ⟨[(6,cD (lD 3 encValue p0.key)),(8,cD (lD 3 encValue p1.key))],[]⟩ ⟨[(9,cD (dI r1))],[]⟩ [] [] [],.a [2] [],.a [10] [2],.a [3] [],.a [12] [3],.m ⟨[(11,cD (lD 3 encValue p0.row)),(13,cD (lD 3 encValue p1.row))],[]⟩ ⟨[(14,cD (dI r2))],[]⟩ [] [] [],.m ⟨[(9,cD (dI r1)),(14,cD (dI r2))],[]⟩ ⟨[(15,.c (oC 15 1 ([r1,r2]:List Int)))],[(15,vL 1 (encInt .i64) ([r1,r2]:List Int))]⟩ [15] [] [],.m ⟨[(15,.c (oC 15 1 ([r1,r2]:List Int)))],[(15,vL 1 (encInt .i64) ([r1,r2]:List Int))]⟩ ⟨[(16,cD (dI r3))],[]⟩ [] [] [],.a [16] []] [4] [] (allT_ok 9) (.a (.a (.a (.a (.m ?_ (.a (.a (.a (.a (.m ?_ (.m ?_ (.m ?_ (.a .z))))))))))))) ?_
 ·exact DOk.cA [] [cD (lD 3 encValue p0.key),cD (lD 3 encValue p1.key)] (value_Rows_ok hr1) fun r=>(.cons (.refl _) (.cons (.refl _) .nil))
 ·exact DOk.cA [] [cD (lD 3 encValue p0.row),cD (lD 3 encValue p1.row)] (value_Rows_ok hr2) fun r=>(.cons (.refl _) (.cons (.refl _) .nil))
 ·exact DOk.one fun r hr=>One.buildT (e:=3) (es:=1) (z:=[.d (dI 0)]) (cells:=[.d (dI r1),.d (dI r2)]) (encInt .i64) ([r1,r2]:List Int) rfl (by kernel_rfl) rfl rfl (St.noRef_app (by kernel_rfl) (hr 15 (by simp))) (by kernel_rfl) rfl (by kernel_rfl) rfl rfl rfl (by kernel_rfl) rfl ⟨⟨rfl,.refl _⟩,⟨rfl,.refl _⟩,trivial⟩
 ·exact DOk.cA [] [.c (oC 15 1 ([r1,r2]:List Int))] (cmp_Or_int_ok_v0 hr3) fun r=>(.cons (AVArg.view (encInt .i64) ([r1,r2]:List Int) rfl) .nil)
 refine Tri.ret ?_
 cases h
 exact RetAt.k
set_option maxRecDepth 100000 in
theorem batch_cut_ok {p0:List Update} {p1:Int} {p2:List Update} {q:Bool} (h:batch_cut p0 p1 p2=some q) :
    Summ Tryz.prog 60 [cD (lD 6 encUpdate p0),cD (dI p1),cD (lD 6 encUpdate p2)] [] (cD (.bool q)) []:=by
  refine Summ.intro Tryz.func60 rfl (by kernel_rfl) (by kernel_rfl) [] rfl ?_
  rintro ⟨P,w0,G0,V,LL,lk,N, φ0,fx⟩ rfl rfl rfl rfl
  unfold batch_cut at h
  refine Tri.sg [0,1,2] [] (allT_ok 1) ?_
  refine Tri.seqS ?_
  refine Tri.seqJ (fun (a1:Bool)=>⟨[(0,cD (lD 6 encUpdate p0)),(1,cD (dI p1)),(2,cD (lD 6 encUpdate p2)),(14,cD (.bool a1))],[]⟩) h (fun a1 h => ?_) (fun j2 h => ?_)
  ·refine Tri.condK h (fun h => ?_) (fun h => ?_)
   ·refine Tri.sg [6] [] (allT_ok 1) ?_
    refine Tri.ret ?_
    cases h
    exact RetAt.k
   ·refine Tri.skip ?_
    refine Tri.seqS ?_
    refine Tri.segL [0,1,2,18] [] ⟨[(0,cD (lD 6 encUpdate p0)),(1,cD (dI p1)),(2,cD (lD 6 encUpdate p2)),(18,cD (.bool (decide (p1=(p0.length:Int)))))],[]⟩ _ (by kernel_rfl) (allT_ok 4) ?_
    refine Tri.condK h (fun h => ?_) (fun h => ?_)
    ·refine Tri.sg [6] [] (allT_ok 1) ?_
     refine Tri.ret ?_
     cases h
     exact RetAt.k
    ·refine Tri.skip ?_
     refine Tri.seqS ?_
     refine Tri.seqJ (fun (a3:Bool)=>⟨[(0,cD (lD 6 encUpdate p0)),(1,cD (dI p1)),(2,cD (lD 6 encUpdate p2)),(33,cD (.bool a3))],[]⟩) h (fun a3 h => ?_) (fun j4 h => ?_)
     ·refine Tri.eqS ⟨[(0,cD (lD 6 encUpdate p0)),(1,cD (dI p1)),(2,cD (lD 6 encUpdate p2)),(33,cD (.bool a3))],[]⟩ kr ?_
      refine Tri.condK h (fun h => ?_) (fun h => ?_)
      ·refine Tri.sg [6] [] (allT_ok 1) ?_
       refine Tri.ret ?_
       cases h
       exact RetAt.k
      ·refine Tri.skip ?_
       refine Tri.seqJ (fun (a5:Bool)=>⟨[(6,cD (.bool a5))],[]⟩) h (fun a5 h => ?_) (fun j6 h => ?_)
       ·refine Tri.ret ?_
        cases h
        exact RetAt.k
       ·rcases bf_cases h with ⟨hp7,h⟩ | ⟨hp7,h⟩
        ·refine Tri.dC [.a [2] [],.a [34] [],.a [35] [],.m ⟨[(36,cD (.bool (decide ((p2.length:Int)=0))))],[]⟩ ⟨[(37,.c (.d (.bool true)))],[]⟩ [] [] [],.a [2,37] [],.a [2,37] [],.a [37,39] [],.a [37,40] [],.a [37,38,41] [],.a [37,42] [],.a [0,37] [],.a [1,37] [],.a [37,44,45] [],.a [37,46] [],.a [37,43,47] [],.a [37,48] [],.a [37,49] [],.a [50] []] [6] [] (allT_ok 5) (.a (.a (.a (.m ?_ (.a (.a (.a (.a (.a (.a (.a (.a (.a (.a (.a (.a (.a (.a .z)))))))))))))))))) ?_
         · exact DOk.stepP (fun b => .val (.c (.d (.bool b))) (True)) (p:=(decide ((p2.length:Int)=0))) hp7 (fun r=>by kernel_rfl) (fun r=>by kernel_rfl) trivial (by kernel_rfl) (by kernel_rfl) (fun r=>rfl)
         exact ⟨_,h,kr⟩
        ·obtain ⟨hc8,h⟩:=need_elim h
         obtain ⟨hc9,h⟩:=need_elim h
         obtain ⟨r10,hr10,h⟩:=bind_elim h
         refine Tri.dC [.a [2] [],.a [34] [],.a [35] [],.m ⟨[(36,cD (.bool (decide ((p2.length:Int)=0))))],[]⟩ ⟨[(37,.c (.d (.bool false)))],[]⟩ [] [] [],.a [2,37] [],.a [2,37] [],.a [37,39] [],.a [37,40] [],.a [37,38,41] [],.a [37,42] [],.a [0,37] [],.a [1,37] [],.a [37,44,45] [],.a [37,46] [],.m ⟨[(37,cD (.bool false)),(43,.agg (cUpdate (p2.getD ((IntKind.i64.wrap ((p2.length:Int) - 1)).toNat) default))),(47,.agg (cUpdate (p0.getD p1.toNat default)))],[]⟩ ⟨[(48,cD (dI r10))],[]⟩ [] [] [],.a [37,48] [],.a [37,49] [],.a [50] []] [6] [] (tN 7 (ai hc8 (tN 3 (ai hc9 (allT_ok 4))))) (.a (.a (.a (.m ?_ (.a (.a (.a (.a (.a (.a (.a (.a (.a (.a (.m ?_ (.a (.a (.a .z)))))))))))))))))) ?_
         · exact DOk.stepP (fun b => .val (.c (.d (.bool b))) (True)) (p:=(decide ((p2.length:Int)=0))) hp7 (fun r=>by kernel_rfl) (fun r=>by kernel_rfl) trivial (by kernel_rfl) (by kernel_rfl) (fun r=>rfl)
         · exact DOk.cA [] [.agg (cUpdate (p2.getD ((IntKind.i64.wrap ((p2.length:Int) - 1)).toNat) default)),.agg (cUpdate (p0.getD p1.toNat default))] (batch_rows_ok hr10) fun r=>(.cons (.refl _) (.cons (.refl _) .nil))
         exact ⟨_,h,kr⟩
     ·rcases bf_cases h with ⟨hp11,h⟩ | ⟨hp11,h⟩
      ·obtain ⟨hc12,h⟩:=need_elim h
       obtain ⟨hc13,h⟩:=need_elim h
       obtain ⟨r14,hr14,h⟩:=bind_elim h
       refine Tri.dC [.a [1] [],.a [19] [],.m ⟨[(20,cD (.bool (decide (0 < p1))))],[]⟩ ⟨[(21,.c (.d (.bool true)))],[]⟩ [] [] [],.a [0,21] [],.a [1,21] [],.a [21,23] [],.a [21,22,24] [],.a [21,25] [],.a [0,21] [],.a [1,21] [],.a [21,27,28] [],.a [21,29] [],.m ⟨[(21,cD (.bool true)),(26,.agg (cUpdate (p0.getD ((IntKind.i64.wrap (p1 - 1)).toNat) default))),(30,.agg (cUpdate (p0.getD p1.toNat default)))],[]⟩ ⟨[(31,cD (dI r14))],[]⟩ [] [] [],.a [21,31] [],.a [21,32] []] [0,1,2,33] [] (tN 5 (ai hc12 (tN 3 (ai hc13 (allT_ok 3))))) (.a (.a (.m ?_ (.a (.a (.a (.a (.a (.a (.a (.a (.a (.m ?_ (.a (.a .z))))))))))))))) ?_
       · exact DOk.stepP (fun b => .val (.c (.d (.bool b))) (True)) (p:=(decide (0 < p1))) hp11 (fun r=>by kernel_rfl) (fun r=>by kernel_rfl) trivial (by kernel_rfl) (by kernel_rfl) (fun r=>rfl)
       · exact DOk.cA [] [.agg (cUpdate (p0.getD ((IntKind.i64.wrap (p1 - 1)).toNat) default)),.agg (cUpdate (p0.getD p1.toNat default))] (batch_rows_ok hr14) fun r=>(.cons (.refl _) (.cons (.refl _) .nil))
       exact ⟨_,h,kr⟩
      ·refine Tri.dC [.a [1] [],.a [19] [],.m ⟨[(20,cD (.bool (decide (0 < p1))))],[]⟩ ⟨[(21,.c (.d (.bool false)))],[]⟩ [] [] [],.a [0,21] [],.a [1,21] [],.a [21,23] [],.a [21,22,24] [],.a [21,25] [],.a [0,21] [],.a [1,21] [],.a [21,27,28] [],.a [21,29] [],.a [21,26,30] [],.a [21,31] [],.a [21,32] []] [0,1,2,33] [] (allT_ok 3) (.a (.a (.m ?_ (.a (.a (.a (.a (.a (.a (.a (.a (.a (.a (.a (.a .z))))))))))))))) ?_
       · exact DOk.stepP (fun b => .val (.c (.d (.bool b))) (True)) (p:=(decide (0 < p1))) hp11 (fun r=>by kernel_rfl) (fun r=>by kernel_rfl) trivial (by kernel_rfl) (by kernel_rfl) (fun r=>rfl)
       exact ⟨_,h,kr⟩
  ·refine Tri.reg ?_
   refine At.sg 3 [0,1,2,9] [] (allT_ok 3) ?_
   refine At.cs [9] h (fun h => ?_) (fun h => ?_)
   ·refine At.sg 5 [0,1,2,14] [] (allT_ok 1) ?_
    refine At.done rfl ?_
    exact ⟨_,h,kr⟩
   ·refine At.sg 5 [0,1,2,14] [] (allT_ok 5) ?_
    refine At.done rfl ?_
    exact ⟨_,h,kr⟩
set_option maxRecDepth 100000 in
theorem batch_CheckMerger_ok {fuel:Nat} {p0:Merger} {q:Int} (h:batch_CheckMerger fuel p0=some q) :
    Summ Tryz.prog 27 [.agg (cMerger p0)] [] (cD (dI q)) []:=by
  refine Summ.intro Tryz.func27 rfl (by kernel_rfl) (by kernel_rfl) [] rfl ?_
  rintro ⟨P,w0,G0,V,LL,lk,N, φ0,fx⟩ rfl rfl rfl rfl
  unfold batch_CheckMerger at h
  refine Tri.sg [1] [1] (allT_ok 2) ?_
  refine Tri.seqJ (fun (a1:Bool)=>⟨[(1,.c (.ptr 1 0)),(3,cD (.bool a1))],[(1,.box (cMerger p0))]⟩) h (fun a1 h => ?_) (fun j2 h => ?_)
  ·refine Tri.seqS ?_
   refine Tri.seqJ (fun (a3:Bool)=>⟨[(45,cD (.bool a3))],[]⟩) h (fun a3 h => ?_) (fun j4 h => ?_)
   ·refine Tri.condK h (fun h => ?_) (fun h => ?_)
    ·refine Tri.sg [2] [] (allT_ok 1) ?_
     refine Tri.ret ?_
     cases h
     exact RetAt.k
    ·refine Tri.skip ?_
     refine Tri.sg [2] [] (allT_ok 1) ?_
     refine Tri.ret ?_
     cases h
     exact RetAt.k
   ·refine Tri.reg ?_
    refine At.sg 3 [1,26] [1] (allT_ok 3) ?_
    refine At.cs [26] h (fun h => ?_) (fun h => ?_)
    ·refine At.sg 19 [45] [] (allT_ok 3) ?_
     refine At.done rfl ?_
     exact ⟨_,h,kr⟩
    ·refine At.sg 6 [1,26,28,30,32] [1] (allT_ok 6) ?_
     obtain ⟨r5,hr5,h⟩:=bind_elim h
     refine At.cA [] [cD (lD 6 encUpdate p0.a),cD (dI p0.i),cD (lD 6 encUpdate p0.out)] (batch_cut_ok hr5) (.cons (.refl _) (.cons (.refl _) (.cons (.refl _) .nil))) ?_
     refine At.sg 3 [1,36] [1] (allT_ok 3) ?_
     refine At.cs [36] h (fun h => ?_) (fun h => ?_)
     ·refine At.sg 9 [45] [] (allT_ok 1) ?_
      refine At.done rfl ?_
      exact ⟨_,h,kr⟩
     ·refine At.sg 6 [36,38,40,42] [] (allT_ok 6) ?_
      obtain ⟨r6,hr6,h⟩:=bind_elim h
      refine At.cA [] [cD (lD 6 encUpdate p0.b),cD (dI p0.j),cD (lD 6 encUpdate p0.out)] (batch_cut_ok hr6) (.cons (.refl _) (.cons (.refl _) (.cons (.refl _) .nil))) ?_
      refine At.sg 2 [45] [] (allT_ok 2) ?_
      refine At.done rfl ?_
      exact ⟨_,h,kr⟩
  ·refine Tri.reg ?_
   refine At.sg 2 [1,5] [1] (allT_ok 2) ?_
   obtain ⟨r7,hr7,h⟩:=bind_elim h
   refine At.cA [] [cD (lD 3 encTime p0.since)] (batch_front_ok hr7) (.cons (.refl _) .nil) ?_
   refine At.sg 1 [1,7] [1] (allT_ok 1) ?_
   refine At.cs [7] h (fun h => ?_) (fun h => ?_)
   ·refine At.sg 2 [1,7,9] [1] (allT_ok 2) ?_
    obtain ⟨r8,hr8,h⟩:=bind_elim h
    refine At.cA [] [cD (lD 6 encUpdate p0.a)] (diff_Even_ok hr8) (.cons (.refl _) .nil) ?_
    refine At.sg 2 [1,12] [1] (allT_ok 2) ?_
    refine At.cs [12] h (fun h => ?_) (fun h => ?_)
    ·refine At.sg 2 [1,12,14] [1] (allT_ok 2) ?_
     obtain ⟨r9,hr9,h⟩:=bind_elim h
     refine At.cA [] [cD (lD 6 encUpdate p0.b)] (diff_Even_ok hr9) (.cons (.refl _) .nil) ?_
     refine At.sg 2 [1,17] [1] (allT_ok 2) ?_
     refine At.cs [17] h (fun h => ?_) (fun h => ?_)
     ·refine At.sg 4 [1,17,19,21] [1] (allT_ok 4) ?_
      obtain ⟨r10,hr10,h⟩:=bind_elim h
      refine At.cA [] [cD (lD 6 encUpdate p0.out),cD (lD 3 encTime p0.since)] (batch_settled_ok hr10) (.cons (.refl _) (.cons (.refl _) .nil)) ?_
      refine At.sg 2 [1,3] [1] (allT_ok 2) ?_
      refine At.done rfl ?_
      exact ⟨_,h,kr⟩
     ·refine At.sg 7 [1,3] [1] (allT_ok 2) ?_
      refine At.done rfl ?_
      exact ⟨_,h,kr⟩
    ·refine At.sg 12 [1,3] [1] (allT_ok 4) ?_
     refine At.done rfl ?_
     exact ⟨_,h,kr⟩
   ·refine At.sg 17 [1,3] [1] (allT_ok 6) ?_
    refine At.done rfl ?_
    exact ⟨_,h,kr⟩
set_option maxRecDepth 100000 in
theorem diff_Own_ok_o {p0:List Update} {q:List Update} (h:diff_Own p0=some q) :
    Summ Tryz.prog 92 [cD (lD 6 encUpdate p0)] [] (.c (oC 6000 6 q)) [(6000,vL 6 encUpdate q)]:=by
  refine Summ.intro Tryz.func92 rfl (by kernel_rfl) (by kernel_rfl) [6000] rfl ?_
  rintro ⟨P,w0,G0,V,LL,lk,N, φ0,fx⟩ rfl rfl rfl rfl
  unfold diff_Own at h
  refine Tri.sg [0] [] (allT_ok 1) ?_
  refine Tri.seqS ?_
  refine Tri.reg ?_
  refine At.seg 2 [0,6] [] (s':=⟨[(0,cD (lD 6 encUpdate p0)),(6,cD (dI (p0.length:Int)))],[]⟩) (by kernel_rfl) (allT_ok 2) ?_
  obtain ⟨hc1,h⟩:=need_elim h
  refine At.one rfl (One.makeT (e:=56) (es:=6) (bs:=80) (n:=(p0.length:Int)) (c:=(p0.length:Int)) (z:=[.zero,.zero,.d (dU 0),.d (dU 0),.d (dU 0),.d (dI 0)]) (encUpdate) ((⟨([]:List Value),([]:List Value),(⟨0,(0,0)⟩:Time),0⟩:Update):Update) rfl rfl rfl rfl (by kernel_rfl) rfl rfl rfl (by kernel_rfl) rfl (by kernel_rfl) rfl (.cons (.zero _ _) (.cons (.zero _ _) (.cons (.refl _) (.cons (.refl _) (.cons (.refl _) (.cons (.refl _) .nil)))))) rfl rfl rfl hc1.1 hc1.2.1 hc1.2.2 rfl) ?_
  refine At.sg 1 [0,3] [7] (allT_ok 1) ?_
  refine At.done rfl ?_
  refine Tri.seqS ?_
  refine Tri.reg ?_
  refine At.seg 2 [3,8,9] [7] (s':=⟨[(3,.c (oC 7 6 (List.replicate p0.length ((⟨([]:List Value),([]:List Value),(⟨0,(0,0)⟩:Time),0⟩:Update):Update)))),(8,.c (oC 7 6 (List.replicate p0.length ((⟨([]:List Value),([]:List Value),(⟨0,(0,0)⟩:Time),0⟩:Update):Update)))),(9,cD (lD 6 encUpdate p0))],[(7,vL 6 encUpdate (List.replicate p0.length ((⟨([]:List Value),([]:List Value),(⟨0,(0,0)⟩:Time),0⟩:Update):Update)))]⟩) (by kernel_rfl) (allT_ok 2) ?_
  obtain ⟨hc2,h⟩:=need_elim h
  refine At.one rfl (One.copyT (e:=56) (es:=6) (encUpdate) (List.replicate p0.length ((⟨([]:List Value),([]:List Value),(⟨0,(0,0)⟩:Time),0⟩:Update):Update)) p0 rfl rfl rfl rfl rfl rfl rfl rfl (.list rfl (fun _ _=>rfl)) hc2) ?_
  refine At.keep [3,10] [7] (s':=⟨[(3,.c (oC 7 6 (List.replicate p0.length ((⟨([]:List Value),([]:List Value),(⟨0,(0,0)⟩:Time),0⟩:Update):Update)))),(10,cD (dI ((p0.length:Nat):Int)))],[(7,vL 6 encUpdate (copyL (List.replicate p0.length ((⟨([]:List Value),([]:List Value),(⟨0,(0,0)⟩:Time),0⟩:Update):Update)) p0))]⟩) (by kernel_rfl) ?_
  refine At.eqS (s':=⟨[(3,.c (oC 7 6 (copyL (List.replicate p0.length ((⟨([]:List Value),([]:List Value),(⟨0,(0,0)⟩:Time),0⟩:Update):Update)) p0))),(10,cD (dI ((p0.length:Nat):Int)))],[(7,vL 6 encUpdate (copyL (List.replicate p0.length ((⟨([]:List Value),([]:List Value),(⟨0,(0,0)⟩:Time),0⟩:Update):Update)) p0))]⟩) (by simp only [oC,vL,copyL_length hc2]) ?_
  refine At.done rfl ?_
  refine Tri.seqS ?_
  refine Tri.segL [3,12,13] [7] ⟨[(3,.c (oC 7 6 (copyL (List.replicate p0.length ((⟨([]:List Value),([]:List Value),(⟨0,(0,0)⟩:Time),0⟩:Update):Update)) p0))),(12,cD (dI ((copyL (List.replicate p0.length ((⟨([]:List Value),([]:List Value),(⟨0,(0,0)⟩:Time),0⟩:Update):Update)) p0).length:Int))),(13,cD (dI 0))],[(7,vL 6 encUpdate (copyL (List.replicate p0.length ((⟨([]:List Value),([]:List Value),(⟨0,(0,0)⟩:Time),0⟩:Update):Update)) p0))]⟩ _ (by kernel_rfl) (allT_ok 3) ?_
  refine Tri.lenOfO (t:=3) rfl rfl (Nat.le_refl _) fun hlena4 => ?_
  refine Tri.rK 13 (copyL (List.replicate p0.length ((⟨([]:List Value),([]:List Value),(⟨0,(0,0)⟩:Time),0⟩:Update):Update)) p0) (fun (x:Empty) s=>False) (fun (a4:List Update)=>⟨[(3,.c (oC 7 6 a4)),(12,cD (dI ((copyL (List.replicate p0.length ((⟨([]:List Value),([]:List Value),(⟨0,(0,0)⟩:Time),0⟩:Update):Update)) p0).length:Int)))],[(7,vL 6 encUpdate a4)]⟩) [13,3,12] [7] [14,13,3,12] [7] [3,12] [7] [13,3,12] [7] h hlena4 ?_ ?_ ?_
  ·intro i3 a4 c hii3 h
   refine Tri.segL [3,4,12,13] [7] ⟨[(3,.c (oC 7 6 a4)),(4,cD (dI ((i3:Nat):Int))),(12,cD (dI ((copyL (List.replicate p0.length ((⟨([]:List Value),([]:List Value),(⟨0,(0,0)⟩:Time),0⟩:Update):Update)) p0).length:Int))),(13,cD (dI ((i3:Nat):Int)))],[(7,vL 6 encUpdate a4)]⟩ _ (by kernel_rfl) (allT_ok 2) ?_
   obtain ⟨hc6,h⟩:=need_elim h
   obtain ⟨hc7,h⟩:=need_elim h
   obtain ⟨r8,hr8,h⟩:=bind_elim h
   obtain ⟨hc9,h⟩:=need_elim h
   obtain ⟨hc10,h⟩:=need_elim h
   obtain ⟨r11,hr11,h⟩:=bind_elim h
   obtain ⟨hc12,h⟩:=need_elim h
   obtain ⟨hc13,h⟩:=need_elim h
   obtain ⟨hc14,h⟩:=need_elim h
   obtain ⟨hc15,h⟩:=need_elim h
   refine Tri.afterA ⟨[(3,.c (oC 7 6 a4)),(12,cD (dI ((copyL (List.replicate p0.length ((⟨([]:List Value),([]:List Value),(⟨0,(0,0)⟩:Time),0⟩:Update):Update)) p0).length:Int))),(13,cD (dI ((i3:Nat):Int)))],[(7,vL 6 encUpdate ((a4.set (0 + i3) (⟨r8,(a4.getD (0 + i3) default).row,(a4.getD (0 + i3) default).time,(a4.getD (0 + i3) default).diff⟩:Update)).set (0 + i3) (⟨((a4.set (0 + i3) (⟨r8,(a4.getD (0 + i3) default).row,(a4.getD (0 + i3) default).time,(a4.getD (0 + i3) default).diff⟩:Update)).getD (0 + i3) default).key,r11,((a4.set (0 + i3) (⟨r8,(a4.getD (0 + i3) default).row,(a4.getD (0 + i3) default).time,(a4.getD (0 + i3) default).diff⟩:Update)).getD (0 + i3) default).time,((a4.set (0 + i3) (⟨r8,(a4.getD (0 + i3) default).row,(a4.getD (0 + i3) default).time,(a4.getD (0 + i3) default).diff⟩:Update)).getD (0 + i3) default).diff⟩:Update)))]⟩ ?_ ?_
   ·refine Tri.dS ⟨[(3,.c (oC 7 6 a4)),(12,cD (dI ((copyL (List.replicate p0.length ((⟨([]:List Value),([]:List Value),(⟨0,(0,0)⟩:Time),0⟩:Update):Update)) p0).length:Int))),(13,cD (dI ((i3:Nat):Int)))],[(7,vL 6 encUpdate ((a4.set (0 + i3) (⟨r8,(a4.getD (0 + i3) default).row,(a4.getD (0 + i3) default).time,(a4.getD (0 + i3) default).diff⟩:Update)).set (0 + i3) (⟨((a4.set (0 + i3) (⟨r8,(a4.getD (0 + i3) default).row,(a4.getD (0 + i3) default).time,(a4.getD (0 + i3) default).diff⟩:Update)).getD (0 + i3) default).key,r11,((a4.set (0 + i3) (⟨r8,(a4.getD (0 + i3) default).row,(a4.getD (0 + i3) default).time,(a4.getD (0 + i3) default).diff⟩:Update)).getD (0 + i3) default).time,((a4.set (0 + i3) (⟨r8,(a4.getD (0 + i3) default).row,(a4.getD (0 + i3) default).time,(a4.getD (0 + i3) default).diff⟩:Update)).getD (0 + i3) default).diff⟩:Update)))]⟩ [.a [3] [],.a [4] [],.a [3] [],.a [4] [],.a [3] [],.a [4] [],.a [20,21] [7],.a [22] [],.a [23] [7],.m ⟨[(24,cD (lD 3 encValue ((a4.getD (0 + i3) default).key)))],[]⟩ ⟨[(25,cD (lD 3 encValue r8))],[]⟩ [] [] [],.a [3] [],.a [4] [],.a [26,27] [7],.a [28] [],.a [29] [7],.m ⟨[(30,cD (lD 3 encValue ((a4.getD (0 + i3) default).row)))],[]⟩ ⟨[(31,cD (lD 3 encValue r11))],[]⟩ [] [] [],.a [16,17] [7],.a [32] [],.m ⟨[(25,cD (lD 3 encValue r8)),(33,.c (.vptr 7 6 (0 + i3) 0))],[(7,vL 6 encUpdate a4)]⟩ ⟨[],[(7,vL 6 encUpdate (a4.set (0 + i3) (⟨r8,(a4.getD (0 + i3) default).row,(a4.getD (0 + i3) default).time,(a4.getD (0 + i3) default).diff⟩:Update)))]⟩ [] [] [],.a [18,19] [7],.a [34] [],.m ⟨[(31,cD (lD 3 encValue r11)),(35,.c (.vptr 7 6 (0 + i3) 1))],[(7,vL 6 encUpdate (a4.set (0 + i3) (⟨r8,(a4.getD (0 + i3) default).row,(a4.getD (0 + i3) default).time,(a4.getD (0 + i3) default).diff⟩:Update)))]⟩ ⟨[],[(7,vL 6 encUpdate ((a4.set (0 + i3) (⟨r8,(a4.getD (0 + i3) default).row,(a4.getD (0 + i3) default).time,(a4.getD (0 + i3) default).diff⟩:Update)).set (0 + i3) (⟨((a4.set (0 + i3) (⟨r8,(a4.getD (0 + i3) default).row,(a4.getD (0 + i3) default).time,(a4.getD (0 + i3) default).diff⟩:Update)).getD (0 + i3) default).key,r11,((a4.set (0 + i3) (⟨r8,(a4.getD (0 + i3) default).row,(a4.getD (0 + i3) default).time,(a4.getD (0 + i3) default).diff⟩:Update)).getD (0 + i3) default).time,((a4.set (0 + i3) (⟨r8,(a4.getD (0 + i3) default).row,(a4.getD (0 + i3) default).time,(a4.getD (0 + i3) default).diff⟩:Update)).getD (0 + i3) default).diff⟩:Update)))]⟩ [] [] []] [3,12,13] [7] (tN 6 (ai hc6 (tN 1 (ai hc7 (tN 2 (ai hc9 (tN 1 (ai hc10 (ai hc12 (tN 1 (ai hc14 (allT_ok 1)))))))))))) (.a (.a (.a (.a (.a (.a (.a (.a (.a (.m ?_ (.a (.a (.a (.a (.a (.m ?_ (.a (.a (.m ?_ (.a (.a (.m ?_ .z)))))))))))))))))))))) ?_
    · exact DOk.cA [] [cD (lD 3 encValue ((a4.getD (0 + i3) default).key))] (slices_Clonefreshet_api_Value_freshet_api_Value_Value_ok hr8) fun r=>(.cons (.refl _) .nil)
    · exact DOk.cA [] [cD (lD 3 encValue ((a4.getD (0 + i3) default).row))] (slices_Clonefreshet_api_Value_freshet_api_Value_Value_ok hr11) fun r=>(.cons (.refl _) .nil)
    · exact DOk.one fun r hr=>One.storeT (xs:=[.d (lD 3 encValue r8)]) (ds:=[lD 3 encValue r8]) (encUpdate) a4 (⟨r8,(a4.getD (0 + i3) default).row,(a4.getD (0 + i3) default).time,(a4.getD (0 + i3) default).diff⟩:Update) rfl (by kernel_rfl) rfl rfl rfl hc13 rfl rfl (.refl _) rfl rfl rfl rfl
    · exact DOk.one fun r hr=>One.storeT (xs:=[.d (lD 3 encValue r11)]) (ds:=[lD 3 encValue r11]) (encUpdate) (a4.set (0 + i3) (⟨r8,(a4.getD (0 + i3) default).row,(a4.getD (0 + i3) default).time,(a4.getD (0 + i3) default).diff⟩:Update)) (⟨((a4.set (0 + i3) (⟨r8,(a4.getD (0 + i3) default).row,(a4.getD (0 + i3) default).time,(a4.getD (0 + i3) default).diff⟩:Update)).getD (0 + i3) default).key,r11,((a4.set (0 + i3) (⟨r8,(a4.getD (0 + i3) default).row,(a4.getD (0 + i3) default).time,(a4.getD (0 + i3) default).diff⟩:Update)).getD (0 + i3) default).time,((a4.set (0 + i3) (⟨r8,(a4.getD (0 + i3) default).row,(a4.getD (0 + i3) default).time,(a4.getD (0 + i3) default).diff⟩:Update)).getD (0 + i3) default).diff⟩:Update) rfl (by kernel_rfl) rfl rfl rfl hc15 rfl rfl (.refl _) rfl rfl rfl rfl
    exact ⟨rfl,rfl⟩
   ·refine At.eqS (s':=⟨[(3,.c (oC 7 6 ((a4.set (0 + i3) (⟨r8,(a4.getD (0 + i3) default).row,(a4.getD (0 + i3) default).time,(a4.getD (0 + i3) default).diff⟩:Update)).set (0 + i3) (⟨((a4.set (0 + i3) (⟨r8,(a4.getD (0 + i3) default).row,(a4.getD (0 + i3) default).time,(a4.getD (0 + i3) default).diff⟩:Update)).getD (0 + i3) default).key,r11,((a4.set (0 + i3) (⟨r8,(a4.getD (0 + i3) default).row,(a4.getD (0 + i3) default).time,(a4.getD (0 + i3) default).diff⟩:Update)).getD (0 + i3) default).time,((a4.set (0 + i3) (⟨r8,(a4.getD (0 + i3) default).row,(a4.getD (0 + i3) default).time,(a4.getD (0 + i3) default).diff⟩:Update)).getD (0 + i3) default).diff⟩:Update)))),(12,cD (dI ((copyL (List.replicate p0.length ((⟨([]:List Value),([]:List Value),(⟨0,(0,0)⟩:Time),0⟩:Update):Update)) p0).length:Int))),(13,cD (dI ((i3:Nat):Int)))],[(7,vL 6 encUpdate ((a4.set (0 + i3) (⟨r8,(a4.getD (0 + i3) default).row,(a4.getD (0 + i3) default).time,(a4.getD (0 + i3) default).diff⟩:Update)).set (0 + i3) (⟨((a4.set (0 + i3) (⟨r8,(a4.getD (0 + i3) default).row,(a4.getD (0 + i3) default).time,(a4.getD (0 + i3) default).diff⟩:Update)).getD (0 + i3) default).key,r11,((a4.set (0 + i3) (⟨r8,(a4.getD (0 + i3) default).row,(a4.getD (0 + i3) default).time,(a4.getD (0 + i3) default).diff⟩:Update)).getD (0 + i3) default).time,((a4.set (0 + i3) (⟨r8,(a4.getD (0 + i3) default).row,(a4.getD (0 + i3) default).time,(a4.getD (0 + i3) default).diff⟩:Update)).getD (0 + i3) default).diff⟩:Update)))]⟩) (by simp only [oC,vL,List.length_set]) ?_
    refine At.keep [13,3,12] [7] (s':=⟨[(13,cD (dI ((i3:Nat):Int))),(3,.c (oC 7 6 ((a4.set (0 + i3) (⟨r8,(a4.getD (0 + i3) default).row,(a4.getD (0 + i3) default).time,(a4.getD (0 + i3) default).diff⟩:Update)).set (0 + i3) (⟨((a4.set (0 + i3) (⟨r8,(a4.getD (0 + i3) default).row,(a4.getD (0 + i3) default).time,(a4.getD (0 + i3) default).diff⟩:Update)).getD (0 + i3) default).key,r11,((a4.set (0 + i3) (⟨r8,(a4.getD (0 + i3) default).row,(a4.getD (0 + i3) default).time,(a4.getD (0 + i3) default).diff⟩:Update)).getD (0 + i3) default).time,((a4.set (0 + i3) (⟨r8,(a4.getD (0 + i3) default).row,(a4.getD (0 + i3) default).time,(a4.getD (0 + i3) default).diff⟩:Update)).getD (0 + i3) default).diff⟩:Update)))),(12,cD (dI ((copyL (List.replicate p0.length ((⟨([]:List Value),([]:List Value),(⟨0,(0,0)⟩:Time),0⟩:Update):Update)) p0).length:Int)))],[(7,vL 6 encUpdate ((a4.set (0 + i3) (⟨r8,(a4.getD (0 + i3) default).row,(a4.getD (0 + i3) default).time,(a4.getD (0 + i3) default).diff⟩:Update)).set (0 + i3) (⟨((a4.set (0 + i3) (⟨r8,(a4.getD (0 + i3) default).row,(a4.getD (0 + i3) default).time,(a4.getD (0 + i3) default).diff⟩:Update)).getD (0 + i3) default).key,r11,((a4.set (0 + i3) (⟨r8,(a4.getD (0 + i3) default).row,(a4.getD (0 + i3) default).time,(a4.getD (0 + i3) default).diff⟩:Update)).getD (0 + i3) default).time,((a4.set (0 + i3) (⟨r8,(a4.getD (0 + i3) default).row,(a4.getD (0 + i3) default).time,(a4.getD (0 + i3) default).diff⟩:Update)).getD (0 + i3) default).diff⟩:Update)))]⟩) (by kernel_rfl) ?_
    refine At.done rfl ?_
    cases h
    exact kr
  ·intro a5 h
   refine Tri.sg [2] [7] (allT_ok 2) ?_
   refine Tri.keep [2] [7] (s':=⟨[(2,.c (oC 7 6 a5))],[(7,vL 6 encUpdate a5)]⟩) (by kernel_rfl) ?_
   refine Tri.rename 7 6000 ⟨[(2,.c (oC 6000 6 a5))],[(6000,vL 6 encUpdate a5)]⟩ (by kernel_rfl) rfl rfl rfl ?_
   refine Tri.ret ?_
   cases h
   exact RetAt.k
  · exact fun x=>x.elim
set_option maxRecDepth 100000 in
theorem batch_Own_ok_o0_5 {p0:Merger} {q:Merger} (h:batch_Own p0=some q) :
  Summ Tryz.prog 54 [.agg (cMerger p0)] [] (.agg [.d (lD 6 encUpdate q.a),.d (lD 6 encUpdate q.b),.d (dI q.i),.d (dI q.j),.d (lD 3 encTime q.since),oC 6105 6 q.out]) [(6105,vL 6 encUpdate q.out)]:=by
 refine Summ.intro Tryz.func54 rfl (by kernel_rfl) (by kernel_rfl) [6105] rfl ?_
 rintro ⟨P,w0,G0,V,LL,lk,N, φ0,fx⟩ rfl rfl rfl rfl
 unfold batch_Own at h
 refine Tri.sg [1,2] [1,2] (allT_ok 2) ?_
 refine Tri.seqS ?_
 obtain ⟨r1,hr1,h⟩:=bind_elim h
 obtain ⟨r2,hr2,h⟩:=bind_elim h
 obtain ⟨r3,hr3,h⟩:=bind_elim h
 obtain ⟨r4,hr4,h⟩:=bind_elim h
 refine Tri.dC [.a [1] [],.a [3] [1],.m ⟨[(4,cD (lD 6 encUpdate p0.a))],[]⟩ ⟨[(5,cD (lD 6 encUpdate r1))],[]⟩ [] [] [],.a [1] [],.a [6] [1],.m ⟨[(7,cD (lD 6 encUpdate p0.b))],[]⟩ ⟨[(8,cD (lD 6 encUpdate r2))],[]⟩ [] [] [],.a [1] [],.a [9] [1],.m ⟨[(10,cD (lD 6 encUpdate p0.out))],[]⟩ ⟨[(11,.c (oC 30176 6 r3))],[(30176,vL 6 encUpdate r3)]⟩ [30176] [] [],.a [1] [],.a [12] [1],.m ⟨[(13,cD (lD 3 encTime p0.since))],[]⟩ ⟨[(14,cD (lD 3 encTime r4))],[]⟩ [] [] [],.a [1] [],.m ⟨[(5,cD (lD 6 encUpdate r1)),(15,.c (.ptr 1 0))],[(1,.box (cMerger p0))]⟩ ⟨[],[(1,.box [.d (lD 6 encUpdate r1),.d (lD 6 encUpdate p0.b),.d (dI p0.i),.d (dI p0.j),.d (lD 3 encTime p0.since),.d (lD 6 encUpdate p0.out)])]⟩ [] [] [],.a [1] [],.m ⟨[(8,cD (lD 6 encUpdate r2)),(16,.c (.ptr 1 1))],[(1,.box [.d (lD 6 encUpdate r1),.d (lD 6 encUpdate p0.b),.d (dI p0.i),.d (dI p0.j),.d (lD 3 encTime p0.since),.d (lD 6 encUpdate p0.out)])]⟩ ⟨[],[(1,.box [.d (lD 6 encUpdate r1),.d (lD 6 encUpdate r2),.d (dI p0.i),.d (dI p0.j),.d (lD 3 encTime p0.since),.d (lD 6 encUpdate p0.out)])]⟩ [] [] [],.a [1] [],.m ⟨[(11,.c (oC 30176 6 r3)),(17,.c (.ptr 1 5))],[(1,.box [.d (lD 6 encUpdate r1),.d (lD 6 encUpdate r2),.d (dI p0.i),.d (dI p0.j),.d (lD 3 encTime p0.since),.d (lD 6 encUpdate p0.out)]),(30176,vL 6 encUpdate r3)]⟩ ⟨[],[(1,.box [.d (lD 6 encUpdate r1),.d (lD 6 encUpdate r2),.d (dI p0.i),.d (dI p0.j),.d (lD 3 encTime p0.since),oC 30176 6 r3])]⟩ [] [] [],.a [1] [],.m ⟨[(14,cD (lD 3 encTime r4)),(18,.c (.ptr 1 4))],[(1,.box [.d (lD 6 encUpdate r1),.d (lD 6 encUpdate r2),.d (dI p0.i),.d (dI p0.j),.d (lD 3 encTime p0.since),oC 30176 6 r3])]⟩ ⟨[],[(1,.box [.d (lD 6 encUpdate r1),.d (lD 6 encUpdate r2),.d (dI p0.i),.d (dI p0.j),.d (lD 3 encTime r4),oC 30176 6 r3])]⟩ [] [] []] [1,2] [1,2,30176] (allT_ok 12) (.a (.a (.m ?_ (.a (.a (.m ?_ (.a (.a (.m ?_ (.a (.a (.m ?_ (.a (.m ?_ (.a (.m ?_ (.a (.m ?_ (.a (.m ?_ .z)))))))))))))))))))) ?_
 ·exact DOk.cA [] [cD (lD 6 encUpdate p0.a)] (diff_Own_ok hr1) fun r=>(.cons (.refl _) .nil)
 ·exact DOk.cA [] [cD (lD 6 encUpdate p0.b)] (diff_Own_ok hr2) fun r=>(.cons (.refl _) .nil)
 ·exact DOk.callL (nf:=0) (caps:=[]) (xs:=[cD (lD 6 encUpdate p0.out)]) [(6000,30176)] (diff_Own_ok_o hr3) rfl (fun r=>by kernel_rfl) rfl (fun r=>by kernel_rfl) (fun r=>by kernel_rfl) (fun r=>(.flat (.refl _) rfl rfl .nil)) (fun r=>trivial) (by kernel_rfl) (by kernel_rfl) (by kernel_rfl) (by kernel_rfl) (by kernel_rfl) (by kernel_rfl) (by kernel_rfl) (by kernel_rfl) (by kernel_rfl) (by kernel_rfl) (by first | kernel_rfl | (show _=_; kernel_rfl))
 ·exact DOk.cA [] [cD (lD 3 encTime p0.since)] (slices_Clonefreshet_api_Time_freshet_api_Time_Time_ok hr4) fun r=>(.cons (.refl _) .nil)
 ·exact DOk.step (.turn 1 (.box [.d (lD 6 encUpdate r1),.d (lD 6 encUpdate p0.b),.d (dI p0.i),.d (dI p0.j),.d (lD 3 encTime p0.since),.d (lD 6 encUpdate p0.out)])) (fun r=>by kernel_rfl) (fun r=>by kernel_rfl) trivial (by kernel_rfl) (by kernel_rfl) (fun r=>rfl)
 ·exact DOk.step (.turn 1 (.box [.d (lD 6 encUpdate r1),.d (lD 6 encUpdate r2),.d (dI p0.i),.d (dI p0.j),.d (lD 3 encTime p0.since),.d (lD 6 encUpdate p0.out)])) (fun r=>by kernel_rfl) (fun r=>by kernel_rfl) trivial (by kernel_rfl) (by kernel_rfl) (fun r=>rfl)
 ·exact DOk.step (.turn 1 (.box [.d (lD 6 encUpdate r1),.d (lD 6 encUpdate r2),.d (dI p0.i),.d (dI p0.j),.d (lD 3 encTime p0.since),oC 30176 6 r3])) (fun r=>by kernel_rfl) (fun r=>by kernel_rfl) trivial (by kernel_rfl) (by kernel_rfl) (fun r=>rfl)
 ·exact DOk.step (.turn 1 (.box [.d (lD 6 encUpdate r1),.d (lD 6 encUpdate r2),.d (dI p0.i),.d (dI p0.j),.d (lD 3 encTime r4),oC 30176 6 r3])) (fun r=>by kernel_rfl) (fun r=>by kernel_rfl) trivial (by kernel_rfl) (by kernel_rfl) (fun r=>rfl)
 refine Tri.sg [2] [2,30176] (allT_ok 2) ?_
 refine Tri.keep [2] [2,30176] (s':=⟨[(2,.c (.ptr 2 0))],[(2,.box [.d (lD 6 encUpdate r1),.d (lD 6 encUpdate r2),.d (dI p0.i),.d (dI p0.j),.d (lD 3 encTime r4),oC 30176 6 r3]),(30176,vL 6 encUpdate r3)]⟩) (by kernel_rfl) ?_
 refine Tri.rename 30176 6105 ⟨[(2,.c (.ptr 2 0))],[(2,.box [.d (lD 6 encUpdate r1),.d (lD 6 encUpdate r2),.d (dI p0.i),.d (dI p0.j),.d (lD 3 encTime r4),oC 6105 6 r3]),(6105,vL 6 encUpdate r3)]⟩ (by kernel_rfl) rfl rfl rfl ?_
 refine Tri.ret ?_
 cases h
 exact RetAt.k
set_option maxRecDepth 100000 in
theorem freshet_batch_worker_left_w4_ok {l0:Worker} {q:Bool × Worker} (h:freshet_batch_worker_left_w4 l0=some q) :
    Summ Tryz.prog 55 [.c (.ptr 5000 0)] [(5000,.box [.d (lD 6 encUpdate l0.merger.a),.d (lD 6 encUpdate l0.merger.b),.d (dI l0.merger.i),.d (dI l0.merger.j),.d (lD 3 encTime l0.merger.since),oC 5100 6 l0.merger.out]),(5100,vL 6 encUpdate l0.merger.out)] (cD (.bool q.1)) [(5150,vL 6 encUpdate q.2.merger.out),(5000,.box [.d (lD 6 encUpdate q.2.merger.a),.d (lD 6 encUpdate q.2.merger.b),.d (dI q.2.merger.i),.d (dI q.2.merger.j),.d (lD 3 encTime q.2.merger.since),oC 5150 6 q.2.merger.out])]:=by
  refine Summ.intro Tryz.func55 rfl (by kernel_rfl) (by kernel_rfl) [5150] rfl ?_
  rintro ⟨P,w0,G0,V,LL,lk,N, φ0,fx⟩ rfl rfl rfl rfl
  unfold freshet_batch_worker_left_w4 at h
  refine Tri.rename 5100 5150 ⟨[(0,.c (.ptr 5000 0))],[(5000,.box [.d (lD 6 encUpdate l0.merger.a),.d (lD 6 encUpdate l0.merger.b),.d (dI l0.merger.i),.d (dI l0.merger.j),.d (lD 3 encTime l0.merger.since),oC 5150 6 l0.merger.out]),(5150,vL 6 encUpdate l0.merger.out)]⟩ (by kernel_rfl) rfl rfl rfl ?_
  refine Tri.segL [0] [5000,5150] ⟨[(0,.c (.ptr 5000 0))],[(5000,.box [.d (lD 6 encUpdate l0.merger.a),.d (lD 6 encUpdate l0.merger.b),.d (dI l0.merger.i),.d (dI l0.merger.j),.d (lD 3 encTime l0.merger.since),oC 5150 6 l0.merger.out]),(5150,vL 6 encUpdate l0.merger.out)]⟩ _ (by kernel_rfl) (allT_ok 1) ?_
  refine Tri.seqJ (fun (a1:Bool)=>⟨[(2,cD (.bool a1))],[(5000,.box [.d (lD 6 encUpdate l0.merger.a),.d (lD 6 encUpdate l0.merger.b),.d (dI l0.merger.i),.d (dI l0.merger.j),.d (lD 3 encTime l0.merger.since),oC 5150 6 l0.merger.out]),(5150,vL 6 encUpdate l0.merger.out)]⟩) h (fun a1 h => ?_) (fun j2 h => ?_)
  ·refine Tri.ret ?_
   cases h
   exact RetAt.k
  ·rcases bf_cases h with ⟨hp3,h⟩ | ⟨hp3,h⟩
   ·refine Tri.dC [.a [0] [],.a [3] [],.a [4] [],.a [5] [],.a [6] [5000],.a [0] [],.a [8] [],.a [9] [],.a [10] [],.a [11] [5000],.a [12] [],.a [7,13] [],.m ⟨[(14,cD (.bool (decide (l0.merger.i < (l0.merger.a.length:Int)))))],[]⟩ ⟨[(15,.c (.d (.bool true)))],[]⟩ [] [] [],.a [0,15] [],.a [15,16] [],.a [15,17] [],.a [15,18] [],.a [15,19] [],.a [0,15] [],.a [15,21] [],.a [15,22] [],.a [15,23] [],.a [15,24] [],.a [15,25] [],.a [15,20,26] [],.a [15,27] [],.a [28] []] [2] [5000,5150] (allT_ok 14) (.a (.a (.a (.a (.a (.a (.a (.a (.a (.a (.a (.a (.m ?_ (.a (.a (.a (.a (.a (.a (.a (.a (.a (.a (.a (.a (.a (.a .z))))))))))))))))))))))))))) ?_
    · exact DOk.stepP (fun b => .val (.c (.d (.bool b))) (True)) (p:=(decide (l0.merger.i < (l0.merger.a.length:Int)))) hp3 (fun r=>by kernel_rfl) (fun r=>by kernel_rfl) trivial (by kernel_rfl) (by kernel_rfl) (fun r=>rfl)
    exact ⟨_,h,kr⟩
   ·refine Tri.dC [.a [0] [],.a [3] [],.a [4] [],.a [5] [],.a [6] [5000],.a [0] [],.a [8] [],.a [9] [],.a [10] [],.a [11] [5000],.a [12] [],.a [7,13] [],.m ⟨[(14,cD (.bool (decide (l0.merger.i < (l0.merger.a.length:Int)))))],[]⟩ ⟨[(15,.c (.d (.bool false)))],[]⟩ [] [] [],.a [0,15] [],.a [15,16] [],.a [15,17] [],.a [15,18] [],.a [15,19] [5000],.a [0,15] [],.a [15,21] [],.a [15,22] [],.a [15,23] [],.a [15,24] [5000],.a [15,25] [],.a [15,20,26] [],.a [15,27] [],.a [28] []] [2] [5000,5150] (allT_ok 26) (.a (.a (.a (.a (.a (.a (.a (.a (.a (.a (.a (.a (.m ?_ (.a (.a (.a (.a (.a (.a (.a (.a (.a (.a (.a (.a (.a (.a .z))))))))))))))))))))))))))) ?_
    · exact DOk.stepP (fun b => .val (.c (.d (.bool b))) (True)) (p:=(decide (l0.merger.i < (l0.merger.a.length:Int)))) hp3 (fun r=>by kernel_rfl) (fun r=>by kernel_rfl) trivial (by kernel_rfl) (by kernel_rfl) (fun r=>rfl)
    exact ⟨_,h,kr⟩
set_option maxRecDepth 100000 in
theorem freshet_batch_worker_next_w10_ok {l0:Worker} {q:Update × Worker} (h:freshet_batch_worker_next_w10 l0=some q) :
    Summ Tryz.prog 93 [.c (.ptr 5000 0)] [(5000,.box [.d (lD 6 encUpdate l0.merger.a),.d (lD 6 encUpdate l0.merger.b),.d (dI l0.merger.i),.d (dI l0.merger.j),.d (lD 3 encTime l0.merger.since),oC 5100 6 l0.merger.out]),(5100,vL 6 encUpdate l0.merger.out)] (.agg (cUpdate q.1)) [(5150,vL 6 encUpdate q.2.merger.out),(5000,.box [.d (lD 6 encUpdate q.2.merger.a),.d (lD 6 encUpdate q.2.merger.b),.d (dI q.2.merger.i),.d (dI q.2.merger.j),.d (lD 3 encTime q.2.merger.since),oC 5150 6 q.2.merger.out])]:=by
  refine Summ.intro Tryz.func93 rfl (by kernel_rfl) (by kernel_rfl) [5150] rfl ?_
  rintro ⟨P,w0,G0,V,LL,lk,N, φ0,fx⟩ rfl rfl rfl rfl
  unfold freshet_batch_worker_next_w10 at h
  refine Tri.rename 5100 5150 ⟨[(0,.c (.ptr 5000 0))],[(5000,.box [.d (lD 6 encUpdate l0.merger.a),.d (lD 6 encUpdate l0.merger.b),.d (dI l0.merger.i),.d (dI l0.merger.j),.d (lD 3 encTime l0.merger.since),oC 5150 6 l0.merger.out]),(5150,vL 6 encUpdate l0.merger.out)]⟩ (by kernel_rfl) rfl rfl rfl ?_
  refine Tri.segL [0,2] [2,5000,5150] ⟨[(0,.c (.ptr 5000 0)),(2,.c (.ptr 2 0))],[(2,.box [.zero,.zero,.d (dU 0),.d (dU 0),.d (dU 0),.d (dI 0)]),(5000,.box [.d (lD 6 encUpdate l0.merger.a),.d (lD 6 encUpdate l0.merger.b),.d (dI l0.merger.i),.d (dI l0.merger.j),.d (lD 3 encTime l0.merger.since),oC 5150 6 l0.merger.out]),(5150,vL 6 encUpdate l0.merger.out)]⟩ _ (by kernel_rfl) (allT_ok 1) ?_
  refine Tri.seqS ?_
  refine Tri.seqJ (fun (a1:Bool)=>⟨[(0,.c (.ptr 5000 0)),(2,.c (.ptr 2 0)),(56,cD (.bool a1))],[(2,.box [.zero,.zero,.d (dU 0),.d (dU 0),.d (dU 0),.d (dI 0)]),(5000,.box [.d (lD 6 encUpdate l0.merger.a),.d (lD 6 encUpdate l0.merger.b),.d (dI l0.merger.i),.d (dI l0.merger.j),.d (lD 3 encTime l0.merger.since),oC 5150 6 l0.merger.out]),(5150,vL 6 encUpdate l0.merger.out)]⟩) h (fun a1 h => ?_) (fun j2 h => ?_)
  ·refine Tri.condK h (fun h => ?_) (fun h => ?_)
   ·refine Tri.seqS ?_
    obtain ⟨hc3,h⟩:=need_elim h
    refine Tri.dC [.a [0] [],.a [57] [],.a [58] [],.a [59] [],.a [60] [5000],.a [0] [],.a [62] [],.a [63] [],.a [64] [],.a [65] [5000],.a [61,66] [],.a [67] [],.m ⟨[(2,.c (.ptr 2 0)),(68,.agg (cUpdate (l0.merger.a.getD l0.merger.i.toNat default)))],[(2,.box [.zero,.zero,.d (dU 0),.d (dU 0),.d (dU 0),.d (dI 0)])]⟩ ⟨[],[(2,.box (cUpdate (l0.merger.a.getD l0.merger.i.toNat default)))]⟩ [] [] []] [2] [2,5000,5150] (tN 10 (ai hc3 (allT_ok 1))) (.a (.a (.a (.a (.a (.a (.a (.a (.a (.a (.a (.a (.m ?_ .z))))))))))))) ?_
    · exact DOk.step (.turn 2 (.box (cUpdate (l0.merger.a.getD l0.merger.i.toNat default)))) (fun r=>by kernel_rfl) (fun r=>by kernel_rfl) trivial (by kernel_rfl) (by kernel_rfl) (fun r=>rfl)
    refine Tri.ret ?_
    cases h
    exact RetAt.k
   ·refine Tri.skip ?_
    refine Tri.seqS ?_
    obtain ⟨hc4,h⟩:=need_elim h
    refine Tri.dC [.a [0] [],.a [69] [],.a [70] [],.a [71] [],.a [72] [5000],.a [0] [],.a [74] [],.a [75] [],.a [76] [],.a [77] [5000],.a [73,78] [],.a [79] [],.m ⟨[(2,.c (.ptr 2 0)),(80,.agg (cUpdate (l0.merger.b.getD l0.merger.j.toNat default)))],[(2,.box [.zero,.zero,.d (dU 0),.d (dU 0),.d (dU 0),.d (dI 0)])]⟩ ⟨[],[(2,.box (cUpdate (l0.merger.b.getD l0.merger.j.toNat default)))]⟩ [] [] []] [2] [2,5000,5150] (tN 10 (ai hc4 (allT_ok 1))) (.a (.a (.a (.a (.a (.a (.a (.a (.a (.a (.a (.a (.m ?_ .z))))))))))))) ?_
    · exact DOk.step (.turn 2 (.box (cUpdate (l0.merger.b.getD l0.merger.j.toNat default)))) (fun r=>by kernel_rfl) (fun r=>by kernel_rfl) trivial (by kernel_rfl) (by kernel_rfl) (fun r=>rfl)
    refine Tri.ret ?_
    cases h
    exact RetAt.k
  ·rcases bf_cases h with ⟨hp5,h⟩ | ⟨hp5,h⟩
   ·rcases bf_cases h with ⟨hp6,h⟩ | ⟨hp6,h⟩
    ·refine Tri.dC [.a [0] [],.a [3] [],.a [4] [],.a [5] [],.a [6] [5000],.a [0] [],.a [8] [],.a [9] [],.a [10] [],.a [11] [5000],.a [12] [],.a [7,13] [],.m ⟨[(14,cD (.bool (decide (l0.merger.i < (l0.merger.a.length:Int)))))],[]⟩ ⟨[(15,.c (.d (.bool true)))],[]⟩ [] [] [],.a [0,15] [],.a [15,16] [],.a [15,17] [],.a [15,18] [],.a [15,19] [5000],.a [0,15] [],.a [15,21] [],.a [15,22] [],.a [15,23] [],.a [15,24] [5000],.a [15,25] [],.a [15,20,26] [],.m ⟨[(15,cD (.bool true)),(27,cD (.bool (decide (l0.merger.j=(l0.merger.b.length:Int)))))],[]⟩ ⟨[(28,.c (.d (.bool true)))],[]⟩ [] [] [],.a [0,28] [],.a [28,29] [],.a [28,30] [],.a [28,31] [],.a [28,32] [],.a [0,28] [],.a [28,34] [],.a [28,35] [],.a [28,36] [],.a [28,37] [],.a [28,33,38] [],.a [28,39] [],.a [0,28] [],.a [28,41] [],.a [28,42] [],.a [28,43] [],.a [28,44] [],.a [0,28] [],.a [28,46] [],.a [28,47] [],.a [28,48] [],.a [28,49] [],.a [28,45,50] [],.a [28,51] [],.a [28,40,52] [],.a [28,53] [],.a [15,28,54] [],.a [15,55] []] [0,2,56] [2,5000,5150] (allT_ok 26) (.a (.a (.a (.a (.a (.a (.a (.a (.a (.a (.a (.a (.m ?_ (.a (.a (.a (.a (.a (.a (.a (.a (.a (.a (.a (.a (.m ?_ (.a (.a (.a (.a (.a (.a (.a (.a (.a (.a (.a (.a (.a (.a (.a (.a (.a (.a (.a (.a (.a (.a (.a (.a (.a (.a (.a (.a .z)))))))))))))))))))))))))))))))))))))))))))))))))))))) ?_
     · exact DOk.stepP (fun b => .val (.c (.d (.bool b))) (True)) (p:=(decide (l0.merger.i < (l0.merger.a.length:Int)))) hp5 (fun r=>by kernel_rfl) (fun r=>by kernel_rfl) trivial (by kernel_rfl) (by kernel_rfl) (fun r=>rfl)
     · exact DOk.stepP (fun b => .val (.c (.d (.bool b))) (True)) (p:=(decide (l0.merger.j=(l0.merger.b.length:Int)))) hp6 (fun r=>by kernel_rfl) (fun r=>by kernel_rfl) trivial (by kernel_rfl) (by kernel_rfl) (fun r=>rfl)
     exact ⟨_,h,kr⟩
    ·obtain ⟨hc7,h⟩:=need_elim h
     obtain ⟨hc8,h⟩:=need_elim h
     obtain ⟨r9,hr9,h⟩:=bind_elim h
     refine Tri.dC [.a [0] [],.a [3] [],.a [4] [],.a [5] [],.a [6] [5000],.a [0] [],.a [8] [],.a [9] [],.a [10] [],.a [11] [5000],.a [12] [],.a [7,13] [],.m ⟨[(14,cD (.bool (decide (l0.merger.i < (l0.merger.a.length:Int)))))],[]⟩ ⟨[(15,.c (.d (.bool true)))],[]⟩ [] [] [],.a [0,15] [],.a [15,16] [],.a [15,17] [],.a [15,18] [],.a [15,19] [5000],.a [0,15] [],.a [15,21] [],.a [15,22] [],.a [15,23] [],.a [15,24] [5000],.a [15,25] [],.a [15,20,26] [],.m ⟨[(15,cD (.bool true)),(27,cD (.bool (decide (l0.merger.j=(l0.merger.b.length:Int)))))],[]⟩ ⟨[(28,.c (.d (.bool false)))],[]⟩ [] [] [],.a [0,28] [],.a [28,29] [],.a [28,30] [],.a [28,31] [],.a [28,32] [5000],.a [0,28] [],.a [28,34] [],.a [28,35] [],.a [28,36] [],.a [28,37] [5000],.a [28,33,38] [],.a [28,39] [],.a [0,28] [],.a [28,41] [],.a [28,42] [],.a [28,43] [],.a [28,44] [5000],.a [0,28] [],.a [28,46] [],.a [28,47] [],.a [28,48] [],.a [28,49] [5000],.a [28,45,50] [],.a [28,51] [],.m ⟨[(28,cD (.bool false)),(40,.agg (cUpdate (l0.merger.a.getD l0.merger.i.toNat default))),(52,.agg (cUpdate (l0.merger.b.getD l0.merger.j.toNat default)))],[]⟩ ⟨[(53,cD (dI r9))],[]⟩ [] [] [],.a [28,53] [],.a [15,28,54] [],.a [15,55] []] [0,2,56] [2,5000,5150] (tN 34 (ai hc7 (tN 11 (ai hc8 (allT_ok 4))))) (.a (.a (.a (.a (.a (.a (.a (.a (.a (.a (.a (.a (.m ?_ (.a (.a (.a (.a (.a (.a (.a (.a (.a (.a (.a (.a (.m ?_ (.a (.a (.a (.a (.a (.a (.a (.a (.a (.a (.a (.a (.a (.a (.a (.a (.a (.a (.a (.a (.a (.a (.a (.a (.m ?_ (.a (.a (.a .z)))))))))))))))))))))))))))))))))))))))))))))))))))))) ?_
     · exact DOk.stepP (fun b => .val (.c (.d (.bool b))) (True)) (p:=(decide (l0.merger.i < (l0.merger.a.length:Int)))) hp5 (fun r=>by kernel_rfl) (fun r=>by kernel_rfl) trivial (by kernel_rfl) (by kernel_rfl) (fun r=>rfl)
     · exact DOk.stepP (fun b => .val (.c (.d (.bool b))) (True)) (p:=(decide (l0.merger.j=(l0.merger.b.length:Int)))) hp6 (fun r=>by kernel_rfl) (fun r=>by kernel_rfl) trivial (by kernel_rfl) (by kernel_rfl) (fun r=>rfl)
     · exact DOk.cA [] [.agg (cUpdate (l0.merger.a.getD l0.merger.i.toNat default)),.agg (cUpdate (l0.merger.b.getD l0.merger.j.toNat default))] (batch_rows_ok hr9) fun r=>(.cons (.refl _) (.cons (.refl _) .nil))
     exact ⟨_,h,kr⟩
   ·refine Tri.dC [.a [0] [],.a [3] [],.a [4] [],.a [5] [],.a [6] [5000],.a [0] [],.a [8] [],.a [9] [],.a [10] [],.a [11] [5000],.a [12] [],.a [7,13] [],.m ⟨[(14,cD (.bool (decide (l0.merger.i < (l0.merger.a.length:Int)))))],[]⟩ ⟨[(15,.c (.d (.bool false)))],[]⟩ [] [] [],.a [0,15] [],.a [15,16] [],.a [15,17] [],.a [15,18] [],.a [15,19] [],.a [0,15] [],.a [15,21] [],.a [15,22] [],.a [15,23] [],.a [15,24] [],.a [15,25] [],.a [15,20,26] [],.a [15,27] [],.a [0,28] [],.a [28,29] [],.a [28,30] [],.a [28,31] [],.a [28,32] [],.a [0,28] [],.a [28,34] [],.a [28,35] [],.a [28,36] [],.a [28,37] [],.a [28,33,38] [],.a [28,39] [],.a [0,28] [],.a [28,41] [],.a [28,42] [],.a [28,43] [],.a [28,44] [],.a [0,28] [],.a [28,46] [],.a [28,47] [],.a [28,48] [],.a [28,49] [],.a [28,45,50] [],.a [28,51] [],.a [28,40,52] [],.a [28,53] [],.a [15,28,54] [],.a [15,55] []] [0,2,56] [2,5000,5150] (allT_ok 13) (.a (.a (.a (.a (.a (.a (.a (.a (.a (.a (.a (.a (.m ?_ (.a (.a (.a (.a (.a (.a (.a (.a (.a (.a (.a (.a (.a (.a (.a (.a (.a (.a (.a (.a (.a (.a (.a (.a (.a (.a (.a (.a (.a (.a (.a (.a (.a (.a (.a (.a (.a (.a (.a (.a (.a .z)))))))))))))))))))))))))))))))))))))))))))))))))))))) ?_
    · exact DOk.stepP (fun b => .val (.c (.d (.bool b))) (True)) (p:=(decide (l0.merger.i < (l0.merger.a.length:Int)))) hp5 (fun r=>by kernel_rfl) (fun r=>by kernel_rfl) trivial (by kernel_rfl) (by kernel_rfl) (fun r=>rfl)
    exact ⟨_,h,kr⟩
set_option maxRecDepth 100000 in
theorem batch_run_1_ok {p0:Update} {p1:Update} {q:Bool} (h:batch_run_1 p0 p1=some q) :
  Summ Tryz.prog 124 [.agg (cUpdate p0),cD (.cptr [lD 3 encValue p1.key,lD 3 encValue p1.row,dU p1.time.epoch,dU p1.time.loop.1,dU p1.time.loop.2,dI p1.diff])] [] (cD (.bool q)) []:=by
 refine Summ.intro Tryz.func124 rfl (by kernel_rfl) (by kernel_rfl) [] rfl ?_
 rintro ⟨P,w0,G0,V,LL,lk,N, φ0,fx⟩ rfl rfl rfl rfl
 unfold batch_run_1 at h
 refine Tri.le [] (fun k hk=>by cases hk) ⟨[(0,.agg (cUpdate p0)),(1,.c (.eptr [lD 3 encValue p1.key,lD 3 encValue p1.row,dU p1.time.epoch,dU p1.time.loop.1,dU p1.time.loop.2,dI p1.diff]))],[]⟩ ⟨⟨_,rfl,.refl _⟩,⟨_,rfl,.c (.cptrE _)⟩,trivial⟩ trivial ?_
 refine Tri.sg [1,2] [2] (allT_ok 2) ?_
 refine Tri.seqS ?_
 refine Tri.reg ?_
 refine At.sg 2 [4,5] [] (allT_ok 2) ?_
 obtain ⟨r1,hr1,h⟩:=bind_elim h
 refine At.cA [] [.agg (cUpdate p0),.agg (cUpdate p1)] (batch_rows_ok hr1) (.cons (.refl _) (.cons (.refl _) .nil)) ?_
 refine At.sg 2 [3] [] (allT_ok 2) ?_
 refine At.done rfl ?_
 refine Tri.ret ?_
 cases h
 exact RetAt.k
set_option maxRecDepth 100000 in
theorem slices_IndexFuncfreshet_api_Update_freshet_api_Update_Update__batch_run_1_ok {p0:List Update} {p1_0:Update} {q:Int} (h:slices_IndexFuncfreshet_api_Update_freshet_api_Update_Update__batch_run_1 p0 p1_0=some q) :
    Summ Tryz.prog 107 [cD (lD 6 encUpdate p0),cD (.fn 124 [.cptr [lD 3 encValue p1_0.key,lD 3 encValue p1_0.row,dU p1_0.time.epoch,dU p1_0.time.loop.1,dU p1_0.time.loop.2,dI p1_0.diff]])] [] (cD (dI q)) []:=by
  refine Summ.intro Tryz.func107 rfl (by kernel_rfl) (by kernel_rfl) [] rfl ?_
  rintro ⟨P,w0,G0,V,LL,lk,N, φ0,fx⟩ rfl rfl rfl rfl
  unfold slices_IndexFuncfreshet_api_Update_freshet_api_Update_Update__batch_run_1 at h
  refine Tri.sg [0,1] [] (allT_ok 1) ?_
  refine Tri.seqS ?_
  refine Tri.sg [0,1,7,8] [] (allT_ok 3) ?_
  refine Tri.ln 0 p0.length fun hlena2 => ?_
  refine Tri.rK 8 () (fun (x:Int) s=>RetAt Tryz.prog Tryz.f107 (cD (dI x)) [] s) (fun (a2:Unit)=>⟨[(0,cD (lD 6 encUpdate p0)),(1,cD (.fn 124 [.cptr [lD 3 encValue p1_0.key,lD 3 encValue p1_0.row,dU p1_0.time.epoch,dU p1_0.time.loop.1,dU p1_0.time.loop.2,dI p1_0.diff]])),(7,cD (dI (p0.length:Int)))],[]⟩) [8,0,1,7] [] [9,8,0,1,7] [] [0,1,7] [] [8,0,1,7] [] h hlena2 ?_ ?_ ?_
  ·intro i1 a2 c hii1 h
   refine Tri.sg [0,1,5,7,8] [] (allT_ok 2) ?_
   refine Tri.seqS ?_
   refine Tri.reg ?_
   refine At.sg 5 [0,1,5,7,8,11,15] [] (tN 3 (ai (show ((0:Int)≤((i1:Nat):Int)∧((i1:Nat):Int) < (p0.length:Int)) from ⟨by omega,by omega⟩) (allT_ok 1))) ?_
   obtain ⟨r4,hr4,h⟩:=bind_elim h
   refine At.cA [.cptr [lD 3 encValue p1_0.key,lD 3 encValue p1_0.row,dU p1_0.time.epoch,dU p1_0.time.loop.1,dU p1_0.time.loop.2,dI p1_0.diff]] [.agg (cUpdate (p0.getD i1 default)),cD (.cptr [lD 3 encValue p1_0.key,lD 3 encValue p1_0.row,dU p1_0.time.epoch,dU p1_0.time.loop.1,dU p1_0.time.loop.2,dI p1_0.diff])] (batch_run_1_ok hr4) (.cons (.refl _) (.cons (.refl _) .nil)) ?_
   refine At.done rfl ?_
   refine Tri.condK h (fun h => ?_) (fun h => ?_)
   ·refine Tri.sg [4] [] (allT_ok 2) ?_
    refine Tri.ret ?_
    cases h
    exact RetAt.k
   ·refine Tri.kp [8,0,1,7] [] ?_
    refine Tri.skip ?_
    cases h
    exact kr
  ·intro a3 h
   refine Tri.sg [4] [] (allT_ok 1) ?_
   refine Tri.ret ?_
   cases h
   exact RetAt.k
  · exact fun x s hx hr=>by cases hx; exact hr
set_option maxRecDepth 100000 in
theorem batch_run_ok {p0:List Update} {p1:Update} {q:Int} (h:batch_run p0 p1=some q) :
    Summ Tryz.prog 94 [cD (lD 6 encUpdate p0),.agg (cUpdate p1)] [] (cD (dI q)) []:=by
  refine Summ.intro Tryz.func94 rfl (by kernel_rfl) (by kernel_rfl) [] rfl ?_
  rintro ⟨P,w0,G0,V,LL,lk,N, φ0,fx⟩ rfl rfl rfl rfl
  unfold batch_run at h
  refine Tri.sg [0,3] [3] (allT_ok 2) ?_
  refine Tri.seqS ?_
  refine Tri.reg ?_
  refine At.seg 1 [0,3,6] [3] (s':=⟨[(0,cD (lD 6 encUpdate p0)),(3,.c (.ptr 3 0)),(6,cD (lD 6 encUpdate p0))],[(3,.box (cUpdate p1))]⟩) (by kernel_rfl) (allT_ok 1) ?_
  refine At.le [3] (fun k hk h=>by first | (cases h; done) | (simp at hk h; omega)) ⟨[(0,cD (lD 6 encUpdate p0)),(3,cD (.cptr [lD 3 encValue p1.key,lD 3 encValue p1.row,dU p1.time.epoch,dU p1.time.loop.1,dU p1.time.loop.2,dI p1.diff])),(6,cD (lD 6 encUpdate p0))],[]⟩ ⟨⟨_,rfl,.refl _⟩,⟨_,rfl,.c (.box (ds:=[lD 3 encValue p1.key,lD 3 encValue p1.row,dU p1.time.epoch,dU p1.time.loop.1,dU p1.time.loop.2,dI p1.diff]) rfl (by simp))⟩,⟨_,rfl,.refl _⟩,trivial⟩ trivial ?_
  refine At.seg 1 [7,0,3,6] [] (s':=⟨[(7,cD (.fn 124 [.cptr [lD 3 encValue p1.key,lD 3 encValue p1.row,dU p1.time.epoch,dU p1.time.loop.1,dU p1.time.loop.2,dI p1.diff]])),(0,cD (lD 6 encUpdate p0)),(3,cD (.cptr [lD 3 encValue p1.key,lD 3 encValue p1.row,dU p1.time.epoch,dU p1.time.loop.1,dU p1.time.loop.2,dI p1.diff])),(6,cD (lD 6 encUpdate p0))],[]⟩) (by kernel_rfl) (allT_ok 1) ?_
  refine At.le [] (fun k hk=>by cases hk) ⟨[(7,cD (.fn 124 [.cptr [lD 3 encValue p1.key,lD 3 encValue p1.row,dU p1.time.epoch,dU p1.time.loop.1,dU p1.time.loop.2,dI p1.diff]])),(0,cD (lD 6 encUpdate p0)),(3,.c (.eptr [lD 3 encValue p1.key,lD 3 encValue p1.row,dU p1.time.epoch,dU p1.time.loop.1,dU p1.time.loop.2,dI p1.diff])),(6,cD (lD 6 encUpdate p0))],[]⟩ ⟨⟨_,rfl,.refl _⟩,⟨_,rfl,.refl _⟩,⟨_,rfl,.c (.cptrE _)⟩,⟨_,rfl,.refl _⟩,trivial⟩ trivial ?_
  obtain ⟨r1,hr1,h⟩:=bind_elim h
  refine At.cA [] [cD (lD 6 encUpdate p0),cD (.fn 124 [.cptr [lD 3 encValue p1.key,lD 3 encValue p1.row,dU p1.time.epoch,dU p1.time.loop.1,dU p1.time.loop.2,dI p1.diff]])] (slices_IndexFuncfreshet_api_Update_freshet_api_Update_Update__batch_run_1_ok hr1) (.cons (.refl _) (.cons (.refl _) .nil)) ?_
  refine At.sg 1 [0,5] [] (allT_ok 1) ?_
  refine At.done rfl ?_
  refine Tri.seqS ?_
  refine Tri.sg [0,5,10] [] (allT_ok 2) ?_
  refine Tri.condK h (fun h => ?_) (fun h => ?_)
  ·refine Tri.sg [4] [] (allT_ok 3) ?_
   refine Tri.ret ?_
   cases h
   exact RetAt.k
  ·refine Tri.skip ?_
   refine Tri.sg [4] [] (allT_ok 2) ?_
   refine Tri.ret ?_
   cases h
   exact RetAt.k
set_option maxRecDepth 100000 in
theorem freshet_batch_worker_step_w4_ok {fuel:Nat} {l0:Worker} {q:Int × Int × Worker} (h:freshet_batch_worker_step_w4 fuel l0=some q) :
    Summ Tryz.prog 56 [.c (.ptr 5000 0)] [(5000,.box [.d (lD 6 encUpdate l0.merger.a),.d (lD 6 encUpdate l0.merger.b),.d (dI l0.merger.i),.d (dI l0.merger.j),.d (lD 3 encTime l0.merger.since),oC 5100 6 l0.merger.out]),(5100,vL 6 encUpdate l0.merger.out)] (.tup [(false,[.d (dI q.1)]),(false,[.d (dI q.2.1)])]) [(5150,vL 6 encUpdate q.2.2.merger.out),(5000,.box [.d (lD 6 encUpdate q.2.2.merger.a),.d (lD 6 encUpdate q.2.2.merger.b),.d (dI q.2.2.merger.i),.d (dI q.2.2.merger.j),.d (lD 3 encTime q.2.2.merger.since),oC 5150 6 q.2.2.merger.out])]:=by
  refine Summ.intro Tryz.func56 rfl (by kernel_rfl) (by kernel_rfl) [5150] rfl ?_
  rintro ⟨P,w0,G0,V,LL,lk,N, φ0,fx⟩ rfl rfl rfl rfl
  unfold freshet_batch_worker_step_w4 at h
  refine Tri.rename 5100 5150 ⟨[(0,.c (.ptr 5000 0))],[(5000,.box [.d (lD 6 encUpdate l0.merger.a),.d (lD 6 encUpdate l0.merger.b),.d (dI l0.merger.i),.d (dI l0.merger.j),.d (lD 3 encTime l0.merger.since),oC 5150 6 l0.merger.out]),(5150,vL 6 encUpdate l0.merger.out)]⟩ (by kernel_rfl) rfl rfl rfl ?_
  refine Tri.sg [0] [5000,5150] (allT_ok 2) ?_
  refine Tri.seqS ?_
  refine Tri.reg ?_
  refine At.sg 1 [0,9] [5000,5150] (allT_ok 1) ?_
  obtain ⟨r1,hr1,h⟩:=bind_elim h
  refine At.cL 0 [] [.c (.ptr 5000 0)] [(5000,5000),(5100,5150),(5150,5150)] [0] [] (freshet_batch_worker_next_w10_ok hr1) (.ren rfl rfl .nil) ?_
  refine At.sg 2 [0,4] [4,5000,5150] (allT_ok 2) ?_
  refine At.done rfl ?_
  refine Tri.seqS ?_
  obtain ⟨hc2,h⟩:=need_elim h
  obtain ⟨hc3,h⟩:=need_elim h
  refine Tri.dC [.a [0] [],.a [11] [],.a [12] [],.a [13] [],.a [14] [5000],.a [0] [],.a [16] [],.a [17] [],.a [18] [],.a [19] [5000],.m ⟨[(15,cD (lD 6 encUpdate r1.2.merger.a)),(20,cD (dI r1.2.merger.i))],[]⟩ ⟨[(21,cD (lD 6 encUpdate (sub r1.2.merger.a r1.2.merger.i (r1.2.merger.a.length:Int))))],[]⟩ [] [] [],.a [0] [],.a [22] [],.a [23] [],.a [24] [],.a [25] [5000],.a [0] [],.a [27] [],.a [28] [],.a [29] [],.a [30] [5000],.m ⟨[(26,cD (lD 6 encUpdate r1.2.merger.b)),(31,cD (dI r1.2.merger.j))],[]⟩ ⟨[(32,cD (lD 6 encUpdate (sub r1.2.merger.b r1.2.merger.j (r1.2.merger.b.length:Int))))],[]⟩ [] [] [],.a [21] [],.a [32] []] [0,4,5,6] [4,5000,5150] (allT_ok 22) (.a (.a (.a (.a (.a (.a (.a (.a (.a (.a (.m ?_ (.a (.a (.a (.a (.a (.a (.a (.a (.a (.a (.m ?_ (.a (.a .z)))))))))))))))))))))))) ?_
  · exact DOk.one fun r _=>One.subL (encUpdate) (l:=r1.2.merger.i) (h:=(r1.2.merger.a.length:Int)) hc2 hc2 (by kernel_rfl) rfl (by kernel_rfl) (by kernel_rfl)
  · exact DOk.one fun r _=>One.subL (encUpdate) (l:=r1.2.merger.j) (h:=(r1.2.merger.b.length:Int)) hc3 hc3 (by kernel_rfl) rfl (by kernel_rfl) (by kernel_rfl)
  refine Tri.seqS ?_
  obtain ⟨r4,hr4,h⟩:=bind_elim h
  obtain ⟨hc5,h⟩:=need_elim h
  obtain ⟨r6,hr6,h⟩:=bind_elim h
  obtain ⟨hc7,h⟩:=need_elim h
  refine Tri.dC [.a [5] [],.a [5] [],.a [4] [4],.m ⟨[(34,cD (lD 6 encUpdate (sub r1.2.merger.a r1.2.merger.i (r1.2.merger.a.length:Int)))),(35,.agg (cUpdate r1.1))],[]⟩ ⟨[(36,cD (dI r4))],[]⟩ [] [] [],.m ⟨[(33,cD (lD 6 encUpdate (sub r1.2.merger.a r1.2.merger.i (r1.2.merger.a.length:Int)))),(36,cD (dI r4))],[]⟩ ⟨[(37,cD (lD 6 encUpdate (sub (sub r1.2.merger.a r1.2.merger.i (r1.2.merger.a.length:Int)) 0 r4)))],[]⟩ [] [] [],.a [6] [],.a [6] [],.a [4] [4],.m ⟨[(39,cD (lD 6 encUpdate (sub r1.2.merger.b r1.2.merger.j (r1.2.merger.b.length:Int)))),(40,.agg (cUpdate r1.1))],[]⟩ ⟨[(41,cD (dI r6))],[]⟩ [] [] [],.m ⟨[(38,cD (lD 6 encUpdate (sub r1.2.merger.b r1.2.merger.j (r1.2.merger.b.length:Int)))),(41,cD (dI r6))],[]⟩ ⟨[(42,cD (lD 6 encUpdate (sub (sub r1.2.merger.b r1.2.merger.j (r1.2.merger.b.length:Int)) 0 r6)))],[]⟩ [] [] [],.a [37] [],.a [42] []] [0,5,6] [5000,5150] (allT_ok 8) (.a (.a (.a (.m ?_ (.m ?_ (.a (.a (.a (.m ?_ (.m ?_ (.a (.a .z)))))))))))) ?_
  · exact DOk.cA [] [cD (lD 6 encUpdate (sub r1.2.merger.a r1.2.merger.i (r1.2.merger.a.length:Int))),.agg (cUpdate r1.1)] (batch_run_ok hr4) fun r=>(.cons (.refl _) (.cons (.refl _) .nil))
  · exact DOk.one fun r _=>One.subL (encUpdate) (l:=0) (h:=r4) hc5 hc5 (by kernel_rfl) rfl (by kernel_rfl) (by kernel_rfl)
  · exact DOk.cA [] [cD (lD 6 encUpdate (sub r1.2.merger.b r1.2.merger.j (r1.2.merger.b.length:Int))),.agg (cUpdate r1.1)] (batch_run_ok hr6) fun r=>(.cons (.refl _) (.cons (.refl _) .nil))
  · exact DOk.one fun r _=>One.subL (encUpdate) (l:=0) (h:=r6) hc7 hc7 (by kernel_rfl) rfl (by kernel_rfl) (by kernel_rfl)
  refine Tri.seqS ?_
  refine Tri.reg ?_
  refine At.seg 7 [0,5,6,48,49,50] [5000,5150] (s':=⟨[(0,.c (.ptr 5000 0)),(5,cD (lD 6 encUpdate (sub (sub r1.2.merger.a r1.2.merger.i (r1.2.merger.a.length:Int)) 0 r4))),(6,cD (lD 6 encUpdate (sub (sub r1.2.merger.b r1.2.merger.j (r1.2.merger.b.length:Int)) 0 r6))),(48,cD (lD 3 encTime r1.2.merger.since)),(49,cD (lD 6 encUpdate (sub (sub r1.2.merger.a r1.2.merger.i (r1.2.merger.a.length:Int)) 0 r4))),(50,cD (lD 6 encUpdate (sub (sub r1.2.merger.b r1.2.merger.j (r1.2.merger.b.length:Int)) 0 r6)))],[(5000,.box [.d (lD 6 encUpdate r1.2.merger.a),.d (lD 6 encUpdate r1.2.merger.b),.d (dI r1.2.merger.i),.d (dI r1.2.merger.j),.d (lD 3 encTime r1.2.merger.since),oC 5150 6 r1.2.merger.out]),(5150,vL 6 encUpdate r1.2.merger.out)]⟩) (by kernel_rfl) (allT_ok 7) ?_
  refine At.one rfl (One.buildSlice (z:=[.zero]) (cells:=[.d (lD 6 encUpdate (sub (sub r1.2.merger.a r1.2.merger.i (r1.2.merger.a.length:Int)) 0 r4)),.d (lD 6 encUpdate (sub (sub r1.2.merger.b r1.2.merger.j (r1.2.merger.b.length:Int)) 0 r6))]) (xs:=List.map ((fun xs=>[encL 6 encUpdate xs])) ([(sub (sub r1.2.merger.a r1.2.merger.i (r1.2.merger.a.length:Int)) 0 r4),(sub (sub r1.2.merger.b r1.2.merger.j (r1.2.merger.b.length:Int)) 0 r6)]:List (List Update))) rfl rfl rfl rfl (by kernel_rfl) rfl rfl (by kernel_rfl) rfl rfl rfl (by kernel_rfl) rfl ⟨⟨rfl,.refl _⟩,⟨rfl,.refl _⟩,trivial⟩) ?_
  refine At.le [51] (fun k hk h=>by first | (cases h; done) | (simp at hk h; omega)) ⟨[(51,cD (lD 1 (fun xs=>[encL 6 encUpdate xs]) ([(sub (sub r1.2.merger.a r1.2.merger.i (r1.2.merger.a.length:Int)) 0 r4),(sub (sub r1.2.merger.b r1.2.merger.j (r1.2.merger.b.length:Int)) 0 r6)]:List (List Update)))),(0,.c (.ptr 5000 0)),(5,cD (lD 6 encUpdate (sub (sub r1.2.merger.a r1.2.merger.i (r1.2.merger.a.length:Int)) 0 r4))),(6,cD (lD 6 encUpdate (sub (sub r1.2.merger.b r1.2.merger.j (r1.2.merger.b.length:Int)) 0 r6))),(48,cD (lD 3 encTime r1.2.merger.since)),(49,cD (lD 6 encUpdate (sub (sub r1.2.merger.a r1.2.merger.i (r1.2.merger.a.length:Int)) 0 r4))),(50,cD (lD 6 encUpdate (sub (sub r1.2.merger.b r1.2.merger.j (r1.2.merger.b.length:Int)) 0 r6)))],[(5000,.box [.d (lD 6 encUpdate r1.2.merger.a),.d (lD 6 encUpdate r1.2.merger.b),.d (dI r1.2.merger.i),.d (dI r1.2.merger.j),.d (lD 3 encTime r1.2.merger.since),oC 5150 6 r1.2.merger.out]),(5150,vL 6 encUpdate r1.2.merger.out)]⟩ ⟨⟨_,rfl,.c (.own rfl (List.mem_singleton.2 rfl) (Nat.le_of_ble_eq_true rfl) rfl (encs_getD ((fun xs=>[encL 6 encUpdate xs])) ([(sub (sub r1.2.merger.a r1.2.merger.i (r1.2.merger.a.length:Int)) 0 r4),(sub (sub r1.2.merger.b r1.2.merger.j (r1.2.merger.b.length:Int)) 0 r6)]:List (List Update))))⟩,⟨_,rfl,.refl _⟩,⟨_,rfl,.refl _⟩,⟨_,rfl,.refl _⟩,⟨_,rfl,.refl _⟩,⟨_,rfl,.refl _⟩,⟨_,rfl,.refl _⟩,trivial⟩ ⟨⟨_,rfl,.refl _,(by simp)⟩,⟨_,rfl,.refl _,(by simp)⟩,trivial⟩ ?_
  obtain ⟨r8,hr8,h⟩:=bind_elim h
  refine At.cA [] [cD (lD 3 encTime r1.2.merger.since),cD (lD 1 (fun xs=>[encL 6 encUpdate xs]) ([(sub (sub r1.2.merger.a r1.2.merger.i (r1.2.merger.a.length:Int)) 0 r4),(sub (sub r1.2.merger.b r1.2.merger.j (r1.2.merger.b.length:Int)) 0 r6)]:List (List Update)))] (batch_advanced_ok hr8) (.cons (.refl _) (.cons (.refl _) .nil)) ?_
  refine At.sg 5 [0,5,6,7,8] [5000,5150] (allT_ok 5) ?_
  refine At.done rfl ?_
  refine Tri.seqS ?_
  refine Tri.segL [0,5,6,7,8,56] [5000,5150] ⟨[(0,.c (.ptr 5000 0)),(5,cD (lD 6 encUpdate (sub (sub r1.2.merger.a r1.2.merger.i (r1.2.merger.a.length:Int)) 0 r4))),(6,cD (lD 6 encUpdate (sub (sub r1.2.merger.b r1.2.merger.j (r1.2.merger.b.length:Int)) 0 r6))),(7,cD (lD 6 encUpdate r8.1)),(8,cD (dI r8.2)),(56,cD (.bool (!decide (r8.2=0))))],[(5000,.box [.d (lD 6 encUpdate r1.2.merger.a),.d (lD 6 encUpdate r1.2.merger.b),.d (dI r1.2.merger.i),.d (dI r1.2.merger.j),.d (lD 3 encTime r1.2.merger.since),oC 5150 6 r1.2.merger.out]),(5150,vL 6 encUpdate r1.2.merger.out)]⟩ _ (by kernel_rfl) (allT_ok 2) ?_
  refine Tri.condK h (fun h => ?_) (fun h => ?_)
  ·refine Tri.sg [2,3] [5000,5150] (allT_ok 3) ?_
   refine Tri.ret ?_
   cases h
   exact RetAt.k
  ·refine Tri.skip ?_
   refine Tri.seqS ?_
   obtain ⟨hc9,h⟩:=need_elim h
   refine Tri.dA ⟨[(5,cD (lD 6 encUpdate (sub (sub r1.2.merger.a r1.2.merger.i (r1.2.merger.a.length:Int)) 0 r4))),(6,cD (lD 6 encUpdate (sub (sub r1.2.merger.b r1.2.merger.j (r1.2.merger.b.length:Int)) 0 r6)))],[(5000,.box [.d (lD 6 encUpdate r1.2.merger.a),.d (lD 6 encUpdate r1.2.merger.b),.d (dI (IntKind.i64.wrap (r1.2.merger.i + ((sub (sub r1.2.merger.a r1.2.merger.i (r1.2.merger.a.length:Int)) 0 r4).length:Int)))),.d (dI (IntKind.i64.wrap (r1.2.merger.j + ((sub (sub r1.2.merger.b r1.2.merger.j (r1.2.merger.b.length:Int)) 0 r6).length:Int)))),.d (lD 3 encTime r1.2.merger.since),oC 5150 6 (r1.2.merger.out++r8.1)]),(5150,vL 6 encUpdate (r1.2.merger.out++r8.1))]⟩ [(7,25,⟨[(64,.c (.ptr 5000 2))],[(5000,.box [.d (lD 6 encUpdate r1.2.merger.a),.d (lD 6 encUpdate r1.2.merger.b),.d (dI r1.2.merger.i),.d (dI r1.2.merger.j),.d (lD 3 encTime r1.2.merger.since),.any])]⟩),(15,25,⟨[(72,.c (.ptr 5000 3))],[(5000,.box [.d (lD 6 encUpdate r1.2.merger.a),.d (lD 6 encUpdate r1.2.merger.b),.d (dI r1.2.merger.i),.d (dI r1.2.merger.j),.d (lD 3 encTime r1.2.merger.since),.any])]⟩)] [.a [0] [],.a [0] [],.a [0] [],.a [0] [],.a [61] [],.a [62] [],.a [63] [],.a [64] [5000],.a [5] [],.a [66] [],.a [65,67] [],.a [0] [],.a [69] [],.a [70] [],.a [71] [],.a [72] [5000],.a [6] [],.a [74] [],.a [73,75] [],.a [0] [],.a [77] [],.a [78] [],.a [79] [],.a [80] [5000],.a [7] [],.m ⟨[(81,.c (oC 5150 6 r1.2.merger.out)),(82,cD (lD 6 encUpdate r8.1))],[(5000,.box [.d (lD 6 encUpdate r1.2.merger.a),.d (lD 6 encUpdate r1.2.merger.b),.d (dI r1.2.merger.i),.d (dI r1.2.merger.j),.d (lD 3 encTime r1.2.merger.since),oC 5150 6 r1.2.merger.out]),(5150,vL 6 encUpdate r1.2.merger.out)]⟩ ⟨[(83,.c (oC 5150 6 (r1.2.merger.out++r8.1))),(81,.c (.any))],[(5150,vL 6 encUpdate (r1.2.merger.out++r8.1)),(5000,.box [.d (lD 6 encUpdate r1.2.merger.a),.d (lD 6 encUpdate r1.2.merger.b),.d (dI r1.2.merger.i),.d (dI r1.2.merger.j),.d (lD 3 encTime r1.2.merger.since),.any])]⟩ [5150] [81] [5000],.a [58] [],.a [84] [],.a [85] [],.m ⟨[(68,cD (dI (IntKind.i64.wrap (r1.2.merger.i + ((sub (sub r1.2.merger.a r1.2.merger.i (r1.2.merger.a.length:Int)) 0 r4).length:Int))))),(86,.c (.ptr 5000 2))],[(5000,.box [.d (lD 6 encUpdate r1.2.merger.a),.d (lD 6 encUpdate r1.2.merger.b),.d (dI r1.2.merger.i),.d (dI r1.2.merger.j),.d (lD 3 encTime r1.2.merger.since),.any])]⟩ ⟨[],[(5000,.box [.d (lD 6 encUpdate r1.2.merger.a),.d (lD 6 encUpdate r1.2.merger.b),.d (dI (IntKind.i64.wrap (r1.2.merger.i + ((sub (sub r1.2.merger.a r1.2.merger.i (r1.2.merger.a.length:Int)) 0 r4).length:Int)))),.d (dI r1.2.merger.j),.d (lD 3 encTime r1.2.merger.since),.any])]⟩ [] [] [],.a [59] [],.a [87] [],.a [88] [],.m ⟨[(76,cD (dI (IntKind.i64.wrap (r1.2.merger.j + ((sub (sub r1.2.merger.b r1.2.merger.j (r1.2.merger.b.length:Int)) 0 r6).length:Int))))),(89,.c (.ptr 5000 3))],[(5000,.box [.d (lD 6 encUpdate r1.2.merger.a),.d (lD 6 encUpdate r1.2.merger.b),.d (dI (IntKind.i64.wrap (r1.2.merger.i + ((sub (sub r1.2.merger.a r1.2.merger.i (r1.2.merger.a.length:Int)) 0 r4).length:Int)))),.d (dI r1.2.merger.j),.d (lD 3 encTime r1.2.merger.since),.any])]⟩ ⟨[],[(5000,.box [.d (lD 6 encUpdate r1.2.merger.a),.d (lD 6 encUpdate r1.2.merger.b),.d (dI (IntKind.i64.wrap (r1.2.merger.i + ((sub (sub r1.2.merger.a r1.2.merger.i (r1.2.merger.a.length:Int)) 0 r4).length:Int)))),.d (dI (IntKind.i64.wrap (r1.2.merger.j + ((sub (sub r1.2.merger.b r1.2.merger.j (r1.2.merger.b.length:Int)) 0 r6).length:Int)))),.d (lD 3 encTime r1.2.merger.since),.any])]⟩ [] [] [],.a [60] [],.a [90] [],.a [91] [],.m ⟨[(83,.c (oC 5150 6 (r1.2.merger.out++r8.1))),(92,.c (.ptr 5000 5))],[(5000,.box [.d (lD 6 encUpdate r1.2.merger.a),.d (lD 6 encUpdate r1.2.merger.b),.d (dI (IntKind.i64.wrap (r1.2.merger.i + ((sub (sub r1.2.merger.a r1.2.merger.i (r1.2.merger.a.length:Int)) 0 r4).length:Int)))),.d (dI (IntKind.i64.wrap (r1.2.merger.j + ((sub (sub r1.2.merger.b r1.2.merger.j (r1.2.merger.b.length:Int)) 0 r6).length:Int)))),.d (lD 3 encTime r1.2.merger.since),.any]),(5150,vL 6 encUpdate (r1.2.merger.out++r8.1))]⟩ ⟨[],[(5000,.box [.d (lD 6 encUpdate r1.2.merger.a),.d (lD 6 encUpdate r1.2.merger.b),.d (dI (IntKind.i64.wrap (r1.2.merger.i + ((sub (sub r1.2.merger.a r1.2.merger.i (r1.2.merger.a.length:Int)) 0 r4).length:Int)))),.d (dI (IntKind.i64.wrap (r1.2.merger.j + ((sub (sub r1.2.merger.b r1.2.merger.j (r1.2.merger.b.length:Int)) 0 r6).length:Int)))),.d (lD 3 encTime r1.2.merger.since),oC 5150 6 (r1.2.merger.out++r8.1)])]⟩ [] [] []] [5,6] [5000,5150] (cs:=True∧True∧True∧True∧True∧True∧True∧True∧True∧True∧True∧True∧True∧True∧True∧True∧True∧True∧True∧True∧True∧True∧True∧True∧True∧True∧True∧True∧True∧True∧True∧True∧True∧True∧True) ⟨trivial,trivial,trivial,trivial,trivial,trivial,trivial,trivial,trivial,trivial,trivial,trivial,trivial,trivial,trivial,trivial,trivial,trivial,trivial,trivial,trivial,trivial,trivial,trivial,trivial,trivial,trivial,trivial,trivial,trivial,trivial,trivial,trivial,trivial,trivial⟩ (.a (.a (.a (.a (.a (.a (.a (.a (.a (.a (.a (.a (.a (.a (.a (.a (.a (.a (.a (.a (.a (.a (.a (.a (.a (.m ?_ (.a (.a (.a (.m ?_ (.a (.a (.a (.m ?_ (.a (.a (.a (.m ?_ .z)))))))))))))))))))))))))))))))))))))) (AltsOk.k (AltsOk.k AltsOk.z)) ?_
   · exact DOk.drop (k:=5150) (d:=83) (v:=vL 6 encUpdate (r1.2.merger.out++r8.1)) (av:=.c (oC 5150 6 (r1.2.merger.out++r8.1))) rfl (fun r hr=>One.appendT (e:=56) (es:=6) (encUpdate) r1.2.merger.out r8.1 rfl rfl (by kernel_rfl) rfl rfl (.of 56 80 [.zero,.zero,.d (dU 0),.d (dU 0),.d (dU 0),.d (dI 0)] (by kernel_rfl) (by kernel_rfl) (by kernel_rfl) (by kernel_rfl) rfl (by kernel_rfl) rfl) rfl rfl rfl (.list rfl (fun _ _=>rfl)) hc9) (by kernel_rfl) (by kernel_rfl) (by kernel_rfl) (by kernel_rfl)
   · exact DOk.step (.turn 5000 (.box [.d (lD 6 encUpdate r1.2.merger.a),.d (lD 6 encUpdate r1.2.merger.b),.d (dI (IntKind.i64.wrap (r1.2.merger.i + ((sub (sub r1.2.merger.a r1.2.merger.i (r1.2.merger.a.length:Int)) 0 r4).length:Int)))),.d (dI r1.2.merger.j),.d (lD 3 encTime r1.2.merger.since),.any])) (fun r=>by kernel_rfl) (fun r=>by kernel_rfl) trivial (by kernel_rfl) (by kernel_rfl) (fun r=>rfl)
   · exact DOk.step (.turn 5000 (.box [.d (lD 6 encUpdate r1.2.merger.a),.d (lD 6 encUpdate r1.2.merger.b),.d (dI (IntKind.i64.wrap (r1.2.merger.i + ((sub (sub r1.2.merger.a r1.2.merger.i (r1.2.merger.a.length:Int)) 0 r4).length:Int)))),.d (dI (IntKind.i64.wrap (r1.2.merger.j + ((sub (sub r1.2.merger.b r1.2.merger.j (r1.2.merger.b.length:Int)) 0 r6).length:Int)))),.d (lD 3 encTime r1.2.merger.since),.any])) (fun r=>by kernel_rfl) (fun r=>by kernel_rfl) trivial (by kernel_rfl) (by kernel_rfl) (fun r=>rfl)
   · exact DOk.step (.turn 5000 (.box [.d (lD 6 encUpdate r1.2.merger.a),.d (lD 6 encUpdate r1.2.merger.b),.d (dI (IntKind.i64.wrap (r1.2.merger.i + ((sub (sub r1.2.merger.a r1.2.merger.i (r1.2.merger.a.length:Int)) 0 r4).length:Int)))),.d (dI (IntKind.i64.wrap (r1.2.merger.j + ((sub (sub r1.2.merger.b r1.2.merger.j (r1.2.merger.b.length:Int)) 0 r6).length:Int)))),.d (lD 3 encTime r1.2.merger.since),oC 5150 6 (r1.2.merger.out++r8.1)])) (fun r=>by kernel_rfl) (fun r=>by kernel_rfl) trivial (by kernel_rfl) (by kernel_rfl) (fun r=>rfl)
   refine Tri.sg [2,3] [5000,5150] (allT_ok 7) ?_
   refine Tri.ret ?_
   cases h
   exact RetAt.k
set_option maxRecDepth 100000 in
theorem batch_Work_ok {fuel:Nat} {p0:Merger} {p1:Int} {q:Merger × Int × Int} (h:batch_Work fuel p0 p1=some q) :
    Summ Tryz.prog 20 [.agg (cMerger p0),cD (dI p1)] [] (.tup [(true,[.d (lD 6 encUpdate q.1.a),.d (lD 6 encUpdate q.1.b),.d (dI q.1.i),.d (dI q.1.j),.d (lD 3 encTime q.1.since),.d (lD 6 encUpdate q.1.out)]),(false,[.d (dI q.2.1)]),(false,[.d (dI q.2.2)])]) []:=by
  refine Summ.intro Tryz.func20 rfl (by kernel_rfl) (by kernel_rfl) [] rfl ?_
  rintro ⟨P,w0,G0,V,LL,lk,N, φ0,fx⟩ rfl rfl rfl rfl
  unfold batch_Work at h
  refine Tri.sg [1,2,4] [2,4] (allT_ok 4) ?_
  refine Tri.seqS ?_
  refine Tri.seqS ?_
  refine Tri.reg ?_
  refine At.sg 1 [1,2,4,12] [2,4] (allT_ok 1) ?_
  obtain ⟨r1,hr1,h⟩:=bind_elim h
  refine At.cA [] [.agg (cMerger p0)] (batch_CheckMerger_ok hr1) (.cons (.refl _) .nil) ?_
  refine At.sg 1 [1,2,4,7] [2,4] (allT_ok 1) ?_
  refine At.done rfl ?_
  refine Tri.sg [1,2,4,7,15] [2,4] (allT_ok 2) ?_
  refine Tri.condK h (fun h => ?_) (fun h => ?_)
  ·refine Tri.sg [4,5,6] [4] (allT_ok 5) ?_
   refine Tri.keep [4,5,6] [4] (s':=⟨[(4,.c (.ptr 4 0)),(5,cD (dI 0)),(6,cD (dI r1))],[(4,.box [.zero,.zero,.d (dI 0),.d (dI 0),.zero,.zero])]⟩) (by kernel_rfl) ?_
   refine Tri.le [] (fun k hk=>by cases hk) ⟨[(4,.c (.ptr 4 0)),(5,cD (dI 0)),(6,cD (dI r1))],[(4,.box [.d (lD 6 encUpdate ([]:List Update)),.d (lD 6 encUpdate ([]:List Update)),.d (dI 0),.d (dI 0),.d (lD 3 encTime ([]:List Time)),.d (lD 6 encUpdate ([]:List Update))])]⟩ ⟨⟨_,rfl,.refl _⟩,⟨_,rfl,.refl _⟩,⟨_,rfl,.refl _⟩,trivial⟩ ⟨⟨_,rfl,.box (.cons (.zero _ _) (.cons (.zero _ _) (.cons (.refl _) (.cons (.refl _) (.cons (.zero _ _) (.cons (.zero _ _) .nil)))))),(by simp)⟩,trivial⟩ ?_
   refine Tri.ret ?_
   cases h
   exact RetAt.k
  ·refine Tri.skip ?_
   refine Tri.seqS ?_
   refine Tri.reg ?_
   refine At.sg 1 [1,4,18] [4] (allT_ok 1) ?_
   obtain ⟨r2,hr2,h⟩:=bind_elim h
   refine At.cL 0 [] [.agg (cMerger p0)] [(6105,30304)] [1,4] [4] (batch_Own_ok_o0_5 hr2) (.flat (.refl _) rfl rfl .nil) ?_
   refine At.sg 3 [1,4,8] [4,21,30304] (allT_ok 3) ?_
   refine At.done rfl ?_
   refine Tri.sg [1,4,8,9] [4,21,30304] (allT_ok 1) ?_
   refine Tri.seqS ?_
   refine Tri.lK (0,(⟨r2⟩:Worker)) (fun (x:Merger × Int × Int) s=>RetAt Tryz.prog Tryz.f20 (.tup [(true,[.d (lD 6 encUpdate x.1.a),.d (lD 6 encUpdate x.1.b),.d (dI x.1.i),.d (dI x.1.j),.d (lD 3 encTime x.1.since),.d (lD 6 encUpdate x.1.out)]),(false,[.d (dI x.2.1)]),(false,[.d (dI x.2.2)])]) [] s) (fun (a3:Int × Worker)=>⟨[(1,cD (dI p1)),(4,.c (.ptr 4 0)),(8,.c (.ptr 21 0)),(9,cD (dI a3.1))],[(4,.box [.zero,.zero,.d (dI 0),.d (dI 0),.zero,.zero]),(21,.box [.d (lD 6 encUpdate a3.2.merger.a),.d (lD 6 encUpdate a3.2.merger.b),.d (dI a3.2.merger.i),.d (dI a3.2.merger.j),.d (lD 3 encTime a3.2.merger.since),oC 30304 6 a3.2.merger.out]),(30304,vL 6 encUpdate a3.2.merger.out)]⟩) [1,4,8,9] [4,21,30304] h ?_ ?_ ?_
   ·intro a3 c h
    refine Tri.seqS ?_
    refine Tri.seqJ (fun (a5:Bool × Worker)=>⟨[(1,cD (dI p1)),(4,.c (.ptr 4 0)),(8,.c (.ptr 21 0)),(9,cD (dI a3.1)),(28,cD (.bool a5.1))],[(4,.box [.zero,.zero,.d (dI 0),.d (dI 0),.zero,.zero]),(21,.box [.d (lD 6 encUpdate a5.2.merger.a),.d (lD 6 encUpdate a5.2.merger.b),.d (dI a5.2.merger.i),.d (dI a5.2.merger.j),.d (lD 3 encTime a5.2.merger.since),oC 30304 6 a5.2.merger.out]),(30304,vL 6 encUpdate a5.2.merger.out)]⟩) h (fun a5 h => ?_) (fun j6 h => ?_)
    ·refine Tri.condK h (fun h => ?_) (fun h => ?_)
     ·refine Tri.skip ?_
      refine Tri.blockB ?_
      refine Tri.seqS ?_
      refine Tri.reg ?_
      refine At.sg 1 [1,4,8,9,30] [4,21,30304] (allT_ok 1) ?_
      obtain ⟨r7,hr7,h⟩:=bind_elim h
      refine At.cL 0 [] [.c (.ptr 21 0)] [(5000,21),(5100,30304),(5150,30304)] [1,4,8,9] [4] (freshet_batch_worker_step_w4_ok hr7) (.ren rfl rfl .nil) ?_
      refine At.sg 5 [1,4,8,9,10,11] [4,21,30304] (allT_ok 5) ?_
      refine At.done rfl ?_
      refine Tri.seqS ?_
      refine Tri.sg [1,4,8,9,10,11,35] [4,21,30304] (allT_ok 2) ?_
      refine Tri.condK h (fun h => ?_) (fun h => ?_)
      ·refine Tri.sg [4,5,6] [4,30304] (allT_ok 9) ?_
       refine Tri.keep [4,5,6] [4,30304] (s':=⟨[(4,.c (.ptr 4 0)),(5,cD (dI a3.1)),(6,cD (dI r7.2.1))],[(4,.box [.d (lD 6 encUpdate r7.2.2.merger.a),.d (lD 6 encUpdate r7.2.2.merger.b),.d (dI r7.2.2.merger.i),.d (dI r7.2.2.merger.j),.d (lD 3 encTime r7.2.2.merger.since),oC 30304 6 r7.2.2.merger.out]),(30304,vL 6 encUpdate r7.2.2.merger.out)]⟩) (by kernel_rfl) ?_
       refine Tri.le [30304] (fun k hk h=>by first | (cases h; done) | (simp at hk h; omega)) ⟨[(4,.c (.ptr 4 0)),(5,cD (dI a3.1)),(6,cD (dI r7.2.1))],[(4,.box (cMerger r7.2.2.merger))]⟩ ⟨⟨_,rfl,.refl _⟩,⟨_,rfl,.refl _⟩,⟨_,rfl,.refl _⟩,trivial⟩ ⟨⟨_,rfl,.box (.cons (.refl _) (.cons (.refl _) (.cons (.refl _) (.cons (.refl _) (.cons (.refl _) (.cons (CLe.frozen (encUpdate) r7.2.2.merger.out rfl (by simp)) .nil)))))),(by simp)⟩,trivial⟩ ?_
       refine Tri.ret ?_
       cases h
       exact RetAt.k
      ·refine Tri.skip ?_
       refine Tri.reg ?_
       refine At.sg 4 [1,4,8,9] [4,21,30304] (allT_ok 4) ?_
       refine At.done rfl ?_
       cases h
       exact kr
     ·refine Tri.kp [1,4,8,9] [4,21,30304] ?_
      refine Tri.exit ?_
      cases h
      exact ⟨rfl,kr⟩
    ·refine Tri.reg ?_
     refine At.sg 4 [1,4,8,9,25] [4,21,30304] (allT_ok 4) ?_
     refine At.cs [25] h (fun h => ?_) (fun h => ?_)
     ·refine At.sg 1 [1,4,8,9,25,26] [4,21,30304] (allT_ok 1) ?_
      obtain ⟨r8,hr8,h⟩:=bind_elim h
      refine At.cL 0 [] [.c (.ptr 21 0)] [(5000,21),(5100,30304),(5150,30304)] [1,4,8,9,25] [4] (freshet_batch_worker_left_w4_ok hr8) (.ren rfl rfl .nil) ?_
      refine At.sg 1 [1,4,8,9,28] [4,21,30304] (allT_ok 1) ?_
      refine At.done rfl ?_
      exact ⟨_,h,kr⟩
     ·refine At.sg 3 [1,4,8,9,28] [4,21,30304] (allT_ok 1) ?_
      refine At.done rfl ?_
      exact ⟨_,h,kr⟩
   ·intro a4 h
    refine Tri.sg [4,5,6] [4,30304] (allT_ok 8) ?_
    refine Tri.keep [4,5,6] [4,30304] (s':=⟨[(4,.c (.ptr 4 0)),(5,cD (dI a4.1)),(6,cD (dI 0))],[(4,.box [.d (lD 6 encUpdate a4.2.merger.a),.d (lD 6 encUpdate a4.2.merger.b),.d (dI a4.2.merger.i),.d (dI a4.2.merger.j),.d (lD 3 encTime a4.2.merger.since),oC 30304 6 a4.2.merger.out]),(30304,vL 6 encUpdate a4.2.merger.out)]⟩) (by kernel_rfl) ?_
    refine Tri.le [30304] (fun k hk h=>by first | (cases h; done) | (simp at hk h; omega)) ⟨[(4,.c (.ptr 4 0)),(5,cD (dI a4.1)),(6,cD (dI 0))],[(4,.box (cMerger a4.2.merger))]⟩ ⟨⟨_,rfl,.refl _⟩,⟨_,rfl,.refl _⟩,⟨_,rfl,.refl _⟩,trivial⟩ ⟨⟨_,rfl,.box (.cons (.refl _) (.cons (.refl _) (.cons (.refl _) (.cons (.refl _) (.cons (.refl _) (.cons (CLe.frozen (encUpdate) a4.2.merger.out rfl (by simp)) .nil)))))),(by simp)⟩,trivial⟩ ?_
    refine Tri.ret ?_
    cases h
    exact RetAt.k
   · exact fun x s hx hr=>by cases hx; exact hr
set_option maxRecDepth 100000 in
theorem freshet_batch_worker_left_w_ok {l0:Worker} {q:Bool × Worker} (h:freshet_batch_worker_left_w l0=some q) :
    Summ Tryz.prog 55 [.c (.ptr 5000 0)] [(5000,.box (cMerger l0.merger))] (cD (.bool q.1)) [(5000,.box (cMerger q.2.merger))]:=by
  refine Summ.intro Tryz.func55 rfl (by kernel_rfl) (by kernel_rfl) [] rfl ?_
  rintro ⟨P,w0,G0,V,LL,lk,N, φ0,fx⟩ rfl rfl rfl rfl
  unfold freshet_batch_worker_left_w at h
  refine Tri.segL [0] [5000] ⟨[(0,.c (.ptr 5000 0))],[(5000,.box (cMerger l0.merger))]⟩ _ (by kernel_rfl) (allT_ok 1) ?_
  refine Tri.seqJ (fun (a1:Bool)=>⟨[(2,cD (.bool a1))],[(5000,.box (cMerger l0.merger))]⟩) h (fun a1 h => ?_) (fun j2 h => ?_)
  ·refine Tri.ret ?_
   cases h
   exact RetAt.k
  ·rcases bf_cases h with ⟨hp3,h⟩ | ⟨hp3,h⟩
   ·refine Tri.dC [.a [0] [],.a [3] [],.a [4] [],.a [5] [],.a [6] [5000],.a [0] [],.a [8] [],.a [9] [],.a [10] [],.a [11] [5000],.a [12] [],.a [7,13] [],.m ⟨[(14,cD (.bool (decide (l0.merger.i < (l0.merger.a.length:Int)))))],[]⟩ ⟨[(15,.c (.d (.bool true)))],[]⟩ [] [] [],.a [0,15] [],.a [15,16] [],.a [15,17] [],.a [15,18] [],.a [15,19] [],.a [0,15] [],.a [15,21] [],.a [15,22] [],.a [15,23] [],.a [15,24] [],.a [15,25] [],.a [15,20,26] [],.a [15,27] [],.a [28] []] [2] [5000] (allT_ok 14) (.a (.a (.a (.a (.a (.a (.a (.a (.a (.a (.a (.a (.m ?_ (.a (.a (.a (.a (.a (.a (.a (.a (.a (.a (.a (.a (.a (.a .z))))))))))))))))))))))))))) ?_
    · exact DOk.stepP (fun b => .val (.c (.d (.bool b))) (True)) (p:=(decide (l0.merger.i < (l0.merger.a.length:Int)))) hp3 (fun r=>by kernel_rfl) (fun r=>by kernel_rfl) trivial (by kernel_rfl) (by kernel_rfl) (fun r=>rfl)
    exact ⟨_,h,kr⟩
   ·refine Tri.dC [.a [0] [],.a [3] [],.a [4] [],.a [5] [],.a [6] [5000],.a [0] [],.a [8] [],.a [9] [],.a [10] [],.a [11] [5000],.a [12] [],.a [7,13] [],.m ⟨[(14,cD (.bool (decide (l0.merger.i < (l0.merger.a.length:Int)))))],[]⟩ ⟨[(15,.c (.d (.bool false)))],[]⟩ [] [] [],.a [0,15] [],.a [15,16] [],.a [15,17] [],.a [15,18] [],.a [15,19] [5000],.a [0,15] [],.a [15,21] [],.a [15,22] [],.a [15,23] [],.a [15,24] [5000],.a [15,25] [],.a [15,20,26] [],.a [15,27] [],.a [28] []] [2] [5000] (allT_ok 26) (.a (.a (.a (.a (.a (.a (.a (.a (.a (.a (.a (.a (.m ?_ (.a (.a (.a (.a (.a (.a (.a (.a (.a (.a (.a (.a (.a (.a .z))))))))))))))))))))))))))) ?_
    · exact DOk.stepP (fun b => .val (.c (.d (.bool b))) (True)) (p:=(decide (l0.merger.i < (l0.merger.a.length:Int)))) hp3 (fun r=>by kernel_rfl) (fun r=>by kernel_rfl) trivial (by kernel_rfl) (by kernel_rfl) (fun r=>rfl)
    exact ⟨_,h,kr⟩
set_option maxRecDepth 100000 in
theorem batch_End_ok {fuel:Nat} {p0:Merger} {q:Batch × Int} (h:batch_End fuel p0=some q) :
    Summ Tryz.prog 22 [.agg (cMerger p0)] [] (.tup [(true,[.d (lD 3 encTime q.1.since),.d (lD 6 encUpdate q.1.updates)]),(false,[.d (dI q.2)])]) []:=by
  refine Summ.intro Tryz.func22 rfl (by kernel_rfl) (by kernel_rfl) [] rfl ?_
  rintro ⟨P,w0,G0,V,LL,lk,N, φ0,fx⟩ rfl rfl rfl rfl
  unfold batch_End at h
  refine Tri.sg [1,2] [1,2] (allT_ok 3) ?_
  refine Tri.sg [1,2,4] [1,2,4] (allT_ok 4) ?_
  refine Tri.seqS ?_
  refine Tri.seqJ (fun (a1:Bool)=>⟨[(1,.c (.ptr 1 0)),(2,.c (.ptr 2 0)),(12,cD (.bool a1))],[(1,.box (cMerger p0)),(2,.box [.zero,.zero])]⟩) h (fun a1 h => ?_) (fun j2 h => ?_)
  ·refine Tri.condK h (fun h => ?_) (fun h => ?_)
   ·refine Tri.sg [2,3] [2] (allT_ok 3) ?_
    refine Tri.keep [2,3] [2] (s':=⟨[(2,.c (.ptr 2 0)),(3,cD (dI 8))],[(2,.box [.zero,.zero])]⟩) (by kernel_rfl) ?_
    refine Tri.le [] (fun k hk=>by cases hk) ⟨[(2,.c (.ptr 2 0)),(3,cD (dI 8))],[(2,.box [.d (lD 3 encTime ([]:List Time)),.d (lD 6 encUpdate ([]:List Update))])]⟩ ⟨⟨_,rfl,.refl _⟩,⟨_,rfl,.refl _⟩,trivial⟩ ⟨⟨_,rfl,.box (.cons (.zero _ _) (.cons (.zero _ _) .nil)),(by simp)⟩,trivial⟩ ?_
    refine Tri.ret ?_
    cases h
    exact RetAt.k
   ·refine Tri.skip ?_
    refine Tri.seqS ?_
    refine Tri.reg ?_
    refine At.sg 1 [1,2,14] [1,2] (allT_ok 1) ?_
    obtain ⟨r3,hr3,h⟩:=bind_elim h
    refine At.cA [] [.agg (cMerger p0)] (batch_Own_ok hr3) (.cons (.refl _) .nil) ?_
    refine At.sg 1 [1,2] [1,2] (allT_ok 1) ?_
    refine At.done rfl ?_
    refine Tri.sg [2,3] [2] (allT_ok 7) ?_
    refine Tri.ret ?_
    cases h
    exact RetAt.k
  ·refine Tri.reg ?_
   refine At.sg 1 [1,2,4,7] [1,2,4] (allT_ok 1) ?_
   obtain ⟨r4,hr4,h⟩:=bind_elim h
   refine At.cA [] [.agg (cMerger p0)] (batch_CheckMerger_ok hr4) (.cons (.refl _) .nil) ?_
   refine At.sg 2 [1,2,4,10] [1,2,4] (allT_ok 2) ?_
   refine At.cs [10] h (fun h => ?_) (fun h => ?_)
   ·refine At.sg 2 [1,2,12] [1,2] (allT_ok 1) ?_
    refine At.done rfl ?_
    exact ⟨_,h,kr⟩
   ·obtain ⟨r5,hr5,h⟩:=bind_elim h
    refine At.cL 0 [] [.c (.ptr 4 0)] [(5000,4)] [1,2,10] [1,2] (freshet_batch_worker_left_w_ok hr5) (.ren rfl rfl .nil) ?_
    refine At.sg 1 [1,2,12] [1,2] (allT_ok 1) ?_
    refine At.done rfl ?_
    exact ⟨_,h,kr⟩
set_option maxRecDepth 100000 in
theorem freshetlaw06_lives_ok {fuel:Nat} {q:Bool} (h:freshetlaw06_lives fuel=some q) :
    Summ Tryz.prog 13 [] [] (cD (.bool q)) []:=by
  refine Summ.intro Tryz.func13 rfl (by kernel_rfl) (by kernel_rfl) [] rfl ?_
  rintro ⟨P,w0,G0,V,LL,lk,N, φ0,fx⟩ rfl rfl rfl rfl
  unfold freshetlaw06_lives at h
  refine Tri.sg [] [] (allT_ok 1) ?_
  refine Tri.seqS ?_
  refine Tri.reg ?_
  obtain ⟨r1,hr1,h⟩:=bind_elim h
  refine At.cA [] [cD (dI 1)] (freshetlaw06_row_ok hr1) (.cons (.refl _) .nil) ?_
  refine At.seg 1 [17] [] (s':=⟨[(17,.agg [.zero,.d (lD 3 encValue r1),.d (dU 0),.d (dU 0),.d (dU 0),.d (dI 1)])],[]⟩) (by kernel_rfl) (allT_ok 1) ?_
  refine At.one rfl (One.buildSlice (z:=[.zero,.zero,.d (dU 0),.d (dU 0),.d (dU 0),.d (dI 0)]) (cells:=[.zero,.d (lD 3 encValue r1),.d (dU 0),.d (dU 0),.d (dU 0),.d (dI 1)]) (xs:=List.map (encUpdate) ([(⟨([]:List Value),r1,(⟨0,(0,0)⟩:Time),1⟩:Update)]:List Update)) rfl rfl rfl rfl (by kernel_rfl) rfl rfl (by kernel_rfl) rfl rfl rfl (by kernel_rfl) rfl ⟨⟨rfl,(.cons (.zero _ _) (.cons (.refl _) (.cons (.refl _) (.cons (.refl _) (.cons (.refl _) (.cons (.refl _) .nil))))))⟩,trivial⟩) ?_
  refine At.le [18] (fun k hk h=>by first | (cases h; done) | (simp at hk h; omega)) ⟨[(18,cD (lD 6 encUpdate ([(⟨([]:List Value),r1,(⟨0,(0,0)⟩:Time),1⟩:Update)]:List Update))),(17,.agg [.zero,.d (lD 3 encValue r1),.d (dU 0),.d (dU 0),.d (dU 0),.d (dI 1)])],[]⟩ ⟨⟨_,rfl,.c (.own rfl (List.mem_singleton.2 rfl) (Nat.le_of_ble_eq_true rfl) rfl (encs_getD (encUpdate) ([(⟨([]:List Value),r1,(⟨0,(0,0)⟩:Time),1⟩:Update)]:List Update)))⟩,⟨_,rfl,.refl _⟩,trivial⟩ trivial ?_
  obtain ⟨r2,hr2,h⟩:=bind_elim h
  refine At.cA [] [cD (dI 2)] (freshetlaw06_row_ok hr2) (.cons (.refl _) .nil) ?_
  refine At.seg 1 [18,20] [] (s':=⟨[(18,cD (lD 6 encUpdate ([(⟨([]:List Value),r1,(⟨0,(0,0)⟩:Time),1⟩:Update)]:List Update))),(20,.agg [.zero,.d (lD 3 encValue r2),.d (dU 0),.d (dU 0),.d (dU 0),.d (dI 5)])],[]⟩) (by kernel_rfl) (allT_ok 1) ?_
  refine At.one rfl (One.buildSlice (z:=[.zero,.zero,.d (dU 0),.d (dU 0),.d (dU 0),.d (dI 0)]) (cells:=[.zero,.d (lD 3 encValue r2),.d (dU 0),.d (dU 0),.d (dU 0),.d (dI 5)]) (xs:=List.map (encUpdate) ([(⟨([]:List Value),r2,(⟨0,(0,0)⟩:Time),5⟩:Update)]:List Update)) rfl rfl rfl rfl (by kernel_rfl) rfl rfl (by kernel_rfl) rfl rfl rfl (by kernel_rfl) rfl ⟨⟨rfl,(.cons (.zero _ _) (.cons (.refl _) (.cons (.refl _) (.cons (.refl _) (.cons (.refl _) (.cons (.refl _) .nil))))))⟩,trivial⟩) ?_
  refine At.le [21] (fun k hk h=>by first | (cases h; done) | (simp at hk h; omega)) ⟨[(21,cD (lD 6 encUpdate ([(⟨([]:List Value),r2,(⟨0,(0,0)⟩:Time),5⟩:Update)]:List Update))),(18,cD (lD 6 encUpdate ([(⟨([]:List Value),r1,(⟨0,(0,0)⟩:Time),1⟩:Update)]:List Update))),(20,.agg [.zero,.d (lD 3 encValue r2),.d (dU 0),.d (dU 0),.d (dU 0),.d (dI 5)])],[]⟩ ⟨⟨_,rfl,.c (.own rfl (List.mem_singleton.2 rfl) (Nat.le_of_ble_eq_true rfl) rfl (encs_getD (encUpdate) ([(⟨([]:List Value),r2,(⟨0,(0,0)⟩:Time),5⟩:Update)]:List Update)))⟩,⟨_,rfl,.refl _⟩,⟨_,rfl,.refl _⟩,trivial⟩ trivial ?_
  refine At.one rfl (One.buildSlice (z:=[.zero]) (cells:=[.d (lD 6 encUpdate ([(⟨([]:List Value),r1,(⟨0,(0,0)⟩:Time),1⟩:Update)]:List Update)),.d (lD 6 encUpdate ([(⟨([]:List Value),r2,(⟨0,(0,0)⟩:Time),5⟩:Update)]:List Update))]) (xs:=List.map ((fun xs=>[encL 6 encUpdate xs])) ([([(⟨([]:List Value),r1,(⟨0,(0,0)⟩:Time),1⟩:Update)]:List Update),([(⟨([]:List Value),r2,(⟨0,(0,0)⟩:Time),5⟩:Update)]:List Update)]:List (List Update))) rfl rfl rfl rfl (by kernel_rfl) rfl rfl (by kernel_rfl) rfl rfl rfl (by kernel_rfl) rfl ⟨⟨rfl,.refl _⟩,⟨rfl,.refl _⟩,trivial⟩) ?_
  refine At.le [22] (fun k hk h=>by first | (cases h; done) | (simp at hk h; omega)) ⟨[(22,cD (lD 1 (fun xs=>[encL 6 encUpdate xs]) ([([(⟨([]:List Value),r1,(⟨0,(0,0)⟩:Time),1⟩:Update)]:List Update),([(⟨([]:List Value),r2,(⟨0,(0,0)⟩:Time),5⟩:Update)]:List Update)]:List (List Update)))),(18,cD (lD 6 encUpdate ([(⟨([]:List Value),r1,(⟨0,(0,0)⟩:Time),1⟩:Update)]:List Update))),(21,cD (lD 6 encUpdate ([(⟨([]:List Value),r2,(⟨0,(0,0)⟩:Time),5⟩:Update)]:List Update)))],[]⟩ ⟨⟨_,rfl,.c (.own rfl (List.mem_singleton.2 rfl) (Nat.le_of_ble_eq_true rfl) rfl (encs_getD ((fun xs=>[encL 6 encUpdate xs])) ([([(⟨([]:List Value),r1,(⟨0,(0,0)⟩:Time),1⟩:Update)]:List Update),([(⟨([]:List Value),r2,(⟨0,(0,0)⟩:Time),5⟩:Update)]:List Update)]:List (List Update))))⟩,⟨_,rfl,.refl _⟩,⟨_,rfl,.refl _⟩,trivial⟩ trivial ?_
  obtain ⟨r3,hr3,h⟩:=bind_elim h
  refine At.cA [] [.c (.zero),cD (lD 1 (fun xs=>[encL 6 encUpdate xs]) ([([(⟨([]:List Value),r1,(⟨0,(0,0)⟩:Time),1⟩:Update)]:List Update),([(⟨([]:List Value),r2,(⟨0,(0,0)⟩:Time),5⟩:Update)]:List Update)]:List (List Update)))] (batch_Build_ok hr3) (.cons (.c (.le (.zero _ _))) (.cons (.refl _) .nil)) ?_
  refine At.sg 6 [1,2] [1] (allT_ok 6) ?_
  refine At.done rfl ?_
  refine Tri.seqS ?_
  refine Tri.reg ?_
  obtain ⟨r4,hr4,h⟩:=bind_elim h
  refine At.cA [] [cD (dI 1)] (freshetlaw06_row_ok hr4) (.cons (.refl _) .nil) ?_
  refine At.seg 1 [1,2,28] [1] (s':=⟨[(1,.c (.ptr 1 0)),(2,cD (dI r3.2)),(28,.agg [.zero,.d (lD 3 encValue r4),.d (dU 0),.d (dU 0),.d (dU 0),.d (dI (-1))])],[(1,.box (cBatch r3.1))]⟩) (by kernel_rfl) (allT_ok 1) ?_
  refine At.one rfl (One.buildSlice (z:=[.zero,.zero,.d (dU 0),.d (dU 0),.d (dU 0),.d (dI 0)]) (cells:=[.zero,.d (lD 3 encValue r4),.d (dU 0),.d (dU 0),.d (dU 0),.d (dI (-1))]) (xs:=List.map (encUpdate) ([(⟨([]:List Value),r4,(⟨0,(0,0)⟩:Time),(-1)⟩:Update)]:List Update)) rfl rfl rfl rfl (by kernel_rfl) rfl rfl (by kernel_rfl) rfl rfl rfl (by kernel_rfl) rfl ⟨⟨rfl,(.cons (.zero _ _) (.cons (.refl _) (.cons (.refl _) (.cons (.refl _) (.cons (.refl _) (.cons (.refl _) .nil))))))⟩,trivial⟩) ?_
  refine At.le [29] (fun k hk h=>by first | (cases h; done) | (simp at hk h; omega)) ⟨[(29,cD (lD 6 encUpdate ([(⟨([]:List Value),r4,(⟨0,(0,0)⟩:Time),(-1)⟩:Update)]:List Update))),(1,.c (.ptr 1 0)),(2,cD (dI r3.2)),(28,.agg [.zero,.d (lD 3 encValue r4),.d (dU 0),.d (dU 0),.d (dU 0),.d (dI (-1))])],[(1,.box (cBatch r3.1))]⟩ ⟨⟨_,rfl,.c (.own rfl (List.mem_singleton.2 rfl) (Nat.le_of_ble_eq_true rfl) rfl (encs_getD (encUpdate) ([(⟨([]:List Value),r4,(⟨0,(0,0)⟩:Time),(-1)⟩:Update)]:List Update)))⟩,⟨_,rfl,.refl _⟩,⟨_,rfl,.refl _⟩,⟨_,rfl,.refl _⟩,trivial⟩ ⟨⟨_,rfl,.refl _,(by simp)⟩,trivial⟩ ?_
  refine At.one rfl (One.buildSlice (z:=[.zero]) (cells:=[.d (lD 6 encUpdate ([(⟨([]:List Value),r4,(⟨0,(0,0)⟩:Time),(-1)⟩:Update)]:List Update))]) (xs:=List.map ((fun xs=>[encL 6 encUpdate xs])) ([([(⟨([]:List Value),r4,(⟨0,(0,0)⟩:Time),(-1)⟩:Update)]:List Update)]:List (List Update))) rfl rfl rfl rfl (by kernel_rfl) rfl rfl (by kernel_rfl) rfl rfl rfl (by kernel_rfl) rfl ⟨⟨rfl,.refl _⟩,trivial⟩) ?_
  refine At.le [30] (fun k hk h=>by first | (cases h; done) | (simp at hk h; omega)) ⟨[(30,cD (lD 1 (fun xs=>[encL 6 encUpdate xs]) ([([(⟨([]:List Value),r4,(⟨0,(0,0)⟩:Time),(-1)⟩:Update)]:List Update)]:List (List Update)))),(1,.c (.ptr 1 0)),(2,cD (dI r3.2)),(29,cD (lD 6 encUpdate ([(⟨([]:List Value),r4,(⟨0,(0,0)⟩:Time),(-1)⟩:Update)]:List Update)))],[(1,.box (cBatch r3.1))]⟩ ⟨⟨_,rfl,.c (.own rfl (List.mem_singleton.2 rfl) (Nat.le_of_ble_eq_true rfl) rfl (encs_getD ((fun xs=>[encL 6 encUpdate xs])) ([([(⟨([]:List Value),r4,(⟨0,(0,0)⟩:Time),(-1)⟩:Update)]:List Update)]:List (List Update))))⟩,⟨_,rfl,.refl _⟩,⟨_,rfl,.refl _⟩,⟨_,rfl,.refl _⟩,trivial⟩ ⟨⟨_,rfl,.refl _,(by simp)⟩,trivial⟩ ?_
  obtain ⟨r5,hr5,h⟩:=bind_elim h
  refine At.cA [] [.c (.zero),cD (lD 1 (fun xs=>[encL 6 encUpdate xs]) ([([(⟨([]:List Value),r4,(⟨0,(0,0)⟩:Time),(-1)⟩:Update)]:List Update)]:List (List Update)))] (batch_Build_ok hr5) (.cons (.c (.le (.zero _ _))) (.cons (.refl _) .nil)) ?_
  refine At.sg 6 [1,2,3,4] [1,3] (allT_ok 6) ?_
  refine At.done rfl ?_
  refine Tri.seqS ?_
  refine Tri.reg ?_
  refine At.seg 2 [2,4,35,36] [] (s':=⟨[(2,cD (dI r3.2)),(4,cD (dI r5.2)),(35,.agg (cBatch r3.1)),(36,.agg (cBatch r5.1))],[]⟩) (by kernel_rfl) (allT_ok 2) ?_
  obtain ⟨r6,hr6,h⟩:=bind_elim h
  refine At.cA [] [.c (.zero),.agg (cBatch r3.1),.agg (cBatch r5.1)] (batch_Start_ok hr6) (.cons (.c (.le (.zero _ _))) (.cons (.refl _) (.cons (.refl _) .nil))) ?_
  refine At.sg 6 [2,4,5,6] [5] (allT_ok 6) ?_
  refine At.done rfl ?_
  refine Tri.seqS ?_
  refine Tri.reg ?_
  refine At.sg 1 [2,4,5,6,41] [5] (allT_ok 1) ?_
  obtain ⟨r7,hr7,h⟩:=bind_elim h
  refine At.cA [] [.agg (cMerger r6.1),cD (dI 1)] (batch_Work_ok hr7) (.cons (.refl _) (.cons (.refl _) .nil)) ?_
  refine At.sg 7 [2,4,5,6,7,8] [5] (allT_ok 7) ?_
  refine At.done rfl ?_
  refine Tri.seqS ?_
  refine Tri.reg ?_
  refine At.sg 1 [2,4,5,6,7,8,47] [5] (allT_ok 1) ?_
  obtain ⟨r8,hr8,h⟩:=bind_elim h
  refine At.cA [] [.agg (cMerger r7.1)] (batch_End_ok hr8) (.cons (.refl _) .nil) ?_
  refine At.sg 6 [2,4,5,6,7,8,10] [5] (allT_ok 6) ?_
  refine At.done rfl ?_
  refine Tri.seqS ?_
  refine Tri.reg ?_
  refine At.sg 1 [2,4,5,6,7,8,10,52] [5] (allT_ok 1) ?_
  obtain ⟨r9,hr9,h⟩:=bind_elim h
  refine At.cA [] [.agg (cMerger r7.1),cD (dI 9)] (batch_Work_ok hr9) (.cons (.refl _) (.cons (.refl _) .nil)) ?_
  refine At.sg 7 [2,4,5,6,7,8,10,11,12] [5] (allT_ok 7) ?_
  refine At.done rfl ?_
  refine Tri.seqS ?_
  refine Tri.reg ?_
  refine At.sg 1 [2,4,6,7,8,10,11,12,58] [] (allT_ok 1) ?_
  obtain ⟨r10,hr10,h⟩:=bind_elim h
  refine At.cA [] [.agg (cMerger r9.1)] (batch_End_ok hr10) (.cons (.refl _) .nil) ?_
  refine At.sg 6 [2,4,6,7,8,10,11,12,13,14] [13] (allT_ok 6) ?_
  refine At.done rfl ?_
  refine Tri.seqJ (fun (a11:Bool)=>⟨[(0,cD (.bool a11))],[]⟩) h (fun a11 h => ?_) (fun j12 h => ?_)
  ·refine Tri.ret ?_
   cases h
   exact RetAt.k
  ·refine Tri.reg ?_
   refine At.sg 3 [4,6,7,8,10,11,12,13,14,64] [13] (allT_ok 3) ?_
   refine At.cs [64] h (fun h => ?_) (fun h => ?_)
   ·refine At.sg 4 [6,7,8,10,11,12,13,14,68] [13] (allT_ok 4) ?_
    refine At.cs [68] h (fun h => ?_) (fun h => ?_)
    ·refine At.sg 4 [7,8,10,11,12,13,14,72] [13] (allT_ok 4) ?_
     refine At.cs [72] h (fun h => ?_) (fun h => ?_)
     ·refine At.sg 4 [8,10,11,12,13,14,76] [13] (allT_ok 4) ?_
      refine At.cs [76] h (fun h => ?_) (fun h => ?_)
      ·refine At.sg 4 [10,11,12,13,14,80] [13] (allT_ok 4) ?_
       refine At.cs [80] h (fun h => ?_) (fun h => ?_)
       ·refine At.sg 4 [11,12,13,14,84] [13] (allT_ok 4) ?_
        refine At.cs [84] h (fun h => ?_) (fun h => ?_)
        ·refine At.sg 4 [12,13,14,88] [13] (allT_ok 4) ?_
         refine At.cs [88] h (fun h => ?_) (fun h => ?_)
         ·refine At.sg 4 [13,14,92] [13] (allT_ok 4) ?_
          refine At.cs [92] h (fun h => ?_) (fun h => ?_)
          ·refine At.sg 4 [13,96] [13] (allT_ok 4) ?_
           refine At.cs [96] h (fun h => ?_) (fun h => ?_)
           ·refine At.sg 6 [13,102] [13] (allT_ok 6) ?_
            refine At.cs [102] h (fun h => ?_) (fun h => ?_)
            ·obtain ⟨hc13,h⟩:=need_elim h
             refine At.sg 8 [110] [] (tN 2 (ai hc13 (allT_ok 5))) ?_
             refine At.cs [110] h (fun h => ?_) (fun h => ?_)
             ·refine At.seg 1 [110,111] [] (s':=⟨[(110,cD (.bool true)),(111,.agg [.d (dU 2),.d (dU 0),.d (dU 0)])],[]⟩) (by kernel_rfl) (allT_ok 1) ?_
              refine At.one rfl (One.buildSlice (z:=[.d (dU 0),.d (dU 0),.d (dU 0)]) (cells:=[.d (dU 2),.d (dU 0),.d (dU 0)]) (xs:=List.map (encTime) ([(⟨2,(0,0)⟩:Time)]:List Time)) rfl rfl rfl rfl (by kernel_rfl) rfl rfl (by kernel_rfl) rfl rfl rfl (by kernel_rfl) rfl ⟨⟨rfl,.refl _⟩,trivial⟩) ?_
              refine At.le [112] (fun k hk h=>by first | (cases h; done) | (simp at hk h; omega)) ⟨[(112,cD (lD 3 encTime ([(⟨2,(0,0)⟩:Time)]:List Time))),(110,cD (.bool true)),(111,.agg [.d (dU 2),.d (dU 0),.d (dU 0)])],[]⟩ ⟨⟨_,rfl,.c (.own rfl (List.mem_singleton.2 rfl) (Nat.le_of_ble_eq_true rfl) rfl (encs_getD (encTime) ([(⟨2,(0,0)⟩:Time)]:List Time)))⟩,⟨_,rfl,.refl _⟩,⟨_,rfl,.refl _⟩,trivial⟩ trivial ?_
              refine At.seg 1 [110,112,113] [] (s':=⟨[(110,cD (.bool true)),(112,cD (lD 3 encTime ([(⟨2,(0,0)⟩:Time)]:List Time))),(113,.agg [.d (dU 1),.d (dU 0),.d (dU 0)])],[]⟩) (by kernel_rfl) (allT_ok 1) ?_
              refine At.one rfl (One.buildSlice (z:=[.d (dU 0),.d (dU 0),.d (dU 0)]) (cells:=[.d (dU 1),.d (dU 0),.d (dU 0)]) (xs:=List.map (encTime) ([(⟨1,(0,0)⟩:Time)]:List Time)) rfl rfl rfl rfl (by kernel_rfl) rfl rfl (by kernel_rfl) rfl rfl rfl (by kernel_rfl) rfl ⟨⟨rfl,.refl _⟩,trivial⟩) ?_
              refine At.le [114] (fun k hk h=>by first | (cases h; done) | (simp at hk h; omega)) ⟨[(114,cD (lD 3 encTime ([(⟨1,(0,0)⟩:Time)]:List Time))),(110,cD (.bool true)),(112,cD (lD 3 encTime ([(⟨2,(0,0)⟩:Time)]:List Time))),(113,.agg [.d (dU 1),.d (dU 0),.d (dU 0)])],[]⟩ ⟨⟨_,rfl,.c (.own rfl (List.mem_singleton.2 rfl) (Nat.le_of_ble_eq_true rfl) rfl (encs_getD (encTime) ([(⟨1,(0,0)⟩:Time)]:List Time)))⟩,⟨_,rfl,.refl _⟩,⟨_,rfl,.refl _⟩,⟨_,rfl,.refl _⟩,trivial⟩ trivial ?_
              obtain ⟨r14,hr14,h⟩:=bind_elim h
              refine At.cA [] [cD (lD 3 encTime ([(⟨2,(0,0)⟩:Time)]:List Time)),cD (lD 3 encTime ([(⟨1,(0,0)⟩:Time)]:List Time))] (batch_Later_ok hr14) (.cons (.refl _) (.cons (.refl _) .nil)) ?_
              refine At.sg 2 [0] [] (allT_ok 2) ?_
              refine At.done rfl ?_
              exact ⟨_,h,kr⟩
             ·refine At.sg 7 [0] [] (allT_ok 2) ?_
              refine At.done rfl ?_
              exact ⟨_,h,kr⟩
            ·refine At.sg 15 [0] [] (allT_ok 4) ?_
             refine At.done rfl ?_
             exact ⟨_,h,kr⟩
           ·refine At.sg 21 [0] [] (allT_ok 6) ?_
            refine At.done rfl ?_
            exact ⟨_,h,kr⟩
          ·refine At.sg 25 [0] [] (allT_ok 8) ?_
           refine At.done rfl ?_
           exact ⟨_,h,kr⟩
         ·refine At.sg 29 [0] [] (allT_ok 10) ?_
          refine At.done rfl ?_
          exact ⟨_,h,kr⟩
        ·refine At.sg 33 [0] [] (allT_ok 12) ?_
         refine At.done rfl ?_
         exact ⟨_,h,kr⟩
       ·refine At.sg 37 [0] [] (allT_ok 14) ?_
        refine At.done rfl ?_
        exact ⟨_,h,kr⟩
      ·refine At.sg 41 [0] [] (allT_ok 16) ?_
       refine At.done rfl ?_
       exact ⟨_,h,kr⟩
     ·refine At.sg 45 [0] [] (allT_ok 18) ?_
      refine At.done rfl ?_
      exact ⟨_,h,kr⟩
    ·refine At.sg 49 [0] [] (allT_ok 20) ?_
     refine At.done rfl ?_
     exact ⟨_,h,kr⟩
   ·refine At.sg 53 [0] [] (allT_ok 22) ?_
    refine At.done rfl ?_
    exact ⟨_,h,kr⟩
set_option maxRecDepth 100000 in
theorem freshetref03_Same_ok {p0:List Value} {p1:List Value} {q:Bool} (h:freshetref03_Same p0 p1=some q) :
    Summ Tryz.prog 62 [cD (lD 3 encValue p0),cD (lD 3 encValue p1)] [] (cD (.bool q)) []:=by
  refine Summ.intro Tryz.func62 rfl (by kernel_rfl) (by kernel_rfl) [] rfl ?_
  rintro ⟨P,w0,G0,V,LL,lk,N, φ0,fx⟩ rfl rfl rfl rfl
  unfold freshetref03_Same at h
  refine Tri.sg [0,1] [] (allT_ok 1) ?_
  refine Tri.seqS ?_
  refine Tri.sg [0,1,10] [] (allT_ok 5) ?_
  refine Tri.condK h (fun h => ?_) (fun h => ?_)
  ·refine Tri.sg [4] [] (allT_ok 1) ?_
   refine Tri.ret ?_
   cases h
   exact RetAt.k
  ·refine Tri.skip ?_
   refine Tri.seqS ?_
   refine Tri.sg [0,1,12,13] [] (allT_ok 3) ?_
   refine Tri.ln 0 p0.length fun hlena2 => ?_
   refine Tri.rK 13 () (fun (x:Bool) s=>RetAt Tryz.prog Tryz.f62 (cD (.bool x)) [] s) (fun (a2:Unit)=>⟨[(0,cD (lD 3 encValue p0)),(1,cD (lD 3 encValue p1)),(12,cD (dI (p0.length:Int)))],[]⟩) [13,0,1,12] [] [14,13,0,1,12] [] [0,1,12] [] [13,0,1,12] [] h hlena2 ?_ ?_ ?_
   ·intro i1 a2 c hii1 h
    refine Tri.sg [0,1,5,12,13] [] (allT_ok 2) ?_
    refine Tri.seqS ?_
    obtain ⟨hc4,h⟩:=need_elim h
    refine Tri.dC [.a [0] [],.a [5] [],.a [16,17] [],.a [18] [],.a [1] [],.a [5] [],.a [20,21] [],.a [22] [],.m ⟨[(19,.agg (cValue (p0.getD i1 default))),(23,.agg (cValue (p1.getD i1 default)))],[]⟩ ⟨[(24,cD (.bool (!(eqValue (p0.getD i1 default) (p1.getD i1 default)))))],[]⟩ [] [] []] [0,1,12,13,24] [] (tN 2 (ai (show ((0:Int)≤((i1:Nat):Int)∧((i1:Nat):Int) < (p0.length:Int)) from ⟨by omega,by omega⟩) (tN 3 (ai hc4 (allT_ok 1))))) (.a (.a (.a (.a (.a (.a (.a (.a (.m ?_ .z))))))))) ?_
    · exact DOk.one fun r _=>One.eql (b:=(eqValue (p0.getD i1 default) (p1.getD i1 default))) (d:=9) rfl (by kernel_rfl) rfl (.inr rfl) rfl rfl (by kernel_rfl) rfl (by kernel_rfl)
    refine Tri.condK h (fun h => ?_) (fun h => ?_)
    ·refine Tri.sg [4] [] (allT_ok 1) ?_
     refine Tri.ret ?_
     cases h
     exact RetAt.k
    ·refine Tri.kp [13,0,1,12] [] ?_
     refine Tri.skip ?_
     cases h
     exact kr
   ·intro a3 h
    refine Tri.sg [4] [] (allT_ok 1) ?_
    refine Tri.ret ?_
    cases h
    exact RetAt.k
   · exact fun x s hx hr=>by cases hx; exact hr
end Go.Av
namespace Go.Av
open Go Go.Proofs
set_option linter.unusedVariables false
set_option linter.unusedSimpArgs false
set_option maxRecDepth 100000 in
theorem diff_added_1_ok {p0:Count} {p1:Count} {q:Int} (h:diff_added_1 p0 p1=some q) :
  Summ Tryz.prog 100 [.agg (cCount p0),.agg (cCount p1)] [] (cD (dI q)) []:=by
 refine Summ.intro Tryz.func100 rfl (by kernel_rfl) (by kernel_rfl) [] rfl ?_
 rintro ⟨P,w0,G0,V,LL,lk,N, φ0,fx⟩ rfl rfl rfl rfl
 unfold diff_added_1 at h
 refine Tri.sg [2,3] [2,3] (allT_ok 3) ?_
 refine Tri.seqS ?_
 refine Tri.reg ?_
 refine At.sg 4 [6,8] [] (allT_ok 4) ?_
 obtain ⟨r1,hr1,h⟩:=bind_elim h
 refine At.cA [] [cD (lD 3 encValue p0.row),cD (lD 3 encValue p1.row)] (value_Rows_ok hr1) (.cons (.refl _) (.cons (.refl _) .nil)) ?_
 refine At.sg 1 [4] [] (allT_ok 1) ?_
 refine At.done rfl ?_
 refine Tri.ret ?_
 cases h
 exact RetAt.k
set_option maxRecDepth 100000 in
theorem slices_insertionSortCmpFunc_Count__diff_added_1_w_ok {fuel:Nat} {p1:Int} {p2:Int} {l0:List Count} {q:List Count} (h:slices_insertionSortCmpFunc_Count__diff_added_1_w fuel p1 p2 l0=some q) :
    Summ Tryz.prog 159 [.c (oC 5000 2 l0),cD (dI p1),cD (dI p2),cD (.fn 100 [])] [(5000,vL 2 encCount l0)] (.tup []) [(5000,vL 2 encCount q)]:=by
  refine Summ.intro Tryz.func159 rfl (by kernel_rfl) (by kernel_rfl) [] rfl ?_
  rintro ⟨P,w0,G0,V,LL,lk,N, φ0,fx⟩ rfl rfl rfl rfl
  unfold slices_insertionSortCmpFunc_Count__diff_added_1_w at h
  refine Tri.sg [0,1,2,3,8] [5000] (allT_ok 3) ?_
  refine Tri.keep [0,1,2,3,8] [5000] (s':=⟨[(0,.c (oC 5000 2 l0)),(1,cD (dI p1)),(2,cD (dI p2)),(3,cD (.fn 100 [])),(8,cD (dI (IntKind.i64.wrap (p1 + 1))))],[(5000,vL 2 encCount l0)]⟩) (by kernel_rfl) ?_
  refine Tri.loopK (fuel:=fuel) (st0:=((IntKind.i64.wrap (p1 + 1)),l0)) (fun (x:Empty) s=>False) (fun (a1:Int × (List Count))=>⟨[(0,.c (oC 5000 2 a1.2)),(1,cD (dI p1)),(2,cD (dI p2)),(3,cD (.fn 100 [])),(8,cD (dI a1.1))],[(5000,vL 2 encCount a1.2)]⟩) (fun (a1:Int × (List Count))=>⟨[],[(5000,vL 2 encCount a1.2)]⟩) h ?_ ?_ ?_
  ·intro a1 c h
   refine Tri.seqS ?_
   refine Tri.sg [0,1,2,3,8,14] [5000] (allT_ok 3) ?_
   refine Tri.condK h (fun h => ?_) (fun h => ?_)
   ·refine Tri.skip ?_
    refine Tri.seqS ?_
    refine Tri.blockB ?_
    refine Tri.sg [0,1,2,3,8,9] [5000] (allT_ok 2) ?_
    refine Tri.lK (a1.1,a1.2) (fun (x:Empty) s=>False) (fun (a3:Int × (List Count))=>⟨[(0,.c (oC 5000 2 a3.2)),(1,cD (dI p1)),(2,cD (dI p2)),(3,cD (.fn 100 [])),(8,cD (dI a1.1)),(9,cD (dI a3.1))],[(5000,vL 2 encCount a3.2)]⟩) [0,1,2,3,8,9] [5000] h ?_ ?_ ?_
    ·intro a3 c h
     refine Tri.eqS ⟨[(0,.c (oC 5000 2 a3.2)),(1,cD (dI p1)),(2,cD (dI p2)),(3,cD (.fn 100 [])),(8,cD (dI a1.1)),(9,cD (dI a3.1))],[(5000,vL 2 encCount a3.2)]⟩ kr ?_
     refine Tri.seqS ?_
     refine Tri.seqJ (fun (a5:Bool)=>⟨[(0,.c (oC 5000 2 a3.2)),(1,cD (dI p1)),(2,cD (dI p2)),(3,cD (.fn 100 [])),(8,cD (dI a1.1)),(9,cD (dI a3.1)),(34,cD (.bool a5))],[(5000,vL 2 encCount a3.2)]⟩) h (fun a5 h => ?_) (fun j6 h => ?_)
     ·refine Tri.eqS ⟨[(0,.c (oC 5000 2 a3.2)),(1,cD (dI p1)),(2,cD (dI p2)),(3,cD (.fn 100 [])),(8,cD (dI a1.1)),(9,cD (dI a3.1)),(34,cD (.bool a5))],[(5000,vL 2 encCount a3.2)]⟩ kr ?_
      refine Tri.condK h (fun h => ?_) (fun h => ?_)
      ·refine Tri.skip ?_
       refine Tri.seqS ?_
       refine Tri.blockB ?_
       obtain ⟨hc7,h⟩:=need_elim h
       obtain ⟨hc8,h⟩:=need_elim h
       obtain ⟨hc9,h⟩:=need_elim h
       obtain ⟨hc10,h⟩:=need_elim h
       obtain ⟨hc11,h⟩:=need_elim h
       obtain ⟨hc12,h⟩:=need_elim h
       obtain ⟨hc13,h⟩:=need_elim h
       obtain ⟨hc14,h⟩:=need_elim h
       refine Tri.afterA ⟨[(0,.c (oC 5000 2 a3.2)),(1,cD (dI p1)),(2,cD (dI p2)),(3,cD (.fn 100 [])),(8,cD (dI a1.1)),(9,cD (dI a3.1))],[(5000,vL 2 encCount ((a3.2.set (0 + a3.1.toNat) (a3.2.getD (0 + (IntKind.i64.wrap (a3.1 - 1)).toNat) default)).set (0 + (IntKind.i64.wrap (a3.1 - 1)).toNat) (a3.2.getD (0 + a3.1.toNat) default)))]⟩ ?_ ?_
       ·refine Tri.dS ⟨[(0,.c (oC 5000 2 a3.2)),(1,cD (dI p1)),(2,cD (dI p2)),(3,cD (.fn 100 [])),(8,cD (dI a1.1)),(9,cD (dI a3.1))],[(5000,vL 2 encCount ((a3.2.set (0 + a3.1.toNat) (a3.2.getD (0 + (IntKind.i64.wrap (a3.1 - 1)).toNat) default)).set (0 + (IntKind.i64.wrap (a3.1 - 1)).toNat) (a3.2.getD (0 + a3.1.toNat) default)))]⟩ [.a [0] [],.a [9] [],.a [0] [],.a [9] [],.a [40] [],.a [0] [],.a [9] [],.a [43] [],.a [42,44] [5000],.a [45] [5000],.a [0] [],.a [9] [],.a [47,48] [5000],.a [49] [5000],.a [37,38] [5000],.m ⟨[(46,.agg (cCount (a3.2.getD (0 + (IntKind.i64.wrap (a3.1 - 1)).toNat) default))),(51,.c (.vptr 5000 2 (0 + a3.1.toNat) 0))],[(5000,vL 2 encCount a3.2)]⟩ ⟨[],[(5000,vL 2 encCount (a3.2.set (0 + a3.1.toNat) (a3.2.getD (0 + (IntKind.i64.wrap (a3.1 - 1)).toNat) default)))]⟩ [] [] [],.a [39,41] [5000],.m ⟨[(50,.agg (cCount (a3.2.getD (0 + a3.1.toNat) default))),(52,.c (.vptr 5000 2 (0 + (IntKind.i64.wrap (a3.1 - 1)).toNat) 0))],[(5000,vL 2 encCount (a3.2.set (0 + a3.1.toNat) (a3.2.getD (0 + (IntKind.i64.wrap (a3.1 - 1)).toNat) default)))]⟩ ⟨[],[(5000,vL 2 encCount ((a3.2.set (0 + a3.1.toNat) (a3.2.getD (0 + (IntKind.i64.wrap (a3.1 - 1)).toNat) default)).set (0 + (IntKind.i64.wrap (a3.1 - 1)).toNat) (a3.2.getD (0 + a3.1.toNat) default)))]⟩ [] [] []] [0,1,2,3,8,9] [5000] (tN 8 (ai hc7 (ai hc8 (tN 2 (ai hc9 (ai hc10 (ai hc11 (ai hc13 trivial)))))))) (.a (.a (.a (.a (.a (.a (.a (.a (.a (.a (.a (.a (.a (.a (.a (.m ?_ (.a (.m ?_ .z)))))))))))))))))) ?_
        · exact DOk.one fun r hr=>One.storeT (xs:=[.d (lD 3 encValue ((a3.2.getD (0 + (IntKind.i64.wrap (a3.1 - 1)).toNat) default).row)),.d (dI ((a3.2.getD (0 + (IntKind.i64.wrap (a3.1 - 1)).toNat) default).n))]) (ds:=[lD 3 encValue ((a3.2.getD (0 + (IntKind.i64.wrap (a3.1 - 1)).toNat) default).row),dI ((a3.2.getD (0 + (IntKind.i64.wrap (a3.1 - 1)).toNat) default).n)]) (encCount) a3.2 (a3.2.getD (0 + (IntKind.i64.wrap (a3.1 - 1)).toNat) default) rfl (by kernel_rfl) rfl rfl rfl hc12 rfl rfl (.refl _) rfl rfl rfl rfl
        · exact DOk.one fun r hr=>One.storeT (xs:=[.d (lD 3 encValue ((a3.2.getD (0 + a3.1.toNat) default).row)),.d (dI ((a3.2.getD (0 + a3.1.toNat) default).n))]) (ds:=[lD 3 encValue ((a3.2.getD (0 + a3.1.toNat) default).row),dI ((a3.2.getD (0 + a3.1.toNat) default).n)]) (encCount) (a3.2.set (0 + a3.1.toNat) (a3.2.getD (0 + (IntKind.i64.wrap (a3.1 - 1)).toNat) default)) (a3.2.getD (0 + a3.1.toNat) default) rfl (by kernel_rfl) rfl rfl rfl hc14 rfl rfl (.refl _) rfl rfl rfl rfl
        exact ⟨rfl,rfl⟩
       ·refine At.eqS (s':=⟨[(0,.c (oC 5000 2 ((a3.2.set (0 + a3.1.toNat) (a3.2.getD (0 + (IntKind.i64.wrap (a3.1 - 1)).toNat) default)).set (0 + (IntKind.i64.wrap (a3.1 - 1)).toNat) (a3.2.getD (0 + a3.1.toNat) default)))),(1,cD (dI p1)),(2,cD (dI p2)),(3,cD (.fn 100 [])),(8,cD (dI a1.1)),(9,cD (dI a3.1))],[(5000,vL 2 encCount ((a3.2.set (0 + a3.1.toNat) (a3.2.getD (0 + (IntKind.i64.wrap (a3.1 - 1)).toNat) default)).set (0 + (IntKind.i64.wrap (a3.1 - 1)).toNat) (a3.2.getD (0 + a3.1.toNat) default)))]⟩) (by simp only [oC,vL,List.length_set]) ?_
        refine At.done rfl ?_
        refine Tri.reg ?_
        refine At.sg 3 [0,1,2,3,8,9] [5000] (allT_ok 3) ?_
        refine At.done rfl ?_
        cases h
        exact kr
      ·refine Tri.kp [0,1,2,3,8,9] [5000] ?_
       refine Tri.exit ?_
       cases h
       exact ⟨rfl,kr⟩
     ·rcases bf_cases h with ⟨hp15,h⟩ | ⟨hp15,h⟩
      ·obtain ⟨hc16,h⟩:=need_elim h
       obtain ⟨hc17,h⟩:=need_elim h
       obtain ⟨hc18,h⟩:=need_elim h
       obtain ⟨hc19,h⟩:=need_elim h
       obtain ⟨r20,hr20,h⟩:=bind_elim h
       refine Tri.dC [.a [9] [],.a [1] [],.a [18,19] [],.m ⟨[(20,cD (.bool (decide (p1 < a3.1))))],[]⟩ ⟨[(21,.c (.d (.bool true)))],[]⟩ [] [] [],.a [3,21] [],.a [0,21] [],.a [9,21] [],.a [21,23,24] [5000],.a [21,25] [5000],.a [0,21] [],.a [9,21] [],.a [21,28] [],.a [21,27,29] [5000],.a [21,30] [5000],.m ⟨[(21,cD (.bool true)),(22,cD (.fn 100 [])),(26,.agg (cCount (a3.2.getD (0 + a3.1.toNat) default))),(31,.agg (cCount (a3.2.getD (0 + (IntKind.i64.wrap (a3.1 - 1)).toNat) default)))],[]⟩ ⟨[(32,cD (dI r20))],[]⟩ [] [] [],.a [21,32] [],.a [21,33] []] [0,1,2,3,8,9,34] [5000] (tN 6 (ai hc16 (ai hc17 (tN 3 (ai hc18 (ai hc19 (allT_ok 2))))))) (.a (.a (.a (.m ?_ (.a (.a (.a (.a (.a (.a (.a (.a (.a (.a (.m ?_ (.a (.a .z))))))))))))))))) ?_
       · exact DOk.stepP (fun b => .val (.c (.d (.bool b))) (True)) (p:=(decide (p1 < a3.1))) hp15 (fun r=>by kernel_rfl) (fun r=>by kernel_rfl) trivial (by kernel_rfl) (by kernel_rfl) (fun r=>rfl)
       · exact DOk.cA [] [.agg (cCount (a3.2.getD (0 + a3.1.toNat) default)),.agg (cCount (a3.2.getD (0 + (IntKind.i64.wrap (a3.1 - 1)).toNat) default))] (diff_added_1_ok hr20) fun r=>(.cons (.refl _) (.cons (.refl _) .nil))
       exact ⟨_,h,kr⟩
      ·refine Tri.dC [.a [9] [],.a [1] [],.a [18,19] [],.m ⟨[(20,cD (.bool (decide (p1 < a3.1))))],[]⟩ ⟨[(21,.c (.d (.bool false)))],[]⟩ [] [] [],.a [3,21] [],.a [0,21] [],.a [9,21] [],.a [21,23,24] [],.a [21,25] [],.a [0,21] [],.a [9,21] [],.a [21,28] [],.a [21,27,29] [],.a [21,30] [],.a [21,22,26,31] [],.a [21,32] [],.a [21,33] []] [0,1,2,3,8,9,34] [5000] (allT_ok 4) (.a (.a (.a (.m ?_ (.a (.a (.a (.a (.a (.a (.a (.a (.a (.a (.a (.a (.a .z))))))))))))))))) ?_
       · exact DOk.stepP (fun b => .val (.c (.d (.bool b))) (True)) (p:=(decide (p1 < a3.1))) hp15 (fun r=>by kernel_rfl) (fun r=>by kernel_rfl) trivial (by kernel_rfl) (by kernel_rfl) (fun r=>rfl)
       exact ⟨_,h,kr⟩
    ·intro a4 h
     refine Tri.reg ?_
     refine At.sg 3 [0,1,2,3,8] [5000] (allT_ok 3) ?_
     refine At.done rfl ?_
     cases h
     exact kr
    · exact fun x=>x.elim
   ·refine Tri.kp [] [5000] ?_
    refine Tri.exit ?_
    cases h
    exact ⟨rfl,kr⟩
  ·intro a2 h
   cases h
   exact RetAt.k
  · exact fun x=>x.elim
set_option maxRecDepth 100000 in
theorem slices_swapRangeCmpFunc_Count__diff_added_1_w_ok {fuel:Nat} {p1:Int} {p2:Int} {p3:Int} {l0:List Count} {q:List Count} (h:slices_swapRangeCmpFunc_Count__diff_added_1_w fuel p1 p2 p3 l0=some q) :
    Summ Tryz.prog 171 [.c (oC 5000 2 l0),cD (dI p1),cD (dI p2),cD (dI p3),cD (.fn 100 [])] [(5000,vL 2 encCount l0)] (.tup []) [(5000,vL 2 encCount q)]:=by
  refine Summ.intro Tryz.func171 rfl (by kernel_rfl) (by kernel_rfl) [] rfl ?_
  rintro ⟨P,w0,G0,V,LL,lk,N, φ0,fx⟩ rfl rfl rfl rfl
  unfold slices_swapRangeCmpFunc_Count__diff_added_1_w at h
  refine Tri.sg [0,1,2,3,10] [5000] (allT_ok 1) ?_
  refine Tri.keep [0,1,2,3,10] [5000] (s':=⟨[(0,.c (oC 5000 2 l0)),(1,cD (dI p1)),(2,cD (dI p2)),(3,cD (dI p3)),(10,cD (dI 0))],[(5000,vL 2 encCount l0)]⟩) (by kernel_rfl) ?_
  refine Tri.loopK (fuel:=fuel) (st0:=(0,l0)) (fun (x:Empty) s=>False) (fun (a1:Int × (List Count))=>⟨[(0,.c (oC 5000 2 a1.2)),(1,cD (dI p1)),(2,cD (dI p2)),(3,cD (dI p3)),(10,cD (dI a1.1))],[(5000,vL 2 encCount a1.2)]⟩) (fun (a1:Int × (List Count))=>⟨[],[(5000,vL 2 encCount a1.2)]⟩) h ?_ ?_ ?_
  ·intro a1 c h
   refine Tri.seqS ?_
   refine Tri.segL [0,1,2,3,10,13] [5000] ⟨[(0,.c (oC 5000 2 a1.2)),(1,cD (dI p1)),(2,cD (dI p2)),(3,cD (dI p3)),(10,cD (dI a1.1)),(13,cD (.bool (decide (a1.1 < p3))))],[(5000,vL 2 encCount a1.2)]⟩ _ (by kernel_rfl) (allT_ok 3) ?_
   refine Tri.condK h (fun h => ?_) (fun h => ?_)
   ·refine Tri.skip ?_
    refine Tri.seqS ?_
    refine Tri.blockB ?_
    obtain ⟨hc3,h⟩:=need_elim h
    obtain ⟨hc4,h⟩:=need_elim h
    obtain ⟨hc5,h⟩:=need_elim h
    obtain ⟨hc6,h⟩:=need_elim h
    obtain ⟨hc7,h⟩:=need_elim h
    obtain ⟨hc8,h⟩:=need_elim h
    obtain ⟨hc9,h⟩:=need_elim h
    obtain ⟨hc10,h⟩:=need_elim h
    refine Tri.afterA ⟨[(0,.c (oC 5000 2 a1.2)),(1,cD (dI p1)),(2,cD (dI p2)),(3,cD (dI p3)),(10,cD (dI a1.1))],[(5000,vL 2 encCount ((a1.2.set (0 + (IntKind.i64.wrap (p1 + a1.1)).toNat) (a1.2.getD (0 + (IntKind.i64.wrap (p2 + a1.1)).toNat) default)).set (0 + (IntKind.i64.wrap (p2 + a1.1)).toNat) (a1.2.getD (0 + (IntKind.i64.wrap (p1 + a1.1)).toNat) default)))]⟩ ?_ ?_
    ·refine Tri.dS ⟨[(0,.c (oC 5000 2 a1.2)),(1,cD (dI p1)),(2,cD (dI p2)),(3,cD (dI p3)),(10,cD (dI a1.1))],[(5000,vL 2 encCount ((a1.2.set (0 + (IntKind.i64.wrap (p1 + a1.1)).toNat) (a1.2.getD (0 + (IntKind.i64.wrap (p2 + a1.1)).toNat) default)).set (0 + (IntKind.i64.wrap (p2 + a1.1)).toNat) (a1.2.getD (0 + (IntKind.i64.wrap (p1 + a1.1)).toNat) default)))]⟩ [.a [0] [],.a [1] [],.a [10] [],.a [17,18] [],.a [0] [],.a [2] [],.a [10] [],.a [21,22] [],.a [0] [],.a [2] [],.a [10] [],.a [25,26] [],.a [24,27] [5000],.a [28] [5000],.a [0] [],.a [1] [],.a [10] [],.a [31,32] [],.a [30,33] [5000],.a [34] [5000],.a [16,19] [5000],.m ⟨[(29,.agg (cCount (a1.2.getD (0 + (IntKind.i64.wrap (p2 + a1.1)).toNat) default))),(36,.c (.vptr 5000 2 (0 + (IntKind.i64.wrap (p1 + a1.1)).toNat) 0))],[(5000,vL 2 encCount a1.2)]⟩ ⟨[],[(5000,vL 2 encCount (a1.2.set (0 + (IntKind.i64.wrap (p1 + a1.1)).toNat) (a1.2.getD (0 + (IntKind.i64.wrap (p2 + a1.1)).toNat) default)))]⟩ [] [] [],.a [20,23] [5000],.m ⟨[(35,.agg (cCount (a1.2.getD (0 + (IntKind.i64.wrap (p1 + a1.1)).toNat) default))),(37,.c (.vptr 5000 2 (0 + (IntKind.i64.wrap (p2 + a1.1)).toNat) 0))],[(5000,vL 2 encCount (a1.2.set (0 + (IntKind.i64.wrap (p1 + a1.1)).toNat) (a1.2.getD (0 + (IntKind.i64.wrap (p2 + a1.1)).toNat) default)))]⟩ ⟨[],[(5000,vL 2 encCount ((a1.2.set (0 + (IntKind.i64.wrap (p1 + a1.1)).toNat) (a1.2.getD (0 + (IntKind.i64.wrap (p2 + a1.1)).toNat) default)).set (0 + (IntKind.i64.wrap (p2 + a1.1)).toNat) (a1.2.getD (0 + (IntKind.i64.wrap (p1 + a1.1)).toNat) default)))]⟩ [] [] []] [0,1,2,3,10] [5000] (tN 12 (ai hc3 (ai hc4 (tN 4 (ai hc5 (ai hc6 (ai hc7 (ai hc9 trivial)))))))) (.a (.a (.a (.a (.a (.a (.a (.a (.a (.a (.a (.a (.a (.a (.a (.a (.a (.a (.a (.a (.a (.m ?_ (.a (.m ?_ .z)))))))))))))))))))))))) ?_
     · exact DOk.one fun r hr=>One.storeT (xs:=[.d (lD 3 encValue ((a1.2.getD (0 + (IntKind.i64.wrap (p2 + a1.1)).toNat) default).row)),.d (dI ((a1.2.getD (0 + (IntKind.i64.wrap (p2 + a1.1)).toNat) default).n))]) (ds:=[lD 3 encValue ((a1.2.getD (0 + (IntKind.i64.wrap (p2 + a1.1)).toNat) default).row),dI ((a1.2.getD (0 + (IntKind.i64.wrap (p2 + a1.1)).toNat) default).n)]) (encCount) a1.2 (a1.2.getD (0 + (IntKind.i64.wrap (p2 + a1.1)).toNat) default) rfl (by kernel_rfl) rfl rfl rfl hc8 rfl rfl (.refl _) rfl rfl rfl rfl
     · exact DOk.one fun r hr=>One.storeT (xs:=[.d (lD 3 encValue ((a1.2.getD (0 + (IntKind.i64.wrap (p1 + a1.1)).toNat) default).row)),.d (dI ((a1.2.getD (0 + (IntKind.i64.wrap (p1 + a1.1)).toNat) default).n))]) (ds:=[lD 3 encValue ((a1.2.getD (0 + (IntKind.i64.wrap (p1 + a1.1)).toNat) default).row),dI ((a1.2.getD (0 + (IntKind.i64.wrap (p1 + a1.1)).toNat) default).n)]) (encCount) (a1.2.set (0 + (IntKind.i64.wrap (p1 + a1.1)).toNat) (a1.2.getD (0 + (IntKind.i64.wrap (p2 + a1.1)).toNat) default)) (a1.2.getD (0 + (IntKind.i64.wrap (p1 + a1.1)).toNat) default) rfl (by kernel_rfl) rfl rfl rfl hc10 rfl rfl (.refl _) rfl rfl rfl rfl
     exact ⟨rfl,rfl⟩
    ·refine At.eqS (s':=⟨[(0,.c (oC 5000 2 ((a1.2.set (0 + (IntKind.i64.wrap (p1 + a1.1)).toNat) (a1.2.getD (0 + (IntKind.i64.wrap (p2 + a1.1)).toNat) default)).set (0 + (IntKind.i64.wrap (p2 + a1.1)).toNat) (a1.2.getD (0 + (IntKind.i64.wrap (p1 + a1.1)).toNat) default)))),(1,cD (dI p1)),(2,cD (dI p2)),(3,cD (dI p3)),(10,cD (dI a1.1))],[(5000,vL 2 encCount ((a1.2.set (0 + (IntKind.i64.wrap (p1 + a1.1)).toNat) (a1.2.getD (0 + (IntKind.i64.wrap (p2 + a1.1)).toNat) default)).set (0 + (IntKind.i64.wrap (p2 + a1.1)).toNat) (a1.2.getD (0 + (IntKind.i64.wrap (p1 + a1.1)).toNat) default)))]⟩) (by simp only [oC,vL,List.length_set]) ?_
     refine At.done rfl ?_
     refine Tri.reg ?_
     refine At.sg 3 [0,1,2,3,10] [5000] (allT_ok 3) ?_
     refine At.done rfl ?_
     cases h
     exact kr
   ·refine Tri.kp [] [5000] ?_
    refine Tri.exit ?_
    cases h
    exact ⟨rfl,kr⟩
  ·intro a2 h
   cases h
   exact RetAt.k
  · exact fun x=>x.elim
set_option maxRecDepth 100000 in
theorem slices_rotateCmpFunc_Count__diff_added_1_w_ok {fuel:Nat} {p1:Int} {p2:Int} {p3:Int} {l0:List Count} {q:List Count} (h:slices_rotateCmpFunc_Count__diff_added_1_w fuel p1 p2 p3 l0=some q) :
    Summ Tryz.prog 168 [.c (oC 5000 2 l0),cD (dI p1),cD (dI p2),cD (dI p3),cD (.fn 100 [])] [(5000,vL 2 encCount l0)] (.tup []) [(5000,vL 2 encCount q)]:=by
  refine Summ.intro Tryz.func168 rfl (by kernel_rfl) (by kernel_rfl) [] rfl ?_
  rintro ⟨P,w0,G0,V,LL,lk,N, φ0,fx⟩ rfl rfl rfl rfl
  unfold slices_rotateCmpFunc_Count__diff_added_1_w at h
  refine Tri.sg [0,2,3,4,10] [5000] (allT_ok 4) ?_
  refine Tri.sg [0,2,4,10,11] [5000] (allT_ok 4) ?_
  refine Tri.seqS ?_
  refine Tri.lK ((IntKind.i64.wrap (p2 - p1)),(IntKind.i64.wrap (p3 - p2)),l0) (fun (x:Empty) s=>False) (fun (a1:Int × Int × (List Count))=>⟨[(0,.c (oC 5000 2 a1.2.2)),(2,cD (dI p2)),(4,cD (.fn 100 [])),(10,cD (dI a1.1)),(11,cD (dI a1.2.1))],[(5000,vL 2 encCount a1.2.2)]⟩) [0,2,4,10,11] [5000] h ?_ ?_ ?_
  ·intro a1 c h
   refine Tri.seqS ?_
   refine Tri.sg [0,2,4,10,11,20] [5000] (allT_ok 3) ?_
   refine Tri.condK h (fun h => ?_) (fun h => ?_)
   ·refine Tri.skip ?_
    refine Tri.blockB ?_
    refine Tri.sg [0,2,4,10,11,23] [5000] (allT_ok 3) ?_
    refine Tri.condK h (fun h => ?_) (fun h => ?_)
    ·refine Tri.seqS ?_
     refine Tri.reg ?_
     refine At.sg 7 [0,2,4,10,11,24,27,28,29,30] [5000] (allT_ok 7) ?_
     obtain ⟨r4,hr4,h⟩:=bind_elim h
     refine At.callL (nf:=0) (caps:=[]) (xs:=[.c (oC 5000 2 a1.2.2),cD (dI (IntKind.i64.wrap (p2 - a1.1))),cD (dI p2),cD (dI a1.2.1),cD (.fn 100 [])]) [(5000,5000)] [0,2,4,10,11] [] (s0:=⟨[(0,.c (oC 5000 2 a1.2.2)),(2,cD (dI p2)),(4,cD (.fn 100 [])),(10,cD (dI a1.1)),(11,cD (dI a1.2.1))],[]⟩) (slices_swapRangeCmpFunc_Count__diff_added_1_w_ok hr4) rfl rfl (by kernel_rfl) rfl (by kernel_rfl) (by kernel_rfl) (.ren rfl rfl (.flat (.refl _) rfl rfl (.flat (.refl _) rfl rfl (.flat (.refl _) rfl rfl (.flat (.refl _) rfl rfl .nil))))) ⟨⟨by kernel_rfl,by kernel_rfl⟩,trivial⟩ (by kernel_rfl) (by kernel_rfl) (by kernel_rfl) (by kernel_rfl) (by kernel_rfl) (by kernel_rfl) (by kernel_rfl) (by kernel_rfl) (by kernel_rfl) ⟨[(31,.tup []),(0,.c (oC 5000 2 a1.2.2)),(2,cD (dI p2)),(4,cD (.fn 100 [])),(10,cD (dI a1.1)),(11,cD (dI a1.2.1))],[(5000,vL 2 encCount r4)]⟩ (by kernel_rfl) ?_
     obtain ⟨hc5,h⟩:=need_elim h
     refine At.eqS ⟨[(31,.tup []),(0,.c (oC 5000 2 r4)),(2,cD (dI p2)),(4,cD (.fn 100 [])),(10,cD (dI a1.1)),(11,cD (dI a1.2.1))],[(5000,vL 2 encCount r4)]⟩ (by simp only [oC,vL,hc5]) ?_
     refine At.done rfl ?_
     refine Tri.reg ?_
     refine At.sg 4 [0,2,4,10,11] [5000] (allT_ok 4) ?_
     refine At.done rfl ?_
     cases h
     exact kr
    ·refine Tri.seqS ?_
     refine Tri.reg ?_
     refine At.sg 11 [0,2,4,10,11,35,38,43,44,45] [5000] (allT_ok 11) ?_
     obtain ⟨r6,hr6,h⟩:=bind_elim h
     refine At.callL (nf:=0) (caps:=[]) (xs:=[.c (oC 5000 2 a1.2.2),cD (dI (IntKind.i64.wrap (p2 - a1.1))),cD (dI (IntKind.i64.wrap ((IntKind.i64.wrap (p2 + a1.2.1)) - a1.1))),cD (dI a1.1),cD (.fn 100 [])]) [(5000,5000)] [0,2,4,10,11] [] (s0:=⟨[(0,.c (oC 5000 2 a1.2.2)),(2,cD (dI p2)),(4,cD (.fn 100 [])),(10,cD (dI a1.1)),(11,cD (dI a1.2.1))],[]⟩) (slices_swapRangeCmpFunc_Count__diff_added_1_w_ok hr6) rfl rfl (by kernel_rfl) rfl (by kernel_rfl) (by kernel_rfl) (.ren rfl rfl (.flat (.refl _) rfl rfl (.flat (.refl _) rfl rfl (.flat (.refl _) rfl rfl (.flat (.refl _) rfl rfl .nil))))) ⟨⟨by kernel_rfl,by kernel_rfl⟩,trivial⟩ (by kernel_rfl) (by kernel_rfl) (by kernel_rfl) (by kernel_rfl) (by kernel_rfl) (by kernel_rfl) (by kernel_rfl) (by kernel_rfl) (by kernel_rfl) ⟨[(46,.tup []),(0,.c (oC 5000 2 a1.2.2)),(2,cD (dI p2)),(4,cD (.fn 100 [])),(10,cD (dI a1.1)),(11,cD (dI a1.2.1))],[(5000,vL 2 encCount r6)]⟩ (by kernel_rfl) ?_
     obtain ⟨hc7,h⟩:=need_elim h
     refine At.eqS ⟨[(46,.tup []),(0,.c (oC 5000 2 r6)),(2,cD (dI p2)),(4,cD (.fn 100 [])),(10,cD (dI a1.1)),(11,cD (dI a1.2.1))],[(5000,vL 2 encCount r6)]⟩ (by simp only [oC,vL,hc7]) ?_
     refine At.done rfl ?_
     refine Tri.reg ?_
     refine At.sg 4 [0,2,4,10,11] [5000] (allT_ok 4) ?_
     refine At.done rfl ?_
     cases h
     exact kr
   ·refine Tri.kp [0,2,4,10,11] [5000] ?_
    refine Tri.exit ?_
    cases h
    exact ⟨rfl,kr⟩
  ·intro a2 h
   refine Tri.reg ?_
   refine At.sg 7 [50,53,54,55,56] [5000] (allT_ok 7) ?_
   obtain ⟨r3,hr3,h⟩:=bind_elim h
   refine At.cL 0 [] [.c (oC 5000 2 a2.2.2),cD (dI (IntKind.i64.wrap (p2 - a2.1))),cD (dI p2),cD (dI a2.1),cD (.fn 100 [])] [(5000,5000)] [] [] (slices_swapRangeCmpFunc_Count__diff_added_1_w_ok hr3) (.ren rfl rfl (.flat (.refl _) rfl rfl (.flat (.refl _) rfl rfl (.flat (.refl _) rfl rfl (.flat (.refl _) rfl rfl .nil))))) ?_
   refine At.keep [] [5000] (s':=⟨[],[(5000,vL 2 encCount r3)]⟩) (by kernel_rfl) ?_
   refine At.done rfl ?_
   cases h
   exact RetAt.k
  · exact fun x=>x.elim
set_option maxRecDepth 100000 in
theorem slices_symMergeCmpFunc_Count__diff_added_1_w_ok {fuel:Nat} {p1:Int} {p2:Int} {p3:Int} {l0:List Count} {q:List Count} (h:slices_symMergeCmpFunc_Count__diff_added_1_w fuel p1 p2 p3 l0=some q) :
    Summ Tryz.prog 160 [.c (oC 5000 2 l0),cD (dI p1),cD (dI p2),cD (dI p3),cD (.fn 100 [])] [(5000,vL 2 encCount l0)] (.tup []) [(5000,vL 2 encCount q)]:=by
  induction fuel generalizing p1 p2 p3 l0 q with
  | zero=>rw [slices_symMergeCmpFunc_Count__diff_added_1_w.eq_1] at h; cases h
  | succ fuel ih =>
    refine Summ.intro Tryz.func160 rfl (by kernel_rfl) (by kernel_rfl) [] rfl ?_
    rintro ⟨P,w0,G0,V,LL,lk,N, φ0,fx⟩ rfl rfl rfl rfl
    rw [slices_symMergeCmpFunc_Count__diff_added_1_w.eq_2] at h
    refine Tri.seqS ?_
    refine Tri.sg [0,1,2,3,4,28] [5000] (allT_ok 4) ?_
    refine Tri.condK h (fun h => ?_) (fun h => ?_)
    ·refine Tri.sg [0,1,3,4,10] [5000] (allT_ok 2) ?_
     refine Tri.sg [0,1,4,10,11] [5000] (allT_ok 2) ?_
     refine Tri.seqS ?_
     refine Tri.lK (p2,p3) (fun (x:Empty) s=>False) (fun (a1:Int × Int)=>⟨[(0,.c (oC 5000 2 l0)),(1,cD (dI p1)),(4,cD (.fn 100 [])),(10,cD (dI a1.1)),(11,cD (dI a1.2))],[(5000,vL 2 encCount l0)]⟩) [0,1,4,10,11] [5000] h ?_ ?_ ?_
     ·intro a1 c h
      refine Tri.seqS ?_
      refine Tri.sg [0,1,4,10,11,33] [5000] (allT_ok 3) ?_
      refine Tri.condK h (fun h => ?_) (fun h => ?_)
      ·refine Tri.skip ?_
       refine Tri.blockB ?_
       refine Tri.sg [0,1,4,10,11,12] [5000] (tN 4 (ai (show ((0:Int)≤1) from (by decide:(0:Int)≤1)) (allT_ok 2))) ?_
       refine Tri.seqS ?_
       obtain ⟨hc13,h⟩:=need_elim h
       obtain ⟨hc14,h⟩:=need_elim h
       obtain ⟨hc15,h⟩:=need_elim h
       obtain ⟨hc16,h⟩:=need_elim h
       obtain ⟨r17,hr17,h⟩:=bind_elim h
       refine Tri.dC [.a [4] [],.a [0] [],.a [12] [],.a [41,42] [5000],.a [43] [5000],.a [0] [],.a [1] [],.a [45,46] [5000],.a [47] [5000],.m ⟨[(40,cD (.fn 100 [])),(44,.agg (cCount (l0.getD (0 + (IntKind.i64.wrap (shrOp .u64 (IntKind.u64.wrap (IntKind.i64.wrap (a1.1 + a1.2))) 1)).toNat) default))),(48,.agg (cCount (l0.getD (0 + p1.toNat) default)))],[]⟩ ⟨[(49,cD (dI r17))],[]⟩ [] [] [],.a [49] []] [0,1,4,10,11,12,50] [5000] (tN 3 (ai hc13 (ai hc14 (tN 2 (ai hc15 (ai hc16 (allT_ok 1))))))) (.a (.a (.a (.a (.a (.a (.a (.a (.a (.m ?_ (.a .z))))))))))) ?_
       · exact DOk.cA [] [.agg (cCount (l0.getD (0 + (IntKind.i64.wrap (shrOp .u64 (IntKind.u64.wrap (IntKind.i64.wrap (a1.1 + a1.2))) 1)).toNat) default)),.agg (cCount (l0.getD (0 + p1.toNat) default))] (diff_added_1_ok hr17) fun r=>(.cons (.refl _) (.cons (.refl _) .nil))
       refine Tri.condK h (fun h => ?_) (fun h => ?_)
       ·refine Tri.reg ?_
        refine At.sg 3 [0,1,4,10,11] [5000] (allT_ok 3) ?_
        refine At.done rfl ?_
        cases h
        exact kr
       ·refine Tri.reg ?_
        refine At.sg 2 [0,1,4,10,11] [5000] (allT_ok 2) ?_
        refine At.done rfl ?_
        cases h
        exact kr
      ·refine Tri.kp [0,1,4,10,11] [5000] ?_
       refine Tri.exit ?_
       cases h
       exact ⟨rfl,kr⟩
     ·intro a2 h
      refine Tri.seqS ?_
      refine Tri.sg [0,10,13] [5000] (allT_ok 2) ?_
      refine Tri.lK (p1,l0) (fun (x:Empty) s=>False) (fun (a3:Int × (List Count))=>⟨[(0,.c (oC 5000 2 a3.2)),(10,cD (dI a2.1)),(13,cD (dI a3.1))],[(5000,vL 2 encCount a3.2)]⟩) [0,10,13] [5000] h ?_ ?_ ?_
      ·intro a3 c h
       refine Tri.seqS ?_
       refine Tri.segL [0,10,13,58] [5000] ⟨[(0,.c (oC 5000 2 a3.2)),(10,cD (dI a2.1)),(13,cD (dI a3.1)),(58,cD (.bool (decide (a3.1 < (IntKind.i64.wrap (a2.1 - 1))))))],[(5000,vL 2 encCount a3.2)]⟩ _ (by kernel_rfl) (allT_ok 4) ?_
       refine Tri.condK h (fun h => ?_) (fun h => ?_)
       ·refine Tri.skip ?_
        refine Tri.seqS ?_
        refine Tri.blockB ?_
        obtain ⟨hc5,h⟩:=need_elim h
        obtain ⟨hc6,h⟩:=need_elim h
        obtain ⟨hc7,h⟩:=need_elim h
        obtain ⟨hc8,h⟩:=need_elim h
        obtain ⟨hc9,h⟩:=need_elim h
        obtain ⟨hc10,h⟩:=need_elim h
        obtain ⟨hc11,h⟩:=need_elim h
        obtain ⟨hc12,h⟩:=need_elim h
        refine Tri.afterA ⟨[(0,.c (oC 5000 2 a3.2)),(10,cD (dI a2.1)),(13,cD (dI a3.1))],[(5000,vL 2 encCount ((a3.2.set (0 + a3.1.toNat) (a3.2.getD (0 + (IntKind.i64.wrap (a3.1 + 1)).toNat) default)).set (0 + (IntKind.i64.wrap (a3.1 + 1)).toNat) (a3.2.getD (0 + a3.1.toNat) default)))]⟩ ?_ ?_
        ·refine Tri.dS ⟨[(0,.c (oC 5000 2 a3.2)),(10,cD (dI a2.1)),(13,cD (dI a3.1))],[(5000,vL 2 encCount ((a3.2.set (0 + a3.1.toNat) (a3.2.getD (0 + (IntKind.i64.wrap (a3.1 + 1)).toNat) default)).set (0 + (IntKind.i64.wrap (a3.1 + 1)).toNat) (a3.2.getD (0 + a3.1.toNat) default)))]⟩ [.a [0] [],.a [13] [],.a [0] [],.a [13] [],.a [64] [],.a [0] [],.a [13] [],.a [67] [],.a [66,68] [5000],.a [69] [5000],.a [0] [],.a [13] [],.a [71,72] [5000],.a [73] [5000],.a [61,62] [5000],.m ⟨[(70,.agg (cCount (a3.2.getD (0 + (IntKind.i64.wrap (a3.1 + 1)).toNat) default))),(75,.c (.vptr 5000 2 (0 + a3.1.toNat) 0))],[(5000,vL 2 encCount a3.2)]⟩ ⟨[],[(5000,vL 2 encCount (a3.2.set (0 + a3.1.toNat) (a3.2.getD (0 + (IntKind.i64.wrap (a3.1 + 1)).toNat) default)))]⟩ [] [] [],.a [63,65] [5000],.m ⟨[(74,.agg (cCount (a3.2.getD (0 + a3.1.toNat) default))),(76,.c (.vptr 5000 2 (0 + (IntKind.i64.wrap (a3.1 + 1)).toNat) 0))],[(5000,vL 2 encCount (a3.2.set (0 + a3.1.toNat) (a3.2.getD (0 + (IntKind.i64.wrap (a3.1 + 1)).toNat) default)))]⟩ ⟨[],[(5000,vL 2 encCount ((a3.2.set (0 + a3.1.toNat) (a3.2.getD (0 + (IntKind.i64.wrap (a3.1 + 1)).toNat) default)).set (0 + (IntKind.i64.wrap (a3.1 + 1)).toNat) (a3.2.getD (0 + a3.1.toNat) default)))]⟩ [] [] []] [0,10,13] [5000] (tN 8 (ai hc5 (ai hc6 (tN 2 (ai hc7 (ai hc8 (ai hc9 (ai hc11 trivial)))))))) (.a (.a (.a (.a (.a (.a (.a (.a (.a (.a (.a (.a (.a (.a (.a (.m ?_ (.a (.m ?_ .z)))))))))))))))))) ?_
         · exact DOk.one fun r hr=>One.storeT (xs:=[.d (lD 3 encValue ((a3.2.getD (0 + (IntKind.i64.wrap (a3.1 + 1)).toNat) default).row)),.d (dI ((a3.2.getD (0 + (IntKind.i64.wrap (a3.1 + 1)).toNat) default).n))]) (ds:=[lD 3 encValue ((a3.2.getD (0 + (IntKind.i64.wrap (a3.1 + 1)).toNat) default).row),dI ((a3.2.getD (0 + (IntKind.i64.wrap (a3.1 + 1)).toNat) default).n)]) (encCount) a3.2 (a3.2.getD (0 + (IntKind.i64.wrap (a3.1 + 1)).toNat) default) rfl (by kernel_rfl) rfl rfl rfl hc10 rfl rfl (.refl _) rfl rfl rfl rfl
         · exact DOk.one fun r hr=>One.storeT (xs:=[.d (lD 3 encValue ((a3.2.getD (0 + a3.1.toNat) default).row)),.d (dI ((a3.2.getD (0 + a3.1.toNat) default).n))]) (ds:=[lD 3 encValue ((a3.2.getD (0 + a3.1.toNat) default).row),dI ((a3.2.getD (0 + a3.1.toNat) default).n)]) (encCount) (a3.2.set (0 + a3.1.toNat) (a3.2.getD (0 + (IntKind.i64.wrap (a3.1 + 1)).toNat) default)) (a3.2.getD (0 + a3.1.toNat) default) rfl (by kernel_rfl) rfl rfl rfl hc12 rfl rfl (.refl _) rfl rfl rfl rfl
         exact ⟨rfl,rfl⟩
        ·refine At.eqS (s':=⟨[(0,.c (oC 5000 2 ((a3.2.set (0 + a3.1.toNat) (a3.2.getD (0 + (IntKind.i64.wrap (a3.1 + 1)).toNat) default)).set (0 + (IntKind.i64.wrap (a3.1 + 1)).toNat) (a3.2.getD (0 + a3.1.toNat) default)))),(10,cD (dI a2.1)),(13,cD (dI a3.1))],[(5000,vL 2 encCount ((a3.2.set (0 + a3.1.toNat) (a3.2.getD (0 + (IntKind.i64.wrap (a3.1 + 1)).toNat) default)).set (0 + (IntKind.i64.wrap (a3.1 + 1)).toNat) (a3.2.getD (0 + a3.1.toNat) default)))]⟩) (by simp only [oC,vL,List.length_set]) ?_
         refine At.done rfl ?_
         refine Tri.reg ?_
         refine At.sg 3 [0,10,13] [5000] (allT_ok 3) ?_
         refine At.done rfl ?_
         cases h
         exact kr
       ·refine Tri.kp [0,10,13] [5000] ?_
        refine Tri.exit ?_
        cases h
        exact ⟨rfl,kr⟩
      ·intro a4 h
       refine Tri.ret ?_
       cases h
       exact RetAt.k
      · exact fun x=>x.elim
     · exact fun x=>x.elim
    ·refine Tri.skip ?_
     refine Tri.seqS ?_
     refine Tri.sg [0,1,2,3,4,80] [5000] (allT_ok 4) ?_
     refine Tri.condK h (fun h => ?_) (fun h => ?_)
     ·refine Tri.sg [0,2,4,14] [5000] (allT_ok 2) ?_
      refine Tri.sg [0,2,4,14,15] [5000] (allT_ok 2) ?_
      refine Tri.seqS ?_
      refine Tri.lK (p1,p2) (fun (x:Empty) s=>False) (fun (a18:Int × Int)=>⟨[(0,.c (oC 5000 2 l0)),(2,cD (dI p2)),(4,cD (.fn 100 [])),(14,cD (dI a18.1)),(15,cD (dI a18.2))],[(5000,vL 2 encCount l0)]⟩) [0,2,4,14,15] [5000] h ?_ ?_ ?_
      ·intro a18 c h
       refine Tri.seqS ?_
       refine Tri.sg [0,2,4,14,15,85] [5000] (allT_ok 3) ?_
       refine Tri.condK h (fun h => ?_) (fun h => ?_)
       ·refine Tri.skip ?_
        refine Tri.blockB ?_
        refine Tri.sg [0,2,4,14,15,16] [5000] (tN 4 (ai (show ((0:Int)≤1) from (by decide:(0:Int)≤1)) (allT_ok 2))) ?_
        refine Tri.seqS ?_
        obtain ⟨hc30,h⟩:=need_elim h
        obtain ⟨hc31,h⟩:=need_elim h
        obtain ⟨hc32,h⟩:=need_elim h
        obtain ⟨hc33,h⟩:=need_elim h
        obtain ⟨r34,hr34,h⟩:=bind_elim h
        refine Tri.dC [.a [4] [],.a [0] [],.a [2] [],.a [93,94] [5000],.a [95] [5000],.a [0] [],.a [16] [],.a [97,98] [5000],.a [99] [5000],.m ⟨[(92,cD (.fn 100 [])),(96,.agg (cCount (l0.getD (0 + p2.toNat) default))),(100,.agg (cCount (l0.getD (0 + (IntKind.i64.wrap (shrOp .u64 (IntKind.u64.wrap (IntKind.i64.wrap (a18.1 + a18.2))) 1)).toNat) default)))],[]⟩ ⟨[(101,cD (dI r34))],[]⟩ [] [] [],.a [101] [],.a [102] []] [0,2,4,14,15,16,103] [5000] (tN 3 (ai hc30 (ai hc31 (tN 2 (ai hc32 (ai hc33 (allT_ok 2))))))) (.a (.a (.a (.a (.a (.a (.a (.a (.a (.m ?_ (.a (.a .z)))))))))))) ?_
        · exact DOk.cA [] [.agg (cCount (l0.getD (0 + p2.toNat) default)),.agg (cCount (l0.getD (0 + (IntKind.i64.wrap (shrOp .u64 (IntKind.u64.wrap (IntKind.i64.wrap (a18.1 + a18.2))) 1)).toNat) default))] (diff_added_1_ok hr34) fun r=>(.cons (.refl _) (.cons (.refl _) .nil))
        refine Tri.condK h (fun h => ?_) (fun h => ?_)
        ·refine Tri.reg ?_
         refine At.sg 3 [0,2,4,14,15] [5000] (allT_ok 3) ?_
         refine At.done rfl ?_
         cases h
         exact kr
        ·refine Tri.reg ?_
         refine At.sg 2 [0,2,4,14,15] [5000] (allT_ok 2) ?_
         refine At.done rfl ?_
         cases h
         exact kr
       ·refine Tri.kp [0,2,4,14,15] [5000] ?_
        refine Tri.exit ?_
        cases h
        exact ⟨rfl,kr⟩
      ·intro a19 h
       refine Tri.seqS ?_
       refine Tri.sg [0,14,17] [5000] (allT_ok 2) ?_
       refine Tri.lK (p2,l0) (fun (x:Empty) s=>False) (fun (a20:Int × (List Count))=>⟨[(0,.c (oC 5000 2 a20.2)),(14,cD (dI a19.1)),(17,cD (dI a20.1))],[(5000,vL 2 encCount a20.2)]⟩) [0,14,17] [5000] h ?_ ?_ ?_
       ·intro a20 c h
        refine Tri.seqS ?_
        refine Tri.segL [0,14,17,110] [5000] ⟨[(0,.c (oC 5000 2 a20.2)),(14,cD (dI a19.1)),(17,cD (dI a20.1)),(110,cD (.bool (decide (a19.1 < a20.1))))],[(5000,vL 2 encCount a20.2)]⟩ _ (by kernel_rfl) (allT_ok 3) ?_
        refine Tri.condK h (fun h => ?_) (fun h => ?_)
        ·refine Tri.skip ?_
         refine Tri.seqS ?_
         refine Tri.blockB ?_
         obtain ⟨hc22,h⟩:=need_elim h
         obtain ⟨hc23,h⟩:=need_elim h
         obtain ⟨hc24,h⟩:=need_elim h
         obtain ⟨hc25,h⟩:=need_elim h
         obtain ⟨hc26,h⟩:=need_elim h
         obtain ⟨hc27,h⟩:=need_elim h
         obtain ⟨hc28,h⟩:=need_elim h
         obtain ⟨hc29,h⟩:=need_elim h
         refine Tri.afterA ⟨[(0,.c (oC 5000 2 a20.2)),(14,cD (dI a19.1)),(17,cD (dI a20.1))],[(5000,vL 2 encCount ((a20.2.set (0 + a20.1.toNat) (a20.2.getD (0 + (IntKind.i64.wrap (a20.1 - 1)).toNat) default)).set (0 + (IntKind.i64.wrap (a20.1 - 1)).toNat) (a20.2.getD (0 + a20.1.toNat) default)))]⟩ ?_ ?_
         ·refine Tri.dS ⟨[(0,.c (oC 5000 2 a20.2)),(14,cD (dI a19.1)),(17,cD (dI a20.1))],[(5000,vL 2 encCount ((a20.2.set (0 + a20.1.toNat) (a20.2.getD (0 + (IntKind.i64.wrap (a20.1 - 1)).toNat) default)).set (0 + (IntKind.i64.wrap (a20.1 - 1)).toNat) (a20.2.getD (0 + a20.1.toNat) default)))]⟩ [.a [0] [],.a [17] [],.a [0] [],.a [17] [],.a [116] [],.a [0] [],.a [17] [],.a [119] [],.a [118,120] [5000],.a [121] [5000],.a [0] [],.a [17] [],.a [123,124] [5000],.a [125] [5000],.a [113,114] [5000],.m ⟨[(122,.agg (cCount (a20.2.getD (0 + (IntKind.i64.wrap (a20.1 - 1)).toNat) default))),(127,.c (.vptr 5000 2 (0 + a20.1.toNat) 0))],[(5000,vL 2 encCount a20.2)]⟩ ⟨[],[(5000,vL 2 encCount (a20.2.set (0 + a20.1.toNat) (a20.2.getD (0 + (IntKind.i64.wrap (a20.1 - 1)).toNat) default)))]⟩ [] [] [],.a [115,117] [5000],.m ⟨[(126,.agg (cCount (a20.2.getD (0 + a20.1.toNat) default))),(128,.c (.vptr 5000 2 (0 + (IntKind.i64.wrap (a20.1 - 1)).toNat) 0))],[(5000,vL 2 encCount (a20.2.set (0 + a20.1.toNat) (a20.2.getD (0 + (IntKind.i64.wrap (a20.1 - 1)).toNat) default)))]⟩ ⟨[],[(5000,vL 2 encCount ((a20.2.set (0 + a20.1.toNat) (a20.2.getD (0 + (IntKind.i64.wrap (a20.1 - 1)).toNat) default)).set (0 + (IntKind.i64.wrap (a20.1 - 1)).toNat) (a20.2.getD (0 + a20.1.toNat) default)))]⟩ [] [] []] [0,14,17] [5000] (tN 8 (ai hc22 (ai hc23 (tN 2 (ai hc24 (ai hc25 (ai hc26 (ai hc28 trivial)))))))) (.a (.a (.a (.a (.a (.a (.a (.a (.a (.a (.a (.a (.a (.a (.a (.m ?_ (.a (.m ?_ .z)))))))))))))))))) ?_
          · exact DOk.one fun r hr=>One.storeT (xs:=[.d (lD 3 encValue ((a20.2.getD (0 + (IntKind.i64.wrap (a20.1 - 1)).toNat) default).row)),.d (dI ((a20.2.getD (0 + (IntKind.i64.wrap (a20.1 - 1)).toNat) default).n))]) (ds:=[lD 3 encValue ((a20.2.getD (0 + (IntKind.i64.wrap (a20.1 - 1)).toNat) default).row),dI ((a20.2.getD (0 + (IntKind.i64.wrap (a20.1 - 1)).toNat) default).n)]) (encCount) a20.2 (a20.2.getD (0 + (IntKind.i64.wrap (a20.1 - 1)).toNat) default) rfl (by kernel_rfl) rfl rfl rfl hc27 rfl rfl (.refl _) rfl rfl rfl rfl
          · exact DOk.one fun r hr=>One.storeT (xs:=[.d (lD 3 encValue ((a20.2.getD (0 + a20.1.toNat) default).row)),.d (dI ((a20.2.getD (0 + a20.1.toNat) default).n))]) (ds:=[lD 3 encValue ((a20.2.getD (0 + a20.1.toNat) default).row),dI ((a20.2.getD (0 + a20.1.toNat) default).n)]) (encCount) (a20.2.set (0 + a20.1.toNat) (a20.2.getD (0 + (IntKind.i64.wrap (a20.1 - 1)).toNat) default)) (a20.2.getD (0 + a20.1.toNat) default) rfl (by kernel_rfl) rfl rfl rfl hc29 rfl rfl (.refl _) rfl rfl rfl rfl
          exact ⟨rfl,rfl⟩
         ·refine At.eqS (s':=⟨[(0,.c (oC 5000 2 ((a20.2.set (0 + a20.1.toNat) (a20.2.getD (0 + (IntKind.i64.wrap (a20.1 - 1)).toNat) default)).set (0 + (IntKind.i64.wrap (a20.1 - 1)).toNat) (a20.2.getD (0 + a20.1.toNat) default)))),(14,cD (dI a19.1)),(17,cD (dI a20.1))],[(5000,vL 2 encCount ((a20.2.set (0 + a20.1.toNat) (a20.2.getD (0 + (IntKind.i64.wrap (a20.1 - 1)).toNat) default)).set (0 + (IntKind.i64.wrap (a20.1 - 1)).toNat) (a20.2.getD (0 + a20.1.toNat) default)))]⟩) (by simp only [oC,vL,List.length_set]) ?_
          refine At.done rfl ?_
          refine Tri.reg ?_
          refine At.sg 3 [0,14,17] [5000] (allT_ok 3) ?_
          refine At.done rfl ?_
          cases h
          exact kr
        ·refine Tri.kp [0,14,17] [5000] ?_
         refine Tri.exit ?_
         cases h
         exact ⟨rfl,kr⟩
       ·intro a21 h
        refine Tri.ret ?_
        cases h
        exact RetAt.k
       · exact fun x=>x.elim
      · exact fun x=>x.elim
     ·refine Tri.skip ?_
      refine Tri.sg [0,1,2,3,4,18] [5000] (tN 4 (ai (show ((0:Int)≤1) from (by decide:(0:Int)≤1)) (allT_ok 2))) ?_
      refine Tri.sg [0,1,2,3,4,18,19] [5000] (allT_ok 4) ?_
      refine Tri.sg [0,1,2,3,4,18,19] [5000] (allT_ok 2) ?_
      refine Tri.seqJ (fun (a35:Int × Int × Int × Int)=>⟨[(0,.c (oC 5000 2 l0)),(1,cD (dI p1)),(2,cD (dI p2)),(3,cD (dI p3)),(4,cD (.fn 100 [])),(18,cD (dI a35.1)),(19,cD (dI a35.2.1)),(20,cD (dI a35.2.2.1)),(21,cD (dI a35.2.2.2))],[(5000,vL 2 encCount l0)]⟩) h (fun a35 h => ?_) (fun j36 h => ?_)
      ·refine Tri.sg [0,1,2,3,4,18,19,20,21,22] [5000] (allT_ok 3) ?_
       refine Tri.seqS ?_
       refine Tri.lK (a35.2.2.1,a35.2.2.2) (fun (x:Empty) s=>False) (fun (a37:Int × Int)=>⟨[(0,.c (oC 5000 2 l0)),(1,cD (dI p1)),(2,cD (dI p2)),(3,cD (dI p3)),(4,cD (.fn 100 [])),(18,cD (dI a35.1)),(19,cD (dI a35.2.1)),(20,cD (dI a37.1)),(21,cD (dI a37.2)),(22,cD (dI (IntKind.i64.wrap (a35.2.1 - 1))))],[(5000,vL 2 encCount l0)]⟩) [0,1,2,3,4,18,19,20,21,22] [5000] h ?_ ?_ ?_
       ·intro a37 c h
        refine Tri.seqS ?_
        refine Tri.sg [0,1,2,3,4,18,19,20,21,22,151] [5000] (allT_ok 3) ?_
        refine Tri.condK h (fun h => ?_) (fun h => ?_)
        ·refine Tri.skip ?_
         refine Tri.blockB ?_
         refine Tri.sg [0,1,2,3,4,18,19,20,21,22,23] [5000] (tN 4 (ai (show ((0:Int)≤1) from (by decide:(0:Int)≤1)) (allT_ok 2))) ?_
         refine Tri.seqS ?_
         obtain ⟨hc54,h⟩:=need_elim h
         obtain ⟨hc55,h⟩:=need_elim h
         obtain ⟨hc56,h⟩:=need_elim h
         obtain ⟨hc57,h⟩:=need_elim h
         obtain ⟨r58,hr58,h⟩:=bind_elim h
         refine Tri.dC [.a [4] [],.a [0] [],.a [22] [],.a [23] [],.a [160,161] [],.a [159,162] [5000],.a [163] [5000],.a [0] [],.a [23] [],.a [165,166] [5000],.a [167] [5000],.m ⟨[(158,cD (.fn 100 [])),(164,.agg (cCount (l0.getD (0 + (IntKind.i64.wrap ((IntKind.i64.wrap (a35.2.1 - 1)) - (IntKind.i64.wrap (shrOp .u64 (IntKind.u64.wrap (IntKind.i64.wrap (a37.1 + a37.2))) 1)))).toNat) default))),(168,.agg (cCount (l0.getD (0 + (IntKind.i64.wrap (shrOp .u64 (IntKind.u64.wrap (IntKind.i64.wrap (a37.1 + a37.2))) 1)).toNat) default)))],[]⟩ ⟨[(169,cD (dI r58))],[]⟩ [] [] [],.a [169] [],.a [170] []] [0,1,2,3,4,18,19,20,21,22,23,171] [5000] (tN 5 (ai hc54 (ai hc55 (tN 2 (ai hc56 (ai hc57 (allT_ok 2))))))) (.a (.a (.a (.a (.a (.a (.a (.a (.a (.a (.a (.m ?_ (.a (.a .z)))))))))))))) ?_
         · exact DOk.cA [] [.agg (cCount (l0.getD (0 + (IntKind.i64.wrap ((IntKind.i64.wrap (a35.2.1 - 1)) - (IntKind.i64.wrap (shrOp .u64 (IntKind.u64.wrap (IntKind.i64.wrap (a37.1 + a37.2))) 1)))).toNat) default)),.agg (cCount (l0.getD (0 + (IntKind.i64.wrap (shrOp .u64 (IntKind.u64.wrap (IntKind.i64.wrap (a37.1 + a37.2))) 1)).toNat) default))] (diff_added_1_ok hr58) fun r=>(.cons (.refl _) (.cons (.refl _) .nil))
         refine Tri.condK h (fun h => ?_) (fun h => ?_)
         ·refine Tri.reg ?_
          refine At.sg 3 [0,1,2,3,4,18,19,20,21,22] [5000] (allT_ok 3) ?_
          refine At.done rfl ?_
          cases h
          exact kr
         ·refine Tri.reg ?_
          refine At.sg 2 [0,1,2,3,4,18,19,20,21,22] [5000] (allT_ok 2) ?_
          refine At.done rfl ?_
          cases h
          exact kr
        ·refine Tri.kp [0,1,2,3,4,18,19,20,21,22] [5000] ?_
         refine Tri.exit ?_
         cases h
         exact ⟨rfl,kr⟩
       ·intro a38 h
        refine Tri.sg [0,1,2,3,4,18,20,24] [5000] (allT_ok 4) ?_
        refine Tri.seqJ (fun (a39:Int × (List Count))=>⟨[(0,.c (oC 5000 2 a39.2)),(1,cD (dI p1)),(3,cD (dI p3)),(4,cD (.fn 100 [])),(18,cD (dI a35.1)),(20,cD (dI a38.1)),(24,cD (dI a39.1))],[(5000,vL 2 encCount a39.2)]⟩) h (fun a39 h => ?_) (fun j40 h => ?_)
        ·refine Tri.seqJ (fun (a41:List Count)=>⟨[(0,.c (oC 5000 2 a41)),(3,cD (dI p3)),(4,cD (.fn 100 [])),(18,cD (dI a35.1)),(24,cD (dI a39.1))],[(5000,vL 2 encCount a41)]⟩) h (fun a41 h => ?_) (fun j42 h => ?_)
         ·refine Tri.seqJ (fun (a43:Bool)=>⟨[(0,.c (oC 5000 2 a41)),(3,cD (dI p3)),(4,cD (.fn 100 [])),(18,cD (dI a35.1)),(24,cD (dI a39.1)),(213,cD (.bool a43))],[(5000,vL 2 encCount a41)]⟩) h (fun a43 h => ?_) (fun j44 h => ?_)
          ·refine Tri.condK h (fun h => ?_) (fun h => ?_)
           ·refine Tri.reg ?_
            refine At.sg 5 [214,215,216,217,218] [5000] (allT_ok 5) ?_
            obtain ⟨r45,hr45,h⟩:=bind_elim h
            refine At.cL 0 [] [.c (oC 5000 2 a41),cD (dI a35.1),cD (dI a39.1),cD (dI p3),cD (.fn 100 [])] [(5000,5000)] [] [] (ih hr45) (.ren rfl rfl (.flat (.refl _) rfl rfl (.flat (.refl _) rfl rfl (.flat (.refl _) rfl rfl (.flat (.refl _) rfl rfl .nil))))) ?_
            refine At.keep [] [5000] (s':=⟨[],[(5000,vL 2 encCount r45)]⟩) (by kernel_rfl) ?_
            refine At.done rfl ?_
            cases h
            exact RetAt.k
           ·refine Tri.kp [] [5000] ?_
            refine Tri.skip ?_
            cases h
            exact RetAt.k
          ·refine Tri.reg ?_
           refine At.sg 4 [0,3,4,18,24,209] [5000] (allT_ok 4) ?_
           refine At.cs [209] h (fun h => ?_) (fun h => ?_)
           ·refine At.sg 4 [0,3,4,18,24,213] [5000] (allT_ok 4) ?_
            refine At.done rfl ?_
            exact ⟨_,h,kr⟩
           ·refine At.sg 4 [0,3,4,18,24,213] [5000] (allT_ok 1) ?_
            refine At.done rfl ?_
            exact ⟨_,h,kr⟩
         ·refine Tri.seqJ (fun (a46:Bool)=>⟨[(0,.c (oC 5000 2 a39.2)),(1,cD (dI p1)),(3,cD (dI p3)),(4,cD (.fn 100 [])),(18,cD (dI a35.1)),(20,cD (dI a38.1)),(24,cD (dI a39.1)),(199,cD (.bool a46))],[(5000,vL 2 encCount a39.2)]⟩) h (fun a46 h => ?_) (fun j47 h => ?_)
          ·refine Tri.condK h (fun h => ?_) (fun h => ?_)
           ·refine Tri.reg ?_
            refine At.sg 5 [0,3,4,18,24,200,201,202,203,204] [5000] (allT_ok 5) ?_
            obtain ⟨r48,hr48,h⟩:=bind_elim h
            refine At.callL (nf:=0) (caps:=[]) (xs:=[.c (oC 5000 2 a39.2),cD (dI p1),cD (dI a38.1),cD (dI a35.1),cD (.fn 100 [])]) [(5000,5000)] [0,3,4,18,24] [] (s0:=⟨[(0,.c (oC 5000 2 a39.2)),(3,cD (dI p3)),(4,cD (.fn 100 [])),(18,cD (dI a35.1)),(24,cD (dI a39.1))],[]⟩) (ih hr48) rfl rfl (by kernel_rfl) rfl (by kernel_rfl) (by kernel_rfl) (.ren rfl rfl (.flat (.refl _) rfl rfl (.flat (.refl _) rfl rfl (.flat (.refl _) rfl rfl (.flat (.refl _) rfl rfl .nil))))) ⟨⟨by kernel_rfl,by kernel_rfl⟩,trivial⟩ (by kernel_rfl) (by kernel_rfl) (by kernel_rfl) (by kernel_rfl) (by kernel_rfl) (by kernel_rfl) (by kernel_rfl) (by kernel_rfl) (by kernel_rfl) ⟨[(205,.tup []),(0,.c (oC 5000 2 a39.2)),(3,cD (dI p3)),(4,cD (.fn 100 [])),(18,cD (dI a35.1)),(24,cD (dI a39.1))],[(5000,vL 2 encCount r48)]⟩ (by kernel_rfl) ?_
            obtain ⟨hc49,h⟩:=need_elim h
            refine At.eqS ⟨[(205,.tup []),(0,.c (oC 5000 2 r48)),(3,cD (dI p3)),(4,cD (.fn 100 [])),(18,cD (dI a35.1)),(24,cD (dI a39.1))],[(5000,vL 2 encCount r48)]⟩ (by simp only [oC,vL,hc49]) ?_
            refine At.keep [0,3,4,18,24] [5000] (s':=⟨[(0,.c (oC 5000 2 r48)),(3,cD (dI p3)),(4,cD (.fn 100 [])),(18,cD (dI a35.1)),(24,cD (dI a39.1))],[(5000,vL 2 encCount r48)]⟩) (by kernel_rfl) ?_
            refine At.done rfl ?_
            exact ⟨_,h,kr⟩
           ·refine Tri.kp [0,3,4,18,24] [5000] ?_
            refine Tri.skip ?_
            exact ⟨_,h,kr⟩
          ·refine Tri.reg ?_
           refine At.sg 4 [0,1,3,4,18,20,24,195] [5000] (allT_ok 4) ?_
           refine At.cs [195] h (fun h => ?_) (fun h => ?_)
           ·refine At.sg 4 [0,1,3,4,18,20,24,199] [5000] (allT_ok 4) ?_
            refine At.done rfl ?_
            exact ⟨_,h,kr⟩
           ·refine At.sg 4 [0,1,3,4,18,20,24,199] [5000] (allT_ok 1) ?_
            refine At.done rfl ?_
            exact ⟨_,h,kr⟩
        ·refine Tri.seqJ (fun (a50:Int × Bool)=>⟨[(0,.c (oC 5000 2 l0)),(1,cD (dI p1)),(2,cD (dI p2)),(3,cD (dI p3)),(4,cD (.fn 100 [])),(18,cD (dI a35.1)),(20,cD (dI a38.1)),(24,cD (dI a50.1)),(185,cD (.bool a50.2))],[(5000,vL 2 encCount l0)]⟩) h (fun a50 h => ?_) (fun j51 h => ?_)
         ·refine Tri.condK h (fun h => ?_) (fun h => ?_)
          ·refine Tri.reg ?_
           refine At.sg 5 [0,1,3,4,18,20,24,186,187,188,189,190] [5000] (allT_ok 5) ?_
           obtain ⟨r52,hr52,h⟩:=bind_elim h
           refine At.callL (nf:=0) (caps:=[]) (xs:=[.c (oC 5000 2 l0),cD (dI a38.1),cD (dI p2),cD (dI a50.1),cD (.fn 100 [])]) [(5000,5000)] [0,1,3,4,18,20,24] [] (s0:=⟨[(0,.c (oC 5000 2 l0)),(1,cD (dI p1)),(3,cD (dI p3)),(4,cD (.fn 100 [])),(18,cD (dI a35.1)),(20,cD (dI a38.1)),(24,cD (dI a50.1))],[]⟩) (slices_rotateCmpFunc_Count__diff_added_1_w_ok hr52) rfl rfl (by kernel_rfl) rfl (by kernel_rfl) (by kernel_rfl) (.ren rfl rfl (.flat (.refl _) rfl rfl (.flat (.refl _) rfl rfl (.flat (.refl _) rfl rfl (.flat (.refl _) rfl rfl .nil))))) ⟨⟨by kernel_rfl,by kernel_rfl⟩,trivial⟩ (by kernel_rfl) (by kernel_rfl) (by kernel_rfl) (by kernel_rfl) (by kernel_rfl) (by kernel_rfl) (by kernel_rfl) (by kernel_rfl) (by kernel_rfl) ⟨[(191,.tup []),(0,.c (oC 5000 2 l0)),(1,cD (dI p1)),(3,cD (dI p3)),(4,cD (.fn 100 [])),(18,cD (dI a35.1)),(20,cD (dI a38.1)),(24,cD (dI a50.1))],[(5000,vL 2 encCount r52)]⟩ (by kernel_rfl) ?_
           obtain ⟨hc53,h⟩:=need_elim h
           refine At.eqS ⟨[(191,.tup []),(0,.c (oC 5000 2 r52)),(1,cD (dI p1)),(3,cD (dI p3)),(4,cD (.fn 100 [])),(18,cD (dI a35.1)),(20,cD (dI a38.1)),(24,cD (dI a50.1))],[(5000,vL 2 encCount r52)]⟩ (by simp only [oC,vL,hc53]) ?_
           refine At.keep [0,1,3,4,18,20,24] [5000] (s':=⟨[(0,.c (oC 5000 2 r52)),(1,cD (dI p1)),(3,cD (dI p3)),(4,cD (.fn 100 [])),(18,cD (dI a35.1)),(20,cD (dI a38.1)),(24,cD (dI a50.1))],[(5000,vL 2 encCount r52)]⟩) (by kernel_rfl) ?_
           refine At.done rfl ?_
           exact ⟨_,h,kr⟩
          ·refine Tri.kp [0,1,3,4,18,20,24] [5000] ?_
           refine Tri.skip ?_
           exact ⟨_,h,kr⟩
         ·refine Tri.reg ?_
          refine At.sg 4 [0,1,2,3,4,18,20,24,181] [5000] (allT_ok 4) ?_
          refine At.cs [181] h (fun h => ?_) (fun h => ?_)
          ·refine At.sg 4 [0,1,2,3,4,18,20,24,185] [5000] (allT_ok 4) ?_
           refine At.done rfl ?_
           exact ⟨_,h,kr⟩
          ·refine At.sg 4 [0,1,2,3,4,18,20,24,185] [5000] (allT_ok 1) ?_
           refine At.done rfl ?_
           exact ⟨_,h,kr⟩
       · exact fun x=>x.elim
      ·refine Tri.sg [0,1,2,3,4,18,19,140] [5000] (allT_ok 3) ?_
       refine Tri.condK h (fun h => ?_) (fun h => ?_)
       ·refine Tri.sg [0,1,2,3,4,18,19,20] [5000] (allT_ok 4) ?_
        refine Tri.reg ?_
        refine At.sg 2 [0,1,2,3,4,18,19,20,21] [5000] (allT_ok 2) ?_
        refine At.done rfl ?_
        exact ⟨_,h,kr⟩
       ·refine Tri.sg [0,1,2,3,4,18,19,20] [5000] (allT_ok 2) ?_
        refine Tri.reg ?_
        refine At.sg 2 [0,1,2,3,4,18,19,20,21] [5000] (allT_ok 2) ?_
        refine At.done rfl ?_
        exact ⟨_,h,kr⟩
set_option maxRecDepth 100000 in
theorem slices_stableCmpFunc_Count__diff_added_1_w_ok {fuel:Nat} {p1:Int} {l0:List Count} {q:List Count} (h:slices_stableCmpFunc_Count__diff_added_1_w fuel p1 l0=some q) :
    Summ Tryz.prog 143 [.c (oC 5000 2 l0),cD (dI p1),cD (.fn 100 [])] [(5000,vL 2 encCount l0)] (.tup []) [(5000,vL 2 encCount q)]:=by
  refine Summ.intro Tryz.func143 rfl (by kernel_rfl) (by kernel_rfl) [] rfl ?_
  rintro ⟨P,w0,G0,V,LL,lk,N, φ0,fx⟩ rfl rfl rfl rfl
  unfold slices_stableCmpFunc_Count__diff_added_1_w at h
  refine Tri.sg [0,1,2,6] [5000] (allT_ok 1) ?_
  refine Tri.sg [0,1,2,6,7,8] [5000] (allT_ok 3) ?_
  refine Tri.seqS ?_
  refine Tri.lK (0,20,l0) (fun (x:Empty) s=>False) (fun (a1:Int × Int × (List Count))=>⟨[(0,.c (oC 5000 2 a1.2.2)),(1,cD (dI p1)),(2,cD (.fn 100 [])),(6,cD (dI 20)),(7,cD (dI a1.1)),(8,cD (dI a1.2.1))],[(5000,vL 2 encCount a1.2.2)]⟩) [0,1,2,6,7,8] [5000] h ?_ ?_ ?_
  ·intro a1 c h
   refine Tri.seqS ?_
   refine Tri.sg [0,1,2,6,7,8,13] [5000] (allT_ok 3) ?_
   refine Tri.condK h (fun h => ?_) (fun h => ?_)
   ·refine Tri.skip ?_
    refine Tri.blockB ?_
    refine Tri.seqS ?_
    refine Tri.reg ?_
    refine At.sg 4 [0,1,2,6,8,14,15,16,17] [5000] (allT_ok 4) ?_
    obtain ⟨r15,hr15,h⟩:=bind_elim h
    refine At.callL (nf:=0) (caps:=[]) (xs:=[.c (oC 5000 2 a1.2.2),cD (dI a1.1),cD (dI a1.2.1),cD (.fn 100 [])]) [(5000,5000)] [0,1,2,6,8] [] (s0:=⟨[(0,.c (oC 5000 2 a1.2.2)),(1,cD (dI p1)),(2,cD (.fn 100 [])),(6,cD (dI 20)),(8,cD (dI a1.2.1))],[]⟩) (slices_insertionSortCmpFunc_Count__diff_added_1_w_ok hr15) rfl rfl (by kernel_rfl) rfl (by kernel_rfl) (by kernel_rfl) (.ren rfl rfl (.flat (.refl _) rfl rfl (.flat (.refl _) rfl rfl (.flat (.refl _) rfl rfl .nil)))) ⟨⟨by kernel_rfl,by kernel_rfl⟩,trivial⟩ (by kernel_rfl) (by kernel_rfl) (by kernel_rfl) (by kernel_rfl) (by kernel_rfl) (by kernel_rfl) (by kernel_rfl) (by kernel_rfl) (by kernel_rfl) ⟨[(18,.tup []),(0,.c (oC 5000 2 a1.2.2)),(1,cD (dI p1)),(2,cD (.fn 100 [])),(6,cD (dI 20)),(8,cD (dI a1.2.1))],[(5000,vL 2 encCount r15)]⟩ (by kernel_rfl) ?_
    obtain ⟨hc16,h⟩:=need_elim h
    refine At.eqS ⟨[(18,.tup []),(0,.c (oC 5000 2 r15)),(1,cD (dI p1)),(2,cD (.fn 100 [])),(6,cD (dI 20)),(8,cD (dI a1.2.1))],[(5000,vL 2 encCount r15)]⟩ (by simp only [oC,vL,hc16]) ?_
    refine At.done rfl ?_
    refine Tri.sg [0,1,2,6,7,8] [5000] (allT_ok 2) ?_
    refine Tri.reg ?_
    refine At.sg 4 [0,1,2,6,7,8] [5000] (allT_ok 4) ?_
    refine At.done rfl ?_
    cases h
    exact kr
   ·refine Tri.kp [0,1,2,6,7,8] [5000] ?_
    refine Tri.exit ?_
    cases h
    exact ⟨rfl,kr⟩
  ·intro a2 h
   refine Tri.seqS ?_
   refine Tri.reg ?_
   refine At.sg 4 [0,1,2,6,23,24,25,26] [5000] (allT_ok 4) ?_
   obtain ⟨r3,hr3,h⟩:=bind_elim h
   refine At.callL (nf:=0) (caps:=[]) (xs:=[.c (oC 5000 2 a2.2.2),cD (dI a2.1),cD (dI p1),cD (.fn 100 [])]) [(5000,5000)] [0,1,2,6] [] (s0:=⟨[(0,.c (oC 5000 2 a2.2.2)),(1,cD (dI p1)),(2,cD (.fn 100 [])),(6,cD (dI 20))],[]⟩) (slices_insertionSortCmpFunc_Count__diff_added_1_w_ok hr3) rfl rfl (by kernel_rfl) rfl (by kernel_rfl) (by kernel_rfl) (.ren rfl rfl (.flat (.refl _) rfl rfl (.flat (.refl _) rfl rfl (.flat (.refl _) rfl rfl .nil)))) ⟨⟨by kernel_rfl,by kernel_rfl⟩,trivial⟩ (by kernel_rfl) (by kernel_rfl) (by kernel_rfl) (by kernel_rfl) (by kernel_rfl) (by kernel_rfl) (by kernel_rfl) (by kernel_rfl) (by kernel_rfl) ⟨[(27,.tup []),(0,.c (oC 5000 2 a2.2.2)),(1,cD (dI p1)),(2,cD (.fn 100 [])),(6,cD (dI 20))],[(5000,vL 2 encCount r3)]⟩ (by kernel_rfl) ?_
   obtain ⟨hc4,h⟩:=need_elim h
   refine At.eqS ⟨[(27,.tup []),(0,.c (oC 5000 2 r3)),(1,cD (dI p1)),(2,cD (.fn 100 [])),(6,cD (dI 20))],[(5000,vL 2 encCount r3)]⟩ (by simp only [oC,vL,hc4]) ?_
   refine At.done rfl ?_
   refine Tri.keep [0,1,2,6] [5000] (s':=⟨[(0,.c (oC 5000 2 r3)),(1,cD (dI p1)),(2,cD (.fn 100 [])),(6,cD (dI 20))],[(5000,vL 2 encCount r3)]⟩) (by kernel_rfl) ?_
   refine Tri.loopK (fuel:=fuel) (st0:=(20,r3)) (fun (x:Empty) s=>False) (fun (a5:Int × (List Count))=>⟨[(0,.c (oC 5000 2 a5.2)),(1,cD (dI p1)),(2,cD (.fn 100 [])),(6,cD (dI a5.1))],[(5000,vL 2 encCount a5.2)]⟩) (fun (a5:Int × (List Count))=>⟨[],[(5000,vL 2 encCount a5.2)]⟩) h ?_ ?_ ?_
   ·intro a5 c h
    refine Tri.seqS ?_
    refine Tri.sg [0,1,2,6,30] [5000] (allT_ok 3) ?_
    refine Tri.condK h (fun h => ?_) (fun h => ?_)
    ·refine Tri.skip ?_
     refine Tri.blockB ?_
     refine Tri.sg [0,1,2,6,7,8] [5000] (allT_ok 4) ?_
     refine Tri.seqS ?_
     refine Tri.lK (0,(IntKind.i64.wrap ((2:Int) * a5.1)),a5.2) (fun (x:Empty) s=>False) (fun (a7:Int × Int × (List Count))=>⟨[(0,.c (oC 5000 2 a7.2.2)),(1,cD (dI p1)),(2,cD (.fn 100 [])),(6,cD (dI a5.1)),(7,cD (dI a7.1)),(8,cD (dI a7.2.1))],[(5000,vL 2 encCount a7.2.2)]⟩) [0,1,2,6,7,8] [5000] h ?_ ?_ ?_
     ·intro a7 c h
      refine Tri.seqS ?_
      refine Tri.sg [0,1,2,6,7,8,35] [5000] (allT_ok 3) ?_
      refine Tri.condK h (fun h => ?_) (fun h => ?_)
      ·refine Tri.skip ?_
       refine Tri.blockB ?_
       refine Tri.seqS ?_
       refine Tri.reg ?_
       refine At.sg 7 [0,1,2,6,8,36,37,40,41,42] [5000] (allT_ok 7) ?_
       obtain ⟨r13,hr13,h⟩:=bind_elim h
       refine At.callL (nf:=0) (caps:=[]) (xs:=[.c (oC 5000 2 a7.2.2),cD (dI a7.1),cD (dI (IntKind.i64.wrap (a7.1 + a5.1))),cD (dI a7.2.1),cD (.fn 100 [])]) [(5000,5000)] [0,1,2,6,8] [] (s0:=⟨[(0,.c (oC 5000 2 a7.2.2)),(1,cD (dI p1)),(2,cD (.fn 100 [])),(6,cD (dI a5.1)),(8,cD (dI a7.2.1))],[]⟩) (slices_symMergeCmpFunc_Count__diff_added_1_w_ok hr13) rfl rfl (by kernel_rfl) rfl (by kernel_rfl) (by kernel_rfl) (.ren rfl rfl (.flat (.refl _) rfl rfl (.flat (.refl _) rfl rfl (.flat (.refl _) rfl rfl (.flat (.refl _) rfl rfl .nil))))) ⟨⟨by kernel_rfl,by kernel_rfl⟩,trivial⟩ (by kernel_rfl) (by kernel_rfl) (by kernel_rfl) (by kernel_rfl) (by kernel_rfl) (by kernel_rfl) (by kernel_rfl) (by kernel_rfl) (by kernel_rfl) ⟨[(43,.tup []),(0,.c (oC 5000 2 a7.2.2)),(1,cD (dI p1)),(2,cD (.fn 100 [])),(6,cD (dI a5.1)),(8,cD (dI a7.2.1))],[(5000,vL 2 encCount r13)]⟩ (by kernel_rfl) ?_
       obtain ⟨hc14,h⟩:=need_elim h
       refine At.eqS ⟨[(43,.tup []),(0,.c (oC 5000 2 r13)),(1,cD (dI p1)),(2,cD (.fn 100 [])),(6,cD (dI a5.1)),(8,cD (dI a7.2.1))],[(5000,vL 2 encCount r13)]⟩ (by simp only [oC,vL,hc14]) ?_
       refine At.done rfl ?_
       refine Tri.sg [0,1,2,6,7,8] [5000] (allT_ok 2) ?_
       refine Tri.reg ?_
       refine At.sg 5 [0,1,2,6,7,8] [5000] (allT_ok 5) ?_
       refine At.done rfl ?_
       cases h
       exact kr
      ·refine Tri.kp [0,1,2,6,7,8] [5000] ?_
       refine Tri.exit ?_
       cases h
       exact ⟨rfl,kr⟩
     ·intro a8 h
      refine Tri.seqJ (fun (a9:List Count)=>⟨[(0,.c (oC 5000 2 a9)),(1,cD (dI p1)),(2,cD (.fn 100 [])),(6,cD (dI a5.1))],[(5000,vL 2 encCount a9)]⟩) h (fun a9 h => ?_) (fun j10 h => ?_)
      ·refine Tri.reg ?_
       refine At.sg 3 [0,1,2,6] [5000] (allT_ok 3) ?_
       refine At.done rfl ?_
       cases h
       exact kr
      ·refine Tri.sg [0,1,2,6,7,9] [5000] (allT_ok 4) ?_
       refine Tri.sg [0,1,2,6,7,9,54] [5000] (allT_ok 3) ?_
       refine Tri.condK h (fun h => ?_) (fun h => ?_)
       ·refine Tri.reg ?_
        refine At.sg 5 [0,1,2,6,55,56,57,58,59] [5000] (allT_ok 5) ?_
        obtain ⟨r11,hr11,h⟩:=bind_elim h
        refine At.callL (nf:=0) (caps:=[]) (xs:=[.c (oC 5000 2 a8.2.2),cD (dI a8.1),cD (dI (IntKind.i64.wrap (a8.1 + a5.1))),cD (dI p1),cD (.fn 100 [])]) [(5000,5000)] [0,1,2,6] [] (s0:=⟨[(0,.c (oC 5000 2 a8.2.2)),(1,cD (dI p1)),(2,cD (.fn 100 [])),(6,cD (dI a5.1))],[]⟩) (slices_symMergeCmpFunc_Count__diff_added_1_w_ok hr11) rfl rfl (by kernel_rfl) rfl (by kernel_rfl) (by kernel_rfl) (.ren rfl rfl (.flat (.refl _) rfl rfl (.flat (.refl _) rfl rfl (.flat (.refl _) rfl rfl (.flat (.refl _) rfl rfl .nil))))) ⟨⟨by kernel_rfl,by kernel_rfl⟩,trivial⟩ (by kernel_rfl) (by kernel_rfl) (by kernel_rfl) (by kernel_rfl) (by kernel_rfl) (by kernel_rfl) (by kernel_rfl) (by kernel_rfl) (by kernel_rfl) ⟨[(60,.tup []),(0,.c (oC 5000 2 a8.2.2)),(1,cD (dI p1)),(2,cD (.fn 100 [])),(6,cD (dI a5.1))],[(5000,vL 2 encCount r11)]⟩ (by kernel_rfl) ?_
        obtain ⟨hc12,h⟩:=need_elim h
        refine At.eqS ⟨[(60,.tup []),(0,.c (oC 5000 2 r11)),(1,cD (dI p1)),(2,cD (.fn 100 [])),(6,cD (dI a5.1))],[(5000,vL 2 encCount r11)]⟩ (by simp only [oC,vL,hc12]) ?_
        refine At.keep [0,1,2,6] [5000] (s':=⟨[(0,.c (oC 5000 2 r11)),(1,cD (dI p1)),(2,cD (.fn 100 [])),(6,cD (dI a5.1))],[(5000,vL 2 encCount r11)]⟩) (by kernel_rfl) ?_
        refine At.done rfl ?_
        exact ⟨_,h,kr⟩
       ·refine Tri.kp [0,1,2,6] [5000] ?_
        refine Tri.skip ?_
        exact ⟨_,h,kr⟩
     · exact fun x=>x.elim
    ·refine Tri.kp [] [5000] ?_
     refine Tri.exit ?_
     cases h
     exact ⟨rfl,kr⟩
   ·intro a6 h
    cases h
    exact RetAt.k
   · exact fun x=>x.elim
  · exact fun x=>x.elim
set_option maxRecDepth 100000 in
theorem slices_SortStableFuncfreshet_api_Count_freshet_api_Count_Count__diff_added_1_w_ok {fuel:Nat} {l0:List Count} {q:List Count} (h:slices_SortStableFuncfreshet_api_Count_freshet_api_Count_Count__diff_added_1_w fuel l0=some q) :
  Summ Tryz.prog 130 [.c (oC 5000 2 l0),cD (.fn 100 [])] [(5000,vL 2 encCount l0)] (.tup []) [(5000,vL 2 encCount q)]:=by
 refine Summ.intro Tryz.func130 rfl (by kernel_rfl) (by kernel_rfl) [] rfl ?_
 rintro ⟨P,w0,G0,V,LL,lk,N, φ0,fx⟩ rfl rfl rfl rfl
 unfold slices_SortStableFuncfreshet_api_Count_freshet_api_Count_Count__diff_added_1_w at h
 refine Tri.reg ?_
 refine At.sg 4 [4,6,7] [5000] (allT_ok 4) ?_
 obtain ⟨r1,hr1,h⟩:=bind_elim h
 refine At.cL 0 [] [.c (oC 5000 2 l0),cD (dI (l0.length:Int)),cD (.fn 100 [])] [(5000,5000)] [] [] (slices_stableCmpFunc_Count__diff_added_1_w_ok hr1) (.ren rfl rfl (.flat (.refl _) rfl rfl (.flat (.refl _) rfl rfl .nil))) ?_
 refine At.keep [] [5000] (s':=⟨[],[(5000,vL 2 encCount r1)]⟩) (by kernel_rfl) ?_
 refine At.done rfl ?_
 cases h
 exact RetAt.k
set_option maxRecDepth 100000 in
theorem diff_added_2_ok {p0:Count} {q:Int} (h:diff_added_2 p0=some q) :
  Summ Tryz.prog 101 [.agg (cCount p0)] [] (cD (dI q)) []:=by
 refine Summ.intro Tryz.func101 rfl (by kernel_rfl) (by kernel_rfl) [] rfl ?_
 rintro ⟨P,w0,G0,V,LL,lk,N, φ0,fx⟩ rfl rfl rfl rfl
 unfold diff_added_2 at h
 refine Tri.sg [1] [1] (allT_ok 2) ?_
 refine Tri.sg [2] [] (allT_ok 3) ?_
 refine Tri.ret ?_
 cases h
 exact RetAt.k
set_option maxRecDepth 100000 in
theorem freshet_diff_tally_add_w1_ok {p0:Nat} {p1:Int} {l0:List Line_Count} {q:List Line_Count} (h:freshet_diff_tally_add_w1 p0 p1 l0=some q) :
  Summ Tryz.prog 131 [.c (.vptr 5000 4 p0 0),cD (dI p1)] [(5000,vL 4 encLine_Count l0)] (.tup []) [(5000,vL 4 encLine_Count q)]:=by
 refine Summ.intro Tryz.func131 rfl (by kernel_rfl) (by kernel_rfl) [] rfl ?_
 rintro ⟨P,w0,G0,V,LL,lk,N, φ0,fx⟩ rfl rfl rfl rfl
 unfold freshet_diff_tally_add_w1 at h
 refine Tri.sg [0,1] [5000] (allT_ok 1) ?_
 refine Tri.seqS ?_
 refine Tri.reg ?_
 obtain ⟨hc1,h⟩:=need_elim h
 refine At.sg 7 [0,1,6,10,12] [5000] (tN 4 (ai hc1 (allT_ok 2))) ?_
 obtain ⟨r2,hr2,h⟩:=bind_elim h
 refine At.callA (caps:=[]) (xs:=[cD (dU ((l0.getD p0 default).tally.low)),cD (dU (IntKind.u64.wrap p1)),cD (dU 0)]) (bits_Add64_ok (fn:=Tryz.f144) Tryz.func144 rfl rfl (by kernel_rfl) (by kernel_rfl) hr2) rfl rfl rfl rfl rfl rfl (.cons (.refl _) (.cons (.refl _) (.cons (.refl _) .nil))) rfl rfl ?_
 refine At.seg 5 [0,1,14,15,17] [5000] (s':=⟨[(0,.c (.vptr 5000 4 p0 0)),(1,cD (dI p1)),(14,cD (dU r2.1)),(15,cD (dU r2.2)),(17,.c (.vptr 5000 4 p0 1))],[(5000,vL 4 encLine_Count l0)]⟩) (by kernel_rfl) (allT_ok 5) ?_
 obtain ⟨hc3,h⟩:=need_elim h
 refine At.one rfl (One.storeT (xs:=[.d (dU r2.1)]) (ds:=[dU r2.1]) (encLine_Count) l0 (⟨(⟨(l0.getD p0 default).tally.high,r2.1⟩:Tally),(l0.getD p0 default).of⟩:Line_Count) rfl rfl rfl rfl rfl hc3 rfl rfl (.refl _) rfl rfl rfl rfl) ?_
 refine At.sg 1 [0,1,4] [5000] (allT_ok 1) ?_
 refine At.done rfl ?_
 refine Tri.reg ?_
 obtain ⟨hc4,h⟩:=need_elim h
 refine At.sg 9 [19,23,26,27] [5000] (tN 4 (ai hc4 (tN 1 (ai (show ((0:Int)≤63) from (by decide:(0:Int)≤63)) (allT_ok 2))))) ?_
 obtain ⟨r5,hr5,h⟩:=bind_elim h
 refine At.callA (caps:=[]) (xs:=[cD (dU (((l0.set p0 (⟨(⟨(l0.getD p0 default).tally.high,r2.1⟩:Tally),(l0.getD p0 default).of⟩:Line_Count)).getD p0 default).tally.high)),cD (dU (IntKind.u64.wrap (shrOp .i64 p1 63))),cD (dU r2.2)]) (bits_Add64_ok (fn:=Tryz.f144) Tryz.func144 rfl rfl (by kernel_rfl) (by kernel_rfl) hr5) rfl rfl rfl rfl rfl rfl (.cons (.refl _) (.cons (.refl _) (.cons (.refl _) .nil))) rfl rfl ?_
 refine At.seg 5 [29,32] [5000] (s':=⟨[(29,cD (dU r5.1)),(32,.c (.vptr 5000 4 p0 0))],[(5000,vL 4 encLine_Count (l0.set p0 (⟨(⟨(l0.getD p0 default).tally.high,r2.1⟩:Tally),(l0.getD p0 default).of⟩:Line_Count)))]⟩) (by kernel_rfl) (allT_ok 5) ?_
 obtain ⟨hc6,h⟩:=need_elim h
 refine At.one rfl (One.storeT (xs:=[.d (dU r5.1)]) (ds:=[dU r5.1]) (encLine_Count) (l0.set p0 (⟨(⟨(l0.getD p0 default).tally.high,r2.1⟩:Tally),(l0.getD p0 default).of⟩:Line_Count)) (⟨(⟨r5.1,((l0.set p0 (⟨(⟨(l0.getD p0 default).tally.high,r2.1⟩:Tally),(l0.getD p0 default).of⟩:Line_Count)).getD p0 default).tally.low⟩:Tally),((l0.set p0 (⟨(⟨(l0.getD p0 default).tally.high,r2.1⟩:Tally),(l0.getD p0 default).of⟩:Line_Count)).getD p0 default).of⟩:Line_Count) rfl rfl rfl rfl rfl hc6 rfl rfl (.refl _) rfl rfl rfl rfl) ?_
 refine At.keep [] [5000] (s':=⟨[],[(5000,vL 4 encLine_Count ((l0.set p0 (⟨(⟨(l0.getD p0 default).tally.high,r2.1⟩:Tally),(l0.getD p0 default).of⟩:Line_Count)).set p0 (⟨(⟨r5.1,((l0.set p0 (⟨(⟨(l0.getD p0 default).tally.high,r2.1⟩:Tally),(l0.getD p0 default).of⟩:Line_Count)).getD p0 default).tally.low⟩:Tally),((l0.set p0 (⟨(⟨(l0.getD p0 default).tally.high,r2.1⟩:Tally),(l0.getD p0 default).of⟩:Line_Count)).getD p0 default).of⟩:Line_Count)))]⟩) (by kernel_rfl) ?_
 refine At.done rfl ?_
 cases h
 exact RetAt.k
set_option maxRecDepth 100000 in
theorem freshet_diff_tally_fit_w1_ok {l0:Line_Count} {q:Int × Int × Line_Count} (h:freshet_diff_tally_fit_w1 l0=some q) :
    Summ Tryz.prog 132 [.c (.ptr 5000 0)] [(5000,.box (cLine_Count l0))] (.tup [(false,[.d (dI q.1)]),(false,[.d (dI q.2.1)])]) [(5000,.box (cLine_Count q.2.2))]:=by
  refine Summ.intro Tryz.func132 rfl (by kernel_rfl) (by kernel_rfl) [] rfl ?_
  rintro ⟨P,w0,G0,V,LL,lk,N, φ0,fx⟩ rfl rfl rfl rfl
  unfold freshet_diff_tally_fit_w1 at h
  refine Tri.sg [0] [5000] (allT_ok 2) ?_
  refine Tri.seqS ?_
  refine Tri.seqS ?_
  refine Tri.dC [.a [0] [],.a [4] [],.a [5] [],.a [6] [5000],.a [0] [],.a [8] [],.a [9] [],.a [10] [5000],.a [11] [],.a [12] [],.a [13] [],.a [7,14] []] [0,15] [5000] (tN 9 (ai (show ((0:Int)≤63) from (by decide:(0:Int)≤63)) (allT_ok 2))) (.a (.a (.a (.a (.a (.a (.a (.a (.a (.a (.a (.a .z)))))))))))) ?_
  refine Tri.condK h (fun h => ?_) (fun h => ?_)
  ·refine Tri.sg [2,3] [5000] (allT_ok 2) ?_
   refine Tri.ret ?_
   cases h
   exact RetAt.k
  ·refine Tri.skip ?_
   refine Tri.sg [2,3] [5000] (allT_ok 7) ?_
   refine Tri.ret ?_
   cases h
   exact RetAt.k
set_option maxRecDepth 100000 in
theorem diff_added_3_ok {p0:Count} {p1:Int} {q:Count} (h:diff_added_3 p0 p1=some q) :
  Summ Tryz.prog 102 [.agg (cCount p0),cD (dI p1)] [] (.agg (cCount q)) []:=by
 refine Summ.intro Tryz.func102 rfl (by kernel_rfl) (by kernel_rfl) [] rfl ?_
 rintro ⟨P,w0,G0,V,LL,lk,N, φ0,fx⟩ rfl rfl rfl rfl
 unfold diff_added_3 at h
 refine Tri.sg [1,2,4] [2,4] (allT_ok 2) ?_
 refine Tri.seqS ?_
 refine Tri.reg ?_
 refine At.sg 2 [1,4,6] [4] (allT_ok 2) ?_
 obtain ⟨r1,hr1,h⟩:=bind_elim h
 refine At.cA [] [cD (lD 3 encValue p0.row)] (slices_Clonefreshet_api_Value_freshet_api_Value_Value_ok hr1) (.cons (.refl _) .nil) ?_
 refine At.sg 3 [4] [4] (allT_ok 3) ?_
 refine At.done rfl ?_
 refine Tri.ret ?_
 cases h
 exact RetAt.k
set_option maxRecDepth 100000 in
theorem diff_total_Count__diff_added_1__diff_added_2__diff_added_3_w_ok {fuel:Nat} {l0:List Count} {q:(List Count) × Int × (List Count)} (h:diff_total_Count__diff_added_1__diff_added_2__diff_added_3_w fuel l0=some q) :
    Summ Tryz.prog 99 [.c (oC 5000 2 l0),cD (.fn 100 []),cD (.fn 101 []),cD (.fn 102 [])] [(5000,vL 2 encCount l0)] (.tup [(false,[.d (lD 2 encCount q.1)]),(false,[.d (dI q.2.1)])]) [(5000,vL 2 encCount q.2.2)]:=by
  refine Summ.intro Tryz.func99 rfl (by kernel_rfl) (by kernel_rfl) [] rfl ?_
  rintro ⟨P,w0,G0,V,LL,lk,N, φ0,fx⟩ rfl rfl rfl rfl
  unfold diff_total_Count__diff_added_1__diff_added_2__diff_added_3_w at h
  refine Tri.sg [0,1,2,3] [5000] (allT_ok 2) ?_
  refine Tri.seqS ?_
  refine Tri.reg ?_
  refine At.sg 2 [0,1,2,3,19,20] [5000] (allT_ok 2) ?_
  obtain ⟨r1,hr1,h⟩:=bind_elim h
  refine At.callL (nf:=0) (caps:=[]) (xs:=[.c (oC 5000 2 l0),cD (.fn 100 [])]) [(5000,5000)] [0,1,2,3] [] (s0:=⟨[(0,.c (oC 5000 2 l0)),(1,cD (.fn 100 [])),(2,cD (.fn 101 [])),(3,cD (.fn 102 []))],[]⟩) (slices_SortStableFuncfreshet_api_Count_freshet_api_Count_Count__diff_added_1_w_ok hr1) rfl rfl (by kernel_rfl) rfl (by kernel_rfl) (by kernel_rfl) (.ren rfl rfl (.flat (.refl _) rfl rfl .nil)) ⟨⟨by kernel_rfl,by kernel_rfl⟩,trivial⟩ (by kernel_rfl) (by kernel_rfl) (by kernel_rfl) (by kernel_rfl) (by kernel_rfl) (by kernel_rfl) (by kernel_rfl) (by kernel_rfl) (by kernel_rfl) ⟨[(21,.tup []),(0,.c (oC 5000 2 l0)),(1,cD (.fn 100 [])),(2,cD (.fn 101 [])),(3,cD (.fn 102 []))],[(5000,vL 2 encCount r1)]⟩ (by kernel_rfl) ?_
  obtain ⟨hc2,h⟩:=need_elim h
  refine At.eqS ⟨[(21,.tup []),(0,.c (oC 5000 2 r1)),(1,cD (.fn 100 [])),(2,cD (.fn 101 [])),(3,cD (.fn 102 []))],[(5000,vL 2 encCount r1)]⟩ (by simp only [oC,vL,hc2]) ?_
  refine At.done rfl ?_
  refine Tri.sg [0,1,2,3,10] [5000] (allT_ok 1) ?_
  refine Tri.seqS ?_
  refine Tri.segL [1,2,3,10,22,23,24] [5000] ⟨[(1,cD (.fn 100 [])),(2,cD (.fn 101 [])),(3,cD (.fn 102 [])),(10,.c (.zero)),(22,.c (oC 5000 2 r1)),(23,cD (dI (r1.length:Int))),(24,cD (dI 0))],[(5000,vL 2 encCount r1)]⟩ _ (by kernel_rfl) (allT_ok 3) ?_
  refine Tri.newOwn (t:=10) (k:=1010) (es:=4) (fun i=>encLine_Count (([]:List Line_Count).getD i default)) rfl rfl rfl ?_
  refine Tri.lenOfO (t:=22) rfl rfl (Nat.le_refl _) fun hlena4 => ?_
  refine Tri.rK 24 ([]:List Line_Count) (fun (x:Empty) s=>False) (fun (a4:List Line_Count)=>⟨[(1,cD (.fn 100 [])),(2,cD (.fn 101 [])),(3,cD (.fn 102 [])),(10,.c (oC 1010 4 a4)),(22,.c (oC 5000 2 r1)),(23,cD (dI (r1.length:Int)))],[(1010,vL 4 encLine_Count a4),(5000,vL 2 encCount r1)]⟩) [24,1,2,3,10,22,23] [1010,5000] [25,24,1,2,3,10,22,23] [1010,5000] [1,2,3,10,22,23] [1010,5000] [24,1,2,3,10,22,23] [1010,5000] h hlena4 ?_ ?_ ?_
  ·intro i3 a4 c hii3 h
   obtain ⟨hc13,h⟩:=need_elim h
   refine Tri.sg [1,2,3,10,12,22,23,24] [12,1010,5000] (ai (show ((0:Int)≤((i3:Nat):Int)∧((i3:Nat):Int) < (r1.length:Int)) from ⟨by omega,by omega⟩) (ai hc13 (allT_ok 2))) ?_
   refine Tri.seqJ (fun (a14:List Line_Count)=>⟨[(1,cD (.fn 100 [])),(2,cD (.fn 101 [])),(3,cD (.fn 102 [])),(10,.c (oC 1010 4 a14)),(12,.c (.ptr 12 0)),(22,.c (oC 5000 2 r1)),(23,cD (dI (r1.length:Int))),(24,cD (dI ((i3:Nat):Int)))],[(12,.box (cCount (r1.getD (0 + i3) default))),(1010,vL 4 encLine_Count a14),(5000,vL 2 encCount r1)]⟩) h (fun a14 h => ?_) (fun j15 h => ?_)
   ·refine Tri.eqS ⟨[(1,cD (.fn 100 [])),(2,cD (.fn 101 [])),(3,cD (.fn 102 [])),(10,.c (oC 1010 4 a14)),(12,.c (.ptr 12 0)),(22,.c (oC 5000 2 r1)),(23,cD (dI (r1.length:Int))),(24,cD (dI ((i3:Nat):Int)))],[(12,.box (cCount (r1.getD (0 + i3) default))),(1010,vL 4 encLine_Count a14),(5000,vL 2 encCount r1)]⟩ kr ?_
    obtain ⟨hc16,h⟩:=need_elim h
    obtain ⟨r17,hr17,h⟩:=bind_elim h
    obtain ⟨r18,hr18,h⟩:=bind_elim h
    obtain ⟨hc19,h⟩:=need_elim h
    refine Tri.afterA ⟨[(1,cD (.fn 100 [])),(2,cD (.fn 101 [])),(3,cD (.fn 102 [])),(10,.c (oC 1010 4 a14)),(22,.c (oC 5000 2 r1)),(23,cD (dI (r1.length:Int))),(24,cD (dI ((i3:Nat):Int)))],[(1010,vL 4 encLine_Count r18),(5000,vL 2 encCount r1)]⟩ ?_ ?_
    ·refine Tri.dS ⟨[(1,cD (.fn 100 [])),(2,cD (.fn 101 [])),(3,cD (.fn 102 [])),(10,.c (oC 1010 4 a14)),(22,.c (oC 5000 2 r1)),(23,cD (dI (r1.length:Int))),(24,cD (dI ((i3:Nat):Int)))],[(1010,vL 4 encLine_Count r18),(5000,vL 2 encCount r1)]⟩ [.a [10] [],.a [10] [],.a [50] [1010],.a [51] [],.a [49,52] [1010],.a [53] [],.a [2] [],.a [12] [12],.m ⟨[(55,cD (.fn 101 [])),(56,.agg (cCount (r1.getD (0 + i3) default)))],[]⟩ ⟨[(57,cD (dI r17))],[]⟩ [] [] [],.m ⟨[(54,.c (.vptr 1010 4 (0 + (IntKind.i64.wrap ((a14.length:Int) - 1)).toNat) 0)),(57,cD (dI r17))],[(1010,vL 4 encLine_Count a14)]⟩ ⟨[(58,.tup [])],[(1010,vL 4 encLine_Count r18)]⟩ [] [] []] [1,2,3,10,22,23,24] [1010,5000] (tN 4 (ai hc16 (allT_ok 3))) (.a (.a (.a (.a (.a (.a (.a (.a (.m ?_ (.m ?_ .z)))))))))) ?_
     · exact DOk.cA [] [.agg (cCount (r1.getD (0 + i3) default))] (diff_added_2_ok hr17) fun r=>(.cons (.refl _) .nil)
     · exact DOk.callL (nf:=0) (caps:=[]) (xs:=[.c (.vptr 1010 4 (0 + (IntKind.i64.wrap ((a14.length:Int) - 1)).toNat) 0),cD (dI r17)]) [(5000,1010)] (freshet_diff_tally_add_w1_ok hr18) rfl (fun r=>by kernel_rfl) rfl (fun r=>by kernel_rfl) (fun r=>by kernel_rfl) (fun r=>(.ren rfl rfl (.flat (.refl _) rfl rfl .nil))) (fun r=>⟨⟨by kernel_rfl,by kernel_rfl⟩,trivial⟩) (by kernel_rfl) (by kernel_rfl) (by kernel_rfl) (by kernel_rfl) (by kernel_rfl) (by kernel_rfl) (by kernel_rfl) (by kernel_rfl) (by kernel_rfl) (by kernel_rfl) (by first | kernel_rfl | (show _=_; kernel_rfl))
     exact ⟨rfl,rfl⟩
    ·refine At.eqS (s':=⟨[(1,cD (.fn 100 [])),(2,cD (.fn 101 [])),(3,cD (.fn 102 [])),(10,.c (oC 1010 4 r18)),(22,.c (oC 5000 2 r1)),(23,cD (dI (r1.length:Int))),(24,cD (dI ((i3:Nat):Int)))],[(1010,vL 4 encLine_Count r18),(5000,vL 2 encCount r1)]⟩) (by simp only [oC,vL,List.length_set,hc19]) ?_
     refine At.keep [24,1,2,3,10,22,23] [1010,5000] (s':=⟨[(24,cD (dI ((i3:Nat):Int))),(1,cD (.fn 100 [])),(2,cD (.fn 101 [])),(3,cD (.fn 102 [])),(10,.c (oC 1010 4 r18)),(22,.c (oC 5000 2 r1)),(23,cD (dI (r1.length:Int)))],[(1010,vL 4 encLine_Count r18),(5000,vL 2 encCount r1)]⟩) (by kernel_rfl) ?_
     refine At.done rfl ?_
     cases h
     exact kr
   ·refine Tri.segL [1,2,3,10,12,13,22,23,24] [12,1010,5000] ⟨[(1,cD (.fn 100 [])),(2,cD (.fn 101 [])),(3,cD (.fn 102 [])),(10,.c (oC 1010 4 a4)),(12,.c (.ptr 12 0)),(13,cD (dI (a4.length:Int))),(22,.c (oC 5000 2 r1)),(23,cD (dI (r1.length:Int))),(24,cD (dI ((i3:Nat):Int)))],[(12,.box (cCount (r1.getD (0 + i3) default))),(1010,vL 4 encLine_Count a4),(5000,vL 2 encCount r1)]⟩ _ (by kernel_rfl) (allT_ok 3) ?_
    refine Tri.seqJ (fun (a20:Bool)=>⟨[(1,cD (.fn 100 [])),(2,cD (.fn 101 [])),(3,cD (.fn 102 [])),(10,.c (oC 1010 4 a4)),(12,.c (.ptr 12 0)),(22,.c (oC 5000 2 r1)),(23,cD (dI (r1.length:Int))),(24,cD (dI ((i3:Nat):Int))),(43,cD (.bool a20))],[(12,.box (cCount (r1.getD (0 + i3) default))),(1010,vL 4 encLine_Count a4),(5000,vL 2 encCount r1)]⟩) h (fun a20 h => ?_) (fun j21 h => ?_)
    ·refine Tri.condK h (fun h => ?_) (fun h => ?_)
     ·refine Tri.reg ?_
      refine At.seg 3 [1,2,3,12,22,23,24,44,46] [12,1010,5000] (s':=⟨[(1,cD (.fn 100 [])),(2,cD (.fn 101 [])),(3,cD (.fn 102 [])),(12,.c (.ptr 12 0)),(22,.c (oC 5000 2 r1)),(23,cD (dI (r1.length:Int))),(24,cD (dI ((i3:Nat):Int))),(44,.c (oC 1010 4 a4)),(46,.agg [.d (dU 0),.d (dU 0),.d (lD 3 encValue ((r1.getD (0 + i3) default).row)),.d (dI ((r1.getD (0 + i3) default).n))])],[(12,.box (cCount (r1.getD (0 + i3) default))),(1010,vL 4 encLine_Count a4),(5000,vL 2 encCount r1)]⟩) (by kernel_rfl) (allT_ok 3) ?_
      refine At.one rfl (One.buildSlice (z:=[.d (dU 0),.d (dU 0),.zero,.d (dI 0)]) (cells:=[.d (dU 0),.d (dU 0),.d (lD 3 encValue ((r1.getD (0 + i3) default).row)),.d (dI ((r1.getD (0 + i3) default).n))]) (xs:=List.map (encLine_Count) ([(⟨(⟨0,0⟩:Tally),(r1.getD (0 + i3) default)⟩:Line_Count)]:List Line_Count)) rfl rfl rfl rfl (by kernel_rfl) rfl rfl (by kernel_rfl) rfl rfl rfl (by kernel_rfl) rfl ⟨⟨rfl,.refl _⟩,trivial⟩) ?_
      refine At.le [47] (fun k hk h=>by first | (cases h; done) | (simp at hk h; omega)) ⟨[(47,cD (lD 4 encLine_Count ([(⟨(⟨0,0⟩:Tally),(r1.getD (0 + i3) default)⟩:Line_Count)]:List Line_Count))),(1,cD (.fn 100 [])),(2,cD (.fn 101 [])),(3,cD (.fn 102 [])),(12,.c (.ptr 12 0)),(22,.c (oC 5000 2 r1)),(23,cD (dI (r1.length:Int))),(24,cD (dI ((i3:Nat):Int))),(44,.c (oC 1010 4 a4)),(46,.agg [.d (dU 0),.d (dU 0),.d (lD 3 encValue ((r1.getD (0 + i3) default).row)),.d (dI ((r1.getD (0 + i3) default).n))])],[(12,.box (cCount (r1.getD (0 + i3) default))),(1010,vL 4 encLine_Count a4),(5000,vL 2 encCount r1)]⟩ ⟨⟨_,rfl,.c (.own rfl (List.mem_singleton.2 rfl) (Nat.le_of_ble_eq_true rfl) rfl (encs_getD (encLine_Count) ([(⟨(⟨0,0⟩:Tally),(r1.getD (0 + i3) default)⟩:Line_Count)]:List Line_Count)))⟩,⟨_,rfl,.refl _⟩,⟨_,rfl,.refl _⟩,⟨_,rfl,.refl _⟩,⟨_,rfl,.refl _⟩,⟨_,rfl,.refl _⟩,⟨_,rfl,.refl _⟩,⟨_,rfl,.refl _⟩,⟨_,rfl,.refl _⟩,⟨_,rfl,.refl _⟩,trivial⟩ ⟨⟨_,rfl,.refl _,(by simp)⟩,⟨_,rfl,.refl _,(by simp)⟩,⟨_,rfl,.refl _,(by simp)⟩,trivial⟩ ?_
      obtain ⟨hc22,h⟩:=need_elim h
      refine At.one rfl (One.appendT (e:=149) (es:=4) (encLine_Count) a4 ([(⟨(⟨0,0⟩:Tally),(r1.getD (0 + i3) default)⟩:Line_Count)]:List Line_Count) rfl rfl rfl rfl rfl (.of 149 48 [.d (dU 0),.d (dU 0),.zero,.d (dI 0)] (by kernel_rfl) (by kernel_rfl) (by kernel_rfl) (by kernel_rfl) rfl (by kernel_rfl) rfl) rfl rfl rfl (.list rfl (fun _ _=>rfl)) hc22) ?_
      refine At.sg 1 [1,2,3,10,12,22,23,24] [12,1010,5000] (allT_ok 1) ?_
      refine At.done rfl ?_
      exact ⟨_,h,kr⟩
     ·refine Tri.kp [1,2,3,10,12,22,23,24] [12,1010,5000] ?_
      refine Tri.skip ?_
      exact ⟨_,h,kr⟩
    ·rcases bf_cases h with ⟨hp23,h⟩ | ⟨hp23,h⟩
     ·refine Tri.dC [.a [13] [],.a [30] [],.m ⟨[(31,cD (.bool (decide ((a4.length:Int)=0))))],[]⟩ ⟨[(32,.c (.d (.bool true)))],[]⟩ [] [] [],.a [1,32] [],.a [10,32] [],.a [13,32] [],.a [32,35] [],.a [32,34,36] [],.a [32,37] [],.a [32,38] [],.a [12,32] [12],.a [32,33,39,40] [],.a [32,41] [],.a [32,42] []] [1,2,3,10,12,22,23,24,43] [12,1010,5000] (allT_ok 3) (.a (.a (.m ?_ (.a (.a (.a (.a (.a (.a (.a (.a (.a (.a (.a .z)))))))))))))) ?_
      · exact DOk.stepP (fun b => .val (.c (.d (.bool b))) (True)) (p:=(decide ((a4.length:Int)=0))) hp23 (fun r=>by kernel_rfl) (fun r=>by kernel_rfl) trivial (by kernel_rfl) (by kernel_rfl) (fun r=>rfl)
      exact ⟨_,h,kr⟩
     ·obtain ⟨hc24,h⟩:=need_elim h
      obtain ⟨hc25,h⟩:=need_elim h
      obtain ⟨r26,hr26,h⟩:=bind_elim h
      refine Tri.dC [.a [13] [],.a [30] [],.m ⟨[(31,cD (.bool (decide ((a4.length:Int)=0))))],[]⟩ ⟨[(32,.c (.d (.bool false)))],[]⟩ [] [] [],.a [1,32] [],.a [10,32] [],.a [13,32] [],.a [32,35] [],.a [32,34,36] [1010],.a [32,37] [],.a [32,38] [1010],.a [12,32] [12],.m ⟨[(32,cD (.bool false)),(33,cD (.fn 100 [])),(39,.agg [.d (lD 3 encValue ((a4.getD (0 + (IntKind.i64.wrap ((a4.length:Int) - 1)).toNat) default).of.row)),.d (dI ((a4.getD (0 + (IntKind.i64.wrap ((a4.length:Int) - 1)).toNat) default).of.n))]),(40,.agg (cCount (r1.getD (0 + i3) default)))],[]⟩ ⟨[(41,cD (dI r26))],[]⟩ [] [] [],.a [32,41] [],.a [32,42] []] [1,2,3,10,12,22,23,24,43] [12,1010,5000] (tN 6 (ai hc24 (tN 1 (ai hc25 (allT_ok 3))))) (.a (.a (.m ?_ (.a (.a (.a (.a (.a (.a (.a (.a (.m ?_ (.a (.a .z)))))))))))))) ?_
      · exact DOk.stepP (fun b => .val (.c (.d (.bool b))) (True)) (p:=(decide ((a4.length:Int)=0))) hp23 (fun r=>by kernel_rfl) (fun r=>by kernel_rfl) trivial (by kernel_rfl) (by kernel_rfl) (fun r=>rfl)
      · exact DOk.cA [] [.agg [.d (lD 3 encValue ((a4.getD (0 + (IntKind.i64.wrap ((a4.length:Int) - 1)).toNat) default).of.row)),.d (dI ((a4.getD (0 + (IntKind.i64.wrap ((a4.length:Int) - 1)).toNat) default).of.n))],.agg (cCount (r1.getD (0 + i3) default))] (diff_added_1_ok hr26) fun r=>(.cons (.refl _) (.cons (.refl _) .nil))
      exact ⟨_,h,kr⟩
  ·intro a5 h
   refine Tri.sg [3,10,14] [1010,5000] (allT_ok 1) ?_
   refine Tri.seqS ?_
   refine Tri.segL [3,14,60,61,62] [1010,5000] ⟨[(3,cD (.fn 102 [])),(14,.c (.zero)),(60,.c (oC 1010 4 a5)),(61,cD (dI (a5.length:Int))),(62,cD (dI 0))],[(1010,vL 4 encLine_Count a5),(5000,vL 2 encCount r1)]⟩ _ (by kernel_rfl) (allT_ok 3) ?_
   refine Tri.lenOfO (t:=60) rfl rfl (Nat.le_refl _) fun hlena7 => ?_
   refine Tri.newOwn (t:=14) (k:=1014) (es:=2) (fun i=>encCount (([]:List Count).getD i default)) rfl rfl rfl ?_
   refine Tri.rK 62 ([]:List Count) (fun (x:(List Count) × Int × (List Count)) s=>RetAt Tryz.prog Tryz.f99 (.tup [(false,[.d (lD 2 encCount x.1)]),(false,[.d (dI x.2.1)])]) [(5000,vL 2 encCount x.2.2)] s) (fun (a7:List Count)=>⟨[(3,cD (.fn 102 [])),(14,.c (oC 1014 2 a7)),(60,.c (oC 1010 4 a5)),(61,cD (dI (a5.length:Int)))],[(1010,vL 4 encLine_Count a5),(1014,vL 2 encCount a7),(5000,vL 2 encCount r1)]⟩) [62,3,14,60,61] [1010,1014,5000] [63,62,3,14,60,61] [1010,1014,5000] [3,14,60,61] [1010,1014,5000] [62,3,14,60,61] [1010,1014,5000] h hlena7 ?_ ?_ ?_
   ·intro i6 a7 c hii6 h
    obtain ⟨hc9,h⟩:=need_elim h
    refine Tri.sg [3,14,16,60,61,62] [16,1010,1014,5000] (ai (show ((0:Int)≤((i6:Nat):Int)∧((i6:Nat):Int) < (a5.length:Int)) from ⟨by omega,by omega⟩) (ai hc9 (allT_ok 2))) ?_
    refine Tri.seqS ?_
    refine Tri.reg ?_
    refine At.sg 1 [3,14,16,60,61,62,67] [16,1010,1014,5000] (allT_ok 1) ?_
    obtain ⟨r10,hr10,h⟩:=bind_elim h
    refine At.cL 0 [] [.c (.ptr 16 0)] [(5000,16)] [3,14,16,60,61,62] [1010,1014,5000] (freshet_diff_tally_fit_w1_ok hr10) (.ren rfl rfl .nil) ?_
    refine At.sg 5 [3,14,16,17,18,60,61,62] [16,1010,1014,5000] (allT_ok 5) ?_
    refine At.done rfl ?_
    refine Tri.seqS ?_
    refine Tri.sg [3,14,16,17,18,60,61,62,72] [16,1010,1014,5000] (allT_ok 2) ?_
    refine Tri.condK h (fun h => ?_) (fun h => ?_)
    ·refine Tri.sg [8,9] [5000] (allT_ok 3) ?_
     refine Tri.keep [8,9] [5000] (s':=⟨[(8,.c (.zero)),(9,cD (dI r10.2.1))],[(5000,vL 2 encCount r1)]⟩) (by kernel_rfl) ?_
     refine Tri.le [] (fun k hk=>by cases hk) ⟨[(8,cD (lD 2 encCount ([]:List Count))),(9,cD (dI r10.2.1))],[(5000,vL 2 encCount r1)]⟩ ⟨⟨_,rfl,.c (.zero _ _)⟩,⟨_,rfl,.refl _⟩,trivial⟩ ⟨⟨_,rfl,.refl _,(by simp)⟩,trivial⟩ ?_
     refine Tri.ret ?_
     cases h
     exact RetAt.k
    ·refine Tri.skip ?_
     refine Tri.sg [3,14,16,17,60,61,62,75] [16,1010,1014,5000] (allT_ok 2) ?_
     refine Tri.condK h (fun h => ?_) (fun h => ?_)
     ·refine Tri.reg ?_
      refine At.seg 5 [3,60,61,62,76,77,79,80] [1010,1014,5000] (s':=⟨[(3,cD (.fn 102 [])),(60,.c (oC 1010 4 a5)),(61,cD (dI (a5.length:Int))),(62,cD (dI ((i6:Nat):Int))),(76,.c (oC 1014 2 a7)),(77,cD (.fn 102 [])),(79,.agg (cCount r10.2.2.of)),(80,cD (dI r10.1))],[(1010,vL 4 encLine_Count a5),(1014,vL 2 encCount a7),(5000,vL 2 encCount r1)]⟩) (by kernel_rfl) (allT_ok 5) ?_
      obtain ⟨r11,hr11,h⟩:=bind_elim h
      refine At.cA [] [.agg (cCount r10.2.2.of),cD (dI r10.1)] (diff_added_3_ok hr11) (.cons (.refl _) (.cons (.refl _) .nil)) ?_
      refine At.one rfl (One.buildSlice (z:=[.zero,.d (dI 0)]) (cells:=[.d (lD 3 encValue r11.row),.d (dI r11.n)]) (xs:=List.map (encCount) ([r11]:List Count)) rfl rfl rfl rfl (by kernel_rfl) rfl rfl (by kernel_rfl) rfl rfl rfl (by kernel_rfl) rfl ⟨⟨rfl,.refl _⟩,trivial⟩) ?_
      refine At.le [82] (fun k hk h=>by first | (cases h; done) | (simp at hk h; omega)) ⟨[(82,cD (lD 2 encCount ([r11]:List Count))),(3,cD (.fn 102 [])),(60,.c (oC 1010 4 a5)),(61,cD (dI (a5.length:Int))),(62,cD (dI ((i6:Nat):Int))),(76,.c (oC 1014 2 a7)),(81,.agg (cCount r11))],[(1010,vL 4 encLine_Count a5),(1014,vL 2 encCount a7),(5000,vL 2 encCount r1)]⟩ ⟨⟨_,rfl,.c (.own rfl (List.mem_singleton.2 rfl) (Nat.le_of_ble_eq_true rfl) rfl (encs_getD (encCount) ([r11]:List Count)))⟩,⟨_,rfl,.refl _⟩,⟨_,rfl,.refl _⟩,⟨_,rfl,.refl _⟩,⟨_,rfl,.refl _⟩,⟨_,rfl,.refl _⟩,⟨_,rfl,.refl _⟩,trivial⟩ ⟨⟨_,rfl,.refl _,(by simp)⟩,⟨_,rfl,.refl _,(by simp)⟩,⟨_,rfl,.refl _,(by simp)⟩,trivial⟩ ?_
      obtain ⟨hc12,h⟩:=need_elim h
      refine At.one rfl (One.appendT (e:=95) (es:=2) (encCount) a7 ([r11]:List Count) rfl rfl rfl rfl rfl (.of 95 32 [.zero,.d (dI 0)] (by kernel_rfl) (by kernel_rfl) (by kernel_rfl) (by kernel_rfl) rfl (by kernel_rfl) rfl) rfl rfl rfl (.list rfl (fun _ _=>rfl)) hc12) ?_
      refine At.sg 1 [62,3,14,60,61] [1010,1014,5000] (allT_ok 1) ?_
      refine At.done rfl ?_
      cases h
      exact kr
     ·refine Tri.kp [62,3,14,60,61] [1010,1014,5000] ?_
      refine Tri.skip ?_
      cases h
      exact kr
   ·intro a8 h
    refine Tri.sg [8,9] [1014,5000] (allT_ok 3) ?_
    refine Tri.keep [8,9] [1014,5000] (s':=⟨[(8,.c (oC 1014 2 a8)),(9,cD (dI 0))],[(1014,vL 2 encCount a8),(5000,vL 2 encCount r1)]⟩) (by kernel_rfl) ?_
    refine Tri.le [1014] (fun k hk h=>by first | (cases h; done) | (simp at hk h; omega)) ⟨[(8,cD (lD 2 encCount a8)),(9,cD (dI 0))],[(5000,vL 2 encCount r1)]⟩ ⟨⟨_,rfl,.c (CLe.frozen (encCount) a8 rfl (by simp))⟩,⟨_,rfl,.refl _⟩,trivial⟩ ⟨⟨_,rfl,.refl _,(by simp)⟩,trivial⟩ ?_
    refine Tri.ret ?_
    cases h
    exact RetAt.k
   · exact fun x s hx hr=>by cases hx; exact hr
  · exact fun x=>x.elim
set_option maxRecDepth 100000 in
theorem diff_added_w_ok {fuel:Nat} {l0:List Count} {q:(List Count) × Int × (List Count)} (h:diff_added_w fuel l0=some q) :
  Summ Tryz.prog 68 [.c (oC 5000 2 l0)] [(5000,vL 2 encCount l0)] (.tup [(false,[.d (lD 2 encCount q.1)]),(false,[.d (dI q.2.1)])]) [(5000,vL 2 encCount q.2.2)]:=by
 refine Summ.intro Tryz.func68 rfl (by kernel_rfl) (by kernel_rfl) [] rfl ?_
 rintro ⟨P,w0,G0,V,LL,lk,N, φ0,fx⟩ rfl rfl rfl rfl
 unfold diff_added_w at h
 refine Tri.sg [0] [5000] (allT_ok 2) ?_
 refine Tri.seqS ?_
 refine Tri.reg ?_
 refine At.sg 1 [4] [5000] (allT_ok 1) ?_
 obtain ⟨r1,hr1,h⟩:=bind_elim h
 refine At.cL 0 [] [.c (oC 5000 2 l0),cD (.fn 100 []),cD (.fn 101 []),cD (.fn 102 [])] [(5000,5000)] [] [] (diff_total_Count__diff_added_1__diff_added_2__diff_added_3_w_ok hr1) (.ren rfl rfl (.flat (.refl _) rfl rfl (.flat (.refl _) rfl rfl (.flat (.refl _) rfl rfl .nil)))) ?_
 refine At.sg 4 [2,3] [5000] (allT_ok 4) ?_
 refine At.done rfl ?_
 refine Tri.ret ?_
 cases h
 exact RetAt.k
set_option maxRecDepth 100000 in
theorem diff_At_ok {fuel:Nat} {p0:List Update} {p1:Time} {q:(List Count) × Int} (h:diff_At fuel p0 p1=some q) :
    Summ Tryz.prog 31 [cD (lD 6 encUpdate p0),.agg (cTime p1)] [] (.tup [(false,[.d (lD 2 encCount q.1)]),(false,[.d (dI q.2)])]) []:=by
  refine Summ.intro Tryz.func31 rfl (by kernel_rfl) (by kernel_rfl) [] rfl ?_
  rintro ⟨P,w0,G0,V,LL,lk,N, φ0,fx⟩ rfl rfl rfl rfl
  unfold diff_At at h
  refine Tri.sg [0,3] [3] (allT_ok 3) ?_
  refine Tri.seqS ?_
  refine Tri.seqS ?_
  obtain ⟨r1,hr1,h⟩:=bind_elim h
  obtain ⟨r2,hr2,h⟩:=bind_elim h
  obtain ⟨r3,hr3,h⟩:=bind_elim h
  refine Tri.dC [.a [0] [],.m ⟨[(10,cD (lD 6 encUpdate p0))],[]⟩ ⟨[(11,cD (dI r1))],[]⟩ [] [] [],.a [3] [3],.m ⟨[(12,.agg (cTime p1))],[]⟩ ⟨[(13,.c (oC 13 3 ([p1]:List Time)))],[(13,vL 3 encTime ([p1]:List Time))]⟩ [13] [] [],.m ⟨[(13,.c (oC 13 3 ([p1]:List Time)))],[(13,vL 3 encTime ([p1]:List Time))]⟩ ⟨[(14,cD (dI r2))],[]⟩ [] [] [],.m ⟨[(11,cD (dI r1)),(14,cD (dI r2))],[]⟩ ⟨[(15,.c (oC 15 1 ([r1,r2]:List Int)))],[(15,vL 1 (encInt .i64) ([r1,r2]:List Int))]⟩ [15] [] [],.m ⟨[(15,.c (oC 15 1 ([r1,r2]:List Int)))],[(15,vL 1 (encInt .i64) ([r1,r2]:List Int))]⟩ ⟨[(16,cD (dI r3))],[]⟩ [] [] [],.a [16] []] [0,3,6] [3] (allT_ok 3) (.a (.m ?_ (.a (.m ?_ (.m ?_ (.m ?_ (.m ?_ (.a .z)))))))) ?_
  · exact DOk.cA [] [cD (lD 6 encUpdate p0)] (diff_Check_ok hr1) fun r=>(.cons (.refl _) .nil)
  · exact DOk.one fun r hr=>One.buildT (e:=54) (es:=3) (z:=[.d (dU 0),.d (dU 0),.d (dU 0)]) (cells:=[.d (dU p1.epoch),.d (dU p1.loop.1),.d (dU p1.loop.2)]) (encTime) ([p1]:List Time) rfl (by kernel_rfl) rfl rfl (St.noRef_app (by kernel_rfl) (hr 13 (by simp))) (by kernel_rfl) rfl (by kernel_rfl) rfl rfl rfl (by kernel_rfl) rfl ⟨⟨rfl,.refl _⟩,trivial⟩
  · exact DOk.cA [] [.c (oC 13 3 ([p1]:List Time))] (moment_Check_ok_v0 hr2) fun r=>(.cons (AVArg.view (encTime) ([p1]:List Time) rfl) .nil)
  · exact DOk.one fun r hr=>One.buildT (e:=27) (es:=1) (z:=[.d (dI 0)]) (cells:=[.d (dI r1),.d (dI r2)]) (encInt .i64) ([r1,r2]:List Int) rfl (by kernel_rfl) rfl rfl (St.noRef_app (by kernel_rfl) (hr 15 (by simp))) (by kernel_rfl) rfl (by kernel_rfl) rfl rfl rfl (by kernel_rfl) rfl ⟨⟨rfl,.refl _⟩,⟨rfl,.refl _⟩,trivial⟩
  · exact DOk.cA [] [.c (oC 15 1 ([r1,r2]:List Int))] (cmp_Or_Errno_ok_v0 hr3) fun r=>(.cons (AVArg.view (encInt .i64) ([r1,r2]:List Int) rfl) .nil)
  refine Tri.sg [0,3,6,18] [3] (allT_ok 2) ?_
  refine Tri.condK h (fun h => ?_) (fun h => ?_)
  ·refine Tri.sg [4,5] [] (allT_ok 3) ?_
   refine Tri.keep [4,5] [] (s':=⟨[(4,.c (.zero)),(5,cD (dI r3))],[]⟩) (by kernel_rfl) ?_
   refine Tri.le [] (fun k hk=>by cases hk) ⟨[(4,cD (lD 2 encCount ([]:List Count))),(5,cD (dI r3))],[]⟩ ⟨⟨_,rfl,.c (.zero _ _)⟩,⟨_,rfl,.refl _⟩,trivial⟩ trivial ?_
   refine Tri.ret ?_
   cases h
   exact RetAt.k
  ·refine Tri.skip ?_
   refine Tri.sg [0,3,7] [3] (allT_ok 1) ?_
   refine Tri.seqS ?_
   refine Tri.segL [3,7,20,21,22] [3] ⟨[(3,.c (.ptr 3 0)),(7,.c (.zero)),(20,cD (lD 6 encUpdate p0)),(21,cD (dI (p0.length:Int))),(22,cD (dI 0))],[(3,.box (cTime p1))]⟩ _ (by kernel_rfl) (allT_ok 3) ?_
   refine Tri.ln 20 p0.length fun hlena5 => ?_
   refine Tri.newOwn (t:=7) (k:=1007) (es:=2) (fun i=>encCount (([]:List Count).getD i default)) rfl rfl rfl ?_
   refine Tri.rK 22 ([]:List Count) (fun (x:Empty) s=>False) (fun (a5:List Count)=>⟨[(3,.c (.ptr 3 0)),(7,.c (oC 1007 2 a5)),(20,cD (lD 6 encUpdate p0)),(21,cD (dI (p0.length:Int)))],[(3,.box (cTime p1)),(1007,vL 2 encCount a5)]⟩) [22,3,7,20,21] [3,1007] [23,22,3,7,20,21] [3,1007] [3,7,20,21] [3,1007] [22,3,7,20,21] [3,1007] h hlena5 ?_ ?_ ?_
   ·intro i4 a5 c hii4 h
    refine Tri.sg [3,7,9,20,21,22] [3,9,1007] (ai (show ((0:Int)≤((i4:Nat):Int)∧((i4:Nat):Int) < (p0.length:Int)) from ⟨by omega,by omega⟩) (allT_ok 3)) ?_
    refine Tri.seqS ?_
    refine Tri.reg ?_
    refine At.sg 3 [3,7,9,20,21,22,27,28] [3,9,1007] (allT_ok 3) ?_
    obtain ⟨r8,hr8,h⟩:=bind_elim h
    refine At.cA [] [.agg [.d (dU ((p0.getD i4 default).time.epoch)),.d (dU ((p0.getD i4 default).time.loop.1)),.d (dU ((p0.getD i4 default).time.loop.2))],.agg (cTime p1)] (moment_Ahead_ok hr8) (.cons (.refl _) (.cons (.refl _) .nil)) ?_
    refine At.done rfl ?_
    refine Tri.condK h (fun h => ?_) (fun h => ?_)
    ·refine Tri.reg ?_
     refine At.seg 6 [3,20,21,22,30,35] [3,1007] (s':=⟨[(3,.c (.ptr 3 0)),(20,cD (lD 6 encUpdate p0)),(21,cD (dI (p0.length:Int))),(22,cD (dI ((i4:Nat):Int))),(30,.c (oC 1007 2 a5)),(35,.agg [.d (lD 3 encValue ((p0.getD i4 default).row)),.d (dI ((p0.getD i4 default).diff))])],[(3,.box (cTime p1)),(1007,vL 2 encCount a5)]⟩) (by kernel_rfl) (allT_ok 6) ?_
     refine At.one rfl (One.buildSlice (z:=[.zero,.d (dI 0)]) (cells:=[.d (lD 3 encValue ((p0.getD i4 default).row)),.d (dI ((p0.getD i4 default).diff))]) (xs:=List.map (encCount) ([(⟨(p0.getD i4 default).row,(p0.getD i4 default).diff⟩:Count)]:List Count)) rfl rfl rfl rfl (by kernel_rfl) rfl rfl (by kernel_rfl) rfl rfl rfl (by kernel_rfl) rfl ⟨⟨rfl,.refl _⟩,trivial⟩) ?_
     refine At.le [36] (fun k hk h=>by first | (cases h; done) | (simp at hk h; omega)) ⟨[(36,cD (lD 2 encCount ([(⟨(p0.getD i4 default).row,(p0.getD i4 default).diff⟩:Count)]:List Count))),(3,.c (.ptr 3 0)),(20,cD (lD 6 encUpdate p0)),(21,cD (dI (p0.length:Int))),(22,cD (dI ((i4:Nat):Int))),(30,.c (oC 1007 2 a5)),(35,.agg [.d (lD 3 encValue ((p0.getD i4 default).row)),.d (dI ((p0.getD i4 default).diff))])],[(3,.box (cTime p1)),(1007,vL 2 encCount a5)]⟩ ⟨⟨_,rfl,.c (.own rfl (List.mem_singleton.2 rfl) (Nat.le_of_ble_eq_true rfl) rfl (encs_getD (encCount) ([(⟨(p0.getD i4 default).row,(p0.getD i4 default).diff⟩:Count)]:List Count)))⟩,⟨_,rfl,.refl _⟩,⟨_,rfl,.refl _⟩,⟨_,rfl,.refl _⟩,⟨_,rfl,.refl _⟩,⟨_,rfl,.refl _⟩,⟨_,rfl,.refl _⟩,trivial⟩ ⟨⟨_,rfl,.refl _,(by simp)⟩,⟨_,rfl,.refl _,(by simp)⟩,trivial⟩ ?_
     obtain ⟨hc9,h⟩:=need_elim h
     refine At.one rfl (One.appendT (e:=95) (es:=2) (encCount) a5 ([(⟨(p0.getD i4 default).row,(p0.getD i4 default).diff⟩:Count)]:List Count) rfl rfl rfl rfl rfl (.of 95 32 [.zero,.d (dI 0)] (by kernel_rfl) (by kernel_rfl) (by kernel_rfl) (by kernel_rfl) rfl (by kernel_rfl) rfl) rfl rfl rfl (.list rfl (fun _ _=>rfl)) hc9) ?_
     refine At.sg 1 [22,3,7,20,21] [3,1007] (allT_ok 1) ?_
     refine At.done rfl ?_
     cases h
     exact kr
    ·refine Tri.kp [22,3,7,20,21] [3,1007] ?_
     refine Tri.skip ?_
     cases h
     exact kr
   ·intro a6 h
    refine Tri.seqS ?_
    refine Tri.reg ?_
    refine At.sg 1 [39] [1007] (allT_ok 1) ?_
    obtain ⟨r7,hr7,h⟩:=bind_elim h
    refine At.cL 0 [] [.c (oC 1007 2 a6)] [(5000,1007)] [] [] (diff_added_w_ok hr7) (.ren rfl rfl .nil) ?_
    refine At.sg 4 [4,5] [] (allT_ok 4) ?_
    refine At.done rfl ?_
    refine Tri.ret ?_
    cases h
    exact RetAt.k
   · exact fun x=>x.elim
set_option maxRecDepth 100000 in
theorem freshetref05_SameCounts_ok {p0:List Count} {p1:List Count} {q:Bool} (h:freshetref05_SameCounts p0 p1=some q) :
    Summ Tryz.prog 32 [cD (lD 2 encCount p0),cD (lD 2 encCount p1)] [] (cD (.bool q)) []:=by
  refine Summ.intro Tryz.func32 rfl (by kernel_rfl) (by kernel_rfl) [] rfl ?_
  rintro ⟨P,w0,G0,V,LL,lk,N, φ0,fx⟩ rfl rfl rfl rfl
  unfold freshetref05_SameCounts at h
  refine Tri.sg [0,1] [] (allT_ok 1) ?_
  refine Tri.seqS ?_
  refine Tri.sg [0,1,10] [] (allT_ok 5) ?_
  refine Tri.condK h (fun h => ?_) (fun h => ?_)
  ·refine Tri.sg [4] [] (allT_ok 1) ?_
   refine Tri.ret ?_
   cases h
   exact RetAt.k
  ·refine Tri.skip ?_
   refine Tri.seqS ?_
   refine Tri.sg [0,1,12,13] [] (allT_ok 3) ?_
   refine Tri.ln 0 p0.length fun hlena2 => ?_
   refine Tri.rK 13 () (fun (x:Bool) s=>RetAt Tryz.prog Tryz.f32 (cD (.bool x)) [] s) (fun (a2:Unit)=>⟨[(0,cD (lD 2 encCount p0)),(1,cD (lD 2 encCount p1)),(12,cD (dI (p0.length:Int)))],[]⟩) [13,0,1,12] [] [14,13,0,1,12] [] [0,1,12] [] [13,0,1,12] [] h hlena2 ?_ ?_ ?_
   ·intro i1 a2 c hii1 h
    refine Tri.segL [0,1,5,12,13] [] ⟨[(0,cD (lD 2 encCount p0)),(1,cD (lD 2 encCount p1)),(5,cD (dI ((i1:Nat):Int))),(12,cD (dI (p0.length:Int))),(13,cD (dI ((i1:Nat):Int)))],[]⟩ _ (by kernel_rfl) (allT_ok 2) ?_
    refine Tri.seqJ (fun (a4:Bool)=>⟨[(0,cD (lD 2 encCount p0)),(1,cD (lD 2 encCount p1)),(12,cD (dI (p0.length:Int))),(13,cD (dI ((i1:Nat):Int))),(40,cD (.bool a4))],[]⟩) h (fun a4 h => ?_) (fun j5 h => ?_)
    ·refine Tri.condK h (fun h => ?_) (fun h => ?_)
     ·refine Tri.sg [4] [] (allT_ok 1) ?_
      refine Tri.ret ?_
      cases h
      exact RetAt.k
     ·refine Tri.kp [13,0,1,12] [] ?_
      refine Tri.skip ?_
      cases h
      exact kr
    ·obtain ⟨hc6,h⟩:=need_elim h
     obtain ⟨r7,hr7,h⟩:=bind_elim h
     rcases bf_cases h with ⟨hp8,h⟩ | ⟨hp8,h⟩
     ·refine Tri.dC [.a [0] [],.a [5] [],.a [16,17] [],.a [18] [],.a [19] [],.a [1] [],.a [5] [],.a [21,22] [],.a [23] [],.a [24] [],.m ⟨[(20,cD (lD 3 encValue ((p0.getD i1 default).row))),(25,cD (lD 3 encValue ((p1.getD i1 default).row)))],[]⟩ ⟨[(26,cD (.bool r7))],[]⟩ [] [] [],.a [26] [],.m ⟨[(27,cD (.bool (!r7)))],[]⟩ ⟨[(28,.c (.d (.bool true)))],[]⟩ [] [] [],.a [0,28] [],.a [5,28] [],.a [28,29,30] [],.a [28,31] [],.a [28,32] [],.a [1,28] [],.a [5,28] [],.a [28,34,35] [],.a [28,36] [],.a [28,37] [],.a [28,33,38] [],.a [28,39] []] [0,1,12,13,40] [] (tN 2 (ai (show ((0:Int)≤((i1:Nat):Int)∧((i1:Nat):Int) < (p0.length:Int)) from ⟨by omega,by omega⟩) (tN 4 (ai hc6 (allT_ok 4))))) (.a (.a (.a (.a (.a (.a (.a (.a (.a (.a (.m ?_ (.a (.m ?_ (.a (.a (.a (.a (.a (.a (.a (.a (.a (.a (.a (.a .z))))))))))))))))))))))))) ?_
      · exact DOk.cA [] [cD (lD 3 encValue ((p0.getD i1 default).row)),cD (lD 3 encValue ((p1.getD i1 default).row))] (freshetref03_Same_ok hr7) fun r=>(.cons (.refl _) (.cons (.refl _) .nil))
      · exact DOk.stepP (fun b => .val (.c (.d (.bool b))) (True)) (p:=(!r7)) hp8 (fun r=>by kernel_rfl) (fun r=>by kernel_rfl) trivial (by kernel_rfl) (by kernel_rfl) (fun r=>rfl)
      exact ⟨_,h,kr⟩
     ·obtain ⟨hc9,h⟩:=need_elim h
      refine Tri.dC [.a [0] [],.a [5] [],.a [16,17] [],.a [18] [],.a [19] [],.a [1] [],.a [5] [],.a [21,22] [],.a [23] [],.a [24] [],.m ⟨[(20,cD (lD 3 encValue ((p0.getD i1 default).row))),(25,cD (lD 3 encValue ((p1.getD i1 default).row)))],[]⟩ ⟨[(26,cD (.bool r7))],[]⟩ [] [] [],.a [26] [],.m ⟨[(27,cD (.bool (!r7)))],[]⟩ ⟨[(28,.c (.d (.bool false)))],[]⟩ [] [] [],.a [0,28] [],.a [5,28] [],.a [28,29,30] [],.a [28,31] [],.a [28,32] [],.a [1,28] [],.a [5,28] [],.a [28,34,35] [],.a [28,36] [],.a [28,37] [],.a [28,33,38] [],.a [28,39] []] [0,1,12,13,40] [] (tN 2 (ai (show ((0:Int)≤((i1:Nat):Int)∧((i1:Nat):Int) < (p0.length:Int)) from ⟨by omega,by omega⟩) (tN 4 (ai hc6 (tN 5 (ai (show ((0:Int)≤((i1:Nat):Int)∧((i1:Nat):Int) < (p0.length:Int)) from ⟨by omega,by omega⟩) (tN 4 (ai hc9 (allT_ok 4))))))))) (.a (.a (.a (.a (.a (.a (.a (.a (.a (.a (.m ?_ (.a (.m ?_ (.a (.a (.a (.a (.a (.a (.a (.a (.a (.a (.a (.a .z))))))))))))))))))))))))) ?_
      · exact DOk.cA [] [cD (lD 3 encValue ((p0.getD i1 default).row)),cD (lD 3 encValue ((p1.getD i1 default).row))] (freshetref03_Same_ok hr7) fun r=>(.cons (.refl _) (.cons (.refl _) .nil))
      · exact DOk.stepP (fun b => .val (.c (.d (.bool b))) (True)) (p:=(!r7)) hp8 (fun r=>by kernel_rfl) (fun r=>by kernel_rfl) trivial (by kernel_rfl) (by kernel_rfl) (fun r=>rfl)
      exact ⟨_,h,kr⟩
   ·intro a3 h
    refine Tri.sg [4] [] (allT_ok 1) ?_
    refine Tri.ret ?_
    cases h
    exact RetAt.k
   · exact fun x s hx hr=>by cases hx; exact hr
set_option maxRecDepth 100000 in
theorem freshetlaw06_BatchThere_ok {fuel:Nat} {p0:List Time} {p1:List Update} {p2:Time} {q:Bool} (h:freshetlaw06_BatchThere fuel p0 p1 p2=some q) :
    Summ Tryz.prog 8 [cD (lD 3 encTime p0),cD (lD 6 encUpdate p1),.agg (cTime p2)] [] (cD (.bool q)) []:=by
  refine Summ.intro Tryz.func8 rfl (by kernel_rfl) (by kernel_rfl) [] rfl ?_
  rintro ⟨P,w0,G0,V,LL,lk,N, φ0,fx⟩ rfl rfl rfl rfl
  unfold freshetlaw06_BatchThere at h
  refine Tri.sg [0,1,5] [5] (allT_ok 2) ?_
  refine Tri.seqS ?_
  refine Tri.seqS ?_
  refine Tri.reg ?_
  obtain ⟨r1,hr1,h⟩:=bind_elim h
  refine At.cA [] [] (freshetlaw06_lives_ok hr1) .nil ?_
  refine At.sg 1 [0,1,5,14] [5] (allT_ok 1) ?_
  refine At.done rfl ?_
  refine Tri.condK h (fun h => ?_) (fun h => ?_)
  ·refine Tri.sg [6] [] (allT_ok 1) ?_
   refine Tri.ret ?_
   cases h
   exact RetAt.k
  ·refine Tri.skip ?_
   refine Tri.seqS ?_
   refine Tri.reg ?_
   refine At.seg 2 [0,1,5,16,17] [5] (s':=⟨[(0,cD (lD 3 encTime p0)),(1,cD (lD 6 encUpdate p1)),(5,.c (.ptr 5 0)),(16,cD (lD 3 encTime p0)),(17,cD (lD 6 encUpdate p1))],[(5,.box (cTime p2))]⟩) (by kernel_rfl) (allT_ok 2) ?_
   refine At.one rfl (One.buildSlice (z:=[.zero]) (cells:=[.d (lD 6 encUpdate p1)]) (xs:=List.map ((fun xs=>[encL 6 encUpdate xs])) ([p1]:List (List Update))) rfl rfl rfl rfl (by kernel_rfl) rfl rfl (by kernel_rfl) rfl rfl rfl (by kernel_rfl) rfl ⟨⟨rfl,.refl _⟩,trivial⟩) ?_
   refine At.le [18] (fun k hk h=>by first | (cases h; done) | (simp at hk h; omega)) ⟨[(18,cD (lD 1 (fun xs=>[encL 6 encUpdate xs]) ([p1]:List (List Update)))),(0,cD (lD 3 encTime p0)),(1,cD (lD 6 encUpdate p1)),(5,.c (.ptr 5 0)),(16,cD (lD 3 encTime p0)),(17,cD (lD 6 encUpdate p1))],[(5,.box (cTime p2))]⟩ ⟨⟨_,rfl,.c (.own rfl (List.mem_singleton.2 rfl) (Nat.le_of_ble_eq_true rfl) rfl (encs_getD ((fun xs=>[encL 6 encUpdate xs])) ([p1]:List (List Update))))⟩,⟨_,rfl,.refl _⟩,⟨_,rfl,.refl _⟩,⟨_,rfl,.refl _⟩,⟨_,rfl,.refl _⟩,⟨_,rfl,.refl _⟩,trivial⟩ ⟨⟨_,rfl,.refl _,(by simp)⟩,trivial⟩ ?_
   obtain ⟨r2,hr2,h⟩:=bind_elim h
   refine At.cA [] [cD (lD 3 encTime p0),cD (lD 1 (fun xs=>[encL 6 encUpdate xs]) ([p1]:List (List Update)))] (batch_Build_ok hr2) (.cons (.refl _) (.cons (.refl _) .nil)) ?_
   refine At.sg 6 [0,1,5,7,8] [5,7] (allT_ok 6) ?_
   refine At.done rfl ?_
   refine Tri.seqS ?_
   refine Tri.sg [0,1,5,7,23] [5,7] (allT_ok 2) ?_
   refine Tri.condK h (fun h => ?_) (fun h => ?_)
   ·refine Tri.sg [6] [] (allT_ok 5) ?_
    refine Tri.ret ?_
    cases h
    exact RetAt.k
   ·refine Tri.skip ?_
    refine Tri.seqS ?_
    refine Tri.seqJ (fun (a3:Bool)=>⟨[(1,cD (lD 6 encUpdate p1)),(5,.c (.ptr 5 0)),(7,.c (.ptr 7 0)),(36,cD (.bool a3))],[(5,.box (cTime p2)),(7,.box (cBatch r2.1))]⟩) h (fun a3 h => ?_) (fun j4 h => ?_)
    ·refine Tri.condK h (fun h => ?_) (fun h => ?_)
     ·refine Tri.seqS ?_
      refine Tri.reg ?_
      refine At.sg 1 [37] [] (allT_ok 1) ?_
      obtain ⟨r5,hr5,h⟩:=bind_elim h
      refine At.cA [] [.agg (cBatch r2.1)] (batch_Check_ok hr5) (.cons (.refl _) .nil) ?_
      refine At.sg 2 [6] [] (allT_ok 2) ?_
      refine At.done rfl ?_
      refine Tri.ret ?_
      cases h
      exact RetAt.k
     ·refine Tri.skip ?_
      refine Tri.seqS ?_
      refine Tri.reg ?_
      refine At.sg 2 [5,7,41,42] [5,7] (allT_ok 2) ?_
      obtain ⟨r6,hr6,h⟩:=bind_elim h
      refine At.cA [] [cD (lD 6 encUpdate p1),.agg (cTime p2)] (diff_At_ok hr6) (.cons (.refl _) (.cons (.refl _) .nil)) ?_
      refine At.sg 5 [5,7,9,10] [5,7] (allT_ok 5) ?_
      refine At.done rfl ?_
      refine Tri.seqS ?_
      refine Tri.reg ?_
      refine At.sg 3 [7,9,10,48,49] [7] (allT_ok 3) ?_
      obtain ⟨r7,hr7,h⟩:=bind_elim h
      refine At.cA [] [cD (lD 6 encUpdate r2.1.updates),.agg (cTime p2)] (diff_At_ok hr7) (.cons (.refl _) (.cons (.refl _) .nil)) ?_
      refine At.sg 5 [7,9,10,11,12] [7] (allT_ok 5) ?_
      refine At.done rfl ?_
      refine Tri.seqJ (fun (a8:Bool)=>⟨[(6,cD (.bool a8))],[]⟩) h (fun a8 h => ?_) (fun j9 h => ?_)
      ·refine Tri.ret ?_
       cases h
       exact RetAt.k
      ·refine Tri.reg ?_
       refine At.sg 4 [7,9,11,56] [7] (allT_ok 4) ?_
       refine At.cs [56] h (fun h => ?_) (fun h => ?_)
       ·refine At.sg 2 [7,56,57,58] [7] (allT_ok 2) ?_
        obtain ⟨r10,hr10,h⟩:=bind_elim h
        refine At.cA [] [cD (lD 2 encCount r6.1),cD (lD 2 encCount r7.1)] (freshetref05_SameCounts_ok hr10) (.cons (.refl _) (.cons (.refl _) .nil)) ?_
        refine At.sg 2 [7,61] [7] (allT_ok 2) ?_
        refine At.cs [61] h (fun h => ?_) (fun h => ?_)
        ·refine At.sg 1 [61,62] [] (allT_ok 1) ?_
         obtain ⟨r11,hr11,h⟩:=bind_elim h
         refine At.cA [] [.agg (cBatch r2.1)] (batch_Check_ok hr11) (.cons (.refl _) .nil) ?_
         refine At.sg 3 [6] [] (allT_ok 3) ?_
         refine At.done rfl ?_
         exact ⟨_,h,kr⟩
        ·refine At.sg 5 [6] [] (allT_ok 2) ?_
         refine At.done rfl ?_
         exact ⟨_,h,kr⟩
       ·refine At.sg 10 [6] [] (allT_ok 4) ?_
        refine At.done rfl ?_
        exact ⟨_,h,kr⟩
    ·refine Tri.reg ?_
     refine At.sg 4 [0,1,5,7,31] [5,7] (allT_ok 4) ?_
     refine At.cs [31] h (fun h => ?_) (fun h => ?_)
     ·refine At.sg 2 [1,5,7,31,32,33] [5,7] (allT_ok 2) ?_
      obtain ⟨r12,hr12,h⟩:=bind_elim h
      refine At.cA [] [cD (lD 3 encTime p0),.agg (cTime p2)] (moment_Beyond_ok hr12) (.cons (.refl _) (.cons (.refl _) .nil)) ?_
      refine At.sg 2 [1,5,7,36] [5,7] (allT_ok 2) ?_
      refine At.done rfl ?_
      exact ⟨_,h,kr⟩
     ·refine At.sg 5 [1,5,7,36] [5,7] (allT_ok 1) ?_
      refine At.done rfl ?_
      exact ⟨_,h,kr⟩
end Go.Av
namespace Go.Av
open Go Go.Proofs
set_option linter.unusedVariables false
set_option linter.unusedSimpArgs false
def okTime (x:Time):Prop:=(okInt .u64) x.epoch∧(fun p=>(okInt .u64) p.1∧(okInt .u64) p.2) x.loop∧True
def bulkTime (x:Time):Nat:=((fun _=>1) x.epoch + ((fun p=>(fun _=>1) p.1 + (fun _=>1) p.2 + 1) x.loop + 0)) + 1
def okValue (x:Value):Prop:=(fun _=>True) x.isText∧(okInt .i64) x.n∧(fun s=>s.size≤maxN) x.s∧True
def bulkValue (x:Value):Nat:=((fun _=>1) x.isText + ((fun _=>1) x.n + ((fun s=>s.size + 1) x.s + 0))) + 1
def okUpdate (x:Update):Prop:=(fun xs=>xs.length≤maxN∧∀ x ∈ xs,(okValue) x) x.key∧(fun xs=>xs.length≤maxN∧∀ x ∈ xs,(okValue) x) x.row∧(okTime) x.time∧(okInt .i64) x.diff∧True
def bulkUpdate (x:Update):Nat:=((fun xs=>(xs.map (bulkValue)).sum + 1) x.key + ((fun xs=>(xs.map (bulkValue)).sum + 1) x.row + ((bulkTime) x.time + ((fun _=>1) x.diff + 0)))) + 1
def okWide (x:Wide):Prop:=(okInt .i64) x.high∧(okInt .u64) x.low∧True
theorem readsTime {H:Type} {enc:TypeId × Go.Value→H} {W:World} {Z:TypeId→DataW H→Prop} {B:DataW H→Nat} (hZ:Fine Tryz.prog Z) (hB:BulkOk B):Reads enc Tryz.prog W Z B 54 encTime okTime bulkTime:=fun n=>by
 have h:=ReadsAt.struct (n:=n) (enc:=enc) (W:=W) (tot:=3) hZ hB Tryz.underlying54 (by kernel_rfl) (fun m _=>(ReadsF.cons (k:=1) (ReadsAt.int hB Tryz.underlying51) rfl (by kernel_rfl) (ReadsF.cons (k:=2) (ReadsAt.pair hZ hB Tryz.underlying52 (k:=1) (by kernel_rfl) (by kernel_rfl) (fun m _=>(ReadsAt.int hB Tryz.underlying51))) rfl (by kernel_rfl) (ReadsF.nil (off:=3)))))
 exact h.map (fun (p:Int × (Int × Int) × Unit)=>(⟨p.1,p.2.1⟩:Time)) (fun _ _=>rfl) (fun _ h=>h) (fun _ _=>Nat.le_refl _)
theorem readsValue {H:Type} {enc:TypeId × Go.Value→H} {W:World} {Z:TypeId→DataW H→Prop} {B:DataW H→Nat} (hZ:Fine Tryz.prog Z) (hB:BulkOk B):Reads enc Tryz.prog W Z B 58 encValue okValue bulkValue:=fun n=>by
 have h:=ReadsAt.struct (n:=n) (enc:=enc) (W:=W) (tot:=3) hZ hB Tryz.underlying58 (by kernel_rfl) (fun m _=>(ReadsF.cons (k:=1) (ReadsAt.bool hB Tryz.underlying4) rfl (by kernel_rfl) (ReadsF.cons (k:=1) (ReadsAt.int hB Tryz.underlying2) rfl (by kernel_rfl) (ReadsF.cons (k:=1) (ReadsAt.string hZ hB Tryz.underlying9) rfl (by kernel_rfl) (ReadsF.nil (off:=3))))))
 exact h.map (fun (p:Bool × Int × ByteArray × Unit)=>(⟨p.1,p.2.1,p.2.2.1⟩:Value)) (fun _ _=>rfl) (fun _ h=>h) (fun _ _=>Nat.le_refl _)
theorem readsUpdate {H:Type} {enc:TypeId × Go.Value→H} {W:World} {Z:TypeId→DataW H→Prop} {B:DataW H→Nat} (hZ:Fine Tryz.prog Z) (hB:BulkOk B):Reads enc Tryz.prog W Z B 56 encUpdate okUpdate bulkUpdate:=fun n=>by
 have h:=ReadsAt.struct (n:=n) (enc:=enc) (W:=W) (tot:=6) hZ hB Tryz.underlying56 (by kernel_rfl) (fun m _=>(ReadsF.cons (k:=1) (ReadsAt.slice (es:=3) (e:=encValue) (ok:=okValue) (bulk:=bulkValue) hZ hB Tryz.underlying50 (by kernel_rfl) (by kernel_rfl) rfl (fun _ _=>rfl) (fun m _=>(readsValue hZ hB m))) rfl (by kernel_rfl) (ReadsF.cons (k:=1) (ReadsAt.slice (es:=3) (e:=encValue) (ok:=okValue) (bulk:=bulkValue) hZ hB Tryz.underlying50 (by kernel_rfl) (by kernel_rfl) rfl (fun _ _=>rfl) (fun m _=>(readsValue hZ hB m))) rfl (by kernel_rfl) (ReadsF.cons (k:=3) (readsTime hZ hB m) rfl (by kernel_rfl) (ReadsF.cons (k:=1) (ReadsAt.int hB Tryz.underlying2) rfl (by kernel_rfl) (ReadsF.nil (off:=6)))))))
 exact h.map (fun (p:(List Value) × (List Value) × Time × Int × Unit)=>(⟨p.1,p.2.1,p.2.2.1,p.2.2.2.1⟩:Update)) (fun _ _=>rfl) (fun _ h=>h) (fun _ _=>Nat.le_refl _)
end Go.Av
/-
 Av,part V: of loops,without any program.
-/
namespace Go.Av
set_option linter.unusedVariables false
set_option linter.unusedSimpArgs false
section
variable {S R Q A X:Type}
theorem rangeN_inv {B : Nat → S → Option (Ctl S R)} {n : Nat} (I : Nat → S → Prop) {s : S} (h0 : I 0 s) (hs : ∀ i s, i < n → I i s → ∃ s', B i s = some (.next s') ∧ I (i + 1) s') :
    ∃ s', rangeN B n 0 s = some (.done s') ∧ I n s' := by
  have key : ∀ k i s, i + k = n → I i s → ∃ s', rangeN B k i s = some (.done s') ∧ I n s' := by
    intro k
    induction k with
    | zero => intro i s hi h; exact ⟨s, rfl, by have : i = n := by omega
                                                subst this; exact h⟩
    | succ k ih =>
      intro i s hi h
      obtain ⟨s', h1, h2⟩ := hs i s (by omega) h
      obtain ⟨s2, h3, h4⟩ := ih (i + 1) s' (by omega) h2
      exact ⟨s2, by simp only [rangeN, h1, h3], h4⟩
  exact key n 0 s (by omega) h0
theorem rangeN_to {B:Nat→S→Option (Ctl S R)} {n:Nat} {s:S} (r:S) (I:Nat→S→Prop) (hr:∀ s,I n s→s=r) (hs:∀ i s,i < n→I i s→∃ s',B i s=some (.next s')∧I (i + 1) s') (h0:I 0 s) :
  rangeN B n 0 s=some (.done r):=by
 obtain ⟨s',h1,h2⟩:=rangeN_inv I h0 hs
 rw [h1,hr s' h2]
theorem rangeN_inv' {B : Nat → S → Option (Ctl S R)} {n : Nat} (I : Nat → S → Prop) (D : S → Prop) (J : R → Prop) {s : S} (h0 : I 0 s)
    (hs : ∀ i s, i < n → I i s → (∃ s', B i s = some (.next s') ∧ I (i + 1) s') ∨ (∃ s', B i s = some (.brk s') ∧ D s') ∨ ∃ r, B i s = some (.ret r) ∧ J r) (hD : ∀ s, I n s → D s) :
    (∃ s', rangeN B n 0 s = some (.done s') ∧ D s') ∨ ∃ r, rangeN B n 0 s = some (.ret r) ∧ J r := by
  have key : ∀ k i s, i + k = n → I i s → (∃ s', rangeN B k i s = some (.done s') ∧ D s') ∨ ∃ r, rangeN B k i s = some (.ret r) ∧ J r := by
    intro k
    induction k with
    | zero => intro i s hi h; exact .inl ⟨s, rfl, by have : i = n := by omega
                                                     subst this; exact hD s h⟩
    | succ k ih =>
      intro i s hi h
      rcases hs i s (by omega) h with ⟨s', h1, h2⟩ | ⟨s', h1, h2⟩ | ⟨r, h1, h2⟩
      · rcases ih (i + 1) s' (by omega) h2 with ⟨s2, h3, h4⟩ | ⟨r, h3, h4⟩
        · exact .inl ⟨s2, by simp only [rangeN, h1, h3], h4⟩
        · exact .inr ⟨r, by simp only [rangeN, h1, h3], h4⟩
      · exact .inl ⟨s', by simp only [rangeN, h1], h2⟩
      · exact .inr ⟨r, by simp only [rangeN, h1], h2⟩
  exact key n 0 s (by omega) h0
theorem take_succ_getD [Inhabited X] {l:List X} {i:Nat} (h:i < l.length):l.take (i + 1)=l.take i++[l.getD i default]:=by
 rw [List.take_add_one,List.getElem?_eq_getElem h,List.getD_eq_getElem?_getD,List.getElem?_eq_getElem h]
 rfl
theorem getD_mem' [Inhabited X] {l:List X} {i:Nat} (h:i < l.length):l.getD i default ∈ l:=by
 rw [List.getD_eq_getElem?_getD,List.getElem?_eq_getElem h]
 exact List.getElem_mem h
@[simp] theorem outK_done {s:S} {kn:S→Option Q} {kr:R→Option Q}:outK (some (.done s)) kn kr=kn s:=rfl
@[simp] theorem outK_ret {r:R} {kn:S→Option Q} {kr:R→Option Q}:outK (some (.ret r)) kn kr=kr r:=rfl
@[simp] theorem bf_true {x y:Option Q}:bf true x y=x:=rfl
@[simp] theorem bf_false {x y:Option Q}:bf false x y=y:=rfl
theorem need_true {c:Prop} [Decidable c] {k:Option Q} (h:c):need c k=k:=by unfold need; rw [if_pos h]
@[simp] theorem jn_eq {j:A→Option Q} {k:(A→Option Q)→Option Q}:jn j k=k j:=rfl
@[simp] theorem bf_decide {p:Prop} [Decidable p] {x y:Option Q}:bf (decide p) x y=if p then x else y:=by by_cases h:p <;> simp [h,bf]
@[simp] theorem bf_not {b:Bool} {x y:Option Q}:bf (!b) x y=bf b y x:=by cases b <;> rfl
end
end Go.Av
/-
 Orders,as comparisons with three answers: without any program.
-/
namespace Go.Av
open Go
set_option linter.unusedVariables false
set_option linter.unusedSimpArgs false
structure IsCmp {α:Type} (c : α → α → Int):Prop where
 vals:∀ a b,c a b = -1∨c a b=0∨c a b=1
 anti:∀ a b,c b a = - c a b
 tr:∀ a b d,c a b≤0→c b d≤0→c a d≤0
namespace IsCmp
variable {α β:Type} {c : α → α → Int}
theorem refl (h:IsCmp c) (a : α):c a a=0:=by have:=h.anti a a; omega
theorem lt_tr (h:IsCmp c) {a b d : α} (h1:c a b < 0) (h2:c b d≤0):c a d < 0:=by
 have:=h.tr a b d (by omega) h2
 rcases h.vals a d with g | g | g
 ·omega
 ·have g1:=h.anti a d
  have g2:=h.tr b d a h2 (by omega)
  have g3:=h.anti a b
  omega
 ·omega
theorem eqL (h:IsCmp c) {a b : α} (d : α) (h1:c a b=0):c a d=c b d:=by
 have h2:=h.anti a b
 have t1:=h.tr a b d (by omega)
 have t2:=h.tr b a d (by omega)
 have t3:=h.tr d a b
 have t4:=h.tr d b a
 have a1:=h.anti a d
 have a2:=h.anti b d
 rcases h.vals a d with g | g | g <;> rcases h.vals b d with k | k | k <;> omega
theorem eqR (h:IsCmp c) {a b : α} (d : α) (h1:c a b=0):c d a=c d b:=by
 have:=h.eqL d h1
 have a1:=h.anti a d
 have a2:=h.anti b d
 omega
theorem symm0 (h:IsCmp c) {a b : α} (h1:c a b=0):c b a=0:=by have:=h.anti a b; omega
theorem on (h:IsCmp c) (f : β → α):IsCmp fun x y=>c (f x) (f y):=⟨fun a b=>h.vals _ _,fun a b=>h.anti _ _,fun a b d=>h.tr _ _ _⟩
end IsCmp
def cmpZ (a b:Int):Int:=if a < b then -1 else if b < a then 1 else 0
theorem cmpZ_is:IsCmp cmpZ where
 vals a b:=by unfold cmpZ; split <;> (try split) <;> simp
 anti a b:=by unfold cmpZ; split <;> (try split) <;> (try split) <;> (try split) <;> omega
 tr a b d:=by unfold cmpZ; split <;> (try split) <;> (try split) <;> (try split) <;> (try split) <;> (try split) <;> omega
theorem cmpZ_zero {a b:Int}:cmpZ a b=0↔a=b:=by unfold cmpZ; split <;> (try split) <;> omega
def thenC (u v:Int):Int:=if u=0 then v else u
theorem IsCmp.lex {α:Type} {c d : α → α → Int} (hc:IsCmp c) (hd:IsCmp d):IsCmp fun a b=>thenC (c a b) (d a b) where
 vals a b:=by
  unfold thenC
  split
  ·exact hd.vals a b
  ·exact hc.vals a b
 anti a b:=by
  have h1:=hc.anti a b
  have h2:=hd.anti a b
  unfold thenC
  split <;> split <;> omega
 tr a b e h1 h2:=by
  unfold thenC at *
  by_cases g1:c a b=0 <;> by_cases g2:c b e=0
  ·have:=hc.eqL e g1
   rw [if_pos g1] at h1; rw [if_pos g2] at h2; rw [if_pos (by omega)]
   exact hd.tr a b e h1 h2
  ·have:=hc.eqL e g1
   rw [if_neg g2] at h2; rw [if_neg (by omega)]; omega
  ·have:=hc.eqR a g2
   rw [if_neg g1] at h1; rw [if_neg (by omega)]; omega
  ·rw [if_neg g1] at h1; rw [if_neg g2] at h2
   have:=hc.lt_tr (a:=a) (b:=b) (d:=e) (by omega) h2
   rw [if_neg (by omega)]; omega
def cmpL {α:Type} (c : α → α → Int):List α → List α → Int
 | [],[]=>0
 | [],_ :: _ => -1
 | _ :: _,[]=>1
 | a :: x,b :: y=>thenC (c a b) (cmpL c x y)
theorem IsCmp.list {α:Type} {c : α → α → Int} (h:IsCmp c):IsCmp (cmpL c) where
 vals:=by
  intro a
  induction a with
  | nil=>intro b; cases b <;> simp [cmpL]
  | cons x a ih =>
   intro b
   cases b with
   | nil=>simp [cmpL]
   | cons y b =>
    simp only [cmpL,thenC]
    split
    ·exact ih b
    ·exact h.vals x y
 anti:=by
  intro a
  induction a with
  | nil=>intro b; cases b <;> simp [cmpL]
  | cons x a ih =>
   intro b
   cases b with
   | nil=>simp [cmpL]
   | cons y b =>
    have h1:=h.anti x y
    have h2:=ih b
    simp only [cmpL,thenC]
    split <;> split <;> omega
 tr:=by
  intro a
  induction a with
  | nil=>intro b d _ _; cases d <;> simp [cmpL]
  | cons x a ih =>
   intro b d h1 h2
   cases b with
   | nil=>simp [cmpL] at h1
   | cons y b =>
    cases d with
    | nil=>simp [cmpL] at h2
    | cons z d =>
     simp only [cmpL] at *
     unfold thenC at *
     by_cases g1:c x y=0 <;> by_cases g2:c y z=0
     ·have:=h.eqL z g1
      rw [if_pos g1] at h1; rw [if_pos g2] at h2; rw [if_pos (by omega)]
      exact ih b d h1 h2
     ·have:=h.eqL z g1
      rw [if_neg g2] at h2; rw [if_neg (by omega)]; omega
     ·have:=h.eqR x g2
      rw [if_neg g1] at h1; rw [if_neg (by omega)]; omega
     ·rw [if_neg g1] at h1; rw [if_neg g2] at h2
      have:=h.lt_tr (a:=x) (b:=y) (d:=z) (by omega) h2
      rw [if_neg (by omega)]; omega
def cmpU8 (a b:UInt8):Int:=cmpZ (a.toNat:Int) (b.toNat:Int)
theorem cmpU8_is:IsCmp cmpU8:=cmpZ_is.on fun a:UInt8=>(a.toNat:Int)
theorem bytesLess_cmp:∀ x y:List UInt8,Op.bytesLess x y=decide (cmpL cmpU8 x y < 0)
 | [],[]=>by simp [Op.bytesLess,cmpL]
 | [],_ :: _=>by simp [Op.bytesLess,cmpL]
 | _ :: _,[]=>by simp [Op.bytesLess,cmpL]
 | a :: x,b :: y=>by
  rw [Op.bytesLess,bytesLess_cmp x y,cmpL]
  have e1:(a < b)↔(a.toNat:Int) < (b.toNat:Int):=by rw [UInt8.lt_iff_toNat_lt]; omega
  have e2:(a=b)↔(a.toNat:Int)=(b.toNat:Int):=by rw [← UInt8.toNat_inj]; omega
  unfold cmpU8 thenC cmpZ
  rw [Bool.eq_iff_iff]
  simp only [Bool.or_eq_true,Bool.and_eq_true,decide_eq_true_eq,beq_iff_eq,e1,e2]
  by_cases h1:(a.toNat:Int) < (b.toNat:Int)
  ·simp [h1]
  ·by_cases h2:(b.toNat:Int) < (a.toNat:Int)
   ·simp [h1,h2]; omega
   ·have:(a.toNat:Int)=(b.toNat:Int):=by omega
    simp [this]
theorem bytesEq_cmp:∀ x y:List UInt8,(x == y)=decide (cmpL cmpU8 x y=0)
 | [],[]=>by simp [cmpL]
 | [],_ :: _=>by simp [cmpL]
 | _ :: _,[]=>by simp [cmpL]
 | a :: x,b :: y=>by
  rw [List.cons_beq_cons,bytesEq_cmp x y,cmpL]
  have e2:(a=b)↔(a.toNat:Int)=(b.toNat:Int):=by rw [← UInt8.toNat_inj]; omega
  have e3:cmpU8 a b=0↔(a.toNat:Int)=(b.toNat:Int):=cmpZ_zero
  unfold thenC
  rw [Bool.eq_iff_iff]
  simp only [Bool.and_eq_true,decide_eq_true_eq,beq_iff_eq,e2]
  by_cases h:cmpU8 a b=0
  ·rw [if_pos h]; simp [e3.1 h]
  ·rw [if_neg h]
   constructor
   ·rintro ⟨g,_⟩; exact absurd (e3.2 g) h
   ·intro g; exact absurd g h
def cmpS (a b:ByteArray):Int:=cmpL cmpU8 a.toList b.toList
theorem cmpS_is:IsCmp cmpS:=cmpU8_is.list.on fun a:ByteArray=>a.toList
theorem strLt_cmp (a b:ByteArray):strLt a b=decide (cmpS a b < 0):=bytesLess_cmp _ _
theorem strEq_cmp (a b:ByteArray):strEq a b=decide (cmpS a b=0):=bytesEq_cmp _ _
theorem strEq_self (a:ByteArray):strEq a a=true:=by unfold strEq; simp
theorem ba_toList_inj {a b:ByteArray} (h:a.toList=b.toList):a=b:=by
 rw [ByteArray.toList_eq,ByteArray.toList_eq] at h
 cases a; cases b
 simp at h
 simp [h]
theorem strEq_iff {a b:ByteArray}:strEq a b=true↔a=b:=by
 unfold strEq
 rw [beq_iff_eq]
 exact ⟨ba_toList_inj,fun h=>by rw [h]⟩
theorem cmpS_zero {a b:ByteArray}:cmpS a b=0↔a=b:=by
 rw [← strEq_iff,strEq_cmp,decide_eq_true_eq]
theorem drop_cons_getD {α:Type} [Inhabited α] {l:List α} {i:Nat} (h:i < l.length):l.drop i=l.getD i default :: l.drop (i + 1):=by
 rw [List.drop_eq_getElem_cons h,List.getD_eq_getElem?_getD,List.getElem?_eq_getElem h]; rfl
theorem cmpLoop {α:Type} [Inhabited α] {c : α → α → Int} {p0 p1:List α} {B:Nat→Unit→Option (Ctl Unit Int)} {kn:Unit→Option Int}
  (hB:∀ i,i < p0.length→B i ()=if p1.length≤i then some (.ret 1) else if c (p0.getD i default) (p1.getD i default)=0 then some (.next ()) else some (.ret (c (p0.getD i default) (p1.getD i default))))
  (hk:kn ()=some (if p0.length < p1.length then -1 else 0)):outK (rangeN B p0.length 0 ()) kn (fun x=>some x)=some (cmpL c p0 p1):=by
 have key:∀ k i,i + k=p0.length→i≤p1.length→outK (rangeN B k i ()) kn (fun x=>some x)=some (cmpL c (p0.drop i) (p1.drop i)):=by
  intro k
  induction k with
  | zero =>
   intro i hi hle
   simp only [rangeN,outK_done,hk]
   rw [List.drop_eq_nil_of_le (by omega:p0.length≤i)]
   by_cases h:p0.length < p1.length
   ·rw [if_pos h,drop_cons_getD (by omega:i < p1.length)]; rfl
   ·rw [if_neg h,List.drop_eq_nil_of_le (by omega:p1.length≤i)]; rfl
  | succ k ih =>
   intro i hi hle
   simp only [rangeN,hB i (by omega)]
   rw [drop_cons_getD (by omega:i < p0.length)]
   by_cases h:p1.length≤i
   ·rw [if_pos h,List.drop_eq_nil_of_le (by omega:p1.length≤i)]; rfl
   ·rw [if_neg h,drop_cons_getD (by omega:i < p1.length)]
    simp only [cmpL,thenC]
    by_cases h0:c (p0.getD i default) (p1.getD i default)=0
    ·rw [if_pos h0,if_pos h0]; exact ih (i + 1) (by omega) (by omega)
    ·rw [if_neg h0,if_neg h0]; rfl
 exact key p0.length 0 (by omega) (by omega)
end Go.Av
/-
 Numbers and bits: without any program.
-/
namespace Go.Av
open Go
set_option linter.unusedVariables false
set_option linter.unusedSimpArgs false
theorem wrap_u64 (n:Int):IntKind.u64.wrap n=n % 18446744073709551616:=by simp [IntKind.wrap,IntKind.bits,IntKind.signed]
theorem wrap_i64 (n:Int):IntKind.i64.wrap n=if n % 18446744073709551616 ≥ 9223372036854775808 then n % 18446744073709551616 - 18446744073709551616 else n % 18446744073709551616:=by
 simp [IntKind.wrap,IntKind.bits,IntKind.signed]
def in64 (x:Int):Prop := -9223372036854775808≤x∧x < 9223372036854775808
def inU64 (x:Int):Prop:=0≤x∧x < 18446744073709551616
theorem wrap_i64_in {x:Int} (h:in64 x):IntKind.i64.wrap x=x:=by
 unfold in64 at h
 rw [wrap_i64]
 split <;> omega
theorem shr63 {x:Int} (h:in64 x):shrOp .i64 x 63=if x < 0 then -1 else 0:=by
 unfold in64 at h
 unfold shrOp
 have e:(2:Int) ^ (min (63:Int).toNat IntKind.i64.bits)=9223372036854775808:=by decide
 rw [e,Int.fdiv_eq_ediv_of_nonneg _ (by decide)]
 split <;> omega
theorem shr_nat (k:IntKind) (n m:Nat) (hm:m≤k.bits):shrOp k (n:Int) (m:Int)=((n / 2 ^ m:Nat):Int):=by
 unfold shrOp
 rw [Int.toNat_natCast,Nat.min_eq_left hm,Int.fdiv_eq_ediv_of_nonneg _ (by exact Int.le_of_lt (Int.pow_pos (by decide)))]
 push_cast
 rfl
theorem ofInt_toNat {w:Nat} (n:Nat) (h:n < 2 ^ w):(BitVec.ofInt w (n:Int)).toNat=n:=by
 rw [BitVec.toNat_ofInt]
 have e:((n:Int) % ((2 ^ w:Nat):Int))=(n:Int):=Int.emod_eq_of_lt (by omega) (by exact_mod_cast h)
 rw [e,Int.toNat_natCast]
theorem uwrap {k:IntKind} (hs:k.signed=false) {n:Nat} (h:n < 2 ^ k.bits):k.wrap (n:Int)=(n:Int):=by
 unfold IntKind.wrap
 simp only [hs,Bool.false_and,Bool.false_eq_true,if_false]
 have:((2:Int) ^ k.bits)=((2 ^ k.bits:Nat):Int):=by push_cast; rfl
 rw [this]
 exact Int.emod_eq_of_lt (by omega) (by exact_mod_cast h)
theorem xor_nat {k:IntKind} (hs:k.signed=false) {x y:Nat} (hx:x < 2 ^ k.bits) (hy:y < 2 ^ k.bits):bitsOp .xor k (x:Int) (y:Int)=((x ^^^ y:Nat):Int):=by
 unfold bitsOp
 simp only
 rw [BitVec.toNat_xor,ofInt_toNat x hx,ofInt_toNat y hy,uwrap hs (Nat.xor_lt_two_pow hx hy)]
theorem and_nat {k:IntKind} (hs:k.signed=false) {x y:Nat} (hx:x < 2 ^ k.bits) (hy:y < 2 ^ k.bits):bitsOp .and k (x:Int) (y:Int)=((x &&& y:Nat):Int):=by
 unfold bitsOp
 simp only
 rw [BitVec.toNat_and,ofInt_toNat x hx,ofInt_toNat y hy,uwrap hs (Nat.and_lt_two_pow x hy)]
theorem shl_nat {k:IntKind} (n m:Nat) (hm:m≤k.bits):shlOp k (n:Int) (m:Int)=k.wrap ((n * 2 ^ m:Nat):Int):=by
 unfold shlOp
 rw [Int.toNat_natCast,Nat.min_eq_left hm]
 push_cast
 rfl
end Go.Av
namespace Go.Av
open Go
set_option linter.unusedVariables false
set_option linter.unusedSimpArgs false
section
variable {α:Type} {c : α → α → Int}
def sm (c : α → α → Int):List (α × Int) → α → Int
 | [],_=>0
 | p :: l,y=>(if c y p.1=0 then p.2 else 0) + sm c l y
def wt (g : α → Bool):List (α × Int)→Int
 | []=>0
 | p :: l=>(if g p.1=true then p.2 else 0) + wt g l
theorem sm_append (l l' : List (α × Int)) (y : α):sm c (l++l') y=sm c l y + sm c l' y:=by
 induction l with
 | nil=>simp [sm]
 | cons p l ih=>simp only [List.cons_append,sm,ih]; omega
theorem sm_perm {l l' : List (α × Int)} (h:l.Perm l') (y : α):sm c l y=sm c l' y:=by
 induction h with
 | nil=>rfl
 | cons p _ ih=>simp only [sm,ih]
 | swap p q l=>simp only [sm]; omega
 | trans _ _ h1 h2=>exact h1.trans h2
theorem sm_class (hC:IsCmp c) {y z : α} (h:c y z=0):∀ l:List (α × Int),sm c l y=sm c l z
 | []=>rfl
 | p :: l=>by simp only [sm,sm_class hC h l,hC.eqL p.1 h]
theorem sm_none {y : α}:∀ {l:List (α × Int)},(∀ p ∈ l,c y p.1 ≠ 0)→sm c l y=0
 | [],_=>rfl
 | p :: l,h=>by simp only [sm,if_neg (h p (List.mem_cons_self ..)),sm_none fun q hq=>h q (List.mem_cons_of_mem _ hq)]; omega
theorem sm_some {y : α} {l:List (α × Int)} (h:sm c l y ≠ 0):∃ p ∈ l,c y p.1=0:=by
 apply Classical.byContradiction
 intro hn
 exact h (sm_none fun p hp e=>hn ⟨p,hp,e⟩)
theorem wt_append (g : α → Bool) (l l' : List (α × Int)):wt g (l++l')=wt g l + wt g l':=by
 induction l with
 | nil=>simp [wt]
 | cons p l ih=>simp only [List.cons_append,wt,ih]; omega
def negP (l:List (α × Int)):List (α × Int):=l.map fun p=>(p.1, - p.2)
theorem sm_neg (l:List (α × Int)) (y : α):sm c (negP l) y = - sm c l y:=by
 induction l with
 | nil=>rfl
 | cons p l ih =>
  unfold negP at *
  simp only [List.map_cons,sm,ih]
  split <;> omega
theorem wt_neg (g : α → Bool) (l:List (α × Int)):wt g (negP l) = - wt g l:=by
 induction l with
 | nil=>rfl
 | cons p l ih =>
  unfold negP at *
  simp only [List.map_cons,wt,ih]
  split <;> omega
theorem grp0 (hC:IsCmp c) {g : α → Bool} (hg:∀ x y,c x y=0→g x=g y):∀ (n:Nat) (l:List (α × Int)),l.length≤n→(∀ y,sm c l y=0)→wt g l=0
 | 0,[],_,_=>rfl
 | 0,p :: l,h,_=>by simp at h
 | n + 1,[],_,_=>rfl
 | n + 1,p :: l,h,hs=>by
  have key:∀ L:List (α × Int),wt g L=(if g p.1=true then sm c L p.1 else 0) + wt g (L.filter fun q => !decide (c p.1 q.1=0))∧∀ y,sm c (L.filter fun q => !decide (c p.1 q.1=0)) y=if c p.1 y=0 then 0 else sm c L y:=by
   intro L
   induction L with
   | nil=>exact ⟨by simp [wt,sm],fun y=>by simp [sm]⟩
   | cons q L ih =>
    obtain ⟨i1,i2⟩:=ih
    by_cases e:c p.1 q.1=0
    ·rw [List.filter_cons_of_neg (by simp [e])]
     refine ⟨?_,fun y => ?_⟩
     ·simp only [wt,sm,i1,if_pos e,← hg _ _ e]
      split <;> omega
     ·rw [i2]
      by_cases e2:c p.1 y=0
      ·rw [if_pos e2,if_pos e2]
      ·rw [if_neg e2,if_neg e2]
       simp only [sm]
       rw [if_neg]
       ·omega
       ·intro e3
        exact e2 (by rw [hC.eqL y e]; exact hC.symm0 e3)
    ·rw [List.filter_cons_of_pos (by simp [e])]
     refine ⟨?_,fun y => ?_⟩
     ·simp only [wt,sm,i1,if_neg e]
      repeat' split
      all_goals omega
     ·simp only [sm,i2]
      by_cases e2:c p.1 y=0
      ·rw [if_pos e2,if_pos e2,if_neg]
       ·rfl
       ·intro e3
        exact e (by rw [hC.eqL _ e2]; exact e3)
      ·rw [if_neg e2,if_neg e2]
  obtain ⟨k1,k2⟩:=key (p :: l)
  rw [k1,hs]
  have hl:((p :: l).filter fun q => !decide (c p.1 q.1=0)).length≤n:=by
   rw [List.filter_cons_of_neg (by simp [hC.refl])]
   have:=List.length_filter_le (fun q : α × Int => !decide (c p.1 q.1=0)) l
   simp only [List.length_cons] at h
   omega
  rw [grp0 hC hg n _ hl fun y=>by rw [k2,hs]; simp]
  split <;> rfl
theorem grp (hC:IsCmp c) {g : α → Bool} (hg:∀ x y,c x y=0→g x=g y) {l l' : List (α × Int)} (h:∀ y,sm c l y=sm c l' y):wt g l=wt g l':=by
 have:=grp0 hC hg _ (l++negP l') (Nat.le_refl _) fun y=>by rw [sm_append,sm_neg,h]; omega
 rw [wt_append,wt_neg] at this
 omega
structure SS (c : α → α → Int) (l S:List (α × Int)):Prop where
 strict:S.Pairwise fun a b=>c a.1 b.1 < 0
 sum:∀ p ∈ S,p.2=sm c l p.1
 mem:∀ p ∈ S,∃ y ∈ l,y.1=p.1
 all:∀ y ∈ l,∃ p ∈ S,c p.1 y.1=0
theorem ss_nil:SS c [] []:=⟨List.Pairwise.nil,fun p h=>(by cases h),fun p h=>(by cases h),fun p h=>(by cases h)⟩
theorem sm_one (x y : α) (n:Int):sm c [(x,n)] y=if c y x=0 then n else 0:=by simp [sm]
theorem ss_new (hC:IsCmp c) {l A B:List (α × Int)} {x : α} {n:Int} (h:SS c l (A++B)) (hA:∀ p ∈ A,c p.1 x < 0) (hB:∀ p ∈ B,c x p.1 < 0):SS c (l++[(x,n)]) (A++(x,n) :: B):=by
 have hne:∀ p ∈ A++B,c p.1 x ≠ 0:=fun p hp=>by
  rcases List.mem_append.1 hp with hp | hp
  ·have:=hA p hp; omega
  ·have:=hB p hp; have:=hC.anti x p.1; omega
 have hs:=h.strict
 rw [List.pairwise_append] at hs
 refine ⟨?_,?_,?_,?_⟩
 ·rw [List.pairwise_append]
  refine ⟨hs.1,List.pairwise_cons.2 ⟨hB,hs.2.1⟩,fun a ha b hb => ?_⟩
  rcases List.mem_cons.1 hb with rfl | hb
  ·exact hA a ha
  ·exact hs.2.2 a ha b hb
 ·intro p hp
  rw [sm_append,sm_one]
  have hp' : p=(x,n)∨p ∈ A++B:=by
   rcases List.mem_append.1 hp with hp | hp
   ·exact .inr (List.mem_append.2 (.inl hp))
   ·rcases List.mem_cons.1 hp with hp | hp
    ·exact .inl hp
    ·exact .inr (List.mem_append.2 (.inr hp))
  rcases hp' with rfl | hp'
  ·simp only [hC.refl]
   rw [sm_none fun q hq e => ?_]
   ·simp
   ·obtain ⟨p,hp,e2⟩:=h.all q hq
    exact hne p hp (by rw [hC.eqL x e2]; exact hC.symm0 e)
  ·rw [if_neg (hne p hp'),← h.sum p hp']
   omega
 ·intro p hp
  rcases List.mem_append.1 hp with hp | hp
  ·obtain ⟨y,h1,h2⟩:=h.mem p (List.mem_append.2 (.inl hp))
   exact ⟨y,List.mem_append.2 (.inl h1),h2⟩
  ·rcases List.mem_cons.1 hp with rfl | hp
   ·exact ⟨(x,n),List.mem_append.2 (.inr (List.mem_singleton.2 rfl)),rfl⟩
   ·obtain ⟨y,h1,h2⟩:=h.mem p (List.mem_append.2 (.inr hp))
    exact ⟨y,List.mem_append.2 (.inl h1),h2⟩
 ·intro y hy
  rcases List.mem_append.1 hy with hy | hy
  ·obtain ⟨p,h1,h2⟩:=h.all y hy
   refine ⟨p,?_,h2⟩
   rcases List.mem_append.1 h1 with h1 | h1
   ·exact List.mem_append.2 (.inl h1)
   ·exact List.mem_append.2 (.inr (List.mem_cons_of_mem _ h1))
  ·rw [List.mem_singleton.1 hy]
   exact ⟨(x,n),List.mem_append.2 (.inr (List.mem_cons_self ..)),hC.refl x⟩
theorem ss_add (hC:IsCmp c) {l A B:List (α × Int)} {x : α} {p : α × Int} {n:Int} (h:SS c l (A++p :: B)) (hp:c p.1 x=0):SS c (l++[(x,n)]) (A++(p.1,p.2 + n) :: B):=by
 have hs:=h.strict
 rw [List.pairwise_append,List.pairwise_cons] at hs
 have hx:=hC.symm0 hp
 have hA:∀ q ∈ A,c q.1 x ≠ 0:=fun q hq e=>by
  have:=hs.2.2 q hq p (List.mem_cons_self ..)
  rw [hC.eqR q.1 hp] at this
  omega
 have hB:∀ q ∈ B,c q.1 x ≠ 0:=fun q hq e=>by
  have:=hs.2.1.1 q hq
  rw [hC.eqL q.1 hp,hC.symm0 e] at this
  omega
 refine ⟨?_,?_,?_,?_⟩
 ·rw [List.pairwise_append,List.pairwise_cons]
  refine ⟨hs.1,⟨hs.2.1.1,hs.2.1.2⟩,fun a ha b hb => ?_⟩
  rcases List.mem_cons.1 hb with rfl | hb
  ·exact hs.2.2 a ha p (List.mem_cons_self ..)
  ·exact hs.2.2 a ha b (List.mem_cons_of_mem _ hb)
 ·intro q hq
  rw [sm_append,sm_one]
  rcases List.mem_append.1 hq with hq | hq
  ·rw [if_neg (hA q hq),h.sum q (List.mem_append.2 (.inl hq))]; omega
  ·rcases List.mem_cons.1 hq with rfl | hq
   ·simp only
    rw [if_pos hp,h.sum p (List.mem_append.2 (.inr (List.mem_cons_self ..)))]
   ·rw [if_neg (hB q hq),h.sum q (List.mem_append.2 (.inr (List.mem_cons_of_mem _ hq)))]; omega
 ·intro q hq
  have:∃ q' ∈ A++p :: B,q'.1=q.1:=by
   rcases List.mem_append.1 hq with hq | hq
   ·exact ⟨q,List.mem_append.2 (.inl hq),rfl⟩
   ·rcases List.mem_cons.1 hq with rfl | hq
    ·exact ⟨p,List.mem_append.2 (.inr (List.mem_cons_self ..)),rfl⟩
    ·exact ⟨q,List.mem_append.2 (.inr (List.mem_cons_of_mem _ hq)),rfl⟩
  obtain ⟨q',h1,h2⟩:=this
  obtain ⟨y,h3,h4⟩:=h.mem q' h1
  exact ⟨y,List.mem_append.2 (.inl h3),h4.trans h2⟩
 ·intro y hy
  rcases List.mem_append.1 hy with hy | hy
  ·obtain ⟨q,h1,h2⟩:=h.all y hy
   rcases List.mem_append.1 h1 with h1 | h1
   ·exact ⟨q,List.mem_append.2 (.inl h1),h2⟩
   ·rcases List.mem_cons.1 h1 with rfl | h1
    ·exact ⟨(q.1,q.2 + n),List.mem_append.2 (.inr (List.mem_cons_self ..)),h2⟩
    ·exact ⟨q,List.mem_append.2 (.inr (List.mem_cons_of_mem _ h1)),h2⟩
  ·rw [List.mem_singleton.1 hy]
   exact ⟨(p.1,p.2 + n),List.mem_append.2 (.inr (List.mem_cons_self ..)),hp⟩
def Fits (c : α → α → Int) (l:List (α × Int)):Prop := ∀ y,in64 (sm c l y)
theorem ss_fits (hC:IsCmp c) {l S:List (α × Int)} (h:SS c l S):Fits c l↔∀ p ∈ S,in64 p.2:=by
 constructor
 ·intro hf p hp
  rw [h.sum p hp]; exact hf p.1
 ·intro hf y
  by_cases e:sm c l y=0
  ·rw [e]; unfold in64; omega
  ·obtain ⟨q,h1,h2⟩:=sm_some e
   obtain ⟨p,h3,h4⟩:=h.all q h1
   have e2:c p.1 y=0:=by rw [hC.eqL y h4]; exact hC.symm0 h2
   rw [← sm_class hC e2,← h.sum p h3]
   exact hf p h3
structure Res (c : α → α → Int) (num : α → Int) (put : α → Int → α) (l:List (α × Int)) (R:List α):Prop where
 strict:R.Pairwise fun a b=>c a b < 0
 sum:∀ r ∈ R,num r=sm c l r∧num r ≠ 0
 mem:∀ r ∈ R,∃ y ∈ l,r=put y.1 (num r)
 all:∀ y ∈ l,sm c l y.1 ≠ 0→∃ r ∈ R,c r y.1=0
def Tot (c : α → α → Int) (num : α → Int) (put : α → Int → α) (l:List (α × Int)) (R:List α) (e:Int):Prop:=(e=0∧Res c num put l R∧Fits c l)∨(e=10∧R=[]∧¬ Fits c l)
def left0 (put : α → Int → α) (S:List (α × Int)):List α:=(S.filter fun p => !decide (p.2=0)).map fun p=>put p.1 p.2
theorem res_of (hC:IsCmp c) {num : α → Int} {put : α → Int → α} (h1:∀ x n,num (put x n)=n) (h2:∀ x n y,c (put x n) y=c x y) {l S:List (α × Int)} (h:SS c l S):Res c num put l (left0 put S):=by
 have h3:∀ x n y,c y (put x n)=c y x:=fun x n y=>by have:=hC.anti y (put x n); have:=hC.anti y x; have:=h2 x n y; omega
 unfold left0
 refine ⟨?_,?_,?_,?_⟩
 ·rw [List.pairwise_map]
  refine List.Pairwise.imp (fun {a b} hab => ?_) (h.strict.filter _)
  rw [h2,h3]; exact hab
 ·intro r hr
  obtain ⟨p,hp,rfl⟩:=List.mem_map.1 hr
  obtain ⟨hp,hz⟩:=List.mem_filter.1 hp
  rw [h1]
  refine ⟨?_,by simpa using hz⟩
  rw [sm_class hC (show c (put p.1 p.2) p.1=0 by rw [h2]; exact hC.refl _)]
  exact h.sum p hp
 ·intro r hr
  obtain ⟨p,hp,rfl⟩:=List.mem_map.1 hr
  obtain ⟨hp,hz⟩:=List.mem_filter.1 hp
  obtain ⟨y,g1,g2⟩:=h.mem p hp
  exact ⟨y,g1,by rw [h1,g2]⟩
 ·intro y hy hn
  obtain ⟨p,g1,g2⟩:=h.all y hy
  refine ⟨put p.1 p.2,List.mem_map.2 ⟨p,List.mem_filter.2 ⟨g1,?_⟩,rfl⟩,by rw [h2]; exact g2⟩
  have:=h.sum p g1
  rw [sm_class hC g2] at this
  simp only [Bool.not_eq_eq_eq_not,Bool.not_true,decide_eq_false_iff_not]
  omega
theorem strict_ext (hC:IsCmp c):∀ {R R' : List α},R.Pairwise (fun a b=>c a b < 0)→R'.Pairwise (fun a b=>c a b < 0)→(∀ x,x ∈ R↔x ∈ R')→R=R'
 | [],[],_,_,_=>rfl
 | [],x :: _,_,_,h=>by cases (h x).2 (List.mem_cons_self ..)
 | x :: _,[],_,_,h=>by cases (h x).1 (List.mem_cons_self ..)
 | a :: R,b :: R',h1,h2,h=>by
  rw [List.pairwise_cons] at h1 h2
  have hab:a=b:=by
   rcases List.mem_cons.1 ((h a).1 (List.mem_cons_self ..)) with e | e
   ·exact e
   ·rcases List.mem_cons.1 ((h b).2 (List.mem_cons_self ..)) with e2 | e2
    ·exact e2.symm
    ·have:=h2.1 a e; have:=h1.1 b e2; have:=hC.anti a b; omega
  subst hab
  have ne1:a ∉ R:=fun g=>by have:=h1.1 a g; rw [hC.refl] at this; omega
  have ne2:a ∉ R':=fun g=>by have:=h2.1 a g; rw [hC.refl] at this; omega
  rw [strict_ext hC h1.2 h2.2 fun x => ?_]
  constructor
  ·intro hx
   rcases List.mem_cons.1 ((h x).1 (List.mem_cons_of_mem _ hx)) with rfl | g
   ·exact absurd hx ne1
   ·exact g
  ·intro hx
   rcases List.mem_cons.1 ((h x).2 (List.mem_cons_of_mem _ hx)) with rfl | g
   ·exact absurd hx ne2
   ·exact g
theorem res_unique (hC:IsCmp c) {num : α → Int} {put : α → Int → α} {l l' : List (α × Int)} {R R' : List α} (h:Res c num put l R) (h' : Res c num put l' R') (hs:∀ y,sm c l y=sm c l' y)
  (hV:∀ r ∈ R,∀ r' ∈ R',c r r' = 0→num r=num r' → r=r'):R=R':=by
 refine strict_ext hC h.strict h'.strict fun x=>⟨fun hx => ?_,fun hx => ?_⟩
 ·obtain ⟨e1,e2⟩:=h.sum x hx
  rw [hs] at e1
  obtain ⟨y,hy,e3⟩:=sm_some (c:=c) (l:=l') (y:=x) (by omega)
  obtain ⟨r,hr,e4⟩:=h'.all y hy (by rw [← sm_class hC e3]; omega)
  have e5:c x r=0:=by rw [hC.eqL r e3]; exact hC.symm0 e4
  rw [hV x hx r hr e5 (by rw [(h'.sum r hr).1,← sm_class hC e5]; exact e1)]
  exact hr
 ·obtain ⟨e1,e2⟩:=h'.sum x hx
  rw [← hs] at e1
  obtain ⟨y,hy,e3⟩:=sm_some (c:=c) (l:=l) (y:=x) (by omega)
  obtain ⟨r,hr,e4⟩:=h.all y hy (by rw [← sm_class hC e3]; omega)
  have e5:c r x=0:=by rw [hC.eqL x e4]; exact hC.symm0 e3
  rw [← hV r hr x hx e5 (by rw [(h.sum r hr).1,sm_class hC e5]; omega)]
  exact hr
theorem tot_unique (hC:IsCmp c) {num : α → Int} {put : α → Int → α} {l l' : List (α × Int)} {R R' : List α} {e e' : Int} (h:Tot c num put l R e) (h' : Tot c num put l' R' e') (hs:∀ y,sm c l y=sm c l' y)
  (hV:∀ r ∈ R,∀ r' ∈ R',c r r' = 0→num r=num r' → r=r'):R=R' ∧ e=e':=by
 have hf:Fits c l↔Fits c l':=by unfold Fits; simp only [hs]
 rcases h with ⟨rfl,h1,h2⟩ | ⟨rfl,rfl,h2⟩
 ·rcases h' with ⟨rfl,g1,g2⟩ | ⟨rfl,rfl,g2⟩
  ·exact ⟨res_unique hC h1 g1 hs hV,rfl⟩
  ·exact absurd (hf.1 h2) g2
 ·rcases h' with ⟨rfl,g1,g2⟩ | ⟨rfl,rfl,g2⟩
  ·exact absurd (hf.2 g2) h2
  ·exact ⟨rfl,rfl⟩
theorem res_sm (hC:IsCmp c) {num : α → Int} {put : α → Int → α} {l:List (α × Int)} {R:List α} (h:Res c num put l R) (y : α):sm c (R.map fun r=>(r,num r)) y=sm c l y:=by
 by_cases e:∃ r ∈ R,c y r=0
 ·obtain ⟨r,hr,e⟩:=e
  rw [sm_class hC e,sm_class hC e,← (h.sum r hr).1]
  have hs:=h.strict
  clear h e
  induction R with
  | nil=>cases hr
  | cons a R ih =>
   rw [List.pairwise_cons] at hs
   simp only [List.map_cons,sm]
   rcases List.mem_cons.1 hr with rfl | hr
   ·rw [if_pos (hC.refl _),sm_none fun p hp => ?_]
    ·omega
    ·obtain ⟨q,hq,rfl⟩:=List.mem_map.1 hp
     have:=hs.1 q hq
     simp only
     omega
   ·rw [if_neg (by have:=hs.1 r hr; have:=hC.anti r a; omega),ih hr hs.2]
    omega
 ·rw [sm_none fun p hp => ?_]
  ·apply Classical.byContradiction
   intro hn
   obtain ⟨q,h1,h2⟩:=sm_some (c:=c) (l:=l) (y:=y) (fun h=>hn h.symm)
   obtain ⟨r,h3,h4⟩:=h.all q h1 (by rw [← sm_class hC h2]; exact fun h=>hn h.symm)
   exact e ⟨r,h3,by rw [hC.eqL r h2]; exact hC.symm0 h4⟩
  ·obtain ⟨q,hq,rfl⟩:=List.mem_map.1 hp
   exact fun h=>e ⟨q,hq,h⟩
end
end Go.Av
namespace Go.Av
open Go
set_option linter.unusedVariables false
section
variable {α:Type} [Inhabited α]
def insG (cmp : α → α → Option Int) (fuel:Nat) (p1:Int) (p2:Int) (l0:List α):Option (List α) :=
 outK (loopN (S:=Int × (List α)) (R:=Empty) (fun (a1:Int × (List α))=>bf (decide (a1.1 < p2)) (outK (loopN (S:=Int × (List α)) (R:=Empty) (fun (a3:Int × (List α))=>jn (fun (a5:Bool)=>bf a5 (need ((0:Int)≤(IntKind.i64.wrap (a3.1 - 1))∧(IntKind.i64.wrap (a3.1 - 1)) < (a3.2.length:Int)) <| need ((0 + (IntKind.i64.wrap (a3.1 - 1)).toNat) < a3.2.length) <| need ((0:Int)≤a3.1∧a3.1 < (a3.2.length:Int)) <| need ((0 + a3.1.toNat) < a3.2.length) <| need ((0:Int)≤a3.1∧a3.1 < (a3.2.length:Int)) <| need ((0 + a3.1.toNat) < a3.2.length) <| need ((0:Int)≤(IntKind.i64.wrap (a3.1 - 1))∧(IntKind.i64.wrap (a3.1 - 1)) < (a3.2.length:Int)) <| need ((0 + (IntKind.i64.wrap (a3.1 - 1)).toNat) < (a3.2.set (0 + a3.1.toNat) (a3.2.getD (0 + (IntKind.i64.wrap (a3.1 - 1)).toNat) default)).length) <| some (.next ((IntKind.i64.wrap (a3.1 - 1)),((a3.2.set (0 + a3.1.toNat) (a3.2.getD (0 + (IntKind.i64.wrap (a3.1 - 1)).toNat) default)).set (0 + (IntKind.i64.wrap (a3.1 - 1)).toNat) (a3.2.getD (0 + a3.1.toNat) default))))) (some (.brk (a3.1,a3.2)))) fun j6=>bf (decide (p1 < a3.1)) (need ((0:Int)≤a3.1∧a3.1 < (a3.2.length:Int)) <| need ((0 + a3.1.toNat) < a3.2.length) <| need ((0:Int)≤(IntKind.i64.wrap (a3.1 - 1))∧(IntKind.i64.wrap (a3.1 - 1)) < (a3.2.length:Int)) <| need ((0 + (IntKind.i64.wrap (a3.1 - 1)).toNat) < a3.2.length) <| (cmp (a3.2.getD (0 + a3.1.toNat) default) (a3.2.getD (0 + (IntKind.i64.wrap (a3.1 - 1)).toNat) default)).bind fun r20=>j6 (decide (r20 < 0))) (j6 false)) fuel (a1.1,a1.2)) (fun (a4:Int × (List α))=>some (.next ((IntKind.i64.wrap (a1.1 + 1)),a4.2))) (fun (x:Empty)=>x.elim)) (some (.brk (a1.1,a1.2)))) fuel ((IntKind.i64.wrap (p1 + 1)),l0)) (fun (a2:Int × (List α))=>some a2.2) (fun (x:Empty)=>x.elim)
def swapG (fuel:Nat) (p1:Int) (p2:Int) (p3:Int) (l0:List α):Option (List α) :=
 outK (loopN (S:=Int × (List α)) (R:=Empty) (fun (a1:Int × (List α))=>bf (decide (a1.1 < p3)) (need ((0:Int)≤(IntKind.i64.wrap (p2 + a1.1))∧(IntKind.i64.wrap (p2 + a1.1)) < (a1.2.length:Int)) <| need ((0 + (IntKind.i64.wrap (p2 + a1.1)).toNat) < a1.2.length) <| need ((0:Int)≤(IntKind.i64.wrap (p1 + a1.1))∧(IntKind.i64.wrap (p1 + a1.1)) < (a1.2.length:Int)) <| need ((0 + (IntKind.i64.wrap (p1 + a1.1)).toNat) < a1.2.length) <| need ((0:Int)≤(IntKind.i64.wrap (p1 + a1.1))∧(IntKind.i64.wrap (p1 + a1.1)) < (a1.2.length:Int)) <| need ((0 + (IntKind.i64.wrap (p1 + a1.1)).toNat) < a1.2.length) <| need ((0:Int)≤(IntKind.i64.wrap (p2 + a1.1))∧(IntKind.i64.wrap (p2 + a1.1)) < (a1.2.length:Int)) <| need ((0 + (IntKind.i64.wrap (p2 + a1.1)).toNat) < (a1.2.set (0 + (IntKind.i64.wrap (p1 + a1.1)).toNat) (a1.2.getD (0 + (IntKind.i64.wrap (p2 + a1.1)).toNat) default)).length) <| some (.next ((IntKind.i64.wrap (a1.1 + 1)),((a1.2.set (0 + (IntKind.i64.wrap (p1 + a1.1)).toNat) (a1.2.getD (0 + (IntKind.i64.wrap (p2 + a1.1)).toNat) default)).set (0 + (IntKind.i64.wrap (p2 + a1.1)).toNat) (a1.2.getD (0 + (IntKind.i64.wrap (p1 + a1.1)).toNat) default))))) (some (.brk (a1.1,a1.2)))) fuel (0,l0)) (fun (a2:Int × (List α))=>some a2.2) (fun (x:Empty)=>x.elim)
def rotG (fuel:Nat) (p1:Int) (p2:Int) (p3:Int) (l0:List α):Option (List α) :=
 outK (loopN (S:=Int × Int × (List α)) (R:=Empty) (fun (a1:Int × Int × (List α))=>bf (!decide (a1.1=a1.2.1)) (bf (decide (a1.2.1 < a1.1)) ((swapG fuel (IntKind.i64.wrap (p2 - a1.1)) p2 a1.2.1 a1.2.2).bind fun r4=>need (r4.length=a1.2.2.length) <| some (.next ((IntKind.i64.wrap (a1.1 - a1.2.1)),a1.2.1,r4))) ((swapG fuel (IntKind.i64.wrap (p2 - a1.1)) (IntKind.i64.wrap ((IntKind.i64.wrap (p2 + a1.2.1)) - a1.1)) a1.1 a1.2.2).bind fun r6=>need (r6.length=a1.2.2.length) <| some (.next (a1.1,(IntKind.i64.wrap (a1.2.1 - a1.1)),r6)))) (some (.brk (a1.1,a1.2.1,a1.2.2)))) fuel ((IntKind.i64.wrap (p2 - p1)),(IntKind.i64.wrap (p3 - p2)),l0)) (fun (a2:Int × Int × (List α))=>(swapG fuel (IntKind.i64.wrap (p2 - a2.1)) p2 a2.1 a2.2.2).bind fun r3=>some r3) (fun (x:Empty)=>x.elim)
def symG (cmp : α → α → Option Int):Nat→Int→Int→Int→(List α)→Option (List α)
 | 0,_,_,_,_=>none
 | fuel + 1,p1,p2,p3,l0 =>
 bf (decide ((IntKind.i64.wrap (p2 - p1))=1)) (outK (loopN (S:=Int × Int) (R:=Empty) (fun (a1:Int × Int)=>bf (decide (a1.1 < a1.2)) (need ((0:Int)≤(IntKind.i64.wrap (shrOp .u64 (IntKind.u64.wrap (IntKind.i64.wrap (a1.1 + a1.2))) 1))∧(IntKind.i64.wrap (shrOp .u64 (IntKind.u64.wrap (IntKind.i64.wrap (a1.1 + a1.2))) 1)) < (l0.length:Int)) <| need ((0 + (IntKind.i64.wrap (shrOp .u64 (IntKind.u64.wrap (IntKind.i64.wrap (a1.1 + a1.2))) 1)).toNat) < l0.length) <| need ((0:Int)≤p1∧p1 < (l0.length:Int)) <| need ((0 + p1.toNat) < l0.length) <| (cmp (l0.getD (0 + (IntKind.i64.wrap (shrOp .u64 (IntKind.u64.wrap (IntKind.i64.wrap (a1.1 + a1.2))) 1)).toNat) default) (l0.getD (0 + p1.toNat) default)).bind fun r17=>bf (decide (r17 < 0)) (some (.next ((IntKind.i64.wrap ((IntKind.i64.wrap (shrOp .u64 (IntKind.u64.wrap (IntKind.i64.wrap (a1.1 + a1.2))) 1)) + 1)),a1.2))) (some (.next (a1.1,(IntKind.i64.wrap (shrOp .u64 (IntKind.u64.wrap (IntKind.i64.wrap (a1.1 + a1.2))) 1)))))) (some (.brk (a1.1,a1.2)))) fuel (p2,p3)) (fun (a2:Int × Int)=>outK (loopN (S:=Int × (List α)) (R:=Empty) (fun (a3:Int × (List α))=>bf (decide (a3.1 < (IntKind.i64.wrap (a2.1 - 1)))) (need ((0:Int)≤(IntKind.i64.wrap (a3.1 + 1))∧(IntKind.i64.wrap (a3.1 + 1)) < (a3.2.length:Int)) <| need ((0 + (IntKind.i64.wrap (a3.1 + 1)).toNat) < a3.2.length) <| need ((0:Int)≤a3.1∧a3.1 < (a3.2.length:Int)) <| need ((0 + a3.1.toNat) < a3.2.length) <| need ((0:Int)≤a3.1∧a3.1 < (a3.2.length:Int)) <| need ((0 + a3.1.toNat) < a3.2.length) <| need ((0:Int)≤(IntKind.i64.wrap (a3.1 + 1))∧(IntKind.i64.wrap (a3.1 + 1)) < (a3.2.length:Int)) <| need ((0 + (IntKind.i64.wrap (a3.1 + 1)).toNat) < (a3.2.set (0 + a3.1.toNat) (a3.2.getD (0 + (IntKind.i64.wrap (a3.1 + 1)).toNat) default)).length) <| some (.next ((IntKind.i64.wrap (a3.1 + 1)),((a3.2.set (0 + a3.1.toNat) (a3.2.getD (0 + (IntKind.i64.wrap (a3.1 + 1)).toNat) default)).set (0 + (IntKind.i64.wrap (a3.1 + 1)).toNat) (a3.2.getD (0 + a3.1.toNat) default))))) (some (.brk (a3.1,a3.2)))) fuel (p1,l0)) (fun (a4:Int × (List α))=>some a4.2) (fun (x:Empty)=>x.elim)) (fun (x:Empty)=>x.elim)) (bf (decide ((IntKind.i64.wrap (p3 - p2))=1)) (outK (loopN (S:=Int × Int) (R:=Empty) (fun (a18:Int × Int)=>bf (decide (a18.1 < a18.2)) (need ((0:Int)≤p2∧p2 < (l0.length:Int)) <| need ((0 + p2.toNat) < l0.length) <| need ((0:Int)≤(IntKind.i64.wrap (shrOp .u64 (IntKind.u64.wrap (IntKind.i64.wrap (a18.1 + a18.2))) 1))∧(IntKind.i64.wrap (shrOp .u64 (IntKind.u64.wrap (IntKind.i64.wrap (a18.1 + a18.2))) 1)) < (l0.length:Int)) <| need ((0 + (IntKind.i64.wrap (shrOp .u64 (IntKind.u64.wrap (IntKind.i64.wrap (a18.1 + a18.2))) 1)).toNat) < l0.length) <| (cmp (l0.getD (0 + p2.toNat) default) (l0.getD (0 + (IntKind.i64.wrap (shrOp .u64 (IntKind.u64.wrap (IntKind.i64.wrap (a18.1 + a18.2))) 1)).toNat) default)).bind fun r34=>bf (!(decide (r34 < 0))) (some (.next ((IntKind.i64.wrap ((IntKind.i64.wrap (shrOp .u64 (IntKind.u64.wrap (IntKind.i64.wrap (a18.1 + a18.2))) 1)) + 1)),a18.2))) (some (.next (a18.1,(IntKind.i64.wrap (shrOp .u64 (IntKind.u64.wrap (IntKind.i64.wrap (a18.1 + a18.2))) 1)))))) (some (.brk (a18.1,a18.2)))) fuel (p1,p2)) (fun (a19:Int × Int)=>outK (loopN (S:=Int × (List α)) (R:=Empty) (fun (a20:Int × (List α))=>bf (decide (a19.1 < a20.1)) (need ((0:Int)≤(IntKind.i64.wrap (a20.1 - 1))∧(IntKind.i64.wrap (a20.1 - 1)) < (a20.2.length:Int)) <| need ((0 + (IntKind.i64.wrap (a20.1 - 1)).toNat) < a20.2.length) <| need ((0:Int)≤a20.1∧a20.1 < (a20.2.length:Int)) <| need ((0 + a20.1.toNat) < a20.2.length) <| need ((0:Int)≤a20.1∧a20.1 < (a20.2.length:Int)) <| need ((0 + a20.1.toNat) < a20.2.length) <| need ((0:Int)≤(IntKind.i64.wrap (a20.1 - 1))∧(IntKind.i64.wrap (a20.1 - 1)) < (a20.2.length:Int)) <| need ((0 + (IntKind.i64.wrap (a20.1 - 1)).toNat) < (a20.2.set (0 + a20.1.toNat) (a20.2.getD (0 + (IntKind.i64.wrap (a20.1 - 1)).toNat) default)).length) <| some (.next ((IntKind.i64.wrap (a20.1 - 1)),((a20.2.set (0 + a20.1.toNat) (a20.2.getD (0 + (IntKind.i64.wrap (a20.1 - 1)).toNat) default)).set (0 + (IntKind.i64.wrap (a20.1 - 1)).toNat) (a20.2.getD (0 + a20.1.toNat) default))))) (some (.brk (a20.1,a20.2)))) fuel (p2,l0)) (fun (a21:Int × (List α))=>some a21.2) (fun (x:Empty)=>x.elim)) (fun (x:Empty)=>x.elim)) (jn (fun (a35:Int × Int × Int × Int)=>outK (loopN (S:=Int × Int) (R:=Empty) (fun (a37:Int × Int)=>bf (decide (a37.1 < a37.2)) (need ((0:Int)≤(IntKind.i64.wrap ((IntKind.i64.wrap (a35.2.1 - 1)) - (IntKind.i64.wrap (shrOp .u64 (IntKind.u64.wrap (IntKind.i64.wrap (a37.1 + a37.2))) 1))))∧(IntKind.i64.wrap ((IntKind.i64.wrap (a35.2.1 - 1)) - (IntKind.i64.wrap (shrOp .u64 (IntKind.u64.wrap (IntKind.i64.wrap (a37.1 + a37.2))) 1)))) < (l0.length:Int)) <| need ((0 + (IntKind.i64.wrap ((IntKind.i64.wrap (a35.2.1 - 1)) - (IntKind.i64.wrap (shrOp .u64 (IntKind.u64.wrap (IntKind.i64.wrap (a37.1 + a37.2))) 1)))).toNat) < l0.length) <| need ((0:Int)≤(IntKind.i64.wrap (shrOp .u64 (IntKind.u64.wrap (IntKind.i64.wrap (a37.1 + a37.2))) 1))∧(IntKind.i64.wrap (shrOp .u64 (IntKind.u64.wrap (IntKind.i64.wrap (a37.1 + a37.2))) 1)) < (l0.length:Int)) <| need ((0 + (IntKind.i64.wrap (shrOp .u64 (IntKind.u64.wrap (IntKind.i64.wrap (a37.1 + a37.2))) 1)).toNat) < l0.length) <| (cmp (l0.getD (0 + (IntKind.i64.wrap ((IntKind.i64.wrap (a35.2.1 - 1)) - (IntKind.i64.wrap (shrOp .u64 (IntKind.u64.wrap (IntKind.i64.wrap (a37.1 + a37.2))) 1)))).toNat) default) (l0.getD (0 + (IntKind.i64.wrap (shrOp .u64 (IntKind.u64.wrap (IntKind.i64.wrap (a37.1 + a37.2))) 1)).toNat) default)).bind fun r58=>bf (!(decide (r58 < 0))) (some (.next ((IntKind.i64.wrap ((IntKind.i64.wrap (shrOp .u64 (IntKind.u64.wrap (IntKind.i64.wrap (a37.1 + a37.2))) 1)) + 1)),a37.2))) (some (.next (a37.1,(IntKind.i64.wrap (shrOp .u64 (IntKind.u64.wrap (IntKind.i64.wrap (a37.1 + a37.2))) 1)))))) (some (.brk (a37.1,a37.2)))) fuel (a35.2.2.1,a35.2.2.2)) (fun (a38:Int × Int)=>jn (fun (a39:Int × (List α))=>jn (fun (a41:List α)=>jn (fun (a43:Bool)=>bf a43 ((symG cmp fuel a35.1 a39.1 p3 a41).bind fun r45=>some r45) (some a41)) fun j44=>bf (decide (a35.1 < a39.1)) (j44 (decide (a39.1 < p3))) (j44 false)) fun j42=>jn (fun (a46:Bool)=>bf a46 ((symG cmp fuel p1 a38.1 a35.1 a39.2).bind fun r48=>need (r48.length=a39.2.length) <| j42 r48) (j42 a39.2)) fun j47=>bf (decide (p1 < a38.1)) (j47 (decide (a38.1 < a35.1))) (j47 false)) fun j40=>jn (fun (a50:Int × Bool)=>bf a50.2 ((rotG fuel a38.1 p2 a50.1 l0).bind fun r52=>need (r52.length=l0.length) <| j40 (a50.1,r52)) (j40 (a50.1,l0))) fun j51=>bf (decide (a38.1 < p2)) (j51 ((IntKind.i64.wrap (a35.2.1 - a38.1)),(decide (p2 < (IntKind.i64.wrap (a35.2.1 - a38.1)))))) (j51 ((IntKind.i64.wrap (a35.2.1 - a38.1)),false))) (fun (x:Empty)=>x.elim)) fun j36=>bf (decide ((IntKind.i64.wrap (shrOp .u64 (IntKind.u64.wrap (IntKind.i64.wrap (p1 + p3))) 1)) < p2)) (j36 ((IntKind.i64.wrap (shrOp .u64 (IntKind.u64.wrap (IntKind.i64.wrap (p1 + p3))) 1)),(IntKind.i64.wrap ((IntKind.i64.wrap (shrOp .u64 (IntKind.u64.wrap (IntKind.i64.wrap (p1 + p3))) 1)) + p2)),(IntKind.i64.wrap ((IntKind.i64.wrap ((IntKind.i64.wrap (shrOp .u64 (IntKind.u64.wrap (IntKind.i64.wrap (p1 + p3))) 1)) + p2)) - p3)),(IntKind.i64.wrap (shrOp .u64 (IntKind.u64.wrap (IntKind.i64.wrap (p1 + p3))) 1)))) (j36 ((IntKind.i64.wrap (shrOp .u64 (IntKind.u64.wrap (IntKind.i64.wrap (p1 + p3))) 1)),(IntKind.i64.wrap ((IntKind.i64.wrap (shrOp .u64 (IntKind.u64.wrap (IntKind.i64.wrap (p1 + p3))) 1)) + p2)),p1,p2))))
def stabG (cmp : α → α → Option Int) (fuel:Nat) (p1:Int) (l0:List α):Option (List α) :=
 outK (loopN (S:=Int × Int × (List α)) (R:=Empty) (fun (a1:Int × Int × (List α))=>bf (decide (a1.2.1≤p1)) ((insG cmp fuel a1.1 a1.2.1 a1.2.2).bind fun r15=>need (r15.length=a1.2.2.length) <| some (.next (a1.2.1,(IntKind.i64.wrap (a1.2.1 + 20)),r15))) (some (.brk (a1.1,a1.2.1,a1.2.2)))) fuel (0,20,l0)) (fun (a2:Int × Int × (List α))=>(insG cmp fuel a2.1 p1 a2.2.2).bind fun r3=>need (r3.length=a2.2.2.length) <| outK (loopN (S:=Int × (List α)) (R:=Empty) (fun (a5:Int × (List α))=>bf (decide (a5.1 < p1)) (outK (loopN (S:=Int × Int × (List α)) (R:=Empty) (fun (a7:Int × Int × (List α))=>bf (decide (a7.2.1≤p1)) ((symG cmp fuel a7.1 (IntKind.i64.wrap (a7.1 + a5.1)) a7.2.1 a7.2.2).bind fun r13=>need (r13.length=a7.2.2.length) <| some (.next (a7.2.1,(IntKind.i64.wrap (a7.2.1 + (IntKind.i64.wrap ((2:Int) * a5.1)))),r13))) (some (.brk (a7.1,a7.2.1,a7.2.2)))) fuel (0,(IntKind.i64.wrap ((2:Int) * a5.1)),a5.2)) (fun (a8:Int × Int × (List α))=>jn (fun (a9:List α)=>some (.next ((IntKind.i64.wrap (a5.1 * 2)),a9))) fun j10=>bf (decide ((IntKind.i64.wrap (a8.1 + a5.1)) < p1)) ((symG cmp fuel a8.1 (IntKind.i64.wrap (a8.1 + a5.1)) p1 a8.2.2).bind fun r11=>need (r11.length=a8.2.2.length) <| j10 r11) (j10 a8.2.2)) (fun (x:Empty)=>x.elim)) (some (.brk (a5.1,a5.2)))) fuel (20,r3)) (fun (a6:Int × (List α))=>some a6.2) (fun (x:Empty)=>x.elim)) (fun (x:Empty)=>x.elim)
end
end Go.Av
namespace Go.Av
open Go
set_option linter.unusedVariables false
set_option linter.unusedSimpArgs false
section
variable {α:Type} [Inhabited α]
theorem arr_get (d:Array α) (j:Nat):d.toList.getD j default=d[j]!:=by
 rw [List.getD_eq_getElem?_getD,Array.getElem?_toList,getElem!_def]
 cases d[j]? <;> rfl
theorem arr_swp (d:Array α) (i j:Nat):(d.toList.set i d[j]!).set j d[i]! = (Sort.swp d i j).toList:=by
 unfold Sort.swp
 rw [Array.toList_setIfInBounds,Array.toList_setIfInBounds]
theorem swp_sz (d:Array α) (i j:Nat):(Sort.swp d i j).size=d.size:=by unfold Sort.swp; simp
theorem wsub1 {j:Nat} (h1:1≤j) (h:j < 4611686018427387904):IntKind.i64.wrap ((j:Int) - 1)=((j - 1:Nat):Int):=by
 rw [wrap_small (by omega) (by omega)]; omega
theorem wadd1 {j:Nat} (h:j < 4611686018427387904):IntKind.i64.wrap ((j:Int) + 1)=((j + 1:Nat):Int):=by
 rw [wrap_small (by omega) (by omega)]; omega
theorem wsub {i j:Nat} (h1:j≤i) (h:i < 4611686018427387904):IntKind.i64.wrap ((i:Int) - (j:Int))=((i - j:Nat):Int):=by
 rw [wrap_small (by omega) (by omega)]; omega
theorem wadd {i j:Nat} (h:i + j < 4611686018427387904):IntKind.i64.wrap ((i:Int) + (j:Int))=((i + j:Nat):Int):=by
 rw [wrap_small (by omega) (by omega)]; omega
theorem wtwo {i:Nat} (h:2 * i < 4611686018427387904):IntKind.i64.wrap ((2:Int) * (i:Int))=((2 * i:Nat):Int):=by
 rw [wrap_small (by omega) (by omega)]; omega
theorem intle {i j:Nat}:((i:Int)≤(j:Int))=(i≤j):=propext (by omega)
theorem intlt {i j:Nat}:((i:Int) < (j:Int))=(i < j):=propext (by omega)
theorem loopN_next {S R:Type} {B:S→Option (Ctl S R)} {fuel:Nat} {s s' : S} (h:B s=some (.next s')):loopN B (fuel + 1) s=loopN B fuel s':=by rw [loopN,h]
theorem loopN_brk {S R:Type} {B:S→Option (Ctl S R)} {fuel:Nat} {s s' : S} (h:B s=some (.brk s')):loopN B (fuel + 1) s=some (.done s'):=by rw [loopN,h]
theorem loopN_ret {S R:Type} {B:S→Option (Ctl S R)} {fuel:Nat} {s:S} {r:R} (h:B s=some (.ret r)):loopN B (fuel + 1) s=some (.ret r):=by rw [loopN,h]
theorem outK_ex {X Y R Q:Type} {o:Option (Out (X × Y) R)} {kn:X × Y→Option Q} {kr:R→Option Q} {r:Y} {q:Option Q} (h:∃ x:X,o=some (.done (x,r))) (hk:∀ x,kn (x,r)=q):outK o kn kr=q:=by
 obtain ⟨x,h⟩:=h
 rw [h]
 exact hk x
end
end Go.Av
