import Derived.Test.YtgpkbkdmpdmmiaaGreatL3x3
set_option maxRecDepth 100000
namespace Go.Av
open Go Go.Proofs
set_option linter.unusedVariables false
set_option linter.unusedSimpArgs false
theorem zak {p0:Time} {p1:List Time} {q:Time} (h:z5v p0 p1=some q) :
    Summ Tryz.prog 78 [.agg (cTime p0),cD (lD 3 z02 p1)] [] (.agg (cTime q)) []:=by
  refine Summ.intro Tryz.func78 rfl (by kernel_rfl) (by kernel_rfl) [] rfl ?_
  rintro ⟨P,w0,G0,V,LL,lk,N, φ0,fx⟩ rfl rfl rfl rfl
  unfold z5v at h
  refine Tri.sg [1,2,4] [2,4] (z00 2) ?_
  refine Tri.seqS ?_
  refine Tri.sg [1,2,4,10] [2,4] (z00 3) ?_
  refine Tri.condK h (fun h => ?_) (fun h => ?_)
  ·refine Tri.sg [4] [4] (z00 2) ?_
   refine Tri.ret ?_
   cases h
   exact RetAt.k
  ·refine Tri.skip ?_
   refine Tri.seqS ?_
   refine Tri.reg ?_
   refine At.seg 2 [1,2,4,13] [2,4] (s':=⟨[(1,cD (lD 3 z02 p1)),(2,.c (.ptr 2 0)),(4,.c (.ptr 4 0)),(13,cD (dI (p1.length:Int)))],[(2,.box (cTime p0)),(4,.box [.d (dU 0),.d (dU 0),.d (dU 0)])]⟩) (by kernel_rfl) (z00 2) ?_
   obtain ⟨hc1,h⟩:=z03 h
   refine At.one rfl (One.makeT (e:=54) (es:=3) (bs:=24) (n:=(p1.length:Int)) (c:=(p1.length:Int)) (z:=[.d (dU 0),.d (dU 0),.d (dU 0)]) (z02) ((⟨0,(0,0)⟩:Time):Time) rfl rfl rfl rfl (by kernel_rfl) rfl rfl rfl (by kernel_rfl) rfl (by kernel_rfl) rfl (.refl _) rfl rfl rfl hc1.1 hc1.2.1 hc1.2.2 rfl) ?_
   refine At.sg 1 [1,2,4,5] [2,4,14] (z00 1) ?_
   refine At.done rfl ?_
   refine Tri.seqS ?_
   refine Tri.sg [2,4,5,15,16,17] [2,4,14] (z00 3) ?_
   refine Tri.ln 15 p1.length fun hlena3 => ?_
   refine Tri.rK 17 (List.replicate p1.length ((⟨0,(0,0)⟩:Time):Time)) (fun (x:Empty) s=>False) (fun (a3:List Time)=>⟨[(2,.c (.ptr 2 0)),(4,.c (.ptr 4 0)),(5,.c (oC 14 3 a3)),(15,cD (lD 3 z02 p1)),(16,cD (dI (p1.length:Int)))],[(2,.box (cTime p0)),(4,.box [.d (dU 0),.d (dU 0),.d (dU 0)]),(14,vL 3 z02 a3)]⟩) [17,2,4,5,15,16] [2,4,14] [18,17,2,4,5,15,16] [2,4,14] [2,4,5,15,16] [2,4,14] [17,2,4,5,15,16] [2,4,14] h hlena3 ?_ ?_ ?_
   ·intro i2 a3 c hii2 h
    refine Tri.sg [2,4,5,6,7,15,16,17] [2,4,7,14] (tN 1 (ai (show ((0:Int)≤((i2:Nat):Int)∧((i2:Nat):Int) < (p1.length:Int)) from ⟨by omega,by omega⟩) (z00 4))) ?_
    refine Tri.reg ?_
    refine At.seg 4 [2,4,5,15,16,17,22,23,24,25] [2,4,14] (s':=⟨[(2,.c (.ptr 2 0)),(4,.c (.ptr 4 0)),(5,.c (oC 14 3 a3)),(15,cD (lD 3 z02 p1)),(16,cD (dI (p1.length:Int))),(17,cD (dI ((i2:Nat):Int))),(22,.c (oC 14 3 a3)),(23,cD (dI ((i2:Nat):Int))),(24,.agg (cTime p0)),(25,.agg (cTime (p1.getD i2 default)))],[(2,.box (cTime p0)),(4,.box [.d (dU 0),.d (dU 0),.d (dU 0)]),(14,vL 3 z02 a3)]⟩) (by kernel_rfl) (z00 4) ?_
    refine At.one rfl (One.buildSlice (z:=[.d (dU 0),.d (dU 0),.d (dU 0)]) (cells:=[.d (dU p0.epoch),.d (dU p0.loop.1),.d (dU p0.loop.2),.d (dU ((p1.getD i2 default).epoch)),.d (dU ((p1.getD i2 default).loop.1)),.d (dU ((p1.getD i2 default).loop.2))]) (xs:=List.map (z02) ([p0,(p1.getD i2 default)]:List Time)) rfl rfl rfl rfl (by kernel_rfl) rfl rfl (by kernel_rfl) rfl rfl rfl (by kernel_rfl) rfl ⟨⟨rfl,.refl _⟩,⟨rfl,.refl _⟩,trivial⟩) ?_
    refine At.le [26] (fun k hk h=>by first | (cases h; done) | (simp at hk h; omega)) ⟨[(26,cD (lD 3 z02 ([p0,(p1.getD i2 default)]:List Time))),(2,.c (.ptr 2 0)),(4,.c (.ptr 4 0)),(5,.c (oC 14 3 a3)),(15,cD (lD 3 z02 p1)),(16,cD (dI (p1.length:Int))),(17,cD (dI ((i2:Nat):Int))),(22,.c (oC 14 3 a3)),(23,cD (dI ((i2:Nat):Int))),(24,.agg (cTime p0)),(25,.agg (cTime (p1.getD i2 default)))],[(2,.box (cTime p0)),(4,.box [.d (dU 0),.d (dU 0),.d (dU 0)]),(14,vL 3 z02 a3)]⟩ ⟨⟨_,rfl,.c (.own rfl (List.mem_singleton.2 rfl) (Nat.le_of_ble_eq_true rfl) rfl (z1z (z02) ([p0,(p1.getD i2 default)]:List Time)))⟩,⟨_,rfl,.refl _⟩,⟨_,rfl,.refl _⟩,⟨_,rfl,.refl _⟩,⟨_,rfl,.refl _⟩,⟨_,rfl,.refl _⟩,⟨_,rfl,.refl _⟩,⟨_,rfl,.refl _⟩,⟨_,rfl,.refl _⟩,⟨_,rfl,.refl _⟩,⟨_,rfl,.refl _⟩,trivial⟩ ⟨⟨_,rfl,.refl _,(by simp)⟩,⟨_,rfl,.refl _,(by simp)⟩,⟨_,rfl,.refl _,(by simp)⟩,trivial⟩ ?_
    obtain ⟨r6,hr6,h⟩:=z04 h
    refine At.cA [] [cD (lD 3 z02 ([p0,(p1.getD i2 default)]:List Time))] (ziv hr6) (.cons (.refl _) .nil) ?_
    obtain ⟨hc7,h⟩:=z03 h
    refine At.seg 1 [2,4,5,15,16,17,27,28] [2,4,14] (s':=⟨[(2,.c (.ptr 2 0)),(4,.c (.ptr 4 0)),(5,.c (oC 14 3 a3)),(15,cD (lD 3 z02 p1)),(16,cD (dI (p1.length:Int))),(17,cD (dI ((i2:Nat):Int))),(27,.agg (cTime r6)),(28,.c (.vptr 14 3 (0 + i2) 0))],[(2,.box (cTime p0)),(4,.box [.d (dU 0),.d (dU 0),.d (dU 0)]),(14,vL 3 z02 a3)]⟩) (by kernel_rfl) (ai hc7 trivial) ?_
    obtain ⟨hc8,h⟩:=z03 h
    refine At.one rfl (One.storeT (xs:=[.d (dU r6.epoch),.d (dU r6.loop.1),.d (dU r6.loop.2)]) (ds:=[dU r6.epoch,dU r6.loop.1,dU r6.loop.2]) (z02) a3 r6 rfl rfl rfl rfl rfl hc8 rfl rfl (.refl _) rfl rfl rfl rfl) ?_
    refine At.keep [2,4,5,15,16,17] [2,4,14] (s':=⟨[(2,.c (.ptr 2 0)),(4,.c (.ptr 4 0)),(5,.c (oC 14 3 a3)),(15,cD (lD 3 z02 p1)),(16,cD (dI (p1.length:Int))),(17,cD (dI ((i2:Nat):Int)))],[(2,.box (cTime p0)),(4,.box [.d (dU 0),.d (dU 0),.d (dU 0)]),(14,vL 3 z02 (a3.set (0 + i2) r6))]⟩) (by kernel_rfl) ?_
    refine At.eqS (s':=⟨[(2,.c (.ptr 2 0)),(4,.c (.ptr 4 0)),(5,.c (oC 14 3 (a3.set (0 + i2) r6))),(15,cD (lD 3 z02 p1)),(16,cD (dI (p1.length:Int))),(17,cD (dI ((i2:Nat):Int)))],[(2,.box (cTime p0)),(4,.box [.d (dU 0),.d (dU 0),.d (dU 0)]),(14,vL 3 z02 (a3.set (0 + i2) r6))]⟩) (by simp only [oC,vL,List.length_set]) ?_
    refine At.keep [17,2,4,5,15,16] [2,4,14] (s':=⟨[(17,cD (dI ((i2:Nat):Int))),(2,.c (.ptr 2 0)),(4,.c (.ptr 4 0)),(5,.c (oC 14 3 (a3.set (0 + i2) r6))),(15,cD (lD 3 z02 p1)),(16,cD (dI (p1.length:Int)))],[(2,.box (cTime p0)),(4,.box [.d (dU 0),.d (dU 0),.d (dU 0)]),(14,vL 3 z02 (a3.set (0 + i2) r6))]⟩) (by kernel_rfl) ?_
    refine At.done rfl ?_
    cases h
    exact kr
   ·intro a4 h
    refine Tri.seqS ?_
    refine Tri.reg ?_
    refine At.seg 1 [4,30] [4,14] (s':=⟨[(4,.c (.ptr 4 0)),(30,.c (oC 14 3 a4))],[(4,.box [.d (dU 0),.d (dU 0),.d (dU 0)]),(14,vL 3 z02 a4)]⟩) (by kernel_rfl) (z00 1) ?_
    obtain ⟨r5,hr5,h⟩:=z04 h
    refine At.cA [] [.c (oC 14 3 a4)] (zg9 hr5) (.cons (AVArg.view (z02) a4 rfl) .nil) ?_
    refine At.sg 1 [4] [4] (z00 1) ?_
    refine At.done rfl ?_
    refine Tri.ret ?_
    cases h
    exact RetAt.k
   · exact fun x=>x.elim
theorem z4h {p1:Int} {q:List Update} (h:z1x p1=some q) :
    Summ Tryz.prog 114 [.c (.zero),cD (dI p1)] [] (.c (oC 6000 6 q)) [(6000,vL 6 z01 q)]:=by
  refine Summ.intro Tryz.func114 rfl (by kernel_rfl) (by kernel_rfl) [6000] rfl ?_
  rintro ⟨P,w0,G0,V,LL,lk,N, φ0,fx⟩ rfl rfl rfl rfl
  unfold z1x at h
  refine Tri.sg [0,1] [] (z00 1) ?_
  refine Tri.seqS ?_
  refine Tri.sg [0,1,6] [] (z00 2) ?_
  refine Tri.condK h (fun h => ?_) (fun h => ?_)
  ·refine Tri.reg ?_
   cases h
  ·refine Tri.skip ?_
   refine Tri.seqJ (fun (a1:List Update)=>⟨[(0,.c (oC 22 6 a1))],[(22,vL 6 z01 a1)]⟩) h (fun a1 h => ?_) (fun j2 h => ?_)
   ·refine Tri.sg [4] [22] (z00 2) ?_
    refine Tri.keep [4] [22] (s':=⟨[(4,.c (oC 22 6 a1))],[(22,vL 6 z01 a1)]⟩) (by kernel_rfl) ?_
    refine Tri.rename 22 6000 ⟨[(4,.c (oC 6000 6 a1))],[(6000,vL 6 z01 a1)]⟩ (by kernel_rfl) rfl rfl rfl ?_
    refine Tri.ret ?_
    cases h
    exact RetAt.k
   ·refine Tri.seqS ?_
    refine Tri.reg ?_
    refine At.seg 2 [0,8,9] [] (s':=⟨[(0,.c (.zero)),(8,cD (dI p1)),(9,.c (.zero))],[]⟩) (by kernel_rfl) (z00 2) ?_
    refine At.one rfl (One.cap0 (e:=56) rfl rfl rfl rfl rfl rfl) ?_
    refine At.sg 5 [0,1] [] (z00 5) ?_
    refine At.done rfl ?_
    refine Tri.segL [0,1,16] [] ⟨[(0,.c (.zero)),(1,cD (dI (IntKind.i64.wrap (p1 - (IntKind.i64.wrap ((0:Int) - 0)))))),(16,cD (.bool (decide (0 < (IntKind.i64.wrap (p1 - (IntKind.i64.wrap ((0:Int) - 0))))))))],[]⟩ _ (by kernel_rfl) (z00 2) ?_
    refine Tri.condK h (fun h => ?_) (fun h => ?_)
    ·refine Tri.reg ?_
     refine At.seg 2 [0,1,17,18] [] (s':=⟨[(0,.c (.zero)),(1,cD (dI (IntKind.i64.wrap (p1 - (IntKind.i64.wrap ((0:Int) - 0)))))),(17,.c (.zero)),(18,.c (.zero))],[]⟩) (by kernel_rfl) (z00 2) ?_
     refine At.one rfl (One.cap0 (e:=56) rfl rfl rfl rfl rfl rfl) ?_
     refine At.seg 2 [0,20,21] [] (s':=⟨[(0,.c (.zero)),(20,.c (.zero)),(21,cD (dI (IntKind.i64.wrap (p1 - (IntKind.i64.wrap ((0:Int) - 0))))))],[]⟩) (by kernel_rfl) (ai (show ((0:Int)≤(0:Int)∧(0:Int)≤(0:Int)∧(0:Int)≤((0:Nat):Int)) from ⟨by decide,by decide,by decide⟩) (z00 1)) ?_
     obtain ⟨hc3,h⟩:=z03 h
     refine At.one rfl (One.appendN0 (e:=56) (es:=6) (bs:=80) (n:=(IntKind.i64.wrap (p1 - (IntKind.i64.wrap ((0:Int) - 0))))) (z:=[.zero,.zero,.d (dU 0),.d (dU 0),.d (dU 0),.d (dI 0)]) (z01) ((⟨([]:List Value),([]:List Value),(⟨0,(0,0)⟩:Time),0⟩:Update):Update) rfl rfl rfl rfl (by kernel_rfl) rfl rfl rfl rfl rfl rfl (by kernel_rfl) rfl rfl (.cons (.zero _ _) (.cons (.zero _ _) (.cons (.refl _) (.cons (.refl _) (.cons (.refl _) (.cons (.refl _) .nil)))))) rfl rfl rfl hc3.1 hc3.2) ?_
     refine At.sg 2 [22,24] [22] (z00 2) ?_
     obtain ⟨hc4,h⟩:=z03 h
     refine At.seg 1 [25] [22] (s':=⟨[(25,.c (.own 22 6 (0 + (0:Int).toNat) ((0:Int).toNat - (0:Int).toNat)))],[(22,vL 6 z01 (List.replicate ((IntKind.i64.wrap (p1 - (IntKind.i64.wrap ((0:Int) - 0)))).toNat) ((⟨([]:List Value),([]:List Value),(⟨0,(0,0)⟩:Time),0⟩:Update):Update)))]⟩) (by kernel_rfl) (ai hc4 trivial) ?_
     refine At.eqS (s':=⟨[(25,.c (oC 22 6 ((List.replicate ((IntKind.i64.wrap (p1 - (IntKind.i64.wrap ((0:Int) - 0)))).toNat) ((⟨([]:List Value),([]:List Value),(⟨0,(0,0)⟩:Time),0⟩:Update):Update)).take 0)))],[(22,vL 6 z01 (List.replicate ((IntKind.i64.wrap (p1 - (IntKind.i64.wrap ((0:Int) - 0)))).toNat) ((⟨([]:List Value),([]:List Value),(⟨0,(0,0)⟩:Time),0⟩:Update):Update)))]⟩) (by simp only [oC,vL,List.length_take,Int.toNat_zero,Nat.add_zero,Nat.zero_add,Nat.sub_zero,znl hc4,Nat.zero_min]) ?_
     refine At.le [] (fun k hk=>by cases hk) ⟨[(25,.c (oC 22 6 ((List.replicate ((IntKind.i64.wrap (p1 - (IntKind.i64.wrap ((0:Int) - 0)))).toNat) ((⟨([]:List Value),([]:List Value),(⟨0,(0,0)⟩:Time),0⟩:Update):Update)).take 0)))],[(22,vL 6 z01 ((List.replicate ((IntKind.i64.wrap (p1 - (IntKind.i64.wrap ((0:Int) - 0)))).toNat) ((⟨([]:List Value),([]:List Value),(⟨0,(0,0)⟩:Time),0⟩:Update):Update)).take 0))]⟩ ⟨⟨_,rfl,.refl _⟩,trivial⟩ ⟨⟨_,rfl,.take (zoo _ _) (znz (z01) _ _),(by simp)⟩,trivial⟩ ?_
     refine At.sg 1 [0] [22] (z00 1) ?_
     refine At.done rfl ?_
     exact ⟨_,h,kr⟩
    ·refine Tri.newOwn (t:=0) (k:=22) (es:=6) (fun i=>z01 (([]:List Update).getD i default)) rfl rfl rfl ?_
     refine Tri.kp [0] [22] ?_
     refine Tri.skip ?_
     exact ⟨_,h,kr⟩
theorem z2e {p0:List (List Update)} {q:List Update} (h:z0p p0=some q) :
    Summ Tryz.prog 77 [cD (lD 1 (fun xs=>[encL 6 z01 xs]) p0)] [] (.c (oC 6000 6 q)) [(6000,vL 6 z01 q)]:=by
  refine Summ.intro Tryz.func77 rfl (by kernel_rfl) (by kernel_rfl) [6000] rfl ?_
  rintro ⟨P,w0,G0,V,LL,lk,N, φ0,fx⟩ rfl rfl rfl rfl
  unfold z0p at h
  refine Tri.sg [0] [] (z00 1) ?_
  refine Tri.sg [0,3] [] (z00 1) ?_
  refine Tri.seqS ?_
  refine Tri.sg [0,3,9,10,11] [] (z00 3) ?_
  refine Tri.ln 9 p0.length fun hlena2 => ?_
  refine Tri.rK 11 (0) (fun (x:Empty) s=>False) (fun (a2:Int)=>⟨[(0,cD (lD 1 (fun xs=>[encL 6 z01 xs]) p0)),(3,cD (dI a2)),(9,cD (lD 1 (fun xs=>[encL 6 z01 xs]) p0)),(10,cD (dI (p0.length:Int)))],[]⟩) [11,0,3,9,10] [] [12,11,0,3,9,10] [] [0,3,9,10] [] [11,0,3,9,10] [] h hlena2 ?_ ?_ ?_
  ·intro i1 a2 c hii1 h
   refine Tri.sg [0,3,5,9,10,11] [] (ai (show ((0:Int)≤((i1:Nat):Int)∧((i1:Nat):Int) < (p0.length:Int)) from ⟨by omega,by omega⟩) (z00 2)) ?_
   refine Tri.sg [0,3,9,10,11] [] (z00 5) ?_
   refine Tri.sg [0,3,9,10,11,20] [] (z00 2) ?_
   refine Tri.condK h (fun h => ?_) (fun h => ?_)
   ·refine Tri.reg ?_
    cases h
   ·refine Tri.kp [11,0,3,9,10] [] ?_
    refine Tri.skip ?_
    cases h
    exact kr
  ·intro a3 h
   refine Tri.seqS ?_
   refine Tri.reg ?_
   refine At.sg 1 [0,23] [] (z00 1) ?_
   obtain ⟨r4,hr4,h⟩:=z04 h
   refine At.cL 0 [] [.c (.zero),cD (dI a3)] [(6000,30384)] [0] [] (z4h hr4) (.flat (.refl _) rfl rfl (.flat (.refl _) rfl rfl .nil)) ?_
   refine At.sg 1 [0,6] [30384] (z00 1) ?_
   refine At.done rfl ?_
   refine Tri.seqS ?_
   refine Tri.sg [6,25,26,27] [30384] (z00 3) ?_
   refine Tri.ln 25 p0.length fun hlena6 => ?_
   refine Tri.rK 27 (r4) (fun (x:Empty) s=>False) (fun (a6:List Update)=>⟨[(6,.c (oC 30384 6 a6)),(25,cD (lD 1 (fun xs=>[encL 6 z01 xs]) p0)),(26,cD (dI (p0.length:Int)))],[(30384,vL 6 z01 a6)]⟩) [27,6,25,26] [30384] [28,27,6,25,26] [30384] [6,25,26] [30384] [27,6,25,26] [30384] h hlena6 ?_ ?_ ?_
   ·intro i5 a6 c hii5 h
    refine Tri.sg [6,8,25,26,27] [30384] (ai (show ((0:Int)≤((i5:Nat):Int)∧((i5:Nat):Int) < (p0.length:Int)) from ⟨by omega,by omega⟩) (z00 2)) ?_
    refine Tri.reg ?_
    refine At.seg 2 [25,26,27,31,32] [30384] (s':=⟨[(25,cD (lD 1 (fun xs=>[encL 6 z01 xs]) p0)),(26,cD (dI (p0.length:Int))),(27,cD (dI ((i5:Nat):Int))),(31,.c (oC 30384 6 a6)),(32,cD (lD 6 z01 (p0.getD i5 default)))],[(30384,vL 6 z01 a6)]⟩) (by kernel_rfl) (z00 2) ?_
    obtain ⟨hc8,h⟩:=z03 h
    refine At.one rfl (One.appendT (e:=56) (es:=6) (z01) a6 (p0.getD i5 default) rfl rfl rfl rfl rfl (.of 56 80 [.zero,.zero,.d (dU 0),.d (dU 0),.d (dU 0),.d (dI 0)] (by kernel_rfl) (by kernel_rfl) (by kernel_rfl) (by kernel_rfl) rfl (by kernel_rfl) rfl) rfl rfl rfl (.list rfl (fun _ _=>rfl)) hc8) ?_
    refine At.sg 1 [27,6,25,26] [30384] (z00 1) ?_
    refine At.done rfl ?_
    cases h
    exact kr
   ·intro a7 h
    refine Tri.sg [2] [30384] (z00 2) ?_
    refine Tri.keep [2] [30384] (s':=⟨[(2,.c (oC 30384 6 a7))],[(30384,vL 6 z01 a7)]⟩) (by kernel_rfl) ?_
    refine Tri.rename 30384 6000 ⟨[(2,.c (oC 6000 6 a7))],[(6000,vL 6 z01 a7)]⟩ (by kernel_rfl) rfl rfl rfl ?_
    refine Tri.ret ?_
    cases h
    exact RetAt.k
   · exact fun x=>x.elim
  · exact fun x=>x.elim
theorem zhs {p0:Value} {q:Bool} (h:z8e p0=some q) :
    Summ Tryz.prog 129 [.agg (cValue p0)] [] (cD (.bool q)) []:=by
  refine Summ.intro Tryz.func129 rfl (by kernel_rfl) (by kernel_rfl) [] rfl ?_
  rintro ⟨P,w0,G0,V,LL,lk,N, φ0,fx⟩ rfl rfl rfl rfl
  unfold z8e at h
  refine Tri.sg [1] [1] (z00 2) ?_
  refine Tri.seqS ?_
  refine Tri.sg [1,4] [1] (z00 2) ?_
  refine Tri.condK h (fun h => ?_) (fun h => ?_)
  ·refine Tri.seqJ (fun (a1:Bool)=>⟨[(2,cD (.bool a1))],[]⟩) h (fun a1 h => ?_) (fun j2 h => ?_)
   ·refine Tri.ret ?_
    cases h
    exact RetAt.k
   ·refine Tri.reg ?_
    refine At.sg 4 [1,8] [1] (z00 4) ?_
    refine At.cs [8] h (fun h => ?_) (fun h => ?_)
    ·refine At.sg 6 [2] [] (z00 6) ?_
     refine At.done rfl ?_
     exact ⟨_,h,kr⟩
    ·refine At.sg 6 [2] [] (z00 2) ?_
     refine At.done rfl ?_
     exact ⟨_,h,kr⟩
  ·refine Tri.skip ?_
   refine Tri.sg [2] [] (z00 4) ?_
   refine Tri.ret ?_
   cases h
   exact RetAt.k
theorem zg8 {p0:Value} {q:Bool} (h:z8j p0=some q) :
  Summ Tryz.prog 128 [.agg (cValue p0)] [] (cD (.bool q)) []:=by
 refine Summ.intro Tryz.func128 rfl (by kernel_rfl) (by kernel_rfl) [] rfl ?_
 rintro ⟨P,w0,G0,V,LL,lk,N, φ0,fx⟩ rfl rfl rfl rfl
 unfold z8j at h
 refine Tri.sg [1] [1] (z00 2) ?_
 refine Tri.seqS ?_
 refine Tri.reg ?_
 refine At.sg 1 [3] [] (z00 1) ?_
 obtain ⟨r1,hr1,h⟩:=z04 h
 refine At.cA [] [.agg (cValue p0)] (zhs hr1) (.cons (.refl _) .nil) ?_
 refine At.sg 2 [2] [] (z00 2) ?_
 refine At.done rfl ?_
 refine Tri.ret ?_
 cases h
 exact RetAt.k
theorem z36 {p0:List Value} {q:Int} (h:z0u p0=some q) :
    Summ Tryz.prog 142 [cD (lD 3 z05 p0),cD (.fn 128 [])] [] (cD (dI q)) []:=by
  refine Summ.intro Tryz.func142 rfl (by kernel_rfl) (by kernel_rfl) [] rfl ?_
  rintro ⟨P,w0,G0,V,LL,lk,N, φ0,fx⟩ rfl rfl rfl rfl
  unfold z0u at h
  refine Tri.sg [0,1] [] (z00 1) ?_
  refine Tri.seqS ?_
  refine Tri.sg [0,1,7,8] [] (z00 3) ?_
  refine Tri.ln 0 p0.length fun hlena2 => ?_
  refine Tri.rK 8 () (fun (x:Int) s=>RetAt Tryz.prog Tryz.f142 (cD (dI x)) [] s) (fun (a2:Unit)=>⟨[(0,cD (lD 3 z05 p0)),(1,cD (.fn 128 [])),(7,cD (dI (p0.length:Int)))],[]⟩) [8,0,1,7] [] [9,8,0,1,7] [] [0,1,7] [] [8,0,1,7] [] h hlena2 ?_ ?_ ?_
  ·intro i1 a2 c hii1 h
   refine Tri.sg [0,1,5,7,8] [] (z00 2) ?_
   refine Tri.seqS ?_
   refine Tri.reg ?_
   refine At.sg 5 [0,1,5,7,8,11,15] [] (tN 3 (ai (show ((0:Int)≤((i1:Nat):Int)∧((i1:Nat):Int) < (p0.length:Int)) from ⟨by omega,by omega⟩) (z00 1))) ?_
   obtain ⟨r4,hr4,h⟩:=z04 h
   refine At.cA [] [.agg (cValue (p0.getD i1 default))] (zg8 hr4) (.cons (.refl _) .nil) ?_
   refine At.done rfl ?_
   refine Tri.condK h (fun h => ?_) (fun h => ?_)
   ·refine Tri.sg [4] [] (z00 2) ?_
    refine Tri.ret ?_
    cases h
    exact RetAt.k
   ·refine Tri.kp [8,0,1,7] [] ?_
    refine Tri.skip ?_
    cases h
    exact kr
  ·intro a3 h
   refine Tri.sg [4] [] (z00 1) ?_
   refine Tri.ret ?_
   cases h
   exact RetAt.k
  · exact fun x s hx hr=>by cases hx; exact hr
theorem z2x {p0:List Value} {q:Bool} (h:z0s p0=some q) :
  Summ Tryz.prog 127 [cD (lD 3 z05 p0),cD (.fn 128 [])] [] (cD (.bool q)) []:=by
 refine Summ.intro Tryz.func127 rfl (by kernel_rfl) (by kernel_rfl) [] rfl ?_
 rintro ⟨P,w0,G0,V,LL,lk,N, φ0,fx⟩ rfl rfl rfl rfl
 unfold z0s at h
 refine Tri.sg [0,1] [] (z00 1) ?_
 refine Tri.seqS ?_
 refine Tri.reg ?_
 refine At.sg 2 [5,6] [] (z00 2) ?_
 obtain ⟨r1,hr1,h⟩:=z04 h
 refine At.cA [] [cD (lD 3 z05 p0),cD (.fn 128 [])] (z36 hr1) (.cons (.refl _) (.cons (.refl _) .nil)) ?_
 refine At.sg 2 [4] [] (z00 2) ?_
 refine At.done rfl ?_
 refine Tri.ret ?_
 cases h
 exact RetAt.k
theorem z83 {p0:List Value} {q:Int} (h:z7i p0=some q) :
    Summ Tryz.prog 97 [cD (lD 3 z05 p0)] [] (cD (dI q)) []:=by
  refine Summ.intro Tryz.func97 rfl (by kernel_rfl) (by kernel_rfl) [] rfl ?_
  rintro ⟨P,w0,G0,V,LL,lk,N, φ0,fx⟩ rfl rfl rfl rfl
  unfold z7i at h
  refine Tri.sg [0] [] (z00 1) ?_
  refine Tri.seqS ?_
  refine Tri.seqJ (fun (a1:Bool)=>⟨[(9,cD (.bool a1))],[]⟩) h (fun a1 h => ?_) (fun j2 h => ?_)
  ·refine Tri.condK h (fun h => ?_) (fun h => ?_)
   ·refine Tri.sg [2] [] (z00 1) ?_
    refine Tri.ret ?_
    cases h
    exact RetAt.k
   ·refine Tri.skip ?_
    refine Tri.sg [2] [] (z00 1) ?_
    refine Tri.ret ?_
    cases h
    exact RetAt.k
  ·refine Tri.reg ?_
   refine At.sg 4 [0,6] [] (z00 4) ?_
   refine At.cs [6] h (fun h => ?_) (fun h => ?_)
   ·refine At.sg 3 [9] [] (z00 1) ?_
    refine At.done rfl ?_
    exact ⟨_,h,kr⟩
   ·refine At.sg 1 [6,7] [] (z00 1) ?_
    obtain ⟨r3,hr3,h⟩:=z04 h
    refine At.cA [] [cD (lD 3 z05 p0),cD (.fn 128 [])] (z2x hr3) (.cons (.refl _) (.cons (.refl _) .nil)) ?_
    refine At.sg 1 [9] [] (z00 1) ?_
    refine At.done rfl ?_
    exact ⟨_,h,kr⟩
theorem za5 {fuel:Nat} {p0:List Time} {q:Int} (h:z3b fuel p0=some q) :
    Summ Tryz.prog 67 [.c (wC 3 z02 p0)] [] (cD (dI q)) []:=by
  refine Summ.intro Tryz.func67 rfl (by kernel_rfl) (by kernel_rfl) [] rfl ?_
  rintro ⟨P,w0,G0,V,LL,lk,N, φ0,fx⟩ rfl rfl rfl rfl
  unfold z3b at h
  refine Tri.sg [0] [] (z00 1) ?_
  refine Tri.seqS ?_
  refine Tri.sg [5,6,7] [] (z00 3) ?_
  refine Tri.ln 5 p0.length fun hlena2 => ?_
  refine Tri.rK 7 () (fun (x:Int) s=>RetAt Tryz.prog Tryz.f67 (cD (dI x)) [] s) (fun (a2:Unit)=>⟨[(5,.c (wC 3 z02 p0)),(6,cD (dI (p0.length:Int)))],[]⟩) [7,5,6] [] [8,7,5,6] [] [5,6] [] [7,5,6] [] h hlena2 ?_ ?_ ?_
  ·intro i1 a2 c hii1 h
   refine Tri.sg [4,5,6,7] [4] (ai (show ((0:Int)≤((i1:Nat):Int)∧((i1:Nat):Int) < (p0.length:Int)) from ⟨by omega,by omega⟩) (z00 3)) ?_
   refine Tri.seqS ?_
   obtain ⟨r4,hr4,h⟩:=z04 h
   refine Tri.dC [.a [4] [],.a [11] [4],.a [4] [],.a [13] [4],.m ⟨[(14,.c (.bsl 4 1 1 2))],[(4,.box (cTime (p0.getD i1 default)))]⟩ ⟨[(15,cD (dU r4))],[]⟩ [] [] [],.a [12,15] [],.a [16] []] [5,6,7,17] [] (tN 3 (ai (show (((0:Int)≤0∧(0:Int)≤2∧(2:Int)≤2)∧(0:Int) < 2) from ⟨⟨by decide,by decide,by decide⟩,by decide⟩) (z00 2))) (.a (.a (.a (.a (.m ?_ (.a (.a .z))))))) ?_
   · exact DOk.cA [] [.c (.bsl 4 1 1 2)] (z54 hr4) fun r=>(.cons (.c (.bsl (cs:=[.d (dU ((p0.getD i1 default).epoch)),.d (dU ((p0.getD i1 default).loop.1)),.d (dU ((p0.getD i1 default).loop.2))]) (ds:=[dU ((p0.getD i1 default).loop.1),dU ((p0.getD i1 default).loop.2)]) rfl rfl rfl rfl (by unfold maxN; omega) (fun i hi=>by match i,hi with | 0,_=>rfl | 1,_=>rfl))) .nil)
   refine Tri.condK h (fun h => ?_) (fun h => ?_)
   ·refine Tri.sg [2] [] (z00 1) ?_
    refine Tri.ret ?_
    cases h
    exact RetAt.k
   ·refine Tri.kp [7,5,6] [] ?_
    refine Tri.skip ?_
    cases h
    exact kr
  ·intro a3 h
   refine Tri.sg [2] [] (z00 1) ?_
   refine Tri.ret ?_
   cases h
   exact RetAt.k
  · exact fun x s hx hr=>by cases hx; exact hr
theorem za4 {p0:List Int} {q:Int} (h:z99 p0=some q) :
    Summ Tryz.prog 65 [.c (wC 1 (z2d .i64) p0)] [] (cD (dI q)) []:=by
  refine Summ.intro Tryz.func65 rfl (by kernel_rfl) (by kernel_rfl) [] rfl ?_
  rintro ⟨P,w0,G0,V,LL,lk,N, φ0,fx⟩ rfl rfl rfl rfl
  unfold z99 at h
  refine Tri.sg [0] [] (z00 1) ?_
  refine Tri.sg [0,3] [] (z00 1) ?_
  refine Tri.seqS ?_
  refine Tri.sg [3,6,7,8] [] (z00 3) ?_
  refine Tri.ln 6 p0.length fun hlena2 => ?_
  refine Tri.rK 8 () (fun (x:Int) s=>RetAt Tryz.prog Tryz.f65 (cD (dI x)) [] s) (fun (a2:Unit)=>⟨[(3,cD (dI 0)),(6,.c (wC 1 (z2d .i64) p0)),(7,cD (dI (p0.length:Int)))],[]⟩) [8,3,6,7] [] [9,8,3,6,7] [] [3,6,7] [] [8,3,6,7] [] h hlena2 ?_ ?_ ?_
  ·intro i1 a2 c hii1 h
   refine Tri.sg [3,5,6,7,8] [] (ai (show ((0:Int)≤((i1:Nat):Int)∧((i1:Nat):Int) < (p0.length:Int)) from ⟨by omega,by omega⟩) (z00 2)) ?_
   refine Tri.sg [3,5,6,7,8,14] [] (z00 3) ?_
   refine Tri.condK h (fun h => ?_) (fun h => ?_)
   ·refine Tri.sg [2] [] (z00 2) ?_
    refine Tri.ret ?_
    cases h
    exact RetAt.k
   ·refine Tri.kp [8,3,6,7] [] ?_
    refine Tri.skip ?_
    cases h
    exact kr
  ·intro a3 h
   refine Tri.sg [2] [] (z00 2) ?_
   refine Tri.ret ?_
   cases h
   exact RetAt.k
  · exact fun x s hx hr=>by cases hx; exact hr
theorem zga {fuel:Nat} {p0:List Update} {q:Int} (h:z5m fuel p0=some q) :
    Summ Tryz.prog 66 [.c (wC 6 z01 p0)] [] (cD (dI q)) []:=by
  refine Summ.intro Tryz.func66 rfl (by kernel_rfl) (by kernel_rfl) [] rfl ?_
  rintro ⟨P,w0,G0,V,LL,lk,N, φ0,fx⟩ rfl rfl rfl rfl
  unfold z5m at h
  refine Tri.sg [0] [] (z00 1) ?_
  refine Tri.seqS ?_
  refine Tri.sg [6,7,8] [] (z00 3) ?_
  refine Tri.ln 6 p0.length fun hlena2 => ?_
  refine Tri.rK 8 () (fun (x:Int) s=>RetAt Tryz.prog Tryz.f66 (cD (dI x)) [] s) (fun (a2:Unit)=>⟨[(6,.c (wC 6 z01 p0)),(7,cD (dI (p0.length:Int)))],[]⟩) [8,6,7] [] [9,8,6,7] [] [6,7] [] [8,6,7] [] h hlena2 ?_ ?_ ?_
  ·intro i1 a2 c hii1 h
   refine Tri.sg [4,6,7,8] [4] (ai (show ((0:Int)≤((i1:Nat):Int)∧((i1:Nat):Int) < (p0.length:Int)) from ⟨by omega,by omega⟩) (z00 3)) ?_
   refine Tri.seqS ?_
   obtain ⟨r4,hr4,h⟩:=z04 h
   obtain ⟨r5,hr5,h⟩:=z04 h
   obtain ⟨r6,hr6,h⟩:=z04 h
   obtain ⟨r7,hr7,h⟩:=z04 h
   refine Tri.dC [.a [4] [],.a [12] [4],.m ⟨[(13,cD (lD 3 z05 ((p0.getD i1 default).key)))],[]⟩ ⟨[(14,cD (dI r4))],[]⟩ [] [] [],.a [4] [],.a [15] [4],.m ⟨[(16,cD (lD 3 z05 ((p0.getD i1 default).row)))],[]⟩ ⟨[(17,cD (dI r5))],[]⟩ [] [] [],.a [4] [],.a [18] [4],.m ⟨[(19,.agg [.d (dU ((p0.getD i1 default).time.epoch)),.d (dU ((p0.getD i1 default).time.loop.1)),.d (dU ((p0.getD i1 default).time.loop.2))])],[]⟩ ⟨[(20,.c (oC 20 3 ([(p0.getD i1 default).time]:List Time)))],[(20,vL 3 z02 ([(p0.getD i1 default).time]:List Time))]⟩ [20] [] [],.m ⟨[(20,.c (oC 20 3 ([(p0.getD i1 default).time]:List Time)))],[(20,vL 3 z02 ([(p0.getD i1 default).time]:List Time))]⟩ ⟨[(21,cD (dI r6))],[]⟩ [] [] [],.m ⟨[(14,cD (dI r4)),(17,cD (dI r5)),(21,cD (dI r6))],[]⟩ ⟨[(22,.c (oC 22 1 ([r4,r5,r6]:List Int)))],[(22,vL 1 (z2d .i64) ([r4,r5,r6]:List Int))]⟩ [22] [] [],.m ⟨[(22,.c (oC 22 1 ([r4,r5,r6]:List Int)))],[(22,vL 1 (z2d .i64) ([r4,r5,r6]:List Int))]⟩ ⟨[(23,cD (dI r7))],[]⟩ [] [] [],.a [23] []] [5,6,7,8] [] (z00 7) (.a (.a (.m ?_ (.a (.a (.m ?_ (.a (.a (.m ?_ (.m ?_ (.m ?_ (.m ?_ (.a .z))))))))))))) ?_
   · exact DOk.cA [] [cD (lD 3 z05 ((p0.getD i1 default).key))] (z83 hr4) fun r=>(.cons (.refl _) .nil)
   · exact DOk.cA [] [cD (lD 3 z05 ((p0.getD i1 default).row))] (z83 hr5) fun r=>(.cons (.refl _) .nil)
   · exact DOk.one fun r hr=>One.buildT (e:=54) (es:=3) (z:=[.d (dU 0),.d (dU 0),.d (dU 0)]) (cells:=[.d (dU ((p0.getD i1 default).time.epoch)),.d (dU ((p0.getD i1 default).time.loop.1)),.d (dU ((p0.getD i1 default).time.loop.2))]) (z02) ([(p0.getD i1 default).time]:List Time) rfl (by kernel_rfl) rfl rfl (St.noRef_app (by kernel_rfl) (hr 20 (by simp))) (by kernel_rfl) rfl (by kernel_rfl) rfl rfl rfl (by kernel_rfl) rfl ⟨⟨rfl,.refl _⟩,trivial⟩
   · exact DOk.cA [] [.c (oC 20 3 ([(p0.getD i1 default).time]:List Time))] (za5 hr6) fun r=>(.cons (AVArg.view (z02) ([(p0.getD i1 default).time]:List Time) rfl) .nil)
   · exact DOk.one fun r hr=>One.buildT (e:=27) (es:=1) (z:=[.d (dI 0)]) (cells:=[.d (dI r4),.d (dI r5),.d (dI r6)]) (z2d .i64) ([r4,r5,r6]:List Int) rfl (by kernel_rfl) rfl rfl (St.noRef_app (by kernel_rfl) (hr 22 (by simp))) (by kernel_rfl) rfl (by kernel_rfl) rfl rfl rfl (by kernel_rfl) rfl ⟨⟨rfl,.refl _⟩,⟨rfl,.refl _⟩,⟨rfl,.refl _⟩,trivial⟩
   · exact DOk.cA [] [.c (oC 22 1 ([r4,r5,r6]:List Int))] (za4 hr7) fun r=>(.cons (AVArg.view (z2d .i64) ([r4,r5,r6]:List Int) rfl) .nil)
   refine Tri.sg [5,6,7,8,25] [] (z00 2) ?_
   refine Tri.condK h (fun h => ?_) (fun h => ?_)
   ·refine Tri.sg [2] [] (z00 2) ?_
    refine Tri.ret ?_
    cases h
    exact RetAt.k
   ·refine Tri.kp [8,6,7] [] ?_
    refine Tri.skip ?_
    cases h
    exact kr
  ·intro a3 h
   refine Tri.sg [2] [] (z00 1) ?_
   refine Tri.ret ?_
   cases h
   exact RetAt.k
  · exact fun x s hx hr=>by cases hx; exact hr
theorem ze4 {fuel:Nat} {p0:List Update} {q:Int} (h:z5m fuel p0=some q) :
    Summ Tryz.prog 66 [cD (lD 6 z01 p0)] [] (cD (dI q)) []:=by
  refine Summ.intro Tryz.func66 rfl (by kernel_rfl) (by kernel_rfl) [] rfl ?_
  rintro ⟨P,w0,G0,V,LL,lk,N, φ0,fx⟩ rfl rfl rfl rfl
  unfold z5m at h
  refine Tri.sg [0] [] (z00 1) ?_
  refine Tri.seqS ?_
  refine Tri.sg [6,7,8] [] (z00 3) ?_
  refine Tri.ln 6 p0.length fun hlena2 => ?_
  refine Tri.rK 8 () (fun (x:Int) s=>RetAt Tryz.prog Tryz.f66 (cD (dI x)) [] s) (fun (a2:Unit)=>⟨[(6,cD (lD 6 z01 p0)),(7,cD (dI (p0.length:Int)))],[]⟩) [8,6,7] [] [9,8,6,7] [] [6,7] [] [8,6,7] [] h hlena2 ?_ ?_ ?_
  ·intro i1 a2 c hii1 h
   refine Tri.sg [4,6,7,8] [4] (ai (show ((0:Int)≤((i1:Nat):Int)∧((i1:Nat):Int) < (p0.length:Int)) from ⟨by omega,by omega⟩) (z00 3)) ?_
   refine Tri.seqS ?_
   obtain ⟨r4,hr4,h⟩:=z04 h
   obtain ⟨r5,hr5,h⟩:=z04 h
   obtain ⟨r6,hr6,h⟩:=z04 h
   obtain ⟨r7,hr7,h⟩:=z04 h
   refine Tri.dC [.a [4] [],.a [12] [4],.m ⟨[(13,cD (lD 3 z05 ((p0.getD i1 default).key)))],[]⟩ ⟨[(14,cD (dI r4))],[]⟩ [] [] [],.a [4] [],.a [15] [4],.m ⟨[(16,cD (lD 3 z05 ((p0.getD i1 default).row)))],[]⟩ ⟨[(17,cD (dI r5))],[]⟩ [] [] [],.a [4] [],.a [18] [4],.m ⟨[(19,.agg [.d (dU ((p0.getD i1 default).time.epoch)),.d (dU ((p0.getD i1 default).time.loop.1)),.d (dU ((p0.getD i1 default).time.loop.2))])],[]⟩ ⟨[(20,.c (oC 20 3 ([(p0.getD i1 default).time]:List Time)))],[(20,vL 3 z02 ([(p0.getD i1 default).time]:List Time))]⟩ [20] [] [],.m ⟨[(20,.c (oC 20 3 ([(p0.getD i1 default).time]:List Time)))],[(20,vL 3 z02 ([(p0.getD i1 default).time]:List Time))]⟩ ⟨[(21,cD (dI r6))],[]⟩ [] [] [],.m ⟨[(14,cD (dI r4)),(17,cD (dI r5)),(21,cD (dI r6))],[]⟩ ⟨[(22,.c (oC 22 1 ([r4,r5,r6]:List Int)))],[(22,vL 1 (z2d .i64) ([r4,r5,r6]:List Int))]⟩ [22] [] [],.m ⟨[(22,.c (oC 22 1 ([r4,r5,r6]:List Int)))],[(22,vL 1 (z2d .i64) ([r4,r5,r6]:List Int))]⟩ ⟨[(23,cD (dI r7))],[]⟩ [] [] [],.a [23] []] [5,6,7,8] [] (z00 7) (.a (.a (.m ?_ (.a (.a (.m ?_ (.a (.a (.m ?_ (.m ?_ (.m ?_ (.m ?_ (.a .z))))))))))))) ?_
   · exact DOk.cA [] [cD (lD 3 z05 ((p0.getD i1 default).key))] (z83 hr4) fun r=>(.cons (.refl _) .nil)
   · exact DOk.cA [] [cD (lD 3 z05 ((p0.getD i1 default).row))] (z83 hr5) fun r=>(.cons (.refl _) .nil)
   · exact DOk.one fun r hr=>One.buildT (e:=54) (es:=3) (z:=[.d (dU 0),.d (dU 0),.d (dU 0)]) (cells:=[.d (dU ((p0.getD i1 default).time.epoch)),.d (dU ((p0.getD i1 default).time.loop.1)),.d (dU ((p0.getD i1 default).time.loop.2))]) (z02) ([(p0.getD i1 default).time]:List Time) rfl (by kernel_rfl) rfl rfl (St.noRef_app (by kernel_rfl) (hr 20 (by simp))) (by kernel_rfl) rfl (by kernel_rfl) rfl rfl rfl (by kernel_rfl) rfl ⟨⟨rfl,.refl _⟩,trivial⟩
   · exact DOk.cA [] [.c (oC 20 3 ([(p0.getD i1 default).time]:List Time))] (za5 hr6) fun r=>(.cons (AVArg.view (z02) ([(p0.getD i1 default).time]:List Time) rfl) .nil)
   · exact DOk.one fun r hr=>One.buildT (e:=27) (es:=1) (z:=[.d (dI 0)]) (cells:=[.d (dI r4),.d (dI r5),.d (dI r6)]) (z2d .i64) ([r4,r5,r6]:List Int) rfl (by kernel_rfl) rfl rfl (St.noRef_app (by kernel_rfl) (hr 22 (by simp))) (by kernel_rfl) rfl (by kernel_rfl) rfl rfl rfl (by kernel_rfl) rfl ⟨⟨rfl,.refl _⟩,⟨rfl,.refl _⟩,⟨rfl,.refl _⟩,trivial⟩
   · exact DOk.cA [] [.c (oC 22 1 ([r4,r5,r6]:List Int))] (za4 hr7) fun r=>(.cons (AVArg.view (z2d .i64) ([r4,r5,r6]:List Int) rfl) .nil)
   refine Tri.sg [5,6,7,8,25] [] (z00 2) ?_
   refine Tri.condK h (fun h => ?_) (fun h => ?_)
   ·refine Tri.sg [2] [] (z00 2) ?_
    refine Tri.ret ?_
    cases h
    exact RetAt.k
   ·refine Tri.kp [8,6,7] [] ?_
    refine Tri.skip ?_
    cases h
    exact kr
  ·intro a3 h
   refine Tri.sg [2] [] (z00 1) ?_
   refine Tri.ret ?_
   cases h
   exact RetAt.k
  · exact fun x s hx hr=>by cases hx; exact hr
theorem zdz {p0:Value} {q:Int} (h:z9h p0=some q) :
    Summ Tryz.prog 134 [.agg (cValue p0)] [] (cD (dI q)) []:=by
  refine Summ.intro Tryz.func134 rfl (by kernel_rfl) (by kernel_rfl) [] rfl ?_
  rintro ⟨P,w0,G0,V,LL,lk,N, φ0,fx⟩ rfl rfl rfl rfl
  unfold z9h at h
  refine Tri.sg [1] [1] (z00 2) ?_
  refine Tri.seqS ?_
  refine Tri.sg [4] [] (z00 2) ?_
  refine Tri.condK h (fun h => ?_) (fun h => ?_)
  ·refine Tri.sg [2] [] (z00 1) ?_
   refine Tri.ret ?_
   cases h
   exact RetAt.k
  ·refine Tri.skip ?_
   refine Tri.sg [2] [] (z00 1) ?_
   refine Tri.ret ?_
   cases h
   exact RetAt.k
theorem zb4 {p0:Int} {q:Bool} (h:z7e p0=some q) :
  Summ Tryz.prog 145 [cD (dI p0)] [] (cD (.bool q)) []:=by
 refine Summ.intro Tryz.func145 rfl (by kernel_rfl) (by kernel_rfl) [] rfl ?_
 rintro ⟨P,w0,G0,V,LL,lk,N, φ0,fx⟩ rfl rfl rfl rfl
 unfold z7e at h
 refine Tri.sg [0] [] (z00 1) ?_
 refine Tri.sg [2] [] (z00 4) ?_
 refine Tri.ret ?_
 cases h
 exact RetAt.k
theorem zer {p0:Int} {p1:Int} {q:Int} (h:z6i p0 p1=some q) :
    Summ Tryz.prog 133 [cD (dI p0),cD (dI p1)] [] (cD (dI q)) []:=by
  refine Summ.intro Tryz.func133 rfl (by kernel_rfl) (by kernel_rfl) [] rfl ?_
  rintro ⟨P,w0,G0,V,LL,lk,N, φ0,fx⟩ rfl rfl rfl rfl
  unfold z6i at h
  refine Tri.sg [0,1] [] (z00 1) ?_
  refine Tri.seqS ?_
  refine Tri.reg ?_
  refine At.sg 1 [0,1,7] [] (z00 1) ?_
  obtain ⟨r1,hr1,h⟩:=z04 h
  refine At.cA [] [cD (dI p0)] (zb4 hr1) (.cons (.refl _) .nil) ?_
  refine At.sg 1 [0,1,5] [] (z00 1) ?_
  refine At.done rfl ?_
  refine Tri.seqS ?_
  refine Tri.reg ?_
  refine At.sg 1 [0,1,5,9] [] (z00 1) ?_
  obtain ⟨r2,hr2,h⟩:=z04 h
  refine At.cA [] [cD (dI p1)] (zb4 hr2) (.cons (.refl _) .nil) ?_
  refine At.sg 1 [0,1,5,6] [] (z00 1) ?_
  refine At.done rfl ?_
  refine Tri.seqS ?_
  refine Tri.sg [0,1,6,11] [] (z00 1) ?_
  refine Tri.condK h (fun h => ?_) (fun h => ?_)
  ·refine Tri.seqS ?_
   refine Tri.sg [12] [] (z00 1) ?_
   refine Tri.condK h (fun h => ?_) (fun h => ?_)
   ·refine Tri.sg [4] [] (z00 1) ?_
    refine Tri.ret ?_
    cases h
    exact RetAt.k
   ·refine Tri.skip ?_
    refine Tri.sg [4] [] (z00 1) ?_
    refine Tri.ret ?_
    cases h
    exact RetAt.k
  ·refine Tri.skip ?_
   refine Tri.seqS ?_
   refine Tri.sg [0,1,13] [] (z00 1) ?_
   refine Tri.condK h (fun h => ?_) (fun h => ?_)
   ·refine Tri.sg [4] [] (z00 1) ?_
    refine Tri.ret ?_
    cases h
    exact RetAt.k
   ·refine Tri.skip ?_
    refine Tri.seqS ?_
    refine Tri.sg [0,1,16] [] (z00 3) ?_
    refine Tri.condK h (fun h => ?_) (fun h => ?_)
    ·refine Tri.sg [4] [] (z00 1) ?_
     refine Tri.ret ?_
     cases h
     exact RetAt.k
    ·refine Tri.skip ?_
     refine Tri.seqS ?_
     refine Tri.sg [19] [] (z00 3) ?_
     refine Tri.condK h (fun h => ?_) (fun h => ?_)
     ·refine Tri.sg [4] [] (z00 1) ?_
      refine Tri.ret ?_
      cases h
      exact RetAt.k
     ·refine Tri.skip ?_
      refine Tri.sg [4] [] (z00 1) ?_
      refine Tri.ret ?_
      cases h
      exact RetAt.k
theorem z9l {p0:ByteArray} {q:Bool} (h:z63 p0=some q) :
  Summ Tryz.prog 146 [cD (.str p0)] [] (cD (.bool q)) []:=by
 refine Summ.intro Tryz.func146 rfl (by kernel_rfl) (by kernel_rfl) [] rfl ?_
 rintro ⟨P,w0,G0,V,LL,lk,N, φ0,fx⟩ rfl rfl rfl rfl
 unfold z63 at h
 refine Tri.sg [0] [] (z00 1) ?_
 refine Tri.sg [2] [] (z00 4) ?_
 refine Tri.ret ?_
 cases h
 exact RetAt.k
theorem zd2 {p0:ByteArray} {p1:ByteArray} {q:Int} (h:z52 p0 p1=some q) :
    Summ Tryz.prog 135 [cD (.str p0),cD (.str p1)] [] (cD (dI q)) []:=by
  refine Summ.intro Tryz.func135 rfl (by kernel_rfl) (by kernel_rfl) [] rfl ?_
  rintro ⟨P,w0,G0,V,LL,lk,N, φ0,fx⟩ rfl rfl rfl rfl
  unfold z52 at h
  refine Tri.sg [0,1] [] (z00 1) ?_
  refine Tri.seqS ?_
  refine Tri.reg ?_
  refine At.sg 1 [0,1,7] [] (z00 1) ?_
  obtain ⟨r1,hr1,h⟩:=z04 h
  refine At.cA [] [cD (.str p0)] (z9l hr1) (.cons (.refl _) .nil) ?_
  refine At.sg 1 [0,1,5] [] (z00 1) ?_
  refine At.done rfl ?_
  refine Tri.seqS ?_
  refine Tri.reg ?_
  refine At.sg 1 [0,1,5,9] [] (z00 1) ?_
  obtain ⟨r2,hr2,h⟩:=z04 h
  refine At.cA [] [cD (.str p1)] (z9l hr2) (.cons (.refl _) .nil) ?_
  refine At.sg 1 [0,1,5,6] [] (z00 1) ?_
  refine At.done rfl ?_
  refine Tri.seqS ?_
  refine Tri.sg [0,1,6,11] [] (z00 1) ?_
  refine Tri.condK h (fun h => ?_) (fun h => ?_)
  ·refine Tri.seqS ?_
   refine Tri.sg [12] [] (z00 1) ?_
   refine Tri.condK h (fun h => ?_) (fun h => ?_)
   ·refine Tri.sg [4] [] (z00 1) ?_
    refine Tri.ret ?_
    cases h
    exact RetAt.k
   ·refine Tri.skip ?_
    refine Tri.sg [4] [] (z00 1) ?_
    refine Tri.ret ?_
    cases h
    exact RetAt.k
  ·refine Tri.skip ?_
   refine Tri.seqS ?_
   refine Tri.sg [0,1,13] [] (z00 1) ?_
   refine Tri.condK h (fun h => ?_) (fun h => ?_)
   ·refine Tri.sg [4] [] (z00 1) ?_
    refine Tri.ret ?_
    cases h
    exact RetAt.k
   ·refine Tri.skip ?_
    refine Tri.seqS ?_
    refine Tri.sg [0,1,16] [] (z00 3) ?_
    refine Tri.condK h (fun h => ?_) (fun h => ?_)
    ·refine Tri.sg [4] [] (z00 1) ?_
     refine Tri.ret ?_
     cases h
     exact RetAt.k
    ·refine Tri.skip ?_
     refine Tri.seqS ?_
     refine Tri.sg [19] [] (z00 3) ?_
     refine Tri.condK h (fun h => ?_) (fun h => ?_)
     ·refine Tri.sg [4] [] (z00 1) ?_
      refine Tri.ret ?_
      cases h
      exact RetAt.k
     ·refine Tri.skip ?_
      refine Tri.sg [4] [] (z00 1) ?_
      refine Tri.ret ?_
      cases h
      exact RetAt.k
theorem za8 {p0:Int} {q:Bool} (h:z6s p0=some q) :
  Summ Tryz.prog 147 [cD (dI p0)] [] (cD (.bool q)) []:=by
 refine Summ.intro Tryz.func147 rfl (by kernel_rfl) (by kernel_rfl) [] rfl ?_
 rintro ⟨P,w0,G0,V,LL,lk,N, φ0,fx⟩ rfl rfl rfl rfl
 unfold z6s at h
 refine Tri.sg [0] [] (z00 1) ?_
 refine Tri.sg [2] [] (z00 4) ?_
 refine Tri.ret ?_
 cases h
 exact RetAt.k
theorem zd9 {p0:Int} {p1:Int} {q:Int} (h:z5i p0 p1=some q) :
    Summ Tryz.prog 136 [cD (dI p0),cD (dI p1)] [] (cD (dI q)) []:=by
  refine Summ.intro Tryz.func136 rfl (by kernel_rfl) (by kernel_rfl) [] rfl ?_
  rintro ⟨P,w0,G0,V,LL,lk,N, φ0,fx⟩ rfl rfl rfl rfl
  unfold z5i at h
  refine Tri.sg [0,1] [] (z00 1) ?_
  refine Tri.seqS ?_
  refine Tri.reg ?_
  refine At.sg 1 [0,1,7] [] (z00 1) ?_
  obtain ⟨r1,hr1,h⟩:=z04 h
  refine At.cA [] [cD (dI p0)] (za8 hr1) (.cons (.refl _) .nil) ?_
  refine At.sg 1 [0,1,5] [] (z00 1) ?_
  refine At.done rfl ?_
  refine Tri.seqS ?_
  refine Tri.reg ?_
  refine At.sg 1 [0,1,5,9] [] (z00 1) ?_
  obtain ⟨r2,hr2,h⟩:=z04 h
  refine At.cA [] [cD (dI p1)] (za8 hr2) (.cons (.refl _) .nil) ?_
  refine At.sg 1 [0,1,5,6] [] (z00 1) ?_
  refine At.done rfl ?_
  refine Tri.seqS ?_
  refine Tri.sg [0,1,6,11] [] (z00 1) ?_
  refine Tri.condK h (fun h => ?_) (fun h => ?_)
  ·refine Tri.seqS ?_
   refine Tri.sg [12] [] (z00 1) ?_
   refine Tri.condK h (fun h => ?_) (fun h => ?_)
   ·refine Tri.sg [4] [] (z00 1) ?_
    refine Tri.ret ?_
    cases h
    exact RetAt.k
   ·refine Tri.skip ?_
    refine Tri.sg [4] [] (z00 1) ?_
    refine Tri.ret ?_
    cases h
    exact RetAt.k
  ·refine Tri.skip ?_
   refine Tri.seqS ?_
   refine Tri.sg [0,1,13] [] (z00 1) ?_
   refine Tri.condK h (fun h => ?_) (fun h => ?_)
   ·refine Tri.sg [4] [] (z00 1) ?_
    refine Tri.ret ?_
    cases h
    exact RetAt.k
   ·refine Tri.skip ?_
    refine Tri.seqS ?_
    refine Tri.sg [0,1,16] [] (z00 3) ?_
    refine Tri.condK h (fun h => ?_) (fun h => ?_)
    ·refine Tri.sg [4] [] (z00 1) ?_
     refine Tri.ret ?_
     cases h
     exact RetAt.k
    ·refine Tri.skip ?_
     refine Tri.seqS ?_
     refine Tri.sg [19] [] (z00 3) ?_
     refine Tri.condK h (fun h => ?_) (fun h => ?_)
     ·refine Tri.sg [4] [] (z00 1) ?_
      refine Tri.ret ?_
      cases h
      exact RetAt.k
     ·refine Tri.skip ?_
      refine Tri.sg [4] [] (z00 1) ?_
      refine Tri.ret ?_
      cases h
      exact RetAt.k
theorem zg5 {p0:Value} {p1:Value} {q:Int} (h:z7c p0 p1=some q) :
    Summ Tryz.prog 110 [.agg (cValue p0),.agg (cValue p1)] [] (cD (dI q)) []:=by
  refine Summ.intro Tryz.func110 rfl (by kernel_rfl) (by kernel_rfl) [] rfl ?_
  rintro ⟨P,w0,G0,V,LL,lk,N, φ0,fx⟩ rfl rfl rfl rfl
  unfold z7c at h
  refine Tri.sg [2,3] [2,3] (z00 3) ?_
  refine Tri.seqS ?_
  refine Tri.blockB ?_
  refine Tri.sg [2,3,5] [2,3] (z00 6) ?_
  refine Tri.condK h (fun h => ?_) (fun h => ?_)
  ·refine Tri.seqS ?_
   obtain ⟨r1,hr1,h⟩:=z04 h
   obtain ⟨r2,hr2,h⟩:=z04 h
   obtain ⟨r3,hr3,h⟩:=z04 h
   refine Tri.dC [.a [2] [2],.m ⟨[(11,.agg (cValue p0))],[]⟩ ⟨[(12,cD (dI r1))],[]⟩ [] [] [],.a [3] [3],.m ⟨[(13,.agg (cValue p1))],[]⟩ ⟨[(14,cD (dI r2))],[]⟩ [] [] [],.m ⟨[(12,cD (dI r1)),(14,cD (dI r2))],[]⟩ ⟨[(15,cD (dI r3))],[]⟩ [] [] [],.a [15] []] [4] [] (z00 3) (.a (.m ?_ (.a (.m ?_ (.m ?_ (.a .z)))))) ?_
   · exact DOk.cA [] [.agg (cValue p0)] (zdz hr1) fun r=>(.cons (.refl _) .nil)
   · exact DOk.cA [] [.agg (cValue p1)] (zdz hr2) fun r=>(.cons (.refl _) .nil)
   · exact DOk.cA [] [cD (dI r1),cD (dI r2)] (zer hr3) fun r=>(.cons (.refl _) (.cons (.refl _) .nil))
   refine Tri.ret ?_
   cases h
   exact RetAt.k
  ·refine Tri.sg [2,3,16] [2,3] (z00 3) ?_
   refine Tri.condK h (fun h => ?_) (fun h => ?_)
   ·refine Tri.seqS ?_
    refine Tri.reg ?_
    refine At.sg 4 [20,22] [] (z00 4) ?_
    obtain ⟨r4,hr4,h⟩:=z04 h
    refine At.cA [] [cD (.str p0.s),cD (.str p1.s)] (zd2 hr4) (.cons (.refl _) (.cons (.refl _) .nil)) ?_
    refine At.sg 1 [4] [] (z00 1) ?_
    refine At.done rfl ?_
    refine Tri.ret ?_
    cases h
    exact RetAt.k
   ·refine Tri.skip ?_
    refine Tri.seqS ?_
    refine Tri.reg ?_
    refine At.sg 4 [25,27] [] (z00 4) ?_
    obtain ⟨r5,hr5,h⟩:=z04 h
    refine At.cA [] [cD (dI p0.n),cD (dI p1.n)] (zd9 hr5) (.cons (.refl _) (.cons (.refl _) .nil)) ?_
    refine At.sg 1 [4] [] (z00 1) ?_
    refine At.done rfl ?_
    refine Tri.ret ?_
    cases h
    exact RetAt.k
theorem z1u {p0:List Value} {p1:List Value} {q:Int} (h:z09 p0 p1=some q) :
    Summ Tryz.prog 109 [cD (lD 3 z05 p0),cD (lD 3 z05 p1),cD (.fn 110 [])] [] (cD (dI q)) []:=by
  refine Summ.intro Tryz.func109 rfl (by kernel_rfl) (by kernel_rfl) [] rfl ?_
  rintro ⟨P,w0,G0,V,LL,lk,N, φ0,fx⟩ rfl rfl rfl rfl
  unfold z09 at h
  refine Tri.sg [0,1,2] [] (z00 1) ?_
  refine Tri.seqS ?_
  refine Tri.sg [0,1,2,11,12,13] [] (z00 3) ?_
  refine Tri.ln 11 p0.length fun hlena2 => ?_
  refine Tri.rK 13 () (fun (x:Int) s=>RetAt Tryz.prog Tryz.f109 (cD (dI x)) [] s) (fun (a2:Unit)=>⟨[(0,cD (lD 3 z05 p0)),(1,cD (lD 3 z05 p1)),(2,cD (.fn 110 [])),(11,cD (lD 3 z05 p0)),(12,cD (dI (p0.length:Int)))],[]⟩) [13,0,1,2,11,12] [] [14,13,0,1,2,11,12] [] [0,1,2,11,12] [] [13,0,1,2,11,12] [] h hlena2 ?_ ?_ ?_
  ·intro i1 a2 c hii1 h
   refine Tri.sg [0,1,2,7,8,11,12,13] [8] (tN 1 (ai (show ((0:Int)≤((i1:Nat):Int)∧((i1:Nat):Int) < (p0.length:Int)) from ⟨by omega,by omega⟩) (z00 4))) ?_
   refine Tri.seqS ?_
   refine Tri.sg [0,1,2,7,8,11,12,13,21] [8] (z00 4) ?_
   refine Tri.condK h (fun h => ?_) (fun h => ?_)
   ·refine Tri.sg [6] [] (z00 1) ?_
    refine Tri.ret ?_
    cases h
    exact RetAt.k
   ·refine Tri.skip ?_
    obtain ⟨hc4,h⟩:=z03 h
    refine Tri.sg [0,1,2,8,9,11,12,13] [8,9] (tN 2 (ai hc4 (z00 3))) ?_
    refine Tri.seqS ?_
    refine Tri.reg ?_
    refine At.sg 3 [0,1,2,11,12,13,26,27,28] [] (z00 3) ?_
    obtain ⟨r5,hr5,h⟩:=z04 h
    refine At.cA [] [.agg (cValue (p0.getD i1 default)),.agg (cValue (p1.getD i1 default))] (zg5 hr5) (.cons (.refl _) (.cons (.refl _) .nil)) ?_
    refine At.sg 1 [0,1,2,10,11,12,13] [] (z00 1) ?_
    refine At.done rfl ?_
    refine Tri.sg [0,1,2,10,11,12,13,31] [] (z00 2) ?_
    refine Tri.condK h (fun h => ?_) (fun h => ?_)
    ·refine Tri.sg [6] [] (z00 2) ?_
     refine Tri.ret ?_
     cases h
     exact RetAt.k
    ·refine Tri.kp [13,0,1,2,11,12] [] ?_
     refine Tri.skip ?_
     cases h
     exact kr
  ·intro a3 h
   refine Tri.seqS ?_
   refine Tri.sg [38] [] (z00 5) ?_
   refine Tri.condK h (fun h => ?_) (fun h => ?_)
   ·refine Tri.sg [6] [] (z00 1) ?_
    refine Tri.ret ?_
    cases h
    exact RetAt.k
   ·refine Tri.skip ?_
    refine Tri.sg [6] [] (z00 1) ?_
    refine Tri.ret ?_
    cases h
    exact RetAt.k
  · exact fun x s hx hr=>by cases hx; exact hr
theorem z8i {p0:List Value} {p1:List Value} {q:Int} (h:z6t p0 p1=some q) :
  Summ Tryz.prog 73 [cD (lD 3 z05 p0),cD (lD 3 z05 p1)] [] (cD (dI q)) []:=by
 refine Summ.intro Tryz.func73 rfl (by kernel_rfl) (by kernel_rfl) [] rfl ?_
 rintro ⟨P,w0,G0,V,LL,lk,N, φ0,fx⟩ rfl rfl rfl rfl
 unfold z6t at h
 refine Tri.sg [0,1] [] (z00 1) ?_
 refine Tri.seqS ?_
 refine Tri.reg ?_
 refine At.sg 2 [5,6] [] (z00 2) ?_
 obtain ⟨r1,hr1,h⟩:=z04 h
 refine At.cA [] [cD (lD 3 z05 p0),cD (lD 3 z05 p1),cD (.fn 110 [])] (z1u hr1) (.cons (.refl _) (.cons (.refl _) (.cons (.refl _) .nil))) ?_
 refine At.sg 1 [4] [] (z00 1) ?_
 refine At.done rfl ?_
 refine Tri.ret ?_
 cases h
 exact RetAt.k
theorem z5c {p0:Update} {p1:Update} {q:Int} (h:z2n p0 p1=some q) :
  Summ Tryz.prog 37 [.agg (cUpdate p0),.agg (cUpdate p1)] [] (cD (dI q)) []:=by
 refine Summ.intro Tryz.func37 rfl (by kernel_rfl) (by kernel_rfl) [] rfl ?_
 rintro ⟨P,w0,G0,V,LL,lk,N, φ0,fx⟩ rfl rfl rfl rfl
 unfold z2n at h
 refine Tri.sg [2,3] [2,3] (z00 3) ?_
 refine Tri.seqS ?_
 obtain ⟨r1,hr1,h⟩:=z04 h
 obtain ⟨r2,hr2,h⟩:=z04 h
 obtain ⟨r3,hr3,h⟩:=z04 h
 obtain ⟨r4,hr4,h⟩:=z04 h
 refine Tri.dC [.a [2] [],.a [5] [2],.a [3] [],.a [7] [3],.m ⟨[(6,cD (lD 3 z05 p0.key)),(8,cD (lD 3 z05 p1.key))],[]⟩ ⟨[(9,cD (dI r1))],[]⟩ [] [] [],.a [2] [],.a [10] [2],.a [3] [],.a [12] [3],.m ⟨[(11,cD (lD 3 z05 p0.row)),(13,cD (lD 3 z05 p1.row))],[]⟩ ⟨[(14,cD (dI r2))],[]⟩ [] [] [],.a [2] [],.a [15] [2],.a [3] [],.a [17] [3],.m ⟨[(16,.agg (cTime p0.time)),(18,.agg (cTime p1.time))],[]⟩ ⟨[(19,cD (dI r3))],[]⟩ [] [] [],.m ⟨[(9,cD (dI r1)),(14,cD (dI r2)),(19,cD (dI r3))],[]⟩ ⟨[(20,.c (oC 20 1 ([r1,r2,r3]:List Int)))],[(20,vL 1 (z2d .i64) ([r1,r2,r3]:List Int))]⟩ [20] [] [],.m ⟨[(20,.c (oC 20 1 ([r1,r2,r3]:List Int)))],[(20,vL 1 (z2d .i64) ([r1,r2,r3]:List Int))]⟩ ⟨[(21,cD (dI r4))],[]⟩ [] [] [],.a [21] []] [4] [] (z00 13) (.a (.a (.a (.a (.m ?_ (.a (.a (.a (.a (.m ?_ (.a (.a (.a (.a (.m ?_ (.m ?_ (.m ?_ (.a .z)))))))))))))))))) ?_
 ·exact DOk.cA [] [cD (lD 3 z05 p0.key),cD (lD 3 z05 p1.key)] (z8i hr1) fun r=>(.cons (.refl _) (.cons (.refl _) .nil))
 ·exact DOk.cA [] [cD (lD 3 z05 p0.row),cD (lD 3 z05 p1.row)] (z8i hr2) fun r=>(.cons (.refl _) (.cons (.refl _) .nil))
 ·exact DOk.cA [] [.agg (cTime p0.time),.agg (cTime p1.time)] (z1n hr3) fun r=>(.cons (.refl _) (.cons (.refl _) .nil))
 ·exact DOk.one fun r hr=>One.buildT (e:=3) (es:=1) (z:=[.d (dI 0)]) (cells:=[.d (dI r1),.d (dI r2),.d (dI r3)]) (z2d .i64) ([r1,r2,r3]:List Int) rfl (by kernel_rfl) rfl rfl (St.noRef_app (by kernel_rfl) (hr 20 (by simp))) (by kernel_rfl) rfl (by kernel_rfl) rfl rfl rfl (by kernel_rfl) rfl ⟨⟨rfl,.refl _⟩,⟨rfl,.refl _⟩,⟨rfl,.refl _⟩,trivial⟩
 ·exact DOk.cA [] [.c (oC 20 1 ([r1,r2,r3]:List Int))] (z8k hr4) fun r=>(.cons (AVArg.view (z2d .i64) ([r1,r2,r3]:List Int) rfl) .nil)
 refine Tri.ret ?_
 cases h
 exact RetAt.k
theorem z2v {fuel:Nat} {p1:Int} {p2:Int} {l0:List Update} {q:List Update} (h:z17 fuel p1 p2 l0=some q) :
    Summ Tryz.prog 166 [.c (oC 5000 6 l0),cD (dI p1),cD (dI p2),cD (.fn 37 [])] [(5000,vL 6 z01 l0)] (.tup []) [(5000,vL 6 z01 q)]:=by
  refine Summ.intro Tryz.func166 rfl (by kernel_rfl) (by kernel_rfl) [] rfl ?_
  rintro ⟨P,w0,G0,V,LL,lk,N, φ0,fx⟩ rfl rfl rfl rfl
  unfold z17 at h
  refine Tri.sg [0,1,2,3,8] [5000] (z00 3) ?_
  refine Tri.keep [0,1,2,3,8] [5000] (s':=⟨[(0,.c (oC 5000 6 l0)),(1,cD (dI p1)),(2,cD (dI p2)),(3,cD (.fn 37 [])),(8,cD (dI (IntKind.i64.wrap (p1 + 1))))],[(5000,vL 6 z01 l0)]⟩) (by kernel_rfl) ?_
  refine Tri.loopK (fuel:=fuel) (st0:=((IntKind.i64.wrap (p1 + 1)),l0)) (fun (x:Empty) s=>False) (fun (a1:Int × (List Update))=>⟨[(0,.c (oC 5000 6 a1.2)),(1,cD (dI p1)),(2,cD (dI p2)),(3,cD (.fn 37 [])),(8,cD (dI a1.1))],[(5000,vL 6 z01 a1.2)]⟩) (fun (a1:Int × (List Update))=>⟨[],[(5000,vL 6 z01 a1.2)]⟩) h ?_ ?_ ?_
  ·intro a1 c h
   refine Tri.seqS ?_
   refine Tri.sg [0,1,2,3,8,14] [5000] (z00 3) ?_
   refine Tri.condK h (fun h => ?_) (fun h => ?_)
   ·refine Tri.skip ?_
    refine Tri.seqS ?_
    refine Tri.blockB ?_
    refine Tri.sg [0,1,2,3,8,9] [5000] (z00 2) ?_
    refine Tri.lK (a1.1,a1.2) (fun (x:Empty) s=>False) (fun (a3:Int × (List Update))=>⟨[(0,.c (oC 5000 6 a3.2)),(1,cD (dI p1)),(2,cD (dI p2)),(3,cD (.fn 37 [])),(8,cD (dI a1.1)),(9,cD (dI a3.1))],[(5000,vL 6 z01 a3.2)]⟩) [0,1,2,3,8,9] [5000] h ?_ ?_ ?_
    ·intro a3 c h
     refine Tri.eqS ⟨[(0,.c (oC 5000 6 a3.2)),(1,cD (dI p1)),(2,cD (dI p2)),(3,cD (.fn 37 [])),(8,cD (dI a1.1)),(9,cD (dI a3.1))],[(5000,vL 6 z01 a3.2)]⟩ kr ?_
     refine Tri.seqS ?_
     refine Tri.seqJ (fun (a5:Bool)=>⟨[(0,.c (oC 5000 6 a3.2)),(1,cD (dI p1)),(2,cD (dI p2)),(3,cD (.fn 37 [])),(8,cD (dI a1.1)),(9,cD (dI a3.1)),(34,cD (.bool a5))],[(5000,vL 6 z01 a3.2)]⟩) h (fun a5 h => ?_) (fun j6 h => ?_)
     ·refine Tri.eqS ⟨[(0,.c (oC 5000 6 a3.2)),(1,cD (dI p1)),(2,cD (dI p2)),(3,cD (.fn 37 [])),(8,cD (dI a1.1)),(9,cD (dI a3.1)),(34,cD (.bool a5))],[(5000,vL 6 z01 a3.2)]⟩ kr ?_
      refine Tri.condK h (fun h => ?_) (fun h => ?_)
      ·refine Tri.skip ?_
       refine Tri.seqS ?_
       refine Tri.blockB ?_
       obtain ⟨hc7,h⟩:=z03 h
       obtain ⟨hc8,h⟩:=z03 h
       obtain ⟨hc9,h⟩:=z03 h
       obtain ⟨hc10,h⟩:=z03 h
       obtain ⟨hc11,h⟩:=z03 h
       obtain ⟨hc12,h⟩:=z03 h
       obtain ⟨hc13,h⟩:=z03 h
       obtain ⟨hc14,h⟩:=z03 h
       refine Tri.afterA ⟨[(0,.c (oC 5000 6 a3.2)),(1,cD (dI p1)),(2,cD (dI p2)),(3,cD (.fn 37 [])),(8,cD (dI a1.1)),(9,cD (dI a3.1))],[(5000,vL 6 z01 ((a3.2.set (0 + a3.1.toNat) (a3.2.getD (0 + (IntKind.i64.wrap (a3.1 - 1)).toNat) default)).set (0 + (IntKind.i64.wrap (a3.1 - 1)).toNat) (a3.2.getD (0 + a3.1.toNat) default)))]⟩ ?_ ?_
       ·refine Tri.dS ⟨[(0,.c (oC 5000 6 a3.2)),(1,cD (dI p1)),(2,cD (dI p2)),(3,cD (.fn 37 [])),(8,cD (dI a1.1)),(9,cD (dI a3.1))],[(5000,vL 6 z01 ((a3.2.set (0 + a3.1.toNat) (a3.2.getD (0 + (IntKind.i64.wrap (a3.1 - 1)).toNat) default)).set (0 + (IntKind.i64.wrap (a3.1 - 1)).toNat) (a3.2.getD (0 + a3.1.toNat) default)))]⟩ [.a [0] [],.a [9] [],.a [0] [],.a [9] [],.a [40] [],.a [0] [],.a [9] [],.a [43] [],.a [42,44] [5000],.a [45] [5000],.a [0] [],.a [9] [],.a [47,48] [5000],.a [49] [5000],.a [37,38] [5000],.m ⟨[(46,.agg (cUpdate (a3.2.getD (0 + (IntKind.i64.wrap (a3.1 - 1)).toNat) default))),(51,.c (.vptr 5000 6 (0 + a3.1.toNat) 0))],[(5000,vL 6 z01 a3.2)]⟩ ⟨[],[(5000,vL 6 z01 (a3.2.set (0 + a3.1.toNat) (a3.2.getD (0 + (IntKind.i64.wrap (a3.1 - 1)).toNat) default)))]⟩ [] [] [],.a [39,41] [5000],.m ⟨[(50,.agg (cUpdate (a3.2.getD (0 + a3.1.toNat) default))),(52,.c (.vptr 5000 6 (0 + (IntKind.i64.wrap (a3.1 - 1)).toNat) 0))],[(5000,vL 6 z01 (a3.2.set (0 + a3.1.toNat) (a3.2.getD (0 + (IntKind.i64.wrap (a3.1 - 1)).toNat) default)))]⟩ ⟨[],[(5000,vL 6 z01 ((a3.2.set (0 + a3.1.toNat) (a3.2.getD (0 + (IntKind.i64.wrap (a3.1 - 1)).toNat) default)).set (0 + (IntKind.i64.wrap (a3.1 - 1)).toNat) (a3.2.getD (0 + a3.1.toNat) default)))]⟩ [] [] []] [0,1,2,3,8,9] [5000] (tN 8 (ai hc7 (ai hc8 (tN 2 (ai hc9 (ai hc10 (ai hc11 (ai hc13 trivial)))))))) (.a (.a (.a (.a (.a (.a (.a (.a (.a (.a (.a (.a (.a (.a (.a (.m ?_ (.a (.m ?_ .z)))))))))))))))))) ?_
        · exact DOk.one fun r hr=>One.storeT (xs:=[.d (lD 3 z05 ((a3.2.getD (0 + (IntKind.i64.wrap (a3.1 - 1)).toNat) default).key)),.d (lD 3 z05 ((a3.2.getD (0 + (IntKind.i64.wrap (a3.1 - 1)).toNat) default).row)),.d (dU ((a3.2.getD (0 + (IntKind.i64.wrap (a3.1 - 1)).toNat) default).time.epoch)),.d (dU ((a3.2.getD (0 + (IntKind.i64.wrap (a3.1 - 1)).toNat) default).time.loop.1)),.d (dU ((a3.2.getD (0 + (IntKind.i64.wrap (a3.1 - 1)).toNat) default).time.loop.2)),.d (dI ((a3.2.getD (0 + (IntKind.i64.wrap (a3.1 - 1)).toNat) default).diff))]) (ds:=[lD 3 z05 ((a3.2.getD (0 + (IntKind.i64.wrap (a3.1 - 1)).toNat) default).key),lD 3 z05 ((a3.2.getD (0 + (IntKind.i64.wrap (a3.1 - 1)).toNat) default).row),dU ((a3.2.getD (0 + (IntKind.i64.wrap (a3.1 - 1)).toNat) default).time.epoch),dU ((a3.2.getD (0 + (IntKind.i64.wrap (a3.1 - 1)).toNat) default).time.loop.1),dU ((a3.2.getD (0 + (IntKind.i64.wrap (a3.1 - 1)).toNat) default).time.loop.2),dI ((a3.2.getD (0 + (IntKind.i64.wrap (a3.1 - 1)).toNat) default).diff)]) (z01) a3.2 (a3.2.getD (0 + (IntKind.i64.wrap (a3.1 - 1)).toNat) default) rfl (by kernel_rfl) rfl rfl rfl hc12 rfl rfl (.refl _) rfl rfl rfl rfl
        · exact DOk.one fun r hr=>One.storeT (xs:=[.d (lD 3 z05 ((a3.2.getD (0 + a3.1.toNat) default).key)),.d (lD 3 z05 ((a3.2.getD (0 + a3.1.toNat) default).row)),.d (dU ((a3.2.getD (0 + a3.1.toNat) default).time.epoch)),.d (dU ((a3.2.getD (0 + a3.1.toNat) default).time.loop.1)),.d (dU ((a3.2.getD (0 + a3.1.toNat) default).time.loop.2)),.d (dI ((a3.2.getD (0 + a3.1.toNat) default).diff))]) (ds:=[lD 3 z05 ((a3.2.getD (0 + a3.1.toNat) default).key),lD 3 z05 ((a3.2.getD (0 + a3.1.toNat) default).row),dU ((a3.2.getD (0 + a3.1.toNat) default).time.epoch),dU ((a3.2.getD (0 + a3.1.toNat) default).time.loop.1),dU ((a3.2.getD (0 + a3.1.toNat) default).time.loop.2),dI ((a3.2.getD (0 + a3.1.toNat) default).diff)]) (z01) (a3.2.set (0 + a3.1.toNat) (a3.2.getD (0 + (IntKind.i64.wrap (a3.1 - 1)).toNat) default)) (a3.2.getD (0 + a3.1.toNat) default) rfl (by kernel_rfl) rfl rfl rfl hc14 rfl rfl (.refl _) rfl rfl rfl rfl
        exact ⟨rfl,rfl⟩
       ·refine At.eqS (s':=⟨[(0,.c (oC 5000 6 ((a3.2.set (0 + a3.1.toNat) (a3.2.getD (0 + (IntKind.i64.wrap (a3.1 - 1)).toNat) default)).set (0 + (IntKind.i64.wrap (a3.1 - 1)).toNat) (a3.2.getD (0 + a3.1.toNat) default)))),(1,cD (dI p1)),(2,cD (dI p2)),(3,cD (.fn 37 [])),(8,cD (dI a1.1)),(9,cD (dI a3.1))],[(5000,vL 6 z01 ((a3.2.set (0 + a3.1.toNat) (a3.2.getD (0 + (IntKind.i64.wrap (a3.1 - 1)).toNat) default)).set (0 + (IntKind.i64.wrap (a3.1 - 1)).toNat) (a3.2.getD (0 + a3.1.toNat) default)))]⟩) (by simp only [oC,vL,List.length_set]) ?_
        refine At.done rfl ?_
        refine Tri.reg ?_
        refine At.sg 3 [0,1,2,3,8,9] [5000] (z00 3) ?_
        refine At.done rfl ?_
        cases h
        exact kr
      ·refine Tri.kp [0,1,2,3,8,9] [5000] ?_
       refine Tri.exit ?_
       cases h
       exact ⟨rfl,kr⟩
     ·rcases z1f h with ⟨hp15,h⟩ | ⟨hp15,h⟩
      ·obtain ⟨hc16,h⟩:=z03 h
       obtain ⟨hc17,h⟩:=z03 h
       obtain ⟨hc18,h⟩:=z03 h
       obtain ⟨hc19,h⟩:=z03 h
       obtain ⟨r20,hr20,h⟩:=z04 h
       refine Tri.dC [.a [9] [],.a [1] [],.a [18,19] [],.m ⟨[(20,cD (.bool (decide (p1 < a3.1))))],[]⟩ ⟨[(21,.c (.d (.bool true)))],[]⟩ [] [] [],.a [3,21] [],.a [0,21] [],.a [9,21] [],.a [21,23,24] [5000],.a [21,25] [5000],.a [0,21] [],.a [9,21] [],.a [21,28] [],.a [21,27,29] [5000],.a [21,30] [5000],.m ⟨[(21,cD (.bool true)),(22,cD (.fn 37 [])),(26,.agg (cUpdate (a3.2.getD (0 + a3.1.toNat) default))),(31,.agg (cUpdate (a3.2.getD (0 + (IntKind.i64.wrap (a3.1 - 1)).toNat) default)))],[]⟩ ⟨[(32,cD (dI r20))],[]⟩ [] [] [],.a [21,32] [],.a [21,33] []] [0,1,2,3,8,9,34] [5000] (tN 6 (ai hc16 (ai hc17 (tN 3 (ai hc18 (ai hc19 (z00 2))))))) (.a (.a (.a (.m ?_ (.a (.a (.a (.a (.a (.a (.a (.a (.a (.a (.m ?_ (.a (.a .z))))))))))))))))) ?_
       · exact DOk.stepP (fun b => .val (.c (.d (.bool b))) (True)) (p:=(decide (p1 < a3.1))) hp15 (fun r=>by kernel_rfl) (fun r=>by kernel_rfl) trivial (by kernel_rfl) (by kernel_rfl) (fun r=>rfl)
       · exact DOk.cA [] [.agg (cUpdate (a3.2.getD (0 + a3.1.toNat) default)),.agg (cUpdate (a3.2.getD (0 + (IntKind.i64.wrap (a3.1 - 1)).toNat) default))] (z5c hr20) fun r=>(.cons (.refl _) (.cons (.refl _) .nil))
       exact ⟨_,h,kr⟩
      ·refine Tri.dC [.a [9] [],.a [1] [],.a [18,19] [],.m ⟨[(20,cD (.bool (decide (p1 < a3.1))))],[]⟩ ⟨[(21,.c (.d (.bool false)))],[]⟩ [] [] [],.a [3,21] [],.a [0,21] [],.a [9,21] [],.a [21,23,24] [],.a [21,25] [],.a [0,21] [],.a [9,21] [],.a [21,28] [],.a [21,27,29] [],.a [21,30] [],.a [21,22,26,31] [],.a [21,32] [],.a [21,33] []] [0,1,2,3,8,9,34] [5000] (z00 4) (.a (.a (.a (.m ?_ (.a (.a (.a (.a (.a (.a (.a (.a (.a (.a (.a (.a (.a .z))))))))))))))))) ?_
       · exact DOk.stepP (fun b => .val (.c (.d (.bool b))) (True)) (p:=(decide (p1 < a3.1))) hp15 (fun r=>by kernel_rfl) (fun r=>by kernel_rfl) trivial (by kernel_rfl) (by kernel_rfl) (fun r=>rfl)
       exact ⟨_,h,kr⟩
    ·intro a4 h
     refine Tri.reg ?_
     refine At.sg 3 [0,1,2,3,8] [5000] (z00 3) ?_
     refine At.done rfl ?_
     cases h
     exact kr
    · exact fun x=>x.elim
   ·refine Tri.kp [] [5000] ?_
    refine Tri.exit ?_
    cases h
    exact ⟨rfl,kr⟩
  ·intro a2 h
   cases h
   exact RetAt.k
  · exact fun x=>x.elim
theorem z2c {fuel:Nat} {p1:Int} {p2:Int} {p3:Int} {l0:List Update} {q:List Update} (h:z1k fuel p1 p2 p3 l0=some q) :
    Summ Tryz.prog 172 [.c (oC 5000 6 l0),cD (dI p1),cD (dI p2),cD (dI p3),cD (.fn 37 [])] [(5000,vL 6 z01 l0)] (.tup []) [(5000,vL 6 z01 q)]:=by
  refine Summ.intro Tryz.func172 rfl (by kernel_rfl) (by kernel_rfl) [] rfl ?_
  rintro ⟨P,w0,G0,V,LL,lk,N, φ0,fx⟩ rfl rfl rfl rfl
  unfold z1k at h
  refine Tri.sg [0,1,2,3,10] [5000] (z00 1) ?_
  refine Tri.keep [0,1,2,3,10] [5000] (s':=⟨[(0,.c (oC 5000 6 l0)),(1,cD (dI p1)),(2,cD (dI p2)),(3,cD (dI p3)),(10,cD (dI 0))],[(5000,vL 6 z01 l0)]⟩) (by kernel_rfl) ?_
  refine Tri.loopK (fuel:=fuel) (st0:=(0,l0)) (fun (x:Empty) s=>False) (fun (a1:Int × (List Update))=>⟨[(0,.c (oC 5000 6 a1.2)),(1,cD (dI p1)),(2,cD (dI p2)),(3,cD (dI p3)),(10,cD (dI a1.1))],[(5000,vL 6 z01 a1.2)]⟩) (fun (a1:Int × (List Update))=>⟨[],[(5000,vL 6 z01 a1.2)]⟩) h ?_ ?_ ?_
  ·intro a1 c h
   refine Tri.seqS ?_
   refine Tri.segL [0,1,2,3,10,13] [5000] ⟨[(0,.c (oC 5000 6 a1.2)),(1,cD (dI p1)),(2,cD (dI p2)),(3,cD (dI p3)),(10,cD (dI a1.1)),(13,cD (.bool (decide (a1.1 < p3))))],[(5000,vL 6 z01 a1.2)]⟩ _ (by kernel_rfl) (z00 3) ?_
   refine Tri.condK h (fun h => ?_) (fun h => ?_)
   ·refine Tri.skip ?_
    refine Tri.seqS ?_
    refine Tri.blockB ?_
    obtain ⟨hc3,h⟩:=z03 h
    obtain ⟨hc4,h⟩:=z03 h
    obtain ⟨hc5,h⟩:=z03 h
    obtain ⟨hc6,h⟩:=z03 h
    obtain ⟨hc7,h⟩:=z03 h
    obtain ⟨hc8,h⟩:=z03 h
    obtain ⟨hc9,h⟩:=z03 h
    obtain ⟨hc10,h⟩:=z03 h
    refine Tri.afterA ⟨[(0,.c (oC 5000 6 a1.2)),(1,cD (dI p1)),(2,cD (dI p2)),(3,cD (dI p3)),(10,cD (dI a1.1))],[(5000,vL 6 z01 ((a1.2.set (0 + (IntKind.i64.wrap (p1 + a1.1)).toNat) (a1.2.getD (0 + (IntKind.i64.wrap (p2 + a1.1)).toNat) default)).set (0 + (IntKind.i64.wrap (p2 + a1.1)).toNat) (a1.2.getD (0 + (IntKind.i64.wrap (p1 + a1.1)).toNat) default)))]⟩ ?_ ?_
    ·refine Tri.dS ⟨[(0,.c (oC 5000 6 a1.2)),(1,cD (dI p1)),(2,cD (dI p2)),(3,cD (dI p3)),(10,cD (dI a1.1))],[(5000,vL 6 z01 ((a1.2.set (0 + (IntKind.i64.wrap (p1 + a1.1)).toNat) (a1.2.getD (0 + (IntKind.i64.wrap (p2 + a1.1)).toNat) default)).set (0 + (IntKind.i64.wrap (p2 + a1.1)).toNat) (a1.2.getD (0 + (IntKind.i64.wrap (p1 + a1.1)).toNat) default)))]⟩ [.a [0] [],.a [1] [],.a [10] [],.a [17,18] [],.a [0] [],.a [2] [],.a [10] [],.a [21,22] [],.a [0] [],.a [2] [],.a [10] [],.a [25,26] [],.a [24,27] [5000],.a [28] [5000],.a [0] [],.a [1] [],.a [10] [],.a [31,32] [],.a [30,33] [5000],.a [34] [5000],.a [16,19] [5000],.m ⟨[(29,.agg (cUpdate (a1.2.getD (0 + (IntKind.i64.wrap (p2 + a1.1)).toNat) default))),(36,.c (.vptr 5000 6 (0 + (IntKind.i64.wrap (p1 + a1.1)).toNat) 0))],[(5000,vL 6 z01 a1.2)]⟩ ⟨[],[(5000,vL 6 z01 (a1.2.set (0 + (IntKind.i64.wrap (p1 + a1.1)).toNat) (a1.2.getD (0 + (IntKind.i64.wrap (p2 + a1.1)).toNat) default)))]⟩ [] [] [],.a [20,23] [5000],.m ⟨[(35,.agg (cUpdate (a1.2.getD (0 + (IntKind.i64.wrap (p1 + a1.1)).toNat) default))),(37,.c (.vptr 5000 6 (0 + (IntKind.i64.wrap (p2 + a1.1)).toNat) 0))],[(5000,vL 6 z01 (a1.2.set (0 + (IntKind.i64.wrap (p1 + a1.1)).toNat) (a1.2.getD (0 + (IntKind.i64.wrap (p2 + a1.1)).toNat) default)))]⟩ ⟨[],[(5000,vL 6 z01 ((a1.2.set (0 + (IntKind.i64.wrap (p1 + a1.1)).toNat) (a1.2.getD (0 + (IntKind.i64.wrap (p2 + a1.1)).toNat) default)).set (0 + (IntKind.i64.wrap (p2 + a1.1)).toNat) (a1.2.getD (0 + (IntKind.i64.wrap (p1 + a1.1)).toNat) default)))]⟩ [] [] []] [0,1,2,3,10] [5000] (tN 12 (ai hc3 (ai hc4 (tN 4 (ai hc5 (ai hc6 (ai hc7 (ai hc9 trivial)))))))) (.a (.a (.a (.a (.a (.a (.a (.a (.a (.a (.a (.a (.a (.a (.a (.a (.a (.a (.a (.a (.a (.m ?_ (.a (.m ?_ .z)))))))))))))))))))))))) ?_
     · exact DOk.one fun r hr=>One.storeT (xs:=[.d (lD 3 z05 ((a1.2.getD (0 + (IntKind.i64.wrap (p2 + a1.1)).toNat) default).key)),.d (lD 3 z05 ((a1.2.getD (0 + (IntKind.i64.wrap (p2 + a1.1)).toNat) default).row)),.d (dU ((a1.2.getD (0 + (IntKind.i64.wrap (p2 + a1.1)).toNat) default).time.epoch)),.d (dU ((a1.2.getD (0 + (IntKind.i64.wrap (p2 + a1.1)).toNat) default).time.loop.1)),.d (dU ((a1.2.getD (0 + (IntKind.i64.wrap (p2 + a1.1)).toNat) default).time.loop.2)),.d (dI ((a1.2.getD (0 + (IntKind.i64.wrap (p2 + a1.1)).toNat) default).diff))]) (ds:=[lD 3 z05 ((a1.2.getD (0 + (IntKind.i64.wrap (p2 + a1.1)).toNat) default).key),lD 3 z05 ((a1.2.getD (0 + (IntKind.i64.wrap (p2 + a1.1)).toNat) default).row),dU ((a1.2.getD (0 + (IntKind.i64.wrap (p2 + a1.1)).toNat) default).time.epoch),dU ((a1.2.getD (0 + (IntKind.i64.wrap (p2 + a1.1)).toNat) default).time.loop.1),dU ((a1.2.getD (0 + (IntKind.i64.wrap (p2 + a1.1)).toNat) default).time.loop.2),dI ((a1.2.getD (0 + (IntKind.i64.wrap (p2 + a1.1)).toNat) default).diff)]) (z01) a1.2 (a1.2.getD (0 + (IntKind.i64.wrap (p2 + a1.1)).toNat) default) rfl (by kernel_rfl) rfl rfl rfl hc8 rfl rfl (.refl _) rfl rfl rfl rfl
     · exact DOk.one fun r hr=>One.storeT (xs:=[.d (lD 3 z05 ((a1.2.getD (0 + (IntKind.i64.wrap (p1 + a1.1)).toNat) default).key)),.d (lD 3 z05 ((a1.2.getD (0 + (IntKind.i64.wrap (p1 + a1.1)).toNat) default).row)),.d (dU ((a1.2.getD (0 + (IntKind.i64.wrap (p1 + a1.1)).toNat) default).time.epoch)),.d (dU ((a1.2.getD (0 + (IntKind.i64.wrap (p1 + a1.1)).toNat) default).time.loop.1)),.d (dU ((a1.2.getD (0 + (IntKind.i64.wrap (p1 + a1.1)).toNat) default).time.loop.2)),.d (dI ((a1.2.getD (0 + (IntKind.i64.wrap (p1 + a1.1)).toNat) default).diff))]) (ds:=[lD 3 z05 ((a1.2.getD (0 + (IntKind.i64.wrap (p1 + a1.1)).toNat) default).key),lD 3 z05 ((a1.2.getD (0 + (IntKind.i64.wrap (p1 + a1.1)).toNat) default).row),dU ((a1.2.getD (0 + (IntKind.i64.wrap (p1 + a1.1)).toNat) default).time.epoch),dU ((a1.2.getD (0 + (IntKind.i64.wrap (p1 + a1.1)).toNat) default).time.loop.1),dU ((a1.2.getD (0 + (IntKind.i64.wrap (p1 + a1.1)).toNat) default).time.loop.2),dI ((a1.2.getD (0 + (IntKind.i64.wrap (p1 + a1.1)).toNat) default).diff)]) (z01) (a1.2.set (0 + (IntKind.i64.wrap (p1 + a1.1)).toNat) (a1.2.getD (0 + (IntKind.i64.wrap (p2 + a1.1)).toNat) default)) (a1.2.getD (0 + (IntKind.i64.wrap (p1 + a1.1)).toNat) default) rfl (by kernel_rfl) rfl rfl rfl hc10 rfl rfl (.refl _) rfl rfl rfl rfl
     exact ⟨rfl,rfl⟩
    ·refine At.eqS (s':=⟨[(0,.c (oC 5000 6 ((a1.2.set (0 + (IntKind.i64.wrap (p1 + a1.1)).toNat) (a1.2.getD (0 + (IntKind.i64.wrap (p2 + a1.1)).toNat) default)).set (0 + (IntKind.i64.wrap (p2 + a1.1)).toNat) (a1.2.getD (0 + (IntKind.i64.wrap (p1 + a1.1)).toNat) default)))),(1,cD (dI p1)),(2,cD (dI p2)),(3,cD (dI p3)),(10,cD (dI a1.1))],[(5000,vL 6 z01 ((a1.2.set (0 + (IntKind.i64.wrap (p1 + a1.1)).toNat) (a1.2.getD (0 + (IntKind.i64.wrap (p2 + a1.1)).toNat) default)).set (0 + (IntKind.i64.wrap (p2 + a1.1)).toNat) (a1.2.getD (0 + (IntKind.i64.wrap (p1 + a1.1)).toNat) default)))]⟩) (by simp only [oC,vL,List.length_set]) ?_
     refine At.done rfl ?_
     refine Tri.reg ?_
     refine At.sg 3 [0,1,2,3,10] [5000] (z00 3) ?_
     refine At.done rfl ?_
     cases h
     exact kr
   ·refine Tri.kp [] [5000] ?_
    refine Tri.exit ?_
    cases h
    exact ⟨rfl,kr⟩
  ·intro a2 h
   cases h
   exact RetAt.k
  · exact fun x=>x.elim
theorem z68 {fuel:Nat} {p1:Int} {p2:Int} {p3:Int} {l0:List Update} {q:List Update} (h:z20 fuel p1 p2 p3 l0=some q) :
    Summ Tryz.prog 170 [.c (oC 5000 6 l0),cD (dI p1),cD (dI p2),cD (dI p3),cD (.fn 37 [])] [(5000,vL 6 z01 l0)] (.tup []) [(5000,vL 6 z01 q)]:=by
  refine Summ.intro Tryz.func170 rfl (by kernel_rfl) (by kernel_rfl) [] rfl ?_
  rintro ⟨P,w0,G0,V,LL,lk,N, φ0,fx⟩ rfl rfl rfl rfl
  unfold z20 at h
  refine Tri.sg [0,2,3,4,10] [5000] (z00 4) ?_
  refine Tri.sg [0,2,4,10,11] [5000] (z00 4) ?_
  refine Tri.seqS ?_
  refine Tri.lK ((IntKind.i64.wrap (p2 - p1)),(IntKind.i64.wrap (p3 - p2)),l0) (fun (x:Empty) s=>False) (fun (a1:Int × Int × (List Update))=>⟨[(0,.c (oC 5000 6 a1.2.2)),(2,cD (dI p2)),(4,cD (.fn 37 [])),(10,cD (dI a1.1)),(11,cD (dI a1.2.1))],[(5000,vL 6 z01 a1.2.2)]⟩) [0,2,4,10,11] [5000] h ?_ ?_ ?_
  ·intro a1 c h
   refine Tri.seqS ?_
   refine Tri.sg [0,2,4,10,11,20] [5000] (z00 3) ?_
   refine Tri.condK h (fun h => ?_) (fun h => ?_)
   ·refine Tri.skip ?_
    refine Tri.blockB ?_
    refine Tri.sg [0,2,4,10,11,23] [5000] (z00 3) ?_
    refine Tri.condK h (fun h => ?_) (fun h => ?_)
    ·refine Tri.seqS ?_
     refine Tri.reg ?_
     refine At.sg 7 [0,2,4,10,11,24,27,28,29,30] [5000] (z00 7) ?_
     obtain ⟨r4,hr4,h⟩:=z04 h
     refine At.callL (nf:=0) (caps:=[]) (xs:=[.c (oC 5000 6 a1.2.2),cD (dI (IntKind.i64.wrap (p2 - a1.1))),cD (dI p2),cD (dI a1.2.1),cD (.fn 37 [])]) [(5000,5000)] [0,2,4,10,11] [] (s0:=⟨[(0,.c (oC 5000 6 a1.2.2)),(2,cD (dI p2)),(4,cD (.fn 37 [])),(10,cD (dI a1.1)),(11,cD (dI a1.2.1))],[]⟩) (z2c hr4) rfl rfl (by kernel_rfl) rfl (by kernel_rfl) (by kernel_rfl) (.ren rfl rfl (.flat (.refl _) rfl rfl (.flat (.refl _) rfl rfl (.flat (.refl _) rfl rfl (.flat (.refl _) rfl rfl .nil))))) ⟨⟨by kernel_rfl,by kernel_rfl⟩,trivial⟩ (by kernel_rfl) (by kernel_rfl) (by kernel_rfl) (by kernel_rfl) (by kernel_rfl) (by kernel_rfl) (by kernel_rfl) (by kernel_rfl) (by kernel_rfl) ⟨[(31,.tup []),(0,.c (oC 5000 6 a1.2.2)),(2,cD (dI p2)),(4,cD (.fn 37 [])),(10,cD (dI a1.1)),(11,cD (dI a1.2.1))],[(5000,vL 6 z01 r4)]⟩ (by kernel_rfl) ?_
     obtain ⟨hc5,h⟩:=z03 h
     refine At.eqS ⟨[(31,.tup []),(0,.c (oC 5000 6 r4)),(2,cD (dI p2)),(4,cD (.fn 37 [])),(10,cD (dI a1.1)),(11,cD (dI a1.2.1))],[(5000,vL 6 z01 r4)]⟩ (by simp only [oC,vL,hc5]) ?_
     refine At.done rfl ?_
     refine Tri.reg ?_
     refine At.sg 4 [0,2,4,10,11] [5000] (z00 4) ?_
     refine At.done rfl ?_
     cases h
     exact kr
    ·refine Tri.seqS ?_
     refine Tri.reg ?_
     refine At.sg 11 [0,2,4,10,11,35,38,43,44,45] [5000] (z00 11) ?_
     obtain ⟨r6,hr6,h⟩:=z04 h
     refine At.callL (nf:=0) (caps:=[]) (xs:=[.c (oC 5000 6 a1.2.2),cD (dI (IntKind.i64.wrap (p2 - a1.1))),cD (dI (IntKind.i64.wrap ((IntKind.i64.wrap (p2 + a1.2.1)) - a1.1))),cD (dI a1.1),cD (.fn 37 [])]) [(5000,5000)] [0,2,4,10,11] [] (s0:=⟨[(0,.c (oC 5000 6 a1.2.2)),(2,cD (dI p2)),(4,cD (.fn 37 [])),(10,cD (dI a1.1)),(11,cD (dI a1.2.1))],[]⟩) (z2c hr6) rfl rfl (by kernel_rfl) rfl (by kernel_rfl) (by kernel_rfl) (.ren rfl rfl (.flat (.refl _) rfl rfl (.flat (.refl _) rfl rfl (.flat (.refl _) rfl rfl (.flat (.refl _) rfl rfl .nil))))) ⟨⟨by kernel_rfl,by kernel_rfl⟩,trivial⟩ (by kernel_rfl) (by kernel_rfl) (by kernel_rfl) (by kernel_rfl) (by kernel_rfl) (by kernel_rfl) (by kernel_rfl) (by kernel_rfl) (by kernel_rfl) ⟨[(46,.tup []),(0,.c (oC 5000 6 a1.2.2)),(2,cD (dI p2)),(4,cD (.fn 37 [])),(10,cD (dI a1.1)),(11,cD (dI a1.2.1))],[(5000,vL 6 z01 r6)]⟩ (by kernel_rfl) ?_
     obtain ⟨hc7,h⟩:=z03 h
     refine At.eqS ⟨[(46,.tup []),(0,.c (oC 5000 6 r6)),(2,cD (dI p2)),(4,cD (.fn 37 [])),(10,cD (dI a1.1)),(11,cD (dI a1.2.1))],[(5000,vL 6 z01 r6)]⟩ (by simp only [oC,vL,hc7]) ?_
     refine At.done rfl ?_
     refine Tri.reg ?_
     refine At.sg 4 [0,2,4,10,11] [5000] (z00 4) ?_
     refine At.done rfl ?_
     cases h
     exact kr
   ·refine Tri.kp [0,2,4,10,11] [5000] ?_
    refine Tri.exit ?_
    cases h
    exact ⟨rfl,kr⟩
  ·intro a2 h
   refine Tri.reg ?_
   refine At.sg 7 [50,53,54,55,56] [5000] (z00 7) ?_
   obtain ⟨r3,hr3,h⟩:=z04 h
   refine At.cL 0 [] [.c (oC 5000 6 a2.2.2),cD (dI (IntKind.i64.wrap (p2 - a2.1))),cD (dI p2),cD (dI a2.1),cD (.fn 37 [])] [(5000,5000)] [] [] (z2c hr3) (.ren rfl rfl (.flat (.refl _) rfl rfl (.flat (.refl _) rfl rfl (.flat (.refl _) rfl rfl (.flat (.refl _) rfl rfl .nil))))) ?_
   refine At.keep [] [5000] (s':=⟨[],[(5000,vL 6 z01 r3)]⟩) (by kernel_rfl) ?_
   refine At.done rfl ?_
   cases h
   exact RetAt.k
  · exact fun x=>x.elim
theorem z3k {fuel:Nat} {p1:Int} {p2:Int} {p3:Int} {l0:List Update} {q:List Update} (h:z0e fuel p1 p2 p3 l0=some q) :
    Summ Tryz.prog 167 [.c (oC 5000 6 l0),cD (dI p1),cD (dI p2),cD (dI p3),cD (.fn 37 [])] [(5000,vL 6 z01 l0)] (.tup []) [(5000,vL 6 z01 q)]:=by
  induction fuel generalizing p1 p2 p3 l0 q with
  | zero=>rw [z0e.eq_1] at h; cases h
  | succ fuel ih =>
    refine Summ.intro Tryz.func167 rfl (by kernel_rfl) (by kernel_rfl) [] rfl ?_
    rintro ⟨P,w0,G0,V,LL,lk,N, φ0,fx⟩ rfl rfl rfl rfl
    rw [z0e.eq_2] at h
    refine Tri.seqS ?_
    refine Tri.sg [0,1,2,3,4,28] [5000] (z00 4) ?_
    refine Tri.condK h (fun h => ?_) (fun h => ?_)
    ·refine Tri.sg [0,1,3,4,10] [5000] (z00 2) ?_
     refine Tri.sg [0,1,4,10,11] [5000] (z00 2) ?_
     refine Tri.seqS ?_
     refine Tri.lK (p2,p3) (fun (x:Empty) s=>False) (fun (a1:Int × Int)=>⟨[(0,.c (oC 5000 6 l0)),(1,cD (dI p1)),(4,cD (.fn 37 [])),(10,cD (dI a1.1)),(11,cD (dI a1.2))],[(5000,vL 6 z01 l0)]⟩) [0,1,4,10,11] [5000] h ?_ ?_ ?_
     ·intro a1 c h
      refine Tri.seqS ?_
      refine Tri.sg [0,1,4,10,11,33] [5000] (z00 3) ?_
      refine Tri.condK h (fun h => ?_) (fun h => ?_)
      ·refine Tri.skip ?_
       refine Tri.blockB ?_
       refine Tri.sg [0,1,4,10,11,12] [5000] (tN 4 (ai (show ((0:Int)≤1) from (by decide:(0:Int)≤1)) (z00 2))) ?_
       refine Tri.seqS ?_
       obtain ⟨hc13,h⟩:=z03 h
       obtain ⟨hc14,h⟩:=z03 h
       obtain ⟨hc15,h⟩:=z03 h
       obtain ⟨hc16,h⟩:=z03 h
       obtain ⟨r17,hr17,h⟩:=z04 h
       refine Tri.dC [.a [4] [],.a [0] [],.a [12] [],.a [41,42] [5000],.a [43] [5000],.a [0] [],.a [1] [],.a [45,46] [5000],.a [47] [5000],.m ⟨[(40,cD (.fn 37 [])),(44,.agg (cUpdate (l0.getD (0 + (IntKind.i64.wrap (shrOp .u64 (IntKind.u64.wrap (IntKind.i64.wrap (a1.1 + a1.2))) 1)).toNat) default))),(48,.agg (cUpdate (l0.getD (0 + p1.toNat) default)))],[]⟩ ⟨[(49,cD (dI r17))],[]⟩ [] [] [],.a [49] []] [0,1,4,10,11,12,50] [5000] (tN 3 (ai hc13 (ai hc14 (tN 2 (ai hc15 (ai hc16 (z00 1))))))) (.a (.a (.a (.a (.a (.a (.a (.a (.a (.m ?_ (.a .z))))))))))) ?_
       · exact DOk.cA [] [.agg (cUpdate (l0.getD (0 + (IntKind.i64.wrap (shrOp .u64 (IntKind.u64.wrap (IntKind.i64.wrap (a1.1 + a1.2))) 1)).toNat) default)),.agg (cUpdate (l0.getD (0 + p1.toNat) default))] (z5c hr17) fun r=>(.cons (.refl _) (.cons (.refl _) .nil))
       refine Tri.condK h (fun h => ?_) (fun h => ?_)
       ·refine Tri.reg ?_
        refine At.sg 3 [0,1,4,10,11] [5000] (z00 3) ?_
        refine At.done rfl ?_
        cases h
        exact kr
       ·refine Tri.reg ?_
        refine At.sg 2 [0,1,4,10,11] [5000] (z00 2) ?_
        refine At.done rfl ?_
        cases h
        exact kr
      ·refine Tri.kp [0,1,4,10,11] [5000] ?_
       refine Tri.exit ?_
       cases h
       exact ⟨rfl,kr⟩
     ·intro a2 h
      refine Tri.seqS ?_
      refine Tri.sg [0,10,13] [5000] (z00 2) ?_
      refine Tri.lK (p1,l0) (fun (x:Empty) s=>False) (fun (a3:Int × (List Update))=>⟨[(0,.c (oC 5000 6 a3.2)),(10,cD (dI a2.1)),(13,cD (dI a3.1))],[(5000,vL 6 z01 a3.2)]⟩) [0,10,13] [5000] h ?_ ?_ ?_
      ·intro a3 c h
       refine Tri.seqS ?_
       refine Tri.segL [0,10,13,58] [5000] ⟨[(0,.c (oC 5000 6 a3.2)),(10,cD (dI a2.1)),(13,cD (dI a3.1)),(58,cD (.bool (decide (a3.1 < (IntKind.i64.wrap (a2.1 - 1))))))],[(5000,vL 6 z01 a3.2)]⟩ _ (by kernel_rfl) (z00 4) ?_
       refine Tri.condK h (fun h => ?_) (fun h => ?_)
       ·refine Tri.skip ?_
        refine Tri.seqS ?_
        refine Tri.blockB ?_
        obtain ⟨hc5,h⟩:=z03 h
        obtain ⟨hc6,h⟩:=z03 h
        obtain ⟨hc7,h⟩:=z03 h
        obtain ⟨hc8,h⟩:=z03 h
        obtain ⟨hc9,h⟩:=z03 h
        obtain ⟨hc10,h⟩:=z03 h
        obtain ⟨hc11,h⟩:=z03 h
        obtain ⟨hc12,h⟩:=z03 h
        refine Tri.afterA ⟨[(0,.c (oC 5000 6 a3.2)),(10,cD (dI a2.1)),(13,cD (dI a3.1))],[(5000,vL 6 z01 ((a3.2.set (0 + a3.1.toNat) (a3.2.getD (0 + (IntKind.i64.wrap (a3.1 + 1)).toNat) default)).set (0 + (IntKind.i64.wrap (a3.1 + 1)).toNat) (a3.2.getD (0 + a3.1.toNat) default)))]⟩ ?_ ?_
        ·refine Tri.dS ⟨[(0,.c (oC 5000 6 a3.2)),(10,cD (dI a2.1)),(13,cD (dI a3.1))],[(5000,vL 6 z01 ((a3.2.set (0 + a3.1.toNat) (a3.2.getD (0 + (IntKind.i64.wrap (a3.1 + 1)).toNat) default)).set (0 + (IntKind.i64.wrap (a3.1 + 1)).toNat) (a3.2.getD (0 + a3.1.toNat) default)))]⟩ [.a [0] [],.a [13] [],.a [0] [],.a [13] [],.a [64] [],.a [0] [],.a [13] [],.a [67] [],.a [66,68] [5000],.a [69] [5000],.a [0] [],.a [13] [],.a [71,72] [5000],.a [73] [5000],.a [61,62] [5000],.m ⟨[(70,.agg (cUpdate (a3.2.getD (0 + (IntKind.i64.wrap (a3.1 + 1)).toNat) default))),(75,.c (.vptr 5000 6 (0 + a3.1.toNat) 0))],[(5000,vL 6 z01 a3.2)]⟩ ⟨[],[(5000,vL 6 z01 (a3.2.set (0 + a3.1.toNat) (a3.2.getD (0 + (IntKind.i64.wrap (a3.1 + 1)).toNat) default)))]⟩ [] [] [],.a [63,65] [5000],.m ⟨[(74,.agg (cUpdate (a3.2.getD (0 + a3.1.toNat) default))),(76,.c (.vptr 5000 6 (0 + (IntKind.i64.wrap (a3.1 + 1)).toNat) 0))],[(5000,vL 6 z01 (a3.2.set (0 + a3.1.toNat) (a3.2.getD (0 + (IntKind.i64.wrap (a3.1 + 1)).toNat) default)))]⟩ ⟨[],[(5000,vL 6 z01 ((a3.2.set (0 + a3.1.toNat) (a3.2.getD (0 + (IntKind.i64.wrap (a3.1 + 1)).toNat) default)).set (0 + (IntKind.i64.wrap (a3.1 + 1)).toNat) (a3.2.getD (0 + a3.1.toNat) default)))]⟩ [] [] []] [0,10,13] [5000] (tN 8 (ai hc5 (ai hc6 (tN 2 (ai hc7 (ai hc8 (ai hc9 (ai hc11 trivial)))))))) (.a (.a (.a (.a (.a (.a (.a (.a (.a (.a (.a (.a (.a (.a (.a (.m ?_ (.a (.m ?_ .z)))))))))))))))))) ?_
         · exact DOk.one fun r hr=>One.storeT (xs:=[.d (lD 3 z05 ((a3.2.getD (0 + (IntKind.i64.wrap (a3.1 + 1)).toNat) default).key)),.d (lD 3 z05 ((a3.2.getD (0 + (IntKind.i64.wrap (a3.1 + 1)).toNat) default).row)),.d (dU ((a3.2.getD (0 + (IntKind.i64.wrap (a3.1 + 1)).toNat) default).time.epoch)),.d (dU ((a3.2.getD (0 + (IntKind.i64.wrap (a3.1 + 1)).toNat) default).time.loop.1)),.d (dU ((a3.2.getD (0 + (IntKind.i64.wrap (a3.1 + 1)).toNat) default).time.loop.2)),.d (dI ((a3.2.getD (0 + (IntKind.i64.wrap (a3.1 + 1)).toNat) default).diff))]) (ds:=[lD 3 z05 ((a3.2.getD (0 + (IntKind.i64.wrap (a3.1 + 1)).toNat) default).key),lD 3 z05 ((a3.2.getD (0 + (IntKind.i64.wrap (a3.1 + 1)).toNat) default).row),dU ((a3.2.getD (0 + (IntKind.i64.wrap (a3.1 + 1)).toNat) default).time.epoch),dU ((a3.2.getD (0 + (IntKind.i64.wrap (a3.1 + 1)).toNat) default).time.loop.1),dU ((a3.2.getD (0 + (IntKind.i64.wrap (a3.1 + 1)).toNat) default).time.loop.2),dI ((a3.2.getD (0 + (IntKind.i64.wrap (a3.1 + 1)).toNat) default).diff)]) (z01) a3.2 (a3.2.getD (0 + (IntKind.i64.wrap (a3.1 + 1)).toNat) default) rfl (by kernel_rfl) rfl rfl rfl hc10 rfl rfl (.refl _) rfl rfl rfl rfl
         · exact DOk.one fun r hr=>One.storeT (xs:=[.d (lD 3 z05 ((a3.2.getD (0 + a3.1.toNat) default).key)),.d (lD 3 z05 ((a3.2.getD (0 + a3.1.toNat) default).row)),.d (dU ((a3.2.getD (0 + a3.1.toNat) default).time.epoch)),.d (dU ((a3.2.getD (0 + a3.1.toNat) default).time.loop.1)),.d (dU ((a3.2.getD (0 + a3.1.toNat) default).time.loop.2)),.d (dI ((a3.2.getD (0 + a3.1.toNat) default).diff))]) (ds:=[lD 3 z05 ((a3.2.getD (0 + a3.1.toNat) default).key),lD 3 z05 ((a3.2.getD (0 + a3.1.toNat) default).row),dU ((a3.2.getD (0 + a3.1.toNat) default).time.epoch),dU ((a3.2.getD (0 + a3.1.toNat) default).time.loop.1),dU ((a3.2.getD (0 + a3.1.toNat) default).time.loop.2),dI ((a3.2.getD (0 + a3.1.toNat) default).diff)]) (z01) (a3.2.set (0 + a3.1.toNat) (a3.2.getD (0 + (IntKind.i64.wrap (a3.1 + 1)).toNat) default)) (a3.2.getD (0 + a3.1.toNat) default) rfl (by kernel_rfl) rfl rfl rfl hc12 rfl rfl (.refl _) rfl rfl rfl rfl
         exact ⟨rfl,rfl⟩
        ·refine At.eqS (s':=⟨[(0,.c (oC 5000 6 ((a3.2.set (0 + a3.1.toNat) (a3.2.getD (0 + (IntKind.i64.wrap (a3.1 + 1)).toNat) default)).set (0 + (IntKind.i64.wrap (a3.1 + 1)).toNat) (a3.2.getD (0 + a3.1.toNat) default)))),(10,cD (dI a2.1)),(13,cD (dI a3.1))],[(5000,vL 6 z01 ((a3.2.set (0 + a3.1.toNat) (a3.2.getD (0 + (IntKind.i64.wrap (a3.1 + 1)).toNat) default)).set (0 + (IntKind.i64.wrap (a3.1 + 1)).toNat) (a3.2.getD (0 + a3.1.toNat) default)))]⟩) (by simp only [oC,vL,List.length_set]) ?_
         refine At.done rfl ?_
         refine Tri.reg ?_
         refine At.sg 3 [0,10,13] [5000] (z00 3) ?_
         refine At.done rfl ?_
         cases h
         exact kr
       ·refine Tri.kp [0,10,13] [5000] ?_
        refine Tri.exit ?_
        cases h
        exact ⟨rfl,kr⟩
      ·intro a4 h
       refine Tri.ret ?_
       cases h
       exact RetAt.k
      · exact fun x=>x.elim
     · exact fun x=>x.elim
    ·refine Tri.skip ?_
     refine Tri.seqS ?_
     refine Tri.sg [0,1,2,3,4,80] [5000] (z00 4) ?_
     refine Tri.condK h (fun h => ?_) (fun h => ?_)
     ·refine Tri.sg [0,2,4,14] [5000] (z00 2) ?_
      refine Tri.sg [0,2,4,14,15] [5000] (z00 2) ?_
      refine Tri.seqS ?_
      refine Tri.lK (p1,p2) (fun (x:Empty) s=>False) (fun (a18:Int × Int)=>⟨[(0,.c (oC 5000 6 l0)),(2,cD (dI p2)),(4,cD (.fn 37 [])),(14,cD (dI a18.1)),(15,cD (dI a18.2))],[(5000,vL 6 z01 l0)]⟩) [0,2,4,14,15] [5000] h ?_ ?_ ?_
      ·intro a18 c h
       refine Tri.seqS ?_
       refine Tri.sg [0,2,4,14,15,85] [5000] (z00 3) ?_
       refine Tri.condK h (fun h => ?_) (fun h => ?_)
       ·refine Tri.skip ?_
        refine Tri.blockB ?_
        refine Tri.sg [0,2,4,14,15,16] [5000] (tN 4 (ai (show ((0:Int)≤1) from (by decide:(0:Int)≤1)) (z00 2))) ?_
        refine Tri.seqS ?_
        obtain ⟨hc30,h⟩:=z03 h
        obtain ⟨hc31,h⟩:=z03 h
        obtain ⟨hc32,h⟩:=z03 h
        obtain ⟨hc33,h⟩:=z03 h
        obtain ⟨r34,hr34,h⟩:=z04 h
        refine Tri.dC [.a [4] [],.a [0] [],.a [2] [],.a [93,94] [5000],.a [95] [5000],.a [0] [],.a [16] [],.a [97,98] [5000],.a [99] [5000],.m ⟨[(92,cD (.fn 37 [])),(96,.agg (cUpdate (l0.getD (0 + p2.toNat) default))),(100,.agg (cUpdate (l0.getD (0 + (IntKind.i64.wrap (shrOp .u64 (IntKind.u64.wrap (IntKind.i64.wrap (a18.1 + a18.2))) 1)).toNat) default)))],[]⟩ ⟨[(101,cD (dI r34))],[]⟩ [] [] [],.a [101] [],.a [102] []] [0,2,4,14,15,16,103] [5000] (tN 3 (ai hc30 (ai hc31 (tN 2 (ai hc32 (ai hc33 (z00 2))))))) (.a (.a (.a (.a (.a (.a (.a (.a (.a (.m ?_ (.a (.a .z)))))))))))) ?_
        · exact DOk.cA [] [.agg (cUpdate (l0.getD (0 + p2.toNat) default)),.agg (cUpdate (l0.getD (0 + (IntKind.i64.wrap (shrOp .u64 (IntKind.u64.wrap (IntKind.i64.wrap (a18.1 + a18.2))) 1)).toNat) default))] (z5c hr34) fun r=>(.cons (.refl _) (.cons (.refl _) .nil))
        refine Tri.condK h (fun h => ?_) (fun h => ?_)
        ·refine Tri.reg ?_
         refine At.sg 3 [0,2,4,14,15] [5000] (z00 3) ?_
         refine At.done rfl ?_
         cases h
         exact kr
        ·refine Tri.reg ?_
         refine At.sg 2 [0,2,4,14,15] [5000] (z00 2) ?_
         refine At.done rfl ?_
         cases h
         exact kr
       ·refine Tri.kp [0,2,4,14,15] [5000] ?_
        refine Tri.exit ?_
        cases h
        exact ⟨rfl,kr⟩
      ·intro a19 h
       refine Tri.seqS ?_
       refine Tri.sg [0,14,17] [5000] (z00 2) ?_
       refine Tri.lK (p2,l0) (fun (x:Empty) s=>False) (fun (a20:Int × (List Update))=>⟨[(0,.c (oC 5000 6 a20.2)),(14,cD (dI a19.1)),(17,cD (dI a20.1))],[(5000,vL 6 z01 a20.2)]⟩) [0,14,17] [5000] h ?_ ?_ ?_
       ·intro a20 c h
        refine Tri.seqS ?_
        refine Tri.segL [0,14,17,110] [5000] ⟨[(0,.c (oC 5000 6 a20.2)),(14,cD (dI a19.1)),(17,cD (dI a20.1)),(110,cD (.bool (decide (a19.1 < a20.1))))],[(5000,vL 6 z01 a20.2)]⟩ _ (by kernel_rfl) (z00 3) ?_
        refine Tri.condK h (fun h => ?_) (fun h => ?_)
        ·refine Tri.skip ?_
         refine Tri.seqS ?_
         refine Tri.blockB ?_
         obtain ⟨hc22,h⟩:=z03 h
         obtain ⟨hc23,h⟩:=z03 h
         obtain ⟨hc24,h⟩:=z03 h
         obtain ⟨hc25,h⟩:=z03 h
         obtain ⟨hc26,h⟩:=z03 h
         obtain ⟨hc27,h⟩:=z03 h
         obtain ⟨hc28,h⟩:=z03 h
         obtain ⟨hc29,h⟩:=z03 h
         refine Tri.afterA ⟨[(0,.c (oC 5000 6 a20.2)),(14,cD (dI a19.1)),(17,cD (dI a20.1))],[(5000,vL 6 z01 ((a20.2.set (0 + a20.1.toNat) (a20.2.getD (0 + (IntKind.i64.wrap (a20.1 - 1)).toNat) default)).set (0 + (IntKind.i64.wrap (a20.1 - 1)).toNat) (a20.2.getD (0 + a20.1.toNat) default)))]⟩ ?_ ?_
         ·refine Tri.dS ⟨[(0,.c (oC 5000 6 a20.2)),(14,cD (dI a19.1)),(17,cD (dI a20.1))],[(5000,vL 6 z01 ((a20.2.set (0 + a20.1.toNat) (a20.2.getD (0 + (IntKind.i64.wrap (a20.1 - 1)).toNat) default)).set (0 + (IntKind.i64.wrap (a20.1 - 1)).toNat) (a20.2.getD (0 + a20.1.toNat) default)))]⟩ [.a [0] [],.a [17] [],.a [0] [],.a [17] [],.a [116] [],.a [0] [],.a [17] [],.a [119] [],.a [118,120] [5000],.a [121] [5000],.a [0] [],.a [17] [],.a [123,124] [5000],.a [125] [5000],.a [113,114] [5000],.m ⟨[(122,.agg (cUpdate (a20.2.getD (0 + (IntKind.i64.wrap (a20.1 - 1)).toNat) default))),(127,.c (.vptr 5000 6 (0 + a20.1.toNat) 0))],[(5000,vL 6 z01 a20.2)]⟩ ⟨[],[(5000,vL 6 z01 (a20.2.set (0 + a20.1.toNat) (a20.2.getD (0 + (IntKind.i64.wrap (a20.1 - 1)).toNat) default)))]⟩ [] [] [],.a [115,117] [5000],.m ⟨[(126,.agg (cUpdate (a20.2.getD (0 + a20.1.toNat) default))),(128,.c (.vptr 5000 6 (0 + (IntKind.i64.wrap (a20.1 - 1)).toNat) 0))],[(5000,vL 6 z01 (a20.2.set (0 + a20.1.toNat) (a20.2.getD (0 + (IntKind.i64.wrap (a20.1 - 1)).toNat) default)))]⟩ ⟨[],[(5000,vL 6 z01 ((a20.2.set (0 + a20.1.toNat) (a20.2.getD (0 + (IntKind.i64.wrap (a20.1 - 1)).toNat) default)).set (0 + (IntKind.i64.wrap (a20.1 - 1)).toNat) (a20.2.getD (0 + a20.1.toNat) default)))]⟩ [] [] []] [0,14,17] [5000] (tN 8 (ai hc22 (ai hc23 (tN 2 (ai hc24 (ai hc25 (ai hc26 (ai hc28 trivial)))))))) (.a (.a (.a (.a (.a (.a (.a (.a (.a (.a (.a (.a (.a (.a (.a (.m ?_ (.a (.m ?_ .z)))))))))))))))))) ?_
          · exact DOk.one fun r hr=>One.storeT (xs:=[.d (lD 3 z05 ((a20.2.getD (0 + (IntKind.i64.wrap (a20.1 - 1)).toNat) default).key)),.d (lD 3 z05 ((a20.2.getD (0 + (IntKind.i64.wrap (a20.1 - 1)).toNat) default).row)),.d (dU ((a20.2.getD (0 + (IntKind.i64.wrap (a20.1 - 1)).toNat) default).time.epoch)),.d (dU ((a20.2.getD (0 + (IntKind.i64.wrap (a20.1 - 1)).toNat) default).time.loop.1)),.d (dU ((a20.2.getD (0 + (IntKind.i64.wrap (a20.1 - 1)).toNat) default).time.loop.2)),.d (dI ((a20.2.getD (0 + (IntKind.i64.wrap (a20.1 - 1)).toNat) default).diff))]) (ds:=[lD 3 z05 ((a20.2.getD (0 + (IntKind.i64.wrap (a20.1 - 1)).toNat) default).key),lD 3 z05 ((a20.2.getD (0 + (IntKind.i64.wrap (a20.1 - 1)).toNat) default).row),dU ((a20.2.getD (0 + (IntKind.i64.wrap (a20.1 - 1)).toNat) default).time.epoch),dU ((a20.2.getD (0 + (IntKind.i64.wrap (a20.1 - 1)).toNat) default).time.loop.1),dU ((a20.2.getD (0 + (IntKind.i64.wrap (a20.1 - 1)).toNat) default).time.loop.2),dI ((a20.2.getD (0 + (IntKind.i64.wrap (a20.1 - 1)).toNat) default).diff)]) (z01) a20.2 (a20.2.getD (0 + (IntKind.i64.wrap (a20.1 - 1)).toNat) default) rfl (by kernel_rfl) rfl rfl rfl hc27 rfl rfl (.refl _) rfl rfl rfl rfl
          · exact DOk.one fun r hr=>One.storeT (xs:=[.d (lD 3 z05 ((a20.2.getD (0 + a20.1.toNat) default).key)),.d (lD 3 z05 ((a20.2.getD (0 + a20.1.toNat) default).row)),.d (dU ((a20.2.getD (0 + a20.1.toNat) default).time.epoch)),.d (dU ((a20.2.getD (0 + a20.1.toNat) default).time.loop.1)),.d (dU ((a20.2.getD (0 + a20.1.toNat) default).time.loop.2)),.d (dI ((a20.2.getD (0 + a20.1.toNat) default).diff))]) (ds:=[lD 3 z05 ((a20.2.getD (0 + a20.1.toNat) default).key),lD 3 z05 ((a20.2.getD (0 + a20.1.toNat) default).row),dU ((a20.2.getD (0 + a20.1.toNat) default).time.epoch),dU ((a20.2.getD (0 + a20.1.toNat) default).time.loop.1),dU ((a20.2.getD (0 + a20.1.toNat) default).time.loop.2),dI ((a20.2.getD (0 + a20.1.toNat) default).diff)]) (z01) (a20.2.set (0 + a20.1.toNat) (a20.2.getD (0 + (IntKind.i64.wrap (a20.1 - 1)).toNat) default)) (a20.2.getD (0 + a20.1.toNat) default) rfl (by kernel_rfl) rfl rfl rfl hc29 rfl rfl (.refl _) rfl rfl rfl rfl
          exact ⟨rfl,rfl⟩
         ·refine At.eqS (s':=⟨[(0,.c (oC 5000 6 ((a20.2.set (0 + a20.1.toNat) (a20.2.getD (0 + (IntKind.i64.wrap (a20.1 - 1)).toNat) default)).set (0 + (IntKind.i64.wrap (a20.1 - 1)).toNat) (a20.2.getD (0 + a20.1.toNat) default)))),(14,cD (dI a19.1)),(17,cD (dI a20.1))],[(5000,vL 6 z01 ((a20.2.set (0 + a20.1.toNat) (a20.2.getD (0 + (IntKind.i64.wrap (a20.1 - 1)).toNat) default)).set (0 + (IntKind.i64.wrap (a20.1 - 1)).toNat) (a20.2.getD (0 + a20.1.toNat) default)))]⟩) (by simp only [oC,vL,List.length_set]) ?_
          refine At.done rfl ?_
          refine Tri.reg ?_
          refine At.sg 3 [0,14,17] [5000] (z00 3) ?_
          refine At.done rfl ?_
          cases h
          exact kr
        ·refine Tri.kp [0,14,17] [5000] ?_
         refine Tri.exit ?_
         cases h
         exact ⟨rfl,kr⟩
       ·intro a21 h
        refine Tri.ret ?_
        cases h
        exact RetAt.k
       · exact fun x=>x.elim
      · exact fun x=>x.elim
     ·refine Tri.skip ?_
      refine Tri.sg [0,1,2,3,4,18] [5000] (tN 4 (ai (show ((0:Int)≤1) from (by decide:(0:Int)≤1)) (z00 2))) ?_
      refine Tri.sg [0,1,2,3,4,18,19] [5000] (z00 4) ?_
      refine Tri.sg [0,1,2,3,4,18,19] [5000] (z00 2) ?_
      refine Tri.seqJ (fun (a35:Int × Int × Int × Int)=>⟨[(0,.c (oC 5000 6 l0)),(1,cD (dI p1)),(2,cD (dI p2)),(3,cD (dI p3)),(4,cD (.fn 37 [])),(18,cD (dI a35.1)),(19,cD (dI a35.2.1)),(20,cD (dI a35.2.2.1)),(21,cD (dI a35.2.2.2))],[(5000,vL 6 z01 l0)]⟩) h (fun a35 h => ?_) (fun j36 h => ?_)
      ·refine Tri.sg [0,1,2,3,4,18,19,20,21,22] [5000] (z00 3) ?_
       refine Tri.seqS ?_
       refine Tri.lK (a35.2.2.1,a35.2.2.2) (fun (x:Empty) s=>False) (fun (a37:Int × Int)=>⟨[(0,.c (oC 5000 6 l0)),(1,cD (dI p1)),(2,cD (dI p2)),(3,cD (dI p3)),(4,cD (.fn 37 [])),(18,cD (dI a35.1)),(19,cD (dI a35.2.1)),(20,cD (dI a37.1)),(21,cD (dI a37.2)),(22,cD (dI (IntKind.i64.wrap (a35.2.1 - 1))))],[(5000,vL 6 z01 l0)]⟩) [0,1,2,3,4,18,19,20,21,22] [5000] h ?_ ?_ ?_
       ·intro a37 c h
        refine Tri.seqS ?_
        refine Tri.sg [0,1,2,3,4,18,19,20,21,22,151] [5000] (z00 3) ?_
        refine Tri.condK h (fun h => ?_) (fun h => ?_)
        ·refine Tri.skip ?_
         refine Tri.blockB ?_
         refine Tri.sg [0,1,2,3,4,18,19,20,21,22,23] [5000] (tN 4 (ai (show ((0:Int)≤1) from (by decide:(0:Int)≤1)) (z00 2))) ?_
         refine Tri.seqS ?_
         obtain ⟨hc54,h⟩:=z03 h
         obtain ⟨hc55,h⟩:=z03 h
         obtain ⟨hc56,h⟩:=z03 h
         obtain ⟨hc57,h⟩:=z03 h
         obtain ⟨r58,hr58,h⟩:=z04 h
         refine Tri.dC [.a [4] [],.a [0] [],.a [22] [],.a [23] [],.a [160,161] [],.a [159,162] [5000],.a [163] [5000],.a [0] [],.a [23] [],.a [165,166] [5000],.a [167] [5000],.m ⟨[(158,cD (.fn 37 [])),(164,.agg (cUpdate (l0.getD (0 + (IntKind.i64.wrap ((IntKind.i64.wrap (a35.2.1 - 1)) - (IntKind.i64.wrap (shrOp .u64 (IntKind.u64.wrap (IntKind.i64.wrap (a37.1 + a37.2))) 1)))).toNat) default))),(168,.agg (cUpdate (l0.getD (0 + (IntKind.i64.wrap (shrOp .u64 (IntKind.u64.wrap (IntKind.i64.wrap (a37.1 + a37.2))) 1)).toNat) default)))],[]⟩ ⟨[(169,cD (dI r58))],[]⟩ [] [] [],.a [169] [],.a [170] []] [0,1,2,3,4,18,19,20,21,22,23,171] [5000] (tN 5 (ai hc54 (ai hc55 (tN 2 (ai hc56 (ai hc57 (z00 2))))))) (.a (.a (.a (.a (.a (.a (.a (.a (.a (.a (.a (.m ?_ (.a (.a .z)))))))))))))) ?_
         · exact DOk.cA [] [.agg (cUpdate (l0.getD (0 + (IntKind.i64.wrap ((IntKind.i64.wrap (a35.2.1 - 1)) - (IntKind.i64.wrap (shrOp .u64 (IntKind.u64.wrap (IntKind.i64.wrap (a37.1 + a37.2))) 1)))).toNat) default)),.agg (cUpdate (l0.getD (0 + (IntKind.i64.wrap (shrOp .u64 (IntKind.u64.wrap (IntKind.i64.wrap (a37.1 + a37.2))) 1)).toNat) default))] (z5c hr58) fun r=>(.cons (.refl _) (.cons (.refl _) .nil))
         refine Tri.condK h (fun h => ?_) (fun h => ?_)
         ·refine Tri.reg ?_
          refine At.sg 3 [0,1,2,3,4,18,19,20,21,22] [5000] (z00 3) ?_
          refine At.done rfl ?_
          cases h
          exact kr
         ·refine Tri.reg ?_
          refine At.sg 2 [0,1,2,3,4,18,19,20,21,22] [5000] (z00 2) ?_
          refine At.done rfl ?_
          cases h
          exact kr
        ·refine Tri.kp [0,1,2,3,4,18,19,20,21,22] [5000] ?_
         refine Tri.exit ?_
         cases h
         exact ⟨rfl,kr⟩
       ·intro a38 h
        refine Tri.sg [0,1,2,3,4,18,20,24] [5000] (z00 4) ?_
        refine Tri.seqJ (fun (a39:Int × (List Update))=>⟨[(0,.c (oC 5000 6 a39.2)),(1,cD (dI p1)),(3,cD (dI p3)),(4,cD (.fn 37 [])),(18,cD (dI a35.1)),(20,cD (dI a38.1)),(24,cD (dI a39.1))],[(5000,vL 6 z01 a39.2)]⟩) h (fun a39 h => ?_) (fun j40 h => ?_)
        ·refine Tri.seqJ (fun (a41:List Update)=>⟨[(0,.c (oC 5000 6 a41)),(3,cD (dI p3)),(4,cD (.fn 37 [])),(18,cD (dI a35.1)),(24,cD (dI a39.1))],[(5000,vL 6 z01 a41)]⟩) h (fun a41 h => ?_) (fun j42 h => ?_)
         ·refine Tri.seqJ (fun (a43:Bool)=>⟨[(0,.c (oC 5000 6 a41)),(3,cD (dI p3)),(4,cD (.fn 37 [])),(18,cD (dI a35.1)),(24,cD (dI a39.1)),(213,cD (.bool a43))],[(5000,vL 6 z01 a41)]⟩) h (fun a43 h => ?_) (fun j44 h => ?_)
          ·refine Tri.condK h (fun h => ?_) (fun h => ?_)
           ·refine Tri.reg ?_
            refine At.sg 5 [214,215,216,217,218] [5000] (z00 5) ?_
            obtain ⟨r45,hr45,h⟩:=z04 h
            refine At.cL 0 [] [.c (oC 5000 6 a41),cD (dI a35.1),cD (dI a39.1),cD (dI p3),cD (.fn 37 [])] [(5000,5000)] [] [] (ih hr45) (.ren rfl rfl (.flat (.refl _) rfl rfl (.flat (.refl _) rfl rfl (.flat (.refl _) rfl rfl (.flat (.refl _) rfl rfl .nil))))) ?_
            refine At.keep [] [5000] (s':=⟨[],[(5000,vL 6 z01 r45)]⟩) (by kernel_rfl) ?_
            refine At.done rfl ?_
            cases h
            exact RetAt.k
           ·refine Tri.kp [] [5000] ?_
            refine Tri.skip ?_
            cases h
            exact RetAt.k
          ·refine Tri.reg ?_
           refine At.sg 4 [0,3,4,18,24,209] [5000] (z00 4) ?_
           refine At.cs [209] h (fun h => ?_) (fun h => ?_)
           ·refine At.sg 4 [0,3,4,18,24,213] [5000] (z00 4) ?_
            refine At.done rfl ?_
            exact ⟨_,h,kr⟩
           ·refine At.sg 4 [0,3,4,18,24,213] [5000] (z00 1) ?_
            refine At.done rfl ?_
            exact ⟨_,h,kr⟩
         ·refine Tri.seqJ (fun (a46:Bool)=>⟨[(0,.c (oC 5000 6 a39.2)),(1,cD (dI p1)),(3,cD (dI p3)),(4,cD (.fn 37 [])),(18,cD (dI a35.1)),(20,cD (dI a38.1)),(24,cD (dI a39.1)),(199,cD (.bool a46))],[(5000,vL 6 z01 a39.2)]⟩) h (fun a46 h => ?_) (fun j47 h => ?_)
          ·refine Tri.condK h (fun h => ?_) (fun h => ?_)
           ·refine Tri.reg ?_
            refine At.sg 5 [0,3,4,18,24,200,201,202,203,204] [5000] (z00 5) ?_
            obtain ⟨r48,hr48,h⟩:=z04 h
            refine At.callL (nf:=0) (caps:=[]) (xs:=[.c (oC 5000 6 a39.2),cD (dI p1),cD (dI a38.1),cD (dI a35.1),cD (.fn 37 [])]) [(5000,5000)] [0,3,4,18,24] [] (s0:=⟨[(0,.c (oC 5000 6 a39.2)),(3,cD (dI p3)),(4,cD (.fn 37 [])),(18,cD (dI a35.1)),(24,cD (dI a39.1))],[]⟩) (ih hr48) rfl rfl (by kernel_rfl) rfl (by kernel_rfl) (by kernel_rfl) (.ren rfl rfl (.flat (.refl _) rfl rfl (.flat (.refl _) rfl rfl (.flat (.refl _) rfl rfl (.flat (.refl _) rfl rfl .nil))))) ⟨⟨by kernel_rfl,by kernel_rfl⟩,trivial⟩ (by kernel_rfl) (by kernel_rfl) (by kernel_rfl) (by kernel_rfl) (by kernel_rfl) (by kernel_rfl) (by kernel_rfl) (by kernel_rfl) (by kernel_rfl) ⟨[(205,.tup []),(0,.c (oC 5000 6 a39.2)),(3,cD (dI p3)),(4,cD (.fn 37 [])),(18,cD (dI a35.1)),(24,cD (dI a39.1))],[(5000,vL 6 z01 r48)]⟩ (by kernel_rfl) ?_
            obtain ⟨hc49,h⟩:=z03 h
            refine At.eqS ⟨[(205,.tup []),(0,.c (oC 5000 6 r48)),(3,cD (dI p3)),(4,cD (.fn 37 [])),(18,cD (dI a35.1)),(24,cD (dI a39.1))],[(5000,vL 6 z01 r48)]⟩ (by simp only [oC,vL,hc49]) ?_
            refine At.keep [0,3,4,18,24] [5000] (s':=⟨[(0,.c (oC 5000 6 r48)),(3,cD (dI p3)),(4,cD (.fn 37 [])),(18,cD (dI a35.1)),(24,cD (dI a39.1))],[(5000,vL 6 z01 r48)]⟩) (by kernel_rfl) ?_
            refine At.done rfl ?_
            exact ⟨_,h,kr⟩
           ·refine Tri.kp [0,3,4,18,24] [5000] ?_
            refine Tri.skip ?_
            exact ⟨_,h,kr⟩
          ·refine Tri.reg ?_
           refine At.sg 4 [0,1,3,4,18,20,24,195] [5000] (z00 4) ?_
           refine At.cs [195] h (fun h => ?_) (fun h => ?_)
           ·refine At.sg 4 [0,1,3,4,18,20,24,199] [5000] (z00 4) ?_
            refine At.done rfl ?_
            exact ⟨_,h,kr⟩
           ·refine At.sg 4 [0,1,3,4,18,20,24,199] [5000] (z00 1) ?_
            refine At.done rfl ?_
            exact ⟨_,h,kr⟩
        ·refine Tri.seqJ (fun (a50:Int × Bool)=>⟨[(0,.c (oC 5000 6 l0)),(1,cD (dI p1)),(2,cD (dI p2)),(3,cD (dI p3)),(4,cD (.fn 37 [])),(18,cD (dI a35.1)),(20,cD (dI a38.1)),(24,cD (dI a50.1)),(185,cD (.bool a50.2))],[(5000,vL 6 z01 l0)]⟩) h (fun a50 h => ?_) (fun j51 h => ?_)
         ·refine Tri.condK h (fun h => ?_) (fun h => ?_)
          ·refine Tri.reg ?_
           refine At.sg 5 [0,1,3,4,18,20,24,186,187,188,189,190] [5000] (z00 5) ?_
           obtain ⟨r52,hr52,h⟩:=z04 h
           refine At.callL (nf:=0) (caps:=[]) (xs:=[.c (oC 5000 6 l0),cD (dI a38.1),cD (dI p2),cD (dI a50.1),cD (.fn 37 [])]) [(5000,5000)] [0,1,3,4,18,20,24] [] (s0:=⟨[(0,.c (oC 5000 6 l0)),(1,cD (dI p1)),(3,cD (dI p3)),(4,cD (.fn 37 [])),(18,cD (dI a35.1)),(20,cD (dI a38.1)),(24,cD (dI a50.1))],[]⟩) (z68 hr52) rfl rfl (by kernel_rfl) rfl (by kernel_rfl) (by kernel_rfl) (.ren rfl rfl (.flat (.refl _) rfl rfl (.flat (.refl _) rfl rfl (.flat (.refl _) rfl rfl (.flat (.refl _) rfl rfl .nil))))) ⟨⟨by kernel_rfl,by kernel_rfl⟩,trivial⟩ (by kernel_rfl) (by kernel_rfl) (by kernel_rfl) (by kernel_rfl) (by kernel_rfl) (by kernel_rfl) (by kernel_rfl) (by kernel_rfl) (by kernel_rfl) ⟨[(191,.tup []),(0,.c (oC 5000 6 l0)),(1,cD (dI p1)),(3,cD (dI p3)),(4,cD (.fn 37 [])),(18,cD (dI a35.1)),(20,cD (dI a38.1)),(24,cD (dI a50.1))],[(5000,vL 6 z01 r52)]⟩ (by kernel_rfl) ?_
           obtain ⟨hc53,h⟩:=z03 h
           refine At.eqS ⟨[(191,.tup []),(0,.c (oC 5000 6 r52)),(1,cD (dI p1)),(3,cD (dI p3)),(4,cD (.fn 37 [])),(18,cD (dI a35.1)),(20,cD (dI a38.1)),(24,cD (dI a50.1))],[(5000,vL 6 z01 r52)]⟩ (by simp only [oC,vL,hc53]) ?_
           refine At.keep [0,1,3,4,18,20,24] [5000] (s':=⟨[(0,.c (oC 5000 6 r52)),(1,cD (dI p1)),(3,cD (dI p3)),(4,cD (.fn 37 [])),(18,cD (dI a35.1)),(20,cD (dI a38.1)),(24,cD (dI a50.1))],[(5000,vL 6 z01 r52)]⟩) (by kernel_rfl) ?_
           refine At.done rfl ?_
           exact ⟨_,h,kr⟩
          ·refine Tri.kp [0,1,3,4,18,20,24] [5000] ?_
           refine Tri.skip ?_
           exact ⟨_,h,kr⟩
         ·refine Tri.reg ?_
          refine At.sg 4 [0,1,2,3,4,18,20,24,181] [5000] (z00 4) ?_
          refine At.cs [181] h (fun h => ?_) (fun h => ?_)
          ·refine At.sg 4 [0,1,2,3,4,18,20,24,185] [5000] (z00 4) ?_
           refine At.done rfl ?_
           exact ⟨_,h,kr⟩
          ·refine At.sg 4 [0,1,2,3,4,18,20,24,185] [5000] (z00 1) ?_
           refine At.done rfl ?_
           exact ⟨_,h,kr⟩
       · exact fun x=>x.elim
      ·refine Tri.sg [0,1,2,3,4,18,19,140] [5000] (z00 3) ?_
       refine Tri.condK h (fun h => ?_) (fun h => ?_)
       ·refine Tri.sg [0,1,2,3,4,18,19,20] [5000] (z00 4) ?_
        refine Tri.reg ?_
        refine At.sg 2 [0,1,2,3,4,18,19,20,21] [5000] (z00 2) ?_
        refine At.done rfl ?_
        exact ⟨_,h,kr⟩
       ·refine Tri.sg [0,1,2,3,4,18,19,20] [5000] (z00 2) ?_
        refine Tri.reg ?_
        refine At.sg 2 [0,1,2,3,4,18,19,20,21] [5000] (z00 2) ?_
        refine At.done rfl ?_
        exact ⟨_,h,kr⟩
theorem z6a {fuel:Nat} {p1:Int} {l0:List Update} {q:List Update} (h:z1r fuel p1 l0=some q) :
    Summ Tryz.prog 158 [.c (oC 5000 6 l0),cD (dI p1),cD (.fn 37 [])] [(5000,vL 6 z01 l0)] (.tup []) [(5000,vL 6 z01 q)]:=by
  refine Summ.intro Tryz.func158 rfl (by kernel_rfl) (by kernel_rfl) [] rfl ?_
  rintro ⟨P,w0,G0,V,LL,lk,N, φ0,fx⟩ rfl rfl rfl rfl
  unfold z1r at h
  refine Tri.sg [0,1,2,6] [5000] (z00 1) ?_
  refine Tri.sg [0,1,2,6,7,8] [5000] (z00 3) ?_
  refine Tri.seqS ?_
  refine Tri.lK (0,20,l0) (fun (x:Empty) s=>False) (fun (a1:Int × Int × (List Update))=>⟨[(0,.c (oC 5000 6 a1.2.2)),(1,cD (dI p1)),(2,cD (.fn 37 [])),(6,cD (dI 20)),(7,cD (dI a1.1)),(8,cD (dI a1.2.1))],[(5000,vL 6 z01 a1.2.2)]⟩) [0,1,2,6,7,8] [5000] h ?_ ?_ ?_
  ·intro a1 c h
   refine Tri.seqS ?_
   refine Tri.sg [0,1,2,6,7,8,13] [5000] (z00 3) ?_
   refine Tri.condK h (fun h => ?_) (fun h => ?_)
   ·refine Tri.skip ?_
    refine Tri.blockB ?_
    refine Tri.seqS ?_
    refine Tri.reg ?_
    refine At.sg 4 [0,1,2,6,8,14,15,16,17] [5000] (z00 4) ?_
    obtain ⟨r15,hr15,h⟩:=z04 h
    refine At.callL (nf:=0) (caps:=[]) (xs:=[.c (oC 5000 6 a1.2.2),cD (dI a1.1),cD (dI a1.2.1),cD (.fn 37 [])]) [(5000,5000)] [0,1,2,6,8] [] (s0:=⟨[(0,.c (oC 5000 6 a1.2.2)),(1,cD (dI p1)),(2,cD (.fn 37 [])),(6,cD (dI 20)),(8,cD (dI a1.2.1))],[]⟩) (z2v hr15) rfl rfl (by kernel_rfl) rfl (by kernel_rfl) (by kernel_rfl) (.ren rfl rfl (.flat (.refl _) rfl rfl (.flat (.refl _) rfl rfl (.flat (.refl _) rfl rfl .nil)))) ⟨⟨by kernel_rfl,by kernel_rfl⟩,trivial⟩ (by kernel_rfl) (by kernel_rfl) (by kernel_rfl) (by kernel_rfl) (by kernel_rfl) (by kernel_rfl) (by kernel_rfl) (by kernel_rfl) (by kernel_rfl) ⟨[(18,.tup []),(0,.c (oC 5000 6 a1.2.2)),(1,cD (dI p1)),(2,cD (.fn 37 [])),(6,cD (dI 20)),(8,cD (dI a1.2.1))],[(5000,vL 6 z01 r15)]⟩ (by kernel_rfl) ?_
    obtain ⟨hc16,h⟩:=z03 h
    refine At.eqS ⟨[(18,.tup []),(0,.c (oC 5000 6 r15)),(1,cD (dI p1)),(2,cD (.fn 37 [])),(6,cD (dI 20)),(8,cD (dI a1.2.1))],[(5000,vL 6 z01 r15)]⟩ (by simp only [oC,vL,hc16]) ?_
    refine At.done rfl ?_
    refine Tri.sg [0,1,2,6,7,8] [5000] (z00 2) ?_
    refine Tri.reg ?_
    refine At.sg 4 [0,1,2,6,7,8] [5000] (z00 4) ?_
    refine At.done rfl ?_
    cases h
    exact kr
   ·refine Tri.kp [0,1,2,6,7,8] [5000] ?_
    refine Tri.exit ?_
    cases h
    exact ⟨rfl,kr⟩
  ·intro a2 h
   refine Tri.seqS ?_
   refine Tri.reg ?_
   refine At.sg 4 [0,1,2,6,23,24,25,26] [5000] (z00 4) ?_
   obtain ⟨r3,hr3,h⟩:=z04 h
   refine At.callL (nf:=0) (caps:=[]) (xs:=[.c (oC 5000 6 a2.2.2),cD (dI a2.1),cD (dI p1),cD (.fn 37 [])]) [(5000,5000)] [0,1,2,6] [] (s0:=⟨[(0,.c (oC 5000 6 a2.2.2)),(1,cD (dI p1)),(2,cD (.fn 37 [])),(6,cD (dI 20))],[]⟩) (z2v hr3) rfl rfl (by kernel_rfl) rfl (by kernel_rfl) (by kernel_rfl) (.ren rfl rfl (.flat (.refl _) rfl rfl (.flat (.refl _) rfl rfl (.flat (.refl _) rfl rfl .nil)))) ⟨⟨by kernel_rfl,by kernel_rfl⟩,trivial⟩ (by kernel_rfl) (by kernel_rfl) (by kernel_rfl) (by kernel_rfl) (by kernel_rfl) (by kernel_rfl) (by kernel_rfl) (by kernel_rfl) (by kernel_rfl) ⟨[(27,.tup []),(0,.c (oC 5000 6 a2.2.2)),(1,cD (dI p1)),(2,cD (.fn 37 [])),(6,cD (dI 20))],[(5000,vL 6 z01 r3)]⟩ (by kernel_rfl) ?_
   obtain ⟨hc4,h⟩:=z03 h
   refine At.eqS ⟨[(27,.tup []),(0,.c (oC 5000 6 r3)),(1,cD (dI p1)),(2,cD (.fn 37 [])),(6,cD (dI 20))],[(5000,vL 6 z01 r3)]⟩ (by simp only [oC,vL,hc4]) ?_
   refine At.done rfl ?_
   refine Tri.keep [0,1,2,6] [5000] (s':=⟨[(0,.c (oC 5000 6 r3)),(1,cD (dI p1)),(2,cD (.fn 37 [])),(6,cD (dI 20))],[(5000,vL 6 z01 r3)]⟩) (by kernel_rfl) ?_
   refine Tri.loopK (fuel:=fuel) (st0:=(20,r3)) (fun (x:Empty) s=>False) (fun (a5:Int × (List Update))=>⟨[(0,.c (oC 5000 6 a5.2)),(1,cD (dI p1)),(2,cD (.fn 37 [])),(6,cD (dI a5.1))],[(5000,vL 6 z01 a5.2)]⟩) (fun (a5:Int × (List Update))=>⟨[],[(5000,vL 6 z01 a5.2)]⟩) h ?_ ?_ ?_
   ·intro a5 c h
    refine Tri.seqS ?_
    refine Tri.sg [0,1,2,6,30] [5000] (z00 3) ?_
    refine Tri.condK h (fun h => ?_) (fun h => ?_)
    ·refine Tri.skip ?_
     refine Tri.blockB ?_
     refine Tri.sg [0,1,2,6,7,8] [5000] (z00 4) ?_
     refine Tri.seqS ?_
     refine Tri.lK (0,(IntKind.i64.wrap ((2:Int) * a5.1)),a5.2) (fun (x:Empty) s=>False) (fun (a7:Int × Int × (List Update))=>⟨[(0,.c (oC 5000 6 a7.2.2)),(1,cD (dI p1)),(2,cD (.fn 37 [])),(6,cD (dI a5.1)),(7,cD (dI a7.1)),(8,cD (dI a7.2.1))],[(5000,vL 6 z01 a7.2.2)]⟩) [0,1,2,6,7,8] [5000] h ?_ ?_ ?_
     ·intro a7 c h
      refine Tri.seqS ?_
      refine Tri.sg [0,1,2,6,7,8,35] [5000] (z00 3) ?_
      refine Tri.condK h (fun h => ?_) (fun h => ?_)
      ·refine Tri.skip ?_
       refine Tri.blockB ?_
       refine Tri.seqS ?_
       refine Tri.reg ?_
       refine At.sg 7 [0,1,2,6,8,36,37,40,41,42] [5000] (z00 7) ?_
       obtain ⟨r13,hr13,h⟩:=z04 h
       refine At.callL (nf:=0) (caps:=[]) (xs:=[.c (oC 5000 6 a7.2.2),cD (dI a7.1),cD (dI (IntKind.i64.wrap (a7.1 + a5.1))),cD (dI a7.2.1),cD (.fn 37 [])]) [(5000,5000)] [0,1,2,6,8] [] (s0:=⟨[(0,.c (oC 5000 6 a7.2.2)),(1,cD (dI p1)),(2,cD (.fn 37 [])),(6,cD (dI a5.1)),(8,cD (dI a7.2.1))],[]⟩) (z3k hr13) rfl rfl (by kernel_rfl) rfl (by kernel_rfl) (by kernel_rfl) (.ren rfl rfl (.flat (.refl _) rfl rfl (.flat (.refl _) rfl rfl (.flat (.refl _) rfl rfl (.flat (.refl _) rfl rfl .nil))))) ⟨⟨by kernel_rfl,by kernel_rfl⟩,trivial⟩ (by kernel_rfl) (by kernel_rfl) (by kernel_rfl) (by kernel_rfl) (by kernel_rfl) (by kernel_rfl) (by kernel_rfl) (by kernel_rfl) (by kernel_rfl) ⟨[(43,.tup []),(0,.c (oC 5000 6 a7.2.2)),(1,cD (dI p1)),(2,cD (.fn 37 [])),(6,cD (dI a5.1)),(8,cD (dI a7.2.1))],[(5000,vL 6 z01 r13)]⟩ (by kernel_rfl) ?_
       obtain ⟨hc14,h⟩:=z03 h
       refine At.eqS ⟨[(43,.tup []),(0,.c (oC 5000 6 r13)),(1,cD (dI p1)),(2,cD (.fn 37 [])),(6,cD (dI a5.1)),(8,cD (dI a7.2.1))],[(5000,vL 6 z01 r13)]⟩ (by simp only [oC,vL,hc14]) ?_
       refine At.done rfl ?_
       refine Tri.sg [0,1,2,6,7,8] [5000] (z00 2) ?_
       refine Tri.reg ?_
       refine At.sg 5 [0,1,2,6,7,8] [5000] (z00 5) ?_
       refine At.done rfl ?_
       cases h
       exact kr
      ·refine Tri.kp [0,1,2,6,7,8] [5000] ?_
       refine Tri.exit ?_
       cases h
       exact ⟨rfl,kr⟩
     ·intro a8 h
      refine Tri.seqJ (fun (a9:List Update)=>⟨[(0,.c (oC 5000 6 a9)),(1,cD (dI p1)),(2,cD (.fn 37 [])),(6,cD (dI a5.1))],[(5000,vL 6 z01 a9)]⟩) h (fun a9 h => ?_) (fun j10 h => ?_)
      ·refine Tri.reg ?_
       refine At.sg 3 [0,1,2,6] [5000] (z00 3) ?_
       refine At.done rfl ?_
       cases h
       exact kr
      ·refine Tri.sg [0,1,2,6,7,9] [5000] (z00 4) ?_
       refine Tri.sg [0,1,2,6,7,9,54] [5000] (z00 3) ?_
       refine Tri.condK h (fun h => ?_) (fun h => ?_)
       ·refine Tri.reg ?_
        refine At.sg 5 [0,1,2,6,55,56,57,58,59] [5000] (z00 5) ?_
        obtain ⟨r11,hr11,h⟩:=z04 h
        refine At.callL (nf:=0) (caps:=[]) (xs:=[.c (oC 5000 6 a8.2.2),cD (dI a8.1),cD (dI (IntKind.i64.wrap (a8.1 + a5.1))),cD (dI p1),cD (.fn 37 [])]) [(5000,5000)] [0,1,2,6] [] (s0:=⟨[(0,.c (oC 5000 6 a8.2.2)),(1,cD (dI p1)),(2,cD (.fn 37 [])),(6,cD (dI a5.1))],[]⟩) (z3k hr11) rfl rfl (by kernel_rfl) rfl (by kernel_rfl) (by kernel_rfl) (.ren rfl rfl (.flat (.refl _) rfl rfl (.flat (.refl _) rfl rfl (.flat (.refl _) rfl rfl (.flat (.refl _) rfl rfl .nil))))) ⟨⟨by kernel_rfl,by kernel_rfl⟩,trivial⟩ (by kernel_rfl) (by kernel_rfl) (by kernel_rfl) (by kernel_rfl) (by kernel_rfl) (by kernel_rfl) (by kernel_rfl) (by kernel_rfl) (by kernel_rfl) ⟨[(60,.tup []),(0,.c (oC 5000 6 a8.2.2)),(1,cD (dI p1)),(2,cD (.fn 37 [])),(6,cD (dI a5.1))],[(5000,vL 6 z01 r11)]⟩ (by kernel_rfl) ?_
        obtain ⟨hc12,h⟩:=z03 h
        refine At.eqS ⟨[(60,.tup []),(0,.c (oC 5000 6 r11)),(1,cD (dI p1)),(2,cD (.fn 37 [])),(6,cD (dI a5.1))],[(5000,vL 6 z01 r11)]⟩ (by simp only [oC,vL,hc12]) ?_
        refine At.keep [0,1,2,6] [5000] (s':=⟨[(0,.c (oC 5000 6 r11)),(1,cD (dI p1)),(2,cD (.fn 37 [])),(6,cD (dI a5.1))],[(5000,vL 6 z01 r11)]⟩) (by kernel_rfl) ?_
        refine At.done rfl ?_
        exact ⟨_,h,kr⟩
       ·refine Tri.kp [0,1,2,6] [5000] ?_
        refine Tri.skip ?_
        exact ⟨_,h,kr⟩
     · exact fun x=>x.elim
    ·refine Tri.kp [] [5000] ?_
     refine Tri.exit ?_
     cases h
     exact ⟨rfl,kr⟩
   ·intro a6 h
    cases h
    exact RetAt.k
   · exact fun x=>x.elim
  · exact fun x=>x.elim
theorem z2p {fuel:Nat} {l0:List Update} {q:List Update} (h:z0l fuel l0=some q) :
  Summ Tryz.prog 141 [.c (oC 5000 6 l0),cD (.fn 37 [])] [(5000,vL 6 z01 l0)] (.tup []) [(5000,vL 6 z01 q)]:=by
 refine Summ.intro Tryz.func141 rfl (by kernel_rfl) (by kernel_rfl) [] rfl ?_
 rintro ⟨P,w0,G0,V,LL,lk,N, φ0,fx⟩ rfl rfl rfl rfl
 unfold z0l at h
 refine Tri.reg ?_
 refine At.sg 4 [4,6,7] [5000] (z00 4) ?_
 obtain ⟨r1,hr1,h⟩:=z04 h
 refine At.cL 0 [] [.c (oC 5000 6 l0),cD (dI (l0.length:Int)),cD (.fn 37 [])] [(5000,5000)] [] [] (z6a hr1) (.ren rfl rfl (.flat (.refl _) rfl rfl (.flat (.refl _) rfl rfl .nil))) ?_
 refine At.keep [] [5000] (s':=⟨[],[(5000,vL 6 z01 r1)]⟩) (by kernel_rfl) ?_
 refine At.done rfl ?_
 cases h
 exact RetAt.k
theorem zcr {p0:Update} {q:Int} (h:z6l p0=some q) :
  Summ Tryz.prog 117 [.agg (cUpdate p0)] [] (cD (dI q)) []:=by
 refine Summ.intro Tryz.func117 rfl (by kernel_rfl) (by kernel_rfl) [] rfl ?_
 rintro ⟨P,w0,G0,V,LL,lk,N, φ0,fx⟩ rfl rfl rfl rfl
 unfold z6l at h
 refine Tri.sg [1] [1] (z00 2) ?_
 refine Tri.sg [2] [] (z00 3) ?_
 refine Tri.ret ?_
 cases h
 exact RetAt.k
theorem za6 {p0:Nat} {p1:Int} {l0:List Line_Update} {q:List Line_Update} (h:z3e p0 p1 l0=some q) :
  Summ Tryz.prog 131 [.c (.vptr 5000 8 p0 0),cD (dI p1)] [(5000,vL 8 z0i l0)] (.tup []) [(5000,vL 8 z0i q)]:=by
 refine Summ.intro Tryz.func131 rfl (by kernel_rfl) (by kernel_rfl) [] rfl ?_
 rintro ⟨P,w0,G0,V,LL,lk,N, φ0,fx⟩ rfl rfl rfl rfl
 unfold z3e at h
 refine Tri.sg [0,1] [5000] (z00 1) ?_
 refine Tri.seqS ?_
 refine Tri.reg ?_
 obtain ⟨hc1,h⟩:=z03 h
 refine At.sg 7 [0,1,6,10,12] [5000] (tN 4 (ai hc1 (z00 2))) ?_
 obtain ⟨r2,hr2,h⟩:=z04 h
 refine At.callA (caps:=[]) (xs:=[cD (dU ((l0.getD p0 default).tally.low)),cD (dU (IntKind.u64.wrap p1)),cD (dU 0)]) (zdr (fn:=Tryz.f144) Tryz.func144 rfl rfl (by kernel_rfl) (by kernel_rfl) hr2) rfl rfl rfl rfl rfl rfl (.cons (.refl _) (.cons (.refl _) (.cons (.refl _) .nil))) rfl rfl ?_
 refine At.seg 5 [0,1,14,15,17] [5000] (s':=⟨[(0,.c (.vptr 5000 8 p0 0)),(1,cD (dI p1)),(14,cD (dU r2.1)),(15,cD (dU r2.2)),(17,.c (.vptr 5000 8 p0 1))],[(5000,vL 8 z0i l0)]⟩) (by kernel_rfl) (z00 5) ?_
 obtain ⟨hc3,h⟩:=z03 h
 refine At.one rfl (One.storeT (xs:=[.d (dU r2.1)]) (ds:=[dU r2.1]) (z0i) l0 (⟨(⟨(l0.getD p0 default).tally.high,r2.1⟩:Tally),(l0.getD p0 default).of⟩:Line_Update) rfl rfl rfl rfl rfl hc3 rfl rfl (.refl _) rfl rfl rfl rfl) ?_
 refine At.sg 1 [0,1,4] [5000] (z00 1) ?_
 refine At.done rfl ?_
 refine Tri.reg ?_
 obtain ⟨hc4,h⟩:=z03 h
 refine At.sg 9 [19,23,26,27] [5000] (tN 4 (ai hc4 (tN 1 (ai (show ((0:Int)≤63) from (by decide:(0:Int)≤63)) (z00 2))))) ?_
 obtain ⟨r5,hr5,h⟩:=z04 h
 refine At.callA (caps:=[]) (xs:=[cD (dU (((l0.set p0 (⟨(⟨(l0.getD p0 default).tally.high,r2.1⟩:Tally),(l0.getD p0 default).of⟩:Line_Update)).getD p0 default).tally.high)),cD (dU (IntKind.u64.wrap (shrOp .i64 p1 63))),cD (dU r2.2)]) (zdr (fn:=Tryz.f144) Tryz.func144 rfl rfl (by kernel_rfl) (by kernel_rfl) hr5) rfl rfl rfl rfl rfl rfl (.cons (.refl _) (.cons (.refl _) (.cons (.refl _) .nil))) rfl rfl ?_
 refine At.seg 5 [29,32] [5000] (s':=⟨[(29,cD (dU r5.1)),(32,.c (.vptr 5000 8 p0 0))],[(5000,vL 8 z0i (l0.set p0 (⟨(⟨(l0.getD p0 default).tally.high,r2.1⟩:Tally),(l0.getD p0 default).of⟩:Line_Update)))]⟩) (by kernel_rfl) (z00 5) ?_
 obtain ⟨hc6,h⟩:=z03 h
 refine At.one rfl (One.storeT (xs:=[.d (dU r5.1)]) (ds:=[dU r5.1]) (z0i) (l0.set p0 (⟨(⟨(l0.getD p0 default).tally.high,r2.1⟩:Tally),(l0.getD p0 default).of⟩:Line_Update)) (⟨(⟨r5.1,((l0.set p0 (⟨(⟨(l0.getD p0 default).tally.high,r2.1⟩:Tally),(l0.getD p0 default).of⟩:Line_Update)).getD p0 default).tally.low⟩:Tally),((l0.set p0 (⟨(⟨(l0.getD p0 default).tally.high,r2.1⟩:Tally),(l0.getD p0 default).of⟩:Line_Update)).getD p0 default).of⟩:Line_Update) rfl rfl rfl rfl rfl hc6 rfl rfl (.refl _) rfl rfl rfl rfl) ?_
 refine At.keep [] [5000] (s':=⟨[],[(5000,vL 8 z0i ((l0.set p0 (⟨(⟨(l0.getD p0 default).tally.high,r2.1⟩:Tally),(l0.getD p0 default).of⟩:Line_Update)).set p0 (⟨(⟨r5.1,((l0.set p0 (⟨(⟨(l0.getD p0 default).tally.high,r2.1⟩:Tally),(l0.getD p0 default).of⟩:Line_Update)).getD p0 default).tally.low⟩:Tally),((l0.set p0 (⟨(⟨(l0.getD p0 default).tally.high,r2.1⟩:Tally),(l0.getD p0 default).of⟩:Line_Update)).getD p0 default).of⟩:Line_Update)))]⟩) (by kernel_rfl) ?_
 refine At.done rfl ?_
 cases h
 exact RetAt.k
theorem za3 {l0:Line_Update} {q:Int × Int × Line_Update} (h:z3j l0=some q) :
    Summ Tryz.prog 132 [.c (.ptr 5000 0)] [(5000,.box (cLine_Update l0))] (.tup [(false,[.d (dI q.1)]),(false,[.d (dI q.2.1)])]) [(5000,.box (cLine_Update q.2.2))]:=by
  refine Summ.intro Tryz.func132 rfl (by kernel_rfl) (by kernel_rfl) [] rfl ?_
  rintro ⟨P,w0,G0,V,LL,lk,N, φ0,fx⟩ rfl rfl rfl rfl
  unfold z3j at h
  refine Tri.sg [0] [5000] (z00 2) ?_
  refine Tri.seqS ?_
  refine Tri.seqS ?_
  refine Tri.dC [.a [0] [],.a [4] [],.a [5] [],.a [6] [5000],.a [0] [],.a [8] [],.a [9] [],.a [10] [5000],.a [11] [],.a [12] [],.a [13] [],.a [7,14] []] [0,15] [5000] (tN 9 (ai (show ((0:Int)≤63) from (by decide:(0:Int)≤63)) (z00 2))) (.a (.a (.a (.a (.a (.a (.a (.a (.a (.a (.a (.a .z)))))))))))) ?_
  refine Tri.condK h (fun h => ?_) (fun h => ?_)
  ·refine Tri.sg [2,3] [5000] (z00 2) ?_
   refine Tri.ret ?_
   cases h
   exact RetAt.k
  ·refine Tri.skip ?_
   refine Tri.sg [2,3] [5000] (z00 7) ?_
   refine Tri.ret ?_
   cases h
   exact RetAt.k
theorem zd5 {p0:Update} {p1:Int} {q:Update} (h:z6p p0 p1=some q) :
  Summ Tryz.prog 118 [.agg (cUpdate p0),cD (dI p1)] [] (.agg (cUpdate q)) []:=by
 refine Summ.intro Tryz.func118 rfl (by kernel_rfl) (by kernel_rfl) [] rfl ?_
 rintro ⟨P,w0,G0,V,LL,lk,N, φ0,fx⟩ rfl rfl rfl rfl
 unfold z6p at h
 refine Tri.sg [1,2,4] [2,4] (z00 2) ?_
 refine Tri.sg [2,4] [2,4] (z00 3) ?_
 refine Tri.sg [4] [4] (z00 2) ?_
 refine Tri.ret ?_
 cases h
 exact RetAt.k
theorem z33 {fuel:Nat} {l0:List Update} {q:(List Update) × Int × (List Update)} (h:z0g fuel l0=some q) :
    Summ Tryz.prog 116 [.c (oC 5000 6 l0),cD (.fn 37 []),cD (.fn 117 []),cD (.fn 118 [])] [(5000,vL 6 z01 l0)] (.tup [(false,[.d (lD 6 z01 q.1)]),(false,[.d (dI q.2.1)])]) [(5000,vL 6 z01 q.2.2)]:=by
  refine Summ.intro Tryz.func116 rfl (by kernel_rfl) (by kernel_rfl) [] rfl ?_
  rintro ⟨P,w0,G0,V,LL,lk,N, φ0,fx⟩ rfl rfl rfl rfl
  unfold z0g at h
  refine Tri.sg [0,1,2,3] [5000] (z00 2) ?_
  refine Tri.seqS ?_
  refine Tri.reg ?_
  refine At.sg 2 [0,1,2,3,19,20] [5000] (z00 2) ?_
  obtain ⟨r1,hr1,h⟩:=z04 h
  refine At.callL (nf:=0) (caps:=[]) (xs:=[.c (oC 5000 6 l0),cD (.fn 37 [])]) [(5000,5000)] [0,1,2,3] [] (s0:=⟨[(0,.c (oC 5000 6 l0)),(1,cD (.fn 37 [])),(2,cD (.fn 117 [])),(3,cD (.fn 118 []))],[]⟩) (z2p hr1) rfl rfl (by kernel_rfl) rfl (by kernel_rfl) (by kernel_rfl) (.ren rfl rfl (.flat (.refl _) rfl rfl .nil)) ⟨⟨by kernel_rfl,by kernel_rfl⟩,trivial⟩ (by kernel_rfl) (by kernel_rfl) (by kernel_rfl) (by kernel_rfl) (by kernel_rfl) (by kernel_rfl) (by kernel_rfl) (by kernel_rfl) (by kernel_rfl) ⟨[(21,.tup []),(0,.c (oC 5000 6 l0)),(1,cD (.fn 37 [])),(2,cD (.fn 117 [])),(3,cD (.fn 118 []))],[(5000,vL 6 z01 r1)]⟩ (by kernel_rfl) ?_
  obtain ⟨hc2,h⟩:=z03 h
  refine At.eqS ⟨[(21,.tup []),(0,.c (oC 5000 6 r1)),(1,cD (.fn 37 [])),(2,cD (.fn 117 [])),(3,cD (.fn 118 []))],[(5000,vL 6 z01 r1)]⟩ (by simp only [oC,vL,hc2]) ?_
  refine At.done rfl ?_
  refine Tri.sg [0,1,2,3,10] [5000] (z00 1) ?_
  refine Tri.seqS ?_
  refine Tri.segL [1,2,3,10,22,23,24] [5000] ⟨[(1,cD (.fn 37 [])),(2,cD (.fn 117 [])),(3,cD (.fn 118 [])),(10,.c (.zero)),(22,.c (oC 5000 6 r1)),(23,cD (dI (r1.length:Int))),(24,cD (dI 0))],[(5000,vL 6 z01 r1)]⟩ _ (by kernel_rfl) (z00 3) ?_
  refine Tri.newOwn (t:=10) (k:=1010) (es:=8) (fun i=>z0i (([]:List Line_Update).getD i default)) rfl rfl rfl ?_
  refine Tri.lenOfO (t:=22) rfl rfl (Nat.le_refl _) fun hlena4 => ?_
  refine Tri.rK 24 ([]:List Line_Update) (fun (x:Empty) s=>False) (fun (a4:List Line_Update)=>⟨[(1,cD (.fn 37 [])),(2,cD (.fn 117 [])),(3,cD (.fn 118 [])),(10,.c (oC 1010 8 a4)),(22,.c (oC 5000 6 r1)),(23,cD (dI (r1.length:Int)))],[(1010,vL 8 z0i a4),(5000,vL 6 z01 r1)]⟩) [24,1,2,3,10,22,23] [1010,5000] [25,24,1,2,3,10,22,23] [1010,5000] [1,2,3,10,22,23] [1010,5000] [24,1,2,3,10,22,23] [1010,5000] h hlena4 ?_ ?_ ?_
  ·intro i3 a4 c hii3 h
   obtain ⟨hc13,h⟩:=z03 h
   refine Tri.sg [1,2,3,10,12,22,23,24] [12,1010,5000] (ai (show ((0:Int)≤((i3:Nat):Int)∧((i3:Nat):Int) < (r1.length:Int)) from ⟨by omega,by omega⟩) (ai hc13 (z00 2))) ?_
   refine Tri.seqJ (fun (a14:List Line_Update)=>⟨[(1,cD (.fn 37 [])),(2,cD (.fn 117 [])),(3,cD (.fn 118 [])),(10,.c (oC 1010 8 a14)),(12,.c (.ptr 12 0)),(22,.c (oC 5000 6 r1)),(23,cD (dI (r1.length:Int))),(24,cD (dI ((i3:Nat):Int)))],[(12,.box (cUpdate (r1.getD (0 + i3) default))),(1010,vL 8 z0i a14),(5000,vL 6 z01 r1)]⟩) h (fun a14 h => ?_) (fun j15 h => ?_)
   ·refine Tri.eqS ⟨[(1,cD (.fn 37 [])),(2,cD (.fn 117 [])),(3,cD (.fn 118 [])),(10,.c (oC 1010 8 a14)),(12,.c (.ptr 12 0)),(22,.c (oC 5000 6 r1)),(23,cD (dI (r1.length:Int))),(24,cD (dI ((i3:Nat):Int)))],[(12,.box (cUpdate (r1.getD (0 + i3) default))),(1010,vL 8 z0i a14),(5000,vL 6 z01 r1)]⟩ kr ?_
    obtain ⟨hc16,h⟩:=z03 h
    obtain ⟨r17,hr17,h⟩:=z04 h
    obtain ⟨r18,hr18,h⟩:=z04 h
    obtain ⟨hc19,h⟩:=z03 h
    refine Tri.afterA ⟨[(1,cD (.fn 37 [])),(2,cD (.fn 117 [])),(3,cD (.fn 118 [])),(10,.c (oC 1010 8 a14)),(22,.c (oC 5000 6 r1)),(23,cD (dI (r1.length:Int))),(24,cD (dI ((i3:Nat):Int)))],[(1010,vL 8 z0i r18),(5000,vL 6 z01 r1)]⟩ ?_ ?_
    ·refine Tri.dS ⟨[(1,cD (.fn 37 [])),(2,cD (.fn 117 [])),(3,cD (.fn 118 [])),(10,.c (oC 1010 8 a14)),(22,.c (oC 5000 6 r1)),(23,cD (dI (r1.length:Int))),(24,cD (dI ((i3:Nat):Int)))],[(1010,vL 8 z0i r18),(5000,vL 6 z01 r1)]⟩ [.a [10] [],.a [10] [],.a [50] [1010],.a [51] [],.a [49,52] [1010],.a [53] [],.a [2] [],.a [12] [12],.m ⟨[(55,cD (.fn 117 [])),(56,.agg (cUpdate (r1.getD (0 + i3) default)))],[]⟩ ⟨[(57,cD (dI r17))],[]⟩ [] [] [],.m ⟨[(54,.c (.vptr 1010 8 (0 + (IntKind.i64.wrap ((a14.length:Int) - 1)).toNat) 0)),(57,cD (dI r17))],[(1010,vL 8 z0i a14)]⟩ ⟨[(58,.tup [])],[(1010,vL 8 z0i r18)]⟩ [] [] []] [1,2,3,10,22,23,24] [1010,5000] (tN 4 (ai hc16 (z00 3))) (.a (.a (.a (.a (.a (.a (.a (.a (.m ?_ (.m ?_ .z)))))))))) ?_
     · exact DOk.cA [] [.agg (cUpdate (r1.getD (0 + i3) default))] (zcr hr17) fun r=>(.cons (.refl _) .nil)
     · exact DOk.callL (nf:=0) (caps:=[]) (xs:=[.c (.vptr 1010 8 (0 + (IntKind.i64.wrap ((a14.length:Int) - 1)).toNat) 0),cD (dI r17)]) [(5000,1010)] (za6 hr18) rfl (fun r=>by kernel_rfl) rfl (fun r=>by kernel_rfl) (fun r=>by kernel_rfl) (fun r=>(.ren rfl rfl (.flat (.refl _) rfl rfl .nil))) (fun r=>⟨⟨by kernel_rfl,by kernel_rfl⟩,trivial⟩) (by kernel_rfl) (by kernel_rfl) (by kernel_rfl) (by kernel_rfl) (by kernel_rfl) (by kernel_rfl) (by kernel_rfl) (by kernel_rfl) (by kernel_rfl) (by kernel_rfl) (by first | kernel_rfl | (show _=_; kernel_rfl))
     exact ⟨rfl,rfl⟩
    ·refine At.eqS (s':=⟨[(1,cD (.fn 37 [])),(2,cD (.fn 117 [])),(3,cD (.fn 118 [])),(10,.c (oC 1010 8 r18)),(22,.c (oC 5000 6 r1)),(23,cD (dI (r1.length:Int))),(24,cD (dI ((i3:Nat):Int)))],[(1010,vL 8 z0i r18),(5000,vL 6 z01 r1)]⟩) (by simp only [oC,vL,List.length_set,hc19]) ?_
     refine At.keep [24,1,2,3,10,22,23] [1010,5000] (s':=⟨[(24,cD (dI ((i3:Nat):Int))),(1,cD (.fn 37 [])),(2,cD (.fn 117 [])),(3,cD (.fn 118 [])),(10,.c (oC 1010 8 r18)),(22,.c (oC 5000 6 r1)),(23,cD (dI (r1.length:Int)))],[(1010,vL 8 z0i r18),(5000,vL 6 z01 r1)]⟩) (by kernel_rfl) ?_
     refine At.done rfl ?_
     cases h
     exact kr
   ·refine Tri.segL [1,2,3,10,12,13,22,23,24] [12,1010,5000] ⟨[(1,cD (.fn 37 [])),(2,cD (.fn 117 [])),(3,cD (.fn 118 [])),(10,.c (oC 1010 8 a4)),(12,.c (.ptr 12 0)),(13,cD (dI (a4.length:Int))),(22,.c (oC 5000 6 r1)),(23,cD (dI (r1.length:Int))),(24,cD (dI ((i3:Nat):Int)))],[(12,.box (cUpdate (r1.getD (0 + i3) default))),(1010,vL 8 z0i a4),(5000,vL 6 z01 r1)]⟩ _ (by kernel_rfl) (z00 3) ?_
    refine Tri.seqJ (fun (a20:Bool)=>⟨[(1,cD (.fn 37 [])),(2,cD (.fn 117 [])),(3,cD (.fn 118 [])),(10,.c (oC 1010 8 a4)),(12,.c (.ptr 12 0)),(22,.c (oC 5000 6 r1)),(23,cD (dI (r1.length:Int))),(24,cD (dI ((i3:Nat):Int))),(43,cD (.bool a20))],[(12,.box (cUpdate (r1.getD (0 + i3) default))),(1010,vL 8 z0i a4),(5000,vL 6 z01 r1)]⟩) h (fun a20 h => ?_) (fun j21 h => ?_)
    ·refine Tri.condK h (fun h => ?_) (fun h => ?_)
     ·refine Tri.reg ?_
      refine At.seg 3 [1,2,3,12,22,23,24,44,46] [12,1010,5000] (s':=⟨[(1,cD (.fn 37 [])),(2,cD (.fn 117 [])),(3,cD (.fn 118 [])),(12,.c (.ptr 12 0)),(22,.c (oC 5000 6 r1)),(23,cD (dI (r1.length:Int))),(24,cD (dI ((i3:Nat):Int))),(44,.c (oC 1010 8 a4)),(46,.agg [.d (dU 0),.d (dU 0),.d (lD 3 z05 ((r1.getD (0 + i3) default).key)),.d (lD 3 z05 ((r1.getD (0 + i3) default).row)),.d (dU ((r1.getD (0 + i3) default).time.epoch)),.d (dU ((r1.getD (0 + i3) default).time.loop.1)),.d (dU ((r1.getD (0 + i3) default).time.loop.2)),.d (dI ((r1.getD (0 + i3) default).diff))])],[(12,.box (cUpdate (r1.getD (0 + i3) default))),(1010,vL 8 z0i a4),(5000,vL 6 z01 r1)]⟩) (by kernel_rfl) (z00 3) ?_
      refine At.one rfl (One.buildSlice (z:=[.d (dU 0),.d (dU 0),.zero,.zero,.d (dU 0),.d (dU 0),.d (dU 0),.d (dI 0)]) (cells:=[.d (dU 0),.d (dU 0),.d (lD 3 z05 ((r1.getD (0 + i3) default).key)),.d (lD 3 z05 ((r1.getD (0 + i3) default).row)),.d (dU ((r1.getD (0 + i3) default).time.epoch)),.d (dU ((r1.getD (0 + i3) default).time.loop.1)),.d (dU ((r1.getD (0 + i3) default).time.loop.2)),.d (dI ((r1.getD (0 + i3) default).diff))]) (xs:=List.map (z0i) ([(⟨(⟨0,0⟩:Tally),(r1.getD (0 + i3) default)⟩:Line_Update)]:List Line_Update)) rfl rfl rfl rfl (by kernel_rfl) rfl rfl (by kernel_rfl) rfl rfl rfl (by kernel_rfl) rfl ⟨⟨rfl,.refl _⟩,trivial⟩) ?_
      refine At.le [47] (fun k hk h=>by first | (cases h; done) | (simp at hk h; omega)) ⟨[(47,cD (lD 8 z0i ([(⟨(⟨0,0⟩:Tally),(r1.getD (0 + i3) default)⟩:Line_Update)]:List Line_Update))),(1,cD (.fn 37 [])),(2,cD (.fn 117 [])),(3,cD (.fn 118 [])),(12,.c (.ptr 12 0)),(22,.c (oC 5000 6 r1)),(23,cD (dI (r1.length:Int))),(24,cD (dI ((i3:Nat):Int))),(44,.c (oC 1010 8 a4)),(46,.agg [.d (dU 0),.d (dU 0),.d (lD 3 z05 ((r1.getD (0 + i3) default).key)),.d (lD 3 z05 ((r1.getD (0 + i3) default).row)),.d (dU ((r1.getD (0 + i3) default).time.epoch)),.d (dU ((r1.getD (0 + i3) default).time.loop.1)),.d (dU ((r1.getD (0 + i3) default).time.loop.2)),.d (dI ((r1.getD (0 + i3) default).diff))])],[(12,.box (cUpdate (r1.getD (0 + i3) default))),(1010,vL 8 z0i a4),(5000,vL 6 z01 r1)]⟩ ⟨⟨_,rfl,.c (.own rfl (List.mem_singleton.2 rfl) (Nat.le_of_ble_eq_true rfl) rfl (z1z (z0i) ([(⟨(⟨0,0⟩:Tally),(r1.getD (0 + i3) default)⟩:Line_Update)]:List Line_Update)))⟩,⟨_,rfl,.refl _⟩,⟨_,rfl,.refl _⟩,⟨_,rfl,.refl _⟩,⟨_,rfl,.refl _⟩,⟨_,rfl,.refl _⟩,⟨_,rfl,.refl _⟩,⟨_,rfl,.refl _⟩,⟨_,rfl,.refl _⟩,⟨_,rfl,.refl _⟩,trivial⟩ ⟨⟨_,rfl,.refl _,(by simp)⟩,⟨_,rfl,.refl _,(by simp)⟩,⟨_,rfl,.refl _,(by simp)⟩,trivial⟩ ?_
      obtain ⟨hc22,h⟩:=z03 h
      refine At.one rfl (One.appendT (e:=162) (es:=8) (z0i) a4 ([(⟨(⟨0,0⟩:Tally),(r1.getD (0 + i3) default)⟩:Line_Update)]:List Line_Update) rfl rfl rfl rfl rfl (.of 162 96 [.d (dU 0),.d (dU 0),.zero,.zero,.d (dU 0),.d (dU 0),.d (dU 0),.d (dI 0)] (by kernel_rfl) (by kernel_rfl) (by kernel_rfl) (by kernel_rfl) rfl (by kernel_rfl) rfl) rfl rfl rfl (.list rfl (fun _ _=>rfl)) hc22) ?_
      refine At.sg 1 [1,2,3,10,12,22,23,24] [12,1010,5000] (z00 1) ?_
      refine At.done rfl ?_
      exact ⟨_,h,kr⟩
     ·refine Tri.kp [1,2,3,10,12,22,23,24] [12,1010,5000] ?_
      refine Tri.skip ?_
      exact ⟨_,h,kr⟩
    ·rcases z1f h with ⟨hp23,h⟩ | ⟨hp23,h⟩
     ·refine Tri.dC [.a [13] [],.a [30] [],.m ⟨[(31,cD (.bool (decide ((a4.length:Int)=0))))],[]⟩ ⟨[(32,.c (.d (.bool true)))],[]⟩ [] [] [],.a [1,32] [],.a [10,32] [],.a [13,32] [],.a [32,35] [],.a [32,34,36] [],.a [32,37] [],.a [32,38] [],.a [12,32] [12],.a [32,33,39,40] [],.a [32,41] [],.a [32,42] []] [1,2,3,10,12,22,23,24,43] [12,1010,5000] (z00 3) (.a (.a (.m ?_ (.a (.a (.a (.a (.a (.a (.a (.a (.a (.a (.a .z)))))))))))))) ?_
      · exact DOk.stepP (fun b => .val (.c (.d (.bool b))) (True)) (p:=(decide ((a4.length:Int)=0))) hp23 (fun r=>by kernel_rfl) (fun r=>by kernel_rfl) trivial (by kernel_rfl) (by kernel_rfl) (fun r=>rfl)
      exact ⟨_,h,kr⟩
     ·obtain ⟨hc24,h⟩:=z03 h
      obtain ⟨hc25,h⟩:=z03 h
      obtain ⟨r26,hr26,h⟩:=z04 h
      refine Tri.dC [.a [13] [],.a [30] [],.m ⟨[(31,cD (.bool (decide ((a4.length:Int)=0))))],[]⟩ ⟨[(32,.c (.d (.bool false)))],[]⟩ [] [] [],.a [1,32] [],.a [10,32] [],.a [13,32] [],.a [32,35] [],.a [32,34,36] [1010],.a [32,37] [],.a [32,38] [1010],.a [12,32] [12],.m ⟨[(32,cD (.bool false)),(33,cD (.fn 37 [])),(39,.agg [.d (lD 3 z05 ((a4.getD (0 + (IntKind.i64.wrap ((a4.length:Int) - 1)).toNat) default).of.key)),.d (lD 3 z05 ((a4.getD (0 + (IntKind.i64.wrap ((a4.length:Int) - 1)).toNat) default).of.row)),.d (dU ((a4.getD (0 + (IntKind.i64.wrap ((a4.length:Int) - 1)).toNat) default).of.time.epoch)),.d (dU ((a4.getD (0 + (IntKind.i64.wrap ((a4.length:Int) - 1)).toNat) default).of.time.loop.1)),.d (dU ((a4.getD (0 + (IntKind.i64.wrap ((a4.length:Int) - 1)).toNat) default).of.time.loop.2)),.d (dI ((a4.getD (0 + (IntKind.i64.wrap ((a4.length:Int) - 1)).toNat) default).of.diff))]),(40,.agg (cUpdate (r1.getD (0 + i3) default)))],[]⟩ ⟨[(41,cD (dI r26))],[]⟩ [] [] [],.a [32,41] [],.a [32,42] []] [1,2,3,10,12,22,23,24,43] [12,1010,5000] (tN 6 (ai hc24 (tN 1 (ai hc25 (z00 3))))) (.a (.a (.m ?_ (.a (.a (.a (.a (.a (.a (.a (.a (.m ?_ (.a (.a .z)))))))))))))) ?_
      · exact DOk.stepP (fun b => .val (.c (.d (.bool b))) (True)) (p:=(decide ((a4.length:Int)=0))) hp23 (fun r=>by kernel_rfl) (fun r=>by kernel_rfl) trivial (by kernel_rfl) (by kernel_rfl) (fun r=>rfl)
      · exact DOk.cA [] [.agg [.d (lD 3 z05 ((a4.getD (0 + (IntKind.i64.wrap ((a4.length:Int) - 1)).toNat) default).of.key)),.d (lD 3 z05 ((a4.getD (0 + (IntKind.i64.wrap ((a4.length:Int) - 1)).toNat) default).of.row)),.d (dU ((a4.getD (0 + (IntKind.i64.wrap ((a4.length:Int) - 1)).toNat) default).of.time.epoch)),.d (dU ((a4.getD (0 + (IntKind.i64.wrap ((a4.length:Int) - 1)).toNat) default).of.time.loop.1)),.d (dU ((a4.getD (0 + (IntKind.i64.wrap ((a4.length:Int) - 1)).toNat) default).of.time.loop.2)),.d (dI ((a4.getD (0 + (IntKind.i64.wrap ((a4.length:Int) - 1)).toNat) default).of.diff))],.agg (cUpdate (r1.getD (0 + i3) default))] (z5c hr26) fun r=>(.cons (.refl _) (.cons (.refl _) .nil))
      exact ⟨_,h,kr⟩
  ·intro a5 h
   refine Tri.sg [3,10,14] [1010,5000] (z00 1) ?_
   refine Tri.seqS ?_
   refine Tri.segL [3,14,60,61,62] [1010,5000] ⟨[(3,cD (.fn 118 [])),(14,.c (.zero)),(60,.c (oC 1010 8 a5)),(61,cD (dI (a5.length:Int))),(62,cD (dI 0))],[(1010,vL 8 z0i a5),(5000,vL 6 z01 r1)]⟩ _ (by kernel_rfl) (z00 3) ?_
   refine Tri.lenOfO (t:=60) rfl rfl (Nat.le_refl _) fun hlena7 => ?_
   refine Tri.newOwn (t:=14) (k:=1014) (es:=6) (fun i=>z01 (([]:List Update).getD i default)) rfl rfl rfl ?_
   refine Tri.rK 62 ([]:List Update) (fun (x:(List Update) × Int × (List Update)) s=>RetAt Tryz.prog Tryz.f116 (.tup [(false,[.d (lD 6 z01 x.1)]),(false,[.d (dI x.2.1)])]) [(5000,vL 6 z01 x.2.2)] s) (fun (a7:List Update)=>⟨[(3,cD (.fn 118 [])),(14,.c (oC 1014 6 a7)),(60,.c (oC 1010 8 a5)),(61,cD (dI (a5.length:Int)))],[(1010,vL 8 z0i a5),(1014,vL 6 z01 a7),(5000,vL 6 z01 r1)]⟩) [62,3,14,60,61] [1010,1014,5000] [63,62,3,14,60,61] [1010,1014,5000] [3,14,60,61] [1010,1014,5000] [62,3,14,60,61] [1010,1014,5000] h hlena7 ?_ ?_ ?_
   ·intro i6 a7 c hii6 h
    obtain ⟨hc9,h⟩:=z03 h
    refine Tri.sg [3,14,16,60,61,62] [16,1010,1014,5000] (ai (show ((0:Int)≤((i6:Nat):Int)∧((i6:Nat):Int) < (a5.length:Int)) from ⟨by omega,by omega⟩) (ai hc9 (z00 2))) ?_
    refine Tri.seqS ?_
    refine Tri.reg ?_
    refine At.sg 1 [3,14,16,60,61,62,67] [16,1010,1014,5000] (z00 1) ?_
    obtain ⟨r10,hr10,h⟩:=z04 h
    refine At.cL 0 [] [.c (.ptr 16 0)] [(5000,16)] [3,14,16,60,61,62] [1010,1014,5000] (za3 hr10) (.ren rfl rfl .nil) ?_
    refine At.sg 5 [3,14,16,17,18,60,61,62] [16,1010,1014,5000] (z00 5) ?_
    refine At.done rfl ?_
    refine Tri.seqS ?_
    refine Tri.sg [3,14,16,17,18,60,61,62,72] [16,1010,1014,5000] (z00 2) ?_
    refine Tri.condK h (fun h => ?_) (fun h => ?_)
    ·refine Tri.sg [8,9] [5000] (z00 3) ?_
     refine Tri.keep [8,9] [5000] (s':=⟨[(8,.c (.zero)),(9,cD (dI r10.2.1))],[(5000,vL 6 z01 r1)]⟩) (by kernel_rfl) ?_
     refine Tri.le [] (fun k hk=>by cases hk) ⟨[(8,cD (lD 6 z01 ([]:List Update))),(9,cD (dI r10.2.1))],[(5000,vL 6 z01 r1)]⟩ ⟨⟨_,rfl,.c (.zero _ _)⟩,⟨_,rfl,.refl _⟩,trivial⟩ ⟨⟨_,rfl,.refl _,(by simp)⟩,trivial⟩ ?_
     refine Tri.ret ?_
     cases h
     exact RetAt.k
    ·refine Tri.skip ?_
     refine Tri.sg [3,14,16,17,60,61,62,75] [16,1010,1014,5000] (z00 2) ?_
     refine Tri.condK h (fun h => ?_) (fun h => ?_)
     ·refine Tri.reg ?_
      refine At.seg 5 [3,60,61,62,76,77,79,80] [1010,1014,5000] (s':=⟨[(3,cD (.fn 118 [])),(60,.c (oC 1010 8 a5)),(61,cD (dI (a5.length:Int))),(62,cD (dI ((i6:Nat):Int))),(76,.c (oC 1014 6 a7)),(77,cD (.fn 118 [])),(79,.agg (cUpdate r10.2.2.of)),(80,cD (dI r10.1))],[(1010,vL 8 z0i a5),(1014,vL 6 z01 a7),(5000,vL 6 z01 r1)]⟩) (by kernel_rfl) (z00 5) ?_
      obtain ⟨r11,hr11,h⟩:=z04 h
      refine At.cA [] [.agg (cUpdate r10.2.2.of),cD (dI r10.1)] (zd5 hr11) (.cons (.refl _) (.cons (.refl _) .nil)) ?_
      refine At.one rfl (One.buildSlice (z:=[.zero,.zero,.d (dU 0),.d (dU 0),.d (dU 0),.d (dI 0)]) (cells:=[.d (lD 3 z05 r11.key),.d (lD 3 z05 r11.row),.d (dU r11.time.epoch),.d (dU r11.time.loop.1),.d (dU r11.time.loop.2),.d (dI r11.diff)]) (xs:=List.map (z01) ([r11]:List Update)) rfl rfl rfl rfl (by kernel_rfl) rfl rfl (by kernel_rfl) rfl rfl rfl (by kernel_rfl) rfl ⟨⟨rfl,.refl _⟩,trivial⟩) ?_
      refine At.le [82] (fun k hk h=>by first | (cases h; done) | (simp at hk h; omega)) ⟨[(82,cD (lD 6 z01 ([r11]:List Update))),(3,cD (.fn 118 [])),(60,.c (oC 1010 8 a5)),(61,cD (dI (a5.length:Int))),(62,cD (dI ((i6:Nat):Int))),(76,.c (oC 1014 6 a7)),(81,.agg (cUpdate r11))],[(1010,vL 8 z0i a5),(1014,vL 6 z01 a7),(5000,vL 6 z01 r1)]⟩ ⟨⟨_,rfl,.c (.own rfl (List.mem_singleton.2 rfl) (Nat.le_of_ble_eq_true rfl) rfl (z1z (z01) ([r11]:List Update)))⟩,⟨_,rfl,.refl _⟩,⟨_,rfl,.refl _⟩,⟨_,rfl,.refl _⟩,⟨_,rfl,.refl _⟩,⟨_,rfl,.refl _⟩,⟨_,rfl,.refl _⟩,trivial⟩ ⟨⟨_,rfl,.refl _,(by simp)⟩,⟨_,rfl,.refl _,(by simp)⟩,⟨_,rfl,.refl _,(by simp)⟩,trivial⟩ ?_
      obtain ⟨hc12,h⟩:=z03 h
      refine At.one rfl (One.appendT (e:=56) (es:=6) (z01) a7 ([r11]:List Update) rfl rfl rfl rfl rfl (.of 56 80 [.zero,.zero,.d (dU 0),.d (dU 0),.d (dU 0),.d (dI 0)] (by kernel_rfl) (by kernel_rfl) (by kernel_rfl) (by kernel_rfl) rfl (by kernel_rfl) rfl) rfl rfl rfl (.list rfl (fun _ _=>rfl)) hc12) ?_
      refine At.sg 1 [62,3,14,60,61] [1010,1014,5000] (z00 1) ?_
      refine At.done rfl ?_
      cases h
      exact kr
     ·refine Tri.kp [62,3,14,60,61] [1010,1014,5000] ?_
      refine Tri.skip ?_
      cases h
      exact kr
   ·intro a8 h
    refine Tri.sg [8,9] [1014,5000] (z00 3) ?_
    refine Tri.keep [8,9] [1014,5000] (s':=⟨[(8,.c (oC 1014 6 a8)),(9,cD (dI 0))],[(1014,vL 6 z01 a8),(5000,vL 6 z01 r1)]⟩) (by kernel_rfl) ?_
    refine Tri.le [1014] (fun k hk h=>by first | (cases h; done) | (simp at hk h; omega)) ⟨[(8,cD (lD 6 z01 a8)),(9,cD (dI 0))],[(5000,vL 6 z01 r1)]⟩ ⟨⟨_,rfl,.c (CLe.frozen (z01) a8 rfl (by simp))⟩,⟨_,rfl,.refl _⟩,trivial⟩ ⟨⟨_,rfl,.refl _,(by simp)⟩,trivial⟩ ?_
    refine Tri.ret ?_
    cases h
    exact RetAt.k
   · exact fun x s hx hr=>by cases hx; exact hr
  · exact fun x=>x.elim
theorem z1j {p0:List Value} {q:List Value} (h:z0t p0=some q) :
    Summ Tryz.prog 103 [cD (lD 3 z05 p0)] [] (cD (lD 3 z05 q)) []:=by
  refine Summ.intro Tryz.func103 rfl (by kernel_rfl) (by kernel_rfl) [] rfl ?_
  rintro ⟨P,w0,G0,V,LL,lk,N, φ0,fx⟩ rfl rfl rfl rfl
  unfold z0t at h
  refine Tri.sg [0] [] (z00 1) ?_
  refine Tri.seqS ?_
  refine Tri.seqS ?_
  refine Tri.reg ?_
  refine At.seg 1 [0,3] [] (s':=⟨[(0,cD (lD 3 z05 p0)),(3,cD (lD 3 z05 p0))],[]⟩) (by kernel_rfl) (z00 1) ?_
  have hnil:p0.length=0→(some ([]:List Value))=(need (p0.length≤274877906944) <| some p0):=by intro h0; obtain rfl:=List.eq_nil_of_length_eq_zero h0; rfl
  refine At.nilCase (e:=58) rfl rfl rfl rfl rfl (by kernel_rfl) rfl (fun h0 => ?_) ?_
  ·replace h:=(hnil h0).trans h
   refine At.done rfl ?_
   refine Tri.cond (b:=true) (by kernel_rfl) (fun _ => ?_) (fun e=>by cases e)
   refine Tri.sg [2] [] (z00 1) ?_
   refine Tri.keep [2] [] (s':=⟨[(2,.c (.zero))],[]⟩) (by kernel_rfl) ?_
   refine Tri.le [] (fun k hk=>by cases hk) ⟨[(2,cD (lD 3 z05 ([]:List Value)))],[]⟩ ⟨⟨_,rfl,.c (.zero _ _)⟩,trivial⟩ trivial ?_
   refine Tri.ret ?_
   cases h
   exact RetAt.k
  ·refine At.done rfl ?_
   refine Tri.cond (b:=false) (by kernel_rfl) (fun e=>by cases e) (fun _ => ?_)
   refine Tri.skip ?_
   refine Tri.seqS ?_
   refine Tri.reg ?_
   refine At.one rfl (One.build0 (e:=58) (es:=3) rfl rfl rfl rfl (by kernel_rfl) rfl) ?_
   refine At.seg 1 [5,6] [] (s':=⟨[(5,.c (.zero)),(6,cD (lD 3 z05 p0))],[]⟩) (by kernel_rfl) (z00 1) ?_
   obtain ⟨hc1,h⟩:=z03 h
   refine At.one rfl (One.append0 (e:=58) (es:=3) (m:=p0.length) (get:=fun i=>z05 (p0.getD i default)) rfl rfl rfl rfl (by kernel_rfl) (.of 58 32 [.d (.bool false),.d (dI 0),.d (.str (bs []))] (by kernel_rfl) (by kernel_rfl) (by kernel_rfl) (by kernel_rfl) rfl (by kernel_rfl) rfl) rfl rfl (.list rfl (fun _ _=>rfl)) hc1) ?_
   refine At.sg 1 [2] [7] (z00 1) ?_
   refine At.done rfl ?_
   refine Tri.keep [2] [7] (s':=⟨[(2,.c (oC 7 3 p0))],[(7,vL 3 z05 p0)]⟩) (by kernel_rfl) ?_
   refine Tri.le [7] (fun k hk h=>by first | (cases h; done) | (simp at hk h; omega)) ⟨[(2,cD (lD 3 z05 p0))],[]⟩ ⟨⟨_,rfl,.c (CLe.frozen (z05) p0 rfl (by simp))⟩,trivial⟩ trivial ?_
   refine Tri.ret ?_
   cases h
   exact RetAt.k
theorem z7j {p0:List Update} {q:List Update} (h:z6v p0=some q) :
    Summ Tryz.prog 92 [cD (lD 6 z01 p0)] [] (cD (lD 6 z01 q)) []:=by
  refine Summ.intro Tryz.func92 rfl (by kernel_rfl) (by kernel_rfl) [] rfl ?_
  rintro ⟨P,w0,G0,V,LL,lk,N, φ0,fx⟩ rfl rfl rfl rfl
  unfold z6v at h
  refine Tri.sg [0] [] (z00 1) ?_
  refine Tri.seqS ?_
  refine Tri.reg ?_
  refine At.seg 2 [0,6] [] (s':=⟨[(0,cD (lD 6 z01 p0)),(6,cD (dI (p0.length:Int)))],[]⟩) (by kernel_rfl) (z00 2) ?_
  obtain ⟨hc1,h⟩:=z03 h
  refine At.one rfl (One.makeT (e:=56) (es:=6) (bs:=80) (n:=(p0.length:Int)) (c:=(p0.length:Int)) (z:=[.zero,.zero,.d (dU 0),.d (dU 0),.d (dU 0),.d (dI 0)]) (z01) ((⟨([]:List Value),([]:List Value),(⟨0,(0,0)⟩:Time),0⟩:Update):Update) rfl rfl rfl rfl (by kernel_rfl) rfl rfl rfl (by kernel_rfl) rfl (by kernel_rfl) rfl (.cons (.zero _ _) (.cons (.zero _ _) (.cons (.refl _) (.cons (.refl _) (.cons (.refl _) (.cons (.refl _) .nil)))))) rfl rfl rfl hc1.1 hc1.2.1 hc1.2.2 rfl) ?_
  refine At.sg 1 [0,3] [7] (z00 1) ?_
  refine At.done rfl ?_
  refine Tri.seqS ?_
  refine Tri.reg ?_
  refine At.seg 2 [3,8,9] [7] (s':=⟨[(3,.c (oC 7 6 (List.replicate p0.length ((⟨([]:List Value),([]:List Value),(⟨0,(0,0)⟩:Time),0⟩:Update):Update)))),(8,.c (oC 7 6 (List.replicate p0.length ((⟨([]:List Value),([]:List Value),(⟨0,(0,0)⟩:Time),0⟩:Update):Update)))),(9,cD (lD 6 z01 p0))],[(7,vL 6 z01 (List.replicate p0.length ((⟨([]:List Value),([]:List Value),(⟨0,(0,0)⟩:Time),0⟩:Update):Update)))]⟩) (by kernel_rfl) (z00 2) ?_
  obtain ⟨hc2,h⟩:=z03 h
  refine At.one rfl (One.copyT (e:=56) (es:=6) (z01) (List.replicate p0.length ((⟨([]:List Value),([]:List Value),(⟨0,(0,0)⟩:Time),0⟩:Update):Update)) p0 rfl rfl rfl rfl rfl rfl rfl rfl (.list rfl (fun _ _=>rfl)) hc2) ?_
  refine At.keep [3,10] [7] (s':=⟨[(3,.c (oC 7 6 (List.replicate p0.length ((⟨([]:List Value),([]:List Value),(⟨0,(0,0)⟩:Time),0⟩:Update):Update)))),(10,cD (dI ((p0.length:Nat):Int)))],[(7,vL 6 z01 (copyL (List.replicate p0.length ((⟨([]:List Value),([]:List Value),(⟨0,(0,0)⟩:Time),0⟩:Update):Update)) p0))]⟩) (by kernel_rfl) ?_
  refine At.eqS (s':=⟨[(3,.c (oC 7 6 (copyL (List.replicate p0.length ((⟨([]:List Value),([]:List Value),(⟨0,(0,0)⟩:Time),0⟩:Update):Update)) p0))),(10,cD (dI ((p0.length:Nat):Int)))],[(7,vL 6 z01 (copyL (List.replicate p0.length ((⟨([]:List Value),([]:List Value),(⟨0,(0,0)⟩:Time),0⟩:Update):Update)) p0))]⟩) (by simp only [oC,vL,zba hc2]) ?_
  refine At.done rfl ?_
  refine Tri.seqS ?_
  refine Tri.segL [3,12,13] [7] ⟨[(3,.c (oC 7 6 (copyL (List.replicate p0.length ((⟨([]:List Value),([]:List Value),(⟨0,(0,0)⟩:Time),0⟩:Update):Update)) p0))),(12,cD (dI ((copyL (List.replicate p0.length ((⟨([]:List Value),([]:List Value),(⟨0,(0,0)⟩:Time),0⟩:Update):Update)) p0).length:Int))),(13,cD (dI 0))],[(7,vL 6 z01 (copyL (List.replicate p0.length ((⟨([]:List Value),([]:List Value),(⟨0,(0,0)⟩:Time),0⟩:Update):Update)) p0))]⟩ _ (by kernel_rfl) (z00 3) ?_
  refine Tri.lenOfO (t:=3) rfl rfl (Nat.le_refl _) fun hlena4 => ?_
  refine Tri.rK 13 (copyL (List.replicate p0.length ((⟨([]:List Value),([]:List Value),(⟨0,(0,0)⟩:Time),0⟩:Update):Update)) p0) (fun (x:Empty) s=>False) (fun (a4:List Update)=>⟨[(3,.c (oC 7 6 a4)),(12,cD (dI ((copyL (List.replicate p0.length ((⟨([]:List Value),([]:List Value),(⟨0,(0,0)⟩:Time),0⟩:Update):Update)) p0).length:Int)))],[(7,vL 6 z01 a4)]⟩) [13,3,12] [7] [14,13,3,12] [7] [3,12] [7] [13,3,12] [7] h hlena4 ?_ ?_ ?_
  ·intro i3 a4 c hii3 h
   refine Tri.segL [3,4,12,13] [7] ⟨[(3,.c (oC 7 6 a4)),(4,cD (dI ((i3:Nat):Int))),(12,cD (dI ((copyL (List.replicate p0.length ((⟨([]:List Value),([]:List Value),(⟨0,(0,0)⟩:Time),0⟩:Update):Update)) p0).length:Int))),(13,cD (dI ((i3:Nat):Int)))],[(7,vL 6 z01 a4)]⟩ _ (by kernel_rfl) (z00 2) ?_
   obtain ⟨hc6,h⟩:=z03 h
   obtain ⟨hc7,h⟩:=z03 h
   obtain ⟨r8,hr8,h⟩:=z04 h
   obtain ⟨hc9,h⟩:=z03 h
   obtain ⟨hc10,h⟩:=z03 h
   obtain ⟨r11,hr11,h⟩:=z04 h
   obtain ⟨hc12,h⟩:=z03 h
   obtain ⟨hc13,h⟩:=z03 h
   obtain ⟨hc14,h⟩:=z03 h
   obtain ⟨hc15,h⟩:=z03 h
   refine Tri.afterA ⟨[(3,.c (oC 7 6 a4)),(12,cD (dI ((copyL (List.replicate p0.length ((⟨([]:List Value),([]:List Value),(⟨0,(0,0)⟩:Time),0⟩:Update):Update)) p0).length:Int))),(13,cD (dI ((i3:Nat):Int)))],[(7,vL 6 z01 ((a4.set (0 + i3) (⟨r8,(a4.getD (0 + i3) default).row,(a4.getD (0 + i3) default).time,(a4.getD (0 + i3) default).diff⟩:Update)).set (0 + i3) (⟨((a4.set (0 + i3) (⟨r8,(a4.getD (0 + i3) default).row,(a4.getD (0 + i3) default).time,(a4.getD (0 + i3) default).diff⟩:Update)).getD (0 + i3) default).key,r11,((a4.set (0 + i3) (⟨r8,(a4.getD (0 + i3) default).row,(a4.getD (0 + i3) default).time,(a4.getD (0 + i3) default).diff⟩:Update)).getD (0 + i3) default).time,((a4.set (0 + i3) (⟨r8,(a4.getD (0 + i3) default).row,(a4.getD (0 + i3) default).time,(a4.getD (0 + i3) default).diff⟩:Update)).getD (0 + i3) default).diff⟩:Update)))]⟩ ?_ ?_
   ·refine Tri.dS ⟨[(3,.c (oC 7 6 a4)),(12,cD (dI ((copyL (List.replicate p0.length ((⟨([]:List Value),([]:List Value),(⟨0,(0,0)⟩:Time),0⟩:Update):Update)) p0).length:Int))),(13,cD (dI ((i3:Nat):Int)))],[(7,vL 6 z01 ((a4.set (0 + i3) (⟨r8,(a4.getD (0 + i3) default).row,(a4.getD (0 + i3) default).time,(a4.getD (0 + i3) default).diff⟩:Update)).set (0 + i3) (⟨((a4.set (0 + i3) (⟨r8,(a4.getD (0 + i3) default).row,(a4.getD (0 + i3) default).time,(a4.getD (0 + i3) default).diff⟩:Update)).getD (0 + i3) default).key,r11,((a4.set (0 + i3) (⟨r8,(a4.getD (0 + i3) default).row,(a4.getD (0 + i3) default).time,(a4.getD (0 + i3) default).diff⟩:Update)).getD (0 + i3) default).time,((a4.set (0 + i3) (⟨r8,(a4.getD (0 + i3) default).row,(a4.getD (0 + i3) default).time,(a4.getD (0 + i3) default).diff⟩:Update)).getD (0 + i3) default).diff⟩:Update)))]⟩ [.a [3] [],.a [4] [],.a [3] [],.a [4] [],.a [3] [],.a [4] [],.a [20,21] [7],.a [22] [],.a [23] [7],.m ⟨[(24,cD (lD 3 z05 ((a4.getD (0 + i3) default).key)))],[]⟩ ⟨[(25,cD (lD 3 z05 r8))],[]⟩ [] [] [],.a [3] [],.a [4] [],.a [26,27] [7],.a [28] [],.a [29] [7],.m ⟨[(30,cD (lD 3 z05 ((a4.getD (0 + i3) default).row)))],[]⟩ ⟨[(31,cD (lD 3 z05 r11))],[]⟩ [] [] [],.a [16,17] [7],.a [32] [],.m ⟨[(25,cD (lD 3 z05 r8)),(33,.c (.vptr 7 6 (0 + i3) 0))],[(7,vL 6 z01 a4)]⟩ ⟨[],[(7,vL 6 z01 (a4.set (0 + i3) (⟨r8,(a4.getD (0 + i3) default).row,(a4.getD (0 + i3) default).time,(a4.getD (0 + i3) default).diff⟩:Update)))]⟩ [] [] [],.a [18,19] [7],.a [34] [],.m ⟨[(31,cD (lD 3 z05 r11)),(35,.c (.vptr 7 6 (0 + i3) 1))],[(7,vL 6 z01 (a4.set (0 + i3) (⟨r8,(a4.getD (0 + i3) default).row,(a4.getD (0 + i3) default).time,(a4.getD (0 + i3) default).diff⟩:Update)))]⟩ ⟨[],[(7,vL 6 z01 ((a4.set (0 + i3) (⟨r8,(a4.getD (0 + i3) default).row,(a4.getD (0 + i3) default).time,(a4.getD (0 + i3) default).diff⟩:Update)).set (0 + i3) (⟨((a4.set (0 + i3) (⟨r8,(a4.getD (0 + i3) default).row,(a4.getD (0 + i3) default).time,(a4.getD (0 + i3) default).diff⟩:Update)).getD (0 + i3) default).key,r11,((a4.set (0 + i3) (⟨r8,(a4.getD (0 + i3) default).row,(a4.getD (0 + i3) default).time,(a4.getD (0 + i3) default).diff⟩:Update)).getD (0 + i3) default).time,((a4.set (0 + i3) (⟨r8,(a4.getD (0 + i3) default).row,(a4.getD (0 + i3) default).time,(a4.getD (0 + i3) default).diff⟩:Update)).getD (0 + i3) default).diff⟩:Update)))]⟩ [] [] []] [3,12,13] [7] (tN 6 (ai hc6 (tN 1 (ai hc7 (tN 2 (ai hc9 (tN 1 (ai hc10 (ai hc12 (tN 1 (ai hc14 (z00 1)))))))))))) (.a (.a (.a (.a (.a (.a (.a (.a (.a (.m ?_ (.a (.a (.a (.a (.a (.m ?_ (.a (.a (.m ?_ (.a (.a (.m ?_ .z)))))))))))))))))))))) ?_
    · exact DOk.cA [] [cD (lD 3 z05 ((a4.getD (0 + i3) default).key))] (z1j hr8) fun r=>(.cons (.refl _) .nil)
    · exact DOk.cA [] [cD (lD 3 z05 ((a4.getD (0 + i3) default).row))] (z1j hr11) fun r=>(.cons (.refl _) .nil)
    · exact DOk.one fun r hr=>One.storeT (xs:=[.d (lD 3 z05 r8)]) (ds:=[lD 3 z05 r8]) (z01) a4 (⟨r8,(a4.getD (0 + i3) default).row,(a4.getD (0 + i3) default).time,(a4.getD (0 + i3) default).diff⟩:Update) rfl (by kernel_rfl) rfl rfl rfl hc13 rfl rfl (.refl _) rfl rfl rfl rfl
    · exact DOk.one fun r hr=>One.storeT (xs:=[.d (lD 3 z05 r11)]) (ds:=[lD 3 z05 r11]) (z01) (a4.set (0 + i3) (⟨r8,(a4.getD (0 + i3) default).row,(a4.getD (0 + i3) default).time,(a4.getD (0 + i3) default).diff⟩:Update)) (⟨((a4.set (0 + i3) (⟨r8,(a4.getD (0 + i3) default).row,(a4.getD (0 + i3) default).time,(a4.getD (0 + i3) default).diff⟩:Update)).getD (0 + i3) default).key,r11,((a4.set (0 + i3) (⟨r8,(a4.getD (0 + i3) default).row,(a4.getD (0 + i3) default).time,(a4.getD (0 + i3) default).diff⟩:Update)).getD (0 + i3) default).time,((a4.set (0 + i3) (⟨r8,(a4.getD (0 + i3) default).row,(a4.getD (0 + i3) default).time,(a4.getD (0 + i3) default).diff⟩:Update)).getD (0 + i3) default).diff⟩:Update) rfl (by kernel_rfl) rfl rfl rfl hc15 rfl rfl (.refl _) rfl rfl rfl rfl
    exact ⟨rfl,rfl⟩
   ·refine At.eqS (s':=⟨[(3,.c (oC 7 6 ((a4.set (0 + i3) (⟨r8,(a4.getD (0 + i3) default).row,(a4.getD (0 + i3) default).time,(a4.getD (0 + i3) default).diff⟩:Update)).set (0 + i3) (⟨((a4.set (0 + i3) (⟨r8,(a4.getD (0 + i3) default).row,(a4.getD (0 + i3) default).time,(a4.getD (0 + i3) default).diff⟩:Update)).getD (0 + i3) default).key,r11,((a4.set (0 + i3) (⟨r8,(a4.getD (0 + i3) default).row,(a4.getD (0 + i3) default).time,(a4.getD (0 + i3) default).diff⟩:Update)).getD (0 + i3) default).time,((a4.set (0 + i3) (⟨r8,(a4.getD (0 + i3) default).row,(a4.getD (0 + i3) default).time,(a4.getD (0 + i3) default).diff⟩:Update)).getD (0 + i3) default).diff⟩:Update)))),(12,cD (dI ((copyL (List.replicate p0.length ((⟨([]:List Value),([]:List Value),(⟨0,(0,0)⟩:Time),0⟩:Update):Update)) p0).length:Int))),(13,cD (dI ((i3:Nat):Int)))],[(7,vL 6 z01 ((a4.set (0 + i3) (⟨r8,(a4.getD (0 + i3) default).row,(a4.getD (0 + i3) default).time,(a4.getD (0 + i3) default).diff⟩:Update)).set (0 + i3) (⟨((a4.set (0 + i3) (⟨r8,(a4.getD (0 + i3) default).row,(a4.getD (0 + i3) default).time,(a4.getD (0 + i3) default).diff⟩:Update)).getD (0 + i3) default).key,r11,((a4.set (0 + i3) (⟨r8,(a4.getD (0 + i3) default).row,(a4.getD (0 + i3) default).time,(a4.getD (0 + i3) default).diff⟩:Update)).getD (0 + i3) default).time,((a4.set (0 + i3) (⟨r8,(a4.getD (0 + i3) default).row,(a4.getD (0 + i3) default).time,(a4.getD (0 + i3) default).diff⟩:Update)).getD (0 + i3) default).diff⟩:Update)))]⟩) (by simp only [oC,vL,List.length_set]) ?_
    refine At.keep [13,3,12] [7] (s':=⟨[(13,cD (dI ((i3:Nat):Int))),(3,.c (oC 7 6 ((a4.set (0 + i3) (⟨r8,(a4.getD (0 + i3) default).row,(a4.getD (0 + i3) default).time,(a4.getD (0 + i3) default).diff⟩:Update)).set (0 + i3) (⟨((a4.set (0 + i3) (⟨r8,(a4.getD (0 + i3) default).row,(a4.getD (0 + i3) default).time,(a4.getD (0 + i3) default).diff⟩:Update)).getD (0 + i3) default).key,r11,((a4.set (0 + i3) (⟨r8,(a4.getD (0 + i3) default).row,(a4.getD (0 + i3) default).time,(a4.getD (0 + i3) default).diff⟩:Update)).getD (0 + i3) default).time,((a4.set (0 + i3) (⟨r8,(a4.getD (0 + i3) default).row,(a4.getD (0 + i3) default).time,(a4.getD (0 + i3) default).diff⟩:Update)).getD (0 + i3) default).diff⟩:Update)))),(12,cD (dI ((copyL (List.replicate p0.length ((⟨([]:List Value),([]:List Value),(⟨0,(0,0)⟩:Time),0⟩:Update):Update)) p0).length:Int)))],[(7,vL 6 z01 ((a4.set (0 + i3) (⟨r8,(a4.getD (0 + i3) default).row,(a4.getD (0 + i3) default).time,(a4.getD (0 + i3) default).diff⟩:Update)).set (0 + i3) (⟨((a4.set (0 + i3) (⟨r8,(a4.getD (0 + i3) default).row,(a4.getD (0 + i3) default).time,(a4.getD (0 + i3) default).diff⟩:Update)).getD (0 + i3) default).key,r11,((a4.set (0 + i3) (⟨r8,(a4.getD (0 + i3) default).row,(a4.getD (0 + i3) default).time,(a4.getD (0 + i3) default).diff⟩:Update)).getD (0 + i3) default).time,((a4.set (0 + i3) (⟨r8,(a4.getD (0 + i3) default).row,(a4.getD (0 + i3) default).time,(a4.getD (0 + i3) default).diff⟩:Update)).getD (0 + i3) default).diff⟩:Update)))]⟩) (by kernel_rfl) ?_
    refine At.done rfl ?_
    cases h
    exact kr
  ·intro a5 h
   refine Tri.sg [2] [7] (z00 2) ?_
   refine Tri.keep [2] [7] (s':=⟨[(2,.c (oC 7 6 a5))],[(7,vL 6 z01 a5)]⟩) (by kernel_rfl) ?_
   refine Tri.le [7] (fun k hk h=>by first | (cases h; done) | (simp at hk h; omega)) ⟨[(2,cD (lD 6 z01 a5))],[]⟩ ⟨⟨_,rfl,.c (CLe.frozen (z01) a5 rfl (by simp))⟩,trivial⟩ trivial ?_
   refine Tri.ret ?_
   cases h
   exact RetAt.k
  · exact fun x=>x.elim
theorem ze6 {fuel:Nat} {p0:List (List Update)} {q:(List Update) × Int} (h:z62 fuel p0=some q) :
    Summ Tryz.prog 79 [cD (lD 1 (fun xs=>[encL 6 z01 xs]) p0)] [] (.tup [(false,[.d (lD 6 z01 q.1)]),(false,[.d (dI q.2)])]) []:=by
  refine Summ.intro Tryz.func79 rfl (by kernel_rfl) (by kernel_rfl) [] rfl ?_
  rintro ⟨P,w0,G0,V,LL,lk,N, φ0,fx⟩ rfl rfl rfl rfl
  unfold z62 at h
  refine Tri.sg [0] [] (z00 2) ?_
  refine Tri.seqS ?_
  refine Tri.sg [0,9,10,11] [] (z00 3) ?_
  refine Tri.ln 9 p0.length fun hlena2 => ?_
  refine Tri.rK 11 () (fun (x:(List Update) × Int) s=>RetAt Tryz.prog Tryz.f79 (.tup [(false,[.d (lD 6 z01 x.1)]),(false,[.d (dI x.2)])]) [] s) (fun (a2:Unit)=>⟨[(0,cD (lD 1 (fun xs=>[encL 6 z01 xs]) p0)),(9,cD (lD 1 (fun xs=>[encL 6 z01 xs]) p0)),(10,cD (dI (p0.length:Int)))],[]⟩) [11,0,9,10] [] [12,11,0,9,10] [] [0,9,10] [] [11,0,9,10] [] h hlena2 ?_ ?_ ?_
  ·intro i1 a2 c hii1 h
   refine Tri.sg [0,5,9,10,11] [] (ai (show ((0:Int)≤((i1:Nat):Int)∧((i1:Nat):Int) < (p0.length:Int)) from ⟨by omega,by omega⟩) (z00 2)) ?_
   refine Tri.seqS ?_
   refine Tri.reg ?_
   refine At.sg 1 [0,9,10,11,15] [] (z00 1) ?_
   obtain ⟨r7,hr7,h⟩:=z04 h
   refine At.cA [] [cD (lD 6 z01 (p0.getD i1 default))] (ze4 hr7) (.cons (.refl _) .nil) ?_
   refine At.sg 1 [0,6,9,10,11] [] (z00 1) ?_
   refine At.done rfl ?_
   refine Tri.sg [0,6,9,10,11,18] [] (z00 2) ?_
   refine Tri.condK h (fun h => ?_) (fun h => ?_)
   ·refine Tri.sg [2,3] [] (z00 3) ?_
    refine Tri.keep [2,3] [] (s':=⟨[(2,.c (.zero)),(3,cD (dI r7))],[]⟩) (by kernel_rfl) ?_
    refine Tri.le [] (fun k hk=>by cases hk) ⟨[(2,cD (lD 6 z01 ([]:List Update))),(3,cD (dI r7))],[]⟩ ⟨⟨_,rfl,.c (.zero _ _)⟩,⟨_,rfl,.refl _⟩,trivial⟩ trivial ?_
    refine Tri.ret ?_
    cases h
    exact RetAt.k
   ·refine Tri.kp [11,0,9,10] [] ?_
    refine Tri.skip ?_
    cases h
    exact kr
  ·intro a3 h
   refine Tri.seqS ?_
   refine Tri.reg ?_
   refine At.sg 1 [22] [] (z00 1) ?_
   obtain ⟨r4,hr4,h⟩:=z04 h
   refine At.cL 0 [] [cD (lD 1 (fun xs=>[encL 6 z01 xs]) p0)] [(6000,30368)] [] [] (z2e hr4) (.flat (.refl _) rfl rfl .nil) ?_
   obtain ⟨r5,hr5,h⟩:=z04 h
   refine At.cL 0 [] [.c (oC 30368 6 r4),cD (.fn 37 []),cD (.fn 117 []),cD (.fn 118 [])] [(5000,30368)] [] [] (z33 hr5) (.ren rfl rfl (.flat (.refl _) rfl rfl (.flat (.refl _) rfl rfl (.flat (.refl _) rfl rfl .nil)))) ?_
   refine At.sg 5 [7,8] [] (z00 5) ?_
   refine At.done rfl ?_
   refine Tri.seqS ?_
   refine Tri.reg ?_
   refine At.sg 1 [8,27] [] (z00 1) ?_
   obtain ⟨r6,hr6,h⟩:=z04 h
   refine At.cA [] [cD (lD 6 z01 r5.1)] (z7j hr6) (.cons (.refl _) .nil) ?_
   refine At.sg 3 [2,3] [] (z00 3) ?_
   refine At.done rfl ?_
   refine Tri.ret ?_
   cases h
   exact RetAt.k
  · exact fun x s hx hr=>by cases hx; exact hr
theorem zaj {fuel:Nat} {p0:List Time} {p1:List (List Update)} {q:(List Update) × Int} (h:z5x fuel p0 p1=some q) :
    Summ Tryz.prog 39 [cD (lD 3 z02 p0),cD (lD 1 (fun xs=>[encL 6 z01 xs]) p1)] [] (.tup [(false,[.d (lD 6 z01 q.1)]),(false,[.d (dI q.2)])]) []:=by
  refine Summ.intro Tryz.func39 rfl (by kernel_rfl) (by kernel_rfl) [] rfl ?_
  rintro ⟨P,w0,G0,V,LL,lk,N, φ0,fx⟩ rfl rfl rfl rfl
  unfold z5x at h
  refine Tri.sg [0,1] [] (z00 2) ?_
  refine Tri.seqS ?_
  refine Tri.reg ?_
  refine At.sg 1 [0,9] [] (z00 1) ?_
  obtain ⟨r1,hr1,h⟩:=z04 h
  refine At.cL 0 [] [cD (lD 1 (fun xs=>[encL 6 z01 xs]) p1)] [(6000,30160)] [0] [] (z2e hr1) (.flat (.refl _) rfl rfl .nil) ?_
  refine At.sg 1 [0,6] [30160] (z00 1) ?_
  refine At.done rfl ?_
  refine Tri.seqS ?_
  refine Tri.seqS ?_
  refine Tri.reg ?_
  refine At.seg 1 [0,6,11] [30160] (s':=⟨[(0,cD (lD 3 z02 p0)),(6,.c (oC 30160 6 r1)),(11,.c (oC 30160 6 r1))],[(30160,vL 6 z01 r1)]⟩) (by kernel_rfl) (z00 1) ?_
  obtain ⟨r2,hr2,h⟩:=z04 h
  refine At.cA [] [.c (oC 30160 6 r1)] (zga hr2) (.cons (AVArg.view (z01) r1 rfl) .nil) ?_
  refine At.sg 1 [0,6,7] [30160] (z00 1) ?_
  refine At.done rfl ?_
  refine Tri.sg [0,6,7,14] [30160] (z00 2) ?_
  refine Tri.condK h (fun h => ?_) (fun h => ?_)
  ·refine Tri.sg [4,5] [] (z00 3) ?_
   refine Tri.keep [4,5] [] (s':=⟨[(4,.c (.zero)),(5,cD (dI r2))],[]⟩) (by kernel_rfl) ?_
   refine Tri.le [] (fun k hk=>by cases hk) ⟨[(4,cD (lD 6 z01 ([]:List Update))),(5,cD (dI r2))],[]⟩ ⟨⟨_,rfl,.c (.zero _ _)⟩,⟨_,rfl,.refl _⟩,trivial⟩ trivial ?_
   refine Tri.ret ?_
   cases h
   exact RetAt.k
  ·refine Tri.skip ?_
   refine Tri.seqS ?_
   refine Tri.segL [0,6,17,18] [30160] ⟨[(0,cD (lD 3 z02 p0)),(6,.c (oC 30160 6 r1)),(17,cD (dI (r1.length:Int))),(18,cD (dI 0))],[(30160,vL 6 z01 r1)]⟩ _ (by kernel_rfl) (z00 3) ?_
   refine Tri.lenOfO (t:=6) rfl rfl (Nat.le_refl _) fun hlena4 => ?_
   refine Tri.rK 18 (r1) (fun (x:Empty) s=>False) (fun (a4:List Update)=>⟨[(0,cD (lD 3 z02 p0)),(6,.c (oC 30160 6 a4)),(17,cD (dI (r1.length:Int)))],[(30160,vL 6 z01 a4)]⟩) [18,0,6,17] [30160] [19,18,0,6,17] [30160] [0,6,17] [30160] [18,0,6,17] [30160] h hlena4 ?_ ?_ ?_
   ·intro i3 a4 c hii3 h
    refine Tri.sg [0,6,8,17,18] [30160] (z00 2) ?_
    refine Tri.reg ?_
    obtain ⟨hc7,h⟩:=z03 h
    obtain ⟨hc8,h⟩:=z03 h
    refine At.sg 8 [0,6,17,18,21,22,27,28] [30160] (tN 4 (ai hc7 (tN 1 (ai hc8 (z00 1))))) ?_
    obtain ⟨r9,hr9,h⟩:=z04 h
    refine At.cA [] [.agg [.d (dU ((a4.getD (0 + i3) default).time.epoch)),.d (dU ((a4.getD (0 + i3) default).time.loop.1)),.d (dU ((a4.getD (0 + i3) default).time.loop.2))],cD (lD 3 z02 p0)] (zak hr9) (.cons (.refl _) (.cons (.refl _) .nil)) ?_
    obtain ⟨hc10,h⟩:=z03 h
    refine At.seg 2 [0,6,17,18,29,31] [30160] (s':=⟨[(0,cD (lD 3 z02 p0)),(6,.c (oC 30160 6 a4)),(17,cD (dI (r1.length:Int))),(18,cD (dI ((i3:Nat):Int))),(29,.agg (cTime r9)),(31,.c (.vptr 30160 6 (0 + i3) 2))],[(30160,vL 6 z01 a4)]⟩) (by kernel_rfl) (ai hc10 (z00 1)) ?_
    obtain ⟨hc11,h⟩:=z03 h
    refine At.one rfl (One.storeT (xs:=[.d (dU r9.epoch),.d (dU r9.loop.1),.d (dU r9.loop.2)]) (ds:=[dU r9.epoch,dU r9.loop.1,dU r9.loop.2]) (z01) a4 (⟨(a4.getD (0 + i3) default).key,(a4.getD (0 + i3) default).row,r9,(a4.getD (0 + i3) default).diff⟩:Update) rfl rfl rfl rfl rfl hc11 rfl rfl (.refl _) rfl rfl rfl rfl) ?_
    refine At.keep [0,6,17,18] [30160] (s':=⟨[(0,cD (lD 3 z02 p0)),(6,.c (oC 30160 6 a4)),(17,cD (dI (r1.length:Int))),(18,cD (dI ((i3:Nat):Int)))],[(30160,vL 6 z01 (a4.set (0 + i3) (⟨(a4.getD (0 + i3) default).key,(a4.getD (0 + i3) default).row,r9,(a4.getD (0 + i3) default).diff⟩:Update)))]⟩) (by kernel_rfl) ?_
    refine At.eqS (s':=⟨[(0,cD (lD 3 z02 p0)),(6,.c (oC 30160 6 (a4.set (0 + i3) (⟨(a4.getD (0 + i3) default).key,(a4.getD (0 + i3) default).row,r9,(a4.getD (0 + i3) default).diff⟩:Update)))),(17,cD (dI (r1.length:Int))),(18,cD (dI ((i3:Nat):Int)))],[(30160,vL 6 z01 (a4.set (0 + i3) (⟨(a4.getD (0 + i3) default).key,(a4.getD (0 + i3) default).row,r9,(a4.getD (0 + i3) default).diff⟩:Update)))]⟩) (by simp only [oC,vL,List.length_set]) ?_
    refine At.keep [18,0,6,17] [30160] (s':=⟨[(18,cD (dI ((i3:Nat):Int))),(0,cD (lD 3 z02 p0)),(6,.c (oC 30160 6 (a4.set (0 + i3) (⟨(a4.getD (0 + i3) default).key,(a4.getD (0 + i3) default).row,r9,(a4.getD (0 + i3) default).diff⟩:Update)))),(17,cD (dI (r1.length:Int)))],[(30160,vL 6 z01 (a4.set (0 + i3) (⟨(a4.getD (0 + i3) default).key,(a4.getD (0 + i3) default).row,r9,(a4.getD (0 + i3) default).diff⟩:Update)))]⟩) (by kernel_rfl) ?_
    refine At.done rfl ?_
    cases h
    exact kr
   ·intro a5 h
    refine Tri.seqS ?_
    refine Tri.reg ?_
    refine At.seg 1 [33] [30160] (s':=⟨[(33,.c (oC 30160 6 a5))],[(30160,vL 6 z01 a5)]⟩) (by kernel_rfl) (z00 1) ?_
    refine At.le [30160] (fun k hk h=>by first | (cases h; done) | (simp at hk h; omega)) ⟨[(33,cD (lD 6 z01 a5))],[]⟩ ⟨⟨_,rfl,.c (CLe.frozen (z01) a5 rfl (by simp))⟩,trivial⟩ trivial ?_
    refine At.one rfl (One.buildSlice (z:=[.zero]) (cells:=[.d (lD 6 z01 a5)]) (xs:=List.map ((fun xs=>[encL 6 z01 xs])) ([a5]:List (List Update))) rfl rfl rfl rfl (by kernel_rfl) rfl rfl (by kernel_rfl) rfl rfl rfl (by kernel_rfl) rfl ⟨⟨rfl,.refl _⟩,trivial⟩) ?_
    refine At.le [34] (fun k hk h=>by first | (cases h; done) | (simp at hk h; omega)) ⟨[(34,cD (lD 1 (fun xs=>[encL 6 z01 xs]) ([a5]:List (List Update)))),(33,cD (lD 6 z01 a5))],[]⟩ ⟨⟨_,rfl,.c (.own rfl (List.mem_singleton.2 rfl) (Nat.le_of_ble_eq_true rfl) rfl (z1z ((fun xs=>[encL 6 z01 xs])) ([a5]:List (List Update))))⟩,⟨_,rfl,.refl _⟩,trivial⟩ trivial ?_
    obtain ⟨r6,hr6,h⟩:=z04 h
    refine At.cA [] [cD (lD 1 (fun xs=>[encL 6 z01 xs]) ([a5]:List (List Update)))] (ze6 hr6) (.cons (.refl _) .nil) ?_
    refine At.sg 4 [4,5] [] (z00 4) ?_
    refine At.done rfl ?_
    refine Tri.ret ?_
    cases h
    exact RetAt.k
   · exact fun x=>x.elim
theorem z21 {p0:List Time} {q:List Time} (h:z0b p0=some q) :
    Summ Tryz.prog 40 [cD (lD 3 z02 p0)] [] (cD (lD 3 z02 q)) []:=by
  refine Summ.intro Tryz.func40 rfl (by kernel_rfl) (by kernel_rfl) [] rfl ?_
  rintro ⟨P,w0,G0,V,LL,lk,N, φ0,fx⟩ rfl rfl rfl rfl
  unfold z0b at h
  refine Tri.sg [0] [] (z00 1) ?_
  refine Tri.seqS ?_
  refine Tri.seqS ?_
  refine Tri.reg ?_
  refine At.seg 1 [0,3] [] (s':=⟨[(0,cD (lD 3 z02 p0)),(3,cD (lD 3 z02 p0))],[]⟩) (by kernel_rfl) (z00 1) ?_
  have hnil:p0.length=0→(some ([]:List Time))=(need (p0.length≤274877906944) <| some p0):=by intro h0; obtain rfl:=List.eq_nil_of_length_eq_zero h0; rfl
  refine At.nilCase (e:=54) rfl rfl rfl rfl rfl (by kernel_rfl) rfl (fun h0 => ?_) ?_
  ·replace h:=(hnil h0).trans h
   refine At.done rfl ?_
   refine Tri.cond (b:=true) (by kernel_rfl) (fun _ => ?_) (fun e=>by cases e)
   refine Tri.sg [2] [] (z00 1) ?_
   refine Tri.keep [2] [] (s':=⟨[(2,.c (.zero))],[]⟩) (by kernel_rfl) ?_
   refine Tri.le [] (fun k hk=>by cases hk) ⟨[(2,cD (lD 3 z02 ([]:List Time)))],[]⟩ ⟨⟨_,rfl,.c (.zero _ _)⟩,trivial⟩ trivial ?_
   refine Tri.ret ?_
   cases h
   exact RetAt.k
  ·refine At.done rfl ?_
   refine Tri.cond (b:=false) (by kernel_rfl) (fun e=>by cases e) (fun _ => ?_)
   refine Tri.skip ?_
   refine Tri.seqS ?_
   refine Tri.reg ?_
   refine At.one rfl (One.build0 (e:=54) (es:=3) rfl rfl rfl rfl (by kernel_rfl) rfl) ?_
   refine At.seg 1 [5,6] [] (s':=⟨[(5,.c (.zero)),(6,cD (lD 3 z02 p0))],[]⟩) (by kernel_rfl) (z00 1) ?_
   obtain ⟨hc1,h⟩:=z03 h
   refine At.one rfl (One.append0 (e:=54) (es:=3) (m:=p0.length) (get:=fun i=>z02 (p0.getD i default)) rfl rfl rfl rfl (by kernel_rfl) (.of 54 24 [.d (dU 0),.d (dU 0),.d (dU 0)] (by kernel_rfl) (by kernel_rfl) (by kernel_rfl) (by kernel_rfl) rfl (by kernel_rfl) rfl) rfl rfl (.list rfl (fun _ _=>rfl)) hc1) ?_
   refine At.sg 1 [2] [7] (z00 1) ?_
   refine At.done rfl ?_
   refine Tri.keep [2] [7] (s':=⟨[(2,.c (oC 7 3 p0))],[(7,vL 3 z02 p0)]⟩) (by kernel_rfl) ?_
   refine Tri.le [7] (fun k hk h=>by first | (cases h; done) | (simp at hk h; omega)) ⟨[(2,cD (lD 3 z02 p0))],[]⟩ ⟨⟨_,rfl,.c (CLe.frozen (z02) p0 rfl (by simp))⟩,trivial⟩ trivial ?_
   refine Tri.ret ?_
   cases h
   exact RetAt.k
theorem z9s {fuel:Nat} {p0:List Time} {p1:List (List Update)} {q:Batch × Int} (h:z6w fuel p0 p1=some q) :
    Summ Tryz.prog 11 [cD (lD 3 z02 p0),cD (lD 1 (fun xs=>[encL 6 z01 xs]) p1)] [] (.tup [(true,[.d (lD 3 z02 q.1.since),.d (lD 6 z01 q.1.updates)]),(false,[.d (dI q.2)])]) []:=by
  refine Summ.intro Tryz.func11 rfl (by kernel_rfl) (by kernel_rfl) [] rfl ?_
  rintro ⟨P,w0,G0,V,LL,lk,N, φ0,fx⟩ rfl rfl rfl rfl
  unfold z6w at h
  refine Tri.sg [0,1,4] [4] (z00 2) ?_
  refine Tri.seqS ?_
  refine Tri.seqS ?_
  refine Tri.reg ?_
  refine At.sg 1 [0,1,4,8] [4] (z00 1) ?_
  obtain ⟨r1,hr1,h⟩:=z04 h
  refine At.cA [] [cD (lD 3 z02 p0)] (z81 hr1) (.cons (.refl _) .nil) ?_
  refine At.sg 1 [0,1,4,10] [4] (z00 1) ?_
  refine At.done rfl ?_
  refine Tri.condK h (fun h => ?_) (fun h => ?_)
  ·refine Tri.sg [4,5] [4] (z00 3) ?_
   refine Tri.keep [4,5] [4] (s':=⟨[(4,.c (.ptr 4 0)),(5,cD (dI 4))],[(4,.box [.zero,.zero])]⟩) (by kernel_rfl) ?_
   refine Tri.le [] (fun k hk=>by cases hk) ⟨[(4,.c (.ptr 4 0)),(5,cD (dI 4))],[(4,.box [.d (lD 3 z02 ([]:List Time)),.d (lD 6 z01 ([]:List Update))])]⟩ ⟨⟨_,rfl,.refl _⟩,⟨_,rfl,.refl _⟩,trivial⟩ ⟨⟨_,rfl,.box (.cons (.zero _ _) (.cons (.zero _ _) .nil)),(by simp)⟩,trivial⟩ ?_
   refine Tri.ret ?_
   cases h
   exact RetAt.k
  ·refine Tri.skip ?_
   refine Tri.seqS ?_
   refine Tri.reg ?_
   refine At.sg 2 [0,4,13,14] [4] (z00 2) ?_
   obtain ⟨r2,hr2,h⟩:=z04 h
   refine At.cA [] [cD (lD 3 z02 p0),cD (lD 1 (fun xs=>[encL 6 z01 xs]) p1)] (zaj hr2) (.cons (.refl _) (.cons (.refl _) .nil)) ?_
   refine At.sg 5 [0,4,6,7] [4] (z00 5) ?_
   refine At.done rfl ?_
   refine Tri.seqS ?_
   refine Tri.sg [0,4,6,7,19] [4] (z00 2) ?_
   refine Tri.condK h (fun h => ?_) (fun h => ?_)
   ·refine Tri.sg [4,5] [4] (z00 4) ?_
    refine Tri.keep [4,5] [4] (s':=⟨[(4,.c (.ptr 4 0)),(5,cD (dI r2.2))],[(4,.box [.zero,.zero])]⟩) (by kernel_rfl) ?_
    refine Tri.le [] (fun k hk=>by cases hk) ⟨[(4,.c (.ptr 4 0)),(5,cD (dI r2.2))],[(4,.box [.d (lD 3 z02 ([]:List Time)),.d (lD 6 z01 ([]:List Update))])]⟩ ⟨⟨_,rfl,.refl _⟩,⟨_,rfl,.refl _⟩,trivial⟩ ⟨⟨_,rfl,.box (.cons (.zero _ _) (.cons (.zero _ _) .nil)),(by simp)⟩,trivial⟩ ?_
    refine Tri.ret ?_
    cases h
    exact RetAt.k
   ·refine Tri.skip ?_
    refine Tri.seqS ?_
    refine Tri.reg ?_
    refine At.sg 1 [4,6,22] [4] (z00 1) ?_
    obtain ⟨r3,hr3,h⟩:=z04 h
    refine At.cA [] [cD (lD 3 z02 p0)] (z21 hr3) (.cons (.refl _) .nil) ?_
    refine At.sg 4 [4,5] [4] (z00 4) ?_
    refine At.done rfl ?_
    refine Tri.ret ?_
    cases h
    exact RetAt.k
theorem z8s {p0:List Time} {q:Int} (h:z2g p0=some q) :
    Summ Tryz.prog 80 [cD (lD 3 z02 p0)] [] (cD (dI q)) []:=by
  refine Summ.intro Tryz.func80 rfl (by kernel_rfl) (by kernel_rfl) [] rfl ?_
  rintro ⟨P,w0,G0,V,LL,lk,N, φ0,fx⟩ rfl rfl rfl rfl
  unfold z2g at h
  refine Tri.sg [0] [] (z00 1) ?_
  refine Tri.seqS ?_
  refine Tri.sg [7,8,9] [] (z00 3) ?_
  refine Tri.ln 7 p0.length fun hlena2 => ?_
  refine Tri.rK 9 () (fun (x:Int) s=>RetAt Tryz.prog Tryz.f80 (cD (dI x)) [] s) (fun (a2:Unit)=>⟨[(7,cD (lD 3 z02 p0)),(8,cD (dI (p0.length:Int)))],[]⟩) [9,7,8] [] [10,9,7,8] [] [7,8] [] [9,7,8] [] h hlena2 ?_ ?_ ?_
  ·intro i1 a2 c hii1 h
   refine Tri.sg [4,7,8,9] [4] (ai (show ((0:Int)≤((i1:Nat):Int)∧((i1:Nat):Int) < (p0.length:Int)) from ⟨by omega,by omega⟩) (z00 3)) ?_
   refine Tri.seqS ?_
   refine Tri.sg [4,7,8,9,15] [4] (z00 3) ?_
   refine Tri.condK h (fun h => ?_) (fun h => ?_)
   ·refine Tri.sg [2] [] (z00 1) ?_
    refine Tri.ret ?_
    cases h
    exact RetAt.k
   ·refine Tri.skip ?_
    refine Tri.sg [7,8,9,17,18] [] (z00 3) ?_
    refine Tri.rK 18 () (fun (x:Int) s=>RetAt Tryz.prog Tryz.f80 (cD (dI x)) [] s) (fun (a5:Unit)=>⟨[(7,cD (lD 3 z02 p0)),(8,cD (dI (p0.length:Int))),(9,cD (dI ((i1:Nat):Int))),(17,.agg [.d (dU ((p0.getD i1 default).loop.1)),.d (dU ((p0.getD i1 default).loop.2))])],[]⟩) [18,7,8,9,17] [] [19,18,7,8,9,17] [] [9,7,8] [] [18,7,8,9,17] [] h (by unfold maxN; omega) ?_ ?_ ?_
    ·intro i4 a5 c hii4 h
     rcases i4 with _ | i4
     ·refine Tri.sg [6,7,8,9,17,18] [] (z00 2) ?_
      refine Tri.sg [7,8,9,17,18,22] [] (z00 2) ?_
      refine Tri.condK h (fun h => ?_) (fun h => ?_)
      ·refine Tri.sg [2] [] (z00 1) ?_
       refine Tri.ret ?_
       cases h
       exact RetAt.k
      ·refine Tri.kp [18,7,8,9,17] [] ?_
       refine Tri.skip ?_
       cases h
       exact kr
     rcases i4 with _ | i4
     ·refine Tri.sg [6,7,8,9,17,18] [] (z00 2) ?_
      refine Tri.sg [7,8,9,17,18,22] [] (z00 2) ?_
      refine Tri.condK h (fun h => ?_) (fun h => ?_)
      ·refine Tri.sg [2] [] (z00 1) ?_
       refine Tri.ret ?_
       cases h
       exact RetAt.k
      ·refine Tri.kp [18,7,8,9,17] [] ?_
       refine Tri.skip ?_
       cases h
       exact kr
     exact absurd hii4 (by omega)
    ·intro a6 h
     cases h
     exact kr
    · exact fun x s hx hr=>by cases hx; exact hr
  ·intro a3 h
   refine Tri.sg [2] [] (z00 1) ?_
   refine Tri.ret ?_
   cases h
   exact RetAt.k
  · exact fun x s hx hr=>by cases hx; exact hr
theorem z8v {p0:Time} {p1:Time} {q:Bool} (h:z39 p0 p1=some q) :
    Summ Tryz.prog 90 [.agg (cTime p0),.agg (cTime p1)] [] (cD (.bool q)) []:=by
  refine Summ.intro Tryz.func90 rfl (by kernel_rfl) (by kernel_rfl) [] rfl ?_
  rintro ⟨P,w0,G0,V,LL,lk,N, φ0,fx⟩ rfl rfl rfl rfl
  unfold z39 at h
  refine Tri.sg [2,3] [2,3] (z00 3) ?_
  refine Tri.seqS ?_
  refine Tri.sg [2,3,8,9] [2,3] (z00 3) ?_
  refine Tri.rK 9 () (fun (x:Bool) s=>RetAt Tryz.prog Tryz.f90 (cD (.bool x)) [] s) (fun (a2:Unit)=>⟨[(2,.c (.ptr 2 0)),(3,.c (.ptr 3 0)),(8,.agg [.d (dU p0.loop.1),.d (dU p0.loop.2)])],[(2,.box (cTime p0)),(3,.box (cTime p1))]⟩) [9,2,3,8] [2,3] [10,9,2,3,8] [2,3] [2,3,8] [2,3] [9,2,3,8] [2,3] h (by unfold maxN; omega) ?_ ?_ ?_
  ·intro i1 a2 c hii1 h
   rcases i1 with _ | i1
   ·refine Tri.sg [2,3,5,6,8,9] [2,3] (z00 4) ?_
    refine Tri.sg [2,3,8,9,18] [2,3] (z00 6) ?_
    refine Tri.condK h (fun h => ?_) (fun h => ?_)
    ·refine Tri.sg [4] [] (z00 1) ?_
     refine Tri.ret ?_
     cases h
     exact RetAt.k
    ·refine Tri.kp [9,2,3,8] [2,3] ?_
     refine Tri.skip ?_
     cases h
     exact kr
   rcases i1 with _ | i1
   ·refine Tri.sg [2,3,5,6,8,9] [2,3] (z00 4) ?_
    refine Tri.sg [2,3,8,9,18] [2,3] (z00 6) ?_
    refine Tri.condK h (fun h => ?_) (fun h => ?_)
    ·refine Tri.sg [4] [] (z00 1) ?_
     refine Tri.ret ?_
     cases h
     exact RetAt.k
    ·refine Tri.kp [9,2,3,8] [2,3] ?_
     refine Tri.skip ?_
     cases h
     exact kr
   exact absurd hii1 (by omega)
  ·intro a3 h
   refine Tri.sg [4] [] (z00 6) ?_
   refine Tri.ret ?_
   cases h
   exact RetAt.k
  · exact fun x s hx hr=>by cases hx; exact hr
theorem z88 {p0:Time} {p1:Time} {q:Int} (h:z2j p0 p1=some q) :
    Summ Tryz.prog 121 [.agg (cTime p0),.agg (cTime p1)] [] (cD (dI q)) []:=by
  refine Summ.intro Tryz.func121 rfl (by kernel_rfl) (by kernel_rfl) [] rfl ?_
  rintro ⟨P,w0,G0,V,LL,lk,N, φ0,fx⟩ rfl rfl rfl rfl
  unfold z2j at h
  refine Tri.sg [2,3] [2,3] (z00 3) ?_
  refine Tri.seqS ?_
  refine Tri.sg [2,3,11] [2,3] (z00 5) ?_
  refine Tri.condK h (fun h => ?_) (fun h => ?_)
  ·refine Tri.seqS ?_
   refine Tri.sg [16] [] (z00 5) ?_
   refine Tri.condK h (fun h => ?_) (fun h => ?_)
   ·refine Tri.sg [4] [] (z00 1) ?_
    refine Tri.ret ?_
    cases h
    exact RetAt.k
   ·refine Tri.skip ?_
    refine Tri.sg [4] [] (z00 1) ?_
    refine Tri.ret ?_
    cases h
    exact RetAt.k
  ·refine Tri.skip ?_
   refine Tri.seqS ?_
   refine Tri.sg [3,18,19] [3] (z00 3) ?_
   refine Tri.rK 19 () (fun (x:Int) s=>RetAt Tryz.prog Tryz.f121 (cD (dI x)) [] s) (fun (a2:Unit)=>⟨[(3,.c (.ptr 3 0)),(18,.agg [.d (dU p0.loop.1),.d (dU p0.loop.2)])],[(3,.box (cTime p1))]⟩) [19,3,18] [3] [20,19,3,18] [3] [3,18] [3] [19,3,18] [3] h (by unfold maxN; omega) ?_ ?_ ?_
   ·intro i1 a2 c hii1 h
    rcases i1 with _ | i1
    ·refine Tri.sg [3,5,6,18,19] [3] (z00 4) ?_
     refine Tri.seqS ?_
     refine Tri.sg [3,5,6,18,19,28] [3] (z00 6) ?_
     refine Tri.condK h (fun h => ?_) (fun h => ?_)
     ·refine Tri.sg [4] [] (z00 1) ?_
      refine Tri.ret ?_
      cases h
      exact RetAt.k
     ·refine Tri.skip ?_
      refine Tri.sg [3,18,19,34] [3] (z00 6) ?_
      refine Tri.condK h (fun h => ?_) (fun h => ?_)
      ·refine Tri.sg [4] [] (z00 1) ?_
       refine Tri.ret ?_
       cases h
       exact RetAt.k
      ·refine Tri.kp [19,3,18] [3] ?_
       refine Tri.skip ?_
       cases h
       exact kr
    rcases i1 with _ | i1
    ·refine Tri.sg [3,5,6,18,19] [3] (z00 4) ?_
     refine Tri.seqS ?_
     refine Tri.sg [3,5,6,18,19,28] [3] (z00 6) ?_
     refine Tri.condK h (fun h => ?_) (fun h => ?_)
     ·refine Tri.sg [4] [] (z00 1) ?_
      refine Tri.ret ?_
      cases h
      exact RetAt.k
     ·refine Tri.skip ?_
      refine Tri.sg [3,18,19,34] [3] (z00 6) ?_
      refine Tri.condK h (fun h => ?_) (fun h => ?_)
      ·refine Tri.sg [4] [] (z00 1) ?_
       refine Tri.ret ?_
       cases h
       exact RetAt.k
      ·refine Tri.kp [19,3,18] [3] ?_
       refine Tri.skip ?_
       cases h
       exact kr
    exact absurd hii1 (by omega)
   ·intro a3 h
    refine Tri.sg [4] [] (z00 1) ?_
    refine Tri.ret ?_
    cases h
    exact RetAt.k
   · exact fun x s hx hr=>by cases hx; exact hr
theorem zcq {fuel:Nat} {p0:List Time} {q:List Time} (h:z51 fuel p0=some q) :
    Summ Tryz.prog 119 [cD (lD 3 z02 p0)] [] (cD (lD 3 z02 q)) []:=by
  refine Summ.intro Tryz.func119 rfl (by kernel_rfl) (by kernel_rfl) [] rfl ?_
  rintro ⟨P,w0,G0,V,LL,lk,N, φ0,fx⟩ rfl rfl rfl rfl
  unfold z51 at h
  refine Tri.sg [0] [] (z00 1) ?_
  refine Tri.sg [0,3] [] (z00 1) ?_
  refine Tri.seqS ?_
  refine Tri.segL [0,3,12,13,14] [] ⟨[(0,cD (lD 3 z02 p0)),(3,.c (.zero)),(12,cD (lD 3 z02 p0)),(13,cD (dI (p0.length:Int))),(14,cD (dI 0))],[]⟩ _ (by kernel_rfl) (z00 3) ?_
  refine Tri.newOwn (t:=3) (k:=1003) (es:=3) (fun i=>z02 (([]:List Time).getD i default)) rfl rfl rfl ?_
  refine Tri.ln 12 p0.length fun hlena2 => ?_
  refine Tri.rK 14 ([]:List Time) (fun (x:Empty) s=>False) (fun (a2:List Time)=>⟨[(0,cD (lD 3 z02 p0)),(3,.c (oC 1003 3 a2)),(12,cD (lD 3 z02 p0)),(13,cD (dI (p0.length:Int)))],[(1003,vL 3 z02 a2)]⟩) [14,0,3,12,13] [1003] [15,14,0,3,12,13] [1003] [0,3,12,13] [1003] [14,0,3,12,13] [1003] h hlena2 ?_ ?_ ?_
  ·intro i1 a2 c hii1 h
   refine Tri.sg [0,3,5,12,13,14] [5,1003] (ai (show ((0:Int)≤((i1:Nat):Int)∧((i1:Nat):Int) < (p0.length:Int)) from ⟨by omega,by omega⟩) (z00 3)) ?_
   refine Tri.sg [0,3,5,6,12,13,14] [5,1003] (z00 1) ?_
   refine Tri.seqS ?_
   refine Tri.sg [0,3,5,6,12,13,14,18,19,20] [5,1003] (z00 3) ?_
   refine Tri.ln 18 p0.length fun hlena5 => ?_
   refine Tri.rK 20 (true) (fun (x:Empty) s=>False) (fun (a5:Bool)=>⟨[(0,cD (lD 3 z02 p0)),(3,.c (oC 1003 3 a2)),(5,.c (.ptr 5 0)),(6,cD (.bool a5)),(12,cD (lD 3 z02 p0)),(13,cD (dI (p0.length:Int))),(14,cD (dI ((i1:Nat):Int))),(18,cD (lD 3 z02 p0)),(19,cD (dI (p0.length:Int)))],[(5,.box (cTime (p0.getD i1 default))),(1003,vL 3 z02 a2)]⟩) [20,0,3,5,6,12,13,14,18,19] [5,1003] [21,20,0,3,5,6,12,13,14,18,19] [5,1003] [0,3,5,6,12,13,14,18,19] [5,1003] [20,0,3,5,6,12,13,14,18,19] [5,1003] h hlena5 ?_ ?_ ?_
   ·intro i4 a5 c hii4 h
    refine Tri.sg [0,3,5,6,8,12,13,14,18,19,20] [5,8,1003] (ai (show ((0:Int)≤((i4:Nat):Int)∧((i4:Nat):Int) < (p0.length:Int)) from ⟨by omega,by omega⟩) (z00 3)) ?_
    refine Tri.seqJ (fun (a24:Bool)=>⟨[(0,cD (lD 3 z02 p0)),(3,.c (oC 1003 3 a2)),(5,.c (.ptr 5 0)),(6,cD (.bool a5)),(12,cD (lD 3 z02 p0)),(13,cD (dI (p0.length:Int))),(14,cD (dI ((i1:Nat):Int))),(18,cD (lD 3 z02 p0)),(19,cD (dI (p0.length:Int))),(20,cD (dI ((i4:Nat):Int))),(31,cD (.bool a24))],[(5,.box (cTime (p0.getD i1 default))),(1003,vL 3 z02 a2)]⟩) h (fun a24 h => ?_) (fun j25 h => ?_)
    ·refine Tri.condK h (fun h => ?_) (fun h => ?_)
     ·refine Tri.reg ?_
      refine At.sg 1 [20,0,3,5,6,12,13,14,18,19] [5,1003] (z00 1) ?_
      refine At.done rfl ?_
      cases h
      exact kr
     ·refine Tri.kp [20,0,3,5,6,12,13,14,18,19] [5,1003] ?_
      refine Tri.skip ?_
      cases h
      exact kr
    ·refine Tri.reg ?_
     refine At.seg 2 [0,3,5,6,8,12,13,14,18,19,20,24,25] [5,8,1003] (s':=⟨[(0,cD (lD 3 z02 p0)),(3,.c (oC 1003 3 a2)),(5,.c (.ptr 5 0)),(6,cD (.bool a5)),(8,.c (.ptr 8 0)),(12,cD (lD 3 z02 p0)),(13,cD (dI (p0.length:Int))),(14,cD (dI ((i1:Nat):Int))),(18,cD (lD 3 z02 p0)),(19,cD (dI (p0.length:Int))),(20,cD (dI ((i4:Nat):Int))),(24,.agg (cTime (p0.getD i4 default))),(25,.agg (cTime (p0.getD i1 default)))],[(5,.box (cTime (p0.getD i1 default))),(8,.box (cTime (p0.getD i4 default))),(1003,vL 3 z02 a2)]⟩) (by kernel_rfl) (z00 2) ?_
     refine At.one rfl (One.eql (b:=(z0j (p0.getD i4 default) (p0.getD i1 default))) (d:=9) rfl rfl rfl (.inr rfl) rfl rfl (by kernel_rfl) rfl (by kernel_rfl)) ?_
     refine At.sg 1 [0,3,5,6,8,12,13,14,18,19,20,27] [5,8,1003] (z00 1) ?_
     refine At.cs [27] h (fun h => ?_) (fun h => ?_)
     ·refine At.sg 2 [0,3,5,6,12,13,14,18,19,20,27,28,29] [5,1003] (z00 2) ?_
      obtain ⟨r26,hr26,h⟩:=z04 h
      refine At.cA [] [.agg (cTime (p0.getD i4 default)),.agg (cTime (p0.getD i1 default))] (z8v hr26) (.cons (.refl _) (.cons (.refl _) .nil)) ?_
      refine At.sg 1 [0,3,5,6,12,13,14,18,19,20,31] [5,1003] (z00 1) ?_
      refine At.done rfl ?_
      exact ⟨_,h,kr⟩
     ·refine At.sg 4 [0,3,5,6,12,13,14,18,19,20,31] [5,1003] (z00 1) ?_
      refine At.done rfl ?_
      exact ⟨_,h,kr⟩
   ·intro a6 h
    refine Tri.seqS ?_
    refine Tri.segL [0,3,5,6,12,13,14,33,34,35] [5,1003] ⟨[(0,cD (lD 3 z02 p0)),(3,.c (oC 1003 3 a2)),(5,.c (.ptr 5 0)),(6,cD (.bool a6)),(12,cD (lD 3 z02 p0)),(13,cD (dI (p0.length:Int))),(14,cD (dI ((i1:Nat):Int))),(33,.c (oC 1003 3 a2)),(34,cD (dI (a2.length:Int))),(35,cD (dI 0))],[(5,.box (cTime (p0.getD i1 default))),(1003,vL 3 z02 a2)]⟩ _ (by kernel_rfl) (z00 3) ?_
    refine Tri.lenOfO (t:=3) rfl rfl (Nat.le_refl _) fun hlena8 => ?_
    refine Tri.rK 35 (a6) (fun (x:Empty) s=>False) (fun (a8:Bool)=>⟨[(0,cD (lD 3 z02 p0)),(3,.c (oC 1003 3 a2)),(5,.c (.ptr 5 0)),(6,cD (.bool a8)),(12,cD (lD 3 z02 p0)),(13,cD (dI (p0.length:Int))),(14,cD (dI ((i1:Nat):Int))),(33,.c (oC 1003 3 a2)),(34,cD (dI (a2.length:Int)))],[(5,.box (cTime (p0.getD i1 default))),(1003,vL 3 z02 a2)]⟩) [35,0,3,5,6,12,13,14,33,34] [5,1003] [36,35,0,3,5,6,12,13,14,33,34] [5,1003] [0,3,5,6,12,13,14,33,34] [5,1003] [35,0,3,5,6,12,13,14,33,34] [5,1003] h hlena8 ?_ ?_ ?_
    ·intro i7 a8 c hii7 h
     obtain ⟨hc23,h⟩:=z03 h
     refine Tri.sg [0,3,5,6,10,12,13,14,33,34,35] [5,10,1003] (ai (show ((0:Int)≤((i7:Nat):Int)∧((i7:Nat):Int) < (a2.length:Int)) from ⟨by omega,by omega⟩) (ai hc23 (z00 2))) ?_
     refine Tri.seqS ?_
     refine Tri.reg ?_
     refine At.seg 2 [0,3,5,6,12,13,14,33,34,35,39,40] [5,1003] (s':=⟨[(0,cD (lD 3 z02 p0)),(3,.c (oC 1003 3 a2)),(5,.c (.ptr 5 0)),(6,cD (.bool a8)),(12,cD (lD 3 z02 p0)),(13,cD (dI (p0.length:Int))),(14,cD (dI ((i1:Nat):Int))),(33,.c (oC 1003 3 a2)),(34,cD (dI (a2.length:Int))),(35,cD (dI ((i7:Nat):Int))),(39,.agg (cTime (a2.getD (0 + i7) default))),(40,.agg (cTime (p0.getD i1 default)))],[(5,.box (cTime (p0.getD i1 default))),(1003,vL 3 z02 a2)]⟩) (by kernel_rfl) (z00 2) ?_
     refine At.one rfl (One.eql (b:=(z0j (a2.getD (0 + i7) default) (p0.getD i1 default))) (d:=9) rfl rfl rfl (.inl rfl) rfl rfl (by kernel_rfl) rfl (by kernel_rfl)) ?_
     refine At.done rfl ?_
     refine Tri.condK h (fun h => ?_) (fun h => ?_)
     ·refine Tri.reg ?_
      refine At.sg 1 [35,0,3,5,6,12,13,14,33,34] [5,1003] (z00 1) ?_
      refine At.done rfl ?_
      cases h
      exact kr
     ·refine Tri.kp [35,0,3,5,6,12,13,14,33,34] [5,1003] ?_
      refine Tri.skip ?_
      cases h
      exact kr
    ·intro a9 h
     refine Tri.seqS ?_
     refine Tri.sg [0,3,5,12,13,14,44] [5,1003] (z00 2) ?_
     refine Tri.condK h (fun h => ?_) (fun h => ?_)
     ·refine Tri.kp [14,0,3,12,13] [1003] ?_
      refine Tri.exit ?_
      cases h
      exact ⟨rfl,kr⟩
     ·refine Tri.skip ?_
      refine Tri.sg [0,3,5,11,12,13,14] [5,1003] (z00 1) ?_
      refine Tri.seqS ?_
      refine Tri.lK (0) (fun (x:Empty) s=>False) (fun (a10:Int)=>⟨[(0,cD (lD 3 z02 p0)),(3,.c (oC 1003 3 a2)),(5,.c (.ptr 5 0)),(11,cD (dI a10)),(12,cD (lD 3 z02 p0)),(13,cD (dI (p0.length:Int))),(14,cD (dI ((i1:Nat):Int)))],[(5,.box (cTime (p0.getD i1 default))),(1003,vL 3 z02 a2)]⟩) [0,3,5,11,12,13,14] [5,1003] h ?_ ?_ ?_
      ·intro a10 c h
       refine Tri.eqS ⟨[(0,cD (lD 3 z02 p0)),(3,.c (oC 1003 3 a2)),(5,.c (.ptr 5 0)),(11,cD (dI a10)),(12,cD (lD 3 z02 p0)),(13,cD (dI (p0.length:Int))),(14,cD (dI ((i1:Nat):Int)))],[(5,.box (cTime (p0.getD i1 default))),(1003,vL 3 z02 a2)]⟩ kr ?_
       refine Tri.seqS ?_
       refine Tri.seqJ (fun (a17:Bool)=>⟨[(0,cD (lD 3 z02 p0)),(3,.c (oC 1003 3 a2)),(5,.c (.ptr 5 0)),(11,cD (dI a10)),(12,cD (lD 3 z02 p0)),(13,cD (dI (p0.length:Int))),(14,cD (dI ((i1:Nat):Int))),(57,cD (.bool a17))],[(5,.box (cTime (p0.getD i1 default))),(1003,vL 3 z02 a2)]⟩) h (fun a17 h => ?_) (fun j18 h => ?_)
       ·refine Tri.condK h (fun h => ?_) (fun h => ?_)
        ·refine Tri.skip ?_
         refine Tri.blockB ?_
         refine Tri.reg ?_
         refine At.sg 3 [0,3,5,11,12,13,14] [5,1003] (z00 3) ?_
         refine At.done rfl ?_
         cases h
         exact kr
        ·refine Tri.kp [0,3,5,11,12,13,14] [5,1003] ?_
         refine Tri.exit ?_
         cases h
         exact ⟨rfl,kr⟩
       ·rcases z1f h with ⟨hp19,h⟩ | ⟨hp19,h⟩
        ·obtain ⟨hc20,h⟩:=z03 h
         obtain ⟨hc21,h⟩:=z03 h
         obtain ⟨r22,hr22,h⟩:=z04 h
         refine Tri.dC [.a [11] [],.a [3] [],.a [46] [1003],.a [45,47] [],.m ⟨[(48,cD (.bool (decide (a10 < (a2.length:Int)))))],[]⟩ ⟨[(49,.c (.d (.bool true)))],[]⟩ [] [] [],.a [3,49] [],.a [11,49] [],.a [49,50,51] [1003],.a [49,52] [1003],.a [5,49] [5],.m ⟨[(49,cD (.bool true)),(53,.agg (cTime (a2.getD (0 + a10.toNat) default))),(54,.agg (cTime (p0.getD i1 default)))],[]⟩ ⟨[(55,cD (dI r22))],[]⟩ [] [] [],.a [49,55] [],.a [49,56] []] [0,3,5,11,12,13,14,57] [5,1003] (tN 6 (ai hc20 (ai hc21 (z00 3)))) (.a (.a (.a (.a (.m ?_ (.a (.a (.a (.a (.a (.m ?_ (.a (.a .z))))))))))))) ?_
         · exact DOk.stepP (fun b => .val (.c (.d (.bool b))) (True)) (p:=(decide (a10 < (a2.length:Int)))) hp19 (fun r=>by kernel_rfl) (fun r=>by kernel_rfl) trivial (by kernel_rfl) (by kernel_rfl) (fun r=>rfl)
         · exact DOk.cA [] [.agg (cTime (a2.getD (0 + a10.toNat) default)),.agg (cTime (p0.getD i1 default))] (z88 hr22) fun r=>(.cons (.refl _) (.cons (.refl _) .nil))
         exact ⟨_,h,kr⟩
        ·refine Tri.dC [.a [11] [],.a [3] [],.a [46] [1003],.a [45,47] [],.m ⟨[(48,cD (.bool (decide (a10 < (a2.length:Int)))))],[]⟩ ⟨[(49,.c (.d (.bool false)))],[]⟩ [] [] [],.a [3,49] [],.a [11,49] [],.a [49,50,51] [],.a [49,52] [],.a [5,49] [5],.a [49,53,54] [],.a [49,55] [],.a [49,56] []] [0,3,5,11,12,13,14,57] [5,1003] (z00 5) (.a (.a (.a (.a (.m ?_ (.a (.a (.a (.a (.a (.a (.a (.a .z))))))))))))) ?_
         · exact DOk.stepP (fun b => .val (.c (.d (.bool b))) (True)) (p:=(decide (a10 < (a2.length:Int)))) hp19 (fun r=>by kernel_rfl) (fun r=>by kernel_rfl) trivial (by kernel_rfl) (by kernel_rfl) (fun r=>rfl)
         exact ⟨_,h,kr⟩
      ·intro a11 h
       obtain ⟨hc12,h⟩:=z03 h
       obtain ⟨hc13,h⟩:=z03 h
       obtain ⟨hc14,h⟩:=z03 h
       obtain ⟨hc15,h⟩:=z03 h
       obtain ⟨hc16,h⟩:=z03 h
       refine Tri.afterA ⟨[(0,cD (lD 3 z02 p0)),(3,.c (oC 64 3 (((sub a2 (0:Int) a11)++([(p0.getD i1 default)]:List Time))++(sub a2 a11 (a2.length:Int))))),(12,cD (lD 3 z02 p0)),(13,cD (dI (p0.length:Int))),(14,cD (dI ((i1:Nat):Int)))],[(64,vL 3 z02 (((sub a2 (0:Int) a11)++([(p0.getD i1 default)]:List Time))++(sub a2 a11 (a2.length:Int))))]⟩ ?_ ?_
       ·refine Tri.dS ⟨[(0,cD (lD 3 z02 p0)),(3,.c (oC 64 3 (((sub a2 (0:Int) a11)++([(p0.getD i1 default)]:List Time))++(sub a2 a11 (a2.length:Int))))),(12,cD (lD 3 z02 p0)),(13,cD (dI (p0.length:Int))),(14,cD (dI ((i1:Nat):Int)))],[(64,vL 3 z02 (((sub a2 (0:Int) a11)++([(p0.getD i1 default)]:List Time))++(sub a2 a11 (a2.length:Int))))]⟩ [.m ⟨[],[]⟩ ⟨[(60,.c (.zero))],[]⟩ [] [] [],.a [3] [],.a [11] [],.a [61,62] [1003],.m ⟨[(60,.c (.zero)),(63,.c (.own 1003 3 (0 + (0:Int).toNat) (a11.toNat - (0:Int).toNat)))],[(1003,vL 3 z02 a2)]⟩ ⟨[(64,.c (oC 64 3 (sub a2 (0:Int) a11)))],[(64,vL 3 z02 (sub a2 (0:Int) a11))]⟩ [64] [] [],.a [5] [5],.m ⟨[(65,.agg (cTime (p0.getD i1 default)))],[]⟩ ⟨[(66,.c (oC 66 3 ([(p0.getD i1 default)]:List Time)))],[(66,vL 3 z02 ([(p0.getD i1 default)]:List Time))]⟩ [66] [] [],.m ⟨[(64,.c (oC 64 3 (sub a2 (0:Int) a11))),(66,.c (oC 66 3 ([(p0.getD i1 default)]:List Time)))],[(64,vL 3 z02 (sub a2 (0:Int) a11)),(66,vL 3 z02 ([(p0.getD i1 default)]:List Time))]⟩ ⟨[(67,.c (oC 64 3 ((sub a2 (0:Int) a11)++([(p0.getD i1 default)]:List Time)))),(64,.c (.any))],[(64,vL 3 z02 ((sub a2 (0:Int) a11)++([(p0.getD i1 default)]:List Time)))]⟩ [64] [64] [],.a [3] [],.a [11] [],.a [68,69] [1003],.m ⟨[(64,.c (.any)),(67,.c (oC 64 3 ((sub a2 (0:Int) a11)++([(p0.getD i1 default)]:List Time)))),(70,.c (.own 1003 3 (0 + a11.toNat) ((a2.length:Int).toNat - a11.toNat)))],[(64,vL 3 z02 ((sub a2 (0:Int) a11)++([(p0.getD i1 default)]:List Time))),(1003,vL 3 z02 a2)]⟩ ⟨[(71,.c (oC 64 3 (((sub a2 (0:Int) a11)++([(p0.getD i1 default)]:List Time))++(sub a2 a11 (a2.length:Int))))),(64,.c (.any)),(67,.c (.any))],[(64,vL 3 z02 (((sub a2 (0:Int) a11)++([(p0.getD i1 default)]:List Time))++(sub a2 a11 (a2.length:Int))))]⟩ [64] [64,67] [],.a [71] []] [0,3,12,13,14] [64] (tN 2 (ai hc12 (tN 3 (ai hc15 (z00 1))))) (.m ?_ (.a (.a (.a (.m ?_ (.a (.m ?_ (.m ?_ (.a (.a (.a (.m ?_ (.a .z))))))))))))) ?_
        · exact DOk.one fun r _=>One.build0 (e:=54) (es:=3) rfl (by kernel_rfl) rfl rfl (by kernel_rfl) rfl
        · exact DOk.one fun r hr=>One.append0 (e:=54) (es:=3) (m:=(sub a2 (0:Int) a11).length) (get:=fun i=>z02 ((sub a2 (0:Int) a11).getD i default)) rfl (by kernel_rfl) rfl rfl (St.noRef_app (by kernel_rfl) (hr 64 (by simp))) (.of 54 24 [.d (dU 0),.d (dU 0),.d (dU 0)] (by kernel_rfl) (by kernel_rfl) (by kernel_rfl) (by kernel_rfl) rfl (by kernel_rfl) rfl) rfl rfl (.subO (z02) rfl hc12.1 hc12.2.1 hc12.2.2) hc13
        · exact DOk.one fun r hr=>One.buildT (e:=54) (es:=3) (z:=[.d (dU 0),.d (dU 0),.d (dU 0)]) (cells:=[.d (dU ((p0.getD i1 default).epoch)),.d (dU ((p0.getD i1 default).loop.1)),.d (dU ((p0.getD i1 default).loop.2))]) (z02) ([(p0.getD i1 default)]:List Time) rfl (by kernel_rfl) rfl rfl (St.noRef_app (by kernel_rfl) (hr 66 (by simp))) (by kernel_rfl) rfl (by kernel_rfl) rfl rfl rfl (by kernel_rfl) rfl ⟨⟨rfl,.refl _⟩,trivial⟩
        · exact DOk.drop (k:=64) (d:=67) (v:=vL 3 z02 ((sub a2 (0:Int) a11)++([(p0.getD i1 default)]:List Time))) (av:=.c (oC 64 3 ((sub a2 (0:Int) a11)++([(p0.getD i1 default)]:List Time)))) rfl (fun r hr=>One.appendT (e:=54) (es:=3) (z02) (sub a2 (0:Int) a11) ([(p0.getD i1 default)]:List Time) rfl rfl (by kernel_rfl) rfl rfl (.of 54 24 [.d (dU 0),.d (dU 0),.d (dU 0)] (by kernel_rfl) (by kernel_rfl) (by kernel_rfl) (by kernel_rfl) rfl (by kernel_rfl) rfl) rfl rfl rfl (.own rfl (by simp) rfl (ze9 (z02) ([(p0.getD i1 default)]:List Time) _)) hc14) (by kernel_rfl) (by kernel_rfl) (by kernel_rfl) (by kernel_rfl)
        · exact DOk.drop (k:=64) (d:=71) (v:=vL 3 z02 (((sub a2 (0:Int) a11)++([(p0.getD i1 default)]:List Time))++(sub a2 a11 (a2.length:Int)))) (av:=.c (oC 64 3 (((sub a2 (0:Int) a11)++([(p0.getD i1 default)]:List Time))++(sub a2 a11 (a2.length:Int))))) rfl (fun r hr=>One.appendT (e:=54) (es:=3) (z02) ((sub a2 (0:Int) a11)++([(p0.getD i1 default)]:List Time)) (sub a2 a11 (a2.length:Int)) rfl rfl (by kernel_rfl) rfl rfl (.of 54 24 [.d (dU 0),.d (dU 0),.d (dU 0)] (by kernel_rfl) (by kernel_rfl) (by kernel_rfl) (by kernel_rfl) rfl (by kernel_rfl) rfl) rfl rfl rfl (.subO (z02) rfl hc15.1 hc15.2.1 hc15.2.2) hc16) (by kernel_rfl) (by kernel_rfl) (by kernel_rfl) (by kernel_rfl)
        exact ⟨rfl,rfl⟩
       ·refine At.keep [0,3,12,13,14] [64] (s':=⟨[(0,cD (lD 3 z02 p0)),(3,.c (oC 64 3 (((sub a2 (0:Int) a11)++([(p0.getD i1 default)]:List Time))++(sub a2 a11 (a2.length:Int))))),(12,cD (lD 3 z02 p0)),(13,cD (dI (p0.length:Int))),(14,cD (dI ((i1:Nat):Int)))],[(64,vL 3 z02 (((sub a2 (0:Int) a11)++([(p0.getD i1 default)]:List Time))++(sub a2 a11 (a2.length:Int))))]⟩) (by kernel_rfl) ?_
        refine At.rename 64 1003 ⟨[(0,cD (lD 3 z02 p0)),(3,.c (oC 1003 3 (((sub a2 (0:Int) a11)++([(p0.getD i1 default)]:List Time))++(sub a2 a11 (a2.length:Int))))),(12,cD (lD 3 z02 p0)),(13,cD (dI (p0.length:Int))),(14,cD (dI ((i1:Nat):Int)))],[(1003,vL 3 z02 (((sub a2 (0:Int) a11)++([(p0.getD i1 default)]:List Time))++(sub a2 a11 (a2.length:Int))))]⟩ (by kernel_rfl) rfl rfl rfl ?_
        refine At.keep [14,0,3,12,13] [1003] (s':=⟨[(14,cD (dI ((i1:Nat):Int))),(0,cD (lD 3 z02 p0)),(3,.c (oC 1003 3 (((sub a2 (0:Int) a11)++([(p0.getD i1 default)]:List Time))++(sub a2 a11 (a2.length:Int))))),(12,cD (lD 3 z02 p0)),(13,cD (dI (p0.length:Int)))],[(1003,vL 3 z02 (((sub a2 (0:Int) a11)++([(p0.getD i1 default)]:List Time))++(sub a2 a11 (a2.length:Int))))]⟩) (by kernel_rfl) ?_
        refine At.done rfl ?_
        cases h
        exact kr
      · exact fun x=>x.elim
    · exact fun x=>x.elim
   · exact fun x=>x.elim
  ·intro a3 h
   refine Tri.sg [2] [1003] (z00 2) ?_
   refine Tri.keep [2] [1003] (s':=⟨[(2,.c (oC 1003 3 a3))],[(1003,vL 3 z02 a3)]⟩) (by kernel_rfl) ?_
   refine Tri.le [1003] (fun k hk h=>by first | (cases h; done) | (simp at hk h; omega)) ⟨[(2,cD (lD 3 z02 a3))],[]⟩ ⟨⟨_,rfl,.c (CLe.frozen (z02) a3 rfl (by simp))⟩,trivial⟩ trivial ?_
   refine Tri.ret ?_
   cases h
   exact RetAt.k
  · exact fun x=>x.elim
theorem z9e {p0:List Time} {p1:List Time} {q:Bool} (h:z3r p0 p1=some q) :
    Summ Tryz.prog 46 [cD (lD 3 z02 p0),cD (lD 3 z02 p1)] [] (cD (.bool q)) []:=by
  refine Summ.intro Tryz.func46 rfl (by kernel_rfl) (by kernel_rfl) [] rfl ?_
  rintro ⟨P,w0,G0,V,LL,lk,N, φ0,fx⟩ rfl rfl rfl rfl
  unfold z3r at h
  refine Tri.sg [0,1] [] (z00 1) ?_
  refine Tri.seqS ?_
  refine Tri.sg [0,1,10] [] (z00 5) ?_
  refine Tri.condK h (fun h => ?_) (fun h => ?_)
  ·refine Tri.sg [4] [] (z00 1) ?_
   refine Tri.ret ?_
   cases h
   exact RetAt.k
  ·refine Tri.skip ?_
   refine Tri.seqS ?_
   refine Tri.sg [0,1,12,13] [] (z00 3) ?_
   refine Tri.ln 0 p0.length fun hlena2 => ?_
   refine Tri.rK 13 () (fun (x:Bool) s=>RetAt Tryz.prog Tryz.f46 (cD (.bool x)) [] s) (fun (a2:Unit)=>⟨[(0,cD (lD 3 z02 p0)),(1,cD (lD 3 z02 p1)),(12,cD (dI (p0.length:Int)))],[]⟩) [13,0,1,12] [] [14,13,0,1,12] [] [0,1,12] [] [13,0,1,12] [] h hlena2 ?_ ?_ ?_
   ·intro i1 a2 c hii1 h
    refine Tri.sg [0,1,5,12,13] [] (z00 2) ?_
    refine Tri.seqS ?_
    obtain ⟨hc4,h⟩:=z03 h
    refine Tri.dC [.a [0] [],.a [5] [],.a [16,17] [],.a [18] [],.a [1] [],.a [5] [],.a [20,21] [],.a [22] [],.m ⟨[(19,.agg (cTime (p0.getD i1 default))),(23,.agg (cTime (p1.getD i1 default)))],[]⟩ ⟨[(24,cD (.bool (!(z0j (p0.getD i1 default) (p1.getD i1 default)))))],[]⟩ [] [] []] [0,1,12,13,24] [] (tN 2 (ai (show ((0:Int)≤((i1:Nat):Int)∧((i1:Nat):Int) < (p0.length:Int)) from ⟨by omega,by omega⟩) (tN 3 (ai hc4 (z00 1))))) (.a (.a (.a (.a (.a (.a (.a (.a (.m ?_ .z))))))))) ?_
    · exact DOk.one fun r _=>One.eql (b:=(z0j (p0.getD i1 default) (p1.getD i1 default))) (d:=9) rfl (by kernel_rfl) rfl (.inr rfl) rfl rfl (by kernel_rfl) rfl (by kernel_rfl)
    refine Tri.condK h (fun h => ?_) (fun h => ?_)
    ·refine Tri.sg [4] [] (z00 1) ?_
     refine Tri.ret ?_
     cases h
     exact RetAt.k
    ·refine Tri.kp [13,0,1,12] [] ?_
     refine Tri.skip ?_
     cases h
     exact kr
   ·intro a3 h
    refine Tri.sg [4] [] (z00 1) ?_
    refine Tri.ret ?_
    cases h
    exact RetAt.k
   · exact fun x s hx hr=>by cases hx; exact hr
theorem zbo {fuel:Nat} {p0:List Time} {q:Bool} (h:z5o fuel p0=some q) :
  Summ Tryz.prog 81 [cD (lD 3 z02 p0)] [] (cD (.bool q)) []:=by
 refine Summ.intro Tryz.func81 rfl (by kernel_rfl) (by kernel_rfl) [] rfl ?_
 rintro ⟨P,w0,G0,V,LL,lk,N, φ0,fx⟩ rfl rfl rfl rfl
 unfold z5o at h
 refine Tri.sg [0] [] (z00 1) ?_
 refine Tri.seqS ?_
 refine Tri.reg ?_
 refine At.sg 2 [3,4] [] (z00 2) ?_
 obtain ⟨r1,hr1,h⟩:=z04 h
 refine At.cA [] [cD (lD 3 z02 p0)] (zcq hr1) (.cons (.refl _) .nil) ?_
 obtain ⟨r2,hr2,h⟩:=z04 h
 refine At.cA [] [cD (lD 3 z02 p0),cD (lD 3 z02 r1)] (z9e hr2) (.cons (.refl _) (.cons (.refl _) .nil)) ?_
 refine At.sg 1 [2] [] (z00 1) ?_
 refine At.done rfl ?_
 refine Tri.ret ?_
 cases h
 exact RetAt.k
theorem z8x {fuel:Nat} {p0:List Time} {q:Bool} (h:z44 fuel p0=some q) :
    Summ Tryz.prog 41 [cD (lD 3 z02 p0)] [] (cD (.bool q)) []:=by
  refine Summ.intro Tryz.func41 rfl (by kernel_rfl) (by kernel_rfl) [] rfl ?_
  rintro ⟨P,w0,G0,V,LL,lk,N, φ0,fx⟩ rfl rfl rfl rfl
  unfold z44 at h
  refine Tri.sg [0] [] (z00 1) ?_
  refine Tri.seqJ (fun (a1:Bool)=>⟨[(2,cD (.bool a1))],[]⟩) h (fun a1 h => ?_) (fun j2 h => ?_)
  ·refine Tri.ret ?_
   cases h
   exact RetAt.k
  ·refine Tri.reg ?_
   refine At.sg 1 [0,3] [] (z00 1) ?_
   obtain ⟨r3,hr3,h⟩:=z04 h
   refine At.cA [] [cD (lD 3 z02 p0)] (z8s hr3) (.cons (.refl _) .nil) ?_
   refine At.sg 2 [0,6] [] (z00 2) ?_
   refine At.cs [6] h (fun h => ?_) (fun h => ?_)
   ·refine At.sg 1 [6,7] [] (z00 1) ?_
    obtain ⟨r4,hr4,h⟩:=z04 h
    refine At.cA [] [cD (lD 3 z02 p0)] (zbo hr4) (.cons (.refl _) .nil) ?_
    refine At.sg 2 [2] [] (z00 2) ?_
    refine At.done rfl ?_
    exact ⟨_,h,kr⟩
   ·refine At.sg 4 [2] [] (z00 2) ?_
    refine At.done rfl ?_
    exact ⟨_,h,kr⟩
theorem zd1 {p0:Value} {q:Bool} (h:z56 p0=some q) :
    Summ Tryz.prog 120 [.agg (cValue p0)] [] (cD (.bool q)) []:=by
  refine Summ.intro Tryz.func120 rfl (by kernel_rfl) (by kernel_rfl) [] rfl ?_
  rintro ⟨P,w0,G0,V,LL,lk,N, φ0,fx⟩ rfl rfl rfl rfl
  unfold z56 at h
  refine Tri.sg [1] [1] (z00 2) ?_
  refine Tri.seqS ?_
  refine Tri.sg [1,4] [1] (z00 2) ?_
  refine Tri.condK h (fun h => ?_) (fun h => ?_)
  ·refine Tri.seqJ (fun (a1:Bool)=>⟨[(2,cD (.bool a1))],[]⟩) h (fun a1 h => ?_) (fun j2 h => ?_)
   ·refine Tri.ret ?_
    cases h
    exact RetAt.k
   ·refine Tri.reg ?_
    refine At.sg 4 [1,8] [1] (z00 4) ?_
    refine At.cs [8] h (fun h => ?_) (fun h => ?_)
    ·refine At.sg 6 [2] [] (z00 6) ?_
     refine At.done rfl ?_
     exact ⟨_,h,kr⟩
    ·refine At.sg 6 [2] [] (z00 2) ?_
     refine At.done rfl ?_
     exact ⟨_,h,kr⟩
  ·refine Tri.skip ?_
   refine Tri.sg [2] [] (z00 4) ?_
   refine Tri.ret ?_
   cases h
   exact RetAt.k
theorem zcv {p0:List Value} {q:Int} (h:z4w p0=some q) :
    Summ Tryz.prog 82 [cD (lD 3 z05 p0)] [] (cD (dI q)) []:=by
  refine Summ.intro Tryz.func82 rfl (by kernel_rfl) (by kernel_rfl) [] rfl ?_
  rintro ⟨P,w0,G0,V,LL,lk,N, φ0,fx⟩ rfl rfl rfl rfl
  unfold z4w at h
  refine Tri.sg [0] [] (z00 1) ?_
  refine Tri.seqS ?_
  refine Tri.sg [0,5,6,7] [] (z00 3) ?_
  refine Tri.ln 5 p0.length fun hlena2 => ?_
  refine Tri.rK 7 () (fun (x:Int) s=>RetAt Tryz.prog Tryz.f82 (cD (dI x)) [] s) (fun (a2:Unit)=>⟨[(0,cD (lD 3 z05 p0)),(5,cD (lD 3 z05 p0)),(6,cD (dI (p0.length:Int)))],[]⟩) [7,0,5,6] [] [8,7,0,5,6] [] [0,5,6] [] [7,0,5,6] [] h hlena2 ?_ ?_ ?_
  ·intro i1 a2 c hii1 h
   refine Tri.sg [0,4,5,6,7] [4] (ai (show ((0:Int)≤((i1:Nat):Int)∧((i1:Nat):Int) < (p0.length:Int)) from ⟨by omega,by omega⟩) (z00 3)) ?_
   refine Tri.seqS ?_
   refine Tri.reg ?_
   refine At.sg 1 [0,5,6,7,11] [] (z00 1) ?_
   obtain ⟨r4,hr4,h⟩:=z04 h
   refine At.cA [] [.agg (cValue (p0.getD i1 default))] (zd1 hr4) (.cons (.refl _) .nil) ?_
   refine At.sg 1 [0,5,6,7,13] [] (z00 1) ?_
   refine At.done rfl ?_
   refine Tri.condK h (fun h => ?_) (fun h => ?_)
   ·refine Tri.sg [2] [] (z00 1) ?_
    refine Tri.ret ?_
    cases h
    exact RetAt.k
   ·refine Tri.kp [7,0,5,6] [] ?_
    refine Tri.skip ?_
    cases h
    exact kr
  ·intro a3 h
   refine Tri.seqS ?_
   refine Tri.sg [17] [] (z00 3) ?_
   refine Tri.condK h (fun h => ?_) (fun h => ?_)
   ·refine Tri.sg [2] [] (z00 1) ?_
    refine Tri.ret ?_
    cases h
    exact RetAt.k
   ·refine Tri.skip ?_
    refine Tri.sg [2] [] (z00 1) ?_
    refine Tri.ret ?_
    cases h
    exact RetAt.k
  · exact fun x s hx hr=>by cases hx; exact hr
theorem z73 {p0:List Update} {q:Int} (h:z3i p0=some q) :
    Summ Tryz.prog 42 [cD (lD 6 z01 p0)] [] (cD (dI q)) []:=by
  refine Summ.intro Tryz.func42 rfl (by kernel_rfl) (by kernel_rfl) [] rfl ?_
  rintro ⟨P,w0,G0,V,LL,lk,N, φ0,fx⟩ rfl rfl rfl rfl
  unfold z3i at h
  refine Tri.sg [0] [] (z00 1) ?_
  refine Tri.seqS ?_
  refine Tri.sg [8,9,10] [] (z00 3) ?_
  refine Tri.ln 8 p0.length fun hlena2 => ?_
  refine Tri.rK 10 () (fun (x:Int) s=>RetAt Tryz.prog Tryz.f42 (cD (dI x)) [] s) (fun (a2:Unit)=>⟨[(8,cD (lD 6 z01 p0)),(9,cD (dI (p0.length:Int)))],[]⟩) [10,8,9] [] [11,10,8,9] [] [8,9] [] [10,8,9] [] h hlena2 ?_ ?_ ?_
  ·intro i1 a2 c hii1 h
   refine Tri.sg [4,8,9,10] [4] (ai (show ((0:Int)≤((i1:Nat):Int)∧((i1:Nat):Int) < (p0.length:Int)) from ⟨by omega,by omega⟩) (z00 3)) ?_
   refine Tri.seqS ?_
   refine Tri.seqS ?_
   refine Tri.reg ?_
   refine At.seg 4 [4,8,9,10,15,17] [4] (s':=⟨[(4,.c (.ptr 4 0)),(8,cD (lD 6 z01 p0)),(9,cD (dI (p0.length:Int))),(10,cD (dI ((i1:Nat):Int))),(15,cD (lD 3 z05 ((p0.getD i1 default).key))),(17,cD (lD 3 z05 ((p0.getD i1 default).row)))],[(4,.box (cUpdate (p0.getD i1 default)))]⟩) (by kernel_rfl) (z00 4) ?_
   refine At.one rfl (One.buildSlice (z:=[.zero]) (cells:=[.d (lD 3 z05 ((p0.getD i1 default).key)),.d (lD 3 z05 ((p0.getD i1 default).row))]) (xs:=List.map ((fun xs=>[encL 3 z05 xs])) ([(p0.getD i1 default).key,(p0.getD i1 default).row]:List (List Value))) rfl rfl rfl rfl (by kernel_rfl) rfl rfl (by kernel_rfl) rfl rfl rfl (by kernel_rfl) rfl ⟨⟨rfl,.refl _⟩,⟨rfl,.refl _⟩,trivial⟩) ?_
   refine At.le [18] (fun k hk h=>by first | (cases h; done) | (simp at hk h; omega)) ⟨[(18,cD (lD 1 (fun xs=>[encL 3 z05 xs]) ([(p0.getD i1 default).key,(p0.getD i1 default).row]:List (List Value)))),(4,.c (.ptr 4 0)),(8,cD (lD 6 z01 p0)),(9,cD (dI (p0.length:Int))),(10,cD (dI ((i1:Nat):Int))),(15,cD (lD 3 z05 ((p0.getD i1 default).key))),(17,cD (lD 3 z05 ((p0.getD i1 default).row)))],[(4,.box (cUpdate (p0.getD i1 default)))]⟩ ⟨⟨_,rfl,.c (.own rfl (List.mem_singleton.2 rfl) (Nat.le_of_ble_eq_true rfl) rfl (z1z ((fun xs=>[encL 3 z05 xs])) ([(p0.getD i1 default).key,(p0.getD i1 default).row]:List (List Value))))⟩,⟨_,rfl,.refl _⟩,⟨_,rfl,.refl _⟩,⟨_,rfl,.refl _⟩,⟨_,rfl,.refl _⟩,⟨_,rfl,.refl _⟩,⟨_,rfl,.refl _⟩,trivial⟩ ⟨⟨_,rfl,.refl _,(by simp)⟩,trivial⟩ ?_
   refine At.sg 2 [4,8,9,10,18,19,20] [4] (z00 2) ?_
   refine At.done rfl ?_
   refine Tri.ln 18 (([(p0.getD i1 default).key,(p0.getD i1 default).row]:List (List Value)).length) fun hlena5 => ?_
   refine Tri.rK 20 () (fun (x:Int) s=>RetAt Tryz.prog Tryz.f42 (cD (dI x)) [] s) (fun (a5:Unit)=>⟨[(4,.c (.ptr 4 0)),(8,cD (lD 6 z01 p0)),(9,cD (dI (p0.length:Int))),(10,cD (dI ((i1:Nat):Int))),(18,cD (lD 1 (fun xs=>[encL 3 z05 xs]) ([(p0.getD i1 default).key,(p0.getD i1 default).row]:List (List Value)))),(19,cD (dI (([(p0.getD i1 default).key,(p0.getD i1 default).row]:List (List Value)).length:Int)))],[(4,.box (cUpdate (p0.getD i1 default)))]⟩) [20,4,8,9,10,18,19] [4] [21,20,4,8,9,10,18,19] [4] [4,8,9,10,18,19] [4] [20,4,8,9,10,18,19] [4] h hlena5 ?_ ?_ ?_
   ·intro i4 a5 c hii4 h
    refine Tri.sg [4,6,8,9,10,18,19,20] [4] (ai (show ((0:Int)≤((i4:Nat):Int)∧((i4:Nat):Int) < (([(p0.getD i1 default).key,(p0.getD i1 default).row]:List (List Value)).length:Int)) from ⟨by omega,by omega⟩) (z00 2)) ?_
    refine Tri.seqS ?_
    refine Tri.reg ?_
    refine At.sg 1 [4,8,9,10,18,19,20,24] [4] (z00 1) ?_
    obtain ⟨r8,hr8,h⟩:=z04 h
    refine At.cA [] [cD (lD 3 z05 (([(p0.getD i1 default).key,(p0.getD i1 default).row]:List (List Value)).getD i4 default))] (zcv hr8) (.cons (.refl _) .nil) ?_
    refine At.sg 1 [4,8,9,10,18,19,20,26] [4] (z00 1) ?_
    refine At.done rfl ?_
    refine Tri.condK h (fun h => ?_) (fun h => ?_)
    ·refine Tri.sg [2] [] (z00 1) ?_
     refine Tri.ret ?_
     cases h
     exact RetAt.k
    ·refine Tri.kp [20,4,8,9,10,18,19] [4] ?_
     refine Tri.skip ?_
     cases h
     exact kr
   ·intro a6 h
    refine Tri.seqS ?_
    refine Tri.reg ?_
    refine At.seg 2 [8,9,10,29] [] (s':=⟨[(8,cD (lD 6 z01 p0)),(9,cD (dI (p0.length:Int))),(10,cD (dI ((i1:Nat):Int))),(29,.agg [.d (dU ((p0.getD i1 default).time.epoch)),.d (dU ((p0.getD i1 default).time.loop.1)),.d (dU ((p0.getD i1 default).time.loop.2))])],[]⟩) (by kernel_rfl) (z00 2) ?_
    refine At.one rfl (One.buildSlice (z:=[.d (dU 0),.d (dU 0),.d (dU 0)]) (cells:=[.d (dU ((p0.getD i1 default).time.epoch)),.d (dU ((p0.getD i1 default).time.loop.1)),.d (dU ((p0.getD i1 default).time.loop.2))]) (xs:=List.map (z02) ([(p0.getD i1 default).time]:List Time)) rfl rfl rfl rfl (by kernel_rfl) rfl rfl (by kernel_rfl) rfl rfl rfl (by kernel_rfl) rfl ⟨⟨rfl,.refl _⟩,trivial⟩) ?_
    refine At.le [30] (fun k hk h=>by first | (cases h; done) | (simp at hk h; omega)) ⟨[(30,cD (lD 3 z02 ([(p0.getD i1 default).time]:List Time))),(8,cD (lD 6 z01 p0)),(9,cD (dI (p0.length:Int))),(10,cD (dI ((i1:Nat):Int))),(29,.agg [.d (dU ((p0.getD i1 default).time.epoch)),.d (dU ((p0.getD i1 default).time.loop.1)),.d (dU ((p0.getD i1 default).time.loop.2))])],[]⟩ ⟨⟨_,rfl,.c (.own rfl (List.mem_singleton.2 rfl) (Nat.le_of_ble_eq_true rfl) rfl (z1z (z02) ([(p0.getD i1 default).time]:List Time)))⟩,⟨_,rfl,.refl _⟩,⟨_,rfl,.refl _⟩,⟨_,rfl,.refl _⟩,⟨_,rfl,.refl _⟩,trivial⟩ trivial ?_
    obtain ⟨r7,hr7,h⟩:=z04 h
    refine At.cA [] [cD (lD 3 z02 ([(p0.getD i1 default).time]:List Time))] (z8s hr7) (.cons (.refl _) .nil) ?_
    refine At.sg 1 [7,8,9,10] [] (z00 1) ?_
    refine At.done rfl ?_
    refine Tri.sg [7,8,9,10,33] [] (z00 2) ?_
    refine Tri.condK h (fun h => ?_) (fun h => ?_)
    ·refine Tri.sg [2] [] (z00 2) ?_
     refine Tri.ret ?_
     cases h
     exact RetAt.k
    ·refine Tri.kp [10,8,9] [] ?_
     refine Tri.skip ?_
     cases h
     exact kr
   · exact fun x s hx hr=>by cases hx; exact hr
  ·intro a3 h
   refine Tri.sg [2] [] (z00 1) ?_
   refine Tri.ret ?_
   cases h
   exact RetAt.k
  · exact fun x s hx hr=>by cases hx; exact hr
theorem ze7 {p0:List Time} {q:Time} (h:z60 p0=some q) :
    Summ Tryz.prog 122 [cD (lD 3 z02 p0)] [] (.agg (cTime q)) []:=by
  refine Summ.intro Tryz.func122 rfl (by kernel_rfl) (by kernel_rfl) [] rfl ?_
  rintro ⟨P,w0,G0,V,LL,lk,N, φ0,fx⟩ rfl rfl rfl rfl
  unfold z60 at h
  refine Tri.sg [0,2] [2] (z00 1) ?_
  refine Tri.sg [0,2,3] [2,3] (z00 3) ?_
  refine Tri.seqS ?_
  refine Tri.sg [2,3,9,10,11] [2,3] (z00 3) ?_
  refine Tri.ln 9 p0.length fun hlena2 => ?_
  refine Tri.rK 11 (⟨0,(0,0)⟩:Time) (fun (x:Empty) s=>False) (fun (a2:Time)=>⟨[(2,.c (.ptr 2 0)),(3,.c (.ptr 3 0)),(9,cD (lD 3 z02 p0)),(10,cD (dI (p0.length:Int)))],[(2,.box [.d (dU 0),.d (dU 0),.d (dU 0)]),(3,.box (cTime a2))]⟩) [11,2,3,9,10] [2,3] [12,11,2,3,9,10] [2,3] [2,3,9,10] [2,3] [11,2,3,9,10] [2,3] h hlena2 ?_ ?_ ?_
  ·intro i1 a2 c hii1 h
   refine Tri.sg [2,3,5,9,10,11] [2,3,5] (ai (show ((0:Int)≤((i1:Nat):Int)∧((i1:Nat):Int) < (p0.length:Int)) from ⟨by omega,by omega⟩) (z00 3)) ?_
   refine Tri.seqJ (fun (a4:Time)=>⟨[(2,.c (.ptr 2 0)),(3,.c (.ptr 3 0)),(5,.c (.ptr 5 0)),(9,cD (lD 3 z02 p0)),(10,cD (dI (p0.length:Int))),(11,cD (dI ((i1:Nat):Int)))],[(2,.box [.d (dU 0),.d (dU 0),.d (dU 0)]),(3,.box (cTime a4)),(5,.box (cTime (p0.getD i1 default)))]⟩) h (fun a4 h => ?_) (fun j5 h => ?_)
   ·refine Tri.sg [2,3,9,10,11,24,25] [2,3] (z00 3) ?_
    refine Tri.rK 25 (a4) (fun (x:Empty) s=>False) (fun (a7:Time)=>⟨[(2,.c (.ptr 2 0)),(3,.c (.ptr 3 0)),(9,cD (lD 3 z02 p0)),(10,cD (dI (p0.length:Int))),(11,cD (dI ((i1:Nat):Int))),(24,.agg [.d (dU ((p0.getD i1 default).loop.1)),.d (dU ((p0.getD i1 default).loop.2))])],[(2,.box [.d (dU 0),.d (dU 0),.d (dU 0)]),(3,.box (cTime a7))]⟩) [25,2,3,9,10,11,24] [2,3] [26,25,2,3,9,10,11,24] [2,3] [11,2,3,9,10] [2,3] [25,2,3,9,10,11,24] [2,3] h (by unfold maxN; omega) ?_ ?_ ?_
    ·intro i6 a7 c hii6 h
     rcases i6 with _ | i6
     ·refine Tri.sg [2,3,6,7,9,10,11,24,25] [2,3] (z00 4) ?_
      refine Tri.sg [2,3,6,7,9,10,11,24,25,34] [2,3] (z00 6) ?_
      refine Tri.condK h (fun h => ?_) (fun h => ?_)
      ·refine Tri.reg ?_
       refine At.sg 5 [25,2,3,9,10,11,24] [2,3] (z00 5) ?_
       refine At.done rfl ?_
       cases h
       exact kr
      ·refine Tri.kp [25,2,3,9,10,11,24] [2,3] ?_
       refine Tri.skip ?_
       cases h
       exact kr
     rcases i6 with _ | i6
     ·refine Tri.sg [2,3,6,7,9,10,11,24,25] [2,3] (z00 4) ?_
      refine Tri.sg [2,3,6,7,9,10,11,24,25,34] [2,3] (z00 6) ?_
      refine Tri.condK h (fun h => ?_) (fun h => ?_)
      ·refine Tri.reg ?_
       refine At.sg 5 [25,2,3,9,10,11,24] [2,3] (z00 5) ?_
       refine At.done rfl ?_
       cases h
       exact kr
      ·refine Tri.kp [25,2,3,9,10,11,24] [2,3] ?_
       refine Tri.skip ?_
       cases h
       exact kr
     exact absurd hii6 (by omega)
    ·intro a8 h
     cases h
     exact kr
    · exact fun x=>x.elim
   ·refine Tri.sg [2,3,5,9,10,11,19] [2,3,5] (z00 5) ?_
    refine Tri.condK h (fun h => ?_) (fun h => ?_)
    ·refine Tri.reg ?_
     refine At.sg 4 [2,3,5,9,10,11] [2,3,5] (z00 4) ?_
     refine At.done rfl ?_
     exact ⟨_,h,kr⟩
    ·refine Tri.kp [2,3,5,9,10,11] [2,3,5] ?_
     refine Tri.skip ?_
     exact ⟨_,h,kr⟩
  ·intro a3 h
   refine Tri.sg [2] [2] (z00 2) ?_
   refine Tri.ret ?_
   cases h
   exact RetAt.k
  · exact fun x=>x.elim
theorem zcg {p0:List Time} {q:Time} (h:z5z p0=some q) :
    Summ Tryz.prog 123 [.c (wC 3 z02 p0)] [] (.agg (cTime q)) []:=by
  refine Summ.intro Tryz.func123 rfl (by kernel_rfl) (by kernel_rfl) [] rfl ?_
  rintro ⟨P,w0,G0,V,LL,lk,N, φ0,fx⟩ rfl rfl rfl rfl
  unfold z5z at h
  refine Tri.sg [0,2] [2] (z00 1) ?_
  refine Tri.seqS ?_
  refine Tri.sg [0,2,10] [2] (z00 3) ?_
  refine Tri.condK h (fun h => ?_) (fun h => ?_)
  ·refine Tri.sg [2] [2] (z00 2) ?_
   refine Tri.ret ?_
   cases h
   exact RetAt.k
  ·refine Tri.skip ?_
   obtain ⟨hc1,h⟩:=z03 h
   refine Tri.sg [0,2,3] [2,3] (tN 1 (ai hc1 (z00 3))) ?_
   refine Tri.seqS ?_
   refine Tri.sg [2,3,15,16,17] [2,3] (z00 3) ?_
   refine Tri.ln 15 p0.length fun hlena3 => ?_
   refine Tri.rK 17 (p0.getD 0 default) (fun (x:Empty) s=>False) (fun (a3:Time)=>⟨[(2,.c (.ptr 2 0)),(3,.c (.ptr 3 0)),(15,.c (wC 3 z02 p0)),(16,cD (dI (p0.length:Int)))],[(2,.box [.d (dU 0),.d (dU 0),.d (dU 0)]),(3,.box (cTime a3))]⟩) [17,2,3,15,16] [2,3] [18,17,2,3,15,16] [2,3] [2,3,15,16] [2,3] [17,2,3,15,16] [2,3] h hlena3 ?_ ?_ ?_
   ·intro i2 a3 c hii2 h
    refine Tri.sg [2,3,5,15,16,17] [2,3,5] (ai (show ((0:Int)≤((i2:Nat):Int)∧((i2:Nat):Int) < (p0.length:Int)) from ⟨by omega,by omega⟩) (z00 3)) ?_
    refine Tri.seqJ (fun (a5:Time)=>⟨[(2,.c (.ptr 2 0)),(3,.c (.ptr 3 0)),(5,.c (.ptr 5 0)),(15,.c (wC 3 z02 p0)),(16,cD (dI (p0.length:Int))),(17,cD (dI ((i2:Nat):Int)))],[(2,.box [.d (dU 0),.d (dU 0),.d (dU 0)]),(3,.box (cTime a5)),(5,.box (cTime (p0.getD i2 default)))]⟩) h (fun a5 h => ?_) (fun j6 h => ?_)
    ·refine Tri.sg [2,3,15,16,17,30,31] [2,3] (z00 3) ?_
     refine Tri.rK 31 (a5) (fun (x:Empty) s=>False) (fun (a8:Time)=>⟨[(2,.c (.ptr 2 0)),(3,.c (.ptr 3 0)),(15,.c (wC 3 z02 p0)),(16,cD (dI (p0.length:Int))),(17,cD (dI ((i2:Nat):Int))),(30,.agg [.d (dU ((p0.getD i2 default).loop.1)),.d (dU ((p0.getD i2 default).loop.2))])],[(2,.box [.d (dU 0),.d (dU 0),.d (dU 0)]),(3,.box (cTime a8))]⟩) [31,2,3,15,16,17,30] [2,3] [32,31,2,3,15,16,17,30] [2,3] [17,2,3,15,16] [2,3] [31,2,3,15,16,17,30] [2,3] h (by unfold maxN; omega) ?_ ?_ ?_
     ·intro i7 a8 c hii7 h
      rcases i7 with _ | i7
      ·refine Tri.sg [2,3,6,7,15,16,17,30,31] [2,3] (z00 4) ?_
       refine Tri.sg [2,3,6,7,15,16,17,30,31,40] [2,3] (z00 6) ?_
       refine Tri.condK h (fun h => ?_) (fun h => ?_)
       ·refine Tri.reg ?_
        refine At.sg 5 [31,2,3,15,16,17,30] [2,3] (z00 5) ?_
        refine At.done rfl ?_
        cases h
        exact kr
       ·refine Tri.kp [31,2,3,15,16,17,30] [2,3] ?_
        refine Tri.skip ?_
        cases h
        exact kr
      rcases i7 with _ | i7
      ·refine Tri.sg [2,3,6,7,15,16,17,30,31] [2,3] (z00 4) ?_
       refine Tri.sg [2,3,6,7,15,16,17,30,31,40] [2,3] (z00 6) ?_
       refine Tri.condK h (fun h => ?_) (fun h => ?_)
       ·refine Tri.reg ?_
        refine At.sg 5 [31,2,3,15,16,17,30] [2,3] (z00 5) ?_
        refine At.done rfl ?_
        cases h
        exact kr
       ·refine Tri.kp [31,2,3,15,16,17,30] [2,3] ?_
        refine Tri.skip ?_
        cases h
        exact kr
      exact absurd hii7 (by omega)
     ·intro a9 h
      cases h
      exact kr
     · exact fun x=>x.elim
    ·refine Tri.sg [2,3,5,15,16,17,25] [2,3,5] (z00 5) ?_
     refine Tri.condK h (fun h => ?_) (fun h => ?_)
     ·refine Tri.reg ?_
      refine At.sg 4 [2,3,5,15,16,17] [2,3,5] (z00 4) ?_
      refine At.done rfl ?_
      exact ⟨_,h,kr⟩
     ·refine Tri.kp [2,3,5,15,16,17] [2,3,5] ?_
      refine Tri.skip ?_
      exact ⟨_,h,kr⟩
   ·intro a4 h
    refine Tri.sg [2] [2] (z00 2) ?_
    refine Tri.ret ?_
    cases h
    exact RetAt.k
   · exact fun x=>x.elim
theorem z87 {p0:Time} {p1:List Time} {q:Time} (h:z3o p0 p1=some q) :
    Summ Tryz.prog 86 [.agg (cTime p0),cD (lD 3 z02 p1)] [] (.agg (cTime q)) []:=by
  refine Summ.intro Tryz.func86 rfl (by kernel_rfl) (by kernel_rfl) [] rfl ?_
  rintro ⟨P,w0,G0,V,LL,lk,N, φ0,fx⟩ rfl rfl rfl rfl
  unfold z3o at h
  refine Tri.sg [1,2,4] [2,4] (z00 2) ?_
  refine Tri.seqS ?_
  refine Tri.sg [1,2,4,10] [2,4] (z00 3) ?_
  refine Tri.condK h (fun h => ?_) (fun h => ?_)
  ·refine Tri.sg [4] [4] (z00 2) ?_
   refine Tri.ret ?_
   cases h
   exact RetAt.k
  ·refine Tri.skip ?_
   refine Tri.sg [1,2,4,5] [2,4] (z00 1) ?_
   refine Tri.seqS ?_
   refine Tri.segL [2,4,5,12,13,14] [2,4] ⟨[(2,.c (.ptr 2 0)),(4,.c (.ptr 4 0)),(5,.c (.zero)),(12,cD (lD 3 z02 p1)),(13,cD (dI (p1.length:Int))),(14,cD (dI 0))],[(2,.box (cTime p0)),(4,.box [.d (dU 0),.d (dU 0),.d (dU 0)])]⟩ _ (by kernel_rfl) (z00 3) ?_
   refine Tri.ln 12 p1.length fun hlena2 => ?_
   refine Tri.newOwn (t:=5) (k:=1005) (es:=3) (fun i=>z02 (([]:List Time).getD i default)) rfl rfl rfl ?_
   refine Tri.rK 14 ([]:List Time) (fun (x:Empty) s=>False) (fun (a2:List Time)=>⟨[(2,.c (.ptr 2 0)),(4,.c (.ptr 4 0)),(5,.c (oC 1005 3 a2)),(12,cD (lD 3 z02 p1)),(13,cD (dI (p1.length:Int)))],[(2,.box (cTime p0)),(4,.box [.d (dU 0),.d (dU 0),.d (dU 0)]),(1005,vL 3 z02 a2)]⟩) [14,2,4,5,12,13] [2,4,1005] [15,14,2,4,5,12,13] [2,4,1005] [2,4,5,12,13] [2,4,1005] [14,2,4,5,12,13] [2,4,1005] h hlena2 ?_ ?_ ?_
   ·intro i1 a2 c hii1 h
    refine Tri.sg [2,4,5,7,12,13,14] [2,4,7,1005] (ai (show ((0:Int)≤((i1:Nat):Int)∧((i1:Nat):Int) < (p1.length:Int)) from ⟨by omega,by omega⟩) (z00 3)) ?_
    refine Tri.reg ?_
    refine At.seg 3 [2,4,12,13,14,18,19,20] [2,4,1005] (s':=⟨[(2,.c (.ptr 2 0)),(4,.c (.ptr 4 0)),(12,cD (lD 3 z02 p1)),(13,cD (dI (p1.length:Int))),(14,cD (dI ((i1:Nat):Int))),(18,.c (oC 1005 3 a2)),(19,.agg (cTime p0)),(20,.agg (cTime (p1.getD i1 default)))],[(2,.box (cTime p0)),(4,.box [.d (dU 0),.d (dU 0),.d (dU 0)]),(1005,vL 3 z02 a2)]⟩) (by kernel_rfl) (z00 3) ?_
    refine At.one rfl (One.buildSlice (z:=[.d (dU 0),.d (dU 0),.d (dU 0)]) (cells:=[.d (dU p0.epoch),.d (dU p0.loop.1),.d (dU p0.loop.2),.d (dU ((p1.getD i1 default).epoch)),.d (dU ((p1.getD i1 default).loop.1)),.d (dU ((p1.getD i1 default).loop.2))]) (xs:=List.map (z02) ([p0,(p1.getD i1 default)]:List Time)) rfl rfl rfl rfl (by kernel_rfl) rfl rfl (by kernel_rfl) rfl rfl rfl (by kernel_rfl) rfl ⟨⟨rfl,.refl _⟩,⟨rfl,.refl _⟩,trivial⟩) ?_
    refine At.le [21] (fun k hk h=>by first | (cases h; done) | (simp at hk h; omega)) ⟨[(21,cD (lD 3 z02 ([p0,(p1.getD i1 default)]:List Time))),(2,.c (.ptr 2 0)),(4,.c (.ptr 4 0)),(12,cD (lD 3 z02 p1)),(13,cD (dI (p1.length:Int))),(14,cD (dI ((i1:Nat):Int))),(18,.c (oC 1005 3 a2)),(19,.agg (cTime p0)),(20,.agg (cTime (p1.getD i1 default)))],[(2,.box (cTime p0)),(4,.box [.d (dU 0),.d (dU 0),.d (dU 0)]),(1005,vL 3 z02 a2)]⟩ ⟨⟨_,rfl,.c (.own rfl (List.mem_singleton.2 rfl) (Nat.le_of_ble_eq_true rfl) rfl (z1z (z02) ([p0,(p1.getD i1 default)]:List Time)))⟩,⟨_,rfl,.refl _⟩,⟨_,rfl,.refl _⟩,⟨_,rfl,.refl _⟩,⟨_,rfl,.refl _⟩,⟨_,rfl,.refl _⟩,⟨_,rfl,.refl _⟩,⟨_,rfl,.refl _⟩,⟨_,rfl,.refl _⟩,trivial⟩ ⟨⟨_,rfl,.refl _,(by simp)⟩,⟨_,rfl,.refl _,(by simp)⟩,⟨_,rfl,.refl _,(by simp)⟩,trivial⟩ ?_
    obtain ⟨r5,hr5,h⟩:=z04 h
    refine At.cA [] [cD (lD 3 z02 ([p0,(p1.getD i1 default)]:List Time))] (ze7 hr5) (.cons (.refl _) .nil) ?_
    refine At.one rfl (One.buildSlice (z:=[.d (dU 0),.d (dU 0),.d (dU 0)]) (cells:=[.d (dU r5.epoch),.d (dU r5.loop.1),.d (dU r5.loop.2)]) (xs:=List.map (z02) ([r5]:List Time)) rfl rfl rfl rfl (by kernel_rfl) rfl rfl (by kernel_rfl) rfl rfl rfl (by kernel_rfl) rfl ⟨⟨rfl,.refl _⟩,trivial⟩) ?_
    refine At.le [23] (fun k hk h=>by first | (cases h; done) | (simp at hk h; omega)) ⟨[(23,cD (lD 3 z02 ([r5]:List Time))),(2,.c (.ptr 2 0)),(4,.c (.ptr 4 0)),(12,cD (lD 3 z02 p1)),(13,cD (dI (p1.length:Int))),(14,cD (dI ((i1:Nat):Int))),(18,.c (oC 1005 3 a2)),(22,.agg (cTime r5))],[(2,.box (cTime p0)),(4,.box [.d (dU 0),.d (dU 0),.d (dU 0)]),(1005,vL 3 z02 a2)]⟩ ⟨⟨_,rfl,.c (.own rfl (List.mem_singleton.2 rfl) (Nat.le_of_ble_eq_true rfl) rfl (z1z (z02) ([r5]:List Time)))⟩,⟨_,rfl,.refl _⟩,⟨_,rfl,.refl _⟩,⟨_,rfl,.refl _⟩,⟨_,rfl,.refl _⟩,⟨_,rfl,.refl _⟩,⟨_,rfl,.refl _⟩,⟨_,rfl,.refl _⟩,trivial⟩ ⟨⟨_,rfl,.refl _,(by simp)⟩,⟨_,rfl,.refl _,(by simp)⟩,⟨_,rfl,.refl _,(by simp)⟩,trivial⟩ ?_
    obtain ⟨hc6,h⟩:=z03 h
    refine At.one rfl (One.appendT (e:=54) (es:=3) (z02) a2 ([r5]:List Time) rfl rfl rfl rfl rfl (.of 54 24 [.d (dU 0),.d (dU 0),.d (dU 0)] (by kernel_rfl) (by kernel_rfl) (by kernel_rfl) (by kernel_rfl) rfl (by kernel_rfl) rfl) rfl rfl rfl (.list rfl (fun _ _=>rfl)) hc6) ?_
    refine At.sg 1 [14,2,4,5,12,13] [2,4,1005] (z00 1) ?_
    refine At.done rfl ?_
    cases h
    exact kr
   ·intro a3 h
    refine Tri.seqS ?_
    refine Tri.reg ?_
    refine At.seg 1 [4,26] [4,1005] (s':=⟨[(4,.c (.ptr 4 0)),(26,.c (oC 1005 3 a3))],[(4,.box [.d (dU 0),.d (dU 0),.d (dU 0)]),(1005,vL 3 z02 a3)]⟩) (by kernel_rfl) (z00 1) ?_
    obtain ⟨r4,hr4,h⟩:=z04 h
    refine At.cA [] [.c (oC 1005 3 a3)] (zcg hr4) (.cons (AVArg.view (z02) a3 rfl) .nil) ?_
    refine At.sg 1 [4] [4] (z00 1) ?_
    refine At.done rfl ?_
    refine Tri.ret ?_
    cases h
    exact RetAt.k
   · exact fun x=>x.elim
end Go.Av
